/- Lemmas: SxTy, SxOut, SxFn, SxFnR, SxLoop, SxWrap, SxDen, SxCut, Hd, SxSpec, SxAuto, Lb, SxRange, D0, D2, SxFrz, E1, F0, F1, F2, F3, H0, Hp, L1, L2, L3, L4, L5, L6. -/
import Derived.ProofKit
import Derived.Carry
import Derived.OpenShut
import Derived.Deep.DeepHandedRow
import Derived.JoinedOf
import Derived.Test.YthhcofcdkdknoaaGreatDoorRows
import Derived.LaidMore
import Derived.Stop.Joined
import Derived.Lib.Bytealg
import Derived.Maps.RangeRun
import Derived.Test.YthhcofcdkdknoaaGreatDoorProg
import Derived.Lib.Walk
import Derived.WalkKit
import Derived.Laws.Externs
import Derived.Test.YthhcofcdkdknoaaGreatDoorPB
open Go.Proofs.Tryz
open Go.IntKind (i64 u64 u8)
open Array (getD_eq_getD_getElem? length_toList toList_inj)
open Bool (and_eq_true cond_eq_ite not_eq_true')
open ByteArray (empty ext)
open Int (toNat_natCast)
open List (all_cons all_eq_true append_assoc append_nil cons_append getElem?_append_left getElem?_append_right getElem?_eq_getElem getElem?_eq_none getElem?_map getElem?_set getElem?_take getElem_mem length_append length_cons length_drop length_map length_nil length_set length_take map_append map_cons map_nil mem_append mem_append_right mem_cons mem_cons_of_mem mem_cons_self mem_map mem_range mem_singleton nil_append nodup_append range' replicate sum_cons take_of_length_le)
open Nat (add_assoc add_mul add_zero beq_eq le_of_ble_eq_true le_refl le_trans lt_or_ge zero_le)
open Option (bind_eq_some_iff getD_some isSome_iff_exists map_eq_some_iff map_some)
namespace Go.Sx
open Go
inductive RK where
 |ah (k:IntKind)|strs|bG|au (cs:List CK)
abbrev RK.E:RK->Type
 |.ah _=>Int|.strs=>ByteArray|.bG=>Bool|.au cs=>CL cs
abbrev RK.V(r:RK):Type:=List r.E
def RK.wy:(r:RK)->r.V->aV
 |.ah k,x=>.ah k x|.strs,x=>.strs x|.bG,x=>.bG x|.au cs,x=>.au cs x
def ago(k:IntKind):aV->Option (List Int)
 |.ah k' zs=>bif bU k' k then some zs else none|.fh _ 0 _=>some []|_=>none
def agp:aV->Option (List ByteArray)
 |.strs x=>some x|.fh _ 0 _=>some []|_=>none
def abW:aV->Option (List Bool)
 |.bG x=>some x|.fh _ 0 _=>some []|_=>none
def al6(cs:List CK):aV->Option (List (CL cs))
 |.au kc x=>(CL.eq kc cs).map λh=>acQ h x|.fh _ 0 _=>some []|_=>none
def RK.rd:(r:RK)->aV->Option r.V
 |.ah k,c=>ago k c|.strs,c=>agp c|.bG,c=>abW c|.au cs,c=>al6 cs c
def CK.flat:CK->Bool
 |.int _|.bool|.str|.arr _ _=>true|_=>false
def RK.flat:RK->Bool
 |.au cs=>cs.all CK.flat|_=>true
inductive B where
 |int (k:IntKind)|bool|str|row (r:RK) (e:TypeId)|arr (k:IntKind) (n:Nat)|fn|mN (r:RK) (e:TypeId)
abbrev B.V:B->Type
 |.int _=>Int|.bool=>Bool|.str=>ByteArray|.row r _=>r.V|.arr _ _=>List Int|.fn=>FuncId|.mN r _=>r.V
def B.av:(b:B)->b.V->AV
 |.int k,n=>.s (.int k n)|.bool,x=>.s (.bool x)|.str,x=>.s (.str x)|.row r _,x=>.s (.ro (r.wy x))|.arr k n,x=>.ah k n x|.fn,f=>.s (.rK f)|.mN r _,x=>.s (.ro (r.wy x))
def xU(k:IntKind):List AV->Option (List Int)
 |[]=>some []|.s (.int k' n)::aQ=>bif bU k' k then(xU k aQ).map (n:: ·)else none|_=>none
def al7(k:IntKind):AV->Option Int
 |.s (.int k' n)=>bif bU k' k then some n else none|_=>none
def agq:AV->Option Bool
 |.s (.bool x)=>some x|_=>none
def al8:AV->Option ByteArray
 |.s (.str x)=>some x|_=>none
def aay(r:RK):AV->Option r.V
 |.emp=>some []|.s (.ro c)=>r.rd c|_=>none
def adB(k:IntKind)(n:Nat):AV->Option (List Int)
 |.ah k' n' ws=>bif bU k' k&&n'.beq n then some ws else none|.agg az=>bif az.length.beq n then xU k az else none|_=>none
def aur:AV->Option FuncId
 |.s (.rK f)=>some f|_=>none
def B.rd:(b:B)->AV->Option b.V
 |.int k,a=>al7 k a|.bool,a=>agq a|.str,a=>al8 a|.row r _,a=>aay r a|.arr k n,a=>adB k n a|.fn,a=>aur a|.mN r _,a=>aay r a
def B.ok:(b:B)->b.V->Prop
 |.row _ _,x=>x.length<=maxLen|.mN _ _,x=>x.length<=maxLen|.arr _ n,x=>List.length (α:=Int) x=n|_,_=>True
inductive Ty where
 |b (x:B)|st (bs:List B)
abbrev BL:List B->Type
 |[]=>Unit|b::bs=>b.V×BL bs
abbrev Ty.V:Ty->Type
 |.b x=>x.V|.st bs=>BL bs
abbrev AL:List Ty->Type
 |[]=>Unit|t::ts=>t.V×AL ts
def BL.av:(bs:List B)->BL bs->List AV
 |[],_=>[]|b::bs,(x,y)=>b.av x::BL.av bs y
def BL.rd:(bs:List B)->List AV->Option (BL bs)
 |[],[]=>some ()|b::bs,a::aQ=>match b.rd a,BL.rd bs aQ with
  |some x,some y=>some (x,y)|_,_=>none
 |_,_=>none
def BL.ok:(bs:List B)->BL bs->Prop
 |[],_=>True|b::bs,(x,y)=>b.ok x/\BL.ok bs y
def Ty.av:(t:Ty)->t.V->AV
 |.b x,v=>x.av v|.st bs,v=>.agg (BL.av bs v)
def aus(bs:List B):AV->Option (BL bs)
 |.agg az=>BL.rd bs az|_=>none
def Ty.rd:(t:Ty)->AV->Option t.V
 |.b x,a=>x.rd a|.st bs,a=>aus bs a
def Ty.ok:(t:Ty)->t.V->Prop
 |.b x,v=>x.ok v|.st bs,v=>BL.ok bs v
def AL.av:(ts:List Ty)->AL ts->List AV
 |[],_=>[]|t::ts,(x,y)=>t.av x::AL.av ts y
def AL.rd:(ts:List Ty)->List AV->Option (AL ts)
 |[],[]=>some ()|t::ts,a::aQ=>match t.rd a,AL.rd ts aQ with
  |some x,some y=>some (x,y)|_,_=>none
 |_,_=>none
def AL.ok:(ts:List Ty)->AL ts->Prop
 |[],_=>True|t::ts,(x,y)=>t.ok x/\AL.ok ts y
section
variable{g:Nat->Option Nat}{ρ aN:Nat->Value}{H H':aT}{G O O':Nat->Prop}{w w':World}{P:Program}{S:fI}{Z:bm}{X:Ctx}{s:St}{a:Act}{K:List ak->AV->Prop}{C:bP->Prop}
theorem nw{c c':aV}{v:Value}(hn:c'.n=c.n)(hs:c'.size=c.size)(hc:∀i j,i<c.n->j<c.size->c'.cell i j=c.cell i j)(h:aX O w (.ro c) v):aX O w (.ro c') v:=by
 cases h with
 |ro _ a cap us b o h1 h2 h3 h4 h5=>
  rw[<-hn];refine .ro c' a cap us b o (by omega) h2 (λh=>h3 (by omega)) (λi j hi hj=> ?_) (λi j hi hj=> ?_);rw[hs];exact h4 i j (by omega) (by omega);rw[hc i j (by omega) (by omega)];exact h5 i j (by omega) (by omega)
theorem RK.pd{r:RK}{c:aV}{x:r.V}(h:r.rd c=some x){v:Value}(hd:aX O w (.ro c) v):aX O w (.ro (r.wy x)) v:=by
 cases r
 case ah k=>
  change ago k c=some x at h;unfold ago at h;split at h;rw[cond_eq_ite]at h;split at h;rename_i hk;obtain rfl:=bu hk;simp only[Option.some.injEq]at h;subst h;exact hd;cases h;cases h;exact fX (by rfl) (by rfl) hd;cases h
 case au cs=>
  change al6 cs c=some x at h;unfold al6 at h;split at h;have⟨⟨e⟩,_,h2⟩:=map_eq_some_iff.1 h;subst e;rw[aad]at h2;subst h2;exact hd;cases h;exact fX (by rfl) (by rfl) hd;cases h
 case strs=>change agp c=some x at h;unfold agp at h;split at h<;>cases h;exact hd;exact fX (by rfl) (by rfl) hd
 case bG=>change abW c=some x at h;unfold abW at h;split at h<;>cases h;exact hd;exact fX (by rfl) (by rfl) hd
theorem ahQ{r:RK}{v:Value}(h:∃a,v=.slice a 0 0):aX O w (.ro (r.wy [])) v:=by
 obtain⟨a,rfl⟩:=h;have hn:(r.wy []).n=0:=by cases r<;>rfl
 have:=aX.ro (O:=O) (w:=w) (r.wy []) a 0 (λ_ _=>undef) 0 0 (by omega) (zero_le _) (λh=>by omega) (λi j hi hj=>by omega) (λi j hi hj=>by omega);rwa[hn]at this
theorem aaz{k:IntKind}:∀{aQ:List AV} {zs:List Int} {cs:List Value},xU k aQ=some zs->aA ρ H O w aQ cs->zs.length=aQ.length/\cs=zs.map (Value.int k)
 |[],zs,cs,h,hd=>by simp only[xU,Option.some.injEq]at h;subst h;exact⟨rfl,aD.1 hd⟩
 |a::aQ,zs,cs,h,hd=>by
  unfold xU at h;split at h;rename_i heq;cases heq;rename_i k' n dN heq;simp only[List.cons.injEq]at heq;obtain⟨rfl,rfl⟩:=heq;rw[cond_eq_ite]at h;split at h;rename_i hk;obtain rfl:=bu hk;simp only[map_eq_some_iff]at h;obtain⟨zs',h1,rfl⟩:=h;obtain⟨c1,c2,rfl,h2,h3⟩:=ag.1 hd;obtain⟨h4,rfl⟩:=aaz h1 h3;unfold aR at h2;obtain⟨u,rfl,h5⟩:=h2;cases h5;exact⟨by simp[h4],rfl⟩;cases h;cases h
theorem adC{k:IntKind}{a:AV}{n:Int}(h:al7 k a=some n):a=.s (.int k n):=by
 unfold al7 at h;split at h;rw[cond_eq_ite]at h;split at h;rename_i hk;obtain rfl:=bu hk;cases h;rfl;cases h;cases h
theorem aaA{a:AV}{x:Bool}(h:agq a=some x):a=.s (.bool x):=by
 unfold agq at h;split at h<;>cases h;rfl
theorem adD{a:AV}{x:ByteArray}(h:al8 a=some x):a=.s (.str x):=by
 unfold al8 at h;split at h<;>cases h;rfl
theorem ahR{a:AV}{x:FuncId}(h:aur a=some x):a=.s (.rK x):=by
 unfold aur at h;split at h<;>cases h;rfl
theorem ahS{r:RK}{a:AV}{x:r.V}{v:Value}(h:aay r a=some x)(hd:af ρ H O w a v):af aN H' O w (.s (.ro (r.wy x))) v:=by
 unfold aay at h;split at h;cases h;unfold af at hd;exact aF (ahQ hd);exact aF (RK.pd h (ay (by simp) hd));cases h
theorem ahT{r:RK}{a:AV}{x:r.V}{cs:List Value}(h:aay r a=some x)(hd:aR ρ H O w a cs):aR aN H' O w (.s (.ro (r.wy x))) cs:=by
 unfold aay at h;split at h;cases h;unfold aR at *;obtain⟨u,rfl,h1⟩:=hd;exact⟨u,rfl,ahQ h1⟩;unfold aR at *;obtain⟨u,rfl,h1⟩:=hd;exact⟨u,rfl,RK.pd h h1⟩;cases h
theorem B.rdV{b:B}{a:AV}{x:b.V}{v:Value}(h:b.rd a=some x)(hd:af ρ H O w a v):af aN H' O w (b.av x) v:=by
 cases b with
 |int k=>rw[adC h]at hd;exact aF (ay (by simp) hd)
 |bool=>rw[aaA h]at hd;exact aF (ay (by simp) hd)
 |str=>rw[adD h]at hd;exact aF (ay (by simp) hd)
 |fn=>rw[ahR h]at hd;exact aF (ay (by simp) hd)
 |row r e=>exact ahS h hd|mN r e=>exact ahS h hd|arr k n=>
  change adB k n a=some x at h;unfold adB at h;split at h;rw[cond_eq_ite]at h;split at h;rename_i hk;simp only[and_eq_true]at hk;obtain rfl:=bu hk.1;obtain rfl:=Nat.eq_of_beq_eq_true hk.2;cases h;unfold af at *;exact hd;cases h;rw[cond_eq_ite]at h;split at h;rename_i az hk;unfold af at hd;obtain⟨cs,rfl,h2⟩:=hd;obtain⟨h3,rfl⟩:=aaz h h2;show af aN H' O w (.ah k n x) _;unfold af;exact⟨by rw[h3];exact Nat.eq_of_beq_eq_true hk,rfl⟩;cases h;cases h
theorem B.rdC{b:B}{a:AV}{x:b.V}{cs:List Value}(h:b.rd a=some x)(hd:aR ρ H O w a cs):aR aN H' O w (b.av x) cs:=by
 cases b with
 |int k=>rw[adC h]at hd;unfold aR at hd;show aR _ _ _ _ (.s (.int k x)) _;unfold aR;exact hd|bool=>rw[aaA h]at hd;unfold aR at hd;show aR _ _ _ _ (.s (.bool x)) _;unfold aR;exact hd|str=>rw[adD h]at hd;unfold aR at hd;show aR _ _ _ _ (.s (.str x)) _;unfold aR;exact hd|fn=>rw[ahR h]at hd;unfold aR at hd;show aR _ _ _ _ (.s (.rK x)) _;unfold aR;exact hd|row r e=>exact ahT h hd|mN r e=>exact ahT h hd|arr k n=>
  change adB k n a=some x at h;unfold adB at h;split at h;rw[cond_eq_ite]at h;split at h;rename_i hk;simp only[and_eq_true]at hk;obtain rfl:=bu hk.1;obtain rfl:=Nat.eq_of_beq_eq_true hk.2;cases h;show aR _ _ _ _ (.ah _ _ _) _;unfold aR at *;exact hd;cases h;unfold aR at hd;exact hd.elim;cases h
theorem BL.pd:∀{bs:List B} {az:List AV} {x:BL bs} {cs:List Value},BL.rd bs az=some x->aA ρ H O w az cs->aA aN H' O w (BL.av bs x) cs
 |[],[],x,cs,h,hd=>by rw[aD.1 hd];exact aD.2 rfl
 |[],a::aQ,x,cs,h,hd=>by simp[BL.rd]at h
 |b::bs,[],x,cs,h,hd=>by simp[BL.rd]at h
 |b::bs,a::aQ,x,cs,h,hd=>by
  unfold BL.rd at h;split at h;rename_i y z h1 h2;cases h;obtain⟨c1,c2,rfl,h3,h4⟩:=ag.1 hd;exact ag.2 ⟨c1,c2,rfl,B.rdC h1 h3,BL.pd h2 h4⟩;cases h
theorem Ty.pd{t:Ty}{a:AV}{x:t.V}{v:Value}(h:t.rd a=some x)(hd:af ρ H O w a v):af aN H' O w (t.av x) v:=by
 cases t with
 |b y=>exact B.rdV h hd|st bs=>
  change aus bs a=some x at h;unfold aus at h;split at h;show af _ _ _ _ (.agg _) _;unfold af at *;have⟨cs,h1,h2⟩:=hd;exact⟨cs,h1,BL.pd h h2⟩;cases h
theorem AL.pd:∀{ts:List Ty} {aQ:List AV} {x:AL ts} {vs:List Value},AL.rd ts aQ=some x->bM ρ H O w aQ vs->bM aN H' O w (AL.av ts x) vs
 |[],[],x,vs,h,hd=>by rw[ba.1 hd];exact ba.2 rfl
 |[],a::aQ,x,vs,h,hd=>by simp[AL.rd]at h
 |t::ts,[],x,vs,h,hd=>by simp[AL.rd]at h
 |t::ts,a::aQ,x,vs,h,hd=>by
  unfold AL.rd at h;split at h;rename_i y z h1 h2;cases h;obtain⟨v,rest,rfl,h3,h4⟩:=aE.1 hd;exact aE.2 ⟨v,rest,rfl,Ty.pd h1 h3,AL.pd h2 h4⟩;cases h
theorem wz{r:RK}{x:r.V}{v:Value}(h:aX O w (.ro (r.wy x)) v):List.length x<=maxLen:=by
 generalize hc:r.wy x=c at h;cases h with
 |ro _ a cap us bb o h1 h2 _ _ _=>
  have:(r.wy x).n=x.length:=by cases r<;>rfl
  rw[<-hc]at h1;omega
theorem B.okV{b:B}{x:b.V}{v:Value}(hd:af ρ H O w (b.av x) v):b.ok x:=by
 cases b with
 |row r e=>exact wz (ay (by simp) hd)
 |mN r e=>exact wz (ay (by simp) hd)
 |arr k n=>change af ρ H O w (.ah k n x) v at hd;unfold af at hd;exact hd.1|_=>trivial
theorem B.vG{b:B}{x:b.V}{cs:List Value}(hd:aR ρ H O w (b.av x) cs):b.ok x:=by
 cases b with
 |row r e=>
  change aR ρ H O w (.s (.ro (r.wy x))) cs at hd;unfold aR at hd;have⟨u,_,h⟩:=hd;exact wz h
 |mN r e=>
  change aR ρ H O w (.s (.ro (r.wy x))) cs at hd;unfold aR at hd;have⟨u,_,h⟩:=hd;exact wz h
 |arr k n=>change aR ρ H O w (.ah k n x) cs at hd;unfold aR at hd;exact hd.1|_=>trivial
theorem BL.okS:∀{bs:List B} {x:BL bs} {cs:List Value},aA ρ H O w (BL.av bs x) cs->BL.ok bs x
 |[],x,cs,h=>trivial|b::bs,(x,y),cs,h=>by
  obtain⟨c1,c2,rfl,h3,h4⟩:=ag.1 h;exact⟨B.vG h3,BL.okS h4⟩
theorem Ty.okV{t:Ty}{x:t.V}{v:Value}(hd:af ρ H O w (t.av x) v):t.ok x:=by
 cases t with
 |b y=>exact B.okV hd|st bs=>
  change af ρ H O w (.agg (BL.av bs x)) v at hd;unfold af at hd;have⟨cs,_,h⟩:=hd;exact BL.okS h
theorem AL.okL:∀{ts:List Ty} {x:AL ts} {vs:List Value},bM ρ H O w (AL.av ts x) vs->AL.ok ts x
 |[],x,vs,h=>trivial|t::ts,(x,y),vs,h=>by
  obtain⟨v,rest,rfl,h3,h4⟩:=aE.1 h;exact⟨Ty.okV h3,AL.okL h4⟩
end
def nx(ces:List (Bool×aV×TypeId))(L:List ak)(a:AV):AV×List ak×List (Bool×aV×TypeId):=
 match a with
 |.emp=>match ces with
  |(ro,c,e)::r=>bif c.n.beq 0 then(bif ro then(.s (.ro c),L,r)else(.vec L.length,L++[.vec c e],r))else(.emp,L,r)|[]=>(.emp,L,[])
 |.vec id=>match ces with
  |(true,_,_)::r=>(match L[id]? with
   |some (.vec c _)=>(.s (.ro c),L.set id .ax,r)|_=>(.vec id,L,r))
  |_=>(.vec id,L,ces.tail)
 |.s (.ro c)=>(.s (.ro c),L,ces.tail)|.part id lo n=>(match L[id]? with
  |some (.vec c e)=>(.vec L.length,L.set id .ax++[.vec (dT c lo (lo+n)) e],ces.tail)|_=>(.part id lo n,L,ces.tail))
 |a=>(a,L,ces)
def uv(f:List (Bool×aV×TypeId)->List ak->AV->AV×List ak×List (Bool×aV×TypeId)):List (Bool×aV×TypeId)->List ak->List AV->List AV×List ak×List (Bool×aV×TypeId)
 |ces,L,[]=>([],L,ces)|ces,L,a::aQ=>let p:=f ces L a;let q:=uv f p.2.2 p.2.1 aQ;(p.1::q.1,q.2.1,q.2.2)
def sn(ces:List (Bool×aV×TypeId))(L:List ak)(a:AV):AV×List ak×List (Bool×aV×TypeId):=
 match a with
 |.agg az=>let q:=uv nx ces L az;(.agg q.1,q.2.1,q.2.2)|a=>nx ces L a
def agr(ces:List (Bool×aV×TypeId))(L:List ak)(a:AV):AV×List ak:=
 match a with
 |.bt vs=>let q:=uv sn ces L vs;(.bt q.1,q.2.1)|a=>let q:=sn ces L a;(q.1,q.2.1)
def apX(ces:List (Bool×aV×TypeId))(L:List ak)(r:AV):Option (List ak×AV):=
 let p:=agr ces L r;let σ:=reach p.2 4000 (ahO 20 p.1) []
 bif ur σ then
  match se σ p.2,rn (idx σ) 20 p.1 with
  |some L',some r'=>some (L',r')|_,_=>none
 else none
section
variable{g:Nat->Option Nat}{ρ aN:Nat->Value}{H H':aT}{G O O':Nat->Prop}{w w':World}{P:Program}{S:fI}{Z:bm}{X:Ctx}{s:St}{a:Act}{K:List ak->AV->Prop}{C:bP->Prop}{L:List ak}
abbrev lk(L:List ak):aT:=λi=>L[i]?
abbrev stp(ρ:Nat->Value)(L:List ak)(G:Nat->Prop)(w:World)(aN:Nat->Value)(L':List ak):Prop:=Step ρ (lk L) (aW ρ (lk L) G) w aN (lk L') (aW aN (lk L') G) w
theorem ext1(hs:Sat ρ (lk L) G w){c:aV}(hc:c.n=0)(e:TypeId)(r:Option Addr):∃aN,Sat aN (lk (L++[.vec c e])) G w/\stp ρ L G w aN (L++[.vec c e])/\∀O,aO aN (lk (L++[.vec c e])) O w (.vec L.length) (.slice r 0 0):=by
 have mq:eZ (.slice r 0 0)=none:=by cases r<;>simp[eZ]
 let aN:Nat->Value:=λj=>if j=L.length then .slice r 0 0 else ρ j
 have st:stp ρ L G w aN (L++[.vec c e]):=Step.alloc mq
 have old:∀{id:Nat} {o:ak},(L++[.vec c e])[id]? =some o->(id=L.length/\o=.vec c e)\/(id≠L.length/\L[id]? =some o):=by
  intro id o ho;have h2:=(List.getElem?_eq_some_iff.1 ho).1;simp only[length_append,length_cons,length_nil]at h2;by_cases dt:id=L.length;subst dt;simp at ho;exact .inl ⟨rfl,ho.symm⟩;refine .inr ⟨dt, ?_⟩;rwa[getElem?_append_left (by omega)]at ho
 have ej:∀b,Own aN (lk (L++[.vec c e])) b->Own ρ (lk L) b:=by
  rintro b ⟨id,o,ho,ha,hb⟩;rcases old ho with⟨h1,h2⟩|⟨h1,h2⟩;simp only[aN,h1,if_true]at hb;rw[mq]at hb;cases hb;simp only[aN,h1,if_false]at hb;exact⟨id,o,h2,ha,hb⟩
 refine⟨aN,⟨λid o ho=> ?_,λi j oi oj b hi hj ai aj bi bj=> ?_,λb hb=>hs.apart b (ej b hb),hs.low⟩,st,λO=> ?_⟩;rcases old ho with⟨h1,h2⟩|⟨h1,h2⟩;subst h2;simp only[aN,h1,if_true];exact⟨r,0,by rw[hc],by omega,zero_le _,.inl rfl⟩;simp only[aN,h1,if_false];exact(hs.obj id o h2).step st (λ_ _ _=>rfl);rcases old hi with⟨h1,h2⟩|⟨h1,h2⟩;simp only[aN,h1,if_true]at bi;rw[mq]at bi;cases bi;rcases old hj with⟨h3,h4⟩|⟨h3,h4⟩;simp only[aN,h3,if_true]at bj;rw[mq]at bj;cases bj;simp only[aN,h1,if_false]at bi;simp only[aN,h3,if_false]at bj;exact hs.inj i j oi oj b h2 h4 ai aj bi bj;unfold aO;exact⟨rfl,.vec c e,by simp[lk],λc' e' _=>(if_pos rfl).symm⟩
theorem al9{c:aV}(hc:c.n=0)(r:Option Addr):aX O w (.ro c) (.slice r 0 0):=by
 have:=aX.ro (O:=O) (w:=w) c r 0 (λ_ _=>undef) 0 0 (by omega) (zero_le _) (λh=>by omega) (λi j hi hj=>by omega) (λi j hi hj=>by omega);rwa[hc]at this
theorem apY(hs:Sat ρ (lk L) G w){id:Nat}{c:aV}{e:TypeId}(dt:L[id]? =some (.vec c e)):
 Sat ρ (lk (L.set id .ax)) G w/\stp ρ L G w ρ (L.set id .ax)/\aX (aW ρ (lk (L.set id .ax)) G) w (.ro c) (ρ id):=by
 have bq:id<L.length:=(List.getElem?_eq_some_iff.1 dt).1
 have old:∀{k:Nat} {o:ak},(L.set id .ax)[k]? =some o->(k=id/\o=.ax)\/(k≠id/\L[k]? =some o):=by
  intro k o ho;rw[getElem?_set]at ho;split at ho;rename_i hk
  first
   |exact .inl ⟨hk.symm,by simpa using ho.symm⟩
   |(rw[if_pos bq]at ho;exact .inl ⟨hk.symm,by simpa using ho.symm⟩)
  rename_i hk;exact .inr ⟨Ne.symm hk,ho⟩
 have ej:∀b,Own ρ (lk (L.set id .ax)) b->Own ρ (lk L) b/\eZ (ρ id)≠some b:=by
  rintro b ⟨k,o,ho,ha,hb⟩;rcases old ho with⟨_,rfl⟩|⟨h1,h2⟩;cases ha;refine⟨⟨k,o,h2,ha,hb⟩,λhb2=>h1 (hs.inj k id o _ b h2 dt ha rfl hb hb2)⟩
 have st:stp ρ L G w ρ (L.set id .ax):=by
  refine⟨λ_ _ _=>rfl,λk o ho=> ?_,λb hb=>.inl ?_,λ_ _ _=>rfl,le_refl _⟩;by_cases hk:k=id;subst hk;exact⟨.ax,by show(L.set k .ax)[k]? =_;rw[List.getElem?_set_self bq],λc' e' hc=>by cases hc⟩;exact⟨o,by show(L.set id .ax)[k]? =_;rw[List.getElem?_set_ne (Ne.symm hk)];exact ho,λc' e' hc=>⟨c',e',hc,rfl,rfl⟩⟩;rcases hb with hb|hb;exact .inl (ej b hb).1;exact .inr hb
 refine⟨⟨λk o ho=> ?_,λi j oi oj b hi hj ai aj bi bj=> ?_,λb hb=>hs.apart b (ej b hb).1,hs.low⟩,st, ?_⟩;rcases old ho with⟨_,rfl⟩|⟨h1,h2⟩;trivial;exact(hs.obj k o h2).step st (λ_ _ _=>rfl);rcases old hi with⟨_,rfl⟩|⟨h1,h2⟩;cases ai;rcases old hj with⟨_,rfl⟩|⟨h3,h4⟩;cases aj;exact hs.inj i j oi oj b h2 h4 ai aj bi bj;have⟨r,cap,h0,h1,h2,h3⟩:=hs.obj id _ dt;rcases h3 with h3|⟨b,f,cells,fr,us,rfl,h5,h6,h7,h8⟩;rw[h0];have hc:c.n=0:=by omega
 exact .ro c r cap (λ_ _=>undef) 0 0 h1 h2 (λh=>by omega) (λi j hi hj=>by omega) (λi j hi hj=>by omega);by_cases zB:cap=0;rw[h0];exact .ro c _ cap (λ_ _=>undef) 0 0 h1 h2 (λh=>by omega) (λi j hi hj=>by omega) (λi j hi hj=>by omega);have mq:eZ (ρ id)=some b:=by rw[h0];simp[eZ,zB]
 have aaB:¬aW ρ (lk (L.set id .ax)) G b:=by
  rintro(hb|hb);exact(ej b hb).2 mq;exact hs.apart b ⟨id,_,dt,rfl,mq⟩ hb
 rw[h0];refine .ro c _ cap us b f h1 h2 (λ_=>⟨rfl,aaB,(Array.getElem?_eq_some_iff.1 h5).1⟩) (λi j hi hj=> ?_) (λi j hi hj=>(h8 i j hi hj).2.less (λb hb=> ?_));have:=(h8 i j hi hj).1;simp only[World.cell?,h5];simpa using this;rcases hb with hb|hb;exact .inl (ej b hb).1;exact .inr hb
theorem ahU(hs:Sat ρ (lk L) G w){id lo n:Nat}{c:aV}{e:TypeId}{v:Value}(dt:L[id]? =some (.vec c e))(hv:af ρ (lk L) (aW ρ (lk L) G) w (.part id lo n) v):
 ∃aN,Sat aN (lk (L.set id .ax++[.vec (dT c lo (lo+n)) e])) G w/\stp ρ L G w aN (L.set id .ax++[.vec (dT c lo (lo+n)) e])/\∀O,aO aN (lk (L.set id .ax++[.vec (dT c lo (lo+n)) e])) O w (.vec L.length) v:=by
 obtain⟨g0,a,cap,a',g1,g2,g3,rfl,g4,g5⟩:=jI hs dt hv;have bq:id<L.length:=(List.getElem?_eq_some_iff.1 dt).1;generalize hx:ak.vec (dT c lo (lo+n)) e=x;have hxa:x.alive=true:=by rw[<-hx];rfl
 have old:∀{k:Nat} {o:ak},(L.set id .ax++[x])[k]? =some o->(k=L.length/\o=x)\/(k=id/\o=.ax)\/(k≠id/\k≠L.length/\L[k]? =some o):=by
  intro k o ho;have h2:=(List.getElem?_eq_some_iff.1 ho).1;simp only[length_append,length_set,length_cons,length_nil]at h2;by_cases hk:k=L.length;subst hk;rw[getElem?_append_right (by simp)]at ho;simp at ho;exact .inl ⟨rfl,ho.symm⟩;rw[getElem?_append_left (by simp;omega),getElem?_set]at ho;split at ho;rename_i rV
  first
   |exact .inr (.inl ⟨rV.symm,by simpa using ho.symm⟩)
   |(rw[if_pos bq]at ho;exact .inr (.inl ⟨rV.symm,by simpa using ho.symm⟩))
  rename_i rV;exact .inr (.inr ⟨Ne.symm rV,hk,ho⟩)
 have new:∀{k:Nat} {o:ak},L[k]? =some o->k≠id->(L.set id .ax++[x])[k]? =some o:=by
  intro k o ho hk;have h1:=(List.getElem?_eq_some_iff.1 ho).1;rw[getElem?_append_left (by simpa using h1),List.getElem?_set_ne (Ne.symm hk)];exact ho
 have ama:(L.set id .ax++[x])[id]? =some .ax:=by
  rw[getElem?_append_left (by simpa using bq),List.getElem?_set_self bq]
 have aw5:(L.set id .ax++[x])[L.length]? =some x:=by
  rw[getElem?_append_right (by simp)];simp
 have rW:∀b,eZ (.slice a' n (cap - lo))=some b->eZ (ρ id)=some b:=by
  intro b hb;cases a' with
  |none=>simp[eZ]at hb|some y=>
   simp only[eZ]at hb;split at hb;cases hb;rename_i cQ;obtain⟨b',o,rfl⟩:=g5 (by omega);have:=g4 (by omega);simp only[map_some,bd,Option.some.injEq]at this hb;subst this;rw[g1];simp only[eZ];rw[if_neg (by omega)];exact congrArg some hb
 let aN:Nat->Value:=λj=>if j=L.length then .slice a' n (cap - lo)else ρ j
 have ej:∀b,Own aN (lk (L.set id .ax++[x])) b->Own ρ (lk L) b:=by
  rintro b ⟨k,o,ho,ha,hb⟩;rcases old ho with⟨h1,h2⟩|⟨h1,h2⟩|⟨h1,h2,h3⟩;simp only[aN,h1,if_true]at hb;exact⟨id,_,dt,rfl,rW b hb⟩;subst h2;cases ha;simp only[aN,h2,if_false]at hb;exact⟨k,o,h3,ha,hb⟩
 have st:stp ρ L G w aN (L.set id .ax++[x]):=by
  refine⟨λk o ho=> ?_,λk o ho=> ?_,λb hb=>.inl ?_,λ_ _ _=>rfl,le_refl _⟩;have h1:k<L.length:=(List.getElem?_eq_some_iff.1 ho).1;simp only[aN];rw[if_neg (by omega)];by_cases hk:k=id;subst hk;exact⟨.ax,ama,λc' e' hc=>by cases hc⟩;exact⟨o,new ho hk,λc' e' hc=>⟨c',e',hc,rfl,rfl⟩⟩;rcases hb with hb|hb;exact .inl (ej b hb);exact .inr hb
 refine⟨aN,⟨λk o ho=> ?_,λi j oi oj b hi hj ai aj bi bj=> ?_,λb hb=>hs.apart b (ej b hb),hs.low⟩,st,λO=> ?_⟩;rcases old ho with⟨h1,h2⟩|⟨h1,h2⟩|⟨h1,h2,h3⟩;rw[h2];have rG:=st;simp only[aN,h1,if_true];rw[<-hx]at rG ⊢;have hn:(dT c lo (lo+n)).n=n:=by rw[pO c (by omega) g0];omega
 have bV:=kq c lo (lo+n);refine⟨a',cap - lo,by rw[hn],by rw[hn];omega,by omega, ?_⟩;have⟨a2,qW,k1,k2,k3,k4⟩:=hs.obj id _ dt;rw[g1]at k1;cases k1;by_cases hc:cap=lo;exact .inl (by omega);rcases k4 with k4|⟨b,o,cells,fr,us,rfl,h5,h6,h7,h8⟩;omega;refine .inr ⟨b,o+lo*c.size,cells,fr,λi j=>us (lo+i) j,by rw[g4 hc];simp[bd],h5,h6, ?_,λi j hi hj=> ?_⟩;rw[bV];have:lo*c.size+(cap - lo)*c.size=cap*c.size:=by rw[<-add_mul];congr 1;omega
 omega;rw[hn]at hi;rw[bV]at hj ⊢;have⟨h9,vW⟩:=h8 (lo+i) j (by omega) hj;refine⟨?_,by rw[kr c j (by omega)];exact vW.step rG.gu rG.heap rG.size⟩;rw[show o+lo*c.size+i*c.size+j=o+(lo+i)*c.size+j from by rw[add_mul];omega];exact h9;subst h2;trivial;simp only[aN,h2,if_false];exact(hs.obj k o h3).step st (λ_ _ _=>rfl)
 have cls:∀{k:Nat} {o:ak},(L.set id .ax++[x])[k]? =some o->o.alive=true->eZ (aN k)=some b->(k=L.length/\eZ (ρ id)=some b)\/(k≠id/\k≠L.length/\L[k]? =some o/\eZ (ρ k)=some b):=by
  intro k o ho ha hb;rcases old ho with⟨h1,h2⟩|⟨h1,h2⟩|⟨h1,h2,h3⟩;simp only[aN,h1,if_true]at hb;exact .inl ⟨h1,rW b hb⟩;subst h2;cases ha;simp only[aN,h2,if_false]at hb;exact .inr ⟨h1,h2,h3,hb⟩
 rcases cls hi ai bi with⟨h1,h2⟩|⟨h1,h2,h3,h4⟩<;>rcases cls hj aj bj with⟨k1,k2⟩|⟨k1,k2,k3,k4⟩;rw[h1,k1];exact absurd (hs.inj j id oj _ b k3 dt aj rfl k4 h2) k1;exact absurd (hs.inj i id oi _ b h3 dt ai rfl h4 k2) h1;exact hs.inj i j oi oj b h3 k3 ai aj h4 k4;unfold aO;refine⟨rfl,x,aw5,λc' e' _=> ?_⟩;simp only[aN,if_true]
theorem ahV{ces:List (Bool×aV×TypeId)}{a:AV}(hs:Sat ρ (lk L) G w):
 (∀v,af ρ (lk L) (aW ρ (lk L) G) w a v→∃aN,Sat aN (lk (nx ces L a).2.1) G w∧stp ρ L G w aN (nx ces L a).2.1∧af aN (lk (nx ces L a).2.1) (aW aN (lk (nx ces L a).2.1) G) w (nx ces L a).1 v)∧
 (∀cs,aR ρ (lk L) (aW ρ (lk L) G) w a cs→∃aN,Sat aN (lk (nx ces L a).2.1) G w∧stp ρ L G w aN (nx ces L a).2.1∧aR aN (lk (nx ces L a).2.1) (aW aN (lk (nx ces L a).2.1) G) w (nx ces L a).1 cs):=by
 have same:∀a,(∀v,af ρ (lk L) (aW ρ (lk L) G) w a v→∃aN,Sat aN (lk L) G w∧stp ρ L G w aN L∧af aN (lk L) (aW aN (lk L) G) w a v)∧(∀cs,aR ρ (lk L) (aW ρ (lk L) G) w a cs→∃aN,Sat aN (lk L) G w∧stp ρ L G w aN L∧aR aN (lk L) (aW aN (lk L) G) w a cs):=
  fun a=>⟨fun v h=>⟨ρ,hs,Step.refl _ _ _ _,h⟩,fun cs h=>⟨ρ,hs,Step.refl _ _ _ _,h⟩⟩
 unfold nx;split;split;rename_i ro c e r;cases hc:c.n.beq 0;exact same _;have hc:=Nat.eq_of_beq_eq_true hc;cases ro;refine⟨fun v h=> ?_,fun cs h=> ?_⟩;unfold af at h;obtain⟨x,rfl⟩:=h;obtain⟨aN,h1,h2,h3⟩:=ext1 hs hc e x;exact⟨aN,h1,h2,by simp only[cond_true,cond_false];unfold af;exact h3 _⟩;unfold aR at h;obtain⟨u,rfl,x,rfl⟩:=h;obtain⟨aN,h1,h2,h3⟩:=ext1 hs hc e x;exact⟨aN,h1,h2,by simp only[cond_true,cond_false];unfold aR;exact⟨_,rfl,h3 _⟩⟩;refine⟨fun v h=> ?_,fun cs h=> ?_⟩;unfold af at h;obtain⟨x,rfl⟩:=h;exact⟨ρ,hs,Step.refl _ _ _ _,aF (al9 hc x)⟩;unfold aR at h;obtain⟨u,rfl,x,rfl⟩:=h;exact⟨ρ,hs,Step.refl _ _ _ _,by simp only[cond_true];unfold aR;exact⟨_,rfl,al9 hc x⟩⟩;exact same _;rename_i id;split;split;rename_i c e dt;obtain⟨f1,f2,f3⟩:=apY hs dt
 have key:∀v,aO ρ (lk L) (aW ρ (lk L) G) w (.vec id) v→v=ρ id:=by
  intro v hv;unfold aO at hv;obtain⟨_,o,ho,h4⟩:=hv;rw[show lk L id=some (.vec c e)from dt]at ho;cases ho;exact h4 c e rfl
 refine⟨fun v h=>⟨ρ,f1,f2, ?_⟩,fun cs h=>⟨ρ,f1,f2, ?_⟩⟩;unfold af at h;rw[key v h];exact aF f3;unfold aR at h;obtain⟨u,rfl,h5⟩:=h;unfold aR;exact⟨u,rfl,by rw[key u h5];exact f3⟩;exact same _;exact same _;exact same _;rename_i id lo n;split;rename_i c e dt;refine⟨fun v h=> ?_,fun cs h=> ?_⟩;obtain⟨aN,h1,h2,h3⟩:=ahU hs dt h;exact⟨aN,h1,h2,by unfold af;exact h3 _⟩;unfold aR at h;obtain⟨u,rfl,h5⟩:=h;obtain⟨aN,h1,h2,h3⟩:=ahU hs dt (by unfold af;exact h5);exact⟨aN,h1,h2,by unfold aR;exact⟨u,rfl,h3 _⟩⟩;exact same _;exact same _
theorem xW:∀(aQ:List AV) {ces:List (Bool×aV×TypeId)} {L:List ak} {ρ:Nat->Value} {cs:List Value},Sat ρ (lk L) G w->aA ρ (lk L) (aW ρ (lk L) G) w aQ cs->
 ∃aN,Sat aN (lk (uv nx ces L aQ).2.1) G w/\stp ρ L G w aN (uv nx ces L aQ).2.1/\aA aN (lk (uv nx ces L aQ).2.1) (aW aN (lk (uv nx ces L aQ).2.1) G) w (uv nx ces L aQ).1 cs
 |[],ces,L,ρ,cs,hs,hd=>⟨ρ,hs,Step.refl _ _ _ _,hd⟩|a::aQ,ces,L,ρ,cs,hs,hd=>by
  obtain⟨c1,c2,rfl,h1,h2⟩:=ag.1 hd;have⟨jO,h3,h4,h5⟩:=(ahV (ces:=ces) hs).2 c1 h1;have⟨gy,h6,h7,h8⟩:=xW aQ (ces:=(nx ces L a).2.2) h3 (aA.step h4 aQ c2 h2);exact⟨gy,h6,h4.trans h7,ag.2 ⟨c1,c2,rfl,aR.step h7 _ _ h5,h8⟩⟩
theorem ahW{ces:List (Bool×aV×TypeId)}{a:AV}{v:Value}(hs:Sat ρ (lk L) G w)(hd:af ρ (lk L) (aW ρ (lk L) G) w a v):
 ∃aN,Sat aN (lk (sn ces L a).2.1) G w/\stp ρ L G w aN (sn ces L a).2.1/\af aN (lk (sn ces L a).2.1) (aW aN (lk (sn ces L a).2.1) G) w (sn ces L a).1 v:=by
 unfold sn;split;rename_i az;unfold af at hd;have⟨cs,h1,h2⟩:=hd;have⟨aN,h3,h4,h5⟩:=xW az (ces:=ces) hs h2;exact⟨aN,h3,h4,by unfold af;exact⟨cs,h1,h5⟩⟩;exact(ahV hs).1 v hd
theorem xX:∀(aQ:List AV) {ces:List (Bool×aV×TypeId)} {L:List ak} {ρ:Nat->Value} {vs:List Value},Sat ρ (lk L) G w->bM ρ (lk L) (aW ρ (lk L) G) w aQ vs->
 ∃aN,Sat aN (lk (uv sn ces L aQ).2.1) G w/\stp ρ L G w aN (uv sn ces L aQ).2.1/\bM aN (lk (uv sn ces L aQ).2.1) (aW aN (lk (uv sn ces L aQ).2.1) G) w (uv sn ces L aQ).1 vs
 |[],ces,L,ρ,cs,hs,hd=>⟨ρ,hs,Step.refl _ _ _ _,hd⟩|a::aQ,ces,L,ρ,cs,hs,hd=>by
  obtain⟨v,rest,rfl,h1,h2⟩:=aE.1 hd;have⟨jO,h3,h4,h5⟩:=ahW (ces:=ces) hs h1;have⟨gy,h6,h7,h8⟩:=xX aQ (ces:=(sn ces L a).2.2) h3 (bM.step h4 aQ rest h2);exact⟨gy,h6,h4.trans h7,aE.2 ⟨v,rest,rfl,af.step h7 _ _ h5,h8⟩⟩
theorem apZ{ces:List (Bool×aV×TypeId)}{a:AV}{v:Value}(hs:Sat ρ (lk L) G w)(hd:af ρ (lk L) (aW ρ (lk L) G) w a v):
 ∃aN,Sat aN (lk (agr ces L a).2) G w/\stp ρ L G w aN (agr ces L a).2/\af aN (lk (agr ces L a).2) (aW aN (lk (agr ces L a).2) G) w (agr ces L a).1 v:=by
 unfold agr;split;rename_i vs;unfold af at hd;have⟨us,h1,h2⟩:=hd;have⟨aN,h3,h4,h5⟩:=xX vs (ces:=ces) hs h2;exact⟨aN,h3,h4,by unfold af;exact⟨us,h1,h5⟩⟩;exact ahW hs hd
theorem akb{ces:List (Bool×aV×TypeId)}{r r':AV}{v:Value}{L':List ak}(h:Good ρ H G w (lk L) r v w')(h0:∀id,H id=none)(hc:apX ces L r=some (L',r')):Good ρ H G w (lk L') r' v w':=by
 unfold apX at hc;simp only[cond_eq_ite]at hc;split at hc;rename_i hn;split at hc;rename_i L1 r1 hL hr;simp only[Option.some.injEq,Prod.mk.injEq]at hc;obtain⟨rfl,rfl⟩:=hc;have⟨jO,h1,h2,h3,h4⟩:=h;have⟨gy,h5,h6,h7⟩:=apZ (ces:=ces) h1 h2;exact Good.view (m:=0) ⟨gy,h5,h7,h3.trans h6,h4⟩ (l6 hn) hL (λi hi=>by omega) (λid _=>h0 id) hr;cases hc;cases hc
end
def B.out(base:Nat):(b:B)->b.V->AV×List ak
 |.row r e,x=>(.vec base,[.vec (r.wy x) e])|.int k,x=>(.s (.int k x),[])|.bool,x=>(.s (.bool x),[])|.str,x=>(.s (.str x),[])|.arr k n,x=>(.ah k n x,[])|.fn,f=>(.s (.rK f),[])|.mN r _,x=>(.s (.ro (r.wy x)),[])
def BL.out(base:Nat):(bs:List B)->BL bs->List AV×List ak
 |[],_=>([],[])|b::bs,(x,y)=>let p:=b.out base x;let q:=BL.out (base+p.2.length) bs y;(p.1::q.1,p.2++q.2)
def Ty.out(base:Nat):(t:Ty)->t.V->AV×List ak
 |.b x,v=>x.out base v|.st bs,v=>let q:=BL.out base bs v;(.agg q.1,q.2)
def AL.out(base:Nat):(ts:List Ty)->AL ts->List AV×List ak
 |[],_=>([],[])|t::ts,(x,y)=>let p:=t.out base x;let q:=AL.out (base+p.2.length) ts y;(p.1::q.1,p.2++q.2)
def AL.res(rs:List Ty)(y:AL rs):List ak×AV:=let q:=AL.out 0 rs y;(q.2,oneOf q.1)
def B.flat:B->Bool
 |.row r _=>r.flat|.mN _ _=>false|_=>true
def Ty.flat:Ty->Bool
 |.b x=>x.flat|.st bs=>bs.all B.flat
def B.qz:B->Bool
 |.row r _=>r.flat|_=>true
def Ty.qz:Ty->Bool
 |.b x=>x.qz|.st bs=>bs.all B.qz
def B.ces:B->List (Bool×aV×TypeId)
 |.row r e=>[(false,r.wy [],e)]|.mN r e=>[(true,r.wy [],e)]|_=>[]
def Ty.ces:Ty->List (Bool×aV×TypeId)
 |.b x=>x.ces|.st bs=>bs.flatMap B.ces
def dG(P:Program)(Z:bm)(f:FuncId)(ts rs:List Ty)(pre:AL ts->List Prop)(F:AL ts->AL rs):Prop:=
 ∀(x:AL ts),AL.ok ts x->bK (pre x)->∀(G:Nat->Prop) (w:World) (vs:List Value),(∀b,G b->b<w.heap.size)->Z.ok w->bM (λ_=>undef) (λ_=>none) (aW (λ_=>undef) (λ_=>none) G) w (AL.av ts x) vs->
  Calls P f vs.toArray w λe w'=>∃v,e=.returned v/\Good (λ_=>undef) (λ_=>none) G w (lk (AL.res rs (F x)).1) (AL.res rs (F x)).2 v w'
def Ends(rs:List Ty)(y:AL rs)(L:List ak)(r:AV):Prop:=apX (rs.flatMap Ty.ces) L r=some (AL.res rs y)
def agk(a:AV)(k:AV->RM bR):RM bR:=
 match a with
 |.vec id=>.look id λ
  |some (.vec c _)=>k (.s (.ro c))|_=>.fail "frz"
 |a=>k a
def aut:List AV->(List AV->RM bR)->RM bR
 |[],k=>k []|a::aQ,k=>agk a λa'=>aut aQ λdN=>k (a'::dN)
def auu(a:AV)(k:AV->RM bR):RM bR:=
 match a with
 |.agg az=>aut az λs=>k (.agg s)|a=>agk a k
def auv:List AV->(List AV->RM bR)->RM bR
 |[],k=>k []|a::aQ,k=>auu a λa'=>auv aQ λdN=>k (a'::dN)
def sumOf(ts rs:List Ty)(pre:AL ts->List Prop)(F:AL ts->AL rs):Nat->List AV->RM bR:=λ_ args=>
 auv args λargs=>match allM (rn (λ_=>none) 20) args with
  |some args=>(match AL.rd ts args with
   |some x=>bif rs.all Ty.flat then .ret ⟨pre x,[],(AL.res rs (F x)).1,λbase=>oneOf (AL.out base rs (F x)).1⟩else .fail "sum: not flat"|none=>.fail "sum: arguments")
  |none=>.fail "sum: names"
section
variable{g:Nat->Option Nat}{ρ aN:Nat->Value}{H H':aT}{G O O':Nat->Prop}{w w':World}{P:Program}{S:fI}{Z:bm}{X:Ctx}{s:St}{a:Act}{K:List ak->AV->Prop}{C:bP->Prop}{L:List ak}
theorem AL.aaC:∀{ts:List Ty} (x:AL ts),(AL.av ts x).length=ts.length
 |[],_=>rfl|_::_,(_,y)=>congrArg (· +1) (AL.aaC y)
theorem aI{f:FuncId}{fn:Func}{ts rs:List Ty}{pre:AL ts->List Prop}{F:AL ts->AL rs}(hf:P.funcs[f]? =some fn)(hb:fn.body.isSome=true)(hn:ts.length.ble fn.ntmps=true)
 (h:∀x,AL.ok ts x->bK (pre x)->∀X:Ctx,(∀id,X.H id=none)->eb Z X->Safe P f X (Ends rs (F x)) (start fn (AL.av ts x) [])):dG P Z f ts rs pre F:=by
 intro x jY mM G w vs hG hz hd;have⟨c,hb⟩:=isSome_iff_exists.1 hb;have hn:=le_of_ble_eq_true hn;have aw6:(AL.av ts x).length=ts.length:=AL.aaC x
 have pe:∀{aQ:List AV} {vs:List Value},bM (λ_=>undef) (λ_=>none) (aW (λ_=>undef) (λ_=>none) G) w aQ vs->vs.length=aQ.length:=by
  intro aQ
  induction aQ with
  |nil=>intro vs h;rw[ba.1 h];rfl
  |cons a aQ ih=>intro vs h;obtain⟨v,rest,rfl,_,h2⟩:=aE.1 h;simp[ih h2]
 refine(jy (R:=kx ⟨λ_=>undef,λ_=>none,G,w,[]⟩ (Ends rs (F x))) hf hb ?_).mono ?_;have:=(h x jY mM ⟨λ_=>undef,λ_=>none,G,w,[]⟩ (λ_=>rfl) ⟨hz,λb _ ⟨id,o,ho,_⟩=>by cases ho⟩).goes rfl rfl (ρ:=λ_=>undef) (a:={tmps:=vs.toArray++Array.replicate (fn.ntmps - vs.toArray.size) undef,defers:=[]}) (w:=w);simp only[start,hb,getD_some]at this;refine this ⟨⟨λid o ho=>by simp[St.look]at ho,λi j oi oj b hi=>by simp[St.look]at hi,λb vV=> ?_,hG⟩, ?_,λt=> ?_,rfl, ?_, ?_,λx hx=>by cases hx⟩;have⟨id,o,ho,_⟩:=vV;simp[St.look]at ho;have:=pe hd;simp[this]
 have e1:∀t,af (λ_=>undef) (St.look ⟨AL.av ts x++replicate (fn.ntmps - (AL.av ts x).length) (.bt []),[]⟩) (aW (λ_=>undef) (St.look ⟨AL.av ts x++replicate (fn.ntmps - (AL.av ts x).length) (.bt []),[]⟩) G) w ((AL.av ts x).getD t (.bt [])) (vs.getD t undef):=by
  have e0:(St.look ⟨AL.av ts x++replicate (fn.ntmps - (AL.av ts x).length) (.bt []),[]⟩)=λ_=>none:=by funext i;simp[St.look]
  rw[e0];generalize AL.av ts x=aQ at hd;clear aw6 e0 this
  induction aQ generalizing vs with
  |nil=>intro t;rw[ba.1 hd];simp only[List.getD,List.getElem?_nil,Option.getD_none];exact cC
  |cons a aQ ih=>
   intro t;obtain⟨v,rest,rfl,h1,h2⟩:=aE.1 hd;cases t with
   |zero=>simpa using h1|succ t=>simpa using ih rest h2 t
 have h1:=e1 t;have hl:=pe hd;simp only[List.getD_eq_getElem?_getD,List.getElem?_append,List.getElem?_replicate,getD_eq_getD_getElem?,Array.getElem?_append,List.getElem?_toArray,Array.getElem?_replicate,List.size_toArray]at h1 ⊢;rw[hl];split;rename_i ht;have hv:vs[t]? =some vs[t]:=getElem?_eq_getElem (by omega);have ha:(AL.av ts x)[t]? =some (AL.av ts x)[t]:=getElem?_eq_getElem ht;rw[hv,ha]at h1 ⊢;exact h1;split;exact cC;simp only[Option.getD_none];unfold af;trivial;have e0:(St.look ⟨AL.av ts x++replicate (fn.ntmps - (AL.av ts x).length) (.bt []),[]⟩)=λ_=>none:=by funext i;simp[St.look]
 rw[e0];exact Step.refl _ _ _ _;exact⟨rfl,rfl,rfl,λ_ _ _=>rfl⟩;rintro e w' ⟨v,he,L,r,hk,hg⟩;refine⟨v,he, ?_⟩;exact akb hg (λ_=>rfl) hk
theorem RM.ahX{aQ:AV}{k:AV->RM bR}{q:bR}(h:(agk aQ k).eval H=some q)(hs:Sat ρ H G w):∃a',(k a').eval H=some q/\(∀v,af ρ H (aW ρ H G) w aQ v->af ρ H (λ_=>False) w a' v)/\(∀cs,aR ρ H (aW ρ H G) w aQ cs->aR ρ H (λ_=>False) w a' cs):=by
 have less:Emb (λi=>some i) ρ H (aW ρ H G) ρ H (λ_=>False):=⟨λi j h=>by cases h;exact⟨rfl,λo ho=>⟨o,ho,λc e hc=>hc⟩⟩,λb hb=>hb.elim⟩;have aw7:∀(a:AV) (v:Value),af ρ H (aW ρ H G) w a v->af ρ H (λ_=>False) w a v:=λa v hd=>af.step ⟨λ_ _ _=>rfl,λ_ o h=>⟨o,h,λc' e' e=>⟨c',e',e,rfl,rfl⟩⟩,λb hb=>hb.elim,λ_ _ _=>rfl,le_refl _⟩ a v hd;have aw8:∀(a:AV) (v:List Value),aR ρ H (aW ρ H G) w a v->aR ρ H (λ_=>False) w a v:=λa v hd=>aR.step ⟨λ_ _ _=>rfl,λ_ o h=>⟨o,h,λc' e' e=>⟨c',e',e,rfl,rfl⟩⟩,λb hb=>hb.elim,λ_ _ _=>rfl,le_refl _⟩ a v hd;unfold agk at h;split at h;rename_i id;simp only[RM.eval]at h;split at h;rename_i c e hc;have dU:=hs.obj id _ hc;have⟨r,cap,h0,h1,h2,h3⟩:=dU
 have key:∀v,aO ρ H (aW ρ H G) w (.vec id) v->aX (λ_=>False) w (.ro c) v:=by
  intro v hv;unfold aO at hv;have⟨_,o,ho,h4⟩:=hv;rw[hc]at ho;cases ho;rw[h4 c e rfl,h0];rcases h3 with h3|⟨b,f,cells,fr,us,rfl,h5,h6,h7,h8⟩;exact .ro c r cap (λ_ _=>undef) 0 0 h1 h2 (λh=>by omega) (λi j hi hj=>by omega) (λi j hi hj=>by omega);refine .ro c _ cap us b f h1 h2 (λ_=>⟨rfl,λh=>h.elim,(Array.getElem?_eq_some_iff.1 h5).1⟩) (λi j hi hj=> ?_) (λi j hi hj=>(h8 i j hi hj).2.less (λb hb=>hb.elim));have:=(h8 i j hi hj).1;simp only[World.cell?,h5];simpa using this
 exact⟨_,h,λv hv=>aF (key v (by unfold af at hv;exact hv)),λcs hv=>by unfold aR at *;obtain⟨u,rfl,h9⟩:=hv;exact⟨u,rfl,key u h9⟩⟩;simp[RM.eval]at h;exact⟨_,h,aw7 _,aw8 _⟩
theorem RM.ahY:∀{aQ:List AV} {k:List AV->RM bR} {q:bR},(aut aQ k).eval H=some q->Sat ρ H G w->∃dN,(k dN).eval H=some q/\∀cs,aA ρ H (aW ρ H G) w aQ cs->aA ρ H (λ_=>False) w dN cs
 |[],k,q,h,hs=>⟨[],h,λcs hd=>by rw[aD.1 hd];exact aD.2 rfl⟩
 |a::aQ,k,q,h,hs=>by
  have⟨a',h1,h2,h3⟩:=RM.ahX h hs;have⟨dN,h4,h5⟩:=RM.ahY h1 hs;refine⟨a'::dN,h4,λcs hd=> ?_⟩;obtain⟨c1,c2,rfl,h6,h7⟩:=ag.1 hd;exact ag.2 ⟨c1,c2,rfl,h3 c1 h6,h5 c2 h7⟩
theorem RM.ap0{aQ:AV}{k:AV->RM bR}{q:bR}(h:(auu aQ k).eval H=some q)(hs:Sat ρ H G w):∃a',(k a').eval H=some q/\(∀v,af ρ H (aW ρ H G) w aQ v->af ρ H (λ_=>False) w a' v):=by
 unfold auu at h;split at h;have⟨dN,h1,h2⟩:=RM.ahY h hs;refine⟨_,h1,λv hd=> ?_⟩;unfold af at *;have⟨cs,h3,h4⟩:=hd;exact⟨cs,h3,h2 cs h4⟩;have⟨a',h1,h2,_⟩:=RM.ahX h hs;exact⟨a',h1,h2⟩
theorem RM.ahZ:∀{aQ:List AV} {k:List AV->RM bR} {q:bR},(auv aQ k).eval H=some q->Sat ρ H G w->∃dN,(k dN).eval H=some q/\∀cs,bM ρ H (aW ρ H G) w aQ cs->bM ρ H (λ_=>False) w dN cs
 |[],k,q,h,hs=>⟨[],h,λcs hd=>by rw[ba.1 hd];exact ba.2 rfl⟩
 |a::aQ,k,q,h,hs=>by
  have⟨a',h1,h2⟩:=RM.ap0 h hs;have⟨dN,h4,h5⟩:=RM.ahZ h1 hs;refine⟨a'::dN,h4,λcs hd=> ?_⟩;obtain⟨v,rest,rfl,h6,h7⟩:=aE.1 hd;exact aE.2 ⟨v,rest,rfl,h2 v h6,h5 rest h7⟩
theorem vH:∀{cs:List CK} (_:cs.all CK.flat=true) {x:CL cs} {j:Nat} {u:Value},j<CL.wide cs->aX O w (CL.cell cs x j) u->aX O' w (CL.cell cs x j) u
 |[],_,x,j,u,hj,h=>by simp[CL.wide]at hj
 |c::cs,hf,x,j,u,hj,h=>by
  simp only[all_cons,and_eq_true]at hf;simp only[CL.cell]at h ⊢;rcases lt_or_ge j c.wide with h5|h5
  ·rw[nM h5,cond_true]at h ⊢;cases c<;>simp only[CK.flat,Bool.false_eq_true]at hf
   case int k=>exact(by simp only[CK.cell]at h ⊢;cases h;constructor)
   case bool=>exact(by simp only[CK.cell]at h ⊢;cases h;constructor)
   case str=>exact(by simp only[CK.cell]at h ⊢;cases h;constructor)
   case arr k n=>exact(by simp only[CK.cell]at h ⊢;cases h;constructor)
   all_goals exact hf.1.elim
  ·rw[rS h5,cond_false]at h ⊢;exact vH hf.2 (by simp only[CL.wide]at hj;omega) h
theorem RK.adE{r:RK}(hr:r.flat=true){x:r.V}{i j:Nat}{u:Value}(hj:j<(r.wy x).size)(h:aX O w ((r.wy x).cell i j) u):aX O' w ((r.wy x).cell i j) u:=by
 cases r
 case au cs=>exact vH hr hj h
 all_goals (simp only[RK.wy,aV.cell]at h ⊢;cases h;constructor)
def Plain(o:ak):Prop:=∃(r:RK) (x:r.V) (e:TypeId),r.flat=true/\o=.vec (r.wy x) e
theorem B.fm{b:B}(hb:b.qz=true){x:b.V}{base:Nat}:∀o∈(b.out base x).2,Plain o:=by
 cases b with
 |row r e=>intro o ho;simp only[B.out,mem_singleton]at ho;exact⟨r,x,e,hb,ho⟩
 |_=>intro o ho;simp[B.out]at ho
theorem BL.fm:∀{bs:List B},bs.all B.qz=true->∀{x:BL bs} {base:Nat},∀o∈(BL.out base bs x).2,Plain o
 |[],_,x,base,o,ho=>by simp[BL.out]at ho
 |b::bs,hb,(x,y),base,o,ho=>by
  simp only[all_cons,and_eq_true]at hb;simp only[BL.out,mem_append]at ho;rcases ho with ho|ho;exact B.fm hb.1 o ho;exact BL.fm hb.2 o ho
theorem Ty.fm{t:Ty}(ht:t.qz=true){x:t.V}{base:Nat}:∀o∈(t.out base x).2,Plain o:=by
 cases t with
 |b y=>exact B.fm ht|st bs=>exact BL.fm ht
theorem AL.fm:∀{ts:List Ty},ts.all Ty.qz=true->∀{x:AL ts} {base:Nat},∀o∈(AL.out base ts x).2,Plain o
 |[],_,x,base,o,ho=>by simp[AL.out]at ho
 |b::bs,hb,(x,y),base,o,ho=>by
  simp only[all_cons,and_eq_true]at hb;simp only[AL.out,mem_append]at ho;rcases ho with ho|ho;exact Ty.fm hb.1 o ho;exact AL.fm hb.2 o ho
structure sq (base n:Nat) (ρ:Nat->Value) (H:aT) (aN:Nat->Value) (H':aT):Prop where
 wX:∀i,i<n->aN (base+i)=ρ i
 heap:∀i,i<n->H' (base+i)=H i
theorem aaD{base n k:Nat}(sh:sq base n ρ H aN H')(hk:k<n){v:Value}(h:aO ρ H O w (.vec k) v):aO aN H' O' w (.vec (base+k)) v:=by
 unfold aO at *;have⟨h0,o,ho,h1⟩:=h;exact⟨h0,o,by rw[sh.heap k hk];exact ho,λc e hc=>by rw[sh.wX k hk];exact h1 c e hc⟩
theorem B.auw{base n k:Nat}(sh:sq base n ρ H aN H'){b:B}(hO:b.flat=true\/∀i,O' i->O i){x:b.V}(hk:k+(b.out k x).2.length<=n){v:Value}(h:af ρ H O w (b.out k x).1 v):af aN H' O' w (b.out (base+k) x).1 v:=by
 cases b with
 |row r e=>
  simp only[B.out,length_cons,length_nil]at hk h ⊢;unfold af at *;exact aaD sh (by omega) h
 |int k=>exact aF (by have:=ay (by simp) h;cases this;constructor)
 |bool=>exact aF (by have:=ay (by simp) h;cases this;constructor)
 |str=>exact aF (by have:=ay (by simp) h;cases this;constructor)
 |fn=>exact aF (by have:=ay (by simp) h;cases this;constructor)
 |mN r e=>
  rcases hO with hO|hO;cases hO;exact aF ((ay (by simp) h).less hO)
 |arr k n=>simp only[B.out]at h ⊢;unfold af at *;exact h
theorem B.auy{base n k:Nat}(sh:sq base n ρ H aN H'){b:B}(hO:b.flat=true\/∀i,O' i->O i){x:b.V}(hk:k+(b.out k x).2.length<=n){v:List Value}(h:aR ρ H O w (b.out k x).1 v):aR aN H' O' w (b.out (base+k) x).1 v:=by
 cases b with
 |row r e=>
  simp only[B.out,length_cons,length_nil]at hk h ⊢;unfold aR at *;obtain⟨u,rfl,h1⟩:=h;exact⟨u,rfl,aaD sh (by omega) h1⟩
 |int k=>simp only[B.out]at h ⊢;unfold aR at *;obtain⟨u,rfl,h1⟩:=h;exact⟨u,rfl,by cases h1;constructor⟩
 |bool=>simp only[B.out]at h ⊢;unfold aR at *;obtain⟨u,rfl,h1⟩:=h;exact⟨u,rfl,by cases h1;constructor⟩
 |str=>simp only[B.out]at h ⊢;unfold aR at *;obtain⟨u,rfl,h1⟩:=h;exact⟨u,rfl,by cases h1;constructor⟩
 |fn=>simp only[B.out]at h ⊢;unfold aR at *;obtain⟨u,rfl,h1⟩:=h;exact⟨u,rfl,by cases h1;constructor⟩
 |mN r e=>
  simp only[B.out]at h ⊢;unfold aR at *;obtain⟨u,rfl,h1⟩:=h;rcases hO with hO|hO;cases hO;exact⟨u,rfl,h1.less hO⟩
 |arr k n=>simp only[B.out]at h ⊢;unfold aR at *;exact h
theorem B.l7{b:B}{x:b.V}(k k':Nat):(b.out k x).2=(b.out k' x).2:=by cases b<;>rfl
theorem BL.l7:∀{bs:List B} {x:BL bs} (k k':Nat),(BL.out k bs x).2=(BL.out k' bs x).2
 |[],_,_,_=>rfl|b::bs,(x,y),k,k'=>by
  simp only[BL.out];rw[B.l7 k k',BL.l7 (k+_) (k'+(b.out k' x).2.length)]
theorem Ty.l7{t:Ty}{x:t.V}(k k':Nat):(t.out k x).2=(t.out k' x).2:=by
 cases t with
 |b y=>exact B.l7 k k'|st bs=>exact BL.l7 k k'
theorem BL.shift{base n:Nat}(sh:sq base n ρ H aN H'):∀{bs:List B} (_:bs.all B.flat=true\/∀i,O' i->O i) {k:Nat} {x:BL bs} {cs:List Value},k+(BL.out k bs x).2.length<=n->aA ρ H O w (BL.out k bs x).1 cs->aA aN H' O' w (BL.out (base+k) bs x).1 cs
 |[],_,k,x,cs,hk,h=>by rw[aD.1 h];exact aD.2 rfl
 |b::bs,hO,k,(x,y),cs,hk,h=>by
  simp only[BL.out,length_append]at hk h ⊢;obtain⟨c1,c2,rfl,h1,h2⟩:=ag.1 h;have hO1:b.flat=true\/∀i,O' i->O i:=hO.imp (λh=>by simp only[all_cons,and_eq_true]at h;exact h.1) (λh=>h);have hO2:bs.all B.flat=true\/∀i,O' i->O i:=hO.imp (λh=>by simp only[all_cons,and_eq_true]at h;exact h.2) (λh=>h);refine ag.2 ⟨c1,c2,rfl,B.auy sh hO1 (by omega) h1, ?_⟩;rw[B.l7 (base+k) k,add_assoc];exact BL.shift sh hO2 (by omega) h2
theorem Ty.shift{base n k:Nat}(sh:sq base n ρ H aN H'){t:Ty}(hO:t.flat=true\/∀i,O' i->O i){x:t.V}(hk:k+(t.out k x).2.length<=n){v:Value}(h:af ρ H O w (t.out k x).1 v):af aN H' O' w (t.out (base+k) x).1 v:=by
 cases t with
 |b y=>exact B.auw sh hO hk h|st bs=>
  simp only[Ty.out]at hk h ⊢;unfold af at *;have⟨cs,h1,h2⟩:=h;exact⟨cs,h1,BL.shift sh hO hk h2⟩
theorem AL.shift{base n:Nat}(sh:sq base n ρ H aN H'):∀{ts:List Ty} (_:ts.all Ty.flat=true\/∀i,O' i->O i) {k:Nat} {x:AL ts} {vs:List Value},k+(AL.out k ts x).2.length<=n->bM ρ H O w (AL.out k ts x).1 vs->bM aN H' O' w (AL.out (base+k) ts x).1 vs
 |[],_,k,x,vs,hk,h=>by rw[ba.1 h];exact ba.2 rfl
 |b::bs,hO,k,(x,y),cs,hk,h=>by
  simp only[AL.out,length_append]at hk h ⊢;obtain⟨c1,c2,rfl,h1,h2⟩:=aE.1 h;have hO1:b.flat=true\/∀i,O' i->O i:=hO.imp (λh=>by simp only[all_cons,and_eq_true]at h;exact h.1) (λh=>h);have hO2:bs.all Ty.flat=true\/∀i,O' i->O i:=hO.imp (λh=>by simp only[all_cons,and_eq_true]at h;exact h.2) (λh=>h);refine aE.2 ⟨c1,c2,rfl,Ty.shift sh hO1 (by omega) h1, ?_⟩;rw[Ty.l7 (base+k) k,add_assoc];exact AL.shift sh hO2 (by omega) h2
theorem AL.abX:∀{ts:List Ty} {x:AL ts} (k:Nat),(AL.out k ts x).1.length=ts.length
 |[],_,_=>rfl|b::bs,(x,y),k=>by simp[AL.out,AL.abX]
theorem aaE{base:Nat}{rs:List Ty}(hO:rs.all Ty.flat=true\/∀i,O' i->O i){y:AL rs}(sh:sq base (AL.res rs y).1.length ρ H aN H'){v:Value}(h:af ρ H O w (AL.res rs y).2 v):af aN H' O' w (oneOf (AL.out base rs y).1) v:=by
 unfold AL.res at h sh;simp only[]at h sh;have hl:∀vs,bM ρ H O w (AL.out 0 rs y).1 vs->bM aN H' O' w (AL.out (base+0) rs y).1 vs:=λvs=>AL.shift (k:=0) (x:=y) (O:=O) (O':=O') (w:=w) sh hO (by omega);have l0:=AL.abX (x:=y) 0;have l1:=AL.abX (x:=y) base;generalize (AL.out 0 rs y).1=aQ at *;rw[add_zero]at hl;generalize (AL.out base rs y).1=bs at *;unfold oneOf at h ⊢;split at h;rename_i a;cases bs with
 |nil=>simp at l0 l1;omega|cons b bs=>
  cases bs with
  |nil=>
   have:=hl [v] (aE.2 ⟨v,[],rfl,h,ba.2 rfl⟩);have⟨v',rest,e,h1,_⟩:=aE.1 this;cases e;exact h1
  |cons c cs=>simp at l0 l1;omega
 rename_i cQ;split;rename_i b;cases aQ with
 |nil=>simp at l0 l1;omega|cons a aQ=>
  cases aQ with
  |nil=>exact(cQ a rfl).elim|cons c cs=>simp at l0 l1;omega
 unfold af at *;have⟨us,h1,h2⟩:=h;exact⟨us,h1,hl us h2⟩
def ri(P:Program)(Z:bm)(f:FuncId)(s:Nat->List AV->RM bR):Prop:=
 ∀(base:Nat) (args:List AV) (H:aT) (q:bR),(s base args).eval H=some q->bK q.ab->∀(ρ:Nat->Value) (G:Nat->Prop) (w:World) (vs:List Value),
  (∀i,i<q.new.length->H (base+i)=none)->ZAt Z ρ H w->Sat ρ H G w->bM ρ H (aW ρ H G) w args vs->
  Calls P f vs.toArray w λen w'=>∃v,en=.returned v/\Good ρ H G w (c8 H q.up base q.new) (q.r base) v w'
theorem dG.sum{f:FuncId}{ts rs:List Ty}{pre:AL ts->List Prop}{F:AL ts->AL rs}(h:dG P Z f ts rs pre F):ri P Z f (sumOf ts rs pre F):=by
 intro base args H q hq hn ρ G w vs dC hz hs hd;unfold sumOf at hq;have⟨aw9,hq,h1⟩:=RM.ahZ hq hs;split at hq;rename_i axa h2;split at hq;rename_i x h3;rw[cond_eq_ite]at hq;split at hq;rename_i adF;simp only[RM.eval,Option.some.injEq]at hq;subst hq
 have auz:∀b,¬aW (λ_=>undef) (λ_=>none) (λ_=>False) b:=by
  rintro b (⟨id,o,ho,_⟩|hb);cases ho;exact hb
 have E:Emb (λ_=>none) ρ H (λ_=>False) (λ_=>undef) (λ_=>none) (aW (λ_=>undef) (λ_=>none) (λ_=>False)):=⟨λi j lR=>(by cases lR),λb hb=>(auz b hb).elim⟩;have hd2:=wx E h2 (h1 vs hd);have hd3:bM (λ_=>undef) (λ_=>none) (aW (λ_=>undef) (λ_=>none) (λ_=>False)) w (AL.av ts x) vs:=AL.pd h3 hd2;refine(h x (AL.okL hd3) hn (λ_=>False) w vs (λb hb=>hb.elim) hz.1 hd3).mono ?_;rintro e w' ⟨v,he,jO,g1,g2,g3,g4⟩;refine⟨v,he, ?_⟩;simp only[]
 have auA:rs.all Ty.qz=true:=by
  rw[all_eq_true]at adF ⊢;intro t ht;have:=adF t ht;cases t with
  |b y=>cases y<;>first|rfl|exact this|cases this
  |st bs=>
   change bs.all B.flat=true at this;show bs.all B.qz=true;rw[all_eq_true]at this ⊢;intro b hb;have:=this b hb;cases b<;>first|rfl|exact this|cases this
 have hpl:=AL.fm auA (x:=F x) (base:=0);have amb:(AL.res rs (F x)).1=(AL.out 0 rs (F x)).2:=rfl;rw[<-amb]at hpl;generalize hL:(AL.res rs (F x)).1=L at *
 have rh:∀b,Own jO (lk L) b->w.heap.size<=b:=λb hb=>by
  rcases g3.gu b (.inl hb)with h5|h5;exact(auz b h5).elim;exact h5
 let gy:Nat->Value:=λid=>if base<=id/\id<base+L.length then jO (id - base)else ρ id
 let H2:=c8 H [] base L;have hH2:∀id,H2 id=if base<=id/\id<base+L.length then L[id - base]? else H id:=λid=>rfl
 have sh:sq base L.length jO (lk L) gy H2:=⟨λi hi=>by simp only[gy];rw[if_pos (by omega)];congr 1;omega,λi hi=>by rw[hH2,if_pos (by omega)];simp[lk]⟩
 have hold:∀{id:Nat} {o:ak},H id=some o->¬(base<=id/\id<base+L.length):=λ{id o} ho hc=>by
  have:=dC (id - base) (by simp only[];omega);rw[show base+(id - base)=id from by omega,ho]at this;cases this
 have aaF:∀b,Own gy H2 b->Own jO (lk L) b\/Own ρ H b:=by
  rintro b ⟨id,o,ho,ha,hb⟩;rw[hH2]at ho;simp only[gy]at hb;split at ho;rename_i hc;rw[if_pos hc]at hb;exact .inl ⟨id - base,o,ho,ha,hb⟩;rename_i hc;rw[if_neg hc]at hb;exact .inr ⟨id,o,ho,ha,hb⟩
 have heap:∀b,b<w.heap.size->w'.heap[b]? =w.heap[b]? :=λb hb=>g4.heap b hb (λho=>auz b (.inl ho));have adG:w.heap.size<=w'.heap.size:=g3.size
 have st:Step ρ H (aW ρ H G) w gy H2 (aW gy H2 G) w':=by
  refine⟨λid o ho=> ?_,λid o ho=> ?_,λb hb=> ?_,λb hb _=>heap b hb,adG⟩;simp only[gy];rw[if_neg (hold ho)];exact⟨o,by rw[hH2,if_neg (hold ho)];exact ho,λc' e' hc=>⟨c',e',hc,rfl,rfl⟩⟩;rcases hb with hb|hb;rcases aaF b hb with h5|h5;exact .inr (rh b h5);exact .inl (.inl h5);exact .inl (.inr hb)
 refine⟨gy,⟨λid o ho=> ?_,λi j oi oj b hi hj ai aj bi bj=> ?_,λb hb hG=> ?_,λb hb=>Nat.lt_of_lt_of_le (hs.low b hb) adG⟩,aaE (.inl adF) (O:=aW jO (lk L) (λ_=>False)) (hL▸sh) (by rw[hL];exact g2),st,⟨g4.os,g4.tape,g4.output,λb hb _=>heap b hb⟩⟩;change H2 id=some o at ho;rw[hH2]at ho;simp only[gy];split at ho;rename_i hc;rw[if_pos hc];have dU:=g1.obj (id - base) o ho;obtain⟨r,y,e',hr,rfl⟩:=hpl o (List.mem_of_getElem? ho);have⟨a0,cap,k0,k1,k2,k3⟩:=dU;refine⟨a0,cap,k0,k1,k2,k3.imp (λh=>h) ?_⟩;rintro⟨b,f0,cells,fr,us,k4,k5,k6,k7,k8⟩;exact⟨b,f0,cells,fr,us,k4,k5,k6,k7,λi j hi hj=>⟨(k8 i j hi hj).1,RK.adE hr hj (k8 i j hi hj).2⟩⟩;rename_i hc;rw[if_neg hc];have dU:=hs.obj id o ho;refine dU.step st (λb ha hb=>heap b ?_);exact gS hs ⟨id,o,ho,ha,hb⟩;change H2 i=some oi at hi;change H2 j=some oj at hj;rw[hH2]at hi hj;simp only[gy]at bi bj;split at hi;rename_i ci;rw[if_pos ci]at bi;have o1:Own jO (lk L) b:=⟨_,oi,hi,ai,bi⟩;split at hj;rename_i cj;rw[if_pos cj]at bj;have:=g1.inj (i - base) (j - base) oi oj b hi hj ai aj bi bj;omega;rename_i cj;rw[if_neg cj]at bj;have:=gS hs ⟨j,oj,hj,aj,bj⟩;have:=rh b o1;omega;rename_i ci;rw[if_neg ci]at bi;have h6:=gS hs ⟨i,oi,hi,ai,bi⟩;split at hj;rename_i cj;rw[if_pos cj]at bj;have:=rh b ⟨_,oj,hj,aj,bj⟩;omega;rename_i cj;rw[if_neg cj]at bj;exact hs.inj i j oi oj b hi hj ai aj bi bj;rcases aaF b hb with h5|h5;have:=rh b h5;have:=hs.low b hG;omega;exact hs.apart b h5 hG;simp[RM.eval]at hq;simp[RM.eval]at hq;simp[RM.eval]at hq
abbrev aM:=List (FuncId×(Nat->List AV->RM bR))
def aM.get:aM->FuncId->Option (Nat->List AV->RM bR)
 |[],_=>none|(g,s)::t,f=>bif g.beq f then some s else aM.get t f
def aM.sum(t:aM):fI:=λbase f args=>match t.get f with
 |some s=>s base args|none=>.fail "no summary"
def aM.Ok(P:Program)(Z:bm)(t:aM):Prop:=∀x∈t,ri P Z x.1 x.2
theorem aM.get_mem:∀{t:aM} {f:FuncId} {s:Nat->List AV->RM bR},t.get f=some s->(f,s)∈t
 |[],f,s,h=>by simp[aM.get]at h
 |(g,s')::t,f,s,h=>by
  simp only[aM.get,cond_eq_ite]at h;split at h;rename_i hg;obtain rfl:=Nat.eq_of_beq_eq_true hg;cases h;simp;exact mem_cons_of_mem _ (aM.get_mem h)
theorem aM.sOk{t:aM}(h:t.Ok P Z):SOk P t.sum Z:=by
 intro base f args H q _ hq hn ρ G w vs hf hz hs hd;unfold aM.sum at hq;split at hq;rename_i s hg;exact h _ (aM.get_mem hg) base args H q hq hn ρ G w vs hf hz hs hd;simp[RM.eval]at hq
theorem aM.Ok.nil:aM.Ok P Z []:=λx hx=>by simp at hx
theorem aM.Ok.cons{f:FuncId}{s:Nat->List AV->RM bR}{t:aM}(h:ri P Z f s)(ht:aM.Ok P Z t):aM.Ok P Z ((f,s)::t):=by
 intro x hx;rcases mem_cons.1 hx with rfl|hx;exact h;exact ht x hx
end
def ah0(a:AV)(ids:List Nat)(k:AV->List Nat->RM bR):RM bR:=
 match a with
 |.vec id=>.look id λ
  |some (.vec c _)=>k (.s (.ro c)) (id::ids)|_=>.fail "frz"
 |a=>k a ids
def amc:List AV->List Nat->(List AV->List Nat->RM bR)->RM bR
 |[],ids,k=>k [] ids|a::aQ,ids,k=>ah0 a ids λa' ids=>amc aQ ids λdN ids=>k (a'::dN) ids
def amd(a:AV)(ids:List Nat)(k:AV->List Nat->RM bR):RM bR:=
 match a with
 |.agg az=>amc az ids λs ids=>k (.agg s) ids|a=>ah0 a ids k
def ame:List AV->List Nat->(List AV->List Nat->RM bR)->RM bR
 |[],ids,k=>k [] ids|a::aQ,ids,k=>amd a ids λa' ids=>ame aQ ids λdN ids=>k (a'::dN) ids
def xY(ts rs:List Ty)(pre:AL ts->List Prop)(F:AL ts->AL rs):Nat->List AV->RM bR:=λ_ args=>
 ame args [] λargs ids=>match allM (rn (λ_=>none) 20) args with
  |some args=>(match AL.rd ts args with
   |some x=>bif rs.all Ty.qz then .ret ⟨pre x,ids.map λi=>(i,.ax),(AL.res rs (F x)).1,λbase=>oneOf (AL.out base rs (F x)).1⟩else .fail "sum: not flat"|none=>.fail "sum: arguments")
  |none=>.fail "sum: names"
section
variable{ρ aN:Nat->Value}{H H':aT}{G O O':Nat->Prop}{w w':World}{P:Program}{Z:bm}
structure adH (ρ:Nat->Value) (H:aT) (G:Nat->Prop) (ids nY:List Nat):Prop where
 sub:∀i∈ids,i∈nY
 vec:∀i∈nY,i∈ids\/∃c e,H i=some (.vec c e)
abbrev lr(ρ:Nat->Value)(H:aT)(G:Nat->Prop)(ids:List Nat)(O:Nat->Prop):Prop:=(∀b,O b->aW ρ H G b)/\∀i∈ids,∀b,eZ (ρ i)=some b->¬O b
theorem adH.trans{a b c:List Nat}(h:adH ρ H G a b)(k:adH ρ H G b c):adH ρ H G a c:=
 ⟨λi hi=>k.sub i (h.sub i hi),λi hi=>(k.vec i hi).elim (λh1=>h.vec i h1) .inr⟩
theorem adI{a:AV}{ids:List Nat}{k:AV->List Nat->RM bR}{q:bR}(h:(ah0 a ids k).eval H=some q)(hs:Sat ρ H G w):
 ∃a' nY,(k a' nY).eval H=some q/\adH ρ H G ids nY/\∀O,lr ρ H G nY O->(∀v,af ρ H (aW ρ H G) w a v->af ρ H O w a' v)/\(∀cs,aR ρ H (aW ρ H G) w a cs->aR ρ H O w a' cs):=by
 have stp:∀O,lr ρ H G ids O->Step ρ H (aW ρ H G) w ρ H O w:=λO hO=>⟨λ_ _ _=>rfl,λ_ o h=>⟨o,h,λc' e' e=>⟨c',e',e,rfl,rfl⟩⟩,λb hb=>.inl (hO.1 b hb),λ_ _ _=>rfl,le_refl _⟩;unfold ah0 at h;split at h;rename_i id;simp only[RM.eval]at h;split at h;rename_i c e hc;have⟨r,cap,h0,h1,h2,h3⟩:=hs.obj id _ hc;refine⟨_,_,h,⟨λi hi=>by simp[hi],λi hi=> ?_⟩,λO hO=> ?_⟩;rcases mem_cons.1 hi with rfl|hi;exact .inr ⟨c,e,hc⟩;exact .inl hi
 have key:∀v,aO ρ H (aW ρ H G) w (.vec id) v->aX O w (.ro c) v:=by
  intro v hv;unfold aO at hv;have⟨_,o,ho,h4⟩:=hv;rw[hc]at ho;cases ho;rw[h4 c e rfl];have aaB:=hO.2 id (by simp);rw[h0]at aaB ⊢;rcases h3 with h3|⟨b,f,cells,fr,us,rfl,h5,h6,h7,h8⟩;exact .ro c r cap (λ_ _=>undef) 0 0 h1 h2 (λh=>by omega) (λi j hi hj=>by omega) (λi j hi hj=>by omega);by_cases zB:cap=0;exact .ro c _ cap (λ_ _=>undef) 0 0 h1 h2 (λh=>by omega) (λi j hi hj=>by omega) (λi j hi hj=>by omega);refine .ro c _ cap us b f h1 h2 (λ_=>⟨rfl,aaB b (by simp[eZ,zB]),(Array.getElem?_eq_some_iff.1 h5).1⟩) (λi j hi hj=> ?_) (λi j hi hj=>(h8 i j hi hj).2.less hO.1);have:=(h8 i j hi hj).1;simp only[World.cell?,h5];simpa using this
 exact⟨λv hv=>aF (key v (by unfold af at hv;exact hv)),λcs hv=>by unfold aR at *;obtain⟨u,rfl,h9⟩:=hv;exact⟨u,rfl,key u h9⟩⟩;simp[RM.eval]at h;exact⟨_,_,h,⟨λi hi=>hi,λi hi=>.inl hi⟩,λO hO=>⟨λv hv=>af.step (stp O hO) _ v hv,λcs hv=>aR.step (stp O hO) _ cs hv⟩⟩
theorem lr.sub{a b:List Nat}(h:∀i∈a,i∈b)(k:lr ρ H G b O):lr ρ H G a O:=⟨k.1,λi hi=>k.2 i (h i hi)⟩
theorem adJ:∀{aQ:List AV} {ids:List Nat} {k:List AV->List Nat->RM bR} {q:bR},(amc aQ ids k).eval H=some q->Sat ρ H G w->
 ∃dN nY,(k dN nY).eval H=some q/\adH ρ H G ids nY/\∀O,lr ρ H G nY O->∀cs,aA ρ H (aW ρ H G) w aQ cs->aA ρ H O w dN cs
 |[],ids,k,q,h,hs=>⟨[],ids,h,⟨λ_ h=>h,λ_ h=>.inl h⟩,λO _ cs hd=>by rw[aD.1 hd];exact aD.2 rfl⟩
 |a::aQ,ids,k,q,h,hs=>by
  have⟨a',i1,h1,f1,h2⟩:=adI h hs;have⟨dN,i2,h3,f2,h4⟩:=adJ h1 hs;refine⟨a'::dN,i2,h3,f1.trans f2,λO hO cs hd=> ?_⟩;obtain⟨c1,c2,rfl,h6,h7⟩:=ag.1 hd;exact ag.2 ⟨c1,c2,rfl,(h2 O (lr.sub f2.sub hO)).2 c1 h6,h4 O hO c2 h7⟩
theorem amf{a:AV}{ids:List Nat}{k:AV->List Nat->RM bR}{q:bR}(h:(amd a ids k).eval H=some q)(hs:Sat ρ H G w):
 ∃a' nY,(k a' nY).eval H=some q/\adH ρ H G ids nY/\∀O,lr ρ H G nY O->∀v,af ρ H (aW ρ H G) w a v->af ρ H O w a' v:=by
 unfold amd at h;split at h;have⟨dN,i1,h1,f1,h2⟩:=adJ h hs;refine⟨_,i1,h1,f1,λO hO v hd=> ?_⟩;unfold af at *;have⟨cs,h3,h4⟩:=hd;exact⟨cs,h3,h2 O hO cs h4⟩;have⟨a',i1,h1,f1,h2⟩:=adI h hs;exact⟨a',i1,h1,f1,λO hO=>(h2 O hO).1⟩
theorem adK:∀{aQ:List AV} {ids:List Nat} {k:List AV->List Nat->RM bR} {q:bR},(ame aQ ids k).eval H=some q->Sat ρ H G w->
 ∃dN nY,(k dN nY).eval H=some q/\adH ρ H G ids nY/\∀O,lr ρ H G nY O->∀cs,bM ρ H (aW ρ H G) w aQ cs->bM ρ H O w dN cs
 |[],ids,k,q,h,hs=>⟨[],ids,h,⟨λ_ h=>h,λ_ h=>.inl h⟩,λO _ cs hd=>by rw[ba.1 hd];exact ba.2 rfl⟩
 |a::aQ,ids,k,q,h,hs=>by
  have⟨a',i1,h1,f1,h2⟩:=amf h hs;have⟨dN,i2,h3,f2,h4⟩:=adK h1 hs;refine⟨a'::dN,i2,h3,f1.trans f2,λO hO cs hd=> ?_⟩;obtain⟨c1,c2,rfl,h6,h7⟩:=aE.1 hd;exact aE.2 ⟨c1,c2,rfl,h2 O (lr.sub f2.sub hO) c1 h6,h4 O hO c2 h7⟩
theorem vI:∀(ids:List Nat) (j:Nat),cz (ids.map λi=>(i,.ax)) j=if j∈ids then some .ax else none
 |[],j=>rfl|i::ids,j=>by
  simp only[map_cons,cz,vI ids j];by_cases h:j∈ids;simp[h];by_cases h2:j=i;subst h2;simp[h];simp[h,h2]
theorem dG.xY{f:FuncId}{ts rs:List Ty}{pre:AL ts->List Prop}{F:AL ts->AL rs}(h:dG P Z f ts rs pre F):ri P Z f (xY ts rs pre F):=by
 intro base args H q hq hn ρ G w vs dC hz hs hd;unfold Sx.xY at hq;have⟨aw9,ids,hq,hf,h1⟩:=adK hq hs;split at hq;rename_i axa h2;split at hq;rename_i x h3;rw[cond_eq_ite]at hq;split at hq;rename_i adF;simp only[RM.eval,Option.some.injEq]at hq;subst hq;have tW:∀i∈ids,∃c e,H i=some (.vec c e):=λi hi=>(hf.vec i hi).elim (λh=>by simp at h) (λh=>h);let Gc:Nat->Prop:=λb=>aW ρ H G b/\∀i∈ids,eZ (ρ i)≠some b
 have auB:∀b,aW (λ_=>undef) (λ_=>none) Gc b->Gc b:=by
  rintro b (⟨id,o,ho,_⟩|hb);cases ho;exact hb
 have aaB:lr ρ H G ids (aW (λ_=>undef) (λ_=>none) Gc):=⟨λb hb=>(auB b hb).1,λi hi b hb hO=>(auB b hO).2 i hi hb⟩;have E:Emb (λ_=>none) ρ H (aW (λ_=>undef) (λ_=>none) Gc) (λ_=>undef) (λ_=>none) (aW (λ_=>undef) (λ_=>none) Gc):=⟨λi j lR=>(by cases lR),λb hb=>hb⟩;have hd2:=wx E h2 (h1 _ aaB vs hd);have hd3:bM (λ_=>undef) (λ_=>none) (aW (λ_=>undef) (λ_=>none) Gc) w (AL.av ts x) vs:=AL.pd h3 hd2;refine(h x (AL.okL hd3) hn Gc w vs (λb hb=>abp hs hb.1) hz.1 hd3).mono ?_;rintro e w' ⟨v,he,jO,g1,g2,g3,g4⟩;refine⟨v,he, ?_⟩;simp only[];have hpl:=AL.fm adF (x:=F x) (base:=0);have amb:(AL.res rs (F x)).1=(AL.out 0 rs (F x)).2:=rfl;rw[<-amb]at hpl;generalize hL:(AL.res rs (F x)).1=L at *
 have rh:∀b,Own jO (lk L) b->w.heap.size<=b:=λb hb=>by
  rcases g3.gu b (.inl hb)with h5|h5;exact(g1.apart b hb (auB b h5)).elim;exact h5
 let gy:Nat->Value:=λid=>if base<=id/\id<base+L.length then jO (id - base)else ρ id
 let H2:=c8 H (ids.map λi=>(i,.ax)) base L
 have hold:∀{id:Nat} {o:ak},H id=some o->¬(base<=id/\id<base+L.length):=λ{id o} ho hc=>by
  have:=dC (id - base) (by simp only[];omega);rw[show base+(id - base)=id from by omega,ho]at this;cases this
 have hH2:∀id,H2 id=if id∈ids then some .ax else if base<=id/\id<base+L.length then L[id - base]? else H id:=λid=>by
  simp only[H2,c8,vI];split;rename_i hx;split at hx;rename_i hi;cases hx;rw[if_pos hi];cases hx;rename_i hx;split at hx;cases hx;rename_i hi;rw[if_neg hi]
 have at2:∀id,id∈ids->¬(base<=id/\id<base+L.length):=λid hi=>by
  have⟨c,e,hce⟩:=tW id hi;exact hold hce
 have sh:sq base L.length jO (lk L) gy H2:=⟨λi hi=>by simp only[gy];rw[if_pos (by omega)];congr 1;omega,λi hi=>by
  rw[hH2,if_neg (λhm=>at2 _ hm ⟨by omega,by omega⟩),if_pos (by omega)];simp[lk]⟩
 have xZ:∀{id:Nat} {o:ak},H2 id=some o->o.alive=true->(base<=id/\id<base+L.length/\L[id - base]? =some o/\gy id=jO (id - base))\/(id ∉ ids/\H id=some o/\gy id=ρ id):=by
  intro id o ho ha;rw[hH2]at ho;split at ho;cases ho;cases ha;rename_i hi;split at ho;rename_i hc;exact .inl ⟨hc.1,hc.2,ho,by simp only[gy];rw[if_pos hc]⟩;rename_i hc;exact .inr ⟨hi,ho,by simp only[gy];rw[if_neg hc]⟩
 have azJ:∀{id:Nat} {o:ak} {b:Nat},id ∉ ids->H id=some o->o.alive=true->eZ (ρ id)=some b->∀i∈ids,eZ (ρ i)≠some b:=by
  intro id o b dt ho ha hb i hi hb2;have⟨c,e,hce⟩:=tW i hi;have:=hs.inj id i o _ b ho hce ha rfl hb hb2;exact dt (this▸hi)
 have aaF:∀b,Own gy H2 b->Own jO (lk L) b\/(Own ρ H b/\∀i∈ids,eZ (ρ i)≠some b):=by
  rintro b ⟨id,o,ho,ha,hb⟩;rcases xZ ho ha with⟨_,_,h5,h6⟩|⟨h5,h6,h7⟩;rw[h6]at hb;exact .inl ⟨id - base,o,h5,ha,hb⟩;rw[h7]at hb;exact .inr ⟨⟨id,o,h6,ha,hb⟩,azJ h5 h6 ha hb⟩
 have axb:∀b,aW gy H2 G b->aW jO (lk L) Gc b:=by
  rintro b (hb|hb);rcases aaF b hb with h5|h5;exact .inl h5;exact .inr ⟨.inl h5.1,h5.2⟩;refine .inr ⟨.inr hb,λi hi mq=> ?_⟩;have⟨c,e,hce⟩:=tW i hi;exact hs.apart b ⟨i,_,hce,rfl,mq⟩ hb
 have heap:∀b,b<w.heap.size->w'.heap[b]? =w.heap[b]? :=λb hb=>g4.heap b hb (λ⟨id,o,ho,_⟩=>by cases ho);have adG:w.heap.size<=w'.heap.size:=g3.size
 have st:Step ρ H (aW ρ H G) w gy H2 (aW gy H2 G) w':=by
  refine⟨λid o ho=> ?_,λid o ho=> ?_,λb hb=> ?_,λb hb _=>heap b hb,adG⟩;simp only[gy];rw[if_neg (hold ho)];by_cases hi:id∈ids;exact⟨.ax,by rw[hH2,if_pos hi],λc' e' hc=>by cases hc⟩;exact⟨o,by rw[hH2,if_neg hi,if_neg (hold ho)];exact ho,λc' e' hc=>⟨c',e',hc,rfl,rfl⟩⟩;rcases hb with hb|hb;rcases aaF b hb with h5|h5;exact .inr (rh b h5);exact .inl (.inl h5.1);exact .inl (.inr hb)
 refine⟨gy,⟨λid o ho=> ?_,λi j oi oj b hi hj ai aj bi bj=> ?_,λb hb hG=> ?_,λb hb=>Nat.lt_of_lt_of_le (hs.low b hb) adG⟩,aaE (.inr axb) (O:=aW jO (lk L) Gc) (hL▸sh) (by rw[hL];exact g2),st,⟨g4.os,g4.tape,g4.output,λb hb _=>heap b hb⟩⟩;cases xg:o.alive;cases o with
 |ax=>trivial|aq _ _=>cases xg
 |vec _ _=>cases xg
 |map _ _=>cases xg
 |im _ _ _=>cases xg
 |iter _ _ _ _ _=>cases xg
 rcases xZ ho xg with⟨_,_,h5,h6⟩|⟨h5,h6,h7⟩;rw[h6];have dU:=g1.obj (id - base) o h5;obtain⟨r,y,e',hr,rfl⟩:=hpl o (List.mem_of_getElem? h5);have⟨a0,cap,k0,k1,k2,k3⟩:=dU;refine⟨a0,cap,k0,k1,k2,k3.imp (λh=>h) ?_⟩;rintro⟨b,f0,cells,fr,us,k4,k5,k6,k7,k8⟩;exact⟨b,f0,cells,fr,us,k4,k5,k6,k7,λi j hi hj=>⟨(k8 i j hi hj).1,RK.adE hr hj (k8 i j hi hj).2⟩⟩;rw[h7];exact(hs.obj id o h6).step st (λb ha hb=>heap b (gS hs ⟨id,o,h6,ha,hb⟩));rcases xZ hi ai with⟨i1,i2,i3,i4⟩|⟨i1,i2,i3⟩;rw[i4]at bi;rcases xZ hj aj with⟨j1,j2,j3,j4⟩|⟨j1,j2,j3⟩;rw[j4]at bj;have:=g1.inj (i - base) (j - base) oi oj b i3 j3 ai aj bi bj;omega;rw[j3]at bj;have:=gS hs ⟨j,oj,j2,aj,bj⟩;have:=rh b ⟨_,oi,i3,ai,bi⟩;omega;rw[i3]at bi;rcases xZ hj aj with⟨j1,j2,j3,j4⟩|⟨j1,j2,j3⟩;rw[j4]at bj;have:=gS hs ⟨i,oi,i2,ai,bi⟩;have:=rh b ⟨_,oj,j3,aj,bj⟩;omega;rw[j3]at bj;exact hs.inj i j oi oj b i2 j2 ai aj bi bj;rcases aaF b hb with h5|h5;have:=rh b h5;have:=hs.low b hG;omega;exact hs.apart b h5.1 hG;simp[RM.eval]at hq;simp[RM.eval]at hq;simp[RM.eval]at hq
end
def slF:Nat->Nat->List (Nat×AV)->List AV
 |0,_,_=>[]|n+1,i,[]=>.s .aZ::slF n (i+1) []|n+1,i,(j,a)::l=>bif j.beq i then a::slF n (i+1) l else .s .aZ::slF n (i+1) ((j,a)::l)
def sl(n:Nat)(l:List (Nat×AV)):List AV:=slF n 0 l
def ga:Code->Option Nat
 |.region id _ _=>some id|.seq a b=>match ga a with
  |some i=>some i|none=>ga b
 |.cond _ a b=>match ga a with
  |some i=>some i|none=>ga b
 |.block _ c|.loop c|.scope c=>ga c|_=>none
def ny(key:Nat):Code->List Item->Option (List Item)
 |.seq a b,k=>match ny key a (.code b::k)with
  |some r=>some r|none=>ny key b k
 |.cond _ a b,k=>match ny key a k with
  |some r=>some r|none=>ny key b k
 |.block id c,k=>ny key c (.inBlock id::k)|.scope c,k=>ny key c (.inScope c::k)|.loop c,k=>match ga c with
  |some i=>bif i.beq key then some (.code c::.inLoop c::k)else ny key c (.inLoop c::k)|none=>ny key c (.inLoop c::k)
 |_,_=>none
def hd(fn:Func)(key:Nat):List Item:=(ny key (fn.body.getD .skip) []).getD []
def jP(key:Nat):Code->List Item->Option (List Item)
 |.region id ops d,k=>bif id.beq key then some (.code (.region id ops d)::k)else none|.seq a b,k=>match jP key a (.code b::k)with
  |some r=>some r|none=>jP key b k
 |.cond _ a b,k=>match jP key a k with
  |some r=>some r|none=>jP key b k
 |.block id c,k=>jP key c (.inBlock id::k)|.scope c,k=>jP key c (.inScope c::k)|.loop c,k=>jP key c (.inLoop c::k)|_,_=>none
def hr(fn:Func)(key:Nat):List Item:=(jP key (fn.body.getD .skip) []).getD []
def keyOf(c:bP):Nat:=match c.todo with
 |.code x::_=>ahy c.stk ((ga x).getD 0)|.inRegion ops todo::_=>alQ c.stk c.stk.rid (ops.size - todo.length)|_=>0
def akc:List (Nat×Norm)->Nat->Option Norm
 |[],_=>none|(i,n)::l,k=>bif i.beq k then some n else akc l k
def axc:List Item->Bool
 |.inRegion _ _::_=>true|_=>false
def Tree.norm(ns:List (Nat×Norm)):Tree->Tree
 |.ab p t=>.ab p (t.norm ns)|.ite b t e=>.ite b (t.norm ns) (e.norm ns)|.both p q t e=>.both p q (t.norm ns) (e.norm ns)|.ret H v=>.ret H v|.stuck w=>.stuck w|.at c=>bif axc c.todo&&(akc ns (keyOf c)).isNone then .at c else match akc ns (keyOf c)with
  |some N=>(match N.run c with
   |some c'=>.at c'|none=>.stuck "norm")
  |none=>.stuck "no norm"
def amg:List (Nat×Norm)->Nat->Bool
 |[],_=>false|(i,_)::l,k=>i.beq k||amg l k
def asR:List FuncId->FuncId->Bool
 |[],_=>false|f::l,g=>f.beq g||asR l g
def run(P:Program)(S:fI)(fn:Func)(ns:List (Nat×Norm))(c:bP)(inl:List FuncId:=[]):Tree:=(exec P S fn (amg ns) (asR inl) 1000 true c).norm ns
def sr(fn:Func)(key i:Nat):List Item:=
 match hr fn key with
 |.code (.region _ ops _)::k=>.inRegion ops (range' i (ops.size - i))::k|_=>[]
def jZ(fn:Func)(f:Option FuncId)(key i:Nat)(round:Bool)(marks:Nat):tH:=⟨f,fn.ntmps,round,marks,none,sr fn key i,(key,i)⟩
def l8(key:Nat):Code->List Item->Option (Lp×List Item)
 |.rangeFunc _ ps asg body,k=>match iH body with
  |some i=>bif i.beq key then some (⟨ps.toList,asg,body⟩,k)else none|none=>bif key.beq 0 then some (⟨ps.toList,asg,body⟩,k)else none
 |.seq a b,k=>match l8 key a (.code b::k)with
  |some r=>some r|none=>l8 key b k
 |.cond _ a b,k=>match l8 key a k with
  |some r=>some r|none=>l8 key b k
 |.block id c,k=>l8 key c (.inBlock id::k)|.scope c,k=>l8 key c (.inScope c::k)|.loop c,k=>l8 key c (.inLoop c::k)|_,_=>none
def su(fn:Func)(f:Option FuncId)(key:Nat)(marks:Nat):tH:=
 match l8 key (fn.body.getD .skip) []with
 |some p=>⟨f,fn.ntmps,false,marks,some (p.1,.ready),p.2,(key,0)⟩|none=>⟨f,fn.ntmps,false,marks,none,[],(key,0)⟩
section
variable{P:Program}{S:fI}{Z:bm}{X:Ctx}{K:List ak->AV->Prop}{C C':bP->Prop}
theorem adL:∀{l:List (Nat×Norm)} {k:Nat} {N:Norm},akc l k=some N->∃i,(i,N)∈l
 |[],k,N,h=>by simp[akc]at h
 |(i,n)::l,k,N,h=>by
  simp only[akc,cond_eq_ite]at h;split at h;cases h;exact⟨i,by simp⟩;have⟨j,hj⟩:=adL h;exact⟨j,by simp[hj]⟩
theorem jk{ns:List (Nat×Norm)}{f:FuncId}(h0:∀x∈ns,∀id,x.2.m<=id->X.H id=none):∀(t:Tree),(t.norm ns).Holds K (Safe P f X K)->t.Holds K (Safe P f X K)
 |.ab p t,h=>⟨h.1,jk h0 t h.2⟩|.ite b t e,h=>⟨λhb=>jk h0 t (h.1 hb),λhb=>jk h0 e (h.2 hb)⟩|.both _ _ t e,h=>⟨λhp=>jk h0 t (h.1 hp),λhq=>jk h0 e (h.2 hq)⟩|.ret H v,h=>h|.stuck w,h=>h|.at c,h=>by
  unfold Tree.norm at h;rw[cond_eq_ite]at h;split at h;exact h;split at h;rename_i N hN;split at h;rename_i c' hc;have⟨i,hi⟩:=adL hN;exact Norm.safe (h0 _ hi) hc h;exact h.elim;exact h.elim
theorem bg{rs:List Ty}{y:AL rs}(y':AL rs){L:List ak}{r:AV}(h:y=y')(hc:apX (rs.flatMap Ty.ces) L r=some (AL.res rs y')):Ends rs y L r:=by
 subst h;exact hc
theorem cV{f:FuncId}{fn:Func}{ns:List (Nat×Norm)}{c:bP}{t:Tree}(hS:SOk P S Z)(nX:eb Z X)(hm:P.follows .mixedOrders=true)(hf:P.funcs[f]? =some fn)(h0:∀x∈ns,∀id,x.2.m<=id->X.H id=none)
 {inl:List FuncId} (ht:run P S fn ns c inl=t) (h:t.Holds K (Safe P f X K)):Safe P f X K c:=by
 subst ht;exact gj hS nX hm hf 1000 true c (jk h0 _ h)
theorem pV{f:FuncId}{ι:Type}(c:ι->bP)(I:ι->Prop)(m:ι->Nat)(h:∀x,I x->(∀y,I y->m y<m x->Safe P f X K (c y))->Safe P f X K (c x)):∀x,I x->Safe P f X K (c x):=by
 intro x
 induction hn:m x using Nat.strongRecOn generalizing x with
 |ind n ih=>
  intro hx;subst hn;exact h x hx (λy hy bq=>ih (m y) bq y rfl hy)
end
end Go.Sx
namespace Go.Sx
open Go Go.RowKit Go.ChangeShapes Go.WideShapes Go.ChangeAt
section
variable{H:Type}{enc:TypeId×Value->H}{P:Program}{W W':World}{Z:bm}{base:Nat}{ρ:Nat->Value}{Hh:aT}{O:Nat->Prop}
structure akd (W W':World):Prop where
 os:W'.os=W.os
 output:W'.output=W.output
 heap:∀b,b<W.heap.size->W'.heap[b]? =W.heap[b]?
theorem akd.at(h:akd W W'){p:MemPlace}(hp:p.block<W.heap.size):W.sameAt W' p:=by
 have e:=h.heap p.block hp;cases p with
 |cell b o=>exact(ni (o:=o) e)|map b=>exact e
theorem abY{ts:List TypeId}(hl:laidOutB P=true)(hp:ts.all (λt=>P.readableRec t&&decide (t<P.types.size))=true){sp':Nat->Bool}(hs:akd W W'):∀{vs:List Value} {ds:List (DataW H)} {ps:List MemPlace},
 DataW.TrodAll enc P W 0 (λ_=>true) true ts vs ds ps->(∀p∈ps,p.block<W.heap.size)->(∀p∈ps,sp' p.block=true)->DataW.TrodAll enc P W' 0 sp' true ts vs ds ps:=by
 induction ts with
 |nil=>intro vs ds ps h _ _;cases vs<;>cases ds<;>simp[DataW.TrodAll]at h ⊢;exact h
 |cons t ts ih=>
  intro vs ds ps h bq hsp;simp only[all_cons,and_eq_true,decide_eq_true_eq]at hp;obtain⟨v,vs',d,ds',p,q,rfl,rfl,rfl,h1,h2⟩:=trodAll_cons h;refine⟨p,q, ?_,ih hp.2 h2 (λx hx=>bq x (by simp[hx])) (λx hx=>hsp x (by simp[hx])),rfl⟩;exact WideElems.Trod_stays hl hp.1.1 hp.1.2 h1 (λx hx=>hs.at (bq x (by simp[hx]))) (λx hx=>hsp x (by simp[hx]))
theorem ake(hs:akd W W')(may:MemPlace->Prop):W.keptBut W' may:=by
 refine⟨hs.os,hs.output,λi hi=> ?_⟩;rw[hs.heap i hi,Array.getElem?_eq_getElem hi];cases h:W.heap[i]with
 |cells c t fr=>exact⟨rfl,rfl,rfl,λ_ _=>rfl⟩|map es clock=>exact .inr ⟨rfl,rfl⟩|_=>rfl
theorem akf{fn:Func}{s:ChangeSpec}{apart fresh handsOn:Bool}{args:Array Value}{ds gs:List (DataW H)}{before:List MemPlace}{tb:TypeId}
 (hl:laidOutB P=true) (hp:fn.params.toList.all (λt=>P.readableRec t&&decide (t<P.types.size))=true)
 (hr:fn.resultTypes= #[tb]) (hb:P.underlying tb=some .bool) (hv:s.vars=[])
 (hs:s.fn H ds={results:=[.lit (.bool true)],args:=ds})
 (hW:DataW.Whole enc P fn.params.toList s.vars apart W args.toList ds gs before) (ah1:akd W W'):
 s.post enc P fn apart fresh handsOn false W args (.bool true) W':=by
 have hW':=hW;obtain⟨p,q,h1,h2,rfl,_,_⟩:=hW;rw[hv]at h2;obtain⟨rfl,rfl⟩:=trodVars_none h2;have bq:∀x∈p,x.block<W.heap.size:=λx hx=>hW'.lt x (by simp[hx]);refine⟨ds,[],p++[],[],p,[],hW', ?_, ?_, ?_,ake ah1 _,λh=>by cases h⟩;rw[append_nil,hs,hr];exact trodAll_mk1 (shut_bool hb true);rw[append_nil,hs];exact abY hl hp ah1 h1 bq (λx hx=>by simpa using bq x hx);rw[hv,append_nil,hs];rfl
end
def adM(P:Program)(rec:TypeId->Option (List CK)):List Field->Nat->Option (List CK)
 |[],_=>some []|f::fs,off=>match rec f.type with
  |some cs=>bif f.offset.beq off&&(P.cellsOf f.type).beq (CL.wide cs)then(adM P rec fs (off+CL.wide cs)).map (cs++ ·)else none|none=>none
def vY(P:Program):Nat->TypeId->Option (List CK)
 |0,_=>none|d+1,t=>
  match P.underlying t with
  |some (.int k)=>some [.int k]|some .bool=>some [.bool]|some .string=>some [.str]|some (.slice e)=>(match P.underlying e with
   |some (.int k)=>bif (P.cellsOf e).beq 1 then some [.ah k]else none|some .string=>bif (P.cellsOf e).beq 1 then some [.strs]else none|some .bool=>bif (P.cellsOf e).beq 1 then some [.bG]else none|_=>(vY P d e).bind λcs=>bif (P.cellsOf e).beq (CL.wide cs)&&(1:Nat).ble (CL.wide cs)then some [.rows cs]else none)
  |some (.struct fs)=>(adM P (vY P d) fs.toList 0).bind λcs=>bif (P.cellsOf t).beq (CL.wide cs)then some cs else none|some (.array n e)=>(match P.underlying e with
   |some (.int k)=>bif (P.cellsOf e).beq 1&&(P.cellsOf t).beq n then some [.arr k n]else none|_=>none)
  |_=>none
mutual
def CK.wf:(c:CK)->c.V->Prop
 |.int k,n=>(Lit.int k n).wf=true|.bool,_=>True|.str,s=>ByteArray.size s<=maxLen|.ah k,zs=>List.length (show List Int from zs)<=maxLen/\∀n∈(show List Int from zs),(Lit.int k n).wf=true|.strs,ss=>List.length (show List ByteArray from ss)<=maxLen/\∀s∈(show List ByteArray from ss),s.size<=maxLen|.bG,bs=>List.length (show List Bool from bs)<=maxLen|.rows cs,xs=>List.length (show List (CL cs)from xs)<=maxLen/\∀x∈(show List (CL cs)from xs),CL.wf cs x|.arr k n,ws=>List.length (α:=Int) ws=n/\∀m∈(show List Int from ws),(Lit.int k m).wf=true
def CL.wf:(cs:List CK)->CL cs->Prop
 |[],_=>True|c::cs,x=>c.wf x.1/\CL.wf cs x.2
end
def CL.app:(aQ:List CK)->{bs:List CK}->CL aQ->CL bs->CL (aQ++bs)
 |[],_,_,y=>y|_::aQ,_,x,y=>(x.1,CL.app aQ x.2 y)
theorem CL.adN:∀(aQ bs:List CK),CL.wide (aQ++bs)=CL.wide aQ+CL.wide bs
 |[],bs=>by simp[CL.wide]
 |a::aQ,bs=>by simp only[cons_append,CL.wide,CL.adN aQ bs];omega
theorem abZ{i n:Nat}(h:i<n):i.blt n=true:=by simpa[Nat.blt,Nat.lt_iff_add_one_le]using h
theorem ags{i n:Nat}(h:n<=i):i.blt n=false:=by
 cases hb:i.blt n;rfl;have:i<n:=by simpa[Nat.blt,Nat.lt_iff_add_one_le]using hb
 omega
theorem CL.aaG:∀(aQ:List CK) {bs:List CK} (x:CL aQ) (y:CL bs) {j:Nat},j<CL.wide aQ->CL.cell (aQ++bs) (CL.app aQ x y) j=CL.cell aQ x j
 |[],_,_,_,j,h=>by simp[CL.wide]at h
 |a::aQ,bs,x,y,j,h=>by
  simp only[cons_append,CL.cell,CL.app];rcases lt_or_ge j a.wide with h1|h1;rw[abZ h1];rfl;rw[ags h1];simp only[cond_false];exact CL.aaG aQ x.2 y (by simp only[CL.wide]at h;omega)
theorem CL.aaH:∀(aQ:List CK) {bs:List CK} (x:CL aQ) (y:CL bs) {j:Nat},CL.wide aQ<=j->CL.cell (aQ++bs) (CL.app aQ x y) j=CL.cell bs y (j - CL.wide aQ)
 |[],_,_,_,j,h=>by simp[CL.wide,CL.app]
 |a::aQ,bs,x,y,j,h=>by
  simp only[CL.wide]at h;simp only[cons_append,CL.cell,CL.app];rw[ags (by omega)];simp only[cond_false,CL.wide];rw[CL.aaH aQ x.2 y (by omega)];congr 1;omega
theorem CL.amh:∀(aQ:List CK) {bs:List CK} (x:CL aQ) (y:CL bs),CL.wf aQ x->CL.wf bs y->CL.wf (aQ++bs) (CL.app aQ x y)
 |[],_,_,_,_,h=>h|a::aQ,bs,x,y,h1,h2=>by
  simp only[CL.wf]at h1;simp only[cons_append,CL.wf,CL.app];exact⟨h1.1,CL.amh aQ x.2 y h1.2 h2⟩
theorem auC{α β:Type}(f:α->β)(xs:List α)(d:β)(da:α){i:Nat}(hi:i<xs.length):(xs.map f).getD i d=f (xs.getD i da):=by simp[List.getD,hi]
theorem ab0{α:Type}{p:Nat->α->Prop}:∀(n:Nat),(∀i,i<n->∃y,p i y)->∃xs:List α,xs.length=n/\∀i (h:i<xs.length),p i xs[i]
 |0,_=>⟨[],rfl,λi h=>by simp at h⟩
 |n+1,h=>by
  have⟨xs,h1,h2⟩:=ab0 n (λi hi=>h i (by omega));have⟨y,hy⟩:=h n (by omega);refine⟨xs++[y],by simp[h1],λi hi=> ?_⟩;by_cases bq:i<xs.length;rw[List.getElem_append_left bq];exact h2 i bq;have:i=n:=by simp at hi;omega
  subst this;rw[List.getElem_append_right (by omega)];simpa[h1]using hy
section
variable{H:Type}{enc:TypeId×Value->H}{P:Program}{W:World}{base:Nat}{ρ:Nat->Value}{Hh:aT}
abbrev FD(W:World)(cs:List CK)(y:CL cs)(get:Nat->Option Value):Prop:=∀j,j<CL.wide cs->∃u,get j=some u/\aX (λ_=>False) W (CL.cell cs y j) u
theorem ah2{d n:Nat}{cells:List Value}(ih:∀{t:TypeId} {cs:List CK} {fuel:Nat} {cells:List Value} {x:DataW H×List MemPlace},vY P d t=some cs->DataW.trod enc P W 0 (λ_=>true) true fuel t cells=some x->
 cells.length=CL.wide cs/\∃y:CL cs,CL.wf cs y/\FD W cs y λj=>cells[j]?):
 ∀(fs:List Field) {off:Nat} {cs:List CK},adM P (vY P d) fs off=some cs->(∀f∈fs,∃x,DataW.trod enc P W 0 (λ_=>true) true n f.type ((cells.drop f.offset).take (P.cellsOf f.type))=some x)->
  ∃y:CL cs,CL.wf cs y/\FD W cs y λj=>cells[off+j]?
 |[],off,cs,h,_=>by
  simp only[adM,Option.some.injEq]at h;subst h;exact⟨(),trivial,λj hj=>by simp[CL.wide]at hj⟩
 |f::fs,off,cs,h,hx=>by
  simp only[adM]at h;split at h;rename_i c1 hc1;rw[cond_eq_ite]at h;split at h;rename_i hb;simp only[and_eq_true,beq_eq]at hb;have⟨ho,hw⟩:=hb;obtain⟨c2,hc2,rfl⟩:=map_eq_some_iff.1 h;have⟨x,hf⟩:=hx f (by simp);have⟨h1,y1,h2,h3⟩:=ih hc1 hf;have⟨y2,h4,h5⟩:=ah2 ih fs hc2 (λg hg=>hx g (by simp[hg]));refine⟨CL.app c1 y1 y2,CL.amh c1 y1 y2 h2 h4,λj hj=> ?_⟩;rw[CL.adN]at hj;rcases lt_or_ge j (CL.wide c1)with h6|h6;have⟨u,h7,h8⟩:=h3 j h6;refine⟨u, ?_,by rw[CL.aaG c1 y1 y2 h6];exact h8⟩;dsimp only at h7 ⊢;rw[getElem?_take,if_pos (by omega),List.getElem?_drop,ho]at h7;exact h7;have⟨u,h7,h8⟩:=h5 (j - CL.wide c1) (by omega);refine⟨u, ?_,by rw[CL.aaH c1 y1 y2 h6];exact h8⟩;dsimp only at h7 ⊢;rw[show off+j=off+CL.wide c1+(j - CL.wide c1)from by omega];exact h7;cases h;cases h
theorem sw{t e:TypeId}{cs:List CK}{fuel:Nat}{cells:List Value}{x:DataW H×List MemPlace}(ht:P.underlying t=some (.slice e))(hw:P.cellsOf e=CL.wide cs)(h1:1<=CL.wide cs)
 (ih:∀{fuel:Nat} {cells:List Value} {x:DataW H×List MemPlace},DataW.trod enc P W 0 (λ_=>true) true fuel e cells=some x->cells.length=CL.wide cs/\∃y:CL cs,CL.wf cs y/\FD W cs y λj=>cells[j]?)
 (h:DataW.trod enc P W 0 (λ_=>true) true fuel t cells=some x):
 ∃(v:Value) (xs:List (CL cs)),cells=[v]/\xs.length<=maxLen/\(∀y∈xs,CL.wf cs y)/\aX (λ_=>False) W (.ro (.au cs xs)) v:=by
 rcases DataW.trod_slice ht h with⟨rfl,_⟩|⟨a,len,cap,elems,rest,n,_,rfl,_,_,hl,hm,bC,hel,_,_⟩;exact⟨_,[],rfl,zero_le _,by simp,.ro (.au cs []) none 0 (λ_ _=>undef) 0 0 (le_refl _) (zero_le _) (λh=>by simp[aV.n]at h) (λi j hi hj=>by simp[aV.n]at hi) (λi j hi hj=>by simp[aV.n]at hi)⟩
 have each:∀i,i<len->∃y:CL cs,CL.wf cs y/\FD W cs y λj=>W.cell? ((a.add (i*CL.wide cs)).add j):=by
  intro i hi;have h2:=hel i hi;rw[getElem?_eq_getElem (by omega),hw]at h2;have⟨cl,h3,h4⟩:=bind_eq_some_iff.1 h2;have⟨_,h5,h6⟩:=World.cells?_some h3;have⟨_,y,h7,h8⟩:=ih h4;refine⟨y,h7,λj hj=> ?_⟩;have⟨u,h9,vW⟩:=h8 j hj;exact⟨u,by dsimp only;rw[h6 j (by omega)];exact h9,vW⟩
 have⟨xs,hx1,hx2⟩:=ab0 len each;refine⟨_,xs,rfl,by omega,λy hy=> ?_, ?_⟩;obtain⟨i,hi,rfl⟩:=List.getElem_of_mem hy;exact(hx2 i hi).1;have hn:(aV.au cs xs).n=len:=hx1;rcases Nat.eq_zero_or_pos len with h0|h0;have key:=aX.ro (O:=λ_=>False) (w:=W) (.au cs xs) (some a) cap (λ_ _=>undef) 0 0 (by omega) hm (λh=>by omega) (λi j hi hj=>by omega) (λi j hi hj=>by omega);rw[hn]at key;exact key
 have asS:a.spot=none:=by
  have⟨u,h9,_⟩:=(hx2 0 (by omega)).2 0 (by omega);simpa[Addr.add]using World.cell?_spot h9
 have⟨b,off,spot⟩:=a;simp only at asS;subst asS
 have hc:∀i j,i<len->j<CL.wide cs->∃u,W.cell? ⟨b,off+i*CL.wide cs+j,none⟩=some u/\aX (λ_=>False) W (CL.cell cs (xs.getD i (CL.d cs)) j) u:=by
  intro i j hi hj;have⟨u,h9,vW⟩:=(hx2 i (by omega)).2 j hj;dsimp only at h9;rw[bd,bd]at h9;exact⟨u,h9,by simpa[List.getD,hx1,hi]using vW⟩
 have key:=aX.ro (O:=λ_=>False) (w:=W) (.au cs xs) (some ⟨b,off,none⟩) cap (λi j=>(W.cell? ⟨b,off+i*CL.wide cs+j,none⟩).getD undef) b off (by omega) hm (λ_=>⟨rfl,λh=>h, ?_⟩) (λi j hi hj=> ?_) (λi j hi hj=> ?_);rw[hn]at key;exact key;have⟨u,h9,_⟩:=hc 0 0 h0 (by omega);rcases lt_or_ge b W.heap.size with h2|h2;exact h2;simp[World.cell?,Array.getElem?_eq_none h2]at h9;have⟨u,h9,_⟩:=hc i j (by omega) hj;show W.cell? ⟨b,off+i*CL.wide cs+j,none⟩=_;rw[h9];rfl;have⟨u,h9,vW⟩:=hc i j (by omega) hj;rw[h9];exact vW
theorem wA:∀(d:Nat) {t:TypeId} {cs:List CK} {fuel:Nat} {cells:List Value} {x:DataW H×List MemPlace},vY P d t=some cs->DataW.trod enc P W 0 (λ_=>true) true fuel t cells=some x->
 cells.length=CL.wide cs/\∃y:CL cs,CL.wf cs y/\FD W cs y λj=>cells[j]?
 |0,t,cs,fuel,cells,x,h,_=>by simp[vY]at h
 |d+1,t,cs,fuel,cells,x,h,hd=>by
  simp only[vY]at h
  have one:∀{c:CK} {v:Value} (y:c.V),c.wide=1->CK.wf c y->aX (λ_=>False) W (c.cell y 0) v->([v]:List Value).length=CL.wide [c]/\∃y:CL [c],CL.wf [c] y/\FD W [c] y λj=>([v]:List Value)[j]? :=by
   intro c v y hw hy hv;refine⟨by simp[CL.wide,hw],(y,()),⟨hy,trivial⟩,λj hj=> ?_⟩;simp only[CL.wide,hw]at hj;obtain rfl:j=0:=by omega
   refine⟨v,rfl, ?_⟩;simp only[CL.cell,hw];exact hv
  split at h;rename_i k ht;simp only[Option.some.injEq]at h;subst h;obtain⟨n,rfl,_,hw⟩:=DataW.trod_int ht hd;exact one (c:=.int k) n rfl hw (.int k n);rename_i ht;simp only[Option.some.injEq]at h;subst h;obtain⟨b,rfl,_⟩:=DataW.trod_bool ht hd;exact one (c:=.bool) b rfl trivial (.bool b);rename_i ht;simp only[Option.some.injEq]at h;subst h;obtain⟨s,rfl,_,hs⟩:=DataW.trod_string ht hd;exact one (c:=.str) s rfl hs (.str s);rename_i e ht;split at h;rename_i k he;rw[cond_eq_ite]at h;split at h;rename_i hw;have hw:P.cellsOf e=1:=by simpa using hw
  simp only[Option.some.injEq]at h;subst h
  obtain⟨v,xs,rfl,h0,h1,h2⟩:=sw (cs:=[.int k]) ht hw (le_refl _) (λ{fuel cells x} hx=>by
   obtain⟨n,rfl,_,hwf⟩:=DataW.trod_int he hx;exact one (c:=.int k) n rfl hwf (.int k n)) hd
  refine one (c:=.ah k) (xs.map λy:CL [.int k]=>(show Int from y.1)) rfl ⟨by rw[length_map];exact h0,λn hn=> ?_⟩ (nw (c:=.au [.int k] xs) ?_ rfl ?_ h2);obtain⟨y,hy,rfl⟩:=mem_map.1 hn;exact(h1 y hy).1;exact length_map _;intro i j hi hj;have hj:j<1:=hj;obtain rfl:j=0:=by omega
  have hi:i<xs.length:=hi;exact congrArg (SV.int k) (auC (λy:CL [.int k]=>(show Int from y.1)) xs 0 (CL.d [.int k]) hi);cases h;rename_i he;rw[cond_eq_ite]at h;split at h;rename_i hw;have hw:P.cellsOf e=1:=by simpa using hw
  simp only[Option.some.injEq]at h;subst h
  obtain⟨v,xs,rfl,h0,h1,h2⟩:=sw (cs:=[.str]) ht hw (le_refl _) (λ{fuel cells x} hx=>by
   obtain⟨n,rfl,_,hwf⟩:=DataW.trod_string he hx;exact one (c:=.str) n rfl hwf (.str n)) hd
  refine one (c:=.strs) (xs.map λy:CL [.str]=>(show ByteArray from y.1)) rfl ⟨by rw[length_map];exact h0,λn hn=> ?_⟩ (nw (c:=.au [.str] xs) ?_ rfl ?_ h2);obtain⟨y,hy,rfl⟩:=mem_map.1 hn;exact(h1 y hy).1;exact length_map _;intro i j hi hj;have hj:j<1:=hj;obtain rfl:j=0:=by omega
  have hi:i<xs.length:=hi;exact congrArg (SV.str) (auC (λy:CL [.str]=>(show ByteArray from y.1)) xs empty (CL.d [.str]) hi);cases h;rename_i he;rw[cond_eq_ite]at h;split at h;rename_i hw;have hw:P.cellsOf e=1:=by simpa using hw
  simp only[Option.some.injEq]at h;subst h
  obtain⟨v,xs,rfl,h0,h1,h2⟩:=sw (cs:=[.bool]) ht hw (le_refl _) (λ{fuel cells x} hx=>by
   obtain⟨n,rfl,_⟩:=DataW.trod_bool he hx;exact one (c:=.bool) n rfl trivial (.bool n)) hd
  refine one (c:=.bG) (xs.map λy:CL [.bool]=>(show Bool from y.1)) rfl (by show List.length (List.map _ xs)<=maxLen;rw[length_map];exact h0) (nw (c:=.au [.bool] xs) ?_ rfl ?_ h2);exact length_map _;intro i j hi hj;have hj:j<1:=hj;obtain rfl:j=0:=by omega
  have hi:i<xs.length:=hi;exact congrArg (SV.bool) (auC (λy:CL [.bool]=>(show Bool from y.1)) xs false (CL.d [.bool]) hi);cases h;have⟨kc,h1,h2⟩:=bind_eq_some_iff.1 h;rw[cond_eq_ite]at h2;split at h2;rename_i hb;simp only[and_eq_true,beq_eq]at hb;have⟨hw,hw1⟩:=hb;have hw1:=le_of_ble_eq_true hw1;simp only[Option.some.injEq]at h2;subst h2;obtain⟨v,xs,rfl,h0,h3,h4⟩:=sw (cs:=kc) ht hw hw1 (λhx=>wA d h1 hx) hd;exact one (c:=.rows kc) xs rfl ⟨h0,h3⟩ h4;cases h2;rename_i fs ht;have⟨kc,h1,h2⟩:=bind_eq_some_iff.1 h;rw[cond_eq_ite]at h2;split at h2;rename_i hw;have hw:P.cellsOf t=CL.wide kc:=by simpa using hw
  simp only[Option.some.injEq]at h2;subst h2;have⟨xs,n,_,_,h3,h4,h5⟩:=DataW.trod_struct ht hd
  have⟨y,h6,h7⟩:=ah2 (enc:=enc) (n:=n) (cells:=cells) (λh1 h2=>wA d h1 h2) fs.toList h1 (λf hf=>by
   obtain⟨i,hi,rfl⟩:=List.getElem_of_mem hf;have fy:i<fs.size:=by simpa using hi
   have:=h5 i fs[i] (Array.getElem?_eq_getElem fy);rw[getElem?_eq_getElem (by omega)]at this;exact⟨_,by simpa using this⟩)
  refine⟨by omega,y,h6,λj hj=> ?_⟩;have:=h7 j hj;simpa using this;cases h2;rename_i n e ht;split at h;rename_i k he;rw[cond_eq_ite]at h;split at h;rename_i hb;simp only[and_eq_true,beq_eq]at hb;have⟨hw,hwt⟩:=hb;simp only[Option.some.injEq]at h;subst h;have⟨xs,m,_,_,h1,h2,h3⟩:=DataW.trod_array ht hd
  have each:∀i,i<n->∃z:Int,(Lit.int k z).wf=true/\cells[i]? =some (.int k z):=by
   intro i hi;have h4:=h3 i hi;rw[getElem?_eq_getElem (by omega),hw]at h4;have⟨z,h5,_,h6⟩:=DataW.trod_int he h4;refine⟨z,h6, ?_⟩;have h7:((cells.drop (i*1)).take 1)[0]? =some (.int k z):=by rw[h5];rfl
   rw[getElem?_take,if_pos (by omega),List.getElem?_drop]at h7;simpa using h7
  have⟨zs,hz1,hz2⟩:=ab0 n each;refine⟨by simp[CL.wide,CK.wide];omega,(zs,()),⟨⟨hz1,λz hz=> ?_⟩,trivial⟩,λj hj=> ?_⟩;obtain⟨i,hi,rfl⟩:=List.getElem_of_mem (show z∈zs from hz);exact(hz2 i hi).1;simp only[CL.wide,CK.wide,add_zero]at hj;refine⟨.int k zs[j],(hz2 j (by omega)).2, ?_⟩;simp only[CL.cell,CK.wide];rw[abZ hj];show aX _ _ (.int k (zs.getD j 0)) _;rw[show zs.getD j 0=zs[j]from by simp[List.getD,hz1,hj]];exact .int k _;cases h;cases h;cases h
def RK.ck:RK->CK
 |.ah k=>.ah k|.strs=>.strs|.bG=>.bG|.au cs=>.rows cs
def B.ck:B->CK
 |.int k=>.int k|.bool=>.bool|.str=>.str|.row r _=>r.ck|.mN r _=>r.ck|.arr k n=>.arr k n|.fn=>.bool
def B.ap1:B->Bool
 |.fn=>false|_=>true
def RK.of:(r:RK)->r.ck.V->r.V
 |.ah _,y=>y|.strs,y=>y|.bG,y=>y|.au _,y=>y
def B.of:(b:B)->b.ck.V->b.V
 |.int _,y=>y|.bool,y=>y|.str,y=>y|.row r _,y=>r.of y|.mN r _,y=>r.of y|.arr _ _,y=>y|.fn,_=>(0:Nat)
def RK.wf:(r:RK)->r.V->Prop
 |.ah k,x=>∀n∈x,(Lit.int k n).wf=true|.strs,x=>∀s∈x,ByteArray.size s<=maxLen|.bG,_=>True|.au cs,x=>∀y∈x,CL.wf cs y
def B.wf:(b:B)->b.V->Prop
 |.int k,n=>(Lit.int k n).wf=true|.str,s=>ByteArray.size s<=maxLen|.row r _,x=>r.wf x|.mN r _,x=>r.wf x|.arr k n,ws=>List.length (α:=Int) ws=n/\∀m∈(show List Int from ws),(Lit.int k m).wf=true|_,_=>True
def BL.wf:(bs:List B)->BL bs->Prop
 |[],_=>True|b::bs,(x,y)=>b.wf x/\BL.wf bs y
def Ty.wf:(t:Ty)->t.V->Prop
 |.b q,x=>q.wf x|.st bs,x=>BL.wf bs x
def AL.wf:(ts:List Ty)->AL ts->Prop
 |[],_=>True|t::ts,(x,y)=>t.wf x/\AL.wf ts y
def BL.of:(bs:List B)->CL (bs.map B.ck)->BL bs
 |[],_=>()|b::bs,y=>(b.of y.1,BL.of bs y.2)
theorem B.asT{b:B}{y:b.ck.V}(h:CK.wf b.ck y):b.wf (b.of y):=by
 cases b with
 |int k=>exact h|bool=>trivial|str=>exact h|row r e=>cases r<;>first|exact h.2|trivial
 |mN r e=>cases r<;>first|exact h.2|trivial
 |arr k n=>exact h|fn=>trivial
theorem B.x6{b:B}(hb:b.ap1=true){y:b.ck.V}(hy:CK.wf b.ck y){cells:List Value}(hl:cells.length=b.ck.wide)(h:∀j,j<b.ck.wide->∃u,cells[j]? =some u/\aX (λ_=>False) W (b.ck.cell y j) u):
 aR ρ Hh (λ_=>False) W (b.av (b.of y)) cells:=by
 have one:b.ck.wide=1->∃u,cells=[u]/\aX (λ_=>False) W (b.ck.cell y 0) u:=by
  intro h1;have⟨u,h2,h3⟩:=h 0 (by omega);rw[h1]at hl
  match cells,hl with
  |[v],_=>simp only[List.getElem?_cons_zero,Option.some.injEq]at h2;subst h2;exact⟨v,rfl,h3⟩
 cases b with
 |int k=>obtain⟨u,rfl,h2⟩:=one rfl;show aR _ _ _ _ (.s (.int k y)) _;unfold aR;exact⟨u,rfl,h2⟩
 |bool=>obtain⟨u,rfl,h2⟩:=one rfl;show aR _ _ _ _ (.s (.bool y)) _;unfold aR;exact⟨u,rfl,h2⟩
 |str=>obtain⟨u,rfl,h2⟩:=one rfl;show aR _ _ _ _ (.s (.str y)) _;unfold aR;exact⟨u,rfl,h2⟩
 |row r e=>
  obtain⟨u,rfl,h2⟩:=one (by cases r<;>rfl);show aR _ _ _ _ (.s (.ro (r.wy (r.of y)))) _;unfold aR;exact⟨u,rfl,by cases r<;>exact h2⟩
 |mN r e=>
  obtain⟨u,rfl,h2⟩:=one (by cases r<;>rfl);show aR _ _ _ _ (.s (.ro (r.wy (r.of y)))) _;unfold aR;exact⟨u,rfl,by cases r<;>exact h2⟩
 |arr k n=>
  show aR _ _ _ _ (.ah k n y) _;unfold aR
  have key:∀ys:List Int,ys.length=n->(∀j,j<n->∃u,cells[j]? =some u/\aX (λ_=>False) W (.int k (ys.getD j 0)) u)->cells.length=n->cells=ys.map (Value.int k):=by
   intro ys h1 h2 h3;refine List.ext_getElem (by rw[h3,length_map,h1]) λj h4 h5=> ?_;have⟨u,h6,h7⟩:=h2 j (by omega);cases h7;rw[getElem?_eq_getElem h4,Option.some.injEq]at h6;rw[h6,List.getElem_map];congr 1;simp[List.getD,show j<ys.length by omega]
  exact⟨hy.1,key y hy.1 h hl⟩
 |fn=>cases hb
theorem BL.x6:∀{bs:List B},bs.all B.ap1=true->∀{y:CL (bs.map B.ck)},CL.wf (bs.map B.ck) y->∀{cells:List Value},cells.length=CL.wide (bs.map B.ck)->(FD W (bs.map B.ck) y λj=>cells[j]?)->
 BL.wf bs (BL.of bs y)/\aA ρ Hh (λ_=>False) W (BL.av bs (BL.of bs y)) cells
 |[],_,y,_,cells,hl,_=>⟨trivial,aD.2 (List.eq_nil_of_length_eq_zero hl)⟩|b::bs,hb,y,hy,cells,hl,h=>by
  simp only[all_cons,and_eq_true]at hb;simp only[map_cons,CL.wide]at hl;have hy:CK.wf b.ck y.1/\CL.wf (bs.map B.ck) y.2:=hy;have h:∀j,j<b.ck.wide+CL.wide (bs.map B.ck)->∃u,cells[j]? =some u/\aX (λ_=>False) W (bif j.blt b.ck.wide then b.ck.cell y.1 j else CL.cell (bs.map B.ck) y.2 (j - b.ck.wide)) u:=h
  have⟨h1,h2⟩:=BL.x6 hb.2 (y:=y.2) hy.2 (cells:=cells.drop b.ck.wide) (by rw[length_drop];omega) (λj hj=>by
   have⟨u,h3,h4⟩:=h (b.ck.wide+j) (by omega);rw[ags (by omega),cond_false,Nat.add_sub_cancel_left]at h4;exact⟨u,by dsimp only;rw[List.getElem?_drop];exact h3,h4⟩)
  refine⟨⟨B.asT hy.1,h1⟩,ag.2 ⟨cells.take b.ck.wide,cells.drop b.ck.wide,(List.take_append_drop _ _).symm,B.x6 hb.1 hy.1 (by rw[length_take];omega) (λj hj=> ?_),h2⟩⟩;have⟨u,h3,h4⟩:=h j (by omega);rw[abZ hj,cond_true]at h4;exact⟨u,by rw[getElem?_take,if_pos hj];exact h3,h4⟩
def Ty.lay(P:Program)(t:TypeId):Ty->Bool
 |.b q=>q.ap1&&(vY P 12 t).any (λcs=>(CL.eq cs [q.ck]).isSome)&&(match P.underlying t,q with
  |some (.array _ _),.arr _ _=>true|some (.struct _),_=>false|some (.array _ _),_=>false|_,.arr _ _=>false|_,_=>true)
 |.st bs=>bs.all B.ap1&&(vY P 12 t).any (λcs=>(CL.eq cs (bs.map B.ck)).isSome)&&(match P.underlying t with
  |some (.struct _)=>true|_=>false)
theorem ami{d:Nat}{t:TypeId}{kc:List CK}(h:(vY P d t).any (λcs=>(CL.eq cs kc).isSome)=true):vY P d t=some kc:=by
 cases hl:vY P d t with
 |none=>simp[hl]at h|some cs=>
  rw[hl,Option.any_some]at h;have⟨e,_⟩:=isSome_iff_exists.1 h;rw[e.down]
theorem amj{t:TypeId}{ty:Ty}{v:Value}{d:DataW H}{ps:List MemPlace}(hl:ty.lay P t=true)(kZ:Value.okWide P W .any base t v)(hd:DataW.Trod enc P W 0 (λ_=>true) true t v d ps):
 ∃x:ty.V,ty.wf x/\af ρ Hh (λ_=>False) W (ty.av x) v:=by
 have⟨fuel,hd⟩:=hd;cases ty with
 |st bs=>
  simp only[Ty.lay,and_eq_true]at hl;have⟨⟨h1,h2⟩,h3⟩:=hl;split at h3;rename_i fs ht;simp only[Value.okWide,ht]at kZ;obtain⟨cs,rfl,_,_⟩:=kZ;have⟨h4,y,h5,h6⟩:=wA 12 (ami h2) hd;have⟨h7,h8⟩:=BL.x6 (ρ:=ρ) (Hh:=Hh) h1 h5 h4 h6;refine⟨BL.of bs y,h7, ?_⟩;show af _ _ _ _ (.agg _) _;unfold af;exact⟨cs.toList,by simp,h8⟩;cases h3
 |b q=>
  simp only[Ty.lay,and_eq_true]at hl;have⟨⟨h1,h2⟩,h3⟩:=hl;have⟨h4,y,h5,h6⟩:=wA 12 (ami h2) hd;have h4:v.cells.toList.length=q.ck.wide:=by simpa[CL.wide]using h4
  have h5:CK.wf q.ck y.1:=h5.1
  have key:=B.x6 (ρ:=ρ) (Hh:=Hh) h1 h5 h4 (λj hj=>by
   have⟨u,h7,h8⟩:=h6 j (by simp only[CL.wide];omega);simp only[CL.cell]at h8;rw[abZ hj,cond_true]at h8;exact⟨u,h7,h8⟩)
  refine⟨q.of y.1,B.asT h5, ?_⟩;show af _ _ _ _ (q.av _) _
  have single:(∀cs,v≠.agg cs)->(∀k n ws,q.av (q.of y.1)≠.ah k n ws)->af ρ Hh (λ_=>False) W (q.av (q.of y.1)) v:=by
   intro hna hni;have hc:v.cells.toList=[v]:=by cases v<;>first|rfl|exact absurd rfl (hna _)
   rw[hc]at key;have⟨u,hu,_,lQ⟩:=fV key (gT hni) hni;cases hu;exact lQ
  by_cases axd:∃k n,q=.arr k n;obtain⟨k,n,rfl⟩:=axd
  obtain⟨n',e',ht⟩:∃n' e',P.underlying t=some (.array n' e'):=by
   cases hu:P.underlying t with
   |none=>simp[hu]at h3|some td=>cases td<;>simp[hu]at h3 ⊢
  simp only[Value.okWide,ht]at kZ;obtain⟨cs,rfl,_,_⟩:=kZ;have key:aR ρ Hh (λ_=>False) W (.ah k n y.1) cs.toList:=key;unfold aR at key;show af _ _ _ _ (.ah k n y.1) _;unfold af;exact⟨key.1,by rw[<-key.2]⟩
  have gA:(∀fs,P.underlying t≠some (.struct fs))/\∀n e,P.underlying t≠some (.array n e):=by
   cases hu:P.underlying t with
   |none=>simp|some td=>cases td<;>cases q<;>simp_all
  refine single (λcs hv=> ?_) (λk n ws he=> ?_);subst hv;unfold Value.okWide at kZ;split at kZ;rename_i fs ht;exact gA.1 fs ht;rename_i n e ht;exact gA.2 n e ht;simp only[Cell.okWide,Cell.ok]at kZ;split at kZ<;>simp_all;cases q<;>simp[B.av]at he;exact axd ⟨_,_,rfl⟩
theorem x7{Z:bm}{f:FuncId}{ts:List Ty}{pre:AL ts->List Prop}(h:dG P Z f ts [.b .bool] pre (λ_=>(true,())))(hz:Z.ok W){x:AL ts}{vs:List Value}(hp:bK (pre x))
 (hd:bM (λ_=>undef) (λ_=>none) (λ_=>False) W (AL.av ts x) vs):Calls P f vs.toArray W λe W'=>e=.returned (.bool true)/\akd W W':=by
 have e0:aW (λ_=>undef) (λ_=>none) (λ_=>False)=λ_=>False:=by
  funext b;refine propext ⟨λh=> ?_,False.elim⟩;rcases h with⟨id,o,ho,_⟩|h;cases ho;exact h
 refine(h x (AL.okL hd) hp (λ_=>False) W vs (λ_ h=>h.elim) hz (by rw[e0];exact hd)).mono ?_;rintro e W' ⟨v,rfl,aN,_,h2,_,h4⟩;have h5:af aN (lk []) (aW aN (lk []) λ_=>False) W' (.s (.bool true)) v:=h2;have h6:=ay (by simp) h5;cases h6;exact⟨rfl,h4.os,h4.output,λb hb=>h4.heap b hb (λ⟨id,o,ho,_⟩=>by cases ho)⟩
end
end Go.Sx
namespace Go.Sx
open Go
theorem amk(P:Program)(r:List (List Char))(h:behindMainWord (wordsSigns P.initOrder.toList)=[(Char.ofNat 99),(Char.ofNat 117),(Char.ofNat 116)]::r):P.make=some .cut:=by
 unfold Program.make;rw[h];kernel_rfl
theorem akg(P:Program)(r:List (List Char))(h:behindMainWord (wordsSigns P.initOrder.toList)=[(Char.ofNat 99),(Char.ofNat 117),(Char.ofNat 116)]::r)(hs:stripLifts liftWords ([(Char.ofNat 99),(Char.ofNat 117),(Char.ofNat 116)]::r)=([],[(Char.ofNat 99),(Char.ofNat 117),(Char.ofNat 116)]::r)):P.liftsFinal=false:=by
 unfold Program.liftsFinal Program.headLifts;rw[h];dsimp only;rw[hs];kernel_rfl
theorem akh(P:Program)(r:List (List Char))(h:behindMainWord (wordsSigns P.initOrder.toList)=[(Char.ofNat 99),(Char.ofNat 117),(Char.ofNat 116)]::r)(hs:stripLifts liftWords ([(Char.ofNat 99),(Char.ofNat 117),(Char.ofNat 116)]::r)=([],[(Char.ofNat 99),(Char.ofNat 117),(Char.ofNat 116)]::r))
 (h1:P.laysLater=false) (h2:P.bearsReflect=false) (h3:P.doorFits []=true):P.mayEnter=true:=by
 unfold Program.mayEnter;rw[h];dsimp only;rw[hs,h1,h2];dsimp only;rw[h3];kernel_rfl
def x8(P:Program)(f:FuncId)(fn:Func)(s:ChangeSpec)(c:OpenClaim):{b:Bool // P.mayEnter=true->P.liftsFinal=false->P.make=some .cut->joinedFacts P f fn s c=b}:=by
 refine⟨?b,λh1 h2 h3=> ?h⟩
 case h=>
  unfold joinedFacts;rw[h1,h2,h3]
theorem agt{P:Program}{f:FuncId}{fn:Func}{s:ChangeSpec}{c:OpenClaim}(r:List (List Char))(h:behindMainWord (wordsSigns P.initOrder.toList)=[(Char.ofNat 99),(Char.ofNat 117),(Char.ofNat 116)]::r)(hs:stripLifts liftWords ([(Char.ofNat 99),(Char.ofNat 117),(Char.ofNat 116)]::r)=([],[(Char.ofNat 99),(Char.ofNat 117),(Char.ofNat 116)]::r))
 (h1:P.laysLater=false) (h2:P.bearsReflect=false) (h3:P.doorFits []=true) (hr:(x8 P f fn s c).1=true):joinedFacts P f fn s c=true:=
 ((x8 P f fn s c).2 (akh P r h hs h1 h2 h3) (akg P r h hs) (amk P r h)).trans hr
end Go.Sx
namespace Go.Proofs.YthhcofcdkdknoaaGreatDoor.Hd
set_option maxRecDepth 100000 in
def ioL : List Char := [104, 97, 114, 110, 101, 115, 115, 32, 100, 54, 48, 99, 102, 99, 99, 97, 99, 56, 98, 57, 101, 98, 97, 100, 56, 50, 101, 50, 56, 101, 53, 99, 53, 57, 100, 49, 56, 57, 54, 51, 56, 48, 54, 98, 101, 50, 57, 53, 48, 56, 54, 52, 50, 56, 99, 102, 55, 100, 99, 49, 55, 97, 100, 53, 57, 55, 102, 97, 48, 55, 49, 53, 32, 99, 117, 116, 32, 97, 116, 32, 99, 97, 108, 108, 98, 111, 97, 114, 100, 47, 99, 97, 108, 108, 98, 111, 97, 114, 100, 108, 97, 119, 48, 55, 46, 84, 114, 101, 101, 80, 108, 97, 121, 115, 32, 99, 97, 108, 108, 98, 111, 97, 114, 100, 47, 99, 97, 108, 108, 98, 111, 97, 114, 100, 108, 97, 119, 48, 56, 46, 83, 116, 111, 114, 101, 78, 97, 109, 101, 115, 32, 99, 97, 108, 108, 98, 111, 97, 114, 100, 47, 99, 97, 108, 108, 98, 111, 97, 114, 100, 108, 97, 119, 48, 56, 46, 83, 116, 111, 114, 101, 77, 111, 100, 101, 108, 32, 99, 97, 108, 108, 98, 111, 97, 114, 100, 47, 99, 97, 108, 108, 98, 111, 97, 114, 100, 108, 97, 119, 48, 56, 46, 83, 116, 111, 114, 101, 80, 97, 103, 101, 115, 32, 99, 97, 108, 108, 98, 111, 97, 114, 100, 47, 99, 97, 108, 108, 98, 111, 97, 114, 100, 108, 97, 119, 48, 56, 46, 83, 116, 111, 114, 101, 80, 108, 97, 121, 115, 32, 99, 97, 108, 108, 98, 111, 97, 114, 100, 47, 99, 97, 108, 108, 98, 111, 97, 114, 100, 108, 97, 119, 48, 56, 46, 83, 116, 111, 114, 101, 67, 114, 97, 115, 104].map Char.ofNat
set_option maxRecDepth 100000 in
theorem ioE:Tryz.prog.initOrder=String.ofList ioL:=by kernel_rfl
theorem ioT:Tryz.prog.initOrder.toList=ioL:=by rw[ioE];exact String.toList_ofList
def ah3:List (List Char):=(wordsSigns ioL).drop 3
theorem hb:behindMainWord (wordsSigns Tryz.prog.initOrder.toList)=[Char.ofNat 99,Char.ofNat 117,Char.ofNat 116]::ah3:=by rw[ioT];kernel_rfl
theorem a1:Tryz.prog.laysLater=false:=by kernel_rfl
theorem a2:Tryz.prog.bearsReflect=false:=by kernel_rfl
theorem a3:stripLifts liftWords ([Char.ofNat 99,Char.ofNat 117,Char.ofNat 116]::ah3)=([],[Char.ofNat 99,Char.ofNat 117,Char.ofNat 116]::ah3):=by kernel_rfl
theorem a5:Tryz.prog.doorFits []=true:=by kernel_rfl
theorem aq:ownKnob Tryz.prog.godebug=none:=by kernel_rfl
theorem laidOut:laidOutB Tryz.prog=true:=by kernel_rfl
end Go.Proofs.YthhcofcdkdknoaaGreatDoor.Hd
namespace Go.Sx
open Go
structure Spec (X:Type)where
 args:X->List AV
 heap:X->List ak
 pre:X->List Prop
 dO:X->List ak
 out:X->AV
def fM(P:Program)(Z:bm)(f:FuncId){X:Type}(S:Spec X):Prop:=
 ∀x,bK (S.pre x)->∀(ρ:Nat->Value) (G:Nat->Prop) (w:World) (vs:List Value),ZAt Z ρ (lk (S.heap x)) w->Sat ρ (lk (S.heap x)) G w->
  bM ρ (lk (S.heap x)) (aW ρ (lk (S.heap x)) G) w (S.args x) vs->
  Calls P f vs.toArray w λe w'=>∃v,e=.returned v/\Good ρ (lk (S.heap x)) G w (lk (S.dO x)) (S.out x) v w'
def dP{X:Type}(S:Spec X)(x:X)(L:List ak)(r:AV):Prop:=
 ∃N:Norm,(S.heap x).length<=N.m/\N.run ⟨[r],L,[],{}⟩=some ⟨[S.out x],S.dO x,[],{}⟩
def RM.bind{α β:Type}:RM α->(α->RM β)->RM β
 |.ret a,k=>k a|.look id f,k=>.look id λo=>(f o).bind k|.fail w,_=>.fail w
def sC:List Nat->(List ak->RM bR)->RM bR
 |[],k=>k []|i::is,k=>.look i λo=>match o with
  |some o=>sC is λos=>k (o::os)|none=>.fail "no object"
def back(σ:List Nat)(base n:Nat)(j:Nat):Option Nat:=bif j.blt σ.length then σ[j]? else bif j.blt n then some (base+(j - σ.length))else none
def bZ{X:Type}(S:Spec X)(M:List AV->RM (X×List Nat)):Nat->List AV->RM bR:=λbase args=>
 (M args).bind λ(x,σ)=>bif ur σ then sC σ λos=>
   (match allM (xO (back σ base (S.dO x).length)) (S.dO x),rn (back σ base (S.dO x).length) 20 (S.out x)with
    |some L',some r=>bif σ.length.ble L'.length then
     .ret ⟨(allM (rn (idx σ) 20) args=some (S.args x))::(allM (xO (idx σ)) os=some (S.heap x))::S.pre x,σ.zip L',L'.drop σ.length,λ_=>r⟩else .fail "sum: objects are gone"
    |_,_=>.fail "sum: names")
  else .fail "sum: one object twice"
section
variable{ρ aN:Nat->Value}{H H':aT}{G O O':Nat->Prop}{w w':World}{P:Program}{Z:bm}{X:Type}{S:Spec X}
theorem RM.pW{α β:Type}:∀{m:RM α} {k:α->RM β} {q:β},(m.bind k).eval H=some q->∃a,m.eval H=some a/\(k a).eval H=some q
 |.ret a,k,q,h=>⟨a,rfl,h⟩|.look id f,k,q,h=>by
  simp only[RM.bind,RM.eval]at h ⊢;exact RM.pW h
 |.fail w,k,q,h=>by simp[RM.bind,RM.eval]at h
theorem nz:∀{is:List Nat} {k:List ak->RM bR} {q:bR},(sC is k).eval H=some q->∃os:List ak,(k os).eval H=some q/\os.length=is.length/\∀(j id:Nat),is[j]? =some id->H id=os[j]? /\os[j]?.isSome=true
 |[],k,q,h=>⟨[],h,rfl,λj id hj=>by simp at hj⟩
 |i::is,k,q,h=>by
  simp only[sC,RM.eval]at h;split at h;rename_i o ho;have⟨os,h1,h2,h3⟩:=nz h;refine⟨o::os,h1,by simp[h2],λj id hj=> ?_⟩;cases j with
  |zero=>simp only[List.getElem?_cons_zero,Option.some.injEq]at hj;subst hj;exact⟨by simpa using ho,rfl⟩
  |succ j=>simpa using h3 j id (by simpa using hj)
  simp[RM.eval]at h
theorem adO{f:FuncId}{fn:Func}(hf:P.funcs[f]? =some fn)(hb:fn.body.isSome=true)(hn:∀x,(S.args x).length<=fn.ntmps)
 (h:∀x,bK (S.pre x)->∀X:Ctx,X.H=lk (S.heap x)->eb Z X->Safe P f X (dP S x) (start fn (S.args x) (S.heap x))):fM P Z f S:=by
 intro x mM ρ G w vs hz hs hd;have⟨c,hb⟩:=isSome_iff_exists.1 hb
 have pe:vs.length=(S.args x).length:=by
  have:∀{aQ:List AV} {vs:List Value},bM ρ (lk (S.heap x)) (aW ρ (lk (S.heap x)) G) w aQ vs->vs.length=aQ.length:=by
   intro aQ
   induction aQ with
   |nil=>intro vs h;rw[ba.1 h];rfl
   |cons a aQ ih=>intro vs h;obtain⟨v,rest,rfl,_,h2⟩:=aE.1 h;simp[ih h2]
  exact this hd
 refine(jy (R:=kx ⟨ρ,lk (S.heap x),G,w,[]⟩ (dP S x)) hf hb ?_).mono ?_;have:=(h x mM ⟨ρ,lk (S.heap x),G,w,[]⟩ rfl hz).goes rfl rfl (ρ:=ρ) (a:={tmps:=vs.toArray++Array.replicate (fn.ntmps - vs.toArray.size) undef,defers:=[]}) (w:=w);simp only[start,hb,getD_some]at this;refine this ⟨hs, ?_,λt=> ?_,rfl,Step.refl _ _ _ _,⟨rfl,rfl,rfl,λ_ _ _=>rfl⟩,λx hx=>by cases hx⟩;simp[pe]
 have e1:∀(aQ:List AV) (vs:List Value),bM ρ (lk (S.heap x)) (aW ρ (lk (S.heap x)) G) w aQ vs->∀t,af ρ (lk (S.heap x)) (aW ρ (lk (S.heap x)) G) w (aQ.getD t (.bt [])) (vs.getD t undef):=by
  intro aQ
  induction aQ with
  |nil=>intro vs h t;rw[ba.1 h];simp only[List.getD,List.getElem?_nil,Option.getD_none];exact cC
  |cons a aQ ih=>
   intro vs h t;obtain⟨v,rest,rfl,h1,h2⟩:=aE.1 h;cases t with
   |zero=>simpa using h1|succ t=>simpa using ih rest h2 t
 have h1:=e1 _ _ hd t;simp only[List.getD_eq_getElem?_getD,List.getElem?_append,List.getElem?_replicate,getD_eq_getD_getElem?,Array.getElem?_append,List.getElem?_toArray,Array.getElem?_replicate,List.size_toArray]at h1 ⊢;rw[pe];split;rename_i ht;have hv:vs[t]? =some vs[t]:=getElem?_eq_getElem (by omega);have ha:(S.args x)[t]? =some (S.args x)[t]:=getElem?_eq_getElem ht;rw[hv,ha]at h1 ⊢;exact h1;split;exact cC;unfold af;trivial;rintro e w' ⟨v,rfl,L,r,⟨N,hm,hN⟩,jO,g1,g2,g3,g4⟩;refine⟨v,rfl, ?_⟩
 have r0:cp ⟨ρ,lk (S.heap x),G,w,[]⟩ jO ⟨[r],L⟩ {tmps:= #[v],defers:=[]} w':=by
  refine⟨g1,rfl,λt=> ?_,rfl,g3,g4,λx hx=>by cases hx⟩;cases t with
  |zero=>exact g2|succ t=>simp only[List.getD,Array.getD];simp;unfold af;trivial
 have h0:∀id,N.m<=id->(⟨ρ,lk (S.heap x),G,w,[]⟩:Ctx).H id=none:=λid dt=>by simp[lk];omega
 unfold Norm.run at hN;split at hN;rename_i t1 L1 h1;simp only[]at hN;split at hN;rename_i t2 L2 h2;simp only[Option.some.injEq,bP.mk.injEq,and_true]at hN;obtain⟨rfl,rfl⟩:=hN;have⟨jO,r1⟩:=cp.gk h0 h1 (cp.eW N.aBG r0);have⟨gy,r2⟩:=cp.gH N.qL r1;have⟨ρ3,r3⟩:=cp.gI N.cells r2;have⟨ρ4,r4⟩:=cp.gk h0 h2 r3;exact⟨ρ4,r4.sat,(by have h:=r4.den 0;exact h),r4.ao,r4.jN⟩;cases hN;cases hN
theorem sD:∀{σ:List Nat} {L:List ak} {j:Nat},σ.Nodup->σ.length<=L.length->
 (∀(i:Nat),σ[i]? =some j->cz (σ.zip L) j=L[i]?)/\(j ∉ σ->cz (σ.zip L) j=none)
 |[],L,j,hn,hl=>⟨λi h=>by simp at h,λ_=>rfl⟩|x::xs,[],j,hn,hl=>by simp at hl
 |x::xs,l::ls,j,hn,hl=>by
  have⟨h1,h2⟩:=sD (σ:=xs) (L:=ls) (j:=j) (List.nodup_cons.1 hn).2 (by simpa using hl);constructor;intro i hi;simp only[List.zip_cons_cons,cz];cases i with
  |zero=>
   simp only[List.getElem?_cons_zero,Option.some.injEq]at hi;subst hi;rw[h2 (List.nodup_cons.1 hn).1];simp
  |succ i=>
   simp only[List.getElem?_cons_succ]at hi ⊢;rw[h1 i hi];have bq:i<xs.length:=(List.getElem?_eq_some_iff.1 hi).1;simp only[length_cons]at hl;rw[getElem?_eq_getElem (show i<ls.length by omega)]
  intro hj;simp only[mem_cons,not_or]at hj;simp only[List.zip_cons_cons,cz];rw[h2 hj.2];simp[hj.1]
theorem fM.sum{f:FuncId}(h:fM P Z f S)(M:List AV->RM (X×List Nat)):ri P Z f (bZ S M):=by
 intro base args H q hq hn ρ G w vs dC hz hs hd;unfold bZ at hq;have⟨⟨x,σ⟩,_,hq⟩:=RM.pW hq;simp only[cond_eq_ite]at hq;split at hq;rename_i ix;have ix:=l6 ix;have⟨os,hq,bC,hos⟩:=nz hq;split at hq;rename_i L' r hL' hr;split at hq;rename_i hle;have hle:=le_of_ble_eq_true hle;simp only[RM.eval,Option.some.injEq]at hq;subst hq;have⟨gw,iF,mM⟩:=hn;simp only[]at dC ⊢
 have cP:∀{j:Nat} {o':ak},(S.heap x)[j]? =some o'->∃(id:Nat) (o:ak),σ[j]? =some id/\H id=some o/\xO (idx σ) o=some o':=by
  intro j o' dI;have hl:=ic iF;have hj:j<os.length:=by rw[<-hl];exact(List.getElem?_eq_some_iff.1 dI).1
  have⟨b,g1,g2⟩:=gG iF j os[j] (getElem?_eq_getElem hj);rw[dI]at g2;cases g2;have wv:j<σ.length:=by omega
  have:=(hos j σ[j] (getElem?_eq_getElem wv)).1;exact⟨σ[j],os[j],getElem?_eq_getElem wv,by rw[this,getElem?_eq_getElem hj],g1⟩
 have qj:∀{j id:Nat},σ[j]? =some id->∃o o',H id=some o/\xO (idx σ) o=some o'/\(S.heap x)[j]? =some o':=by
  intro j id hj;have⟨g1,g2⟩:=hos j id hj;have⟨o,ho⟩:=isSome_iff_exists.1 g2;have⟨b,g3,g4⟩:=gG iF j o ho;exact⟨o,b,g1.trans ho,g3,g4⟩
 have pb:∀{j id:Nat},σ[j]? =some id->pull σ ρ j=ρ id:=λh1=>by simp[pull,List.getD,h1]
 have ej:∀{b:Nat},Own (pull σ ρ) (lk (S.heap x)) b->∃(j id:Nat) (o:ak),σ[j]? =some id/\H id=some o/\o.alive=true/\eZ (ρ id)=some b:=by
  rintro b ⟨j,o',dI,ha,hb⟩;have⟨id,o,h1,h2,h3⟩:=cP dI;rw[pb h1]at hb;exact⟨j,id,o,h1,h2,by rw[<-(cU h3).1];exact ha,hb⟩
 let G':Nat->Prop:=λb=>aW ρ H G b/\¬Own (pull σ ρ) (lk (S.heap x)) b
 have E:Emb (idx σ) ρ H (aW ρ H G) (pull σ ρ) (lk (S.heap x)) (aW (pull σ ρ) (lk (S.heap x)) G'):=by
  refine⟨λi j lR=> ?_,λb hb=> ?_⟩;have h1:=ady lR;refine⟨pb h1,λo ho=> ?_⟩;have⟨o1,o',h2,h3,h4⟩:=qj h1;rw[ho]at h2;cases h2;exact⟨o',h4,(cU h3).2⟩;rcases hb with hb|hb;have⟨j,id,o,h1,h2,h3,h4⟩:=ej hb;exact .inl ⟨id,o,h2,h3,h4⟩;exact hb.1
 have azK:Sat (pull σ ρ) (lk (S.heap x)) G' w:=by
  refine⟨λj o' dI=> ?_,λi j oi oj b hi hj ai aj bi bj=> ?_,λb hb hG=>hG.2 hb,λb hb=>abp hs hb.1⟩;have⟨id,o,h1,h2,h3⟩:=cP dI;rw[pb h1];exact abV E h3 (hs.obj id o h2);have⟨id,o,h1,h2,h3⟩:=cP hi;have⟨id',o',h1',h2',h3'⟩:=cP hj;rw[pb h1]at bi;rw[pb h1']at bj;have:=hs.inj id id' o o' b h2 h2' (by rw[<-(cU h3).1];exact ai) (by rw[<-(cU h3').1];exact aj) bi bj;subst this;have⟨hi1,hi2⟩:=List.getElem?_eq_some_iff.1 h1;have⟨hj1,wv⟩:=List.getElem?_eq_some_iff.1 h1';exact(List.getElem_inj ix).1 (hi2.trans wv.symm)
 have hz':ZAt Z (pull σ ρ) (lk (S.heap x)) w:=⟨hz.1,λb hb ho=>by
  have⟨j,id,o,h1,h2,h3,h4⟩:=ej ho;exact hz.2 b hb ⟨id,o,h2,h3,h4⟩⟩
 have hd':=wx E gw hd;refine(h x mM (pull σ ρ) G' w vs hz' azK hd').mono ?_;rintro e w' ⟨v,he,jO,g1,g2,g3,g4⟩;refine⟨v,he, ?_⟩;have aBu:=ic hL';generalize hn0:(S.dO x).length=n0 at *
 have rh:∀{j:Nat},σ.length<=j->j<n0->H (base+(j - σ.length))=none:=by
  intro j h1 h2;exact dC (j - σ.length) (by simp;omega)
 have ap2:∀{id:Nat} {o:ak},H id=some o->¬(base<=id/\id<base+(L'.length - σ.length)):=by
  intro id o ho hc;have:=rh (j:=σ.length+(id - base)) (by omega) (by omega);rw[show base+(σ.length+(id - base) - σ.length)=id from by omega,ho]at this;cases this
 let gy:Nat->Value:=λid=>if base<=id/\id<base+(L'.length - σ.length)then jO (σ.length+(id - base))else ρ id
 let H2:=c8 H (σ.zip L') base (L'.drop σ.length)
 have hL1:∀{j:Nat} {o2:ak},L'[j]? =some o2->∃o,(S.dO x)[j]? =some o/\xO (back σ base n0) o=some o2:=by
  intro j o2 h1;have hj:j<(S.dO x).length:=by have:=(List.getElem?_eq_some_iff.1 h1).1;omega
  have⟨b,h2,h3⟩:=gG hL' j (S.dO x)[j] (getElem?_eq_getElem hj);rw[h1]at h3;cases h3;exact⟨_,getElem?_eq_getElem hj,h2⟩
 have asU:∀{j id:Nat},σ[j]? =some id->gy id=ρ id/\jO j=ρ id:=by
  intro j id hj;have⟨o,o',h1,h2,h3⟩:=qj hj;refine⟨?_, ?_⟩;simp only[gy];rw[if_neg (ap2 h1)];rw[g3.wX j o' h3,pb hj]
 have auD:∀{j id:Nat},σ[j]? =some id->H2 id=L'[j]? :=by
  intro j id hj;have bq:j<σ.length:=(List.getElem?_eq_some_iff.1 hj).1;have:=(sD (σ:=σ) (L:=L') (j:=id) ix hle).1 j hj;simp only[H2,c8,this];rw[getElem?_eq_getElem (show j<L'.length by omega)]
 have hni:∀{id:Nat},(base<=id/\id<base+(L'.length - σ.length))->id ∉ σ:=by
  intro id hc hm;have⟨i,hi⟩:=List.getElem?_of_mem hm;have⟨o,_,h3,_⟩:=qj hi;exact ap2 h3 hc
 have axe:∀{id:Nat},(base<=id/\id<base+(L'.length - σ.length))->H2 id=L'[σ.length+(id - base)]? :=by
  intro id hc;simp only[H2,c8,(sD (σ:=σ) (L:=L') ix hle).2 (hni hc)];rw[if_pos (by simp only[length_drop];exact hc)];simp only[List.getElem?_drop]
 have axf:∀{id:Nat},id ∉ σ->¬(base<=id/\id<base+(L'.length - σ.length))->H2 id=H id:=by
  intro id h1 h2;simp only[H2,c8,(sD (σ:=σ) (L:=L') ix hle).2 h1];rw[if_neg (by simp only[length_drop];exact h2)]
 have cls:∀{id:Nat} {o2:ak},H2 id=some o2->(∃(j:Nat) (o:ak),(S.dO x)[j]? =some o/\xO (back σ base n0) o=some o2/\gy id=jO j/\back σ base n0 j=some id)\/(id ∉ σ/\H id=some o2/\gy id=ρ id):=by
  intro id o2 ho;by_cases hm:id∈σ;have⟨j,hj⟩:=List.getElem?_of_mem hm;rw[auD hj]at ho;have⟨o,h1,h2⟩:=hL1 ho;have⟨h3,h4⟩:=asU hj;exact .inl ⟨j,o,h1,h2,by rw[h3,h4],by simp only[back,nM (List.getElem?_eq_some_iff.1 hj).1,cond_true];exact hj⟩;by_cases hc:base<=id/\id<base+(L'.length - σ.length);rw[axe hc]at ho;have⟨o,h1,h2⟩:=hL1 ho;refine .inl ⟨_,o,h1,h2,by simp only[gy];rw[if_pos hc], ?_⟩;simp only[back,rS (show σ.length<=σ.length+(id - base)by omega),cond_false,nM (show σ.length+(id - base)<n0 by omega),cond_true];congr 1;omega;rw[axf hm hc]at ho;exact .inr ⟨hm,ho,by simp only[gy];rw[if_neg hc]⟩
 have x9:∀{id b:Nat} {o:ak},id ∉ σ->H id=some o->o.alive=true->eZ (ρ id)=some b->¬Own (pull σ ρ) (lk (S.heap x)) b:=by
  intro id b o hm ho ha hb hv;have⟨j,id',o',h1,h2,h3,h4⟩:=ej hv;have:=hs.inj id id' o o' b ho h2 ha h3 hb h4;subst this;exact hm (List.mem_of_getElem? h1)
 have axg:∀{b:Nat},G b->G' b:=λ{b} hb=>⟨.inr hb,λhv=>by
  have⟨j,id',o',h1,h2,h3,h4⟩:=ej hv;exact hs.apart b ⟨id',o',h2,h3,h4⟩ hb⟩
 have axh:∀{b:Nat},Own gy H2 b->Own jO (lk (S.dO x)) b\/(Own ρ H b/\G' b):=by
  rintro b ⟨id,o2,ho,ha,hb⟩;rcases cls ho with⟨j,o,h1,h2,h3,_⟩|⟨h1,h2,h3⟩;exact .inl ⟨j,o,h1,by rw[<-(cU h2).1];exact ha,by rw[<-h3];exact hb⟩;rw[h3]at hb;exact .inr ⟨⟨id,o2,h2,ha,hb⟩,.inl ⟨id,o2,h2,ha,hb⟩,x9 h1 h2 ha hb⟩
 have E2:Emb (back σ base n0) jO (lk (S.dO x)) (aW jO (lk (S.dO x)) G') gy H2 (aW gy H2 G):=by
  refine⟨λi j lR=> ?_,λb hb=> ?_⟩;simp only[back,cond_eq_ite]at lR;split at lR;rename_i bq;have⟨h3,h4⟩:=asU lR;refine⟨by rw[h3,h4],λo ho=> ?_⟩;have⟨b,h5,h6⟩:=gG hL' i o ho;exact⟨b,by rw[auD lR];exact h6,(cU h5).2⟩;rename_i hge;split at lR;rename_i bq;have bq:i<n0:=le_of_ble_eq_true bq
  have hge:σ.length<=i:=by
   rcases lt_or_ge i σ.length with h5|h5;exact absurd (nM h5) hge;exact h5
  simp only[Option.some.injEq]at lR;have hc:base<=j/\j<base+(L'.length - σ.length):=by omega
  have hi:σ.length+(j - base)=i:=by omega
  refine⟨by simp only[gy];rw[if_pos hc,hi],λo ho=> ?_⟩;have⟨b,h5,h6⟩:=gG hL' i o ho;exact⟨b,by rw[axe hc,hi];exact h6,(cU h5).2⟩;cases lR;rcases hb with hb|hb;exact(axh hb).imp (λh=>h) (λh=>h.2);exact .inr (axg hb)
 have st:Step ρ H (aW ρ H G) w gy H2 (aW gy H2 G) w':=by
  refine⟨λid o ho=>by simp only[gy];rw[if_neg (ap2 ho)],λid o ho=> ?_,λb hb=> ?_,λb hb hO=>g3.heap b hb (λhv=>hO (E.gu b hv)),g3.size⟩;by_cases hm:id∈σ;have⟨j,hj⟩:=List.getElem?_of_mem hm;have⟨o1,o',h1,h2,h3⟩:=qj hj;rw[ho]at h1;cases h1;have⟨o'',h4,h5⟩:=g3.aBG j o' h3;have⟨o3,h6,h7⟩:=gG hL' j o'' h4;refine⟨o3,by rw[auD hj];exact h7,λc' e' hc=> ?_⟩;have⟨c,e1,h8,h9,vW⟩:=h5 c' e' ((cU h6).2 c' e' hc);exact⟨c,e1,(cU h2).2 c e1 h8,h9,vW⟩;exact⟨o,by rw[axf hm (ap2 ho)];exact ho,λc' e' hc=>⟨c',e',hc,rfl,rfl⟩⟩;rcases g3.gu b (E2.gu b hb)with h5|h5;exact .inl (E.gu b h5);exact .inr h5
 refine⟨gy,⟨λid o2 ho=> ?_,λi j oi oj b hi hj ai aj bi bj=> ?_,λb hb hG=> ?_,λb hb=>Nat.lt_of_lt_of_le (hs.low b hb) g3.size⟩,(xP E2 20).1 _ _ _ hr g2,st,⟨g4.os,g4.tape,g4.output,λb hb hO=>g4.heap b hb (λhv=> ?_)⟩⟩;rcases cls ho with⟨j,o,h1,h2,h3,_⟩|⟨h1,h2,h3⟩;rw[h3];exact abV E2 h2 (g1.obj j o h1);rw[h3];refine(hs.obj id o2 h2).step st (λb ha hb=> ?_);exact g4.heap b (gS hs ⟨id,o2,h2,ha,hb⟩) (x9 h1 h2 ha hb)
 have mixed:∀{b:Nat},Own jO (lk (S.dO x)) b->∀{id:Nat} {o:ak},id ∉ σ->H id=some o->o.alive=true->eZ (ρ id)=some b->False:=by
  intro b h1 id o h2 h3 h4 h5;have hG:G' b:=⟨.inl ⟨id,o,h3,h4,h5⟩,x9 h2 h3 h4 h5⟩;exact g1.apart b h1 hG
 rcases cls hi with⟨j1,o1,p1,p2,p3,p4⟩|⟨p1,p2,p3⟩;rw[p3]at bi;have a1:o1.alive=true:=by rw[<-(cU p2).1];exact ai
 rcases cls hj with⟨j2,o2,q1,q2,q3,q4⟩|⟨q1,q2,q3⟩;rw[q3]at bj;have:=g1.inj j1 j2 o1 o2 b p1 q1 a1 (by rw[<-(cU q2).1];exact aj) bi bj;subst this;rw[p4]at q4;exact Option.some.inj q4;rw[q3]at bj;exact(mixed ⟨j1,o1,p1,a1,bi⟩ q1 q2 aj bj).elim;rw[p3]at bi;rcases cls hj with⟨j2,o2,q1,q2,q3,q4⟩|⟨q1,q2,q3⟩;rw[q3]at bj;exact(mixed ⟨j2,o2,q1,by rw[<-(cU q2).1];exact aj,bj⟩ p1 p2 ai bi).elim;rw[q3]at bj;exact hs.inj i j oi oj b p2 q2 ai aj bi bj;rcases axh hb with h5|h5;exact g1.apart b h5 (axg hG);exact hs.apart b h5.1 hG;have⟨j,id,o,h1,h2,h3,h4⟩:=ej hv;exact hO ⟨id,o,h2,h3,h4⟩;simp[RM.eval]at hq;simp[RM.eval]at hq;simp[RM.eval]at hq
end
instance {k:IntKind} {n:Nat}:DecidableEq (CK.arr k n).V:=inferInstanceAs (DecidableEq (List Int))
instance {k:IntKind}:DecidableEq (CK.ah k).V:=inferInstanceAs (DecidableEq (List Int))
instance {k:IntKind}:DecidableEq (CK.int k).V:=inferInstanceAs (DecidableEq Int)
instance:DecidableEq CK.str.V:=inferInstanceAs (DecidableEq ByteArray)
instance:DecidableEq CK.bool.V:=inferInstanceAs (DecidableEq Bool)
abbrev el{cs:List CK}(l:List (CL cs))(i:Int):CL cs:=l.getD i.toNat (CL.d cs)
abbrev bk{α:Type}(a:α):Prop:=a=a
abbrev sF:Prop:=(some []:Option (List ak))=some []
section
variable{K:List ak->AV->Prop}{C:bP->Prop}{t e:Tree}{p q:Prop}
theorem aml{α:Type}{a:α}(h:t.Holds K C):(Tree.ab (a=a) t).Holds K C:=⟨rfl,h⟩
theorem ya(hp:p)(h:t.Holds K C):(Tree.ab p t).Holds K C:=⟨hp,h⟩
theorem adP{d:Decidable p}(h1:p->t.Holds K C)(h2:¬p->e.Holds K C):(Tree.ite (@decide p d) t e).Holds K C:=⟨λh=>h1 (of_decide_eq_true h),λh=>h2 (of_decide_eq_false h)⟩
theorem adQ{a b:Int}(h1:a=b->t.Holds K C)(h2:a≠b->e.Holds K C):(Tree.ite (a==b) t e).Holds K C:=⟨λh=>h1 (by simpa using h),λh=>h2 (by simpa using h)⟩
theorem adR{a b:Int}(h1:a≠b->t.Holds K C)(h2:a=b->e.Holds K C):(Tree.ite (a !=b) t e).Holds K C:=⟨λh=>h1 (by simpa using h),λh=>h2 (by simpa using h)⟩
theorem adS{b:Bool}(h:(Tree.ite b e t).Holds K C):(Tree.ite (!b) t e).Holds K C:=⟨λhb=>h.2 (by simpa using hb),λhb=>h.1 (by simpa using hb)⟩
theorem amm(h:t.Holds K C):(Tree.ite true t e).Holds K C:=⟨λ_=>h,λx=>(by cases x)⟩
theorem amn(h:e.Holds K C):(Tree.ite false t e).Holds K C:=⟨λx=>(by cases x),λ_=>h⟩
theorem adT{b:Bool}(h1:b=true->t.Holds K C)(h2:b=false->e.Holds K C):(Tree.ite b t e).Holds K C:=⟨h1,h2⟩
theorem yb(h1:p->t.Holds K C)(h2:q->e.Holds K C):(Tree.both p q t e).Holds K C:=⟨h1,h2⟩
theorem adU{H:List ak}{v:AV}(h:K H v):(Tree.ret H v).Holds K C:=h
theorem amo{c:bP}(h:C c):(Tree.at c).Holds K C:=h
theorem bE{X:Type}{S:Spec X}{x:X}{L:List ak}{r:AV}{o:AV}{h:List ak}(m:Nat)(e:Norm.run ⟨[],[0],m,[]⟩ ⟨[r],L,[],{}⟩=some ⟨[o],h,[],{}⟩)(hm:(S.heap x).length<=m)(ho:S.out x=o)(hh:S.dO x=h):dP S x L r:=
 ⟨⟨[],[0],m,[]⟩,hm,by rw[ho,hh];exact e⟩
theorem fS{P:Program}{Z:bm}{X:Type}{S:Spec X}{f:FuncId}{fn:Func}(hf:P.funcs[f]? =some fn)(h:∀x,bK (S.pre x)->∀X:Ctx,X.H=lk (S.heap x)->eb Z X->Safe P f X (dP S x) (start fn (S.args x) (S.heap x)))
 (hb:fn.body.isSome=true:=by kernel_rfl) (hn:∀x,(S.args x).length<=fn.ntmps:=by exact λx=>le_of_ble_eq_true (by kernel_rfl)):fM P Z f S:=adO hf hb hn h
end
end Go.Sx
namespace Lf
open Go Go.Sx
section
variable{L:List ak}
theorem amp{b:Bool}:Ends [.b .bool] (b,()) L (.s (.bool b)):=rfl
theorem ap3{b:Bool}:Ends [.b .bool] (b,()) L (.s (.aK b)):=rfl
theorem ab1{n:Int}:Ends [.b (.int .i64)] (n,()) L (.s (.int .i64 n)):=rfl
theorem amq{s:ByteArray}:Ends [.b .str] (s,()) L (.s (.str s)):=rfl
theorem ab2{s:ByteArray}{n:Int}:Ends [.b .str,.b (.int .i64)] (s,n,()) L (.bt [.s (.str s),.s (.aS .i64 n)]):=rfl
theorem gb{b:Bool}{b':Bool}(h:b=b'):Ends [.b .bool] (b,()) L (.s (.aK b')):=by subst h;rfl
theorem ah4{b b':Int}(h:b=b'):Ends [.b (.int .i64)] (b,()) L (.s (.int .i64 b')):=by subst h;rfl
end
theorem amr{p:Nat->Bool}{n i:Nat}(hi:i<n)(h:p i=false):(List.range n).all p=false:=by
 rw[List.all_eq_false];exact⟨i,mem_range.2 hi,by simp[h]⟩
theorem ah5{p:Nat->Bool}{n:Nat}(h:∀i,i<n->p i=true):(List.range n).all p=true:=by
 rw[all_eq_true];exact λi hi=>h i (mem_range.1 hi)
theorem du{p:Nat->Bool}{n:Nat}:(List.range n).all p=true↔ ∀i,i<n->p i=true:=by
 simp[all_eq_true]
theorem bc{α:Type}{l:List α}{i:Nat}{d:α}(h:i<l.length):l.getD i d=l[i]:=by simp[List.getD,h]
theorem uw{a b:ByteArray}(h:a.data.toList=b.data.toList):a=b:=by
 cases a;cases b;simp only[ByteArray.mk.injEq];exact toList_inj.1 h
theorem vJ:∀(x:List UInt8),Op.bytesLess x x=false
 |[]=>rfl|a::x=>by simp[Op.bytesLess,vJ x]
theorem yc:∀{x y z:List UInt8},Op.bytesLess x y=true->Op.bytesLess y z=true->Op.bytesLess x z=true
 |_,[],_,h,_=>by simp[Op.bytesLess]at h
 |_,_::_,[],_,h=>by simp[Op.bytesLess]at h
 |[],b::y,c::z,_,_=>rfl|a::x,b::y,c::z,h1,h2=>by
  simp only[Op.bytesLess,Bool.or_eq_true,decide_eq_true_eq,and_eq_true,beq_iff_eq]at *;rcases h1 with h1|⟨rfl,h1⟩;rcases h2 with h2|⟨rfl,h2⟩;exact .inl (UInt8.lt_trans h1 h2);exact .inl h1;rcases h2 with h2|⟨rfl,h2⟩;exact .inl h2;exact .inr ⟨rfl,yc h1 h2⟩
theorem yd:∀(x y:List UInt8),Op.bytesLess x y=true\/x=y\/Op.bytesLess y x=true
 |[],[]=>.inr (.inl rfl)|[],_::_=>.inl rfl|_::_,[]=>.inr (.inr rfl)|a::x,b::y=>by
  simp only[Op.bytesLess,Bool.or_eq_true,decide_eq_true_eq,and_eq_true,beq_iff_eq,List.cons.injEq];rcases UInt8.lt_or_lt_of_ne (a:=a) (b:=b)|>λh=>(Decidable.em (a=b)).imp id h with rfl|h|h;rcases yd x y with h|rfl|h;exact .inl (.inr ⟨rfl,h⟩);exact .inr (.inl ⟨rfl,rfl⟩);exact .inr (.inr (.inr ⟨rfl,h⟩));exact .inl (.inl h);exact .inr (.inr (.inl h))
theorem nA:∀(x y:List UInt8),(Lib.compareBytes x y<0↔Op.bytesLess x y=true)/\(Lib.compareBytes x y=0↔x=y)/\(-1<=Lib.compareBytes x y/\Lib.compareBytes x y<=1)
 |[],[]=>by simp[Lib.compareBytes,Op.bytesLess]
 |[],_::_=>by simp[Lib.compareBytes,Op.bytesLess]
 |_::_,[]=>by simp[Lib.compareBytes,Op.bytesLess]
 |a::x,b::y=>by
  have⟨h1,h2,h3⟩:=nA x y;simp only[Lib.compareBytes,Op.bytesLess,List.cons.injEq];by_cases h:a<b;rw[if_pos h];have:a≠b:=λe=>by subst e;exact absurd h (UInt8.lt_irrefl a)
  simp[h,this];rw[if_neg h];by_cases h':b<a;rw[if_pos h'];have:a≠b:=λe=>by subst e;exact absurd h' (UInt8.lt_irrefl a)
  simp[h,this];rw[if_neg h'];have:a=b:=UInt8.toNat_inj.1 (by rw[UInt8.lt_iff_toNat_lt]at h h';omega);subst this;simp[h,h1,h2,h3]
def nB(a b:ByteArray):Int:=Lib.compareBytes a.data.toList b.data.toList
theorem wC(a b:ByteArray):nB a b<0↔slt a b=true:=(nA _ _).1
theorem ah6(a b:ByteArray):nB a b=0↔a=b:=by
 rw[show a=b↔a.data.toList=b.data.toList from⟨λh=>by rw[h],uw⟩];exact(nA _ _).2.1
theorem ew(a:ByteArray):slt a a=false:=vJ _
theorem cW{a b c:ByteArray}(h1:slt a b=true)(h2:slt b c=true):slt a c=true:=yc h1 h2
theorem ie(a b:ByteArray):slt a b=true\/a=b\/slt b a=true:=by
 rcases yd a.data.toList b.data.toList with h|h|h;exact .inl h;exact .inr (.inl (uw h));exact .inr (.inr h)
theorem ux{a b:ByteArray}(h:slt a b=true):slt b a=false:=by
 cases h2:slt b a;rfl;have:=cW h h2;rw[ew]at this;cases this
theorem ams{a b:ByteArray}(h:slt a b=true):a≠b:=λe=>by subst e;rw[ew]at h;cases h
theorem ye{a b:ByteArray}(h:slt a b=false)(h2:a≠b):slt b a=true:=by
 rcases ie a b with h3|h3|h3;rw[h]at h3;cases h3;exact absurd h3 h2;exact h3
theorem ig(a:ByteArray):slt a empty=false:=by
 unfold slt;cases h:a.data.toList<;>rfl
theorem fo{a b c:ByteArray}(h1:slt a b=true)(h2:slt c b=false):slt a c=true:=by
 rcases ie b c with h3|rfl|h3;exact cW h1 h3;exact h1;rw[h2]at h3;cases h3
theorem mO{a:ByteArray}(h:a.size=0):a=empty:=by
 apply uw;have:a.data.toList.length=0:=by rw[length_toList];exact h
 rw[List.eq_nil_of_length_eq_zero this];rfl
end Lf
namespace Go.Sx
open Go
section
variable{ρ aN:Nat->Value}{H H' H1 H2:aT}{G O O':Nat->Prop}{w w' w1 w2:World}{P:Program}{X:Ctx}{K:List ak->AV->Prop}
def amt(P:Program)(t:TypeId):Bool:=match P.underlying t with
 |some (.map _ _)=>true|_=>false
theorem Frm.seq(f1:Frm ρ H w w1){jO:Nat->Value}(t1:Step ρ H (aW ρ H G) w jO H1 (aW jO H1 G) w1)(s1:Sat jO H1 G w1)(f2:Frm jO H1 w1 w2):Frm ρ H w w2:=by
 refine⟨f2.os.trans f1.os,f2.tape.trans f1.tape,f2.output.trans f1.output,λb hb hO=> ?_⟩
 have ui:¬Own jO H1 b:=λho=>by
  rcases t1.gu b (.inl ho)with hh|hh;exact hh.elim hO (s1.apart b ho);omega
 rw[f2.heap b (by have:=t1.size;omega) ui,f1.heap b hb hO]
theorem Good.ghost(hs:Sat ρ H G w){n:Nat}(hn:H n=none)(g:Value):∃aN,aN n=g/\Sat aN (aC H n .ax) G w/\Step ρ H (aW ρ H G) w aN (aC H n .ax) (aW aN (aC H n .ax) G) w/\Frm ρ H w w:=by
 have ne:∀j x,H j=some x->j≠n:=λj x hx e=>by subst e;rw[hn]at hx;cases hx
 have rR:∀b,Own (λj=>if j=n then g else ρ j) (aC H n .ax) b->Own ρ H b:=by
  rintro b ⟨j,x,hx,h1,h2⟩;by_cases hj:j=n;subst hj;simp only[aC,if_true,Option.some.injEq]at hx;subst hx;cases h1;simp only[aC,hj,if_false]at hx h2;exact⟨j,x,hx,h1,h2⟩
 have st:Step ρ H (aW ρ H G) w (λj=>if j=n then g else ρ j) (aC H n .ax) (aW (λj=>if j=n then g else ρ j) (aC H n .ax) G) w:=by
  refine⟨λj x hx=>by simp[ne j x hx],λj x hx=>⟨x,by simp[aC,ne j x hx,hx],λc' e' hc=>⟨c',e',hc,rfl,rfl⟩⟩,λb hb=>.inl (hb.imp (rR b) id),λb hb _=>rfl,le_refl _⟩
 refine⟨_,by simp,⟨λj x hx=> ?_,λi j oi oj b h1 h2 h3 h4 h5 h6=> ?_,λb hb=>hs.apart b (rR b hb),hs.low⟩,st,rfl,rfl,rfl,λ_ _ _=>rfl⟩;by_cases hj:j=n;subst hj;simp only[aC,if_true,Option.some.injEq]at hx;subst hx;trivial;simp only[aC,hj,if_false]at hx;simp only[hj,if_false];exact(hs.obj j x hx).step st (λ_ _ _=>rfl)
 have f:∀i oi,aC H n .ax i=some oi->oi.alive=true->eZ ((λj=>if j=n then g else ρ j) i)=some b->H i=some oi/\eZ (ρ i)=some b:=by
  intro i oi hi xg hb;by_cases fy:i=n;subst fy;simp only[aC,if_true,Option.some.injEq]at hi;subst hi;cases xg;simp only[aC,fy,if_false]at hi hb;exact⟨hi,hb⟩
 have⟨x1,x2⟩:=f i oi h1 h3 h5;have⟨y1,y2⟩:=f j oj h2 h4 h6;exact hs.inj i j oi oj b x1 y1 h3 h4 x2 y2
theorem agu(hs:Sat ρ H G w){id base:Nat}{ck:CK}{m:List (Int×ck.V)}{t kt et:TypeId}(ht:P.underlying t=some (.map kt et))(ho:H id=some (.map ck m))(hb0:H base=none)(hb1:H (base+1)=none)
 {v:Value} (hd:af ρ H (aW ρ H G) w (.fA id) v):∃v' w',(Instr.range t v).run P w=.ok v' w'/\
  Good ρ H G w (aC (aC (aC H base .ax) id (.im ck m base)) (base+1) (.iter id base ck m none)) (.ptr (base+1) 0) v' w':=by
 unfold af aO at hd;obtain⟨b,hb,rfl,_⟩:=hd;have⟨b',es,clock,h1,h2,h3⟩:=hs.obj id _ ho;rw[hb]at h1;cases h1;have ne0:id≠base:=λe=>by subst e;rw[hb0]at ho;cases ho
 have ne1:id≠base+1:=λe=>by subst e;rw[hb1]at ho;cases ho
 have e1:(getObj b).run P w=.ok (.map es clock) w:=by simp[getObj,Sem.run,h2]
 refine⟨.pointer (some ⟨w.heap.size,0,none⟩),w.alloc (.mapIter (some b) clock #[] clock), ?_, ?_⟩;simp[Instr.range,run_underlying ht,e1];have⟨jO,g1,s1,t1,f1⟩:=Good.ghost hs hb0 (acT es clock);have hρ:jO id=.map (some b):=by rw[t1.wX id _ ho,hb]
 have ho1:aC H base .ax id=some (.map ck m):=by simp[aC,ne0,ho]
 have axi:Good jO (aC H base .ax) G w (aC (aC H base .ax) id (.im ck m base)) (.bt []) undef w:=
  Good.upd (o':=.im ck m base) s1 ho1 rfl (λ_ _ hc=>by cases hc) ⟨b,es,clock,hρ,h2,h3,g1,by simp[aC,Ne.symm ne0]⟩ cC
 have⟨gy,s2,d2,t2,f2⟩:=axi;have azL:gy base=acT es clock:=by rw[t2.wX base .ax (by simp[aC])];exact g1
 have azM:gy id=.map (some b):=by rw[t2.wX id _ ho1];exact hρ
 have tG:aC (aC H base .ax) id (.im ck m base) (base+1)=none:=by simp[aC,hb1,Ne.symm ne1]
 have axj:Good gy (aC (aC H base .ax) id (.im ck m base)) G w (aC (aC (aC H base .ax) id (.im ck m base)) (base+1) (.iter id base ck m none)) (.ptr (base+1) 0) (.pointer (some ⟨w.heap.size,0,none⟩)) (w.alloc (.mapIter (some b) clock #[] clock)):=by
  refine Good.fresh (aa:=.pointer (some ⟨w.heap.size,0,none⟩)) s2 tG rfl rfl rfl rfl (λb' vV=>by simpa[eZ]using vV.symm) ?_ ?_;refine⟨w.heap.size,b,es,clock,#[],rfl,kI,⟨?_,h3.fits,h3.xa,h3.old,λp hp=>by cases hp⟩, ?_, ?_, ?_, ?_⟩;rw[<-h3.eq];congr 1;exact List.filter_eq_self.2 λe _=>by simp
  have:base≠base+1:=by omega
  simp only[this,if_false];exact azL;simp[aC,Ne.symm ne0];simp only[ne1,if_false];exact azM;simp[aC,ne1];unfold af aO;exact⟨w.heap.size,by simp,rfl,by simp[aC]⟩
 have⟨ρ3,s3,d3,t3,f3⟩:=axj;exact⟨ρ3,s3,d3,t1.trans (t2.trans t3),f1.seq t1 s1 (f2.seq t2 s2 f3)⟩
theorem erase_filter{L:List MapEntry}(hb:(L.map (·.born)).Nodup){i:Nat}(hi:i<L.length):L.filter (λx=>x.born !=L[i].born)=L.eraseIdx i:=by
 induction L generalizing i with
 |nil=>simp at hi|cons x L ih=>
  simp only[map_cons,List.nodup_cons]at hb;cases i with
  |zero=>
   simp only[List.getElem_cons_zero,List.eraseIdx_cons_zero];rw[List.filter_cons];simp only[bne_self_eq_false,Bool.false_eq_true,if_false];refine List.filter_eq_self.2 λe he=> ?_;rw[bne_iff_ne];exact λh=>hb.1 (mem_map.2 ⟨e,he,h⟩)
  |succ i=>
   simp only[length_cons]at hi;have fy:i<L.length:=by omega
   simp only[List.getElem_cons_succ,List.eraseIdx_cons_succ];rw[List.filter_cons,if_pos,ih hb.2 fy];rw[bne_iff_ne];exact λh=>hb.1 (mem_map.2 ⟨_,getElem_mem fy,h.symm⟩)
theorem xb.next{ck:CK}{left:List (Int×ck.V)}{cur:Option (Int×ck.V)}{es:Array MapEntry}{clock:Nat}{seen:Array Nat}(h:xb ck left cur es clock seen){e:MapEntry}(he:e∈(leftOf es seen).toList):
 ∃i,∃hi:i<left.length,e.key=.int .i64 left[i].1/\e.val=ck.val left[i].2/\xb ck (left.eraseIdx i) (some left[i]) es clock (seen.push e.born):=by
 have hL:(leftOf es seen).toList=es.toList.filter λe=> !seen.contains e.born:=by simp[leftOf]
 rw[hL]at he;obtain⟨i,hi,rfl⟩:=List.getElem_of_mem he;generalize hF:(es.toList.filter λe=> !seen.contains e.born)=F at *;have heq:=h.eq;rw[hF]at heq;have bC:F.length=left.length:=by have:=congrArg List.length heq;simpa only[length_map]using this
 have h1:=congrArg (λl=>l[i]?) heq;have hil:i<left.length:=by omega
 simp only[getElem?_map,getElem?_eq_getElem hi,getElem?_eq_getElem hil,map_some,Option.some.injEq,Prod.mk.injEq]at h1
 have kv:F[i]∈es.toList:=by
  have:=getElem_mem hi;exact(List.mem_filter.1 (show F[i]∈es.toList.filter (λe=> !seen.contains e.born)from by rw[hF];exact this)).1
 refine⟨i,hil,h1.1,h1.2,⟨?_,λp hp=>h.fits p (List.mem_of_mem_eraseIdx hp),h.xa,h.old,λp hp=> ?_⟩⟩
 have e1:(es.toList.filter λe=> !(seen.push F[i].born).contains e.born)=F.filter (λx=>x.born !=F[i].born):=by
  generalize F[i].born=z;rw[<-hF,List.filter_filter];refine List.filter_congr λx _=> ?_;by_cases hz:x.born=z<;>simp[hz,bne]
 have ix:(F.map (·.born)).Nodup:=by
  rw[<-hF];exact(List.Sublist.map _ List.filter_sublist).nodup h.xa
 rw[e1,erase_filter ix hi,ChangeMaps.map_eraseIdx,heq,<-ChangeMaps.map_eraseIdx];cases hp;exact⟨h.fits _ (getElem_mem hil),F[i],kv,by simp,h1.1,h1.2⟩
theorem aki(hs:Sat ρ H G w){id mid gid:Nat}{ck ck':CK}{left:List (Int×ck.V)}{cur:Option (Int×ck.V)}{m:List (Int×ck'.V)}(hp:ck.plain=true)(ho:H id=some (.iter mid gid ck left cur))(hm:H mid=some (.im ck' m gid))
 {v:Value} (hd:af ρ H (aW ρ H G) w (.ptr id 0) v) (ty:TypeId):
 (left=[]/\(Instr.next v false ty).run P w=.ok (.tuple #[.bool false]) w/\Good ρ H G w (aC (aC H mid (.map ck' m)) id .ax) (.bt [.s (.aK false)]) (.tuple #[.bool false]) w)\/
 ∃i,∃hi:i<left.length,∃v' w1,(w1=w\/w1=w.drew)/\∃w',(Instr.next v false ty).run P w=.ok v' w'/\
  Good ρ H G w1 (aC H id (.iter mid gid ck (left.eraseIdx i) (some left[i]))) (.bt [.s (.aK true),.s (.int .i64 left[i].1),ck.av left[i].2]) v' w':=by
 unfold af aO at hd;obtain⟨b,hb,rfl,_⟩:=hd;have⟨mb,es,clock,seen,h1,h2,h3,h4,h5,h6,h7⟩:=adg hs ho hm hb;have cQ:mid≠id:=λe=>by subst e;rw[ho]at hm;cases hm
 rcases run_next_at (P:=P) w ty b mb clock clock seen es clock h1 h2 h3.old (le_refl _)with⟨k1,k2⟩|⟨e,he,w1,k1,k2⟩;refine .inl ⟨?_,k2, ?_⟩
 have hl:(es.toList.filter λe=> !seen.contains e.born)=[]:=by
  have:(leftOf es seen).toList.length=0:=by simpa using k1
  have:=List.eq_nil_of_length_eq_zero this;simpa[leftOf]using this
 have:=congrArg List.length h3.eq;rw[hl]at this;exact List.eq_nil_of_length_eq_zero (by simpa using this.symm)
 obtain⟨jO,s1,d1,t1,f1⟩:Good ρ H G w (aC H mid (.map ck' m)) (.bt [.s (.aK false)]) (.tuple #[.bool false]) w:=
  Good.upd (o':=.map ck' m) hs hm rfl (λ_ _ hc=>by cases hc) ⟨mb,es,clock,h5,h2,h4⟩ (by
   unfold af;exact⟨[.bool false],rfl,aE.2 ⟨_,_,rfl,aF (.aK _),ba.2 rfl⟩⟩)
 have ho1:aC H mid (.map ck' m) id=some (.iter mid gid ck left cur):=by simp[aC,Ne.symm cQ,ho]
 have st:=fk (ρ:=jO) (G:=G) (w:=w) ho1;refine⟨jO,s1.kill ho1,af.step st _ _ d1,t1.trans st,f1⟩;have⟨i,hi,g1,g2,g3⟩:=h3.next he;refine .inr ⟨i,hi,_,w1,k1,_,k2, ?_⟩
 have hs1:Sat ρ H G w1:=by
  rcases k1 with rfl|rfl;exact hs;have st:Step ρ H (aW ρ H G) w ρ H (aW ρ H G) w.drew:=⟨λ_ _ _=>rfl,λ_ o ho=>⟨o,ho,λc' e' e=>⟨c',e',e,rfl,rfl⟩⟩,λ_ h=>.inl h,λ_ _ _=>rfl,le_refl _⟩;exact⟨λj x hx=>(hs.obj j x hx).step st (λ_ _ _=>rfl),hs.inj,hs.apart,hs.low⟩
 have hh:w1.heap=w.heap:=by rcases k1 with rfl|rfl<;>rfl
 have hb1:w1.heap[b]? =some (.mapIter (some mb) clock seen clock):=by rw[hh];exact h1
 refine Good.write hs1 ho rfl rfl (by rw[hb];rfl) (λ_ _ hc=>by cases hc) ?_ ?_;exact⟨b,mb,es,clock,_,hb,ei hb1,g3,h6,by simp only[aC];split<;>first|rfl|exact h7,h5,by simp only[aC,cQ,if_false];rw[hm];rfl⟩;rw[g1,g2];unfold af;exact⟨[.bool true,.int .i64 left[i].1,ck.val left[i].2],rfl,aE.2 ⟨_,_,rfl,aF (.aK _),aE.2 ⟨_,_,rfl,aF (.int _ _),aE.2 ⟨_,_,rfl,abD (h3.fits _ (getElem_mem hi)) (adh hp _),ba.2 rfl⟩⟩⟩⟩
theorem cp.zF{s:St}{a:Act}(h:cp X ρ s a w){dst:Option Tmp}{q:bR}{v:Value}(hw:w1=w\/w1=w.drew)(hg:Good ρ s.look X.G w1 (s.put dst q).look (q.r s.H.length) v w'):∃aN,cp X aN (s.put dst q) (a.put dst v) w':=by
 have h1:cp X ρ s a w1:=by
  rcases hw with rfl|rfl;exact h;exact h.drew
 have⟨aN,g1,g2,g3,g4⟩:=hg;have⟨arr,df⟩:=a;have hp:=r8 (ρ:=aN) (H:=(s.put dst q).look) (O:=aW aN (s.put dst q).look X.G) (w:=w') h1.size (λt=>af.step g3 _ _ (h1.den t)) dst g2 df;exact⟨aN,g1,hp.1,hp.2,by have:=h1.defers;cases dst<;>exact this,h1.ao.trans g3,Frm.trans h1 g4,h1.kept.jN h1.sat g4⟩
def akj(fn:Func)(key i:Nat):Option (Array Oper×Oper×List Item):=match hr fn key with
 |.code (.region _ ops _)::k=>(ops[i]?).map λo=>(ops,o,k)|_=>none
def ah7(x:Array Oper×Oper×List Item):Option (TypeId×Tmp×Tmp):=match x.2.1.guard,x.2.1.op,x.2.1.dst with
 |none,.range t (.tmp y),some d=>bif iK x.1 then some (t,y,d)else none|_,_,_=>none
def amu(x:Array Oper×Oper×List Item):Option (Tmp×Tmp):=match x.2.1.guard,x.2.1.op,x.2.1.dst with
 |none,.next (.tmp y) false,some d=>bif iK x.1 then some (y,d)else none|_,_,_=>none
theorem Yields.congr{o:Oper}{e e':Operand->Value}{R:Value->World->Prop}(he:execOp e' o=execOp e o)(h:Yields P o e w R):Yields P o e' w R:=by
 unfold Yields at *;rw[he];exact h
theorem adV{f:FuncId}{fn:Func}{key i:Nat}{ops:Array Oper}{o:Oper}{k:List Item}(hat:akj fn key i=some (ops,o,k))(ix:iK ops=true)(hg:o.guard=none){tmps:List AV}{L:List ak}{stk:um}
 (cP:(stk.plain||l5 (bP.n ⟨tmps,L,[],stk⟩) ops)=true)
 (h:∀G E ρ a w,cp (X.at G E) ρ ⟨tmps,L⟩ a w->Yields P o a.eval w (λv w'=>∃q aN,cp (X.at G E) aN (St.put ⟨tmps,L⟩ o.dst q) (a.put o.dst v) w'/\
   Safe P f X K ⟨(St.put ⟨tmps,L⟩ o.dst q).tmps,(St.put ⟨tmps,L⟩ o.dst q).H,sr fn key (i+1),stk⟩)):Safe P f X K ⟨tmps,L,sr fn key i,stk⟩:=by
 obtain⟨ho,hc⟩:ops[i]? =some o/\∀j,sr fn key j=.inRegion ops (range' j (ops.size - j))::k:=by
  unfold akj at hat;split at hat;rename_i n aBz d k' hh;simp only[map_eq_some_iff,Prod.mk.injEq]at hat;obtain⟨o',e1,rfl,rfl,rfl⟩:=hat;exact⟨e1,λj=>by unfold sr;rw[hh]⟩;cases hat
 intro G E ρ a w gN ib hr b t fs hw;have⟨rest,Ds,asV,uq,hwf⟩:=hw.top (c:=⟨tmps,L,[],stk⟩) hr.dp.len
 have re:ky (bP.n ⟨tmps,L,[],stk⟩) rest Ds a t:=by
  have e:(⟨a.tmps.toList.toArray,[]⟩:Act)=a:=by
   have:=hr.defers;cases a;simp at this ⊢;exact this
  rw[e]at asV;exact asV
 have axk:r9 (bP.n ⟨tmps,L,[],stk⟩) rest ops:=adx cP uq (λx=>x);have lP:=(axk.op ho).imp (λx=>x) (·.2.1);have hi:i<ops.size:=(Array.getElem?_eq_some_iff.1 ho).1
 have uc:range' i (ops.size - i)=i::range' (i+1) (ops.size - (i+1)):=by
  rw[show ops.size - i=ops.size - (i+1)+1 from by omega,List.range'_succ]
 have hy':=(h G E ρ a w hr).congr (re.same axk ho).1;show cO P f (kx X K) b t (sr fn key i) fs w;rw[hc i,uc];intro cs;have⟨v,w',⟨q,aN,eI,hs⟩,np⟩:=ahJ ho (by simp[Region.wanted,hg]) (o8 ix ho) hy' b k (fs++cs) (rest:=range' (i+1) (ops.size - (i+1)));have af0:=re.put lP v;have:=hs G E aN _ w' gN ib eI b (t.put o.dst v) fs (hwf _ _ af0 eI.defers);rw[hc (i+1)]at this;have⟨e,w2,fr,g1,g2,g3⟩:=this cs;exact⟨e,w2,fr,g1,Comes.of_steps np g2,g3⟩
theorem agv{L:List ak}{id:Nat}{x:ak}(h:id<L.length)(j:Nat):(L.set id x)[j]? =aC (λi=>L[i]?) id x j:=by
 simp only[aC];rw[getElem?_set];by_cases hj:j=id;subst hj;simp[h];rw[if_neg (Ne.symm hj),if_neg hj]
theorem yf{f:FuncId}{fn:Func}{key i:Nat}{t:TypeId}{x d:Tmp}(hat:(akj fn key i).bind ah7=some (t,x,d))(ht:amt P t=true){tmps:List AV}{L:List ak}{stk:um}
 (cP:(stk.plain||((akj fn key i).any λy=>l5 (bP.n ⟨tmps,L,[],stk⟩) y.1))=true) {id:Nat} {ck:CK} {m:List (Int×ck.V)} (hx:tmps.getD x (.s .aZ)=.fA id) (dt:L[id]? =some (.map ck m))
 (h:Safe P f X K ⟨tmps.set d (.ptr (L.length+1) 0),L.set id (.im ck m L.length)++[.ax,.iter id L.length ck m none],sr fn key (i+1),stk⟩):Safe P f X K ⟨tmps,L,sr fn key i,stk⟩:=by
 have⟨⟨ops,o,k⟩,h1,h2⟩:=bind_eq_some_iff.1 hat;rw[h1]at cP;unfold ah7 at h2;split at h2;rename_i t' y d' e1 e2 e3;simp only[]at e1 e2 e3;rw[cond_eq_ite]at h2;split at h2;rename_i ix;simp only[Option.some.injEq,Prod.mk.injEq]at h2;obtain⟨rfl,rfl,rfl⟩:=h2
 obtain⟨kt,et,hut⟩:∃kt et,P.underlying t'=some (.map kt et):=by
  unfold amt at ht;split at ht;exact⟨_,_,by assumption⟩;cases ht
 refine adV h1 ix e1 (by simpa using cP) λG E ρ a w hr=> ?_;have bq:id<L.length:=(List.getElem?_eq_some_iff.1 dt).1;have hd:=hr.den y;rw[show(St.tmps ⟨tmps,L⟩).getD y (.s .aZ)=.fA id from hx]at hd;have⟨v',w',g1,g2⟩:=agu (P:=P) hr.sat hut (show(St.look ⟨tmps,L⟩) id=some _ from dt) (base:=L.length) (by simp[St.look]) (by simp[St.look]) hd;refine c9 (s:=Instr.range t' (a.eval (.tmp y))) ⟨v',w',g1, ?_⟩ (by simp only[execOp,e2]);have hl:(St.put ⟨tmps,L⟩ o.dst ⟨[],[(id,.im ck m L.length)],[.ax,.iter id L.length ck m none],λb=>.ptr (b+1) 0⟩).look=
  aC (aC (aC (St.look ⟨tmps,L⟩) L.length .ax) id (.im ck m L.length)) (L.length+1) (.iter id L.length ck m none):=by
  funext j;show(L.set id (.im ck m L.length)++[.ax,.iter id L.length ck m none])[j]? =_;simp only[aC,St.look];by_cases hj1:j=L.length+1;subst hj1;rw[getElem?_append_right (by simp),if_pos rfl];simp;rw[if_neg hj1];by_cases wv:j=id;subst wv;rw[getElem?_append_left (by simpa using bq),if_pos rfl];simp[bq];rw[if_neg wv];by_cases hj3:j=L.length;subst hj3;rw[getElem?_append_right (by simp),if_pos rfl];simp;rw[if_neg hj3];rcases lt_or_ge j L.length with hj|hj;rw[getElem?_append_left (by simpa using hj),List.getElem?_set_ne (Ne.symm wv)];rw[getElem?_append_right (by simpa using hj),getElem?_eq_none (by simp;omega),getElem?_eq_none (by omega)]
 rw[<-hl]at g2;have⟨aN,eI⟩:=hr.zF (.inl rfl) g2;refine⟨_,aN,eI, ?_⟩;rw[e3];exact h;cases h2;cases h2
theorem pX{f:FuncId}{fn:Func}{key i:Nat}{x d:Tmp}(hat:(akj fn key i).bind amu=some (x,d)){tmps:List AV}{L:List ak}{stk:um}
 (cP:(stk.plain||((akj fn key i).any λy=>l5 (bP.n ⟨tmps,L,[],stk⟩) y.1))=true) {id mid gid:Nat} {ck ck':CK} {left:List (Int×ck.V)} {cur:Option (Int×ck.V)} {m:List (Int×ck'.V)} (hp:ck.plain=true)
 (hx:tmps.getD x (.s .aZ)=.ptr id 0) (dt:L[id]? =some (.iter mid gid ck left cur)) (axl:L[mid]? =some (.im ck' m gid))
 (h0:left=[]->Safe P f X K ⟨tmps.set d (.bt [.s (.aK false)]),(L.set mid (.map ck' m)).set id .ax,sr fn key (i+1),stk⟩)
 (h:∀j,j<left.length->Safe P f X K ⟨tmps.set d (.bt [.s (.aK true),.s (.int .i64 (left.getD j (0,ck.d)).1),ck.av (left.getD j (0,ck.d)).2]),L.set id (.iter mid gid ck (left.eraseIdx j) (some (left.getD j (0,ck.d)))),sr fn key (i+1),stk⟩):
 Safe P f X K ⟨tmps,L,sr fn key i,stk⟩:=by
 have⟨⟨ops,o,k⟩,h1,h2⟩:=bind_eq_some_iff.1 hat;rw[h1]at cP;unfold amu at h2;split at h2;rename_i y d' e1 e2 e3;simp only[]at e1 e2 e3;rw[cond_eq_ite]at h2;split at h2;rename_i ix;simp only[Option.some.injEq,Prod.mk.injEq]at h2;obtain⟨rfl,rfl⟩:=h2;refine adV h1 ix e1 (by simpa using cP) λG E ρ a w hr=> ?_;have bq:id<L.length:=(List.getElem?_eq_some_iff.1 dt).1;have at4:mid<L.length:=(List.getElem?_eq_some_iff.1 axl).1;have hd:=hr.den y;rw[show(St.tmps ⟨tmps,L⟩).getD y (.s .aZ)=.ptr id 0 from hx]at hd;rcases aki (P:=P) hr.sat hp (show(St.look ⟨tmps,L⟩) id=some _ from dt) (show(St.look ⟨tmps,L⟩) mid=some _ from axl) hd o.type with⟨g0,g1,g2⟩|⟨j,hj,v',w1,g1,w',g2,g3⟩;refine c9 (s:=Instr.next (a.eval (.tmp y)) false o.type) ⟨_,_,g1, ?_⟩ (by simp only[execOp,e2])
 have hl:(St.put ⟨tmps,L⟩ o.dst ⟨[],[(mid,.map ck' m),(id,.ax)],[],λ_=>.bt [.s (.aK false)]⟩).look=aC (aC (St.look ⟨tmps,L⟩) mid (.map ck' m)) id .ax:=by
  funext j;show((L.set mid (.map ck' m)).set id .ax++[])[j]? =_;rw[append_nil,agv (by simpa using bq)];simp only[aC];split;rfl;exact agv at4 j
 rw[<-hl]at g2;have⟨aN,eI⟩:=hr.zF (.inl rfl) g2;refine⟨_,aN,eI, ?_⟩;rw[e3];have:=h0 g0;simpa[St.put,oP,cX]using this;refine c9 (s:=Instr.next (a.eval (.tmp y)) false o.type) ⟨_,_,g2, ?_⟩ (by simp only[execOp,e2]);have hl:(St.put ⟨tmps,L⟩ o.dst ⟨[],[(id,.iter mid gid ck (left.eraseIdx j) (some left[j]))],[],λ_=>.bt [.s (.aK true),.s (.int .i64 left[j].1),ck.av left[j].2]⟩).look=
  aC (St.look ⟨tmps,L⟩) id (.iter mid gid ck (left.eraseIdx j) (some left[j])):=by
  funext j';show(L.set id _++[])[j']? =_;rw[append_nil];exact agv bq j'
 rw[<-hl]at g3;have⟨aN,eI⟩:=hr.zF g1 g3;refine⟨_,aN,eI, ?_⟩;rw[e3];have:=h j hj;rw[show left.getD j (0,ck.d)=left[j]from by simp[List.getD,hj]]at this;simpa[St.put,oP,cX]using this;cases h2;cases h2
end
end Go.Sx
namespace Ds
open Go Go.Sx Go.Proofs Lf
noncomputable abbrev P:Program:=Tryz.prog
theorem mixed:P.follows .mixedOrders=true:=by kernel_rfl
abbrev bJ:Ty:=.b (.int .i64)
abbrev dh:Ty:=.b .bool
abbrev eX:Ty:=.b .str
theorem go{Z:bm}{X:Ctx}{t:aM}{f:FuncId}{fn:Func}{ns:List (Nat×Norm)}{c:bP}{tr:Tree}{K:List ak->AV->Prop}{inl:List FuncId}(hz:eb Z X)(hX:∀id,X.H id=none)(hT:t.Ok P Z)(hf:P.funcs[f]? =some fn)
 (e:run P t.sum fn ns c inl=tr) (h:tr.Holds K (Safe P f X K)):Safe P f X K c:=cV (aM.sOk hT) hz mixed hf (λ_ _ id _=>hX id) e h
theorem cH{Z:bm}{X:Ctx}{t:aM}{f:FuncId}{fn:Func}{ns:List (Nat×Norm)}{c:bP}{tr:Tree}{K:List ak->AV->Prop}{L:List ak}{inl:List FuncId}(hz:eb Z X)(hX:X.H=lk L)(hm:∀x∈ns,L.length<=x.2.m)(hT:t.Ok P Z)(hf:P.funcs[f]? =some fn)
 (e:run P t.sum fn ns c inl=tr) (h:tr.Holds K (Safe P f X K)):Safe P f X K c:=
 cV (aM.sOk hT) hz mixed hf (λx hx id dt=>by rw[hX];exact getElem?_eq_none (le_trans (hm x hx) dt)) e h
abbrev cS:List CK:=[.arr .u8 64]
abbrev kS:CK:=.arr .u8 64
abbrev eS:TypeId:=165
abbrev eD:TypeId:=105
abbrev Th:Type:=List (CL cS)
abbrev As:Type:=List (Int×kS.V)
abbrev jl(i j:Nat)(fu:Int):ak:=.aq [.vec i,.fA j,.s (.int .i64 fu)] eD
abbrev hD(th:Th)(m:As)(fu:Int):List ak:=[jl 1 2 fu,.vec (.au cS th) eS,.map kS m]
abbrev iq:aM:=[]
abbrev inD:List FuncId:=[169,170,96]
def adW:List (Nat×Norm):=[(6,⟨[],[0],3,[]⟩),(7,⟨[],[0,17],3,[]⟩)]
abbrev ki(l:Nat):um:=⟨none,false,0,[],l⟩
noncomputable def cF6(th:Th)(m:As)(fu:Int):bP:=⟨sl 34 [(0,.ptr 0 0)],hD th m fu,hr f49 6,{}⟩
noncomputable def azN(th:Th)(m:As)(fu:Int):bP:=⟨sl 34 [(0,.ptr 0 0),(13,.ptr 0 0),(14,.ptr 0 0),(15,.ptr 0 1),(16,.fA 2),(17,.ptr 4 0)],[jl 1 2 fu,.vec (.au cS th) eS,.im kS m 3,.ax,.iter 2 3 kS m none],sr f49 6 5,ki 6⟩
noncomputable def cF7(th:Th)(m left:As)(cur:Option (Int×kS.V))(fu:Int):bP:=⟨sl 34 [(0,.ptr 0 0),(17,.ptr 3 0)],[jl 1 2 fu,.vec (.au cS th) eS,.im kS m 4,.iter 2 4 kS left cur,.ax],hd f49 7,{}⟩
noncomputable def azO(th:Th)(m:As)(fu:Int):bP:=⟨sl 34 [(0,.ptr 0 0),(17,.ptr 3 0),(18,.bt [.s (.aK false)])],[jl 1 2 fu,.vec (.au cS th) eS,.map kS m,.ax,.ax],sr f49 7 1,ki 7⟩
noncomputable def azP(th:Th)(m left:As)(p:Int×kS.V)(fu:Int):bP:=⟨sl 34 [(0,.ptr 0 0),(17,.ptr 3 0),(18,.bt [.s (.aK true),.s (.int .i64 p.1),kS.av p.2])],[jl 1 2 fu,.vec (.au cS th) eS,.im kS m 4,.iter 2 4 kS left (some p),.ax],sr f49 7 1,ki 7⟩
def ng(th:Th):Prop:=th.length<=4096/\∀i,i<th.length->(fH (th.getD i (CL.d cS))).length=64
def okM(n:Nat)(m:As):Prop:=(m.map (·.1)).Nodup/\∀p∈m,0<=p.1/\p.1<(n:Int)/\List.length (α:=Int) p.2=64
def okF(fu:Int):Prop:= -1<=fu/\fu<=9223372036854775807
structure bo (th:Th) (m:As) (fu:Int):Prop where
 t:ng th
 m:okM th.length m
 f:okF fu
def jm(th:Th)(n:Int):Bool:=decide (0<=n)&&decide (n<(th.length:Int))
def lu(th:Th)(m:As)(n:Int):List Int:=match ct m n with
 |some v=>v|none=>fH (th.getD n.toNat (CL.d cS))
def cI(th:Th)(m:As)(n:Int):ByteArray:=if jm th n=true then aG (lu th m n)else empty
def rdE(th:Th)(n:Int):Int:=if jm th n=true then 0 else 5
def dD(fu:Int):Int:=if fu=0 then 0 else imax (fu - 1) (-1)
def pf(th:Th)(fu n:Int)(s:ByteArray):Int:=if jm th n=true then(if s.size=64 then(if fu=0 then 42 else 0)else 1)else 5
def uy(th:Th)(m:As)(fu n:Int)(s:ByteArray):As:=if pf th fu n s=0 then mu m n (bx s)else m
def uz(th:Th)(fu n:Int)(s:ByteArray):Int:=if jm th n=true/\s.size=64 then dD fu else fu
def zJ(fu:Int):Int:=if fu=0 then 42 else 0
def ovl(th:Th)(m:As):Th:=(List.range th.length).map λ(i:Nat)=>(qt (lu th m (i:Int)):CL cS)
def lS(th:Th)(m:As)(fu:Int):Th:=if fu=0 then th else ovl th m
def oe(m:As)(fu:Int):As:=if fu=0 then m else []
def fuE(fu n:Int):Int:=if n<0 then 1 else if fu=0 then 42 else 0
def fuF(fu n:Int):Int:=if n<0 then fu else if fu=0 then 0 else n
abbrev sRd:Spec (Th×As×Int×Int):=⟨λ(_,_,_,n)=>[.ptr 0 0,.s (.int .i64 n)],λ(th,m,fu,_)=>hD th m fu,λ(th,m,fu,_)=>[bo th m fu],λ(th,m,fu,_)=>hD th m fu,λ(th,m,_,n)=>.bt [.s (.str (cI th m n)),.s (.int .i64 (rdE th n))]⟩
abbrev sWr:Spec (Th×As×Int×Int×ByteArray):=⟨λ(_,_,_,n,s)=>[.ptr 0 0,.s (.int .i64 n),.s (.str s)],λ(th,m,fu,_)=>hD th m fu,λ(th,m,fu,_)=>[bo th m fu],
 λ(th,m,fu,n,s)=>hD th (uy th m fu n s) (uz th fu n s),λ(th,_,fu,n,s)=>.s (.int .i64 (pf th fu n s))⟩
abbrev sFl:Spec (Th×As×Int):=⟨λ_=>[.ptr 0 0],λ(th,m,fu)=>hD th m fu,λ(th,m,fu)=>[bo th m fu],λ(th,m,fu)=>hD (lS th m fu) (oe m fu) (dD fu),λ(_,_,fu)=>.s (.int .i64 (zJ fu))⟩
abbrev sDe:Spec (Th×As×Int):=⟨λ_=>[.ptr 0 0],λ(th,m,fu)=>hD th m fu,λ_=>[],λ(th,m,fu)=>hD th m fu,λ(_,_,fu)=>.s (.bool (fu==0))⟩
abbrev sFu:Spec (Th×As×Int×Int):=⟨λ(_,_,_,n)=>[.ptr 0 0,.s (.int .i64 n)],λ(th,m,fu,_)=>hD th m fu,λ_=>[],λ(th,m,fu,n)=>hD th m (fuF fu n),λ(_,_,fu,n)=>.s (.int .i64 (fuE fu n))⟩
theorem amv(th:Th)(m:As)(fu n:Int):run P iq.sum f135 [] (start f135 [.ptr 0 0,.s (.int .i64 n)] (hD th m fu)) inD=
 Tree.ite (decide (n<(0:Int))) (Tree.ret (hD th m fu) (AV.bt [AV.s (SV.str empty),AV.s (SV.aS i64 (5:Int))])) (Tree.ite (decide (n>=(↑(List.length th):Int))) (Tree.ret (hD th m fu) (AV.bt [AV.s (SV.str empty),AV.s (SV.aS i64 (5:Int))])) (Tree.ite (om m n) (Tree.ab ((0:Int)<=(0:Int)) (Tree.ab ((0:Int)<=(↑(64:Nat):Int)) (Tree.ab ((↑(64:Nat):Int)<=(↑(64:Nat):Int)) (Tree.ab ((0:Nat)+(64:Nat)<=(64:Nat)) (Tree.ret (hD th m fu++[ak.aq [AV.ah u8 (64:Nat) ((ct m n).getD (CK.arr u8 (64:Nat)).d)] (165:Nat),ak.aq [AV.ah u8 (64:Nat) ((ct m n).getD (CK.arr u8 (64:Nat)).d)] (165:Nat),ak.aq [AV.ah u8 (64:Nat) ((ct m n).getD (CK.arr u8 (64:Nat)).d)] (165:Nat)]) (AV.bt [AV.s (SV.str (aG (List.take (64:Nat) (List.drop (0:Nat) ((ct m n).getD (CK.arr u8 (64:Nat)).d))))),AV.s (SV.aS i64 (0:Int))])))))) (Tree.ab ((0:Int)<=n) (Tree.ab (n<(↑(List.length th):Int)) (Tree.ab (List.length (List.getD th n.toNat (CL.d [CK.arr u8 (64:Nat)])).fst=(64:Nat)) (Tree.ab ((0:Int)<=(0:Int)) (Tree.ab ((0:Int)<=(↑(64:Nat):Int)) (Tree.ab ((↑(64:Nat):Int)<=(↑(64:Nat):Int)) (Tree.ab ((0:Nat)+(64:Nat)<=(64:Nat)) (Tree.ret (hD th m fu++[ak.aq [AV.ah u8 (64:Nat) (List.getD th n.toNat (CL.d [CK.arr u8 (64:Nat)])).fst] (165:Nat),ak.aq [AV.ah u8 (64:Nat) ((ct m n).getD (CK.arr u8 (64:Nat)).d)] (165:Nat),ak.aq [AV.ah u8 (64:Nat) (List.getD th n.toNat (CL.d [CK.arr u8 (64:Nat)])).fst] (165:Nat)]) (AV.bt [AV.s (SV.str (aG (List.take (64:Nat) (List.drop (0:Nat) (List.getD th n.toNat (CL.d [CK.arr u8 (64:Nat)])).fst)))),AV.s (SV.aS i64 (0:Int))]))))))))))):=by kernel_rfl
theorem akk(th:Th)(m:As)(fu n:Int)(s:ByteArray):run P iq.sum f136 [] (start f136 [.ptr 0 0,.s (.int .i64 n),.s (.str s)] (hD th m fu)) inD=
 Tree.ite (decide (n<0)) (.ret (hD th m fu) (.s (.aS .i64 5))) (.ite (decide (n>=(↑(List.length th):Int))) (.ret (hD th m fu) (.s (.aS .i64 5))) (.ite ((↑s.size:Int) !=64) (.ret (hD th m fu) (.s (.aS .i64 1))) (.ite (fu==0) (.ret (hD th m fu) (.s (.aS .i64 42))) (.ab (aB (fu - (1:Int))) (.ab (s.size<=4294967296) (.ab ((64:Nat)<=(bx s).length) (.ab (List.length ([(List.take 64 (bx s),())].getD 0 (CL.d [.arr .u8 64])).fst=64) (.ret (hD th (mu m n ([(List.take 64 (bx s),())].getD 0 (CL.d [.arr .u8 64])).fst) (imax (fu - (1:Int)) (-1))) (.s (.aS .i64 0)))))))))):=by kernel_rfl
theorem amw(th:Th)(m:As)(fu:Int):run P iq.sum f62 [] (start f62 [.ptr 0 0] (hD th m fu))=
 Tree.ret (hD th m fu) (.s (.bool (fu==0))):=by kernel_rfl
theorem amx(th:Th)(m:As)(fu n:Int):run P iq.sum f57 [] (start f57 [.ptr 0 0,.s (.int .i64 n)] (hD th m fu))=
 Tree.ite (decide (n<0)) (.ret (hD th m fu) (.s (.aS .i64 1))) (.ite (fu==0) (.ret (hD th m fu) (.s (.aS .i64 42))) (.ret (hD th m n) (.s (.aS .i64 0)))):=by kernel_rfl
theorem akl(th:Th)(m:As)(fu:Int):run P iq.sum f49 adW (start f49 [.ptr 0 0] (hD th m fu)) inD=
 Tree.ite (fu==0) (.ret (hD th m fu) (.s (.aS .i64 42))) (.ab (aB (fu - (1:Int))) (.at (cF6 th m (imax (fu - (1:Int)) (-1))))):=by kernel_rfl
theorem auE(th:Th)(m:As)(fu:Int):run P iq.sum f49 adW (cF6 th m fu) inD=
 Tree.at (.mk (sl 34 [(0,.ptr 0 0),(13,.ptr 0 0),(14,.ptr 0 0),(15,.ptr 0 1),(16,.fA 2)]) (hD th m fu) (sr f49 6 4) (.mk none false 0 [] 6)):=by kernel_rfl
theorem ap4(th:Th)(m:As)(fu:Int):run P iq.sum f49 adW (azN th m fu) inD=
 Tree.at (cF7 th m m none fu):=by kernel_rfl
theorem amy(th:Th)(m left:As)(cur:Option (Int×kS.V))(fu:Int):run P iq.sum f49 adW (cF7 th m left cur fu) inD=
 Tree.at (.mk (sl 34 [(0,.ptr 0 0),(17,.ptr 3 0)]) [Ds.jl 1 2 fu,.vec (.au Ds.cS th) Ds.eS,.im (.arr .u8 64) m 4,.iter 2 4 (.arr .u8 64) left cur,.ax] (sr f49 7 0) (.mk none false 0 [] 7)):=by kernel_rfl
theorem ap5(th:Th)(m:As)(fu:Int):run P iq.sum f49 adW (azO th m fu) inD=
 Tree.ret (hD th [] fu++[.ax,.ax]) (.s (.aS .i64 0)):=by kernel_rfl
theorem ap6(th:Th)(m left:As)(p:Int×kS.V)(fu:Int):run P iq.sum f49 adW (azP th m left p fu) inD=
 Tree.ab ((0:Int)<=p.fst) (.ab (p.fst<(↑(List.length th):Int)) (.at (cF7 (List.set th p.fst.toNat (p.snd,())) m left (some p) fu))):=by kernel_rfl
theorem fp{th:Th}{n:Int}:jm th n=true↔0<=n/\n<(th.length:Int):=by simp[jm]
theorem sG{th:Th}{n:Int}:jm th n=false↔n<0\/(th.length:Int)<=n:=by
 rw[<-Bool.not_eq_true,fp];omega
theorem sH{m:As}{n:Int}:om m n=(ct m n).isSome:=by
 rw[Bool.eq_iff_iff];simp only[om,ct,Option.isSome_map,List.find?_isSome,List.any_eq_true]
theorem yg{m:As}{n:Int}{v:kS.V}(h:ct m n=some v):(n,v)∈m:=by
 simp only[ct,map_eq_some_iff]at h;obtain⟨p,hp,rfl⟩:=h;have h1:=List.mem_of_find?_eq_some hp;have h2:=List.find?_some hp;simp only[beq_iff_eq]at h2;have⟨a,b⟩:=p;simp only at h2;subst h2;exact h1
theorem sK{th:Th}{m:As}{fu n:Int}(h:bo th m fu)(hn:jm th n=true):(lu th m n).length=64:=by
 have⟨h0,h1⟩:=fp.1 hn;unfold lu;split;rename_i v hv;exact(h.m.2 _ (yg hv)).2.2;exact h.t.2 _ (by omega)
theorem adX{l:List Int}(h:l.length=64):List.take 64 (List.drop 0 l)=l:=by rw[List.drop_zero,take_of_length_le (by omega)]
theorem ap7{Z:bm}:fM P Z 135 sRd:=by
 refine fS func135 ?_;rintro⟨th,m,fu,n⟩ ⟨(hd:bo th m fu),_⟩ X hX hz;have bad:jm th n=false->cI th m n=empty/\rdE th n=5:=λh=>by simp[cI,rdE,h]
 refine cH hz hX (by simp) aM.Ok.nil func135 (amv th m fu n) ⟨λh=> ?_,λh=>⟨λh2=> ?_,λh2=> ?_⟩⟩;have⟨e1,e2⟩:=bad (sG.2 (.inl (of_decide_eq_true h)));exact bE 3 (by kernel_rfl) (le_refl _) (by show AV.bt [.s (.str (cI th m n)),.s (.int .i64 (rdE th n))]=_;rw[e1,e2]) rfl;have⟨e1,e2⟩:=bad (sG.2 (.inr (of_decide_eq_true h2)));exact bE 3 (by kernel_rfl) (le_refl _) (by show AV.bt [.s (.str (cI th m n)),.s (.int .i64 (rdE th n))]=_;rw[e1,e2]) rfl;have h:=of_decide_eq_false h;have h2:=of_decide_eq_false h2;have cP:jm th n=true:=fp.2 ⟨by omega,by omega⟩;have hl:=sK hd cP;have e1:cI th m n=aG (lu th m n):=by simp[cI,cP]
 have e2:rdE th n=0:=by simp[rdE,cP]
 refine⟨λhh=>⟨by omega,by omega,by omega,by omega, ?_⟩,λhh=>⟨by omega,by omega, ?_,by omega,by omega,by omega,by omega, ?_⟩⟩;rw[sH]at hh;have⟨v,hv⟩:=isSome_iff_exists.1 hh;have e3:lu th m n=v:=by unfold lu;rw[hv]
 rw[e3]at e1 hl;refine bE (o:=.bt [.s (.str (aG (List.take 64 (List.drop 0 (((ct m n).getD (CK.arr .u8 64).d):List Int))))),.s (.int .i64 0)]) 3 (by kernel_rfl) (le_refl _) ?_ rfl;show AV.bt [.s (.str (cI th m n)),.s (.int .i64 (rdE th n))]=_;rw[e1,e2,hv,getD_some,adX hl];rw[sH]at hh;have hv:ct m n=none:=by simpa using hh
 have e3:lu th m n=fH (th.getD n.toNat (CL.d cS)):=by simp[lu,hv]
 rw[e3]at hl;exact hl;rw[sH]at hh;have hv:ct m n=none:=by simpa using hh
 have e3:lu th m n=fH (th.getD n.toNat (CL.d cS)):=by simp[lu,hv]
 rw[e3]at e1 hl;refine bE (o:=.bt [.s (.str (aG (List.take 64 (List.drop 0 (fH (th.getD n.toNat (CL.d cS))))))),.s (.int .i64 0)]) 3 (by kernel_rfl) (le_refl _) ?_ rfl;show AV.bt [.s (.str (cI th m n)),.s (.int .i64 (rdE th n))]=_;rw[e1,e2,adX hl]
theorem yh{Z:bm}:fM P Z 136 sWr:=by
 refine fS func136 ?_;rintro⟨th,m,fu,n,s⟩ ⟨(hd:bo th m fu),_⟩ X hX hz;have⟨f1,f2⟩:=hd.f;have fin:∀(e:Int) (m':As) (fz:Int),pf th fu n s=e->uy th m fu n s=m'->uz th fu n s=fz->
  (sWr.out (th,m,fu,n,s)=.s (.int .i64 e))/\sWr.dO (th,m,fu,n,s)=hD th m' fz:=λe m' fz h1 h2 h3=>
  ⟨by show AV.s (.int .i64 (pf th fu n s))=_;rw[h1],by show hD th (uy th m fu n s) (uz th fu n s)=_;rw[h2,h3]⟩
 have bad:jm th n=false->pf th fu n s=5/\uy th m fu n s=m/\uz th fu n s=fu:=λh=>by simp[pf,uy,uz,h]
 refine cH hz hX (by simp) aM.Ok.nil func136 (akk th m fu n s) ⟨λh=> ?_,λh=>⟨λh2=> ?_,λh2=>⟨λh3=> ?_,λh3=>⟨λh4=> ?_,λh4=>⟨⟨by omega,by omega⟩, ?_, ?_, ?_, ?_⟩⟩⟩⟩⟩;have⟨e1,e2,e3⟩:=bad (sG.2 (.inl (of_decide_eq_true h)));exact bE 3 (by kernel_rfl) (le_refl _) (fin _ _ _ e1 e2 e3).1 (fin _ _ _ e1 e2 e3).2;have⟨e1,e2,e3⟩:=bad (sG.2 (.inr (of_decide_eq_true h2)));exact bE 3 (by kernel_rfl) (le_refl _) (fin _ _ _ e1 e2 e3).1 (fin _ _ _ e1 e2 e3).2
 all_goals
  have h:=of_decide_eq_false h;have h2:=of_decide_eq_false h2;have cP:jm th n=true:=fp.2 ⟨by omega,by omega⟩
 have h3:s.size≠64:=by intro e;rw[e]at h3;simp at h3
 have e1:pf th fu n s=1:=by simp[pf,cP,h3]
 exact bE 3 (by kernel_rfl) (le_refl _) (fin 1 m fu e1 (by simp[uy,e1]) (by simp[uz,h3])).1 (fin 1 m fu e1 (by simp[uy,e1]) (by simp[uz,h3])).2
 all_goals
  have h3:s.size=64:=by have:(s.size:Int)=64:=by simpa using h3
                        omega
 have h4:fu=0:=by simpa using h4
 have e1:pf th fu n s=42:=by simp[pf,cP,h3,h4]
 exact bE 3 (by kernel_rfl) (le_refl _) (fin 42 m fu e1 (by simp[uy,e1]) (by simp[uz,cP,h3,h4,dD])).1 (fin 42 m fu e1 (by simp[uy,e1]) (by simp[uz,cP,h3,h4,dD])).2;omega;rw[jK];omega;show(List.take 64 (bx s)).length=64;rw[length_take,jK];omega;have h4:fu≠0:=by simpa using h4
 have e1:pf th fu n s=0:=by simp[pf,cP,h3,h4]
 have e2:uy th m fu n s=mu m n (List.take 64 (bx s)):=by
  rw[take_of_length_le (by rw[jK];omega)];simp[uy,e1]
 have e3:uz th fu n s=imax (fu - 1) (-1):=by simp[uz,cP,h3,dD,h4]
 exact bE 3 (by kernel_rfl) (le_refl _) (fin _ _ _ e1 e2 e3).1 (fin _ _ _ e1 e2 e3).2
theorem ap8{Z:bm}:fM P Z 62 sDe:=by
 refine fS func62 ?_;rintro⟨th,m,fu⟩ _ X hX hz;exact cH hz hX (by simp) aM.Ok.nil func62 (amw th m fu) (bE 3 (by kernel_rfl) (le_refl _) rfl rfl)
theorem ap9{Z:bm}:fM P Z 57 sFu:=by
 refine fS func57 ?_;rintro⟨th,m,fu,n⟩ _ X hX hz
 have fin:∀(e fz:Int),fuE fu n=e->fuF fu n=fz->(sFu.out (th,m,fu,n)=.s (.int .i64 e))/\sFu.dO (th,m,fu,n)=hD th m fz:=λe fz h1 h3=>
  ⟨by show AV.s (.int .i64 (fuE fu n))=_;rw[h1],by show hD th m (fuF fu n)=_;rw[h3]⟩
 refine cH hz hX (by simp) aM.Ok.nil func57 (amx th m fu n) ⟨λh=> ?_,λh=>⟨λh2=> ?_,λh2=> ?_⟩⟩;have h:=of_decide_eq_true h;have f:=fin 1 fu (by simp[fuE,h]) (by simp[fuF,h]);exact bE 3 (by kernel_rfl) (le_refl _) f.1 f.2;have h:=of_decide_eq_false h;have h2:fu=0:=by simpa using h2
 have f:=fin 42 fu (by simp[fuE,h,h2]) (by simp[fuF,h,h2]);exact bE 3 (by kernel_rfl) (le_refl _) f.1 f.2;have h:=of_decide_eq_false h;have h2:fu≠0:=by simpa using h2
 have f:=fin 0 n (by simp[fuE,h,h2]) (by simp[fuF,h,h2]);exact bE 3 (by kernel_rfl) (le_refl _) f.1 f.2
theorem adY{m:As}{n:Int}{v:kS.V}(p:Int×kS.V):p∈mu m n v->p∈m\/p=(n,v):=by
 unfold mu;split;intro h;obtain⟨q,hq,rfl⟩:=mem_map.1 h;split;exact .inr rfl;exact .inl hq;intro h;rcases mem_append.1 h with h|h;exact .inl h;exact .inr (mem_singleton.1 h)
theorem jA(th:Th)(m:As):(ovl th m).length=th.length:=by simp[ovl]
theorem sM{th:Th}{m:As}{i:Nat}(h:i<th.length):fH ((ovl th m).getD i (CL.d cS))=lu th m (i:Int):=by
 rw[bc (by rw[jA];exact h)];simp only[ovl,List.getElem_map,List.getElem_range];rfl
theorem amz{a b:Th}(h:a.length=b.length)(hg:∀i,i<a.length->fH (a.getD i (CL.d cS))=fH (b.getD i (CL.d cS))):a=b:=by
 refine List.ext_getElem h λi h1 h2=> ?_;have:=hg i h1;rw[bc h1,bc h2]at this;exact Prod.ext this rfl
theorem aqa(th:Th):ovl th []=th:=amz (jA _ _) λi hi=>by
 rw[jA]at hi;rw[sM hi];show fH (th.getD (i:Int).toNat (CL.d cS))=_;rw[toNat_natCast]
theorem uA{m:As}{n:Int}(h:∀p∈m,p.1≠n):ct m n=none:=by
 simp only[ct,Option.map_eq_none_iff,List.find?_eq_none,beq_iff_eq];exact h
theorem nC{m:As}(hk:(m.map (·.1)).Nodup){p:Int×kS.V}(hp:p∈m):ct m p.1=some p.2:=by
 have⟨j,hj⟩:=List.getElem?_of_mem hp;simp only[ct,q7 hk hj,map_some]
theorem yi{m:As}(hk:(m.map (·.1)).Nodup){j:Nat}(hj:j<m.length):((m.eraseIdx j).map (·.1)).Nodup/\(∀p∈m.eraseIdx j,p∈m/\p.1≠m[j].1)/\∀p∈m,p.1≠m[j].1->p∈m.eraseIdx j:=by
 refine⟨(List.Sublist.map _ (List.eraseIdx_sublist _ _)).nodup hk,λp hp=>⟨List.mem_of_mem_eraseIdx hp,λe=> ?_⟩,λp hp e=> ?_⟩;have⟨i,hi,lR⟩:=List.mem_eraseIdx_iff_getElem?.1 hp;obtain⟨bq,rfl⟩:=List.getElem?_eq_some_iff.1 lR;have:=(List.getElem_inj (h₀:=by simpa using bq) (h₁:=by simpa using hj) hk).1 (by simpa using e);exact hi this;have⟨i,hi⟩:=List.getElem?_of_mem hp;refine List.mem_eraseIdx_iff_getElem?.2 ⟨i,λh=> ?_,hi⟩;subst h;obtain⟨_,rfl⟩:=List.getElem?_eq_some_iff.1 hi;exact e rfl
theorem agw{m:As}(hk:(m.map (·.1)).Nodup){j:Nat}(hj:j<m.length)(n:Int):ct (m.eraseIdx j) n=if n=m[j].1 then none else ct m n:=by
 have⟨k1,k2,k3⟩:=yi hk hj;split;rename_i e;exact uA λp hp=>by rw[e];exact(k2 p hp).2
 rename_i e;cases h:ct m n with
 |none=>
  refine uA λp hp he=> ?_;have:=nC hk (k2 p hp).1;rw[he,h]at this;cases this
 |some v=>
  have h1:=yg h;exact nC k1 (k3 _ h1 e)
theorem amA{th:Th}{left:As}(hk:(left.map (·.1)).Nodup){j:Nat}(hj:j<left.length)(h0:0<=left[j].1)(h1:left[j].1<(th.length:Int)):
 ovl (th.set left[j].1.toNat (qt left[j].2)) (left.eraseIdx j)=ovl th left:=by
 refine amz (by rw[jA,jA,length_set]) λi hi=> ?_;rw[jA,length_set]at hi;rw[sM (by rw[length_set];exact hi),sM hi];unfold lu;rw[agw hk hj];by_cases e:(i:Int)=left[j].1;have hm:=nC hk (getElem_mem hj);rw[if_pos e,e,hm];simp only[];rw[gh (by omega)];rfl;rw[if_neg e];cases ct left (i:Int)with
 |some v=>rfl|none=>
  simp only[toNat_natCast];rw[k9 (by omega)]
theorem adZ{Z:bm}:fM P Z 49 sFl:=by
 refine fS func49 ?_;rintro⟨th,m,fu⟩ ⟨(hd:bo th m fu),_⟩ X hX hz;have⟨f1,f2⟩:=hd.f;have gA:∀x∈adW,(hD th m fu).length<=x.2.m:=by intro y hy;simp[adW]at hy;rcases hy with rfl|rfl<;>exact le_refl _
 have fin:∀(e:Int) (dV:Th) (m':As) (fz:Int),zJ fu=e->lS th m fu=dV->oe m fu=m'->dD fu=fz->
  (sFl.out (th,m,fu)=.s (.int .i64 e))/\sFl.dO (th,m,fu)=hD dV m' fz:=λe dV m' fz h1 h2 h3 h4=>
  ⟨by show AV.s (.int .i64 (zJ fu))=_;rw[h1],by show hD (lS th m fu) (oe m fu) (dD fu)=_;rw[h2,h3,h4]⟩
 refine cH hz hX gA aM.Ok.nil func49 (akl th m fu) ⟨λh=> ?_,λh=>⟨⟨by omega,by omega⟩, ?_⟩⟩;have h:fu=0:=by simpa using h
 have f:=fin 42 th m 0 (by simp[zJ,h]) (by simp[lS,h]) (by simp[oe,h]) (by simp[dD,h]);subst h;exact bE 3 (by kernel_rfl) (le_refl _) f.1 f.2;have h:fu≠0:=by simpa using h
 generalize hfu:imax (fu - 1) (-1)=fz;have f:=fin 0 (ovl th m) [] fz (by simp[zJ,h]) (by simp[lS,h]) (by simp[oe,h]) (by simp[dD,h,hfu]);have loop:∀(k:Nat) (dV:Th) (left:As) (cur:Option (Int×kS.V)),left.length=k->dV.length=th.length->ovl dV left=ovl th m->(left.map (·.1)).Nodup->(∀p∈left,0<=p.1/\p.1<(th.length:Int))->
  Safe P 49 X (dP sFl (th,m,fu)) (cF7 dV m left cur fz):=by
  intro k
  induction k with
  |zero=>
   intro dV left cur hl bC hov hk hr;obtain rfl:=List.eq_nil_of_length_eq_zero hl;refine cH hz hX gA aM.Ok.nil func49 (amy dV m [] cur fz) ?_;refine pX (x:=17) (d:=18) (by kernel_rfl) (by kernel_rfl) (id:=3) (mid:=2) (gid:=4) (ck:=kS) (ck':=kS) rfl rfl rfl rfl (λ_=> ?_) (λj hj=>absurd hj (Nat.not_lt_zero _));refine cH hz hX gA aM.Ok.nil func49 (ap5 dV m fz) ?_;rw[aqa]at hov;subst hov;exact bE 3 (by kernel_rfl) (le_refl _) f.1 f.2
  |succ k ih=>
   intro dV left cur hl bC hov hk hr;refine cH hz hX gA aM.Ok.nil func49 (amy dV m left cur fz) ?_;refine pX (x:=17) (d:=18) (by kernel_rfl) (by kernel_rfl) (id:=3) (mid:=2) (gid:=4) (ck:=kS) (ck':=kS) rfl rfl rfl rfl (λh0=> ?_) (λj hj=> ?_);subst h0;simp at hl;have hgj:left.getD j (0,kS.d)=left[j]:=bc hj;have⟨r1,r2⟩:=hr _ (getElem_mem hj);have⟨k1,k2,_⟩:=yi hk hj;refine cH hz hX gA aM.Ok.nil func49 (ap6 dV m (left.eraseIdx j) (left.getD j (0,kS.d)) fz) ⟨by rw[hgj];exact r1,by rw[hgj,bC];exact r2, ?_⟩;have:=ih (dV.set left[j].1.toNat (qt left[j].2)) (left.eraseIdx j) (some left[j]) (by rw[List.length_eraseIdx,if_pos hj];omega) (by rw[length_set];exact bC) (by rw[amA hk hj r1 (by rw[bC];exact r2)];exact hov) k1
    (λp hp=>hr p (k2 p hp).1)
   rw[hgj];exact this
 refine cH hz hX gA aM.Ok.nil func49 (auE th m fz) ?_;refine yf (t:=103) (x:=16) (d:=17) (by kernel_rfl) (by kernel_rfl) (by kernel_rfl) (id:=2) (ck:=kS) rfl rfl ?_;refine cH hz hX gA aM.Ok.nil func49 (ap4 th m fz) ?_;exact loop m.length th m none rfl rfl rfl hd.m.1 λp hp=>⟨(hd.m.2 p hp).1,(hd.m.2 p hp).2.1⟩
end Ds
namespace Go.Sx
open Go
def ab3(i:Nat)(c0:aV)(s:Nat->List AV->RM bR):Nat->List AV->RM bR:=λbase args=>
 match args[i]? with
 |some (.vec id)=>.look id λo=>match o with
  |some (.vec c _)=>((s base (args.set i (.s (.ro c)))).afU id).bind λq=>.ret ⟨q.ab,(id,.ax)::q.up,q.new,q.r⟩|_=>.fail "frz: no row"
 |some .emp=>bif c0.n.beq 0 then s base (args.set i (.s (.ro c0)))else .fail "frz: nil"|_=>s base args
section
variable{ρ aN:Nat->Value}{H H':aT}{G O O':Nat->Prop}{w w':World}{P:Program}{Z:bm}
theorem ad0{aQ:List AV}:∀{vs:List Value} {i:Nat} {a b:AV},bM ρ H O w aQ vs->aQ[i]? =some a->(∀v,af ρ H O w a v->af ρ H O w b v)->bM ρ H O w (aQ.set i b) vs:=by
 induction aQ with
 |nil=>intro vs i a b h hi;simp at hi
 |cons x aQ ih=>
  intro vs i a b h hi hab;obtain⟨v,rest,rfl,h1,h2⟩:=aE.1 h;cases i with
  |zero=>
   simp only[List.getElem?_cons_zero,Option.some.injEq]at hi;subst hi;exact aE.2 ⟨v,rest,rfl,hab v h1,h2⟩
  |succ i=>exact aE.2 ⟨v,rest,rfl,h1,ih h2 (by simpa using hi) hab⟩
theorem aaI{f:FuncId}{s:Nat->List AV->RM bR}(h:ri P Z f s)(i:Nat)(c0:aV):ri P Z f (ab3 i c0 s):=by
 intro base args H q hq hn ρ G w vs dC hz hs hd;unfold ab3 at hq;split at hq;rename_i id hi;simp only[RM.eval]at hq;split at hq;rename_i c e ho;have⟨q',h1,h2⟩:=RM.pW hq;simp only[RM.eval,Option.some.injEq]at h2;subst h2;rw[RM.mJ]at h1;have st:=fk (ρ:=ρ) (G:=G) (w:=w) ho;have hd1:=bM.step st _ _ hd
 have hd2:bM ρ (aC H id .ax) (aW ρ (aC H id .ax) G) w (args.set i (.s (.ro c))) vs:=by
  have key:∀(aQ:List AV) (vs:List Value) (i:Nat),bM ρ H (aW ρ H G) w aQ vs->bM ρ (aC H id .ax) (aW ρ (aC H id .ax) G) w aQ vs->aQ[i]? =some (.vec id)->bM ρ (aC H id .ax) (aW ρ (aC H id .ax) G) w (aQ.set i (.s (.ro c))) vs:=by
   intro aQ
   induction aQ with
   |nil=>intro vs i h1 h2 hi;simp at hi
   |cons x aQ ih=>
    intro vs i h1 h2 hi;obtain⟨v,rest,rfl,h3,h4⟩:=aE.1 h1;have⟨v',awN,e1,h5,h6⟩:=aE.1 h2;cases e1;cases i with
    |zero=>
     simp only[List.getElem?_cons_zero,Option.some.injEq]at hi;subst hi;obtain⟨a,cap,rfl,hr,_⟩:=iD hs ho h3;have:=r6 hs ho;rw[hr]at this;exact aE.2 ⟨_,rest,rfl,aF this,h6⟩
    |succ i=>exact aE.2 ⟨v,rest,rfl,h5,ih rest i h4 h6 (by simpa using hi)⟩
  exact key args vs i hd hd1 hi
 have hz1:ZAt Z ρ (aC H id .ax) w:=⟨hz.1,λb hb hO=>hz.2 b hb (fl hO)⟩
 have ab4:∀j,j<q'.new.length->aC H id .ax (base+j)=none:=λj hj=>by
  have:=dC j hj;simp only[aC];split;rename_i e1;rw[e1,ho]at this;cases this;exact this
 refine(h base _ _ q' h1 hn ρ G w vs ab4 hz1 (hs.kill ho) hd2).mono ?_;rintro en w' ⟨v,he,hg⟩;refine⟨v,he, ?_⟩
 have af9:c8 H ((id,.ax)::q'.up) base q'.new=c8 (aC H id .ax) q'.up base q'.new:=by
  funext j;simp only[c8,cz,aC];cases cz q'.up j with
  |some x=>rfl|none=>
   simp only[];by_cases hj:j=id;subst hj
   have ui:¬(base<=j/\j<base+q'.new.length):=by
    rintro⟨k1,k2⟩;have:=dC (j - base) (by simp only[];omega);rw[show base+(j - base)=j from by omega,ho]at this;cases this
   simp[ui];simp[hj]
 simp only[];rw[af9];exact Good.after st (λb hb=>fl hb) hg;cases hq;rename_i hi;rw[cond_eq_ite]at hq;split at hq;rename_i hc;have hc:c0.n=0:=by simpa using hc
 refine h base _ H q hq hn ρ G w vs dC hz hs (ad0 hd hi λv hv=> ?_);unfold af at hv;obtain⟨a,rfl⟩:=hv;exact aF (sk hc a);cases hq;exact h base _ H q hq hn ρ G w vs dC hz hs hd
def akm{X:Type}(S:Spec X)(x:X)(L:List ak)(r:AV):Prop:=
 ∃(N:Norm) (o:AV),(S.heap x).length<=N.m/\N.run ⟨[r],L,[],{}⟩=some ⟨[o],S.dO x,[],{}⟩/\∀(ρ:Nat->Value) (H:aT) (O:Nat->Prop) (w:World) (v:Value),af ρ H O w o v->af ρ H O w (S.out x) v
variable{X:Type}{S:Spec X}
theorem sN{f:FuncId}{fn:Func}(hf:P.funcs[f]? =some fn)(hb:fn.body.isSome=true)(hn:∀x,(S.args x).length<=fn.ntmps)
 (h:∀x,bK (S.pre x)->∀X:Ctx,X.H=lk (S.heap x)->eb Z X->Safe P f X (akm S x) (start fn (S.args x) (S.heap x))):fM P Z f S:=by
 intro x mM ρ G w vs hz hs hd;have⟨c,hb⟩:=isSome_iff_exists.1 hb
 have pe:vs.length=(S.args x).length:=by
  have:∀{aQ:List AV} {vs:List Value},bM ρ (lk (S.heap x)) (aW ρ (lk (S.heap x)) G) w aQ vs->vs.length=aQ.length:=by
   intro aQ
   induction aQ with
   |nil=>intro vs h;rw[ba.1 h];rfl
   |cons a aQ ih=>intro vs h;obtain⟨v,rest,rfl,_,h2⟩:=aE.1 h;simp[ih h2]
  exact this hd
 refine(jy (R:=kx ⟨ρ,lk (S.heap x),G,w,[]⟩ (akm S x)) hf hb ?_).mono ?_;have:=(h x mM ⟨ρ,lk (S.heap x),G,w,[]⟩ rfl hz).goes rfl rfl (ρ:=ρ) (a:={tmps:=vs.toArray++Array.replicate (fn.ntmps - vs.toArray.size) undef,defers:=[]}) (w:=w);simp only[start,hb,getD_some]at this;refine this ⟨hs, ?_,λt=> ?_,rfl,Step.refl _ _ _ _,⟨rfl,rfl,rfl,λ_ _ _=>rfl⟩,λx hx=>by cases hx⟩;simp[pe]
 have e1:∀(aQ:List AV) (vs:List Value),bM ρ (lk (S.heap x)) (aW ρ (lk (S.heap x)) G) w aQ vs->∀t,af ρ (lk (S.heap x)) (aW ρ (lk (S.heap x)) G) w (aQ.getD t (.bt [])) (vs.getD t undef):=by
  intro aQ
  induction aQ with
  |nil=>intro vs h t;rw[ba.1 h];simp only[List.getD,List.getElem?_nil,Option.getD_none];exact cC
  |cons a aQ ih=>
   intro vs h t;obtain⟨v,rest,rfl,h1,h2⟩:=aE.1 h;cases t with
   |zero=>simpa using h1|succ t=>simpa using ih rest h2 t
 have h1:=e1 _ _ hd t;simp only[List.getD_eq_getElem?_getD,List.getElem?_append,List.getElem?_replicate,getD_eq_getD_getElem?,Array.getElem?_append,List.getElem?_toArray,Array.getElem?_replicate,List.size_toArray]at h1 ⊢;rw[pe];split;rename_i ht;have hv:vs[t]? =some vs[t]:=getElem?_eq_getElem (by omega);have ha:(S.args x)[t]? =some (S.args x)[t]:=getElem?_eq_getElem ht;rw[hv,ha]at h1 ⊢;exact h1;split;exact cC;unfold af;trivial;rintro e w' ⟨v,rfl,L,r,⟨N,o,hm,hN,hwk⟩,jO,g1,g2,g3,g4⟩;refine⟨v,rfl, ?_⟩
 have r0:cp ⟨ρ,lk (S.heap x),G,w,[]⟩ jO ⟨[r],L⟩ {tmps:= #[v],defers:=[]} w':=by
  refine⟨g1,rfl,λt=> ?_,rfl,g3,g4,λx hx=>by cases hx⟩;cases t with
  |zero=>exact g2|succ t=>simp only[List.getD,Array.getD];simp;unfold af;trivial
 have h0:∀id,N.m<=id->(⟨ρ,lk (S.heap x),G,w,[]⟩:Ctx).H id=none:=λid dt=>by simp[lk];omega
 unfold Norm.run at hN;split at hN;rename_i t1 L1 h1;simp only[]at hN;split at hN;rename_i t2 L2 h2;simp only[Option.some.injEq,bP.mk.injEq,and_true]at hN;obtain⟨rfl,rfl⟩:=hN;have⟨jO,r1⟩:=cp.gk h0 h1 (cp.eW N.aBG r0);have⟨gy,r2⟩:=cp.gH N.qL r1;have⟨ρ3,r3⟩:=cp.gI N.cells r2;have⟨ρ4,r4⟩:=cp.gk h0 h2 r3;exact⟨ρ4,r4.sat,(hwk _ _ _ _ _ (by have h:=r4.den 0;exact h)),r4.ao,r4.jN⟩;cases hN;cases hN
end
end Go.Sx
namespace Ds
open Go Go.Sx Go.Proofs Lf
abbrev aJ(n:Int):AV:=.s (.int .i64 n)
def sO:List AV->RM ((Th×As×Int)×List Nat)
 |[.ptr id 0]=>.look id λo=>match o with
  |some (.aq [.vec i,.fA j,f] _)=>.look i λo=>match o with
   |some (.vec (.au [.arr .u8 64] th) _)=>.look j λo=>match o,f.cD with
    |some (.map (.arr .u8 64) m),some (_,_,fu)=>.ret ((th,m,fu),[id,i,j])|_,_=>.fail "no map"
   |_=>.fail "no row"
  |_=>.fail "no disk's cells"
 |_=>.fail "no disk"
def mRd:List AV->RM ((Th×As×Int×Int)×List Nat)
 |[.ptr id 0,n]=>(sO [.ptr id 0]).bind λ((th,m,fu),σ)=>match n.cD with
  |some (_,_,n)=>.ret ((th,m,fu,n),σ)|none=>.fail "no number"
 |_=>.fail "no disk"
abbrev axm:=bZ sRd mRd
def mWr:List AV->RM ((Th×As×Int×Int×ByteArray)×List Nat)
 |[.ptr id 0,n,.s (.str s)]=>(sO [.ptr id 0]).bind λ((th,m,fu),σ)=>match n.cD with
  |some (_,_,n)=>.ret ((th,m,fu,n,s),σ)|none=>.fail "no number"
 |_=>.fail "no disk"
def mFu:List AV->RM ((Th×As×Int×Int)×List Nat):=mRd
abbrev axn:=bZ sWr mWr
def axo(th:Th)(m:As)(fu:Int):Bool:=th.length.ble 4096&&(List.range th.length).all (λi=>(fH (th.getD i (CL.d cS))).length==64)&&decide (m.map (·.1)).Nodup&&m.all (λp=>decide (0<=p.1)&&decide (p.1<(th.length:Int))&&List.length (α:=Int) p.2==64)&&decide (-1<=fu)&&decide (fu<=9223372036854775807)
theorem azQ{th:Th}{m:As}{fu:Int}(h:axo th m fu=true):bo th m fu:=by
 simp only[axo,and_eq_true,all_eq_true,beq_iff_eq,decide_eq_true_eq,mem_range]at h;have⟨⟨⟨⟨⟨h1,h2⟩,h3⟩,h4⟩,h5⟩,h6⟩:=h;exact⟨⟨le_of_ble_eq_true h1,h2⟩,⟨h3,λp hp=>⟨(h4 p hp).1.1,(h4 p hp).1.2,(h4 p hp).2⟩⟩,h5,h6⟩
theorem amB{n:Nat}(h:n<=4096):bo (replicate n (CL.d cS)) [] (-1):=by
 refine⟨⟨by simpa using h,λi hi=> ?_⟩,⟨by simp,λp hp=>by cases hp⟩,by omega,by omega⟩;simp only[List.length_replicate]at hi;rw[bc (by simpa using hi),List.getElem_replicate];rfl
theorem uB{m:As}(h:(m.map (·.1)).Nodup){n:Int}{v:kS.V}:((mu m n v).map (·.1)).Nodup:=by
 unfold mu;split;rw[rY];exact h;rename_i hn;have hn:∀p∈m,p.1≠n:=λp hp e=>hn (by simp only[om,List.any_eq_true,beq_iff_eq];exact⟨p,hp,e⟩);rw[map_append,nodup_append];refine⟨h,by simp,λa ha b hb=> ?_⟩;simp only[map_cons,map_nil,mem_singleton]at hb;obtain⟨p,hp,rfl⟩:=mem_map.1 ha;rw[hb];exact hn p hp
theorem ab5{fu:Int}(h:okF fu):okF (dD fu):=by
 unfold okF dD imax at *;split;omega;split<;>omega
theorem yj{th:Th}{m:As}{fu n:Int}{s:ByteArray}(h:bo th m fu):bo th (uy th m fu n s) (uz th fu n s):=by
 refine⟨h.t, ?_, ?_⟩;unfold uy;split;rename_i he
 have cP:jm th n=true/\s.size=64:=by
  unfold pf at he
  repeat' split at he
  all_goals first|(cases he;done)|exact⟨by assumption,by assumption⟩
 have⟨h0,h1⟩:=fp.1 cP.1;refine⟨uB h.m.1,λp hp=> ?_⟩;rcases adY p hp with hp|rfl;exact h.m.2 p hp;exact⟨h0,h1,by show(bx s).length=64;rw[jK];exact cP.2⟩;exact h.m;unfold uz;split;exact ab5 h.f;exact h.f
theorem auF{th:Th}{m:As}(h:ng th)(hm:okM th.length m):ng (ovl th m):=by
 refine⟨by rw[jA];exact h.1,λi hi=> ?_⟩;rw[jA]at hi;rw[sM hi];exact sK (fu:=0) ⟨h,hm,by omega,by omega⟩ (fp.2 ⟨by omega,by omega⟩)
theorem asW{th:Th}{m:As}{fu:Int}(h:bo th m fu):bo (lS th m fu) (oe m fu) (dD fu):=by
 unfold lS oe;split;exact⟨h.t,h.m,ab5 h.f⟩;exact⟨auF h.t h.m,⟨by simp,λp hp=>by cases hp⟩,ab5 h.f⟩
theorem qA(s:ByteArray):aG (bx s)=s:=by
 have⟨⟨l⟩⟩:=s;simp only[aG,bx,List.map_map];congr 2;refine(List.map_congr_left λb _=> ?_).trans (List.map_id l);simp
theorem sP{m:As}(h:(m.map (·.1)).Nodup){n x:Int}{v:kS.V}:ct (mu m n v) x=if x=n then some v else ct m x:=by
 split;rename_i e;subst e
 have hm:(x,v)∈mu m x v:=by
  unfold mu;split;rename_i hh;simp only[om,List.any_eq_true,beq_iff_eq]at hh;have⟨p,hp,e⟩:=hh;exact mem_map.2 ⟨p,hp,by rw[if_pos (by simpa using e)]⟩;exact mem_append_right _ mem_cons_self
 exact nC (uB h) hm;rename_i e;cases hg:ct m x with
 |none=>
  refine uA λp hp ep=> ?_;rcases adY p hp with hp|rfl;have:=nC h hp;rw[ep,hg]at this;cases this;exact e ep.symm
 |some u=>
  have hu:=yg hg;refine nC (uB h) (p:=(x,u)) ?_;unfold mu;split;exact mem_map.2 ⟨_,hu,by rw[if_neg (by simpa using e)]⟩;exact List.mem_append_left _ hu
theorem amC{th:Th}{m:As}(h:(m.map (·.1)).Nodup){n x:Int}{v:List Int}:lu th (mu m n v) x=if x=n then v else lu th m x:=by
 have e:=sP h (n:=n) (x:=x) (v:=v);unfold lu;by_cases hx:x=n;rw[if_pos hx]at e ⊢;rw[e];rw[if_neg hx]at e ⊢;rw[e]
theorem amD{th:Th}{m:As}{x:Int}(h:jm th x=true):lu (ovl th m) [] x=lu th m x:=by
 have⟨h0,h1⟩:=fp.1 h;have:lu (ovl th m) [] x=fH ((ovl th m).getD x.toNat (CL.d cS)):=rfl;rw[this,sM (by omega)];congr 1;omega
theorem yk{th dV:Th}(h:dV.length=th.length)(x:Int):jm dV x=jm th x:=by unfold jm;rw[h]
theorem ph{th:Th}{fu n:Int}{s:ByteArray}:pf th fu n s=0↔jm th n=true/\s.size=64/\fu≠0:=by
 unfold pf;constructor
 ·intro h
  repeat' split at h
  all_goals first|(cases h;done)|exact⟨by assumption,by assumption,by assumption⟩
 ·rintro⟨h1,h2,h3⟩;simp[h1,h2,h3]
theorem amE{th:Th}{m:As}{fu n x:Int}{s:ByteArray}(h:bo th m fu):cI th (uy th m fu n s) x=if pf th fu n s=0/\x=n then s else cI th m x:=by
 unfold uy;by_cases he:pf th fu n s=0;rw[if_pos he];have⟨h1,h2,_⟩:=ph.1 he;unfold cI;rw[amC h.m.1];by_cases hx:x=n;subst hx;rw[if_pos h1,if_pos rfl,if_pos ⟨he,rfl⟩,qA];simp only[if_neg hx,hx,and_false,if_false];simp only[if_neg he,he,false_and,if_false]
theorem asX{th:Th}{m:As}{fu x:Int}:cI (lS th m fu) (oe m fu) x=cI th m x:=by
 unfold lS oe;split;rfl;unfold cI;rw[yk (jA th m)];split;rename_i hh;rw[amD hh];rfl
theorem axp{n:Int}(h:(Lit.int .u8 n).wf=true):0<=n/\n<=255:=by
 simp only[Lit.wf,and_eq_true,decide_eq_true_eq]at h;exact h
theorem uC(l:List Int):(aG l).size=l.length:=by
 show(l.map _).toArray.size=_;simp
theorem ab6(a b:List Int):aG (a++b)=aG a++aG b:=by
 apply ext;rw[ByteArray.data_append];show(List.map _ (a++b)).toArray=(List.map _ a).toArray++(List.map _ b).toArray;rw[map_append,List.append_toArray]
theorem qB(l:List Int)(i j:Nat):(aG l).extract i j=aG ((l.take j).drop i):=by
 apply ext;rw[ByteArray.data_extract];show(List.map _ l).toArray.extract i j=(List.map _ _).toArray;rw[List.extract_toArray,List.map_drop,List.map_take,List.extract_eq_take_drop];congr 1;rw[List.drop_take]
theorem ab7{th:Th}{m:As}{fu n:Int}(h:bo th m fu)(hn:jm th n=true):(cI th m n).size=64:=by
 unfold cI;rw[if_pos hn,uC,sK h hn]
def eH(th:Th):Int:=(th.length:Int).tdiv 4
def wD(th:Th)(n:Int):Bool:=decide (0<=n)&&decide (n<eH th)
def pgL(th:Th)(m:As)(n:Int):Nat->List Int
 |0=>[]|k+1=>pgL th m n k++bx (cI th m (n*4+(k:Int)))
def pgA(th:Th)(m:As)(n:Int):List Int:=pgL th m n 4
def sQ(ws:List Int):Int:=ws.getD 0 0*256+ws.getD 1 0
def gO(th:Th)(m:As)(n:Int):Int:=if wD th n=true then(if sQ (pgA th m n)>254 then 4 else 0)else 5
def fN(th:Th)(m:As)(n:Int):ByteArray:=if gO th m n=0 then aG (((pgA th m n).drop 2).take (sQ (pgA th m n)).toNat)else empty
def pgB(s:ByteArray):List Int:=(s.size:Int) / 256::(s.size:Int)%256::(bx s++replicate (254 - s.size) 0)
def iM(ws:List Int)(k:Nat):ByteArray:=aG ((ws.drop (64*k)).take 64)
def zK(th:Th)(n:Int)(ws:List Int):Nat->Nat->As->Int->As×Int×Int
 |0,_,m,f=>(m,f,0)|j+1,k,m,f=>if pf th f (n*4+(k:Int)) (iM ws k)=0 then zK th n ws j (k+1) (uy th m f (n*4+(k:Int)) (iM ws k)) (uz th f (n*4+(k:Int)) (iM ws k))
   else(uy th m f (n*4+(k:Int)) (iM ws k),uz th f (n*4+(k:Int)) (iM ws k),pf th f (n*4+(k:Int)) (iM ws k))
def gwC(th:Th)(n:Int)(s:ByteArray):Int:=if wD th n=true then(if(s.size:Int)>254 then 40 else 0)else 5
def kz(th:Th)(m:As)(fu n:Int)(s:ByteArray):As×Int×Int:=if gwC th n s=0 then zK th n (pgB s) 4 0 m fu else(m,fu,gwC th n s)
def epN(s:ByteArray):Nat->Int
 |0=>0|i+1=>epN s i*256+aL s (i+1)
def pgT(s:ByteArray):Int:=aL s 9*256+aL s 10
def zL(s:ByteArray):Bool:=aL s 0==1
def ab8(s:ByteArray):Int:=if epN s 8>1099511627776 then 0 else epN s 8
def ab9(s:ByteArray):Int:=if pgT s>=1024 then 0 else pgT s
def mP(th:Th)(k:Int):Int:=if 0<=k/\k<=1/\k<eH th then 0 else 5
def iY(th:Th)(m:As)(k:Int):Bool:=decide (mP th k=0)&&zL (cI th m (k*4))
def gf(th:Th)(m:As)(k:Int):Int:=if mP th k=0 then ab8 (cI th m (k*4))else 0
def mQ(th:Th)(m:As)(k:Int):Int:=if mP th k=0 then ab9 (cI th m (k*4))else 0
def mkB(on:Bool)(ep pg:Int):List Int:=[if on=true then 1 else 0,ep / 72057594037927936%256,ep / 281474976710656%256,ep / 1099511627776%256,ep / 4294967296%256,ep / 16777216%256,ep / 65536%256,ep / 256%256,ep%256,pg / 256%256,pg%256]++replicate 53 0
def pj(on:Bool)(ep pg:Int):ByteArray:=aG (mkB on ep pg)
def srC(th:Th)(k ep pg:Int):Int:=if mP th k=0 then(if ep<0\/ep>1099511627776\/pg<0\/pg>=1024 then 1 else 0)else 5
def zM(th:Th)(fu k:Int)(on:Bool)(ep pg:Int):Int:=if srC th k ep pg=0 then pf th fu (k*4) (pj on ep pg)else srC th k ep pg
def kB(th:Th)(m:As)(fu k:Int)(on:Bool)(ep pg:Int):As:=if srC th k ep pg=0 then uy th m fu (k*4) (pj on ep pg)else m
def pY(th:Th)(fu k:Int)(on:Bool)(ep pg:Int):Int:=if srC th k ep pg=0 then uz th fu (k*4) (pj on ep pg)else fu
theorem db(s:ByteArray)(i:Nat):0<=aL s i/\aL s i<=255:=by
 have:=(s.data.toList.getD i 0).toNat_lt;unfold aL;omega
theorem wrap_u8(n:Int):u8.wrap n=n%256:=rfl
theorem pq{n:Int}(h0:0<=n)(h1:n<18446744073709551616):u64.wrap n=n:=by
 show n%18446744073709551616=n;omega
theorem sR{a b:Int}(ha:0<=a/\a<=255)(hb:0<=b/\b<=255):bF BinOp.or i64 (i64.wrap (a*2^min (Int.toNat 8) i64.bits)) b=a*256+b:=by
 have e1:i64.wrap (a*2^min (Int.toNat 8) i64.bits)=a*256:=by
  rw[show(2:Int)^min (Int.toNat 8) i64.bits=256 from by decide];exact cu ⟨by omega,by omega⟩
 rw[e1];obtain⟨x,rfl⟩:=Int.eq_ofNat_of_zero_le ha.1;obtain⟨y,rfl⟩:=Int.eq_ofNat_of_zero_le hb.1;show i64.wrap ((BitVec.ofInt 64 _ ||| BitVec.ofInt 64 _).toNat:Int)=_;have e2:(BitVec.ofInt 64 ((x:Int)*256)).toNat=2^8*x:=by rw[BitVec.toNat_ofInt];omega
 have e3:(BitVec.ofInt 64 (y:Int)).toNat=y:=by rw[BitVec.toNat_ofInt];omega
 rw[BitVec.toNat_or,e2,e3,<-Nat.two_pow_add_eq_or_of_lt (by omega),cu ⟨by omega,by omega⟩];omega
theorem agx{a b:Int}(ha:0<=a/\a<72057594037927936)(hb:0<=b/\b<=255):bF BinOp.or u64 (u64.wrap (a*2^min (Int.toNat 8) u64.bits)) (u64.wrap b)=a*256+b:=by
 have e1:u64.wrap (a*2^min (Int.toNat 8) u64.bits)=a*256:=by
  rw[show(2:Int)^min (Int.toNat 8) u64.bits=256 from by decide];exact pq (by omega) (by omega)
 rw[e1,pq (n:=b) (by omega) (by omega)];obtain⟨x,rfl⟩:=Int.eq_ofNat_of_zero_le ha.1;obtain⟨y,rfl⟩:=Int.eq_ofNat_of_zero_le hb.1;show u64.wrap ((BitVec.ofInt 64 _ ||| BitVec.ofInt 64 _).toNat:Int)=_;have e2:(BitVec.ofInt 64 ((x:Int)*256)).toNat=2^8*x:=by rw[BitVec.toNat_ofInt];omega
 have e3:(BitVec.ofInt 64 (y:Int)).toNat=y:=by rw[BitVec.toNat_ofInt];omega
 rw[BitVec.toNat_or,e2,e3,<-Nat.two_pow_add_eq_or_of_lt (by omega),pq (by omega) (by omega)];omega
def epS(s:ByteArray):Nat->Int
 |0=>0|i+1=>bF BinOp.or u64 (u64.wrap (epS s i*2^min (Int.toNat 8) u64.bits)) (u64.wrap (aL s (i+1)))
theorem uD(s:ByteArray):∀i:Nat,0<=epN s i/\epN s i<256^i
 |0=>by simp[epN]
 |i+1=>by
  have⟨h0,h1⟩:=uD s i;have hb:=db s (i+1);rw[epN,Int.pow_succ];omega
theorem amF(s:ByteArray):∀i:Nat,i<=8->epS s i=epN s i
 |0,_=>rfl|i+1,hi=>by
  have⟨h0,h1⟩:=uD s i
  have h2:(256:Int)^i<=256^7:=by
   have:i=0\/i=1\/i=2\/i=3\/i=4\/i=5\/i=6\/i=7:=by omega
   rcases this with rfl|rfl|rfl|rfl|rfl|rfl|rfl|rfl<;>decide
  rw[epS,epN,amF s i (by omega)]
  exact agx ⟨h0,by have:(256:Int)^7=72057594037927936:=by decide
                   omega⟩ (db s (i+1))
theorem gl(s:ByteArray):(bx s).length=s.size:=by unfold bx;rw[length_map];exact length_toList
theorem gm{th:Th}{n:Int}:wD th n=true↔0<=n/\n<eH th:=by simp[wD]
theorem pr(th:Th):0<=eH th/\4*eH th<=(th.length:Int):=by
 unfold eH;rw[Int.tdiv_eq_ediv_of_nonneg (by omega)];omega
theorem aca{th:Th}{n:Int}(h:wD th n=true){k:Nat}(hk:k<4):jm th (n*4+(k:Int))=true:=by
 have⟨h0,h1⟩:=gm.1 h;have:=pr th;exact fp.2 ⟨by omega,by omega⟩
theorem ah8{th:Th}{m:As}{fu n:Int}(h:bo th m fu)(hn:wD th n=true):∀k:Nat,k<=4->(pgL th m n k).length=64*k
 |0,_=>rfl|k+1,hk=>by
  rw[pgL,length_append,ah8 h hn k (by omega),gl,ab7 h (aca hn (by omega))];omega
theorem agy{xs ys:List Int}{k:Nat}(hx:xs.length=64*k)(hy:ys.length=64)(hk:k<4):
 over (xs++replicate (256 - 64*k) 0) (64*k) 64 ys=xs++ys++replicate (256 - 64*(k+1)) 0:=by
 unfold over;rw[<-hx,List.take_left,take_of_length_le (by omega),List.drop_append,List.drop_replicate,List.drop_eq_nil_of_le (by omega),nil_append,hx];congr 2;omega
theorem auG{s:ByteArray}(h:s.size<=254):
 over (((replicate 256 (0:Int)).set 0 (u8.wrap ((s.size:Int).fdiv (2^min (Int.toNat 8) i64.bits)))).set 1 (u8.wrap (s.size:Int))) 2 (min (bx s).length 254) (bx s)=pgB s:=by
 have e:(replicate 256 (0:Int))=0::0::replicate 254 0:=rfl;have hl:=gl s;rw[e];simp only[List.set_cons_zero,List.set_cons_succ,over,List.take_succ_cons,List.take_zero,hl,wrap_u8];rw[show(2:Int)^min (Int.toNat 8) i64.bits=256 from by decide,Int.fdiv_eq_ediv_of_nonneg _ (by omega),Nat.min_eq_left h,take_of_length_le (by omega),Nat.add_comm 2,List.drop_succ_cons,List.drop_succ_cons,List.drop_replicate];unfold pgB;rw[show(s.size:Int) / 256%256=(s.size:Int) / 256 from by omega];rfl
theorem ah9{s:ByteArray}(h:s.size<=254):(pgB s).length=256:=by
 unfold pgB;simp only[length_cons,length_append,List.length_replicate,gl];omega
theorem amG{s:ByteArray}:∀x∈pgB s,s.size<=254->0<=x/\x<=255:=by
 intro x hx h;simp only[pgB,mem_cons,mem_append,List.mem_replicate,bx,mem_map]at hx;rcases hx with rfl|rfl|⟨b,_,rfl⟩|⟨_,rfl⟩;omega;omega;have:=b.toNat_lt;omega;omega
theorem aaJ{ws:List Int}(h:ws.length=256){k:Nat}(hk:k<4):(iM ws k).size=64:=by
 unfold iM;rw[uC,length_take,length_drop];omega
theorem sT(on:Bool)(ep pg:Int):(mkB on ep pg).length=64:=rfl
theorem mR(on:Bool)(ep pg:Int):(pj on ep pg).size=64:=by unfold pj;rw[uC];rfl
theorem amH{th:Th}{n:Int}{ws:List Int}:∀(j k:Nat) (m:As) (f:Int),bo th m f->bo th (zK th n ws j k m f).1 (zK th n ws j k m f).2.1
 |0,k,m,f,h=>h|j+1,k,m,f,h=>by
  unfold zK;split;exact amH j (k+1) _ _ (yj h);exact yj h
theorem asY{th:Th}{m:As}{fu n:Int}{s:ByteArray}(h:bo th m fu):bo th (kz th m fu n s).1 (kz th m fu n s).2.1:=by
 unfold kz;split;exact amH _ _ _ _ h;exact h
theorem ad1{th:Th}{m:As}{fu k:Int}{on:Bool}{ep pg:Int}(h:bo th m fu):bo th (kB th m fu k on ep pg) (pY th fu k on ep pg):=by
 unfold kB pY;split;exact yj h;exact h
def vZ:aM:=[(135,axm),(136,axn)]
abbrev amI:FuncId:=189
abbrev inG:List FuncId:=[162,65,107,163,amI,134]
abbrev eP:TypeId:=26
abbrev eE:TypeId:=27
abbrev eA:TypeId:=233
def agz:List (Nat×Norm):=[((amI+1)*100000+1,⟨[],[0,1,4,19,21,22,24,67,68],3,[]⟩),(12,⟨[],[4,5,7,50],3,[]⟩)]
noncomputable def cGR(th:Th)(m:As)(fu n:Int)(ws:List Int)(k:Int):bP:=⟨sl 69 [(0,.tag 3),(1,.ptr 4 0),(4,aJ k),(19,.ptr 5 0),(21,.ptr 6 0),(22,.ptr 7 0),(24,.ptr 8 0),(67,.tag 9),(68,.tag 3)],
 [jl 1 2 fu,.vec (.au cS th) eS,.map kS m,.ax,.aq [aJ n] 3,.aq [.ptr 0 0] eP,.aq [.s (.str empty)] 9,.aq [aJ 0] eE,.aq [.ah .u8 256 ws] eA,.ax],hd f189 1,⟨some amI,false,0,[su f124 none 8 1],0⟩⟩
noncomputable def amJ(th:Th)(m:As)(fu:Int)(ws:List Int):bP:=⟨sl 51 [(4,.ptr 3 0),(5,.ptr 4 0),(7,.ptr 5 0),(50,.tag 6)],[jl 1 2 fu,.vec (.au cS th) eS,.map kS m,.aq [.s (.str empty)] 9,.aq [aJ 0] eE,.aq [.ah .u8 256 ws] eA,.ax],hr f124 12,⟨none,false,1,[],0⟩⟩
def aqb:List (Nat×Norm):=[((amI+1)*100000+1,⟨[],[0,1,4,20,23,25,64,65],3,[]⟩)]
noncomputable def cGW(th:Th)(m:As)(fu n:Int)(ws:List Int)(k:Int):bP:=⟨sl 66 [(0,.tag 3),(1,.ptr 4 0),(4,aJ k),(20,.ptr 5 0),(23,.ptr 6 0),(25,.ptr 7 0),(64,.tag 8),(65,.tag 3)],
 [jl 1 2 fu,.vec (.au cS th) eS,.map kS m,.ax,.aq [aJ n] 3,.aq [.ptr 0 0] eP,.aq [aJ 0] eE,.aq [.ah .u8 256 ws] eA,.ax],hd f189 1,⟨some amI,false,0,[su f178 none 11 1],0⟩⟩
abbrev avM(on:Bool)(ep pg:Int):AV:=.agg [.s (.bool on),aJ ep,aJ pg]
def akn:List (Nat×Norm):=[(fD+9,⟨[],[],3,[]⟩),(13,⟨[],[4,6,7],3,[]⟩)]
abbrev eM:TypeId:=153
noncomputable def cGo(th:Th)(m:As)(fu:Int)(s:ByteArray)(E:Int):bP:=⟨sl 61 [(4,.ptr 3 0),(6,.s (.str s)),(7,.s (.int .u64 E))],[jl 1 2 fu,.vec (.au cS th) eS,.map kS m,.aq [.s (.bool false),aJ 0,aJ 0] eM],hr f88 13,{}⟩
def agA:List (Nat×Norm):=[(9,⟨[],[0,1,5,8],3,[]⟩),(fD+10,⟨[],[],3,[]⟩),(15,⟨[],[0,1,8],3,[]⟩)]
abbrev eB:TypeId:=164
noncomputable def cGs(th:Th)(m:As)(fu n:Int)(on:Bool)(ep pg:Int)(ws:List Int):bP:=⟨sl 65 [(0,.ptr 0 0),(1,aJ n),(5,.ptr 3 0),(8,.ptr 4 0)],[jl 1 2 fu,.vec (.au cS th) eS,.map kS m,.aq [.s (.bool on),aJ ep,aJ pg] eM,.aq [.ah .u8 64 ws] eB],hr f90 9,{}⟩
noncomputable def amK(th:Th)(m:As)(fu n:Int)(ws:List Int):bP:=⟨sl 65 [(0,.ptr 0 0),(1,aJ n),(8,.ptr 3 0)],[jl 1 2 fu,.vec (.au cS th) eS,.map kS m,.aq [.ah .u8 64 ws] eB],hr f90 15,{}⟩
theorem auH(th:Th)(m:As)(fu n:Int):run P vZ.sum f124 agz (start f124 [.ptr 0 0,aJ n] (hD th m fu)) inG=
 Tree.ite (decide (n<0)) (.ret (hD th m fu++[.aq [.ptr 0 0] 26,.aq [.s (.str empty)] 9,.aq [.s (.aS .i64 5)] 27]) (.bt [.s (.str empty),.s (.aS .i64 5)])) (.ab ((4:Int)≠0) (.ab (aB ((↑(List.length th):Int).tdiv 4)) (.ite (decide (n>=(↑(List.length th):Int).tdiv 4)) (.ret (hD th m fu++[.aq [.ptr 0 0] 26,.aq [.s (.str empty)] 9,.aq [.s (.aS .i64 5)] 27]) (.bt [.s (.str empty),.s (.aS .i64 5)])) (.at (cGR th m fu n (replicate 256 0) 0))))):=by kernel_rfl
theorem amL(th:Th)(m:As)(fu n:Int)(ws:List Int)(k:Int):run P vZ.sum f124 agz (cGR th m fu n ws k) inG=
 Tree.ite (decide (k<4)) (.ab (aB (k*64)) (.ab (aB (n*4)) (.ab (aB (n*4+k)) (.ab (bk (some [AV.ptr 0 0,aJ (n*4+k)])) (.ab (bk (some (hD th m fu))) (.ab (bo th m fu) (.ite (rdE th (n*4+k) !=0) (.ret (hD th m fu++[.ax,.aq [aJ n] 3,.aq [.ptr 0 0] 26,.aq [.s (.str empty)] 9,.aq [aJ (rdE th (n*4+k))] 27,.aq [.ah .u8 256 ws] 233,.ax]) (.bt [.s (.str empty),aJ (rdE th (n*4+k))])) (.ab ((0:Int)<=k*64) (.ab (k*64<=(↑(256:Nat):Int)) (.ab ((↑(256:Nat):Int)<=(↑(256:Nat):Int)) (.ab True (.ab ((0:Nat)+(k*64).toNat+((↑(256:Nat):Int).toNat - (k*64).toNat)<=256) (.ab (aB (k+1)) (.at (cGR th m fu n (over ws ((0:Nat)+(k*64).toNat) (min (List.map (λ(b:UInt8)=>(↑b.toNat:Int)) (cI th m (n*4+k)).data.toList).length ((↑(256:Nat):Int).toNat - (k*64).toNat)) (List.map (λ(b:UInt8)=>(↑b.toNat:Int)) (cI th m (n*4+k)).data.toList)) (k+1)))))))))))))))) (.at (amJ th m fu ws)):=by kernel_rfl
theorem amM(th:Th)(m:As)(fu:Int)(ws:List Int):run P vZ.sum f124 agz (amJ th m fu ws) inG=
 Tree.ab (aB (ws.getD (0:Nat) (0:Int))) (Tree.ab ((0:Int)<=(8:Int)) (Tree.ab (aB (ws.getD (1:Nat) (0:Int))) (Tree.ite (decide (bF BinOp.or i64 (i64.wrap (ws.getD (0:Nat) (0:Int)*(2:Int)^min (Int.toNat (8:Int)) i64.bits)) (ws.getD (1:Nat) (0:Int))>(254:Int))) (Tree.ret (hD th m fu++[ak.aq [AV.s (SV.str empty)] (9:Nat),ak.aq [AV.s (SV.aS i64 (4:Int))] (27:Nat),ak.aq [AV.ah u8 (256:Nat) ws] (233:Nat),ak.ax]) (AV.bt [AV.s (SV.str empty),AV.s (SV.aS i64 (4:Int))])) (Tree.ab (aB ((2:Int)+bF BinOp.or i64 (i64.wrap (ws.getD (0:Nat) (0:Int)*(2:Int)^min (Int.toNat (8:Int)) i64.bits)) (ws.getD (1:Nat) (0:Int)))) (Tree.ab ((0:Int)<=(2:Int)) (Tree.ab ((2:Int)<=(2:Int)+bF BinOp.or i64 (i64.wrap (ws.getD (0:Nat) (0:Int)*(2:Int)^min (Int.toNat (8:Int)) i64.bits)) (ws.getD (1:Nat) (0:Int))) (Tree.ab ((2:Int)+bF BinOp.or i64 (i64.wrap (ws.getD (0:Nat) (0:Int)*(2:Int)^min (Int.toNat (8:Int)) i64.bits)) (ws.getD (1:Nat) (0:Int))<=(↑(256:Nat):Int)) (Tree.ab ((2:Nat)+(((2:Int)+bF BinOp.or i64 (i64.wrap (ws.getD (0:Nat) (0:Int)*(2:Int)^min (Int.toNat (8:Int)) i64.bits)) (ws.getD (1:Nat) (0:Int))).toNat - Int.toNat (2:Int))<=(256:Nat)) (Tree.ret (hD th m fu++[ak.aq [AV.s (SV.str (aG (List.take (((2:Int)+bF BinOp.or i64 (i64.wrap (ws.getD (0:Nat) (0:Int)*(2:Int)^min (Int.toNat (8:Int)) i64.bits)) (ws.getD (1:Nat) (0:Int))).toNat - Int.toNat (2:Int)) (List.drop (2:Nat) ws))))] (9:Nat),ak.aq [AV.s (SV.aS i64 (0:Int))] (27:Nat),ak.aq [AV.ah u8 (256:Nat) ws] (233:Nat),ak.ax]) (AV.bt [AV.s (SV.str (aG (List.take (((2:Int)+bF BinOp.or i64 (i64.wrap (ws.getD (0:Nat) (0:Int)*(2:Int)^min (Int.toNat (8:Int)) i64.bits)) (ws.getD (1:Nat) (0:Int))).toNat - Int.toNat (2:Int)) (List.drop (2:Nat) ws)))),AV.s (SV.aS i64 (0:Int))])))))))))):=by kernel_rfl
theorem auI(th:Th)(m:As)(fu n:Int)(s:ByteArray):run P vZ.sum f178 aqb (start f178 [.ptr 0 0,aJ n,.s (.str s)] (hD th m fu)) inG=
 Tree.ite (decide (n<(0:Int))) (Tree.ret (hD th m fu++[ak.aq [AV.ptr (0:Nat) (0:Nat)] (26:Nat),ak.aq [AV.s (SV.aS i64 (5:Int))] (27:Nat)]) (AV.s (SV.aS i64 (5:Int)))) (Tree.ab ((4:Int)≠(0:Int)) (Tree.ab (aB ((↑(List.length th):Int).tdiv (4:Int))) (Tree.ite (decide (n>=(↑(List.length th):Int).tdiv (4:Int))) (Tree.ret (hD th m fu++[ak.aq [AV.ptr (0:Nat) (0:Nat)] (26:Nat),ak.aq [AV.s (SV.aS i64 (5:Int))] (27:Nat)]) (AV.s (SV.aS i64 (5:Int)))) (Tree.ite (decide ((↑s.size:Int)>(254:Int))) (Tree.ret (hD th m fu++[ak.aq [AV.ptr (0:Nat) (0:Nat)] (26:Nat),ak.aq [AV.s (SV.aS i64 (40:Int))] (27:Nat)]) (AV.s (SV.aS i64 (40:Int)))) (Tree.ab ((0:Int)<=(8:Int)) (Tree.ab ((0:Int)<=(2:Int)) (Tree.ab ((2:Int)<=(↑(256:Nat):Int)) (Tree.ab ((↑(256:Nat):Int)<=(↑(256:Nat):Int)) (Tree.ab True (Tree.ab ((2:Nat)+(254:Nat)<=(256:Nat)) (Tree.at (cGW th m fu n (over (((replicate (256:Nat) (0:Int)).set (0:Nat) (u8.wrap ((↑s.size:Int).fdiv ((2:Int)^min (Int.toNat (8:Int)) i64.bits)))).set (1:Nat) (u8.wrap (↑s.size:Int))) (2:Nat) (min (List.map (λ(b:UInt8)=>(↑b.toNat:Int)) s.data.toList).length (254:Nat)) (List.map (λ(b:UInt8)=>(↑b.toNat:Int)) s.data.toList)) (0:Int))))))))))))):=by kernel_rfl
theorem amN(th:Th)(m:As)(fu n:Int)(ws:List Int)(k:Int):run P vZ.sum f178 aqb (cGW th m fu n ws k) inG=
 Tree.ite (decide (k<4)) (.ab (aB (k*64)) (.ab (aB (n*4)) (.ab (aB (n*4+k)) (.ab (aB (k*64+64)) (.ab ((0:Int)<=k*64) (.ab (k*64<=k*64+64) (.ab (k*64+64<=(↑(256:Nat):Int)) (.ab ((0:Nat)+(k*64).toNat+((k*64+64).toNat - (k*64).toNat)<=256) (.ab (bk (some [AV.ptr 0 0,aJ (n*4+k),.s (.str (aG (List.take ((k*64+64).toNat - (k*64).toNat) (List.drop ((0:Nat)+(k*64).toNat) ws))))])) (.ab (bk (some (hD th m fu))) (.ab (bo th m fu) (.ite (pf th fu (n*4+k) (aG (List.take ((k*64+64).toNat - (k*64).toNat) (List.drop ((0:Nat)+(k*64).toNat) ws))) !=0) (.ret (hD th (uy th m fu (n*4+k) (aG (List.take ((k*64+64).toNat - (k*64).toNat) (List.drop ((0:Nat)+(k*64).toNat) ws)))) (uz th fu (n*4+k) (aG (List.take ((k*64+64).toNat - (k*64).toNat) (List.drop ((0:Nat)+(k*64).toNat) ws))))++[.ax,.aq [aJ n] 3,.aq [.ptr 0 0] 26,.aq [aJ (pf th fu (n*4+k) (aG (List.take ((k*64+64).toNat - (k*64).toNat) (List.drop ((0:Nat)+(k*64).toNat) ws))))] 27,.aq [.ah .u8 256 ws] 233,.ax]) (aJ (pf th fu (n*4+k) (aG (List.take ((k*64+64).toNat - (k*64).toNat) (List.drop ((0:Nat)+(k*64).toNat) ws)))))) (.ab (aB (k+1)) (.at (cGW th (uy th m fu (n*4+k) (aG (List.take ((k*64+64).toNat - (k*64).toNat) (List.drop ((0:Nat)+(k*64).toNat) ws)))) (uz th fu (n*4+k) (aG (List.take ((k*64+64).toNat - (k*64).toNat) (List.drop ((0:Nat)+(k*64).toNat) ws)))) n ws (k+1)))))))))))))))) (.ret (hD th m fu++[.ax,.aq [aJ n] 3,.aq [.ptr 0 0] 26,.aq [.s (.aS .i64 0)] 27,.aq [.ah .u8 256 ws] 233,.ax]) (.s (.aS .i64 0))):=by kernel_rfl
theorem auJ(th:Th)(m:As)(fu n:Int):run P vZ.sum f88 akn (start f88 [.ptr 0 0,aJ n] (hD th m fu)) inG=
 Tree.ite (decide (n>(1:Int))) (Tree.ret (hD th m fu++[ak.aq [AV.s (SV.aK false),AV.s (SV.aS i64 (0:Int)),AV.s (SV.aS i64 (0:Int))] (153:Nat)]) (AV.bt [AV.agg [AV.s (SV.aK false),AV.s (SV.aS i64 (0:Int)),AV.s (SV.aS i64 (0:Int))],AV.s (SV.aS i64 (5:Int))]))
 (Tree.ite (decide (n<(0:Int))) (Tree.ret (hD th m fu++[ak.aq [AV.s (SV.aK false),AV.s (SV.aS i64 (0:Int)),AV.s (SV.aS i64 (0:Int))] (153:Nat)]) (AV.bt [AV.agg [AV.s (SV.aK false),AV.s (SV.aS i64 (0:Int)),AV.s (SV.aS i64 (0:Int))],AV.s (SV.aS i64 (5:Int))])) (Tree.ab ((4:Int)≠(0:Int)) (Tree.ab (aB ((↑(List.length th):Int).tdiv (4:Int))) (Tree.ite (decide (n≥(↑(List.length th):Int).tdiv (4:Int))) (Tree.ret (hD th m fu++[ak.aq [AV.s (SV.aK false),AV.s (SV.aS i64 (0:Int)),AV.s (SV.aS i64 (0:Int))] (153:Nat)]) (AV.bt [AV.agg [AV.s (SV.aK false),AV.s (SV.aS i64 (0:Int)),AV.s (SV.aS i64 (0:Int))],AV.s (SV.aS i64 (5:Int))])) (Tree.ab (aB (n*(4:Int))) (Tree.ab (bk (some [AV.ptr (0:Nat) (0:Nat),AV.s (SV.int i64 (n*(4:Int)))])) (Tree.ab (bk (some (hD th m fu))) (Tree.ab (bo th m fu) (Tree.ite (rdE th (n*(4:Int)) !=(0:Int)) (Tree.ret (hD th m fu++[ak.aq [AV.s (SV.aK false),AV.s (SV.aS i64 (0:Int)),AV.s (SV.aS i64 (0:Int))] (153:Nat)]) (AV.bt [AV.agg [AV.s (SV.aK false),AV.s (SV.aS i64 (0:Int)),AV.s (SV.aS i64 (0:Int))],AV.s (SV.int i64 (rdE th (n*(4:Int))))])) (Tree.ab ((0:Int)≤(8:Int)) (Tree.ab ((0:Int)≤(1:Int)) (Tree.ab ((1:Int)<(↑(cI th m (n*(4:Int))).size:Int)) (Tree.ab ((0:Int)≤(8:Int)) (Tree.ab ((0:Int)≤(2:Int)) (Tree.ab ((2:Int)<(↑(cI th m (n*(4:Int))).size:Int)) (Tree.ab ((0:Int)≤(8:Int)) (Tree.ab ((0:Int)≤(3:Int)) (Tree.ab ((3:Int)<(↑(cI th m (n*(4:Int))).size:Int)) (Tree.ab ((0:Int)≤(8:Int)) (Tree.ab ((0:Int)≤(4:Int)) (Tree.ab ((4:Int)<(↑(cI th m (n*(4:Int))).size:Int)) (Tree.ab ((0:Int)≤(8:Int)) (Tree.ab ((0:Int)≤(5:Int)) (Tree.ab ((5:Int)<(↑(cI th m (n*(4:Int))).size:Int)) (Tree.ab ((0:Int)≤(8:Int)) (Tree.ab ((0:Int)≤(6:Int)) (Tree.ab ((6:Int)<(↑(cI th m (n*(4:Int))).size:Int)) (Tree.ab ((0:Int)≤(8:Int)) (Tree.ab ((0:Int)≤(7:Int)) (Tree.ab ((7:Int)<(↑(cI th m (n*(4:Int))).size:Int)) (Tree.ab ((0:Int)≤(8:Int)) (Tree.ab ((0:Int)≤(8:Int)) (Tree.ab ((8:Int)<(↑(cI th m (n*(4:Int))).size:Int)) (Tree.at (cGo th m fu (cI th m (n*(4:Int))) (bF BinOp.or u64 (u64.wrap (bF BinOp.or u64 (u64.wrap (bF BinOp.or u64 (u64.wrap (bF BinOp.or u64 (u64.wrap (bF BinOp.or u64 (u64.wrap (bF BinOp.or u64 (u64.wrap (bF BinOp.or u64 (u64.wrap (bF BinOp.or u64 (0:Int) (u64.wrap (aL (cI th m (n*(4:Int))) (Int.toNat (1:Int))))*(2:Int)^min (Int.toNat (8:Int)) u64.bits)) (u64.wrap (aL (cI th m (n*(4:Int))) (Int.toNat (2:Int))))*(2:Int)^min (Int.toNat (8:Int)) u64.bits)) (u64.wrap (aL (cI th m (n*(4:Int))) (Int.toNat (3:Int))))*(2:Int)^min (Int.toNat (8:Int)) u64.bits)) (u64.wrap (aL (cI th m (n*(4:Int))) (Int.toNat (4:Int))))*(2:Int)^min (Int.toNat (8:Int)) u64.bits)) (u64.wrap (aL (cI th m (n*(4:Int))) (Int.toNat (5:Int))))*(2:Int)^min (Int.toNat (8:Int)) u64.bits)) (u64.wrap (aL (cI th m (n*(4:Int))) (Int.toNat (6:Int))))*(2:Int)^min (Int.toNat (8:Int)) u64.bits)) (u64.wrap (aL (cI th m (n*(4:Int))) (Int.toNat (7:Int))))*(2:Int)^min (Int.toNat (8:Int)) u64.bits)) (u64.wrap (aL (cI th m (n*(4:Int))) (Int.toNat (8:Int)))))))))))))))))))))))))))))))))))))))):=by kernel_rfl
theorem loopGo(th:Th)(m:As)(fu:Int)(s:ByteArray)(E:Int):run P vZ.sum f88 akn (cGo th m fu s E) inG=
 Tree.ab ((0:Int)≤(0:Int)) (Tree.ab ((0:Int)<(↑s.size:Int)) (Tree.ab ((0:Int)≤(9:Int)) (Tree.ab ((9:Int)<(↑s.size:Int)) (Tree.ab (aB (aL s (Int.toNat (9:Int)))) (Tree.ab ((0:Int)≤(8:Int)) (Tree.ab ((0:Int)≤(10:Int)) (Tree.ab ((10:Int)<(↑s.size:Int)) (Tree.ab (aB (aL s (Int.toNat (10:Int)))) (Tree.ite (decide (E>(1099511627776:Int))) (Tree.ite (decide (bF BinOp.or i64 (i64.wrap (aL s (Int.toNat (9:Int))*(2:Int)^min (Int.toNat (8:Int)) i64.bits)) (aL s (Int.toNat (10:Int)))≥(1024:Int))) (Tree.ret (hD th m fu++[ak.aq [AV.s (SV.bool (aL s (Int.toNat (0:Int))==(1:Int))),AV.s (SV.aS i64 (0:Int)),AV.s (SV.aS i64 (0:Int))] (153:Nat)]) (AV.bt [AV.agg [AV.s (SV.bool (aL s (Int.toNat (0:Int))==(1:Int))),AV.s (SV.aS i64 (0:Int)),AV.s (SV.aS i64 (0:Int))],AV.s (SV.aS i64 (0:Int))])) (Tree.ret (hD th m fu++[ak.aq [AV.s (SV.bool (aL s (Int.toNat (0:Int))==(1:Int))),AV.s (SV.aS i64 (0:Int)),AV.s (SV.int i64 (bF BinOp.or i64 (i64.wrap (aL s (Int.toNat (9:Int))*(2:Int)^min (Int.toNat (8:Int)) i64.bits)) (aL s (Int.toNat (10:Int)))))] (153:Nat)]) (AV.bt [AV.agg [AV.s (SV.bool (aL s (Int.toNat (0:Int))==(1:Int))),AV.s (SV.aS i64 (0:Int)),AV.s (SV.int i64 (bF BinOp.or i64 (i64.wrap (aL s (Int.toNat (9:Int))*(2:Int)^min (Int.toNat (8:Int)) i64.bits)) (aL s (Int.toNat (10:Int)))))],AV.s (SV.aS i64 (0:Int))]))) (Tree.ite (decide (bF BinOp.or i64 (i64.wrap (aL s (Int.toNat (9:Int))*(2:Int)^min (Int.toNat (8:Int)) i64.bits)) (aL s (Int.toNat (10:Int)))≥(1024:Int))) (Tree.ret (hD th m fu++[ak.aq [AV.s (SV.bool (aL s (Int.toNat (0:Int))==(1:Int))),AV.s (SV.int i64 (i64.wrap E)),AV.s (SV.aS i64 (0:Int))] (153:Nat)]) (AV.bt [AV.agg [AV.s (SV.bool (aL s (Int.toNat (0:Int))==(1:Int))),AV.s (SV.int i64 (i64.wrap E)),AV.s (SV.aS i64 (0:Int))],AV.s (SV.aS i64 (0:Int))])) (Tree.ret (hD th m fu++[ak.aq [AV.s (SV.bool (aL s (Int.toNat (0:Int))==(1:Int))),AV.s (SV.int i64 (i64.wrap E)),AV.s (SV.int i64 (bF BinOp.or i64 (i64.wrap (aL s (Int.toNat (9:Int))*(2:Int)^min (Int.toNat (8:Int)) i64.bits)) (aL s (Int.toNat (10:Int)))))] (153:Nat)]) (AV.bt [AV.agg [AV.s (SV.bool (aL s (Int.toNat (0:Int))==(1:Int))),AV.s (SV.int i64 (i64.wrap E)),AV.s (SV.int i64 (bF BinOp.or i64 (i64.wrap (aL s (Int.toNat (9:Int))*(2:Int)^min (Int.toNat (8:Int)) i64.bits)) (aL s (Int.toNat (10:Int)))))],AV.s (SV.aS i64 (0:Int))])))))))))))):=by kernel_rfl
theorem auK(th:Th)(m:As)(fu n:Int)(on:Bool)(ep pg:Int):run P vZ.sum f90 agA (start f90 [.ptr 0 0,aJ n,avM on ep pg] (hD th m fu)) inG=
 Tree.ite (decide (n>1)) (.ret (hD th m fu++[.aq [.s (.bool on),aJ ep,aJ pg] 153]) (.s (.aS .i64 5))) (.ite (decide (n<0)) (.ret (hD th m fu++[.aq [.s (.bool on),aJ ep,aJ pg] 153]) (.s (.aS .i64 5))) (.ab ((4:Int)≠0) (.ab (aB ((↑(List.length th):Int).tdiv 4)) (.ite (decide (n>=(↑(List.length th):Int).tdiv 4)) (.ret (hD th m fu++[.aq [.s (.bool on),aJ ep,aJ pg] 153]) (.s (.aS .i64 5))) (.ite (decide (ep<0)) (.ret (hD th m fu++[.aq [.s (.bool on),aJ ep,aJ pg] 153]) (.s (.aS .i64 1))) (.ite (decide (ep>1099511627776)) (.ret (hD th m fu++[.aq [.s (.bool on),aJ ep,aJ pg] 153]) (.s (.aS .i64 1))) (.ite (decide (pg<0)) (.ret (hD th m fu++[.aq [.s (.bool on),aJ ep,aJ pg] 153]) (.s (.aS .i64 1))) (.ite (decide (pg>=1024)) (.ret (hD th m fu++[.aq [.s (.bool on),aJ ep,aJ pg] 153]) (.s (.aS .i64 1))) (.ite on (.at (cGs th m fu n on ep pg ((replicate 64 0).set 0 1))) (.at (cGs th m fu n on ep pg (replicate 64 0)))))))))))):=by kernel_rfl
theorem auL(th:Th)(m:As)(fu n:Int)(on:Bool)(ep pg:Int)(ws:List Int):run P vZ.sum f90 agA (cGs th m fu n on ep pg ws) inG=
 Tree.ab ((0:Int)<=(0:Int)) (Tree.ab ((0:Int)<=(8:Int)) (Tree.ab ((0:Int)<=(16:Int)) (Tree.ab ((0:Int)<=(24:Int)) (Tree.ab ((0:Int)<=(32:Int)) (Tree.ab ((0:Int)<=(40:Int)) (Tree.ab ((0:Int)<=(48:Int)) (Tree.ab ((0:Int)<=(56:Int)) (Tree.ab ((0:Int)<=(8:Int)) (Tree.at (amK th m fu n ((((((((((ws.set (8:Nat) (u8.wrap (ep.fdiv ((2:Int)^min (Int.toNat (0:Int)) i64.bits)))).set (7:Nat) (u8.wrap (ep.fdiv ((2:Int)^min (Int.toNat (8:Int)) i64.bits)))).set (6:Nat) (u8.wrap (ep.fdiv ((2:Int)^min (Int.toNat (16:Int)) i64.bits)))).set (5:Nat) (u8.wrap (ep.fdiv ((2:Int)^min (Int.toNat (24:Int)) i64.bits)))).set (4:Nat) (u8.wrap (ep.fdiv ((2:Int)^min (Int.toNat (32:Int)) i64.bits)))).set (3:Nat) (u8.wrap (ep.fdiv ((2:Int)^min (Int.toNat (40:Int)) i64.bits)))).set (2:Nat) (u8.wrap (ep.fdiv ((2:Int)^min (Int.toNat (48:Int)) i64.bits)))).set (1:Nat) (u8.wrap (ep.fdiv ((2:Int)^min (Int.toNat (56:Int)) i64.bits)))).set (9:Nat) (u8.wrap (pg.fdiv ((2:Int)^min (Int.toNat (8:Int)) i64.bits)))).set (10:Nat) (u8.wrap pg)))))))))))):=by kernel_rfl
theorem amO(th:Th)(m:As)(fu n:Int)(ws:List Int):run P vZ.sum f90 agA (amK th m fu n ws) inG=
 Tree.ab (aB (n*4)) (.ab ((0:Int)<=0) (.ab ((0:Int)<=(↑(64:Nat):Int)) (.ab ((↑(64:Nat):Int)<=(↑(64:Nat):Int)) (.ab ((0:Nat)+(64:Nat)<=64) (.ab (bk (some [AV.ptr 0 0,aJ (n*4),.s (.str (aG (List.take 64 (List.drop 0 ws))))])) (.ab (bk (some (hD th m fu))) (.ab (bo th m fu) (.ret (hD th (uy th m fu (n*4) (aG (List.take 64 (List.drop 0 ws)))) (uz th fu (n*4) (aG (List.take 64 (List.drop 0 ws))))++[.aq [.ah .u8 64 ws] 164]) (aJ (pf th fu (n*4) (aG (List.take 64 (List.drop 0 ws))))))))))))):=by kernel_rfl
theorem auM(th:Th)(m:As)(fu:Int):run P vZ.sum f65 [] (start f65 [.ptr 0 0] (hD th m fu)) inG=
 Tree.ab ((4:Int)≠0) (.ab (aB ((↑(List.length th):Int).tdiv 4)) (.ret (hD th m fu) (aJ ((↑(List.length th):Int).tdiv 4)))):=by kernel_rfl
abbrev sGR:Spec (Th×As×Int×Int):=⟨λ(_,_,_,n)=>[.ptr 0 0,aJ n],λ(th,m,fu,_)=>hD th m fu,λ(th,m,fu,n)=>[bo th m fu,aB n],λ(th,m,fu,_)=>hD th m fu,λ(th,m,_,n)=>.bt [.s (.str (fN th m n)),aJ (gO th m n)]⟩
abbrev sGW:Spec (Th×As×Int×Int×ByteArray):=⟨λ(_,_,_,n,s)=>[.ptr 0 0,aJ n,.s (.str s)],λ(th,m,fu,_)=>hD th m fu,λ(th,m,fu,n,_)=>[bo th m fu,aB n],λ(th,m,fu,n,s)=>hD th (kz th m fu n s).1 (kz th m fu n s).2.1,λ(th,m,fu,n,s)=>aJ (kz th m fu n s).2.2⟩
abbrev sGo:Spec (Th×As×Int×Int):=⟨λ(_,_,_,n)=>[.ptr 0 0,aJ n],λ(th,m,fu,_)=>hD th m fu,λ(th,m,fu,n)=>[bo th m fu,aB n],λ(th,m,fu,_)=>hD th m fu,λ(th,m,_,n)=>.bt [avM (iY th m n) (gf th m n) (mQ th m n),aJ (mP th n)]⟩
abbrev sGs:Spec (Th×As×Int×Int×Bool×Int×Int):=⟨λ(_,_,_,n,on,ep,pg)=>[.ptr 0 0,aJ n,avM on ep pg],λ(th,m,fu,_)=>hD th m fu,λ(th,m,fu,n,_)=>[bo th m fu,aB n],λ(th,m,fu,n,on,ep,pg)=>hD th (kB th m fu n on ep pg) (pY th fu n on ep pg),λ(th,_,fu,n,on,ep,pg)=>aJ (zM th fu n on ep pg)⟩
abbrev sPn:Spec (Th×As×Int):=⟨λ_=>[.ptr 0 0],λ(th,m,fu)=>hD th m fu,λ(th,m,fu)=>[bo th m fu],λ(th,m,fu)=>hD th m fu,λ(th,_,_)=>aJ (eH th)⟩
theorem gq{Z:bm}:vZ.Ok P Z:=aM.Ok.cons (ap7.sum mRd) (aM.Ok.cons (yh.sum mWr) aM.Ok.nil)
theorem ad2{Z:bm}:fM P Z 65 sPn:=by
 refine fS func65 ?_;rintro⟨th,m,fu⟩ ⟨(hd:bo th m fu),_⟩ X hX hz;have h4:=hd.t.1;have:=pr th;refine cH hz hX (by simp) gq func65 (auM th m fu) ⟨by decide,⟨by unfold eH at this;omega,by unfold eH at this;omega⟩, ?_⟩;exact bE 3 rfl (le_refl _) rfl rfl
theorem amP{th:Th}{n:Int}(h:jm th n=true):rdE th n=0:=by unfold rdE;rw[if_pos h]
theorem amQ{ws:List Int}(h:∀x∈ws,0<=x/\x<=255):bF BinOp.or i64 (i64.wrap (ws.getD 0 0*2^min (Int.toNat 8) i64.bits)) (ws.getD 1 0)=sQ ws/\0<=sQ ws/\sQ ws<=65535:=by
 have b:∀i,0<=ws.getD i 0/\ws.getD i 0<=255:=λi=>by
  by_cases hi:i<ws.length;rw[bc hi];exact h _ (getElem_mem hi);simp[List.getD,getElem?_eq_none (Nat.le_of_not_lt hi)]
 have h0:=b 0;have h1:=b 1;unfold sQ;exact⟨sR h0 h1,by omega,by omega⟩
theorem yl{th:Th}{m:As}{n:Int}:∀k:Nat,∀x∈pgL th m n k,0<=x/\x<=255
 |0,x,hx=>by cases hx
 |k+1,x,hx=>by
  rw[pgL,mem_append]at hx;rcases hx with hx|hx;exact yl k x hx;simp only[bx,mem_map]at hx;obtain⟨b,_,rfl⟩:=hx;have:=b.toNat_lt;omega
theorem auN{Z:bm}{X:Ctx}{th:Th}{m:As}{fu n:Int}(hX:X.H=lk (sGR.heap (th,m,fu,n)))(hz:eb Z X)(hd:bo th m fu)(hp:wD th n=true):Safe P 124 X (dP sGR (th,m,fu,n)) (amJ th m fu (pgA th m n)):=by
 have gA:∀x∈agz,(sGR.heap (th,m,fu,n)).length<=x.2.m:=by intro y hy;simp[agz]at hy;rcases hy with rfl|rfl<;>exact le_refl _
 refine cH hz hX gA gq func124 (amM th m fu (pgA th m n)) ?_;have⟨e,l0,l1⟩:=amQ (ws:=pgA th m n) (yl 4)
 have b:∀i,aB ((pgA th m n).getD i 0):=λi=>by
  by_cases hi:i<(pgA th m n).length;rw[bc hi];have:=yl 4 _ (getElem_mem hi);exact⟨by omega,by omega⟩;simp[List.getD,getElem?_eq_none (Nat.le_of_not_lt hi),aB]
 rw[e];generalize hl:sQ (pgA th m n)=l at *;have g1:l>254->gO th m n=4:=λh=>by unfold gO;rw[if_pos hp,hl,if_pos h]
 have g2:¬l>254->gO th m n=0:=λh=>by unfold gO;rw[if_pos hp,hl,if_neg h]
 refine⟨b 0,by decide,b 1,λh=> ?_,λh=>⟨⟨by omega,by omega⟩,by decide,by omega,by have:=of_decide_eq_false h;omega,by have:=of_decide_eq_false h;omega, ?_⟩⟩;have h:=g1 (of_decide_eq_true h);refine bE 3 rfl (le_refl _) ?_ rfl;simp[fN,h,zt];have h:=g2 (of_decide_eq_false h);refine bE 3 rfl (le_refl _) ?_ rfl;simp only[fN,h,if_true,hl];rw[show(2+l).toNat - Int.toNat 2=l.toNat from by omega];rfl
theorem axq{Z:bm}:fM P Z 124 sGR:=by
 refine fS func124 ?_;rintro⟨th,m,fu,n⟩ ⟨(hd:bo th m fu),(hn:aB n),_⟩ X hX hz;have gA:∀x∈agz,(sGR.heap (th,m,fu,n)).length<=x.2.m:=by intro y hy;simp[agz]at hy;rcases hy with rfl|rfl<;>exact le_refl _
 have h4:=hd.t.1;have hN:=pr th;unfold aB at hn
 have bad:¬wD th n=true->fN th m n=empty/\gO th m n=5:=λh=>by
  have:gO th m n=5:=by unfold gO;rw[if_neg h]
  exact⟨by unfold fN;rw[if_neg (by rw[this];decide)],this⟩
 have loop:wD th n=true->∀(j k:Nat),k+j=4->Safe P 124 X (dP sGR (th,m,fu,n)) (cGR th m fu n (pgL th m n k++replicate (256 - 64*k) 0) (k:Int)):=by
  intro hp j;have⟨p0,p1⟩:=gm.1 hp
  induction j with
  |zero=>
   intro k hk;obtain rfl:k=4:=by omega
   refine cH hz hX gA gq func124 (amL th m fu n _ 4) ⟨λh=>absurd (of_decide_eq_true h) (by omega),λ_=> ?_⟩;have e:pgL th m n 4++replicate (256 - 64*4) 0=pgA th m n:=append_nil _;rw[e];exact auN hX hz hd hp
  |succ j ih=>
   intro k hk;have cP:=aca hp (show k<4 by omega);have next:=ih (k+1) (by omega)
   have hl:=ah8 hd hp k (by omega);have hs:(bx (cI th m (n*4+(k:Int)))).length=64:=by rw[gl];exact ab7 hd cP
   have ho:=agy (k:=k) hl hs (by omega);have e0:=amP cP;refine cH hz hX gA gq func124 (amL th m fu n _ k) ?_;rw[show(pgL th m n (k+1))=pgL th m n k++bx (cI th m (n*4+(k:Int)))from rfl,<-ho]at next
   have eo:over (pgL th m n k++replicate (256 - 64*k) 0) (0+((k:Int)*64).toNat) (min (List.map (λ(b:UInt8)=>(b.toNat:Int)) (cI th m (n*4+(k:Int))).data.toList).length ((256:Int).toNat - ((k:Int)*64).toNat)) (List.map (λ(b:UInt8)=>(b.toNat:Int)) (cI th m (n*4+(k:Int))).data.toList)=over (pgL th m n k++replicate (256 - 64*k) 0) (64*k) 64 (bx (cI th m (n*4+(k:Int)))):=by
    show over _ _ (min (bx _).length _) (bx _)=_;rw[hs,show(0+((k:Int)*64).toNat)=64*k from by omega,show min 64 ((256:Int).toNat - ((k:Int)*64).toNat)=64 from by omega]
   rw[show((256:Nat):Int)=256 from rfl,eo,e0];refine⟨λ_=>⟨⟨by omega,by omega⟩,⟨by omega,by omega⟩,⟨by omega,by omega⟩,rfl,rfl,hd,λh=>absurd h (by decide),λ_=>⟨by omega,by omega,by omega,trivial,by omega,⟨by omega,by omega⟩,next⟩⟩,λh=>absurd (of_decide_eq_false h) (by omega)⟩
 refine cH hz hX gA gq func124 (auH th m fu n) ?_;have lp:=loop;unfold eH at hN
 repeat' (with_reducible (first|refine aml ?_|refine ya ?_ ?_|refine adP (λ_=> ?_) (λ_=> ?_)|refine adQ (λ_=> ?_) (λ_=> ?_)|refine adR (λ_=> ?_) (λ_=> ?_)|refine amm ?_|refine amn ?_|refine adS ?_|refine adT (λ_=> ?_) (λ_=> ?_)|refine yb (λ_=> ?_) (λ_=> ?_)|refine adU ?_|refine amo ?_))
 all_goals first|omega|exact⟨by omega,by omega⟩|skip
 have⟨e1,e2⟩:=bad (λh=>by have:=gm.1 h;omega);refine bE 3 rfl (le_refl _) ?_ rfl;simp[e1,e2,zt];have⟨e1,e2⟩:=bad (λh=>by have:=gm.1 h;unfold eH at this;omega);refine bE 3 rfl (le_refl _) ?_ rfl;simp[e1,e2,zt];exact lp (gm.2 ⟨by omega,by unfold eH;omega⟩) 4 0 rfl
theorem axr{Z:bm}:fM P Z 178 sGW:=by
 refine fS func178 ?_;rintro⟨th,m,fu,n,s⟩ ⟨(hd:bo th m fu),(hn:aB n),_⟩ X hX hz;have gA:∀x∈aqb,(sGW.heap (th,m,fu,n,s)).length<=x.2.m:=by intro y hy;simp[aqb]at hy;rcases hy with rfl;exact le_refl _
 have h4:=hd.t.1;have hN:=pr th;unfold aB at hn;have bad:∀c,gwC th n s=c->c≠0->kz th m fu n s=(m,fu,c):=λc h h2=>by unfold kz;rw[h,if_neg h2]
 have loop:wD th n=true->s.size<=254->∀(j k:Nat) (m':As) (fz:Int),k+j=4->bo th m' fz->kz th m fu n s=zK th n (pgB s) j k m' fz->Safe P 178 X (dP sGW (th,m,fu,n,s)) (cGW th m' fz n (pgB s) (k:Int)):=by
  intro hp azR j;have⟨p0,p1⟩:=gm.1 hp;have hl:=ah9 azR
  induction j with
  |zero=>
   intro k m' fz hk hd' hr;obtain rfl:k=4:=by omega
   refine cH hz hX gA gq func178 (amN th m' fz n _ 4) ⟨λh=>absurd (of_decide_eq_true h) (by omega),λ_=> ?_⟩;rw[zK]at hr;refine bE 3 rfl (le_refl _) ?_ ?_<;>simp[hr,zt]
  |succ j ih=>
   intro k m' fz hk hd' hr;have next:=ih (k+1)
   have es:aG (List.take ((((k:Int)*64+64)).toNat - ((k:Int)*64).toNat) (List.drop (0+((k:Int)*64).toNat) (pgB s)))=iM (pgB s) k:=by
    unfold iM;rw[show(0+((k:Int)*64).toNat)=64*k from by omega,show((((k:Int)*64+64)).toNat - ((k:Int)*64).toNat)=64 from by omega]
   rw[zK]at hr;refine cH hz hX gA gq func178 (amN th m' fz n _ k) ?_;rw[show((256:Nat):Int)=256 from rfl,es];refine⟨λ_=>⟨⟨by omega,by omega⟩,⟨by omega,by omega⟩,⟨by omega,by omega⟩,⟨by omega,by omega⟩,by omega,by omega,by omega,by omega,rfl,rfl,hd',λh=> ?_,λh=>⟨⟨by omega,by omega⟩, ?_⟩⟩,λh=>absurd (of_decide_eq_false h) (by omega)⟩;have h:¬pf th fz (n*4+(k:Int)) (iM (pgB s) k)=0:=by simpa using h
   rw[if_neg h]at hr;refine bE 3 rfl (le_refl _) ?_ ?_<;>simp[hr,zt];have h:pf th fz (n*4+(k:Int)) (iM (pgB s) k)=0:=by simpa using h
   rw[if_pos h]at hr;exact next _ _ (by omega) (yj hd') hr
 refine cH hz hX gA gq func178 (auI th m fu n s) ?_;have lp:=loop;have hb:=λh=>auG (s:=s) h;unfold bx at hb;unfold eH at hN
 repeat' (with_reducible (first|refine aml ?_|refine ya ?_ ?_|refine adP (λ_=> ?_) (λ_=> ?_)|refine adQ (λ_=> ?_) (λ_=> ?_)|refine adR (λ_=> ?_) (λ_=> ?_)|refine amm ?_|refine amn ?_|refine adS ?_|refine adT (λ_=> ?_) (λ_=> ?_)|refine yb (λ_=> ?_) (λ_=> ?_)|refine adU ?_|refine amo ?_))
 all_goals first|omega|exact⟨by omega,by omega⟩|trivial|skip
 have e:=bad 5 (by unfold gwC;rw[if_neg (λh=>by have:=gm.1 h;omega)]) (by decide);refine bE 3 rfl (le_refl _) ?_ ?_<;>simp[e,zt];have e:=bad 5 (by unfold gwC;rw[if_neg (λh=>by have:=gm.1 h;unfold eH at this;omega)]) (by decide);refine bE 3 rfl (le_refl _) ?_ ?_<;>simp[e,zt];have e:=bad 40 (by unfold gwC;rw[if_pos (gm.2 ⟨by omega,by unfold eH;omega⟩),if_pos (by omega)]) (by decide);refine bE 3 rfl (le_refl _) ?_ ?_<;>simp[e,zt];rw[hb (by omega)];have hp:wD th n=true:=gm.2 ⟨by omega,by unfold eH;omega⟩;have ec:gwC th n s=0:=by unfold gwC;rw[if_pos hp,if_neg (by omega)]
 exact lp hp (by omega) 4 0 m fu rfl hd (by unfold kz;rw[ec,if_pos rfl])
theorem auO(s:ByteArray):bF BinOp.or i64 (i64.wrap (aL s (Int.toNat 9)*2^min (Int.toNat 8) i64.bits)) (aL s (Int.toNat 10))=pgT s/\0<=pgT s/\pgT s<=65535:=by
 have h0:=db s 9;have h1:=db s 10;refine⟨sR h0 h1, ?_⟩;unfold pgT;omega
theorem auP{Z:bm}{X:Ctx}{th:Th}{m:As}{fu n:Int}(hX:X.H=lk (sGo.heap (th,m,fu,n)))(hz:eb Z X)(hr:mP th n=0)(hs:(cI th m (n*4)).size=64)(E:Int)(hE:E=epS (cI th m (n*4)) 8):Safe P 88 X (dP sGo (th,m,fu,n)) (cGo th m fu (cI th m (n*4)) E):=by
 have gA:∀x∈akn,(sGo.heap (th,m,fu,n)).length<=x.2.m:=by intro y hy;simp[akn,fD]at hy;rcases hy with rfl|rfl<;>exact le_refl _
 rw[amF _ 8 (le_refl _)]at hE;subst hE;refine cH hz hX gA gq func88 (loopGo th m fu _ _) ?_;have o1:iY th m n=(aL (cI th m (n*4)) (Int.toNat 0)==1):=by unfold iY zL;rw[hr];rfl
 have o2:gf th m n=ab8 (cI th m (n*4)):=by unfold gf;rw[hr,if_pos rfl]
 have o3:mQ th m n=ab9 (cI th m (n*4)):=by unfold mQ;rw[hr,if_pos rfl]
 have b9:=db (cI th m (n*4)) (Int.toNat 9);have b10:=db (cI th m (n*4)) (Int.toNat 10);have⟨p1,p2,p3⟩:=auO (cI th m (n*4));have⟨g0,g1⟩:=uD (cI th m (n*4)) 8;rw[p1];generalize cI th m (n*4)=s at *;have q1:epN s 8>1099511627776->ab8 s=0:=λh=>by unfold ab8;rw[if_pos h]
 have q2:¬epN s 8>1099511627776->ab8 s=epN s 8:=λh=>by unfold ab8;rw[if_neg h]
 have q3:pgT s>=1024->ab9 s=0:=λh=>by unfold ab9;rw[if_pos h]
 have q4:¬pgT s>=1024->ab9 s=pgT s:=λh=>by unfold ab9;rw[if_neg h]
 have w1:epN s 8<=1099511627776->i64.wrap (epN s 8)=epN s 8:=λh=>cu ⟨by omega,by omega⟩
 repeat' (with_reducible (first|refine aml ?_|refine ya ?_ ?_|refine adP (λ_=> ?_) (λ_=> ?_)|refine adQ (λ_=> ?_) (λ_=> ?_)|refine adR (λ_=> ?_) (λ_=> ?_)|refine amm ?_|refine amn ?_|refine adS ?_|refine adT (λ_=> ?_) (λ_=> ?_)|refine yb (λ_=> ?_) (λ_=> ?_)|refine adU ?_|refine amo ?_))
 all_goals first|omega|exact⟨by omega,by omega⟩|skip
 have e1:=q1 (by omega);have e2:=q3 (by omega);refine bE 3 rfl (le_refl _) ?_ rfl;simp only[o1,o2,o3,e1,e2,hr];rfl;have e1:=q1 (by omega);have e2:=q4 (by omega);refine bE 3 rfl (le_refl _) ?_ rfl;simp only[o1,o2,o3,e1,e2,hr];rfl;have e1:=q2 (by omega);have e2:=q3 (by omega);have e3:=w1 (by omega);refine bE 3 rfl (le_refl _) ?_ rfl;simp only[o1,o2,o3,e1,e2,hr,e3];rfl;have e1:=q2 (by omega);have e2:=q4 (by omega);have e3:=w1 (by omega);refine bE 3 rfl (le_refl _) ?_ rfl;simp only[o1,o2,o3,e1,e2,hr,e3];rfl
theorem amR{th:Th}{m:As}{n:Int}(h:¬(0<=n/\n<=1/\n<eH th)):mP th n=5/\iY th m n=false/\gf th m n=0/\mQ th m n=0:=by
 have e:mP th n=5:=by unfold mP;rw[if_neg h]
 unfold iY gf mQ;rw[e];exact⟨rfl,rfl,rfl,rfl⟩
theorem go_ok{Z:bm}:fM P Z 88 sGo:=by
 refine fS func88 ?_;rintro⟨th,m,fu,n⟩ ⟨(hd:bo th m fu),(hn:aB n),_⟩ X hX hz;have gA:∀x∈akn,(sGo.heap (th,m,fu,n)).length<=x.2.m:=by intro y hy;simp[akn,fD]at hy;rcases hy with rfl|rfl<;>exact le_refl _
 have h4:=hd.t.1;have hN:=pr th;unfold aB at hn;have no:= @amR th m n;have yes:0<=n->n<=1->n<eH th->mP th n=0/\jm th (n*4)=true:=λa b c=>⟨by unfold mP;rw[if_pos ⟨a,b,c⟩],fp.2 ⟨by omega,by omega⟩⟩;have fin:=λh1 h2=>auP (Z:=Z) (n:=n) hX hz h1 h2;unfold eH at hN no yes;refine cH hz hX gA gq func88 (auJ th m fu n) ?_
 repeat' (with_reducible (first|refine aml ?_|refine ya ?_ ?_|refine adP (λ_=> ?_) (λ_=> ?_)|refine adQ (λ_=> ?_) (λ_=> ?_)|refine adR (λ_=> ?_) (λ_=> ?_)|refine amm ?_|refine amn ?_|refine adS ?_|refine adT (λ_=> ?_) (λ_=> ?_)|refine yb (λ_=> ?_) (λ_=> ?_)|refine adU ?_|refine amo ?_))
 all_goals first|omega|exact⟨by omega,by omega⟩|assumption|skip
 have⟨e1,e2,e3,e4⟩:=no (by omega);refine bE 3 rfl (le_refl _) ?_ rfl;simp only[e1,e2,e3,e4];rfl;have⟨e1,e2,e3,e4⟩:=no (by omega);refine bE 3 rfl (le_refl _) ?_ rfl;simp only[e1,e2,e3,e4];rfl;have⟨e1,e2,e3,e4⟩:=no (by omega);refine bE 3 rfl (le_refl _) ?_ rfl;simp only[e1,e2,e3,e4];rfl
 all_goals have⟨e1,e2⟩:=yes (by omega) (by omega) (by omega)
 exact absurd (amP e2) (by assumption)
 all_goals have e3:=ab7 hd e2
 all_goals first|omega|skip
 exact fin e1 e3 _ rfl
theorem auQ{ep pg:Int}(h0:0<=ep)(h1:0<=pg)(on:Bool)(ws:List Int)(hw:ws=if on=true then(replicate 64 (0:Int)).set 0 1 else replicate 64 0):
 ((((((((((ws.set 8 (u8.wrap (ep.fdiv (2^min (Int.toNat 0) i64.bits)))).set 7 (u8.wrap (ep.fdiv (2^min (Int.toNat 8) i64.bits)))).set 6 (u8.wrap (ep.fdiv (2^min (Int.toNat 16) i64.bits)))).set 5 (u8.wrap (ep.fdiv (2^min (Int.toNat 24) i64.bits)))).set 4 (u8.wrap (ep.fdiv (2^min (Int.toNat 32) i64.bits)))).set 3 (u8.wrap (ep.fdiv (2^min (Int.toNat 40) i64.bits)))).set 2 (u8.wrap (ep.fdiv (2^min (Int.toNat 48) i64.bits)))).set 1 (u8.wrap (ep.fdiv (2^min (Int.toNat 56) i64.bits)))).set 9 (u8.wrap (pg.fdiv (2^min (Int.toNat 8) i64.bits)))).set 10 (u8.wrap pg))=mkB on ep pg:=by
 have e:(replicate 64 (0:Int))=0::0::0::0::0::0::0::0::0::0::0::replicate 53 0:=rfl
 simp only[wrap_u8,show(2:Int)^min (Int.toNat 0) i64.bits=1 from by decide,show(2:Int)^min (Int.toNat 8) i64.bits=256 from by decide,show(2:Int)^min (Int.toNat 16) i64.bits=65536 from by decide,show(2:Int)^min (Int.toNat 24) i64.bits=16777216 from by decide,
  show(2:Int)^min (Int.toNat 32) i64.bits=4294967296 from by decide,show(2:Int)^min (Int.toNat 40) i64.bits=1099511627776 from by decide,show(2:Int)^min (Int.toNat 48) i64.bits=281474976710656 from by decide,show(2:Int)^min (Int.toNat 56) i64.bits=72057594037927936 from by decide,
  Int.fdiv_eq_ediv_of_nonneg ep (by decide:(0:Int)<=1),Int.fdiv_eq_ediv_of_nonneg ep (by decide:(0:Int)<=256),Int.fdiv_eq_ediv_of_nonneg ep (by decide:(0:Int)<=65536),Int.fdiv_eq_ediv_of_nonneg ep (by decide:(0:Int)<=16777216),Int.fdiv_eq_ediv_of_nonneg ep (by decide:(0:Int)<=4294967296),Int.fdiv_eq_ediv_of_nonneg ep (by decide:(0:Int)<=1099511627776),Int.fdiv_eq_ediv_of_nonneg ep (by decide:(0:Int)<=281474976710656),Int.fdiv_eq_ediv_of_nonneg ep (by decide:(0:Int)<=72057594037927936),Int.fdiv_eq_ediv_of_nonneg pg (by decide:(0:Int)<=256),Int.ediv_one]
 cases on;rw[if_neg (by decide),e]at hw;subst hw;rfl;rw[if_pos rfl,e]at hw;subst hw;rfl
theorem auR{Z:bm}{X:Ctx}{th:Th}{m:As}{fu n:Int}{on:Bool}{ep pg:Int}(hX:X.H=lk (sGs.heap (th,m,fu,n,on,ep,pg)))(hz:eb Z X)(hd:bo th m fu)(hn:0<=n/\n<=1)(hs:srC th n ep pg=0)(h0:0<=ep)(h1:0<=pg)(ws:List Int)(hw:ws=if on=true then(replicate 64 (0:Int)).set 0 1 else replicate 64 0):
 Safe P 90 X (dP sGs (th,m,fu,n,on,ep,pg)) (cGs th m fu n on ep pg ws):=by
 have gA:∀x∈agA,(sGs.heap (th,m,fu,n,on,ep,pg)).length<=x.2.m:=by intro y hy;simp[agA,fD]at hy;rcases hy with rfl|rfl|rfl<;>exact le_refl _
 have e:=auQ h0 h1 on ws hw;have l:=sT on ep pg
 have fin:Safe P 90 X (dP sGs (th,m,fu,n,on,ep,pg)) (amK th m fu n (mkB on ep pg)):=by
  refine cH hz hX gA gq func90 (amO th m fu n _) ?_;rw[show aG (List.take 64 (List.drop 0 (mkB on ep pg)))=pj on ep pg from by unfold pj;rw[List.drop_zero,take_of_length_le (by omega)]];refine⟨⟨by omega,by omega⟩,by decide,by decide,by decide,by decide,rfl,rfl,hd, ?_⟩;refine bE 3 rfl (le_refl _) ?_ ?_<;>simp[zM,kB,pY,hs,zt]
 refine cH hz hX gA gq func90 (auL th m fu n on ep pg ws) ?_;rw[e];exact⟨by decide,by decide,by decide,by decide,by decide,by decide,by decide,by decide,by decide,fin⟩
theorem asZ{Z:bm}:fM P Z 90 sGs:=by
 refine fS func90 ?_;rintro⟨th,m,fu,n,on,ep,pg⟩ ⟨(hd:bo th m fu),(hn:aB n),_⟩ X hX hz;have gA:∀x∈agA,(sGs.heap (th,m,fu,n,on,ep,pg)).length<=x.2.m:=by intro y hy;simp[agA,fD]at hy;rcases hy with rfl|rfl|rfl<;>exact le_refl _
 have h4:=hd.t.1;have hN:=pr th
 have no:∀c,srC th n ep pg=c->c≠0->zM th fu n on ep pg=c/\kB th m fu n on ep pg=m/\pY th fu n on ep pg=fu:=λc h h2=>by
  unfold zM kB pY;rw[h,if_neg h2,if_neg h2,if_neg h2];exact⟨rfl,rfl,rfl⟩
 have c5:¬(0<=n/\n<=1/\n<eH th)->srC th n ep pg=5:=λh=>by unfold srC;rw[(amR (m:=m) h).1];rfl
 have c0:0<=n->n<=1->n<eH th->mP th n=0:=λa b c=>by unfold mP;rw[if_pos ⟨a,b,c⟩]
 have c1:0<=n->n<=1->n<eH th->(ep<0\/ep>1099511627776\/pg<0\/pg>=1024)->srC th n ep pg=1:=λa b c h=>by unfold srC;rw[c0 a b c,if_pos rfl,if_pos h]
 have c2:0<=n->n<=1->n<eH th->¬(ep<0\/ep>1099511627776\/pg<0\/pg>=1024)->srC th n ep pg=0:=λa b c h=>by unfold srC;rw[c0 a b c,if_pos rfl,if_neg h]
 have fin:=λh1 h2 h3 h4 ws=>auR (Z:=Z) (th:=th) (m:=m) (fu:=fu) (n:=n) (on:=on) (ep:=ep) (pg:=pg) hX hz hd h1 h2 h3 h4 ws;unfold aB at hn;unfold eH at hN c5 c0 c1 c2;refine cH hz hX gA gq func90 (auK th m fu n on ep pg) ?_
 repeat' (with_reducible (first|refine aml ?_|refine ya ?_ ?_|refine adP (λ_=> ?_) (λ_=> ?_)|refine adQ (λ_=> ?_) (λ_=> ?_)|refine adR (λ_=> ?_) (λ_=> ?_)|refine amm ?_|refine amn ?_|refine adS ?_|refine adT (λ_=> ?_) (λ_=> ?_)|refine yb (λ_=> ?_) (λ_=> ?_)|refine adU ?_|refine amo ?_))
 all_goals first|omega|exact⟨by omega,by omega⟩|skip
 have⟨e1,e2,e3⟩:=no 5 (c5 (by omega)) (by decide);refine bE 3 rfl (le_refl _) ?_ ?_<;>simp[e1,e2,e3,zt];have⟨e1,e2,e3⟩:=no 5 (c5 (by omega)) (by decide);refine bE 3 rfl (le_refl _) ?_ ?_<;>simp[e1,e2,e3,zt];have⟨e1,e2,e3⟩:=no 5 (c5 (by omega)) (by decide);refine bE 3 rfl (le_refl _) ?_ ?_<;>simp[e1,e2,e3,zt];have⟨e1,e2,e3⟩:=no 1 (c1 (by omega) (by omega) (by omega) (by omega)) (by decide);refine bE 3 rfl (le_refl _) ?_ ?_<;>simp[e1,e2,e3,zt];have⟨e1,e2,e3⟩:=no 1 (c1 (by omega) (by omega) (by omega) (by omega)) (by decide);refine bE 3 rfl (le_refl _) ?_ ?_<;>simp[e1,e2,e3,zt];have⟨e1,e2,e3⟩:=no 1 (c1 (by omega) (by omega) (by omega) (by omega)) (by decide);refine bE 3 rfl (le_refl _) ?_ ?_<;>simp[e1,e2,e3,zt];have⟨e1,e2,e3⟩:=no 1 (c1 (by omega) (by omega) (by omega) (by omega)) (by decide);refine bE 3 rfl (le_refl _) ?_ ?_<;>simp[e1,e2,e3,zt];rename_i hon;exact fin ⟨by omega,by omega⟩ (c2 (by omega) (by omega) (by omega) (by omega)) (by omega) (by omega) _ (by rw[if_pos hon]);rename_i hon;exact fin ⟨by omega,by omega⟩ (c2 (by omega) (by omega) (by omega) (by omega)) (by omega) (by omega) _ (by rw[if_neg (by rw[hon];decide)])
def v7(ep pg:Int):Prop:=0<=ep/\ep<=1099511627776/\0<=pg/\pg<1024
theorem sU{ws:List Int}{i:Nat}(hi:i<ws.length)(h:0<=ws.getD i 0/\ws.getD i 0<=255):aL (aG ws) i=ws.getD i 0:=by
 have e:aL (aG ws) i=(((ws.map λn=>UInt8.ofNat n.toNat).getD i 0).toNat:Int):=rfl
 have e2:(ws.map λn=>UInt8.ofNat n.toNat).getD i 0=UInt8.ofNat (ws.getD i 0).toNat:=by
  rw[bc (by simpa using hi),bc hi,List.getElem_map]
 rw[e,e2,UInt8.toNat_ofNat'];omega
theorem qC{ws:List Int}(h:∀x∈ws,0<=x/\x<=255):bx (aG ws)=ws:=by
 simp only[aG,bx,List.map_map];refine(List.map_congr_left λb hb=> ?_).trans (List.map_id ws);have:=h b hb;simp only[Function.comp,UInt8.toNat_ofNat',id];omega
theorem ad3(on:Bool)(ep pg:Int):∀x∈mkB on ep pg,0<=x/\x<=255:=by
 intro x hx;simp only[mkB,mem_append,mem_cons,List.mem_replicate,List.not_mem_nil,or_false]at hx;rcases hx with(rfl|rfl|rfl|rfl|rfl|rfl|rfl|rfl|rfl|rfl|rfl)|⟨_,rfl⟩;split<;>omega
 all_goals omega
theorem aqc(on:Bool)(ep pg:Int){i:Nat}(hi:i<64):aL (pj on ep pg) i=(mkB on ep pg).getD i 0:=by
 have hl:i<(mkB on ep pg).length:=hi;refine sU hl ?_;rw[bc hl];exact ad3 on ep pg _ (getElem_mem hl)
theorem ad4{on:Bool}{ep pg:Int}(h:v7 ep pg):zL (pj on ep pg)=on/\ab8 (pj on ep pg)=ep/\ab9 (pj on ep pg)=pg:=by
 have⟨h0,h1,h2,h3⟩:=h;have b:=λ(i:Nat) (hi:i<64)=>aqc on ep pg hi
 have e8:epN (pj on ep pg) 8=ep:=by
  simp only[epN,b 1 (by decide),b 2 (by decide),b 3 (by decide),b 4 (by decide),b 5 (by decide),b 6 (by decide),b 7 (by decide),b 8 (by decide)];show((((((((0*256+ep / 72057594037927936%256)*256+ep / 281474976710656%256)*256+ep / 1099511627776%256)*256+ep / 4294967296%256)*256+ep / 16777216%256)*256+ep / 65536%256)*256+ep / 256%256)*256+ep%256)=ep;omega
 have et:pgT (pj on ep pg)=pg:=by
  unfold pgT;rw[b 9 (by decide),b 10 (by decide)];show pg / 256%256*256+pg%256=pg;omega
 refine⟨?_, ?_, ?_⟩;unfold zL;rw[b 0 (by decide)];show((if on=true then 1 else 0:Int)==1)=on;cases on<;>rfl;unfold ab8;rw[e8,if_neg (by omega)];unfold ab9;rw[et,if_neg (by omega)]
theorem amS{th:Th}{m:As}{k:Int}{s:ByteArray}(hr:mP th k=0)(hs:cI th m (k*4)=s):iY th m k=zL s/\gf th m k=ab8 s/\mQ th m k=ab9 s:=by
 unfold iY gf mQ;rw[hr,hs,if_pos rfl,if_pos rfl];exact⟨by simp,rfl,rfl⟩
theorem lz{th:Th}{k:Int}:mP th k=0↔0<=k/\k<=1/\k<eH th:=by
 unfold mP;split;rename_i h;simp[h];rename_i h;exact⟨λh2=>absurd h2 (by decide),λh2=>absurd h2 h⟩
theorem uE{th:Th}{k:Int}(h:mP th k=0):jm th (k*4)=true:=by
 have⟨h0,h1,h2⟩:=lz.1 h;have:=pr th;exact fp.2 ⟨by omega,by omega⟩
theorem acb{th:Th}{m:As}{fu k ep pg:Int}{on:Bool}(hd:bo th m fu)(hf:fu≠0)(hk:mP th k=0)(h:v7 ep pg):
 zM th fu k on ep pg=0/\pY th fu k on ep pg=dD fu/\∀x,cI th (kB th m fu k on ep pg) x=if x=k*4 then pj on ep pg else cI th m x:=by
 have⟨h0,h1,h2,h3⟩:=h;have hc:srC th k ep pg=0:=by unfold srC;rw[hk,if_pos rfl,if_neg (by omega)]
 have cP:=uE hk;have hw:pf th fu (k*4) (pj on ep pg)=0:=ph.2 ⟨cP,mR _ _ _,hf⟩;unfold zM pY kB;rw[hc,if_pos rfl,if_pos rfl,if_pos rfl];refine⟨hw, ?_,λx=> ?_⟩;unfold uz;rw[if_pos ⟨cP,mR _ _ _⟩];rw[amE hd];by_cases hx:x=k*4;rw[if_pos ⟨hw,hx⟩,if_pos hx];rw[if_neg (λh=>hx h.2),if_neg hx]
theorem amT{th:Th}{n:Int}{ws:List Int}(hp:wD th n=true)(hw:ws.length=256):∀(j k:Nat) (m:As),k+j=4->bo th m (-1)->
 (zK th n ws j k m (-1)).2=(-1,0)/\(∀i:Nat,k<=i->i<4->cI th (zK th n ws j k m (-1)).1 (n*4+(i:Int))=iM ws i)/\
   ∀x,(∀i:Nat,k<=i->i<4->x≠n*4+(i:Int))->cI th (zK th n ws j k m (-1)).1 x=cI th m x
 |0,k,m,hk,hd=>⟨rfl,λi h1 h2=>by omega,λx _=>rfl⟩|j+1,k,m,hk,hd=>by
  have cP:=aca hp (show k<4 by omega);have hs:=aaJ hw (show k<4 by omega);have he:pf th (-1) (n*4+(k:Int)) (iM ws k)=0:=ph.2 ⟨cP,hs,by decide⟩;have hf:uz th (-1) (n*4+(k:Int)) (iM ws k)= -1:=by unfold uz;rw[if_pos ⟨cP,hs⟩];rfl
  have hd':=yj (n:=n*4+(k:Int)) (s:=iM ws k) hd;have hr:=λx=>amE (n:=n*4+(k:Int)) (x:=x) (s:=iM ws k) hd;rw[hf]at hd';have⟨h1,h2,h3⟩:=amT hp hw j (k+1) _ (by omega) hd';unfold zK;rw[if_pos he,hf];refine⟨h1,λi hi hi4=> ?_,λx hx=> ?_⟩;by_cases e:i=k;subst e;rw[h3 _ (λi' a b=>by omega),hr,if_pos ⟨he,rfl⟩];exact h2 i (by omega) hi4;rw[h3 x (λi a b=>hx i (by omega) b),hr,if_neg (λh=>hx k (le_refl _) (by omega) h.2)]
theorem aaK{th dV:Th}{m m':As}{n:Int}:∀k:Nat,(∀i:Nat,i<k->cI th m (n*4+(i:Int))=cI dV m' (n*4+(i:Int)))->pgL th m n k=pgL dV m' n k
 |0,_=>rfl|k+1,h=>by rw[pgL,pgL,aaK k (λi hi=>h i (by omega)),h k (by omega)]
theorem ad5{th dV:Th}{m m':As}{n:Int}(hl:dV.length=th.length)(h:∀i:Nat,i<4->cI th m (n*4+(i:Int))=cI dV m' (n*4+(i:Int))):
 gO dV m' n=gO th m n/\fN dV m' n=fN th m n:=by
 have e:pgA dV m' n=pgA th m n:=(aaK 4 h).symm;have ep:wD dV n=wD th n:=by unfold wD eH;rw[hl]
 have eg:gO dV m' n=gO th m n:=by unfold gO;rw[e,ep]
 exact⟨eg,by unfold fN;rw[eg,e]⟩
theorem auS{th:Th}{m:As}{n:Int}{s:ByteArray}(hp:wD th n=true)(hs:s.size<=254)(h:pgA th m n=pgB s):gO th m n=0/\fN th m n=s:=by
 have hl:sQ (pgB s)=(s.size:Int):=by
  unfold sQ pgB;show(s.size:Int) / 256*256+(s.size:Int)%256=s.size;omega
 have e:gO th m n=0:=by unfold gO;rw[if_pos hp,h,hl,if_neg (by omega)]
 refine⟨e, ?_⟩;unfold fN;rw[if_pos e,h,hl,toNat_natCast];unfold pgB;show aG ((bx s++replicate (254 - s.size) 0).take s.size)=s;rw[List.take_append_of_le_length (by rw[gl];exact le_refl _),take_of_length_le (by rw[gl];exact le_refl _),qA]
theorem amU{ws:List Int}(hw:ws.length=256)(hb:∀x∈ws,0<=x/\x<=255):bx (iM ws 0)++bx (iM ws 1)++bx (iM ws 2)++bx (iM ws 3)=ws:=by
 have e:∀k,bx (iM ws k)=(ws.drop (64*k)).take 64:=λk=>qC λx hx=>hb x (List.mem_of_mem_drop (List.mem_of_mem_take hx));rw[e,e,e,e];have h3:(ws.drop (64*3)).take 64=ws.drop 192:=take_of_length_le (by rw[length_drop];omega);rw[h3];have d:∀k,(ws.drop k).take 64++ws.drop (k+64)=ws.drop k:=λk=>by rw[<-List.drop_drop,List.take_append_drop]
 have d2:=d 128;have d1:=d 64;have d0:=d 0;simp only[append_assoc];rw[show 64*2=128 from rfl,d2,show 64*1=64 from rfl,d1,show 64*0=0 from rfl,d0];rfl
end Ds
namespace Lf
open Go Go.Sx Go.Proofs
noncomputable abbrev P:Program:=Tryz.prog
theorem mixed:P.follows .mixedOrders=true:=by kernel_rfl
abbrev bJ:Ty:=.b (.int .i64)
abbrev dh:Ty:=.b .bool
abbrev eX:Ty:=.b .str
abbrev ad6:Ty:=.b (.row (.ah .i64) 3)
abbrev cE:List CK:=[.str,.str]
abbrev cB:List CK:=[.str,.int .i64]
abbrev En:Type:=ByteArray×ByteArray×Unit
abbrev Br:Type:=ByteArray×Int×Unit
abbrev eE:TypeId:=66
abbrev eB:TypeId:=137
abbrev sV:Ty:=.b (.row (.au cE) eE)
abbrev zN:Ty:=.b (.row (.au cB) eB)
abbrev fq:Ty:=.st [.bool,.row (.au cE) eE,.row (.au cB) eB]
abbrev avN(l:Bool)(es:List En)(bs:List Br):AV:=.agg [.s (.bool l),.s (.ro (.au cE es)),.s (.ro (.au cB bs))]
abbrev obN(l:Bool)(es:List En)(bs:List Br)(t:TypeId):ak:=.aq [.s (.bool l),.s (.ro (.au cE es)),.s (.ro (.au cB bs))] t
theorem go{Z:bm}{X:Ctx}{t:aM}{f:FuncId}{fn:Func}{ns:List (Nat×Norm)}{c:bP}{tr:Tree}{K:List ak->AV->Prop}(hz:eb Z X)(hX:∀id,X.H id=none)(hT:t.Ok P Z)(hf:P.funcs[f]? =some fn)
 (e:run P t.sum fn ns c=tr) (h:tr.Holds K (Safe P f X K)):Safe P f X K c:=cV (aM.sOk hT) hz mixed hf (λ_ _ id _=>hX id) e h
def dE:En:=(empty,empty,())
def dB:Br:=(empty,0,())
def okE(es:List En)(i:Nat):Bool:= !(decide ((es.getD i dE).1=empty)||decide (((es.getD i dE).1.size:Int)>24)||decide (((es.getD i dE).2.1.size:Int)>100)||(decide (0<i)&& !slt (es.getD (i - 1) dE).1 (es.getD i dE).1))
def okB(bs:List Br)(i:Nat):Bool:= !(decide (((bs.getD i dB).1.size:Int)>24)||decide ((bs.getD i dB).2.1<2)||decide ((bs.getD i dB).2.1>=1024)||(decide (0<i)&& !slt (bs.getD (i - 1) dB).1 (bs.getD i dB).1))
def kC(es:List En):Bool:=(List.range es.length).all (okE es)
def ir(bs:List Br):Bool:=(List.range bs.length).all (okB bs)
def dF(l:Bool)(es:List En)(bs:List Br):Bool:= !((l&&decide ((bs.length:Int)>0))||(!l&&decide ((es.length:Int)>0)))&&kC es&&ir bs
def iq:aM:=[]
def amV:List (Nat×Norm):=[(4,⟨[],[1,27,28,29],0,[]⟩),(10,⟨[],[1,67,68,69],0,[]⟩)]
noncomputable def vK(l:Bool)(es:List En)(bs:List Br)(i:Int):bP:=⟨sl 105 [(1,.ptr 0 0),(27,.s (.ro (.au cE es))),(28,.s (.int .i64 (es.length:Int))),(29,.s (.int .i64 i))],[obN l es bs 131],hd f166 4,{}⟩
noncomputable def ad7(l:Bool)(es:List En)(bs:List Br)(i:Int):bP:=⟨sl 105 [(1,.ptr 0 0),(67,.s (.ro (.au cB bs))),(68,.s (.int .i64 (bs.length:Int))),(69,.s (.int .i64 i))],[obN l es bs 131],hd f166 10,{}⟩
theorem aqd(l:Bool)(es:List En)(bs:List Br):run P iq.sum f166 amV (start f166 [avN l es bs] [])=
 Tree.ite l (.ite (decide ((↑bs.length:Int)>0)) (.ret [.aq [.s (.bool l),.s (.ro (.au cE es)),.s (.ro (.au cB bs))] 131] (.s (.aK false))) (.ite (!l) (.ite (decide ((↑es.length:Int)>0)) (.ret [.aq [.s (.bool l),.s (.ro (.au cE es)),.s (.ro (.au cB bs))] 131] (.s (.aK false))) (.at (vK l es bs 0))) (.at (vK l es bs 0)))) (.ite (!l) (.ite (decide ((↑es.length:Int)>0)) (.ret [.aq [.s (.bool l),.s (.ro (.au cE es)),.s (.ro (.au cB bs))] 131] (.s (.aK false))) (.at (vK l es bs 0))) (.at (vK l es bs 0))):=by kernel_rfl
theorem ad8(l:Bool)(es:List En)(bs:List Br)(i:Int):run P iq.sum f166 amV (vK l es bs i)=
 Tree.ite (decide (i<es.length)) (.ab ((0:Int)<=i) (.ab (i<es.length) (.ite (decide ((es.getD i.toNat (CL.d cE)).fst=empty)) (.ret [.aq [.s (.bool l),.s (.ro (.au cE es)),.s (.ro (.au cB bs))] 131,.aq [.s (.str (es.getD i.toNat (CL.d cE)).fst),.s (.str (es.getD i.toNat (CL.d cE)).snd.fst)] 66] (.s (.aK false))) (.ite (decide ((↑(ByteArray.size (es.getD i.toNat (CL.d cE)).fst):Int)>24)) (.ret [.aq [.s (.bool l),.s (.ro (.au cE es)),.s (.ro (.au cB bs))] 131,.aq [.s (.str (es.getD i.toNat (CL.d cE)).fst),.s (.str (es.getD i.toNat (CL.d cE)).snd.fst)] 66] (.s (.aK false))) (.ite (decide ((↑(ByteArray.size (es.getD i.toNat (CL.d cE)).snd.fst):Int)>100)) (.ret [.aq [.s (.bool l),.s (.ro (.au cE es)),.s (.ro (.au cB bs))] 131,.aq [.s (.str (es.getD i.toNat (CL.d cE)).fst),.s (.str (es.getD i.toNat (CL.d cE)).snd.fst)] 66] (.s (.aK false))) (.ite (decide (i>0)) (.ab (aB (i - (1:Int))) (.ab ((0:Int)<=i - (1:Int)) (.ab (i - (1:Int)<(↑es.length:Int)) (.ite (!slt (es.getD (i - (1:Int)).toNat (CL.d cE)).fst (es.getD i.toNat (CL.d cE)).fst) (.ret [.aq [.s (.bool l),.s (.ro (.au cE es)),.s (.ro (.au cB bs))] 131,.aq [.s (.str (es.getD i.toNat (CL.d cE)).fst),.s (.str (es.getD i.toNat (CL.d cE)).snd.fst)] 66] (.s (.aK false))) (.ab (aB (i+1)) (.at (vK l es bs (i+1)))))))) (.ab (aB (i+1)) (.at (vK l es bs (i+1)))))))))) (.at (ad7 l es bs 0)):=by kernel_rfl
theorem ad9(l:Bool)(es:List En)(bs:List Br)(i:Int):run P iq.sum f166 amV (ad7 l es bs i)=
 Tree.ite (decide (i<bs.length)) (.ab ((0:Int)<=i) (.ab (i<bs.length) (.ite (decide ((↑(ByteArray.size (bs.getD i.toNat (CL.d cB)).fst):Int)>24)) (.ret [.aq [.s (.bool l),.s (.ro (.au cE es)),.s (.ro (.au cB bs))] 131,.aq [.s (.str (bs.getD i.toNat (CL.d cB)).fst),.s (.int .i64 (bs.getD i.toNat (CL.d cB)).snd.fst)] 137] (.s (.aK false))) (.ite (decide ((bs.getD i.toNat (CL.d cB)).snd.fst<2)) (.ret [.aq [.s (.bool l),.s (.ro (.au cE es)),.s (.ro (.au cB bs))] 131,.aq [.s (.str (bs.getD i.toNat (CL.d cB)).fst),.s (.int .i64 (bs.getD i.toNat (CL.d cB)).snd.fst)] 137] (.s (.aK false))) (.ite (decide ((bs.getD i.toNat (CL.d cB)).snd.fst>=1024)) (.ret [.aq [.s (.bool l),.s (.ro (.au cE es)),.s (.ro (.au cB bs))] 131,.aq [.s (.str (bs.getD i.toNat (CL.d cB)).fst),.s (.int .i64 (bs.getD i.toNat (CL.d cB)).snd.fst)] 137] (.s (.aK false))) (.ite (decide (i>0)) (.ab (aB (i - (1:Int))) (.ab ((0:Int)<=i - (1:Int)) (.ab (i - (1:Int)<(↑bs.length:Int)) (.ite (!slt (bs.getD (i - (1:Int)).toNat (CL.d cB)).fst (bs.getD i.toNat (CL.d cB)).fst) (.ret [.aq [.s (.bool l),.s (.ro (.au cE es)),.s (.ro (.au cB bs))] 131,.aq [.s (.str (bs.getD i.toNat (CL.d cB)).fst),.s (.int .i64 (bs.getD i.toNat (CL.d cB)).snd.fst)] 137] (.s (.aK false))) (.ab (aB (i+1)) (.at (ad7 l es bs (i+1)))))))) (.ab (aB (i+1)) (.at (ad7 l es bs (i+1)))))))))) (.ret [.aq [.s (.bool l),.s (.ro (.au cE es)),.s (.ro (.au cB bs))] 131] (.s (.aK true))):=by kernel_rfl
theorem agB{Z:bm}:dG P Z 166 [fq] [dh] (λ_=>[]) (λ((l,es,bs,()),())=>(dF l es bs,())):=by
 refine aI func166 (by kernel_rfl) (by kernel_rfl) ?_;rintro⟨⟨(l:Bool),(es:List En),(bs:List Br),⟨⟩⟩,⟨⟩⟩ ⟨⟨_,hle,hlb,_⟩,_⟩ _ X hX hz;have hle:es.length<=9223372036854775807:=hle;have hlb:bs.length<=9223372036854775807:=hlb
 have second:kC es=true->dF l es bs=ir bs->∀(n k:Nat),k+n=bs.length->(∀j,j<k->okB bs j=true)->Safe P 166 X (Ends [dh] (dF l es bs,())) (ad7 l es bs (k:Int)):=by
  intro he hm n
  induction n with
  |zero=>
   intro k hk hp;refine go hz hX aM.Ok.nil func166 (ad9 l es bs k) ⟨λh=>absurd (of_decide_eq_true h) (by omega),λh=>gb ?_⟩;rw[hm];exact ah5 (λj hj=>hp j (by omega))
  |succ n ih=>
   intro k hk hp;have no:okB bs k=false->dF l es bs=false:=λh=>by rw[hm];exact amr (by omega) h
   refine go hz hX aM.Ok.nil func166 (ad9 l es bs k) ⟨λh=>⟨by omega,by omega, ?_⟩,λh=>absurd (of_decide_eq_false h) (by omega)⟩;simp only[toNat_natCast];refine⟨λh1=>gb (no ?_),λh1=>⟨λh2=>gb (no ?_),λh2=>⟨λh3=>gb (no ?_),λh3=>⟨λh4=> ?_,λh4=>⟨⟨by omega,by omega⟩, ?_⟩⟩⟩⟩⟩;show(!(decide (((bs.getD k dB).1.size:Int)>24)||_||_||_))=false;rw[show decide (((bs.getD k dB).1.size:Int)>24)=true from h1];rfl;show(!(_||decide ((bs.getD k dB).2.1<2)||_||_))=false;rw[show decide ((bs.getD k dB).2.1<2)=true from h2];simp;show(!(_||_||decide ((bs.getD k dB).2.1>=1024)||_))=false;rw[show decide ((bs.getD k dB).2.1>=1024)=true from h3];simp;have h0:(k:Int)>0:=of_decide_eq_true h4;rw[show((k:Int) - 1).toNat=k - 1 from by omega];refine⟨⟨by omega,by omega⟩,by omega,by omega,λh5=>gb (no ?_),λh5=>⟨⟨by omega,by omega⟩,ih (k+1) (by omega) (λj hj=> ?_)⟩⟩;show(!(_||_||_||(decide (0<k)&& !slt (bs.getD (k - 1) dB).1 (bs.getD k dB).1)))=false;rw[show(!slt (bs.getD (k - 1) dB).1 (bs.getD k dB).1)=true from h5,show decide (0<k)=true from decide_eq_true (by omega)];simp;by_cases wv:j=k;subst wv;show(!(decide (((bs.getD j dB).1.size:Int)>24)||decide ((bs.getD j dB).2.1<2)||decide ((bs.getD j dB).2.1>=1024)||(decide (0<j)&& !slt (bs.getD (j - 1) dB).1 (bs.getD j dB).1)))=true;rw[show(!slt (bs.getD (j - 1) dB).1 (bs.getD j dB).1)=false from h5,show decide ((bs.getD j dB).2.1>=1024)=false from h3,show decide ((bs.getD j dB).2.1<2)=false from h2,show decide (((bs.getD j dB).1.size:Int)>24)=false from h1];simp;exact hp j (by omega);have h0:¬(k:Int)>0:=of_decide_eq_false h4;refine ih (k+1) (by omega) (λj hj=> ?_);by_cases wv:j=k;subst wv;show(!(decide (((bs.getD j dB).1.size:Int)>24)||decide ((bs.getD j dB).2.1<2)||decide ((bs.getD j dB).2.1>=1024)||(decide (0<j)&& !slt (bs.getD (j - 1) dB).1 (bs.getD j dB).1)))=true;rw[show decide ((bs.getD j dB).2.1>=1024)=false from h3,show decide ((bs.getD j dB).2.1<2)=false from h2,show decide (((bs.getD j dB).1.size:Int)>24)=false from h1,decide_eq_false (by omega)];rfl;exact hp j (by omega)
 have first:dF l es bs=(kC es&&ir bs)->∀(n k:Nat),k+n=es.length->(∀j,j<k->okE es j=true)->Safe P 166 X (Ends [dh] (dF l es bs,())) (vK l es bs (k:Int)):=by
  intro hm n
  induction n with
  |zero=>
   intro k hk hp;have he:kC es=true:=ah5 (λj hj=>hp j (by omega));exact go hz hX aM.Ok.nil func166 (ad8 l es bs k) ⟨λh=>absurd (of_decide_eq_true h) (by omega),λh=>second he (by rw[hm,he];rfl) bs.length 0 (by omega) (λj hj=>by omega)⟩
  |succ n ih=>
   intro k hk hp;have no:okE es k=false->dF l es bs=false:=λh=>by rw[hm,show kC es=false from amr (by omega) h];rfl
   refine go hz hX aM.Ok.nil func166 (ad8 l es bs k) ⟨λh=>⟨by omega,by omega, ?_⟩,λh=>absurd (of_decide_eq_false h) (by omega)⟩;simp only[toNat_natCast];refine⟨λh1=>gb (no ?_),λh1=>⟨λh2=>gb (no ?_),λh2=>⟨λh3=>gb (no ?_),λh3=>⟨λh4=> ?_,λh4=>⟨⟨by omega,by omega⟩, ?_⟩⟩⟩⟩⟩;show(!(decide ((es.getD k dE).1=empty)||_||_||_))=false;rw[show decide ((es.getD k dE).1=empty)=true from h1];rfl;show(!(_||decide (((es.getD k dE).1.size:Int)>24)||_||_))=false;rw[show decide (((es.getD k dE).1.size:Int)>24)=true from h2];simp;show(!(_||_||decide (((es.getD k dE).2.1.size:Int)>100)||_))=false;rw[show decide (((es.getD k dE).2.1.size:Int)>100)=true from h3];simp;have h0:(k:Int)>0:=of_decide_eq_true h4;rw[show((k:Int) - 1).toNat=k - 1 from by omega];refine⟨⟨by omega,by omega⟩,by omega,by omega,λh5=>gb (no ?_),λh5=>⟨⟨by omega,by omega⟩,ih (k+1) (by omega) (λj hj=> ?_)⟩⟩;show(!(_||_||_||(decide (0<k)&& !slt (es.getD (k - 1) dE).1 (es.getD k dE).1)))=false;rw[show(!slt (es.getD (k - 1) dE).1 (es.getD k dE).1)=true from h5,show decide (0<k)=true from decide_eq_true (by omega)];simp;by_cases wv:j=k;subst wv;show(!(decide ((es.getD j dE).1=empty)||decide (((es.getD j dE).1.size:Int)>24)||decide (((es.getD j dE).2.1.size:Int)>100)||(decide (0<j)&& !slt (es.getD (j - 1) dE).1 (es.getD j dE).1)))=true;rw[show(!slt (es.getD (j - 1) dE).1 (es.getD j dE).1)=false from h5,show decide (((es.getD j dE).2.1.size:Int)>100)=false from h3,show decide (((es.getD j dE).1.size:Int)>24)=false from h2,show decide ((es.getD j dE).1=empty)=false from h1];simp;exact hp j (by omega);have h0:¬(k:Int)>0:=of_decide_eq_false h4;refine ih (k+1) (by omega) (λj hj=> ?_);by_cases wv:j=k;subst wv;show(!(decide ((es.getD j dE).1=empty)||decide (((es.getD j dE).1.size:Int)>24)||decide (((es.getD j dE).2.1.size:Int)>100)||(decide (0<j)&& !slt (es.getD (j - 1) dE).1 (es.getD j dE).1)))=true;rw[show decide (((es.getD j dE).2.1.size:Int)>100)=false from h3,show decide (((es.getD j dE).1.size:Int)>24)=false from h2,show decide ((es.getD j dE).1=empty)=false from h1,decide_eq_false (by omega)];rfl;exact hp j (by omega)
 refine go hz hX aM.Ok.nil func166 (aqd l es bs) ⟨λhl=>⟨λh1=>gb ?_,λh1=>⟨λh2=> ?_,λh2=>first ?_ es.length 0 (by omega) (λj hj=>by omega)⟩⟩,λhl=>⟨λh1=>⟨λh2=>gb ?_,λh2=>first ?_ es.length 0 (by omega) (λj hj=>by omega)⟩,λh1=> ?_⟩⟩;show(!((l&&decide ((bs.length:Int)>0))||_)&&_&&_)=false;rw[hl,h1];rfl;subst hl;cases h2;show(!((l&&decide ((bs.length:Int)>0))||(!l&&_))&&_&&_)=_;rw[hl,h1];rfl;show(!((l&&_)||(!l&&decide ((es.length:Int)>0)))&&_&&_)=false;rw[hl,h2];rfl;show(!((l&&_)||(!l&&decide ((es.length:Int)>0)))&&_&&_)=_;rw[hl,h2];rfl;subst hl;cases h1
theorem ij{α:Type}{l:List α}{k:Nat}{d:α}(h:k<l.length):l.take k++[l.getD k d]=l.take (k+1):=by
 rw[bc h,List.take_succ_eq_append_getElem h]
abbrev as0:=sumOf [eX,eX] [bJ] (λ_=>[]) (λ(a,b,())=>(nB a b,()))
def auT:aM:=[(167,as0)]
def aia:aM:=[(128,as0)]
theorem aqe(a b:ByteArray):run P auT.sum f128 [] (start f128 [.s (.str a),.s (.str b)] [])=
 Tree.ret [] (.s (.int .i64 (nB a b))):=by kernel_rfl
theorem agC(x:Br)(b:ByteArray):run P aia.sum f127 [] (start f127 [.agg [.s (.str x.1),.s (.int .i64 x.2.1)],.s (.str b)] [])=
 Tree.ret [.aq [.s (.str x.fst),.s (.int .i64 x.snd.fst)] 137] (.s (.int .i64 (nB x.fst b))):=by kernel_rfl
theorem aea(x:En)(b:ByteArray):run P aia.sum f152 [] (start f152 [.agg [.s (.str x.1),.s (.str x.2.1)],.s (.str b)] [])=
 Tree.ret [.aq [.s (.str x.fst),.s (.str x.snd.fst)] 66] (.s (.int .i64 (nB x.fst b))):=by kernel_rfl
set_option maxHeartbeats 1000000 in
set_option maxRecDepth 100000 in
theorem acd(a b:ByteArray)(w:World):Calls P 167 #[.string a,.string b] w λe w'=>e=.returned (.int .i64 (nB a b))/\w'=w:=by
 have mixed:=mixed;have t3:=Tryz.underlying3;have t9:=Tryz.underlying9;have u3:=run_underlying t3;have u9:=run_underlying t9
 go_enter func167,Tryz.ntmps167
 go_wp2
 rw[run_callFunc_extern func190 (by kernel_rfl) (by kernel_rfl) (by kernel_rfl) (e:=Extern.BytealgCompare.compare) (by kernel_rfl),Lib.run_compareString];simp only[Result.andThen];rw[Oper.upon_value]
 go_wp2
 go_ret
 exact⟨rfl,rfl⟩
theorem aqf{Z:bm}:dG P Z 167 [eX,eX] [bJ] (λ_=>[]) (λ(a,b,())=>(nB a b,())):=by
 rintro⟨(a:ByteArray),(b:ByteArray),⟨⟩⟩ _ _ G w vs hG hz hd;obtain⟨v,rest,rfl,h1,h2⟩:=aE.1 hd;obtain⟨u,rest,rfl,h3,h4⟩:=aE.1 h2;obtain rfl:=ba.1 h4;obtain rfl:=fJ h1;obtain rfl:=fJ h3;refine(acd a b w).mono ?_;rintro e w' ⟨rfl,rfl⟩;refine⟨_,rfl,Good.val ⟨λid o ho=>by simp at ho,λi j oi oj b hi=>by simp at hi,λb hb=> ?_,hG⟩ ?_⟩;have⟨id,o,ho,_⟩:=hb;cases ho;exact aF (.int .i64 _)
theorem amW{Z:bm}:dG P Z 128 [eX,eX] [bJ] (λ_=>[]) (λ(a,b,())=>(nB a b,())):=by
 refine aI func128 (by kernel_rfl) (by kernel_rfl) ?_;rintro⟨(a:ByteArray),(b:ByteArray),⟨⟩⟩ _ _ X hX hz;exact go hz hX (aM.Ok.cons aqf.sum aM.Ok.nil) func128 (aqe a b) ab1
abbrev tBr:Ty:=.st [.str,.int .i64]
abbrev tEn:Ty:=.st [.str,.str]
theorem ako{Z:bm}:dG P Z 127 [tBr,eX] [bJ] (λ_=>[]) (λ((a,_,()),b,())=>(nB a b,())):=by
 refine aI func127 (by kernel_rfl) (by kernel_rfl) ?_;rintro⟨⟨(a:ByteArray),(n:Int),⟨⟩⟩,(b:ByteArray),⟨⟩⟩ _ _ X hX hz;exact go hz hX (aM.Ok.cons amW.sum aM.Ok.nil) func127 (agC (a,n,()) b) ab1
theorem agD{Z:bm}:dG P Z 152 [tEn,eX] [bJ] (λ_=>[]) (λ((a,_,()),b,())=>(nB a b,())):=by
 refine aI func152 (by kernel_rfl) (by kernel_rfl) ?_;rintro⟨⟨(a:ByteArray),(n:ByteArray),⟨⟩⟩,(b:ByteArray),⟨⟩⟩ _ _ X hX hz;exact go hz hX (aM.Ok.cons amW.sum aM.Ok.nil) func152 (aea (a,n,()) b) ab1
abbrev azS:=sumOf [tBr,eX] [bJ] (λ_=>[]) (λ((a,_,()),b,())=>(nB a b,()))
abbrev azT:=sumOf [tEn,eX] [bJ] (λ_=>[]) (λ((a,_,()),b,())=>(nB a b,()))
def aeb:aM:=[(127,azS)
 ,(152,azT)
 ]
def aqg:List (Nat×Norm):=[(3,⟨[],[0,1,2,8,9,10],0,[]⟩)]
noncomputable def amX(bs:List Br)(key:ByteArray)(i j:Int):bP:=⟨sl 49 [(0,.s (.ro (.au cB bs))),(1,.s (.str key)),(2,.s (.rK 127)),(8,.s (.int .i64 (bs.length:Int))),(9,.s (.int .i64 i)),(10,.s (.int .i64 j))],[],hd f126 3,{}⟩
noncomputable def amY(bs:List En)(key:ByteArray)(i j:Int):bP:=⟨sl 49 [(0,.s (.ro (.au cE bs))),(1,.s (.str key)),(2,.s (.rK 152)),(8,.s (.int .i64 (bs.length:Int))),(9,.s (.int .i64 i)),(10,.s (.int .i64 j))],[],hd f151 3,{}⟩
abbrev akp(x:Br):ByteArray:=x.1
abbrev rj(x:En):ByteArray:=x.1
abbrev nQ(l:List Br):List ByteArray:=l.map akp
abbrev bT(l:List En):List ByteArray:=l.map rj
theorem aqh(bs:List Br)(key:ByteArray):run P aeb.sum f126 aqg (start f126 [.s (.ro (.au cB bs)),.s (.str key),.s (.rK 127)] [])=
 Tree.at (amX bs key 0 (↑bs.length:Int)):=by kernel_rfl
theorem aib(bs:List Br)(key:ByteArray)(i j:Int):run P aeb.sum f126 aqg (amX bs key i j)=
 Tree.ite (decide (i<j)) (Tree.ab (aB (i+j)) (Tree.ab ((0:Int)≤(1:Int)) (Tree.ab ((0:Int)≤i64.wrap ((u64.wrap (i+j)).fdiv ((2:Int)^min (Int.toNat (1:Int)) u64.bits))) (Tree.ab (i64.wrap ((u64.wrap (i+j)).fdiv ((2:Int)^min (Int.toNat (1:Int)) u64.bits))<(↑bs.length:Int)) (Tree.ite (decide (nB (bs.getD (i64.wrap ((u64.wrap (i+j)).fdiv ((2:Int)^min (Int.toNat (1:Int)) u64.bits))).toNat (CL.d [CK.str,CK.int i64])).fst key<(0:Int))) (Tree.ab (aB (i64.wrap ((u64.wrap (i+j)).fdiv ((2:Int)^min (Int.toNat (1:Int)) u64.bits))+(1:Int))) (Tree.at (amX bs key (i64.wrap ((u64.wrap (i+j)).fdiv ((2:Int)^min (Int.toNat (1:Int)) u64.bits))+(1:Int)) j))) (Tree.at (amX bs key i (i64.wrap ((u64.wrap (i+j)).fdiv ((2:Int)^min (Int.toNat (1:Int)) u64.bits)))))))))) (Tree.ite (decide (i<(↑bs.length:Int))) (Tree.ab ((0:Int)≤i) (Tree.ab (i<(↑bs.length:Int)) (Tree.ret [] (AV.bt [AV.s (SV.int i64 i),AV.s (SV.bool (nB (bs.getD i.toNat (CL.d [CK.str,CK.int i64])).fst key==(0:Int)))])))) (Tree.ret [] (AV.bt [AV.s (SV.int i64 i),AV.s (SV.aK false)]))):=by kernel_rfl
theorem aqi(bs:List En)(key:ByteArray):run P aeb.sum f151 aqg (start f151 [.s (.ro (.au cE bs)),.s (.str key),.s (.rK 152)] [])=
 Tree.at (amY bs key 0 (↑bs.length:Int)):=by kernel_rfl
theorem aic(bs:List En)(key:ByteArray)(i j:Int):run P aeb.sum f151 aqg (amY bs key i j)=
 Tree.ite (decide (i<j)) (Tree.ab (aB (i+j)) (Tree.ab ((0:Int)≤(1:Int)) (Tree.ab ((0:Int)≤i64.wrap ((u64.wrap (i+j)).fdiv ((2:Int)^min (Int.toNat (1:Int)) u64.bits))) (Tree.ab (i64.wrap ((u64.wrap (i+j)).fdiv ((2:Int)^min (Int.toNat (1:Int)) u64.bits))<(↑bs.length:Int)) (Tree.ite (decide (nB (bs.getD (i64.wrap ((u64.wrap (i+j)).fdiv ((2:Int)^min (Int.toNat (1:Int)) u64.bits))).toNat (CL.d [CK.str,CK.str])).fst key<(0:Int))) (Tree.ab (aB (i64.wrap ((u64.wrap (i+j)).fdiv ((2:Int)^min (Int.toNat (1:Int)) u64.bits))+(1:Int))) (Tree.at (amY bs key (i64.wrap ((u64.wrap (i+j)).fdiv ((2:Int)^min (Int.toNat (1:Int)) u64.bits))+(1:Int)) j))) (Tree.at (amY bs key i (i64.wrap ((u64.wrap (i+j)).fdiv ((2:Int)^min (Int.toNat (1:Int)) u64.bits)))))))))) (Tree.ite (decide (i<(↑bs.length:Int))) (Tree.ab ((0:Int)≤i) (Tree.ab (i<(↑bs.length:Int)) (Tree.ret [] (AV.bt [AV.s (SV.int i64 i),AV.s (SV.bool (nB (bs.getD i.toNat (CL.d [CK.str,CK.str])).fst key==(0:Int)))])))) (Tree.ret [] (AV.bt [AV.s (SV.int i64 i),AV.s (SV.aK false)]))):=by kernel_rfl
def cY(ks:List ByteArray)(key:ByteArray):Nat:=(ks.takeWhile (λk=>slt k key)).length
def kg(ks:List ByteArray)(key:ByteArray):Bool:=decide (ks[cY ks key]? =some key)
def jo(ks:List ByteArray):Prop:=∀i j,i<j->j<ks.length->slt (ks.getD i empty) (ks.getD j empty)=true
theorem dc{α:Type}(l:List α)(f:α->ByteArray)(d:α)(t:Nat)(hd:f d=empty:=by rfl):(l.map f).getD t empty=f (l.getD t d):=by
 simp only[List.getD,getElem?_map];cases l[t]? with
 |none=>exact hd.symm|some x=>rfl
theorem agE:∀{ks:List ByteArray} {key:ByteArray} {i:Nat},i<=ks.length->(∀t,t<i->slt (ks.getD t empty) key=true)->(i<ks.length->slt (ks.getD i empty) key=false)->cY ks key=i
 |[],key,i,h,_,_=>by
  simp only[length_nil,Nat.le_zero]at h;subst h;rfl
 |k::ks,key,0,h,_,h2=>by
  have:=h2 (by simp);simp only[List.getD_cons_zero]at this;simp[cY,List.takeWhile,this]
 |k::ks,key,i+1,h,h1,h2=>by
  have h0:=h1 0 (by omega);simp only[List.getD_cons_zero]at h0;have:=agE (ks:=ks) (key:=key) (i:=i) (by simpa using h) (λt ht=>by simpa using h1 (t+1) (by omega)) (λhi=>by simpa using h2 (by simpa using hi));simp only[cY]at this ⊢;simp[List.takeWhile,h0,this]
theorem ym(n:Int):(n==0)=decide (n=0):=by
 by_cases h:n=0<;>simp[h]
theorem amZ{s:Int}(h0:0<=s)(h1:s<9223372036854775808):(u64.wrap s).fdiv (2^min (Int.toNat 1) u64.bits)=s / 2:=by
 have e1:u64.wrap s=s:=by
  show s%18446744073709551616=s;omega
 rw[e1];show s.fdiv 2=s / 2;rw[Int.fdiv_eq_ediv_of_nonneg _ (by omega)]
theorem mS{Z:bm}:aeb.Ok P Z:=aM.Ok.cons ako.sum (
 aM.Ok.cons agD.sum
 aM.Ok.nil)
theorem auU{Z:bm}:dG P Z 126 [zN,eX,.b .fn] [bJ,dh] (λ(l,_,f,())=>[(f:Nat)=127,(l:List Br).length<=1000000,jo (nQ l)]) (λ(l,key,_,())=>((cY (nQ l) key:Nat),kg (nQ l) key,())):=by
 refine aI func126 (by kernel_rfl) (by kernel_rfl) ?_;rintro⟨(l:List Br),(key:ByteArray),(f:Nat),⟨⟩⟩ _ ⟨(hf:f=127),(hl:l.length<=1000000),(hs:jo (nQ l)),_⟩ X hX hz;subst hf;have hk:∀t,(nQ l).getD t empty=(l.getD t dB).1:=λt=>dc l akp dB t;have hn:(nQ l).length=l.length:=length_map _;have loop:∀(n i j:Nat),j - i<=n->i<=j->j<=l.length->(∀t,t<i->slt (l.getD t dB).1 key=true)->(∀t,j<=t->t<l.length->slt (l.getD t dB).1 key=false)->
  Safe P 126 X (Ends [bJ,dh] ((cY (nQ l) key:Nat),kg (nQ l) key,())) (amX l key (i:Int) (j:Int)):=by
  intro n
  induction n with
  |zero=>
   intro i j h1 h2 h3 h4 h5;have hlb:cY (nQ l) key=i:=agE (by rw[hn];omega) (λt ht=>by rw[hk];exact h4 t ht) (λh=>by rw[hn]at h;rw[hk];exact h5 i (by omega) h);refine go hz hX mS func126 (aib l key i j) ⟨λh=>absurd (of_decide_eq_true h) (by omega),λh=>⟨λh6=>⟨by omega,of_decide_eq_true h6, ?_⟩,λh6=> ?_⟩⟩;have h7:i<l.length:=by have:=of_decide_eq_true h6;omega
   simp only[toNat_natCast];rw[kg,hlb];refine bg ((i:Int),nB (l.getD i dB).1 key==0,()) ?_ (by kernel_rfl);congr 2;rw[getElem?_map,getElem?_eq_getElem h7,bc h7];simp only[map_some,Option.some.injEq];rw[ym,decide_eq_decide.2 (ah6 _ _)];have h7:¬i<l.length:=by have:=of_decide_eq_false h6;omega
   rw[kg,hlb];refine bg ((i:Int),false,()) ?_ (by kernel_rfl);congr 2;rw[getElem?_map,getElem?_eq_none (Nat.le_of_not_lt h7)];rfl
  |succ n ih=>
   intro i j h1 h2 h3 h4 h5;by_cases lR:i<j;have e:=amZ (s:=(i:Int)+(j:Int)) (by omega) (by omega);have e2:((i:Int)+(j:Int)) / 2=((i+j) / 2:Nat):=by omega
   refine go hz hX mS func126 (aib l key i j) ?_;have e3:i64.wrap (((i+j) / 2:Nat):Int)=(((i+j) / 2:Nat):Int):=cu ⟨by omega,by omega⟩;rw[e,e2,e3];simp only[toNat_natCast];refine⟨λh=>⟨⟨by omega,by omega⟩,by decide,by omega,by omega,λh6=>⟨⟨by omega,by omega⟩, ?_⟩,λh6=> ?_⟩,λh=>absurd (of_decide_eq_false h) (by omega)⟩;have h7:slt (l.getD ((i+j) / 2) dB).1 key=true:=(wC _ _).1 (of_decide_eq_true h6);refine ih ((i+j) / 2+1) j (by omega) (by omega) h3 (λt ht=> ?_) h5;by_cases hte:t=(i+j) / 2;rw[hte];exact h7;have:=hs t ((i+j) / 2) (by omega) (by omega);rw[hk,hk]at this;exact cW this h7
   have h7:slt (l.getD ((i+j) / 2) dB).1 key=false:=by
    cases h8:slt (l.getD ((i+j) / 2) dB).1 key;rfl;exact absurd ((wC _ _).2 h8) (of_decide_eq_false h6)
   refine ih i ((i+j) / 2) (by omega) (by omega) (by omega) h4 (λt ht htl=> ?_);by_cases hte:t=(i+j) / 2;rw[hte];exact h7;have:=hs ((i+j) / 2) t (by omega) (by omega);rw[hk,hk]at this;cases h8:slt (l.getD t dB).1 key;rfl;rw[cW this h8]at h7;cases h7;exact ih i j (by omega) h2 h3 h4 h5
 exact go hz hX mS func126 (aqh l key) (loop l.length 0 l.length (by omega) (by omega) (by omega) (λt ht=>by omega) (λt ht htl=>by omega))
theorem auV{Z:bm}:dG P Z 151 [sV,eX,.b .fn] [bJ,dh] (λ(l,_,f,())=>[(f:Nat)=152,(l:List En).length<=1000000,jo (bT l)]) (λ(l,key,_,())=>((cY (bT l) key:Nat),kg (bT l) key,())):=by
 refine aI func151 (by kernel_rfl) (by kernel_rfl) ?_;rintro⟨(l:List En),(key:ByteArray),(f:Nat),⟨⟩⟩ _ ⟨(hf:f=152),(hl:l.length<=1000000),(hs:jo (bT l)),_⟩ X hX hz;subst hf;have hk:∀t,(bT l).getD t empty=(l.getD t dE).1:=λt=>dc l rj dE t;have hn:(bT l).length=l.length:=length_map _;have loop:∀(n i j:Nat),j - i<=n->i<=j->j<=l.length->(∀t,t<i->slt (l.getD t dE).1 key=true)->(∀t,j<=t->t<l.length->slt (l.getD t dE).1 key=false)->
  Safe P 151 X (Ends [bJ,dh] ((cY (bT l) key:Nat),kg (bT l) key,())) (amY l key (i:Int) (j:Int)):=by
  intro n
  induction n with
  |zero=>
   intro i j h1 h2 h3 h4 h5;have hlb:cY (bT l) key=i:=agE (by rw[hn];omega) (λt ht=>by rw[hk];exact h4 t ht) (λh=>by rw[hn]at h;rw[hk];exact h5 i (by omega) h);refine go hz hX mS func151 (aic l key i j) ⟨λh=>absurd (of_decide_eq_true h) (by omega),λh=>⟨λh6=>⟨by omega,of_decide_eq_true h6, ?_⟩,λh6=> ?_⟩⟩;have h7:i<l.length:=by have:=of_decide_eq_true h6;omega
   simp only[toNat_natCast];rw[kg,hlb];refine bg ((i:Int),nB (l.getD i dE).1 key==0,()) ?_ (by kernel_rfl);congr 2;rw[getElem?_map,getElem?_eq_getElem h7,bc h7];simp only[map_some,Option.some.injEq];rw[ym,decide_eq_decide.2 (ah6 _ _)];have h7:¬i<l.length:=by have:=of_decide_eq_false h6;omega
   rw[kg,hlb];refine bg ((i:Int),false,()) ?_ (by kernel_rfl);congr 2;rw[getElem?_map,getElem?_eq_none (Nat.le_of_not_lt h7)];rfl
  |succ n ih=>
   intro i j h1 h2 h3 h4 h5;by_cases lR:i<j;have e:=amZ (s:=(i:Int)+(j:Int)) (by omega) (by omega);have e2:((i:Int)+(j:Int)) / 2=((i+j) / 2:Nat):=by omega
   refine go hz hX mS func151 (aic l key i j) ?_;have e3:i64.wrap (((i+j) / 2:Nat):Int)=(((i+j) / 2:Nat):Int):=cu ⟨by omega,by omega⟩;rw[e,e2,e3];simp only[toNat_natCast];refine⟨λh=>⟨⟨by omega,by omega⟩,by decide,by omega,by omega,λh6=>⟨⟨by omega,by omega⟩, ?_⟩,λh6=> ?_⟩,λh=>absurd (of_decide_eq_false h) (by omega)⟩;have h7:slt (l.getD ((i+j) / 2) dE).1 key=true:=(wC _ _).1 (of_decide_eq_true h6);refine ih ((i+j) / 2+1) j (by omega) (by omega) h3 (λt ht=> ?_) h5;by_cases hte:t=(i+j) / 2;rw[hte];exact h7;have:=hs t ((i+j) / 2) (by omega) (by omega);rw[hk,hk]at this;exact cW this h7
   have h7:slt (l.getD ((i+j) / 2) dE).1 key=false:=by
    cases h8:slt (l.getD ((i+j) / 2) dE).1 key;rfl;exact absurd ((wC _ _).2 h8) (of_decide_eq_false h6)
   refine ih i ((i+j) / 2) (by omega) (by omega) (by omega) h4 (λt ht htl=> ?_);by_cases hte:t=(i+j) / 2;rw[hte];exact h7;have:=hs ((i+j) / 2) t (by omega) (by omega);rw[hk,hk]at this;cases h8:slt (l.getD t dE).1 key;rfl;rw[cW this h8]at h7;cases h7;exact ih i j (by omega) h2 h3 h4 h5
 exact go hz hX mS func151 (aqi l key) (loop l.length 0 l.length (by omega) (by omega) (by omega) (λt ht=>by omega) (λt ht htl=>by omega))
abbrev azU:=sumOf [zN,eX,.b .fn] [bJ,dh] (λ(l,_,f,())=>[(f:Nat)=127,(l:List Br).length<=1000000,jo (nQ l)]) (λ(l,key,_,())=>((cY (nQ l) key:Nat),kg (nQ l) key,()))
abbrev azV:=sumOf [sV,eX,.b .fn] [bJ,dh] (λ(l,_,f,())=>[(f:Nat)=152,(l:List En).length<=1000000,jo (bT l)]) (λ(l,key,_,())=>((cY (bT l) key:Nat),kg (bT l) key,()))
def am0:aM:=[(126,azU)
 ,(151,azV)
 ]
def ace:List (Nat×Norm):=[(3,⟨[(3,.ah .i64 [],3)],[1,3,9,10,11],0,[]⟩),(8,⟨[(3,.ah .i64 [],3)],[3,28,29,30],0,[]⟩)]
noncomputable def wF(l:Bool)(es:List En)(bs:List Br)(acc:List Int)(i:Int):bP:=⟨sl 43 [(1,.ptr 0 0),(3,.vec 1),(9,.s (.ro (.au cE es))),(10,.s (.int .i64 (es.length:Int))),(11,.s (.int .i64 i))],[obN l es bs 131,.vec (.ah .i64 acc) 3],hd f180 3,{}⟩
noncomputable def wG(bs:List Br)(acc:List Int)(i:Int):bP:=⟨sl 43 [(3,.vec 0),(28,.s (.ro (.au cB bs))),(29,.s (.int .i64 (bs.length:Int))),(30,.s (.int .i64 i))],[.vec (.ah .i64 acc) 3],hd f180 8,{}⟩
def rJ(x:En):Int:=2+(x.1.size:Int)+(x.2.1.size:Int)
def rk(x:Br):Int:=3+(x.1.size:Int)
def aU(es:List En)(bs:List Br):List Int:=es.map rJ++bs.map rk
def bD(es:List En)(bs:List Br):Int:=1+((es.map rJ).sum+(bs.map rk).sum)
def bz(es:List En):Prop:=es.length<=1000/\∀x∈es,x.1.size<=1000/\x.2.1.size<=1000
def bA(bs:List Br):Prop:=bs.length<=1000/\∀x∈bs,x.1.size<=1000
abbrev am1:=sumOf [fq] [ad6] (λ((_,es,bs,()),())=>[bz es,bA bs]) (λ((_,es,bs,()),())=>(aU es bs,()))
def as1:aM:=[(180,am1)]
def am2:List (Nat×Norm):=[(3,⟨[],[3,7,8,9],0,[]⟩)]
noncomputable def aid(l:List Int)(a i:Int):bP:=⟨sl 18 [(3,.s (.int .i64 a)),(7,.vec 0),(8,.s (.int .i64 (l.length:Int))),(9,.s (.int .i64 i))],[.vec (.ah .i64 l) 3],hd f175 3,{}⟩
abbrev as2:=sumOf [fq] [bJ] (λ((_,es,bs,()),())=>[bz es,bA bs]) (λ((_,es,bs,()),())=>(bD es bs,()))
def axs:aM:=[(175,as2)]
theorem akq(l:List Br)(key:ByteArray):run P am0.sum f79 [] (start f79 [.s (.ro (.au cB l)),.s (.str key)] [])=
 Tree.ab ((127:Nat)=(127:(Ty.b B.fn).V)) (.ab (l.length<=1000000) (.ab (jo (nQ l)) (.ite (!kg (nQ l) key) (.ab (aB ((↑(cY (nQ l) key):bJ.V) - (1:Int))) (.ret [] (.s (.int .i64 (imax 0 ((↑(cY (nQ l) key):bJ.V) - (1:Int))))))) (.ret [] (.s (.int .i64 (imax 0 (↑(cY (nQ l) key):bJ.V)))))))):=by kernel_rfl
theorem agF(l:List En)(key:ByteArray):run P am0.sum f115 [] (start f115 [.s (.ro (.au cE l)),.s (.str key)] [])=
 Tree.ab ((152:Nat)=(152:(Ty.b B.fn).V)) (.ab (l.length<=1000000) (.ab (jo (bT l)) (.ret [] (.bt [.s (.int .i64 (↑(cY (bT l) key):bJ.V)),.s (.bool (kg (bT l) key))])))):=by kernel_rfl
theorem akr(l:Bool)(es:List En)(bs:List Br):run P iq.sum f180 ace (start f180 [avN l es bs] [])=
 Tree.at (wF l es bs [] 0):=by kernel_rfl
theorem yn(l:Bool)(es:List En)(bs:List Br)(acc:List Int)(i:Int):run P iq.sum f180 ace (wF l es bs acc i)=
 Tree.ite (decide (i<es.length)) (.ab ((0:Int)<=i) (.ab (i<es.length) (.ab (aB ((2:Int)+(↑(ByteArray.size (es.getD i.toNat (CL.d cE)).fst):Int))) (.ab (aB ((2:Int)+(↑(ByteArray.size (es.getD i.toNat (CL.d cE)).fst):Int)+(↑(ByteArray.size (es.getD i.toNat (CL.d cE)).snd.fst):Int))) (.ab ((acc.length+1)*(8:Nat)<=140737488355328) (.ab (aB (i+1)) (.at (wF l es bs (acc++[(2:Int)+(↑(ByteArray.size (es.getD i.toNat (CL.d cE)).fst):Int)+(↑(ByteArray.size (es.getD i.toNat (CL.d cE)).snd.fst):Int)]) (i+1))))))))) (.at (wG bs acc 0)):=by kernel_rfl
theorem yo(bs:List Br)(acc:List Int)(i:Int):run P iq.sum f180 ace (wG bs acc i)=
 Tree.ite (decide (i<bs.length)) (.ab ((0:Int)<=i) (.ab (i<bs.length) (.ab (aB ((3:Int)+(↑(ByteArray.size (bs.getD i.toNat (CL.d cB)).fst):Int))) (.ab ((acc.length+1)*(8:Nat)<=140737488355328) (.ab (aB (i+1)) (.at (wG bs (acc++[(3:Int)+(↑(ByteArray.size (bs.getD i.toNat (CL.d cB)).fst):Int)]) (i+1)))))))) (.ret [.vec (.ah .i64 acc) 3] (.vec 0)):=by kernel_rfl
theorem treeSize(l:Bool)(es:List En)(bs:List Br):run P as1.sum f175 am2 (start f175 [avN l es bs] [])=
 Tree.ab (bz es) (.ab (bA bs) (.at (aid (aU es bs) 1 0))):=by kernel_rfl
theorem aec(l:List Int)(a i:Int):run P as1.sum f175 am2 (aid l a i)=
 Tree.ite (decide (i<l.length)) (.ab ((0:Int)<=i) (.ab (i<l.length) (.ab (aB (a+l.getD i.toNat 0)) (.ab (aB (i+1)) (.at (aid l (a+l.getD i.toNat 0) (i+1))))))) (.ret [.vec (.ah .i64 l) 3] (.s (.int .i64 a))):=by kernel_rfl
theorem am3(l:Bool)(es:List En)(bs:List Br):run P axs.sum f146 [] (start f146 [avN l es bs] [])=
 Tree.ab (bz es) (.ab (bA bs) (.ret [.aq [.s (.bool l),.s (.ro (.au cE es)),.s (.ro (.au cB bs))] 131] (.s (.bool (decide (bD es bs<=254)))))):=by kernel_rfl
theorem aed{Z:bm}:am0.Ok P Z:=aM.Ok.cons auU.sum (
 aM.Ok.cons auV.sum
 aM.Ok.nil)
def bh(l:List Br)(key:ByteArray):Int:=imax 0 (if kg (nQ l) key=true then(cY (nQ l) key:Int)else(cY (nQ l) key:Int) - 1)
theorem yp(ks:List ByteArray)(key:ByteArray):cY ks key<=ks.length:=by
 unfold cY;exact(List.takeWhile_sublist _).length_le
theorem yq{Z:bm}:dG P Z 79 [zN,eX] [bJ] (λ(l,_,())=>[(l:List Br).length<=1000000,jo (nQ l)]) (λ(l,key,())=>(bh l key,())):=by
 refine aI func79 (by kernel_rfl) (by kernel_rfl) ?_;rintro⟨(l:List Br),(key:ByteArray),⟨⟩⟩ _ ⟨(hl:l.length<=1000000),(hs:jo (nQ l)),_⟩ X hX hz;have hb:=yp (nQ l) key;rw[show(nQ l).length=l.length from length_map _]at hb;refine go hz hX aed func79 (akq l key) ⟨rfl,hl,hs,λh=>⟨⟨by omega,by omega⟩,ah4 ?_⟩,λh=>ah4 ?_⟩;have h:kg (nQ l) key=false:=by simpa using h
 simp[bh,h];have h:kg (nQ l) key=true:=by simpa using h
 simp[bh,h]
theorem uF{Z:bm}:dG P Z 115 [sV,eX] [bJ,dh] (λ(l,_,())=>[(l:List En).length<=1000000,jo (bT l)]) (λ(l,key,())=>((cY (bT l) key:Nat),kg (bT l) key,())):=by
 refine aI func115 (by kernel_rfl) (by kernel_rfl) ?_;rintro⟨(l:List En),(key:ByteArray),⟨⟩⟩ _ ⟨(hl:l.length<=1000000),(hs:jo (bT l)),_⟩ X hX hz;exact go hz hX aed func115 (agF l key) ⟨rfl,hl,hs,bg _ rfl (by kernel_rfl)⟩
theorem yr{es:List En}(h:bz es)(i:Nat):(es.getD i dE).1.size<=1000/\(es.getD i dE).2.1.size<=1000:=by
 by_cases hi:i<es.length;rw[bc hi];exact h.2 _ (getElem_mem hi);rw[show es.getD i dE=dE from by simp[List.getD,getElem?_eq_none (Nat.le_of_not_lt hi)]];exact⟨by decide,by decide⟩
theorem yt{bs:List Br}(h:bA bs)(i:Nat):(bs.getD i dB).1.size<=1000:=by
 by_cases hi:i<bs.length;rw[bc hi];exact h.2 _ (getElem_mem hi);rw[show bs.getD i dB=dB from by simp[List.getD,getElem?_eq_none (Nat.le_of_not_lt hi)]];decide
theorem qD{α:Type}{l:List α}{k:Nat}{d:α}(f:α->Int)(h:k<l.length):(l.take k).map f++[f (l.getD k d)]=(l.take (k+1)).map f:=by
 rw[<-ij (d:=d) h,map_append];rfl
theorem sW{Z:bm}:dG P Z 180 [fq] [ad6] (λ((_,es,bs,()),())=>[bz es,bA bs]) (λ((_,es,bs,()),())=>(aU es bs,())):=by
 refine aI func180 (by kernel_rfl) (by kernel_rfl) ?_;rintro⟨⟨(l:Bool),(es:List En),(bs:List Br),⟨⟩⟩,⟨⟩⟩ _ ⟨(he:bz es),(hb:bA bs),_⟩ X hX hz;have he1:=he.1;have hb1:=hb.1
 have second:∀(n k:Nat),k+n=bs.length->Safe P 180 X (Ends [ad6] (aU es bs,())) (wG bs (es.map rJ++(bs.take k).map rk) (k:Int)):=by
  intro n
  induction n with
  |zero=>
   intro k hk;refine go hz hX aM.Ok.nil func180 (yo bs _ k) ⟨λh=>absurd (of_decide_eq_true h) (by omega),λh=> ?_⟩;rw[take_of_length_le (by omega)];exact bg (aU es bs,()) rfl (by kernel_rfl)
  |succ n ih=>
   intro k hk;have bV:=yt hb k;refine go hz hX aM.Ok.nil func180 (yo bs _ k) ⟨λh=>⟨by omega,by omega, ?_, ?_,⟨by omega,by omega⟩, ?_⟩,λh=>absurd (of_decide_eq_false h) (by omega)⟩;simp only[toNat_natCast];show aB (3+((bs.getD k dB).1.size:Int));exact⟨by omega,by omega⟩;simp only[length_append,length_map,length_take];omega;simp only[toNat_natCast];have:=ih (k+1) (by omega);rw[<-qD (d:=dB) rk (by omega),<-append_assoc]at this;exact this
 have first:∀(n k:Nat),k+n=es.length->Safe P 180 X (Ends [ad6] (aU es bs,())) (wF l es bs ((es.take k).map rJ) (k:Int)):=by
  intro n
  induction n with
  |zero=>
   intro k hk;refine go hz hX aM.Ok.nil func180 (yn l es bs _ k) ⟨λh=>absurd (of_decide_eq_true h) (by omega),λh=> ?_⟩;rw[take_of_length_le (by omega)];have:=second bs.length 0 (by omega);simp only[List.take_zero,map_nil,append_nil]at this;exact this
  |succ n ih=>
   intro k hk;have⟨hs1,hs2⟩:=yr he k;refine go hz hX aM.Ok.nil func180 (yn l es bs _ k) ⟨λh=>⟨by omega,by omega, ?_, ?_, ?_,⟨by omega,by omega⟩, ?_⟩,λh=>absurd (of_decide_eq_false h) (by omega)⟩;simp only[toNat_natCast];show aB (2+((es.getD k dE).1.size:Int));exact⟨by omega,by omega⟩;simp only[toNat_natCast];show aB (2+((es.getD k dE).1.size:Int)+((es.getD k dE).2.1.size:Int));exact⟨by omega,by omega⟩;simp only[length_map,length_take];omega;simp only[toNat_natCast];have:=ih (k+1) (by omega);rw[<-qD (d:=dE) rJ (by omega)]at this;exact this
 exact go hz hX aM.Ok.nil func180 (akr l es bs) (first es.length 0 (by omega))
theorem aaL{es:List En}{bs:List Br}(he:bz es)(hb:bA bs):∀x∈aU es bs,0<=x/\x<=2002:=by
 intro x hx;rcases mem_append.1 hx with hx|hx;obtain⟨y,hy,rfl⟩:=mem_map.1 hx;have:=he.2 y hy;simp only[rJ];omega;obtain⟨y,hy,rfl⟩:=mem_map.1 hx;have:=hb.2 y hy;simp only[rk];omega
theorem pZ{l:List Int}{m:Int}(h:∀x∈l,0<=x/\x<=m)(hm:0<=m):0<=l.sum/\l.sum<=m*l.length:=by
 induction l with
 |nil=>simp|cons x l ih=>
  have h1:=h x (by simp);have⟨h2,h3⟩:=ih (λy hy=>h y (by simp[hy]));simp only[sum_cons,length_cons];refine⟨by omega, ?_⟩;rw[show((l.length+1:Nat):Int)=(l.length:Int)+1 from rfl,Int.mul_add];omega
theorem jB{l:List Int}{k:Nat}(h:k<l.length):(l.take k).sum+l.getD k 0=(l.take (k+1)).sum:=by
 rw[<-ij (d:=(0:Int)) h,List.sum_append];simp
theorem pt(es:List En)(bs:List Br):bD es bs=1+(aU es bs).sum:=by
 simp[bD,aU,List.sum_append]
theorem aie{Z:bm}:dG P Z 175 [fq] [bJ] (λ((_,es,bs,()),())=>[bz es,bA bs]) (λ((_,es,bs,()),())=>(bD es bs,())):=by
 refine aI func175 (by kernel_rfl) (by kernel_rfl) ?_;rintro⟨⟨(l:Bool),(es:List En),(bs:List Br),⟨⟩⟩,⟨⟩⟩ _ ⟨(he:bz es),(hb:bA bs),_⟩ X hX hz;have hr:=aaL he hb
 have bC:(aU es bs).length<=2000:=by
  have:=he.1;have:=hb.1;simp only[aU,length_append,length_map];omega
 show Safe P 175 X (Ends [bJ] (bD es bs,())) _;rw[pt]
 have loop:∀(n k:Nat),k+n=(aU es bs).length->Safe P 175 X (Ends [bJ] (1+(aU es bs).sum,())) (aid (aU es bs) (1+((aU es bs).take k).sum) (k:Int)):=by
  intro n
  induction n with
  |zero=>
   intro k hk;refine go hz hX (aM.Ok.cons sW.sum aM.Ok.nil) func175 (aec _ _ k) ⟨λh=>absurd (of_decide_eq_true h) (by omega),λh=> ?_⟩;rw[take_of_length_le (by omega)];exact ab1
  |succ n ih=>
   intro k hk;have h1:=pZ (l:=(aU es bs).take k) (m:=2002) (λx hx=>hr x (List.mem_of_mem_take hx)) (by omega)
   have h2:0<=(aU es bs).getD k 0/\(aU es bs).getD k 0<=2002:=by
    rw[bc (by omega)];exact hr _ (getElem_mem _)
   have h3:((aU es bs).take k).length<=2000:=by rw[length_take];omega
   refine go hz hX (aM.Ok.cons sW.sum aM.Ok.nil) func175 (aec _ _ k) ?_;simp only[toNat_natCast];refine⟨λh=>⟨by omega,by omega,⟨by omega,by omega⟩,⟨by omega,by omega⟩, ?_⟩,λh=>absurd (of_decide_eq_false h) (by omega)⟩;have:=ih (k+1) (by omega);rw[<-jB (by omega),<-Int.add_assoc]at this;exact this
 have:=loop (aU es bs).length 0 (by omega);exact go hz hX (aM.Ok.cons sW.sum aM.Ok.nil) func175 (treeSize l es bs) ⟨he,hb,this⟩
theorem aif{Z:bm}:dG P Z 146 [fq] [dh] (λ((_,es,bs,()),())=>[bz es,bA bs]) (λ((_,es,bs,()),())=>(decide (bD es bs<=254),())):=by
 refine aI func146 (by kernel_rfl) (by kernel_rfl) ?_;rintro⟨⟨(l:Bool),(es:List En),(bs:List Br),⟨⟩⟩,⟨⟩⟩ _ ⟨(he:bz es),(hb:bA bs),_⟩ X hX hz;exact go hz hX (aM.Ok.cons aie.sum aM.Ok.nil) func146 (am3 l es bs) ⟨he,hb,amp⟩
def acf(s:ByteArray):List Int:=s.data.toList.map λb=>(b.toNat:Int)
def txt(s:ByteArray):List Int:=u8.wrap (s.size:Int)::acf s
abbrev axt:Type:=ByteArray×List Int
def aee:Spec axt:=⟨λx=>[.s (.str x.1),.ptr 0 0],λx=>[.aq [.vec 1] 107,.vec (.ah .u8 x.2) 5],λx=>[x.2.length<=100000000,x.1.size<=1000000],λx=>[.aq [.vec 2] 107,.ax,.vec (.ah .u8 (x.2++txt x.1)) 5],λ_=>.bt []⟩
def as3:List AV->RM (axt×List Nat)
 |[.s (.str s),.ptr id 0]=>.look id λ
  |some (.aq [.vec j] _)=>.look j λ
   |some (.vec (.ah .u8 zs) _)=>.ret ((s,zs),[id,j])|_=>.fail "enc1: no bytes"
  |_=>.fail "enc1: no box"
 |_=>.fail "enc1"
abbrev auW:=sumOf [fq] [dh] (λ_=>[]) (λ((l,es,bs,()),())=>(dF l es bs,()))
abbrev as4:=sumOf [fq] [dh] (λ((_,es,bs,()),())=>[bz es,bA bs]) (λ((_,es,bs,()),())=>(decide (bD es bs<=254),()))
def yu:aM:=[(166,auW),(146,as4),(194,bZ aee as3)]
def aih:List (Nat×Norm):=[(8,⟨[],[1,4],0,[]⟩),(10,⟨[],[1,4,5,25,26,27],0,[]⟩),(16,⟨[],[4,5,41,42,43],0,[]⟩)]
noncomputable def aii(l:Bool)(es:List En)(bs:List Br)(zs:List Int):bP:=⟨sl 64 [(1,.ptr 0 0),(4,.ptr 1 0)],[obN l es bs 131,.aq [.vec 2] 107,.vec (.ah .u8 zs) 5],hr f177 8,{}⟩
noncomputable def aij(l:Bool)(es:List En)(bs:List Br)(zs:List Int)(i:Int):bP:=⟨sl 64 [(1,.ptr 0 0),(4,.ptr 1 0),(5,.fn 194 [.ptr 1 0]),(25,.s (.ro (.au cE es))),(26,.s (.int .i64 (es.length:Int))),(27,.s (.int .i64 i))],[obN l es bs 131,.aq [.vec 2] 107,.vec (.ah .u8 zs) 5],hd f177 10,{}⟩
noncomputable def aik(bs:List Br)(zs:List Int)(i:Int):bP:=⟨sl 64 [(4,.ptr 0 0),(5,.fn 194 [.ptr 0 0]),(41,.s (.ro (.au cB bs))),(42,.s (.int .i64 (bs.length:Int))),(43,.s (.int .i64 i))],[.aq [.vec 1] 107,.vec (.ah .u8 zs) 5],hd f177 16,{}⟩
theorem am4(s:ByteArray)(zs:List Int):run P iq.sum f194 [] (start f194 [.s (.str s),.ptr 0 0] [.aq [.vec 1] 107,.vec (.ah .u8 zs) 5])=
 Tree.ab ((zs.length+(1:Nat))*(1:Nat)<=(140737488355328:Nat)) (Tree.ab (((zs++[u8.wrap (↑s.size:Int)]).length+(List.map (λ(b:UInt8)=>(↑b.toNat:Int)) s.data.toList).length)*(1:Nat)<=(140737488355328:Nat)) (Tree.ret [ak.aq [AV.vec (4:Nat)] (107:Nat),ak.ax,ak.vec (aV.ah u8 [u8.wrap (↑s.size:Int)]) (5:Nat),ak.ax,ak.vec (aV.ah u8 (zs++[u8.wrap (↑s.size:Int)]++List.map (λ(b:UInt8)=>(↑b.toNat:Int)) s.data.toList)) (5:Nat)] (AV.bt []))):=by kernel_rfl
theorem aqj(l:Bool)(es:List En)(bs:List Br):run P yu.sum f177 aih (start f177 [avN l es bs] [])=
 Tree.ite (!dF l es bs) (.ret [.aq [.s (.bool l),.s (.ro (.au cE es)),.s (.ro (.au cB bs))] 131] (.bt [.s (.str empty),.s (.aS .i64 4)])) (.ab (bz es) (.ab (bA bs) (.ite (!decide (bD es bs<=254)) (.ret [.aq [.s (.bool l),.s (.ro (.au cE es)),.s (.ro (.au cB bs))] 131] (.bt [.s (.str empty),.s (.aS .i64 40)])) (.ite l (.ab ((0:Int)<=0) (.ab ((0:Int)<(↑(1:Nat):Int)) (.at (aii l es bs ([(2:Int)].set 0 1))))) (.at (aii l es bs [(2:Int)])))))):=by kernel_rfl
theorem aqk(l:Bool)(es:List En)(bs:List Br)(zs:List Int):run P yu.sum f177 aih (aii l es bs zs)=
 Tree.at (aij l es bs zs 0):=by kernel_rfl
theorem aef(l:Bool)(es:List En)(bs:List Br)(zs:List Int)(i:Int):run P yu.sum f177 aih (aij l es bs zs i)=
 Tree.ite (decide (i<es.length)) (.ab ((0:Int)<=i) (.ab (i<es.length) (.ab (bk (some [AV.s (.str (es.getD i.toNat (CL.d cE)).fst),.ptr 0 0])) (.ab (bk (some [ak.aq [.vec 1] 107,.vec (.ah .u8 zs) 5])) (.ab (zs.length<=100000000) (.ab (ByteArray.size (es.getD i.toNat (CL.d cE)).fst<=1000000) (.ab (bk (some [AV.s (.str (es.getD i.toNat (CL.d cE)).snd.fst),.ptr 0 0])) (.ab (bk (some [ak.aq [.vec 1] 107,.vec (.ah .u8 (zs++txt (es.getD i.toNat (CL.d cE)).fst)) 5])) (.ab ((zs++txt (es.getD i.toNat (CL.d cE)).fst).length<=100000000) (.ab (ByteArray.size (es.getD i.toNat (CL.d cE)).snd.fst<=1000000) (.ab (aB (i+1)) (.at (aij l es bs (zs++txt (es.getD i.toNat (CL.d cE)).fst++txt (es.getD i.toNat (CL.d cE)).snd.fst) (i+1)))))))))))))) (.at (aik bs zs 0)):=by kernel_rfl
theorem aeg(bs:List Br)(zs:List Int)(i:Int):run P yu.sum f177 aih (aik bs zs i)=
 Tree.ite (decide (i<(↑bs.length:Int))) (Tree.ab ((0:Int)≤i) (Tree.ab (i<(↑bs.length:Int)) (Tree.ab (bk (some [AV.s (SV.str (bs.getD i.toNat (CL.d [CK.str,CK.int i64])).fst),AV.ptr (0:Nat) (0:Nat)])) (Tree.ab (bk (some [ak.aq [AV.vec (1:Nat)] (107:Nat),ak.vec (aV.ah u8 zs) (5:Nat)])) (Tree.ab (zs.length≤(100000000:Nat)) (Tree.ab (ByteArray.size (bs.getD i.toNat (CL.d [CK.str,CK.int i64])).fst≤(1000000:Nat)) (Tree.ab ((0:Int)≤(8:Int)) (Tree.ab (((zs++txt (bs.getD i.toNat (CL.d [CK.str,CK.int i64])).fst).length+(2:Nat))*(1:Nat)≤(140737488355328:Nat)) (Tree.ab (aB (i+(1:Int))) (Tree.at (aik bs (zs++txt (bs.getD i.toNat (CL.d [CK.str,CK.int i64])).fst++[u8.wrap (Int.fdiv (bs.getD i.toNat (CL.d [CK.str,CK.int i64])).snd.fst ((2:Int)^min (Int.toNat (8:Int)) i64.bits)),u8.wrap (bs.getD i.toNat (CL.d [CK.str,CK.int i64])).snd.fst]) (i+(1:Int))))))))))))) (Tree.ret [ak.aq [AV.vec (1:Nat)] (107:Nat),ak.vec (aV.ah u8 zs) (5:Nat)] (AV.bt [AV.s (SV.str (aG zs)),AV.s (SV.aS i64 (0:Int))])):=by kernel_rfl
theorem cH{Z:bm}{X:Ctx}{t:aM}{f:FuncId}{fn:Func}{ns:List (Nat×Norm)}{c:bP}{tr:Tree}{K:List ak->AV->Prop}{L:List ak}(hz:eb Z X)(hX:X.H=lk L)(hm:∀x∈ns,L.length<=x.2.m)(hT:t.Ok P Z)(hf:P.funcs[f]? =some fn)
 (e:run P t.sum fn ns c=tr) (h:tr.Holds K (Safe P f X K)):Safe P f X K c:=cV (aM.sOk hT) hz mixed hf (λx hx id dt=>by rw[hX];exact getElem?_eq_none (le_trans (hm x hx) dt)) e h
theorem aql{Z:bm}:fM P Z 194 aee:=by
 refine fS func194 ?_;rintro⟨s,zs⟩ ⟨(h1:zs.length<=100000000),(h2:s.size<=1000000),_⟩ X hX hz;have hs:s.data.toList.length=s.size:=length_toList;refine cH hz hX (by simp) aM.Ok.nil func194 (am4 s zs) ⟨by omega,by simp only[length_append,length_map,List.length_singleton];omega,⟨[],[0],2,[]⟩,le_refl _, ?_⟩;have e:zs++txt s=zs++[u8.wrap (s.size:Int)]++acf s:=by simp[txt]
 show Norm.run _ _=some ⟨[AV.bt []],[.aq [.vec 2] 107,.ax,.vec (.ah .u8 (zs++txt s)) 5],[],{}⟩;rw[e];kernel_rfl
def pv(x:En):List Int:=txt x.1++txt x.2.1
def v8(x:Br):List Int:=txt x.1++[u8.wrap (Int.fdiv x.2.1 (2^min (Int.toNat 8) i64.bits)),u8.wrap x.2.1]
def zO(l:Bool):List Int:=[if l=true then 1 else 2]
def pw(l:Bool)(es:List En)(bs:List Br):List Int:=zO l++es.flatMap pv++bs.flatMap v8
def aeh(l:Bool)(es:List En)(bs:List Br):Bool:=dF l es bs&&decide (bD es bs<=254)
def encS(l:Bool)(es:List En)(bs:List Br):ByteArray:=if aeh l es bs=true then aG (pw l es bs)else empty
def iN(l:Bool)(es:List En)(bs:List Br):Int:=if dF l es bs=true then(if bD es bs<=254 then 0 else 40)else 4
theorem nD(s:ByteArray):(txt s).length=s.size+1:=by
 have hs:s.data.toList.length=s.size:=length_toList;simp[txt,acf,hs]
theorem aaM{α β:Type}{l:List α}{k:Nat}{d:α}(f:α->List β)(h:k<l.length):(l.take k).flatMap f++f (l.getD k d)=(l.take (k+1)).flatMap f:=by
 rw[<-ij (d:=d) h,List.flatMap_append];simp
theorem sX{α β:Type}(f:α->List β)(m:Nat):∀{l:List α},(∀x∈l,(f x).length<=m)->(l.flatMap f).length<=m*l.length
 |[],_=>by simp
 |x::l,h=>by
  have h1:=h x (by simp);have h2:=sX f m (l:=l) (λy hy=>h y (by simp[hy]));simp only[List.flatMap_cons,length_append,length_cons,Nat.mul_add];omega
theorem aei{x:En}(h:x.1.size<=1000/\x.2.1.size<=1000):(pv x).length<=2002:=by
 simp only[pv,length_append,nD];omega
theorem am5{x:Br}(h:x.1.size<=1000):(v8 x).length<=1003:=by
 simp only[v8,length_append,nD,length_cons,length_nil];omega
theorem kL{Z:bm}:yu.Ok P Z:=aM.Ok.cons agB.sum (aM.Ok.cons aif.sum (aM.Ok.cons (aql.sum as3) aM.Ok.nil))
theorem aks{Z:bm}:dG P Z 177 [fq] [eX,bJ] (λ((_,es,bs,()),())=>[bz es,bA bs]) (λ((l,es,bs,()),())=>(encS l es bs,iN l es bs,())):=by
 refine aI func177 (by kernel_rfl) (by kernel_rfl) ?_;rintro⟨⟨(l:Bool),(es:List En),(bs:List Br),⟨⟩⟩,⟨⟩⟩ _ ⟨(he:bz es),(hb:bA bs),_⟩ X hX hz;have he1:=he.1;have hb1:=hb.1;show Safe P 177 X (Ends [eX,bJ] (encS l es bs,iN l es bs,())) _
 have second:encS l es bs=aG (pw l es bs)->iN l es bs=0->∀(n k:Nat),k+n=bs.length->Safe P 177 X (Ends [eX,bJ] (encS l es bs,iN l es bs,())) (aik bs (zO l++es.flatMap pv++(bs.take k).flatMap v8) (k:Int)):=by
  intro hS hN n
  induction n with
  |zero=>
   intro k hk;refine go hz hX kL func177 (aeg bs _ k) ⟨λh=>absurd (of_decide_eq_true h) (by omega),λh=> ?_⟩;rw[take_of_length_le (by omega),hS,hN];exact ab2
  |succ n ih=>
   intro k hk;have bV:=yt hb k;have hl1:(es.flatMap pv).length<=2002*es.length:=sX pv 2002 (λx hx=>aei (he.2 x hx));have hl2:((bs.take k).flatMap v8).length<=1003*(bs.take k).length:=sX v8 1003 (λx hx=>am5 (hb.2 x (List.mem_of_mem_take hx)));have hl3:(bs.take k).length<=1000:=by rw[length_take];omega
   have hl:(zO l++es.flatMap pv++(bs.take k).flatMap v8).length<=4000000:=by
    simp only[length_append,zO,List.length_singleton];omega
   refine go hz hX kL func177 (aeg bs _ k) ?_;simp only[toNat_natCast];refine⟨λh=>⟨by omega,by omega,trivial,trivial,by omega, ?_,by decide, ?_,⟨by omega,by omega⟩, ?_⟩,λh=>absurd (of_decide_eq_false h) (by omega)⟩;show(bs.getD k dB).1.size<=1000000;omega;rw[length_append,nD];show(_+((bs.getD k dB).1.size+1)+2)*1<=_;omega;have:=ih (k+1) (by omega);rw[<-aaM (d:=dB) v8 (by omega),<-append_assoc]at this;rw[append_assoc (zO l++es.flatMap pv++(bs.take k).flatMap v8)];exact this
 have first:encS l es bs=aG (pw l es bs)->iN l es bs=0->∀(n k:Nat),k+n=es.length->Safe P 177 X (Ends [eX,bJ] (encS l es bs,iN l es bs,())) (aij l es bs (zO l++(es.take k).flatMap pv) (k:Int)):=by
  intro hS hN n
  induction n with
  |zero=>
   intro k hk;refine go hz hX kL func177 (aef l es bs _ k) ⟨λh=>absurd (of_decide_eq_true h) (by omega),λh=> ?_⟩;rw[take_of_length_le (by omega)];have:=second hS hN bs.length 0 (by omega);simp only[List.take_zero,List.flatMap_nil,append_nil]at this;exact this
  |succ n ih=>
   intro k hk;have⟨hs1,hs2⟩:=yr he k;have hl2:((es.take k).flatMap pv).length<=2002*(es.take k).length:=sX pv 2002 (λx hx=>aei (he.2 x (List.mem_of_mem_take hx)));have hl3:(es.take k).length<=1000:=by rw[length_take];omega
   have hl:(zO l++(es.take k).flatMap pv).length<=4000000:=by
    simp only[length_append,zO,List.length_singleton];omega
   refine go hz hX kL func177 (aef l es bs _ k) ?_;simp only[toNat_natCast];refine⟨λh=>⟨by omega,by omega,trivial,trivial,by omega, ?_,trivial,trivial, ?_, ?_,⟨by omega,by omega⟩, ?_⟩,λh=>absurd (of_decide_eq_false h) (by omega)⟩;show(es.getD k dE).1.size<=1000000;omega;rw[length_append,nD];show _+((es.getD k dE).1.size+1)<=_;omega;show(es.getD k dE).2.1.size<=1000000;omega;have:=ih (k+1) (by omega);rw[<-aaM (d:=dE) pv (by omega),<-append_assoc]at this;rw[append_assoc (zO l++(es.take k).flatMap pv)];exact this
 refine go hz hX kL func177 (aqj l es bs) ⟨λh=> ?_,λh=>⟨he,hb,λh2=> ?_,λh2=> ?_⟩⟩;have h:dF l es bs=false:=by simpa using h
 have e1:encS l es bs=empty:=by simp[encS,aeh,h]
 have e2:iN l es bs=4:=by simp[iN,h]
 rw[e1,e2];exact ab2;have h:dF l es bs=true:=by simpa using h
 have h2:¬bD es bs<=254:=by simpa using h2
 have e1:encS l es bs=empty:=by simp[encS,aeh,h,h2]
 have e2:iN l es bs=40:=by simp[iN,h,h2]
 rw[e1,e2];exact ab2;have h:dF l es bs=true:=by simpa using h
 have h2:bD es bs<=254:=by simpa using h2
 have e1:encS l es bs=aG (pw l es bs):=by simp[encS,aeh,h,h2]
 have e2:iN l es bs=0:=by simp[iN,h,h2]
 have st:Safe P 177 X (Ends [eX,bJ] (encS l es bs,iN l es bs,())) (aii l es bs (zO l)):=by
  refine go hz hX kL func177 (aqk l es bs _) ?_;have:=first e1 e2 es.length 0 (by omega)
  simp only[List.take_zero,List.flatMap_nil,append_nil]at this;exact this
 refine⟨λh3=>⟨by decide,by decide, ?_⟩,λh3=> ?_⟩;subst h3;exact st;subst h3;exact st
theorem am6{bs:List Br}(h:ir bs=true){i:Nat}(hi:i+1<bs.length):slt (bs.getD i dB).1 (bs.getD (i+1) dB).1=true:=by
 have:=du.1 h (i+1) hi;simp only[okB,not_eq_true',Bool.or_eq_false_iff,Bool.and_eq_false_iff,decide_eq_false_iff_not,Bool.not_eq_false']at this;have h2:=this.2;rcases h2 with h2|h2;omega;simpa using h2
theorem am7{es:List En}(h:kC es=true){i:Nat}(hi:i+1<es.length):slt (es.getD i dE).1 (es.getD (i+1) dE).1=true:=by
 have:=du.1 h (i+1) hi;simp only[okE,not_eq_true',Bool.or_eq_false_iff,Bool.and_eq_false_iff,decide_eq_false_iff_not,Bool.not_eq_false']at this;have h2:=this.2;rcases h2 with h2|h2;omega;simpa using h2
theorem vL{ks:List ByteArray}(h:∀i,i+1<ks.length->slt (ks.getD i empty) (ks.getD (i+1) empty)=true):jo ks:=by
 intro i j lR hj
 induction j with
 |zero=>omega|succ j ih=>
  by_cases he:i=j;subst he;exact h i hj;exact cW (ih (by omega) (by omega)) (h j hj)
theorem auX{bs:List Br}(h:ir bs=true):jo (nQ bs):=vL λi hi=>by
 rw[length_map]at hi;rw[dc bs akp dB,dc bs akp dB];exact am6 h hi
theorem axu{es:List En}(h:kC es=true):jo (bT es):=vL λi hi=>by
 rw[length_map]at hi;rw[dc es rj dE,dc es rj dE];exact am7 h hi
theorem eG{l:Bool}{es:List En}{bs:List Br}(h:dF l es bs=true):(l=true->bs=[])/\(l=false->es=[])/\kC es=true/\ir bs=true:=by
 simp only[dF,and_eq_true,not_eq_true',Bool.or_eq_false_iff,Bool.and_eq_false_iff,decide_eq_false_iff_not]at h;have⟨⟨⟨h1,h2⟩,h3⟩,h4⟩:=h;refine⟨λhl=> ?_,λhl=> ?_,h3,h4⟩;subst hl;rcases h1 with h1|h1;cases h1;exact List.eq_nil_of_length_eq_zero (by omega);subst hl;rcases h2 with h2|h2;cases h2;exact List.eq_nil_of_length_eq_zero (by omega)
theorem agG:∀{ks:List ByteArray} {key:ByteArray} {t:Nat},t<cY ks key->slt (ks.getD t empty) key=true
 |[],key,t,h=>by simp[cY]at h
 |k::ks,key,t,h=>by
  simp only[cY,List.takeWhile]at h;split at h;rename_i hk;cases t with
  |zero=>simpa using hk|succ t=>
   simp only[length_cons]at h;simpa using agG (ks:=ks) (key:=key) (t:=t) (by simp only[cY];omega)
  simp at h
theorem agH:∀{ks:List ByteArray} {key:ByteArray},cY ks key<ks.length->slt (ks.getD (cY ks key) empty) key=false
 |[],key,h=>by simp at h
 |k::ks,key,h=>by
  by_cases hk:slt k key=true;have e:cY (k::ks) key=cY ks key+1:=by simp[cY,List.takeWhile,hk]
  rw[e]at h ⊢;simpa using agH (ks:=ks) (key:=key) (by simpa using h);have hk:slt k key=false:=by simpa using hk
  have e:cY (k::ks) key=0:=by simp[cY,List.takeWhile,hk]
  rw[e];simpa using hk
theorem am8{ks:List ByteArray}{key:ByteArray}(hs:jo ks){t:Nat}(h1:cY ks key<=t)(h2:t<ks.length):slt (ks.getD t empty) key=false:=by
 have h:=agH (ks:=ks) (key:=key) (by omega);by_cases he:t=cY ks key;rw[he];exact h;have h3:=hs (cY ks key) t (by omega) h2;cases h4:slt (ks.getD t empty) key;rfl;rw[cW h3 h4]at h;cases h
theorem kD{ks:List ByteArray}{key:ByteArray}:kg ks key=true↔cY ks key<ks.length/\ks.getD (cY ks key) empty=key:=by
 simp only[kg,decide_eq_true_eq];constructor;intro h;have h1:=(List.getElem?_eq_some_iff.1 h).1;exact⟨h1,by simp[List.getD,h]⟩;rintro⟨h1,h2⟩;rw[bc h1]at h2;rw[getElem?_eq_getElem h1,h2]
theorem yv{ks:List ByteArray}{key:ByteArray}(hs:jo ks)(h0:ks≠[]):∃p:Nat,imax 0 (if kg ks key=true then(cY ks key:Int)else(cY ks key:Int) - 1)=(p:Int)/\p<ks.length/\
 (p=0\/slt key (ks.getD p empty)=false)/\(∀t,p<t->t<ks.length->slt key (ks.getD t empty)=true):=by
 have bC:0<ks.length:=by
  cases ks with
  |nil=>exact absurd rfl h0|cons k ks=>simp
 have hle:=yp ks key;have up:∀t,cY ks key<=t->t<ks.length->ks.getD t empty≠key->slt key (ks.getD t empty)=true:=λt h1 h2 h3=>ye (am8 hs h1 h2) h3;by_cases hk:kg ks key=true;have⟨h1,h2⟩:=kD.1 hk;rw[if_pos hk];refine⟨cY ks key,by unfold imax;split<;>omega,h1,.inr (by rw[h2];exact ew key),λt ht htl=> ?_⟩;rw[<-h2];have:=hs (cY ks key) t ht htl;rw[h2]at this ⊢;exact this;rw[if_neg hk]
 have cQ:∀t,cY ks key<=t->t<ks.length->ks.getD t empty≠key:=by
  intro t h1 h2 h3;by_cases he:t=cY ks key;subst he;exact hk (kD.2 ⟨h2,h3⟩);have h4:=hs (cY ks key) t (by omega) h2;rw[h3]at h4;rw[agH (by omega)]at h4;cases h4
 rcases Nat.eq_zero_or_pos (cY ks key)with hz|hz;refine⟨0,by rw[hz];rfl,bC,.inl rfl,λt ht htl=>up t (by omega) htl (cQ t (by omega) htl)⟩;refine⟨cY ks key - 1,by unfold imax;split<;>omega,by omega,.inr (ux (agG (by omega))),λt ht htl=>up t (by omega) htl (cQ t (by omega) htl)⟩
end Lf
