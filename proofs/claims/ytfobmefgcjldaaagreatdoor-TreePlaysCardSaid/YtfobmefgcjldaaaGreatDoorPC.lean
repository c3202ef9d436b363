/- Lemmas: SxTy, SxOut, SxFn, SxFnR, SxLoop, SxWrap, SxDen, SxCut, Hd, SxSpec, SxAuto, Lb, SxRange, D0, D2, SxFrz, E1, F0, F1, F2, F3, H0, Hp, L1, L2, L3, L4, L5, L6, L7, Lm, L8, R1, R2. -/
import Derived.ProofKit
import Derived.Carry
import Derived.OpenShut
import Derived.Deep.DeepHandedRow
import Derived.JoinedOf
import Derived.Test.YtfobmefgcjldaaaGreatDoorRows
import Derived.LaidMore
import Derived.Stop.Joined
import Derived.Lib.Bytealg
import Derived.Maps.RangeRun
import Derived.Test.YtfobmefgcjldaaaGreatDoorProg
import Derived.Lib.Walk
import Derived.WalkKit
import Derived.Laws.Externs
import Derived.Test.YtfobmefgcjldaaaGreatDoorPB
open Go.Proofs.Tryz
open Go.IntKind (i64 u64 u8)
open Array (getD_eq_getD_getElem? length_toList toList_inj)
open Bool (and_eq_false_iff and_eq_true cond_eq_ite not_eq_true' or_eq_true)
open ByteArray (empty ext)
open Int (toNat_natCast)
open List (all_cons all_eq_true append_assoc append_nil cons_append getElem?_append_left getElem?_append_right getElem?_eq_getElem getElem?_eq_none getElem?_map getElem?_set getElem?_take getElem_mem length_append length_cons length_drop length_map length_nil length_take map_append map_cons map_nil mem_append mem_cons mem_map mem_range mem_singleton nil_append nodup_append range' replicate take_of_length_le)
open Nat (add_assoc add_mul add_zero beq_eq le_of_ble_eq_true le_refl lt_or_ge zero_le)
open Option (bind_eq_some_iff getD_some isSome_iff_exists map_eq_some_iff map_some)
noncomputable section
namespace Go.Sx
open Go
inductive RK where
 |af (k:IntKind)|strs|bS|ah (cs:List CK)
abbrev RK.E:RK->Type
 |.af _=>Int|.strs=>ByteArray|.bS=>Bool|.ah cs=>CL cs
abbrev RK.V(r:RK):Type:=List r.E
def RK.uK:(r:RK)->r.V->ba
 |.af k,x=>.af k x|.strs,x=>.strs x|.bS,x=>.bS x|.ah cs,x=>.ah cs x
def ae5(k:IntKind):ba->Option (List Int)
 |.af k' zs=>bif bU k' k then some zs else none|.eM _ 0 _=>some []|_=>none
def ae6:ba->Option (List ByteArray)
 |.strs x=>some x|.eM _ 0 _=>some []|_=>none
def aaB:ba->Option (List Bool)
 |.bS x=>some x|.eM _ 0 _=>some []|_=>none
def ako(cs:List CK):ba->Option (List (CL cs))
 |.ah jz x=>(CL.eq jz cs).map λh=>abD h x|.eM _ 0 _=>some []|_=>none
def RK.rd:(r:RK)->ba->Option r.V
 |.af k,c=>ae5 k c|.strs,c=>ae6 c|.bS,c=>aaB c|.ah cs,c=>ako cs c
def CK.flat:CK->Bool
 |.int _|.bool|.str|.arr _ _=>true|_=>false
def RK.flat:RK->Bool
 |.ah cs=>cs.all CK.flat|_=>true
inductive B where
 |int (k:IntKind)|bool|str|row (r:RK) (e:TypeId)|arr (k:IntKind) (n:Nat)|fn|jM (r:RK) (e:TypeId)
abbrev B.V:B->Type
 |.int _=>Int|.bool=>Bool|.str=>ByteArray|.row r _=>r.V|.arr _ _=>List Int|.fn=>FuncId|.jM r _=>r.V
def B.av:(b:B)->b.V->AV
 |.int k,n=>.s (.int k n)|.bool,x=>.s (.bool x)|.str,x=>.s (.str x)|.row r _,x=>.s (.ro (r.uK x))|.arr k n,x=>.af k n x|.fn,f=>.s (.qF f)|.jM r _,x=>.s (.ro (r.uK x))
def wu(k:IntKind):List AV->Option (List Int)
 |[]=>some []|.s (.int k' n)::aT=>bif bU k' k then(wu k aT).map (n:: ·)else none|_=>none
def akp(k:IntKind):AV->Option Int
 |.s (.int k' n)=>bif bU k' k then some n else none|_=>none
def ae7:AV->Option Bool
 |.s (.bool x)=>some x|_=>none
def akq:AV->Option ByteArray
 |.s (.str x)=>some x|_=>none
def yQ(r:RK):AV->Option r.V
 |.emp=>some []|.s (.ro c)=>r.rd c|_=>none
def acj(k:IntKind)(n:Nat):AV->Option (List Int)
 |.af k' n' ws=>bif bU k' k&&n'.beq n then some ws else none|.agg aD=>bif aD.length.beq n then wu k aD else none|_=>none
def asM:AV->Option FuncId
 |.s (.qF f)=>some f|_=>none
def B.rd:(b:B)->AV->Option b.V
 |.int k,a=>akp k a|.bool,a=>ae7 a|.str,a=>akq a|.row r _,a=>yQ r a|.arr k n,a=>acj k n a|.fn,a=>asM a|.jM r _,a=>yQ r a
def B.ok:(b:B)->b.V->Prop
 |.row _ _,x=>x.length<=maxLen|.jM _ _,x=>x.length<=maxLen|.arr _ n,x=>List.length (α:=Int) x=n|_,_=>True
inductive Ty where
 |b (x:B)|st (bs:List B)
abbrev BL:List B->Type
 |[]=>Unit|b::bs=>b.V×BL bs
abbrev Ty.V:Ty->Type
 |.b x=>x.V|.st bs=>BL bs
abbrev AL:List Ty->Type
 |[]=>Unit|t::ts=>t.V×AL ts
def BL.av:(bs:List B)->BL bs->List AV
 |[],_=>[]|b::bs,(x,y)=>b.av x::BL.av bs y
def BL.rd:(bs:List B)->List AV->Option (BL bs)
 |[],[]=>some ()|b::bs,a::aT=>match b.rd a,BL.rd bs aT with
  |some x,some y=>some (x,y)|_,_=>none
 |_,_=>none
def BL.ok:(bs:List B)->BL bs->Prop
 |[],_=>True|b::bs,(x,y)=>b.ok x/\BL.ok bs y
def Ty.av:(t:Ty)->t.V->AV
 |.b x,v=>x.av v|.st bs,v=>.agg (BL.av bs v)
def asN(bs:List B):AV->Option (BL bs)
 |.agg aD=>BL.rd bs aD|_=>none
def Ty.rd:(t:Ty)->AV->Option t.V
 |.b x,a=>x.rd a|.st bs,a=>asN bs a
def Ty.ok:(t:Ty)->t.V->Prop
 |.b x,v=>x.ok v|.st bs,v=>BL.ok bs v
def AL.av:(ts:List Ty)->AL ts->List AV
 |[],_=>[]|t::ts,(x,y)=>t.av x::AL.av ts y
def AL.rd:(ts:List Ty)->List AV->Option (AL ts)
 |[],[]=>some ()|t::ts,a::aT=>match t.rd a,AL.rd ts aT with
  |some x,some y=>some (x,y)|_,_=>none
 |_,_=>none
def AL.ok:(ts:List Ty)->AL ts->Prop
 |[],_=>True|t::ts,(x,y)=>t.ok x/\AL.ok ts y
section
variable{g:Nat->Option Nat}{ρ aU:Nat->Value}{H H':a8}{G O O':Nat->Prop}{w w':World}{P:Program}{S:fA}{Z:aZ}{X:Ctx}{s:St}{a:Act}{K:List au->AV->Prop}{C:bQ->Prop}
theorem mM{c c':ba}{v:Value}(hn:c'.n=c.n)(hs:c'.size=c.size)(hc:∀i j,i<c.n->j<c.size->c'.cell i j=c.cell i j)(h:bh O w (.ro c) v):bh O w (.ro c') v:=by
 cases h with
 |ro _ a cap us b o h1 h2 h3 h4 h5=>
  rw[<-hn];refine .ro c' a cap us b o (by omega) h2 (λh=>h3 (by omega)) (λi j hi hj=> ?_) (λi j hi hj=> ?_);rw[hs];exact h4 i j (by omega) (by omega);rw[hc i j (by omega) (by omega)];exact h5 i j (by omega) (by omega)
theorem RK.ou{r:RK}{c:ba}{x:r.V}(h:r.rd c=some x){v:Value}(hd:bh O w (.ro c) v):bh O w (.ro (r.uK x)) v:=by
 cases r
 case af k=>
  change ae5 k c=some x at h;unfold ae5 at h;split at h;rw[cond_eq_ite]at h;split at h;rename_i hk;obtain rfl:=bu hk;simp only[Option.some.injEq]at h;subst h;exact hd;cases h;cases h;exact fM (by rfl) (by rfl) hd;cases h
 case ah cs=>
  change ako cs c=some x at h;unfold ako at h;split at h;have⟨⟨e⟩,_,h2⟩:=map_eq_some_iff.1 h;subst e;rw[yp]at h2;subst h2;exact hd;cases h;exact fM (by rfl) (by rfl) hd;cases h
 case strs=>change ae6 c=some x at h;unfold ae6 at h;split at h<;>cases h;exact hd;exact fM (by rfl) (by rfl) hd
 case bS=>change aaB c=some x at h;unfold aaB at h;split at h<;>cases h;exact hd;exact fM (by rfl) (by rfl) hd
theorem agh{r:RK}{v:Value}(h:∃a,v=.slice a 0 0):bh O w (.ro (r.uK [])) v:=by
 obtain⟨a,rfl⟩:=h;have hn:(r.uK []).n=0:=by cases r<;>rfl
 have:=bh.ro (O:=O) (w:=w) (r.uK []) a 0 (λ_ _=>undef) 0 0 (by omega) (zero_le _) (λh=>by omega) (λi j hi hj=>by omega) (λi j hi hj=>by omega);rwa[hn]at this
theorem yR{k:IntKind}:∀{aT:List AV} {zs:List Int} {cs:List Value},wu k aT=some zs->aE ρ H O w aT cs->zs.length=aT.length/\cs=zs.map (Value.int k)
 |[],zs,cs,h,hd=>by simp only[wu,Option.some.injEq]at h;subst h;exact⟨rfl,aG.1 hd⟩
 |a::aT,zs,cs,h,hd=>by
  unfold wu at h;split at h;rename_i heq;cases heq;rename_i k' n dA heq;simp only[List.cons.injEq]at heq;obtain⟨rfl,rfl⟩:=heq;rw[cond_eq_ite]at h;split at h;rename_i hk;obtain rfl:=bu hk;simp only[map_eq_some_iff]at h;obtain⟨zs',h1,rfl⟩:=h;obtain⟨c1,c2,rfl,h2,h3⟩:=aq.1 hd;obtain⟨h4,rfl⟩:=yR h1 h3;unfold aX at h2;obtain⟨u,rfl,h5⟩:=h2;cases h5;exact⟨by simp[h4],rfl⟩;cases h;cases h
theorem ack{k:IntKind}{a:AV}{n:Int}(h:akp k a=some n):a=.s (.int k n):=by
 unfold akp at h;split at h;rw[cond_eq_ite]at h;split at h;rename_i hk;obtain rfl:=bu hk;cases h;rfl;cases h;cases h
theorem yS{a:AV}{x:Bool}(h:ae7 a=some x):a=.s (.bool x):=by
 unfold ae7 at h;split at h<;>cases h;rfl
theorem acm{a:AV}{x:ByteArray}(h:akq a=some x):a=.s (.str x):=by
 unfold akq at h;split at h<;>cases h;rfl
theorem agi{a:AV}{x:FuncId}(h:asM a=some x):a=.s (.qF x):=by
 unfold asM at h;split at h<;>cases h;rfl
theorem agj{r:RK}{a:AV}{x:r.V}{v:Value}(h:yQ r a=some x)(hd:ag ρ H O w a v):ag aU H' O w (.s (.ro (r.uK x))) v:=by
 unfold yQ at h;split at h;cases h;unfold ag at hd;exact aK (agh hd);exact aK (RK.ou h (aC (by simp) hd));cases h
theorem agk{r:RK}{a:AV}{x:r.V}{cs:List Value}(h:yQ r a=some x)(hd:aX ρ H O w a cs):aX aU H' O w (.s (.ro (r.uK x))) cs:=by
 unfold yQ at h;split at h;cases h;unfold aX at *;obtain⟨u,rfl,h1⟩:=hd;exact⟨u,rfl,agh h1⟩;unfold aX at *;obtain⟨u,rfl,h1⟩:=hd;exact⟨u,rfl,RK.ou h h1⟩;cases h
theorem B.rdV{b:B}{a:AV}{x:b.V}{v:Value}(h:b.rd a=some x)(hd:ag ρ H O w a v):ag aU H' O w (b.av x) v:=by
 cases b with
 |int k=>rw[ack h]at hd;exact aK (aC (by simp) hd)
 |bool=>rw[yS h]at hd;exact aK (aC (by simp) hd)
 |str=>rw[acm h]at hd;exact aK (aC (by simp) hd)
 |fn=>rw[agi h]at hd;exact aK (aC (by simp) hd)
 |row r e=>exact agj h hd|jM r e=>exact agj h hd|arr k n=>
  change acj k n a=some x at h;unfold acj at h;split at h;rw[cond_eq_ite]at h;split at h;rename_i hk;simp only[and_eq_true]at hk;obtain rfl:=bu hk.1;obtain rfl:=Nat.eq_of_beq_eq_true hk.2;cases h;unfold ag at *;exact hd;cases h;rw[cond_eq_ite]at h;split at h;rename_i aD hk;unfold ag at hd;obtain⟨cs,rfl,h2⟩:=hd;obtain⟨h3,rfl⟩:=yR h h2;show ag aU H' O w (.af k n x) _;unfold ag;exact⟨by rw[h3];exact Nat.eq_of_beq_eq_true hk,rfl⟩;cases h;cases h
theorem B.rdC{b:B}{a:AV}{x:b.V}{cs:List Value}(h:b.rd a=some x)(hd:aX ρ H O w a cs):aX aU H' O w (b.av x) cs:=by
 cases b with
 |int k=>rw[ack h]at hd;unfold aX at hd;show aX _ _ _ _ (.s (.int k x)) _;unfold aX;exact hd|bool=>rw[yS h]at hd;unfold aX at hd;show aX _ _ _ _ (.s (.bool x)) _;unfold aX;exact hd|str=>rw[acm h]at hd;unfold aX at hd;show aX _ _ _ _ (.s (.str x)) _;unfold aX;exact hd|fn=>rw[agi h]at hd;unfold aX at hd;show aX _ _ _ _ (.s (.qF x)) _;unfold aX;exact hd|row r e=>exact agk h hd|jM r e=>exact agk h hd|arr k n=>
  change acj k n a=some x at h;unfold acj at h;split at h;rw[cond_eq_ite]at h;split at h;rename_i hk;simp only[and_eq_true]at hk;obtain rfl:=bu hk.1;obtain rfl:=Nat.eq_of_beq_eq_true hk.2;cases h;show aX _ _ _ _ (.af _ _ _) _;unfold aX at *;exact hd;cases h;unfold aX at hd;exact hd.elim;cases h
theorem BL.ou:∀{bs:List B} {aD:List AV} {x:BL bs} {cs:List Value},BL.rd bs aD=some x->aE ρ H O w aD cs->aE aU H' O w (BL.av bs x) cs
 |[],[],x,cs,h,hd=>by rw[aG.1 hd];exact aG.2 rfl
 |[],a::aT,x,cs,h,hd=>by simp[BL.rd]at h
 |b::bs,[],x,cs,h,hd=>by simp[BL.rd]at h
 |b::bs,a::aT,x,cs,h,hd=>by
  unfold BL.rd at h;split at h;rename_i y z h1 h2;cases h;obtain⟨c1,c2,rfl,h3,h4⟩:=aq.1 hd;exact aq.2 ⟨c1,c2,rfl,B.rdC h1 h3,BL.ou h2 h4⟩;cases h
theorem Ty.ou{t:Ty}{a:AV}{x:t.V}{v:Value}(h:t.rd a=some x)(hd:ag ρ H O w a v):ag aU H' O w (t.av x) v:=by
 cases t with
 |b y=>exact B.rdV h hd|st bs=>
  change asN bs a=some x at h;unfold asN at h;split at h;show ag _ _ _ _ (.agg _) _;unfold ag at *;have⟨cs,h1,h2⟩:=hd;exact⟨cs,h1,BL.ou h h2⟩;cases h
theorem AL.ou:∀{ts:List Ty} {aT:List AV} {x:AL ts} {vs:List Value},AL.rd ts aT=some x->bI ρ H O w aT vs->bI aU H' O w (AL.av ts x) vs
 |[],[],x,vs,h,hd=>by rw[bp.1 hd];exact bp.2 rfl
 |[],a::aT,x,vs,h,hd=>by simp[AL.rd]at h
 |t::ts,[],x,vs,h,hd=>by simp[AL.rd]at h
 |t::ts,a::aT,x,vs,h,hd=>by
  unfold AL.rd at h;split at h;rename_i y z h1 h2;cases h;obtain⟨v,rest,rfl,h3,h4⟩:=aJ.1 hd;exact aJ.2 ⟨v,rest,rfl,Ty.ou h1 h3,AL.ou h2 h4⟩;cases h
theorem uL{r:RK}{x:r.V}{v:Value}(h:bh O w (.ro (r.uK x)) v):List.length x<=maxLen:=by
 generalize hc:r.uK x=c at h;cases h with
 |ro _ a cap us bb o h1 h2 _ _ _=>
  have:(r.uK x).n=x.length:=by cases r<;>rfl
  rw[<-hc]at h1;omega
theorem B.okV{b:B}{x:b.V}{v:Value}(hd:ag ρ H O w (b.av x) v):b.ok x:=by
 cases b with
 |row r e=>exact uL (aC (by simp) hd)
 |jM r e=>exact uL (aC (by simp) hd)
 |arr k n=>change ag ρ H O w (.af k n x) v at hd;unfold ag at hd;exact hd.1|_=>trivial
theorem B.okC{b:B}{x:b.V}{cs:List Value}(hd:aX ρ H O w (b.av x) cs):b.ok x:=by
 cases b with
 |row r e=>
  change aX ρ H O w (.s (.ro (r.uK x))) cs at hd;unfold aX at hd;have⟨u,_,h⟩:=hd;exact uL h
 |jM r e=>
  change aX ρ H O w (.s (.ro (r.uK x))) cs at hd;unfold aX at hd;have⟨u,_,h⟩:=hd;exact uL h
 |arr k n=>change aX ρ H O w (.af k n x) cs at hd;unfold aX at hd;exact hd.1|_=>trivial
theorem BL.okS:∀{bs:List B} {x:BL bs} {cs:List Value},aE ρ H O w (BL.av bs x) cs->BL.ok bs x
 |[],x,cs,h=>trivial|b::bs,(x,y),cs,h=>by
  obtain⟨c1,c2,rfl,h3,h4⟩:=aq.1 h;exact⟨B.okC h3,BL.okS h4⟩
theorem Ty.okV{t:Ty}{x:t.V}{v:Value}(hd:ag ρ H O w (t.av x) v):t.ok x:=by
 cases t with
 |b y=>exact B.okV hd|st bs=>
  change ag ρ H O w (.agg (BL.av bs x)) v at hd;unfold ag at hd;have⟨cs,_,h⟩:=hd;exact BL.okS h
theorem AL.okL:∀{ts:List Ty} {x:AL ts} {vs:List Value},bI ρ H O w (AL.av ts x) vs->AL.ok ts x
 |[],x,vs,h=>trivial|t::ts,(x,y),vs,h=>by
  obtain⟨v,rest,rfl,h3,h4⟩:=aJ.1 h;exact⟨Ty.okV h3,AL.okL h4⟩
end
def mN(ces:List (Bool×ba×TypeId))(L:List au)(a:AV):AV×List au×List (Bool×ba×TypeId):=
 match a with
 |.emp=>match ces with
  |(ro,c,e)::r=>bif c.n.beq 0 then(bif ro then(.s (.ro c),L,r)else(.vec L.length,L++[.vec c e],r))else(.emp,L,r)|[]=>(.emp,L,[])
 |.vec id=>match ces with
  |(true,_,_)::r=>(match L[id]? with
   |some (.vec c _)=>(.s (.ro c),L.set id .aH,r)|_=>(.vec id,L,r))
  |_=>(.vec id,L,ces.tail)
 |.s (.ro c)=>(.s (.ro c),L,ces.tail)|.part id lo n=>(match L[id]? with
  |some (.vec c e)=>(.vec L.length,L.set id .aH++[.vec (dJ c lo (lo+n)) e],ces.tail)|_=>(.part id lo n,L,ces.tail))
 |a=>(a,L,ces)
def sN(f:List (Bool×ba×TypeId)->List au->AV->AV×List au×List (Bool×ba×TypeId)):List (Bool×ba×TypeId)->List au->List AV->List AV×List au×List (Bool×ba×TypeId)
 |ces,L,[]=>([],L,ces)|ces,L,a::aT=>let p:=f ces L a;let q:=sN f p.2.2 p.2.1 aT;(p.1::q.1,q.2.1,q.2.2)
def rl(ces:List (Bool×ba×TypeId))(L:List au)(a:AV):AV×List au×List (Bool×ba×TypeId):=
 match a with
 |.agg aD=>let q:=sN mN ces L aD;(.agg q.1,q.2.1,q.2.2)|a=>mN ces L a
def ae8(ces:List (Bool×ba×TypeId))(L:List au)(a:AV):AV×List au:=
 match a with
 |.bd vs=>let q:=sN rl ces L vs;(.bd q.1,q.2.1)|a=>let q:=rl ces L a;(q.1,q.2.1)
def aom(ces:List (Bool×ba×TypeId))(L:List au)(r:AV):Option (List au×AV):=
 let p:=ae8 ces L r;let σ:=reach p.2 4000 (age 20 p.1) []
 bif sK σ then
  match re σ p.2,rn (idx σ) 20 p.1 with
  |some L',some r'=>some (L',r')|_,_=>none
 else none
section
variable{g:Nat->Option Nat}{ρ aU:Nat->Value}{H H':a8}{G O O':Nat->Prop}{w w':World}{P:Program}{S:fA}{Z:aZ}{X:Ctx}{s:St}{a:Act}{K:List au->AV->Prop}{C:bQ->Prop}{L:List au}
abbrev lk(L:List au):a8:=λi=>L[i]?
abbrev yT(ρ:Nat->Value)(L:List au)(G:Nat->Prop)(w:World)(aU:Nat->Value)(L':List au):Prop:=Step ρ (lk L) (bg ρ (lk L) G) w aU (lk L') (bg aU (lk L') G) w
theorem ext1(hs:Sat ρ (lk L) G w){c:ba}(hc:c.n=0)(e:TypeId)(r:Option Addr):∃aU,Sat aU (lk (L++[.vec c e])) G w/\yT ρ L G w aU (L++[.vec c e])/\∀O,aS aU (lk (L++[.vec c e])) O w (.vec L.length) (.slice r 0 0):=by
 have mB:eQ (.slice r 0 0)=none:=by cases r<;>simp[eQ]
 let aU:Nat->Value:=λj=>if j=L.length then .slice r 0 0 else ρ j
 have st:yT ρ L G w aU (L++[.vec c e]):=Step.alloc mB
 have old:∀{id:Nat} {o:au},(L++[.vec c e])[id]? =some o->(id=L.length/\o=.vec c e)\/(id≠L.length/\L[id]? =some o):=by
  intro id o ho;have h2:=(List.getElem?_eq_some_iff.1 ho).1;simp only[length_append,length_cons,length_nil]at h2;by_cases dI:id=L.length;subst dI;simp at ho;exact .inl ⟨rfl,ho.symm⟩;refine .inr ⟨dI, ?_⟩;rwa[getElem?_append_left (by omega)]at ho
 have dR:∀b,Own aU (lk (L++[.vec c e])) b->Own ρ (lk L) b:=by
  rintro b ⟨id,o,ho,ha,hb⟩;rcases old ho with⟨h1,h2⟩|⟨h1,h2⟩;simp only[aU,h1,if_true]at hb;rw[mB]at hb;cases hb;simp only[aU,h1,if_false]at hb;exact⟨id,o,h2,ha,hb⟩
 refine⟨aU,⟨λid o ho=> ?_,λi j oi oj b hi hj ai aj bi bj=> ?_,λb hb=>hs.apart b (dR b hb),hs.low⟩,st,λO=> ?_⟩;rcases old ho with⟨h1,h2⟩|⟨h1,h2⟩;subst h2;simp only[aU,h1,if_true];exact⟨r,0,by rw[hc],by omega,zero_le _,.inl rfl⟩;simp only[aU,h1,if_false];exact(hs.obj id o h2).step st (λ_ _ _=>rfl);rcases old hi with⟨h1,h2⟩|⟨h1,h2⟩;simp only[aU,h1,if_true]at bi;rw[mB]at bi;cases bi;rcases old hj with⟨h3,h4⟩|⟨h3,h4⟩;simp only[aU,h3,if_true]at bj;rw[mB]at bj;cases bj;simp only[aU,h1,if_false]at bi;simp only[aU,h3,if_false]at bj;exact hs.inj i j oi oj b h2 h4 ai aj bi bj;unfold aS;exact⟨rfl,.vec c e,by simp[lk],λc' e' _=>(if_pos rfl).symm⟩
theorem akr{c:ba}(hc:c.n=0)(r:Option Addr):bh O w (.ro c) (.slice r 0 0):=by
 have:=bh.ro (O:=O) (w:=w) c r 0 (λ_ _=>undef) 0 0 (by omega) (zero_le _) (λh=>by omega) (λi j hi hj=>by omega) (λi j hi hj=>by omega);rwa[hc]at this
theorem aon(hs:Sat ρ (lk L) G w){id:Nat}{c:ba}{e:TypeId}(dI:L[id]? =some (.vec c e)):
 Sat ρ (lk (L.set id .aH)) G w/\yT ρ L G w ρ (L.set id .aH)/\bh (bg ρ (lk (L.set id .aH)) G) w (.ro c) (ρ id):=by
 have br:id<L.length:=(List.getElem?_eq_some_iff.1 dI).1
 have old:∀{k:Nat} {o:au},(L.set id .aH)[k]? =some o->(k=id/\o=.aH)\/(k≠id/\L[k]? =some o):=by
  intro k o ho;rw[getElem?_set]at ho;split at ho;rename_i hk
  first
   |exact .inl ⟨hk.symm,by simpa using ho.symm⟩
   |(rw[if_pos br]at ho;exact .inl ⟨hk.symm,by simpa using ho.symm⟩)
  rename_i hk;exact .inr ⟨Ne.symm hk,ho⟩
 have dR:∀b,Own ρ (lk (L.set id .aH)) b->Own ρ (lk L) b/\eQ (ρ id)≠some b:=by
  rintro b ⟨k,o,ho,ha,hb⟩;rcases old ho with⟨_,rfl⟩|⟨h1,h2⟩;cases ha;refine⟨⟨k,o,h2,ha,hb⟩,λhb2=>h1 (hs.inj k id o _ b h2 dI ha rfl hb hb2)⟩
 have st:yT ρ L G w ρ (L.set id .aH):=by
  refine⟨λ_ _ _=>rfl,λk o ho=> ?_,λb hb=>.inl ?_,λ_ _ _=>rfl,le_refl _⟩;by_cases hk:k=id;subst hk;exact⟨.aH,by show(L.set k .aH)[k]? =_;rw[List.getElem?_set_self br],λc' e' hc=>by cases hc⟩;exact⟨o,by show(L.set id .aH)[k]? =_;rw[List.getElem?_set_ne (Ne.symm hk)];exact ho,λc' e' hc=>⟨c',e',hc,rfl,rfl⟩⟩;rcases hb with hb|hb;exact .inl (dR b hb).1;exact .inr hb
 refine⟨⟨λk o ho=> ?_,λi j oi oj b hi hj ai aj bi bj=> ?_,λb hb=>hs.apart b (dR b hb).1,hs.low⟩,st, ?_⟩;rcases old ho with⟨_,rfl⟩|⟨h1,h2⟩;trivial;exact(hs.obj k o h2).step st (λ_ _ _=>rfl);rcases old hi with⟨_,rfl⟩|⟨h1,h2⟩;cases ai;rcases old hj with⟨_,rfl⟩|⟨h3,h4⟩;cases aj;exact hs.inj i j oi oj b h2 h4 ai aj bi bj;have⟨r,cap,h0,h1,h2,h3⟩:=hs.obj id _ dI;rcases h3 with h3|⟨b,f,cells,fr,us,rfl,h5,h6,h7,h8⟩;rw[h0];have hc:c.n=0:=by omega
 exact .ro c r cap (λ_ _=>undef) 0 0 h1 h2 (λh=>by omega) (λi j hi hj=>by omega) (λi j hi hj=>by omega);by_cases xW:cap=0;rw[h0];exact .ro c _ cap (λ_ _=>undef) 0 0 h1 h2 (λh=>by omega) (λi j hi hj=>by omega) (λi j hi hj=>by omega);have mB:eQ (ρ id)=some b:=by rw[h0];simp[eQ,xW]
 have yU:¬bg ρ (lk (L.set id .aH)) G b:=by
  rintro(hb|hb);exact(dR b hb).2 mB;exact hs.apart b ⟨id,_,dI,rfl,mB⟩ hb
 rw[h0];refine .ro c _ cap us b f h1 h2 (λ_=>⟨rfl,yU,(Array.getElem?_eq_some_iff.1 h5).1⟩) (λi j hi hj=> ?_) (λi j hi hj=>(h8 i j hi hj).2.less (λb hb=> ?_));have:=(h8 i j hi hj).1;simp only[World.cell?,h5];simpa using this;rcases hb with hb|hb;exact .inl (dR b hb).1;exact .inr hb
theorem agl(hs:Sat ρ (lk L) G w){id lo n:Nat}{c:ba}{e:TypeId}{v:Value}(dI:L[id]? =some (.vec c e))(hv:ag ρ (lk L) (bg ρ (lk L) G) w (.part id lo n) v):
 ∃aU,Sat aU (lk (L.set id .aH++[.vec (dJ c lo (lo+n)) e])) G w/\yT ρ L G w aU (L.set id .aH++[.vec (dJ c lo (lo+n)) e])/\∀O,aS aU (lk (L.set id .aH++[.vec (dJ c lo (lo+n)) e])) O w (.vec L.length) v:=by
 obtain⟨g0,a,cap,a',g1,g2,g3,rfl,g4,g5⟩:=jc hs dI hv;have br:id<L.length:=(List.getElem?_eq_some_iff.1 dI).1;generalize hx:au.vec (dJ c lo (lo+n)) e=x;have hxa:x.alive=true:=by rw[<-hx];rfl
 have old:∀{k:Nat} {o:au},(L.set id .aH++[x])[k]? =some o->(k=L.length/\o=x)\/(k=id/\o=.aH)\/(k≠id/\k≠L.length/\L[k]? =some o):=by
  intro k o ho;have h2:=(List.getElem?_eq_some_iff.1 ho).1;simp only[length_append,List.length_set,length_cons,length_nil]at h2;by_cases hk:k=L.length;subst hk;rw[getElem?_append_right (by simp)]at ho;simp at ho;exact .inl ⟨rfl,ho.symm⟩;rw[getElem?_append_left (by simp;omega),getElem?_set]at ho;split at ho;rename_i hk2
  first
   |exact .inr (.inl ⟨hk2.symm,by simpa using ho.symm⟩)
   |(rw[if_pos br]at ho;exact .inr (.inl ⟨hk2.symm,by simpa using ho.symm⟩))
  rename_i hk2;exact .inr (.inr ⟨Ne.symm hk2,hk,ho⟩)
 have new:∀{k:Nat} {o:au},L[k]? =some o->k≠id->(L.set id .aH++[x])[k]? =some o:=by
  intro k o ho hk;have h1:=(List.getElem?_eq_some_iff.1 ho).1;rw[getElem?_append_left (by simpa using h1),List.getElem?_set_ne (Ne.symm hk)];exact ho
 have aks:(L.set id .aH++[x])[id]? =some .aH:=by
  rw[getElem?_append_left (by simpa using br),List.getElem?_set_self br]
 have avP:(L.set id .aH++[x])[L.length]? =some x:=by
  rw[getElem?_append_right (by simp)];simp
 have qS:∀b,eQ (.slice a' n (cap - lo))=some b->eQ (ρ id)=some b:=by
  intro b hb;cases a' with
  |none=>simp[eQ]at hb|some y=>
   simp only[eQ]at hb;split at hb;cases hb;rename_i cG;obtain⟨b',o,rfl⟩:=g5 (by omega);have:=g4 (by omega);simp only[map_some,bo,Option.some.injEq]at this hb;subst this;rw[g1];simp only[eQ];rw[if_neg (by omega)];exact congrArg some hb
 let aU:Nat->Value:=λj=>if j=L.length then .slice a' n (cap - lo)else ρ j
 have dR:∀b,Own aU (lk (L.set id .aH++[x])) b->Own ρ (lk L) b:=by
  rintro b ⟨k,o,ho,ha,hb⟩;rcases old ho with⟨h1,h2⟩|⟨h1,h2⟩|⟨h1,h2,h3⟩;simp only[aU,h1,if_true]at hb;exact⟨id,_,dI,rfl,qS b hb⟩;subst h2;cases ha;simp only[aU,h2,if_false]at hb;exact⟨k,o,h3,ha,hb⟩
 have st:yT ρ L G w aU (L.set id .aH++[x]):=by
  refine⟨λk o ho=> ?_,λk o ho=> ?_,λb hb=>.inl ?_,λ_ _ _=>rfl,le_refl _⟩;have h1:k<L.length:=(List.getElem?_eq_some_iff.1 ho).1;simp only[aU];rw[if_neg (by omega)];by_cases hk:k=id;subst hk;exact⟨.aH,aks,λc' e' hc=>by cases hc⟩;exact⟨o,new ho hk,λc' e' hc=>⟨c',e',hc,rfl,rfl⟩⟩;rcases hb with hb|hb;exact .inl (dR b hb);exact .inr hb
 refine⟨aU,⟨λk o ho=> ?_,λi j oi oj b hi hj ai aj bi bj=> ?_,λb hb=>hs.apart b (dR b hb),hs.low⟩,st,λO=> ?_⟩;rcases old ho with⟨h1,h2⟩|⟨h1,h2⟩|⟨h1,h2,h3⟩;rw[h2];have qD:=st;simp only[aU,h1,if_true];rw[<-hx]at qD ⊢;have hn:(dJ c lo (lo+n)).n=n:=by rw[oS c (by omega) g0];omega
 have bZ:=jH c lo (lo+n);refine⟨a',cap - lo,by rw[hn],by rw[hn];omega,by omega, ?_⟩;have⟨a2,qP,k1,k2,k3,k4⟩:=hs.obj id _ dI;rw[g1]at k1;cases k1;by_cases hc:cap=lo;exact .inl (by omega);rcases k4 with k4|⟨b,o,cells,fr,us,rfl,h5,h6,h7,h8⟩;omega;refine .inr ⟨b,o+lo*c.size,cells,fr,λi j=>us (lo+i) j,by rw[g4 hc];simp[bo],h5,h6, ?_,λi j hi hj=> ?_⟩;rw[bZ];have:lo*c.size+(cap - lo)*c.size=cap*c.size:=by rw[<-add_mul];congr 1;omega
 omega;rw[hn]at hi;rw[bZ]at hj ⊢;have⟨h9,uv⟩:=h8 (lo+i) j (by omega) hj;refine⟨?_,by rw[jI c j (by omega)];exact uv.step qD.gf qD.heap qD.size⟩;rw[show o+lo*c.size+i*c.size+j=o+(lo+i)*c.size+j from by rw[add_mul];omega];exact h9;subst h2;trivial;simp only[aU,h2,if_false];exact(hs.obj k o h3).step st (λ_ _ _=>rfl)
 have cls:∀{k:Nat} {o:au},(L.set id .aH++[x])[k]? =some o->o.alive=true->eQ (aU k)=some b->(k=L.length/\eQ (ρ id)=some b)\/(k≠id/\k≠L.length/\L[k]? =some o/\eQ (ρ k)=some b):=by
  intro k o ho ha hb;rcases old ho with⟨h1,h2⟩|⟨h1,h2⟩|⟨h1,h2,h3⟩;simp only[aU,h1,if_true]at hb;exact .inl ⟨h1,qS b hb⟩;subst h2;cases ha;simp only[aU,h2,if_false]at hb;exact .inr ⟨h1,h2,h3,hb⟩
 rcases cls hi ai bi with⟨h1,h2⟩|⟨h1,h2,h3,h4⟩<;>rcases cls hj aj bj with⟨k1,k2⟩|⟨k1,k2,k3,k4⟩;rw[h1,k1];exact absurd (hs.inj j id oj _ b k3 dI aj rfl k4 h2) k1;exact absurd (hs.inj i id oi _ b h3 dI ai rfl h4 k2) h1;exact hs.inj i j oi oj b h3 k3 ai aj h4 k4;unfold aS;refine⟨rfl,x,avP,λc' e' _=> ?_⟩;simp only[aU,if_true]
theorem agm{ces:List (Bool×ba×TypeId)}{a:AV}(hs:Sat ρ (lk L) G w):
 (∀v,ag ρ (lk L) (bg ρ (lk L) G) w a v→∃aU,Sat aU (lk (mN ces L a).2.1) G w∧yT ρ L G w aU (mN ces L a).2.1∧ag aU (lk (mN ces L a).2.1) (bg aU (lk (mN ces L a).2.1) G) w (mN ces L a).1 v)∧
 (∀cs,aX ρ (lk L) (bg ρ (lk L) G) w a cs→∃aU,Sat aU (lk (mN ces L a).2.1) G w∧yT ρ L G w aU (mN ces L a).2.1∧aX aU (lk (mN ces L a).2.1) (bg aU (lk (mN ces L a).2.1) G) w (mN ces L a).1 cs):=by
 have same:∀a,(∀v,ag ρ (lk L) (bg ρ (lk L) G) w a v→∃aU,Sat aU (lk L) G w∧yT ρ L G w aU L∧ag aU (lk L) (bg aU (lk L) G) w a v)∧(∀cs,aX ρ (lk L) (bg ρ (lk L) G) w a cs→∃aU,Sat aU (lk L) G w∧yT ρ L G w aU L∧aX aU (lk L) (bg aU (lk L) G) w a cs):=
  fun a=>⟨fun v h=>⟨ρ,hs,Step.refl _ _ _ _,h⟩,fun cs h=>⟨ρ,hs,Step.refl _ _ _ _,h⟩⟩
 unfold mN;split;split;rename_i ro c e r;cases hc:c.n.beq 0;exact same _;have hc:=Nat.eq_of_beq_eq_true hc;cases ro;refine⟨fun v h=> ?_,fun cs h=> ?_⟩;unfold ag at h;obtain⟨x,rfl⟩:=h;obtain⟨aU,h1,h2,h3⟩:=ext1 hs hc e x;exact⟨aU,h1,h2,by simp only[cond_true,cond_false];unfold ag;exact h3 _⟩;unfold aX at h;obtain⟨u,rfl,x,rfl⟩:=h;obtain⟨aU,h1,h2,h3⟩:=ext1 hs hc e x;exact⟨aU,h1,h2,by simp only[cond_true,cond_false];unfold aX;exact⟨_,rfl,h3 _⟩⟩;refine⟨fun v h=> ?_,fun cs h=> ?_⟩;unfold ag at h;obtain⟨x,rfl⟩:=h;exact⟨ρ,hs,Step.refl _ _ _ _,aK (akr hc x)⟩;unfold aX at h;obtain⟨u,rfl,x,rfl⟩:=h;exact⟨ρ,hs,Step.refl _ _ _ _,by simp only[cond_true];unfold aX;exact⟨_,rfl,akr hc x⟩⟩;exact same _;rename_i id;split;split;rename_i c e dI;obtain⟨f1,f2,f3⟩:=aon hs dI
 have key:∀v,aS ρ (lk L) (bg ρ (lk L) G) w (.vec id) v→v=ρ id:=by
  intro v hv;unfold aS at hv;obtain⟨_,o,ho,h4⟩:=hv;rw[show lk L id=some (.vec c e)from dI]at ho;cases ho;exact h4 c e rfl
 refine⟨fun v h=>⟨ρ,f1,f2, ?_⟩,fun cs h=>⟨ρ,f1,f2, ?_⟩⟩;unfold ag at h;rw[key v h];exact aK f3;unfold aX at h;obtain⟨u,rfl,h5⟩:=h;unfold aX;exact⟨u,rfl,by rw[key u h5];exact f3⟩;exact same _;exact same _;exact same _;rename_i id lo n;split;rename_i c e dI;refine⟨fun v h=> ?_,fun cs h=> ?_⟩;obtain⟨aU,h1,h2,h3⟩:=agl hs dI h;exact⟨aU,h1,h2,by unfold ag;exact h3 _⟩;unfold aX at h;obtain⟨u,rfl,h5⟩:=h;obtain⟨aU,h1,h2,h3⟩:=agl hs dI (by unfold ag;exact h5);exact⟨aU,h1,h2,by unfold aX;exact⟨u,rfl,h3 _⟩⟩;exact same _;exact same _
theorem wv:∀(aT:List AV) {ces:List (Bool×ba×TypeId)} {L:List au} {ρ:Nat->Value} {cs:List Value},Sat ρ (lk L) G w->aE ρ (lk L) (bg ρ (lk L) G) w aT cs->
 ∃aU,Sat aU (lk (sN mN ces L aT).2.1) G w/\yT ρ L G w aU (sN mN ces L aT).2.1/\aE aU (lk (sN mN ces L aT).2.1) (bg aU (lk (sN mN ces L aT).2.1) G) w (sN mN ces L aT).1 cs
 |[],ces,L,ρ,cs,hs,hd=>⟨ρ,hs,Step.refl _ _ _ _,hd⟩|a::aT,ces,L,ρ,cs,hs,hd=>by
  obtain⟨c1,c2,rfl,h1,h2⟩:=aq.1 hd;have⟨ma,h3,h4,h5⟩:=(agm (ces:=ces) hs).2 c1 h1;have⟨gG,h6,h7,h8⟩:=wv aT (ces:=(mN ces L a).2.2) h3 (aE.step h4 aT c2 h2);exact⟨gG,h6,h4.trans h7,aq.2 ⟨c1,c2,rfl,aX.step h7 _ _ h5,h8⟩⟩
theorem agn{ces:List (Bool×ba×TypeId)}{a:AV}{v:Value}(hs:Sat ρ (lk L) G w)(hd:ag ρ (lk L) (bg ρ (lk L) G) w a v):
 ∃aU,Sat aU (lk (rl ces L a).2.1) G w/\yT ρ L G w aU (rl ces L a).2.1/\ag aU (lk (rl ces L a).2.1) (bg aU (lk (rl ces L a).2.1) G) w (rl ces L a).1 v:=by
 unfold rl;split;rename_i aD;unfold ag at hd;have⟨cs,h1,h2⟩:=hd;have⟨aU,h3,h4,h5⟩:=wv aD (ces:=ces) hs h2;exact⟨aU,h3,h4,by unfold ag;exact⟨cs,h1,h5⟩⟩;exact(agm hs).1 v hd
theorem wx:∀(aT:List AV) {ces:List (Bool×ba×TypeId)} {L:List au} {ρ:Nat->Value} {vs:List Value},Sat ρ (lk L) G w->bI ρ (lk L) (bg ρ (lk L) G) w aT vs->
 ∃aU,Sat aU (lk (sN rl ces L aT).2.1) G w/\yT ρ L G w aU (sN rl ces L aT).2.1/\bI aU (lk (sN rl ces L aT).2.1) (bg aU (lk (sN rl ces L aT).2.1) G) w (sN rl ces L aT).1 vs
 |[],ces,L,ρ,cs,hs,hd=>⟨ρ,hs,Step.refl _ _ _ _,hd⟩|a::aT,ces,L,ρ,cs,hs,hd=>by
  obtain⟨v,rest,rfl,h1,h2⟩:=aJ.1 hd;have⟨ma,h3,h4,h5⟩:=agn (ces:=ces) hs h1;have⟨gG,h6,h7,h8⟩:=wx aT (ces:=(rl ces L a).2.2) h3 (bI.step h4 aT rest h2);exact⟨gG,h6,h4.trans h7,aJ.2 ⟨v,rest,rfl,ag.step h7 _ _ h5,h8⟩⟩
theorem aoo{ces:List (Bool×ba×TypeId)}{a:AV}{v:Value}(hs:Sat ρ (lk L) G w)(hd:ag ρ (lk L) (bg ρ (lk L) G) w a v):
 ∃aU,Sat aU (lk (ae8 ces L a).2) G w/\yT ρ L G w aU (ae8 ces L a).2/\ag aU (lk (ae8 ces L a).2) (bg aU (lk (ae8 ces L a).2) G) w (ae8 ces L a).1 v:=by
 unfold ae8;split;rename_i vs;unfold ag at hd;have⟨us,h1,h2⟩:=hd;have⟨aU,h3,h4,h5⟩:=wx vs (ces:=ces) hs h2;exact⟨aU,h3,h4,by unfold ag;exact⟨us,h1,h5⟩⟩;exact agn hs hd
theorem aip{ces:List (Bool×ba×TypeId)}{r r':AV}{v:Value}{L':List au}(h:Good ρ H G w (lk L) r v w')(h0:∀id,H id=none)(hc:aom ces L r=some (L',r')):Good ρ H G w (lk L') r' v w':=by
 unfold aom at hc;simp only[cond_eq_ite]at hc;split at hc;rename_i hn;split at hc;rename_i L1 r1 hL hr;simp only[Option.some.injEq,Prod.mk.injEq]at hc;obtain⟨rfl,rfl⟩:=hc;have⟨ma,h1,h2,h3,h4⟩:=h;have⟨gG,h5,h6,h7⟩:=aoo (ces:=ces) h1 h2;exact Good.view (m:=0) ⟨gG,h5,h7,h3.trans h6,h4⟩ (kU hn) hL (λi hi=>by omega) (λid _=>h0 id) hr;cases hc;cases hc
end
def B.out(base:Nat):(b:B)->b.V->AV×List au
 |.row r e,x=>(.vec base,[.vec (r.uK x) e])|.int k,x=>(.s (.int k x),[])|.bool,x=>(.s (.bool x),[])|.str,x=>(.s (.str x),[])|.arr k n,x=>(.af k n x,[])|.fn,f=>(.s (.qF f),[])|.jM r _,x=>(.s (.ro (r.uK x)),[])
def BL.out(base:Nat):(bs:List B)->BL bs->List AV×List au
 |[],_=>([],[])|b::bs,(x,y)=>let p:=b.out base x;let q:=BL.out (base+p.2.length) bs y;(p.1::q.1,p.2++q.2)
def Ty.out(base:Nat):(t:Ty)->t.V->AV×List au
 |.b x,v=>x.out base v|.st bs,v=>let q:=BL.out base bs v;(.agg q.1,q.2)
def AL.out(base:Nat):(ts:List Ty)->AL ts->List AV×List au
 |[],_=>([],[])|t::ts,(x,y)=>let p:=t.out base x;let q:=AL.out (base+p.2.length) ts y;(p.1::q.1,p.2++q.2)
def AL.res(rs:List Ty)(y:AL rs):List au×AV:=let q:=AL.out 0 rs y;(q.2,oneOf q.1)
def B.flat:B->Bool
 |.row r _=>r.flat|.jM _ _=>false|_=>true
def Ty.flat:Ty->Bool
 |.b x=>x.flat|.st bs=>bs.all B.flat
def B.pE:B->Bool
 |.row r _=>r.flat|_=>true
def Ty.pE:Ty->Bool
 |.b x=>x.pE|.st bs=>bs.all B.pE
def B.ces:B->List (Bool×ba×TypeId)
 |.row r e=>[(false,r.uK [],e)]|.jM r e=>[(true,r.uK [],e)]|_=>[]
def Ty.ces:Ty->List (Bool×ba×TypeId)
 |.b x=>x.ces|.st bs=>bs.flatMap B.ces
def cg(P:Program)(Z:aZ)(f:FuncId)(ts rs:List Ty)(pre:AL ts->List Prop)(F:AL ts->AL rs):Prop:=
 ∀(x:AL ts),AL.ok ts x->bE (pre x)->∀(G:Nat->Prop) (w:World) (vs:List Value),(∀b,G b->b<w.heap.size)->Z.ok w->bI (λ_=>undef) (λ_=>none) (bg (λ_=>undef) (λ_=>none) G) w (AL.av ts x) vs->
  Calls P f vs.toArray w λe w'=>∃v,e=.returned v/\Good (λ_=>undef) (λ_=>none) G w (lk (AL.res rs (F x)).1) (AL.res rs (F x)).2 v w'
def Ends(rs:List Ty)(y:AL rs)(L:List au)(r:AV):Prop:=aom (rs.flatMap Ty.ces) L r=some (AL.res rs y)
def aik(a:AV)(k:AV->RM bP):RM bP:=
 match a with
 |.vec id=>.look id λ
  |some (.vec c _)=>k (.s (.ro c))|_=>.fail ""
 |a=>k a
def asO:List AV->(List AV->RM bP)->RM bP
 |[],k=>k []|a::aT,k=>aik a λa'=>asO aT λdA=>k (a'::dA)
def asP(a:AV)(k:AV->RM bP):RM bP:=
 match a with
 |.agg aD=>asO aD λs=>k (.agg s)|a=>aik a k
def asQ:List AV->(List AV->RM bP)->RM bP
 |[],k=>k []|a::aT,k=>asP a λa'=>asQ aT λdA=>k (a'::dA)
def bM(ts rs:List Ty)(pre:AL ts->List Prop)(F:AL ts->AL rs):Nat->List AV->RM bP:=λ_ args=>
 asQ args λargs=>match allM (rn (λ_=>none) 20) args with
  |some args=>(match AL.rd ts args with
   |some x=>bif rs.all Ty.flat then .ret ⟨pre x,[],(AL.res rs (F x)).1,λbase=>oneOf (AL.out base rs (F x)).1⟩else .fail ""|none=>.fail "")
  |none=>.fail ""
section
variable{g:Nat->Option Nat}{ρ aU:Nat->Value}{H H':a8}{G O O':Nat->Prop}{w w':World}{P:Program}{S:fA}{Z:aZ}{X:Ctx}{s:St}{a:Act}{K:List au->AV->Prop}{C:bQ->Prop}{L:List au}
theorem AL.yV:∀{ts:List Ty} (x:AL ts),(AL.av ts x).length=ts.length
 |[],_=>rfl|_::_,(_,y)=>congrArg (· +1) (AL.yV y)
theorem ay{f:FuncId}{fn:Func}{ts rs:List Ty}{pre:AL ts->List Prop}{F:AL ts->AL rs}(hf:P.funcs[f]? =some fn)(hb:fn.body.isSome=true)(hn:ts.length.ble fn.ntmps=true)
 (h:∀x,AL.ok ts x->bE (pre x)->∀X:Ctx,(∀id,X.H id=none)->cP Z X->Safe P f X (Ends rs (F x)) (start fn (AL.av ts x) [])):cg P Z f ts rs pre F:=by
 intro x hok l9 G w vs hG hz hd;have⟨c,hb⟩:=isSome_iff_exists.1 hb;have hn:=le_of_ble_eq_true hn;have avQ:(AL.av ts x).length=ts.length:=AL.yV x
 have ov:∀{aT:List AV} {vs:List Value},bI (λ_=>undef) (λ_=>none) (bg (λ_=>undef) (λ_=>none) G) w aT vs->vs.length=aT.length:=by
  intro aT
  induction aT with
  |nil=>intro vs h;rw[bp.1 h];rfl
  |cons a aT ih=>intro vs h;obtain⟨v,rest,rfl,_,h2⟩:=aJ.1 h;simp[ih h2]
 refine(iS (R:=ki ⟨λ_=>undef,λ_=>none,G,w,[]⟩ (Ends rs (F x))) hf hb ?_).mono ?_;have:=(h x hok l9 ⟨λ_=>undef,λ_=>none,G,w,[]⟩ (λ_=>rfl) ⟨hz,λb _ ⟨id,o,ho,_⟩=>by cases ho⟩).goes rfl rfl (ρ:=λ_=>undef) (a:={tmps:=vs.toArray++Array.replicate (fn.ntmps - vs.toArray.size) undef,defers:=[]}) (w:=w);simp only[start,hb,getD_some]at this;refine this ⟨⟨λid o ho=>by simp[St.look]at ho,λi j oi oj b hi=>by simp[St.look]at hi,λb vF=> ?_,hG⟩, ?_,λt=> ?_,rfl, ?_, ?_,λx hx=>by cases hx⟩;have⟨id,o,ho,_⟩:=vF;simp[St.look]at ho;have:=ov hd;simp[this]
 have e1:∀t,ag (λ_=>undef) (St.look ⟨AL.av ts x++replicate (fn.ntmps - (AL.av ts x).length) (.bd []),[]⟩) (bg (λ_=>undef) (St.look ⟨AL.av ts x++replicate (fn.ntmps - (AL.av ts x).length) (.bd []),[]⟩) G) w ((AL.av ts x).getD t (.bd [])) (vs.getD t undef):=by
  have e0:(St.look ⟨AL.av ts x++replicate (fn.ntmps - (AL.av ts x).length) (.bd []),[]⟩)=λ_=>none:=by funext i;simp[St.look]
  rw[e0];generalize AL.av ts x=aT at hd;clear avQ e0 this
  induction aT generalizing vs with
  |nil=>intro t;rw[bp.1 hd];simp only[List.getD,List.getElem?_nil,Option.getD_none];exact cX
  |cons a aT ih=>
   intro t;obtain⟨v,rest,rfl,h1,h2⟩:=aJ.1 hd;cases t with
   |zero=>simpa using h1|succ t=>simpa using ih rest h2 t
 have h1:=e1 t;have hl:=ov hd;simp only[List.getD_eq_getElem?_getD,List.getElem?_append,List.getElem?_replicate,getD_eq_getD_getElem?,Array.getElem?_append,List.getElem?_toArray,Array.getElem?_replicate,List.size_toArray]at h1 ⊢;rw[hl];split;rename_i ht;have hv:vs[t]? =some vs[t]:=getElem?_eq_getElem (by omega);have ha:(AL.av ts x)[t]? =some (AL.av ts x)[t]:=getElem?_eq_getElem ht;rw[hv,ha]at h1 ⊢;exact h1;split;exact cX;simp only[Option.getD_none];unfold ag;trivial;have e0:(St.look ⟨AL.av ts x++replicate (fn.ntmps - (AL.av ts x).length) (.bd []),[]⟩)=λ_=>none:=by funext i;simp[St.look]
 rw[e0];exact Step.refl _ _ _ _;exact⟨rfl,rfl,rfl,λ_ _ _=>rfl⟩;rintro e w' ⟨v,he,L,r,hk,hg⟩;refine⟨v,he, ?_⟩;exact aip hg (λ_=>rfl) hk
theorem RM.ago{aT:AV}{k:AV->RM bP}{q:bP}(h:(aik aT k).eval H=some q)(hs:Sat ρ H G w):∃a',(k a').eval H=some q/\(∀v,ag ρ H (bg ρ H G) w aT v->ag ρ H (λ_=>False) w a' v)/\(∀cs,aX ρ H (bg ρ H G) w aT cs->aX ρ H (λ_=>False) w a' cs):=by
 have less:Emb (λi=>some i) ρ H (bg ρ H G) ρ H (λ_=>False):=⟨λi j h=>by cases h;exact⟨rfl,λo ho=>⟨o,ho,λc e hc=>hc⟩⟩,λb hb=>hb.elim⟩;have avR:∀(a:AV) (v:Value),ag ρ H (bg ρ H G) w a v->ag ρ H (λ_=>False) w a v:=λa v hd=>ag.step ⟨λ_ _ _=>rfl,λ_ o h=>⟨o,h,λc' e' e=>⟨c',e',e,rfl,rfl⟩⟩,λb hb=>hb.elim,λ_ _ _=>rfl,le_refl _⟩ a v hd;have avS:∀(a:AV) (v:List Value),aX ρ H (bg ρ H G) w a v->aX ρ H (λ_=>False) w a v:=λa v hd=>aX.step ⟨λ_ _ _=>rfl,λ_ o h=>⟨o,h,λc' e' e=>⟨c',e',e,rfl,rfl⟩⟩,λb hb=>hb.elim,λ_ _ _=>rfl,le_refl _⟩ a v hd;unfold aik at h;split at h;rename_i id;simp only[RM.eval]at h;split at h;rename_i c e hc;have ej:=hs.obj id _ hc;have⟨r,cap,h0,h1,h2,h3⟩:=ej
 have key:∀v,aS ρ H (bg ρ H G) w (.vec id) v->bh (λ_=>False) w (.ro c) v:=by
  intro v hv;unfold aS at hv;have⟨_,o,ho,h4⟩:=hv;rw[hc]at ho;cases ho;rw[h4 c e rfl,h0];rcases h3 with h3|⟨b,f,cells,fr,us,rfl,h5,h6,h7,h8⟩;exact .ro c r cap (λ_ _=>undef) 0 0 h1 h2 (λh=>by omega) (λi j hi hj=>by omega) (λi j hi hj=>by omega);refine .ro c _ cap us b f h1 h2 (λ_=>⟨rfl,λh=>h.elim,(Array.getElem?_eq_some_iff.1 h5).1⟩) (λi j hi hj=> ?_) (λi j hi hj=>(h8 i j hi hj).2.less (λb hb=>hb.elim));have:=(h8 i j hi hj).1;simp only[World.cell?,h5];simpa using this
 exact⟨_,h,λv hv=>aK (key v (by unfold ag at hv;exact hv)),λcs hv=>by unfold aX at *;obtain⟨u,rfl,h9⟩:=hv;exact⟨u,rfl,key u h9⟩⟩;simp[RM.eval]at h;exact⟨_,h,avR _,avS _⟩
theorem RM.agp:∀{aT:List AV} {k:List AV->RM bP} {q:bP},(asO aT k).eval H=some q->Sat ρ H G w->∃dA,(k dA).eval H=some q/\∀cs,aE ρ H (bg ρ H G) w aT cs->aE ρ H (λ_=>False) w dA cs
 |[],k,q,h,hs=>⟨[],h,λcs hd=>by rw[aG.1 hd];exact aG.2 rfl⟩
 |a::aT,k,q,h,hs=>by
  have⟨a',h1,h2,h3⟩:=RM.ago h hs;have⟨dA,h4,h5⟩:=RM.agp h1 hs;refine⟨a'::dA,h4,λcs hd=> ?_⟩;obtain⟨c1,c2,rfl,h6,h7⟩:=aq.1 hd;exact aq.2 ⟨c1,c2,rfl,h3 c1 h6,h5 c2 h7⟩
theorem RM.aop{aT:AV}{k:AV->RM bP}{q:bP}(h:(asP aT k).eval H=some q)(hs:Sat ρ H G w):∃a',(k a').eval H=some q/\(∀v,ag ρ H (bg ρ H G) w aT v->ag ρ H (λ_=>False) w a' v):=by
 unfold asP at h;split at h;have⟨dA,h1,h2⟩:=RM.agp h hs;refine⟨_,h1,λv hd=> ?_⟩;unfold ag at *;have⟨cs,h3,h4⟩:=hd;exact⟨cs,h3,h2 cs h4⟩;have⟨a',h1,h2,_⟩:=RM.ago h hs;exact⟨a',h1,h2⟩
theorem RM.agq:∀{aT:List AV} {k:List AV->RM bP} {q:bP},(asQ aT k).eval H=some q->Sat ρ H G w->∃dA,(k dA).eval H=some q/\∀cs,bI ρ H (bg ρ H G) w aT cs->bI ρ H (λ_=>False) w dA cs
 |[],k,q,h,hs=>⟨[],h,λcs hd=>by rw[bp.1 hd];exact bp.2 rfl⟩
 |a::aT,k,q,h,hs=>by
  have⟨a',h1,h2⟩:=RM.aop h hs;have⟨dA,h4,h5⟩:=RM.agq h1 hs;refine⟨a'::dA,h4,λcs hd=> ?_⟩;obtain⟨v,rest,rfl,h6,h7⟩:=aJ.1 hd;exact aJ.2 ⟨v,rest,rfl,h2 v h6,h5 rest h7⟩
theorem tN:∀{cs:List CK} (_:cs.all CK.flat=true) {x:CL cs} {j:Nat} {u:Value},j<CL.wide cs->bh O w (CL.cell cs x j) u->bh O' w (CL.cell cs x j) u
 |[],_,x,j,u,hj,h=>by simp[CL.wide]at hj
 |c::cs,hf,x,j,u,hj,h=>by
  simp only[all_cons,and_eq_true]at hf;simp only[CL.cell]at h ⊢;rcases lt_or_ge j c.wide with h5|h5
  ·rw[nk h5,cond_true]at h ⊢;cases c<;>simp only[CK.flat,Bool.false_eq_true]at hf
   case int k=>exact(by simp only[CK.cell]at h ⊢;cases h;constructor)
   case bool=>exact(by simp only[CK.cell]at h ⊢;cases h;constructor)
   case str=>exact(by simp only[CK.cell]at h ⊢;cases h;constructor)
   case arr k n=>exact(by simp only[CK.cell]at h ⊢;cases h;constructor)
   all_goals exact hf.1.elim
  ·rw[qO h5,cond_false]at h ⊢;exact tN hf.2 (by simp only[CL.wide]at hj;omega) h
theorem RK.acn{r:RK}(hr:r.flat=true){x:r.V}{i j:Nat}{u:Value}(hj:j<(r.uK x).size)(h:bh O w ((r.uK x).cell i j) u):bh O' w ((r.uK x).cell i j) u:=by
 cases r
 case ah cs=>exact tN hr hj h
 all_goals (simp only[RK.uK,ba.cell]at h ⊢;cases h;constructor)
def Plain(o:au):Prop:=∃(r:RK) (x:r.V) (e:TypeId),r.flat=true/\o=.vec (r.uK x) e
theorem B.eZ{b:B}(hb:b.pE=true){x:b.V}{base:Nat}:∀o∈(b.out base x).2,Plain o:=by
 cases b with
 |row r e=>intro o ho;simp only[B.out,mem_singleton]at ho;exact⟨r,x,e,hb,ho⟩
 |_=>intro o ho;simp[B.out]at ho
theorem BL.eZ:∀{bs:List B},bs.all B.pE=true->∀{x:BL bs} {base:Nat},∀o∈(BL.out base bs x).2,Plain o
 |[],_,x,base,o,ho=>by simp[BL.out]at ho
 |b::bs,hb,(x,y),base,o,ho=>by
  simp only[all_cons,and_eq_true]at hb;simp only[BL.out,mem_append]at ho;rcases ho with ho|ho;exact B.eZ hb.1 o ho;exact BL.eZ hb.2 o ho
theorem Ty.eZ{t:Ty}(ht:t.pE=true){x:t.V}{base:Nat}:∀o∈(t.out base x).2,Plain o:=by
 cases t with
 |b y=>exact B.eZ ht|st bs=>exact BL.eZ ht
theorem AL.eZ:∀{ts:List Ty},ts.all Ty.pE=true->∀{x:AL ts} {base:Nat},∀o∈(AL.out base ts x).2,Plain o
 |[],_,x,base,o,ho=>by simp[AL.out]at ho
 |b::bs,hb,(x,y),base,o,ho=>by
  simp only[all_cons,and_eq_true]at hb;simp only[AL.out,mem_append]at ho;rcases ho with ho|ho;exact Ty.eZ hb.1 o ho;exact AL.eZ hb.2 o ho
structure rp (base n:Nat) (ρ:Nat->Value) (H:a8) (aU:Nat->Value) (H':a8):Prop where
 yq:∀i,i<n->aU (base+i)=ρ i
 heap:∀i,i<n->H' (base+i)=H i
theorem yW{base n k:Nat}(sh:rp base n ρ H aU H')(hk:k<n){v:Value}(h:aS ρ H O w (.vec k) v):aS aU H' O' w (.vec (base+k)) v:=by
 unfold aS at *;have⟨h0,o,ho,h1⟩:=h;exact⟨h0,o,by rw[sh.heap k hk];exact ho,λc e hc=>by rw[sh.yq k hk];exact h1 c e hc⟩
theorem B.asR{base n k:Nat}(sh:rp base n ρ H aU H'){b:B}(hO:b.flat=true\/∀i,O' i->O i){x:b.V}(hk:k+(b.out k x).2.length<=n){v:Value}(h:ag ρ H O w (b.out k x).1 v):ag aU H' O' w (b.out (base+k) x).1 v:=by
 cases b with
 |row r e=>
  simp only[B.out,length_cons,length_nil]at hk h ⊢;unfold ag at *;exact yW sh (by omega) h
 |int k=>exact aK (by have:=aC (by simp) h;cases this;constructor)
 |bool=>exact aK (by have:=aC (by simp) h;cases this;constructor)
 |str=>exact aK (by have:=aC (by simp) h;cases this;constructor)
 |fn=>exact aK (by have:=aC (by simp) h;cases this;constructor)
 |jM r e=>
  rcases hO with hO|hO;cases hO;exact aK ((aC (by simp) h).less hO)
 |arr k n=>simp only[B.out]at h ⊢;unfold ag at *;exact h
theorem B.asS{base n k:Nat}(sh:rp base n ρ H aU H'){b:B}(hO:b.flat=true\/∀i,O' i->O i){x:b.V}(hk:k+(b.out k x).2.length<=n){v:List Value}(h:aX ρ H O w (b.out k x).1 v):aX aU H' O' w (b.out (base+k) x).1 v:=by
 cases b with
 |row r e=>
  simp only[B.out,length_cons,length_nil]at hk h ⊢;unfold aX at *;obtain⟨u,rfl,h1⟩:=h;exact⟨u,rfl,yW sh (by omega) h1⟩
 |int k=>simp only[B.out]at h ⊢;unfold aX at *;obtain⟨u,rfl,h1⟩:=h;exact⟨u,rfl,by cases h1;constructor⟩
 |bool=>simp only[B.out]at h ⊢;unfold aX at *;obtain⟨u,rfl,h1⟩:=h;exact⟨u,rfl,by cases h1;constructor⟩
 |str=>simp only[B.out]at h ⊢;unfold aX at *;obtain⟨u,rfl,h1⟩:=h;exact⟨u,rfl,by cases h1;constructor⟩
 |fn=>simp only[B.out]at h ⊢;unfold aX at *;obtain⟨u,rfl,h1⟩:=h;exact⟨u,rfl,by cases h1;constructor⟩
 |jM r e=>
  simp only[B.out]at h ⊢;unfold aX at *;obtain⟨u,rfl,h1⟩:=h;rcases hO with hO|hO;cases hO;exact⟨u,rfl,h1.less hO⟩
 |arr k n=>simp only[B.out]at h ⊢;unfold aX at *;exact h
theorem B.kV{b:B}{x:b.V}(k k':Nat):(b.out k x).2=(b.out k' x).2:=by cases b<;>rfl
theorem BL.kV:∀{bs:List B} {x:BL bs} (k k':Nat),(BL.out k bs x).2=(BL.out k' bs x).2
 |[],_,_,_=>rfl|b::bs,(x,y),k,k'=>by
  simp only[BL.out];rw[B.kV k k',BL.kV (k+_) (k'+(b.out k' x).2.length)]
theorem Ty.kV{t:Ty}{x:t.V}(k k':Nat):(t.out k x).2=(t.out k' x).2:=by
 cases t with
 |b y=>exact B.kV k k'|st bs=>exact BL.kV k k'
theorem BL.shift{base n:Nat}(sh:rp base n ρ H aU H'):∀{bs:List B} (_:bs.all B.flat=true\/∀i,O' i->O i) {k:Nat} {x:BL bs} {cs:List Value},k+(BL.out k bs x).2.length<=n->aE ρ H O w (BL.out k bs x).1 cs->aE aU H' O' w (BL.out (base+k) bs x).1 cs
 |[],_,k,x,cs,hk,h=>by rw[aG.1 h];exact aG.2 rfl
 |b::bs,hO,k,(x,y),cs,hk,h=>by
  simp only[BL.out,length_append]at hk h ⊢;obtain⟨c1,c2,rfl,h1,h2⟩:=aq.1 h;have hO1:b.flat=true\/∀i,O' i->O i:=hO.imp (λh=>by simp only[all_cons,and_eq_true]at h;exact h.1) (λh=>h);have hO2:bs.all B.flat=true\/∀i,O' i->O i:=hO.imp (λh=>by simp only[all_cons,and_eq_true]at h;exact h.2) (λh=>h);refine aq.2 ⟨c1,c2,rfl,B.asS sh hO1 (by omega) h1, ?_⟩;rw[B.kV (base+k) k,add_assoc];exact BL.shift sh hO2 (by omega) h2
theorem Ty.shift{base n k:Nat}(sh:rp base n ρ H aU H'){t:Ty}(hO:t.flat=true\/∀i,O' i->O i){x:t.V}(hk:k+(t.out k x).2.length<=n){v:Value}(h:ag ρ H O w (t.out k x).1 v):ag aU H' O' w (t.out (base+k) x).1 v:=by
 cases t with
 |b y=>exact B.asR sh hO hk h|st bs=>
  simp only[Ty.out]at hk h ⊢;unfold ag at *;have⟨cs,h1,h2⟩:=h;exact⟨cs,h1,BL.shift sh hO hk h2⟩
theorem AL.shift{base n:Nat}(sh:rp base n ρ H aU H'):∀{ts:List Ty} (_:ts.all Ty.flat=true\/∀i,O' i->O i) {k:Nat} {x:AL ts} {vs:List Value},k+(AL.out k ts x).2.length<=n->bI ρ H O w (AL.out k ts x).1 vs->bI aU H' O' w (AL.out (base+k) ts x).1 vs
 |[],_,k,x,vs,hk,h=>by rw[bp.1 h];exact bp.2 rfl
 |b::bs,hO,k,(x,y),cs,hk,h=>by
  simp only[AL.out,length_append]at hk h ⊢;obtain⟨c1,c2,rfl,h1,h2⟩:=aJ.1 h;have hO1:b.flat=true\/∀i,O' i->O i:=hO.imp (λh=>by simp only[all_cons,and_eq_true]at h;exact h.1) (λh=>h);have hO2:bs.all Ty.flat=true\/∀i,O' i->O i:=hO.imp (λh=>by simp only[all_cons,and_eq_true]at h;exact h.2) (λh=>h);refine aJ.2 ⟨c1,c2,rfl,Ty.shift sh hO1 (by omega) h1, ?_⟩;rw[Ty.kV (base+k) k,add_assoc];exact AL.shift sh hO2 (by omega) h2
theorem AL.aaC:∀{ts:List Ty} {x:AL ts} (k:Nat),(AL.out k ts x).1.length=ts.length
 |[],_,_=>rfl|b::bs,(x,y),k=>by simp[AL.out,AL.aaC]
theorem yX{base:Nat}{rs:List Ty}(hO:rs.all Ty.flat=true\/∀i,O' i->O i){y:AL rs}(sh:rp base (AL.res rs y).1.length ρ H aU H'){v:Value}(h:ag ρ H O w (AL.res rs y).2 v):ag aU H' O' w (oneOf (AL.out base rs y).1) v:=by
 unfold AL.res at h sh;simp only[]at h sh;have hl:∀vs,bI ρ H O w (AL.out 0 rs y).1 vs->bI aU H' O' w (AL.out (base+0) rs y).1 vs:=λvs=>AL.shift (k:=0) (x:=y) (O:=O) (O':=O') (w:=w) sh hO (by omega);have l0:=AL.aaC (x:=y) 0;have l1:=AL.aaC (x:=y) base;generalize (AL.out 0 rs y).1=aT at *;rw[add_zero]at hl;generalize (AL.out base rs y).1=bs at *;unfold oneOf at h ⊢;split at h;rename_i a;cases bs with
 |nil=>simp at l0 l1;omega|cons b bs=>
  cases bs with
  |nil=>
   have:=hl [v] (aJ.2 ⟨v,[],rfl,h,bp.2 rfl⟩);have⟨v',rest,e,h1,_⟩:=aJ.1 this;cases e;exact h1
  |cons c cs=>simp at l0 l1;omega
 rename_i cG;split;rename_i b;cases aT with
 |nil=>simp at l0 l1;omega|cons a aT=>
  cases aT with
  |nil=>exact(cG a rfl).elim|cons c cs=>simp at l0 l1;omega
 unfold ag at *;have⟨us,h1,h2⟩:=h;exact⟨us,h1,hl us h2⟩
def rq(P:Program)(Z:aZ)(f:FuncId)(s:Nat->List AV->RM bP):Prop:=
 ∀(base:Nat) (args:List AV) (H:a8) (q:bP),(s base args).eval H=some q->bE q.ab->∀(ρ:Nat->Value) (G:Nat->Prop) (w:World) (vs:List Value),
  (∀i,i<q.new.length->H (base+i)=none)->ZAt Z ρ H w->Sat ρ H G w->bI ρ H (bg ρ H G) w args vs->
  Calls P f vs.toArray w λen w'=>∃v,en=.returned v/\Good ρ H G w (dc H q.up base q.new) (q.r base) v w'
theorem cg.sum{f:FuncId}{ts rs:List Ty}{pre:AL ts->List Prop}{F:AL ts->AL rs}(h:cg P Z f ts rs pre F):rq P Z f (bM ts rs pre F):=by
 intro base args H q hq hn ρ G w vs dU hz hs hd;unfold bM at hq;have⟨avU,hq,h1⟩:=RM.agq hq hs;split at hq;rename_i avV h2;split at hq;rename_i x h3;rw[cond_eq_ite]at hq;split at hq;rename_i aco;simp only[RM.eval,Option.some.injEq]at hq;subst hq
 have asT:∀b,¬bg (λ_=>undef) (λ_=>none) (λ_=>False) b:=by
  rintro b (⟨id,o,ho,_⟩|hb);cases ho;exact hb
 have E:Emb (λ_=>none) ρ H (λ_=>False) (λ_=>undef) (λ_=>none) (bg (λ_=>undef) (λ_=>none) (λ_=>False)):=⟨λi j nZ=>(by cases nZ),λb hb=>(asT b hb).elim⟩;have hd2:=uJ E h2 (h1 vs hd);have hd3:bI (λ_=>undef) (λ_=>none) (bg (λ_=>undef) (λ_=>none) (λ_=>False)) w (AL.av ts x) vs:=AL.ou h3 hd2;refine(h x (AL.okL hd3) hn (λ_=>False) w vs (λb hb=>hb.elim) hz.1 hd3).mono ?_;rintro e w' ⟨v,he,ma,g1,g2,g3,g4⟩;refine⟨v,he, ?_⟩;simp only[]
 have asU:rs.all Ty.pE=true:=by
  rw[all_eq_true]at aco ⊢;intro t ht;have:=aco t ht;cases t with
  |b y=>cases y<;>first|rfl|exact this|cases this
  |st bs=>
   change bs.all B.flat=true at this;show bs.all B.pE=true;rw[all_eq_true]at this ⊢;intro b hb;have:=this b hb;cases b<;>first|rfl|exact this|cases this
 have hpl:=AL.eZ asU (x:=F x) (base:=0);have akt:(AL.res rs (F x)).1=(AL.out 0 rs (F x)).2:=rfl;rw[<-akt]at hpl;generalize hL:(AL.res rs (F x)).1=L at *
 have sM:∀b,Own ma (lk L) b->w.heap.size<=b:=λb hb=>by
  rcases g3.gf b (.inl hb)with h5|h5;exact(asT b h5).elim;exact h5
 let gG:Nat->Value:=λid=>if base<=id/\id<base+L.length then ma (id - base)else ρ id
 let H2:=dc H [] base L;have hH2:∀id,H2 id=if base<=id/\id<base+L.length then L[id - base]? else H id:=λid=>rfl
 have sh:rp base L.length ma (lk L) gG H2:=⟨λi hi=>by simp only[gG];rw[if_pos (by omega)];congr 1;omega,λi hi=>by rw[hH2,if_pos (by omega)];simp[lk]⟩
 have hold:∀{id:Nat} {o:au},H id=some o->¬(base<=id/\id<base+L.length):=λ{id o} ho hc=>by
  have:=dU (id - base) (by simp only[];omega);rw[show base+(id - base)=id from by omega,ho]at this;cases this
 have yY:∀b,Own gG H2 b->Own ma (lk L) b\/Own ρ H b:=by
  rintro b ⟨id,o,ho,ha,hb⟩;rw[hH2]at ho;simp only[gG]at hb;split at ho;rename_i hc;rw[if_pos hc]at hb;exact .inl ⟨id - base,o,ho,ha,hb⟩;rename_i hc;rw[if_neg hc]at hb;exact .inr ⟨id,o,ho,ha,hb⟩
 have heap:∀b,b<w.heap.size->w'.heap[b]? =w.heap[b]? :=λb hb=>g4.heap b hb (λho=>asT b (.inl ho));have acp:w.heap.size<=w'.heap.size:=g3.size
 have st:Step ρ H (bg ρ H G) w gG H2 (bg gG H2 G) w':=by
  refine⟨λid o ho=> ?_,λid o ho=> ?_,λb hb=> ?_,λb hb _=>heap b hb,acp⟩;simp only[gG];rw[if_neg (hold ho)];exact⟨o,by rw[hH2,if_neg (hold ho)];exact ho,λc' e' hc=>⟨c',e',hc,rfl,rfl⟩⟩;rcases hb with hb|hb;rcases yY b hb with h5|h5;exact .inr (sM b h5);exact .inl (.inl h5);exact .inl (.inr hb)
 refine⟨gG,⟨λid o ho=> ?_,λi j oi oj b hi hj ai aj bi bj=> ?_,λb hb hG=> ?_,λb hb=>Nat.lt_of_lt_of_le (hs.low b hb) acp⟩,yX (.inl aco) (O:=bg ma (lk L) (λ_=>False)) (hL▸sh) (by rw[hL];exact g2),st,⟨g4.os,g4.tape,g4.output,λb hb _=>heap b hb⟩⟩;change H2 id=some o at ho;rw[hH2]at ho;simp only[gG];split at ho;rename_i hc;rw[if_pos hc];have ej:=g1.obj (id - base) o ho;obtain⟨r,y,e',hr,rfl⟩:=hpl o (List.mem_of_getElem? ho);have⟨a0,cap,k0,k1,k2,k3⟩:=ej;refine⟨a0,cap,k0,k1,k2,k3.imp (λh=>h) ?_⟩;rintro⟨b,f0,cells,fr,us,k4,k5,k6,k7,k8⟩;exact⟨b,f0,cells,fr,us,k4,k5,k6,k7,λi j hi hj=>⟨(k8 i j hi hj).1,RK.acn hr hj (k8 i j hi hj).2⟩⟩;rename_i hc;rw[if_neg hc];have ej:=hs.obj id o ho;refine ej.step st (λb ha hb=>heap b ?_);exact gX hs ⟨id,o,ho,ha,hb⟩;change H2 i=some oi at hi;change H2 j=some oj at hj;rw[hH2]at hi hj;simp only[gG]at bi bj;split at hi;rename_i ci;rw[if_pos ci]at bi;have o1:Own ma (lk L) b:=⟨_,oi,hi,ai,bi⟩;split at hj;rename_i cj;rw[if_pos cj]at bj;have:=g1.inj (i - base) (j - base) oi oj b hi hj ai aj bi bj;omega;rename_i cj;rw[if_neg cj]at bj;have:=gX hs ⟨j,oj,hj,aj,bj⟩;have:=sM b o1;omega;rename_i ci;rw[if_neg ci]at bi;have h6:=gX hs ⟨i,oi,hi,ai,bi⟩;split at hj;rename_i cj;rw[if_pos cj]at bj;have:=sM b ⟨_,oj,hj,aj,bj⟩;omega;rename_i cj;rw[if_neg cj]at bj;exact hs.inj i j oi oj b hi hj ai aj bi bj;rcases yY b hb with h5|h5;have:=sM b h5;have:=hs.low b hG;omega;exact hs.apart b h5 hG;simp[RM.eval]at hq;simp[RM.eval]at hq;simp[RM.eval]at hq
abbrev aF:=List (FuncId×(Nat->List AV->RM bP))
def aF.get:aF->FuncId->Option (Nat->List AV->RM bP)
 |[],_=>none|(g,s)::t,f=>bif g.beq f then some s else aF.get t f
def aF.sum(t:aF):fA:=λbase f args=>match t.get f with
 |some s=>s base args|none=>.fail ""
def aF.Ok(P:Program)(Z:aZ)(t:aF):Prop:=∀x∈t,rq P Z x.1 x.2
theorem aF.get_mem:∀{t:aF} {f:FuncId} {s:Nat->List AV->RM bP},t.get f=some s->(f,s)∈t
 |[],f,s,h=>by simp[aF.get]at h
 |(g,s')::t,f,s,h=>by
  simp only[aF.get,cond_eq_ite]at h;split at h;rename_i hg;obtain rfl:=Nat.eq_of_beq_eq_true hg;cases h;simp;exact List.mem_cons_of_mem _ (aF.get_mem h)
theorem aF.sOk{t:aF}(h:t.Ok P Z):SOk P t.sum Z:=by
 intro base f args H q _ hq hn ρ G w vs hf hz hs hd;unfold aF.sum at hq;split at hq;rename_i s hg;exact h _ (aF.get_mem hg) base args H q hq hn ρ G w vs hf hz hs hd;simp[RM.eval]at hq
theorem aF.Ok.nil:aF.Ok P Z []:=λx hx=>by simp at hx
theorem aF.Ok.cons{f:FuncId}{s:Nat->List AV->RM bP}{t:aF}(h:rq P Z f s)(ht:aF.Ok P Z t):aF.Ok P Z ((f,s)::t):=by
 intro x hx;rcases mem_cons.1 hx with rfl|hx;exact h;exact ht x hx
end
def agr(a:AV)(ids:List Nat)(k:AV->List Nat->RM bP):RM bP:=
 match a with
 |.vec id=>.look id λ
  |some (.vec c _)=>k (.s (.ro c)) (id::ids)|_=>.fail ""
 |a=>k a ids
def aku:List AV->List Nat->(List AV->List Nat->RM bP)->RM bP
 |[],ids,k=>k [] ids|a::aT,ids,k=>agr a ids λa' ids=>aku aT ids λdA ids=>k (a'::dA) ids
def akv(a:AV)(ids:List Nat)(k:AV->List Nat->RM bP):RM bP:=
 match a with
 |.agg aD=>aku aD ids λs ids=>k (.agg s) ids|a=>agr a ids k
def akw:List AV->List Nat->(List AV->List Nat->RM bP)->RM bP
 |[],ids,k=>k [] ids|a::aT,ids,k=>akv a ids λa' ids=>akw aT ids λdA ids=>k (a'::dA) ids
def gH(ts rs:List Ty)(pre:AL ts->List Prop)(F:AL ts->AL rs):Nat->List AV->RM bP:=λ_ args=>
 akw args [] λargs ids=>match allM (rn (λ_=>none) 20) args with
  |some args=>(match AL.rd ts args with
   |some x=>bif rs.all Ty.pE then .ret ⟨pre x,ids.map λi=>(i,.aH),(AL.res rs (F x)).1,λbase=>oneOf (AL.out base rs (F x)).1⟩else .fail ""|none=>.fail "")
  |none=>.fail ""
section
variable{ρ aU:Nat->Value}{H H':a8}{G O O':Nat->Prop}{w w':World}{P:Program}{Z:aZ}
structure acq (ρ:Nat->Value) (H:a8) (G:Nat->Prop) (ids nA:List Nat):Prop where
 sub:∀i∈ids,i∈nA
 vec:∀i∈nA,i∈ids\/∃c e,H i=some (.vec c e)
abbrev kq(ρ:Nat->Value)(H:a8)(G:Nat->Prop)(ids:List Nat)(O:Nat->Prop):Prop:=(∀b,O b->bg ρ H G b)/\∀i∈ids,∀b,eQ (ρ i)=some b->¬O b
theorem acq.trans{a b c:List Nat}(h:acq ρ H G a b)(k:acq ρ H G b c):acq ρ H G a c:=
 ⟨λi hi=>k.sub i (h.sub i hi),λi hi=>(k.vec i hi).elim (λh1=>h.vec i h1) .inr⟩
theorem acr{a:AV}{ids:List Nat}{k:AV->List Nat->RM bP}{q:bP}(h:(agr a ids k).eval H=some q)(hs:Sat ρ H G w):
 ∃a' nA,(k a' nA).eval H=some q/\acq ρ H G ids nA/\∀O,kq ρ H G nA O->(∀v,ag ρ H (bg ρ H G) w a v->ag ρ H O w a' v)/\(∀cs,aX ρ H (bg ρ H G) w a cs->aX ρ H O w a' cs):=by
 have yT:∀O,kq ρ H G ids O->Step ρ H (bg ρ H G) w ρ H O w:=λO hO=>⟨λ_ _ _=>rfl,λ_ o h=>⟨o,h,λc' e' e=>⟨c',e',e,rfl,rfl⟩⟩,λb hb=>.inl (hO.1 b hb),λ_ _ _=>rfl,le_refl _⟩;unfold agr at h;split at h;rename_i id;simp only[RM.eval]at h;split at h;rename_i c e hc;have⟨r,cap,h0,h1,h2,h3⟩:=hs.obj id _ hc;refine⟨_,_,h,⟨λi hi=>by simp[hi],λi hi=> ?_⟩,λO hO=> ?_⟩;rcases mem_cons.1 hi with rfl|hi;exact .inr ⟨c,e,hc⟩;exact .inl hi
 have key:∀v,aS ρ H (bg ρ H G) w (.vec id) v->bh O w (.ro c) v:=by
  intro v hv;unfold aS at hv;have⟨_,o,ho,h4⟩:=hv;rw[hc]at ho;cases ho;rw[h4 c e rfl];have yU:=hO.2 id (by simp);rw[h0]at yU ⊢;rcases h3 with h3|⟨b,f,cells,fr,us,rfl,h5,h6,h7,h8⟩;exact .ro c r cap (λ_ _=>undef) 0 0 h1 h2 (λh=>by omega) (λi j hi hj=>by omega) (λi j hi hj=>by omega);by_cases xW:cap=0;exact .ro c _ cap (λ_ _=>undef) 0 0 h1 h2 (λh=>by omega) (λi j hi hj=>by omega) (λi j hi hj=>by omega);refine .ro c _ cap us b f h1 h2 (λ_=>⟨rfl,yU b (by simp[eQ,xW]),(Array.getElem?_eq_some_iff.1 h5).1⟩) (λi j hi hj=> ?_) (λi j hi hj=>(h8 i j hi hj).2.less hO.1);have:=(h8 i j hi hj).1;simp only[World.cell?,h5];simpa using this
 exact⟨λv hv=>aK (key v (by unfold ag at hv;exact hv)),λcs hv=>by unfold aX at *;obtain⟨u,rfl,h9⟩:=hv;exact⟨u,rfl,key u h9⟩⟩;simp[RM.eval]at h;exact⟨_,_,h,⟨λi hi=>hi,λi hi=>.inl hi⟩,λO hO=>⟨λv hv=>ag.step (yT O hO) _ v hv,λcs hv=>aX.step (yT O hO) _ cs hv⟩⟩
theorem kq.sub{a b:List Nat}(h:∀i∈a,i∈b)(k:kq ρ H G b O):kq ρ H G a O:=⟨k.1,λi hi=>k.2 i (h i hi)⟩
theorem acs:∀{aT:List AV} {ids:List Nat} {k:List AV->List Nat->RM bP} {q:bP},(aku aT ids k).eval H=some q->Sat ρ H G w->
 ∃dA nA,(k dA nA).eval H=some q/\acq ρ H G ids nA/\∀O,kq ρ H G nA O->∀cs,aE ρ H (bg ρ H G) w aT cs->aE ρ H O w dA cs
 |[],ids,k,q,h,hs=>⟨[],ids,h,⟨λ_ h=>h,λ_ h=>.inl h⟩,λO _ cs hd=>by rw[aG.1 hd];exact aG.2 rfl⟩
 |a::aT,ids,k,q,h,hs=>by
  have⟨a',i1,h1,f1,h2⟩:=acr h hs;have⟨dA,i2,h3,f2,h4⟩:=acs h1 hs;refine⟨a'::dA,i2,h3,f1.trans f2,λO hO cs hd=> ?_⟩;obtain⟨c1,c2,rfl,h6,h7⟩:=aq.1 hd;exact aq.2 ⟨c1,c2,rfl,(h2 O (kq.sub f2.sub hO)).2 c1 h6,h4 O hO c2 h7⟩
theorem akx{a:AV}{ids:List Nat}{k:AV->List Nat->RM bP}{q:bP}(h:(akv a ids k).eval H=some q)(hs:Sat ρ H G w):
 ∃a' nA,(k a' nA).eval H=some q/\acq ρ H G ids nA/\∀O,kq ρ H G nA O->∀v,ag ρ H (bg ρ H G) w a v->ag ρ H O w a' v:=by
 unfold akv at h;split at h;have⟨dA,i1,h1,f1,h2⟩:=acs h hs;refine⟨_,i1,h1,f1,λO hO v hd=> ?_⟩;unfold ag at *;have⟨cs,h3,h4⟩:=hd;exact⟨cs,h3,h2 O hO cs h4⟩;have⟨a',i1,h1,f1,h2⟩:=acr h hs;exact⟨a',i1,h1,f1,λO hO=>(h2 O hO).1⟩
theorem acu:∀{aT:List AV} {ids:List Nat} {k:List AV->List Nat->RM bP} {q:bP},(akw aT ids k).eval H=some q->Sat ρ H G w->
 ∃dA nA,(k dA nA).eval H=some q/\acq ρ H G ids nA/\∀O,kq ρ H G nA O->∀cs,bI ρ H (bg ρ H G) w aT cs->bI ρ H O w dA cs
 |[],ids,k,q,h,hs=>⟨[],ids,h,⟨λ_ h=>h,λ_ h=>.inl h⟩,λO _ cs hd=>by rw[bp.1 hd];exact bp.2 rfl⟩
 |a::aT,ids,k,q,h,hs=>by
  have⟨a',i1,h1,f1,h2⟩:=akx h hs;have⟨dA,i2,h3,f2,h4⟩:=acu h1 hs;refine⟨a'::dA,i2,h3,f1.trans f2,λO hO cs hd=> ?_⟩;obtain⟨c1,c2,rfl,h6,h7⟩:=aJ.1 hd;exact aJ.2 ⟨c1,c2,rfl,h2 O (kq.sub f2.sub hO) c1 h6,h4 O hO c2 h7⟩
theorem tO:∀(ids:List Nat) (j:Nat),cT (ids.map λi=>(i,.aH)) j=if j∈ids then some .aH else none
 |[],j=>rfl|i::ids,j=>by
  simp only[map_cons,cT,tO ids j];by_cases h:j∈ids;simp[h];by_cases h2:j=i;subst h2;simp[h];simp[h,h2]
theorem cg.gH{f:FuncId}{ts rs:List Ty}{pre:AL ts->List Prop}{F:AL ts->AL rs}(h:cg P Z f ts rs pre F):rq P Z f (gH ts rs pre F):=by
 intro base args H q hq hn ρ G w vs dU hz hs hd;unfold Sx.gH at hq;have⟨avU,ids,hq,hf,h1⟩:=acu hq hs;split at hq;rename_i avV h2;split at hq;rename_i x h3;rw[cond_eq_ite]at hq;split at hq;rename_i aco;simp only[RM.eval,Option.some.injEq]at hq;subst hq;have sn:∀i∈ids,∃c e,H i=some (.vec c e):=λi hi=>(hf.vec i hi).elim (λh=>by simp at h) (λh=>h);let Gc:Nat->Prop:=λb=>bg ρ H G b/\∀i∈ids,eQ (ρ i)≠some b
 have asV:∀b,bg (λ_=>undef) (λ_=>none) Gc b->Gc b:=by
  rintro b (⟨id,o,ho,_⟩|hb);cases ho;exact hb
 have yU:kq ρ H G ids (bg (λ_=>undef) (λ_=>none) Gc):=⟨λb hb=>(asV b hb).1,λi hi b hb hO=>(asV b hO).2 i hi hb⟩;have E:Emb (λ_=>none) ρ H (bg (λ_=>undef) (λ_=>none) Gc) (λ_=>undef) (λ_=>none) (bg (λ_=>undef) (λ_=>none) Gc):=⟨λi j nZ=>(by cases nZ),λb hb=>hb⟩;have hd2:=uJ E h2 (h1 _ yU vs hd);have hd3:bI (λ_=>undef) (λ_=>none) (bg (λ_=>undef) (λ_=>none) Gc) w (AL.av ts x) vs:=AL.ou h3 hd2;refine(h x (AL.okL hd3) hn Gc w vs (λb hb=>zX hs hb.1) hz.1 hd3).mono ?_;rintro e w' ⟨v,he,ma,g1,g2,g3,g4⟩;refine⟨v,he, ?_⟩;simp only[];have hpl:=AL.eZ aco (x:=F x) (base:=0);have akt:(AL.res rs (F x)).1=(AL.out 0 rs (F x)).2:=rfl;rw[<-akt]at hpl;generalize hL:(AL.res rs (F x)).1=L at *
 have sM:∀b,Own ma (lk L) b->w.heap.size<=b:=λb hb=>by
  rcases g3.gf b (.inl hb)with h5|h5;exact(g1.apart b hb (asV b h5)).elim;exact h5
 let gG:Nat->Value:=λid=>if base<=id/\id<base+L.length then ma (id - base)else ρ id
 let H2:=dc H (ids.map λi=>(i,.aH)) base L
 have hold:∀{id:Nat} {o:au},H id=some o->¬(base<=id/\id<base+L.length):=λ{id o} ho hc=>by
  have:=dU (id - base) (by simp only[];omega);rw[show base+(id - base)=id from by omega,ho]at this;cases this
 have hH2:∀id,H2 id=if id∈ids then some .aH else if base<=id/\id<base+L.length then L[id - base]? else H id:=λid=>by
  simp only[H2,dc,tO];split;rename_i hx;split at hx;rename_i hi;cases hx;rw[if_pos hi];cases hx;rename_i hx;split at hx;cases hx;rename_i hi;rw[if_neg hi]
 have asp:∀id,id∈ids->¬(base<=id/\id<base+L.length):=λid hi=>by
  have⟨c,e,hce⟩:=sn id hi;exact hold hce
 have sh:rp base L.length ma (lk L) gG H2:=⟨λi hi=>by simp only[gG];rw[if_pos (by omega)];congr 1;omega,λi hi=>by
  rw[hH2,if_neg (λhm=>asp _ hm ⟨by omega,by omega⟩),if_pos (by omega)];simp[lk]⟩
 have wy:∀{id:Nat} {o:au},H2 id=some o->o.alive=true->(base<=id/\id<base+L.length/\L[id - base]? =some o/\gG id=ma (id - base))\/(id ∉ ids/\H id=some o/\gG id=ρ id):=by
  intro id o ho ha;rw[hH2]at ho;split at ho;cases ho;cases ha;rename_i hi;split at ho;rename_i hc;exact .inl ⟨hc.1,hc.2,ho,by simp only[gG];rw[if_pos hc]⟩;rename_i hc;exact .inr ⟨hi,ho,by simp only[gG];rw[if_neg hc]⟩
 have ayw:∀{id:Nat} {o:au} {b:Nat},id ∉ ids->H id=some o->o.alive=true->eQ (ρ id)=some b->∀i∈ids,eQ (ρ i)≠some b:=by
  intro id o b dI ho ha hb i hi hb2;have⟨c,e,hce⟩:=sn i hi;have:=hs.inj id i o _ b ho hce ha rfl hb hb2;exact dI (this▸hi)
 have yY:∀b,Own gG H2 b->Own ma (lk L) b\/(Own ρ H b/\∀i∈ids,eQ (ρ i)≠some b):=by
  rintro b ⟨id,o,ho,ha,hb⟩;rcases wy ho ha with⟨_,_,h5,h6⟩|⟨h5,h6,h7⟩;rw[h6]at hb;exact .inl ⟨id - base,o,h5,ha,hb⟩;rw[h7]at hb;exact .inr ⟨⟨id,o,h6,ha,hb⟩,ayw h5 h6 ha hb⟩
 have avW:∀b,bg gG H2 G b->bg ma (lk L) Gc b:=by
  rintro b (hb|hb);rcases yY b hb with h5|h5;exact .inl h5;exact .inr ⟨.inl h5.1,h5.2⟩;refine .inr ⟨.inr hb,λi hi mB=> ?_⟩;have⟨c,e,hce⟩:=sn i hi;exact hs.apart b ⟨i,_,hce,rfl,mB⟩ hb
 have heap:∀b,b<w.heap.size->w'.heap[b]? =w.heap[b]? :=λb hb=>g4.heap b hb (λ⟨id,o,ho,_⟩=>by cases ho);have acp:w.heap.size<=w'.heap.size:=g3.size
 have st:Step ρ H (bg ρ H G) w gG H2 (bg gG H2 G) w':=by
  refine⟨λid o ho=> ?_,λid o ho=> ?_,λb hb=> ?_,λb hb _=>heap b hb,acp⟩;simp only[gG];rw[if_neg (hold ho)];by_cases hi:id∈ids;exact⟨.aH,by rw[hH2,if_pos hi],λc' e' hc=>by cases hc⟩;exact⟨o,by rw[hH2,if_neg hi,if_neg (hold ho)];exact ho,λc' e' hc=>⟨c',e',hc,rfl,rfl⟩⟩;rcases hb with hb|hb;rcases yY b hb with h5|h5;exact .inr (sM b h5);exact .inl (.inl h5.1);exact .inl (.inr hb)
 refine⟨gG,⟨λid o ho=> ?_,λi j oi oj b hi hj ai aj bi bj=> ?_,λb hb hG=> ?_,λb hb=>Nat.lt_of_lt_of_le (hs.low b hb) acp⟩,yX (.inr avW) (O:=bg ma (lk L) Gc) (hL▸sh) (by rw[hL];exact g2),st,⟨g4.os,g4.tape,g4.output,λb hb _=>heap b hb⟩⟩;cases vG:o.alive;cases o with
 |aH=>trivial|ak _ _=>cases vG
 |vec _ _=>cases vG
 |map _ _=>cases vG
 |xP _ _ _=>cases vG
 |iter _ _ _ _ _=>cases vG
 rcases wy ho vG with⟨_,_,h5,h6⟩|⟨h5,h6,h7⟩;rw[h6];have ej:=g1.obj (id - base) o h5;obtain⟨r,y,e',hr,rfl⟩:=hpl o (List.mem_of_getElem? h5);have⟨a0,cap,k0,k1,k2,k3⟩:=ej;refine⟨a0,cap,k0,k1,k2,k3.imp (λh=>h) ?_⟩;rintro⟨b,f0,cells,fr,us,k4,k5,k6,k7,k8⟩;exact⟨b,f0,cells,fr,us,k4,k5,k6,k7,λi j hi hj=>⟨(k8 i j hi hj).1,RK.acn hr hj (k8 i j hi hj).2⟩⟩;rw[h7];exact(hs.obj id o h6).step st (λb ha hb=>heap b (gX hs ⟨id,o,h6,ha,hb⟩));rcases wy hi ai with⟨i1,i2,i3,i4⟩|⟨i1,i2,i3⟩;rw[i4]at bi;rcases wy hj aj with⟨j1,j2,j3,j4⟩|⟨j1,j2,j3⟩;rw[j4]at bj;have:=g1.inj (i - base) (j - base) oi oj b i3 j3 ai aj bi bj;omega;rw[j3]at bj;have:=gX hs ⟨j,oj,j2,aj,bj⟩;have:=sM b ⟨_,oi,i3,ai,bi⟩;omega;rw[i3]at bi;rcases wy hj aj with⟨j1,j2,j3,j4⟩|⟨j1,j2,j3⟩;rw[j4]at bj;have:=gX hs ⟨i,oi,i2,ai,bi⟩;have:=sM b ⟨_,oj,j3,aj,bj⟩;omega;rw[j3]at bj;exact hs.inj i j oi oj b i2 j2 ai aj bi bj;rcases yY b hb with h5|h5;have:=sM b h5;have:=hs.low b hG;omega;exact hs.apart b h5.1 hG;simp[RM.eval]at hq;simp[RM.eval]at hq;simp[RM.eval]at hq
end
def slF:Nat->Nat->List (Nat×AV)->List AV
 |0,_,_=>[]|n+1,i,[]=>.s .bm::slF n (i+1) []|n+1,i,(j,a)::l=>bif j.beq i then a::slF n (i+1) l else .s .bm::slF n (i+1) ((j,a)::l)
def sl(n:Nat)(l:List (Nat×AV)):List AV:=slF n 0 l
def fQ:Code->Option Nat
 |.region id _ _=>some id|.seq a b=>match fQ a with
  |some i=>some i|none=>fQ b
 |.cond _ a b=>match fQ a with
  |some i=>some i|none=>fQ b
 |.block _ c|.loop c|.scope c=>fQ c|_=>none
def mO(key:Nat):Code->List Item->Option (List Item)
 |.seq a b,k=>match mO key a (.code b::k)with
  |some r=>some r|none=>mO key b k
 |.cond _ a b,k=>match mO key a k with
  |some r=>some r|none=>mO key b k
 |.block id c,k=>mO key c (.inBlock id::k)|.scope c,k=>mO key c (.inScope c::k)|.loop c,k=>match fQ c with
  |some i=>bif i.beq key then some (.code c::.inLoop c::k)else mO key c (.inLoop c::k)|none=>mO key c (.inLoop c::k)
 |_,_=>none
def hd(fn:Func)(key:Nat):List Item:=(mO key (fn.body.getD .skip) []).getD []
def ji(key:Nat):Code->List Item->Option (List Item)
 |.region id ops d,k=>bif id.beq key then some (.code (.region id ops d)::k)else none|.seq a b,k=>match ji key a (.code b::k)with
  |some r=>some r|none=>ji key b k
 |.cond _ a b,k=>match ji key a k with
  |some r=>some r|none=>ji key b k
 |.block id c,k=>ji key c (.inBlock id::k)|.scope c,k=>ji key c (.inScope c::k)|.loop c,k=>ji key c (.inLoop c::k)|_,_=>none
def hr(fn:Func)(key:Nat):List Item:=(ji key (fn.body.getD .skip) []).getD []
def keyOf(c:bQ):Nat:=match c.todo with
 |.code x::_=>afY c.stk ((fQ x).getD 0)|.inRegion ops todo::_=>aj8 c.stk c.stk.rid (ops.size - todo.length)|_=>0
def aiq:List (Nat×Norm)->Nat->Option Norm
 |[],_=>none|(i,n)::l,k=>bif i.beq k then some n else aiq l k
def avX:List Item->Bool
 |.inRegion _ _::_=>true|_=>false
def Tree.norm(ns:List (Nat×Norm)):Tree->Tree
 |.ab p t=>.ab p (t.norm ns)|.ite b t e=>.ite b (t.norm ns) (e.norm ns)|.both p q t e=>.both p q (t.norm ns) (e.norm ns)|.ret H v=>.ret H v|.stuck w=>.stuck w|.at c=>bif avX c.todo&&(aiq ns (keyOf c)).isNone then .at c else match aiq ns (keyOf c)with
  |some N=>(match N.run c with
   |some c'=>.at c'|none=>.stuck "")
  |none=>.stuck ""
def aky:List (Nat×Norm)->Nat->Bool
 |[],_=>false|(i,_)::l,k=>i.beq k||aky l k
def aq0:List FuncId->FuncId->Bool
 |[],_=>false|f::l,g=>f.beq g||aq0 l g
def run(P:Program)(S:fA)(fn:Func)(ns:List (Nat×Norm))(c:bQ)(inl:List FuncId:=[]):Tree:=(exec P S fn (aky ns) (aq0 inl) 1000 true c).norm ns
def cal(fn:Func)(key i:Nat):List Item:=
 match hr fn key with
 |.code (.region _ ops _)::k=>.inRegion ops (range' i (ops.size - i))::k|_=>[]
def kW(key:Nat):Code->List Item->Option (Lp×List Item)
 |.rangeFunc _ ps asg body,k=>match hM body with
  |some i=>bif i.beq key then some (⟨ps.toList,asg,body⟩,k)else none|none=>bif key.beq 0 then some (⟨ps.toList,asg,body⟩,k)else none
 |.seq a b,k=>match kW key a (.code b::k)with
  |some r=>some r|none=>kW key b k
 |.cond _ a b,k=>match kW key a k with
  |some r=>some r|none=>kW key b k
 |.block id c,k=>kW key c (.inBlock id::k)|.scope c,k=>kW key c (.inScope c::k)|.loop c,k=>kW key c (.inLoop c::k)|_,_=>none
def ags(fn:Func)(f:Option FuncId)(key:Nat)(marks:Nat):tE:=
 match kW key (fn.body.getD .skip) []with
 |some p=>⟨f,fn.ntmps,false,marks,some (p.1,.ready),p.2,(key,0)⟩|none=>⟨f,fn.ntmps,false,marks,none,[],(key,0)⟩
section
variable{P:Program}{S:fA}{Z:aZ}{X:Ctx}{K:List au->AV->Prop}{C C':bQ->Prop}
theorem acv:∀{l:List (Nat×Norm)} {k:Nat} {N:Norm},aiq l k=some N->∃i,(i,N)∈l
 |[],k,N,h=>by simp[aiq]at h
 |(i,n)::l,k,N,h=>by
  simp only[aiq,cond_eq_ite]at h;split at h;cases h;exact⟨i,by simp⟩;have⟨j,hj⟩:=acv h;exact⟨j,by simp[hj]⟩
theorem iG{ns:List (Nat×Norm)}{f:FuncId}(h0:∀x∈ns,∀id,x.2.m<=id->X.H id=none):∀(t:Tree),(t.norm ns).bt K (Safe P f X K)->t.bt K (Safe P f X K)
 |.ab p t,h=>⟨h.1,iG h0 t h.2⟩|.ite b t e,h=>⟨λhb=>iG h0 t (h.1 hb),λhb=>iG h0 e (h.2 hb)⟩|.both _ _ t e,h=>⟨λhp=>iG h0 t (h.1 hp),λhq=>iG h0 e (h.2 hq)⟩|.ret H v,h=>h|.stuck w,h=>h|.at c,h=>by
  unfold Tree.norm at h;rw[cond_eq_ite]at h;split at h;exact h;split at h;rename_i N hN;split at h;rename_i c' hc;have⟨i,hi⟩:=acv hN;exact Norm.safe (h0 _ hi) hc h;exact h.elim;exact h.elim
theorem aM{rs:List Ty}{y:AL rs}(y':AL rs){L:List au}{r:AV}(h:y=y')(hc:aom (rs.flatMap Ty.ces) L r=some (AL.res rs y')):Ends rs y L r:=by
 subst h;exact hc
theorem cR{f:FuncId}{fn:Func}{ns:List (Nat×Norm)}{c:bQ}{t:Tree}(hS:SOk P S Z)(nz:cP Z X)(hm:P.follows .mixedOrders=true)(hf:P.funcs[f]? =some fn)(h0:∀x∈ns,∀id,x.2.m<=id->X.H id=none)
 {inl:List FuncId} (ht:run P S fn ns c inl=t) (h:t.bt K (Safe P f X K)):Safe P f X K c:=by
 subst ht;exact fX hS nz hm hf 1000 true c (iG h0 _ h)
theorem ef{f:FuncId}{ι:Type}(c:ι->bQ)(I:ι->Prop)(m:ι->Nat)(h:∀x,I x->(∀y,I y->m y<m x->Safe P f X K (c y))->Safe P f X K (c x)):∀x,I x->Safe P f X K (c x):=by
 intro x
 induction hn:m x using Nat.strongRecOn generalizing x with
 |ind n ih=>
  intro hx;subst hn;exact h x hx (λy hy br=>ih (m y) br y rfl hy)
end
end Go.Sx
namespace Go.Sx
open Go Go.RowKit Go.ChangeShapes Go.WideShapes Go.ChangeAt
section
variable{H:Type}{enc:TypeId×Value->H}{P:Program}{W W':World}{Z:aZ}{base:Nat}{ρ:Nat->Value}{Hh:a8}{O:Nat->Prop}
structure air (W W':World):Prop where
 os:W'.os=W.os
 output:W'.output=W.output
 heap:∀b,b<W.heap.size->W'.heap[b]? =W.heap[b]?
theorem air.at(h:air W W'){p:MemPlace}(hp:p.block<W.heap.size):W.sameAt W' p:=by
 have e:=h.heap p.block hp;cases p with
 |cell b o=>exact(mC (o:=o) e)|map b=>exact e
theorem aaD{ts:List TypeId}(hl:laidOutB P=true)(hp:ts.all (λt=>P.readableRec t&&decide (t<P.types.size))=true){sp':Nat->Bool}(hs:air W W'):∀{vs:List Value} {ds:List (DataW H)} {ps:List MemPlace},
 DataW.TrodAll enc P W 0 (λ_=>true) true ts vs ds ps->(∀p∈ps,p.block<W.heap.size)->(∀p∈ps,sp' p.block=true)->DataW.TrodAll enc P W' 0 sp' true ts vs ds ps:=by
 induction ts with
 |nil=>intro vs ds ps h _ _;cases vs<;>cases ds<;>simp[DataW.TrodAll]at h ⊢;exact h
 |cons t ts ih=>
  intro vs ds ps h br hsp;simp only[all_cons,and_eq_true,decide_eq_true_eq]at hp;obtain⟨v,vs',d,ds',p,q,rfl,rfl,rfl,h1,h2⟩:=trodAll_cons h;refine⟨p,q, ?_,ih hp.2 h2 (λx hx=>br x (by simp[hx])) (λx hx=>hsp x (by simp[hx])),rfl⟩;exact WideElems.Trod_stays hl hp.1.1 hp.1.2 h1 (λx hx=>hs.at (br x (by simp[hx]))) (λx hx=>hsp x (by simp[hx]))
theorem ais(hs:air W W')(may:MemPlace->Prop):W.keptBut W' may:=by
 refine⟨hs.os,hs.output,λi hi=> ?_⟩;rw[hs.heap i hi,Array.getElem?_eq_getElem hi];cases h:W.heap[i]with
 |cells c t fr=>exact⟨rfl,rfl,rfl,λ_ _=>rfl⟩|map es clock=>exact .inr ⟨rfl,rfl⟩|_=>rfl
theorem ait{fn:Func}{s:ChangeSpec}{apart fresh handsOn:Bool}{args:Array Value}{ds gs:List (DataW H)}{before:List MemPlace}{tb:TypeId}
 (hl:laidOutB P=true) (hp:fn.params.toList.all (λt=>P.readableRec t&&decide (t<P.types.size))=true)
 (hr:fn.resultTypes= #[tb]) (hb:P.underlying tb=some .bool) (hv:s.vars=[])
 (hs:s.fn H ds={results:=[.lit (.bool true)],args:=ds})
 (hW:DataW.Whole enc P fn.params.toList s.vars apart W args.toList ds gs before) (agt:air W W'):
 s.post enc P fn apart fresh handsOn false W args (.bool true) W':=by
 have hW':=hW;obtain⟨p,q,h1,h2,rfl,_,_⟩:=hW;rw[hv]at h2;obtain⟨rfl,rfl⟩:=trodVars_none h2;have br:∀x∈p,x.block<W.heap.size:=λx hx=>hW'.lt x (by simp[hx]);refine⟨ds,[],p++[],[],p,[],hW', ?_, ?_, ?_,ais agt _,λh=>by cases h⟩;rw[append_nil,hs,hr];exact trodAll_mk1 (shut_bool hb true);rw[append_nil,hs];exact aaD hl hp agt h1 br (λx hx=>by simpa using br x hx);rw[hv,append_nil,hs];rfl
end
def acw(P:Program)(rec:TypeId->Option (List CK)):List Field->Nat->Option (List CK)
 |[],_=>some []|f::fs,off=>match rec f.type with
  |some cs=>bif f.offset.beq off&&(P.cellsOf f.type).beq (CL.wide cs)then(acw P rec fs (off+CL.wide cs)).map (cs++ ·)else none|none=>none
def ux(P:Program):Nat->TypeId->Option (List CK)
 |0,_=>none|d+1,t=>
  match P.underlying t with
  |some (.int k)=>some [.int k]|some .bool=>some [.bool]|some .string=>some [.str]|some (.slice e)=>(match P.underlying e with
   |some (.int k)=>bif (P.cellsOf e).beq 1 then some [.af k]else none|some .string=>bif (P.cellsOf e).beq 1 then some [.strs]else none|some .bool=>bif (P.cellsOf e).beq 1 then some [.bS]else none|_=>(ux P d e).bind λcs=>bif (P.cellsOf e).beq (CL.wide cs)&&(1:Nat).ble (CL.wide cs)then some [.rows cs]else none)
  |some (.struct fs)=>(acw P (ux P d) fs.toList 0).bind λcs=>bif (P.cellsOf t).beq (CL.wide cs)then some cs else none|some (.array n e)=>(match P.underlying e with
   |some (.int k)=>bif (P.cellsOf e).beq 1&&(P.cellsOf t).beq n then some [.arr k n]else none|_=>none)
  |_=>none
mutual
def CK.wf:(c:CK)->c.V->Prop
 |.int k,n=>(Lit.int k n).wf=true|.bool,_=>True|.str,s=>ByteArray.size s<=maxLen|.af k,zs=>List.length (show List Int from zs)<=maxLen/\∀n∈(show List Int from zs),(Lit.int k n).wf=true|.strs,ss=>List.length (show List ByteArray from ss)<=maxLen/\∀s∈(show List ByteArray from ss),s.size<=maxLen|.bS,bs=>List.length (show List Bool from bs)<=maxLen|.rows cs,xs=>List.length (show List (CL cs)from xs)<=maxLen/\∀x∈(show List (CL cs)from xs),CL.wf cs x|.arr k n,ws=>List.length (α:=Int) ws=n/\∀m∈(show List Int from ws),(Lit.int k m).wf=true
def CL.wf:(cs:List CK)->CL cs->Prop
 |[],_=>True|c::cs,x=>c.wf x.1/\CL.wf cs x.2
end
def CL.app:(aT:List CK)->{bs:List CK}->CL aT->CL bs->CL (aT++bs)
 |[],_,_,y=>y|_::aT,_,x,y=>(x.1,CL.app aT x.2 y)
theorem CL.acx:∀(aT bs:List CK),CL.wide (aT++bs)=CL.wide aT+CL.wide bs
 |[],bs=>by simp[CL.wide]
 |a::aT,bs=>by simp only[cons_append,CL.wide,CL.acx aT bs];omega
theorem aaE{i n:Nat}(h:i<n):i.blt n=true:=by simpa[Nat.blt,Nat.lt_iff_add_one_le]using h
theorem ae9{i n:Nat}(h:n<=i):i.blt n=false:=by
 cases hb:i.blt n;rfl;have:i<n:=by simpa[Nat.blt,Nat.lt_iff_add_one_le]using hb
 omega
theorem CL.yZ:∀(aT:List CK) {bs:List CK} (x:CL aT) (y:CL bs) {j:Nat},j<CL.wide aT->CL.cell (aT++bs) (CL.app aT x y) j=CL.cell aT x j
 |[],_,_,_,j,h=>by simp[CL.wide]at h
 |a::aT,bs,x,y,j,h=>by
  simp only[cons_append,CL.cell,CL.app];rcases lt_or_ge j a.wide with h1|h1;rw[aaE h1];rfl;rw[ae9 h1];simp only[cond_false];exact CL.yZ aT x.2 y (by simp only[CL.wide]at h;omega)
theorem CL.y3:∀(aT:List CK) {bs:List CK} (x:CL aT) (y:CL bs) {j:Nat},CL.wide aT<=j->CL.cell (aT++bs) (CL.app aT x y) j=CL.cell bs y (j - CL.wide aT)
 |[],_,_,_,j,h=>by simp[CL.wide,CL.app]
 |a::aT,bs,x,y,j,h=>by
  simp only[CL.wide]at h;simp only[cons_append,CL.cell,CL.app];rw[ae9 (by omega)];simp only[cond_false,CL.wide];rw[CL.y3 aT x.2 y (by omega)];congr 1;omega
theorem CL.akz:∀(aT:List CK) {bs:List CK} (x:CL aT) (y:CL bs),CL.wf aT x->CL.wf bs y->CL.wf (aT++bs) (CL.app aT x y)
 |[],_,_,_,_,h=>h|a::aT,bs,x,y,h1,h2=>by
  simp only[CL.wf]at h1;simp only[cons_append,CL.wf,CL.app];exact⟨h1.1,CL.akz aT x.2 y h1.2 h2⟩
theorem asW{α β:Type}(f:α->β)(xs:List α)(d:β)(da:α){i:Nat}(hi:i<xs.length):(xs.map f).getD i d=f (xs.getD i da):=by simp[List.getD,hi]
theorem aaF{α:Type}{p:Nat->α->Prop}:∀(n:Nat),(∀i,i<n->∃y,p i y)->∃xs:List α,xs.length=n/\∀i (h:i<xs.length),p i xs[i]
 |0,_=>⟨[],rfl,λi h=>by simp at h⟩
 |n+1,h=>by
  have⟨xs,h1,h2⟩:=aaF n (λi hi=>h i (by omega));have⟨y,hy⟩:=h n (by omega);refine⟨xs++[y],by simp[h1],λi hi=> ?_⟩;by_cases br:i<xs.length;rw[List.getElem_append_left br];exact h2 i br;have:i=n:=by simp at hi;omega
  subst this;rw[List.getElem_append_right (by omega)];simpa[h1]using hy
section
variable{H:Type}{enc:TypeId×Value->H}{P:Program}{W:World}{base:Nat}{ρ:Nat->Value}{Hh:a8}
abbrev FD(W:World)(cs:List CK)(y:CL cs)(get:Nat->Option Value):Prop:=∀j,j<CL.wide cs->∃u,get j=some u/\bh (λ_=>False) W (CL.cell cs y j) u
theorem agu{d n:Nat}{cells:List Value}(ih:∀{t:TypeId} {cs:List CK} {fuel:Nat} {cells:List Value} {x:DataW H×List MemPlace},ux P d t=some cs->DataW.trod enc P W 0 (λ_=>true) true fuel t cells=some x->
 cells.length=CL.wide cs/\∃y:CL cs,CL.wf cs y/\FD W cs y λj=>cells[j]?):
 ∀(fs:List Field) {off:Nat} {cs:List CK},acw P (ux P d) fs off=some cs->(∀f∈fs,∃x,DataW.trod enc P W 0 (λ_=>true) true n f.type ((cells.drop f.offset).take (P.cellsOf f.type))=some x)->
  ∃y:CL cs,CL.wf cs y/\FD W cs y λj=>cells[off+j]?
 |[],off,cs,h,_=>by
  simp only[acw,Option.some.injEq]at h;subst h;exact⟨(),trivial,λj hj=>by simp[CL.wide]at hj⟩
 |f::fs,off,cs,h,hx=>by
  simp only[acw]at h;split at h;rename_i c1 hc1;rw[cond_eq_ite]at h;split at h;rename_i hb;simp only[and_eq_true,beq_eq]at hb;have⟨ho,hw⟩:=hb;obtain⟨c2,hc2,rfl⟩:=map_eq_some_iff.1 h;have⟨x,hf⟩:=hx f (by simp);have⟨h1,y1,h2,h3⟩:=ih hc1 hf;have⟨y2,h4,h5⟩:=agu ih fs hc2 (λg hg=>hx g (by simp[hg]));refine⟨CL.app c1 y1 y2,CL.akz c1 y1 y2 h2 h4,λj hj=> ?_⟩;rw[CL.acx]at hj;rcases lt_or_ge j (CL.wide c1)with h6|h6;have⟨u,h7,h8⟩:=h3 j h6;refine⟨u, ?_,by rw[CL.yZ c1 y1 y2 h6];exact h8⟩;dsimp only at h7 ⊢;rw[getElem?_take,if_pos (by omega),List.getElem?_drop,ho]at h7;exact h7;have⟨u,h7,h8⟩:=h5 (j - CL.wide c1) (by omega);refine⟨u, ?_,by rw[CL.y3 c1 y1 y2 h6];exact h8⟩;dsimp only at h7 ⊢;rw[show off+j=off+CL.wide c1+(j - CL.wide c1)from by omega];exact h7;cases h;cases h
theorem rr{t e:TypeId}{cs:List CK}{fuel:Nat}{cells:List Value}{x:DataW H×List MemPlace}(ht:P.underlying t=some (.slice e))(hw:P.cellsOf e=CL.wide cs)(h1:1<=CL.wide cs)
 (ih:∀{fuel:Nat} {cells:List Value} {x:DataW H×List MemPlace},DataW.trod enc P W 0 (λ_=>true) true fuel e cells=some x->cells.length=CL.wide cs/\∃y:CL cs,CL.wf cs y/\FD W cs y λj=>cells[j]?)
 (h:DataW.trod enc P W 0 (λ_=>true) true fuel t cells=some x):
 ∃(v:Value) (xs:List (CL cs)),cells=[v]/\xs.length<=maxLen/\(∀y∈xs,CL.wf cs y)/\bh (λ_=>False) W (.ro (.ah cs xs)) v:=by
 rcases DataW.trod_slice ht h with⟨rfl,_⟩|⟨a,len,cap,elems,rest,n,_,rfl,_,_,hl,hm,bx,hel,_,_⟩;exact⟨_,[],rfl,zero_le _,by simp,.ro (.ah cs []) none 0 (λ_ _=>undef) 0 0 (le_refl _) (zero_le _) (λh=>by simp[ba.n]at h) (λi j hi hj=>by simp[ba.n]at hi) (λi j hi hj=>by simp[ba.n]at hi)⟩
 have each:∀i,i<len->∃y:CL cs,CL.wf cs y/\FD W cs y λj=>W.cell? ((a.add (i*CL.wide cs)).add j):=by
  intro i hi;have h2:=hel i hi;rw[getElem?_eq_getElem (by omega),hw]at h2;have⟨cl,h3,h4⟩:=bind_eq_some_iff.1 h2;have⟨_,h5,h6⟩:=World.cells?_some h3;have⟨_,y,h7,h8⟩:=ih h4;refine⟨y,h7,λj hj=> ?_⟩;have⟨u,h9,uv⟩:=h8 j hj;exact⟨u,by dsimp only;rw[h6 j (by omega)];exact h9,uv⟩
 have⟨xs,hx1,hx2⟩:=aaF len each;refine⟨_,xs,rfl,by omega,λy hy=> ?_, ?_⟩;obtain⟨i,hi,rfl⟩:=List.getElem_of_mem hy;exact(hx2 i hi).1;have hn:(ba.ah cs xs).n=len:=hx1;rcases Nat.eq_zero_or_pos len with h0|h0;have key:=bh.ro (O:=λ_=>False) (w:=W) (.ah cs xs) (some a) cap (λ_ _=>undef) 0 0 (by omega) hm (λh=>by omega) (λi j hi hj=>by omega) (λi j hi hj=>by omega);rw[hn]at key;exact key
 have aq1:a.spot=none:=by
  have⟨u,h9,_⟩:=(hx2 0 (by omega)).2 0 (by omega);simpa[Addr.add]using World.cell?_spot h9
 have⟨b,off,spot⟩:=a;simp only at aq1;subst aq1
 have hc:∀i j,i<len->j<CL.wide cs->∃u,W.cell? ⟨b,off+i*CL.wide cs+j,none⟩=some u/\bh (λ_=>False) W (CL.cell cs (xs.getD i (CL.d cs)) j) u:=by
  intro i j hi hj;have⟨u,h9,uv⟩:=(hx2 i (by omega)).2 j hj;dsimp only at h9;rw[bo,bo]at h9;exact⟨u,h9,by simpa[List.getD,hx1,hi]using uv⟩
 have key:=bh.ro (O:=λ_=>False) (w:=W) (.ah cs xs) (some ⟨b,off,none⟩) cap (λi j=>(W.cell? ⟨b,off+i*CL.wide cs+j,none⟩).getD undef) b off (by omega) hm (λ_=>⟨rfl,λh=>h, ?_⟩) (λi j hi hj=> ?_) (λi j hi hj=> ?_);rw[hn]at key;exact key;have⟨u,h9,_⟩:=hc 0 0 h0 (by omega);rcases lt_or_ge b W.heap.size with h2|h2;exact h2;simp[World.cell?,Array.getElem?_eq_none h2]at h9;have⟨u,h9,_⟩:=hc i j (by omega) hj;show W.cell? ⟨b,off+i*CL.wide cs+j,none⟩=_;rw[h9];rfl;have⟨u,h9,uv⟩:=hc i j (by omega) hj;rw[h9];exact uv
theorem uM:∀(d:Nat) {t:TypeId} {cs:List CK} {fuel:Nat} {cells:List Value} {x:DataW H×List MemPlace},ux P d t=some cs->DataW.trod enc P W 0 (λ_=>true) true fuel t cells=some x->
 cells.length=CL.wide cs/\∃y:CL cs,CL.wf cs y/\FD W cs y λj=>cells[j]?
 |0,t,cs,fuel,cells,x,h,_=>by simp[ux]at h
 |d+1,t,cs,fuel,cells,x,h,hd=>by
  simp only[ux]at h
  have one:∀{c:CK} {v:Value} (y:c.V),c.wide=1->CK.wf c y->bh (λ_=>False) W (c.cell y 0) v->([v]:List Value).length=CL.wide [c]/\∃y:CL [c],CL.wf [c] y/\FD W [c] y λj=>([v]:List Value)[j]? :=by
   intro c v y hw hy hv;refine⟨by simp[CL.wide,hw],(y,()),⟨hy,trivial⟩,λj hj=> ?_⟩;simp only[CL.wide,hw]at hj;obtain rfl:j=0:=by omega
   refine⟨v,rfl, ?_⟩;simp only[CL.cell,hw];exact hv
  split at h;rename_i k ht;simp only[Option.some.injEq]at h;subst h;obtain⟨n,rfl,_,hw⟩:=DataW.trod_int ht hd;exact one (c:=.int k) n rfl hw (.int k n);rename_i ht;simp only[Option.some.injEq]at h;subst h;obtain⟨b,rfl,_⟩:=DataW.trod_bool ht hd;exact one (c:=.bool) b rfl trivial (.bool b);rename_i ht;simp only[Option.some.injEq]at h;subst h;obtain⟨s,rfl,_,hs⟩:=DataW.trod_string ht hd;exact one (c:=.str) s rfl hs (.str s);rename_i e ht;split at h;rename_i k he;rw[cond_eq_ite]at h;split at h;rename_i hw;have hw:P.cellsOf e=1:=by simpa using hw
  simp only[Option.some.injEq]at h;subst h
  obtain⟨v,xs,rfl,h0,h1,h2⟩:=rr (cs:=[.int k]) ht hw (le_refl _) (λ{fuel cells x} hx=>by
   obtain⟨n,rfl,_,hwf⟩:=DataW.trod_int he hx;exact one (c:=.int k) n rfl hwf (.int k n)) hd
  refine one (c:=.af k) (xs.map λy:CL [.int k]=>(show Int from y.1)) rfl ⟨by rw[length_map];exact h0,λn hn=> ?_⟩ (mM (c:=.ah [.int k] xs) ?_ rfl ?_ h2);obtain⟨y,hy,rfl⟩:=mem_map.1 hn;exact(h1 y hy).1;exact length_map _;intro i j hi hj;have hj:j<1:=hj;obtain rfl:j=0:=by omega
  have hi:i<xs.length:=hi;exact congrArg (SV.int k) (asW (λy:CL [.int k]=>(show Int from y.1)) xs 0 (CL.d [.int k]) hi);cases h;rename_i he;rw[cond_eq_ite]at h;split at h;rename_i hw;have hw:P.cellsOf e=1:=by simpa using hw
  simp only[Option.some.injEq]at h;subst h
  obtain⟨v,xs,rfl,h0,h1,h2⟩:=rr (cs:=[.str]) ht hw (le_refl _) (λ{fuel cells x} hx=>by
   obtain⟨n,rfl,_,hwf⟩:=DataW.trod_string he hx;exact one (c:=.str) n rfl hwf (.str n)) hd
  refine one (c:=.strs) (xs.map λy:CL [.str]=>(show ByteArray from y.1)) rfl ⟨by rw[length_map];exact h0,λn hn=> ?_⟩ (mM (c:=.ah [.str] xs) ?_ rfl ?_ h2);obtain⟨y,hy,rfl⟩:=mem_map.1 hn;exact(h1 y hy).1;exact length_map _;intro i j hi hj;have hj:j<1:=hj;obtain rfl:j=0:=by omega
  have hi:i<xs.length:=hi;exact congrArg (SV.str) (asW (λy:CL [.str]=>(show ByteArray from y.1)) xs empty (CL.d [.str]) hi);cases h;rename_i he;rw[cond_eq_ite]at h;split at h;rename_i hw;have hw:P.cellsOf e=1:=by simpa using hw
  simp only[Option.some.injEq]at h;subst h
  obtain⟨v,xs,rfl,h0,h1,h2⟩:=rr (cs:=[.bool]) ht hw (le_refl _) (λ{fuel cells x} hx=>by
   obtain⟨n,rfl,_⟩:=DataW.trod_bool he hx;exact one (c:=.bool) n rfl trivial (.bool n)) hd
  refine one (c:=.bS) (xs.map λy:CL [.bool]=>(show Bool from y.1)) rfl (by show List.length (List.map _ xs)<=maxLen;rw[length_map];exact h0) (mM (c:=.ah [.bool] xs) ?_ rfl ?_ h2);exact length_map _;intro i j hi hj;have hj:j<1:=hj;obtain rfl:j=0:=by omega
  have hi:i<xs.length:=hi;exact congrArg (SV.bool) (asW (λy:CL [.bool]=>(show Bool from y.1)) xs false (CL.d [.bool]) hi);cases h;have⟨jz,h1,h2⟩:=bind_eq_some_iff.1 h;rw[cond_eq_ite]at h2;split at h2;rename_i hb;simp only[and_eq_true,beq_eq]at hb;have⟨hw,hw1⟩:=hb;have hw1:=le_of_ble_eq_true hw1;simp only[Option.some.injEq]at h2;subst h2;obtain⟨v,xs,rfl,h0,h3,h4⟩:=rr (cs:=jz) ht hw hw1 (λhx=>uM d h1 hx) hd;exact one (c:=.rows jz) xs rfl ⟨h0,h3⟩ h4;cases h2;rename_i fs ht;have⟨jz,h1,h2⟩:=bind_eq_some_iff.1 h;rw[cond_eq_ite]at h2;split at h2;rename_i hw;have hw:P.cellsOf t=CL.wide jz:=by simpa using hw
  simp only[Option.some.injEq]at h2;subst h2;have⟨xs,n,_,_,h3,h4,h5⟩:=DataW.trod_struct ht hd
  have⟨y,h6,h7⟩:=agu (enc:=enc) (n:=n) (cells:=cells) (λh1 h2=>uM d h1 h2) fs.toList h1 (λf hf=>by
   obtain⟨i,hi,rfl⟩:=List.getElem_of_mem hf;have fh:i<fs.size:=by simpa using hi
   have:=h5 i fs[i] (Array.getElem?_eq_getElem fh);rw[getElem?_eq_getElem (by omega)]at this;exact⟨_,by simpa using this⟩)
  refine⟨by omega,y,h6,λj hj=> ?_⟩;have:=h7 j hj;simpa using this;cases h2;rename_i n e ht;split at h;rename_i k he;rw[cond_eq_ite]at h;split at h;rename_i hb;simp only[and_eq_true,beq_eq]at hb;have⟨hw,hwt⟩:=hb;simp only[Option.some.injEq]at h;subst h;have⟨xs,m,_,_,h1,h2,h3⟩:=DataW.trod_array ht hd
  have each:∀i,i<n->∃z:Int,(Lit.int k z).wf=true/\cells[i]? =some (.int k z):=by
   intro i hi;have h4:=h3 i hi;rw[getElem?_eq_getElem (by omega),hw]at h4;have⟨z,h5,_,h6⟩:=DataW.trod_int he h4;refine⟨z,h6, ?_⟩;have h7:((cells.drop (i*1)).take 1)[0]? =some (.int k z):=by rw[h5];rfl
   rw[getElem?_take,if_pos (by omega),List.getElem?_drop]at h7;simpa using h7
  have⟨zs,hz1,hz2⟩:=aaF n each;refine⟨by simp[CL.wide,CK.wide];omega,(zs,()),⟨⟨hz1,λz hz=> ?_⟩,trivial⟩,λj hj=> ?_⟩;obtain⟨i,hi,rfl⟩:=List.getElem_of_mem (show z∈zs from hz);exact(hz2 i hi).1;simp only[CL.wide,CK.wide,add_zero]at hj;refine⟨.int k zs[j],(hz2 j (by omega)).2, ?_⟩;simp only[CL.cell,CK.wide];rw[aaE hj];show bh _ _ (.int k (zs.getD j 0)) _;rw[show zs.getD j 0=zs[j]from by simp[List.getD,hz1,hj]];exact .int k _;cases h;cases h;cases h
def RK.ck:RK->CK
 |.af k=>.af k|.strs=>.strs|.bS=>.bS|.ah cs=>.rows cs
def B.ck:B->CK
 |.int k=>.int k|.bool=>.bool|.str=>.str|.row r _=>r.ck|.jM r _=>r.ck|.arr k n=>.arr k n|.fn=>.bool
def B.aoq:B->Bool
 |.fn=>false|_=>true
def RK.of:(r:RK)->r.ck.V->r.V
 |.af _,y=>y|.strs,y=>y|.bS,y=>y|.ah _,y=>y
def B.of:(b:B)->b.ck.V->b.V
 |.int _,y=>y|.bool,y=>y|.str,y=>y|.row r _,y=>r.of y|.jM r _,y=>r.of y|.arr _ _,y=>y|.fn,_=>(0:Nat)
def RK.wf:(r:RK)->r.V->Prop
 |.af k,x=>∀n∈x,(Lit.int k n).wf=true|.strs,x=>∀s∈x,ByteArray.size s<=maxLen|.bS,_=>True|.ah cs,x=>∀y∈x,CL.wf cs y
def B.wf:(b:B)->b.V->Prop
 |.int k,n=>(Lit.int k n).wf=true|.str,s=>ByteArray.size s<=maxLen|.row r _,x=>r.wf x|.jM r _,x=>r.wf x|.arr k n,ws=>List.length (α:=Int) ws=n/\∀m∈(show List Int from ws),(Lit.int k m).wf=true|_,_=>True
def BL.wf:(bs:List B)->BL bs->Prop
 |[],_=>True|b::bs,(x,y)=>b.wf x/\BL.wf bs y
def Ty.wf:(t:Ty)->t.V->Prop
 |.b q,x=>q.wf x|.st bs,x=>BL.wf bs x
def BL.of:(bs:List B)->CL (bs.map B.ck)->BL bs
 |[],_=>()|b::bs,y=>(b.of y.1,BL.of bs y.2)
theorem B.aq2{b:B}{y:b.ck.V}(h:CK.wf b.ck y):b.wf (b.of y):=by
 cases b with
 |int k=>exact h|bool=>trivial|str=>exact h|row r e=>cases r<;>first|exact h.2|trivial
 |jM r e=>cases r<;>first|exact h.2|trivial
 |arr k n=>exact h|fn=>trivial
theorem B.wz{b:B}(hb:b.aoq=true){y:b.ck.V}(hy:CK.wf b.ck y){cells:List Value}(hl:cells.length=b.ck.wide)(h:∀j,j<b.ck.wide->∃u,cells[j]? =some u/\bh (λ_=>False) W (b.ck.cell y j) u):
 aX ρ Hh (λ_=>False) W (b.av (b.of y)) cells:=by
 have one:b.ck.wide=1->∃u,cells=[u]/\bh (λ_=>False) W (b.ck.cell y 0) u:=by
  intro h1;have⟨u,h2,h3⟩:=h 0 (by omega);rw[h1]at hl
  match cells,hl with
  |[v],_=>simp only[List.getElem?_cons_zero,Option.some.injEq]at h2;subst h2;exact⟨v,rfl,h3⟩
 cases b with
 |int k=>obtain⟨u,rfl,h2⟩:=one rfl;show aX _ _ _ _ (.s (.int k y)) _;unfold aX;exact⟨u,rfl,h2⟩
 |bool=>obtain⟨u,rfl,h2⟩:=one rfl;show aX _ _ _ _ (.s (.bool y)) _;unfold aX;exact⟨u,rfl,h2⟩
 |str=>obtain⟨u,rfl,h2⟩:=one rfl;show aX _ _ _ _ (.s (.str y)) _;unfold aX;exact⟨u,rfl,h2⟩
 |row r e=>
  obtain⟨u,rfl,h2⟩:=one (by cases r<;>rfl);show aX _ _ _ _ (.s (.ro (r.uK (r.of y)))) _;unfold aX;exact⟨u,rfl,by cases r<;>exact h2⟩
 |jM r e=>
  obtain⟨u,rfl,h2⟩:=one (by cases r<;>rfl);show aX _ _ _ _ (.s (.ro (r.uK (r.of y)))) _;unfold aX;exact⟨u,rfl,by cases r<;>exact h2⟩
 |arr k n=>
  show aX _ _ _ _ (.af k n y) _;unfold aX
  have key:∀ys:List Int,ys.length=n->(∀j,j<n->∃u,cells[j]? =some u/\bh (λ_=>False) W (.int k (ys.getD j 0)) u)->cells.length=n->cells=ys.map (Value.int k):=by
   intro ys h1 h2 h3;refine List.ext_getElem (by rw[h3,length_map,h1]) λj h4 h5=> ?_;have⟨u,h6,h7⟩:=h2 j (by omega);cases h7;rw[getElem?_eq_getElem h4,Option.some.injEq]at h6;rw[h6,List.getElem_map];congr 1;simp[List.getD,show j<ys.length by omega]
  exact⟨hy.1,key y hy.1 h hl⟩
 |fn=>cases hb
theorem BL.wz:∀{bs:List B},bs.all B.aoq=true->∀{y:CL (bs.map B.ck)},CL.wf (bs.map B.ck) y->∀{cells:List Value},cells.length=CL.wide (bs.map B.ck)->(FD W (bs.map B.ck) y λj=>cells[j]?)->
 BL.wf bs (BL.of bs y)/\aE ρ Hh (λ_=>False) W (BL.av bs (BL.of bs y)) cells
 |[],_,y,_,cells,hl,_=>⟨trivial,aG.2 (List.eq_nil_of_length_eq_zero hl)⟩|b::bs,hb,y,hy,cells,hl,h=>by
  simp only[all_cons,and_eq_true]at hb;simp only[map_cons,CL.wide]at hl;have hy:CK.wf b.ck y.1/\CL.wf (bs.map B.ck) y.2:=hy;have h:∀j,j<b.ck.wide+CL.wide (bs.map B.ck)->∃u,cells[j]? =some u/\bh (λ_=>False) W (bif j.blt b.ck.wide then b.ck.cell y.1 j else CL.cell (bs.map B.ck) y.2 (j - b.ck.wide)) u:=h
  have⟨h1,h2⟩:=BL.wz hb.2 (y:=y.2) hy.2 (cells:=cells.drop b.ck.wide) (by rw[length_drop];omega) (λj hj=>by
   have⟨u,h3,h4⟩:=h (b.ck.wide+j) (by omega);rw[ae9 (by omega),cond_false,Nat.add_sub_cancel_left]at h4;exact⟨u,by dsimp only;rw[List.getElem?_drop];exact h3,h4⟩)
  refine⟨⟨B.aq2 hy.1,h1⟩,aq.2 ⟨cells.take b.ck.wide,cells.drop b.ck.wide,(List.take_append_drop _ _).symm,B.wz hb.1 hy.1 (by rw[length_take];omega) (λj hj=> ?_),h2⟩⟩;have⟨u,h3,h4⟩:=h j (by omega);rw[aaE hj,cond_true]at h4;exact⟨u,by rw[getElem?_take,if_pos hj];exact h3,h4⟩
def Ty.lay(P:Program)(t:TypeId):Ty->Bool
 |.b q=>q.aoq&&(ux P 12 t).any (λcs=>(CL.eq cs [q.ck]).isSome)&&(match P.underlying t,q with
  |some (.array _ _),.arr _ _=>true|some (.struct _),_=>false|some (.array _ _),_=>false|_,.arr _ _=>false|_,_=>true)
 |.st bs=>bs.all B.aoq&&(ux P 12 t).any (λcs=>(CL.eq cs (bs.map B.ck)).isSome)&&(match P.underlying t with
  |some (.struct _)=>true|_=>false)
theorem akA{d:Nat}{t:TypeId}{jz:List CK}(h:(ux P d t).any (λcs=>(CL.eq cs jz).isSome)=true):ux P d t=some jz:=by
 cases hl:ux P d t with
 |none=>simp[hl]at h|some cs=>
  rw[hl,Option.any_some]at h;have⟨e,_⟩:=isSome_iff_exists.1 h;rw[e.down]
theorem afa{t:TypeId}{ty:Ty}{v:Value}{d:DataW H}{ps:List MemPlace}(hl:ty.lay P t=true)(jL:Value.okWide P W .any base t v)(hd:DataW.Trod enc P W 0 (λ_=>true) true t v d ps):
 ∃x:ty.V,ty.wf x/\ag ρ Hh (λ_=>False) W (ty.av x) v:=by
 have⟨fuel,hd⟩:=hd;cases ty with
 |st bs=>
  simp only[Ty.lay,and_eq_true]at hl;have⟨⟨h1,h2⟩,h3⟩:=hl;split at h3;rename_i fs ht;simp only[Value.okWide,ht]at jL;obtain⟨cs,rfl,_,_⟩:=jL;have⟨h4,y,h5,h6⟩:=uM 12 (akA h2) hd;have⟨h7,h8⟩:=BL.wz (ρ:=ρ) (Hh:=Hh) h1 h5 h4 h6;refine⟨BL.of bs y,h7, ?_⟩;show ag _ _ _ _ (.agg _) _;unfold ag;exact⟨cs.toList,by simp,h8⟩;cases h3
 |b q=>
  simp only[Ty.lay,and_eq_true]at hl;have⟨⟨h1,h2⟩,h3⟩:=hl;have⟨h4,y,h5,h6⟩:=uM 12 (akA h2) hd;have h4:v.cells.toList.length=q.ck.wide:=by simpa[CL.wide]using h4
  have h5:CK.wf q.ck y.1:=h5.1
  have key:=B.wz (ρ:=ρ) (Hh:=Hh) h1 h5 h4 (λj hj=>by
   have⟨u,h7,h8⟩:=h6 j (by simp only[CL.wide];omega);simp only[CL.cell]at h8;rw[aaE hj,cond_true]at h8;exact⟨u,h7,h8⟩)
  refine⟨q.of y.1,B.aq2 h5, ?_⟩;show ag _ _ _ _ (q.av _) _
  have single:(∀cs,v≠.agg cs)->(∀k n ws,q.av (q.of y.1)≠.af k n ws)->ag ρ Hh (λ_=>False) W (q.av (q.of y.1)) v:=by
   intro hna hni;have hc:v.cells.toList=[v]:=by cases v<;>first|rfl|exact absurd rfl (hna _)
   rw[hc]at key;have⟨u,hu,_,kI⟩:=fK key (gD hni) hni;cases hu;exact kI
  by_cases avY:∃k n,q=.arr k n;obtain⟨k,n,rfl⟩:=avY
  obtain⟨n',e',ht⟩:∃n' e',P.underlying t=some (.array n' e'):=by
   cases hu:P.underlying t with
   |none=>simp[hu]at h3|some td=>cases td<;>simp[hu]at h3 ⊢
  simp only[Value.okWide,ht]at jL;obtain⟨cs,rfl,_,_⟩:=jL;have key:aX ρ Hh (λ_=>False) W (.af k n y.1) cs.toList:=key;unfold aX at key;show ag _ _ _ _ (.af k n y.1) _;unfold ag;exact⟨key.1,by rw[<-key.2]⟩
  have mc:(∀fs,P.underlying t≠some (.struct fs))/\∀n e,P.underlying t≠some (.array n e):=by
   cases hu:P.underlying t with
   |none=>simp|some td=>cases td<;>cases q<;>simp_all
  refine single (λcs hv=> ?_) (λk n ws he=> ?_);subst hv;unfold Value.okWide at jL;split at jL;rename_i fs ht;exact mc.1 fs ht;rename_i n e ht;exact mc.2 n e ht;simp only[Cell.okWide,Cell.ok]at jL;split at jL<;>simp_all;cases q<;>simp[B.av]at he;exact avY ⟨_,_,rfl⟩
theorem wA{Z:aZ}{f:FuncId}{ts:List Ty}{pre:AL ts->List Prop}(h:cg P Z f ts [.b .bool] pre (λ_=>(true,())))(hz:Z.ok W){x:AL ts}{vs:List Value}(hp:bE (pre x))
 (hd:bI (λ_=>undef) (λ_=>none) (λ_=>False) W (AL.av ts x) vs):Calls P f vs.toArray W λe W'=>e=.returned (.bool true)/\air W W':=by
 have e0:bg (λ_=>undef) (λ_=>none) (λ_=>False)=λ_=>False:=by
  funext b;refine propext ⟨λh=> ?_,False.elim⟩;rcases h with⟨id,o,ho,_⟩|h;cases ho;exact h
 refine(h x (AL.okL hd) hp (λ_=>False) W vs (λ_ h=>h.elim) hz (by rw[e0];exact hd)).mono ?_;rintro e W' ⟨v,rfl,aU,_,h2,_,h4⟩;have h5:ag aU (lk []) (bg aU (lk []) λ_=>False) W' (.s (.bool true)) v:=h2;have h6:=aC (by simp) h5;cases h6;exact⟨rfl,h4.os,h4.output,λb hb=>h4.heap b hb (λ⟨id,o,ho,_⟩=>by cases ho)⟩
end
end Go.Sx
namespace Go.Sx
open Go
theorem akB(P:Program)(r:List (List Char))(h:behindMainWord (wordsSigns P.initOrder.toList)=[(Char.ofNat 99),(Char.ofNat 117),(Char.ofNat 116)]::r):P.make=some .cut:=by
 unfold Program.make;rw[h];kernel_rfl
theorem aiu(P:Program)(r:List (List Char))(h:behindMainWord (wordsSigns P.initOrder.toList)=[(Char.ofNat 99),(Char.ofNat 117),(Char.ofNat 116)]::r)(hs:stripLifts liftWords ([(Char.ofNat 99),(Char.ofNat 117),(Char.ofNat 116)]::r)=([],[(Char.ofNat 99),(Char.ofNat 117),(Char.ofNat 116)]::r)):P.liftsFinal=false:=by
 unfold Program.liftsFinal Program.headLifts;rw[h];dsimp only;rw[hs];kernel_rfl
theorem aiv(P:Program)(r:List (List Char))(h:behindMainWord (wordsSigns P.initOrder.toList)=[(Char.ofNat 99),(Char.ofNat 117),(Char.ofNat 116)]::r)(hs:stripLifts liftWords ([(Char.ofNat 99),(Char.ofNat 117),(Char.ofNat 116)]::r)=([],[(Char.ofNat 99),(Char.ofNat 117),(Char.ofNat 116)]::r))
 (h1:P.laysLater=false) (h2:P.bearsReflect=false) (h3:P.doorFits []=true):P.mayEnter=true:=by
 unfold Program.mayEnter;rw[h];dsimp only;rw[hs,h1,h2];dsimp only;rw[h3];kernel_rfl
def wC(P:Program)(f:FuncId)(fn:Func)(s:ChangeSpec)(c:OpenClaim):{b:Bool // P.mayEnter=true->P.liftsFinal=false->P.make=some .cut->joinedFacts P f fn s c=b}:=by
 refine⟨?b,λh1 h2 h3=> ?h⟩
 case h=>
  unfold joinedFacts;rw[h1,h2,h3]
theorem afb{P:Program}{f:FuncId}{fn:Func}{s:ChangeSpec}{c:OpenClaim}(r:List (List Char))(h:behindMainWord (wordsSigns P.initOrder.toList)=[(Char.ofNat 99),(Char.ofNat 117),(Char.ofNat 116)]::r)(hs:stripLifts liftWords ([(Char.ofNat 99),(Char.ofNat 117),(Char.ofNat 116)]::r)=([],[(Char.ofNat 99),(Char.ofNat 117),(Char.ofNat 116)]::r))
 (h1:P.laysLater=false) (h2:P.bearsReflect=false) (h3:P.doorFits []=true) (hr:(wC P f fn s c).1=true):joinedFacts P f fn s c=true:=
 ((wC P f fn s c).2 (aiv P r h hs h1 h2 h3) (aiu P r h hs) (akB P r h)).trans hr
end Go.Sx
namespace Go.Proofs.YtfobmefgcjldaaaGreatDoor.Hd
set_option maxRecDepth 100000 in
def ioL:List Char:=[104,97,114,110,101,115,115,32,102,57,101,56,98,52,99,49,52,56,50,53,100,56,52,55,102,53,55,97,100,51,49,100,50,52,100,101,56,51,56,97,98,48,52,100,100,50,51,101,54,97,57,100,50,53,101,54,53,56,55,99,50,99,49,56,57,98,52,98,53,99,52,49,32,99,117,116,32,97,116,32,99,97,108,108,98,111,97,114,100,47,99,97,108,108,98,111,97,114,100,108,97,119,48,55,46,84,114,101,101,80,108,97,121,115].map Char.ofNat
set_option maxRecDepth 100000 in
theorem ioE:Tryz.prog.initOrder=String.ofList ioL:=by kernel_rfl
theorem ioT:Tryz.prog.initOrder.toList=ioL:=by rw[ioE];exact String.toList_ofList
def agv:List (List Char):=(wordsSigns ioL).drop 3
theorem hb:behindMainWord (wordsSigns Tryz.prog.initOrder.toList)=[Char.ofNat 99,Char.ofNat 117,Char.ofNat 116]::agv:=by rw[ioT];kernel_rfl
theorem a1:Tryz.prog.laysLater=false:=by kernel_rfl
theorem a2:Tryz.prog.bearsReflect=false:=by kernel_rfl
theorem a3:stripLifts liftWords ([Char.ofNat 99,Char.ofNat 117,Char.ofNat 116]::agv)=([],[Char.ofNat 99,Char.ofNat 117,Char.ofNat 116]::agv):=by kernel_rfl
theorem a5:Tryz.prog.doorFits []=true:=by kernel_rfl
theorem ak:ownKnob Tryz.prog.godebug=none:=by kernel_rfl
theorem laidOut:laidOutB Tryz.prog=true:=by kernel_rfl
end Go.Proofs.YtfobmefgcjldaaaGreatDoor.Hd
namespace Go.Sx
open Go
structure Spec (X:Type)where
 args:X->List AV
 heap:X->List au
 pre:X->List Prop
 eG:X->List au
 out:X->AV
def fD(P:Program)(Z:aZ)(f:FuncId){X:Type}(S:Spec X):Prop:=
 ∀x,bE (S.pre x)->∀(ρ:Nat->Value) (G:Nat->Prop) (w:World) (vs:List Value),ZAt Z ρ (lk (S.heap x)) w->Sat ρ (lk (S.heap x)) G w->
  bI ρ (lk (S.heap x)) (bg ρ (lk (S.heap x)) G) w (S.args x) vs->
  Calls P f vs.toArray w λe w'=>∃v,e=.returned v/\Good ρ (lk (S.heap x)) G w (lk (S.eG x)) (S.out x) v w'
def fq{X:Type}(S:Spec X)(x:X)(L:List au)(r:AV):Prop:=
 ∃N:Norm,(S.heap x).length<=N.m/\N.run ⟨[r],L,[],{}⟩=some ⟨[S.out x],S.eG x,[],{}⟩
def RM.bind{α β:Type}:RM α->(α->RM β)->RM β
 |.ret a,k=>k a|.look id f,k=>.look id λo=>(f o).bind k|.fail w,_=>.fail w
def uN:List Nat->(List au->RM bP)->RM bP
 |[],k=>k []|i::is,k=>.look i λo=>match o with
  |some o=>uN is λos=>k (o::os)|none=>.fail ""
def back(σ:List Nat)(base n:Nat)(j:Nat):Option Nat:=bif j.blt σ.length then σ[j]? else bif j.blt n then some (base+(j - σ.length))else none
def cu{X:Type}(S:Spec X)(M:List AV->RM (X×List Nat)):Nat->List AV->RM bP:=λbase args=>
 (M args).bind λ(x,σ)=>bif sK σ then uN σ λos=>
   (match allM (wj (back σ base (S.eG x).length)) (S.eG x),rn (back σ base (S.eG x).length) 20 (S.out x)with
    |some L',some r=>bif σ.length.ble L'.length then
     .ret ⟨(allM (rn (idx σ) 20) args=some (S.args x))::(allM (wj (idx σ)) os=some (S.heap x))::S.pre x,σ.zip L',L'.drop σ.length,λ_=>r⟩else .fail ""
    |_,_=>.fail "")
  else .fail ""
section
variable{ρ aU:Nat->Value}{H H':a8}{G O O':Nat->Prop}{w w':World}{P:Program}{Z:aZ}{X:Type}{S:Spec X}
theorem RM.sO{α β:Type}:∀{m:RM α} {k:α->RM β} {q:β},(m.bind k).eval H=some q->∃a,m.eval H=some a/\(k a).eval H=some q
 |.ret a,k,q,h=>⟨a,rfl,h⟩|.look id f,k,q,h=>by
  simp only[RM.bind,RM.eval]at h ⊢;exact RM.sO h
 |.fail w,k,q,h=>by simp[RM.bind,RM.eval]at h
theorem ru:∀{is:List Nat} {k:List au->RM bP} {q:bP},(uN is k).eval H=some q->∃os:List au,(k os).eval H=some q/\os.length=is.length/\∀(j id:Nat),is[j]? =some id->H id=os[j]? /\os[j]?.isSome=true
 |[],k,q,h=>⟨[],h,rfl,λj id hj=>by simp at hj⟩
 |i::is,k,q,h=>by
  simp only[uN,RM.eval]at h;split at h;rename_i o ho;have⟨os,h1,h2,h3⟩:=ru h;refine⟨o::os,h1,by simp[h2],λj id hj=> ?_⟩;cases j with
  |zero=>simp only[List.getElem?_cons_zero,Option.some.injEq]at hj;subst hj;exact⟨by simpa using ho,rfl⟩
  |succ j=>simpa using h3 j id (by simpa using hj)
  simp[RM.eval]at h
theorem acy{f:FuncId}{fn:Func}(hf:P.funcs[f]? =some fn)(hb:fn.body.isSome=true)(hn:∀x,(S.args x).length<=fn.ntmps)
 (h:∀x,bE (S.pre x)->∀X:Ctx,X.H=lk (S.heap x)->cP Z X->Safe P f X (fq S x) (start fn (S.args x) (S.heap x))):fD P Z f S:=by
 intro x l9 ρ G w vs hz hs hd;have⟨c,hb⟩:=isSome_iff_exists.1 hb
 have ov:vs.length=(S.args x).length:=by
  have:∀{aT:List AV} {vs:List Value},bI ρ (lk (S.heap x)) (bg ρ (lk (S.heap x)) G) w aT vs->vs.length=aT.length:=by
   intro aT
   induction aT with
   |nil=>intro vs h;rw[bp.1 h];rfl
   |cons a aT ih=>intro vs h;obtain⟨v,rest,rfl,_,h2⟩:=aJ.1 h;simp[ih h2]
  exact this hd
 refine(iS (R:=ki ⟨ρ,lk (S.heap x),G,w,[]⟩ (fq S x)) hf hb ?_).mono ?_;have:=(h x l9 ⟨ρ,lk (S.heap x),G,w,[]⟩ rfl hz).goes rfl rfl (ρ:=ρ) (a:={tmps:=vs.toArray++Array.replicate (fn.ntmps - vs.toArray.size) undef,defers:=[]}) (w:=w);simp only[start,hb,getD_some]at this;refine this ⟨hs, ?_,λt=> ?_,rfl,Step.refl _ _ _ _,⟨rfl,rfl,rfl,λ_ _ _=>rfl⟩,λx hx=>by cases hx⟩;simp[ov]
 have e1:∀(aT:List AV) (vs:List Value),bI ρ (lk (S.heap x)) (bg ρ (lk (S.heap x)) G) w aT vs->∀t,ag ρ (lk (S.heap x)) (bg ρ (lk (S.heap x)) G) w (aT.getD t (.bd [])) (vs.getD t undef):=by
  intro aT
  induction aT with
  |nil=>intro vs h t;rw[bp.1 h];simp only[List.getD,List.getElem?_nil,Option.getD_none];exact cX
  |cons a aT ih=>
   intro vs h t;obtain⟨v,rest,rfl,h1,h2⟩:=aJ.1 h;cases t with
   |zero=>simpa using h1|succ t=>simpa using ih rest h2 t
 have h1:=e1 _ _ hd t;simp only[List.getD_eq_getElem?_getD,List.getElem?_append,List.getElem?_replicate,getD_eq_getD_getElem?,Array.getElem?_append,List.getElem?_toArray,Array.getElem?_replicate,List.size_toArray]at h1 ⊢;rw[ov];split;rename_i ht;have hv:vs[t]? =some vs[t]:=getElem?_eq_getElem (by omega);have ha:(S.args x)[t]? =some (S.args x)[t]:=getElem?_eq_getElem ht;rw[hv,ha]at h1 ⊢;exact h1;split;exact cX;unfold ag;trivial;rintro e w' ⟨v,rfl,L,r,⟨N,hm,hN⟩,ma,g1,g2,g3,g4⟩;refine⟨v,rfl, ?_⟩
 have r0:cq ⟨ρ,lk (S.heap x),G,w,[]⟩ ma ⟨[r],L⟩ {tmps:= #[v],defers:=[]} w':=by
  refine⟨g1,rfl,λt=> ?_,rfl,g3,g4,λx hx=>by cases hx⟩;cases t with
  |zero=>exact g2|succ t=>simp only[List.getD,Array.getD];simp;unfold ag;trivial
 have h0:∀id,N.m<=id->(⟨ρ,lk (S.heap x),G,w,[]⟩:Ctx).H id=none:=λid dI=>by simp[lk];omega
 unfold Norm.run at hN;split at hN;rename_i t1 L1 h1;simp only[]at hN;split at hN;rename_i t2 L2 h2;simp only[Option.some.injEq,bQ.mk.injEq,and_true]at hN;obtain⟨rfl,rfl⟩:=hN;have⟨ma,r1⟩:=cq.fY h0 h1 (cq.ek N.fj r0);have⟨gG,r2⟩:=cq.gr N.pT r1;have⟨ρ3,r3⟩:=cq.gu N.cells r2;have⟨ρ4,r4⟩:=cq.fY h0 h2 r3;exact⟨ρ4,r4.sat,(by have h:=r4.den 0;exact h),r4.ao,r4.jr⟩;cases hN;cases hN
theorem ry:∀{σ:List Nat} {L:List au} {j:Nat},σ.Nodup->σ.length<=L.length->
 (∀(i:Nat),σ[i]? =some j->cT (σ.zip L) j=L[i]?)/\(j ∉ σ->cT (σ.zip L) j=none)
 |[],L,j,hn,hl=>⟨λi h=>by simp at h,λ_=>rfl⟩|x::xs,[],j,hn,hl=>by simp at hl
 |x::xs,l::ls,j,hn,hl=>by
  have⟨h1,h2⟩:=ry (σ:=xs) (L:=ls) (j:=j) (List.nodup_cons.1 hn).2 (by simpa using hl);constructor;intro i hi;simp only[List.zip_cons_cons,cT];cases i with
  |zero=>
   simp only[List.getElem?_cons_zero,Option.some.injEq]at hi;subst hi;rw[h2 (List.nodup_cons.1 hn).1];simp
  |succ i=>
   simp only[List.getElem?_cons_succ]at hi ⊢;rw[h1 i hi];have br:i<xs.length:=(List.getElem?_eq_some_iff.1 hi).1;simp only[length_cons]at hl;rw[getElem?_eq_getElem (show i<ls.length by omega)]
  intro hj;simp only[mem_cons,not_or]at hj;simp only[List.zip_cons_cons,cT];rw[h2 hj.2];simp[hj.1]
theorem fD.sum{f:FuncId}(h:fD P Z f S)(M:List AV->RM (X×List Nat)):rq P Z f (cu S M):=by
 intro base args H q hq hn ρ G w vs dU hz hs hd;unfold cu at hq;have⟨⟨x,σ⟩,_,hq⟩:=RM.sO hq;simp only[cond_eq_ite]at hq;split at hq;rename_i iU;have iU:=kU iU;have⟨os,hq,bx,hos⟩:=ru hq;split at hq;rename_i L' r hL' hr;split at hq;rename_i hle;have hle:=le_of_ble_eq_true hle;simp only[RM.eval,Option.some.injEq]at hq;subst hq;have⟨gb,jf,l9⟩:=hn;simp only[]at dU ⊢
 have dH:∀{j:Nat} {o':au},(S.heap x)[j]? =some o'->∃(id:Nat) (o:au),σ[j]? =some id/\H id=some o/\wj (idx σ) o=some o':=by
  intro j o' du;have hl:=gS jf;have hj:j<os.length:=by rw[<-hl];exact(List.getElem?_eq_some_iff.1 du).1
  have⟨b,g1,g2⟩:=gq jf j os[j] (getElem?_eq_getElem hj);rw[du]at g2;cases g2;have yG:j<σ.length:=by omega
  have:=(hos j σ[j] (getElem?_eq_getElem yG)).1;exact⟨σ[j],os[j],getElem?_eq_getElem yG,by rw[this,getElem?_eq_getElem hj],g1⟩
 have nw:∀{j id:Nat},σ[j]? =some id->∃o o',H id=some o/\wj (idx σ) o=some o'/\(S.heap x)[j]? =some o':=by
  intro j id hj;have⟨g1,g2⟩:=hos j id hj;have⟨o,ho⟩:=isSome_iff_exists.1 g2;have⟨b,g3,g4⟩:=gq jf j o ho;exact⟨o,b,g1.trans ho,g3,g4⟩
 have ot:∀{j id:Nat},σ[j]? =some id->pull σ ρ j=ρ id:=λh1=>by simp[pull,List.getD,h1]
 have dR:∀{b:Nat},Own (pull σ ρ) (lk (S.heap x)) b->∃(j id:Nat) (o:au),σ[j]? =some id/\H id=some o/\o.alive=true/\eQ (ρ id)=some b:=by
  rintro b ⟨j,o',du,ha,hb⟩;have⟨id,o,h1,h2,h3⟩:=dH du;rw[ot h1]at hb;exact⟨j,id,o,h1,h2,by rw[<-(cQ h3).1];exact ha,hb⟩
 let G':Nat->Prop:=λb=>bg ρ H G b/\¬Own (pull σ ρ) (lk (S.heap x)) b
 have E:Emb (idx σ) ρ H (bg ρ H G) (pull σ ρ) (lk (S.heap x)) (bg (pull σ ρ) (lk (S.heap x)) G'):=by
  refine⟨λi j nZ=> ?_,λb hb=> ?_⟩;have h1:=acg nZ;refine⟨ot h1,λo ho=> ?_⟩;have⟨o1,o',h2,h3,h4⟩:=nw h1;rw[ho]at h2;cases h2;exact⟨o',h4,(cQ h3).2⟩;rcases hb with hb|hb;have⟨j,id,o,h1,h2,h3,h4⟩:=dR hb;exact .inl ⟨id,o,h2,h3,h4⟩;exact hb.1
 have ayx:Sat (pull σ ρ) (lk (S.heap x)) G' w:=by
  refine⟨λj o' du=> ?_,λi j oi oj b hi hj ai aj bi bj=> ?_,λb hb hG=>hG.2 hb,λb hb=>zX hs hb.1⟩;have⟨id,o,h1,h2,h3⟩:=dH du;rw[ot h1];exact aaA E h3 (hs.obj id o h2);have⟨id,o,h1,h2,h3⟩:=dH hi;have⟨id',o',h1',h2',h3'⟩:=dH hj;rw[ot h1]at bi;rw[ot h1']at bj;have:=hs.inj id id' o o' b h2 h2' (by rw[<-(cQ h3).1];exact ai) (by rw[<-(cQ h3').1];exact aj) bi bj;subst this;have⟨hi1,hi2⟩:=List.getElem?_eq_some_iff.1 h1;have⟨hj1,yG⟩:=List.getElem?_eq_some_iff.1 h1';exact(List.getElem_inj iU).1 (hi2.trans yG.symm)
 have hz':ZAt Z (pull σ ρ) (lk (S.heap x)) w:=⟨hz.1,λb hb ho=>by
  have⟨j,id,o,h1,h2,h3,h4⟩:=dR ho;exact hz.2 b hb ⟨id,o,h2,h3,h4⟩⟩
 have hd':=uJ E gb hd;refine(h x l9 (pull σ ρ) G' w vs hz' ayx hd').mono ?_;rintro e w' ⟨v,he,ma,g1,g2,g3,g4⟩;refine⟨v,he, ?_⟩;have azN:=gS hL';generalize hn0:(S.eG x).length=n0 at *
 have sM:∀{j:Nat},σ.length<=j->j<n0->H (base+(j - σ.length))=none:=by
  intro j h1 h2;exact dU (j - σ.length) (by simp;omega)
 have aor:∀{id:Nat} {o:au},H id=some o->¬(base<=id/\id<base+(L'.length - σ.length)):=by
  intro id o ho hc;have:=sM (j:=σ.length+(id - base)) (by omega) (by omega);rw[show base+(σ.length+(id - base) - σ.length)=id from by omega,ho]at this;cases this
 let gG:Nat->Value:=λid=>if base<=id/\id<base+(L'.length - σ.length)then ma (σ.length+(id - base))else ρ id
 let H2:=dc H (σ.zip L') base (L'.drop σ.length)
 have hL1:∀{j:Nat} {o2:au},L'[j]? =some o2->∃o,(S.eG x)[j]? =some o/\wj (back σ base n0) o=some o2:=by
  intro j o2 h1;have hj:j<(S.eG x).length:=by have:=(List.getElem?_eq_some_iff.1 h1).1;omega
  have⟨b,h2,h3⟩:=gq hL' j (S.eG x)[j] (getElem?_eq_getElem hj);rw[h1]at h3;cases h3;exact⟨_,getElem?_eq_getElem hj,h2⟩
 have aq3:∀{j id:Nat},σ[j]? =some id->gG id=ρ id/\ma j=ρ id:=by
  intro j id hj;have⟨o,o',h1,h2,h3⟩:=nw hj;refine⟨?_, ?_⟩;simp only[gG];rw[if_neg (aor h1)];rw[g3.yq j o' h3,ot hj]
 have asX:∀{j id:Nat},σ[j]? =some id->H2 id=L'[j]? :=by
  intro j id hj;have br:j<σ.length:=(List.getElem?_eq_some_iff.1 hj).1;have:=(ry (σ:=σ) (L:=L') (j:=id) iU hle).1 j hj;simp only[H2,dc,this];rw[getElem?_eq_getElem (show j<L'.length by omega)]
 have hni:∀{id:Nat},(base<=id/\id<base+(L'.length - σ.length))->id ∉ σ:=by
  intro id hc hm;have⟨i,hi⟩:=List.getElem?_of_mem hm;have⟨o,_,h3,_⟩:=nw hi;exact aor h3 hc
 have avZ:∀{id:Nat},(base<=id/\id<base+(L'.length - σ.length))->H2 id=L'[σ.length+(id - base)]? :=by
  intro id hc;simp only[H2,dc,(ry (σ:=σ) (L:=L') iU hle).2 (hni hc)];rw[if_pos (by simp only[length_drop];exact hc)];simp only[List.getElem?_drop]
 have av0:∀{id:Nat},id ∉ σ->¬(base<=id/\id<base+(L'.length - σ.length))->H2 id=H id:=by
  intro id h1 h2;simp only[H2,dc,(ry (σ:=σ) (L:=L') iU hle).2 h1];rw[if_neg (by simp only[length_drop];exact h2)]
 have cls:∀{id:Nat} {o2:au},H2 id=some o2->(∃(j:Nat) (o:au),(S.eG x)[j]? =some o/\wj (back σ base n0) o=some o2/\gG id=ma j/\back σ base n0 j=some id)\/(id ∉ σ/\H id=some o2/\gG id=ρ id):=by
  intro id o2 ho;by_cases hm:id∈σ;have⟨j,hj⟩:=List.getElem?_of_mem hm;rw[asX hj]at ho;have⟨o,h1,h2⟩:=hL1 ho;have⟨h3,h4⟩:=aq3 hj;exact .inl ⟨j,o,h1,h2,by rw[h3,h4],by simp only[back,nk (List.getElem?_eq_some_iff.1 hj).1,cond_true];exact hj⟩;by_cases hc:base<=id/\id<base+(L'.length - σ.length);rw[avZ hc]at ho;have⟨o,h1,h2⟩:=hL1 ho;refine .inl ⟨_,o,h1,h2,by simp only[gG];rw[if_pos hc], ?_⟩;simp only[back,qO (show σ.length<=σ.length+(id - base)by omega),cond_false,nk (show σ.length+(id - base)<n0 by omega),cond_true];congr 1;omega;rw[av0 hm hc]at ho;exact .inr ⟨hm,ho,by simp only[gG];rw[if_neg hc]⟩
 have wD:∀{id b:Nat} {o:au},id ∉ σ->H id=some o->o.alive=true->eQ (ρ id)=some b->¬Own (pull σ ρ) (lk (S.heap x)) b:=by
  intro id b o hm ho ha hb hv;have⟨j,id',o',h1,h2,h3,h4⟩:=dR hv;have:=hs.inj id id' o o' b ho h2 ha h3 hb h4;subst this;exact hm (List.mem_of_getElem? h1)
 have av1:∀{b:Nat},G b->G' b:=λ{b} hb=>⟨.inr hb,λhv=>by
  have⟨j,id',o',h1,h2,h3,h4⟩:=dR hv;exact hs.apart b ⟨id',o',h2,h3,h4⟩ hb⟩
 have av2:∀{b:Nat},Own gG H2 b->Own ma (lk (S.eG x)) b\/(Own ρ H b/\G' b):=by
  rintro b ⟨id,o2,ho,ha,hb⟩;rcases cls ho with⟨j,o,h1,h2,h3,_⟩|⟨h1,h2,h3⟩;exact .inl ⟨j,o,h1,by rw[<-(cQ h2).1];exact ha,by rw[<-h3];exact hb⟩;rw[h3]at hb;exact .inr ⟨⟨id,o2,h2,ha,hb⟩,.inl ⟨id,o2,h2,ha,hb⟩,wD h1 h2 ha hb⟩
 have E2:Emb (back σ base n0) ma (lk (S.eG x)) (bg ma (lk (S.eG x)) G') gG H2 (bg gG H2 G):=by
  refine⟨λi j nZ=> ?_,λb hb=> ?_⟩;simp only[back,cond_eq_ite]at nZ;split at nZ;rename_i br;have⟨h3,h4⟩:=aq3 nZ;refine⟨by rw[h3,h4],λo ho=> ?_⟩;have⟨b,h5,h6⟩:=gq hL' i o ho;exact⟨b,by rw[asX nZ];exact h6,(cQ h5).2⟩;rename_i hge;split at nZ;rename_i br;have br:i<n0:=le_of_ble_eq_true br
  have hge:σ.length<=i:=by
   rcases lt_or_ge i σ.length with h5|h5;exact absurd (nk h5) hge;exact h5
  simp only[Option.some.injEq]at nZ;have hc:base<=j/\j<base+(L'.length - σ.length):=by omega
  have hi:σ.length+(j - base)=i:=by omega
  refine⟨by simp only[gG];rw[if_pos hc,hi],λo ho=> ?_⟩;have⟨b,h5,h6⟩:=gq hL' i o ho;exact⟨b,by rw[avZ hc,hi];exact h6,(cQ h5).2⟩;cases nZ;rcases hb with hb|hb;exact(av2 hb).imp (λh=>h) (λh=>h.2);exact .inr (av1 hb)
 have st:Step ρ H (bg ρ H G) w gG H2 (bg gG H2 G) w':=by
  refine⟨λid o ho=>by simp only[gG];rw[if_neg (aor ho)],λid o ho=> ?_,λb hb=> ?_,λb hb hO=>g3.heap b hb (λhv=>hO (E.gf b hv)),g3.size⟩;by_cases hm:id∈σ;have⟨j,hj⟩:=List.getElem?_of_mem hm;have⟨o1,o',h1,h2,h3⟩:=nw hj;rw[ho]at h1;cases h1;have⟨o'',h4,h5⟩:=g3.fj j o' h3;have⟨o3,h6,h7⟩:=gq hL' j o'' h4;refine⟨o3,by rw[asX hj];exact h7,λc' e' hc=> ?_⟩;have⟨c,e1,h8,h9,uv⟩:=h5 c' e' ((cQ h6).2 c' e' hc);exact⟨c,e1,(cQ h2).2 c e1 h8,h9,uv⟩;exact⟨o,by rw[av0 hm (aor ho)];exact ho,λc' e' hc=>⟨c',e',hc,rfl,rfl⟩⟩;rcases g3.gf b (E2.gf b hb)with h5|h5;exact .inl (E.gf b h5);exact .inr h5
 refine⟨gG,⟨λid o2 ho=> ?_,λi j oi oj b hi hj ai aj bi bj=> ?_,λb hb hG=> ?_,λb hb=>Nat.lt_of_lt_of_le (hs.low b hb) g3.size⟩,(wk E2 20).1 _ _ _ hr g2,st,⟨g4.os,g4.tape,g4.output,λb hb hO=>g4.heap b hb (λhv=> ?_)⟩⟩;rcases cls ho with⟨j,o,h1,h2,h3,_⟩|⟨h1,h2,h3⟩;rw[h3];exact aaA E2 h2 (g1.obj j o h1);rw[h3];refine(hs.obj id o2 h2).step st (λb ha hb=> ?_);exact g4.heap b (gX hs ⟨id,o2,h2,ha,hb⟩) (wD h1 h2 ha hb)
 have mixed:∀{b:Nat},Own ma (lk (S.eG x)) b->∀{id:Nat} {o:au},id ∉ σ->H id=some o->o.alive=true->eQ (ρ id)=some b->False:=by
  intro b h1 id o h2 h3 h4 h5;have hG:G' b:=⟨.inl ⟨id,o,h3,h4,h5⟩,wD h2 h3 h4 h5⟩;exact g1.apart b h1 hG
 rcases cls hi with⟨j1,o1,p1,p2,p3,p4⟩|⟨p1,p2,p3⟩;rw[p3]at bi;have a1:o1.alive=true:=by rw[<-(cQ p2).1];exact ai
 rcases cls hj with⟨j2,o2,q1,q2,q3,q4⟩|⟨q1,q2,q3⟩;rw[q3]at bj;have:=g1.inj j1 j2 o1 o2 b p1 q1 a1 (by rw[<-(cQ q2).1];exact aj) bi bj;subst this;rw[p4]at q4;exact Option.some.inj q4;rw[q3]at bj;exact(mixed ⟨j1,o1,p1,a1,bi⟩ q1 q2 aj bj).elim;rw[p3]at bi;rcases cls hj with⟨j2,o2,q1,q2,q3,q4⟩|⟨q1,q2,q3⟩;rw[q3]at bj;exact(mixed ⟨j2,o2,q1,by rw[<-(cQ q2).1];exact aj,bj⟩ p1 p2 ai bi).elim;rw[q3]at bj;exact hs.inj i j oi oj b p2 q2 ai aj bi bj;rcases av2 hb with h5|h5;exact g1.apart b h5 (av1 hG);exact hs.apart b h5.1 hG;have⟨j,id,o,h1,h2,h3,h4⟩:=dR hv;exact hO ⟨id,o,h2,h3,h4⟩;simp[RM.eval]at hq;simp[RM.eval]at hq;simp[RM.eval]at hq
end
instance {k:IntKind} {n:Nat}:DecidableEq (CK.arr k n).V:=inferInstanceAs (DecidableEq (List Int))
instance {k:IntKind}:DecidableEq (CK.af k).V:=inferInstanceAs (DecidableEq (List Int))
instance {k:IntKind}:DecidableEq (CK.int k).V:=inferInstanceAs (DecidableEq Int)
instance:DecidableEq CK.str.V:=inferInstanceAs (DecidableEq ByteArray)
instance:DecidableEq CK.bool.V:=inferInstanceAs (DecidableEq Bool)
abbrev el{cs:List CK}(l:List (CL cs))(i:Int):CL cs:=l.getD i.toNat (CL.d cs)
abbrev bD{α:Type}(a:α):Prop:=a=a
abbrev akC:Prop:=(some []:Option (List au))=some []
section
variable{K:List au->AV->Prop}{C:bQ->Prop}{t e:Tree}{p q:Prop}
theorem x8{α:Type}{a:α}(h:t.bt K C):(Tree.ab (a=a) t).bt K C:=⟨rfl,h⟩
theorem lD(hp:p)(h:t.bt K C):(Tree.ab p t).bt K C:=⟨hp,h⟩
theorem pF{d:Decidable p}(h1:p->t.bt K C)(h2:¬p->e.bt K C):(Tree.ite (@decide p d) t e).bt K C:=⟨λh=>h1 (of_decide_eq_true h),λh=>h2 (of_decide_eq_false h)⟩
theorem pG{a b:Int}(h1:a=b->t.bt K C)(h2:a≠b->e.bt K C):(Tree.ite (a==b) t e).bt K C:=⟨λh=>h1 (by simpa using h),λh=>h2 (by simpa using h)⟩
theorem pH{a b:Int}(h1:a≠b->t.bt K C)(h2:a=b->e.bt K C):(Tree.ite (a !=b) t e).bt K C:=⟨λh=>h1 (by simpa using h),λh=>h2 (by simpa using h)⟩
theorem pI{b:Bool}(h:(Tree.ite b e t).bt K C):(Tree.ite (!b) t e).bt K C:=⟨λhb=>h.2 (by simpa using hb),λhb=>h.1 (by simpa using hb)⟩
theorem x9(h:t.bt K C):(Tree.ite true t e).bt K C:=⟨λ_=>h,λx=>(by cases x)⟩
theorem ya(h:e.bt K C):(Tree.ite false t e).bt K C:=⟨λx=>(by cases x),λ_=>h⟩
theorem pJ{b:Bool}(h1:b=true->t.bt K C)(h2:b=false->e.bt K C):(Tree.ite b t e).bt K C:=⟨h1,h2⟩
theorem lG(h1:p->t.bt K C)(h2:q->e.bt K C):(Tree.both p q t e).bt K C:=⟨h1,h2⟩
theorem pK{H:List au}{v:AV}(h:K H v):(Tree.ret H v).bt K C:=h
theorem yb{c:bQ}(h:C c):(Tree.at c).bt K C:=h
theorem bK{X:Type}{S:Spec X}{x:X}{L:List au}{r:AV}{o:AV}{h:List au}(m:Nat)(e:Norm.run ⟨[],[0],m,[]⟩ ⟨[r],L,[],{}⟩=some ⟨[o],h,[],{}⟩)(hm:(S.heap x).length<=m)(ho:S.out x=o)(hh:S.eG x=h):fq S x L r:=
 ⟨⟨[],[0],m,[]⟩,hm,by rw[ho,hh];exact e⟩
theorem fS{P:Program}{Z:aZ}{X:Type}{S:Spec X}{f:FuncId}{fn:Func}(hf:P.funcs[f]? =some fn)(h:∀x,bE (S.pre x)->∀X:Ctx,X.H=lk (S.heap x)->cP Z X->Safe P f X (fq S x) (start fn (S.args x) (S.heap x)))
 (hb:fn.body.isSome=true:=by kernel_rfl) (hn:∀x,(S.args x).length<=fn.ntmps:=by exact λx=>le_of_ble_eq_true (by kernel_rfl)):fD P Z f S:=acy hf hb hn h
theorem yc{X:Type}{S:Spec X}{x:X}{L:List au}{r:AV}{o:AV}{h:List au}(m:Nat)(cs:List (Nat×Nat×Bool×ba×TypeId))(e:Norm.run ⟨[],[0],m,cs⟩ ⟨[r],L,[],{}⟩=some ⟨[o],h,[],{}⟩)(hm:(S.heap x).length<=m)(ho:S.out x=o)(hh:S.eG x=h):fq S x L r:=
 ⟨⟨[],[0],m,cs⟩,hm,by rw[ho,hh];exact e⟩
end
end Go.Sx
namespace Lf
open Go Go.Sx
section
variable{L:List au}
theorem sP{b:Bool}:Ends [.b .bool] (b,()) L (.s (.bool b)):=rfl
theorem wF{n:Int}:Ends [.b (.int .i64)] (n,()) L (.s (.int .i64 n)):=rfl
theorem akD{s:ByteArray}:Ends [.b .str] (s,()) L (.s (.str s)):=rfl
theorem oZ{s:ByteArray}{n:Int}:Ends [.b .str,.b (.int .i64)] (s,n,()) L (.bd [.s (.str s),.s (.aO .i64 n)]):=rfl
theorem bV{b:Bool}{b':Bool}(h:b=b'):Ends [.b .bool] (b,()) L (.s (.aN b')):=by subst h;rfl
theorem uO{b b':Int}(h:b=b'):Ends [.b (.int .i64)] (b,()) L (.s (.int .i64 b')):=by subst h;rfl
end
theorem aaG{p:Nat->Bool}{n i:Nat}(hi:i<n)(h:p i=false):(List.range n).all p=false:=by
 rw[List.all_eq_false];exact⟨i,mem_range.2 hi,by simp[h]⟩
theorem uP{p:Nat->Bool}{n:Nat}(h:∀i,i<n->p i=true):(List.range n).all p=true:=by
 rw[all_eq_true];exact λi hi=>h i (mem_range.1 hi)
theorem eh{p:Nat->Bool}{n:Nat}:(List.range n).all p=true↔ ∀i,i<n->p i=true:=by
 simp[all_eq_true]
theorem bT{α:Type}{l:List α}{i:Nat}{d:α}(h:i<l.length):l.getD i d=l[i]:=by simp[List.getD,h]
theorem mP{a b:ByteArray}(h:a.data.toList=b.data.toList):a=b:=by
 cases a;cases b;simp only[ByteArray.mk.injEq];exact toList_inj.1 h
theorem tP:∀(x:List UInt8),Op.bytesLess x x=false
 |[]=>rfl|a::x=>by simp[Op.bytesLess,tP x]
theorem wG:∀{x y z:List UInt8},Op.bytesLess x y=true->Op.bytesLess y z=true->Op.bytesLess x z=true
 |_,[],_,h,_=>by simp[Op.bytesLess]at h
 |_,_::_,[],_,h=>by simp[Op.bytesLess]at h
 |[],b::y,c::z,_,_=>rfl|a::x,b::y,c::z,h1,h2=>by
  simp only[Op.bytesLess,or_eq_true,decide_eq_true_eq,and_eq_true,beq_iff_eq]at *;rcases h1 with h1|⟨rfl,h1⟩;rcases h2 with h2|⟨rfl,h2⟩;exact .inl (UInt8.lt_trans h1 h2);exact .inl h1;rcases h2 with h2|⟨rfl,h2⟩;exact .inl h2;exact .inr ⟨rfl,wG h1 h2⟩
theorem wH:∀(x y:List UInt8),Op.bytesLess x y=true\/x=y\/Op.bytesLess y x=true
 |[],[]=>.inr (.inl rfl)|[],_::_=>.inl rfl|_::_,[]=>.inr (.inr rfl)|a::x,b::y=>by
  simp only[Op.bytesLess,or_eq_true,decide_eq_true_eq,and_eq_true,beq_iff_eq,List.cons.injEq];rcases UInt8.lt_or_lt_of_ne (a:=a) (b:=b)|>λh=>(Decidable.em (a=b)).imp id h with rfl|h|h;rcases wH x y with h|rfl|h;exact .inl (.inr ⟨rfl,h⟩);exact .inr (.inl ⟨rfl,rfl⟩);exact .inr (.inr (.inr ⟨rfl,h⟩));exact .inl (.inl h);exact .inr (.inr (.inl h))
theorem mS:∀(x y:List UInt8),(Lib.compareBytes x y<0↔Op.bytesLess x y=true)/\(Lib.compareBytes x y=0↔x=y)/\(-1<=Lib.compareBytes x y/\Lib.compareBytes x y<=1)
 |[],[]=>by simp[Lib.compareBytes,Op.bytesLess]
 |[],_::_=>by simp[Lib.compareBytes,Op.bytesLess]
 |_::_,[]=>by simp[Lib.compareBytes,Op.bytesLess]
 |a::x,b::y=>by
  have⟨h1,h2,h3⟩:=mS x y;simp only[Lib.compareBytes,Op.bytesLess,List.cons.injEq];by_cases h:a<b;rw[if_pos h];have:a≠b:=λe=>by subst e;exact absurd h (UInt8.lt_irrefl a)
  simp[h,this];rw[if_neg h];by_cases h':b<a;rw[if_pos h'];have:a≠b:=λe=>by subst e;exact absurd h' (UInt8.lt_irrefl a)
  simp[h,this];rw[if_neg h'];have:a=b:=UInt8.toNat_inj.1 (by rw[UInt8.lt_iff_toNat_lt]at h h';omega);subst this;simp[h,h1,h2,h3]
def mU(a b:ByteArray):Int:=Lib.compareBytes a.data.toList b.data.toList
theorem uQ(a b:ByteArray):mU a b<0↔slt a b=true:=(mS _ _).1
theorem agw(a b:ByteArray):mU a b=0↔a=b:=by
 rw[show a=b↔a.data.toList=b.data.toList from⟨λh=>by rw[h],mP⟩];exact(mS _ _).2.1
theorem iH(a:ByteArray):slt a a=false:=tP _
theorem iI{a b c:ByteArray}(h1:slt a b=true)(h2:slt b c=true):slt a c=true:=wG h1 h2
theorem aiw(a b:ByteArray):slt a b=true\/a=b\/slt b a=true:=by
 rcases wH a.data.toList b.data.toList with h|h|h;exact .inl h;exact .inr (.inl (mP h));exact .inr (.inr h)
theorem y4{a b:ByteArray}(h:slt a b=true):slt b a=false:=by
 cases h2:slt b a;rfl;have:=iI h h2;rw[iH]at this;cases this
theorem asY{a b:ByteArray}(h:slt a b=true):a≠b:=λe=>by subst e;rw[iH]at h;cases h
theorem wI{a b:ByteArray}(h:slt a b=false)(h2:a≠b):slt b a=true:=by
 rcases aiw a b with h3|h3|h3;rw[h]at h3;cases h3;exact absurd h3 h2;exact h3
theorem aix(a:ByteArray):slt a empty=false:=by
 unfold slt;cases h:a.data.toList<;>rfl
theorem fx{a:ByteArray}(h:a.size=0):a=empty:=by
 apply mP;have:a.data.toList.length=0:=by rw[length_toList];exact h
 rw[List.eq_nil_of_length_eq_zero this];rfl
end Lf
namespace Go.Sx
open Go
section
variable{ρ aU:Nat->Value}{H H' H1 H2:a8}{G O O':Nat->Prop}{w w' w1 w2:World}{P:Program}{X:Ctx}{K:List au->AV->Prop}
theorem Good.ghost(hs:Sat ρ H G w){n:Nat}(hn:H n=none)(g:Value):∃aU,aU n=g/\Sat aU (aP H n .aH) G w/\Step ρ H (bg ρ H G) w aU (aP H n .aH) (bg aU (aP H n .aH) G) w/\Frm ρ H w w:=by
 have ne:∀j x,H j=some x->j≠n:=λj x hx e=>by subst e;rw[hn]at hx;cases hx
 have qN:∀b,Own (λj=>if j=n then g else ρ j) (aP H n .aH) b->Own ρ H b:=by
  rintro b ⟨j,x,hx,h1,h2⟩;by_cases hj:j=n;subst hj;simp only[aP,if_true,Option.some.injEq]at hx;subst hx;cases h1;simp only[aP,hj,if_false]at hx h2;exact⟨j,x,hx,h1,h2⟩
 have st:Step ρ H (bg ρ H G) w (λj=>if j=n then g else ρ j) (aP H n .aH) (bg (λj=>if j=n then g else ρ j) (aP H n .aH) G) w:=by
  refine⟨λj x hx=>by simp[ne j x hx],λj x hx=>⟨x,by simp[aP,ne j x hx,hx],λc' e' hc=>⟨c',e',hc,rfl,rfl⟩⟩,λb hb=>.inl (hb.imp (qN b) id),λb hb _=>rfl,le_refl _⟩
 refine⟨_,by simp,⟨λj x hx=> ?_,λi j oi oj b h1 h2 h3 h4 h5 h6=> ?_,λb hb=>hs.apart b (qN b hb),hs.low⟩,st,rfl,rfl,rfl,λ_ _ _=>rfl⟩;by_cases hj:j=n;subst hj;simp only[aP,if_true,Option.some.injEq]at hx;subst hx;trivial;simp only[aP,hj,if_false]at hx;simp only[hj,if_false];exact(hs.obj j x hx).step st (λ_ _ _=>rfl)
 have f:∀i oi,aP H n .aH i=some oi->oi.alive=true->eQ ((λj=>if j=n then g else ρ j) i)=some b->H i=some oi/\eQ (ρ i)=some b:=by
  intro i oi hi vG hb;by_cases fh:i=n;subst fh;simp only[aP,if_true,Option.some.injEq]at hi;subst hi;cases vG;simp only[aP,fh,if_false]at hi hb;exact⟨hi,hb⟩
 have⟨x1,x2⟩:=f i oi h1 h3 h5;have⟨y1,y2⟩:=f j oj h2 h4 h6;exact hs.inj i j oi oj b x1 y1 h3 h4 x2 y2
theorem erase_filter{L:List MapEntry}(hb:(L.map (·.born)).Nodup){i:Nat}(hi:i<L.length):L.filter (λx=>x.born !=L[i].born)=L.eraseIdx i:=by
 induction L generalizing i with
 |nil=>simp at hi|cons x L ih=>
  simp only[map_cons,List.nodup_cons]at hb;cases i with
  |zero=>
   simp only[List.getElem_cons_zero,List.eraseIdx_cons_zero];rw[List.filter_cons];simp only[bne_self_eq_false,Bool.false_eq_true,if_false];refine List.filter_eq_self.2 λe he=> ?_;rw[bne_iff_ne];exact λh=>hb.1 (mem_map.2 ⟨e,he,h⟩)
  |succ i=>
   simp only[length_cons]at hi;have fh:i<L.length:=by omega
   simp only[List.getElem_cons_succ,List.eraseIdx_cons_succ];rw[List.filter_cons,if_pos,ih hb.2 fh];rw[bne_iff_ne];exact λh=>hb.1 (mem_map.2 ⟨_,getElem_mem fh,h.symm⟩)
theorem vB.next{ck:CK}{left:List (Int×ck.V)}{cur:Option (Int×ck.V)}{es:Array MapEntry}{clock:Nat}{seen:Array Nat}(h:vB ck left cur es clock seen){e:MapEntry}(he:e∈(leftOf es seen).toList):
 ∃i,∃hi:i<left.length,e.key=.int .i64 left[i].1/\e.val=ck.val left[i].2/\vB ck (left.eraseIdx i) (some left[i]) es clock (seen.push e.born):=by
 have hL:(leftOf es seen).toList=es.toList.filter λe=> !seen.contains e.born:=by simp[leftOf]
 rw[hL]at he;obtain⟨i,hi,rfl⟩:=List.getElem_of_mem he;generalize hF:(es.toList.filter λe=> !seen.contains e.born)=F at *;have heq:=h.eq;rw[hF]at heq;have bx:F.length=left.length:=by have:=congrArg List.length heq;simpa only[length_map]using this
 have h1:=congrArg (λl=>l[i]?) heq;have hil:i<left.length:=by omega
 simp only[getElem?_map,getElem?_eq_getElem hi,getElem?_eq_getElem hil,map_some,Option.some.injEq,Prod.mk.injEq]at h1
 have jK:F[i]∈es.toList:=by
  have:=getElem_mem hi;exact(List.mem_filter.1 (show F[i]∈es.toList.filter (λe=> !seen.contains e.born)from by rw[hF];exact this)).1
 refine⟨i,hil,h1.1,h1.2,⟨?_,λp hp=>h.fits p (List.mem_of_mem_eraseIdx hp),h.yw,h.old,λp hp=> ?_⟩⟩
 have e1:(es.toList.filter λe=> !(seen.push F[i].born).contains e.born)=F.filter (λx=>x.born !=F[i].born):=by
  generalize F[i].born=z;rw[<-hF,List.filter_filter];refine List.filter_congr λx _=> ?_;by_cases hz:x.born=z<;>simp[hz,bne]
 have iU:(F.map (·.born)).Nodup:=by
  rw[<-hF];exact(List.Sublist.map _ List.filter_sublist).nodup h.yw
 rw[e1,erase_filter iU hi,ChangeMaps.map_eraseIdx,heq,<-ChangeMaps.map_eraseIdx];cases hp;exact⟨h.fits _ (getElem_mem hil),F[i],jK,by simp,h1.1,h1.2⟩
theorem cq.ast{s:St}{a:Act}(h:cq X ρ s a w){dst:Option Tmp}{q:bP}{v:Value}(hw:w1=w\/w1=w.drew)(hg:Good ρ s.look X.G w1 (s.put dst q).look (q.r s.H.length) v w'):∃aU,cq X aU (s.put dst q) (a.put dst v) w':=by
 have h1:cq X ρ s a w1:=by
  rcases hw with rfl|rfl;exact h;exact h.drew
 have⟨aU,g1,g2,g3,g4⟩:=hg;have⟨arr,df⟩:=a;have hp:=q8 (ρ:=aU) (H:=(s.put dst q).look) (O:=bg aU (s.put dst q).look X.G) (w:=w') h1.size (λt=>ag.step g3 _ _ (h1.den t)) dst g2 df;exact⟨aU,g1,hp.1,hp.2,by have:=h1.defers;cases dst<;>exact this,h1.ao.trans g3,Frm.trans h1 g4,h1.kept.jr h1.sat g4⟩
theorem Yields.congr{o:Oper}{e e':Operand->Value}{R:Value->World->Prop}(he:execOp e' o=execOp e o)(h:Yields P o e w R):Yields P o e' w R:=by
 unfold Yields at *;rw[he];exact h
theorem acz{f:FuncId}{tmps:List AV}{L:List au}{todo:List Item}{stk:yJ}{t:Nat}{k:IntKind}{n:Int}(ht:tmps.getD t (.s .bm)=.s (.int k n))
 (h:Safe P f X K ⟨tmps.set t (.s (.r7 k)),L,todo,stk⟩):Safe P f X K ⟨tmps,L,todo,stk⟩:=by
 intro G E ρ a w ij iv hr b t' fs hw;refine h G E ρ a w ij iv (hr.refine (d:=t) (x:=.s (.int k n)) ht λv hv=> ?_) b t' fs hw;have:=aC (by simp) hv;cases this;exact aK (.r7 _ _)
end
end Go.Sx
namespace Ds
open Go Go.Sx Go.Proofs Lf
abbrev P:Program:=Tryz.prog
theorem mixed:P.follows .mixedOrders=true:=by kernel_rfl
abbrev bk:Ty:=.b (.int .i64)
abbrev bL:Ty:=.b .bool
abbrev cv:Ty:=.b .str
theorem go{Z:aZ}{X:Ctx}{t:aF}{f:FuncId}{fn:Func}{ns:List (Nat×Norm)}{c:bQ}{tr:Tree}{K:List au->AV->Prop}{inl:List FuncId}(hz:cP Z X)(hX:∀id,X.H id=none)(hT:t.Ok P Z)(hf:P.funcs[f]? =some fn)
 (e:run P t.sum fn ns c inl=tr) (h:tr.bt K (Safe P f X K)):Safe P f X K c:=cR (aF.sOk hT) hz mixed hf (λ_ _ id _=>hX id) e h
theorem cA{Z:aZ}{X:Ctx}{t:aF}{f:FuncId}{fn:Func}{ns:List (Nat×Norm)}{c:bQ}{tr:Tree}{K:List au->AV->Prop}{L:List au}{inl:List FuncId}(hz:cP Z X)(hX:X.H=lk L)(hm:∀x∈ns,L.length<=x.2.m)(hT:t.Ok P Z)(hf:P.funcs[f]? =some fn)
 (e:run P t.sum fn ns c inl=tr) (h:tr.bt K (Safe P f X K)):Safe P f X K c:=
 cR (aF.sOk hT) hz mixed hf (λx hx id dI=>by rw[hX];exact getElem?_eq_none (Nat.le_trans (hm x hx) dI)) e h
abbrev cS:List CK:=[.arr .u8 64]
abbrev kS:CK:=.arr .u8 64
abbrev eS:TypeId:=199
abbrev eD:TypeId:=73
abbrev Th:Type:=List (CL cS)
abbrev As:Type:=List (Int×kS.V)
abbrev wJ(i j:Nat)(fu:Int):au:=.ak [.vec i,.iz j,.s (.int .i64 fu)] eD
abbrev hD(th:Th)(m:As)(fu:Int):List au:=[wJ 1 2 fu,.vec (.ah cS th) eS,.map kS m]
abbrev dK:aF:=[]
abbrev inD:List FuncId:=[129,130,137]
def okT(th:Th):Prop:=th.length<=4096/\∀i,i<th.length->(lN (th.getD i (CL.d cS))).length=64
def okM(n:Nat)(m:As):Prop:=(m.map (·.1)).Nodup/\∀p∈m,0<=p.1/\p.1<(n:Int)/\List.length (α:=Int) p.2=64
def okF(fu:Int):Prop:= -1<=fu/\fu<=9223372036854775807
structure cf (th:Th) (m:As) (fu:Int):Prop where
 t:okT th
 m:okM th.length m
 f:okF fu
def nB(th:Th)(n:Int):Bool:=decide (0<=n)&&decide (n<(th.length:Int))
def wK(th:Th)(m:As)(n:Int):List Int:=match fi m n with
 |some v=>v|none=>lN (th.getD n.toNat (CL.d cS))
def tQ(th:Th)(m:As)(n:Int):ByteArray:=if nB th n=true then aB (wK th m n)else empty
def rdE(th:Th)(n:Int):Int:=if nB th n=true then 0 else 5
def tS(fu:Int):Int:=if fu=0 then 0 else imax (fu - 1) (-1)
def tT(th:Th)(fu n:Int)(s:ByteArray):Int:=if nB th n=true then(if s.size=64 then(if fu=0 then 42 else 0)else 1)else 5
def wL(th:Th)(m:As)(fu n:Int)(s:ByteArray):As:=if tT th fu n s=0 then js m n (bF s)else m
def wM(th:Th)(fu n:Int)(s:ByteArray):Int:=if nB th n=true/\s.size=64 then tS fu else fu
abbrev sRd:Spec (Th×As×Int×Int):=⟨λ(_,_,_,n)=>[.ptr 0 0,.s (.int .i64 n)],λ(th,m,fu,_)=>hD th m fu,λ(th,m,fu,_)=>[cf th m fu],λ(th,m,fu,_)=>hD th m fu,λ(th,m,_,n)=>.bd [.s (.str (tQ th m n)),.s (.int .i64 (rdE th n))]⟩
abbrev sWr:Spec (Th×As×Int×Int×ByteArray):=⟨λ(_,_,_,n,s)=>[.ptr 0 0,.s (.int .i64 n),.s (.str s)],λ(th,m,fu,_)=>hD th m fu,λ(th,m,fu,_)=>[cf th m fu],
 λ(th,m,fu,n,s)=>hD th (wL th m fu n s) (wM th fu n s),λ(th,_,fu,n,s)=>.s (.int .i64 (tT th fu n s))⟩
theorem akE(th:Th)(m:As)(fu n:Int):run P dK.sum f105 [] (start f105 [.ptr 0 0,.s (.int .i64 n)] (hD th m fu)) inD=
 Tree.ite (decide (n<(0:Int))) (Tree.ret (hD th m fu) (AV.bd [AV.s (SV.str empty),AV.s (SV.aO i64 (5:Int))])) (Tree.ite (decide (n≥(↑(List.length th):Int))) (Tree.ret (hD th m fu) (AV.bd [AV.s (SV.str empty),AV.s (SV.aO i64 (5:Int))])) (Tree.ite (nH m n) (Tree.ab ((0:Int)≤(0:Int)) (Tree.ab ((0:Int)≤(↑(64:Nat):Int)) (Tree.ab ((↑(64:Nat):Int)≤(↑(64:Nat):Int)) (Tree.ab ((0:Nat)+(64:Nat)≤(64:Nat)) (Tree.ret (hD th m fu++[au.ak [AV.af u8 (64:Nat) ((fi m n).getD (CK.arr u8 (64:Nat)).d)] (199:Nat),au.ak [AV.af u8 (64:Nat) ((fi m n).getD (CK.arr u8 (64:Nat)).d)] (199:Nat),au.ak [AV.af u8 (64:Nat) ((fi m n).getD (CK.arr u8 (64:Nat)).d)] (199:Nat)]) (AV.bd [AV.s (SV.str (aB (List.take (64:Nat) (List.drop (0:Nat) ((fi m n).getD (CK.arr u8 (64:Nat)).d))))),AV.s (SV.aO i64 (0:Int))])))))) (Tree.ab ((0:Int)≤n) (Tree.ab (n<(↑(List.length th):Int)) (Tree.ab (List.length (List.getD th n.toNat (CL.d [CK.arr u8 (64:Nat)])).fst=(64:Nat)) (Tree.ab ((0:Int)≤(0:Int)) (Tree.ab ((0:Int)≤(↑(64:Nat):Int)) (Tree.ab ((↑(64:Nat):Int)≤(↑(64:Nat):Int)) (Tree.ab ((0:Nat)+(64:Nat)≤(64:Nat)) (Tree.ret (hD th m fu++[au.ak [AV.af u8 (64:Nat) (List.getD th n.toNat (CL.d [CK.arr u8 (64:Nat)])).fst] (199:Nat),au.ak [AV.af u8 (64:Nat) ((fi m n).getD (CK.arr u8 (64:Nat)).d)] (199:Nat),au.ak [AV.af u8 (64:Nat) (List.getD th n.toNat (CL.d [CK.arr u8 (64:Nat)])).fst] (199:Nat)]) (AV.bd [AV.s (SV.str (aB (List.take (64:Nat) (List.drop (0:Nat) (List.getD th n.toNat (CL.d [CK.arr u8 (64:Nat)])).fst)))),AV.s (SV.aO i64 (0:Int))]))))))))))):=by kernel_rfl
theorem aiy(th:Th)(m:As)(fu n:Int)(s:ByteArray):run P dK.sum f133 [] (start f133 [.ptr 0 0,.s (.int .i64 n),.s (.str s)] (hD th m fu)) inD=
 Tree.ite (decide (n<0)) (.ret (hD th m fu) (.s (.aO .i64 5))) (.ite (decide (n>=(↑(List.length th):Int))) (.ret (hD th m fu) (.s (.aO .i64 5))) (.ite ((↑s.size:Int) !=64) (.ret (hD th m fu) (.s (.aO .i64 1))) (.ite (fu==0) (.ret (hD th m fu) (.s (.aO .i64 42))) (.ab (aw (fu - (1:Int))) (.ab (s.size<=4294967296) (.ab ((64:Nat)<=(bF s).length) (.ab (List.length ([(List.take 64 (bF s),())].getD 0 (CL.d [.arr .u8 64])).fst=64) (.ret (hD th (js m n ([(List.take 64 (bF s),())].getD 0 (CL.d [.arr .u8 64])).fst) (imax (fu - (1:Int)) (-1))) (.s (.aO .i64 0)))))))))):=by kernel_rfl
theorem kr{th:Th}{n:Int}:nB th n=true↔0<=n/\n<(th.length:Int):=by simp[nB]
theorem rz{th:Th}{n:Int}:nB th n=false↔n<0\/(th.length:Int)<=n:=by
 rw[<-Bool.not_eq_true,kr];omega
theorem ow{m:As}{n:Int}:nH m n=(fi m n).isSome:=by
 rw[Bool.eq_iff_iff];simp only[nH,fi,Option.isSome_map,List.find?_isSome,List.any_eq_true]
theorem acA{m:As}{n:Int}{v:kS.V}(h:fi m n=some v):(n,v)∈m:=by
 simp only[fi,map_eq_some_iff]at h;obtain⟨p,hp,rfl⟩:=h;have h1:=List.mem_of_find?_eq_some hp;have h2:=List.find?_some hp;simp only[beq_iff_eq]at h2;have⟨a,b⟩:=p;simp only at h2;subst h2;exact h1
theorem acB{th:Th}{m:As}{fu n:Int}(h:cf th m fu)(hn:nB th n=true):(wK th m n).length=64:=by
 have⟨h0,h1⟩:=kr.1 hn;unfold wK;split;rename_i v hv;exact(h.m.2 _ (acA hv)).2.2;exact h.t.2 _ (by omega)
theorem acC{l:List Int}(h:l.length=64):List.take 64 (List.drop 0 l)=l:=by rw[List.drop_zero,take_of_length_le (by omega)]
theorem aos{Z:aZ}:fD P Z 105 sRd:=by
 refine fS func105 ?_;rintro⟨th,m,fu,n⟩ ⟨(hd:cf th m fu),_⟩ X hX hz;have bad:nB th n=false->tQ th m n=empty/\rdE th n=5:=λh=>by simp[tQ,rdE,h]
 refine cA hz hX (by simp) aF.Ok.nil func105 (akE th m fu n) ⟨λh=> ?_,λh=>⟨λh2=> ?_,λh2=> ?_⟩⟩;have⟨e1,e2⟩:=bad (rz.2 (.inl (of_decide_eq_true h)));exact bK 3 (by kernel_rfl) (le_refl _) (by show AV.bd [.s (.str (tQ th m n)),.s (.int .i64 (rdE th n))]=_;rw[e1,e2]) rfl;have⟨e1,e2⟩:=bad (rz.2 (.inr (of_decide_eq_true h2)));exact bK 3 (by kernel_rfl) (le_refl _) (by show AV.bd [.s (.str (tQ th m n)),.s (.int .i64 (rdE th n))]=_;rw[e1,e2]) rfl;have h:=of_decide_eq_false h;have h2:=of_decide_eq_false h2;have dH:nB th n=true:=kr.2 ⟨by omega,by omega⟩;have hl:=acB hd dH;have e1:tQ th m n=aB (wK th m n):=by simp[tQ,dH]
 have e2:rdE th n=0:=by simp[rdE,dH]
 refine⟨λhh=>⟨by omega,by omega,by omega,by omega, ?_⟩,λhh=>⟨by omega,by omega, ?_,by omega,by omega,by omega,by omega, ?_⟩⟩;rw[ow]at hh;have⟨v,hv⟩:=isSome_iff_exists.1 hh;have e3:wK th m n=v:=by unfold wK;rw[hv]
 rw[e3]at e1 hl;refine bK (o:=.bd [.s (.str (aB (List.take 64 (List.drop 0 (((fi m n).getD (CK.arr .u8 64).d):List Int))))),.s (.int .i64 0)]) 3 (by kernel_rfl) (le_refl _) ?_ rfl;show AV.bd [.s (.str (tQ th m n)),.s (.int .i64 (rdE th n))]=_;rw[e1,e2,hv,getD_some,acC hl];rw[ow]at hh;have hv:fi m n=none:=by simpa using hh
 have e3:wK th m n=lN (th.getD n.toNat (CL.d cS)):=by simp[wK,hv]
 rw[e3]at hl;exact hl;rw[ow]at hh;have hv:fi m n=none:=by simpa using hh
 have e3:wK th m n=lN (th.getD n.toNat (CL.d cS)):=by simp[wK,hv]
 rw[e3]at e1 hl;refine bK (o:=.bd [.s (.str (aB (List.take 64 (List.drop 0 (lN (th.getD n.toNat (CL.d cS))))))),.s (.int .i64 0)]) 3 (by kernel_rfl) (le_refl _) ?_ rfl;show AV.bd [.s (.str (tQ th m n)),.s (.int .i64 (rdE th n))]=_;rw[e1,e2,acC hl]
theorem wN{Z:aZ}:fD P Z 133 sWr:=by
 refine fS func133 ?_;rintro⟨th,m,fu,n,s⟩ ⟨(hd:cf th m fu),_⟩ X hX hz;have⟨f1,f2⟩:=hd.f;have fin:∀(e:Int) (m':As) (lH:Int),tT th fu n s=e->wL th m fu n s=m'->wM th fu n s=lH->
  (sWr.out (th,m,fu,n,s)=.s (.int .i64 e))/\sWr.eG (th,m,fu,n,s)=hD th m' lH:=λe m' lH h1 h2 h3=>
  ⟨by show AV.s (.int .i64 (tT th fu n s))=_;rw[h1],by show hD th (wL th m fu n s) (wM th fu n s)=_;rw[h2,h3]⟩
 have bad:nB th n=false->tT th fu n s=5/\wL th m fu n s=m/\wM th fu n s=fu:=λh=>by simp[tT,wL,wM,h]
 refine cA hz hX (by simp) aF.Ok.nil func133 (aiy th m fu n s) ⟨λh=> ?_,λh=>⟨λh2=> ?_,λh2=>⟨λh3=> ?_,λh3=>⟨λh4=> ?_,λh4=>⟨⟨by omega,by omega⟩, ?_, ?_, ?_, ?_⟩⟩⟩⟩⟩;have⟨e1,e2,e3⟩:=bad (rz.2 (.inl (of_decide_eq_true h)));exact bK 3 (by kernel_rfl) (le_refl _) (fin _ _ _ e1 e2 e3).1 (fin _ _ _ e1 e2 e3).2;have⟨e1,e2,e3⟩:=bad (rz.2 (.inr (of_decide_eq_true h2)));exact bK 3 (by kernel_rfl) (le_refl _) (fin _ _ _ e1 e2 e3).1 (fin _ _ _ e1 e2 e3).2
 all_goals
  have h:=of_decide_eq_false h;have h2:=of_decide_eq_false h2;have dH:nB th n=true:=kr.2 ⟨by omega,by omega⟩
 have h3:s.size≠64:=by intro e;rw[e]at h3;simp at h3
 have e1:tT th fu n s=1:=by simp[tT,dH,h3]
 exact bK 3 (by kernel_rfl) (le_refl _) (fin 1 m fu e1 (by simp[wL,e1]) (by simp[wM,h3])).1 (fin 1 m fu e1 (by simp[wL,e1]) (by simp[wM,h3])).2
 all_goals
  have h3:s.size=64:=by have:(s.size:Int)=64:=by simpa using h3
                        omega
 have h4:fu=0:=by simpa using h4
 have e1:tT th fu n s=42:=by simp[tT,dH,h3,h4]
 exact bK 3 (by kernel_rfl) (le_refl _) (fin 42 m fu e1 (by simp[wL,e1]) (by simp[wM,dH,h3,h4,tS])).1 (fin 42 m fu e1 (by simp[wL,e1]) (by simp[wM,dH,h3,h4,tS])).2;omega;rw[je];omega;show(List.take 64 (bF s)).length=64;rw[length_take,je];omega;have h4:fu≠0:=by simpa using h4
 have e1:tT th fu n s=0:=by simp[tT,dH,h3,h4]
 have e2:wL th m fu n s=js m n (List.take 64 (bF s)):=by
  rw[take_of_length_le (by rw[je];omega)];simp[wL,e1]
 have e3:wM th fu n s=imax (fu - 1) (-1):=by simp[wM,dH,h3,tS,h4]
 exact bK 3 (by kernel_rfl) (le_refl _) (fin _ _ _ e1 e2 e3).1 (fin _ _ _ e1 e2 e3).2
theorem acD{m:As}{n:Int}{v:kS.V}(p:Int×kS.V):p∈js m n v->p∈m\/p=(n,v):=by
 unfold js;split;intro h;obtain⟨q,hq,rfl⟩:=mem_map.1 h;split;exact .inr rfl;exact .inl hq;intro h;rcases mem_append.1 h with h|h;exact .inl h;exact .inr (mem_singleton.1 h)
theorem y5{m:As}{n:Int}(h:∀p∈m,p.1≠n):fi m n=none:=by
 simp only[fi,Option.map_eq_none_iff,List.find?_eq_none,beq_iff_eq];exact h
theorem rA{m:As}(hk:(m.map (·.1)).Nodup){p:Int×kS.V}(hp:p∈m):fi m p.1=some p.2:=by
 have⟨j,hj⟩:=List.getElem?_of_mem hp;simp only[fi,qg hk hj,map_some]
end Ds
namespace Go.Sx
open Go
def afc(i:Nat)(c0:ba)(s:Nat->List AV->RM bP):Nat->List AV->RM bP:=λbase args=>
 match args[i]? with
 |some (.vec id)=>.look id λo=>match o with
  |some (.vec c _)=>((s base (args.set i (.s (.ro c)))).aez id).bind λq=>.ret ⟨q.ab,(id,.aH)::q.up,q.new,q.r⟩|_=>.fail ""
 |some .emp=>bif c0.n.beq 0 then s base (args.set i (.s (.ro c0)))else .fail ""|_=>s base args
section
variable{ρ aU:Nat->Value}{H H':a8}{G O O':Nat->Prop}{w w':World}{P:Program}{Z:aZ}
theorem acE{aT:List AV}:∀{vs:List Value} {i:Nat} {a b:AV},bI ρ H O w aT vs->aT[i]? =some a->(∀v,ag ρ H O w a v->ag ρ H O w b v)->bI ρ H O w (aT.set i b) vs:=by
 induction aT with
 |nil=>intro vs i a b h hi;simp at hi
 |cons x aT ih=>
  intro vs i a b h hi hab;obtain⟨v,rest,rfl,h1,h2⟩:=aJ.1 h;cases i with
  |zero=>
   simp only[List.getElem?_cons_zero,Option.some.injEq]at hi;subst hi;exact aJ.2 ⟨v,rest,rfl,hab v h1,h2⟩
  |succ i=>exact aJ.2 ⟨v,rest,rfl,h1,ih h2 (by simpa using hi) hab⟩
theorem y6{f:FuncId}{s:Nat->List AV->RM bP}(h:rq P Z f s)(i:Nat)(c0:ba):rq P Z f (afc i c0 s):=by
 intro base args H q hq hn ρ G w vs dU hz hs hd;unfold afc at hq;split at hq;rename_i id hi;simp only[RM.eval]at hq;split at hq;rename_i c e ho;have⟨q',h1,h2⟩:=RM.sO hq;simp only[RM.eval,Option.some.injEq]at h2;subst h2;rw[RM.l6]at h1;have st:=fw (ρ:=ρ) (G:=G) (w:=w) ho;have hd1:=bI.step st _ _ hd
 have hd2:bI ρ (aP H id .aH) (bg ρ (aP H id .aH) G) w (args.set i (.s (.ro c))) vs:=by
  have key:∀(aT:List AV) (vs:List Value) (i:Nat),bI ρ H (bg ρ H G) w aT vs->bI ρ (aP H id .aH) (bg ρ (aP H id .aH) G) w aT vs->aT[i]? =some (.vec id)->bI ρ (aP H id .aH) (bg ρ (aP H id .aH) G) w (aT.set i (.s (.ro c))) vs:=by
   intro aT
   induction aT with
   |nil=>intro vs i h1 h2 hi;simp at hi
   |cons x aT ih=>
    intro vs i h1 h2 hi;obtain⟨v,rest,rfl,h3,h4⟩:=aJ.1 h1;have⟨v',avs,e1,h5,h6⟩:=aJ.1 h2;cases e1;cases i with
    |zero=>
     simp only[List.getElem?_cons_zero,Option.some.injEq]at hi;subst hi;obtain⟨a,cap,rfl,hr,_⟩:=iQ hs ho h3;have:=qY hs ho;rw[hr]at this;exact aJ.2 ⟨_,rest,rfl,aK this,h6⟩
    |succ i=>exact aJ.2 ⟨v,rest,rfl,h5,ih rest i h4 h6 (by simpa using hi)⟩
  exact key args vs i hd hd1 hi
 have hz1:ZAt Z ρ (aP H id .aH) w:=⟨hz.1,λb hb hO=>hz.2 b hb (eY hO)⟩
 have aaH:∀j,j<q'.new.length->aP H id .aH (base+j)=none:=λj hj=>by
  have:=dU j hj;simp only[aP];split;rename_i e1;rw[e1,ho]at this;cases this;exact this
 refine(h base _ _ q' h1 hn ρ G w vs aaH hz1 (hs.kill ho) hd2).mono ?_;rintro en w' ⟨v,he,hg⟩;refine⟨v,he, ?_⟩
 have aeS:dc H ((id,.aH)::q'.up) base q'.new=dc (aP H id .aH) q'.up base q'.new:=by
  funext j;simp only[dc,cT,aP];cases cT q'.up j with
  |some x=>rfl|none=>
   simp only[];by_cases hj:j=id;subst hj
   have qc:¬(base<=j/\j<base+q'.new.length):=by
    rintro⟨k1,k2⟩;have:=dU (j - base) (by simp only[];omega);rw[show base+(j - base)=j from by omega,ho]at this;cases this
   simp[qc];simp[hj]
 simp only[];rw[aeS];exact Good.after st (λb hb=>eY hb) hg;cases hq;rename_i hi;rw[cond_eq_ite]at hq;split at hq;rename_i hc;have hc:c0.n=0:=by simpa using hc
 refine h base _ H q hq hn ρ G w vs dU hz hs (acE hd hi λv hv=> ?_);unfold ag at hv;obtain⟨a,rfl⟩:=hv;exact aK (rk hc a);cases hq;exact h base _ H q hq hn ρ G w vs dU hz hs hd
def akF{X:Type}(S:Spec X)(x:X)(L:List au)(r:AV):Prop:=
 ∃(N:Norm) (o:AV),(S.heap x).length<=N.m/\N.run ⟨[r],L,[],{}⟩=some ⟨[o],S.eG x,[],{}⟩/\∀(ρ:Nat->Value) (H:a8) (O:Nat->Prop) (w:World) (v:Value),ag ρ H O w o v->ag ρ H O w (S.out x) v
variable{X:Type}{S:Spec X}
theorem jN{f:FuncId}{fn:Func}(hf:P.funcs[f]? =some fn)(hb:fn.body.isSome=true)(hn:∀x,(S.args x).length<=fn.ntmps)
 (h:∀x,bE (S.pre x)->∀X:Ctx,X.H=lk (S.heap x)->cP Z X->Safe P f X (akF S x) (start fn (S.args x) (S.heap x))):fD P Z f S:=by
 intro x l9 ρ G w vs hz hs hd;have⟨c,hb⟩:=isSome_iff_exists.1 hb
 have ov:vs.length=(S.args x).length:=by
  have:∀{aT:List AV} {vs:List Value},bI ρ (lk (S.heap x)) (bg ρ (lk (S.heap x)) G) w aT vs->vs.length=aT.length:=by
   intro aT
   induction aT with
   |nil=>intro vs h;rw[bp.1 h];rfl
   |cons a aT ih=>intro vs h;obtain⟨v,rest,rfl,_,h2⟩:=aJ.1 h;simp[ih h2]
  exact this hd
 refine(iS (R:=ki ⟨ρ,lk (S.heap x),G,w,[]⟩ (akF S x)) hf hb ?_).mono ?_;have:=(h x l9 ⟨ρ,lk (S.heap x),G,w,[]⟩ rfl hz).goes rfl rfl (ρ:=ρ) (a:={tmps:=vs.toArray++Array.replicate (fn.ntmps - vs.toArray.size) undef,defers:=[]}) (w:=w);simp only[start,hb,getD_some]at this;refine this ⟨hs, ?_,λt=> ?_,rfl,Step.refl _ _ _ _,⟨rfl,rfl,rfl,λ_ _ _=>rfl⟩,λx hx=>by cases hx⟩;simp[ov]
 have e1:∀(aT:List AV) (vs:List Value),bI ρ (lk (S.heap x)) (bg ρ (lk (S.heap x)) G) w aT vs->∀t,ag ρ (lk (S.heap x)) (bg ρ (lk (S.heap x)) G) w (aT.getD t (.bd [])) (vs.getD t undef):=by
  intro aT
  induction aT with
  |nil=>intro vs h t;rw[bp.1 h];simp only[List.getD,List.getElem?_nil,Option.getD_none];exact cX
  |cons a aT ih=>
   intro vs h t;obtain⟨v,rest,rfl,h1,h2⟩:=aJ.1 h;cases t with
   |zero=>simpa using h1|succ t=>simpa using ih rest h2 t
 have h1:=e1 _ _ hd t;simp only[List.getD_eq_getElem?_getD,List.getElem?_append,List.getElem?_replicate,getD_eq_getD_getElem?,Array.getElem?_append,List.getElem?_toArray,Array.getElem?_replicate,List.size_toArray]at h1 ⊢;rw[ov];split;rename_i ht;have hv:vs[t]? =some vs[t]:=getElem?_eq_getElem (by omega);have ha:(S.args x)[t]? =some (S.args x)[t]:=getElem?_eq_getElem ht;rw[hv,ha]at h1 ⊢;exact h1;split;exact cX;unfold ag;trivial;rintro e w' ⟨v,rfl,L,r,⟨N,o,hm,hN,hwk⟩,ma,g1,g2,g3,g4⟩;refine⟨v,rfl, ?_⟩
 have r0:cq ⟨ρ,lk (S.heap x),G,w,[]⟩ ma ⟨[r],L⟩ {tmps:= #[v],defers:=[]} w':=by
  refine⟨g1,rfl,λt=> ?_,rfl,g3,g4,λx hx=>by cases hx⟩;cases t with
  |zero=>exact g2|succ t=>simp only[List.getD,Array.getD];simp;unfold ag;trivial
 have h0:∀id,N.m<=id->(⟨ρ,lk (S.heap x),G,w,[]⟩:Ctx).H id=none:=λid dI=>by simp[lk];omega
 unfold Norm.run at hN;split at hN;rename_i t1 L1 h1;simp only[]at hN;split at hN;rename_i t2 L2 h2;simp only[Option.some.injEq,bQ.mk.injEq,and_true]at hN;obtain⟨rfl,rfl⟩:=hN;have⟨ma,r1⟩:=cq.fY h0 h1 (cq.ek N.fj r0);have⟨gG,r2⟩:=cq.gr N.pT r1;have⟨ρ3,r3⟩:=cq.gu N.cells r2;have⟨ρ4,r4⟩:=cq.fY h0 h2 r3;exact⟨ρ4,r4.sat,(hwk _ _ _ _ _ (by have h:=r4.den 0;exact h)),r4.ao,r4.jr⟩;cases hN;cases hN
end
end Go.Sx
namespace Ds
open Go Go.Sx Go.Proofs Lf
abbrev az(n:Int):AV:=.s (.int .i64 n)
def mAs:List AV->RM ((Th×As×Int)×List Nat)
 |[.ptr id 0]=>.look id λo=>match o with
  |some (.ak [.vec i,.iz j,f] _)=>.look i λo=>match o with
   |some (.vec (.ah [.arr .u8 64] th) _)=>.look j λo=>match o,f.cD with
    |some (.map (.arr .u8 64) m),some (_,_,fu)=>.ret ((th,m,fu),[id,i,j])|_,_=>.fail ""
   |_=>.fail ""
  |_=>.fail ""
 |_=>.fail ""
def mRd:List AV->RM ((Th×As×Int×Int)×List Nat)
 |[.ptr id 0,n]=>(mAs [.ptr id 0]).bind λ((th,m,fu),σ)=>match n.cD with
  |some (_,_,n)=>.ret ((th,m,fu,n),σ)|none=>.fail ""
 |_=>.fail ""
abbrev av3:=cu sRd mRd
def mWr:List AV->RM ((Th×As×Int×Int×ByteArray)×List Nat)
 |[.ptr id 0,n,.s (.str s)]=>(mAs [.ptr id 0]).bind λ((th,m,fu),σ)=>match n.cD with
  |some (_,_,n)=>.ret ((th,m,fu,n,s),σ)|none=>.fail ""
 |_=>.fail ""
abbrev av4:=cu sWr mWr
def av5(th:Th)(m:As)(fu:Int):Bool:=th.length.ble 4096&&(List.range th.length).all (λi=>(lN (th.getD i (CL.d cS))).length==64)&&decide (m.map (·.1)).Nodup&&m.all (λp=>decide (0<=p.1)&&decide (p.1<(th.length:Int))&&List.length (α:=Int) p.2==64)&&decide (-1<=fu)&&decide (fu<=9223372036854775807)
theorem ayy{th:Th}{m:As}{fu:Int}(h:av5 th m fu=true):cf th m fu:=by
 simp only[av5,and_eq_true,all_eq_true,beq_iff_eq,decide_eq_true_eq,mem_range]at h;have⟨⟨⟨⟨⟨h1,h2⟩,h3⟩,h4⟩,h5⟩,h6⟩:=h;exact⟨⟨le_of_ble_eq_true h1,h2⟩,⟨h3,λp hp=>⟨(h4 p hp).1.1,(h4 p hp).1.2,(h4 p hp).2⟩⟩,h5,h6⟩
theorem aq4{cs:List CK}{l:List (CL cs)}{k:Nat}(h:k<l.length):el l (k:Int)=l[k]:=by
 show l.getD (k:Int).toNat _=_;rw[toNat_natCast];exact bT h
theorem asZ{n:Nat}(h:n<=4096):cf (replicate n (CL.d cS)) [] (-1):=by
 refine⟨⟨by simpa using h,λi hi=> ?_⟩,⟨by simp,λp hp=>by cases hp⟩,by omega,by omega⟩;simp only[List.length_replicate]at hi;rw[bT (by simpa using hi),List.getElem_replicate];rfl
theorem sQ{m:As}(h:(m.map (·.1)).Nodup){n:Int}{v:kS.V}:((js m n v).map (·.1)).Nodup:=by
 unfold js;split;rw[mG];exact h;rename_i hn;have hn:∀p∈m,p.1≠n:=λp hp e=>hn (by simp only[nH,List.any_eq_true,beq_iff_eq];exact⟨p,hp,e⟩);rw[map_append,nodup_append];refine⟨h,by simp,λa ha b hb=> ?_⟩;simp only[map_cons,map_nil,mem_singleton]at hb;obtain⟨p,hp,rfl⟩:=mem_map.1 ha;rw[hb];exact hn p hp
theorem aot{fu:Int}(h:okF fu):okF (tS fu):=by
 unfold okF tS imax at *;split;omega;split<;>omega
theorem wO{th:Th}{m:As}{fu n:Int}{s:ByteArray}(h:cf th m fu):cf th (wL th m fu n s) (wM th fu n s):=by
 refine⟨h.t, ?_, ?_⟩;unfold wL;split;rename_i he
 have dH:nB th n=true/\s.size=64:=by
  unfold tT at he
  repeat' split at he
  all_goals first|(cases he;done)|exact⟨by assumption,by assumption⟩
 have⟨h0,h1⟩:=kr.1 dH.1;refine⟨sQ h.m.1,λp hp=> ?_⟩;rcases acD p hp with hp|rfl;exact h.m.2 p hp;exact⟨h0,h1,by show(bF s).length=64;rw[je];exact dH.2⟩;exact h.m;unfold wM;split;exact aot h.f;exact h.f
theorem lI(s:ByteArray):aB (bF s)=s:=by
 have⟨⟨l⟩⟩:=s;simp only[aB,bF,List.map_map];congr 2;refine(List.map_congr_left λb _=> ?_).trans (List.map_id l);simp
theorem akG{m:As}(h:(m.map (·.1)).Nodup){n x:Int}{v:kS.V}:fi (js m n v) x=if x=n then some v else fi m x:=by
 split;rename_i e;subst e
 have hm:(x,v)∈js m x v:=by
  unfold js;split;rename_i hh;simp only[nH,List.any_eq_true,beq_iff_eq]at hh;have⟨p,hp,e⟩:=hh;exact mem_map.2 ⟨p,hp,by rw[if_pos (by simpa using e)]⟩;exact List.mem_append_right _ List.mem_cons_self
 exact rA (sQ h) hm;rename_i e;cases hg:fi m x with
 |none=>
  refine y5 λp hp ep=> ?_;rcases acD p hp with hp|rfl;have:=rA h hp;rw[ep,hg]at this;cases this;exact e ep.symm
 |some u=>
  have hu:=acA hg;refine rA (sQ h) (p:=(x,u)) ?_;unfold js;split;exact mem_map.2 ⟨_,hu,by rw[if_neg (by simpa using e)]⟩;exact List.mem_append_left _ hu
theorem jW(l:List Int):(aB l).size=l.length:=by
 show(l.map _).toArray.size=_;simp
theorem mV(a b:List Int):aB (a++b)=aB a++aB b:=by
 apply ext;rw[ByteArray.data_append];show(List.map _ (a++b)).toArray=(List.map _ a).toArray++(List.map _ b).toArray;rw[map_append,List.append_toArray]
theorem pL(l:List Int)(i j:Nat):(aB l).extract i j=aB ((l.take j).drop i):=by
 apply ext;rw[ByteArray.data_extract];show(List.map _ l).toArray.extract i j=(List.map _ _).toArray;rw[List.extract_toArray,List.map_drop,List.map_take,List.extract_eq_take_drop];congr 1;rw[List.drop_take]
theorem aaI{th:Th}{m:As}{fu n:Int}(h:cf th m fu)(hn:nB th n=true):(tQ th m n).size=64:=by
 unfold tQ;rw[if_pos hn,jW,acB h hn]
def tV(th:Th):Int:=(th.length:Int).tdiv 4
def pOk(th:Th)(n:Int):Bool:=decide (0<=n)&&decide (n<tV th)
def pgL(th:Th)(m:As)(n:Int):Nat->List Int
 |0=>[]|k+1=>pgL th m n k++bF (tQ th m (n*4+(k:Int)))
def po(th:Th)(m:As)(n:Int):List Int:=pgL th m n 4
def jC(ws:List Int):Int:=ws.getD 0 0*256+ws.getD 1 0
def nr(th:Th)(m:As)(n:Int):Int:=if pOk th n=true then(if jC (po th m n)>254 then 4 else 0)else 5
def kX(th:Th)(m:As)(n:Int):ByteArray:=if nr th m n=0 then aB (((po th m n).drop 2).take (jC (po th m n)).toNat)else empty
def pq(s:ByteArray):List Int:=(s.size:Int) / 256::(s.size:Int)%256::(bF s++replicate (254 - s.size) 0)
def gh(ws:List Int)(k:Nat):ByteArray:=aB ((ws.drop (64*k)).take 64)
def wrG(th:Th)(n:Int)(ws:List Int):Nat->Nat->As->Int->As×Int×Int
 |0,_,m,f=>(m,f,0)|j+1,k,m,f=>if tT th f (n*4+(k:Int)) (gh ws k)=0 then wrG th n ws j (k+1) (wL th m f (n*4+(k:Int)) (gh ws k)) (wM th f (n*4+(k:Int)) (gh ws k))
   else(wL th m f (n*4+(k:Int)) (gh ws k),wM th f (n*4+(k:Int)) (gh ws k),tT th f (n*4+(k:Int)) (gh ws k))
def gwC(th:Th)(n:Int)(s:ByteArray):Int:=if pOk th n=true then(if(s.size:Int)>254 then 40 else 0)else 5
def me(th:Th)(m:As)(fu n:Int)(s:ByteArray):As×Int×Int:=if gwC th n s=0 then wrG th n (pq s) 4 0 m fu else(m,fu,gwC th n s)
def pgT(s:ByteArray):Int:=ax s 9*256+ax s 10
theorem fZ(s:ByteArray)(i:Nat):0<=ax s i/\ax s i<=255:=by
 have:=(s.data.toList.getD i 0).toNat_lt;unfold ax;omega
theorem wrap_u8(n:Int):u8.wrap n=n%256:=rfl
theorem wP{a b:Int}(ha:0<=a/\a<=255)(hb:0<=b/\b<=255):bX BinOp.or i64 (i64.wrap (a*2^min (Int.toNat 8) i64.bits)) b=a*256+b:=by
 have e1:i64.wrap (a*2^min (Int.toNat 8) i64.bits)=a*256:=by
  rw[show(2:Int)^min (Int.toNat 8) i64.bits=256 from by decide];exact cL ⟨by omega,by omega⟩
 rw[e1];obtain⟨x,rfl⟩:=Int.eq_ofNat_of_zero_le ha.1;obtain⟨y,rfl⟩:=Int.eq_ofNat_of_zero_le hb.1;show i64.wrap ((BitVec.ofInt 64 _ ||| BitVec.ofInt 64 _).toNat:Int)=_;have e2:(BitVec.ofInt 64 ((x:Int)*256)).toNat=2^8*x:=by rw[BitVec.toNat_ofInt];omega
 have e3:(BitVec.ofInt 64 (y:Int)).toNat=y:=by rw[BitVec.toNat_ofInt];omega
 rw[BitVec.toNat_or,e2,e3,<-Nat.two_pow_add_eq_or_of_lt (by omega),cL ⟨by omega,by omega⟩];omega
theorem dL(s:ByteArray):(bF s).length=s.size:=by unfold bF;rw[length_map];exact length_toList
theorem dW{th:Th}{n:Int}:pOk th n=true↔0<=n/\n<tV th:=by simp[pOk]
theorem mW(th:Th):0<=tV th/\4*tV th<=(th.length:Int):=by
 unfold tV;rw[Int.tdiv_eq_ediv_of_nonneg (by omega)];omega
theorem afd{th:Th}{n:Int}(h:pOk th n=true){k:Nat}(hk:k<4):nB th (n*4+(k:Int))=true:=by
 have⟨h0,h1⟩:=dW.1 h;have:=mW th;exact kr.2 ⟨by omega,by omega⟩
theorem aaJ{th:Th}{m:As}{fu n:Int}(h:cf th m fu)(hn:pOk th n=true):∀k:Nat,k<=4->(pgL th m n k).length=64*k
 |0,_=>rfl|k+1,hk=>by
  rw[pgL,length_append,aaJ h hn k (by omega),dL,aaI h (afd hn (by omega))];omega
theorem afe{xs ys:List Int}{k:Nat}(hx:xs.length=64*k)(hy:ys.length=64)(hk:k<4):
 over (xs++replicate (256 - 64*k) 0) (64*k) 64 ys=xs++ys++replicate (256 - 64*(k+1)) 0:=by
 unfold over;rw[<-hx,List.take_left,take_of_length_le (by omega),List.drop_append,List.drop_replicate,List.drop_eq_nil_of_le (by omega),nil_append,hx];congr 2;omega
theorem as0{s:ByteArray}(h:s.size<=254):
 over (((replicate 256 (0:Int)).set 0 (u8.wrap ((s.size:Int).fdiv (2^min (Int.toNat 8) i64.bits)))).set 1 (u8.wrap (s.size:Int))) 2 (min (bF s).length 254) (bF s)=pq s:=by
 have e:(replicate 256 (0:Int))=0::0::replicate 254 0:=rfl;have hl:=dL s;rw[e];simp only[List.set_cons_zero,List.set_cons_succ,over,List.take_succ_cons,List.take_zero,hl,wrap_u8];rw[show(2:Int)^min (Int.toNat 8) i64.bits=256 from by decide,Int.fdiv_eq_ediv_of_nonneg _ (by omega),Nat.min_eq_left h,take_of_length_le (by omega),Nat.add_comm 2,List.drop_succ_cons,List.drop_succ_cons,List.drop_replicate];unfold pq;rw[show(s.size:Int) / 256%256=(s.size:Int) / 256 from by omega];rfl
theorem aaK{s:ByteArray}(h:s.size<=254):(pq s).length=256:=by
 unfold pq;simp only[length_cons,length_append,List.length_replicate,dL];omega
theorem akH{th:Th}{n:Int}{ws:List Int}:∀(j k:Nat) (m:As) (f:Int),cf th m f->cf th (wrG th n ws j k m f).1 (wrG th n ws j k m f).2.1
 |0,k,m,f,h=>h|j+1,k,m,f,h=>by
  unfold wrG;split;exact akH j (k+1) _ _ (wO h);exact wO h
theorem av6{th:Th}{m:As}{fu n:Int}{s:ByteArray}(h:cf th m fu):cf th (me th m fu n s).1 (me th m fu n s).2.1:=by
 unfold me;split;exact akH _ _ _ _ h;exact h
def aff:aF:=[(105,av3),(133,av4)]
abbrev akI:FuncId:=128
abbrev inG:List FuncId:=[103,32,57,104,akI,999999]
abbrev eP:TypeId:=26
abbrev eE:TypeId:=27
abbrev eA:TypeId:=173
def afg:List (Nat×Norm):=[((akI+1)*100000+1,⟨[],[0,1,4,19,21,22,24,67,68],3,[]⟩),(12,⟨[],[4,5,7,50],3,[]⟩)]
def cGR(th:Th)(m:As)(fu n:Int)(ws:List Int)(k:Int):bQ:=⟨sl 69 [(0,.tag 3),(1,.ptr 4 0),(4,az k),(19,.ptr 5 0),(21,.ptr 6 0),(22,.ptr 7 0),(24,.ptr 8 0),(67,.tag 9),(68,.tag 3)],
 [wJ 1 2 fu,.vec (.ah cS th) eS,.map kS m,.aH,.ak [az n] 3,.ak [.ptr 0 0] eP,.ak [.s (.str empty)] 9,.ak [az 0] eE,.ak [.af .u8 256 ws] eA,.aH],hd f128 1,⟨some akI,false,0,[ags f75 none 8 1],0⟩⟩
def akJ(th:Th)(m:As)(fu:Int)(ws:List Int):bQ:=⟨sl 51 [(4,.ptr 3 0),(5,.ptr 4 0),(7,.ptr 5 0),(50,.tag 6)],[wJ 1 2 fu,.vec (.ah cS th) eS,.map kS m,.ak [.s (.str empty)] 9,.ak [az 0] eE,.ak [.af .u8 256 ws] eA,.aH],hr f75 12,⟨none,false,1,[],0⟩⟩
def aou:List (Nat×Norm):=[((akI+1)*100000+1,⟨[],[0,1,4,20,23,25,64,65],3,[]⟩)]
def cGW(th:Th)(m:As)(fu n:Int)(ws:List Int)(k:Int):bQ:=⟨sl 66 [(0,.tag 3),(1,.ptr 4 0),(4,az k),(20,.ptr 5 0),(23,.ptr 6 0),(25,.ptr 7 0),(64,.tag 8),(65,.tag 3)],
 [wJ 1 2 fu,.vec (.ah cS th) eS,.map kS m,.aH,.ak [az n] 3,.ak [.ptr 0 0] eP,.ak [az 0] eE,.ak [.af .u8 256 ws] eA,.aH],hd f128 1,⟨some akI,false,0,[ags f117 none 11 1],0⟩⟩
theorem as1(th:Th)(m:As)(fu n:Int):run P aff.sum f75 afg (start f75 [.ptr 0 0,az n] (hD th m fu)) inG=
 Tree.ite (decide (n<0)) (.ret (hD th m fu++[.ak [.ptr 0 0] 26,.ak [.s (.str empty)] 9,.ak [.s (.aO .i64 5)] 27]) (.bd [.s (.str empty),.s (.aO .i64 5)])) (.ab ((4:Int)≠0) (.ab (aw ((↑(List.length th):Int).tdiv 4)) (.ite (decide (n>=(↑(List.length th):Int).tdiv 4)) (.ret (hD th m fu++[.ak [.ptr 0 0] 26,.ak [.s (.str empty)] 9,.ak [.s (.aO .i64 5)] 27]) (.bd [.s (.str empty),.s (.aO .i64 5)])) (.at (cGR th m fu n (replicate 256 0) 0))))):=by kernel_rfl
theorem akK(th:Th)(m:As)(fu n:Int)(ws:List Int)(k:Int):run P aff.sum f75 afg (cGR th m fu n ws k) inG=
 Tree.ite (decide (k<4)) (.ab (aw (k*64)) (.ab (aw (n*4)) (.ab (aw (n*4+k)) (.ab (bD (some [AV.ptr 0 0,az (n*4+k)])) (.ab (bD (some (hD th m fu))) (.ab (cf th m fu) (.ite (rdE th (n*4+k) !=0) (.ret (hD th m fu++[.aH,.ak [az n] 3,.ak [.ptr 0 0] 26,.ak [.s (.str empty)] 9,.ak [az (rdE th (n*4+k))] 27,.ak [.af .u8 256 ws] 173,.aH]) (.bd [.s (.str empty),az (rdE th (n*4+k))])) (.ab ((0:Int)<=k*64) (.ab (k*64<=(↑(256:Nat):Int)) (.ab ((↑(256:Nat):Int)<=(↑(256:Nat):Int)) (.ab True (.ab ((0:Nat)+(k*64).toNat+((↑(256:Nat):Int).toNat - (k*64).toNat)<=256) (.ab (aw (k+1)) (.at (cGR th m fu n (over ws ((0:Nat)+(k*64).toNat) (min (List.map (λ(b:UInt8)=>(↑b.toNat:Int)) (tQ th m (n*4+k)).data.toList).length ((↑(256:Nat):Int).toNat - (k*64).toNat)) (List.map (λ(b:UInt8)=>(↑b.toNat:Int)) (tQ th m (n*4+k)).data.toList)) (k+1)))))))))))))))) (.at (akJ th m fu ws)):=by kernel_rfl
theorem akL(th:Th)(m:As)(fu:Int)(ws:List Int):run P aff.sum f75 afg (akJ th m fu ws) inG=
 Tree.ab (aw (ws.getD (0:Nat) (0:Int))) (Tree.ab ((0:Int)≤(8:Int)) (Tree.ab (aw (ws.getD (1:Nat) (0:Int))) (Tree.ite (decide (bX BinOp.or i64 (i64.wrap (ws.getD (0:Nat) (0:Int)*(2:Int)^min (Int.toNat (8:Int)) i64.bits)) (ws.getD (1:Nat) (0:Int))>(254:Int))) (Tree.ret (hD th m fu++[au.ak [AV.s (SV.str empty)] (9:Nat),au.ak [AV.s (SV.aO i64 (4:Int))] (27:Nat),au.ak [AV.af u8 (256:Nat) ws] (173:Nat),au.aH]) (AV.bd [AV.s (SV.str empty),AV.s (SV.aO i64 (4:Int))])) (Tree.ab (aw ((2:Int)+bX BinOp.or i64 (i64.wrap (ws.getD (0:Nat) (0:Int)*(2:Int)^min (Int.toNat (8:Int)) i64.bits)) (ws.getD (1:Nat) (0:Int)))) (Tree.ab ((0:Int)≤(2:Int)) (Tree.ab ((2:Int)≤(2:Int)+bX BinOp.or i64 (i64.wrap (ws.getD (0:Nat) (0:Int)*(2:Int)^min (Int.toNat (8:Int)) i64.bits)) (ws.getD (1:Nat) (0:Int))) (Tree.ab ((2:Int)+bX BinOp.or i64 (i64.wrap (ws.getD (0:Nat) (0:Int)*(2:Int)^min (Int.toNat (8:Int)) i64.bits)) (ws.getD (1:Nat) (0:Int))≤(↑(256:Nat):Int)) (Tree.ab ((2:Nat)+(((2:Int)+bX BinOp.or i64 (i64.wrap (ws.getD (0:Nat) (0:Int)*(2:Int)^min (Int.toNat (8:Int)) i64.bits)) (ws.getD (1:Nat) (0:Int))).toNat - Int.toNat (2:Int))≤(256:Nat)) (Tree.ret (hD th m fu++[au.ak [AV.s (SV.str (aB (List.take (((2:Int)+bX BinOp.or i64 (i64.wrap (ws.getD (0:Nat) (0:Int)*(2:Int)^min (Int.toNat (8:Int)) i64.bits)) (ws.getD (1:Nat) (0:Int))).toNat - Int.toNat (2:Int)) (List.drop (2:Nat) ws))))] (9:Nat),au.ak [AV.s (SV.aO i64 (0:Int))] (27:Nat),au.ak [AV.af u8 (256:Nat) ws] (173:Nat),au.aH]) (AV.bd [AV.s (SV.str (aB (List.take (((2:Int)+bX BinOp.or i64 (i64.wrap (ws.getD (0:Nat) (0:Int)*(2:Int)^min (Int.toNat (8:Int)) i64.bits)) (ws.getD (1:Nat) (0:Int))).toNat - Int.toNat (2:Int)) (List.drop (2:Nat) ws)))),AV.s (SV.aO i64 (0:Int))])))))))))):=by kernel_rfl
theorem as2(th:Th)(m:As)(fu n:Int)(s:ByteArray):run P aff.sum f117 aou (start f117 [.ptr 0 0,az n,.s (.str s)] (hD th m fu)) inG=
 Tree.ite (decide (n<(0:Int))) (Tree.ret (hD th m fu++[au.ak [AV.ptr (0:Nat) (0:Nat)] (26:Nat),au.ak [AV.s (SV.aO i64 (5:Int))] (27:Nat)]) (AV.s (SV.aO i64 (5:Int)))) (Tree.ab ((4:Int)≠(0:Int)) (Tree.ab (aw ((↑(List.length th):Int).tdiv (4:Int))) (Tree.ite (decide (n≥(↑(List.length th):Int).tdiv (4:Int))) (Tree.ret (hD th m fu++[au.ak [AV.ptr (0:Nat) (0:Nat)] (26:Nat),au.ak [AV.s (SV.aO i64 (5:Int))] (27:Nat)]) (AV.s (SV.aO i64 (5:Int)))) (Tree.ite (decide ((↑s.size:Int)>(254:Int))) (Tree.ret (hD th m fu++[au.ak [AV.ptr (0:Nat) (0:Nat)] (26:Nat),au.ak [AV.s (SV.aO i64 (40:Int))] (27:Nat)]) (AV.s (SV.aO i64 (40:Int)))) (Tree.ab ((0:Int)≤(8:Int)) (Tree.ab ((0:Int)≤(2:Int)) (Tree.ab ((2:Int)≤(↑(256:Nat):Int)) (Tree.ab ((↑(256:Nat):Int)≤(↑(256:Nat):Int)) (Tree.ab True (Tree.ab ((2:Nat)+(254:Nat)≤(256:Nat)) (Tree.at (cGW th m fu n (over (((replicate (256:Nat) (0:Int)).set (0:Nat) (u8.wrap ((↑s.size:Int).fdiv ((2:Int)^min (Int.toNat (8:Int)) i64.bits)))).set (1:Nat) (u8.wrap (↑s.size:Int))) (2:Nat) (min (List.map (fun(b:UInt8)=>(↑b.toNat:Int)) s.data.toList).length (254:Nat)) (List.map (fun(b:UInt8)=>(↑b.toNat:Int)) s.data.toList)) (0:Int))))))))))))):=by kernel_rfl
theorem akM(th:Th)(m:As)(fu n:Int)(ws:List Int)(k:Int):run P aff.sum f117 aou (cGW th m fu n ws k) inG=
 Tree.ite (decide (k<4)) (.ab (aw (k*64)) (.ab (aw (n*4)) (.ab (aw (n*4+k)) (.ab (aw (k*64+64)) (.ab ((0:Int)<=k*64) (.ab (k*64<=k*64+64) (.ab (k*64+64<=(↑(256:Nat):Int)) (.ab ((0:Nat)+(k*64).toNat+((k*64+64).toNat - (k*64).toNat)<=256) (.ab (bD (some [AV.ptr 0 0,az (n*4+k),.s (.str (aB (List.take ((k*64+64).toNat - (k*64).toNat) (List.drop ((0:Nat)+(k*64).toNat) ws))))])) (.ab (bD (some (hD th m fu))) (.ab (cf th m fu) (.ite (tT th fu (n*4+k) (aB (List.take ((k*64+64).toNat - (k*64).toNat) (List.drop ((0:Nat)+(k*64).toNat) ws))) !=0) (.ret (hD th (wL th m fu (n*4+k) (aB (List.take ((k*64+64).toNat - (k*64).toNat) (List.drop ((0:Nat)+(k*64).toNat) ws)))) (wM th fu (n*4+k) (aB (List.take ((k*64+64).toNat - (k*64).toNat) (List.drop ((0:Nat)+(k*64).toNat) ws))))++[.aH,.ak [az n] 3,.ak [.ptr 0 0] 26,.ak [az (tT th fu (n*4+k) (aB (List.take ((k*64+64).toNat - (k*64).toNat) (List.drop ((0:Nat)+(k*64).toNat) ws))))] 27,.ak [.af .u8 256 ws] 173,.aH]) (az (tT th fu (n*4+k) (aB (List.take ((k*64+64).toNat - (k*64).toNat) (List.drop ((0:Nat)+(k*64).toNat) ws)))))) (.ab (aw (k+1)) (.at (cGW th (wL th m fu (n*4+k) (aB (List.take ((k*64+64).toNat - (k*64).toNat) (List.drop ((0:Nat)+(k*64).toNat) ws)))) (wM th fu (n*4+k) (aB (List.take ((k*64+64).toNat - (k*64).toNat) (List.drop ((0:Nat)+(k*64).toNat) ws)))) n ws (k+1)))))))))))))))) (.ret (hD th m fu++[.aH,.ak [az n] 3,.ak [.ptr 0 0] 26,.ak [.s (.aO .i64 0)] 27,.ak [.af .u8 256 ws] 173,.aH]) (.s (.aO .i64 0))):=by kernel_rfl
theorem as3(th:Th)(m:As)(fu:Int):run P aff.sum f32 [] (start f32 [.ptr 0 0] (hD th m fu)) inG=
 Tree.ab ((4:Int)≠0) (.ab (aw ((↑(List.length th):Int).tdiv 4)) (.ret (hD th m fu) (az ((↑(List.length th):Int).tdiv 4)))):=by kernel_rfl
abbrev sGR:Spec (Th×As×Int×Int):=⟨λ(_,_,_,n)=>[.ptr 0 0,az n],λ(th,m,fu,_)=>hD th m fu,λ(th,m,fu,n)=>[cf th m fu,aw n],λ(th,m,fu,_)=>hD th m fu,λ(th,m,_,n)=>.bd [.s (.str (kX th m n)),az (nr th m n)]⟩
abbrev sGW:Spec (Th×As×Int×Int×ByteArray):=⟨λ(_,_,_,n,s)=>[.ptr 0 0,az n,.s (.str s)],λ(th,m,fu,_)=>hD th m fu,λ(th,m,fu,n,_)=>[cf th m fu,aw n],λ(th,m,fu,n,s)=>hD th (me th m fu n s).1 (me th m fu n s).2.1,λ(th,m,fu,n,s)=>az (me th m fu n s).2.2⟩
abbrev sPn:Spec (Th×As×Int):=⟨λ_=>[.ptr 0 0],λ(th,m,fu)=>hD th m fu,λ(th,m,fu)=>[cf th m fu],λ(th,m,fu)=>hD th m fu,λ(th,_,_)=>az (tV th)⟩
theorem kY{Z:aZ}:aff.Ok P Z:=aF.Ok.cons (aos.sum mRd) (aF.Ok.cons (wN.sum mWr) aF.Ok.nil)
theorem av7{Z:aZ}:fD P Z 32 sPn:=by
 refine fS func32 ?_;rintro⟨th,m,fu⟩ ⟨(hd:cf th m fu),_⟩ X hX hz;have h4:=hd.t.1;have:=mW th;refine cA hz hX (by simp) kY func32 (as3 th m fu) ⟨by decide,⟨by unfold tV at this;omega,by unfold tV at this;omega⟩, ?_⟩;exact bK 3 rfl (le_refl _) rfl rfl
theorem as4{th:Th}{n:Int}(h:nB th n=true):rdE th n=0:=by unfold rdE;rw[if_pos h]
theorem akN{ws:List Int}(h:∀x∈ws,0<=x/\x<=255):bX BinOp.or i64 (i64.wrap (ws.getD 0 0*2^min (Int.toNat 8) i64.bits)) (ws.getD 1 0)=jC ws/\0<=jC ws/\jC ws<=65535:=by
 have b:∀i,0<=ws.getD i 0/\ws.getD i 0<=255:=λi=>by
  by_cases hi:i<ws.length;rw[bT hi];exact h _ (getElem_mem hi);simp[List.getD,getElem?_eq_none (Nat.le_of_not_lt hi)]
 have h0:=b 0;have h1:=b 1;unfold jC;exact⟨wP h0 h1,by omega,by omega⟩
theorem rB{th:Th}{m:As}{n:Int}:∀k:Nat,∀x∈pgL th m n k,0<=x/\x<=255
 |0,x,hx=>by cases hx
 |k+1,x,hx=>by
  rw[pgL,mem_append]at hx;rcases hx with hx|hx;exact rB k x hx;simp only[bF,mem_map]at hx;obtain⟨b,_,rfl⟩:=hx;have:=b.toNat_lt;omega
theorem as5{Z:aZ}{X:Ctx}{th:Th}{m:As}{fu n:Int}(hX:X.H=lk (sGR.heap (th,m,fu,n)))(hz:cP Z X)(hd:cf th m fu)(hp:pOk th n=true):Safe P 75 X (fq sGR (th,m,fu,n)) (akJ th m fu (po th m n)):=by
 have mc:∀x∈afg,(sGR.heap (th,m,fu,n)).length<=x.2.m:=by intro y hy;simp[afg]at hy;rcases hy with rfl|rfl<;>exact le_refl _
 refine cA hz hX mc kY func75 (akL th m fu (po th m n)) ?_;have⟨e,l0,l1⟩:=akN (ws:=po th m n) (rB 4)
 have b:∀i,aw ((po th m n).getD i 0):=λi=>by
  by_cases hi:i<(po th m n).length;rw[bT hi];have:=rB 4 _ (getElem_mem hi);exact⟨by omega,by omega⟩;simp[List.getD,getElem?_eq_none (Nat.le_of_not_lt hi),aw]
 rw[e];generalize hl:jC (po th m n)=l at *;have g1:l>254->nr th m n=4:=λh=>by unfold nr;rw[if_pos hp,hl,if_pos h]
 have g2:¬l>254->nr th m n=0:=λh=>by unfold nr;rw[if_pos hp,hl,if_neg h]
 refine⟨b 0,by decide,b 1,λh=> ?_,λh=>⟨⟨by omega,by omega⟩,by decide,by omega,by have:=of_decide_eq_false h;omega,by have:=of_decide_eq_false h;omega, ?_⟩⟩;have h:=g1 (of_decide_eq_true h);refine bK 3 rfl (le_refl _) ?_ rfl;simp[kX,h,tL];have h:=g2 (of_decide_eq_false h);refine bK 3 rfl (le_refl _) ?_ rfl;simp only[kX,h,if_true,hl];rw[show(2+l).toNat - Int.toNat 2=l.toNat from by omega];rfl
theorem av8{Z:aZ}:fD P Z 75 sGR:=by
 refine fS func75 ?_;rintro⟨th,m,fu,n⟩ ⟨(hd:cf th m fu),(hn:aw n),_⟩ X hX hz;have mc:∀x∈afg,(sGR.heap (th,m,fu,n)).length<=x.2.m:=by intro y hy;simp[afg]at hy;rcases hy with rfl|rfl<;>exact le_refl _
 have h4:=hd.t.1;have hN:=mW th;unfold aw at hn
 have bad:¬pOk th n=true->kX th m n=empty/\nr th m n=5:=λh=>by
  have:nr th m n=5:=by unfold nr;rw[if_neg h]
  exact⟨by unfold kX;rw[if_neg (by rw[this];decide)],this⟩
 have loop:pOk th n=true->∀(j k:Nat),k+j=4->Safe P 75 X (fq sGR (th,m,fu,n)) (cGR th m fu n (pgL th m n k++replicate (256 - 64*k) 0) (k:Int)):=by
  intro hp j;have⟨p0,p1⟩:=dW.1 hp
  induction j with
  |zero=>
   intro k hk;obtain rfl:k=4:=by omega
   refine cA hz hX mc kY func75 (akK th m fu n _ 4) ⟨λh=>absurd (of_decide_eq_true h) (by omega),λ_=> ?_⟩;have e:pgL th m n 4++replicate (256 - 64*4) 0=po th m n:=append_nil _;rw[e];exact as5 hX hz hd hp
  |succ j ih=>
   intro k hk;have dH:=afd hp (show k<4 by omega);have next:=ih (k+1) (by omega)
   have hl:=aaJ hd hp k (by omega);have hs:(bF (tQ th m (n*4+(k:Int)))).length=64:=by rw[dL];exact aaI hd dH
   have ho:=afe (k:=k) hl hs (by omega);have e0:=as4 dH;refine cA hz hX mc kY func75 (akK th m fu n _ k) ?_;rw[show(pgL th m n (k+1))=pgL th m n k++bF (tQ th m (n*4+(k:Int)))from rfl,<-ho]at next
   have eo:over (pgL th m n k++replicate (256 - 64*k) 0) (0+((k:Int)*64).toNat) (min (List.map (λ(b:UInt8)=>(b.toNat:Int)) (tQ th m (n*4+(k:Int))).data.toList).length ((256:Int).toNat - ((k:Int)*64).toNat)) (List.map (λ(b:UInt8)=>(b.toNat:Int)) (tQ th m (n*4+(k:Int))).data.toList)=over (pgL th m n k++replicate (256 - 64*k) 0) (64*k) 64 (bF (tQ th m (n*4+(k:Int)))):=by
    show over _ _ (min (bF _).length _) (bF _)=_;rw[hs,show(0+((k:Int)*64).toNat)=64*k from by omega,show min 64 ((256:Int).toNat - ((k:Int)*64).toNat)=64 from by omega]
   rw[show((256:Nat):Int)=256 from rfl,eo,e0];refine⟨λ_=>⟨⟨by omega,by omega⟩,⟨by omega,by omega⟩,⟨by omega,by omega⟩,rfl,rfl,hd,λh=>absurd h (by decide),λ_=>⟨by omega,by omega,by omega,trivial,by omega,⟨by omega,by omega⟩,next⟩⟩,λh=>absurd (of_decide_eq_false h) (by omega)⟩
 refine cA hz hX mc kY func75 (as1 th m fu n) ?_;have lp:=loop;unfold tV at hN
 repeat' (with_reducible (first|refine x8 ?_|refine lD ?_ ?_|refine pF (λ_=> ?_) (λ_=> ?_)|refine pG (λ_=> ?_) (λ_=> ?_)|refine pH (λ_=> ?_) (λ_=> ?_)|refine x9 ?_|refine ya ?_|refine pI ?_|refine pJ (λ_=> ?_) (λ_=> ?_)|refine lG (λ_=> ?_) (λ_=> ?_)|refine pK ?_|refine yb ?_))
 all_goals first|omega|exact⟨by omega,by omega⟩|skip
 have⟨e1,e2⟩:=bad (λh=>by have:=dW.1 h;omega);refine bK 3 rfl (le_refl _) ?_ rfl;simp[e1,e2,tL];have⟨e1,e2⟩:=bad (λh=>by have:=dW.1 h;unfold tV at this;omega);refine bK 3 rfl (le_refl _) ?_ rfl;simp[e1,e2,tL];exact lp (dW.2 ⟨by omega,by unfold tV;omega⟩) 4 0 rfl
theorem av9{Z:aZ}:fD P Z 117 sGW:=by
 refine fS func117 ?_;rintro⟨th,m,fu,n,s⟩ ⟨(hd:cf th m fu),(hn:aw n),_⟩ X hX hz;have mc:∀x∈aou,(sGW.heap (th,m,fu,n,s)).length<=x.2.m:=by intro y hy;simp[aou]at hy;rcases hy with rfl;exact le_refl _
 have h4:=hd.t.1;have hN:=mW th;unfold aw at hn;have bad:∀c,gwC th n s=c->c≠0->me th m fu n s=(m,fu,c):=λc h h2=>by unfold me;rw[h,if_neg h2]
 have loop:pOk th n=true->s.size<=254->∀(j k:Nat) (m':As) (lH:Int),k+j=4->cf th m' lH->me th m fu n s=wrG th n (pq s) j k m' lH->Safe P 117 X (fq sGW (th,m,fu,n,s)) (cGW th m' lH n (pq s) (k:Int)):=by
  intro hp wQ j;have⟨p0,p1⟩:=dW.1 hp;have hl:=aaK wQ
  induction j with
  |zero=>
   intro k m' lH hk hd' hr;obtain rfl:k=4:=by omega
   refine cA hz hX mc kY func117 (akM th m' lH n _ 4) ⟨λh=>absurd (of_decide_eq_true h) (by omega),λ_=> ?_⟩;rw[wrG]at hr;refine bK 3 rfl (le_refl _) ?_ ?_<;>simp[hr,tL]
  |succ j ih=>
   intro k m' lH hk hd' hr;have next:=ih (k+1)
   have es:aB (List.take ((((k:Int)*64+64)).toNat - ((k:Int)*64).toNat) (List.drop (0+((k:Int)*64).toNat) (pq s)))=gh (pq s) k:=by
    unfold gh;rw[show(0+((k:Int)*64).toNat)=64*k from by omega,show((((k:Int)*64+64)).toNat - ((k:Int)*64).toNat)=64 from by omega]
   rw[wrG]at hr;refine cA hz hX mc kY func117 (akM th m' lH n _ k) ?_;rw[show((256:Nat):Int)=256 from rfl,es];refine⟨λ_=>⟨⟨by omega,by omega⟩,⟨by omega,by omega⟩,⟨by omega,by omega⟩,⟨by omega,by omega⟩,by omega,by omega,by omega,by omega,rfl,rfl,hd',λh=> ?_,λh=>⟨⟨by omega,by omega⟩, ?_⟩⟩,λh=>absurd (of_decide_eq_false h) (by omega)⟩;have h:¬tT th lH (n*4+(k:Int)) (gh (pq s) k)=0:=by simpa using h
   rw[if_neg h]at hr;refine bK 3 rfl (le_refl _) ?_ ?_<;>simp[hr,tL];have h:tT th lH (n*4+(k:Int)) (gh (pq s) k)=0:=by simpa using h
   rw[if_pos h]at hr;exact next _ _ (by omega) (wO hd') hr
 refine cA hz hX mc kY func117 (as2 th m fu n s) ?_;have lp:=loop;have hb:=λh=>as0 (s:=s) h;unfold bF at hb;unfold tV at hN
 repeat' (with_reducible (first|refine x8 ?_|refine lD ?_ ?_|refine pF (λ_=> ?_) (λ_=> ?_)|refine pG (λ_=> ?_) (λ_=> ?_)|refine pH (λ_=> ?_) (λ_=> ?_)|refine x9 ?_|refine ya ?_|refine pI ?_|refine pJ (λ_=> ?_) (λ_=> ?_)|refine lG (λ_=> ?_) (λ_=> ?_)|refine pK ?_|refine yb ?_))
 all_goals first|omega|exact⟨by omega,by omega⟩|trivial|skip
 have e:=bad 5 (by unfold gwC;rw[if_neg (λh=>by have:=dW.1 h;omega)]) (by decide);refine bK 3 rfl (le_refl _) ?_ ?_<;>simp[e,tL];have e:=bad 5 (by unfold gwC;rw[if_neg (λh=>by have:=dW.1 h;unfold tV at this;omega)]) (by decide);refine bK 3 rfl (le_refl _) ?_ ?_<;>simp[e,tL];have e:=bad 40 (by unfold gwC;rw[if_pos (dW.2 ⟨by omega,by unfold tV;omega⟩),if_pos (by omega)]) (by decide);refine bK 3 rfl (le_refl _) ?_ ?_<;>simp[e,tL];rw[hb (by omega)];have hp:pOk th n=true:=dW.2 ⟨by omega,by unfold tV;omega⟩;have ec:gwC th n s=0:=by unfold gwC;rw[if_pos hp,if_neg (by omega)]
 exact lp hp (by omega) 4 0 m fu rfl hd (by unfold me;rw[ec,if_pos rfl])
theorem aaL{ws:List Int}{i:Nat}(hi:i<ws.length)(h:0<=ws.getD i 0/\ws.getD i 0<=255):ax (aB ws) i=ws.getD i 0:=by
 have e:ax (aB ws) i=(((ws.map λn=>UInt8.ofNat n.toNat).getD i 0).toNat:Int):=rfl
 have e2:(ws.map λn=>UInt8.ofNat n.toNat).getD i 0=UInt8.ofNat (ws.getD i 0).toNat:=by
  rw[bT (by simpa using hi),bT hi,List.getElem_map]
 rw[e,e2,UInt8.toNat_ofNat'];omega
end Ds
namespace Lf
open Go Go.Sx Go.Proofs
abbrev P:Program:=Tryz.prog
theorem mixed:P.follows .mixedOrders=true:=by kernel_rfl
abbrev bk:Ty:=.b (.int .i64)
abbrev bL:Ty:=.b .bool
abbrev cv:Ty:=.b .str
abbrev iw:Ty:=.b (.row (.af .i64) 3)
abbrev cE:List CK:=[.str,.str]
abbrev cB:List CK:=[.str,.int .i64]
abbrev En:Type:=ByteArray×ByteArray×Unit
abbrev Br:Type:=ByteArray×Int×Unit
abbrev eE:TypeId:=66
abbrev eB:TypeId:=105
abbrev uy:TypeId:=67
abbrev sR:TypeId:=113
abbrev rC:Ty:=.b (.row (.ah cE) eE)
abbrev yd:Ty:=.b (.row (.ah cB) eB)
abbrev er:Ty:=.st [.bool,.row (.ah cE) eE,.row (.ah cB) eB]
abbrev oz:Ty:=.st [.bool,.row (.ah cE) uy,.row (.ah cB) sR]
abbrev mX:Ty:=.b (.row (.ah cE) uy)
abbrev as6:Ty:=.b (.row (.ah cB) sR)
abbrev sS(l:Bool)(es:List En)(bs:List Br):AV:=.agg [.s (.bool l),.s (.ro (.ah cE es)),.s (.ro (.ah cB bs))]
abbrev rD(l:Bool)(es:List En)(bs:List Br)(t:TypeId):au:=.ak [.s (.bool l),.s (.ro (.ah cE es)),.s (.ro (.ah cB bs))] t
theorem go{Z:aZ}{X:Ctx}{t:aF}{f:FuncId}{fn:Func}{ns:List (Nat×Norm)}{c:bQ}{tr:Tree}{K:List au->AV->Prop}(hz:cP Z X)(hX:∀id,X.H id=none)(hT:t.Ok P Z)(hf:P.funcs[f]? =some fn)
 (e:run P t.sum fn ns c=tr) (h:tr.bt K (Safe P f X K)):Safe P f X K c:=cR (aF.sOk hT) hz mixed hf (λ_ _ id _=>hX id) e h
def dE:En:=(empty,empty,())
def dB:Br:=(empty,0,())
def okE(es:List En)(i:Nat):Bool:= !(decide ((es.getD i dE).1=empty)||decide (((es.getD i dE).1.size:Int)>24)||decide (((es.getD i dE).2.1.size:Int)>100)||(decide (0<i)&& !slt (es.getD (i - 1) dE).1 (es.getD i dE).1))
def okB(bs:List Br)(i:Nat):Bool:= !(decide (((bs.getD i dB).1.size:Int)>24)||decide ((bs.getD i dB).2.1<2)||decide ((bs.getD i dB).2.1>=1024)||(decide (0<i)&& !slt (bs.getD (i - 1) dB).1 (bs.getD i dB).1))
def mf(es:List En):Bool:=(List.range es.length).all (okE es)
def pr(bs:List Br):Bool:=(List.range bs.length).all (okB bs)
def ch(l:Bool)(es:List En)(bs:List Br):Bool:= !((l&&decide ((bs.length:Int)>0))||(!l&&decide ((es.length:Int)>0)))&&mf es&&pr bs
def dK:aF:=[]
def akO:List (Nat×Norm):=[(4,⟨[],[1,27,28,29],0,[]⟩),(10,⟨[],[1,67,68,69],0,[]⟩)]
def tW(l:Bool)(es:List En)(bs:List Br)(i:Int):bQ:=⟨sl 105 [(1,.ptr 0 0),(27,.s (.ro (.ah cE es))),(28,.s (.int .i64 (es.length:Int))),(29,.s (.int .i64 i))],[rD l es bs 99],hd f108 4,{}⟩
def acF(l:Bool)(es:List En)(bs:List Br)(i:Int):bQ:=⟨sl 105 [(1,.ptr 0 0),(67,.s (.ro (.ah cB bs))),(68,.s (.int .i64 (bs.length:Int))),(69,.s (.int .i64 i))],[rD l es bs 99],hd f108 10,{}⟩
theorem aov(l:Bool)(es:List En)(bs:List Br):run P dK.sum f108 akO (start f108 [sS l es bs] [])=
 Tree.ite l (.ite (decide ((↑bs.length:Int)>0)) (.ret [.ak [.s (.bool l),.s (.ro (.ah cE es)),.s (.ro (.ah cB bs))] 99] (.s (.aN false))) (.ite (!l) (.ite (decide ((↑es.length:Int)>0)) (.ret [.ak [.s (.bool l),.s (.ro (.ah cE es)),.s (.ro (.ah cB bs))] 99] (.s (.aN false))) (.at (tW l es bs 0))) (.at (tW l es bs 0)))) (.ite (!l) (.ite (decide ((↑es.length:Int)>0)) (.ret [.ak [.s (.bool l),.s (.ro (.ah cE es)),.s (.ro (.ah cB bs))] 99] (.s (.aN false))) (.at (tW l es bs 0))) (.at (tW l es bs 0))):=by kernel_rfl
theorem acG(l:Bool)(es:List En)(bs:List Br)(i:Int):run P dK.sum f108 akO (tW l es bs i)=
 Tree.ite (decide (i<es.length)) (.ab ((0:Int)<=i) (.ab (i<es.length) (.ite (decide ((es.getD i.toNat (CL.d cE)).fst=empty)) (.ret [.ak [.s (.bool l),.s (.ro (.ah cE es)),.s (.ro (.ah cB bs))] 99,.ak [.s (.str (es.getD i.toNat (CL.d cE)).fst),.s (.str (es.getD i.toNat (CL.d cE)).snd.fst)] 66] (.s (.aN false))) (.ite (decide ((↑(ByteArray.size (es.getD i.toNat (CL.d cE)).fst):Int)>24)) (.ret [.ak [.s (.bool l),.s (.ro (.ah cE es)),.s (.ro (.ah cB bs))] 99,.ak [.s (.str (es.getD i.toNat (CL.d cE)).fst),.s (.str (es.getD i.toNat (CL.d cE)).snd.fst)] 66] (.s (.aN false))) (.ite (decide ((↑(ByteArray.size (es.getD i.toNat (CL.d cE)).snd.fst):Int)>100)) (.ret [.ak [.s (.bool l),.s (.ro (.ah cE es)),.s (.ro (.ah cB bs))] 99,.ak [.s (.str (es.getD i.toNat (CL.d cE)).fst),.s (.str (es.getD i.toNat (CL.d cE)).snd.fst)] 66] (.s (.aN false))) (.ite (decide (i>0)) (.ab (aw (i - (1:Int))) (.ab ((0:Int)<=i - (1:Int)) (.ab (i - (1:Int)<(↑es.length:Int)) (.ite (!slt (es.getD (i - (1:Int)).toNat (CL.d cE)).fst (es.getD i.toNat (CL.d cE)).fst) (.ret [.ak [.s (.bool l),.s (.ro (.ah cE es)),.s (.ro (.ah cB bs))] 99,.ak [.s (.str (es.getD i.toNat (CL.d cE)).fst),.s (.str (es.getD i.toNat (CL.d cE)).snd.fst)] 66] (.s (.aN false))) (.ab (aw (i+1)) (.at (tW l es bs (i+1)))))))) (.ab (aw (i+1)) (.at (tW l es bs (i+1)))))))))) (.at (acF l es bs 0)):=by kernel_rfl
theorem acH(l:Bool)(es:List En)(bs:List Br)(i:Int):run P dK.sum f108 akO (acF l es bs i)=
 Tree.ite (decide (i<bs.length)) (.ab ((0:Int)<=i) (.ab (i<bs.length) (.ite (decide ((↑(ByteArray.size (bs.getD i.toNat (CL.d cB)).fst):Int)>24)) (.ret [.ak [.s (.bool l),.s (.ro (.ah cE es)),.s (.ro (.ah cB bs))] 99,.ak [.s (.str (bs.getD i.toNat (CL.d cB)).fst),.s (.int .i64 (bs.getD i.toNat (CL.d cB)).snd.fst)] 105] (.s (.aN false))) (.ite (decide ((bs.getD i.toNat (CL.d cB)).snd.fst<2)) (.ret [.ak [.s (.bool l),.s (.ro (.ah cE es)),.s (.ro (.ah cB bs))] 99,.ak [.s (.str (bs.getD i.toNat (CL.d cB)).fst),.s (.int .i64 (bs.getD i.toNat (CL.d cB)).snd.fst)] 105] (.s (.aN false))) (.ite (decide ((bs.getD i.toNat (CL.d cB)).snd.fst>=1024)) (.ret [.ak [.s (.bool l),.s (.ro (.ah cE es)),.s (.ro (.ah cB bs))] 99,.ak [.s (.str (bs.getD i.toNat (CL.d cB)).fst),.s (.int .i64 (bs.getD i.toNat (CL.d cB)).snd.fst)] 105] (.s (.aN false))) (.ite (decide (i>0)) (.ab (aw (i - (1:Int))) (.ab ((0:Int)<=i - (1:Int)) (.ab (i - (1:Int)<(↑bs.length:Int)) (.ite (!slt (bs.getD (i - (1:Int)).toNat (CL.d cB)).fst (bs.getD i.toNat (CL.d cB)).fst) (.ret [.ak [.s (.bool l),.s (.ro (.ah cE es)),.s (.ro (.ah cB bs))] 99,.ak [.s (.str (bs.getD i.toNat (CL.d cB)).fst),.s (.int .i64 (bs.getD i.toNat (CL.d cB)).snd.fst)] 105] (.s (.aN false))) (.ab (aw (i+1)) (.at (acF l es bs (i+1)))))))) (.ab (aw (i+1)) (.at (acF l es bs (i+1)))))))))) (.ret [.ak [.s (.bool l),.s (.ro (.ah cE es)),.s (.ro (.ah cB bs))] 99] (.s (.aN true))):=by kernel_rfl
theorem afh{Z:aZ}:cg P Z 108 [er] [bL] (λ_=>[]) (λ((l,es,bs,()),())=>(ch l es bs,())):=by
 refine ay func108 (by kernel_rfl) (by kernel_rfl) ?_;rintro⟨⟨(l:Bool),(es:List En),(bs:List Br),⟨⟩⟩,⟨⟩⟩ ⟨⟨_,hle,hlb,_⟩,_⟩ _ X hX hz;have hle:es.length<=9223372036854775807:=hle;have hlb:bs.length<=9223372036854775807:=hlb
 have second:mf es=true->ch l es bs=pr bs->∀(n k:Nat),k+n=bs.length->(∀j,j<k->okB bs j=true)->Safe P 108 X (Ends [bL] (ch l es bs,())) (acF l es bs (k:Int)):=by
  intro he hm n
  induction n with
  |zero=>
   intro k hk hp;refine go hz hX aF.Ok.nil func108 (acH l es bs k) ⟨λh=>absurd (of_decide_eq_true h) (by omega),λh=>bV ?_⟩;rw[hm];exact uP (λj hj=>hp j (by omega))
  |succ n ih=>
   intro k hk hp;have no:okB bs k=false->ch l es bs=false:=λh=>by rw[hm];exact aaG (by omega) h
   refine go hz hX aF.Ok.nil func108 (acH l es bs k) ⟨λh=>⟨by omega,by omega, ?_⟩,λh=>absurd (of_decide_eq_false h) (by omega)⟩;simp only[toNat_natCast];refine⟨λh1=>bV (no ?_),λh1=>⟨λh2=>bV (no ?_),λh2=>⟨λh3=>bV (no ?_),λh3=>⟨λh4=> ?_,λh4=>⟨⟨by omega,by omega⟩, ?_⟩⟩⟩⟩⟩;show(!(decide (((bs.getD k dB).1.size:Int)>24)||_||_||_))=false;rw[show decide (((bs.getD k dB).1.size:Int)>24)=true from h1];rfl;show(!(_||decide ((bs.getD k dB).2.1<2)||_||_))=false;rw[show decide ((bs.getD k dB).2.1<2)=true from h2];simp;show(!(_||_||decide ((bs.getD k dB).2.1>=1024)||_))=false;rw[show decide ((bs.getD k dB).2.1>=1024)=true from h3];simp;have h0:(k:Int)>0:=of_decide_eq_true h4;rw[show((k:Int) - 1).toNat=k - 1 from by omega];refine⟨⟨by omega,by omega⟩,by omega,by omega,λh5=>bV (no ?_),λh5=>⟨⟨by omega,by omega⟩,ih (k+1) (by omega) (λj hj=> ?_)⟩⟩;show(!(_||_||_||(decide (0<k)&& !slt (bs.getD (k - 1) dB).1 (bs.getD k dB).1)))=false;rw[show(!slt (bs.getD (k - 1) dB).1 (bs.getD k dB).1)=true from h5,show decide (0<k)=true from decide_eq_true (by omega)];simp;by_cases yG:j=k;subst yG;show(!(decide (((bs.getD j dB).1.size:Int)>24)||decide ((bs.getD j dB).2.1<2)||decide ((bs.getD j dB).2.1>=1024)||(decide (0<j)&& !slt (bs.getD (j - 1) dB).1 (bs.getD j dB).1)))=true;rw[show(!slt (bs.getD (j - 1) dB).1 (bs.getD j dB).1)=false from h5,show decide ((bs.getD j dB).2.1>=1024)=false from h3,show decide ((bs.getD j dB).2.1<2)=false from h2,show decide (((bs.getD j dB).1.size:Int)>24)=false from h1];simp;exact hp j (by omega);have h0:¬(k:Int)>0:=of_decide_eq_false h4;refine ih (k+1) (by omega) (λj hj=> ?_);by_cases yG:j=k;subst yG;show(!(decide (((bs.getD j dB).1.size:Int)>24)||decide ((bs.getD j dB).2.1<2)||decide ((bs.getD j dB).2.1>=1024)||(decide (0<j)&& !slt (bs.getD (j - 1) dB).1 (bs.getD j dB).1)))=true;rw[show decide ((bs.getD j dB).2.1>=1024)=false from h3,show decide ((bs.getD j dB).2.1<2)=false from h2,show decide (((bs.getD j dB).1.size:Int)>24)=false from h1,decide_eq_false (by omega)];rfl;exact hp j (by omega)
 have first:ch l es bs=(mf es&&pr bs)->∀(n k:Nat),k+n=es.length->(∀j,j<k->okE es j=true)->Safe P 108 X (Ends [bL] (ch l es bs,())) (tW l es bs (k:Int)):=by
  intro hm n
  induction n with
  |zero=>
   intro k hk hp;have he:mf es=true:=uP (λj hj=>hp j (by omega));exact go hz hX aF.Ok.nil func108 (acG l es bs k) ⟨λh=>absurd (of_decide_eq_true h) (by omega),λh=>second he (by rw[hm,he];rfl) bs.length 0 (by omega) (λj hj=>by omega)⟩
  |succ n ih=>
   intro k hk hp;have no:okE es k=false->ch l es bs=false:=λh=>by rw[hm,show mf es=false from aaG (by omega) h];rfl
   refine go hz hX aF.Ok.nil func108 (acG l es bs k) ⟨λh=>⟨by omega,by omega, ?_⟩,λh=>absurd (of_decide_eq_false h) (by omega)⟩;simp only[toNat_natCast];refine⟨λh1=>bV (no ?_),λh1=>⟨λh2=>bV (no ?_),λh2=>⟨λh3=>bV (no ?_),λh3=>⟨λh4=> ?_,λh4=>⟨⟨by omega,by omega⟩, ?_⟩⟩⟩⟩⟩;show(!(decide ((es.getD k dE).1=empty)||_||_||_))=false;rw[show decide ((es.getD k dE).1=empty)=true from h1];rfl;show(!(_||decide (((es.getD k dE).1.size:Int)>24)||_||_))=false;rw[show decide (((es.getD k dE).1.size:Int)>24)=true from h2];simp;show(!(_||_||decide (((es.getD k dE).2.1.size:Int)>100)||_))=false;rw[show decide (((es.getD k dE).2.1.size:Int)>100)=true from h3];simp;have h0:(k:Int)>0:=of_decide_eq_true h4;rw[show((k:Int) - 1).toNat=k - 1 from by omega];refine⟨⟨by omega,by omega⟩,by omega,by omega,λh5=>bV (no ?_),λh5=>⟨⟨by omega,by omega⟩,ih (k+1) (by omega) (λj hj=> ?_)⟩⟩;show(!(_||_||_||(decide (0<k)&& !slt (es.getD (k - 1) dE).1 (es.getD k dE).1)))=false;rw[show(!slt (es.getD (k - 1) dE).1 (es.getD k dE).1)=true from h5,show decide (0<k)=true from decide_eq_true (by omega)];simp;by_cases yG:j=k;subst yG;show(!(decide ((es.getD j dE).1=empty)||decide (((es.getD j dE).1.size:Int)>24)||decide (((es.getD j dE).2.1.size:Int)>100)||(decide (0<j)&& !slt (es.getD (j - 1) dE).1 (es.getD j dE).1)))=true;rw[show(!slt (es.getD (j - 1) dE).1 (es.getD j dE).1)=false from h5,show decide (((es.getD j dE).2.1.size:Int)>100)=false from h3,show decide (((es.getD j dE).1.size:Int)>24)=false from h2,show decide ((es.getD j dE).1=empty)=false from h1];simp;exact hp j (by omega);have h0:¬(k:Int)>0:=of_decide_eq_false h4;refine ih (k+1) (by omega) (λj hj=> ?_);by_cases yG:j=k;subst yG;show(!(decide ((es.getD j dE).1=empty)||decide (((es.getD j dE).1.size:Int)>24)||decide (((es.getD j dE).2.1.size:Int)>100)||(decide (0<j)&& !slt (es.getD (j - 1) dE).1 (es.getD j dE).1)))=true;rw[show decide (((es.getD j dE).2.1.size:Int)>100)=false from h3,show decide (((es.getD j dE).1.size:Int)>24)=false from h2,show decide ((es.getD j dE).1=empty)=false from h1,decide_eq_false (by omega)];rfl;exact hp j (by omega)
 refine go hz hX aF.Ok.nil func108 (aov l es bs) ⟨λhl=>⟨λh1=>bV ?_,λh1=>⟨λh2=> ?_,λh2=>first ?_ es.length 0 (by omega) (λj hj=>by omega)⟩⟩,λhl=>⟨λh1=>⟨λh2=>bV ?_,λh2=>first ?_ es.length 0 (by omega) (λj hj=>by omega)⟩,λh1=> ?_⟩⟩;show(!((l&&decide ((bs.length:Int)>0))||_)&&_&&_)=false;rw[hl,h1];rfl;subst hl;cases h2;show(!((l&&decide ((bs.length:Int)>0))||(!l&&_))&&_&&_)=_;rw[hl,h1];rfl;show(!((l&&_)||(!l&&decide ((es.length:Int)>0)))&&_&&_)=false;rw[hl,h2];rfl;show(!((l&&_)||(!l&&decide ((es.length:Int)>0)))&&_&&_)=_;rw[hl,h2];rfl;subst hl;cases h1
theorem iJ{α:Type}{l:List α}{k:Nat}{d:α}(h:k<l.length):l.take k++[l.getD k d]=l.take (k+1):=by
 rw[bT h,List.take_succ_eq_append_getElem h]
abbrev aq5:=bM [cv,cv] [bk] (λ_=>[]) (λ(a,b,())=>(mU a b,()))
def as7:aF:=[(109,aq5)]
def agx:aF:=[(79,aq5)]
theorem aow(a b:ByteArray):run P as7.sum f79 [] (start f79 [.s (.str a),.s (.str b)] [])=
 Tree.ret [] (.s (.int .i64 (mU a b))):=by kernel_rfl
theorem afi(x:Br)(b:ByteArray):run P agx.sum f78 [] (start f78 [.agg [.s (.str x.1),.s (.int .i64 x.2.1)],.s (.str b)] [])=
 Tree.ret [.ak [.s (.str x.fst),.s (.int .i64 x.snd.fst)] 105] (.s (.int .i64 (mU x.fst b))):=by kernel_rfl
theorem acI(x:En)(b:ByteArray):run P agx.sum f93 [] (start f93 [.agg [.s (.str x.1),.s (.str x.2.1)],.s (.str b)] [])=
 Tree.ret [.ak [.s (.str x.fst),.s (.str x.snd.fst)] 66] (.s (.int .i64 (mU x.fst b))):=by kernel_rfl
set_option maxHeartbeats 1000000 in
set_option maxRecDepth 100000 in
theorem aaM(a b:ByteArray)(w:World):Calls P 109 #[.string a,.string b] w λe w'=>e=.returned (.int .i64 (mU a b))/\w'=w:=by
 have mixed:=mixed;have t3:=Tryz.underlying3;have t9:=Tryz.underlying9;have u3:=run_underlying t3;have u9:=run_underlying t9
 go_enter func109,Tryz.ntmps109
 go_wp2
 rw[run_callFunc_extern func131 (by kernel_rfl) (by kernel_rfl) (by kernel_rfl) (e:=Extern.BytealgCompare.compare) (by kernel_rfl),Lib.run_compareString];simp only[Result.andThen];rw[Oper.upon_value]
 go_wp2
 go_ret
 exact⟨rfl,rfl⟩
theorem aox{Z:aZ}:cg P Z 109 [cv,cv] [bk] (λ_=>[]) (λ(a,b,())=>(mU a b,())):=by
 rintro⟨(a:ByteArray),(b:ByteArray),⟨⟩⟩ _ _ G w vs hG hz hd;obtain⟨v,rest,rfl,h1,h2⟩:=aJ.1 hd;obtain⟨u,rest,rfl,h3,h4⟩:=aJ.1 h2;obtain rfl:=bp.1 h4;obtain rfl:=fB h1;obtain rfl:=fB h3;refine(aaM a b w).mono ?_;rintro e w' ⟨rfl,rfl⟩;refine⟨_,rfl,Good.val ⟨λid o ho=>by simp at ho,λi j oi oj b hi=>by simp at hi,λb hb=> ?_,hG⟩ ?_⟩;have⟨id,o,ho,_⟩:=hb;cases ho;exact aK (.int .i64 _)
theorem akP{Z:aZ}:cg P Z 79 [cv,cv] [bk] (λ_=>[]) (λ(a,b,())=>(mU a b,())):=by
 refine ay func79 (by kernel_rfl) (by kernel_rfl) ?_;rintro⟨(a:ByteArray),(b:ByteArray),⟨⟩⟩ _ _ X hX hz;exact go hz hX (aF.Ok.cons aox.sum aF.Ok.nil) func79 (aow a b) wF
abbrev tBr:Ty:=.st [.str,.int .i64]
abbrev tEn:Ty:=.st [.str,.str]
theorem aiz{Z:aZ}:cg P Z 78 [tBr,cv] [bk] (λ_=>[]) (λ((a,_,()),b,())=>(mU a b,())):=by
 refine ay func78 (by kernel_rfl) (by kernel_rfl) ?_;rintro⟨⟨(a:ByteArray),(n:Int),⟨⟩⟩,(b:ByteArray),⟨⟩⟩ _ _ X hX hz;exact go hz hX (aF.Ok.cons akP.sum aF.Ok.nil) func78 (afi (a,n,()) b) wF
theorem afj{Z:aZ}:cg P Z 93 [tEn,cv] [bk] (λ_=>[]) (λ((a,_,()),b,())=>(mU a b,())):=by
 refine ay func93 (by kernel_rfl) (by kernel_rfl) ?_;rintro⟨⟨(a:ByteArray),(n:ByteArray),⟨⟩⟩,(b:ByteArray),⟨⟩⟩ _ _ X hX hz;exact go hz hX (aF.Ok.cons akP.sum aF.Ok.nil) func93 (acI (a,n,()) b) wF
abbrev ayz:=bM [tBr,cv] [bk] (λ_=>[]) (λ((a,_,()),b,())=>(mU a b,()))
abbrev ayA:=bM [tEn,cv] [bk] (λ_=>[]) (λ((a,_,()),b,())=>(mU a b,()))
def acJ:aF:=[(78,ayz)
 ,(93,ayA)
 ]
def aoy:List (Nat×Norm):=[(3,⟨[],[0,1,2,8,9,10],0,[]⟩)]
def akQ(bs:List Br)(key:ByteArray)(i j:Int):bQ:=⟨sl 49 [(0,.s (.ro (.ah cB bs))),(1,.s (.str key)),(2,.s (.qF 78)),(8,.s (.int .i64 (bs.length:Int))),(9,.s (.int .i64 i)),(10,.s (.int .i64 j))],[],hd f77 3,{}⟩
def akR(bs:List En)(key:ByteArray)(i j:Int):bQ:=⟨sl 49 [(0,.s (.ro (.ah cE bs))),(1,.s (.str key)),(2,.s (.qF 93)),(8,.s (.int .i64 (bs.length:Int))),(9,.s (.int .i64 i)),(10,.s (.int .i64 j))],[],hd f92 3,{}⟩
abbrev akS(x:Br):ByteArray:=x.1
abbrev acK(x:En):ByteArray:=x.1
abbrev mg(l:List Br):List ByteArray:=l.map akS
abbrev b9(l:List En):List ByteArray:=l.map acK
theorem aoz(bs:List Br)(key:ByteArray):run P acJ.sum f77 aoy (start f77 [.s (.ro (.ah cB bs)),.s (.str key),.s (.qF 78)] [])=
 Tree.at (akQ bs key 0 (↑bs.length:Int)):=by kernel_rfl
theorem agy(bs:List Br)(key:ByteArray)(i j:Int):run P acJ.sum f77 aoy (akQ bs key i j)=
 Tree.ite (decide (i<j)) (Tree.ab (aw (i+j)) (Tree.ab ((0:Int)≤(1:Int)) (Tree.ab ((0:Int)≤i64.wrap ((u64.wrap (i+j)).fdiv ((2:Int)^min (Int.toNat (1:Int)) u64.bits))) (Tree.ab (i64.wrap ((u64.wrap (i+j)).fdiv ((2:Int)^min (Int.toNat (1:Int)) u64.bits))<(↑bs.length:Int)) (Tree.ite (decide (mU (bs.getD (i64.wrap ((u64.wrap (i+j)).fdiv ((2:Int)^min (Int.toNat (1:Int)) u64.bits))).toNat (CL.d [CK.str,CK.int i64])).fst key<(0:Int))) (Tree.ab (aw (i64.wrap ((u64.wrap (i+j)).fdiv ((2:Int)^min (Int.toNat (1:Int)) u64.bits))+(1:Int))) (Tree.at (akQ bs key (i64.wrap ((u64.wrap (i+j)).fdiv ((2:Int)^min (Int.toNat (1:Int)) u64.bits))+(1:Int)) j))) (Tree.at (akQ bs key i (i64.wrap ((u64.wrap (i+j)).fdiv ((2:Int)^min (Int.toNat (1:Int)) u64.bits)))))))))) (Tree.ite (decide (i<(↑bs.length:Int))) (Tree.ab ((0:Int)≤i) (Tree.ab (i<(↑bs.length:Int)) (Tree.ret [] (AV.bd [AV.s (SV.int i64 i),AV.s (SV.bool (mU (bs.getD i.toNat (CL.d [CK.str,CK.int i64])).fst key==(0:Int)))])))) (Tree.ret [] (AV.bd [AV.s (SV.int i64 i),AV.s (SV.aN false)]))):=by kernel_rfl
theorem aoA(bs:List En)(key:ByteArray):run P acJ.sum f92 aoy (start f92 [.s (.ro (.ah cE bs)),.s (.str key),.s (.qF 93)] [])=
 Tree.at (akR bs key 0 (↑bs.length:Int)):=by kernel_rfl
theorem agz(bs:List En)(key:ByteArray)(i j:Int):run P acJ.sum f92 aoy (akR bs key i j)=
 Tree.ite (decide (i<j)) (Tree.ab (aw (i+j)) (Tree.ab ((0:Int)≤(1:Int)) (Tree.ab ((0:Int)≤i64.wrap ((u64.wrap (i+j)).fdiv ((2:Int)^min (Int.toNat (1:Int)) u64.bits))) (Tree.ab (i64.wrap ((u64.wrap (i+j)).fdiv ((2:Int)^min (Int.toNat (1:Int)) u64.bits))<(↑bs.length:Int)) (Tree.ite (decide (mU (bs.getD (i64.wrap ((u64.wrap (i+j)).fdiv ((2:Int)^min (Int.toNat (1:Int)) u64.bits))).toNat (CL.d [CK.str,CK.str])).fst key<(0:Int))) (Tree.ab (aw (i64.wrap ((u64.wrap (i+j)).fdiv ((2:Int)^min (Int.toNat (1:Int)) u64.bits))+(1:Int))) (Tree.at (akR bs key (i64.wrap ((u64.wrap (i+j)).fdiv ((2:Int)^min (Int.toNat (1:Int)) u64.bits))+(1:Int)) j))) (Tree.at (akR bs key i (i64.wrap ((u64.wrap (i+j)).fdiv ((2:Int)^min (Int.toNat (1:Int)) u64.bits)))))))))) (Tree.ite (decide (i<(↑bs.length:Int))) (Tree.ab ((0:Int)≤i) (Tree.ab (i<(↑bs.length:Int)) (Tree.ret [] (AV.bd [AV.s (SV.int i64 i),AV.s (SV.bool (mU (bs.getD i.toNat (CL.d [CK.str,CK.str])).fst key==(0:Int)))])))) (Tree.ret [] (AV.bd [AV.s (SV.int i64 i),AV.s (SV.aN false)]))):=by kernel_rfl
def cY(ks:List ByteArray)(key:ByteArray):Nat:=(ks.takeWhile (λk=>slt k key)).length
def jD(ks:List ByteArray)(key:ByteArray):Bool:=decide (ks[cY ks key]? =some key)
def jj(ks:List ByteArray):Prop:=∀i j,i<j->j<ks.length->slt (ks.getD i empty) (ks.getD j empty)=true
theorem fR{α:Type}(l:List α)(f:α->ByteArray)(d:α)(t:Nat)(hd:f d=empty:=by rfl):(l.map f).getD t empty=f (l.getD t d):=by
 simp only[List.getD,getElem?_map];cases l[t]? with
 |none=>exact hd.symm|some x=>rfl
theorem afk:∀{ks:List ByteArray} {key:ByteArray} {i:Nat},i<=ks.length->(∀t,t<i->slt (ks.getD t empty) key=true)->(i<ks.length->slt (ks.getD i empty) key=false)->cY ks key=i
 |[],key,i,h,_,_=>by
  simp only[length_nil,Nat.le_zero]at h;subst h;rfl
 |k::ks,key,0,h,_,h2=>by
  have:=h2 (by simp);simp only[List.getD_cons_zero]at this;simp[cY,List.takeWhile,this]
 |k::ks,key,i+1,h,h1,h2=>by
  have h0:=h1 0 (by omega);simp only[List.getD_cons_zero]at h0;have:=afk (ks:=ks) (key:=key) (i:=i) (by simpa using h) (λt ht=>by simpa using h1 (t+1) (by omega)) (λhi=>by simpa using h2 (by simpa using hi));simp only[cY]at this ⊢;simp[List.takeWhile,h0,this]
theorem wR(n:Int):(n==0)=decide (n=0):=by
 by_cases h:n=0<;>simp[h]
theorem akT{s:Int}(h0:0<=s)(h1:s<9223372036854775808):(u64.wrap s).fdiv (2^min (Int.toNat 1) u64.bits)=s / 2:=by
 have e1:u64.wrap s=s:=by
  show s%18446744073709551616=s;omega
 rw[e1];show s.fdiv 2=s / 2;rw[Int.fdiv_eq_ediv_of_nonneg _ (by omega)]
theorem mh{Z:aZ}:acJ.Ok P Z:=aF.Ok.cons aiz.sum (
 aF.Ok.cons afj.sum
 aF.Ok.nil)
theorem as8{Z:aZ}:cg P Z 77 [yd,cv,.b .fn] [bk,bL] (λ(l,_,f,())=>[(f:Nat)=78,(l:List Br).length<=1000000,jj (mg l)]) (λ(l,key,_,())=>((cY (mg l) key:Nat),jD (mg l) key,())):=by
 refine ay func77 (by kernel_rfl) (by kernel_rfl) ?_;rintro⟨(l:List Br),(key:ByteArray),(f:Nat),⟨⟩⟩ _ ⟨(hf:f=78),(hl:l.length<=1000000),(hs:jj (mg l)),_⟩ X hX hz;subst hf;have hk:∀t,(mg l).getD t empty=(l.getD t dB).1:=λt=>fR l akS dB t;have hn:(mg l).length=l.length:=length_map _;have loop:∀(n i j:Nat),j - i<=n->i<=j->j<=l.length->(∀t,t<i->slt (l.getD t dB).1 key=true)->(∀t,j<=t->t<l.length->slt (l.getD t dB).1 key=false)->
  Safe P 77 X (Ends [bk,bL] ((cY (mg l) key:Nat),jD (mg l) key,())) (akQ l key (i:Int) (j:Int)):=by
  intro n
  induction n with
  |zero=>
   intro i j h1 h2 h3 h4 h5;have hlb:cY (mg l) key=i:=afk (by rw[hn];omega) (λt ht=>by rw[hk];exact h4 t ht) (λh=>by rw[hn]at h;rw[hk];exact h5 i (by omega) h);refine go hz hX mh func77 (agy l key i j) ⟨λh=>absurd (of_decide_eq_true h) (by omega),λh=>⟨λh6=>⟨by omega,of_decide_eq_true h6, ?_⟩,λh6=> ?_⟩⟩;have h7:i<l.length:=by have:=of_decide_eq_true h6;omega
   simp only[toNat_natCast];rw[jD,hlb];refine aM ((i:Int),mU (l.getD i dB).1 key==0,()) ?_ (by kernel_rfl);congr 2;rw[getElem?_map,getElem?_eq_getElem h7,bT h7];simp only[map_some,Option.some.injEq];rw[wR,decide_eq_decide.2 (agw _ _)];have h7:¬i<l.length:=by have:=of_decide_eq_false h6;omega
   rw[jD,hlb];refine aM ((i:Int),false,()) ?_ (by kernel_rfl);congr 2;rw[getElem?_map,getElem?_eq_none (Nat.le_of_not_lt h7)];rfl
  |succ n ih=>
   intro i j h1 h2 h3 h4 h5;by_cases nZ:i<j;have e:=akT (s:=(i:Int)+(j:Int)) (by omega) (by omega);have e2:((i:Int)+(j:Int)) / 2=((i+j) / 2:Nat):=by omega
   refine go hz hX mh func77 (agy l key i j) ?_;have e3:i64.wrap (((i+j) / 2:Nat):Int)=(((i+j) / 2:Nat):Int):=cL ⟨by omega,by omega⟩;rw[e,e2,e3];simp only[toNat_natCast];refine⟨λh=>⟨⟨by omega,by omega⟩,by decide,by omega,by omega,λh6=>⟨⟨by omega,by omega⟩, ?_⟩,λh6=> ?_⟩,λh=>absurd (of_decide_eq_false h) (by omega)⟩;have h7:slt (l.getD ((i+j) / 2) dB).1 key=true:=(uQ _ _).1 (of_decide_eq_true h6);refine ih ((i+j) / 2+1) j (by omega) (by omega) h3 (λt ht=> ?_) h5;by_cases hte:t=(i+j) / 2;rw[hte];exact h7;have:=hs t ((i+j) / 2) (by omega) (by omega);rw[hk,hk]at this;exact iI this h7
   have h7:slt (l.getD ((i+j) / 2) dB).1 key=false:=by
    cases h8:slt (l.getD ((i+j) / 2) dB).1 key;rfl;exact absurd ((uQ _ _).2 h8) (of_decide_eq_false h6)
   refine ih i ((i+j) / 2) (by omega) (by omega) (by omega) h4 (λt ht htl=> ?_);by_cases hte:t=(i+j) / 2;rw[hte];exact h7;have:=hs ((i+j) / 2) t (by omega) (by omega);rw[hk,hk]at this;cases h8:slt (l.getD t dB).1 key;rfl;rw[iI this h8]at h7;cases h7;exact ih i j (by omega) h2 h3 h4 h5
 exact go hz hX mh func77 (aoz l key) (loop l.length 0 l.length (by omega) (by omega) (by omega) (λt ht=>by omega) (λt ht htl=>by omega))
theorem as9{Z:aZ}:cg P Z 92 [rC,cv,.b .fn] [bk,bL] (λ(l,_,f,())=>[(f:Nat)=93,(l:List En).length<=1000000,jj (b9 l)]) (λ(l,key,_,())=>((cY (b9 l) key:Nat),jD (b9 l) key,())):=by
 refine ay func92 (by kernel_rfl) (by kernel_rfl) ?_;rintro⟨(l:List En),(key:ByteArray),(f:Nat),⟨⟩⟩ _ ⟨(hf:f=93),(hl:l.length<=1000000),(hs:jj (b9 l)),_⟩ X hX hz;subst hf;have hk:∀t,(b9 l).getD t empty=(l.getD t dE).1:=λt=>fR l acK dE t;have hn:(b9 l).length=l.length:=length_map _;have loop:∀(n i j:Nat),j - i<=n->i<=j->j<=l.length->(∀t,t<i->slt (l.getD t dE).1 key=true)->(∀t,j<=t->t<l.length->slt (l.getD t dE).1 key=false)->
  Safe P 92 X (Ends [bk,bL] ((cY (b9 l) key:Nat),jD (b9 l) key,())) (akR l key (i:Int) (j:Int)):=by
  intro n
  induction n with
  |zero=>
   intro i j h1 h2 h3 h4 h5;have hlb:cY (b9 l) key=i:=afk (by rw[hn];omega) (λt ht=>by rw[hk];exact h4 t ht) (λh=>by rw[hn]at h;rw[hk];exact h5 i (by omega) h);refine go hz hX mh func92 (agz l key i j) ⟨λh=>absurd (of_decide_eq_true h) (by omega),λh=>⟨λh6=>⟨by omega,of_decide_eq_true h6, ?_⟩,λh6=> ?_⟩⟩;have h7:i<l.length:=by have:=of_decide_eq_true h6;omega
   simp only[toNat_natCast];rw[jD,hlb];refine aM ((i:Int),mU (l.getD i dE).1 key==0,()) ?_ (by kernel_rfl);congr 2;rw[getElem?_map,getElem?_eq_getElem h7,bT h7];simp only[map_some,Option.some.injEq];rw[wR,decide_eq_decide.2 (agw _ _)];have h7:¬i<l.length:=by have:=of_decide_eq_false h6;omega
   rw[jD,hlb];refine aM ((i:Int),false,()) ?_ (by kernel_rfl);congr 2;rw[getElem?_map,getElem?_eq_none (Nat.le_of_not_lt h7)];rfl
  |succ n ih=>
   intro i j h1 h2 h3 h4 h5;by_cases nZ:i<j;have e:=akT (s:=(i:Int)+(j:Int)) (by omega) (by omega);have e2:((i:Int)+(j:Int)) / 2=((i+j) / 2:Nat):=by omega
   refine go hz hX mh func92 (agz l key i j) ?_;have e3:i64.wrap (((i+j) / 2:Nat):Int)=(((i+j) / 2:Nat):Int):=cL ⟨by omega,by omega⟩;rw[e,e2,e3];simp only[toNat_natCast];refine⟨λh=>⟨⟨by omega,by omega⟩,by decide,by omega,by omega,λh6=>⟨⟨by omega,by omega⟩, ?_⟩,λh6=> ?_⟩,λh=>absurd (of_decide_eq_false h) (by omega)⟩;have h7:slt (l.getD ((i+j) / 2) dE).1 key=true:=(uQ _ _).1 (of_decide_eq_true h6);refine ih ((i+j) / 2+1) j (by omega) (by omega) h3 (λt ht=> ?_) h5;by_cases hte:t=(i+j) / 2;rw[hte];exact h7;have:=hs t ((i+j) / 2) (by omega) (by omega);rw[hk,hk]at this;exact iI this h7
   have h7:slt (l.getD ((i+j) / 2) dE).1 key=false:=by
    cases h8:slt (l.getD ((i+j) / 2) dE).1 key;rfl;exact absurd ((uQ _ _).2 h8) (of_decide_eq_false h6)
   refine ih i ((i+j) / 2) (by omega) (by omega) (by omega) h4 (λt ht htl=> ?_);by_cases hte:t=(i+j) / 2;rw[hte];exact h7;have:=hs ((i+j) / 2) t (by omega) (by omega);rw[hk,hk]at this;cases h8:slt (l.getD t dE).1 key;rfl;rw[iI this h8]at h7;cases h7;exact ih i j (by omega) h2 h3 h4 h5
 exact go hz hX mh func92 (aoA l key) (loop l.length 0 l.length (by omega) (by omega) (by omega) (λt ht=>by omega) (λt ht htl=>by omega))
abbrev ayB:=bM [yd,cv,.b .fn] [bk,bL] (λ(l,_,f,())=>[(f:Nat)=78,(l:List Br).length<=1000000,jj (mg l)]) (λ(l,key,_,())=>((cY (mg l) key:Nat),jD (mg l) key,()))
abbrev ayC:=bM [rC,cv,.b .fn] [bk,bL] (λ(l,_,f,())=>[(f:Nat)=93,(l:List En).length<=1000000,jj (b9 l)]) (λ(l,key,_,())=>((cY (b9 l) key:Nat),jD (b9 l) key,()))
def akU:aF:=[(77,ayB)
 ,(92,ayC)
 ]
def aaN:List (Nat×Norm):=[(3,⟨[(3,.af .i64 [],3)],[1,3,9,10,11],0,[]⟩),(8,⟨[(3,.af .i64 [],3)],[3,28,29,30],0,[]⟩)]
def uR(l:Bool)(es:List En)(bs:List Br)(acc:List Int)(i:Int):bQ:=⟨sl 43 [(1,.ptr 0 0),(3,.vec 1),(9,.s (.ro (.ah cE es))),(10,.s (.int .i64 (es.length:Int))),(11,.s (.int .i64 i))],[rD l es bs 99,.vec (.af .i64 acc) 3],hd f119 3,{}⟩
def uS(bs:List Br)(acc:List Int)(i:Int):bQ:=⟨sl 43 [(3,.vec 0),(28,.s (.ro (.ah cB bs))),(29,.s (.int .i64 (bs.length:Int))),(30,.s (.int .i64 i))],[.vec (.af .i64 acc) 3],hd f119 8,{}⟩
def o8(x:En):Int:=2+(x.1.size:Int)+(x.2.1.size:Int)
def sT(x:Br):Int:=3+(x.1.size:Int)
def aQ(es:List En)(bs:List Br):List Int:=es.map o8++bs.map sT
def bw(es:List En)(bs:List Br):Int:=1+((es.map o8).sum+(bs.map sT).sum)
def aY(es:List En):Prop:=es.length<=1000/\∀x∈es,x.1.size<=1000/\x.2.1.size<=1000
def aV(bs:List Br):Prop:=bs.length<=1000/\∀x∈bs,x.1.size<=1000
abbrev akV:=bM [er] [iw] (λ((_,es,bs,()),())=>[aY es,aV bs]) (λ((_,es,bs,()),())=>(aQ es bs,()))
def aq6:aF:=[(119,akV)]
def akW:List (Nat×Norm):=[(3,⟨[],[3,7,8,9],0,[]⟩)]
def agA(l:List Int)(a i:Int):bQ:=⟨sl 18 [(3,.s (.int .i64 a)),(7,.vec 0),(8,.s (.int .i64 (l.length:Int))),(9,.s (.int .i64 i))],[.vec (.af .i64 l) 3],hd f114 3,{}⟩
abbrev aq7:=bM [er] [bk] (λ((_,es,bs,()),())=>[aY es,aV bs]) (λ((_,es,bs,()),())=>(bw es bs,()))
def awa:aF:=[(114,aq7)]
theorem aiA(l:List Br)(key:ByteArray):run P akU.sum f46 [] (start f46 [.s (.ro (.ah cB l)),.s (.str key)] [])=
 Tree.ab ((78:Nat)=(78:(Ty.b B.fn).V)) (.ab (l.length<=1000000) (.ab (jj (mg l)) (.ite (!jD (mg l) key) (.ab (aw ((↑(cY (mg l) key):bk.V) - (1:Int))) (.ret [] (.s (.int .i64 (imax 0 ((↑(cY (mg l) key):bk.V) - (1:Int))))))) (.ret [] (.s (.int .i64 (imax 0 (↑(cY (mg l) key):bk.V)))))))):=by kernel_rfl
theorem afl(l:List En)(key:ByteArray):run P akU.sum f66 [] (start f66 [.s (.ro (.ah cE l)),.s (.str key)] [])=
 Tree.ab ((93:Nat)=(93:(Ty.b B.fn).V)) (.ab (l.length<=1000000) (.ab (jj (b9 l)) (.ret [] (.bd [.s (.int .i64 (↑(cY (b9 l) key):bk.V)),.s (.bool (jD (b9 l) key))])))):=by kernel_rfl
theorem aiB(l:Bool)(es:List En)(bs:List Br):run P dK.sum f119 aaN (start f119 [sS l es bs] [])=
 Tree.at (uR l es bs [] 0):=by kernel_rfl
theorem wT(l:Bool)(es:List En)(bs:List Br)(acc:List Int)(i:Int):run P dK.sum f119 aaN (uR l es bs acc i)=
 Tree.ite (decide (i<es.length)) (.ab ((0:Int)<=i) (.ab (i<es.length) (.ab (aw ((2:Int)+(↑(ByteArray.size (es.getD i.toNat (CL.d cE)).fst):Int))) (.ab (aw ((2:Int)+(↑(ByteArray.size (es.getD i.toNat (CL.d cE)).fst):Int)+(↑(ByteArray.size (es.getD i.toNat (CL.d cE)).snd.fst):Int))) (.ab ((acc.length+1)*(8:Nat)<=140737488355328) (.ab (aw (i+1)) (.at (uR l es bs (acc++[(2:Int)+(↑(ByteArray.size (es.getD i.toNat (CL.d cE)).fst):Int)+(↑(ByteArray.size (es.getD i.toNat (CL.d cE)).snd.fst):Int)]) (i+1))))))))) (.at (uS bs acc 0)):=by kernel_rfl
theorem wU(bs:List Br)(acc:List Int)(i:Int):run P dK.sum f119 aaN (uS bs acc i)=
 Tree.ite (decide (i<bs.length)) (.ab ((0:Int)<=i) (.ab (i<bs.length) (.ab (aw ((3:Int)+(↑(ByteArray.size (bs.getD i.toNat (CL.d cB)).fst):Int))) (.ab ((acc.length+1)*(8:Nat)<=140737488355328) (.ab (aw (i+1)) (.at (uS bs (acc++[(3:Int)+(↑(ByteArray.size (bs.getD i.toNat (CL.d cB)).fst):Int)]) (i+1)))))))) (.ret [.vec (.af .i64 acc) 3] (.vec 0)):=by kernel_rfl
theorem treeSize(l:Bool)(es:List En)(bs:List Br):run P aq6.sum f114 akW (start f114 [sS l es bs] [])=
 Tree.ab (aY es) (.ab (aV bs) (.at (agA (aQ es bs) 1 0))):=by kernel_rfl
theorem acL(l:List Int)(a i:Int):run P aq6.sum f114 akW (agA l a i)=
 Tree.ite (decide (i<l.length)) (.ab ((0:Int)<=i) (.ab (i<l.length) (.ab (aw (a+l.getD i.toNat 0)) (.ab (aw (i+1)) (.at (agA l (a+l.getD i.toNat 0) (i+1))))))) (.ret [.vec (.af .i64 l) 3] (.s (.int .i64 a))):=by kernel_rfl
theorem akX(l:Bool)(es:List En)(bs:List Br):run P awa.sum f87 [] (start f87 [sS l es bs] [])=
 Tree.ab (aY es) (.ab (aV bs) (.ret [.ak [.s (.bool l),.s (.ro (.ah cE es)),.s (.ro (.ah cB bs))] 99] (.s (.bool (decide (bw es bs<=254)))))):=by kernel_rfl
theorem acM{Z:aZ}:akU.Ok P Z:=aF.Ok.cons as8.sum (
 aF.Ok.cons as9.sum
 aF.Ok.nil)
def aI(l:List Br)(key:ByteArray):Int:=imax 0 (if jD (mg l) key=true then(cY (mg l) key:Int)else(cY (mg l) key:Int) - 1)
theorem wV(ks:List ByteArray)(key:ByteArray):cY ks key<=ks.length:=by
 unfold cY;exact(List.takeWhile_sublist _).length_le
theorem wW{Z:aZ}:cg P Z 46 [yd,cv] [bk] (λ(l,_,())=>[(l:List Br).length<=1000000,jj (mg l)]) (λ(l,key,())=>(aI l key,())):=by
 refine ay func46 (by kernel_rfl) (by kernel_rfl) ?_;rintro⟨(l:List Br),(key:ByteArray),⟨⟩⟩ _ ⟨(hl:l.length<=1000000),(hs:jj (mg l)),_⟩ X hX hz;have hb:=wV (mg l) key;rw[show(mg l).length=l.length from length_map _]at hb;refine go hz hX acM func46 (aiA l key) ⟨rfl,hl,hs,λh=>⟨⟨by omega,by omega⟩,uO ?_⟩,λh=>uO ?_⟩;have h:jD (mg l) key=false:=by simpa using h
 simp[aI,h];have h:jD (mg l) key=true:=by simpa using h
 simp[aI,h]
theorem sU{Z:aZ}:cg P Z 66 [rC,cv] [bk,bL] (λ(l,_,())=>[(l:List En).length<=1000000,jj (b9 l)]) (λ(l,key,())=>((cY (b9 l) key:Nat),jD (b9 l) key,())):=by
 refine ay func66 (by kernel_rfl) (by kernel_rfl) ?_;rintro⟨(l:List En),(key:ByteArray),⟨⟩⟩ _ ⟨(hl:l.length<=1000000),(hs:jj (b9 l)),_⟩ X hX hz;exact go hz hX acM func66 (afl l key) ⟨rfl,hl,hs,aM _ rfl (by kernel_rfl)⟩
theorem qm{es:List En}(h:aY es)(i:Nat):(es.getD i dE).1.size<=1000/\(es.getD i dE).2.1.size<=1000:=by
 by_cases hi:i<es.length;rw[bT hi];exact h.2 _ (getElem_mem hi);rw[show es.getD i dE=dE from by simp[List.getD,getElem?_eq_none (Nat.le_of_not_lt hi)]];exact⟨by decide,by decide⟩
theorem qn{bs:List Br}(h:aV bs)(i:Nat):(bs.getD i dB).1.size<=1000:=by
 by_cases hi:i<bs.length;rw[bT hi];exact h.2 _ (getElem_mem hi);rw[show bs.getD i dB=dB from by simp[List.getD,getElem?_eq_none (Nat.le_of_not_lt hi)]];decide
theorem pM{α:Type}{l:List α}{k:Nat}{d:α}(f:α->Int)(h:k<l.length):(l.take k).map f++[f (l.getD k d)]=(l.take (k+1)).map f:=by
 rw[<-iJ (d:=d) h,map_append];rfl
theorem rE{Z:aZ}:cg P Z 119 [er] [iw] (λ((_,es,bs,()),())=>[aY es,aV bs]) (λ((_,es,bs,()),())=>(aQ es bs,())):=by
 refine ay func119 (by kernel_rfl) (by kernel_rfl) ?_;rintro⟨⟨(l:Bool),(es:List En),(bs:List Br),⟨⟩⟩,⟨⟩⟩ _ ⟨(he:aY es),(hb:aV bs),_⟩ X hX hz;have he1:=he.1;have hb1:=hb.1
 have second:∀(n k:Nat),k+n=bs.length->Safe P 119 X (Ends [iw] (aQ es bs,())) (uS bs (es.map o8++(bs.take k).map sT) (k:Int)):=by
  intro n
  induction n with
  |zero=>
   intro k hk;refine go hz hX aF.Ok.nil func119 (wU bs _ k) ⟨λh=>absurd (of_decide_eq_true h) (by omega),λh=> ?_⟩;rw[take_of_length_le (by omega)];exact aM (aQ es bs,()) rfl (by kernel_rfl)
  |succ n ih=>
   intro k hk;have bZ:=qn hb k;refine go hz hX aF.Ok.nil func119 (wU bs _ k) ⟨λh=>⟨by omega,by omega, ?_, ?_,⟨by omega,by omega⟩, ?_⟩,λh=>absurd (of_decide_eq_false h) (by omega)⟩;simp only[toNat_natCast];show aw (3+((bs.getD k dB).1.size:Int));exact⟨by omega,by omega⟩;simp only[length_append,length_map,length_take];omega;simp only[toNat_natCast];have:=ih (k+1) (by omega);rw[<-pM (d:=dB) sT (by omega),<-append_assoc]at this;exact this
 have first:∀(n k:Nat),k+n=es.length->Safe P 119 X (Ends [iw] (aQ es bs,())) (uR l es bs ((es.take k).map o8) (k:Int)):=by
  intro n
  induction n with
  |zero=>
   intro k hk;refine go hz hX aF.Ok.nil func119 (wT l es bs _ k) ⟨λh=>absurd (of_decide_eq_true h) (by omega),λh=> ?_⟩;rw[take_of_length_le (by omega)];have:=second bs.length 0 (by omega);simp only[List.take_zero,map_nil,append_nil]at this;exact this
  |succ n ih=>
   intro k hk;have⟨hs1,hs2⟩:=qm he k;refine go hz hX aF.Ok.nil func119 (wT l es bs _ k) ⟨λh=>⟨by omega,by omega, ?_, ?_, ?_,⟨by omega,by omega⟩, ?_⟩,λh=>absurd (of_decide_eq_false h) (by omega)⟩;simp only[toNat_natCast];show aw (2+((es.getD k dE).1.size:Int));exact⟨by omega,by omega⟩;simp only[toNat_natCast];show aw (2+((es.getD k dE).1.size:Int)+((es.getD k dE).2.1.size:Int));exact⟨by omega,by omega⟩;simp only[length_map,length_take];omega;simp only[toNat_natCast];have:=ih (k+1) (by omega);rw[<-pM (d:=dE) o8 (by omega)]at this;exact this
 exact go hz hX aF.Ok.nil func119 (aiB l es bs) (first es.length 0 (by omega))
theorem y7{es:List En}{bs:List Br}(he:aY es)(hb:aV bs):∀x∈aQ es bs,0<=x/\x<=2002:=by
 intro x hx;rcases mem_append.1 hx with hx|hx;obtain⟨y,hy,rfl⟩:=mem_map.1 hx;have:=he.2 y hy;simp only[o8];omega;obtain⟨y,hy,rfl⟩:=mem_map.1 hx;have:=hb.2 y hy;simp only[sT];omega
theorem mi{l:List Int}{m:Int}(h:∀x∈l,0<=x/\x<=m)(hm:0<=m):0<=l.sum/\l.sum<=m*l.length:=by
 induction l with
 |nil=>simp|cons x l ih=>
  have h1:=h x (by simp);have⟨h2,h3⟩:=ih (λy hy=>h y (by simp[hy]));simp only[List.sum_cons,length_cons];refine⟨by omega, ?_⟩;rw[show((l.length+1:Nat):Int)=(l.length:Int)+1 from rfl,Int.mul_add];omega
theorem iV{l:List Int}{k:Nat}(h:k<l.length):(l.take k).sum+l.getD k 0=(l.take (k+1)).sum:=by
 rw[<-iJ (d:=(0:Int)) h,List.sum_append];simp
theorem wX(es:List En)(bs:List Br):bw es bs=1+(aQ es bs).sum:=by
 simp[bw,aQ,List.sum_append]
theorem agB{Z:aZ}:cg P Z 114 [er] [bk] (λ((_,es,bs,()),())=>[aY es,aV bs]) (λ((_,es,bs,()),())=>(bw es bs,())):=by
 refine ay func114 (by kernel_rfl) (by kernel_rfl) ?_;rintro⟨⟨(l:Bool),(es:List En),(bs:List Br),⟨⟩⟩,⟨⟩⟩ _ ⟨(he:aY es),(hb:aV bs),_⟩ X hX hz;have hr:=y7 he hb
 have bx:(aQ es bs).length<=2000:=by
  have:=he.1;have:=hb.1;simp only[aQ,length_append,length_map];omega
 show Safe P 114 X (Ends [bk] (bw es bs,())) _;rw[wX]
 have loop:∀(n k:Nat),k+n=(aQ es bs).length->Safe P 114 X (Ends [bk] (1+(aQ es bs).sum,())) (agA (aQ es bs) (1+((aQ es bs).take k).sum) (k:Int)):=by
  intro n
  induction n with
  |zero=>
   intro k hk;refine go hz hX (aF.Ok.cons rE.sum aF.Ok.nil) func114 (acL _ _ k) ⟨λh=>absurd (of_decide_eq_true h) (by omega),λh=> ?_⟩;rw[take_of_length_le (by omega)];exact wF
  |succ n ih=>
   intro k hk;have h1:=mi (l:=(aQ es bs).take k) (m:=2002) (λx hx=>hr x (List.mem_of_mem_take hx)) (by omega)
   have h2:0<=(aQ es bs).getD k 0/\(aQ es bs).getD k 0<=2002:=by
    rw[bT (by omega)];exact hr _ (getElem_mem _)
   have h3:((aQ es bs).take k).length<=2000:=by rw[length_take];omega
   refine go hz hX (aF.Ok.cons rE.sum aF.Ok.nil) func114 (acL _ _ k) ?_;simp only[toNat_natCast];refine⟨λh=>⟨by omega,by omega,⟨by omega,by omega⟩,⟨by omega,by omega⟩, ?_⟩,λh=>absurd (of_decide_eq_false h) (by omega)⟩;have:=ih (k+1) (by omega);rw[<-iV (by omega),<-Int.add_assoc]at this;exact this
 have:=loop (aQ es bs).length 0 (by omega);exact go hz hX (aF.Ok.cons rE.sum aF.Ok.nil) func114 (treeSize l es bs) ⟨he,hb,this⟩
theorem agC{Z:aZ}:cg P Z 87 [er] [bL] (λ((_,es,bs,()),())=>[aY es,aV bs]) (λ((_,es,bs,()),())=>(decide (bw es bs<=254),())):=by
 refine ay func87 (by kernel_rfl) (by kernel_rfl) ?_;rintro⟨⟨(l:Bool),(es:List En),(bs:List Br),⟨⟩⟩,⟨⟩⟩ _ ⟨(he:aY es),(hb:aV bs),_⟩ X hX hz;exact go hz hX (aF.Ok.cons agB.sum aF.Ok.nil) func87 (akX l es bs) ⟨he,hb,sP⟩
def aaO(s:ByteArray):List Int:=s.data.toList.map λb=>(b.toNat:Int)
def y8(s:ByteArray):List Int:=u8.wrap (s.size:Int)::aaO s
abbrev awb:Type:=ByteArray×List Int
def acN:Spec awb:=⟨λx=>[.s (.str x.1),.ptr 0 0],λx=>[.ak [.vec 1] 75,.vec (.af .u8 x.2) 5],λx=>[x.2.length<=100000000,x.1.size<=1000000],λx=>[.ak [.vec 2] 75,.aH,.vec (.af .u8 (x.2++y8 x.1)) 5],λ_=>.bd []⟩
def aq8:List AV->RM (awb×List Nat)
 |[.s (.str s),.ptr id 0]=>.look id λ
  |some (.ak [.vec j] _)=>.look j λ
   |some (.vec (.af .u8 zs) _)=>.ret ((s,zs),[id,j])|_=>.fail ""
  |_=>.fail ""
 |_=>.fail ""
abbrev ata:=bM [er] [bL] (λ_=>[]) (λ((l,es,bs,()),())=>(ch l es bs,()))
abbrev aq9:=bM [er] [bL] (λ((_,es,bs,()),())=>[aY es,aV bs]) (λ((_,es,bs,()),())=>(decide (bw es bs<=254),()))
def wY:aF:=[(108,ata),(87,aq9),(132,cu acN aq8)]
def agD:List (Nat×Norm):=[(8,⟨[],[1,4],0,[]⟩),(10,⟨[],[1,4,5,25,26,27],0,[]⟩),(16,⟨[],[4,5,41,42,43],0,[]⟩)]
def agE(l:Bool)(es:List En)(bs:List Br)(zs:List Int):bQ:=⟨sl 64 [(1,.ptr 0 0),(4,.ptr 1 0)],[rD l es bs 99,.ak [.vec 2] 75,.vec (.af .u8 zs) 5],hr f116 8,{}⟩
def agF(l:Bool)(es:List En)(bs:List Br)(zs:List Int)(i:Int):bQ:=⟨sl 64 [(1,.ptr 0 0),(4,.ptr 1 0),(5,.fn 132 [.ptr 1 0]),(25,.s (.ro (.ah cE es))),(26,.s (.int .i64 (es.length:Int))),(27,.s (.int .i64 i))],[rD l es bs 99,.ak [.vec 2] 75,.vec (.af .u8 zs) 5],hd f116 10,{}⟩
def agG(bs:List Br)(zs:List Int)(i:Int):bQ:=⟨sl 64 [(4,.ptr 0 0),(5,.fn 132 [.ptr 0 0]),(41,.s (.ro (.ah cB bs))),(42,.s (.int .i64 (bs.length:Int))),(43,.s (.int .i64 i))],[.ak [.vec 1] 75,.vec (.af .u8 zs) 5],hd f116 16,{}⟩
theorem akY(s:ByteArray)(zs:List Int):run P dK.sum f132 [] (start f132 [.s (.str s),.ptr 0 0] [.ak [.vec 1] 75,.vec (.af .u8 zs) 5])=
 Tree.ab ((zs.length+(1:Nat))*(1:Nat)≤(140737488355328:Nat)) (Tree.ab (((zs++[u8.wrap (↑s.size:Int)]).length+(List.map (fun(b:UInt8)=>(↑b.toNat:Int)) s.data.toList).length)*(1:Nat)≤(140737488355328:Nat)) (Tree.ret [au.ak [AV.vec (4:Nat)] (75:Nat),au.aH,au.vec (ba.af u8 [u8.wrap (↑s.size:Int)]) (5:Nat),au.aH,au.vec (ba.af u8 (zs++[u8.wrap (↑s.size:Int)]++List.map (fun(b:UInt8)=>(↑b.toNat:Int)) s.data.toList)) (5:Nat)] (AV.bd []))):=by kernel_rfl
theorem aoB(l:Bool)(es:List En)(bs:List Br):run P wY.sum f116 agD (start f116 [sS l es bs] [])=
 Tree.ite (!ch l es bs) (.ret [.ak [.s (.bool l),.s (.ro (.ah cE es)),.s (.ro (.ah cB bs))] 99] (.bd [.s (.str empty),.s (.aO .i64 4)])) (.ab (aY es) (.ab (aV bs) (.ite (!decide (bw es bs<=254)) (.ret [.ak [.s (.bool l),.s (.ro (.ah cE es)),.s (.ro (.ah cB bs))] 99] (.bd [.s (.str empty),.s (.aO .i64 40)])) (.ite l (.ab ((0:Int)<=0) (.ab ((0:Int)<(↑(1:Nat):Int)) (.at (agE l es bs ([(2:Int)].set 0 1))))) (.at (agE l es bs [(2:Int)])))))):=by kernel_rfl
theorem aoC(l:Bool)(es:List En)(bs:List Br)(zs:List Int):run P wY.sum f116 agD (agE l es bs zs)=
 Tree.at (agF l es bs zs 0):=by kernel_rfl
theorem acO(l:Bool)(es:List En)(bs:List Br)(zs:List Int)(i:Int):run P wY.sum f116 agD (agF l es bs zs i)=
 Tree.ite (decide (i<es.length)) (.ab ((0:Int)<=i) (.ab (i<es.length) (.ab (bD (some [AV.s (.str (es.getD i.toNat (CL.d cE)).fst),.ptr 0 0])) (.ab (bD (some [au.ak [.vec 1] 75,.vec (.af .u8 zs) 5])) (.ab (zs.length<=100000000) (.ab (ByteArray.size (es.getD i.toNat (CL.d cE)).fst<=1000000) (.ab (bD (some [AV.s (.str (es.getD i.toNat (CL.d cE)).snd.fst),.ptr 0 0])) (.ab (bD (some [au.ak [.vec 1] 75,.vec (.af .u8 (zs++y8 (es.getD i.toNat (CL.d cE)).fst)) 5])) (.ab ((zs++y8 (es.getD i.toNat (CL.d cE)).fst).length<=100000000) (.ab (ByteArray.size (es.getD i.toNat (CL.d cE)).snd.fst<=1000000) (.ab (aw (i+1)) (.at (agF l es bs (zs++y8 (es.getD i.toNat (CL.d cE)).fst++y8 (es.getD i.toNat (CL.d cE)).snd.fst) (i+1)))))))))))))) (.at (agG bs zs 0)):=by kernel_rfl
theorem acP(bs:List Br)(zs:List Int)(i:Int):run P wY.sum f116 agD (agG bs zs i)=
 Tree.ite (decide (i<(↑bs.length:Int))) (Tree.ab ((0:Int)≤i) (Tree.ab (i<(↑bs.length:Int)) (Tree.ab (bD (some [AV.s (SV.str (bs.getD i.toNat (CL.d [CK.str,CK.int i64])).fst),AV.ptr (0:Nat) (0:Nat)])) (Tree.ab (bD (some [au.ak [AV.vec (1:Nat)] (75:Nat),au.vec (ba.af u8 zs) (5:Nat)])) (Tree.ab (zs.length≤(100000000:Nat)) (Tree.ab (ByteArray.size (bs.getD i.toNat (CL.d [CK.str,CK.int i64])).fst≤(1000000:Nat)) (Tree.ab ((0:Int)≤(8:Int)) (Tree.ab (((zs++y8 (bs.getD i.toNat (CL.d [CK.str,CK.int i64])).fst).length+(2:Nat))*(1:Nat)≤(140737488355328:Nat)) (Tree.ab (aw (i+(1:Int))) (Tree.at (agG bs (zs++y8 (bs.getD i.toNat (CL.d [CK.str,CK.int i64])).fst++[u8.wrap (Int.fdiv (bs.getD i.toNat (CL.d [CK.str,CK.int i64])).snd.fst ((2:Int)^min (Int.toNat (8:Int)) i64.bits)),u8.wrap (bs.getD i.toNat (CL.d [CK.str,CK.int i64])).snd.fst]) (i+(1:Int))))))))))))) (Tree.ret [au.ak [AV.vec (1:Nat)] (75:Nat),au.vec (ba.af u8 zs) (5:Nat)] (AV.bd [AV.s (SV.str (aB zs)),AV.s (SV.aO i64 (0:Int))])):=by kernel_rfl
theorem cA{Z:aZ}{X:Ctx}{t:aF}{f:FuncId}{fn:Func}{ns:List (Nat×Norm)}{c:bQ}{tr:Tree}{K:List au->AV->Prop}{L:List au}(hz:cP Z X)(hX:X.H=lk L)(hm:∀x∈ns,L.length<=x.2.m)(hT:t.Ok P Z)(hf:P.funcs[f]? =some fn)
 (e:run P t.sum fn ns c=tr) (h:tr.bt K (Safe P f X K)):Safe P f X K c:=cR (aF.sOk hT) hz mixed hf (λx hx id dI=>by rw[hX];exact getElem?_eq_none (Nat.le_trans (hm x hx) dI)) e h
theorem aoD{Z:aZ}:fD P Z 132 acN:=by
 refine fS func132 ?_;rintro⟨s,zs⟩ ⟨(h1:zs.length<=100000000),(h2:s.size<=1000000),_⟩ X hX hz;have hs:s.data.toList.length=s.size:=length_toList;refine cA hz hX (by simp) aF.Ok.nil func132 (akY s zs) ⟨by omega,by simp only[length_append,length_map,List.length_singleton];omega,⟨[],[0],2,[]⟩,le_refl _, ?_⟩;have e:zs++y8 s=zs++[u8.wrap (s.size:Int)]++aaO s:=by simp[y8]
 show Norm.run _ _=some ⟨[AV.bd []],[.ak [.vec 2] 75,.aH,.vec (.af .u8 (zs++y8 s)) 5],[],{}⟩;rw[e];kernel_rfl
def oA(x:En):List Int:=y8 x.1++y8 x.2.1
def uz(x:Br):List Int:=y8 x.1++[u8.wrap (Int.fdiv x.2.1 (2^min (Int.toNat 8) i64.bits)),u8.wrap x.2.1]
def ye(l:Bool):List Int:=[if l=true then 1 else 2]
def afm(l:Bool)(es:List En)(bs:List Br):List Int:=ye l++es.flatMap oA++bs.flatMap uz
def wZ(l:Bool)(es:List En)(bs:List Br):Bool:=ch l es bs&&decide (bw es bs<=254)
def bO(l:Bool)(es:List En)(bs:List Br):ByteArray:=if wZ l es bs=true then aB (afm l es bs)else empty
def dq(l:Bool)(es:List En)(bs:List Br):Int:=if ch l es bs=true then(if bw es bs<=254 then 0 else 40)else 4
theorem mY(s:ByteArray):(y8 s).length=s.size+1:=by
 have hs:s.data.toList.length=s.size:=length_toList;simp[y8,aaO,hs]
theorem sV{α β:Type}{l:List α}{k:Nat}{d:α}(f:α->List β)(h:k<l.length):(l.take k).flatMap f++f (l.getD k d)=(l.take (k+1)).flatMap f:=by
 rw[<-iJ (d:=d) h,List.flatMap_append];simp
theorem rF{α β:Type}(f:α->List β)(m:Nat):∀{l:List α},(∀x∈l,(f x).length<=m)->(l.flatMap f).length<=m*l.length
 |[],_=>by simp
 |x::l,h=>by
  have h1:=h x (by simp);have h2:=rF f m (l:=l) (λy hy=>h y (by simp[hy]));simp only[List.flatMap_cons,length_append,length_cons,Nat.mul_add];omega
theorem acQ{x:En}(h:x.1.size<=1000/\x.2.1.size<=1000):(oA x).length<=2002:=by
 simp only[oA,length_append,mY];omega
theorem akZ{x:Br}(h:x.1.size<=1000):(uz x).length<=1003:=by
 simp only[uz,length_append,mY,length_cons,length_nil];omega
theorem jX{Z:aZ}:wY.Ok P Z:=aF.Ok.cons afh.sum (aF.Ok.cons agC.sum (aF.Ok.cons (aoD.sum aq8) aF.Ok.nil))
theorem aiC{Z:aZ}:cg P Z 116 [er] [cv,bk] (λ((_,es,bs,()),())=>[aY es,aV bs]) (λ((l,es,bs,()),())=>(bO l es bs,dq l es bs,())):=by
 refine ay func116 (by kernel_rfl) (by kernel_rfl) ?_;rintro⟨⟨(l:Bool),(es:List En),(bs:List Br),⟨⟩⟩,⟨⟩⟩ _ ⟨(he:aY es),(hb:aV bs),_⟩ X hX hz;have he1:=he.1;have hb1:=hb.1;show Safe P 116 X (Ends [cv,bk] (bO l es bs,dq l es bs,())) _
 have second:bO l es bs=aB (afm l es bs)->dq l es bs=0->∀(n k:Nat),k+n=bs.length->Safe P 116 X (Ends [cv,bk] (bO l es bs,dq l es bs,())) (agG bs (ye l++es.flatMap oA++(bs.take k).flatMap uz) (k:Int)):=by
  intro hS hN n
  induction n with
  |zero=>
   intro k hk;refine go hz hX jX func116 (acP bs _ k) ⟨λh=>absurd (of_decide_eq_true h) (by omega),λh=> ?_⟩;rw[take_of_length_le (by omega),hS,hN];exact oZ
  |succ n ih=>
   intro k hk;have bZ:=qn hb k;have hl1:(es.flatMap oA).length<=2002*es.length:=rF oA 2002 (λx hx=>acQ (he.2 x hx));have yE:((bs.take k).flatMap uz).length<=1003*(bs.take k).length:=rF uz 1003 (λx hx=>akZ (hb.2 x (List.mem_of_mem_take hx)));have hl3:(bs.take k).length<=1000:=by rw[length_take];omega
   have hl:(ye l++es.flatMap oA++(bs.take k).flatMap uz).length<=4000000:=by
    simp only[length_append,ye,List.length_singleton];omega
   refine go hz hX jX func116 (acP bs _ k) ?_;simp only[toNat_natCast];refine⟨λh=>⟨by omega,by omega,trivial,trivial,by omega, ?_,by decide, ?_,⟨by omega,by omega⟩, ?_⟩,λh=>absurd (of_decide_eq_false h) (by omega)⟩;show(bs.getD k dB).1.size<=1000000;omega;rw[length_append,mY];show(_+((bs.getD k dB).1.size+1)+2)*1<=_;omega;have:=ih (k+1) (by omega);rw[<-sV (d:=dB) uz (by omega),<-append_assoc]at this;rw[append_assoc (ye l++es.flatMap oA++(bs.take k).flatMap uz)];exact this
 have first:bO l es bs=aB (afm l es bs)->dq l es bs=0->∀(n k:Nat),k+n=es.length->Safe P 116 X (Ends [cv,bk] (bO l es bs,dq l es bs,())) (agF l es bs (ye l++(es.take k).flatMap oA) (k:Int)):=by
  intro hS hN n
  induction n with
  |zero=>
   intro k hk;refine go hz hX jX func116 (acO l es bs _ k) ⟨λh=>absurd (of_decide_eq_true h) (by omega),λh=> ?_⟩;rw[take_of_length_le (by omega)];have:=second hS hN bs.length 0 (by omega);simp only[List.take_zero,List.flatMap_nil,append_nil]at this;exact this
  |succ n ih=>
   intro k hk;have⟨hs1,hs2⟩:=qm he k;have yE:((es.take k).flatMap oA).length<=2002*(es.take k).length:=rF oA 2002 (λx hx=>acQ (he.2 x (List.mem_of_mem_take hx)));have hl3:(es.take k).length<=1000:=by rw[length_take];omega
   have hl:(ye l++(es.take k).flatMap oA).length<=4000000:=by
    simp only[length_append,ye,List.length_singleton];omega
   refine go hz hX jX func116 (acO l es bs _ k) ?_;simp only[toNat_natCast];refine⟨λh=>⟨by omega,by omega,trivial,trivial,by omega, ?_,trivial,trivial, ?_, ?_,⟨by omega,by omega⟩, ?_⟩,λh=>absurd (of_decide_eq_false h) (by omega)⟩;show(es.getD k dE).1.size<=1000000;omega;rw[length_append,mY];show _+((es.getD k dE).1.size+1)<=_;omega;show(es.getD k dE).2.1.size<=1000000;omega;have:=ih (k+1) (by omega);rw[<-sV (d:=dE) oA (by omega),<-append_assoc]at this;rw[append_assoc (ye l++(es.take k).flatMap oA)];exact this
 refine go hz hX jX func116 (aoB l es bs) ⟨λh=> ?_,λh=>⟨he,hb,λh2=> ?_,λh2=> ?_⟩⟩;have h:ch l es bs=false:=by simpa using h
 have e1:bO l es bs=empty:=by simp[bO,wZ,h]
 have e2:dq l es bs=4:=by simp[dq,h]
 rw[e1,e2];exact oZ;have h:ch l es bs=true:=by simpa using h
 have h2:¬bw es bs<=254:=by simpa using h2
 have e1:bO l es bs=empty:=by simp[bO,wZ,h,h2]
 have e2:dq l es bs=40:=by simp[dq,h,h2]
 rw[e1,e2];exact oZ;have h:ch l es bs=true:=by simpa using h
 have h2:bw es bs<=254:=by simpa using h2
 have e1:bO l es bs=aB (afm l es bs):=by simp[bO,wZ,h,h2]
 have e2:dq l es bs=0:=by simp[dq,h,h2]
 have st:Safe P 116 X (Ends [cv,bk] (bO l es bs,dq l es bs,())) (agE l es bs (ye l)):=by
  refine go hz hX jX func116 (aoC l es bs _) ?_;have:=first e1 e2 es.length 0 (by omega)
  simp only[List.take_zero,List.flatMap_nil,append_nil]at this;exact this
 refine⟨λh3=>⟨by decide,by decide, ?_⟩,λh3=> ?_⟩;subst h3;exact st;subst h3;exact st
theorem ak0{bs:List Br}(h:pr bs=true){i:Nat}(hi:i+1<bs.length):slt (bs.getD i dB).1 (bs.getD (i+1) dB).1=true:=by
 have:=eh.1 h (i+1) hi;simp only[okB,not_eq_true',Bool.or_eq_false_iff,and_eq_false_iff,decide_eq_false_iff_not,Bool.not_eq_false']at this;have h2:=this.2;rcases h2 with h2|h2;omega;simpa using h2
theorem ak1{es:List En}(h:mf es=true){i:Nat}(hi:i+1<es.length):slt (es.getD i dE).1 (es.getD (i+1) dE).1=true:=by
 have:=eh.1 h (i+1) hi;simp only[okE,not_eq_true',Bool.or_eq_false_iff,and_eq_false_iff,decide_eq_false_iff_not,Bool.not_eq_false']at this;have h2:=this.2;rcases h2 with h2|h2;omega;simpa using h2
theorem tX{ks:List ByteArray}(h:∀i,i+1<ks.length->slt (ks.getD i empty) (ks.getD (i+1) empty)=true):jj ks:=by
 intro i j nZ hj
 induction j with
 |zero=>omega|succ j ih=>
  by_cases he:i=j;subst he;exact h i hj;exact iI (ih (by omega) (by omega)) (h j hj)
theorem ayD{bs:List Br}(h:pr bs=true):jj (mg bs):=tX λi hi=>by
 rw[length_map]at hi;rw[fR bs akS dB,fR bs akS dB];exact ak0 h hi
theorem ayE{es:List En}(h:mf es=true):jj (b9 es):=tX λi hi=>by
 rw[length_map]at hi;rw[fR es acK dE,fR es acK dE];exact ak1 h hi
theorem dD{l:Bool}{es:List En}{bs:List Br}(h:ch l es bs=true):(l=true->bs=[])/\(l=false->es=[])/\mf es=true/\pr bs=true:=by
 simp only[ch,and_eq_true,not_eq_true',Bool.or_eq_false_iff,and_eq_false_iff,decide_eq_false_iff_not]at h;have⟨⟨⟨h1,h2⟩,h3⟩,h4⟩:=h;refine⟨λhl=> ?_,λhl=> ?_,h3,h4⟩;subst hl;rcases h1 with h1|h1;cases h1;exact List.eq_nil_of_length_eq_zero (by omega);subst hl;rcases h2 with h2|h2;cases h2;exact List.eq_nil_of_length_eq_zero (by omega)
theorem afn:∀{ks:List ByteArray} {key:ByteArray} {t:Nat},t<cY ks key->slt (ks.getD t empty) key=true
 |[],key,t,h=>by simp[cY]at h
 |k::ks,key,t,h=>by
  simp only[cY,List.takeWhile]at h;split at h;rename_i hk;cases t with
  |zero=>simpa using hk|succ t=>
   simp only[length_cons]at h;simpa using afn (ks:=ks) (key:=key) (t:=t) (by simp only[cY];omega)
  simp at h
theorem afo:∀{ks:List ByteArray} {key:ByteArray},cY ks key<ks.length->slt (ks.getD (cY ks key) empty) key=false
 |[],key,h=>by simp at h
 |k::ks,key,h=>by
  by_cases hk:slt k key=true;have e:cY (k::ks) key=cY ks key+1:=by simp[cY,List.takeWhile,hk]
  rw[e]at h ⊢;simpa using afo (ks:=ks) (key:=key) (by simpa using h);have hk:slt k key=false:=by simpa using hk
  have e:cY (k::ks) key=0:=by simp[cY,List.takeWhile,hk]
  rw[e];simpa using hk
theorem ak2{ks:List ByteArray}{key:ByteArray}(hs:jj ks){t:Nat}(h1:cY ks key<=t)(h2:t<ks.length):slt (ks.getD t empty) key=false:=by
 have h:=afo (ks:=ks) (key:=key) (by omega);by_cases he:t=cY ks key;rw[he];exact h;have h3:=hs (cY ks key) t (by omega) h2;cases h4:slt (ks.getD t empty) key;rfl;rw[iI h3 h4]at h;cases h
theorem jO{ks:List ByteArray}{key:ByteArray}:jD ks key=true↔cY ks key<ks.length/\ks.getD (cY ks key) empty=key:=by
 simp only[jD,decide_eq_true_eq];constructor;intro h;have h1:=(List.getElem?_eq_some_iff.1 h).1;exact⟨h1,by simp[List.getD,h]⟩;rintro⟨h1,h2⟩;rw[bT h1]at h2;rw[getElem?_eq_getElem h1,h2]
theorem w4{ks:List ByteArray}{key:ByteArray}(hs:jj ks)(h0:ks≠[]):∃p:Nat,imax 0 (if jD ks key=true then(cY ks key:Int)else(cY ks key:Int) - 1)=(p:Int)/\p<ks.length/\
 (p=0\/slt key (ks.getD p empty)=false)/\(∀t,p<t->t<ks.length->slt key (ks.getD t empty)=true):=by
 have bx:0<ks.length:=by
  cases ks with
  |nil=>exact absurd rfl h0|cons k ks=>simp
 have hle:=wV ks key;have up:∀t,cY ks key<=t->t<ks.length->ks.getD t empty≠key->slt key (ks.getD t empty)=true:=λt h1 h2 h3=>wI (ak2 hs h1 h2) h3;by_cases hk:jD ks key=true;have⟨h1,h2⟩:=jO.1 hk;rw[if_pos hk];refine⟨cY ks key,by unfold imax;split<;>omega,h1,.inr (by rw[h2];exact iH key),λt ht htl=> ?_⟩;rw[<-h2];have:=hs (cY ks key) t ht htl;rw[h2]at this ⊢;exact this;rw[if_neg hk]
 have cG:∀t,cY ks key<=t->t<ks.length->ks.getD t empty≠key:=by
  intro t h1 h2 h3;by_cases he:t=cY ks key;subst he;exact hk (jO.2 ⟨h2,h3⟩);have h4:=hs (cY ks key) t (by omega) h2;rw[h3]at h4;rw[afo (by omega)]at h4;cases h4
 rcases Nat.eq_zero_or_pos (cY ks key)with hz|hz;refine⟨0,by rw[hz];rfl,bx,.inl rfl,λt ht htl=>up t (by omega) htl (cG t (by omega) htl)⟩;refine⟨cY ks key - 1,by unfold imax;split<;>omega,by omega,.inr (y4 (afn (by omega))),λt ht htl=>up t (by omega) htl (cG t (by omega) htl)⟩
def awc(a b:List En):Bool:=decide (a=b)
def awd(a b:List Br):Bool:=decide (a=b)
def kF(k:Int)(s:ByteArray):ByteArray:=if k>(s.size:Int)then empty else s.extract 0 k.toNat
def rG(k:Int)(s:ByteArray):Bool:= !decide (k>(s.size:Int))
def pt(k:Int)(s:ByteArray):ByteArray:=if k>(s.size:Int)then s else s.extract k.toNat s.size
def w5:Spec (Int×ByteArray):=⟨λx=>[.s (.int .i64 x.1),.ptr 0 0],λx=>[.ak [.s (.str x.2)] 9],λx=>[0<=x.1],λx=>[.ak [.s (.str (pt x.1 x.2))] 9],λx=>.bd [.s (.str (kF x.1 x.2)),.s (.bool (rG x.1 x.2))]⟩
def agH:List AV->RM ((Int×ByteArray)×List Nat)
 |[.s (.int .i64 k),.ptr id 0]=>.look id λ
  |some (.ak [.s (.str s)] _)=>.ret ((k,s),[id])|_=>.fail ""
 |[.s (.aO .i64 k),.ptr id 0]=>.look id λ
  |some (.ak [.s (.str s)] _)=>.ret ((k,s),[id])|_=>.fail ""
 |_=>.fail ""
def rdK(s:ByteArray):Int:=ax (kF 1 s) 0
def xN(s:ByteArray):ByteArray:=if rG 1 s=true then kF (rdK s) (pt 1 s)else empty
def tY(s:ByteArray):Bool:=rG 1 s&&rG (rdK s) (pt 1 s)
def im(s:ByteArray):ByteArray:=if rG 1 s=true then pt (rdK s) (pt 1 s)else pt 1 s
def acR:Spec ByteArray:=⟨λ_=>[.ptr 0 0],λs=>[.ak [.fn 106 [.ptr 1 0]] 178,.ak [.s (.str s)] 9],λ_=>[],λs=>[.ak [.fn 106 [.ptr 1 0]] 178,.ak [.s (.str (im s))] 9],λs=>.bd [.s (.str (xN s)),.s (.bool (tY s))]⟩
def ara:List AV->RM (ByteArray×List Nat)
 |[.ptr id 0]=>.look id λ
  |some (.ak [.fn _ [.ptr j 0]] _)=>.look j λ
   |some (.ak [.s (.str s)] _)=>.ret (s,[id,j])|_=>.fail ""
  |_=>.fail ""
 |_=>.fail ""
def agI:aF:=[(106,cu w5 agH)]
def w6:aF:=[(106,cu w5 agH),(107,cu acR ara),(108,ata)]
def agJ:List (Nat×Norm):=[(7,⟨[],[1,2],0,[]⟩),(11,⟨[],[1,2,4,5,6],0,[(2,1,false,.ah cE [],eE),(2,2,false,.ah cB [],eB)]⟩),(22,⟨[],[1,2,4,5,6,8],0,[]⟩)]
def obZ:au:=.ak [.s (.bool false),.emp,.emp] 99
def agK(s:ByteArray):bQ:=⟨sl 93 [(1,.ptr 0 0),(2,.ptr 1 0)],[.ak [.s (.str s)] 9,obZ],hr f76 7,{}⟩
def aoE(s:ByteArray)(l:Bool)(es:List En)(bs:List Br):bQ:=⟨sl 93 [(1,.ptr 0 0),(2,.ptr 1 0),(4,.ptr 2 0),(5,.ptr 3 0),(6,.fn 107 [.ptr 3 0])],[.ak [.s (.str s)] 9,obZ,.ak [.s (.bool l),.vec 4,.vec 5] 99,.ak [.fn 106 [.ptr 0 0]] 178,.vec (.ah cE es) eE,.vec (.ah cB bs) eB],hd f76 11,{}⟩
def pN(s:ByteArray)(l:Bool)(es:List En)(bs:List Br)(is:Bool):bQ:=⟨sl 93 [(1,.ptr 0 0),(2,.ptr 1 0),(4,.ptr 2 0),(5,.ptr 3 0),(6,.fn 107 [.ptr 3 0]),(8,.s (.bool is))],[.ak [.s (.str s)] 9,obZ,.ak [.s (.bool l),.vec 4,.vec 5] 99,.ak [.fn 106 [.ptr 0 0]] 178,.vec (.ah cE es) eE,.vec (.ah cB bs) eB],hr f76 22,{}⟩
theorem ak3(k:Int)(s:ByteArray):run P dK.sum f106 [] (start f106 [.s (.int .i64 k),.ptr 0 0] [.ak [.s (.str s)] 9])=
 Tree.ite (decide (k>(↑s.size:Int))) (.ret [.ak [.s (.str s)] 9] (.bd [.s (.str empty),.s (.aN false)])) (.ab ((0:Int)<=0) (.ab ((0:Int)<=k) (.ab (k<=(↑s.size:Int)) (.ab ((0:Int)<=k) (.ab (k<=(↑s.size:Int)) (.ab ((↑s.size:Int)<=(↑s.size:Int)) (.ret [.ak [.s (.str (s.extract k.toNat (↑s.size:Int).toNat))] 9] (.bd [.s (.str (s.extract (Int.toNat 0) k.toNat)),.s (.aN true)])))))))):=by kernel_rfl
theorem ak4(s:ByteArray):run P agI.sum f107 [] (start f107 [.ptr 0 0] [.ak [.fn 106 [.ptr 1 0]] 178,.ak [.s (.str s)] 9])=
 Tree.ab (bD (some [AV.s (.int .i64 1),.ptr 0 0])) (.ab (bD (some [au.ak [.s (.str s)] 9])) (.ab ((0:Int)<=1) (.ite (!rG 1 s) (.ret [.ak [.fn 106 [.ptr 1 0]] 178,.ak [.s (.str (pt 1 s))] 9] (.bd [.s (.str empty),.s (.aN false)])) (.ab ((0:Int)<=0) (.ab ((0:Int)<(↑(kF 1 s).size:Int)) (.ab (aw (ax (kF 1 s) (Int.toNat 0))) (.ab (bD (some [AV.s (.int .i64 (ax (kF 1 s) (Int.toNat 0))),.ptr 0 0])) (.ab (bD (some [au.ak [.s (.str (pt 1 s))] 9])) (.ab ((0:Int)<=ax (kF 1 s) (Int.toNat 0)) (.ret [.ak [.fn 106 [.ptr 1 0]] 178,.ak [.s (.str (pt (ax (kF 1 s) (Int.toNat 0)) (pt 1 s)))] 9] (.bd [.s (.str (kF (ax (kF 1 s) (Int.toNat 0)) (pt 1 s))),.s (.bool (rG (ax (kF 1 s) (Int.toNat 0)) (pt 1 s)))]))))))))))):=by kernel_rfl
theorem aoF(s:ByteArray):run P w6.sum f76 agJ (start f76 [.s (.str s)] [])=
 Tree.ite (decide ((↑s.size:Int)>254)) (.ret [.ak [.s (.str s)] 9,.ak [.s (.aN false),.emp,.emp] 99] (.bd [.agg [.s (.aN false),.emp,.emp],.s (.aO .i64 40)])) (.ite (decide (s=empty)) (.ret [.ak [.s (.str s)] 9,.ak [.s (.aN false),.emp,.emp] 99] (.bd [.agg [.s (.aN false),.emp,.emp],.s (.aO .i64 8)])) (.ab ((0:Int)<=0) (.ab ((0:Int)<(↑s.size:Int)) (.ite (ax s (Int.toNat 0) !=1) (.ab ((0:Int)<=0) (.ab ((0:Int)<(↑s.size:Int)) (.ite (ax s (Int.toNat 0) !=2) (.ret [.ak [.s (.str s)] 9,.ak [.s (.aN false),.emp,.emp] 99] (.bd [.agg [.s (.aN false),.emp,.emp],.s (.aO .i64 4)])) (.at (agK s))))) (.at (agK s)))))):=by kernel_rfl
theorem ak5(s:ByteArray):run P w6.sum f76 agJ (agK s)=
 Tree.ab ((0:Int)<=0) (.ab ((0:Int)<(↑s.size:Int)) (.ab ((0:Int)<=1) (.ab ((1:Int)<=(↑s.size:Int)) (.ab ((↑s.size:Int)<=(↑s.size:Int)) (.at (aoE (s.extract (Int.toNat 1) (↑s.size:Int).toNat) (ax s (Int.toNat 0)==1) [] [])))))):=by kernel_rfl
theorem agL(s:ByteArray)(l:Bool)(es:List En)(bs:List Br):run P w6.sum f76 agJ (aoE s l es bs)=
 Tree.ite (!decide (s=empty)) (Tree.ab (bD (some [AV.ptr (0:Nat) (0:Nat)])) (Tree.ab (bD (some [au.ak [AV.fn (106:Nat) [AV.ptr (1:Nat) (0:Nat)]] (178:Nat),au.ak [AV.s (SV.str s)] (9:Nat)])) (Tree.ite l (Tree.ite (tY s) (Tree.ab (bD (some [AV.ptr (0:Nat) (0:Nat)])) (Tree.ab (bD (some [au.ak [AV.fn (106:Nat) [AV.ptr (1:Nat) (0:Nat)]] (178:Nat),au.ak [AV.s (SV.str (im s))] (9:Nat)])) (Tree.ab ((es.length+(1:Nat))*(32:Nat)≤(140737488355328:Nat)) (Tree.at (pN (im (im s)) l (es++[(xN s,xN (im s),())]) bs (tY (im s))))))) (Tree.ite (tY s) (Tree.ab (bD (some [AV.s (SV.int i64 (2:Int)),AV.ptr (0:Nat) (0:Nat)])) (Tree.ab (bD (some [au.ak [AV.s (SV.str (im s))] (9:Nat)])) (Tree.ab ((0:Int)≤(2:Int)) (Tree.ite (rG (2:Int) (im s)) (Tree.ab ((0:Int)≤(0:Int)) (Tree.ab ((0:Int)<(↑(kF (2:Int) (im s)).size:Int)) (Tree.ab (aw (ax (kF (2:Int) (im s)) (Int.toNat (0:Int)))) (Tree.ab ((0:Int)≤(8:Int)) (Tree.ab ((0:Int)≤(1:Int)) (Tree.ab ((1:Int)<(↑(kF (2:Int) (im s)).size:Int)) (Tree.ab (aw (ax (kF (2:Int) (im s)) (Int.toNat (1:Int)))) (Tree.ab ((bs.length+(1:Nat))*(24:Nat)≤(140737488355328:Nat)) (Tree.at (pN (pt (2:Int) (im s)) l es (bs++[(xN s,bX BinOp.or i64 (i64.wrap (ax (kF (2:Int) (im s)) (Int.toNat (0:Int))*(2:Int)^min (Int.toNat (8:Int)) i64.bits)) (ax (kF (2:Int) (im s)) (Int.toNat (1:Int))),())]) (rG (2:Int) (im s)))))))))))) (Tree.at (pN (pt (2:Int) (im s)) l es bs (rG (2:Int) (im s)))))))) (Tree.at (pN (im s) l es bs (tY s))))) (Tree.ite (tY s) (Tree.ab (bD (some [AV.s (SV.int i64 (2:Int)),AV.ptr (0:Nat) (0:Nat)])) (Tree.ab (bD (some [au.ak [AV.s (SV.str (im s))] (9:Nat)])) (Tree.ab ((0:Int)≤(2:Int)) (Tree.ite (rG (2:Int) (im s)) (Tree.ab ((0:Int)≤(0:Int)) (Tree.ab ((0:Int)<(↑(kF (2:Int) (im s)).size:Int)) (Tree.ab (aw (ax (kF (2:Int) (im s)) (Int.toNat (0:Int)))) (Tree.ab ((0:Int)≤(8:Int)) (Tree.ab ((0:Int)≤(1:Int)) (Tree.ab ((1:Int)<(↑(kF (2:Int) (im s)).size:Int)) (Tree.ab (aw (ax (kF (2:Int) (im s)) (Int.toNat (1:Int)))) (Tree.ab ((bs.length+(1:Nat))*(24:Nat)≤(140737488355328:Nat)) (Tree.at (pN (pt (2:Int) (im s)) l es (bs++[(xN s,bX BinOp.or i64 (i64.wrap (ax (kF (2:Int) (im s)) (Int.toNat (0:Int))*(2:Int)^min (Int.toNat (8:Int)) i64.bits)) (ax (kF (2:Int) (im s)) (Int.toNat (1:Int))),())]) (rG (2:Int) (im s)))))))))))) (Tree.at (pN (pt (2:Int) (im s)) l es bs (rG (2:Int) (im s)))))))) (Tree.at (pN (im s) l es bs (tY s))))))) (Tree.ite (!ch l es bs) (Tree.ret [au.ak [AV.s (SV.str s)] (9:Nat),au.ak [AV.s (SV.aN false),AV.emp,AV.emp] (99:Nat),au.ak [AV.s (SV.bool l),AV.vec (4:Nat),AV.vec (5:Nat)] (99:Nat),au.ak [AV.fn (106:Nat) [AV.ptr (0:Nat) (0:Nat)]] (178:Nat),au.vec (ba.ah [CK.str,CK.str] es) (66:Nat),au.vec (ba.ah [CK.str,CK.int i64] bs) (105:Nat)] (AV.bd [AV.agg [AV.s (SV.aN false),AV.emp,AV.emp],AV.s (SV.aO i64 (4:Int))])) (Tree.ret [au.ak [AV.s (SV.str s)] (9:Nat),au.ak [AV.s (SV.bool l),AV.vec (4:Nat),AV.vec (5:Nat)] (99:Nat),au.ak [AV.s (SV.bool l),AV.vec (4:Nat),AV.vec (5:Nat)] (99:Nat),au.ak [AV.fn (106:Nat) [AV.ptr (0:Nat) (0:Nat)]] (178:Nat),au.vec (ba.ah [CK.str,CK.str] es) (66:Nat),au.vec (ba.ah [CK.str,CK.int i64] bs) (105:Nat)] (AV.bd [AV.agg [AV.s (SV.bool l),AV.vec (4:Nat),AV.vec (5:Nat)],AV.s (SV.aO i64 (0:Int))]))):=by kernel_rfl
theorem acS(s:ByteArray)(l:Bool)(es:List En)(bs:List Br)(is:Bool):run P w6.sum f76 agJ (pN s l es bs is)=
 Tree.ite (!is) (.ret [.ak [.s (.str s)] 9,.ak [.s (.aN false),.emp,.emp] 99,.ak [.s (.bool l),.vec 4,.vec 5] 99,.ak [.fn 106 [.ptr 0 0]] 178,.vec (.ah cE es) 66,.vec (.ah cB bs) 105] (.bd [.agg [.s (.aN false),.emp,.emp],.s (.aO .i64 8)])) (.at (aoE s l es bs)):=by kernel_rfl
def ak6(l:Bool)(es:List En)(bs:List Br)(l':Bool)(l3:List En)(pO:List Br):Bool:=(l==l')&&(awc es l3&&awd bs pO)
theorem dN(s:ByteArray)(i j:Nat):(s.extract i j).size=min j s.size - i:=by simp
theorem fZ(s:ByteArray)(i:Nat):0<=ax s i/\ax s i<=255:=by
 have:=(s.data.toList.getD i 0).toNat_lt;unfold ax;omega
theorem uT{k:Int}{s:ByteArray}:rG k s=true↔k<=(s.size:Int):=by simp[rG]
theorem w7{k:Int}{s:ByteArray}(h0:0<=k)(h:rG k s=true):((kF k s).size:Int)=k:=by
 have h:=uT.1 h;rw[kF,if_neg (by omega),dN];omega
theorem acT{k:Int}{s:ByteArray}(h0:0<=k)(h:rG k s=true):((pt k s).size:Int)=s.size - k:=by
 have h:=uT.1 h;rw[pt,if_neg (by omega),dN];omega
theorem ak7(k:Int)(s:ByteArray):(pt k s).size<=s.size:=by
 unfold pt;split;exact le_refl _;rw[dN];omega
theorem agM{Z:aZ}:fD P Z 106 w5:=by
 refine fS func106 ?_;rintro⟨k,s⟩ ⟨(h1:0<=k),_⟩ X hX hz;refine cA hz hX (by simp) aF.Ok.nil func106 (ak3 k s) ⟨λh=>⟨⟨[],[0],1,[]⟩,le_refl _, ?_⟩,λh=> ?_⟩;show Norm.run _ _=some ⟨[.bd [.s (.str (kF k s)),.s (.bool (rG k s))]],[.ak [.s (.str (pt k s))] 9],[],{}⟩;rw[kF,pt,rG,if_pos (of_decide_eq_true h),if_pos (of_decide_eq_true h),h];kernel_rfl;have h2:=of_decide_eq_false h;refine⟨by omega,h1,by omega,h1,by omega,by omega,⟨[],[0],1,[]⟩,le_refl _, ?_⟩;show Norm.run _ _=some ⟨[.bd [.s (.str (kF k s)),.s (.bool (rG k s))]],[.ak [.s (.str (pt k s))] 9],[],{}⟩;rw[kF,pt,rG,if_neg h2,if_neg h2,h];kernel_rfl
theorem afp{Z:aZ}:agI.Ok P Z:=aF.Ok.cons (agM.sum agH) aF.Ok.nil
theorem aoG{Z:aZ}:fD P Z 107 acR:=by
 refine fS func107 ?_;rintro(s:ByteArray) _ X hX hz;refine cA hz hX (by simp) afp func107 (ak4 s) ⟨rfl,rfl,by decide,λh=>⟨⟨[],[0],2,[]⟩,le_refl _, ?_⟩,λh=> ?_⟩;have h:rG 1 s=false:=by simpa using h
 show Norm.run _ _=some ⟨[.bd [.s (.str (xN s)),.s (.bool (tY s))]],[.ak [.fn 106 [.ptr 1 0]] 178,.ak [.s (.str (im s))] 9],[],{}⟩;rw[xN,im,tY,h];kernel_rfl;have h:rG 1 s=true:=by simpa using h
 have h1:=w7 (by omega) h;have h2:=fZ (kF 1 s) 0;refine⟨by decide,by omega,⟨by show _<=ax (kF 1 s) 0;omega,by show ax (kF 1 s) 0<=_;omega⟩,rfl,rfl,h2.1,⟨[],[0],2,[]⟩,le_refl _, ?_⟩;show Norm.run _ _=some ⟨[.bd [.s (.str (xN s)),.s (.bool (tY s))]],[.ak [.fn 106 [.ptr 1 0]] 178,.ak [.s (.str (im s))] 9],[],{}⟩;rw[xN,im,tY,h];kernel_rfl
theorem jY{Z:aZ}:w6.Ok P Z:=aF.Ok.cons (agM.sum agH) (aF.Ok.cons (aoG.sum ara) (aF.Ok.cons afh.sum aF.Ok.nil))
theorem oB{s:ByteArray}(h:tY s=true):(im s).size+1<=s.size:=by
 simp only[tY,and_eq_true]at h;have h1:=acT (by omega) h.1;have h2:=ak7 (rdK s) (pt 1 s);rw[im,if_pos h.1];omega
def ak8(t:ByteArray):Int:=bX BinOp.or i64 (i64.wrap (ax t (Int.toNat 0)*2^min (Int.toNat 8) i64.bits)) (ax t (Int.toNat 1))
def gi(l:Bool):Nat->ByteArray->List En->List Br->Int×List En×List Br
 |0,_,es,bs=>if ch l es bs=true then(0,es,bs)else(4,[],[])
 |n+1,s,es,bs=>
  if s=empty then(if ch l es bs=true then(0,es,bs)else(4,[],[]))
  else if tY s=false then(8,[],[])
  else if l=true then(if tY (im s)=true then gi l n (im (im s)) (es++[(xN s,xN (im s),())]) bs else(8,[],[]))
  else(if rG 2 (im s)=true then gi l n (pt 2 (im s)) es (bs++[(xN s,ak8 (kF 2 (im s)),())])else(8,[],[]))
def jP(s:ByteArray):Int×List En×List Br:=
 if(s.size:Int)>254 then(40,[],[])else if s=empty then(8,[],[])else if ax s 0≠1/\ax s 0≠2 then(4,[],[])
 else gi (ax s 0==1) s.size (s.extract 1 s.size) [] []
def pv(s:ByteArray):Int:=(jP s).1
def lJ(s:ByteArray):List En:=(jP s).2.1
def kJ(s:ByteArray):List Br:=(jP s).2.2
def gT(s:ByteArray):Bool:=decide (pv s=0)&&(ax s 0==1)
abbrev awe(l:Bool)(r:Int×List En×List Br):AL [er,bk]:=((decide (r.1=0)&&l,r.2.1,r.2.2,()),r.1,())
abbrev acU(s:ByteArray):AL [er,bk]:=((gT s,lJ s,kJ s,()),pv s,())
abbrev U(s:ByteArray):List UInt8:=s.data.toList
theorem ku(s:ByteArray):(U s).length=s.size:=length_toList
theorem iK(s:ByteArray)(i j:Nat):U (s.extract i j)=((U s).drop i).take (j - i):=by
 rw[U,ByteArray.data_extract,Array.toList_extract,List.extract_eq_take_drop]
theorem arb{s:ByteArray}(h:U s=[]):s=empty:=mP h
theorem aaP{s:ByteArray}{a b:List UInt8}{k:Int}(h:U s=a++b)(hk:(a.length:Int)=k):rG k s=true/\U (kF k s)=a/\U (pt k s)=b:=by
 have hl:=ku s;rw[h,length_append]at hl;refine⟨uT.2 (by omega), ?_, ?_⟩;rw[kF,if_neg (by omega),iK,h,show k.toNat - 0=a.length from by omega];simp;rw[pt,if_neg (by omega),iK,h,show k.toNat=a.length from by omega,List.drop_left,take_of_length_le (by omega)]
theorem aaQ{s:ByteArray}{k:Int}(h0:0<=k)(h:rG k s=true):U s=U (kF k s)++U (pt k s)/\((U (kF k s)).length:Int)=k:=by
 have hk:=uT.1 h;have hl:=ku s;refine⟨?_,by rw[ku];exact w7 h0 h⟩;rw[kF,pt,if_neg (by omega),if_neg (by omega),iK,iK,List.drop_zero,Nat.sub_zero,take_of_length_le (l:=(U s).drop _) (by simp[hl]),List.take_append_drop]
def oC(s:ByteArray):List UInt8:=UInt8.ofNat s.size::U s
theorem kZ{s:ByteArray}{a:UInt8}{r:List UInt8}(h:U s=a::r):ax s 0=(a.toNat:Int):=by
 simp[ax,show s.data.toList=a::r from h]
theorem aaR{s:ByteArray}{a b:UInt8}{r:List UInt8}(h:U s=a::b::r):ax s 1=(b.toNat:Int):=by
 simp[ax,show s.data.toList=a::b::r from h]
theorem aoH{s k:ByteArray}{r:List UInt8}(h:U s=oC k++r)(hk:k.size<=255):tY s=true/\xN s=k/\U (im s)=r:=by
 have⟨h1,h2,h3⟩:=aaP (s:=s) (a:=[UInt8.ofNat k.size]) (b:=U k++r) (k:=1) (by rw[h];rfl) rfl;have e:rdK s=(k.size:Int):=by rw[rdK,kZ h2];simp;omega
 have⟨g1,g2,g3⟩:=aaP (s:=pt 1 s) (k:=rdK s) h3 (by rw[ku,e]);refine⟨by simp[tY,h1,g1], ?_, ?_⟩;rw[xN,if_pos h1];exact mP g2;rw[im,if_pos h1];exact g3
theorem aaS{s:ByteArray}(h:tY s=true):U s=oC (xN s)++U (im s)/\(xN s).size<=255:=by
 simp only[tY,and_eq_true]at h;have⟨h1,h2⟩:=h;have⟨g1,g2⟩:=aaQ (by decide) h1;have hr:=fZ (kF 1 s) 0;have⟨g3,g4⟩:=aaQ (k:=rdK s) hr.1 h2;have g2:(U (kF 1 s)).length=1:=by omega
 have⟨a,ha⟩:=List.length_eq_one_iff.1 g2;have e:rdK s=(a.toNat:Int):=kZ ha;rw[xN,im,if_pos h1,if_pos h1];have hs:(kF (rdK s) (pt 1 s)).size=a.toNat:=by rw[<-ku];omega
 refine⟨?_,by rw[hs];have:=a.toNat_lt;omega⟩;rw[g1,ha,g3,oC,hs];simp
def jk(x:En):List UInt8:=oC x.1++oC x.2.1
def jE(x:Br):List UInt8:=oC x.1++[UInt8.ofNat (x.2.1 / 256).toNat,UInt8.ofNat (x.2.1%256).toNat]
theorem wP{a b:Int}(ha:0<=a/\a<=255)(hb:0<=b/\b<=255):bX BinOp.or i64 (i64.wrap (a*2^min (Int.toNat 8) i64.bits)) b=a*256+b:=by
 have e1:i64.wrap (a*2^min (Int.toNat 8) i64.bits)=a*256:=by
  rw[show(2:Int)^min (Int.toNat 8) i64.bits=256 from by decide];exact cL ⟨by omega,by omega⟩
 rw[e1];obtain⟨x,rfl⟩:=Int.eq_ofNat_of_zero_le ha.1;obtain⟨y,rfl⟩:=Int.eq_ofNat_of_zero_le hb.1;show i64.wrap ((BitVec.ofInt 64 _ ||| BitVec.ofInt 64 _).toNat:Int)=_;have e2:(BitVec.ofInt 64 ((x:Int)*256)).toNat=2^8*x:=by rw[BitVec.toNat_ofInt];omega
 have e3:(BitVec.ofInt 64 (y:Int)).toNat=y:=by rw[BitVec.toNat_ofInt];omega
 rw[BitVec.toNat_or,e2,e3,<-Nat.two_pow_add_eq_or_of_lt (by omega),cL ⟨by omega,by omega⟩];omega
theorem arc{t:ByteArray}{a b:UInt8}(h:U t=[a,b]):ak8 t=(a.toNat:Int)*256+b.toNat:=by
 have h1:=a.toNat_lt;have h2:=b.toNat_lt;have e0:=kZ h;have e1:=aaR h;rw[ak8,show ax t (Int.toNat 0)=_ from e0,show ax t (Int.toNat 1)=_ from e1];exact wP ⟨by omega,by omega⟩ ⟨by omega,by omega⟩
theorem ak9{l:Bool}{n:Nat}{s:ByteArray}{es:List En}{bs:List Br}(h:U s=[]):gi l n s es bs=if ch l es bs=true then(0,es,bs)else(4,[],[]):=by
 cases n with
 |zero=>rfl|succ n=>rw[gi,if_pos (arb h)]
theorem atb{α:Type}:∀{l:List α},l.length=2->∃a b,l=[a,b]
 |[a,b],_=>⟨a,b,rfl⟩
theorem awf:∀(n:Nat) (l:Bool) (s:ByteArray) (es:List En) (bs:List Br) {l3:List En} {pO:List Br},s.size<=n->gi l n s es bs=(0,l3,pO)->
 ∃es2 bs2,l3=es++es2/\pO=bs++bs2/\ch l l3 pO=true/\U s=es2.flatMap jk++bs2.flatMap jE/\(l=true->bs2=[])/\(l=false->es2=[]):=by
 intro n;have fin:∀(l:Bool) (s:ByteArray) (es:List En) (bs:List Br) {l3:List En} {pO:List Br},s=empty->(if ch l es bs=true then((0:Int),es,bs)else(4,[],[]))=(0,l3,pO)->
  ∃es2 bs2,l3=es++es2/\pO=bs++bs2/\ch l l3 pO=true/\U s=es2.flatMap jk++bs2.flatMap jE/\(l=true->bs2=[])/\(l=false->es2=[]):=by
  intro l s es bs l3 pO hs h;split at h;rename_i hm;simp only[Prod.mk.injEq,true_and]at h;obtain⟨rfl,rfl⟩:=h;exact⟨[],[],by simp,by simp,hm,by subst hs;rfl,λ_=>rfl,λ_=>rfl⟩;simp at h
 induction n with
 |zero=>
  intro l s es bs l3 pO hn h;exact fin l s es bs (fx (Nat.le_zero.1 hn)) h
 |succ n ih=>
  intro l s es bs l3 pO hn h;by_cases h0:s=empty;rw[gi,if_pos h0]at h;exact fin l s es bs h0 h;rw[gi,if_neg h0]at h;split at h;simp at h;rename_i hB;have hB:tY s=true:=by simpa using hB
  have⟨a1,a2⟩:=aaS hB;have c1:=oB hB;split at h;rename_i hl;subst hl;split at h;rename_i hB2;have⟨b1,b2⟩:=aaS hB2;have c2:=oB hB2;obtain⟨es2,bs2,rfl,rfl,d3,d4,d5,d6⟩:=ih true _ _ _ (by omega) h;have d5:=d5 rfl;subst d5;refine⟨(xN s,xN (im s),())::es2,[],by simp,by simp,d3, ?_,λ_=>rfl,λh=>(by cases h)⟩;rw[a1,b1,d4];simp[jk];simp at h;rename_i hl;have hl:l=false:=by simpa using hl
  subst hl;split at h;rename_i hB2;have⟨b1,b2⟩:=aaQ (by decide) hB2;have c2:=ak7 2 (im s);obtain⟨es2,bs2,rfl,rfl,d3,d4,d5,d6⟩:=ih false _ _ _ (by omega) h;have d6:=d6 rfl;subst d6;refine⟨[],(xN s,ak8 (kF 2 (im s)),())::bs2,by simp,by simp,d3, ?_,λh=>(by cases h),λ_=>rfl⟩;have b2:(U (kF 2 (im s))).length=2:=by omega
  have⟨a,b,hab⟩:=atb b2;have e:=arc hab;have h1:=a.toNat_lt;have h2:=b.toNat_lt;rw[a1,b1,d4,hab];simp only[List.flatMap_nil,nil_append,List.flatMap_cons,jE,e,append_assoc];rw[show(((a.toNat:Int)*256+b.toNat) / 256).toNat=a.toNat from by omega,show(((a.toNat:Int)*256+b.toNat)%256).toNat=b.toNat from by omega];simp;simp at h
theorem aoI{es:List En}(h:mf es=true){x:En}(hx:x∈es):x.1.size<=24/\x.2.1.size<=100:=by
 obtain⟨i,hi,rfl⟩:=List.getElem_of_mem hx;have:=eh.1 h i hi;simp only[okE,not_eq_true',Bool.or_eq_false_iff,decide_eq_false_iff_not,bT hi]at this;omega
theorem ala{bs:List Br}(h:pr bs=true){x:Br}(hx:x∈bs):x.1.size<=24/\2<=x.2.1/\x.2.1<1024:=by
 obtain⟨i,hi,rfl⟩:=List.getElem_of_mem hx;have:=eh.1 h i hi;simp only[okB,not_eq_true',Bool.or_eq_false_iff,decide_eq_false_iff_not,bT hi]at this;omega
abbrev enB(zs:List Int):List UInt8:=zs.map λn=>UInt8.ofNat n.toNat
theorem uU(zs:List Int):U (aB zs)=enB zs:=rfl
theorem u8_in{n:Int}(h0:0<=n)(h1:n<=255):u8.wrap n=n:=by
 simp only[IntKind.wrap,IntKind.bits,IntKind.signed,Bool.false_and];simp;omega
theorem aaT{s:ByteArray}(h:s.size<=255):enB (y8 s)=oC s:=by
 simp only[enB,y8,map_cons,oC,u8_in (n:=(s.size:Int)) (by omega) (by omega),toNat_natCast,List.cons.injEq,true_and,aaO,List.map_map];exact(List.map_congr_left (λa _=>by simp)).trans (List.map_id _)
theorem awg{x:En}(h:x.1.size<=24/\x.2.1.size<=100):enB (oA x)=jk x:=by
 simp only[oA,jk,map_append];rw[show(y8 x.1).map _=_ from aaT (by omega),show(y8 x.2.1).map _=_ from aaT (by omega)]
theorem awh{x:Br}(h:x.1.size<=24/\2<=x.2.1/\x.2.1<1024):enB (uz x)=jE x:=by
 have⟨k,p,⟨⟩⟩:=x;have hp:2<=p/\p<1024:=h.2;simp only[uz,jE,map_append,map_cons,map_nil];rw[show(y8 k).map _=_ from aaT (by have:k.size<=24:=h.1;omega),show(2:Int)^min (Int.toNat 8) i64.bits=256 from by decide,Int.fdiv_eq_ediv_of_nonneg _ (by omega),u8_in (by omega) (by omega)]
 have e:u8.wrap p=p%256:=by
  simp only[IntKind.wrap,IntKind.bits,IntKind.signed,Bool.false_and];simp
 rw[e]
theorem w8{α:Type}{f:α->List Int}{g:α->List UInt8}:∀{l:List α},(∀x∈l,enB (f x)=g x)->enB (l.flatMap f)=l.flatMap g
 |[],_=>rfl|x::l,h=>by
  simp only[List.flatMap_cons,map_append];rw[show(f x).map _=_ from h x (by simp),show(l.flatMap f).map _=_ from w8 (λy hy=>h y (by simp[hy]))]
theorem ard{l:Bool}{es:List En}{bs:List Br}(h1:mf es=true)(h2:pr bs=true):U (aB (afm l es bs))=(if l=true then 1 else 2)::(es.flatMap jk++bs.flatMap jE):=by
 rw[uU,afm];simp only[map_append];rw[show(es.flatMap oA).map _=_ from w8 λx hx=>awg (aoI h1 hx),show(bs.flatMap uz).map _=_ from w8 λx hx=>awh (ala h2 hx)];cases l<;>rfl
theorem alb:∀(es:List En),((es.flatMap jk).length:Int)=(es.map o8).sum
 |[]=>rfl|x::es=>by
  simp only[List.flatMap_cons,length_append,map_cons,List.sum_cons,<-alb es,o8,jk,oC,length_cons,ku];omega
theorem alc:∀(bs:List Br),((bs.flatMap jE).length:Int)=(bs.map sT).sum
 |[]=>rfl|x::bs=>by
  simp only[List.flatMap_cons,length_append,map_cons,List.sum_cons,<-alc bs,sT,jE,oC,length_cons,length_nil,ku];omega
theorem ald{s:ByteArray}{a:UInt8}{es:List En}{bs:List Br}(h:U s=a::(es.flatMap jk++bs.flatMap jE)):(s.size:Int)=bw es bs:=by
 have:=ku s;rw[h]at this;simp only[length_cons,length_append]at this;rw[bw,<-alb,<-alc];omega
theorem jZ{l:Bool}{es:List En}{bs:List Br}:dq l es bs=0↔ch l es bs=true/\bw es bs<=254:=by
 unfold dq;split;split<;>simp_all;simp_all
theorem agN{l:Bool}{es:List En}{bs:List Br}(h:dq l es bs=0):bO l es bs=aB (afm l es bs):=by
 have⟨h1,h2⟩:=jZ.1 h;rw[bO,if_pos (by simp[wZ,h1,h2])]
theorem awi:∀(es:List En),es.length<=(es.flatMap jk).length
 |[]=>le_refl _|x::l=>by have:=awi l;simp only[List.flatMap_cons,length_cons,length_append,jk,oC];omega
theorem awj:∀(es:List Br),es.length<=(es.flatMap jE).length
 |[]=>le_refl _|x::l=>by have:=awj l;simp only[List.flatMap_cons,length_cons,length_append,jE,oC];omega
theorem aoJ{s:ByteArray}(h:pv s=0):aY (lJ s)/\aV (kJ s)/\dq (gT s) (lJ s) (kJ s)=0/\bO (gT s) (lJ s) (kJ s)=s/\ch (gT s) (lJ s) (kJ s)=true:=by
 have h':=h;rw[pv]at h;have hl:gT s=(ax s 0==1):=by simp[gT,h']
 rw[hl];unfold lJ kJ;unfold jP at h ⊢;split at h;exact absurd h (by decide);rename_i g1;rw[if_neg g1];split at h;exact absurd h (by decide);rename_i g2;rw[if_neg g2];split at h;exact absurd h (by decide);rename_i g3;rw[if_neg g3];obtain⟨l3,pO,e⟩:∃l3 pO,gi (ax s 0==1) s.size (s.extract 1 s.size) [] []=(0,l3,pO):=⟨_,_,Prod.ext h rfl⟩;rw[e];simp only;have⟨es2,bs2,k1,k2,k3,k4,k5,k6⟩:=awf _ _ _ _ _ (by rw[dN];omega) e;simp only[nil_append]at k1 k2;subst k1 k2;have⟨m1,m2,m3,m4⟩:=dD k3;have bx:=ku s;cases hu:U s with
 |nil=>exact absurd (arb hu) g2|cons a r=>
  have hb:=kZ hu;have ha:=a.toNat_lt
  have hr:r=l3.flatMap jk++pO.flatMap jE:=by
   rw[<-k4,iK,hu];rw[hu]at bx;simp only[length_cons]at bx;rw[show List.drop 1 (a::r)=r from rfl,take_of_length_le (by omega)]
  rw[hr]at hu;have hs:=ald hu;have hn:dq (ax s 0==1) l3 pO=0:=jZ.2 ⟨k3,by omega⟩;have azO:=awi l3;have azP:=awj pO;rw[hu]at bx;simp only[length_cons,length_append]at bx;refine⟨⟨by omega,λx hx=>by have:=aoI m3 hx;omega⟩,⟨by omega,λx hx=>by have:=ala m4 hx;omega⟩,hn, ?_,k3⟩;rw[agN hn];apply mP;show U _=U _;rw[ard m3 m4,hu];congr 1;by_cases hc:ax s 0=1;rw[if_pos (by simp[hc])];exact UInt8.toNat_inj.1 (by show 1=_;omega);rw[if_neg (by simp[hc])]
  have:ax s 0=2:=by
   rcases Decidable.em (ax s 0=2)with h|h;exact h;exact absurd ⟨hc,h⟩ g3
  exact UInt8.toNat_inj.1 (by show 2=_;omega)
theorem aiD(l:Bool)(es:List En)(bs:List Br):ak6 l es bs l es bs=true:=by simp[ak6,awc,awd]
abbrev eRN:TypeId:=109
def afq:List (Nat×Norm):=[(4,⟨[],[1,3],0,[]⟩),(10,⟨[],[1,5],0,[]⟩)]
def kv(l:Bool)(es:List En)(bs:List Br)(i:Int):bQ:=⟨sl 130 [(1,.ptr 0 0),(3,.s (.int .i64 i))],[rD l es bs eRN],hd f112 4,{}⟩
def mZ(l:Bool)(es:List En)(bs:List Br)(i:Int):bQ:=⟨sl 130 [(1,.ptr 0 0),(5,.s (.int .i64 i))],[rD l es bs eRN],hd f112 10,{}⟩
def aaU:List (Nat×Norm):=[(3,⟨[],[1,3,4],0,[]⟩),(7,⟨[],[1,3,5],0,[]⟩)]
def uV(l:Bool)(es:List En)(bs:List Br)(a i:Int):bQ:=⟨sl 49 [(1,.ptr 0 0),(3,.s (.int .i64 a)),(4,.s (.int .i64 i))],[rD l es bs eRN],hd f123 3,{}⟩
def uW(l:Bool)(es:List En)(bs:List Br)(a i:Int):bQ:=⟨sl 49 [(1,.ptr 0 0),(3,.s (.int .i64 a)),(5,.s (.int .i64 i))],[rD l es bs eRN],hd f123 7,{}⟩
abbrev ale:=bM [oz] [bk] (λ((_,es,bs,()),())=>[aY es,aV bs]) (λ((_,es,bs,()),())=>(bw es bs,()))
def atc:aF:=[(123,ale)]
theorem alf(l:Bool)(es:List En)(bs:List Br):run P dK.sum f112 afq (start f112 [sS l es bs] [])=
 Tree.ite l (.ite (decide ((↑bs.length:Int)>0)) (.ret [.ak [.s (.bool l),.s (.ro (.ah cE es)),.s (.ro (.ah cB bs))] 109] (.s (.aN false))) (.ite (!l) (.ite (decide ((↑es.length:Int)>0)) (.ret [.ak [.s (.bool l),.s (.ro (.ah cE es)),.s (.ro (.ah cB bs))] 109] (.s (.aN false))) (.at (kv l es bs 0))) (.at (kv l es bs 0)))) (.ite (!l) (.ite (decide ((↑es.length:Int)>0)) (.ret [.ak [.s (.bool l),.s (.ro (.ah cE es)),.s (.ro (.ah cB bs))] 109] (.s (.aN false))) (.at (kv l es bs 0))) (.at (kv l es bs 0))):=by kernel_rfl
theorem y9(l:Bool)(es:List En)(bs:List Br)(i:Int):run P dK.sum f112 afq (kv l es bs i)=
 Tree.ite (decide (i<es.length)) (.ab ((0:Int)<=i) (.ab (i<es.length) (.ite (decide ((↑(ByteArray.size (es.getD i.toNat (CL.d cE)).fst):Int)<1)) (.ret [.ak [.s (.bool l),.s (.ro (.ah cE es)),.s (.ro (.ah cB bs))] 109] (.s (.aN false))) (.ite (decide ((↑(ByteArray.size (es.getD i.toNat (CL.d cE)).fst):Int)>24)) (.ret [.ak [.s (.bool l),.s (.ro (.ah cE es)),.s (.ro (.ah cB bs))] 109] (.s (.aN false))) (.ab ((0:Int)<=i) (.ab (i<es.length) (.ite (decide ((↑(ByteArray.size (es.getD i.toNat (CL.d cE)).snd.fst):Int)>100)) (.ret [.ak [.s (.bool l),.s (.ro (.ah cE es)),.s (.ro (.ah cB bs))] 109] (.s (.aN false))) (.ite (decide (i>0)) (.ab (aw (i - (1:Int))) (.ab ((0:Int)<=i - (1:Int)) (.ab (i - (1:Int)<(↑es.length:Int)) (.ite (!slt (es.getD (i - (1:Int)).toNat (CL.d cE)).fst (es.getD i.toNat (CL.d cE)).fst) (.ret [.ak [.s (.bool l),.s (.ro (.ah cE es)),.s (.ro (.ah cB bs))] 109] (.s (.aN false))) (.ab (aw (i+1)) (.at (kv l es bs (i+1)))))))) (.ab (aw (i+1)) (.at (kv l es bs (i+1)))))))))))) (.at (mZ l es bs 0)):=by kernel_rfl
theorem za(l:Bool)(es:List En)(bs:List Br)(i:Int):run P dK.sum f112 afq (mZ l es bs i)=
 Tree.ite (decide (i<bs.length)) (.ab ((0:Int)<=i) (.ab (i<bs.length) (.ite (decide (i>0)) (.ite (decide ((↑(ByteArray.size (bs.getD i.toNat (CL.d cB)).fst):Int)<1)) (.ret [.ak [.s (.bool l),.s (.ro (.ah cE es)),.s (.ro (.ah cB bs))] 109] (.s (.aN false))) (.ite (decide ((↑(ByteArray.size (bs.getD i.toNat (CL.d cB)).fst):Int)>24)) (.ret [.ak [.s (.bool l),.s (.ro (.ah cE es)),.s (.ro (.ah cB bs))] 109] (.s (.aN false))) (.ab ((0:Int)<=i) (.ab (i<bs.length) (.ite (decide ((bs.getD i.toNat (CL.d cB)).snd.fst<2)) (.ret [.ak [.s (.bool l),.s (.ro (.ah cE es)),.s (.ro (.ah cB bs))] 109] (.s (.aN false))) (.ab ((0:Int)<=i) (.ab (i<bs.length) (.ite (decide ((bs.getD i.toNat (CL.d cB)).snd.fst>1023)) (.ret [.ak [.s (.bool l),.s (.ro (.ah cE es)),.s (.ro (.ah cB bs))] 109] (.s (.aN false))) (.ite (decide (i>0)) (.ab (aw (i - (1:Int))) (.ab ((0:Int)<=i - (1:Int)) (.ab (i - (1:Int)<(↑bs.length:Int)) (.ite (!slt (bs.getD (i - (1:Int)).toNat (CL.d cB)).fst (bs.getD i.toNat (CL.d cB)).fst) (.ret [.ak [.s (.bool l),.s (.ro (.ah cE es)),.s (.ro (.ah cB bs))] 109] (.s (.aN false))) (.ab (aw (i+1)) (.at (mZ l es bs (i+1)))))))) (.ab (aw (i+1)) (.at (mZ l es bs (i+1))))))))))))) (.ite (decide ((↑(ByteArray.size (bs.getD i.toNat (CL.d cB)).fst):Int)>24)) (.ret [.ak [.s (.bool l),.s (.ro (.ah cE es)),.s (.ro (.ah cB bs))] 109] (.s (.aN false))) (.ab ((0:Int)<=i) (.ab (i<bs.length) (.ite (decide ((bs.getD i.toNat (CL.d cB)).snd.fst<2)) (.ret [.ak [.s (.bool l),.s (.ro (.ah cE es)),.s (.ro (.ah cB bs))] 109] (.s (.aN false))) (.ab ((0:Int)<=i) (.ab (i<bs.length) (.ite (decide ((bs.getD i.toNat (CL.d cB)).snd.fst>1023)) (.ret [.ak [.s (.bool l),.s (.ro (.ah cE es)),.s (.ro (.ah cB bs))] 109] (.s (.aN false))) (.ite (decide (i>0)) (.ab (aw (i - (1:Int))) (.ab ((0:Int)<=i - (1:Int)) (.ab (i - (1:Int)<(↑bs.length:Int)) (.ite (!slt (bs.getD (i - (1:Int)).toNat (CL.d cB)).fst (bs.getD i.toNat (CL.d cB)).fst) (.ret [.ak [.s (.bool l),.s (.ro (.ah cE es)),.s (.ro (.ah cB bs))] 109] (.s (.aN false))) (.ab (aw (i+1)) (.at (mZ l es bs (i+1)))))))) (.ab (aw (i+1)) (.at (mZ l es bs (i+1))))))))))))))) (.ret [.ak [.s (.bool l),.s (.ro (.ah cE es)),.s (.ro (.ah cB bs))] 109] (.s (.aN true))):=by kernel_rfl
theorem aiE(l:Bool)(es:List En)(bs:List Br):run P dK.sum f123 aaU (start f123 [sS l es bs] [])=
 Tree.at (uV l es bs 1 0):=by kernel_rfl
theorem w9(l:Bool)(es:List En)(bs:List Br)(a i:Int):run P dK.sum f123 aaU (uV l es bs a i)=
 Tree.ite (decide (i<es.length)) (.ab (aw (a+2)) (.ab ((0:Int)<=i) (.ab (i<es.length) (.ab (aw (a+2+(↑(ByteArray.size (es.getD i.toNat (CL.d cE)).fst):Int))) (.ab ((0:Int)<=i) (.ab (i<es.length) (.ab (aw (a+2+(↑(ByteArray.size (es.getD i.toNat (CL.d cE)).fst):Int)+(↑(ByteArray.size (es.getD i.toNat (CL.d cE)).snd.fst):Int))) (.ab (aw (i+1)) (.at (uV l es bs (a+2+(↑(ByteArray.size (es.getD i.toNat (CL.d cE)).fst):Int)+(↑(ByteArray.size (es.getD i.toNat (CL.d cE)).snd.fst):Int)) (i+1))))))))))) (.at (uW l es bs a 0)):=by kernel_rfl
theorem xa(l:Bool)(es:List En)(bs:List Br)(a i:Int):run P dK.sum f123 aaU (uW l es bs a i)=
 Tree.ite (decide (i<bs.length)) (.ab (aw (a+3)) (.ab ((0:Int)<=i) (.ab (i<bs.length) (.ab (aw (a+3+(↑(ByteArray.size (bs.getD i.toNat (CL.d cB)).fst):Int))) (.ab (aw (i+1)) (.at (uW l es bs (a+3+(↑(ByteArray.size (bs.getD i.toNat (CL.d cB)).fst):Int)) (i+1)))))))) (.ret [.ak [.s (.bool l),.s (.ro (.ah cE es)),.s (.ro (.ah cB bs))] 109] (.s (.int .i64 a))):=by kernel_rfl
theorem aiF(l:Bool)(es:List En)(bs:List Br):run P atc.sum f99 [] (start f99 [sS l es bs] [])=
 Tree.ab (aY es) (.ab (aV bs) (.ret [.ak [.s (.bool l),.s (.ro (.ah cE es)),.s (.ro (.ah cB bs))] 109] (.s (.bool (decide (bw es bs<=254)))))):=by kernel_rfl
theorem o9{es:List En}{k:Nat}:okE es k=true↔(1<=(es.getD k dE).1.size/\(es.getD k dE).1.size<=24/\(es.getD k dE).2.1.size<=100/\(0<k->slt (es.getD (k - 1) dE).1 (es.getD k dE).1=true)):=by
 simp only[okE,not_eq_true',Bool.or_eq_false_iff,and_eq_false_iff,decide_eq_false_iff_not,Bool.not_eq_false'];constructor;rintro⟨⟨⟨h1,h2⟩,h3⟩,h4⟩;exact⟨Nat.pos_of_ne_zero λe=>h1 (fx e),by omega,by omega,λh=>h4.resolve_left (λg=>g h)⟩;rintro⟨h1,h2,h3,h4⟩;exact⟨⟨⟨λe=>(by rw[e]at h1;simp at h1),by omega⟩,by omega⟩,(Decidable.em (0<k)).elim (λh=>.inr (h4 h)) .inl⟩
theorem pa{bs:List Br}{k:Nat}:okB bs k=true↔((bs.getD k dB).1.size<=24/\2<=(bs.getD k dB).2.1/\(bs.getD k dB).2.1<=1023/\(0<k->slt (bs.getD (k - 1) dB).1 (bs.getD k dB).1=true)):=by
 simp only[okB,not_eq_true',Bool.or_eq_false_iff,and_eq_false_iff,decide_eq_false_iff_not,Bool.not_eq_false'];constructor;rintro⟨⟨⟨h1,h2⟩,h3⟩,h4⟩;exact⟨by omega,by omega,by omega,λh=>h4.resolve_left (λg=>g h)⟩;rintro⟨h1,h2,h3,h4⟩;exact⟨⟨⟨by omega,by omega⟩,by omega⟩,(Decidable.em (0<k)).elim (λh=>.inr (h4 h)) .inl⟩
theorem aoK{a b:ByteArray}(h:slt a b=true):1<=b.size:=Nat.pos_of_ne_zero λe=>by rw[fx e,aix]at h;cases h
theorem aaV{Z:aZ}:cg P Z 112 [oz] [bL] (λ_=>[]) (λ((l,es,bs,()),())=>(ch l es bs,())):=by
 refine ay func112 (by kernel_rfl) (by kernel_rfl) ?_;rintro⟨⟨(l:Bool),(es:List En),(bs:List Br),⟨⟩⟩,⟨⟩⟩ ⟨⟨_,hle,hlb,_⟩,_⟩ _ X hX hz;have hle:es.length<=9223372036854775807:=hle;have hlb:bs.length<=9223372036854775807:=hlb
 have second:mf es=true->ch l es bs=pr bs->∀(n k:Nat),k+n=bs.length->(∀j,j<k->okB bs j=true)->Safe P 112 X (Ends [bL] (ch l es bs,())) (mZ l es bs (k:Int)):=by
  intro he hm n
  induction n with
  |zero=>
   intro k hk hp;refine go hz hX aF.Ok.nil func112 (za l es bs k) ⟨λh=>absurd (of_decide_eq_true h) (by omega),λh=>bV ?_⟩;rw[hm];exact uP (λj hj=>hp j (by omega))
  |succ n ih=>
   intro k hk hp
   have no:¬(((bs.getD k dB).1.size<=24/\2<=(bs.getD k dB).2.1/\(bs.getD k dB).2.1<=1023/\(0<k->slt (bs.getD (k - 1) dB).1 (bs.getD k dB).1=true)))->ch l es bs=false:=λh=>by
    rw[hm];exact aaG (i:=k) (by omega) (Bool.eq_false_iff.2 λe=>h (pa.1 e))
   have yes:((bs.getD k dB).1.size<=24/\2<=(bs.getD k dB).2.1/\(bs.getD k dB).2.1<=1023/\(0<k->slt (bs.getD (k - 1) dB).1 (bs.getD k dB).1=true))->Safe P 112 X (Ends [bL] (ch l es bs,())) (mZ l es bs ((k:Int)+1)):=λh=>
    ih (k+1) (by omega) (λj hj=>(Decidable.em (j=k)).elim (λe=>by subst e;exact pa.2 h) (λe=>hp j (by omega)))
   refine go hz hX aF.Ok.nil func112 (za l es bs k) ⟨λh=>⟨by omega,by omega, ?_⟩,λh=>absurd (of_decide_eq_false h) (by omega)⟩;simp only[toNat_natCast];have r1:decide (((bs.getD k dB).1.size:Int)>24)=true->ch l es bs=false:=λh=>no λg=>absurd (of_decide_eq_true h) (by omega);have r2:decide ((bs.getD k dB).2.1<2)=true->ch l es bs=false:=λh=>no λg=>absurd (of_decide_eq_true h) (by omega);have r3:decide ((bs.getD k dB).2.1>1023)=true->ch l es bs=false:=λh=>no λg=>absurd (of_decide_eq_true h) (by omega)
   have tail:decide (((bs.getD k dB).1.size:Int)>24)=false->decide ((bs.getD k dB).2.1<2)=false->decide ((bs.getD k dB).2.1>1023)=false->(0<k->slt (bs.getD (k - 1) dB).1 (bs.getD k dB).1=true)->Safe P 112 X (Ends [bL] (ch l es bs,())) (mZ l es bs ((k:Int)+1)):=λa b c d=>by
    have a:=of_decide_eq_false a;have b:=of_decide_eq_false b;have c:=of_decide_eq_false c;exact yes ⟨by omega,by omega,by omega,d⟩
   refine⟨λh0=> ?_,λh0=> ?_⟩;have h0:(k:Int)>0:=of_decide_eq_true h0;rw[show((k:Int) - 1).toNat=k - 1 from by omega];refine⟨λa=>bV (no λg=> ?_),λ_=>⟨λa=>bV (r1 a),λa=>⟨by omega,by omega,λb=>bV (r2 b),λb=>⟨by omega,by omega,λc=>bV (r3 c),λc=>⟨λ_=>⟨⟨by omega,by omega⟩,by omega,by omega,λd=>bV (no λg=> ?_),λd=>⟨⟨by omega,by omega⟩,tail a b c λ_=> ?_⟩⟩,λh=>absurd (of_decide_eq_false h) (by omega)⟩⟩⟩⟩⟩;have:=aoK (g.2.2.2 (by omega));have a:(((bs.getD k dB).1.size:Int)<1):=of_decide_eq_true a;omega;have d:(!slt (bs.getD (k - 1) dB).1 (bs.getD k dB).1)=true:=d;rw[g.2.2.2 (by omega)]at d;cases d;have d:(!slt (bs.getD (k - 1) dB).1 (bs.getD k dB).1)=false:=d;simpa using d;have h0:¬(k:Int)>0:=of_decide_eq_false h0;exact⟨λa=>bV (r1 a),λa=>⟨by omega,by omega,λb=>bV (r2 b),λb=>⟨by omega,by omega,λc=>bV (r3 c),λc=>⟨λh=>absurd (of_decide_eq_true h) (by omega),λ_=>⟨⟨by omega,by omega⟩,tail a b c λh=>absurd h (by omega)⟩⟩⟩⟩⟩
 have first:ch l es bs=(mf es&&pr bs)->∀(n k:Nat),k+n=es.length->(∀j,j<k->okE es j=true)->Safe P 112 X (Ends [bL] (ch l es bs,())) (kv l es bs (k:Int)):=by
  intro hm n
  induction n with
  |zero=>
   intro k hk hp;have he:mf es=true:=uP (λj hj=>hp j (by omega));refine go hz hX aF.Ok.nil func112 (y9 l es bs k) ⟨λh=>absurd (of_decide_eq_true h) (by omega),λh=> ?_⟩;exact second he (by rw[hm,he];rfl) bs.length 0 (by omega) (λj hj=>by omega)
  |succ n ih=>
   intro k hk hp
   have no:¬(1<=(es.getD k dE).1.size/\(es.getD k dE).1.size<=24/\(es.getD k dE).2.1.size<=100/\(0<k->slt (es.getD (k - 1) dE).1 (es.getD k dE).1=true))->ch l es bs=false:=λh=>by
    have:mf es=false:=aaG (i:=k) (by omega) (Bool.eq_false_iff.2 λe=>h (o9.1 e));rw[hm,this];rfl
   have yes:(1<=(es.getD k dE).1.size/\(es.getD k dE).1.size<=24/\(es.getD k dE).2.1.size<=100/\(0<k->slt (es.getD (k - 1) dE).1 (es.getD k dE).1=true))->Safe P 112 X (Ends [bL] (ch l es bs,())) (kv l es bs ((k:Int)+1)):=λh=>
    ih (k+1) (by omega) (λj hj=>(Decidable.em (j=k)).elim (λe=>by subst e;exact o9.2 h) (λe=>hp j (by omega)))
   refine go hz hX aF.Ok.nil func112 (y9 l es bs k) ⟨λh=>⟨by omega,by omega, ?_⟩,λh=>absurd (of_decide_eq_false h) (by omega)⟩;simp only[toNat_natCast];have r0:decide (((es.getD k dE).1.size:Int)<1)=true->ch l es bs=false:=λh=>no λg=>absurd (of_decide_eq_true h) (by omega);have r1:decide (((es.getD k dE).1.size:Int)>24)=true->ch l es bs=false:=λh=>no λg=>absurd (of_decide_eq_true h) (by omega);have r2:decide (((es.getD k dE).2.1.size:Int)>100)=true->ch l es bs=false:=λh=>no λg=>absurd (of_decide_eq_true h) (by omega)
   have tail:decide (((es.getD k dE).1.size:Int)<1)=false->decide (((es.getD k dE).1.size:Int)>24)=false->decide (((es.getD k dE).2.1.size:Int)>100)=false->(0<k->slt (es.getD (k - 1) dE).1 (es.getD k dE).1=true)->Safe P 112 X (Ends [bL] (ch l es bs,())) (kv l es bs ((k:Int)+1)):=λa b c d=>by
    have a:=of_decide_eq_false a;have b:=of_decide_eq_false b;have c:=of_decide_eq_false c;exact yes ⟨by omega,by omega,by omega,d⟩
   refine⟨λa=>bV (r0 a),λa=>⟨λb=>bV (r1 b),λb=>⟨by omega,by omega,λc=>bV (r2 c),λc=>⟨λh0=> ?_,λh0=> ?_⟩⟩⟩⟩;have h0:(k:Int)>0:=of_decide_eq_true h0;rw[show((k:Int) - 1).toNat=k - 1 from by omega];refine⟨⟨by omega,by omega⟩,by omega,by omega,λd=>bV (no λg=> ?_),λd=>⟨⟨by omega,by omega⟩,tail a b c λ_=> ?_⟩⟩;have d:(!slt (es.getD (k - 1) dE).1 (es.getD k dE).1)=true:=d;rw[g.2.2.2 (by omega)]at d;cases d;have d:(!slt (es.getD (k - 1) dE).1 (es.getD k dE).1)=false:=d;simpa using d;have h0:¬(k:Int)>0:=of_decide_eq_false h0;exact⟨⟨by omega,by omega⟩,tail a b c λh=>absurd h (by omega)⟩
 have body:¬((l=true/\(bs.length:Int)>0)\/(l=false/\(es.length:Int)>0))->Safe P 112 X (Ends [bL] (ch l es bs,())) (kv l es bs 0):=λh=>by
  refine first ?_ es.length 0 (by omega) (λj hj=>by omega)
  have:((l&&decide ((bs.length:Int)>0))||(!l&&decide ((es.length:Int)>0)))=false:=by
   cases l<;>simp at h ⊢ <;>omega
  rw[ch,this];rfl
 have bad:((l=true/\(bs.length:Int)>0)\/(l=false/\(es.length:Int)>0))->ch l es bs=false:=λh=>by
  have:((l&&decide ((bs.length:Int)>0))||(!l&&decide ((es.length:Int)>0)))=true:=by
   rcases h with⟨rfl,h⟩|⟨rfl,h⟩<;>simp<;>omega
  rw[ch,this];rfl
 refine go hz hX aF.Ok.nil func112 (alf l es bs) ⟨λhl=>⟨λh=>bV (bad (.inl ⟨hl,of_decide_eq_true h⟩)),λh=>⟨λhl'=> ?_,λ_=>body ?_⟩⟩,λhl=>⟨λ_=>⟨λh=>bV (bad (.inr ⟨hl,of_decide_eq_true h⟩)),λh=>body ?_⟩,λh=> ?_⟩⟩;subst hl;cases hl';have h:=of_decide_eq_false h;rintro(⟨_,g⟩|⟨g,_⟩);exact h g;rw[hl]at g;cases g;have h:=of_decide_eq_false h;rintro(⟨g,_⟩|⟨_,g⟩);rw[hl]at g;cases g;exact h g;subst hl;cases h
theorem awk{es:List En}(h:aY es):∀x∈es.map o8,0<=x/\x<=2002:=λx hx=>by
 obtain⟨y,hy,rfl⟩:=mem_map.1 hx;have:=h.2 y hy;unfold o8;omega
theorem awl{bs:List Br}(h:aV bs):∀x∈bs.map sT,0<=x/\x<=2002:=λx hx=>by
 obtain⟨y,hy,rfl⟩:=mem_map.1 hx;have:=h.2 y hy;unfold sT;omega
theorem zb{α β:Type}(f:α->β)(xs:List α)(d:β)(da:α){i:Nat}(hi:i<xs.length):(xs.map f).getD i d=f (xs.getD i da):=by simp[List.getD,hi]
theorem acV{Z:aZ}:cg P Z 123 [oz] [bk] (λ((_,es,bs,()),())=>[aY es,aV bs]) (λ((_,es,bs,()),())=>(bw es bs,())):=by
 refine ay func123 (by kernel_rfl) (by kernel_rfl) ?_;rintro⟨⟨(l:Bool),(es:List En),(bs:List Br),⟨⟩⟩,⟨⟩⟩ _ ⟨(he:aY es),(hb:aV bs),_⟩ X hX hz;have hre:=awk he;have hrb:=awl hb;have hle:=he.1;have hlb:=hb.1;have hte:0<=(es.map o8).sum/\(es.map o8).sum<=2002*(es.map o8).length:=mi hre (by omega);rw[length_map]at hte;show Safe P 123 X (Ends [bk] (bw es bs,())) _
 have second:∀(n k:Nat),k+n=bs.length->Safe P 123 X (Ends [bk] (bw es bs,())) (uW l es bs (1+(es.map o8).sum+((bs.map sT).take k).sum) (k:Int)):=by
  intro n
  induction n with
  |zero=>
   intro k hk;refine go hz hX aF.Ok.nil func123 (xa l es bs _ k) ⟨λh=>absurd (of_decide_eq_true h) (by omega),λh=>uO ?_⟩;rw[take_of_length_le (by rw[length_map];omega),bw];omega
  |succ n ih=>
   intro k hk;have h1:=mi (l:=(bs.map sT).take k) (m:=2002) (λx hx=>hrb x (List.mem_of_mem_take hx)) (by omega);have h3:((bs.map sT).take k).length<=1000:=by rw[length_take,length_map];omega
   have h2:=qn hb k;refine go hz hX aF.Ok.nil func123 (xa l es bs _ k) ?_;simp only[toNat_natCast];refine⟨λh=>⟨⟨by omega,by omega⟩,by omega,by omega,⟨?_, ?_⟩,⟨by omega,by omega⟩, ?_⟩,λh=>absurd (of_decide_eq_false h) (by omega)⟩;show(-9223372036854775808:Int)<=1+(es.map o8).sum+((bs.map sT).take k).sum+3+((bs.getD k dB).1.size:Int);omega;show 1+(es.map o8).sum+((bs.map sT).take k).sum+3+((bs.getD k dB).1.size:Int)<=(9223372036854775807:Int);omega;have:=ih (k+1) (by omega);rw[<-iV (by rw[length_map];omega),zb sT bs 0 dB (by omega)]at this;have e:1+(es.map o8).sum+((bs.map sT).take k).sum+3+((bs.getD k dB).1.size:Int)=1+(es.map o8).sum+(((bs.map sT).take k).sum+sT (bs.getD k dB)):=by unfold sT;omega
   rw[<-e]at this;exact this
 have first:∀(n k:Nat),k+n=es.length->Safe P 123 X (Ends [bk] (bw es bs,())) (uV l es bs (1+((es.map o8).take k).sum) (k:Int)):=by
  intro n
  induction n with
  |zero=>
   intro k hk;refine go hz hX aF.Ok.nil func123 (w9 l es bs _ k) ⟨λh=>absurd (of_decide_eq_true h) (by omega),λh=> ?_⟩;rw[take_of_length_le (by rw[length_map];omega)];have:=second bs.length 0 (by omega);simp only[List.take_zero,List.sum_nil,Int.add_zero]at this;exact this
  |succ n ih=>
   intro k hk;have h1:=mi (l:=(es.map o8).take k) (m:=2002) (λx hx=>hre x (List.mem_of_mem_take hx)) (by omega);have h3:((es.map o8).take k).length<=1000:=by rw[length_take,length_map];omega
   have h2:=qm he k;have e:1+((es.map o8).take k).sum+2+((es.getD k dE).1.size:Int)+((es.getD k dE).2.1.size:Int)=1+(((es.map o8).take k).sum+o8 (es.getD k dE)):=by unfold o8;omega
   refine go hz hX aF.Ok.nil func123 (w9 l es bs _ k) ?_;simp only[toNat_natCast];refine⟨λh=>⟨⟨by omega,by omega⟩,by omega,by omega,⟨?_, ?_⟩,by omega,by omega,⟨?_, ?_⟩,⟨by omega,by omega⟩, ?_⟩,λh=>absurd (of_decide_eq_false h) (by omega)⟩;show(-9223372036854775808:Int)<=1+((es.map o8).take k).sum+2+((es.getD k dE).1.size:Int);omega;show 1+((es.map o8).take k).sum+2+((es.getD k dE).1.size:Int)<=(9223372036854775807:Int);omega;show(-9223372036854775808:Int)<=1+((es.map o8).take k).sum+2+((es.getD k dE).1.size:Int)+((es.getD k dE).2.1.size:Int);omega;show 1+((es.map o8).take k).sum+2+((es.getD k dE).1.size:Int)+((es.getD k dE).2.1.size:Int)<=(9223372036854775807:Int);omega;have:=ih (k+1) (by omega);rw[<-iV (by rw[length_map];omega),zb o8 es 0 dE (by omega),<-e]at this;exact this
 have:=first es.length 0 (by omega)
 exact go hz hX aF.Ok.nil func123 (aiE l es bs) this
theorem acW{Z:aZ}:cg P Z 99 [oz] [bL] (λ((_,es,bs,()),())=>[aY es,aV bs]) (λ((_,es,bs,()),())=>(decide (bw es bs<=254),())):=by
 refine ay func99 (by kernel_rfl) (by kernel_rfl) ?_;rintro⟨⟨(l:Bool),(es:List En),(bs:List Br),⟨⟩⟩,⟨⟩⟩ _ ⟨(he:aY es),(hb:aV bs),_⟩ X hX hz;exact go hz hX (aF.Ok.cons acV.sum aF.Ok.nil) func99 (aiF l es bs) ⟨he,hb,sP⟩
abbrev alg:=bM [oz] [bL] (λ_=>[]) (λ((l,es,bs,()),())=>(ch l es bs,()))
abbrev atd:=bM [oz] [bL] (λ((_,es,bs,()),())=>[aY es,aV bs]) (λ((_,es,bs,()),())=>(decide (bw es bs<=254),()))
def uX:aF:=[(112,alg),(99,atd)]
def afr:List (Nat×Norm):=[(9,⟨[],[1,4,5],0,[]⟩),(14,⟨[],[1,4,7],0,[]⟩)]
def xb(l:Bool)(es:List En)(bs:List Br)(s:ByteArray)(i:Int):bQ:=⟨sl 85 [(1,.ptr 0 0),(4,.s (.str s)),(5,.s (.int .i64 i))],[rD l es bs eRN],hd f126 9,{}⟩
def aaW(l:Bool)(es:List En)(bs:List Br)(s:ByteArray)(i:Int):bQ:=⟨sl 85 [(1,.ptr 0 0),(4,.s (.str s)),(7,.s (.int .i64 i))],[rD l es bs eRN],hd f126 14,{}⟩
def ate:au:=.ak [.s (.bool false),.emp,.emp] eRN
theorem alh(l:Bool)(es:List En)(bs:List Br):run P uX.sum f126 afr (start f126 [sS l es bs] [])=
 Tree.ite (!ch l es bs) (.ret [.ak [.s (.bool l),.s (.ro (.ah cE es)),.s (.ro (.ah cB bs))] 109] (.bd [.s (.str empty),.s (.aO .i64 4)])) (.ab (aY es) (.ab (aV bs) (.ite (!decide (bw es bs<=254)) (.ret [.ak [.s (.bool l),.s (.ro (.ah cE es)),.s (.ro (.ah cB bs))] 109] (.bd [.s (.str empty),.s (.aO .i64 40)])) (.ite l (.at (xb l es bs (ByteArray.mk #[(1:UInt8)]) 0)) (.at (xb l es bs (ByteArray.mk #[(2:UInt8)]) 0)))))):=by kernel_rfl
theorem zd(l:Bool)(es:List En)(bs:List Br)(s:ByteArray)(i:Int):run P uX.sum f126 afr (xb l es bs s i)=
 Tree.ite (decide (i<(↑es.length:Int))) (Tree.ab ((0:Int)≤i) (Tree.ab (i<(↑es.length:Int)) (Tree.ab (s.size+(aB [u8.wrap (↑(ByteArray.size (es.getD i.toNat (CL.d [CK.str,CK.str])).fst):Int)]).size≤(4611686018427387904:Nat)) (Tree.ab ((s++aB [u8.wrap (↑(ByteArray.size (es.getD i.toNat (CL.d [CK.str,CK.str])).fst):Int)]).size+ByteArray.size (es.getD i.toNat (CL.d [CK.str,CK.str])).fst≤(4611686018427387904:Nat)) (Tree.ab ((s++aB [u8.wrap (↑(ByteArray.size (es.getD i.toNat (CL.d [CK.str,CK.str])).fst):Int)]++(es.getD i.toNat (CL.d [CK.str,CK.str])).fst).size+(aB [u8.wrap (↑(ByteArray.size (es.getD i.toNat (CL.d [CK.str,CK.str])).snd.fst):Int)]).size≤(4611686018427387904:Nat)) (Tree.ab ((s++aB [u8.wrap (↑(ByteArray.size (es.getD i.toNat (CL.d [CK.str,CK.str])).fst):Int)]++(es.getD i.toNat (CL.d [CK.str,CK.str])).fst++aB [u8.wrap (↑(ByteArray.size (es.getD i.toNat (CL.d [CK.str,CK.str])).snd.fst):Int)]).size+ByteArray.size (es.getD i.toNat (CL.d [CK.str,CK.str])).snd.fst≤(4611686018427387904:Nat)) (Tree.ab (aw (i+(1:Int))) (Tree.at (xb l es bs (s++aB [u8.wrap (↑(ByteArray.size (es.getD i.toNat (CL.d [CK.str,CK.str])).fst):Int)]++(es.getD i.toNat (CL.d [CK.str,CK.str])).fst++aB [u8.wrap (↑(ByteArray.size (es.getD i.toNat (CL.d [CK.str,CK.str])).snd.fst):Int)]++(es.getD i.toNat (CL.d [CK.str,CK.str])).snd.fst) (i+(1:Int))))))))))) (Tree.at (aaW l es bs s (0:Int))):=by kernel_rfl
theorem ze(l:Bool)(es:List En)(bs:List Br)(s:ByteArray)(i:Int):run P uX.sum f126 afr (aaW l es bs s i)=
 Tree.ite (decide (i<(↑bs.length:Int))) (Tree.ab ((0:Int)≤i) (Tree.ab (i<(↑bs.length:Int)) (Tree.ab (s.size+(aB [u8.wrap (↑(ByteArray.size (bs.getD i.toNat (CL.d [CK.str,CK.int i64])).fst):Int)]).size≤(4611686018427387904:Nat)) (Tree.ab ((s++aB [u8.wrap (↑(ByteArray.size (bs.getD i.toNat (CL.d [CK.str,CK.int i64])).fst):Int)]).size+ByteArray.size (bs.getD i.toNat (CL.d [CK.str,CK.int i64])).fst≤(4611686018427387904:Nat)) (Tree.ab ((256:Int)≠(0:Int)) (Tree.ab (aw (Int.tdiv (bs.getD i.toNat (CL.d [CK.str,CK.int i64])).snd.fst (256:Int))) (Tree.ab ((256:Int)≠(0:Int)) (Tree.ab ((s++aB [u8.wrap (↑(ByteArray.size (bs.getD i.toNat (CL.d [CK.str,CK.int i64])).fst):Int)]++(bs.getD i.toNat (CL.d [CK.str,CK.int i64])).fst).size+(aB [u8.wrap (Int.tdiv (bs.getD i.toNat (CL.d [CK.str,CK.int i64])).snd.fst (256:Int)),u8.wrap (Int.tmod (bs.getD i.toNat (CL.d [CK.str,CK.int i64])).snd.fst (256:Int))]).size≤(4611686018427387904:Nat)) (Tree.ab (aw (i+(1:Int))) (Tree.at (aaW l es bs (s++aB [u8.wrap (↑(ByteArray.size (bs.getD i.toNat (CL.d [CK.str,CK.int i64])).fst):Int)]++(bs.getD i.toNat (CL.d [CK.str,CK.int i64])).fst++aB [u8.wrap (Int.tdiv (bs.getD i.toNat (CL.d [CK.str,CK.int i64])).snd.fst (256:Int)),u8.wrap (Int.tmod (bs.getD i.toNat (CL.d [CK.str,CK.int i64])).snd.fst (256:Int))]) (i+(1:Int))))))))))))) (Tree.ret [au.ak [AV.s (SV.bool l),AV.s (SV.ro (ba.ah [CK.str,CK.str] es)),AV.s (SV.ro (ba.ah [CK.str,CK.int i64] bs))] (109:Nat)] (AV.bd [AV.s (SV.str s),AV.s (SV.aO i64 (0:Int))])):=by kernel_rfl
theorem xc(a b:ByteArray):U (a++b)=U a++U b:=by simp[U,ByteArray.data_append]
theorem rH(a b:ByteArray):(a++b).size=a.size+b.size:=ByteArray.size_append
theorem m5(zs:List Int):(aB zs).size=zs.length:=by rw[<-ku,uU,length_map]
theorem ali{n:Nat}(h:n<=255):U (aB [u8.wrap (n:Int)])=[UInt8.ofNat n]:=by
 rw[uU];simp only[map_cons,map_nil,u8_in (n:=(n:Int)) (by omega) (by omega),toNat_natCast]
theorem zf{α β:Type}{l:List α}{k:Nat}{d:α}(f:α->List β)(h:k<l.length):(l.take (k+1)).flatMap f=(l.take k).flatMap f++f (l.getD k d):=(sV f h).symm
theorem awm(s:ByteArray)(x:En)(h1:x.1.size<=255)(h2:x.2.1.size<=255):U (s++aB [u8.wrap (x.1.size:Int)]++x.1++aB [u8.wrap (x.2.1.size:Int)]++x.2.1)=U s++jk x:=by
 rw[xc,xc,xc,xc,ali h1,ali h2];simp[jk,oC]
theorem awn(s:ByteArray)(x:Br)(h1:x.1.size<=255)(h2:0<=x.2.1)(h3:x.2.1<65536):U (s++aB [u8.wrap (x.1.size:Int)]++x.1++aB [u8.wrap (Int.tdiv x.2.1 256),u8.wrap (Int.tmod x.2.1 256)])=U s++jE x:=by
 have⟨k,p,⟨⟩⟩:=x;have h2:0<=p:=h2;have h3:p<65536:=h3;show U (s++_++_++aB [u8.wrap (Int.tdiv p 256),u8.wrap (Int.tmod p 256)])=_;rw[Int.tdiv_eq_ediv_of_nonneg h2,Int.tmod_eq_emod_of_nonneg h2,xc,xc,xc,ali h1,uU];simp only[map_cons,map_nil,u8_in (n:=p / 256) (by omega) (by omega),u8_in (n:=p%256) (by omega) (by omega),jE,oC];simp
theorem aoL{Z:aZ}:cg P Z 126 [oz] [cv,bk] (λ((_,es,bs,()),())=>[aY es,aV bs]) (λ((l,es,bs,()),())=>(bO l es bs,dq l es bs,())):=by
 refine ay func126 (by kernel_rfl) (by kernel_rfl) ?_;rintro⟨⟨(l:Bool),(es:List En),(bs:List Br),⟨⟩⟩,⟨⟩⟩ _ ⟨(he:aY es),(hb:aV bs),_⟩ X hX hz;have hT:uX.Ok P Z:=aF.Ok.cons aaV.sum (aF.Ok.cons acW.sum aF.Ok.nil);have hle:=he.1;have hlb:=hb.1;show Safe P 126 X (Ends [cv,bk] (bO l es bs,dq l es bs,())) _;have second:dq l es bs=0->∀(n k:Nat) (s:ByteArray),k+n=bs.length->s.size<=2100000+2002*k->U s=(if l=true then 1 else 2)::(es.flatMap jk++(bs.take k).flatMap jE)->
  Safe P 126 X (Ends [cv,bk] (bO l es bs,dq l es bs,())) (aaW l es bs s (k:Int)):=by
  intro h0 n;have⟨hm,bZ⟩:=jZ.1 h0;have⟨m1,m2,m3,m4⟩:=dD hm
  induction n with
  |zero=>
   intro k s hk hs hu;refine go hz hX hT func126 (ze l es bs s k) ⟨λh=>absurd (of_decide_eq_true h) (by omega),λh=> ?_⟩
   have e:bO l es bs=s:=by
    rw[agN h0];apply mP;show U _=U _;rw[ard m3 m4,hu,take_of_length_le (by omega)]
   rw[e,h0];exact oZ
  |succ n ih=>
   intro k s hk hs hu;have hkl:k<bs.length:=by omega
   have⟨q1,q2,q3⟩:=ala m4 (x:=bs.getD k dB) (by rw[bT hkl];exact getElem_mem _);refine go hz hX hT func126 (ze l es bs s k) ?_;simp only[toNat_natCast,rH,m5,length_cons,length_nil];have d1:Int.tdiv (bs.getD k dB).2.1 256=(bs.getD k dB).2.1 / 256:=Int.tdiv_eq_ediv_of_nonneg (by omega);have d2:Int.tmod (bs.getD k dB).2.1 256=(bs.getD k dB).2.1%256:=Int.tmod_eq_emod_of_nonneg (by omega);refine⟨λh=>⟨by omega,by omega,by omega, ?_,by decide, ?_,by decide, ?_,⟨by omega,by omega⟩, ?_⟩,λh=>absurd (of_decide_eq_false h) (by omega)⟩;show s.size+1+(bs.getD k dB).1.size<=_;omega;show aw (Int.tdiv (bs.getD k dB).2.1 256);rw[d1];exact⟨by omega,by omega⟩;show s.size+1+(bs.getD k dB).1.size+2<=_;omega;refine ih (k+1) _ (by omega) ?_ ?_;simp only[rH,m5,length_cons,length_nil];show s.size+1+(bs.getD k dB).1.size+2<=_;omega;refine(awn s (bs.getD k dB) (by omega) (by omega) (by omega)).trans ?_;rw[hu,zf (d:=dB) jE hkl];simp only[cons_append,append_assoc]
 have first:dq l es bs=0->∀(n k:Nat) (s:ByteArray),k+n=es.length->s.size<=10+2002*k->U s=(if l=true then 1 else 2)::(es.take k).flatMap jk->
  Safe P 126 X (Ends [cv,bk] (bO l es bs,dq l es bs,())) (xb l es bs s (k:Int)):=by
  intro h0 n;have⟨hm,bZ⟩:=jZ.1 h0;have⟨m1,m2,m3,m4⟩:=dD hm
  induction n with
  |zero=>
   intro k s hk hs hu;refine go hz hX hT func126 (zd l es bs s k) ⟨λh=>absurd (of_decide_eq_true h) (by omega),λh=> ?_⟩;exact second h0 bs.length 0 s (by omega) (by omega) (by rw[hu,take_of_length_le (by omega)];simp)
  |succ n ih=>
   intro k s hk hs hu;have hkl:k<es.length:=by omega
   have⟨q1,q2⟩:=aoI m3 (x:=es.getD k dE) (by rw[bT hkl];exact getElem_mem _);refine go hz hX hT func126 (zd l es bs s k) ?_;simp only[toNat_natCast,rH,m5,length_cons,length_nil];refine⟨λh=>⟨by omega,by omega,by omega, ?_, ?_, ?_,⟨by omega,by omega⟩, ?_⟩,λh=>absurd (of_decide_eq_false h) (by omega)⟩;show s.size+1+(es.getD k dE).1.size<=_;omega;show s.size+1+(es.getD k dE).1.size+1<=_;omega;show s.size+1+(es.getD k dE).1.size+1+(es.getD k dE).2.1.size<=_;omega;refine ih (k+1) _ (by omega) ?_ ?_;simp only[rH,m5,length_cons,length_nil];show s.size+1+(es.getD k dE).1.size+1+(es.getD k dE).2.1.size<=_;omega;refine(awm s (es.getD k dE) (by omega) (by omega)).trans ?_;rw[hu,zf (d:=dE) jk hkl];simp only[cons_append]
 refine go hz hX hT func126 (alh l es bs) ⟨λh=> ?_,λh=>⟨he,hb,λh2=> ?_,λh2=> ?_⟩⟩;have h:ch l es bs=false:=by simpa using h
 have e1:bO l es bs=empty:=by simp[bO,wZ,h]
 have e2:dq l es bs=4:=by simp[dq,h]
 rw[e1,e2];exact oZ;have h:ch l es bs=true:=by simpa using h
 have h2:¬bw es bs<=254:=by simpa using h2
 have e1:bO l es bs=empty:=by simp[bO,wZ,h,h2]
 have e2:dq l es bs=40:=by simp[dq,h,h2]
 rw[e1,e2];exact oZ;have h:ch l es bs=true:=by simpa using h
 have h2:bw es bs<=254:=by simpa using h2
 have h0:=jZ.2 ⟨h,h2⟩;refine⟨λhl=> ?_,λhl=> ?_⟩;exact first h0 es.length 0 _ (by omega) (by decide) (by rw[hl];rfl)
 exact first h0 es.length 0 _ (by omega) (by decide) (by rw[hl];rfl)
end Lf
