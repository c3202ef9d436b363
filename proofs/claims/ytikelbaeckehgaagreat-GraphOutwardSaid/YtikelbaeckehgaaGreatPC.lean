/- Lemmas: SxTy, SxOut, SxFn, SxFnR, SxLoop, SxWrap, SxDen, SxWeigh, SxCut, Hd, SxSpec, SxAuto, Lb, SxRange, D0, B0, D3, SxFrz, SxRoom, SxLit, G0, G1, G2, G3, G4, G5, G6, G7, H0, H1, H2, H3, H4, H5, SxGlob, SxWeak, SxTup, SxPan, H6, SxPan2, H7, H8, H9, H10, H11, H12. -/
import Derived.ProofKit
import Derived.Carry
import Derived.OpenShut
import Derived.Deep.DeepHandedRow
import Derived.SizedLaws
import Derived.JoinedOf
import Derived.Test.YtikelbaeckehgaaGreatRows
import Derived.LaidMore
import Derived.Stop.Joined
import Derived.Lib.Bytealg
import Derived.Maps.RangeRun
import Derived.Test.YtikelbaeckehgaaGreatProg
import Derived.Lib.Walk
import Derived.WalkKit
import Derived.Laws.Externs
import Derived.Shelf.SortM.Plain
import Derived.Shelf.SortM.SortNone
import Derived.Ground.SlgmProg
import Derived.Recover
import Derived.Tactics
import Derived.Tactics2
import Derived.Defers
import Derived.Laws.Pointers
import Derived.Test.YtikelbaeckehgaaGreatPB
open Go.Proofs.Tryz
open Go.IntKind (i64 u64 u8)
open Array (getD_eq_getD_getElem? length_toList toList_inj)
open Bool (and_eq_true)
open ByteArray (empty)
open List (all_cons all_eq_true append_assoc append_nil cons_append getElem?_append_left getElem?_eq_getElem getElem?_eq_none getElem?_map getElem?_take getElem_mem length_append length_cons length_drop length_map length_nil length_take map_append map_cons mem_append mem_cons mem_map mem_range range' replicate)
open Nat (add_assoc add_mul add_zero beq_eq le_of_ble_eq_true le_refl le_trans lt_or_ge zero_add zero_le)
open Option (bind_eq_some_iff bind_some getD_some isSome_iff_exists map_eq_some_iff map_some)
noncomputable section
namespace Go.Sx
open Go
inductive RK where
 |ay (k:IntKind)|strs|bM|ab (cs:List CK)
abbrev RK.E:RK->Type
 |.ay _=>Int|.strs=>ByteArray|.bM=>Bool|.ab cs=>CL cs
abbrev RK.V(r:RK):Type:=List r.E
def RK.ta:(r:RK)->r.V->aS
 |.ay k,x=>.ay k x|.strs,x=>.strs x|.bM,x=>.bM x|.ab cs,x=>.ab cs x
def acN(k:IntKind):aS->Option (List Int)
 |.ay k' zs=>bif bP k' k then some zs else none|.bD _ 0 _=>some []|_=>none
def acO:aS->Option (List ByteArray)
 |.strs x=>some x|.bD _ 0 _=>some []|_=>none
def yV:aS->Option (List Bool)
 |.bM x=>some x|.bD _ 0 _=>some []|_=>none
def aiE(cs:List CK):aS->Option (List (CL cs))
 |.ab e9 x=>(CL.eq e9 cs).map λh=>aae h x|.bD _ 0 _=>some []|_=>none
def RK.rd:(r:RK)->aS->Option r.V
 |.ay k,c=>acN k c|.strs,c=>acO c|.bM,c=>yV c|.ab cs,c=>aiE cs c
def CK.flat:CK->Bool
 |.int _|.bool|.str|.arr _ _=>true|_=>false
def RK.flat:RK->Bool
 |.ab cs=>cs.all CK.flat|_=>true
inductive B where
 |int (k:IntKind)|bool|str|row (r:RK) (e:TypeId)|arr (k:IntKind) (n:Nat)|fn|gR (r:RK) (e:TypeId)
abbrev B.V:B->Type
 |.int _=>Int|.bool=>Bool|.str=>ByteArray|.row r _=>r.V|.arr _ _=>List Int|.fn=>FuncId|.gR r _=>r.V
def B.av:(b:B)->b.V->AV
 |.int k,n=>.s (.int k n)|.bool,x=>.s (.bool x)|.str,x=>.s (.str x)|.row r _,x=>.s (.ro (r.ta x))|.arr k n,x=>.ay k n x|.fn,f=>.s (.sM f)|.gR r _,x=>.s (.ro (r.ta x))
def uX(k:IntKind):List AV->Option (List Int)
 |[]=>some []|.s (.int k' n)::aI=>bif bP k' k then(uX k aI).map (n:: ·)else none|_=>none
def aiF(k:IntKind):AV->Option Int
 |.s (.int k' n)=>bif bP k' k then some n else none|_=>none
def acP:AV->Option Bool
 |.s (.bool x)=>some x|_=>none
def aiG:AV->Option ByteArray
 |.s (.str x)=>some x|_=>none
def xL(r:RK):AV->Option r.V
 |.emp=>some []|.s (.ro c)=>r.rd c|_=>none
def aaW(k:IntKind)(n:Nat):AV->Option (List Int)
 |.ay k' n' ws=>bif bP k' k&&n'.beq n then some ws else none|.agg segs=>bif segs.length.beq n then uX k segs else none|_=>none
def aoQ:AV->Option FuncId
 |.s (.sM f)=>some f|_=>none
def B.rd:(b:B)->AV->Option b.V
 |.int k,a=>aiF k a|.bool,a=>acP a|.str,a=>aiG a|.row r _,a=>xL r a|.arr k n,a=>aaW k n a|.fn,a=>aoQ a|.gR r _,a=>xL r a
def B.ok:(b:B)->b.V->Prop
 |.row _ _,x=>x.length<=maxLen|.gR _ _,x=>x.length<=maxLen|.arr _ n,x=>List.length (α:=Int) x=n|_,_=>True
inductive Ty where
 |b (x:B)|st (bs:List B)
abbrev BL:List B->Type
 |[]=>Unit|b::bs=>b.V×BL bs
abbrev Ty.V:Ty->Type
 |.b x=>x.V|.st bs=>BL bs
abbrev AL:List Ty->Type
 |[]=>Unit|t::ts=>t.V×AL ts
def BL.av:(bs:List B)->BL bs->List AV
 |[],_=>[]|b::bs,(x,y)=>b.av x::BL.av bs y
def BL.rd:(bs:List B)->List AV->Option (BL bs)
 |[],[]=>some ()|b::bs,a::aI=>match b.rd a,BL.rd bs aI with
  |some x,some y=>some (x,y)|_,_=>none
 |_,_=>none
def BL.ok:(bs:List B)->BL bs->Prop
 |[],_=>True|b::bs,(x,y)=>b.ok x/\BL.ok bs y
def Ty.av:(t:Ty)->t.V->AV
 |.b x,v=>x.av v|.st bs,v=>.agg (BL.av bs v)
def aoR(bs:List B):AV->Option (BL bs)
 |.agg segs=>BL.rd bs segs|_=>none
def Ty.rd:(t:Ty)->AV->Option t.V
 |.b x,a=>x.rd a|.st bs,a=>aoR bs a
def Ty.ok:(t:Ty)->t.V->Prop
 |.b x,v=>x.ok v|.st bs,v=>BL.ok bs v
def AL.av:(ts:List Ty)->AL ts->List AV
 |[],_=>[]|t::ts,(x,y)=>t.av x::AL.av ts y
def AL.rd:(ts:List Ty)->List AV->Option (AL ts)
 |[],[]=>some ()|t::ts,a::aI=>match t.rd a,AL.rd ts aI with
  |some x,some y=>some (x,y)|_,_=>none
 |_,_=>none
def AL.ok:(ts:List Ty)->AL ts->Prop
 |[],_=>True|t::ts,(x,y)=>t.ok x/\AL.ok ts y
section
variable{g:Nat->Option Nat}{ρ aO:Nat->Value}{H H':aJ}{G O O':Nat->Prop}{w w':World}{P:Program}{S:fa}{Z:aP}{X:Ctx}{s:St}{a:Act}{K:List au->AV->Prop}{C:aR->Prop}
theorem l7{c c':aS}{v:Value}(hn:c'.n=c.n)(hs:c'.size=c.size)(hc:∀i j,i<c.n->j<c.size->c'.cell i j=c.cell i j)(h:aX O w (.ro c) v):aX O w (.ro c') v:=by
 cases h with
 |ro _ a cap us b o h1 h2 h3 h4 h5=>
  rw[<-hn];refine .ro c' a cap us b o (by omega) h2 (λh=>h3 (by omega)) (λi j hi hj=> ?_) (λi j hi hj=> ?_);rw[hs];exact h4 i j (by omega) (by omega);rw[hc i j (by omega) (by omega)];exact h5 i j (by omega) (by omega)
theorem RK.lD{r:RK}{c:aS}{x:r.V}(h:r.rd c=some x){v:Value}(hd:aX O w (.ro c) v):aX O w (.ro (r.ta x)) v:=by
 cases r
 case ay k=>
  change acN k c=some x at h;unfold acN at h;split at h;rw[Bool.cond_eq_ite]at h;split at h;rename_i hk;obtain rfl:=bf hk;simp only[Option.some.injEq]at h;subst h;exact hd;cases h;cases h;exact fE (by rfl) (by rfl) hd;cases h
 case ab cs=>
  change aiE cs c=some x at h;unfold aiE at h;split at h;have⟨⟨e⟩,_,h2⟩:=map_eq_some_iff.1 h;subst e;rw[xp]at h2;subst h2;exact hd;cases h;exact fE (by rfl) (by rfl) hd;cases h
 case strs=>change acO c=some x at h;unfold acO at h;split at h<;>cases h;exact hd;exact fE (by rfl) (by rfl) hd
 case bM=>change yV c=some x at h;unfold yV at h;split at h<;>cases h;exact hd;exact fE (by rfl) (by rfl) hd
theorem ad8{r:RK}{v:Value}(h:∃a,v=.slice a 0 0):aX O w (.ro (r.ta [])) v:=by
 obtain⟨a,rfl⟩:=h;have hn:(r.ta []).n=0:=by cases r<;>rfl
 have:=aX.ro (O:=O) (w:=w) (r.ta []) a 0 (λ_ _=>undef) 0 0 (by omega) (zero_le _) (λh=>by omega) (λi j hi hj=>by omega) (λi j hi hj=>by omega);rwa[hn]at this
theorem xM{k:IntKind}:∀{aI:List AV} {zs:List Int} {cs:List Value},uX k aI=some zs->aA ρ H O w aI cs->zs.length=aI.length/\cs=zs.map (Value.int k)
 |[],zs,cs,h,hd=>by simp only[uX,Option.some.injEq]at h;subst h;exact⟨rfl,aB.1 hd⟩
 |a::aI,zs,cs,h,hd=>by
  unfold uX at h;split at h;rename_i heq;cases heq;rename_i k' n dB heq;simp only[List.cons.injEq]at heq;obtain⟨rfl,rfl⟩:=heq;rw[Bool.cond_eq_ite]at h;split at h;rename_i hk;obtain rfl:=bf hk;simp only[map_eq_some_iff]at h;obtain⟨zs',h1,rfl⟩:=h;obtain⟨c1,c2,rfl,h2,h3⟩:=ah.1 hd;obtain⟨h4,rfl⟩:=xM h1 h3;unfold aN at h2;obtain⟨u,rfl,h5⟩:=h2;cases h5;exact⟨by simp[h4],rfl⟩;cases h;cases h
theorem aaX{k:IntKind}{a:AV}{n:Int}(h:aiF k a=some n):a=.s (.int k n):=by
 unfold aiF at h;split at h;rw[Bool.cond_eq_ite]at h;split at h;rename_i hk;obtain rfl:=bf hk;cases h;rfl;cases h;cases h
theorem xN{a:AV}{x:Bool}(h:acP a=some x):a=.s (.bool x):=by
 unfold acP at h;split at h<;>cases h;rfl
theorem aaY{a:AV}{x:ByteArray}(h:aiG a=some x):a=.s (.str x):=by
 unfold aiG at h;split at h<;>cases h;rfl
theorem ad9{a:AV}{x:FuncId}(h:aoQ a=some x):a=.s (.sM x):=by
 unfold aoQ at h;split at h<;>cases h;rfl
theorem aea{r:RK}{a:AV}{x:r.V}{v:Value}(h:xL r a=some x)(hd:ae ρ H O w a v):ae aO H' O w (.s (.ro (r.ta x))) v:=by
 unfold xL at h;split at h;cases h;unfold ae at hd;exact aC (ad8 hd);exact aC (RK.lD h (aw (by simp) hd));cases h
theorem aeb{r:RK}{a:AV}{x:r.V}{cs:List Value}(h:xL r a=some x)(hd:aN ρ H O w a cs):aN aO H' O w (.s (.ro (r.ta x))) cs:=by
 unfold xL at h;split at h;cases h;unfold aN at *;obtain⟨u,rfl,h1⟩:=hd;exact⟨u,rfl,ad8 h1⟩;unfold aN at *;obtain⟨u,rfl,h1⟩:=hd;exact⟨u,rfl,RK.lD h h1⟩;cases h
theorem B.rdV{b:B}{a:AV}{x:b.V}{v:Value}(h:b.rd a=some x)(hd:ae ρ H O w a v):ae aO H' O w (b.av x) v:=by
 cases b with
 |int k=>rw[aaX h]at hd;exact aC (aw (by simp) hd)
 |bool=>rw[xN h]at hd;exact aC (aw (by simp) hd)
 |str=>rw[aaY h]at hd;exact aC (aw (by simp) hd)
 |fn=>rw[ad9 h]at hd;exact aC (aw (by simp) hd)
 |row r e=>exact aea h hd|gR r e=>exact aea h hd|arr k n=>
  change aaW k n a=some x at h;unfold aaW at h;split at h;rw[Bool.cond_eq_ite]at h;split at h;rename_i hk;simp only[and_eq_true]at hk;obtain rfl:=bf hk.1;obtain rfl:=Nat.eq_of_beq_eq_true hk.2;cases h;unfold ae at *;exact hd;cases h;rw[Bool.cond_eq_ite]at h;split at h;rename_i segs hk;unfold ae at hd;obtain⟨cs,rfl,h2⟩:=hd;obtain⟨h3,rfl⟩:=xM h h2;show ae aO H' O w (.ay k n x) _;unfold ae;exact⟨by rw[h3];exact Nat.eq_of_beq_eq_true hk,rfl⟩;cases h;cases h
theorem B.rdC{b:B}{a:AV}{x:b.V}{cs:List Value}(h:b.rd a=some x)(hd:aN ρ H O w a cs):aN aO H' O w (b.av x) cs:=by
 cases b with
 |int k=>rw[aaX h]at hd;unfold aN at hd;show aN _ _ _ _ (.s (.int k x)) _;unfold aN;exact hd|bool=>rw[xN h]at hd;unfold aN at hd;show aN _ _ _ _ (.s (.bool x)) _;unfold aN;exact hd|str=>rw[aaY h]at hd;unfold aN at hd;show aN _ _ _ _ (.s (.str x)) _;unfold aN;exact hd|fn=>rw[ad9 h]at hd;unfold aN at hd;show aN _ _ _ _ (.s (.sM x)) _;unfold aN;exact hd|row r e=>exact aeb h hd|gR r e=>exact aeb h hd|arr k n=>
  change aaW k n a=some x at h;unfold aaW at h;split at h;rw[Bool.cond_eq_ite]at h;split at h;rename_i hk;simp only[and_eq_true]at hk;obtain rfl:=bf hk.1;obtain rfl:=Nat.eq_of_beq_eq_true hk.2;cases h;show aN _ _ _ _ (.ay _ _ _) _;unfold aN at *;exact hd;cases h;unfold aN at hd;exact hd.elim;cases h
theorem BL.lD:∀{bs:List B} {segs:List AV} {x:BL bs} {cs:List Value},BL.rd bs segs=some x->aA ρ H O w segs cs->aA aO H' O w (BL.av bs x) cs
 |[],[],x,cs,h,hd=>by rw[aB.1 hd];exact aB.2 rfl
 |[],a::aI,x,cs,h,hd=>by simp[BL.rd]at h
 |b::bs,[],x,cs,h,hd=>by simp[BL.rd]at h
 |b::bs,a::aI,x,cs,h,hd=>by
  unfold BL.rd at h;split at h;rename_i y z h1 h2;cases h;obtain⟨c1,c2,rfl,h3,h4⟩:=ah.1 hd;exact ah.2 ⟨c1,c2,rfl,B.rdC h1 h3,BL.lD h2 h4⟩;cases h
theorem Ty.lD{t:Ty}{a:AV}{x:t.V}{v:Value}(h:t.rd a=some x)(hd:ae ρ H O w a v):ae aO H' O w (t.av x) v:=by
 cases t with
 |b y=>exact B.rdV h hd|st bs=>
  change aoR bs a=some x at h;unfold aoR at h;split at h;show ae _ _ _ _ (.agg _) _;unfold ae at *;have⟨cs,h1,h2⟩:=hd;exact⟨cs,h1,BL.lD h h2⟩;cases h
theorem AL.lD:∀{ts:List Ty} {aI:List AV} {x:AL ts} {vs:List Value},AL.rd ts aI=some x->bH ρ H O w aI vs->bH aO H' O w (AL.av ts x) vs
 |[],[],x,vs,h,hd=>by rw[bc.1 hd];exact bc.2 rfl
 |[],a::aI,x,vs,h,hd=>by simp[AL.rd]at h
 |t::ts,[],x,vs,h,hd=>by simp[AL.rd]at h
 |t::ts,a::aI,x,vs,h,hd=>by
  unfold AL.rd at h;split at h;rename_i y z h1 h2;cases h;obtain⟨v,rest,rfl,h3,h4⟩:=aG.1 hd;exact aG.2 ⟨v,rest,rfl,Ty.lD h1 h3,AL.lD h2 h4⟩;cases h
theorem tc{r:RK}{x:r.V}{v:Value}(h:aX O w (.ro (r.ta x)) v):List.length x<=maxLen:=by
 generalize hc:r.ta x=c at h;cases h with
 |ro _ a cap us bb o h1 h2 _ _ _=>
  have:(r.ta x).n=x.length:=by cases r<;>rfl
  rw[<-hc]at h1;omega
theorem B.okV{b:B}{x:b.V}{v:Value}(hd:ae ρ H O w (b.av x) v):b.ok x:=by
 cases b with
 |row r e=>exact tc (aw (by simp) hd)
 |gR r e=>exact tc (aw (by simp) hd)
 |arr k n=>change ae ρ H O w (.ay k n x) v at hd;unfold ae at hd;exact hd.1|_=>trivial
theorem B.okC{b:B}{x:b.V}{cs:List Value}(hd:aN ρ H O w (b.av x) cs):b.ok x:=by
 cases b with
 |row r e=>
  change aN ρ H O w (.s (.ro (r.ta x))) cs at hd;unfold aN at hd;have⟨u,_,h⟩:=hd;exact tc h
 |gR r e=>
  change aN ρ H O w (.s (.ro (r.ta x))) cs at hd;unfold aN at hd;have⟨u,_,h⟩:=hd;exact tc h
 |arr k n=>change aN ρ H O w (.ay k n x) cs at hd;unfold aN at hd;exact hd.1|_=>trivial
theorem BL.okS:∀{bs:List B} {x:BL bs} {cs:List Value},aA ρ H O w (BL.av bs x) cs->BL.ok bs x
 |[],x,cs,h=>trivial|b::bs,(x,y),cs,h=>by
  obtain⟨c1,c2,rfl,h3,h4⟩:=ah.1 h;exact⟨B.okC h3,BL.okS h4⟩
theorem Ty.okV{t:Ty}{x:t.V}{v:Value}(hd:ae ρ H O w (t.av x) v):t.ok x:=by
 cases t with
 |b y=>exact B.okV hd|st bs=>
  change ae ρ H O w (.agg (BL.av bs x)) v at hd;unfold ae at hd;have⟨cs,_,h⟩:=hd;exact BL.okS h
theorem AL.okL:∀{ts:List Ty} {x:AL ts} {vs:List Value},bH ρ H O w (AL.av ts x) vs->AL.ok ts x
 |[],x,vs,h=>trivial|t::ts,(x,y),vs,h=>by
  obtain⟨v,rest,rfl,h3,h4⟩:=aG.1 h;exact⟨Ty.okV h3,AL.okL h4⟩
end
def l8(ces:List (Bool×aS×TypeId))(L:List au)(a:AV):AV×List au×List (Bool×aS×TypeId):=
 match a with
 |.emp=>match ces with
  |(ro,c,e)::r=>bif c.n.beq 0 then(bif ro then(.s (.ro c),L,r)else(.vec L.length,L++[.vec c e],r))else(.emp,L,r)|[]=>(.emp,L,[])
 |.vec id=>match ces with
  |(true,_,_)::r=>(match L[id]? with
   |some (.vec c _)=>(.s (.ro c),L.set id .aW,r)|_=>(.vec id,L,r))
  |_=>(.vec id,L,ces.tail)
 |.s (.ro c)=>(.s (.ro c),L,ces.tail)|.part id lo n=>(match L[id]? with
  |some (.vec c e)=>(.vec L.length,L.set id .aW++[.vec (c6 c lo (lo+n)) e],ces.tail)|_=>(.part id lo n,L,ces.tail))
 |a=>(a,L,ces)
def rL(f:List (Bool×aS×TypeId)->List au->AV->AV×List au×List (Bool×aS×TypeId)):List (Bool×aS×TypeId)->List au->List AV->List AV×List au×List (Bool×aS×TypeId)
 |ces,L,[]=>([],L,ces)|ces,L,a::aI=>let p:=f ces L a;let q:=rL f p.2.2 p.2.1 aI;(p.1::q.1,q.2.1,q.2.2)
def p9(ces:List (Bool×aS×TypeId))(L:List au)(a:AV):AV×List au×List (Bool×aS×TypeId):=
 match a with
 |.agg segs=>let q:=rL l8 ces L segs;(.agg q.1,q.2.1,q.2.2)|a=>l8 ces L a
def acQ(ces:List (Bool×aS×TypeId))(L:List au)(a:AV):AV×List au:=
 match a with
 |.bO vs=>let q:=rL p9 ces L vs;(.bO q.1,q.2.1)|a=>let q:=p9 ces L a;(q.1,q.2.1)
def al3(ces:List (Bool×aS×TypeId))(L:List au)(r:AV):Option (List au×AV):=
 let p:=acQ ces L r;let σ:=reach p.2 4000 (ad6 20 p.1) []
 bif rJ σ then
  match pW σ p.2,rn (idx σ) 20 p.1 with
  |some L',some r'=>some (L',r')|_,_=>none
 else none
section
variable{g:Nat->Option Nat}{ρ aO:Nat->Value}{H H':aJ}{G O O':Nat->Prop}{w w':World}{P:Program}{S:fa}{Z:aP}{X:Ctx}{s:St}{a:Act}{K:List au->AV->Prop}{C:aR->Prop}{L:List au}
abbrev lk(L:List au):aJ:=λi=>L[i]?
abbrev stp(ρ:Nat->Value)(L:List au)(G:Nat->Prop)(w:World)(aO:Nat->Value)(L':List au):Prop:=Step ρ (lk L) (aV ρ (lk L) G) w aO (lk L') (aV aO (lk L') G) w
theorem ext1(hs:Sat ρ (lk L) G w){c:aS}(hc:c.n=0)(e:TypeId)(r:Option Addr):∃aO,Sat aO (lk (L++[.vec c e])) G w/\stp ρ L G w aO (L++[.vec c e])/\∀O,aH aO (lk (L++[.vec c e])) O w (.vec L.length) (.slice r 0 0):=by
 have ko:eD (.slice r 0 0)=none:=by cases r<;>simp[eD]
 let aO:Nat->Value:=λj=>if j=L.length then .slice r 0 0 else ρ j
 have st:stp ρ L G w aO (L++[.vec c e]):=Step.alloc ko
 have old:∀{id:Nat} {o:au},(L++[.vec c e])[id]? =some o->(id=L.length/\o=.vec c e)\/(id≠L.length/\L[id]? =some o):=by
  intro id o ho;have h2:=(List.getElem?_eq_some_iff.1 ho).1;simp only[length_append,length_cons,length_nil]at h2;by_cases dU:id=L.length;subst dU;simp at ho;exact .inl ⟨rfl,ho.symm⟩;refine .inr ⟨dU, ?_⟩;rwa[getElem?_append_left (by omega)]at ho
 have dD:∀b,Own aO (lk (L++[.vec c e])) b->Own ρ (lk L) b:=by
  rintro b ⟨id,o,ho,ha,hb⟩;rcases old ho with⟨h1,h2⟩|⟨h1,h2⟩;simp only[aO,h1,if_true]at hb;rw[ko]at hb;cases hb;simp only[aO,h1,if_false]at hb;exact⟨id,o,h2,ha,hb⟩
 refine⟨aO,⟨λid o ho=> ?_,λi j oi oj b hi hj ai aj bi bj=> ?_,λb hb=>hs.apart b (dD b hb),hs.low⟩,st,λO=> ?_⟩;rcases old ho with⟨h1,h2⟩|⟨h1,h2⟩;subst h2;simp only[aO,h1,if_true];exact⟨r,0,by rw[hc],by omega,zero_le _,.inl rfl⟩;simp only[aO,h1,if_false];exact(hs.obj id o h2).step st (λ_ _ _=>rfl);rcases old hi with⟨h1,h2⟩|⟨h1,h2⟩;simp only[aO,h1,if_true]at bi;rw[ko]at bi;cases bi;rcases old hj with⟨h3,h4⟩|⟨h3,h4⟩;simp only[aO,h3,if_true]at bj;rw[ko]at bj;cases bj;simp only[aO,h1,if_false]at bi;simp only[aO,h3,if_false]at bj;exact hs.inj i j oi oj b h2 h4 ai aj bi bj;unfold aH;exact⟨rfl,.vec c e,by simp[lk],λc' e' _=>(if_pos rfl).symm⟩
theorem aiH{c:aS}(hc:c.n=0)(r:Option Addr):aX O w (.ro c) (.slice r 0 0):=by
 have:=aX.ro (O:=O) (w:=w) c r 0 (λ_ _=>undef) 0 0 (by omega) (zero_le _) (λh=>by omega) (λi j hi hj=>by omega) (λi j hi hj=>by omega);rwa[hc]at this
theorem al4(hs:Sat ρ (lk L) G w){id:Nat}{c:aS}{e:TypeId}(dU:L[id]? =some (.vec c e)):
 Sat ρ (lk (L.set id .aW)) G w/\stp ρ L G w ρ (L.set id .aW)/\aX (aV ρ (lk (L.set id .aW)) G) w (.ro c) (ρ id):=by
 have a8:id<L.length:=(List.getElem?_eq_some_iff.1 dU).1
 have old:∀{k:Nat} {o:au},(L.set id .aW)[k]? =some o->(k=id/\o=.aW)\/(k≠id/\L[k]? =some o):=by
  intro k o ho;rw[List.getElem?_set]at ho;split at ho;rename_i hk
  first
   |exact .inl ⟨hk.symm,by simpa using ho.symm⟩
   |(rw[if_pos a8]at ho;exact .inl ⟨hk.symm,by simpa using ho.symm⟩)
  rename_i hk;exact .inr ⟨Ne.symm hk,ho⟩
 have dD:∀b,Own ρ (lk (L.set id .aW)) b->Own ρ (lk L) b/\eD (ρ id)≠some b:=by
  rintro b ⟨k,o,ho,ha,hb⟩;rcases old ho with⟨_,rfl⟩|⟨h1,h2⟩;cases ha;refine⟨⟨k,o,h2,ha,hb⟩,λhb2=>h1 (hs.inj k id o _ b h2 dU ha rfl hb hb2)⟩
 have st:stp ρ L G w ρ (L.set id .aW):=by
  refine⟨λ_ _ _=>rfl,λk o ho=> ?_,λb hb=>.inl ?_,λ_ _ _=>rfl,le_refl _⟩;by_cases hk:k=id;subst hk;exact⟨.aW,by show(L.set k .aW)[k]? =_;rw[List.getElem?_set_self a8],λc' e' hc=>by cases hc⟩;exact⟨o,by show(L.set id .aW)[k]? =_;rw[List.getElem?_set_ne (Ne.symm hk)];exact ho,λc' e' hc=>⟨c',e',hc,rfl,rfl⟩⟩;rcases hb with hb|hb;exact .inl (dD b hb).1;exact .inr hb
 refine⟨⟨λk o ho=> ?_,λi j oi oj b hi hj ai aj bi bj=> ?_,λb hb=>hs.apart b (dD b hb).1,hs.low⟩,st, ?_⟩;rcases old ho with⟨_,rfl⟩|⟨h1,h2⟩;trivial;exact(hs.obj k o h2).step st (λ_ _ _=>rfl);rcases old hi with⟨_,rfl⟩|⟨h1,h2⟩;cases ai;rcases old hj with⟨_,rfl⟩|⟨h3,h4⟩;cases aj;exact hs.inj i j oi oj b h2 h4 ai aj bi bj;have⟨r,cap,h0,h1,h2,h3⟩:=hs.obj id _ dU;rcases h3 with h3|⟨b,f,cells,fr,us,rfl,h5,h6,h7,h8⟩;rw[h0];have hc:c.n=0:=by omega
 exact .ro c r cap (λ_ _=>undef) 0 0 h1 h2 (λh=>by omega) (λi j hi hj=>by omega) (λi j hi hj=>by omega);by_cases ug:cap=0;rw[h0];exact .ro c _ cap (λ_ _=>undef) 0 0 h1 h2 (λh=>by omega) (λi j hi hj=>by omega) (λi j hi hj=>by omega);have ko:eD (ρ id)=some b:=by rw[h0];simp[eD,ug]
 have xO:¬aV ρ (lk (L.set id .aW)) G b:=by
  rintro(hb|hb);exact(dD b hb).2 ko;exact hs.apart b ⟨id,_,dU,rfl,ko⟩ hb
 rw[h0];refine .ro c _ cap us b f h1 h2 (λ_=>⟨rfl,xO,(Array.getElem?_eq_some_iff.1 h5).1⟩) (λi j hi hj=> ?_) (λi j hi hj=>(h8 i j hi hj).2.less (λb hb=> ?_));have:=(h8 i j hi hj).1;simp only[World.cell?,h5];simpa using this;rcases hb with hb|hb;exact .inl (dD b hb).1;exact .inr hb
theorem yW(hs:Sat ρ (lk L) G w){id lo n:Nat}{c:aS}{e:TypeId}{v:Value}(dU:L[id]? =some (.vec c e))(hv:ae ρ (lk L) (aV ρ (lk L) G) w (.part id lo n) v):
 ∃aO,Sat aO (lk (L.set id .aW++[.vec (c6 c lo (lo+n)) e])) G w/\stp ρ L G w aO (L.set id .aW++[.vec (c6 c lo (lo+n)) e])/\∀O,aH aO (lk (L.set id .aW++[.vec (c6 c lo (lo+n)) e])) O w (.vec L.length) v:=by
 obtain⟨g0,a,cap,a',g1,g2,g3,rfl,g4,g5⟩:=iU hs dU hv;have a8:id<L.length:=(List.getElem?_eq_some_iff.1 dU).1;generalize hx:au.vec (c6 c lo (lo+n)) e=x;have hxa:x.alive=true:=by rw[<-hx];rfl
 have old:∀{k:Nat} {o:au},(L.set id .aW++[x])[k]? =some o->(k=L.length/\o=x)\/(k=id/\o=.aW)\/(k≠id/\k≠L.length/\L[k]? =some o):=by
  intro k o ho;have h2:=(List.getElem?_eq_some_iff.1 ho).1;simp only[length_append,List.length_set,length_cons,length_nil]at h2;by_cases hk:k=L.length;subst hk;rw[List.getElem?_append_right (by simp)]at ho;simp at ho;exact .inl ⟨rfl,ho.symm⟩;rw[getElem?_append_left (by simp;omega),List.getElem?_set]at ho;split at ho;rename_i hk2
  first
   |exact .inr (.inl ⟨hk2.symm,by simpa using ho.symm⟩)
   |(rw[if_pos a8]at ho;exact .inr (.inl ⟨hk2.symm,by simpa using ho.symm⟩))
  rename_i hk2;exact .inr (.inr ⟨Ne.symm hk2,hk,ho⟩)
 have new:∀{k:Nat} {o:au},L[k]? =some o->k≠id->(L.set id .aW++[x])[k]? =some o:=by
  intro k o ho hk;have h1:=(List.getElem?_eq_some_iff.1 ho).1;rw[getElem?_append_left (by simpa using h1),List.getElem?_set_ne (Ne.symm hk)];exact ho
 have arc:(L.set id .aW++[x])[id]? =some .aW:=by
  rw[getElem?_append_left (by simpa using a8),List.getElem?_set_self a8]
 have atW:(L.set id .aW++[x])[L.length]? =some x:=by
  rw[List.getElem?_append_right (by simp)];simp
 have uk:∀b,eD (.slice a' n (cap - lo))=some b->eD (ρ id)=some b:=by
  intro b hb;cases a' with
  |none=>simp[eD]at hb|some y=>
   simp only[eD]at hb;split at hb;cases hb;rename_i cG;obtain⟨b',o,rfl⟩:=g5 (by omega);have:=g4 (by omega);simp only[map_some,a7,Option.some.injEq]at this hb;subst this;rw[g1];simp only[eD];rw[if_neg (by omega)];exact congrArg some hb
 let aO:Nat->Value:=λj=>if j=L.length then .slice a' n (cap - lo)else ρ j
 have dD:∀b,Own aO (lk (L.set id .aW++[x])) b->Own ρ (lk L) b:=by
  rintro b ⟨k,o,ho,ha,hb⟩;rcases old ho with⟨h1,h2⟩|⟨h1,h2⟩|⟨h1,h2,h3⟩;simp only[aO,h1,if_true]at hb;exact⟨id,_,dU,rfl,uk b hb⟩;subst h2;cases ha;simp only[aO,h2,if_false]at hb;exact⟨k,o,h3,ha,hb⟩
 have st:stp ρ L G w aO (L.set id .aW++[x]):=by
  refine⟨λk o ho=> ?_,λk o ho=> ?_,λb hb=>.inl ?_,λ_ _ _=>rfl,le_refl _⟩;have h1:k<L.length:=(List.getElem?_eq_some_iff.1 ho).1;simp only[aO];rw[if_neg (by omega)];by_cases hk:k=id;subst hk;exact⟨.aW,arc,λc' e' hc=>by cases hc⟩;exact⟨o,new ho hk,λc' e' hc=>⟨c',e',hc,rfl,rfl⟩⟩;rcases hb with hb|hb;exact .inl (dD b hb);exact .inr hb
 refine⟨aO,⟨λk o ho=> ?_,λi j oi oj b hi hj ai aj bi bj=> ?_,λb hb=>hs.apart b (dD b hb),hs.low⟩,st,λO=> ?_⟩;rcases old ho with⟨h1,h2⟩|⟨h1,h2⟩|⟨h1,h2,h3⟩;rw[h2];have po:=st;simp only[aO,h1,if_true];rw[<-hx]at po ⊢;have hn:(c6 c lo (lo+n)).n=n:=by rw[ny c (by omega) g0];omega
 have cn:=jq c lo (lo+n);refine⟨a',cap - lo,by rw[hn],by rw[hn];omega,by omega, ?_⟩;have⟨a2,uf,k1,k2,k3,k4⟩:=hs.obj id _ dU;rw[g1]at k1;cases k1;by_cases hc:cap=lo;exact .inl (by omega);rcases k4 with k4|⟨b,o,cells,fr,us,rfl,h5,h6,h7,h8⟩;omega;refine .inr ⟨b,o+lo*c.size,cells,fr,λi j=>us (lo+i) j,by rw[g4 hc];simp[a7],h5,h6, ?_,λi j hi hj=> ?_⟩;rw[cn];have:lo*c.size+(cap - lo)*c.size=cap*c.size:=by rw[<-add_mul];congr 1;omega
 omega;rw[hn]at hi;rw[cn]at hj ⊢;have⟨h9,iz⟩:=h8 (lo+i) j (by omega) hj;refine⟨?_,by rw[jr c j (by omega)];exact iz.step po.ft po.heap po.size⟩;rw[show o+lo*c.size+i*c.size+j=o+(lo+i)*c.size+j from by rw[add_mul];omega];exact h9;subst h2;trivial;simp only[aO,h2,if_false];exact(hs.obj k o h3).step st (λ_ _ _=>rfl)
 have cls:∀{k:Nat} {o:au},(L.set id .aW++[x])[k]? =some o->o.alive=true->eD (aO k)=some b->(k=L.length/\eD (ρ id)=some b)\/(k≠id/\k≠L.length/\L[k]? =some o/\eD (ρ k)=some b):=by
  intro k o ho ha hb;rcases old ho with⟨h1,h2⟩|⟨h1,h2⟩|⟨h1,h2,h3⟩;simp only[aO,h1,if_true]at hb;exact .inl ⟨h1,uk b hb⟩;subst h2;cases ha;simp only[aO,h2,if_false]at hb;exact .inr ⟨h1,h2,h3,hb⟩
 rcases cls hi ai bi with⟨h1,h2⟩|⟨h1,h2,h3,h4⟩<;>rcases cls hj aj bj with⟨k1,k2⟩|⟨k1,k2,k3,k4⟩;rw[h1,k1];exact absurd (hs.inj j id oj _ b k3 dU aj rfl k4 h2) k1;exact absurd (hs.inj i id oi _ b h3 dU ai rfl h4 k2) h1;exact hs.inj i j oi oj b h3 k3 ai aj h4 k4;unfold aH;refine⟨rfl,x,atW,λc' e' _=> ?_⟩;simp only[aO,if_true]
theorem aec{ces:List (Bool×aS×TypeId)}{a:AV}(hs:Sat ρ (lk L) G w):
 (∀v,ae ρ (lk L) (aV ρ (lk L) G) w a v→∃aO,Sat aO (lk (l8 ces L a).2.1) G w∧stp ρ L G w aO (l8 ces L a).2.1∧ae aO (lk (l8 ces L a).2.1) (aV aO (lk (l8 ces L a).2.1) G) w (l8 ces L a).1 v)∧
 (∀cs,aN ρ (lk L) (aV ρ (lk L) G) w a cs→∃aO,Sat aO (lk (l8 ces L a).2.1) G w∧stp ρ L G w aO (l8 ces L a).2.1∧aN aO (lk (l8 ces L a).2.1) (aV aO (lk (l8 ces L a).2.1) G) w (l8 ces L a).1 cs):=by
 have same:∀a,(∀v,ae ρ (lk L) (aV ρ (lk L) G) w a v→∃aO,Sat aO (lk L) G w∧stp ρ L G w aO L∧ae aO (lk L) (aV aO (lk L) G) w a v)∧(∀cs,aN ρ (lk L) (aV ρ (lk L) G) w a cs→∃aO,Sat aO (lk L) G w∧stp ρ L G w aO L∧aN aO (lk L) (aV aO (lk L) G) w a cs):=
  fun a=>⟨fun v h=>⟨ρ,hs,Step.refl _ _ _ _,h⟩,fun cs h=>⟨ρ,hs,Step.refl _ _ _ _,h⟩⟩
 unfold l8;split;split;rename_i ro c e r;cases hc:c.n.beq 0;exact same _;have hc:=Nat.eq_of_beq_eq_true hc;cases ro;refine⟨fun v h=> ?_,fun cs h=> ?_⟩;unfold ae at h;obtain⟨x,rfl⟩:=h;obtain⟨aO,h1,h2,h3⟩:=ext1 hs hc e x;exact⟨aO,h1,h2,by simp only[cond_true,cond_false];unfold ae;exact h3 _⟩;unfold aN at h;obtain⟨u,rfl,x,rfl⟩:=h;obtain⟨aO,h1,h2,h3⟩:=ext1 hs hc e x;exact⟨aO,h1,h2,by simp only[cond_true,cond_false];unfold aN;exact⟨_,rfl,h3 _⟩⟩;refine⟨fun v h=> ?_,fun cs h=> ?_⟩;unfold ae at h;obtain⟨x,rfl⟩:=h;exact⟨ρ,hs,Step.refl _ _ _ _,aC (aiH hc x)⟩;unfold aN at h;obtain⟨u,rfl,x,rfl⟩:=h;exact⟨ρ,hs,Step.refl _ _ _ _,by simp only[cond_true];unfold aN;exact⟨_,rfl,aiH hc x⟩⟩;exact same _;rename_i id;split;split;rename_i c e dU;obtain⟨f1,f2,f3⟩:=al4 hs dU
 have key:∀v,aH ρ (lk L) (aV ρ (lk L) G) w (.vec id) v→v=ρ id:=by
  intro v hv;unfold aH at hv;obtain⟨_,o,ho,h4⟩:=hv;rw[show lk L id=some (.vec c e)from dU]at ho;cases ho;exact h4 c e rfl
 refine⟨fun v h=>⟨ρ,f1,f2, ?_⟩,fun cs h=>⟨ρ,f1,f2, ?_⟩⟩;unfold ae at h;rw[key v h];exact aC f3;unfold aN at h;obtain⟨u,rfl,h5⟩:=h;unfold aN;exact⟨u,rfl,by rw[key u h5];exact f3⟩;exact same _;exact same _;exact same _;rename_i id lo n;split;rename_i c e dU;refine⟨fun v h=> ?_,fun cs h=> ?_⟩;obtain⟨aO,h1,h2,h3⟩:=yW hs dU h;exact⟨aO,h1,h2,by unfold ae;exact h3 _⟩;unfold aN at h;obtain⟨u,rfl,h5⟩:=h;obtain⟨aO,h1,h2,h3⟩:=yW hs dU (by unfold ae;exact h5);exact⟨aO,h1,h2,by unfold aN;exact⟨u,rfl,h3 _⟩⟩;exact same _;exact same _
theorem uY:∀(aI:List AV) {ces:List (Bool×aS×TypeId)} {L:List au} {ρ:Nat->Value} {cs:List Value},Sat ρ (lk L) G w->aA ρ (lk L) (aV ρ (lk L) G) w aI cs->
 ∃aO,Sat aO (lk (rL l8 ces L aI).2.1) G w/\stp ρ L G w aO (rL l8 ces L aI).2.1/\aA aO (lk (rL l8 ces L aI).2.1) (aV aO (lk (rL l8 ces L aI).2.1) G) w (rL l8 ces L aI).1 cs
 |[],ces,L,ρ,cs,hs,hd=>⟨ρ,hs,Step.refl _ _ _ _,hd⟩|a::aI,ces,L,ρ,cs,hs,hd=>by
  obtain⟨c1,c2,rfl,h1,h2⟩:=ah.1 hd;have⟨gB,h3,h4,h5⟩:=(aec (ces:=ces) hs).2 c1 h1;have⟨eB,h6,h7,h8⟩:=uY aI (ces:=(l8 ces L a).2.2) h3 (aA.step h4 aI c2 h2);exact⟨eB,h6,h4.trans h7,ah.2 ⟨c1,c2,rfl,aN.step h7 _ _ h5,h8⟩⟩
theorem aed{ces:List (Bool×aS×TypeId)}{a:AV}{v:Value}(hs:Sat ρ (lk L) G w)(hd:ae ρ (lk L) (aV ρ (lk L) G) w a v):
 ∃aO,Sat aO (lk (p9 ces L a).2.1) G w/\stp ρ L G w aO (p9 ces L a).2.1/\ae aO (lk (p9 ces L a).2.1) (aV aO (lk (p9 ces L a).2.1) G) w (p9 ces L a).1 v:=by
 unfold p9;split;rename_i segs;unfold ae at hd;have⟨cs,h1,h2⟩:=hd;have⟨aO,h3,h4,h5⟩:=uY segs (ces:=ces) hs h2;exact⟨aO,h3,h4,by unfold ae;exact⟨cs,h1,h5⟩⟩;exact(aec hs).1 v hd
theorem uZ:∀(aI:List AV) {ces:List (Bool×aS×TypeId)} {L:List au} {ρ:Nat->Value} {vs:List Value},Sat ρ (lk L) G w->bH ρ (lk L) (aV ρ (lk L) G) w aI vs->
 ∃aO,Sat aO (lk (rL p9 ces L aI).2.1) G w/\stp ρ L G w aO (rL p9 ces L aI).2.1/\bH aO (lk (rL p9 ces L aI).2.1) (aV aO (lk (rL p9 ces L aI).2.1) G) w (rL p9 ces L aI).1 vs
 |[],ces,L,ρ,cs,hs,hd=>⟨ρ,hs,Step.refl _ _ _ _,hd⟩|a::aI,ces,L,ρ,cs,hs,hd=>by
  obtain⟨v,rest,rfl,h1,h2⟩:=aG.1 hd;have⟨gB,h3,h4,h5⟩:=aed (ces:=ces) hs h1;have⟨eB,h6,h7,h8⟩:=uZ aI (ces:=(p9 ces L a).2.2) h3 (bH.step h4 aI rest h2);exact⟨eB,h6,h4.trans h7,aG.2 ⟨v,rest,rfl,ae.step h7 _ _ h5,h8⟩⟩
theorem al5{ces:List (Bool×aS×TypeId)}{a:AV}{v:Value}(hs:Sat ρ (lk L) G w)(hd:ae ρ (lk L) (aV ρ (lk L) G) w a v):
 ∃aO,Sat aO (lk (acQ ces L a).2) G w/\stp ρ L G w aO (acQ ces L a).2/\ae aO (lk (acQ ces L a).2) (aV aO (lk (acQ ces L a).2) G) w (acQ ces L a).1 v:=by
 unfold acQ;split;rename_i vs;unfold ae at hd;have⟨us,h1,h2⟩:=hd;have⟨aO,h3,h4,h5⟩:=uZ vs (ces:=ces) hs h2;exact⟨aO,h3,h4,by unfold ae;exact⟨us,h1,h5⟩⟩;exact aed hs hd
theorem afN{ces:List (Bool×aS×TypeId)}{r r':AV}{v:Value}{L':List au}(h:Good ρ H G w (lk L) r v w')(h0:∀id,H id=none)(hc:al3 ces L r=some (L',r')):Good ρ H G w (lk L') r' v w':=by
 unfold al3 at hc;simp only[Bool.cond_eq_ite]at hc;split at hc;rename_i hn;split at hc;rename_i L1 r1 hL hr;simp only[Option.some.injEq,Prod.mk.injEq]at hc;obtain⟨rfl,rfl⟩:=hc;have⟨gB,h1,h2,h3,h4⟩:=h;have⟨eB,h5,h6,h7⟩:=al5 (ces:=ces) h1 h2;exact Good.view (m:=0) ⟨eB,h5,h7,h3.trans h6,h4⟩ (iZ hn) hL (λi hi=>by omega) (λid _=>h0 id) hr;cases hc;cases hc
end
def B.out(base:Nat):(b:B)->b.V->AV×List au
 |.row r e,x=>(.vec base,[.vec (r.ta x) e])|.int k,x=>(.s (.int k x),[])|.bool,x=>(.s (.bool x),[])|.str,x=>(.s (.str x),[])|.arr k n,x=>(.ay k n x,[])|.fn,f=>(.s (.sM f),[])|.gR r _,x=>(.s (.ro (r.ta x)),[])
def BL.out(base:Nat):(bs:List B)->BL bs->List AV×List au
 |[],_=>([],[])|b::bs,(x,y)=>let p:=b.out base x;let q:=BL.out (base+p.2.length) bs y;(p.1::q.1,p.2++q.2)
def Ty.out(base:Nat):(t:Ty)->t.V->AV×List au
 |.b x,v=>x.out base v|.st bs,v=>let q:=BL.out base bs v;(.agg q.1,q.2)
def AL.out(base:Nat):(ts:List Ty)->AL ts->List AV×List au
 |[],_=>([],[])|t::ts,(x,y)=>let p:=t.out base x;let q:=AL.out (base+p.2.length) ts y;(p.1::q.1,p.2++q.2)
def AL.res(rs:List Ty)(y:AL rs):List au×AV:=let q:=AL.out 0 rs y;(q.2,oneOf q.1)
def B.flat:B->Bool
 |.row r _=>r.flat|.gR _ _=>false|_=>true
def Ty.flat:Ty->Bool
 |.b x=>x.flat|.st bs=>bs.all B.flat
def B.oF:B->Bool
 |.row r _=>r.flat|_=>true
def Ty.oF:Ty->Bool
 |.b x=>x.oF|.st bs=>bs.all B.oF
def B.ces:B->List (Bool×aS×TypeId)
 |.row r e=>[(false,r.ta [],e)]|.gR r e=>[(true,r.ta [],e)]|_=>[]
def Ty.ces:Ty->List (Bool×aS×TypeId)
 |.b x=>x.ces|.st bs=>bs.flatMap B.ces
def cf(P:Program)(Z:aP)(f:FuncId)(ts rs:List Ty)(pre:AL ts->List Prop)(F:AL ts->AL rs):Prop:=
 ∀(x:AL ts),AL.ok ts x->bd (pre x)->∀(G:Nat->Prop) (w:World) (vs:List Value),(∀b,G b->b<w.heap.size)->Z.ok w->bH (λ_=>undef) (λ_=>none) (aV (λ_=>undef) (λ_=>none) G) w (AL.av ts x) vs->
  Calls P f vs.toArray w λe w'=>∃v,e=.returned v/\Good (λ_=>undef) (λ_=>none) G w (lk (AL.res rs (F x)).1) (AL.res rs (F x)).2 v w'
def Ends(rs:List Ty)(y:AL rs)(L:List au)(r:AV):Prop:=al3 (rs.flatMap Ty.ces) L r=some (AL.res rs y)
def aaR(a:AV)(k:AV->RM bK):RM bK:=
 match a with
 |.vec id=>.look id λ
  |some (.vec c _)=>k (.s (.ro c))|_=>.fail ""
 |a=>k a
def aoS:List AV->(List AV->RM bK)->RM bK
 |[],k=>k []|a::aI,k=>aaR a λa'=>aoS aI λdB=>k (a'::dB)
def aoT(a:AV)(k:AV->RM bK):RM bK:=
 match a with
 |.agg segs=>aoS segs λs=>k (.agg s)|a=>aaR a k
def aoU:List AV->(List AV->RM bK)->RM bK
 |[],k=>k []|a::aI,k=>aoT a λa'=>aoU aI λdB=>k (a'::dB)
def sumOf(ts rs:List Ty)(pre:AL ts->List Prop)(F:AL ts->AL rs):Nat->List AV->RM bK:=λ_ args=>
 aoU args λargs=>match allM (rn (λ_=>none) 20) args with
  |some args=>(match AL.rd ts args with
   |some x=>bif rs.all Ty.flat then .ret ⟨pre x,[],(AL.res rs (F x)).1,λbase=>oneOf (AL.out base rs (F x)).1⟩else .fail ""|none=>.fail "")
  |none=>.fail ""
section
variable{g:Nat->Option Nat}{ρ aO:Nat->Value}{H H':aJ}{G O O':Nat->Prop}{w w':World}{P:Program}{S:fa}{Z:aP}{X:Ctx}{s:St}{a:Act}{K:List au->AV->Prop}{C:aR->Prop}{L:List au}
theorem AL.nJ:∀{ts:List Ty} (x:AL ts),(AL.av ts x).length=ts.length
 |[],_=>rfl|_::_,(_,y)=>congrArg (· +1) (AL.nJ y)
theorem a6{f:FuncId}{fn:Func}{ts rs:List Ty}{pre:AL ts->List Prop}{F:AL ts->AL rs}(hf:P.funcs[f]? =some fn)(hb:fn.body.isSome=true)(hn:ts.length.ble fn.ntmps=true)
 (h:∀x,AL.ok ts x->bd (pre x)->∀X:Ctx,(∀id,X.H id=none)->cE Z X->Safe P f X (Ends rs (F x)) (start fn (AL.av ts x) [])):cf P Z f ts rs pre F:=by
 intro x hok gz G w vs hG hz hd;have⟨c,hb⟩:=isSome_iff_exists.1 hb;have hn:=le_of_ble_eq_true hn;have ard:(AL.av ts x).length=ts.length:=AL.nJ x
 have nc:∀{aI:List AV} {vs:List Value},bH (λ_=>undef) (λ_=>none) (aV (λ_=>undef) (λ_=>none) G) w aI vs->vs.length=aI.length:=by
  intro aI
  induction aI with
  |nil=>intro vs h;rw[bc.1 h];rfl
  |cons a aI ih=>intro vs h;obtain⟨v,rest,rfl,_,h2⟩:=aG.1 h;simp[ih h2]
 refine(iL (R:=iY ⟨λ_=>undef,λ_=>none,G,w,[],λ_ _=>False⟩ (Ends rs (F x))) hf hb ?_).mono ?_;have:=(h x hok gz ⟨λ_=>undef,λ_=>none,G,w,[],λ_ _=>False⟩ (λ_=>rfl) ⟨hz,λb _ ⟨id,o,ho,_⟩=>by cases ho⟩).al2 rfl rfl (ρ:=λ_=>undef) (a:={tmps:=vs.toArray++Array.replicate (fn.ntmps - vs.toArray.size) undef,defers:=[]}) (w:=w);simp only[start,hb,getD_some]at this;refine this ⟨⟨λid o ho=>by simp[St.look]at ho,λi j oi oj b hi=>by simp[St.look]at hi,λb ue=> ?_,hG⟩, ?_,λt=> ?_,rfl, ?_, ?_,λx hx=>by cases hx⟩;have⟨id,o,ho,_⟩:=ue;simp[St.look]at ho;have:=nc hd;simp[this]
 have e1:∀t,ae (λ_=>undef) (St.look ⟨AL.av ts x++replicate (fn.ntmps - (AL.av ts x).length) (.bO []),[]⟩) (aV (λ_=>undef) (St.look ⟨AL.av ts x++replicate (fn.ntmps - (AL.av ts x).length) (.bO []),[]⟩) G) w ((AL.av ts x).getD t (.bO [])) (vs.getD t undef):=by
  have e0:(St.look ⟨AL.av ts x++replicate (fn.ntmps - (AL.av ts x).length) (.bO []),[]⟩)=λ_=>none:=by funext i;simp[St.look]
  rw[e0];generalize AL.av ts x=aI at hd;clear ard e0 this
  induction aI generalizing vs with
  |nil=>intro t;rw[bc.1 hd];simp only[List.getD,List.getElem?_nil,Option.getD_none];exact cv
  |cons a aI ih=>
   intro t;obtain⟨v,rest,rfl,h1,h2⟩:=aG.1 hd;cases t with
   |zero=>simpa using h1|succ t=>simpa using ih rest h2 t
 have h1:=e1 t;have hl:=nc hd;simp only[List.getD_eq_getElem?_getD,List.getElem?_append,List.getElem?_replicate,getD_eq_getD_getElem?,Array.getElem?_append,List.getElem?_toArray,Array.getElem?_replicate,List.size_toArray]at h1 ⊢;rw[hl];split;rename_i ht;have hv:vs[t]? =some vs[t]:=getElem?_eq_getElem (by omega);have ha:(AL.av ts x)[t]? =some (AL.av ts x)[t]:=getElem?_eq_getElem ht;rw[hv,ha]at h1 ⊢;exact h1;split;exact cv;simp only[Option.getD_none];unfold ae;trivial;have e0:(St.look ⟨AL.av ts x++replicate (fn.ntmps - (AL.av ts x).length) (.bO []),[]⟩)=λ_=>none:=by funext i;simp[St.look]
 rw[e0];exact Step.refl _ _ _ _;exact⟨rfl,rfl,rfl,λ_ _ _=>rfl⟩;rintro e w' (⟨v,he,L,r,hk,hg⟩|hp)
 rotate_left
 exact False.elim hp;refine⟨v,he, ?_⟩;exact afN hg (λ_=>rfl) hk
theorem RM.aee{aI:AV}{k:AV->RM bK}{q:bK}(h:(aaR aI k).eval H=some q)(hs:Sat ρ H G w):∃a',(k a').eval H=some q/\(∀v,ae ρ H (aV ρ H G) w aI v->ae ρ H (λ_=>False) w a' v)/\(∀cs,aN ρ H (aV ρ H G) w aI cs->aN ρ H (λ_=>False) w a' cs):=by
 have less:Emb (λi=>some i) ρ H (aV ρ H G) ρ H (λ_=>False):=⟨λi j h=>by cases h;exact⟨rfl,λo ho=>⟨o,ho,λc e hc=>hc⟩⟩,λb hb=>hb.elim⟩;have are:∀(a:AV) (v:Value),ae ρ H (aV ρ H G) w a v->ae ρ H (λ_=>False) w a v:=λa v hd=>ae.step ⟨λ_ _ _=>rfl,λ_ o h=>⟨o,h,λc' e' e=>⟨c',e',e,rfl,rfl⟩⟩,λb hb=>hb.elim,λ_ _ _=>rfl,le_refl _⟩ a v hd;have arf:∀(a:AV) (v:List Value),aN ρ H (aV ρ H G) w a v->aN ρ H (λ_=>False) w a v:=λa v hd=>aN.step ⟨λ_ _ _=>rfl,λ_ o h=>⟨o,h,λc' e' e=>⟨c',e',e,rfl,rfl⟩⟩,λb hb=>hb.elim,λ_ _ _=>rfl,le_refl _⟩ a v hd;unfold aaR at h;split at h;rename_i id;simp only[RM.eval]at h;split at h;rename_i c e hc;have eW:=hs.obj id _ hc;have⟨r,cap,h0,h1,h2,h3⟩:=eW
 have key:∀v,aH ρ H (aV ρ H G) w (.vec id) v->aX (λ_=>False) w (.ro c) v:=by
  intro v hv;unfold aH at hv;have⟨_,o,ho,h4⟩:=hv;rw[hc]at ho;cases ho;rw[h4 c e rfl,h0];rcases h3 with h3|⟨b,f,cells,fr,us,rfl,h5,h6,h7,h8⟩;exact .ro c r cap (λ_ _=>undef) 0 0 h1 h2 (λh=>by omega) (λi j hi hj=>by omega) (λi j hi hj=>by omega);refine .ro c _ cap us b f h1 h2 (λ_=>⟨rfl,λh=>h.elim,(Array.getElem?_eq_some_iff.1 h5).1⟩) (λi j hi hj=> ?_) (λi j hi hj=>(h8 i j hi hj).2.less (λb hb=>hb.elim));have:=(h8 i j hi hj).1;simp only[World.cell?,h5];simpa using this
 exact⟨_,h,λv hv=>aC (key v (by unfold ae at hv;exact hv)),λcs hv=>by unfold aN at *;obtain⟨u,rfl,h9⟩:=hv;exact⟨u,rfl,key u h9⟩⟩;simp[RM.eval]at h;exact⟨_,h,are _,arf _⟩
theorem RM.aef:∀{aI:List AV} {k:List AV->RM bK} {q:bK},(aoS aI k).eval H=some q->Sat ρ H G w->∃dB,(k dB).eval H=some q/\∀cs,aA ρ H (aV ρ H G) w aI cs->aA ρ H (λ_=>False) w dB cs
 |[],k,q,h,hs=>⟨[],h,λcs hd=>by rw[aB.1 hd];exact aB.2 rfl⟩
 |a::aI,k,q,h,hs=>by
  have⟨a',h1,h2,h3⟩:=RM.aee h hs;have⟨dB,h4,h5⟩:=RM.aef h1 hs;refine⟨a'::dB,h4,λcs hd=> ?_⟩;obtain⟨c1,c2,rfl,h6,h7⟩:=ah.1 hd;exact ah.2 ⟨c1,c2,rfl,h3 c1 h6,h5 c2 h7⟩
theorem RM.al6{aI:AV}{k:AV->RM bK}{q:bK}(h:(aoT aI k).eval H=some q)(hs:Sat ρ H G w):∃a',(k a').eval H=some q/\(∀v,ae ρ H (aV ρ H G) w aI v->ae ρ H (λ_=>False) w a' v):=by
 unfold aoT at h;split at h;have⟨dB,h1,h2⟩:=RM.aef h hs;refine⟨_,h1,λv hd=> ?_⟩;unfold ae at *;have⟨cs,h3,h4⟩:=hd;exact⟨cs,h3,h2 cs h4⟩;have⟨a',h1,h2,_⟩:=RM.aee h hs;exact⟨a',h1,h2⟩
theorem RM.aeg:∀{aI:List AV} {k:List AV->RM bK} {q:bK},(aoU aI k).eval H=some q->Sat ρ H G w->∃dB,(k dB).eval H=some q/\∀cs,bH ρ H (aV ρ H G) w aI cs->bH ρ H (λ_=>False) w dB cs
 |[],k,q,h,hs=>⟨[],h,λcs hd=>by rw[bc.1 hd];exact bc.2 rfl⟩
 |a::aI,k,q,h,hs=>by
  have⟨a',h1,h2⟩:=RM.al6 h hs;have⟨dB,h4,h5⟩:=RM.aeg h1 hs;refine⟨a'::dB,h4,λcs hd=> ?_⟩;obtain⟨v,rest,rfl,h6,h7⟩:=aG.1 hd;exact aG.2 ⟨v,rest,rfl,h2 v h6,h5 rest h7⟩
theorem sr:∀{cs:List CK} (_:cs.all CK.flat=true) {x:CL cs} {j:Nat} {u:Value},j<CL.wide cs->aX O w (CL.cell cs x j) u->aX O' w (CL.cell cs x j) u
 |[],_,x,j,u,hj,h=>by simp[CL.wide]at hj
 |c::cs,hf,x,j,u,hj,h=>by
  simp only[all_cons,and_eq_true]at hf;simp only[CL.cell]at h ⊢;rcases lt_or_ge j c.wide with h5|h5
  ·rw[jP h5,cond_true]at h ⊢;cases c<;>simp only[CK.flat,Bool.false_eq_true]at hf
   case int k=>exact(by simp only[CK.cell]at h ⊢;cases h;constructor)
   case bool=>exact(by simp only[CK.cell]at h ⊢;cases h;constructor)
   case str=>exact(by simp only[CK.cell]at h ⊢;cases h;constructor)
   case arr k n=>exact(by simp only[CK.cell]at h ⊢;cases h;constructor)
   all_goals exact hf.1.elim
  ·rw[oB h5,cond_false]at h ⊢;exact sr hf.2 (by simp only[CL.wide]at hj;omega) h
theorem RK.aaZ{r:RK}(hr:r.flat=true){x:r.V}{i j:Nat}{u:Value}(hj:j<(r.ta x).size)(h:aX O w ((r.ta x).cell i j) u):aX O' w ((r.ta x).cell i j) u:=by
 cases r
 case ab cs=>exact sr hr hj h
 all_goals (simp only[RK.ta,aS.cell]at h ⊢;cases h;constructor)
def Plain(o:au):Prop:=∃(r:RK) (x:r.V) (e:TypeId),r.flat=true/\o=.vec (r.ta x) e
theorem B.ez{b:B}(hb:b.oF=true){x:b.V}{base:Nat}:∀o∈(b.out base x).2,Plain o:=by
 cases b with
 |row r e=>intro o ho;simp only[B.out,List.mem_singleton]at ho;exact⟨r,x,e,hb,ho⟩
 |_=>intro o ho;simp[B.out]at ho
theorem BL.ez:∀{bs:List B},bs.all B.oF=true->∀{x:BL bs} {base:Nat},∀o∈(BL.out base bs x).2,Plain o
 |[],_,x,base,o,ho=>by simp[BL.out]at ho
 |b::bs,hb,(x,y),base,o,ho=>by
  simp only[all_cons,and_eq_true]at hb;simp only[BL.out,mem_append]at ho;rcases ho with ho|ho;exact B.ez hb.1 o ho;exact BL.ez hb.2 o ho
theorem Ty.ez{t:Ty}(ht:t.oF=true){x:t.V}{base:Nat}:∀o∈(t.out base x).2,Plain o:=by
 cases t with
 |b y=>exact B.ez ht|st bs=>exact BL.ez ht
theorem AL.ez:∀{ts:List Ty},ts.all Ty.oF=true->∀{x:AL ts} {base:Nat},∀o∈(AL.out base ts x).2,Plain o
 |[],_,x,base,o,ho=>by simp[AL.out]at ho
 |b::bs,hb,(x,y),base,o,ho=>by
  simp only[all_cons,and_eq_true]at hb;simp only[AL.out,mem_append]at ho;rcases ho with ho|ho;exact Ty.ez hb.1 o ho;exact AL.ez hb.2 o ho
structure qa (base n:Nat) (ρ:Nat->Value) (H:aJ) (aO:Nat->Value) (H':aJ):Prop where
 pt:∀i,i<n->aO (base+i)=ρ i
 heap:∀i,i<n->H' (base+i)=H i
theorem xP{base n k:Nat}(sh:qa base n ρ H aO H')(hk:k<n){v:Value}(h:aH ρ H O w (.vec k) v):aH aO H' O' w (.vec (base+k)) v:=by
 unfold aH at *;have⟨h0,o,ho,h1⟩:=h;exact⟨h0,o,by rw[sh.heap k hk];exact ho,λc e hc=>by rw[sh.pt k hk];exact h1 c e hc⟩
theorem B.aoV{base n k:Nat}(sh:qa base n ρ H aO H'){b:B}(hO:b.flat=true\/∀i,O' i->O i){x:b.V}(hk:k+(b.out k x).2.length<=n){v:Value}(h:ae ρ H O w (b.out k x).1 v):ae aO H' O' w (b.out (base+k) x).1 v:=by
 cases b with
 |row r e=>
  simp only[B.out,length_cons,length_nil]at hk h ⊢;unfold ae at *;exact xP sh (by omega) h
 |int k=>exact aC (by have:=aw (by simp) h;cases this;constructor)
 |bool=>exact aC (by have:=aw (by simp) h;cases this;constructor)
 |str=>exact aC (by have:=aw (by simp) h;cases this;constructor)
 |fn=>exact aC (by have:=aw (by simp) h;cases this;constructor)
 |gR r e=>
  rcases hO with hO|hO;cases hO;exact aC ((aw (by simp) h).less hO)
 |arr k n=>simp only[B.out]at h ⊢;unfold ae at *;exact h
theorem B.aoW{base n k:Nat}(sh:qa base n ρ H aO H'){b:B}(hO:b.flat=true\/∀i,O' i->O i){x:b.V}(hk:k+(b.out k x).2.length<=n){v:List Value}(h:aN ρ H O w (b.out k x).1 v):aN aO H' O' w (b.out (base+k) x).1 v:=by
 cases b with
 |row r e=>
  simp only[B.out,length_cons,length_nil]at hk h ⊢;unfold aN at *;obtain⟨u,rfl,h1⟩:=h;exact⟨u,rfl,xP sh (by omega) h1⟩
 |int k=>simp only[B.out]at h ⊢;unfold aN at *;obtain⟨u,rfl,h1⟩:=h;exact⟨u,rfl,by cases h1;constructor⟩
 |bool=>simp only[B.out]at h ⊢;unfold aN at *;obtain⟨u,rfl,h1⟩:=h;exact⟨u,rfl,by cases h1;constructor⟩
 |str=>simp only[B.out]at h ⊢;unfold aN at *;obtain⟨u,rfl,h1⟩:=h;exact⟨u,rfl,by cases h1;constructor⟩
 |fn=>simp only[B.out]at h ⊢;unfold aN at *;obtain⟨u,rfl,h1⟩:=h;exact⟨u,rfl,by cases h1;constructor⟩
 |gR r e=>
  simp only[B.out]at h ⊢;unfold aN at *;obtain⟨u,rfl,h1⟩:=h;rcases hO with hO|hO;cases hO;exact⟨u,rfl,h1.less hO⟩
 |arr k n=>simp only[B.out]at h ⊢;unfold aN at *;exact h
theorem B.ku{b:B}{x:b.V}(k k':Nat):(b.out k x).2=(b.out k' x).2:=by cases b<;>rfl
theorem BL.ku:∀{bs:List B} {x:BL bs} (k k':Nat),(BL.out k bs x).2=(BL.out k' bs x).2
 |[],_,_,_=>rfl|b::bs,(x,y),k,k'=>by
  simp only[BL.out];rw[B.ku k k',BL.ku (k+_) (k'+(b.out k' x).2.length)]
theorem Ty.ku{t:Ty}{x:t.V}(k k':Nat):(t.out k x).2=(t.out k' x).2:=by
 cases t with
 |b y=>exact B.ku k k'|st bs=>exact BL.ku k k'
theorem BL.shift{base n:Nat}(sh:qa base n ρ H aO H'):∀{bs:List B} (_:bs.all B.flat=true\/∀i,O' i->O i) {k:Nat} {x:BL bs} {cs:List Value},k+(BL.out k bs x).2.length<=n->aA ρ H O w (BL.out k bs x).1 cs->aA aO H' O' w (BL.out (base+k) bs x).1 cs
 |[],_,k,x,cs,hk,h=>by rw[aB.1 h];exact aB.2 rfl
 |b::bs,hO,k,(x,y),cs,hk,h=>by
  simp only[BL.out,length_append]at hk h ⊢;obtain⟨c1,c2,rfl,h1,h2⟩:=ah.1 h;have hO1:b.flat=true\/∀i,O' i->O i:=hO.imp (λh=>by simp only[all_cons,and_eq_true]at h;exact h.1) (λh=>h);have hO2:bs.all B.flat=true\/∀i,O' i->O i:=hO.imp (λh=>by simp only[all_cons,and_eq_true]at h;exact h.2) (λh=>h);refine ah.2 ⟨c1,c2,rfl,B.aoW sh hO1 (by omega) h1, ?_⟩;rw[B.ku (base+k) k,add_assoc];exact BL.shift sh hO2 (by omega) h2
theorem Ty.shift{base n k:Nat}(sh:qa base n ρ H aO H'){t:Ty}(hO:t.flat=true\/∀i,O' i->O i){x:t.V}(hk:k+(t.out k x).2.length<=n){v:Value}(h:ae ρ H O w (t.out k x).1 v):ae aO H' O' w (t.out (base+k) x).1 v:=by
 cases t with
 |b y=>exact B.aoV sh hO hk h|st bs=>
  simp only[Ty.out]at hk h ⊢;unfold ae at *;have⟨cs,h1,h2⟩:=h;exact⟨cs,h1,BL.shift sh hO hk h2⟩
theorem AL.shift{base n:Nat}(sh:qa base n ρ H aO H'):∀{ts:List Ty} (_:ts.all Ty.flat=true\/∀i,O' i->O i) {k:Nat} {x:AL ts} {vs:List Value},k+(AL.out k ts x).2.length<=n->bH ρ H O w (AL.out k ts x).1 vs->bH aO H' O' w (AL.out (base+k) ts x).1 vs
 |[],_,k,x,vs,hk,h=>by rw[bc.1 h];exact bc.2 rfl
 |b::bs,hO,k,(x,y),cs,hk,h=>by
  simp only[AL.out,length_append]at hk h ⊢;obtain⟨c1,c2,rfl,h1,h2⟩:=aG.1 h;have hO1:b.flat=true\/∀i,O' i->O i:=hO.imp (λh=>by simp only[all_cons,and_eq_true]at h;exact h.1) (λh=>h);have hO2:bs.all Ty.flat=true\/∀i,O' i->O i:=hO.imp (λh=>by simp only[all_cons,and_eq_true]at h;exact h.2) (λh=>h);refine aG.2 ⟨c1,c2,rfl,Ty.shift sh hO1 (by omega) h1, ?_⟩;rw[Ty.ku (base+k) k,add_assoc];exact AL.shift sh hO2 (by omega) h2
theorem AL.yX:∀{ts:List Ty} {x:AL ts} (k:Nat),(AL.out k ts x).1.length=ts.length
 |[],_,_=>rfl|b::bs,(x,y),k=>by simp[AL.out,AL.yX]
theorem xQ{base:Nat}{rs:List Ty}(hO:rs.all Ty.flat=true\/∀i,O' i->O i){y:AL rs}(sh:qa base (AL.res rs y).1.length ρ H aO H'){v:Value}(h:ae ρ H O w (AL.res rs y).2 v):ae aO H' O' w (oneOf (AL.out base rs y).1) v:=by
 unfold AL.res at h sh;simp only[]at h sh;have hl:∀vs,bH ρ H O w (AL.out 0 rs y).1 vs->bH aO H' O' w (AL.out (base+0) rs y).1 vs:=λvs=>AL.shift (k:=0) (x:=y) (O:=O) (O':=O') (w:=w) sh hO (by omega);have l0:=AL.yX (x:=y) 0;have l1:=AL.yX (x:=y) base;generalize (AL.out 0 rs y).1=aI at *;rw[add_zero]at hl;generalize (AL.out base rs y).1=bs at *;unfold oneOf at h ⊢;split at h;rename_i a;cases bs with
 |nil=>simp at l0 l1;omega|cons b bs=>
  cases bs with
  |nil=>
   have:=hl [v] (aG.2 ⟨v,[],rfl,h,bc.2 rfl⟩);have⟨v',rest,e,h1,_⟩:=aG.1 this;cases e;exact h1
  |cons c cs=>simp at l0 l1;omega
 rename_i cG;split;rename_i b;cases aI with
 |nil=>simp at l0 l1;omega|cons a aI=>
  cases aI with
  |nil=>exact(cG a rfl).elim|cons c cs=>simp at l0 l1;omega
 unfold ae at *;have⟨us,h1,h2⟩:=h;exact⟨us,h1,hl us h2⟩
def xj(P:Program)(Z:aP)(f:FuncId)(s:Nat->List AV->RM bK):Prop:=
 ∀(base:Nat) (args:List AV) (H:aJ) (q:bK),(s base args).eval H=some q->bd q.aa->∀(ρ:Nat->Value) (G:Nat->Prop) (w:World) (vs:List Value),
  (∀i,i<q.new.length->H (base+i)=none)->ZAt Z ρ H w->Sat ρ H G w->bH ρ H (aV ρ H G) w args vs->
  Calls P f vs.toArray w λen w'=>∃v,en=.returned v/\Good ρ H G w (cL H q.up base q.new) (q.r base) v w'
theorem cf.sum{f:FuncId}{ts rs:List Ty}{pre:AL ts->List Prop}{F:AL ts->AL rs}(h:cf P Z f ts rs pre F):xj P Z f (sumOf ts rs pre F):=by
 intro base args H q hq hn ρ G w vs hY hz hs hd;unfold sumOf at hq;have⟨arh,hq,h1⟩:=RM.aeg hq hs;split at hq;rename_i ari h2;split at hq;rename_i x h3;rw[Bool.cond_eq_ite]at hq;split at hq;rename_i aa0;simp only[RM.eval,Option.some.injEq]at hq;subst hq
 have aoX:∀b,¬aV (λ_=>undef) (λ_=>none) (λ_=>False) b:=by
  rintro b (⟨id,o,ho,_⟩|hb);cases ho;exact hb
 have E:Emb (λ_=>none) ρ H (λ_=>False) (λ_=>undef) (λ_=>none) (aV (λ_=>undef) (λ_=>none) (λ_=>False)):=⟨λi j kT=>(by cases kT),λb hb=>(aoX b hb).elim⟩;have hd2:=pT E h2 (h1 vs hd);have hd3:bH (λ_=>undef) (λ_=>none) (aV (λ_=>undef) (λ_=>none) (λ_=>False)) w (AL.av ts x) vs:=AL.lD h3 hd2;refine(h x (AL.okL hd3) hn (λ_=>False) w vs (λb hb=>hb.elim) hz.1 hd3).mono ?_;rintro e w' ⟨v,he,gB,g1,g2,g3,g4⟩;refine⟨v,he, ?_⟩;simp only[]
 have aoY:rs.all Ty.oF=true:=by
  rw[all_eq_true]at aa0 ⊢;intro t ht;have:=aa0 t ht;cases t with
  |b y=>cases y<;>first|rfl|exact this|cases this
  |st bs=>
   change bs.all B.flat=true at this;show bs.all B.oF=true;rw[all_eq_true]at this ⊢;intro b hb;have:=this b hb;cases b<;>first|rfl|exact this|cases this
 have hpl:=AL.ez aoY (x:=F x) (base:=0);have aiI:(AL.res rs (F x)).1=(AL.out 0 rs (F x)).2:=rfl;rw[<-aiI]at hpl;generalize hL:(AL.res rs (F x)).1=L at *
 have mv:∀b,Own gB (lk L) b->w.heap.size<=b:=λb hb=>by
  rcases g3.ft b (.inl hb)with h5|h5;exact(aoX b h5).elim;exact h5
 let eB:Nat->Value:=λid=>if base<=id/\id<base+L.length then gB (id - base)else ρ id
 let H2:=cL H [] base L;have hH2:∀id,H2 id=if base<=id/\id<base+L.length then L[id - base]? else H id:=λid=>rfl
 have sh:qa base L.length gB (lk L) eB H2:=⟨λi hi=>by simp only[eB];rw[if_pos (by omega)];congr 1;omega,λi hi=>by rw[hH2,if_pos (by omega)];simp[lk]⟩
 have hold:∀{id:Nat} {o:au},H id=some o->¬(base<=id/\id<base+L.length):=λ{id o} ho hc=>by
  have:=hY (id - base) (by simp only[];omega);rw[show base+(id - base)=id from by omega,ho]at this;cases this
 have xR:∀b,Own eB H2 b->Own gB (lk L) b\/Own ρ H b:=by
  rintro b ⟨id,o,ho,ha,hb⟩;rw[hH2]at ho;simp only[eB]at hb;split at ho;rename_i hc;rw[if_pos hc]at hb;exact .inl ⟨id - base,o,ho,ha,hb⟩;rename_i hc;rw[if_neg hc]at hb;exact .inr ⟨id,o,ho,ha,hb⟩
 have heap:∀b,b<w.heap.size->w'.heap[b]? =w.heap[b]? :=λb hb=>g4.heap b hb (λho=>aoX b (.inl ho));have aa1:w.heap.size<=w'.heap.size:=g3.size
 have st:Step ρ H (aV ρ H G) w eB H2 (aV eB H2 G) w':=by
  refine⟨λid o ho=> ?_,λid o ho=> ?_,λb hb=> ?_,λb hb _=>heap b hb,aa1⟩;simp only[eB];rw[if_neg (hold ho)];exact⟨o,by rw[hH2,if_neg (hold ho)];exact ho,λc' e' hc=>⟨c',e',hc,rfl,rfl⟩⟩;rcases hb with hb|hb;rcases xR b hb with h5|h5;exact .inr (mv b h5);exact .inl (.inl h5);exact .inl (.inr hb)
 refine⟨eB,⟨λid o ho=> ?_,λi j oi oj b hi hj ai aj bi bj=> ?_,λb hb hG=> ?_,λb hb=>Nat.lt_of_lt_of_le (hs.low b hb) aa1⟩,xQ (.inl aa0) (O:=aV gB (lk L) (λ_=>False)) (hL▸sh) (by rw[hL];exact g2),st,⟨g4.os,g4.tape,g4.output,λb hb _=>heap b hb⟩⟩;change H2 id=some o at ho;rw[hH2]at ho;simp only[eB];split at ho;rename_i hc;rw[if_pos hc];have eW:=g1.obj (id - base) o ho;obtain⟨r,y,e',hr,rfl⟩:=hpl o (List.mem_of_getElem? ho);have⟨a0,cap,k0,k1,k2,k3⟩:=eW;refine⟨a0,cap,k0,k1,k2,k3.imp (λh=>h) ?_⟩;rintro⟨b,f0,cells,fr,us,k4,k5,k6,k7,k8⟩;exact⟨b,f0,cells,fr,us,k4,k5,k6,k7,λi j hi hj=>⟨(k8 i j hi hj).1,RK.aaZ hr hj (k8 i j hi hj).2⟩⟩;rename_i hc;rw[if_neg hc];have eW:=hs.obj id o ho;refine eW.step st (λb ha hb=>heap b ?_);exact gf hs ⟨id,o,ho,ha,hb⟩;change H2 i=some oi at hi;change H2 j=some oj at hj;rw[hH2]at hi hj;simp only[eB]at bi bj;split at hi;rename_i ci;rw[if_pos ci]at bi;have o1:Own gB (lk L) b:=⟨_,oi,hi,ai,bi⟩;split at hj;rename_i cj;rw[if_pos cj]at bj;have:=g1.inj (i - base) (j - base) oi oj b hi hj ai aj bi bj;omega;rename_i cj;rw[if_neg cj]at bj;have:=gf hs ⟨j,oj,hj,aj,bj⟩;have:=mv b o1;omega;rename_i ci;rw[if_neg ci]at bi;have h6:=gf hs ⟨i,oi,hi,ai,bi⟩;split at hj;rename_i cj;rw[if_pos cj]at bj;have:=mv b ⟨_,oj,hj,aj,bj⟩;omega;rename_i cj;rw[if_neg cj]at bj;exact hs.inj i j oi oj b hi hj ai aj bi bj;rcases xR b hb with h5|h5;have:=mv b h5;have:=hs.low b hG;omega;exact hs.apart b h5 hG;simp[RM.eval]at hq;simp[RM.eval]at hq;simp[RM.eval]at hq
abbrev aQ:=List (FuncId×(Nat->List AV->RM bK))
def aQ.get:aQ->FuncId->Option (Nat->List AV->RM bK)
 |[],_=>none|(g,s)::t,f=>bif g.beq f then some s else aQ.get t f
def aQ.sum(t:aQ):fa:=λbase f args=>match t.get f with
 |some s=>s base args|none=>.fail "no summary"
def aQ.Ok(P:Program)(Z:aP)(t:aQ):Prop:=∀x∈t,xj P Z x.1 x.2
theorem aQ.get_mem:∀{t:aQ} {f:FuncId} {s:Nat->List AV->RM bK},t.get f=some s->(f,s)∈t
 |[],f,s,h=>by simp[aQ.get]at h
 |(g,s')::t,f,s,h=>by
  simp only[aQ.get,Bool.cond_eq_ite]at h;split at h;rename_i hg;obtain rfl:=Nat.eq_of_beq_eq_true hg;cases h;simp;exact List.mem_cons_of_mem _ (aQ.get_mem h)
theorem aQ.sOk{t:aQ}(h:t.Ok P Z):SOk P t.sum Z:=by
 intro base f args H q _ hq hn ρ G w vs hf hz hs hd;unfold aQ.sum at hq;split at hq;rename_i s hg;exact h _ (aQ.get_mem hg) base args H q hq hn ρ G w vs hf hz hs hd;simp[RM.eval]at hq
theorem aQ.Ok.nil:aQ.Ok P Z []:=λx hx=>by simp at hx
theorem aQ.Ok.cons{f:FuncId}{s:Nat->List AV->RM bK}{t:aQ}(h:xj P Z f s)(ht:aQ.Ok P Z t):aQ.Ok P Z ((f,s)::t):=by
 intro x hx;rcases mem_cons.1 hx with rfl|hx;exact h;exact ht x hx
end
def aeh(a:AV)(ids:List Nat)(k:AV->List Nat->RM bK):RM bK:=
 match a with
 |.vec id=>.look id λ
  |some (.vec c _)=>k (.s (.ro c)) (id::ids)|_=>.fail ""
 |a=>k a ids
def aiJ:List AV->List Nat->(List AV->List Nat->RM bK)->RM bK
 |[],ids,k=>k [] ids|a::aI,ids,k=>aeh a ids λa' ids=>aiJ aI ids λdB ids=>k (a'::dB) ids
def aiK(a:AV)(ids:List Nat)(k:AV->List Nat->RM bK):RM bK:=
 match a with
 |.agg segs=>aiJ segs ids λs ids=>k (.agg s) ids|a=>aeh a ids k
def aiL:List AV->List Nat->(List AV->List Nat->RM bK)->RM bK
 |[],ids,k=>k [] ids|a::aI,ids,k=>aiK a ids λa' ids=>aiL aI ids λdB ids=>k (a'::dB) ids
def dY(ts rs:List Ty)(pre:AL ts->List Prop)(F:AL ts->AL rs):Nat->List AV->RM bK:=λ_ args=>
 aiL args [] λargs ids=>match allM (rn (λ_=>none) 20) args with
  |some args=>(match AL.rd ts args with
   |some x=>bif rs.all Ty.oF then .ret ⟨pre x,ids.map λi=>(i,.aW),(AL.res rs (F x)).1,λbase=>oneOf (AL.out base rs (F x)).1⟩else .fail ""|none=>.fail "")
  |none=>.fail ""
section
variable{ρ aO:Nat->Value}{H H':aJ}{G O O':Nat->Prop}{w w':World}{P:Program}{Z:aP}
structure aa2 (ρ:Nat->Value) (H:aJ) (G:Nat->Prop) (ids mw:List Nat):Prop where
 sub:∀i∈ids,i∈mw
 vec:∀i∈mw,i∈ids\/∃c e,H i=some (.vec c e)
abbrev jX(ρ:Nat->Value)(H:aJ)(G:Nat->Prop)(ids:List Nat)(O:Nat->Prop):Prop:=(∀b,O b->aV ρ H G b)/\∀i∈ids,∀b,eD (ρ i)=some b->¬O b
theorem aa2.trans{a b c:List Nat}(h:aa2 ρ H G a b)(k:aa2 ρ H G b c):aa2 ρ H G a c:=
 ⟨λi hi=>k.sub i (h.sub i hi),λi hi=>(k.vec i hi).elim (λh1=>h.vec i h1) .inr⟩
theorem aa3{a:AV}{ids:List Nat}{k:AV->List Nat->RM bK}{q:bK}(h:(aeh a ids k).eval H=some q)(hs:Sat ρ H G w):
 ∃a' mw,(k a' mw).eval H=some q/\aa2 ρ H G ids mw/\∀O,jX ρ H G mw O->(∀v,ae ρ H (aV ρ H G) w a v->ae ρ H O w a' v)/\(∀cs,aN ρ H (aV ρ H G) w a cs->aN ρ H O w a' cs):=by
 have stp:∀O,jX ρ H G ids O->Step ρ H (aV ρ H G) w ρ H O w:=λO hO=>⟨λ_ _ _=>rfl,λ_ o h=>⟨o,h,λc' e' e=>⟨c',e',e,rfl,rfl⟩⟩,λb hb=>.inl (hO.1 b hb),λ_ _ _=>rfl,le_refl _⟩;unfold aeh at h;split at h;rename_i id;simp only[RM.eval]at h;split at h;rename_i c e hc;have⟨r,cap,h0,h1,h2,h3⟩:=hs.obj id _ hc;refine⟨_,_,h,⟨λi hi=>by simp[hi],λi hi=> ?_⟩,λO hO=> ?_⟩;rcases mem_cons.1 hi with rfl|hi;exact .inr ⟨c,e,hc⟩;exact .inl hi
 have key:∀v,aH ρ H (aV ρ H G) w (.vec id) v->aX O w (.ro c) v:=by
  intro v hv;unfold aH at hv;have⟨_,o,ho,h4⟩:=hv;rw[hc]at ho;cases ho;rw[h4 c e rfl];have xO:=hO.2 id (by simp);rw[h0]at xO ⊢;rcases h3 with h3|⟨b,f,cells,fr,us,rfl,h5,h6,h7,h8⟩;exact .ro c r cap (λ_ _=>undef) 0 0 h1 h2 (λh=>by omega) (λi j hi hj=>by omega) (λi j hi hj=>by omega);by_cases ug:cap=0;exact .ro c _ cap (λ_ _=>undef) 0 0 h1 h2 (λh=>by omega) (λi j hi hj=>by omega) (λi j hi hj=>by omega);refine .ro c _ cap us b f h1 h2 (λ_=>⟨rfl,xO b (by simp[eD,ug]),(Array.getElem?_eq_some_iff.1 h5).1⟩) (λi j hi hj=> ?_) (λi j hi hj=>(h8 i j hi hj).2.less hO.1);have:=(h8 i j hi hj).1;simp only[World.cell?,h5];simpa using this
 exact⟨λv hv=>aC (key v (by unfold ae at hv;exact hv)),λcs hv=>by unfold aN at *;obtain⟨u,rfl,h9⟩:=hv;exact⟨u,rfl,key u h9⟩⟩;simp[RM.eval]at h;exact⟨_,_,h,⟨λi hi=>hi,λi hi=>.inl hi⟩,λO hO=>⟨λv hv=>ae.step (stp O hO) _ v hv,λcs hv=>aN.step (stp O hO) _ cs hv⟩⟩
theorem jX.sub{a b:List Nat}(h:∀i∈a,i∈b)(k:jX ρ H G b O):jX ρ H G a O:=⟨k.1,λi hi=>k.2 i (h i hi)⟩
theorem aa4:∀{aI:List AV} {ids:List Nat} {k:List AV->List Nat->RM bK} {q:bK},(aiJ aI ids k).eval H=some q->Sat ρ H G w->
 ∃dB mw,(k dB mw).eval H=some q/\aa2 ρ H G ids mw/\∀O,jX ρ H G mw O->∀cs,aA ρ H (aV ρ H G) w aI cs->aA ρ H O w dB cs
 |[],ids,k,q,h,hs=>⟨[],ids,h,⟨λ_ h=>h,λ_ h=>.inl h⟩,λO _ cs hd=>by rw[aB.1 hd];exact aB.2 rfl⟩
 |a::aI,ids,k,q,h,hs=>by
  have⟨a',i1,h1,f1,h2⟩:=aa3 h hs;have⟨dB,i2,h3,f2,h4⟩:=aa4 h1 hs;refine⟨a'::dB,i2,h3,f1.trans f2,λO hO cs hd=> ?_⟩;obtain⟨c1,c2,rfl,h6,h7⟩:=ah.1 hd;exact ah.2 ⟨c1,c2,rfl,(h2 O (jX.sub f2.sub hO)).2 c1 h6,h4 O hO c2 h7⟩
theorem aiM{a:AV}{ids:List Nat}{k:AV->List Nat->RM bK}{q:bK}(h:(aiK a ids k).eval H=some q)(hs:Sat ρ H G w):
 ∃a' mw,(k a' mw).eval H=some q/\aa2 ρ H G ids mw/\∀O,jX ρ H G mw O->∀v,ae ρ H (aV ρ H G) w a v->ae ρ H O w a' v:=by
 unfold aiK at h;split at h;have⟨dB,i1,h1,f1,h2⟩:=aa4 h hs;refine⟨_,i1,h1,f1,λO hO v hd=> ?_⟩;unfold ae at *;have⟨cs,h3,h4⟩:=hd;exact⟨cs,h3,h2 O hO cs h4⟩;have⟨a',i1,h1,f1,h2⟩:=aa3 h hs;exact⟨a',i1,h1,f1,λO hO=>(h2 O hO).1⟩
theorem aa5:∀{aI:List AV} {ids:List Nat} {k:List AV->List Nat->RM bK} {q:bK},(aiL aI ids k).eval H=some q->Sat ρ H G w->
 ∃dB mw,(k dB mw).eval H=some q/\aa2 ρ H G ids mw/\∀O,jX ρ H G mw O->∀cs,bH ρ H (aV ρ H G) w aI cs->bH ρ H O w dB cs
 |[],ids,k,q,h,hs=>⟨[],ids,h,⟨λ_ h=>h,λ_ h=>.inl h⟩,λO _ cs hd=>by rw[bc.1 hd];exact bc.2 rfl⟩
 |a::aI,ids,k,q,h,hs=>by
  have⟨a',i1,h1,f1,h2⟩:=aiM h hs;have⟨dB,i2,h3,f2,h4⟩:=aa5 h1 hs;refine⟨a'::dB,i2,h3,f1.trans f2,λO hO cs hd=> ?_⟩;obtain⟨c1,c2,rfl,h6,h7⟩:=aG.1 hd;exact aG.2 ⟨c1,c2,rfl,h2 O (jX.sub f2.sub hO) c1 h6,h4 O hO c2 h7⟩
theorem su:∀(ids:List Nat) (j:Nat),cD (ids.map λi=>(i,.aW)) j=if j∈ids then some .aW else none
 |[],j=>rfl|i::ids,j=>by
  simp only[map_cons,cD,su ids j];by_cases h:j∈ids;simp[h];by_cases h2:j=i;subst h2;simp[h];simp[h,h2]
theorem cf.dY{f:FuncId}{ts rs:List Ty}{pre:AL ts->List Prop}{F:AL ts->AL rs}(h:cf P Z f ts rs pre F):xj P Z f (dY ts rs pre F):=by
 intro base args H q hq hn ρ G w vs hY hz hs hd;unfold Sx.dY at hq;have⟨arh,ids,hq,hf,h1⟩:=aa5 hq hs;split at hq;rename_i ari h2;split at hq;rename_i x h3;rw[Bool.cond_eq_ite]at hq;split at hq;rename_i aa0;simp only[RM.eval,Option.some.injEq]at hq;subst hq;have rl:∀i∈ids,∃c e,H i=some (.vec c e):=λi hi=>(hf.vec i hi).elim (λh=>by simp at h) (λh=>h);let Gc:Nat->Prop:=λb=>aV ρ H G b/\∀i∈ids,eD (ρ i)≠some b
 have aoZ:∀b,aV (λ_=>undef) (λ_=>none) Gc b->Gc b:=by
  rintro b (⟨id,o,ho,_⟩|hb);cases ho;exact hb
 have xO:jX ρ H G ids (aV (λ_=>undef) (λ_=>none) Gc):=⟨λb hb=>(aoZ b hb).1,λi hi b hb hO=>(aoZ b hO).2 i hi hb⟩;have E:Emb (λ_=>none) ρ H (aV (λ_=>undef) (λ_=>none) Gc) (λ_=>undef) (λ_=>none) (aV (λ_=>undef) (λ_=>none) Gc):=⟨λi j kT=>(by cases kT),λb hb=>hb⟩;have hd2:=pT E h2 (h1 _ xO vs hd);have hd3:bH (λ_=>undef) (λ_=>none) (aV (λ_=>undef) (λ_=>none) Gc) w (AL.av ts x) vs:=AL.lD h3 hd2;refine(h x (AL.okL hd3) hn Gc w vs (λb hb=>ua hs hb.1) hz.1 hd3).mono ?_;rintro e w' ⟨v,he,gB,g1,g2,g3,g4⟩;refine⟨v,he, ?_⟩;simp only[];have hpl:=AL.ez aa0 (x:=F x) (base:=0);have aiI:(AL.res rs (F x)).1=(AL.out 0 rs (F x)).2:=rfl;rw[<-aiI]at hpl;generalize hL:(AL.res rs (F x)).1=L at *
 have mv:∀b,Own gB (lk L) b->w.heap.size<=b:=λb hb=>by
  rcases g3.ft b (.inl hb)with h5|h5;exact(g1.apart b hb (aoZ b h5)).elim;exact h5
 let eB:Nat->Value:=λid=>if base<=id/\id<base+L.length then gB (id - base)else ρ id
 let H2:=cL H (ids.map λi=>(i,.aW)) base L
 have hold:∀{id:Nat} {o:au},H id=some o->¬(base<=id/\id<base+L.length):=λ{id o} ho hc=>by
  have:=hY (id - base) (by simp only[];omega);rw[show base+(id - base)=id from by omega,ho]at this;cases this
 have hH2:∀id,H2 id=if id∈ids then some .aW else if base<=id/\id<base+L.length then L[id - base]? else H id:=λid=>by
  simp only[H2,cL,su];split;rename_i hx;split at hx;rename_i hi;cases hx;rw[if_pos hi];cases hx;rename_i hx;split at hx;cases hx;rename_i hi;rw[if_neg hi]
 have aox:∀id,id∈ids->¬(base<=id/\id<base+L.length):=λid hi=>by
  have⟨c,e,hce⟩:=rl id hi;exact hold hce
 have sh:qa base L.length gB (lk L) eB H2:=⟨λi hi=>by simp only[eB];rw[if_pos (by omega)];congr 1;omega,λi hi=>by
  rw[hH2,if_neg (λhm=>aox _ hm ⟨by omega,by omega⟩),if_pos (by omega)];simp[lk]⟩
 have u5:∀{id:Nat} {o:au},H2 id=some o->o.alive=true->(base<=id/\id<base+L.length/\L[id - base]? =some o/\eB id=gB (id - base))\/(id ∉ ids/\H id=some o/\eB id=ρ id):=by
  intro id o ho ha;rw[hH2]at ho;split at ho;cases ho;cases ha;rename_i hi;split at ho;rename_i hc;exact .inl ⟨hc.1,hc.2,ho,by simp only[eB];rw[if_pos hc]⟩;rename_i hc;exact .inr ⟨hi,ho,by simp only[eB];rw[if_neg hc]⟩
 have atX:∀{id:Nat} {o:au} {b:Nat},id ∉ ids->H id=some o->o.alive=true->eD (ρ id)=some b->∀i∈ids,eD (ρ i)≠some b:=by
  intro id o b dU ho ha hb i hi hb2;have⟨c,e,hce⟩:=rl i hi;have:=hs.inj id i o _ b ho hce ha rfl hb hb2;exact dU (this▸hi)
 have xR:∀b,Own eB H2 b->Own gB (lk L) b\/(Own ρ H b/\∀i∈ids,eD (ρ i)≠some b):=by
  rintro b ⟨id,o,ho,ha,hb⟩;rcases u5 ho ha with⟨_,_,h5,h6⟩|⟨h5,h6,h7⟩;rw[h6]at hb;exact .inl ⟨id - base,o,h5,ha,hb⟩;rw[h7]at hb;exact .inr ⟨⟨id,o,h6,ha,hb⟩,atX h5 h6 ha hb⟩
 have arj:∀b,aV eB H2 G b->aV gB (lk L) Gc b:=by
  rintro b (hb|hb);rcases xR b hb with h5|h5;exact .inl h5;exact .inr ⟨.inl h5.1,h5.2⟩;refine .inr ⟨.inr hb,λi hi ko=> ?_⟩;have⟨c,e,hce⟩:=rl i hi;exact hs.apart b ⟨i,_,hce,rfl,ko⟩ hb
 have heap:∀b,b<w.heap.size->w'.heap[b]? =w.heap[b]? :=λb hb=>g4.heap b hb (λ⟨id,o,ho,_⟩=>by cases ho);have aa1:w.heap.size<=w'.heap.size:=g3.size
 have st:Step ρ H (aV ρ H G) w eB H2 (aV eB H2 G) w':=by
  refine⟨λid o ho=> ?_,λid o ho=> ?_,λb hb=> ?_,λb hb _=>heap b hb,aa1⟩;simp only[eB];rw[if_neg (hold ho)];by_cases hi:id∈ids;exact⟨.aW,by rw[hH2,if_pos hi],λc' e' hc=>by cases hc⟩;exact⟨o,by rw[hH2,if_neg hi,if_neg (hold ho)];exact ho,λc' e' hc=>⟨c',e',hc,rfl,rfl⟩⟩;rcases hb with hb|hb;rcases xR b hb with h5|h5;exact .inr (mv b h5);exact .inl (.inl h5.1);exact .inl (.inr hb)
 refine⟨eB,⟨λid o ho=> ?_,λi j oi oj b hi hj ai aj bi bj=> ?_,λb hb hG=> ?_,λb hb=>Nat.lt_of_lt_of_le (hs.low b hb) aa1⟩,xQ (.inr arj) (O:=aV gB (lk L) Gc) (hL▸sh) (by rw[hL];exact g2),st,⟨g4.os,g4.tape,g4.output,λb hb _=>heap b hb⟩⟩;cases rY:o.alive;cases o with
 |aW=>trivial|ad _ _=>cases rY
 |vec _ _=>cases rY
 |map _ _=>cases rY
 |wZ _ _ _=>cases rY
 |iter _ _ _ _ _=>cases rY
 rcases u5 ho rY with⟨_,_,h5,h6⟩|⟨h5,h6,h7⟩;rw[h6];have eW:=g1.obj (id - base) o h5;obtain⟨r,y,e',hr,rfl⟩:=hpl o (List.mem_of_getElem? h5);have⟨a0,cap,k0,k1,k2,k3⟩:=eW;refine⟨a0,cap,k0,k1,k2,k3.imp (λh=>h) ?_⟩;rintro⟨b,f0,cells,fr,us,k4,k5,k6,k7,k8⟩;exact⟨b,f0,cells,fr,us,k4,k5,k6,k7,λi j hi hj=>⟨(k8 i j hi hj).1,RK.aaZ hr hj (k8 i j hi hj).2⟩⟩;rw[h7];exact(hs.obj id o h6).step st (λb ha hb=>heap b (gf hs ⟨id,o,h6,ha,hb⟩));rcases u5 hi ai with⟨i1,i2,i3,i4⟩|⟨i1,i2,i3⟩;rw[i4]at bi;rcases u5 hj aj with⟨j1,j2,j3,j4⟩|⟨j1,j2,j3⟩;rw[j4]at bj;have:=g1.inj (i - base) (j - base) oi oj b i3 j3 ai aj bi bj;omega;rw[j3]at bj;have:=gf hs ⟨j,oj,j2,aj,bj⟩;have:=mv b ⟨_,oi,i3,ai,bi⟩;omega;rw[i3]at bi;rcases u5 hj aj with⟨j1,j2,j3,j4⟩|⟨j1,j2,j3⟩;rw[j4]at bj;have:=gf hs ⟨i,oi,i2,ai,bi⟩;have:=mv b ⟨_,oj,j3,aj,bj⟩;omega;rw[j3]at bj;exact hs.inj i j oi oj b i2 j2 ai aj bi bj;rcases xR b hb with h5|h5;have:=mv b h5;have:=hs.low b hG;omega;exact hs.apart b h5.1 hG;simp[RM.eval]at hq;simp[RM.eval]at hq;simp[RM.eval]at hq
end
def slF:Nat->Nat->List (Nat×AV)->List AV
 |0,_,_=>[]|n+1,i,[]=>.s .aF::slF n (i+1) []|n+1,i,(j,a)::l=>bif j.beq i then a::slF n (i+1) l else .s .aF::slF n (i+1) ((j,a)::l)
def sl(n:Nat)(l:List (Nat×AV)):List AV:=slF n 0 l
def fH:Code->Option Nat
 |.region id _ _=>some id|.seq a b=>match fH a with
  |some i=>some i|none=>fH b
 |.cond _ a b=>match fH a with
  |some i=>some i|none=>fH b
 |.block _ c|.loop c|.scope c=>fH c|_=>none
def l9(key:Nat):Code->List Item->Option (List Item)
 |.seq a b,k=>match l9 key a (.code b::k)with
  |some r=>some r|none=>l9 key b k
 |.cond _ a b,k=>match l9 key a k with
  |some r=>some r|none=>l9 key b k
 |.block id c,k=>l9 key c (.inBlock id::k)|.scope c,k=>l9 key c (.inScope c::k)|.loop c,k=>match fH c with
  |some i=>bif i.beq key then some (.code c::.inLoop c::k)else l9 key c (.inLoop c::k)|none=>l9 key c (.inLoop c::k)
 |_,_=>none
def hd(fn:Func)(key:Nat):List Item:=(l9 key (fn.body.getD .skip) []).getD []
def ja(key:Nat):Code->List Item->Option (List Item)
 |.region id ops d,k=>bif id.beq key then some (.code (.region id ops d)::k)else none|.seq a b,k=>match ja key a (.code b::k)with
  |some r=>some r|none=>ja key b k
 |.cond _ a b,k=>match ja key a k with
  |some r=>some r|none=>ja key b k
 |.block id c,k=>ja key c (.inBlock id::k)|.scope c,k=>ja key c (.inScope c::k)|.loop c,k=>ja key c (.inLoop c::k)|_,_=>none
def hr(fn:Func)(key:Nat):List Item:=(ja key (fn.body.getD .skip) []).getD []
def keyOf(c:aR):Nat:=match c.todo with
 |.code x::_=>adP c.stk ((fH x).getD 0)|.inRegion ops todo::_=>ain c.stk c.stk.rid (ops.size - todo.length)|_=>0
def afO:List (Nat×Norm)->Nat->Option Norm
 |[],_=>none|(i,n)::l,k=>bif i.beq k then some n else afO l k
def ark:List Item->Bool
 |.inRegion _ _::_=>true|_=>false
def Tree.norm(ns:List (Nat×Norm)):Tree->Tree
 |.aa p t=>.aa p (t.norm ns)|.ite b t e=>.ite b (t.norm ns) (e.norm ns)|.both p q t e=>.both p q (t.norm ns) (e.norm ns)|.ret H v=>.ret H v|.stuck w=>.stuck w|.at c=>bif ark c.todo&&(afO ns (keyOf c)).isNone then .at c else match afO ns (keyOf c)with
  |some N=>(match N.run c with
   |some c'=>.at c'|none=>.stuck "")
  |none=>.stuck ""
def aiN:List (Nat×Norm)->Nat->Bool
 |[],_=>false|(i,_)::l,k=>i.beq k||aiN l k
def anv:List FuncId->FuncId->Bool
 |[],_=>false|f::l,g=>f.beq g||anv l g
def run(P:Program)(S:fa)(fn:Func)(ns:List (Nat×Norm))(c:aR)(inl:List FuncId:=[]):Tree:=(exec P S fn (aiN ns) (anv inl) 1000 true c).norm ns
def fI(fn:Func)(key i:Nat):List Item:=
 match hr fn key with
 |.code (.region _ ops _)::k=>.inRegion ops (range' i (ops.size - i))::k|_=>[]
def cw(fn:Func)(f:Option FuncId)(key i:Nat)(round:Bool)(marks:Nat):q8:=⟨f,fn.ntmps,round,marks,none,fI fn key i,(key,i)⟩
def kv(key:Nat):Code->List Item->Option (Lp×List Item)
 |.rangeFunc _ ps yI body,k=>match hI body with
  |some i=>bif i.beq key then some (⟨ps.toList,yI,body⟩,k)else none|none=>bif key.beq 0 then some (⟨ps.toList,yI,body⟩,k)else none
 |.seq a b,k=>match kv key a (.code b::k)with
  |some r=>some r|none=>kv key b k
 |.cond _ a b,k=>match kv key a k with
  |some r=>some r|none=>kv key b k
 |.block id c,k=>kv key c (.inBlock id::k)|.scope c,k=>kv key c (.inScope c::k)|.loop c,k=>kv key c (.inLoop c::k)|_,_=>none
def yY(fn:Func)(f:Option FuncId)(key:Nat)(marks:Nat):q8:=
 match kv key (fn.body.getD .skip) []with
 |some p=>⟨f,fn.ntmps,false,marks,some (p.1,.ready),p.2,(key,0)⟩|none=>⟨f,fn.ntmps,false,marks,none,[],(key,0)⟩
section
variable{P:Program}{S:fa}{Z:aP}{X:Ctx}{K:List au->AV->Prop}{C C':aR->Prop}
theorem aa6:∀{l:List (Nat×Norm)} {k:Nat} {N:Norm},afO l k=some N->∃i,(i,N)∈l
 |[],k,N,h=>by simp[afO]at h
 |(i,n)::l,k,N,h=>by
  simp only[afO,Bool.cond_eq_ite]at h;split at h;cases h;exact⟨i,by simp⟩;have⟨j,hj⟩:=aa6 h;exact⟨j,by simp[hj]⟩
theorem iI{ns:List (Nat×Norm)}{f:FuncId}(h0:∀x∈ns,∀id,x.2.m<=id->X.H id=none):∀(t:Tree),(t.norm ns).Holds K (Safe P f X K)->t.Holds K (Safe P f X K)
 |.aa p t,h=>⟨h.1,iI h0 t h.2⟩|.ite b t e,h=>⟨λhb=>iI h0 t (h.1 hb),λhb=>iI h0 e (h.2 hb)⟩|.both _ _ t e,h=>⟨λhp=>iI h0 t (h.1 hp),λhq=>iI h0 e (h.2 hq)⟩|.ret H v,h=>h|.stuck w,h=>h|.at c,h=>by
  unfold Tree.norm at h;rw[Bool.cond_eq_ite]at h;split at h;exact h;split at h;rename_i N hN;split at h;rename_i c' hc;have⟨i,hi⟩:=aa6 hN;exact Norm.safe (h0 _ hi) hc h;exact h.elim;exact h.elim
theorem Tree.mono{t:Tree}(h:t.Holds K C)(hC:∀c,C c->C' c):t.Holds K C':=by
 induction t with
 |aa p t ih=>exact⟨h.1,ih h.2⟩|ite b t e ih1 ih2=>exact⟨λhb=>ih1 (h.1 hb),λhb=>ih2 (h.2 hb)⟩|both p q t e ih1 ih2=>exact⟨λhp=>ih1 (h.1 hp),λhq=>ih2 (h.2 hq)⟩|ret H v=>exact h|stuck w=>exact h|_ c=>exact hC c h
theorem aL{rs:List Ty}{y:AL rs}(y':AL rs){L:List au}{r:AV}(h:y=y')(hc:al3 (rs.flatMap Ty.ces) L r=some (AL.res rs y')):Ends rs y L r:=by
 subst h;exact hc
theorem sw{f:FuncId}{fn:Func}{ns:List (Nat×Norm)}{c:aR}{t:Tree}(hS:SOk P S Z)(mu:cE Z X)(hm:P.follows .mixedOrders=true)(hf:P.funcs[f]? =some fn)(h0:∀x∈ns,∀id,x.2.m<=id->X.H id=none)
 {inl:List FuncId} (ht:run P S fn ns c inl=t) (h:t.Holds K (Safe P f X K)):Safe P f X K c:=by
 subst ht;exact fX hS mu hm hf 1000 true c (iI h0 _ h)
end
end Go.Sx
namespace Go.Sx
open Go Go.RowKit Go.ChangeShapes Go.WideShapes Go.ChangeAt
section
variable{H:Type}{enc:TypeId×Value->H}{P:Program}{W W':World}{Z:aP}{base:Nat}{ρ:Nat->Value}{Hh:aJ}{O:Nat->Prop}
structure afP (W W':World):Prop where
 os:W'.os=W.os
 output:W'.output=W.output
 heap:∀b,b<W.heap.size->W'.heap[b]? =W.heap[b]?
theorem afP.at(h:afP W W'){p:MemPlace}(hp:p.block<W.heap.size):W.sameAt W' p:=by
 have e:=h.heap p.block hp;cases p with
 |cell b o=>exact(oK (o:=o) e)|map b=>exact e
theorem yZ{ts:List TypeId}(hl:laidOutB P=true)(hp:ts.all (λt=>P.readableRec t&&decide (t<P.types.size))=true){sp':Nat->Bool}(hs:afP W W'):∀{vs:List Value} {ds:List (DataW H)} {ps:List MemPlace},
 DataW.TrodAll enc P W 0 (λ_=>true) true ts vs ds ps->(∀p∈ps,p.block<W.heap.size)->(∀p∈ps,sp' p.block=true)->DataW.TrodAll enc P W' 0 sp' true ts vs ds ps:=by
 induction ts with
 |nil=>intro vs ds ps h _ _;cases vs<;>cases ds<;>simp[DataW.TrodAll]at h ⊢;exact h
 |cons t ts ih=>
  intro vs ds ps h a8 hsp;simp only[all_cons,and_eq_true,decide_eq_true_eq]at hp;obtain⟨v,vs',d,ds',p,q,rfl,rfl,rfl,h1,h2⟩:=trodAll_cons h;refine⟨p,q, ?_,ih hp.2 h2 (λx hx=>a8 x (by simp[hx])) (λx hx=>hsp x (by simp[hx])),rfl⟩;exact WideElems.Trod_stays hl hp.1.1 hp.1.2 h1 (λx hx=>hs.at (a8 x (by simp[hx]))) (λx hx=>hsp x (by simp[hx]))
theorem afQ(hs:afP W W')(may:MemPlace->Prop):W.keptBut W' may:=by
 refine⟨hs.os,hs.output,λi hi=> ?_⟩;rw[hs.heap i hi,Array.getElem?_eq_getElem hi];cases h:W.heap[i]with
 |cells c t fr=>exact⟨rfl,rfl,rfl,λ_ _=>rfl⟩|map es clock=>exact .inr ⟨rfl,rfl⟩|_=>rfl
theorem afR{fn:Func}{s:ChangeSpec}{apart fresh handsOn:Bool}{args:Array Value}{ds gs:List (DataW H)}{before:List MemPlace}{tb:TypeId}
 (hl:laidOutB P=true) (hp:fn.params.toList.all (λt=>P.readableRec t&&decide (t<P.types.size))=true)
 (hr:fn.resultTypes= #[tb]) (hb:P.underlying tb=some .bool) (hv:s.vars=[])
 (hs:s.fn H ds={results:=[.lit (.bool true)],args:=ds})
 (hW:DataW.Whole enc P fn.params.toList s.vars apart W args.toList ds gs before) (aei:afP W W'):
 s.post enc P fn apart fresh handsOn false W args (.bool true) W':=by
 have hW':=hW;obtain⟨p,q,h1,h2,rfl,_,_⟩:=hW;rw[hv]at h2;obtain⟨rfl,rfl⟩:=trodVars_none h2;have a8:∀x∈p,x.block<W.heap.size:=λx hx=>hW'.lt x (by simp[hx]);refine⟨ds,[],p++[],[],p,[],hW', ?_, ?_, ?_,afQ aei _,λh=>by cases h⟩;rw[append_nil,hs,hr];exact trodAll_mk1 (shut_bool hb true);rw[append_nil,hs];exact yZ hl hp aei h1 a8 (λx hx=>by simpa using a8 x hx);rw[hv,append_nil,hs];rfl
end
def aa7(P:Program)(rec:TypeId->Option (List CK)):List Field->Nat->Option (List CK)
 |[],_=>some []|f::fs,off=>match rec f.type with
  |some cs=>bif f.offset.beq off&&(P.cellsOf f.type).beq (CL.wide cs)then(aa7 P rec fs (off+CL.wide cs)).map (cs++ ·)else none|none=>none
def rM(P:Program):Nat->TypeId->Option (List CK)
 |0,_=>none|d+1,t=>
  match P.underlying t with
  |some (.int k)=>some [.int k]|some .bool=>some [.bool]|some .string=>some [.str]|some (.slice e)=>(match P.underlying e with
   |some (.int k)=>bif (P.cellsOf e).beq 1 then some [.ay k]else none|some .string=>bif (P.cellsOf e).beq 1 then some [.strs]else none|some .bool=>bif (P.cellsOf e).beq 1 then some [.bM]else none|_=>(rM P d e).bind λcs=>bif (P.cellsOf e).beq (CL.wide cs)&&(1:Nat).ble (CL.wide cs)then some [.rows cs]else none)
  |some (.struct fs)=>(aa7 P (rM P d) fs.toList 0).bind λcs=>bif (P.cellsOf t).beq (CL.wide cs)then some cs else none|some (.array n e)=>(match P.underlying e with
   |some (.int k)=>bif (P.cellsOf e).beq 1&&(P.cellsOf t).beq n then some [.arr k n]else none|_=>none)
  |_=>none
mutual
def CK.wf:(c:CK)->c.V->Prop
 |.int k,n=>(Lit.int k n).wf=true|.bool,_=>True|.str,s=>ByteArray.size s<=maxLen|.ay k,zs=>List.length (show List Int from zs)<=maxLen/\∀n∈(show List Int from zs),(Lit.int k n).wf=true|.strs,ss=>List.length (show List ByteArray from ss)<=maxLen/\∀s∈(show List ByteArray from ss),s.size<=maxLen|.bM,bs=>List.length (show List Bool from bs)<=maxLen|.rows cs,xs=>List.length (show List (CL cs)from xs)<=maxLen/\∀x∈(show List (CL cs)from xs),CL.wf cs x|.arr k n,ws=>List.length (α:=Int) ws=n/\∀m∈(show List Int from ws),(Lit.int k m).wf=true
def CL.wf:(cs:List CK)->CL cs->Prop
 |[],_=>True|c::cs,x=>c.wf x.1/\CL.wf cs x.2
end
def CL.app:(aI:List CK)->{bs:List CK}->CL aI->CL bs->CL (aI++bs)
 |[],_,_,y=>y|_::aI,_,x,y=>(x.1,CL.app aI x.2 y)
theorem CL.aa8:∀(aI bs:List CK),CL.wide (aI++bs)=CL.wide aI+CL.wide bs
 |[],bs=>by simp[CL.wide]
 |a::aI,bs=>by simp only[cons_append,CL.wide,CL.aa8 aI bs];omega
theorem y3{i n:Nat}(h:i<n):i.blt n=true:=by simpa[Nat.blt,Nat.lt_iff_add_one_le]using h
theorem acR{i n:Nat}(h:n<=i):i.blt n=false:=by
 cases hb:i.blt n;rfl;have:i<n:=by simpa[Nat.blt,Nat.lt_iff_add_one_le]using hb
 omega
theorem CL.xS:∀(aI:List CK) {bs:List CK} (x:CL aI) (y:CL bs) {j:Nat},j<CL.wide aI->CL.cell (aI++bs) (CL.app aI x y) j=CL.cell aI x j
 |[],_,_,_,j,h=>by simp[CL.wide]at h
 |a::aI,bs,x,y,j,h=>by
  simp only[cons_append,CL.cell,CL.app];rcases lt_or_ge j a.wide with h1|h1;rw[y3 h1];rfl;rw[acR h1];simp only[cond_false];exact CL.xS aI x.2 y (by simp only[CL.wide]at h;omega)
theorem CL.xT:∀(aI:List CK) {bs:List CK} (x:CL aI) (y:CL bs) {j:Nat},CL.wide aI<=j->CL.cell (aI++bs) (CL.app aI x y) j=CL.cell bs y (j - CL.wide aI)
 |[],_,_,_,j,h=>by simp[CL.wide,CL.app]
 |a::aI,bs,x,y,j,h=>by
  simp only[CL.wide]at h;simp only[cons_append,CL.cell,CL.app];rw[acR (by omega)];simp only[cond_false,CL.wide];rw[CL.xT aI x.2 y (by omega)];congr 1;omega
theorem CL.aiO:∀(aI:List CK) {bs:List CK} (x:CL aI) (y:CL bs),CL.wf aI x->CL.wf bs y->CL.wf (aI++bs) (CL.app aI x y)
 |[],_,_,_,_,h=>h|a::aI,bs,x,y,h1,h2=>by
  simp only[CL.wf]at h1;simp only[cons_append,CL.wf,CL.app];exact⟨h1.1,CL.aiO aI x.2 y h1.2 h2⟩
theorem ao0{α β:Type}(f:α->β)(xs:List α)(d:β)(da:α){i:Nat}(hi:i<xs.length):(xs.map f).getD i d=f (xs.getD i da):=by simp[List.getD,hi]
theorem y4{α:Type}{p:Nat->α->Prop}:∀(n:Nat),(∀i,i<n->∃y,p i y)->∃xs:List α,xs.length=n/\∀i (h:i<xs.length),p i xs[i]
 |0,_=>⟨[],rfl,λi h=>by simp at h⟩
 |n+1,h=>by
  have⟨xs,h1,h2⟩:=y4 n (λi hi=>h i (by omega));have⟨y,hy⟩:=h n (by omega);refine⟨xs++[y],by simp[h1],λi hi=> ?_⟩;by_cases a8:i<xs.length;rw[List.getElem_append_left a8];exact h2 i a8;have:i=n:=by simp at hi;omega
  subst this;rw[List.getElem_append_right (by omega)];simpa[h1]using hy
section
variable{H:Type}{enc:TypeId×Value->H}{P:Program}{W:World}{base:Nat}{ρ:Nat->Value}{Hh:aJ}
abbrev FD(W:World)(cs:List CK)(y:CL cs)(get:Nat->Option Value):Prop:=∀j,j<CL.wide cs->∃u,get j=some u/\aX (λ_=>False) W (CL.cell cs y j) u
def RK.ck:RK->CK
 |.ay k=>.ay k|.strs=>.strs|.bM=>.bM|.ab cs=>.rows cs
def B.ck:B->CK
 |.int k=>.int k|.bool=>.bool|.str=>.str|.row r _=>r.ck|.gR r _=>r.ck|.arr k n=>.arr k n|.fn=>.bool
def B.al7:B->Bool
 |.fn=>false|_=>true
def RK.of:(r:RK)->r.ck.V->r.V
 |.ay _,y=>y|.strs,y=>y|.bM,y=>y|.ab _,y=>y
def B.of:(b:B)->b.ck.V->b.V
 |.int _,y=>y|.bool,y=>y|.str,y=>y|.row r _,y=>r.of y|.gR r _,y=>r.of y|.arr _ _,y=>y|.fn,_=>(0:Nat)
def RK.wf:(r:RK)->r.V->Prop
 |.ay k,x=>∀n∈x,(Lit.int k n).wf=true|.strs,x=>∀s∈x,ByteArray.size s<=maxLen|.bM,_=>True|.ab cs,x=>∀y∈x,CL.wf cs y
def B.wf:(b:B)->b.V->Prop
 |.int k,n=>(Lit.int k n).wf=true|.str,s=>ByteArray.size s<=maxLen|.row r _,x=>r.wf x|.gR r _,x=>r.wf x|.arr k n,ws=>List.length (α:=Int) ws=n/\∀m∈(show List Int from ws),(Lit.int k m).wf=true|_,_=>True
def BL.wf:(bs:List B)->BL bs->Prop
 |[],_=>True|b::bs,(x,y)=>b.wf x/\BL.wf bs y
def Ty.wf:(t:Ty)->t.V->Prop
 |.b q,x=>q.wf x|.st bs,x=>BL.wf bs x
def BL.of:(bs:List B)->CL (bs.map B.ck)->BL bs
 |[],_=>()|b::bs,y=>(b.of y.1,BL.of bs y.2)
theorem B.anw{b:B}{y:b.ck.V}(h:CK.wf b.ck y):b.wf (b.of y):=by
 cases b with
 |int k=>exact h|bool=>trivial|str=>exact h|row r e=>cases r<;>first|exact h.2|trivial
 |gR r e=>cases r<;>first|exact h.2|trivial
 |arr k n=>exact h|fn=>trivial
theorem B.u6{b:B}(hb:b.al7=true){y:b.ck.V}(hy:CK.wf b.ck y){cells:List Value}(hl:cells.length=b.ck.wide)(h:∀j,j<b.ck.wide->∃u,cells[j]? =some u/\aX (λ_=>False) W (b.ck.cell y j) u):
 aN ρ Hh (λ_=>False) W (b.av (b.of y)) cells:=by
 have one:b.ck.wide=1->∃u,cells=[u]/\aX (λ_=>False) W (b.ck.cell y 0) u:=by
  intro h1;have⟨u,h2,h3⟩:=h 0 (by omega);rw[h1]at hl
  match cells,hl with
  |[v],_=>simp only[List.getElem?_cons_zero,Option.some.injEq]at h2;subst h2;exact⟨v,rfl,h3⟩
 cases b with
 |int k=>obtain⟨u,rfl,h2⟩:=one rfl;show aN _ _ _ _ (.s (.int k y)) _;unfold aN;exact⟨u,rfl,h2⟩
 |bool=>obtain⟨u,rfl,h2⟩:=one rfl;show aN _ _ _ _ (.s (.bool y)) _;unfold aN;exact⟨u,rfl,h2⟩
 |str=>obtain⟨u,rfl,h2⟩:=one rfl;show aN _ _ _ _ (.s (.str y)) _;unfold aN;exact⟨u,rfl,h2⟩
 |row r e=>
  obtain⟨u,rfl,h2⟩:=one (by cases r<;>rfl);show aN _ _ _ _ (.s (.ro (r.ta (r.of y)))) _;unfold aN;exact⟨u,rfl,by cases r<;>exact h2⟩
 |gR r e=>
  obtain⟨u,rfl,h2⟩:=one (by cases r<;>rfl);show aN _ _ _ _ (.s (.ro (r.ta (r.of y)))) _;unfold aN;exact⟨u,rfl,by cases r<;>exact h2⟩
 |arr k n=>
  show aN _ _ _ _ (.ay k n y) _;unfold aN
  have key:∀ys:List Int,ys.length=n->(∀j,j<n->∃u,cells[j]? =some u/\aX (λ_=>False) W (.int k (ys.getD j 0)) u)->cells.length=n->cells=ys.map (Value.int k):=by
   intro ys h1 h2 h3;refine List.ext_getElem (by rw[h3,length_map,h1]) λj h4 h5=> ?_;have⟨u,h6,h7⟩:=h2 j (by omega);cases h7;rw[getElem?_eq_getElem h4,Option.some.injEq]at h6;rw[h6,List.getElem_map];congr 1;simp[List.getD,show j<ys.length by omega]
  exact⟨hy.1,key y hy.1 h hl⟩
 |fn=>cases hb
theorem BL.u6:∀{bs:List B},bs.all B.al7=true->∀{y:CL (bs.map B.ck)},CL.wf (bs.map B.ck) y->∀{cells:List Value},cells.length=CL.wide (bs.map B.ck)->(FD W (bs.map B.ck) y λj=>cells[j]?)->
 BL.wf bs (BL.of bs y)/\aA ρ Hh (λ_=>False) W (BL.av bs (BL.of bs y)) cells
 |[],_,y,_,cells,hl,_=>⟨trivial,aB.2 (List.eq_nil_of_length_eq_zero hl)⟩|b::bs,hb,y,hy,cells,hl,h=>by
  simp only[all_cons,and_eq_true]at hb;simp only[map_cons,CL.wide]at hl;have hy:CK.wf b.ck y.1/\CL.wf (bs.map B.ck) y.2:=hy;have h:∀j,j<b.ck.wide+CL.wide (bs.map B.ck)->∃u,cells[j]? =some u/\aX (λ_=>False) W (bif j.blt b.ck.wide then b.ck.cell y.1 j else CL.cell (bs.map B.ck) y.2 (j - b.ck.wide)) u:=h
  have⟨h1,h2⟩:=BL.u6 hb.2 (y:=y.2) hy.2 (cells:=cells.drop b.ck.wide) (by rw[length_drop];omega) (λj hj=>by
   have⟨u,h3,h4⟩:=h (b.ck.wide+j) (by omega);rw[acR (by omega),cond_false,Nat.add_sub_cancel_left]at h4;exact⟨u,by dsimp only;rw[List.getElem?_drop];exact h3,h4⟩)
  refine⟨⟨B.anw hy.1,h1⟩,ah.2 ⟨cells.take b.ck.wide,cells.drop b.ck.wide,(List.take_append_drop _ _).symm,B.u6 hb.1 hy.1 (by rw[length_take];omega) (λj hj=> ?_),h2⟩⟩;have⟨u,h3,h4⟩:=h j (by omega);rw[y3 hj,cond_true]at h4;exact⟨u,by rw[getElem?_take,if_pos hj];exact h3,h4⟩
def Ty.lay(P:Program)(t:TypeId):Ty->Bool
 |.b q=>q.al7&&(rM P 12 t).any (λcs=>(CL.eq cs [q.ck]).isSome)&&(match P.underlying t,q with
  |some (.array _ _),.arr _ _=>true|some (.struct _),_=>false|some (.array _ _),_=>false|_,.arr _ _=>false|_,_=>true)
 |.st bs=>bs.all B.al7&&(rM P 12 t).any (λcs=>(CL.eq cs (bs.map B.ck)).isSome)&&(match P.underlying t with
  |some (.struct _)=>true|_=>false)
theorem aiP{d:Nat}{t:TypeId}{e9:List CK}(h:(rM P d t).any (λcs=>(CL.eq cs e9).isSome)=true):rM P d t=some e9:=by
 cases hl:rM P d t with
 |none=>simp[hl]at h|some cs=>
  rw[hl,Option.any_some]at h;have⟨e,_⟩:=isSome_iff_exists.1 h;rw[e.down]
theorem u7{Z:aP}{f:FuncId}{ts:List Ty}{pre:AL ts->List Prop}(h:cf P Z f ts [.b .bool] pre (λ_=>(true,())))(hz:Z.ok W){x:AL ts}{vs:List Value}(hp:bd (pre x))
 (hd:bH (λ_=>undef) (λ_=>none) (λ_=>False) W (AL.av ts x) vs):Calls P f vs.toArray W λe W'=>e=.returned (.bool true)/\afP W W':=by
 have e0:aV (λ_=>undef) (λ_=>none) (λ_=>False)=λ_=>False:=by
  funext b;refine propext ⟨λh=> ?_,False.elim⟩;rcases h with⟨id,o,ho,_⟩|h;cases ho;exact h
 refine(h x (AL.okL hd) hp (λ_=>False) W vs (λ_ h=>h.elim) hz (by rw[e0];exact hd)).mono ?_;rintro e W' ⟨v,rfl,aO,_,h2,_,h4⟩;have h5:ae aO (lk []) (aV aO (lk []) λ_=>False) W' (.s (.bool true)) v:=h2;have h6:=aw (by simp) h5;cases h6;exact⟨rfl,h4.os,h4.output,λb hb=>h4.heap b hb (λ⟨id,o,ho,_⟩=>by cases ho)⟩
end
def qb:IntKind->Nat
 |.u8=>1|.i8=>1|.u16=>2|.i16=>2|.u32=>4|.i32=>4|_=>8
def CK.room:CK->Nat×Nat
 |.int k=>(qb k,qb k)|.bool=>(1,1)|.str=>(16,8)|.arr k n=>(n*qb k,qb k)|_=>(24,8)
def arl(n a:Nat):Nat:=(n+a - 1) / a*a
def CL.aej:List CK->Nat->Nat->Nat
 |[],off,al=>arl off al|c::cs,off,al=>CL.aej cs (arl off c.room.2+c.room.1) (max al c.room.2)
def CL.bytes(cs:List CK):Nat:=CL.aej cs 0 1
def acS(P:Program):Nat->TypeId->Bool
 |0,_=>true|d+1,t=>
  match P.underlying t with
  |some (.slice e)=>(match P.underlying e with
   |some (.int k)=>(P.bytesOf e).beq (CL.bytes [.int k])|some .string=>(P.bytesOf e).beq (CL.bytes [.str])|some .bool=>(P.bytesOf e).beq (CL.bytes [.bool])|_=>(match rM P d e with
    |some cs=>(P.bytesOf e).beq (CL.bytes cs)|none=>true)&&acS P d e)
  |some (.struct fs)=>fs.toList.all λf=>acS P d f.type|_=>true
mutual
def CK.cJ(N:Nat):(c:CK)->c.V->Prop
 |.ay k,zs=>List.length (show List Int from zs)*CL.bytes [.int k]<=N|.strs,ss=>List.length (show List ByteArray from ss)*CL.bytes [.str]<=N|.bM,bs=>List.length (show List Bool from bs)*CL.bytes [.bool]<=N|.rows cs,xs=>List.length (show List (CL cs)from xs)*CL.bytes cs<=N/\∀x∈(show List (CL cs)from xs),CL.cJ N cs x|.int _,_=>True|.bool,_=>True|.str,_=>True|.arr _ _,_=>True
def CL.cJ(N:Nat):(cs:List CK)->CL cs->Prop
 |[],_=>True|c::cs,x=>c.cJ N x.1/\CL.cJ N cs x.2
end
def CK.hv(N:Nat)(c:CK)(y:c.V):Prop:=CK.wf c y/\CK.cJ N c y
def CL.hv(N:Nat)(cs:List CK)(y:CL cs):Prop:=CL.wf cs y/\CL.cJ N cs y
theorem CL.xU{N:Nat}:∀(aI:List CK) {bs:List CK} (x:CL aI) (y:CL bs),CL.cJ N aI x->CL.cJ N bs y->CL.cJ N (aI++bs) (CL.app aI x y)
 |[],_,_,_,_,h=>h|_::aI,_,x,y,h,k=>⟨h.1,CL.xU aI x.2 y h.2 k⟩
theorem CL.ao1{N:Nat}(aI:List CK){bs:List CK}(x:CL aI)(y:CL bs)(h:CL.hv N aI x)(k:CL.hv N bs y):CL.hv N (aI++bs) (CL.app aI x y):=
 ⟨CL.aiO aI x y h.1 k.1,CL.xU aI x y h.2 k.2⟩
def Wok{H:Type}(P:Program)(N:Nat)(t:TypeId)(d:DataW H):Prop:=∀m∈DataW.weights P t d,m<=N
theorem aa9{H:Type}{P:Program}{e:TypeId}{d:DataW H}{m:Nat}:∀{l:List (DataW H)},d∈l->m∈DataW.weights P e d->m∈DataW.weightsAll P e l
 |x::l,h,hm=>by
  simp only[DataW.weightsAll,mem_append];rcases mem_cons.1 h with rfl|h;exact .inl hm;exact .inr (aa9 h hm)
theorem rN{H:Type}{P:Program}{m:Nat}:∀{ts:List TypeId} {l:List (DataW H)} {i:Nat} {t:TypeId} {d:DataW H},ts[i]? =some t->l[i]? =some d->m∈DataW.weights P t d->m∈DataW.weightsEach P ts l
 |[],_,i,_,_,h,_,_=>by simp at h
 |_::_,[],i,_,_,_,h,_=>by simp at h
 |a::ts,x::l,0,t,d,h,h2,hm=>by
  simp only[List.getElem?_cons_zero,Option.some.injEq]at h h2;subst h h2;simp only[DataW.weightsEach,mem_append];exact .inl hm
 |a::ts,x::l,i+1,t,d,h,h2,hm=>by
  simp only[List.getElem?_cons_succ]at h h2;simp only[DataW.weightsEach,mem_append];exact .inr (rN h h2 hm)
section
variable{H:Type}{enc:TypeId×Value->H}{P:Program}{W:World}{base:Nat}{ρ:Nat->Value}{Hh:aJ}{N:Nat}
theorem aba{d n:Nat}{cells:List Value}(ih:∀{t:TypeId} {cs:List CK} {fuel:Nat} {cells:List Value} {x:DataW H×List MemPlace},rM P d t=some cs->acS P d t=true->DataW.trod enc P W 0 (λ_=>true) true fuel t cells=some x->Wok P N t x.1->
 cells.length=CL.wide cs/\∃y:CL cs,CL.hv N cs y/\FD W cs y λj=>cells[j]?):
 ∀(fs:List Field) {off:Nat} {cs:List CK},aa7 P (rM P d) fs off=some cs->(∀f∈fs,acS P d f.type=true/\∃x,DataW.trod enc P W 0 (λ_=>true) true n f.type ((cells.drop f.offset).take (P.cellsOf f.type))=some x/\Wok P N f.type x.1)->
  ∃y:CL cs,CL.hv N cs y/\FD W cs y λj=>cells[off+j]?
 |[],off,cs,h,_=>by
  simp only[aa7,Option.some.injEq]at h;subst h;exact⟨(),⟨trivial,trivial⟩,λj hj=>by simp[CL.wide]at hj⟩
 |f::fs,off,cs,h,hx=>by
  simp only[aa7]at h;split at h;rename_i c1 hc1;rw[Bool.cond_eq_ite]at h;split at h;rename_i hb;simp only[and_eq_true,beq_eq]at hb;have⟨ho,hw⟩:=hb;obtain⟨c2,hc2,rfl⟩:=map_eq_some_iff.1 h;have⟨hwy,x,hf,hfN⟩:=hx f (by simp);have⟨h1,y1,h2,h3⟩:=ih hc1 hwy hf hfN;have⟨y2,h4,h5⟩:=aba ih fs hc2 (λg hg=>hx g (by simp[hg]));refine⟨CL.app c1 y1 y2,CL.ao1 c1 y1 y2 h2 h4,λj hj=> ?_⟩;rw[CL.aa8]at hj;rcases lt_or_ge j (CL.wide c1)with h6|h6;have⟨u,h7,h8⟩:=h3 j h6;refine⟨u, ?_,by rw[CL.xS c1 y1 y2 h6];exact h8⟩;dsimp only at h7 ⊢;rw[getElem?_take,if_pos (by omega),List.getElem?_drop,ho]at h7;exact h7;have⟨u,h7,h8⟩:=h5 (j - CL.wide c1) (by omega);refine⟨u, ?_,by rw[CL.xT c1 y1 y2 h6];exact h8⟩;dsimp only at h7 ⊢;rw[show off+j=off+CL.wide c1+(j - CL.wide c1)from by omega];exact h7;cases h;cases h
theorem nL{t e:TypeId}{cs:List CK}{fuel:Nat}{cells:List Value}{x:DataW H×List MemPlace}(ht:P.underlying t=some (.slice e))(hw:P.cellsOf e=CL.wide cs)(h1:1<=CL.wide cs)(hby:P.bytesOf e=CL.bytes cs)
 (ih:∀{fuel:Nat} {cells:List Value} {x:DataW H×List MemPlace},DataW.trod enc P W 0 (λ_=>true) true fuel e cells=some x->Wok P N e x.1->cells.length=CL.wide cs/\∃y:CL cs,CL.hv N cs y/\FD W cs y λj=>cells[j]?)
 (h:DataW.trod enc P W 0 (λ_=>true) true fuel t cells=some x) (hB:Wok P N t x.1):
 ∃(v:Value) (xs:List (CL cs)),cells=[v]/\xs.length<=maxLen/\xs.length*CL.bytes cs<=N/\(∀y∈xs,CL.hv N cs y)/\aX (λ_=>False) W (.ro (.ab cs xs)) v:=by
 rcases DataW.trod_slice ht h with⟨rfl,_⟩|⟨a,len,cap,elems,rest,n,_,rfl,hxx,_,hl,hm,bL,hel,_,_⟩;exact⟨_,[],rfl,zero_le _,by simp,by simp,.ro (.ab cs []) none 0 (λ_ _=>undef) 0 0 (le_refl _) (zero_le _) (λh=>by simp[aS.n]at h) (λi j hi hj=>by simp[aS.n]at hi) (λi j hi hj=>by simp[aS.n]at hi)⟩;rw[hxx]at hB
 have hlN:len*CL.bytes cs<=N:=by
  have h0:=hB ((elems.length+rest.length)*P.bytesOf e) (by simp[DataW.weights,ht]);rw[hby,add_mul]at h0;rw[show elems.length=len by omega]at h0;omega
 have each:∀i,i<len->∃y:CL cs,CL.hv N cs y/\FD W cs y λj=>W.cell? ((a.add (i*CL.wide cs)).add j):=by
  intro i hi;have h2:=hel i hi;rw[getElem?_eq_getElem (by omega),hw]at h2;have⟨cl,h3,h4⟩:=bind_eq_some_iff.1 h2;have⟨_,h5,h6⟩:=World.cells?_some h3
  have⟨_,y,h7,h8⟩:=ih h4 (λm hm=>hB m (by
   simp only[DataW.weights,ht];exact List.mem_cons_of_mem _ (mem_append.2 (.inl (aa9 (mem_map.2 ⟨elems[i],getElem_mem (by omega),rfl⟩) hm)))))
  refine⟨y,h7,λj hj=> ?_⟩;have⟨u,h9,iz⟩:=h8 j hj;exact⟨u,by dsimp only;rw[h6 j (by omega)];exact h9,iz⟩
 have⟨xs,hx1,hx2⟩:=y4 len each;refine⟨_,xs,rfl,by omega,by rw[hx1];exact hlN,λy hy=> ?_, ?_⟩;obtain⟨i,hi,rfl⟩:=List.getElem_of_mem hy;exact(hx2 i hi).1;have hn:(aS.ab cs xs).n=len:=hx1;rcases Nat.eq_zero_or_pos len with h0|h0;have key:=aX.ro (O:=λ_=>False) (w:=W) (.ab cs xs) (some a) cap (λ_ _=>undef) 0 0 (by omega) hm (λh=>by omega) (λi j hi hj=>by omega) (λi j hi hj=>by omega);rw[hn]at key;exact key
 have anx:a.spot=none:=by
  have⟨u,h9,_⟩:=(hx2 0 (by omega)).2 0 (by omega);simpa[Addr.add]using World.cell?_spot h9
 have⟨b,off,spot⟩:=a;simp only at anx;subst anx
 have hc:∀i j,i<len->j<CL.wide cs->∃u,W.cell? ⟨b,off+i*CL.wide cs+j,none⟩=some u/\aX (λ_=>False) W (CL.cell cs (xs.getD i (CL.d cs)) j) u:=by
  intro i j hi hj;have⟨u,h9,iz⟩:=(hx2 i (by omega)).2 j hj;dsimp only at h9;rw[a7,a7]at h9;exact⟨u,h9,by simpa[List.getD,hx1,hi]using iz⟩
 have key:=aX.ro (O:=λ_=>False) (w:=W) (.ab cs xs) (some ⟨b,off,none⟩) cap (λi j=>(W.cell? ⟨b,off+i*CL.wide cs+j,none⟩).getD undef) b off (by omega) hm (λ_=>⟨rfl,λh=>h, ?_⟩) (λi j hi hj=> ?_) (λi j hi hj=> ?_);rw[hn]at key;exact key;have⟨u,h9,_⟩:=hc 0 0 h0 (by omega);rcases lt_or_ge b W.heap.size with h2|h2;exact h2;simp[World.cell?,Array.getElem?_eq_none h2]at h9;have⟨u,h9,_⟩:=hc i j (by omega) hj;show W.cell? ⟨b,off+i*CL.wide cs+j,none⟩=_;rw[h9];rfl;have⟨u,h9,iz⟩:=hc i j (by omega) hj;rw[h9];exact iz
theorem qc:∀(d:Nat) {t:TypeId} {cs:List CK} {fuel:Nat} {cells:List Value} {x:DataW H×List MemPlace},rM P d t=some cs->acS P d t=true->DataW.trod enc P W 0 (λ_=>true) true fuel t cells=some x->Wok P N t x.1->
 cells.length=CL.wide cs/\∃y:CL cs,CL.hv N cs y/\FD W cs y λj=>cells[j]?
 |0,t,cs,fuel,cells,x,h,_,_,_=>by simp[rM]at h
 |d+1,t,cs,fuel,cells,x,h,hg,hd,hB=>by
  simp only[rM]at h;simp only[acS]at hg
  have one:∀{c:CK} {v:Value} (y:c.V),c.wide=1->CK.hv N c y->aX (λ_=>False) W (c.cell y 0) v->([v]:List Value).length=CL.wide [c]/\∃y:CL [c],CL.hv N [c] y/\FD W [c] y λj=>([v]:List Value)[j]? :=by
   intro c v y hw hy hv;refine⟨by simp[CL.wide,hw],(y,()),⟨⟨hy.1,trivial⟩,⟨hy.2,trivial⟩⟩,λj hj=> ?_⟩;simp only[CL.wide,hw]at hj;obtain rfl:j=0:=by omega
   refine⟨v,rfl, ?_⟩;simp only[CL.cell,hw];exact hv
  split at h;rename_i k ht;simp only[Option.some.injEq]at h;subst h;obtain⟨n,rfl,_,hw⟩:=DataW.trod_int ht hd;exact one (c:=.int k) n rfl ⟨hw,trivial⟩ (.int k n);rename_i ht;simp only[Option.some.injEq]at h;subst h;obtain⟨b,rfl,_⟩:=DataW.trod_bool ht hd;exact one (c:=.bool) b rfl ⟨trivial,trivial⟩ (.bool b);rename_i ht;simp only[Option.some.injEq]at h;subst h;obtain⟨s,rfl,_,hs⟩:=DataW.trod_string ht hd;exact one (c:=.str) s rfl ⟨hs,trivial⟩ (.str s);rename_i e ht;split at h;rename_i k he;rw[Bool.cond_eq_ite]at h;split at h;rename_i hw;have hw:P.cellsOf e=1:=by simpa using hw
  simp only[Option.some.injEq]at h;subst h
  obtain⟨v,xs,rfl,h0,h0N,h1,h2⟩:=nL (cs:=[.int k]) ht hw (le_refl _) (by rw[ht]at hg;simp only[he]at hg;simpa using hg) (λ{fuel cells x} hx _=>by
   obtain⟨n,rfl,_,hwf⟩:=DataW.trod_int he hx;exact one (c:=.int k) n rfl ⟨hwf,trivial⟩ (.int k n)) hd hB
  refine one (c:=.ay k) (xs.map λy:CL [.int k]=>(show Int from y.1)) rfl ⟨⟨by rw[length_map];exact h0,λn hn=> ?_⟩,by show List.length (List.map _ xs)*_<=N;rw[length_map];exact h0N⟩ (l7 (c:=.ab [.int k] xs) ?_ rfl ?_ h2);obtain⟨y,hy,rfl⟩:=mem_map.1 hn;exact(h1 y hy).1.1;exact length_map _;intro i j hi hj;have hj:j<1:=hj;obtain rfl:j=0:=by omega
  have hi:i<xs.length:=hi;exact congrArg (SV.int k) (ao0 (λy:CL [.int k]=>(show Int from y.1)) xs 0 (CL.d [.int k]) hi);cases h;rename_i he;rw[Bool.cond_eq_ite]at h;split at h;rename_i hw;have hw:P.cellsOf e=1:=by simpa using hw
  simp only[Option.some.injEq]at h;subst h
  obtain⟨v,xs,rfl,h0,h0N,h1,h2⟩:=nL (cs:=[.str]) ht hw (le_refl _) (by rw[ht]at hg;simp only[he]at hg;simpa using hg) (λ{fuel cells x} hx _=>by
   obtain⟨n,rfl,_,hwf⟩:=DataW.trod_string he hx;exact one (c:=.str) n rfl ⟨hwf,trivial⟩ (.str n)) hd hB
  refine one (c:=.strs) (xs.map λy:CL [.str]=>(show ByteArray from y.1)) rfl ⟨⟨by rw[length_map];exact h0,λn hn=> ?_⟩,by show List.length (List.map _ xs)*_<=N;rw[length_map];exact h0N⟩ (l7 (c:=.ab [.str] xs) ?_ rfl ?_ h2);obtain⟨y,hy,rfl⟩:=mem_map.1 hn;exact(h1 y hy).1.1;exact length_map _;intro i j hi hj;have hj:j<1:=hj;obtain rfl:j=0:=by omega
  have hi:i<xs.length:=hi;exact congrArg (SV.str) (ao0 (λy:CL [.str]=>(show ByteArray from y.1)) xs empty (CL.d [.str]) hi);cases h;rename_i he;rw[Bool.cond_eq_ite]at h;split at h;rename_i hw;have hw:P.cellsOf e=1:=by simpa using hw
  simp only[Option.some.injEq]at h;subst h
  obtain⟨v,xs,rfl,h0,h0N,h1,h2⟩:=nL (cs:=[.bool]) ht hw (le_refl _) (by rw[ht]at hg;simp only[he]at hg;simpa using hg) (λ{fuel cells x} hx _=>by
   obtain⟨n,rfl,_⟩:=DataW.trod_bool he hx;exact one (c:=.bool) n rfl ⟨trivial,trivial⟩ (.bool n)) hd hB
  refine one (c:=.bM) (xs.map λy:CL [.bool]=>(show Bool from y.1)) rfl ⟨by show List.length (List.map _ xs)<=maxLen;rw[length_map];exact h0,by show List.length (List.map _ xs)*_<=N;rw[length_map];exact h0N⟩ (l7 (c:=.ab [.bool] xs) ?_ rfl ?_ h2);exact length_map _;intro i j hi hj;have hj:j<1:=hj;obtain rfl:j=0:=by omega
  have hi:i<xs.length:=hi;exact congrArg (SV.bool) (ao0 (λy:CL [.bool]=>(show Bool from y.1)) xs false (CL.d [.bool]) hi);cases h;rename_i hni jL hnb;have⟨e9,h1,h2⟩:=bind_eq_some_iff.1 h;rw[Bool.cond_eq_ite]at h2;split at h2;rename_i hb;simp only[and_eq_true,beq_eq]at hb;have⟨hw,hw1⟩:=hb;have hw1:=le_of_ble_eq_true hw1;simp only[Option.some.injEq]at h2;subst h2
  obtain⟨v,xs,rfl,h0,h0N,h3,h4⟩:=nL (cs:=e9) ht hw hw1 (by
   rw[ht]at hg;simp only[h1,and_eq_true]at hg;simpa using hg.1) (λhx hb=>qc d h1 (by
   rw[ht]at hg;simp only[h1,and_eq_true]at hg;exact hg.2) hx hb) hd hB
  exact one (c:=.rows e9) xs rfl ⟨⟨h0,λy hy=>(h3 y hy).1⟩,⟨h0N,λy hy=>(h3 y hy).2⟩⟩ h4;cases h2;rename_i fs ht;have⟨e9,h1,h2⟩:=bind_eq_some_iff.1 h;rw[Bool.cond_eq_ite]at h2;split at h2;rename_i hw;have hw:P.cellsOf t=CL.wide e9:=by simpa using hw
  simp only[Option.some.injEq]at h2;subst h2;have⟨xs,n,_,hxx,h3,h4,h5⟩:=DataW.trod_struct ht hd;rw[hxx]at hB
  have⟨y,h6,h7⟩:=aba (enc:=enc) (n:=n) (cells:=cells) (λh1 hg h2 hb=>qc d h1 hg h2 hb) fs.toList h1 (λf hf=>by
   obtain⟨i,hi,rfl⟩:=List.getElem_of_mem hf;have ep:i<fs.size:=by simpa using hi
   have:=h5 i fs[i] (Array.getElem?_eq_getElem ep);rw[getElem?_eq_getElem (by omega)]at this
   exact⟨by rw[ht]at hg;exact all_eq_true.1 hg _ hf,_,by simpa using this,λm hm=>hB m (by
    simp only[DataW.weights,ht];exact rN (i:=i) (by rw[getElem?_map,Array.getElem?_toList,Array.getElem?_eq_getElem ep];rfl) (by simp[getElem?_eq_getElem,show i<xs.length by omega]) hm)⟩)
  refine⟨by omega,y,h6,λj hj=> ?_⟩;have:=h7 j hj;simpa using this;cases h2;rename_i n e ht;split at h;rename_i k he;rw[Bool.cond_eq_ite]at h;split at h;rename_i hb;simp only[and_eq_true,beq_eq]at hb;have⟨hw,hwt⟩:=hb;simp only[Option.some.injEq]at h;subst h;have⟨xs,m,_,_,h1,h2,h3⟩:=DataW.trod_array ht hd
  have each:∀i,i<n->∃z:Int,(Lit.int k z).wf=true/\cells[i]? =some (.int k z):=by
   intro i hi;have h4:=h3 i hi;rw[getElem?_eq_getElem (by omega),hw]at h4;have⟨z,h5,_,h6⟩:=DataW.trod_int he h4;refine⟨z,h6, ?_⟩;have h7:((cells.drop (i*1)).take 1)[0]? =some (.int k z):=by rw[h5];rfl
   rw[getElem?_take,if_pos (by omega),List.getElem?_drop]at h7;simpa using h7
  have⟨zs,hz1,hz2⟩:=y4 n each;refine⟨by simp[CL.wide,CK.wide];omega,(zs,()),⟨⟨⟨hz1,λz hz=> ?_⟩,trivial⟩,⟨trivial,trivial⟩⟩,λj hj=> ?_⟩;obtain⟨i,hi,rfl⟩:=List.getElem_of_mem (show z∈zs from hz);exact(hz2 i hi).1;simp only[CL.wide,CK.wide,add_zero]at hj;refine⟨.int k zs[j],(hz2 j (by omega)).2, ?_⟩;simp only[CL.cell,CK.wide];rw[y3 hj];show aX _ _ (.int k (zs.getD j 0)) _;rw[show zs.getD j 0=zs[j]from by simp[List.getD,hz1,hj]];exact .int k _;cases h;cases h;cases h
def RK.cJ(N:Nat):(r:RK)->r.V->Prop
 |.ab cs,x=>List.length x*CL.bytes cs<=N/\∀y∈x,CL.cJ N cs y|_,_=>True
def B.cJ(N:Nat):(b:B)->b.V->Prop
 |.row r _,x=>RK.cJ N r x|.gR r _,x=>RK.cJ N r x|_,_=>True
def BL.cJ(N:Nat):(bs:List B)->BL bs->Prop
 |[],_=>True|b::bs,(x,y)=>B.cJ N b x/\BL.cJ N bs y
def Ty.cJ(N:Nat):(t:Ty)->t.V->Prop
 |.b q,x=>B.cJ N q x|.st bs,x=>BL.cJ N bs x
theorem B.nf{b:B}{y:b.ck.V}(h:CK.cJ N b.ck y):B.cJ N b (b.of y):=by
 cases b with
 |row r e=>cases r<;>first|exact h|trivial
 |gR r e=>cases r<;>first|exact h|trivial
 |_=>trivial
theorem BL.nf:∀{bs:List B} {y:CL (bs.map B.ck)},CL.cJ N (bs.map B.ck) y->BL.cJ N bs (BL.of bs y)
 |[],_,_=>trivial|_::_,_,h=>⟨B.nf h.1,BL.nf h.2⟩
theorem nM{t:TypeId}{ty:Ty}{v:Value}{d:DataW H}{ps:List MemPlace}(hl:ty.lay P t=true)(iF:Value.okWide P W .any base t v)(hd:DataW.Trod enc P W 0 (λ_=>true) true t v d ps)(hg:acS P 12 t=true)(hB:Wok P N t d):
 ∃x:ty.V,ty.wf x/\Ty.cJ N ty x/\ae ρ Hh (λ_=>False) W (ty.av x) v:=by
 have⟨fuel,hd⟩:=hd;cases ty with
 |st bs=>
  simp only[Ty.lay,and_eq_true]at hl;have⟨⟨h1,h2⟩,h3⟩:=hl;split at h3;rename_i fs ht;simp only[Value.okWide,ht]at iF;obtain⟨cs,rfl,_,_⟩:=iF;have⟨h4,y,h5,h6⟩:=qc 12 (aiP h2) hg hd hB;have⟨h7,h8⟩:=BL.u6 (ρ:=ρ) (Hh:=Hh) h1 h5.1 h4 h6;refine⟨BL.of bs y,h7,BL.nf h5.2, ?_⟩;show ae _ _ _ _ (.agg _) _;unfold ae;exact⟨cs.toList,by simp,h8⟩;cases h3
 |b q=>
  simp only[Ty.lay,and_eq_true]at hl;have⟨⟨h1,h2⟩,h3⟩:=hl;have⟨h4,y,h5,h6⟩:=qc 12 (aiP h2) hg hd hB;have h4:v.cells.toList.length=q.ck.wide:=by simpa[CL.wide]using h4
  have h5s:CK.cJ N q.ck y.1:=h5.2.1;have h5:CK.wf q.ck y.1:=h5.1.1
  have key:=B.u6 (ρ:=ρ) (Hh:=Hh) h1 h5 h4 (λj hj=>by
   have⟨u,h7,h8⟩:=h6 j (by simp only[CL.wide];omega);simp only[CL.cell]at h8;rw[y3 hj,cond_true]at h8;exact⟨u,h7,h8⟩)
  refine⟨q.of y.1,B.anw h5,B.nf h5s, ?_⟩;show ae _ _ _ _ (q.av _) _
  have single:(∀cs,v≠.agg cs)->(∀k n ws,q.av (q.of y.1)≠.ay k n ws)->ae ρ Hh (λ_=>False) W (q.av (q.of y.1)) v:=by
   intro hna hni;have hc:v.cells.toList=[v]:=by cases v<;>first|rfl|exact absurd rfl (hna _)
   rw[hc]at key;have⟨u,hu,_,kg⟩:=dV key (gx hni) hni;cases hu;exact kg
  by_cases arn:∃k n,q=.arr k n;obtain⟨k,n,rfl⟩:=arn
  obtain⟨n',e',ht⟩:∃n' e',P.underlying t=some (.array n' e'):=by
   cases hu:P.underlying t with
   |none=>simp[hu]at h3|some td=>cases td<;>simp[hu]at h3 ⊢
  simp only[Value.okWide,ht]at iF;obtain⟨cs,rfl,_,_⟩:=iF;have key:aN ρ Hh (λ_=>False) W (.ay k n y.1) cs.toList:=key;unfold aN at key;show ae _ _ _ _ (.ay k n y.1) _;unfold ae;exact⟨key.1,by rw[<-key.2]⟩
  have jL:(∀fs,P.underlying t≠some (.struct fs))/\∀n e,P.underlying t≠some (.array n e):=by
   cases hu:P.underlying t with
   |none=>simp|some td=>cases td<;>cases q<;>simp_all
  refine single (λcs hv=> ?_) (λk n ws he=> ?_);subst hv;unfold Value.okWide at iF;split at iF;rename_i fs ht;exact jL.1 fs ht;rename_i n e ht;exact jL.2 n e ht;simp only[Cell.okWide,Cell.ok]at iF;split at iF<;>simp_all;cases q<;>simp[B.av]at he;exact arn ⟨_,_,rfl⟩
theorem rO{ts:List TypeId}{ds:List (DataW H)}(h:(DataW.weightsEach P ts ds).all (· <=reachBytes)=true){j:Nat}{t:TypeId}{d:DataW H}(ht:ts[j]? =some t)(hd:ds[j]? =some d):Wok P reachBytes t d:=
 λm hm=>of_decide_eq_true (all_eq_true.1 h m (rN ht hd hm))
end
end Go.Sx
namespace Go.Sx
open Go
theorem aiQ(P:Program)(r:List (List Char))(h:behindMainWord (wordsSigns P.initOrder.toList)=[(Char.ofNat 99),(Char.ofNat 117),(Char.ofNat 116)]::r):P.make=some .cut:=by
 unfold Program.make;rw[h];kernel_rfl
theorem afS(P:Program)(r:List (List Char))(h:behindMainWord (wordsSigns P.initOrder.toList)=[(Char.ofNat 99),(Char.ofNat 117),(Char.ofNat 116)]::r)(hs:stripLifts liftWords ([(Char.ofNat 99),(Char.ofNat 117),(Char.ofNat 116)]::r)=([],[(Char.ofNat 99),(Char.ofNat 117),(Char.ofNat 116)]::r)):P.liftsFinal=false:=by
 unfold Program.liftsFinal Program.headLifts;rw[h];dsimp only;rw[hs];kernel_rfl
theorem afT(P:Program)(r:List (List Char))(h:behindMainWord (wordsSigns P.initOrder.toList)=[(Char.ofNat 99),(Char.ofNat 117),(Char.ofNat 116)]::r)(hs:stripLifts liftWords ([(Char.ofNat 99),(Char.ofNat 117),(Char.ofNat 116)]::r)=([],[(Char.ofNat 99),(Char.ofNat 117),(Char.ofNat 116)]::r))
 (h1:P.laysLater=false) (h2:P.bearsReflect=false) (h3:P.doorFits []=true):P.mayEnter=true:=by
 unfold Program.mayEnter;rw[h];dsimp only;rw[hs,h1,h2];dsimp only;rw[h3];kernel_rfl
def u9(P:Program)(f:FuncId)(fn:Func)(s:ChangeSpec)(c:OpenClaim):{b:Bool // P.mayEnter=true->P.liftsFinal=false->P.make=some .cut->joinedFacts P f fn s c=b}:=by
 refine⟨?b,λh1 h2 h3=> ?h⟩
 case h=>
  unfold joinedFacts;rw[h1,h2,h3]
theorem acT{P:Program}{f:FuncId}{fn:Func}{s:ChangeSpec}{c:OpenClaim}(r:List (List Char))(h:behindMainWord (wordsSigns P.initOrder.toList)=[(Char.ofNat 99),(Char.ofNat 117),(Char.ofNat 116)]::r)(hs:stripLifts liftWords ([(Char.ofNat 99),(Char.ofNat 117),(Char.ofNat 116)]::r)=([],[(Char.ofNat 99),(Char.ofNat 117),(Char.ofNat 116)]::r))
 (h1:P.laysLater=false) (h2:P.bearsReflect=false) (h3:P.doorFits []=true) (hr:(u9 P f fn s c).1=true):joinedFacts P f fn s c=true:=
 ((u9 P f fn s c).2 (afT P r h hs h1 h2 h3) (afS P r h hs) (aiQ P r h)).trans hr
end Go.Sx
namespace Go.Proofs.YtikelbaeckehgaaGreat.Hd
set_option maxRecDepth 100000 in
def ioL:List Char:=[104,97,114,110,101,115,115,32,54,51,98,97,99,51,100,56,101,101,102,52,50,57,53,54,49,97,97,57,51,49,97,53,54,97,50,49,100,50,50,51,97,49,57,50,99,49,51,51,49,51,98,57,99,49,52,52,54,50,52,101,56,55,49,54,52,99,99,48,49,52,52,50,32,99,117,116,32,97,116,32,99,97,108,108,98,111,97,114,100,47,99,97,108,108,98,111,97,114,100,108,97,119,49,55,46,71,114,97,112,104,79,117,116,119,97,114,100].map Char.ofNat
set_option maxRecDepth 100000 in
theorem ioE:Tryz.prog.initOrder=String.ofList ioL:=by kernel_rfl
theorem ioT:Tryz.prog.initOrder.toList=ioL:=by rw[ioE];exact String.toList_ofList
def aek:List (List Char):=(wordsSigns ioL).drop 3
theorem hb:behindMainWord (wordsSigns Tryz.prog.initOrder.toList)=[Char.ofNat 99,Char.ofNat 117,Char.ofNat 116]::aek:=by rw[ioT];kernel_rfl
theorem a1:Tryz.prog.laysLater=false:=by kernel_rfl
theorem a2:Tryz.prog.bearsReflect=false:=by kernel_rfl
theorem a3:stripLifts liftWords ([Char.ofNat 99,Char.ofNat 117,Char.ofNat 116]::aek)=([],[Char.ofNat 99,Char.ofNat 117,Char.ofNat 116]::aek):=by kernel_rfl
theorem a5:Tryz.prog.doorFits []=true:=by kernel_rfl
theorem ad:ownKnob Tryz.prog.godebug=none:=by kernel_rfl
theorem laidOut:laidOutB Tryz.prog=true:=by kernel_rfl
end Go.Proofs.YtikelbaeckehgaaGreat.Hd
namespace Go.Sx
open Go
structure Spec (X:Type)where
 args:X->List AV
 heap:X->List au
 pre:X->List Prop
 dG:X->List au
 out:X->AV
def ed(P:Program)(Z:aP)(f:FuncId){X:Type}(S:Spec X):Prop:=
 ∀x,bd (S.pre x)->∀(ρ:Nat->Value) (G:Nat->Prop) (w:World) (vs:List Value),ZAt Z ρ (lk (S.heap x)) w->Sat ρ (lk (S.heap x)) G w->
  bH ρ (lk (S.heap x)) (aV ρ (lk (S.heap x)) G) w (S.args x) vs->
  Calls P f vs.toArray w λe w'=>∃v,e=.returned v/\Good ρ (lk (S.heap x)) G w (lk (S.dG x)) (S.out x) v w'
def ki{X:Type}(S:Spec X)(x:X)(L:List au)(r:AV):Prop:=
 ∃N:Norm,(S.heap x).length<=N.m/\N.run ⟨[r],L,[],{}⟩=some ⟨[S.out x],S.dG x,[],{}⟩
def RM.bind{α β:Type}:RM α->(α->RM β)->RM β
 |.ret a,k=>k a|.look id f,k=>.look id λo=>(f o).bind k|.fail w,_=>.fail w
def qd:List Nat->(List au->RM bK)->RM bK
 |[],k=>k []|i::is,k=>.look i λo=>match o with
  |some o=>qd is λos=>k (o::os)|none=>.fail ""
def back(σ:List Nat)(base n:Nat)(j:Nat):Option Nat:=bif j.blt σ.length then σ[j]? else bif j.blt n then some (base+(j - σ.length))else none
def fm{X:Type}(S:Spec X)(M:List AV->RM (X×List Nat)):Nat->List AV->RM bK:=λbase args=>
 (M args).bind λ(x,σ)=>bif rJ σ then qd σ λos=>
   (match allM (rH (back σ base (S.dG x).length)) (S.dG x),rn (back σ base (S.dG x).length) 20 (S.out x)with
    |some L',some r=>bif σ.length.ble L'.length then
     .ret ⟨(allM (rn (idx σ) 20) args=some (S.args x))::(allM (rH (idx σ)) os=some (S.heap x))::S.pre x,σ.zip L',L'.drop σ.length,λ_=>r⟩else .fail ""
    |_,_=>.fail "")
  else .fail ""
section
variable{ρ aO:Nat->Value}{H H':aJ}{G O O':Nat->Prop}{w w':World}{P:Program}{Z:aP}{X:Type}{S:Spec X}
theorem RM.nP{α β:Type}:∀{m:RM α} {k:α->RM β} {q:β},(m.bind k).eval H=some q->∃a,m.eval H=some a/\(k a).eval H=some q
 |.ret a,k,q,h=>⟨a,rfl,h⟩|.look id f,k,q,h=>by
  simp only[RM.bind,RM.eval]at h ⊢;exact RM.nP h
 |.fail w,k,q,h=>by simp[RM.bind,RM.eval]at h
theorem jv:∀{is:List Nat} {k:List au->RM bK} {q:bK},(qd is k).eval H=some q->∃os:List au,(k os).eval H=some q/\os.length=is.length/\∀(j id:Nat),is[j]? =some id->H id=os[j]? /\os[j]?.isSome=true
 |[],k,q,h=>⟨[],h,rfl,λj id hj=>by simp at hj⟩
 |i::is,k,q,h=>by
  simp only[qd,RM.eval]at h;split at h;rename_i o ho;have⟨os,h1,h2,h3⟩:=jv h;refine⟨o::os,h1,by simp[h2],λj id hj=> ?_⟩;cases j with
  |zero=>simp only[List.getElem?_cons_zero,Option.some.injEq]at hj;subst hj;exact⟨by simpa using ho,rfl⟩
  |succ j=>simpa using h3 j id (by simpa using hj)
  simp[RM.eval]at h
theorem cz{f:FuncId}{fn:Func}(hf:P.funcs[f]? =some fn)(hb:fn.body.isSome=true)(hn:∀x,(S.args x).length≤fn.ntmps)
 (h:∀x,bd (S.pre x)→∀X:Ctx,X.H=lk (S.heap x)→cE Z X→Safe P f X (ki S x) (start fn (S.args x) (S.heap x))):ed P Z f S:=by
 intro x gz ρ G w vs hz hs hd;obtain⟨c,hb⟩:=isSome_iff_exists.1 hb
 have nc:vs.length=(S.args x).length:=by
  have:∀{aI:List AV} {vs:List Value},bH ρ (lk (S.heap x)) (aV ρ (lk (S.heap x)) G) w aI vs→vs.length=aI.length:=by
   intro aI
   induction aI with
   |nil=>intro vs h;rw[bc.1 h];rfl
   |cons a aI ih=>intro vs h;obtain⟨v,rest,rfl,_,h2⟩:=aG.1 h;simp[ih h2]
  exact this hd
 refine(iL (R:=iY ⟨ρ,lk (S.heap x),G,w,[],fun _ _=>False⟩ (ki S x)) hf hb ?_).mono ?_
 ·have:=(h x gz ⟨ρ,lk (S.heap x),G,w,[],fun _ _=>False⟩ rfl hz).al2 rfl rfl (ρ:=ρ) (a:={tmps:=vs.toArray++Array.replicate (fn.ntmps - vs.toArray.size) undef,defers:=[]}) (w:=w);simp only[start,hb,getD_some]at this;refine this ⟨hs, ?_,fun t=> ?_,rfl,Step.refl _ _ _ _,⟨rfl,rfl,rfl,fun _ _ _=>rfl⟩,fun x hx=>by cases hx⟩
  ·simp[nc]
  ·have e1:∀(aI:List AV) (vs:List Value),bH ρ (lk (S.heap x)) (aV ρ (lk (S.heap x)) G) w aI vs→∀t,ae ρ (lk (S.heap x)) (aV ρ (lk (S.heap x)) G) w (aI.getD t (.bO [])) (vs.getD t undef):=by
    intro aI
    induction aI with
    |nil=>intro vs h t;rw[bc.1 h];simp only[List.getD,List.getElem?_nil,Option.getD_none];exact cv
    |cons a aI ih=>
     intro vs h t;obtain⟨v,rest,rfl,h1,h2⟩:=aG.1 h;cases t with
     |zero=>simpa using h1
     |succ t=>simpa using ih rest h2 t
   have h1:=e1 _ _ hd t;simp only[List.getD_eq_getElem?_getD,List.getElem?_append,List.getElem?_replicate,getD_eq_getD_getElem?,Array.getElem?_append,List.getElem?_toArray,Array.getElem?_replicate,List.size_toArray]at h1 ⊢;rw[nc];split
   ·rename_i ht;have hv:vs[t]? =some vs[t]:=getElem?_eq_getElem (by omega);have ha:(S.args x)[t]? =some (S.args x)[t]:=getElem?_eq_getElem ht;rw[hv,ha]at h1 ⊢;exact h1
   ·split
    ·exact cv
    ·unfold ae;trivial
 ·rintro e w' (⟨v,rfl,L,r,⟨N,hm,hN⟩,gB,g1,g2,g3,g4⟩|hp)
  rotate_left
  exact False.elim hp;refine⟨v,rfl, ?_⟩
  have r0:b8 ⟨ρ,lk (S.heap x),G,w,[],fun _ _=>False⟩ gB ⟨[r],L⟩ {tmps:= #[v],defers:=[]} w':=by
   refine⟨g1,rfl,fun t=> ?_,rfl,g3,g4,fun x hx=>by cases hx⟩;cases t with
   |zero=>exact g2
   |succ t=>simp only[List.getD,Array.getD];simp;unfold ae;trivial
  have h0:∀id,N.m≤id→(⟨ρ,lk (S.heap x),G,w,[],fun _ _=>False⟩:Ctx).H id=none:=fun id dU=>by simp[lk];omega
  unfold Norm.run at hN;split at hN
  ·rename_i t1 L1 h1;simp only[]at hN;split at hN
   ·rename_i t2 L2 h2;simp only[Option.some.injEq,aR.mk.injEq,and_true]at hN;obtain⟨rfl,rfl⟩:=hN;obtain⟨gB,r1⟩:=b8.fY h0 h1 (b8.dX N.eT r0);obtain⟨eB,r2⟩:=b8.gm N.oJ r1;obtain⟨ρ3,r3⟩:=b8.gn N.cells r2;obtain⟨ρ4,r4⟩:=b8.fY h0 h2 r3;exact⟨ρ4,r4.sat,(by have h:=r4.den 0;exact h),r4.cu,r4.iH⟩
   ·cases hN
  ·cases hN
theorem jY:∀{σ:List Nat} {L:List au} {j:Nat},σ.Nodup->σ.length<=L.length->
 (∀(i:Nat),σ[i]? =some j->cD (σ.zip L) j=L[i]?)/\(j ∉ σ->cD (σ.zip L) j=none)
 |[],L,j,hn,hl=>⟨λi h=>by simp at h,λ_=>rfl⟩|x::xs,[],j,hn,hl=>by simp at hl
 |x::xs,l::ls,j,hn,hl=>by
  have⟨h1,h2⟩:=jY (σ:=xs) (L:=ls) (j:=j) (List.nodup_cons.1 hn).2 (by simpa using hl);constructor;intro i hi;simp only[List.zip_cons_cons,cD];cases i with
  |zero=>
   simp only[List.getElem?_cons_zero,Option.some.injEq]at hi;subst hi;rw[h2 (List.nodup_cons.1 hn).1];simp
  |succ i=>
   simp only[List.getElem?_cons_succ]at hi ⊢;rw[h1 i hi];have a8:i<xs.length:=(List.getElem?_eq_some_iff.1 hi).1;simp only[length_cons]at hl;rw[getElem?_eq_getElem (show i<ls.length by omega)]
  intro hj;simp only[mem_cons,not_or]at hj;simp only[List.zip_cons_cons,cD];rw[h2 hj.2];simp[hj.1]
theorem ed.sum{f:FuncId}(h:ed P Z f S)(M:List AV->RM (X×List Nat)):xj P Z f (fm S M):=by
 intro base args H q hq hn ρ G w vs hY hz hs hd;unfold fm at hq;have⟨⟨x,σ⟩,_,hq⟩:=RM.nP hq;simp only[Bool.cond_eq_ite]at hq;split at hq;rename_i gl;have gl:=iZ gl;have⟨os,hq,bL,hos⟩:=jv hq;split at hq;rename_i L' r hL' hr;split at hq;rename_i hle;have hle:=le_of_ble_eq_true hle;simp only[RM.eval,Option.some.injEq]at hq;subst hq;have⟨ef,fF,gz⟩:=hn;simp only[]at hY ⊢
 have c9:∀{j:Nat} {o':au},(S.heap x)[j]? =some o'->∃(id:Nat) (o:au),σ[j]? =some id/\H id=some o/\rH (idx σ) o=some o':=by
  intro j o' c5;have hl:=eE fF;have hj:j<os.length:=by rw[<-hl];exact(List.getElem?_eq_some_iff.1 c5).1
  have⟨b,g1,g2⟩:=dE fF j os[j] (getElem?_eq_getElem hj);rw[c5]at g2;cases g2;have hj2:j<σ.length:=by omega
  have:=(hos j σ[j] (getElem?_eq_getElem hj2)).1;exact⟨σ[j],os[j],getElem?_eq_getElem hj2,by rw[this,getElem?_eq_getElem hj],g1⟩
 have gW:∀{j id:Nat},σ[j]? =some id->∃o o',H id=some o/\rH (idx σ) o=some o'/\(S.heap x)[j]? =some o':=by
  intro j id hj;have⟨g1,g2⟩:=hos j id hj;have⟨o,ho⟩:=isSome_iff_exists.1 g2;have⟨b,g3,g4⟩:=dE fF j o ho;exact⟨o,b,g1.trans ho,g3,g4⟩
 have iD:∀{j id:Nat},σ[j]? =some id->pull σ ρ j=ρ id:=λh1=>by simp[pull,List.getD,h1]
 have dD:∀{b:Nat},Own (pull σ ρ) (lk (S.heap x)) b->∃(j id:Nat) (o:au),σ[j]? =some id/\H id=some o/\o.alive=true/\eD (ρ id)=some b:=by
  rintro b ⟨j,o',c5,ha,hb⟩;have⟨id,o,h1,h2,h3⟩:=c9 c5;rw[iD h1]at hb;exact⟨j,id,o,h1,h2,by rw[<-(bq h3).1];exact ha,hb⟩
 let G':Nat->Prop:=λb=>aV ρ H G b/\¬Own (pull σ ρ) (lk (S.heap x)) b
 have E:Emb (idx σ) ρ H (aV ρ H G) (pull σ ρ) (lk (S.heap x)) (aV (pull σ ρ) (lk (S.heap x)) G'):=by
  refine⟨λi j kT=> ?_,λb hb=> ?_⟩;have h1:=uU kT;refine⟨iD h1,λo ho=> ?_⟩;have⟨o1,o',h2,h3,h4⟩:=gW h1;rw[ho]at h2;cases h2;exact⟨o',h4,(bq h3).2⟩;rcases hb with hb|hb;have⟨j,id,o,h1,h2,h3,h4⟩:=dD hb;exact .inl ⟨id,o,h2,h3,h4⟩;exact hb.1
 have ao2:Sat (pull σ ρ) (lk (S.heap x)) G' w:=by
  refine⟨λj o' c5=> ?_,λi j oi oj b hi hj ai aj bi bj=> ?_,λb hb hG=>hG.2 hb,λb hb=>ua hs hb.1⟩;have⟨id,o,h1,h2,h3⟩:=c9 c5;rw[iD h1];exact pU E h3 (hs.obj id o h2);have⟨id,o,h1,h2,h3⟩:=c9 hi;have⟨id',o',h1',h2',h3'⟩:=c9 hj;rw[iD h1]at bi;rw[iD h1']at bj;have:=hs.inj id id' o o' b h2 h2' (by rw[<-(bq h3).1];exact ai) (by rw[<-(bq h3').1];exact aj) bi bj;subst this;have⟨wY,xd⟩:=List.getElem?_eq_some_iff.1 h1;have⟨hj1,hj2⟩:=List.getElem?_eq_some_iff.1 h1';exact(List.getElem_inj gl).1 (xd.trans hj2.symm)
 have hz':ZAt Z (pull σ ρ) (lk (S.heap x)) w:=⟨hz.1,λb hb ho=>by
  have⟨j,id,o,h1,h2,h3,h4⟩:=dD ho;exact hz.2 b hb ⟨id,o,h2,h3,h4⟩⟩
 have hd':=pT E ef hd;refine(h x gz (pull σ ρ) G' w vs hz' ao2 hd').mono ?_;rintro e w' ⟨v,he,gB,g1,g2,g3,g4⟩;refine⟨v,he, ?_⟩;have aro:=eE hL';generalize hn0:(S.dG x).length=n0 at *
 have mv:∀{j:Nat},σ.length<=j->j<n0->H (base+(j - σ.length))=none:=by
  intro j h1 h2;exact hY (j - σ.length) (by simp;omega)
 have y6:∀{id:Nat} {o:au},H id=some o->¬(base<=id/\id<base+(L'.length - σ.length)):=by
  intro id o ho hc;have:=mv (j:=σ.length+(id - base)) (by omega) (by omega);rw[show base+(σ.length+(id - base) - σ.length)=id from by omega,ho]at this;cases this
 let eB:Nat->Value:=λid=>if base<=id/\id<base+(L'.length - σ.length)then gB (σ.length+(id - base))else ρ id
 let H2:=cL H (σ.zip L') base (L'.drop σ.length)
 have hL1:∀{j:Nat} {o2:au},L'[j]? =some o2->∃o,(S.dG x)[j]? =some o/\rH (back σ base n0) o=some o2:=by
  intro j o2 h1;have hj:j<(S.dG x).length:=by have:=(List.getElem?_eq_some_iff.1 h1).1;omega
  have⟨b,h2,h3⟩:=dE hL' j (S.dG x)[j] (getElem?_eq_getElem hj);rw[h1]at h3;cases h3;exact⟨_,getElem?_eq_getElem hj,h2⟩
 have abb:∀{j id:Nat},σ[j]? =some id->eB id=ρ id/\gB j=ρ id:=by
  intro j id hj;have⟨o,o',h1,h2,h3⟩:=gW hj;refine⟨?_, ?_⟩;simp only[eB];rw[if_neg (y6 h1)];rw[g3.pt j o' h3,iD hj]
 have acU:∀{j id:Nat},σ[j]? =some id->H2 id=L'[j]? :=by
  intro j id hj;have a8:j<σ.length:=(List.getElem?_eq_some_iff.1 hj).1;have:=(jY (σ:=σ) (L:=L') (j:=id) gl hle).1 j hj;simp only[H2,cL,this];rw[getElem?_eq_getElem (show j<L'.length by omega)]
 have hni:∀{id:Nat},(base<=id/\id<base+(L'.length - σ.length))->id ∉ σ:=by
  intro id hc hm;have⟨i,hi⟩:=List.getElem?_of_mem hm;have⟨o,_,h3,_⟩:=gW hi;exact y6 h3 hc
 have aiR:∀{id:Nat},(base<=id/\id<base+(L'.length - σ.length))->H2 id=L'[σ.length+(id - base)]? :=by
  intro id hc;simp only[H2,cL,(jY (σ:=σ) (L:=L') gl hle).2 (hni hc)];rw[if_pos (by simp only[length_drop];exact hc)];simp only[List.getElem?_drop]
 have aiS:∀{id:Nat},id ∉ σ->¬(base<=id/\id<base+(L'.length - σ.length))->H2 id=H id:=by
  intro id h1 h2;simp only[H2,cL,(jY (σ:=σ) (L:=L') gl hle).2 h1];rw[if_neg (by simp only[length_drop];exact h2)]
 have cls:∀{id:Nat} {o2:au},H2 id=some o2->(∃(j:Nat) (o:au),(S.dG x)[j]? =some o/\rH (back σ base n0) o=some o2/\eB id=gB j/\back σ base n0 j=some id)\/(id ∉ σ/\H id=some o2/\eB id=ρ id):=by
  intro id o2 ho;by_cases hm:id∈σ;have⟨j,hj⟩:=List.getElem?_of_mem hm;rw[acU hj]at ho;have⟨o,h1,h2⟩:=hL1 ho;have⟨h3,h4⟩:=abb hj;exact .inl ⟨j,o,h1,h2,by rw[h3,h4],by simp only[back,jP (List.getElem?_eq_some_iff.1 hj).1,cond_true];exact hj⟩;by_cases hc:base<=id/\id<base+(L'.length - σ.length);rw[aiR hc]at ho;have⟨o,h1,h2⟩:=hL1 ho;refine .inl ⟨_,o,h1,h2,by simp only[eB];rw[if_pos hc], ?_⟩;simp only[back,oB (show σ.length<=σ.length+(id - base)by omega),cond_false,jP (show σ.length+(id - base)<n0 by omega),cond_true];congr 1;omega;rw[aiS hm hc]at ho;exact .inr ⟨hm,ho,by simp only[eB];rw[if_neg hc]⟩
 have jZ:∀{id b:Nat} {o:au},id ∉ σ->H id=some o->o.alive=true->eD (ρ id)=some b->¬Own (pull σ ρ) (lk (S.heap x)) b:=by
  intro id b o hm ho ha hb hv;have⟨j,id',o',h1,h2,h3,h4⟩:=dD hv;have:=hs.inj id id' o o' b ho h2 ha h3 hb h4;subst this;exact hm (List.mem_of_getElem? h1)
 have aiT:∀{b:Nat},G b->G' b:=λ{b} hb=>⟨.inr hb,λhv=>by
  have⟨j,id',o',h1,h2,h3,h4⟩:=dD hv;exact hs.apart b ⟨id',o',h2,h3,h4⟩ hb⟩
 have aiU:∀{b:Nat},Own eB H2 b->Own gB (lk (S.dG x)) b\/(Own ρ H b/\G' b):=by
  rintro b ⟨id,o2,ho,ha,hb⟩;rcases cls ho with⟨j,o,h1,h2,h3,_⟩|⟨h1,h2,h3⟩;exact .inl ⟨j,o,h1,by rw[<-(bq h2).1];exact ha,by rw[<-h3];exact hb⟩;rw[h3]at hb;exact .inr ⟨⟨id,o2,h2,ha,hb⟩,.inl ⟨id,o2,h2,ha,hb⟩,jZ h1 h2 ha hb⟩
 have E2:Emb (back σ base n0) gB (lk (S.dG x)) (aV gB (lk (S.dG x)) G') eB H2 (aV eB H2 G):=by
  refine⟨λi j kT=> ?_,λb hb=> ?_⟩;simp only[back,Bool.cond_eq_ite]at kT;split at kT;rename_i a8;have⟨h3,h4⟩:=abb kT;refine⟨by rw[h3,h4],λo ho=> ?_⟩;have⟨b,h5,h6⟩:=dE hL' i o ho;exact⟨b,by rw[acU kT];exact h6,(bq h5).2⟩;rename_i hge;split at kT;rename_i a8;have a8:i<n0:=le_of_ble_eq_true a8
  have hge:σ.length<=i:=by
   rcases lt_or_ge i σ.length with h5|h5;exact absurd (jP h5) hge;exact h5
  simp only[Option.some.injEq]at kT;have hc:base<=j/\j<base+(L'.length - σ.length):=by omega
  have hi:σ.length+(j - base)=i:=by omega
  refine⟨by simp only[eB];rw[if_pos hc,hi],λo ho=> ?_⟩;have⟨b,h5,h6⟩:=dE hL' i o ho;exact⟨b,by rw[aiR hc,hi];exact h6,(bq h5).2⟩;cases kT;rcases hb with hb|hb;exact(aiU hb).imp (λh=>h) (λh=>h.2);exact .inr (aiT hb)
 have st:Step ρ H (aV ρ H G) w eB H2 (aV eB H2 G) w':=by
  refine⟨λid o ho=>by simp only[eB];rw[if_neg (y6 ho)],λid o ho=> ?_,λb hb=> ?_,λb hb hO=>g3.heap b hb (λhv=>hO (E.ft b hv)),g3.size⟩;by_cases hm:id∈σ;have⟨j,hj⟩:=List.getElem?_of_mem hm;have⟨o1,o',h1,h2,h3⟩:=gW hj;rw[ho]at h1;cases h1;have⟨o'',h4,h5⟩:=g3.eT j o' h3;have⟨o3,h6,h7⟩:=dE hL' j o'' h4;refine⟨o3,by rw[acU hj];exact h7,λc' e' hc=> ?_⟩;have⟨c,e1,h8,h9,iz⟩:=h5 c' e' ((bq h6).2 c' e' hc);exact⟨c,e1,(bq h2).2 c e1 h8,h9,iz⟩;exact⟨o,by rw[aiS hm (y6 ho)];exact ho,λc' e' hc=>⟨c',e',hc,rfl,rfl⟩⟩;rcases g3.ft b (E2.ft b hb)with h5|h5;exact .inl (E.ft b h5);exact .inr h5
 refine⟨eB,⟨λid o2 ho=> ?_,λi j oi oj b hi hj ai aj bi bj=> ?_,λb hb hG=> ?_,λb hb=>Nat.lt_of_lt_of_le (hs.low b hb) g3.size⟩,(rI E2 20).1 _ _ _ hr g2,st,⟨g4.os,g4.tape,g4.output,λb hb hO=>g4.heap b hb (λhv=> ?_)⟩⟩;rcases cls ho with⟨j,o,h1,h2,h3,_⟩|⟨h1,h2,h3⟩;rw[h3];exact pU E2 h2 (g1.obj j o h1);rw[h3];refine(hs.obj id o2 h2).step st (λb ha hb=> ?_);exact g4.heap b (gf hs ⟨id,o2,h2,ha,hb⟩) (jZ h1 h2 ha hb)
 have mixed:∀{b:Nat},Own gB (lk (S.dG x)) b->∀{id:Nat} {o:au},id ∉ σ->H id=some o->o.alive=true->eD (ρ id)=some b->False:=by
  intro b h1 id o h2 h3 h4 h5;have hG:G' b:=⟨.inl ⟨id,o,h3,h4,h5⟩,jZ h2 h3 h4 h5⟩;exact g1.apart b h1 hG
 rcases cls hi with⟨j1,o1,p1,p2,p3,p4⟩|⟨p1,p2,p3⟩;rw[p3]at bi;have a1:o1.alive=true:=by rw[<-(bq p2).1];exact ai
 rcases cls hj with⟨j2,o2,q1,q2,q3,q4⟩|⟨q1,q2,q3⟩;rw[q3]at bj;have:=g1.inj j1 j2 o1 o2 b p1 q1 a1 (by rw[<-(bq q2).1];exact aj) bi bj;subst this;rw[p4]at q4;exact Option.some.inj q4;rw[q3]at bj;exact(mixed ⟨j1,o1,p1,a1,bi⟩ q1 q2 aj bj).elim;rw[p3]at bi;rcases cls hj with⟨j2,o2,q1,q2,q3,q4⟩|⟨q1,q2,q3⟩;rw[q3]at bj;exact(mixed ⟨j2,o2,q1,by rw[<-(bq q2).1];exact aj,bj⟩ p1 p2 ai bi).elim;rw[q3]at bj;exact hs.inj i j oi oj b p2 q2 ai aj bi bj;rcases aiU hb with h5|h5;exact g1.apart b h5 (aiT hG);exact hs.apart b h5.1 hG;have⟨j,id,o,h1,h2,h3,h4⟩:=dD hv;exact hO ⟨id,o,h2,h3,h4⟩;simp[RM.eval]at hq;simp[RM.eval]at hq;simp[RM.eval]at hq
end
instance {k:IntKind} {n:Nat}:DecidableEq (CK.arr k n).V:=inferInstanceAs (DecidableEq (List Int))
instance {k:IntKind}:DecidableEq (CK.ay k).V:=inferInstanceAs (DecidableEq (List Int))
instance {k:IntKind}:DecidableEq (CK.int k).V:=inferInstanceAs (DecidableEq Int)
instance:DecidableEq CK.str.V:=inferInstanceAs (DecidableEq ByteArray)
instance:DecidableEq CK.bool.V:=inferInstanceAs (DecidableEq Bool)
abbrev el{cs:List CK}(l:List (CL cs))(i:Int):CL cs:=l.getD i.toNat (CL.d cs)
abbrev bN{α:Type}(a:α):Prop:=a=a
abbrev ba:Prop:=(some []:Option (List au))=some []
section
variable{K:List au->AV->Prop}{C:aR->Prop}{t e:Tree}{p q:Prop}
theorem dj{α:Type}{a:α}(h:t.Holds K C):(Tree.aa (a=a) t).Holds K C:=⟨rfl,h⟩
theorem bn(hp:p)(h:t.Holds K C):(Tree.aa p t).Holds K C:=⟨hp,h⟩
theorem bR{d:Decidable p}(h1:p->t.Holds K C)(h2:¬p->e.Holds K C):(Tree.ite (@decide p d) t e).Holds K C:=⟨λh=>h1 (of_decide_eq_true h),λh=>h2 (of_decide_eq_false h)⟩
theorem bS{a b:Int}(h1:a=b->t.Holds K C)(h2:a≠b->e.Holds K C):(Tree.ite (a==b) t e).Holds K C:=⟨λh=>h1 (by simpa using h),λh=>h2 (by simpa using h)⟩
theorem bT{a b:Int}(h1:a≠b->t.Holds K C)(h2:a=b->e.Holds K C):(Tree.ite (a !=b) t e).Holds K C:=⟨λh=>h1 (by simpa using h),λh=>h2 (by simpa using h)⟩
theorem bU{b:Bool}(h:(Tree.ite b e t).Holds K C):(Tree.ite (!b) t e).Holds K C:=⟨λhb=>h.2 (by simpa using hb),λhb=>h.1 (by simpa using hb)⟩
theorem dk(h:t.Holds K C):(Tree.ite true t e).Holds K C:=⟨λ_=>h,λx=>(by cases x)⟩
theorem dm(h:e.Holds K C):(Tree.ite false t e).Holds K C:=⟨λx=>(by cases x),λ_=>h⟩
theorem bV{b:Bool}(h1:b=true->t.Holds K C)(h2:b=false->e.Holds K C):(Tree.ite b t e).Holds K C:=⟨h1,h2⟩
theorem bp(h1:p->t.Holds K C)(h2:q->e.Holds K C):(Tree.both p q t e).Holds K C:=⟨h1,h2⟩
theorem bW{H:List au}{v:AV}(h:K H v):(Tree.ret H v).Holds K C:=h
theorem dn{c:aR}(h:C c):(Tree.at c).Holds K C:=h
theorem ma{X:Type}{S:Spec X}{x:X}{L:List au}{r:AV}{o:AV}{h:List au}(m:Nat)(e:Norm.run ⟨[],[0],m,[]⟩ ⟨[r],L,[],{}⟩=some ⟨[o],h,[],{}⟩)(hm:(S.heap x).length<=m)(ho:S.out x=o)(hh:S.dG x=h):ki S x L r:=
 ⟨⟨[],[0],m,[]⟩,hm,by rw[ho,hh];exact e⟩
end
end Go.Sx
namespace Lf
open Go Go.Sx
section
variable{L:List au}
theorem ael{b:Bool}{b':Bool}(h:b=b'):Ends [.b .bool] (b,()) L (.s (.bool b')):=by subst h;rfl
theorem aiV{b:Bool}{b':Bool}(h:b=b'):Ends [.b .bool] (b,()) L (.s (.ao b')):=by subst h;rfl
theorem al8{b b':Int}(h:b=b'):Ends [.b (.int .i64)] (b,()) L (.s (.int .i64 b')):=by subst h;rfl
theorem abc{b b':Int}(h:b=b'):Ends [.b (.int .i64)] (b,()) L (.s (.aq .i64 b')):=by subst h;rfl
end
theorem cK{α:Type}{l:List α}{i:Nat}{d:α}(h:i<l.length):l.getD i d=l[i]:=by simp[List.getD,h]
theorem ao3{a b:ByteArray}(h:a.data.toList=b.data.toList):a=b:=by
 cases a;cases b;simp only[ByteArray.mk.injEq];exact toList_inj.1 h
theorem afU{a:ByteArray}(h:a.size=0):a=empty:=by
 apply ao3;have:a.data.toList.length=0:=by rw[length_toList];exact h
 rw[List.eq_nil_of_length_eq_zero this];rfl
end Lf
namespace Go.Sx
open Go
section
variable{ρ aO:Nat->Value}{H H' H1 H2:aJ}{G O O':Nat->Prop}{w w' w1 w2:World}{P:Program}{X:Ctx}{K:List au->AV->Prop}
theorem Good.ghost(hs:Sat ρ H G w){n:Nat}(hn:H n=none)(g:Value):∃aO,aO n=g/\Sat aO (aK H n .aW) G w/\Step ρ H (aV ρ H G) w aO (aK H n .aW) (aV aO (aK H n .aW) G) w/\xw ρ H w w:=by
 have ne:∀j x,H j=some x->j≠n:=λj x hx e=>by subst e;rw[hn]at hx;cases hx
 have pC:∀b,Own (λj=>if j=n then g else ρ j) (aK H n .aW) b->Own ρ H b:=by
  rintro b ⟨j,x,hx,h1,h2⟩;by_cases hj:j=n;subst hj;simp only[aK,if_true,Option.some.injEq]at hx;subst hx;cases h1;simp only[aK,hj,if_false]at hx h2;exact⟨j,x,hx,h1,h2⟩
 have st:Step ρ H (aV ρ H G) w (λj=>if j=n then g else ρ j) (aK H n .aW) (aV (λj=>if j=n then g else ρ j) (aK H n .aW) G) w:=by
  refine⟨λj x hx=>by simp[ne j x hx],λj x hx=>⟨x,by simp[aK,ne j x hx,hx],λc' e' hc=>⟨c',e',hc,rfl,rfl⟩⟩,λb hb=>.inl (hb.imp (pC b) id),λb hb _=>rfl,le_refl _⟩
 refine⟨_,by simp,⟨λj x hx=> ?_,λi j oi oj b h1 h2 h3 h4 h5 h6=> ?_,λb hb=>hs.apart b (pC b hb),hs.low⟩,st,rfl,rfl,rfl,λ_ _ _=>rfl⟩;by_cases hj:j=n;subst hj;simp only[aK,if_true,Option.some.injEq]at hx;subst hx;trivial;simp only[aK,hj,if_false]at hx;simp only[hj,if_false];exact(hs.obj j x hx).step st (λ_ _ _=>rfl)
 have f:∀i oi,aK H n .aW i=some oi->oi.alive=true->eD ((λj=>if j=n then g else ρ j) i)=some b->H i=some oi/\eD (ρ i)=some b:=by
  intro i oi hi rY hb;by_cases ep:i=n;subst ep;simp only[aK,if_true,Option.some.injEq]at hi;subst hi;cases rY;simp only[aK,ep,if_false]at hi hb;exact⟨hi,hb⟩
 have⟨x1,x2⟩:=f i oi h1 h3 h5;have⟨y1,y2⟩:=f j oj h2 h4 h6;exact hs.inj i j oi oj b x1 y1 h3 h4 x2 y2
theorem erase_filter{L:List MapEntry}(hb:(L.map (·.born)).Nodup){i:Nat}(hi:i<L.length):L.filter (λx=>x.born !=L[i].born)=L.eraseIdx i:=by
 induction L generalizing i with
 |nil=>simp at hi|cons x L ih=>
  simp only[map_cons,List.nodup_cons]at hb;cases i with
  |zero=>
   simp only[List.getElem_cons_zero,List.eraseIdx_cons_zero];rw[List.filter_cons];simp only[bne_self_eq_false,Bool.false_eq_true,if_false];refine List.filter_eq_self.2 λe he=> ?_;rw[bne_iff_ne];exact λh=>hb.1 (mem_map.2 ⟨e,he,h⟩)
  |succ i=>
   simp only[length_cons]at hi;have ep:i<L.length:=by omega
   simp only[List.getElem_cons_succ,List.eraseIdx_cons_succ];rw[List.filter_cons,if_pos,ih hb.2 ep];rw[bne_iff_ne];exact λh=>hb.1 (mem_map.2 ⟨_,getElem_mem ep,h.symm⟩)
theorem tZ.next{ck:CK}{left:List (Int×ck.V)}{cur:Option (Int×ck.V)}{es:Array MapEntry}{clock:Nat}{seen:Array Nat}(h:tZ ck left cur es clock seen){e:MapEntry}(he:e∈(leftOf es seen).toList):
 ∃i,∃hi:i<left.length,e.key=.int .i64 left[i].1/\e.val=ck.val left[i].2/\tZ ck (left.eraseIdx i) (some left[i]) es clock (seen.push e.born):=by
 have hL:(leftOf es seen).toList=es.toList.filter λe=> !seen.contains e.born:=by simp[leftOf]
 rw[hL]at he;obtain⟨i,hi,rfl⟩:=List.getElem_of_mem he;generalize hF:(es.toList.filter λe=> !seen.contains e.born)=F at *;have heq:=h.eq;rw[hF]at heq;have bL:F.length=left.length:=by have:=congrArg List.length heq;simpa only[length_map]using this
 have h1:=congrArg (λl=>l[i]?) heq;have hil:i<left.length:=by omega
 simp only[getElem?_map,getElem?_eq_getElem hi,getElem?_eq_getElem hil,map_some,Option.some.injEq,Prod.mk.injEq]at h1
 have jt:F[i]∈es.toList:=by
  have:=getElem_mem hi;exact(List.mem_filter.1 (show F[i]∈es.toList.filter (λe=> !seen.contains e.born)from by rw[hF];exact this)).1
 refine⟨i,hil,h1.1,h1.2,⟨?_,λp hp=>h.fits p (List.mem_of_mem_eraseIdx hp),h.xv,h.old,λp hp=> ?_⟩⟩
 have e1:(es.toList.filter λe=> !(seen.push F[i].born).contains e.born)=F.filter (λx=>x.born !=F[i].born):=by
  generalize F[i].born=z;rw[<-hF,List.filter_filter];refine List.filter_congr λx _=> ?_;by_cases hz:x.born=z<;>simp[hz,bne]
 have gl:(F.map (·.born)).Nodup:=by
  rw[<-hF];exact(List.Sublist.map _ List.filter_sublist).nodup h.xv
 rw[e1,erase_filter gl hi,ChangeMaps.map_eraseIdx,heq,<-ChangeMaps.map_eraseIdx];cases hp;exact⟨h.fits _ (getElem_mem hil),F[i],jt,by simp,h1.1,h1.2⟩
theorem b8.alR{s:St}{a:Act}(h:b8 X ρ s a w){dst:Option Tmp}{q:bK}{v:Value}(hw:w1=w\/w1=w.drew)(hg:Good ρ s.look X.G w1 (s.put dst q).look (q.r s.H.length) v w'):∃aO,b8 X aO (s.put dst q) (a.put dst v) w':=by
 have h1:b8 X ρ s a w1:=by
  rcases hw with rfl|rfl;exact h;exact h.drew
 have⟨aO,g1,g2,g3,g4⟩:=hg;have⟨arr,df⟩:=a;have hp:=pP (ρ:=aO) (H:=(s.put dst q).look) (O:=aV aO (s.put dst q).look X.G) (w:=w') h1.size (λt=>ae.step g3 _ _ (h1.den t)) dst g2 df;exact⟨aO,g1,hp.1,hp.2,by have:=h1.defers;cases dst<;>exact this,h1.cu.trans g3,xw.trans h1 g4,h1.kept.iH h1.sat g4⟩
def qg(fn:Func)(key i:Nat):Option (Array Oper×Oper×List Item):=match hr fn key with
 |.code (.region _ ops _)::k=>(ops[i]?).map λo=>(ops,o,k)|_=>none
theorem Yields.congr{o:Oper}{e e':Operand->Value}{R:Value->World->Prop}(he:execOp e' o=execOp e o)(h:Yields P o e w R):Yields P o e' w R:=by
 unfold Yields at *;rw[he];exact h
theorem abd{f:FuncId}{tmps:List AV}{L:List au}{todo:List Item}{stk:bt}{t:Nat}{k:IntKind}{n:Int}(ht:tmps.getD t (.s .aF)=.s (.int k n))
 (h:Safe P f X K ⟨tmps.set t (.s (.ax k)),L,todo,stk⟩):Safe P f X K ⟨tmps,L,todo,stk⟩:=by
 intro G E ρ a w fV gh hr b t' fs hw;refine h G E ρ a w fV gh (hr.refine (d:=t) (x:=.s (.int k n)) ht λv hv=> ?_) b t' fs hw;have:=aw (by simp) hv;cases this;exact aC (.ax _ _)
end
end Go.Sx
namespace Ds
open Go Go.Sx Go.Proofs Lf
abbrev P:Program:=Tryz.prog
theorem mixed:P.follows .mixedOrders=true:=by kernel_rfl
abbrev bx:Ty:=.b (.int .i64)
abbrev aZ:Ty:=.b .bool
abbrev bg:Ty:=.b .str
theorem go{Z:aP}{X:Ctx}{t:aQ}{f:FuncId}{fn:Func}{ns:List (Nat×Norm)}{c:aR}{tr:Tree}{K:List au->AV->Prop}{inl:List FuncId}(hz:cE Z X)(hX:∀id,X.H id=none)(hT:t.Ok P Z)(hf:P.funcs[f]? =some fn)
 (e:run P t.sum fn ns c inl=tr) (h:tr.Holds K (Safe P f X K)):Safe P f X K c:=sw (aQ.sOk hT) hz mixed hf (λ_ _ id _=>hX id) e h
theorem eC{Z:aP}{X:Ctx}{t:aQ}{f:FuncId}{fn:Func}{ns:List (Nat×Norm)}{c:aR}{tr:Tree}{K:List au->AV->Prop}{L:List au}{inl:List FuncId}(hz:cE Z X)(hX:X.H=lk L)(hm:∀x∈ns,L.length<=x.2.m)(hT:t.Ok P Z)(hf:P.funcs[f]? =some fn)
 (e:run P t.sum fn ns c inl=tr) (h:tr.Holds K (Safe P f X K)):Safe P f X K c:=
 sw (aQ.sOk hT) hz mixed hf (λx hx id dU=>by rw[hX];exact getElem?_eq_none (le_trans (hm x hx) dU)) e h
theorem af{A B:Prop}{b:Bool}(hb:b=true)(h:A):(b=true->A)/\(b=false->B):=⟨λ_=>h,λe=>absurd (hb.symm.trans e) (by simp)⟩
theorem ak{A B:Prop}{b:Bool}(hb:b=false)(h:B):(b=true->A)/\(b=false->B):=⟨λe=>absurd (hb.symm.trans e) (by simp),λ_=>h⟩
end Ds
namespace Ds
open Go Go.Sx Lf
def rP(x:Int):List Int->List Int
 |[]=>[]|y::l=>if y=x then rP y l else y::rP y l
def jw:List Int->List Int
 |[]=>[]|x::l=>x::rP x l
theorem xV(y:Int):∀(l:List Int) (x:Int),rP x (l++[y])=rP x l++(if y=(x::l).getLast (by simp)then []else [y])
 |[],x=>by by_cases h:y=x<;>simp[rP,h]
 |z::l,x=>by
  have ih:=xV y l z;simp only[cons_append,rP];rw[show(x::z::l).getLast (by simp)=(z::l).getLast (by simp)from by simp[List.getLast_cons]];split;exact ih;rw[ih];rfl
theorem afV(y:Int){l:List Int}(h:l≠[]):jw (l++[y])=jw l++(if y=l.getLast h then []else [y]):=by
 cases l with
 |nil=>exact absurd rfl h|cons x l=>simp only[cons_append,jw];rw[xV]
theorem vd{y:Int}:∀{l:List Int} {x:Int},y∈x::rP x l↔y∈x::l
 |[],x=>by simp[rP]
 |z::l,x=>by
  simp only[rP];split;rename_i e;subst e;rw[vd (l:=l) (x:=z)];simp;have:=vd (y:=y) (l:=l) (x:=z);rw[mem_cons,this,mem_cons (a:=y) (b:=x)]
theorem aiW{y:Int}{l:List Int}:y∈jw l↔y∈l:=by
 cases l with
 |nil=>exact Iff.rfl|cons x l=>exact vd
end Ds
namespace Go.Proofs
open Go.RowKit Go.Maps Go.Sort Go.Shelf
def Tryz.afW:Go.Shelf.Ren:=⟨λ|5=>86|8=>99|7=>98|19=>113|20=>114|10=>104|11=>105|12=>106|13=>107|14=>108|15=>109|16=>110|17=>111|18=>112|30=>115|31=>116|32=>117|33=>118|34=>119|35=>120|40=>121|n=>n,λ|23=>23|25=>3|3=>3|32=>31|22=>23|0=>0|44=>146|46=>148|4=>4|36=>139|35=>138|41=>41|5=>5|9=>9|53=>149|57=>153|63=>155|64=>156|n=>n,λ|n=>n⟩
theorem Tryz.anz:Go.Proofs.SlLaysM.n5 Tryz.prog Tryz.afW:={
 mixed:=by kernel_rfl
 f5:=⟨f86.name,by decide,func86.trans (congrArg some (by kernel_rfl))⟩
 f7:=⟨f98.name,by decide,func98.trans (congrArg some (by kernel_rfl))⟩
 f8:=func99.trans (congrArg some (by kernel_rfl))
 f10:=⟨f104.name,by decide,func104.trans (congrArg some (by kernel_rfl))⟩
 f11:=⟨f105.name,by decide,func105.trans (congrArg some (by kernel_rfl))⟩
 f12:=⟨f106.name,by decide,func106.trans (congrArg some (by kernel_rfl))⟩
 f13:=⟨f107.name,by decide,func107.trans (congrArg some (by kernel_rfl))⟩
 f14:=⟨f108.name,by decide,func108.trans (congrArg some (by kernel_rfl))⟩
 f15:=⟨f109.name,by decide,func109.trans (congrArg some (by kernel_rfl))⟩
 f16:=⟨f110.name,by decide,func110.trans (congrArg some (by kernel_rfl))⟩
 f17:=⟨f111.name,by decide,func111.trans (congrArg some (by kernel_rfl))⟩
 f18:=⟨f112.name,by decide,func112.trans (congrArg some (by kernel_rfl))⟩
 f19:=func113.trans (congrArg some (by kernel_rfl))
 f20:=func114.trans (congrArg some (by kernel_rfl))
 f30:=⟨f115.name,by decide,func115.trans (congrArg some (by kernel_rfl))⟩
 f31:=func116.trans (congrArg some (by kernel_rfl))
 f32:=func117.trans (congrArg some (by kernel_rfl))
 f33:=⟨f118.name,by decide,func118.trans (congrArg some (by kernel_rfl))⟩
 f34:=⟨f119.name,by decide,func119.trans (congrArg some (by kernel_rfl))⟩
 f35:=⟨f120.name,by decide,func120.trans (congrArg some (by kernel_rfl))⟩
 f40:=⟨f121.name,by decide,func121.trans (congrArg some (by kernel_rfl))⟩
 t0:=Tryz.underlying0
 a0:=Tryz.isAgg0
 z0:=Tryz.sizeOf0
 v0:=Tryz.zeroValue0
 t3:=Tryz.underlying3
 a3:=Tryz.isAgg3
 z3:=Tryz.sizeOf3
 v3:=Tryz.zeroValue3
 t4:=Tryz.underlying4
 a4:=Tryz.isAgg4
 z4:=Tryz.sizeOf4
 v4:=Tryz.zeroValue4
 t5:=Tryz.underlying5
 a5:=Tryz.isAgg5
 z5:=Tryz.sizeOf5
 v5:=Tryz.zeroValue5
 t9:=Tryz.underlying9
 a9:=Tryz.isAgg9
 z9:=Tryz.sizeOf9
 v9:=Tryz.zeroValue9
 t22:=Tryz.underlying23
 a22:=Tryz.isAgg23
 z22:=Tryz.sizeOf23
 v22:=Tryz.zeroValue23
 t23:=Tryz.underlying23
 a23:=Tryz.isAgg23
 z23:=Tryz.sizeOf23
 v23:=Tryz.zeroValue23
 t25:=Tryz.underlying3
 a25:=Tryz.isAgg3
 z25:=Tryz.sizeOf3
 v25:=Tryz.zeroValue3
 t32:=Tryz.underlying31
 a32:=Tryz.isAgg31
 z32:=Tryz.sizeOf31
 v32:=Tryz.zeroValue31
 t35:=Tryz.underlying138
 a35:=Tryz.isAgg138
 z35:=Tryz.sizeOf138
 v35:=Tryz.zeroValue138
 t36:=Tryz.underlying139
 a36:=Tryz.isAgg139
 z36:=Tryz.sizeOf139
 v36:=Tryz.zeroValue139
 t41:=Tryz.underlying41
 a41:=Tryz.isAgg41
 z41:=Tryz.sizeOf41
 v41:=Tryz.zeroValue41
 t44:=Tryz.underlying146
 a44:=Tryz.isAgg146
 z44:=Tryz.sizeOf146
 v44:=Tryz.zeroValue146
 t46:=Tryz.underlying148
 a46:=Tryz.isAgg148
 z46:=Tryz.sizeOf148
 v46:=Tryz.zeroValue148
 t53:=Tryz.underlying149
 a53:=Tryz.isAgg149
 z53:=Tryz.sizeOf149
 v53:=Tryz.zeroValue149
 t57:=Tryz.underlying153
 a57:=Tryz.isAgg153
 z57:=Tryz.sizeOf153
 v57:=Tryz.zeroValue153
 t63:=Tryz.underlying155
 a63:=Tryz.isAgg155
 z63:=Tryz.sizeOf155
 v63:=Tryz.zeroValue155
 t64:=Tryz.underlying156
 a64:=Tryz.isAgg156
 z64:=Tryz.sizeOf156
 v64:=Tryz.zeroValue156}
end Go.Proofs
namespace Ds
open Go Go.Sx Go.Proofs Lf
section
variable{ρ:Nat->Value}{H H':aJ}{G:Nat->Prop}{w w1 w2:World}
theorem afX{r:AV}{v:Value}(h:Good ρ H G w H' r v w1)(os:Array Obj)(hh:w2.heap=w1.heap++os)(ht:w2.tape=w1.tape)(ho:w2.os=w1.os)(hu:w2.output=w1.output):Good ρ H G w H' r v w2:=by
 have⟨aO,s,d,t,f⟩:=h;have cn:w1.heap.size<=w2.heap.size:=by rw[hh,Array.size_append];omega
 have hold:∀i,i<w1.heap.size->w2.heap[i]? =w1.heap[i]? :=λi hi=>by rw[hh,Array.getElem?_append_left hi]
 have st:Step aO H' (aV aO H' G) w1 aO H' (aV aO H' G) w2:=
  ⟨λ_ _ _=>rfl,λ_ o ho=>⟨o,ho,λc' e' e=>⟨c',e',e,rfl,rfl⟩⟩,λb hb=>.inl hb,λb hb _=>hold b hb,cn⟩
 exact⟨aO,⟨λj x hx=>(s.obj j x hx).step st (λb ha hb=>hold b (gf s ⟨j,x,hx,ha,hb⟩)),s.inj,s.apart,λb hb=>Nat.lt_of_lt_of_le (s.low b hb) cn⟩,ae.step st _ _ d,t.trans st,
  ⟨ho.trans f.os,ht.trans f.tape,hu.trans f.output,λb hb hO=>by rw[hold b (Nat.lt_of_lt_of_le hb t.size),f.heap b hb hO]⟩⟩
end
def gp(zs:List Int):List Int:=zs.mergeSort λx y=>decide (x<=y)
abbrev aiX:Spec (List Int):=⟨λ_=>[.vec 0],λzs=>[.vec (.ay .i64 zs) 3],λzs=>[zs.length<=1000000],λzs=>[.vec (.ay .i64 (gp zs)) 3],λ_=>.bO []⟩
theorem fJ(zs:List Int):(gp zs).length=zs.length:=List.length_mergeSort _
theorem al9{Z:aP}:ed P Z 86 aiX:=by
 rintro(zs:List Int) ⟨(hl:zs.length<=1000000),_⟩ ρ G w vs hz hs hd;obtain⟨v,rest,rfl,hv,h0⟩:=aG.1 hd;obtain rfl:=bc.1 h0;obtain⟨a,cap,rfl,dS,hle,ah4⟩:=lX hs (show lk [.vec (.ay .i64 zs) 3] 0=some _ from rfl) hv;have eW:=hs.obj 0 _ (show lk [.vec (.ay .i64 zs) 3] 0=some _ from rfl);rw[dS]at eW;have⟨a2,uf,g1,g2,g3,g4⟩:=eW;cases g1;have hn:(aS.ay .i64 zs).n=zs.length:=rfl
 have hH:lk (aiX.dG zs)=aK (lk [.vec (.ay .i64 zs) 3]) 0 (.vec (.ay .i64 (gp zs)) 3):=by
  funext j;cases j with
  |zero=>rfl|succ j=>rfl
 by_cases hc0:cap=0;have hz0:zs=[]:=List.eq_nil_of_length_eq_zero (by rw[hn]at g2;omega);subst hz0;refine(AnyM.slices_Sort_int_none Tryz.anz a cap w).mono ?_;rintro e w' ⟨rfl,rfl⟩;have e0:gp []=[]:=by simp[gp]
 refine⟨_,rfl, ?_⟩;show Sx.Good ρ (lk [.vec (.ay .i64 []) 3]) G w' (lk [.vec (.ay .i64 (gp [])) 3]) (.bO []) undef w';rw[e0];exact Good.val hs cv;obtain⟨b,o,cells,fr,us,rfl,g5,g6,g7,g8⟩:=g4.resolve_left hc0
 have ur:∀j,j<zs.length->cells[o+j]? =some (Value.int .i64 (zs.getD j 0)):=λj hj=>by
  have⟨k1,k2⟩:=g8 j 0 hj Nat.one_pos;simp only[aS.size,Nat.mul_one,add_zero,aS.cell]at k1 k2;rw[k1];generalize us j 0=u at k2 ⊢;cases k2;rfl
 have ave:o+zs.length<=cells.length:=by
  simp only[aS.size,Nat.mul_one]at g7;rw[hn]at g2;omega
 have ao4:Sort.Holds (Value.int .i64) w b o zs.toArray:=λj hj=>by
  have hj:j<zs.length:=by simpa using hj
  refine⟨?_,oT g5 (by simpa using g6.ow) (by simp;omega)⟩;rw[cX g5,ur j hj];simp[cK hj,hj]
 refine(AnyM.slices_Sort_int Tryz.anz b o cap zs w ao4 (Array.getElem?_eq_some_iff.1 g5).1 (by omega)).mono ?_;rintro e w' ⟨rfl,n,os,rfl⟩;refine⟨_,rfl, ?_⟩;rw[hH];have acq:(Sort.putCells (Value.int .i64) o (gp zs).toArray cells.toArray).toList.toArray=Sort.putCells (Value.int .i64) o (gp zs).toArray cells.toArray:=by simp
 have fF:(Sort.putRow (Value.int .i64) (Sort.ahead w n) b o (gp zs).toArray).heap=(World.cc w b (.cells (Sort.putCells (Value.int .i64) o (gp zs).toArray cells.toArray).toList.toArray 3 fr)).heap:=by
  rw[acq];show w.heap.modify b _=w.heap.setIfInBounds b _;apply Array.ext_getElem?;intro i;rw[Array.getElem?_modify,Array.getElem?_setIfInBounds];by_cases hi:b=i;subst hi;have a8:=(Array.getElem?_eq_some_iff.1 g5).1;rw[if_pos rfl,if_pos rfl,if_pos a8,g5];rfl;rw[if_neg hi,if_neg hi]
 have ko:eD (ρ 0)=some b:=by
  rw[dS];simp only[eD];rw[if_neg hc0]
 refine afX (w1:=World.cc w b (.cells (Sort.putCells (Value.int .i64) o (gp zs).toArray cells.toArray).toList.toArray 3 fr)) (Good.write hs (show lk [.vec (.ay .i64 zs) 3] 0=some _ from rfl) rfl rfl ko (λc' e' hc=>by cases hc;exact⟨_,_,rfl,fJ zs,rfl⟩) ?_ cv) os (by rw[<-fF];rfl) rfl rfl rfl;refine⟨some ⟨b,o,none⟩,cap,by rw[dS];show Value.slice _ zs.length cap=.slice _ (gp zs).length cap;rw[fJ],by show(gp zs).length<=cap;rw[fJ];exact g2,g3,.inr ⟨b,o,_,fr,λi _=>.int .i64 ((gp zs).getD i 0),rfl,dM g5, ?_, ?_, ?_⟩⟩;refine⟨λoff ho=>g6.1 off (by simpa[Sort.putCells]using ho),λu hu=> ?_⟩;simp only[Sort.putCells,List.mem_iff_getElem?,Array.toList_mapIdx,List.getElem?_mapIdx]at hu;have⟨k,hk⟩:=hu;rw[map_eq_some_iff]at hk;obtain⟨x,hx,rfl⟩:=hk;split;rfl;exact g6.2 _ (List.mem_of_getElem? hx);show o+cap*1<=_;simp only[Sort.putCells,length_toList,Array.size_mapIdx,List.size_toArray];exact g7;intro i j hi hj;have hi:i<zs.length:=by have hi:i<(gp zs).length:=hi;rwa[fJ]at hi
 simp only[aS.size]at hj;obtain rfl:j=0:=by omega
 refine⟨?_,.int _ _⟩;have a8:o+i<cells.length:=by omega
 have xd:i<(gp zs).length:=by rw[fJ];exact hi
 simp[Sort.putCells,aS.size,a8,fJ,hi,cK xd,xd]
end Ds
namespace Go.Sx
open Go
section
variable{ρ aO:Nat->Value}{H H':aJ}{G O O':Nat->Prop}{w w':World}{P:Program}{Z:aP}
def dc{X:Type}(S:Spec X)(x:X)(L:List au)(r:AV):Prop:=
 ∃(N:Norm) (o:AV),(S.heap x).length<=N.m/\N.run ⟨[r],L,[],{}⟩=some ⟨[o],S.dG x,[],{}⟩/\∀(ρ:Nat->Value) (H:aJ) (O:Nat->Prop) (w:World) (v:Value),ae ρ H O w o v->ae ρ H O w (S.out x) v
variable{X:Type}{S:Spec X}
theorem cC{f:FuncId}{fn:Func}(hf:P.funcs[f]? =some fn)(hb:fn.body.isSome=true)(hn:∀x,(S.args x).length≤fn.ntmps)
 (h:∀x,bd (S.pre x)→∀X:Ctx,X.H=lk (S.heap x)→cE Z X→Safe P f X (dc S x) (start fn (S.args x) (S.heap x))):ed P Z f S:=by
 intro x gz ρ G w vs hz hs hd;obtain⟨c,hb⟩:=isSome_iff_exists.1 hb
 have nc:vs.length=(S.args x).length:=by
  have:∀{aI:List AV} {vs:List Value},bH ρ (lk (S.heap x)) (aV ρ (lk (S.heap x)) G) w aI vs→vs.length=aI.length:=by
   intro aI
   induction aI with
   |nil=>intro vs h;rw[bc.1 h];rfl
   |cons a aI ih=>intro vs h;obtain⟨v,rest,rfl,_,h2⟩:=aG.1 h;simp[ih h2]
  exact this hd
 refine(iL (R:=iY ⟨ρ,lk (S.heap x),G,w,[],fun _ _=>False⟩ (dc S x)) hf hb ?_).mono ?_
 ·have:=(h x gz ⟨ρ,lk (S.heap x),G,w,[],fun _ _=>False⟩ rfl hz).al2 rfl rfl (ρ:=ρ) (a:={tmps:=vs.toArray++Array.replicate (fn.ntmps - vs.toArray.size) undef,defers:=[]}) (w:=w);simp only[start,hb,getD_some]at this;refine this ⟨hs, ?_,fun t=> ?_,rfl,Step.refl _ _ _ _,⟨rfl,rfl,rfl,fun _ _ _=>rfl⟩,fun x hx=>by cases hx⟩
  ·simp[nc]
  ·have e1:∀(aI:List AV) (vs:List Value),bH ρ (lk (S.heap x)) (aV ρ (lk (S.heap x)) G) w aI vs→∀t,ae ρ (lk (S.heap x)) (aV ρ (lk (S.heap x)) G) w (aI.getD t (.bO [])) (vs.getD t undef):=by
    intro aI
    induction aI with
    |nil=>intro vs h t;rw[bc.1 h];simp only[List.getD,List.getElem?_nil,Option.getD_none];exact cv
    |cons a aI ih=>
     intro vs h t;obtain⟨v,rest,rfl,h1,h2⟩:=aG.1 h;cases t with
     |zero=>simpa using h1
     |succ t=>simpa using ih rest h2 t
   have h1:=e1 _ _ hd t;simp only[List.getD_eq_getElem?_getD,List.getElem?_append,List.getElem?_replicate,getD_eq_getD_getElem?,Array.getElem?_append,List.getElem?_toArray,Array.getElem?_replicate,List.size_toArray]at h1 ⊢;rw[nc];split
   ·rename_i ht;have hv:vs[t]? =some vs[t]:=getElem?_eq_getElem (by omega);have ha:(S.args x)[t]? =some (S.args x)[t]:=getElem?_eq_getElem ht;rw[hv,ha]at h1 ⊢;exact h1
   ·split
    ·exact cv
    ·unfold ae;trivial
 ·rintro e w' (⟨v,rfl,L,r,⟨N,o,hm,hN,hwk⟩,gB,g1,g2,g3,g4⟩|hp)
  rotate_left
  exact False.elim hp;refine⟨v,rfl, ?_⟩
  have r0:b8 ⟨ρ,lk (S.heap x),G,w,[],fun _ _=>False⟩ gB ⟨[r],L⟩ {tmps:= #[v],defers:=[]} w':=by
   refine⟨g1,rfl,fun t=> ?_,rfl,g3,g4,fun x hx=>by cases hx⟩;cases t with
   |zero=>exact g2
   |succ t=>simp only[List.getD,Array.getD];simp;unfold ae;trivial
  have h0:∀id,N.m≤id→(⟨ρ,lk (S.heap x),G,w,[],fun _ _=>False⟩:Ctx).H id=none:=fun id dU=>by simp[lk];omega
  unfold Norm.run at hN;split at hN
  ·rename_i t1 L1 h1;simp only[]at hN;split at hN
   ·rename_i t2 L2 h2;simp only[Option.some.injEq,aR.mk.injEq,and_true]at hN;obtain⟨rfl,rfl⟩:=hN;obtain⟨gB,r1⟩:=b8.fY h0 h1 (b8.dX N.eT r0);obtain⟨eB,r2⟩:=b8.gm N.oJ r1;obtain⟨ρ3,r3⟩:=b8.gn N.cells r2;obtain⟨ρ4,r4⟩:=b8.fY h0 h2 r3;exact⟨ρ4,r4.sat,(hwk _ _ _ _ _ (by have h:=r4.den 0;exact h)),r4.cu,r4.iH⟩
   ·cases hN
  ·cases hN
def aiY(c:List AV->Bool)(s1 s2:Nat->List AV->RM bK):Nat->List AV->RM bK:=λb a=>bif c a then s1 b a else s2 b a
theorem aiZ{f:FuncId}{c:List AV->Bool}{s1 s2:Nat->List AV->RM bK}(h1:xj P Z f s1)(h2:xj P Z f s2):xj P Z f (aiY c s1 s2):=by
 intro base args H q hq;unfold aiY at hq;rw[Bool.cond_eq_ite]at hq;split at hq;exact h1 base args H q hq;exact h2 base args H q hq
end
section
variable{ρ aO:Nat->Value}{H H':aJ}{G O O':Nat->Prop}{w w':World}{P:Program}{X:Ctx}{L:List au}{K:List au->AV->Prop}
theorem ai0{tmps:List AV}{t:Nat}{y x:AV}(ht:tmps.getD t (.s .aF)=y)(hy:y≠.s .aF)(u:Nat):(tmps.set t x).getD u (.s .aF)=if u=t then x else tmps.getD u (.s .aF):=by
 have a8:t<tmps.length:=by
  rcases lt_or_ge t tmps.length with h|h;exact h;rw[List.getD,getElem?_eq_none h]at ht;exact absurd ht.symm hy
 by_cases hu:u=t;subst hu;rw[if_pos rfl];simp[List.getD,a8];rw[if_neg hu];simp[List.getD,List.getElem?_set_ne (Ne.symm hu)]
end
section
variable{P:Program}{X:Ctx}{K:List au->AV->Prop}{L:List au}
theorem ai1{f:FuncId}{tmps:List AV}{todo:List Item}{stk:bt}{id:Nat}{segs segs':List AV}{e:TypeId}(dU:L[id]? =some (.ad segs e))
 (hc:∀(ρ:Nat->Value) (H:aJ) (O:Nat->Prop) (w:World) (cells:List Value),aA ρ H O w segs cells->aA ρ H O w segs' cells)
 (h:Safe P f X K ⟨tmps,L.set id (.ad segs' e),todo,stk⟩):Safe P f X K ⟨tmps,L,todo,stk⟩:=by
 intro G E ρ a w fV gh hr b t fs hw;have hs:Sat ρ (lk L) G w:=hr.sat;have a8:id<L.length:=(List.getElem?_eq_some_iff.1 dU).1
 have eL:lk (L.set id (.ad segs' e))=aK (lk L) id (.ad segs' e):=by
  funext k;show(L.set id (.ad segs' e))[k]? =_;rw[List.getElem?_set];by_cases hk:id=k;subst hk;simp[aK,a8];rw[if_neg hk];simp[aK,Ne.symm hk]
 have st0:Step ρ (lk L) (aV ρ (lk L) G) w ρ (aK (lk L) id (.ad segs' e)) (aV ρ (lk L) G) w:=by
  refine⟨λ_ _ _=>rfl,λj x hx=> ?_,λc hc=>.inl hc,λc _ _=>rfl,le_refl _⟩;by_cases hj:j=id;subst hj;exact⟨.ad segs' e,by simp[aK],λc' e' hc=>by cases hc⟩;exact⟨x,by simp[aK,hj,hx],λc' e' hc=>⟨c',e',hc,rfl,rfl⟩⟩
 have eW:kG ρ (aK (lk L) id (.ad segs' e)) (aV ρ (lk L) G) w (ρ id) (.ad segs' e):=by
  have⟨b2,cells,fr,h1,h2,h3,h4⟩:=hs.obj id _ dU;exact⟨b2,cells,fr,h1,h2,h3,(hc _ _ _ _ _ h4).step st0⟩
 have⟨aO,s',_,st,_⟩:=Good.upd (H:=lk L) (o':=.ad segs' e) (r:=.s .aF) (v:=undef) hs dU rfl (λc2 e2 he=>by cases he) eW (by unfold ae;trivial);rw[<-eL]at s' st;exact h G E aO a w fV gh ⟨s',hr.size,λu=>(hr.den u).step st,hr.defers,hr.cu.trans st,hr.iH,hr.kept⟩ b t fs hw
theorem qh{f:FuncId}{tmps:List AV}{L:List au}{todo:List Item}{stk:bt}{t id lo n:Nat}{c:aS}{e:TypeId}(ht:tmps.getD t (.s .aF)=.part id lo n)(dU:L[id]? =some (.vec c e))
 (h:Safe P f X K ⟨tmps.set t (.vec L.length),L.set id .aW++[.vec (c6 c lo (lo+n)) e],todo,stk⟩):Safe P f X K ⟨tmps,L,todo,stk⟩:=by
 intro G E ρ a w fV gh hr b tf fs hw;have hs:Sat ρ (lk L) G w:=hr.sat
 have hd:ae ρ (lk L) (aV ρ (lk L) G) w (.part id lo n) (a.tmps.getD t undef):=by
  have:=hr.den t;rw[show(St.tmps ⟨tmps,L⟩).getD t (.s .aF)=.part id lo n from ht]at this;exact this
 have⟨aO,s',st,hv⟩:=yW hs dU hd;refine h G E aO a w fV gh ⟨s',by rw[List.length_set];exact hr.size,λu=> ?_,hr.defers,hr.cu.trans st,hr.iH,hr.kept⟩ b tf fs hw;show ae aO _ _ w ((tmps.set t (.vec L.length)).getD u (.s .aF)) _;rw[ai0 ht (by simp)];by_cases hu:u=t;subst hu;rw[if_pos rfl];unfold ae;exact hv _;rw[if_neg hu];exact ae.step st _ _ (hr.den u)
theorem mc{f:FuncId}{tmps:List AV}{L:List au}{todo:List Item}{stk:bt}{t id:Nat}{c:aS}{e:TypeId}(ht:tmps.getD t (.s .aF)=.vec id)(dU:L[id]? =some (.vec c e)){c':aS}(hc:c6 c 0 (0+c.n)=c')
 (h:Safe P f X K ⟨tmps.set t (.vec L.length),L.set id .aW++[.vec c' e],todo,stk⟩):Safe P f X K ⟨tmps,L,todo,stk⟩:=by
 subst hc
 have a8:t<tmps.length:=by
  rcases lt_or_ge t tmps.length with h3|h3;exact h3;rw[List.getD,getElem?_eq_none h3]at ht;simp at ht
 have key:Safe P f X K ⟨tmps.set t (.part id 0 c.n),L,todo,stk⟩:=by
  refine qh (t:=t) (id:=id) (lo:=0) (n:=c.n) (by simp[List.getD,a8]) dU ?_;rw[List.set_set];exact h
 intro G E ρ a w fV gh hr b tf fs hw;have hs:Sat ρ (lk L) G w:=hr.sat;have hd:=hr.den t;rw[show(St.tmps ⟨tmps,L⟩).getD t (.s .aF)=.vec id from ht]at hd;refine key G E ρ a w fV gh (hr.yM ht ?_) b tf fs hw;unfold ae aH at hd ⊢;have⟨h1,o,ho,hv⟩:=hd;refine⟨h1,o,ho,λc2 e2 he=> ?_⟩;have h2:(St.look ⟨tmps,L⟩) id=some (.vec c e):=dU;rw[h2]at ho;cases ho;cases he;have⟨a2,cap,g1,g2,g3,_⟩:=hs.obj id _ dU;refine⟨by omega,a2,cap,a2,g1,g2,by rw[hv c e rfl,g1,Nat.sub_zero],λug=> ?_⟩;rw[Nat.zero_mul];cases a2 with
 |none=>rfl|some y=>simp[Addr.add]
end
end Go.Sx
namespace Ds
open Go Go.Sx Go.Proofs Lf
abbrev cV:List CK:=[.str,.int .u8,.int .i64,.str]
abbrev cN:List CK:=[.str,.int .u8,.int .i64,.int .i64,.int .u8,.str,.str,.str,.bool,.rows cV,.strs]
abbrev cF:List CK:=[.int .i64,.int .i64,.str,.bool]
abbrev cP:List CK:=[.str,.rows cV,.rows cN,.rows cF]
abbrev bZ:List CK:=[.str,.int .i64]
abbrev eP:TypeId:=30
abbrev sR:TypeId:=33
abbrev eCo:TypeId:=97
abbrev jx:Ty:=.b (.row (.ay .i64) 3)
abbrev aT(n:Int):AV:=.s (.int .i64 n)
abbrev avL(l:List Int):AV:=.s (.ro (.ay .i64 l))
abbrev jb(n:Int):AV:=.s (.int .u8 n)
abbrev Ps:Type:=List (CL cP)
abbrev Ns:Type:=List (CL cN)
abbrev Fs:Type:=List (CL cF)
abbrev Vs:Type:=List (CL cV)
abbrev Ss:Type:=List (CL bZ)
abbrev bE:aQ:=[]
def sQ{α:Type}(p:α->Bool)(l:List α):Int:=match l.findIdx? p with
 |some i=>(i:Int)|none=> -1
abbrev vN(x:CL cV):ByteArray:=x.1
abbrev vK(x:CL cV):Int:=x.2.1
abbrev vI(x:CL cV):Int:=x.2.2.1
abbrev vT(x:CL cV):ByteArray:=x.2.2.2.1
abbrev nN(x:CL cN):ByteArray:=x.1
abbrev nK(x:CL cN):Int:=x.2.1
abbrev nI(x:CL cN):Int:=x.2.2.1
abbrev nO(x:CL cN):Int:=x.2.2.2.1
abbrev nE(x:CL cN):Int:=x.2.2.2.2.1
abbrev nY(x:CL cN):ByteArray:=x.2.2.2.2.2.1
abbrev nT(x:CL cN):ByteArray:=x.2.2.2.2.2.2.1
abbrev nS(x:CL cN):ByteArray:=x.2.2.2.2.2.2.2.1
abbrev nB(x:CL cN):Bool:=x.2.2.2.2.2.2.2.2.1
abbrev nV(x:CL cN):List (CL cV):=x.2.2.2.2.2.2.2.2.2.1
abbrev nZ(x:CL cN):List ByteArray:=x.2.2.2.2.2.2.2.2.2.2.1
abbrev fA(x:CL cF):Int:=x.1
abbrev fB(x:CL cF):Int:=x.2.1
abbrev fC(x:CL cF):ByteArray:=x.2.2.1
abbrev fD(x:CL cF):Bool:=x.2.2.2.1
abbrev pN(x:CL cP):ByteArray:=x.1
abbrev pV(x:CL cP):List (CL cV):=x.2.1
abbrev pO(x:CL cP):List (CL cN):=x.2.2.1
abbrev pF(x:CL cP):List (CL cF):=x.2.2.2.1
abbrev eV:TypeId:=107
abbrev eN:TypeId:=40
abbrev eF:TypeId:=47
abbrev pr:Ty:=.b (.row (.ab cV) eV)
abbrev dF:Ty:=.st [.str,.row (.ab cV) eV,.row (.ab cN) eN,.row (.ab cF) eF]
abbrev arp(l:List (CL cV)):AV:=.s (.ro (.ab cV l))
abbrev jy(a:ByteArray)(vs:List (CL cV))(ns:List (CL cN))(fs:List (CL cF)):AV:=.agg [.s (.str a),.s (.ro (.ab cV vs)),.s (.ro (.ab cN ns)),.s (.ro (.ab cF fs))]
abbrev jc(a:ByteArray)(vs:List (CL cV))(ns:List (CL cN))(fs:List (CL cF)):au:=.ad [.s (.str a),.s (.ro (.ab cV vs)),.s (.ro (.ab cN ns)),.s (.ro (.ab cF fs))] eP
abbrev sP(x:CL bZ):ByteArray:=x.1
abbrev sN(x:CL bZ):Int:=x.2.1
abbrev y7:Ty:=.st [.str,.int .i64]
abbrev te:Ty:=.b (.row (.ab bZ) sR)
abbrev bh:Ty:=.b (.row (.ab cP) eP)
abbrev sS:Ty:=.st [.str,.int .u8,.int .i64,.int .i64,.int .u8,.str,.str,.str,.bool,.row (.ab cV) eV,.row .strs 9]
abbrev y8:Ty:=.st [.str,.int .u8,.int .i64,.int .i64,.int .u8,.str,.str,.str,.bool,.gR (.ab cV) eV,.gR .strs 9]
abbrev abe:Ty:=.st [.str,.gR (.ab cV) eV,.gR (.ab cN) eN,.gR (.ab cF) eF]
abbrev gC:Ty:=.b (.int .u8)
abbrev ao5(x:CL cN):AV:=.agg [.s (.str (nN x)),.s (.int .u8 (nK x)),aT (nI x),aT (nO x),.s (.int .u8 (nE x)),.s (.str (nY x)),.s (.str (nT x)),.s (.str (nS x)),.s (.bool (nB x)),.s (.ro (.ab cV (nV x))),.s (.ro (.strs (nZ x)))]
abbrev ama(x:CL cN):au:=.ad [.s (.str (nN x)),.s (.int .u8 (nK x)),aT (nI x),aT (nO x),.s (.int .u8 (nE x)),.s (.str (nY x)),.s (.str (nT x)),.s (.str (nS x)),.s (.bool (nB x)),.s (.ro (.ab cV (nV x))),.s (.ro (.strs (nZ x)))] eN
theorem afY(zs:List Int):(gp zs).Perm zs:=List.mergeSort_perm _ _
theorem j5{cs:List CK}{l:List (CL cs)}{k:Nat}(h:k<l.length):el l (k:Int)=l[k]:=by
 show l.getD (k:Int).toNat _=_;rw[Int.toNat_natCast];exact cK h
theorem jK{α:Type}{p:α->Bool}:∀{l:List α},(sQ p l= -1/\∀x∈l,p x=false)\/∃i:Nat,sQ p l=(i:Int)/\∃h:i<l.length,p l[i]=true/\∀j (hj:j<i),p (l[j]'(by omega))=false:=by
 intro l;unfold sQ;cases h:l.findIdx? p with
 |none=>
  refine .inl ⟨rfl,λx hx=> ?_⟩;have:=List.findIdx?_eq_none_iff.1 h x hx;simpa using this
 |some i=>
  have⟨h1,h2,h3⟩:=List.findIdx?_eq_some_iff_getElem.1 h;exact .inr ⟨i,rfl,h1,h2,λj hj=>by simpa using h3 j hj⟩
theorem amb{α:Type}{p:α->Bool}{l:List α}{k:Nat}(hk:k<l.length)(h:p l[k]=true)(hl:∀j (hj:j<k),p (l[j]'(by omega))=false):sQ p l=(k:Int):=by
 rcases jK (p:=p) (l:=l)with⟨_,h2⟩|⟨i,e,h1,h2,h3⟩;rw[h2 _ (getElem_mem hk)]at h;cases h;rw[e];rcases Nat.lt_trichotomy i k with h4|h4|h4;rw[hl i h4]at h2;cases h2;rw[h4];rw[h3 k h4]at h;cases h
theorem afZ{α:Type}{p:α->Bool}{l:List α}(h:∀j (hj:j<l.length),p l[j]=false):sQ p l= -1:=by
 rcases jK (p:=p) (l:=l)with⟨e,_⟩|⟨i,e,h1,h2,_⟩;exact e;rw[h i h1]at h2;cases h2
abbrev fIp:FuncId:=41
abbrev arq:List FuncId:=[fIp,42]
def ars:List (Nat×Norm):=[((fIp+1)*100000+2,⟨[],[0,1,7,8,19,23,24],0,[]⟩)]
abbrev fNs:FuncId:=27
abbrev fFs:FuncId:=83
def amc:List (Nat×Norm):=[((fNs+1)*100000+3,⟨[(5,.ay .i64 [],3)],[1,5,9,10,11],0,[]⟩)]
def art:List (Nat×Norm):=[((fFs+1)*100000+3,⟨[(5,.ay .i64 [],3)],[1,5,9,10,11],0,[]⟩)]
def aru:List (Nat×Norm):=[((fNs+1)*100000+3,⟨[(5,.ay .i64 [],3)],[1,5,9,10,11],0,[(1,9,true,.ab cV [],eV),(1,10,true,.strs [],9)]⟩)]
def arv:List (Nat×Norm):=[((fNs+1)*100000+3,⟨[(5,.ay .i64 [],3)],[1,5,9,10,11],0,[(0,9,true,.ab cV [],eV),(0,10,true,.strs [],9)]⟩)]
abbrev arw:List FuncId:=[fNs,45]
abbrev arx:List FuncId:=[fNs,46]
abbrev ary:List FuncId:=[fFs,84]
abbrev arz:List FuncId:=[fNs,28,17,26]
abbrev arA:List FuncId:=[fNs,82,17,26]
theorem atY(ps:Ps)(id:ByteArray):run P bE.sum f16 ars (start f16 [.s (.ro (.ab cP ps)),.s (.str id)] []) arq=
 Tree.at (.mk (sl 36 [(0,.s (.ro (.ab cP ps))),(1,.fn 42 [.ptr 0 0]),(7,.s (.int .i64 (↑(List.length ps):Int))),(8,.s (.int .i64 0)),(19,.s (.ro (.ab cP ps))),(23,.ptr 1 0),(24,.s (.bool false))]) [.ad [.s (.str id)] 9,.ad [.s (.str empty),.emp,.emp,.emp] 30] (hd f41 2) (.mk (some 41) false 0 [cw f16 none 1 2 false 0] 0)):=by kernel_rfl
theorem atZ(a:ByteArray)(vs:Vs)(ns:Ns)(fs:Fs)(id:Int):run P bE.sum f20 amc (start f20 [jy a vs ns fs,aT id] []) arw=
 Tree.at (.mk (sl 33 [(1,.fn 45 [.ptr 0 0]),(5,.vec 1),(9,.s (.ro (.ab cN ns))),(10,aT (↑(List.length ns):Int)),(11,aT 0)]) [.ad [aT id] 3,.vec (.ay .i64 []) 3] (hd f27 3) (.mk (some 27) false 0 [cw f20 none 1 2 false 0] 0)):=by kernel_rfl
theorem at0(a:ByteArray)(vs:Vs)(ns:Ns)(fs:Fs)(id:Int):run P bE.sum f24 amc (start f24 [jy a vs ns fs,aT id] []) arx=
 Tree.at (.mk (sl 33 [(1,.fn 46 [.ptr 0 0]),(5,.vec 1),(9,.s (.ro (.ab cN ns))),(10,aT (↑(List.length ns):Int)),(11,aT 0)]) [.ad [aT id] 3,.vec (.ay .i64 []) 3] (hd f27 3) (.mk (some 27) false 0 [cw f24 none 1 2 false 0] 0)):=by kernel_rfl
theorem at1(a:ByteArray)(vs:Vs)(ns:Ns)(fs:Fs)(id:Int):run P bE.sum f70 art (start f70 [jy a vs ns fs,aT id] []) ary=
 Tree.at (.mk (sl 33 [(1,.fn 84 [.ptr 0 0]),(5,.vec 1),(9,.s (.ro (.ab cF fs))),(10,aT (↑(List.length fs):Int)),(11,aT 0)]) [.ad [aT id] 3,.vec (.ay .i64 []) 3] (hd f83 3) (.mk (some 83) false 0 [cw f70 none 1 2 false 0] 0)):=by kernel_rfl
theorem at2(a:ByteArray)(vs:Vs)(ns:Ns)(fs:Fs)(id:Int):run P bE.sum f8 aru (start f8 [jy a vs ns fs,aT id] []) arz=
 Tree.ite (decide (id<0)) (.at (.mk (sl 45 [(1,.fn 28 [.ptr 0 0,.ptr 1 0]),(5,.vec 2),(9,.s (.ro (.ab cN ns))),(10,aT (↑(List.length ns):Int)),(11,aT 0)]) [.ad [aT id] 3,.ad [.s (.str empty),.s (.int .u8 0),aT 0,aT 0,.s (.int .u8 0),.s (.str empty),.s (.str empty),.s (.str empty),.s (.bool false),.s (.ro (.ab cV [])),.s (.ro (.strs []))] 40,.vec (.ay .i64 []) 3] (hd f27 3) (.mk (some 27) false 0 [cw f8 none 2 2 false 0] 0))) (.ite (decide (id>=(↑(List.length ns):Int))) (.at (.mk (sl 45 [(1,.fn 28 [.ptr 0 0,.ptr 1 0]),(5,.vec 2),(9,.s (.ro (.ab cN ns))),(10,aT (↑(List.length ns):Int)),(11,aT 0)]) [.ad [aT id] 3,.ad [.s (.str empty),.s (.int .u8 0),aT 0,aT 0,.s (.int .u8 0),.s (.str empty),.s (.str empty),.s (.str empty),.s (.bool false),.s (.ro (.ab cV [])),.s (.ro (.strs []))] 40,.vec (.ay .i64 []) 3] (hd f27 3) (.mk (some 27) false 0 [cw f8 none 2 2 false 0] 0))) (.aa ((0:Int)<=id) (.aa (id<(↑(List.length ns):Int)) (.at (.mk (sl 45 [(1,.fn 28 [.ptr 0 0,.ptr 1 0]),(5,.vec 2),(9,.s (.ro (.ab cN ns))),(10,aT (↑(List.length ns):Int)),(11,aT 0)]) [.ad [aT id] 3,.ad [.s (.str (nN (el ns id))),.s (.int .u8 (nK (el ns id))),aT (nI (el ns id)),aT (nO (el ns id)),.s (.int .u8 (nE (el ns id))),.s (.str (nY (el ns id))),.s (.str (nT (el ns id))),.s (.str (nS (el ns id))),.s (.bool (nB (el ns id))),.s (.ro (.ab cV (nV (el ns id)))),.s (.ro (.strs (nZ (el ns id))))] 40,.vec (.ay .i64 []) 3] (hd f27 3) (.mk (some 27) false 0 [cw f8 none 2 2 false 0] 0)))))):=by kernel_rfl
theorem at3(a:ByteArray)(vs:Vs)(ns:Ns)(fs:Fs)(id:Int):run P bE.sum f68 arv (start f68 [jy a vs ns fs,aT id] []) arA=
 Tree.ite (decide (id<0)) (.ret [.ad [.s (.str a),.s (.ro (.ab cV vs)),.s (.ro (.ab cN ns)),.s (.ro (.ab cF fs))] 30,.ad [.s (.str a),.s (.ro (.ab cV vs)),.s (.ro (.ab cN ns)),.s (.ro (.ab cF fs))] 30,.ad [.s (.str empty),.s (.aq .u8 0),.s (.aq .i64 0),.s (.aq .i64 0),.s (.aq .u8 0),.s (.str empty),.s (.str empty),.s (.str empty),.s (.ao false),.emp,.emp] 40,.ad [.s (.str empty),.s (.aq .u8 0),.s (.aq .i64 0),.s (.aq .i64 0),.s (.aq .u8 0),.s (.str empty),.s (.str empty),.s (.str empty),.s (.ao false),.emp,.emp] 40] (.bO [.s (.aq .i64 0),.s (.ao false)]))
 (.ite (decide (id>=(↑(List.length ns):Int))) (.ret [.ad [.s (.str a),.s (.ro (.ab cV vs)),.s (.ro (.ab cN ns)),.s (.ro (.ab cF fs))] 30,.ad [.s (.str a),.s (.ro (.ab cV vs)),.s (.ro (.ab cN ns)),.s (.ro (.ab cF fs))] 30,.ad [.s (.str empty),.s (.aq .u8 0),.s (.aq .i64 0),.s (.aq .i64 0),.s (.aq .u8 0),.s (.str empty),.s (.str empty),.s (.str empty),.s (.ao false),.emp,.emp] 40,.ad [.s (.str empty),.s (.aq .u8 0),.s (.aq .i64 0),.s (.aq .i64 0),.s (.aq .u8 0),.s (.str empty),.s (.str empty),.s (.str empty),.s (.ao false),.emp,.emp] 40] (.bO [.s (.aq .i64 0),.s (.ao false)]))
   (.aa ((0:Int)<=id) (.aa (id<(↑(List.length ns):Int)) (.ite (nK (el ns id) !=5) (.ret [.ad [.s (.str a),.s (.ro (.ab cV vs)),.s (.ro (.ab cN ns)),.s (.ro (.ab cF fs))] 30,.ad [.s (.str a),.s (.ro (.ab cV vs)),.s (.ro (.ab cN ns)),.s (.ro (.ab cF fs))] 30,.ad [.s (.str (nN (el ns id))),.s (.int .u8 (nK (el ns id))),aT (nI (el ns id)),aT (nO (el ns id)),.s (.int .u8 (nE (el ns id))),.s (.str (nY (el ns id))),.s (.str (nT (el ns id))),.s (.str (nS (el ns id))),.s (.bool (nB (el ns id))),.s (.ro (.ab cV (nV (el ns id)))),.s (.ro (.strs (nZ (el ns id))))] 40,.ad [.s (.str (nN (el ns id))),.s (.int .u8 (nK (el ns id))),aT (nI (el ns id)),aT (nO (el ns id)),.s (.int .u8 (nE (el ns id))),.s (.str (nY (el ns id))),.s (.str (nT (el ns id))),.s (.str (nS (el ns id))),.s (.bool (nB (el ns id))),.s (.ro (.ab cV (nV (el ns id)))),.s (.ro (.strs (nZ (el ns id))))] 40] (.bO [.s (.aq .i64 0),.s (.ao false)])) (.ite (nE (el ns id) !=6) (.ret [.ad [.s (.str a),.s (.ro (.ab cV vs)),.s (.ro (.ab cN ns)),.s (.ro (.ab cF fs))] 30,.ad [.s (.str a),.s (.ro (.ab cV vs)),.s (.ro (.ab cN ns)),.s (.ro (.ab cF fs))] 30,.ad [.s (.str (nN (el ns id))),.s (.int .u8 (nK (el ns id))),aT (nI (el ns id)),aT (nO (el ns id)),.s (.int .u8 (nE (el ns id))),.s (.str (nY (el ns id))),.s (.str (nT (el ns id))),.s (.str (nS (el ns id))),.s (.bool (nB (el ns id))),.s (.ro (.ab cV (nV (el ns id)))),.s (.ro (.strs (nZ (el ns id))))] 40,.ad [.s (.str (nN (el ns id))),.s (.int .u8 (nK (el ns id))),aT (nI (el ns id)),aT (nO (el ns id)),.s (.int .u8 (nE (el ns id))),.s (.str (nY (el ns id))),.s (.str (nT (el ns id))),.s (.str (nS (el ns id))),.s (.bool (nB (el ns id))),.s (.ro (.ab cV (nV (el ns id)))),.s (.ro (.strs (nZ (el ns id))))] 40] (.bO [.s (.aq .i64 0),.s (.ao false)])) (.at (.mk (sl 53 [(1,.fn 82 [.ptr 0 0]),(5,.vec 1),(9,.s (.ro (.ab cN ns))),(10,aT (↑(List.length ns):Int)),(11,aT 0)]) [.ad [.s (.str (nN (el ns id))),.s (.int .u8 (nK (el ns id))),aT (nI (el ns id)),aT (nO (el ns id)),.s (.int .u8 (nE (el ns id))),.s (.str (nY (el ns id))),.s (.str (nT (el ns id))),.s (.str (nS (el ns id))),.s (.bool (nB (el ns id))),.s (.ro (.ab cV (nV (el ns id)))),.s (.ro (.strs (nZ (el ns id))))] 40,.vec (.ay .i64 []) 3] (hd f27 3) (.mk (some 27) false 0 [cw f68 none 4 2 false 0] 0)))))))):=by kernel_rfl
theorem at4(a:ByteArray)(vs:Vs)(ns:Ns)(fs:Fs)(id:Int):run P bE.sum f17 [] (start f17 [jy a vs ns fs,aT id] []) []=
 Tree.ite (decide (id<0)) (.ret [.ad [.s (.str a),.s (.ro (.ab cV vs)),.s (.ro (.ab cN ns)),.s (.ro (.ab cF fs))] 30,.ad [.s (.str empty),.s (.aq .u8 0),.s (.aq .i64 0),.s (.aq .i64 0),.s (.aq .u8 0),.s (.str empty),.s (.str empty),.s (.str empty),.s (.ao false),.emp,.emp] 40] (.bO [.agg [.s (.str empty),.s (.aq .u8 0),.s (.aq .i64 0),.s (.aq .i64 0),.s (.aq .u8 0),.s (.str empty),.s (.str empty),.s (.str empty),.s (.ao false),.emp,.emp],.s (.ao false)])) (.ite (decide (id>=(↑(List.length ns):Int))) (.ret [.ad [.s (.str a),.s (.ro (.ab cV vs)),.s (.ro (.ab cN ns)),.s (.ro (.ab cF fs))] 30,.ad [.s (.str empty),.s (.aq .u8 0),.s (.aq .i64 0),.s (.aq .i64 0),.s (.aq .u8 0),.s (.str empty),.s (.str empty),.s (.str empty),.s (.ao false),.emp,.emp] 40] (.bO [.agg [.s (.str empty),.s (.aq .u8 0),.s (.aq .i64 0),.s (.aq .i64 0),.s (.aq .u8 0),.s (.str empty),.s (.str empty),.s (.str empty),.s (.ao false),.emp,.emp],.s (.ao false)])) (.aa ((0:Int)<=id) (.aa (id<(↑(List.length ns):Int)) (.ret [.ad [.s (.str a),.s (.ro (.ab cV vs)),.s (.ro (.ab cN ns)),.s (.ro (.ab cF fs))] 30,.ad [.s (.str (nN (el ns id))),.s (.int .u8 (nK (el ns id))),aT (nI (el ns id)),aT (nO (el ns id)),.s (.int .u8 (nE (el ns id))),.s (.str (nY (el ns id))),.s (.str (nT (el ns id))),.s (.str (nS (el ns id))),.s (.bool (nB (el ns id))),.s (.ro (.ab cV (nV (el ns id)))),.s (.ro (.strs (nZ (el ns id))))] 40] (.bO [.agg [.s (.str (nN (el ns id))),.s (.int .u8 (nK (el ns id))),aT (nI (el ns id)),aT (nO (el ns id)),.s (.int .u8 (nE (el ns id))),.s (.str (nY (el ns id))),.s (.str (nT (el ns id))),.s (.str (nS (el ns id))),.s (.bool (nB (el ns id))),.s (.ro (.ab cV (nV (el ns id)))),.s (.ro (.strs (nZ (el ns id))))],.s (.ao true)]))))):=by kernel_rfl
theorem at5(x:CL cN):run P bE.sum f31 [] (start f31 [ao5 x] []) []=
 Tree.ite (nK x==3) (.ret [.ad [.s (.str (nN x)),.s (.int .u8 (nK x)),.s (.int .i64 (nI x)),.s (.int .i64 (nO x)),.s (.int .u8 (nE x)),.s (.str (nY x)),.s (.str (nT x)),.s (.str (nS x)),.s (.bool (nB x)),.s (.ro (.ab cV (nV x))),.s (.ro (.strs (nZ x)))] 40] (.s (.ao true))) (.ite (nK x==10) (.ret [.ad [.s (.str (nN x)),.s (.int .u8 (nK x)),.s (.int .i64 (nI x)),.s (.int .i64 (nO x)),.s (.int .u8 (nE x)),.s (.str (nY x)),.s (.str (nT x)),.s (.str (nS x)),.s (.bool (nB x)),.s (.ro (.ab cV (nV x))),.s (.ro (.strs (nZ x)))] 40] (.s (.ao true))) (.ite (nK x==6) (.ite (nE x==1) (.ret [.ad [.s (.str (nN x)),.s (.int .u8 (nK x)),.s (.int .i64 (nI x)),.s (.int .i64 (nO x)),.s (.int .u8 (nE x)),.s (.str (nY x)),.s (.str (nT x)),.s (.str (nS x)),.s (.bool (nB x)),.s (.ro (.ab cV (nV x))),.s (.ro (.strs (nZ x)))] 40] (.s (.ao true))) (.ite (nE x==2) (.ret [.ad [.s (.str (nN x)),.s (.int .u8 (nK x)),.s (.int .i64 (nI x)),.s (.int .i64 (nO x)),.s (.int .u8 (nE x)),.s (.str (nY x)),.s (.str (nT x)),.s (.str (nS x)),.s (.bool (nB x)),.s (.ro (.ab cV (nV x))),.s (.ro (.strs (nZ x)))] 40] (.s (.ao true))) (.ret [.ad [.s (.str (nN x)),.s (.int .u8 (nK x)),.s (.int .i64 (nI x)),.s (.int .i64 (nO x)),.s (.int .u8 (nE x)),.s (.str (nY x)),.s (.str (nT x)),.s (.str (nS x)),.s (.bool (nB x)),.s (.ro (.ab cV (nV x))),.s (.ro (.strs (nZ x)))] 40] (.s (.bool (nE x==3)))))) (.ret [.ad [.s (.str (nN x)),.s (.int .u8 (nK x)),.s (.int .i64 (nI x)),.s (.int .i64 (nO x)),.s (.int .u8 (nE x)),.s (.str (nY x)),.s (.str (nT x)),.s (.str (nS x)),.s (.bool (nB x)),.s (.ro (.ab cV (nV x))),.s (.ro (.strs (nZ x)))] 40] (.s (.ao false))))):=by kernel_rfl
theorem at6(x:Int):run P bE.sum f22 [] (start f22 [jb x] []) []=
 Tree.ite (x==3) (.ret [] (.s (.ao true))) (.ite (x==11) (.ret [] (.s (.ao true))) (.ite (x==12) (.ret [] (.s (.ao true))) (.ret [] (.s (.bool (x==14)))))):=by kernel_rfl
def cDf(ps:Ps)(id:ByteArray)(i:Int):aR:=⟨sl 36 [(0,.s (.ro (.ab cP ps))),(1,.fn 42 [.ptr 0 0]),(7,aT (ps.length:Int)),(8,aT i),(19,.s (.ro (.ab cP ps))),(23,.ptr 1 0),(24,.s (.bool false))],[.ad [.s (.str id)] 9,.ad [.s (.str empty),.emp,.emp,.emp] eP],hd f41 2,⟨some fIp,false,0,[cw f16 none 1 2 false 0],0⟩⟩
def cNd(b:FuncId)(fn:Func)(r j:Nat)(id:Int)(ns:List (CL cN))(l:List Int)(i:Int):aR:=⟨sl 33 [(1,.fn b [.ptr 0 0]),(5,.vec 1),(9,.s (.ro (.ab cN ns))),(10,aT (ns.length:Int)),(11,aT i)],[.ad [aT id] 3,.vec (.ay .i64 l) 3],hd f27 3,⟨some fNs,false,0,[cw fn none r j false 0],0⟩⟩
def cFl(id:Int)(fs:Fs)(l:List Int)(i:Int):aR:=⟨sl 33 [(1,.fn 84 [.ptr 0 0]),(5,.vec 1),(9,.s (.ro (.ab cF fs))),(10,aT (fs.length:Int)),(11,aT i)],[.ad [aT id] 3,.vec (.ay .i64 l) 3],hd f83 3,⟨some fFs,false,0,[cw f70 none 1 2 false 0],0⟩⟩
def cSo(id:Int)(x:CL cN)(ns:List (CL cN))(l:List Int)(i:Int):aR:=⟨sl 45 [(1,.fn 28 [.ptr 0 0,.ptr 1 0]),(5,.vec 2),(9,.s (.ro (.ab cN ns))),(10,aT (ns.length:Int)),(11,aT i)],[.ad [aT id] 3,ama x,.vec (.ay .i64 l) 3],hd f27 3,⟨some fNs,false,0,[cw f8 none 2 2 false 0],0⟩⟩
def cLi(x:CL cN)(ns:List (CL cN))(l:List Int)(i:Int):aR:=⟨sl 53 [(1,.fn 82 [.ptr 0 0]),(5,.vec 1),(9,.s (.ro (.ab cN ns))),(10,aT (ns.length:Int)),(11,aT i)],[ama x,.vec (.ay .i64 l) 3],hd f27 3,⟨some fNs,false,0,[cw f68 none 4 2 false 0],0⟩⟩
def pDf(name:ByteArray)(p:CL cP):Bool:=decide (pN p=name)
def acV(ps:Ps)(name:ByteArray):Int:=sQ (pDf name) ps
def abf(ps:Ps)(name:ByteArray):Bool:=decide (0<=acV ps name)
def pb(ps:Ps)(name:ByteArray):Int:=if 0<=acV ps name then acV ps name else ps.length
def ag(ps:Ps)(name:ByteArray):CL cP:=el ps (pb ps name)
def dH{α:Type}(p:α->Bool):List α->Int->List Int
 |[],_=>[]|x::l,i=>(if p x then [i]else [])++dH p l (i+1)
def nodeAt(ns:List (CL cN))(n:Int):CL cN:=if 0<=n/\n<(ns.length:Int)then el ns n else CL.d cN
def pBo(n:Int)(x:CL cN):Bool:=(nK x==15)&&(nO x==n)
def pAs(n:Int)(x:CL cN):Bool:=(nK x==13)&&(nI x==n)
def pSo(n:Int)(sc:CL cN)(x:CL cN):Bool:=(nK x==1)&&(nI x==n)&&((nE x==0)||(nK sc==13))
def bu(ns:List (CL cN))(n:Int):List Int:=dH (pBo n) ns 0
def cQ(ns:List (CL cN))(n:Int):List Int:=dH (pAs n) ns 0
def jz(ns:List (CL cN))(n:Int):List Int:=dH (pSo n (nodeAt ns n)) ns 0
def bk(ns:List (CL cN))(n:Int):Int:=(jz ns n).getD 0 0
def j6(ns:List (CL cN))(n:Int):Bool:=decide (0<(jz ns n).length)
def pFr(n:Int)(x:CL cF):Bool:=fA x==n
def cZ(fs:Fs)(n:Int):List Int:=dH (pFr n) fs 0
def pLi(t:CL cN)(x:CL cN):Bool:=(nK x==6)&&(nE x==6)&&decide (nY x=nY t)&&(nI x==nI t)
def acW(t:CL cN):Bool:=(nK t==5)&&(nE t==6)
def me(ns:Ns)(n:Int):List Int:=if acW (nodeAt ns n)then dH (pLi (nodeAt ns n)) ns 0 else []
def fc(ns:Ns)(n:Int):Int:=(me ns n).getD 0 0
def kx(ns:Ns)(n:Int):Bool:=decide (0<(me ns n).length)
def dC(ns:Ns)(n:Int):Bool:=decide (0<=n/\n<(ns.length:Int))
def pc(x:CL cN):Bool:=(nK x==3)||(nK x==10)||((nK x==6)&&((nE x==1)||(nE x==2)||(nE x==3)))
def oh(k:Int):Bool:=(k==3)||(k==11)||(k==12)||(k==14)
theorem ai2(ps:Ps)(id:ByteArray)(i:Int):run P bE.sum f16 ars (cDf ps id i) arq=
 Tree.ite (decide (i<(↑(List.length ps):Int))) (.aa ((0:Int)<=i) (.aa (i<(↑(List.length ps):Int)) (.ite (decide (pN (el ps i)=id)) (.ite (decide (i<0)) (.ret [.ad [.s (.str id)] 9,.ad [.s (.str empty),.emp,.emp,.emp] 30,.ad [.s (.str (pN (el ps i))),.s (.ro (.ab cV (pV (el ps i)))),.s (.ro (.ab cN (pO (el ps i)))),.s (.ro (.ab cF (pF (el ps i))))] 30] (.bO [.agg [.s (.str empty),.emp,.emp,.emp],.s (.ao false)])) (.aa ((0:Int)<=i) (.aa (i<(↑(List.length ps):Int)) (.ret [.ad [.s (.str id)] 9,.ad [.s (.str (pN (el ps i))),.s (.ro (.ab cV (pV (el ps i)))),.s (.ro (.ab cN (pO (el ps i)))),.s (.ro (.ab cF (pF (el ps i))))] 30,.ad [.s (.str (pN (el ps i))),.s (.ro (.ab cV (pV (el ps i)))),.s (.ro (.ab cN (pO (el ps i)))),.s (.ro (.ab cF (pF (el ps i))))] 30] (.bO [.agg [.s (.str (pN (el ps i))),.s (.ro (.ab cV (pV (el ps i)))),.s (.ro (.ab cN (pO (el ps i)))),.s (.ro (.ab cF (pF (el ps i))))],.s (.ao true)]))))) (.aa (aD (i+1)) (.at (cDf ps id (i+1))))))) (.ret [.ad [.s (.str id)] 9,.ad [.s (.str empty),.emp,.emp,.emp] 30] (.bO [.agg [.s (.str empty),.emp,.emp,.emp],.s (.ao false)])):=by kernel_rfl
theorem ai3(id:Int)(ns:Ns)(l:List Int)(i:Int):run P bE.sum f20 amc (cNd 45 f20 1 2 id ns l i) arw=
 Tree.ite (decide (i<(↑(List.length ns):Int))) (.aa ((0:Int)<=i) (.aa (i<(↑(List.length ns):Int)) (.ite (nK (el ns i)==15) (.ite (nO (el ns i)==id) (.aa ((l.length+1)*(8:Nat)<=140737488355328) (.aa (aD (i+1)) (.at (.mk (sl 33 [(1,.fn 45 [.ptr 0 0]),(5,.vec 1),(9,.s (.ro (.ab cN ns))),(10,.s (.int .i64 (↑(List.length ns):Int))),(11,.s (.int .i64 (i+1)))]) [.ad [.s (.int .i64 id)] 3,.vec (.ay .i64 (l++[i])) 3] (hd f27 3) (.mk (some 27) false 0 [cw f20 none 1 2 false 0] 0))))) (.aa (aD (i+1)) (.at (.mk (sl 33 [(1,.fn 45 [.ptr 0 0]),(5,.vec 1),(9,.s (.ro (.ab cN ns))),(10,.s (.int .i64 (↑(List.length ns):Int))),(11,.s (.int .i64 (i+1)))]) [.ad [.s (.int .i64 id)] 3,.vec (.ay .i64 l) 3] (hd f27 3) (.mk (some 27) false 0 [cw f20 none 1 2 false 0] 0))))) (.aa (aD (i+1)) (.at (.mk (sl 33 [(1,.fn 45 [.ptr 0 0]),(5,.vec 1),(9,.s (.ro (.ab cN ns))),(10,.s (.int .i64 (↑(List.length ns):Int))),(11,.s (.int .i64 (i+1)))]) [.ad [.s (.int .i64 id)] 3,.vec (.ay .i64 l) 3] (hd f27 3) (.mk (some 27) false 0 [cw f20 none 1 2 false 0] 0))))))) (.ret [.ad [.s (.int .i64 id)] 3,.vec (.ay .i64 l) 3] (.vec 1)):=by kernel_rfl
theorem ai4(id:Int)(ns:Ns)(l:List Int)(i:Int):run P bE.sum f24 amc (cNd 46 f24 1 2 id ns l i) arx=
 Tree.ite (decide (i<(↑(List.length ns):Int))) (.aa ((0:Int)<=i) (.aa (i<(↑(List.length ns):Int)) (.ite (nK (el ns i)==13) (.ite (nI (el ns i)==id) (.aa ((l.length+1)*(8:Nat)<=140737488355328) (.aa (aD (i+1)) (.at (.mk (sl 33 [(1,.fn 46 [.ptr 0 0]),(5,.vec 1),(9,.s (.ro (.ab cN ns))),(10,.s (.int .i64 (↑(List.length ns):Int))),(11,.s (.int .i64 (i+1)))]) [.ad [.s (.int .i64 id)] 3,.vec (.ay .i64 (l++[i])) 3] (hd f27 3) (.mk (some 27) false 0 [cw f24 none 1 2 false 0] 0))))) (.aa (aD (i+1)) (.at (.mk (sl 33 [(1,.fn 46 [.ptr 0 0]),(5,.vec 1),(9,.s (.ro (.ab cN ns))),(10,.s (.int .i64 (↑(List.length ns):Int))),(11,.s (.int .i64 (i+1)))]) [.ad [.s (.int .i64 id)] 3,.vec (.ay .i64 l) 3] (hd f27 3) (.mk (some 27) false 0 [cw f24 none 1 2 false 0] 0))))) (.aa (aD (i+1)) (.at (.mk (sl 33 [(1,.fn 46 [.ptr 0 0]),(5,.vec 1),(9,.s (.ro (.ab cN ns))),(10,.s (.int .i64 (↑(List.length ns):Int))),(11,.s (.int .i64 (i+1)))]) [.ad [.s (.int .i64 id)] 3,.vec (.ay .i64 l) 3] (hd f27 3) (.mk (some 27) false 0 [cw f24 none 1 2 false 0] 0))))))) (.ret [.ad [.s (.int .i64 id)] 3,.vec (.ay .i64 l) 3] (.vec 1)):=by kernel_rfl
theorem ai5(id:Int)(fs:Fs)(l:List Int)(i:Int):run P bE.sum f70 art (cFl id fs l i) ary=
 Tree.ite (decide (i<(↑(List.length fs):Int))) (.aa ((0:Int)<=i) (.aa (i<(↑(List.length fs):Int)) (.ite (fA (el fs i)==id) (.aa ((l.length+1)*(8:Nat)<=140737488355328) (.aa (aD (i+1)) (.at (cFl id fs (l++[i]) (i+1))))) (.aa (aD (i+1)) (.at (cFl id fs l (i+1))))))) (.ret [.ad [.s (.int .i64 id)] 3,.vec (.ay .i64 l) 3] (.vec 1)):=by kernel_rfl
theorem ai6(id:Int)(x:CL cN)(ns:List (CL cN))(l:List Int)(i:Int):run P bE.sum f8 aru (cSo id x ns l i) arz=
 Tree.ite (decide (i<ns.length)) (.aa ((0:Int)<=i) (.aa (i<ns.length) (.ite (nK (el ns i)==1) (.ite (nI (el ns i)==id) (.ite (nE (el ns i)==0) (.aa ((l.length+1)*(8:Nat)<=140737488355328) (.aa (aD (i+1)) (.at (cSo id x ns (l++[i]) (i+1))))) (.ite (nK x==13) (.aa ((l.length+1)*(8:Nat)<=140737488355328) (.aa (aD (i+1)) (.at (cSo id x ns (l++[i]) (i+1))))) (.aa (aD (i+1)) (.at (cSo id x ns l (i+1)))))) (.aa (aD (i+1)) (.at (cSo id x ns l (i+1))))) (.aa (aD (i+1)) (.at (cSo id x ns l (i+1))))))) (.ite ((↑l.length:Int)==0) (.ret [.ad [.s (.int .i64 id)] 3,.ad [.s (.str (nN x)),.s (.int .u8 (nK x)),.s (.int .i64 (nI x)),.s (.int .i64 (nO x)),.s (.int .u8 (nE x)),.s (.str (nY x)),.s (.str (nT x)),.s (.str (nS x)),.s (.bool (nB x)),.s (.ro (.ab cV (nV x))),.s (.ro (.strs (nZ x)))] 40,.vec (.ay .i64 l) 3] (.bO [.s (.aq .i64 0),.s (.ao false)])) (.aa ((0:Int)<=0) (.aa ((0:Int)<(↑l.length:Int)) (.ret [.ad [.s (.int .i64 id)] 3,.ad [.s (.str (nN x)),.s (.int .u8 (nK x)),.s (.int .i64 (nI x)),.s (.int .i64 (nO x)),.s (.int .u8 (nE x)),.s (.str (nY x)),.s (.str (nT x)),.s (.str (nS x)),.s (.bool (nB x)),.s (.ro (.ab cV (nV x))),.s (.ro (.strs (nZ x)))] 40,.vec (.ay .i64 l) 3] (.bO [.s (.int .i64 (l.getD 0 0)),.s (.ao true)]))))):=by kernel_rfl
theorem ai7(x:CL cN)(ns:List (CL cN))(l:List Int)(i:Int):run P bE.sum f68 arv (cLi x ns l i) arA=
 Tree.ite (decide (i<ns.length)) (.aa ((0:Int)<=i) (.aa (i<ns.length) (.ite (nK (el ns i)==6) (.ite (nE (el ns i)==6) (.ite (decide (nY (el ns i)=nY x)) (.ite (nI (el ns i)==nI x) (.aa ((l.length+1)*(8:Nat)<=140737488355328) (.aa (aD (i+1)) (.at (cLi x ns (l++[i]) (i+1))))) (.aa (aD (i+1)) (.at (cLi x ns l (i+1))))) (.aa (aD (i+1)) (.at (cLi x ns l (i+1))))) (.aa (aD (i+1)) (.at (cLi x ns l (i+1))))) (.aa (aD (i+1)) (.at (cLi x ns l (i+1))))))) (.ite ((↑l.length:Int)==0) (.ret [.ad [.s (.str (nN x)),.s (.int .u8 (nK x)),.s (.int .i64 (nI x)),.s (.int .i64 (nO x)),.s (.int .u8 (nE x)),.s (.str (nY x)),.s (.str (nT x)),.s (.str (nS x)),.s (.bool (nB x)),.s (.ro (.ab cV (nV x))),.s (.ro (.strs (nZ x)))] 40,.vec (.ay .i64 l) 3] (.bO [.s (.aq .i64 0),.s (.ao false)])) (.aa ((0:Int)<=0) (.aa ((0:Int)<(↑l.length:Int)) (.ret [.ad [.s (.str (nN x)),.s (.int .u8 (nK x)),.s (.int .i64 (nI x)),.s (.int .i64 (nO x)),.s (.int .u8 (nE x)),.s (.str (nY x)),.s (.str (nT x)),.s (.str (nS x)),.s (.bool (nB x)),.s (.ro (.ab cV (nV x))),.s (.ro (.strs (nZ x)))] 40,.vec (.ay .i64 l) 3] (.bO [.s (.int .i64 (l.getD 0 0)),.s (.ao true)]))))):=by kernel_rfl
theorem ai8{ps:Ps}{name:ByteArray}(h:acV ps name= -1):ag ps name=CL.d cP/\abf ps name=false:=by
 refine⟨?_,by unfold abf;rw[h];rfl⟩;show el ps (pb ps name)=_;unfold pb;rw[if_neg (by omega)];show ps.getD (ps.length:Int).toNat (CL.d cP)=_;simp[List.getD]
theorem y9{Z:aP}:cf P Z 16 [bh,bg] [abe,aZ] (λ_=>[]) (λ(ps,name,())=>((pN (ag ps name),pV (ag ps name),pO (ag ps name),pF (ag ps name),()),abf ps name,())):=by
 refine a6 func16 (by kernel_rfl) (by kernel_rfl) ?_;rintro⟨(ps:Ps),(name:ByteArray),⟨⟩⟩ ⟨(hl:ps.length<=maxLen),_⟩ _ X hX hz;have pn:ps.length<=9223372036854775807:=by unfold maxLen at hl;omega
 show Safe P 16 X (Ends [abe,aZ] ((pN (ag ps name),pV (ag ps name),pO (ag ps name),pF (ag ps name),()),abf ps name,())) _
 have loop:∀(j k:Nat),k+j=ps.length->(∀i (hi:i<k) (h2:i<ps.length),pDf name ps[i]=false)->Safe P 16 X (Ends [abe,aZ] ((pN (ag ps name),pV (ag ps name),pO (ag ps name),pF (ag ps name),()),abf ps name,())) (cDf ps name (k:Int)):=by
  intro j
  induction j with
  |zero=>
   intro k hk hi;have e:acV ps name= -1:=afZ λj hj=>hi j (by omega) hj;have⟨e1,e2⟩:=ai8 e;refine go hz hX aQ.Ok.nil func16 (ai2 ps name k) ⟨λh=>absurd (of_decide_eq_true h) (by omega),λ_=> ?_⟩;rw[e1,e2];exact aL _ rfl (by kernel_rfl)
  |succ j ih=>
   intro k hk hi;have a8:k<ps.length:=by omega
   refine go hz hX aQ.Ok.nil func16 (ai2 ps name k) (af (decide_eq_true (by omega)) ⟨by omega,by omega, ?_⟩)
   have next:=λh:pDf name ps[k]=false=>ih (k+1) (by omega) λi h1 h2=>by
    by_cases e:i=k;subst e;exact h;exact hi i (by omega) h2
   have fin:=λh:pDf name ps[k]=true=>amb (p:=pDf name) a8 h λj hj=>hi j hj (by omega);cases hp:pDf name ps[k]with
   |true=>
    have e:acV ps name=(k:Int):=fin hp
    have e1:ag ps name=el ps (k:Int):=by
     show el ps (pb ps name)=_;unfold pb;rw[if_pos (by omega),e]
    have e2:abf ps name=true:=by unfold abf;rw[decide_eq_true (by omega)]
    have ri:pN (el ps (k:Int))=name:=by rw[j5 a8];exact of_decide_eq_true hp
    refine af (decide_eq_true ri) (ak (decide_eq_false (by omega)) ⟨by omega,by omega, ?_⟩);rw[e1,e2];generalize el ps (k:Int)=x;exact aL _ rfl (by kernel_rfl)
   |false=>
    have ri:¬pN (el ps (k:Int))=name:=by rw[j5 a8];exact of_decide_eq_false hp
    exact ak (decide_eq_false ri) ⟨⟨by omega,by omega⟩,next hp⟩
 exact go hz hX aQ.Ok.nil func16 (atY ps name) (loop ps.length 0 (by omega) λi hi=>absurd hi (Nat.not_lt_zero _))
theorem xW{α:Type}{p:α->Bool}:∀(l:List α) (x:α) (i:Int),dH p (l++[x]) i=dH p l i++(if p x then [i+l.length]else [])
 |[],x,i=>by simp[dH]
 |y::l,x,i=>by
  simp only[cons_append,dH,xW l x (i+1),append_assoc,length_cons];congr 2;split;congr 1;push_cast;omega;rfl
theorem gq{α:Type}{p:α->Bool}:∀(l:List α) (i:Int),(dH p l i).length<=l.length
 |[],i=>le_refl _|y::l,i=>by
  have:=gq (p:=p) l (i+1);simp only[dH,length_append,length_cons];split<;>simp<;>omega
theorem lF{cs:List CK}{p:CL cs->Bool}{l:List (CL cs)}{k:Nat}(h:k<l.length):dH p (l.take (k+1)) 0=dH p (l.take k) 0++(if p l[k]then [(k:Int)]else []):=by
 rw[List.take_add_one,getElem?_eq_getElem h,Option.toList_some,xW,length_take,Nat.min_eq_left (by omega),Int.zero_add]
theorem lG{cs:List CK}{p:CL cs->Bool}{l:List (CL cs)}{k:Nat}:(dH p (l.take k) 0).length<=k:=le_trans (gq _ _) (by rw[length_take];omega)
theorem anA{Z:aP}:cf P Z 20 [dF,bx] [jx] (λ((_,_,ns,_,()),_,())=>[(ns:List (CL cN)).length<=1000000]) (λ((_,_,ns,_,()),n,())=>(bu ns n,())):=by
 refine a6 func20 (by kernel_rfl) (by kernel_rfl) ?_;rintro⟨⟨(a:ByteArray),(vs:List (CL cV)),(ns:List (CL cN)),(fs:List (CL cF)),⟨⟩⟩,(n:Int),⟨⟩⟩ _ ⟨(hl:ns.length<=1000000),_⟩ X hX hz;show Safe P 20 X (Ends [jx] (bu ns n,())) _
 have loop:∀(j k:Nat),k+j=ns.length->Safe P 20 X (Ends [jx] (bu ns n,())) (cNd 45 f20 1 2 n ns (dH (pBo n) (ns.take k) 0) (k:Int)):=by
  intro j
  induction j with
  |zero=>
   intro k hk;rw[List.take_of_length_le (by omega)];exact go hz hX aQ.Ok.nil func20 (ai3 n ns _ k) (ak (decide_eq_false (by omega)) (aL _ rfl (by kernel_rfl)))
  |succ j ih=>
   intro k hk;have a8:k<ns.length:=by omega
   have next:=ih (k+1) (by omega)
   rw[lF a8]at next
   have htl:=lG (p:=pBo n) (l:=ns) (k:=k);refine go hz hX aQ.Ok.nil func20 (ai3 n ns _ k) (af (decide_eq_true (by omega)) ⟨by omega,by omega, ?_⟩);rw[j5 a8];generalize dH (pBo n) (ns.take k) 0=acc at *;cases h1:nK ns[k]==15 with
   |false=>
    have e:pBo n ns[k]=false:=by unfold pBo;rw[h1];rfl
    rw[e,if_neg (by simp),append_nil]at next
    exact ak rfl ⟨⟨by omega,by omega⟩,next⟩
   |true=>
    refine af rfl ?_;cases h2:nO ns[k]==n with
    |false=>
     have e:pBo n ns[k]=false:=by unfold pBo;rw[h1,h2];rfl
     rw[e,if_neg (by simp),append_nil]at next
     exact ak rfl ⟨⟨by omega,by omega⟩,next⟩
    |true=>
     have e:pBo n ns[k]=true:=by unfold pBo;rw[h1,h2];rfl
     rw[e,if_pos rfl]at next
     exact af rfl ⟨by omega,⟨by omega,by omega⟩,next⟩
 exact go hz hX aQ.Ok.nil func20 (atZ a vs ns fs n) (loop ns.length 0 (by omega))
theorem arB{Z:aP}:cf P Z 24 [dF,bx] [jx] (λ((_,_,ns,_,()),_,())=>[(ns:List (CL cN)).length<=1000000]) (λ((_,_,ns,_,()),n,())=>(cQ ns n,())):=by
 refine a6 func24 (by kernel_rfl) (by kernel_rfl) ?_;rintro⟨⟨(a:ByteArray),(vs:List (CL cV)),(ns:List (CL cN)),(fs:List (CL cF)),⟨⟩⟩,(n:Int),⟨⟩⟩ _ ⟨(hl:ns.length<=1000000),_⟩ X hX hz;show Safe P 24 X (Ends [jx] (cQ ns n,())) _
 have loop:∀(j k:Nat),k+j=ns.length->Safe P 24 X (Ends [jx] (cQ ns n,())) (cNd 46 f24 1 2 n ns (dH (pAs n) (ns.take k) 0) (k:Int)):=by
  intro j
  induction j with
  |zero=>
   intro k hk;rw[List.take_of_length_le (by omega)];exact go hz hX aQ.Ok.nil func24 (ai4 n ns _ k) (ak (decide_eq_false (by omega)) (aL _ rfl (by kernel_rfl)))
  |succ j ih=>
   intro k hk;have a8:k<ns.length:=by omega
   have next:=ih (k+1) (by omega)
   rw[lF a8]at next
   have htl:=lG (p:=pAs n) (l:=ns) (k:=k);refine go hz hX aQ.Ok.nil func24 (ai4 n ns _ k) (af (decide_eq_true (by omega)) ⟨by omega,by omega, ?_⟩);rw[j5 a8];generalize dH (pAs n) (ns.take k) 0=acc at *;cases h1:nK ns[k]==13 with
   |false=>
    have e:pAs n ns[k]=false:=by unfold pAs;rw[h1];rfl
    rw[e,if_neg (by simp),append_nil]at next
    exact ak rfl ⟨⟨by omega,by omega⟩,next⟩
   |true=>
    refine af rfl ?_;cases h2:nI ns[k]==n with
    |false=>
     have e:pAs n ns[k]=false:=by unfold pAs;rw[h1,h2];rfl
     rw[e,if_neg (by simp),append_nil]at next
     exact ak rfl ⟨⟨by omega,by omega⟩,next⟩
    |true=>
     have e:pAs n ns[k]=true:=by unfold pAs;rw[h1,h2];rfl
     rw[e,if_pos rfl]at next
     exact af rfl ⟨by omega,⟨by omega,by omega⟩,next⟩
 exact go hz hX aQ.Ok.nil func24 (at0 a vs ns fs n) (loop ns.length 0 (by omega))
theorem ai9{Z:aP}:cf P Z 70 [dF,bx] [jx] (λ((_,_,_,fs,()),_,())=>[(fs:List (CL cF)).length<=1000000]) (λ((_,_,_,fs,()),n,())=>(cZ fs n,())):=by
 refine a6 func70 (by kernel_rfl) (by kernel_rfl) ?_;rintro⟨⟨(a:ByteArray),(vs:List (CL cV)),(ns:List (CL cN)),(fs:List (CL cF)),⟨⟩⟩,(n:Int),⟨⟩⟩ _ ⟨(hl:fs.length<=1000000),_⟩ X hX hz;show Safe P 70 X (Ends [jx] (cZ fs n,())) _
 have loop:∀(j k:Nat),k+j=fs.length->Safe P 70 X (Ends [jx] (cZ fs n,())) (cFl n fs (dH (pFr n) (fs.take k) 0) (k:Int)):=by
  intro j
  induction j with
  |zero=>
   intro k hk;rw[List.take_of_length_le (by omega)];exact go hz hX aQ.Ok.nil func70 (ai5 n fs _ k) (ak (decide_eq_false (by omega)) (aL _ rfl (by kernel_rfl)))
  |succ j ih=>
   intro k hk;have a8:k<fs.length:=by omega
   have next:=ih (k+1) (by omega)
   rw[lF a8]at next
   have htl:=lG (p:=pFr n) (l:=fs) (k:=k);refine go hz hX aQ.Ok.nil func70 (ai5 n fs _ k) (af (decide_eq_true (by omega)) ⟨by omega,by omega, ?_⟩);rw[j5 a8];generalize dH (pFr n) (fs.take k) 0=acc at *;cases h2:fA fs[k]==n with
   |false=>
    have e:pFr n fs[k]=false:=h2;rw[e,if_neg (by simp),append_nil]at next
    exact ak rfl ⟨⟨by omega,by omega⟩,next⟩
   |true=>
    have e:pFr n fs[k]=true:=h2;rw[e,if_pos rfl]at next
    exact af rfl ⟨by omega,⟨by omega,by omega⟩,next⟩
 exact go hz hX aQ.Ok.nil func70 (at1 a vs ns fs n) (loop fs.length 0 (by omega))
theorem aja{Z:aP}:cf P Z 8 [dF,bx] [bx,aZ] (λ((_,_,ns,_,()),_,())=>[(ns:List (CL cN)).length<=1000000]) (λ((_,_,ns,_,()),n,())=>(bk ns n,j6 ns n,())):=by
 refine a6 func8 (by kernel_rfl) (by kernel_rfl) ?_;rintro⟨⟨(a:ByteArray),(vs:List (CL cV)),(ns:List (CL cN)),(fs:List (CL cF)),⟨⟩⟩,(n:Int),⟨⟩⟩ _ ⟨(hl:ns.length<=1000000),_⟩ X hX hz;show Safe P 8 X (Ends [bx,aZ] (bk ns n,j6 ns n,())) _
 have loop:∀(j k:Nat),k+j=ns.length->Safe P 8 X (Ends [bx,aZ] (bk ns n,j6 ns n,())) (cSo n (nodeAt ns n) ns (dH (pSo n (nodeAt ns n)) (ns.take k) 0) (k:Int)):=by
  intro j
  induction j with
  |zero=>
   intro k hk;rw[List.take_of_length_le (by omega)];refine go hz hX aQ.Ok.nil func8 (ai6 n (nodeAt ns n) ns _ k) (ak (decide_eq_false (by omega)) ?_);show Tree.Holds (Ends [bx,aZ] ((jz ns n).getD 0 0,decide (0<(jz ns n).length),())) _ _;rw[show dH (pSo n (nodeAt ns n)) ns 0=jz ns n from rfl];generalize jz ns n=l;generalize nodeAt ns n=x;cases l with
   |nil=>exact af rfl (aL _ rfl (by kernel_rfl))
   |cons y l=>
    refine ak ?_ ⟨by omega,by simp only[length_cons];omega, ?_⟩;rw[beq_eq_false_iff_ne,length_cons];omega;rw[decide_eq_true (show 0<(y::l).length by simp)];exact aL _ rfl (by kernel_rfl)
  |succ j ih=>
   intro k hk;have a8:k<ns.length:=by omega
   have next:=ih (k+1) (by omega)
   rw[lF a8]at next
   have htl:=lG (p:=pSo n (nodeAt ns n)) (l:=ns) (k:=k);refine go hz hX aQ.Ok.nil func8 (ai6 n (nodeAt ns n) ns _ k) (af (decide_eq_true (by omega)) ⟨by omega,by omega, ?_⟩);rw[j5 a8];generalize dH (pSo n (nodeAt ns n)) (ns.take k) 0=acc at *
   have no:pSo n (nodeAt ns n) ns[k]=false->Safe P 8 X (Ends [bx,aZ] (bk ns n,j6 ns n,())) (cSo n (nodeAt ns n) ns acc ((k+1:Nat):Int)):=λe=>by
    rw[e,if_neg (by simp),append_nil]at next;exact next
   have yes:pSo n (nodeAt ns n) ns[k]=true->Safe P 8 X (Ends [bx,aZ] (bk ns n,j6 ns n,())) (cSo n (nodeAt ns n) ns (acc++[(k:Int)]) ((k+1:Nat):Int)):=λe=>by
    rw[e,if_pos rfl]at next;exact next
   clear next
   generalize nodeAt ns n=sc at *;cases h1:nK ns[k]==1 with
   |false=>exact ak rfl ⟨⟨by omega,by omega⟩,no (by unfold pSo;rw[h1];rfl)⟩
   |true=>
    refine af rfl ?_;cases h2:nI ns[k]==n with
    |false=>exact ak rfl ⟨⟨by omega,by omega⟩,no (by unfold pSo;rw[h1,h2];rfl)⟩
    |true=>
     refine af rfl ?_;cases h3:nE ns[k]==0 with
     |true=>exact af rfl ⟨by omega,⟨by omega,by omega⟩,yes (by unfold pSo;rw[h1,h2,h3];rfl)⟩
     |false=>
      refine ak rfl ?_;cases h4:nK sc==13 with
      |true=>exact af rfl ⟨by omega,⟨by omega,by omega⟩,yes (by unfold pSo;rw[h1,h2,h3,h4];rfl)⟩
      |false=>exact ak rfl ⟨⟨by omega,by omega⟩,no (by unfold pSo;rw[h1,h2,h3,h4];rfl)⟩
 have first:=loop ns.length 0 (by omega)
 refine go hz hX aQ.Ok.nil func8 (at2 a vs ns fs n) ⟨λh=> ?_,λh=>⟨λh2=> ?_,λh2=>⟨by have:=of_decide_eq_false h;omega,by have:=of_decide_eq_false h2;omega, ?_⟩⟩⟩;have e:nodeAt ns n=CL.d cN:=by unfold nodeAt;rw[if_neg (by have:=of_decide_eq_true h;omega)]
 rw[e]at first
 exact first
 have e:nodeAt ns n=CL.d cN:=by unfold nodeAt;rw[if_neg (by have:=of_decide_eq_true h2;omega)]
 rw[e]at first
 exact first
 have e:nodeAt ns n=el ns n:=by unfold nodeAt;rw[if_pos (by have:=of_decide_eq_false h;have:=of_decide_eq_false h2;omega)]
 rw[e]at first
 exact first
theorem arC{Z:aP}:cf P Z 17 [dF,bx] [y8,aZ] (λ_=>[]) (λ((_,_,ns,_,()),n,())=>(nodeAt ns n,dC ns n,())):=by
 refine a6 func17 (by kernel_rfl) (by kernel_rfl) ?_;rintro⟨⟨(a:ByteArray),(vs:List (CL cV)),(ns:List (CL cN)),(fs:List (CL cF)),⟨⟩⟩,(n:Int),⟨⟩⟩ _ _ X hX hz;show Safe P 17 X (Ends [y8,aZ] (nodeAt ns n,dC ns n,())) _;refine go hz hX aQ.Ok.nil func17 (at4 a vs ns fs n) ?_;by_cases h0:n<0;refine af (decide_eq_true h0) ?_;have e:nodeAt ns n=CL.d cN:=by unfold nodeAt;rw[if_neg (by omega)]
 have e2:dC ns n=false:=decide_eq_false (by omega);rw[e,e2];exact aL _ rfl (by kernel_rfl);refine ak (decide_eq_false h0) ?_;by_cases h1:n>=(ns.length:Int);refine af (decide_eq_true h1) ?_;have e:nodeAt ns n=CL.d cN:=by unfold nodeAt;rw[if_neg (by omega)]
 have e2:dC ns n=false:=decide_eq_false (by omega);rw[e,e2];exact aL _ rfl (by kernel_rfl);refine ak (decide_eq_false h1) ⟨by omega,by omega, ?_⟩;have e:nodeAt ns n=el ns n:=by unfold nodeAt;rw[if_pos (by omega)]
 have e2:dC ns n=true:=decide_eq_true (by omega);rw[e,e2];generalize el ns n=x;exact aL _ rfl (by kernel_rfl)
theorem anC{Z:aP}:cf P Z 68 [dF,bx] [bx,aZ] (λ((_,_,ns,_,()),_,())=>[(ns:List (CL cN)).length<=1000000]) (λ((_,_,ns,_,()),n,())=>(fc ns n,kx ns n,())):=by
 refine a6 func68 (by kernel_rfl) (by kernel_rfl) ?_;rintro⟨⟨(a:ByteArray),(vs:List (CL cV)),(ns:List (CL cN)),(fs:List (CL cF)),⟨⟩⟩,(n:Int),⟨⟩⟩ _ ⟨(hl:ns.length<=1000000),_⟩ X hX hz;show Safe P 68 X (Ends [bx,aZ] (fc ns n,kx ns n,())) _
 have loop:acW (nodeAt ns n)=true->∀(j k:Nat),k+j=ns.length->Safe P 68 X (Ends [bx,aZ] (fc ns n,kx ns n,())) (cLi (nodeAt ns n) ns (dH (pLi (nodeAt ns n)) (ns.take k) 0) (k:Int)):=by
  intro hlk j;have el0:me ns n=dH (pLi (nodeAt ns n)) ns 0:=by unfold me;rw[if_pos hlk]
  induction j with
  |zero=>
   intro k hk;rw[List.take_of_length_le (by omega)];refine go hz hX aQ.Ok.nil func68 (ai7 (nodeAt ns n) ns _ k) (ak (decide_eq_false (by omega)) ?_);show Tree.Holds (Ends [bx,aZ] ((me ns n).getD 0 0,decide (0<(me ns n).length),())) _ _;rw[<-el0];generalize me ns n=l;generalize nodeAt ns n=x;cases l with
   |nil=>exact af rfl (aL _ rfl (by kernel_rfl))
   |cons y l=>
    refine ak ?_ ⟨by omega,by simp only[length_cons];omega, ?_⟩;rw[beq_eq_false_iff_ne,length_cons];omega;rw[decide_eq_true (show 0<(y::l).length by simp)];exact aL _ rfl (by kernel_rfl)
  |succ j ih=>
   intro k hk;have a8:k<ns.length:=by omega
   have next:=ih (k+1) (by omega)
   rw[lF a8]at next
   have htl:=lG (p:=pLi (nodeAt ns n)) (l:=ns) (k:=k);refine go hz hX aQ.Ok.nil func68 (ai7 (nodeAt ns n) ns _ k) (af (decide_eq_true (by omega)) ⟨by omega,by omega, ?_⟩);rw[j5 a8];generalize dH (pLi (nodeAt ns n)) (ns.take k) 0=acc at *
   have no:pLi (nodeAt ns n) ns[k]=false->Safe P 68 X (Ends [bx,aZ] (fc ns n,kx ns n,())) (cLi (nodeAt ns n) ns acc ((k+1:Nat):Int)):=λe=>by
    rw[e,if_neg (by simp),append_nil]at next;exact next
   have yes:pLi (nodeAt ns n) ns[k]=true->Safe P 68 X (Ends [bx,aZ] (fc ns n,kx ns n,())) (cLi (nodeAt ns n) ns (acc++[(k:Int)]) ((k+1:Nat):Int)):=λe=>by
    rw[e,if_pos rfl]at next;exact next
   clear next
   generalize nodeAt ns n=sc at *;cases h1:nK ns[k]==6 with
   |false=>exact ak rfl ⟨⟨by omega,by omega⟩,no (by unfold pLi;rw[h1];rfl)⟩
   |true=>
    refine af rfl ?_;cases h2:nE ns[k]==6 with
    |false=>exact ak rfl ⟨⟨by omega,by omega⟩,no (by unfold pLi;rw[h1,h2];rfl)⟩
    |true=>
     refine af rfl ?_;by_cases h3:nY ns[k]=nY sc;refine af (decide_eq_true h3) ?_;cases h4:nI ns[k]==nI sc with
     |true=>exact af rfl ⟨by omega,⟨by omega,by omega⟩,yes (by unfold pLi;rw[h1,h2,h4,decide_eq_true h3];rfl)⟩
     |false=>exact ak rfl ⟨⟨by omega,by omega⟩,no (by unfold pLi;rw[h1,h2,h4,decide_eq_true h3];rfl)⟩
     exact ak (decide_eq_false h3) ⟨⟨by omega,by omega⟩,no (by unfold pLi;rw[h1,h2,decide_eq_false h3];rfl)⟩
 refine go hz hX aQ.Ok.nil func68 (at3 a vs ns fs n) ?_
 have zero:acW (nodeAt ns n)=false->fc ns n=0/\kx ns n=false:=λh=>by
  have e:me ns n=[]:=by unfold me;rw[h];rfl
  unfold fc kx;rw[e];exact⟨rfl,rfl⟩
 have dz:acW (CL.d cN)=false:=by kernel_rfl
 by_cases h0:n<0;refine af (decide_eq_true h0) ?_;have e:nodeAt ns n=CL.d cN:=by unfold nodeAt;rw[if_neg (by omega)]
 have⟨e1,e2⟩:=zero (by rw[e];exact dz);rw[e1,e2];exact aL _ rfl (by kernel_rfl);refine ak (decide_eq_false h0) ?_;by_cases h1:n>=(ns.length:Int);refine af (decide_eq_true h1) ?_;have e:nodeAt ns n=CL.d cN:=by unfold nodeAt;rw[if_neg (by omega)]
 have⟨e1,e2⟩:=zero (by rw[e];exact dz);rw[e1,e2];exact aL _ rfl (by kernel_rfl);refine ak (decide_eq_false h1) ⟨by omega,by omega, ?_⟩;have e:nodeAt ns n=el ns n:=by unfold nodeAt;rw[if_pos (by omega)]
 rw[e]at zero loop;generalize el ns n=x at *;cases g1:nK x==5 with
 |false=>
  have⟨e1,e2⟩:=zero (by unfold acW;rw[g1];rfl);refine af (by simpa[bne]using g1) ?_;rw[e1,e2];exact aL _ rfl (by kernel_rfl)
 |true=>
  refine ak (by simpa[bne]using g1) ?_;cases g2:nE x==6 with
  |false=>
   have⟨e1,e2⟩:=zero (by unfold acW;rw[g1,g2];rfl);refine af (by simpa[bne]using g2) ?_;rw[e1,e2];exact aL _ rfl (by kernel_rfl)
  |true=>
   refine ak (by simpa[bne]using g2) ?_;exact loop (by unfold acW;rw[g1,g2];rfl) ns.length 0 (by omega)
theorem anD{Z:aP}:cf P Z 31 [sS] [aZ] (λ_=>[]) (λ(x,())=>(pc x,())):=by
 refine a6 func31 (by kernel_rfl) (by kernel_rfl) ?_;rintro⟨(x:CL cN),⟨⟩⟩ _ _ X hX hz;show Safe P 31 X (Ends [aZ] (pc x,())) _;refine go hz hX aQ.Ok.nil func31 (at5 x) ?_;unfold pc
 cases h1:nK x==3<;>cases h2:nK x==10<;>cases h3:nK x==6<;>cases h4:nE x==1<;>cases h5:nE x==2<;>cases h6:nE x==3<;>(
  repeat' (first|refine af rfl ?_|refine ak rfl ?_)
  all_goals exact aL _ rfl (by kernel_rfl))
theorem anE{Z:aP}:cf P Z 22 [gC] [aZ] (λ_=>[]) (λ(x,())=>(oh x,())):=by
 refine a6 func22 (by kernel_rfl) (by kernel_rfl) ?_;rintro⟨(x:Int),⟨⟩⟩ _ _ X hX hz;show Safe P 22 X (Ends [aZ] (oh x,())) _;refine go hz hX aQ.Ok.nil func22 (at6 x) ?_;unfold oh
 cases h1:x==3<;>cases h2:x==11<;>cases h3:x==12<;>cases h4:x==14<;>(
  repeat' (first|refine af rfl ?_|refine ak rfl ?_)
  all_goals exact aL _ rfl (by kernel_rfl))
def aem:List AV->RM (List Int×List Nat)
 |[.vec id]=>.look id λo=>match o with
  |some (.vec (.ay .i64 zs) _)=>.ret (zs,[id])|_=>.fail ""
 |_=>.fail ""
abbrev amd:=fm aiX aem
def abg:List (Nat×Norm):=[(4,⟨[],[0,3],1,[]⟩),(9,⟨[],[0,3,4,5],1,[]⟩),(eb+2001,⟨[],[9],1,[]⟩),(eb+15003,⟨[],[59],1,[]⟩),(eb+16001,⟨[],[60],1,[]⟩)]
abbrev kk(l:Nat):bt:=⟨none,false,0,[],l⟩
def cCo(l:List Int)(k:Int):aR:=⟨sl 61 [(0,.vec 0),(3,aT k)],[.vec (.ay .i64 l) 3],hd f71 4,{}⟩
def acX(l:List Int)(k:Int)(lo n:Nat)(k2:Int):aR:=⟨sl 61 [(0,.vec 0),(3,aT k),(4,.part 0 lo n),(5,aT k2)],[.vec (.ay .i64 l) 3],hd f71 9,{}⟩
def arD(l:List Int):aR:=⟨sl 61 [(9,.vec 1)],[.aW,.vec (.ay .i64 l) 3],fI f71 2 1,kk 2⟩
def anF(l:List Int):aR:=⟨sl 61 [(59,.vec 1)],[.aW,.vec (.ay .i64 l) 3],fI f71 15 3,kk 15⟩
def anG(l:List Int):aR:=⟨sl 61 [(60,.vec 1)],[.aW,.vec (.ay .i64 l) 3],fI f71 16 1,kk 16⟩
abbrev sCm:Spec (List Int):=⟨λ_=>[.vec 0],λl=>[.vec (.ay .i64 l) 3],λl=>[l.length<=1000000],λl=>[.aW,.vec (.ay .i64 (jw l)) 3],λ_=>.vec 1⟩
abbrev arE:=fm sCm aem
theorem at7(l:List Int):run P bE.sum f71 abg (start f71 [.vec 0] [.vec (.ay .i64 l) 3])=
 Tree.ite (decide ((↑l.length:Int)<2)) (.at (.mk (sl 61 [(9,.vec 0)]) [.vec (.ay .i64 l) 3] (fI f71 2 1) (.mk none false 0 [] 2))) (.at (cCo l 1)):=by kernel_rfl
theorem ajb(l:List Int)(k:Int):run P bE.sum f71 abg (cCo l k)=
 Tree.ite (decide (k<l.length)) (.aa ((0:Int)<=k) (.aa (k<l.length) (.aa (aD (k - (1:Int))) (.aa ((0:Int)<=k - (1:Int)) (.aa (k - (1:Int)<(↑l.length:Int)) (.ite (l.getD k.toNat (0:Int)==l.getD (k - (1:Int)).toNat 0) (.aa ((0:Int)<=k) (.aa (k<=l.length) (.aa ((↑(0:Nat):Int)+(↑l.length:Int)<=(↑l.length:Int)) (.at (acX l k ((0:Nat)+k.toNat) ((↑l.length:Int).toNat - k.toNat) 1))))) (.aa (aD (k+1)) (.at (cCo l (k+1)))))))))) (.at (.mk (sl 61 [(60,.vec 0)]) [.vec (.ay .i64 l) 3] (fI f71 16 1) (.mk none false 0 [] 16))):=by kernel_rfl
theorem aen(l:List Int)(k:Int)(lo n:Nat)(k2:Int):run P bE.sum f71 abg (acX l k lo n k2)=
 Tree.ite (decide (k2<(↑n:Int))) (.aa ((0:Int)<=k2) (.aa (k2<(↑n:Int)) (.aa (aD (k2 - (1:Int))) (.aa ((0:Int)<=k2 - (1:Int)) (.aa (k2 - (1:Int)<(↑n:Int)) (.ite (l.getD (lo+k2.toNat) (0:Int) !=l.getD (lo+(k2 - (1:Int)).toNat) 0) (.aa ((0:Int)<=k2) (.aa (k2<(↑n:Int)) (.aa ((0:Int)<=k) (.aa (k<l.length) (.aa (aD (k+1)) (.aa (aD (k2+1)) (.at (acX (l.set k.toNat (l.getD (lo+k2.toNat) 0)) (k+1) lo n (k2+1))))))))) (.aa (aD (k2+1)) (.at (acX l k lo n (k2+1)))))))))) (.aa ((0:Int)<=k) (.aa (k<=l.length) (.aa ((↑(0:Nat):Int)+(↑l.length:Int)<=(↑l.length:Int)) (.aa ((0:Int)<=0) (.aa ((0:Int)<=k) (.aa ((↑(0:Nat):Int)+k<=(↑(over l ((0:Nat)+k.toNat) ((↑l.length:Int).toNat - k.toNat) (replicate ((↑l.length:Int).toNat - k.toNat) 0)).length:Int)) (.at (.mk (sl 61 [(59,.part 0 0 (k.toNat - Int.toNat 0))]) [.vec (.ay .i64 (over l ((0:Nat)+k.toNat) ((↑l.length:Int).toNat - k.toNat) (replicate ((↑l.length:Int).toNat - k.toNat) 0))) 3] (fI f71 15 3) (.mk none false 0 [] 15))))))))):=by kernel_rfl
theorem ao6(l:List Int):run P bE.sum f71 abg (arD l)=
 Tree.ret [.aW,.vec (.ay .i64 l) 3] (.vec 1):=by kernel_rfl
theorem ame(l:List Int):run P bE.sum f71 abg (anF l)=
 Tree.ret [.aW,.vec (.ay .i64 l) 3] (.vec 1):=by kernel_rfl
theorem amf(l:List Int):run P bE.sum f71 abg (anG l)=
 Tree.ret [.aW,.vec (.ay .i64 l) 3] (.vec 1):=by kernel_rfl
theorem lH{l:List Int}{k:Nat}(h:k<l.length):l.take (k+1)=l.take k++[l.getD k 0]:=by
 rw[List.take_add_one,getElem?_eq_getElem h,cK h];rfl
theorem af0{l:List Int}{k:Nat}(h0:0<k)(h:k<=l.length)(cG:l.take k≠[]):(l.take k).getLast cG=l.getD (k - 1) 0:=by
 rw[List.getLast_eq_getElem,cK (by omega),List.getElem_take];congr 1;rw[length_take];omega
theorem abh{l:List Int}{k:Nat}(h0:0<k)(h:k<l.length):jw (l.take (k+1))=jw (l.take k)++(if l.getD k 0=l.getD (k - 1) 0 then []else [l.getD k 0]):=by
 have cG:l.take k≠[]:=λe=>by have:=congrArg List.length e;rw[length_take,length_nil]at this;omega
 rw[lH h,afV _ cG,af0 h0 (by omega)]
theorem acY{Z:aP}:ed P Z 71 sCm:=by
 refine cz func71 (by kernel_rfl) (fun x=>le_of_ble_eq_true (by kernel_rfl)) ?_;rintro(l:List Int) ⟨(hl:l.length≤1000000),_⟩ X hX hz;have jL:∀x∈abg,(sCm.heap l).length≤x.2.m:=by intro y hy;simp[abg]at hy;rcases hy with rfl|rfl|rfl|rfl|rfl<;>exact le_refl _
 have amg:∀zs:List Int,c6 (.ay .i64 zs) 0 (0+(aS.ay .i64 zs).n)=.ay .i64 zs:=fun zs=>by
  show aS.ay .i64 ((zs.take (0+zs.length)).drop 0)=_;rw[zero_add,List.take_length,List.drop_zero]
 have at8:∀(l':List Int) (k:Nat),l'.length=l.length→k≤l.length→l'.take k=jw l→Safe P 71 X (ki sCm l)
  (⟨sl 61 [(59,.part 0 0 (k - Int.toNat 0))],[.vec (.ay .i64 (over l' (0+k) (l.length - k) (replicate (l.length - k) 0))) 3],fI f71 15 3,kk 15⟩:aR):=by
  intro l' k hl' hk e;refine qh (t:=59) (id:=0) rfl rfl ?_
  have e2:c6 (.ay .i64 (over l' (0+k) (l.length - k) (replicate (l.length - k) 0))) 0 (0+(k - Int.toNat 0))=.ay .i64 (jw l):=by
   show aS.ay .i64 ((List.take (0+(k - 0)) (over l' (0+k) (l.length - k) (replicate (l.length - k) 0))).drop 0)=_;rw[List.drop_zero,zero_add,Nat.sub_zero,zero_add];unfold over;rw[append_assoc,List.take_append_of_le_length (by rw[length_take];omega),List.take_take,Nat.min_self,e]
  rw[e2];show Safe P _ X _ (anF (jw l));exact eC hz hX jL aQ.Ok.nil func71 (ame _) (ma 1 rfl (le_refl _) rfl rfl)
 have arF:∀(j:Nat) (l':List Int) (k lo k2:Nat),lo+k2+j=l.length→0<lo→0<k2→k≤lo+k2 - 1→l'.length=l.length→l'.take k=jw (l.take (lo+k2))→(∀i,k≤i→l'.getD i 0=l.getD i 0)→
  Safe P 71 X (ki sCm l) (acX l' (k:Int) lo (l.length - lo) (k2:Int)):=by
  intro j
  induction j with
  |zero=>
   intro l' k lo k2 hj h0 h2 hk hl' ht hi;refine eC hz hX jL aQ.Ok.nil func71 (aen l' k lo _ k2) ⟨fun h=>absurd (of_decide_eq_true h) (by omega),fun _=> ?_⟩;rw[hl',Int.toNat_natCast,Int.toNat_natCast];have:=at8 l' k hl' (by omega) (by rw[ht,List.take_of_length_le (by omega)]);refine⟨by omega,by omega,by omega,by omega,by omega, ?_,this⟩;rw[gJ _ _ (by omega) (by simp)];omega
  |succ j ih=>
   intro l' k lo k2 hj h0 h2 hk hl' ht hi;refine eC hz hX jL aQ.Ok.nil func71 (aen l' k lo _ k2) ?_;rw[Int.toNat_natCast,show((k2:Int) - 1).toNat=k2 - 1 from by omega,Int.toNat_natCast,hi (lo+k2) (by omega),hi (lo+(k2 - 1)) (by omega)];have hs:=abh (l:=l) (k:=lo+k2) (by omega) (by omega);rw[show lo+k2 - 1=lo+(k2 - 1)from by omega]at hs
   have same:l.getD (lo+k2) 0=l.getD (lo+(k2 - 1)) 0→Safe P 71 X (ki sCm l) (acX l' (k:Int) lo (l.length - lo) ((k2:Int)+1)):=fun e=>by
    have:=ih l' k lo (k2+1) (by omega) h0 (by omega) (by omega) hl' (by rw[show lo+(k2+1)=lo+k2+1 from by omega,hs,if_pos e,append_nil];exact ht) hi;exact this
   have diff:¬l.getD (lo+k2) 0=l.getD (lo+(k2 - 1)) 0→Safe P 71 X (ki sCm l) (acX (l'.set k (l.getD (lo+k2) 0)) ((k:Int)+1) lo (l.length - lo) ((k2:Int)+1)):=fun e=>by
    have:=ih (l'.set k (l.getD (lo+k2) 0)) (k+1) lo (k2+1) (by omega) h0 (by omega) (by omega) (by simpa using hl') (by
     rw[show lo+(k2+1)=lo+k2+1 from by omega,hs,if_neg e,lH (by simp;omega),List.take_set_of_le (le_refl _),ht,cK (by simp;omega),List.getElem_set_self]) (fun i h=>by
     simp only[List.getD,List.getElem?_set_ne (show k≠i from by omega)];exact hi i (by omega))
    exact this
   repeat' (with_reducible (first|refine dj ?_|refine bn ?_ ?_|refine bR (fun _=> ?_) (fun _=> ?_)|refine bS (fun _=> ?_) (fun _=> ?_)|refine bT (fun _=> ?_) (fun _=> ?_)|refine dk ?_|refine dm ?_|refine bU ?_|refine bV (fun _=> ?_) (fun _=> ?_)|refine bp (fun _=> ?_) (fun _=> ?_)|refine bW ?_|refine dn ?_))
   all_goals first|omega|exact⟨by omega,by omega⟩|exact same (by assumption)|exact diff (by assumption)
 have loop:∀(j k:Nat),k+j=l.length→0<k→jw (l.take k)=l.take k→Safe P 71 X (ki sCm l) (cCo l (k:Int)):=by
  intro j
  induction j with
  |zero=>
   intro k hk h0 hc;rw[List.take_of_length_le (by omega)]at hc;refine eC hz hX jL aQ.Ok.nil func71 (ajb l k) ⟨fun h=>absurd (of_decide_eq_true h) (by omega),fun _=> ?_⟩;refine mc (t:=60) (id:=0) rfl rfl (amg l) ?_;show Safe P _ X _ (anG l);exact eC hz hX jL aQ.Ok.nil func71 (amf _) (ma 1 rfl (le_refl _) rfl (by show [au.aW,.vec (.ay .i64 (jw l)) 3]=_;rw[hc]))
  |succ j ih=>
   intro k hk h0 hc;refine eC hz hX jL aQ.Ok.nil func71 (ajb l k) ?_;have hs:=abh (l:=l) (k:=k) h0 (by omega);rw[Int.toNat_natCast,show((k:Int) - 1).toNat=k - 1 from by omega];have next:=fun e:¬l.getD k 0=l.getD (k - 1) 0=>ih (k+1) (by omega) (by omega) (by rw[hs,if_neg e,hc,lH (by omega)])
   have dup:=fun e:l.getD k 0=l.getD (k - 1) 0=>arF (l.length - (k+1)) l k k 1 (by omega) (by omega) (by omega) (by omega) rfl (by rw[hs,if_pos e,hc,append_nil]) (fun _ _=>rfl);rw[zero_add,Int.toNat_natCast]
   repeat' (with_reducible (first|refine dj ?_|refine bn ?_ ?_|refine bR (fun _=> ?_) (fun _=> ?_)|refine bS (fun _=> ?_) (fun _=> ?_)|refine bT (fun _=> ?_) (fun _=> ?_)|refine dk ?_|refine dm ?_|refine bU ?_|refine bV (fun _=> ?_) (fun _=> ?_)|refine bp (fun _=> ?_) (fun _=> ?_)|refine bW ?_|refine dn ?_))
   all_goals first|omega|exact⟨by omega,by omega⟩|exact dup (by assumption)|exact next (by assumption)
 refine eC hz hX jL aQ.Ok.nil func71 (at7 l) ⟨fun h=> ?_,fun h=> ?_⟩
 ·have h:=of_decide_eq_true h
  have hc:jw l=l:=by
   match l,h with
   |[],_=>rfl
   |[x],_=>rfl
   |x::y::l,h=>simp only[length_cons]at h;omega
  refine mc (t:=9) (id:=0) rfl rfl (amg l) ?_;show Safe P _ X _ (arD l);exact eC hz hX jL aQ.Ok.nil func71 (ao6 _) (ma 1 rfl (le_refl _) rfl (by show [au.aW,.vec (.ay .i64 (jw l)) 3]=_;rw[hc]))
 ·have h:=of_decide_eq_false h;refine loop (l.length - 1) 1 (by omega) (by omega) ?_;cases l with
  |nil=>simp at h
  |cons x l=>simp[jw,rP]
abbrev acZ:AL [dF,bx]->List Prop:=λ((_,_,ns,_,()),_,())=>[(ns:List (CL cN)).length<=1000000]
abbrev at9:AL [dF,bx]->List Prop:=λ((_,_,_,fs,()),_,())=>[(fs:List (CL cF)).length<=1000000]
abbrev arG:=dY [dF,bx] [jx] acZ (λ((_,_,ns,_,()),n,())=>(bu ns n,()))
abbrev ajc:=dY [dF,bx] [jx] at9 (λ((_,_,_,fs,()),n,())=>(cZ fs n,()))
abbrev ajd:=sumOf [dF,bx] [bx,aZ] acZ (λ((_,_,ns,_,()),n,())=>(bk ns n,j6 ns n,()))
abbrev anH:=sumOf [dF,bx] [bx,aZ] acZ (λ((_,_,ns,_,()),n,())=>(fc ns n,kx ns n,()))
def ac0(ns:Ns)(n:Int):Int:=if 0<=n/\n<(ns.length:Int)then n else ns.length
abbrev aM(ns:Ns)(n:Int):CL cN:=el ns (ac0 ns n)
abbrev exN(x:CL cN):CL cN:=(nN x,nK x,nI x,nO x,nE x,nY x,nT x,nS x,nB x,nV x,nZ x,())
abbrev abi:=dY [dF,bx] [y8,aZ] (λ_=>[]) (λ((_,_,ns,_,()),n,())=>(exN (aM ns n),dC ns n,()))
abbrev anJ:=sumOf [sS] [aZ] (λ_=>[]) (λ(x,())=>(pc x,()))
abbrev anK:=sumOf [gC] [aZ] (λ_=>[]) (λ(x,())=>(oh x,()))
abbrev aeo:=dY [bh,bg] [abe,aZ] (λ_=>[]) (λ(ps,name,())=>((pN (ag ps name),pV (ag ps name),pO (ag ps name),pF (ag ps name),()),abf ps name,()))
def aep:aQ:=[(20,arG),(70,ajc),(68,anH),(17,abi),(22,anK),(86,amd),(71,arE)]
abbrev fNx:FuncId:=87
abbrev ao7:List FuncId:=[73,72,85,97,fNx]
def kN(i:Nat):Nat:=(fNx+1)*100000+i
def ao8:List (Nat×Norm):=[(kN 1,⟨[],[0,1,2,14,15,16,64,75,76],0,[(4,0,false,.ay .i64 [],3)]⟩),(kN 8,⟨[],[0,1,2,41,42,43,64,75,76],0,[]⟩)]
theorem aua(a:ByteArray)(vs:Vs)(ns:Ns)(fs:Fs)(n:Int):run P aep.sum f52 ao8 (start f52 [jy a vs ns fs,aT n] []) ao7=
 Tree.ite (!dC ns n) (.ret [.ad [.s (.str a),.s (.ro (.ab cV vs)),.s (.ro (.ab cN ns)),.s (.ro (.ab cF fs))] 30,.ad [.s (.str (nN (aM ns n))),.s (.int .u8 (nK (aM ns n))),aT (nI (aM ns n)),aT (nO (aM ns n)),.s (.int .u8 (nE (aM ns n))),.s (.str (nY (aM ns n))),.s (.str (nT (aM ns n))),.s (.str (nS (aM ns n))),.s (.bool (nB (aM ns n))),.s (.ro (.ab cV (nV (aM ns n)))),.s (.ro (.strs (nZ (aM ns n))))] 40] .emp) (.aa (List.length fs<=1000000) (.at (.mk (sl 111 [(0,.tag 0),(1,.ptr 1 0),(2,.ptr 2 0),(14,.vec 3),(15,aT (↑(cZ fs n).length:Int)),(16,aT 0),(64,.ptr 4 0),(75,.tag 5),(76,.tag 0)]) [.aW,.ad [.s (.str a),.s (.ro (.ab cV vs)),.s (.ro (.ab cN ns)),.s (.ro (.ab cF fs))] 30,.ad [aT n] 3,.vec (.ay .i64 (cZ fs n)) 3,.ad [.vec 6] 23,.aW,.vec (.ay .i64 []) 3] (hd f87 1) (.mk (some 87) false 0 [yY f97 (some 97) 3 1,cw f85 (some 85) 1 1 false 0,cw f72 (some 72) 1 1 false 0,cw f52 none 4 3 false 0] 0)))):=by kernel_rfl
abbrev frN:List q8:=[yY f97 (some 97) 3 1,cw f85 (some 85) 1 1 false 0,cw f72 (some 72) 1 1 false 0,cw f52 none 4 3 false 0]
def cN1(a:ByteArray)(vs:Vs)(ns:Ns)(fs:Fs)(n:Int)(l acc:List Int)(i:Int):aR:=⟨sl 111 [(0,.tag 0),(1,.ptr 1 0),(2,.ptr 2 0),(14,.vec 3),(15,aT (l.length:Int)),(16,aT i),(64,.ptr 4 0),(75,.tag 5),(76,.tag 0)],[.aW,jc a vs ns fs,.ad [aT n] 3,.vec (.ay .i64 l) 3,.ad [.vec 6] 23,.aW,.vec (.ay .i64 acc) 3],hd f87 1,⟨some fNx,false,0,frN,0⟩⟩
theorem arH(a:ByteArray)(vs:Vs)(ns:Ns)(fs:Fs)(n:Int)(l acc:List Int)(i:Int):run P aep.sum f52 ao8 (cN1 a vs ns fs n l acc i) ao7=
 Tree.ite (decide (i<l.length)) (.aa ((0:Int)<=i) (.aa (i<l.length) (.aa ((0:Int)<=l.getD i.toNat 0) (.aa (l.getD i.toNat (0:Int)<(↑(List.length fs):Int)) (.aa ((acc.length+1)*(8:Nat)<=140737488355328) (.aa (aD (i+1)) (.at (cN1 a vs ns fs n l (acc++[fB (el fs (l.getD i.toNat 0))]) (i+1)))))))))
 (.ite (oh (nK (aM ns n))) (.aa (List.length ns<=1000000) (.at (.mk (sl 111 [(0,.tag 0),(1,.ptr 1 0),(2,.ptr 2 0),(41,.vec 3),(42,.s (.int .i64 (↑(bu ns n).length:Int))),(43,.s (.int .i64 0)),(64,.ptr 4 0),(75,.tag 5),(76,.tag 0)]) [.aW,.ad [.s (.str a),.s (.ro (.ab cV vs)),.s (.ro (.ab cN ns)),.s (.ro (.ab cF fs))] 30,.ad [.s (.int .i64 n)] 3,.vec (.ay .i64 (bu ns n)) 3,.ad [.vec 6] 23,.aW,.vec (.ay .i64 acc) 3] (hd f87 8) (.mk (some 87) false 0 [yY f97 (some 97) 3 1,cw f85 (some 85) 1 1 false 0,cw f72 (some 72) 1 1 false 0,cw f52 none 4 3 false 0] 0)))) (.aa (List.length ns<=1000000) (.ite (kx ns n) (.aa ((acc.length+1)*(8:Nat)<=140737488355328) (.aa (bN (some [AV.vec 0])) (.aa (bN (some [au.vec (.ay .i64 (acc++[fc ns n])) 3])) (.aa ((acc++[fc ns n]).length<=1000000) (.aa (bN (some [AV.vec 0])) (.aa (bN (some [au.vec (.ay .i64 (gp (acc++[fc ns n]))) 3])) (.aa ((gp (acc++[fc ns n])).length<=1000000) (.ret [.aW,.ad [.s (.str a),.s (.ro (.ab cV vs)),.s (.ro (.ab cN ns)),.s (.ro (.ab cF fs))] 30,.ad [.s (.int .i64 n)] 3,.vec (.ay .i64 l) 3,.ad [.vec 9] 23,.aW,.aW,.ad [.s (.str (nN (aM ns n))),.s (.int .u8 (nK (aM ns n))),.s (.int .i64 (nI (aM ns n))),.s (.int .i64 (nO (aM ns n))),.s (.int .u8 (nE (aM ns n))),.s (.str (nY (aM ns n))),.s (.str (nT (aM ns n))),.s (.str (nS (aM ns n))),.s (.bool (nB (aM ns n))),.s (.ro (.ab cV (nV (aM ns n)))),.s (.ro (.strs (nZ (aM ns n))))] 40,.vec (.ay .i64 [fc ns n]) 3,.aW,.vec (.ay .i64 (jw (gp (acc++[fc ns n])))) 3] (.vec 10))))))))) (.aa (bN (some [AV.vec 0])) (.aa (bN (some [au.vec (.ay .i64 acc) 3])) (.aa (acc.length<=1000000) (.aa (bN (some [AV.vec 0])) (.aa (bN (some [au.vec (.ay .i64 (gp acc)) 3])) (.aa ((gp acc).length<=1000000) (.ret [.aW,.ad [.s (.str a),.s (.ro (.ab cV vs)),.s (.ro (.ab cN ns)),.s (.ro (.ab cF fs))] 30,.ad [.s (.int .i64 n)] 3,.vec (.ay .i64 l) 3,.ad [.vec 6] 23,.aW,.aW,.ad [.s (.str (nN (aM ns n))),.s (.int .u8 (nK (aM ns n))),.s (.int .i64 (nI (aM ns n))),.s (.int .i64 (nO (aM ns n))),.s (.int .u8 (nE (aM ns n))),.s (.str (nY (aM ns n))),.s (.str (nT (aM ns n))),.s (.str (nS (aM ns n))),.s (.bool (nB (aM ns n))),.s (.ro (.ab cV (nV (aM ns n)))),.s (.ro (.strs (nZ (aM ns n))))] 40,.vec (.ay .i64 (jw (gp acc))) 3] (.vec 8))))))))))):=by kernel_rfl
def cN8(a:ByteArray)(vs:Vs)(ns:Ns)(fs:Fs)(n:Int)(l acc:List Int)(i:Int):aR:=⟨sl 111 [(0,.tag 0),(1,.ptr 1 0),(2,.ptr 2 0),(41,.vec 3),(42,aT (l.length:Int)),(43,aT i),(64,.ptr 4 0),(75,.tag 5),(76,.tag 0)],[.aW,jc a vs ns fs,.ad [aT n] 3,.vec (.ay .i64 l) 3,.ad [.vec 6] 23,.aW,.vec (.ay .i64 acc) 3],hd f87 8,⟨some fNx,false,0,frN,0⟩⟩
def kP(fs:Fs)(n:Int):List Int:=(cZ fs n).map λi=>fB (el fs i)
def eA(ns:Ns)(fs:Fs)(n:Int):List Int:=kP fs n++((if oh (nK (nodeAt ns n))then bu ns n else [])++(if kx ns n then [fc ns n]else []))
def b6(ns:Ns)(fs:Fs)(n:Int):List Int:=if dC ns n then jw (gp (eA ns fs n))else []
abbrev arI:AL [dF,bx]->List Prop:=λ((_,_,ns,fs,()),_,())=>[(ns:List (CL cN)).length<=400000,(fs:List (CL cF)).length<=400000]
abbrev arJ:=dY [dF,bx] [jx] arI (λ((_,_,ns,fs,()),n,())=>(b6 ns fs n,()))
theorem arK(a:ByteArray)(vs:Vs)(ns:Ns)(fs:Fs)(n:Int)(l acc:List Int)(i:Int):run P aep.sum f52 ao8 (cN8 a vs ns fs n l acc i) ao7=
 Tree.ite (decide (i<l.length)) (.aa ((0:Int)<=i) (.aa (i<l.length) (.aa ((acc.length+1)*(8:Nat)<=140737488355328) (.aa (aD (i+1)) (.at (cN8 a vs ns fs n l (acc++[l.getD i.toNat 0]) (i+1))))))) (.aa (List.length ns<=1000000) (.ite (kx ns n) (.aa ((acc.length+1)*(8:Nat)<=140737488355328) (.aa (bN (some [AV.vec 0])) (.aa (bN (some [au.vec (.ay .i64 (acc++[fc ns n])) 3])) (.aa ((acc++[fc ns n]).length<=1000000) (.aa (bN (some [AV.vec 0])) (.aa (bN (some [au.vec (.ay .i64 (gp (acc++[fc ns n]))) 3])) (.aa ((gp (acc++[fc ns n])).length<=1000000) (.ret [.aW,.ad [.s (.str a),.s (.ro (.ab cV vs)),.s (.ro (.ab cN ns)),.s (.ro (.ab cF fs))] 30,.ad [.s (.int .i64 n)] 3,.vec (.ay .i64 l) 3,.ad [.vec 8] 23,.aW,.aW,.vec (.ay .i64 [fc ns n]) 3,.aW,.vec (.ay .i64 (jw (gp (acc++[fc ns n])))) 3] (.vec 9))))))))) (.aa (bN (some [AV.vec 0])) (.aa (bN (some [au.vec (.ay .i64 acc) 3])) (.aa (acc.length<=1000000) (.aa (bN (some [AV.vec 0])) (.aa (bN (some [au.vec (.ay .i64 (gp acc)) 3])) (.aa ((gp acc).length<=1000000) (.ret [.aW,.ad [.s (.str a),.s (.ro (.ab cV vs)),.s (.ro (.ab cN ns)),.s (.ro (.ab cF fs))] 30,.ad [.s (.int .i64 n)] 3,.vec (.ay .i64 l) 3,.ad [.vec 6] 23,.aW,.aW,.vec (.ay .i64 (jw (gp acc))) 3] (.vec 7)))))))))):=by kernel_rfl
theorem nQ(ns:Ns)(n:Int):nodeAt ns n=aM ns n:=by
 show _=el ns (ac0 ns n);unfold nodeAt ac0;split;rfl;show _=ns.getD ((ns.length:Int)).toNat (CL.d cN);simp[List.getD]
theorem ve{Z:aP}:cf P Z 17 [dF,bx] [y8,aZ] (λ_=>[]) (λ((_,_,ns,_,()),n,())=>(exN (aM ns n),dC ns n,())):=by
 have h:=arC (Z:=Z)
 have e:(λ((_,_,ns,_,()),n,())=>(nodeAt ns n,dC ns n,()):AL [dF,bx]->AL [y8,aZ])=(λ((_,_,ns,_,()),n,())=>(exN (aM ns n),dC ns n,())):=by
  funext ⟨⟨_,_,ns,_,⟨⟩⟩,n,⟨⟩⟩;show((nodeAt ns n,dC ns n,()):AL [y8,aZ])=(aM ns n,dC ns n,());rw[nQ];rfl
 rw[e]at h;exact h
theorem ng{Z:aP}:aep.Ok P Z:=aQ.Ok.cons anA.dY (aQ.Ok.cons ai9.dY (aQ.Ok.cons anC.sum (aQ.Ok.cons ve.dY (aQ.Ok.cons anE.sum (aQ.Ok.cons (al9.sum aem) (aQ.Ok.cons (acY.sum aem) aQ.Ok.nil))))))
theorem aeq{cs:List CK}{p:CL cs->Bool}{l:List (CL cs)}:∀{i:Int},∀x∈dH p l i,i<=x/\x<i+(l.length:Int):=by
 induction l with
 |nil=>intro i x h;simp[dH]at h
 |cons y l ih=>
  intro i x h;simp only[dH,mem_append]at h;rw[length_cons];rcases h with h|h;split at h;simp at h;omega;simp at h;have:=ih x h;omega
theorem rQ(fs:Fs)(n:Int):(kP fs n).length<=fs.length:=by
 unfold kP;rw[length_map];exact gq _ _
theorem abj{l:List Int}{k:Nat}(h:k<l.length):l.getD k 0∈l:=by rw[cK h];exact getElem_mem h
theorem aje{Z:aP}:cf P Z 52 [dF,bx] [jx] arI (λ((_,_,ns,fs,()),n,())=>(b6 ns fs n,())):=by
 refine a6 func52 (by kernel_rfl) (by kernel_rfl) ?_;rintro⟨⟨(a:ByteArray),(vs:List (CL cV)),(ns:List (CL cN)),(fs:List (CL cF)),⟨⟩⟩,(n:Int),⟨⟩⟩ _ ⟨(hn:ns.length<=400000),(hf:fs.length<=400000),_⟩ X hX hz;show Safe P 52 X (Ends [jx] (b6 ns fs n,())) _;refine go hz hX ng func52 (aua a vs ns fs n) ?_;cases c9:dC ns n with
 |false=>
  refine af rfl ?_;have e:b6 ns fs n=[]:=by unfold b6;rw[c9];rfl
  rw[e];exact aL _ rfl (by kernel_rfl)
 |true=>
  refine ak rfl ⟨by omega, ?_⟩;have ec:b6 ns fs n=jw (gp (eA ns fs n)):=by unfold b6;rw[c9];rfl
  have hb:(bu ns n).length<=ns.length:=gq _ _
  have arL:oh (nK (nodeAt ns n))=true->∀(j k:Nat),k+j=(bu ns n).length->Safe P 52 X (Ends [jx] (b6 ns fs n,())) (cN8 a vs ns fs n (bu ns n) (kP fs n++(bu ns n).take k) (k:Int)):=by
   intro xh j;have rY:=rQ fs n
   induction j with
   |zero=>
    intro k hk;rw[List.take_of_length_le (by omega)];refine go hz hX ng func52 (arK a vs ns fs n _ _ k) (ak (decide_eq_false (by omega)) ⟨by omega, ?_⟩);have bL:(kP fs n++bu ns n).length<=800000:=by rw[length_append];omega
    cases hl:kx ns n with
    |true=>
     have e:kP fs n++bu ns n++[fc ns n]=eA ns fs n:=by unfold eA;rw[xh,hl];simp
     refine af rfl ⟨by omega, ?_⟩;rw[e];have arM:(eA ns fs n).length<=800001:=by rw[<-e,length_append];simp only[length_cons,length_nil];omega
     refine⟨rfl,rfl,by omega,rfl,rfl,by rw[fJ];omega, ?_⟩;rw[ec];exact aL _ rfl (by kernel_rfl)
    |false=>
     have e:kP fs n++bu ns n=eA ns fs n:=by unfold eA;rw[xh,hl];simp
     rw[e]at bL;rw[e];refine ak rfl ⟨rfl,rfl,by omega,rfl,rfl,by rw[fJ];omega, ?_⟩;rw[ec];exact aL _ rfl (by kernel_rfl)
   |succ j ih=>
    intro k hk;have a8:k<(bu ns n).length:=by omega
    have next:=ih (k+1) (by omega)
    rw[lH a8,<-append_assoc]at next
    refine go hz hX ng func52 (arK a vs ns fs n _ _ k) (af (decide_eq_true (by omega)) ⟨by omega,by omega, ?_,⟨by omega,by omega⟩,next⟩);rw[length_append,length_take];omega
  have arN:∀(j k:Nat),k+j=(cZ fs n).length->Safe P 52 X (Ends [jx] (b6 ns fs n,())) (cN1 a vs ns fs n (cZ fs n) (((cZ fs n).take k).map λi=>fB (el fs i)) (k:Int)):=by
   intro j;have hfl:(cZ fs n).length<=fs.length:=gq _ _
   induction j with
   |zero=>
    intro k hk;rw[List.take_of_length_le (by omega)];have rY:=rQ fs n;refine go hz hX ng func52 (arH a vs ns fs n _ _ k) (ak (decide_eq_false (by omega)) ?_);rw[<-nQ];show Tree.Holds _ (Safe P 52 X (Ends [jx] (b6 ns fs n,()))) _;cases xh:oh (nK (nodeAt ns n))with
    |true=>
     refine af rfl ⟨by omega, ?_⟩;have:=arL xh (bu ns n).length 0 (by omega);rw[List.take_zero,append_nil]at this;exact this
    |false=>
     refine ak rfl ⟨by omega, ?_⟩;rw[show((cZ fs n).map λi=>fB (el fs i))=kP fs n from rfl];cases hl:kx ns n with
     |true=>
      have e:kP fs n++[fc ns n]=eA ns fs n:=by unfold eA;rw[xh,hl];simp
      refine af rfl ⟨by omega, ?_⟩;rw[e];have arM:(eA ns fs n).length<=800001:=by rw[<-e,length_append];simp only[length_cons,length_nil];omega
      refine⟨rfl,rfl,by omega,rfl,rfl,by rw[fJ];omega, ?_⟩;rw[ec];exact aL _ rfl (by kernel_rfl)
     |false=>
      have e:kP fs n=eA ns fs n:=by unfold eA;rw[xh,hl];simp
      rw[e]at rY;rw[e];refine ak rfl ⟨rfl,rfl,by omega,rfl,rfl,by rw[fJ];omega, ?_⟩;rw[ec];exact aL _ rfl (by kernel_rfl)
   |succ j ih=>
    intro k hk;have a8:k<(cZ fs n).length:=by omega
    have next:=ih (k+1) (by omega)
    rw[lH a8,map_append,map_cons,List.map_nil]at next
    have hm:0<=(cZ fs n).getD k 0/\(cZ fs n).getD k 0<0+(fs.length:Int):=aeq (p:=pFr n) (l:=fs) (i:=0) _ (abj a8);refine go hz hX ng func52 (arH a vs ns fs n _ _ k) (af (decide_eq_true (by omega)) ⟨by omega,by omega, ?_, ?_, ?_,⟨by omega,by omega⟩, ?_⟩);rw[Int.toNat_natCast];omega;rw[Int.toNat_natCast];omega;rw[length_map,length_take];omega;rw[Int.toNat_natCast];exact next
  have:=arN (cZ fs n).length 0 (by omega);rw[List.take_zero,List.map_nil]at this;exact this
abbrev kM:CK:=.int .i64
abbrev Mp:Type:=List (Int×Int)
theorem af1:∀(m:Mp) (n x v:Int),iP (oc m n v) x=if x=n then some v else iP m x:=by
 intro m n x v
 have aub:∀l:Mp,(l.map λp=>if p.1==n then(n,v)else p).find? (λp=>p.1==x)=if x=n then(if mB l n=true then some (n,v)else none)else l.find? (λp=>p.1==x):=by
  intro l
  induction l with
  |nil=>simp[mB]|cons p l ih=>
   simp only[map_cons,List.find?_cons];by_cases hp:p.1=n;have ri:(p.1==n)=true:=by simpa using hp
   simp only[ri,if_true];by_cases hx:x=n;subst hx;simp[mB,hp];have:(n==x)=false:=by simpa using Ne.symm hx
   have h2:(p.1==x)=false:=by rw[hp];exact this
   rw[this,h2,ih,if_neg hx];simp[hx];have ri:(p.1==n)=false:=by simpa using hp
   simp only[ri,Bool.false_eq_true,if_false];by_cases hpx:p.1=x;have:(p.1==x)=true:=by simpa using hpx
   rw[this];rw[if_neg (λh=>hp (hpx.trans h))];have:(p.1==x)=false:=by simpa using hpx
   rw[this,ih];have hm:mB (p::l) n=mB l n:=by simp[mB,hp]
   rw[hm]
 unfold oc iP;split;rename_i hh;rw[aub];split;rfl;rfl;rename_i hh;rw[List.find?_append];by_cases hx:x=n;subst hx;rw[if_pos rfl]
 have:m.find? (λp=>p.1==x)=none:=by
  rw[List.find?_eq_none];intro p hp hpx;exact hh (by simp only[mB,List.any_eq_true];exact⟨p,hp,hpx⟩)
 rw[this];simp;rw[if_neg hx];have:(n==x)=false:=by simpa using Ne.symm hx
 simp[List.find?_cons,this]
def hD(m:Mp)(k:Int):Int:=(iP m k).getD 0
def inc(m:Mp)(k:Int):Mp:=oc m k (hD m k+1)
theorem ia(m:Mp)(k z:Int):hD (inc m k) z=if z=k then hD m k+1 else hD m z:=by
 unfold inc;show(iP (oc m k (hD m k+1)) z).getD 0=_;rw[af1];split<;>rfl
theorem ajf{m:Mp}{n z:Int}(hp:∀z,0<=hD m z)(hz:0<hD m z):0<hD (inc m n) z:=by
 rw[ia];split;have:=hp n;omega;exact hz
theorem ajg{m:Mp}{n:Int}(hp:∀z,0<=hD m z)(z:Int):0<=hD (inc m n) z:=by
 rw[ia];split;have:=hp n;omega;exact hp z
theorem abk{m:Mp}{n z:Int}(hz:0<hD (inc m n) z):z=n\/0<hD m z:=by
 rw[ia]at hz;split at hz;rename_i e;exact .inl e;exact .inr hz
inductive Fr (lT:CL cN->Bool) (ns:Ns) (fs:Fs) (x:Int):Int->Prop
 |a {z:Int} (h:z∈b6 ns fs x):Fr lT ns fs x z|b {w z:Int} (h:Fr lT ns fs x w) (hi:dC ns w=true) (ht:lT (nodeAt ns w)=true) (hz:z∈b6 ns fs w):Fr lT ns fs x z
def kQ(lT:CL cN->Bool)(ns:Ns)(fs:Fs)(x y:Int):Bool:= @decide (Fr lT ns fs x y/\dC ns y=true) (Classical.propDecidable _)
theorem mf{lT:CL cN->Bool}{ns:Ns}{fs:Fs}{x y:Int}:kQ lT ns fs x y=true↔Fr lT ns fs x y/\dC ns y=true:=by
 unfold kQ;exact @decide_eq_true_iff _ (Classical.propDecidable _)
def ow(ns:Ns)(m:Mp):Nat:=(List.range ns.length).countP λ(i:Nat)=>hD m ((i:Nat):Int)==0
theorem ac1{p q:Nat->Bool}(hq:∀i,q i=true->p i=true){k:Nat}(h1:p k=true)(h2:q k=false):∀{n:Nat},k<n->(List.range n).countP q+1<=(List.range n).countP p:=by
 intro n
 induction n with
 |zero=>intro h;omega
 |succ n ih=>
  intro h;rw[List.range_succ,List.countP_append,List.countP_append];by_cases e:k=n;subst e;have:(List.range k).countP q<=(List.range k).countP p:=List.countP_mono_left λi _=>hq i;simp only[List.countP_cons,List.countP_nil,h1,h2];simp;omega;have:=ih (by omega);have h3:List.countP q [n]<=List.countP p [n]:=List.countP_mono_left λi _=>hq i;omega
theorem amh{ns:Ns}{m:Mp}{k:Int}(hp:∀z,0<=hD m z)(c9:dC ns k=true)(h0:hD m k=0):ow ns (inc m k)+1<=ow ns m:=by
 have c9:0<=k/\k<(ns.length:Int):=of_decide_eq_true c9;unfold ow;refine ac1 (k:=k.toNat) (λi hi=> ?_) ?_ ?_ (by omega);rw[beq_iff_eq,ia]at hi;rw[beq_iff_eq];split at hi;rename_i e;have:=hp k;omega;exact hi;rw[beq_iff_eq,show((k.toNat:Nat):Int)=k from by omega];exact h0;rw[beq_eq_false_iff_ne,ia,if_pos (by omega)];have:=hp k;omega
theorem ao9{ns:Ns}{m:Mp}{k:Int}(hp:∀z,0<=hD m z):ow ns (inc m k)<=ow ns m:=by
 unfold ow;refine List.countP_mono_left λi _ hi=> ?_;rw[beq_iff_eq,ia]at hi;rw[beq_iff_eq];split at hi;rename_i e;have:=hp k;omega;exact hi
structure Rnd (lT:CL cN->Bool) (ns:Ns) (fs:Fs) (x y:Int) (m:Mp) (l:List Int):Prop where
 fr:∀z∈l,Fr lT ns fs x z
 met:∀z,0<hD m z->Fr lT ns fs x z
 cu:∀z∈b6 ns fs x,z∈l\/0<hD m z
 clo:∀w,0<hD m w->dC ns w=true->lT (nodeAt ns w)=true->∀z∈b6 ns fs w,z∈l\/0<hD m z
 no:0<hD m y->dC ns y=false
 pos:∀z,0<=hD m z
variable{lT:CL cN->Bool}{ns:Ns}{fs:Fs}{x y n:Int}{m:Mp}{l:List Int}
theorem Rnd.zero:Rnd lT ns fs x y [] (b6 ns fs x):=
 ⟨λz h=>.a h,λz h=>absurd h (by show¬(0:Int)<0;omega),λz h=>.inl h,λw h=>absurd h (by show¬(0:Int)<0;omega),λh=>absurd h (by show¬(0:Int)<0;omega),λz=>Int.le_refl 0⟩
theorem Rnd.last(h:Rnd lT ns fs x y m []):kQ lT ns fs x y=false:=by
 cases e:kQ lT ns fs x y with
 |false=>rfl|true=>
  have⟨h1,h2⟩:=mf.1 e
  have key:∀z,Fr lT ns fs x z->0<hD m z:=by
   intro z hz
   induction hz with
   |a hz=>rcases h.cu _ hz with h|h; · cases h
          exact h
   |b hw hi ht hz ih=>rcases h.clo _ ih hi ht _ hz with h|h; · cases h
                      exact h
  rw[h.no (key y h1)]at h2;cases h2
theorem Rnd.skip(h:Rnd lT ns fs x y m (n::l))(hn:1<hD (inc m n) n\/dC ns n=false\/lT (nodeAt ns n)=false)(hy:1<hD (inc m n) n\/dC ns n=false\/n≠y):Rnd lT ns fs x y (inc m n) l:=by
 have hp:=h.pos;have mono:∀z,0<hD m z->0<hD (inc m n) z:=λz hz=>ajf hp hz;have self:0<hD (inc m n) n:=by rw[ia,if_pos rfl];have:=hp n;omega
 have move:∀z,z∈n::l\/0<hD m z->z∈l\/0<hD (inc m n) z:=λz hz=>by
  rcases hz with hz|hz;rcases mem_cons.1 hz with rfl|hz;exact .inr self;exact .inl hz;exact .inr (mono z hz)
 have back:∀z,0<hD (inc m n) z->z=n\/0<hD m z:=λz hz=>abk hz;have one:1<hD (inc m n) n->0<hD m n:=λhz=>by rw[ia,if_pos rfl]at hz;omega
 refine⟨λz hz=>h.fr z (List.mem_cons_of_mem _ hz),λz hz=> ?_,λz hz=>move z (h.cu z hz),λw hw hi ht z hz=> ?_,λhz=> ?_,λz=> ?_⟩;rcases back z hz with rfl|hz;exact h.fr _ List.mem_cons_self;exact h.met z hz;rcases back w hw with rfl|hw;rcases hn with hn|hn|hn;exact move z (h.clo _ (one hn) hi ht z hz);rw[hn]at hi;cases hi;rw[hn]at ht;cases ht;exact move z (h.clo w hw hi ht z hz);rcases back y hz with e|hz;subst e;rcases hy with hy|hy|hy;exact h.no (one hy);exact hy;exact absurd rfl hy;exact h.no hz;exact ajg hp z
theorem Rnd.hit(h:Rnd lT ns fs x y m (y::l))(hi:dC ns y=true):kQ lT ns fs x y=true:=mf.2 ⟨h.fr _ List.mem_cons_self,hi⟩
theorem Rnd.more(h:Rnd lT ns fs x y m (n::l))(hi:dC ns n=true)(ht:lT (nodeAt ns n)=true)(hy:n≠y):Rnd lT ns fs x y (inc m n) (l++b6 ns fs n):=by
 have hp:=h.pos;have mono:∀z,0<hD m z->0<hD (inc m n) z:=λz hz=>ajf hp hz;have self:0<hD (inc m n) n:=by rw[ia,if_pos rfl];have:=hp n;omega
 have move:∀z,z∈n::l\/0<hD m z->z∈l++b6 ns fs n\/0<hD (inc m n) z:=λz hz=>by
  rcases hz with hz|hz;rcases mem_cons.1 hz with rfl|hz;exact .inr self;exact .inl (List.mem_append_left _ hz);exact .inr (mono z hz)
 have back:∀z,0<hD (inc m n) z->z=n\/0<hD m z:=λz hz=>abk hz;refine⟨λz hz=> ?_,λz hz=> ?_,λz hz=>move z (h.cu z hz),λw hw ep ht' z hz=> ?_,λhz=> ?_,λz=> ?_⟩;rcases mem_append.1 hz with hz|hz;exact h.fr z (List.mem_cons_of_mem _ hz);exact .b (h.fr n List.mem_cons_self) hi ht hz;rcases back z hz with rfl|hz;exact h.fr _ List.mem_cons_self;exact h.met z hz;rcases back w hw with rfl|hw;exact .inl (List.mem_append_right _ hz);exact move z (h.clo w hw ep ht' z hz);rcases back y hz with e|hz;exact absurd e.symm hy;exact h.no hz;exact ajg hp z
theorem vg:∀{l:List Int} {x:Int},(rP x l).length<=l.length
 |[],x=>le_refl _|y::l,x=>by
  simp only[rP];split;have:=vg (l:=l) (x:=y);simp only[length_cons];omega;have:=vg (l:=l) (x:=y);simp only[length_cons];omega
theorem ajh{l:List Int}:(jw l).length<=l.length:=by
 cases l with
 |nil=>exact le_refl _|cons x l=>have:=vg (l:=l) (x:=x);simp only[jw,length_cons];omega
theorem rR(ns:Ns)(fs:Fs)(n:Int):(b6 ns fs n).length<=ns.length+fs.length+1:=by
 unfold b6;split;have h1:=ajh (l:=gp (eA ns fs n));rw[fJ]at h1
 have h2:(eA ns fs n).length<=ns.length+fs.length+1:=by
  have h3:=rQ fs n;have h4:(bu ns n).length<=ns.length:=gq _ _;unfold eA;rw[length_append,length_append];split<;>split<;>simp only[length_nil,length_cons]<;>omega
 omega;simp
end Ds
namespace Ds
open Go Go.Sx Go.Proofs Lf
def aer:aQ:=[(52,arJ),(17,abi),(31,anJ)]
abbrev fRe:FuncId:=32
theorem nh{Z:aP}:aer.Ok P Z:=aQ.Ok.cons aje.dY (aQ.Ok.cons ve.dY (aQ.Ok.cons anD.sum aQ.Ok.nil))
theorem aiC(n:Int)(l:List Int)(k:Nat)(hk:k=l.length):c6 (.ay .i64 (n::l)) 1 (1+k)=.ay .i64 l:=by
 subst hk;show aS.ay .i64 (((n::l).take (1+l.length)).drop 1)=_;rw[Nat.add_comm 1,List.take_succ_cons,List.take_length,List.drop_one,List.tail_cons]
theorem amg(l:List Int):c6 (.ay .i64 l) 0 (0+(aS.ay .i64 l).n)=.ay .i64 l:=by
 show aS.ay .i64 ((l.take (0+l.length)).drop 0)=_;rw[zero_add,List.take_length,List.drop_zero]
theorem aji{ns:Ns}{fs:Fs}{m:Mp}{n:Int}{l:List Int}{j:Nat}(hp:∀z,0<=hD m z)(hi:dC ns n=true)(h0:hD m n=0)(h:(n::l).length+ow ns m*(ns.length+fs.length+1)<=j+1):(l++b6 ns fs n).length+ow ns (inc m n)*(ns.length+fs.length+1)<=j:=by
 have h1:=amh hp hi h0;have h2:=rR ns fs n;have h3:=Nat.mul_le_mul_right (ns.length+fs.length+1) h1;rw[add_mul,Nat.one_mul]at h3;rw[length_append];rw[length_cons]at h;generalize ow ns (inc m n)*(ns.length+fs.length+1)=u at *;generalize ow ns m*(ns.length+fs.length+1)=v at *;omega
theorem ajj{ns:Ns}{fs:Fs}{m:Mp}{n:Int}{l:List Int}{j:Nat}(hp:∀z,0<=hD m z)(h:(n::l).length+ow ns m*(ns.length+fs.length+1)<=j+1):l.length+ow ns (inc m n)*(ns.length+fs.length+1)<=j:=by
 have h1:=ao9 (ns:=ns) (k:=n) hp;have h3:=Nat.mul_le_mul_right (ns.length+fs.length+1) h1;rw[length_cons]at h;generalize ow ns (inc m n)*(ns.length+fs.length+1)=u at *;generalize ow ns m*(ns.length+fs.length+1)=v at *;omega
theorem ajk{m:Mp}{n:Int}{c:Nat}(h:∀z,hD m z<=(c:Int)):∀z,hD (inc m n) z<=((c+1:Nat):Int):=λz=>by
 rw[ia];have:=h n;have:=h z;push_cast;split<;>omega
abbrev apa:List FuncId:=[fRe,33]
def apb:List (Nat×Norm):=[(2,⟨[],[1,6,7,8],0,[]⟩),((fRe+1)*100000+3,⟨[],[2,3,4,8,9,10,56,61,62,63,71],0,[]⟩)]
def cCi(a:ByteArray)(vs:Vs)(ns:Ns)(fs:Fs)(i:Int):aR:=⟨sl 23 [(1,.ptr 0 0),(6,.s (.ro (.ab cN ns))),(7,aT (ns.length:Int)),(8,aT i)],[jc a vs ns fs],hd f13 2,{}⟩
theorem auc(a:ByteArray)(vs:Vs)(ns:Ns)(fs:Fs):run P aer.sum f13 apb (start f13 [jy a vs ns fs] []) apa=
 Tree.at (cCi a vs ns fs 0):=by kernel_rfl
theorem arO(a:ByteArray)(vs:Vs)(ns:Ns)(fs:Fs)(i:Int):run P aer.sum f13 apb (cCi a vs ns fs i) apa=
 Tree.ite (decide (i<(↑(List.length ns):Int))) (.aa ((0:Int)<=i) (.aa (i<(↑(List.length ns):Int)) (.ite (!(nK (el ns i)==3||nK (el ns i)==10||nK (el ns i)==6&&(nE (el ns i)==1||nE (el ns i)==2||nE (el ns i)==3))) (.aa (List.length ns<=400000) (.aa (List.length fs<=400000) (.at (.mk (sl 78 [(2,.s (.int .i64 i)),(3,.s (.sM 33)),(4,.ptr 0 0),(8,.s (.bool false)),(9,.iy 1),(10,.vec 2),(56,.ptr 3 0),(61,.s (.ro (.ab cN ns))),(62,.s (.int .i64 (↑(List.length ns):Int))),(63,.s (.int .i64 i)),(71,.s (.bool true))]) [.ad [.s (.str a),.s (.ro (.ab cV vs)),.s (.ro (.ab cN ns)),.s (.ro (.ab cF fs))] 30,.map (.int .i64) [],.vec (.ay .i64 (b6 ns fs i)) 3,.ad [.s (.str a),.s (.ro (.ab cV vs)),.s (.ro (.ab cN ns)),.s (.ro (.ab cF fs))] 30] (hd f32 3) (.mk (some 32) false 0 [cw f13 none 4 7 false 0] 0))))) (.aa (aD (i+1)) (.at (cCi a vs ns fs (i+1))))))) (.ret [.ad [.s (.str a),.s (.ro (.ab cV vs)),.s (.ro (.ab cN ns)),.s (.ro (.ab cF fs))] 30] (.s (.ao false))):=by kernel_rfl
def cCe(a:ByteArray)(vs:Vs)(ns:Ns)(fs:Fs)(i:Int)(m:Mp)(l:List Int):aR:=⟨sl 78 [(2,aT i),(3,.s (.sM 33)),(4,.ptr 0 0),(8,.s (.bool false)),(9,.iy 1),(10,.vec 4),(56,.ptr 3 0),(61,.s (.ro (.ab cN ns))),(62,aT (ns.length:Int)),(63,aT i),(71,.s (.bool true))],[jc a vs ns fs,.map kM m,.aW,jc a vs ns fs,.vec (.ay .i64 l) 3],hd f32 3,⟨some fRe,false,0,[cw f13 none 4 7 false 0],0⟩⟩
def cCv(a:ByteArray)(vs:Vs)(ns:Ns)(fs:Fs)(i:Int)(m:Mp)(l:List Int):aR:=⟨sl 78 [(2,aT i),(3,.s (.sM 33)),(4,.ptr 0 0),(8,.s (.bool false)),(9,.iy 1),(10,.vec 2),(56,.ptr 3 0),(61,.s (.ro (.ab cN ns))),(62,aT (ns.length:Int)),(63,aT i),(71,.s (.bool true))],[jc a vs ns fs,.map kM m,.vec (.ay .i64 l) 3,jc a vs ns fs],hd f32 3,⟨some fRe,false,0,[cw f13 none 4 7 false 0],0⟩⟩
def cCh(a:ByteArray)(vs:Vs)(ns:Ns)(fs:Fs)(i:Int)(m:Mp)(l:List Int)(lo n:Nat):aR:=⟨sl 78 [(2,aT i),(3,.s (.sM 33)),(4,.ptr 0 0),(8,.s (.bool false)),(9,.iy 1),(10,.part 2 lo n),(56,.ptr 3 0),(61,.s (.ro (.ab cN ns))),(62,aT (ns.length:Int)),(63,aT i),(71,.s (.bool true))],[jc a vs ns fs,.map kM m,.vec (.ay .i64 l) 3,jc a vs ns fs],hd f32 3,⟨some fRe,false,0,[cw f13 none 4 7 false 0],0⟩⟩
theorem arP(a:ByteArray)(vs:Vs)(ns:Ns)(fs:Fs)(i:Int)(m:Mp)(l:List Int):run P aer.sum f13 apb (cCe a vs ns fs i m l) apa=
 Tree.ite (decide ((↑l.length:Int)>(0:Int)))
 (Tree.aa ((0:Int)≤(0:Int))
   (Tree.aa ((0:Int)<(↑l.length:Int))
     (Tree.aa (aD ((iP m (l.getD (0:Nat) (0:Int))).getD (CK.int i64).d+(1:Int)))
       (Tree.ite (decide ((iP (oc m (l.getD (0:Nat) (0:Int)) ((iP m (l.getD (0:Nat) (0:Int))).getD (CK.int i64).d+(1:Int))) (l.getD (0:Nat) (0:Int))).getD (CK.int i64).d>(1:Int))) (Tree.aa ((0:Int)≤(1:Int)) (Tree.aa ((1:Int)≤(↑l.length:Int)) (Tree.aa ((↑(0:Nat):Int)+(↑l.length:Int)≤(↑l.length:Int)) (Tree.at (cCh a vs ns fs i (oc m (l.getD (0:Nat) (0:Int)) ((iP m (l.getD (0:Nat) (0:Int))).getD (CK.int i64).d+(1:Int))) l (1:Nat) ((↑l.length:Int).toNat - Int.toNat (1:Int)))))))
         (Tree.ite (!dC ns (l.getD (0:Nat) (0:Int))) (Tree.aa ((0:Int)≤(1:Int)) (Tree.aa ((1:Int)≤(↑l.length:Int)) (Tree.aa ((↑(0:Nat):Int)+(↑l.length:Int)≤(↑l.length:Int)) (Tree.at (cCh a vs ns fs i (oc m (l.getD (0:Nat) (0:Int)) ((iP m (l.getD (0:Nat) (0:Int))).getD (CK.int i64).d+(1:Int))) l (1:Nat) ((↑l.length:Int).toNat - Int.toNat (1:Int))))))) (Tree.ite (l.getD (0:Nat) (0:Int)==i) (Tree.ite true (Tree.ret [au.ad [AV.s (SV.str a),AV.s (SV.ro (aS.ab cV vs)),AV.s (SV.ro (aS.ab cN ns)),AV.s (SV.ro (aS.ab cF fs))] (30:Nat),au.map (CK.int i64) (oc m (l.getD (0:Nat) (0:Int)) ((iP m (l.getD (0:Nat) (0:Int))).getD (CK.int i64).d+(1:Int))),au.aW,au.ad [AV.s (SV.str a),AV.s (SV.ro (aS.ab cV vs)),AV.s (SV.ro (aS.ab cN ns)),AV.s (SV.ro (aS.ab cF fs))] (30:Nat),au.vec (aS.ay i64 l) (3:Nat),au.ad [AV.s (SV.str (nN (aM ns (l.getD (0:Nat) (0:Int))))),AV.s (SV.int u8 (nK (aM ns (l.getD (0:Nat) (0:Int))))),AV.s (SV.int i64 (nI (aM ns (l.getD (0:Nat) (0:Int))))),AV.s (SV.int i64 (nO (aM ns (l.getD (0:Nat) (0:Int))))),AV.s (SV.int u8 (nE (aM ns (l.getD (0:Nat) (0:Int))))),AV.s (SV.str (nY (aM ns (l.getD (0:Nat) (0:Int))))),AV.s (SV.str (nT (aM ns (l.getD (0:Nat) (0:Int))))),AV.s (SV.str (nS (aM ns (l.getD (0:Nat) (0:Int))))),AV.s (SV.bool (nB (aM ns (l.getD (0:Nat) (0:Int))))),AV.s (SV.ro (aS.ab cV (nV (aM ns (l.getD (0:Nat) (0:Int)))))),AV.s (SV.ro (aS.strs (nZ (aM ns (l.getD (0:Nat) (0:Int))))))] (40:Nat)] (AV.s (SV.ao true))) (Tree.aa (aD (i+(1:Int))) (Tree.at (aR.mk (sl (23:Nat) [((1:Nat),AV.ptr (0:Nat) (0:Nat)),((6:Nat),AV.s (SV.ro (aS.ab cN ns))),((7:Nat),AV.s (SV.int i64 (↑(List.length ns):Int))),((8:Nat),AV.s (SV.int i64 (i+(1:Int))))]) [au.ad [AV.s (SV.str a),AV.s (SV.ro (aS.ab cV vs)),AV.s (SV.ro (aS.ab cN ns)),AV.s (SV.ro (aS.ab cF fs))] (30:Nat)] (hd f13 (2:Nat)) (bt.mk none false (0:Nat) [] (0:Nat)))))) (Tree.ite (!(nK (aM ns (l.getD (0:Nat) (0:Int)))==(3:Int)||nK (aM ns (l.getD (0:Nat) (0:Int)))==(10:Int)||nK (aM ns (l.getD (0:Nat) (0:Int)))==(6:Int)&&(nE (aM ns (l.getD (0:Nat) (0:Int)))==(1:Int)||nE (aM ns (l.getD (0:Nat) (0:Int)))==(2:Int)||nE (aM ns (l.getD (0:Nat) (0:Int)))==(3:Int)))) (Tree.aa (List.length ns≤(400000:Nat)) (Tree.aa (List.length fs≤(400000:Nat)) (Tree.aa ((l.length+(b6 ns fs (l.getD (0:Nat) (0:Int))).length)*(8:Nat)≤(140737488355328:Nat)) (Tree.aa ((0:Int)≤(1:Int)) (Tree.aa ((1:Int)≤(↑(l++b6 ns fs (l.getD (0:Nat) (0:Int))).length:Int)) (Tree.aa ((↑(0:Nat):Int)+(↑(l++b6 ns fs (l.getD (0:Nat) (0:Int))).length:Int)≤(↑(l++b6 ns fs (l.getD (0:Nat) (0:Int))).length:Int)) (Tree.at (cCh a vs ns fs i (oc m (l.getD (0:Nat) (0:Int)) ((iP m (l.getD (0:Nat) (0:Int))).getD (CK.int i64).d+(1:Int))) (l++b6 ns fs (l.getD (0:Nat) (0:Int))) (1:Nat) ((↑(l++b6 ns fs (l.getD (0:Nat) (0:Int))).length:Int).toNat - Int.toNat (1:Int)))))))))) (Tree.aa ((0:Int)≤(1:Int)) (Tree.aa ((1:Int)≤(↑l.length:Int)) (Tree.aa ((↑(0:Nat):Int)+(↑l.length:Int)≤(↑l.length:Int)) (Tree.at (cCh a vs ns fs i (oc m (l.getD (0:Nat) (0:Int)) ((iP m (l.getD (0:Nat) (0:Int))).getD (CK.int i64).d+(1:Int))) l (1:Nat) ((↑l.length:Int).toNat - Int.toNat (1:Int))))))))))))))
 (Tree.ite false (Tree.ret [au.ad [AV.s (SV.str a),AV.s (SV.ro (aS.ab cV vs)),AV.s (SV.ro (aS.ab cN ns)),AV.s (SV.ro (aS.ab cF fs))] (30:Nat),au.map (CK.int i64) m,au.aW,au.ad [AV.s (SV.str a),AV.s (SV.ro (aS.ab cV vs)),AV.s (SV.ro (aS.ab cN ns)),AV.s (SV.ro (aS.ab cF fs))] (30:Nat),au.vec (aS.ay i64 l) (3:Nat)] (AV.s (SV.ao true))) (Tree.aa (aD (i+(1:Int))) (Tree.at (aR.mk (sl (23:Nat) [((1:Nat),AV.ptr (0:Nat) (0:Nat)),((6:Nat),AV.s (SV.ro (aS.ab cN ns))),((7:Nat),AV.s (SV.int i64 (↑(List.length ns):Int))),((8:Nat),AV.s (SV.int i64 (i+(1:Int))))]) [au.ad [AV.s (SV.str a),AV.s (SV.ro (aS.ab cV vs)),AV.s (SV.ro (aS.ab cN ns)),AV.s (SV.ro (aS.ab cF fs))] (30:Nat)] (hd f13 (2:Nat)) (bt.mk none false (0:Nat) [] (0:Nat)))))):=by kernel_rfl
abbrev za(x:CL cN):Bool:= !pc x
def pCi(ns:Ns)(fs:Fs)(i:Nat):Bool:=za (el ns (i:Int))&&kQ za ns fs (i:Int) (i:Int)
def gO(ns:Ns)(fs:Fs):Bool:=(List.range ns.length).any (pCi ns fs)
abbrev arQ:AL [dF]->List Prop:=λ((_,_,ns,fs,()),())=>[(ns:List (CL cN)).length<=400000,(fs:List (CL cF)).length<=400000]
theorem af2{Z:aP}:cf P Z 13 [dF] [aZ] arQ (λ((_,_,ns,fs,()),())=>(gO ns fs,())):=by
 refine a6 func13 (by kernel_rfl) (by kernel_rfl) ?_;rintro⟨⟨(a:ByteArray),(vs:List (CL cV)),(ns:List (CL cN)),(fs:List (CL cF)),⟨⟩⟩,⟨⟩⟩ _ ⟨(hn:ns.length<=400000),(hf:fs.length<=400000),_⟩ X hX hz;show Safe P 13 X (Ends [aZ] (gO ns fs,())) _;have inner:∀k:Nat,k<ns.length->za (el ns (k:Int))=true->(kQ za ns fs k k=true->gO ns fs=true)->(kQ za ns fs k k=false->Safe P 13 X (Ends [aZ] (gO ns fs,())) (cCi a vs ns fs ((k:Int)+1)))->
  ∀(j:Nat) (m:Mp) (l:List Int) (c:Nat),Rnd za ns fs k k m l->l.length+ow ns m*(ns.length+fs.length+1)<=j->c+j<=1000000000000->(∀z,hD m z<=(c:Int))->
  Safe P 13 X (Ends [aZ] (gO ns fs,())) (cCe a vs ns fs (k:Int) m l):=by
  intro k hk hw yes no j
  have done:∀m,Rnd za ns fs k k m []->Safe P 13 X (Ends [aZ] (gO ns fs,())) (cCe a vs ns fs (k:Int) m []):=λm hr=>by
   refine go hz hX nh func13 (arP a vs ns fs k m []) (ak rfl (ak rfl ⟨⟨by omega,by omega⟩, ?_⟩));exact no hr.last
  induction j with
  |zero=>
   intro m l c hr hj hc hm;have hl:l=[]:=List.eq_nil_of_length_eq_zero (by omega);subst hl;exact done m hr
  |succ j ih=>
   intro m l c hr hj hc hm;cases l with
   |nil=>exact done m hr|cons n l=>
    have bL:l.length<=1000000000000:=by rw[length_cons]at hj;omega
    have hcl:=rR ns fs n;have hmn:=hm n;have hpn:=hr.pos n
    have skip:(1<hD (inc m n) n\/dC ns n=false\/za (nodeAt ns n)=false)->(1<hD (inc m n) n\/dC ns n=false\/n≠(k:Int))->∀q,q=l.length->Safe P 13 X (Ends [aZ] (gO ns fs,())) (cCh a vs ns fs k (inc m n) (n::l) 1 q):=λh h' q hq=>by
     refine qh (t:=10) (id:=2) rfl rfl ?_;rw[aiC n l q hq];exact ih (inc m n) l (c+1) (hr.skip h h') (ajj hr.pos hj) (by omega) (ajk hm)
    refine go hz hX nh func13 (arP a vs ns fs k m (n::l)) (af (decide_eq_true (by rw[length_cons];omega)) ⟨by omega,by rw[length_cons];omega, ?_⟩);show Tree.Holds _ _ _;refine⟨(show aD (hD m n+1)from⟨by omega,by omega⟩), ?_⟩;have e1:hD (inc m n) n=hD m n+1:=by rw[ia,if_pos rfl]
    have lens:((n::l).length:Int).toNat - Int.toNat 1=l.length:=by rw[length_cons];omega
    by_cases h1:1<hD (inc m n) n;refine af (decide_eq_true h1) ⟨by omega,by rw[length_cons];omega,by rw[length_cons];omega, ?_⟩;exact skip (.inl h1) (.inl h1) _ lens;refine ak (decide_eq_false h1) ?_;cases h2:dC ns n with
    |false=>
     refine af (by show(!dC ns n)=true;rw[h2];rfl) ⟨by omega,by rw[length_cons];omega,by rw[length_cons];omega, ?_⟩;exact skip (.inr (.inl h2)) (.inr (.inl h2)) _ lens
    |true=>
     refine ak (by show(!dC ns n)=false;rw[h2];rfl) ?_;by_cases h3:n=(k:Int);subst h3;refine af (by show((k:Int)==(k:Int))=true;simp) (af rfl ?_);rw[yes (hr.hit h2)];exact aL _ rfl (by kernel_rfl);refine ak (by show(n==(k:Int))=false;simpa using h3) ?_;show(za (aM ns n)=true->_)/\(za (aM ns n)=false->_);rw[<-nQ];cases h4:za (nodeAt ns n)with
     |false=>
      refine ak rfl ⟨by omega,by show(1:Int)<=((n::l).length:Int);rw[length_cons];omega,by show((0:Nat):Int)+((n::l).length:Int)<=((n::l).length:Int);omega, ?_⟩;exact skip (.inr (.inr h4)) (.inr (.inr h3)) _ lens
     |true=>
      refine af rfl ⟨by omega,by omega, ?_,by omega, ?_, ?_, ?_⟩;show((n::l).length+(b6 ns fs n).length)*8<=_;rw[length_cons];omega;show(1:Int)<=(((n::l)++b6 ns fs n).length:Int);rw[length_append,length_cons];omega;show(((0:Nat):Int)+(((n::l)++b6 ns fs n).length:Int)<=(((n::l)++b6 ns fs n).length:Int));omega;show Safe P 13 X _ (cCh a vs ns fs k (inc m n) (n::(l++b6 ns fs n)) 1 ((((n::l)++b6 ns fs n).length:Int).toNat - Int.toNat 1));refine qh (t:=10) (id:=2) rfl rfl ?_;rw[aiC n (l++b6 ns fs n) _ (by rw[length_append,length_append,length_cons];omega)];exact ih (inc m n) _ (c+1) (hr.more h2 h4 h3) (aji hr.pos h2 (by omega) hj) (by omega) (ajk hm)
 have loop:∀(j k:Nat),k+j=ns.length->(∀i<k,pCi ns fs i=false)->Safe P 13 X (Ends [aZ] (gO ns fs,())) (cCi a vs ns fs (k:Int)):=by
  intro j
  induction j with
  |zero=>
   intro k hk hi
   have e:gO ns fs=false:=by
    unfold gO;rw[<-Bool.not_eq_true,List.any_eq_true];rintro⟨i,h1,h2⟩;rw[hi i (by have:=mem_range.1 h1;omega)]at h2;cases h2
   refine go hz hX nh func13 (arO a vs ns fs k) (ak (decide_eq_false (by omega)) ?_);rw[e];exact aL _ rfl (by kernel_rfl)
  |succ j ih=>
   intro k hk hi;have a8:k<ns.length:=by omega
   have next:=λh:pCi ns fs k=false=>ih (k+1) (by omega) λi h1=>by
    by_cases e:i=k;subst e;exact h;exact hi i (by omega)
   refine go hz hX nh func13 (arO a vs ns fs k) (af (decide_eq_true (by omega)) ⟨by omega,by omega, ?_⟩);show(za (el ns (k:Int))=true->_)/\(za (el ns (k:Int))=false->_);cases h4:za (el ns (k:Int))with
   |false=>exact ak rfl ⟨⟨by omega,by omega⟩,next (by unfold pCi;rw[h4];rfl)⟩
   |true=>
    refine af rfl ⟨hn,hf, ?_⟩;show Safe P 13 X _ (cCv a vs ns fs k [] (b6 ns fs k));refine mc (t:=10) (id:=2) rfl rfl (amg _) ?_
    have hU:ow ns []<=ns.length:=by
     unfold ow;exact le_trans (List.countP_le_length) (by rw[List.length_range];exact le_refl _)
    have h4':=rR ns fs k;have h5:ow ns []*(ns.length+fs.length+1)<=400000*800001:=Nat.mul_le_mul (by omega) (by omega);refine inner k a8 h4 (λh=> ?_) (λh=>next (by unfold pCi;rw[h4,h];rfl)) _ [] (b6 ns fs k) 0 .zero (le_refl _) (by omega) (λz=>Int.le_refl 0);unfold gO;rw[List.any_eq_true];exact⟨k,mem_range.2 a8,by unfold pCi;rw[h4,h];rfl⟩
 refine go hz hX nh func13 (auc a vs ns fs) ?_;exact loop ns.length 0 (by omega) (λi h=>absurd h (Nat.not_lt_zero _))
end Ds
namespace Go.Sx
open Go
section
variable{ρ aO:Nat->Value}{H H' H1 H2:aJ}{G O O':Nat->Prop}{w w' w1 w2:World}{P:Program}{X:Ctx}{K:List au->AV->Prop}{Z:aP}
def gOk(ops:Array Oper)(o:Oper)(tmps:List AV):Bool:=
 match o.guard with
 |none=>true|some (g,want)=>match(ops[g]?).bind (·.dst)with
  |some d=>(match tmps.getD d (.s .aF)with
   |.s (.ao b)=>b==want|.s (.bool b)=>b==want|_=>false)
  |none=>false
theorem vj{ops:Array Oper}{o:Oper}{s:St}{a:Act}(h:gOk ops o s.tmps=true)(hr:b8 X ρ s a w):Region.wanted o (yielded ops a.tmps)=true:=by
 unfold gOk at h;split at h;rename_i hg;simp[Region.wanted,hg];rename_i g want hg;split at h;rename_i d hd;split at h;rename_i b hb;have:=lB hr hb;simp only[Region.wanted,hg,yielded,hd,bind_some,this];simpa using h;rename_i b hb
 have a8:d<s.tmps.length:=by
  rcases lt_or_ge d s.tmps.length with h3|h3;exact h3;rw[List.getD,getElem?_eq_none h3]at hb;simp at hb
 have h2:=aw (by simp) (hb▸hr.den d);have alP:d<a.tmps.size:=by rw[hr.size]at a8;exact a8
 have:a.tmps[d]? =some (.bool b):=by
  have h4:a.tmps.getD d undef=a.tmps[d]:=by simp[Array.getD,alP]
  rw[h4]at h2;rw[Array.getElem?_eq_getElem alP];generalize a.tmps[d]=u at h2;cases h2;rfl
 simp only[Region.wanted,hg,yielded,hd,bind_some,this];simpa using h;cases h;cases h
theorem af3{f:FuncId}{fn:Func}{key i:Nat}{ops:Array Oper}{o:Oper}{k:List Item}(xk:qg fn key i=some (ops,o,k))(gl:iK ops=true){tmps:List AV}{L:List au}{stk:bt}(hg:gOk ops o tmps=true)
 (c9:(stk.plain||l4 (aR.n ⟨tmps,L,[],stk⟩) ops)=true)
 (h:∀G E ρ a w,b8 (X.at G E) ρ ⟨tmps,L⟩ a w->Yields P o a.eval w (λv w'=>∃q aO,b8 (X.at G E) aO (St.put ⟨tmps,L⟩ o.dst q) (a.put o.dst v) w'/\
   Safe P f X K ⟨(St.put ⟨tmps,L⟩ o.dst q).tmps,(St.put ⟨tmps,L⟩ o.dst q).H,fI fn key (i+1),stk⟩)):Safe P f X K ⟨tmps,L,fI fn key i,stk⟩:=by
 obtain⟨ho,hc⟩:ops[i]? =some o/\∀j,fI fn key j=.inRegion ops (range' j (ops.size - j))::k:=by
  unfold qg at xk;split at xk;rename_i n aud d k' hh;simp only[map_eq_some_iff,Prod.mk.injEq]at xk;obtain⟨o',e1,rfl,rfl,rfl⟩:=xk;exact⟨e1,λj=>by unfold fI;rw[hh]⟩;cases xk
 intro G E ρ a w fV gh hr b t fs hw;have⟨rest,Ds,anL,rG,hwf⟩:=hw.top (c:=⟨tmps,L,[],stk⟩) hr.dp.len
 have og:ju (aR.n ⟨tmps,L,[],stk⟩) rest Ds a t:=by
  have e:(⟨a.tmps.toList.toArray,[]⟩:Act)=a:=by
   have:=hr.defers;cases a;simp at this ⊢;exact this
  rw[e]at anL;exact anL
 have apc:pQ (aR.n ⟨tmps,L,[],stk⟩) rest ops:=aaS c9 rG (λx=>x);have kf:=(apc.op ho).imp (λx=>x) (·.2.1);have hi:i<ops.size:=(Array.getElem?_eq_some_iff.1 ho).1
 have mT:range' i (ops.size - i)=i::range' (i+1) (ops.size - (i+1)):=by
  rw[show ops.size - i=ops.size - (i+1)+1 from by omega,List.range'_succ]
 have hy':=(h G E ρ a w hr).congr (og.same apc ho).1;have aaT:Region.wanted o (yielded ops t.tmps)=true:=by rw[(og.same apc ho).2];exact vj hg hr
 show cB P f (iY X K) b t (fI fn key i) fs w;rw[hc i,mT];intro cs;have⟨v,w',⟨q,aO,eu,hs⟩,q7⟩:=ad0 ho aaT (m8 gl ho) hy' b k (fs++cs) (rest:=range' (i+1) (ops.size - (i+1)));have acq:=og.put kf v;have:=hs G E aO _ w' fV gh eu b (t.put o.dst v) fs (hwf _ _ acq eu.defers);rw[hc (i+1)]at this;have⟨e,w2,fr,g1,g2,g3⟩:=this cs;exact⟨e,w2,fr,g1,Comes.of_steps q7 g2,g3⟩
theorem ajl{s:St}{d:Option Tmp}{r:Nat->AV}:(s.put d ⟨[],[],[],r⟩).look=s.look:=by
 funext id;show(s.H++[])[id]? =s.H[id]?;rw[append_nil]
end
inductive Wk1:AV->AV->Prop
 |refl (a:AV):Wk1 a a|bl (b:Bool):Wk1 (.s (.ao b)) (.s (.bool b))|il (k:IntKind) (n:Int):Wk1 (.s (.aq k n)) (.s (.int k n))|em (c:aS):c.n=0->Wk1 .emp (.s (.ro c))|an (k:IntKind) (n:Int):Wk1 (.s (.int k n)) (.s (.ax k))
inductive WkL:List AV->List AV->Prop
 |nil:WkL [] []|cons {a b:AV} {l m:List AV}:Wk1 a b->WkL l m->WkL (a::l) (b::m)
inductive Wk2:AV->AV->Prop
 |one {a b:AV}:Wk1 a b->Wk2 a b|agg {l m:List AV}:WkL l m->Wk2 (.agg l) (.agg m)
inductive WkT:List AV->List AV->Prop
 |nil:WkT [] []|cons {a b:AV} {l m:List AV}:Wk2 a b->WkT l m->WkT (a::l) (b::m)
inductive Wk:AV->AV->Prop
 |two {a b:AV}:Wk2 a b->Wk a b|bO {l m:List AV}:WkT l m->Wk (.bO l) (.bO m)
section
variable{ρ:Nat->Value}{H:aJ}{O:Nat->Prop}{w:World}
theorem Wk1.den{a b:AV}(h:Wk1 a b){v:Value}(hd:ae ρ H O w a v):ae ρ H O w b v:=by
 cases h with
 |refl=>exact hd|bl b=>
  have:=aw (by simp) hd;cases this;exact aC (.bool _)
 |il k n=>
  have:=aw (by simp) hd;cases this;exact aC (.int _ _)
 |em c hc=>
  unfold ae at hd;obtain⟨a,rfl⟩:=hd;exact aC (yU hc a)
 |an k n=>
  have:=aw (by simp) hd;cases this;exact aC (.ax _ _)
theorem Wk1.aoK{a b:AV}(h:Wk1 a b){cs:List Value}(hd:aN ρ H O w a cs):aN ρ H O w b cs:=by
 cases h with
 |refl=>exact hd|bl b=>
  unfold aN at hd ⊢;obtain⟨u,rfl,h⟩:=hd;cases h;exact⟨_,rfl,.bool _⟩
 |il k n=>
  unfold aN at hd ⊢;obtain⟨u,rfl,h⟩:=hd;cases h;exact⟨_,rfl,.int _ _⟩
 |em c hc=>
  unfold aN at hd ⊢;obtain⟨u,rfl,a,rfl⟩:=hd;exact⟨_,rfl,yU hc a⟩
 |an k n=>
  unfold aN at hd ⊢;obtain⟨u,rfl,h⟩:=hd;cases h;exact⟨_,rfl,.ax _ _⟩
theorem WkL.den{l m:List AV}(h:WkL l m):∀{cs:List Value},aA ρ H O w l cs->aA ρ H O w m cs:=by
 induction h with
 |nil=>exact λhd=>hd|cons h1 _ ih=>
  intro cs hd;unfold aA at hd ⊢;have⟨c1,c2,e,g1,g2⟩:=hd;exact⟨c1,c2,e,h1.aoK g1,ih g2⟩
theorem Wk2.den{a b:AV}(h:Wk2 a b){v:Value}(hd:ae ρ H O w a v):ae ρ H O w b v:=by
 cases h with
 |one h=>exact h.den hd|agg h=>
  unfold ae at hd ⊢;have⟨cs,e,g⟩:=hd;exact⟨cs,e,h.den g⟩
theorem WkT.den{l m:List AV}(h:WkT l m):∀{vs:List Value},bH ρ H O w l vs->bH ρ H O w m vs:=by
 induction h with
 |nil=>exact λhd=>hd|cons h1 _ ih=>
  intro vs hd;have⟨v,rest,e,g1,g2⟩:=aG.1 hd;exact aG.2 ⟨v,rest,e,h1.den g1,ih g2⟩
theorem Wk.den{a b:AV}(h:Wk a b){v:Value}(hd:ae ρ H O w a v):ae ρ H O w b v:=by
 cases h with
 |two h=>exact h.den hd|bO h=>
  unfold ae at hd ⊢;have⟨us,e,g⟩:=hd;exact⟨us,e,h.den g⟩
end
theorem iA{X:Type}{S:Spec X}{x:X}{L:List au}{r:AV}{o o':AV}{h:List au}(m:Nat)(e:Norm.run ⟨[],[0],m,[]⟩ ⟨[r],L,[],{}⟩=some ⟨[o],h,[],{}⟩)(hm:(S.heap x).length<=m)(hw:Wk o o')(ho:S.out x=o')(hh:S.dG x=h):dc S x L r:=
 ⟨⟨[],[0],m,[]⟩,o,hm,by rw[hh];exact e,λρ H O w v hd=>by rw[ho];exact hw.den hd⟩
section
variable{ρ aO:Nat->Value}{H H':aJ}{G O O':Nat->Prop}{w w':World}{P:Program}{Z:aP}{X:Type}{S:Spec X}
theorem WkT.same:∀(os:List AV),WkT os os
 |[]=>.nil|a::os=>.cons (.one (.refl a)) (WkT.same os)
end
def vk(P:Program)(o:Oper)(e:Operand->Value)(w:World)(R:List PanicEntry->World->Prop):Prop:=
 match(execOp e o).run P w with
 |.ok (.enter f args) w'=>Calls P f args w' λen w''=>∃ch,en=.panicked ch/\R ch w''|.halt (.panic v) w'=>R [{v,recovered:=false}] w'|_=>False
def xm(P:Program)(Z:aP)(f:FuncId){X:Type}(S:Spec X)(ch:List PanicEntry):Prop:=
 ∀x,bd (S.pre x)->∀(ρ:Nat->Value) (G:Nat->Prop) (w:World) (vs:List Value),ZAt Z ρ (lk (S.heap x)) w->Sat ρ (lk (S.heap x)) G w->
  bH ρ (lk (S.heap x)) (aV ρ (lk (S.heap x)) G) w (S.args x) vs->
  Calls P f vs.toArray w λe w'=>e=.panicked ch/\Good ρ (lk (S.heap x)) G w (lk (S.dG x)) (.s .aF) undef w'
def vn{T:Type}(S:Spec T)(x:T)(ch:List PanicEntry)(ρ:Nat->Value)(G:Nat->Prop)(w:World)(e:Ending)(w':World):Prop:=
 e=.panicked ch/\Good ρ (lk (S.heap x)) G w (lk (S.dG x)) (.s .aF) undef w'
section
variable{ρ aO:Nat->Value}{H H':aJ}{G O O':Nat->Prop}{w w':World}{P:Program}{X:Ctx}{K:List au->AV->Prop}{Z:aP}
theorem ajm{f0:FuncId}{rid:Nat}{vs:List Value}{E:List (Nat×Obj)}{b:Frame}{t:Act}{fs:List Frame}(h:Wf f0 {rid:=rid} vs E b t fs):
 fs=[]/\b.fn=f0/\b.roundOf=none/\t={tmps:=vs.toArray,defers:=[]}:=by
 have⟨_,v0,rv,v2,Ds,E1,E2,e1,e2,e3,h1,h2⟩:=h;have⟨⟨r,hb,hr1,hr2⟩,ha,_⟩:=h1;have⟨h3,_,h5⟩:=h2;have e3:Ds=[]:=List.eq_nil_of_length_eq_zero e3;subst e3 hr1 h3 hr2 hb ha;exact⟨h5,rfl,rfl,by rw[e1];simp⟩
theorem vp{f:FuncId}{fn:Func}{key i rid:Nat}{ops:Array Oper}{o:Oper}{k:List Item}(hf:P.funcs[f]? =some fn)(xk:qg fn key i=some (ops,o,k))(hdf:∀c,o.op≠.defer c){tmps:List AV}{L:List au}(hg:gOk ops o tmps=true)
 (h:∀G E ρ a w,(∀b,X.G b->G b)->(∀b,G b->X.G b\/X.w.heap.size<=b)->b8 (X.at G E) ρ ⟨tmps,L⟩ a w->vk P o a.eval w λch w'=>X.pan (.panicked ch) w'):Safe P f X K ⟨tmps,L,fI fn key i,{rid:=rid}⟩:=by
 obtain⟨ho,hc⟩:ops[i]? =some o/\fI fn key i=.inRegion ops (range' i (ops.size - i))::k:=by
  unfold qg at xk;split at xk;rename_i n aud d k' hh;simp only[map_eq_some_iff,Prod.mk.injEq]at xk;obtain⟨o',e1,rfl,rfl,rfl⟩:=xk;exact⟨e1,by unfold fI;rw[hh]⟩;cases xk
 intro G E ρ a w fV gh hr b t fs hw;obtain⟨rfl,hbf,hbr,ht⟩:=ajm hw;have hi:i<ops.size:=(Array.getElem?_eq_some_iff.1 ho).1
 have mT:range' i (ops.size - i)=i::range' (i+1) (ops.size - (i+1)):=by
  rw[show ops.size - i=ops.size - (i+1)+1 from by omega,List.range'_succ]
 have eta:t=a:=by
  rw[ht];have:=hr.defers;cases a;simp at this ⊢;exact this
 subst eta;have aaT:Region.wanted o (yielded ops t.tmps)=true:=vj hg hr;have hy:=h G E ρ t w fV gh hr;have apd:=λcs=>stepGR_op (P:=P) (b:=b) (k:=k) (cs:=cs) (w:=w) (rest:=range' (i+1) (ops.size - (i+1))) ho aaT;simp only[Oper.semAt_eq _ _ _ hdf]at apd;show cB P f (iY X K) b t (fI fn key i) [] w;rw[hc,mT];intro cs
 have ajn:∀ch,(b.atR t (.inRegion ops (i::range' (i+1) (ops.size - (i+1)))::k)).raise ch={b.atR t (.inRegion ops (i::range' (i+1) (ops.size - (i+1)))::k)with mode:=.panicking ch}:=λch=>by
  simp[Frame.raise,Frame.atR]
 have kO:∀ch w',({b.atR t (.inRegion ops (i::range' (i+1) (ops.size - (i+1)))::k)with mode:=.panicking ch}:Frame).leaving P w' (.panicked ch):=λch w'=>
  ⟨rfl,hr.defers,fn,by show P.funcs[b.fn]? =some fn;rw[hbf];exact hf⟩
 unfold vk at hy;split at hy;rename_i g args w1 eG;obtain⟨e,w2,fr,⟨ch,rfl,hp⟩,h2,h3,h4⟩:=hy (b.atR t (.inRegion ops (i::range' (i+1) (ops.size - (i+1)))::k)::cs);have eI:step P (lone (b.atR t (.inRegion ops (i::range' (i+1) (ops.size - (i+1)))::k)) cs w)=
  .next (lone (Frame.enter P g args .normal) (b.atR t (.inRegion ops (i::range' (i+1) (ops.size - (i+1)))::k)::cs) w1):=
  step_lone_go (by rw[apd];simp[stepG.apply,eG,Frame.atR])
 refine⟨.panicked ch,w2,{b.atR t (.inRegion ops (i::range' (i+1) (ops.size - (i+1)))::k)with mode:=.panicking ch},.inr hp,.head eI (Steps.trans h2 (.one ?_)),hbf,kO ch w2⟩;rw[<-ajn];exact step_leave_panicked h4;rename_i v w1 eG;refine⟨.panicked [{v,recovered:=false}],w1,{b.atR t (.inRegion ops (i::range' (i+1) (ops.size - (i+1)))::k)with mode:=.panicking [{v,recovered:=false}]},.inr hy,.one (step_lone_go ?_),hbf,kO _ w1⟩;rw[apd,<-ajn];simp[stepG.apply,eG];exact hy.elim
theorem vq{f:FuncId}{fn:Func}{aI:List AV}{L:List au}{K:List au->AV->Prop}(hf:P.funcs[f]? =some fn)(hb:fn.body.isSome=true)(hn:aI.length<=fn.ntmps)(pan:Ending->World->Prop)
 (ρ:Nat->Value) (G:Nat->Prop) (w:World) (vs:List Value) (h:Safe P f ⟨ρ,lk L,G,w,[],pan⟩ K (start fn aI L)) (hs:Sat ρ (lk L) G w)
 (hd:bH ρ (lk L) (aV ρ (lk L) G) w aI vs):Calls P f vs.toArray w (iY ⟨ρ,lk L,G,w,[],pan⟩ K):=by
 have⟨c,hb⟩:=isSome_iff_exists.1 hb
 have nc:vs.length=aI.length:=by
  have:∀{aI:List AV} {vs:List Value},bH ρ (lk L) (aV ρ (lk L) G) w aI vs->vs.length=aI.length:=by
   intro aI
   induction aI with
   |nil=>intro vs h;rw[bc.1 h];rfl
   |cons a aI ih=>intro vs h;obtain⟨v,rest,rfl,_,h2⟩:=aG.1 h;simp[ih h2]
  exact this hd
 refine iL (R:=iY ⟨ρ,lk L,G,w,[],pan⟩ K) hf hb ?_;have:=h.al2 rfl rfl (ρ:=ρ) (a:={tmps:=vs.toArray++Array.replicate (fn.ntmps - vs.toArray.size) undef,defers:=[]}) (w:=w);simp only[start,hb,getD_some]at this;refine this ⟨hs, ?_,λt=> ?_,rfl,Step.refl _ _ _ _,⟨rfl,rfl,rfl,λ_ _ _=>rfl⟩,λx hx=>by cases hx⟩;simp[nc]
 have e1:∀(aI:List AV) (vs:List Value),bH ρ (lk L) (aV ρ (lk L) G) w aI vs->∀t,ae ρ (lk L) (aV ρ (lk L) G) w (aI.getD t (.bO [])) (vs.getD t undef):=by
  intro aI
  induction aI with
  |nil=>intro vs h t;rw[bc.1 h];simp only[List.getD,List.getElem?_nil,Option.getD_none];exact cv
  |cons a aI ih=>
   intro vs h t;obtain⟨v,rest,rfl,h1,h2⟩:=aG.1 h;cases t with
   |zero=>simpa using h1|succ t=>simpa using ih rest h2 t
 have h1:=e1 _ _ hd t;simp only[List.getD_eq_getElem?_getD,List.getElem?_append,List.getElem?_replicate,getD_eq_getD_getElem?,Array.getElem?_append,List.getElem?_toArray,Array.getElem?_replicate,List.size_toArray]at h1 ⊢;rw[nc];split;rename_i ht;have hv:vs[t]? =some vs[t]:=getElem?_eq_getElem (by omega);have ha:aI[t]? =some aI[t]:=getElem?_eq_getElem ht;rw[hv,ha]at h1 ⊢;exact h1;split;exact cv;unfold ae;trivial
variable{T:Type}{S:Spec T}{ch:List PanicEntry}
theorem gP{f:FuncId}{fn:Func}(hf:P.funcs[f]? =some fn)(hb:fn.body.isSome=true)(hn:∀x,(S.args x).length<=fn.ntmps)
 (h:∀x,bd (S.pre x)->∀X:Ctx,X.H=lk (S.heap x)->cE Z X->(∀e w',vn S x ch X.ρ X.G X.w e w'->X.pan e w')->Safe P f X (λ_ _=>False) (start fn (S.args x) (S.heap x))):xm P Z f S ch:=by
 intro x gz ρ G w vs hz hs hd;refine(vq hf hb (hn x) (vn S x ch ρ G w) ρ G w vs (h x gz _ rfl hz λ_ _ h=>h) hs hd).mono ?_;rintro e w' (⟨_,_,_,_,hk,_⟩|hp);exact hk.elim;exact hp
theorem ac2{x:T}{G:Nat->Prop}{E:List (Nat×Obj)}{tmps:List AV}{L:List au}{a:Act}(hXH:X.H=lk (S.heap x))(fV:∀b,X.G b->G b)(gh:∀b,G b->X.G b\/X.w.heap.size<=b)
 (hr:b8 (X.at G E) ρ ⟨tmps,L⟩ a w) (hg:Good ρ (lk L) G w (lk (S.dG x)) (.s .aF) undef w'):vn S x ch X.ρ X.G X.w (.panicked ch) w':=by
 have⟨gB,g1,g2,g3,g4⟩:=hg;let Y:Ctx:=⟨X.ρ,X.H,X.G,X.w,X.E,λ_ _=>False⟩;have hrY:b8 (Y.at G E) ρ ⟨tmps,L⟩ a w:=⟨hr.sat,hr.size,hr.den,hr.defers,hr.cu,hr.iH,hr.kept⟩
 have r1:b8 (Y.at G E) gB ⟨[],S.dG x⟩ {tmps:= #[],defers:=[]} w':=
  ⟨g1,rfl,λt=>by simp only[List.getD,List.getElem?_nil,Option.getD_none];unfold ae;trivial,rfl,hr.cu.trans g3,xw.trans hrY g4,hr.kept.iH hr.sat g4⟩
 have:=iY.aiv (X:=Y) (K:=λL r=>L=S.dG x/\r=.s .aF) (r:=.s .aF) (v:=undef) fV gh r1 (by unfold ae;trivial) ⟨rfl,rfl⟩;rcases this with⟨v,hv,L2,r,⟨rfl,rfl⟩,ni⟩|h;refine⟨rfl, ?_⟩;cases hv;rw[<-hXH];exact ni;exact False.elim h
theorem ac3{U:Type}{R:Spec U}{x:T}{y:U}{f g:FuncId}{fn:Func}{key i rid:Nat}{ops:Array Oper}{o:Oper}{c:Call}{k:List Item}(hf:P.funcs[f]? =some fn)(xk:qg fn key i=some (ops,o,k))(ho:o.op=.call c)(hc:c.callee=.value (.func g))
 (er:di P g=true) {tmps:List AV} (hg:gOk ops o tmps=true) (hX:xm P Z g R ch) (hz:cE Z X) (hXH:X.H=lk (S.heap x)) (mg:∀e w',vn S x ch X.ρ X.G X.w e w'->X.pan e w')
 (ef:c.args.toList.map (gy tmps)=R.args y) (gz:bd (R.pre y)) (gW:R.dG y=S.dG x):Safe P f X K ⟨tmps,R.heap y,fI fn key i,{rid:=rid}⟩:=by
 refine vp hf xk (λc' h=>by rw[ho]at h;cases h) hg λG E ρ a w fV gh hr=> ?_
 have hl:bH ρ (lk (R.heap y)) (aV ρ (lk (R.heap y)) G) w (R.args y) (c.args.toList.map a.eval):=by
  rw[<-ef];exact jT c.args.toList λz _=>hr.ev z
 have key:=hX y gz ρ G w _ (zed (hz.at G E) hr.iH hr.sat hr.cu) hr.sat hl;have e1:(c.args.toList.map a.eval).toArray=c.args.map a.eval:=by apply toList_inj.1;simp
 unfold vk
 have eG:(execOp a.eval o).run P w=.ok (.enter g (c.args.toList.map a.eval).toArray) w:=by
  rw[e1];have hv:a.eval (.func g)=.func (.func g) #[] #[]:=rfl;simp[execOp,ho,resolve,hc,hv,Deferred.ofValue,invoke,dW er]
 rw[eG];refine key.mono ?_;rintro e w' ⟨rfl,ni⟩;rw[gW]at ni;exact⟨ch,rfl,mg _ _ (ac2 hXH fV gh hr ni)⟩
end
end Go.Sx
namespace Ds
open Go Go.Sx Go.Proofs Lf
abbrev eY(ps:Ps)(n:Int):au:=.ad [.s (.ro (.ab cP ps)),aT n] eCo
abbrev ape:Spec (Ps×Int):=⟨λ_=>[.ptr 0 0],λ(ps,n)=>[eY ps n],λ(_,n)=>[0<=n/\n<2000],λ(ps,n)=>[eY ps (n+1)],λ_=>.bO []⟩
abbrev aes:Spec Ps:=⟨λ_=>[.ptr 0 0],λps=>[eY ps 2000],λ_=>[],λps=>[eY ps 2001],λ_=>.bO []⟩
def abl:List (Nat×Norm):=[(eb+2001,⟨[],[14],1,[]⟩),(eb+2002,⟨[],[15],1,[]⟩)]
theorem anM(ps:Ps)(n:Int):run P bE.sum f67 abl (start f67 [.ptr 0 0] [eY ps n])=
 Tree.aa (aD (n+1)) (.ite (decide (n+1>2000)) (.at (.mk (sl 16 [(14,.agg [])]) [.ad [.s (.ro (.ab cP ps)),.s (.int .i64 (n+1))] 97] (fI f67 2 1) (.mk none false 0 [] 2))) (.ret [.ad [.s (.ro (.ab cP ps)),.s (.int .i64 (n+1))] 97] (.bO []))):=by kernel_rfl
end Ds
namespace Go.Sx
open Go
def arR(x:Array Oper×Oper×List Item):Option (TypeId×Tmp×Tmp):=match x.2.1.op,x.2.1.dst with
 |.makeInterface t (.tmp y),some d=>bif iK x.1 then some (t,y,d)else none|_,_=>none
def arS(x:Array Oper×Oper×List Item):Option Tmp:=match x.2.1.op with
 |.panic (.tmp y)=>some y|_=>none
def aet(g:FuncId)(x:Array Oper×Oper×List Item):Option (List Operand):=match x.2.1.op with
 |.call c=>match c.callee with
  |.value (.func g')=>bif Nat.beq g g' then some c.args.toList else none|_=>none
 |_=>none
section
variable{ρ aO:Nat->Value}{H H':aJ}{G O O':Nat->Prop}{w w':World}{P:Program}{X:Ctx}{K:List au->AV->Prop}{Z:aP}
theorem ami{v:Value}(h:ae ρ H O w (.agg []) v):v=.agg #[]:=by
 unfold ae at h;obtain⟨vs,rfl,h⟩:=h;unfold aA at h;rw[h]
theorem af4{f:FuncId}{fn:Func}{key i:Nat}{t:TypeId}{y d:Tmp}(xk:(qg fn key i).bind arR=some (t,y,d))(hmk:∀v w,(Instr.makeInterface t v).run P w=.ok (.iface t v) w){tmps:List AV}{L:List au}{stk:bt}
 (hg:((qg fn key i).all λy=>gOk y.1 y.2.1 tmps)=true) (c9:(stk.plain||((qg fn key i).any λy=>l4 (aR.n ⟨tmps,L,[],stk⟩) y.1))=true) (hy:tmps.getD y (.s .aF)=.agg [])
 (h:Safe P f X K ⟨tmps.set d (.s (.raw (.iface t (.agg #[])) [])),L,fI fn key (i+1),stk⟩):Safe P f X K ⟨tmps,L,fI fn key i,stk⟩:=by
 have⟨⟨ops,o,k⟩,h1,h2⟩:=bind_eq_some_iff.1 xk;rw[h1]at c9 hg;unfold arR at h2;split at h2;rename_i t' y' d' e2 e3;simp only[]at e2 e3;rw[Bool.cond_eq_ite]at h2;split at h2;rename_i gl;simp only[Option.some.injEq,Prod.mk.injEq]at h2;obtain⟨rfl,rfl,rfl⟩:=h2;refine af3 h1 gl (by simpa using hg) (by simpa using c9) λG E ρ a w hr=> ?_
 have ey:a.eval (.tmp y')=.agg #[]:=by
  have hd:=hr.den y';rw[show(St.tmps ⟨tmps,L⟩).getD y' (.s .aF)=.agg []from hy]at hd;exact ami hd
 have eG:(execOp a.eval o).run P w=.ok (.value (.iface t' (.agg #[]))) w:=by
  simp[execOp,e2,ey,hmk]
 unfold Yields;rw[eG]
 have ni:Good ρ (St.look ⟨tmps,L⟩) (X.at G E).G w (St.put ⟨tmps,L⟩ o.dst ⟨[],[],[],λ_=>.s (.raw (.iface t' (.agg #[])) [])⟩).look (.s (.raw (.iface t' (.agg #[])) [])) (.iface t' (.agg #[])) w:=by
  rw[ajl];exact Good.val hr.sat (aC (.raw _ _ rfl))
 have⟨aO,eu⟩:=hr.alR (q:=⟨[],[],[],λ_=>.s (.raw (.iface t' (.agg #[])) [])⟩) (.inl rfl) ni;refine⟨_,aO,eu, ?_⟩;rw[e3];simpa[St.put,l3,cO]using h;cases h2;cases h2
variable{T:Type}{S:Spec T}
theorem ac4{x:T}{f:FuncId}{fn:Func}{key i rid:Nat}{y:Tmp}{t:TypeId}{u:Value}(hf:P.funcs[f]? =some fn)(xk:(qg fn key i).bind arS=some y){tmps:List AV}{L:List au}(hg:((qg fn key i).all λy=>gOk y.1 y.2.1 tmps)=true)
 (hy:tmps.getD y (.s .aF)=.s (.raw (.iface t u) [])) (hXH:X.H=lk (S.heap x)) (mg:∀e w',vn S x [{v:=.iface t u,recovered:=false}] X.ρ X.G X.w e w'->X.pan e w') (gW:S.dG x=L):Safe P f X K ⟨tmps,L,fI fn key i,{rid:=rid}⟩:=by
 have⟨⟨ops,o,k⟩,h1,h2⟩:=bind_eq_some_iff.1 xk;rw[h1]at hg;unfold arS at h2;split at h2;rename_i y' e2;simp only[]at e2;simp only[Option.some.injEq]at h2;subst h2;refine vp hf h1 (λc' h=>by rw[e2]at h;cases h) (by simpa using hg) λG E ρ a w fV gh hr=> ?_
 have ey:a.eval (.tmp y')=.iface t u:=by
  have hd:=hr.den y';rw[show(St.tmps ⟨tmps,L⟩).getD y' (.s .aF)=.s (.raw (.iface t u) [])from hy]at hd;have:=aw (by simp) hd;show a.tmps.getD y' undef=_;generalize a.tmps.getD y' undef=u at this;cases this;rfl
 have eG:(execOp a.eval o).run P w=.halt (.panic (.iface t u)) w:=by
  simp[execOp,e2,ey,Instr.panic,goPanic]
 unfold vk;rw[eG];refine mg _ _ (ac2 hXH fV gh hr ?_);rw[gW];exact Good.val hr.sat (by unfold ae;trivial);cases h2
theorem nj{U:Type}{R:Spec U}{ch:List PanicEntry}{x:T}{y:U}{f g:FuncId}{fn:Func}{key i rid:Nat}{us:List Operand}(hf:P.funcs[f]? =some fn)(xk:(qg fn key i).bind (aet g)=some us)
 (er:di P g=true) {tmps:List AV} (hg:((qg fn key i).all λy=>gOk y.1 y.2.1 tmps)=true) (hX:xm P Z g R ch) (hz:cE Z X) (hXH:X.H=lk (S.heap x)) (mg:∀e w',vn S x ch X.ρ X.G X.w e w'->X.pan e w')
 (ef:us.map (gy tmps)=R.args y) (gz:bd (R.pre y)) (gW:R.dG y=S.dG x):Safe P f X K ⟨tmps,R.heap y,fI fn key i,{rid:=rid}⟩:=by
 have⟨⟨ops,o,k⟩,h1,h2⟩:=bind_eq_some_iff.1 xk;rw[h1]at hg;unfold aet at h2;split at h2;rename_i c e2;simp only[]at e2;split at h2;rename_i g' e3;rw[Bool.cond_eq_ite]at h2;split at h2;rename_i e4;have e4:g=g':=Nat.eq_of_beq_eq_true e4;subst e4;simp only[Option.some.injEq]at h2;subst h2;exact ac3 hf h1 e2 e3 er (by simpa using hg) hX hz hXH mg ef gz gW;cases h2;cases h2;cases h2
end
end Go.Sx
namespace Ds
open Go Go.Sx Go.Proofs Lf
abbrev chM:List PanicEntry:=[{v:=.iface 99 (.agg #[]),recovered:=false}]
def aue(ps:Ps):aR:=⟨sl 16 [(14,.agg [])],[eY ps 2001],fI f67 2 1,⟨none,false,0,[],2⟩⟩
def arT:List AV->RM ((Ps×Int)×List Nat)
 |[.ptr id 0]=>.look id λo=>match o with
  |some (.ad [.s (.ro (.ab [.str,.rows [.str,.int .u8,.int .i64,.str],.rows [.str,.int .u8,.int .i64,.int .i64,.int .u8,.str,.str,.str,.bool,.rows [.str,.int .u8,.int .i64,.str],.strs],.rows [.int .i64,.int .i64,.str,.bool]] ps)),.s (.int .i64 n)] _)=>.ret ((ps,n),[id])|_=>.fail ""
 |_=>.fail ""
abbrev apf:=fm ape arT
theorem apg{Z:aP}:ed P Z 67 ape:=by
 refine cz func67 (by kernel_rfl) (λx=>le_of_ble_eq_true (by kernel_rfl)) ?_;rintro⟨(ps:Ps),(n:Int)⟩ ⟨⟨h0,h1⟩,_⟩ X hX hz;have jL:∀x∈abl,(ape.heap (ps,n)).length<=x.2.m:=by intro y hy;simp[abl]at hy;rcases hy with rfl|rfl<;>exact le_refl _
 refine eC hz hX jL aQ.Ok.nil func67 (anM ps n) ⟨⟨by omega,by omega⟩,ak (decide_eq_false (by omega)) ?_⟩;exact ma 1 rfl (le_refl _) rfl rfl
theorem amj{Z:aP}:xm P Z 67 aes chM:=by
 refine gP func67 (by kernel_rfl) (λx=>le_of_ble_eq_true (by kernel_rfl)) ?_;rintro(ps:Ps) _ X hX hz mg;have jL:∀x∈abl,(aes.heap ps).length<=x.2.m:=by intro y hy;simp[abl]at hy;rcases hy with rfl|rfl<;>exact le_refl _
 refine eC hz hX jL aQ.Ok.nil func67 (anM ps 2000) ⟨⟨by omega,by omega⟩,af (decide_eq_true (by omega)) ?_⟩;show Safe P 67 X _ (aue ps);refine af4 (f:=67) (fn:=f67) (key:=2) (i:=1) (t:=99) (y:=14) (d:=15) (by kernel_rfl) (λv w=>run_makeInterface w 99 v (by kernel_rfl)) (by kernel_rfl) (by kernel_rfl) rfl ?_;exact ac4 (S:=aes) (x:=ps) (i:=2) (y:=15) func67 (by kernel_rfl) (by kernel_rfl) rfl hX mg rfl
abbrev om(l:Ss):AV:=.s (.ro (.ab bZ l))
def anN:aQ:=[(67,apf),(16,aeo),(17,abi),(31,anJ),(8,ajd),(68,anH)]
def aph:List (Nat×Norm):=[(eb+1001,⟨[],[18],1,[]⟩)]
def ajo:List (Nat×Norm):=[(eb+25003,⟨[],[164,165,166],1,[]⟩),(eb+9006,⟨[],[58,59,63],1,[]⟩),(eb+21006,⟨[],[130,131,135],1,[]⟩),(eb+24004,⟨[],[159,160,161,162],1,[]⟩),(eb+17009,⟨[],[103,107,111],1,[]⟩)]
theorem auf(ps:Ps)(n:Int)(cs:Ss)(nm:ByteArray)(k:Int):run P bE.sum f49 aph (start f49 [.ptr 0 0,om cs,.agg [.s (.str nm),aT k]] [eY ps n])=
 Tree.at (.mk (sl 168 [(18,.ptr 0 0)]) [.ad [.s (.ro (.ab cP ps)),aT n] 97] (fI f49 1 1) (.mk none false 0 [] 1)):=by kernel_rfl
theorem api(ps:Ps)(n:Int)(cs:List (ByteArray×Int×Unit))(nm:ByteArray)(k:Int):run P anN.sum f49 ajo (start f49 [.ptr 0 0,om cs,.agg [.s (.str nm),aT k]] [eY ps n])=
 Tree.aa (bN (some [AV.ptr 0 0]))
 (.aa (bN (some [au.ad [.s (.ro (.ab cP ps)),aT n] 97]))
   (.aa ((0:Int)<=n/\n<2000)
     (.ite (!dC (pO (ag ps nm)) k) (.ret [.ad [.s (.ro (.ab cP ps)),aT (n+1)] 97,.ad [.s (.str nm),aT k] 33,.ad [.s (.str (pN (ag ps nm))),.s (.ro (.ab cV (pV (ag ps nm)))),.s (.ro (.ab cN (pO (ag ps nm)))),.s (.ro (.ab cF (pF (ag ps nm))))] 30,.ad [.s (.str (nN (aM (pO (ag ps nm)) k))),.s (.int .u8 (nK (aM (pO (ag ps nm)) k))),aT (nI (aM (pO (ag ps nm)) k)),aT (nO (aM (pO (ag ps nm)) k)),.s (.int .u8 (nE (aM (pO (ag ps nm)) k))),.s (.str (nY (aM (pO (ag ps nm)) k))),.s (.str (nT (aM (pO (ag ps nm)) k))),.s (.str (nS (aM (pO (ag ps nm)) k))),.s (.bool (nB (aM (pO (ag ps nm)) k))),.s (.ro (.ab cV (nV (aM (pO (ag ps nm)) k)))),.s (.ro (.strs (nZ (aM (pO (ag ps nm)) k))))] 40] (.bO []))
       (.ite (nK (aM (pO (ag ps nm)) k)==3||nK (aM (pO (ag ps nm)) k)==10||nK (aM (pO (ag ps nm)) k)==6&&(nE (aM (pO (ag ps nm)) k)==1||nE (aM (pO (ag ps nm)) k)==2||nE (aM (pO (ag ps nm)) k)==3)) (.ret [.ad [.s (.ro (.ab cP ps)),aT (n+1)] 97,.ad [.s (.str nm),aT k] 33,.ad [.s (.str (pN (ag ps nm))),.s (.ro (.ab cV (pV (ag ps nm)))),.s (.ro (.ab cN (pO (ag ps nm)))),.s (.ro (.ab cF (pF (ag ps nm))))] 30,.ad [.s (.str (nN (aM (pO (ag ps nm)) k))),.s (.int .u8 (nK (aM (pO (ag ps nm)) k))),aT (nI (aM (pO (ag ps nm)) k)),aT (nO (aM (pO (ag ps nm)) k)),.s (.int .u8 (nE (aM (pO (ag ps nm)) k))),.s (.str (nY (aM (pO (ag ps nm)) k))),.s (.str (nT (aM (pO (ag ps nm)) k))),.s (.str (nS (aM (pO (ag ps nm)) k))),.s (.bool (nB (aM (pO (ag ps nm)) k))),.s (.ro (.ab cV (nV (aM (pO (ag ps nm)) k)))),.s (.ro (.strs (nZ (aM (pO (ag ps nm)) k))))] 40] (.bO []))
         (.ite (nK (aM (pO (ag ps nm)) k)==11) (.aa (bN (some [AV.ptr 0 0])) (.aa (bN (some [au.ad [.s (.ro (.ab cP ps)),aT (n+1)] 97])) (.aa ((0:Int)<=n+1/\n+1<2000) (.aa ((pO (ag ps nm)).length<=1000000) (.ite (j6 (pO (ag ps nm)) k) (.at (.mk (sl 168 [(58,.ptr 0 0),(59,.s (.ro (.ab bZ cs))),(63,.agg [.s (.str nm),aT (bk (pO (ag ps nm)) k)])]) [.ad [.s (.ro (.ab cP ps)),aT (n+1+1)] 97] (fI f49 9 6) (.mk none false 0 [] 9))) (.at (.mk (sl 168 [(164,.ptr 0 0),(165,.s (.ro (.ab bZ cs))),(166,.agg [.s (.str nm),aT k])]) [.ad [.s (.ro (.ab cP ps)),aT (n+1+1)] 97] (fI f49 25 3) (.mk none false 0 [] 25))))))))
           (.ite (nK (aM (pO (ag ps nm)) k)==12) (.aa (bN (some [AV.ptr 0 0])) (.aa (bN (some [au.ad [.s (.ro (.ab cP ps)),aT (n+1)] 97])) (.aa ((0:Int)<=n+1/\n+1<2000) (.at (.mk (sl 168 [(164,.ptr 0 0),(165,.s (.ro (.ab bZ cs))),(166,.agg [.s (.str nm),aT k])]) [.ad [.s (.ro (.ab cP ps)),aT (n+1+1)] 97] (fI f49 25 3) (.mk none false 0 [] 25))))))
             (.ite (nK (aM (pO (ag ps nm)) k)==8) (.aa (bN (some [AV.ptr 0 0])) (.aa (bN (some [au.ad [.s (.ro (.ab cP ps)),aT (n+1)] 97])) (.aa ((0:Int)<=n+1/\n+1<2000) (.at (.mk (sl 168 [(164,.ptr 0 0),(165,.s (.ro (.ab bZ cs))),(166,.agg [.s (.str nm),aT k])]) [.ad [.s (.ro (.ab cP ps)),aT (n+1+1)] 97] (fI f49 25 3) (.mk none false 0 [] 25))))))
               (.ite (nK (aM (pO (ag ps nm)) k)==9) (.aa (bN (some [AV.ptr 0 0])) (.aa (bN (some [au.ad [.s (.ro (.ab cP ps)),aT (n+1)] 97])) (.aa ((0:Int)<=n+1/\n+1<2000) (.at (.mk (sl 168 [(164,.ptr 0 0),(165,.s (.ro (.ab bZ cs))),(166,.agg [.s (.str nm),aT k])]) [.ad [.s (.ro (.ab cP ps)),aT (n+1+1)] 97] (fI f49 25 3) (.mk none false 0 [] 25))))))
                 (.ite (nK (aM (pO (ag ps nm)) k)==14) (.aa (bN (some [AV.ptr 0 0])) (.aa (bN (some [au.ad [.s (.ro (.ab cP ps)),aT (n+1)] 97])) (.aa ((0:Int)<=n+1/\n+1<2000) (.aa ((pO (ag ps (nY (aM (pO (ag ps nm)) k)))).length<=1000000) (.ite (j6 (pO (ag ps (nY (aM (pO (ag ps nm)) k)))) (-1)) (.aa (((1:Nat)+cs.length)*(24:Nat)<=140737488355328) (.at (.mk (sl 168 [(103,.ptr 0 0),(107,.vec 1),(111,.agg [.s (.str (nY (aM (pO (ag ps nm)) k))),aT (bk (pO (ag ps (nY (aM (pO (ag ps nm)) k)))) (-1))])]) [.ad [.s (.ro (.ab cP ps)),aT (n+1+1)] 97,.vec (.ab bZ ([(nm,k,())]++cs)) 33] (fI f49 17 9) (.mk none false 0 [] 17)))) (.at (.mk (sl 168 [(164,.ptr 0 0),(165,.s (.ro (.ab bZ cs))),(166,.agg [.s (.str nm),aT k])]) [.ad [.s (.ro (.ab cP ps)),aT (n+1+1)] 97] (fI f49 25 3) (.mk none false 0 [] 25))))))))
                   (.ite (nK (aM (pO (ag ps nm)) k)==5)
                     (.ite (nE (aM (pO (ag ps nm)) k)==6) (.aa ((pO (ag ps nm)).length<=1000000) (.ite (kx (pO (ag ps nm)) k) (.at (.mk (sl 168 [(130,.ptr 0 0),(131,.s (.ro (.ab bZ cs))),(135,.agg [.s (.str nm),aT (fc (pO (ag ps nm)) k)])]) [.ad [.s (.ro (.ab cP ps)),aT (n+1)] 97] (fI f49 21 6) (.mk none false 0 [] 21))) (.ret [.ad [.s (.ro (.ab cP ps)),aT (n+1)] 97,.ad [.s (.str nm),aT k] 33,.ad [.s (.str (pN (ag ps nm))),.s (.ro (.ab cV (pV (ag ps nm)))),.s (.ro (.ab cN (pO (ag ps nm)))),.s (.ro (.ab cF (pF (ag ps nm))))] 30,.ad [.s (.str (nN (aM (pO (ag ps nm)) k))),.s (.int .u8 (nK (aM (pO (ag ps nm)) k))),aT (nI (aM (pO (ag ps nm)) k)),aT (nO (aM (pO (ag ps nm)) k)),.s (.int .u8 (nE (aM (pO (ag ps nm)) k))),.s (.str (nY (aM (pO (ag ps nm)) k))),.s (.str (nT (aM (pO (ag ps nm)) k))),.s (.str (nS (aM (pO (ag ps nm)) k))),.s (.bool (nB (aM (pO (ag ps nm)) k))),.s (.ro (.ab cV (nV (aM (pO (ag ps nm)) k)))),.s (.ro (.strs (nZ (aM (pO (ag ps nm)) k))))] 40] (.bO []))))
                       (.ite (nE (aM (pO (ag ps nm)) k)==5) (.ite (nK (aM (pO (ag ps nm)) k)==5) (.at (.mk (sl 168 [(159,.ptr 0 0),(160,.s (.ro (.ab bZ cs))),(161,.agg [.s (.str nm),aT k]),(162,.agg [.s (.str (nN (aM (pO (ag ps nm)) k))),.s (.int .u8 (nK (aM (pO (ag ps nm)) k))),aT (nI (aM (pO (ag ps nm)) k)),aT (nO (aM (pO (ag ps nm)) k)),.s (.int .u8 (nE (aM (pO (ag ps nm)) k))),.s (.str (nY (aM (pO (ag ps nm)) k))),.s (.str (nT (aM (pO (ag ps nm)) k))),.s (.str (nS (aM (pO (ag ps nm)) k))),.s (.bool (nB (aM (pO (ag ps nm)) k))),.s (.ro (.ab cV (nV (aM (pO (ag ps nm)) k)))),.s (.ro (.strs (nZ (aM (pO (ag ps nm)) k))))])]) [.ad [.s (.ro (.ab cP ps)),aT (n+1)] 97] (fI f49 24 4) (.mk none false 0 [] 24))) (.ite (nK (aM (pO (ag ps nm)) k)==2) (.at (.mk (sl 168 [(159,.ptr 0 0),(160,.s (.ro (.ab bZ cs))),(161,.agg [.s (.str nm),aT k]),(162,.agg [.s (.str (nN (aM (pO (ag ps nm)) k))),.s (.int .u8 (nK (aM (pO (ag ps nm)) k))),aT (nI (aM (pO (ag ps nm)) k)),aT (nO (aM (pO (ag ps nm)) k)),.s (.int .u8 (nE (aM (pO (ag ps nm)) k))),.s (.str (nY (aM (pO (ag ps nm)) k))),.s (.str (nT (aM (pO (ag ps nm)) k))),.s (.str (nS (aM (pO (ag ps nm)) k))),.s (.bool (nB (aM (pO (ag ps nm)) k))),.s (.ro (.ab cV (nV (aM (pO (ag ps nm)) k)))),.s (.ro (.strs (nZ (aM (pO (ag ps nm)) k))))])]) [.ad [.s (.ro (.ab cP ps)),aT (n+1)] 97] (fI f49 24 4) (.mk none false 0 [] 24))) (.ite (nE (aM (pO (ag ps nm)) k)==4) (.ite (nK (aM (pO (ag ps nm)) k)==2) (.at (.mk (sl 168 [(159,.ptr 0 0),(160,.s (.ro (.ab bZ cs))),(161,.agg [.s (.str nm),aT k]),(162,.agg [.s (.str (nN (aM (pO (ag ps nm)) k))),.s (.int .u8 (nK (aM (pO (ag ps nm)) k))),aT (nI (aM (pO (ag ps nm)) k)),aT (nO (aM (pO (ag ps nm)) k)),.s (.int .u8 (nE (aM (pO (ag ps nm)) k))),.s (.str (nY (aM (pO (ag ps nm)) k))),.s (.str (nT (aM (pO (ag ps nm)) k))),.s (.str (nS (aM (pO (ag ps nm)) k))),.s (.bool (nB (aM (pO (ag ps nm)) k))),.s (.ro (.ab cV (nV (aM (pO (ag ps nm)) k)))),.s (.ro (.strs (nZ (aM (pO (ag ps nm)) k))))])]) [.ad [.s (.ro (.ab cP ps)),aT (n+1)] 97] (fI f49 24 4) (.mk none false 0 [] 24))) (.at (.mk (sl 168 [(164,.ptr 0 0),(165,.s (.ro (.ab bZ cs))),(166,.agg [.s (.str nm),aT k])]) [.ad [.s (.ro (.ab cP ps)),aT (n+1)] 97] (fI f49 25 3) (.mk none false 0 [] 25)))) (.at (.mk (sl 168 [(164,.ptr 0 0),(165,.s (.ro (.ab bZ cs))),(166,.agg [.s (.str nm),aT k])]) [.ad [.s (.ro (.ab cP ps)),aT (n+1)] 97] (fI f49 25 3) (.mk none false 0 [] 25))))))
                         (.ite (nE (aM (pO (ag ps nm)) k)==4) (.ite (nK (aM (pO (ag ps nm)) k)==2) (.at (.mk (sl 168 [(159,.ptr 0 0),(160,.s (.ro (.ab bZ cs))),(161,.agg [.s (.str nm),aT k]),(162,.agg [.s (.str (nN (aM (pO (ag ps nm)) k))),.s (.int .u8 (nK (aM (pO (ag ps nm)) k))),aT (nI (aM (pO (ag ps nm)) k)),aT (nO (aM (pO (ag ps nm)) k)),.s (.int .u8 (nE (aM (pO (ag ps nm)) k))),.s (.str (nY (aM (pO (ag ps nm)) k))),.s (.str (nT (aM (pO (ag ps nm)) k))),.s (.str (nS (aM (pO (ag ps nm)) k))),.s (.bool (nB (aM (pO (ag ps nm)) k))),.s (.ro (.ab cV (nV (aM (pO (ag ps nm)) k)))),.s (.ro (.strs (nZ (aM (pO (ag ps nm)) k))))])]) [.ad [.s (.ro (.ab cP ps)),aT (n+1)] 97] (fI f49 24 4) (.mk none false 0 [] 24))) (.at (.mk (sl 168 [(164,.ptr 0 0),(165,.s (.ro (.ab bZ cs))),(166,.agg [.s (.str nm),aT k])]) [.ad [.s (.ro (.ab cP ps)),aT (n+1)] 97] (fI f49 25 3) (.mk none false 0 [] 25)))) (.at (.mk (sl 168 [(164,.ptr 0 0),(165,.s (.ro (.ab bZ cs))),(166,.agg [.s (.str nm),aT k])]) [.ad [.s (.ro (.ab cP ps)),aT (n+1)] 97] (fI f49 25 3) (.mk none false 0 [] 25))))))
                     (.ite (nE (aM (pO (ag ps nm)) k)==5) (.ite (nK (aM (pO (ag ps nm)) k)==5) (.at (.mk (sl 168 [(159,.ptr 0 0),(160,.s (.ro (.ab bZ cs))),(161,.agg [.s (.str nm),aT k]),(162,.agg [.s (.str (nN (aM (pO (ag ps nm)) k))),.s (.int .u8 (nK (aM (pO (ag ps nm)) k))),aT (nI (aM (pO (ag ps nm)) k)),aT (nO (aM (pO (ag ps nm)) k)),.s (.int .u8 (nE (aM (pO (ag ps nm)) k))),.s (.str (nY (aM (pO (ag ps nm)) k))),.s (.str (nT (aM (pO (ag ps nm)) k))),.s (.str (nS (aM (pO (ag ps nm)) k))),.s (.bool (nB (aM (pO (ag ps nm)) k))),.s (.ro (.ab cV (nV (aM (pO (ag ps nm)) k)))),.s (.ro (.strs (nZ (aM (pO (ag ps nm)) k))))])]) [.ad [.s (.ro (.ab cP ps)),aT (n+1)] 97] (fI f49 24 4) (.mk none false 0 [] 24))) (.ite (nK (aM (pO (ag ps nm)) k)==2) (.at (.mk (sl 168 [(159,.ptr 0 0),(160,.s (.ro (.ab bZ cs))),(161,.agg [.s (.str nm),aT k]),(162,.agg [.s (.str (nN (aM (pO (ag ps nm)) k))),.s (.int .u8 (nK (aM (pO (ag ps nm)) k))),aT (nI (aM (pO (ag ps nm)) k)),aT (nO (aM (pO (ag ps nm)) k)),.s (.int .u8 (nE (aM (pO (ag ps nm)) k))),.s (.str (nY (aM (pO (ag ps nm)) k))),.s (.str (nT (aM (pO (ag ps nm)) k))),.s (.str (nS (aM (pO (ag ps nm)) k))),.s (.bool (nB (aM (pO (ag ps nm)) k))),.s (.ro (.ab cV (nV (aM (pO (ag ps nm)) k)))),.s (.ro (.strs (nZ (aM (pO (ag ps nm)) k))))])]) [.ad [.s (.ro (.ab cP ps)),aT (n+1)] 97] (fI f49 24 4) (.mk none false 0 [] 24))) (.ite (nE (aM (pO (ag ps nm)) k)==4) (.ite (nK (aM (pO (ag ps nm)) k)==2) (.at (.mk (sl 168 [(159,.ptr 0 0),(160,.s (.ro (.ab bZ cs))),(161,.agg [.s (.str nm),aT k]),(162,.agg [.s (.str (nN (aM (pO (ag ps nm)) k))),.s (.int .u8 (nK (aM (pO (ag ps nm)) k))),aT (nI (aM (pO (ag ps nm)) k)),aT (nO (aM (pO (ag ps nm)) k)),.s (.int .u8 (nE (aM (pO (ag ps nm)) k))),.s (.str (nY (aM (pO (ag ps nm)) k))),.s (.str (nT (aM (pO (ag ps nm)) k))),.s (.str (nS (aM (pO (ag ps nm)) k))),.s (.bool (nB (aM (pO (ag ps nm)) k))),.s (.ro (.ab cV (nV (aM (pO (ag ps nm)) k)))),.s (.ro (.strs (nZ (aM (pO (ag ps nm)) k))))])]) [.ad [.s (.ro (.ab cP ps)),aT (n+1)] 97] (fI f49 24 4) (.mk none false 0 [] 24))) (.at (.mk (sl 168 [(164,.ptr 0 0),(165,.s (.ro (.ab bZ cs))),(166,.agg [.s (.str nm),aT k])]) [.ad [.s (.ro (.ab cP ps)),aT (n+1)] 97] (fI f49 25 3) (.mk none false 0 [] 25)))) (.at (.mk (sl 168 [(164,.ptr 0 0),(165,.s (.ro (.ab bZ cs))),(166,.agg [.s (.str nm),aT k])]) [.ad [.s (.ro (.ab cP ps)),aT (n+1)] 97] (fI f49 25 3) (.mk none false 0 [] 25))))))
                       (.ite (nE (aM (pO (ag ps nm)) k)==4) (.ite (nK (aM (pO (ag ps nm)) k)==2) (.at (.mk (sl 168 [(159,.ptr 0 0),(160,.s (.ro (.ab bZ cs))),(161,.agg [.s (.str nm),aT k]),(162,.agg [.s (.str (nN (aM (pO (ag ps nm)) k))),.s (.int .u8 (nK (aM (pO (ag ps nm)) k))),aT (nI (aM (pO (ag ps nm)) k)),aT (nO (aM (pO (ag ps nm)) k)),.s (.int .u8 (nE (aM (pO (ag ps nm)) k))),.s (.str (nY (aM (pO (ag ps nm)) k))),.s (.str (nT (aM (pO (ag ps nm)) k))),.s (.str (nS (aM (pO (ag ps nm)) k))),.s (.bool (nB (aM (pO (ag ps nm)) k))),.s (.ro (.ab cV (nV (aM (pO (ag ps nm)) k)))),.s (.ro (.strs (nZ (aM (pO (ag ps nm)) k))))])]) [.ad [.s (.ro (.ab cP ps)),aT (n+1)] 97] (fI f49 24 4) (.mk none false 0 [] 24))) (.at (.mk (sl 168 [(164,.ptr 0 0),(165,.s (.ro (.ab bZ cs))),(166,.agg [.s (.str nm),aT k])]) [.ad [.s (.ro (.ab cP ps)),aT (n+1)] 97] (fI f49 25 3) (.mk none false 0 [] 25)))) (.at (.mk (sl 168 [(164,.ptr 0 0),(165,.s (.ro (.ab bZ cs))),(166,.agg [.s (.str nm),aT k])]) [.ad [.s (.ro (.ab cP ps)),aT (n+1)] 97] (fI f49 25 3) (.mk none false 0 [] 25))))))))))))))):=by kernel_rfl
def aeu:aQ:=[(16,aeo),(70,ajc)]
def apj:List (Nat×Norm):=[(gK+3,⟨[],[],1,[]⟩),(eb+5011,⟨[],[29,30,39],1,[]⟩)]
theorem aug(ps:Ps)(n:Int)(cs:Ss)(nm:ByteArray)(k:Int):run P aeu.sum f51 apj (start f51 [.ptr 0 0,om cs,.agg [.s (.str nm),aT k]] [eY ps n])=
 Tree.aa ((pF (ag ps nm)).length<=1000000) (.ite (decide ((0:Int)<(↑(cZ (pF (ag ps nm)) k).length:Int))) (.aa ((0:Int)<=0) (.aa ((0:Int)<(↑(cZ (pF (ag ps nm)) k).length:Int)) (.aa ((0:Int)<=(cZ (pF (ag ps nm)) k).getD 0 0) (.aa ((cZ (pF (ag ps nm)) k).getD 0 (0:Int)<(↑(pF (ag ps nm)).length:Int)) (.at (.mk (sl 42 [(29,.ptr 0 0),(30,.s (.ro (.ab bZ cs))),(39,.agg [.s (.str nm),aT (fB (el (pF (ag ps nm)) ((cZ (pF (ag ps nm)) k).getD 0 0)))])]) [.ad [.s (.ro (.ab cP ps)),aT n] 97] (fI f51 5 11) (.mk none false 0 [] 5))))))) (.ret [.ad [.s (.ro (.ab cP ps)),aT n] 97,.ad [.s (.str nm),aT k] 33,.ad [.s (.str (pN (ag ps nm))),.s (.ro (.ab cV (pV (ag ps nm)))),.s (.ro (.ab cN (pO (ag ps nm)))),.s (.ro (.ab cF (pF (ag ps nm))))] 30,.vec (.ay .i64 (cZ (pF (ag ps nm)) k)) 3] (.bO []))):=by kernel_rfl
abbrev bB:ByteArray:=⟨#[98]⟩
def nOf(k:Int):CL cN:=(empty,k,(-1:Int),(-1:Int),(0:Int),empty,empty,empty,false,[],[],())
def fOf(a b:Int):CL cF:=(a,b,empty,false,())
def qi:Ps:=[(bB,[],[nOf 1,nOf 4,nOf 4],[fOf 0 1,fOf 1 2,fOf 2 1],())]
abbrev sX(n k:Int):Spec Unit:=⟨λ_=>[.ptr 0 0,om [],.agg [.s (.str bB),aT k]],λ_=>[eY qi n],λ_=>[],λ_=>[eY qi 2001],λ_=>.bO []⟩
def cP1(n:Int):aR:=⟨sl 168 [(18,.ptr 0 0)],[eY qi n],fI f49 1 1,⟨none,false,0,[],1⟩⟩
def auh(n k:Int):aR:=⟨sl 168 [(164,.ptr 0 0),(165,om []),(166,.agg [.s (.str bB),aT k])],[eY qi n],fI f49 25 3,⟨none,false,0,[],25⟩⟩
def cA5(n k:Int):aR:=⟨sl 42 [(29,.ptr 0 0),(30,om []),(39,.agg [.s (.str bB),aT k])],[eY qi n],fI f51 5 11,⟨none,false,0,[],5⟩⟩
theorem vr{Z:aP}:aeu.Ok P Z:=aQ.Ok.cons y9.dY (aQ.Ok.cons ai9.dY aQ.Ok.nil)
theorem vt{Z:aP}:anN.Ok P Z:=aQ.Ok.cons (apg.sum arT) (aQ.Ok.cons y9.dY (aQ.Ok.cons ve.dY (aQ.Ok.cons anD.sum (aQ.Ok.cons aja.sum (aQ.Ok.cons anC.sum aQ.Ok.nil)))))
theorem abm:di P 49=true:=by kernel_rfl
theorem abn:di P 51=true:=by kernel_rfl
theorem apk:di P 67=true:=by kernel_rfl
theorem abo{Z:aP}{n k k':Int}(hk:fB (el (pF (ag qi bB)) ((cZ (pF (ag qi bB)) k).getD 0 0))=k')(hl:(pF (ag qi bB)).length=3)(hf:(cZ (pF (ag qi bB)) k).length=1)(h0:0<=(cZ (pF (ag qi bB)) k).getD 0 0)(h1:(cZ (pF (ag qi bB)) k).getD 0 0<3)
 (h:xm P Z 49 (sX n k') chM):xm P Z 51 (sX n k) chM:=by
 refine gP func51 (by kernel_rfl) (λx=>le_of_ble_eq_true (by kernel_rfl)) ?_;rintro⟨⟩ _ X hX hz mg;have jL:∀x∈apj,((sX n k).heap ()).length<=x.2.m:=by intro y hy;simp[apj]at hy;rcases hy with rfl|rfl<;>exact le_refl _
 refine eC hz hX jL vr func51 (aug qi n [] bB k) ⟨by omega,af (decide_eq_true (by omega)) ⟨by omega,by omega,h0,by omega, ?_⟩⟩;rw[hk];show Safe P 51 X _ (cA5 n k');exact nj (S:=sX n k) (x:=()) (R:=sX n k') (y:=()) (f:=51) (fn:=f51) (g:=49) (key:=5) (i:=11) (us:=[.tmp 29,.tmp 30,.tmp 39]) func51 (by kernel_rfl) abm (by kernel_rfl) h hz hX mg rfl trivial rfl
theorem nR{Z:aP}{k:Int}:xm P Z 49 (sX 2000 k) chM:=by
 refine gP func49 (by kernel_rfl) (λx=>le_of_ble_eq_true (by kernel_rfl)) ?_;rintro⟨⟩ _ X hX hz mg;have jL:∀x∈aph,((sX 2000 k).heap ()).length<=x.2.m:=by intro y hy;simp[aph]at hy;rcases hy with rfl;exact le_refl _
 refine eC hz hX jL aQ.Ok.nil func49 (auf qi 2000 [] bB k) ?_;show Safe P 49 X _ (cP1 2000);exact nj (S:=sX 2000 k) (x:=()) (R:=aes) (y:=qi) (f:=49) (fn:=f49) (g:=67) (key:=1) (i:=1) (us:=[.tmp 18]) func49 (by kernel_rfl) apk (by kernel_rfl) amj hz hX mg rfl trivial rfl
theorem abp{Z:aP}{n k:Int}(h0:0<=n)(h1:n<2000)(c9:dC (pO (ag qi bB)) k=true)(hk:nK (aM (pO (ag qi bB)) k)=4)(he:nE (aM (pO (ag qi bB)) k)=0)
 (h:xm P Z 51 (sX (n+1) k) chM):xm P Z 49 (sX n k) chM:=by
 refine gP func49 (by kernel_rfl) (λx=>le_of_ble_eq_true (by kernel_rfl)) ?_;rintro⟨⟩ _ X hX hz mg;have jL:∀x∈ajo,((sX n k).heap ()).length<=x.2.m:=by intro y hy;simp[ajo]at hy;rcases hy with rfl|rfl|rfl|rfl|rfl<;>exact le_refl _
 refine eC hz hX jL vt func49 (api qi n [] bB k) ?_;rw[c9,hk,he];refine⟨rfl,rfl,⟨h0,h1⟩,ak rfl (ak rfl (ak rfl (ak rfl (ak rfl (ak rfl (ak rfl (ak rfl (ak rfl (ak rfl ?_)))))))))⟩;show Safe P 49 X _ (auh (n+1) k);exact nj (S:=sX n k) (x:=()) (R:=sX (n+1) k) (y:=()) (f:=49) (fn:=f49) (g:=51) (key:=25) (i:=3) (us:=[.tmp 164,.tmp 165,.tmp 166]) func49 (by kernel_rfl) abn (by kernel_rfl) h hz hX mg rfl trivial rfl
theorem arU{Z:aP}:∀(d:Nat) (n:Int),n+d=2000->0<=n->(xm P Z 49 (sX n 1) chM/\xm P Z 49 (sX n 2) chM)/\(xm P Z 51 (sX n 1) chM/\xm P Z 51 (sX n 2) chM):=by
 have al:∀n,xm P Z 49 (sX n 1) chM/\xm P Z 49 (sX n 2) chM->xm P Z 51 (sX n 1) chM/\xm P Z 51 (sX n 2) chM:=λn h=>
  ⟨abo (k':=2) (by kernel_rfl) (by kernel_rfl) (by kernel_rfl) (of_decide_eq_true (by kernel_rfl)) (of_decide_eq_true (by kernel_rfl)) h.2,abo (k':=1) (by kernel_rfl) (by kernel_rfl) (by kernel_rfl) (of_decide_eq_true (by kernel_rfl)) (of_decide_eq_true (by kernel_rfl)) h.1⟩
 intro d
 induction d with
 |zero=>
  intro n hn _;obtain rfl:n=2000:=by omega
  exact⟨⟨nR,nR⟩,al _ ⟨nR,nR⟩⟩
 |succ d ih=>
  intro n hn h0;have h:=(ih (n+1) (by omega) (by omega)).2;have hp:=And.intro (abp (Z:=Z) (n:=n) (k:=1) h0 (by omega) (by kernel_rfl) (by kernel_rfl) (by kernel_rfl) h.1) (abp (Z:=Z) (n:=n) (k:=2) h0 (by omega) (by kernel_rfl) (by kernel_rfl) (by kernel_rfl) h.2);exact⟨hp,al n hp⟩
theorem apl{p q:Addr}{cb:Nat}{n:Int}{x:Value}{anO:List PanicEntry}{w:World}(h1:w.cell? p=some (.pointer (some ⟨cb,0,none⟩)))(hc:w.cell? ⟨cb,1,none⟩=some (.int .i64 n))(h2:w.cell? q=some x)(hz:w.frozen? q=false):
 CallsD P 66 #[.pointer (some p),.pointer (some q)] (.panicking ({v:=.iface 99 (.agg #[]),recovered:=false}::anO)) w λe u' w'=>
  e=.returned (.tuple #[])/\u'=.panicking ({v:=.iface 99 (.agg #[]),recovered:=true}::anO)/\w'=w.setCell q (.int .i64 n):=by
 refine callsD_of_wpS func66 rfl λapm cs hu=> ?_
 repeat apply wpS_seq
 apply wpS_region;simp[wpOpsS,go_sem,recoverD,hu,Exit.thenS];have e0:(#[Value.pointer (some p),Value.pointer (some q)]++((Array.replicate 10 undef).setIfInBounds 1 (Value.iface 99 (Value.agg #[]))).setIfInBounds 0 (Value.iface 99 (Value.agg #[])))= #[.pointer (some p),.pointer (some q),.iface 99 (.agg #[]),.iface 99 (.agg #[]),undef,undef,undef,undef,undef,undef,undef,undef]:=rfl;rw[e0];apply wpS_seq;apply wpS_region;simp[wpOpsS,go_sem,Exit.thenS];refine wpS_cond (t:=true) (by simp[Act.eval]) ?_;simp only[if_true];have hta:∀w,(Instr.typeAssert (.iface 99 (.agg #[])) 20 99 false).run P w=.ok (.agg #[]) w:=λ_=>by kernel_rfl
 apply wpS_region;simp[wpOpsS,go_sem,Exit.thenS,hta];refine wpS_of_wp ?_
 go_wp2
 cases apm;simp_all[bodyPostS,results,Tryz.results66]
theorem idle{p q:Addr}{cb:Nat}{n:Int}{x:Value}{w:World}(h1:w.cell? p=some (.pointer (some ⟨cb,0,none⟩)))(hc:w.cell? ⟨cb,1,none⟩=some (.int .i64 n))(h2:w.cell? q=some x)(hz:w.frozen? q=false):
 CallsD P 66 #[.pointer (some p),.pointer (some q)] .returning w λe u' w'=>e=.returned (.tuple #[])/\u'=.returning/\w'=w.setCell q (.int .i64 n):=by
 refine callsD_of_wpS func66 rfl λapm cs hu=> ?_
 repeat apply wpS_seq
 apply wpS_region;simp[wpOpsS,go_sem,recoverD,hu,Exit.thenS];have e0:(#[Value.pointer (some p),Value.pointer (some q)]++((Array.replicate 10 undef).setIfInBounds 1 Value.nilIface).setIfInBounds 0 Value.nilIface)= #[.pointer (some p),.pointer (some q),.nilIface,.nilIface,undef,undef,undef,undef,undef,undef,undef,undef]:=rfl;rw[e0];apply wpS_seq;apply wpS_region;simp[wpOpsS,go_sem,Exit.thenS];refine wpS_cond (t:=false) (by simp[Act.eval]) ?_;simp only[Bool.false_eq_true,if_false];refine wpS_of_wp ?_
 go_wp2
 refine wpS_of_wp ?_
 go_wp2
 cases apm;simp_all[bodyPostS,results,Tryz.results66]
abbrev wCt(w:World)(dv:Value):World:=((w.alloc (.cells #[.int .i64 0] 3)).alloc (.cells #[dv,.int .i64 0] 97)).alloc (.cells #[.pointer (some ⟨w.heap.size+1,0,none⟩)] 76)
set_option maxRecDepth 100000 in
theorem ac5{g:FuncId}{cap:Array Value}{w:World}{a:Option Addr}{n c:Nat}{k:Int}{R:World->Prop}(hg:di P g=true)
 (hR:∀w',R w'->w'.cell? ⟨w.heap.size,0,none⟩=some (.int .i64 0)/\w'.frozen? ⟨w.heap.size,0,none⟩=false/\w'.cell? ⟨w.heap.size+2,0,none⟩=some (.pointer (some ⟨w.heap.size+1,0,none⟩))/\w'.cell? ⟨w.heap.size+1,1,none⟩=some (.int .i64 k))
 (h:Calls P g (#[.pointer (some ⟨w.heap.size+1,0,none⟩)]++cap) (wCt w (.slice a n c)) λe w'=>(e=.panicked chM\/∃v,e=.returned v)/\R w'):
 Calls P 47 #[.slice a n c,.func (.func g) #[] cap] w λe w'=>∃w1,R w1/\e=.returned (.int .i64 k)/\(w'=w1.setCell ⟨w.heap.size,0,none⟩ (.int .i64 k)\/w'=(w1.setCell ⟨w.heap.size,0,none⟩ (.int .i64 k)).setCell ⟨w.heap.size,0,none⟩ (.int .i64 k)):=by
 have hmf:∀(fn:Fn) (first cap:Array Value) (w:World),(Instr.makeFunc fn first cap).run P w=.ok (.func fn first cap) w:=λ_ _ _ _=>rfl
 go_enter_defers func47,Tryz.ntmps47
 go_wp2
 rw[dW hg];refine h.mono ?_;rintro e w' ⟨he,hw'⟩;have⟨g1,g2,g3,g4⟩:=hR w' hw';rcases he with rfl|⟨v,rfl⟩;dsimp only[Exit.then];refine leaves_cons (f:=66) (args:= #[.pointer (some ⟨w.heap.size+2,0,none⟩),.pointer (some ⟨w.heap.size,0,none⟩)]) (by simp) (by simp[go_sem]) ?_;refine(apl g3 g4 g1 g2).mono ?_;rintro e u' w'' ⟨rfl,rfl,rfl⟩;simp[Leaves,settle,results,Tryz.results47,go_sem,g1,g2];exact⟨w',hw',.inl rfl⟩;dsimp only
 go_wp2
 refine leaves_cons (f:=66) (args:= #[.pointer (some ⟨w.heap.size+2,0,none⟩),.pointer (some ⟨w.heap.size,0,none⟩)]) (by simp) (by simp[go_sem]) ?_;refine(idle (cb:=w.heap.size+1) (n:=k) (x:=.int .i64 k) ?_ ?_ ?_ ?_).mono ?_;refine(World.cell?_setCell_other _ _ _ _ ?_).trans g3;simp;refine(World.cell?_setCell_other _ _ _ _ ?_).trans g4;simp;simp[go_sem,g1];simp[go_sem,g2];rintro e u' w'' ⟨rfl,rfl,rfl⟩;simp[Leaves,settle,results,Tryz.results47,go_sem,g1,g2];exact⟨w',hw',.inr rfl⟩
end Ds
