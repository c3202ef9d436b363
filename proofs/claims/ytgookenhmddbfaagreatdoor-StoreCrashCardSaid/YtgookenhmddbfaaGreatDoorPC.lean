/- Lemmas: SxTy, SxOut, SxFn, SxFnR, SxLoop, SxWrap, SxDen, SxCut, Hd, SxSpec, SxAuto, Lb, SxRange, D0, D2, SxFrz, E1, F0, F1, F2, F3, H0, Hp, L1, L2, L3, L4, L5, L6. -/
import Derived.ProofKit
import Derived.Carry
import Derived.OpenShut
import Derived.Deep.DeepHandedRow
import Derived.JoinedOf
import Derived.Test.YtgookenhmddbfaaGreatDoorRows
import Derived.LaidMore
import Derived.Stop.Joined
import Derived.Lib.Bytealg
import Derived.Maps.RangeRun
import Derived.Test.YtgookenhmddbfaaGreatDoorProg
import Derived.Lib.Walk
import Derived.WalkKit
import Derived.Laws.Externs
import Derived.Test.YtgookenhmddbfaaGreatDoorPB
open Go.Proofs.Tryz
open Go.IntKind (i64 u64 u8)
open Array (getD_eq_getD_getElem? length_toList toList_inj)
open Bool (and_eq_true cond_eq_ite not_eq_true')
open ByteArray (empty ext)
open Int (toNat_natCast)
open List (all_cons all_eq_true append_assoc append_nil cons_append getElem?_append_left getElem?_append_right getElem?_eq_getElem getElem?_eq_none getElem?_map getElem?_set getElem?_take getElem_mem length_append length_cons length_drop length_map length_nil length_set length_take map_append map_cons map_nil mem_append mem_append_right mem_cons mem_cons_of_mem mem_cons_self mem_map mem_range mem_singleton nil_append nodup_append range' replicate sum_cons take_of_length_le)
open Nat (add_assoc add_mul add_zero beq_eq le_of_ble_eq_true le_refl le_trans lt_or_ge zero_le)
open Option (bind_eq_some_iff getD_some isSome_iff_exists map_eq_some_iff map_some)
noncomputable section
namespace Go.Sx
open Go
inductive RK where
 |ah (k:IntKind)|strs|bF|au (cs:List CK)
abbrev RK.E:RK->Type
 |.ah _=>Int|.strs=>ByteArray|.bF=>Bool|.au cs=>CL cs
abbrev RK.V(r:RK):Type:=List r.E
def RK.wm:(r:RK)->r.V->aU
 |.ah k,x=>.ah k x|.strs,x=>.strs x|.bF,x=>.bF x|.au cs,x=>.au cs x
def agj(k:IntKind):aU->Option (List Int)
 |.ah k' zs=>bif bT k' k then some zs else none|.e9 _ 0 _=>some []|_=>none
def agk:aU->Option (List ByteArray)
 |.strs x=>some x|.e9 _ 0 _=>some []|_=>none
def abQ:aU->Option (List Bool)
 |.bF x=>some x|.e9 _ 0 _=>some []|_=>none
def al0(cs:List CK):aU->Option (List (CL cs))
 |.au jZ x=>(CL.eq jZ cs).map λh=>acJ h x|.e9 _ 0 _=>some []|_=>none
def RK.rd:(r:RK)->aU->Option r.V
 |.ah k,c=>agj k c|.strs,c=>agk c|.bF,c=>abQ c|.au cs,c=>al0 cs c
def CK.flat:CK->Bool
 |.int _|.bool|.str|.arr _ _=>true|_=>false
def RK.flat:RK->Bool
 |.au cs=>cs.all CK.flat|_=>true
inductive B where
 |int (k:IntKind)|bool|str|row (r:RK) (e:TypeId)|arr (k:IntKind) (n:Nat)|fn|mL (r:RK) (e:TypeId)
abbrev B.V:B->Type
 |.int _=>Int|.bool=>Bool|.str=>ByteArray|.row r _=>r.V|.arr _ _=>List Int|.fn=>FuncId|.mL r _=>r.V
def B.av:(b:B)->b.V->AV
 |.int k,n=>.s (.int k n)|.bool,x=>.s (.bool x)|.str,x=>.s (.str x)|.row r _,x=>.s (.ro (r.wm x))|.arr k n,x=>.ah k n x|.fn,f=>.s (.rH f)|.mL r _,x=>.s (.ro (r.wm x))
def xO(k:IntKind):List AV->Option (List Int)
 |[]=>some []|.s (.int k' n)::aP=>bif bT k' k then(xO k aP).map (n:: ·)else none|_=>none
def al1(k:IntKind):AV->Option Int
 |.s (.int k' n)=>bif bT k' k then some n else none|_=>none
def agl:AV->Option Bool
 |.s (.bool x)=>some x|_=>none
def al2:AV->Option ByteArray
 |.s (.str x)=>some x|_=>none
def aas(r:RK):AV->Option r.V
 |.emp=>some []|.s (.ro c)=>r.rd c|_=>none
def adu(k:IntKind)(n:Nat):AV->Option (List Int)
 |.ah k' n' ws=>bif bT k' k&&n'.beq n then some ws else none|.agg ay=>bif ay.length.beq n then xO k ay else none|_=>none
def auk:AV->Option FuncId
 |.s (.rH f)=>some f|_=>none
def B.rd:(b:B)->AV->Option b.V
 |.int k,a=>al1 k a|.bool,a=>agl a|.str,a=>al2 a|.row r _,a=>aas r a|.arr k n,a=>adu k n a|.fn,a=>auk a|.mL r _,a=>aas r a
def B.ok:(b:B)->b.V->Prop
 |.row _ _,x=>x.length<=maxLen|.mL _ _,x=>x.length<=maxLen|.arr _ n,x=>List.length (α:=Int) x=n|_,_=>True
inductive Ty where
 |b (x:B)|st (bs:List B)
abbrev BL:List B->Type
 |[]=>Unit|b::bs=>b.V×BL bs
abbrev Ty.V:Ty->Type
 |.b x=>x.V|.st bs=>BL bs
abbrev AL:List Ty->Type
 |[]=>Unit|t::ts=>t.V×AL ts
def BL.av:(bs:List B)->BL bs->List AV
 |[],_=>[]|b::bs,(x,y)=>b.av x::BL.av bs y
def BL.rd:(bs:List B)->List AV->Option (BL bs)
 |[],[]=>some ()|b::bs,a::aP=>match b.rd a,BL.rd bs aP with
  |some x,some y=>some (x,y)|_,_=>none
 |_,_=>none
def BL.ok:(bs:List B)->BL bs->Prop
 |[],_=>True|b::bs,(x,y)=>b.ok x/\BL.ok bs y
def Ty.av:(t:Ty)->t.V->AV
 |.b x,v=>x.av v|.st bs,v=>.agg (BL.av bs v)
def aul(bs:List B):AV->Option (BL bs)
 |.agg ay=>BL.rd bs ay|_=>none
def Ty.rd:(t:Ty)->AV->Option t.V
 |.b x,a=>x.rd a|.st bs,a=>aul bs a
def Ty.ok:(t:Ty)->t.V->Prop
 |.b x,v=>x.ok v|.st bs,v=>BL.ok bs v
def AL.av:(ts:List Ty)->AL ts->List AV
 |[],_=>[]|t::ts,(x,y)=>t.av x::AL.av ts y
def AL.rd:(ts:List Ty)->List AV->Option (AL ts)
 |[],[]=>some ()|t::ts,a::aP=>match t.rd a,AL.rd ts aP with
  |some x,some y=>some (x,y)|_,_=>none
 |_,_=>none
def AL.ok:(ts:List Ty)->AL ts->Prop
 |[],_=>True|t::ts,(x,y)=>t.ok x/\AL.ok ts y
section
variable{g:Nat->Option Nat}{ρ aL:Nat->Value}{H H':aS}{G O O':Nat->Prop}{w w':World}{P:Program}{S:fG}{Z:bh}{X:Ctx}{s:St}{a:Act}{K:List ak->AV->Prop}{C:bP->Prop}
theorem nr{c c':aU}{v:Value}(hn:c'.n=c.n)(hs:c'.size=c.size)(hc:∀i j,i<c.n->j<c.size->c'.cell i j=c.cell i j)(h:aW O w (.ro c) v):aW O w (.ro c') v:=by
 cases h with
 |ro _ a cap us b o h1 h2 h3 h4 h5=>
  rw[<-hn];refine .ro c' a cap us b o (by omega) h2 (λh=>h3 (by omega)) (λi j hi hj=> ?_) (λi j hi hj=> ?_);rw[hs];exact h4 i j (by omega) (by omega);rw[hc i j (by omega) (by omega)];exact h5 i j (by omega) (by omega)
theorem RK.o9{r:RK}{c:aU}{x:r.V}(h:r.rd c=some x){v:Value}(hd:aW O w (.ro c) v):aW O w (.ro (r.wm x)) v:=by
 cases r
 case ah k=>
  change agj k c=some x at h;unfold agj at h;split at h;rw[cond_eq_ite]at h;split at h;rename_i hk;obtain rfl:=bt hk;simp only[Option.some.injEq]at h;subst h;exact hd;cases h;cases h;exact fV (by rfl) (by rfl) hd;cases h
 case au cs=>
  change al0 cs c=some x at h;unfold al0 at h;split at h;have⟨⟨e⟩,_,h2⟩:=map_eq_some_iff.1 h;subst e;rw[zZ]at h2;subst h2;exact hd;cases h;exact fV (by rfl) (by rfl) hd;cases h
 case strs=>change agk c=some x at h;unfold agk at h;split at h<;>cases h;exact hd;exact fV (by rfl) (by rfl) hd
 case bF=>change abQ c=some x at h;unfold abQ at h;split at h<;>cases h;exact hd;exact fV (by rfl) (by rfl) hd
theorem ahL{r:RK}{v:Value}(h:∃a,v=.slice a 0 0):aW O w (.ro (r.wm [])) v:=by
 obtain⟨a,rfl⟩:=h;have hn:(r.wm []).n=0:=by cases r<;>rfl
 have:=aW.ro (O:=O) (w:=w) (r.wm []) a 0 (λ_ _=>undef) 0 0 (by omega) (zero_le _) (λh=>by omega) (λi j hi hj=>by omega) (λi j hi hj=>by omega);rwa[hn]at this
theorem aat{k:IntKind}:∀{aP:List AV} {zs:List Int} {cs:List Value},xO k aP=some zs->az ρ H O w aP cs->zs.length=aP.length/\cs=zs.map (Value.int k)
 |[],zs,cs,h,hd=>by simp only[xO,Option.some.injEq]at h;subst h;exact⟨rfl,aC.1 hd⟩
 |a::aP,zs,cs,h,hd=>by
  unfold xO at h;split at h;rename_i heq;cases heq;rename_i k' n dM heq;simp only[List.cons.injEq]at heq;obtain⟨rfl,rfl⟩:=heq;rw[cond_eq_ite]at h;split at h;rename_i hk;obtain rfl:=bt hk;simp only[map_eq_some_iff]at h;obtain⟨zs',h1,rfl⟩:=h;obtain⟨c1,c2,rfl,h2,h3⟩:=ag.1 hd;obtain⟨h4,rfl⟩:=aat h1 h3;unfold aQ at h2;obtain⟨u,rfl,h5⟩:=h2;cases h5;exact⟨by simp[h4],rfl⟩;cases h;cases h
theorem adv{k:IntKind}{a:AV}{n:Int}(h:al1 k a=some n):a=.s (.int k n):=by
 unfold al1 at h;split at h;rw[cond_eq_ite]at h;split at h;rename_i hk;obtain rfl:=bt hk;cases h;rfl;cases h;cases h
theorem aau{a:AV}{x:Bool}(h:agl a=some x):a=.s (.bool x):=by
 unfold agl at h;split at h<;>cases h;rfl
theorem adw{a:AV}{x:ByteArray}(h:al2 a=some x):a=.s (.str x):=by
 unfold al2 at h;split at h<;>cases h;rfl
theorem ahM{a:AV}{x:FuncId}(h:auk a=some x):a=.s (.rH x):=by
 unfold auk at h;split at h<;>cases h;rfl
theorem ahN{r:RK}{a:AV}{x:r.V}{v:Value}(h:aas r a=some x)(hd:af ρ H O w a v):af aL H' O w (.s (.ro (r.wm x))) v:=by
 unfold aas at h;split at h;cases h;unfold af at hd;exact aE (ahL hd);exact aE (RK.o9 h (ax (by simp) hd));cases h
theorem ahO{r:RK}{a:AV}{x:r.V}{cs:List Value}(h:aas r a=some x)(hd:aQ ρ H O w a cs):aQ aL H' O w (.s (.ro (r.wm x))) cs:=by
 unfold aas at h;split at h;cases h;unfold aQ at *;obtain⟨u,rfl,h1⟩:=hd;exact⟨u,rfl,ahL h1⟩;unfold aQ at *;obtain⟨u,rfl,h1⟩:=hd;exact⟨u,rfl,RK.o9 h h1⟩;cases h
theorem B.rdV{b:B}{a:AV}{x:b.V}{v:Value}(h:b.rd a=some x)(hd:af ρ H O w a v):af aL H' O w (b.av x) v:=by
 cases b with
 |int k=>rw[adv h]at hd;exact aE (ax (by simp) hd)
 |bool=>rw[aau h]at hd;exact aE (ax (by simp) hd)
 |str=>rw[adw h]at hd;exact aE (ax (by simp) hd)
 |fn=>rw[ahM h]at hd;exact aE (ax (by simp) hd)
 |row r e=>exact ahN h hd|mL r e=>exact ahN h hd|arr k n=>
  change adu k n a=some x at h;unfold adu at h;split at h;rw[cond_eq_ite]at h;split at h;rename_i hk;simp only[and_eq_true]at hk;obtain rfl:=bt hk.1;obtain rfl:=Nat.eq_of_beq_eq_true hk.2;cases h;unfold af at *;exact hd;cases h;rw[cond_eq_ite]at h;split at h;rename_i ay hk;unfold af at hd;obtain⟨cs,rfl,h2⟩:=hd;obtain⟨h3,rfl⟩:=aat h h2;show af aL H' O w (.ah k n x) _;unfold af;exact⟨by rw[h3];exact Nat.eq_of_beq_eq_true hk,rfl⟩;cases h;cases h
theorem B.rdC{b:B}{a:AV}{x:b.V}{cs:List Value}(h:b.rd a=some x)(hd:aQ ρ H O w a cs):aQ aL H' O w (b.av x) cs:=by
 cases b with
 |int k=>rw[adv h]at hd;unfold aQ at hd;show aQ _ _ _ _ (.s (.int k x)) _;unfold aQ;exact hd|bool=>rw[aau h]at hd;unfold aQ at hd;show aQ _ _ _ _ (.s (.bool x)) _;unfold aQ;exact hd|str=>rw[adw h]at hd;unfold aQ at hd;show aQ _ _ _ _ (.s (.str x)) _;unfold aQ;exact hd|fn=>rw[ahM h]at hd;unfold aQ at hd;show aQ _ _ _ _ (.s (.rH x)) _;unfold aQ;exact hd|row r e=>exact ahO h hd|mL r e=>exact ahO h hd|arr k n=>
  change adu k n a=some x at h;unfold adu at h;split at h;rw[cond_eq_ite]at h;split at h;rename_i hk;simp only[and_eq_true]at hk;obtain rfl:=bt hk.1;obtain rfl:=Nat.eq_of_beq_eq_true hk.2;cases h;show aQ _ _ _ _ (.ah _ _ _) _;unfold aQ at *;exact hd;cases h;unfold aQ at hd;exact hd.elim;cases h
theorem BL.o9:∀{bs:List B} {ay:List AV} {x:BL bs} {cs:List Value},BL.rd bs ay=some x->az ρ H O w ay cs->az aL H' O w (BL.av bs x) cs
 |[],[],x,cs,h,hd=>by rw[aC.1 hd];exact aC.2 rfl
 |[],a::aP,x,cs,h,hd=>by simp[BL.rd]at h
 |b::bs,[],x,cs,h,hd=>by simp[BL.rd]at h
 |b::bs,a::aP,x,cs,h,hd=>by
  unfold BL.rd at h;split at h;rename_i y z h1 h2;cases h;obtain⟨c1,c2,rfl,h3,h4⟩:=ag.1 hd;exact ag.2 ⟨c1,c2,rfl,B.rdC h1 h3,BL.o9 h2 h4⟩;cases h
theorem Ty.o9{t:Ty}{a:AV}{x:t.V}{v:Value}(h:t.rd a=some x)(hd:af ρ H O w a v):af aL H' O w (t.av x) v:=by
 cases t with
 |b y=>exact B.rdV h hd|st bs=>
  change aul bs a=some x at h;unfold aul at h;split at h;show af _ _ _ _ (.agg _) _;unfold af at *;have⟨cs,h1,h2⟩:=hd;exact⟨cs,h1,BL.o9 h h2⟩;cases h
theorem AL.o9:∀{ts:List Ty} {aP:List AV} {x:AL ts} {vs:List Value},AL.rd ts aP=some x->bL ρ H O w aP vs->bL aL H' O w (AL.av ts x) vs
 |[],[],x,vs,h,hd=>by rw[a8.1 hd];exact a8.2 rfl
 |[],a::aP,x,vs,h,hd=>by simp[AL.rd]at h
 |t::ts,[],x,vs,h,hd=>by simp[AL.rd]at h
 |t::ts,a::aP,x,vs,h,hd=>by
  unfold AL.rd at h;split at h;rename_i y z h1 h2;cases h;obtain⟨v,rest,rfl,h3,h4⟩:=aD.1 hd;exact aD.2 ⟨v,rest,rfl,Ty.o9 h1 h3,AL.o9 h2 h4⟩;cases h
theorem wo{r:RK}{x:r.V}{v:Value}(h:aW O w (.ro (r.wm x)) v):List.length x<=maxLen:=by
 generalize hc:r.wm x=c at h;cases h with
 |ro _ a cap us bb o h1 h2 _ _ _=>
  have:(r.wm x).n=x.length:=by cases r<;>rfl
  rw[<-hc]at h1;omega
theorem B.okV{b:B}{x:b.V}{v:Value}(hd:af ρ H O w (b.av x) v):b.ok x:=by
 cases b with
 |row r e=>exact wo (ax (by simp) hd)
 |mL r e=>exact wo (ax (by simp) hd)
 |arr k n=>change af ρ H O w (.ah k n x) v at hd;unfold af at hd;exact hd.1|_=>trivial
theorem B.vA{b:B}{x:b.V}{cs:List Value}(hd:aQ ρ H O w (b.av x) cs):b.ok x:=by
 cases b with
 |row r e=>
  change aQ ρ H O w (.s (.ro (r.wm x))) cs at hd;unfold aQ at hd;have⟨u,_,h⟩:=hd;exact wo h
 |mL r e=>
  change aQ ρ H O w (.s (.ro (r.wm x))) cs at hd;unfold aQ at hd;have⟨u,_,h⟩:=hd;exact wo h
 |arr k n=>change aQ ρ H O w (.ah k n x) cs at hd;unfold aQ at hd;exact hd.1|_=>trivial
theorem BL.okS:∀{bs:List B} {x:BL bs} {cs:List Value},az ρ H O w (BL.av bs x) cs->BL.ok bs x
 |[],x,cs,h=>trivial|b::bs,(x,y),cs,h=>by
  obtain⟨c1,c2,rfl,h3,h4⟩:=ag.1 h;exact⟨B.vA h3,BL.okS h4⟩
theorem Ty.okV{t:Ty}{x:t.V}{v:Value}(hd:af ρ H O w (t.av x) v):t.ok x:=by
 cases t with
 |b y=>exact B.okV hd|st bs=>
  change af ρ H O w (.agg (BL.av bs x)) v at hd;unfold af at hd;have⟨cs,_,h⟩:=hd;exact BL.okS h
theorem AL.okL:∀{ts:List Ty} {x:AL ts} {vs:List Value},bL ρ H O w (AL.av ts x) vs->AL.ok ts x
 |[],x,vs,h=>trivial|t::ts,(x,y),vs,h=>by
  obtain⟨v,rest,rfl,h3,h4⟩:=aD.1 h;exact⟨Ty.okV h3,AL.okL h4⟩
end
def nt(ces:List (Bool×aU×TypeId))(L:List ak)(a:AV):AV×List ak×List (Bool×aU×TypeId):=
 match a with
 |.emp=>match ces with
  |(ro,c,e)::r=>bif c.n.beq 0 then(bif ro then(.s (.ro c),L,r)else(.vec L.length,L++[.vec c e],r))else(.emp,L,r)|[]=>(.emp,L,[])
 |.vec id=>match ces with
  |(true,_,_)::r=>(match L[id]? with
   |some (.vec c _)=>(.s (.ro c),L.set id .aw,r)|_=>(.vec id,L,r))
  |_=>(.vec id,L,ces.tail)
 |.s (.ro c)=>(.s (.ro c),L,ces.tail)|.part id lo n=>(match L[id]? with
  |some (.vec c e)=>(.vec L.length,L.set id .aw++[.vec (dS c lo (lo+n)) e],ces.tail)|_=>(.part id lo n,L,ces.tail))
 |a=>(a,L,ces)
def uk(f:List (Bool×aU×TypeId)->List ak->AV->AV×List ak×List (Bool×aU×TypeId)):List (Bool×aU×TypeId)->List ak->List AV->List AV×List ak×List (Bool×aU×TypeId)
 |ces,L,[]=>([],L,ces)|ces,L,a::aP=>let p:=f ces L a;let q:=uk f p.2.2 p.2.1 aP;(p.1::q.1,q.2.1,q.2.2)
def sg(ces:List (Bool×aU×TypeId))(L:List ak)(a:AV):AV×List ak×List (Bool×aU×TypeId):=
 match a with
 |.agg ay=>let q:=uk nt ces L ay;(.agg q.1,q.2.1,q.2.2)|a=>nt ces L a
def agm(ces:List (Bool×aU×TypeId))(L:List ak)(a:AV):AV×List ak:=
 match a with
 |.bq vs=>let q:=uk sg ces L vs;(.bq q.1,q.2.1)|a=>let q:=sg ces L a;(q.1,q.2.1)
def apP(ces:List (Bool×aU×TypeId))(L:List ak)(r:AV):Option (List ak×AV):=
 let p:=agm ces L r;let σ:=reach p.2 4000 (ahJ 20 p.1) []
 bif ui σ then
  match r8 σ p.2,rn (idx σ) 20 p.1 with
  |some L',some r'=>some (L',r')|_,_=>none
 else none
section
variable{g:Nat->Option Nat}{ρ aL:Nat->Value}{H H':aS}{G O O':Nat->Prop}{w w':World}{P:Program}{S:fG}{Z:bh}{X:Ctx}{s:St}{a:Act}{K:List ak->AV->Prop}{C:bP->Prop}{L:List ak}
abbrev lk(L:List ak):aS:=λi=>L[i]?
abbrev stp(ρ:Nat->Value)(L:List ak)(G:Nat->Prop)(w:World)(aL:Nat->Value)(L':List ak):Prop:=Step ρ (lk L) (aV ρ (lk L) G) w aL (lk L') (aV aL (lk L') G) w
theorem ext1(hs:Sat ρ (lk L) G w){c:aU}(hc:c.n=0)(e:TypeId)(r:Option Addr):∃aL,Sat aL (lk (L++[.vec c e])) G w/\stp ρ L G w aL (L++[.vec c e])/\∀O,aN aL (lk (L++[.vec c e])) O w (.vec L.length) (.slice r 0 0):=by
 have mj:eW (.slice r 0 0)=none:=by cases r<;>simp[eW]
 let aL:Nat->Value:=λj=>if j=L.length then .slice r 0 0 else ρ j
 have st:stp ρ L G w aL (L++[.vec c e]):=Step.alloc mj
 have old:∀{id:Nat} {o:ak},(L++[.vec c e])[id]? =some o->(id=L.length/\o=.vec c e)\/(id≠L.length/\L[id]? =some o):=by
  intro id o ho;have h2:=(List.getElem?_eq_some_iff.1 ho).1;simp only[length_append,length_cons,length_nil]at h2;by_cases dq:id=L.length;subst dq;simp at ho;exact .inl ⟨rfl,ho.symm⟩;refine .inr ⟨dq, ?_⟩;rwa[getElem?_append_left (by omega)]at ho
 have ei:∀b,Own aL (lk (L++[.vec c e])) b->Own ρ (lk L) b:=by
  rintro b ⟨id,o,ho,ha,hb⟩;rcases old ho with⟨h1,h2⟩|⟨h1,h2⟩;simp only[aL,h1,if_true]at hb;rw[mj]at hb;cases hb;simp only[aL,h1,if_false]at hb;exact⟨id,o,h2,ha,hb⟩
 refine⟨aL,⟨λid o ho=> ?_,λi j oi oj b hi hj ai aj bi bj=> ?_,λb hb=>hs.apart b (ei b hb),hs.low⟩,st,λO=> ?_⟩;rcases old ho with⟨h1,h2⟩|⟨h1,h2⟩;subst h2;simp only[aL,h1,if_true];exact⟨r,0,by rw[hc],by omega,zero_le _,.inl rfl⟩;simp only[aL,h1,if_false];exact(hs.obj id o h2).step st (λ_ _ _=>rfl);rcases old hi with⟨h1,h2⟩|⟨h1,h2⟩;simp only[aL,h1,if_true]at bi;rw[mj]at bi;cases bi;rcases old hj with⟨h3,h4⟩|⟨h3,h4⟩;simp only[aL,h3,if_true]at bj;rw[mj]at bj;cases bj;simp only[aL,h1,if_false]at bi;simp only[aL,h3,if_false]at bj;exact hs.inj i j oi oj b h2 h4 ai aj bi bj;unfold aN;exact⟨rfl,.vec c e,by simp[lk],λc' e' _=>(if_pos rfl).symm⟩
theorem al3{c:aU}(hc:c.n=0)(r:Option Addr):aW O w (.ro c) (.slice r 0 0):=by
 have:=aW.ro (O:=O) (w:=w) c r 0 (λ_ _=>undef) 0 0 (by omega) (zero_le _) (λh=>by omega) (λi j hi hj=>by omega) (λi j hi hj=>by omega);rwa[hc]at this
theorem apQ(hs:Sat ρ (lk L) G w){id:Nat}{c:aU}{e:TypeId}(dq:L[id]? =some (.vec c e)):
 Sat ρ (lk (L.set id .aw)) G w/\stp ρ L G w ρ (L.set id .aw)/\aW (aV ρ (lk (L.set id .aw)) G) w (.ro c) (ρ id):=by
 have bo:id<L.length:=(List.getElem?_eq_some_iff.1 dq).1
 have old:∀{k:Nat} {o:ak},(L.set id .aw)[k]? =some o->(k=id/\o=.aw)\/(k≠id/\L[k]? =some o):=by
  intro k o ho;rw[getElem?_set]at ho;split at ho;rename_i hk
  first
   |exact .inl ⟨hk.symm,by simpa using ho.symm⟩
   |(rw[if_pos bo]at ho;exact .inl ⟨hk.symm,by simpa using ho.symm⟩)
  rename_i hk;exact .inr ⟨Ne.symm hk,ho⟩
 have ei:∀b,Own ρ (lk (L.set id .aw)) b->Own ρ (lk L) b/\eW (ρ id)≠some b:=by
  rintro b ⟨k,o,ho,ha,hb⟩;rcases old ho with⟨_,rfl⟩|⟨h1,h2⟩;cases ha;refine⟨⟨k,o,h2,ha,hb⟩,λhb2=>h1 (hs.inj k id o _ b h2 dq ha rfl hb hb2)⟩
 have st:stp ρ L G w ρ (L.set id .aw):=by
  refine⟨λ_ _ _=>rfl,λk o ho=> ?_,λb hb=>.inl ?_,λ_ _ _=>rfl,le_refl _⟩;by_cases hk:k=id;subst hk;exact⟨.aw,by show(L.set k .aw)[k]? =_;rw[List.getElem?_set_self bo],λc' e' hc=>by cases hc⟩;exact⟨o,by show(L.set id .aw)[k]? =_;rw[List.getElem?_set_ne (Ne.symm hk)];exact ho,λc' e' hc=>⟨c',e',hc,rfl,rfl⟩⟩;rcases hb with hb|hb;exact .inl (ei b hb).1;exact .inr hb
 refine⟨⟨λk o ho=> ?_,λi j oi oj b hi hj ai aj bi bj=> ?_,λb hb=>hs.apart b (ei b hb).1,hs.low⟩,st, ?_⟩;rcases old ho with⟨_,rfl⟩|⟨h1,h2⟩;trivial;exact(hs.obj k o h2).step st (λ_ _ _=>rfl);rcases old hi with⟨_,rfl⟩|⟨h1,h2⟩;cases ai;rcases old hj with⟨_,rfl⟩|⟨h3,h4⟩;cases aj;exact hs.inj i j oi oj b h2 h4 ai aj bi bj;have⟨r,cap,h0,h1,h2,h3⟩:=hs.obj id _ dq;rcases h3 with h3|⟨b,f,cells,fr,us,rfl,h5,h6,h7,h8⟩;rw[h0];have hc:c.n=0:=by omega
 exact .ro c r cap (λ_ _=>undef) 0 0 h1 h2 (λh=>by omega) (λi j hi hj=>by omega) (λi j hi hj=>by omega);by_cases zv:cap=0;rw[h0];exact .ro c _ cap (λ_ _=>undef) 0 0 h1 h2 (λh=>by omega) (λi j hi hj=>by omega) (λi j hi hj=>by omega);have mj:eW (ρ id)=some b:=by rw[h0];simp[eW,zv]
 have aav:¬aV ρ (lk (L.set id .aw)) G b:=by
  rintro(hb|hb);exact(ei b hb).2 mj;exact hs.apart b ⟨id,_,dq,rfl,mj⟩ hb
 rw[h0];refine .ro c _ cap us b f h1 h2 (λ_=>⟨rfl,aav,(Array.getElem?_eq_some_iff.1 h5).1⟩) (λi j hi hj=> ?_) (λi j hi hj=>(h8 i j hi hj).2.less (λb hb=> ?_));have:=(h8 i j hi hj).1;simp only[World.cell?,h5];simpa using this;rcases hb with hb|hb;exact .inl (ei b hb).1;exact .inr hb
theorem ahP(hs:Sat ρ (lk L) G w){id lo n:Nat}{c:aU}{e:TypeId}{v:Value}(dq:L[id]? =some (.vec c e))(hv:af ρ (lk L) (aV ρ (lk L) G) w (.part id lo n) v):
 ∃aL,Sat aL (lk (L.set id .aw++[.vec (dS c lo (lo+n)) e])) G w/\stp ρ L G w aL (L.set id .aw++[.vec (dS c lo (lo+n)) e])/\∀O,aN aL (lk (L.set id .aw++[.vec (dS c lo (lo+n)) e])) O w (.vec L.length) v:=by
 obtain⟨g0,a,cap,a',g1,g2,g3,rfl,g4,g5⟩:=jA hs dq hv;have bo:id<L.length:=(List.getElem?_eq_some_iff.1 dq).1;generalize hx:ak.vec (dS c lo (lo+n)) e=x;have hxa:x.alive=true:=by rw[<-hx];rfl
 have old:∀{k:Nat} {o:ak},(L.set id .aw++[x])[k]? =some o->(k=L.length/\o=x)\/(k=id/\o=.aw)\/(k≠id/\k≠L.length/\L[k]? =some o):=by
  intro k o ho;have h2:=(List.getElem?_eq_some_iff.1 ho).1;simp only[length_append,length_set,length_cons,length_nil]at h2;by_cases hk:k=L.length;subst hk;rw[getElem?_append_right (by simp)]at ho;simp at ho;exact .inl ⟨rfl,ho.symm⟩;rw[getElem?_append_left (by simp;omega),getElem?_set]at ho;split at ho;rename_i vg
  first
   |exact .inr (.inl ⟨vg.symm,by simpa using ho.symm⟩)
   |(rw[if_pos bo]at ho;exact .inr (.inl ⟨vg.symm,by simpa using ho.symm⟩))
  rename_i vg;exact .inr (.inr ⟨Ne.symm vg,hk,ho⟩)
 have new:∀{k:Nat} {o:ak},L[k]? =some o->k≠id->(L.set id .aw++[x])[k]? =some o:=by
  intro k o ho hk;have h1:=(List.getElem?_eq_some_iff.1 ho).1;rw[getElem?_append_left (by simpa using h1),List.getElem?_set_ne (Ne.symm hk)];exact ho
 have al4:(L.set id .aw++[x])[id]? =some .aw:=by
  rw[getElem?_append_left (by simpa using bo),List.getElem?_set_self bo]
 have awY:(L.set id .aw++[x])[L.length]? =some x:=by
  rw[getElem?_append_right (by simp)];simp
 have rS:∀b,eW (.slice a' n (cap - lo))=some b->eW (ρ id)=some b:=by
  intro b hb;cases a' with
  |none=>simp[eW]at hb|some y=>
   simp only[eW]at hb;split at hb;cases hb;rename_i cP;obtain⟨b',o,rfl⟩:=g5 (by omega);have:=g4 (by omega);simp only[map_some,bc,Option.some.injEq]at this hb;subst this;rw[g1];simp only[eW];rw[if_neg (by omega)];exact congrArg some hb
 let aL:Nat->Value:=λj=>if j=L.length then .slice a' n (cap - lo)else ρ j
 have ei:∀b,Own aL (lk (L.set id .aw++[x])) b->Own ρ (lk L) b:=by
  rintro b ⟨k,o,ho,ha,hb⟩;rcases old ho with⟨h1,h2⟩|⟨h1,h2⟩|⟨h1,h2,h3⟩;simp only[aL,h1,if_true]at hb;exact⟨id,_,dq,rfl,rS b hb⟩;subst h2;cases ha;simp only[aL,h2,if_false]at hb;exact⟨k,o,h3,ha,hb⟩
 have st:stp ρ L G w aL (L.set id .aw++[x]):=by
  refine⟨λk o ho=> ?_,λk o ho=> ?_,λb hb=>.inl ?_,λ_ _ _=>rfl,le_refl _⟩;have h1:k<L.length:=(List.getElem?_eq_some_iff.1 ho).1;simp only[aL];rw[if_neg (by omega)];by_cases hk:k=id;subst hk;exact⟨.aw,al4,λc' e' hc=>by cases hc⟩;exact⟨o,new ho hk,λc' e' hc=>⟨c',e',hc,rfl,rfl⟩⟩;rcases hb with hb|hb;exact .inl (ei b hb);exact .inr hb
 refine⟨aL,⟨λk o ho=> ?_,λi j oi oj b hi hj ai aj bi bj=> ?_,λb hb=>hs.apart b (ei b hb),hs.low⟩,st,λO=> ?_⟩;rcases old ho with⟨h1,h2⟩|⟨h1,h2⟩|⟨h1,h2,h3⟩;rw[h2];have rD:=st;simp only[aL,h1,if_true];rw[<-hx]at rD ⊢;have hn:(dS c lo (lo+n)).n=n:=by rw[pL c (by omega) g0];omega
 have bU:=kf c lo (lo+n);refine⟨a',cap - lo,by rw[hn],by rw[hn];omega,by omega, ?_⟩;have⟨a2,qT,k1,k2,k3,k4⟩:=hs.obj id _ dq;rw[g1]at k1;cases k1;by_cases hc:cap=lo;exact .inl (by omega);rcases k4 with k4|⟨b,o,cells,fr,us,rfl,h5,h6,h7,h8⟩;omega;refine .inr ⟨b,o+lo*c.size,cells,fr,λi j=>us (lo+i) j,by rw[g4 hc];simp[bc],h5,h6, ?_,λi j hi hj=> ?_⟩;rw[bU];have:lo*c.size+(cap - lo)*c.size=cap*c.size:=by rw[<-add_mul];congr 1;omega
 omega;rw[hn]at hi;rw[bU]at hj ⊢;have⟨h9,vQ⟩:=h8 (lo+i) j (by omega) hj;refine⟨?_,by rw[kg c j (by omega)];exact vQ.step rD.gq rD.heap rD.size⟩;rw[show o+lo*c.size+i*c.size+j=o+(lo+i)*c.size+j from by rw[add_mul];omega];exact h9;subst h2;trivial;simp only[aL,h2,if_false];exact(hs.obj k o h3).step st (λ_ _ _=>rfl)
 have cls:∀{k:Nat} {o:ak},(L.set id .aw++[x])[k]? =some o->o.alive=true->eW (aL k)=some b->(k=L.length/\eW (ρ id)=some b)\/(k≠id/\k≠L.length/\L[k]? =some o/\eW (ρ k)=some b):=by
  intro k o ho ha hb;rcases old ho with⟨h1,h2⟩|⟨h1,h2⟩|⟨h1,h2,h3⟩;simp only[aL,h1,if_true]at hb;exact .inl ⟨h1,rS b hb⟩;subst h2;cases ha;simp only[aL,h2,if_false]at hb;exact .inr ⟨h1,h2,h3,hb⟩
 rcases cls hi ai bi with⟨h1,h2⟩|⟨h1,h2,h3,h4⟩<;>rcases cls hj aj bj with⟨k1,k2⟩|⟨k1,k2,k3,k4⟩;rw[h1,k1];exact absurd (hs.inj j id oj _ b k3 dq aj rfl k4 h2) k1;exact absurd (hs.inj i id oi _ b h3 dq ai rfl h4 k2) h1;exact hs.inj i j oi oj b h3 k3 ai aj h4 k4;unfold aN;refine⟨rfl,x,awY,λc' e' _=> ?_⟩;simp only[aL,if_true]
theorem ahQ{ces:List (Bool×aU×TypeId)}{a:AV}(hs:Sat ρ (lk L) G w):
 (∀v,af ρ (lk L) (aV ρ (lk L) G) w a v→∃aL,Sat aL (lk (nt ces L a).2.1) G w∧stp ρ L G w aL (nt ces L a).2.1∧af aL (lk (nt ces L a).2.1) (aV aL (lk (nt ces L a).2.1) G) w (nt ces L a).1 v)∧
 (∀cs,aQ ρ (lk L) (aV ρ (lk L) G) w a cs→∃aL,Sat aL (lk (nt ces L a).2.1) G w∧stp ρ L G w aL (nt ces L a).2.1∧aQ aL (lk (nt ces L a).2.1) (aV aL (lk (nt ces L a).2.1) G) w (nt ces L a).1 cs):=by
 have same:∀a,(∀v,af ρ (lk L) (aV ρ (lk L) G) w a v→∃aL,Sat aL (lk L) G w∧stp ρ L G w aL L∧af aL (lk L) (aV aL (lk L) G) w a v)∧(∀cs,aQ ρ (lk L) (aV ρ (lk L) G) w a cs→∃aL,Sat aL (lk L) G w∧stp ρ L G w aL L∧aQ aL (lk L) (aV aL (lk L) G) w a cs):=
  fun a=>⟨fun v h=>⟨ρ,hs,Step.refl _ _ _ _,h⟩,fun cs h=>⟨ρ,hs,Step.refl _ _ _ _,h⟩⟩
 unfold nt;split;split;rename_i ro c e r;cases hc:c.n.beq 0;exact same _;have hc:=Nat.eq_of_beq_eq_true hc;cases ro;refine⟨fun v h=> ?_,fun cs h=> ?_⟩;unfold af at h;obtain⟨x,rfl⟩:=h;obtain⟨aL,h1,h2,h3⟩:=ext1 hs hc e x;exact⟨aL,h1,h2,by simp only[cond_true,cond_false];unfold af;exact h3 _⟩;unfold aQ at h;obtain⟨u,rfl,x,rfl⟩:=h;obtain⟨aL,h1,h2,h3⟩:=ext1 hs hc e x;exact⟨aL,h1,h2,by simp only[cond_true,cond_false];unfold aQ;exact⟨_,rfl,h3 _⟩⟩;refine⟨fun v h=> ?_,fun cs h=> ?_⟩;unfold af at h;obtain⟨x,rfl⟩:=h;exact⟨ρ,hs,Step.refl _ _ _ _,aE (al3 hc x)⟩;unfold aQ at h;obtain⟨u,rfl,x,rfl⟩:=h;exact⟨ρ,hs,Step.refl _ _ _ _,by simp only[cond_true];unfold aQ;exact⟨_,rfl,al3 hc x⟩⟩;exact same _;rename_i id;split;split;rename_i c e dq;obtain⟨f1,f2,f3⟩:=apQ hs dq
 have key:∀v,aN ρ (lk L) (aV ρ (lk L) G) w (.vec id) v→v=ρ id:=by
  intro v hv;unfold aN at hv;obtain⟨_,o,ho,h4⟩:=hv;rw[show lk L id=some (.vec c e)from dq]at ho;cases ho;exact h4 c e rfl
 refine⟨fun v h=>⟨ρ,f1,f2, ?_⟩,fun cs h=>⟨ρ,f1,f2, ?_⟩⟩;unfold af at h;rw[key v h];exact aE f3;unfold aQ at h;obtain⟨u,rfl,h5⟩:=h;unfold aQ;exact⟨u,rfl,by rw[key u h5];exact f3⟩;exact same _;exact same _;exact same _;rename_i id lo n;split;rename_i c e dq;refine⟨fun v h=> ?_,fun cs h=> ?_⟩;obtain⟨aL,h1,h2,h3⟩:=ahP hs dq h;exact⟨aL,h1,h2,by unfold af;exact h3 _⟩;unfold aQ at h;obtain⟨u,rfl,h5⟩:=h;obtain⟨aL,h1,h2,h3⟩:=ahP hs dq (by unfold af;exact h5);exact⟨aL,h1,h2,by unfold aQ;exact⟨u,rfl,h3 _⟩⟩;exact same _;exact same _
theorem xP:∀(aP:List AV) {ces:List (Bool×aU×TypeId)} {L:List ak} {ρ:Nat->Value} {cs:List Value},Sat ρ (lk L) G w->az ρ (lk L) (aV ρ (lk L) G) w aP cs->
 ∃aL,Sat aL (lk (uk nt ces L aP).2.1) G w/\stp ρ L G w aL (uk nt ces L aP).2.1/\az aL (lk (uk nt ces L aP).2.1) (aV aL (lk (uk nt ces L aP).2.1) G) w (uk nt ces L aP).1 cs
 |[],ces,L,ρ,cs,hs,hd=>⟨ρ,hs,Step.refl _ _ _ _,hd⟩|a::aP,ces,L,ρ,cs,hs,hd=>by
  obtain⟨c1,c2,rfl,h1,h2⟩:=ag.1 hd;have⟨jG,h3,h4,h5⟩:=(ahQ (ces:=ces) hs).2 c1 h1;have⟨gw,h6,h7,h8⟩:=xP aP (ces:=(nt ces L a).2.2) h3 (az.step h4 aP c2 h2);exact⟨gw,h6,h4.trans h7,ag.2 ⟨c1,c2,rfl,aQ.step h7 _ _ h5,h8⟩⟩
theorem ahR{ces:List (Bool×aU×TypeId)}{a:AV}{v:Value}(hs:Sat ρ (lk L) G w)(hd:af ρ (lk L) (aV ρ (lk L) G) w a v):
 ∃aL,Sat aL (lk (sg ces L a).2.1) G w/\stp ρ L G w aL (sg ces L a).2.1/\af aL (lk (sg ces L a).2.1) (aV aL (lk (sg ces L a).2.1) G) w (sg ces L a).1 v:=by
 unfold sg;split;rename_i ay;unfold af at hd;have⟨cs,h1,h2⟩:=hd;have⟨aL,h3,h4,h5⟩:=xP ay (ces:=ces) hs h2;exact⟨aL,h3,h4,by unfold af;exact⟨cs,h1,h5⟩⟩;exact(ahQ hs).1 v hd
theorem xQ:∀(aP:List AV) {ces:List (Bool×aU×TypeId)} {L:List ak} {ρ:Nat->Value} {vs:List Value},Sat ρ (lk L) G w->bL ρ (lk L) (aV ρ (lk L) G) w aP vs->
 ∃aL,Sat aL (lk (uk sg ces L aP).2.1) G w/\stp ρ L G w aL (uk sg ces L aP).2.1/\bL aL (lk (uk sg ces L aP).2.1) (aV aL (lk (uk sg ces L aP).2.1) G) w (uk sg ces L aP).1 vs
 |[],ces,L,ρ,cs,hs,hd=>⟨ρ,hs,Step.refl _ _ _ _,hd⟩|a::aP,ces,L,ρ,cs,hs,hd=>by
  obtain⟨v,rest,rfl,h1,h2⟩:=aD.1 hd;have⟨jG,h3,h4,h5⟩:=ahR (ces:=ces) hs h1;have⟨gw,h6,h7,h8⟩:=xQ aP (ces:=(sg ces L a).2.2) h3 (bL.step h4 aP rest h2);exact⟨gw,h6,h4.trans h7,aD.2 ⟨v,rest,rfl,af.step h7 _ _ h5,h8⟩⟩
theorem apR{ces:List (Bool×aU×TypeId)}{a:AV}{v:Value}(hs:Sat ρ (lk L) G w)(hd:af ρ (lk L) (aV ρ (lk L) G) w a v):
 ∃aL,Sat aL (lk (agm ces L a).2) G w/\stp ρ L G w aL (agm ces L a).2/\af aL (lk (agm ces L a).2) (aV aL (lk (agm ces L a).2) G) w (agm ces L a).1 v:=by
 unfold agm;split;rename_i vs;unfold af at hd;have⟨us,h1,h2⟩:=hd;have⟨aL,h3,h4,h5⟩:=xQ vs (ces:=ces) hs h2;exact⟨aL,h3,h4,by unfold af;exact⟨us,h1,h5⟩⟩;exact ahR hs hd
theorem aj4{ces:List (Bool×aU×TypeId)}{r r':AV}{v:Value}{L':List ak}(h:Good ρ H G w (lk L) r v w')(h0:∀id,H id=none)(hc:apP ces L r=some (L',r')):Good ρ H G w (lk L') r' v w':=by
 unfold apP at hc;simp only[cond_eq_ite]at hc;split at hc;rename_i hn;split at hc;rename_i L1 r1 hL hr;simp only[Option.some.injEq,Prod.mk.injEq]at hc;obtain⟨rfl,rfl⟩:=hc;have⟨jG,h1,h2,h3,h4⟩:=h;have⟨gw,h5,h6,h7⟩:=apR (ces:=ces) h1 h2;exact Good.view (m:=0) ⟨gw,h5,h7,h3.trans h6,h4⟩ (lW hn) hL (λi hi=>by omega) (λid _=>h0 id) hr;cases hc;cases hc
end
def B.out(base:Nat):(b:B)->b.V->AV×List ak
 |.row r e,x=>(.vec base,[.vec (r.wm x) e])|.int k,x=>(.s (.int k x),[])|.bool,x=>(.s (.bool x),[])|.str,x=>(.s (.str x),[])|.arr k n,x=>(.ah k n x,[])|.fn,f=>(.s (.rH f),[])|.mL r _,x=>(.s (.ro (r.wm x)),[])
def BL.out(base:Nat):(bs:List B)->BL bs->List AV×List ak
 |[],_=>([],[])|b::bs,(x,y)=>let p:=b.out base x;let q:=BL.out (base+p.2.length) bs y;(p.1::q.1,p.2++q.2)
def Ty.out(base:Nat):(t:Ty)->t.V->AV×List ak
 |.b x,v=>x.out base v|.st bs,v=>let q:=BL.out base bs v;(.agg q.1,q.2)
def AL.out(base:Nat):(ts:List Ty)->AL ts->List AV×List ak
 |[],_=>([],[])|t::ts,(x,y)=>let p:=t.out base x;let q:=AL.out (base+p.2.length) ts y;(p.1::q.1,p.2++q.2)
def AL.res(rs:List Ty)(y:AL rs):List ak×AV:=let q:=AL.out 0 rs y;(q.2,oneOf q.1)
def B.flat:B->Bool
 |.row r _=>r.flat|.mL _ _=>false|_=>true
def Ty.flat:Ty->Bool
 |.b x=>x.flat|.st bs=>bs.all B.flat
def B.qw:B->Bool
 |.row r _=>r.flat|_=>true
def Ty.qw:Ty->Bool
 |.b x=>x.qw|.st bs=>bs.all B.qw
def B.ces:B->List (Bool×aU×TypeId)
 |.row r e=>[(false,r.wm [],e)]|.mL r e=>[(true,r.wm [],e)]|_=>[]
def Ty.ces:Ty->List (Bool×aU×TypeId)
 |.b x=>x.ces|.st bs=>bs.flatMap B.ces
def dF(P:Program)(Z:bh)(f:FuncId)(ts rs:List Ty)(pre:AL ts->List Prop)(F:AL ts->AL rs):Prop:=
 ∀(x:AL ts),AL.ok ts x->bJ (pre x)->∀(G:Nat->Prop) (w:World) (vs:List Value),(∀b,G b->b<w.heap.size)->Z.ok w->bL (λ_=>undef) (λ_=>none) (aV (λ_=>undef) (λ_=>none) G) w (AL.av ts x) vs->
  Calls P f vs.toArray w λe w'=>∃v,e=.returned v/\Good (λ_=>undef) (λ_=>none) G w (lk (AL.res rs (F x)).1) (AL.res rs (F x)).2 v w'
def Ends(rs:List Ty)(y:AL rs)(L:List ak)(r:AV):Prop:=apP (rs.flatMap Ty.ces) L r=some (AL.res rs y)
def age(a:AV)(k:AV->RM bQ):RM bQ:=
 match a with
 |.vec id=>.look id λ
  |some (.vec c _)=>k (.s (.ro c))|_=>.fail ""
 |a=>k a
def aum:List AV->(List AV->RM bQ)->RM bQ
 |[],k=>k []|a::aP,k=>age a λa'=>aum aP λdM=>k (a'::dM)
def aun(a:AV)(k:AV->RM bQ):RM bQ:=
 match a with
 |.agg ay=>aum ay λs=>k (.agg s)|a=>age a k
def auo:List AV->(List AV->RM bQ)->RM bQ
 |[],k=>k []|a::aP,k=>aun a λa'=>auo aP λdM=>k (a'::dM)
def sumOf(ts rs:List Ty)(pre:AL ts->List Prop)(F:AL ts->AL rs):Nat->List AV->RM bQ:=λ_ args=>
 auo args λargs=>match allM (rn (λ_=>none) 20) args with
  |some args=>(match AL.rd ts args with
   |some x=>bif rs.all Ty.flat then .ret ⟨pre x,[],(AL.res rs (F x)).1,λbase=>oneOf (AL.out base rs (F x)).1⟩else .fail ""|none=>.fail "")
  |none=>.fail ""
section
variable{g:Nat->Option Nat}{ρ aL:Nat->Value}{H H':aS}{G O O':Nat->Prop}{w w':World}{P:Program}{S:fG}{Z:bh}{X:Ctx}{s:St}{a:Act}{K:List ak->AV->Prop}{C:bP->Prop}{L:List ak}
theorem AL.aaw:∀{ts:List Ty} (x:AL ts),(AL.av ts x).length=ts.length
 |[],_=>rfl|_::_,(_,y)=>congrArg (· +1) (AL.aaw y)
theorem aH{f:FuncId}{fn:Func}{ts rs:List Ty}{pre:AL ts->List Prop}{F:AL ts->AL rs}(hf:P.funcs[f]? =some fn)(hb:fn.body.isSome=true)(hn:ts.length.ble fn.ntmps=true)
 (h:∀x,AL.ok ts x->bJ (pre x)->∀X:Ctx,(∀id,X.H id=none)->dZ Z X->Safe P f X (Ends rs (F x)) (start fn (AL.av ts x) [])):dF P Z f ts rs pre F:=by
 intro x jU mK G w vs hG hz hd;have⟨c,hb⟩:=isSome_iff_exists.1 hb;have hn:=le_of_ble_eq_true hn;have awZ:(AL.av ts x).length=ts.length:=AL.aaw x
 have pa:∀{aP:List AV} {vs:List Value},bL (λ_=>undef) (λ_=>none) (aV (λ_=>undef) (λ_=>none) G) w aP vs->vs.length=aP.length:=by
  intro aP
  induction aP with
  |nil=>intro vs h;rw[a8.1 h];rfl
  |cons a aP ih=>intro vs h;obtain⟨v,rest,rfl,_,h2⟩:=aD.1 h;simp[ih h2]
 refine(jq (R:=kp ⟨λ_=>undef,λ_=>none,G,w,[]⟩ (Ends rs (F x))) hf hb ?_).mono ?_;have:=(h x jU mK ⟨λ_=>undef,λ_=>none,G,w,[]⟩ (λ_=>rfl) ⟨hz,λb _ ⟨id,o,ho,_⟩=>by cases ho⟩).goes rfl rfl (ρ:=λ_=>undef) (a:={tmps:=vs.toArray++Array.replicate (fn.ntmps - vs.toArray.size) undef,defers:=[]}) (w:=w);simp only[start,hb,getD_some]at this;refine this ⟨⟨λid o ho=>by simp[St.look]at ho,λi j oi oj b hi=>by simp[St.look]at hi,λb vP=> ?_,hG⟩, ?_,λt=> ?_,rfl, ?_, ?_,λx hx=>by cases hx⟩;have⟨id,o,ho,_⟩:=vP;simp[St.look]at ho;have:=pa hd;simp[this]
 have e1:∀t,af (λ_=>undef) (St.look ⟨AL.av ts x++replicate (fn.ntmps - (AL.av ts x).length) (.bq []),[]⟩) (aV (λ_=>undef) (St.look ⟨AL.av ts x++replicate (fn.ntmps - (AL.av ts x).length) (.bq []),[]⟩) G) w ((AL.av ts x).getD t (.bq [])) (vs.getD t undef):=by
  have e0:(St.look ⟨AL.av ts x++replicate (fn.ntmps - (AL.av ts x).length) (.bq []),[]⟩)=λ_=>none:=by funext i;simp[St.look]
  rw[e0];generalize AL.av ts x=aP at hd;clear awZ e0 this
  induction aP generalizing vs with
  |nil=>intro t;rw[a8.1 hd];simp only[List.getD,List.getElem?_nil,Option.getD_none];exact cz
  |cons a aP ih=>
   intro t;obtain⟨v,rest,rfl,h1,h2⟩:=aD.1 hd;cases t with
   |zero=>simpa using h1|succ t=>simpa using ih rest h2 t
 have h1:=e1 t;have hl:=pa hd;simp only[List.getD_eq_getElem?_getD,List.getElem?_append,List.getElem?_replicate,getD_eq_getD_getElem?,Array.getElem?_append,List.getElem?_toArray,Array.getElem?_replicate,List.size_toArray]at h1 ⊢;rw[hl];split;rename_i ht;have hv:vs[t]? =some vs[t]:=getElem?_eq_getElem (by omega);have ha:(AL.av ts x)[t]? =some (AL.av ts x)[t]:=getElem?_eq_getElem ht;rw[hv,ha]at h1 ⊢;exact h1;split;exact cz;simp only[Option.getD_none];unfold af;trivial;have e0:(St.look ⟨AL.av ts x++replicate (fn.ntmps - (AL.av ts x).length) (.bq []),[]⟩)=λ_=>none:=by funext i;simp[St.look]
 rw[e0];exact Step.refl _ _ _ _;exact⟨rfl,rfl,rfl,λ_ _ _=>rfl⟩;rintro e w' ⟨v,he,L,r,hk,hg⟩;refine⟨v,he, ?_⟩;exact aj4 hg (λ_=>rfl) hk
theorem RM.ahS{aP:AV}{k:AV->RM bQ}{q:bQ}(h:(age aP k).eval H=some q)(hs:Sat ρ H G w):∃a',(k a').eval H=some q/\(∀v,af ρ H (aV ρ H G) w aP v->af ρ H (λ_=>False) w a' v)/\(∀cs,aQ ρ H (aV ρ H G) w aP cs->aQ ρ H (λ_=>False) w a' cs):=by
 have less:Emb (λi=>some i) ρ H (aV ρ H G) ρ H (λ_=>False):=⟨λi j h=>by cases h;exact⟨rfl,λo ho=>⟨o,ho,λc e hc=>hc⟩⟩,λb hb=>hb.elim⟩;have aw0:∀(a:AV) (v:Value),af ρ H (aV ρ H G) w a v->af ρ H (λ_=>False) w a v:=λa v hd=>af.step ⟨λ_ _ _=>rfl,λ_ o h=>⟨o,h,λc' e' e=>⟨c',e',e,rfl,rfl⟩⟩,λb hb=>hb.elim,λ_ _ _=>rfl,le_refl _⟩ a v hd;have aw1:∀(a:AV) (v:List Value),aQ ρ H (aV ρ H G) w a v->aQ ρ H (λ_=>False) w a v:=λa v hd=>aQ.step ⟨λ_ _ _=>rfl,λ_ o h=>⟨o,h,λc' e' e=>⟨c',e',e,rfl,rfl⟩⟩,λb hb=>hb.elim,λ_ _ _=>rfl,le_refl _⟩ a v hd;unfold age at h;split at h;rename_i id;simp only[RM.eval]at h;split at h;rename_i c e hc;have dT:=hs.obj id _ hc;have⟨r,cap,h0,h1,h2,h3⟩:=dT
 have key:∀v,aN ρ H (aV ρ H G) w (.vec id) v->aW (λ_=>False) w (.ro c) v:=by
  intro v hv;unfold aN at hv;have⟨_,o,ho,h4⟩:=hv;rw[hc]at ho;cases ho;rw[h4 c e rfl,h0];rcases h3 with h3|⟨b,f,cells,fr,us,rfl,h5,h6,h7,h8⟩;exact .ro c r cap (λ_ _=>undef) 0 0 h1 h2 (λh=>by omega) (λi j hi hj=>by omega) (λi j hi hj=>by omega);refine .ro c _ cap us b f h1 h2 (λ_=>⟨rfl,λh=>h.elim,(Array.getElem?_eq_some_iff.1 h5).1⟩) (λi j hi hj=> ?_) (λi j hi hj=>(h8 i j hi hj).2.less (λb hb=>hb.elim));have:=(h8 i j hi hj).1;simp only[World.cell?,h5];simpa using this
 exact⟨_,h,λv hv=>aE (key v (by unfold af at hv;exact hv)),λcs hv=>by unfold aQ at *;obtain⟨u,rfl,h9⟩:=hv;exact⟨u,rfl,key u h9⟩⟩;simp[RM.eval]at h;exact⟨_,h,aw0 _,aw1 _⟩
theorem RM.ahT:∀{aP:List AV} {k:List AV->RM bQ} {q:bQ},(aum aP k).eval H=some q->Sat ρ H G w->∃dM,(k dM).eval H=some q/\∀cs,az ρ H (aV ρ H G) w aP cs->az ρ H (λ_=>False) w dM cs
 |[],k,q,h,hs=>⟨[],h,λcs hd=>by rw[aC.1 hd];exact aC.2 rfl⟩
 |a::aP,k,q,h,hs=>by
  have⟨a',h1,h2,h3⟩:=RM.ahS h hs;have⟨dM,h4,h5⟩:=RM.ahT h1 hs;refine⟨a'::dM,h4,λcs hd=> ?_⟩;obtain⟨c1,c2,rfl,h6,h7⟩:=ag.1 hd;exact ag.2 ⟨c1,c2,rfl,h3 c1 h6,h5 c2 h7⟩
theorem RM.apS{aP:AV}{k:AV->RM bQ}{q:bQ}(h:(aun aP k).eval H=some q)(hs:Sat ρ H G w):∃a',(k a').eval H=some q/\(∀v,af ρ H (aV ρ H G) w aP v->af ρ H (λ_=>False) w a' v):=by
 unfold aun at h;split at h;have⟨dM,h1,h2⟩:=RM.ahT h hs;refine⟨_,h1,λv hd=> ?_⟩;unfold af at *;have⟨cs,h3,h4⟩:=hd;exact⟨cs,h3,h2 cs h4⟩;have⟨a',h1,h2,_⟩:=RM.ahS h hs;exact⟨a',h1,h2⟩
theorem RM.ahU:∀{aP:List AV} {k:List AV->RM bQ} {q:bQ},(auo aP k).eval H=some q->Sat ρ H G w->∃dM,(k dM).eval H=some q/\∀cs,bL ρ H (aV ρ H G) w aP cs->bL ρ H (λ_=>False) w dM cs
 |[],k,q,h,hs=>⟨[],h,λcs hd=>by rw[a8.1 hd];exact a8.2 rfl⟩
 |a::aP,k,q,h,hs=>by
  have⟨a',h1,h2⟩:=RM.apS h hs;have⟨dM,h4,h5⟩:=RM.ahU h1 hs;refine⟨a'::dM,h4,λcs hd=> ?_⟩;obtain⟨v,rest,rfl,h6,h7⟩:=aD.1 hd;exact aD.2 ⟨v,rest,rfl,h2 v h6,h5 rest h7⟩
theorem vB:∀{cs:List CK} (_:cs.all CK.flat=true) {x:CL cs} {j:Nat} {u:Value},j<CL.wide cs->aW O w (CL.cell cs x j) u->aW O' w (CL.cell cs x j) u
 |[],_,x,j,u,hj,h=>by simp[CL.wide]at hj
 |c::cs,hf,x,j,u,hj,h=>by
  simp only[all_cons,and_eq_true]at hf;simp only[CL.cell]at h ⊢;rcases lt_or_ge j c.wide with h5|h5
  ·rw[nJ h5,cond_true]at h ⊢;cases c<;>simp only[CK.flat,Bool.false_eq_true]at hf
   case int k=>exact(by simp only[CK.cell]at h ⊢;cases h;constructor)
   case bool=>exact(by simp only[CK.cell]at h ⊢;cases h;constructor)
   case str=>exact(by simp only[CK.cell]at h ⊢;cases h;constructor)
   case arr k n=>exact(by simp only[CK.cell]at h ⊢;cases h;constructor)
   all_goals exact hf.1.elim
  ·rw[rP h5,cond_false]at h ⊢;exact vB hf.2 (by simp only[CL.wide]at hj;omega) h
theorem RK.adx{r:RK}(hr:r.flat=true){x:r.V}{i j:Nat}{u:Value}(hj:j<(r.wm x).size)(h:aW O w ((r.wm x).cell i j) u):aW O' w ((r.wm x).cell i j) u:=by
 cases r
 case au cs=>exact vB hr hj h
 all_goals (simp only[RK.wm,aU.cell]at h ⊢;cases h;constructor)
def Plain(o:ak):Prop:=∃(r:RK) (x:r.V) (e:TypeId),r.flat=true/\o=.vec (r.wm x) e
theorem B.fk{b:B}(hb:b.qw=true){x:b.V}{base:Nat}:∀o∈(b.out base x).2,Plain o:=by
 cases b with
 |row r e=>intro o ho;simp only[B.out,mem_singleton]at ho;exact⟨r,x,e,hb,ho⟩
 |_=>intro o ho;simp[B.out]at ho
theorem BL.fk:∀{bs:List B},bs.all B.qw=true->∀{x:BL bs} {base:Nat},∀o∈(BL.out base bs x).2,Plain o
 |[],_,x,base,o,ho=>by simp[BL.out]at ho
 |b::bs,hb,(x,y),base,o,ho=>by
  simp only[all_cons,and_eq_true]at hb;simp only[BL.out,mem_append]at ho;rcases ho with ho|ho;exact B.fk hb.1 o ho;exact BL.fk hb.2 o ho
theorem Ty.fk{t:Ty}(ht:t.qw=true){x:t.V}{base:Nat}:∀o∈(t.out base x).2,Plain o:=by
 cases t with
 |b y=>exact B.fk ht|st bs=>exact BL.fk ht
theorem AL.fk:∀{ts:List Ty},ts.all Ty.qw=true->∀{x:AL ts} {base:Nat},∀o∈(AL.out base ts x).2,Plain o
 |[],_,x,base,o,ho=>by simp[AL.out]at ho
 |b::bs,hb,(x,y),base,o,ho=>by
  simp only[all_cons,and_eq_true]at hb;simp only[AL.out,mem_append]at ho;rcases ho with ho|ho;exact Ty.fk hb.1 o ho;exact AL.fk hb.2 o ho
structure si (base n:Nat) (ρ:Nat->Value) (H:aS) (aL:Nat->Value) (H':aS):Prop where
 wR:∀i,i<n->aL (base+i)=ρ i
 heap:∀i,i<n->H' (base+i)=H i
theorem aax{base n k:Nat}(sh:si base n ρ H aL H')(hk:k<n){v:Value}(h:aN ρ H O w (.vec k) v):aN aL H' O' w (.vec (base+k)) v:=by
 unfold aN at *;have⟨h0,o,ho,h1⟩:=h;exact⟨h0,o,by rw[sh.heap k hk];exact ho,λc e hc=>by rw[sh.wR k hk];exact h1 c e hc⟩
theorem B.aup{base n k:Nat}(sh:si base n ρ H aL H'){b:B}(hO:b.flat=true\/∀i,O' i->O i){x:b.V}(hk:k+(b.out k x).2.length<=n){v:Value}(h:af ρ H O w (b.out k x).1 v):af aL H' O' w (b.out (base+k) x).1 v:=by
 cases b with
 |row r e=>
  simp only[B.out,length_cons,length_nil]at hk h ⊢;unfold af at *;exact aax sh (by omega) h
 |int k=>exact aE (by have:=ax (by simp) h;cases this;constructor)
 |bool=>exact aE (by have:=ax (by simp) h;cases this;constructor)
 |str=>exact aE (by have:=ax (by simp) h;cases this;constructor)
 |fn=>exact aE (by have:=ax (by simp) h;cases this;constructor)
 |mL r e=>
  rcases hO with hO|hO;cases hO;exact aE ((ax (by simp) h).less hO)
 |arr k n=>simp only[B.out]at h ⊢;unfold af at *;exact h
theorem B.auq{base n k:Nat}(sh:si base n ρ H aL H'){b:B}(hO:b.flat=true\/∀i,O' i->O i){x:b.V}(hk:k+(b.out k x).2.length<=n){v:List Value}(h:aQ ρ H O w (b.out k x).1 v):aQ aL H' O' w (b.out (base+k) x).1 v:=by
 cases b with
 |row r e=>
  simp only[B.out,length_cons,length_nil]at hk h ⊢;unfold aQ at *;obtain⟨u,rfl,h1⟩:=h;exact⟨u,rfl,aax sh (by omega) h1⟩
 |int k=>simp only[B.out]at h ⊢;unfold aQ at *;obtain⟨u,rfl,h1⟩:=h;exact⟨u,rfl,by cases h1;constructor⟩
 |bool=>simp only[B.out]at h ⊢;unfold aQ at *;obtain⟨u,rfl,h1⟩:=h;exact⟨u,rfl,by cases h1;constructor⟩
 |str=>simp only[B.out]at h ⊢;unfold aQ at *;obtain⟨u,rfl,h1⟩:=h;exact⟨u,rfl,by cases h1;constructor⟩
 |fn=>simp only[B.out]at h ⊢;unfold aQ at *;obtain⟨u,rfl,h1⟩:=h;exact⟨u,rfl,by cases h1;constructor⟩
 |mL r e=>
  simp only[B.out]at h ⊢;unfold aQ at *;obtain⟨u,rfl,h1⟩:=h;rcases hO with hO|hO;cases hO;exact⟨u,rfl,h1.less hO⟩
 |arr k n=>simp only[B.out]at h ⊢;unfold aQ at *;exact h
theorem B.lX{b:B}{x:b.V}(k k':Nat):(b.out k x).2=(b.out k' x).2:=by cases b<;>rfl
theorem BL.lX:∀{bs:List B} {x:BL bs} (k k':Nat),(BL.out k bs x).2=(BL.out k' bs x).2
 |[],_,_,_=>rfl|b::bs,(x,y),k,k'=>by
  simp only[BL.out];rw[B.lX k k',BL.lX (k+_) (k'+(b.out k' x).2.length)]
theorem Ty.lX{t:Ty}{x:t.V}(k k':Nat):(t.out k x).2=(t.out k' x).2:=by
 cases t with
 |b y=>exact B.lX k k'|st bs=>exact BL.lX k k'
theorem BL.shift{base n:Nat}(sh:si base n ρ H aL H'):∀{bs:List B} (_:bs.all B.flat=true\/∀i,O' i->O i) {k:Nat} {x:BL bs} {cs:List Value},k+(BL.out k bs x).2.length<=n->az ρ H O w (BL.out k bs x).1 cs->az aL H' O' w (BL.out (base+k) bs x).1 cs
 |[],_,k,x,cs,hk,h=>by rw[aC.1 h];exact aC.2 rfl
 |b::bs,hO,k,(x,y),cs,hk,h=>by
  simp only[BL.out,length_append]at hk h ⊢;obtain⟨c1,c2,rfl,h1,h2⟩:=ag.1 h;have hO1:b.flat=true\/∀i,O' i->O i:=hO.imp (λh=>by simp only[all_cons,and_eq_true]at h;exact h.1) (λh=>h);have hO2:bs.all B.flat=true\/∀i,O' i->O i:=hO.imp (λh=>by simp only[all_cons,and_eq_true]at h;exact h.2) (λh=>h);refine ag.2 ⟨c1,c2,rfl,B.auq sh hO1 (by omega) h1, ?_⟩;rw[B.lX (base+k) k,add_assoc];exact BL.shift sh hO2 (by omega) h2
theorem Ty.shift{base n k:Nat}(sh:si base n ρ H aL H'){t:Ty}(hO:t.flat=true\/∀i,O' i->O i){x:t.V}(hk:k+(t.out k x).2.length<=n){v:Value}(h:af ρ H O w (t.out k x).1 v):af aL H' O' w (t.out (base+k) x).1 v:=by
 cases t with
 |b y=>exact B.aup sh hO hk h|st bs=>
  simp only[Ty.out]at hk h ⊢;unfold af at *;have⟨cs,h1,h2⟩:=h;exact⟨cs,h1,BL.shift sh hO hk h2⟩
theorem AL.shift{base n:Nat}(sh:si base n ρ H aL H'):∀{ts:List Ty} (_:ts.all Ty.flat=true\/∀i,O' i->O i) {k:Nat} {x:AL ts} {vs:List Value},k+(AL.out k ts x).2.length<=n->bL ρ H O w (AL.out k ts x).1 vs->bL aL H' O' w (AL.out (base+k) ts x).1 vs
 |[],_,k,x,vs,hk,h=>by rw[a8.1 h];exact a8.2 rfl
 |b::bs,hO,k,(x,y),cs,hk,h=>by
  simp only[AL.out,length_append]at hk h ⊢;obtain⟨c1,c2,rfl,h1,h2⟩:=aD.1 h;have hO1:b.flat=true\/∀i,O' i->O i:=hO.imp (λh=>by simp only[all_cons,and_eq_true]at h;exact h.1) (λh=>h);have hO2:bs.all Ty.flat=true\/∀i,O' i->O i:=hO.imp (λh=>by simp only[all_cons,and_eq_true]at h;exact h.2) (λh=>h);refine aD.2 ⟨c1,c2,rfl,Ty.shift sh hO1 (by omega) h1, ?_⟩;rw[Ty.lX (base+k) k,add_assoc];exact AL.shift sh hO2 (by omega) h2
theorem AL.abR:∀{ts:List Ty} {x:AL ts} (k:Nat),(AL.out k ts x).1.length=ts.length
 |[],_,_=>rfl|b::bs,(x,y),k=>by simp[AL.out,AL.abR]
theorem aay{base:Nat}{rs:List Ty}(hO:rs.all Ty.flat=true\/∀i,O' i->O i){y:AL rs}(sh:si base (AL.res rs y).1.length ρ H aL H'){v:Value}(h:af ρ H O w (AL.res rs y).2 v):af aL H' O' w (oneOf (AL.out base rs y).1) v:=by
 unfold AL.res at h sh;simp only[]at h sh;have hl:∀vs,bL ρ H O w (AL.out 0 rs y).1 vs->bL aL H' O' w (AL.out (base+0) rs y).1 vs:=λvs=>AL.shift (k:=0) (x:=y) (O:=O) (O':=O') (w:=w) sh hO (by omega);have l0:=AL.abR (x:=y) 0;have l1:=AL.abR (x:=y) base;generalize (AL.out 0 rs y).1=aP at *;rw[add_zero]at hl;generalize (AL.out base rs y).1=bs at *;unfold oneOf at h ⊢;split at h;rename_i a;cases bs with
 |nil=>simp at l0 l1;omega|cons b bs=>
  cases bs with
  |nil=>
   have:=hl [v] (aD.2 ⟨v,[],rfl,h,a8.2 rfl⟩);have⟨v',rest,e,h1,_⟩:=aD.1 this;cases e;exact h1
  |cons c cs=>simp at l0 l1;omega
 rename_i cP;split;rename_i b;cases aP with
 |nil=>simp at l0 l1;omega|cons a aP=>
  cases aP with
  |nil=>exact(cP a rfl).elim|cons c cs=>simp at l0 l1;omega
 unfold af at *;have⟨us,h1,h2⟩:=h;exact⟨us,h1,hl us h2⟩
def re(P:Program)(Z:bh)(f:FuncId)(s:Nat->List AV->RM bQ):Prop:=
 ∀(base:Nat) (args:List AV) (H:aS) (q:bQ),(s base args).eval H=some q->bJ q.ab->∀(ρ:Nat->Value) (G:Nat->Prop) (w:World) (vs:List Value),
  (∀i,i<q.new.length->H (base+i)=none)->ZAt Z ρ H w->Sat ρ H G w->bL ρ H (aV ρ H G) w args vs->
  Calls P f vs.toArray w λen w'=>∃v,en=.returned v/\Good ρ H G w (cY H q.up base q.new) (q.r base) v w'
theorem dF.sum{f:FuncId}{ts rs:List Ty}{pre:AL ts->List Prop}{F:AL ts->AL rs}(h:dF P Z f ts rs pre F):re P Z f (sumOf ts rs pre F):=by
 intro base args H q hq hn ρ G w vs dA hz hs hd;unfold sumOf at hq;have⟨aw2,hq,h1⟩:=RM.ahU hq hs;split at hq;rename_i aw3 h2;split at hq;rename_i x h3;rw[cond_eq_ite]at hq;split at hq;rename_i ady;simp only[RM.eval,Option.some.injEq]at hq;subst hq
 have aur:∀b,¬aV (λ_=>undef) (λ_=>none) (λ_=>False) b:=by
  rintro b (⟨id,o,ho,_⟩|hb);cases ho;exact hb
 have E:Emb (λ_=>none) ρ H (λ_=>False) (λ_=>undef) (λ_=>none) (aV (λ_=>undef) (λ_=>none) (λ_=>False)):=⟨λi j ma=>(by cases ma),λb hb=>(aur b hb).elim⟩;have hd2:=wk E h2 (h1 vs hd);have hd3:bL (λ_=>undef) (λ_=>none) (aV (λ_=>undef) (λ_=>none) (λ_=>False)) w (AL.av ts x) vs:=AL.o9 h3 hd2;refine(h x (AL.okL hd3) hn (λ_=>False) w vs (λb hb=>hb.elim) hz.1 hd3).mono ?_;rintro e w' ⟨v,he,jG,g1,g2,g3,g4⟩;refine⟨v,he, ?_⟩;simp only[]
 have aus:rs.all Ty.qw=true:=by
  rw[all_eq_true]at ady ⊢;intro t ht;have:=ady t ht;cases t with
  |b y=>cases y<;>first|rfl|exact this|cases this
  |st bs=>
   change bs.all B.flat=true at this;show bs.all B.qw=true;rw[all_eq_true]at this ⊢;intro b hb;have:=this b hb;cases b<;>first|rfl|exact this|cases this
 have hpl:=AL.fk aus (x:=F x) (base:=0);have al5:(AL.res rs (F x)).1=(AL.out 0 rs (F x)).2:=rfl;rw[<-al5]at hpl;generalize hL:(AL.res rs (F x)).1=L at *
 have rb:∀b,Own jG (lk L) b->w.heap.size<=b:=λb hb=>by
  rcases g3.gq b (.inl hb)with h5|h5;exact(aur b h5).elim;exact h5
 let gw:Nat->Value:=λid=>if base<=id/\id<base+L.length then jG (id - base)else ρ id
 let H2:=cY H [] base L;have hH2:∀id,H2 id=if base<=id/\id<base+L.length then L[id - base]? else H id:=λid=>rfl
 have sh:si base L.length jG (lk L) gw H2:=⟨λi hi=>by simp only[gw];rw[if_pos (by omega)];congr 1;omega,λi hi=>by rw[hH2,if_pos (by omega)];simp[lk]⟩
 have hold:∀{id:Nat} {o:ak},H id=some o->¬(base<=id/\id<base+L.length):=λ{id o} ho hc=>by
  have:=dA (id - base) (by simp only[];omega);rw[show base+(id - base)=id from by omega,ho]at this;cases this
 have aaz:∀b,Own gw H2 b->Own jG (lk L) b\/Own ρ H b:=by
  rintro b ⟨id,o,ho,ha,hb⟩;rw[hH2]at ho;simp only[gw]at hb;split at ho;rename_i hc;rw[if_pos hc]at hb;exact .inl ⟨id - base,o,ho,ha,hb⟩;rename_i hc;rw[if_neg hc]at hb;exact .inr ⟨id,o,ho,ha,hb⟩
 have heap:∀b,b<w.heap.size->w'.heap[b]? =w.heap[b]? :=λb hb=>g4.heap b hb (λho=>aur b (.inl ho));have adz:w.heap.size<=w'.heap.size:=g3.size
 have st:Step ρ H (aV ρ H G) w gw H2 (aV gw H2 G) w':=by
  refine⟨λid o ho=> ?_,λid o ho=> ?_,λb hb=> ?_,λb hb _=>heap b hb,adz⟩;simp only[gw];rw[if_neg (hold ho)];exact⟨o,by rw[hH2,if_neg (hold ho)];exact ho,λc' e' hc=>⟨c',e',hc,rfl,rfl⟩⟩;rcases hb with hb|hb;rcases aaz b hb with h5|h5;exact .inr (rb b h5);exact .inl (.inl h5);exact .inl (.inr hb)
 refine⟨gw,⟨λid o ho=> ?_,λi j oi oj b hi hj ai aj bi bj=> ?_,λb hb hG=> ?_,λb hb=>Nat.lt_of_lt_of_le (hs.low b hb) adz⟩,aay (.inl ady) (O:=aV jG (lk L) (λ_=>False)) (hL▸sh) (by rw[hL];exact g2),st,⟨g4.os,g4.tape,g4.output,λb hb _=>heap b hb⟩⟩;change H2 id=some o at ho;rw[hH2]at ho;simp only[gw];split at ho;rename_i hc;rw[if_pos hc];have dT:=g1.obj (id - base) o ho;obtain⟨r,y,e',hr,rfl⟩:=hpl o (List.mem_of_getElem? ho);have⟨a0,cap,k0,k1,k2,k3⟩:=dT;refine⟨a0,cap,k0,k1,k2,k3.imp (λh=>h) ?_⟩;rintro⟨b,f0,cells,fr,us,k4,k5,k6,k7,k8⟩;exact⟨b,f0,cells,fr,us,k4,k5,k6,k7,λi j hi hj=>⟨(k8 i j hi hj).1,RK.adx hr hj (k8 i j hi hj).2⟩⟩;rename_i hc;rw[if_neg hc];have dT:=hs.obj id o ho;refine dT.step st (λb ha hb=>heap b ?_);exact gQ hs ⟨id,o,ho,ha,hb⟩;change H2 i=some oi at hi;change H2 j=some oj at hj;rw[hH2]at hi hj;simp only[gw]at bi bj;split at hi;rename_i ci;rw[if_pos ci]at bi;have o1:Own jG (lk L) b:=⟨_,oi,hi,ai,bi⟩;split at hj;rename_i cj;rw[if_pos cj]at bj;have:=g1.inj (i - base) (j - base) oi oj b hi hj ai aj bi bj;omega;rename_i cj;rw[if_neg cj]at bj;have:=gQ hs ⟨j,oj,hj,aj,bj⟩;have:=rb b o1;omega;rename_i ci;rw[if_neg ci]at bi;have h6:=gQ hs ⟨i,oi,hi,ai,bi⟩;split at hj;rename_i cj;rw[if_pos cj]at bj;have:=rb b ⟨_,oj,hj,aj,bj⟩;omega;rename_i cj;rw[if_neg cj]at bj;exact hs.inj i j oi oj b hi hj ai aj bi bj;rcases aaz b hb with h5|h5;have:=rb b h5;have:=hs.low b hG;omega;exact hs.apart b h5 hG;simp[RM.eval]at hq;simp[RM.eval]at hq;simp[RM.eval]at hq
abbrev aK:=List (FuncId×(Nat->List AV->RM bQ))
def aK.get:aK->FuncId->Option (Nat->List AV->RM bQ)
 |[],_=>none|(g,s)::t,f=>bif g.beq f then some s else aK.get t f
def aK.sum(t:aK):fG:=λbase f args=>match t.get f with
 |some s=>s base args|none=>.fail ""
def aK.Ok(P:Program)(Z:bh)(t:aK):Prop:=∀x∈t,re P Z x.1 x.2
theorem aK.get_mem:∀{t:aK} {f:FuncId} {s:Nat->List AV->RM bQ},t.get f=some s->(f,s)∈t
 |[],f,s,h=>by simp[aK.get]at h
 |(g,s')::t,f,s,h=>by
  simp only[aK.get,cond_eq_ite]at h;split at h;rename_i hg;obtain rfl:=Nat.eq_of_beq_eq_true hg;cases h;simp;exact mem_cons_of_mem _ (aK.get_mem h)
theorem aK.sOk{t:aK}(h:t.Ok P Z):SOk P t.sum Z:=by
 intro base f args H q _ hq hn ρ G w vs hf hz hs hd;unfold aK.sum at hq;split at hq;rename_i s hg;exact h _ (aK.get_mem hg) base args H q hq hn ρ G w vs hf hz hs hd;simp[RM.eval]at hq
theorem aK.Ok.nil:aK.Ok P Z []:=λx hx=>by simp at hx
theorem aK.Ok.cons{f:FuncId}{s:Nat->List AV->RM bQ}{t:aK}(h:re P Z f s)(ht:aK.Ok P Z t):aK.Ok P Z ((f,s)::t):=by
 intro x hx;rcases mem_cons.1 hx with rfl|hx;exact h;exact ht x hx
end
def ahV(a:AV)(ids:List Nat)(k:AV->List Nat->RM bQ):RM bQ:=
 match a with
 |.vec id=>.look id λ
  |some (.vec c _)=>k (.s (.ro c)) (id::ids)|_=>.fail ""
 |a=>k a ids
def al6:List AV->List Nat->(List AV->List Nat->RM bQ)->RM bQ
 |[],ids,k=>k [] ids|a::aP,ids,k=>ahV a ids λa' ids=>al6 aP ids λdM ids=>k (a'::dM) ids
def al7(a:AV)(ids:List Nat)(k:AV->List Nat->RM bQ):RM bQ:=
 match a with
 |.agg ay=>al6 ay ids λs ids=>k (.agg s) ids|a=>ahV a ids k
def al8:List AV->List Nat->(List AV->List Nat->RM bQ)->RM bQ
 |[],ids,k=>k [] ids|a::aP,ids,k=>al7 a ids λa' ids=>al8 aP ids λdM ids=>k (a'::dM) ids
def xR(ts rs:List Ty)(pre:AL ts->List Prop)(F:AL ts->AL rs):Nat->List AV->RM bQ:=λ_ args=>
 al8 args [] λargs ids=>match allM (rn (λ_=>none) 20) args with
  |some args=>(match AL.rd ts args with
   |some x=>bif rs.all Ty.qw then .ret ⟨pre x,ids.map λi=>(i,.aw),(AL.res rs (F x)).1,λbase=>oneOf (AL.out base rs (F x)).1⟩else .fail ""|none=>.fail "")
  |none=>.fail ""
section
variable{ρ aL:Nat->Value}{H H':aS}{G O O':Nat->Prop}{w w':World}{P:Program}{Z:bh}
structure adA (ρ:Nat->Value) (H:aS) (G:Nat->Prop) (ids nU:List Nat):Prop where
 sub:∀i∈ids,i∈nU
 vec:∀i∈nU,i∈ids\/∃c e,H i=some (.vec c e)
abbrev kZ(ρ:Nat->Value)(H:aS)(G:Nat->Prop)(ids:List Nat)(O:Nat->Prop):Prop:=(∀b,O b->aV ρ H G b)/\∀i∈ids,∀b,eW (ρ i)=some b->¬O b
theorem adA.trans{a b c:List Nat}(h:adA ρ H G a b)(k:adA ρ H G b c):adA ρ H G a c:=
 ⟨λi hi=>k.sub i (h.sub i hi),λi hi=>(k.vec i hi).elim (λh1=>h.vec i h1) .inr⟩
theorem adB{a:AV}{ids:List Nat}{k:AV->List Nat->RM bQ}{q:bQ}(h:(ahV a ids k).eval H=some q)(hs:Sat ρ H G w):
 ∃a' nU,(k a' nU).eval H=some q/\adA ρ H G ids nU/\∀O,kZ ρ H G nU O->(∀v,af ρ H (aV ρ H G) w a v->af ρ H O w a' v)/\(∀cs,aQ ρ H (aV ρ H G) w a cs->aQ ρ H O w a' cs):=by
 have stp:∀O,kZ ρ H G ids O->Step ρ H (aV ρ H G) w ρ H O w:=λO hO=>⟨λ_ _ _=>rfl,λ_ o h=>⟨o,h,λc' e' e=>⟨c',e',e,rfl,rfl⟩⟩,λb hb=>.inl (hO.1 b hb),λ_ _ _=>rfl,le_refl _⟩;unfold ahV at h;split at h;rename_i id;simp only[RM.eval]at h;split at h;rename_i c e hc;have⟨r,cap,h0,h1,h2,h3⟩:=hs.obj id _ hc;refine⟨_,_,h,⟨λi hi=>by simp[hi],λi hi=> ?_⟩,λO hO=> ?_⟩;rcases mem_cons.1 hi with rfl|hi;exact .inr ⟨c,e,hc⟩;exact .inl hi
 have key:∀v,aN ρ H (aV ρ H G) w (.vec id) v->aW O w (.ro c) v:=by
  intro v hv;unfold aN at hv;have⟨_,o,ho,h4⟩:=hv;rw[hc]at ho;cases ho;rw[h4 c e rfl];have aav:=hO.2 id (by simp);rw[h0]at aav ⊢;rcases h3 with h3|⟨b,f,cells,fr,us,rfl,h5,h6,h7,h8⟩;exact .ro c r cap (λ_ _=>undef) 0 0 h1 h2 (λh=>by omega) (λi j hi hj=>by omega) (λi j hi hj=>by omega);by_cases zv:cap=0;exact .ro c _ cap (λ_ _=>undef) 0 0 h1 h2 (λh=>by omega) (λi j hi hj=>by omega) (λi j hi hj=>by omega);refine .ro c _ cap us b f h1 h2 (λ_=>⟨rfl,aav b (by simp[eW,zv]),(Array.getElem?_eq_some_iff.1 h5).1⟩) (λi j hi hj=> ?_) (λi j hi hj=>(h8 i j hi hj).2.less hO.1);have:=(h8 i j hi hj).1;simp only[World.cell?,h5];simpa using this
 exact⟨λv hv=>aE (key v (by unfold af at hv;exact hv)),λcs hv=>by unfold aQ at *;obtain⟨u,rfl,h9⟩:=hv;exact⟨u,rfl,key u h9⟩⟩;simp[RM.eval]at h;exact⟨_,_,h,⟨λi hi=>hi,λi hi=>.inl hi⟩,λO hO=>⟨λv hv=>af.step (stp O hO) _ v hv,λcs hv=>aQ.step (stp O hO) _ cs hv⟩⟩
theorem kZ.sub{a b:List Nat}(h:∀i∈a,i∈b)(k:kZ ρ H G b O):kZ ρ H G a O:=⟨k.1,λi hi=>k.2 i (h i hi)⟩
theorem adC:∀{aP:List AV} {ids:List Nat} {k:List AV->List Nat->RM bQ} {q:bQ},(al6 aP ids k).eval H=some q->Sat ρ H G w->
 ∃dM nU,(k dM nU).eval H=some q/\adA ρ H G ids nU/\∀O,kZ ρ H G nU O->∀cs,az ρ H (aV ρ H G) w aP cs->az ρ H O w dM cs
 |[],ids,k,q,h,hs=>⟨[],ids,h,⟨λ_ h=>h,λ_ h=>.inl h⟩,λO _ cs hd=>by rw[aC.1 hd];exact aC.2 rfl⟩
 |a::aP,ids,k,q,h,hs=>by
  have⟨a',i1,h1,f1,h2⟩:=adB h hs;have⟨dM,i2,h3,f2,h4⟩:=adC h1 hs;refine⟨a'::dM,i2,h3,f1.trans f2,λO hO cs hd=> ?_⟩;obtain⟨c1,c2,rfl,h6,h7⟩:=ag.1 hd;exact ag.2 ⟨c1,c2,rfl,(h2 O (kZ.sub f2.sub hO)).2 c1 h6,h4 O hO c2 h7⟩
theorem al9{a:AV}{ids:List Nat}{k:AV->List Nat->RM bQ}{q:bQ}(h:(al7 a ids k).eval H=some q)(hs:Sat ρ H G w):
 ∃a' nU,(k a' nU).eval H=some q/\adA ρ H G ids nU/\∀O,kZ ρ H G nU O->∀v,af ρ H (aV ρ H G) w a v->af ρ H O w a' v:=by
 unfold al7 at h;split at h;have⟨dM,i1,h1,f1,h2⟩:=adC h hs;refine⟨_,i1,h1,f1,λO hO v hd=> ?_⟩;unfold af at *;have⟨cs,h3,h4⟩:=hd;exact⟨cs,h3,h2 O hO cs h4⟩;have⟨a',i1,h1,f1,h2⟩:=adB h hs;exact⟨a',i1,h1,f1,λO hO=>(h2 O hO).1⟩
theorem adD:∀{aP:List AV} {ids:List Nat} {k:List AV->List Nat->RM bQ} {q:bQ},(al8 aP ids k).eval H=some q->Sat ρ H G w->
 ∃dM nU,(k dM nU).eval H=some q/\adA ρ H G ids nU/\∀O,kZ ρ H G nU O->∀cs,bL ρ H (aV ρ H G) w aP cs->bL ρ H O w dM cs
 |[],ids,k,q,h,hs=>⟨[],ids,h,⟨λ_ h=>h,λ_ h=>.inl h⟩,λO _ cs hd=>by rw[a8.1 hd];exact a8.2 rfl⟩
 |a::aP,ids,k,q,h,hs=>by
  have⟨a',i1,h1,f1,h2⟩:=al9 h hs;have⟨dM,i2,h3,f2,h4⟩:=adD h1 hs;refine⟨a'::dM,i2,h3,f1.trans f2,λO hO cs hd=> ?_⟩;obtain⟨c1,c2,rfl,h6,h7⟩:=aD.1 hd;exact aD.2 ⟨c1,c2,rfl,h2 O (kZ.sub f2.sub hO) c1 h6,h4 O hO c2 h7⟩
theorem vC:∀(ids:List Nat) (j:Nat),cw (ids.map λi=>(i,.aw)) j=if j∈ids then some .aw else none
 |[],j=>rfl|i::ids,j=>by
  simp only[map_cons,cw,vC ids j];by_cases h:j∈ids;simp[h];by_cases h2:j=i;subst h2;simp[h];simp[h,h2]
theorem dF.xR{f:FuncId}{ts rs:List Ty}{pre:AL ts->List Prop}{F:AL ts->AL rs}(h:dF P Z f ts rs pre F):re P Z f (xR ts rs pre F):=by
 intro base args H q hq hn ρ G w vs dA hz hs hd;unfold Sx.xR at hq;have⟨aw2,ids,hq,hf,h1⟩:=adD hq hs;split at hq;rename_i aw3 h2;split at hq;rename_i x h3;rw[cond_eq_ite]at hq;split at hq;rename_i ady;simp only[RM.eval,Option.some.injEq]at hq;subst hq;have tN:∀i∈ids,∃c e,H i=some (.vec c e):=λi hi=>(hf.vec i hi).elim (λh=>by simp at h) (λh=>h);let Gc:Nat->Prop:=λb=>aV ρ H G b/\∀i∈ids,eW (ρ i)≠some b
 have aut:∀b,aV (λ_=>undef) (λ_=>none) Gc b->Gc b:=by
  rintro b (⟨id,o,ho,_⟩|hb);cases ho;exact hb
 have aav:kZ ρ H G ids (aV (λ_=>undef) (λ_=>none) Gc):=⟨λb hb=>(aut b hb).1,λi hi b hb hO=>(aut b hO).2 i hi hb⟩;have E:Emb (λ_=>none) ρ H (aV (λ_=>undef) (λ_=>none) Gc) (λ_=>undef) (λ_=>none) (aV (λ_=>undef) (λ_=>none) Gc):=⟨λi j ma=>(by cases ma),λb hb=>hb⟩;have hd2:=wk E h2 (h1 _ aav vs hd);have hd3:bL (λ_=>undef) (λ_=>none) (aV (λ_=>undef) (λ_=>none) Gc) w (AL.av ts x) vs:=AL.o9 h3 hd2;refine(h x (AL.okL hd3) hn Gc w vs (λb hb=>abj hs hb.1) hz.1 hd3).mono ?_;rintro e w' ⟨v,he,jG,g1,g2,g3,g4⟩;refine⟨v,he, ?_⟩;simp only[];have hpl:=AL.fk ady (x:=F x) (base:=0);have al5:(AL.res rs (F x)).1=(AL.out 0 rs (F x)).2:=rfl;rw[<-al5]at hpl;generalize hL:(AL.res rs (F x)).1=L at *
 have rb:∀b,Own jG (lk L) b->w.heap.size<=b:=λb hb=>by
  rcases g3.gq b (.inl hb)with h5|h5;exact(g1.apart b hb (aut b h5)).elim;exact h5
 let gw:Nat->Value:=λid=>if base<=id/\id<base+L.length then jG (id - base)else ρ id
 let H2:=cY H (ids.map λi=>(i,.aw)) base L
 have hold:∀{id:Nat} {o:ak},H id=some o->¬(base<=id/\id<base+L.length):=λ{id o} ho hc=>by
  have:=dA (id - base) (by simp only[];omega);rw[show base+(id - base)=id from by omega,ho]at this;cases this
 have hH2:∀id,H2 id=if id∈ids then some .aw else if base<=id/\id<base+L.length then L[id - base]? else H id:=λid=>by
  simp only[H2,cY,vC];split;rename_i hx;split at hx;rename_i hi;cases hx;rw[if_pos hi];cases hx;rename_i hx;split at hx;cases hx;rename_i hi;rw[if_neg hi]
 have atU:∀id,id∈ids->¬(base<=id/\id<base+L.length):=λid hi=>by
  have⟨c,e,hce⟩:=tN id hi;exact hold hce
 have sh:si base L.length jG (lk L) gw H2:=⟨λi hi=>by simp only[gw];rw[if_pos (by omega)];congr 1;omega,λi hi=>by
  rw[hH2,if_neg (λhm=>atU _ hm ⟨by omega,by omega⟩),if_pos (by omega)];simp[lk]⟩
 have xS:∀{id:Nat} {o:ak},H2 id=some o->o.alive=true->(base<=id/\id<base+L.length/\L[id - base]? =some o/\gw id=jG (id - base))\/(id ∉ ids/\H id=some o/\gw id=ρ id):=by
  intro id o ho ha;rw[hH2]at ho;split at ho;cases ho;cases ha;rename_i hi;split at ho;rename_i hc;exact .inl ⟨hc.1,hc.2,ho,by simp only[gw];rw[if_pos hc]⟩;rename_i hc;exact .inr ⟨hi,ho,by simp only[gw];rw[if_neg hc]⟩
 have azz:∀{id:Nat} {o:ak} {b:Nat},id ∉ ids->H id=some o->o.alive=true->eW (ρ id)=some b->∀i∈ids,eW (ρ i)≠some b:=by
  intro id o b dq ho ha hb i hi hb2;have⟨c,e,hce⟩:=tN i hi;have:=hs.inj id i o _ b ho hce ha rfl hb hb2;exact dq (this▸hi)
 have aaz:∀b,Own gw H2 b->Own jG (lk L) b\/(Own ρ H b/\∀i∈ids,eW (ρ i)≠some b):=by
  rintro b ⟨id,o,ho,ha,hb⟩;rcases xS ho ha with⟨_,_,h5,h6⟩|⟨h5,h6,h7⟩;rw[h6]at hb;exact .inl ⟨id - base,o,h5,ha,hb⟩;rw[h7]at hb;exact .inr ⟨⟨id,o,h6,ha,hb⟩,azz h5 h6 ha hb⟩
 have aw4:∀b,aV gw H2 G b->aV jG (lk L) Gc b:=by
  rintro b (hb|hb);rcases aaz b hb with h5|h5;exact .inl h5;exact .inr ⟨.inl h5.1,h5.2⟩;refine .inr ⟨.inr hb,λi hi mj=> ?_⟩;have⟨c,e,hce⟩:=tN i hi;exact hs.apart b ⟨i,_,hce,rfl,mj⟩ hb
 have heap:∀b,b<w.heap.size->w'.heap[b]? =w.heap[b]? :=λb hb=>g4.heap b hb (λ⟨id,o,ho,_⟩=>by cases ho);have adz:w.heap.size<=w'.heap.size:=g3.size
 have st:Step ρ H (aV ρ H G) w gw H2 (aV gw H2 G) w':=by
  refine⟨λid o ho=> ?_,λid o ho=> ?_,λb hb=> ?_,λb hb _=>heap b hb,adz⟩;simp only[gw];rw[if_neg (hold ho)];by_cases hi:id∈ids;exact⟨.aw,by rw[hH2,if_pos hi],λc' e' hc=>by cases hc⟩;exact⟨o,by rw[hH2,if_neg hi,if_neg (hold ho)];exact ho,λc' e' hc=>⟨c',e',hc,rfl,rfl⟩⟩;rcases hb with hb|hb;rcases aaz b hb with h5|h5;exact .inr (rb b h5);exact .inl (.inl h5.1);exact .inl (.inr hb)
 refine⟨gw,⟨λid o ho=> ?_,λi j oi oj b hi hj ai aj bi bj=> ?_,λb hb hG=> ?_,λb hb=>Nat.lt_of_lt_of_le (hs.low b hb) adz⟩,aay (.inr aw4) (O:=aV jG (lk L) Gc) (hL▸sh) (by rw[hL];exact g2),st,⟨g4.os,g4.tape,g4.output,λb hb _=>heap b hb⟩⟩;cases xb:o.alive;cases o with
 |aw=>trivial|aq _ _=>cases xb
 |vec _ _=>cases xb
 |map _ _=>cases xb
 |ig _ _ _=>cases xb
 |iter _ _ _ _ _=>cases xb
 rcases xS ho xb with⟨_,_,h5,h6⟩|⟨h5,h6,h7⟩;rw[h6];have dT:=g1.obj (id - base) o h5;obtain⟨r,y,e',hr,rfl⟩:=hpl o (List.mem_of_getElem? h5);have⟨a0,cap,k0,k1,k2,k3⟩:=dT;refine⟨a0,cap,k0,k1,k2,k3.imp (λh=>h) ?_⟩;rintro⟨b,f0,cells,fr,us,k4,k5,k6,k7,k8⟩;exact⟨b,f0,cells,fr,us,k4,k5,k6,k7,λi j hi hj=>⟨(k8 i j hi hj).1,RK.adx hr hj (k8 i j hi hj).2⟩⟩;rw[h7];exact(hs.obj id o h6).step st (λb ha hb=>heap b (gQ hs ⟨id,o,h6,ha,hb⟩));rcases xS hi ai with⟨i1,i2,i3,i4⟩|⟨i1,i2,i3⟩;rw[i4]at bi;rcases xS hj aj with⟨j1,j2,j3,j4⟩|⟨j1,j2,j3⟩;rw[j4]at bj;have:=g1.inj (i - base) (j - base) oi oj b i3 j3 ai aj bi bj;omega;rw[j3]at bj;have:=gQ hs ⟨j,oj,j2,aj,bj⟩;have:=rb b ⟨_,oi,i3,ai,bi⟩;omega;rw[i3]at bi;rcases xS hj aj with⟨j1,j2,j3,j4⟩|⟨j1,j2,j3⟩;rw[j4]at bj;have:=gQ hs ⟨i,oi,i2,ai,bi⟩;have:=rb b ⟨_,oj,j3,aj,bj⟩;omega;rw[j3]at bj;exact hs.inj i j oi oj b i2 j2 ai aj bi bj;rcases aaz b hb with h5|h5;have:=rb b h5;have:=hs.low b hG;omega;exact hs.apart b h5.1 hG;simp[RM.eval]at hq;simp[RM.eval]at hq;simp[RM.eval]at hq
end
def slF:Nat->Nat->List (Nat×AV)->List AV
 |0,_,_=>[]|n+1,i,[]=>.s .aY::slF n (i+1) []|n+1,i,(j,a)::l=>bif j.beq i then a::slF n (i+1) l else .s .aY::slF n (i+1) ((j,a)::l)
def sl(n:Nat)(l:List (Nat×AV)):List AV:=slF n 0 l
def fY:Code->Option Nat
 |.region id _ _=>some id|.seq a b=>match fY a with
  |some i=>some i|none=>fY b
 |.cond _ a b=>match fY a with
  |some i=>some i|none=>fY b
 |.block _ c|.loop c|.scope c=>fY c|_=>none
def nu(key:Nat):Code->List Item->Option (List Item)
 |.seq a b,k=>match nu key a (.code b::k)with
  |some r=>some r|none=>nu key b k
 |.cond _ a b,k=>match nu key a k with
  |some r=>some r|none=>nu key b k
 |.block id c,k=>nu key c (.inBlock id::k)|.scope c,k=>nu key c (.inScope c::k)|.loop c,k=>match fY c with
  |some i=>bif i.beq key then some (.code c::.inLoop c::k)else nu key c (.inLoop c::k)|none=>nu key c (.inLoop c::k)
 |_,_=>none
def hd(fn:Func)(key:Nat):List Item:=(nu key (fn.body.getD .skip) []).getD []
def jH(key:Nat):Code->List Item->Option (List Item)
 |.region id ops d,k=>bif id.beq key then some (.code (.region id ops d)::k)else none|.seq a b,k=>match jH key a (.code b::k)with
  |some r=>some r|none=>jH key b k
 |.cond _ a b,k=>match jH key a k with
  |some r=>some r|none=>jH key b k
 |.block id c,k=>jH key c (.inBlock id::k)|.scope c,k=>jH key c (.inScope c::k)|.loop c,k=>jH key c (.inLoop c::k)|_,_=>none
def hr(fn:Func)(key:Nat):List Item:=(jH key (fn.body.getD .skip) []).getD []
def keyOf(c:bP):Nat:=match c.todo with
 |.code x::_=>aht c.stk ((fY x).getD 0)|.inRegion ops todo::_=>alK c.stk c.stk.rid (ops.size - todo.length)|_=>0
def aj5:List (Nat×Norm)->Nat->Option Norm
 |[],_=>none|(i,n)::l,k=>bif i.beq k then some n else aj5 l k
def aw5:List Item->Bool
 |.inRegion _ _::_=>true|_=>false
def Tree.norm(ns:List (Nat×Norm)):Tree->Tree
 |.ab p t=>.ab p (t.norm ns)|.ite b t e=>.ite b (t.norm ns) (e.norm ns)|.both p q t e=>.both p q (t.norm ns) (e.norm ns)|.ret H v=>.ret H v|.stuck w=>.stuck w|.at c=>bif aw5 c.todo&&(aj5 ns (keyOf c)).isNone then .at c else match aj5 ns (keyOf c)with
  |some N=>(match N.run c with
   |some c'=>.at c'|none=>.stuck "")
  |none=>.stuck ""
def ama:List (Nat×Norm)->Nat->Bool
 |[],_=>false|(i,_)::l,k=>i.beq k||ama l k
def asH:List FuncId->FuncId->Bool
 |[],_=>false|f::l,g=>f.beq g||asH l g
def run(P:Program)(S:fG)(fn:Func)(ns:List (Nat×Norm))(c:bP)(inl:List FuncId:=[]):Tree:=(exec P S fn (ama ns) (asH inl) 1000 true c).norm ns
def sj(fn:Func)(key i:Nat):List Item:=
 match hr fn key with
 |.code (.region _ ops _)::k=>.inRegion ops (range' i (ops.size - i))::k|_=>[]
def k9(fn:Func)(f:Option FuncId)(key i:Nat)(round:Bool)(marks:Nat):tB:=⟨f,fn.ntmps,round,marks,none,sj fn key i,(key,i)⟩
def lY(key:Nat):Code->List Item->Option (Lp×List Item)
 |.rangeFunc _ ps asg body,k=>match iD body with
  |some i=>bif i.beq key then some (⟨ps.toList,asg,body⟩,k)else none|none=>bif key.beq 0 then some (⟨ps.toList,asg,body⟩,k)else none
 |.seq a b,k=>match lY key a (.code b::k)with
  |some r=>some r|none=>lY key b k
 |.cond _ a b,k=>match lY key a k with
  |some r=>some r|none=>lY key b k
 |.block id c,k=>lY key c (.inBlock id::k)|.scope c,k=>lY key c (.inScope c::k)|.loop c,k=>lY key c (.inLoop c::k)|_,_=>none
def sk(fn:Func)(f:Option FuncId)(key:Nat)(marks:Nat):tB:=
 match lY key (fn.body.getD .skip) []with
 |some p=>⟨f,fn.ntmps,false,marks,some (p.1,.ready),p.2,(key,0)⟩|none=>⟨f,fn.ntmps,false,marks,none,[],(key,0)⟩
section
variable{P:Program}{S:fG}{Z:bh}{X:Ctx}{K:List ak->AV->Prop}{C C':bP->Prop}
theorem adE:∀{l:List (Nat×Norm)} {k:Nat} {N:Norm},aj5 l k=some N->∃i,(i,N)∈l
 |[],k,N,h=>by simp[aj5]at h
 |(i,n)::l,k,N,h=>by
  simp only[aj5,cond_eq_ite]at h;split at h;cases h;exact⟨i,by simp⟩;have⟨j,hj⟩:=adE h;exact⟨j,by simp[hj]⟩
theorem je{ns:List (Nat×Norm)}{f:FuncId}(h0:∀x∈ns,∀id,x.2.m<=id->X.H id=none):∀(t:Tree),(t.norm ns).Holds K (Safe P f X K)->t.Holds K (Safe P f X K)
 |.ab p t,h=>⟨h.1,je h0 t h.2⟩|.ite b t e,h=>⟨λhb=>je h0 t (h.1 hb),λhb=>je h0 e (h.2 hb)⟩|.both _ _ t e,h=>⟨λhp=>je h0 t (h.1 hp),λhq=>je h0 e (h.2 hq)⟩|.ret H v,h=>h|.stuck w,h=>h|.at c,h=>by
  unfold Tree.norm at h;rw[cond_eq_ite]at h;split at h;exact h;split at h;rename_i N hN;split at h;rename_i c' hc;have⟨i,hi⟩:=adE hN;exact Norm.safe (h0 _ hi) hc h;exact h.elim;exact h.elim
theorem bd{rs:List Ty}{y:AL rs}(y':AL rs){L:List ak}{r:AV}(h:y=y')(hc:apP (rs.flatMap Ty.ces) L r=some (AL.res rs y')):Ends rs y L r:=by
 subst h;exact hc
theorem cU{f:FuncId}{fn:Func}{ns:List (Nat×Norm)}{c:bP}{t:Tree}(hS:SOk P S Z)(nT:dZ Z X)(hm:P.follows .mixedOrders=true)(hf:P.funcs[f]? =some fn)(h0:∀x∈ns,∀id,x.2.m<=id->X.H id=none)
 {inl:List FuncId} (ht:run P S fn ns c inl=t) (h:t.Holds K (Safe P f X K)):Safe P f X K c:=by
 subst ht;exact gh hS nT hm hf 1000 true c (je h0 _ h)
theorem pS{f:FuncId}{ι:Type}(c:ι->bP)(I:ι->Prop)(m:ι->Nat)(h:∀x,I x->(∀y,I y->m y<m x->Safe P f X K (c y))->Safe P f X K (c x)):∀x,I x->Safe P f X K (c x):=by
 intro x
 induction hn:m x using Nat.strongRecOn generalizing x with
 |ind n ih=>
  intro hx;subst hn;exact h x hx (λy hy bo=>ih (m y) bo y rfl hy)
end
end Go.Sx
namespace Go.Sx
open Go Go.RowKit Go.ChangeShapes Go.WideShapes Go.ChangeAt
section
variable{H:Type}{enc:TypeId×Value->H}{P:Program}{W W':World}{Z:bh}{base:Nat}{ρ:Nat->Value}{Hh:aS}{O:Nat->Prop}
structure aj6 (W W':World):Prop where
 os:W'.os=W.os
 output:W'.output=W.output
 heap:∀b,b<W.heap.size->W'.heap[b]? =W.heap[b]?
theorem aj6.at(h:aj6 W W'){p:MemPlace}(hp:p.block<W.heap.size):W.sameAt W' p:=by
 have e:=h.heap p.block hp;cases p with
 |cell b o=>exact(m9 (o:=o) e)|map b=>exact e
theorem abS{ts:List TypeId}(hl:laidOutB P=true)(hp:ts.all (λt=>P.readableRec t&&decide (t<P.types.size))=true){sp':Nat->Bool}(hs:aj6 W W'):∀{vs:List Value} {ds:List (DataW H)} {ps:List MemPlace},
 DataW.TrodAll enc P W 0 (λ_=>true) true ts vs ds ps->(∀p∈ps,p.block<W.heap.size)->(∀p∈ps,sp' p.block=true)->DataW.TrodAll enc P W' 0 sp' true ts vs ds ps:=by
 induction ts with
 |nil=>intro vs ds ps h _ _;cases vs<;>cases ds<;>simp[DataW.TrodAll]at h ⊢;exact h
 |cons t ts ih=>
  intro vs ds ps h bo hsp;simp only[all_cons,and_eq_true,decide_eq_true_eq]at hp;obtain⟨v,vs',d,ds',p,q,rfl,rfl,rfl,h1,h2⟩:=trodAll_cons h;refine⟨p,q, ?_,ih hp.2 h2 (λx hx=>bo x (by simp[hx])) (λx hx=>hsp x (by simp[hx])),rfl⟩;exact WideElems.Trod_stays hl hp.1.1 hp.1.2 h1 (λx hx=>hs.at (bo x (by simp[hx]))) (λx hx=>hsp x (by simp[hx]))
theorem aj7(hs:aj6 W W')(may:MemPlace->Prop):W.keptBut W' may:=by
 refine⟨hs.os,hs.output,λi hi=> ?_⟩;rw[hs.heap i hi,Array.getElem?_eq_getElem hi];cases h:W.heap[i]with
 |cells c t fr=>exact⟨rfl,rfl,rfl,λ_ _=>rfl⟩|map es clock=>exact .inr ⟨rfl,rfl⟩|_=>rfl
theorem aj8{fn:Func}{s:ChangeSpec}{apart fresh handsOn:Bool}{args:Array Value}{ds gs:List (DataW H)}{before:List MemPlace}{tb:TypeId}
 (hl:laidOutB P=true) (hp:fn.params.toList.all (λt=>P.readableRec t&&decide (t<P.types.size))=true)
 (hr:fn.resultTypes= #[tb]) (hb:P.underlying tb=some .bool) (hv:s.vars=[])
 (hs:s.fn H ds={results:=[.lit (.bool true)],args:=ds})
 (hW:DataW.Whole enc P fn.params.toList s.vars apart W args.toList ds gs before) (ahW:aj6 W W'):
 s.post enc P fn apart fresh handsOn false W args (.bool true) W':=by
 have hW':=hW;obtain⟨p,q,h1,h2,rfl,_,_⟩:=hW;rw[hv]at h2;obtain⟨rfl,rfl⟩:=trodVars_none h2;have bo:∀x∈p,x.block<W.heap.size:=λx hx=>hW'.lt x (by simp[hx]);refine⟨ds,[],p++[],[],p,[],hW', ?_, ?_, ?_,aj7 ahW _,λh=>by cases h⟩;rw[append_nil,hs,hr];exact trodAll_mk1 (shut_bool hb true);rw[append_nil,hs];exact abS hl hp ahW h1 bo (λx hx=>by simpa using bo x hx);rw[hv,append_nil,hs];rfl
end
def adF(P:Program)(rec:TypeId->Option (List CK)):List Field->Nat->Option (List CK)
 |[],_=>some []|f::fs,off=>match rec f.type with
  |some cs=>bif f.offset.beq off&&(P.cellsOf f.type).beq (CL.wide cs)then(adF P rec fs (off+CL.wide cs)).map (cs++ ·)else none|none=>none
def vS(P:Program):Nat->TypeId->Option (List CK)
 |0,_=>none|d+1,t=>
  match P.underlying t with
  |some (.int k)=>some [.int k]|some .bool=>some [.bool]|some .string=>some [.str]|some (.slice e)=>(match P.underlying e with
   |some (.int k)=>bif (P.cellsOf e).beq 1 then some [.ah k]else none|some .string=>bif (P.cellsOf e).beq 1 then some [.strs]else none|some .bool=>bif (P.cellsOf e).beq 1 then some [.bF]else none|_=>(vS P d e).bind λcs=>bif (P.cellsOf e).beq (CL.wide cs)&&(1:Nat).ble (CL.wide cs)then some [.rows cs]else none)
  |some (.struct fs)=>(adF P (vS P d) fs.toList 0).bind λcs=>bif (P.cellsOf t).beq (CL.wide cs)then some cs else none|some (.array n e)=>(match P.underlying e with
   |some (.int k)=>bif (P.cellsOf e).beq 1&&(P.cellsOf t).beq n then some [.arr k n]else none|_=>none)
  |_=>none
mutual
def CK.wf:(c:CK)->c.V->Prop
 |.int k,n=>(Lit.int k n).wf=true|.bool,_=>True|.str,s=>ByteArray.size s<=maxLen|.ah k,zs=>List.length (show List Int from zs)<=maxLen/\∀n∈(show List Int from zs),(Lit.int k n).wf=true|.strs,ss=>List.length (show List ByteArray from ss)<=maxLen/\∀s∈(show List ByteArray from ss),s.size<=maxLen|.bF,bs=>List.length (show List Bool from bs)<=maxLen|.rows cs,xs=>List.length (show List (CL cs)from xs)<=maxLen/\∀x∈(show List (CL cs)from xs),CL.wf cs x|.arr k n,ws=>List.length (α:=Int) ws=n/\∀m∈(show List Int from ws),(Lit.int k m).wf=true
def CL.wf:(cs:List CK)->CL cs->Prop
 |[],_=>True|c::cs,x=>c.wf x.1/\CL.wf cs x.2
end
def CL.app:(aP:List CK)->{bs:List CK}->CL aP->CL bs->CL (aP++bs)
 |[],_,_,y=>y|_::aP,_,x,y=>(x.1,CL.app aP x.2 y)
theorem CL.adG:∀(aP bs:List CK),CL.wide (aP++bs)=CL.wide aP+CL.wide bs
 |[],bs=>by simp[CL.wide]
 |a::aP,bs=>by simp only[cons_append,CL.wide,CL.adG aP bs];omega
theorem abT{i n:Nat}(h:i<n):i.blt n=true:=by simpa[Nat.blt,Nat.lt_iff_add_one_le]using h
theorem agn{i n:Nat}(h:n<=i):i.blt n=false:=by
 cases hb:i.blt n;rfl;have:i<n:=by simpa[Nat.blt,Nat.lt_iff_add_one_le]using hb
 omega
theorem CL.aaA:∀(aP:List CK) {bs:List CK} (x:CL aP) (y:CL bs) {j:Nat},j<CL.wide aP->CL.cell (aP++bs) (CL.app aP x y) j=CL.cell aP x j
 |[],_,_,_,j,h=>by simp[CL.wide]at h
 |a::aP,bs,x,y,j,h=>by
  simp only[cons_append,CL.cell,CL.app];rcases lt_or_ge j a.wide with h1|h1;rw[abT h1];rfl;rw[agn h1];simp only[cond_false];exact CL.aaA aP x.2 y (by simp only[CL.wide]at h;omega)
theorem CL.aaB:∀(aP:List CK) {bs:List CK} (x:CL aP) (y:CL bs) {j:Nat},CL.wide aP<=j->CL.cell (aP++bs) (CL.app aP x y) j=CL.cell bs y (j - CL.wide aP)
 |[],_,_,_,j,h=>by simp[CL.wide,CL.app]
 |a::aP,bs,x,y,j,h=>by
  simp only[CL.wide]at h;simp only[cons_append,CL.cell,CL.app];rw[agn (by omega)];simp only[cond_false,CL.wide];rw[CL.aaB aP x.2 y (by omega)];congr 1;omega
theorem CL.amb:∀(aP:List CK) {bs:List CK} (x:CL aP) (y:CL bs),CL.wf aP x->CL.wf bs y->CL.wf (aP++bs) (CL.app aP x y)
 |[],_,_,_,_,h=>h|a::aP,bs,x,y,h1,h2=>by
  simp only[CL.wf]at h1;simp only[cons_append,CL.wf,CL.app];exact⟨h1.1,CL.amb aP x.2 y h1.2 h2⟩
theorem auu{α β:Type}(f:α->β)(xs:List α)(d:β)(da:α){i:Nat}(hi:i<xs.length):(xs.map f).getD i d=f (xs.getD i da):=by simp[List.getD,hi]
theorem abU{α:Type}{p:Nat->α->Prop}:∀(n:Nat),(∀i,i<n->∃y,p i y)->∃xs:List α,xs.length=n/\∀i (h:i<xs.length),p i xs[i]
 |0,_=>⟨[],rfl,λi h=>by simp at h⟩
 |n+1,h=>by
  have⟨xs,h1,h2⟩:=abU n (λi hi=>h i (by omega));have⟨y,hy⟩:=h n (by omega);refine⟨xs++[y],by simp[h1],λi hi=> ?_⟩;by_cases bo:i<xs.length;rw[List.getElem_append_left bo];exact h2 i bo;have:i=n:=by simp at hi;omega
  subst this;rw[List.getElem_append_right (by omega)];simpa[h1]using hy
section
variable{H:Type}{enc:TypeId×Value->H}{P:Program}{W:World}{base:Nat}{ρ:Nat->Value}{Hh:aS}
abbrev FD(W:World)(cs:List CK)(y:CL cs)(get:Nat->Option Value):Prop:=∀j,j<CL.wide cs->∃u,get j=some u/\aW (λ_=>False) W (CL.cell cs y j) u
theorem ahX{d n:Nat}{cells:List Value}(ih:∀{t:TypeId} {cs:List CK} {fuel:Nat} {cells:List Value} {x:DataW H×List MemPlace},vS P d t=some cs->DataW.trod enc P W 0 (λ_=>true) true fuel t cells=some x->
 cells.length=CL.wide cs/\∃y:CL cs,CL.wf cs y/\FD W cs y λj=>cells[j]?):
 ∀(fs:List Field) {off:Nat} {cs:List CK},adF P (vS P d) fs off=some cs->(∀f∈fs,∃x,DataW.trod enc P W 0 (λ_=>true) true n f.type ((cells.drop f.offset).take (P.cellsOf f.type))=some x)->
  ∃y:CL cs,CL.wf cs y/\FD W cs y λj=>cells[off+j]?
 |[],off,cs,h,_=>by
  simp only[adF,Option.some.injEq]at h;subst h;exact⟨(),trivial,λj hj=>by simp[CL.wide]at hj⟩
 |f::fs,off,cs,h,hx=>by
  simp only[adF]at h;split at h;rename_i c1 hc1;rw[cond_eq_ite]at h;split at h;rename_i hb;simp only[and_eq_true,beq_eq]at hb;have⟨ho,hw⟩:=hb;obtain⟨c2,hc2,rfl⟩:=map_eq_some_iff.1 h;have⟨x,hf⟩:=hx f (by simp);have⟨h1,y1,h2,h3⟩:=ih hc1 hf;have⟨y2,h4,h5⟩:=ahX ih fs hc2 (λg hg=>hx g (by simp[hg]));refine⟨CL.app c1 y1 y2,CL.amb c1 y1 y2 h2 h4,λj hj=> ?_⟩;rw[CL.adG]at hj;rcases lt_or_ge j (CL.wide c1)with h6|h6;have⟨u,h7,h8⟩:=h3 j h6;refine⟨u, ?_,by rw[CL.aaA c1 y1 y2 h6];exact h8⟩;dsimp only at h7 ⊢;rw[getElem?_take,if_pos (by omega),List.getElem?_drop,ho]at h7;exact h7;have⟨u,h7,h8⟩:=h5 (j - CL.wide c1) (by omega);refine⟨u, ?_,by rw[CL.aaB c1 y1 y2 h6];exact h8⟩;dsimp only at h7 ⊢;rw[show off+j=off+CL.wide c1+(j - CL.wide c1)from by omega];exact h7;cases h;cases h
theorem sn{t e:TypeId}{cs:List CK}{fuel:Nat}{cells:List Value}{x:DataW H×List MemPlace}(ht:P.underlying t=some (.slice e))(hw:P.cellsOf e=CL.wide cs)(h1:1<=CL.wide cs)
 (ih:∀{fuel:Nat} {cells:List Value} {x:DataW H×List MemPlace},DataW.trod enc P W 0 (λ_=>true) true fuel e cells=some x->cells.length=CL.wide cs/\∃y:CL cs,CL.wf cs y/\FD W cs y λj=>cells[j]?)
 (h:DataW.trod enc P W 0 (λ_=>true) true fuel t cells=some x):
 ∃(v:Value) (xs:List (CL cs)),cells=[v]/\xs.length<=maxLen/\(∀y∈xs,CL.wf cs y)/\aW (λ_=>False) W (.ro (.au cs xs)) v:=by
 rcases DataW.trod_slice ht h with⟨rfl,_⟩|⟨a,len,cap,elems,rest,n,_,rfl,_,_,hl,hm,bB,hel,_,_⟩;exact⟨_,[],rfl,zero_le _,by simp,.ro (.au cs []) none 0 (λ_ _=>undef) 0 0 (le_refl _) (zero_le _) (λh=>by simp[aU.n]at h) (λi j hi hj=>by simp[aU.n]at hi) (λi j hi hj=>by simp[aU.n]at hi)⟩
 have each:∀i,i<len->∃y:CL cs,CL.wf cs y/\FD W cs y λj=>W.cell? ((a.add (i*CL.wide cs)).add j):=by
  intro i hi;have h2:=hel i hi;rw[getElem?_eq_getElem (by omega),hw]at h2;have⟨cl,h3,h4⟩:=bind_eq_some_iff.1 h2;have⟨_,h5,h6⟩:=World.cells?_some h3;have⟨_,y,h7,h8⟩:=ih h4;refine⟨y,h7,λj hj=> ?_⟩;have⟨u,h9,vQ⟩:=h8 j hj;exact⟨u,by dsimp only;rw[h6 j (by omega)];exact h9,vQ⟩
 have⟨xs,hx1,hx2⟩:=abU len each;refine⟨_,xs,rfl,by omega,λy hy=> ?_, ?_⟩;obtain⟨i,hi,rfl⟩:=List.getElem_of_mem hy;exact(hx2 i hi).1;have hn:(aU.au cs xs).n=len:=hx1;rcases Nat.eq_zero_or_pos len with h0|h0;have key:=aW.ro (O:=λ_=>False) (w:=W) (.au cs xs) (some a) cap (λ_ _=>undef) 0 0 (by omega) hm (λh=>by omega) (λi j hi hj=>by omega) (λi j hi hj=>by omega);rw[hn]at key;exact key
 have asI:a.spot=none:=by
  have⟨u,h9,_⟩:=(hx2 0 (by omega)).2 0 (by omega);simpa[Addr.add]using World.cell?_spot h9
 have⟨b,off,spot⟩:=a;simp only at asI;subst asI
 have hc:∀i j,i<len->j<CL.wide cs->∃u,W.cell? ⟨b,off+i*CL.wide cs+j,none⟩=some u/\aW (λ_=>False) W (CL.cell cs (xs.getD i (CL.d cs)) j) u:=by
  intro i j hi hj;have⟨u,h9,vQ⟩:=(hx2 i (by omega)).2 j hj;dsimp only at h9;rw[bc,bc]at h9;exact⟨u,h9,by simpa[List.getD,hx1,hi]using vQ⟩
 have key:=aW.ro (O:=λ_=>False) (w:=W) (.au cs xs) (some ⟨b,off,none⟩) cap (λi j=>(W.cell? ⟨b,off+i*CL.wide cs+j,none⟩).getD undef) b off (by omega) hm (λ_=>⟨rfl,λh=>h, ?_⟩) (λi j hi hj=> ?_) (λi j hi hj=> ?_);rw[hn]at key;exact key;have⟨u,h9,_⟩:=hc 0 0 h0 (by omega);rcases lt_or_ge b W.heap.size with h2|h2;exact h2;simp[World.cell?,Array.getElem?_eq_none h2]at h9;have⟨u,h9,_⟩:=hc i j (by omega) hj;show W.cell? ⟨b,off+i*CL.wide cs+j,none⟩=_;rw[h9];rfl;have⟨u,h9,vQ⟩:=hc i j (by omega) hj;rw[h9];exact vQ
theorem wq:∀(d:Nat) {t:TypeId} {cs:List CK} {fuel:Nat} {cells:List Value} {x:DataW H×List MemPlace},vS P d t=some cs->DataW.trod enc P W 0 (λ_=>true) true fuel t cells=some x->
 cells.length=CL.wide cs/\∃y:CL cs,CL.wf cs y/\FD W cs y λj=>cells[j]?
 |0,t,cs,fuel,cells,x,h,_=>by simp[vS]at h
 |d+1,t,cs,fuel,cells,x,h,hd=>by
  simp only[vS]at h
  have one:∀{c:CK} {v:Value} (y:c.V),c.wide=1->CK.wf c y->aW (λ_=>False) W (c.cell y 0) v->([v]:List Value).length=CL.wide [c]/\∃y:CL [c],CL.wf [c] y/\FD W [c] y λj=>([v]:List Value)[j]? :=by
   intro c v y hw hy hv;refine⟨by simp[CL.wide,hw],(y,()),⟨hy,trivial⟩,λj hj=> ?_⟩;simp only[CL.wide,hw]at hj;obtain rfl:j=0:=by omega
   refine⟨v,rfl, ?_⟩;simp only[CL.cell,hw];exact hv
  split at h;rename_i k ht;simp only[Option.some.injEq]at h;subst h;obtain⟨n,rfl,_,hw⟩:=DataW.trod_int ht hd;exact one (c:=.int k) n rfl hw (.int k n);rename_i ht;simp only[Option.some.injEq]at h;subst h;obtain⟨b,rfl,_⟩:=DataW.trod_bool ht hd;exact one (c:=.bool) b rfl trivial (.bool b);rename_i ht;simp only[Option.some.injEq]at h;subst h;obtain⟨s,rfl,_,hs⟩:=DataW.trod_string ht hd;exact one (c:=.str) s rfl hs (.str s);rename_i e ht;split at h;rename_i k he;rw[cond_eq_ite]at h;split at h;rename_i hw;have hw:P.cellsOf e=1:=by simpa using hw
  simp only[Option.some.injEq]at h;subst h
  obtain⟨v,xs,rfl,h0,h1,h2⟩:=sn (cs:=[.int k]) ht hw (le_refl _) (λ{fuel cells x} hx=>by
   obtain⟨n,rfl,_,hwf⟩:=DataW.trod_int he hx;exact one (c:=.int k) n rfl hwf (.int k n)) hd
  refine one (c:=.ah k) (xs.map λy:CL [.int k]=>(show Int from y.1)) rfl ⟨by rw[length_map];exact h0,λn hn=> ?_⟩ (nr (c:=.au [.int k] xs) ?_ rfl ?_ h2);obtain⟨y,hy,rfl⟩:=mem_map.1 hn;exact(h1 y hy).1;exact length_map _;intro i j hi hj;have hj:j<1:=hj;obtain rfl:j=0:=by omega
  have hi:i<xs.length:=hi;exact congrArg (SV.int k) (auu (λy:CL [.int k]=>(show Int from y.1)) xs 0 (CL.d [.int k]) hi);cases h;rename_i he;rw[cond_eq_ite]at h;split at h;rename_i hw;have hw:P.cellsOf e=1:=by simpa using hw
  simp only[Option.some.injEq]at h;subst h
  obtain⟨v,xs,rfl,h0,h1,h2⟩:=sn (cs:=[.str]) ht hw (le_refl _) (λ{fuel cells x} hx=>by
   obtain⟨n,rfl,_,hwf⟩:=DataW.trod_string he hx;exact one (c:=.str) n rfl hwf (.str n)) hd
  refine one (c:=.strs) (xs.map λy:CL [.str]=>(show ByteArray from y.1)) rfl ⟨by rw[length_map];exact h0,λn hn=> ?_⟩ (nr (c:=.au [.str] xs) ?_ rfl ?_ h2);obtain⟨y,hy,rfl⟩:=mem_map.1 hn;exact(h1 y hy).1;exact length_map _;intro i j hi hj;have hj:j<1:=hj;obtain rfl:j=0:=by omega
  have hi:i<xs.length:=hi;exact congrArg (SV.str) (auu (λy:CL [.str]=>(show ByteArray from y.1)) xs empty (CL.d [.str]) hi);cases h;rename_i he;rw[cond_eq_ite]at h;split at h;rename_i hw;have hw:P.cellsOf e=1:=by simpa using hw
  simp only[Option.some.injEq]at h;subst h
  obtain⟨v,xs,rfl,h0,h1,h2⟩:=sn (cs:=[.bool]) ht hw (le_refl _) (λ{fuel cells x} hx=>by
   obtain⟨n,rfl,_⟩:=DataW.trod_bool he hx;exact one (c:=.bool) n rfl trivial (.bool n)) hd
  refine one (c:=.bF) (xs.map λy:CL [.bool]=>(show Bool from y.1)) rfl (by show List.length (List.map _ xs)<=maxLen;rw[length_map];exact h0) (nr (c:=.au [.bool] xs) ?_ rfl ?_ h2);exact length_map _;intro i j hi hj;have hj:j<1:=hj;obtain rfl:j=0:=by omega
  have hi:i<xs.length:=hi;exact congrArg (SV.bool) (auu (λy:CL [.bool]=>(show Bool from y.1)) xs false (CL.d [.bool]) hi);cases h;have⟨jZ,h1,h2⟩:=bind_eq_some_iff.1 h;rw[cond_eq_ite]at h2;split at h2;rename_i hb;simp only[and_eq_true,beq_eq]at hb;have⟨hw,hw1⟩:=hb;have hw1:=le_of_ble_eq_true hw1;simp only[Option.some.injEq]at h2;subst h2;obtain⟨v,xs,rfl,h0,h3,h4⟩:=sn (cs:=jZ) ht hw hw1 (λhx=>wq d h1 hx) hd;exact one (c:=.rows jZ) xs rfl ⟨h0,h3⟩ h4;cases h2;rename_i fs ht;have⟨jZ,h1,h2⟩:=bind_eq_some_iff.1 h;rw[cond_eq_ite]at h2;split at h2;rename_i hw;have hw:P.cellsOf t=CL.wide jZ:=by simpa using hw
  simp only[Option.some.injEq]at h2;subst h2;have⟨xs,n,_,_,h3,h4,h5⟩:=DataW.trod_struct ht hd
  have⟨y,h6,h7⟩:=ahX (enc:=enc) (n:=n) (cells:=cells) (λh1 h2=>wq d h1 h2) fs.toList h1 (λf hf=>by
   obtain⟨i,hi,rfl⟩:=List.getElem_of_mem hf;have fq:i<fs.size:=by simpa using hi
   have:=h5 i fs[i] (Array.getElem?_eq_getElem fq);rw[getElem?_eq_getElem (by omega)]at this;exact⟨_,by simpa using this⟩)
  refine⟨by omega,y,h6,λj hj=> ?_⟩;have:=h7 j hj;simpa using this;cases h2;rename_i n e ht;split at h;rename_i k he;rw[cond_eq_ite]at h;split at h;rename_i hb;simp only[and_eq_true,beq_eq]at hb;have⟨hw,hwt⟩:=hb;simp only[Option.some.injEq]at h;subst h;have⟨xs,m,_,_,h1,h2,h3⟩:=DataW.trod_array ht hd
  have each:∀i,i<n->∃z:Int,(Lit.int k z).wf=true/\cells[i]? =some (.int k z):=by
   intro i hi;have h4:=h3 i hi;rw[getElem?_eq_getElem (by omega),hw]at h4;have⟨z,h5,_,h6⟩:=DataW.trod_int he h4;refine⟨z,h6, ?_⟩;have h7:((cells.drop (i*1)).take 1)[0]? =some (.int k z):=by rw[h5];rfl
   rw[getElem?_take,if_pos (by omega),List.getElem?_drop]at h7;simpa using h7
  have⟨zs,hz1,hz2⟩:=abU n each;refine⟨by simp[CL.wide,CK.wide];omega,(zs,()),⟨⟨hz1,λz hz=> ?_⟩,trivial⟩,λj hj=> ?_⟩;obtain⟨i,hi,rfl⟩:=List.getElem_of_mem (show z∈zs from hz);exact(hz2 i hi).1;simp only[CL.wide,CK.wide,add_zero]at hj;refine⟨.int k zs[j],(hz2 j (by omega)).2, ?_⟩;simp only[CL.cell,CK.wide];rw[abT hj];show aW _ _ (.int k (zs.getD j 0)) _;rw[show zs.getD j 0=zs[j]from by simp[List.getD,hz1,hj]];exact .int k _;cases h;cases h;cases h
def RK.ck:RK->CK
 |.ah k=>.ah k|.strs=>.strs|.bF=>.bF|.au cs=>.rows cs
def B.ck:B->CK
 |.int k=>.int k|.bool=>.bool|.str=>.str|.row r _=>r.ck|.mL r _=>r.ck|.arr k n=>.arr k n|.fn=>.bool
def B.apT:B->Bool
 |.fn=>false|_=>true
def RK.of:(r:RK)->r.ck.V->r.V
 |.ah _,y=>y|.strs,y=>y|.bF,y=>y|.au _,y=>y
def B.of:(b:B)->b.ck.V->b.V
 |.int _,y=>y|.bool,y=>y|.str,y=>y|.row r _,y=>r.of y|.mL r _,y=>r.of y|.arr _ _,y=>y|.fn,_=>(0:Nat)
def RK.wf:(r:RK)->r.V->Prop
 |.ah k,x=>∀n∈x,(Lit.int k n).wf=true|.strs,x=>∀s∈x,ByteArray.size s<=maxLen|.bF,_=>True|.au cs,x=>∀y∈x,CL.wf cs y
def B.wf:(b:B)->b.V->Prop
 |.int k,n=>(Lit.int k n).wf=true|.str,s=>ByteArray.size s<=maxLen|.row r _,x=>r.wf x|.mL r _,x=>r.wf x|.arr k n,ws=>List.length (α:=Int) ws=n/\∀m∈(show List Int from ws),(Lit.int k m).wf=true|_,_=>True
def BL.wf:(bs:List B)->BL bs->Prop
 |[],_=>True|b::bs,(x,y)=>b.wf x/\BL.wf bs y
def Ty.wf:(t:Ty)->t.V->Prop
 |.b q,x=>q.wf x|.st bs,x=>BL.wf bs x
def AL.wf:(ts:List Ty)->AL ts->Prop
 |[],_=>True|t::ts,(x,y)=>t.wf x/\AL.wf ts y
def BL.of:(bs:List B)->CL (bs.map B.ck)->BL bs
 |[],_=>()|b::bs,y=>(b.of y.1,BL.of bs y.2)
theorem B.asJ{b:B}{y:b.ck.V}(h:CK.wf b.ck y):b.wf (b.of y):=by
 cases b with
 |int k=>exact h|bool=>trivial|str=>exact h|row r e=>cases r<;>first|exact h.2|trivial
 |mL r e=>cases r<;>first|exact h.2|trivial
 |arr k n=>exact h|fn=>trivial
theorem B.xU{b:B}(hb:b.apT=true){y:b.ck.V}(hy:CK.wf b.ck y){cells:List Value}(hl:cells.length=b.ck.wide)(h:∀j,j<b.ck.wide->∃u,cells[j]? =some u/\aW (λ_=>False) W (b.ck.cell y j) u):
 aQ ρ Hh (λ_=>False) W (b.av (b.of y)) cells:=by
 have one:b.ck.wide=1->∃u,cells=[u]/\aW (λ_=>False) W (b.ck.cell y 0) u:=by
  intro h1;have⟨u,h2,h3⟩:=h 0 (by omega);rw[h1]at hl
  match cells,hl with
  |[v],_=>simp only[List.getElem?_cons_zero,Option.some.injEq]at h2;subst h2;exact⟨v,rfl,h3⟩
 cases b with
 |int k=>obtain⟨u,rfl,h2⟩:=one rfl;show aQ _ _ _ _ (.s (.int k y)) _;unfold aQ;exact⟨u,rfl,h2⟩
 |bool=>obtain⟨u,rfl,h2⟩:=one rfl;show aQ _ _ _ _ (.s (.bool y)) _;unfold aQ;exact⟨u,rfl,h2⟩
 |str=>obtain⟨u,rfl,h2⟩:=one rfl;show aQ _ _ _ _ (.s (.str y)) _;unfold aQ;exact⟨u,rfl,h2⟩
 |row r e=>
  obtain⟨u,rfl,h2⟩:=one (by cases r<;>rfl);show aQ _ _ _ _ (.s (.ro (r.wm (r.of y)))) _;unfold aQ;exact⟨u,rfl,by cases r<;>exact h2⟩
 |mL r e=>
  obtain⟨u,rfl,h2⟩:=one (by cases r<;>rfl);show aQ _ _ _ _ (.s (.ro (r.wm (r.of y)))) _;unfold aQ;exact⟨u,rfl,by cases r<;>exact h2⟩
 |arr k n=>
  show aQ _ _ _ _ (.ah k n y) _;unfold aQ
  have key:∀ys:List Int,ys.length=n->(∀j,j<n->∃u,cells[j]? =some u/\aW (λ_=>False) W (.int k (ys.getD j 0)) u)->cells.length=n->cells=ys.map (Value.int k):=by
   intro ys h1 h2 h3;refine List.ext_getElem (by rw[h3,length_map,h1]) λj h4 h5=> ?_;have⟨u,h6,h7⟩:=h2 j (by omega);cases h7;rw[getElem?_eq_getElem h4,Option.some.injEq]at h6;rw[h6,List.getElem_map];congr 1;simp[List.getD,show j<ys.length by omega]
  exact⟨hy.1,key y hy.1 h hl⟩
 |fn=>cases hb
theorem BL.xU:∀{bs:List B},bs.all B.apT=true->∀{y:CL (bs.map B.ck)},CL.wf (bs.map B.ck) y->∀{cells:List Value},cells.length=CL.wide (bs.map B.ck)->(FD W (bs.map B.ck) y λj=>cells[j]?)->
 BL.wf bs (BL.of bs y)/\az ρ Hh (λ_=>False) W (BL.av bs (BL.of bs y)) cells
 |[],_,y,_,cells,hl,_=>⟨trivial,aC.2 (List.eq_nil_of_length_eq_zero hl)⟩|b::bs,hb,y,hy,cells,hl,h=>by
  simp only[all_cons,and_eq_true]at hb;simp only[map_cons,CL.wide]at hl;have hy:CK.wf b.ck y.1/\CL.wf (bs.map B.ck) y.2:=hy;have h:∀j,j<b.ck.wide+CL.wide (bs.map B.ck)->∃u,cells[j]? =some u/\aW (λ_=>False) W (bif j.blt b.ck.wide then b.ck.cell y.1 j else CL.cell (bs.map B.ck) y.2 (j - b.ck.wide)) u:=h
  have⟨h1,h2⟩:=BL.xU hb.2 (y:=y.2) hy.2 (cells:=cells.drop b.ck.wide) (by rw[length_drop];omega) (λj hj=>by
   have⟨u,h3,h4⟩:=h (b.ck.wide+j) (by omega);rw[agn (by omega),cond_false,Nat.add_sub_cancel_left]at h4;exact⟨u,by dsimp only;rw[List.getElem?_drop];exact h3,h4⟩)
  refine⟨⟨B.asJ hy.1,h1⟩,ag.2 ⟨cells.take b.ck.wide,cells.drop b.ck.wide,(List.take_append_drop _ _).symm,B.xU hb.1 hy.1 (by rw[length_take];omega) (λj hj=> ?_),h2⟩⟩;have⟨u,h3,h4⟩:=h j (by omega);rw[abT hj,cond_true]at h4;exact⟨u,by rw[getElem?_take,if_pos hj];exact h3,h4⟩
def Ty.lay(P:Program)(t:TypeId):Ty->Bool
 |.b q=>q.apT&&(vS P 12 t).any (λcs=>(CL.eq cs [q.ck]).isSome)&&(match P.underlying t,q with
  |some (.array _ _),.arr _ _=>true|some (.struct _),_=>false|some (.array _ _),_=>false|_,.arr _ _=>false|_,_=>true)
 |.st bs=>bs.all B.apT&&(vS P 12 t).any (λcs=>(CL.eq cs (bs.map B.ck)).isSome)&&(match P.underlying t with
  |some (.struct _)=>true|_=>false)
theorem amc{d:Nat}{t:TypeId}{jZ:List CK}(h:(vS P d t).any (λcs=>(CL.eq cs jZ).isSome)=true):vS P d t=some jZ:=by
 cases hl:vS P d t with
 |none=>simp[hl]at h|some cs=>
  rw[hl,Option.any_some]at h;have⟨e,_⟩:=isSome_iff_exists.1 h;rw[e.down]
theorem amd{t:TypeId}{ty:Ty}{v:Value}{d:DataW H}{ps:List MemPlace}(hl:ty.lay P t=true)(kU:Value.okWide P W .any base t v)(hd:DataW.Trod enc P W 0 (λ_=>true) true t v d ps):
 ∃x:ty.V,ty.wf x/\af ρ Hh (λ_=>False) W (ty.av x) v:=by
 have⟨fuel,hd⟩:=hd;cases ty with
 |st bs=>
  simp only[Ty.lay,and_eq_true]at hl;have⟨⟨h1,h2⟩,h3⟩:=hl;split at h3;rename_i fs ht;simp only[Value.okWide,ht]at kU;obtain⟨cs,rfl,_,_⟩:=kU;have⟨h4,y,h5,h6⟩:=wq 12 (amc h2) hd;have⟨h7,h8⟩:=BL.xU (ρ:=ρ) (Hh:=Hh) h1 h5 h4 h6;refine⟨BL.of bs y,h7, ?_⟩;show af _ _ _ _ (.agg _) _;unfold af;exact⟨cs.toList,by simp,h8⟩;cases h3
 |b q=>
  simp only[Ty.lay,and_eq_true]at hl;have⟨⟨h1,h2⟩,h3⟩:=hl;have⟨h4,y,h5,h6⟩:=wq 12 (amc h2) hd;have h4:v.cells.toList.length=q.ck.wide:=by simpa[CL.wide]using h4
  have h5:CK.wf q.ck y.1:=h5.1
  have key:=B.xU (ρ:=ρ) (Hh:=Hh) h1 h5 h4 (λj hj=>by
   have⟨u,h7,h8⟩:=h6 j (by simp only[CL.wide];omega);simp only[CL.cell]at h8;rw[abT hj,cond_true]at h8;exact⟨u,h7,h8⟩)
  refine⟨q.of y.1,B.asJ h5, ?_⟩;show af _ _ _ _ (q.av _) _
  have single:(∀cs,v≠.agg cs)->(∀k n ws,q.av (q.of y.1)≠.ah k n ws)->af ρ Hh (λ_=>False) W (q.av (q.of y.1)) v:=by
   intro hna hni;have hc:v.cells.toList=[v]:=by cases v<;>first|rfl|exact absurd rfl (hna _)
   rw[hc]at key;have⟨u,hu,_,lL⟩:=fT key (gR hni) hni;cases hu;exact lL
  by_cases aw6:∃k n,q=.arr k n;obtain⟨k,n,rfl⟩:=aw6
  obtain⟨n',e',ht⟩:∃n' e',P.underlying t=some (.array n' e'):=by
   cases hu:P.underlying t with
   |none=>simp[hu]at h3|some td=>cases td<;>simp[hu]at h3 ⊢
  simp only[Value.okWide,ht]at kU;obtain⟨cs,rfl,_,_⟩:=kU;have key:aQ ρ Hh (λ_=>False) W (.ah k n y.1) cs.toList:=key;unfold aQ at key;show af _ _ _ _ (.ah k n y.1) _;unfold af;exact⟨key.1,by rw[<-key.2]⟩
  have gx:(∀fs,P.underlying t≠some (.struct fs))/\∀n e,P.underlying t≠some (.array n e):=by
   cases hu:P.underlying t with
   |none=>simp|some td=>cases td<;>cases q<;>simp_all
  refine single (λcs hv=> ?_) (λk n ws he=> ?_);subst hv;unfold Value.okWide at kU;split at kU;rename_i fs ht;exact gx.1 fs ht;rename_i n e ht;exact gx.2 n e ht;simp only[Cell.okWide,Cell.ok]at kU;split at kU<;>simp_all;cases q<;>simp[B.av]at he;exact aw6 ⟨_,_,rfl⟩
theorem xW{Z:bh}{f:FuncId}{ts:List Ty}{pre:AL ts->List Prop}(h:dF P Z f ts [.b .bool] pre (λ_=>(true,())))(hz:Z.ok W){x:AL ts}{vs:List Value}(hp:bJ (pre x))
 (hd:bL (λ_=>undef) (λ_=>none) (λ_=>False) W (AL.av ts x) vs):Calls P f vs.toArray W λe W'=>e=.returned (.bool true)/\aj6 W W':=by
 have e0:aV (λ_=>undef) (λ_=>none) (λ_=>False)=λ_=>False:=by
  funext b;refine propext ⟨λh=> ?_,False.elim⟩;rcases h with⟨id,o,ho,_⟩|h;cases ho;exact h
 refine(h x (AL.okL hd) hp (λ_=>False) W vs (λ_ h=>h.elim) hz (by rw[e0];exact hd)).mono ?_;rintro e W' ⟨v,rfl,aL,_,h2,_,h4⟩;have h5:af aL (lk []) (aV aL (lk []) λ_=>False) W' (.s (.bool true)) v:=h2;have h6:=ax (by simp) h5;cases h6;exact⟨rfl,h4.os,h4.output,λb hb=>h4.heap b hb (λ⟨id,o,ho,_⟩=>by cases ho)⟩
end
end Go.Sx
namespace Go.Sx
open Go
theorem ame(P:Program)(r:List (List Char))(h:behindMainWord (wordsSigns P.initOrder.toList)=[(Char.ofNat 99),(Char.ofNat 117),(Char.ofNat 116)]::r):P.make=some .cut:=by
 unfold Program.make;rw[h];kernel_rfl
theorem aj9(P:Program)(r:List (List Char))(h:behindMainWord (wordsSigns P.initOrder.toList)=[(Char.ofNat 99),(Char.ofNat 117),(Char.ofNat 116)]::r)(hs:stripLifts liftWords ([(Char.ofNat 99),(Char.ofNat 117),(Char.ofNat 116)]::r)=([],[(Char.ofNat 99),(Char.ofNat 117),(Char.ofNat 116)]::r)):P.liftsFinal=false:=by
 unfold Program.liftsFinal Program.headLifts;rw[h];dsimp only;rw[hs];kernel_rfl
theorem aka(P:Program)(r:List (List Char))(h:behindMainWord (wordsSigns P.initOrder.toList)=[(Char.ofNat 99),(Char.ofNat 117),(Char.ofNat 116)]::r)(hs:stripLifts liftWords ([(Char.ofNat 99),(Char.ofNat 117),(Char.ofNat 116)]::r)=([],[(Char.ofNat 99),(Char.ofNat 117),(Char.ofNat 116)]::r))
 (h1:P.laysLater=false) (h2:P.bearsReflect=false) (h3:P.doorFits []=true):P.mayEnter=true:=by
 unfold Program.mayEnter;rw[h];dsimp only;rw[hs,h1,h2];dsimp only;rw[h3];kernel_rfl
def xX(P:Program)(f:FuncId)(fn:Func)(s:ChangeSpec)(c:OpenClaim):{b:Bool // P.mayEnter=true->P.liftsFinal=false->P.make=some .cut->joinedFacts P f fn s c=b}:=by
 refine⟨?b,λh1 h2 h3=> ?h⟩
 case h=>
  unfold joinedFacts;rw[h1,h2,h3]
theorem ago{P:Program}{f:FuncId}{fn:Func}{s:ChangeSpec}{c:OpenClaim}(r:List (List Char))(h:behindMainWord (wordsSigns P.initOrder.toList)=[(Char.ofNat 99),(Char.ofNat 117),(Char.ofNat 116)]::r)(hs:stripLifts liftWords ([(Char.ofNat 99),(Char.ofNat 117),(Char.ofNat 116)]::r)=([],[(Char.ofNat 99),(Char.ofNat 117),(Char.ofNat 116)]::r))
 (h1:P.laysLater=false) (h2:P.bearsReflect=false) (h3:P.doorFits []=true) (hr:(xX P f fn s c).1=true):joinedFacts P f fn s c=true:=
 ((xX P f fn s c).2 (aka P r h hs h1 h2 h3) (aj9 P r h hs) (ame P r h)).trans hr
end Go.Sx
namespace Go.Proofs.YtgookenhmddbfaaGreatDoor.Hd
set_option maxRecDepth 100000 in
def ioL:List Char:=[104,97,114,110,101,115,115,32,55,50,102,50,99,52,55,97,54,55,99,50,52,55,98,48,55,54,98,101,53,101,101,97,97,49,53,99,99,57,54,50,100,50,51,52,98,50,97,101,98,57,51,57,50,57,52,100,51,53,56,98,97,57,54,53,101,48,48,99,102,102,50,48,32,99,117,116,32,97,116,32,99,97,108,108,98,111,97,114,100,47,99,97,108,108,98,111,97,114,100,108,97,119,48,56,46,83,116,111,114,101,67,114,97,115,104].map Char.ofNat
set_option maxRecDepth 100000 in
theorem ioE:Tryz.prog.initOrder=String.ofList ioL:=by kernel_rfl
theorem ioT:Tryz.prog.initOrder.toList=ioL:=by rw[ioE];exact String.toList_ofList
def ahY:List (List Char):=(wordsSigns ioL).drop 3
theorem hb:behindMainWord (wordsSigns Tryz.prog.initOrder.toList)=[Char.ofNat 99,Char.ofNat 117,Char.ofNat 116]::ahY:=by rw[ioT];kernel_rfl
theorem a1:Tryz.prog.laysLater=false:=by kernel_rfl
theorem a2:Tryz.prog.bearsReflect=false:=by kernel_rfl
theorem a3:stripLifts liftWords ([Char.ofNat 99,Char.ofNat 117,Char.ofNat 116]::ahY)=([],[Char.ofNat 99,Char.ofNat 117,Char.ofNat 116]::ahY):=by kernel_rfl
theorem a5:Tryz.prog.doorFits []=true:=by kernel_rfl
theorem aq:ownKnob Tryz.prog.godebug=none:=by kernel_rfl
theorem laidOut:laidOutB Tryz.prog=true:=by kernel_rfl
end Go.Proofs.YtgookenhmddbfaaGreatDoor.Hd
namespace Go.Sx
open Go
structure Spec (X:Type)where
 args:X->List AV
 heap:X->List ak
 pre:X->List Prop
 dN:X->List ak
 out:X->AV
def fI(P:Program)(Z:bh)(f:FuncId){X:Type}(S:Spec X):Prop:=
 ∀x,bJ (S.pre x)->∀(ρ:Nat->Value) (G:Nat->Prop) (w:World) (vs:List Value),ZAt Z ρ (lk (S.heap x)) w->Sat ρ (lk (S.heap x)) G w->
  bL ρ (lk (S.heap x)) (aV ρ (lk (S.heap x)) G) w (S.args x) vs->
  Calls P f vs.toArray w λe w'=>∃v,e=.returned v/\Good ρ (lk (S.heap x)) G w (lk (S.dN x)) (S.out x) v w'
def dO{X:Type}(S:Spec X)(x:X)(L:List ak)(r:AV):Prop:=
 ∃N:Norm,(S.heap x).length<=N.m/\N.run ⟨[r],L,[],{}⟩=some ⟨[S.out x],S.dN x,[],{}⟩
def RM.bind{α β:Type}:RM α->(α->RM β)->RM β
 |.ret a,k=>k a|.look id f,k=>.look id λo=>(f o).bind k|.fail w,_=>.fail w
def sq:List Nat->(List ak->RM bQ)->RM bQ
 |[],k=>k []|i::is,k=>.look i λo=>match o with
  |some o=>sq is λos=>k (o::os)|none=>.fail ""
def back(σ:List Nat)(base n:Nat)(j:Nat):Option Nat:=bif j.blt σ.length then σ[j]? else bif j.blt n then some (base+(j - σ.length))else none
def bY{X:Type}(S:Spec X)(M:List AV->RM (X×List Nat)):Nat->List AV->RM bQ:=λbase args=>
 (M args).bind λ(x,σ)=>bif ui σ then sq σ λos=>
   (match allM (xH (back σ base (S.dN x).length)) (S.dN x),rn (back σ base (S.dN x).length) 20 (S.out x)with
    |some L',some r=>bif σ.length.ble L'.length then
     .ret ⟨(allM (rn (idx σ) 20) args=some (S.args x))::(allM (xH (idx σ)) os=some (S.heap x))::S.pre x,σ.zip L',L'.drop σ.length,λ_=>r⟩else .fail ""
    |_,_=>.fail "")
  else .fail ""
section
variable{ρ aL:Nat->Value}{H H':aS}{G O O':Nat->Prop}{w w':World}{P:Program}{Z:bh}{X:Type}{S:Spec X}
theorem RM.pT{α β:Type}:∀{m:RM α} {k:α->RM β} {q:β},(m.bind k).eval H=some q->∃a,m.eval H=some a/\(k a).eval H=some q
 |.ret a,k,q,h=>⟨a,rfl,h⟩|.look id f,k,q,h=>by
  simp only[RM.bind,RM.eval]at h ⊢;exact RM.pT h
 |.fail w,k,q,h=>by simp[RM.bind,RM.eval]at h
theorem nv:∀{is:List Nat} {k:List ak->RM bQ} {q:bQ},(sq is k).eval H=some q->∃os:List ak,(k os).eval H=some q/\os.length=is.length/\∀(j id:Nat),is[j]? =some id->H id=os[j]? /\os[j]?.isSome=true
 |[],k,q,h=>⟨[],h,rfl,λj id hj=>by simp at hj⟩
 |i::is,k,q,h=>by
  simp only[sq,RM.eval]at h;split at h;rename_i o ho;have⟨os,h1,h2,h3⟩:=nv h;refine⟨o::os,h1,by simp[h2],λj id hj=> ?_⟩;cases j with
  |zero=>simp only[List.getElem?_cons_zero,Option.some.injEq]at hj;subst hj;exact⟨by simpa using ho,rfl⟩
  |succ j=>simpa using h3 j id (by simpa using hj)
  simp[RM.eval]at h
theorem adH{f:FuncId}{fn:Func}(hf:P.funcs[f]? =some fn)(hb:fn.body.isSome=true)(hn:∀x,(S.args x).length<=fn.ntmps)
 (h:∀x,bJ (S.pre x)->∀X:Ctx,X.H=lk (S.heap x)->dZ Z X->Safe P f X (dO S x) (start fn (S.args x) (S.heap x))):fI P Z f S:=by
 intro x mK ρ G w vs hz hs hd;have⟨c,hb⟩:=isSome_iff_exists.1 hb
 have pa:vs.length=(S.args x).length:=by
  have:∀{aP:List AV} {vs:List Value},bL ρ (lk (S.heap x)) (aV ρ (lk (S.heap x)) G) w aP vs->vs.length=aP.length:=by
   intro aP
   induction aP with
   |nil=>intro vs h;rw[a8.1 h];rfl
   |cons a aP ih=>intro vs h;obtain⟨v,rest,rfl,_,h2⟩:=aD.1 h;simp[ih h2]
  exact this hd
 refine(jq (R:=kp ⟨ρ,lk (S.heap x),G,w,[]⟩ (dO S x)) hf hb ?_).mono ?_;have:=(h x mK ⟨ρ,lk (S.heap x),G,w,[]⟩ rfl hz).goes rfl rfl (ρ:=ρ) (a:={tmps:=vs.toArray++Array.replicate (fn.ntmps - vs.toArray.size) undef,defers:=[]}) (w:=w);simp only[start,hb,getD_some]at this;refine this ⟨hs, ?_,λt=> ?_,rfl,Step.refl _ _ _ _,⟨rfl,rfl,rfl,λ_ _ _=>rfl⟩,λx hx=>by cases hx⟩;simp[pa]
 have e1:∀(aP:List AV) (vs:List Value),bL ρ (lk (S.heap x)) (aV ρ (lk (S.heap x)) G) w aP vs->∀t,af ρ (lk (S.heap x)) (aV ρ (lk (S.heap x)) G) w (aP.getD t (.bq [])) (vs.getD t undef):=by
  intro aP
  induction aP with
  |nil=>intro vs h t;rw[a8.1 h];simp only[List.getD,List.getElem?_nil,Option.getD_none];exact cz
  |cons a aP ih=>
   intro vs h t;obtain⟨v,rest,rfl,h1,h2⟩:=aD.1 h;cases t with
   |zero=>simpa using h1|succ t=>simpa using ih rest h2 t
 have h1:=e1 _ _ hd t;simp only[List.getD_eq_getElem?_getD,List.getElem?_append,List.getElem?_replicate,getD_eq_getD_getElem?,Array.getElem?_append,List.getElem?_toArray,Array.getElem?_replicate,List.size_toArray]at h1 ⊢;rw[pa];split;rename_i ht;have hv:vs[t]? =some vs[t]:=getElem?_eq_getElem (by omega);have ha:(S.args x)[t]? =some (S.args x)[t]:=getElem?_eq_getElem ht;rw[hv,ha]at h1 ⊢;exact h1;split;exact cz;unfold af;trivial;rintro e w' ⟨v,rfl,L,r,⟨N,hm,hN⟩,jG,g1,g2,g3,g4⟩;refine⟨v,rfl, ?_⟩
 have r0:cg ⟨ρ,lk (S.heap x),G,w,[]⟩ jG ⟨[r],L⟩ {tmps:= #[v],defers:=[]} w':=by
  refine⟨g1,rfl,λt=> ?_,rfl,g3,g4,λx hx=>by cases hx⟩;cases t with
  |zero=>exact g2|succ t=>simp only[List.getD,Array.getD];simp;unfold af;trivial
 have h0:∀id,N.m<=id->(⟨ρ,lk (S.heap x),G,w,[]⟩:Ctx).H id=none:=λid dq=>by simp[lk];omega
 unfold Norm.run at hN;split at hN;rename_i t1 L1 h1;simp only[]at hN;split at hN;rename_i t2 L2 h2;simp only[Option.some.injEq,bP.mk.injEq,and_true]at hN;obtain⟨rfl,rfl⟩:=hN;have⟨jG,r1⟩:=cg.gi h0 h1 (cg.eR N.keep r0);have⟨gw,r2⟩:=cg.gF N.qI r1;have⟨ρ3,r3⟩:=cg.gG N.cells r2;have⟨ρ4,r4⟩:=cg.gi h0 h2 r3;exact⟨ρ4,r4.sat,(by have h:=r4.den 0;exact h),r4.ao,r4.jF⟩;cases hN;cases hN
theorem sr:∀{σ:List Nat} {L:List ak} {j:Nat},σ.Nodup->σ.length<=L.length->
 (∀(i:Nat),σ[i]? =some j->cw (σ.zip L) j=L[i]?)/\(j ∉ σ->cw (σ.zip L) j=none)
 |[],L,j,hn,hl=>⟨λi h=>by simp at h,λ_=>rfl⟩|x::xs,[],j,hn,hl=>by simp at hl
 |x::xs,l::ls,j,hn,hl=>by
  have⟨h1,h2⟩:=sr (σ:=xs) (L:=ls) (j:=j) (List.nodup_cons.1 hn).2 (by simpa using hl);constructor;intro i hi;simp only[List.zip_cons_cons,cw];cases i with
  |zero=>
   simp only[List.getElem?_cons_zero,Option.some.injEq]at hi;subst hi;rw[h2 (List.nodup_cons.1 hn).1];simp
  |succ i=>
   simp only[List.getElem?_cons_succ]at hi ⊢;rw[h1 i hi];have bo:i<xs.length:=(List.getElem?_eq_some_iff.1 hi).1;simp only[length_cons]at hl;rw[getElem?_eq_getElem (show i<ls.length by omega)]
  intro hj;simp only[mem_cons,not_or]at hj;simp only[List.zip_cons_cons,cw];rw[h2 hj.2];simp[hj.1]
theorem fI.sum{f:FuncId}(h:fI P Z f S)(M:List AV->RM (X×List Nat)):re P Z f (bY S M):=by
 intro base args H q hq hn ρ G w vs dA hz hs hd;unfold bY at hq;have⟨⟨x,σ⟩,_,hq⟩:=RM.pT hq;simp only[cond_eq_ite]at hq;split at hq;rename_i iq;have iq:=lW iq;have⟨os,hq,bB,hos⟩:=nv hq;split at hq;rename_i L' r hL' hr;split at hq;rename_i hle;have hle:=le_of_ble_eq_true hle;simp only[RM.eval,Option.some.injEq]at hq;subst hq;have⟨gu,iB,mK⟩:=hn;simp only[]at dA ⊢
 have cO:∀{j:Nat} {o':ak},(S.heap x)[j]? =some o'->∃(id:Nat) (o:ak),σ[j]? =some id/\H id=some o/\xH (idx σ) o=some o':=by
  intro j o' dH;have hl:=ia iB;have hj:j<os.length:=by rw[<-hl];exact(List.getElem?_eq_some_iff.1 dH).1
  have⟨b,g1,g2⟩:=gE iB j os[j] (getElem?_eq_getElem hj);rw[dH]at g2;cases g2;have wj:j<σ.length:=by omega
  have:=(hos j σ[j] (getElem?_eq_getElem wj)).1;exact⟨σ[j],os[j],getElem?_eq_getElem wj,by rw[this,getElem?_eq_getElem hj],g1⟩
 have qg:∀{j id:Nat},σ[j]? =some id->∃o o',H id=some o/\xH (idx σ) o=some o'/\(S.heap x)[j]? =some o':=by
  intro j id hj;have⟨g1,g2⟩:=hos j id hj;have⟨o,ho⟩:=isSome_iff_exists.1 g2;have⟨b,g3,g4⟩:=gE iB j o ho;exact⟨o,b,g1.trans ho,g3,g4⟩
 have o8:∀{j id:Nat},σ[j]? =some id->pull σ ρ j=ρ id:=λh1=>by simp[pull,List.getD,h1]
 have ei:∀{b:Nat},Own (pull σ ρ) (lk (S.heap x)) b->∃(j id:Nat) (o:ak),σ[j]? =some id/\H id=some o/\o.alive=true/\eW (ρ id)=some b:=by
  rintro b ⟨j,o',dH,ha,hb⟩;have⟨id,o,h1,h2,h3⟩:=cO dH;rw[o8 h1]at hb;exact⟨j,id,o,h1,h2,by rw[<-(cT h3).1];exact ha,hb⟩
 let G':Nat->Prop:=λb=>aV ρ H G b/\¬Own (pull σ ρ) (lk (S.heap x)) b
 have E:Emb (idx σ) ρ H (aV ρ H G) (pull σ ρ) (lk (S.heap x)) (aV (pull σ ρ) (lk (S.heap x)) G'):=by
  refine⟨λi j ma=> ?_,λb hb=> ?_⟩;have h1:=adr ma;refine⟨o8 h1,λo ho=> ?_⟩;have⟨o1,o',h2,h3,h4⟩:=qg h1;rw[ho]at h2;cases h2;exact⟨o',h4,(cT h3).2⟩;rcases hb with hb|hb;have⟨j,id,o,h1,h2,h3,h4⟩:=ei hb;exact .inl ⟨id,o,h2,h3,h4⟩;exact hb.1
 have azA:Sat (pull σ ρ) (lk (S.heap x)) G' w:=by
  refine⟨λj o' dH=> ?_,λi j oi oj b hi hj ai aj bi bj=> ?_,λb hb hG=>hG.2 hb,λb hb=>abj hs hb.1⟩;have⟨id,o,h1,h2,h3⟩:=cO dH;rw[o8 h1];exact abP E h3 (hs.obj id o h2);have⟨id,o,h1,h2,h3⟩:=cO hi;have⟨id',o',h1',h2',h3'⟩:=cO hj;rw[o8 h1]at bi;rw[o8 h1']at bj;have:=hs.inj id id' o o' b h2 h2' (by rw[<-(cT h3).1];exact ai) (by rw[<-(cT h3').1];exact aj) bi bj;subst this;have⟨hi1,hi2⟩:=List.getElem?_eq_some_iff.1 h1;have⟨hj1,wj⟩:=List.getElem?_eq_some_iff.1 h1';exact(List.getElem_inj iq).1 (hi2.trans wj.symm)
 have hz':ZAt Z (pull σ ρ) (lk (S.heap x)) w:=⟨hz.1,λb hb ho=>by
  have⟨j,id,o,h1,h2,h3,h4⟩:=ei ho;exact hz.2 b hb ⟨id,o,h2,h3,h4⟩⟩
 have hd':=wk E gu hd;refine(h x mK (pull σ ρ) G' w vs hz' azA hd').mono ?_;rintro e w' ⟨v,he,jG,g1,g2,g3,g4⟩;refine⟨v,he, ?_⟩;have aBk:=ia hL';generalize hn0:(S.dN x).length=n0 at *
 have rb:∀{j:Nat},σ.length<=j->j<n0->H (base+(j - σ.length))=none:=by
  intro j h1 h2;exact dA (j - σ.length) (by simp;omega)
 have apU:∀{id:Nat} {o:ak},H id=some o->¬(base<=id/\id<base+(L'.length - σ.length)):=by
  intro id o ho hc;have:=rb (j:=σ.length+(id - base)) (by omega) (by omega);rw[show base+(σ.length+(id - base) - σ.length)=id from by omega,ho]at this;cases this
 let gw:Nat->Value:=λid=>if base<=id/\id<base+(L'.length - σ.length)then jG (σ.length+(id - base))else ρ id
 let H2:=cY H (σ.zip L') base (L'.drop σ.length)
 have hL1:∀{j:Nat} {o2:ak},L'[j]? =some o2->∃o,(S.dN x)[j]? =some o/\xH (back σ base n0) o=some o2:=by
  intro j o2 h1;have hj:j<(S.dN x).length:=by have:=(List.getElem?_eq_some_iff.1 h1).1;omega
  have⟨b,h2,h3⟩:=gE hL' j (S.dN x)[j] (getElem?_eq_getElem hj);rw[h1]at h3;cases h3;exact⟨_,getElem?_eq_getElem hj,h2⟩
 have asL:∀{j id:Nat},σ[j]? =some id->gw id=ρ id/\jG j=ρ id:=by
  intro j id hj;have⟨o,o',h1,h2,h3⟩:=qg hj;refine⟨?_, ?_⟩;simp only[gw];rw[if_neg (apU h1)];rw[g3.wR j o' h3,o8 hj]
 have auv:∀{j id:Nat},σ[j]? =some id->H2 id=L'[j]? :=by
  intro j id hj;have bo:j<σ.length:=(List.getElem?_eq_some_iff.1 hj).1;have:=(sr (σ:=σ) (L:=L') (j:=id) iq hle).1 j hj;simp only[H2,cY,this];rw[getElem?_eq_getElem (show j<L'.length by omega)]
 have hni:∀{id:Nat},(base<=id/\id<base+(L'.length - σ.length))->id ∉ σ:=by
  intro id hc hm;have⟨i,hi⟩:=List.getElem?_of_mem hm;have⟨o,_,h3,_⟩:=qg hi;exact apU h3 hc
 have aw7:∀{id:Nat},(base<=id/\id<base+(L'.length - σ.length))->H2 id=L'[σ.length+(id - base)]? :=by
  intro id hc;simp only[H2,cY,(sr (σ:=σ) (L:=L') iq hle).2 (hni hc)];rw[if_pos (by simp only[length_drop];exact hc)];simp only[List.getElem?_drop]
 have aw8:∀{id:Nat},id ∉ σ->¬(base<=id/\id<base+(L'.length - σ.length))->H2 id=H id:=by
  intro id h1 h2;simp only[H2,cY,(sr (σ:=σ) (L:=L') iq hle).2 h1];rw[if_neg (by simp only[length_drop];exact h2)]
 have cls:∀{id:Nat} {o2:ak},H2 id=some o2->(∃(j:Nat) (o:ak),(S.dN x)[j]? =some o/\xH (back σ base n0) o=some o2/\gw id=jG j/\back σ base n0 j=some id)\/(id ∉ σ/\H id=some o2/\gw id=ρ id):=by
  intro id o2 ho;by_cases hm:id∈σ;have⟨j,hj⟩:=List.getElem?_of_mem hm;rw[auv hj]at ho;have⟨o,h1,h2⟩:=hL1 ho;have⟨h3,h4⟩:=asL hj;exact .inl ⟨j,o,h1,h2,by rw[h3,h4],by simp only[back,nJ (List.getElem?_eq_some_iff.1 hj).1,cond_true];exact hj⟩;by_cases hc:base<=id/\id<base+(L'.length - σ.length);rw[aw7 hc]at ho;have⟨o,h1,h2⟩:=hL1 ho;refine .inl ⟨_,o,h1,h2,by simp only[gw];rw[if_pos hc], ?_⟩;simp only[back,rP (show σ.length<=σ.length+(id - base)by omega),cond_false,nJ (show σ.length+(id - base)<n0 by omega),cond_true];congr 1;omega;rw[aw8 hm hc]at ho;exact .inr ⟨hm,ho,by simp only[gw];rw[if_neg hc]⟩
 have xY:∀{id b:Nat} {o:ak},id ∉ σ->H id=some o->o.alive=true->eW (ρ id)=some b->¬Own (pull σ ρ) (lk (S.heap x)) b:=by
  intro id b o hm ho ha hb hv;have⟨j,id',o',h1,h2,h3,h4⟩:=ei hv;have:=hs.inj id id' o o' b ho h2 ha h3 hb h4;subst this;exact hm (List.mem_of_getElem? h1)
 have aw9:∀{b:Nat},G b->G' b:=λ{b} hb=>⟨.inr hb,λhv=>by
  have⟨j,id',o',h1,h2,h3,h4⟩:=ei hv;exact hs.apart b ⟨id',o',h2,h3,h4⟩ hb⟩
 have axa:∀{b:Nat},Own gw H2 b->Own jG (lk (S.dN x)) b\/(Own ρ H b/\G' b):=by
  rintro b ⟨id,o2,ho,ha,hb⟩;rcases cls ho with⟨j,o,h1,h2,h3,_⟩|⟨h1,h2,h3⟩;exact .inl ⟨j,o,h1,by rw[<-(cT h2).1];exact ha,by rw[<-h3];exact hb⟩;rw[h3]at hb;exact .inr ⟨⟨id,o2,h2,ha,hb⟩,.inl ⟨id,o2,h2,ha,hb⟩,xY h1 h2 ha hb⟩
 have E2:Emb (back σ base n0) jG (lk (S.dN x)) (aV jG (lk (S.dN x)) G') gw H2 (aV gw H2 G):=by
  refine⟨λi j ma=> ?_,λb hb=> ?_⟩;simp only[back,cond_eq_ite]at ma;split at ma;rename_i bo;have⟨h3,h4⟩:=asL ma;refine⟨by rw[h3,h4],λo ho=> ?_⟩;have⟨b,h5,h6⟩:=gE hL' i o ho;exact⟨b,by rw[auv ma];exact h6,(cT h5).2⟩;rename_i hge;split at ma;rename_i bo;have bo:i<n0:=le_of_ble_eq_true bo
  have hge:σ.length<=i:=by
   rcases lt_or_ge i σ.length with h5|h5;exact absurd (nJ h5) hge;exact h5
  simp only[Option.some.injEq]at ma;have hc:base<=j/\j<base+(L'.length - σ.length):=by omega
  have hi:σ.length+(j - base)=i:=by omega
  refine⟨by simp only[gw];rw[if_pos hc,hi],λo ho=> ?_⟩;have⟨b,h5,h6⟩:=gE hL' i o ho;exact⟨b,by rw[aw7 hc,hi];exact h6,(cT h5).2⟩;cases ma;rcases hb with hb|hb;exact(axa hb).imp (λh=>h) (λh=>h.2);exact .inr (aw9 hb)
 have st:Step ρ H (aV ρ H G) w gw H2 (aV gw H2 G) w':=by
  refine⟨λid o ho=>by simp only[gw];rw[if_neg (apU ho)],λid o ho=> ?_,λb hb=> ?_,λb hb hO=>g3.heap b hb (λhv=>hO (E.gq b hv)),g3.size⟩;by_cases hm:id∈σ;have⟨j,hj⟩:=List.getElem?_of_mem hm;have⟨o1,o',h1,h2,h3⟩:=qg hj;rw[ho]at h1;cases h1;have⟨o'',h4,h5⟩:=g3.keep j o' h3;have⟨o3,h6,h7⟩:=gE hL' j o'' h4;refine⟨o3,by rw[auv hj];exact h7,λc' e' hc=> ?_⟩;have⟨c,e1,h8,h9,vQ⟩:=h5 c' e' ((cT h6).2 c' e' hc);exact⟨c,e1,(cT h2).2 c e1 h8,h9,vQ⟩;exact⟨o,by rw[aw8 hm (apU ho)];exact ho,λc' e' hc=>⟨c',e',hc,rfl,rfl⟩⟩;rcases g3.gq b (E2.gq b hb)with h5|h5;exact .inl (E.gq b h5);exact .inr h5
 refine⟨gw,⟨λid o2 ho=> ?_,λi j oi oj b hi hj ai aj bi bj=> ?_,λb hb hG=> ?_,λb hb=>Nat.lt_of_lt_of_le (hs.low b hb) g3.size⟩,(xI E2 20).1 _ _ _ hr g2,st,⟨g4.os,g4.tape,g4.output,λb hb hO=>g4.heap b hb (λhv=> ?_)⟩⟩;rcases cls ho with⟨j,o,h1,h2,h3,_⟩|⟨h1,h2,h3⟩;rw[h3];exact abP E2 h2 (g1.obj j o h1);rw[h3];refine(hs.obj id o2 h2).step st (λb ha hb=> ?_);exact g4.heap b (gQ hs ⟨id,o2,h2,ha,hb⟩) (xY h1 h2 ha hb)
 have mixed:∀{b:Nat},Own jG (lk (S.dN x)) b->∀{id:Nat} {o:ak},id ∉ σ->H id=some o->o.alive=true->eW (ρ id)=some b->False:=by
  intro b h1 id o h2 h3 h4 h5;have hG:G' b:=⟨.inl ⟨id,o,h3,h4,h5⟩,xY h2 h3 h4 h5⟩;exact g1.apart b h1 hG
 rcases cls hi with⟨j1,o1,p1,p2,p3,p4⟩|⟨p1,p2,p3⟩;rw[p3]at bi;have a1:o1.alive=true:=by rw[<-(cT p2).1];exact ai
 rcases cls hj with⟨j2,o2,q1,q2,q3,q4⟩|⟨q1,q2,q3⟩;rw[q3]at bj;have:=g1.inj j1 j2 o1 o2 b p1 q1 a1 (by rw[<-(cT q2).1];exact aj) bi bj;subst this;rw[p4]at q4;exact Option.some.inj q4;rw[q3]at bj;exact(mixed ⟨j1,o1,p1,a1,bi⟩ q1 q2 aj bj).elim;rw[p3]at bi;rcases cls hj with⟨j2,o2,q1,q2,q3,q4⟩|⟨q1,q2,q3⟩;rw[q3]at bj;exact(mixed ⟨j2,o2,q1,by rw[<-(cT q2).1];exact aj,bj⟩ p1 p2 ai bi).elim;rw[q3]at bj;exact hs.inj i j oi oj b p2 q2 ai aj bi bj;rcases axa hb with h5|h5;exact g1.apart b h5 (aw9 hG);exact hs.apart b h5.1 hG;have⟨j,id,o,h1,h2,h3,h4⟩:=ei hv;exact hO ⟨id,o,h2,h3,h4⟩;simp[RM.eval]at hq;simp[RM.eval]at hq;simp[RM.eval]at hq
end
instance {k:IntKind} {n:Nat}:DecidableEq (CK.arr k n).V:=inferInstanceAs (DecidableEq (List Int))
instance {k:IntKind}:DecidableEq (CK.ah k).V:=inferInstanceAs (DecidableEq (List Int))
instance {k:IntKind}:DecidableEq (CK.int k).V:=inferInstanceAs (DecidableEq Int)
instance:DecidableEq CK.str.V:=inferInstanceAs (DecidableEq ByteArray)
instance:DecidableEq CK.bool.V:=inferInstanceAs (DecidableEq Bool)
abbrev el{cs:List CK}(l:List (CL cs))(i:Int):CL cs:=l.getD i.toNat (CL.d cs)
abbrev bp{α:Type}(a:α):Prop:=a=a
abbrev adI:Prop:=(some []:Option (List ak))=some []
section
variable{K:List ak->AV->Prop}{C:bP->Prop}{t e:Tree}{p q:Prop}
theorem amf{α:Type}{a:α}(h:t.Holds K C):(Tree.ab (a=a) t).Holds K C:=⟨rfl,h⟩
theorem xZ(hp:p)(h:t.Holds K C):(Tree.ab p t).Holds K C:=⟨hp,h⟩
theorem adJ{d:Decidable p}(h1:p->t.Holds K C)(h2:¬p->e.Holds K C):(Tree.ite (@decide p d) t e).Holds K C:=⟨λh=>h1 (of_decide_eq_true h),λh=>h2 (of_decide_eq_false h)⟩
theorem adK{a b:Int}(h1:a=b->t.Holds K C)(h2:a≠b->e.Holds K C):(Tree.ite (a==b) t e).Holds K C:=⟨λh=>h1 (by simpa using h),λh=>h2 (by simpa using h)⟩
theorem adL{a b:Int}(h1:a≠b->t.Holds K C)(h2:a=b->e.Holds K C):(Tree.ite (a !=b) t e).Holds K C:=⟨λh=>h1 (by simpa using h),λh=>h2 (by simpa using h)⟩
theorem adM{b:Bool}(h:(Tree.ite b e t).Holds K C):(Tree.ite (!b) t e).Holds K C:=⟨λhb=>h.2 (by simpa using hb),λhb=>h.1 (by simpa using hb)⟩
theorem amg(h:t.Holds K C):(Tree.ite true t e).Holds K C:=⟨λ_=>h,λx=>(by cases x)⟩
theorem amh(h:e.Holds K C):(Tree.ite false t e).Holds K C:=⟨λx=>(by cases x),λ_=>h⟩
theorem adN{b:Bool}(h1:b=true->t.Holds K C)(h2:b=false->e.Holds K C):(Tree.ite b t e).Holds K C:=⟨h1,h2⟩
theorem x6(h1:p->t.Holds K C)(h2:q->e.Holds K C):(Tree.both p q t e).Holds K C:=⟨h1,h2⟩
theorem adO{H:List ak}{v:AV}(h:K H v):(Tree.ret H v).Holds K C:=h
theorem ami{c:bP}(h:C c):(Tree.at c).Holds K C:=h
theorem bD{X:Type}{S:Spec X}{x:X}{L:List ak}{r:AV}{o:AV}{h:List ak}(m:Nat)(e:Norm.run ⟨[],[0],m,[]⟩ ⟨[r],L,[],{}⟩=some ⟨[o],h,[],{}⟩)(hm:(S.heap x).length<=m)(ho:S.out x=o)(hh:S.dN x=h):dO S x L r:=
 ⟨⟨[],[0],m,[]⟩,hm,by rw[ho,hh];exact e⟩
theorem fS{P:Program}{Z:bh}{X:Type}{S:Spec X}{f:FuncId}{fn:Func}(hf:P.funcs[f]? =some fn)(h:∀x,bJ (S.pre x)->∀X:Ctx,X.H=lk (S.heap x)->dZ Z X->Safe P f X (dO S x) (start fn (S.args x) (S.heap x)))
 (hb:fn.body.isSome=true:=by kernel_rfl) (hn:∀x,(S.args x).length<=fn.ntmps:=by exact λx=>le_of_ble_eq_true (by kernel_rfl)):fI P Z f S:=adH hf hb hn h
end
end Go.Sx
namespace Lf
open Go Go.Sx
section
variable{L:List ak}
theorem amj{b:Bool}:Ends [.b .bool] (b,()) L (.s (.bool b)):=rfl
theorem apV{b:Bool}:Ends [.b .bool] (b,()) L (.s (.aI b)):=rfl
theorem abV{n:Int}:Ends [.b (.int .i64)] (n,()) L (.s (.int .i64 n)):=rfl
theorem amk{s:ByteArray}:Ends [.b .str] (s,()) L (.s (.str s)):=rfl
theorem abW{s:ByteArray}{n:Int}:Ends [.b .str,.b (.int .i64)] (s,n,()) L (.bq [.s (.str s),.s (.aR .i64 n)]):=rfl
theorem fZ{b:Bool}{b':Bool}(h:b=b'):Ends [.b .bool] (b,()) L (.s (.aI b')):=by subst h;rfl
theorem ahZ{b b':Int}(h:b=b'):Ends [.b (.int .i64)] (b,()) L (.s (.int .i64 b')):=by subst h;rfl
end
theorem aml{p:Nat->Bool}{n i:Nat}(hi:i<n)(h:p i=false):(List.range n).all p=false:=by
 rw[List.all_eq_false];exact⟨i,mem_range.2 hi,by simp[h]⟩
theorem ah0{p:Nat->Bool}{n:Nat}(h:∀i,i<n->p i=true):(List.range n).all p=true:=by
 rw[all_eq_true];exact λi hi=>h i (mem_range.1 hi)
theorem dt{p:Nat->Bool}{n:Nat}:(List.range n).all p=true↔ ∀i,i<n->p i=true:=by
 simp[all_eq_true]
theorem ba{α:Type}{l:List α}{i:Nat}{d:α}(h:i<l.length):l.getD i d=l[i]:=by simp[List.getD,h]
theorem um{a b:ByteArray}(h:a.data.toList=b.data.toList):a=b:=by
 cases a;cases b;simp only[ByteArray.mk.injEq];exact toList_inj.1 h
theorem vD:∀(x:List UInt8),Op.bytesLess x x=false
 |[]=>rfl|a::x=>by simp[Op.bytesLess,vD x]
theorem x7:∀{x y z:List UInt8},Op.bytesLess x y=true->Op.bytesLess y z=true->Op.bytesLess x z=true
 |_,[],_,h,_=>by simp[Op.bytesLess]at h
 |_,_::_,[],_,h=>by simp[Op.bytesLess]at h
 |[],b::y,c::z,_,_=>rfl|a::x,b::y,c::z,h1,h2=>by
  simp only[Op.bytesLess,Bool.or_eq_true,decide_eq_true_eq,and_eq_true,beq_iff_eq]at *;rcases h1 with h1|⟨rfl,h1⟩;rcases h2 with h2|⟨rfl,h2⟩;exact .inl (UInt8.lt_trans h1 h2);exact .inl h1;rcases h2 with h2|⟨rfl,h2⟩;exact .inl h2;exact .inr ⟨rfl,x7 h1 h2⟩
theorem x8:∀(x y:List UInt8),Op.bytesLess x y=true\/x=y\/Op.bytesLess y x=true
 |[],[]=>.inr (.inl rfl)|[],_::_=>.inl rfl|_::_,[]=>.inr (.inr rfl)|a::x,b::y=>by
  simp only[Op.bytesLess,Bool.or_eq_true,decide_eq_true_eq,and_eq_true,beq_iff_eq,List.cons.injEq];rcases UInt8.lt_or_lt_of_ne (a:=a) (b:=b)|>λh=>(Decidable.em (a=b)).imp id h with rfl|h|h;rcases x8 x y with h|rfl|h;exact .inl (.inr ⟨rfl,h⟩);exact .inr (.inl ⟨rfl,rfl⟩);exact .inr (.inr (.inr ⟨rfl,h⟩));exact .inl (.inl h);exact .inr (.inr (.inl h))
theorem nw:∀(x y:List UInt8),(Lib.compareBytes x y<0↔Op.bytesLess x y=true)/\(Lib.compareBytes x y=0↔x=y)/\(-1<=Lib.compareBytes x y/\Lib.compareBytes x y<=1)
 |[],[]=>by simp[Lib.compareBytes,Op.bytesLess]
 |[],_::_=>by simp[Lib.compareBytes,Op.bytesLess]
 |_::_,[]=>by simp[Lib.compareBytes,Op.bytesLess]
 |a::x,b::y=>by
  have⟨h1,h2,h3⟩:=nw x y;simp only[Lib.compareBytes,Op.bytesLess,List.cons.injEq];by_cases h:a<b;rw[if_pos h];have:a≠b:=λe=>by subst e;exact absurd h (UInt8.lt_irrefl a)
  simp[h,this];rw[if_neg h];by_cases h':b<a;rw[if_pos h'];have:a≠b:=λe=>by subst e;exact absurd h' (UInt8.lt_irrefl a)
  simp[h,this];rw[if_neg h'];have:a=b:=UInt8.toNat_inj.1 (by rw[UInt8.lt_iff_toNat_lt]at h h';omega);subst this;simp[h,h1,h2,h3]
def nx(a b:ByteArray):Int:=Lib.compareBytes a.data.toList b.data.toList
theorem wu(a b:ByteArray):nx a b<0↔slt a b=true:=(nw _ _).1
theorem ah1(a b:ByteArray):nx a b=0↔a=b:=by
 rw[show a=b↔a.data.toList=b.data.toList from⟨λh=>by rw[h],um⟩];exact(nw _ _).2.1
theorem eu(a:ByteArray):slt a a=false:=vD _
theorem dc{a b c:ByteArray}(h1:slt a b=true)(h2:slt b c=true):slt a c=true:=x7 h1 h2
theorem jf(a b:ByteArray):slt a b=true\/a=b\/slt b a=true:=by
 rcases x8 a.data.toList b.data.toList with h|h|h;exact .inl h;exact .inr (.inl (um h));exact .inr (.inr h)
theorem uo{a b:ByteArray}(h:slt a b=true):slt b a=false:=by
 cases h2:slt b a;rfl;have:=dc h h2;rw[eu]at this;cases this
theorem auw{a b:ByteArray}(h:slt a b=true):a≠b:=λe=>by subst e;rw[eu]at h;cases h
theorem x9{a b:ByteArray}(h:slt a b=false)(h2:a≠b):slt b a=true:=by
 rcases jf a b with h3|h3|h3;rw[h]at h3;cases h3;exact absurd h3 h2;exact h3
theorem ib(a:ByteArray):slt a empty=false:=by
 unfold slt;cases h:a.data.toList<;>rfl
theorem fl{a b c:ByteArray}(h1:slt a b=true)(h2:slt c b=false):slt a c=true:=by
 rcases jf b c with h3|rfl|h3;exact dc h1 h3;exact h1;rw[h2]at h3;cases h3
theorem mM{a:ByteArray}(h:a.size=0):a=empty:=by
 apply um;have:a.data.toList.length=0:=by rw[length_toList];exact h
 rw[List.eq_nil_of_length_eq_zero this];rfl
end Lf
namespace Go.Sx
open Go
section
variable{ρ aL:Nat->Value}{H H' H1 H2:aS}{G O O':Nat->Prop}{w w' w1 w2:World}{P:Program}{X:Ctx}{K:List ak->AV->Prop}
def amm(P:Program)(t:TypeId):Bool:=match P.underlying t with
 |some (.map _ _)=>true|_=>false
theorem Frm.seq(f1:Frm ρ H w w1){jG:Nat->Value}(t1:Step ρ H (aV ρ H G) w jG H1 (aV jG H1 G) w1)(s1:Sat jG H1 G w1)(f2:Frm jG H1 w1 w2):Frm ρ H w w2:=by
 refine⟨f2.os.trans f1.os,f2.tape.trans f1.tape,f2.output.trans f1.output,λb hb hO=> ?_⟩
 have uc:¬Own jG H1 b:=λho=>by
  rcases t1.gq b (.inl ho)with hh|hh;exact hh.elim hO (s1.apart b ho);omega
 rw[f2.heap b (by have:=t1.size;omega) uc,f1.heap b hb hO]
theorem Good.ghost(hs:Sat ρ H G w){n:Nat}(hn:H n=none)(g:Value):∃aL,aL n=g/\Sat aL (aB H n .aw) G w/\Step ρ H (aV ρ H G) w aL (aB H n .aw) (aV aL (aB H n .aw) G) w/\Frm ρ H w w:=by
 have ne:∀j x,H j=some x->j≠n:=λj x hx e=>by subst e;rw[hn]at hx;cases hx
 have rO:∀b,Own (λj=>if j=n then g else ρ j) (aB H n .aw) b->Own ρ H b:=by
  rintro b ⟨j,x,hx,h1,h2⟩;by_cases hj:j=n;subst hj;simp only[aB,if_true,Option.some.injEq]at hx;subst hx;cases h1;simp only[aB,hj,if_false]at hx h2;exact⟨j,x,hx,h1,h2⟩
 have st:Step ρ H (aV ρ H G) w (λj=>if j=n then g else ρ j) (aB H n .aw) (aV (λj=>if j=n then g else ρ j) (aB H n .aw) G) w:=by
  refine⟨λj x hx=>by simp[ne j x hx],λj x hx=>⟨x,by simp[aB,ne j x hx,hx],λc' e' hc=>⟨c',e',hc,rfl,rfl⟩⟩,λb hb=>.inl (hb.imp (rO b) id),λb hb _=>rfl,le_refl _⟩
 refine⟨_,by simp,⟨λj x hx=> ?_,λi j oi oj b h1 h2 h3 h4 h5 h6=> ?_,λb hb=>hs.apart b (rO b hb),hs.low⟩,st,rfl,rfl,rfl,λ_ _ _=>rfl⟩;by_cases hj:j=n;subst hj;simp only[aB,if_true,Option.some.injEq]at hx;subst hx;trivial;simp only[aB,hj,if_false]at hx;simp only[hj,if_false];exact(hs.obj j x hx).step st (λ_ _ _=>rfl)
 have f:∀i oi,aB H n .aw i=some oi->oi.alive=true->eW ((λj=>if j=n then g else ρ j) i)=some b->H i=some oi/\eW (ρ i)=some b:=by
  intro i oi hi xb hb;by_cases fq:i=n;subst fq;simp only[aB,if_true,Option.some.injEq]at hi;subst hi;cases xb;simp only[aB,fq,if_false]at hi hb;exact⟨hi,hb⟩
 have⟨x1,x2⟩:=f i oi h1 h3 h5;have⟨y1,y2⟩:=f j oj h2 h4 h6;exact hs.inj i j oi oj b x1 y1 h3 h4 x2 y2
theorem agp(hs:Sat ρ H G w){id base:Nat}{ck:CK}{m:List (Int×ck.V)}{t kt et:TypeId}(ht:P.underlying t=some (.map kt et))(ho:H id=some (.map ck m))(hb0:H base=none)(hb1:H (base+1)=none)
 {v:Value} (hd:af ρ H (aV ρ H G) w (.fv id) v):∃v' w',(Instr.range t v).run P w=.ok v' w'/\
  Good ρ H G w (aB (aB (aB H base .aw) id (.ig ck m base)) (base+1) (.iter id base ck m none)) (.ptr (base+1) 0) v' w':=by
 unfold af aN at hd;obtain⟨b,hb,rfl,_⟩:=hd;have⟨b',es,clock,h1,h2,h3⟩:=hs.obj id _ ho;rw[hb]at h1;cases h1;have ne0:id≠base:=λe=>by subst e;rw[hb0]at ho;cases ho
 have ne1:id≠base+1:=λe=>by subst e;rw[hb1]at ho;cases ho
 have e1:(getObj b).run P w=.ok (.map es clock) w:=by simp[getObj,Sem.run,h2]
 refine⟨.pointer (some ⟨w.heap.size,0,none⟩),w.alloc (.mapIter (some b) clock #[] clock), ?_, ?_⟩;simp[Instr.range,run_underlying ht,e1];have⟨jG,g1,s1,t1,f1⟩:=Good.ghost hs hb0 (acM es clock);have hρ:jG id=.map (some b):=by rw[t1.wR id _ ho,hb]
 have ho1:aB H base .aw id=some (.map ck m):=by simp[aB,ne0,ho]
 have axb:Good jG (aB H base .aw) G w (aB (aB H base .aw) id (.ig ck m base)) (.bq []) undef w:=
  Good.upd (o':=.ig ck m base) s1 ho1 rfl (λ_ _ hc=>by cases hc) ⟨b,es,clock,hρ,h2,h3,g1,by simp[aB,Ne.symm ne0]⟩ cz
 have⟨gw,s2,d2,t2,f2⟩:=axb;have azB:gw base=acM es clock:=by rw[t2.wR base .aw (by simp[aB])];exact g1
 have azC:gw id=.map (some b):=by rw[t2.wR id _ ho1];exact hρ
 have tA:aB (aB H base .aw) id (.ig ck m base) (base+1)=none:=by simp[aB,hb1,Ne.symm ne1]
 have axc:Good gw (aB (aB H base .aw) id (.ig ck m base)) G w (aB (aB (aB H base .aw) id (.ig ck m base)) (base+1) (.iter id base ck m none)) (.ptr (base+1) 0) (.pointer (some ⟨w.heap.size,0,none⟩)) (w.alloc (.mapIter (some b) clock #[] clock)):=by
  refine Good.fresh (aa:=.pointer (some ⟨w.heap.size,0,none⟩)) s2 tA rfl rfl rfl rfl (λb' vP=>by simpa[eW]using vP.symm) ?_ ?_;refine⟨w.heap.size,b,es,clock,#[],rfl,kC,⟨?_,h3.fits,h3.w5,h3.old,λp hp=>by cases hp⟩, ?_, ?_, ?_, ?_⟩;rw[<-h3.eq];congr 1;exact List.filter_eq_self.2 λe _=>by simp
  have:base≠base+1:=by omega
  simp only[this,if_false];exact azB;simp[aB,Ne.symm ne0];simp only[ne1,if_false];exact azC;simp[aB,ne1];unfold af aN;exact⟨w.heap.size,by simp,rfl,by simp[aB]⟩
 have⟨ρ3,s3,d3,t3,f3⟩:=axc;exact⟨ρ3,s3,d3,t1.trans (t2.trans t3),f1.seq t1 s1 (f2.seq t2 s2 f3)⟩
theorem erase_filter{L:List MapEntry}(hb:(L.map (·.born)).Nodup){i:Nat}(hi:i<L.length):L.filter (λx=>x.born !=L[i].born)=L.eraseIdx i:=by
 induction L generalizing i with
 |nil=>simp at hi|cons x L ih=>
  simp only[map_cons,List.nodup_cons]at hb;cases i with
  |zero=>
   simp only[List.getElem_cons_zero,List.eraseIdx_cons_zero];rw[List.filter_cons];simp only[bne_self_eq_false,Bool.false_eq_true,if_false];refine List.filter_eq_self.2 λe he=> ?_;rw[bne_iff_ne];exact λh=>hb.1 (mem_map.2 ⟨e,he,h⟩)
  |succ i=>
   simp only[length_cons]at hi;have fq:i<L.length:=by omega
   simp only[List.getElem_cons_succ,List.eraseIdx_cons_succ];rw[List.filter_cons,if_pos,ih hb.2 fq];rw[bne_iff_ne];exact λh=>hb.1 (mem_map.2 ⟨_,getElem_mem fq,h.symm⟩)
theorem w6.next{ck:CK}{left:List (Int×ck.V)}{cur:Option (Int×ck.V)}{es:Array MapEntry}{clock:Nat}{seen:Array Nat}(h:w6 ck left cur es clock seen){e:MapEntry}(he:e∈(leftOf es seen).toList):
 ∃i,∃hi:i<left.length,e.key=.int .i64 left[i].1/\e.val=ck.val left[i].2/\w6 ck (left.eraseIdx i) (some left[i]) es clock (seen.push e.born):=by
 have hL:(leftOf es seen).toList=es.toList.filter λe=> !seen.contains e.born:=by simp[leftOf]
 rw[hL]at he;obtain⟨i,hi,rfl⟩:=List.getElem_of_mem he;generalize hF:(es.toList.filter λe=> !seen.contains e.born)=F at *;have heq:=h.eq;rw[hF]at heq;have bB:F.length=left.length:=by have:=congrArg List.length heq;simpa only[length_map]using this
 have h1:=congrArg (λl=>l[i]?) heq;have hil:i<left.length:=by omega
 simp only[getElem?_map,getElem?_eq_getElem hi,getElem?_eq_getElem hil,map_some,Option.some.injEq,Prod.mk.injEq]at h1
 have ko:F[i]∈es.toList:=by
  have:=getElem_mem hi;exact(List.mem_filter.1 (show F[i]∈es.toList.filter (λe=> !seen.contains e.born)from by rw[hF];exact this)).1
 refine⟨i,hil,h1.1,h1.2,⟨?_,λp hp=>h.fits p (List.mem_of_mem_eraseIdx hp),h.w5,h.old,λp hp=> ?_⟩⟩
 have e1:(es.toList.filter λe=> !(seen.push F[i].born).contains e.born)=F.filter (λx=>x.born !=F[i].born):=by
  generalize F[i].born=z;rw[<-hF,List.filter_filter];refine List.filter_congr λx _=> ?_;by_cases hz:x.born=z<;>simp[hz,bne]
 have iq:(F.map (·.born)).Nodup:=by
  rw[<-hF];exact(List.Sublist.map _ List.filter_sublist).nodup h.w5
 rw[e1,erase_filter iq hi,ChangeMaps.map_eraseIdx,heq,<-ChangeMaps.map_eraseIdx];cases hp;exact⟨h.fits _ (getElem_mem hil),F[i],ko,by simp,h1.1,h1.2⟩
theorem akb(hs:Sat ρ H G w){id mid gid:Nat}{ck ck':CK}{left:List (Int×ck.V)}{cur:Option (Int×ck.V)}{m:List (Int×ck'.V)}(hp:ck.plain=true)(ho:H id=some (.iter mid gid ck left cur))(hm:H mid=some (.ig ck' m gid))
 {v:Value} (hd:af ρ H (aV ρ H G) w (.ptr id 0) v) (ty:TypeId):
 (left=[]/\(Instr.next v false ty).run P w=.ok (.tuple #[.bool false]) w/\Good ρ H G w (aB (aB H mid (.map ck' m)) id .aw) (.bq [.s (.aI false)]) (.tuple #[.bool false]) w)\/
 ∃i,∃hi:i<left.length,∃v' w1,(w1=w\/w1=w.drew)/\∃w',(Instr.next v false ty).run P w=.ok v' w'/\
  Good ρ H G w1 (aB H id (.iter mid gid ck (left.eraseIdx i) (some left[i]))) (.bq [.s (.aI true),.s (.int .i64 left[i].1),ck.av left[i].2]) v' w':=by
 unfold af aN at hd;obtain⟨b,hb,rfl,_⟩:=hd;have⟨mb,es,clock,seen,h1,h2,h3,h4,h5,h6,h7⟩:=ac7 hs ho hm hb;have cP:mid≠id:=λe=>by subst e;rw[ho]at hm;cases hm
 rcases run_next_at (P:=P) w ty b mb clock clock seen es clock h1 h2 h3.old (le_refl _)with⟨k1,k2⟩|⟨e,he,w1,k1,k2⟩;refine .inl ⟨?_,k2, ?_⟩
 have hl:(es.toList.filter λe=> !seen.contains e.born)=[]:=by
  have:(leftOf es seen).toList.length=0:=by simpa using k1
  have:=List.eq_nil_of_length_eq_zero this;simpa[leftOf]using this
 have:=congrArg List.length h3.eq;rw[hl]at this;exact List.eq_nil_of_length_eq_zero (by simpa using this.symm)
 obtain⟨jG,s1,d1,t1,f1⟩:Good ρ H G w (aB H mid (.map ck' m)) (.bq [.s (.aI false)]) (.tuple #[.bool false]) w:=
  Good.upd (o':=.map ck' m) hs hm rfl (λ_ _ hc=>by cases hc) ⟨mb,es,clock,h5,h2,h4⟩ (by
   unfold af;exact⟨[.bool false],rfl,aD.2 ⟨_,_,rfl,aE (.aI _),a8.2 rfl⟩⟩)
 have ho1:aB H mid (.map ck' m) id=some (.iter mid gid ck left cur):=by simp[aB,Ne.symm cP,ho]
 have st:=fi (ρ:=jG) (G:=G) (w:=w) ho1;refine⟨jG,s1.kill ho1,af.step st _ _ d1,t1.trans st,f1⟩;have⟨i,hi,g1,g2,g3⟩:=h3.next he;refine .inr ⟨i,hi,_,w1,k1,_,k2, ?_⟩
 have hs1:Sat ρ H G w1:=by
  rcases k1 with rfl|rfl;exact hs;have st:Step ρ H (aV ρ H G) w ρ H (aV ρ H G) w.drew:=⟨λ_ _ _=>rfl,λ_ o ho=>⟨o,ho,λc' e' e=>⟨c',e',e,rfl,rfl⟩⟩,λ_ h=>.inl h,λ_ _ _=>rfl,le_refl _⟩;exact⟨λj x hx=>(hs.obj j x hx).step st (λ_ _ _=>rfl),hs.inj,hs.apart,hs.low⟩
 have hh:w1.heap=w.heap:=by rcases k1 with rfl|rfl<;>rfl
 have hb1:w1.heap[b]? =some (.mapIter (some mb) clock seen clock):=by rw[hh];exact h1
 refine Good.write hs1 ho rfl rfl (by rw[hb];rfl) (λ_ _ hc=>by cases hc) ?_ ?_;exact⟨b,mb,es,clock,_,hb,eh hb1,g3,h6,by simp only[aB];split<;>first|rfl|exact h7,h5,by simp only[aB,cP,if_false];rw[hm];rfl⟩;rw[g1,g2];unfold af;exact⟨[.bool true,.int .i64 left[i].1,ck.val left[i].2],rfl,aD.2 ⟨_,_,rfl,aE (.aI _),aD.2 ⟨_,_,rfl,aE (.int _ _),aD.2 ⟨_,_,rfl,abx (h3.fits _ (getElem_mem hi)) (ac8 hp _),a8.2 rfl⟩⟩⟩⟩
theorem cg.zz{s:St}{a:Act}(h:cg X ρ s a w){dst:Option Tmp}{q:bQ}{v:Value}(hw:w1=w\/w1=w.drew)(hg:Good ρ s.look X.G w1 (s.put dst q).look (q.r s.H.length) v w'):∃aL,cg X aL (s.put dst q) (a.put dst v) w':=by
 have h1:cg X ρ s a w1:=by
  rcases hw with rfl|rfl;exact h;exact h.drew
 have⟨aL,g1,g2,g3,g4⟩:=hg;have⟨arr,df⟩:=a;have hp:=rZ (ρ:=aL) (H:=(s.put dst q).look) (O:=aV aL (s.put dst q).look X.G) (w:=w') h1.size (λt=>af.step g3 _ _ (h1.den t)) dst g2 df;exact⟨aL,g1,hp.1,hp.2,by have:=h1.defers;cases dst<;>exact this,h1.ao.trans g3,Frm.trans h1 g4,h1.kept.jF h1.sat g4⟩
def akc(fn:Func)(key i:Nat):Option (Array Oper×Oper×List Item):=match hr fn key with
 |.code (.region _ ops _)::k=>(ops[i]?).map λo=>(ops,o,k)|_=>none
def ah2(x:Array Oper×Oper×List Item):Option (TypeId×Tmp×Tmp):=match x.2.1.guard,x.2.1.op,x.2.1.dst with
 |none,.range t (.tmp y),some d=>bif iG x.1 then some (t,y,d)else none|_,_,_=>none
def amn(x:Array Oper×Oper×List Item):Option (Tmp×Tmp):=match x.2.1.guard,x.2.1.op,x.2.1.dst with
 |none,.next (.tmp y) false,some d=>bif iG x.1 then some (y,d)else none|_,_,_=>none
theorem Yields.congr{o:Oper}{e e':Operand->Value}{R:Value->World->Prop}(he:execOp e' o=execOp e o)(h:Yields P o e w R):Yields P o e' w R:=by
 unfold Yields at *;rw[he];exact h
theorem adP{f:FuncId}{fn:Func}{key i:Nat}{ops:Array Oper}{o:Oper}{k:List Item}(hat:akc fn key i=some (ops,o,k))(iq:iG ops=true)(hg:o.guard=none){tmps:List AV}{L:List ak}{stk:uf}
 (cO:(stk.plain||lV (bP.n ⟨tmps,L,[],stk⟩) ops)=true)
 (h:∀G E ρ a w,cg (X.at G E) ρ ⟨tmps,L⟩ a w->Yields P o a.eval w (λv w'=>∃q aL,cg (X.at G E) aL (St.put ⟨tmps,L⟩ o.dst q) (a.put o.dst v) w'/\
   Safe P f X K ⟨(St.put ⟨tmps,L⟩ o.dst q).tmps,(St.put ⟨tmps,L⟩ o.dst q).H,sj fn key (i+1),stk⟩)):Safe P f X K ⟨tmps,L,sj fn key i,stk⟩:=by
 obtain⟨ho,hc⟩:ops[i]? =some o/\∀j,sj fn key j=.inRegion ops (range' j (ops.size - j))::k:=by
  unfold akc at hat;split at hat;rename_i n aBp d k' hh;simp only[map_eq_some_iff,Prod.mk.injEq]at hat;obtain⟨o',e1,rfl,rfl,rfl⟩:=hat;exact⟨e1,λj=>by unfold sj;rw[hh]⟩;cases hat
 intro G E ρ a w gL hZ hr b t fs hw;have⟨rest,Ds,asN,uh,hwf⟩:=hw.top (c:=⟨tmps,L,[],stk⟩) hr.dp.len
 have q9:kq (bP.n ⟨tmps,L,[],stk⟩) rest Ds a t:=by
  have e:(⟨a.tmps.toList.toArray,[]⟩:Act)=a:=by
   have:=hr.defers;cases a;simp at this ⊢;exact this
  rw[e]at asN;exact asN
 have axd:r5 (bP.n ⟨tmps,L,[],stk⟩) rest ops:=adq cO uh (λx=>x);have lK:=(axd.op ho).imp (λx=>x) (·.2.1);have hi:i<ops.size:=(Array.getElem?_eq_some_iff.1 ho).1
 have tV:range' i (ops.size - i)=i::range' (i+1) (ops.size - (i+1)):=by
  rw[show ops.size - i=ops.size - (i+1)+1 from by omega,List.range'_succ]
 have hy':=(h G E ρ a w hr).congr (q9.same axd ho).1;show cN P f (kp X K) b t (sj fn key i) fs w;rw[hc i,tV];intro cs;have⟨v,w',⟨q,aL,eG,hs⟩,ni⟩:=ahE ho (by simp[Region.wanted,hg]) (oX iq ho) hy' b k (fs++cs) (rest:=range' (i+1) (ops.size - (i+1)));have afV:=q9.put lK v;have:=hs G E aL _ w' gL hZ eG b (t.put o.dst v) fs (hwf _ _ afV eG.defers);rw[hc (i+1)]at this;have⟨e,w2,fr,g1,g2,g3⟩:=this cs;exact⟨e,w2,fr,g1,Comes.of_steps ni g2,g3⟩
theorem agq{L:List ak}{id:Nat}{x:ak}(h:id<L.length)(j:Nat):(L.set id x)[j]? =aB (λi=>L[i]?) id x j:=by
 simp only[aB];rw[getElem?_set];by_cases hj:j=id;subst hj;simp[h];rw[if_neg (Ne.symm hj),if_neg hj]
theorem ya{f:FuncId}{fn:Func}{key i:Nat}{t:TypeId}{x d:Tmp}(hat:(akc fn key i).bind ah2=some (t,x,d))(ht:amm P t=true){tmps:List AV}{L:List ak}{stk:uf}
 (cO:(stk.plain||((akc fn key i).any λy=>lV (bP.n ⟨tmps,L,[],stk⟩) y.1))=true) {id:Nat} {ck:CK} {m:List (Int×ck.V)} (hx:tmps.getD x (.s .aY)=.fv id) (dq:L[id]? =some (.map ck m))
 (h:Safe P f X K ⟨tmps.set d (.ptr (L.length+1) 0),L.set id (.ig ck m L.length)++[.aw,.iter id L.length ck m none],sj fn key (i+1),stk⟩):Safe P f X K ⟨tmps,L,sj fn key i,stk⟩:=by
 have⟨⟨ops,o,k⟩,h1,h2⟩:=bind_eq_some_iff.1 hat;rw[h1]at cO;unfold ah2 at h2;split at h2;rename_i t' y d' e1 e2 e3;simp only[]at e1 e2 e3;rw[cond_eq_ite]at h2;split at h2;rename_i iq;simp only[Option.some.injEq,Prod.mk.injEq]at h2;obtain⟨rfl,rfl,rfl⟩:=h2
 obtain⟨kt,et,hut⟩:∃kt et,P.underlying t'=some (.map kt et):=by
  unfold amm at ht;split at ht;exact⟨_,_,by assumption⟩;cases ht
 refine adP h1 iq e1 (by simpa using cO) λG E ρ a w hr=> ?_;have bo:id<L.length:=(List.getElem?_eq_some_iff.1 dq).1;have hd:=hr.den y;rw[show(St.tmps ⟨tmps,L⟩).getD y (.s .aY)=.fv id from hx]at hd;have⟨v',w',g1,g2⟩:=agp (P:=P) hr.sat hut (show(St.look ⟨tmps,L⟩) id=some _ from dq) (base:=L.length) (by simp[St.look]) (by simp[St.look]) hd;refine cZ (s:=Instr.range t' (a.eval (.tmp y))) ⟨v',w',g1, ?_⟩ (by simp only[execOp,e2]);have hl:(St.put ⟨tmps,L⟩ o.dst ⟨[],[(id,.ig ck m L.length)],[.aw,.iter id L.length ck m none],λb=>.ptr (b+1) 0⟩).look=
  aB (aB (aB (St.look ⟨tmps,L⟩) L.length .aw) id (.ig ck m L.length)) (L.length+1) (.iter id L.length ck m none):=by
  funext j;show(L.set id (.ig ck m L.length)++[.aw,.iter id L.length ck m none])[j]? =_;simp only[aB,St.look];by_cases hj1:j=L.length+1;subst hj1;rw[getElem?_append_right (by simp),if_pos rfl];simp;rw[if_neg hj1];by_cases wj:j=id;subst wj;rw[getElem?_append_left (by simpa using bo),if_pos rfl];simp[bo];rw[if_neg wj];by_cases hj3:j=L.length;subst hj3;rw[getElem?_append_right (by simp),if_pos rfl];simp;rw[if_neg hj3];rcases lt_or_ge j L.length with hj|hj;rw[getElem?_append_left (by simpa using hj),List.getElem?_set_ne (Ne.symm wj)];rw[getElem?_append_right (by simpa using hj),getElem?_eq_none (by simp;omega),getElem?_eq_none (by omega)]
 rw[<-hl]at g2;have⟨aL,eG⟩:=hr.zz (.inl rfl) g2;refine⟨_,aL,eG, ?_⟩;rw[e3];exact h;cases h2;cases h2
theorem pU{f:FuncId}{fn:Func}{key i:Nat}{x d:Tmp}(hat:(akc fn key i).bind amn=some (x,d)){tmps:List AV}{L:List ak}{stk:uf}
 (cO:(stk.plain||((akc fn key i).any λy=>lV (bP.n ⟨tmps,L,[],stk⟩) y.1))=true) {id mid gid:Nat} {ck ck':CK} {left:List (Int×ck.V)} {cur:Option (Int×ck.V)} {m:List (Int×ck'.V)} (hp:ck.plain=true)
 (hx:tmps.getD x (.s .aY)=.ptr id 0) (dq:L[id]? =some (.iter mid gid ck left cur)) (axe:L[mid]? =some (.ig ck' m gid))
 (h0:left=[]->Safe P f X K ⟨tmps.set d (.bq [.s (.aI false)]),(L.set mid (.map ck' m)).set id .aw,sj fn key (i+1),stk⟩)
 (h:∀j,j<left.length->Safe P f X K ⟨tmps.set d (.bq [.s (.aI true),.s (.int .i64 (left.getD j (0,ck.d)).1),ck.av (left.getD j (0,ck.d)).2]),L.set id (.iter mid gid ck (left.eraseIdx j) (some (left.getD j (0,ck.d)))),sj fn key (i+1),stk⟩):
 Safe P f X K ⟨tmps,L,sj fn key i,stk⟩:=by
 have⟨⟨ops,o,k⟩,h1,h2⟩:=bind_eq_some_iff.1 hat;rw[h1]at cO;unfold amn at h2;split at h2;rename_i y d' e1 e2 e3;simp only[]at e1 e2 e3;rw[cond_eq_ite]at h2;split at h2;rename_i iq;simp only[Option.some.injEq,Prod.mk.injEq]at h2;obtain⟨rfl,rfl⟩:=h2;refine adP h1 iq e1 (by simpa using cO) λG E ρ a w hr=> ?_;have bo:id<L.length:=(List.getElem?_eq_some_iff.1 dq).1;have atW:mid<L.length:=(List.getElem?_eq_some_iff.1 axe).1;have hd:=hr.den y;rw[show(St.tmps ⟨tmps,L⟩).getD y (.s .aY)=.ptr id 0 from hx]at hd;rcases akb (P:=P) hr.sat hp (show(St.look ⟨tmps,L⟩) id=some _ from dq) (show(St.look ⟨tmps,L⟩) mid=some _ from axe) hd o.type with⟨g0,g1,g2⟩|⟨j,hj,v',w1,g1,w',g2,g3⟩;refine cZ (s:=Instr.next (a.eval (.tmp y)) false o.type) ⟨_,_,g1, ?_⟩ (by simp only[execOp,e2])
 have hl:(St.put ⟨tmps,L⟩ o.dst ⟨[],[(mid,.map ck' m),(id,.aw)],[],λ_=>.bq [.s (.aI false)]⟩).look=aB (aB (St.look ⟨tmps,L⟩) mid (.map ck' m)) id .aw:=by
  funext j;show((L.set mid (.map ck' m)).set id .aw++[])[j]? =_;rw[append_nil,agq (by simpa using bo)];simp only[aB];split;rfl;exact agq atW j
 rw[<-hl]at g2;have⟨aL,eG⟩:=hr.zz (.inl rfl) g2;refine⟨_,aL,eG, ?_⟩;rw[e3];have:=h0 g0;simpa[St.put,oM,cV]using this;refine cZ (s:=Instr.next (a.eval (.tmp y)) false o.type) ⟨_,_,g2, ?_⟩ (by simp only[execOp,e2]);have hl:(St.put ⟨tmps,L⟩ o.dst ⟨[],[(id,.iter mid gid ck (left.eraseIdx j) (some left[j]))],[],λ_=>.bq [.s (.aI true),.s (.int .i64 left[j].1),ck.av left[j].2]⟩).look=
  aB (St.look ⟨tmps,L⟩) id (.iter mid gid ck (left.eraseIdx j) (some left[j])):=by
  funext j';show(L.set id _++[])[j']? =_;rw[append_nil];exact agq bo j'
 rw[<-hl]at g3;have⟨aL,eG⟩:=hr.zz g1 g3;refine⟨_,aL,eG, ?_⟩;rw[e3];have:=h j hj;rw[show left.getD j (0,ck.d)=left[j]from by simp[List.getD,hj]]at this;simpa[St.put,oM,cV]using this;cases h2;cases h2
end
end Go.Sx
namespace Ds
open Go Go.Sx Go.Proofs Lf
abbrev P:Program:=Tryz.prog
theorem mixed:P.follows .mixedOrders=true:=by kernel_rfl
abbrev bI:Ty:=.b (.int .i64)
abbrev dg:Ty:=.b .bool
abbrev eU:Ty:=.b .str
theorem go{Z:bh}{X:Ctx}{t:aK}{f:FuncId}{fn:Func}{ns:List (Nat×Norm)}{c:bP}{tr:Tree}{K:List ak->AV->Prop}{inl:List FuncId}(hz:dZ Z X)(hX:∀id,X.H id=none)(hT:t.Ok P Z)(hf:P.funcs[f]? =some fn)
 (e:run P t.sum fn ns c inl=tr) (h:tr.Holds K (Safe P f X K)):Safe P f X K c:=cU (aK.sOk hT) hz mixed hf (λ_ _ id _=>hX id) e h
theorem cF{Z:bh}{X:Ctx}{t:aK}{f:FuncId}{fn:Func}{ns:List (Nat×Norm)}{c:bP}{tr:Tree}{K:List ak->AV->Prop}{L:List ak}{inl:List FuncId}(hz:dZ Z X)(hX:X.H=lk L)(hm:∀x∈ns,L.length<=x.2.m)(hT:t.Ok P Z)(hf:P.funcs[f]? =some fn)
 (e:run P t.sum fn ns c inl=tr) (h:tr.Holds K (Safe P f X K)):Safe P f X K c:=
 cU (aK.sOk hT) hz mixed hf (λx hx id dq=>by rw[hX];exact getElem?_eq_none (le_trans (hm x hx) dq)) e h
abbrev cS:List CK:=[.arr .u8 64]
abbrev kS:CK:=.arr .u8 64
abbrev eS:TypeId:=60
abbrev eD:TypeId:=56
abbrev Th:Type:=List (CL cS)
abbrev As:Type:=List (Int×kS.V)
abbrev jI(i j:Nat)(fu:Int):ak:=.aq [.vec i,.fv j,.s (.int .i64 fu)] eD
abbrev hD(th:Th)(m:As)(fu:Int):List ak:=[jI 1 2 fu,.vec (.au cS th) eS,.map kS m]
abbrev ij:aK:=[]
abbrev inD:List FuncId:=[68,69,60]
def adQ:List (Nat×Norm):=[(6,⟨[],[0],3,[]⟩),(7,⟨[],[0,17],3,[]⟩)]
abbrev ki(l:Nat):uf:=⟨none,false,0,[],l⟩
def cF6(th:Th)(m:As)(fu:Int):bP:=⟨sl 34 [(0,.ptr 0 0)],hD th m fu,hr f38 6,{}⟩
def azD(th:Th)(m:As)(fu:Int):bP:=⟨sl 34 [(0,.ptr 0 0),(13,.ptr 0 0),(14,.ptr 0 0),(15,.ptr 0 1),(16,.fv 2),(17,.ptr 4 0)],[jI 1 2 fu,.vec (.au cS th) eS,.ig kS m 3,.aw,.iter 2 3 kS m none],sj f38 6 5,ki 6⟩
def cF7(th:Th)(m left:As)(cur:Option (Int×kS.V))(fu:Int):bP:=⟨sl 34 [(0,.ptr 0 0),(17,.ptr 3 0)],[jI 1 2 fu,.vec (.au cS th) eS,.ig kS m 4,.iter 2 4 kS left cur,.aw],hd f38 7,{}⟩
def azE(th:Th)(m:As)(fu:Int):bP:=⟨sl 34 [(0,.ptr 0 0),(17,.ptr 3 0),(18,.bq [.s (.aI false)])],[jI 1 2 fu,.vec (.au cS th) eS,.map kS m,.aw,.aw],sj f38 7 1,ki 7⟩
def azF(th:Th)(m left:As)(p:Int×kS.V)(fu:Int):bP:=⟨sl 34 [(0,.ptr 0 0),(17,.ptr 3 0),(18,.bq [.s (.aI true),.s (.int .i64 p.1),kS.av p.2])],[jI 1 2 fu,.vec (.au cS th) eS,.ig kS m 4,.iter 2 4 kS left (some p),.aw],sj f38 7 1,ki 7⟩
def nM(th:Th):Prop:=th.length<=4096/\∀i,i<th.length->(fF (th.getD i (CL.d cS))).length=64
def okM(n:Nat)(m:As):Prop:=(m.map (·.1)).Nodup/\∀p∈m,0<=p.1/\p.1<(n:Int)/\List.length (α:=Int) p.2=64
def okF(fu:Int):Prop:= -1<=fu/\fu<=9223372036854775807
structure bm (th:Th) (m:As) (fu:Int):Prop where
 t:nM th
 m:okM th.length m
 f:okF fu
def jg(th:Th)(n:Int):Bool:=decide (0<=n)&&decide (n<(th.length:Int))
def lg(th:Th)(m:As)(n:Int):List Int:=match cp m n with
 |some v=>v|none=>fF (th.getD n.toNat (CL.d cS))
def cG(th:Th)(m:As)(n:Int):ByteArray:=if jg th n=true then aF (lg th m n)else empty
def rdE(th:Th)(n:Int):Int:=if jg th n=true then 0 else 5
def dC(fu:Int):Int:=if fu=0 then 0 else imax (fu - 1) (-1)
def pb(th:Th)(fu n:Int)(s:ByteArray):Int:=if jg th n=true then(if s.size=64 then(if fu=0 then 42 else 0)else 1)else 5
def uq(th:Th)(m:As)(fu n:Int)(s:ByteArray):As:=if pb th fu n s=0 then mm m n (bw s)else m
def ur(th:Th)(fu n:Int)(s:ByteArray):Int:=if jg th n=true/\s.size=64 then dC fu else fu
def zD(fu:Int):Int:=if fu=0 then 42 else 0
def ovl(th:Th)(m:As):Th:=(List.range th.length).map λ(i:Nat)=>(qp (lg th m (i:Int)):CL cS)
def lM(th:Th)(m:As)(fu:Int):Th:=if fu=0 then th else ovl th m
def oa(m:As)(fu:Int):As:=if fu=0 then m else []
def fuE(fu n:Int):Int:=if n<0 then 1 else if fu=0 then 42 else 0
def fuF(fu n:Int):Int:=if n<0 then fu else if fu=0 then 0 else n
abbrev sRd:Spec (Th×As×Int×Int):=⟨λ(_,_,_,n)=>[.ptr 0 0,.s (.int .i64 n)],λ(th,m,fu,_)=>hD th m fu,λ(th,m,fu,_)=>[bm th m fu],λ(th,m,fu,_)=>hD th m fu,λ(th,m,_,n)=>.bq [.s (.str (cG th m n)),.s (.int .i64 (rdE th n))]⟩
abbrev sWr:Spec (Th×As×Int×Int×ByteArray):=⟨λ(_,_,_,n,s)=>[.ptr 0 0,.s (.int .i64 n),.s (.str s)],λ(th,m,fu,_)=>hD th m fu,λ(th,m,fu,_)=>[bm th m fu],
 λ(th,m,fu,n,s)=>hD th (uq th m fu n s) (ur th fu n s),λ(th,_,fu,n,s)=>.s (.int .i64 (pb th fu n s))⟩
abbrev sFl:Spec (Th×As×Int):=⟨λ_=>[.ptr 0 0],λ(th,m,fu)=>hD th m fu,λ(th,m,fu)=>[bm th m fu],λ(th,m,fu)=>hD (lM th m fu) (oa m fu) (dC fu),λ(_,_,fu)=>.s (.int .i64 (zD fu))⟩
abbrev sDe:Spec (Th×As×Int):=⟨λ_=>[.ptr 0 0],λ(th,m,fu)=>hD th m fu,λ_=>[],λ(th,m,fu)=>hD th m fu,λ(_,_,fu)=>.s (.bool (fu==0))⟩
abbrev sFu:Spec (Th×As×Int×Int):=⟨λ(_,_,_,n)=>[.ptr 0 0,.s (.int .i64 n)],λ(th,m,fu,_)=>hD th m fu,λ_=>[],λ(th,m,fu,n)=>hD th m (fuF fu n),λ(_,_,fu,n)=>.s (.int .i64 (fuE fu n))⟩
theorem amo(th:Th)(m:As)(fu n:Int):run P ij.sum f44 [] (start f44 [.ptr 0 0,.s (.int .i64 n)] (hD th m fu)) inD=
 Tree.ite (decide (n<(0:Int))) (Tree.ret (hD th m fu) (AV.bq [AV.s (SV.str empty),AV.s (SV.aR i64 (5:Int))])) (Tree.ite (decide (n≥(↑(List.length th):Int))) (Tree.ret (hD th m fu) (AV.bq [AV.s (SV.str empty),AV.s (SV.aR i64 (5:Int))])) (Tree.ite (oe m n) (Tree.ab ((0:Int)≤(0:Int)) (Tree.ab ((0:Int)≤(↑(64:Nat):Int)) (Tree.ab ((↑(64:Nat):Int)≤(↑(64:Nat):Int)) (Tree.ab ((0:Nat)+(64:Nat)≤(64:Nat)) (Tree.ret (hD th m fu++[ak.aq [AV.ah u8 (64:Nat) ((cp m n).getD (CK.arr u8 (64:Nat)).d)] (60:Nat),ak.aq [AV.ah u8 (64:Nat) ((cp m n).getD (CK.arr u8 (64:Nat)).d)] (60:Nat),ak.aq [AV.ah u8 (64:Nat) ((cp m n).getD (CK.arr u8 (64:Nat)).d)] (60:Nat)]) (AV.bq [AV.s (SV.str (aF (List.take (64:Nat) (List.drop (0:Nat) ((cp m n).getD (CK.arr u8 (64:Nat)).d))))),AV.s (SV.aR i64 (0:Int))])))))) (Tree.ab ((0:Int)≤n) (Tree.ab (n<(↑(List.length th):Int)) (Tree.ab (List.length (List.getD th n.toNat (CL.d [CK.arr u8 (64:Nat)])).fst=(64:Nat)) (Tree.ab ((0:Int)≤(0:Int)) (Tree.ab ((0:Int)≤(↑(64:Nat):Int)) (Tree.ab ((↑(64:Nat):Int)≤(↑(64:Nat):Int)) (Tree.ab ((0:Nat)+(64:Nat)≤(64:Nat)) (Tree.ret (hD th m fu++[ak.aq [AV.ah u8 (64:Nat) (List.getD th n.toNat (CL.d [CK.arr u8 (64:Nat)])).fst] (60:Nat),ak.aq [AV.ah u8 (64:Nat) ((cp m n).getD (CK.arr u8 (64:Nat)).d)] (60:Nat),ak.aq [AV.ah u8 (64:Nat) (List.getD th n.toNat (CL.d [CK.arr u8 (64:Nat)])).fst] (60:Nat)]) (AV.bq [AV.s (SV.str (aF (List.take (64:Nat) (List.drop (0:Nat) (List.getD th n.toNat (CL.d [CK.arr u8 (64:Nat)])).fst)))),AV.s (SV.aR i64 (0:Int))]))))))))))):=by kernel_rfl
theorem akd(th:Th)(m:As)(fu n:Int)(s:ByteArray):run P ij.sum f59 [] (start f59 [.ptr 0 0,.s (.int .i64 n),.s (.str s)] (hD th m fu)) inD=
 Tree.ite (decide (n<0)) (.ret (hD th m fu) (.s (.aR .i64 5))) (.ite (decide (n>=(↑(List.length th):Int))) (.ret (hD th m fu) (.s (.aR .i64 5))) (.ite ((↑s.size:Int) !=64) (.ret (hD th m fu) (.s (.aR .i64 1))) (.ite (fu==0) (.ret (hD th m fu) (.s (.aR .i64 42))) (.ab (aA (fu - (1:Int))) (.ab (s.size<=4294967296) (.ab ((64:Nat)<=(bw s).length) (.ab (List.length ([(List.take 64 (bw s),())].getD 0 (CL.d [.arr .u8 64])).fst=64) (.ret (hD th (mm m n ([(List.take 64 (bw s),())].getD 0 (CL.d [.arr .u8 64])).fst) (imax (fu - (1:Int)) (-1))) (.s (.aR .i64 0)))))))))):=by kernel_rfl
theorem amp(th:Th)(m:As)(fu:Int):run P ij.sum f7 [] (start f7 [.ptr 0 0] (hD th m fu))=
 Tree.ret (hD th m fu) (.s (.bool (fu==0))):=by kernel_rfl
theorem amq(th:Th)(m:As)(fu n:Int):run P ij.sum f8 [] (start f8 [.ptr 0 0,.s (.int .i64 n)] (hD th m fu))=
 Tree.ite (decide (n<0)) (.ret (hD th m fu) (.s (.aR .i64 1))) (.ite (fu==0) (.ret (hD th m fu) (.s (.aR .i64 42))) (.ret (hD th m n) (.s (.aR .i64 0)))):=by kernel_rfl
theorem ake(th:Th)(m:As)(fu:Int):run P ij.sum f38 adQ (start f38 [.ptr 0 0] (hD th m fu)) inD=
 Tree.ite (fu==0) (.ret (hD th m fu) (.s (.aR .i64 42))) (.ab (aA (fu - (1:Int))) (.at (cF6 th m (imax (fu - (1:Int)) (-1))))):=by kernel_rfl
theorem auy(th:Th)(m:As)(fu:Int):run P ij.sum f38 adQ (cF6 th m fu) inD=
 Tree.at (.mk (sl 34 [(0,.ptr 0 0),(13,.ptr 0 0),(14,.ptr 0 0),(15,.ptr 0 1),(16,.fv 2)]) (hD th m fu) (sj f38 6 4) (.mk none false 0 [] 6)):=by kernel_rfl
theorem apW(th:Th)(m:As)(fu:Int):run P ij.sum f38 adQ (azD th m fu) inD=
 Tree.at (cF7 th m m none fu):=by kernel_rfl
theorem amr(th:Th)(m left:As)(cur:Option (Int×kS.V))(fu:Int):run P ij.sum f38 adQ (cF7 th m left cur fu) inD=
 Tree.at (.mk (sl 34 [(0,.ptr 0 0),(17,.ptr 3 0)]) [Ds.jI 1 2 fu,.vec (.au Ds.cS th) Ds.eS,.ig (.arr .u8 64) m 4,.iter 2 4 (.arr .u8 64) left cur,.aw] (sj f38 7 0) (.mk none false 0 [] 7)):=by kernel_rfl
theorem apX(th:Th)(m:As)(fu:Int):run P ij.sum f38 adQ (azE th m fu) inD=
 Tree.ret (hD th [] fu++[.aw,.aw]) (.s (.aR .i64 0)):=by kernel_rfl
theorem apY(th:Th)(m left:As)(p:Int×kS.V)(fu:Int):run P ij.sum f38 adQ (azF th m left p fu) inD=
 Tree.ab ((0:Int)<=p.fst) (.ab (p.fst<(↑(List.length th):Int)) (.at (cF7 (List.set th p.fst.toNat (p.snd,())) m left (some p) fu))):=by kernel_rfl
theorem fm{th:Th}{n:Int}:jg th n=true↔0<=n/\n<(th.length:Int):=by simp[jg]
theorem su{th:Th}{n:Int}:jg th n=false↔n<0\/(th.length:Int)<=n:=by
 rw[<-Bool.not_eq_true,fm];omega
theorem sw{m:As}{n:Int}:oe m n=(cp m n).isSome:=by
 rw[Bool.eq_iff_iff];simp only[oe,cp,Option.isSome_map,List.find?_isSome,List.any_eq_true]
theorem yb{m:As}{n:Int}{v:kS.V}(h:cp m n=some v):(n,v)∈m:=by
 simp only[cp,map_eq_some_iff]at h;obtain⟨p,hp,rfl⟩:=h;have h1:=List.mem_of_find?_eq_some hp;have h2:=List.find?_some hp;simp only[beq_iff_eq]at h2;have⟨a,b⟩:=p;simp only at h2;subst h2;exact h1
theorem sC{th:Th}{m:As}{fu n:Int}(h:bm th m fu)(hn:jg th n=true):(lg th m n).length=64:=by
 have⟨h0,h1⟩:=fm.1 hn;unfold lg;split;rename_i v hv;exact(h.m.2 _ (yb hv)).2.2;exact h.t.2 _ (by omega)
theorem adR{l:List Int}(h:l.length=64):List.take 64 (List.drop 0 l)=l:=by rw[List.drop_zero,take_of_length_le (by omega)]
theorem apZ{Z:bh}:fI P Z 44 sRd:=by
 refine fS func44 ?_;rintro⟨th,m,fu,n⟩ ⟨(hd:bm th m fu),_⟩ X hX hz;have bad:jg th n=false->cG th m n=empty/\rdE th n=5:=λh=>by simp[cG,rdE,h]
 refine cF hz hX (by simp) aK.Ok.nil func44 (amo th m fu n) ⟨λh=> ?_,λh=>⟨λh2=> ?_,λh2=> ?_⟩⟩;have⟨e1,e2⟩:=bad (su.2 (.inl (of_decide_eq_true h)));exact bD 3 (by kernel_rfl) (le_refl _) (by show AV.bq [.s (.str (cG th m n)),.s (.int .i64 (rdE th n))]=_;rw[e1,e2]) rfl;have⟨e1,e2⟩:=bad (su.2 (.inr (of_decide_eq_true h2)));exact bD 3 (by kernel_rfl) (le_refl _) (by show AV.bq [.s (.str (cG th m n)),.s (.int .i64 (rdE th n))]=_;rw[e1,e2]) rfl;have h:=of_decide_eq_false h;have h2:=of_decide_eq_false h2;have cO:jg th n=true:=fm.2 ⟨by omega,by omega⟩;have hl:=sC hd cO;have e1:cG th m n=aF (lg th m n):=by simp[cG,cO]
 have e2:rdE th n=0:=by simp[rdE,cO]
 refine⟨λhh=>⟨by omega,by omega,by omega,by omega, ?_⟩,λhh=>⟨by omega,by omega, ?_,by omega,by omega,by omega,by omega, ?_⟩⟩;rw[sw]at hh;have⟨v,hv⟩:=isSome_iff_exists.1 hh;have e3:lg th m n=v:=by unfold lg;rw[hv]
 rw[e3]at e1 hl;refine bD (o:=.bq [.s (.str (aF (List.take 64 (List.drop 0 (((cp m n).getD (CK.arr .u8 64).d):List Int))))),.s (.int .i64 0)]) 3 (by kernel_rfl) (le_refl _) ?_ rfl;show AV.bq [.s (.str (cG th m n)),.s (.int .i64 (rdE th n))]=_;rw[e1,e2,hv,getD_some,adR hl];rw[sw]at hh;have hv:cp m n=none:=by simpa using hh
 have e3:lg th m n=fF (th.getD n.toNat (CL.d cS)):=by simp[lg,hv]
 rw[e3]at hl;exact hl;rw[sw]at hh;have hv:cp m n=none:=by simpa using hh
 have e3:lg th m n=fF (th.getD n.toNat (CL.d cS)):=by simp[lg,hv]
 rw[e3]at e1 hl;refine bD (o:=.bq [.s (.str (aF (List.take 64 (List.drop 0 (fF (th.getD n.toNat (CL.d cS))))))),.s (.int .i64 0)]) 3 (by kernel_rfl) (le_refl _) ?_ rfl;show AV.bq [.s (.str (cG th m n)),.s (.int .i64 (rdE th n))]=_;rw[e1,e2,adR hl]
theorem yc{Z:bh}:fI P Z 59 sWr:=by
 refine fS func59 ?_;rintro⟨th,m,fu,n,s⟩ ⟨(hd:bm th m fu),_⟩ X hX hz;have⟨f1,f2⟩:=hd.f;have fin:∀(e:Int) (m':As) (ft:Int),pb th fu n s=e->uq th m fu n s=m'->ur th fu n s=ft->
  (sWr.out (th,m,fu,n,s)=.s (.int .i64 e))/\sWr.dN (th,m,fu,n,s)=hD th m' ft:=λe m' ft h1 h2 h3=>
  ⟨by show AV.s (.int .i64 (pb th fu n s))=_;rw[h1],by show hD th (uq th m fu n s) (ur th fu n s)=_;rw[h2,h3]⟩
 have bad:jg th n=false->pb th fu n s=5/\uq th m fu n s=m/\ur th fu n s=fu:=λh=>by simp[pb,uq,ur,h]
 refine cF hz hX (by simp) aK.Ok.nil func59 (akd th m fu n s) ⟨λh=> ?_,λh=>⟨λh2=> ?_,λh2=>⟨λh3=> ?_,λh3=>⟨λh4=> ?_,λh4=>⟨⟨by omega,by omega⟩, ?_, ?_, ?_, ?_⟩⟩⟩⟩⟩;have⟨e1,e2,e3⟩:=bad (su.2 (.inl (of_decide_eq_true h)));exact bD 3 (by kernel_rfl) (le_refl _) (fin _ _ _ e1 e2 e3).1 (fin _ _ _ e1 e2 e3).2;have⟨e1,e2,e3⟩:=bad (su.2 (.inr (of_decide_eq_true h2)));exact bD 3 (by kernel_rfl) (le_refl _) (fin _ _ _ e1 e2 e3).1 (fin _ _ _ e1 e2 e3).2
 all_goals
  have h:=of_decide_eq_false h;have h2:=of_decide_eq_false h2;have cO:jg th n=true:=fm.2 ⟨by omega,by omega⟩
 have h3:s.size≠64:=by intro e;rw[e]at h3;simp at h3
 have e1:pb th fu n s=1:=by simp[pb,cO,h3]
 exact bD 3 (by kernel_rfl) (le_refl _) (fin 1 m fu e1 (by simp[uq,e1]) (by simp[ur,h3])).1 (fin 1 m fu e1 (by simp[uq,e1]) (by simp[ur,h3])).2
 all_goals
  have h3:s.size=64:=by have:(s.size:Int)=64:=by simpa using h3
                        omega
 have h4:fu=0:=by simpa using h4
 have e1:pb th fu n s=42:=by simp[pb,cO,h3,h4]
 exact bD 3 (by kernel_rfl) (le_refl _) (fin 42 m fu e1 (by simp[uq,e1]) (by simp[ur,cO,h3,h4,dC])).1 (fin 42 m fu e1 (by simp[uq,e1]) (by simp[ur,cO,h3,h4,dC])).2;omega;rw[jC];omega;show(List.take 64 (bw s)).length=64;rw[length_take,jC];omega;have h4:fu≠0:=by simpa using h4
 have e1:pb th fu n s=0:=by simp[pb,cO,h3,h4]
 have e2:uq th m fu n s=mm m n (List.take 64 (bw s)):=by
  rw[take_of_length_le (by rw[jC];omega)];simp[uq,e1]
 have e3:ur th fu n s=imax (fu - 1) (-1):=by simp[ur,cO,h3,dC,h4]
 exact bD 3 (by kernel_rfl) (le_refl _) (fin _ _ _ e1 e2 e3).1 (fin _ _ _ e1 e2 e3).2
theorem ap0{Z:bh}:fI P Z 7 sDe:=by
 refine fS func7 ?_;rintro⟨th,m,fu⟩ _ X hX hz;exact cF hz hX (by simp) aK.Ok.nil func7 (amp th m fu) (bD 3 (by kernel_rfl) (le_refl _) rfl rfl)
theorem ap1{Z:bh}:fI P Z 8 sFu:=by
 refine fS func8 ?_;rintro⟨th,m,fu,n⟩ _ X hX hz
 have fin:∀(e ft:Int),fuE fu n=e->fuF fu n=ft->(sFu.out (th,m,fu,n)=.s (.int .i64 e))/\sFu.dN (th,m,fu,n)=hD th m ft:=λe ft h1 h3=>
  ⟨by show AV.s (.int .i64 (fuE fu n))=_;rw[h1],by show hD th m (fuF fu n)=_;rw[h3]⟩
 refine cF hz hX (by simp) aK.Ok.nil func8 (amq th m fu n) ⟨λh=> ?_,λh=>⟨λh2=> ?_,λh2=> ?_⟩⟩;have h:=of_decide_eq_true h;have f:=fin 1 fu (by simp[fuE,h]) (by simp[fuF,h]);exact bD 3 (by kernel_rfl) (le_refl _) f.1 f.2;have h:=of_decide_eq_false h;have h2:fu=0:=by simpa using h2
 have f:=fin 42 fu (by simp[fuE,h,h2]) (by simp[fuF,h,h2]);exact bD 3 (by kernel_rfl) (le_refl _) f.1 f.2;have h:=of_decide_eq_false h;have h2:fu≠0:=by simpa using h2
 have f:=fin 0 n (by simp[fuE,h,h2]) (by simp[fuF,h,h2]);exact bD 3 (by kernel_rfl) (le_refl _) f.1 f.2
theorem adS{m:As}{n:Int}{v:kS.V}(p:Int×kS.V):p∈mm m n v->p∈m\/p=(n,v):=by
 unfold mm;split;intro h;obtain⟨q,hq,rfl⟩:=mem_map.1 h;split;exact .inr rfl;exact .inl hq;intro h;rcases mem_append.1 h with h|h;exact .inl h;exact .inr (mem_singleton.1 h)
theorem js(th:Th)(m:As):(ovl th m).length=th.length:=by simp[ovl]
theorem sD{th:Th}{m:As}{i:Nat}(h:i<th.length):fF ((ovl th m).getD i (CL.d cS))=lg th m (i:Int):=by
 rw[ba (by rw[js];exact h)];simp only[ovl,List.getElem_map,List.getElem_range];rfl
theorem ams{a b:Th}(h:a.length=b.length)(hg:∀i,i<a.length->fF (a.getD i (CL.d cS))=fF (b.getD i (CL.d cS))):a=b:=by
 refine List.ext_getElem h λi h1 h2=> ?_;have:=hg i h1;rw[ba h1,ba h2]at this;exact Prod.ext this rfl
theorem ap2(th:Th):ovl th []=th:=ams (js _ _) λi hi=>by
 rw[js]at hi;rw[sD hi];show fF (th.getD (i:Int).toNat (CL.d cS))=_;rw[toNat_natCast]
theorem uu{m:As}{n:Int}(h:∀p∈m,p.1≠n):cp m n=none:=by
 simp only[cp,Option.map_eq_none_iff,List.find?_eq_none,beq_iff_eq];exact h
theorem ny{m:As}(hk:(m.map (·.1)).Nodup){p:Int×kS.V}(hp:p∈m):cp m p.1=some p.2:=by
 have⟨j,hj⟩:=List.getElem?_of_mem hp;simp only[cp,qX hk hj,map_some]
theorem yd{m:As}(hk:(m.map (·.1)).Nodup){j:Nat}(hj:j<m.length):((m.eraseIdx j).map (·.1)).Nodup/\(∀p∈m.eraseIdx j,p∈m/\p.1≠m[j].1)/\∀p∈m,p.1≠m[j].1->p∈m.eraseIdx j:=by
 refine⟨(List.Sublist.map _ (List.eraseIdx_sublist _ _)).nodup hk,λp hp=>⟨List.mem_of_mem_eraseIdx hp,λe=> ?_⟩,λp hp e=> ?_⟩;have⟨i,hi,ma⟩:=List.mem_eraseIdx_iff_getElem?.1 hp;obtain⟨bo,rfl⟩:=List.getElem?_eq_some_iff.1 ma;have:=(List.getElem_inj (h₀:=by simpa using bo) (h₁:=by simpa using hj) hk).1 (by simpa using e);exact hi this;have⟨i,hi⟩:=List.getElem?_of_mem hp;refine List.mem_eraseIdx_iff_getElem?.2 ⟨i,λh=> ?_,hi⟩;subst h;obtain⟨_,rfl⟩:=List.getElem?_eq_some_iff.1 hi;exact e rfl
theorem agr{m:As}(hk:(m.map (·.1)).Nodup){j:Nat}(hj:j<m.length)(n:Int):cp (m.eraseIdx j) n=if n=m[j].1 then none else cp m n:=by
 have⟨k1,k2,k3⟩:=yd hk hj;split;rename_i e;exact uu λp hp=>by rw[e];exact(k2 p hp).2
 rename_i e;cases h:cp m n with
 |none=>
  refine uu λp hp he=> ?_;have:=ny hk (k2 p hp).1;rw[he,h]at this;cases this
 |some v=>
  have h1:=yb h;exact ny k1 (k3 _ h1 e)
theorem amt{th:Th}{left:As}(hk:(left.map (·.1)).Nodup){j:Nat}(hj:j<left.length)(h0:0<=left[j].1)(h1:left[j].1<(th.length:Int)):
 ovl (th.set left[j].1.toNat (qp left[j].2)) (left.eraseIdx j)=ovl th left:=by
 refine ams (by rw[js,js,length_set]) λi hi=> ?_;rw[js,length_set]at hi;rw[sD (by rw[length_set];exact hi),sD hi];unfold lg;rw[agr hk hj];by_cases e:(i:Int)=left[j].1;have hm:=ny hk (getElem_mem hj);rw[if_pos e,e,hm];simp only[];rw[gf (by omega)];rfl;rw[if_neg e];cases cp left (i:Int)with
 |some v=>rfl|none=>
  simp only[toNat_natCast];rw[kV (by omega)]
theorem adT{Z:bh}:fI P Z 38 sFl:=by
 refine fS func38 ?_;rintro⟨th,m,fu⟩ ⟨(hd:bm th m fu),_⟩ X hX hz;have⟨f1,f2⟩:=hd.f;have gx:∀x∈adQ,(hD th m fu).length<=x.2.m:=by intro y hy;simp[adQ]at hy;rcases hy with rfl|rfl<;>exact le_refl _
 have fin:∀(e:Int) (dU:Th) (m':As) (ft:Int),zD fu=e->lM th m fu=dU->oa m fu=m'->dC fu=ft->
  (sFl.out (th,m,fu)=.s (.int .i64 e))/\sFl.dN (th,m,fu)=hD dU m' ft:=λe dU m' ft h1 h2 h3 h4=>
  ⟨by show AV.s (.int .i64 (zD fu))=_;rw[h1],by show hD (lM th m fu) (oa m fu) (dC fu)=_;rw[h2,h3,h4]⟩
 refine cF hz hX gx aK.Ok.nil func38 (ake th m fu) ⟨λh=> ?_,λh=>⟨⟨by omega,by omega⟩, ?_⟩⟩;have h:fu=0:=by simpa using h
 have f:=fin 42 th m 0 (by simp[zD,h]) (by simp[lM,h]) (by simp[oa,h]) (by simp[dC,h]);subst h;exact bD 3 (by kernel_rfl) (le_refl _) f.1 f.2;have h:fu≠0:=by simpa using h
 generalize hfu:imax (fu - 1) (-1)=ft;have f:=fin 0 (ovl th m) [] ft (by simp[zD,h]) (by simp[lM,h]) (by simp[oa,h]) (by simp[dC,h,hfu]);have loop:∀(k:Nat) (dU:Th) (left:As) (cur:Option (Int×kS.V)),left.length=k->dU.length=th.length->ovl dU left=ovl th m->(left.map (·.1)).Nodup->(∀p∈left,0<=p.1/\p.1<(th.length:Int))->
  Safe P 38 X (dO sFl (th,m,fu)) (cF7 dU m left cur ft):=by
  intro k
  induction k with
  |zero=>
   intro dU left cur hl bB hov hk hr;obtain rfl:=List.eq_nil_of_length_eq_zero hl;refine cF hz hX gx aK.Ok.nil func38 (amr dU m [] cur ft) ?_;refine pU (x:=17) (d:=18) (by kernel_rfl) (by kernel_rfl) (id:=3) (mid:=2) (gid:=4) (ck:=kS) (ck':=kS) rfl rfl rfl rfl (λ_=> ?_) (λj hj=>absurd hj (Nat.not_lt_zero _));refine cF hz hX gx aK.Ok.nil func38 (apX dU m ft) ?_;rw[ap2]at hov;subst hov;exact bD 3 (by kernel_rfl) (le_refl _) f.1 f.2
  |succ k ih=>
   intro dU left cur hl bB hov hk hr;refine cF hz hX gx aK.Ok.nil func38 (amr dU m left cur ft) ?_;refine pU (x:=17) (d:=18) (by kernel_rfl) (by kernel_rfl) (id:=3) (mid:=2) (gid:=4) (ck:=kS) (ck':=kS) rfl rfl rfl rfl (λh0=> ?_) (λj hj=> ?_);subst h0;simp at hl;have hgj:left.getD j (0,kS.d)=left[j]:=ba hj;have⟨r1,r2⟩:=hr _ (getElem_mem hj);have⟨k1,k2,_⟩:=yd hk hj;refine cF hz hX gx aK.Ok.nil func38 (apY dU m (left.eraseIdx j) (left.getD j (0,kS.d)) ft) ⟨by rw[hgj];exact r1,by rw[hgj,bB];exact r2, ?_⟩;have:=ih (dU.set left[j].1.toNat (qp left[j].2)) (left.eraseIdx j) (some left[j]) (by rw[List.length_eraseIdx,if_pos hj];omega) (by rw[length_set];exact bB) (by rw[amt hk hj r1 (by rw[bB];exact r2)];exact hov) k1
    (λp hp=>hr p (k2 p hp).1)
   rw[hgj];exact this
 refine cF hz hX gx aK.Ok.nil func38 (auy th m ft) ?_;refine ya (t:=54) (x:=16) (d:=17) (by kernel_rfl) (by kernel_rfl) (by kernel_rfl) (id:=2) (ck:=kS) rfl rfl ?_;refine cF hz hX gx aK.Ok.nil func38 (apW th m ft) ?_;exact loop m.length th m none rfl rfl rfl hd.m.1 λp hp=>⟨(hd.m.2 p hp).1,(hd.m.2 p hp).2.1⟩
end Ds
namespace Go.Sx
open Go
def abX(i:Nat)(c0:aU)(s:Nat->List AV->RM bQ):Nat->List AV->RM bQ:=λbase args=>
 match args[i]? with
 |some (.vec id)=>.look id λo=>match o with
  |some (.vec c _)=>((s base (args.set i (.s (.ro c)))).afP id).bind λq=>.ret ⟨q.ab,(id,.aw)::q.up,q.new,q.r⟩|_=>.fail ""
 |some .emp=>bif c0.n.beq 0 then s base (args.set i (.s (.ro c0)))else .fail ""|_=>s base args
section
variable{ρ aL:Nat->Value}{H H':aS}{G O O':Nat->Prop}{w w':World}{P:Program}{Z:bh}
theorem adU{aP:List AV}:∀{vs:List Value} {i:Nat} {a b:AV},bL ρ H O w aP vs->aP[i]? =some a->(∀v,af ρ H O w a v->af ρ H O w b v)->bL ρ H O w (aP.set i b) vs:=by
 induction aP with
 |nil=>intro vs i a b h hi;simp at hi
 |cons x aP ih=>
  intro vs i a b h hi hab;obtain⟨v,rest,rfl,h1,h2⟩:=aD.1 h;cases i with
  |zero=>
   simp only[List.getElem?_cons_zero,Option.some.injEq]at hi;subst hi;exact aD.2 ⟨v,rest,rfl,hab v h1,h2⟩
  |succ i=>exact aD.2 ⟨v,rest,rfl,h1,ih h2 (by simpa using hi) hab⟩
theorem aaC{f:FuncId}{s:Nat->List AV->RM bQ}(h:re P Z f s)(i:Nat)(c0:aU):re P Z f (abX i c0 s):=by
 intro base args H q hq hn ρ G w vs dA hz hs hd;unfold abX at hq;split at hq;rename_i id hi;simp only[RM.eval]at hq;split at hq;rename_i c e ho;have⟨q',h1,h2⟩:=RM.pT hq;simp only[RM.eval,Option.some.injEq]at h2;subst h2;rw[RM.mH]at h1;have st:=fi (ρ:=ρ) (G:=G) (w:=w) ho;have hd1:=bL.step st _ _ hd
 have hd2:bL ρ (aB H id .aw) (aV ρ (aB H id .aw) G) w (args.set i (.s (.ro c))) vs:=by
  have key:∀(aP:List AV) (vs:List Value) (i:Nat),bL ρ H (aV ρ H G) w aP vs->bL ρ (aB H id .aw) (aV ρ (aB H id .aw) G) w aP vs->aP[i]? =some (.vec id)->bL ρ (aB H id .aw) (aV ρ (aB H id .aw) G) w (aP.set i (.s (.ro c))) vs:=by
   intro aP
   induction aP with
   |nil=>intro vs i h1 h2 hi;simp at hi
   |cons x aP ih=>
    intro vs i h1 h2 hi;obtain⟨v,rest,rfl,h3,h4⟩:=aD.1 h1;have⟨v',awG,e1,h5,h6⟩:=aD.1 h2;cases e1;cases i with
    |zero=>
     simp only[List.getElem?_cons_zero,Option.some.injEq]at hi;subst hi;obtain⟨a,cap,rfl,hr,_⟩:=iz hs ho h3;have:=rX hs ho;rw[hr]at this;exact aD.2 ⟨_,rest,rfl,aE this,h6⟩
    |succ i=>exact aD.2 ⟨v,rest,rfl,h5,ih rest i h4 h6 (by simpa using hi)⟩
  exact key args vs i hd hd1 hi
 have hz1:ZAt Z ρ (aB H id .aw) w:=⟨hz.1,λb hb hO=>hz.2 b hb (fj hO)⟩
 have abY:∀j,j<q'.new.length->aB H id .aw (base+j)=none:=λj hj=>by
  have:=dA j hj;simp only[aB];split;rename_i e1;rw[e1,ho]at this;cases this;exact this
 refine(h base _ _ q' h1 hn ρ G w vs abY hz1 (hs.kill ho) hd2).mono ?_;rintro en w' ⟨v,he,hg⟩;refine⟨v,he, ?_⟩
 have af4:cY H ((id,.aw)::q'.up) base q'.new=cY (aB H id .aw) q'.up base q'.new:=by
  funext j;simp only[cY,cw,aB];cases cw q'.up j with
  |some x=>rfl|none=>
   simp only[];by_cases hj:j=id;subst hj
   have uc:¬(base<=j/\j<base+q'.new.length):=by
    rintro⟨k1,k2⟩;have:=dA (j - base) (by simp only[];omega);rw[show base+(j - base)=j from by omega,ho]at this;cases this
   simp[uc];simp[hj]
 simp only[];rw[af4];exact Good.after st (λb hb=>fj hb) hg;cases hq;rename_i hi;rw[cond_eq_ite]at hq;split at hq;rename_i hc;have hc:c0.n=0:=by simpa using hc
 refine h base _ H q hq hn ρ G w vs dA hz hs (adU hd hi λv hv=> ?_);unfold af at hv;obtain⟨a,rfl⟩:=hv;exact aE (sf hc a);cases hq;exact h base _ H q hq hn ρ G w vs dA hz hs hd
def akf{X:Type}(S:Spec X)(x:X)(L:List ak)(r:AV):Prop:=
 ∃(N:Norm) (o:AV),(S.heap x).length<=N.m/\N.run ⟨[r],L,[],{}⟩=some ⟨[o],S.dN x,[],{}⟩/\∀(ρ:Nat->Value) (H:aS) (O:Nat->Prop) (w:World) (v:Value),af ρ H O w o v->af ρ H O w (S.out x) v
variable{X:Type}{S:Spec X}
theorem sF{f:FuncId}{fn:Func}(hf:P.funcs[f]? =some fn)(hb:fn.body.isSome=true)(hn:∀x,(S.args x).length<=fn.ntmps)
 (h:∀x,bJ (S.pre x)->∀X:Ctx,X.H=lk (S.heap x)->dZ Z X->Safe P f X (akf S x) (start fn (S.args x) (S.heap x))):fI P Z f S:=by
 intro x mK ρ G w vs hz hs hd;have⟨c,hb⟩:=isSome_iff_exists.1 hb
 have pa:vs.length=(S.args x).length:=by
  have:∀{aP:List AV} {vs:List Value},bL ρ (lk (S.heap x)) (aV ρ (lk (S.heap x)) G) w aP vs->vs.length=aP.length:=by
   intro aP
   induction aP with
   |nil=>intro vs h;rw[a8.1 h];rfl
   |cons a aP ih=>intro vs h;obtain⟨v,rest,rfl,_,h2⟩:=aD.1 h;simp[ih h2]
  exact this hd
 refine(jq (R:=kp ⟨ρ,lk (S.heap x),G,w,[]⟩ (akf S x)) hf hb ?_).mono ?_;have:=(h x mK ⟨ρ,lk (S.heap x),G,w,[]⟩ rfl hz).goes rfl rfl (ρ:=ρ) (a:={tmps:=vs.toArray++Array.replicate (fn.ntmps - vs.toArray.size) undef,defers:=[]}) (w:=w);simp only[start,hb,getD_some]at this;refine this ⟨hs, ?_,λt=> ?_,rfl,Step.refl _ _ _ _,⟨rfl,rfl,rfl,λ_ _ _=>rfl⟩,λx hx=>by cases hx⟩;simp[pa]
 have e1:∀(aP:List AV) (vs:List Value),bL ρ (lk (S.heap x)) (aV ρ (lk (S.heap x)) G) w aP vs->∀t,af ρ (lk (S.heap x)) (aV ρ (lk (S.heap x)) G) w (aP.getD t (.bq [])) (vs.getD t undef):=by
  intro aP
  induction aP with
  |nil=>intro vs h t;rw[a8.1 h];simp only[List.getD,List.getElem?_nil,Option.getD_none];exact cz
  |cons a aP ih=>
   intro vs h t;obtain⟨v,rest,rfl,h1,h2⟩:=aD.1 h;cases t with
   |zero=>simpa using h1|succ t=>simpa using ih rest h2 t
 have h1:=e1 _ _ hd t;simp only[List.getD_eq_getElem?_getD,List.getElem?_append,List.getElem?_replicate,getD_eq_getD_getElem?,Array.getElem?_append,List.getElem?_toArray,Array.getElem?_replicate,List.size_toArray]at h1 ⊢;rw[pa];split;rename_i ht;have hv:vs[t]? =some vs[t]:=getElem?_eq_getElem (by omega);have ha:(S.args x)[t]? =some (S.args x)[t]:=getElem?_eq_getElem ht;rw[hv,ha]at h1 ⊢;exact h1;split;exact cz;unfold af;trivial;rintro e w' ⟨v,rfl,L,r,⟨N,o,hm,hN,hwk⟩,jG,g1,g2,g3,g4⟩;refine⟨v,rfl, ?_⟩
 have r0:cg ⟨ρ,lk (S.heap x),G,w,[]⟩ jG ⟨[r],L⟩ {tmps:= #[v],defers:=[]} w':=by
  refine⟨g1,rfl,λt=> ?_,rfl,g3,g4,λx hx=>by cases hx⟩;cases t with
  |zero=>exact g2|succ t=>simp only[List.getD,Array.getD];simp;unfold af;trivial
 have h0:∀id,N.m<=id->(⟨ρ,lk (S.heap x),G,w,[]⟩:Ctx).H id=none:=λid dq=>by simp[lk];omega
 unfold Norm.run at hN;split at hN;rename_i t1 L1 h1;simp only[]at hN;split at hN;rename_i t2 L2 h2;simp only[Option.some.injEq,bP.mk.injEq,and_true]at hN;obtain⟨rfl,rfl⟩:=hN;have⟨jG,r1⟩:=cg.gi h0 h1 (cg.eR N.keep r0);have⟨gw,r2⟩:=cg.gF N.qI r1;have⟨ρ3,r3⟩:=cg.gG N.cells r2;have⟨ρ4,r4⟩:=cg.gi h0 h2 r3;exact⟨ρ4,r4.sat,(hwk _ _ _ _ _ (by have h:=r4.den 0;exact h)),r4.ao,r4.jF⟩;cases hN;cases hN
end
end Go.Sx
namespace Ds
open Go Go.Sx Go.Proofs Lf
abbrev aM(n:Int):AV:=.s (.int .i64 n)
def sG:List AV->RM ((Th×As×Int)×List Nat)
 |[.ptr id 0]=>.look id λo=>match o with
  |some (.aq [.vec i,.fv j,f] _)=>.look i λo=>match o with
   |some (.vec (.au [.arr .u8 64] th) _)=>.look j λo=>match o,f.cC with
    |some (.map (.arr .u8 64) m),some (_,_,fu)=>.ret ((th,m,fu),[id,i,j])|_,_=>.fail ""
   |_=>.fail ""
  |_=>.fail ""
 |_=>.fail ""
def mRd:List AV->RM ((Th×As×Int×Int)×List Nat)
 |[.ptr id 0,n]=>(sG [.ptr id 0]).bind λ((th,m,fu),σ)=>match n.cC with
  |some (_,_,n)=>.ret ((th,m,fu,n),σ)|none=>.fail ""
 |_=>.fail ""
abbrev axf:=bY sRd mRd
def mWr:List AV->RM ((Th×As×Int×Int×ByteArray)×List Nat)
 |[.ptr id 0,n,.s (.str s)]=>(sG [.ptr id 0]).bind λ((th,m,fu),σ)=>match n.cC with
  |some (_,_,n)=>.ret ((th,m,fu,n,s),σ)|none=>.fail ""
 |_=>.fail ""
def mFu:List AV->RM ((Th×As×Int×Int)×List Nat):=mRd
abbrev axg:=bY sWr mWr
def axh(th:Th)(m:As)(fu:Int):Bool:=th.length.ble 4096&&(List.range th.length).all (λi=>(fF (th.getD i (CL.d cS))).length==64)&&decide (m.map (·.1)).Nodup&&m.all (λp=>decide (0<=p.1)&&decide (p.1<(th.length:Int))&&List.length (α:=Int) p.2==64)&&decide (-1<=fu)&&decide (fu<=9223372036854775807)
theorem azG{th:Th}{m:As}{fu:Int}(h:axh th m fu=true):bm th m fu:=by
 simp only[axh,and_eq_true,all_eq_true,beq_iff_eq,decide_eq_true_eq,mem_range]at h;have⟨⟨⟨⟨⟨h1,h2⟩,h3⟩,h4⟩,h5⟩,h6⟩:=h;exact⟨⟨le_of_ble_eq_true h1,h2⟩,⟨h3,λp hp=>⟨(h4 p hp).1.1,(h4 p hp).1.2,(h4 p hp).2⟩⟩,h5,h6⟩
theorem amu{n:Nat}(h:n<=4096):bm (replicate n (CL.d cS)) [] (-1):=by
 refine⟨⟨by simpa using h,λi hi=> ?_⟩,⟨by simp,λp hp=>by cases hp⟩,by omega,by omega⟩;simp only[List.length_replicate]at hi;rw[ba (by simpa using hi),List.getElem_replicate];rfl
theorem uv{m:As}(h:(m.map (·.1)).Nodup){n:Int}{v:kS.V}:((mm m n v).map (·.1)).Nodup:=by
 unfold mm;split;rw[rU];exact h;rename_i hn;have hn:∀p∈m,p.1≠n:=λp hp e=>hn (by simp only[oe,List.any_eq_true,beq_iff_eq];exact⟨p,hp,e⟩);rw[map_append,nodup_append];refine⟨h,by simp,λa ha b hb=> ?_⟩;simp only[map_cons,map_nil,mem_singleton]at hb;obtain⟨p,hp,rfl⟩:=mem_map.1 ha;rw[hb];exact hn p hp
theorem abZ{fu:Int}(h:okF fu):okF (dC fu):=by
 unfold okF dC imax at *;split;omega;split<;>omega
theorem ye{th:Th}{m:As}{fu n:Int}{s:ByteArray}(h:bm th m fu):bm th (uq th m fu n s) (ur th fu n s):=by
 refine⟨h.t, ?_, ?_⟩;unfold uq;split;rename_i he
 have cO:jg th n=true/\s.size=64:=by
  unfold pb at he
  repeat' split at he
  all_goals first|(cases he;done)|exact⟨by assumption,by assumption⟩
 have⟨h0,h1⟩:=fm.1 cO.1;refine⟨uv h.m.1,λp hp=> ?_⟩;rcases adS p hp with hp|rfl;exact h.m.2 p hp;exact⟨h0,h1,by show(bw s).length=64;rw[jC];exact cO.2⟩;exact h.m;unfold ur;split;exact abZ h.f;exact h.f
theorem auz{th:Th}{m:As}(h:nM th)(hm:okM th.length m):nM (ovl th m):=by
 refine⟨by rw[js];exact h.1,λi hi=> ?_⟩;rw[js]at hi;rw[sD hi];exact sC (fu:=0) ⟨h,hm,by omega,by omega⟩ (fm.2 ⟨by omega,by omega⟩)
theorem asO{th:Th}{m:As}{fu:Int}(h:bm th m fu):bm (lM th m fu) (oa m fu) (dC fu):=by
 unfold lM oa;split;exact⟨h.t,h.m,abZ h.f⟩;exact⟨auz h.t h.m,⟨by simp,λp hp=>by cases hp⟩,abZ h.f⟩
theorem qx(s:ByteArray):aF (bw s)=s:=by
 have⟨⟨l⟩⟩:=s;simp only[aF,bw,List.map_map];congr 2;refine(List.map_congr_left λb _=> ?_).trans (List.map_id l);simp
theorem sH{m:As}(h:(m.map (·.1)).Nodup){n x:Int}{v:kS.V}:cp (mm m n v) x=if x=n then some v else cp m x:=by
 split;rename_i e;subst e
 have hm:(x,v)∈mm m x v:=by
  unfold mm;split;rename_i hh;simp only[oe,List.any_eq_true,beq_iff_eq]at hh;have⟨p,hp,e⟩:=hh;exact mem_map.2 ⟨p,hp,by rw[if_pos (by simpa using e)]⟩;exact mem_append_right _ mem_cons_self
 exact ny (uv h) hm;rename_i e;cases hg:cp m x with
 |none=>
  refine uu λp hp ep=> ?_;rcases adS p hp with hp|rfl;have:=ny h hp;rw[ep,hg]at this;cases this;exact e ep.symm
 |some u=>
  have hu:=yb hg;refine ny (uv h) (p:=(x,u)) ?_;unfold mm;split;exact mem_map.2 ⟨_,hu,by rw[if_neg (by simpa using e)]⟩;exact List.mem_append_left _ hu
theorem amv{th:Th}{m:As}(h:(m.map (·.1)).Nodup){n x:Int}{v:List Int}:lg th (mm m n v) x=if x=n then v else lg th m x:=by
 have e:=sH h (n:=n) (x:=x) (v:=v);unfold lg;by_cases hx:x=n;rw[if_pos hx]at e ⊢;rw[e];rw[if_neg hx]at e ⊢;rw[e]
theorem amw{th:Th}{m:As}{x:Int}(h:jg th x=true):lg (ovl th m) [] x=lg th m x:=by
 have⟨h0,h1⟩:=fm.1 h;have:lg (ovl th m) [] x=fF ((ovl th m).getD x.toNat (CL.d cS)):=rfl;rw[this,sD (by omega)];congr 1;omega
theorem yf{th dU:Th}(h:dU.length=th.length)(x:Int):jg dU x=jg th x:=by unfold jg;rw[h]
theorem pd{th:Th}{fu n:Int}{s:ByteArray}:pb th fu n s=0↔jg th n=true/\s.size=64/\fu≠0:=by
 unfold pb;constructor
 ·intro h
  repeat' split at h
  all_goals first|(cases h;done)|exact⟨by assumption,by assumption,by assumption⟩
 ·rintro⟨h1,h2,h3⟩;simp[h1,h2,h3]
theorem amx{th:Th}{m:As}{fu n x:Int}{s:ByteArray}(h:bm th m fu):cG th (uq th m fu n s) x=if pb th fu n s=0/\x=n then s else cG th m x:=by
 unfold uq;by_cases he:pb th fu n s=0;rw[if_pos he];have⟨h1,h2,_⟩:=pd.1 he;unfold cG;rw[amv h.m.1];by_cases hx:x=n;subst hx;rw[if_pos h1,if_pos rfl,if_pos ⟨he,rfl⟩,qx];simp only[if_neg hx,hx,and_false,if_false];simp only[if_neg he,he,false_and,if_false]
theorem asP{th:Th}{m:As}{fu x:Int}:cG (lM th m fu) (oa m fu) x=cG th m x:=by
 unfold lM oa;split;rfl;unfold cG;rw[yf (js th m)];split;rename_i hh;rw[amw hh];rfl
theorem axi{n:Int}(h:(Lit.int .u8 n).wf=true):0<=n/\n<=255:=by
 simp only[Lit.wf,and_eq_true,decide_eq_true_eq]at h;exact h
theorem uw(l:List Int):(aF l).size=l.length:=by
 show(l.map _).toArray.size=_;simp
theorem ab0(a b:List Int):aF (a++b)=aF a++aF b:=by
 apply ext;rw[ByteArray.data_append];show(List.map _ (a++b)).toArray=(List.map _ a).toArray++(List.map _ b).toArray;rw[map_append,List.append_toArray]
theorem qy(l:List Int)(i j:Nat):(aF l).extract i j=aF ((l.take j).drop i):=by
 apply ext;rw[ByteArray.data_extract];show(List.map _ l).toArray.extract i j=(List.map _ _).toArray;rw[List.extract_toArray,List.map_drop,List.map_take,List.extract_eq_take_drop];congr 1;rw[List.drop_take]
theorem ab1{th:Th}{m:As}{fu n:Int}(h:bm th m fu)(hn:jg th n=true):(cG th m n).size=64:=by
 unfold cG;rw[if_pos hn,uw,sC h hn]
def eF(th:Th):Int:=(th.length:Int).tdiv 4
def wv(th:Th)(n:Int):Bool:=decide (0<=n)&&decide (n<eF th)
def pgL(th:Th)(m:As)(n:Int):Nat->List Int
 |0=>[]|k+1=>pgL th m n k++bw (cG th m (n*4+(k:Int)))
def pgA(th:Th)(m:As)(n:Int):List Int:=pgL th m n 4
def sK(ws:List Int):Int:=ws.getD 0 0*256+ws.getD 1 0
def gM(th:Th)(m:As)(n:Int):Int:=if wv th n=true then(if sK (pgA th m n)>254 then 4 else 0)else 5
def fJ(th:Th)(m:As)(n:Int):ByteArray:=if gM th m n=0 then aF (((pgA th m n).drop 2).take (sK (pgA th m n)).toNat)else empty
def pgB(s:ByteArray):List Int:=(s.size:Int) / 256::(s.size:Int)%256::(bw s++replicate (254 - s.size) 0)
def iI(ws:List Int)(k:Nat):ByteArray:=aF ((ws.drop (64*k)).take 64)
def zE(th:Th)(n:Int)(ws:List Int):Nat->Nat->As->Int->As×Int×Int
 |0,_,m,f=>(m,f,0)|j+1,k,m,f=>if pb th f (n*4+(k:Int)) (iI ws k)=0 then zE th n ws j (k+1) (uq th m f (n*4+(k:Int)) (iI ws k)) (ur th f (n*4+(k:Int)) (iI ws k))
   else(uq th m f (n*4+(k:Int)) (iI ws k),ur th f (n*4+(k:Int)) (iI ws k),pb th f (n*4+(k:Int)) (iI ws k))
def gwC(th:Th)(n:Int)(s:ByteArray):Int:=if wv th n=true then(if(s.size:Int)>254 then 40 else 0)else 5
def kr(th:Th)(m:As)(fu n:Int)(s:ByteArray):As×Int×Int:=if gwC th n s=0 then zE th n (pgB s) 4 0 m fu else(m,fu,gwC th n s)
def epN(s:ByteArray):Nat->Int
 |0=>0|i+1=>epN s i*256+aJ s (i+1)
def pgT(s:ByteArray):Int:=aJ s 9*256+aJ s 10
def zF(s:ByteArray):Bool:=aJ s 0==1
def ab2(s:ByteArray):Int:=if epN s 8>1099511627776 then 0 else epN s 8
def ab3(s:ByteArray):Int:=if pgT s>=1024 then 0 else pgT s
def mN(th:Th)(k:Int):Int:=if 0<=k/\k<=1/\k<eF th then 0 else 5
def iS(th:Th)(m:As)(k:Int):Bool:=decide (mN th k=0)&&zF (cG th m (k*4))
def ga(th:Th)(m:As)(k:Int):Int:=if mN th k=0 then ab2 (cG th m (k*4))else 0
def mO(th:Th)(m:As)(k:Int):Int:=if mN th k=0 then ab3 (cG th m (k*4))else 0
def mkB(on:Bool)(ep pg:Int):List Int:=[if on=true then 1 else 0,ep / 72057594037927936%256,ep / 281474976710656%256,ep / 1099511627776%256,ep / 4294967296%256,ep / 16777216%256,ep / 65536%256,ep / 256%256,ep%256,pg / 256%256,pg%256]++replicate 53 0
def pe(on:Bool)(ep pg:Int):ByteArray:=aF (mkB on ep pg)
def srC(th:Th)(k ep pg:Int):Int:=if mN th k=0 then(if ep<0\/ep>1099511627776\/pg<0\/pg>=1024 then 1 else 0)else 5
def zG(th:Th)(fu k:Int)(on:Bool)(ep pg:Int):Int:=if srC th k ep pg=0 then pb th fu (k*4) (pe on ep pg)else srC th k ep pg
def ku(th:Th)(m:As)(fu k:Int)(on:Bool)(ep pg:Int):As:=if srC th k ep pg=0 then uq th m fu (k*4) (pe on ep pg)else m
def pV(th:Th)(fu k:Int)(on:Bool)(ep pg:Int):Int:=if srC th k ep pg=0 then ur th fu (k*4) (pe on ep pg)else fu
theorem c8(s:ByteArray)(i:Nat):0<=aJ s i/\aJ s i<=255:=by
 have:=(s.data.toList.getD i 0).toNat_lt;unfold aJ;omega
theorem wrap_u8(n:Int):u8.wrap n=n%256:=rfl
theorem pf{n:Int}(h0:0<=n)(h1:n<18446744073709551616):u64.wrap n=n:=by
 show n%18446744073709551616=n;omega
theorem sM{a b:Int}(ha:0<=a/\a<=255)(hb:0<=b/\b<=255):bE BinOp.or i64 (i64.wrap (a*2^min (Int.toNat 8) i64.bits)) b=a*256+b:=by
 have e1:i64.wrap (a*2^min (Int.toNat 8) i64.bits)=a*256:=by
  rw[show(2:Int)^min (Int.toNat 8) i64.bits=256 from by decide];exact cq ⟨by omega,by omega⟩
 rw[e1];obtain⟨x,rfl⟩:=Int.eq_ofNat_of_zero_le ha.1;obtain⟨y,rfl⟩:=Int.eq_ofNat_of_zero_le hb.1;show i64.wrap ((BitVec.ofInt 64 _ ||| BitVec.ofInt 64 _).toNat:Int)=_;have e2:(BitVec.ofInt 64 ((x:Int)*256)).toNat=2^8*x:=by rw[BitVec.toNat_ofInt];omega
 have e3:(BitVec.ofInt 64 (y:Int)).toNat=y:=by rw[BitVec.toNat_ofInt];omega
 rw[BitVec.toNat_or,e2,e3,<-Nat.two_pow_add_eq_or_of_lt (by omega),cq ⟨by omega,by omega⟩];omega
theorem ags{a b:Int}(ha:0<=a/\a<72057594037927936)(hb:0<=b/\b<=255):bE BinOp.or u64 (u64.wrap (a*2^min (Int.toNat 8) u64.bits)) (u64.wrap b)=a*256+b:=by
 have e1:u64.wrap (a*2^min (Int.toNat 8) u64.bits)=a*256:=by
  rw[show(2:Int)^min (Int.toNat 8) u64.bits=256 from by decide];exact pf (by omega) (by omega)
 rw[e1,pf (n:=b) (by omega) (by omega)];obtain⟨x,rfl⟩:=Int.eq_ofNat_of_zero_le ha.1;obtain⟨y,rfl⟩:=Int.eq_ofNat_of_zero_le hb.1;show u64.wrap ((BitVec.ofInt 64 _ ||| BitVec.ofInt 64 _).toNat:Int)=_;have e2:(BitVec.ofInt 64 ((x:Int)*256)).toNat=2^8*x:=by rw[BitVec.toNat_ofInt];omega
 have e3:(BitVec.ofInt 64 (y:Int)).toNat=y:=by rw[BitVec.toNat_ofInt];omega
 rw[BitVec.toNat_or,e2,e3,<-Nat.two_pow_add_eq_or_of_lt (by omega),pf (by omega) (by omega)];omega
def epS(s:ByteArray):Nat->Int
 |0=>0|i+1=>bE BinOp.or u64 (u64.wrap (epS s i*2^min (Int.toNat 8) u64.bits)) (u64.wrap (aJ s (i+1)))
theorem ux(s:ByteArray):∀i:Nat,0<=epN s i/\epN s i<256^i
 |0=>by simp[epN]
 |i+1=>by
  have⟨h0,h1⟩:=ux s i;have hb:=c8 s (i+1);rw[epN,Int.pow_succ];omega
theorem amy(s:ByteArray):∀i:Nat,i<=8->epS s i=epN s i
 |0,_=>rfl|i+1,hi=>by
  have⟨h0,h1⟩:=ux s i
  have h2:(256:Int)^i<=256^7:=by
   have:i=0\/i=1\/i=2\/i=3\/i=4\/i=5\/i=6\/i=7:=by omega
   rcases this with rfl|rfl|rfl|rfl|rfl|rfl|rfl|rfl<;>decide
  rw[epS,epN,amy s i (by omega)]
  exact ags ⟨h0,by have:(256:Int)^7=72057594037927936:=by decide
                   omega⟩ (c8 s (i+1))
theorem gj(s:ByteArray):(bw s).length=s.size:=by unfold bw;rw[length_map];exact length_toList
theorem gk{th:Th}{n:Int}:wv th n=true↔0<=n/\n<eF th:=by simp[wv]
theorem ph(th:Th):0<=eF th/\4*eF th<=(th.length:Int):=by
 unfold eF;rw[Int.tdiv_eq_ediv_of_nonneg (by omega)];omega
theorem ab4{th:Th}{n:Int}(h:wv th n=true){k:Nat}(hk:k<4):jg th (n*4+(k:Int))=true:=by
 have⟨h0,h1⟩:=gk.1 h;have:=ph th;exact fm.2 ⟨by omega,by omega⟩
theorem ah3{th:Th}{m:As}{fu n:Int}(h:bm th m fu)(hn:wv th n=true):∀k:Nat,k<=4->(pgL th m n k).length=64*k
 |0,_=>rfl|k+1,hk=>by
  rw[pgL,length_append,ah3 h hn k (by omega),gj,ab1 h (ab4 hn (by omega))];omega
theorem agt{xs ys:List Int}{k:Nat}(hx:xs.length=64*k)(hy:ys.length=64)(hk:k<4):
 over (xs++replicate (256 - 64*k) 0) (64*k) 64 ys=xs++ys++replicate (256 - 64*(k+1)) 0:=by
 unfold over;rw[<-hx,List.take_left,take_of_length_le (by omega),List.drop_append,List.drop_replicate,List.drop_eq_nil_of_le (by omega),nil_append,hx];congr 2;omega
theorem auA{s:ByteArray}(h:s.size<=254):
 over (((replicate 256 (0:Int)).set 0 (u8.wrap ((s.size:Int).fdiv (2^min (Int.toNat 8) i64.bits)))).set 1 (u8.wrap (s.size:Int))) 2 (min (bw s).length 254) (bw s)=pgB s:=by
 have e:(replicate 256 (0:Int))=0::0::replicate 254 0:=rfl;have hl:=gj s;rw[e];simp only[List.set_cons_zero,List.set_cons_succ,over,List.take_succ_cons,List.take_zero,hl,wrap_u8];rw[show(2:Int)^min (Int.toNat 8) i64.bits=256 from by decide,Int.fdiv_eq_ediv_of_nonneg _ (by omega),Nat.min_eq_left h,take_of_length_le (by omega),Nat.add_comm 2,List.drop_succ_cons,List.drop_succ_cons,List.drop_replicate];unfold pgB;rw[show(s.size:Int) / 256%256=(s.size:Int) / 256 from by omega];rfl
theorem ah4{s:ByteArray}(h:s.size<=254):(pgB s).length=256:=by
 unfold pgB;simp only[length_cons,length_append,List.length_replicate,gj];omega
theorem amz{s:ByteArray}:∀x∈pgB s,s.size<=254->0<=x/\x<=255:=by
 intro x hx h;simp only[pgB,mem_cons,mem_append,List.mem_replicate,bw,mem_map]at hx;rcases hx with rfl|rfl|⟨b,_,rfl⟩|⟨_,rfl⟩;omega;omega;have:=b.toNat_lt;omega;omega
theorem aaD{ws:List Int}(h:ws.length=256){k:Nat}(hk:k<4):(iI ws k).size=64:=by
 unfold iI;rw[uw,length_take,length_drop];omega
theorem sN(on:Bool)(ep pg:Int):(mkB on ep pg).length=64:=rfl
theorem mP(on:Bool)(ep pg:Int):(pe on ep pg).size=64:=by unfold pe;rw[uw];rfl
theorem amA{th:Th}{n:Int}{ws:List Int}:∀(j k:Nat) (m:As) (f:Int),bm th m f->bm th (zE th n ws j k m f).1 (zE th n ws j k m f).2.1
 |0,k,m,f,h=>h|j+1,k,m,f,h=>by
  unfold zE;split;exact amA j (k+1) _ _ (ye h);exact ye h
theorem asQ{th:Th}{m:As}{fu n:Int}{s:ByteArray}(h:bm th m fu):bm th (kr th m fu n s).1 (kr th m fu n s).2.1:=by
 unfold kr;split;exact amA _ _ _ _ h;exact h
theorem adV{th:Th}{m:As}{fu k:Int}{on:Bool}{ep pg:Int}(h:bm th m fu):bm th (ku th m fu k on ep pg) (pV th fu k on ep pg):=by
 unfold ku pV;split;exact ye h;exact h
def vT:aK:=[(44,axf),(59,axg)]
abbrev amB:FuncId:=131
abbrev inG:List FuncId:=[67,22,42,104,amB,43]
abbrev eP:TypeId:=25
abbrev eE:TypeId:=35
abbrev eA:TypeId:=157
def agu:List (Nat×Norm):=[((amB+1)*100000+1,⟨[],[0,1,4,19,21,22,24,67,68],3,[]⟩),(12,⟨[],[4,5,7,50],3,[]⟩)]
def cGR(th:Th)(m:As)(fu n:Int)(ws:List Int)(k:Int):bP:=⟨sl 69 [(0,.tag 3),(1,.ptr 4 0),(4,aM k),(19,.ptr 5 0),(21,.ptr 6 0),(22,.ptr 7 0),(24,.ptr 8 0),(67,.tag 9),(68,.tag 3)],
 [jI 1 2 fu,.vec (.au cS th) eS,.map kS m,.aw,.aq [aM n] 3,.aq [.ptr 0 0] eP,.aq [.s (.str empty)] 9,.aq [aM 0] eE,.aq [.ah .u8 256 ws] eA,.aw],hd f131 1,⟨some amB,false,0,[sk f84 none 8 1],0⟩⟩
def amC(th:Th)(m:As)(fu:Int)(ws:List Int):bP:=⟨sl 51 [(4,.ptr 3 0),(5,.ptr 4 0),(7,.ptr 5 0),(50,.tag 6)],[jI 1 2 fu,.vec (.au cS th) eS,.map kS m,.aq [.s (.str empty)] 9,.aq [aM 0] eE,.aq [.ah .u8 256 ws] eA,.aw],hr f84 12,⟨none,false,1,[],0⟩⟩
def ap3:List (Nat×Norm):=[((amB+1)*100000+1,⟨[],[0,1,4,20,23,25,64,65],3,[]⟩)]
def cGW(th:Th)(m:As)(fu n:Int)(ws:List Int)(k:Int):bP:=⟨sl 66 [(0,.tag 3),(1,.ptr 4 0),(4,aM k),(20,.ptr 5 0),(23,.ptr 6 0),(25,.ptr 7 0),(64,.tag 8),(65,.tag 3)],
 [jI 1 2 fu,.vec (.au cS th) eS,.map kS m,.aw,.aq [aM n] 3,.aq [.ptr 0 0] eP,.aq [aM 0] eE,.aq [.ah .u8 256 ws] eA,.aw],hd f131 1,⟨some amB,false,0,[sk f125 none 11 1],0⟩⟩
abbrev avM(on:Bool)(ep pg:Int):AV:=.agg [.s (.bool on),aM ep,aM pg]
def akg:List (Nat×Norm):=[(fA+9,⟨[],[],3,[]⟩),(13,⟨[],[4,6,7],3,[]⟩)]
abbrev eM:TypeId:=64
def cGo(th:Th)(m:As)(fu:Int)(s:ByteArray)(E:Int):bP:=⟨sl 61 [(4,.ptr 3 0),(6,.s (.str s)),(7,.s (.int .u64 E))],[jI 1 2 fu,.vec (.au cS th) eS,.map kS m,.aq [.s (.bool false),aM 0,aM 0] eM],hr f23 13,{}⟩
def agv:List (Nat×Norm):=[(9,⟨[],[0,1,5,8],3,[]⟩),(fA+10,⟨[],[],3,[]⟩),(15,⟨[],[0,1,8],3,[]⟩)]
abbrev eB:TypeId:=59
def cGs(th:Th)(m:As)(fu n:Int)(on:Bool)(ep pg:Int)(ws:List Int):bP:=⟨sl 65 [(0,.ptr 0 0),(1,aM n),(5,.ptr 3 0),(8,.ptr 4 0)],[jI 1 2 fu,.vec (.au cS th) eS,.map kS m,.aq [.s (.bool on),aM ep,aM pg] eM,.aq [.ah .u8 64 ws] eB],hr f37 9,{}⟩
def amD(th:Th)(m:As)(fu n:Int)(ws:List Int):bP:=⟨sl 65 [(0,.ptr 0 0),(1,aM n),(8,.ptr 3 0)],[jI 1 2 fu,.vec (.au cS th) eS,.map kS m,.aq [.ah .u8 64 ws] eB],hr f37 15,{}⟩
theorem auB(th:Th)(m:As)(fu n:Int):run P vT.sum f84 agu (start f84 [.ptr 0 0,aM n] (hD th m fu)) inG=
 Tree.ite (decide (n<0)) (.ret (hD th m fu++[.aq [.ptr 0 0] 25,.aq [.s (.str empty)] 9,.aq [.s (.aR .i64 5)] 35]) (.bq [.s (.str empty),.s (.aR .i64 5)])) (.ab ((4:Int)≠0) (.ab (aA ((↑(List.length th):Int).tdiv 4)) (.ite (decide (n>=(↑(List.length th):Int).tdiv 4)) (.ret (hD th m fu++[.aq [.ptr 0 0] 25,.aq [.s (.str empty)] 9,.aq [.s (.aR .i64 5)] 35]) (.bq [.s (.str empty),.s (.aR .i64 5)])) (.at (cGR th m fu n (replicate 256 0) 0))))):=by kernel_rfl
theorem amE(th:Th)(m:As)(fu n:Int)(ws:List Int)(k:Int):run P vT.sum f84 agu (cGR th m fu n ws k) inG=
 Tree.ite (decide (k<4)) (.ab (aA (k*64)) (.ab (aA (n*4)) (.ab (aA (n*4+k)) (.ab (bp (some [AV.ptr 0 0,aM (n*4+k)])) (.ab (bp (some (hD th m fu))) (.ab (bm th m fu) (.ite (rdE th (n*4+k) !=0) (.ret (hD th m fu++[.aw,.aq [aM n] 3,.aq [.ptr 0 0] 25,.aq [.s (.str empty)] 9,.aq [aM (rdE th (n*4+k))] 35,.aq [.ah .u8 256 ws] 157,.aw]) (.bq [.s (.str empty),aM (rdE th (n*4+k))])) (.ab ((0:Int)<=k*64) (.ab (k*64<=(↑(256:Nat):Int)) (.ab ((↑(256:Nat):Int)<=(↑(256:Nat):Int)) (.ab True (.ab ((0:Nat)+(k*64).toNat+((↑(256:Nat):Int).toNat - (k*64).toNat)<=256) (.ab (aA (k+1)) (.at (cGR th m fu n (over ws ((0:Nat)+(k*64).toNat) (min (List.map (λ(b:UInt8)=>(↑b.toNat:Int)) (cG th m (n*4+k)).data.toList).length ((↑(256:Nat):Int).toNat - (k*64).toNat)) (List.map (λ(b:UInt8)=>(↑b.toNat:Int)) (cG th m (n*4+k)).data.toList)) (k+1)))))))))))))))) (.at (amC th m fu ws)):=by kernel_rfl
theorem amF(th:Th)(m:As)(fu:Int)(ws:List Int):run P vT.sum f84 agu (amC th m fu ws) inG=
 Tree.ab (aA (ws.getD (0:Nat) (0:Int))) (Tree.ab ((0:Int)≤(8:Int)) (Tree.ab (aA (ws.getD (1:Nat) (0:Int))) (Tree.ite (decide (bE BinOp.or i64 (i64.wrap (ws.getD (0:Nat) (0:Int)*(2:Int)^min (Int.toNat (8:Int)) i64.bits)) (ws.getD (1:Nat) (0:Int))>(254:Int))) (Tree.ret (hD th m fu++[ak.aq [AV.s (SV.str empty)] (9:Nat),ak.aq [AV.s (SV.aR i64 (4:Int))] (35:Nat),ak.aq [AV.ah u8 (256:Nat) ws] (157:Nat),ak.aw]) (AV.bq [AV.s (SV.str empty),AV.s (SV.aR i64 (4:Int))])) (Tree.ab (aA ((2:Int)+bE BinOp.or i64 (i64.wrap (ws.getD (0:Nat) (0:Int)*(2:Int)^min (Int.toNat (8:Int)) i64.bits)) (ws.getD (1:Nat) (0:Int)))) (Tree.ab ((0:Int)≤(2:Int)) (Tree.ab ((2:Int)≤(2:Int)+bE BinOp.or i64 (i64.wrap (ws.getD (0:Nat) (0:Int)*(2:Int)^min (Int.toNat (8:Int)) i64.bits)) (ws.getD (1:Nat) (0:Int))) (Tree.ab ((2:Int)+bE BinOp.or i64 (i64.wrap (ws.getD (0:Nat) (0:Int)*(2:Int)^min (Int.toNat (8:Int)) i64.bits)) (ws.getD (1:Nat) (0:Int))≤(↑(256:Nat):Int)) (Tree.ab ((2:Nat)+(((2:Int)+bE BinOp.or i64 (i64.wrap (ws.getD (0:Nat) (0:Int)*(2:Int)^min (Int.toNat (8:Int)) i64.bits)) (ws.getD (1:Nat) (0:Int))).toNat - Int.toNat (2:Int))≤(256:Nat)) (Tree.ret (hD th m fu++[ak.aq [AV.s (SV.str (aF (List.take (((2:Int)+bE BinOp.or i64 (i64.wrap (ws.getD (0:Nat) (0:Int)*(2:Int)^min (Int.toNat (8:Int)) i64.bits)) (ws.getD (1:Nat) (0:Int))).toNat - Int.toNat (2:Int)) (List.drop (2:Nat) ws))))] (9:Nat),ak.aq [AV.s (SV.aR i64 (0:Int))] (35:Nat),ak.aq [AV.ah u8 (256:Nat) ws] (157:Nat),ak.aw]) (AV.bq [AV.s (SV.str (aF (List.take (((2:Int)+bE BinOp.or i64 (i64.wrap (ws.getD (0:Nat) (0:Int)*(2:Int)^min (Int.toNat (8:Int)) i64.bits)) (ws.getD (1:Nat) (0:Int))).toNat - Int.toNat (2:Int)) (List.drop (2:Nat) ws)))),AV.s (SV.aR i64 (0:Int))])))))))))):=by kernel_rfl
theorem auC(th:Th)(m:As)(fu n:Int)(s:ByteArray):run P vT.sum f125 ap3 (start f125 [.ptr 0 0,aM n,.s (.str s)] (hD th m fu)) inG=
 Tree.ite (decide (n<(0:Int))) (Tree.ret (hD th m fu++[ak.aq [AV.ptr (0:Nat) (0:Nat)] (25:Nat),ak.aq [AV.s (SV.aR i64 (5:Int))] (35:Nat)]) (AV.s (SV.aR i64 (5:Int)))) (Tree.ab ((4:Int)≠(0:Int)) (Tree.ab (aA ((↑(List.length th):Int).tdiv (4:Int))) (Tree.ite (decide (n≥(↑(List.length th):Int).tdiv (4:Int))) (Tree.ret (hD th m fu++[ak.aq [AV.ptr (0:Nat) (0:Nat)] (25:Nat),ak.aq [AV.s (SV.aR i64 (5:Int))] (35:Nat)]) (AV.s (SV.aR i64 (5:Int)))) (Tree.ite (decide ((↑s.size:Int)>(254:Int))) (Tree.ret (hD th m fu++[ak.aq [AV.ptr (0:Nat) (0:Nat)] (25:Nat),ak.aq [AV.s (SV.aR i64 (40:Int))] (35:Nat)]) (AV.s (SV.aR i64 (40:Int)))) (Tree.ab ((0:Int)≤(8:Int)) (Tree.ab ((0:Int)≤(2:Int)) (Tree.ab ((2:Int)≤(↑(256:Nat):Int)) (Tree.ab ((↑(256:Nat):Int)≤(↑(256:Nat):Int)) (Tree.ab True (Tree.ab ((2:Nat)+(254:Nat)≤(256:Nat)) (Tree.at (cGW th m fu n (over (((replicate (256:Nat) (0:Int)).set (0:Nat) (u8.wrap ((↑s.size:Int).fdiv ((2:Int)^min (Int.toNat (8:Int)) i64.bits)))).set (1:Nat) (u8.wrap (↑s.size:Int))) (2:Nat) (min (List.map (fun(b:UInt8)=>(↑b.toNat:Int)) s.data.toList).length (254:Nat)) (List.map (fun(b:UInt8)=>(↑b.toNat:Int)) s.data.toList)) (0:Int))))))))))))):=by kernel_rfl
theorem amG(th:Th)(m:As)(fu n:Int)(ws:List Int)(k:Int):run P vT.sum f125 ap3 (cGW th m fu n ws k) inG=
 Tree.ite (decide (k<4)) (.ab (aA (k*64)) (.ab (aA (n*4)) (.ab (aA (n*4+k)) (.ab (aA (k*64+64)) (.ab ((0:Int)<=k*64) (.ab (k*64<=k*64+64) (.ab (k*64+64<=(↑(256:Nat):Int)) (.ab ((0:Nat)+(k*64).toNat+((k*64+64).toNat - (k*64).toNat)<=256) (.ab (bp (some [AV.ptr 0 0,aM (n*4+k),.s (.str (aF (List.take ((k*64+64).toNat - (k*64).toNat) (List.drop ((0:Nat)+(k*64).toNat) ws))))])) (.ab (bp (some (hD th m fu))) (.ab (bm th m fu) (.ite (pb th fu (n*4+k) (aF (List.take ((k*64+64).toNat - (k*64).toNat) (List.drop ((0:Nat)+(k*64).toNat) ws))) !=0) (.ret (hD th (uq th m fu (n*4+k) (aF (List.take ((k*64+64).toNat - (k*64).toNat) (List.drop ((0:Nat)+(k*64).toNat) ws)))) (ur th fu (n*4+k) (aF (List.take ((k*64+64).toNat - (k*64).toNat) (List.drop ((0:Nat)+(k*64).toNat) ws))))++[.aw,.aq [aM n] 3,.aq [.ptr 0 0] 25,.aq [aM (pb th fu (n*4+k) (aF (List.take ((k*64+64).toNat - (k*64).toNat) (List.drop ((0:Nat)+(k*64).toNat) ws))))] 35,.aq [.ah .u8 256 ws] 157,.aw]) (aM (pb th fu (n*4+k) (aF (List.take ((k*64+64).toNat - (k*64).toNat) (List.drop ((0:Nat)+(k*64).toNat) ws)))))) (.ab (aA (k+1)) (.at (cGW th (uq th m fu (n*4+k) (aF (List.take ((k*64+64).toNat - (k*64).toNat) (List.drop ((0:Nat)+(k*64).toNat) ws)))) (ur th fu (n*4+k) (aF (List.take ((k*64+64).toNat - (k*64).toNat) (List.drop ((0:Nat)+(k*64).toNat) ws)))) n ws (k+1)))))))))))))))) (.ret (hD th m fu++[.aw,.aq [aM n] 3,.aq [.ptr 0 0] 25,.aq [.s (.aR .i64 0)] 35,.aq [.ah .u8 256 ws] 157,.aw]) (.s (.aR .i64 0))):=by kernel_rfl
theorem auD(th:Th)(m:As)(fu n:Int):run P vT.sum f23 akg (start f23 [.ptr 0 0,aM n] (hD th m fu)) inG=
 Tree.ite (decide (n>(1:Int))) (Tree.ret (hD th m fu++[ak.aq [AV.s (SV.aI false),AV.s (SV.aR i64 (0:Int)),AV.s (SV.aR i64 (0:Int))] (64:Nat)]) (AV.bq [AV.agg [AV.s (SV.aI false),AV.s (SV.aR i64 (0:Int)),AV.s (SV.aR i64 (0:Int))],AV.s (SV.aR i64 (5:Int))]))
 (Tree.ite (decide (n<(0:Int))) (Tree.ret (hD th m fu++[ak.aq [AV.s (SV.aI false),AV.s (SV.aR i64 (0:Int)),AV.s (SV.aR i64 (0:Int))] (64:Nat)]) (AV.bq [AV.agg [AV.s (SV.aI false),AV.s (SV.aR i64 (0:Int)),AV.s (SV.aR i64 (0:Int))],AV.s (SV.aR i64 (5:Int))])) (Tree.ab ((4:Int)≠(0:Int)) (Tree.ab (aA ((↑(List.length th):Int).tdiv (4:Int))) (Tree.ite (decide (n≥(↑(List.length th):Int).tdiv (4:Int))) (Tree.ret (hD th m fu++[ak.aq [AV.s (SV.aI false),AV.s (SV.aR i64 (0:Int)),AV.s (SV.aR i64 (0:Int))] (64:Nat)]) (AV.bq [AV.agg [AV.s (SV.aI false),AV.s (SV.aR i64 (0:Int)),AV.s (SV.aR i64 (0:Int))],AV.s (SV.aR i64 (5:Int))])) (Tree.ab (aA (n*(4:Int))) (Tree.ab (bp (some [AV.ptr (0:Nat) (0:Nat),AV.s (SV.int i64 (n*(4:Int)))])) (Tree.ab (bp (some (hD th m fu))) (Tree.ab (bm th m fu) (Tree.ite (rdE th (n*(4:Int)) !=(0:Int)) (Tree.ret (hD th m fu++[ak.aq [AV.s (SV.aI false),AV.s (SV.aR i64 (0:Int)),AV.s (SV.aR i64 (0:Int))] (64:Nat)]) (AV.bq [AV.agg [AV.s (SV.aI false),AV.s (SV.aR i64 (0:Int)),AV.s (SV.aR i64 (0:Int))],AV.s (SV.int i64 (rdE th (n*(4:Int))))])) (Tree.ab ((0:Int)≤(8:Int)) (Tree.ab ((0:Int)≤(1:Int)) (Tree.ab ((1:Int)<(↑(cG th m (n*(4:Int))).size:Int)) (Tree.ab ((0:Int)≤(8:Int)) (Tree.ab ((0:Int)≤(2:Int)) (Tree.ab ((2:Int)<(↑(cG th m (n*(4:Int))).size:Int)) (Tree.ab ((0:Int)≤(8:Int)) (Tree.ab ((0:Int)≤(3:Int)) (Tree.ab ((3:Int)<(↑(cG th m (n*(4:Int))).size:Int)) (Tree.ab ((0:Int)≤(8:Int)) (Tree.ab ((0:Int)≤(4:Int)) (Tree.ab ((4:Int)<(↑(cG th m (n*(4:Int))).size:Int)) (Tree.ab ((0:Int)≤(8:Int)) (Tree.ab ((0:Int)≤(5:Int)) (Tree.ab ((5:Int)<(↑(cG th m (n*(4:Int))).size:Int)) (Tree.ab ((0:Int)≤(8:Int)) (Tree.ab ((0:Int)≤(6:Int)) (Tree.ab ((6:Int)<(↑(cG th m (n*(4:Int))).size:Int)) (Tree.ab ((0:Int)≤(8:Int)) (Tree.ab ((0:Int)≤(7:Int)) (Tree.ab ((7:Int)<(↑(cG th m (n*(4:Int))).size:Int)) (Tree.ab ((0:Int)≤(8:Int)) (Tree.ab ((0:Int)≤(8:Int)) (Tree.ab ((8:Int)<(↑(cG th m (n*(4:Int))).size:Int)) (Tree.at (cGo th m fu (cG th m (n*(4:Int))) (bE BinOp.or u64 (u64.wrap (bE BinOp.or u64 (u64.wrap (bE BinOp.or u64 (u64.wrap (bE BinOp.or u64 (u64.wrap (bE BinOp.or u64 (u64.wrap (bE BinOp.or u64 (u64.wrap (bE BinOp.or u64 (u64.wrap (bE BinOp.or u64 (0:Int) (u64.wrap (aJ (cG th m (n*(4:Int))) (Int.toNat (1:Int))))*(2:Int)^min (Int.toNat (8:Int)) u64.bits)) (u64.wrap (aJ (cG th m (n*(4:Int))) (Int.toNat (2:Int))))*(2:Int)^min (Int.toNat (8:Int)) u64.bits)) (u64.wrap (aJ (cG th m (n*(4:Int))) (Int.toNat (3:Int))))*(2:Int)^min (Int.toNat (8:Int)) u64.bits)) (u64.wrap (aJ (cG th m (n*(4:Int))) (Int.toNat (4:Int))))*(2:Int)^min (Int.toNat (8:Int)) u64.bits)) (u64.wrap (aJ (cG th m (n*(4:Int))) (Int.toNat (5:Int))))*(2:Int)^min (Int.toNat (8:Int)) u64.bits)) (u64.wrap (aJ (cG th m (n*(4:Int))) (Int.toNat (6:Int))))*(2:Int)^min (Int.toNat (8:Int)) u64.bits)) (u64.wrap (aJ (cG th m (n*(4:Int))) (Int.toNat (7:Int))))*(2:Int)^min (Int.toNat (8:Int)) u64.bits)) (u64.wrap (aJ (cG th m (n*(4:Int))) (Int.toNat (8:Int)))))))))))))))))))))))))))))))))))))))):=by kernel_rfl
theorem loopGo(th:Th)(m:As)(fu:Int)(s:ByteArray)(E:Int):run P vT.sum f23 akg (cGo th m fu s E) inG=
 Tree.ab ((0:Int)≤(0:Int)) (Tree.ab ((0:Int)<(↑s.size:Int)) (Tree.ab ((0:Int)≤(9:Int)) (Tree.ab ((9:Int)<(↑s.size:Int)) (Tree.ab (aA (aJ s (Int.toNat (9:Int)))) (Tree.ab ((0:Int)≤(8:Int)) (Tree.ab ((0:Int)≤(10:Int)) (Tree.ab ((10:Int)<(↑s.size:Int)) (Tree.ab (aA (aJ s (Int.toNat (10:Int)))) (Tree.ite (decide (E>(1099511627776:Int))) (Tree.ite (decide (bE BinOp.or i64 (i64.wrap (aJ s (Int.toNat (9:Int))*(2:Int)^min (Int.toNat (8:Int)) i64.bits)) (aJ s (Int.toNat (10:Int)))≥(1024:Int))) (Tree.ret (hD th m fu++[ak.aq [AV.s (SV.bool (aJ s (Int.toNat (0:Int))==(1:Int))),AV.s (SV.aR i64 (0:Int)),AV.s (SV.aR i64 (0:Int))] (64:Nat)]) (AV.bq [AV.agg [AV.s (SV.bool (aJ s (Int.toNat (0:Int))==(1:Int))),AV.s (SV.aR i64 (0:Int)),AV.s (SV.aR i64 (0:Int))],AV.s (SV.aR i64 (0:Int))])) (Tree.ret (hD th m fu++[ak.aq [AV.s (SV.bool (aJ s (Int.toNat (0:Int))==(1:Int))),AV.s (SV.aR i64 (0:Int)),AV.s (SV.int i64 (bE BinOp.or i64 (i64.wrap (aJ s (Int.toNat (9:Int))*(2:Int)^min (Int.toNat (8:Int)) i64.bits)) (aJ s (Int.toNat (10:Int)))))] (64:Nat)]) (AV.bq [AV.agg [AV.s (SV.bool (aJ s (Int.toNat (0:Int))==(1:Int))),AV.s (SV.aR i64 (0:Int)),AV.s (SV.int i64 (bE BinOp.or i64 (i64.wrap (aJ s (Int.toNat (9:Int))*(2:Int)^min (Int.toNat (8:Int)) i64.bits)) (aJ s (Int.toNat (10:Int)))))],AV.s (SV.aR i64 (0:Int))]))) (Tree.ite (decide (bE BinOp.or i64 (i64.wrap (aJ s (Int.toNat (9:Int))*(2:Int)^min (Int.toNat (8:Int)) i64.bits)) (aJ s (Int.toNat (10:Int)))≥(1024:Int))) (Tree.ret (hD th m fu++[ak.aq [AV.s (SV.bool (aJ s (Int.toNat (0:Int))==(1:Int))),AV.s (SV.int i64 (i64.wrap E)),AV.s (SV.aR i64 (0:Int))] (64:Nat)]) (AV.bq [AV.agg [AV.s (SV.bool (aJ s (Int.toNat (0:Int))==(1:Int))),AV.s (SV.int i64 (i64.wrap E)),AV.s (SV.aR i64 (0:Int))],AV.s (SV.aR i64 (0:Int))])) (Tree.ret (hD th m fu++[ak.aq [AV.s (SV.bool (aJ s (Int.toNat (0:Int))==(1:Int))),AV.s (SV.int i64 (i64.wrap E)),AV.s (SV.int i64 (bE BinOp.or i64 (i64.wrap (aJ s (Int.toNat (9:Int))*(2:Int)^min (Int.toNat (8:Int)) i64.bits)) (aJ s (Int.toNat (10:Int)))))] (64:Nat)]) (AV.bq [AV.agg [AV.s (SV.bool (aJ s (Int.toNat (0:Int))==(1:Int))),AV.s (SV.int i64 (i64.wrap E)),AV.s (SV.int i64 (bE BinOp.or i64 (i64.wrap (aJ s (Int.toNat (9:Int))*(2:Int)^min (Int.toNat (8:Int)) i64.bits)) (aJ s (Int.toNat (10:Int)))))],AV.s (SV.aR i64 (0:Int))])))))))))))):=by kernel_rfl
theorem auE(th:Th)(m:As)(fu n:Int)(on:Bool)(ep pg:Int):run P vT.sum f37 agv (start f37 [.ptr 0 0,aM n,avM on ep pg] (hD th m fu)) inG=
 Tree.ite (decide (n>1)) (.ret (hD th m fu++[.aq [.s (.bool on),aM ep,aM pg] 64]) (.s (.aR .i64 5))) (.ite (decide (n<0)) (.ret (hD th m fu++[.aq [.s (.bool on),aM ep,aM pg] 64]) (.s (.aR .i64 5))) (.ab ((4:Int)≠0) (.ab (aA ((↑(List.length th):Int).tdiv 4)) (.ite (decide (n>=(↑(List.length th):Int).tdiv 4)) (.ret (hD th m fu++[.aq [.s (.bool on),aM ep,aM pg] 64]) (.s (.aR .i64 5))) (.ite (decide (ep<0)) (.ret (hD th m fu++[.aq [.s (.bool on),aM ep,aM pg] 64]) (.s (.aR .i64 1))) (.ite (decide (ep>1099511627776)) (.ret (hD th m fu++[.aq [.s (.bool on),aM ep,aM pg] 64]) (.s (.aR .i64 1))) (.ite (decide (pg<0)) (.ret (hD th m fu++[.aq [.s (.bool on),aM ep,aM pg] 64]) (.s (.aR .i64 1))) (.ite (decide (pg>=1024)) (.ret (hD th m fu++[.aq [.s (.bool on),aM ep,aM pg] 64]) (.s (.aR .i64 1))) (.ite on (.at (cGs th m fu n on ep pg ((replicate 64 0).set 0 1))) (.at (cGs th m fu n on ep pg (replicate 64 0)))))))))))):=by kernel_rfl
theorem auF(th:Th)(m:As)(fu n:Int)(on:Bool)(ep pg:Int)(ws:List Int):run P vT.sum f37 agv (cGs th m fu n on ep pg ws) inG=
 Tree.ab ((0:Int)≤(0:Int)) (Tree.ab ((0:Int)≤(8:Int)) (Tree.ab ((0:Int)≤(16:Int)) (Tree.ab ((0:Int)≤(24:Int)) (Tree.ab ((0:Int)≤(32:Int)) (Tree.ab ((0:Int)≤(40:Int)) (Tree.ab ((0:Int)≤(48:Int)) (Tree.ab ((0:Int)≤(56:Int)) (Tree.ab ((0:Int)≤(8:Int)) (Tree.at (amD th m fu n ((((((((((ws.set (8:Nat) (u8.wrap (ep.fdiv ((2:Int)^min (Int.toNat (0:Int)) i64.bits)))).set (7:Nat) (u8.wrap (ep.fdiv ((2:Int)^min (Int.toNat (8:Int)) i64.bits)))).set (6:Nat) (u8.wrap (ep.fdiv ((2:Int)^min (Int.toNat (16:Int)) i64.bits)))).set (5:Nat) (u8.wrap (ep.fdiv ((2:Int)^min (Int.toNat (24:Int)) i64.bits)))).set (4:Nat) (u8.wrap (ep.fdiv ((2:Int)^min (Int.toNat (32:Int)) i64.bits)))).set (3:Nat) (u8.wrap (ep.fdiv ((2:Int)^min (Int.toNat (40:Int)) i64.bits)))).set (2:Nat) (u8.wrap (ep.fdiv ((2:Int)^min (Int.toNat (48:Int)) i64.bits)))).set (1:Nat) (u8.wrap (ep.fdiv ((2:Int)^min (Int.toNat (56:Int)) i64.bits)))).set (9:Nat) (u8.wrap (pg.fdiv ((2:Int)^min (Int.toNat (8:Int)) i64.bits)))).set (10:Nat) (u8.wrap pg)))))))))))):=by kernel_rfl
theorem amH(th:Th)(m:As)(fu n:Int)(ws:List Int):run P vT.sum f37 agv (amD th m fu n ws) inG=
 Tree.ab (aA (n*4)) (.ab ((0:Int)<=0) (.ab ((0:Int)<=(↑(64:Nat):Int)) (.ab ((↑(64:Nat):Int)<=(↑(64:Nat):Int)) (.ab ((0:Nat)+(64:Nat)<=64) (.ab (bp (some [AV.ptr 0 0,aM (n*4),.s (.str (aF (List.take 64 (List.drop 0 ws))))])) (.ab (bp (some (hD th m fu))) (.ab (bm th m fu) (.ret (hD th (uq th m fu (n*4) (aF (List.take 64 (List.drop 0 ws)))) (ur th fu (n*4) (aF (List.take 64 (List.drop 0 ws))))++[.aq [.ah .u8 64 ws] 59]) (aM (pb th fu (n*4) (aF (List.take 64 (List.drop 0 ws))))))))))))):=by kernel_rfl
theorem auG(th:Th)(m:As)(fu:Int):run P vT.sum f22 [] (start f22 [.ptr 0 0] (hD th m fu)) inG=
 Tree.ab ((4:Int)≠0) (.ab (aA ((↑(List.length th):Int).tdiv 4)) (.ret (hD th m fu) (aM ((↑(List.length th):Int).tdiv 4)))):=by kernel_rfl
abbrev sGR:Spec (Th×As×Int×Int):=⟨λ(_,_,_,n)=>[.ptr 0 0,aM n],λ(th,m,fu,_)=>hD th m fu,λ(th,m,fu,n)=>[bm th m fu,aA n],λ(th,m,fu,_)=>hD th m fu,λ(th,m,_,n)=>.bq [.s (.str (fJ th m n)),aM (gM th m n)]⟩
abbrev sGW:Spec (Th×As×Int×Int×ByteArray):=⟨λ(_,_,_,n,s)=>[.ptr 0 0,aM n,.s (.str s)],λ(th,m,fu,_)=>hD th m fu,λ(th,m,fu,n,_)=>[bm th m fu,aA n],λ(th,m,fu,n,s)=>hD th (kr th m fu n s).1 (kr th m fu n s).2.1,λ(th,m,fu,n,s)=>aM (kr th m fu n s).2.2⟩
abbrev sGo:Spec (Th×As×Int×Int):=⟨λ(_,_,_,n)=>[.ptr 0 0,aM n],λ(th,m,fu,_)=>hD th m fu,λ(th,m,fu,n)=>[bm th m fu,aA n],λ(th,m,fu,_)=>hD th m fu,λ(th,m,_,n)=>.bq [avM (iS th m n) (ga th m n) (mO th m n),aM (mN th n)]⟩
abbrev sGs:Spec (Th×As×Int×Int×Bool×Int×Int):=⟨λ(_,_,_,n,on,ep,pg)=>[.ptr 0 0,aM n,avM on ep pg],λ(th,m,fu,_)=>hD th m fu,λ(th,m,fu,n,_)=>[bm th m fu,aA n],λ(th,m,fu,n,on,ep,pg)=>hD th (ku th m fu n on ep pg) (pV th fu n on ep pg),λ(th,_,fu,n,on,ep,pg)=>aM (zG th fu n on ep pg)⟩
abbrev sPn:Spec (Th×As×Int):=⟨λ_=>[.ptr 0 0],λ(th,m,fu)=>hD th m fu,λ(th,m,fu)=>[bm th m fu],λ(th,m,fu)=>hD th m fu,λ(th,_,_)=>aM (eF th)⟩
theorem gl{Z:bh}:vT.Ok P Z:=aK.Ok.cons (apZ.sum mRd) (aK.Ok.cons (yc.sum mWr) aK.Ok.nil)
theorem adW{Z:bh}:fI P Z 22 sPn:=by
 refine fS func22 ?_;rintro⟨th,m,fu⟩ ⟨(hd:bm th m fu),_⟩ X hX hz;have h4:=hd.t.1;have:=ph th;refine cF hz hX (by simp) gl func22 (auG th m fu) ⟨by decide,⟨by unfold eF at this;omega,by unfold eF at this;omega⟩, ?_⟩;exact bD 3 rfl (le_refl _) rfl rfl
theorem amI{th:Th}{n:Int}(h:jg th n=true):rdE th n=0:=by unfold rdE;rw[if_pos h]
theorem amJ{ws:List Int}(h:∀x∈ws,0<=x/\x<=255):bE BinOp.or i64 (i64.wrap (ws.getD 0 0*2^min (Int.toNat 8) i64.bits)) (ws.getD 1 0)=sK ws/\0<=sK ws/\sK ws<=65535:=by
 have b:∀i,0<=ws.getD i 0/\ws.getD i 0<=255:=λi=>by
  by_cases hi:i<ws.length;rw[ba hi];exact h _ (getElem_mem hi);simp[List.getD,getElem?_eq_none (Nat.le_of_not_lt hi)]
 have h0:=b 0;have h1:=b 1;unfold sK;exact⟨sM h0 h1,by omega,by omega⟩
theorem yg{th:Th}{m:As}{n:Int}:∀k:Nat,∀x∈pgL th m n k,0<=x/\x<=255
 |0,x,hx=>by cases hx
 |k+1,x,hx=>by
  rw[pgL,mem_append]at hx;rcases hx with hx|hx;exact yg k x hx;simp only[bw,mem_map]at hx;obtain⟨b,_,rfl⟩:=hx;have:=b.toNat_lt;omega
theorem auH{Z:bh}{X:Ctx}{th:Th}{m:As}{fu n:Int}(hX:X.H=lk (sGR.heap (th,m,fu,n)))(hz:dZ Z X)(hd:bm th m fu)(hp:wv th n=true):Safe P 84 X (dO sGR (th,m,fu,n)) (amC th m fu (pgA th m n)):=by
 have gx:∀x∈agu,(sGR.heap (th,m,fu,n)).length<=x.2.m:=by intro y hy;simp[agu]at hy;rcases hy with rfl|rfl<;>exact le_refl _
 refine cF hz hX gx gl func84 (amF th m fu (pgA th m n)) ?_;have⟨e,l0,l1⟩:=amJ (ws:=pgA th m n) (yg 4)
 have b:∀i,aA ((pgA th m n).getD i 0):=λi=>by
  by_cases hi:i<(pgA th m n).length;rw[ba hi];have:=yg 4 _ (getElem_mem hi);exact⟨by omega,by omega⟩;simp[List.getD,getElem?_eq_none (Nat.le_of_not_lt hi),aA]
 rw[e];generalize hl:sK (pgA th m n)=l at *;have g1:l>254->gM th m n=4:=λh=>by unfold gM;rw[if_pos hp,hl,if_pos h]
 have g2:¬l>254->gM th m n=0:=λh=>by unfold gM;rw[if_pos hp,hl,if_neg h]
 refine⟨b 0,by decide,b 1,λh=> ?_,λh=>⟨⟨by omega,by omega⟩,by decide,by omega,by have:=of_decide_eq_false h;omega,by have:=of_decide_eq_false h;omega, ?_⟩⟩;have h:=g1 (of_decide_eq_true h);refine bD 3 rfl (le_refl _) ?_ rfl;simp[fJ,h,zl];have h:=g2 (of_decide_eq_false h);refine bD 3 rfl (le_refl _) ?_ rfl;simp only[fJ,h,if_true,hl];rw[show(2+l).toNat - Int.toNat 2=l.toNat from by omega];rfl
theorem axj{Z:bh}:fI P Z 84 sGR:=by
 refine fS func84 ?_;rintro⟨th,m,fu,n⟩ ⟨(hd:bm th m fu),(hn:aA n),_⟩ X hX hz;have gx:∀x∈agu,(sGR.heap (th,m,fu,n)).length<=x.2.m:=by intro y hy;simp[agu]at hy;rcases hy with rfl|rfl<;>exact le_refl _
 have h4:=hd.t.1;have hN:=ph th;unfold aA at hn
 have bad:¬wv th n=true->fJ th m n=empty/\gM th m n=5:=λh=>by
  have:gM th m n=5:=by unfold gM;rw[if_neg h]
  exact⟨by unfold fJ;rw[if_neg (by rw[this];decide)],this⟩
 have loop:wv th n=true->∀(j k:Nat),k+j=4->Safe P 84 X (dO sGR (th,m,fu,n)) (cGR th m fu n (pgL th m n k++replicate (256 - 64*k) 0) (k:Int)):=by
  intro hp j;have⟨p0,p1⟩:=gk.1 hp
  induction j with
  |zero=>
   intro k hk;obtain rfl:k=4:=by omega
   refine cF hz hX gx gl func84 (amE th m fu n _ 4) ⟨λh=>absurd (of_decide_eq_true h) (by omega),λ_=> ?_⟩;have e:pgL th m n 4++replicate (256 - 64*4) 0=pgA th m n:=append_nil _;rw[e];exact auH hX hz hd hp
  |succ j ih=>
   intro k hk;have cO:=ab4 hp (show k<4 by omega);have next:=ih (k+1) (by omega)
   have hl:=ah3 hd hp k (by omega);have hs:(bw (cG th m (n*4+(k:Int)))).length=64:=by rw[gj];exact ab1 hd cO
   have ho:=agt (k:=k) hl hs (by omega);have e0:=amI cO;refine cF hz hX gx gl func84 (amE th m fu n _ k) ?_;rw[show(pgL th m n (k+1))=pgL th m n k++bw (cG th m (n*4+(k:Int)))from rfl,<-ho]at next
   have eo:over (pgL th m n k++replicate (256 - 64*k) 0) (0+((k:Int)*64).toNat) (min (List.map (λ(b:UInt8)=>(b.toNat:Int)) (cG th m (n*4+(k:Int))).data.toList).length ((256:Int).toNat - ((k:Int)*64).toNat)) (List.map (λ(b:UInt8)=>(b.toNat:Int)) (cG th m (n*4+(k:Int))).data.toList)=over (pgL th m n k++replicate (256 - 64*k) 0) (64*k) 64 (bw (cG th m (n*4+(k:Int)))):=by
    show over _ _ (min (bw _).length _) (bw _)=_;rw[hs,show(0+((k:Int)*64).toNat)=64*k from by omega,show min 64 ((256:Int).toNat - ((k:Int)*64).toNat)=64 from by omega]
   rw[show((256:Nat):Int)=256 from rfl,eo,e0];refine⟨λ_=>⟨⟨by omega,by omega⟩,⟨by omega,by omega⟩,⟨by omega,by omega⟩,rfl,rfl,hd,λh=>absurd h (by decide),λ_=>⟨by omega,by omega,by omega,trivial,by omega,⟨by omega,by omega⟩,next⟩⟩,λh=>absurd (of_decide_eq_false h) (by omega)⟩
 refine cF hz hX gx gl func84 (auB th m fu n) ?_;have lp:=loop;unfold eF at hN
 repeat' (with_reducible (first|refine amf ?_|refine xZ ?_ ?_|refine adJ (λ_=> ?_) (λ_=> ?_)|refine adK (λ_=> ?_) (λ_=> ?_)|refine adL (λ_=> ?_) (λ_=> ?_)|refine amg ?_|refine amh ?_|refine adM ?_|refine adN (λ_=> ?_) (λ_=> ?_)|refine x6 (λ_=> ?_) (λ_=> ?_)|refine adO ?_|refine ami ?_))
 all_goals first|omega|exact⟨by omega,by omega⟩|skip
 have⟨e1,e2⟩:=bad (λh=>by have:=gk.1 h;omega);refine bD 3 rfl (le_refl _) ?_ rfl;simp[e1,e2,zl];have⟨e1,e2⟩:=bad (λh=>by have:=gk.1 h;unfold eF at this;omega);refine bD 3 rfl (le_refl _) ?_ rfl;simp[e1,e2,zl];exact lp (gk.2 ⟨by omega,by unfold eF;omega⟩) 4 0 rfl
theorem axk{Z:bh}:fI P Z 125 sGW:=by
 refine fS func125 ?_;rintro⟨th,m,fu,n,s⟩ ⟨(hd:bm th m fu),(hn:aA n),_⟩ X hX hz;have gx:∀x∈ap3,(sGW.heap (th,m,fu,n,s)).length<=x.2.m:=by intro y hy;simp[ap3]at hy;rcases hy with rfl;exact le_refl _
 have h4:=hd.t.1;have hN:=ph th;unfold aA at hn;have bad:∀c,gwC th n s=c->c≠0->kr th m fu n s=(m,fu,c):=λc h h2=>by unfold kr;rw[h,if_neg h2]
 have loop:wv th n=true->s.size<=254->∀(j k:Nat) (m':As) (ft:Int),k+j=4->bm th m' ft->kr th m fu n s=zE th n (pgB s) j k m' ft->Safe P 125 X (dO sGW (th,m,fu,n,s)) (cGW th m' ft n (pgB s) (k:Int)):=by
  intro hp azH j;have⟨p0,p1⟩:=gk.1 hp;have hl:=ah4 azH
  induction j with
  |zero=>
   intro k m' ft hk hd' hr;obtain rfl:k=4:=by omega
   refine cF hz hX gx gl func125 (amG th m' ft n _ 4) ⟨λh=>absurd (of_decide_eq_true h) (by omega),λ_=> ?_⟩;rw[zE]at hr;refine bD 3 rfl (le_refl _) ?_ ?_<;>simp[hr,zl]
  |succ j ih=>
   intro k m' ft hk hd' hr;have next:=ih (k+1)
   have es:aF (List.take ((((k:Int)*64+64)).toNat - ((k:Int)*64).toNat) (List.drop (0+((k:Int)*64).toNat) (pgB s)))=iI (pgB s) k:=by
    unfold iI;rw[show(0+((k:Int)*64).toNat)=64*k from by omega,show((((k:Int)*64+64)).toNat - ((k:Int)*64).toNat)=64 from by omega]
   rw[zE]at hr;refine cF hz hX gx gl func125 (amG th m' ft n _ k) ?_;rw[show((256:Nat):Int)=256 from rfl,es];refine⟨λ_=>⟨⟨by omega,by omega⟩,⟨by omega,by omega⟩,⟨by omega,by omega⟩,⟨by omega,by omega⟩,by omega,by omega,by omega,by omega,rfl,rfl,hd',λh=> ?_,λh=>⟨⟨by omega,by omega⟩, ?_⟩⟩,λh=>absurd (of_decide_eq_false h) (by omega)⟩;have h:¬pb th ft (n*4+(k:Int)) (iI (pgB s) k)=0:=by simpa using h
   rw[if_neg h]at hr;refine bD 3 rfl (le_refl _) ?_ ?_<;>simp[hr,zl];have h:pb th ft (n*4+(k:Int)) (iI (pgB s) k)=0:=by simpa using h
   rw[if_pos h]at hr;exact next _ _ (by omega) (ye hd') hr
 refine cF hz hX gx gl func125 (auC th m fu n s) ?_;have lp:=loop;have hb:=λh=>auA (s:=s) h;unfold bw at hb;unfold eF at hN
 repeat' (with_reducible (first|refine amf ?_|refine xZ ?_ ?_|refine adJ (λ_=> ?_) (λ_=> ?_)|refine adK (λ_=> ?_) (λ_=> ?_)|refine adL (λ_=> ?_) (λ_=> ?_)|refine amg ?_|refine amh ?_|refine adM ?_|refine adN (λ_=> ?_) (λ_=> ?_)|refine x6 (λ_=> ?_) (λ_=> ?_)|refine adO ?_|refine ami ?_))
 all_goals first|omega|exact⟨by omega,by omega⟩|trivial|skip
 have e:=bad 5 (by unfold gwC;rw[if_neg (λh=>by have:=gk.1 h;omega)]) (by decide);refine bD 3 rfl (le_refl _) ?_ ?_<;>simp[e,zl];have e:=bad 5 (by unfold gwC;rw[if_neg (λh=>by have:=gk.1 h;unfold eF at this;omega)]) (by decide);refine bD 3 rfl (le_refl _) ?_ ?_<;>simp[e,zl];have e:=bad 40 (by unfold gwC;rw[if_pos (gk.2 ⟨by omega,by unfold eF;omega⟩),if_pos (by omega)]) (by decide);refine bD 3 rfl (le_refl _) ?_ ?_<;>simp[e,zl];rw[hb (by omega)];have hp:wv th n=true:=gk.2 ⟨by omega,by unfold eF;omega⟩;have ec:gwC th n s=0:=by unfold gwC;rw[if_pos hp,if_neg (by omega)]
 exact lp hp (by omega) 4 0 m fu rfl hd (by unfold kr;rw[ec,if_pos rfl])
theorem auI(s:ByteArray):bE BinOp.or i64 (i64.wrap (aJ s (Int.toNat 9)*2^min (Int.toNat 8) i64.bits)) (aJ s (Int.toNat 10))=pgT s/\0<=pgT s/\pgT s<=65535:=by
 have h0:=c8 s 9;have h1:=c8 s 10;refine⟨sM h0 h1, ?_⟩;unfold pgT;omega
theorem auJ{Z:bh}{X:Ctx}{th:Th}{m:As}{fu n:Int}(hX:X.H=lk (sGo.heap (th,m,fu,n)))(hz:dZ Z X)(hr:mN th n=0)(hs:(cG th m (n*4)).size=64)(E:Int)(hE:E=epS (cG th m (n*4)) 8):Safe P 23 X (dO sGo (th,m,fu,n)) (cGo th m fu (cG th m (n*4)) E):=by
 have gx:∀x∈akg,(sGo.heap (th,m,fu,n)).length<=x.2.m:=by intro y hy;simp[akg,fA]at hy;rcases hy with rfl|rfl<;>exact le_refl _
 rw[amy _ 8 (le_refl _)]at hE;subst hE;refine cF hz hX gx gl func23 (loopGo th m fu _ _) ?_;have o1:iS th m n=(aJ (cG th m (n*4)) (Int.toNat 0)==1):=by unfold iS zF;rw[hr];rfl
 have o2:ga th m n=ab2 (cG th m (n*4)):=by unfold ga;rw[hr,if_pos rfl]
 have o3:mO th m n=ab3 (cG th m (n*4)):=by unfold mO;rw[hr,if_pos rfl]
 have b9:=c8 (cG th m (n*4)) (Int.toNat 9);have b10:=c8 (cG th m (n*4)) (Int.toNat 10);have⟨p1,p2,p3⟩:=auI (cG th m (n*4));have⟨g0,g1⟩:=ux (cG th m (n*4)) 8;rw[p1];generalize cG th m (n*4)=s at *;have q1:epN s 8>1099511627776->ab2 s=0:=λh=>by unfold ab2;rw[if_pos h]
 have q2:¬epN s 8>1099511627776->ab2 s=epN s 8:=λh=>by unfold ab2;rw[if_neg h]
 have q3:pgT s>=1024->ab3 s=0:=λh=>by unfold ab3;rw[if_pos h]
 have q4:¬pgT s>=1024->ab3 s=pgT s:=λh=>by unfold ab3;rw[if_neg h]
 have w1:epN s 8<=1099511627776->i64.wrap (epN s 8)=epN s 8:=λh=>cq ⟨by omega,by omega⟩
 repeat' (with_reducible (first|refine amf ?_|refine xZ ?_ ?_|refine adJ (λ_=> ?_) (λ_=> ?_)|refine adK (λ_=> ?_) (λ_=> ?_)|refine adL (λ_=> ?_) (λ_=> ?_)|refine amg ?_|refine amh ?_|refine adM ?_|refine adN (λ_=> ?_) (λ_=> ?_)|refine x6 (λ_=> ?_) (λ_=> ?_)|refine adO ?_|refine ami ?_))
 all_goals first|omega|exact⟨by omega,by omega⟩|skip
 have e1:=q1 (by omega);have e2:=q3 (by omega);refine bD 3 rfl (le_refl _) ?_ rfl;simp only[o1,o2,o3,e1,e2,hr];rfl;have e1:=q1 (by omega);have e2:=q4 (by omega);refine bD 3 rfl (le_refl _) ?_ rfl;simp only[o1,o2,o3,e1,e2,hr];rfl;have e1:=q2 (by omega);have e2:=q3 (by omega);have e3:=w1 (by omega);refine bD 3 rfl (le_refl _) ?_ rfl;simp only[o1,o2,o3,e1,e2,hr,e3];rfl;have e1:=q2 (by omega);have e2:=q4 (by omega);have e3:=w1 (by omega);refine bD 3 rfl (le_refl _) ?_ rfl;simp only[o1,o2,o3,e1,e2,hr,e3];rfl
theorem amK{th:Th}{m:As}{n:Int}(h:¬(0<=n/\n<=1/\n<eF th)):mN th n=5/\iS th m n=false/\ga th m n=0/\mO th m n=0:=by
 have e:mN th n=5:=by unfold mN;rw[if_neg h]
 unfold iS ga mO;rw[e];exact⟨rfl,rfl,rfl,rfl⟩
theorem go_ok{Z:bh}:fI P Z 23 sGo:=by
 refine fS func23 ?_;rintro⟨th,m,fu,n⟩ ⟨(hd:bm th m fu),(hn:aA n),_⟩ X hX hz;have gx:∀x∈akg,(sGo.heap (th,m,fu,n)).length<=x.2.m:=by intro y hy;simp[akg,fA]at hy;rcases hy with rfl|rfl<;>exact le_refl _
 have h4:=hd.t.1;have hN:=ph th;unfold aA at hn;have no:= @amK th m n;have yes:0<=n->n<=1->n<eF th->mN th n=0/\jg th (n*4)=true:=λa b c=>⟨by unfold mN;rw[if_pos ⟨a,b,c⟩],fm.2 ⟨by omega,by omega⟩⟩;have fin:=λh1 h2=>auJ (Z:=Z) (n:=n) hX hz h1 h2;unfold eF at hN no yes;refine cF hz hX gx gl func23 (auD th m fu n) ?_
 repeat' (with_reducible (first|refine amf ?_|refine xZ ?_ ?_|refine adJ (λ_=> ?_) (λ_=> ?_)|refine adK (λ_=> ?_) (λ_=> ?_)|refine adL (λ_=> ?_) (λ_=> ?_)|refine amg ?_|refine amh ?_|refine adM ?_|refine adN (λ_=> ?_) (λ_=> ?_)|refine x6 (λ_=> ?_) (λ_=> ?_)|refine adO ?_|refine ami ?_))
 all_goals first|omega|exact⟨by omega,by omega⟩|assumption|skip
 have⟨e1,e2,e3,e4⟩:=no (by omega);refine bD 3 rfl (le_refl _) ?_ rfl;simp only[e1,e2,e3,e4];rfl;have⟨e1,e2,e3,e4⟩:=no (by omega);refine bD 3 rfl (le_refl _) ?_ rfl;simp only[e1,e2,e3,e4];rfl;have⟨e1,e2,e3,e4⟩:=no (by omega);refine bD 3 rfl (le_refl _) ?_ rfl;simp only[e1,e2,e3,e4];rfl
 all_goals have⟨e1,e2⟩:=yes (by omega) (by omega) (by omega)
 exact absurd (amI e2) (by assumption)
 all_goals have e3:=ab1 hd e2
 all_goals first|omega|skip
 exact fin e1 e3 _ rfl
theorem auK{ep pg:Int}(h0:0<=ep)(h1:0<=pg)(on:Bool)(ws:List Int)(hw:ws=if on=true then(replicate 64 (0:Int)).set 0 1 else replicate 64 0):
 ((((((((((ws.set 8 (u8.wrap (ep.fdiv (2^min (Int.toNat 0) i64.bits)))).set 7 (u8.wrap (ep.fdiv (2^min (Int.toNat 8) i64.bits)))).set 6 (u8.wrap (ep.fdiv (2^min (Int.toNat 16) i64.bits)))).set 5 (u8.wrap (ep.fdiv (2^min (Int.toNat 24) i64.bits)))).set 4 (u8.wrap (ep.fdiv (2^min (Int.toNat 32) i64.bits)))).set 3 (u8.wrap (ep.fdiv (2^min (Int.toNat 40) i64.bits)))).set 2 (u8.wrap (ep.fdiv (2^min (Int.toNat 48) i64.bits)))).set 1 (u8.wrap (ep.fdiv (2^min (Int.toNat 56) i64.bits)))).set 9 (u8.wrap (pg.fdiv (2^min (Int.toNat 8) i64.bits)))).set 10 (u8.wrap pg))=mkB on ep pg:=by
 have e:(replicate 64 (0:Int))=0::0::0::0::0::0::0::0::0::0::0::replicate 53 0:=rfl
 simp only[wrap_u8,show(2:Int)^min (Int.toNat 0) i64.bits=1 from by decide,show(2:Int)^min (Int.toNat 8) i64.bits=256 from by decide,show(2:Int)^min (Int.toNat 16) i64.bits=65536 from by decide,show(2:Int)^min (Int.toNat 24) i64.bits=16777216 from by decide,
  show(2:Int)^min (Int.toNat 32) i64.bits=4294967296 from by decide,show(2:Int)^min (Int.toNat 40) i64.bits=1099511627776 from by decide,show(2:Int)^min (Int.toNat 48) i64.bits=281474976710656 from by decide,show(2:Int)^min (Int.toNat 56) i64.bits=72057594037927936 from by decide,
  Int.fdiv_eq_ediv_of_nonneg ep (by decide:(0:Int)<=1),Int.fdiv_eq_ediv_of_nonneg ep (by decide:(0:Int)<=256),Int.fdiv_eq_ediv_of_nonneg ep (by decide:(0:Int)<=65536),Int.fdiv_eq_ediv_of_nonneg ep (by decide:(0:Int)<=16777216),Int.fdiv_eq_ediv_of_nonneg ep (by decide:(0:Int)<=4294967296),Int.fdiv_eq_ediv_of_nonneg ep (by decide:(0:Int)<=1099511627776),Int.fdiv_eq_ediv_of_nonneg ep (by decide:(0:Int)<=281474976710656),Int.fdiv_eq_ediv_of_nonneg ep (by decide:(0:Int)<=72057594037927936),Int.fdiv_eq_ediv_of_nonneg pg (by decide:(0:Int)<=256),Int.ediv_one]
 cases on;rw[if_neg (by decide),e]at hw;subst hw;rfl;rw[if_pos rfl,e]at hw;subst hw;rfl
theorem auL{Z:bh}{X:Ctx}{th:Th}{m:As}{fu n:Int}{on:Bool}{ep pg:Int}(hX:X.H=lk (sGs.heap (th,m,fu,n,on,ep,pg)))(hz:dZ Z X)(hd:bm th m fu)(hn:0<=n/\n<=1)(hs:srC th n ep pg=0)(h0:0<=ep)(h1:0<=pg)(ws:List Int)(hw:ws=if on=true then(replicate 64 (0:Int)).set 0 1 else replicate 64 0):
 Safe P 37 X (dO sGs (th,m,fu,n,on,ep,pg)) (cGs th m fu n on ep pg ws):=by
 have gx:∀x∈agv,(sGs.heap (th,m,fu,n,on,ep,pg)).length<=x.2.m:=by intro y hy;simp[agv,fA]at hy;rcases hy with rfl|rfl|rfl<;>exact le_refl _
 have e:=auK h0 h1 on ws hw;have l:=sN on ep pg
 have fin:Safe P 37 X (dO sGs (th,m,fu,n,on,ep,pg)) (amD th m fu n (mkB on ep pg)):=by
  refine cF hz hX gx gl func37 (amH th m fu n _) ?_;rw[show aF (List.take 64 (List.drop 0 (mkB on ep pg)))=pe on ep pg from by unfold pe;rw[List.drop_zero,take_of_length_le (by omega)]];refine⟨⟨by omega,by omega⟩,by decide,by decide,by decide,by decide,rfl,rfl,hd, ?_⟩;refine bD 3 rfl (le_refl _) ?_ ?_<;>simp[zG,ku,pV,hs,zl]
 refine cF hz hX gx gl func37 (auF th m fu n on ep pg ws) ?_;rw[e];exact⟨by decide,by decide,by decide,by decide,by decide,by decide,by decide,by decide,by decide,fin⟩
theorem asR{Z:bh}:fI P Z 37 sGs:=by
 refine fS func37 ?_;rintro⟨th,m,fu,n,on,ep,pg⟩ ⟨(hd:bm th m fu),(hn:aA n),_⟩ X hX hz;have gx:∀x∈agv,(sGs.heap (th,m,fu,n,on,ep,pg)).length<=x.2.m:=by intro y hy;simp[agv,fA]at hy;rcases hy with rfl|rfl|rfl<;>exact le_refl _
 have h4:=hd.t.1;have hN:=ph th
 have no:∀c,srC th n ep pg=c->c≠0->zG th fu n on ep pg=c/\ku th m fu n on ep pg=m/\pV th fu n on ep pg=fu:=λc h h2=>by
  unfold zG ku pV;rw[h,if_neg h2,if_neg h2,if_neg h2];exact⟨rfl,rfl,rfl⟩
 have c5:¬(0<=n/\n<=1/\n<eF th)->srC th n ep pg=5:=λh=>by unfold srC;rw[(amK (m:=m) h).1];rfl
 have c0:0<=n->n<=1->n<eF th->mN th n=0:=λa b c=>by unfold mN;rw[if_pos ⟨a,b,c⟩]
 have c1:0<=n->n<=1->n<eF th->(ep<0\/ep>1099511627776\/pg<0\/pg>=1024)->srC th n ep pg=1:=λa b c h=>by unfold srC;rw[c0 a b c,if_pos rfl,if_pos h]
 have c2:0<=n->n<=1->n<eF th->¬(ep<0\/ep>1099511627776\/pg<0\/pg>=1024)->srC th n ep pg=0:=λa b c h=>by unfold srC;rw[c0 a b c,if_pos rfl,if_neg h]
 have fin:=λh1 h2 h3 h4 ws=>auL (Z:=Z) (th:=th) (m:=m) (fu:=fu) (n:=n) (on:=on) (ep:=ep) (pg:=pg) hX hz hd h1 h2 h3 h4 ws;unfold aA at hn;unfold eF at hN c5 c0 c1 c2;refine cF hz hX gx gl func37 (auE th m fu n on ep pg) ?_
 repeat' (with_reducible (first|refine amf ?_|refine xZ ?_ ?_|refine adJ (λ_=> ?_) (λ_=> ?_)|refine adK (λ_=> ?_) (λ_=> ?_)|refine adL (λ_=> ?_) (λ_=> ?_)|refine amg ?_|refine amh ?_|refine adM ?_|refine adN (λ_=> ?_) (λ_=> ?_)|refine x6 (λ_=> ?_) (λ_=> ?_)|refine adO ?_|refine ami ?_))
 all_goals first|omega|exact⟨by omega,by omega⟩|skip
 have⟨e1,e2,e3⟩:=no 5 (c5 (by omega)) (by decide);refine bD 3 rfl (le_refl _) ?_ ?_<;>simp[e1,e2,e3,zl];have⟨e1,e2,e3⟩:=no 5 (c5 (by omega)) (by decide);refine bD 3 rfl (le_refl _) ?_ ?_<;>simp[e1,e2,e3,zl];have⟨e1,e2,e3⟩:=no 5 (c5 (by omega)) (by decide);refine bD 3 rfl (le_refl _) ?_ ?_<;>simp[e1,e2,e3,zl];have⟨e1,e2,e3⟩:=no 1 (c1 (by omega) (by omega) (by omega) (by omega)) (by decide);refine bD 3 rfl (le_refl _) ?_ ?_<;>simp[e1,e2,e3,zl];have⟨e1,e2,e3⟩:=no 1 (c1 (by omega) (by omega) (by omega) (by omega)) (by decide);refine bD 3 rfl (le_refl _) ?_ ?_<;>simp[e1,e2,e3,zl];have⟨e1,e2,e3⟩:=no 1 (c1 (by omega) (by omega) (by omega) (by omega)) (by decide);refine bD 3 rfl (le_refl _) ?_ ?_<;>simp[e1,e2,e3,zl];have⟨e1,e2,e3⟩:=no 1 (c1 (by omega) (by omega) (by omega) (by omega)) (by decide);refine bD 3 rfl (le_refl _) ?_ ?_<;>simp[e1,e2,e3,zl];rename_i hon;exact fin ⟨by omega,by omega⟩ (c2 (by omega) (by omega) (by omega) (by omega)) (by omega) (by omega) _ (by rw[if_pos hon]);rename_i hon;exact fin ⟨by omega,by omega⟩ (c2 (by omega) (by omega) (by omega) (by omega)) (by omega) (by omega) _ (by rw[if_neg (by rw[hon];decide)])
def vU(ep pg:Int):Prop:=0<=ep/\ep<=1099511627776/\0<=pg/\pg<1024
theorem sO{ws:List Int}{i:Nat}(hi:i<ws.length)(h:0<=ws.getD i 0/\ws.getD i 0<=255):aJ (aF ws) i=ws.getD i 0:=by
 have e:aJ (aF ws) i=(((ws.map λn=>UInt8.ofNat n.toNat).getD i 0).toNat:Int):=rfl
 have e2:(ws.map λn=>UInt8.ofNat n.toNat).getD i 0=UInt8.ofNat (ws.getD i 0).toNat:=by
  rw[ba (by simpa using hi),ba hi,List.getElem_map]
 rw[e,e2,UInt8.toNat_ofNat'];omega
theorem qz{ws:List Int}(h:∀x∈ws,0<=x/\x<=255):bw (aF ws)=ws:=by
 simp only[aF,bw,List.map_map];refine(List.map_congr_left λb hb=> ?_).trans (List.map_id ws);have:=h b hb;simp only[Function.comp,UInt8.toNat_ofNat',id];omega
theorem adX(on:Bool)(ep pg:Int):∀x∈mkB on ep pg,0<=x/\x<=255:=by
 intro x hx;simp only[mkB,mem_append,mem_cons,List.mem_replicate,List.not_mem_nil,or_false]at hx;rcases hx with(rfl|rfl|rfl|rfl|rfl|rfl|rfl|rfl|rfl|rfl|rfl)|⟨_,rfl⟩;split<;>omega
 all_goals omega
theorem ap4(on:Bool)(ep pg:Int){i:Nat}(hi:i<64):aJ (pe on ep pg) i=(mkB on ep pg).getD i 0:=by
 have hl:i<(mkB on ep pg).length:=hi;refine sO hl ?_;rw[ba hl];exact adX on ep pg _ (getElem_mem hl)
theorem adY{on:Bool}{ep pg:Int}(h:vU ep pg):zF (pe on ep pg)=on/\ab2 (pe on ep pg)=ep/\ab3 (pe on ep pg)=pg:=by
 have⟨h0,h1,h2,h3⟩:=h;have b:=λ(i:Nat) (hi:i<64)=>ap4 on ep pg hi
 have e8:epN (pe on ep pg) 8=ep:=by
  simp only[epN,b 1 (by decide),b 2 (by decide),b 3 (by decide),b 4 (by decide),b 5 (by decide),b 6 (by decide),b 7 (by decide),b 8 (by decide)];show((((((((0*256+ep / 72057594037927936%256)*256+ep / 281474976710656%256)*256+ep / 1099511627776%256)*256+ep / 4294967296%256)*256+ep / 16777216%256)*256+ep / 65536%256)*256+ep / 256%256)*256+ep%256)=ep;omega
 have et:pgT (pe on ep pg)=pg:=by
  unfold pgT;rw[b 9 (by decide),b 10 (by decide)];show pg / 256%256*256+pg%256=pg;omega
 refine⟨?_, ?_, ?_⟩;unfold zF;rw[b 0 (by decide)];show((if on=true then 1 else 0:Int)==1)=on;cases on<;>rfl;unfold ab2;rw[e8,if_neg (by omega)];unfold ab3;rw[et,if_neg (by omega)]
theorem amL{th:Th}{m:As}{k:Int}{s:ByteArray}(hr:mN th k=0)(hs:cG th m (k*4)=s):iS th m k=zF s/\ga th m k=ab2 s/\mO th m k=ab3 s:=by
 unfold iS ga mO;rw[hr,hs,if_pos rfl,if_pos rfl];exact⟨by simp,rfl,rfl⟩
theorem lj{th:Th}{k:Int}:mN th k=0↔0<=k/\k<=1/\k<eF th:=by
 unfold mN;split;rename_i h;simp[h];rename_i h;exact⟨λh2=>absurd h2 (by decide),λh2=>absurd h2 h⟩
theorem uy{th:Th}{k:Int}(h:mN th k=0):jg th (k*4)=true:=by
 have⟨h0,h1,h2⟩:=lj.1 h;have:=ph th;exact fm.2 ⟨by omega,by omega⟩
theorem ab5{th:Th}{m:As}{fu k ep pg:Int}{on:Bool}(hd:bm th m fu)(hf:fu≠0)(hk:mN th k=0)(h:vU ep pg):
 zG th fu k on ep pg=0/\pV th fu k on ep pg=dC fu/\∀x,cG th (ku th m fu k on ep pg) x=if x=k*4 then pe on ep pg else cG th m x:=by
 have⟨h0,h1,h2,h3⟩:=h;have hc:srC th k ep pg=0:=by unfold srC;rw[hk,if_pos rfl,if_neg (by omega)]
 have cO:=uy hk;have hw:pb th fu (k*4) (pe on ep pg)=0:=pd.2 ⟨cO,mP _ _ _,hf⟩;unfold zG pV ku;rw[hc,if_pos rfl,if_pos rfl,if_pos rfl];refine⟨hw, ?_,λx=> ?_⟩;unfold ur;rw[if_pos ⟨cO,mP _ _ _⟩];rw[amx hd];by_cases hx:x=k*4;rw[if_pos ⟨hw,hx⟩,if_pos hx];rw[if_neg (λh=>hx h.2),if_neg hx]
theorem amM{th:Th}{n:Int}{ws:List Int}(hp:wv th n=true)(hw:ws.length=256):∀(j k:Nat) (m:As),k+j=4->bm th m (-1)->
 (zE th n ws j k m (-1)).2=(-1,0)/\(∀i:Nat,k<=i->i<4->cG th (zE th n ws j k m (-1)).1 (n*4+(i:Int))=iI ws i)/\
   ∀x,(∀i:Nat,k<=i->i<4->x≠n*4+(i:Int))->cG th (zE th n ws j k m (-1)).1 x=cG th m x
 |0,k,m,hk,hd=>⟨rfl,λi h1 h2=>by omega,λx _=>rfl⟩|j+1,k,m,hk,hd=>by
  have cO:=ab4 hp (show k<4 by omega);have hs:=aaD hw (show k<4 by omega);have he:pb th (-1) (n*4+(k:Int)) (iI ws k)=0:=pd.2 ⟨cO,hs,by decide⟩;have hf:ur th (-1) (n*4+(k:Int)) (iI ws k)= -1:=by unfold ur;rw[if_pos ⟨cO,hs⟩];rfl
  have hd':=ye (n:=n*4+(k:Int)) (s:=iI ws k) hd;have hr:=λx=>amx (n:=n*4+(k:Int)) (x:=x) (s:=iI ws k) hd;rw[hf]at hd';have⟨h1,h2,h3⟩:=amM hp hw j (k+1) _ (by omega) hd';unfold zE;rw[if_pos he,hf];refine⟨h1,λi hi hi4=> ?_,λx hx=> ?_⟩;by_cases e:i=k;subst e;rw[h3 _ (λi' a b=>by omega),hr,if_pos ⟨he,rfl⟩];exact h2 i (by omega) hi4;rw[h3 x (λi a b=>hx i (by omega) b),hr,if_neg (λh=>hx k (le_refl _) (by omega) h.2)]
theorem aaE{th dU:Th}{m m':As}{n:Int}:∀k:Nat,(∀i:Nat,i<k->cG th m (n*4+(i:Int))=cG dU m' (n*4+(i:Int)))->pgL th m n k=pgL dU m' n k
 |0,_=>rfl|k+1,h=>by rw[pgL,pgL,aaE k (λi hi=>h i (by omega)),h k (by omega)]
theorem adZ{th dU:Th}{m m':As}{n:Int}(hl:dU.length=th.length)(h:∀i:Nat,i<4->cG th m (n*4+(i:Int))=cG dU m' (n*4+(i:Int))):
 gM dU m' n=gM th m n/\fJ dU m' n=fJ th m n:=by
 have e:pgA dU m' n=pgA th m n:=(aaE 4 h).symm;have ep:wv dU n=wv th n:=by unfold wv eF;rw[hl]
 have eg:gM dU m' n=gM th m n:=by unfold gM;rw[e,ep]
 exact⟨eg,by unfold fJ;rw[eg,e]⟩
theorem auM{th:Th}{m:As}{n:Int}{s:ByteArray}(hp:wv th n=true)(hs:s.size<=254)(h:pgA th m n=pgB s):gM th m n=0/\fJ th m n=s:=by
 have hl:sK (pgB s)=(s.size:Int):=by
  unfold sK pgB;show(s.size:Int) / 256*256+(s.size:Int)%256=s.size;omega
 have e:gM th m n=0:=by unfold gM;rw[if_pos hp,h,hl,if_neg (by omega)]
 refine⟨e, ?_⟩;unfold fJ;rw[if_pos e,h,hl,toNat_natCast];unfold pgB;show aF ((bw s++replicate (254 - s.size) 0).take s.size)=s;rw[List.take_append_of_le_length (by rw[gj];exact le_refl _),take_of_length_le (by rw[gj];exact le_refl _),qx]
theorem amN{ws:List Int}(hw:ws.length=256)(hb:∀x∈ws,0<=x/\x<=255):bw (iI ws 0)++bw (iI ws 1)++bw (iI ws 2)++bw (iI ws 3)=ws:=by
 have e:∀k,bw (iI ws k)=(ws.drop (64*k)).take 64:=λk=>qz λx hx=>hb x (List.mem_of_mem_drop (List.mem_of_mem_take hx));rw[e,e,e,e];have h3:(ws.drop (64*3)).take 64=ws.drop 192:=take_of_length_le (by rw[length_drop];omega);rw[h3];have d:∀k,(ws.drop k).take 64++ws.drop (k+64)=ws.drop k:=λk=>by rw[<-List.drop_drop,List.take_append_drop]
 have d2:=d 128;have d1:=d 64;have d0:=d 0;simp only[append_assoc];rw[show 64*2=128 from rfl,d2,show 64*1=64 from rfl,d1,show 64*0=0 from rfl,d0];rfl
end Ds
namespace Lf
open Go Go.Sx Go.Proofs
abbrev P:Program:=Tryz.prog
theorem mixed:P.follows .mixedOrders=true:=by kernel_rfl
abbrev bI:Ty:=.b (.int .i64)
abbrev dg:Ty:=.b .bool
abbrev eU:Ty:=.b .str
abbrev ad0:Ty:=.b (.row (.ah .i64) 3)
abbrev cE:List CK:=[.str,.str]
abbrev cB:List CK:=[.str,.int .i64]
abbrev En:Type:=ByteArray×ByteArray×Unit
abbrev Br:Type:=ByteArray×Int×Unit
abbrev eE:TypeId:=76
abbrev eB:TypeId:=116
abbrev sP:Ty:=.b (.row (.au cE) eE)
abbrev zH:Ty:=.b (.row (.au cB) eB)
abbrev fo:Ty:=.st [.bool,.row (.au cE) eE,.row (.au cB) eB]
abbrev avN(l:Bool)(es:List En)(bs:List Br):AV:=.agg [.s (.bool l),.s (.ro (.au cE es)),.s (.ro (.au cB bs))]
abbrev obN(l:Bool)(es:List En)(bs:List Br)(t:TypeId):ak:=.aq [.s (.bool l),.s (.ro (.au cE es)),.s (.ro (.au cB bs))] t
theorem go{Z:bh}{X:Ctx}{t:aK}{f:FuncId}{fn:Func}{ns:List (Nat×Norm)}{c:bP}{tr:Tree}{K:List ak->AV->Prop}(hz:dZ Z X)(hX:∀id,X.H id=none)(hT:t.Ok P Z)(hf:P.funcs[f]? =some fn)
 (e:run P t.sum fn ns c=tr) (h:tr.Holds K (Safe P f X K)):Safe P f X K c:=cU (aK.sOk hT) hz mixed hf (λ_ _ id _=>hX id) e h
def dE:En:=(empty,empty,())
def dB:Br:=(empty,0,())
def okE(es:List En)(i:Nat):Bool:= !(decide ((es.getD i dE).1=empty)||decide (((es.getD i dE).1.size:Int)>24)||decide (((es.getD i dE).2.1.size:Int)>100)||(decide (0<i)&& !slt (es.getD (i - 1) dE).1 (es.getD i dE).1))
def okB(bs:List Br)(i:Nat):Bool:= !(decide (((bs.getD i dB).1.size:Int)>24)||decide ((bs.getD i dB).2.1<2)||decide ((bs.getD i dB).2.1>=1024)||(decide (0<i)&& !slt (bs.getD (i - 1) dB).1 (bs.getD i dB).1))
def kv(es:List En):Bool:=(List.range es.length).all (okE es)
def ik(bs:List Br):Bool:=(List.range bs.length).all (okB bs)
def dD(l:Bool)(es:List En)(bs:List Br):Bool:= !((l&&decide ((bs.length:Int)>0))||(!l&&decide ((es.length:Int)>0)))&&kv es&&ik bs
def ij:aK:=[]
def amO:List (Nat×Norm):=[(4,⟨[],[1,27,28,29],0,[]⟩),(10,⟨[],[1,67,68,69],0,[]⟩)]
def vE(l:Bool)(es:List En)(bs:List Br)(i:Int):bP:=⟨sl 105 [(1,.ptr 0 0),(27,.s (.ro (.au cE es))),(28,.s (.int .i64 (es.length:Int))),(29,.s (.int .i64 i))],[obN l es bs 100],hd f107 4,{}⟩
def ad1(l:Bool)(es:List En)(bs:List Br)(i:Int):bP:=⟨sl 105 [(1,.ptr 0 0),(67,.s (.ro (.au cB bs))),(68,.s (.int .i64 (bs.length:Int))),(69,.s (.int .i64 i))],[obN l es bs 100],hd f107 10,{}⟩
theorem ap5(l:Bool)(es:List En)(bs:List Br):run P ij.sum f107 amO (start f107 [avN l es bs] [])=
 Tree.ite l (.ite (decide ((↑bs.length:Int)>0)) (.ret [.aq [.s (.bool l),.s (.ro (.au cE es)),.s (.ro (.au cB bs))] 100] (.s (.aI false))) (.ite (!l) (.ite (decide ((↑es.length:Int)>0)) (.ret [.aq [.s (.bool l),.s (.ro (.au cE es)),.s (.ro (.au cB bs))] 100] (.s (.aI false))) (.at (vE l es bs 0))) (.at (vE l es bs 0)))) (.ite (!l) (.ite (decide ((↑es.length:Int)>0)) (.ret [.aq [.s (.bool l),.s (.ro (.au cE es)),.s (.ro (.au cB bs))] 100] (.s (.aI false))) (.at (vE l es bs 0))) (.at (vE l es bs 0))):=by kernel_rfl
theorem ad2(l:Bool)(es:List En)(bs:List Br)(i:Int):run P ij.sum f107 amO (vE l es bs i)=
 Tree.ite (decide (i<es.length)) (.ab ((0:Int)<=i) (.ab (i<es.length) (.ite (decide ((es.getD i.toNat (CL.d cE)).fst=empty)) (.ret [.aq [.s (.bool l),.s (.ro (.au cE es)),.s (.ro (.au cB bs))] 100,.aq [.s (.str (es.getD i.toNat (CL.d cE)).fst),.s (.str (es.getD i.toNat (CL.d cE)).snd.fst)] 76] (.s (.aI false))) (.ite (decide ((↑(ByteArray.size (es.getD i.toNat (CL.d cE)).fst):Int)>24)) (.ret [.aq [.s (.bool l),.s (.ro (.au cE es)),.s (.ro (.au cB bs))] 100,.aq [.s (.str (es.getD i.toNat (CL.d cE)).fst),.s (.str (es.getD i.toNat (CL.d cE)).snd.fst)] 76] (.s (.aI false))) (.ite (decide ((↑(ByteArray.size (es.getD i.toNat (CL.d cE)).snd.fst):Int)>100)) (.ret [.aq [.s (.bool l),.s (.ro (.au cE es)),.s (.ro (.au cB bs))] 100,.aq [.s (.str (es.getD i.toNat (CL.d cE)).fst),.s (.str (es.getD i.toNat (CL.d cE)).snd.fst)] 76] (.s (.aI false))) (.ite (decide (i>0)) (.ab (aA (i - (1:Int))) (.ab ((0:Int)<=i - (1:Int)) (.ab (i - (1:Int)<(↑es.length:Int)) (.ite (!slt (es.getD (i - (1:Int)).toNat (CL.d cE)).fst (es.getD i.toNat (CL.d cE)).fst) (.ret [.aq [.s (.bool l),.s (.ro (.au cE es)),.s (.ro (.au cB bs))] 100,.aq [.s (.str (es.getD i.toNat (CL.d cE)).fst),.s (.str (es.getD i.toNat (CL.d cE)).snd.fst)] 76] (.s (.aI false))) (.ab (aA (i+1)) (.at (vE l es bs (i+1)))))))) (.ab (aA (i+1)) (.at (vE l es bs (i+1)))))))))) (.at (ad1 l es bs 0)):=by kernel_rfl
theorem ad3(l:Bool)(es:List En)(bs:List Br)(i:Int):run P ij.sum f107 amO (ad1 l es bs i)=
 Tree.ite (decide (i<bs.length)) (.ab ((0:Int)<=i) (.ab (i<bs.length) (.ite (decide ((↑(ByteArray.size (bs.getD i.toNat (CL.d cB)).fst):Int)>24)) (.ret [.aq [.s (.bool l),.s (.ro (.au cE es)),.s (.ro (.au cB bs))] 100,.aq [.s (.str (bs.getD i.toNat (CL.d cB)).fst),.s (.int .i64 (bs.getD i.toNat (CL.d cB)).snd.fst)] 116] (.s (.aI false))) (.ite (decide ((bs.getD i.toNat (CL.d cB)).snd.fst<2)) (.ret [.aq [.s (.bool l),.s (.ro (.au cE es)),.s (.ro (.au cB bs))] 100,.aq [.s (.str (bs.getD i.toNat (CL.d cB)).fst),.s (.int .i64 (bs.getD i.toNat (CL.d cB)).snd.fst)] 116] (.s (.aI false))) (.ite (decide ((bs.getD i.toNat (CL.d cB)).snd.fst>=1024)) (.ret [.aq [.s (.bool l),.s (.ro (.au cE es)),.s (.ro (.au cB bs))] 100,.aq [.s (.str (bs.getD i.toNat (CL.d cB)).fst),.s (.int .i64 (bs.getD i.toNat (CL.d cB)).snd.fst)] 116] (.s (.aI false))) (.ite (decide (i>0)) (.ab (aA (i - (1:Int))) (.ab ((0:Int)<=i - (1:Int)) (.ab (i - (1:Int)<(↑bs.length:Int)) (.ite (!slt (bs.getD (i - (1:Int)).toNat (CL.d cB)).fst (bs.getD i.toNat (CL.d cB)).fst) (.ret [.aq [.s (.bool l),.s (.ro (.au cE es)),.s (.ro (.au cB bs))] 100,.aq [.s (.str (bs.getD i.toNat (CL.d cB)).fst),.s (.int .i64 (bs.getD i.toNat (CL.d cB)).snd.fst)] 116] (.s (.aI false))) (.ab (aA (i+1)) (.at (ad1 l es bs (i+1)))))))) (.ab (aA (i+1)) (.at (ad1 l es bs (i+1)))))))))) (.ret [.aq [.s (.bool l),.s (.ro (.au cE es)),.s (.ro (.au cB bs))] 100] (.s (.aI true))):=by kernel_rfl
theorem agw{Z:bh}:dF P Z 107 [fo] [dg] (λ_=>[]) (λ((l,es,bs,()),())=>(dD l es bs,())):=by
 refine aH func107 (by kernel_rfl) (by kernel_rfl) ?_;rintro⟨⟨(l:Bool),(es:List En),(bs:List Br),⟨⟩⟩,⟨⟩⟩ ⟨⟨_,hle,hlb,_⟩,_⟩ _ X hX hz;have hle:es.length<=9223372036854775807:=hle;have hlb:bs.length<=9223372036854775807:=hlb
 have second:kv es=true->dD l es bs=ik bs->∀(n k:Nat),k+n=bs.length->(∀j,j<k->okB bs j=true)->Safe P 107 X (Ends [dg] (dD l es bs,())) (ad1 l es bs (k:Int)):=by
  intro he hm n
  induction n with
  |zero=>
   intro k hk hp;refine go hz hX aK.Ok.nil func107 (ad3 l es bs k) ⟨λh=>absurd (of_decide_eq_true h) (by omega),λh=>fZ ?_⟩;rw[hm];exact ah0 (λj hj=>hp j (by omega))
  |succ n ih=>
   intro k hk hp;have no:okB bs k=false->dD l es bs=false:=λh=>by rw[hm];exact aml (by omega) h
   refine go hz hX aK.Ok.nil func107 (ad3 l es bs k) ⟨λh=>⟨by omega,by omega, ?_⟩,λh=>absurd (of_decide_eq_false h) (by omega)⟩;simp only[toNat_natCast];refine⟨λh1=>fZ (no ?_),λh1=>⟨λh2=>fZ (no ?_),λh2=>⟨λh3=>fZ (no ?_),λh3=>⟨λh4=> ?_,λh4=>⟨⟨by omega,by omega⟩, ?_⟩⟩⟩⟩⟩;show(!(decide (((bs.getD k dB).1.size:Int)>24)||_||_||_))=false;rw[show decide (((bs.getD k dB).1.size:Int)>24)=true from h1];rfl;show(!(_||decide ((bs.getD k dB).2.1<2)||_||_))=false;rw[show decide ((bs.getD k dB).2.1<2)=true from h2];simp;show(!(_||_||decide ((bs.getD k dB).2.1>=1024)||_))=false;rw[show decide ((bs.getD k dB).2.1>=1024)=true from h3];simp;have h0:(k:Int)>0:=of_decide_eq_true h4;rw[show((k:Int) - 1).toNat=k - 1 from by omega];refine⟨⟨by omega,by omega⟩,by omega,by omega,λh5=>fZ (no ?_),λh5=>⟨⟨by omega,by omega⟩,ih (k+1) (by omega) (λj hj=> ?_)⟩⟩;show(!(_||_||_||(decide (0<k)&& !slt (bs.getD (k - 1) dB).1 (bs.getD k dB).1)))=false;rw[show(!slt (bs.getD (k - 1) dB).1 (bs.getD k dB).1)=true from h5,show decide (0<k)=true from decide_eq_true (by omega)];simp;by_cases wj:j=k;subst wj;show(!(decide (((bs.getD j dB).1.size:Int)>24)||decide ((bs.getD j dB).2.1<2)||decide ((bs.getD j dB).2.1>=1024)||(decide (0<j)&& !slt (bs.getD (j - 1) dB).1 (bs.getD j dB).1)))=true;rw[show(!slt (bs.getD (j - 1) dB).1 (bs.getD j dB).1)=false from h5,show decide ((bs.getD j dB).2.1>=1024)=false from h3,show decide ((bs.getD j dB).2.1<2)=false from h2,show decide (((bs.getD j dB).1.size:Int)>24)=false from h1];simp;exact hp j (by omega);have h0:¬(k:Int)>0:=of_decide_eq_false h4;refine ih (k+1) (by omega) (λj hj=> ?_);by_cases wj:j=k;subst wj;show(!(decide (((bs.getD j dB).1.size:Int)>24)||decide ((bs.getD j dB).2.1<2)||decide ((bs.getD j dB).2.1>=1024)||(decide (0<j)&& !slt (bs.getD (j - 1) dB).1 (bs.getD j dB).1)))=true;rw[show decide ((bs.getD j dB).2.1>=1024)=false from h3,show decide ((bs.getD j dB).2.1<2)=false from h2,show decide (((bs.getD j dB).1.size:Int)>24)=false from h1,decide_eq_false (by omega)];rfl;exact hp j (by omega)
 have first:dD l es bs=(kv es&&ik bs)->∀(n k:Nat),k+n=es.length->(∀j,j<k->okE es j=true)->Safe P 107 X (Ends [dg] (dD l es bs,())) (vE l es bs (k:Int)):=by
  intro hm n
  induction n with
  |zero=>
   intro k hk hp;have he:kv es=true:=ah0 (λj hj=>hp j (by omega));exact go hz hX aK.Ok.nil func107 (ad2 l es bs k) ⟨λh=>absurd (of_decide_eq_true h) (by omega),λh=>second he (by rw[hm,he];rfl) bs.length 0 (by omega) (λj hj=>by omega)⟩
  |succ n ih=>
   intro k hk hp;have no:okE es k=false->dD l es bs=false:=λh=>by rw[hm,show kv es=false from aml (by omega) h];rfl
   refine go hz hX aK.Ok.nil func107 (ad2 l es bs k) ⟨λh=>⟨by omega,by omega, ?_⟩,λh=>absurd (of_decide_eq_false h) (by omega)⟩;simp only[toNat_natCast];refine⟨λh1=>fZ (no ?_),λh1=>⟨λh2=>fZ (no ?_),λh2=>⟨λh3=>fZ (no ?_),λh3=>⟨λh4=> ?_,λh4=>⟨⟨by omega,by omega⟩, ?_⟩⟩⟩⟩⟩;show(!(decide ((es.getD k dE).1=empty)||_||_||_))=false;rw[show decide ((es.getD k dE).1=empty)=true from h1];rfl;show(!(_||decide (((es.getD k dE).1.size:Int)>24)||_||_))=false;rw[show decide (((es.getD k dE).1.size:Int)>24)=true from h2];simp;show(!(_||_||decide (((es.getD k dE).2.1.size:Int)>100)||_))=false;rw[show decide (((es.getD k dE).2.1.size:Int)>100)=true from h3];simp;have h0:(k:Int)>0:=of_decide_eq_true h4;rw[show((k:Int) - 1).toNat=k - 1 from by omega];refine⟨⟨by omega,by omega⟩,by omega,by omega,λh5=>fZ (no ?_),λh5=>⟨⟨by omega,by omega⟩,ih (k+1) (by omega) (λj hj=> ?_)⟩⟩;show(!(_||_||_||(decide (0<k)&& !slt (es.getD (k - 1) dE).1 (es.getD k dE).1)))=false;rw[show(!slt (es.getD (k - 1) dE).1 (es.getD k dE).1)=true from h5,show decide (0<k)=true from decide_eq_true (by omega)];simp;by_cases wj:j=k;subst wj;show(!(decide ((es.getD j dE).1=empty)||decide (((es.getD j dE).1.size:Int)>24)||decide (((es.getD j dE).2.1.size:Int)>100)||(decide (0<j)&& !slt (es.getD (j - 1) dE).1 (es.getD j dE).1)))=true;rw[show(!slt (es.getD (j - 1) dE).1 (es.getD j dE).1)=false from h5,show decide (((es.getD j dE).2.1.size:Int)>100)=false from h3,show decide (((es.getD j dE).1.size:Int)>24)=false from h2,show decide ((es.getD j dE).1=empty)=false from h1];simp;exact hp j (by omega);have h0:¬(k:Int)>0:=of_decide_eq_false h4;refine ih (k+1) (by omega) (λj hj=> ?_);by_cases wj:j=k;subst wj;show(!(decide ((es.getD j dE).1=empty)||decide (((es.getD j dE).1.size:Int)>24)||decide (((es.getD j dE).2.1.size:Int)>100)||(decide (0<j)&& !slt (es.getD (j - 1) dE).1 (es.getD j dE).1)))=true;rw[show decide (((es.getD j dE).2.1.size:Int)>100)=false from h3,show decide (((es.getD j dE).1.size:Int)>24)=false from h2,show decide ((es.getD j dE).1=empty)=false from h1,decide_eq_false (by omega)];rfl;exact hp j (by omega)
 refine go hz hX aK.Ok.nil func107 (ap5 l es bs) ⟨λhl=>⟨λh1=>fZ ?_,λh1=>⟨λh2=> ?_,λh2=>first ?_ es.length 0 (by omega) (λj hj=>by omega)⟩⟩,λhl=>⟨λh1=>⟨λh2=>fZ ?_,λh2=>first ?_ es.length 0 (by omega) (λj hj=>by omega)⟩,λh1=> ?_⟩⟩;show(!((l&&decide ((bs.length:Int)>0))||_)&&_&&_)=false;rw[hl,h1];rfl;subst hl;cases h2;show(!((l&&decide ((bs.length:Int)>0))||(!l&&_))&&_&&_)=_;rw[hl,h1];rfl;show(!((l&&_)||(!l&&decide ((es.length:Int)>0)))&&_&&_)=false;rw[hl,h2];rfl;show(!((l&&_)||(!l&&decide ((es.length:Int)>0)))&&_&&_)=_;rw[hl,h2];rfl;subst hl;cases h1
theorem ic{α:Type}{l:List α}{k:Nat}{d:α}(h:k<l.length):l.take k++[l.getD k d]=l.take (k+1):=by
 rw[ba h,List.take_succ_eq_append_getElem h]
abbrev asS:=sumOf [eU,eU] [bI] (λ_=>[]) (λ(a,b,())=>(nx a b,()))
def auN:aK:=[(108,asS)]
def ah5:aK:=[(88,asS)]
theorem ap6(a b:ByteArray):run P auN.sum f88 [] (start f88 [.s (.str a),.s (.str b)] [])=
 Tree.ret [] (.s (.int .i64 (nx a b))):=by kernel_rfl
theorem agx(x:Br)(b:ByteArray):run P ah5.sum f87 [] (start f87 [.agg [.s (.str x.1),.s (.int .i64 x.2.1)],.s (.str b)] [])=
 Tree.ret [.aq [.s (.str x.fst),.s (.int .i64 x.snd.fst)] 116] (.s (.int .i64 (nx x.fst b))):=by kernel_rfl
theorem ad4(x:En)(b:ByteArray):run P ah5.sum f101 [] (start f101 [.agg [.s (.str x.1),.s (.str x.2.1)],.s (.str b)] [])=
 Tree.ret [.aq [.s (.str x.fst),.s (.str x.snd.fst)] 76] (.s (.int .i64 (nx x.fst b))):=by kernel_rfl
set_option maxHeartbeats 1000000 in
set_option maxRecDepth 100000 in
theorem ab6(a b:ByteArray)(w:World):Calls P 108 #[.string a,.string b] w λe w'=>e=.returned (.int .i64 (nx a b))/\w'=w:=by
 have mixed:=mixed;have t3:=Tryz.underlying3;have t9:=Tryz.underlying9;have u3:=run_underlying t3;have u9:=run_underlying t9
 go_enter func108,Tryz.ntmps108
 go_wp2
 rw[run_callFunc_extern func132 (by kernel_rfl) (by kernel_rfl) (by kernel_rfl) (e:=Extern.BytealgCompare.compare) (by kernel_rfl),Lib.run_compareString];simp only[Result.andThen];rw[Oper.upon_value]
 go_wp2
 go_ret
 exact⟨rfl,rfl⟩
theorem ap7{Z:bh}:dF P Z 108 [eU,eU] [bI] (λ_=>[]) (λ(a,b,())=>(nx a b,())):=by
 rintro⟨(a:ByteArray),(b:ByteArray),⟨⟩⟩ _ _ G w vs hG hz hd;obtain⟨v,rest,rfl,h1,h2⟩:=aD.1 hd;obtain⟨u,rest,rfl,h3,h4⟩:=aD.1 h2;obtain rfl:=a8.1 h4;obtain rfl:=fH h1;obtain rfl:=fH h3;refine(ab6 a b w).mono ?_;rintro e w' ⟨rfl,rfl⟩;refine⟨_,rfl,Good.val ⟨λid o ho=>by simp at ho,λi j oi oj b hi=>by simp at hi,λb hb=> ?_,hG⟩ ?_⟩;have⟨id,o,ho,_⟩:=hb;cases ho;exact aE (.int .i64 _)
theorem amP{Z:bh}:dF P Z 88 [eU,eU] [bI] (λ_=>[]) (λ(a,b,())=>(nx a b,())):=by
 refine aH func88 (by kernel_rfl) (by kernel_rfl) ?_;rintro⟨(a:ByteArray),(b:ByteArray),⟨⟩⟩ _ _ X hX hz;exact go hz hX (aK.Ok.cons ap7.sum aK.Ok.nil) func88 (ap6 a b) abV
abbrev tBr:Ty:=.st [.str,.int .i64]
abbrev tEn:Ty:=.st [.str,.str]
theorem akh{Z:bh}:dF P Z 87 [tBr,eU] [bI] (λ_=>[]) (λ((a,_,()),b,())=>(nx a b,())):=by
 refine aH func87 (by kernel_rfl) (by kernel_rfl) ?_;rintro⟨⟨(a:ByteArray),(n:Int),⟨⟩⟩,(b:ByteArray),⟨⟩⟩ _ _ X hX hz;exact go hz hX (aK.Ok.cons amP.sum aK.Ok.nil) func87 (agx (a,n,()) b) abV
theorem agy{Z:bh}:dF P Z 101 [tEn,eU] [bI] (λ_=>[]) (λ((a,_,()),b,())=>(nx a b,())):=by
 refine aH func101 (by kernel_rfl) (by kernel_rfl) ?_;rintro⟨⟨(a:ByteArray),(n:ByteArray),⟨⟩⟩,(b:ByteArray),⟨⟩⟩ _ _ X hX hz;exact go hz hX (aK.Ok.cons amP.sum aK.Ok.nil) func101 (ad4 (a,n,()) b) abV
abbrev azI:=sumOf [tBr,eU] [bI] (λ_=>[]) (λ((a,_,()),b,())=>(nx a b,()))
abbrev azJ:=sumOf [tEn,eU] [bI] (λ_=>[]) (λ((a,_,()),b,())=>(nx a b,()))
def ad5:aK:=[(87,azI)
 ,(101,azJ)
 ]
def ap8:List (Nat×Norm):=[(3,⟨[],[0,1,2,8,9,10],0,[]⟩)]
def amQ(bs:List Br)(key:ByteArray)(i j:Int):bP:=⟨sl 49 [(0,.s (.ro (.au cB bs))),(1,.s (.str key)),(2,.s (.rH 87)),(8,.s (.int .i64 (bs.length:Int))),(9,.s (.int .i64 i)),(10,.s (.int .i64 j))],[],hd f86 3,{}⟩
def amR(bs:List En)(key:ByteArray)(i j:Int):bP:=⟨sl 49 [(0,.s (.ro (.au cE bs))),(1,.s (.str key)),(2,.s (.rH 101)),(8,.s (.int .i64 (bs.length:Int))),(9,.s (.int .i64 i)),(10,.s (.int .i64 j))],[],hd f100 3,{}⟩
abbrev aki(x:Br):ByteArray:=x.1
abbrev rf(x:En):ByteArray:=x.1
abbrev nN(l:List Br):List ByteArray:=l.map aki
abbrev bS(l:List En):List ByteArray:=l.map rf
theorem ap9(bs:List Br)(key:ByteArray):run P ad5.sum f86 ap8 (start f86 [.s (.ro (.au cB bs)),.s (.str key),.s (.rH 87)] [])=
 Tree.at (amQ bs key 0 (↑bs.length:Int)):=by kernel_rfl
theorem ah6(bs:List Br)(key:ByteArray)(i j:Int):run P ad5.sum f86 ap8 (amQ bs key i j)=
 Tree.ite (decide (i<j)) (Tree.ab (aA (i+j)) (Tree.ab ((0:Int)≤(1:Int)) (Tree.ab ((0:Int)≤i64.wrap ((u64.wrap (i+j)).fdiv ((2:Int)^min (Int.toNat (1:Int)) u64.bits))) (Tree.ab (i64.wrap ((u64.wrap (i+j)).fdiv ((2:Int)^min (Int.toNat (1:Int)) u64.bits))<(↑bs.length:Int)) (Tree.ite (decide (nx (bs.getD (i64.wrap ((u64.wrap (i+j)).fdiv ((2:Int)^min (Int.toNat (1:Int)) u64.bits))).toNat (CL.d [CK.str,CK.int i64])).fst key<(0:Int))) (Tree.ab (aA (i64.wrap ((u64.wrap (i+j)).fdiv ((2:Int)^min (Int.toNat (1:Int)) u64.bits))+(1:Int))) (Tree.at (amQ bs key (i64.wrap ((u64.wrap (i+j)).fdiv ((2:Int)^min (Int.toNat (1:Int)) u64.bits))+(1:Int)) j))) (Tree.at (amQ bs key i (i64.wrap ((u64.wrap (i+j)).fdiv ((2:Int)^min (Int.toNat (1:Int)) u64.bits)))))))))) (Tree.ite (decide (i<(↑bs.length:Int))) (Tree.ab ((0:Int)≤i) (Tree.ab (i<(↑bs.length:Int)) (Tree.ret [] (AV.bq [AV.s (SV.int i64 i),AV.s (SV.bool (nx (bs.getD i.toNat (CL.d [CK.str,CK.int i64])).fst key==(0:Int)))])))) (Tree.ret [] (AV.bq [AV.s (SV.int i64 i),AV.s (SV.aI false)]))):=by kernel_rfl
theorem aqa(bs:List En)(key:ByteArray):run P ad5.sum f100 ap8 (start f100 [.s (.ro (.au cE bs)),.s (.str key),.s (.rH 101)] [])=
 Tree.at (amR bs key 0 (↑bs.length:Int)):=by kernel_rfl
theorem ah7(bs:List En)(key:ByteArray)(i j:Int):run P ad5.sum f100 ap8 (amR bs key i j)=
 Tree.ite (decide (i<j)) (Tree.ab (aA (i+j)) (Tree.ab ((0:Int)≤(1:Int)) (Tree.ab ((0:Int)≤i64.wrap ((u64.wrap (i+j)).fdiv ((2:Int)^min (Int.toNat (1:Int)) u64.bits))) (Tree.ab (i64.wrap ((u64.wrap (i+j)).fdiv ((2:Int)^min (Int.toNat (1:Int)) u64.bits))<(↑bs.length:Int)) (Tree.ite (decide (nx (bs.getD (i64.wrap ((u64.wrap (i+j)).fdiv ((2:Int)^min (Int.toNat (1:Int)) u64.bits))).toNat (CL.d [CK.str,CK.str])).fst key<(0:Int))) (Tree.ab (aA (i64.wrap ((u64.wrap (i+j)).fdiv ((2:Int)^min (Int.toNat (1:Int)) u64.bits))+(1:Int))) (Tree.at (amR bs key (i64.wrap ((u64.wrap (i+j)).fdiv ((2:Int)^min (Int.toNat (1:Int)) u64.bits))+(1:Int)) j))) (Tree.at (amR bs key i (i64.wrap ((u64.wrap (i+j)).fdiv ((2:Int)^min (Int.toNat (1:Int)) u64.bits)))))))))) (Tree.ite (decide (i<(↑bs.length:Int))) (Tree.ab ((0:Int)≤i) (Tree.ab (i<(↑bs.length:Int)) (Tree.ret [] (AV.bq [AV.s (SV.int i64 i),AV.s (SV.bool (nx (bs.getD i.toNat (CL.d [CK.str,CK.str])).fst key==(0:Int)))])))) (Tree.ret [] (AV.bq [AV.s (SV.int i64 i),AV.s (SV.aI false)]))):=by kernel_rfl
def cW(ks:List ByteArray)(key:ByteArray):Nat:=(ks.takeWhile (λk=>slt k key)).length
def j9(ks:List ByteArray)(key:ByteArray):Bool:=decide (ks[cW ks key]? =some key)
def jt(ks:List ByteArray):Prop:=∀i j,i<j->j<ks.length->slt (ks.getD i empty) (ks.getD j empty)=true
theorem c9{α:Type}(l:List α)(f:α->ByteArray)(d:α)(t:Nat)(hd:f d=empty:=by rfl):(l.map f).getD t empty=f (l.getD t d):=by
 simp only[List.getD,getElem?_map];cases l[t]? with
 |none=>exact hd.symm|some x=>rfl
theorem agz:∀{ks:List ByteArray} {key:ByteArray} {i:Nat},i<=ks.length->(∀t,t<i->slt (ks.getD t empty) key=true)->(i<ks.length->slt (ks.getD i empty) key=false)->cW ks key=i
 |[],key,i,h,_,_=>by
  simp only[length_nil,Nat.le_zero]at h;subst h;rfl
 |k::ks,key,0,h,_,h2=>by
  have:=h2 (by simp);simp only[List.getD_cons_zero]at this;simp[cW,List.takeWhile,this]
 |k::ks,key,i+1,h,h1,h2=>by
  have h0:=h1 0 (by omega);simp only[List.getD_cons_zero]at h0;have:=agz (ks:=ks) (key:=key) (i:=i) (by simpa using h) (λt ht=>by simpa using h1 (t+1) (by omega)) (λhi=>by simpa using h2 (by simpa using hi));simp only[cW]at this ⊢;simp[List.takeWhile,h0,this]
theorem yh(n:Int):(n==0)=decide (n=0):=by
 by_cases h:n=0<;>simp[h]
theorem amS{s:Int}(h0:0<=s)(h1:s<9223372036854775808):(u64.wrap s).fdiv (2^min (Int.toNat 1) u64.bits)=s / 2:=by
 have e1:u64.wrap s=s:=by
  show s%18446744073709551616=s;omega
 rw[e1];show s.fdiv 2=s / 2;rw[Int.fdiv_eq_ediv_of_nonneg _ (by omega)]
theorem mQ{Z:bh}:ad5.Ok P Z:=aK.Ok.cons akh.sum (
 aK.Ok.cons agy.sum
 aK.Ok.nil)
theorem auO{Z:bh}:dF P Z 86 [zH,eU,.b .fn] [bI,dg] (λ(l,_,f,())=>[(f:Nat)=87,(l:List Br).length<=1000000,jt (nN l)]) (λ(l,key,_,())=>((cW (nN l) key:Nat),j9 (nN l) key,())):=by
 refine aH func86 (by kernel_rfl) (by kernel_rfl) ?_;rintro⟨(l:List Br),(key:ByteArray),(f:Nat),⟨⟩⟩ _ ⟨(hf:f=87),(hl:l.length<=1000000),(hs:jt (nN l)),_⟩ X hX hz;subst hf;have hk:∀t,(nN l).getD t empty=(l.getD t dB).1:=λt=>c9 l aki dB t;have hn:(nN l).length=l.length:=length_map _;have loop:∀(n i j:Nat),j - i<=n->i<=j->j<=l.length->(∀t,t<i->slt (l.getD t dB).1 key=true)->(∀t,j<=t->t<l.length->slt (l.getD t dB).1 key=false)->
  Safe P 86 X (Ends [bI,dg] ((cW (nN l) key:Nat),j9 (nN l) key,())) (amQ l key (i:Int) (j:Int)):=by
  intro n
  induction n with
  |zero=>
   intro i j h1 h2 h3 h4 h5;have hlb:cW (nN l) key=i:=agz (by rw[hn];omega) (λt ht=>by rw[hk];exact h4 t ht) (λh=>by rw[hn]at h;rw[hk];exact h5 i (by omega) h);refine go hz hX mQ func86 (ah6 l key i j) ⟨λh=>absurd (of_decide_eq_true h) (by omega),λh=>⟨λh6=>⟨by omega,of_decide_eq_true h6, ?_⟩,λh6=> ?_⟩⟩;have h7:i<l.length:=by have:=of_decide_eq_true h6;omega
   simp only[toNat_natCast];rw[j9,hlb];refine bd ((i:Int),nx (l.getD i dB).1 key==0,()) ?_ (by kernel_rfl);congr 2;rw[getElem?_map,getElem?_eq_getElem h7,ba h7];simp only[map_some,Option.some.injEq];rw[yh,decide_eq_decide.2 (ah1 _ _)];have h7:¬i<l.length:=by have:=of_decide_eq_false h6;omega
   rw[j9,hlb];refine bd ((i:Int),false,()) ?_ (by kernel_rfl);congr 2;rw[getElem?_map,getElem?_eq_none (Nat.le_of_not_lt h7)];rfl
  |succ n ih=>
   intro i j h1 h2 h3 h4 h5;by_cases ma:i<j;have e:=amS (s:=(i:Int)+(j:Int)) (by omega) (by omega);have e2:((i:Int)+(j:Int)) / 2=((i+j) / 2:Nat):=by omega
   refine go hz hX mQ func86 (ah6 l key i j) ?_;have e3:i64.wrap (((i+j) / 2:Nat):Int)=(((i+j) / 2:Nat):Int):=cq ⟨by omega,by omega⟩;rw[e,e2,e3];simp only[toNat_natCast];refine⟨λh=>⟨⟨by omega,by omega⟩,by decide,by omega,by omega,λh6=>⟨⟨by omega,by omega⟩, ?_⟩,λh6=> ?_⟩,λh=>absurd (of_decide_eq_false h) (by omega)⟩;have h7:slt (l.getD ((i+j) / 2) dB).1 key=true:=(wu _ _).1 (of_decide_eq_true h6);refine ih ((i+j) / 2+1) j (by omega) (by omega) h3 (λt ht=> ?_) h5;by_cases hte:t=(i+j) / 2;rw[hte];exact h7;have:=hs t ((i+j) / 2) (by omega) (by omega);rw[hk,hk]at this;exact dc this h7
   have h7:slt (l.getD ((i+j) / 2) dB).1 key=false:=by
    cases h8:slt (l.getD ((i+j) / 2) dB).1 key;rfl;exact absurd ((wu _ _).2 h8) (of_decide_eq_false h6)
   refine ih i ((i+j) / 2) (by omega) (by omega) (by omega) h4 (λt ht htl=> ?_);by_cases hte:t=(i+j) / 2;rw[hte];exact h7;have:=hs ((i+j) / 2) t (by omega) (by omega);rw[hk,hk]at this;cases h8:slt (l.getD t dB).1 key;rfl;rw[dc this h8]at h7;cases h7;exact ih i j (by omega) h2 h3 h4 h5
 exact go hz hX mQ func86 (ap9 l key) (loop l.length 0 l.length (by omega) (by omega) (by omega) (λt ht=>by omega) (λt ht htl=>by omega))
theorem auP{Z:bh}:dF P Z 100 [sP,eU,.b .fn] [bI,dg] (λ(l,_,f,())=>[(f:Nat)=101,(l:List En).length<=1000000,jt (bS l)]) (λ(l,key,_,())=>((cW (bS l) key:Nat),j9 (bS l) key,())):=by
 refine aH func100 (by kernel_rfl) (by kernel_rfl) ?_;rintro⟨(l:List En),(key:ByteArray),(f:Nat),⟨⟩⟩ _ ⟨(hf:f=101),(hl:l.length<=1000000),(hs:jt (bS l)),_⟩ X hX hz;subst hf;have hk:∀t,(bS l).getD t empty=(l.getD t dE).1:=λt=>c9 l rf dE t;have hn:(bS l).length=l.length:=length_map _;have loop:∀(n i j:Nat),j - i<=n->i<=j->j<=l.length->(∀t,t<i->slt (l.getD t dE).1 key=true)->(∀t,j<=t->t<l.length->slt (l.getD t dE).1 key=false)->
  Safe P 100 X (Ends [bI,dg] ((cW (bS l) key:Nat),j9 (bS l) key,())) (amR l key (i:Int) (j:Int)):=by
  intro n
  induction n with
  |zero=>
   intro i j h1 h2 h3 h4 h5;have hlb:cW (bS l) key=i:=agz (by rw[hn];omega) (λt ht=>by rw[hk];exact h4 t ht) (λh=>by rw[hn]at h;rw[hk];exact h5 i (by omega) h);refine go hz hX mQ func100 (ah7 l key i j) ⟨λh=>absurd (of_decide_eq_true h) (by omega),λh=>⟨λh6=>⟨by omega,of_decide_eq_true h6, ?_⟩,λh6=> ?_⟩⟩;have h7:i<l.length:=by have:=of_decide_eq_true h6;omega
   simp only[toNat_natCast];rw[j9,hlb];refine bd ((i:Int),nx (l.getD i dE).1 key==0,()) ?_ (by kernel_rfl);congr 2;rw[getElem?_map,getElem?_eq_getElem h7,ba h7];simp only[map_some,Option.some.injEq];rw[yh,decide_eq_decide.2 (ah1 _ _)];have h7:¬i<l.length:=by have:=of_decide_eq_false h6;omega
   rw[j9,hlb];refine bd ((i:Int),false,()) ?_ (by kernel_rfl);congr 2;rw[getElem?_map,getElem?_eq_none (Nat.le_of_not_lt h7)];rfl
  |succ n ih=>
   intro i j h1 h2 h3 h4 h5;by_cases ma:i<j;have e:=amS (s:=(i:Int)+(j:Int)) (by omega) (by omega);have e2:((i:Int)+(j:Int)) / 2=((i+j) / 2:Nat):=by omega
   refine go hz hX mQ func100 (ah7 l key i j) ?_;have e3:i64.wrap (((i+j) / 2:Nat):Int)=(((i+j) / 2:Nat):Int):=cq ⟨by omega,by omega⟩;rw[e,e2,e3];simp only[toNat_natCast];refine⟨λh=>⟨⟨by omega,by omega⟩,by decide,by omega,by omega,λh6=>⟨⟨by omega,by omega⟩, ?_⟩,λh6=> ?_⟩,λh=>absurd (of_decide_eq_false h) (by omega)⟩;have h7:slt (l.getD ((i+j) / 2) dE).1 key=true:=(wu _ _).1 (of_decide_eq_true h6);refine ih ((i+j) / 2+1) j (by omega) (by omega) h3 (λt ht=> ?_) h5;by_cases hte:t=(i+j) / 2;rw[hte];exact h7;have:=hs t ((i+j) / 2) (by omega) (by omega);rw[hk,hk]at this;exact dc this h7
   have h7:slt (l.getD ((i+j) / 2) dE).1 key=false:=by
    cases h8:slt (l.getD ((i+j) / 2) dE).1 key;rfl;exact absurd ((wu _ _).2 h8) (of_decide_eq_false h6)
   refine ih i ((i+j) / 2) (by omega) (by omega) (by omega) h4 (λt ht htl=> ?_);by_cases hte:t=(i+j) / 2;rw[hte];exact h7;have:=hs ((i+j) / 2) t (by omega) (by omega);rw[hk,hk]at this;cases h8:slt (l.getD t dE).1 key;rfl;rw[dc this h8]at h7;cases h7;exact ih i j (by omega) h2 h3 h4 h5
 exact go hz hX mQ func100 (aqa l key) (loop l.length 0 l.length (by omega) (by omega) (by omega) (λt ht=>by omega) (λt ht htl=>by omega))
abbrev azK:=sumOf [zH,eU,.b .fn] [bI,dg] (λ(l,_,f,())=>[(f:Nat)=87,(l:List Br).length<=1000000,jt (nN l)]) (λ(l,key,_,())=>((cW (nN l) key:Nat),j9 (nN l) key,()))
abbrev azL:=sumOf [sP,eU,.b .fn] [bI,dg] (λ(l,_,f,())=>[(f:Nat)=101,(l:List En).length<=1000000,jt (bS l)]) (λ(l,key,_,())=>((cW (bS l) key:Nat),j9 (bS l) key,()))
def amT:aK:=[(86,azK)
 ,(100,azL)
 ]
def ab7:List (Nat×Norm):=[(3,⟨[(3,.ah .i64 [],3)],[1,3,9,10,11],0,[]⟩),(8,⟨[(3,.ah .i64 [],3)],[3,28,29,30],0,[]⟩)]
def wx(l:Bool)(es:List En)(bs:List Br)(acc:List Int)(i:Int):bP:=⟨sl 43 [(1,.ptr 0 0),(3,.vec 1),(9,.s (.ro (.au cE es))),(10,.s (.int .i64 (es.length:Int))),(11,.s (.int .i64 i))],[obN l es bs 100,.vec (.ah .i64 acc) 3],hd f127 3,{}⟩
def wy(bs:List Br)(acc:List Int)(i:Int):bP:=⟨sl 43 [(3,.vec 0),(28,.s (.ro (.au cB bs))),(29,.s (.int .i64 (bs.length:Int))),(30,.s (.int .i64 i))],[.vec (.ah .i64 acc) 3],hd f127 8,{}⟩
def rG(x:En):Int:=2+(x.1.size:Int)+(x.2.1.size:Int)
def rh(x:Br):Int:=3+(x.1.size:Int)
def aT(es:List En)(bs:List Br):List Int:=es.map rG++bs.map rh
def bC(es:List En)(bs:List Br):Int:=1+((es.map rG).sum+(bs.map rh).sum)
def bx(es:List En):Prop:=es.length<=1000/\∀x∈es,x.1.size<=1000/\x.2.1.size<=1000
def bz(bs:List Br):Prop:=bs.length<=1000/\∀x∈bs,x.1.size<=1000
abbrev amU:=sumOf [fo] [ad0] (λ((_,es,bs,()),())=>[bx es,bz bs]) (λ((_,es,bs,()),())=>(aT es bs,()))
def asT:aK:=[(127,amU)]
def amV:List (Nat×Norm):=[(3,⟨[],[3,7,8,9],0,[]⟩)]
def ah8(l:List Int)(a i:Int):bP:=⟨sl 18 [(3,.s (.int .i64 a)),(7,.vec 0),(8,.s (.int .i64 (l.length:Int))),(9,.s (.int .i64 i))],[.vec (.ah .i64 l) 3],hd f121 3,{}⟩
abbrev asU:=sumOf [fo] [bI] (λ((_,es,bs,()),())=>[bx es,bz bs]) (λ((_,es,bs,()),())=>(bC es bs,()))
def axl:aK:=[(121,asU)]
theorem akj(l:List Br)(key:ByteArray):run P amT.sum f63 [] (start f63 [.s (.ro (.au cB l)),.s (.str key)] [])=
 Tree.ab ((87:Nat)=(87:(Ty.b B.fn).V)) (.ab (l.length<=1000000) (.ab (jt (nN l)) (.ite (!j9 (nN l) key) (.ab (aA ((↑(cW (nN l) key):bI.V) - (1:Int))) (.ret [] (.s (.int .i64 (imax 0 ((↑(cW (nN l) key):bI.V) - (1:Int))))))) (.ret [] (.s (.int .i64 (imax 0 (↑(cW (nN l) key):bI.V)))))))):=by kernel_rfl
theorem agA(l:List En)(key:ByteArray):run P amT.sum f81 [] (start f81 [.s (.ro (.au cE l)),.s (.str key)] [])=
 Tree.ab ((101:Nat)=(101:(Ty.b B.fn).V)) (.ab (l.length<=1000000) (.ab (jt (bS l)) (.ret [] (.bq [.s (.int .i64 (↑(cW (bS l) key):bI.V)),.s (.bool (j9 (bS l) key))])))):=by kernel_rfl
theorem akk(l:Bool)(es:List En)(bs:List Br):run P ij.sum f127 ab7 (start f127 [avN l es bs] [])=
 Tree.at (wx l es bs [] 0):=by kernel_rfl
theorem yi(l:Bool)(es:List En)(bs:List Br)(acc:List Int)(i:Int):run P ij.sum f127 ab7 (wx l es bs acc i)=
 Tree.ite (decide (i<es.length)) (.ab ((0:Int)<=i) (.ab (i<es.length) (.ab (aA ((2:Int)+(↑(ByteArray.size (es.getD i.toNat (CL.d cE)).fst):Int))) (.ab (aA ((2:Int)+(↑(ByteArray.size (es.getD i.toNat (CL.d cE)).fst):Int)+(↑(ByteArray.size (es.getD i.toNat (CL.d cE)).snd.fst):Int))) (.ab ((acc.length+1)*(8:Nat)<=140737488355328) (.ab (aA (i+1)) (.at (wx l es bs (acc++[(2:Int)+(↑(ByteArray.size (es.getD i.toNat (CL.d cE)).fst):Int)+(↑(ByteArray.size (es.getD i.toNat (CL.d cE)).snd.fst):Int)]) (i+1))))))))) (.at (wy bs acc 0)):=by kernel_rfl
theorem yj(bs:List Br)(acc:List Int)(i:Int):run P ij.sum f127 ab7 (wy bs acc i)=
 Tree.ite (decide (i<bs.length)) (.ab ((0:Int)<=i) (.ab (i<bs.length) (.ab (aA ((3:Int)+(↑(ByteArray.size (bs.getD i.toNat (CL.d cB)).fst):Int))) (.ab ((acc.length+1)*(8:Nat)<=140737488355328) (.ab (aA (i+1)) (.at (wy bs (acc++[(3:Int)+(↑(ByteArray.size (bs.getD i.toNat (CL.d cB)).fst):Int)]) (i+1)))))))) (.ret [.vec (.ah .i64 acc) 3] (.vec 0)):=by kernel_rfl
theorem treeSize(l:Bool)(es:List En)(bs:List Br):run P asT.sum f121 amV (start f121 [avN l es bs] [])=
 Tree.ab (bx es) (.ab (bz bs) (.at (ah8 (aT es bs) 1 0))):=by kernel_rfl
theorem ad6(l:List Int)(a i:Int):run P asT.sum f121 amV (ah8 l a i)=
 Tree.ite (decide (i<l.length)) (.ab ((0:Int)<=i) (.ab (i<l.length) (.ab (aA (a+l.getD i.toNat 0)) (.ab (aA (i+1)) (.at (ah8 l (a+l.getD i.toNat 0) (i+1))))))) (.ret [.vec (.ah .i64 l) 3] (.s (.int .i64 a))):=by kernel_rfl
theorem amW(l:Bool)(es:List En)(bs:List Br):run P axl.sum f95 [] (start f95 [avN l es bs] [])=
 Tree.ab (bx es) (.ab (bz bs) (.ret [.aq [.s (.bool l),.s (.ro (.au cE es)),.s (.ro (.au cB bs))] 100] (.s (.bool (decide (bC es bs<=254)))))):=by kernel_rfl
theorem ad7{Z:bh}:amT.Ok P Z:=aK.Ok.cons auO.sum (
 aK.Ok.cons auP.sum
 aK.Ok.nil)
def bg(l:List Br)(key:ByteArray):Int:=imax 0 (if j9 (nN l) key=true then(cW (nN l) key:Int)else(cW (nN l) key:Int) - 1)
theorem yk(ks:List ByteArray)(key:ByteArray):cW ks key<=ks.length:=by
 unfold cW;exact(List.takeWhile_sublist _).length_le
theorem yl{Z:bh}:dF P Z 63 [zH,eU] [bI] (λ(l,_,())=>[(l:List Br).length<=1000000,jt (nN l)]) (λ(l,key,())=>(bg l key,())):=by
 refine aH func63 (by kernel_rfl) (by kernel_rfl) ?_;rintro⟨(l:List Br),(key:ByteArray),⟨⟩⟩ _ ⟨(hl:l.length<=1000000),(hs:jt (nN l)),_⟩ X hX hz;have hb:=yk (nN l) key;rw[show(nN l).length=l.length from length_map _]at hb;refine go hz hX ad7 func63 (akj l key) ⟨rfl,hl,hs,λh=>⟨⟨by omega,by omega⟩,ahZ ?_⟩,λh=>ahZ ?_⟩;have h:j9 (nN l) key=false:=by simpa using h
 simp[bg,h];have h:j9 (nN l) key=true:=by simpa using h
 simp[bg,h]
theorem uz{Z:bh}:dF P Z 81 [sP,eU] [bI,dg] (λ(l,_,())=>[(l:List En).length<=1000000,jt (bS l)]) (λ(l,key,())=>((cW (bS l) key:Nat),j9 (bS l) key,())):=by
 refine aH func81 (by kernel_rfl) (by kernel_rfl) ?_;rintro⟨(l:List En),(key:ByteArray),⟨⟩⟩ _ ⟨(hl:l.length<=1000000),(hs:jt (bS l)),_⟩ X hX hz;exact go hz hX ad7 func81 (agA l key) ⟨rfl,hl,hs,bd _ rfl (by kernel_rfl)⟩
theorem ym{es:List En}(h:bx es)(i:Nat):(es.getD i dE).1.size<=1000/\(es.getD i dE).2.1.size<=1000:=by
 by_cases hi:i<es.length;rw[ba hi];exact h.2 _ (getElem_mem hi);rw[show es.getD i dE=dE from by simp[List.getD,getElem?_eq_none (Nat.le_of_not_lt hi)]];exact⟨by decide,by decide⟩
theorem yn{bs:List Br}(h:bz bs)(i:Nat):(bs.getD i dB).1.size<=1000:=by
 by_cases hi:i<bs.length;rw[ba hi];exact h.2 _ (getElem_mem hi);rw[show bs.getD i dB=dB from by simp[List.getD,getElem?_eq_none (Nat.le_of_not_lt hi)]];decide
theorem qA{α:Type}{l:List α}{k:Nat}{d:α}(f:α->Int)(h:k<l.length):(l.take k).map f++[f (l.getD k d)]=(l.take (k+1)).map f:=by
 rw[<-ic (d:=d) h,map_append];rfl
theorem sQ{Z:bh}:dF P Z 127 [fo] [ad0] (λ((_,es,bs,()),())=>[bx es,bz bs]) (λ((_,es,bs,()),())=>(aT es bs,())):=by
 refine aH func127 (by kernel_rfl) (by kernel_rfl) ?_;rintro⟨⟨(l:Bool),(es:List En),(bs:List Br),⟨⟩⟩,⟨⟩⟩ _ ⟨(he:bx es),(hb:bz bs),_⟩ X hX hz;have he1:=he.1;have hb1:=hb.1
 have second:∀(n k:Nat),k+n=bs.length->Safe P 127 X (Ends [ad0] (aT es bs,())) (wy bs (es.map rG++(bs.take k).map rh) (k:Int)):=by
  intro n
  induction n with
  |zero=>
   intro k hk;refine go hz hX aK.Ok.nil func127 (yj bs _ k) ⟨λh=>absurd (of_decide_eq_true h) (by omega),λh=> ?_⟩;rw[take_of_length_le (by omega)];exact bd (aT es bs,()) rfl (by kernel_rfl)
  |succ n ih=>
   intro k hk;have bU:=yn hb k;refine go hz hX aK.Ok.nil func127 (yj bs _ k) ⟨λh=>⟨by omega,by omega, ?_, ?_,⟨by omega,by omega⟩, ?_⟩,λh=>absurd (of_decide_eq_false h) (by omega)⟩;simp only[toNat_natCast];show aA (3+((bs.getD k dB).1.size:Int));exact⟨by omega,by omega⟩;simp only[length_append,length_map,length_take];omega;simp only[toNat_natCast];have:=ih (k+1) (by omega);rw[<-qA (d:=dB) rh (by omega),<-append_assoc]at this;exact this
 have first:∀(n k:Nat),k+n=es.length->Safe P 127 X (Ends [ad0] (aT es bs,())) (wx l es bs ((es.take k).map rG) (k:Int)):=by
  intro n
  induction n with
  |zero=>
   intro k hk;refine go hz hX aK.Ok.nil func127 (yi l es bs _ k) ⟨λh=>absurd (of_decide_eq_true h) (by omega),λh=> ?_⟩;rw[take_of_length_le (by omega)];have:=second bs.length 0 (by omega);simp only[List.take_zero,map_nil,append_nil]at this;exact this
  |succ n ih=>
   intro k hk;have⟨hs1,hs2⟩:=ym he k;refine go hz hX aK.Ok.nil func127 (yi l es bs _ k) ⟨λh=>⟨by omega,by omega, ?_, ?_, ?_,⟨by omega,by omega⟩, ?_⟩,λh=>absurd (of_decide_eq_false h) (by omega)⟩;simp only[toNat_natCast];show aA (2+((es.getD k dE).1.size:Int));exact⟨by omega,by omega⟩;simp only[toNat_natCast];show aA (2+((es.getD k dE).1.size:Int)+((es.getD k dE).2.1.size:Int));exact⟨by omega,by omega⟩;simp only[length_map,length_take];omega;simp only[toNat_natCast];have:=ih (k+1) (by omega);rw[<-qA (d:=dE) rG (by omega)]at this;exact this
 exact go hz hX aK.Ok.nil func127 (akk l es bs) (first es.length 0 (by omega))
theorem aaF{es:List En}{bs:List Br}(he:bx es)(hb:bz bs):∀x∈aT es bs,0<=x/\x<=2002:=by
 intro x hx;rcases mem_append.1 hx with hx|hx;obtain⟨y,hy,rfl⟩:=mem_map.1 hx;have:=he.2 y hy;simp only[rG];omega;obtain⟨y,hy,rfl⟩:=mem_map.1 hx;have:=hb.2 y hy;simp only[rh];omega
theorem pW{l:List Int}{m:Int}(h:∀x∈l,0<=x/\x<=m)(hm:0<=m):0<=l.sum/\l.sum<=m*l.length:=by
 induction l with
 |nil=>simp|cons x l ih=>
  have h1:=h x (by simp);have⟨h2,h3⟩:=ih (λy hy=>h y (by simp[hy]));simp only[sum_cons,length_cons];refine⟨by omega, ?_⟩;rw[show((l.length+1:Nat):Int)=(l.length:Int)+1 from rfl,Int.mul_add];omega
theorem ju{l:List Int}{k:Nat}(h:k<l.length):(l.take k).sum+l.getD k 0=(l.take (k+1)).sum:=by
 rw[<-ic (d:=(0:Int)) h,List.sum_append];simp
theorem pj(es:List En)(bs:List Br):bC es bs=1+(aT es bs).sum:=by
 simp[bC,aT,List.sum_append]
theorem ah9{Z:bh}:dF P Z 121 [fo] [bI] (λ((_,es,bs,()),())=>[bx es,bz bs]) (λ((_,es,bs,()),())=>(bC es bs,())):=by
 refine aH func121 (by kernel_rfl) (by kernel_rfl) ?_;rintro⟨⟨(l:Bool),(es:List En),(bs:List Br),⟨⟩⟩,⟨⟩⟩ _ ⟨(he:bx es),(hb:bz bs),_⟩ X hX hz;have hr:=aaF he hb
 have bB:(aT es bs).length<=2000:=by
  have:=he.1;have:=hb.1;simp only[aT,length_append,length_map];omega
 show Safe P 121 X (Ends [bI] (bC es bs,())) _;rw[pj]
 have loop:∀(n k:Nat),k+n=(aT es bs).length->Safe P 121 X (Ends [bI] (1+(aT es bs).sum,())) (ah8 (aT es bs) (1+((aT es bs).take k).sum) (k:Int)):=by
  intro n
  induction n with
  |zero=>
   intro k hk;refine go hz hX (aK.Ok.cons sQ.sum aK.Ok.nil) func121 (ad6 _ _ k) ⟨λh=>absurd (of_decide_eq_true h) (by omega),λh=> ?_⟩;rw[take_of_length_le (by omega)];exact abV
  |succ n ih=>
   intro k hk;have h1:=pW (l:=(aT es bs).take k) (m:=2002) (λx hx=>hr x (List.mem_of_mem_take hx)) (by omega)
   have h2:0<=(aT es bs).getD k 0/\(aT es bs).getD k 0<=2002:=by
    rw[ba (by omega)];exact hr _ (getElem_mem _)
   have h3:((aT es bs).take k).length<=2000:=by rw[length_take];omega
   refine go hz hX (aK.Ok.cons sQ.sum aK.Ok.nil) func121 (ad6 _ _ k) ?_;simp only[toNat_natCast];refine⟨λh=>⟨by omega,by omega,⟨by omega,by omega⟩,⟨by omega,by omega⟩, ?_⟩,λh=>absurd (of_decide_eq_false h) (by omega)⟩;have:=ih (k+1) (by omega);rw[<-ju (by omega),<-Int.add_assoc]at this;exact this
 have:=loop (aT es bs).length 0 (by omega);exact go hz hX (aK.Ok.cons sQ.sum aK.Ok.nil) func121 (treeSize l es bs) ⟨he,hb,this⟩
theorem aia{Z:bh}:dF P Z 95 [fo] [dg] (λ((_,es,bs,()),())=>[bx es,bz bs]) (λ((_,es,bs,()),())=>(decide (bC es bs<=254),())):=by
 refine aH func95 (by kernel_rfl) (by kernel_rfl) ?_;rintro⟨⟨(l:Bool),(es:List En),(bs:List Br),⟨⟩⟩,⟨⟩⟩ _ ⟨(he:bx es),(hb:bz bs),_⟩ X hX hz;exact go hz hX (aK.Ok.cons ah9.sum aK.Ok.nil) func95 (amW l es bs) ⟨he,hb,amj⟩
def ab8(s:ByteArray):List Int:=s.data.toList.map λb=>(b.toNat:Int)
def txt(s:ByteArray):List Int:=u8.wrap (s.size:Int)::ab8 s
abbrev axm:Type:=ByteArray×List Int
def ad8:Spec axm:=⟨λx=>[.s (.str x.1),.ptr 0 0],λx=>[.aq [.vec 1] 61,.vec (.ah .u8 x.2) 5],λx=>[x.2.length<=100000000,x.1.size<=1000000],λx=>[.aq [.vec 2] 61,.aw,.vec (.ah .u8 (x.2++txt x.1)) 5],λ_=>.bq []⟩
def asV:List AV->RM (axm×List Nat)
 |[.s (.str s),.ptr id 0]=>.look id λ
  |some (.aq [.vec j] _)=>.look j λ
   |some (.vec (.ah .u8 zs) _)=>.ret ((s,zs),[id,j])|_=>.fail ""
  |_=>.fail ""
 |_=>.fail ""
abbrev auQ:=sumOf [fo] [dg] (λ_=>[]) (λ((l,es,bs,()),())=>(dD l es bs,()))
abbrev asW:=sumOf [fo] [dg] (λ((_,es,bs,()),())=>[bx es,bz bs]) (λ((_,es,bs,()),())=>(decide (bC es bs<=254),()))
def yo:aK:=[(107,auQ),(95,asW),(140,bY ad8 asV)]
def aib:List (Nat×Norm):=[(8,⟨[],[1,4],0,[]⟩),(10,⟨[],[1,4,5,25,26,27],0,[]⟩),(16,⟨[],[4,5,41,42,43],0,[]⟩)]
def aic(l:Bool)(es:List En)(bs:List Br)(zs:List Int):bP:=⟨sl 64 [(1,.ptr 0 0),(4,.ptr 1 0)],[obN l es bs 100,.aq [.vec 2] 61,.vec (.ah .u8 zs) 5],hr f124 8,{}⟩
def aid(l:Bool)(es:List En)(bs:List Br)(zs:List Int)(i:Int):bP:=⟨sl 64 [(1,.ptr 0 0),(4,.ptr 1 0),(5,.fn 140 [.ptr 1 0]),(25,.s (.ro (.au cE es))),(26,.s (.int .i64 (es.length:Int))),(27,.s (.int .i64 i))],[obN l es bs 100,.aq [.vec 2] 61,.vec (.ah .u8 zs) 5],hd f124 10,{}⟩
def aie(bs:List Br)(zs:List Int)(i:Int):bP:=⟨sl 64 [(4,.ptr 0 0),(5,.fn 140 [.ptr 0 0]),(41,.s (.ro (.au cB bs))),(42,.s (.int .i64 (bs.length:Int))),(43,.s (.int .i64 i))],[.aq [.vec 1] 61,.vec (.ah .u8 zs) 5],hd f124 16,{}⟩
theorem amX(s:ByteArray)(zs:List Int):run P ij.sum f140 [] (start f140 [.s (.str s),.ptr 0 0] [.aq [.vec 1] 61,.vec (.ah .u8 zs) 5])=
 Tree.ab ((zs.length+(1:Nat))*(1:Nat)≤(140737488355328:Nat)) (Tree.ab (((zs++[u8.wrap (↑s.size:Int)]).length+(List.map (fun(b:UInt8)=>(↑b.toNat:Int)) s.data.toList).length)*(1:Nat)≤(140737488355328:Nat)) (Tree.ret [ak.aq [AV.vec (4:Nat)] (61:Nat),ak.aw,ak.vec (aU.ah u8 [u8.wrap (↑s.size:Int)]) (5:Nat),ak.aw,ak.vec (aU.ah u8 (zs++[u8.wrap (↑s.size:Int)]++List.map (fun(b:UInt8)=>(↑b.toNat:Int)) s.data.toList)) (5:Nat)] (AV.bq []))):=by kernel_rfl
theorem aqb(l:Bool)(es:List En)(bs:List Br):run P yo.sum f124 aib (start f124 [avN l es bs] [])=
 Tree.ite (!dD l es bs) (.ret [.aq [.s (.bool l),.s (.ro (.au cE es)),.s (.ro (.au cB bs))] 100] (.bq [.s (.str empty),.s (.aR .i64 4)])) (.ab (bx es) (.ab (bz bs) (.ite (!decide (bC es bs<=254)) (.ret [.aq [.s (.bool l),.s (.ro (.au cE es)),.s (.ro (.au cB bs))] 100] (.bq [.s (.str empty),.s (.aR .i64 40)])) (.ite l (.ab ((0:Int)<=0) (.ab ((0:Int)<(↑(1:Nat):Int)) (.at (aic l es bs ([(2:Int)].set 0 1))))) (.at (aic l es bs [(2:Int)])))))):=by kernel_rfl
theorem aqc(l:Bool)(es:List En)(bs:List Br)(zs:List Int):run P yo.sum f124 aib (aic l es bs zs)=
 Tree.at (aid l es bs zs 0):=by kernel_rfl
theorem ad9(l:Bool)(es:List En)(bs:List Br)(zs:List Int)(i:Int):run P yo.sum f124 aib (aid l es bs zs i)=
 Tree.ite (decide (i<es.length)) (.ab ((0:Int)<=i) (.ab (i<es.length) (.ab (bp (some [AV.s (.str (es.getD i.toNat (CL.d cE)).fst),.ptr 0 0])) (.ab (bp (some [ak.aq [.vec 1] 61,.vec (.ah .u8 zs) 5])) (.ab (zs.length<=100000000) (.ab (ByteArray.size (es.getD i.toNat (CL.d cE)).fst<=1000000) (.ab (bp (some [AV.s (.str (es.getD i.toNat (CL.d cE)).snd.fst),.ptr 0 0])) (.ab (bp (some [ak.aq [.vec 1] 61,.vec (.ah .u8 (zs++txt (es.getD i.toNat (CL.d cE)).fst)) 5])) (.ab ((zs++txt (es.getD i.toNat (CL.d cE)).fst).length<=100000000) (.ab (ByteArray.size (es.getD i.toNat (CL.d cE)).snd.fst<=1000000) (.ab (aA (i+1)) (.at (aid l es bs (zs++txt (es.getD i.toNat (CL.d cE)).fst++txt (es.getD i.toNat (CL.d cE)).snd.fst) (i+1)))))))))))))) (.at (aie bs zs 0)):=by kernel_rfl
theorem aea(bs:List Br)(zs:List Int)(i:Int):run P yo.sum f124 aib (aie bs zs i)=
 Tree.ite (decide (i<(↑bs.length:Int))) (Tree.ab ((0:Int)≤i) (Tree.ab (i<(↑bs.length:Int)) (Tree.ab (bp (some [AV.s (SV.str (bs.getD i.toNat (CL.d [CK.str,CK.int i64])).fst),AV.ptr (0:Nat) (0:Nat)])) (Tree.ab (bp (some [ak.aq [AV.vec (1:Nat)] (61:Nat),ak.vec (aU.ah u8 zs) (5:Nat)])) (Tree.ab (zs.length≤(100000000:Nat)) (Tree.ab (ByteArray.size (bs.getD i.toNat (CL.d [CK.str,CK.int i64])).fst≤(1000000:Nat)) (Tree.ab ((0:Int)≤(8:Int)) (Tree.ab (((zs++txt (bs.getD i.toNat (CL.d [CK.str,CK.int i64])).fst).length+(2:Nat))*(1:Nat)≤(140737488355328:Nat)) (Tree.ab (aA (i+(1:Int))) (Tree.at (aie bs (zs++txt (bs.getD i.toNat (CL.d [CK.str,CK.int i64])).fst++[u8.wrap (Int.fdiv (bs.getD i.toNat (CL.d [CK.str,CK.int i64])).snd.fst ((2:Int)^min (Int.toNat (8:Int)) i64.bits)),u8.wrap (bs.getD i.toNat (CL.d [CK.str,CK.int i64])).snd.fst]) (i+(1:Int))))))))))))) (Tree.ret [ak.aq [AV.vec (1:Nat)] (61:Nat),ak.vec (aU.ah u8 zs) (5:Nat)] (AV.bq [AV.s (SV.str (aF zs)),AV.s (SV.aR i64 (0:Int))])):=by kernel_rfl
theorem cF{Z:bh}{X:Ctx}{t:aK}{f:FuncId}{fn:Func}{ns:List (Nat×Norm)}{c:bP}{tr:Tree}{K:List ak->AV->Prop}{L:List ak}(hz:dZ Z X)(hX:X.H=lk L)(hm:∀x∈ns,L.length<=x.2.m)(hT:t.Ok P Z)(hf:P.funcs[f]? =some fn)
 (e:run P t.sum fn ns c=tr) (h:tr.Holds K (Safe P f X K)):Safe P f X K c:=cU (aK.sOk hT) hz mixed hf (λx hx id dq=>by rw[hX];exact getElem?_eq_none (le_trans (hm x hx) dq)) e h
theorem aqd{Z:bh}:fI P Z 140 ad8:=by
 refine fS func140 ?_;rintro⟨s,zs⟩ ⟨(h1:zs.length<=100000000),(h2:s.size<=1000000),_⟩ X hX hz;have hs:s.data.toList.length=s.size:=length_toList;refine cF hz hX (by simp) aK.Ok.nil func140 (amX s zs) ⟨by omega,by simp only[length_append,length_map,List.length_singleton];omega,⟨[],[0],2,[]⟩,le_refl _, ?_⟩;have e:zs++txt s=zs++[u8.wrap (s.size:Int)]++ab8 s:=by simp[txt]
 show Norm.run _ _=some ⟨[AV.bq []],[.aq [.vec 2] 61,.aw,.vec (.ah .u8 (zs++txt s)) 5],[],{}⟩;rw[e];kernel_rfl
def pq(x:En):List Int:=txt x.1++txt x.2.1
def vV(x:Br):List Int:=txt x.1++[u8.wrap (Int.fdiv x.2.1 (2^min (Int.toNat 8) i64.bits)),u8.wrap x.2.1]
def zI(l:Bool):List Int:=[if l=true then 1 else 2]
def pr(l:Bool)(es:List En)(bs:List Br):List Int:=zI l++es.flatMap pq++bs.flatMap vV
def aeb(l:Bool)(es:List En)(bs:List Br):Bool:=dD l es bs&&decide (bC es bs<=254)
def encS(l:Bool)(es:List En)(bs:List Br):ByteArray:=if aeb l es bs=true then aF (pr l es bs)else empty
def iJ(l:Bool)(es:List En)(bs:List Br):Int:=if dD l es bs=true then(if bC es bs<=254 then 0 else 40)else 4
theorem nz(s:ByteArray):(txt s).length=s.size+1:=by
 have hs:s.data.toList.length=s.size:=length_toList;simp[txt,ab8,hs]
theorem aaG{α β:Type}{l:List α}{k:Nat}{d:α}(f:α->List β)(h:k<l.length):(l.take k).flatMap f++f (l.getD k d)=(l.take (k+1)).flatMap f:=by
 rw[<-ic (d:=d) h,List.flatMap_append];simp
theorem sR{α β:Type}(f:α->List β)(m:Nat):∀{l:List α},(∀x∈l,(f x).length<=m)->(l.flatMap f).length<=m*l.length
 |[],_=>by simp
 |x::l,h=>by
  have h1:=h x (by simp);have h2:=sR f m (l:=l) (λy hy=>h y (by simp[hy]));simp only[List.flatMap_cons,length_append,length_cons,Nat.mul_add];omega
theorem aec{x:En}(h:x.1.size<=1000/\x.2.1.size<=1000):(pq x).length<=2002:=by
 simp only[pq,length_append,nz];omega
theorem amY{x:Br}(h:x.1.size<=1000):(vV x).length<=1003:=by
 simp only[vV,length_append,nz,length_cons,length_nil];omega
theorem kE{Z:bh}:yo.Ok P Z:=aK.Ok.cons agw.sum (aK.Ok.cons aia.sum (aK.Ok.cons (aqd.sum asV) aK.Ok.nil))
theorem akl{Z:bh}:dF P Z 124 [fo] [eU,bI] (λ((_,es,bs,()),())=>[bx es,bz bs]) (λ((l,es,bs,()),())=>(encS l es bs,iJ l es bs,())):=by
 refine aH func124 (by kernel_rfl) (by kernel_rfl) ?_;rintro⟨⟨(l:Bool),(es:List En),(bs:List Br),⟨⟩⟩,⟨⟩⟩ _ ⟨(he:bx es),(hb:bz bs),_⟩ X hX hz;have he1:=he.1;have hb1:=hb.1;show Safe P 124 X (Ends [eU,bI] (encS l es bs,iJ l es bs,())) _
 have second:encS l es bs=aF (pr l es bs)->iJ l es bs=0->∀(n k:Nat),k+n=bs.length->Safe P 124 X (Ends [eU,bI] (encS l es bs,iJ l es bs,())) (aie bs (zI l++es.flatMap pq++(bs.take k).flatMap vV) (k:Int)):=by
  intro hS hN n
  induction n with
  |zero=>
   intro k hk;refine go hz hX kE func124 (aea bs _ k) ⟨λh=>absurd (of_decide_eq_true h) (by omega),λh=> ?_⟩;rw[take_of_length_le (by omega),hS,hN];exact abW
  |succ n ih=>
   intro k hk;have bU:=yn hb k;have hl1:(es.flatMap pq).length<=2002*es.length:=sR pq 2002 (λx hx=>aec (he.2 x hx));have hl2:((bs.take k).flatMap vV).length<=1003*(bs.take k).length:=sR vV 1003 (λx hx=>amY (hb.2 x (List.mem_of_mem_take hx)));have hl3:(bs.take k).length<=1000:=by rw[length_take];omega
   have hl:(zI l++es.flatMap pq++(bs.take k).flatMap vV).length<=4000000:=by
    simp only[length_append,zI,List.length_singleton];omega
   refine go hz hX kE func124 (aea bs _ k) ?_;simp only[toNat_natCast];refine⟨λh=>⟨by omega,by omega,trivial,trivial,by omega, ?_,by decide, ?_,⟨by omega,by omega⟩, ?_⟩,λh=>absurd (of_decide_eq_false h) (by omega)⟩;show(bs.getD k dB).1.size<=1000000;omega;rw[length_append,nz];show(_+((bs.getD k dB).1.size+1)+2)*1<=_;omega;have:=ih (k+1) (by omega);rw[<-aaG (d:=dB) vV (by omega),<-append_assoc]at this;rw[append_assoc (zI l++es.flatMap pq++(bs.take k).flatMap vV)];exact this
 have first:encS l es bs=aF (pr l es bs)->iJ l es bs=0->∀(n k:Nat),k+n=es.length->Safe P 124 X (Ends [eU,bI] (encS l es bs,iJ l es bs,())) (aid l es bs (zI l++(es.take k).flatMap pq) (k:Int)):=by
  intro hS hN n
  induction n with
  |zero=>
   intro k hk;refine go hz hX kE func124 (ad9 l es bs _ k) ⟨λh=>absurd (of_decide_eq_true h) (by omega),λh=> ?_⟩;rw[take_of_length_le (by omega)];have:=second hS hN bs.length 0 (by omega);simp only[List.take_zero,List.flatMap_nil,append_nil]at this;exact this
  |succ n ih=>
   intro k hk;have⟨hs1,hs2⟩:=ym he k;have hl2:((es.take k).flatMap pq).length<=2002*(es.take k).length:=sR pq 2002 (λx hx=>aec (he.2 x (List.mem_of_mem_take hx)));have hl3:(es.take k).length<=1000:=by rw[length_take];omega
   have hl:(zI l++(es.take k).flatMap pq).length<=4000000:=by
    simp only[length_append,zI,List.length_singleton];omega
   refine go hz hX kE func124 (ad9 l es bs _ k) ?_;simp only[toNat_natCast];refine⟨λh=>⟨by omega,by omega,trivial,trivial,by omega, ?_,trivial,trivial, ?_, ?_,⟨by omega,by omega⟩, ?_⟩,λh=>absurd (of_decide_eq_false h) (by omega)⟩;show(es.getD k dE).1.size<=1000000;omega;rw[length_append,nz];show _+((es.getD k dE).1.size+1)<=_;omega;show(es.getD k dE).2.1.size<=1000000;omega;have:=ih (k+1) (by omega);rw[<-aaG (d:=dE) pq (by omega),<-append_assoc]at this;rw[append_assoc (zI l++(es.take k).flatMap pq)];exact this
 refine go hz hX kE func124 (aqb l es bs) ⟨λh=> ?_,λh=>⟨he,hb,λh2=> ?_,λh2=> ?_⟩⟩;have h:dD l es bs=false:=by simpa using h
 have e1:encS l es bs=empty:=by simp[encS,aeb,h]
 have e2:iJ l es bs=4:=by simp[iJ,h]
 rw[e1,e2];exact abW;have h:dD l es bs=true:=by simpa using h
 have h2:¬bC es bs<=254:=by simpa using h2
 have e1:encS l es bs=empty:=by simp[encS,aeb,h,h2]
 have e2:iJ l es bs=40:=by simp[iJ,h,h2]
 rw[e1,e2];exact abW;have h:dD l es bs=true:=by simpa using h
 have h2:bC es bs<=254:=by simpa using h2
 have e1:encS l es bs=aF (pr l es bs):=by simp[encS,aeb,h,h2]
 have e2:iJ l es bs=0:=by simp[iJ,h,h2]
 have st:Safe P 124 X (Ends [eU,bI] (encS l es bs,iJ l es bs,())) (aic l es bs (zI l)):=by
  refine go hz hX kE func124 (aqc l es bs _) ?_;have:=first e1 e2 es.length 0 (by omega)
  simp only[List.take_zero,List.flatMap_nil,append_nil]at this;exact this
 refine⟨λh3=>⟨by decide,by decide, ?_⟩,λh3=> ?_⟩;subst h3;exact st;subst h3;exact st
theorem amZ{bs:List Br}(h:ik bs=true){i:Nat}(hi:i+1<bs.length):slt (bs.getD i dB).1 (bs.getD (i+1) dB).1=true:=by
 have:=dt.1 h (i+1) hi;simp only[okB,not_eq_true',Bool.or_eq_false_iff,Bool.and_eq_false_iff,decide_eq_false_iff_not,Bool.not_eq_false']at this;have h2:=this.2;rcases h2 with h2|h2;omega;simpa using h2
theorem am0{es:List En}(h:kv es=true){i:Nat}(hi:i+1<es.length):slt (es.getD i dE).1 (es.getD (i+1) dE).1=true:=by
 have:=dt.1 h (i+1) hi;simp only[okE,not_eq_true',Bool.or_eq_false_iff,Bool.and_eq_false_iff,decide_eq_false_iff_not,Bool.not_eq_false']at this;have h2:=this.2;rcases h2 with h2|h2;omega;simpa using h2
theorem vF{ks:List ByteArray}(h:∀i,i+1<ks.length->slt (ks.getD i empty) (ks.getD (i+1) empty)=true):jt ks:=by
 intro i j ma hj
 induction j with
 |zero=>omega|succ j ih=>
  by_cases he:i=j;subst he;exact h i hj;exact dc (ih (by omega) (by omega)) (h j hj)
theorem auR{bs:List Br}(h:ik bs=true):jt (nN bs):=vF λi hi=>by
 rw[length_map]at hi;rw[c9 bs aki dB,c9 bs aki dB];exact amZ h hi
theorem axn{es:List En}(h:kv es=true):jt (bS es):=vF λi hi=>by
 rw[length_map]at hi;rw[c9 es rf dE,c9 es rf dE];exact am0 h hi
theorem ew{l:Bool}{es:List En}{bs:List Br}(h:dD l es bs=true):(l=true->bs=[])/\(l=false->es=[])/\kv es=true/\ik bs=true:=by
 simp only[dD,and_eq_true,not_eq_true',Bool.or_eq_false_iff,Bool.and_eq_false_iff,decide_eq_false_iff_not]at h;have⟨⟨⟨h1,h2⟩,h3⟩,h4⟩:=h;refine⟨λhl=> ?_,λhl=> ?_,h3,h4⟩;subst hl;rcases h1 with h1|h1;cases h1;exact List.eq_nil_of_length_eq_zero (by omega);subst hl;rcases h2 with h2|h2;cases h2;exact List.eq_nil_of_length_eq_zero (by omega)
theorem agB:∀{ks:List ByteArray} {key:ByteArray} {t:Nat},t<cW ks key->slt (ks.getD t empty) key=true
 |[],key,t,h=>by simp[cW]at h
 |k::ks,key,t,h=>by
  simp only[cW,List.takeWhile]at h;split at h;rename_i hk;cases t with
  |zero=>simpa using hk|succ t=>
   simp only[length_cons]at h;simpa using agB (ks:=ks) (key:=key) (t:=t) (by simp only[cW];omega)
  simp at h
theorem agC:∀{ks:List ByteArray} {key:ByteArray},cW ks key<ks.length->slt (ks.getD (cW ks key) empty) key=false
 |[],key,h=>by simp at h
 |k::ks,key,h=>by
  by_cases hk:slt k key=true;have e:cW (k::ks) key=cW ks key+1:=by simp[cW,List.takeWhile,hk]
  rw[e]at h ⊢;simpa using agC (ks:=ks) (key:=key) (by simpa using h);have hk:slt k key=false:=by simpa using hk
  have e:cW (k::ks) key=0:=by simp[cW,List.takeWhile,hk]
  rw[e];simpa using hk
theorem am1{ks:List ByteArray}{key:ByteArray}(hs:jt ks){t:Nat}(h1:cW ks key<=t)(h2:t<ks.length):slt (ks.getD t empty) key=false:=by
 have h:=agC (ks:=ks) (key:=key) (by omega);by_cases he:t=cW ks key;rw[he];exact h;have h3:=hs (cW ks key) t (by omega) h2;cases h4:slt (ks.getD t empty) key;rfl;rw[dc h3 h4]at h;cases h
theorem kx{ks:List ByteArray}{key:ByteArray}:j9 ks key=true↔cW ks key<ks.length/\ks.getD (cW ks key) empty=key:=by
 simp only[j9,decide_eq_true_eq];constructor;intro h;have h1:=(List.getElem?_eq_some_iff.1 h).1;exact⟨h1,by simp[List.getD,h]⟩;rintro⟨h1,h2⟩;rw[ba h1]at h2;rw[getElem?_eq_getElem h1,h2]
theorem yp{ks:List ByteArray}{key:ByteArray}(hs:jt ks)(h0:ks≠[]):∃p:Nat,imax 0 (if j9 ks key=true then(cW ks key:Int)else(cW ks key:Int) - 1)=(p:Int)/\p<ks.length/\
 (p=0\/slt key (ks.getD p empty)=false)/\(∀t,p<t->t<ks.length->slt key (ks.getD t empty)=true):=by
 have bB:0<ks.length:=by
  cases ks with
  |nil=>exact absurd rfl h0|cons k ks=>simp
 have hle:=yk ks key;have up:∀t,cW ks key<=t->t<ks.length->ks.getD t empty≠key->slt key (ks.getD t empty)=true:=λt h1 h2 h3=>x9 (am1 hs h1 h2) h3;by_cases hk:j9 ks key=true;have⟨h1,h2⟩:=kx.1 hk;rw[if_pos hk];refine⟨cW ks key,by unfold imax;split<;>omega,h1,.inr (by rw[h2];exact eu key),λt ht htl=> ?_⟩;rw[<-h2];have:=hs (cW ks key) t ht htl;rw[h2]at this ⊢;exact this;rw[if_neg hk]
 have cP:∀t,cW ks key<=t->t<ks.length->ks.getD t empty≠key:=by
  intro t h1 h2 h3;by_cases he:t=cW ks key;subst he;exact hk (kx.2 ⟨h2,h3⟩);have h4:=hs (cW ks key) t (by omega) h2;rw[h3]at h4;rw[agC (by omega)]at h4;cases h4
 rcases Nat.eq_zero_or_pos (cW ks key)with hz|hz;refine⟨0,by rw[hz];rfl,bB,.inl rfl,λt ht htl=>up t (by omega) htl (cP t (by omega) htl)⟩;refine⟨cW ks key - 1,by unfold imax;split<;>omega,by omega,.inr (uo (agB (by omega))),λt ht htl=>up t (by omega) htl (cP t (by omega) htl)⟩
end Lf
