/- Lemmas: SxView, SxTy, SxOut, SxFn, SxFnR, SxLoop, SxWrap, SxDen, SxCut, Hd, SxSpec, SxAuto, Lb, SxRange, D0, D2, SxFrz, E1, F0, F1, F2, F3, H0, Hp, L1, L2. -/
import Derived.ProofKit
import Derived.Carry
import Derived.OpenShut
import Derived.Deep.DeepHandedRow
import Derived.JoinedOf
import Derived.Test.YtjmdfmafnenjnaaGreatDoorRows
import Derived.LaidMore
import Derived.Stop.Joined
import Derived.Lib.Bytealg
import Derived.Maps.RangeRun
import Derived.Test.YtjmdfmafnenjnaaGreatDoorProg
import Derived.Lib.Walk
import Derived.WalkKit
import Derived.Laws.Externs
import Derived.Test.YtjmdfmafnenjnaaGreatDoorPB
namespace Go.Sx
open Go
def allM{α β:Type}(f:α→Option β):List α→Option (List β)
 |[]=>some []
 |a::aJ=>match f a,allM f aJ with
  |some b,some bs=>some (b::bs)
  |_,_=>none
def uz:SV→SV
 |.aK k n=>.int k n
 |.aC b=>.bool b
 |x=>x
def rn(g:Nat→Option Nat):Nat→AV→Option AV
 |0,_=>none
 |d+1,a=>
  match a with
  |.s x=>some (.s (uz x))
  |.ptr id off=>(g id).map fun j=>.ptr j off
  |.jd id off n i=>(g id).map fun j=>.jd j off n i
  |.iK c m j=>some (.iK c m j)
  |.vec id=>(g id).map fun j=>.vec j
  |.fR id i j=>(g id).map fun l=>.fR l i j
  |.part id lo n=>(g id).map fun l=>.part l lo n
  |.sub id off n=>(g id).map fun l=>.sub l off n
  |.jz id i j n=>(g id).map fun l=>.jz l i j n
  |.emp=>some .emp
  |.agg ao=>(allM (rn g d) ao).map .agg
  |.ints k n ws=>some (.ints k n ws)
  |.bg vs=>(allM (rn g d) vs).map .bg
  |.fn f da=>(allM (rn g d) da).map (.fn f)
  |.mQ f da=>(allM (rn g d) da).map (.mQ f)
  |.ag id=>(g id).map fun j=>.ag j
  |.tag id=>(g id).map fun j=>.tag j
def sZ(g:Nat→Option Nat):ab→Option ab
 |.own ao e=>(allM (rn g 20) ao).map fun s=>.own s e
 |.vec c e=>some (.vec c e)
 |.map ck m=>some (.map ck m)
 |.gK ck m gid=>match g gid with
  |some j=>some (.gK ck m j)
  |none=>some (.map ck m)
 |.iter mid gid ck left cur=>match g mid,g gid with
  |some i,some j=>some (.iter i j ck left cur)
  |_,_=>none
 |.dead=>some .dead
structure Emb (g:Nat→Option Nat) (ρ:Nat→Value) (H:aM) (O:Nat→Prop) (aF:Nat→Value) (H':aM) (O':Nat→Prop):Prop where
 id:∀i j,g i=some j→aF j=ρ i∧∀o,H i=some o→∃o',H' j=some o'∧∀c e,o'=.vec c e→o=.vec c e
 fz:∀b,O' b→O b
section
variable{g:Nat→Option Nat}{ρ aF:Nat→Value}{H H':aM}{G O O':Nat→Prop}{w w':World}{P:Program}{S:eU}{Z:aW}{X:Ctx}{s:St}{a:Act}{K:List ab→AV→Prop}{C:bw→Prop}
theorem allM_cons{α β:Type}{f:α→Option β}{a:α}{aJ:List α}{l:List β}(h:allM f (a::aJ)=some l):∃b bs,f a=some b∧allM f aJ=some bs∧l=b::bs:=by
 unfold allM at h;split at h
 ·rename_i b bs h1 h2;simp only[Option.some.injEq]at h;exact⟨b,bs,h1,h2,h.symm⟩
 ·cases h
theorem gj{α β:Type}{f:α→Option β}:∀{aJ:List α} {l:List β},allM f aJ=some l→l.length=aJ.length
 |[],l,h=>by simp only[allM,Option.some.injEq]at h;subst h;rfl
 |a::aJ,l,h=>by
  obtain⟨b,bs,_,h2,rfl⟩:=allM_cons h;simp[gj h2]
theorem fK{α β:Type}{f:α→Option β}:∀{aJ:List α} {l:List β},allM f aJ=some l→∀(i:Nat) (a:α),aJ[i]? =some a→∃b,f a=some b∧l[i]? =some b
 |[],l,h,i,a,hi=>by simp at hi
 |a::aJ,l,h,i,x,hi=>by
  obtain⟨b,bs,h1,h2,rfl⟩:=allM_cons h;cases i with
  |zero=>simp only[List.getElem?_cons_zero,Option.some.injEq]at hi;subst hi;exact⟨b,h1,rfl⟩
  |succ i=>simpa using fK h2 i x (by simpa using hi)
theorem aT.less(fz:∀b,O' b→O b){x:SV}{v:Value}(h:aT O w x v):aT O' w x v:=
 h.step (fun b hb=>.inl (fz b hb)) (fun _ _ _=>rfl) (Nat.le_refl _)
theorem aT.uz{x:SV}{v:Value}(h:aT O w x v):aT O w (uz x) v:=by
 cases h<;>first
  |exact aT.int _ _
  |exact aT.bool _
  |(refine aT.ro _ _ _ _ _ _ ?_ ?_ ?_ ?_ ?_<;>assumption)
  |(constructor<;>assumption)
  |constructor
theorem aeB(fz:∀b,O' b→O b){x:SV}{v:Value}(h:af ρ H O w (.s x) v):af aF H' O' w (.s (Sx.uz x)) v:=by
 by_cases hx:x=.aR
 ·subst hx;unfold af;trivial
 ·have h1:=ak hx h;exact az (h1.less fz).uz
theorem s5(E:Emb g ρ H O aF H' O'):∀(d:Nat),
 (∀a a' v,rn g d a=some a'→af ρ H O w a v→af aF H' O' w a' v)∧(∀a a' cs,rn g d a=some a'→aN ρ H O w a cs→aN aF H' O' w a' cs):=by
 have isSome:∀{i j:Nat},g i=some j→(H i).isSome=true→(H' j).isSome=true:=by
  intro i j hg hi;obtain⟨o,ho⟩:=Option.isSome_iff_exists.1 hi;obtain⟨o',dg,_⟩:=(E.id i j hg).2 o ho;rw[dg];rfl
 have apG:∀{i j:Nat} {v:Value},g i=some j→aD ρ H O w (.vec i) v→aD aF H' O' w (.vec j) v:=by
  intro i j v hg h;unfold aD at *;obtain⟨h0,o,ho,h1⟩:=h;obtain⟨hr,h2⟩:=E.id i j hg;obtain⟨o',dg,h3⟩:=h2 o ho;exact⟨h0,o',dg,fun c e hc=>by rw[hr];exact h1 c e (h3 c e hc)⟩
 have alE:∀{i j:Nat} {v:Value} {m n:Nat},g i=some j→aD ρ H O w (.fR i m n) v→aD aF H' O' w (.fR j m n) v:=by
  intro i j v m n hg h;unfold aD at *;obtain⟨h0,o,ho,h1⟩:=h;obtain⟨hr,h2⟩:=E.id i j hg;obtain⟨o',dg,h3⟩:=h2 o ho;exact⟨h0,o',dg,fun c e hc=>by rw[hr];exact h1 c e (h3 c e hc)⟩
 have alF:∀{i j:Nat} {v:Value} {m n:Nat},g i=some j→aD ρ H O w (.part i m n) v→aD aF H' O' w (.part j m n) v:=by
  intro i j v m n hg h;unfold aD at *;obtain⟨h0,o,ho,h1⟩:=h;obtain⟨hr,h2⟩:=E.id i j hg;obtain⟨o',dg,h3⟩:=h2 o ho;exact⟨h0,o',dg,fun c e hc=>by rw[hr];exact h1 c e (h3 c e hc)⟩
 have apH:∀{i j:Nat} {v:Value} {m n:Nat},g i=some j→aD ρ H O w (.sub i m n) v→aD aF H' O' w (.sub j m n) v:=by
  intro i j v m n hg h;unfold aD at *;obtain⟨h0,b,a,cap,h1,h2,h4,h3⟩:=h;exact⟨h0,b,a,cap,by rw[(E.id i j hg).1,h1],h2,h4,isSome hg h3⟩
 have alG:∀{i j:Nat} {v:Value} {m n l:Nat},g i=some j→aD ρ H O w (.jz i m n l) v→aD aF H' O' w (.jz j m n l) v:=by
  intro i j v m n l hg h;unfold aD at *;obtain⟨h0,o,ho,h1⟩:=h;obtain⟨hr,h2⟩:=E.id i j hg;obtain⟨o',dg,h3⟩:=h2 o ho;exact⟨h0,o',dg,fun c e hc=>by rw[hr];exact h1 c e (h3 c e hc)⟩
 have apI:∀{i j:Nat} {v:Value} {off:Nat},g i=some j→aD ρ H O w (.ptr i off) v→aD aF H' O' w (.ptr j off) v:=by
  intro i j v off hg h;unfold aD at *;obtain⟨b,h1,h2,h3⟩:=h;exact⟨b,by rw[(E.id i j hg).1,h1],h2,isSome hg h3⟩
 have apJ:∀{i j:Nat} {v:Value},g i=some j→aD ρ H O w (.ag i) v→aD aF H' O' w (.ag j) v:=by
  intro i j v hg h;unfold aD at *;obtain⟨b,h1,h2,h3⟩:=h;exact⟨b,by rw[(E.id i j hg).1,h1],h2,isSome hg h3⟩
 have apK:∀{i j:Nat} {v:Value},g i=some j→aD ρ H O w (.tag i) v→aD aF H' O' w (.tag j) v:=by
  intro i j v hg h;unfold aD at *;obtain⟨h1,h2,h3⟩:=h;exact⟨by rw[(E.id i j hg).1,h1],h2,isSome hg h3⟩
 have alH:∀{i j:Nat} {v:Value} {off n l:Nat},g i=some j→aD ρ H O w (.jd i off n l) v→aD aF H' O' w (.jd j off n l) v:=by
  intro i j v off n l hg h;unfold aD at *;obtain⟨h0,b,h1,h2,h3⟩:=h;exact⟨h0,b,by rw[(E.id i j hg).1,h1],h2,isSome hg h3⟩
 have alI:∀{c:aL} {m j:Nat} {v:Value},aD ρ H O w (.iK c m j) v→aD aF H' O' w (.iK c m j) v:=by
  intro c m j v h;unfold aD at *;obtain⟨b,o,us,h1,h2,h3,h4⟩:=h;exact⟨b,o,us,h1,fun h5=>h2 (E.fz b h5),h3,fun i hi=>⟨(h4 i hi).1,(h4 i hi).2.less E.fz⟩⟩
 intro d
 induction d with
 |zero=>exact⟨fun a a' v h=>by simp[rn]at h,fun a a' cs h=>by simp[rn]at h⟩
 |succ d ih=>
  have lst:∀(aJ dj:List AV) (vs:List Value),allM (rn g d) aJ=some dj→bI ρ H O w aJ vs→bI aF H' O' w dj vs:=by
   intro aJ
   induction aJ with
   |nil=>intro dj vs h hd;simp only[allM,Option.some.injEq]at h;subst h;rw[aU.1 hd];exact aU.2 rfl
   |cons a aJ ihl=>
    intro dj vs h hd;obtain⟨b,bs,h1,h2,rfl⟩:=allM_cons h;obtain⟨v,rest,rfl,h3,h4⟩:=aA.1 hd;exact aA.2 ⟨v,rest,rfl,ih.1 a b v h1 h3,ihl bs rest h2 h4⟩
  have sgs:∀(aJ dj:List AV) (cs:List Value),allM (rn g d) aJ=some dj→aq ρ H O w aJ cs→aq aF H' O' w dj cs:=by
   intro aJ
   induction aJ with
   |nil=>intro dj vs h hd;simp only[allM,Option.some.injEq]at h;subst h;rw[aw.1 hd];exact aw.2 rfl
   |cons a aJ ihl=>
    intro dj vs h hd;obtain⟨b,bs,h1,h2,rfl⟩:=allM_cons h;obtain⟨c1,c2,rfl,h3,h4⟩:=ah.1 hd;exact ah.2 ⟨c1,c2,rfl,ih.2 a b c1 h1 h3,ihl bs c2 h2 h4⟩
  refine⟨fun a a' v h hd=> ?_,fun a a' cs h hd=> ?_⟩
  ·cases a<;>simp only[rn,Option.map_eq_some_iff,Option.some.injEq,reduceCtorEq]at h
   case s x=>subst h;exact aeB E.fz hd
   case ptr id off=>obtain⟨j,hg,rfl⟩:=h;unfold af at *;exact apI hg hd
   case jd id off n i=>obtain⟨j,hg,rfl⟩:=h;unfold af at *;exact alH hg hd
   case iK c m j=>subst h;unfold af at *;exact alI hd
   case vec id=>obtain⟨j,hg,rfl⟩:=h;unfold af at *;exact apG hg hd
   case fR id i j=>obtain⟨l,hg,rfl⟩:=h;unfold af at *;exact alE hg hd
   case part id lo n=>obtain⟨l,hg,rfl⟩:=h;unfold af at *;exact alF hg hd
   case sub id off n=>obtain⟨l,hg,rfl⟩:=h;unfold af at *;exact apH hg hd
   case jz id i j n=>obtain⟨l,hg,rfl⟩:=h;unfold af at *;exact alG hg hd
   case emp=>subst h;unfold af at *;exact hd
   case agg ao=>obtain⟨l,hl,rfl⟩:=h;unfold af at *;obtain⟨cs,h1,h2⟩:=hd;exact⟨cs,h1,sgs _ _ _ hl h2⟩
   case ints k n ws=>subst h;unfold af at *;exact hd
   case bg vs=>obtain⟨l,hl,rfl⟩:=h;unfold af at *;obtain⟨us,h1,h2⟩:=hd;exact⟨us,h1,lst _ _ _ hl h2⟩
   case fn f da=>obtain⟨l,hl,rfl⟩:=h;unfold af at *;obtain⟨us,h1,h2⟩:=hd;exact⟨us,h1,lst _ _ _ hl h2⟩
   case mQ f da=>obtain⟨l,hl,rfl⟩:=h;unfold af at *;obtain⟨us,h1,h2⟩:=hd;exact⟨us,h1,lst _ _ _ hl h2⟩
   case ag id=>obtain⟨j,hg,rfl⟩:=h;unfold af at *;exact apJ hg hd
   case tag id=>obtain⟨j,hg,rfl⟩:=h;unfold af at *;exact apK hg hd
  ·cases a<;>simp only[rn,Option.map_eq_some_iff,Option.some.injEq,reduceCtorEq]at h
   case s x=>subst h;unfold aN at *;obtain⟨u,h1,h2⟩:=hd;exact⟨u,h1,(h2.less E.fz).uz⟩
   case ptr id off=>obtain⟨j,hg,rfl⟩:=h;unfold aN at *;obtain⟨u,h1,h2⟩:=hd;exact⟨u,h1,apI hg h2⟩
   case jd id off n i=>obtain⟨j,hg,rfl⟩:=h;unfold aN at *;obtain⟨u,h1,h2⟩:=hd;exact⟨u,h1,alH hg h2⟩
   case iK c m j=>subst h;unfold aN at *;obtain⟨u,h1,h2⟩:=hd;exact⟨u,h1,alI h2⟩
   case vec id=>obtain⟨j,hg,rfl⟩:=h;unfold aN at *;obtain⟨u,h1,h2⟩:=hd;exact⟨u,h1,apG hg h2⟩
   case fR id i j=>obtain⟨l,hg,rfl⟩:=h;unfold aN at *;obtain⟨u,h1,h2⟩:=hd;exact⟨u,h1,alE hg h2⟩
   case part id lo n=>obtain⟨l,hg,rfl⟩:=h;unfold aN at *;obtain⟨u,h1,h2⟩:=hd;exact⟨u,h1,alF hg h2⟩
   case sub id off n=>obtain⟨l,hg,rfl⟩:=h;unfold aN at *;obtain⟨u,h1,h2⟩:=hd;exact⟨u,h1,apH hg h2⟩
   case jz id i j n=>obtain⟨l,hg,rfl⟩:=h;unfold aN at *;obtain⟨u,h1,h2⟩:=hd;exact⟨u,h1,alG hg h2⟩
   case emp=>subst h;unfold aN at *;exact hd
   case agg ao=>unfold aN at hd;exact hd.elim
   case ints k n ws=>subst h;unfold aN at *;exact hd
   case bg vs=>unfold aN at hd;exact hd.elim
   case fn f da=>obtain⟨l,hl,rfl⟩:=h;unfold aN at *;obtain⟨u,h1,us,h2,h3⟩:=hd;exact⟨u,h1,us,h2,lst _ _ _ hl h3⟩
   case mQ f da=>obtain⟨l,hl,rfl⟩:=h;unfold aN at *;obtain⟨u,h1,us,h2,h3⟩:=hd;exact⟨u,h1,us,h2,lst _ _ _ hl h3⟩
   case ag id=>obtain⟨j,hg,rfl⟩:=h;unfold aN at *;obtain⟨u,h1,h2⟩:=hd;exact⟨u,h1,apJ hg h2⟩
   case tag id=>obtain⟨j,hg,rfl⟩:=h;unfold aN at *;obtain⟨u,h1,h2⟩:=hd;exact⟨u,h1,apK hg h2⟩
theorem rJ(E:Emb g ρ H O aF H' O'){d:Nat}:∀{aJ dj:List AV} {vs:List Value},allM (rn g d) aJ=some dj→bI ρ H O w aJ vs→bI aF H' O' w dj vs
 |[],dj,vs,h,hd=>by simp only[allM,Option.some.injEq]at h;subst h;rw[aU.1 hd];exact aU.2 rfl
 |a::aJ,dj,vs,h,hd=>by
  obtain⟨b,bs,h1,h2,rfl⟩:=allM_cons h;obtain⟨v,rest,rfl,h3,h4⟩:=aA.1 hd;exact aA.2 ⟨v,rest,rfl,(s5 E d).1 a b v h1 h3,rJ E h2 h4⟩
theorem s7(E:Emb g ρ H O aF H' O'){d:Nat}:∀{aJ dj:List AV} {cs:List Value},allM (rn g d) aJ=some dj→aq ρ H O w aJ cs→aq aF H' O' w dj cs
 |[],dj,vs,h,hd=>by simp only[allM,Option.some.injEq]at h;subst h;rw[aw.1 hd];exact aw.2 rfl
 |a::aJ,dj,vs,h,hd=>by
  obtain⟨b,bs,h1,h2,rfl⟩:=allM_cons h;obtain⟨c1,c2,rfl,h3,h4⟩:=ah.1 hd;exact ah.2 ⟨c1,c2,rfl,(s5 E d).2 a b c1 h1 h3,s7 E h2 h4⟩
theorem xw(E:Emb g ρ H O aF H' O'){o o':ab}{root:Value}(h:sZ g o=some o')(hs:gQ ρ H O w root o):gQ aF H' O' w root o':=by
 cases o with
 |dead=>simp only[sZ,Option.some.injEq]at h;subst h;trivial
 |map ck m=>simp only[sZ,Option.some.injEq]at h;subst h;exact hs
 |gK ck m gid=>
  obtain⟨b,es,clock,h0,h1,h2,h3,h4⟩:=hs;simp only[sZ]at h;split at h
  ·rename_i j hj;simp only[Option.some.injEq]at h;subst h;obtain⟨e1,e2⟩:=E.id _ _ hj;obtain⟨o,ho⟩:=Option.isSome_iff_exists.1 h4;obtain⟨o',dg,_⟩:=e2 o ho;exact⟨b,es,clock,h0,h1,h2,by rw[e1];exact h3,by rw[dg];rfl⟩
  ·simp only[Option.some.injEq]at h;subst h;exact⟨b,es,clock,h0,h1,h2⟩
 |iter mid gid ck left cur=>
  obtain⟨b,mb,es,clock,seen,h0,h1,h2,h3,h4,h5,h6⟩:=hs;simp only[sZ]at h;split at h
  ·rename_i i j hi hj;simp only[Option.some.injEq]at h;subst h;obtain⟨e1,e2⟩:=E.id _ _ hj;obtain⟨o,ho⟩:=Option.isSome_iff_exists.1 h4;obtain⟨o',dg,_⟩:=e2 o ho;obtain⟨e3,e4⟩:=E.id _ _ hi;obtain⟨p,hp⟩:=Option.isSome_iff_exists.1 h6;obtain⟨p',wT,_⟩:=e4 p hp;exact⟨b,mb,es,clock,seen,h0,h1,h2,by rw[e1];exact h3,by rw[dg];rfl,by rw[e3];exact h5,by rw[wT];rfl⟩
  ·cases h
 |own ao e=>
  simp only[sZ,Option.map_eq_some_iff]at h;obtain⟨l,hl,rfl⟩:=h;obtain⟨b,cells,fr,h0,h1,h2,h3⟩:=hs;exact⟨b,cells,fr,h0,h1,h2,s7 E hl h3⟩
 |vec c e=>
  simp only[sZ,Option.some.injEq]at h;subst h;obtain⟨r,cap,h0,h1,h2,h3⟩:=hs;refine⟨r,cap,h0,h1,h2,h3.imp id ?_⟩;rintro⟨b,f,cells,fr,us,h4,h5,h6,h7,h8⟩;exact⟨b,f,cells,fr,us,h4,h5,h6,h7,fun i j hi hj=>⟨(h8 i j hi hj).1,(h8 i j hi hj).2.less E.fz⟩⟩
theorem cF{o o':ab}(h:sZ g o=some o'):o'.alive=o.alive∧∀c e,o'=.vec c e→o=.vec c e:=by
 cases o with
 |dead=>simp only[sZ,Option.some.injEq]at h;subst h;exact⟨rfl,fun c e hc=>by cases hc⟩
 |map ck m=>simp only[sZ,Option.some.injEq]at h;subst h;exact⟨rfl,fun c e hc=>by cases hc⟩
 |gK ck m gid=>
  simp only[sZ]at h;split at h<;>simp only[Option.some.injEq]at h<;>subst h<;>exact⟨rfl,fun c e hc=>by cases hc⟩
 |iter mid gid ck left cur=>
  simp only[sZ]at h;split at h
  ·simp only[Option.some.injEq]at h;subst h;exact⟨rfl,fun c e hc=>by cases hc⟩
  ·cases h
 |own ao e=>
  simp only[sZ,Option.map_eq_some_iff]at h;obtain⟨l,hl,rfl⟩:=h;exact⟨rfl,fun c e hc=>by cases hc⟩
 |vec c e=>simp only[sZ,Option.some.injEq]at h;subst h;exact⟨rfl,fun c e hc=>hc⟩
def agt:List Nat→Nat→Nat→Option Nat
 |[],_,_=>none
 |x::xs,k,id=>bif x.beq id then some k else agt xs (k+1) id
def idx(σ:List Nat)(id:Nat):Option Nat:=agt σ 0 id
def oV(σ:List Nat)(L:List ab):Option (List ab):=allM (fun id=>match L[id]? with|some o=>sZ (idx σ) o|none=>none) σ
def qn:List Nat→Bool
 |[]=>true
 |x::xs=> !(xs.any (x.beq ·))&&qn xs
theorem vK:∀{σ:List Nat} {k id j:Nat},agt σ k id=some j→k≤j∧σ[j - k]? =some id
 |[],k,id,j,h=>by simp[agt]at h
 |x::xs,k,id,j,h=>by
  simp only[agt,Bool.cond_eq_ite]at h;split at h
  ·rename_i hx;obtain rfl:x=id:=Nat.eq_of_beq_eq_true hx;obtain rfl:k=j:=by simpa using h
   exact⟨Nat.le_refl _,by simp⟩
  ·obtain⟨h1,h2⟩:=vK h;refine⟨by omega, ?_⟩;rw[show j - k=(j - (k+1))+1 from by omega];simpa using h2
theorem zj{σ:List Nat}{id j:Nat}(h:idx σ id=some j):σ[j]? =some id:=by simpa using(vK h).2
theorem jH:∀{σ:List Nat},qn σ=true→σ.Nodup
 |[],_=>.nil
 |x::xs,h=>by
  simp only[qn,Bool.and_eq_true,Bool.not_eq_true',List.any_eq_false]at h;refine List.nodup_cons.2 ⟨fun hm=> ?_,jH h.2⟩;have:=h.1 x hm;simp at this
theorem m7{σ:List Nat}{L L':List ab}(h:oV σ L=some L'){j:Nat}{o':ab}(hj:L'[j]? =some o'):∃(id:Nat) (o:ab),σ[j]? =some id∧L[id]? =some o∧sZ (idx σ) o=some o':=by
 have hlen:=gj h;have bm:j<σ.length:=by rw[←hlen];exact(List.getElem?_eq_some_iff.1 hj).1
 obtain⟨b,h1,h2⟩:=fK h j σ[j] (List.getElem?_eq_getElem bm);rw[hj]at h2;simp only[Option.some.injEq]at h2;subst h2;split at h1
 ·rename_i o ho;exact⟨σ[j],o,List.getElem?_eq_getElem bm,ho,h1⟩
 ·cases h1
theorem zk{σ:List Nat}{L L':List ab}(h:oV σ L=some L'){j id:Nat}(hj:σ[j]? =some id):∃o o',L[id]? =some o∧sZ (idx σ) o=some o'∧L'[j]? =some o':=by
 obtain⟨b,h1,h2⟩:=fK h j id hj;split at h1
 ·rename_i o ho;exact⟨o,b,ho,h1,h2⟩
 ·cases h1
def pull(σ:List Nat)(ρ:Nat→Value):Nat→Value:=fun j=>ρ (σ.getD j 0)
theorem oW{σ:List Nat}{L L':List ab}(hv:oV σ L=some L'){b:Nat}(h:Own (pull σ ρ) (fun j=>L'[j]?) b):∃(j id:Nat) (o:ab),σ[j]? =some id∧L[id]? =some o∧o.alive=true∧eg (ρ id)=some b:=by
 obtain⟨j,o',dg,ha,hb⟩:=h;obtain⟨id,o,h1,h2,h3⟩:=m7 hv dg;have:pull σ ρ j=ρ id:=by simp[pull,List.getD,h1]
 rw[this]at hb;exact⟨j,id,o,h1,h2,by rw[←(cF h3).1];exact ha,hb⟩
theorem qo{σ:List Nat}{L L':List ab}{G':Nat→Prop}(hs:Sat ρ (fun i=>L[i]?) G w)(hn:σ.Nodup)(hv:oV σ L=some L')(hG:∀b,G' b→aP ρ (fun i=>L[i]?) G b)(hap:∀b,Own (pull σ ρ) (fun j=>L'[j]?) b→¬G' b):
 Sat (pull σ ρ) (fun j=>L'[j]?) G' w∧Emb (idx σ) ρ (fun i=>L[i]?) (aP ρ (fun i=>L[i]?) G) (pull σ ρ) (fun j=>L'[j]?) (aP (pull σ ρ) (fun j=>L'[j]?) G'):=by
 have mC:∀{j id:Nat},σ[j]? =some id→pull σ ρ j=ρ id:=fun h1=>by simp[pull,List.getD,h1]
 have E:Emb (idx σ) ρ (fun i=>L[i]?) (aP ρ (fun i=>L[i]?) G) (pull σ ρ) (fun j=>L'[j]?) (aP (pull σ ρ) (fun j=>L'[j]?) G'):=by
  refine⟨fun i j kP=> ?_,fun b hb=> ?_⟩
  ·have h1:=zj kP;refine⟨mC h1,fun o ho=> ?_⟩;obtain⟨o1,o',h2,h3,h4⟩:=zk hv h1;rw[show L[i]? =some o from ho]at h2;simp only[Option.some.injEq]at h2;subst h2;exact⟨o',h4,(cF h3).2⟩
  ·rcases hb with hb|hb
   ·obtain⟨j,id,o,h1,h2,h3,h4⟩:=oW hv hb;exact .inl ⟨id,o,h2,h3,h4⟩
   ·exact hG b hb
 refine⟨⟨fun j o' dg=> ?_,fun i j oi oj b hi hj ai aj bi bj=> ?_,hap,fun b hb=>wU hs (hG b hb)⟩,E⟩
 ·obtain⟨id,o,h1,h2,h3⟩:=m7 hv dg;rw[mC h1];exact xw E h3 (hs.obj id o h2)
 ·obtain⟨id,o,h1,h2,h3⟩:=m7 hv hi;obtain⟨id',o',h1',h2',h3'⟩:=m7 hv hj;rw[mC h1]at bi;rw[mC h1']at bj;have:=hs.inj id id' o o' b h2 h2' (by rw[←(cF h3).1];exact ai) (by rw[←(cF h3').1];exact aj) bi bj;subst this;have eF:=List.getElem?_eq_some_iff.1 h1;have iP:=List.getElem?_eq_some_iff.1 h1';obtain⟨hi1,hi2⟩:=eF;obtain⟨hj1,rI⟩:=iP;exact(List.getElem_inj hn).1 (hi2.trans rI.symm)
theorem vL{σ:List Nat}{L L':List ab}{ρ0:Nat→Value}{H0:aM}{O0:Nat→Prop}{w0:World}{m:Nat}(hs:Sat ρ (fun i=>L[i]?) G w)(hn:σ.Nodup)(hv:oV σ L=some L')(aeC:∀i,i<m→σ[i]? =some i)(h0:∀id,m≤id→H0 id=none)
 (st:Step ρ0 H0 O0 w0 ρ (fun i=>L[i]?) (aP ρ (fun i=>L[i]?) G) w):Step ρ0 H0 O0 w0 (pull σ ρ) (fun j=>L'[j]?) (aP (pull σ ρ) (fun j=>L'[j]?) G) w:=by
 have E:=(qo (G':=G) hs hn hv (fun b hb=>.inr hb) (fun b hb=>by
  obtain⟨j,id,o,h1,h2,h3,h4⟩:=oW hv hb;exact hs.apart b ⟨id,o,h2,h3,h4⟩)).2
 have bm:∀{id:Nat} {o:ab},H0 id=some o→id<m:=fun{id o} h=>by
  rcases Nat.lt_or_ge id m with h1|h1
  ·exact h1
  ·rw[h0 id h1]at h;cases h
 refine⟨fun id o ho=> ?_,fun id o ho=> ?_,fun b hb=>st.fz b (E.fz b hb),st.heap,st.size⟩
 ·rw[show pull σ ρ id=ρ id from by simp[pull,List.getD,aeC id (bm ho)]];exact st.r5 id o ho
 ·obtain⟨o1,h1,h2⟩:=st.dO id o ho;obtain⟨o2,o',h3,h4,h5⟩:=zk hv (aeC id (bm ho));rw[show L[id]? =some o1 from h1]at h3;simp only[Option.some.injEq]at h3;subst h3;exact⟨o',h5,fun c e hc=>h2 c e ((cF h4).2 c e hc)⟩
theorem Good.view{σ:List Nat}{L L':List ab}{m d:Nat}{r r':AV}{v:Value}(h:Good ρ H G w (fun i=>L[i]?) r v w')(hn:σ.Nodup)(hv:oV σ L=some L')(aeC:∀i,i<m→σ[i]? =some i)(h0:∀id,m≤id→H id=none)(hr:rn (idx σ) d r=some r'):
 Good ρ H G w (fun i=>L'[i]?) r' v w':=by
 obtain⟨aF,h1,h2,h3,h4⟩:=h
 obtain⟨h5,h6⟩:=qo (G':=G) h1 hn hv (fun b hb=>.inr hb) (fun b hb=>by
  obtain⟨j,id,o,h1',h2,h3,h4⟩:=oW hv hb;exact h1.apart b ⟨id,o,h2,h3,h4⟩)
 exact⟨pull σ aF,h5,(s5 h6 d).1 r r' v hr h2,vL h1 hn hv aeC h0 h3,h4⟩
theorem bY.view{σ:List Nat}{tmps qZ:List AV}{L L':List ab}{m d:Nat}(h:bY X ρ ⟨tmps,L⟩ a w)(hn:σ.Nodup)(hv:oV σ L=some L')(aeC:∀i,i<m→σ[i]? =some i)(h0:∀id,m≤id→X.H id=none)(ht:allM (rn (idx σ) d) tmps=some qZ):
 bY X (pull σ ρ) ⟨qZ,L'⟩ a w:=by
 have hs:Sat ρ (fun i=>L[i]?) X.G w:=h.sat
 obtain⟨h5,h6⟩:=qo (G':=X.G) hs hn hv (fun b hb=>.inr hb) (fun b hb=>by
  obtain⟨j,id,o,h1',h2,h3,h4⟩:=oW hv hb;exact hs.apart b ⟨id,o,h2,h3,h4⟩)
 refine⟨h5,by rw[←h.size];exact gj ht,fun t=> ?_,h.defers,vL hs hn hv aeC h0 h.from_,h.ix,h.kept⟩;have hd:=h.den t;simp only[]at hd ⊢;rcases Nat.lt_or_ge t tmps.length with bm|hge
 ·obtain⟨b,h1,h2⟩:=fK ht t tmps[t] (List.getElem?_eq_getElem bm);have e1:tmps.getD t (.s .aR)=tmps[t]:=by simp[List.getD,bm]
  have e2:qZ.getD t (.s .aR)=b:=by simp[List.getD,h2]
  rw[e1]at hd;rw[e2];exact(s5 h6 d).1 _ _ _ h1 hd
 ·have e2:qZ.getD t (.s .aR)=.s .aR:=by
   have:=gj ht;simp[List.getD,List.getElem?_eq_none (show qZ.length≤t by omega)]
  rw[e2];unfold af;trivial
def dR(ks:List Nat):Nat→List AV→List AV
 |_,[]=>[]
 |i,a::aJ=>(bif ks.any (i.beq ·)then a else .s .aR)::dR ks (i+1) aJ
theorem lI(ks:List Nat):∀(i:Nat) (aJ:List AV),(dR ks i aJ).length=aJ.length
 |_,[]=>rfl
 |i,a::aJ=>by simp[dR,lI ks (i+1) aJ]
theorem oX(ks:List Nat):∀(i:Nat) (aJ:List AV) (t:Nat),(dR ks i aJ).getD t (.s .aR)=aJ.getD t (.s .aR)∨(dR ks i aJ).getD t (.s .aR)=.s .aR
 |_,[],t=>.inl rfl
 |i,a::aJ,0=>by
  simp only[dR,List.getD_cons_zero];cases ks.any (i.beq ·)
  ·exact .inr rfl
  ·exact .inl rfl
 |i,a::aJ,t+1=>by
  simp only[dR,List.getD_cons_succ];exact oX ks (i+1) aJ t
theorem bY.dR{tmps:List AV}{L:List ab}(ks:List Nat)(h:bY X ρ ⟨tmps,L⟩ a w):bY X ρ ⟨dR ks 0 tmps,L⟩ a w:=by
 refine⟨h.sat,by rw[←h.size];exact lI ks 0 tmps,fun t=> ?_,h.defers,h.from_,h.ix,h.kept⟩;rcases oX ks 0 tmps t with h1|h1
 ·simp only[];rw[h1];exact h.den t
 ·simp only[];rw[h1];unfold af;trivial
def m8(c:aL)(e:TypeId)(t:Nat)(tmps:List AV)(L:List ab):List AV×List ab:=
 match tmps.getD t (.s .aR)with
 |.emp=>bif c.n.beq 0 then(tmps.set t (.vec L.length),L++[.vec c e])else(tmps,L)
 |_=>(tmps,L)
theorem Step.alloc{v:Value}{c:aL}{e:TypeId}{L:List ab}(hb:eg v=none):
 Step ρ (fun i=>L[i]?) (aP ρ (fun i=>L[i]?) G) w (fun j=>if j=L.length then v else ρ j) (fun i=>(L++[.vec c e])[i]?) (aP (fun j=>if j=L.length then v else ρ j) (fun i=>(L++[.vec c e])[i]?) G) w:=by
 have bm:∀{id:Nat} {o:ab},L[id]? =some o→id<L.length:=fun h=>(List.getElem?_eq_some_iff.1 h).1;refine⟨fun id o ho=> ?_,fun id o ho=> ?_,fun b rl=>.inl ?_,fun _ _ _=>rfl,Nat.le_refl _⟩
 ·have:=bm ho;rw[if_neg (by omega)]
 ·have h1:=bm ho;exact⟨o,by show(L++[.vec c e])[id]? =_;rw[List.getElem?_append_left h1];exact ho,fun c' e' hc=>⟨c',e',hc,rfl,rfl⟩⟩
 ·rcases rl with⟨id,o,ho,ha,hbl⟩|hg
  ·by_cases de:id=L.length
   ·simp only[de,if_true]at hbl;rw[hb]at hbl;cases hbl
   ·simp only[de,if_false]at hbl
    have dg:L[id]? =some o:=by
     have h2:=(List.getElem?_eq_some_iff.1 ho).1;simp only[List.length_append,List.length_cons,List.length_nil]at h2;have h3:id<L.length:=by omega
     have h4:(L++[.vec c e])[id]? =L[id]? :=List.getElem?_append_left h3;rw[←h4];exact ho
    exact .inl ⟨id,o,dg,ha,hbl⟩
  ·exact .inr hg
theorem bY.m8{c:aL}{e:TypeId}{t:Nat}{tmps:List AV}{L:List ab}(h:bY X ρ ⟨tmps,L⟩ a w):∃aF,bY X aF ⟨(m8 c e t tmps L).1,(m8 c e t tmps L).2⟩ a w:=by
 unfold Sx.m8;split
 ·rename_i he;rw[Bool.cond_eq_ite];split
  ·rename_i hc;have hc:c.n=0:=Nat.eq_of_beq_eq_true hc;have hd:=h.den t;simp only[]at hd;rw[he]at hd;unfold af at hd;obtain⟨r,hv⟩:=hd;have kI:eg (.slice r 0 0)=none:=by cases r<;>simp[eg]
   let aF:Nat→Value:=fun j=>if j=L.length then .slice r 0 0 else ρ j
   have st:Step ρ (fun i=>L[i]?) (aP ρ (fun i=>L[i]?) X.G) w aF (fun i=>(L++[.vec c e])[i]?) (aP aF (fun i=>(L++[.vec c e])[i]?) X.G) w:=Step.alloc kI;have hs:Sat ρ (fun i=>L[i]?) X.G w:=h.sat
   have old:∀{id:Nat} {o:ab},(L++[.vec c e])[id]? =some o→(id=L.length∧o=.vec c e)∨(id≠L.length∧L[id]? =some o):=by
    intro id o ho;have h2:=(List.getElem?_eq_some_iff.1 ho).1;simp only[List.length_append,List.length_cons,List.length_nil]at h2;by_cases de:id=L.length
    ·subst de;simp at ho;exact .inl ⟨rfl,ho.symm⟩
    ·refine .inr ⟨de, ?_⟩;rwa[List.getElem?_append_left (by omega)]at ho
   have dC:∀b,Own aF (fun i=>(L++[.vec c e])[i]?) b→Own ρ (fun i=>L[i]?) b:=by
    rintro b ⟨id,o,ho,ha,hb⟩;rcases old ho with⟨h1,h2⟩|⟨h1,h2⟩
    ·simp only[aF,h1,if_true]at hb;rw[kI]at hb;cases hb
    ·simp only[aF,h1,if_false]at hb;exact⟨id,o,h2,ha,hb⟩
   refine⟨aF,⟨⟨fun id o ho=> ?_,fun i j oi oj b hi hj ai aj bi bj=> ?_,fun b hb=>hs.apart b (dC b hb),hs.low⟩,by simpa using h.size,fun u=> ?_,h.defers, ?_,h.ix,h.kept⟩⟩
   ·rcases old ho with⟨h1,h2⟩|⟨h1,h2⟩
    ·subst h2;simp only[aF,h1,if_true];exact⟨r,0,by rw[hc],by omega,Nat.zero_le _,.inl rfl⟩
    ·simp only[aF,h1,if_false];exact(hs.obj id o h2).step st (fun _ _ _=>rfl)
   ·rcases old hi with⟨h1,h2⟩|⟨h1,h2⟩
    ·simp only[aF,h1,if_true]at bi;rw[kI]at bi;cases bi
    ·rcases old hj with⟨h3,h4⟩|⟨h3,h4⟩
     ·simp only[aF,h3,if_true]at bj;rw[kI]at bj;cases bj
     ·simp only[aF,h1,if_false]at bi;simp only[aF,h3,if_false]at bj;exact hs.inj i j oi oj b h2 h4 ai aj bi bj
   ·simp only[];rw[cK];split
    ·rename_i hu;obtain⟨rfl,_⟩:=hu;rw[hv];unfold af aD;refine⟨rfl,.vec c e,by simp[St.look],fun c' e' _=> ?_⟩;exact(if_pos rfl).symm
    ·exact af.step st _ _ (h.den u)
   ·exact h.from_.trans st
  ·exact⟨ρ,h⟩
 ·exact⟨ρ,h⟩
def acT:Nat→AV→List Nat
 |0,_=>[]
 |d+1,a=>match a with
  |.ptr id _|.jd id _ _ _|.vec id|.fR id _ _|.part id _ _|.ag id|.tag id|.sub id _ _|.jz id _ _ _=>[id]
  |.agg aJ|.bg aJ|.fn _ aJ|.mQ _ aJ=>aJ.flatMap (acT d)
  |_=>[]
def agu:Option ab→List Nat
 |some (.own ao _)=>ao.flatMap (acT 20)
 |some (.iter mid gid _ _ _)=>[mid,gid]
 |_=>[]
def reach(L:List ab):Nat→List Nat→List Nat→List Nat
 |0,_,acc=>acc
 |_,[],acc=>acc
 |n+1,id::todo,acc=>bif acc.any (id.beq ·)then reach L n todo acc else reach L n (todo++agu L[id]?) (acc++[id])
def anj(m:Nat)(σ:List Nat):Bool:=(List.range m).all fun i=>match σ[i]? with|some j=>i.beq j|none=>false
structure Norm where
 nH:List (Nat×aL×TypeId)
 dO:List Nat
 m:Nat
 cells:List (Nat×Nat×Bool×aL×TypeId)
def fL:List (Nat×aL×TypeId)→List AV→List ab→List AV×List ab
 |[],tmps,L=>(tmps,L)
 |(t,c,e)::ns,tmps,L=>let p:=m8 c e t tmps L;fL ns p.1 p.2
def oY(id j:Nat)(c:aL)(e:TypeId)(L:List ab):List ab:=
 match L[id]? with
 |some (.own ao e0)=>(match ao[j]? with
  |some .emp=>bif c.n.beq 0 then L.set id (.own (ao.set j (.vec L.length)) e0)++[.vec c e]else L
  |_=>L)
 |_=>L
def s8(id j:Nat)(c:aL)(L:List ab):List ab:=
 match L[id]? with
 |some (.own ao e0)=>(match ao[j]? with
  |some .emp=>bif c.n.beq 0 then L.set id (.own (ao.set j (.s (.ro c))) e0)else L
  |_=>L)
 |_=>L
def oZ(id j:Nat)(L:List ab):List ab:=
 match L[id]? with
 |some (.own ao e0)=>(match ao[j]? with
  |some (.vec v)=>(match L[v]? with
   |some (.vec c _)=>(L.set v .dead).set id (.own (ao.set j (.s (.ro c))) e0)
   |_=>L)
  |_=>L)
 |_=>L
def fM:List (Nat×Nat×Bool×aL×TypeId)→List ab→List ab
 |[],L=>L
 |(id,j,ro,c,e)::ns,L=>fM ns (bif ro then oZ id j (s8 id j c L)else oY id j c e L)
def roots(L:List ab)(m:Nat)(tmps:List AV):List Nat:=
 reach L 4000 ((List.range m).flatMap (fun i=>agu L[i]?)++tmps.flatMap (acT 20)) (List.range m)
def fq(m:Nat)(tmps:List AV)(L:List ab):Option (List AV×List ab):=
 let σ:=roots L m tmps
 bif qn σ&&anj m σ then
  match oV σ L,allM (rn (idx σ) 20) tmps with
  |some L',some qZ=>some (qZ,L')
  |_,_=>none
 else none
def Norm.run(N:Norm)(c:bw):Option bw:=
 match fq N.m (dR N.dO 0 c.tmps) c.H with
 |some (t1,L1)=>
  let p:=fL N.nH t1 L1
  (match fq N.m p.1 (fM N.cells p.2)with
  |some (t2,L2)=>some ⟨t2,L2,c.todo,c.stk⟩
  |none=>none)
 |none=>none
theorem s9:∀(ao:List AV) (j:Nat) {cells:List Value},ao[j]? =some .emp→aq ρ H O w ao cells→
 ∃r,∀(aF:Nat→Value) (H':aM) (O':Nat→Prop) (x:AV),(∀a cs,aN ρ H O w a cs→aN aF H' O' w a cs)→aN aF H' O' w x [.slice r 0 0]→aq aF H' O' w (ao.set j x) cells
 |[],j,cells,h,hd=>by simp at h
 |a::aJ,0,cells,h,hd=>by
  simp only[List.getElem?_cons_zero,Option.some.injEq]at h;subst h;obtain⟨c1,c2,rfl,h1,h2⟩:=ah.1 hd;unfold aN at h1;obtain⟨u,rfl,r,rfl⟩:=h1;refine⟨r,fun aF H' O' x hs hx=> ?_⟩;simp only[List.set_cons_zero];refine ah.2 ⟨_,c2,rfl,hx, ?_⟩;clear hd
  induction aJ generalizing c2 with
  |nil=>rw[aw.1 h2];exact aw.2 rfl
  |cons b bs ih=>
   obtain⟨d1,d2,rfl,h3,h4⟩:=ah.1 h2;exact ah.2 ⟨d1,d2,rfl,hs _ _ h3,ih d2 h4⟩
 |a::aJ,j+1,cells,h,hd=>by
  obtain⟨c1,c2,rfl,h1,h2⟩:=ah.1 hd;obtain⟨r,h3⟩:=s9 aJ j (by simpa using h) h2;refine⟨r,fun aF H' O' x hs hx=> ?_⟩;simp only[List.set_cons_succ];exact ah.2 ⟨c1,c2,rfl,hs _ _ h1,h3 aF H' O' x hs hx⟩
theorem bY.oY{id j:Nat}{c:aL}{e:TypeId}{tmps:List AV}{L:List ab}(h:bY X ρ ⟨tmps,L⟩ a w):∃aF,bY X aF ⟨tmps,oY id j c e L⟩ a w:=by
 unfold Sx.oY;split
 ·rename_i ao e0 de;split
  ·rename_i hj;rw[Bool.cond_eq_ite];split
   ·rename_i hc;have hc:c.n=0:=Nat.eq_of_beq_eq_true hc;have hs:Sat ρ (fun i=>L[i]?) X.G w:=h.sat;obtain⟨b,cells,fr,h0,h1,h2,h3⟩:=hs.obj id _ de;obtain⟨r,l5⟩:=s9 ao j hj h3;have kI:eg (.slice r 0 0)=none:=by cases r<;>simp[eg]
    have bm:id<L.length:=(List.getElem?_eq_some_iff.1 de).1;let aF:Nat→Value:=fun k=>if k=L.length then .slice r 0 0 else ρ k
    let L':=L.set id (.own (ao.set j (.vec L.length)) e0)++[.vec c e]
    have old:∀{k:Nat} {o:ab},L'[k]? =some o→(k=L.length∧o=.vec c e)∨(k=id∧k≠L.length∧o=.own (ao.set j (.vec L.length)) e0)∨(k≠L.length∧k≠id∧L[k]? =some o):=by
     intro k o ho;have h2:=(List.getElem?_eq_some_iff.1 ho).1;simp only[L',List.length_append,List.length_set,List.length_cons,List.length_nil]at h2;by_cases hk:k=L.length
     ·subst hk;simp only[L']at ho;rw[List.getElem?_append_right (by simp)]at ho;simp at ho;exact .inl ⟨rfl,ho.symm⟩
     ·simp only[L']at ho;rw[List.getElem?_append_left (by simp;omega),List.getElem?_set]at ho;split at ho
      ·rename_i zg;exact .inr (.inl ⟨zg.symm,hk,by simpa using ho.symm⟩)
      ·rename_i zg;exact .inr (.inr ⟨hk,Ne.symm zg,ho⟩)
    have new:∀{k:Nat} {o:ab},L[k]? =some o→∃o',L'[k]? =some o'∧(∀c' e',o'=.vec c' e'→o=.vec c' e'):=by
     intro k o ho;have hk:k<L.length:=(List.getElem?_eq_some_iff.1 ho).1;by_cases zg:k=id
     ·subst zg;refine⟨.own (ao.set j (.vec L.length)) e0, ?_,fun c' e' hc=>by cases hc⟩;simp only[L'];rw[List.getElem?_append_left (by simpa using hk),List.getElem?_set_self hk]
     ·refine⟨o, ?_,fun c' e' hc=>hc⟩;simp only[L'];rw[List.getElem?_append_left (by simpa using hk),List.getElem?_set_ne (Ne.symm zg)];exact ho
    have dC:∀b,Own aF (fun i=>L'[i]?) b→Own ρ (fun i=>L[i]?) b:=by
     rintro b ⟨k,o,ho,ha,hb⟩;rcases old ho with⟨h1,h2⟩|⟨h1,h2,h3⟩|⟨h1,h2,h3⟩
     ·simp only[aF,h1,if_true]at hb;rw[kI]at hb;cases hb
     ·simp only[aF,h2,if_false]at hb;exact⟨id,_,de,rfl,h1▸hb⟩
     ·simp only[aF,h1,if_false]at hb;exact⟨k,o,h3,ha,hb⟩
    have st:Step ρ (fun i=>L[i]?) (aP ρ (fun i=>L[i]?) X.G) w aF (fun i=>L'[i]?) (aP aF (fun i=>L'[i]?) X.G) w:=by
     refine⟨fun k o ho=> ?_,fun k o ho=> ?_,fun b hb=>.inl ?_,fun _ _ _=>rfl,Nat.le_refl _⟩
     ·have hk:k<L.length:=(List.getElem?_eq_some_iff.1 ho).1;simp only[aF];rw[if_neg (by omega)]
     ·obtain⟨o',h4,h5⟩:=new ho;exact⟨o',h4,fun c' e' hc=>⟨c',e',h5 c' e' hc,rfl,rfl⟩⟩
     ·rcases hb with hb|hb
      ·exact .inl (dC b hb)
      ·exact .inr hb
    have qp:aD aF (fun i=>L'[i]?) (aP aF (fun i=>L'[i]?) X.G) w (.vec L.length) (.slice r 0 0):=by
     unfold aD;refine⟨rfl,.vec c e, ?_,fun c' e' _=>(if_pos rfl).symm⟩;simp only[L'];rw[List.getElem?_append_right (by simp)];simp
    refine⟨aF,⟨⟨fun k o ho=> ?_,fun i l oi ol b hi hl ai al bi bl=> ?_,fun b hb=>hs.apart b (dC b hb),hs.low⟩,h.size,fun u=>af.step st _ _ (h.den u),h.defers,h.from_.trans st,h.ix,h.kept⟩⟩
    ·rcases old ho with⟨g1,g2⟩|⟨g1,g2,g3⟩|⟨g1,g2,g3⟩
     ·subst g2;simp only[aF,g1,if_true];exact⟨r,0,by rw[hc],by omega,Nat.zero_le _,.inl rfl⟩
     ·subst g3;simp only[aF,g2,if_false];rw[g1,h0];exact⟨b,cells,fr,rfl,h1,h2,l5 aF _ _ _ (fun a cs hd=>aN.step st a cs hd) (by unfold aN;exact⟨_,rfl,qp⟩)⟩
     ·simp only[aF,g1,if_false];exact(hs.obj k o g3).step st (fun _ _ _=>rfl)
    ·have low:∀{k:Nat} {o:ab},L'[k]? =some o→o.alive=true→eg (aF k)=some b→∃o2,L[k]? =some o2∧o2.alive=true∧eg (ρ k)=some b:=by
      intro k o ho ha hb;rcases old ho with⟨g1,g2⟩|⟨g1,g2,g3⟩|⟨g1,g2,g3⟩
      ·simp only[aF,g1,if_true]at hb;rw[kI]at hb;cases hb
      ·simp only[aF,g2,if_false]at hb;exact⟨_,g1▸de,rfl,hb⟩
      ·simp only[aF,g1,if_false]at hb;exact⟨o,g3,ha,hb⟩
     obtain⟨o1,q1,q2,q3⟩:=low hi ai bi;obtain⟨o2,q4,q5,q6⟩:=low hl al bl;exact hs.inj i l o1 o2 b q1 q4 q2 q5 q3 q6
   ·exact⟨ρ,h⟩
  ·exact⟨ρ,h⟩
 ·exact⟨ρ,h⟩
theorem rK{c:aL}(hc:c.n=0)(r:Option Addr):aT O w (.ro c) (.slice r 0 0):=by
 have:=aT.ro (O:=O) (w:=w) c r 0 (fun _ _=>undef) 0 0 (by omega) (Nat.zero_le _) (fun h=>by omega) (fun i j hi hj=>by omega) (fun i j hi hj=>by omega);rwa[hc]at this
theorem bY.s8{id j:Nat}{c:aL}{tmps:List AV}{L:List ab}(h:bY X ρ ⟨tmps,L⟩ a w):bY X ρ ⟨tmps,s8 id j c L⟩ a w:=by
 unfold Sx.s8;split
 ·rename_i ao e0 de;split
  ·rename_i hj;rw[Bool.cond_eq_ite];split
   ·rename_i hc;have hc:c.n=0:=Nat.eq_of_beq_eq_true hc;have hs:Sat ρ (fun i=>L[i]?) X.G w:=h.sat;obtain⟨b,cells,fr,h0,h1,h2,h3⟩:=hs.obj id _ de;obtain⟨r,l5⟩:=s9 ao j hj h3;have bm:id<L.length:=(List.getElem?_eq_some_iff.1 de).1;let L':=L.set id (.own (ao.set j (.s (.ro c))) e0)
    have old:∀{k:Nat} {o:ab},L'[k]? =some o→(k=id∧o=.own (ao.set j (.s (.ro c))) e0)∨(k≠id∧L[k]? =some o):=by
     intro k o ho;simp only[L']at ho;rw[List.getElem?_set]at ho;split at ho
     ·rename_i zg;exact .inl ⟨zg.symm,by simpa using ho.symm⟩
     ·rename_i zg;exact .inr ⟨Ne.symm zg,ho⟩
    have dC:∀b,Own ρ (fun i=>L'[i]?) b→Own ρ (fun i=>L[i]?) b:=by
     rintro b ⟨k,o,ho,ha,hb⟩;rcases old ho with⟨h1,h2⟩|⟨h1,h2⟩
     ·exact⟨id,_,de,rfl,h1▸hb⟩
     ·exact⟨k,o,h2,ha,hb⟩
    have st:Step ρ (fun i=>L[i]?) (aP ρ (fun i=>L[i]?) X.G) w ρ (fun i=>L'[i]?) (aP ρ (fun i=>L'[i]?) X.G) w:=by
     refine⟨fun _ _ _=>rfl,fun k o ho=> ?_,fun b hb=>.inl ?_,fun _ _ _=>rfl,Nat.le_refl _⟩
     ·by_cases hk:k=id
      ·subst hk;refine⟨.own (ao.set j (.s (.ro c))) e0, ?_,fun c' e' hc=> ?_⟩
       ·show(L.set k _)[k]? =_;rw[List.getElem?_set_self bm]
       ·cases hc
      ·refine⟨o, ?_,fun c' e' hc=>⟨c',e',hc,rfl,rfl⟩⟩;show(L.set id _)[k]? =_;rw[List.getElem?_set_ne (Ne.symm hk)];exact ho
     ·rcases hb with hb|hb
      ·exact .inl (dC b hb)
      ·exact .inr hb
    refine⟨⟨fun k o ho=> ?_,fun i l oi ol b hi hl ai al bi bl=> ?_,fun b hb=>hs.apart b (dC b hb),hs.low⟩,h.size,fun u=>af.step st _ _ (h.den u),h.defers,h.from_.trans st,h.ix,h.kept⟩
    ·rcases old ho with⟨g1,g2⟩|⟨g1,g2⟩
     ·subst g2;rw[g1,h0];exact⟨b,cells,fr,rfl,h1,h2,l5 ρ _ _ _ (fun a cs hd=>aN.step st a cs hd) (by unfold aN;exact⟨_,rfl,rK hc r⟩)⟩
     ·exact(hs.obj k o g2).step st (fun _ _ _=>rfl)
    ·have low:∀{k:Nat} {o:ab},L'[k]? =some o→o.alive=true→∃o2,L[k]? =some o2∧o2.alive=true:=by
      intro k o ho ha;rcases old ho with⟨g1,g2⟩|⟨g1,g2⟩
      ·exact⟨_,g1▸de,rfl⟩
      ·exact⟨o,g2,ha⟩
     obtain⟨o1,q1,q2⟩:=low hi ai;obtain⟨o2,q4,q5⟩:=low hl al;exact hs.inj i l o1 o2 b q1 q4 q2 q5 bi bl
   ·exact h
  ·exact h
 ·exact h
theorem zl:∀(ao:List AV) (j:Nat) {cells:List Value} {a:AV},ao[j]? =some a→aq ρ H O w ao cells→
 ∃cs,aN ρ H O w a cs∧∀(aF:Nat→Value) (H':aM) (O':Nat→Prop) (x:AV),(∀a cs,aN ρ H O w a cs→aN aF H' O' w a cs)→aN aF H' O' w x cs→aq aF H' O' w (ao.set j x) cells
 |[],j,cells,a,h,hd=>by simp at h
 |b::aJ,0,cells,a,h,hd=>by
  simp only[List.getElem?_cons_zero,Option.some.injEq]at h;subst h;obtain⟨c1,c2,rfl,h1,h2⟩:=ah.1 hd;refine⟨c1,h1,fun aF H' O' x hs hx=> ?_⟩;simp only[List.set_cons_zero];refine ah.2 ⟨_,c2,rfl,hx, ?_⟩;clear hd
  induction aJ generalizing c2 with
  |nil=>rw[aw.1 h2];exact aw.2 rfl
  |cons b bs ih=>
   obtain⟨d1,d2,rfl,h3,h4⟩:=ah.1 h2;exact ah.2 ⟨d1,d2,rfl,hs _ _ h3,ih d2 h4⟩
 |b::aJ,j+1,cells,a,h,hd=>by
  obtain⟨c1,c2,rfl,h1,h2⟩:=ah.1 hd;obtain⟨cs,h3,h4⟩:=zl aJ j (by simpa using h) h2;refine⟨cs,h3,fun aF H' O' x hs hx=> ?_⟩;simp only[List.set_cons_succ];exact ah.2 ⟨c1,c2,rfl,hs _ _ h1,h4 aF H' O' x hs hx⟩
theorem aeD(hs:Sat ρ H G w){id:Nat}{c:aL}{e:TypeId}(ho:H id=some (.vec c e)):aT (aP ρ (ax H id .dead) G) w (.ro c) (ρ id):=by
 have dQ:=hs.obj id _ ho;obtain⟨a,cap,hr,h2,h3,h4⟩:=dQ;have agb:∀b,aP ρ (ax H id .dead) G b→aP ρ H G b:=fun b hb=>hb.imp fe (fun x=>x);rw[hr];by_cases hc:cap=0
 ·have h0:c.n=0:=by omega
  have:=aT.ro (O:=aP ρ (ax H id .dead) G) (w:=w) c a cap (fun _ _=>undef) 0 0 h2 h3 (fun h=>by omega) (fun i j hi hj=>by omega) (fun i j hi hj=>by omega);exact this
 ·obtain⟨b,o,cells,fr,us,rfl,g1,g2,g3,g4⟩:=h4.resolve_left hc;have kI:eg (ρ id)=some b:=by rw[hr];simp only[eg];rw[if_neg hc]
  refine aT.ro c _ cap us b o h2 h3 (fun _=>⟨rfl,fun hb=> ?_,(Array.getElem?_eq_some_iff.1 g1).1⟩) (fun i j hi hj=> ?_) (fun i j hi hj=> ?_)
  ·rcases hb with⟨j,x,hx,ha,hb⟩|hb
   ·by_cases hj:j=id
    ·subst hj;simp only[ax,if_true,Option.some.injEq]at hx;subst hx;cases ha
    ·simp only[ax,hj,if_false]at hx;exact hj (hs.inj j id x _ b hx ho ha rfl hb kI)
   ·exact hs.apart b ⟨id,_,ho,rfl,kI⟩ hb
  ·rw[dc g1];exact(g4 i j hi hj).1
  ·exact(g4 i j hi hj).2.less agb
theorem acU{L:List ab}{v:Nat}{o x:ab}(h:L[v]? =some o):(fun i=>(L.set v x)[i]?)=ax (fun i=>L[i]?) v x:=by
 funext i;simp only[ax,List.getElem?_set];by_cases hi:v=i
 ·subst hi;rw[if_pos rfl,if_pos rfl,if_pos (List.getElem?_eq_some_iff.1 h).1]
 ·rw[if_neg hi,if_neg (Ne.symm hi)]
theorem bY.oZ{id j:Nat}{tmps:List AV}{L:List ab}(h:bY X ρ ⟨tmps,L⟩ a w):bY X ρ ⟨tmps,oZ id j L⟩ a w:=by
 unfold Sx.oZ;split
 ·rename_i ao e0 de;split
  ·rename_i v hj;split
   ·rename_i c e hv;have cL:v≠id:=fun e1=>by rw[e1,de]at hv;cases hv
    have hs:Sat ρ (fun i=>L[i]?) X.G w:=h.sat;obtain⟨b,cells,fr,h0,h1,h2,h3⟩:=hs.obj id _ de;obtain⟨cs,hc,l5⟩:=zl ao j hj h3
    have nU:cs=[ρ v]:=by
     unfold aN at hc;obtain⟨u,rfl,hd⟩:=hc;unfold aD at hd;obtain⟨_,o,ho,hu⟩:=hd;rw[show o=.vec c e from by simpa[hv]using ho.symm]at hu;rw[hu _ _ rfl]
    have asN:(L.set v .dead)[id]? =some (.own ao e0):=by rw[List.getElem?_set_ne cL];exact de
    have hro:=aeD hs hv;have s1:=hs.kill hv;have vM:=eK (ρ:=ρ) (G:=X.G) (w:=w) (H:=fun i=>L[i]?) hv;show bY X ρ ⟨tmps,(L.set v .dead).set id (.own (ao.set j (.s (.ro c))) e0)⟩ a w
    have e1:(St.look ⟨tmps,(L.set v .dead).set id (.own (ao.set j (.s (.ro c))) e0)⟩)=ax (ax (fun i=>L[i]?) v .dead) id (.own (ao.set j (.s (.ro c))) e0):=by
     show(fun i=>((L.set v .dead).set id _)[i]?)=_;rw[acU asN,acU hv]
    generalize hH1:ax (fun i=>L[i]?) v .dead=H1 at *;have alJ:H1 id=some (.own ao e0):=by rw[←hH1];simp only[ax];rw[if_neg (Ne.symm cL)];exact de
    have dC:∀b,Own ρ (ax H1 id (.own (ao.set j (.s (.ro c))) e0)) b→Own ρ H1 b:=by
     rintro b ⟨k,o,ho,ha,hb⟩;simp only[ax]at ho;split at ho
     ·rename_i hk;exact⟨id,_,alJ,rfl,hk▸hb⟩
     ·exact⟨k,o,ho,ha,hb⟩
    have yt:Step ρ H1 (aP ρ H1 X.G) w ρ (ax H1 id (.own (ao.set j (.s (.ro c))) e0)) (aP ρ (ax H1 id (.own (ao.set j (.s (.ro c))) e0)) X.G) w:=by
     refine⟨fun _ _ _=>rfl,fun k o ho=> ?_,fun b hb=>.inl (hb.imp (dC b) (fun x=>x)),fun _ _ _=>rfl,Nat.le_refl _⟩;by_cases hk:k=id
     ·exact⟨.own (ao.set j (.s (.ro c))) e0,by simp[ax,hk],fun c' e' hc=>by cases hc⟩
     ·exact⟨o,by simp only[ax];rw[if_neg hk];exact ho,fun c' e' hc=>⟨c',e',hc,rfl,rfl⟩⟩
    have st:=vM.trans yt;refine⟨?_,h.size,fun u=> ?_,h.defers, ?_,h.ix,h.kept⟩
    ·rw[e1];refine⟨fun k o ho=> ?_,fun i l oi ol b hi hl ai al bi bl=> ?_,fun b hb=>s1.apart b (dC b hb),hs.low⟩
     ·replace ho:ax H1 id (.own (ao.set j (.s (.ro c))) e0) k=some o:=ho
      unfold ax at ho;split at ho
      ·rename_i hk;cases ho;rw[hk,h0];refine⟨b,cells,fr,rfl,h1,h2,l5 ρ _ _ _ (fun a cs hd=>aN.step st a cs hd) ?_⟩;rw[nU];unfold aN;exact⟨_,rfl,hro.less (fun b hb=>hb.imp (dC b) (fun x=>x))⟩
      ·exact(s1.obj k o ho).step yt (fun _ _ _=>rfl)
     ·have low:∀{k:Nat} {o:ab},ax H1 id (.own (ao.set j (.s (.ro c))) e0) k=some o→o.alive=true→∃o2,H1 k=some o2∧o2.alive=true:=by
       intro k o ho ha;simp only[ax]at ho;split at ho
       ·rename_i hk;exact⟨_,hk▸alJ,rfl⟩
       ·exact⟨o,ho,ha⟩
      obtain⟨o1,q1,q2⟩:=low hi ai;obtain⟨o2,q4,q5⟩:=low hl al;exact s1.inj i l o1 o2 b q1 q4 q2 q5 bi bl
    ·rw[e1];exact af.step st _ _ (h.den u)
    ·rw[e1];exact h.from_.trans st
   ·exact h
  ·exact h
 ·exact h
theorem bY.fM:∀(ns:List (Nat×Nat×Bool×aL×TypeId)) {ρ:Nat→Value} {tmps:List AV} {L:List ab},bY X ρ ⟨tmps,L⟩ a w→∃aF,bY X aF ⟨tmps,fM ns L⟩ a w
 |[],ρ,tmps,L,h=>⟨ρ,h⟩
 |(id,j,ro,c,e)::ns,ρ,tmps,L,h=>by
  cases ro
  ·obtain⟨aF,h'⟩:=h.oY (c:=c) (e:=e) (id:=id) (j:=j);exact bY.fM ns h'
  ·exact bY.fM ns ((h.s8 (c:=c) (id:=id) (j:=j)).oZ (id:=id) (j:=j))
theorem bY.fL:∀(ns:List (Nat×aL×TypeId)) {ρ:Nat→Value} {tmps:List AV} {L:List ab},bY X ρ ⟨tmps,L⟩ a w→∃aF,bY X aF ⟨(fL ns tmps L).1,(fL ns tmps L).2⟩ a w
 |[],ρ,tmps,L,h=>⟨ρ,h⟩
 |(t,c,e)::ns,ρ,tmps,L,h=>by
  obtain⟨aF,h'⟩:=h.m8 (c:=c) (e:=e) (t:=t);exact bY.fL ns h'
theorem aeE{m:Nat}{σ:List Nat}(h:anj m σ=true):∀i,i<m→σ[i]? =some i:=by
 intro i hi;simp only[anj,List.all_eq_true,List.mem_range]at h;have:=h i hi;split at this
 ·rename_i j hj;rw[hj,Nat.eq_of_beq_eq_true this]
 ·cases this
theorem bY.fq{m:Nat}{tmps t1:List AV}{L L1:List ab}(h0:∀id,m≤id→X.H id=none)(h:fq m tmps L=some (t1,L1))(hr:bY X ρ ⟨tmps,L⟩ a w):∃aF,bY X aF ⟨t1,L1⟩ a w:=by
 unfold Sx.fq at h;simp only[Bool.cond_eq_ite]at h;split at h
 ·rename_i hb;simp only[Bool.and_eq_true]at hb;split at h
  ·rename_i L' qZ hL ht;simp only[Option.some.injEq,Prod.mk.injEq]at h;obtain⟨rfl,rfl⟩:=h;exact⟨_,hr.view (jH hb.1) hL (aeE hb.2) h0 ht⟩
  ·cases h
 ·cases h
theorem Norm.safe{N:Norm}{f:FuncId}{c c':bw}(h0:∀id,N.m≤id→X.H id=none)(h:N.run c=some c')(hs:Safe P f X K c'):Safe P f X K c:=by
 intro G E ρ a w gI gO hr b a' fs hw;unfold Norm.run at h;split at h
 ·rename_i t1 L1 h1;simp only[]at h;split at h
  ·rename_i t2 L2 h2;simp only[Option.some.injEq]at h;subst h;obtain⟨iq,r1⟩:=bY.fq (X:=X.at G E) h0 h1 (bY.dR N.dO hr);obtain⟨fE,r2⟩:=bY.fL N.nH r1;obtain⟨ρ3,r3⟩:=bY.fM N.cells r2;obtain⟨ρ4,r4⟩:=bY.fq (X:=X.at G E) h0 h2 r3;exact hs G E _ a w gI gO r4 b a' fs hw
  ·cases h
 ·cases h
end
end Go.Sx
namespace Go.Sx
open Go
inductive RK where
 |ints (k:IntKind)
 |strs
 |bQ
 |ad (cs:List CK)
abbrev RK.E:RK→Type
 |.ints _=>Int
 |.strs=>ByteArray
 |.bQ=>Bool
 |.ad cs=>CL cs
abbrev RK.V(r:RK):Type:=List r.E
def RK.uA:(r:RK)→r.V→aL
 |.ints k,x=>.ints k x
 |.strs,x=>.strs x
 |.bQ,x=>.bQ x
 |.ad cs,x=>.ad cs x
def abI(k:IntKind):aL→Option (List Int)
 |.ints k' zs=>bif bK k' k then some zs else none
 |.ef _ 0 _=>some []
 |_=>none
def abJ:aL→Option (List ByteArray)
 |.strs x=>some x
 |.ef _ 0 _=>some []
 |_=>none
def xx:aL→Option (List Bool)
 |.bQ x=>some x
 |.ef _ 0 _=>some []
 |_=>none
def agv(cs:List CK):aL→Option (List (CL cs))
 |.ad j5 x=>(CL.eq j5 cs).map fun h=>yw h x
 |.ef _ 0 _=>some []
 |_=>none
def RK.rd:(r:RK)→aL→Option r.V
 |.ints k,c=>abI k c
 |.strs,c=>abJ c
 |.bQ,c=>xx c
 |.ad cs,c=>agv cs c
def CK.flat:CK→Bool
 |.int _|.bool|.str|.arr _ _=>true
 |_=>false
def RK.flat:RK→Bool
 |.ad cs=>cs.all CK.flat
 |_=>true
inductive B where
 |int (k:IntKind)
 |bool
 |str
 |row (r:RK) (e:TypeId)
 |arr (k:IntKind) (n:Nat)
 |fn
 |mD (r:RK) (e:TypeId)
abbrev B.V:B→Type
 |.int _=>Int
 |.bool=>Bool
 |.str=>ByteArray
 |.row r _=>r.V
 |.arr _ _=>List Int
 |.fn=>FuncId
 |.mD r _=>r.V
def B.av:(b:B)→b.V→AV
 |.int k,n=>.s (.int k n)
 |.bool,x=>.s (.bool x)
 |.str,x=>.s (.str x)
 |.row r _,x=>.s (.ro (r.uA x))
 |.arr k n,x=>.ints k n x
 |.fn,f=>.s (.j8 f)
 |.mD r _,x=>.s (.ro (r.uA x))
def ta(k:IntKind):List AV→Option (List Int)
 |[]=>some []
 |.s (.int k' n)::aJ=>bif bK k' k then(ta k aJ).map (n:: ·)else none
 |_=>none
def agw(k:IntKind):AV→Option Int
 |.s (.int k' n)=>bif bK k' k then some n else none
 |_=>none
def abK:AV→Option Bool
 |.s (.bool x)=>some x
 |_=>none
def agx:AV→Option ByteArray
 |.s (.str x)=>some x
 |_=>none
def vN(r:RK):AV→Option r.V
 |.emp=>some []
 |.s (.ro c)=>r.rd c
 |_=>none
def zm(k:IntKind)(n:Nat):AV→Option (List Int)
 |.ints k' n' ws=>bif bK k' k&&n'.beq n then some ws else none
 |.agg ao=>bif ao.length.beq n then ta k ao else none
 |_=>none
def ank:AV→Option FuncId
 |.s (.j8 f)=>some f
 |_=>none
def B.rd:(b:B)→AV→Option b.V
 |.int k,a=>agw k a
 |.bool,a=>abK a
 |.str,a=>agx a
 |.row r _,a=>vN r a
 |.arr k n,a=>zm k n a
 |.fn,a=>ank a
 |.mD r _,a=>vN r a
def B.ok:(b:B)→b.V→Prop
 |.row _ _,x=>x.length≤maxLen
 |.mD _ _,x=>x.length≤maxLen
 |.arr _ n,x=>List.length (α:=Int) x=n
 |_,_=>True
inductive Ty where
 |b (x:B)
 |st (bs:List B)
abbrev BL:List B→Type
 |[]=>Unit
 |b::bs=>b.V×BL bs
abbrev Ty.V:Ty→Type
 |.b x=>x.V
 |.st bs=>BL bs
abbrev AL:List Ty→Type
 |[]=>Unit
 |t::ts=>t.V×AL ts
def BL.av:(bs:List B)→BL bs→List AV
 |[],_=>[]
 |b::bs,(x,y)=>b.av x::BL.av bs y
def BL.rd:(bs:List B)→List AV→Option (BL bs)
 |[],[]=>some ()
 |b::bs,a::aJ=>match b.rd a,BL.rd bs aJ with
  |some x,some y=>some (x,y)
  |_,_=>none
 |_,_=>none
def BL.ok:(bs:List B)→BL bs→Prop
 |[],_=>True
 |b::bs,(x,y)=>b.ok x∧BL.ok bs y
def Ty.av:(t:Ty)→t.V→AV
 |.b x,v=>x.av v
 |.st bs,v=>.agg (BL.av bs v)
def anl(bs:List B):AV→Option (BL bs)
 |.agg ao=>BL.rd bs ao
 |_=>none
def Ty.rd:(t:Ty)→AV→Option t.V
 |.b x,a=>x.rd a
 |.st bs,a=>anl bs a
def Ty.ok:(t:Ty)→t.V→Prop
 |.b x,v=>x.ok v
 |.st bs,v=>BL.ok bs v
def AL.av:(ts:List Ty)→AL ts→List AV
 |[],_=>[]
 |t::ts,(x,y)=>t.av x::AL.av ts y
def AL.rd:(ts:List Ty)→List AV→Option (AL ts)
 |[],[]=>some ()
 |t::ts,a::aJ=>match t.rd a,AL.rd ts aJ with
  |some x,some y=>some (x,y)
  |_,_=>none
 |_,_=>none
def AL.ok:(ts:List Ty)→AL ts→Prop
 |[],_=>True
 |t::ts,(x,y)=>t.ok x∧AL.ok ts y
section
variable{g:Nat→Option Nat}{ρ aF:Nat→Value}{H H':aM}{G O O':Nat→Prop}{w w':World}{P:Program}{S:eU}{Z:aW}{X:Ctx}{s:St}{a:Act}{K:List ab→AV→Prop}{C:bw→Prop}
theorem RK.mE{r:RK}{c:aL}{x:r.V}(h:r.rd c=some x){v:Value}(hd:aT O w (.ro c) v):aT O w (.ro (r.uA x)) v:=by
 cases r
 case ints k=>
  change abI k c=some x at h;unfold abI at h;split at h
  ·rw[Bool.cond_eq_ite]at h;split at h
   ·rename_i hk;obtain rfl:=bd hk;simp only[Option.some.injEq]at h;subst h;exact hd
   ·cases h
  ·cases h;exact fb (by rfl) (by rfl) hd
  ·cases h
 case ad cs=>
  change agv cs c=some x at h;unfold agv at h;split at h
  ·obtain⟨⟨e⟩,_,h2⟩:=Option.map_eq_some_iff.1 h;subst e;rw[vj]at h2;subst h2;exact hd
  ·cases h;exact fb (by rfl) (by rfl) hd
  ·cases h
 case strs=>change abJ c=some x at h;unfold abJ at h;split at h<;>cases h;exact hd;exact fb (by rfl) (by rfl) hd
 case bQ=>change xx c=some x at h;unfold xx at h;split at h<;>cases h;exact hd;exact fb (by rfl) (by rfl) hd
theorem acV{r:RK}{v:Value}(h:∃a,v=.slice a 0 0):aT O w (.ro (r.uA [])) v:=by
 obtain⟨a,rfl⟩:=h;have hn:(r.uA []).n=0:=by cases r<;>rfl
 have:=aT.ro (O:=O) (w:=w) (r.uA []) a 0 (fun _ _=>undef) 0 0 (by omega) (Nat.zero_le _) (fun h=>by omega) (fun i j hi hj=>by omega) (fun i j hi hj=>by omega);rwa[hn]at this
theorem vO{k:IntKind}:∀{aJ:List AV} {zs:List Int} {cs:List Value},ta k aJ=some zs→aq ρ H O w aJ cs→zs.length=aJ.length∧cs=zs.map (Value.int k)
 |[],zs,cs,h,hd=>by simp only[ta,Option.some.injEq]at h;subst h;exact⟨rfl,aw.1 hd⟩
 |a::aJ,zs,cs,h,hd=>by
  unfold ta at h;split at h
  ·rename_i heq;cases heq
  ·rename_i k' n dj heq;simp only[List.cons.injEq]at heq;obtain⟨rfl,rfl⟩:=heq;rw[Bool.cond_eq_ite]at h;split at h
   ·rename_i hk;obtain rfl:=bd hk;simp only[Option.map_eq_some_iff]at h;obtain⟨zs',h1,rfl⟩:=h;obtain⟨c1,c2,rfl,h2,h3⟩:=ah.1 hd;obtain⟨h4,rfl⟩:=vO h1 h3;unfold aN at h2;obtain⟨u,rfl,h5⟩:=h2;cases h5;exact⟨by simp[h4],rfl⟩
   ·cases h
  ·cases h
theorem zn{k:IntKind}{a:AV}{n:Int}(h:agw k a=some n):a=.s (.int k n):=by
 unfold agw at h;split at h
 ·rw[Bool.cond_eq_ite]at h;split at h
  ·rename_i hk;obtain rfl:=bd hk;cases h;rfl
  ·cases h
 ·cases h
theorem vP{a:AV}{x:Bool}(h:abK a=some x):a=.s (.bool x):=by
 unfold abK at h;split at h<;>cases h;rfl
theorem zo{a:AV}{x:ByteArray}(h:agx a=some x):a=.s (.str x):=by
 unfold agx at h;split at h<;>cases h;rfl
theorem acW{a:AV}{x:FuncId}(h:ank a=some x):a=.s (.j8 x):=by
 unfold ank at h;split at h<;>cases h;rfl
theorem acX{r:RK}{a:AV}{x:r.V}{v:Value}(h:vN r a=some x)(hd:af ρ H O w a v):af aF H' O w (.s (.ro (r.uA x))) v:=by
 unfold vN at h;split at h
 ·cases h;unfold af at hd;exact az (acV hd)
 ·exact az (RK.mE h (ak (by simp) hd))
 ·cases h
theorem acY{r:RK}{a:AV}{x:r.V}{cs:List Value}(h:vN r a=some x)(hd:aN ρ H O w a cs):aN aF H' O w (.s (.ro (r.uA x))) cs:=by
 unfold vN at h;split at h
 ·cases h;unfold aN at *;obtain⟨u,rfl,h1⟩:=hd;exact⟨u,rfl,acV h1⟩
 ·unfold aN at *;obtain⟨u,rfl,h1⟩:=hd;exact⟨u,rfl,RK.mE h h1⟩
 ·cases h
theorem B.rdV{b:B}{a:AV}{x:b.V}{v:Value}(h:b.rd a=some x)(hd:af ρ H O w a v):af aF H' O w (b.av x) v:=by
 cases b with
 |int k=>rw[zn h]at hd;exact az (ak (by simp) hd)
 |bool=>rw[vP h]at hd;exact az (ak (by simp) hd)
 |str=>rw[zo h]at hd;exact az (ak (by simp) hd)
 |fn=>rw[acW h]at hd;exact az (ak (by simp) hd)
 |row r e=>exact acX h hd
 |mD r e=>exact acX h hd
 |arr k n=>
  change zm k n a=some x at h;unfold zm at h;split at h
  ·rw[Bool.cond_eq_ite]at h;split at h
   ·rename_i hk;simp only[Bool.and_eq_true]at hk;obtain rfl:=bd hk.1;obtain rfl:=Nat.eq_of_beq_eq_true hk.2;cases h;unfold af at *;exact hd
   ·cases h
  ·rw[Bool.cond_eq_ite]at h;split at h
   ·rename_i ao hk;unfold af at hd;obtain⟨cs,rfl,h2⟩:=hd;obtain⟨h3,rfl⟩:=vO h h2;show af aF H' O w (.ints k n x) _;unfold af;exact⟨by rw[h3];exact Nat.eq_of_beq_eq_true hk,rfl⟩
   ·cases h
  ·cases h
theorem B.rdC{b:B}{a:AV}{x:b.V}{cs:List Value}(h:b.rd a=some x)(hd:aN ρ H O w a cs):aN aF H' O w (b.av x) cs:=by
 cases b with
 |int k=>rw[zn h]at hd;unfold aN at hd;show aN _ _ _ _ (.s (.int k x)) _;unfold aN;exact hd
 |bool=>rw[vP h]at hd;unfold aN at hd;show aN _ _ _ _ (.s (.bool x)) _;unfold aN;exact hd
 |str=>rw[zo h]at hd;unfold aN at hd;show aN _ _ _ _ (.s (.str x)) _;unfold aN;exact hd
 |fn=>rw[acW h]at hd;unfold aN at hd;show aN _ _ _ _ (.s (.j8 x)) _;unfold aN;exact hd
 |row r e=>exact acY h hd
 |mD r e=>exact acY h hd
 |arr k n=>
  change zm k n a=some x at h;unfold zm at h;split at h
  ·rw[Bool.cond_eq_ite]at h;split at h
   ·rename_i hk;simp only[Bool.and_eq_true]at hk;obtain rfl:=bd hk.1;obtain rfl:=Nat.eq_of_beq_eq_true hk.2;cases h;show aN _ _ _ _ (.ints _ _ _) _;unfold aN at *;exact hd
   ·cases h
  ·unfold aN at hd;exact hd.elim
  ·cases h
theorem BL.mE:∀{bs:List B} {ao:List AV} {x:BL bs} {cs:List Value},BL.rd bs ao=some x→aq ρ H O w ao cs→aq aF H' O w (BL.av bs x) cs
 |[],[],x,cs,h,hd=>by rw[aw.1 hd];exact aw.2 rfl
 |[],a::aJ,x,cs,h,hd=>by simp[BL.rd]at h
 |b::bs,[],x,cs,h,hd=>by simp[BL.rd]at h
 |b::bs,a::aJ,x,cs,h,hd=>by
  unfold BL.rd at h;split at h
  ·rename_i y z h1 h2;cases h;obtain⟨c1,c2,rfl,h3,h4⟩:=ah.1 hd;exact ah.2 ⟨c1,c2,rfl,B.rdC h1 h3,BL.mE h2 h4⟩
  ·cases h
theorem Ty.mE{t:Ty}{a:AV}{x:t.V}{v:Value}(h:t.rd a=some x)(hd:af ρ H O w a v):af aF H' O w (t.av x) v:=by
 cases t with
 |b y=>exact B.rdV h hd
 |st bs=>
  change anl bs a=some x at h;unfold anl at h;split at h
  ·show af _ _ _ _ (.agg _) _;unfold af at *;obtain⟨cs,h1,h2⟩:=hd;exact⟨cs,h1,BL.mE h h2⟩
  ·cases h
theorem AL.mE:∀{ts:List Ty} {aJ:List AV} {x:AL ts} {vs:List Value},AL.rd ts aJ=some x→bI ρ H O w aJ vs→bI aF H' O w (AL.av ts x) vs
 |[],[],x,vs,h,hd=>by rw[aU.1 hd];exact aU.2 rfl
 |[],a::aJ,x,vs,h,hd=>by simp[AL.rd]at h
 |t::ts,[],x,vs,h,hd=>by simp[AL.rd]at h
 |t::ts,a::aJ,x,vs,h,hd=>by
  unfold AL.rd at h;split at h
  ·rename_i y z h1 h2;cases h;obtain⟨v,rest,rfl,h3,h4⟩:=aA.1 hd;exact aA.2 ⟨v,rest,rfl,Ty.mE h1 h3,AL.mE h2 h4⟩
  ·cases h
theorem rL{r:RK}{x:r.V}{v:Value}(h:aT O w (.ro (r.uA x)) v):List.length x≤maxLen:=by
 generalize hc:r.uA x=c at h;cases h with
 |ro _ a cap us bb o h1 h2 _ _ _=>
  have:(r.uA x).n=x.length:=by cases r<;>rfl
  rw[←hc]at h1;omega
theorem B.okV{b:B}{x:b.V}{v:Value}(hd:af ρ H O w (b.av x) v):b.ok x:=by
 cases b with
 |row r e=>exact rL (ak (by simp) hd)
 |mD r e=>exact rL (ak (by simp) hd)
 |arr k n=>change af ρ H O w (.ints k n x) v at hd;unfold af at hd;exact hd.1
 |_=>trivial
theorem B.okC{b:B}{x:b.V}{cs:List Value}(hd:aN ρ H O w (b.av x) cs):b.ok x:=by
 cases b with
 |row r e=>
  change aN ρ H O w (.s (.ro (r.uA x))) cs at hd;unfold aN at hd;obtain⟨u,_,h⟩:=hd;exact rL h
 |mD r e=>
  change aN ρ H O w (.s (.ro (r.uA x))) cs at hd;unfold aN at hd;obtain⟨u,_,h⟩:=hd;exact rL h
 |arr k n=>change aN ρ H O w (.ints k n x) cs at hd;unfold aN at hd;exact hd.1
 |_=>trivial
theorem BL.okS:∀{bs:List B} {x:BL bs} {cs:List Value},aq ρ H O w (BL.av bs x) cs→BL.ok bs x
 |[],x,cs,h=>trivial
 |b::bs,(x,y),cs,h=>by
  obtain⟨c1,c2,rfl,h3,h4⟩:=ah.1 h;exact⟨B.okC h3,BL.okS h4⟩
theorem Ty.okV{t:Ty}{x:t.V}{v:Value}(hd:af ρ H O w (t.av x) v):t.ok x:=by
 cases t with
 |b y=>exact B.okV hd
 |st bs=>
  change af ρ H O w (.agg (BL.av bs x)) v at hd;unfold af at hd;obtain⟨cs,_,h⟩:=hd;exact BL.okS h
theorem AL.okL:∀{ts:List Ty} {x:AL ts} {vs:List Value},bI ρ H O w (AL.av ts x) vs→AL.ok ts x
 |[],x,vs,h=>trivial
 |t::ts,(x,y),vs,h=>by
  obtain⟨v,rest,rfl,h3,h4⟩:=aA.1 h;exact⟨Ty.okV h3,AL.okL h4⟩
end
end Go.Sx
namespace Go.Sx
open Go
def kY(ces:List (Bool×aL×TypeId))(L:List ab)(a:AV):AV×List ab×List (Bool×aL×TypeId):=
 match a with
 |.emp=>match ces with
  |(ro,c,e)::r=>bif c.n.beq 0 then(bif ro then(.s (.ro c),L,r)else(.vec L.length,L++[.vec c e],r))else(.emp,L,r)
  |[]=>(.emp,L,[])
 |.vec id=>match ces with
  |(true,_,_)::r=>(match L[id]? with
   |some (.vec c _)=>(.s (.ro c),L.set id .dead,r)
   |_=>(.vec id,L,r))
  |_=>(.vec id,L,ces.tail)
 |.s (.ro c)=>(.s (.ro c),L,ces.tail)
 |.part id lo n=>(match L[id]? with
  |some (.vec c e)=>(.vec L.length,L.set id .dead++[.vec (dq c lo (lo+n)) e],ces.tail)
  |_=>(.part id lo n,L,ces.tail))
 |a=>(a,L,ces)
def qq(f:List (Bool×aL×TypeId)→List ab→AV→AV×List ab×List (Bool×aL×TypeId)):List (Bool×aL×TypeId)→List ab→List AV→List AV×List ab×List (Bool×aL×TypeId)
 |ces,L,[]=>([],L,ces)
 |ces,L,a::aJ=>let p:=f ces L a;let q:=qq f p.2.2 p.2.1 aJ;(p.1::q.1,q.2.1,q.2.2)
def o8(ces:List (Bool×aL×TypeId))(L:List ab)(a:AV):AV×List ab×List (Bool×aL×TypeId):=
 match a with
 |.agg ao=>let q:=qq kY ces L ao;(.agg q.1,q.2.1,q.2.2)
 |a=>kY ces L a
def abL(ces:List (Bool×aL×TypeId))(L:List ab)(a:AV):AV×List ab:=
 match a with
 |.bg vs=>let q:=qq o8 ces L vs;(.bg q.1,q.2.1)
 |a=>let q:=o8 ces L a;(q.1,q.2.1)
def ajs(ces:List (Bool×aL×TypeId))(L:List ab)(r:AV):Option (List ab×AV):=
 let p:=abL ces L r;let σ:=reach p.2 4000 (acT 20 p.1) []
 bif qn σ then
  match oV σ p.2,rn (idx σ) 20 p.1 with
  |some L',some r'=>some (L',r')
  |_,_=>none
 else none
section
variable{g:Nat→Option Nat}{ρ aF:Nat→Value}{H H':aM}{G O O':Nat→Prop}{w w':World}{P:Program}{S:eU}{Z:aW}{X:Ctx}{s:St}{a:Act}{K:List ab→AV→Prop}{C:bw→Prop}{L:List ab}
abbrev lk(L:List ab):aM:=fun i=>L[i]?
abbrev vQ(ρ:Nat→Value)(L:List ab)(G:Nat→Prop)(w:World)(aF:Nat→Value)(L':List ab):Prop:=Step ρ (lk L) (aP ρ (lk L) G) w aF (lk L') (aP aF (lk L') G) w
theorem ext1(hs:Sat ρ (lk L) G w){c:aL}(hc:c.n=0)(e:TypeId)(r:Option Addr):∃aF,Sat aF (lk (L++[.vec c e])) G w∧vQ ρ L G w aF (L++[.vec c e])∧∀O,aD aF (lk (L++[.vec c e])) O w (.vec L.length) (.slice r 0 0):=by
 have kI:eg (.slice r 0 0)=none:=by cases r<;>simp[eg]
 let aF:Nat→Value:=fun j=>if j=L.length then .slice r 0 0 else ρ j
 have st:vQ ρ L G w aF (L++[.vec c e]):=Step.alloc kI
 have old:∀{id:Nat} {o:ab},(L++[.vec c e])[id]? =some o→(id=L.length∧o=.vec c e)∨(id≠L.length∧L[id]? =some o):=by
  intro id o ho;have h2:=(List.getElem?_eq_some_iff.1 ho).1;simp only[List.length_append,List.length_cons,List.length_nil]at h2;by_cases de:id=L.length
  ·subst de;simp at ho;exact .inl ⟨rfl,ho.symm⟩
  ·refine .inr ⟨de, ?_⟩;rwa[List.getElem?_append_left (by omega)]at ho
 have dC:∀b,Own aF (lk (L++[.vec c e])) b→Own ρ (lk L) b:=by
  rintro b ⟨id,o,ho,ha,hb⟩;rcases old ho with⟨h1,h2⟩|⟨h1,h2⟩
  ·simp only[aF,h1,if_true]at hb;rw[kI]at hb;cases hb
  ·simp only[aF,h1,if_false]at hb;exact⟨id,o,h2,ha,hb⟩
 refine⟨aF,⟨fun id o ho=> ?_,fun i j oi oj b hi hj ai aj bi bj=> ?_,fun b hb=>hs.apart b (dC b hb),hs.low⟩,st,fun O=> ?_⟩
 ·rcases old ho with⟨h1,h2⟩|⟨h1,h2⟩
  ·subst h2;simp only[aF,h1,if_true];exact⟨r,0,by rw[hc],by omega,Nat.zero_le _,.inl rfl⟩
  ·simp only[aF,h1,if_false];exact(hs.obj id o h2).step st (fun _ _ _=>rfl)
 ·rcases old hi with⟨h1,h2⟩|⟨h1,h2⟩
  ·simp only[aF,h1,if_true]at bi;rw[kI]at bi;cases bi
  ·rcases old hj with⟨h3,h4⟩|⟨h3,h4⟩
   ·simp only[aF,h3,if_true]at bj;rw[kI]at bj;cases bj
   ·simp only[aF,h1,if_false]at bi;simp only[aF,h3,if_false]at bj;exact hs.inj i j oi oj b h2 h4 ai aj bi bj
 ·unfold aD;exact⟨rfl,.vec c e,by simp[lk],fun c' e' _=>(if_pos rfl).symm⟩
theorem agy{c:aL}(hc:c.n=0)(r:Option Addr):aT O w (.ro c) (.slice r 0 0):=by
 have:=aT.ro (O:=O) (w:=w) c r 0 (fun _ _=>undef) 0 0 (by omega) (Nat.zero_le _) (fun h=>by omega) (fun i j hi hj=>by omega) (fun i j hi hj=>by omega);rwa[hc]at this
theorem ajt(hs:Sat ρ (lk L) G w){id:Nat}{c:aL}{e:TypeId}(de:L[id]? =some (.vec c e)):
 Sat ρ (lk (L.set id .dead)) G w∧vQ ρ L G w ρ (L.set id .dead)∧aT (aP ρ (lk (L.set id .dead)) G) w (.ro c) (ρ id):=by
 have bm:id<L.length:=(List.getElem?_eq_some_iff.1 de).1
 have old:∀{k:Nat} {o:ab},(L.set id .dead)[k]? =some o→(k=id∧o=.dead)∨(k≠id∧L[k]? =some o):=by
  intro k o ho;rw[List.getElem?_set]at ho;split at ho
  ·rename_i hk
   first
    |exact .inl ⟨hk.symm,by simpa using ho.symm⟩
    |(rw[if_pos bm]at ho;exact .inl ⟨hk.symm,by simpa using ho.symm⟩)
  ·rename_i hk;exact .inr ⟨Ne.symm hk,ho⟩
 have dC:∀b,Own ρ (lk (L.set id .dead)) b→Own ρ (lk L) b∧eg (ρ id)≠some b:=by
  rintro b ⟨k,o,ho,ha,hb⟩;rcases old ho with⟨_,rfl⟩|⟨h1,h2⟩
  ·cases ha
  ·refine⟨⟨k,o,h2,ha,hb⟩,fun hb2=>h1 (hs.inj k id o _ b h2 de ha rfl hb hb2)⟩
 have st:vQ ρ L G w ρ (L.set id .dead):=by
  refine⟨fun _ _ _=>rfl,fun k o ho=> ?_,fun b hb=>.inl ?_,fun _ _ _=>rfl,Nat.le_refl _⟩
  ·by_cases hk:k=id
   ·subst hk;exact⟨.dead,by show(L.set k .dead)[k]? =_;rw[List.getElem?_set_self bm],fun c' e' hc=>by cases hc⟩
   ·exact⟨o,by show(L.set id .dead)[k]? =_;rw[List.getElem?_set_ne (Ne.symm hk)];exact ho,fun c' e' hc=>⟨c',e',hc,rfl,rfl⟩⟩
  ·rcases hb with hb|hb
   ·exact .inl (dC b hb).1
   ·exact .inr hb
 refine⟨⟨fun k o ho=> ?_,fun i j oi oj b hi hj ai aj bi bj=> ?_,fun b hb=>hs.apart b (dC b hb).1,hs.low⟩,st, ?_⟩
 ·rcases old ho with⟨_,rfl⟩|⟨h1,h2⟩
  ·trivial
  ·exact(hs.obj k o h2).step st (fun _ _ _=>rfl)
 ·rcases old hi with⟨_,rfl⟩|⟨h1,h2⟩
  ·cases ai
  ·rcases old hj with⟨_,rfl⟩|⟨h3,h4⟩
   ·cases aj
   ·exact hs.inj i j oi oj b h2 h4 ai aj bi bj
 ·obtain⟨r,cap,h0,h1,h2,h3⟩:=hs.obj id _ de;rcases h3 with h3|⟨b,f,cells,fr,us,rfl,h5,h6,h7,h8⟩
  ·rw[h0];have hc:c.n=0:=by omega
   exact .ro c r cap (fun _ _=>undef) 0 0 h1 h2 (fun h=>by omega) (fun i j hi hj=>by omega) (fun i j hi hj=>by omega)
  ·by_cases uM:cap=0
   ·rw[h0];exact .ro c _ cap (fun _ _=>undef) 0 0 h1 h2 (fun h=>by omega) (fun i j hi hj=>by omega) (fun i j hi hj=>by omega)
   ·have kI:eg (ρ id)=some b:=by rw[h0];simp[eg,uM]
    have vR:¬aP ρ (lk (L.set id .dead)) G b:=by
     rintro(hb|hb)
     ·exact(dC b hb).2 kI
     ·exact hs.apart b ⟨id,_,de,rfl,kI⟩ hb
    rw[h0];refine .ro c _ cap us b f h1 h2 (fun _=>⟨rfl,vR,(Array.getElem?_eq_some_iff.1 h5).1⟩) (fun i j hi hj=> ?_) (fun i j hi hj=>(h8 i j hi hj).2.less (fun b hb=> ?_))
    ·have:=(h8 i j hi hj).1;simp only[World.cell?,h5];simpa using this
    ·rcases hb with hb|hb
     ·exact .inl (dC b hb).1
     ·exact .inr hb
theorem acZ(hs:Sat ρ (lk L) G w){id lo n:Nat}{c:aL}{e:TypeId}{v:Value}(de:L[id]? =some (.vec c e))(hv:af ρ (lk L) (aP ρ (lk L) G) w (.part id lo n) v):
 ∃aF,Sat aF (lk (L.set id .dead++[.vec (dq c lo (lo+n)) e])) G w∧vQ ρ L G w aF (L.set id .dead++[.vec (dq c lo (lo+n)) e])∧∀O,aD aF (lk (L.set id .dead++[.vec (dq c lo (lo+n)) e])) O w (.vec L.length) v:=by
 obtain⟨g0,a,cap,a',g1,g2,g3,rfl,g4,g5⟩:=ic hs de hv;have bm:id<L.length:=(List.getElem?_eq_some_iff.1 de).1;generalize hx:ab.vec (dq c lo (lo+n)) e=x;have hxa:x.alive=true:=by rw[←hx];rfl
 have old:∀{k:Nat} {o:ab},(L.set id .dead++[x])[k]? =some o→(k=L.length∧o=x)∨(k=id∧o=.dead)∨(k≠id∧k≠L.length∧L[k]? =some o):=by
  intro k o ho;have h2:=(List.getElem?_eq_some_iff.1 ho).1;simp only[List.length_append,List.length_set,List.length_cons,List.length_nil]at h2;by_cases hk:k=L.length
  ·subst hk;rw[List.getElem?_append_right (by simp)]at ho;simp at ho;exact .inl ⟨rfl,ho.symm⟩
  ·rw[List.getElem?_append_left (by simp;omega),List.getElem?_set]at ho;split at ho
   ·rename_i yK
    first
     |exact .inr (.inl ⟨yK.symm,by simpa using ho.symm⟩)
     |(rw[if_pos bm]at ho;exact .inr (.inl ⟨yK.symm,by simpa using ho.symm⟩))
   ·rename_i yK;exact .inr (.inr ⟨Ne.symm yK,hk,ho⟩)
 have new:∀{k:Nat} {o:ab},L[k]? =some o→k≠id→(L.set id .dead++[x])[k]? =some o:=by
  intro k o ho hk;have h1:=(List.getElem?_eq_some_iff.1 ho).1;rw[List.getElem?_append_left (by simpa using h1),List.getElem?_set_ne (Ne.symm hk)];exact ho
 have agz:(L.set id .dead++[x])[id]? =some .dead:=by
  rw[List.getElem?_append_left (by simpa using bm),List.getElem?_set_self bm]
 have apL:(L.set id .dead++[x])[L.length]? =some x:=by
  rw[List.getElem?_append_right (by simp)];simp
 have oK:∀b,eg (.slice a' n (cap - lo))=some b→eg (ρ id)=some b:=by
  intro b hb;cases a' with
  |none=>simp[eg]at hb
  |some y=>
   simp only[eg]at hb;split at hb
   ·cases hb
   ·rename_i cL;obtain⟨b',o,rfl⟩:=g5 (by omega);have:=g4 (by omega);simp only[Option.map_some,a8,Option.some.injEq]at this hb;subst this;rw[g1];simp only[eg];rw[if_neg (by omega)];exact congrArg some hb
 let aF:Nat→Value:=fun j=>if j=L.length then .slice a' n (cap - lo)else ρ j
 have dC:∀b,Own aF (lk (L.set id .dead++[x])) b→Own ρ (lk L) b:=by
  rintro b ⟨k,o,ho,ha,hb⟩;rcases old ho with⟨h1,h2⟩|⟨h1,h2⟩|⟨h1,h2,h3⟩
  ·simp only[aF,h1,if_true]at hb;exact⟨id,_,de,rfl,oK b hb⟩
  ·subst h2;cases ha
  ·simp only[aF,h2,if_false]at hb;exact⟨k,o,h3,ha,hb⟩
 have st:vQ ρ L G w aF (L.set id .dead++[x]):=by
  refine⟨fun k o ho=> ?_,fun k o ho=> ?_,fun b hb=>.inl ?_,fun _ _ _=>rfl,Nat.le_refl _⟩
  ·have h1:k<L.length:=(List.getElem?_eq_some_iff.1 ho).1;simp only[aF];rw[if_neg (by omega)]
  ·by_cases hk:k=id
   ·subst hk;exact⟨.dead,agz,fun c' e' hc=>by cases hc⟩
   ·exact⟨o,new ho hk,fun c' e' hc=>⟨c',e',hc,rfl,rfl⟩⟩
  ·rcases hb with hb|hb
   ·exact .inl (dC b hb)
   ·exact .inr hb
 refine⟨aF,⟨fun k o ho=> ?_,fun i j oi oj b hi hj ai aj bi bj=> ?_,fun b hb=>hs.apart b (dC b hb),hs.low⟩,st,fun O=> ?_⟩
 ·rcases old ho with⟨h1,h2⟩|⟨h1,h2⟩|⟨h1,h2,h3⟩
  ·rw[h2];have oo:=st;simp only[aF,h1,if_true];rw[←hx]at oo ⊢;have hn:(dq c lo (lo+n)).n=n:=by rw[mW c (by omega) g0];omega
   have bR:=iM c lo (lo+n);refine⟨a',cap - lo,by rw[hn],by rw[hn];omega,by omega, ?_⟩;obtain⟨a2,oH,k1,k2,k3,k4⟩:=hs.obj id _ de;rw[g1]at k1;cases k1;by_cases hc:cap=lo
   ·exact .inl (by omega)
   ·rcases k4 with k4|⟨b,o,cells,fr,us,rfl,h5,h6,h7,h8⟩
    ·omega
    ·refine .inr ⟨b,o+lo*c.size,cells,fr,fun i j=>us (lo+i) j,by rw[g4 hc];simp[a8],h5,h6, ?_,fun i j hi hj=> ?_⟩
     ·rw[bR];have:lo*c.size+(cap - lo)*c.size=cap*c.size:=by rw[←Nat.add_mul];congr 1;omega
      omega
     ·rw[hn]at hi;rw[bR]at hj ⊢;obtain⟨h9,w5⟩:=h8 (lo+i) j (by omega) hj;refine⟨?_,by rw[iN c j (by omega)];exact w5.step oo.fz oo.heap oo.size⟩;rw[show o+lo*c.size+i*c.size+j=o+(lo+i)*c.size+j from by rw[Nat.add_mul];omega];exact h9
  ·subst h2;trivial
  ·simp only[aF,h2,if_false];exact(hs.obj k o h3).step st (fun _ _ _=>rfl)
 ·have cls:∀{k:Nat} {o:ab},(L.set id .dead++[x])[k]? =some o→o.alive=true→eg (aF k)=some b→(k=L.length∧eg (ρ id)=some b)∨(k≠id∧k≠L.length∧L[k]? =some o∧eg (ρ k)=some b):=by
   intro k o ho ha hb;rcases old ho with⟨h1,h2⟩|⟨h1,h2⟩|⟨h1,h2,h3⟩
   ·simp only[aF,h1,if_true]at hb;exact .inl ⟨h1,oK b hb⟩
   ·subst h2;cases ha
   ·simp only[aF,h2,if_false]at hb;exact .inr ⟨h1,h2,h3,hb⟩
  rcases cls hi ai bi with⟨h1,h2⟩|⟨h1,h2,h3,h4⟩<;>rcases cls hj aj bj with⟨k1,k2⟩|⟨k1,k2,k3,k4⟩
  ·rw[h1,k1]
  ·exact absurd (hs.inj j id oj _ b k3 de aj rfl k4 h2) k1
  ·exact absurd (hs.inj i id oi _ b h3 de ai rfl h4 k2) h1
  ·exact hs.inj i j oi oj b h3 k3 ai aj h4 k4
 ·unfold aD;refine⟨rfl,x,apL,fun c' e' _=> ?_⟩;simp only[aF,if_true]
theorem ac0{ces:List (Bool×aL×TypeId)}{a:AV}(hs:Sat ρ (lk L) G w):
 (∀v,af ρ (lk L) (aP ρ (lk L) G) w a v→∃aF,Sat aF (lk (kY ces L a).2.1) G w∧vQ ρ L G w aF (kY ces L a).2.1∧af aF (lk (kY ces L a).2.1) (aP aF (lk (kY ces L a).2.1) G) w (kY ces L a).1 v)∧
 (∀cs,aN ρ (lk L) (aP ρ (lk L) G) w a cs→∃aF,Sat aF (lk (kY ces L a).2.1) G w∧vQ ρ L G w aF (kY ces L a).2.1∧aN aF (lk (kY ces L a).2.1) (aP aF (lk (kY ces L a).2.1) G) w (kY ces L a).1 cs):=by
 have same:∀a,(∀v,af ρ (lk L) (aP ρ (lk L) G) w a v→∃aF,Sat aF (lk L) G w∧vQ ρ L G w aF L∧af aF (lk L) (aP aF (lk L) G) w a v)∧(∀cs,aN ρ (lk L) (aP ρ (lk L) G) w a cs→∃aF,Sat aF (lk L) G w∧vQ ρ L G w aF L∧aN aF (lk L) (aP aF (lk L) G) w a cs):=
  fun a=>⟨fun v h=>⟨ρ,hs,Step.refl _ _ _ _,h⟩,fun cs h=>⟨ρ,hs,Step.refl _ _ _ _,h⟩⟩
 unfold kY;split
 ·split
  ·rename_i ro c e r;cases hc:c.n.beq 0
   ·exact same _
   ·have hc:=Nat.eq_of_beq_eq_true hc;cases ro
    ·refine⟨fun v h=> ?_,fun cs h=> ?_⟩
     ·unfold af at h;obtain⟨x,rfl⟩:=h;obtain⟨aF,h1,h2,h3⟩:=ext1 hs hc e x;exact⟨aF,h1,h2,by simp only[cond_true,cond_false];unfold af;exact h3 _⟩
     ·unfold aN at h;obtain⟨u,rfl,x,rfl⟩:=h;obtain⟨aF,h1,h2,h3⟩:=ext1 hs hc e x;exact⟨aF,h1,h2,by simp only[cond_true,cond_false];unfold aN;exact⟨_,rfl,h3 _⟩⟩
    ·refine⟨fun v h=> ?_,fun cs h=> ?_⟩
     ·unfold af at h;obtain⟨x,rfl⟩:=h;exact⟨ρ,hs,Step.refl _ _ _ _,az (agy hc x)⟩
     ·unfold aN at h;obtain⟨u,rfl,x,rfl⟩:=h;exact⟨ρ,hs,Step.refl _ _ _ _,by simp only[cond_true];unfold aN;exact⟨_,rfl,agy hc x⟩⟩
  ·exact same _
 ·rename_i id;split
  ·split
   ·rename_i c e de;obtain⟨f1,f2,f3⟩:=ajt hs de
    have key:∀v,aD ρ (lk L) (aP ρ (lk L) G) w (.vec id) v→v=ρ id:=by
     intro v hv;unfold aD at hv;obtain⟨_,o,ho,h4⟩:=hv;rw[show lk L id=some (.vec c e)from de]at ho;cases ho;exact h4 c e rfl
    refine⟨fun v h=>⟨ρ,f1,f2, ?_⟩,fun cs h=>⟨ρ,f1,f2, ?_⟩⟩
    ·unfold af at h;rw[key v h];exact az f3
    ·unfold aN at h;obtain⟨u,rfl,h5⟩:=h;unfold aN;exact⟨u,rfl,by rw[key u h5];exact f3⟩
   ·exact same _
  ·exact same _
 ·exact same _
 ·rename_i id lo n;split
  ·rename_i c e de;refine⟨fun v h=> ?_,fun cs h=> ?_⟩
   ·obtain⟨aF,h1,h2,h3⟩:=acZ hs de h;exact⟨aF,h1,h2,by unfold af;exact h3 _⟩
   ·unfold aN at h;obtain⟨u,rfl,h5⟩:=h;obtain⟨aF,h1,h2,h3⟩:=acZ hs de (by unfold af;exact h5);exact⟨aF,h1,h2,by unfold aN;exact⟨u,rfl,h3 _⟩⟩
  ·exact same _
 ·exact same _
theorem tc:∀(aJ:List AV) {ces:List (Bool×aL×TypeId)} {L:List ab} {ρ:Nat→Value} {cs:List Value},Sat ρ (lk L) G w→aq ρ (lk L) (aP ρ (lk L) G) w aJ cs→
 ∃aF,Sat aF (lk (qq kY ces L aJ).2.1) G w∧vQ ρ L G w aF (qq kY ces L aJ).2.1∧aq aF (lk (qq kY ces L aJ).2.1) (aP aF (lk (qq kY ces L aJ).2.1) G) w (qq kY ces L aJ).1 cs
 |[],ces,L,ρ,cs,hs,hd=>⟨ρ,hs,Step.refl _ _ _ _,hd⟩
 |a::aJ,ces,L,ρ,cs,hs,hd=>by
  obtain⟨c1,c2,rfl,h1,h2⟩:=ah.1 hd;obtain⟨iq,h3,h4,h5⟩:=(ac0 (ces:=ces) hs).2 c1 h1;obtain⟨fE,h6,h7,h8⟩:=tc aJ (ces:=(kY ces L a).2.2) h3 (aq.step h4 aJ c2 h2);exact⟨fE,h6,h4.trans h7,ah.2 ⟨c1,c2,rfl,aN.step h7 _ _ h5,h8⟩⟩
theorem ac1{ces:List (Bool×aL×TypeId)}{a:AV}{v:Value}(hs:Sat ρ (lk L) G w)(hd:af ρ (lk L) (aP ρ (lk L) G) w a v):
 ∃aF,Sat aF (lk (o8 ces L a).2.1) G w∧vQ ρ L G w aF (o8 ces L a).2.1∧af aF (lk (o8 ces L a).2.1) (aP aF (lk (o8 ces L a).2.1) G) w (o8 ces L a).1 v:=by
 unfold o8;split
 ·rename_i ao;unfold af at hd;obtain⟨cs,h1,h2⟩:=hd;obtain⟨aF,h3,h4,h5⟩:=tc ao (ces:=ces) hs h2;exact⟨aF,h3,h4,by unfold af;exact⟨cs,h1,h5⟩⟩
 ·exact(ac0 hs).1 v hd
theorem te:∀(aJ:List AV) {ces:List (Bool×aL×TypeId)} {L:List ab} {ρ:Nat→Value} {vs:List Value},Sat ρ (lk L) G w→bI ρ (lk L) (aP ρ (lk L) G) w aJ vs→
 ∃aF,Sat aF (lk (qq o8 ces L aJ).2.1) G w∧vQ ρ L G w aF (qq o8 ces L aJ).2.1∧bI aF (lk (qq o8 ces L aJ).2.1) (aP aF (lk (qq o8 ces L aJ).2.1) G) w (qq o8 ces L aJ).1 vs
 |[],ces,L,ρ,cs,hs,hd=>⟨ρ,hs,Step.refl _ _ _ _,hd⟩
 |a::aJ,ces,L,ρ,cs,hs,hd=>by
  obtain⟨v,rest,rfl,h1,h2⟩:=aA.1 hd;obtain⟨iq,h3,h4,h5⟩:=ac1 (ces:=ces) hs h1;obtain⟨fE,h6,h7,h8⟩:=te aJ (ces:=(o8 ces L a).2.2) h3 (bI.step h4 aJ rest h2);exact⟨fE,h6,h4.trans h7,aA.2 ⟨v,rest,rfl,af.step h7 _ _ h5,h8⟩⟩
theorem aju{ces:List (Bool×aL×TypeId)}{a:AV}{v:Value}(hs:Sat ρ (lk L) G w)(hd:af ρ (lk L) (aP ρ (lk L) G) w a v):
 ∃aF,Sat aF (lk (abL ces L a).2) G w∧vQ ρ L G w aF (abL ces L a).2∧af aF (lk (abL ces L a).2) (aP aF (lk (abL ces L a).2) G) w (abL ces L a).1 v:=by
 unfold abL;split
 ·rename_i vs;unfold af at hd;obtain⟨us,h1,h2⟩:=hd;obtain⟨aF,h3,h4,h5⟩:=te vs (ces:=ces) hs h2;exact⟨aF,h3,h4,by unfold af;exact⟨us,h1,h5⟩⟩
 ·exact ac1 hs hd
theorem aeF{ces:List (Bool×aL×TypeId)}{r r':AV}{v:Value}{L':List ab}(h:Good ρ H G w (lk L) r v w')(h0:∀id,H id=none)(hc:ajs ces L r=some (L',r')):Good ρ H G w (lk L') r' v w':=by
 unfold ajs at hc;simp only[Bool.cond_eq_ite]at hc;split at hc
 ·rename_i hn;split at hc
  ·rename_i L1 r1 hL hr;simp only[Option.some.injEq,Prod.mk.injEq]at hc;obtain⟨rfl,rfl⟩:=hc;obtain⟨iq,h1,h2,h3,h4⟩:=h;obtain⟨fE,h5,h6,h7⟩:=aju (ces:=ces) h1 h2;exact Good.view (m:=0) ⟨fE,h5,h7,h3.trans h6,h4⟩ (jH hn) hL (fun i hi=>by omega) (fun id _=>h0 id) hr
  ·cases hc
 ·cases hc
end
end Go.Sx
namespace Go.Sx
open Go
def B.out(base:Nat):(b:B)→b.V→AV×List ab
 |.row r e,x=>(.vec base,[.vec (r.uA x) e])
 |.int k,x=>(.s (.int k x),[])
 |.bool,x=>(.s (.bool x),[])
 |.str,x=>(.s (.str x),[])
 |.arr k n,x=>(.ints k n x,[])
 |.fn,f=>(.s (.j8 f),[])
 |.mD r _,x=>(.s (.ro (r.uA x)),[])
def BL.out(base:Nat):(bs:List B)→BL bs→List AV×List ab
 |[],_=>([],[])
 |b::bs,(x,y)=>let p:=b.out base x;let q:=BL.out (base+p.2.length) bs y;(p.1::q.1,p.2++q.2)
def Ty.out(base:Nat):(t:Ty)→t.V→AV×List ab
 |.b x,v=>x.out base v
 |.st bs,v=>let q:=BL.out base bs v;(.agg q.1,q.2)
def AL.out(base:Nat):(ts:List Ty)→AL ts→List AV×List ab
 |[],_=>([],[])
 |t::ts,(x,y)=>let p:=t.out base x;let q:=AL.out (base+p.2.length) ts y;(p.1::q.1,p.2++q.2)
def AL.res(rs:List Ty)(y:AL rs):List ab×AV:=let q:=AL.out 0 rs y;(q.2,oneOf q.1)
def B.flat:B→Bool
 |.row r _=>r.flat
 |.mD _ _=>false
 |_=>true
def Ty.flat:Ty→Bool
 |.b x=>x.flat
 |.st bs=>bs.all B.flat
def B.nz:B→Bool
 |.row r _=>r.flat
 |_=>true
def Ty.nz:Ty→Bool
 |.b x=>x.nz
 |.st bs=>bs.all B.nz
def B.ces:B→List (Bool×aL×TypeId)
 |.row r e=>[(false,r.uA [],e)]
 |.mD r e=>[(true,r.uA [],e)]
 |_=>[]
def Ty.ces:Ty→List (Bool×aL×TypeId)
 |.b x=>x.ces
 |.st bs=>bs.flatMap B.ces
def dr(P:Program)(Z:aW)(f:FuncId)(ts rs:List Ty)(pre:AL ts→List Prop)(F:AL ts→AL rs):Prop:=
 ∀(x:AL ts),AL.ok ts x→bD (pre x)→∀(G:Nat→Prop) (w:World) (vs:List Value),(∀b,G b→b<w.heap.size)→Z.ok w→bI (fun _=>undef) (fun _=>none) (aP (fun _=>undef) (fun _=>none) G) w (AL.av ts x) vs→
  Calls P f vs.toArray w fun e w'=>∃v,e=.returned v∧Good (fun _=>undef) (fun _=>none) G w (lk (AL.res rs (F x)).1) (AL.res rs (F x)).2 v w'
def Ends(rs:List Ty)(y:AL rs)(L:List ab)(r:AV):Prop:=ajs (rs.flatMap Ty.ces) L r=some (AL.res rs y)
def aeA(a:AV)(k:AV→RM bH):RM bH:=
 match a with
 |.vec id=>.look id fun
  |some (.vec c _)=>k (.s (.ro c))
  |_=>.fail "frz"
 |a=>k a
def anm:List AV→(List AV→RM bH)→RM bH
 |[],k=>k []
 |a::aJ,k=>aeA a fun a'=>anm aJ fun dj=>k (a'::dj)
def ann(a:AV)(k:AV→RM bH):RM bH:=
 match a with
 |.agg ao=>anm ao fun s=>k (.agg s)
 |a=>aeA a k
def ano:List AV→(List AV→RM bH)→RM bH
 |[],k=>k []
 |a::aJ,k=>ann a fun a'=>ano aJ fun dj=>k (a'::dj)
def cp(ts rs:List Ty)(pre:AL ts→List Prop)(F:AL ts→AL rs):Nat→List AV→RM bH:=fun _ args=>
 ano args fun args=>match allM (rn (fun _=>none) 20) args with
  |some args=>(match AL.rd ts args with
   |some x=>bif rs.all Ty.flat then .ret ⟨pre x,[],(AL.res rs (F x)).1,fun base=>oneOf (AL.out base rs (F x)).1⟩else .fail "sum: not flat"
   |none=>.fail "sum: arguments")
  |none=>.fail "sum: names"
section
variable{g:Nat→Option Nat}{ρ aF:Nat→Value}{H H':aM}{G O O':Nat→Prop}{w w':World}{P:Program}{S:eU}{Z:aW}{X:Ctx}{s:St}{a:Act}{K:List ab→AV→Prop}{C:bw→Prop}{L:List ab}
theorem AL.vS:∀{ts:List Ty} (x:AL ts),(AL.av ts x).length=ts.length
 |[],_=>rfl
 |_::_,(_,y)=>congrArg (· +1) (AL.vS y)
theorem aB{f:FuncId}{fn:Func}{ts rs:List Ty}{pre:AL ts→List Prop}{F:AL ts→AL rs}(hf:P.funcs[f]? =some fn)(hb:fn.body.isSome=true)(hn:ts.length.ble fn.ntmps=true)
 (h:∀x,AL.ok ts x→bD (pre x)→∀X:Ctx,(∀id,X.H id=none)→dP Z X→Safe P f X (Ends rs (F x)) (start fn (AL.av ts x) [])):dr P Z f ts rs pre F:=by
 intro x hok kx G w vs hG hz hd;obtain⟨c,hb⟩:=Option.isSome_iff_exists.1 hb;have hn:=Nat.le_of_ble_eq_true hn;have apM:(AL.av ts x).length=ts.length:=AL.vS x
 have mF:∀{aJ:List AV} {vs:List Value},bI (fun _=>undef) (fun _=>none) (aP (fun _=>undef) (fun _=>none) G) w aJ vs→vs.length=aJ.length:=by
  intro aJ
  induction aJ with
  |nil=>intro vs h;rw[aU.1 h];rfl
  |cons a aJ ih=>intro vs h;obtain⟨v,rest,rfl,_,h2⟩:=aA.1 h;simp[ih h2]
 refine(hM (R:=iR ⟨fun _=>undef,fun _=>none,G,w,[]⟩ (Ends rs (F x))) hf hb ?_).mono ?_
 ·have:=(h x hok kx ⟨fun _=>undef,fun _=>none,G,w,[]⟩ (fun _=>rfl) ⟨hz,fun b _ ⟨id,o,ho,_⟩=>by cases ho⟩).goes rfl rfl (ρ:=fun _=>undef) (a:={tmps:=vs.toArray++Array.replicate (fn.ntmps - vs.toArray.size) undef,defers:=[]}) (w:=w);simp only[start,hb,Option.getD_some]at this;refine this ⟨⟨fun id o ho=>by simp[St.look]at ho,fun i j oi oj b hi=>by simp[St.look]at hi,fun b rl=> ?_,hG⟩, ?_,fun t=> ?_,rfl, ?_, ?_,fun x hx=>by cases hx⟩
  ·obtain⟨id,o,ho,_⟩:=rl;simp[St.look]at ho
  ·have:=mF hd;simp[this]
  ·have e1:∀t,af (fun _=>undef) (St.look ⟨AL.av ts x++List.replicate (fn.ntmps - (AL.av ts x).length) (.bg []),[]⟩) (aP (fun _=>undef) (St.look ⟨AL.av ts x++List.replicate (fn.ntmps - (AL.av ts x).length) (.bg []),[]⟩) G) w ((AL.av ts x).getD t (.bg [])) (vs.getD t undef):=by
    have e0:(St.look ⟨AL.av ts x++List.replicate (fn.ntmps - (AL.av ts x).length) (.bg []),[]⟩)=fun _=>none:=by funext i;simp[St.look]
    rw[e0];generalize AL.av ts x=aJ at hd;clear apM e0 this
    induction aJ generalizing vs with
    |nil=>intro t;rw[aU.1 hd];simp only[List.getD,List.getElem?_nil,Option.getD_none];exact cC
    |cons a aJ ih=>
     intro t;obtain⟨v,rest,rfl,h1,h2⟩:=aA.1 hd;cases t with
     |zero=>simpa using h1
     |succ t=>simpa using ih rest h2 t
   have h1:=e1 t;have hl:=mF hd;simp only[List.getD_eq_getElem?_getD,List.getElem?_append,List.getElem?_replicate,Array.getD_eq_getD_getElem?,Array.getElem?_append,List.getElem?_toArray,Array.getElem?_replicate,List.size_toArray]at h1 ⊢;rw[hl];split
   ·rename_i ht;have hv:vs[t]? =some vs[t]:=List.getElem?_eq_getElem (by omega);have ha:(AL.av ts x)[t]? =some (AL.av ts x)[t]:=List.getElem?_eq_getElem ht;rw[hv,ha]at h1 ⊢;exact h1
   ·split
    ·exact cC
    ·simp only[Option.getD_none];unfold af;trivial
  ·have e0:(St.look ⟨AL.av ts x++List.replicate (fn.ntmps - (AL.av ts x).length) (.bg []),[]⟩)=fun _=>none:=by funext i;simp[St.look]
   rw[e0];exact Step.refl _ _ _ _
  ·exact⟨rfl,rfl,rfl,fun _ _ _=>rfl⟩
 ·rintro e w' ⟨v,he,L,r,hk,hg⟩;refine⟨v,he, ?_⟩;exact aeF hg (fun _=>rfl) hk
theorem RM.ac2{aJ:AV}{k:AV→RM bH}{q:bH}(h:(aeA aJ k).eval H=some q)(hs:Sat ρ H G w):∃a',(k a').eval H=some q∧(∀v,af ρ H (aP ρ H G) w aJ v→af ρ H (fun _=>False) w a' v)∧(∀cs,aN ρ H (aP ρ H G) w aJ cs→aN ρ H (fun _=>False) w a' cs):=by
 have less:Emb (fun i=>some i) ρ H (aP ρ H G) ρ H (fun _=>False):=⟨fun i j h=>by cases h;exact⟨rfl,fun o ho=>⟨o,ho,fun c e hc=>hc⟩⟩,fun b hb=>hb.elim⟩;have apN:∀(a:AV) (v:Value),af ρ H (aP ρ H G) w a v→af ρ H (fun _=>False) w a v:=fun a v hd=>af.step ⟨fun _ _ _=>rfl,fun _ o h=>⟨o,h,fun c' e' e=>⟨c',e',e,rfl,rfl⟩⟩,fun b hb=>hb.elim,fun _ _ _=>rfl,Nat.le_refl _⟩ a v hd;have apO:∀(a:AV) (v:List Value),aN ρ H (aP ρ H G) w a v→aN ρ H (fun _=>False) w a v:=fun a v hd=>aN.step ⟨fun _ _ _=>rfl,fun _ o h=>⟨o,h,fun c' e' e=>⟨c',e',e,rfl,rfl⟩⟩,fun b hb=>hb.elim,fun _ _ _=>rfl,Nat.le_refl _⟩ a v hd;unfold aeA at h;split at h
 ·rename_i id;simp only[RM.eval]at h;split at h
  ·rename_i c e hc;have dQ:=hs.obj id _ hc;obtain⟨r,cap,h0,h1,h2,h3⟩:=dQ
   have key:∀v,aD ρ H (aP ρ H G) w (.vec id) v→aT (fun _=>False) w (.ro c) v:=by
    intro v hv;unfold aD at hv;obtain⟨_,o,ho,h4⟩:=hv;rw[hc]at ho;cases ho;rw[h4 c e rfl,h0];rcases h3 with h3|⟨b,f,cells,fr,us,rfl,h5,h6,h7,h8⟩
    ·exact .ro c r cap (fun _ _=>undef) 0 0 h1 h2 (fun h=>by omega) (fun i j hi hj=>by omega) (fun i j hi hj=>by omega)
    ·refine .ro c _ cap us b f h1 h2 (fun _=>⟨rfl,fun h=>h.elim,(Array.getElem?_eq_some_iff.1 h5).1⟩) (fun i j hi hj=> ?_) (fun i j hi hj=>(h8 i j hi hj).2.less (fun b hb=>hb.elim));have:=(h8 i j hi hj).1;simp only[World.cell?,h5];simpa using this
   exact⟨_,h,fun v hv=>az (key v (by unfold af at hv;exact hv)),fun cs hv=>by unfold aN at *;obtain⟨u,rfl,h9⟩:=hv;exact⟨u,rfl,key u h9⟩⟩
  ·simp[RM.eval]at h
 ·exact⟨_,h,apN _,apO _⟩
theorem RM.ac3:∀{aJ:List AV} {k:List AV→RM bH} {q:bH},(anm aJ k).eval H=some q→Sat ρ H G w→∃dj,(k dj).eval H=some q∧∀cs,aq ρ H (aP ρ H G) w aJ cs→aq ρ H (fun _=>False) w dj cs
 |[],k,q,h,hs=>⟨[],h,fun cs hd=>by rw[aw.1 hd];exact aw.2 rfl⟩
 |a::aJ,k,q,h,hs=>by
  obtain⟨a',h1,h2,h3⟩:=RM.ac2 h hs;obtain⟨dj,h4,h5⟩:=RM.ac3 h1 hs;refine⟨a'::dj,h4,fun cs hd=> ?_⟩;obtain⟨c1,c2,rfl,h6,h7⟩:=ah.1 hd;exact ah.2 ⟨c1,c2,rfl,h3 c1 h6,h5 c2 h7⟩
theorem RM.ajv{aJ:AV}{k:AV→RM bH}{q:bH}(h:(ann aJ k).eval H=some q)(hs:Sat ρ H G w):∃a',(k a').eval H=some q∧(∀v,af ρ H (aP ρ H G) w aJ v→af ρ H (fun _=>False) w a' v):=by
 unfold ann at h;split at h
 ·obtain⟨dj,h1,h2⟩:=RM.ac3 h hs;refine⟨_,h1,fun v hd=> ?_⟩;unfold af at *;obtain⟨cs,h3,h4⟩:=hd;exact⟨cs,h3,h2 cs h4⟩
 ·obtain⟨a',h1,h2,_⟩:=RM.ac2 h hs;exact⟨a',h1,h2⟩
theorem RM.ac4:∀{aJ:List AV} {k:List AV→RM bH} {q:bH},(ano aJ k).eval H=some q→Sat ρ H G w→∃dj,(k dj).eval H=some q∧∀cs,bI ρ H (aP ρ H G) w aJ cs→bI ρ H (fun _=>False) w dj cs
 |[],k,q,h,hs=>⟨[],h,fun cs hd=>by rw[aU.1 hd];exact aU.2 rfl⟩
 |a::aJ,k,q,h,hs=>by
  obtain⟨a',h1,h2⟩:=RM.ajv h hs;obtain⟨dj,h4,h5⟩:=RM.ac4 h1 hs;refine⟨a'::dj,h4,fun cs hd=> ?_⟩;obtain⟨v,rest,rfl,h6,h7⟩:=aA.1 hd;exact aA.2 ⟨v,rest,rfl,h2 v h6,h5 rest h7⟩
theorem q7:∀{cs:List CK} (_:cs.all CK.flat=true) {x:CL cs} {j:Nat} {u:Value},j<CL.wide cs→aT O w (CL.cell cs x j) u→aT O' w (CL.cell cs x j) u
 |[],_,x,j,u,hj,h=>by simp[CL.wide]at hj
 |c::cs,hf,x,j,u,hj,h=>by
  simp only[List.all_cons,Bool.and_eq_true]at hf;simp only[CL.cell]at h ⊢;rcases Nat.lt_or_ge j c.wide with h5|h5
  ·rw[lG h5,cond_true]at h ⊢;cases c<;>simp only[CK.flat,Bool.false_eq_true]at hf
   case int k=>exact(by simp only[CK.cell]at h ⊢;cases h;constructor)
   case bool=>exact(by simp only[CK.cell]at h ⊢;cases h;constructor)
   case str=>exact(by simp only[CK.cell]at h ⊢;cases h;constructor)
   case arr k n=>exact(by simp only[CK.cell]at h ⊢;cases h;constructor)
   all_goals exact hf.1.elim
  ·rw[oG h5,cond_false]at h ⊢;exact q7 hf.2 (by simp only[CL.wide]at hj;omega) h
theorem RK.zp{r:RK}(hr:r.flat=true){x:r.V}{i j:Nat}{u:Value}(hj:j<(r.uA x).size)(h:aT O w ((r.uA x).cell i j) u):aT O' w ((r.uA x).cell i j) u:=by
 cases r
 case ad cs=>exact q7 hr hj h
 all_goals (simp only[RK.uA,aL.cell]at h ⊢;cases h;constructor)
def Plain(o:ab):Prop:=∃(r:RK) (x:r.V) (e:TypeId),r.flat=true∧o=.vec (r.uA x) e
theorem B.er{b:B}(hb:b.nz=true){x:b.V}{base:Nat}:∀o∈(b.out base x).2,Plain o:=by
 cases b with
 |row r e=>intro o ho;simp only[B.out,List.mem_singleton]at ho;exact⟨r,x,e,hb,ho⟩
 |_=>intro o ho;simp[B.out]at ho
theorem BL.er:∀{bs:List B},bs.all B.nz=true→∀{x:BL bs} {base:Nat},∀o∈(BL.out base bs x).2,Plain o
 |[],_,x,base,o,ho=>by simp[BL.out]at ho
 |b::bs,hb,(x,y),base,o,ho=>by
  simp only[List.all_cons,Bool.and_eq_true]at hb;simp only[BL.out,List.mem_append]at ho;rcases ho with ho|ho
  ·exact B.er hb.1 o ho
  ·exact BL.er hb.2 o ho
theorem Ty.er{t:Ty}(ht:t.nz=true){x:t.V}{base:Nat}:∀o∈(t.out base x).2,Plain o:=by
 cases t with
 |b y=>exact B.er ht
 |st bs=>exact BL.er ht
theorem AL.er:∀{ts:List Ty},ts.all Ty.nz=true→∀{x:AL ts} {base:Nat},∀o∈(AL.out base ts x).2,Plain o
 |[],_,x,base,o,ho=>by simp[AL.out]at ho
 |b::bs,hb,(x,y),base,o,ho=>by
  simp only[List.all_cons,Bool.and_eq_true]at hb;simp only[AL.out,List.mem_append]at ho;rcases ho with ho|ho
  ·exact Ty.er hb.1 o ho
  ·exact AL.er hb.2 o ho
structure o9 (base n:Nat) (ρ:Nat→Value) (H:aM) (aF:Nat→Value) (H':aM):Prop where
 r5:∀i,i<n→aF (base+i)=ρ i
 heap:∀i,i<n→H' (base+i)=H i
theorem vT{base n k:Nat}(sh:o9 base n ρ H aF H')(hk:k<n){v:Value}(h:aD ρ H O w (.vec k) v):aD aF H' O' w (.vec (base+k)) v:=by
 unfold aD at *;obtain⟨h0,o,ho,h1⟩:=h;exact⟨h0,o,by rw[sh.heap k hk];exact ho,fun c e hc=>by rw[sh.r5 k hk];exact h1 c e hc⟩
theorem B.anp{base n k:Nat}(sh:o9 base n ρ H aF H'){b:B}(hO:b.flat=true∨∀i,O' i→O i){x:b.V}(hk:k+(b.out k x).2.length≤n){v:Value}(h:af ρ H O w (b.out k x).1 v):af aF H' O' w (b.out (base+k) x).1 v:=by
 cases b with
 |row r e=>
  simp only[B.out,List.length_cons,List.length_nil]at hk h ⊢;unfold af at *;exact vT sh (by omega) h
 |int k=>exact az (by have:=ak (by simp) h;cases this;constructor)
 |bool=>exact az (by have:=ak (by simp) h;cases this;constructor)
 |str=>exact az (by have:=ak (by simp) h;cases this;constructor)
 |fn=>exact az (by have:=ak (by simp) h;cases this;constructor)
 |mD r e=>
  rcases hO with hO|hO
  ·cases hO
  ·exact az ((ak (by simp) h).less hO)
 |arr k n=>simp only[B.out]at h ⊢;unfold af at *;exact h
theorem B.anq{base n k:Nat}(sh:o9 base n ρ H aF H'){b:B}(hO:b.flat=true∨∀i,O' i→O i){x:b.V}(hk:k+(b.out k x).2.length≤n){v:List Value}(h:aN ρ H O w (b.out k x).1 v):aN aF H' O' w (b.out (base+k) x).1 v:=by
 cases b with
 |row r e=>
  simp only[B.out,List.length_cons,List.length_nil]at hk h ⊢;unfold aN at *;obtain⟨u,rfl,h1⟩:=h;exact⟨u,rfl,vT sh (by omega) h1⟩
 |int k=>simp only[B.out]at h ⊢;unfold aN at *;obtain⟨u,rfl,h1⟩:=h;exact⟨u,rfl,by cases h1;constructor⟩
 |bool=>simp only[B.out]at h ⊢;unfold aN at *;obtain⟨u,rfl,h1⟩:=h;exact⟨u,rfl,by cases h1;constructor⟩
 |str=>simp only[B.out]at h ⊢;unfold aN at *;obtain⟨u,rfl,h1⟩:=h;exact⟨u,rfl,by cases h1;constructor⟩
 |fn=>simp only[B.out]at h ⊢;unfold aN at *;obtain⟨u,rfl,h1⟩:=h;exact⟨u,rfl,by cases h1;constructor⟩
 |mD r e=>
  simp only[B.out]at h ⊢;unfold aN at *;obtain⟨u,rfl,h1⟩:=h;rcases hO with hO|hO
  ·cases hO
  ·exact⟨u,rfl,h1.less hO⟩
 |arr k n=>simp only[B.out]at h ⊢;unfold aN at *;exact h
theorem B.jI{b:B}{x:b.V}(k k':Nat):(b.out k x).2=(b.out k' x).2:=by cases b<;>rfl
theorem BL.jI:∀{bs:List B} {x:BL bs} (k k':Nat),(BL.out k bs x).2=(BL.out k' bs x).2
 |[],_,_,_=>rfl
 |b::bs,(x,y),k,k'=>by
  simp only[BL.out];rw[B.jI k k',BL.jI (k+_) (k'+(b.out k' x).2.length)]
theorem Ty.jI{t:Ty}{x:t.V}(k k':Nat):(t.out k x).2=(t.out k' x).2:=by
 cases t with
 |b y=>exact B.jI k k'
 |st bs=>exact BL.jI k k'
theorem BL.shift{base n:Nat}(sh:o9 base n ρ H aF H'):∀{bs:List B} (_:bs.all B.flat=true∨∀i,O' i→O i) {k:Nat} {x:BL bs} {cs:List Value},k+(BL.out k bs x).2.length≤n→aq ρ H O w (BL.out k bs x).1 cs→aq aF H' O' w (BL.out (base+k) bs x).1 cs
 |[],_,k,x,cs,hk,h=>by rw[aw.1 h];exact aw.2 rfl
 |b::bs,hO,k,(x,y),cs,hk,h=>by
  simp only[BL.out,List.length_append]at hk h ⊢;obtain⟨c1,c2,rfl,h1,h2⟩:=ah.1 h;have hO1:b.flat=true∨∀i,O' i→O i:=hO.imp (fun h=>by simp only[List.all_cons,Bool.and_eq_true]at h;exact h.1) (fun h=>h);have hO2:bs.all B.flat=true∨∀i,O' i→O i:=hO.imp (fun h=>by simp only[List.all_cons,Bool.and_eq_true]at h;exact h.2) (fun h=>h);refine ah.2 ⟨c1,c2,rfl,B.anq sh hO1 (by omega) h1, ?_⟩;rw[B.jI (base+k) k,Nat.add_assoc];exact BL.shift sh hO2 (by omega) h2
theorem Ty.shift{base n k:Nat}(sh:o9 base n ρ H aF H'){t:Ty}(hO:t.flat=true∨∀i,O' i→O i){x:t.V}(hk:k+(t.out k x).2.length≤n){v:Value}(h:af ρ H O w (t.out k x).1 v):af aF H' O' w (t.out (base+k) x).1 v:=by
 cases t with
 |b y=>exact B.anp sh hO hk h
 |st bs=>
  simp only[Ty.out]at hk h ⊢;unfold af at *;obtain⟨cs,h1,h2⟩:=h;exact⟨cs,h1,BL.shift sh hO hk h2⟩
theorem AL.shift{base n:Nat}(sh:o9 base n ρ H aF H'):∀{ts:List Ty} (_:ts.all Ty.flat=true∨∀i,O' i→O i) {k:Nat} {x:AL ts} {vs:List Value},k+(AL.out k ts x).2.length≤n→bI ρ H O w (AL.out k ts x).1 vs→bI aF H' O' w (AL.out (base+k) ts x).1 vs
 |[],_,k,x,vs,hk,h=>by rw[aU.1 h];exact aU.2 rfl
 |b::bs,hO,k,(x,y),cs,hk,h=>by
  simp only[AL.out,List.length_append]at hk h ⊢;obtain⟨c1,c2,rfl,h1,h2⟩:=aA.1 h;have hO1:b.flat=true∨∀i,O' i→O i:=hO.imp (fun h=>by simp only[List.all_cons,Bool.and_eq_true]at h;exact h.1) (fun h=>h);have hO2:bs.all Ty.flat=true∨∀i,O' i→O i:=hO.imp (fun h=>by simp only[List.all_cons,Bool.and_eq_true]at h;exact h.2) (fun h=>h);refine aA.2 ⟨c1,c2,rfl,Ty.shift sh hO1 (by omega) h1, ?_⟩;rw[Ty.jI (base+k) k,Nat.add_assoc];exact AL.shift sh hO2 (by omega) h2
theorem AL.xy:∀{ts:List Ty} {x:AL ts} (k:Nat),(AL.out k ts x).1.length=ts.length
 |[],_,_=>rfl
 |b::bs,(x,y),k=>by simp[AL.out,AL.xy]
theorem vU{base:Nat}{rs:List Ty}(hO:rs.all Ty.flat=true∨∀i,O' i→O i){y:AL rs}(sh:o9 base (AL.res rs y).1.length ρ H aF H'){v:Value}(h:af ρ H O w (AL.res rs y).2 v):af aF H' O' w (oneOf (AL.out base rs y).1) v:=by
 unfold AL.res at h sh;simp only[]at h sh;have hl:∀vs,bI ρ H O w (AL.out 0 rs y).1 vs→bI aF H' O' w (AL.out (base+0) rs y).1 vs:=fun vs=>AL.shift (k:=0) (x:=y) (O:=O) (O':=O') (w:=w) sh hO (by omega);have l0:=AL.xy (x:=y) 0;have l1:=AL.xy (x:=y) base;generalize (AL.out 0 rs y).1=aJ at *;rw[Nat.add_zero]at hl;generalize (AL.out base rs y).1=bs at *;unfold oneOf at h ⊢;split at h
 ·rename_i a;cases bs with
  |nil=>simp at l0 l1;omega
  |cons b bs=>
   cases bs with
   |nil=>
    have:=hl [v] (aA.2 ⟨v,[],rfl,h,aU.2 rfl⟩);obtain⟨v',rest,e,h1,_⟩:=aA.1 this;cases e;exact h1
   |cons c cs=>simp at l0 l1;omega
 ·rename_i cL;split
  ·rename_i b;cases aJ with
   |nil=>simp at l0 l1;omega
   |cons a aJ=>
    cases aJ with
    |nil=>exact(cL a rfl).elim
    |cons c cs=>simp at l0 l1;omega
  ·unfold af at *;obtain⟨us,h1,h2⟩:=h;exact⟨us,h1,hl us h2⟩
def kZ(P:Program)(Z:aW)(f:FuncId)(s:Nat→List AV→RM bH):Prop:=
 ∀(base:Nat) (args:List AV) (H:aM) (q:bH),(s base args).eval H=some q→bD q.need→∀(ρ:Nat→Value) (G:Nat→Prop) (w:World) (vs:List Value),
  (∀i,i<q.new.length→H (base+i)=none)→ZAt Z ρ H w→Sat ρ H G w→bI ρ H (aP ρ H G) w args vs→
  Calls P f vs.toArray w fun en w'=>∃v,en=.returned v∧Good ρ H G w (cW H q.up base q.new) (q.r base) v w'
theorem dr.sum{f:FuncId}{ts rs:List Ty}{pre:AL ts→List Prop}{F:AL ts→AL rs}(h:dr P Z f ts rs pre F):kZ P Z f (cp ts rs pre F):=by
 intro base args H q hq hn ρ G w vs dV hz hs hd;unfold cp at hq;obtain⟨apP,hq,h1⟩:=RM.ac4 hq hs;split at hq
 ·rename_i apQ h2;split at hq
  ·rename_i x h3;rw[Bool.cond_eq_ite]at hq;split at hq
   ·rename_i zq;simp only[RM.eval,Option.some.injEq]at hq;subst hq
    have anr:∀b,¬aP (fun _=>undef) (fun _=>none) (fun _=>False) b:=by
     rintro b (⟨id,o,ho,_⟩|hb)
     ·cases ho
     ·exact hb
    have E:Emb (fun _=>none) ρ H (fun _=>False) (fun _=>undef) (fun _=>none) (aP (fun _=>undef) (fun _=>none) (fun _=>False)):=⟨fun i j kP=>(by cases kP),fun b hb=>(anr b hb).elim⟩;have hd2:=rJ E h2 (h1 vs hd);have hd3:bI (fun _=>undef) (fun _=>none) (aP (fun _=>undef) (fun _=>none) (fun _=>False)) w (AL.av ts x) vs:=AL.mE h3 hd2;refine(h x (AL.okL hd3) hn (fun _=>False) w vs (fun b hb=>hb.elim) hz.1 hd3).mono ?_;rintro e w' ⟨v,he,iq,g1,g2,g3,g4⟩;refine⟨v,he, ?_⟩;simp only[]
    have ans:rs.all Ty.nz=true:=by
     rw[List.all_eq_true]at zq ⊢;intro t ht;have:=zq t ht;cases t with
     |b y=>cases y<;>first|rfl|exact this|cases this
     |st bs=>
      change bs.all B.flat=true at this;show bs.all B.nz=true;rw[List.all_eq_true]at this ⊢;intro b hb;have:=this b hb;cases b<;>first|rfl|exact this|cases this
    have hpl:=AL.er ans (x:=F x) (base:=0);have agA:(AL.res rs (F x)).1=(AL.out 0 rs (F x)).2:=rfl;rw[←agA]at hpl;generalize hL:(AL.res rs (F x)).1=L at *
    have qp:∀b,Own iq (lk L) b→w.heap.size≤b:=fun b hb=>by
     rcases g3.fz b (.inl hb)with h5|h5
     ·exact(anr b h5).elim
     ·exact h5
    let fE:Nat→Value:=fun id=>if base≤id∧id<base+L.length then iq (id - base)else ρ id
    let H2:=cW H [] base L;have hH2:∀id,H2 id=if base≤id∧id<base+L.length then L[id - base]? else H id:=fun id=>rfl
    have sh:o9 base L.length iq (lk L) fE H2:=⟨fun i hi=>by simp only[fE];rw[if_pos (by omega)];congr 1;omega,fun i hi=>by rw[hH2,if_pos (by omega)];simp[lk]⟩
    have hold:∀{id:Nat} {o:ab},H id=some o→¬(base≤id∧id<base+L.length):=fun{id o} ho hc=>by
     have:=dV (id - base) (by simp only[];omega);rw[show base+(id - base)=id from by omega,ho]at this;cases this
    have vV:∀b,Own fE H2 b→Own iq (lk L) b∨Own ρ H b:=by
     rintro b ⟨id,o,ho,ha,hb⟩;rw[hH2]at ho;simp only[fE]at hb;split at ho
     ·rename_i hc;rw[if_pos hc]at hb;exact .inl ⟨id - base,o,ho,ha,hb⟩
     ·rename_i hc;rw[if_neg hc]at hb;exact .inr ⟨id,o,ho,ha,hb⟩
    have heap:∀b,b<w.heap.size→w'.heap[b]? =w.heap[b]? :=fun b hb=>g4.heap b hb (fun ho=>anr b (.inl ho));have zr:w.heap.size≤w'.heap.size:=g3.size
    have st:Step ρ H (aP ρ H G) w fE H2 (aP fE H2 G) w':=by
     refine⟨fun id o ho=> ?_,fun id o ho=> ?_,fun b hb=> ?_,fun b hb _=>heap b hb,zr⟩
     ·simp only[fE];rw[if_neg (hold ho)]
     ·exact⟨o,by rw[hH2,if_neg (hold ho)];exact ho,fun c' e' hc=>⟨c',e',hc,rfl,rfl⟩⟩
     ·rcases hb with hb|hb
      ·rcases vV b hb with h5|h5
       ·exact .inr (qp b h5)
       ·exact .inl (.inl h5)
      ·exact .inl (.inr hb)
    refine⟨fE,⟨fun id o ho=> ?_,fun i j oi oj b hi hj ai aj bi bj=> ?_,fun b hb hG=> ?_,fun b hb=>Nat.lt_of_lt_of_le (hs.low b hb) zr⟩,vU (.inl zq) (O:=aP iq (lk L) (fun _=>False)) (hL▸sh) (by rw[hL];exact g2),st,⟨g4.os,g4.tape,g4.output,fun b hb _=>heap b hb⟩⟩
    ·change H2 id=some o at ho;rw[hH2]at ho;simp only[fE];split at ho
     ·rename_i hc;rw[if_pos hc];have dQ:=g1.obj (id - base) o ho;obtain⟨r,y,e',hr,rfl⟩:=hpl o (List.mem_of_getElem? ho);obtain⟨a0,cap,k0,k1,k2,k3⟩:=dQ;refine⟨a0,cap,k0,k1,k2,k3.imp (fun h=>h) ?_⟩;rintro⟨b,f0,cells,fr,us,k4,k5,k6,k7,k8⟩;exact⟨b,f0,cells,fr,us,k4,k5,k6,k7,fun i j hi hj=>⟨(k8 i j hi hj).1,RK.zp hr hj (k8 i j hi hj).2⟩⟩
     ·rename_i hc;rw[if_neg hc];have dQ:=hs.obj id o ho;refine dQ.step st (fun b ha hb=>heap b ?_);exact gu hs ⟨id,o,ho,ha,hb⟩
    ·change H2 i=some oi at hi;change H2 j=some oj at hj;rw[hH2]at hi hj;simp only[fE]at bi bj;split at hi
     ·rename_i ci;rw[if_pos ci]at bi;have o1:Own iq (lk L) b:=⟨_,oi,hi,ai,bi⟩;split at hj
      ·rename_i cj;rw[if_pos cj]at bj;have:=g1.inj (i - base) (j - base) oi oj b hi hj ai aj bi bj;omega
      ·rename_i cj;rw[if_neg cj]at bj;have:=gu hs ⟨j,oj,hj,aj,bj⟩;have:=qp b o1;omega
     ·rename_i ci;rw[if_neg ci]at bi;have h6:=gu hs ⟨i,oi,hi,ai,bi⟩;split at hj
      ·rename_i cj;rw[if_pos cj]at bj;have:=qp b ⟨_,oj,hj,aj,bj⟩;omega
      ·rename_i cj;rw[if_neg cj]at bj;exact hs.inj i j oi oj b hi hj ai aj bi bj
    ·rcases vV b hb with h5|h5
     ·have:=qp b h5;have:=hs.low b hG;omega
     ·exact hs.apart b h5 hG
   ·simp[RM.eval]at hq
  ·simp[RM.eval]at hq
 ·simp[RM.eval]at hq
abbrev aH:=List (FuncId×(Nat→List AV→RM bH))
def aH.get:aH→FuncId→Option (Nat→List AV→RM bH)
 |[],_=>none
 |(g,s)::t,f=>bif g.beq f then some s else aH.get t f
def aH.sum(t:aH):eU:=fun base f args=>match t.get f with
 |some s=>s base args
 |none=>.fail "no summary"
def aH.Ok(P:Program)(Z:aW)(t:aH):Prop:=∀x∈t,kZ P Z x.1 x.2
theorem aH.get_mem:∀{t:aH} {f:FuncId} {s:Nat→List AV→RM bH},t.get f=some s→(f,s)∈t
 |[],f,s,h=>by simp[aH.get]at h
 |(g,s')::t,f,s,h=>by
  simp only[aH.get,Bool.cond_eq_ite]at h;split at h
  ·rename_i hg;obtain rfl:=Nat.eq_of_beq_eq_true hg;cases h;simp
  ·exact List.mem_cons_of_mem _ (aH.get_mem h)
theorem aH.sOk{t:aH}(h:t.Ok P Z):SOk P t.sum Z:=by
 intro base f args H q _ hq hn ρ G w vs hf hz hs hd;unfold aH.sum at hq;split at hq
 ·rename_i s hg;exact h _ (aH.get_mem hg) base args H q hq hn ρ G w vs hf hz hs hd
 ·simp[RM.eval]at hq
theorem aH.Ok.nil:aH.Ok P Z []:=fun x hx=>by simp at hx
theorem aH.Ok.cons{f:FuncId}{s:Nat→List AV→RM bH}{t:aH}(h:kZ P Z f s)(ht:aH.Ok P Z t):aH.Ok P Z ((f,s)::t):=by
 intro x hx;rcases List.mem_cons.1 hx with rfl|hx
 ·exact h
 ·exact ht x hx
end
end Go.Sx
namespace Go.Sx
open Go
def ac5(a:AV)(ids:List Nat)(k:AV→List Nat→RM bH):RM bH:=
 match a with
 |.vec id=>.look id fun
  |some (.vec c _)=>k (.s (.ro c)) (id::ids)
  |_=>.fail "frz"
 |a=>k a ids
def agB:List AV→List Nat→(List AV→List Nat→RM bH)→RM bH
 |[],ids,k=>k [] ids
 |a::aJ,ids,k=>ac5 a ids fun a' ids=>agB aJ ids fun dj ids=>k (a'::dj) ids
def agC(a:AV)(ids:List Nat)(k:AV→List Nat→RM bH):RM bH:=
 match a with
 |.agg ao=>agB ao ids fun s ids=>k (.agg s) ids
 |a=>ac5 a ids k
def agD:List AV→List Nat→(List AV→List Nat→RM bH)→RM bH
 |[],ids,k=>k [] ids
 |a::aJ,ids,k=>agC a ids fun a' ids=>agD aJ ids fun dj ids=>k (a'::dj) ids
def tg(ts rs:List Ty)(pre:AL ts→List Prop)(F:AL ts→AL rs):Nat→List AV→RM bH:=fun _ args=>
 agD args [] fun args ids=>match allM (rn (fun _=>none) 20) args with
  |some args=>(match AL.rd ts args with
   |some x=>bif rs.all Ty.nz then .ret ⟨pre x,ids.map fun i=>(i,.dead),(AL.res rs (F x)).1,fun base=>oneOf (AL.out base rs (F x)).1⟩else .fail "sum: not flat"
   |none=>.fail "sum: arguments")
  |none=>.fail "sum: names"
section
variable{ρ aF:Nat→Value}{H H':aM}{G O O':Nat→Prop}{w w':World}{P:Program}{Z:aW}
structure zt (ρ:Nat→Value) (H:aM) (G:Nat→Prop) (ids lN:List Nat):Prop where
 sub:∀i∈ids,i∈lN
 vec:∀i∈lN,i∈ids∨∃c e,H i=some (.vec c e)
abbrev jo(ρ:Nat→Value)(H:aM)(G:Nat→Prop)(ids:List Nat)(O:Nat→Prop):Prop:=(∀b,O b→aP ρ H G b)∧∀i∈ids,∀b,eg (ρ i)=some b→¬O b
theorem zt.trans{a b c:List Nat}(h:zt ρ H G a b)(k:zt ρ H G b c):zt ρ H G a c:=
 ⟨fun i hi=>k.sub i (h.sub i hi),fun i hi=>(k.vec i hi).elim (fun h1=>h.vec i h1) .inr⟩
theorem zu{a:AV}{ids:List Nat}{k:AV→List Nat→RM bH}{q:bH}(h:(ac5 a ids k).eval H=some q)(hs:Sat ρ H G w):
 ∃a' lN,(k a' lN).eval H=some q∧zt ρ H G ids lN∧∀O,jo ρ H G lN O→(∀v,af ρ H (aP ρ H G) w a v→af ρ H O w a' v)∧(∀cs,aN ρ H (aP ρ H G) w a cs→aN ρ H O w a' cs):=by
 have vQ:∀O,jo ρ H G ids O→Step ρ H (aP ρ H G) w ρ H O w:=fun O hO=>⟨fun _ _ _=>rfl,fun _ o h=>⟨o,h,fun c' e' e=>⟨c',e',e,rfl,rfl⟩⟩,fun b hb=>.inl (hO.1 b hb),fun _ _ _=>rfl,Nat.le_refl _⟩;unfold ac5 at h;split at h
 ·rename_i id;simp only[RM.eval]at h;split at h
  ·rename_i c e hc;obtain⟨r,cap,h0,h1,h2,h3⟩:=hs.obj id _ hc;refine⟨_,_,h,⟨fun i hi=>by simp[hi],fun i hi=> ?_⟩,fun O hO=> ?_⟩
   ·rcases List.mem_cons.1 hi with rfl|hi
    ·exact .inr ⟨c,e,hc⟩
    ·exact .inl hi
   ·have key:∀v,aD ρ H (aP ρ H G) w (.vec id) v→aT O w (.ro c) v:=by
     intro v hv;unfold aD at hv;obtain⟨_,o,ho,h4⟩:=hv;rw[hc]at ho;cases ho;rw[h4 c e rfl];have vR:=hO.2 id (by simp);rw[h0]at vR ⊢;rcases h3 with h3|⟨b,f,cells,fr,us,rfl,h5,h6,h7,h8⟩
     ·exact .ro c r cap (fun _ _=>undef) 0 0 h1 h2 (fun h=>by omega) (fun i j hi hj=>by omega) (fun i j hi hj=>by omega)
     ·by_cases uM:cap=0
      ·exact .ro c _ cap (fun _ _=>undef) 0 0 h1 h2 (fun h=>by omega) (fun i j hi hj=>by omega) (fun i j hi hj=>by omega)
      ·refine .ro c _ cap us b f h1 h2 (fun _=>⟨rfl,vR b (by simp[eg,uM]),(Array.getElem?_eq_some_iff.1 h5).1⟩) (fun i j hi hj=> ?_) (fun i j hi hj=>(h8 i j hi hj).2.less hO.1);have:=(h8 i j hi hj).1;simp only[World.cell?,h5];simpa using this
    exact⟨fun v hv=>az (key v (by unfold af at hv;exact hv)),fun cs hv=>by unfold aN at *;obtain⟨u,rfl,h9⟩:=hv;exact⟨u,rfl,key u h9⟩⟩
  ·simp[RM.eval]at h
 ·exact⟨_,_,h,⟨fun i hi=>hi,fun i hi=>.inl hi⟩,fun O hO=>⟨fun v hv=>af.step (vQ O hO) _ v hv,fun cs hv=>aN.step (vQ O hO) _ cs hv⟩⟩
theorem jo.sub{a b:List Nat}(h:∀i∈a,i∈b)(k:jo ρ H G b O):jo ρ H G a O:=⟨k.1,fun i hi=>k.2 i (h i hi)⟩
theorem zv:∀{aJ:List AV} {ids:List Nat} {k:List AV→List Nat→RM bH} {q:bH},(agB aJ ids k).eval H=some q→Sat ρ H G w→
 ∃dj lN,(k dj lN).eval H=some q∧zt ρ H G ids lN∧∀O,jo ρ H G lN O→∀cs,aq ρ H (aP ρ H G) w aJ cs→aq ρ H O w dj cs
 |[],ids,k,q,h,hs=>⟨[],ids,h,⟨fun _ h=>h,fun _ h=>.inl h⟩,fun O _ cs hd=>by rw[aw.1 hd];exact aw.2 rfl⟩
 |a::aJ,ids,k,q,h,hs=>by
  obtain⟨a',i1,h1,f1,h2⟩:=zu h hs;obtain⟨dj,i2,h3,f2,h4⟩:=zv h1 hs;refine⟨a'::dj,i2,h3,f1.trans f2,fun O hO cs hd=> ?_⟩;obtain⟨c1,c2,rfl,h6,h7⟩:=ah.1 hd;exact ah.2 ⟨c1,c2,rfl,(h2 O (jo.sub f2.sub hO)).2 c1 h6,h4 O hO c2 h7⟩
theorem agE{a:AV}{ids:List Nat}{k:AV→List Nat→RM bH}{q:bH}(h:(agC a ids k).eval H=some q)(hs:Sat ρ H G w):
 ∃a' lN,(k a' lN).eval H=some q∧zt ρ H G ids lN∧∀O,jo ρ H G lN O→∀v,af ρ H (aP ρ H G) w a v→af ρ H O w a' v:=by
 unfold agC at h;split at h
 ·obtain⟨dj,i1,h1,f1,h2⟩:=zv h hs;refine⟨_,i1,h1,f1,fun O hO v hd=> ?_⟩;unfold af at *;obtain⟨cs,h3,h4⟩:=hd;exact⟨cs,h3,h2 O hO cs h4⟩
 ·obtain⟨a',i1,h1,f1,h2⟩:=zu h hs;exact⟨a',i1,h1,f1,fun O hO=>(h2 O hO).1⟩
theorem zw:∀{aJ:List AV} {ids:List Nat} {k:List AV→List Nat→RM bH} {q:bH},(agD aJ ids k).eval H=some q→Sat ρ H G w→
 ∃dj lN,(k dj lN).eval H=some q∧zt ρ H G ids lN∧∀O,jo ρ H G lN O→∀cs,bI ρ H (aP ρ H G) w aJ cs→bI ρ H O w dj cs
 |[],ids,k,q,h,hs=>⟨[],ids,h,⟨fun _ h=>h,fun _ h=>.inl h⟩,fun O _ cs hd=>by rw[aU.1 hd];exact aU.2 rfl⟩
 |a::aJ,ids,k,q,h,hs=>by
  obtain⟨a',i1,h1,f1,h2⟩:=agE h hs;obtain⟨dj,i2,h3,f2,h4⟩:=zw h1 hs;refine⟨a'::dj,i2,h3,f1.trans f2,fun O hO cs hd=> ?_⟩;obtain⟨c1,c2,rfl,h6,h7⟩:=aA.1 hd;exact aA.2 ⟨c1,c2,rfl,h2 O (jo.sub f2.sub hO) c1 h6,h4 O hO c2 h7⟩
theorem q8:∀(ids:List Nat) (j:Nat),cr (ids.map fun i=>(i,.dead)) j=if j∈ids then some .dead else none
 |[],j=>rfl
 |i::ids,j=>by
  simp only[List.map_cons,cr,q8 ids j];by_cases h:j∈ids
  ·simp[h]
  ·by_cases h2:j=i
   ·subst h2;simp[h]
   ·simp[h,h2]
theorem dr.tg{f:FuncId}{ts rs:List Ty}{pre:AL ts→List Prop}{F:AL ts→AL rs}(h:dr P Z f ts rs pre F):kZ P Z f (tg ts rs pre F):=by
 intro base args H q hq hn ρ G w vs dV hz hs hd;unfold Sx.tg at hq;obtain⟨apP,ids,hq,hf,h1⟩:=zw hq hs;split at hq
 ·rename_i apQ h2;split at hq
  ·rename_i x h3;rw[Bool.cond_eq_ite]at hq;split at hq
   ·rename_i zq;simp only[RM.eval,Option.some.injEq]at hq;subst hq;have p6:∀i∈ids,∃c e,H i=some (.vec c e):=fun i hi=>(hf.vec i hi).elim (fun h=>by simp at h) (fun h=>h);let Gc:Nat→Prop:=fun b=>aP ρ H G b∧∀i∈ids,eg (ρ i)≠some b
    have ant:∀b,aP (fun _=>undef) (fun _=>none) Gc b→Gc b:=by
     rintro b (⟨id,o,ho,_⟩|hb)
     ·cases ho
     ·exact hb
    have vR:jo ρ H G ids (aP (fun _=>undef) (fun _=>none) Gc):=⟨fun b hb=>(ant b hb).1,fun i hi b hb hO=>(ant b hO).2 i hi hb⟩;have E:Emb (fun _=>none) ρ H (aP (fun _=>undef) (fun _=>none) Gc) (fun _=>undef) (fun _=>none) (aP (fun _=>undef) (fun _=>none) Gc):=⟨fun i j kP=>(by cases kP),fun b hb=>hb⟩;have hd2:=rJ E h2 (h1 _ vR vs hd);have hd3:bI (fun _=>undef) (fun _=>none) (aP (fun _=>undef) (fun _=>none) Gc) w (AL.av ts x) vs:=AL.mE h3 hd2;refine(h x (AL.okL hd3) hn Gc w vs (fun b hb=>wU hs hb.1) hz.1 hd3).mono ?_;rintro e w' ⟨v,he,iq,g1,g2,g3,g4⟩;refine⟨v,he, ?_⟩;simp only[];have hpl:=AL.er zq (x:=F x) (base:=0);have agA:(AL.res rs (F x)).1=(AL.out 0 rs (F x)).2:=rfl;rw[←agA]at hpl;generalize hL:(AL.res rs (F x)).1=L at *
    have qp:∀b,Own iq (lk L) b→w.heap.size≤b:=fun b hb=>by
     rcases g3.fz b (.inl hb)with h5|h5
     ·exact(g1.apart b hb (ant b h5)).elim
     ·exact h5
    let fE:Nat→Value:=fun id=>if base≤id∧id<base+L.length then iq (id - base)else ρ id
    let H2:=cW H (ids.map fun i=>(i,.dead)) base L
    have hold:∀{id:Nat} {o:ab},H id=some o→¬(base≤id∧id<base+L.length):=fun{id o} ho hc=>by
     have:=dV (id - base) (by simp only[];omega);rw[show base+(id - base)=id from by omega,ho]at this;cases this
    have hH2:∀id,H2 id=if id∈ids then some .dead else if base≤id∧id<base+L.length then L[id - base]? else H id:=fun id=>by
     simp only[H2,cW,q8];split
     ·rename_i hx;split at hx
      ·rename_i hi;cases hx;rw[if_pos hi]
      ·cases hx
     ·rename_i hx;split at hx
      ·cases hx
      ·rename_i hi;rw[if_neg hi]
    have amX:∀id,id∈ids→¬(base≤id∧id<base+L.length):=fun id hi=>by
     obtain⟨c,e,hce⟩:=p6 id hi;exact hold hce
    have sh:o9 base L.length iq (lk L) fE H2:=⟨fun i hi=>by simp only[fE];rw[if_pos (by omega)];congr 1;omega,fun i hi=>by
     rw[hH2,if_neg (fun hm=>amX _ hm ⟨by omega,by omega⟩),if_pos (by omega)];simp[lk]⟩
    have ti:∀{id:Nat} {o:ab},H2 id=some o→o.alive=true→(base≤id∧id<base+L.length∧L[id - base]? =some o∧fE id=iq (id - base))∨(id ∉ ids∧H id=some o∧fE id=ρ id):=by
     intro id o ho ha;rw[hH2]at ho;split at ho
     ·cases ho;cases ha
     ·rename_i hi;split at ho
      ·rename_i hc;exact .inl ⟨hc.1,hc.2,ho,by simp only[fE];rw[if_pos hc]⟩
      ·rename_i hc;exact .inr ⟨hi,ho,by simp only[fE];rw[if_neg hc]⟩
    have asO:∀{id:Nat} {o:ab} {b:Nat},id ∉ ids→H id=some o→o.alive=true→eg (ρ id)=some b→∀i∈ids,eg (ρ i)≠some b:=by
     intro id o b de ho ha hb i hi hb2;obtain⟨c,e,hce⟩:=p6 i hi;have:=hs.inj id i o _ b ho hce ha rfl hb hb2;exact de (this▸hi)
    have vV:∀b,Own fE H2 b→Own iq (lk L) b∨(Own ρ H b∧∀i∈ids,eg (ρ i)≠some b):=by
     rintro b ⟨id,o,ho,ha,hb⟩;rcases ti ho ha with⟨_,_,h5,h6⟩|⟨h5,h6,h7⟩
     ·rw[h6]at hb;exact .inl ⟨id - base,o,h5,ha,hb⟩
     ·rw[h7]at hb;exact .inr ⟨⟨id,o,h6,ha,hb⟩,asO h5 h6 ha hb⟩
    have apR:∀b,aP fE H2 G b→aP iq (lk L) Gc b:=by
     rintro b (hb|hb)
     ·rcases vV b hb with h5|h5
      ·exact .inl h5
      ·exact .inr ⟨.inl h5.1,h5.2⟩
     ·refine .inr ⟨.inr hb,fun i hi kI=> ?_⟩;obtain⟨c,e,hce⟩:=p6 i hi;exact hs.apart b ⟨i,_,hce,rfl,kI⟩ hb
    have heap:∀b,b<w.heap.size→w'.heap[b]? =w.heap[b]? :=fun b hb=>g4.heap b hb (fun⟨id,o,ho,_⟩=>by cases ho);have zr:w.heap.size≤w'.heap.size:=g3.size
    have st:Step ρ H (aP ρ H G) w fE H2 (aP fE H2 G) w':=by
     refine⟨fun id o ho=> ?_,fun id o ho=> ?_,fun b hb=> ?_,fun b hb _=>heap b hb,zr⟩
     ·simp only[fE];rw[if_neg (hold ho)]
     ·by_cases hi:id∈ids
      ·exact⟨.dead,by rw[hH2,if_pos hi],fun c' e' hc=>by cases hc⟩
      ·exact⟨o,by rw[hH2,if_neg hi,if_neg (hold ho)];exact ho,fun c' e' hc=>⟨c',e',hc,rfl,rfl⟩⟩
     ·rcases hb with hb|hb
      ·rcases vV b hb with h5|h5
       ·exact .inr (qp b h5)
       ·exact .inl (.inl h5.1)
      ·exact .inl (.inr hb)
    refine⟨fE,⟨fun id o ho=> ?_,fun i j oi oj b hi hj ai aj bi bj=> ?_,fun b hb hG=> ?_,fun b hb=>Nat.lt_of_lt_of_le (hs.low b hb) zr⟩,vU (.inr apR) (O:=aP iq (lk L) Gc) (hL▸sh) (by rw[hL];exact g2),st,⟨g4.os,g4.tape,g4.output,fun b hb _=>heap b hb⟩⟩
    ·cases so:o.alive
     ·cases o with
      |dead=>trivial
      |own _ _=>cases so
      |vec _ _=>cases so
      |map _ _=>cases so
      |gK _ _ _=>cases so
      |iter _ _ _ _ _=>cases so
     ·rcases ti ho so with⟨_,_,h5,h6⟩|⟨h5,h6,h7⟩
      ·rw[h6];have dQ:=g1.obj (id - base) o h5;obtain⟨r,y,e',hr,rfl⟩:=hpl o (List.mem_of_getElem? h5);obtain⟨a0,cap,k0,k1,k2,k3⟩:=dQ;refine⟨a0,cap,k0,k1,k2,k3.imp (fun h=>h) ?_⟩;rintro⟨b,f0,cells,fr,us,k4,k5,k6,k7,k8⟩;exact⟨b,f0,cells,fr,us,k4,k5,k6,k7,fun i j hi hj=>⟨(k8 i j hi hj).1,RK.zp hr hj (k8 i j hi hj).2⟩⟩
      ·rw[h7];exact(hs.obj id o h6).step st (fun b ha hb=>heap b (gu hs ⟨id,o,h6,ha,hb⟩))
    ·rcases ti hi ai with⟨i1,i2,i3,i4⟩|⟨i1,i2,i3⟩
     ·rw[i4]at bi;rcases ti hj aj with⟨j1,j2,j3,j4⟩|⟨j1,j2,j3⟩
      ·rw[j4]at bj;have:=g1.inj (i - base) (j - base) oi oj b i3 j3 ai aj bi bj;omega
      ·rw[j3]at bj;have:=gu hs ⟨j,oj,j2,aj,bj⟩;have:=qp b ⟨_,oi,i3,ai,bi⟩;omega
     ·rw[i3]at bi;rcases ti hj aj with⟨j1,j2,j3,j4⟩|⟨j1,j2,j3⟩
      ·rw[j4]at bj;have:=gu hs ⟨i,oi,i2,ai,bi⟩;have:=qp b ⟨_,oj,j3,aj,bj⟩;omega
      ·rw[j3]at bj;exact hs.inj i j oi oj b i2 j2 ai aj bi bj
    ·rcases vV b hb with h5|h5
     ·have:=qp b h5;have:=hs.low b hG;omega
     ·exact hs.apart b h5.1 hG
   ·simp[RM.eval]at hq
  ·simp[RM.eval]at hq
 ·simp[RM.eval]at hq
end
end Go.Sx
namespace Go.Sx
open Go
def slF:Nat→Nat→List (Nat×AV)→List AV
 |0,_,_=>[]
 |n+1,i,[]=>.s .aR::slF n (i+1) []
 |n+1,i,(j,a)::l=>bif j.beq i then a::slF n (i+1) l else .s .aR::slF n (i+1) ((j,a)::l)
def sl(n:Nat)(l:List (Nat×AV)):List AV:=slF n 0 l
def fi:Code→Option Nat
 |.region id _ _=>some id
 |.seq a b=>match fi a with
  |some i=>some i
  |none=>fi b
 |.cond _ a b=>match fi a with
  |some i=>some i
  |none=>fi b
 |.block _ c|.loop c|.scope c=>fi c
 |_=>none
def k9(key:Nat):Code→List Item→Option (List Item)
 |.seq a b,k=>match k9 key a (.code b::k)with
  |some r=>some r
  |none=>k9 key b k
 |.cond _ a b,k=>match k9 key a k with
  |some r=>some r
  |none=>k9 key b k
 |.block id c,k=>k9 key c (.inBlock id::k)
 |.scope c,k=>k9 key c (.inScope c::k)
 |.loop c,k=>match fi c with
  |some i=>bif i.beq key then some (.code c::.inLoop c::k)else k9 key c (.inLoop c::k)
  |none=>k9 key c (.inLoop c::k)
 |_,_=>none
def hd(fn:Func)(key:Nat):List Item:=(k9 key (fn.body.getD .skip) []).getD []
def ir(key:Nat):Code→List Item→Option (List Item)
 |.region id ops d,k=>bif id.beq key then some (.code (.region id ops d)::k)else none
 |.seq a b,k=>match ir key a (.code b::k)with
  |some r=>some r
  |none=>ir key b k
 |.cond _ a b,k=>match ir key a k with
  |some r=>some r
  |none=>ir key b k
 |.block id c,k=>ir key c (.inBlock id::k)
 |.scope c,k=>ir key c (.inScope c::k)
 |.loop c,k=>ir key c (.inLoop c::k)
 |_,_=>none
def hr(fn:Func)(key:Nat):List Item:=(ir key (fn.body.getD .skip) []).getD []
def keyOf(c:bw):Nat:=match c.todo with
 |.code x::_=>acD c.stk ((fi x).getD 0)
 |.inRegion ops todo::_=>age c.stk c.stk.rid (ops.size - todo.length)
 |_=>0
def aeG:List (Nat×Norm)→Nat→Option Norm
 |[],_=>none
 |(i,n)::l,k=>bif i.beq k then some n else aeG l k
def apS:List Item→Bool
 |.inRegion _ _::_=>true
 |_=>false
def Tree.norm(ns:List (Nat×Norm)):Tree→Tree
 |.need p t=>.need p (t.norm ns)
 |.ite b t e=>.ite b (t.norm ns) (e.norm ns)
 |.both p q t e=>.both p q (t.norm ns) (e.norm ns)
 |.ret H v=>.ret H v
 |.stuck w=>.stuck w
 |.at c=>bif apS c.todo&&(aeG ns (keyOf c)).isNone then .at c else match aeG ns (keyOf c)with
  |some N=>(match N.run c with
   |some c'=>.at c'
   |none=>.stuck "norm")
  |none=>.stuck "no norm"
def agF:List (Nat×Norm)→Nat→Bool
 |[],_=>false
 |(i,_)::l,k=>i.beq k||agF l k
def alK:List FuncId→FuncId→Bool
 |[],_=>false
 |f::l,g=>f.beq g||alK l g
def run(P:Program)(S:eU)(fn:Func)(ns:List (Nat×Norm))(c:bw)(inl:List FuncId:=[]):Tree:=(exec P S fn (agF ns) (alK inl) 1000 true c).norm ns
def eh(fn:Func)(key i:Nat):List Item:=
 match hr fn key with
 |.code (.region _ ops _)::k=>.inRegion ops (List.range' i (ops.size - i))::k
 |_=>[]
def jJ(key:Nat):Code→List Item→Option (Lp×List Item)
 |.rangeFunc _ ps xj body,k=>match gA body with
  |some i=>bif i.beq key then some (⟨ps.toList,xj,body⟩,k)else none
  |none=>bif key.beq 0 then some (⟨ps.toList,xj,body⟩,k)else none
 |.seq a b,k=>match jJ key a (.code b::k)with
  |some r=>some r
  |none=>jJ key b k
 |.cond _ a b,k=>match jJ key a k with
  |some r=>some r
  |none=>jJ key b k
 |.block id c,k=>jJ key c (.inBlock id::k)
 |.scope c,k=>jJ key c (.inScope c::k)
 |.loop c,k=>jJ key c (.inLoop c::k)
 |_,_=>none
def m9(fn:Func)(f:Option FuncId)(key:Nat)(marks:Nat):qT:=
 match jJ key (fn.body.getD .skip) []with
 |some p=>⟨f,fn.ntmps,false,marks,some (p.1,.ready),p.2,(key,0)⟩
 |none=>⟨f,fn.ntmps,false,marks,none,[],(key,0)⟩
section
variable{P:Program}{S:eU}{Z:aW}{X:Ctx}{K:List ab→AV→Prop}{C C':bw→Prop}
theorem zx:∀{l:List (Nat×Norm)} {k:Nat} {N:Norm},aeG l k=some N→∃i,(i,N)∈l
 |[],k,N,h=>by simp[aeG]at h
 |(i,n)::l,k,N,h=>by
  simp only[aeG,Bool.cond_eq_ite]at h;split at h
  ·cases h;exact⟨i,by simp⟩
  ·obtain⟨j,hj⟩:=zx h;exact⟨j,by simp[hj]⟩
theorem gW{ns:List (Nat×Norm)}{f:FuncId}(h0:∀x∈ns,∀id,x.2.m≤id→X.H id=none):∀(t:Tree),(t.norm ns).aZ K (Safe P f X K)→t.aZ K (Safe P f X K)
 |.need p t,h=>⟨h.1,gW h0 t h.2⟩
 |.ite b t e,h=>⟨fun hb=>gW h0 t (h.1 hb),fun hb=>gW h0 e (h.2 hb)⟩
 |.both _ _ t e,h=>⟨fun hp=>gW h0 t (h.1 hp),fun hq=>gW h0 e (h.2 hq)⟩
 |.ret H v,h=>h
 |.stuck w,h=>h
 |.at c,h=>by
  unfold Tree.norm at h;rw[Bool.cond_eq_ite]at h;split at h
  ·exact h
  split at h
  ·rename_i N hN;split at h
   ·rename_i c' hc;obtain⟨i,hi⟩:=zx hN;exact Norm.safe (h0 _ hi) hc h
   ·exact h.elim
  ·exact h.elim
theorem aV{rs:List Ty}{y:AL rs}(y':AL rs){L:List ab}{r:AV}(h:y=y')(hc:ajs (rs.flatMap Ty.ces) L r=some (AL.res rs y')):Ends rs y L r:=by
 subst h;exact hc
theorem cG{f:FuncId}{fn:Func}{ns:List (Nat×Norm)}{c:bw}{t:Tree}(hS:SOk P S Z)(lM:dP Z X)(hm:P.follows .mixedOrders=true)(hf:P.funcs[f]? =some fn)(h0:∀x∈ns,∀id,x.2.m≤id→X.H id=none)
 {inl:List FuncId} (ht:run P S fn ns c inl=t) (h:t.aZ K (Safe P f X K)):Safe P f X K c:=by
 subst ht;exact fp hS lM hm hf 1000 true c (gW h0 _ h)
theorem na{f:FuncId}{ι:Type}(c:ι→bw)(I:ι→Prop)(m:ι→Nat)(h:∀x,I x→(∀y,I y→m y<m x→Safe P f X K (c y))→Safe P f X K (c x)):∀x,I x→Safe P f X K (c x):=by
 intro x
 induction hn:m x using Nat.strongRecOn generalizing x with
 |ind n ih=>
  intro hx;subst hn;exact h x hx (fun y hy bm=>ih (m y) bm y rfl hy)
end
end Go.Sx
namespace Go.Sx
open Go Go.RowKit Go.ChangeShapes Go.WideShapes Go.ChangeAt
section
variable{H:Type}{enc:TypeId×Value→H}{P:Program}{W W':World}{Z:aW}{base:Nat}{ρ:Nat→Value}{Hh:aM}{O:Nat→Prop}
structure aeH (W W':World):Prop where
 os:W'.os=W.os
 output:W'.output=W.output
 heap:∀b,b<W.heap.size→W'.heap[b]? =W.heap[b]?
theorem aeH.at(h:aeH W W'){p:MemPlace}(hp:p.block<W.heap.size):W.sameAt W' p:=by
 have e:=h.heap p.block hp;cases p with
 |cell b o=>exact(kK (o:=o) e)
 |map b=>exact e
theorem xz{ts:List TypeId}(hl:laidOutB P=true)(hp:ts.all (fun t=>P.readableRec t&&decide (t<P.types.size))=true){sp':Nat→Bool}(hs:aeH W W'):∀{vs:List Value} {ds:List (DataW H)} {ps:List MemPlace},
 DataW.TrodAll enc P W 0 (fun _=>true) true ts vs ds ps→(∀p∈ps,p.block<W.heap.size)→(∀p∈ps,sp' p.block=true)→DataW.TrodAll enc P W' 0 sp' true ts vs ds ps:=by
 induction ts with
 |nil=>intro vs ds ps h _ _;cases vs<;>cases ds<;>simp[DataW.TrodAll]at h ⊢;exact h
 |cons t ts ih=>
  intro vs ds ps h bm hsp;simp only[List.all_cons,Bool.and_eq_true,decide_eq_true_eq]at hp;obtain⟨v,vs',d,ds',p,q,rfl,rfl,rfl,h1,h2⟩:=trodAll_cons h;refine⟨p,q, ?_,ih hp.2 h2 (fun x hx=>bm x (by simp[hx])) (fun x hx=>hsp x (by simp[hx])),rfl⟩;exact WideElems.Trod_stays hl hp.1.1 hp.1.2 h1 (fun x hx=>hs.at (bm x (by simp[hx]))) (fun x hx=>hsp x (by simp[hx]))
theorem aeI(hs:aeH W W')(may:MemPlace→Prop):W.keptBut W' may:=by
 refine⟨hs.os,hs.output,fun i hi=> ?_⟩;rw[hs.heap i hi,Array.getElem?_eq_getElem hi];cases h:W.heap[i]with
 |cells c t fr=>exact⟨rfl,rfl,rfl,fun _ _=>rfl⟩
 |map es clock=>exact .inr ⟨rfl,rfl⟩
 |_=>rfl
theorem aeJ{fn:Func}{s:ChangeSpec}{apart fresh handsOn:Bool}{args:Array Value}{ds gs:List (DataW H)}{before:List MemPlace}{tb:TypeId}
 (hl:laidOutB P=true) (hp:fn.params.toList.all (fun t=>P.readableRec t&&decide (t<P.types.size))=true)
 (hr:fn.resultTypes= #[tb]) (hb:P.underlying tb=some .bool) (hv:s.vars=[])
 (hs:s.fn H ds={results:=[.lit (.bool true)],args:=ds})
 (hW:DataW.Whole enc P fn.params.toList s.vars apart W args.toList ds gs before) (ac6:aeH W W'):
 s.post enc P fn apart fresh handsOn false W args (.bool true) W':=by
 have hW':=hW;obtain⟨p,q,h1,h2,rfl,_,_⟩:=hW;rw[hv]at h2;obtain⟨rfl,rfl⟩:=trodVars_none h2;have bm:∀x∈p,x.block<W.heap.size:=fun x hx=>hW'.lt x (by simp[hx]);refine⟨ds,[],p++[],[],p,[],hW', ?_, ?_, ?_,aeI ac6 _,fun h=>by cases h⟩
 ·rw[List.append_nil,hs,hr];exact trodAll_mk1 (shut_bool hb true)
 ·rw[List.append_nil,hs];exact xz hl hp ac6 h1 bm (fun x hx=>by simpa using bm x hx)
 ·rw[hv,List.append_nil,hs];rfl
end
end Go.Sx
namespace Go.Sx
open Go Go.RowKit Go.ChangeShapes Go.WideShapes Go.ChangeAt
def CL.app:(aJ:List CK)→{bs:List CK}→CL aJ→CL bs→CL (aJ++bs)
 |[],_,_,y=>y
 |_::aJ,_,x,y=>(x.1,CL.app aJ x.2 y)
section
variable{H:Type}{enc:TypeId×Value→H}{P:Program}{W:World}{base:Nat}{ρ:Nat→Value}{Hh:aM}
def RK.ck:RK→CK
 |.ints k=>.ints k
 |.strs=>.strs
 |.bQ=>.bQ
 |.ad cs=>.rows cs
def B.ck:B→CK
 |.int k=>.int k
 |.bool=>.bool
 |.str=>.str
 |.row r _=>r.ck
 |.mD r _=>r.ck
 |.arr k n=>.arr k n
 |.fn=>.bool
def RK.of:(r:RK)→r.ck.V→r.V
 |.ints _,y=>y
 |.strs,y=>y
 |.bQ,y=>y
 |.ad _,y=>y
def B.of:(b:B)→b.ck.V→b.V
 |.int _,y=>y
 |.bool,y=>y
 |.str,y=>y
 |.row r _,y=>r.of y
 |.mD r _,y=>r.of y
 |.arr _ _,y=>y
 |.fn,_=>(0:Nat)
def BL.of:(bs:List B)→CL (bs.map B.ck)→BL bs
 |[],_=>()
 |b::bs,y=>(b.of y.1,BL.of bs y.2)
theorem tj{Z:aW}{f:FuncId}{ts:List Ty}{pre:AL ts→List Prop}(h:dr P Z f ts [.b .bool] pre (fun _=>(true,())))(hz:Z.ok W){x:AL ts}{vs:List Value}(hp:bD (pre x))
 (hd:bI (fun _=>undef) (fun _=>none) (fun _=>False) W (AL.av ts x) vs):Calls P f vs.toArray W fun e W'=>e=.returned (.bool true)∧aeH W W':=by
 have e0:aP (fun _=>undef) (fun _=>none) (fun _=>False)=fun _=>False:=by
  funext b;refine propext ⟨fun h=> ?_,False.elim⟩;rcases h with⟨id,o,ho,_⟩|h
  ·cases ho
  ·exact h
 refine(h x (AL.okL hd) hp (fun _=>False) W vs (fun _ h=>h.elim) hz (by rw[e0];exact hd)).mono ?_;rintro e W' ⟨v,rfl,aF,_,h2,_,h4⟩;have h5:af aF (lk []) (aP aF (lk []) fun _=>False) W' (.s (.bool true)) v:=h2;have h6:=ak (by simp) h5;cases h6;exact⟨rfl,h4.os,h4.output,fun b hb=>h4.heap b hb (fun⟨id,o,ho,_⟩=>by cases ho)⟩
end
end Go.Sx
namespace Go.Sx
open Go
theorem agG(P:Program)(r:List (List Char))(h:behindMainWord (wordsSigns P.initOrder.toList)=[(Char.ofNat 99),(Char.ofNat 117),(Char.ofNat 116)]::r):P.make=some .cut:=by
 unfold Program.make;rw[h];kernel_rfl
theorem aeK(P:Program)(r:List (List Char))(h:behindMainWord (wordsSigns P.initOrder.toList)=[(Char.ofNat 99),(Char.ofNat 117),(Char.ofNat 116)]::r)(hs:stripLifts liftWords ([(Char.ofNat 99),(Char.ofNat 117),(Char.ofNat 116)]::r)=([],[(Char.ofNat 99),(Char.ofNat 117),(Char.ofNat 116)]::r)):P.liftsFinal=false:=by
 unfold Program.liftsFinal Program.headLifts;rw[h];dsimp only;rw[hs];kernel_rfl
theorem aeL(P:Program)(r:List (List Char))(h:behindMainWord (wordsSigns P.initOrder.toList)=[(Char.ofNat 99),(Char.ofNat 117),(Char.ofNat 116)]::r)(hs:stripLifts liftWords ([(Char.ofNat 99),(Char.ofNat 117),(Char.ofNat 116)]::r)=([],[(Char.ofNat 99),(Char.ofNat 117),(Char.ofNat 116)]::r))
 (h1:P.laysLater=false) (h2:P.bearsReflect=false) (h3:P.doorFits []=true):P.mayEnter=true:=by
 unfold Program.mayEnter;rw[h];dsimp only;rw[hs,h1,h2];dsimp only;rw[h3];kernel_rfl
def tk(P:Program)(f:FuncId)(fn:Func)(s:ChangeSpec)(c:OpenClaim):{b:Bool // P.mayEnter=true→P.liftsFinal=false→P.make=some .cut→joinedFacts P f fn s c=b}:=by
 refine⟨?b,fun h1 h2 h3=> ?h⟩
 case h=>
  unfold joinedFacts;rw[h1,h2,h3]
theorem abM{P:Program}{f:FuncId}{fn:Func}{s:ChangeSpec}{c:OpenClaim}(r:List (List Char))(h:behindMainWord (wordsSigns P.initOrder.toList)=[(Char.ofNat 99),(Char.ofNat 117),(Char.ofNat 116)]::r)(hs:stripLifts liftWords ([(Char.ofNat 99),(Char.ofNat 117),(Char.ofNat 116)]::r)=([],[(Char.ofNat 99),(Char.ofNat 117),(Char.ofNat 116)]::r))
 (h1:P.laysLater=false) (h2:P.bearsReflect=false) (h3:P.doorFits []=true) (hr:(tk P f fn s c).1=true):joinedFacts P f fn s c=true:=
 ((tk P f fn s c).2 (aeL P r h hs h1 h2 h3) (aeK P r h hs) (agG P r h)).trans hr
end Go.Sx
namespace Go.Proofs.YtjmdfmafnenjnaaGreatDoor.Hd
set_option maxRecDepth 100000 in
def ioL:List Char:=[Char.ofNat 104,Char.ofNat 97,Char.ofNat 114,Char.ofNat 110,Char.ofNat 101,Char.ofNat 115,Char.ofNat 115,Char.ofNat 32,Char.ofNat 100,Char.ofNat 54,Char.ofNat 48,Char.ofNat 99,Char.ofNat 102,Char.ofNat 99,Char.ofNat 99,Char.ofNat 97,Char.ofNat 99,Char.ofNat 56,Char.ofNat 98,Char.ofNat 57,Char.ofNat 101,Char.ofNat 98,Char.ofNat 97,Char.ofNat 100,Char.ofNat 56,Char.ofNat 50,Char.ofNat 101,Char.ofNat 50,Char.ofNat 56,Char.ofNat 101,Char.ofNat 53,Char.ofNat 99,Char.ofNat 53,Char.ofNat 57,Char.ofNat 100,Char.ofNat 49,Char.ofNat 56,Char.ofNat 57,Char.ofNat 54,Char.ofNat 51,Char.ofNat 56,Char.ofNat 48,Char.ofNat 54,Char.ofNat 98,Char.ofNat 101,Char.ofNat 50,Char.ofNat 57,Char.ofNat 53,Char.ofNat 48,Char.ofNat 56,Char.ofNat 54,Char.ofNat 52,Char.ofNat 50,Char.ofNat 56,Char.ofNat 99,Char.ofNat 102,Char.ofNat 55,Char.ofNat 100,Char.ofNat 99,Char.ofNat 49,Char.ofNat 55,Char.ofNat 97,Char.ofNat 100,Char.ofNat 53,Char.ofNat 57,Char.ofNat 55,Char.ofNat 102,Char.ofNat 97,Char.ofNat 48,Char.ofNat 55,Char.ofNat 49,Char.ofNat 53,Char.ofNat 32,Char.ofNat 99,Char.ofNat 117,Char.ofNat 116,Char.ofNat 32,Char.ofNat 97,Char.ofNat 116,Char.ofNat 32,Char.ofNat 99,Char.ofNat 97,Char.ofNat 108,Char.ofNat 108,Char.ofNat 98,Char.ofNat 111,Char.ofNat 97,Char.ofNat 114,Char.ofNat 100,Char.ofNat 47,Char.ofNat 99,Char.ofNat 97,Char.ofNat 108,Char.ofNat 108,Char.ofNat 98,Char.ofNat 111,Char.ofNat 97,Char.ofNat 114,Char.ofNat 100,Char.ofNat 108,Char.ofNat 97,Char.ofNat 119,Char.ofNat 48,Char.ofNat 55,Char.ofNat 46,Char.ofNat 84,Char.ofNat 114,Char.ofNat 101,Char.ofNat 101,Char.ofNat 80,Char.ofNat 108,Char.ofNat 97,Char.ofNat 121,Char.ofNat 115,Char.ofNat 32,Char.ofNat 99,Char.ofNat 97,Char.ofNat 108,Char.ofNat 108,Char.ofNat 98,Char.ofNat 111,Char.ofNat 97,Char.ofNat 114,Char.ofNat 100,Char.ofNat 47,Char.ofNat 99,Char.ofNat 97,Char.ofNat 108,Char.ofNat 108,Char.ofNat 98,Char.ofNat 111,Char.ofNat 97,Char.ofNat 114,Char.ofNat 100,Char.ofNat 108,Char.ofNat 97,Char.ofNat 119,Char.ofNat 48,Char.ofNat 56,Char.ofNat 46,Char.ofNat 83,Char.ofNat 116,Char.ofNat 111,Char.ofNat 114,Char.ofNat 101,Char.ofNat 78,Char.ofNat 97,Char.ofNat 109,Char.ofNat 101,Char.ofNat 115,Char.ofNat 32,Char.ofNat 99,Char.ofNat 97,Char.ofNat 108,Char.ofNat 108,Char.ofNat 98,Char.ofNat 111,Char.ofNat 97,Char.ofNat 114,Char.ofNat 100,Char.ofNat 47,Char.ofNat 99,Char.ofNat 97,Char.ofNat 108,Char.ofNat 108,Char.ofNat 98,Char.ofNat 111,Char.ofNat 97,Char.ofNat 114,Char.ofNat 100,Char.ofNat 108,Char.ofNat 97,Char.ofNat 119,Char.ofNat 48,Char.ofNat 56,Char.ofNat 46,Char.ofNat 83,Char.ofNat 116,Char.ofNat 111,Char.ofNat 114,Char.ofNat 101,Char.ofNat 77,Char.ofNat 111,Char.ofNat 100,Char.ofNat 101,Char.ofNat 108,Char.ofNat 32,Char.ofNat 99,Char.ofNat 97,Char.ofNat 108,Char.ofNat 108,Char.ofNat 98,Char.ofNat 111,Char.ofNat 97,Char.ofNat 114,Char.ofNat 100,Char.ofNat 47,Char.ofNat 99,Char.ofNat 97,Char.ofNat 108,Char.ofNat 108,Char.ofNat 98,Char.ofNat 111,Char.ofNat 97,Char.ofNat 114,Char.ofNat 100,Char.ofNat 108,Char.ofNat 97,Char.ofNat 119,Char.ofNat 48,Char.ofNat 56,Char.ofNat 46,Char.ofNat 83,Char.ofNat 116,Char.ofNat 111,Char.ofNat 114,Char.ofNat 101,Char.ofNat 80,Char.ofNat 97,Char.ofNat 103,Char.ofNat 101,Char.ofNat 115,Char.ofNat 32,Char.ofNat 99,Char.ofNat 97,Char.ofNat 108,Char.ofNat 108,Char.ofNat 98,Char.ofNat 111,Char.ofNat 97,Char.ofNat 114,Char.ofNat 100,Char.ofNat 47,Char.ofNat 99,Char.ofNat 97,Char.ofNat 108,Char.ofNat 108,Char.ofNat 98,Char.ofNat 111,Char.ofNat 97,Char.ofNat 114,Char.ofNat 100,Char.ofNat 108,Char.ofNat 97,Char.ofNat 119,Char.ofNat 48,Char.ofNat 56,Char.ofNat 46,Char.ofNat 83,Char.ofNat 116,Char.ofNat 111,Char.ofNat 114,Char.ofNat 101,Char.ofNat 80,Char.ofNat 108,Char.ofNat 97,Char.ofNat 121,Char.ofNat 115,Char.ofNat 32,Char.ofNat 99,Char.ofNat 97,Char.ofNat 108,Char.ofNat 108,Char.ofNat 98,Char.ofNat 111,Char.ofNat 97,Char.ofNat 114,Char.ofNat 100,Char.ofNat 47,Char.ofNat 99,Char.ofNat 97,Char.ofNat 108,Char.ofNat 108,Char.ofNat 98,Char.ofNat 111,Char.ofNat 97,Char.ofNat 114,Char.ofNat 100,Char.ofNat 108,Char.ofNat 97,Char.ofNat 119,Char.ofNat 48,Char.ofNat 56,Char.ofNat 46,Char.ofNat 83,Char.ofNat 116,Char.ofNat 111,Char.ofNat 114,Char.ofNat 101,Char.ofNat 67,Char.ofNat 114,Char.ofNat 97,Char.ofNat 115,Char.ofNat 104]
set_option maxRecDepth 100000 in
theorem ioE:Tryz.prog.initOrder=String.ofList ioL:=by kernel_rfl
theorem ioT:Tryz.prog.initOrder.toList=ioL:=by rw[ioE];exact String.toList_ofList
def ac7:List (List Char):=(wordsSigns ioL).drop 3
theorem hb:behindMainWord (wordsSigns Tryz.prog.initOrder.toList)=[Char.ofNat 99,Char.ofNat 117,Char.ofNat 116]::ac7:=by rw[ioT];kernel_rfl
theorem a1:Tryz.prog.laysLater=false:=by kernel_rfl
theorem a2:Tryz.prog.bearsReflect=false:=by kernel_rfl
theorem a3:stripLifts liftWords ([Char.ofNat 99,Char.ofNat 117,Char.ofNat 116]::ac7)=([],[Char.ofNat 99,Char.ofNat 117,Char.ofNat 116]::ac7):=by kernel_rfl
theorem a5:Tryz.prog.doorFits []=true:=by kernel_rfl
theorem own:ownKnob Tryz.prog.godebug=none:=by kernel_rfl
theorem laidOut:laidOutB Tryz.prog=true:=by kernel_rfl
end Go.Proofs.YtjmdfmafnenjnaaGreatDoor.Hd
namespace Go.Sx
open Go
structure Spec (X:Type)where
 args:X→List AV
 heap:X→List ab
 pre:X→List Prop
 ez:X→List ab
 out:X→AV
def fC(P:Program)(Z:aW)(f:FuncId){X:Type}(S:Spec X):Prop:=
 ∀x,bD (S.pre x)→∀(ρ:Nat→Value) (G:Nat→Prop) (w:World) (vs:List Value),ZAt Z ρ (lk (S.heap x)) w→Sat ρ (lk (S.heap x)) G w→
  bI ρ (lk (S.heap x)) (aP ρ (lk (S.heap x)) G) w (S.args x) vs→
  Calls P f vs.toArray w fun e w'=>∃v,e=.returned v∧Good ρ (lk (S.heap x)) G w (lk (S.ez x)) (S.out x) v w'
def cX{X:Type}(S:Spec X)(x:X)(L:List ab)(r:AV):Prop:=
 ∃N:Norm,(S.heap x).length≤N.m∧N.run ⟨[r],L,[],{}⟩=some ⟨[S.out x],S.ez x,[],{}⟩
def RM.bind{α β:Type}:RM α→(α→RM β)→RM β
 |.ret a,k=>k a
 |.look id f,k=>.look id fun o=>(f o).bind k
 |.fail w,_=>.fail w
def pa:List Nat→(List ab→RM bH)→RM bH
 |[],k=>k []
 |i::is,k=>.look i fun o=>match o with
  |some o=>pa is fun os=>k (o::os)
  |none=>.fail "no object"
def back(σ:List Nat)(base n:Nat)(j:Nat):Option Nat:=bif j.blt σ.length then σ[j]? else bif j.blt n then some (base+(j - σ.length))else none
def bZ{X:Type}(S:Spec X)(M:List AV→RM (X×List Nat)):Nat→List AV→RM bH:=fun base args=>
 (M args).bind fun(x,σ)=>bif qn σ then pa σ fun os=>
   (match allM (sZ (back σ base (S.ez x).length)) (S.ez x),rn (back σ base (S.ez x).length) 20 (S.out x)with
    |some L',some r=>bif σ.length.ble L'.length then
     .ret ⟨(allM (rn (idx σ) 20) args=some (S.args x))::(allM (sZ (idx σ)) os=some (S.heap x))::S.pre x,σ.zip L',L'.drop σ.length,fun _=>r⟩else .fail "sum: objects are gone"
    |_,_=>.fail "sum: names")
  else .fail "sum: one object twice"
section
variable{ρ aF:Nat→Value}{H H':aM}{G O O':Nat→Prop}{w w':World}{P:Program}{Z:aW}{X:Type}{S:Spec X}
theorem RM.nb{α β:Type}:∀{m:RM α} {k:α→RM β} {q:β},(m.bind k).eval H=some q→∃a,m.eval H=some a∧(k a).eval H=some q
 |.ret a,k,q,h=>⟨a,rfl,h⟩
 |.look id f,k,q,h=>by
  simp only[RM.bind,RM.eval]at h ⊢;exact RM.nb h
 |.fail w,k,q,h=>by simp[RM.bind,RM.eval]at h
theorem ld:∀{is:List Nat} {k:List ab→RM bH} {q:bH},(pa is k).eval H=some q→∃os:List ab,(k os).eval H=some q∧os.length=is.length∧∀(j id:Nat),is[j]? =some id→H id=os[j]? ∧os[j]?.isSome=true
 |[],k,q,h=>⟨[],h,rfl,fun j id hj=>by simp at hj⟩
 |i::is,k,q,h=>by
  simp only[pa,RM.eval]at h;split at h
  ·rename_i o ho;obtain⟨os,h1,h2,h3⟩:=ld h;refine⟨o::os,h1,by simp[h2],fun j id hj=> ?_⟩;cases j with
   |zero=>simp only[List.getElem?_cons_zero,Option.some.injEq]at hj;subst hj;exact⟨by simpa using ho,rfl⟩
   |succ j=>simpa using h3 j id (by simpa using hj)
  ·simp[RM.eval]at h
theorem au{f:FuncId}{fn:Func}(hf:P.funcs[f]? =some fn)(hb:fn.body.isSome=true)(hn:∀x,(S.args x).length≤fn.ntmps)
 (h:∀x,bD (S.pre x)→∀X:Ctx,X.H=lk (S.heap x)→dP Z X→Safe P f X (cX S x) (start fn (S.args x) (S.heap x))):fC P Z f S:=by
 intro x kx ρ G w vs hz hs hd;obtain⟨c,hb⟩:=Option.isSome_iff_exists.1 hb
 have mF:vs.length=(S.args x).length:=by
  have:∀{aJ:List AV} {vs:List Value},bI ρ (lk (S.heap x)) (aP ρ (lk (S.heap x)) G) w aJ vs→vs.length=aJ.length:=by
   intro aJ
   induction aJ with
   |nil=>intro vs h;rw[aU.1 h];rfl
   |cons a aJ ih=>intro vs h;obtain⟨v,rest,rfl,_,h2⟩:=aA.1 h;simp[ih h2]
  exact this hd
 refine(hM (R:=iR ⟨ρ,lk (S.heap x),G,w,[]⟩ (cX S x)) hf hb ?_).mono ?_
 ·have:=(h x kx ⟨ρ,lk (S.heap x),G,w,[]⟩ rfl hz).goes rfl rfl (ρ:=ρ) (a:={tmps:=vs.toArray++Array.replicate (fn.ntmps - vs.toArray.size) undef,defers:=[]}) (w:=w);simp only[start,hb,Option.getD_some]at this;refine this ⟨hs, ?_,fun t=> ?_,rfl,Step.refl _ _ _ _,⟨rfl,rfl,rfl,fun _ _ _=>rfl⟩,fun x hx=>by cases hx⟩
  ·simp[mF]
  ·have e1:∀(aJ:List AV) (vs:List Value),bI ρ (lk (S.heap x)) (aP ρ (lk (S.heap x)) G) w aJ vs→∀t,af ρ (lk (S.heap x)) (aP ρ (lk (S.heap x)) G) w (aJ.getD t (.bg [])) (vs.getD t undef):=by
    intro aJ
    induction aJ with
    |nil=>intro vs h t;rw[aU.1 h];simp only[List.getD,List.getElem?_nil,Option.getD_none];exact cC
    |cons a aJ ih=>
     intro vs h t;obtain⟨v,rest,rfl,h1,h2⟩:=aA.1 h;cases t with
     |zero=>simpa using h1
     |succ t=>simpa using ih rest h2 t
   have h1:=e1 _ _ hd t;simp only[List.getD_eq_getElem?_getD,List.getElem?_append,List.getElem?_replicate,Array.getD_eq_getD_getElem?,Array.getElem?_append,List.getElem?_toArray,Array.getElem?_replicate,List.size_toArray]at h1 ⊢;rw[mF];split
   ·rename_i ht;have hv:vs[t]? =some vs[t]:=List.getElem?_eq_getElem (by omega);have ha:(S.args x)[t]? =some (S.args x)[t]:=List.getElem?_eq_getElem ht;rw[hv,ha]at h1 ⊢;exact h1
   ·split
    ·exact cC
    ·unfold af;trivial
 ·rintro e w' ⟨v,rfl,L,r,⟨N,hm,hN⟩,iq,g1,g2,g3,g4⟩;refine⟨v,rfl, ?_⟩
  have r0:bY ⟨ρ,lk (S.heap x),G,w,[]⟩ iq ⟨[r],L⟩ {tmps:= #[v],defers:=[]} w':=by
   refine⟨g1,rfl,fun t=> ?_,rfl,g3,g4,fun x hx=>by cases hx⟩;cases t with
   |zero=>exact g2
   |succ t=>simp only[List.getD,Array.getD];simp;unfold af;trivial
  have h0:∀id,N.m≤id→(⟨ρ,lk (S.heap x),G,w,[]⟩:Ctx).H id=none:=fun id de=>by simp[lk];omega
  unfold Norm.run at hN;split at hN
  ·rename_i t1 L1 h1;simp only[]at hN;split at hN
   ·rename_i t2 L2 h2;simp only[Option.some.injEq,bw.mk.injEq,and_true]at hN;obtain⟨rfl,rfl⟩:=hN;obtain⟨iq,r1⟩:=bY.fq h0 h1 (bY.dR N.dO r0);obtain⟨fE,r2⟩:=bY.fL N.nH r1;obtain⟨ρ3,r3⟩:=bY.fM N.cells r2;obtain⟨ρ4,r4⟩:=bY.fq h0 h2 r3;exact⟨ρ4,r4.sat,(by have h:=r4.den 0;exact h),r4.from_,r4.ix⟩
   ·cases hN
  ·cases hN
theorem pb:∀{σ:List Nat} {L:List ab} {j:Nat},σ.Nodup→σ.length≤L.length→
 (∀(i:Nat),σ[i]? =some j→cr (σ.zip L) j=L[i]?)∧(j ∉ σ→cr (σ.zip L) j=none)
 |[],L,j,hn,hl=>⟨fun i h=>by simp at h,fun _=>rfl⟩
 |x::xs,[],j,hn,hl=>by simp at hl
 |x::xs,l::ls,j,hn,hl=>by
  obtain⟨h1,h2⟩:=pb (σ:=xs) (L:=ls) (j:=j) (List.nodup_cons.1 hn).2 (by simpa using hl);constructor
  ·intro i hi;simp only[List.zip_cons_cons,cr];cases i with
   |zero=>
    simp only[List.getElem?_cons_zero,Option.some.injEq]at hi;subst hi;rw[h2 (List.nodup_cons.1 hn).1];simp
   |succ i=>
    simp only[List.getElem?_cons_succ]at hi ⊢;rw[h1 i hi];have bm:i<xs.length:=(List.getElem?_eq_some_iff.1 hi).1;simp only[List.length_cons]at hl;rw[List.getElem?_eq_getElem (show i<ls.length by omega)]
  ·intro hj;simp only[List.mem_cons,not_or]at hj;simp only[List.zip_cons_cons,cr];rw[h2 hj.2];simp[hj.1]
theorem fC.sum{f:FuncId}(h:fC P Z f S)(M:List AV→RM (X×List Nat)):kZ P Z f (bZ S M):=by
 intro base args H q hq hn ρ G w vs dV hz hs hd;unfold bZ at hq;obtain⟨⟨x,σ⟩,_,hq⟩:=RM.nb hq;simp only[Bool.cond_eq_ite]at hq;split at hq
 ·rename_i gp;have gp:=jH gp;obtain⟨os,hq,hlen,hos⟩:=ld hq;split at hq
  ·rename_i L' r hL' hr;split at hq
   ·rename_i hle;have hle:=Nat.le_of_ble_eq_true hle;simp only[RM.eval,Option.some.injEq]at hq;subst hq;obtain⟨fB,ij,kx⟩:=hn;simp only[]at dV ⊢
    have dz:∀{j:Nat} {o':ab},(S.heap x)[j]? =some o'→∃(id:Nat) (o:ab),σ[j]? =some id∧H id=some o∧sZ (idx σ) o=some o':=by
     intro j o' dg;have hl:=gj ij;have hj:j<os.length:=by rw[←hl];exact(List.getElem?_eq_some_iff.1 dg).1
     obtain⟨b,g1,g2⟩:=fK ij j os[j] (List.getElem?_eq_getElem hj);rw[dg]at g2;cases g2;have rI:j<σ.length:=by omega
     have:=(hos j σ[j] (List.getElem?_eq_getElem rI)).1;exact⟨σ[j],os[j],List.getElem?_eq_getElem rI,by rw[this,List.getElem?_eq_getElem hj],g1⟩
    have nj:∀{j id:Nat},σ[j]? =some id→∃o o',H id=some o∧sZ (idx σ) o=some o'∧(S.heap x)[j]? =some o':=by
     intro j id hj;obtain⟨g1,g2⟩:=hos j id hj;obtain⟨o,ho⟩:=Option.isSome_iff_exists.1 g2;obtain⟨b,g3,g4⟩:=fK ij j o ho;exact⟨o,b,g1.trans ho,g3,g4⟩
    have mC:∀{j id:Nat},σ[j]? =some id→pull σ ρ j=ρ id:=fun h1=>by simp[pull,List.getD,h1]
    have dC:∀{b:Nat},Own (pull σ ρ) (lk (S.heap x)) b→∃(j id:Nat) (o:ab),σ[j]? =some id∧H id=some o∧o.alive=true∧eg (ρ id)=some b:=by
     rintro b ⟨j,o',dg,ha,hb⟩;obtain⟨id,o,h1,h2,h3⟩:=dz dg;rw[mC h1]at hb;exact⟨j,id,o,h1,h2,by rw[←(cF h3).1];exact ha,hb⟩
    let G':Nat→Prop:=fun b=>aP ρ H G b∧¬Own (pull σ ρ) (lk (S.heap x)) b
    have E:Emb (idx σ) ρ H (aP ρ H G) (pull σ ρ) (lk (S.heap x)) (aP (pull σ ρ) (lk (S.heap x)) G'):=by
     refine⟨fun i j kP=> ?_,fun b hb=> ?_⟩
     ·have h1:=zj kP;refine⟨mC h1,fun o ho=> ?_⟩;obtain⟨o1,o',h2,h3,h4⟩:=nj h1;rw[ho]at h2;cases h2;exact⟨o',h4,(cF h3).2⟩
     ·rcases hb with hb|hb
      ·obtain⟨j,id,o,h1,h2,h3,h4⟩:=dC hb;exact .inl ⟨id,o,h2,h3,h4⟩
      ·exact hb.1
    have asP:Sat (pull σ ρ) (lk (S.heap x)) G' w:=by
     refine⟨fun j o' dg=> ?_,fun i j oi oj b hi hj ai aj bi bj=> ?_,fun b hb hG=>hG.2 hb,fun b hb=>wU hs hb.1⟩
     ·obtain⟨id,o,h1,h2,h3⟩:=dz dg;rw[mC h1];exact xw E h3 (hs.obj id o h2)
     ·obtain⟨id,o,h1,h2,h3⟩:=dz hi;obtain⟨id',o',h1',h2',h3'⟩:=dz hj;rw[mC h1]at bi;rw[mC h1']at bj;have:=hs.inj id id' o o' b h2 h2' (by rw[←(cF h3).1];exact ai) (by rw[←(cF h3').1];exact aj) bi bj;subst this;obtain⟨hi1,hi2⟩:=List.getElem?_eq_some_iff.1 h1;obtain⟨hj1,rI⟩:=List.getElem?_eq_some_iff.1 h1';exact(List.getElem_inj gp).1 (hi2.trans rI.symm)
    have hz':ZAt Z (pull σ ρ) (lk (S.heap x)) w:=⟨hz.1,fun b hb ho=>by
     obtain⟨j,id,o,h1,h2,h3,h4⟩:=dC ho;exact hz.2 b hb ⟨id,o,h2,h3,h4⟩⟩
    have hd':=rJ E fB hd;refine(h x kx (pull σ ρ) G' w vs hz' asP hd').mono ?_;rintro e w' ⟨v,he,iq,g1,g2,g3,g4⟩;refine⟨v,he, ?_⟩;have atY:=gj hL';generalize hn0:(S.ez x).length=n0 at *
    have qp:∀{j:Nat},σ.length≤j→j<n0→H (base+(j - σ.length))=none:=by
     intro j h1 h2;exact dV (j - σ.length) (by simp;omega)
    have ajw:∀{id:Nat} {o:ab},H id=some o→¬(base≤id∧id<base+(L'.length - σ.length)):=by
     intro id o ho hc;have:=qp (j:=σ.length+(id - base)) (by omega) (by omega);rw[show base+(σ.length+(id - base) - σ.length)=id from by omega,ho]at this;cases this
    let fE:Nat→Value:=fun id=>if base≤id∧id<base+(L'.length - σ.length)then iq (σ.length+(id - base))else ρ id
    let H2:=cW H (σ.zip L') base (L'.drop σ.length)
    have hL1:∀{j:Nat} {o2:ab},L'[j]? =some o2→∃o,(S.ez x)[j]? =some o∧sZ (back σ base n0) o=some o2:=by
     intro j o2 h1;have hj:j<(S.ez x).length:=by have:=(List.getElem?_eq_some_iff.1 h1).1;omega
     obtain⟨b,h2,h3⟩:=fK hL' j (S.ez x)[j] (List.getElem?_eq_getElem hj);rw[h1]at h3;cases h3;exact⟨_,List.getElem?_eq_getElem hj,h2⟩
    have alL:∀{j id:Nat},σ[j]? =some id→fE id=ρ id∧iq j=ρ id:=by
     intro j id hj;obtain⟨o,o',h1,h2,h3⟩:=nj hj;refine⟨?_, ?_⟩
     ·simp only[fE];rw[if_neg (ajw h1)]
     ·rw[g3.r5 j o' h3,mC hj]
    have anu:∀{j id:Nat},σ[j]? =some id→H2 id=L'[j]? :=by
     intro j id hj;have bm:j<σ.length:=(List.getElem?_eq_some_iff.1 hj).1;have:=(pb (σ:=σ) (L:=L') (j:=id) gp hle).1 j hj;simp only[H2,cW,this];rw[List.getElem?_eq_getElem (show j<L'.length by omega)]
    have hni:∀{id:Nat},(base≤id∧id<base+(L'.length - σ.length))→id ∉ σ:=by
     intro id hc hm;obtain⟨i,hi⟩:=List.getElem?_of_mem hm;obtain⟨o,_,h3,_⟩:=nj hi;exact ajw h3 hc
    have apT:∀{id:Nat},(base≤id∧id<base+(L'.length - σ.length))→H2 id=L'[σ.length+(id - base)]? :=by
     intro id hc;simp only[H2,cW,(pb (σ:=σ) (L:=L') gp hle).2 (hni hc)];rw[if_pos (by simp only[List.length_drop];exact hc)];simp only[List.getElem?_drop]
    have apU:∀{id:Nat},id ∉ σ→¬(base≤id∧id<base+(L'.length - σ.length))→H2 id=H id:=by
     intro id h1 h2;simp only[H2,cW,(pb (σ:=σ) (L:=L') gp hle).2 h1];rw[if_neg (by simp only[List.length_drop];exact h2)]
    have cls:∀{id:Nat} {o2:ab},H2 id=some o2→(∃(j:Nat) (o:ab),(S.ez x)[j]? =some o∧sZ (back σ base n0) o=some o2∧fE id=iq j∧back σ base n0 j=some id)∨(id ∉ σ∧H id=some o2∧fE id=ρ id):=by
     intro id o2 ho;by_cases hm:id∈σ
     ·obtain⟨j,hj⟩:=List.getElem?_of_mem hm;rw[anu hj]at ho;obtain⟨o,h1,h2⟩:=hL1 ho;obtain⟨h3,h4⟩:=alL hj;exact .inl ⟨j,o,h1,h2,by rw[h3,h4],by simp only[back,lG (List.getElem?_eq_some_iff.1 hj).1,cond_true];exact hj⟩
     ·by_cases hc:base≤id∧id<base+(L'.length - σ.length)
      ·rw[apT hc]at ho;obtain⟨o,h1,h2⟩:=hL1 ho;refine .inl ⟨_,o,h1,h2,by simp only[fE];rw[if_pos hc], ?_⟩;simp only[back,oG (show σ.length≤σ.length+(id - base)by omega),cond_false,lG (show σ.length+(id - base)<n0 by omega),cond_true];congr 1;omega
      ·rw[apU hm hc]at ho;exact .inr ⟨hm,ho,by simp only[fE];rw[if_neg hc]⟩
    have tl:∀{id b:Nat} {o:ab},id ∉ σ→H id=some o→o.alive=true→eg (ρ id)=some b→¬Own (pull σ ρ) (lk (S.heap x)) b:=by
     intro id b o hm ho ha hb hv;obtain⟨j,id',o',h1,h2,h3,h4⟩:=dC hv;have:=hs.inj id id' o o' b ho h2 ha h3 hb h4;subst this;exact hm (List.mem_of_getElem? h1)
    have apV:∀{b:Nat},G b→G' b:=fun{b} hb=>⟨.inr hb,fun hv=>by
     obtain⟨j,id',o',h1,h2,h3,h4⟩:=dC hv;exact hs.apart b ⟨id',o',h2,h3,h4⟩ hb⟩
    have apW:∀{b:Nat},Own fE H2 b→Own iq (lk (S.ez x)) b∨(Own ρ H b∧G' b):=by
     rintro b ⟨id,o2,ho,ha,hb⟩;rcases cls ho with⟨j,o,h1,h2,h3,_⟩|⟨h1,h2,h3⟩
     ·exact .inl ⟨j,o,h1,by rw[←(cF h2).1];exact ha,by rw[←h3];exact hb⟩
     ·rw[h3]at hb;exact .inr ⟨⟨id,o2,h2,ha,hb⟩,.inl ⟨id,o2,h2,ha,hb⟩,tl h1 h2 ha hb⟩
    have E2:Emb (back σ base n0) iq (lk (S.ez x)) (aP iq (lk (S.ez x)) G') fE H2 (aP fE H2 G):=by
     refine⟨fun i j kP=> ?_,fun b hb=> ?_⟩
     ·simp only[back,Bool.cond_eq_ite]at kP;split at kP
      ·rename_i bm;obtain⟨h3,h4⟩:=alL kP;refine⟨by rw[h3,h4],fun o ho=> ?_⟩;obtain⟨b,h5,h6⟩:=fK hL' i o ho;exact⟨b,by rw[anu kP];exact h6,(cF h5).2⟩
      ·rename_i hge;split at kP
       ·rename_i bm;have bm:i<n0:=Nat.le_of_ble_eq_true bm
        have hge:σ.length≤i:=by
         rcases Nat.lt_or_ge i σ.length with h5|h5
         ·exact absurd (lG h5) hge
         ·exact h5
        simp only[Option.some.injEq]at kP;have hc:base≤j∧j<base+(L'.length - σ.length):=by omega
        have hi:σ.length+(j - base)=i:=by omega
        refine⟨by simp only[fE];rw[if_pos hc,hi],fun o ho=> ?_⟩;obtain⟨b,h5,h6⟩:=fK hL' i o ho;exact⟨b,by rw[apT hc,hi];exact h6,(cF h5).2⟩
       ·cases kP
     ·rcases hb with hb|hb
      ·exact(apW hb).imp (fun h=>h) (fun h=>h.2)
      ·exact .inr (apV hb)
    have st:Step ρ H (aP ρ H G) w fE H2 (aP fE H2 G) w':=by
     refine⟨fun id o ho=>by simp only[fE];rw[if_neg (ajw ho)],fun id o ho=> ?_,fun b hb=> ?_,fun b hb hO=>g3.heap b hb (fun hv=>hO (E.fz b hv)),g3.size⟩
     ·by_cases hm:id∈σ
      ·obtain⟨j,hj⟩:=List.getElem?_of_mem hm;obtain⟨o1,o',h1,h2,h3⟩:=nj hj;rw[ho]at h1;cases h1;obtain⟨o'',h4,h5⟩:=g3.dO j o' h3;obtain⟨o3,h6,h7⟩:=fK hL' j o'' h4;refine⟨o3,by rw[anu hj];exact h7,fun c' e' hc=> ?_⟩;obtain⟨c,e1,h8,h9,w5⟩:=h5 c' e' ((cF h6).2 c' e' hc);exact⟨c,e1,(cF h2).2 c e1 h8,h9,w5⟩
      ·exact⟨o,by rw[apU hm (ajw ho)];exact ho,fun c' e' hc=>⟨c',e',hc,rfl,rfl⟩⟩
     ·rcases g3.fz b (E2.fz b hb)with h5|h5
      ·exact .inl (E.fz b h5)
      ·exact .inr h5
    refine⟨fE,⟨fun id o2 ho=> ?_,fun i j oi oj b hi hj ai aj bi bj=> ?_,fun b hb hG=> ?_,fun b hb=>Nat.lt_of_lt_of_le (hs.low b hb) g3.size⟩,(s5 E2 20).1 _ _ _ hr g2,st,⟨g4.os,g4.tape,g4.output,fun b hb hO=>g4.heap b hb (fun hv=> ?_)⟩⟩
    ·rcases cls ho with⟨j,o,h1,h2,h3,_⟩|⟨h1,h2,h3⟩
     ·rw[h3];exact xw E2 h2 (g1.obj j o h1)
     ·rw[h3];refine(hs.obj id o2 h2).step st (fun b ha hb=> ?_);exact g4.heap b (gu hs ⟨id,o2,h2,ha,hb⟩) (tl h1 h2 ha hb)
    ·have mixed:∀{b:Nat},Own iq (lk (S.ez x)) b→∀{id:Nat} {o:ab},id ∉ σ→H id=some o→o.alive=true→eg (ρ id)=some b→False:=by
      intro b h1 id o h2 h3 h4 h5;have hG:G' b:=⟨.inl ⟨id,o,h3,h4,h5⟩,tl h2 h3 h4 h5⟩;exact g1.apart b h1 hG
     rcases cls hi with⟨j1,o1,p1,p2,p3,p4⟩|⟨p1,p2,p3⟩
     ·rw[p3]at bi;have a1:o1.alive=true:=by rw[←(cF p2).1];exact ai
      rcases cls hj with⟨j2,o2,q1,q2,q3,q4⟩|⟨q1,q2,q3⟩
      ·rw[q3]at bj;have:=g1.inj j1 j2 o1 o2 b p1 q1 a1 (by rw[←(cF q2).1];exact aj) bi bj;subst this;rw[p4]at q4;exact Option.some.inj q4
      ·rw[q3]at bj;exact(mixed ⟨j1,o1,p1,a1,bi⟩ q1 q2 aj bj).elim
     ·rw[p3]at bi;rcases cls hj with⟨j2,o2,q1,q2,q3,q4⟩|⟨q1,q2,q3⟩
      ·rw[q3]at bj;exact(mixed ⟨j2,o2,q1,by rw[←(cF q2).1];exact aj,bj⟩ p1 p2 ai bi).elim
      ·rw[q3]at bj;exact hs.inj i j oi oj b p2 q2 ai aj bi bj
    ·rcases apW hb with h5|h5
     ·exact g1.apart b h5 (apV hG)
     ·exact hs.apart b h5.1 hG
    ·obtain⟨j,id,o,h1,h2,h3,h4⟩:=dC hv;exact hO ⟨id,o,h2,h3,h4⟩
   ·simp[RM.eval]at hq
  ·simp[RM.eval]at hq
 ·simp[RM.eval]at hq
end
end Go.Sx
namespace Go.Sx
open Go
instance {k:IntKind} {n:Nat}:DecidableEq (CK.arr k n).V:=inferInstanceAs (DecidableEq (List Int))
instance {k:IntKind}:DecidableEq (CK.ints k).V:=inferInstanceAs (DecidableEq (List Int))
instance {k:IntKind}:DecidableEq (CK.int k).V:=inferInstanceAs (DecidableEq Int)
instance:DecidableEq CK.str.V:=inferInstanceAs (DecidableEq ByteArray)
instance:DecidableEq CK.bool.V:=inferInstanceAs (DecidableEq Bool)
abbrev el{cs:List CK}(l:List (CL cs))(i:Int):CL cs:=l.getD i.toNat (CL.d cs)
abbrev bn{α:Type}(a:α):Prop:=a=a
abbrev nA:Prop:=(some []:Option (List ab))=some []
section
variable{K:List ab→AV→Prop}{C:bw→Prop}{t e:Tree}{p q:Prop}
theorem cl{α:Type}{a:α}(h:t.aZ K C):(Tree.need (a=a) t).aZ K C:=⟨rfl,h⟩
theorem ba(hp:p)(h:t.aZ K C):(Tree.need p t).aZ K C:=⟨hp,h⟩
theorem zy{d:Decidable p}(h1:p→t.aZ K C)(h2:¬p→e.aZ K C):(Tree.ite (@decide p d) t e).aZ K C:=⟨fun h=>h1 (of_decide_eq_true h),fun h=>h2 (of_decide_eq_false h)⟩
theorem zz{a b:Int}(h1:a=b→t.aZ K C)(h2:a≠b→e.aZ K C):(Tree.ite (a==b) t e).aZ K C:=⟨fun h=>h1 (by simpa using h),fun h=>h2 (by simpa using h)⟩
theorem zA{a b:Int}(h1:a≠b→t.aZ K C)(h2:a=b→e.aZ K C):(Tree.ite (a !=b) t e).aZ K C:=⟨fun h=>h1 (by simpa using h),fun h=>h2 (by simpa using h)⟩
theorem zB{b:Bool}(h:(Tree.ite b e t).aZ K C):(Tree.ite (!b) t e).aZ K C:=⟨fun hb=>h.2 (by simpa using hb),fun hb=>h.1 (by simpa using hb)⟩
theorem fU(h:t.aZ K C):(Tree.ite true t e).aZ K C:=⟨fun _=>h,fun x=>(by cases x)⟩
theorem gF(h:e.aZ K C):(Tree.ite false t e).aZ K C:=⟨fun x=>(by cases x),fun _=>h⟩
theorem zC{b:Bool}(h1:b=true→t.aZ K C)(h2:b=false→e.aZ K C):(Tree.ite b t e).aZ K C:=⟨h1,h2⟩
theorem tm(h1:p→t.aZ K C)(h2:q→e.aZ K C):(Tree.both p q t e).aZ K C:=⟨h1,h2⟩
theorem tn{H:List ab}{v:AV}(h:K H v):(Tree.ret H v).aZ K C:=h
theorem gm{c:bw}(h:C c):(Tree.at c).aZ K C:=h
theorem bC{X:Type}{S:Spec X}{x:X}{L:List ab}{r:AV}{o:AV}{h:List ab}(m:Nat)(e:Norm.run ⟨[],[0],m,[]⟩ ⟨[r],L,[],{}⟩=some ⟨[o],h,[],{}⟩)(hm:(S.heap x).length≤m)(ho:S.out x=o)(hh:S.ez x=h):cX S x L r:=
 ⟨⟨[],[0],m,[]⟩,hm,by rw[ho,hh];exact e⟩
end
end Go.Sx
namespace Lf
open Go Go.Sx
section
variable{L:List ab}
theorem anv{b:Bool}:Ends [.b .bool] (b,()) L (.s (.bool b)):=rfl
theorem xA{n:Int}:Ends [.b (.int .i64)] (n,()) L (.s (.int .i64 n)):=rfl
theorem agH{s:ByteArray}:Ends [.b .str] (s,()) L (.s (.str s)):=rfl
theorem xB{s:ByteArray}{n:Int}:Ends [.b .str,.b (.int .i64)] (s,n,()) L (.bg [.s (.str s),.s (.aK .i64 n)]):=rfl
theorem fj{b:Bool}{b':Bool}(h:b=b'):Ends [.b .bool] (b,()) L (.s (.aC b')):=by subst h;rfl
theorem ac8{b b':Int}(h:b=b'):Ends [.b (.int .i64)] (b,()) L (.s (.int .i64 b')):=by subst h;rfl
end
theorem agI{p:Nat→Bool}{n i:Nat}(hi:i<n)(h:p i=false):(List.range n).all p=false:=by
 rw[List.all_eq_false];exact⟨i,List.mem_range.2 hi,by simp[h]⟩
theorem ac9{p:Nat→Bool}{n:Nat}(h:∀i,i<n→p i=true):(List.range n).all p=true:=by
 rw[List.all_eq_true];exact fun i hi=>h i (List.mem_range.1 hi)
theorem dw{p:Nat→Bool}{n:Nat}:(List.range n).all p=true↔ ∀i,i<n→p i=true:=by
 simp[List.all_eq_true]
theorem bM{α:Type}{l:List α}{i:Nat}{d:α}(h:i<l.length):l.getD i d=l[i]:=by simp[List.getD,h]
theorem tp{a b:ByteArray}(h:a.data.toList=b.data.toList):a=b:=by
 cases a;cases b;simp only[ByteArray.mk.injEq];exact Array.toList_inj.1 h
theorem q9:∀(x:List UInt8),Op.bytesLess x x=false
 |[]=>rfl
 |a::x=>by simp[Op.bytesLess,q9 x]
theorem tq:∀{x y z:List UInt8},Op.bytesLess x y=true→Op.bytesLess y z=true→Op.bytesLess x z=true
 |_,[],_,h,_=>by simp[Op.bytesLess]at h
 |_,_::_,[],_,h=>by simp[Op.bytesLess]at h
 |[],b::y,c::z,_,_=>rfl
 |a::x,b::y,c::z,h1,h2=>by
  simp only[Op.bytesLess,Bool.or_eq_true,decide_eq_true_eq,Bool.and_eq_true,beq_iff_eq]at *;rcases h1 with h1|⟨rfl,h1⟩
  ·rcases h2 with h2|⟨rfl,h2⟩
   ·exact .inl (UInt8.lt_trans h1 h2)
   ·exact .inl h1
  ·rcases h2 with h2|⟨rfl,h2⟩
   ·exact .inl h2
   ·exact .inr ⟨rfl,tq h1 h2⟩
theorem tu:∀(x y:List UInt8),Op.bytesLess x y=true∨x=y∨Op.bytesLess y x=true
 |[],[]=>.inr (.inl rfl)
 |[],_::_=>.inl rfl
 |_::_,[]=>.inr (.inr rfl)
 |a::x,b::y=>by
  simp only[Op.bytesLess,Bool.or_eq_true,decide_eq_true_eq,Bool.and_eq_true,beq_iff_eq,List.cons.injEq];rcases UInt8.lt_or_lt_of_ne (a:=a) (b:=b)|>fun h=>(Decidable.em (a=b)).imp id h with rfl|h|h
  ·rcases tu x y with h|rfl|h
   ·exact .inl (.inr ⟨rfl,h⟩)
   ·exact .inr (.inl ⟨rfl,rfl⟩)
   ·exact .inr (.inr (.inr ⟨rfl,h⟩))
  ·exact .inl (.inl h)
  ·exact .inr (.inr (.inl h))
theorem lf:∀(x y:List UInt8),(Lib.compareBytes x y<0↔Op.bytesLess x y=true)∧(Lib.compareBytes x y=0↔x=y)∧(-1≤Lib.compareBytes x y∧Lib.compareBytes x y≤1)
 |[],[]=>by simp[Lib.compareBytes,Op.bytesLess]
 |[],_::_=>by simp[Lib.compareBytes,Op.bytesLess]
 |_::_,[]=>by simp[Lib.compareBytes,Op.bytesLess]
 |a::x,b::y=>by
  obtain⟨h1,h2,h3⟩:=lf x y;simp only[Lib.compareBytes,Op.bytesLess,List.cons.injEq];by_cases h:a<b
  ·rw[if_pos h];have:a≠b:=fun e=>by subst e;exact absurd h (UInt8.lt_irrefl a)
   simp[h,this]
  ·rw[if_neg h];by_cases h':b<a
   ·rw[if_pos h'];have:a≠b:=fun e=>by subst e;exact absurd h' (UInt8.lt_irrefl a)
    simp[h,this]
   ·rw[if_neg h'];have:a=b:=UInt8.toNat_inj.1 (by rw[UInt8.lt_iff_toNat_lt]at h h';omega);subst this;simp[h,h1,h2,h3]
def lg(a b:ByteArray):Int:=Lib.compareBytes a.data.toList b.data.toList
theorem rM(a b:ByteArray):lg a b<0↔slt a b=true:=(lf _ _).1
theorem ada(a b:ByteArray):lg a b=0↔a=b:=by
 rw[show a=b↔a.data.toList=b.data.toList from⟨fun h=>by rw[h],tp⟩];exact(lf _ _).2.1
theorem jq(a:ByteArray):slt a a=false:=q9 _
theorem gk{a b c:ByteArray}(h1:slt a b=true)(h2:slt b c=true):slt a c=true:=tq h1 h2
theorem vW(a b:ByteArray):slt a b=true∨a=b∨slt b a=true:=by
 rcases tu a.data.toList b.data.toList with h|h|h
 ·exact .inl h
 ·exact .inr (.inl (tp h))
 ·exact .inr (.inr h)
theorem aeM{a b:ByteArray}(h:slt a b=true):slt b a=false:=by
 cases h2:slt b a
 ·rfl
 ·have:=gk h h2;rw[jq]at this;cases this
theorem abN{a b:ByteArray}(h:slt a b=false)(h2:a≠b):slt b a=true:=by
 rcases vW a b with h3|h3|h3
 ·rw[h]at h3;cases h3
 ·exact absurd h3 h2
 ·exact h3
theorem ky{a:ByteArray}(h:a.size=0):a=ByteArray.empty:=by
 apply tp;have:a.data.toList.length=0:=by rw[Array.length_toList];exact h
 rw[List.eq_nil_of_length_eq_zero this];rfl
end Lf
namespace Go.Sx
open Go
section
variable{ρ aF:Nat→Value}{H H' H1 H2:aM}{G O O':Nat→Prop}{w w' w1 w2:World}{P:Program}{X:Ctx}{K:List ab→AV→Prop}
def agJ(P:Program)(t:TypeId):Bool:=match P.underlying t with
 |some (.map _ _)=>true
 |_=>false
theorem wS.seq(f1:wS ρ H w w1){iq:Nat→Value}(t1:Step ρ H (aP ρ H G) w iq H1 (aP iq H1 G) w1)(s1:Sat iq H1 G w1)(f2:wS iq H1 w1 w2):wS ρ H w w2:=by
 refine⟨f2.os.trans f1.os,f2.tape.trans f1.tape,f2.output.trans f1.output,fun b hb hO=> ?_⟩
 have rm:¬Own iq H1 b:=fun ho=>by
  rcases t1.fz b (.inl ho)with hh|hh
  ·exact hh.elim hO (s1.apart b ho)
  ·omega
 rw[f2.heap b (by have:=t1.size;omega) rm,f1.heap b hb hO]
theorem Good.ghost(hs:Sat ρ H G w){n:Nat}(hn:H n=none)(g:Value):∃aF,aF n=g∧Sat aF (ax H n .dead) G w∧Step ρ H (aP ρ H G) w aF (ax H n .dead) (aP aF (ax H n .dead) G) w∧wS ρ H w w:=by
 have ne:∀j x,H j=some x→j≠n:=fun j x hx e=>by subst e;rw[hn]at hx;cases hx
 have oF:∀b,Own (fun j=>if j=n then g else ρ j) (ax H n .dead) b→Own ρ H b:=by
  rintro b ⟨j,x,hx,h1,h2⟩;by_cases hj:j=n
  ·subst hj;simp only[ax,if_true,Option.some.injEq]at hx;subst hx;cases h1
  ·simp only[ax,hj,if_false]at hx h2;exact⟨j,x,hx,h1,h2⟩
 have st:Step ρ H (aP ρ H G) w (fun j=>if j=n then g else ρ j) (ax H n .dead) (aP (fun j=>if j=n then g else ρ j) (ax H n .dead) G) w:=by
  refine⟨fun j x hx=>by simp[ne j x hx],fun j x hx=>⟨x,by simp[ax,ne j x hx,hx],fun c' e' hc=>⟨c',e',hc,rfl,rfl⟩⟩,fun b hb=>.inl (hb.imp (oF b) id),fun b hb _=>rfl,Nat.le_refl _⟩
 refine⟨_,by simp,⟨fun j x hx=> ?_,fun i j oi oj b h1 h2 h3 h4 h5 h6=> ?_,fun b hb=>hs.apart b (oF b hb),hs.low⟩,st,rfl,rfl,rfl,fun _ _ _=>rfl⟩
 ·by_cases hj:j=n
  ·subst hj;simp only[ax,if_true,Option.some.injEq]at hx;subst hx;trivial
  ·simp only[ax,hj,if_false]at hx;simp only[hj,if_false];exact(hs.obj j x hx).step st (fun _ _ _=>rfl)
 ·have f:∀i oi,ax H n .dead i=some oi→oi.alive=true→eg ((fun j=>if j=n then g else ρ j) i)=some b→H i=some oi∧eg (ρ i)=some b:=by
   intro i oi hi so hb;by_cases eF:i=n
   ·subst eF;simp only[ax,if_true,Option.some.injEq]at hi;subst hi;cases so
   ·simp only[ax,eF,if_false]at hi hb;exact⟨hi,hb⟩
  obtain⟨x1,x2⟩:=f i oi h1 h3 h5;obtain⟨y1,y2⟩:=f j oj h2 h4 h6;exact hs.inj i j oi oj b x1 y1 h3 h4 x2 y2
theorem abO(hs:Sat ρ H G w){id base:Nat}{ck:CK}{m:List (Int×ck.V)}{t kt et:TypeId}(ht:P.underlying t=some (.map kt et))(ho:H id=some (.map ck m))(hb0:H base=none)(hb1:H (base+1)=none)
 {v:Value} (hd:af ρ H (aP ρ H G) w (.ag id) v):∃v' w',(Instr.range t v).run P w=.ok v' w'∧
  Good ρ H G w (ax (ax (ax H base .dead) id (.gK ck m base)) (base+1) (.iter id base ck m none)) (.ptr (base+1) 0) v' w':=by
 unfold af aD at hd;obtain⟨b,hb,rfl,_⟩:=hd;obtain⟨b',es,clock,h1,h2,h3⟩:=hs.obj id _ ho;rw[hb]at h1;cases h1;have ne0:id≠base:=fun e=>by subst e;rw[hb0]at ho;cases ho
 have ne1:id≠base+1:=fun e=>by subst e;rw[hb1]at ho;cases ho
 have e1:(getObj b).run P w=.ok (.map es clock) w:=by simp[getObj,Sem.run,h2]
 refine⟨.pointer (some ⟨w.heap.size,0,none⟩),w.alloc (.mapIter (some b) clock #[] clock), ?_, ?_⟩
 ·simp[Instr.range,run_underlying ht,e1]
 ·obtain⟨iq,g1,s1,t1,f1⟩:=Good.ghost hs hb0 (yz es clock);have hρ:iq id=.map (some b):=by rw[t1.r5 id _ ho,hb]
  have ho1:ax H base .dead id=some (.map ck m):=by simp[ax,ne0,ho]
  have apX:Good iq (ax H base .dead) G w (ax (ax H base .dead) id (.gK ck m base)) (.bg []) undef w:=
   Good.upd (o':=.gK ck m base) s1 ho1 rfl (fun _ _ hc=>by cases hc) ⟨b,es,clock,hρ,h2,h3,g1,by simp[ax,Ne.symm ne0]⟩ cC
  obtain⟨fE,s2,d2,t2,f2⟩:=apX;have asQ:fE base=yz es clock:=by rw[t2.r5 base .dead (by simp[ax])];exact g1
  have asR:fE id=.map (some b):=by rw[t2.r5 id _ ho1];exact hρ
  have uI:ax (ax H base .dead) id (.gK ck m base) (base+1)=none:=by simp[ax,hb1,Ne.symm ne1]
  have apY:Good fE (ax (ax H base .dead) id (.gK ck m base)) G w (ax (ax (ax H base .dead) id (.gK ck m base)) (base+1) (.iter id base ck m none)) (.ptr (base+1) 0) (.pointer (some ⟨w.heap.size,0,none⟩)) (w.alloc (.mapIter (some b) clock #[] clock)):=by
   refine Good.fresh (root:=.pointer (some ⟨w.heap.size,0,none⟩)) s2 uI rfl rfl rfl rfl (fun b' rl=>by simpa[eg]using rl.symm) ?_ ?_
   ·refine⟨w.heap.size,b,es,clock,#[],rfl,iY,⟨?_,h3.fits,h3.sg,h3.old,fun p hp=>by cases hp⟩, ?_, ?_, ?_, ?_⟩
    ·rw[←h3.eq];congr 1;exact List.filter_eq_self.2 fun e _=>by simp
    ·have:base≠base+1:=by omega
     simp only[this,if_false];exact asQ
    ·simp[ax,Ne.symm ne0]
    ·simp only[ne1,if_false];exact asR
    ·simp[ax,ne1]
   ·unfold af aD;exact⟨w.heap.size,by simp,rfl,by simp[ax]⟩
  obtain⟨ρ3,s3,d3,t3,f3⟩:=apY;exact⟨ρ3,s3,d3,t1.trans (t2.trans t3),f1.seq t1 s1 (f2.seq t2 s2 f3)⟩
theorem erase_filter{L:List MapEntry}(hb:(L.map (·.born)).Nodup){i:Nat}(hi:i<L.length):L.filter (fun x=>x.born !=L[i].born)=L.eraseIdx i:=by
 induction L generalizing i with
 |nil=>simp at hi
 |cons x L ih=>
  simp only[List.map_cons,List.nodup_cons]at hb;cases i with
  |zero=>
   simp only[List.getElem_cons_zero,List.eraseIdx_cons_zero];rw[List.filter_cons];simp only[bne_self_eq_false,Bool.false_eq_true,if_false];refine List.filter_eq_self.2 fun e he=> ?_;rw[bne_iff_ne];exact fun h=>hb.1 (List.mem_map.2 ⟨e,he,h⟩)
  |succ i=>
   simp only[List.length_cons]at hi;have eF:i<L.length:=by omega
   simp only[List.getElem_cons_succ,List.eraseIdx_cons_succ];rw[List.filter_cons,if_pos,ih hb.2 eF];rw[bne_iff_ne];exact fun h=>hb.1 (List.mem_map.2 ⟨_,List.getElem_mem eF,h.symm⟩)
theorem si.next{ck:CK}{left:List (Int×ck.V)}{cur:Option (Int×ck.V)}{es:Array MapEntry}{clock:Nat}{seen:Array Nat}(h:si ck left cur es clock seen){e:MapEntry}(he:e∈(leftOf es seen).toList):
 ∃i,∃hi:i<left.length,e.key=.int .i64 left[i].1∧e.val=ck.val left[i].2∧si ck (left.eraseIdx i) (some left[i]) es clock (seen.push e.born):=by
 have hL:(leftOf es seen).toList=es.toList.filter fun e=> !seen.contains e.born:=by simp[leftOf]
 rw[hL]at he;obtain⟨i,hi,rfl⟩:=List.getElem_of_mem he;generalize hF:(es.toList.filter fun e=> !seen.contains e.born)=F at *;have heq:=h.eq;rw[hF]at heq;have hlen:F.length=left.length:=by have:=congrArg List.length heq;simpa only[List.length_map]using this
 have h1:=congrArg (fun l=>l[i]?) heq;have hil:i<left.length:=by omega
 simp only[List.getElem?_map,List.getElem?_eq_getElem hi,List.getElem?_eq_getElem hil,Option.map_some,Option.some.injEq,Prod.mk.injEq]at h1
 have iQ:F[i]∈es.toList:=by
  have:=List.getElem_mem hi;exact(List.mem_filter.1 (show F[i]∈es.toList.filter (fun e=> !seen.contains e.born)from by rw[hF];exact this)).1
 refine⟨i,hil,h1.1,h1.2,⟨?_,fun p hp=>h.fits p (List.mem_of_mem_eraseIdx hp),h.sg,h.old,fun p hp=> ?_⟩⟩
 ·have e1:(es.toList.filter fun e=> !(seen.push F[i].born).contains e.born)=F.filter (fun x=>x.born !=F[i].born):=by
   generalize F[i].born=z;rw[←hF,List.filter_filter];refine List.filter_congr fun x _=> ?_;by_cases hz:x.born=z<;>simp[hz,bne]
  have gp:(F.map (·.born)).Nodup:=by
   rw[←hF];exact(List.Sublist.map _ List.filter_sublist).nodup h.sg
  rw[e1,erase_filter gp hi,ChangeMaps.map_eraseIdx,heq,←ChangeMaps.map_eraseIdx]
 ·cases hp;exact⟨h.fits _ (List.getElem_mem hil),F[i],iQ,by simp,h1.1,h1.2⟩
theorem aeN(hs:Sat ρ H G w){id mid gid:Nat}{ck ck':CK}{left:List (Int×ck.V)}{cur:Option (Int×ck.V)}{m:List (Int×ck'.V)}(hp:ck.plain=true)(ho:H id=some (.iter mid gid ck left cur))(hm:H mid=some (.gK ck' m gid))
 {v:Value} (hd:af ρ H (aP ρ H G) w (.ptr id 0) v) (ty:TypeId):
 (left=[]∧(Instr.next v false ty).run P w=.ok (.tuple #[.bool false]) w∧Good ρ H G w (ax (ax H mid (.map ck' m)) id .dead) (.bg [.s (.aC false)]) (.tuple #[.bool false]) w)∨
 ∃i,∃hi:i<left.length,∃v' w1,(w1=w∨w1=w.drew)∧∃w',(Instr.next v false ty).run P w=.ok v' w'∧
  Good ρ H G w1 (ax H id (.iter mid gid ck (left.eraseIdx i) (some left[i]))) (.bg [.s (.aC true),.s (.int .i64 left[i].1),ck.av left[i].2]) v' w':=by
 unfold af aD at hd;obtain⟨b,hb,rfl,_⟩:=hd;obtain⟨mb,es,clock,seen,h1,h2,h3,h4,h5,h6,h7⟩:=yV hs ho hm hb;have cL:mid≠id:=fun e=>by subst e;rw[ho]at hm;cases hm
 rcases run_next_at (P:=P) w ty b mb clock clock seen es clock h1 h2 h3.old (Nat.le_refl _)with⟨k1,k2⟩|⟨e,he,w1,k1,k2⟩
 ·refine .inl ⟨?_,k2, ?_⟩
  ·have hl:(es.toList.filter fun e=> !seen.contains e.born)=[]:=by
    have:(leftOf es seen).toList.length=0:=by simpa using k1
    have:=List.eq_nil_of_length_eq_zero this;simpa[leftOf]using this
   have:=congrArg List.length h3.eq;rw[hl]at this;exact List.eq_nil_of_length_eq_zero (by simpa using this.symm)
  ·obtain⟨iq,s1,d1,t1,f1⟩:Good ρ H G w (ax H mid (.map ck' m)) (.bg [.s (.aC false)]) (.tuple #[.bool false]) w:=
    Good.upd (o':=.map ck' m) hs hm rfl (fun _ _ hc=>by cases hc) ⟨mb,es,clock,h5,h2,h4⟩ (by
     unfold af;exact⟨[.bool false],rfl,aA.2 ⟨_,_,rfl,az (.aC _),aU.2 rfl⟩⟩)
   have ho1:ax H mid (.map ck' m) id=some (.iter mid gid ck left cur):=by simp[ax,Ne.symm cL,ho]
   have st:=eK (ρ:=iq) (G:=G) (w:=w) ho1;refine⟨iq,s1.kill ho1,af.step st _ _ d1,t1.trans st,f1⟩
 ·obtain⟨i,hi,g1,g2,g3⟩:=h3.next he;refine .inr ⟨i,hi,_,w1,k1,_,k2, ?_⟩
  have hs1:Sat ρ H G w1:=by
   rcases k1 with rfl|rfl
   ·exact hs
   ·have st:Step ρ H (aP ρ H G) w ρ H (aP ρ H G) w.drew:=⟨fun _ _ _=>rfl,fun _ o ho=>⟨o,ho,fun c' e' e=>⟨c',e',e,rfl,rfl⟩⟩,fun _ h=>.inl h,fun _ _ _=>rfl,Nat.le_refl _⟩;exact⟨fun j x hx=>(hs.obj j x hx).step st (fun _ _ _=>rfl),hs.inj,hs.apart,hs.low⟩
  have hh:w1.heap=w.heap:=by rcases k1 with rfl|rfl<;>rfl
  have hb1:w1.heap[b]? =some (.mapIter (some mb) clock seen clock):=by rw[hh];exact h1
  refine Good.write hs1 ho rfl rfl (by rw[hb];rfl) (fun _ _ hc=>by cases hc) ?_ ?_
  ·exact⟨b,mb,es,clock,_,hb,dT hb1,g3,h6,by simp only[ax];split<;>first|rfl|exact h7,h5,by simp only[ax,cL,if_false];rw[hm];rfl⟩
  ·rw[g1,g2];unfold af;exact⟨[.bool true,.int .i64 left[i].1,ck.val left[i].2],rfl,aA.2 ⟨_,_,rfl,az (.aC _),aA.2 ⟨_,_,rfl,az (.int _ _),aA.2 ⟨_,_,rfl,xc (h3.fits _ (List.getElem_mem hi)) (yW hp _),aU.2 rfl⟩⟩⟩⟩
theorem bY.aer{s:St}{a:Act}(h:bY X ρ s a w){dst:Option Tmp}{q:bH}{v:Value}(hw:w1=w∨w1=w.drew)(hg:Good ρ s.look X.G w1 (s.put dst q).look (q.r s.H.length) v w'):∃aF,bY X aF (s.put dst q) (a.put dst v) w':=by
 have h1:bY X ρ s a w1:=by
  rcases hw with rfl|rfl
  ·exact h
  ·exact h.drew
 obtain⟨aF,g1,g2,g3,g4⟩:=hg;obtain⟨arr,df⟩:=a;have hp:=oR (ρ:=aF) (H:=(s.put dst q).look) (O:=aP aF (s.put dst q).look X.G) (w:=w') h1.size (fun t=>af.step g3 _ _ (h1.den t)) dst g2 df;exact⟨aF,g1,hp.1,hp.2,by have:=h1.defers;cases dst<;>exact this,h1.from_.trans g3,wS.trans h1 g4,h1.kept.ix h1.sat g4⟩
def aeO(fn:Func)(key i:Nat):Option (Array Oper×Oper×List Item):=match hr fn key with
 |.code (.region _ ops _)::k=>(ops[i]?).map fun o=>(ops,o,k)
 |_=>none
def adb(x:Array Oper×Oper×List Item):Option (TypeId×Tmp×Tmp):=match x.2.1.guard,x.2.1.op,x.2.1.dst with
 |none,.range t (.tmp y),some d=>bif gD x.1 then some (t,y,d)else none
 |_,_,_=>none
def agK(x:Array Oper×Oper×List Item):Option (Tmp×Tmp):=match x.2.1.guard,x.2.1.op,x.2.1.dst with
 |none,.next (.tmp y) false,some d=>bif gD x.1 then some (y,d)else none
 |_,_,_=>none
theorem Yields.congr{o:Oper}{e e':Operand→Value}{R:Value→World→Prop}(he:execOp e' o=execOp e o)(h:Yields P o e w R):Yields P o e' w R:=by
 unfold Yields at *;rw[he];exact h
theorem zD{f:FuncId}{fn:Func}{key i:Nat}{ops:Array Oper}{o:Oper}{k:List Item}(hat:aeO fn key i=some (ops,o,k))(gp:gD ops=true)(hg:o.guard=none){tmps:List AV}{L:List ab}{stk:kU}
 (dz:(stk.plain||jG (bw.n ⟨tmps,L,[],stk⟩) ops)=true)
 (h:∀G E ρ a w,bY (X.at G E) ρ ⟨tmps,L⟩ a w→Yields P o a.eval w (fun v w'=>∃q aF,bY (X.at G E) aF (St.put ⟨tmps,L⟩ o.dst q) (a.put o.dst v) w'∧
   Safe P f X K ⟨(St.put ⟨tmps,L⟩ o.dst q).tmps,(St.put ⟨tmps,L⟩ o.dst q).H,eh fn key (i+1),stk⟩)):Safe P f X K ⟨tmps,L,eh fn key i,stk⟩:=by
 obtain⟨ho,hc⟩:ops[i]? =some o∧∀j,eh fn key j=.inRegion ops (List.range' j (ops.size - j))::k:=by
  unfold aeO at hat;split at hat
  ·rename_i n at4 d k' hh;simp only[Option.map_eq_some_iff,Prod.mk.injEq]at hat;obtain⟨o',e1,rfl,rfl,rfl⟩:=hat;exact⟨e1,fun j=>by unfold eh;rw[hh]⟩
  ·cases hat
 intro G E ρ a w gI gO hr b t fs hw;obtain⟨rest,Ds,alM,qm,hwf⟩:=hw.top (c:=⟨tmps,L,[],stk⟩) hr.dp.len
 have n6:iS (bw.n ⟨tmps,L,[],stk⟩) rest Ds a t:=by
  have e:(⟨a.tmps.toList.toArray,[]⟩:Act)=a:=by
   have:=hr.defers;cases a;simp at this ⊢;exact this
  rw[e]at alM;exact alM
 have apZ:oS (bw.n ⟨tmps,L,[],stk⟩) rest ops:=zi dz qm (fun x=>x);have jA:=(apZ.op ho).imp (fun x=>x) (·.2.1);have hi:i<ops.size:=(Array.getElem?_eq_some_iff.1 ho).1
 have qb:List.range' i (ops.size - i)=i::List.range' (i+1) (ops.size - (i+1)):=by
  rw[show ops.size - i=ops.size - (i+1)+1 from by omega,List.range'_succ]
 have hy':=(h G E ρ a w hr).congr (n6.same apZ ho).1;show cv P f (iR X K) b t (eh fn key i) fs w;rw[hc i,qb];intro cs;obtain⟨v,w',⟨q,aF,dW,hs⟩,kO⟩:=acO ho (by simp[Region.wanted,hg]) (mz gp ho) hy' b k (fs++cs) (rest:=List.range' (i+1) (ops.size - (i+1)));have afW:=n6.put jA v;have:=hs G E aF _ w' gI gO dW b (t.put o.dst v) fs (hwf _ _ afW dW.defers);rw[hc (i+1)]at this;obtain⟨e,w2,fr,g1,g2,g3⟩:=this cs;exact⟨e,w2,fr,g1,Comes.of_steps kO g2,g3⟩
theorem abP{L:List ab}{id:Nat}{x:ab}(h:id<L.length)(j:Nat):(L.set id x)[j]? =ax (fun i=>L[i]?) id x j:=by
 simp only[ax];rw[List.getElem?_set];by_cases hj:j=id
 ·subst hj;simp[h]
 ·rw[if_neg (Ne.symm hj),if_neg hj]
theorem abQ{f:FuncId}{fn:Func}{key i:Nat}{t:TypeId}{x d:Tmp}(hat:(aeO fn key i).bind adb=some (t,x,d))(ht:agJ P t=true){tmps:List AV}{L:List ab}{stk:kU}
 (dz:(stk.plain||((aeO fn key i).any fun y=>jG (bw.n ⟨tmps,L,[],stk⟩) y.1))=true) {id:Nat} {ck:CK} {m:List (Int×ck.V)} (hx:tmps.getD x (.s .aR)=.ag id) (de:L[id]? =some (.map ck m))
 (h:Safe P f X K ⟨tmps.set d (.ptr (L.length+1) 0),L.set id (.gK ck m L.length)++[.dead,.iter id L.length ck m none],eh fn key (i+1),stk⟩):Safe P f X K ⟨tmps,L,eh fn key i,stk⟩:=by
 obtain⟨⟨ops,o,k⟩,h1,h2⟩:=Option.bind_eq_some_iff.1 hat;rw[h1]at dz;unfold adb at h2;split at h2
 ·rename_i t' y d' e1 e2 e3;simp only[]at e1 e2 e3;rw[Bool.cond_eq_ite]at h2;split at h2
  ·rename_i gp;simp only[Option.some.injEq,Prod.mk.injEq]at h2;obtain⟨rfl,rfl,rfl⟩:=h2
   obtain⟨kt,et,hut⟩:∃kt et,P.underlying t'=some (.map kt et):=by
    unfold agJ at ht;split at ht
    ·exact⟨_,_,by assumption⟩
    ·cases ht
   refine zD h1 gp e1 (by simpa using dz) fun G E ρ a w hr=> ?_;have bm:id<L.length:=(List.getElem?_eq_some_iff.1 de).1;have hd:=hr.den y;rw[show(St.tmps ⟨tmps,L⟩).getD y (.s .aR)=.ag id from hx]at hd;obtain⟨v',w',g1,g2⟩:=abO (P:=P) hr.sat hut (show(St.look ⟨tmps,L⟩) id=some _ from de) (base:=L.length) (by simp[St.look]) (by simp[St.look]) hd;refine cM (s:=Instr.range t' (a.eval (.tmp y))) ⟨v',w',g1, ?_⟩ (by simp only[execOp,e2]);have hl:(St.put ⟨tmps,L⟩ o.dst ⟨[],[(id,.gK ck m L.length)],[.dead,.iter id L.length ck m none],fun b=>.ptr (b+1) 0⟩).look=
    ax (ax (ax (St.look ⟨tmps,L⟩) L.length .dead) id (.gK ck m L.length)) (L.length+1) (.iter id L.length ck m none):=by
    funext j;show(L.set id (.gK ck m L.length)++[.dead,.iter id L.length ck m none])[j]? =_;simp only[ax,St.look];by_cases hj1:j=L.length+1
    ·subst hj1;rw[List.getElem?_append_right (by simp),if_pos rfl];simp
    ·rw[if_neg hj1];by_cases rI:j=id
     ·subst rI;rw[List.getElem?_append_left (by simpa using bm),if_pos rfl];simp[bm]
     ·rw[if_neg rI];by_cases hj3:j=L.length
      ·subst hj3;rw[List.getElem?_append_right (by simp),if_pos rfl];simp
      ·rw[if_neg hj3];rcases Nat.lt_or_ge j L.length with hj|hj
       ·rw[List.getElem?_append_left (by simpa using hj),List.getElem?_set_ne (Ne.symm rI)]
       ·rw[List.getElem?_append_right (by simpa using hj),List.getElem?_eq_none (by simp;omega),List.getElem?_eq_none (by omega)]
   rw[←hl]at g2;obtain⟨aF,dW⟩:=hr.aer (.inl rfl) g2;refine⟨_,aF,dW, ?_⟩;rw[e3];exact h
  ·cases h2
 ·cases h2
theorem vX{f:FuncId}{fn:Func}{key i:Nat}{x d:Tmp}(hat:(aeO fn key i).bind agK=some (x,d)){tmps:List AV}{L:List ab}{stk:kU}
 (dz:(stk.plain||((aeO fn key i).any fun y=>jG (bw.n ⟨tmps,L,[],stk⟩) y.1))=true) {id mid gid:Nat} {ck ck':CK} {left:List (Int×ck.V)} {cur:Option (Int×ck.V)} {m:List (Int×ck'.V)} (hp:ck.plain=true)
 (hx:tmps.getD x (.s .aR)=.ptr id 0) (de:L[id]? =some (.iter mid gid ck left cur)) (ap0:L[mid]? =some (.gK ck' m gid))
 (h0:left=[]→Safe P f X K ⟨tmps.set d (.bg [.s (.aC false)]),(L.set mid (.map ck' m)).set id .dead,eh fn key (i+1),stk⟩)
 (h:∀j,j<left.length→Safe P f X K ⟨tmps.set d (.bg [.s (.aC true),.s (.int .i64 (left.getD j (0,ck.d)).1),ck.av (left.getD j (0,ck.d)).2]),L.set id (.iter mid gid ck (left.eraseIdx j) (some (left.getD j (0,ck.d)))),eh fn key (i+1),stk⟩):
 Safe P f X K ⟨tmps,L,eh fn key i,stk⟩:=by
 obtain⟨⟨ops,o,k⟩,h1,h2⟩:=Option.bind_eq_some_iff.1 hat;rw[h1]at dz;unfold agK at h2;split at h2
 ·rename_i y d' e1 e2 e3;simp only[]at e1 e2 e3;rw[Bool.cond_eq_ite]at h2;split at h2
  ·rename_i gp;simp only[Option.some.injEq,Prod.mk.injEq]at h2;obtain⟨rfl,rfl⟩:=h2;refine zD h1 gp e1 (by simpa using dz) fun G E ρ a w hr=> ?_;have bm:id<L.length:=(List.getElem?_eq_some_iff.1 de).1;have amZ:mid<L.length:=(List.getElem?_eq_some_iff.1 ap0).1;have hd:=hr.den y;rw[show(St.tmps ⟨tmps,L⟩).getD y (.s .aR)=.ptr id 0 from hx]at hd;rcases aeN (P:=P) hr.sat hp (show(St.look ⟨tmps,L⟩) id=some _ from de) (show(St.look ⟨tmps,L⟩) mid=some _ from ap0) hd o.type with⟨g0,g1,g2⟩|⟨j,hj,v',w1,g1,w',g2,g3⟩
   ·refine cM (s:=Instr.next (a.eval (.tmp y)) false o.type) ⟨_,_,g1, ?_⟩ (by simp only[execOp,e2])
    have hl:(St.put ⟨tmps,L⟩ o.dst ⟨[],[(mid,.map ck' m),(id,.dead)],[],fun _=>.bg [.s (.aC false)]⟩).look=ax (ax (St.look ⟨tmps,L⟩) mid (.map ck' m)) id .dead:=by
     funext j;show((L.set mid (.map ck' m)).set id .dead++[])[j]? =_;rw[List.append_nil,abP (by simpa using bm)];simp only[ax];split
     ·rfl
     ·exact abP amZ j
    rw[←hl]at g2;obtain⟨aF,dW⟩:=hr.aer (.inl rfl) g2;refine⟨_,aF,dW, ?_⟩;rw[e3];have:=h0 g0;simpa[St.put,mg,cI]using this
   ·refine cM (s:=Instr.next (a.eval (.tmp y)) false o.type) ⟨_,_,g2, ?_⟩ (by simp only[execOp,e2]);have hl:(St.put ⟨tmps,L⟩ o.dst ⟨[],[(id,.iter mid gid ck (left.eraseIdx j) (some left[j]))],[],fun _=>.bg [.s (.aC true),.s (.int .i64 left[j].1),ck.av left[j].2]⟩).look=
     ax (St.look ⟨tmps,L⟩) id (.iter mid gid ck (left.eraseIdx j) (some left[j])):=by
     funext j';show(L.set id _++[])[j']? =_;rw[List.append_nil];exact abP bm j'
    rw[←hl]at g3;obtain⟨aF,dW⟩:=hr.aer g1 g3;refine⟨_,aF,dW, ?_⟩;rw[e3];have:=h j hj;rw[show left.getD j (0,ck.d)=left[j]from by simp[List.getD,hj]]at this;simpa[St.put,mg,cI]using this
  ·cases h2
 ·cases h2
end
end Go.Sx
namespace Ds
open Go Go.Sx Go.Proofs Lf
noncomputable abbrev P:Program:=Tryz.prog
theorem mixed:P.follows .mixedOrders=true:=by kernel_rfl
abbrev bB:Ty:=.b (.int .i64)
abbrev c9:Ty:=.b .bool
abbrev dI:Ty:=.b .str
theorem go{Z:aW}{X:Ctx}{t:aH}{f:FuncId}{fn:Func}{ns:List (Nat×Norm)}{c:bw}{tr:Tree}{K:List ab→AV→Prop}{inl:List FuncId}(hz:dP Z X)(hX:∀id,X.H id=none)(hT:t.Ok P Z)(hf:P.funcs[f]? =some fn)
 (e:run P t.sum fn ns c inl=tr) (h:tr.aZ K (Safe P f X K)):Safe P f X K c:=cG (aH.sOk hT) hz mixed hf (fun _ _ id _=>hX id) e h
theorem cR{Z:aW}{X:Ctx}{t:aH}{f:FuncId}{fn:Func}{ns:List (Nat×Norm)}{c:bw}{tr:Tree}{K:List ab→AV→Prop}{L:List ab}{inl:List FuncId}(hz:dP Z X)(hX:X.H=lk L)(hm:∀x∈ns,L.length≤x.2.m)(hT:t.Ok P Z)(hf:P.funcs[f]? =some fn)
 (e:run P t.sum fn ns c inl=tr) (h:tr.aZ K (Safe P f X K)):Safe P f X K c:=
 cG (aH.sOk hT) hz mixed hf (fun x hx id de=>by rw[hX];exact List.getElem?_eq_none (Nat.le_trans (hm x hx) de)) e h
abbrev cS:List CK:=[.arr .u8 64]
abbrev kS:CK:=.arr .u8 64
abbrev eS:TypeId:=165
abbrev eD:TypeId:=105
abbrev Th:Type:=List (CL cS)
abbrev As:Type:=List (Int×kS.V)
abbrev uB(i j:Nat)(fu:Int):ab:=.own [.vec i,.ag j,.s (.int .i64 fu)] eD
abbrev hD(th:Th)(m:As)(fu:Int):List ab:=[uB 1 2 fu,.vec (.ad cS th) eS,.map kS m]
end Ds
namespace Ds
open Go Go.Sx Go.Proofs Lf
abbrev gL:aH:=[]
abbrev inD:List FuncId:=[169,170,96]
theorem agL(th:Th)(m:As)(fu n:Int):run P gL.sum Tryz.f135 [] (start Tryz.f135 [.ptr 0 0,.s (.int .i64 n)] (hD th m fu)) inD=
 Tree.ite (decide (n<(0:Int))) (Tree.ret [ab.own [AV.vec (1:Nat),AV.ag (2:Nat),AV.s (SV.int IntKind.i64 fu)] (105:Nat),ab.vec (aL.ad [CK.arr IntKind.u8 (64:Nat)] th) (165:Nat),ab.map (CK.arr IntKind.u8 (64:Nat)) m] (AV.bg [AV.s (SV.str ByteArray.empty),AV.s (SV.aK IntKind.i64 (5:Int))])) (Tree.ite (decide (n≥(↑(List.length th):Int))) (Tree.ret [ab.own [AV.vec (1:Nat),AV.ag (2:Nat),AV.s (SV.int IntKind.i64 fu)] (105:Nat),ab.vec (aL.ad [CK.arr IntKind.u8 (64:Nat)] th) (165:Nat),ab.map (CK.arr IntKind.u8 (64:Nat)) m] (AV.bg [AV.s (SV.str ByteArray.empty),AV.s (SV.aK IntKind.i64 (5:Int))])) (Tree.ite (ow m n) (Tree.need ((0:Int)≤(0:Int)) (Tree.need ((0:Int)≤(↑(64:Nat):Int)) (Tree.need ((↑(64:Nat):Int)≤(↑(64:Nat):Int)) (Tree.need ((0:Nat)+(64:Nat)≤(64:Nat)) (Tree.ret [ab.own [AV.vec (1:Nat),AV.ag (2:Nat),AV.s (SV.int IntKind.i64 fu)] (105:Nat),ab.vec (aL.ad [CK.arr IntKind.u8 (64:Nat)] th) (165:Nat),ab.map (CK.arr IntKind.u8 (64:Nat)) m,ab.own [AV.ints IntKind.u8 (64:Nat) ((fl m n).getD (CK.arr IntKind.u8 (64:Nat)).d)] (165:Nat),ab.own [AV.ints IntKind.u8 (64:Nat) ((fl m n).getD (CK.arr IntKind.u8 (64:Nat)).d)] (165:Nat),ab.own [AV.ints IntKind.u8 (64:Nat) ((fl m n).getD (CK.arr IntKind.u8 (64:Nat)).d)] (165:Nat)] (AV.bg [AV.s (SV.str (bc (List.take (64:Nat) (List.drop (0:Nat) ((fl m n).getD (CK.arr IntKind.u8 (64:Nat)).d))))),AV.s (SV.aK IntKind.i64 (0:Int))])))))) (Tree.need ((0:Int)≤n) (Tree.need (n<(↑(List.length th):Int)) (Tree.need (List.length (List.getD th n.toNat (CL.d [CK.arr IntKind.u8 (64:Nat)])).fst=(64:Nat)) (Tree.need ((0:Int)≤(0:Int)) (Tree.need ((0:Int)≤(↑(64:Nat):Int)) (Tree.need ((↑(64:Nat):Int)≤(↑(64:Nat):Int)) (Tree.need ((0:Nat)+(64:Nat)≤(64:Nat)) (Tree.ret [ab.own [AV.vec (1:Nat),AV.ag (2:Nat),AV.s (SV.int IntKind.i64 fu)] (105:Nat),ab.vec (aL.ad [CK.arr IntKind.u8 (64:Nat)] th) (165:Nat),ab.map (CK.arr IntKind.u8 (64:Nat)) m,ab.own [AV.ints IntKind.u8 (64:Nat) (List.getD th n.toNat (CL.d [CK.arr IntKind.u8 (64:Nat)])).fst] (165:Nat),ab.own [AV.ints IntKind.u8 (64:Nat) ((fl m n).getD (CK.arr IntKind.u8 (64:Nat)).d)] (165:Nat),ab.own [AV.ints IntKind.u8 (64:Nat) (List.getD th n.toNat (CL.d [CK.arr IntKind.u8 (64:Nat)])).fst] (165:Nat)] (AV.bg [AV.s (SV.str (bc (List.take (64:Nat) (List.drop (0:Nat) (List.getD th n.toNat (CL.d [CK.arr IntKind.u8 (64:Nat)])).fst)))),AV.s (SV.aK IntKind.i64 (0:Int))]))))))))))):=by kernel_rfl
theorem aeP(th:Th)(m:As)(fu n:Int)(s:ByteArray):run P gL.sum Tryz.f136 [] (start Tryz.f136 [.ptr 0 0,.s (.int .i64 n),.s (.str s)] (hD th m fu)) inD=
 Tree.ite (decide (n<0)) (.ret [.own [.vec 1,.ag 2,.s (.int .i64 fu)] 105,.vec (.ad [.arr .u8 64] th) 165,.map (.arr .u8 64) m] (.s (.aK .i64 5))) (.ite (decide (n≥(↑(List.length th):Int))) (.ret [.own [.vec 1,.ag 2,.s (.int .i64 fu)] 105,.vec (.ad [.arr .u8 64] th) 165,.map (.arr .u8 64) m] (.s (.aK .i64 5))) (.ite ((↑s.size:Int) !=64) (.ret [.own [.vec 1,.ag 2,.s (.int .i64 fu)] 105,.vec (.ad [.arr .u8 64] th) 165,.map (.arr .u8 64) m] (.s (.aK .i64 1))) (.ite (fu==0) (.ret [.own [.vec 1,.ag 2,.s (.int .i64 fu)] 105,.vec (.ad [.arr .u8 64] th) 165,.map (.arr .u8 64) m] (.s (.aK .i64 42))) (.need (ay (fu - (1:Int))) (.need (s.size≤4294967296) (.need ((64:Nat)≤(ch s).length) (.need (List.length ([(List.take 64 (ch s),())].getD 0 (CL.d [.arr .u8 64])).fst=64) (.ret [.own [.vec 1,.ag 2,.s (.int .i64 (imax (fu - (1:Int)) (-1)))] 105,.vec (.ad [.arr .u8 64] th) 165,.map (.arr .u8 64) (pR m n ([(List.take 64 (ch s),())].getD 0 (CL.d [.arr .u8 64])).fst)] (.s (.aK .i64 0)))))))))):=by kernel_rfl
def zE:List (Nat×Norm):=[(6,⟨[],[0],3,[]⟩),(7,⟨[],[0,17],3,[]⟩)]
abbrev ki(l:Nat):kU:=⟨none,false,0,[],l⟩
noncomputable def cF6(th:Th)(m:As)(fu:Int):bw:=⟨sl 34 [(0,.ptr 0 0)],hD th m fu,hr Tryz.f49 6,{}⟩
noncomputable def asS(th:Th)(m:As)(fu:Int):bw:=⟨sl 34 [(0,.ptr 0 0),(13,.ptr 0 0),(14,.ptr 0 0),(15,.ptr 0 1),(16,.ag 2),(17,.ptr 4 0)],[uB 1 2 fu,.vec (.ad cS th) eS,.gK kS m 3,.dead,.iter 2 3 kS m none],eh Tryz.f49 6 5,ki 6⟩
noncomputable def cF7(th:Th)(m left:As)(cur:Option (Int×kS.V))(fu:Int):bw:=⟨sl 34 [(0,.ptr 0 0),(17,.ptr 3 0)],[uB 1 2 fu,.vec (.ad cS th) eS,.gK kS m 4,.iter 2 4 kS left cur,.dead],hd Tryz.f49 7,{}⟩
noncomputable def asT(th:Th)(m:As)(fu:Int):bw:=⟨sl 34 [(0,.ptr 0 0),(17,.ptr 3 0),(18,.bg [.s (.aC false)])],[uB 1 2 fu,.vec (.ad cS th) eS,.map kS m,.dead,.dead],eh Tryz.f49 7 1,ki 7⟩
noncomputable def asU(th:Th)(m left:As)(p:Int×kS.V)(fu:Int):bw:=⟨sl 34 [(0,.ptr 0 0),(17,.ptr 3 0),(18,.bg [.s (.aC true),.s (.int .i64 p.1),kS.av p.2])],[uB 1 2 fu,.vec (.ad cS th) eS,.gK kS m 4,.iter 2 4 kS left (some p),.dead],eh Tryz.f49 7 1,ki 7⟩
theorem aeQ(th:Th)(m:As)(fu:Int):run P gL.sum Tryz.f49 zE (start Tryz.f49 [.ptr 0 0] (hD th m fu)) inD=
 Tree.ite (fu==0) (.ret [.own [.vec 1,.ag 2,.s (.int .i64 fu)] 105,.vec (.ad [.arr .u8 64] th) 165,.map (.arr .u8 64) m] (.s (.aK .i64 42))) (.need (ay (fu - (1:Int))) (.at (.mk (sl 34 [(0,.ptr 0 0)]) [.own [.vec 1,.ag 2,.s (.int .i64 (imax (fu - (1:Int)) (-1)))] 105,.vec (.ad [.arr .u8 64] th) 165,.map (.arr .u8 64) m] (hr Tryz.f49 6) (.mk none false 0 [] 0)))):=by kernel_rfl
theorem anw(th:Th)(m:As)(fu:Int):run P gL.sum Tryz.f49 zE (cF6 th m fu) inD=
 Tree.at (.mk (sl 34 [(0,.ptr 0 0),(13,.ptr 0 0),(14,.ptr 0 0),(15,.ptr 0 1),(16,.ag 2)]) [.own [.vec 1,.ag 2,.s (.int .i64 fu)] 105,.vec (.ad [.arr .u8 64] th) 165,.map (.arr .u8 64) m] (eh Tryz.f49 6 4) (.mk none false 0 [] 6)):=by kernel_rfl
theorem ajx(th:Th)(m:As)(fu:Int):run P gL.sum Tryz.f49 zE (asS th m fu) inD=
 Tree.at (.mk (sl 34 [(0,.ptr 0 0),(17,.ptr 3 0)]) [.own [.vec 1,.ag 2,.s (.int .i64 fu)] 105,.vec (.ad [.arr .u8 64] th) 165,.gK (.arr .u8 64) m 4,.iter 2 4 (.arr .u8 64) m none,.dead] (hd Tryz.f49 7) (.mk none false 0 [] 0)):=by kernel_rfl
theorem agM(th:Th)(m left:As)(cur:Option (Int×kS.V))(fu:Int):run P gL.sum Tryz.f49 zE (cF7 th m left cur fu) inD=
 Tree.at (.mk (sl 34 [(0,.ptr 0 0),(17,.ptr 3 0)]) [.own [.vec 1,.ag 2,.s (.int .i64 fu)] 105,.vec (.ad [.arr .u8 64] th) 165,.gK (.arr .u8 64) m 4,.iter 2 4 (.arr .u8 64) left cur,.dead] (eh Tryz.f49 7 0) (.mk none false 0 [] 7)):=by kernel_rfl
theorem ajy(th:Th)(m:As)(fu:Int):run P gL.sum Tryz.f49 zE (asT th m fu) inD=
 Tree.ret [.own [.vec 1,.ag 2,.s (.int .i64 fu)] 105,.vec (.ad [.arr .u8 64] th) 165,.map (.arr .u8 64) [],.dead,.dead] (.s (.aK .i64 0)):=by kernel_rfl
theorem ajz(th:Th)(m left:As)(p:Int×kS.V)(fu:Int):run P gL.sum Tryz.f49 zE (asU th m left p fu) inD=
 Tree.need ((0:Int)≤p.fst) (.need (p.fst<(↑(List.length th):Int)) (.at (.mk (sl 34 [(0,.ptr 0 0),(17,.ptr 3 0)]) [.own [.vec 1,.ag 2,.s (.int .i64 fu)] 105,.vec (.ad [.arr .u8 64] (List.set th p.fst.toNat (p.snd,()))) 165,.gK (.arr .u8 64) m 4,.iter 2 4 (.arr .u8 64) left (some p),.dead] (hd Tryz.f49 7) (.mk none false 0 [] 0)))):=by kernel_rfl
def okT(th:Th):Prop:=th.length≤4096∧∀i,i<th.length→(jf (th.getD i (CL.d cS))).length=64
def okM(n:Nat)(m:As):Prop:=(m.map (·.1)).Nodup∧∀p∈m,0≤p.1∧p.1<(n:Int)∧List.length (α:=Int) p.2=64
def okF(fu:Int):Prop:= -1≤fu∧fu≤9223372036854775807
structure bx (th:Th) (m:As) (fu:Int):Prop where
 t:okT th
 m:okM th.length m
 f:okF fu
def mG(th:Th)(n:Int):Bool:=decide (0≤n)&&decide (n<(th.length:Int))
def qs(th:Th)(m:As)(n:Int):List Int:=match fl m n with
 |some v=>v
 |none=>jf (th.getD n.toNat (CL.d cS))
def iI(th:Th)(m:As)(n:Int):ByteArray:=if mG th n=true then bc (qs th m n)else ByteArray.empty
def rdE(th:Th)(n:Int):Int:=if mG th n=true then 0 else 5
def dL(fu:Int):Int:=if fu=0 then 0 else imax (fu - 1) (-1)
def uC(th:Th)(fu n:Int)(s:ByteArray):Int:=if mG th n=true then(if s.size=64 then(if fu=0 then 42 else 0)else 1)else 5
def xC(th:Th)(m:As)(fu n:Int)(s:ByteArray):As:=if uC th fu n s=0 then pR m n (ch s)else m
def xD(th:Th)(fu n:Int)(s:ByteArray):Int:=if mG th n=true∧s.size=64 then dL fu else fu
def tv(fu:Int):Int:=if fu=0 then 42 else 0
def ovl(th:Th)(m:As):Th:=(List.range th.length).map fun(i:Nat)=>(vp (qs th m (i:Int)):CL cS)
def lO(th:Th)(m:As)(fu:Int):Th:=if fu=0 then th else ovl th m
def nc(m:As)(fu:Int):As:=if fu=0 then m else []
abbrev sRd:Spec (Th×As×Int×Int):=⟨fun(_,_,_,n)=>[.ptr 0 0,.s (.int .i64 n)],fun(th,m,fu,_)=>hD th m fu,fun(th,m,fu,_)=>[bx th m fu],fun(th,m,fu,_)=>hD th m fu,fun(th,m,_,n)=>.bg [.s (.str (iI th m n)),.s (.int .i64 (rdE th n))]⟩
abbrev sWr:Spec (Th×As×Int×Int×ByteArray):=⟨fun(_,_,_,n,s)=>[.ptr 0 0,.s (.int .i64 n),.s (.str s)],fun(th,m,fu,_)=>hD th m fu,fun(th,m,fu,_)=>[bx th m fu],
 fun(th,m,fu,n,s)=>hD th (xC th m fu n s) (xD th fu n s),fun(th,_,fu,n,s)=>.s (.int .i64 (uC th fu n s))⟩
abbrev sFl:Spec (Th×As×Int):=⟨fun _=>[.ptr 0 0],fun(th,m,fu)=>hD th m fu,fun(th,m,fu)=>[bx th m fu],fun(th,m,fu)=>hD (lO th m fu) (nc m fu) (dL fu),fun(_,_,fu)=>.s (.int .i64 (tv fu))⟩
theorem iu{th:Th}{n:Int}:mG th n=true↔0≤n∧n<(th.length:Int):=by simp[mG]
theorem pd{th:Th}{n:Int}:mG th n=false↔n<0∨(th.length:Int)≤n:=by
 rw[←Bool.not_eq_true,iu];omega
theorem tw{m:As}{n:Int}:ow m n=(fl m n).isSome:=by
 rw[Bool.eq_iff_iff];simp only[ow,fl,Option.isSome_map,List.find?_isSome,List.any_eq_true]
theorem zF{m:As}{n:Int}{v:kS.V}(h:fl m n=some v):(n,v)∈m:=by
 simp only[fl,Option.map_eq_some_iff]at h;obtain⟨p,hp,rfl⟩:=h;have h1:=List.mem_of_find?_eq_some hp;have h2:=List.find?_some hp;simp only[beq_iff_eq]at h2;obtain⟨a,b⟩:=p;simp only at h2;subst h2;exact h1
theorem tx{th:Th}{m:As}{fu n:Int}(h:bx th m fu)(hn:mG th n=true):(qs th m n).length=64:=by
 obtain⟨h0,h1⟩:=iu.1 hn;unfold qs;split
 ·rename_i v hv;exact(h.m.2 _ (zF hv)).2.2
 ·exact h.t.2 _ (by omega)
theorem zG{l:List Int}(h:l.length=64):List.take 64 (List.drop 0 l)=l:=by rw[List.drop_zero,List.take_of_length_le (by omega)]
theorem ajA{Z:aW}:fC P Z 135 sRd:=by
 refine au Tryz.func135 (by kernel_rfl) (fun x=>Nat.le_of_ble_eq_true (by kernel_rfl)) ?_;rintro⟨(th:Th),(m:As),(fu:Int),(n:Int)⟩ ⟨(hd:bx th m fu),_⟩ X hX hz;have bad:mG th n=false→iI th m n=ByteArray.empty∧rdE th n=5:=fun h=>by simp[iI,rdE,h]
 refine cR hz hX (by simp) aH.Ok.nil Tryz.func135 (agL th m fu n) ⟨fun h=> ?_,fun h=>⟨fun h2=> ?_,fun h2=> ?_⟩⟩
 ·obtain⟨e1,e2⟩:=bad (pd.2 (.inl (of_decide_eq_true h)));exact bC 3 (by kernel_rfl) (Nat.le_refl _) (by show AV.bg [.s (.str (iI th m n)),.s (.int .i64 (rdE th n))]=_;rw[e1,e2]) rfl
 ·obtain⟨e1,e2⟩:=bad (pd.2 (.inr (of_decide_eq_true h2)));exact bC 3 (by kernel_rfl) (Nat.le_refl _) (by show AV.bg [.s (.str (iI th m n)),.s (.int .i64 (rdE th n))]=_;rw[e1,e2]) rfl
 have h:=of_decide_eq_false h;have h2:=of_decide_eq_false h2;have dz:mG th n=true:=iu.2 ⟨by omega,by omega⟩;have hl:=tx hd dz;have e1:iI th m n=bc (qs th m n):=by simp[iI,dz]
 have e2:rdE th n=0:=by simp[rdE,dz]
 refine⟨fun hh=>⟨by omega,by omega,by omega,by omega, ?_⟩,fun hh=>⟨by omega,by omega, ?_,by omega,by omega,by omega,by omega, ?_⟩⟩
 ·rw[tw]at hh;obtain⟨v,hv⟩:=Option.isSome_iff_exists.1 hh;have e3:qs th m n=v:=by unfold qs;rw[hv]
  rw[e3]at e1 hl;refine bC (o:=.bg [.s (.str (bc (List.take 64 (List.drop 0 (((fl m n).getD (CK.arr .u8 64).d):List Int))))),.s (.int .i64 0)]) 3 (by kernel_rfl) (Nat.le_refl _) ?_ rfl;show AV.bg [.s (.str (iI th m n)),.s (.int .i64 (rdE th n))]=_;rw[e1,e2,hv,Option.getD_some,zG hl]
 ·rw[tw]at hh;have hv:fl m n=none:=by simpa using hh
  have e3:qs th m n=jf (th.getD n.toNat (CL.d cS)):=by simp[qs,hv]
  rw[e3]at hl;exact hl
 ·rw[tw]at hh;have hv:fl m n=none:=by simpa using hh
  have e3:qs th m n=jf (th.getD n.toNat (CL.d cS)):=by simp[qs,hv]
  rw[e3]at e1 hl;refine bC (o:=.bg [.s (.str (bc (List.take 64 (List.drop 0 (jf (th.getD n.toNat (CL.d cS))))))),.s (.int .i64 0)]) 3 (by kernel_rfl) (Nat.le_refl _) ?_ rfl;show AV.bg [.s (.str (iI th m n)),.s (.int .i64 (rdE th n))]=_;rw[e1,e2,zG hl]
theorem tz{Z:aW}:fC P Z 136 sWr:=by
 refine au Tryz.func136 (by kernel_rfl) (fun x=>Nat.le_of_ble_eq_true (by kernel_rfl)) ?_;rintro⟨(th:Th),(m:As),(fu:Int),(n:Int),(s:ByteArray)⟩ ⟨(hd:bx th m fu),_⟩ X hX hz;obtain⟨f1,f2⟩:=hd.f;have fin:∀(e:Int) (m':As) (iB:Int),uC th fu n s=e→xC th m fu n s=m'→xD th fu n s=iB→
  (sWr.out (th,m,fu,n,s)=.s (.int .i64 e))∧sWr.ez (th,m,fu,n,s)=hD th m' iB:=fun e m' iB h1 h2 h3=>
  ⟨by show AV.s (.int .i64 (uC th fu n s))=_;rw[h1],by show hD th (xC th m fu n s) (xD th fu n s)=_;rw[h2,h3]⟩
 have bad:mG th n=false→uC th fu n s=5∧xC th m fu n s=m∧xD th fu n s=fu:=fun h=>by simp[uC,xC,xD,h]
 refine cR hz hX (by simp) aH.Ok.nil Tryz.func136 (aeP th m fu n s) ⟨fun h=> ?_,fun h=>⟨fun h2=> ?_,fun h2=>⟨fun h3=> ?_,fun h3=>⟨fun h4=> ?_,fun h4=>⟨⟨by omega,by omega⟩, ?_, ?_, ?_, ?_⟩⟩⟩⟩⟩
 ·obtain⟨e1,e2,e3⟩:=bad (pd.2 (.inl (of_decide_eq_true h)));exact bC 3 (by kernel_rfl) (Nat.le_refl _) (fin _ _ _ e1 e2 e3).1 (fin _ _ _ e1 e2 e3).2
 ·obtain⟨e1,e2,e3⟩:=bad (pd.2 (.inr (of_decide_eq_true h2)));exact bC 3 (by kernel_rfl) (Nat.le_refl _) (fin _ _ _ e1 e2 e3).1 (fin _ _ _ e1 e2 e3).2
 all_goals
  have h:=of_decide_eq_false h;have h2:=of_decide_eq_false h2;have dz:mG th n=true:=iu.2 ⟨by omega,by omega⟩
 ·have h3:s.size≠64:=by intro e;rw[e]at h3;simp at h3
  have e1:uC th fu n s=1:=by simp[uC,dz,h3]
  exact bC 3 (by kernel_rfl) (Nat.le_refl _) (fin 1 m fu e1 (by simp[xC,e1]) (by simp[xD,h3])).1 (fin 1 m fu e1 (by simp[xC,e1]) (by simp[xD,h3])).2
 all_goals
  have h3:s.size=64:=by have:(s.size:Int)=64:=by simpa using h3
                        omega
 ·have h4:fu=0:=by simpa using h4
  have e1:uC th fu n s=42:=by simp[uC,dz,h3,h4]
  exact bC 3 (by kernel_rfl) (Nat.le_refl _) (fin 42 m fu e1 (by simp[xC,e1]) (by simp[xD,dz,h3,h4,dL])).1 (fin 42 m fu e1 (by simp[xC,e1]) (by simp[xD,dz,h3,h4,dL])).2
 ·omega
 ·rw[ig];omega
 ·show(List.take 64 (ch s)).length=64;rw[List.length_take,ig];omega
 ·have h4:fu≠0:=by simpa using h4
  have e1:uC th fu n s=0:=by simp[uC,dz,h3,h4]
  have e2:xC th m fu n s=pR m n (List.take 64 (ch s)):=by
   rw[List.take_of_length_le (by rw[ig];omega)];simp[xC,e1]
  have e3:xD th fu n s=imax (fu - 1) (-1):=by simp[xD,dz,h3,dL,h4]
  exact bC 3 (by kernel_rfl) (Nat.le_refl _) (fin _ _ _ e1 e2 e3).1 (fin _ _ _ e1 e2 e3).2
theorem agN{m:As}{n:Int}{v:kS.V}(p:Int×kS.V):p∈pR m n v→p∈m∨p=(n,v):=by
 unfold pR;split
 ·intro h;obtain⟨q,hq,rfl⟩:=List.mem_map.1 h;split
  ·exact .inr rfl
  ·exact .inl hq
 ·intro h;rcases List.mem_append.1 h with h|h
  ·exact .inl h
  ·exact .inr (List.mem_singleton.1 h)
theorem jK(th:Th)(m:As):(ovl th m).length=th.length:=by simp[ovl]
theorem rN{th:Th}{m:As}{i:Nat}(h:i<th.length):jf ((ovl th m).getD i (CL.d cS))=qs th m (i:Int):=by
 rw[bM (by rw[jK];exact h)];simp only[ovl,List.getElem_map,List.getElem_range];rfl
theorem agO{a b:Th}(h:a.length=b.length)(hg:∀i,i<a.length→jf (a.getD i (CL.d cS))=jf (b.getD i (CL.d cS))):a=b:=by
 refine List.ext_getElem h fun i h1 h2=> ?_;have:=hg i h1;rw[bM h1,bM h2]at this;exact Prod.ext this rfl
theorem ajB(th:Th):ovl th []=th:=agO (jK _ _) fun i hi=>by
 rw[jK]at hi;rw[rN hi];show jf (th.getD (i:Int).toNat (CL.d cS))=_;rw[Int.toNat_natCast]
theorem vY{m:As}{n:Int}(h:∀p∈m,p.1≠n):fl m n=none:=by
 simp only[fl,Option.map_eq_none_iff,List.find?_eq_none,beq_iff_eq];exact h
theorem xE{m:As}(hk:(m.map (·.1)).Nodup){p:Int×kS.V}(hp:p∈m):fl m p.1=some p.2:=by
 obtain⟨j,hj⟩:=List.getElem?_of_mem hp;simp only[fl,nV hk hj,Option.map_some]
theorem tA{m:As}(hk:(m.map (·.1)).Nodup){j:Nat}(hj:j<m.length):((m.eraseIdx j).map (·.1)).Nodup∧(∀p∈m.eraseIdx j,p∈m∧p.1≠m[j].1)∧∀p∈m,p.1≠m[j].1→p∈m.eraseIdx j:=by
 refine⟨(List.Sublist.map _ (List.eraseIdx_sublist _ _)).nodup hk,fun p hp=>⟨List.mem_of_mem_eraseIdx hp,fun e=> ?_⟩,fun p hp e=> ?_⟩
 ·obtain⟨i,hi,kP⟩:=List.mem_eraseIdx_iff_getElem?.1 hp;obtain⟨bm,rfl⟩:=List.getElem?_eq_some_iff.1 kP;have:=(List.getElem_inj (h₀:=by simpa using bm) (h₁:=by simpa using hj) hk).1 (by simpa using e);exact hi this
 ·obtain⟨i,hi⟩:=List.getElem?_of_mem hp;refine List.mem_eraseIdx_iff_getElem?.2 ⟨i,fun h=> ?_,hi⟩;subst h;obtain⟨_,rfl⟩:=List.getElem?_eq_some_iff.1 hi;exact e rfl
theorem abR{m:As}(hk:(m.map (·.1)).Nodup){j:Nat}(hj:j<m.length)(n:Int):fl (m.eraseIdx j) n=if n=m[j].1 then none else fl m n:=by
 obtain⟨k1,k2,k3⟩:=tA hk hj;split
 ·rename_i e;exact vY fun p hp=>by rw[e];exact(k2 p hp).2
 ·rename_i e;cases h:fl m n with
  |none=>
   refine vY fun p hp he=> ?_;have:=xE hk (k2 p hp).1;rw[he,h]at this;cases this
  |some v=>
   have h1:=zF h;exact xE k1 (k3 _ h1 e)
theorem agP{th:Th}{left:As}(hk:(left.map (·.1)).Nodup){j:Nat}(hj:j<left.length)(h0:0≤left[j].1)(h1:left[j].1<(th.length:Int)):
 ovl (th.set left[j].1.toNat (vp left[j].2)) (left.eraseIdx j)=ovl th left:=by
 refine agO (by rw[jK,jK,List.length_set]) fun i hi=> ?_;rw[jK,List.length_set]at hi;rw[rN (by rw[List.length_set];exact hi),rN hi];unfold qs;rw[abR hk hj];by_cases e:(i:Int)=left[j].1
 ·have hm:=xE hk (List.getElem_mem hj);rw[if_pos e,e,hm];simp only[];rw[kQ (by omega)];rfl
 ·rw[if_neg e];cases fl left (i:Int)with
  |some v=>rfl
  |none=>
   simp only[Int.toNat_natCast];rw[sL (by omega)]
theorem zH{Z:aW}:fC P Z 49 sFl:=by
 refine au Tryz.func49 (by kernel_rfl) (fun x=>Nat.le_of_ble_eq_true (by kernel_rfl)) ?_;rintro⟨(th:Th),(m:As),(fu:Int)⟩ ⟨(hd:bx th m fu),_⟩ X hX hz;obtain⟨f1,f2⟩:=hd.f;have n8:∀x∈zE,(hD th m fu).length≤x.2.m:=by intro y hy;simp[zE]at hy;rcases hy with rfl|rfl<;>exact Nat.le_refl _
 have fin:∀(e:Int) (th':Th) (m':As) (iB:Int),tv fu=e→lO th m fu=th'→nc m fu=m'→dL fu=iB→
  (sFl.out (th,m,fu)=.s (.int .i64 e))∧sFl.ez (th,m,fu)=hD th' m' iB:=fun e th' m' iB h1 h2 h3 h4=>
  ⟨by show AV.s (.int .i64 (tv fu))=_;rw[h1],by show hD (lO th m fu) (nc m fu) (dL fu)=_;rw[h2,h3,h4]⟩
 refine cR hz hX n8 aH.Ok.nil Tryz.func49 (aeQ th m fu) ⟨fun h=> ?_,fun h=>⟨⟨by omega,by omega⟩, ?_⟩⟩
 ·have h:fu=0:=by simpa using h
  have f:=fin 42 th m 0 (by simp[tv,h]) (by simp[lO,h]) (by simp[nc,h]) (by simp[dL,h]);subst h;exact bC 3 (by kernel_rfl) (Nat.le_refl _) f.1 f.2
 have h:fu≠0:=by simpa using h
 generalize hfu:imax (fu - 1) (-1)=iB;have f:=fin 0 (ovl th m) [] iB (by simp[tv,h]) (by simp[lO,h]) (by simp[nc,h]) (by simp[dL,h,hfu]);have loop:∀(k:Nat) (th':Th) (left:As) (cur:Option (Int×kS.V)),left.length=k→th'.length=th.length→ovl th' left=ovl th m→(left.map (·.1)).Nodup→(∀p∈left,0≤p.1∧p.1<(th.length:Int))→
  Safe P 49 X (cX sFl (th,m,fu)) (cF7 th' m left cur iB):=by
  intro k
  induction k with
  |zero=>
   intro th' left cur hl hlen hov hk hr;obtain rfl:=List.eq_nil_of_length_eq_zero hl;refine cR hz hX n8 aH.Ok.nil Tryz.func49 (agM th' m [] cur iB) ?_;refine vX (x:=17) (d:=18) (by kernel_rfl) (by kernel_rfl) (id:=3) (mid:=2) (gid:=4) (ck:=kS) (ck':=kS) rfl rfl rfl rfl (fun _=> ?_) (fun j hj=>absurd hj (Nat.not_lt_zero _));refine cR hz hX n8 aH.Ok.nil Tryz.func49 (ajy th' m iB) ?_;rw[ajB]at hov;subst hov;exact bC 3 (by kernel_rfl) (Nat.le_refl _) f.1 f.2
  |succ k ih=>
   intro th' left cur hl hlen hov hk hr;refine cR hz hX n8 aH.Ok.nil Tryz.func49 (agM th' m left cur iB) ?_;refine vX (x:=17) (d:=18) (by kernel_rfl) (by kernel_rfl) (id:=3) (mid:=2) (gid:=4) (ck:=kS) (ck':=kS) rfl rfl rfl rfl (fun h0=> ?_) (fun j hj=> ?_)
   ·subst h0;simp at hl
   ·have hgj:left.getD j (0,kS.d)=left[j]:=bM hj;obtain⟨r1,r2⟩:=hr _ (List.getElem_mem hj);obtain⟨k1,k2,_⟩:=tA hk hj;refine cR hz hX n8 aH.Ok.nil Tryz.func49 (ajz th' m (left.eraseIdx j) (left.getD j (0,kS.d)) iB) ⟨by rw[hgj];exact r1,by rw[hgj,hlen];exact r2, ?_⟩;have:=ih (th'.set left[j].1.toNat (vp left[j].2)) (left.eraseIdx j) (some left[j]) (by rw[List.length_eraseIdx,if_pos hj];omega) (by rw[List.length_set];exact hlen) (by rw[agP hk hj r1 (by rw[hlen];exact r2)];exact hov) k1
     (fun p hp=>hr p (k2 p hp).1)
    rw[hgj];exact this
 refine cR hz hX n8 aH.Ok.nil Tryz.func49 (anw th m iB) ?_;refine abQ (t:=103) (x:=16) (d:=17) (by kernel_rfl) (by kernel_rfl) (by kernel_rfl) (id:=2) (ck:=kS) rfl rfl ?_;refine cR hz hX n8 aH.Ok.nil Tryz.func49 (ajx th m iB) ?_;exact loop m.length th m none rfl rfl rfl hd.m.1 fun p hp=>⟨(hd.m.2 p hp).1,(hd.m.2 p hp).2.1⟩
end Ds
namespace Go.Sx
open Go
def asV(i:Nat)(c0:aL)(s:Nat→List AV→RM bH):Nat→List AV→RM bH:=fun base args=>
 match args[i]? with
 |some (.vec id)=>.look id fun o=>match o with
  |some (.vec c _)=>((s base (args.set i (.s (.ro c)))).abf id).bind fun q=>.ret ⟨q.need,(id,.dead)::q.up,q.new,q.r⟩
  |_=>.fail "frz: no row"
 |some .emp=>bif c0.n.beq 0 then s base (args.set i (.s (.ro c0)))else .fail "frz: nil"
 |_=>s base args
section
variable{ρ aF:Nat→Value}{H H':aM}{G O O':Nat→Prop}{w w':World}{P:Program}{Z:aW}
theorem agQ{aJ:List AV}:∀{vs:List Value} {i:Nat} {a b:AV},bI ρ H O w aJ vs→aJ[i]? =some a→(∀v,af ρ H O w a v→af ρ H O w b v)→bI ρ H O w (aJ.set i b) vs:=by
 induction aJ with
 |nil=>intro vs i a b h hi;simp at hi
 |cons x aJ ih=>
  intro vs i a b h hi hab;obtain⟨v,rest,rfl,h1,h2⟩:=aA.1 h;cases i with
  |zero=>
   simp only[List.getElem?_cons_zero,Option.some.injEq]at hi;subst hi;exact aA.2 ⟨v,rest,rfl,hab v h1,h2⟩
  |succ i=>exact aA.2 ⟨v,rest,rfl,h1,ih h2 (by simpa using hi) hab⟩
def anx{X:Type}(S:Spec X)(x:X)(L:List ab)(r:AV):Prop:=
 ∃(N:Norm) (o:AV),(S.heap x).length≤N.m∧N.run ⟨[r],L,[],{}⟩=some ⟨[o],S.ez x,[],{}⟩∧∀(ρ:Nat→Value) (H:aM) (O:Nat→Prop) (w:World) (v:Value),af ρ H O w o v→af ρ H O w (S.out x) v
variable{X:Type}{S:Spec X}
theorem xF{f:FuncId}{fn:Func}(hf:P.funcs[f]? =some fn)(hb:fn.body.isSome=true)(hn:∀x,(S.args x).length≤fn.ntmps)
 (h:∀x,bD (S.pre x)→∀X:Ctx,X.H=lk (S.heap x)→dP Z X→Safe P f X (anx S x) (start fn (S.args x) (S.heap x))):fC P Z f S:=by
 intro x kx ρ G w vs hz hs hd;obtain⟨c,hb⟩:=Option.isSome_iff_exists.1 hb
 have mF:vs.length=(S.args x).length:=by
  have:∀{aJ:List AV} {vs:List Value},bI ρ (lk (S.heap x)) (aP ρ (lk (S.heap x)) G) w aJ vs→vs.length=aJ.length:=by
   intro aJ
   induction aJ with
   |nil=>intro vs h;rw[aU.1 h];rfl
   |cons a aJ ih=>intro vs h;obtain⟨v,rest,rfl,_,h2⟩:=aA.1 h;simp[ih h2]
  exact this hd
 refine(hM (R:=iR ⟨ρ,lk (S.heap x),G,w,[]⟩ (anx S x)) hf hb ?_).mono ?_
 ·have:=(h x kx ⟨ρ,lk (S.heap x),G,w,[]⟩ rfl hz).goes rfl rfl (ρ:=ρ) (a:={tmps:=vs.toArray++Array.replicate (fn.ntmps - vs.toArray.size) undef,defers:=[]}) (w:=w);simp only[start,hb,Option.getD_some]at this;refine this ⟨hs, ?_,fun t=> ?_,rfl,Step.refl _ _ _ _,⟨rfl,rfl,rfl,fun _ _ _=>rfl⟩,fun x hx=>by cases hx⟩
  ·simp[mF]
  ·have e1:∀(aJ:List AV) (vs:List Value),bI ρ (lk (S.heap x)) (aP ρ (lk (S.heap x)) G) w aJ vs→∀t,af ρ (lk (S.heap x)) (aP ρ (lk (S.heap x)) G) w (aJ.getD t (.bg [])) (vs.getD t undef):=by
    intro aJ
    induction aJ with
    |nil=>intro vs h t;rw[aU.1 h];simp only[List.getD,List.getElem?_nil,Option.getD_none];exact cC
    |cons a aJ ih=>
     intro vs h t;obtain⟨v,rest,rfl,h1,h2⟩:=aA.1 h;cases t with
     |zero=>simpa using h1
     |succ t=>simpa using ih rest h2 t
   have h1:=e1 _ _ hd t;simp only[List.getD_eq_getElem?_getD,List.getElem?_append,List.getElem?_replicate,Array.getD_eq_getD_getElem?,Array.getElem?_append,List.getElem?_toArray,Array.getElem?_replicate,List.size_toArray]at h1 ⊢;rw[mF];split
   ·rename_i ht;have hv:vs[t]? =some vs[t]:=List.getElem?_eq_getElem (by omega);have ha:(S.args x)[t]? =some (S.args x)[t]:=List.getElem?_eq_getElem ht;rw[hv,ha]at h1 ⊢;exact h1
   ·split
    ·exact cC
    ·unfold af;trivial
 ·rintro e w' ⟨v,rfl,L,r,⟨N,o,hm,hN,hwk⟩,iq,g1,g2,g3,g4⟩;refine⟨v,rfl, ?_⟩
  have r0:bY ⟨ρ,lk (S.heap x),G,w,[]⟩ iq ⟨[r],L⟩ {tmps:= #[v],defers:=[]} w':=by
   refine⟨g1,rfl,fun t=> ?_,rfl,g3,g4,fun x hx=>by cases hx⟩;cases t with
   |zero=>exact g2
   |succ t=>simp only[List.getD,Array.getD];simp;unfold af;trivial
  have h0:∀id,N.m≤id→(⟨ρ,lk (S.heap x),G,w,[]⟩:Ctx).H id=none:=fun id de=>by simp[lk];omega
  unfold Norm.run at hN;split at hN
  ·rename_i t1 L1 h1;simp only[]at hN;split at hN
   ·rename_i t2 L2 h2;simp only[Option.some.injEq,bw.mk.injEq,and_true]at hN;obtain⟨rfl,rfl⟩:=hN;obtain⟨iq,r1⟩:=bY.fq h0 h1 (bY.dR N.dO r0);obtain⟨fE,r2⟩:=bY.fL N.nH r1;obtain⟨ρ3,r3⟩:=bY.fM N.cells r2;obtain⟨ρ4,r4⟩:=bY.fq h0 h2 r3;exact⟨ρ4,r4.sat,(hwk _ _ _ _ _ (by have h:=r4.den 0;exact h)),r4.from_,r4.ix⟩
   ·cases hN
  ·cases hN
def vZ(c:List AV→Bool)(s1 s2:Nat→List AV→RM bH):Nat→List AV→RM bH:=fun b a=>bif c a then s1 b a else s2 b a
theorem pe{f:FuncId}{c:List AV→Bool}{s1 s2:Nat→List AV→RM bH}(h1:kZ P Z f s1)(h2:kZ P Z f s2):kZ P Z f (vZ c s1 s2):=by
 intro base args H q hq;unfold vZ at hq;rw[Bool.cond_eq_ite]at hq;split at hq
 ·exact h1 base args H q hq
 ·exact h2 base args H q hq
def ade(i:Nat)(args:List AV):Bool:=match args[i]? with
 |some (.s .bV)=>true
 |_=>false
end
end Go.Sx
namespace Ds
open Go Go.Sx Go.Proofs Lf
abbrev bE(n:Int):AV:=.s (.int .i64 n)
def xG:List AV→RM ((Th×As×Int)×List Nat)
 |[.ptr id 0]=>.look id fun o=>match o with
  |some (.own [.vec i,.ag j,f] _)=>.look i fun o=>match o with
   |some (.vec (.ad [.arr .u8 64] th) _)=>.look j fun o=>match o,f.cu with
    |some (.map (.arr .u8 64) m),some (_,_,fu)=>.ret ((th,m,fu),[id,i,j])
    |_,_=>.fail "no map"
   |_=>.fail "no row"
  |_=>.fail "no disk's cells"
 |_=>.fail "no disk"
def mRd:List AV→RM ((Th×As×Int×Int)×List Nat)
 |[.ptr id 0,n]=>(xG [.ptr id 0]).bind fun((th,m,fu),σ)=>match n.cu with
  |some (_,_,n)=>.ret ((th,m,fu,n),σ)
  |none=>.fail "no number"
 |_=>.fail "no disk"
abbrev ap1:=bZ sRd mRd
def mWr:List AV→RM ((Th×As×Int×Int×ByteArray)×List Nat)
 |[.ptr id 0,n,.s (.str s)]=>(xG [.ptr id 0]).bind fun((th,m,fu),σ)=>match n.cu with
  |some (_,_,n)=>.ret ((th,m,fu,n,s),σ)
  |none=>.fail "no number"
 |_=>.fail "no disk"
abbrev ap2:=bZ sWr mWr
def ap3(th:Th)(m:As)(fu:Int):Bool:=th.length.ble 4096&&(List.range th.length).all (fun i=>(jf (th.getD i (CL.d cS))).length==64)&&decide (m.map (·.1)).Nodup&&m.all (fun p=>decide (0≤p.1)&&decide (p.1<(th.length:Int))&&List.length (α:=Int) p.2==64)&&decide (-1≤fu)&&decide (fu≤9223372036854775807)
theorem br{th:Th}{m:As}{fu:Int}(h:ap3 th m fu=true):bx th m fu:=by
 simp only[ap3,Bool.and_eq_true,List.all_eq_true,beq_iff_eq,decide_eq_true_eq,List.mem_range]at h;obtain⟨⟨⟨⟨⟨h1,h2⟩,h3⟩,h4⟩,h5⟩,h6⟩:=h;exact⟨⟨Nat.le_of_ble_eq_true h1,h2⟩,⟨h3,fun p hp=>⟨(h4 p hp).1.1,(h4 p hp).1.2,(h4 p hp).2⟩⟩,h5,h6⟩
theorem aeR{m:As}(h:(m.map (·.1)).Nodup){n:Int}{v:kS.V}:((pR m n v).map (·.1)).Nodup:=by
 unfold pR;split
 ·rw[oN];exact h
 ·rename_i hn;have hn:∀p∈m,p.1≠n:=fun p hp e=>hn (by simp only[ow,List.any_eq_true,beq_iff_eq];exact⟨p,hp,e⟩);rw[List.map_append,List.nodup_append];refine⟨h,by simp,fun a ha b hb=> ?_⟩;simp only[List.map_cons,List.map_nil,List.mem_singleton]at hb;obtain⟨p,hp,rfl⟩:=List.mem_map.1 ha;rw[hb];exact hn p hp
theorem xH{fu:Int}(h:okF fu):okF (dL fu):=by
 unfold okF dL imax at *;split
 ·omega
 ·split<;>omega
theorem adf{th:Th}{m:As}{fu n:Int}{s:ByteArray}(h:bx th m fu):bx th (xC th m fu n s) (xD th fu n s):=by
 refine⟨h.t, ?_, ?_⟩
 ·unfold xC;split
  ·rename_i he
   have dz:mG th n=true∧s.size=64:=by
    unfold uC at he
    repeat' split at he
    all_goals first|(cases he;done)|exact⟨by assumption,by assumption⟩
   obtain⟨h0,h1⟩:=iu.1 dz.1;refine⟨aeR h.m.1,fun p hp=> ?_⟩;rcases agN p hp with hp|rfl
   ·exact h.m.2 p hp
   ·exact⟨h0,h1,by show(ch s).length=64;rw[ig];exact dz.2⟩
  ·exact h.m
 ·unfold xD;split
  ·exact xH h.f
  ·exact h.f
theorem anz{th:Th}{m:As}(h:okT th)(hm:okM th.length m):okT (ovl th m):=by
 refine⟨by rw[jK];exact h.1,fun i hi=> ?_⟩;rw[jK]at hi;rw[rN hi];exact tx (fu:=0) ⟨h,hm,by omega,by omega⟩ (iu.2 ⟨by omega,by omega⟩)
theorem ap4{th:Th}{m:As}{fu:Int}(h:bx th m fu):bx (lO th m fu) (nc m fu) (dL fu):=by
 unfold lO nc;split
 ·exact⟨h.t,h.m,xH h.f⟩
 ·exact⟨anz h.t h.m,⟨by simp,fun p hp=>by cases hp⟩,xH h.f⟩
theorem aeS(l:List Int):(bc l).size=l.length:=by
 show(l.map _).toArray.size=_;simp
theorem xI{th:Th}{m:As}{fu n:Int}(h:bx th m fu)(hn:mG th n=true):(iI th m n).size=64:=by
 unfold iI;rw[if_pos hn,aeS,tx h hn]
end Ds
namespace Ds
open Go Go.Sx Go.Proofs Lf
def fk(th:Th):Int:=(th.length:Int).tdiv 4
def pOk(th:Th)(n:Int):Bool:=decide (0≤n)&&decide (n<fk th)
def pgL(th:Th)(m:As)(n:Int):Nat→List Int
 |0=>[]
 |k+1=>pgL th m n k++ch (iI th m (n*4+(k:Int)))
def pgA(th:Th)(m:As)(n:Int):List Int:=pgL th m n 4
def tB(ws:List Int):Int:=ws.getD 0 0*256+ws.getD 1 0
def n9(th:Th)(m:As)(n:Int):Int:=if pOk th n=true then(if tB (pgA th m n)>254 then 4 else 0)else 5
def j6(th:Th)(m:As)(n:Int):ByteArray:=if n9 th m n=0 then bc (((pgA th m n).drop 2).take (tB (pgA th m n)).toNat)else ByteArray.empty
def pgB(s:ByteArray):List Int:=(s.size:Int) / 256::(s.size:Int)%256::(ch s++List.replicate (254 - s.size) 0)
def uS(ws:List Int)(k:Nat):ByteArray:=bc ((ws.drop (64*k)).take 64)
def wrG(th:Th)(n:Int)(ws:List Int):Nat→Nat→As→Int→As×Int×Int
 |0,_,m,f=>(m,f,0)
 |j+1,k,m,f=>if uC th f (n*4+(k:Int)) (uS ws k)=0 then wrG th n ws j (k+1) (xC th m f (n*4+(k:Int)) (uS ws k)) (xD th f (n*4+(k:Int)) (uS ws k))
   else(xC th m f (n*4+(k:Int)) (uS ws k),xD th f (n*4+(k:Int)) (uS ws k),uC th f (n*4+(k:Int)) (uS ws k))
def gwC(th:Th)(n:Int)(s:ByteArray):Int:=if pOk th n=true then(if(s.size:Int)>254 then 40 else 0)else 5
def nm(th:Th)(m:As)(fu n:Int)(s:ByteArray):As×Int×Int:=if gwC th n s=0 then wrG th n (pgB s) 4 0 m fu else(m,fu,gwC th n s)
def epN(s:ByteArray):Nat→Int
 |0=>0
 |i+1=>epN s i*256+aG s (i+1)
def pgT(s:ByteArray):Int:=aG s 9*256+aG s 10
def ap5(s:ByteArray):Bool:=aG s 0==1
def aeT(s:ByteArray):Int:=if epN s 8>1099511627776 then 0 else epN s 8
def aeU(s:ByteArray):Int:=if pgT s≥1024 then 0 else pgT s
def zI(th:Th)(k:Int):Int:=if 0≤k∧k≤1∧k<fk th then 0 else 5
def lj(th:Th)(m:As)(k:Int):Bool:=decide (zI th k=0)&&ap5 (iI th m (k*4))
def jV(th:Th)(m:As)(k:Int):Int:=if zI th k=0 then aeT (iI th m (k*4))else 0
def mH(th:Th)(m:As)(k:Int):Int:=if zI th k=0 then aeU (iI th m (k*4))else 0
def mkB(on:Bool)(ep pg:Int):List Int:=[if on=true then 1 else 0,ep / 72057594037927936%256,ep / 281474976710656%256,ep / 1099511627776%256,ep / 4294967296%256,ep / 16777216%256,ep / 65536%256,ep / 256%256,ep%256,pg / 256%256,pg%256]++List.replicate 53 0
def mkS(on:Bool)(ep pg:Int):ByteArray:=bc (mkB on ep pg)
def srC(th:Th)(k ep pg:Int):Int:=if zI th k=0 then(if ep<0∨ep>1099511627776∨pg<0∨pg≥1024 then 1 else 0)else 5
def zJ(th:Th)(fu k:Int)(on:Bool)(ep pg:Int):Int:=if srC th k ep pg=0 then uC th fu (k*4) (mkS on ep pg)else srC th k ep pg
def ov(th:Th)(m:As)(fu k:Int)(on:Bool)(ep pg:Int):As:=if srC th k ep pg=0 then xC th m fu (k*4) (mkS on ep pg)else m
def ra(th:Th)(fu k:Int)(on:Bool)(ep pg:Int):Int:=if srC th k ep pg=0 then xD th fu (k*4) (mkS on ep pg)else fu
theorem cO(s:ByteArray)(i:Nat):0≤aG s i∧aG s i≤255:=by
 have:=(s.data.toList.getD i 0).toNat_lt;unfold aG;omega
theorem wrap_u8(n:Int):IntKind.u8.wrap n=n%256:=rfl
theorem mI{n:Int}(h0:0≤n)(h1:n<18446744073709551616):IntKind.u64.wrap n=n:=by
 show n%18446744073709551616=n;omega
theorem pf{a b:Int}(ha:0≤a∧a≤255)(hb:0≤b∧b≤255):bt BinOp.or IntKind.i64 (IntKind.i64.wrap (a*2^min (Int.toNat 8) IntKind.i64.bits)) b=a*256+b:=by
 have e1:IntKind.i64.wrap (a*2^min (Int.toNat 8) IntKind.i64.bits)=a*256:=by
  rw[show(2:Int)^min (Int.toNat 8) IntKind.i64.bits=256 from by decide];exact cn ⟨by omega,by omega⟩
 rw[e1];obtain⟨x,rfl⟩:=Int.eq_ofNat_of_zero_le ha.1;obtain⟨y,rfl⟩:=Int.eq_ofNat_of_zero_le hb.1;show IntKind.i64.wrap ((BitVec.ofInt 64 _ ||| BitVec.ofInt 64 _).toNat:Int)=_;have e2:(BitVec.ofInt 64 ((x:Int)*256)).toNat=2^8*x:=by rw[BitVec.toNat_ofInt];omega
 have e3:(BitVec.ofInt 64 (y:Int)).toNat=y:=by rw[BitVec.toNat_ofInt];omega
 rw[BitVec.toNat_or,e2,e3,←Nat.two_pow_add_eq_or_of_lt (by omega),cn ⟨by omega,by omega⟩];omega
theorem abS{a b:Int}(ha:0≤a∧a<72057594037927936)(hb:0≤b∧b≤255):bt BinOp.or IntKind.u64 (IntKind.u64.wrap (a*2^min (Int.toNat 8) IntKind.u64.bits)) (IntKind.u64.wrap b)=a*256+b:=by
 have e1:IntKind.u64.wrap (a*2^min (Int.toNat 8) IntKind.u64.bits)=a*256:=by
  rw[show(2:Int)^min (Int.toNat 8) IntKind.u64.bits=256 from by decide];exact mI (by omega) (by omega)
 rw[e1,mI (n:=b) (by omega) (by omega)];obtain⟨x,rfl⟩:=Int.eq_ofNat_of_zero_le ha.1;obtain⟨y,rfl⟩:=Int.eq_ofNat_of_zero_le hb.1;show IntKind.u64.wrap ((BitVec.ofInt 64 _ ||| BitVec.ofInt 64 _).toNat:Int)=_;have e2:(BitVec.ofInt 64 ((x:Int)*256)).toNat=2^8*x:=by rw[BitVec.toNat_ofInt];omega
 have e3:(BitVec.ofInt 64 (y:Int)).toNat=y:=by rw[BitVec.toNat_ofInt];omega
 rw[BitVec.toNat_or,e2,e3,←Nat.two_pow_add_eq_or_of_lt (by omega),mI (by omega) (by omega)];omega
def epS(s:ByteArray):Nat→Int
 |0=>0
 |i+1=>bt BinOp.or IntKind.u64 (IntKind.u64.wrap (epS s i*2^min (Int.toNat 8) IntKind.u64.bits)) (IntKind.u64.wrap (aG s (i+1)))
theorem qt(s:ByteArray):∀i:Nat,0≤epN s i∧epN s i<256^i
 |0=>by simp[epN]
 |i+1=>by
  obtain⟨h0,h1⟩:=qt s i;have hb:=cO s (i+1);rw[epN,Int.pow_succ];omega
theorem agR(s:ByteArray):∀i:Nat,i≤8→epS s i=epN s i
 |0,_=>rfl
 |i+1,hi=>by
  obtain⟨h0,h1⟩:=qt s i
  have h2:(256:Int)^i≤256^7:=by
   have:i=0∨i=1∨i=2∨i=3∨i=4∨i=5∨i=6∨i=7:=by omega
   rcases this with rfl|rfl|rfl|rfl|rfl|rfl|rfl|rfl<;>decide
  rw[epS,epN,agR s i (by omega)]
  exact abS ⟨h0,by have:(256:Int)^7=72057594037927936:=by decide
                   omega⟩ (cO s (i+1))
theorem iT(s:ByteArray):(ch s).length=s.size:=by unfold ch;rw[List.length_map];exact Array.length_toList
theorem fQ{th:Th}{n:Int}:pOk th n=true↔0≤n∧n<fk th:=by simp[pOk]
theorem qu(th:Th):0≤fk th∧4*fk th≤(th.length:Int):=by
 unfold fk;rw[Int.tdiv_eq_ediv_of_nonneg (by omega)];omega
theorem agS{th:Th}{n:Int}(h:pOk th n=true){k:Nat}(hk:k<4):mG th (n*4+(k:Int))=true:=by
 obtain⟨h0,h1⟩:=fQ.1 h;have:=qu th;exact iu.2 ⟨by omega,by omega⟩
theorem adg{th:Th}{m:As}{fu n:Int}(h:bx th m fu)(hn:pOk th n=true):∀k:Nat,k≤4→(pgL th m n k).length=64*k
 |0,_=>rfl
 |k+1,hk=>by
  rw[pgL,List.length_append,adg h hn k (by omega),iT,xI h (agS hn (by omega))];omega
theorem abT{xs ys:List Int}{k:Nat}(hx:xs.length=64*k)(hy:ys.length=64)(hk:k<4):
 over (xs++List.replicate (256 - 64*k) 0) (64*k) 64 ys=xs++ys++List.replicate (256 - 64*(k+1)) 0:=by
 unfold over;rw[←hx,List.take_left,List.take_of_length_le (by omega),List.drop_append,List.drop_replicate,List.drop_eq_nil_of_le (by omega),List.nil_append,hx];congr 2;omega
theorem anA{s:ByteArray}(h:s.size≤254):
 over (((List.replicate 256 (0:Int)).set 0 (IntKind.u8.wrap ((s.size:Int).fdiv (2^min (Int.toNat 8) IntKind.i64.bits)))).set 1 (IntKind.u8.wrap (s.size:Int))) 2 (min (ch s).length 254) (ch s)=pgB s:=by
 have e:(List.replicate 256 (0:Int))=0::0::List.replicate 254 0:=rfl;have hl:=iT s;rw[e];simp only[List.set_cons_zero,List.set_cons_succ,over,List.take_succ_cons,List.take_zero,hl,wrap_u8];rw[show(2:Int)^min (Int.toNat 8) IntKind.i64.bits=256 from by decide,Int.fdiv_eq_ediv_of_nonneg _ (by omega),Nat.min_eq_left h,List.take_of_length_le (by omega),Nat.add_comm 2,List.drop_succ_cons,List.drop_succ_cons,List.drop_replicate];unfold pgB;rw[show(s.size:Int) / 256%256=(s.size:Int) / 256 from by omega];rfl
theorem ajC{s:ByteArray}(h:s.size≤254):(pgB s).length=256:=by
 unfold pgB;simp only[List.length_cons,List.length_append,List.length_replicate,iT];omega
theorem ajD(on:Bool)(ep pg:Int):(mkB on ep pg).length=64:=rfl
theorem agT{th:Th}{n:Int}{ws:List Int}:∀(j k:Nat) (m:As) (f:Int),bx th m f→bx th (wrG th n ws j k m f).1 (wrG th n ws j k m f).2.1
 |0,k,m,f,h=>h
 |j+1,k,m,f,h=>by
  unfold wrG;split
  ·exact agT j (k+1) _ _ (adf h)
  ·exact adf h
theorem ap6{th:Th}{m:As}{fu n:Int}{s:ByteArray}(h:bx th m fu):bx th (nm th m fu n s).1 (nm th m fu n s).2.1:=by
 unfold nm;split
 ·exact agT _ _ _ _ h
 ·exact h
theorem agU{th:Th}{m:As}{fu k:Int}{on:Bool}{ep pg:Int}(h:bx th m fu):bx th (ov th m fu k on ep pg) (ra th fu k on ep pg):=by
 unfold ov ra;split
 ·exact adf h
 ·exact h
end Ds
namespace Ds
open Go Go.Sx Go.Proofs Lf
def rq:aH:=[(135,ap1),(136,ap2)]
abbrev agV:FuncId:=189
abbrev inG:List FuncId:=[162,65,107,163,agV,134]
abbrev eP:TypeId:=26
abbrev eE:TypeId:=27
abbrev eA:TypeId:=233
def abU:List (Nat×Norm):=[((agV+1)*100000+1,⟨[],[0,1,4,19,21,22,24,67,68],3,[]⟩),(12,⟨[],[4,5,7,50],3,[]⟩)]
theorem anB(th:Th)(m:As)(fu n:Int):run P rq.sum Tryz.f124 abU (start Tryz.f124 [.ptr 0 0,bE n] (hD th m fu)) inG=
 Tree.ite (decide (n<0)) (.ret [.own [.vec 1,.ag 2,.s (.int .i64 fu)] 105,.vec (.ad [.arr .u8 64] th) 165,.map (.arr .u8 64) m,.own [.ptr 0 0] 26,.own [.s (.str ByteArray.empty)] 9,.own [.s (.aK .i64 5)] 27] (.bg [.s (.str ByteArray.empty),.s (.aK .i64 5)])) (.need ((4:Int)≠0) (.need (ay ((↑(List.length th):Int).tdiv 4)) (.ite (decide (n≥(↑(List.length th):Int).tdiv 4)) (.ret [.own [.vec 1,.ag 2,.s (.int .i64 fu)] 105,.vec (.ad [.arr .u8 64] th) 165,.map (.arr .u8 64) m,.own [.ptr 0 0] 26,.own [.s (.str ByteArray.empty)] 9,.own [.s (.aK .i64 5)] 27] (.bg [.s (.str ByteArray.empty),.s (.aK .i64 5)])) (.at (.mk (sl 69 [(0,.tag 3),(1,.ptr 4 0),(4,.s (.int .i64 0)),(19,.ptr 5 0),(21,.ptr 6 0),(22,.ptr 7 0),(24,.ptr 8 0),(67,.tag 9),(68,.tag 3)]) [.own [.vec 1,.ag 2,.s (.int .i64 fu)] 105,.vec (.ad [.arr .u8 64] th) 165,.map (.arr .u8 64) m,.dead,.own [.s (.int .i64 n)] 3,.own [.ptr 0 0] 26,.own [.s (.str ByteArray.empty)] 9,.own [.s (.int .i64 0)] 27,.own [.ints .u8 256 (List.replicate 256 0)] 233,.dead] (hd Tryz.f189 1) (.mk (some 189) false 0 [m9 Tryz.f124 none 8 1] 0)))))):=by kernel_rfl
noncomputable def cGR(th:Th)(m:As)(fu n:Int)(ws:List Int)(k:Int):bw:=⟨sl 69 [(0,.tag 3),(1,.ptr 4 0),(4,bE k),(19,.ptr 5 0),(21,.ptr 6 0),(22,.ptr 7 0),(24,.ptr 8 0),(67,.tag 9),(68,.tag 3)],
 [uB 1 2 fu,.vec (.ad cS th) eS,.map kS m,.dead,.own [bE n] 3,.own [.ptr 0 0] eP,.own [.s (.str ByteArray.empty)] 9,.own [bE 0] eE,.own [.ints .u8 256 ws] eA,.dead],hd Tryz.f189 1,⟨some agV,false,0,[m9 Tryz.f124 none 8 1],0⟩⟩
theorem agW(th:Th)(m:As)(fu n:Int)(ws:List Int)(k:Int):run P rq.sum Tryz.f124 abU (cGR th m fu n ws k) inG=
 Tree.ite (decide (k<4)) (.need (ay (k*64)) (.need (ay (n*4)) (.need (ay (n*4+k)) (.need (bn (some [AV.ptr 0 0,.s (.int .i64 (n*4+k))])) (.need (bn (some [ab.own [.vec 1,.ag 2,.s (.int .i64 fu)] 105,.vec (.ad [.arr .u8 64] th) 165,.map (.arr .u8 64) m])) (.need (bx th m fu) (.ite (rdE th (n*4+k) !=0) (.ret [.own [.vec 1,.ag 2,.s (.int .i64 fu)] 105,.vec (.ad [.arr .u8 64] th) 165,.map (.arr .u8 64) m,.dead,.own [.s (.int .i64 n)] 3,.own [.ptr 0 0] 26,.own [.s (.str ByteArray.empty)] 9,.own [.s (.int .i64 (rdE th (n*4+k)))] 27,.own [.ints .u8 256 ws] 233,.dead] (.bg [.s (.str ByteArray.empty),.s (.int .i64 (rdE th (n*4+k)))])) (.need ((0:Int)≤k*64) (.need (k*64≤(↑(256:Nat):Int)) (.need ((↑(256:Nat):Int)≤(↑(256:Nat):Int)) (.need True (.need ((0:Nat)+(k*64).toNat+((↑(256:Nat):Int).toNat - (k*64).toNat)≤256) (.need (ay (k+1)) (.at (.mk (sl 69 [(0,.tag 3),(1,.ptr 4 0),(4,.s (.int .i64 (k+1))),(19,.ptr 5 0),(21,.ptr 6 0),(22,.ptr 7 0),(24,.ptr 8 0),(67,.tag 9),(68,.tag 3)]) [.own [.vec 1,.ag 2,.s (.int .i64 fu)] 105,.vec (.ad [.arr .u8 64] th) 165,.map (.arr .u8 64) m,.dead,.own [.s (.int .i64 n)] 3,.own [.ptr 0 0] 26,.own [.s (.str ByteArray.empty)] 9,.own [.s (.int .i64 0)] 27,.own [.ints .u8 256 (over ws ((0:Nat)+(k*64).toNat) (min (List.map (fun(b:UInt8)=>(↑b.toNat:Int)) (iI th m (n*4+k)).data.toList).length ((↑(256:Nat):Int).toNat - (k*64).toNat)) (List.map (fun(b:UInt8)=>(↑b.toNat:Int)) (iI th m (n*4+k)).data.toList))] 233,.dead] (hd Tryz.f189 1) (.mk (some 189) false 0 [m9 Tryz.f124 none 8 1] 0)))))))))))))))) (.at (.mk (sl 51 [(4,.ptr 3 0),(5,.ptr 4 0),(7,.ptr 5 0),(50,.tag 6)]) [.own [.vec 1,.ag 2,.s (.int .i64 fu)] 105,.vec (.ad [.arr .u8 64] th) 165,.map (.arr .u8 64) m,.own [.s (.str ByteArray.empty)] 9,.own [.s (.int .i64 0)] 27,.own [.ints .u8 256 ws] 233,.dead] (hr Tryz.f124 12) (.mk none false 1 [] 0))):=by kernel_rfl
noncomputable def alN(th:Th)(m:As)(fu:Int)(ws:List Int):bw:=⟨sl 51 [(4,.ptr 3 0),(5,.ptr 4 0),(7,.ptr 5 0),(50,.tag 6)],[uB 1 2 fu,.vec (.ad cS th) eS,.map kS m,.own [.s (.str ByteArray.empty)] 9,.own [bE 0] eE,.own [.ints .u8 256 ws] eA,.dead],hr Tryz.f124 12,⟨none,false,1,[],0⟩⟩
theorem agX(th:Th)(m:As)(fu:Int)(ws:List Int):run P rq.sum Tryz.f124 abU (alN th m fu ws) inG=
 Tree.need (ay (ws.getD (0:Nat) (0:Int))) (Tree.need ((0:Int)≤(8:Int)) (Tree.need (ay (ws.getD (1:Nat) (0:Int))) (Tree.ite (decide (bt BinOp.or IntKind.i64 (IntKind.i64.wrap (ws.getD (0:Nat) (0:Int)*(2:Int)^min (Int.toNat (8:Int)) IntKind.i64.bits)) (ws.getD (1:Nat) (0:Int))>(254:Int))) (Tree.ret [ab.own [AV.vec (1:Nat),AV.ag (2:Nat),AV.s (SV.int IntKind.i64 fu)] (105:Nat),ab.vec (aL.ad [CK.arr IntKind.u8 (64:Nat)] th) (165:Nat),ab.map (CK.arr IntKind.u8 (64:Nat)) m,ab.own [AV.s (SV.str ByteArray.empty)] (9:Nat),ab.own [AV.s (SV.aK IntKind.i64 (4:Int))] (27:Nat),ab.own [AV.ints IntKind.u8 (256:Nat) ws] (233:Nat),ab.dead] (AV.bg [AV.s (SV.str ByteArray.empty),AV.s (SV.aK IntKind.i64 (4:Int))])) (Tree.need (ay ((2:Int)+bt BinOp.or IntKind.i64 (IntKind.i64.wrap (ws.getD (0:Nat) (0:Int)*(2:Int)^min (Int.toNat (8:Int)) IntKind.i64.bits)) (ws.getD (1:Nat) (0:Int)))) (Tree.need ((0:Int)≤(2:Int)) (Tree.need ((2:Int)≤(2:Int)+bt BinOp.or IntKind.i64 (IntKind.i64.wrap (ws.getD (0:Nat) (0:Int)*(2:Int)^min (Int.toNat (8:Int)) IntKind.i64.bits)) (ws.getD (1:Nat) (0:Int))) (Tree.need ((2:Int)+bt BinOp.or IntKind.i64 (IntKind.i64.wrap (ws.getD (0:Nat) (0:Int)*(2:Int)^min (Int.toNat (8:Int)) IntKind.i64.bits)) (ws.getD (1:Nat) (0:Int))≤(↑(256:Nat):Int)) (Tree.need ((2:Nat)+(((2:Int)+bt BinOp.or IntKind.i64 (IntKind.i64.wrap (ws.getD (0:Nat) (0:Int)*(2:Int)^min (Int.toNat (8:Int)) IntKind.i64.bits)) (ws.getD (1:Nat) (0:Int))).toNat - Int.toNat (2:Int))≤(256:Nat)) (Tree.ret [ab.own [AV.vec (1:Nat),AV.ag (2:Nat),AV.s (SV.int IntKind.i64 fu)] (105:Nat),ab.vec (aL.ad [CK.arr IntKind.u8 (64:Nat)] th) (165:Nat),ab.map (CK.arr IntKind.u8 (64:Nat)) m,ab.own [AV.s (SV.str (bc (List.take (((2:Int)+bt BinOp.or IntKind.i64 (IntKind.i64.wrap (ws.getD (0:Nat) (0:Int)*(2:Int)^min (Int.toNat (8:Int)) IntKind.i64.bits)) (ws.getD (1:Nat) (0:Int))).toNat - Int.toNat (2:Int)) (List.drop (2:Nat) ws))))] (9:Nat),ab.own [AV.s (SV.aK IntKind.i64 (0:Int))] (27:Nat),ab.own [AV.ints IntKind.u8 (256:Nat) ws] (233:Nat),ab.dead] (AV.bg [AV.s (SV.str (bc (List.take (((2:Int)+bt BinOp.or IntKind.i64 (IntKind.i64.wrap (ws.getD (0:Nat) (0:Int)*(2:Int)^min (Int.toNat (8:Int)) IntKind.i64.bits)) (ws.getD (1:Nat) (0:Int))).toNat - Int.toNat (2:Int)) (List.drop (2:Nat) ws)))),AV.s (SV.aK IntKind.i64 (0:Int))])))))))))):=by kernel_rfl
def ajE:List (Nat×Norm):=[((agV+1)*100000+1,⟨[],[0,1,4,20,23,25,64,65],3,[]⟩)]
theorem anC(th:Th)(m:As)(fu n:Int)(s:ByteArray):run P rq.sum Tryz.f178 ajE (start Tryz.f178 [.ptr 0 0,bE n,.s (.str s)] (hD th m fu)) inG=
 Tree.ite (decide (n<(0:Int))) (Tree.ret [ab.own [AV.vec (1:Nat),AV.ag (2:Nat),AV.s (SV.int IntKind.i64 fu)] (105:Nat),ab.vec (aL.ad [CK.arr IntKind.u8 (64:Nat)] th) (165:Nat),ab.map (CK.arr IntKind.u8 (64:Nat)) m,ab.own [AV.ptr (0:Nat) (0:Nat)] (26:Nat),ab.own [AV.s (SV.aK IntKind.i64 (5:Int))] (27:Nat)] (AV.s (SV.aK IntKind.i64 (5:Int)))) (Tree.need ((4:Int)≠(0:Int)) (Tree.need (ay ((↑(List.length th):Int).tdiv (4:Int))) (Tree.ite (decide (n≥(↑(List.length th):Int).tdiv (4:Int))) (Tree.ret [ab.own [AV.vec (1:Nat),AV.ag (2:Nat),AV.s (SV.int IntKind.i64 fu)] (105:Nat),ab.vec (aL.ad [CK.arr IntKind.u8 (64:Nat)] th) (165:Nat),ab.map (CK.arr IntKind.u8 (64:Nat)) m,ab.own [AV.ptr (0:Nat) (0:Nat)] (26:Nat),ab.own [AV.s (SV.aK IntKind.i64 (5:Int))] (27:Nat)] (AV.s (SV.aK IntKind.i64 (5:Int)))) (Tree.ite (decide ((↑s.size:Int)>(254:Int))) (Tree.ret [ab.own [AV.vec (1:Nat),AV.ag (2:Nat),AV.s (SV.int IntKind.i64 fu)] (105:Nat),ab.vec (aL.ad [CK.arr IntKind.u8 (64:Nat)] th) (165:Nat),ab.map (CK.arr IntKind.u8 (64:Nat)) m,ab.own [AV.ptr (0:Nat) (0:Nat)] (26:Nat),ab.own [AV.s (SV.aK IntKind.i64 (40:Int))] (27:Nat)] (AV.s (SV.aK IntKind.i64 (40:Int)))) (Tree.need ((0:Int)≤(8:Int)) (Tree.need ((0:Int)≤(2:Int)) (Tree.need ((2:Int)≤(↑(256:Nat):Int)) (Tree.need ((↑(256:Nat):Int)≤(↑(256:Nat):Int)) (Tree.need True (Tree.need ((2:Nat)+(254:Nat)≤(256:Nat)) (Tree.at (bw.mk (sl (66:Nat) [((0:Nat),AV.tag (3:Nat)),((1:Nat),AV.ptr (4:Nat) (0:Nat)),((4:Nat),AV.s (SV.int IntKind.i64 (0:Int))),((20:Nat),AV.ptr (5:Nat) (0:Nat)),((23:Nat),AV.ptr (6:Nat) (0:Nat)),((25:Nat),AV.ptr (7:Nat) (0:Nat)),((64:Nat),AV.tag (8:Nat)),((65:Nat),AV.tag (3:Nat))]) [ab.own [AV.vec (1:Nat),AV.ag (2:Nat),AV.s (SV.int IntKind.i64 fu)] (105:Nat),ab.vec (aL.ad [CK.arr IntKind.u8 (64:Nat)] th) (165:Nat),ab.map (CK.arr IntKind.u8 (64:Nat)) m,ab.dead,ab.own [AV.s (SV.int IntKind.i64 n)] (3:Nat),ab.own [AV.ptr (0:Nat) (0:Nat)] (26:Nat),ab.own [AV.s (SV.int IntKind.i64 (0:Int))] (27:Nat),ab.own [AV.ints IntKind.u8 (256:Nat) (over (((List.replicate (256:Nat) (0:Int)).set (0:Nat) (IntKind.u8.wrap ((↑s.size:Int).fdiv ((2:Int)^min (Int.toNat (8:Int)) IntKind.i64.bits)))).set (1:Nat) (IntKind.u8.wrap (↑s.size:Int))) (2:Nat) (min (List.map (fun(b:UInt8)=>(↑b.toNat:Int)) s.data.toList).length (254:Nat)) (List.map (fun(b:UInt8)=>(↑b.toNat:Int)) s.data.toList))] (233:Nat),ab.dead] (hd Tryz.f189 (1:Nat)) (kU.mk (some (189:Nat)) false (0:Nat) [m9 Tryz.f178 none (11:Nat) (1:Nat)] (0:Nat)))))))))))))):=by kernel_rfl
noncomputable def cGW(th:Th)(m:As)(fu n:Int)(ws:List Int)(k:Int):bw:=⟨sl 66 [(0,.tag 3),(1,.ptr 4 0),(4,bE k),(20,.ptr 5 0),(23,.ptr 6 0),(25,.ptr 7 0),(64,.tag 8),(65,.tag 3)],
 [uB 1 2 fu,.vec (.ad cS th) eS,.map kS m,.dead,.own [bE n] 3,.own [.ptr 0 0] eP,.own [bE 0] eE,.own [.ints .u8 256 ws] eA,.dead],hd Tryz.f189 1,⟨some agV,false,0,[m9 Tryz.f178 none 11 1],0⟩⟩
theorem agY(th:Th)(m:As)(fu n:Int)(ws:List Int)(k:Int):run P rq.sum Tryz.f178 ajE (cGW th m fu n ws k) inG=
 Tree.ite (decide (k<4)) (.need (ay (k*64)) (.need (ay (n*4)) (.need (ay (n*4+k)) (.need (ay (k*64+64)) (.need ((0:Int)≤k*64) (.need (k*64≤k*64+64) (.need (k*64+64≤(↑(256:Nat):Int)) (.need ((0:Nat)+(k*64).toNat+((k*64+64).toNat - (k*64).toNat)≤256) (.need (bn (some [AV.ptr 0 0,.s (.int .i64 (n*4+k)),.s (.str (bc (List.take ((k*64+64).toNat - (k*64).toNat) (List.drop ((0:Nat)+(k*64).toNat) ws))))])) (.need (bn (some [ab.own [.vec 1,.ag 2,.s (.int .i64 fu)] 105,.vec (.ad [.arr .u8 64] th) 165,.map (.arr .u8 64) m])) (.need (bx th m fu) (.ite (uC th fu (n*4+k) (bc (List.take ((k*64+64).toNat - (k*64).toNat) (List.drop ((0:Nat)+(k*64).toNat) ws))) !=0) (.ret [.own [.vec 1,.ag 2,.s (.int .i64 (xD th fu (n*4+k) (bc (List.take ((k*64+64).toNat - (k*64).toNat) (List.drop ((0:Nat)+(k*64).toNat) ws)))))] 105,.vec (.ad [.arr .u8 64] th) 165,.map (.arr .u8 64) (xC th m fu (n*4+k) (bc (List.take ((k*64+64).toNat - (k*64).toNat) (List.drop ((0:Nat)+(k*64).toNat) ws)))),.dead,.own [.s (.int .i64 n)] 3,.own [.ptr 0 0] 26,.own [.s (.int .i64 (uC th fu (n*4+k) (bc (List.take ((k*64+64).toNat - (k*64).toNat) (List.drop ((0:Nat)+(k*64).toNat) ws)))))] 27,.own [.ints .u8 256 ws] 233,.dead] (.s (.int .i64 (uC th fu (n*4+k) (bc (List.take ((k*64+64).toNat - (k*64).toNat) (List.drop ((0:Nat)+(k*64).toNat) ws))))))) (.need (ay (k+1)) (.at (.mk (sl 66 [(0,.tag 3),(1,.ptr 4 0),(4,.s (.int .i64 (k+1))),(20,.ptr 5 0),(23,.ptr 6 0),(25,.ptr 7 0),(64,.tag 8),(65,.tag 3)]) [.own [.vec 1,.ag 2,.s (.int .i64 (xD th fu (n*4+k) (bc (List.take ((k*64+64).toNat - (k*64).toNat) (List.drop ((0:Nat)+(k*64).toNat) ws)))))] 105,.vec (.ad [.arr .u8 64] th) 165,.map (.arr .u8 64) (xC th m fu (n*4+k) (bc (List.take ((k*64+64).toNat - (k*64).toNat) (List.drop ((0:Nat)+(k*64).toNat) ws)))),.dead,.own [.s (.int .i64 n)] 3,.own [.ptr 0 0] 26,.own [.s (.int .i64 0)] 27,.own [.ints .u8 256 ws] 233,.dead] (hd Tryz.f189 1) (.mk (some 189) false 0 [m9 Tryz.f178 none 11 1] 0))))))))))))))))
 (.ret [.own [.vec 1,.ag 2,.s (.int .i64 fu)] 105,.vec (.ad [.arr .u8 64] th) 165,.map (.arr .u8 64) m,.dead,.own [.s (.int .i64 n)] 3,.own [.ptr 0 0] 26,.own [.s (.aK .i64 0)] 27,.own [.ints .u8 256 ws] 233,.dead] (.s (.aK .i64 0))):=by kernel_rfl
abbrev avM(on:Bool)(ep pg:Int):AV:=.agg [.s (.bool on),bE ep,bE pg]
def aeV:List (Nat×Norm):=[(eO+9,⟨[],[],3,[]⟩),(13,⟨[],[4,6,7],3,[]⟩)]
theorem anD(th:Th)(m:As)(fu n:Int):run P rq.sum Tryz.f88 aeV (start Tryz.f88 [.ptr 0 0,bE n] (hD th m fu)) inG=
 Tree.ite (decide (n>(1:Int))) (Tree.ret [ab.own [AV.vec (1:Nat),AV.ag (2:Nat),AV.s (SV.int IntKind.i64 fu)] (105:Nat),ab.vec (aL.ad [CK.arr IntKind.u8 (64:Nat)] th) (165:Nat),ab.map (CK.arr IntKind.u8 (64:Nat)) m,ab.own [AV.s (SV.aC false),AV.s (SV.aK IntKind.i64 (0:Int)),AV.s (SV.aK IntKind.i64 (0:Int))] (153:Nat)] (AV.bg [AV.agg [AV.s (SV.aC false),AV.s (SV.aK IntKind.i64 (0:Int)),AV.s (SV.aK IntKind.i64 (0:Int))],AV.s (SV.aK IntKind.i64 (5:Int))]))
 (Tree.ite (decide (n<(0:Int))) (Tree.ret [ab.own [AV.vec (1:Nat),AV.ag (2:Nat),AV.s (SV.int IntKind.i64 fu)] (105:Nat),ab.vec (aL.ad [CK.arr IntKind.u8 (64:Nat)] th) (165:Nat),ab.map (CK.arr IntKind.u8 (64:Nat)) m,ab.own [AV.s (SV.aC false),AV.s (SV.aK IntKind.i64 (0:Int)),AV.s (SV.aK IntKind.i64 (0:Int))] (153:Nat)] (AV.bg [AV.agg [AV.s (SV.aC false),AV.s (SV.aK IntKind.i64 (0:Int)),AV.s (SV.aK IntKind.i64 (0:Int))],AV.s (SV.aK IntKind.i64 (5:Int))]))
   (Tree.need ((4:Int)≠(0:Int))
     (Tree.need (ay ((↑(List.length th):Int).tdiv (4:Int)))
       (Tree.ite (decide (n≥(↑(List.length th):Int).tdiv (4:Int))) (Tree.ret [ab.own [AV.vec (1:Nat),AV.ag (2:Nat),AV.s (SV.int IntKind.i64 fu)] (105:Nat),ab.vec (aL.ad [CK.arr IntKind.u8 (64:Nat)] th) (165:Nat),ab.map (CK.arr IntKind.u8 (64:Nat)) m,ab.own [AV.s (SV.aC false),AV.s (SV.aK IntKind.i64 (0:Int)),AV.s (SV.aK IntKind.i64 (0:Int))] (153:Nat)] (AV.bg [AV.agg [AV.s (SV.aC false),AV.s (SV.aK IntKind.i64 (0:Int)),AV.s (SV.aK IntKind.i64 (0:Int))],AV.s (SV.aK IntKind.i64 (5:Int))]))
         (Tree.need (ay (n*(4:Int)))
           (Tree.need (bn (some [AV.ptr (0:Nat) (0:Nat),AV.s (SV.int IntKind.i64 (n*(4:Int)))])) (Tree.need (bn (some [ab.own [AV.vec (1:Nat),AV.ag (2:Nat),AV.s (SV.int IntKind.i64 fu)] (105:Nat),ab.vec (aL.ad [CK.arr IntKind.u8 (64:Nat)] th) (165:Nat),ab.map (CK.arr IntKind.u8 (64:Nat)) m])) (Tree.need (bx th m fu) (Tree.ite (rdE th (n*(4:Int)) !=(0:Int)) (Tree.ret [ab.own [AV.vec (1:Nat),AV.ag (2:Nat),AV.s (SV.int IntKind.i64 fu)] (105:Nat),ab.vec (aL.ad [CK.arr IntKind.u8 (64:Nat)] th) (165:Nat),ab.map (CK.arr IntKind.u8 (64:Nat)) m,ab.own [AV.s (SV.aC false),AV.s (SV.aK IntKind.i64 (0:Int)),AV.s (SV.aK IntKind.i64 (0:Int))] (153:Nat)] (AV.bg [AV.agg [AV.s (SV.aC false),AV.s (SV.aK IntKind.i64 (0:Int)),AV.s (SV.aK IntKind.i64 (0:Int))],AV.s (SV.int IntKind.i64 (rdE th (n*(4:Int))))])) (Tree.need ((0:Int)≤(8:Int)) (Tree.need ((0:Int)≤(1:Int)) (Tree.need ((1:Int)<(↑(iI th m (n*(4:Int))).size:Int)) (Tree.need ((0:Int)≤(8:Int)) (Tree.need ((0:Int)≤(2:Int)) (Tree.need ((2:Int)<(↑(iI th m (n*(4:Int))).size:Int)) (Tree.need ((0:Int)≤(8:Int)) (Tree.need ((0:Int)≤(3:Int)) (Tree.need ((3:Int)<(↑(iI th m (n*(4:Int))).size:Int)) (Tree.need ((0:Int)≤(8:Int)) (Tree.need ((0:Int)≤(4:Int)) (Tree.need ((4:Int)<(↑(iI th m (n*(4:Int))).size:Int)) (Tree.need ((0:Int)≤(8:Int)) (Tree.need ((0:Int)≤(5:Int)) (Tree.need ((5:Int)<(↑(iI th m (n*(4:Int))).size:Int)) (Tree.need ((0:Int)≤(8:Int)) (Tree.need ((0:Int)≤(6:Int)) (Tree.need ((6:Int)<(↑(iI th m (n*(4:Int))).size:Int)) (Tree.need ((0:Int)≤(8:Int)) (Tree.need ((0:Int)≤(7:Int)) (Tree.need ((7:Int)<(↑(iI th m (n*(4:Int))).size:Int)) (Tree.need ((0:Int)≤(8:Int)) (Tree.need ((0:Int)≤(8:Int)) (Tree.need ((8:Int)<(↑(iI th m (n*(4:Int))).size:Int)) (Tree.at (bw.mk (sl (61:Nat) [((4:Nat),AV.ptr (3:Nat) (0:Nat)),((6:Nat),AV.s (SV.str (iI th m (n*(4:Int))))),((7:Nat),AV.s (SV.int IntKind.u64 (bt BinOp.or IntKind.u64 (IntKind.u64.wrap (bt BinOp.or IntKind.u64 (IntKind.u64.wrap (bt BinOp.or IntKind.u64 (IntKind.u64.wrap (bt BinOp.or IntKind.u64 (IntKind.u64.wrap (bt BinOp.or IntKind.u64 (IntKind.u64.wrap (bt BinOp.or IntKind.u64 (IntKind.u64.wrap (bt BinOp.or IntKind.u64 (IntKind.u64.wrap (bt BinOp.or IntKind.u64 (0:Int) (IntKind.u64.wrap (aG (iI th m (n*(4:Int))) (Int.toNat (1:Int))))*(2:Int)^min (Int.toNat (8:Int)) IntKind.u64.bits)) (IntKind.u64.wrap (aG (iI th m (n*(4:Int))) (Int.toNat (2:Int))))*(2:Int)^min (Int.toNat (8:Int)) IntKind.u64.bits)) (IntKind.u64.wrap (aG (iI th m (n*(4:Int))) (Int.toNat (3:Int))))*(2:Int)^min (Int.toNat (8:Int)) IntKind.u64.bits)) (IntKind.u64.wrap (aG (iI th m (n*(4:Int))) (Int.toNat (4:Int))))*(2:Int)^min (Int.toNat (8:Int)) IntKind.u64.bits)) (IntKind.u64.wrap (aG (iI th m (n*(4:Int))) (Int.toNat (5:Int))))*(2:Int)^min (Int.toNat (8:Int)) IntKind.u64.bits)) (IntKind.u64.wrap (aG (iI th m (n*(4:Int))) (Int.toNat (6:Int))))*(2:Int)^min (Int.toNat (8:Int)) IntKind.u64.bits)) (IntKind.u64.wrap (aG (iI th m (n*(4:Int))) (Int.toNat (7:Int))))*(2:Int)^min (Int.toNat (8:Int)) IntKind.u64.bits)) (IntKind.u64.wrap (aG (iI th m (n*(4:Int))) (Int.toNat (8:Int)))))))]) [ab.own [AV.vec (1:Nat),AV.ag (2:Nat),AV.s (SV.int IntKind.i64 fu)] (105:Nat),ab.vec (aL.ad [CK.arr IntKind.u8 (64:Nat)] th) (165:Nat),ab.map (CK.arr IntKind.u8 (64:Nat)) m,ab.own [AV.s (SV.bool false),AV.s (SV.int IntKind.i64 (0:Int)),AV.s (SV.int IntKind.i64 (0:Int))] (153:Nat)] (hr Tryz.f88 (13:Nat)) (kU.mk none false (0:Nat) [] (0:Nat))))))))))))))))))))))))))))))))))))):=by kernel_rfl
abbrev eM:TypeId:=153
noncomputable def cGo(th:Th)(m:As)(fu:Int)(s:ByteArray)(E:Int):bw:=⟨sl 61 [(4,.ptr 3 0),(6,.s (.str s)),(7,.s (.int .u64 E))],[uB 1 2 fu,.vec (.ad cS th) eS,.map kS m,.own [.s (.bool false),bE 0,bE 0] eM],hr Tryz.f88 13,{}⟩
theorem loopGo(th:Th)(m:As)(fu:Int)(s:ByteArray)(E:Int):run P rq.sum Tryz.f88 aeV (cGo th m fu s E) inG=
 Tree.need ((0:Int)≤(0:Int)) (Tree.need ((0:Int)<(↑s.size:Int)) (Tree.need ((0:Int)≤(9:Int)) (Tree.need ((9:Int)<(↑s.size:Int)) (Tree.need (ay (aG s (Int.toNat (9:Int)))) (Tree.need ((0:Int)≤(8:Int)) (Tree.need ((0:Int)≤(10:Int)) (Tree.need ((10:Int)<(↑s.size:Int)) (Tree.need (ay (aG s (Int.toNat (10:Int)))) (Tree.ite (decide (E>(1099511627776:Int))) (Tree.ite (decide (bt BinOp.or IntKind.i64 (IntKind.i64.wrap (aG s (Int.toNat (9:Int))*(2:Int)^min (Int.toNat (8:Int)) IntKind.i64.bits)) (aG s (Int.toNat (10:Int)))≥(1024:Int))) (Tree.ret [ab.own [AV.vec (1:Nat),AV.ag (2:Nat),AV.s (SV.int IntKind.i64 fu)] (105:Nat),ab.vec (aL.ad [CK.arr IntKind.u8 (64:Nat)] th) (165:Nat),ab.map (CK.arr IntKind.u8 (64:Nat)) m,ab.own [AV.s (SV.bool (aG s (Int.toNat (0:Int))==(1:Int))),AV.s (SV.aK IntKind.i64 (0:Int)),AV.s (SV.aK IntKind.i64 (0:Int))] (153:Nat)] (AV.bg [AV.agg [AV.s (SV.bool (aG s (Int.toNat (0:Int))==(1:Int))),AV.s (SV.aK IntKind.i64 (0:Int)),AV.s (SV.aK IntKind.i64 (0:Int))],AV.s (SV.aK IntKind.i64 (0:Int))])) (Tree.ret [ab.own [AV.vec (1:Nat),AV.ag (2:Nat),AV.s (SV.int IntKind.i64 fu)] (105:Nat),ab.vec (aL.ad [CK.arr IntKind.u8 (64:Nat)] th) (165:Nat),ab.map (CK.arr IntKind.u8 (64:Nat)) m,ab.own [AV.s (SV.bool (aG s (Int.toNat (0:Int))==(1:Int))),AV.s (SV.aK IntKind.i64 (0:Int)),AV.s (SV.int IntKind.i64 (bt BinOp.or IntKind.i64 (IntKind.i64.wrap (aG s (Int.toNat (9:Int))*(2:Int)^min (Int.toNat (8:Int)) IntKind.i64.bits)) (aG s (Int.toNat (10:Int)))))] (153:Nat)] (AV.bg [AV.agg [AV.s (SV.bool (aG s (Int.toNat (0:Int))==(1:Int))),AV.s (SV.aK IntKind.i64 (0:Int)),AV.s (SV.int IntKind.i64 (bt BinOp.or IntKind.i64 (IntKind.i64.wrap (aG s (Int.toNat (9:Int))*(2:Int)^min (Int.toNat (8:Int)) IntKind.i64.bits)) (aG s (Int.toNat (10:Int)))))],AV.s (SV.aK IntKind.i64 (0:Int))]))) (Tree.ite (decide (bt BinOp.or IntKind.i64 (IntKind.i64.wrap (aG s (Int.toNat (9:Int))*(2:Int)^min (Int.toNat (8:Int)) IntKind.i64.bits)) (aG s (Int.toNat (10:Int)))≥(1024:Int))) (Tree.ret [ab.own [AV.vec (1:Nat),AV.ag (2:Nat),AV.s (SV.int IntKind.i64 fu)] (105:Nat),ab.vec (aL.ad [CK.arr IntKind.u8 (64:Nat)] th) (165:Nat),ab.map (CK.arr IntKind.u8 (64:Nat)) m,ab.own [AV.s (SV.bool (aG s (Int.toNat (0:Int))==(1:Int))),AV.s (SV.int IntKind.i64 (IntKind.i64.wrap E)),AV.s (SV.aK IntKind.i64 (0:Int))] (153:Nat)] (AV.bg [AV.agg [AV.s (SV.bool (aG s (Int.toNat (0:Int))==(1:Int))),AV.s (SV.int IntKind.i64 (IntKind.i64.wrap E)),AV.s (SV.aK IntKind.i64 (0:Int))],AV.s (SV.aK IntKind.i64 (0:Int))])) (Tree.ret [ab.own [AV.vec (1:Nat),AV.ag (2:Nat),AV.s (SV.int IntKind.i64 fu)] (105:Nat),ab.vec (aL.ad [CK.arr IntKind.u8 (64:Nat)] th) (165:Nat),ab.map (CK.arr IntKind.u8 (64:Nat)) m,ab.own [AV.s (SV.bool (aG s (Int.toNat (0:Int))==(1:Int))),AV.s (SV.int IntKind.i64 (IntKind.i64.wrap E)),AV.s (SV.int IntKind.i64 (bt BinOp.or IntKind.i64 (IntKind.i64.wrap (aG s (Int.toNat (9:Int))*(2:Int)^min (Int.toNat (8:Int)) IntKind.i64.bits)) (aG s (Int.toNat (10:Int)))))] (153:Nat)] (AV.bg [AV.agg [AV.s (SV.bool (aG s (Int.toNat (0:Int))==(1:Int))),AV.s (SV.int IntKind.i64 (IntKind.i64.wrap E)),AV.s (SV.int IntKind.i64 (bt BinOp.or IntKind.i64 (IntKind.i64.wrap (aG s (Int.toNat (9:Int))*(2:Int)^min (Int.toNat (8:Int)) IntKind.i64.bits)) (aG s (Int.toNat (10:Int)))))],AV.s (SV.aK IntKind.i64 (0:Int))])))))))))))):=by kernel_rfl
def abV:List (Nat×Norm):=[(9,⟨[],[0,1,5,8],3,[]⟩),(eO+10,⟨[],[],3,[]⟩),(15,⟨[],[0,1,8],3,[]⟩)]
theorem anE(th:Th)(m:As)(fu n:Int)(on:Bool)(ep pg:Int):run P rq.sum Tryz.f90 abV (start Tryz.f90 [.ptr 0 0,bE n,avM on ep pg] (hD th m fu)) inG=
 Tree.ite (decide (n>1)) (.ret [.own [.vec 1,.ag 2,.s (.int .i64 fu)] 105,.vec (.ad [.arr .u8 64] th) 165,.map (.arr .u8 64) m,.own [.s (.bool on),.s (.int .i64 ep),.s (.int .i64 pg)] 153] (.s (.aK .i64 5)))
 (.ite (decide (n<0)) (.ret [.own [.vec 1,.ag 2,.s (.int .i64 fu)] 105,.vec (.ad [.arr .u8 64] th) 165,.map (.arr .u8 64) m,.own [.s (.bool on),.s (.int .i64 ep),.s (.int .i64 pg)] 153] (.s (.aK .i64 5))) (.need ((4:Int)≠0) (.need (ay ((↑(List.length th):Int).tdiv 4)) (.ite (decide (n≥(↑(List.length th):Int).tdiv 4)) (.ret [.own [.vec 1,.ag 2,.s (.int .i64 fu)] 105,.vec (.ad [.arr .u8 64] th) 165,.map (.arr .u8 64) m,.own [.s (.bool on),.s (.int .i64 ep),.s (.int .i64 pg)] 153] (.s (.aK .i64 5))) (.ite (decide (ep<0)) (.ret [.own [.vec 1,.ag 2,.s (.int .i64 fu)] 105,.vec (.ad [.arr .u8 64] th) 165,.map (.arr .u8 64) m,.own [.s (.bool on),.s (.int .i64 ep),.s (.int .i64 pg)] 153] (.s (.aK .i64 1))) (.ite (decide (ep>1099511627776)) (.ret [.own [.vec 1,.ag 2,.s (.int .i64 fu)] 105,.vec (.ad [.arr .u8 64] th) 165,.map (.arr .u8 64) m,.own [.s (.bool on),.s (.int .i64 ep),.s (.int .i64 pg)] 153] (.s (.aK .i64 1))) (.ite (decide (pg<0)) (.ret [.own [.vec 1,.ag 2,.s (.int .i64 fu)] 105,.vec (.ad [.arr .u8 64] th) 165,.map (.arr .u8 64) m,.own [.s (.bool on),.s (.int .i64 ep),.s (.int .i64 pg)] 153] (.s (.aK .i64 1))) (.ite (decide (pg≥1024)) (.ret [.own [.vec 1,.ag 2,.s (.int .i64 fu)] 105,.vec (.ad [.arr .u8 64] th) 165,.map (.arr .u8 64) m,.own [.s (.bool on),.s (.int .i64 ep),.s (.int .i64 pg)] 153] (.s (.aK .i64 1))) (.ite on (.at (.mk (sl 65 [(0,.ptr 0 0),(1,.s (.int .i64 n)),(5,.ptr 3 0),(8,.ptr 4 0)]) [.own [.vec 1,.ag 2,.s (.int .i64 fu)] 105,.vec (.ad [.arr .u8 64] th) 165,.map (.arr .u8 64) m,.own [.s (.bool on),.s (.int .i64 ep),.s (.int .i64 pg)] 153,.own [.ints .u8 64 ((List.replicate 64 0).set 0 1)] 164] (hr Tryz.f90 9) (.mk none false 0 [] 0))) (.at (.mk (sl 65 [(0,.ptr 0 0),(1,.s (.int .i64 n)),(5,.ptr 3 0),(8,.ptr 4 0)]) [.own [.vec 1,.ag 2,.s (.int .i64 fu)] 105,.vec (.ad [.arr .u8 64] th) 165,.map (.arr .u8 64) m,.own [.s (.bool on),.s (.int .i64 ep),.s (.int .i64 pg)] 153,.own [.ints .u8 64 (List.replicate 64 0)] 164] (hr Tryz.f90 9) (.mk none false 0 [] 0)))))))))))):=by kernel_rfl
abbrev eB:TypeId:=164
noncomputable def cGs(th:Th)(m:As)(fu n:Int)(on:Bool)(ep pg:Int)(ws:List Int):bw:=⟨sl 65 [(0,.ptr 0 0),(1,bE n),(5,.ptr 3 0),(8,.ptr 4 0)],[uB 1 2 fu,.vec (.ad cS th) eS,.map kS m,.own [.s (.bool on),bE ep,bE pg] eM,.own [.ints .u8 64 ws] eB],hr Tryz.f90 9,{}⟩
noncomputable def alO(th:Th)(m:As)(fu n:Int)(ws:List Int):bw:=⟨sl 65 [(0,.ptr 0 0),(1,bE n),(8,.ptr 3 0)],[uB 1 2 fu,.vec (.ad cS th) eS,.map kS m,.own [.ints .u8 64 ws] eB],hr Tryz.f90 15,{}⟩
theorem anF(th:Th)(m:As)(fu n:Int)(on:Bool)(ep pg:Int)(ws:List Int):run P rq.sum Tryz.f90 abV (cGs th m fu n on ep pg ws) inG=
 Tree.need ((0:Int)≤(0:Int)) (Tree.need ((0:Int)≤(8:Int)) (Tree.need ((0:Int)≤(16:Int)) (Tree.need ((0:Int)≤(24:Int)) (Tree.need ((0:Int)≤(32:Int)) (Tree.need ((0:Int)≤(40:Int)) (Tree.need ((0:Int)≤(48:Int)) (Tree.need ((0:Int)≤(56:Int)) (Tree.need ((0:Int)≤(8:Int)) (Tree.at (bw.mk (sl (65:Nat) [((0:Nat),AV.ptr (0:Nat) (0:Nat)),((1:Nat),AV.s (SV.int IntKind.i64 n)),((8:Nat),AV.ptr (3:Nat) (0:Nat))]) [ab.own [AV.vec (1:Nat),AV.ag (2:Nat),AV.s (SV.int IntKind.i64 fu)] (105:Nat),ab.vec (aL.ad [CK.arr IntKind.u8 (64:Nat)] th) (165:Nat),ab.map (CK.arr IntKind.u8 (64:Nat)) m,ab.own [AV.ints IntKind.u8 (64:Nat) ((((((((((ws.set (8:Nat) (IntKind.u8.wrap (ep.fdiv ((2:Int)^min (Int.toNat (0:Int)) IntKind.i64.bits)))).set (7:Nat) (IntKind.u8.wrap (ep.fdiv ((2:Int)^min (Int.toNat (8:Int)) IntKind.i64.bits)))).set (6:Nat) (IntKind.u8.wrap (ep.fdiv ((2:Int)^min (Int.toNat (16:Int)) IntKind.i64.bits)))).set (5:Nat) (IntKind.u8.wrap (ep.fdiv ((2:Int)^min (Int.toNat (24:Int)) IntKind.i64.bits)))).set (4:Nat) (IntKind.u8.wrap (ep.fdiv ((2:Int)^min (Int.toNat (32:Int)) IntKind.i64.bits)))).set (3:Nat) (IntKind.u8.wrap (ep.fdiv ((2:Int)^min (Int.toNat (40:Int)) IntKind.i64.bits)))).set (2:Nat) (IntKind.u8.wrap (ep.fdiv ((2:Int)^min (Int.toNat (48:Int)) IntKind.i64.bits)))).set (1:Nat) (IntKind.u8.wrap (ep.fdiv ((2:Int)^min (Int.toNat (56:Int)) IntKind.i64.bits)))).set (9:Nat) (IntKind.u8.wrap (pg.fdiv ((2:Int)^min (Int.toNat (8:Int)) IntKind.i64.bits)))).set (10:Nat) (IntKind.u8.wrap pg))] (164:Nat)] (hr Tryz.f90 (15:Nat)) (kU.mk none false (0:Nat) [] (0:Nat)))))))))))):=by kernel_rfl
theorem agZ(th:Th)(m:As)(fu n:Int)(ws:List Int):run P rq.sum Tryz.f90 abV (alO th m fu n ws) inG=
 Tree.need (ay (n*4)) (.need ((0:Int)≤0) (.need ((0:Int)≤(↑(64:Nat):Int)) (.need ((↑(64:Nat):Int)≤(↑(64:Nat):Int)) (.need ((0:Nat)+(64:Nat)≤64) (.need (bn (some [AV.ptr 0 0,.s (.int .i64 (n*4)),.s (.str (bc (List.take 64 (List.drop 0 ws))))])) (.need (bn (some [ab.own [.vec 1,.ag 2,.s (.int .i64 fu)] 105,.vec (.ad [.arr .u8 64] th) 165,.map (.arr .u8 64) m])) (.need (bx th m fu) (.ret [.own [.vec 1,.ag 2,.s (.int .i64 (xD th fu (n*4) (bc (List.take 64 (List.drop 0 ws)))))] 105,.vec (.ad [.arr .u8 64] th) 165,.map (.arr .u8 64) (xC th m fu (n*4) (bc (List.take 64 (List.drop 0 ws)))),.own [.ints .u8 64 ws] 164] (.s (.int .i64 (uC th fu (n*4) (bc (List.take 64 (List.drop 0 ws)))))))))))))):=by kernel_rfl
theorem anG(th:Th)(m:As)(fu:Int):run P rq.sum Tryz.f65 [] (start Tryz.f65 [.ptr 0 0] (hD th m fu)) inG=
 Tree.need ((4:Int)≠0) (.need (ay ((↑(List.length th):Int).tdiv 4)) (.ret [.own [.vec 1,.ag 2,.s (.int .i64 fu)] 105,.vec (.ad [.arr .u8 64] th) 165,.map (.arr .u8 64) m] (.s (.int .i64 ((↑(List.length th):Int).tdiv 4))))):=by kernel_rfl
end Ds
namespace Ds
open Go Go.Sx Go.Proofs Lf
abbrev sGR:Spec (Th×As×Int×Int):=⟨fun(_,_,_,n)=>[.ptr 0 0,bE n],fun(th,m,fu,_)=>hD th m fu,fun(th,m,fu,n)=>[bx th m fu,ay n],fun(th,m,fu,_)=>hD th m fu,fun(th,m,_,n)=>.bg [.s (.str (j6 th m n)),bE (n9 th m n)]⟩
abbrev sGW:Spec (Th×As×Int×Int×ByteArray):=⟨fun(_,_,_,n,s)=>[.ptr 0 0,bE n,.s (.str s)],fun(th,m,fu,_)=>hD th m fu,fun(th,m,fu,n,_)=>[bx th m fu,ay n],fun(th,m,fu,n,s)=>hD th (nm th m fu n s).1 (nm th m fu n s).2.1,fun(th,m,fu,n,s)=>bE (nm th m fu n s).2.2⟩
abbrev sGo:Spec (Th×As×Int×Int):=⟨fun(_,_,_,n)=>[.ptr 0 0,bE n],fun(th,m,fu,_)=>hD th m fu,fun(th,m,fu,n)=>[bx th m fu,ay n],fun(th,m,fu,_)=>hD th m fu,fun(th,m,_,n)=>.bg [avM (lj th m n) (jV th m n) (mH th m n),bE (zI th n)]⟩
abbrev sGs:Spec (Th×As×Int×Int×Bool×Int×Int):=⟨fun(_,_,_,n,on,ep,pg)=>[.ptr 0 0,bE n,avM on ep pg],fun(th,m,fu,_)=>hD th m fu,fun(th,m,fu,n,_)=>[bx th m fu,ay n],fun(th,m,fu,n,on,ep,pg)=>hD th (ov th m fu n on ep pg) (ra th fu n on ep pg),fun(th,_,fu,n,on,ep,pg)=>bE (zJ th fu n on ep pg)⟩
abbrev sPn:Spec (Th×As×Int):=⟨fun _=>[.ptr 0 0],fun(th,m,fu)=>hD th m fu,fun(th,m,fu)=>[bx th m fu],fun(th,m,fu)=>hD th m fu,fun(th,_,_)=>bE (fk th)⟩
theorem ft{Z:aW}:rq.Ok P Z:=aH.Ok.cons (ajA.sum mRd) (aH.Ok.cons (tz.sum mWr) aH.Ok.nil)
theorem zK{Z:aW}:fC P Z 65 sPn:=by
 refine au Tryz.func65 (by kernel_rfl) (fun x=>Nat.le_of_ble_eq_true (by kernel_rfl)) ?_;rintro⟨(th:Th),(m:As),(fu:Int)⟩ ⟨(hd:bx th m fu),_⟩ X hX hz;have h4:=hd.t.1;have:=qu th;refine cR hz hX (by simp) ft Tryz.func65 (anG th m fu) ⟨by decide,⟨by unfold fk at this;omega,by unfold fk at this;omega⟩, ?_⟩;exact bC 3 rfl (Nat.le_refl _) rfl rfl
theorem ag0{th:Th}{n:Int}(h:mG th n=true):rdE th n=0:=by unfold rdE;rw[if_pos h]
theorem ag1{ws:List Int}(h:∀x∈ws,0≤x∧x≤255):bt BinOp.or IntKind.i64 (IntKind.i64.wrap (ws.getD 0 0*2^min (Int.toNat 8) IntKind.i64.bits)) (ws.getD 1 0)=tB ws∧0≤tB ws∧tB ws≤65535:=by
 have b:∀i,0≤ws.getD i 0∧ws.getD i 0≤255:=fun i=>by
  by_cases hi:i<ws.length
  ·rw[bM hi];exact h _ (List.getElem_mem hi)
  ·simp[List.getD,List.getElem?_eq_none (Nat.le_of_not_lt hi)]
 have h0:=b 0;have h1:=b 1;unfold tB;exact⟨pf h0 h1,by omega,by omega⟩
theorem tC{th:Th}{m:As}{n:Int}:∀k:Nat,∀x∈pgL th m n k,0≤x∧x≤255
 |0,x,hx=>by cases hx
 |k+1,x,hx=>by
  rw[pgL,List.mem_append]at hx;rcases hx with hx|hx
  ·exact tC k x hx
  ·simp only[ch,List.mem_map]at hx;obtain⟨b,_,rfl⟩:=hx;have:=b.toNat_lt;omega
theorem anH{Z:aW}{X:Ctx}{th:Th}{m:As}{fu n:Int}(hX:X.H=lk (sGR.heap (th,m,fu,n)))(hz:dP Z X)(hd:bx th m fu)(hp:pOk th n=true):Safe P 124 X (cX sGR (th,m,fu,n)) (alN th m fu (pgA th m n)):=by
 have n8:∀x∈abU,(sGR.heap (th,m,fu,n)).length≤x.2.m:=by intro y hy;simp[abU]at hy;rcases hy with rfl|rfl<;>exact Nat.le_refl _
 refine cR hz hX n8 ft Tryz.func124 (agX th m fu (pgA th m n)) ?_;obtain⟨e,l0,l1⟩:=ag1 (ws:=pgA th m n) (tC 4)
 have b:∀i,ay ((pgA th m n).getD i 0):=fun i=>by
  by_cases hi:i<(pgA th m n).length
  ·rw[bM hi];have:=tC 4 _ (List.getElem_mem hi);exact⟨by omega,by omega⟩
  ·simp[List.getD,List.getElem?_eq_none (Nat.le_of_not_lt hi),ay]
 rw[e];generalize hl:tB (pgA th m n)=l at *;have g1:l>254→n9 th m n=4:=fun h=>by unfold n9;rw[if_pos hp,hl,if_pos h]
 have g2:¬l>254→n9 th m n=0:=fun h=>by unfold n9;rw[if_pos hp,hl,if_neg h]
 refine⟨b 0,by decide,b 1,fun h=> ?_,fun h=>⟨⟨by omega,by omega⟩,by decide,by omega,by have:=of_decide_eq_false h;omega,by have:=of_decide_eq_false h;omega, ?_⟩⟩
 ·have h:=g1 (of_decide_eq_true h);refine bC 3 rfl (Nat.le_refl _) ?_ rfl;simp[j6,h,uz]
 ·have h:=g2 (of_decide_eq_false h);refine bC 3 rfl (Nat.le_refl _) ?_ rfl;simp only[j6,h,if_true,hl];rw[show(2+l).toNat - Int.toNat 2=l.toNat from by omega];rfl
theorem ap7{Z:aW}:fC P Z 124 sGR:=by
 refine au Tryz.func124 (by kernel_rfl) (fun x=>Nat.le_of_ble_eq_true (by kernel_rfl)) ?_;rintro⟨(th:Th),(m:As),(fu:Int),(n:Int)⟩ ⟨(hd:bx th m fu),(hn:ay n),_⟩ X hX hz;have n8:∀x∈abU,(sGR.heap (th,m,fu,n)).length≤x.2.m:=by intro y hy;simp[abU]at hy;rcases hy with rfl|rfl<;>exact Nat.le_refl _
 have h4:=hd.t.1;have hN:=qu th;unfold ay at hn
 have bad:¬pOk th n=true→j6 th m n=ByteArray.empty∧n9 th m n=5:=fun h=>by
  have:n9 th m n=5:=by unfold n9;rw[if_neg h]
  exact⟨by unfold j6;rw[if_neg (by rw[this];decide)],this⟩
 have loop:pOk th n=true→∀(j k:Nat),k+j=4→Safe P 124 X (cX sGR (th,m,fu,n)) (cGR th m fu n (pgL th m n k++List.replicate (256 - 64*k) 0) (k:Int)):=by
  intro hp j;obtain⟨p0,p1⟩:=fQ.1 hp
  induction j with
  |zero=>
   intro k hk;obtain rfl:k=4:=by omega
   refine cR hz hX n8 ft Tryz.func124 (agW th m fu n _ 4) ⟨fun h=>absurd (of_decide_eq_true h) (by omega),fun _=> ?_⟩;have e:pgL th m n 4++List.replicate (256 - 64*4) 0=pgA th m n:=List.append_nil _;rw[e];exact anH hX hz hd hp
  |succ j ih=>
   intro k hk;have dz:=agS hp (show k<4 by omega);have next:=ih (k+1) (by omega)
   have hl:=adg hd hp k (by omega);have hs:(ch (iI th m (n*4+(k:Int)))).length=64:=by rw[iT];exact xI hd dz
   have ho:=abT (k:=k) hl hs (by omega);have e0:=ag0 dz;refine cR hz hX n8 ft Tryz.func124 (agW th m fu n _ k) ?_;rw[show(pgL th m n (k+1))=pgL th m n k++ch (iI th m (n*4+(k:Int)))from rfl,←ho]at next
   have eo:over (pgL th m n k++List.replicate (256 - 64*k) 0) (0+((k:Int)*64).toNat) (min (List.map (fun(b:UInt8)=>(b.toNat:Int)) (iI th m (n*4+(k:Int))).data.toList).length ((256:Int).toNat - ((k:Int)*64).toNat)) (List.map (fun(b:UInt8)=>(b.toNat:Int)) (iI th m (n*4+(k:Int))).data.toList)=over (pgL th m n k++List.replicate (256 - 64*k) 0) (64*k) 64 (ch (iI th m (n*4+(k:Int)))):=by
    show over _ _ (min (ch _).length _) (ch _)=_;rw[hs,show(0+((k:Int)*64).toNat)=64*k from by omega,show min 64 ((256:Int).toNat - ((k:Int)*64).toNat)=64 from by omega]
   rw[show((256:Nat):Int)=256 from rfl,eo,e0];refine⟨fun _=>⟨⟨by omega,by omega⟩,⟨by omega,by omega⟩,⟨by omega,by omega⟩,rfl,rfl,hd,fun h=>absurd h (by decide),fun _=>⟨by omega,by omega,by omega,trivial,by omega,⟨by omega,by omega⟩,next⟩⟩,fun h=>absurd (of_decide_eq_false h) (by omega)⟩
 refine cR hz hX n8 ft Tryz.func124 (anB th m fu n) ?_;have lp:=loop;unfold fk at hN
 repeat' (with_reducible (first|refine cl ?_|refine ba ?_ ?_|refine zy (fun _=> ?_) (fun _=> ?_)|refine zz (fun _=> ?_) (fun _=> ?_)|refine zA (fun _=> ?_) (fun _=> ?_)|refine fU ?_|refine gF ?_|refine zB ?_|refine zC (fun _=> ?_) (fun _=> ?_)|refine tm (fun _=> ?_) (fun _=> ?_)|refine tn ?_|refine gm ?_))
 all_goals first|omega|exact⟨by omega,by omega⟩|skip
 ·obtain⟨e1,e2⟩:=bad (fun h=>by have:=fQ.1 h;omega);refine bC 3 rfl (Nat.le_refl _) ?_ rfl;simp[e1,e2,uz]
 ·obtain⟨e1,e2⟩:=bad (fun h=>by have:=fQ.1 h;unfold fk at this;omega);refine bC 3 rfl (Nat.le_refl _) ?_ rfl;simp[e1,e2,uz]
 ·exact lp (fQ.2 ⟨by omega,by unfold fk;omega⟩) 4 0 rfl
end Ds
namespace Ds
open Go Go.Sx Go.Proofs Lf
theorem ap8{Z:aW}:fC P Z 178 sGW:=by
 refine au Tryz.func178 (by kernel_rfl) (fun x=>Nat.le_of_ble_eq_true (by kernel_rfl)) ?_;rintro⟨(th:Th),(m:As),(fu:Int),(n:Int),(s:ByteArray)⟩ ⟨(hd:bx th m fu),(hn:ay n),_⟩ X hX hz;have n8:∀x∈ajE,(sGW.heap (th,m,fu,n,s)).length≤x.2.m:=by intro y hy;simp[ajE]at hy;rcases hy with rfl;exact Nat.le_refl _
 have h4:=hd.t.1;have hN:=qu th;unfold ay at hn;have bad:∀c,gwC th n s=c→c≠0→nm th m fu n s=(m,fu,c):=fun c h h2=>by unfold nm;rw[h,if_neg h2]
 have loop:pOk th n=true→s.size≤254→∀(j k:Nat) (m':As) (iB:Int),k+j=4→bx th m' iB→nm th m fu n s=wrG th n (pgB s) j k m' iB→Safe P 178 X (cX sGW (th,m,fu,n,s)) (cGW th m' iB n (pgB s) (k:Int)):=by
  intro hp asW j;obtain⟨p0,p1⟩:=fQ.1 hp;have hl:=ajC asW
  induction j with
  |zero=>
   intro k m' iB hk hd' hr;obtain rfl:k=4:=by omega
   refine cR hz hX n8 ft Tryz.func178 (agY th m' iB n _ 4) ⟨fun h=>absurd (of_decide_eq_true h) (by omega),fun _=> ?_⟩;rw[wrG]at hr;refine bC 3 rfl (Nat.le_refl _) ?_ ?_<;>simp[hr,uz]
  |succ j ih=>
   intro k m' iB hk hd' hr;have next:=ih (k+1)
   have es:bc (List.take ((((k:Int)*64+64)).toNat - ((k:Int)*64).toNat) (List.drop (0+((k:Int)*64).toNat) (pgB s)))=uS (pgB s) k:=by
    unfold uS;rw[show(0+((k:Int)*64).toNat)=64*k from by omega,show((((k:Int)*64+64)).toNat - ((k:Int)*64).toNat)=64 from by omega]
   rw[wrG]at hr;refine cR hz hX n8 ft Tryz.func178 (agY th m' iB n _ k) ?_;rw[show((256:Nat):Int)=256 from rfl,es];refine⟨fun _=>⟨⟨by omega,by omega⟩,⟨by omega,by omega⟩,⟨by omega,by omega⟩,⟨by omega,by omega⟩,by omega,by omega,by omega,by omega,rfl,rfl,hd',fun h=> ?_,fun h=>⟨⟨by omega,by omega⟩, ?_⟩⟩,fun h=>absurd (of_decide_eq_false h) (by omega)⟩
   ·have h:¬uC th iB (n*4+(k:Int)) (uS (pgB s) k)=0:=by simpa using h
    rw[if_neg h]at hr;refine bC 3 rfl (Nat.le_refl _) ?_ ?_<;>simp[hr,uz]
   ·have h:uC th iB (n*4+(k:Int)) (uS (pgB s) k)=0:=by simpa using h
    rw[if_pos h]at hr;exact next _ _ (by omega) (adf hd') hr
 refine cR hz hX n8 ft Tryz.func178 (anC th m fu n s) ?_;have lp:=loop;have hb:=fun h=>anA (s:=s) h;unfold ch at hb;unfold fk at hN
 repeat' (with_reducible (first|refine cl ?_|refine ba ?_ ?_|refine zy (fun _=> ?_) (fun _=> ?_)|refine zz (fun _=> ?_) (fun _=> ?_)|refine zA (fun _=> ?_) (fun _=> ?_)|refine fU ?_|refine gF ?_|refine zB ?_|refine zC (fun _=> ?_) (fun _=> ?_)|refine tm (fun _=> ?_) (fun _=> ?_)|refine tn ?_|refine gm ?_))
 all_goals first|omega|exact⟨by omega,by omega⟩|trivial|skip
 ·have e:=bad 5 (by unfold gwC;rw[if_neg (fun h=>by have:=fQ.1 h;omega)]) (by decide);refine bC 3 rfl (Nat.le_refl _) ?_ ?_<;>simp[e,uz]
 ·have e:=bad 5 (by unfold gwC;rw[if_neg (fun h=>by have:=fQ.1 h;unfold fk at this;omega)]) (by decide);refine bC 3 rfl (Nat.le_refl _) ?_ ?_<;>simp[e,uz]
 ·have e:=bad 40 (by unfold gwC;rw[if_pos (fQ.2 ⟨by omega,by unfold fk;omega⟩),if_pos (by omega)]) (by decide);refine bC 3 rfl (Nat.le_refl _) ?_ ?_<;>simp[e,uz]
 ·rw[hb (by omega)];have hp:pOk th n=true:=fQ.2 ⟨by omega,by unfold fk;omega⟩;have ec:gwC th n s=0:=by unfold gwC;rw[if_pos hp,if_neg (by omega)]
  exact lp hp (by omega) 4 0 m fu rfl hd (by unfold nm;rw[ec,if_pos rfl])
theorem anI(s:ByteArray):bt BinOp.or IntKind.i64 (IntKind.i64.wrap (aG s (Int.toNat 9)*2^min (Int.toNat 8) IntKind.i64.bits)) (aG s (Int.toNat 10))=pgT s∧0≤pgT s∧pgT s≤65535:=by
 have h0:=cO s 9;have h1:=cO s 10;refine⟨pf h0 h1, ?_⟩;unfold pgT;omega
theorem anJ{Z:aW}{X:Ctx}{th:Th}{m:As}{fu n:Int}(hX:X.H=lk (sGo.heap (th,m,fu,n)))(hz:dP Z X)(hr:zI th n=0)(hs:(iI th m (n*4)).size=64)(E:Int)(hE:E=epS (iI th m (n*4)) 8):Safe P 88 X (cX sGo (th,m,fu,n)) (cGo th m fu (iI th m (n*4)) E):=by
 have n8:∀x∈aeV,(sGo.heap (th,m,fu,n)).length≤x.2.m:=by intro y hy;simp[aeV,eO]at hy;rcases hy with rfl|rfl<;>exact Nat.le_refl _
 rw[agR _ 8 (Nat.le_refl _)]at hE;subst hE;refine cR hz hX n8 ft Tryz.func88 (loopGo th m fu _ _) ?_;have o1:lj th m n=(aG (iI th m (n*4)) (Int.toNat 0)==1):=by unfold lj ap5;rw[hr];rfl
 have o2:jV th m n=aeT (iI th m (n*4)):=by unfold jV;rw[hr,if_pos rfl]
 have o3:mH th m n=aeU (iI th m (n*4)):=by unfold mH;rw[hr,if_pos rfl]
 have b9:=cO (iI th m (n*4)) (Int.toNat 9);have b10:=cO (iI th m (n*4)) (Int.toNat 10);obtain⟨p1,p2,p3⟩:=anI (iI th m (n*4));obtain⟨g0,g1⟩:=qt (iI th m (n*4)) 8;rw[p1];generalize iI th m (n*4)=s at *;have q1:epN s 8>1099511627776→aeT s=0:=fun h=>by unfold aeT;rw[if_pos h]
 have q2:¬epN s 8>1099511627776→aeT s=epN s 8:=fun h=>by unfold aeT;rw[if_neg h]
 have q3:pgT s≥1024→aeU s=0:=fun h=>by unfold aeU;rw[if_pos h]
 have q4:¬pgT s≥1024→aeU s=pgT s:=fun h=>by unfold aeU;rw[if_neg h]
 have w1:epN s 8≤1099511627776→IntKind.i64.wrap (epN s 8)=epN s 8:=fun h=>cn ⟨by omega,by omega⟩
 repeat' (with_reducible (first|refine cl ?_|refine ba ?_ ?_|refine zy (fun _=> ?_) (fun _=> ?_)|refine zz (fun _=> ?_) (fun _=> ?_)|refine zA (fun _=> ?_) (fun _=> ?_)|refine fU ?_|refine gF ?_|refine zB ?_|refine zC (fun _=> ?_) (fun _=> ?_)|refine tm (fun _=> ?_) (fun _=> ?_)|refine tn ?_|refine gm ?_))
 all_goals first|omega|exact⟨by omega,by omega⟩|skip
 ·have e1:=q1 (by omega);have e2:=q3 (by omega);refine bC 3 rfl (Nat.le_refl _) ?_ rfl;simp only[o1,o2,o3,e1,e2,hr];rfl
 ·have e1:=q1 (by omega);have e2:=q4 (by omega);refine bC 3 rfl (Nat.le_refl _) ?_ rfl;simp only[o1,o2,o3,e1,e2,hr];rfl
 ·have e1:=q2 (by omega);have e2:=q3 (by omega);have e3:=w1 (by omega);refine bC 3 rfl (Nat.le_refl _) ?_ rfl;simp only[o1,o2,o3,e1,e2,hr,e3];rfl
 ·have e1:=q2 (by omega);have e2:=q4 (by omega);have e3:=w1 (by omega);refine bC 3 rfl (Nat.le_refl _) ?_ rfl;simp only[o1,o2,o3,e1,e2,hr,e3];rfl
theorem ag2{th:Th}{m:As}{n:Int}(h:¬(0≤n∧n≤1∧n<fk th)):zI th n=5∧lj th m n=false∧jV th m n=0∧mH th m n=0:=by
 have e:zI th n=5:=by unfold zI;rw[if_neg h]
 unfold lj jV mH;rw[e];exact⟨rfl,rfl,rfl,rfl⟩
theorem go_ok{Z:aW}:fC P Z 88 sGo:=by
 refine au Tryz.func88 (by kernel_rfl) (fun x=>Nat.le_of_ble_eq_true (by kernel_rfl)) ?_;rintro⟨(th:Th),(m:As),(fu:Int),(n:Int)⟩ ⟨(hd:bx th m fu),(hn:ay n),_⟩ X hX hz;have n8:∀x∈aeV,(sGo.heap (th,m,fu,n)).length≤x.2.m:=by intro y hy;simp[aeV,eO]at hy;rcases hy with rfl|rfl<;>exact Nat.le_refl _
 have h4:=hd.t.1;have hN:=qu th;unfold ay at hn;have no:= @ag2 th m n;have yes:0≤n→n≤1→n<fk th→zI th n=0∧mG th (n*4)=true:=fun a b c=>⟨by unfold zI;rw[if_pos ⟨a,b,c⟩],iu.2 ⟨by omega,by omega⟩⟩;have fin:=fun h1 h2=>anJ (Z:=Z) (n:=n) hX hz h1 h2;unfold fk at hN no yes;refine cR hz hX n8 ft Tryz.func88 (anD th m fu n) ?_
 repeat' (with_reducible (first|refine cl ?_|refine ba ?_ ?_|refine zy (fun _=> ?_) (fun _=> ?_)|refine zz (fun _=> ?_) (fun _=> ?_)|refine zA (fun _=> ?_) (fun _=> ?_)|refine fU ?_|refine gF ?_|refine zB ?_|refine zC (fun _=> ?_) (fun _=> ?_)|refine tm (fun _=> ?_) (fun _=> ?_)|refine tn ?_|refine gm ?_))
 all_goals first|omega|exact⟨by omega,by omega⟩|assumption|skip
 ·obtain⟨e1,e2,e3,e4⟩:=no (by omega);refine bC 3 rfl (Nat.le_refl _) ?_ rfl;simp only[e1,e2,e3,e4];rfl
 ·obtain⟨e1,e2,e3,e4⟩:=no (by omega);refine bC 3 rfl (Nat.le_refl _) ?_ rfl;simp only[e1,e2,e3,e4];rfl
 ·obtain⟨e1,e2,e3,e4⟩:=no (by omega);refine bC 3 rfl (Nat.le_refl _) ?_ rfl;simp only[e1,e2,e3,e4];rfl
 all_goals obtain⟨e1,e2⟩:=yes (by omega) (by omega) (by omega)
 ·exact absurd (ag0 e2) (by assumption)
 all_goals have e3:=xI hd e2
 all_goals first|omega|skip
 exact fin e1 e3 _ rfl
theorem anK{ep pg:Int}(h0:0≤ep)(h1:0≤pg)(on:Bool)(ws:List Int)(hw:ws=if on=true then(List.replicate 64 (0:Int)).set 0 1 else List.replicate 64 0):
 ((((((((((ws.set 8 (IntKind.u8.wrap (ep.fdiv (2^min (Int.toNat 0) IntKind.i64.bits)))).set 7 (IntKind.u8.wrap (ep.fdiv (2^min (Int.toNat 8) IntKind.i64.bits)))).set 6 (IntKind.u8.wrap (ep.fdiv (2^min (Int.toNat 16) IntKind.i64.bits)))).set 5 (IntKind.u8.wrap (ep.fdiv (2^min (Int.toNat 24) IntKind.i64.bits)))).set 4 (IntKind.u8.wrap (ep.fdiv (2^min (Int.toNat 32) IntKind.i64.bits)))).set 3 (IntKind.u8.wrap (ep.fdiv (2^min (Int.toNat 40) IntKind.i64.bits)))).set 2 (IntKind.u8.wrap (ep.fdiv (2^min (Int.toNat 48) IntKind.i64.bits)))).set 1 (IntKind.u8.wrap (ep.fdiv (2^min (Int.toNat 56) IntKind.i64.bits)))).set 9 (IntKind.u8.wrap (pg.fdiv (2^min (Int.toNat 8) IntKind.i64.bits)))).set 10 (IntKind.u8.wrap pg))=mkB on ep pg:=by
 have e:(List.replicate 64 (0:Int))=0::0::0::0::0::0::0::0::0::0::0::List.replicate 53 0:=rfl
 simp only[wrap_u8,show(2:Int)^min (Int.toNat 0) IntKind.i64.bits=1 from by decide,show(2:Int)^min (Int.toNat 8) IntKind.i64.bits=256 from by decide,show(2:Int)^min (Int.toNat 16) IntKind.i64.bits=65536 from by decide,show(2:Int)^min (Int.toNat 24) IntKind.i64.bits=16777216 from by decide,
  show(2:Int)^min (Int.toNat 32) IntKind.i64.bits=4294967296 from by decide,show(2:Int)^min (Int.toNat 40) IntKind.i64.bits=1099511627776 from by decide,show(2:Int)^min (Int.toNat 48) IntKind.i64.bits=281474976710656 from by decide,show(2:Int)^min (Int.toNat 56) IntKind.i64.bits=72057594037927936 from by decide,
  Int.fdiv_eq_ediv_of_nonneg ep (by decide:(0:Int)≤1),Int.fdiv_eq_ediv_of_nonneg ep (by decide:(0:Int)≤256),Int.fdiv_eq_ediv_of_nonneg ep (by decide:(0:Int)≤65536),Int.fdiv_eq_ediv_of_nonneg ep (by decide:(0:Int)≤16777216),Int.fdiv_eq_ediv_of_nonneg ep (by decide:(0:Int)≤4294967296),Int.fdiv_eq_ediv_of_nonneg ep (by decide:(0:Int)≤1099511627776),Int.fdiv_eq_ediv_of_nonneg ep (by decide:(0:Int)≤281474976710656),Int.fdiv_eq_ediv_of_nonneg ep (by decide:(0:Int)≤72057594037927936),Int.fdiv_eq_ediv_of_nonneg pg (by decide:(0:Int)≤256),Int.ediv_one]
 cases on
 ·rw[if_neg (by decide),e]at hw;subst hw;rfl
 ·rw[if_pos rfl,e]at hw;subst hw;rfl
theorem anL{Z:aW}{X:Ctx}{th:Th}{m:As}{fu n:Int}{on:Bool}{ep pg:Int}(hX:X.H=lk (sGs.heap (th,m,fu,n,on,ep,pg)))(hz:dP Z X)(hd:bx th m fu)(hn:0≤n∧n≤1)(hs:srC th n ep pg=0)(h0:0≤ep)(h1:0≤pg)(ws:List Int)(hw:ws=if on=true then(List.replicate 64 (0:Int)).set 0 1 else List.replicate 64 0):
 Safe P 90 X (cX sGs (th,m,fu,n,on,ep,pg)) (cGs th m fu n on ep pg ws):=by
 have n8:∀x∈abV,(sGs.heap (th,m,fu,n,on,ep,pg)).length≤x.2.m:=by intro y hy;simp[abV,eO]at hy;rcases hy with rfl|rfl|rfl<;>exact Nat.le_refl _
 have e:=anK h0 h1 on ws hw;have l:=ajD on ep pg
 have fin:Safe P 90 X (cX sGs (th,m,fu,n,on,ep,pg)) (alO th m fu n (mkB on ep pg)):=by
  refine cR hz hX n8 ft Tryz.func90 (agZ th m fu n _) ?_;rw[show bc (List.take 64 (List.drop 0 (mkB on ep pg)))=mkS on ep pg from by unfold mkS;rw[List.drop_zero,List.take_of_length_le (by omega)]];refine⟨⟨by omega,by omega⟩,by decide,by decide,by decide,by decide,rfl,rfl,hd, ?_⟩;refine bC 3 rfl (Nat.le_refl _) ?_ ?_<;>simp[zJ,ov,ra,hs,uz]
 refine cR hz hX n8 ft Tryz.func90 (anF th m fu n on ep pg ws) ?_;rw[e];exact⟨by decide,by decide,by decide,by decide,by decide,by decide,by decide,by decide,by decide,fin⟩
theorem alP{Z:aW}:fC P Z 90 sGs:=by
 refine au Tryz.func90 (by kernel_rfl) (fun x=>Nat.le_of_ble_eq_true (by kernel_rfl)) ?_;rintro⟨(th:Th),(m:As),(fu:Int),(n:Int),(on:Bool),(ep:Int),(pg:Int)⟩ ⟨(hd:bx th m fu),(hn:ay n),_⟩ X hX hz;have n8:∀x∈abV,(sGs.heap (th,m,fu,n,on,ep,pg)).length≤x.2.m:=by intro y hy;simp[abV,eO]at hy;rcases hy with rfl|rfl|rfl<;>exact Nat.le_refl _
 have h4:=hd.t.1;have hN:=qu th
 have no:∀c,srC th n ep pg=c→c≠0→zJ th fu n on ep pg=c∧ov th m fu n on ep pg=m∧ra th fu n on ep pg=fu:=fun c h h2=>by
  unfold zJ ov ra;rw[h,if_neg h2,if_neg h2,if_neg h2];exact⟨rfl,rfl,rfl⟩
 have c5:¬(0≤n∧n≤1∧n<fk th)→srC th n ep pg=5:=fun h=>by unfold srC;rw[(ag2 (m:=m) h).1];rfl
 have c0:0≤n→n≤1→n<fk th→zI th n=0:=fun a b c=>by unfold zI;rw[if_pos ⟨a,b,c⟩]
 have c1:0≤n→n≤1→n<fk th→(ep<0∨ep>1099511627776∨pg<0∨pg≥1024)→srC th n ep pg=1:=fun a b c h=>by unfold srC;rw[c0 a b c,if_pos rfl,if_pos h]
 have c2:0≤n→n≤1→n<fk th→¬(ep<0∨ep>1099511627776∨pg<0∨pg≥1024)→srC th n ep pg=0:=fun a b c h=>by unfold srC;rw[c0 a b c,if_pos rfl,if_neg h]
 have fin:=fun h1 h2 h3 h4 ws=>anL (Z:=Z) (th:=th) (m:=m) (fu:=fu) (n:=n) (on:=on) (ep:=ep) (pg:=pg) hX hz hd h1 h2 h3 h4 ws;unfold ay at hn;unfold fk at hN c5 c0 c1 c2;refine cR hz hX n8 ft Tryz.func90 (anE th m fu n on ep pg) ?_
 repeat' (with_reducible (first|refine cl ?_|refine ba ?_ ?_|refine zy (fun _=> ?_) (fun _=> ?_)|refine zz (fun _=> ?_) (fun _=> ?_)|refine zA (fun _=> ?_) (fun _=> ?_)|refine fU ?_|refine gF ?_|refine zB ?_|refine zC (fun _=> ?_) (fun _=> ?_)|refine tm (fun _=> ?_) (fun _=> ?_)|refine tn ?_|refine gm ?_))
 all_goals first|omega|exact⟨by omega,by omega⟩|skip
 ·obtain⟨e1,e2,e3⟩:=no 5 (c5 (by omega)) (by decide);refine bC 3 rfl (Nat.le_refl _) ?_ ?_<;>simp[e1,e2,e3,uz]
 ·obtain⟨e1,e2,e3⟩:=no 5 (c5 (by omega)) (by decide);refine bC 3 rfl (Nat.le_refl _) ?_ ?_<;>simp[e1,e2,e3,uz]
 ·obtain⟨e1,e2,e3⟩:=no 5 (c5 (by omega)) (by decide);refine bC 3 rfl (Nat.le_refl _) ?_ ?_<;>simp[e1,e2,e3,uz]
 ·obtain⟨e1,e2,e3⟩:=no 1 (c1 (by omega) (by omega) (by omega) (by omega)) (by decide);refine bC 3 rfl (Nat.le_refl _) ?_ ?_<;>simp[e1,e2,e3,uz]
 ·obtain⟨e1,e2,e3⟩:=no 1 (c1 (by omega) (by omega) (by omega) (by omega)) (by decide);refine bC 3 rfl (Nat.le_refl _) ?_ ?_<;>simp[e1,e2,e3,uz]
 ·obtain⟨e1,e2,e3⟩:=no 1 (c1 (by omega) (by omega) (by omega) (by omega)) (by decide);refine bC 3 rfl (Nat.le_refl _) ?_ ?_<;>simp[e1,e2,e3,uz]
 ·obtain⟨e1,e2,e3⟩:=no 1 (c1 (by omega) (by omega) (by omega) (by omega)) (by decide);refine bC 3 rfl (Nat.le_refl _) ?_ ?_<;>simp[e1,e2,e3,uz]
 ·rename_i hon;exact fin ⟨by omega,by omega⟩ (c2 (by omega) (by omega) (by omega) (by omega)) (by omega) (by omega) _ (by rw[if_pos hon])
 ·rename_i hon;exact fin ⟨by omega,by omega⟩ (c2 (by omega) (by omega) (by omega) (by omega)) (by omega) (by omega) _ (by rw[if_neg (by rw[hon];decide)])
end Ds
namespace Ds
open Go Go.Sx Go.Proofs Lf
end Ds
namespace Ds
open Go Go.Sx Go.Proofs Lf
end Ds
namespace Lf
open Go Go.Sx Go.Proofs
noncomputable abbrev P:Program:=Tryz.prog
theorem mixed:P.follows .mixedOrders=true:=by kernel_rfl
abbrev bB:Ty:=.b (.int .i64)
abbrev c9:Ty:=.b .bool
abbrev dI:Ty:=.b .str
abbrev zL:Ty:=.b (.row (.ints .i64) 3)
abbrev cE:List CK:=[.str,.str]
abbrev cB:List CK:=[.str,.int .i64]
abbrev En:Type:=ByteArray×ByteArray×Unit
abbrev Br:Type:=ByteArray×Int×Unit
abbrev eE:TypeId:=66
abbrev eB:TypeId:=137
abbrev ph:Ty:=.b (.row (.ad cE) eE)
abbrev uD:Ty:=.b (.row (.ad cB) eB)
abbrev ed:Ty:=.st [.bool,.row (.ad cE) eE,.row (.ad cB) eB]
abbrev avN(l:Bool)(es:List En)(bs:List Br):AV:=.agg [.s (.bool l),.s (.ro (.ad cE es)),.s (.ro (.ad cB bs))]
abbrev obN(l:Bool)(es:List En)(bs:List Br)(t:TypeId):ab:=.own [.s (.bool l),.s (.ro (.ad cE es)),.s (.ro (.ad cB bs))] t
theorem go{Z:aW}{X:Ctx}{t:aH}{f:FuncId}{fn:Func}{ns:List (Nat×Norm)}{c:bw}{tr:Tree}{K:List ab→AV→Prop}(hz:dP Z X)(hX:∀id,X.H id=none)(hT:t.Ok P Z)(hf:P.funcs[f]? =some fn)
 (e:run P t.sum fn ns c=tr) (h:tr.aZ K (Safe P f X K)):Safe P f X K c:=cG (aH.sOk hT) hz mixed hf (fun _ _ id _=>hX id) e h
def dE:En:=(ByteArray.empty,ByteArray.empty,())
def dB:Br:=(ByteArray.empty,0,())
def okE(es:List En)(i:Nat):Bool:= !(decide ((es.getD i dE).1=ByteArray.empty)||decide (((es.getD i dE).1.size:Int)>24)||decide (((es.getD i dE).2.1.size:Int)>100)||(decide (0<i)&& !slt (es.getD (i - 1) dE).1 (es.getD i dE).1))
def okB(bs:List Br)(i:Nat):Bool:= !(decide (((bs.getD i dB).1.size:Int)>24)||decide ((bs.getD i dB).2.1<2)||decide ((bs.getD i dB).2.1≥1024)||(decide (0<i)&& !slt (bs.getD (i - 1) dB).1 (bs.getD i dB).1))
def nn(es:List En):Bool:=(List.range es.length).all (okE es)
def np(bs:List Br):Bool:=(List.range bs.length).all (okB bs)
def eu(l:Bool)(es:List En)(bs:List Br):Bool:= !((l&&decide ((bs.length:Int)>0))||(!l&&decide ((es.length:Int)>0)))&&nn es&&np bs
def gL:aH:=[]
def ag3:List (Nat×Norm):=[(4,⟨[],[1,27,28,29],0,[]⟩),(10,⟨[],[1,67,68,69],0,[]⟩)]
noncomputable def alQ(l:Bool)(es:List En)(bs:List Br)(i:Int):bw:=⟨sl 105 [(1,.ptr 0 0),(27,.s (.ro (.ad cE es))),(28,.s (.int .i64 (es.length:Int))),(29,.s (.int .i64 i))],[obN l es bs 131],hd Tryz.f166 4,{}⟩
noncomputable def alR(l:Bool)(es:List En)(bs:List Br)(i:Int):bw:=⟨sl 105 [(1,.ptr 0 0),(67,.s (.ro (.ad cB bs))),(68,.s (.int .i64 (bs.length:Int))),(69,.s (.int .i64 i))],[obN l es bs 131],hd Tryz.f166 10,{}⟩
theorem ajF(l:Bool)(es:List En)(bs:List Br):run P gL.sum Tryz.f166 ag3 (start Tryz.f166 [avN l es bs] [])=
 Tree.ite l (.ite (decide ((↑bs.length:Int)>0)) (.ret [.own [.s (.bool l),.s (.ro (.ad [.str,.str] es)),.s (.ro (.ad [.str,.int .i64] bs))] 131] (.s (.aC false))) (.ite (!l) (.ite (decide ((↑es.length:Int)>0)) (.ret [.own [.s (.bool l),.s (.ro (.ad [.str,.str] es)),.s (.ro (.ad [.str,.int .i64] bs))] 131] (.s (.aC false))) (.at (.mk (sl 105 [(1,.ptr 0 0),(27,.s (.ro (.ad [.str,.str] es))),(28,.s (.int .i64 (↑es.length:Int))),(29,.s (.int .i64 0))]) [.own [.s (.bool l),.s (.ro (.ad [.str,.str] es)),.s (.ro (.ad [.str,.int .i64] bs))] 131] (hd Tryz.f166 4) (.mk none false 0 [] 0)))) (.at (.mk (sl 105 [(1,.ptr 0 0),(27,.s (.ro (.ad [.str,.str] es))),(28,.s (.int .i64 (↑es.length:Int))),(29,.s (.int .i64 0))]) [.own [.s (.bool l),.s (.ro (.ad [.str,.str] es)),.s (.ro (.ad [.str,.int .i64] bs))] 131] (hd Tryz.f166 4) (.mk none false 0 [] 0))))) (.ite (!l) (.ite (decide ((↑es.length:Int)>0)) (.ret [.own [.s (.bool l),.s (.ro (.ad [.str,.str] es)),.s (.ro (.ad [.str,.int .i64] bs))] 131] (.s (.aC false))) (.at (.mk (sl 105 [(1,.ptr 0 0),(27,.s (.ro (.ad [.str,.str] es))),(28,.s (.int .i64 (↑es.length:Int))),(29,.s (.int .i64 0))]) [.own [.s (.bool l),.s (.ro (.ad [.str,.str] es)),.s (.ro (.ad [.str,.int .i64] bs))] 131] (hd Tryz.f166 4) (.mk none false 0 [] 0)))) (.at (.mk (sl 105 [(1,.ptr 0 0),(27,.s (.ro (.ad [.str,.str] es))),(28,.s (.int .i64 (↑es.length:Int))),(29,.s (.int .i64 0))]) [.own [.s (.bool l),.s (.ro (.ad [.str,.str] es)),.s (.ro (.ad [.str,.int .i64] bs))] 131] (hd Tryz.f166 4) (.mk none false 0 [] 0)))):=by kernel_rfl
theorem zM(l:Bool)(es:List En)(bs:List Br)(i:Int):run P gL.sum Tryz.f166 ag3 (alQ l es bs i)=
 Tree.ite (decide (i<(↑es.length:Int))) (.need ((0:Int)≤i) (.need (i<(↑es.length:Int)) (.ite (decide ((es.getD i.toNat (CL.d [.str,.str])).fst=ByteArray.empty)) (.ret [.own [.s (.bool l),.s (.ro (.ad [.str,.str] es)),.s (.ro (.ad [.str,.int .i64] bs))] 131,.own [.s (.str (es.getD i.toNat (CL.d [.str,.str])).fst),.s (.str (es.getD i.toNat (CL.d [.str,.str])).snd.fst)] 66] (.s (.aC false))) (.ite (decide ((↑(ByteArray.size (es.getD i.toNat (CL.d [.str,.str])).fst):Int)>24)) (.ret [.own [.s (.bool l),.s (.ro (.ad [.str,.str] es)),.s (.ro (.ad [.str,.int .i64] bs))] 131,.own [.s (.str (es.getD i.toNat (CL.d [.str,.str])).fst),.s (.str (es.getD i.toNat (CL.d [.str,.str])).snd.fst)] 66] (.s (.aC false))) (.ite (decide ((↑(ByteArray.size (es.getD i.toNat (CL.d [.str,.str])).snd.fst):Int)>100)) (.ret [.own [.s (.bool l),.s (.ro (.ad [.str,.str] es)),.s (.ro (.ad [.str,.int .i64] bs))] 131,.own [.s (.str (es.getD i.toNat (CL.d [.str,.str])).fst),.s (.str (es.getD i.toNat (CL.d [.str,.str])).snd.fst)] 66] (.s (.aC false))) (.ite (decide (i>0)) (.need (ay (i - (1:Int))) (.need ((0:Int)≤i - (1:Int)) (.need (i - (1:Int)<(↑es.length:Int)) (.ite (!slt (es.getD (i - (1:Int)).toNat (CL.d [.str,.str])).fst (es.getD i.toNat (CL.d [.str,.str])).fst) (.ret [.own [.s (.bool l),.s (.ro (.ad [.str,.str] es)),.s (.ro (.ad [.str,.int .i64] bs))] 131,.own [.s (.str (es.getD i.toNat (CL.d [.str,.str])).fst),.s (.str (es.getD i.toNat (CL.d [.str,.str])).snd.fst)] 66] (.s (.aC false))) (.need (ay (i+1)) (.at (.mk (sl 105 [(1,.ptr 0 0),(27,.s (.ro (.ad [.str,.str] es))),(28,.s (.int .i64 (↑es.length:Int))),(29,.s (.int .i64 (i+1)))]) [.own [.s (.bool l),.s (.ro (.ad [.str,.str] es)),.s (.ro (.ad [.str,.int .i64] bs))] 131] (hd Tryz.f166 4) (.mk none false 0 [] 0)))))))) (.need (ay (i+1)) (.at (.mk (sl 105 [(1,.ptr 0 0),(27,.s (.ro (.ad [.str,.str] es))),(28,.s (.int .i64 (↑es.length:Int))),(29,.s (.int .i64 (i+1)))]) [.own [.s (.bool l),.s (.ro (.ad [.str,.str] es)),.s (.ro (.ad [.str,.int .i64] bs))] 131] (hd Tryz.f166 4) (.mk none false 0 [] 0)))))))))) (.at (.mk (sl 105 [(1,.ptr 0 0),(67,.s (.ro (.ad [.str,.int .i64] bs))),(68,.s (.int .i64 (↑bs.length:Int))),(69,.s (.int .i64 0))]) [.own [.s (.bool l),.s (.ro (.ad [.str,.str] es)),.s (.ro (.ad [.str,.int .i64] bs))] 131] (hd Tryz.f166 10) (.mk none false 0 [] 0))):=by kernel_rfl
theorem zN(l:Bool)(es:List En)(bs:List Br)(i:Int):run P gL.sum Tryz.f166 ag3 (alR l es bs i)=
 Tree.ite (decide (i<(↑bs.length:Int))) (.need ((0:Int)≤i) (.need (i<(↑bs.length:Int)) (.ite (decide ((↑(ByteArray.size (bs.getD i.toNat (CL.d [.str,.int .i64])).fst):Int)>24)) (.ret [.own [.s (.bool l),.s (.ro (.ad [.str,.str] es)),.s (.ro (.ad [.str,.int .i64] bs))] 131,.own [.s (.str (bs.getD i.toNat (CL.d [.str,.int .i64])).fst),.s (.int .i64 (bs.getD i.toNat (CL.d [.str,.int .i64])).snd.fst)] 137] (.s (.aC false))) (.ite (decide ((bs.getD i.toNat (CL.d [.str,.int .i64])).snd.fst<2)) (.ret [.own [.s (.bool l),.s (.ro (.ad [.str,.str] es)),.s (.ro (.ad [.str,.int .i64] bs))] 131,.own [.s (.str (bs.getD i.toNat (CL.d [.str,.int .i64])).fst),.s (.int .i64 (bs.getD i.toNat (CL.d [.str,.int .i64])).snd.fst)] 137] (.s (.aC false))) (.ite (decide ((bs.getD i.toNat (CL.d [.str,.int .i64])).snd.fst≥1024)) (.ret [.own [.s (.bool l),.s (.ro (.ad [.str,.str] es)),.s (.ro (.ad [.str,.int .i64] bs))] 131,.own [.s (.str (bs.getD i.toNat (CL.d [.str,.int .i64])).fst),.s (.int .i64 (bs.getD i.toNat (CL.d [.str,.int .i64])).snd.fst)] 137] (.s (.aC false))) (.ite (decide (i>0)) (.need (ay (i - (1:Int))) (.need ((0:Int)≤i - (1:Int)) (.need (i - (1:Int)<(↑bs.length:Int)) (.ite (!slt (bs.getD (i - (1:Int)).toNat (CL.d [.str,.int .i64])).fst (bs.getD i.toNat (CL.d [.str,.int .i64])).fst) (.ret [.own [.s (.bool l),.s (.ro (.ad [.str,.str] es)),.s (.ro (.ad [.str,.int .i64] bs))] 131,.own [.s (.str (bs.getD i.toNat (CL.d [.str,.int .i64])).fst),.s (.int .i64 (bs.getD i.toNat (CL.d [.str,.int .i64])).snd.fst)] 137] (.s (.aC false))) (.need (ay (i+1)) (.at (.mk (sl 105 [(1,.ptr 0 0),(67,.s (.ro (.ad [.str,.int .i64] bs))),(68,.s (.int .i64 (↑bs.length:Int))),(69,.s (.int .i64 (i+1)))]) [.own [.s (.bool l),.s (.ro (.ad [.str,.str] es)),.s (.ro (.ad [.str,.int .i64] bs))] 131] (hd Tryz.f166 10) (.mk none false 0 [] 0)))))))) (.need (ay (i+1)) (.at (.mk (sl 105 [(1,.ptr 0 0),(67,.s (.ro (.ad [.str,.int .i64] bs))),(68,.s (.int .i64 (↑bs.length:Int))),(69,.s (.int .i64 (i+1)))]) [.own [.s (.bool l),.s (.ro (.ad [.str,.str] es)),.s (.ro (.ad [.str,.int .i64] bs))] 131] (hd Tryz.f166 10) (.mk none false 0 [] 0)))))))))) (.ret [.own [.s (.bool l),.s (.ro (.ad [.str,.str] es)),.s (.ro (.ad [.str,.int .i64] bs))] 131] (.s (.aC true))):=by kernel_rfl
theorem abW{Z:aW}:dr P Z 166 [ed] [c9] (fun _=>[]) (fun((l,es,bs,()),())=>(eu l es bs,())):=by
 refine aB Tryz.func166 (by kernel_rfl) (by kernel_rfl) ?_;rintro⟨⟨(l:Bool),(es:List En),(bs:List Br),⟨⟩⟩,⟨⟩⟩ ⟨⟨_,hle,hlb,_⟩,_⟩ _ X hX hz;have hle:es.length≤9223372036854775807:=hle;have hlb:bs.length≤9223372036854775807:=hlb
 have second:nn es=true→eu l es bs=np bs→∀(n k:Nat),k+n=bs.length→(∀j,j<k→okB bs j=true)→Safe P 166 X (Ends [c9] (eu l es bs,())) (alR l es bs (k:Int)):=by
  intro he hm n
  induction n with
  |zero=>
   intro k hk hp;refine go hz hX aH.Ok.nil Tryz.func166 (zN l es bs k) ⟨fun h=>absurd (of_decide_eq_true h) (by omega),fun h=>fj ?_⟩;rw[hm];exact ac9 (fun j hj=>hp j (by omega))
  |succ n ih=>
   intro k hk hp;have no:okB bs k=false→eu l es bs=false:=fun h=>by rw[hm];exact agI (by omega) h
   refine go hz hX aH.Ok.nil Tryz.func166 (zN l es bs k) ⟨fun h=>⟨by omega,by omega, ?_⟩,fun h=>absurd (of_decide_eq_false h) (by omega)⟩;simp only[Int.toNat_natCast];refine⟨fun h1=>fj (no ?_),fun h1=>⟨fun h2=>fj (no ?_),fun h2=>⟨fun h3=>fj (no ?_),fun h3=>⟨fun h4=> ?_,fun h4=>⟨⟨by omega,by omega⟩, ?_⟩⟩⟩⟩⟩
   ·show(!(decide (((bs.getD k dB).1.size:Int)>24)||_||_||_))=false;rw[show decide (((bs.getD k dB).1.size:Int)>24)=true from h1];rfl
   ·show(!(_||decide ((bs.getD k dB).2.1<2)||_||_))=false;rw[show decide ((bs.getD k dB).2.1<2)=true from h2];simp
   ·show(!(_||_||decide ((bs.getD k dB).2.1≥1024)||_))=false;rw[show decide ((bs.getD k dB).2.1≥1024)=true from h3];simp
   ·have h0:(k:Int)>0:=of_decide_eq_true h4;rw[show((k:Int) - 1).toNat=k - 1 from by omega];refine⟨⟨by omega,by omega⟩,by omega,by omega,fun h5=>fj (no ?_),fun h5=>⟨⟨by omega,by omega⟩,ih (k+1) (by omega) (fun j hj=> ?_)⟩⟩
    ·show(!(_||_||_||(decide (0<k)&& !slt (bs.getD (k - 1) dB).1 (bs.getD k dB).1)))=false;rw[show(!slt (bs.getD (k - 1) dB).1 (bs.getD k dB).1)=true from h5,show decide (0<k)=true from decide_eq_true (by omega)];simp
    ·by_cases rI:j=k
     ·subst rI;show(!(decide (((bs.getD j dB).1.size:Int)>24)||decide ((bs.getD j dB).2.1<2)||decide ((bs.getD j dB).2.1≥1024)||(decide (0<j)&& !slt (bs.getD (j - 1) dB).1 (bs.getD j dB).1)))=true;rw[show(!slt (bs.getD (j - 1) dB).1 (bs.getD j dB).1)=false from h5,show decide ((bs.getD j dB).2.1≥1024)=false from h3,show decide ((bs.getD j dB).2.1<2)=false from h2,show decide (((bs.getD j dB).1.size:Int)>24)=false from h1];simp
     ·exact hp j (by omega)
   ·have h0:¬(k:Int)>0:=of_decide_eq_false h4;refine ih (k+1) (by omega) (fun j hj=> ?_);by_cases rI:j=k
    ·subst rI;show(!(decide (((bs.getD j dB).1.size:Int)>24)||decide ((bs.getD j dB).2.1<2)||decide ((bs.getD j dB).2.1≥1024)||(decide (0<j)&& !slt (bs.getD (j - 1) dB).1 (bs.getD j dB).1)))=true;rw[show decide ((bs.getD j dB).2.1≥1024)=false from h3,show decide ((bs.getD j dB).2.1<2)=false from h2,show decide (((bs.getD j dB).1.size:Int)>24)=false from h1,decide_eq_false (by omega)];rfl
    ·exact hp j (by omega)
 have first:eu l es bs=(nn es&&np bs)→∀(n k:Nat),k+n=es.length→(∀j,j<k→okE es j=true)→Safe P 166 X (Ends [c9] (eu l es bs,())) (alQ l es bs (k:Int)):=by
  intro hm n
  induction n with
  |zero=>
   intro k hk hp;have he:nn es=true:=ac9 (fun j hj=>hp j (by omega));exact go hz hX aH.Ok.nil Tryz.func166 (zM l es bs k) ⟨fun h=>absurd (of_decide_eq_true h) (by omega),fun h=>second he (by rw[hm,he];rfl) bs.length 0 (by omega) (fun j hj=>by omega)⟩
  |succ n ih=>
   intro k hk hp;have no:okE es k=false→eu l es bs=false:=fun h=>by rw[hm,show nn es=false from agI (by omega) h];rfl
   refine go hz hX aH.Ok.nil Tryz.func166 (zM l es bs k) ⟨fun h=>⟨by omega,by omega, ?_⟩,fun h=>absurd (of_decide_eq_false h) (by omega)⟩;simp only[Int.toNat_natCast];refine⟨fun h1=>fj (no ?_),fun h1=>⟨fun h2=>fj (no ?_),fun h2=>⟨fun h3=>fj (no ?_),fun h3=>⟨fun h4=> ?_,fun h4=>⟨⟨by omega,by omega⟩, ?_⟩⟩⟩⟩⟩
   ·show(!(decide ((es.getD k dE).1=ByteArray.empty)||_||_||_))=false;rw[show decide ((es.getD k dE).1=ByteArray.empty)=true from h1];rfl
   ·show(!(_||decide (((es.getD k dE).1.size:Int)>24)||_||_))=false;rw[show decide (((es.getD k dE).1.size:Int)>24)=true from h2];simp
   ·show(!(_||_||decide (((es.getD k dE).2.1.size:Int)>100)||_))=false;rw[show decide (((es.getD k dE).2.1.size:Int)>100)=true from h3];simp
   ·have h0:(k:Int)>0:=of_decide_eq_true h4;rw[show((k:Int) - 1).toNat=k - 1 from by omega];refine⟨⟨by omega,by omega⟩,by omega,by omega,fun h5=>fj (no ?_),fun h5=>⟨⟨by omega,by omega⟩,ih (k+1) (by omega) (fun j hj=> ?_)⟩⟩
    ·show(!(_||_||_||(decide (0<k)&& !slt (es.getD (k - 1) dE).1 (es.getD k dE).1)))=false;rw[show(!slt (es.getD (k - 1) dE).1 (es.getD k dE).1)=true from h5,show decide (0<k)=true from decide_eq_true (by omega)];simp
    ·by_cases rI:j=k
     ·subst rI;show(!(decide ((es.getD j dE).1=ByteArray.empty)||decide (((es.getD j dE).1.size:Int)>24)||decide (((es.getD j dE).2.1.size:Int)>100)||(decide (0<j)&& !slt (es.getD (j - 1) dE).1 (es.getD j dE).1)))=true;rw[show(!slt (es.getD (j - 1) dE).1 (es.getD j dE).1)=false from h5,show decide (((es.getD j dE).2.1.size:Int)>100)=false from h3,show decide (((es.getD j dE).1.size:Int)>24)=false from h2,show decide ((es.getD j dE).1=ByteArray.empty)=false from h1];simp
     ·exact hp j (by omega)
   ·have h0:¬(k:Int)>0:=of_decide_eq_false h4;refine ih (k+1) (by omega) (fun j hj=> ?_);by_cases rI:j=k
    ·subst rI;show(!(decide ((es.getD j dE).1=ByteArray.empty)||decide (((es.getD j dE).1.size:Int)>24)||decide (((es.getD j dE).2.1.size:Int)>100)||(decide (0<j)&& !slt (es.getD (j - 1) dE).1 (es.getD j dE).1)))=true;rw[show decide (((es.getD j dE).2.1.size:Int)>100)=false from h3,show decide (((es.getD j dE).1.size:Int)>24)=false from h2,show decide ((es.getD j dE).1=ByteArray.empty)=false from h1,decide_eq_false (by omega)];rfl
    ·exact hp j (by omega)
 refine go hz hX aH.Ok.nil Tryz.func166 (ajF l es bs) ⟨fun hl=>⟨fun h1=>fj ?_,fun h1=>⟨fun h2=> ?_,fun h2=>first ?_ es.length 0 (by omega) (fun j hj=>by omega)⟩⟩,fun hl=>⟨fun h1=>⟨fun h2=>fj ?_,fun h2=>first ?_ es.length 0 (by omega) (fun j hj=>by omega)⟩,fun h1=> ?_⟩⟩
 ·show(!((l&&decide ((bs.length:Int)>0))||_)&&_&&_)=false;rw[hl,h1];rfl
 ·subst hl;cases h2
 ·show(!((l&&decide ((bs.length:Int)>0))||(!l&&_))&&_&&_)=_;rw[hl,h1];rfl
 ·show(!((l&&_)||(!l&&decide ((es.length:Int)>0)))&&_&&_)=false;rw[hl,h2];rfl
 ·show(!((l&&_)||(!l&&decide ((es.length:Int)>0)))&&_&&_)=_;rw[hl,h2];rfl
 ·subst hl;cases h1
end Lf
namespace Lf
open Go Go.Sx Go.Proofs
theorem kz{α:Type}{l:List α}{k:Nat}{d:α}(h:k<l.length):l.take k++[l.getD k d]=l.take (k+1):=by
 rw[bM h,List.take_succ_eq_append_getElem h]
abbrev alS:=cp [dI,dI] [bB] (fun _=>[]) (fun(a,b,())=>(lg a b,()))
def anM:aH:=[(167,alS)]
theorem ajG(a b:ByteArray):run P anM.sum Tryz.f128 [] (start Tryz.f128 [.s (.str a),.s (.str b)] [])=
 Tree.ret [] (.s (.int .i64 (lg a b))):=by kernel_rfl
def adh:aH:=[(128,alS)]
theorem abX(x:Br)(b:ByteArray):run P adh.sum Tryz.f127 [] (start Tryz.f127 [.agg [.s (.str x.1),.s (.int .i64 x.2.1)],.s (.str b)] [])=
 Tree.ret [.own [.s (.str x.fst),.s (.int .i64 x.snd.fst)] 137] (.s (.int .i64 (lg x.fst b))):=by kernel_rfl
theorem zO(x:En)(b:ByteArray):run P adh.sum Tryz.f152 [] (start Tryz.f152 [.agg [.s (.str x.1),.s (.str x.2.1)],.s (.str b)] [])=
 Tree.ret [.own [.s (.str x.fst),.s (.str x.snd.fst)] 66] (.s (.int .i64 (lg x.fst b))):=by kernel_rfl
set_option maxHeartbeats 1000000 in
set_option maxRecDepth 100000 in
theorem xJ(a b:ByteArray)(w:World):Calls P 167 #[.string a,.string b] w fun e w'=>e=.returned (.int .i64 (lg a b))∧w'=w:=by
 have mixed:=mixed;have t3:=Tryz.underlying3;have t9:=Tryz.underlying9;have u3:=run_underlying t3;have u9:=run_underlying t9
 go_enter Tryz.func167,Tryz.ntmps167
 go_wp2
 rw[run_callFunc_extern Tryz.func190 (by kernel_rfl) (by kernel_rfl) (by kernel_rfl) (e:=Extern.BytealgCompare.compare) (by kernel_rfl),Lib.run_compareString];simp only[Result.andThen];rw[Oper.upon_value]
 go_wp2
 go_ret
 exact⟨rfl,rfl⟩
theorem ajH{Z:aW}:dr P Z 167 [dI,dI] [bB] (fun _=>[]) (fun(a,b,())=>(lg a b,())):=by
 rintro⟨(a:ByteArray),(b:ByteArray),⟨⟩⟩ _ _ G w vs hG hz hd;obtain⟨v,rest,rfl,h1,h2⟩:=aA.1 hd;obtain⟨u,rest,rfl,h3,h4⟩:=aA.1 h2;obtain rfl:=aU.1 h4;obtain rfl:=eV h1;obtain rfl:=eV h3;refine(xJ a b w).mono ?_;rintro e w' ⟨rfl,rfl⟩;refine⟨_,rfl,Good.val ⟨fun id o ho=>by simp at ho,fun i j oi oj b hi=>by simp at hi,fun b hb=> ?_,hG⟩ ?_⟩
 ·obtain⟨id,o,ho,_⟩:=hb;cases ho
 ·exact az (.int .i64 _)
theorem ag4{Z:aW}:dr P Z 128 [dI,dI] [bB] (fun _=>[]) (fun(a,b,())=>(lg a b,())):=by
 refine aB Tryz.func128 (by kernel_rfl) (by kernel_rfl) ?_;rintro⟨(a:ByteArray),(b:ByteArray),⟨⟩⟩ _ _ X hX hz;exact go hz hX (aH.Ok.cons ajH.sum aH.Ok.nil) Tryz.func128 (ajG a b) xA
abbrev tBr:Ty:=.st [.str,.int .i64]
abbrev tEn:Ty:=.st [.str,.str]
theorem aeW{Z:aW}:dr P Z 127 [tBr,dI] [bB] (fun _=>[]) (fun((a,_,()),b,())=>(lg a b,())):=by
 refine aB Tryz.func127 (by kernel_rfl) (by kernel_rfl) ?_;rintro⟨⟨(a:ByteArray),(n:Int),⟨⟩⟩,(b:ByteArray),⟨⟩⟩ _ _ X hX hz;exact go hz hX (aH.Ok.cons ag4.sum aH.Ok.nil) Tryz.func127 (abX (a,n,()) b) xA
theorem abY{Z:aW}:dr P Z 152 [tEn,dI] [bB] (fun _=>[]) (fun((a,_,()),b,())=>(lg a b,())):=by
 refine aB Tryz.func152 (by kernel_rfl) (by kernel_rfl) ?_;rintro⟨⟨(a:ByteArray),(n:ByteArray),⟨⟩⟩,(b:ByteArray),⟨⟩⟩ _ _ X hX hz;exact go hz hX (aH.Ok.cons ag4.sum aH.Ok.nil) Tryz.func152 (zO (a,n,()) b) xA
end Lf
