/- Lemmas: SxView, SxTy, SxOut, SxFn, SxFnR, SxLoop, SxWrap, SxDen, SxCut, Hd, SxSpec, SxAuto, Lb, SxRange, D0, D2, SxFrz, E1, F0, F1, F2, F3, H0, Hp, L1, L2, L3, L4, L5, L6. -/
import Derived.ProofKit
import Derived.Carry
import Derived.OpenShut
import Derived.Deep.DeepHandedRow
import Derived.JoinedOf
import Derived.Test.YtcjldfgkonfocaaDoorRows
import Derived.LaidMore
import Derived.Stop.Joined
import Derived.Lib.Bytealg
import Derived.Maps.RangeRun
import Derived.Test.YtcjldfgkonfocaaDoorProg
import Derived.Lib.Walk
import Derived.WalkKit
import Derived.Laws.Externs
import Derived.Test.YtcjldfgkonfocaaDoorPB
namespace Go.Sx
open Go
def allM{α β:Type}(f:α→Option β):List α→Option (List β)
 |[]=>some []
 |a::aG=>match f a,allM f aG with
  |some b,some bs=>some (b::bs)
  |_,_=>none
def rnS:SV→SV
 |.aV k n=>.int k n
 |.aA b=>.bool b
 |x=>x
def rn(g:Nat→Option Nat):Nat→AV→Option AV
 |0,_=>none
 |d+1,a=>
  match a with
  |.s x=>some (.s (rnS x))
  |.ptr id off=>(g id).map fun j=>.ptr j off
  |.jQ id off n i=>(g id).map fun j=>.jQ j off n i
  |.jx c m j=>some (.jx c m j)
  |.vec id=>(g id).map fun j=>.vec j
  |.gj id i j=>(g id).map fun l=>.gj l i j
  |.part id lo n=>(g id).map fun l=>.part l lo n
  |.sub id off n=>(g id).map fun l=>.sub l off n
  |.ko id i j n=>(g id).map fun l=>.ko l i j n
  |.emp=>some .emp
  |.agg an=>(allM (rn g d) an).map .agg
  |.ints k n ws=>some (.ints k n ws)
  |.bo vs=>(allM (rn g d) vs).map .bo
  |.fn f ey=>(allM (rn g d) ey).map (.fn f)
  |.ag id=>(g id).map fun j=>.ag j
  |.tag id=>(g id).map fun j=>.tag j
def uW(g:Nat→Option Nat):ad→Option ad
 |.own an e=>(allM (rn g 20) an).map fun s=>.own s e
 |.vec c e=>some (.vec c e)
 |.map ck m=>some (.map ck m)
 |.wK ck m gid=>match g gid with
  |some j=>some (.wK ck m j)
  |none=>some (.map ck m)
 |.iter mid gid ck left cur=>match g mid,g gid with
  |some i,some j=>some (.iter i j ck left cur)
  |_,_=>none
 |.dead=>some .dead
structure Emb (g:Nat→Option Nat) (ρ:Nat→Value) (H:aJ) (O:Nat→Prop) (aB:Nat→Value) (H':aJ) (O':Nat→Prop):Prop where
 id:∀i j,g i=some j→aB j=ρ i∧∀o,H i=some o→∃o',H' j=some o'∧∀c e,o'=.vec c e→o=.vec c e
 fP:∀b,O' b→O b
section
variable{g:Nat→Option Nat}{ρ aB:Nat→Value}{H H':aJ}{G O O':Nat→Prop}{w w':World}{P:Program}{S:fb}{Z:aX}{X:Ctx}{s:St}{a:Act}{K:List ad→AV→Prop}{C:bA→Prop}
theorem allM_cons{α β:Type}{f:α→Option β}{a:α}{aG:List α}{l:List β}(h:allM f (a::aG)=some l):∃b bs,f a=some b∧allM f aG=some bs∧l=b::bs:=by
 unfold allM at h;split at h
 ·rename_i b bs h1 h2;simp only[Option.some.injEq]at h;exact⟨b,bs,h1,h2,h.symm⟩
 ·cases h
theorem gE{α β:Type}{f:α→Option β}:∀{aG:List α} {l:List β},allM f aG=some l→l.length=aG.length
 |[],l,h=>by simp only[allM,Option.some.injEq]at h;subst h;rfl
 |a::aG,l,h=>by
  obtain⟨b,bs,_,h2,rfl⟩:=allM_cons h;simp[gE h2]
theorem fY{α β:Type}{f:α→Option β}:∀{aG:List α} {l:List β},allM f aG=some l→∀(i:Nat) (a:α),aG[i]? =some a→∃b,f a=some b∧l[i]? =some b
 |[],l,h,i,a,hi=>by simp at hi
 |a::aG,l,h,i,x,hi=>by
  obtain⟨b,bs,h1,h2,rfl⟩:=allM_cons h;cases i with
  |zero=>simp only[List.getElem?_cons_zero,Option.some.injEq]at hi;subst hi;exact⟨b,h1,rfl⟩
  |succ i=>simpa using fY h2 i x (by simpa using hi)
theorem aR.less(fP:∀b,O' b→O b){x:SV}{v:Value}(h:aR O w x v):aR O' w x v:=
 h.step (fun b hb=>.inl (fP b hb)) (fun _ _ _=>rfl) (Nat.le_refl _)
theorem aR.rnS{x:SV}{v:Value}(h:aR O w x v):aR O w (rnS x) v:=by
 cases h<;>first
  |exact aR.int _ _
  |exact aR.bool _
  |(refine aR.ro _ _ _ _ _ _ ?_ ?_ ?_ ?_ ?_<;>assumption)
  |(constructor<;>assumption)
  |constructor
theorem agK(fP:∀b,O' b→O b){x:SV}{v:Value}(h:ab ρ H O w (.s x) v):ab aB H' O' w (.s (Sx.rnS x)) v:=by
 by_cases hx:x=.aQ
 ·subst hx;unfold ab;trivial
 ·have h1:=ak hx h;exact aw (h1.less fP).rnS
theorem uX(E:Emb g ρ H O aB H' O'):∀(d:Nat),
 (∀a a' v,rn g d a=some a'→ab ρ H O w a v→ab aB H' O' w a' v)∧(∀a a' cs,rn g d a=some a'→aK ρ H O w a cs→aK aB H' O' w a' cs):=by
 have isSome:∀{i j:Nat},g i=some j→(H i).isSome=true→(H' j).isSome=true:=by
  intro i j hg hi;obtain⟨o,ho⟩:=Option.isSome_iff_exists.1 hi;obtain⟨o',dg,_⟩:=(E.id i j hg).2 o ho;rw[dg];rfl
 have ar1:∀{i j:Nat} {v:Value},g i=some j→az ρ H O w (.vec i) v→az aB H' O' w (.vec j) v:=by
  intro i j v hg h;unfold az at *;obtain⟨h0,o,ho,h1⟩:=h;obtain⟨hr,h2⟩:=E.id i j hg;obtain⟨o',dg,h3⟩:=h2 o ho;exact⟨h0,o',dg,fun c e hc=>by rw[hr];exact h1 c e (h3 c e hc)⟩
 have anM:∀{i j:Nat} {v:Value} {m n:Nat},g i=some j→az ρ H O w (.gj i m n) v→az aB H' O' w (.gj j m n) v:=by
  intro i j v m n hg h;unfold az at *;obtain⟨h0,o,ho,h1⟩:=h;obtain⟨hr,h2⟩:=E.id i j hg;obtain⟨o',dg,h3⟩:=h2 o ho;exact⟨h0,o',dg,fun c e hc=>by rw[hr];exact h1 c e (h3 c e hc)⟩
 have anN:∀{i j:Nat} {v:Value} {m n:Nat},g i=some j→az ρ H O w (.part i m n) v→az aB H' O' w (.part j m n) v:=by
  intro i j v m n hg h;unfold az at *;obtain⟨h0,o,ho,h1⟩:=h;obtain⟨hr,h2⟩:=E.id i j hg;obtain⟨o',dg,h3⟩:=h2 o ho;exact⟨h0,o',dg,fun c e hc=>by rw[hr];exact h1 c e (h3 c e hc)⟩
 have ar2:∀{i j:Nat} {v:Value} {m n:Nat},g i=some j→az ρ H O w (.sub i m n) v→az aB H' O' w (.sub j m n) v:=by
  intro i j v m n hg h;unfold az at *;obtain⟨h0,b,a,cap,h1,h2,h4,h3⟩:=h;exact⟨h0,b,a,cap,by rw[(E.id i j hg).1,h1],h2,h4,isSome hg h3⟩
 have anO:∀{i j:Nat} {v:Value} {m n l:Nat},g i=some j→az ρ H O w (.ko i m n l) v→az aB H' O' w (.ko j m n l) v:=by
  intro i j v m n l hg h;unfold az at *;obtain⟨h0,o,ho,h1⟩:=h;obtain⟨hr,h2⟩:=E.id i j hg;obtain⟨o',dg,h3⟩:=h2 o ho;exact⟨h0,o',dg,fun c e hc=>by rw[hr];exact h1 c e (h3 c e hc)⟩
 have ar3:∀{i j:Nat} {v:Value} {off:Nat},g i=some j→az ρ H O w (.ptr i off) v→az aB H' O' w (.ptr j off) v:=by
  intro i j v off hg h;unfold az at *;obtain⟨b,h1,h2,h3⟩:=h;exact⟨b,by rw[(E.id i j hg).1,h1],h2,isSome hg h3⟩
 have ar4:∀{i j:Nat} {v:Value},g i=some j→az ρ H O w (.ag i) v→az aB H' O' w (.ag j) v:=by
  intro i j v hg h;unfold az at *;obtain⟨b,h1,h2,h3⟩:=h;exact⟨b,by rw[(E.id i j hg).1,h1],h2,isSome hg h3⟩
 have ar5:∀{i j:Nat} {v:Value},g i=some j→az ρ H O w (.tag i) v→az aB H' O' w (.tag j) v:=by
  intro i j v hg h;unfold az at *;obtain⟨h1,h2,h3⟩:=h;exact⟨by rw[(E.id i j hg).1,h1],h2,isSome hg h3⟩
 have anP:∀{i j:Nat} {v:Value} {off n l:Nat},g i=some j→az ρ H O w (.jQ i off n l) v→az aB H' O' w (.jQ j off n l) v:=by
  intro i j v off n l hg h;unfold az at *;obtain⟨h0,b,h1,h2,h3⟩:=h;exact⟨h0,b,by rw[(E.id i j hg).1,h1],h2,isSome hg h3⟩
 have anQ:∀{c:aI} {m j:Nat} {v:Value},az ρ H O w (.jx c m j) v→az aB H' O' w (.jx c m j) v:=by
  intro c m j v h;unfold az at *;obtain⟨b,o,us,h1,h2,h3,h4⟩:=h;exact⟨b,o,us,h1,fun h5=>h2 (E.fP b h5),h3,fun i hi=>⟨(h4 i hi).1,(h4 i hi).2.less E.fP⟩⟩
 intro d
 induction d with
 |zero=>exact⟨fun a a' v h=>by simp[rn]at h,fun a a' cs h=>by simp[rn]at h⟩
 |succ d ih=>
  have lst:∀(aG dk:List AV) (vs:List Value),allM (rn g d) aG=some dk→bE ρ H O w aG vs→bE aB H' O' w dk vs:=by
   intro aG
   induction aG with
   |nil=>intro dk vs h hd;simp only[allM,Option.some.injEq]at h;subst h;rw[aU.1 hd];exact aU.2 rfl
   |cons a aG ihl=>
    intro dk vs h hd;obtain⟨b,bs,h1,h2,rfl⟩:=allM_cons h;obtain⟨v,rest,rfl,h3,h4⟩:=ax.1 hd;exact ax.2 ⟨v,rest,rfl,ih.1 a b v h1 h3,ihl bs rest h2 h4⟩
  have sgs:∀(aG dk:List AV) (cs:List Value),allM (rn g d) aG=some dk→ao ρ H O w aG cs→ao aB H' O' w dk cs:=by
   intro aG
   induction aG with
   |nil=>intro dk vs h hd;simp only[allM,Option.some.injEq]at h;subst h;rw[aq.1 hd];exact aq.2 rfl
   |cons a aG ihl=>
    intro dk vs h hd;obtain⟨b,bs,h1,h2,rfl⟩:=allM_cons h;obtain⟨c1,c2,rfl,h3,h4⟩:=af.1 hd;exact af.2 ⟨c1,c2,rfl,ih.2 a b c1 h1 h3,ihl bs c2 h2 h4⟩
  refine⟨fun a a' v h hd=> ?_,fun a a' cs h hd=> ?_⟩
  ·cases a<;>simp only[rn,Option.map_eq_some_iff,Option.some.injEq,reduceCtorEq]at h
   case s x=>subst h;exact agK E.fP hd
   case ptr id off=>obtain⟨j,hg,rfl⟩:=h;unfold ab at *;exact ar3 hg hd
   case jQ id off n i=>obtain⟨j,hg,rfl⟩:=h;unfold ab at *;exact anP hg hd
   case jx c m j=>subst h;unfold ab at *;exact anQ hd
   case vec id=>obtain⟨j,hg,rfl⟩:=h;unfold ab at *;exact ar1 hg hd
   case gj id i j=>obtain⟨l,hg,rfl⟩:=h;unfold ab at *;exact anM hg hd
   case part id lo n=>obtain⟨l,hg,rfl⟩:=h;unfold ab at *;exact anN hg hd
   case sub id off n=>obtain⟨l,hg,rfl⟩:=h;unfold ab at *;exact ar2 hg hd
   case ko id i j n=>obtain⟨l,hg,rfl⟩:=h;unfold ab at *;exact anO hg hd
   case emp=>subst h;unfold ab at *;exact hd
   case agg an=>obtain⟨l,hl,rfl⟩:=h;unfold ab at *;obtain⟨cs,h1,h2⟩:=hd;exact⟨cs,h1,sgs _ _ _ hl h2⟩
   case ints k n ws=>subst h;unfold ab at *;exact hd
   case bo vs=>obtain⟨l,hl,rfl⟩:=h;unfold ab at *;obtain⟨us,h1,h2⟩:=hd;exact⟨us,h1,lst _ _ _ hl h2⟩
   case fn f ey=>obtain⟨l,hl,rfl⟩:=h;unfold ab at *;obtain⟨us,h1,h2⟩:=hd;exact⟨us,h1,lst _ _ _ hl h2⟩
   case ag id=>obtain⟨j,hg,rfl⟩:=h;unfold ab at *;exact ar4 hg hd
   case tag id=>obtain⟨j,hg,rfl⟩:=h;unfold ab at *;exact ar5 hg hd
  ·cases a<;>simp only[rn,Option.map_eq_some_iff,Option.some.injEq,reduceCtorEq]at h
   case s x=>subst h;unfold aK at *;obtain⟨u,h1,h2⟩:=hd;exact⟨u,h1,(h2.less E.fP).rnS⟩
   case ptr id off=>obtain⟨j,hg,rfl⟩:=h;unfold aK at *;obtain⟨u,h1,h2⟩:=hd;exact⟨u,h1,ar3 hg h2⟩
   case jQ id off n i=>obtain⟨j,hg,rfl⟩:=h;unfold aK at *;obtain⟨u,h1,h2⟩:=hd;exact⟨u,h1,anP hg h2⟩
   case jx c m j=>subst h;unfold aK at *;obtain⟨u,h1,h2⟩:=hd;exact⟨u,h1,anQ h2⟩
   case vec id=>obtain⟨j,hg,rfl⟩:=h;unfold aK at *;obtain⟨u,h1,h2⟩:=hd;exact⟨u,h1,ar1 hg h2⟩
   case gj id i j=>obtain⟨l,hg,rfl⟩:=h;unfold aK at *;obtain⟨u,h1,h2⟩:=hd;exact⟨u,h1,anM hg h2⟩
   case part id lo n=>obtain⟨l,hg,rfl⟩:=h;unfold aK at *;obtain⟨u,h1,h2⟩:=hd;exact⟨u,h1,anN hg h2⟩
   case sub id off n=>obtain⟨l,hg,rfl⟩:=h;unfold aK at *;obtain⟨u,h1,h2⟩:=hd;exact⟨u,h1,ar2 hg h2⟩
   case ko id i j n=>obtain⟨l,hg,rfl⟩:=h;unfold aK at *;obtain⟨u,h1,h2⟩:=hd;exact⟨u,h1,anO hg h2⟩
   case emp=>subst h;unfold aK at *;exact hd
   case agg an=>unfold aK at hd;exact hd.elim
   case ints k n ws=>subst h;unfold aK at *;exact hd
   case bo vs=>unfold aK at hd;exact hd.elim
   case fn f ey=>obtain⟨l,hl,rfl⟩:=h;unfold aK at *;obtain⟨u,h1,us,h2,h3⟩:=hd;exact⟨u,h1,us,h2,lst _ _ _ hl h3⟩
   case ag id=>obtain⟨j,hg,rfl⟩:=h;unfold aK at *;obtain⟨u,h1,h2⟩:=hd;exact⟨u,h1,ar4 hg h2⟩
   case tag id=>obtain⟨j,hg,rfl⟩:=h;unfold aK at *;obtain⟨u,h1,h2⟩:=hd;exact⟨u,h1,ar5 hg h2⟩
theorem tC(E:Emb g ρ H O aB H' O'){d:Nat}:∀{aG dk:List AV} {vs:List Value},allM (rn g d) aG=some dk→bE ρ H O w aG vs→bE aB H' O' w dk vs
 |[],dk,vs,h,hd=>by simp only[allM,Option.some.injEq]at h;subst h;rw[aU.1 hd];exact aU.2 rfl
 |a::aG,dk,vs,h,hd=>by
  obtain⟨b,bs,h1,h2,rfl⟩:=allM_cons h;obtain⟨v,rest,rfl,h3,h4⟩:=ax.1 hd;exact ax.2 ⟨v,rest,rfl,(uX E d).1 a b v h1 h3,tC E h2 h4⟩
theorem uY(E:Emb g ρ H O aB H' O'){d:Nat}:∀{aG dk:List AV} {cs:List Value},allM (rn g d) aG=some dk→ao ρ H O w aG cs→ao aB H' O' w dk cs
 |[],dk,vs,h,hd=>by simp only[allM,Option.some.injEq]at h;subst h;rw[aq.1 hd];exact aq.2 rfl
 |a::aG,dk,vs,h,hd=>by
  obtain⟨b,bs,h1,h2,rfl⟩:=allM_cons h;obtain⟨c1,c2,rfl,h3,h4⟩:=af.1 hd;exact af.2 ⟨c1,c2,rfl,(uX E d).2 a b c1 h1 h3,uY E h2 h4⟩
theorem zB(E:Emb g ρ H O aB H' O'){o o':ad}{root:Value}(h:uW g o=some o')(hs:iv ρ H O w root o):iv aB H' O' w root o':=by
 cases o with
 |dead=>simp only[uW,Option.some.injEq]at h;subst h;trivial
 |map ck m=>simp only[uW,Option.some.injEq]at h;subst h;exact hs
 |wK ck m gid=>
  obtain⟨b,es,clock,h0,h1,h2,h3,h4⟩:=hs;simp only[uW]at h;split at h
  ·rename_i j hj;simp only[Option.some.injEq]at h;subst h;obtain⟨e1,e2⟩:=E.id _ _ hj;obtain⟨o,ho⟩:=Option.isSome_iff_exists.1 h4;obtain⟨o',dg,_⟩:=e2 o ho;exact⟨b,es,clock,h0,h1,h2,by rw[e1];exact h3,by rw[dg];rfl⟩
  ·simp only[Option.some.injEq]at h;subst h;exact⟨b,es,clock,h0,h1,h2⟩
 |iter mid gid ck left cur=>
  obtain⟨b,mb,es,clock,seen,h0,h1,h2,h3,h4,h5,h6⟩:=hs;simp only[uW]at h;split at h
  ·rename_i i j hi hj;simp only[Option.some.injEq]at h;subst h;obtain⟨e1,e2⟩:=E.id _ _ hj;obtain⟨o,ho⟩:=Option.isSome_iff_exists.1 h4;obtain⟨o',dg,_⟩:=e2 o ho;obtain⟨e3,e4⟩:=E.id _ _ hi;obtain⟨p,hp⟩:=Option.isSome_iff_exists.1 h6;obtain⟨p',yU,_⟩:=e4 p hp;exact⟨b,mb,es,clock,seen,h0,h1,h2,by rw[e1];exact h3,by rw[dg];rfl,by rw[e3];exact h5,by rw[yU];rfl⟩
  ·cases h
 |own an e=>
  simp only[uW,Option.map_eq_some_iff]at h;obtain⟨l,hl,rfl⟩:=h;obtain⟨b,cells,fr,h0,h1,h2,h3⟩:=hs;exact⟨b,cells,fr,h0,h1,h2,uY E hl h3⟩
 |vec c e=>
  simp only[uW,Option.some.injEq]at h;subst h;obtain⟨r,cap,h0,h1,h2,h3⟩:=hs;refine⟨r,cap,h0,h1,h2,h3.imp id ?_⟩;rintro⟨b,f,cells,fr,us,h4,h5,h6,h7,h8⟩;exact⟨b,f,cells,fr,us,h4,h5,h6,h7,fun i j hi hj=>⟨(h8 i j hi hj).1,(h8 i j hi hj).2.less E.fP⟩⟩
theorem cp{o o':ad}(h:uW g o=some o'):o'.alive=o.alive∧∀c e,o'=.vec c e→o=.vec c e:=by
 cases o with
 |dead=>simp only[uW,Option.some.injEq]at h;subst h;exact⟨rfl,fun c e hc=>by cases hc⟩
 |map ck m=>simp only[uW,Option.some.injEq]at h;subst h;exact⟨rfl,fun c e hc=>by cases hc⟩
 |wK ck m gid=>
  simp only[uW]at h;split at h<;>simp only[Option.some.injEq]at h<;>subst h<;>exact⟨rfl,fun c e hc=>by cases hc⟩
 |iter mid gid ck left cur=>
  simp only[uW]at h;split at h
  ·simp only[Option.some.injEq]at h;subst h;exact⟨rfl,fun c e hc=>by cases hc⟩
  ·cases h
 |own an e=>
  simp only[uW,Option.map_eq_some_iff]at h;obtain⟨l,hl,rfl⟩:=h;exact⟨rfl,fun c e hc=>by cases hc⟩
 |vec c e=>simp only[uW,Option.some.injEq]at h;subst h;exact⟨rfl,fun c e hc=>hc⟩
def aiw:List Nat→Nat→Nat→Option Nat
 |[],_,_=>none
 |x::xs,k,id=>bif x.beq id then some k else aiw xs (k+1) id
def idx(σ:List Nat)(id:Nat):Option Nat:=aiw σ 0 id
def qx(σ:List Nat)(L:List ad):Option (List ad):=allM (fun id=>match L[id]? with|some o=>uW (idx σ) o|none=>none) σ
def rM:List Nat→Bool
 |[]=>true
 |x::xs=> !(xs.any (x.beq ·))&&rM xs
theorem xM:∀{σ:List Nat} {k id j:Nat},aiw σ k id=some j→k≤j∧σ[j - k]? =some id
 |[],k,id,j,h=>by simp[aiw]at h
 |x::xs,k,id,j,h=>by
  simp only[aiw,Bool.cond_eq_ite]at h;split at h
  ·rename_i hx;obtain rfl:x=id:=Nat.eq_of_beq_eq_true hx;obtain rfl:k=j:=by simpa using h
   exact⟨Nat.le_refl _,by simp⟩
  ·obtain⟨h1,h2⟩:=xM h;refine⟨by omega, ?_⟩;rw[show j - k=(j - (k+1))+1 from by omega];simpa using h2
theorem aa7{σ:List Nat}{id j:Nat}(h:idx σ id=some j):σ[j]? =some id:=by simpa using(xM h).2
theorem kC:∀{σ:List Nat},rM σ=true→σ.Nodup
 |[],_=>.nil
 |x::xs,h=>by
  simp only[rM,Bool.and_eq_true,Bool.not_eq_true',List.any_eq_false]at h;refine List.nodup_cons.2 ⟨fun hm=> ?_,kC h.2⟩;have:=h.1 x hm;simp at this
theorem od{σ:List Nat}{L L':List ad}(h:qx σ L=some L'){j:Nat}{o':ad}(hj:L'[j]? =some o'):∃(id:Nat) (o:ad),σ[j]? =some id∧L[id]? =some o∧uW (idx σ) o=some o':=by
 have hlen:=gE h;have a8:j<σ.length:=by rw[←hlen];exact(List.getElem?_eq_some_iff.1 hj).1
 obtain⟨b,h1,h2⟩:=fY h j σ[j] (List.getElem?_eq_getElem a8);rw[hj]at h2;simp only[Option.some.injEq]at h2;subst h2;split at h1
 ·rename_i o ho;exact⟨σ[j],o,List.getElem?_eq_getElem a8,ho,h1⟩
 ·cases h1
theorem aa8{σ:List Nat}{L L':List ad}(h:qx σ L=some L'){j id:Nat}(hj:σ[j]? =some id):∃o o',L[id]? =some o∧uW (idx σ) o=some o'∧L'[j]? =some o':=by
 obtain⟨b,h1,h2⟩:=fY h j id hj;split at h1
 ·rename_i o ho;exact⟨o,b,ho,h1,h2⟩
 ·cases h1
def pull(σ:List Nat)(ρ:Nat→Value):Nat→Value:=fun j=>ρ (σ.getD j 0)
theorem qy{σ:List Nat}{L L':List ad}(hv:qx σ L=some L'){b:Nat}(h:Own (pull σ ρ) (fun j=>L'[j]?) b):∃(j id:Nat) (o:ad),σ[j]? =some id∧L[id]? =some o∧o.alive=true∧er (ρ id)=some b:=by
 obtain⟨j,o',dg,ha,hb⟩:=h;obtain⟨id,o,h1,h2,h3⟩:=od hv dg;have:pull σ ρ j=ρ id:=by simp[pull,List.getD,h1]
 rw[this]at hb;exact⟨j,id,o,h1,h2,by rw[←(cp h3).1];exact ha,hb⟩
theorem rN{σ:List Nat}{L L':List ad}{G':Nat→Prop}(hs:Sat ρ (fun i=>L[i]?) G w)(hn:σ.Nodup)(hv:qx σ L=some L')(hG:∀b,G' b→aN ρ (fun i=>L[i]?) G b)(hap:∀b,Own (pull σ ρ) (fun j=>L'[j]?) b→¬G' b):
 Sat (pull σ ρ) (fun j=>L'[j]?) G' w∧Emb (idx σ) ρ (fun i=>L[i]?) (aN ρ (fun i=>L[i]?) G) (pull σ ρ) (fun j=>L'[j]?) (aN (pull σ ρ) (fun j=>L'[j]?) G'):=by
 have nz:∀{j id:Nat},σ[j]? =some id→pull σ ρ j=ρ id:=fun h1=>by simp[pull,List.getD,h1]
 have E:Emb (idx σ) ρ (fun i=>L[i]?) (aN ρ (fun i=>L[i]?) G) (pull σ ρ) (fun j=>L'[j]?) (aN (pull σ ρ) (fun j=>L'[j]?) G'):=by
  refine⟨fun i j kp=> ?_,fun b hb=> ?_⟩
  ·have h1:=aa7 kp;refine⟨nz h1,fun o ho=> ?_⟩;obtain⟨o1,o',h2,h3,h4⟩:=aa8 hv h1;rw[show L[i]? =some o from ho]at h2;simp only[Option.some.injEq]at h2;subst h2;exact⟨o',h4,(cp h3).2⟩
  ·rcases hb with hb|hb
   ·obtain⟨j,id,o,h1,h2,h3,h4⟩:=qy hv hb;exact .inl ⟨id,o,h2,h3,h4⟩
   ·exact hG b hb
 refine⟨⟨fun j o' dg=> ?_,fun i j oi oj b hi hj ai aj bi bj=> ?_,hap,fun b hb=>yV hs (hG b hb)⟩,E⟩
 ·obtain⟨id,o,h1,h2,h3⟩:=od hv dg;rw[nz h1];exact zB E h3 (hs.obj id o h2)
 ·obtain⟨id,o,h1,h2,h3⟩:=od hv hi;obtain⟨id',o',h1',h2',h3'⟩:=od hv hj;rw[nz h1]at bi;rw[nz h1']at bj;have:=hs.inj id id' o o' b h2 h2' (by rw[←(cp h3).1];exact ai) (by rw[←(cp h3').1];exact aj) bi bj;subst this;have eR:=List.getElem?_eq_some_iff.1 h1;have jB:=List.getElem?_eq_some_iff.1 h1';obtain⟨hi1,hi2⟩:=eR;obtain⟨hj1,uE⟩:=jB;exact(List.getElem_inj hn).1 (hi2.trans uE.symm)
theorem xN{σ:List Nat}{L L':List ad}{ρ0:Nat→Value}{H0:aJ}{O0:Nat→Prop}{w0:World}{m:Nat}(hs:Sat ρ (fun i=>L[i]?) G w)(hn:σ.Nodup)(hv:qx σ L=some L')(agL:∀i,i<m→σ[i]? =some i)(h0:∀id,m≤id→H0 id=none)
 (st:Step ρ0 H0 O0 w0 ρ (fun i=>L[i]?) (aN ρ (fun i=>L[i]?) G) w):Step ρ0 H0 O0 w0 (pull σ ρ) (fun j=>L'[j]?) (aN (pull σ ρ) (fun j=>L'[j]?) G) w:=by
 have E:=(rN (G':=G) hs hn hv (fun b hb=>.inr hb) (fun b hb=>by
  obtain⟨j,id,o,h1,h2,h3,h4⟩:=qy hv hb;exact hs.apart b ⟨id,o,h2,h3,h4⟩)).2
 have a8:∀{id:Nat} {o:ad},H0 id=some o→id<m:=fun{id o} h=>by
  rcases Nat.lt_or_ge id m with h1|h1
  ·exact h1
  ·rw[h0 id h1]at h;cases h
 refine⟨fun id o ho=> ?_,fun id o ho=> ?_,fun b hb=>st.fP b (E.fP b hb),st.heap,st.size⟩
 ·rw[show pull σ ρ id=ρ id from by simp[pull,List.getD,agL id (a8 ho)]];exact st.xp id o ho
 ·obtain⟨o1,h1,h2⟩:=st.ez id o ho;obtain⟨o2,o',h3,h4,h5⟩:=aa8 hv (agL id (a8 ho));rw[show L[id]? =some o1 from h1]at h3;simp only[Option.some.injEq]at h3;subst h3;exact⟨o',h5,fun c e hc=>h2 c e ((cp h4).2 c e hc)⟩
theorem Good.view{σ:List Nat}{L L':List ad}{m d:Nat}{r r':AV}{v:Value}(h:Good ρ H G w (fun i=>L[i]?) r v w')(hn:σ.Nodup)(hv:qx σ L=some L')(agL:∀i,i<m→σ[i]? =some i)(h0:∀id,m≤id→H id=none)(hr:rn (idx σ) d r=some r'):
 Good ρ H G w (fun i=>L'[i]?) r' v w':=by
 obtain⟨aB,h1,h2,h3,h4⟩:=h
 obtain⟨h5,h6⟩:=rN (G':=G) h1 hn hv (fun b hb=>.inr hb) (fun b hb=>by
  obtain⟨j,id,o,h1',h2,h3,h4⟩:=qy hv hb;exact h1.apart b ⟨id,o,h2,h3,h4⟩)
 exact⟨pull σ aB,h5,(uX h6 d).1 r r' v hr h2,xN h1 hn hv agL h0 h3,h4⟩
theorem bX.view{σ:List Nat}{tmps sW:List AV}{L L':List ad}{m d:Nat}(h:bX X ρ ⟨tmps,L⟩ a w)(hn:σ.Nodup)(hv:qx σ L=some L')(agL:∀i,i<m→σ[i]? =some i)(h0:∀id,m≤id→X.H id=none)(ht:allM (rn (idx σ) d) tmps=some sW):
 bX X (pull σ ρ) ⟨sW,L'⟩ a w:=by
 have hs:Sat ρ (fun i=>L[i]?) X.G w:=h.sat
 obtain⟨h5,h6⟩:=rN (G':=X.G) hs hn hv (fun b hb=>.inr hb) (fun b hb=>by
  obtain⟨j,id,o,h1',h2,h3,h4⟩:=qy hv hb;exact hs.apart b ⟨id,o,h2,h3,h4⟩)
 refine⟨h5,by rw[←h.size];exact gE ht,fun t=> ?_,h.defers,xN hs hn hv agL h0 h.from_,h.jc,h.kept⟩;have hd:=h.den t;simp only[]at hd ⊢;rcases Nat.lt_or_ge t tmps.length with a8|hge
 ·obtain⟨b,h1,h2⟩:=fY ht t tmps[t] (List.getElem?_eq_getElem a8);have e1:tmps.getD t (.s .aQ)=tmps[t]:=by simp[List.getD,a8]
  have e2:sW.getD t (.s .aQ)=b:=by simp[List.getD,h2]
  rw[e1]at hd;rw[e2];exact(uX h6 d).1 _ _ _ h1 hd
 ·have e2:sW.getD t (.s .aQ)=.s .aQ:=by
   have:=gE ht;simp[List.getD,List.getElem?_eq_none (show sW.length≤t by omega)]
  rw[e2];unfold ab;trivial
def dW(ks:List Nat):Nat→List AV→List AV
 |_,[]=>[]
 |i,a::aG=>(bif ks.any (i.beq ·)then a else .s .aQ)::dW ks (i+1) aG
theorem mo(ks:List Nat):∀(i:Nat) (aG:List AV),(dW ks i aG).length=aG.length
 |_,[]=>rfl
 |i,a::aG=>by simp[dW,mo ks (i+1) aG]
theorem qz(ks:List Nat):∀(i:Nat) (aG:List AV) (t:Nat),(dW ks i aG).getD t (.s .aQ)=aG.getD t (.s .aQ)∨(dW ks i aG).getD t (.s .aQ)=.s .aQ
 |_,[],t=>.inl rfl
 |i,a::aG,0=>by
  simp only[dW,List.getD_cons_zero];cases ks.any (i.beq ·)
  ·exact .inr rfl
  ·exact .inl rfl
 |i,a::aG,t+1=>by
  simp only[dW,List.getD_cons_succ];exact qz ks (i+1) aG t
theorem bX.dW{tmps:List AV}{L:List ad}(ks:List Nat)(h:bX X ρ ⟨tmps,L⟩ a w):bX X ρ ⟨dW ks 0 tmps,L⟩ a w:=by
 refine⟨h.sat,by rw[←h.size];exact mo ks 0 tmps,fun t=> ?_,h.defers,h.from_,h.jc,h.kept⟩;rcases qz ks 0 tmps t with h1|h1
 ·simp only[];rw[h1];exact h.den t
 ·simp only[];rw[h1];unfold ab;trivial
def oe(c:aI)(e:TypeId)(t:Nat)(tmps:List AV)(L:List ad):List AV×List ad:=
 match tmps.getD t (.s .aQ)with
 |.emp=>bif c.n.beq 0 then(tmps.set t (.vec L.length),L++[.vec c e])else(tmps,L)
 |_=>(tmps,L)
theorem Step.alloc{v:Value}{c:aI}{e:TypeId}{L:List ad}(hb:er v=none):
 Step ρ (fun i=>L[i]?) (aN ρ (fun i=>L[i]?) G) w (fun j=>if j=L.length then v else ρ j) (fun i=>(L++[.vec c e])[i]?) (aN (fun j=>if j=L.length then v else ρ j) (fun i=>(L++[.vec c e])[i]?) G) w:=by
 have a8:∀{id:Nat} {o:ad},L[id]? =some o→id<L.length:=fun h=>(List.getElem?_eq_some_iff.1 h).1;refine⟨fun id o ho=> ?_,fun id o ho=> ?_,fun b um=>.inl ?_,fun _ _ _=>rfl,Nat.le_refl _⟩
 ·have:=a8 ho;rw[if_neg (by omega)]
 ·have h1:=a8 ho;exact⟨o,by show(L++[.vec c e])[id]? =_;rw[List.getElem?_append_left h1];exact ho,fun c' e' hc=>⟨c',e',hc,rfl,rfl⟩⟩
 ·rcases um with⟨id,o,ho,ha,hbl⟩|hg
  ·by_cases du:id=L.length
   ·simp only[du,if_true]at hbl;rw[hb]at hbl;cases hbl
   ·simp only[du,if_false]at hbl
    have dg:L[id]? =some o:=by
     have h2:=(List.getElem?_eq_some_iff.1 ho).1;simp only[List.length_append,List.length_cons,List.length_nil]at h2;have h3:id<L.length:=by omega
     have h4:(L++[.vec c e])[id]? =L[id]? :=List.getElem?_append_left h3;rw[←h4];exact ho
    exact .inl ⟨id,o,dg,ha,hbl⟩
  ·exact .inr hg
theorem bX.oe{c:aI}{e:TypeId}{t:Nat}{tmps:List AV}{L:List ad}(h:bX X ρ ⟨tmps,L⟩ a w):∃aB,bX X aB ⟨(oe c e t tmps L).1,(oe c e t tmps L).2⟩ a w:=by
 unfold Sx.oe;split
 ·rename_i he;rw[Bool.cond_eq_ite];split
  ·rename_i hc;have hc:c.n=0:=Nat.eq_of_beq_eq_true hc;have hd:=h.den t;simp only[]at hd;rw[he]at hd;unfold ab at hd;obtain⟨r,hv⟩:=hd;have lT:er (.slice r 0 0)=none:=by cases r<;>simp[er]
   let aB:Nat→Value:=fun j=>if j=L.length then .slice r 0 0 else ρ j
   have st:Step ρ (fun i=>L[i]?) (aN ρ (fun i=>L[i]?) X.G) w aB (fun i=>(L++[.vec c e])[i]?) (aN aB (fun i=>(L++[.vec c e])[i]?) X.G) w:=Step.alloc lT;have hs:Sat ρ (fun i=>L[i]?) X.G w:=h.sat
   have old:∀{id:Nat} {o:ad},(L++[.vec c e])[id]? =some o→(id=L.length∧o=.vec c e)∨(id≠L.length∧L[id]? =some o):=by
    intro id o ho;have h2:=(List.getElem?_eq_some_iff.1 ho).1;simp only[List.length_append,List.length_cons,List.length_nil]at h2;by_cases du:id=L.length
    ·subst du;simp at ho;exact .inl ⟨rfl,ho.symm⟩
    ·refine .inr ⟨du, ?_⟩;rwa[List.getElem?_append_left (by omega)]at ho
   have dI:∀b,Own aB (fun i=>(L++[.vec c e])[i]?) b→Own ρ (fun i=>L[i]?) b:=by
    rintro b ⟨id,o,ho,ha,hb⟩;rcases old ho with⟨h1,h2⟩|⟨h1,h2⟩
    ·simp only[aB,h1,if_true]at hb;rw[lT]at hb;cases hb
    ·simp only[aB,h1,if_false]at hb;exact⟨id,o,h2,ha,hb⟩
   refine⟨aB,⟨⟨fun id o ho=> ?_,fun i j oi oj b hi hj ai aj bi bj=> ?_,fun b hb=>hs.apart b (dI b hb),hs.low⟩,by simpa using h.size,fun u=> ?_,h.defers, ?_,h.jc,h.kept⟩⟩
   ·rcases old ho with⟨h1,h2⟩|⟨h1,h2⟩
    ·subst h2;simp only[aB,h1,if_true];exact⟨r,0,by rw[hc],by omega,Nat.zero_le _,.inl rfl⟩
    ·simp only[aB,h1,if_false];exact(hs.obj id o h2).step st (fun _ _ _=>rfl)
   ·rcases old hi with⟨h1,h2⟩|⟨h1,h2⟩
    ·simp only[aB,h1,if_true]at bi;rw[lT]at bi;cases bi
    ·rcases old hj with⟨h3,h4⟩|⟨h3,h4⟩
     ·simp only[aB,h3,if_true]at bj;rw[lT]at bj;cases bj
     ·simp only[aB,h1,if_false]at bi;simp only[aB,h3,if_false]at bj;exact hs.inj i j oi oj b h2 h4 ai aj bi bj
   ·simp only[];rw[cz];split
    ·rename_i hu;obtain⟨rfl,_⟩:=hu;rw[hv];unfold ab az;refine⟨rfl,.vec c e,by simp[St.look],fun c' e' _=> ?_⟩;exact(if_pos rfl).symm
    ·exact ab.step st _ _ (h.den u)
   ·exact h.from_.trans st
  ·exact⟨ρ,h⟩
 ·exact⟨ρ,h⟩
def aeF:Nat→AV→List Nat
 |0,_=>[]
 |d+1,a=>match a with
  |.ptr id _|.jQ id _ _ _|.vec id|.gj id _ _|.part id _ _|.ag id|.tag id|.sub id _ _|.ko id _ _ _=>[id]
  |.agg aG|.bo aG|.fn _ aG=>aG.flatMap (aeF d)
  |_=>[]
def aix:Option ad→List Nat
 |some (.own an _)=>an.flatMap (aeF 20)
 |some (.iter mid gid _ _ _)=>[mid,gid]
 |_=>[]
def reach(L:List ad):Nat→List Nat→List Nat→List Nat
 |0,_,acc=>acc
 |_,[],acc=>acc
 |n+1,id::todo,acc=>bif acc.any (id.beq ·)then reach L n todo acc else reach L n (todo++aix L[id]?) (acc++[id])
def apI(m:Nat)(σ:List Nat):Bool:=(List.range m).all fun i=>match σ[i]? with|some j=>i.beq j|none=>false
structure Norm where
 pe:List (Nat×aI×TypeId)
 ez:List Nat
 m:Nat
 cells:List (Nat×Nat×Bool×aI×TypeId)
def fZ:List (Nat×aI×TypeId)→List AV→List ad→List AV×List ad
 |[],tmps,L=>(tmps,L)
 |(t,c,e)::ns,tmps,L=>let p:=oe c e t tmps L;fZ ns p.1 p.2
def qA(id j:Nat)(c:aI)(e:TypeId)(L:List ad):List ad:=
 match L[id]? with
 |some (.own an e0)=>(match an[j]? with
  |some .emp=>bif c.n.beq 0 then L.set id (.own (an.set j (.vec L.length)) e0)++[.vec c e]else L
  |_=>L)
 |_=>L
def uZ(id j:Nat)(c:aI)(L:List ad):List ad:=
 match L[id]? with
 |some (.own an e0)=>(match an[j]? with
  |some .emp=>bif c.n.beq 0 then L.set id (.own (an.set j (.s (.ro c))) e0)else L
  |_=>L)
 |_=>L
def qB(id j:Nat)(L:List ad):List ad:=
 match L[id]? with
 |some (.own an e0)=>(match an[j]? with
  |some (.vec v)=>(match L[v]? with
   |some (.vec c _)=>(L.set v .dead).set id (.own (an.set j (.s (.ro c))) e0)
   |_=>L)
  |_=>L)
 |_=>L
def ga:List (Nat×Nat×Bool×aI×TypeId)→List ad→List ad
 |[],L=>L
 |(id,j,ro,c,e)::ns,L=>ga ns (bif ro then qB id j (uZ id j c L)else qA id j c e L)
def roots(L:List ad)(m:Nat)(tmps:List AV):List Nat:=
 reach L 4000 ((List.range m).flatMap (fun i=>aix L[i]?)++tmps.flatMap (aeF 20)) (List.range m)
def fG(m:Nat)(tmps:List AV)(L:List ad):Option (List AV×List ad):=
 let σ:=roots L m tmps
 bif rM σ&&apI m σ then
  match qx σ L,allM (rn (idx σ) 20) tmps with
  |some L',some sW=>some (sW,L')
  |_,_=>none
 else none
def Norm.run(N:Norm)(c:bA):Option bA:=
 match fG N.m (dW N.ez 0 c.tmps) c.H with
 |some (t1,L1)=>
  let p:=fZ N.pe t1 L1
  (match fG N.m p.1 (ga N.cells p.2)with
  |some (t2,L2)=>some ⟨t2,L2,c.todo,c.stk⟩
  |none=>none)
 |none=>none
theorem u4:∀(an:List AV) (j:Nat) {cells:List Value},an[j]? =some .emp→ao ρ H O w an cells→
 ∃r,∀(aB:Nat→Value) (H':aJ) (O':Nat→Prop) (x:AV),(∀a cs,aK ρ H O w a cs→aK aB H' O' w a cs)→aK aB H' O' w x [.slice r 0 0]→ao aB H' O' w (an.set j x) cells
 |[],j,cells,h,hd=>by simp at h
 |a::aG,0,cells,h,hd=>by
  simp only[List.getElem?_cons_zero,Option.some.injEq]at h;subst h;obtain⟨c1,c2,rfl,h1,h2⟩:=af.1 hd;unfold aK at h1;obtain⟨u,rfl,r,rfl⟩:=h1;refine⟨r,fun aB H' O' x hs hx=> ?_⟩;simp only[List.set_cons_zero];refine af.2 ⟨_,c2,rfl,hx, ?_⟩;clear hd
  induction aG generalizing c2 with
  |nil=>rw[aq.1 h2];exact aq.2 rfl
  |cons b bs ih=>
   obtain⟨d1,d2,rfl,h3,h4⟩:=af.1 h2;exact af.2 ⟨d1,d2,rfl,hs _ _ h3,ih d2 h4⟩
 |a::aG,j+1,cells,h,hd=>by
  obtain⟨c1,c2,rfl,h1,h2⟩:=af.1 hd;obtain⟨r,h3⟩:=u4 aG j (by simpa using h) h2;refine⟨r,fun aB H' O' x hs hx=> ?_⟩;simp only[List.set_cons_succ];exact af.2 ⟨c1,c2,rfl,hs _ _ h1,h3 aB H' O' x hs hx⟩
theorem bX.qA{id j:Nat}{c:aI}{e:TypeId}{tmps:List AV}{L:List ad}(h:bX X ρ ⟨tmps,L⟩ a w):∃aB,bX X aB ⟨tmps,qA id j c e L⟩ a w:=by
 unfold Sx.qA;split
 ·rename_i an e0 du;split
  ·rename_i hj;rw[Bool.cond_eq_ite];split
   ·rename_i hc;have hc:c.n=0:=Nat.eq_of_beq_eq_true hc;have hs:Sat ρ (fun i=>L[i]?) X.G w:=h.sat;obtain⟨b,cells,fr,h0,h1,h2,h3⟩:=hs.obj id _ du;obtain⟨r,m5⟩:=u4 an j hj h3;have lT:er (.slice r 0 0)=none:=by cases r<;>simp[er]
    have a8:id<L.length:=(List.getElem?_eq_some_iff.1 du).1;let aB:Nat→Value:=fun k=>if k=L.length then .slice r 0 0 else ρ k
    let L':=L.set id (.own (an.set j (.vec L.length)) e0)++[.vec c e]
    have old:∀{k:Nat} {o:ad},L'[k]? =some o→(k=L.length∧o=.vec c e)∨(k=id∧k≠L.length∧o=.own (an.set j (.vec L.length)) e0)∨(k≠L.length∧k≠id∧L[k]? =some o):=by
     intro k o ho;have h2:=(List.getElem?_eq_some_iff.1 ho).1;simp only[L',List.length_append,List.length_set,List.length_cons,List.length_nil]at h2;by_cases hk:k=L.length
     ·subst hk;simp only[L']at ho;rw[List.getElem?_append_right (by simp)]at ho;simp at ho;exact .inl ⟨rfl,ho.symm⟩
     ·simp only[L']at ho;rw[List.getElem?_append_left (by simp;omega),List.getElem?_set]at ho;split at ho
      ·rename_i zx;exact .inr (.inl ⟨zx.symm,hk,by simpa using ho.symm⟩)
      ·rename_i zx;exact .inr (.inr ⟨hk,Ne.symm zx,ho⟩)
    have new:∀{k:Nat} {o:ad},L[k]? =some o→∃o',L'[k]? =some o'∧(∀c' e',o'=.vec c' e'→o=.vec c' e'):=by
     intro k o ho;have hk:k<L.length:=(List.getElem?_eq_some_iff.1 ho).1;by_cases zx:k=id
     ·subst zx;refine⟨.own (an.set j (.vec L.length)) e0, ?_,fun c' e' hc=>by cases hc⟩;simp only[L'];rw[List.getElem?_append_left (by simpa using hk),List.getElem?_set_self hk]
     ·refine⟨o, ?_,fun c' e' hc=>hc⟩;simp only[L'];rw[List.getElem?_append_left (by simpa using hk),List.getElem?_set_ne (Ne.symm zx)];exact ho
    have dI:∀b,Own aB (fun i=>L'[i]?) b→Own ρ (fun i=>L[i]?) b:=by
     rintro b ⟨k,o,ho,ha,hb⟩;rcases old ho with⟨h1,h2⟩|⟨h1,h2,h3⟩|⟨h1,h2,h3⟩
     ·simp only[aB,h1,if_true]at hb;rw[lT]at hb;cases hb
     ·simp only[aB,h2,if_false]at hb;exact⟨id,_,du,rfl,h1▸hb⟩
     ·simp only[aB,h1,if_false]at hb;exact⟨k,o,h3,ha,hb⟩
    have st:Step ρ (fun i=>L[i]?) (aN ρ (fun i=>L[i]?) X.G) w aB (fun i=>L'[i]?) (aN aB (fun i=>L'[i]?) X.G) w:=by
     refine⟨fun k o ho=> ?_,fun k o ho=> ?_,fun b hb=>.inl ?_,fun _ _ _=>rfl,Nat.le_refl _⟩
     ·have hk:k<L.length:=(List.getElem?_eq_some_iff.1 ho).1;simp only[aB];rw[if_neg (by omega)]
     ·obtain⟨o',h4,h5⟩:=new ho;exact⟨o',h4,fun c' e' hc=>⟨c',e',h5 c' e' hc,rfl,rfl⟩⟩
     ·rcases hb with hb|hb
      ·exact .inl (dI b hb)
      ·exact .inr hb
    have pH:az aB (fun i=>L'[i]?) (aN aB (fun i=>L'[i]?) X.G) w (.vec L.length) (.slice r 0 0):=by
     unfold az;refine⟨rfl,.vec c e, ?_,fun c' e' _=>(if_pos rfl).symm⟩;simp only[L'];rw[List.getElem?_append_right (by simp)];simp
    refine⟨aB,⟨⟨fun k o ho=> ?_,fun i l oi ol b hi hl ai al bi bl=> ?_,fun b hb=>hs.apart b (dI b hb),hs.low⟩,h.size,fun u=>ab.step st _ _ (h.den u),h.defers,h.from_.trans st,h.jc,h.kept⟩⟩
    ·rcases old ho with⟨g1,g2⟩|⟨g1,g2,g3⟩|⟨g1,g2,g3⟩
     ·subst g2;simp only[aB,g1,if_true];exact⟨r,0,by rw[hc],by omega,Nat.zero_le _,.inl rfl⟩
     ·subst g3;simp only[aB,g2,if_false];rw[g1,h0];exact⟨b,cells,fr,rfl,h1,h2,m5 aB _ _ _ (fun a cs hd=>aK.step st a cs hd) (by unfold aK;exact⟨_,rfl,pH⟩)⟩
     ·simp only[aB,g1,if_false];exact(hs.obj k o g3).step st (fun _ _ _=>rfl)
    ·have low:∀{k:Nat} {o:ad},L'[k]? =some o→o.alive=true→er (aB k)=some b→∃o2,L[k]? =some o2∧o2.alive=true∧er (ρ k)=some b:=by
      intro k o ho ha hb;rcases old ho with⟨g1,g2⟩|⟨g1,g2,g3⟩|⟨g1,g2,g3⟩
      ·simp only[aB,g1,if_true]at hb;rw[lT]at hb;cases hb
      ·simp only[aB,g2,if_false]at hb;exact⟨_,g1▸du,rfl,hb⟩
      ·simp only[aB,g1,if_false]at hb;exact⟨o,g3,ha,hb⟩
     obtain⟨o1,q1,q2,q3⟩:=low hi ai bi;obtain⟨o2,q4,q5,q6⟩:=low hl al bl;exact hs.inj i l o1 o2 b q1 q4 q2 q5 q3 q6
   ·exact⟨ρ,h⟩
  ·exact⟨ρ,h⟩
 ·exact⟨ρ,h⟩
theorem tD{c:aI}(hc:c.n=0)(r:Option Addr):aR O w (.ro c) (.slice r 0 0):=by
 have:=aR.ro (O:=O) (w:=w) c r 0 (fun _ _=>undef) 0 0 (by omega) (Nat.zero_le _) (fun h=>by omega) (fun i j hi hj=>by omega) (fun i j hi hj=>by omega);rwa[hc]at this
theorem bX.uZ{id j:Nat}{c:aI}{tmps:List AV}{L:List ad}(h:bX X ρ ⟨tmps,L⟩ a w):bX X ρ ⟨tmps,uZ id j c L⟩ a w:=by
 unfold Sx.uZ;split
 ·rename_i an e0 du;split
  ·rename_i hj;rw[Bool.cond_eq_ite];split
   ·rename_i hc;have hc:c.n=0:=Nat.eq_of_beq_eq_true hc;have hs:Sat ρ (fun i=>L[i]?) X.G w:=h.sat;obtain⟨b,cells,fr,h0,h1,h2,h3⟩:=hs.obj id _ du;obtain⟨r,m5⟩:=u4 an j hj h3;have a8:id<L.length:=(List.getElem?_eq_some_iff.1 du).1;let L':=L.set id (.own (an.set j (.s (.ro c))) e0)
    have old:∀{k:Nat} {o:ad},L'[k]? =some o→(k=id∧o=.own (an.set j (.s (.ro c))) e0)∨(k≠id∧L[k]? =some o):=by
     intro k o ho;simp only[L']at ho;rw[List.getElem?_set]at ho;split at ho
     ·rename_i zx;exact .inl ⟨zx.symm,by simpa using ho.symm⟩
     ·rename_i zx;exact .inr ⟨Ne.symm zx,ho⟩
    have dI:∀b,Own ρ (fun i=>L'[i]?) b→Own ρ (fun i=>L[i]?) b:=by
     rintro b ⟨k,o,ho,ha,hb⟩;rcases old ho with⟨h1,h2⟩|⟨h1,h2⟩
     ·exact⟨id,_,du,rfl,h1▸hb⟩
     ·exact⟨k,o,h2,ha,hb⟩
    have st:Step ρ (fun i=>L[i]?) (aN ρ (fun i=>L[i]?) X.G) w ρ (fun i=>L'[i]?) (aN ρ (fun i=>L'[i]?) X.G) w:=by
     refine⟨fun _ _ _=>rfl,fun k o ho=> ?_,fun b hb=>.inl ?_,fun _ _ _=>rfl,Nat.le_refl _⟩
     ·by_cases hk:k=id
      ·subst hk;refine⟨.own (an.set j (.s (.ro c))) e0, ?_,fun c' e' hc=> ?_⟩
       ·show(L.set k _)[k]? =_;rw[List.getElem?_set_self a8]
       ·cases hc
      ·refine⟨o, ?_,fun c' e' hc=>⟨c',e',hc,rfl,rfl⟩⟩;show(L.set id _)[k]? =_;rw[List.getElem?_set_ne (Ne.symm hk)];exact ho
     ·rcases hb with hb|hb
      ·exact .inl (dI b hb)
      ·exact .inr hb
    refine⟨⟨fun k o ho=> ?_,fun i l oi ol b hi hl ai al bi bl=> ?_,fun b hb=>hs.apart b (dI b hb),hs.low⟩,h.size,fun u=>ab.step st _ _ (h.den u),h.defers,h.from_.trans st,h.jc,h.kept⟩
    ·rcases old ho with⟨g1,g2⟩|⟨g1,g2⟩
     ·subst g2;rw[g1,h0];exact⟨b,cells,fr,rfl,h1,h2,m5 ρ _ _ _ (fun a cs hd=>aK.step st a cs hd) (by unfold aK;exact⟨_,rfl,tD hc r⟩)⟩
     ·exact(hs.obj k o g2).step st (fun _ _ _=>rfl)
    ·have low:∀{k:Nat} {o:ad},L'[k]? =some o→o.alive=true→∃o2,L[k]? =some o2∧o2.alive=true:=by
      intro k o ho ha;rcases old ho with⟨g1,g2⟩|⟨g1,g2⟩
      ·exact⟨_,g1▸du,rfl⟩
      ·exact⟨o,g2,ha⟩
     obtain⟨o1,q1,q2⟩:=low hi ai;obtain⟨o2,q4,q5⟩:=low hl al;exact hs.inj i l o1 o2 b q1 q4 q2 q5 bi bl
   ·exact h
  ·exact h
 ·exact h
theorem aa9:∀(an:List AV) (j:Nat) {cells:List Value} {a:AV},an[j]? =some a→ao ρ H O w an cells→
 ∃cs,aK ρ H O w a cs∧∀(aB:Nat→Value) (H':aJ) (O':Nat→Prop) (x:AV),(∀a cs,aK ρ H O w a cs→aK aB H' O' w a cs)→aK aB H' O' w x cs→ao aB H' O' w (an.set j x) cells
 |[],j,cells,a,h,hd=>by simp at h
 |b::aG,0,cells,a,h,hd=>by
  simp only[List.getElem?_cons_zero,Option.some.injEq]at h;subst h;obtain⟨c1,c2,rfl,h1,h2⟩:=af.1 hd;refine⟨c1,h1,fun aB H' O' x hs hx=> ?_⟩;simp only[List.set_cons_zero];refine af.2 ⟨_,c2,rfl,hx, ?_⟩;clear hd
  induction aG generalizing c2 with
  |nil=>rw[aq.1 h2];exact aq.2 rfl
  |cons b bs ih=>
   obtain⟨d1,d2,rfl,h3,h4⟩:=af.1 h2;exact af.2 ⟨d1,d2,rfl,hs _ _ h3,ih d2 h4⟩
 |b::aG,j+1,cells,a,h,hd=>by
  obtain⟨c1,c2,rfl,h1,h2⟩:=af.1 hd;obtain⟨cs,h3,h4⟩:=aa9 aG j (by simpa using h) h2;refine⟨cs,h3,fun aB H' O' x hs hx=> ?_⟩;simp only[List.set_cons_succ];exact af.2 ⟨c1,c2,rfl,hs _ _ h1,h4 aB H' O' x hs hx⟩
theorem agM(hs:Sat ρ H G w){id:Nat}{c:aI}{e:TypeId}(ho:H id=some (.vec c e)):aR (aN ρ (aD H id .dead) G) w (.ro c) (ρ id):=by
 have dV:=hs.obj id _ ho;obtain⟨a,cap,hr,h2,h3,h4⟩:=dV;have aie:∀b,aN ρ (aD H id .dead) G b→aN ρ H G b:=fun b hb=>hb.imp fp (fun x=>x);rw[hr];by_cases hc:cap=0
 ·have h0:c.n=0:=by omega
  have:=aR.ro (O:=aN ρ (aD H id .dead) G) (w:=w) c a cap (fun _ _=>undef) 0 0 h2 h3 (fun h=>by omega) (fun i j hi hj=>by omega) (fun i j hi hj=>by omega);exact this
 ·obtain⟨b,o,cells,fr,us,rfl,g1,g2,g3,g4⟩:=h4.resolve_left hc;have lT:er (ρ id)=some b:=by rw[hr];simp only[er];rw[if_neg hc]
  refine aR.ro c _ cap us b o h2 h3 (fun _=>⟨rfl,fun hb=> ?_,(Array.getElem?_eq_some_iff.1 g1).1⟩) (fun i j hi hj=> ?_) (fun i j hi hj=> ?_)
  ·rcases hb with⟨j,x,hx,ha,hb⟩|hb
   ·by_cases hj:j=id
    ·subst hj;simp only[aD,if_true,Option.some.injEq]at hx;subst hx;cases ha
    ·simp only[aD,hj,if_false]at hx;exact hj (hs.inj j id x _ b hx ho ha rfl hb lT)
   ·exact hs.apart b ⟨id,_,ho,rfl,lT⟩ hb
  ·rw[c8 g1];exact(g4 i j hi hj).1
  ·exact(g4 i j hi hj).2.less aie
theorem aeG{L:List ad}{v:Nat}{o x:ad}(h:L[v]? =some o):(fun i=>(L.set v x)[i]?)=aD (fun i=>L[i]?) v x:=by
 funext i;simp only[aD,List.getElem?_set];by_cases hi:v=i
 ·subst hi;rw[if_pos rfl,if_pos rfl,if_pos (List.getElem?_eq_some_iff.1 h).1]
 ·rw[if_neg hi,if_neg (Ne.symm hi)]
theorem bX.qB{id j:Nat}{tmps:List AV}{L:List ad}(h:bX X ρ ⟨tmps,L⟩ a w):bX X ρ ⟨tmps,qB id j L⟩ a w:=by
 unfold Sx.qB;split
 ·rename_i an e0 du;split
  ·rename_i v hj;split
   ·rename_i c e hv;have cv:v≠id:=fun e1=>by rw[e1,du]at hv;cases hv
    have hs:Sat ρ (fun i=>L[i]?) X.G w:=h.sat;obtain⟨b,cells,fr,h0,h1,h2,h3⟩:=hs.obj id _ du;obtain⟨cs,hc,m5⟩:=aa9 an j hj h3
    have pA:cs=[ρ v]:=by
     unfold aK at hc;obtain⟨u,rfl,hd⟩:=hc;unfold az at hd;obtain⟨_,o,ho,hu⟩:=hd;rw[show o=.vec c e from by simpa[hv]using ho.symm]at hu;rw[hu _ _ rfl]
    have au5:(L.set v .dead)[id]? =some (.own an e0):=by rw[List.getElem?_set_ne cv];exact du
    have hro:=agM hs hv;have s1:=hs.kill hv;have st1:=fD (ρ:=ρ) (G:=X.G) (w:=w) (H:=fun i=>L[i]?) hv;show bX X ρ ⟨tmps,(L.set v .dead).set id (.own (an.set j (.s (.ro c))) e0)⟩ a w
    have e1:(St.look ⟨tmps,(L.set v .dead).set id (.own (an.set j (.s (.ro c))) e0)⟩)=aD (aD (fun i=>L[i]?) v .dead) id (.own (an.set j (.s (.ro c))) e0):=by
     show(fun i=>((L.set v .dead).set id _)[i]?)=_;rw[aeG au5,aeG hv]
    generalize hH1:aD (fun i=>L[i]?) v .dead=H1 at *;have anR:H1 id=some (.own an e0):=by rw[←hH1];simp only[aD];rw[if_neg (Ne.symm cv)];exact du
    have dI:∀b,Own ρ (aD H1 id (.own (an.set j (.s (.ro c))) e0)) b→Own ρ H1 b:=by
     rintro b ⟨k,o,ho,ha,hb⟩;simp only[aD]at ho;split at ho
     ·rename_i hk;exact⟨id,_,anR,rfl,hk▸hb⟩
     ·exact⟨k,o,ho,ha,hb⟩
    have st2:Step ρ H1 (aN ρ H1 X.G) w ρ (aD H1 id (.own (an.set j (.s (.ro c))) e0)) (aN ρ (aD H1 id (.own (an.set j (.s (.ro c))) e0)) X.G) w:=by
     refine⟨fun _ _ _=>rfl,fun k o ho=> ?_,fun b hb=>.inl (hb.imp (dI b) (fun x=>x)),fun _ _ _=>rfl,Nat.le_refl _⟩;by_cases hk:k=id
     ·exact⟨.own (an.set j (.s (.ro c))) e0,by simp[aD,hk],fun c' e' hc=>by cases hc⟩
     ·exact⟨o,by simp only[aD];rw[if_neg hk];exact ho,fun c' e' hc=>⟨c',e',hc,rfl,rfl⟩⟩
    have st:=st1.trans st2;refine⟨?_,h.size,fun u=> ?_,h.defers, ?_,h.jc,h.kept⟩
    ·rw[e1];refine⟨fun k o ho=> ?_,fun i l oi ol b hi hl ai al bi bl=> ?_,fun b hb=>s1.apart b (dI b hb),hs.low⟩
     ·replace ho:aD H1 id (.own (an.set j (.s (.ro c))) e0) k=some o:=ho
      unfold aD at ho;split at ho
      ·rename_i hk;cases ho;rw[hk,h0];refine⟨b,cells,fr,rfl,h1,h2,m5 ρ _ _ _ (fun a cs hd=>aK.step st a cs hd) ?_⟩;rw[pA];unfold aK;exact⟨_,rfl,hro.less (fun b hb=>hb.imp (dI b) (fun x=>x))⟩
      ·exact(s1.obj k o ho).step st2 (fun _ _ _=>rfl)
     ·have low:∀{k:Nat} {o:ad},aD H1 id (.own (an.set j (.s (.ro c))) e0) k=some o→o.alive=true→∃o2,H1 k=some o2∧o2.alive=true:=by
       intro k o ho ha;simp only[aD]at ho;split at ho
       ·rename_i hk;exact⟨_,hk▸anR,rfl⟩
       ·exact⟨o,ho,ha⟩
      obtain⟨o1,q1,q2⟩:=low hi ai;obtain⟨o2,q4,q5⟩:=low hl al;exact s1.inj i l o1 o2 b q1 q4 q2 q5 bi bl
    ·rw[e1];exact ab.step st _ _ (h.den u)
    ·rw[e1];exact h.from_.trans st
   ·exact h
  ·exact h
 ·exact h
theorem bX.ga:∀(ns:List (Nat×Nat×Bool×aI×TypeId)) {ρ:Nat→Value} {tmps:List AV} {L:List ad},bX X ρ ⟨tmps,L⟩ a w→∃aB,bX X aB ⟨tmps,ga ns L⟩ a w
 |[],ρ,tmps,L,h=>⟨ρ,h⟩
 |(id,j,ro,c,e)::ns,ρ,tmps,L,h=>by
  cases ro
  ·obtain⟨aB,h'⟩:=h.qA (c:=c) (e:=e) (id:=id) (j:=j);exact bX.ga ns h'
  ·exact bX.ga ns ((h.uZ (c:=c) (id:=id) (j:=j)).qB (id:=id) (j:=j))
theorem bX.fZ:∀(ns:List (Nat×aI×TypeId)) {ρ:Nat→Value} {tmps:List AV} {L:List ad},bX X ρ ⟨tmps,L⟩ a w→∃aB,bX X aB ⟨(fZ ns tmps L).1,(fZ ns tmps L).2⟩ a w
 |[],ρ,tmps,L,h=>⟨ρ,h⟩
 |(t,c,e)::ns,ρ,tmps,L,h=>by
  obtain⟨aB,h'⟩:=h.oe (c:=c) (e:=e) (t:=t);exact bX.fZ ns h'
theorem agN{m:Nat}{σ:List Nat}(h:apI m σ=true):∀i,i<m→σ[i]? =some i:=by
 intro i hi;simp only[apI,List.all_eq_true,List.mem_range]at h;have:=h i hi;split at this
 ·rename_i j hj;rw[hj,Nat.eq_of_beq_eq_true this]
 ·cases this
theorem bX.fG{m:Nat}{tmps t1:List AV}{L L1:List ad}(h0:∀id,m≤id→X.H id=none)(h:fG m tmps L=some (t1,L1))(hr:bX X ρ ⟨tmps,L⟩ a w):∃aB,bX X aB ⟨t1,L1⟩ a w:=by
 unfold Sx.fG at h;simp only[Bool.cond_eq_ite]at h;split at h
 ·rename_i hb;simp only[Bool.and_eq_true]at hb;split at h
  ·rename_i L' sW hL ht;simp only[Option.some.injEq,Prod.mk.injEq]at h;obtain⟨rfl,rfl⟩:=h;exact⟨_,hr.view (kC hb.1) hL (agN hb.2) h0 ht⟩
  ·cases h
 ·cases h
theorem Norm.safe{N:Norm}{f:FuncId}{c c':bA}(h0:∀id,N.m≤id→X.H id=none)(h:N.run c=some c')(hs:Safe P f X K c'):Safe P f X K c:=by
 intro G E ρ a w ik iM hr b a' fs hw;unfold Norm.run at h;split at h
 ·rename_i t1 L1 h1;simp only[]at h;split at h
  ·rename_i t2 L2 h2;simp only[Option.some.injEq]at h;subst h;obtain⟨lF,r1⟩:=bX.fG (X:=X.at G E) h0 h1 (bX.dW N.ez hr);obtain⟨gl,r2⟩:=bX.fZ N.pe r1;obtain⟨ρ3,r3⟩:=bX.ga N.cells r2;obtain⟨ρ4,r4⟩:=bX.fG (X:=X.at G E) h0 h2 r3;exact hs G E _ a w ik iM r4 b a' fs hw
  ·cases h
 ·cases h
end
end Go.Sx
namespace Go.Sx
open Go
inductive RK where
 |ints (k:IntKind)
 |strs
 |bR
 |ae (cs:List CK)
abbrev RK.E:RK→Type
 |.ints _=>Int
 |.strs=>ByteArray
 |.bR=>Bool
 |.ae cs=>CL cs
abbrev RK.V(r:RK):Type:=List r.E
def RK.wJ:(r:RK)→r.V→aI
 |.ints k,x=>.ints k x
 |.strs,x=>.strs x
 |.bR,x=>.bR x
 |.ae cs,x=>.ae cs x
def ads(k:IntKind):aI→Option (List Int)
 |.ints k' zs=>bif bG k' k then some zs else none
 |.ei _ 0 _=>some []
 |_=>none
def adt:aI→Option (List ByteArray)
 |.strs x=>some x
 |.ei _ 0 _=>some []
 |_=>none
def zC:aI→Option (List Bool)
 |.bR x=>some x
 |.ei _ 0 _=>some []
 |_=>none
def aiy(cs:List CK):aI→Option (List (CL cs))
 |.ae kU x=>(CL.eq kU cs).map fun h=>aav h x
 |.ei _ 0 _=>some []
 |_=>none
def RK.rd:(r:RK)→aI→Option r.V
 |.ints k,c=>ads k c
 |.strs,c=>adt c
 |.bR,c=>zC c
 |.ae cs,c=>aiy cs c
def CK.flat:CK→Bool
 |.int _|.bool|.str|.arr _ _=>true
 |_=>false
def RK.flat:RK→Bool
 |.ae cs=>cs.all CK.flat
 |_=>true
inductive B where
 |int (k:IntKind)
 |bool
 |str
 |row (r:RK) (e:TypeId)
 |arr (k:IntKind) (n:Nat)
 |fn
 |nA (r:RK) (e:TypeId)
abbrev B.V:B→Type
 |.int _=>Int
 |.bool=>Bool
 |.str=>ByteArray
 |.row r _=>r.V
 |.arr _ _=>List Int
 |.fn=>FuncId
 |.nA r _=>r.V
def B.av:(b:B)→b.V→AV
 |.int k,n=>.s (.int k n)
 |.bool,x=>.s (.bool x)
 |.str,x=>.s (.str x)
 |.row r _,x=>.s (.ro (r.wJ x))
 |.arr k n,x=>.ints k n x
 |.fn,f=>.s (.kV f)
 |.nA r _,x=>.s (.ro (r.wJ x))
def u5(k:IntKind):List AV→Option (List Int)
 |[]=>some []
 |.s (.int k' n)::aG=>bif bG k' k then(u5 k aG).map (n:: ·)else none
 |_=>none
def aiz(k:IntKind):AV→Option Int
 |.s (.int k' n)=>bif bG k' k then some n else none
 |_=>none
def adu:AV→Option Bool
 |.s (.bool x)=>some x
 |_=>none
def aiA:AV→Option ByteArray
 |.s (.str x)=>some x
 |_=>none
def xO(r:RK):AV→Option r.V
 |.emp=>some []
 |.s (.ro c)=>r.rd c
 |_=>none
def aba(k:IntKind)(n:Nat):AV→Option (List Int)
 |.ints k' n' ws=>bif bG k' k&&n'.beq n then some ws else none
 |.agg an=>bif an.length.beq n then u5 k an else none
 |_=>none
def apJ:AV→Option FuncId
 |.s (.kV f)=>some f
 |_=>none
def B.rd:(b:B)→AV→Option b.V
 |.int k,a=>aiz k a
 |.bool,a=>adu a
 |.str,a=>aiA a
 |.row r _,a=>xO r a
 |.arr k n,a=>aba k n a
 |.fn,a=>apJ a
 |.nA r _,a=>xO r a
def B.ok:(b:B)→b.V→Prop
 |.row _ _,x=>x.length≤maxLen
 |.nA _ _,x=>x.length≤maxLen
 |.arr _ n,x=>List.length (α:=Int) x=n
 |_,_=>True
inductive Ty where
 |b (x:B)
 |st (bs:List B)
abbrev BL:List B→Type
 |[]=>Unit
 |b::bs=>b.V×BL bs
abbrev Ty.V:Ty→Type
 |.b x=>x.V
 |.st bs=>BL bs
abbrev AL:List Ty→Type
 |[]=>Unit
 |t::ts=>t.V×AL ts
def BL.av:(bs:List B)→BL bs→List AV
 |[],_=>[]
 |b::bs,(x,y)=>b.av x::BL.av bs y
def BL.rd:(bs:List B)→List AV→Option (BL bs)
 |[],[]=>some ()
 |b::bs,a::aG=>match b.rd a,BL.rd bs aG with
  |some x,some y=>some (x,y)
  |_,_=>none
 |_,_=>none
def BL.ok:(bs:List B)→BL bs→Prop
 |[],_=>True
 |b::bs,(x,y)=>b.ok x∧BL.ok bs y
def Ty.av:(t:Ty)→t.V→AV
 |.b x,v=>x.av v
 |.st bs,v=>.agg (BL.av bs v)
def apK(bs:List B):AV→Option (BL bs)
 |.agg an=>BL.rd bs an
 |_=>none
def Ty.rd:(t:Ty)→AV→Option t.V
 |.b x,a=>x.rd a
 |.st bs,a=>apK bs a
def Ty.ok:(t:Ty)→t.V→Prop
 |.b x,v=>x.ok v
 |.st bs,v=>BL.ok bs v
def AL.av:(ts:List Ty)→AL ts→List AV
 |[],_=>[]
 |t::ts,(x,y)=>t.av x::AL.av ts y
def AL.rd:(ts:List Ty)→List AV→Option (AL ts)
 |[],[]=>some ()
 |t::ts,a::aG=>match t.rd a,AL.rd ts aG with
  |some x,some y=>some (x,y)
  |_,_=>none
 |_,_=>none
def AL.ok:(ts:List Ty)→AL ts→Prop
 |[],_=>True
 |t::ts,(x,y)=>t.ok x∧AL.ok ts y
section
variable{g:Nat→Option Nat}{ρ aB:Nat→Value}{H H':aJ}{G O O':Nat→Prop}{w w':World}{P:Program}{S:fb}{Z:aX}{X:Ctx}{s:St}{a:Act}{K:List ad→AV→Prop}{C:bA→Prop}
theorem RK.nB{r:RK}{c:aI}{x:r.V}(h:r.rd c=some x){v:Value}(hd:aR O w (.ro c) v):aR O w (.ro (r.wJ x)) v:=by
 cases r
 case ints k=>
  change ads k c=some x at h;unfold ads at h;split at h
  ·rw[Bool.cond_eq_ite]at h;split at h
   ·rename_i hk;obtain rfl:=aZ hk;simp only[Option.some.injEq]at h;subst h;exact hd
   ·cases h
  ·cases h;exact fm (by rfl) (by rfl) hd
  ·cases h
 case ae cs=>
  change aiy cs c=some x at h;unfold aiy at h;split at h
  ·obtain⟨⟨e⟩,_,h2⟩:=Option.map_eq_some_iff.1 h;subst e;rw[xo]at h2;subst h2;exact hd
  ·cases h;exact fm (by rfl) (by rfl) hd
  ·cases h
 case strs=>change adt c=some x at h;unfold adt at h;split at h<;>cases h;exact hd;exact fm (by rfl) (by rfl) hd
 case bR=>change zC c=some x at h;unfold zC at h;split at h<;>cases h;exact hd;exact fm (by rfl) (by rfl) hd
theorem aeH{r:RK}{v:Value}(h:∃a,v=.slice a 0 0):aR O w (.ro (r.wJ [])) v:=by
 obtain⟨a,rfl⟩:=h;have hn:(r.wJ []).n=0:=by cases r<;>rfl
 have:=aR.ro (O:=O) (w:=w) (r.wJ []) a 0 (fun _ _=>undef) 0 0 (by omega) (Nat.zero_le _) (fun h=>by omega) (fun i j hi hj=>by omega) (fun i j hi hj=>by omega);rwa[hn]at this
theorem xP{k:IntKind}:∀{aG:List AV} {zs:List Int} {cs:List Value},u5 k aG=some zs→ao ρ H O w aG cs→zs.length=aG.length∧cs=zs.map (Value.int k)
 |[],zs,cs,h,hd=>by simp only[u5,Option.some.injEq]at h;subst h;exact⟨rfl,aq.1 hd⟩
 |a::aG,zs,cs,h,hd=>by
  unfold u5 at h;split at h
  ·rename_i heq;cases heq
  ·rename_i k' n dk heq;simp only[List.cons.injEq]at heq;obtain⟨rfl,rfl⟩:=heq;rw[Bool.cond_eq_ite]at h;split at h
   ·rename_i hk;obtain rfl:=aZ hk;simp only[Option.map_eq_some_iff]at h;obtain⟨zs',h1,rfl⟩:=h;obtain⟨c1,c2,rfl,h2,h3⟩:=af.1 hd;obtain⟨h4,rfl⟩:=xP h1 h3;unfold aK at h2;obtain⟨u,rfl,h5⟩:=h2;cases h5;exact⟨by simp[h4],rfl⟩
   ·cases h
  ·cases h
theorem abb{k:IntKind}{a:AV}{n:Int}(h:aiz k a=some n):a=.s (.int k n):=by
 unfold aiz at h;split at h
 ·rw[Bool.cond_eq_ite]at h;split at h
  ·rename_i hk;obtain rfl:=aZ hk;cases h;rfl
  ·cases h
 ·cases h
theorem xQ{a:AV}{x:Bool}(h:adu a=some x):a=.s (.bool x):=by
 unfold adu at h;split at h<;>cases h;rfl
theorem abc{a:AV}{x:ByteArray}(h:aiA a=some x):a=.s (.str x):=by
 unfold aiA at h;split at h<;>cases h;rfl
theorem aeI{a:AV}{x:FuncId}(h:apJ a=some x):a=.s (.kV x):=by
 unfold apJ at h;split at h<;>cases h;rfl
theorem aeJ{r:RK}{a:AV}{x:r.V}{v:Value}(h:xO r a=some x)(hd:ab ρ H O w a v):ab aB H' O w (.s (.ro (r.wJ x))) v:=by
 unfold xO at h;split at h
 ·cases h;unfold ab at hd;exact aw (aeH hd)
 ·exact aw (RK.nB h (ak (by simp) hd))
 ·cases h
theorem aeK{r:RK}{a:AV}{x:r.V}{cs:List Value}(h:xO r a=some x)(hd:aK ρ H O w a cs):aK aB H' O w (.s (.ro (r.wJ x))) cs:=by
 unfold xO at h;split at h
 ·cases h;unfold aK at *;obtain⟨u,rfl,h1⟩:=hd;exact⟨u,rfl,aeH h1⟩
 ·unfold aK at *;obtain⟨u,rfl,h1⟩:=hd;exact⟨u,rfl,RK.nB h h1⟩
 ·cases h
theorem B.rdV{b:B}{a:AV}{x:b.V}{v:Value}(h:b.rd a=some x)(hd:ab ρ H O w a v):ab aB H' O w (b.av x) v:=by
 cases b with
 |int k=>rw[abb h]at hd;exact aw (ak (by simp) hd)
 |bool=>rw[xQ h]at hd;exact aw (ak (by simp) hd)
 |str=>rw[abc h]at hd;exact aw (ak (by simp) hd)
 |fn=>rw[aeI h]at hd;exact aw (ak (by simp) hd)
 |row r e=>exact aeJ h hd
 |nA r e=>exact aeJ h hd
 |arr k n=>
  change aba k n a=some x at h;unfold aba at h;split at h
  ·rw[Bool.cond_eq_ite]at h;split at h
   ·rename_i hk;simp only[Bool.and_eq_true]at hk;obtain rfl:=aZ hk.1;obtain rfl:=Nat.eq_of_beq_eq_true hk.2;cases h;unfold ab at *;exact hd
   ·cases h
  ·rw[Bool.cond_eq_ite]at h;split at h
   ·rename_i an hk;unfold ab at hd;obtain⟨cs,rfl,h2⟩:=hd;obtain⟨h3,rfl⟩:=xP h h2;show ab aB H' O w (.ints k n x) _;unfold ab;exact⟨by rw[h3];exact Nat.eq_of_beq_eq_true hk,rfl⟩
   ·cases h
  ·cases h
theorem B.rdC{b:B}{a:AV}{x:b.V}{cs:List Value}(h:b.rd a=some x)(hd:aK ρ H O w a cs):aK aB H' O w (b.av x) cs:=by
 cases b with
 |int k=>rw[abb h]at hd;unfold aK at hd;show aK _ _ _ _ (.s (.int k x)) _;unfold aK;exact hd
 |bool=>rw[xQ h]at hd;unfold aK at hd;show aK _ _ _ _ (.s (.bool x)) _;unfold aK;exact hd
 |str=>rw[abc h]at hd;unfold aK at hd;show aK _ _ _ _ (.s (.str x)) _;unfold aK;exact hd
 |fn=>rw[aeI h]at hd;unfold aK at hd;show aK _ _ _ _ (.s (.kV x)) _;unfold aK;exact hd
 |row r e=>exact aeK h hd
 |nA r e=>exact aeK h hd
 |arr k n=>
  change aba k n a=some x at h;unfold aba at h;split at h
  ·rw[Bool.cond_eq_ite]at h;split at h
   ·rename_i hk;simp only[Bool.and_eq_true]at hk;obtain rfl:=aZ hk.1;obtain rfl:=Nat.eq_of_beq_eq_true hk.2;cases h;show aK _ _ _ _ (.ints _ _ _) _;unfold aK at *;exact hd
   ·cases h
  ·unfold aK at hd;exact hd.elim
  ·cases h
theorem BL.nB:∀{bs:List B} {an:List AV} {x:BL bs} {cs:List Value},BL.rd bs an=some x→ao ρ H O w an cs→ao aB H' O w (BL.av bs x) cs
 |[],[],x,cs,h,hd=>by rw[aq.1 hd];exact aq.2 rfl
 |[],a::aG,x,cs,h,hd=>by simp[BL.rd]at h
 |b::bs,[],x,cs,h,hd=>by simp[BL.rd]at h
 |b::bs,a::aG,x,cs,h,hd=>by
  unfold BL.rd at h;split at h
  ·rename_i y z h1 h2;cases h;obtain⟨c1,c2,rfl,h3,h4⟩:=af.1 hd;exact af.2 ⟨c1,c2,rfl,B.rdC h1 h3,BL.nB h2 h4⟩
  ·cases h
theorem Ty.nB{t:Ty}{a:AV}{x:t.V}{v:Value}(h:t.rd a=some x)(hd:ab ρ H O w a v):ab aB H' O w (t.av x) v:=by
 cases t with
 |b y=>exact B.rdV h hd
 |st bs=>
  change apK bs a=some x at h;unfold apK at h;split at h
  ·show ab _ _ _ _ (.agg _) _;unfold ab at *;obtain⟨cs,h1,h2⟩:=hd;exact⟨cs,h1,BL.nB h h2⟩
  ·cases h
theorem AL.nB:∀{ts:List Ty} {aG:List AV} {x:AL ts} {vs:List Value},AL.rd ts aG=some x→bE ρ H O w aG vs→bE aB H' O w (AL.av ts x) vs
 |[],[],x,vs,h,hd=>by rw[aU.1 hd];exact aU.2 rfl
 |[],a::aG,x,vs,h,hd=>by simp[AL.rd]at h
 |t::ts,[],x,vs,h,hd=>by simp[AL.rd]at h
 |t::ts,a::aG,x,vs,h,hd=>by
  unfold AL.rd at h;split at h
  ·rename_i y z h1 h2;cases h;obtain⟨v,rest,rfl,h3,h4⟩:=ax.1 hd;exact ax.2 ⟨v,rest,rfl,Ty.nB h1 h3,AL.nB h2 h4⟩
  ·cases h
theorem tE{r:RK}{x:r.V}{v:Value}(h:aR O w (.ro (r.wJ x)) v):List.length x≤maxLen:=by
 generalize hc:r.wJ x=c at h;cases h with
 |ro _ a cap us bb o h1 h2 _ _ _=>
  have:(r.wJ x).n=x.length:=by cases r<;>rfl
  rw[←hc]at h1;omega
theorem B.okV{b:B}{x:b.V}{v:Value}(hd:ab ρ H O w (b.av x) v):b.ok x:=by
 cases b with
 |row r e=>exact tE (ak (by simp) hd)
 |nA r e=>exact tE (ak (by simp) hd)
 |arr k n=>change ab ρ H O w (.ints k n x) v at hd;unfold ab at hd;exact hd.1
 |_=>trivial
theorem B.okC{b:B}{x:b.V}{cs:List Value}(hd:aK ρ H O w (b.av x) cs):b.ok x:=by
 cases b with
 |row r e=>
  change aK ρ H O w (.s (.ro (r.wJ x))) cs at hd;unfold aK at hd;obtain⟨u,_,h⟩:=hd;exact tE h
 |nA r e=>
  change aK ρ H O w (.s (.ro (r.wJ x))) cs at hd;unfold aK at hd;obtain⟨u,_,h⟩:=hd;exact tE h
 |arr k n=>change aK ρ H O w (.ints k n x) cs at hd;unfold aK at hd;exact hd.1
 |_=>trivial
theorem BL.xR:∀{bs:List B} {x:BL bs} {cs:List Value},ao ρ H O w (BL.av bs x) cs→BL.ok bs x
 |[],x,cs,h=>trivial
 |b::bs,(x,y),cs,h=>by
  obtain⟨c1,c2,rfl,h3,h4⟩:=af.1 h;exact⟨B.okC h3,BL.xR h4⟩
theorem Ty.okV{t:Ty}{x:t.V}{v:Value}(hd:ab ρ H O w (t.av x) v):t.ok x:=by
 cases t with
 |b y=>exact B.okV hd
 |st bs=>
  change ab ρ H O w (.agg (BL.av bs x)) v at hd;unfold ab at hd;obtain⟨cs,_,h⟩:=hd;exact BL.xR h
theorem AL.okL:∀{ts:List Ty} {x:AL ts} {vs:List Value},bE ρ H O w (AL.av ts x) vs→AL.ok ts x
 |[],x,vs,h=>trivial
 |t::ts,(x,y),vs,h=>by
  obtain⟨v,rest,rfl,h3,h4⟩:=ax.1 h;exact⟨Ty.okV h3,AL.okL h4⟩
end
end Go.Sx
namespace Go.Sx
open Go
def l7(ces:List (Bool×aI×TypeId))(L:List ad)(a:AV):AV×List ad×List (Bool×aI×TypeId):=
 match a with
 |.emp=>match ces with
  |(ro,c,e)::r=>bif c.n.beq 0 then(bif ro then(.s (.ro c),L,r)else(.vec L.length,L++[.vec c e],r))else(.emp,L,r)
  |[]=>(.emp,L,[])
 |.vec id=>match ces with
  |(true,_,_)::r=>(match L[id]? with
   |some (.vec c _)=>(.s (.ro c),L.set id .dead,r)
   |_=>(.vec id,L,r))
  |_=>(.vec id,L,ces.tail)
 |.s (.ro c)=>(.s (.ro c),L,ces.tail)
 |.part id lo n=>(match L[id]? with
  |some (.vec c e)=>(.vec L.length,L.set id .dead++[.vec (dv c lo (lo+n)) e],ces.tail)
  |_=>(.part id lo n,L,ces.tail))
 |a=>(a,L,ces)
def rO(f:List (Bool×aI×TypeId)→List ad→AV→AV×List ad×List (Bool×aI×TypeId)):List (Bool×aI×TypeId)→List ad→List AV→List AV×List ad×List (Bool×aI×TypeId)
 |ces,L,[]=>([],L,ces)
 |ces,L,a::aG=>let p:=f ces L a;let q:=rO f p.2.2 p.2.1 aG;(p.1::q.1,q.2.1,q.2.2)
def qC(ces:List (Bool×aI×TypeId))(L:List ad)(a:AV):AV×List ad×List (Bool×aI×TypeId):=
 match a with
 |.agg an=>let q:=rO l7 ces L an;(.agg q.1,q.2.1,q.2.2)
 |a=>l7 ces L a
def adv(ces:List (Bool×aI×TypeId))(L:List ad)(a:AV):AV×List ad:=
 match a with
 |.bo vs=>let q:=rO qC ces L vs;(.bo q.1,q.2.1)
 |a=>let q:=qC ces L a;(q.1,q.2.1)
def aly(ces:List (Bool×aI×TypeId))(L:List ad)(r:AV):Option (List ad×AV):=
 let p:=adv ces L r;let σ:=reach p.2 4000 (aeF 20 p.1) []
 bif rM σ then
  match qx σ p.2,rn (idx σ) 20 p.1 with
  |some L',some r'=>some (L',r')
  |_,_=>none
 else none
section
variable{g:Nat→Option Nat}{ρ aB:Nat→Value}{H H':aJ}{G O O':Nat→Prop}{w w':World}{P:Program}{S:fb}{Z:aX}{X:Ctx}{s:St}{a:Act}{K:List ad→AV→Prop}{C:bA→Prop}{L:List ad}
abbrev lk(L:List ad):aJ:=fun i=>L[i]?
abbrev xS(ρ:Nat→Value)(L:List ad)(G:Nat→Prop)(w:World)(aB:Nat→Value)(L':List ad):Prop:=Step ρ (lk L) (aN ρ (lk L) G) w aB (lk L') (aN aB (lk L') G) w
theorem ext1(hs:Sat ρ (lk L) G w){c:aI}(hc:c.n=0)(e:TypeId)(r:Option Addr):∃aB,Sat aB (lk (L++[.vec c e])) G w∧xS ρ L G w aB (L++[.vec c e])∧∀O,az aB (lk (L++[.vec c e])) O w (.vec L.length) (.slice r 0 0):=by
 have lT:er (.slice r 0 0)=none:=by cases r<;>simp[er]
 let aB:Nat→Value:=fun j=>if j=L.length then .slice r 0 0 else ρ j
 have st:xS ρ L G w aB (L++[.vec c e]):=Step.alloc lT
 have old:∀{id:Nat} {o:ad},(L++[.vec c e])[id]? =some o→(id=L.length∧o=.vec c e)∨(id≠L.length∧L[id]? =some o):=by
  intro id o ho;have h2:=(List.getElem?_eq_some_iff.1 ho).1;simp only[List.length_append,List.length_cons,List.length_nil]at h2;by_cases du:id=L.length
  ·subst du;simp at ho;exact .inl ⟨rfl,ho.symm⟩
  ·refine .inr ⟨du, ?_⟩;rwa[List.getElem?_append_left (by omega)]at ho
 have dI:∀b,Own aB (lk (L++[.vec c e])) b→Own ρ (lk L) b:=by
  rintro b ⟨id,o,ho,ha,hb⟩;rcases old ho with⟨h1,h2⟩|⟨h1,h2⟩
  ·simp only[aB,h1,if_true]at hb;rw[lT]at hb;cases hb
  ·simp only[aB,h1,if_false]at hb;exact⟨id,o,h2,ha,hb⟩
 refine⟨aB,⟨fun id o ho=> ?_,fun i j oi oj b hi hj ai aj bi bj=> ?_,fun b hb=>hs.apart b (dI b hb),hs.low⟩,st,fun O=> ?_⟩
 ·rcases old ho with⟨h1,h2⟩|⟨h1,h2⟩
  ·subst h2;simp only[aB,h1,if_true];exact⟨r,0,by rw[hc],by omega,Nat.zero_le _,.inl rfl⟩
  ·simp only[aB,h1,if_false];exact(hs.obj id o h2).step st (fun _ _ _=>rfl)
 ·rcases old hi with⟨h1,h2⟩|⟨h1,h2⟩
  ·simp only[aB,h1,if_true]at bi;rw[lT]at bi;cases bi
  ·rcases old hj with⟨h3,h4⟩|⟨h3,h4⟩
   ·simp only[aB,h3,if_true]at bj;rw[lT]at bj;cases bj
   ·simp only[aB,h1,if_false]at bi;simp only[aB,h3,if_false]at bj;exact hs.inj i j oi oj b h2 h4 ai aj bi bj
 ·unfold az;exact⟨rfl,.vec c e,by simp[lk],fun c' e' _=>(if_pos rfl).symm⟩
theorem aiB{c:aI}(hc:c.n=0)(r:Option Addr):aR O w (.ro c) (.slice r 0 0):=by
 have:=aR.ro (O:=O) (w:=w) c r 0 (fun _ _=>undef) 0 0 (by omega) (Nat.zero_le _) (fun h=>by omega) (fun i j hi hj=>by omega) (fun i j hi hj=>by omega);rwa[hc]at this
theorem alz(hs:Sat ρ (lk L) G w){id:Nat}{c:aI}{e:TypeId}(du:L[id]? =some (.vec c e)):
 Sat ρ (lk (L.set id .dead)) G w∧xS ρ L G w ρ (L.set id .dead)∧aR (aN ρ (lk (L.set id .dead)) G) w (.ro c) (ρ id):=by
 have a8:id<L.length:=(List.getElem?_eq_some_iff.1 du).1
 have old:∀{k:Nat} {o:ad},(L.set id .dead)[k]? =some o→(k=id∧o=.dead)∨(k≠id∧L[k]? =some o):=by
  intro k o ho;rw[List.getElem?_set]at ho;split at ho
  ·rename_i hk
   first
    |exact .inl ⟨hk.symm,by simpa using ho.symm⟩
    |(rw[if_pos a8]at ho;exact .inl ⟨hk.symm,by simpa using ho.symm⟩)
  ·rename_i hk;exact .inr ⟨Ne.symm hk,ho⟩
 have dI:∀b,Own ρ (lk (L.set id .dead)) b→Own ρ (lk L) b∧er (ρ id)≠some b:=by
  rintro b ⟨k,o,ho,ha,hb⟩;rcases old ho with⟨_,rfl⟩|⟨h1,h2⟩
  ·cases ha
  ·refine⟨⟨k,o,h2,ha,hb⟩,fun hb2=>h1 (hs.inj k id o _ b h2 du ha rfl hb hb2)⟩
 have st:xS ρ L G w ρ (L.set id .dead):=by
  refine⟨fun _ _ _=>rfl,fun k o ho=> ?_,fun b hb=>.inl ?_,fun _ _ _=>rfl,Nat.le_refl _⟩
  ·by_cases hk:k=id
   ·subst hk;exact⟨.dead,by show(L.set k .dead)[k]? =_;rw[List.getElem?_set_self a8],fun c' e' hc=>by cases hc⟩
   ·exact⟨o,by show(L.set id .dead)[k]? =_;rw[List.getElem?_set_ne (Ne.symm hk)];exact ho,fun c' e' hc=>⟨c',e',hc,rfl,rfl⟩⟩
  ·rcases hb with hb|hb
   ·exact .inl (dI b hb).1
   ·exact .inr hb
 refine⟨⟨fun k o ho=> ?_,fun i j oi oj b hi hj ai aj bi bj=> ?_,fun b hb=>hs.apart b (dI b hb).1,hs.low⟩,st, ?_⟩
 ·rcases old ho with⟨_,rfl⟩|⟨h1,h2⟩
  ·trivial
  ·exact(hs.obj k o h2).step st (fun _ _ _=>rfl)
 ·rcases old hi with⟨_,rfl⟩|⟨h1,h2⟩
  ·cases ai
  ·rcases old hj with⟨_,rfl⟩|⟨h3,h4⟩
   ·cases aj
   ·exact hs.inj i j oi oj b h2 h4 ai aj bi bj
 ·obtain⟨r,cap,h0,h1,h2,h3⟩:=hs.obj id _ du;rcases h3 with h3|⟨b,f,cells,fr,us,rfl,h5,h6,h7,h8⟩
  ·rw[h0];have hc:c.n=0:=by omega
   exact .ro c r cap (fun _ _=>undef) 0 0 h1 h2 (fun h=>by omega) (fun i j hi hj=>by omega) (fun i j hi hj=>by omega)
  ·by_cases wR:cap=0
   ·rw[h0];exact .ro c _ cap (fun _ _=>undef) 0 0 h1 h2 (fun h=>by omega) (fun i j hi hj=>by omega) (fun i j hi hj=>by omega)
   ·have lT:er (ρ id)=some b:=by rw[h0];simp[er,wR]
    have xT:¬aN ρ (lk (L.set id .dead)) G b:=by
     rintro(hb|hb)
     ·exact(dI b hb).2 lT
     ·exact hs.apart b ⟨id,_,du,rfl,lT⟩ hb
    rw[h0];refine .ro c _ cap us b f h1 h2 (fun _=>⟨rfl,xT,(Array.getElem?_eq_some_iff.1 h5).1⟩) (fun i j hi hj=> ?_) (fun i j hi hj=>(h8 i j hi hj).2.less (fun b hb=> ?_))
    ·have:=(h8 i j hi hj).1;simp only[World.cell?,h5];simpa using this
    ·rcases hb with hb|hb
     ·exact .inl (dI b hb).1
     ·exact .inr hb
theorem aeL(hs:Sat ρ (lk L) G w){id lo n:Nat}{c:aI}{e:TypeId}{v:Value}(du:L[id]? =some (.vec c e))(hv:ab ρ (lk L) (aN ρ (lk L) G) w (.part id lo n) v):
 ∃aB,Sat aB (lk (L.set id .dead++[.vec (dv c lo (lo+n)) e])) G w∧xS ρ L G w aB (L.set id .dead++[.vec (dv c lo (lo+n)) e])∧∀O,az aB (lk (L.set id .dead++[.vec (dv c lo (lo+n)) e])) O w (.vec L.length) v:=by
 obtain⟨g0,a,cap,a',g1,g2,g3,rfl,g4,g5⟩:=iT hs du hv;have a8:id<L.length:=(List.getElem?_eq_some_iff.1 du).1;generalize hx:ad.vec (dv c lo (lo+n)) e=x;have hxa:x.alive=true:=by rw[←hx];rfl
 have old:∀{k:Nat} {o:ad},(L.set id .dead++[x])[k]? =some o→(k=L.length∧o=x)∨(k=id∧o=.dead)∨(k≠id∧k≠L.length∧L[k]? =some o):=by
  intro k o ho;have h2:=(List.getElem?_eq_some_iff.1 ho).1;simp only[List.length_append,List.length_set,List.length_cons,List.length_nil]at h2;by_cases hk:k=L.length
  ·subst hk;rw[List.getElem?_append_right (by simp)]at ho;simp at ho;exact .inl ⟨rfl,ho.symm⟩
  ·rw[List.getElem?_append_left (by simp;omega),List.getElem?_set]at ho;split at ho
   ·rename_i rh
    first
     |exact .inr (.inl ⟨rh.symm,by simpa using ho.symm⟩)
     |(rw[if_pos a8]at ho;exact .inr (.inl ⟨rh.symm,by simpa using ho.symm⟩))
   ·rename_i rh;exact .inr (.inr ⟨Ne.symm rh,hk,ho⟩)
 have new:∀{k:Nat} {o:ad},L[k]? =some o→k≠id→(L.set id .dead++[x])[k]? =some o:=by
  intro k o ho hk;have h1:=(List.getElem?_eq_some_iff.1 ho).1;rw[List.getElem?_append_left (by simpa using h1),List.getElem?_set_ne (Ne.symm hk)];exact ho
 have aiC:(L.set id .dead++[x])[id]? =some .dead:=by
  rw[List.getElem?_append_left (by simpa using a8),List.getElem?_set_self a8]
 have ar6:(L.set id .dead++[x])[L.length]? =some x:=by
  rw[List.getElem?_append_right (by simp)];simp
 have qj:∀b,er (.slice a' n (cap - lo))=some b→er (ρ id)=some b:=by
  intro b hb;cases a' with
  |none=>simp[er]at hb
  |some y=>
   simp only[er]at hb;split at hb
   ·cases hb
   ·rename_i cv;obtain⟨b',o,rfl⟩:=g5 (by omega);have:=g4 (by omega);simp only[Option.map_some,aY,Option.some.injEq]at this hb;subst this;rw[g1];simp only[er];rw[if_neg (by omega)];exact congrArg some hb
 let aB:Nat→Value:=fun j=>if j=L.length then .slice a' n (cap - lo)else ρ j
 have dI:∀b,Own aB (lk (L.set id .dead++[x])) b→Own ρ (lk L) b:=by
  rintro b ⟨k,o,ho,ha,hb⟩;rcases old ho with⟨h1,h2⟩|⟨h1,h2⟩|⟨h1,h2,h3⟩
  ·simp only[aB,h1,if_true]at hb;exact⟨id,_,du,rfl,qj b hb⟩
  ·subst h2;cases ha
  ·simp only[aB,h2,if_false]at hb;exact⟨k,o,h3,ha,hb⟩
 have st:xS ρ L G w aB (L.set id .dead++[x]):=by
  refine⟨fun k o ho=> ?_,fun k o ho=> ?_,fun b hb=>.inl ?_,fun _ _ _=>rfl,Nat.le_refl _⟩
  ·have h1:k<L.length:=(List.getElem?_eq_some_iff.1 ho).1;simp only[aB];rw[if_neg (by omega)]
  ·by_cases hk:k=id
   ·subst hk;exact⟨.dead,aiC,fun c' e' hc=>by cases hc⟩
   ·exact⟨o,new ho hk,fun c' e' hc=>⟨c',e',hc,rfl,rfl⟩⟩
  ·rcases hb with hb|hb
   ·exact .inl (dI b hb)
   ·exact .inr hb
 refine⟨aB,⟨fun k o ho=> ?_,fun i j oi oj b hi hj ai aj bi bj=> ?_,fun b hb=>hs.apart b (dI b hb),hs.low⟩,st,fun O=> ?_⟩
 ·rcases old ho with⟨h1,h2⟩|⟨h1,h2⟩|⟨h1,h2,h3⟩
  ·rw[h2];have pX:=st;simp only[aB,h1,if_true];rw[←hx]at pX ⊢;have hn:(dv c lo (lo+n)).n=n:=by rw[n6 c (by omega) g0];omega
   have bK:=jz c lo (lo+n);refine⟨a',cap - lo,by rw[hn],by rw[hn];omega,by omega, ?_⟩;obtain⟨a2,qg,k1,k2,k3,k4⟩:=hs.obj id _ du;rw[g1]at k1;cases k1;by_cases hc:cap=lo
   ·exact .inl (by omega)
   ·rcases k4 with k4|⟨b,o,cells,fr,us,rfl,h5,h6,h7,h8⟩
    ·omega
    ·refine .inr ⟨b,o+lo*c.size,cells,fr,fun i j=>us (lo+i) j,by rw[g4 hc];simp[aY],h5,h6, ?_,fun i j hi hj=> ?_⟩
     ·rw[bK];have:lo*c.size+(cap - lo)*c.size=cap*c.size:=by rw[←Nat.add_mul];congr 1;omega
      omega
     ·rw[hn]at hi;rw[bK]at hj ⊢;obtain⟨h9,y5⟩:=h8 (lo+i) j (by omega) hj;refine⟨?_,by rw[jA c j (by omega)];exact y5.step pX.fP pX.heap pX.size⟩;rw[show o+lo*c.size+i*c.size+j=o+(lo+i)*c.size+j from by rw[Nat.add_mul];omega];exact h9
  ·subst h2;trivial
  ·simp only[aB,h2,if_false];exact(hs.obj k o h3).step st (fun _ _ _=>rfl)
 ·have cls:∀{k:Nat} {o:ad},(L.set id .dead++[x])[k]? =some o→o.alive=true→er (aB k)=some b→(k=L.length∧er (ρ id)=some b)∨(k≠id∧k≠L.length∧L[k]? =some o∧er (ρ k)=some b):=by
   intro k o ho ha hb;rcases old ho with⟨h1,h2⟩|⟨h1,h2⟩|⟨h1,h2,h3⟩
   ·simp only[aB,h1,if_true]at hb;exact .inl ⟨h1,qj b hb⟩
   ·subst h2;cases ha
   ·simp only[aB,h2,if_false]at hb;exact .inr ⟨h1,h2,h3,hb⟩
  rcases cls hi ai bi with⟨h1,h2⟩|⟨h1,h2,h3,h4⟩<;>rcases cls hj aj bj with⟨k1,k2⟩|⟨k1,k2,k3,k4⟩
  ·rw[h1,k1]
  ·exact absurd (hs.inj j id oj _ b k3 du aj rfl k4 h2) k1
  ·exact absurd (hs.inj i id oi _ b h3 du ai rfl h4 k2) h1
  ·exact hs.inj i j oi oj b h3 k3 ai aj h4 k4
 ·unfold az;refine⟨rfl,x,ar6,fun c' e' _=> ?_⟩;simp only[aB,if_true]
theorem aeM{ces:List (Bool×aI×TypeId)}{a:AV}(hs:Sat ρ (lk L) G w):
 (∀v,ab ρ (lk L) (aN ρ (lk L) G) w a v→∃aB,Sat aB (lk (l7 ces L a).2.1) G w∧xS ρ L G w aB (l7 ces L a).2.1∧ab aB (lk (l7 ces L a).2.1) (aN aB (lk (l7 ces L a).2.1) G) w (l7 ces L a).1 v)∧
 (∀cs,aK ρ (lk L) (aN ρ (lk L) G) w a cs→∃aB,Sat aB (lk (l7 ces L a).2.1) G w∧xS ρ L G w aB (l7 ces L a).2.1∧aK aB (lk (l7 ces L a).2.1) (aN aB (lk (l7 ces L a).2.1) G) w (l7 ces L a).1 cs):=by
 have same:∀a,(∀v,ab ρ (lk L) (aN ρ (lk L) G) w a v→∃aB,Sat aB (lk L) G w∧xS ρ L G w aB L∧ab aB (lk L) (aN aB (lk L) G) w a v)∧(∀cs,aK ρ (lk L) (aN ρ (lk L) G) w a cs→∃aB,Sat aB (lk L) G w∧xS ρ L G w aB L∧aK aB (lk L) (aN aB (lk L) G) w a cs):=
  fun a=>⟨fun v h=>⟨ρ,hs,Step.refl _ _ _ _,h⟩,fun cs h=>⟨ρ,hs,Step.refl _ _ _ _,h⟩⟩
 unfold l7;split
 ·split
  ·rename_i ro c e r;cases hc:c.n.beq 0
   ·exact same _
   ·have hc:=Nat.eq_of_beq_eq_true hc;cases ro
    ·refine⟨fun v h=> ?_,fun cs h=> ?_⟩
     ·unfold ab at h;obtain⟨x,rfl⟩:=h;obtain⟨aB,h1,h2,h3⟩:=ext1 hs hc e x;exact⟨aB,h1,h2,by simp only[cond_true,cond_false];unfold ab;exact h3 _⟩
     ·unfold aK at h;obtain⟨u,rfl,x,rfl⟩:=h;obtain⟨aB,h1,h2,h3⟩:=ext1 hs hc e x;exact⟨aB,h1,h2,by simp only[cond_true,cond_false];unfold aK;exact⟨_,rfl,h3 _⟩⟩
    ·refine⟨fun v h=> ?_,fun cs h=> ?_⟩
     ·unfold ab at h;obtain⟨x,rfl⟩:=h;exact⟨ρ,hs,Step.refl _ _ _ _,aw (aiB hc x)⟩
     ·unfold aK at h;obtain⟨u,rfl,x,rfl⟩:=h;exact⟨ρ,hs,Step.refl _ _ _ _,by simp only[cond_true];unfold aK;exact⟨_,rfl,aiB hc x⟩⟩
  ·exact same _
 ·rename_i id;split
  ·split
   ·rename_i c e du;obtain⟨f1,f2,f3⟩:=alz hs du
    have key:∀v,az ρ (lk L) (aN ρ (lk L) G) w (.vec id) v→v=ρ id:=by
     intro v hv;unfold az at hv;obtain⟨_,o,ho,h4⟩:=hv;rw[show lk L id=some (.vec c e)from du]at ho;cases ho;exact h4 c e rfl
    refine⟨fun v h=>⟨ρ,f1,f2, ?_⟩,fun cs h=>⟨ρ,f1,f2, ?_⟩⟩
    ·unfold ab at h;rw[key v h];exact aw f3
    ·unfold aK at h;obtain⟨u,rfl,h5⟩:=h;unfold aK;exact⟨u,rfl,by rw[key u h5];exact f3⟩
   ·exact same _
  ·exact same _
 ·exact same _
 ·rename_i id lo n;split
  ·rename_i c e du;refine⟨fun v h=> ?_,fun cs h=> ?_⟩
   ·obtain⟨aB,h1,h2,h3⟩:=aeL hs du h;exact⟨aB,h1,h2,by unfold ab;exact h3 _⟩
   ·unfold aK at h;obtain⟨u,rfl,h5⟩:=h;obtain⟨aB,h1,h2,h3⟩:=aeL hs du (by unfold ab;exact h5);exact⟨aB,h1,h2,by unfold aK;exact⟨u,rfl,h3 _⟩⟩
  ·exact same _
 ·exact same _
theorem u6:∀(aG:List AV) {ces:List (Bool×aI×TypeId)} {L:List ad} {ρ:Nat→Value} {cs:List Value},Sat ρ (lk L) G w→ao ρ (lk L) (aN ρ (lk L) G) w aG cs→
 ∃aB,Sat aB (lk (rO l7 ces L aG).2.1) G w∧xS ρ L G w aB (rO l7 ces L aG).2.1∧ao aB (lk (rO l7 ces L aG).2.1) (aN aB (lk (rO l7 ces L aG).2.1) G) w (rO l7 ces L aG).1 cs
 |[],ces,L,ρ,cs,hs,hd=>⟨ρ,hs,Step.refl _ _ _ _,hd⟩
 |a::aG,ces,L,ρ,cs,hs,hd=>by
  obtain⟨c1,c2,rfl,h1,h2⟩:=af.1 hd;obtain⟨lF,h3,h4,h5⟩:=(aeM (ces:=ces) hs).2 c1 h1;obtain⟨gl,h6,h7,h8⟩:=u6 aG (ces:=(l7 ces L a).2.2) h3 (ao.step h4 aG c2 h2);exact⟨gl,h6,h4.trans h7,af.2 ⟨c1,c2,rfl,aK.step h7 _ _ h5,h8⟩⟩
theorem aeN{ces:List (Bool×aI×TypeId)}{a:AV}{v:Value}(hs:Sat ρ (lk L) G w)(hd:ab ρ (lk L) (aN ρ (lk L) G) w a v):
 ∃aB,Sat aB (lk (qC ces L a).2.1) G w∧xS ρ L G w aB (qC ces L a).2.1∧ab aB (lk (qC ces L a).2.1) (aN aB (lk (qC ces L a).2.1) G) w (qC ces L a).1 v:=by
 unfold qC;split
 ·rename_i an;unfold ab at hd;obtain⟨cs,h1,h2⟩:=hd;obtain⟨aB,h3,h4,h5⟩:=u6 an (ces:=ces) hs h2;exact⟨aB,h3,h4,by unfold ab;exact⟨cs,h1,h5⟩⟩
 ·exact(aeM hs).1 v hd
theorem u7:∀(aG:List AV) {ces:List (Bool×aI×TypeId)} {L:List ad} {ρ:Nat→Value} {vs:List Value},Sat ρ (lk L) G w→bE ρ (lk L) (aN ρ (lk L) G) w aG vs→
 ∃aB,Sat aB (lk (rO qC ces L aG).2.1) G w∧xS ρ L G w aB (rO qC ces L aG).2.1∧bE aB (lk (rO qC ces L aG).2.1) (aN aB (lk (rO qC ces L aG).2.1) G) w (rO qC ces L aG).1 vs
 |[],ces,L,ρ,cs,hs,hd=>⟨ρ,hs,Step.refl _ _ _ _,hd⟩
 |a::aG,ces,L,ρ,cs,hs,hd=>by
  obtain⟨v,rest,rfl,h1,h2⟩:=ax.1 hd;obtain⟨lF,h3,h4,h5⟩:=aeN (ces:=ces) hs h1;obtain⟨gl,h6,h7,h8⟩:=u7 aG (ces:=(qC ces L a).2.2) h3 (bE.step h4 aG rest h2);exact⟨gl,h6,h4.trans h7,ax.2 ⟨v,rest,rfl,ab.step h7 _ _ h5,h8⟩⟩
theorem alA{ces:List (Bool×aI×TypeId)}{a:AV}{v:Value}(hs:Sat ρ (lk L) G w)(hd:ab ρ (lk L) (aN ρ (lk L) G) w a v):
 ∃aB,Sat aB (lk (adv ces L a).2) G w∧xS ρ L G w aB (adv ces L a).2∧ab aB (lk (adv ces L a).2) (aN aB (lk (adv ces L a).2) G) w (adv ces L a).1 v:=by
 unfold adv;split
 ·rename_i vs;unfold ab at hd;obtain⟨us,h1,h2⟩:=hd;obtain⟨aB,h3,h4,h5⟩:=u7 vs (ces:=ces) hs h2;exact⟨aB,h3,h4,by unfold ab;exact⟨us,h1,h5⟩⟩
 ·exact aeN hs hd
theorem agO{ces:List (Bool×aI×TypeId)}{r r':AV}{v:Value}{L':List ad}(h:Good ρ H G w (lk L) r v w')(h0:∀id,H id=none)(hc:aly ces L r=some (L',r')):Good ρ H G w (lk L') r' v w':=by
 unfold aly at hc;simp only[Bool.cond_eq_ite]at hc;split at hc
 ·rename_i hn;split at hc
  ·rename_i L1 r1 hL hr;simp only[Option.some.injEq,Prod.mk.injEq]at hc;obtain⟨rfl,rfl⟩:=hc;obtain⟨lF,h1,h2,h3,h4⟩:=h;obtain⟨gl,h5,h6,h7⟩:=alA (ces:=ces) h1 h2;exact Good.view (m:=0) ⟨gl,h5,h7,h3.trans h6,h4⟩ (kC hn) hL (fun i hi=>by omega) (fun id _=>h0 id) hr
  ·cases hc
 ·cases hc
end
end Go.Sx
namespace Go.Sx
open Go
def B.out(base:Nat):(b:B)→b.V→AV×List ad
 |.row r e,x=>(.vec base,[.vec (r.wJ x) e])
 |.int k,x=>(.s (.int k x),[])
 |.bool,x=>(.s (.bool x),[])
 |.str,x=>(.s (.str x),[])
 |.arr k n,x=>(.ints k n x,[])
 |.fn,f=>(.s (.kV f),[])
 |.nA r _,x=>(.s (.ro (r.wJ x)),[])
def BL.out(base:Nat):(bs:List B)→BL bs→List AV×List ad
 |[],_=>([],[])
 |b::bs,(x,y)=>let p:=b.out base x;let q:=BL.out (base+p.2.length) bs y;(p.1::q.1,p.2++q.2)
def Ty.out(base:Nat):(t:Ty)→t.V→AV×List ad
 |.b x,v=>x.out base v
 |.st bs,v=>let q:=BL.out base bs v;(.agg q.1,q.2)
def AL.out(base:Nat):(ts:List Ty)→AL ts→List AV×List ad
 |[],_=>([],[])
 |t::ts,(x,y)=>let p:=t.out base x;let q:=AL.out (base+p.2.length) ts y;(p.1::q.1,p.2++q.2)
def AL.res(rs:List Ty)(y:AL rs):List ad×AV:=let q:=AL.out 0 rs y;(q.2,oneOf q.1)
def B.flat:B→Bool
 |.row r _=>r.flat
 |.nA _ _=>false
 |_=>true
def Ty.flat:Ty→Bool
 |.b x=>x.flat
 |.st bs=>bs.all B.flat
def B.oU:B→Bool
 |.row r _=>r.flat
 |_=>true
def Ty.oU:Ty→Bool
 |.b x=>x.oU
 |.st bs=>bs.all B.oU
def B.ces:B→List (Bool×aI×TypeId)
 |.row r e=>[(false,r.wJ [],e)]
 |.nA r e=>[(true,r.wJ [],e)]
 |_=>[]
def Ty.ces:Ty→List (Bool×aI×TypeId)
 |.b x=>x.ces
 |.st bs=>bs.flatMap B.ces
def dr(P:Program)(Z:aX)(f:FuncId)(ts rs:List Ty)(pre:AL ts→List Prop)(F:AL ts→AL rs):Prop:=
 ∀(x:AL ts),AL.ok ts x→bw (pre x)→∀(G:Nat→Prop) (w:World) (vs:List Value),(∀b,G b→b<w.heap.size)→Z.ok w→bE (fun _=>undef) (fun _=>none) (aN (fun _=>undef) (fun _=>none) G) w (AL.av ts x) vs→
  Calls P f vs.toArray w fun e w'=>∃v,e=.returned v∧Good (fun _=>undef) (fun _=>none) G w (lk (AL.res rs (F x)).1) (AL.res rs (F x)).2 v w'
def Ends(rs:List Ty)(y:AL rs)(L:List ad)(r:AV):Prop:=aly (rs.flatMap Ty.ces) L r=some (AL.res rs y)
def agJ(a:AV)(k:AV→RM bC):RM bC:=
 match a with
 |.vec id=>.look id fun
  |some (.vec c _)=>k (.s (.ro c))
  |_=>.fail "frz"
 |a=>k a
def apL:List AV→(List AV→RM bC)→RM bC
 |[],k=>k []
 |a::aG,k=>agJ a fun a'=>apL aG fun dk=>k (a'::dk)
def apM(a:AV)(k:AV→RM bC):RM bC:=
 match a with
 |.agg an=>apL an fun s=>k (.agg s)
 |a=>agJ a k
def apN:List AV→(List AV→RM bC)→RM bC
 |[],k=>k []
 |a::aG,k=>apM a fun a'=>apN aG fun dk=>k (a'::dk)
def bZ(ts rs:List Ty)(pre:AL ts→List Prop)(F:AL ts→AL rs):Nat→List AV→RM bC:=fun _ args=>
 apN args fun args=>match allM (rn (fun _=>none) 20) args with
  |some args=>(match AL.rd ts args with
   |some x=>bif rs.all Ty.flat then .ret ⟨pre x,[],(AL.res rs (F x)).1,fun base=>oneOf (AL.out base rs (F x)).1⟩else .fail "sum: not flat"
   |none=>.fail "sum: arguments")
  |none=>.fail "sum: names"
section
variable{g:Nat→Option Nat}{ρ aB:Nat→Value}{H H':aJ}{G O O':Nat→Prop}{w w':World}{P:Program}{S:fb}{Z:aX}{X:Ctx}{s:St}{a:Act}{K:List ad→AV→Prop}{C:bA→Prop}{L:List ad}
theorem AL.xU:∀{ts:List Ty} (x:AL ts),(AL.av ts x).length=ts.length
 |[],_=>rfl
 |_::_,(_,y)=>congrArg (· +1) (AL.xU y)
theorem au{f:FuncId}{fn:Func}{ts rs:List Ty}{pre:AL ts→List Prop}{F:AL ts→AL rs}(hf:P.funcs[f]? =some fn)(hb:fn.body.isSome=true)(hn:ts.length.ble fn.ntmps=true)
 (h:∀x,AL.ok ts x→bw (pre x)→∀X:Ctx,(∀id,X.H id=none)→dT Z X→Safe P f X (Ends rs (F x)) (start fn (AL.av ts x) [])):dr P Z f ts rs pre F:=by
 intro x jd lD G w vs hG hz hd;obtain⟨c,hb⟩:=Option.isSome_iff_exists.1 hb;have hn:=Nat.le_of_ble_eq_true hn;have ar7:(AL.av ts x).length=ts.length:=AL.xU x
 have nC:∀{aG:List AV} {vs:List Value},bE (fun _=>undef) (fun _=>none) (aN (fun _=>undef) (fun _=>none) G) w aG vs→vs.length=aG.length:=by
  intro aG
  induction aG with
  |nil=>intro vs h;rw[aU.1 h];rfl
  |cons a aG ih=>intro vs h;obtain⟨v,rest,rfl,_,h2⟩:=ax.1 h;simp[ih h2]
 refine(iJ (R:=jX ⟨fun _=>undef,fun _=>none,G,w,[]⟩ (Ends rs (F x))) hf hb ?_).mono ?_
 ·have:=(h x jd lD ⟨fun _=>undef,fun _=>none,G,w,[]⟩ (fun _=>rfl) ⟨hz,fun b _ ⟨id,o,ho,_⟩=>by cases ho⟩).goes rfl rfl (ρ:=fun _=>undef) (a:={tmps:=vs.toArray++Array.replicate (fn.ntmps - vs.toArray.size) undef,defers:=[]}) (w:=w);simp only[start,hb,Option.getD_some]at this;refine this ⟨⟨fun id o ho=>by simp[St.look]at ho,fun i j oi oj b hi=>by simp[St.look]at hi,fun b um=> ?_,hG⟩, ?_,fun t=> ?_,rfl, ?_, ?_,fun x hx=>by cases hx⟩
  ·obtain⟨id,o,ho,_⟩:=um;simp[St.look]at ho
  ·have:=nC hd;simp[this]
  ·have e1:∀t,ab (fun _=>undef) (St.look ⟨AL.av ts x++List.replicate (fn.ntmps - (AL.av ts x).length) (.bo []),[]⟩) (aN (fun _=>undef) (St.look ⟨AL.av ts x++List.replicate (fn.ntmps - (AL.av ts x).length) (.bo []),[]⟩) G) w ((AL.av ts x).getD t (.bo [])) (vs.getD t undef):=by
    have e0:(St.look ⟨AL.av ts x++List.replicate (fn.ntmps - (AL.av ts x).length) (.bo []),[]⟩)=fun _=>none:=by funext i;simp[St.look]
    rw[e0];generalize AL.av ts x=aG at hd;clear ar7 e0 this
    induction aG generalizing vs with
    |nil=>intro t;rw[aU.1 hd];simp only[List.getD,List.getElem?_nil,Option.getD_none];exact cH
    |cons a aG ih=>
     intro t;obtain⟨v,rest,rfl,h1,h2⟩:=ax.1 hd;cases t with
     |zero=>simpa using h1
     |succ t=>simpa using ih rest h2 t
   have h1:=e1 t;have hl:=nC hd;simp only[List.getD_eq_getElem?_getD,List.getElem?_append,List.getElem?_replicate,Array.getD_eq_getD_getElem?,Array.getElem?_append,List.getElem?_toArray,Array.getElem?_replicate,List.size_toArray]at h1 ⊢;rw[hl];split
   ·rename_i ht;have hv:vs[t]? =some vs[t]:=List.getElem?_eq_getElem (by omega);have ha:(AL.av ts x)[t]? =some (AL.av ts x)[t]:=List.getElem?_eq_getElem ht;rw[hv,ha]at h1 ⊢;exact h1
   ·split
    ·exact cH
    ·simp only[Option.getD_none];unfold ab;trivial
  ·have e0:(St.look ⟨AL.av ts x++List.replicate (fn.ntmps - (AL.av ts x).length) (.bo []),[]⟩)=fun _=>none:=by funext i;simp[St.look]
   rw[e0];exact Step.refl _ _ _ _
  ·exact⟨rfl,rfl,rfl,fun _ _ _=>rfl⟩
 ·rintro e w' ⟨v,he,L,r,hk,hg⟩;refine⟨v,he, ?_⟩;exact agO hg (fun _=>rfl) hk
theorem RM.aeO{aG:AV}{k:AV→RM bC}{q:bC}(h:(agJ aG k).eval H=some q)(hs:Sat ρ H G w):∃a',(k a').eval H=some q∧(∀v,ab ρ H (aN ρ H G) w aG v→ab ρ H (fun _=>False) w a' v)∧(∀cs,aK ρ H (aN ρ H G) w aG cs→aK ρ H (fun _=>False) w a' cs):=by
 have less:Emb (fun i=>some i) ρ H (aN ρ H G) ρ H (fun _=>False):=⟨fun i j h=>by cases h;exact⟨rfl,fun o ho=>⟨o,ho,fun c e hc=>hc⟩⟩,fun b hb=>hb.elim⟩;have ar8:∀(a:AV) (v:Value),ab ρ H (aN ρ H G) w a v→ab ρ H (fun _=>False) w a v:=fun a v hd=>ab.step ⟨fun _ _ _=>rfl,fun _ o h=>⟨o,h,fun c' e' e=>⟨c',e',e,rfl,rfl⟩⟩,fun b hb=>hb.elim,fun _ _ _=>rfl,Nat.le_refl _⟩ a v hd;have ar9:∀(a:AV) (v:List Value),aK ρ H (aN ρ H G) w a v→aK ρ H (fun _=>False) w a v:=fun a v hd=>aK.step ⟨fun _ _ _=>rfl,fun _ o h=>⟨o,h,fun c' e' e=>⟨c',e',e,rfl,rfl⟩⟩,fun b hb=>hb.elim,fun _ _ _=>rfl,Nat.le_refl _⟩ a v hd;unfold agJ at h;split at h
 ·rename_i id;simp only[RM.eval]at h;split at h
  ·rename_i c e hc;have dV:=hs.obj id _ hc;obtain⟨r,cap,h0,h1,h2,h3⟩:=dV
   have key:∀v,az ρ H (aN ρ H G) w (.vec id) v→aR (fun _=>False) w (.ro c) v:=by
    intro v hv;unfold az at hv;obtain⟨_,o,ho,h4⟩:=hv;rw[hc]at ho;cases ho;rw[h4 c e rfl,h0];rcases h3 with h3|⟨b,f,cells,fr,us,rfl,h5,h6,h7,h8⟩
    ·exact .ro c r cap (fun _ _=>undef) 0 0 h1 h2 (fun h=>by omega) (fun i j hi hj=>by omega) (fun i j hi hj=>by omega)
    ·refine .ro c _ cap us b f h1 h2 (fun _=>⟨rfl,fun h=>h.elim,(Array.getElem?_eq_some_iff.1 h5).1⟩) (fun i j hi hj=> ?_) (fun i j hi hj=>(h8 i j hi hj).2.less (fun b hb=>hb.elim));have:=(h8 i j hi hj).1;simp only[World.cell?,h5];simpa using this
   exact⟨_,h,fun v hv=>aw (key v (by unfold ab at hv;exact hv)),fun cs hv=>by unfold aK at *;obtain⟨u,rfl,h9⟩:=hv;exact⟨u,rfl,key u h9⟩⟩
  ·simp[RM.eval]at h
 ·exact⟨_,h,ar8 _,ar9 _⟩
theorem RM.aeP:∀{aG:List AV} {k:List AV→RM bC} {q:bC},(apL aG k).eval H=some q→Sat ρ H G w→∃dk,(k dk).eval H=some q∧∀cs,ao ρ H (aN ρ H G) w aG cs→ao ρ H (fun _=>False) w dk cs
 |[],k,q,h,hs=>⟨[],h,fun cs hd=>by rw[aq.1 hd];exact aq.2 rfl⟩
 |a::aG,k,q,h,hs=>by
  obtain⟨a',h1,h2,h3⟩:=RM.aeO h hs;obtain⟨dk,h4,h5⟩:=RM.aeP h1 hs;refine⟨a'::dk,h4,fun cs hd=> ?_⟩;obtain⟨c1,c2,rfl,h6,h7⟩:=af.1 hd;exact af.2 ⟨c1,c2,rfl,h3 c1 h6,h5 c2 h7⟩
theorem RM.alB{aG:AV}{k:AV→RM bC}{q:bC}(h:(apM aG k).eval H=some q)(hs:Sat ρ H G w):∃a',(k a').eval H=some q∧(∀v,ab ρ H (aN ρ H G) w aG v→ab ρ H (fun _=>False) w a' v):=by
 unfold apM at h;split at h
 ·obtain⟨dk,h1,h2⟩:=RM.aeP h hs;refine⟨_,h1,fun v hd=> ?_⟩;unfold ab at *;obtain⟨cs,h3,h4⟩:=hd;exact⟨cs,h3,h2 cs h4⟩
 ·obtain⟨a',h1,h2,_⟩:=RM.aeO h hs;exact⟨a',h1,h2⟩
theorem RM.aeQ:∀{aG:List AV} {k:List AV→RM bC} {q:bC},(apN aG k).eval H=some q→Sat ρ H G w→∃dk,(k dk).eval H=some q∧∀cs,bE ρ H (aN ρ H G) w aG cs→bE ρ H (fun _=>False) w dk cs
 |[],k,q,h,hs=>⟨[],h,fun cs hd=>by rw[aU.1 hd];exact aU.2 rfl⟩
 |a::aG,k,q,h,hs=>by
  obtain⟨a',h1,h2⟩:=RM.alB h hs;obtain⟨dk,h4,h5⟩:=RM.aeQ h1 hs;refine⟨a'::dk,h4,fun cs hd=> ?_⟩;obtain⟨v,rest,rfl,h6,h7⟩:=ax.1 hd;exact ax.2 ⟨v,rest,rfl,h2 v h6,h5 rest h7⟩
theorem sX:∀{cs:List CK} (_:cs.all CK.flat=true) {x:CL cs} {j:Nat} {u:Value},j<CL.wide cs→aR O w (CL.cell cs x j) u→aR O' w (CL.cell cs x j) u
 |[],_,x,j,u,hj,h=>by simp[CL.wide]at hj
 |c::cs,hf,x,j,u,hj,h=>by
  simp only[List.all_cons,Bool.and_eq_true]at hf;simp only[CL.cell]at h ⊢;rcases Nat.lt_or_ge j c.wide with h5|h5
  ·rw[ml h5,cond_true]at h ⊢;cases c<;>simp only[CK.flat,Bool.false_eq_true]at hf
   case int k=>exact(by simp only[CK.cell]at h ⊢;cases h;constructor)
   case bool=>exact(by simp only[CK.cell]at h ⊢;cases h;constructor)
   case str=>exact(by simp only[CK.cell]at h ⊢;cases h;constructor)
   case arr k n=>exact(by simp only[CK.cell]at h ⊢;cases h;constructor)
   all_goals exact hf.1.elim
  ·rw[qd h5,cond_false]at h ⊢;exact sX hf.2 (by simp only[CL.wide]at hj;omega) h
theorem RK.abd{r:RK}(hr:r.flat=true){x:r.V}{i j:Nat}{u:Value}(hj:j<(r.wJ x).size)(h:aR O w ((r.wJ x).cell i j) u):aR O' w ((r.wJ x).cell i j) u:=by
 cases r
 case ae cs=>exact sX hr hj h
 all_goals (simp only[RK.wJ,aI.cell]at h ⊢;cases h;constructor)
def Plain(o:ad):Prop:=∃(r:RK) (x:r.V) (e:TypeId),r.flat=true∧o=.vec (r.wJ x) e
theorem B.eI{b:B}(hb:b.oU=true){x:b.V}{base:Nat}:∀o∈(b.out base x).2,Plain o:=by
 cases b with
 |row r e=>intro o ho;simp only[B.out,List.mem_singleton]at ho;exact⟨r,x,e,hb,ho⟩
 |_=>intro o ho;simp[B.out]at ho
theorem BL.eI:∀{bs:List B},bs.all B.oU=true→∀{x:BL bs} {base:Nat},∀o∈(BL.out base bs x).2,Plain o
 |[],_,x,base,o,ho=>by simp[BL.out]at ho
 |b::bs,hb,(x,y),base,o,ho=>by
  simp only[List.all_cons,Bool.and_eq_true]at hb;simp only[BL.out,List.mem_append]at ho;rcases ho with ho|ho
  ·exact B.eI hb.1 o ho
  ·exact BL.eI hb.2 o ho
theorem Ty.eI{t:Ty}(ht:t.oU=true){x:t.V}{base:Nat}:∀o∈(t.out base x).2,Plain o:=by
 cases t with
 |b y=>exact B.eI ht
 |st bs=>exact BL.eI ht
theorem AL.eI:∀{ts:List Ty},ts.all Ty.oU=true→∀{x:AL ts} {base:Nat},∀o∈(AL.out base ts x).2,Plain o
 |[],_,x,base,o,ho=>by simp[AL.out]at ho
 |b::bs,hb,(x,y),base,o,ho=>by
  simp only[List.all_cons,Bool.and_eq_true]at hb;simp only[AL.out,List.mem_append]at ho;rcases ho with ho|ho
  ·exact Ty.eI hb.1 o ho
  ·exact AL.eI hb.2 o ho
structure qD (base n:Nat) (ρ:Nat→Value) (H:aJ) (aB:Nat→Value) (H':aJ):Prop where
 xp:∀i,i<n→aB (base+i)=ρ i
 heap:∀i,i<n→H' (base+i)=H i
theorem xV{base n k:Nat}(sh:qD base n ρ H aB H')(hk:k<n){v:Value}(h:az ρ H O w (.vec k) v):az aB H' O' w (.vec (base+k)) v:=by
 unfold az at *;obtain⟨h0,o,ho,h1⟩:=h;exact⟨h0,o,by rw[sh.heap k hk];exact ho,fun c e hc=>by rw[sh.xp k hk];exact h1 c e hc⟩
theorem B.apO{base n k:Nat}(sh:qD base n ρ H aB H'){b:B}(hO:b.flat=true∨∀i,O' i→O i){x:b.V}(hk:k+(b.out k x).2.length≤n){v:Value}(h:ab ρ H O w (b.out k x).1 v):ab aB H' O' w (b.out (base+k) x).1 v:=by
 cases b with
 |row r e=>
  simp only[B.out,List.length_cons,List.length_nil]at hk h ⊢;unfold ab at *;exact xV sh (by omega) h
 |int k=>exact aw (by have:=ak (by simp) h;cases this;constructor)
 |bool=>exact aw (by have:=ak (by simp) h;cases this;constructor)
 |str=>exact aw (by have:=ak (by simp) h;cases this;constructor)
 |fn=>exact aw (by have:=ak (by simp) h;cases this;constructor)
 |nA r e=>
  rcases hO with hO|hO
  ·cases hO
  ·exact aw ((ak (by simp) h).less hO)
 |arr k n=>simp only[B.out]at h ⊢;unfold ab at *;exact h
theorem B.apP{base n k:Nat}(sh:qD base n ρ H aB H'){b:B}(hO:b.flat=true∨∀i,O' i→O i){x:b.V}(hk:k+(b.out k x).2.length≤n){v:List Value}(h:aK ρ H O w (b.out k x).1 v):aK aB H' O' w (b.out (base+k) x).1 v:=by
 cases b with
 |row r e=>
  simp only[B.out,List.length_cons,List.length_nil]at hk h ⊢;unfold aK at *;obtain⟨u,rfl,h1⟩:=h;exact⟨u,rfl,xV sh (by omega) h1⟩
 |int k=>simp only[B.out]at h ⊢;unfold aK at *;obtain⟨u,rfl,h1⟩:=h;exact⟨u,rfl,by cases h1;constructor⟩
 |bool=>simp only[B.out]at h ⊢;unfold aK at *;obtain⟨u,rfl,h1⟩:=h;exact⟨u,rfl,by cases h1;constructor⟩
 |str=>simp only[B.out]at h ⊢;unfold aK at *;obtain⟨u,rfl,h1⟩:=h;exact⟨u,rfl,by cases h1;constructor⟩
 |fn=>simp only[B.out]at h ⊢;unfold aK at *;obtain⟨u,rfl,h1⟩:=h;exact⟨u,rfl,by cases h1;constructor⟩
 |nA r e=>
  simp only[B.out]at h ⊢;unfold aK at *;obtain⟨u,rfl,h1⟩:=h;rcases hO with hO|hO
  ·cases hO
  ·exact⟨u,rfl,h1.less hO⟩
 |arr k n=>simp only[B.out]at h ⊢;unfold aK at *;exact h
theorem B.kD{b:B}{x:b.V}(k k':Nat):(b.out k x).2=(b.out k' x).2:=by cases b<;>rfl
theorem BL.kD:∀{bs:List B} {x:BL bs} (k k':Nat),(BL.out k bs x).2=(BL.out k' bs x).2
 |[],_,_,_=>rfl
 |b::bs,(x,y),k,k'=>by
  simp only[BL.out];rw[B.kD k k',BL.kD (k+_) (k'+(b.out k' x).2.length)]
theorem Ty.kD{t:Ty}{x:t.V}(k k':Nat):(t.out k x).2=(t.out k' x).2:=by
 cases t with
 |b y=>exact B.kD k k'
 |st bs=>exact BL.kD k k'
theorem BL.shift{base n:Nat}(sh:qD base n ρ H aB H'):∀{bs:List B} (_:bs.all B.flat=true∨∀i,O' i→O i) {k:Nat} {x:BL bs} {cs:List Value},k+(BL.out k bs x).2.length≤n→ao ρ H O w (BL.out k bs x).1 cs→ao aB H' O' w (BL.out (base+k) bs x).1 cs
 |[],_,k,x,cs,hk,h=>by rw[aq.1 h];exact aq.2 rfl
 |b::bs,hO,k,(x,y),cs,hk,h=>by
  simp only[BL.out,List.length_append]at hk h ⊢;obtain⟨c1,c2,rfl,h1,h2⟩:=af.1 h;have hO1:b.flat=true∨∀i,O' i→O i:=hO.imp (fun h=>by simp only[List.all_cons,Bool.and_eq_true]at h;exact h.1) (fun h=>h);have hO2:bs.all B.flat=true∨∀i,O' i→O i:=hO.imp (fun h=>by simp only[List.all_cons,Bool.and_eq_true]at h;exact h.2) (fun h=>h);refine af.2 ⟨c1,c2,rfl,B.apP sh hO1 (by omega) h1, ?_⟩;rw[B.kD (base+k) k,Nat.add_assoc];exact BL.shift sh hO2 (by omega) h2
theorem Ty.shift{base n k:Nat}(sh:qD base n ρ H aB H'){t:Ty}(hO:t.flat=true∨∀i,O' i→O i){x:t.V}(hk:k+(t.out k x).2.length≤n){v:Value}(h:ab ρ H O w (t.out k x).1 v):ab aB H' O' w (t.out (base+k) x).1 v:=by
 cases t with
 |b y=>exact B.apO sh hO hk h
 |st bs=>
  simp only[Ty.out]at hk h ⊢;unfold ab at *;obtain⟨cs,h1,h2⟩:=h;exact⟨cs,h1,BL.shift sh hO hk h2⟩
theorem AL.shift{base n:Nat}(sh:qD base n ρ H aB H'):∀{ts:List Ty} (_:ts.all Ty.flat=true∨∀i,O' i→O i) {k:Nat} {x:AL ts} {vs:List Value},k+(AL.out k ts x).2.length≤n→bE ρ H O w (AL.out k ts x).1 vs→bE aB H' O' w (AL.out (base+k) ts x).1 vs
 |[],_,k,x,vs,hk,h=>by rw[aU.1 h];exact aU.2 rfl
 |b::bs,hO,k,(x,y),cs,hk,h=>by
  simp only[AL.out,List.length_append]at hk h ⊢;obtain⟨c1,c2,rfl,h1,h2⟩:=ax.1 h;have hO1:b.flat=true∨∀i,O' i→O i:=hO.imp (fun h=>by simp only[List.all_cons,Bool.and_eq_true]at h;exact h.1) (fun h=>h);have hO2:bs.all Ty.flat=true∨∀i,O' i→O i:=hO.imp (fun h=>by simp only[List.all_cons,Bool.and_eq_true]at h;exact h.2) (fun h=>h);refine ax.2 ⟨c1,c2,rfl,Ty.shift sh hO1 (by omega) h1, ?_⟩;rw[Ty.kD (base+k) k,Nat.add_assoc];exact AL.shift sh hO2 (by omega) h2
theorem AL.zD:∀{ts:List Ty} {x:AL ts} (k:Nat),(AL.out k ts x).1.length=ts.length
 |[],_,_=>rfl
 |b::bs,(x,y),k=>by simp[AL.out,AL.zD]
theorem xW{base:Nat}{rs:List Ty}(hO:rs.all Ty.flat=true∨∀i,O' i→O i){y:AL rs}(sh:qD base (AL.res rs y).1.length ρ H aB H'){v:Value}(h:ab ρ H O w (AL.res rs y).2 v):ab aB H' O' w (oneOf (AL.out base rs y).1) v:=by
 unfold AL.res at h sh;simp only[]at h sh;have hl:∀vs,bE ρ H O w (AL.out 0 rs y).1 vs→bE aB H' O' w (AL.out (base+0) rs y).1 vs:=fun vs=>AL.shift (k:=0) (x:=y) (O:=O) (O':=O') (w:=w) sh hO (by omega);have l0:=AL.zD (x:=y) 0;have l1:=AL.zD (x:=y) base;generalize (AL.out 0 rs y).1=aG at *;rw[Nat.add_zero]at hl;generalize (AL.out base rs y).1=bs at *;unfold oneOf at h ⊢;split at h
 ·rename_i a;cases bs with
  |nil=>simp at l0 l1;omega
  |cons b bs=>
   cases bs with
   |nil=>
    have:=hl [v] (ax.2 ⟨v,[],rfl,h,aU.2 rfl⟩);obtain⟨v',rest,e,h1,_⟩:=ax.1 this;cases e;exact h1
   |cons c cs=>simp at l0 l1;omega
 ·rename_i cv;split
  ·rename_i b;cases aG with
   |nil=>simp at l0 l1;omega
   |cons a aG=>
    cases aG with
    |nil=>exact(cv a rfl).elim
    |cons c cs=>simp at l0 l1;omega
  ·unfold ab at *;obtain⟨us,h1,h2⟩:=h;exact⟨us,h1,hl us h2⟩
def vd(P:Program)(Z:aX)(f:FuncId)(s:Nat→List AV→RM bC):Prop:=
 ∀(base:Nat) (args:List AV) (H:aJ) (q:bC),(s base args).eval H=some q→bw q.need→∀(ρ:Nat→Value) (G:Nat→Prop) (w:World) (vs:List Value),
  (∀i,i<q.new.length→H (base+i)=none)→ZAt Z ρ H w→Sat ρ H G w→bE ρ H (aN ρ H G) w args vs→
  Calls P f vs.toArray w fun en w'=>∃v,en=.returned v∧Good ρ H G w (c9 H q.up base q.new) (q.r base) v w'
theorem dr.sum{f:FuncId}{ts rs:List Ty}{pre:AL ts→List Prop}{F:AL ts→AL rs}(h:dr P Z f ts rs pre F):vd P Z f (bZ ts rs pre F):=by
 intro base args H q hq hn ρ G w vs e9 hz hs hd;unfold bZ at hq;obtain⟨asa,hq,h1⟩:=RM.aeQ hq hs;split at hq
 ·rename_i asb h2;split at hq
  ·rename_i x h3;rw[Bool.cond_eq_ite]at hq;split at hq
   ·rename_i abe;simp only[RM.eval,Option.some.injEq]at hq;subst hq
    have apQ:∀b,¬aN (fun _=>undef) (fun _=>none) (fun _=>False) b:=by
     rintro b (⟨id,o,ho,_⟩|hb)
     ·cases ho
     ·exact hb
    have E:Emb (fun _=>none) ρ H (fun _=>False) (fun _=>undef) (fun _=>none) (aN (fun _=>undef) (fun _=>none) (fun _=>False)):=⟨fun i j kp=>(by cases kp),fun b hb=>(apQ b hb).elim⟩;have hd2:=tC E h2 (h1 vs hd);have hd3:bE (fun _=>undef) (fun _=>none) (aN (fun _=>undef) (fun _=>none) (fun _=>False)) w (AL.av ts x) vs:=AL.nB h3 hd2;refine(h x (AL.okL hd3) hn (fun _=>False) w vs (fun b hb=>hb.elim) hz.1 hd3).mono ?_;rintro e w' ⟨v,he,lF,g1,g2,g3,g4⟩;refine⟨v,he, ?_⟩;simp only[]
    have apR:rs.all Ty.oU=true:=by
     rw[List.all_eq_true]at abe ⊢;intro t ht;have:=abe t ht;cases t with
     |b y=>cases y<;>first|rfl|exact this|cases this
     |st bs=>
      change bs.all B.flat=true at this;show bs.all B.oU=true;rw[List.all_eq_true]at this ⊢;intro b hb;have:=this b hb;cases b<;>first|rfl|exact this|cases this
    have hpl:=AL.eI apR (x:=F x) (base:=0);have aiD:(AL.res rs (F x)).1=(AL.out 0 rs (F x)).2:=rfl;rw[←aiD]at hpl;generalize hL:(AL.res rs (F x)).1=L at *
    have pH:∀b,Own lF (lk L) b→w.heap.size≤b:=fun b hb=>by
     rcases g3.fP b (.inl hb)with h5|h5
     ·exact(apQ b h5).elim
     ·exact h5
    let gl:Nat→Value:=fun id=>if base≤id∧id<base+L.length then lF (id - base)else ρ id
    let H2:=c9 H [] base L;have hH2:∀id,H2 id=if base≤id∧id<base+L.length then L[id - base]? else H id:=fun id=>rfl
    have sh:qD base L.length lF (lk L) gl H2:=⟨fun i hi=>by simp only[gl];rw[if_pos (by omega)];congr 1;omega,fun i hi=>by rw[hH2,if_pos (by omega)];simp[lk]⟩
    have hold:∀{id:Nat} {o:ad},H id=some o→¬(base≤id∧id<base+L.length):=fun{id o} ho hc=>by
     have:=e9 (id - base) (by simp only[];omega);rw[show base+(id - base)=id from by omega,ho]at this;cases this
    have xX:∀b,Own gl H2 b→Own lF (lk L) b∨Own ρ H b:=by
     rintro b ⟨id,o,ho,ha,hb⟩;rw[hH2]at ho;simp only[gl]at hb;split at ho
     ·rename_i hc;rw[if_pos hc]at hb;exact .inl ⟨id - base,o,ho,ha,hb⟩
     ·rename_i hc;rw[if_neg hc]at hb;exact .inr ⟨id,o,ho,ha,hb⟩
    have heap:∀b,b<w.heap.size→w'.heap[b]? =w.heap[b]? :=fun b hb=>g4.heap b hb (fun ho=>apQ b (.inl ho));have abf:w.heap.size≤w'.heap.size:=g3.size
    have st:Step ρ H (aN ρ H G) w gl H2 (aN gl H2 G) w':=by
     refine⟨fun id o ho=> ?_,fun id o ho=> ?_,fun b hb=> ?_,fun b hb _=>heap b hb,abf⟩
     ·simp only[gl];rw[if_neg (hold ho)]
     ·exact⟨o,by rw[hH2,if_neg (hold ho)];exact ho,fun c' e' hc=>⟨c',e',hc,rfl,rfl⟩⟩
     ·rcases hb with hb|hb
      ·rcases xX b hb with h5|h5
       ·exact .inr (pH b h5)
       ·exact .inl (.inl h5)
      ·exact .inl (.inr hb)
    refine⟨gl,⟨fun id o ho=> ?_,fun i j oi oj b hi hj ai aj bi bj=> ?_,fun b hb hG=> ?_,fun b hb=>Nat.lt_of_lt_of_le (hs.low b hb) abf⟩,xW (.inl abe) (O:=aN lF (lk L) (fun _=>False)) (hL▸sh) (by rw[hL];exact g2),st,⟨g4.os,g4.tape,g4.output,fun b hb _=>heap b hb⟩⟩
    ·change H2 id=some o at ho;rw[hH2]at ho;simp only[gl];split at ho
     ·rename_i hc;rw[if_pos hc];have dV:=g1.obj (id - base) o ho;obtain⟨r,y,e',hr,rfl⟩:=hpl o (List.mem_of_getElem? ho);obtain⟨a0,cap,k0,k1,k2,k3⟩:=dV;refine⟨a0,cap,k0,k1,k2,k3.imp (fun h=>h) ?_⟩;rintro⟨b,f0,cells,fr,us,k4,k5,k6,k7,k8⟩;exact⟨b,f0,cells,fr,us,k4,k5,k6,k7,fun i j hi hj=>⟨(k8 i j hi hj).1,RK.abd hr hj (k8 i j hi hj).2⟩⟩
     ·rename_i hc;rw[if_neg hc];have dV:=hs.obj id o ho;refine dV.step st (fun b ha hb=>heap b ?_);exact gP hs ⟨id,o,ho,ha,hb⟩
    ·change H2 i=some oi at hi;change H2 j=some oj at hj;rw[hH2]at hi hj;simp only[gl]at bi bj;split at hi
     ·rename_i ci;rw[if_pos ci]at bi;have o1:Own lF (lk L) b:=⟨_,oi,hi,ai,bi⟩;split at hj
      ·rename_i cj;rw[if_pos cj]at bj;have:=g1.inj (i - base) (j - base) oi oj b hi hj ai aj bi bj;omega
      ·rename_i cj;rw[if_neg cj]at bj;have:=gP hs ⟨j,oj,hj,aj,bj⟩;have:=pH b o1;omega
     ·rename_i ci;rw[if_neg ci]at bi;have h6:=gP hs ⟨i,oi,hi,ai,bi⟩;split at hj
      ·rename_i cj;rw[if_pos cj]at bj;have:=pH b ⟨_,oj,hj,aj,bj⟩;omega
      ·rename_i cj;rw[if_neg cj]at bj;exact hs.inj i j oi oj b hi hj ai aj bi bj
    ·rcases xX b hb with h5|h5
     ·have:=pH b h5;have:=hs.low b hG;omega
     ·exact hs.apart b h5 hG
   ·simp[RM.eval]at hq
  ·simp[RM.eval]at hq
 ·simp[RM.eval]at hq
abbrev aE:=List (FuncId×(Nat→List AV→RM bC))
def aE.get:aE→FuncId→Option (Nat→List AV→RM bC)
 |[],_=>none
 |(g,s)::t,f=>bif g.beq f then some s else aE.get t f
def aE.sum(t:aE):fb:=fun base f args=>match t.get f with
 |some s=>s base args
 |none=>.fail "no summary"
def aE.Ok(P:Program)(Z:aX)(t:aE):Prop:=∀x∈t,vd P Z x.1 x.2
theorem aE.get_mem:∀{t:aE} {f:FuncId} {s:Nat→List AV→RM bC},t.get f=some s→(f,s)∈t
 |[],f,s,h=>by simp[aE.get]at h
 |(g,s')::t,f,s,h=>by
  simp only[aE.get,Bool.cond_eq_ite]at h;split at h
  ·rename_i hg;obtain rfl:=Nat.eq_of_beq_eq_true hg;cases h;simp
  ·exact List.mem_cons_of_mem _ (aE.get_mem h)
theorem aE.sOk{t:aE}(h:t.Ok P Z):SOk P t.sum Z:=by
 intro base f args H q _ hq hn ρ G w vs hf hz hs hd;unfold aE.sum at hq;split at hq
 ·rename_i s hg;exact h _ (aE.get_mem hg) base args H q hq hn ρ G w vs hf hz hs hd
 ·simp[RM.eval]at hq
theorem aE.Ok.nil:aE.Ok P Z []:=fun x hx=>by simp at hx
theorem aE.Ok.cons{f:FuncId}{s:Nat→List AV→RM bC}{t:aE}(h:vd P Z f s)(ht:aE.Ok P Z t):aE.Ok P Z ((f,s)::t):=by
 intro x hx;rcases List.mem_cons.1 hx with rfl|hx
 ·exact h
 ·exact ht x hx
end
end Go.Sx
namespace Go.Sx
open Go
def aeR(a:AV)(ids:List Nat)(k:AV→List Nat→RM bC):RM bC:=
 match a with
 |.vec id=>.look id fun
  |some (.vec c _)=>k (.s (.ro c)) (id::ids)
  |_=>.fail "frz"
 |a=>k a ids
def aiE:List AV→List Nat→(List AV→List Nat→RM bC)→RM bC
 |[],ids,k=>k [] ids
 |a::aG,ids,k=>aeR a ids fun a' ids=>aiE aG ids fun dk ids=>k (a'::dk) ids
def aiF(a:AV)(ids:List Nat)(k:AV→List Nat→RM bC):RM bC:=
 match a with
 |.agg an=>aiE an ids fun s ids=>k (.agg s) ids
 |a=>aeR a ids k
def aiG:List AV→List Nat→(List AV→List Nat→RM bC)→RM bC
 |[],ids,k=>k [] ids
 |a::aG,ids,k=>aiF a ids fun a' ids=>aiG aG ids fun dk ids=>k (a'::dk) ids
def ve(ts rs:List Ty)(pre:AL ts→List Prop)(F:AL ts→AL rs):Nat→List AV→RM bC:=fun _ args=>
 aiG args [] fun args ids=>match allM (rn (fun _=>none) 20) args with
  |some args=>(match AL.rd ts args with
   |some x=>bif rs.all Ty.oU then .ret ⟨pre x,ids.map fun i=>(i,.dead),(AL.res rs (F x)).1,fun base=>oneOf (AL.out base rs (F x)).1⟩else .fail "sum: not flat"
   |none=>.fail "sum: arguments")
  |none=>.fail "sum: names"
section
variable{ρ aB:Nat→Value}{H H':aJ}{G O O':Nat→Prop}{w w':World}{P:Program}{Z:aX}
structure abg (ρ:Nat→Value) (H:aJ) (G:Nat→Prop) (ids mC:List Nat):Prop where
 sub:∀i∈ids,i∈mC
 vec:∀i∈mC,i∈ids∨∃c e,H i=some (.vec c e)
abbrev j8(ρ:Nat→Value)(H:aJ)(G:Nat→Prop)(ids:List Nat)(O:Nat→Prop):Prop:=(∀b,O b→aN ρ H G b)∧∀i∈ids,∀b,er (ρ i)=some b→¬O b
theorem abg.trans{a b c:List Nat}(h:abg ρ H G a b)(k:abg ρ H G b c):abg ρ H G a c:=
 ⟨fun i hi=>k.sub i (h.sub i hi),fun i hi=>(k.vec i hi).elim (fun h1=>h.vec i h1) .inr⟩
theorem abh{a:AV}{ids:List Nat}{k:AV→List Nat→RM bC}{q:bC}(h:(aeR a ids k).eval H=some q)(hs:Sat ρ H G w):
 ∃a' mC,(k a' mC).eval H=some q∧abg ρ H G ids mC∧∀O,j8 ρ H G mC O→(∀v,ab ρ H (aN ρ H G) w a v→ab ρ H O w a' v)∧(∀cs,aK ρ H (aN ρ H G) w a cs→aK ρ H O w a' cs):=by
 have xS:∀O,j8 ρ H G ids O→Step ρ H (aN ρ H G) w ρ H O w:=fun O hO=>⟨fun _ _ _=>rfl,fun _ o h=>⟨o,h,fun c' e' e=>⟨c',e',e,rfl,rfl⟩⟩,fun b hb=>.inl (hO.1 b hb),fun _ _ _=>rfl,Nat.le_refl _⟩;unfold aeR at h;split at h
 ·rename_i id;simp only[RM.eval]at h;split at h
  ·rename_i c e hc;obtain⟨r,cap,h0,h1,h2,h3⟩:=hs.obj id _ hc;refine⟨_,_,h,⟨fun i hi=>by simp[hi],fun i hi=> ?_⟩,fun O hO=> ?_⟩
   ·rcases List.mem_cons.1 hi with rfl|hi
    ·exact .inr ⟨c,e,hc⟩
    ·exact .inl hi
   ·have key:∀v,az ρ H (aN ρ H G) w (.vec id) v→aR O w (.ro c) v:=by
     intro v hv;unfold az at hv;obtain⟨_,o,ho,h4⟩:=hv;rw[hc]at ho;cases ho;rw[h4 c e rfl];have xT:=hO.2 id (by simp);rw[h0]at xT ⊢;rcases h3 with h3|⟨b,f,cells,fr,us,rfl,h5,h6,h7,h8⟩
     ·exact .ro c r cap (fun _ _=>undef) 0 0 h1 h2 (fun h=>by omega) (fun i j hi hj=>by omega) (fun i j hi hj=>by omega)
     ·by_cases wR:cap=0
      ·exact .ro c _ cap (fun _ _=>undef) 0 0 h1 h2 (fun h=>by omega) (fun i j hi hj=>by omega) (fun i j hi hj=>by omega)
      ·refine .ro c _ cap us b f h1 h2 (fun _=>⟨rfl,xT b (by simp[er,wR]),(Array.getElem?_eq_some_iff.1 h5).1⟩) (fun i j hi hj=> ?_) (fun i j hi hj=>(h8 i j hi hj).2.less hO.1);have:=(h8 i j hi hj).1;simp only[World.cell?,h5];simpa using this
    exact⟨fun v hv=>aw (key v (by unfold ab at hv;exact hv)),fun cs hv=>by unfold aK at *;obtain⟨u,rfl,h9⟩:=hv;exact⟨u,rfl,key u h9⟩⟩
  ·simp[RM.eval]at h
 ·exact⟨_,_,h,⟨fun i hi=>hi,fun i hi=>.inl hi⟩,fun O hO=>⟨fun v hv=>ab.step (xS O hO) _ v hv,fun cs hv=>aK.step (xS O hO) _ cs hv⟩⟩
theorem j8.sub{a b:List Nat}(h:∀i∈a,i∈b)(k:j8 ρ H G b O):j8 ρ H G a O:=⟨k.1,fun i hi=>k.2 i (h i hi)⟩
theorem abi:∀{aG:List AV} {ids:List Nat} {k:List AV→List Nat→RM bC} {q:bC},(aiE aG ids k).eval H=some q→Sat ρ H G w→
 ∃dk mC,(k dk mC).eval H=some q∧abg ρ H G ids mC∧∀O,j8 ρ H G mC O→∀cs,ao ρ H (aN ρ H G) w aG cs→ao ρ H O w dk cs
 |[],ids,k,q,h,hs=>⟨[],ids,h,⟨fun _ h=>h,fun _ h=>.inl h⟩,fun O _ cs hd=>by rw[aq.1 hd];exact aq.2 rfl⟩
 |a::aG,ids,k,q,h,hs=>by
  obtain⟨a',i1,h1,f1,h2⟩:=abh h hs;obtain⟨dk,i2,h3,f2,h4⟩:=abi h1 hs;refine⟨a'::dk,i2,h3,f1.trans f2,fun O hO cs hd=> ?_⟩;obtain⟨c1,c2,rfl,h6,h7⟩:=af.1 hd;exact af.2 ⟨c1,c2,rfl,(h2 O (j8.sub f2.sub hO)).2 c1 h6,h4 O hO c2 h7⟩
theorem aiH{a:AV}{ids:List Nat}{k:AV→List Nat→RM bC}{q:bC}(h:(aiF a ids k).eval H=some q)(hs:Sat ρ H G w):
 ∃a' mC,(k a' mC).eval H=some q∧abg ρ H G ids mC∧∀O,j8 ρ H G mC O→∀v,ab ρ H (aN ρ H G) w a v→ab ρ H O w a' v:=by
 unfold aiF at h;split at h
 ·obtain⟨dk,i1,h1,f1,h2⟩:=abi h hs;refine⟨_,i1,h1,f1,fun O hO v hd=> ?_⟩;unfold ab at *;obtain⟨cs,h3,h4⟩:=hd;exact⟨cs,h3,h2 O hO cs h4⟩
 ·obtain⟨a',i1,h1,f1,h2⟩:=abh h hs;exact⟨a',i1,h1,f1,fun O hO=>(h2 O hO).1⟩
theorem abj:∀{aG:List AV} {ids:List Nat} {k:List AV→List Nat→RM bC} {q:bC},(aiG aG ids k).eval H=some q→Sat ρ H G w→
 ∃dk mC,(k dk mC).eval H=some q∧abg ρ H G ids mC∧∀O,j8 ρ H G mC O→∀cs,bE ρ H (aN ρ H G) w aG cs→bE ρ H O w dk cs
 |[],ids,k,q,h,hs=>⟨[],ids,h,⟨fun _ h=>h,fun _ h=>.inl h⟩,fun O _ cs hd=>by rw[aU.1 hd];exact aU.2 rfl⟩
 |a::aG,ids,k,q,h,hs=>by
  obtain⟨a',i1,h1,f1,h2⟩:=aiH h hs;obtain⟨dk,i2,h3,f2,h4⟩:=abj h1 hs;refine⟨a'::dk,i2,h3,f1.trans f2,fun O hO cs hd=> ?_⟩;obtain⟨c1,c2,rfl,h6,h7⟩:=ax.1 hd;exact ax.2 ⟨c1,c2,rfl,h2 O (j8.sub f2.sub hO) c1 h6,h4 O hO c2 h7⟩
theorem sY:∀(ids:List Nat) (j:Nat),cN (ids.map fun i=>(i,.dead)) j=if j∈ids then some .dead else none
 |[],j=>rfl
 |i::ids,j=>by
  simp only[List.map_cons,cN,sY ids j];by_cases h:j∈ids
  ·simp[h]
  ·by_cases h2:j=i
   ·subst h2;simp[h]
   ·simp[h,h2]
theorem dr.ve{f:FuncId}{ts rs:List Ty}{pre:AL ts→List Prop}{F:AL ts→AL rs}(h:dr P Z f ts rs pre F):vd P Z f (ve ts rs pre F):=by
 intro base args H q hq hn ρ G w vs e9 hz hs hd;unfold Sx.ve at hq;obtain⟨asa,ids,hq,hf,h1⟩:=abj hq hs;split at hq
 ·rename_i asb h2;split at hq
  ·rename_i x h3;rw[Bool.cond_eq_ite]at hq;split at hq
   ·rename_i abe;simp only[RM.eval,Option.some.injEq]at hq;subst hq;have ry:∀i∈ids,∃c e,H i=some (.vec c e):=fun i hi=>(hf.vec i hi).elim (fun h=>by simp at h) (fun h=>h);let Gc:Nat→Prop:=fun b=>aN ρ H G b∧∀i∈ids,er (ρ i)≠some b
    have apS:∀b,aN (fun _=>undef) (fun _=>none) Gc b→Gc b:=by
     rintro b (⟨id,o,ho,_⟩|hb)
     ·cases ho
     ·exact hb
    have xT:j8 ρ H G ids (aN (fun _=>undef) (fun _=>none) Gc):=⟨fun b hb=>(apS b hb).1,fun i hi b hb hO=>(apS b hO).2 i hi hb⟩;have E:Emb (fun _=>none) ρ H (aN (fun _=>undef) (fun _=>none) Gc) (fun _=>undef) (fun _=>none) (aN (fun _=>undef) (fun _=>none) Gc):=⟨fun i j kp=>(by cases kp),fun b hb=>hb⟩;have hd2:=tC E h2 (h1 _ xT vs hd);have hd3:bE (fun _=>undef) (fun _=>none) (aN (fun _=>undef) (fun _=>none) Gc) w (AL.av ts x) vs:=AL.nB h3 hd2;refine(h x (AL.okL hd3) hn Gc w vs (fun b hb=>yV hs hb.1) hz.1 hd3).mono ?_;rintro e w' ⟨v,he,lF,g1,g2,g3,g4⟩;refine⟨v,he, ?_⟩;simp only[];have hpl:=AL.eI abe (x:=F x) (base:=0);have aiD:(AL.res rs (F x)).1=(AL.out 0 rs (F x)).2:=rfl;rw[←aiD]at hpl;generalize hL:(AL.res rs (F x)).1=L at *
    have pH:∀b,Own lF (lk L) b→w.heap.size≤b:=fun b hb=>by
     rcases g3.fP b (.inl hb)with h5|h5
     ·exact(g1.apart b hb (apS b h5)).elim
     ·exact h5
    let gl:Nat→Value:=fun id=>if base≤id∧id<base+L.length then lF (id - base)else ρ id
    let H2:=c9 H (ids.map fun i=>(i,.dead)) base L
    have hold:∀{id:Nat} {o:ad},H id=some o→¬(base≤id∧id<base+L.length):=fun{id o} ho hc=>by
     have:=e9 (id - base) (by simp only[];omega);rw[show base+(id - base)=id from by omega,ho]at this;cases this
    have hH2:∀id,H2 id=if id∈ids then some .dead else if base≤id∧id<base+L.length then L[id - base]? else H id:=fun id=>by
     simp only[H2,c9,sY];split
     ·rename_i hx;split at hx
      ·rename_i hi;cases hx;rw[if_pos hi]
      ·cases hx
     ·rename_i hx;split at hx
      ·cases hx
      ·rename_i hi;rw[if_neg hi]
    have apl:∀id,id∈ids→¬(base≤id∧id<base+L.length):=fun id hi=>by
     obtain⟨c,e,hce⟩:=ry id hi;exact hold hce
    have sh:qD base L.length lF (lk L) gl H2:=⟨fun i hi=>by simp only[gl];rw[if_pos (by omega)];congr 1;omega,fun i hi=>by
     rw[hH2,if_neg (fun hm=>apl _ hm ⟨by omega,by omega⟩),if_pos (by omega)];simp[lk]⟩
    have vg:∀{id:Nat} {o:ad},H2 id=some o→o.alive=true→(base≤id∧id<base+L.length∧L[id - base]? =some o∧gl id=lF (id - base))∨(id ∉ ids∧H id=some o∧gl id=ρ id):=by
     intro id o ho ha;rw[hH2]at ho;split at ho
     ·cases ho;cases ha
     ·rename_i hi;split at ho
      ·rename_i hc;exact .inl ⟨hc.1,hc.2,ho,by simp only[gl];rw[if_pos hc]⟩
      ·rename_i hc;exact .inr ⟨hi,ho,by simp only[gl];rw[if_neg hc]⟩
    have au6:∀{id:Nat} {o:ad} {b:Nat},id ∉ ids→H id=some o→o.alive=true→er (ρ id)=some b→∀i∈ids,er (ρ i)≠some b:=by
     intro id o b du ho ha hb i hi hb2;obtain⟨c,e,hce⟩:=ry i hi;have:=hs.inj id i o _ b ho hce ha rfl hb hb2;exact du (this▸hi)
    have xX:∀b,Own gl H2 b→Own lF (lk L) b∨(Own ρ H b∧∀i∈ids,er (ρ i)≠some b):=by
     rintro b ⟨id,o,ho,ha,hb⟩;rcases vg ho ha with⟨_,_,h5,h6⟩|⟨h5,h6,h7⟩
     ·rw[h6]at hb;exact .inl ⟨id - base,o,h5,ha,hb⟩
     ·rw[h7]at hb;exact .inr ⟨⟨id,o,h6,ha,hb⟩,au6 h5 h6 ha hb⟩
    have asc:∀b,aN gl H2 G b→aN lF (lk L) Gc b:=by
     rintro b (hb|hb)
     ·rcases xX b hb with h5|h5
      ·exact .inl h5
      ·exact .inr ⟨.inl h5.1,h5.2⟩
     ·refine .inr ⟨.inr hb,fun i hi lT=> ?_⟩;obtain⟨c,e,hce⟩:=ry i hi;exact hs.apart b ⟨i,_,hce,rfl,lT⟩ hb
    have heap:∀b,b<w.heap.size→w'.heap[b]? =w.heap[b]? :=fun b hb=>g4.heap b hb (fun⟨id,o,ho,_⟩=>by cases ho);have abf:w.heap.size≤w'.heap.size:=g3.size
    have st:Step ρ H (aN ρ H G) w gl H2 (aN gl H2 G) w':=by
     refine⟨fun id o ho=> ?_,fun id o ho=> ?_,fun b hb=> ?_,fun b hb _=>heap b hb,abf⟩
     ·simp only[gl];rw[if_neg (hold ho)]
     ·by_cases hi:id∈ids
      ·exact⟨.dead,by rw[hH2,if_pos hi],fun c' e' hc=>by cases hc⟩
      ·exact⟨o,by rw[hH2,if_neg hi,if_neg (hold ho)];exact ho,fun c' e' hc=>⟨c',e',hc,rfl,rfl⟩⟩
     ·rcases hb with hb|hb
      ·rcases xX b hb with h5|h5
       ·exact .inr (pH b h5)
       ·exact .inl (.inl h5.1)
      ·exact .inl (.inr hb)
    refine⟨gl,⟨fun id o ho=> ?_,fun i j oi oj b hi hj ai aj bi bj=> ?_,fun b hb hG=> ?_,fun b hb=>Nat.lt_of_lt_of_le (hs.low b hb) abf⟩,xW (.inr asc) (O:=aN lF (lk L) Gc) (hL▸sh) (by rw[hL];exact g2),st,⟨g4.os,g4.tape,g4.output,fun b hb _=>heap b hb⟩⟩
    ·cases uo:o.alive
     ·cases o with
      |dead=>trivial
      |own _ _=>cases uo
      |vec _ _=>cases uo
      |map _ _=>cases uo
      |wK _ _ _=>cases uo
      |iter _ _ _ _ _=>cases uo
     ·rcases vg ho uo with⟨_,_,h5,h6⟩|⟨h5,h6,h7⟩
      ·rw[h6];have dV:=g1.obj (id - base) o h5;obtain⟨r,y,e',hr,rfl⟩:=hpl o (List.mem_of_getElem? h5);obtain⟨a0,cap,k0,k1,k2,k3⟩:=dV;refine⟨a0,cap,k0,k1,k2,k3.imp (fun h=>h) ?_⟩;rintro⟨b,f0,cells,fr,us,k4,k5,k6,k7,k8⟩;exact⟨b,f0,cells,fr,us,k4,k5,k6,k7,fun i j hi hj=>⟨(k8 i j hi hj).1,RK.abd hr hj (k8 i j hi hj).2⟩⟩
      ·rw[h7];exact(hs.obj id o h6).step st (fun b ha hb=>heap b (gP hs ⟨id,o,h6,ha,hb⟩))
    ·rcases vg hi ai with⟨i1,i2,i3,i4⟩|⟨i1,i2,i3⟩
     ·rw[i4]at bi;rcases vg hj aj with⟨j1,j2,j3,j4⟩|⟨j1,j2,j3⟩
      ·rw[j4]at bj;have:=g1.inj (i - base) (j - base) oi oj b i3 j3 ai aj bi bj;omega
      ·rw[j3]at bj;have:=gP hs ⟨j,oj,j2,aj,bj⟩;have:=pH b ⟨_,oi,i3,ai,bi⟩;omega
     ·rw[i3]at bi;rcases vg hj aj with⟨j1,j2,j3,j4⟩|⟨j1,j2,j3⟩
      ·rw[j4]at bj;have:=gP hs ⟨i,oi,i2,ai,bi⟩;have:=pH b ⟨_,oj,j3,aj,bj⟩;omega
      ·rw[j3]at bj;exact hs.inj i j oi oj b i2 j2 ai aj bi bj
    ·rcases xX b hb with h5|h5
     ·have:=pH b h5;have:=hs.low b hG;omega
     ·exact hs.apart b h5.1 hG
   ·simp[RM.eval]at hq
  ·simp[RM.eval]at hq
 ·simp[RM.eval]at hq
end
end Go.Sx
namespace Go.Sx
open Go
def slF:Nat→Nat→List (Nat×AV)→List AV
 |0,_,_=>[]
 |n+1,i,[]=>.s .aQ::slF n (i+1) []
 |n+1,i,(j,a)::l=>bif j.beq i then a::slF n (i+1) l else .s .aQ::slF n (i+1) ((j,a)::l)
def sl(n:Nat)(l:List (Nat×AV)):List AV:=slF n 0 l
def fw:Code→Option Nat
 |.region id _ _=>some id
 |.seq a b=>match fw a with
  |some i=>some i
  |none=>fw b
 |.cond _ a b=>match fw a with
  |some i=>some i
  |none=>fw b
 |.block _ c|.loop c|.scope c=>fw c
 |_=>none
def l8(key:Nat):Code→List Item→Option (List Item)
 |.seq a b,k=>match l8 key a (.code b::k)with
  |some r=>some r
  |none=>l8 key b k
 |.cond _ a b,k=>match l8 key a k with
  |some r=>some r
  |none=>l8 key b k
 |.block id c,k=>l8 key c (.inBlock id::k)
 |.scope c,k=>l8 key c (.inScope c::k)
 |.loop c,k=>match fw c with
  |some i=>bif i.beq key then some (.code c::.inLoop c::k)else l8 key c (.inLoop c::k)
  |none=>l8 key c (.inLoop c::k)
 |_,_=>none
def hd(fn:Func)(key:Nat):List Item:=(l8 key (fn.body.getD .skip) []).getD []
def iY(key:Nat):Code→List Item→Option (List Item)
 |.region id ops d,k=>bif id.beq key then some (.code (.region id ops d)::k)else none
 |.seq a b,k=>match iY key a (.code b::k)with
  |some r=>some r
  |none=>iY key b k
 |.cond _ a b,k=>match iY key a k with
  |some r=>some r
  |none=>iY key b k
 |.block id c,k=>iY key c (.inBlock id::k)
 |.scope c,k=>iY key c (.inScope c::k)
 |.loop c,k=>iY key c (.inLoop c::k)
 |_,_=>none
def hr(fn:Func)(key:Nat):List Item:=(iY key (fn.body.getD .skip) []).getD []
def keyOf(c:bA):Nat:=match c.todo with
 |.code x::_=>aep c.stk ((fw x).getD 0)
 |.inRegion ops todo::_=>aii c.stk c.stk.rid (ops.size - todo.length)
 |_=>0
def agP:List (Nat×Norm)→Nat→Option Norm
 |[],_=>none
 |(i,n)::l,k=>bif i.beq k then some n else agP l k
def asd:List Item→Bool
 |.inRegion _ _::_=>true
 |_=>false
def Tree.norm(ns:List (Nat×Norm)):Tree→Tree
 |.need p t=>.need p (t.norm ns)
 |.ite b t e=>.ite b (t.norm ns) (e.norm ns)
 |.both p q t e=>.both p q (t.norm ns) (e.norm ns)
 |.ret H v=>.ret H v
 |.stuck w=>.stuck w
 |.at c=>bif asd c.todo&&(agP ns (keyOf c)).isNone then .at c else match agP ns (keyOf c)with
  |some N=>(match N.run c with
   |some c'=>.at c'
   |none=>.stuck "norm")
  |none=>.stuck "no norm"
def aiI:List (Nat×Norm)→Nat→Bool
 |[],_=>false
 |(i,_)::l,k=>i.beq k||aiI l k
def anS:List FuncId→FuncId→Bool
 |[],_=>false
 |f::l,g=>f.beq g||anS l g
def run(P:Program)(S:fb)(fn:Func)(ns:List (Nat×Norm))(c:bA)(inl:List FuncId:=[]):Tree:=(exec P S fn (aiI ns) (anS inl) 1000 true c).norm ns
def oV(fn:Func)(key i:Nat):List Item:=
 match hr fn key with
 |.code (.region _ ops _)::k=>.inRegion ops (List.range' i (ops.size - i))::k
 |_=>[]
def kE(key:Nat):Code→List Item→Option (Lp×List Item)
 |.rangeFunc _ ps zm body,k=>match gT body with
  |some i=>bif i.beq key then some (⟨ps.toList,zm,body⟩,k)else none
  |none=>bif key.beq 0 then some (⟨ps.toList,zm,body⟩,k)else none
 |.seq a b,k=>match kE key a (.code b::k)with
  |some r=>some r
  |none=>kE key b k
 |.cond _ a b,k=>match kE key a k with
  |some r=>some r
  |none=>kE key b k
 |.block id c,k=>kE key c (.inBlock id::k)
 |.scope c,k=>kE key c (.inScope c::k)
 |.loop c,k=>kE key c (.inLoop c::k)
 |_,_=>none
def og(fn:Func)(f:Option FuncId)(key:Nat)(marks:Nat):sO:=
 match kE key (fn.body.getD .skip) []with
 |some p=>⟨f,fn.ntmps,false,marks,some (p.1,.ready),p.2,(key,0)⟩
 |none=>⟨f,fn.ntmps,false,marks,none,[],(key,0)⟩
section
variable{P:Program}{S:fb}{Z:aX}{X:Ctx}{K:List ad→AV→Prop}{C C':bA→Prop}
theorem abk:∀{l:List (Nat×Norm)} {k:Nat} {N:Norm},agP l k=some N→∃i,(i,N)∈l
 |[],k,N,h=>by simp[agP]at h
 |(i,n)::l,k,N,h=>by
  simp only[agP,Bool.cond_eq_ite]at h;split at h
  ·cases h;exact⟨i,by simp⟩
  ·obtain⟨j,hj⟩:=abk h;exact⟨j,by simp[hj]⟩
theorem iB{ns:List (Nat×Norm)}{f:FuncId}(h0:∀x∈ns,∀id,x.2.m≤id→X.H id=none):∀(t:Tree),(t.norm ns).aM K (Safe P f X K)→t.aM K (Safe P f X K)
 |.need p t,h=>⟨h.1,iB h0 t h.2⟩
 |.ite b t e,h=>⟨fun hb=>iB h0 t (h.1 hb),fun hb=>iB h0 e (h.2 hb)⟩
 |.both _ _ t e,h=>⟨fun hp=>iB h0 t (h.1 hp),fun hq=>iB h0 e (h.2 hq)⟩
 |.ret H v,h=>h
 |.stuck w,h=>h
 |.at c,h=>by
  unfold Tree.norm at h;rw[Bool.cond_eq_ite]at h;split at h
  ·exact h
  split at h
  ·rename_i N hN;split at h
   ·rename_i c' hc;obtain⟨i,hi⟩:=abk hN;exact Norm.safe (h0 _ hi) hc h
   ·exact h.elim
  ·exact h.elim
theorem aS{rs:List Ty}{y:AL rs}(y':AL rs){L:List ad}{r:AV}(h:y=y')(hc:aly (rs.flatMap Ty.ces) L r=some (AL.res rs y')):Ends rs y L r:=by
 subst h;exact hc
theorem cq{f:FuncId}{fn:Func}{ns:List (Nat×Norm)}{c:bA}{t:Tree}(hS:SOk P S Z)(mB:dT Z X)(hm:P.follows .mixedOrders=true)(hf:P.funcs[f]? =some fn)(h0:∀x∈ns,∀id,x.2.m≤id→X.H id=none)
 {inl:List FuncId} (ht:run P S fn ns c inl=t) (h:t.aM K (Safe P f X K)):Safe P f X K c:=by
 subst ht;exact fF hS mB hm hf 1000 true c (iB h0 _ h)
theorem oh{f:FuncId}{ι:Type}(c:ι→bA)(I:ι→Prop)(m:ι→Nat)(h:∀x,I x→(∀y,I y→m y<m x→Safe P f X K (c y))→Safe P f X K (c x)):∀x,I x→Safe P f X K (c x):=by
 intro x
 induction hn:m x using Nat.strongRecOn generalizing x with
 |ind n ih=>
  intro hx;subst hn;exact h x hx (fun y hy a8=>ih (m y) a8 y rfl hy)
end
end Go.Sx
namespace Go.Sx
open Go Go.RowKit Go.ChangeShapes Go.WideShapes Go.ChangeAt
section
variable{H:Type}{enc:TypeId×Value→H}{P:Program}{W W':World}{Z:aX}{base:Nat}{ρ:Nat→Value}{Hh:aJ}{O:Nat→Prop}
structure agQ (W W':World):Prop where
 os:W'.os=W.os
 output:W'.output=W.output
 heap:∀b,b<W.heap.size→W'.heap[b]? =W.heap[b]?
theorem agQ.at(h:agQ W W'){p:MemPlace}(hp:p.block<W.heap.size):W.sameAt W' p:=by
 have e:=h.heap p.block hp;cases p with
 |cell b o=>exact(lW (o:=o) e)
 |map b=>exact e
theorem zE{ts:List TypeId}(hl:laidOutB P=true)(hp:ts.all (fun t=>P.readableRec t&&decide (t<P.types.size))=true){sp':Nat→Bool}(hs:agQ W W'):∀{vs:List Value} {ds:List (DataW H)} {ps:List MemPlace},
 DataW.TrodAll enc P W 0 (fun _=>true) true ts vs ds ps→(∀p∈ps,p.block<W.heap.size)→(∀p∈ps,sp' p.block=true)→DataW.TrodAll enc P W' 0 sp' true ts vs ds ps:=by
 induction ts with
 |nil=>intro vs ds ps h _ _;cases vs<;>cases ds<;>simp[DataW.TrodAll]at h ⊢;exact h
 |cons t ts ih=>
  intro vs ds ps h a8 zF;simp only[List.all_cons,Bool.and_eq_true,decide_eq_true_eq]at hp;obtain⟨v,vs',d,ds',p,q,rfl,rfl,rfl,h1,h2⟩:=trodAll_cons h;refine⟨p,q, ?_,ih hp.2 h2 (fun x hx=>a8 x (by simp[hx])) (fun x hx=>zF x (by simp[hx])),rfl⟩;exact WideElems.Trod_stays hl hp.1.1 hp.1.2 h1 (fun x hx=>hs.at (a8 x (by simp[hx]))) (fun x hx=>zF x (by simp[hx]))
theorem agR(hs:agQ W W')(may:MemPlace→Prop):W.keptBut W' may:=by
 refine⟨hs.os,hs.output,fun i hi=> ?_⟩;rw[hs.heap i hi,Array.getElem?_eq_getElem hi];cases h:W.heap[i]with
 |cells c t fr=>exact⟨rfl,rfl,rfl,fun _ _=>rfl⟩
 |map es clock=>exact .inr ⟨rfl,rfl⟩
 |_=>rfl
theorem agS{fn:Func}{s:ChangeSpec}{apart fresh handsOn:Bool}{args:Array Value}{ds gs:List (DataW H)}{before:List MemPlace}{tb:TypeId}
 (hl:laidOutB P=true) (hp:fn.params.toList.all (fun t=>P.readableRec t&&decide (t<P.types.size))=true)
 (hr:fn.resultTypes= #[tb]) (hb:P.underlying tb=some .bool) (hv:s.vars=[])
 (hs:s.fn H ds={results:=[.lit (.bool true)],args:=ds})
 (hW:DataW.Whole enc P fn.params.toList s.vars apart W args.toList ds gs before) (aeS:agQ W W'):
 s.post enc P fn apart fresh handsOn false W args (.bool true) W':=by
 have hW':=hW;obtain⟨p,q,h1,h2,rfl,_,_⟩:=hW;rw[hv]at h2;obtain⟨rfl,rfl⟩:=trodVars_none h2;have a8:∀x∈p,x.block<W.heap.size:=fun x hx=>hW'.lt x (by simp[hx]);refine⟨ds,[],p++[],[],p,[],hW', ?_, ?_, ?_,agR aeS _,fun h=>by cases h⟩
 ·rw[List.append_nil,hs,hr];exact trodAll_mk1 (shut_bool hb true)
 ·rw[List.append_nil,hs];exact zE hl hp aeS h1 a8 (fun x hx=>by simpa using a8 x hx)
 ·rw[hv,List.append_nil,hs];rfl
end
end Go.Sx
namespace Go.Sx
open Go Go.RowKit Go.ChangeShapes Go.WideShapes Go.ChangeAt
def CL.app:(aG:List CK)→{bs:List CK}→CL aG→CL bs→CL (aG++bs)
 |[],_,_,y=>y
 |_::aG,_,x,y=>(x.1,CL.app aG x.2 y)
section
variable{H:Type}{enc:TypeId×Value→H}{P:Program}{W:World}{base:Nat}{ρ:Nat→Value}{Hh:aJ}
def RK.ck:RK→CK
 |.ints k=>.ints k
 |.strs=>.strs
 |.bR=>.bR
 |.ae cs=>.rows cs
def B.ck:B→CK
 |.int k=>.int k
 |.bool=>.bool
 |.str=>.str
 |.row r _=>r.ck
 |.nA r _=>r.ck
 |.arr k n=>.arr k n
 |.fn=>.bool
def RK.of:(r:RK)→r.ck.V→r.V
 |.ints _,y=>y
 |.strs,y=>y
 |.bR,y=>y
 |.ae _,y=>y
def B.of:(b:B)→b.ck.V→b.V
 |.int _,y=>y
 |.bool,y=>y
 |.str,y=>y
 |.row r _,y=>r.of y
 |.nA r _,y=>r.of y
 |.arr _ _,y=>y
 |.fn,_=>(0:Nat)
def BL.of:(bs:List B)→CL (bs.map B.ck)→BL bs
 |[],_=>()
 |b::bs,y=>(b.of y.1,BL.of bs y.2)
theorem vj{Z:aX}{f:FuncId}{ts:List Ty}{pre:AL ts→List Prop}(h:dr P Z f ts [.b .bool] pre (fun _=>(true,())))(hz:Z.ok W){x:AL ts}{vs:List Value}(hp:bw (pre x))
 (hd:bE (fun _=>undef) (fun _=>none) (fun _=>False) W (AL.av ts x) vs):Calls P f vs.toArray W fun e W'=>e=.returned (.bool true)∧agQ W W':=by
 have e0:aN (fun _=>undef) (fun _=>none) (fun _=>False)=fun _=>False:=by
  funext b;refine propext ⟨fun h=> ?_,False.elim⟩;rcases h with⟨id,o,ho,_⟩|h
  ·cases ho
  ·exact h
 refine(h x (AL.okL hd) hp (fun _=>False) W vs (fun _ h=>h.elim) hz (by rw[e0];exact hd)).mono ?_;rintro e W' ⟨v,rfl,aB,_,h2,_,h4⟩;have h5:ab aB (lk []) (aN aB (lk []) fun _=>False) W' (.s (.bool true)) v:=h2;have h6:=ak (by simp) h5;cases h6;exact⟨rfl,h4.os,h4.output,fun b hb=>h4.heap b hb (fun⟨id,o,ho,_⟩=>by cases ho)⟩
end
end Go.Sx
namespace Go.Sx
open Go
theorem aiJ(P:Program)(r:List (List Char))(h:behindMainWord (wordsSigns P.initOrder.toList)=[(Char.ofNat 99),(Char.ofNat 117),(Char.ofNat 116)]::r):P.make=some .cut:=by
 unfold Program.make;rw[h];kernel_rfl
theorem agT(P:Program)(r:List (List Char))(h:behindMainWord (wordsSigns P.initOrder.toList)=[(Char.ofNat 99),(Char.ofNat 117),(Char.ofNat 116)]::r)(hs:stripLifts liftWords ([(Char.ofNat 99),(Char.ofNat 117),(Char.ofNat 116)]::r)=([],[(Char.ofNat 99),(Char.ofNat 117),(Char.ofNat 116)]::r)):P.liftsFinal=false:=by
 unfold Program.liftsFinal Program.headLifts;rw[h];dsimp only;rw[hs];kernel_rfl
theorem agU(P:Program)(r:List (List Char))(h:behindMainWord (wordsSigns P.initOrder.toList)=[(Char.ofNat 99),(Char.ofNat 117),(Char.ofNat 116)]::r)(hs:stripLifts liftWords ([(Char.ofNat 99),(Char.ofNat 117),(Char.ofNat 116)]::r)=([],[(Char.ofNat 99),(Char.ofNat 117),(Char.ofNat 116)]::r))
 (h1:P.laysLater=false) (h2:P.bearsReflect=false) (h3:P.doorFits []=true):P.mayEnter=true:=by
 unfold Program.mayEnter;rw[h];dsimp only;rw[hs,h1,h2];dsimp only;rw[h3];kernel_rfl
def vk(P:Program)(f:FuncId)(fn:Func)(s:ChangeSpec)(c:OpenClaim):{b:Bool // P.mayEnter=true→P.liftsFinal=false→P.make=some .cut→joinedFacts P f fn s c=b}:=by
 refine⟨?b,fun h1 h2 h3=> ?h⟩
 case h=>
  unfold joinedFacts;rw[h1,h2,h3]
theorem adw{P:Program}{f:FuncId}{fn:Func}{s:ChangeSpec}{c:OpenClaim}(r:List (List Char))(h:behindMainWord (wordsSigns P.initOrder.toList)=[(Char.ofNat 99),(Char.ofNat 117),(Char.ofNat 116)]::r)(hs:stripLifts liftWords ([(Char.ofNat 99),(Char.ofNat 117),(Char.ofNat 116)]::r)=([],[(Char.ofNat 99),(Char.ofNat 117),(Char.ofNat 116)]::r))
 (h1:P.laysLater=false) (h2:P.bearsReflect=false) (h3:P.doorFits []=true) (hr:(vk P f fn s c).1=true):joinedFacts P f fn s c=true:=
 ((vk P f fn s c).2 (agU P r h hs h1 h2 h3) (agT P r h hs) (aiJ P r h)).trans hr
end Go.Sx
namespace Go.Proofs.YtcjldfgkonfocaaDoor.Hd
set_option maxRecDepth 100000 in
def ioL:List Char:=[Char.ofNat 104,Char.ofNat 97,Char.ofNat 114,Char.ofNat 110,Char.ofNat 101,Char.ofNat 115,Char.ofNat 115,Char.ofNat 32,Char.ofNat 56,Char.ofNat 100,Char.ofNat 49,Char.ofNat 57,Char.ofNat 56,Char.ofNat 52,Char.ofNat 100,Char.ofNat 100,Char.ofNat 102,Char.ofNat 56,Char.ofNat 53,Char.ofNat 56,Char.ofNat 99,Char.ofNat 50,Char.ofNat 53,Char.ofNat 51,Char.ofNat 51,Char.ofNat 97,Char.ofNat 97,Char.ofNat 99,Char.ofNat 102,Char.ofNat 54,Char.ofNat 49,Char.ofNat 53,Char.ofNat 50,Char.ofNat 54,Char.ofNat 55,Char.ofNat 98,Char.ofNat 55,Char.ofNat 100,Char.ofNat 49,Char.ofNat 99,Char.ofNat 54,Char.ofNat 51,Char.ofNat 99,Char.ofNat 101,Char.ofNat 51,Char.ofNat 101,Char.ofNat 50,Char.ofNat 49,Char.ofNat 101,Char.ofNat 54,Char.ofNat 99,Char.ofNat 57,Char.ofNat 49,Char.ofNat 57,Char.ofNat 57,Char.ofNat 98,Char.ofNat 57,Char.ofNat 49,Char.ofNat 99,Char.ofNat 56,Char.ofNat 102,Char.ofNat 49,Char.ofNat 57,Char.ofNat 48,Char.ofNat 55,Char.ofNat 100,Char.ofNat 52,Char.ofNat 55,Char.ofNat 54,Char.ofNat 98,Char.ofNat 53,Char.ofNat 101,Char.ofNat 32,Char.ofNat 99,Char.ofNat 117,Char.ofNat 116,Char.ofNat 32,Char.ofNat 97,Char.ofNat 116,Char.ofNat 32,Char.ofNat 99,Char.ofNat 97,Char.ofNat 108,Char.ofNat 108,Char.ofNat 98,Char.ofNat 111,Char.ofNat 97,Char.ofNat 114,Char.ofNat 100,Char.ofNat 47,Char.ofNat 99,Char.ofNat 97,Char.ofNat 108,Char.ofNat 108,Char.ofNat 98,Char.ofNat 111,Char.ofNat 97,Char.ofNat 114,Char.ofNat 100,Char.ofNat 108,Char.ofNat 97,Char.ofNat 119,Char.ofNat 48,Char.ofNat 55,Char.ofNat 46,Char.ofNat 84,Char.ofNat 114,Char.ofNat 101,Char.ofNat 101,Char.ofNat 76,Char.ofNat 105,Char.ofNat 115,Char.ofNat 116,Char.ofNat 32,Char.ofNat 99,Char.ofNat 97,Char.ofNat 108,Char.ofNat 108,Char.ofNat 98,Char.ofNat 111,Char.ofNat 97,Char.ofNat 114,Char.ofNat 100,Char.ofNat 47,Char.ofNat 99,Char.ofNat 97,Char.ofNat 108,Char.ofNat 108,Char.ofNat 98,Char.ofNat 111,Char.ofNat 97,Char.ofNat 114,Char.ofNat 100,Char.ofNat 108,Char.ofNat 97,Char.ofNat 119,Char.ofNat 48,Char.ofNat 55,Char.ofNat 46,Char.ofNat 84,Char.ofNat 114,Char.ofNat 101,Char.ofNat 101,Char.ofNat 79,Char.ofNat 108,Char.ofNat 100,Char.ofNat 32,Char.ofNat 99,Char.ofNat 97,Char.ofNat 108,Char.ofNat 108,Char.ofNat 98,Char.ofNat 111,Char.ofNat 97,Char.ofNat 114,Char.ofNat 100,Char.ofNat 47,Char.ofNat 99,Char.ofNat 97,Char.ofNat 108,Char.ofNat 108,Char.ofNat 98,Char.ofNat 111,Char.ofNat 97,Char.ofNat 114,Char.ofNat 100,Char.ofNat 108,Char.ofNat 97,Char.ofNat 119,Char.ofNat 48,Char.ofNat 55,Char.ofNat 46,Char.ofNat 84,Char.ofNat 114,Char.ofNat 101,Char.ofNat 101,Char.ofNat 78,Char.ofNat 97,Char.ofNat 109,Char.ofNat 101,Char.ofNat 115,Char.ofNat 32,Char.ofNat 99,Char.ofNat 97,Char.ofNat 108,Char.ofNat 108,Char.ofNat 98,Char.ofNat 111,Char.ofNat 97,Char.ofNat 114,Char.ofNat 100,Char.ofNat 47,Char.ofNat 99,Char.ofNat 97,Char.ofNat 108,Char.ofNat 108,Char.ofNat 98,Char.ofNat 111,Char.ofNat 97,Char.ofNat 114,Char.ofNat 100,Char.ofNat 108,Char.ofNat 97,Char.ofNat 119,Char.ofNat 48,Char.ofNat 55,Char.ofNat 46,Char.ofNat 84,Char.ofNat 114,Char.ofNat 101,Char.ofNat 101,Char.ofNat 69,Char.ofNat 109,Char.ofNat 112,Char.ofNat 116,Char.ofNat 121,Char.ofNat 32,Char.ofNat 99,Char.ofNat 97,Char.ofNat 108,Char.ofNat 108,Char.ofNat 98,Char.ofNat 111,Char.ofNat 97,Char.ofNat 114,Char.ofNat 100,Char.ofNat 47,Char.ofNat 99,Char.ofNat 97,Char.ofNat 108,Char.ofNat 108,Char.ofNat 98,Char.ofNat 111,Char.ofNat 97,Char.ofNat 114,Char.ofNat 100,Char.ofNat 108,Char.ofNat 97,Char.ofNat 119,Char.ofNat 48,Char.ofNat 55,Char.ofNat 46,Char.ofNat 84,Char.ofNat 114,Char.ofNat 101,Char.ofNat 101,Char.ofNat 70,Char.ofNat 117,Char.ofNat 108,Char.ofNat 108]
set_option maxRecDepth 100000 in
theorem ioE:Tryd.prog.initOrder=String.ofList ioL:=by kernel_rfl
theorem ioT:Tryd.prog.initOrder.toList=ioL:=by rw[ioE];exact String.toList_ofList
def aeT:List (List Char):=(wordsSigns ioL).drop 3
theorem hb:behindMainWord (wordsSigns Tryd.prog.initOrder.toList)=[Char.ofNat 99,Char.ofNat 117,Char.ofNat 116]::aeT:=by rw[ioT];kernel_rfl
theorem a1:Tryd.prog.laysLater=false:=by kernel_rfl
theorem a2:Tryd.prog.bearsReflect=false:=by kernel_rfl
theorem a3:stripLifts liftWords ([Char.ofNat 99,Char.ofNat 117,Char.ofNat 116]::aeT)=([],[Char.ofNat 99,Char.ofNat 117,Char.ofNat 116]::aeT):=by kernel_rfl
theorem a5:Tryd.prog.doorFits []=true:=by kernel_rfl
theorem own:ownKnob Tryd.prog.godebug=none:=by kernel_rfl
theorem laidOut:laidOutB Tryd.prog=true:=by kernel_rfl
end Go.Proofs.YtcjldfgkonfocaaDoor.Hd
namespace Go.Sx
open Go
structure Spec (X:Type)where
 args:X→List AV
 heap:X→List ad
 pre:X→List Prop
 fH:X→List ad
 out:X→AV
def ib(P:Program)(Z:aX)(f:FuncId){X:Type}(S:Spec X):Prop:=
 ∀x,bw (S.pre x)→∀(ρ:Nat→Value) (G:Nat→Prop) (w:World) (vs:List Value),ZAt Z ρ (lk (S.heap x)) w→Sat ρ (lk (S.heap x)) G w→
  bE ρ (lk (S.heap x)) (aN ρ (lk (S.heap x)) G) w (S.args x) vs→
  Calls P f vs.toArray w fun e w'=>∃v,e=.returned v∧Good ρ (lk (S.heap x)) G w (lk (S.fH x)) (S.out x) v w'
def kq{X:Type}(S:Spec X)(x:X)(L:List ad)(r:AV):Prop:=
 ∃N:Norm,(S.heap x).length≤N.m∧N.run ⟨[r],L,[],{}⟩=some ⟨[S.out x],S.fH x,[],{}⟩
def RM.bind{α β:Type}:RM α→(α→RM β)→RM β
 |.ret a,k=>k a
 |.look id f,k=>.look id fun o=>(f o).bind k
 |.fail w,_=>.fail w
def tF:List Nat→(List ad→RM bC)→RM bC
 |[],k=>k []
 |i::is,k=>.look i fun o=>match o with
  |some o=>tF is fun os=>k (o::os)
  |none=>.fail "no object"
def back(σ:List Nat)(base n:Nat)(j:Nat):Option Nat:=bif j.blt σ.length then σ[j]? else bif j.blt n then some (base+(j - σ.length))else none
def cI{X:Type}(S:Spec X)(M:List AV→RM (X×List Nat)):Nat→List AV→RM bC:=fun base args=>
 (M args).bind fun(x,σ)=>bif rM σ then tF σ fun os=>
   (match allM (uW (back σ base (S.fH x).length)) (S.fH x),rn (back σ base (S.fH x).length) 20 (S.out x)with
    |some L',some r=>bif σ.length.ble L'.length then
     .ret ⟨(allM (rn (idx σ) 20) args=some (S.args x))::(allM (uW (idx σ)) os=some (S.heap x))::S.pre x,σ.zip L',L'.drop σ.length,fun _=>r⟩else .fail "sum: objects are gone"
    |_,_=>.fail "sum: names")
  else .fail "sum: one object twice"
section
variable{ρ aB:Nat→Value}{H H':aJ}{G O O':Nat→Prop}{w w':World}{P:Program}{Z:aX}{X:Type}{S:Spec X}
theorem RM.xY{α β:Type}:∀{m:RM α} {k:α→RM β} {q:β},(m.bind k).eval H=some q→∃a,m.eval H=some a∧(k a).eval H=some q
 |.ret a,k,q,h=>⟨a,rfl,h⟩
 |.look id f,k,q,h=>by
  simp only[RM.bind,RM.eval]at h ⊢;exact RM.xY h
 |.fail w,k,q,h=>by simp[RM.bind,RM.eval]at h
theorem qE:∀{is:List Nat} {k:List ad→RM bC} {q:bC},(tF is k).eval H=some q→∃os:List ad,(k os).eval H=some q∧os.length=is.length∧∀(j id:Nat),is[j]? =some id→H id=os[j]? ∧os[j]?.isSome=true
 |[],k,q,h=>⟨[],h,rfl,fun j id hj=>by simp at hj⟩
 |i::is,k,q,h=>by
  simp only[tF,RM.eval]at h;split at h
  ·rename_i o ho;obtain⟨os,h1,h2,h3⟩:=qE h;refine⟨o::os,h1,by simp[h2],fun j id hj=> ?_⟩;cases j with
   |zero=>simp only[List.getElem?_cons_zero,Option.some.injEq]at hj;subst hj;exact⟨by simpa using ho,rfl⟩
   |succ j=>simpa using h3 j id (by simpa using hj)
  ·simp[RM.eval]at h
theorem aC{f:FuncId}{fn:Func}(hf:P.funcs[f]? =some fn)(hb:fn.body.isSome=true)(hn:∀x,(S.args x).length≤fn.ntmps)
 (h:∀x,bw (S.pre x)→∀X:Ctx,X.H=lk (S.heap x)→dT Z X→Safe P f X (kq S x) (start fn (S.args x) (S.heap x))):ib P Z f S:=by
 intro x lD ρ G w vs hz hs hd;obtain⟨c,hb⟩:=Option.isSome_iff_exists.1 hb
 have nC:vs.length=(S.args x).length:=by
  have:∀{aG:List AV} {vs:List Value},bE ρ (lk (S.heap x)) (aN ρ (lk (S.heap x)) G) w aG vs→vs.length=aG.length:=by
   intro aG
   induction aG with
   |nil=>intro vs h;rw[aU.1 h];rfl
   |cons a aG ih=>intro vs h;obtain⟨v,rest,rfl,_,h2⟩:=ax.1 h;simp[ih h2]
  exact this hd
 refine(iJ (R:=jX ⟨ρ,lk (S.heap x),G,w,[]⟩ (kq S x)) hf hb ?_).mono ?_
 ·have:=(h x lD ⟨ρ,lk (S.heap x),G,w,[]⟩ rfl hz).goes rfl rfl (ρ:=ρ) (a:={tmps:=vs.toArray++Array.replicate (fn.ntmps - vs.toArray.size) undef,defers:=[]}) (w:=w);simp only[start,hb,Option.getD_some]at this;refine this ⟨hs, ?_,fun t=> ?_,rfl,Step.refl _ _ _ _,⟨rfl,rfl,rfl,fun _ _ _=>rfl⟩,fun x hx=>by cases hx⟩
  ·simp[nC]
  ·have e1:∀(aG:List AV) (vs:List Value),bE ρ (lk (S.heap x)) (aN ρ (lk (S.heap x)) G) w aG vs→∀t,ab ρ (lk (S.heap x)) (aN ρ (lk (S.heap x)) G) w (aG.getD t (.bo [])) (vs.getD t undef):=by
    intro aG
    induction aG with
    |nil=>intro vs h t;rw[aU.1 h];simp only[List.getD,List.getElem?_nil,Option.getD_none];exact cH
    |cons a aG ih=>
     intro vs h t;obtain⟨v,rest,rfl,h1,h2⟩:=ax.1 h;cases t with
     |zero=>simpa using h1
     |succ t=>simpa using ih rest h2 t
   have h1:=e1 _ _ hd t;simp only[List.getD_eq_getElem?_getD,List.getElem?_append,List.getElem?_replicate,Array.getD_eq_getD_getElem?,Array.getElem?_append,List.getElem?_toArray,Array.getElem?_replicate,List.size_toArray]at h1 ⊢;rw[nC];split
   ·rename_i ht;have hv:vs[t]? =some vs[t]:=List.getElem?_eq_getElem (by omega);have ha:(S.args x)[t]? =some (S.args x)[t]:=List.getElem?_eq_getElem ht;rw[hv,ha]at h1 ⊢;exact h1
   ·split
    ·exact cH
    ·unfold ab;trivial
 ·rintro e w' ⟨v,rfl,L,r,⟨N,hm,hN⟩,lF,g1,g2,g3,g4⟩;refine⟨v,rfl, ?_⟩
  have r0:bX ⟨ρ,lk (S.heap x),G,w,[]⟩ lF ⟨[r],L⟩ {tmps:= #[v],defers:=[]} w':=by
   refine⟨g1,rfl,fun t=> ?_,rfl,g3,g4,fun x hx=>by cases hx⟩;cases t with
   |zero=>exact g2
   |succ t=>simp only[List.getD,Array.getD];simp;unfold ab;trivial
  have h0:∀id,N.m≤id→(⟨ρ,lk (S.heap x),G,w,[]⟩:Ctx).H id=none:=fun id du=>by simp[lk];omega
  unfold Norm.run at hN;split at hN
  ·rename_i t1 L1 h1;simp only[]at hN;split at hN
   ·rename_i t2 L2 h2;simp only[Option.some.injEq,bA.mk.injEq,and_true]at hN;obtain⟨rfl,rfl⟩:=hN;obtain⟨lF,r1⟩:=bX.fG h0 h1 (bX.dW N.ez r0);obtain⟨gl,r2⟩:=bX.fZ N.pe r1;obtain⟨ρ3,r3⟩:=bX.ga N.cells r2;obtain⟨ρ4,r4⟩:=bX.fG h0 h2 r3;exact⟨ρ4,r4.sat,(by have h:=r4.den 0;exact h),r4.from_,r4.jc⟩
   ·cases hN
  ·cases hN
theorem qF:∀{σ:List Nat} {L:List ad} {j:Nat},σ.Nodup→σ.length≤L.length→
 (∀(i:Nat),σ[i]? =some j→cN (σ.zip L) j=L[i]?)∧(j ∉ σ→cN (σ.zip L) j=none)
 |[],L,j,hn,hl=>⟨fun i h=>by simp at h,fun _=>rfl⟩
 |x::xs,[],j,hn,hl=>by simp at hl
 |x::xs,l::ls,j,hn,hl=>by
  obtain⟨h1,h2⟩:=qF (σ:=xs) (L:=ls) (j:=j) (List.nodup_cons.1 hn).2 (by simpa using hl);constructor
  ·intro i hi;simp only[List.zip_cons_cons,cN];cases i with
   |zero=>
    simp only[List.getElem?_cons_zero,Option.some.injEq]at hi;subst hi;rw[h2 (List.nodup_cons.1 hn).1];simp
   |succ i=>
    simp only[List.getElem?_cons_succ]at hi ⊢;rw[h1 i hi];have a8:i<xs.length:=(List.getElem?_eq_some_iff.1 hi).1;simp only[List.length_cons]at hl;rw[List.getElem?_eq_getElem (show i<ls.length by omega)]
  ·intro hj;simp only[List.mem_cons,not_or]at hj;simp only[List.zip_cons_cons,cN];rw[h2 hj.2];simp[hj.1]
theorem ib.sum{f:FuncId}(h:ib P Z f S)(M:List AV→RM (X×List Nat)):vd P Z f (cI S M):=by
 intro base args H q hq hn ρ G w vs e9 hz hs hd;unfold cI at hq;obtain⟨⟨x,σ⟩,_,hq⟩:=RM.xY hq;simp only[Bool.cond_eq_ite]at hq;split at hq
 ·rename_i iL;have iL:=kC iL;obtain⟨os,hq,hlen,hos⟩:=qE hq;split at hq
  ·rename_i L' r hL' hr;split at hq
   ·rename_i hle;have hle:=Nat.le_of_ble_eq_true hle;simp only[RM.eval,Option.some.injEq]at hq;subst hq;obtain⟨fN,iW,lD⟩:=hn;simp only[]at e9 ⊢
    have dd:∀{j:Nat} {o':ad},(S.heap x)[j]? =some o'→∃(id:Nat) (o:ad),σ[j]? =some id∧H id=some o∧uW (idx σ) o=some o':=by
     intro j o' dg;have hl:=gE iW;have hj:j<os.length:=by rw[←hl];exact(List.getElem?_eq_some_iff.1 dg).1
     obtain⟨b,g1,g2⟩:=fY iW j os[j] (List.getElem?_eq_getElem hj);rw[dg]at g2;cases g2;have uE:j<σ.length:=by omega
     have:=(hos j σ[j] (List.getElem?_eq_getElem uE)).1;exact⟨σ[j],os[j],List.getElem?_eq_getElem uE,by rw[this,List.getElem?_eq_getElem hj],g1⟩
    have oF:∀{j id:Nat},σ[j]? =some id→∃o o',H id=some o∧uW (idx σ) o=some o'∧(S.heap x)[j]? =some o':=by
     intro j id hj;obtain⟨g1,g2⟩:=hos j id hj;obtain⟨o,ho⟩:=Option.isSome_iff_exists.1 g2;obtain⟨b,g3,g4⟩:=fY iW j o ho;exact⟨o,b,g1.trans ho,g3,g4⟩
    have nz:∀{j id:Nat},σ[j]? =some id→pull σ ρ j=ρ id:=fun h1=>by simp[pull,List.getD,h1]
    have dI:∀{b:Nat},Own (pull σ ρ) (lk (S.heap x)) b→∃(j id:Nat) (o:ad),σ[j]? =some id∧H id=some o∧o.alive=true∧er (ρ id)=some b:=by
     rintro b ⟨j,o',dg,ha,hb⟩;obtain⟨id,o,h1,h2,h3⟩:=dd dg;rw[nz h1]at hb;exact⟨j,id,o,h1,h2,by rw[←(cp h3).1];exact ha,hb⟩
    let G':Nat→Prop:=fun b=>aN ρ H G b∧¬Own (pull σ ρ) (lk (S.heap x)) b
    have E:Emb (idx σ) ρ H (aN ρ H G) (pull σ ρ) (lk (S.heap x)) (aN (pull σ ρ) (lk (S.heap x)) G'):=by
     refine⟨fun i j kp=> ?_,fun b hb=> ?_⟩
     ·have h1:=aa7 kp;refine⟨nz h1,fun o ho=> ?_⟩;obtain⟨o1,o',h2,h3,h4⟩:=oF h1;rw[ho]at h2;cases h2;exact⟨o',h4,(cp h3).2⟩
     ·rcases hb with hb|hb
      ·obtain⟨j,id,o,h1,h2,h3,h4⟩:=dI hb;exact .inl ⟨id,o,h2,h3,h4⟩
      ·exact hb.1
    have au7:Sat (pull σ ρ) (lk (S.heap x)) G' w:=by
     refine⟨fun j o' dg=> ?_,fun i j oi oj b hi hj ai aj bi bj=> ?_,fun b hb hG=>hG.2 hb,fun b hb=>yV hs hb.1⟩
     ·obtain⟨id,o,h1,h2,h3⟩:=dd dg;rw[nz h1];exact zB E h3 (hs.obj id o h2)
     ·obtain⟨id,o,h1,h2,h3⟩:=dd hi;obtain⟨id',o',h1',h2',h3'⟩:=dd hj;rw[nz h1]at bi;rw[nz h1']at bj;have:=hs.inj id id' o o' b h2 h2' (by rw[←(cp h3).1];exact ai) (by rw[←(cp h3').1];exact aj) bi bj;subst this;obtain⟨hi1,hi2⟩:=List.getElem?_eq_some_iff.1 h1;obtain⟨hj1,uE⟩:=List.getElem?_eq_some_iff.1 h1';exact(List.getElem_inj iL).1 (hi2.trans uE.symm)
    have hz':ZAt Z (pull σ ρ) (lk (S.heap x)) w:=⟨hz.1,fun b hb ho=>by
     obtain⟨j,id,o,h1,h2,h3,h4⟩:=dI ho;exact hz.2 b hb ⟨id,o,h2,h3,h4⟩⟩
    have hd':=tC E fN hd;refine(h x lD (pull σ ρ) G' w vs hz' au7 hd').mono ?_;rintro e w' ⟨v,he,lF,g1,g2,g3,g4⟩;refine⟨v,he, ?_⟩;have awl:=gE hL';generalize hn0:(S.fH x).length=n0 at *
    have pH:∀{j:Nat},σ.length≤j→j<n0→H (base+(j - σ.length))=none:=by
     intro j h1 h2;exact e9 (j - σ.length) (by simp;omega)
    have alC:∀{id:Nat} {o:ad},H id=some o→¬(base≤id∧id<base+(L'.length - σ.length)):=by
     intro id o ho hc;have:=pH (j:=σ.length+(id - base)) (by omega) (by omega);rw[show base+(σ.length+(id - base) - σ.length)=id from by omega,ho]at this;cases this
    let gl:Nat→Value:=fun id=>if base≤id∧id<base+(L'.length - σ.length)then lF (σ.length+(id - base))else ρ id
    let H2:=c9 H (σ.zip L') base (L'.drop σ.length)
    have hL1:∀{j:Nat} {o2:ad},L'[j]? =some o2→∃o,(S.fH x)[j]? =some o∧uW (back σ base n0) o=some o2:=by
     intro j o2 h1;have hj:j<(S.fH x).length:=by have:=(List.getElem?_eq_some_iff.1 h1).1;omega
     obtain⟨b,h2,h3⟩:=fY hL' j (S.fH x)[j] (List.getElem?_eq_getElem hj);rw[h1]at h3;cases h3;exact⟨_,List.getElem?_eq_getElem hj,h2⟩
    have anT:∀{j id:Nat},σ[j]? =some id→gl id=ρ id∧lF j=ρ id:=by
     intro j id hj;obtain⟨o,o',h1,h2,h3⟩:=oF hj;refine⟨?_, ?_⟩
     ·simp only[gl];rw[if_neg (alC h1)]
     ·rw[g3.xp j o' h3,nz hj]
    have apT:∀{j id:Nat},σ[j]? =some id→H2 id=L'[j]? :=by
     intro j id hj;have a8:j<σ.length:=(List.getElem?_eq_some_iff.1 hj).1;have:=(qF (σ:=σ) (L:=L') (j:=id) iL hle).1 j hj;simp only[H2,c9,this];rw[List.getElem?_eq_getElem (show j<L'.length by omega)]
    have hni:∀{id:Nat},(base≤id∧id<base+(L'.length - σ.length))→id ∉ σ:=by
     intro id hc hm;obtain⟨i,hi⟩:=List.getElem?_of_mem hm;obtain⟨o,_,h3,_⟩:=oF hi;exact alC h3 hc
    have ase:∀{id:Nat},(base≤id∧id<base+(L'.length - σ.length))→H2 id=L'[σ.length+(id - base)]? :=by
     intro id hc;simp only[H2,c9,(qF (σ:=σ) (L:=L') iL hle).2 (hni hc)];rw[if_pos (by simp only[List.length_drop];exact hc)];simp only[List.getElem?_drop]
    have asf:∀{id:Nat},id ∉ σ→¬(base≤id∧id<base+(L'.length - σ.length))→H2 id=H id:=by
     intro id h1 h2;simp only[H2,c9,(qF (σ:=σ) (L:=L') iL hle).2 h1];rw[if_neg (by simp only[List.length_drop];exact h2)]
    have cls:∀{id:Nat} {o2:ad},H2 id=some o2→(∃(j:Nat) (o:ad),(S.fH x)[j]? =some o∧uW (back σ base n0) o=some o2∧gl id=lF j∧back σ base n0 j=some id)∨(id ∉ σ∧H id=some o2∧gl id=ρ id):=by
     intro id o2 ho;by_cases hm:id∈σ
     ·obtain⟨j,hj⟩:=List.getElem?_of_mem hm;rw[apT hj]at ho;obtain⟨o,h1,h2⟩:=hL1 ho;obtain⟨h3,h4⟩:=anT hj;exact .inl ⟨j,o,h1,h2,by rw[h3,h4],by simp only[back,ml (List.getElem?_eq_some_iff.1 hj).1,cond_true];exact hj⟩
     ·by_cases hc:base≤id∧id<base+(L'.length - σ.length)
      ·rw[ase hc]at ho;obtain⟨o,h1,h2⟩:=hL1 ho;refine .inl ⟨_,o,h1,h2,by simp only[gl];rw[if_pos hc], ?_⟩;simp only[back,qd (show σ.length≤σ.length+(id - base)by omega),cond_false,ml (show σ.length+(id - base)<n0 by omega),cond_true];congr 1;omega
      ·rw[asf hm hc]at ho;exact .inr ⟨hm,ho,by simp only[gl];rw[if_neg hc]⟩
    have vn:∀{id b:Nat} {o:ad},id ∉ σ→H id=some o→o.alive=true→er (ρ id)=some b→¬Own (pull σ ρ) (lk (S.heap x)) b:=by
     intro id b o hm ho ha hb hv;obtain⟨j,id',o',h1,h2,h3,h4⟩:=dI hv;have:=hs.inj id id' o o' b ho h2 ha h3 hb h4;subst this;exact hm (List.mem_of_getElem? h1)
    have ash:∀{b:Nat},G b→G' b:=fun{b} hb=>⟨.inr hb,fun hv=>by
     obtain⟨j,id',o',h1,h2,h3,h4⟩:=dI hv;exact hs.apart b ⟨id',o',h2,h3,h4⟩ hb⟩
    have asi:∀{b:Nat},Own gl H2 b→Own lF (lk (S.fH x)) b∨(Own ρ H b∧G' b):=by
     rintro b ⟨id,o2,ho,ha,hb⟩;rcases cls ho with⟨j,o,h1,h2,h3,_⟩|⟨h1,h2,h3⟩
     ·exact .inl ⟨j,o,h1,by rw[←(cp h2).1];exact ha,by rw[←h3];exact hb⟩
     ·rw[h3]at hb;exact .inr ⟨⟨id,o2,h2,ha,hb⟩,.inl ⟨id,o2,h2,ha,hb⟩,vn h1 h2 ha hb⟩
    have E2:Emb (back σ base n0) lF (lk (S.fH x)) (aN lF (lk (S.fH x)) G') gl H2 (aN gl H2 G):=by
     refine⟨fun i j kp=> ?_,fun b hb=> ?_⟩
     ·simp only[back,Bool.cond_eq_ite]at kp;split at kp
      ·rename_i a8;obtain⟨h3,h4⟩:=anT kp;refine⟨by rw[h3,h4],fun o ho=> ?_⟩;obtain⟨b,h5,h6⟩:=fY hL' i o ho;exact⟨b,by rw[apT kp];exact h6,(cp h5).2⟩
      ·rename_i hge;split at kp
       ·rename_i a8;have a8:i<n0:=Nat.le_of_ble_eq_true a8
        have hge:σ.length≤i:=by
         rcases Nat.lt_or_ge i σ.length with h5|h5
         ·exact absurd (ml h5) hge
         ·exact h5
        simp only[Option.some.injEq]at kp;have hc:base≤j∧j<base+(L'.length - σ.length):=by omega
        have hi:σ.length+(j - base)=i:=by omega
        refine⟨by simp only[gl];rw[if_pos hc,hi],fun o ho=> ?_⟩;obtain⟨b,h5,h6⟩:=fY hL' i o ho;exact⟨b,by rw[ase hc,hi];exact h6,(cp h5).2⟩
       ·cases kp
     ·rcases hb with hb|hb
      ·exact(asi hb).imp (fun h=>h) (fun h=>h.2)
      ·exact .inr (ash hb)
    have st:Step ρ H (aN ρ H G) w gl H2 (aN gl H2 G) w':=by
     refine⟨fun id o ho=>by simp only[gl];rw[if_neg (alC ho)],fun id o ho=> ?_,fun b hb=> ?_,fun b hb hO=>g3.heap b hb (fun hv=>hO (E.fP b hv)),g3.size⟩
     ·by_cases hm:id∈σ
      ·obtain⟨j,hj⟩:=List.getElem?_of_mem hm;obtain⟨o1,o',h1,h2,h3⟩:=oF hj;rw[ho]at h1;cases h1;obtain⟨o'',h4,h5⟩:=g3.ez j o' h3;obtain⟨o3,h6,h7⟩:=fY hL' j o'' h4;refine⟨o3,by rw[apT hj];exact h7,fun c' e' hc=> ?_⟩;obtain⟨c,e1,h8,h9,y5⟩:=h5 c' e' ((cp h6).2 c' e' hc);exact⟨c,e1,(cp h2).2 c e1 h8,h9,y5⟩
      ·exact⟨o,by rw[asf hm (alC ho)];exact ho,fun c' e' hc=>⟨c',e',hc,rfl,rfl⟩⟩
     ·rcases g3.fP b (E2.fP b hb)with h5|h5
      ·exact .inl (E.fP b h5)
      ·exact .inr h5
    refine⟨gl,⟨fun id o2 ho=> ?_,fun i j oi oj b hi hj ai aj bi bj=> ?_,fun b hb hG=> ?_,fun b hb=>Nat.lt_of_lt_of_le (hs.low b hb) g3.size⟩,(uX E2 20).1 _ _ _ hr g2,st,⟨g4.os,g4.tape,g4.output,fun b hb hO=>g4.heap b hb (fun hv=> ?_)⟩⟩
    ·rcases cls ho with⟨j,o,h1,h2,h3,_⟩|⟨h1,h2,h3⟩
     ·rw[h3];exact zB E2 h2 (g1.obj j o h1)
     ·rw[h3];refine(hs.obj id o2 h2).step st (fun b ha hb=> ?_);exact g4.heap b (gP hs ⟨id,o2,h2,ha,hb⟩) (vn h1 h2 ha hb)
    ·have mixed:∀{b:Nat},Own lF (lk (S.fH x)) b→∀{id:Nat} {o:ad},id ∉ σ→H id=some o→o.alive=true→er (ρ id)=some b→False:=by
      intro b h1 id o h2 h3 h4 h5;have hG:G' b:=⟨.inl ⟨id,o,h3,h4,h5⟩,vn h2 h3 h4 h5⟩;exact g1.apart b h1 hG
     rcases cls hi with⟨j1,o1,p1,p2,p3,p4⟩|⟨p1,p2,p3⟩
     ·rw[p3]at bi;have a1:o1.alive=true:=by rw[←(cp p2).1];exact ai
      rcases cls hj with⟨j2,o2,q1,q2,q3,q4⟩|⟨q1,q2,q3⟩
      ·rw[q3]at bj;have:=g1.inj j1 j2 o1 o2 b p1 q1 a1 (by rw[←(cp q2).1];exact aj) bi bj;subst this;rw[p4]at q4;exact Option.some.inj q4
      ·rw[q3]at bj;exact(mixed ⟨j1,o1,p1,a1,bi⟩ q1 q2 aj bj).elim
     ·rw[p3]at bi;rcases cls hj with⟨j2,o2,q1,q2,q3,q4⟩|⟨q1,q2,q3⟩
      ·rw[q3]at bj;exact(mixed ⟨j2,o2,q1,by rw[←(cp q2).1];exact aj,bj⟩ p1 p2 ai bi).elim
      ·rw[q3]at bj;exact hs.inj i j oi oj b p2 q2 ai aj bi bj
    ·rcases asi hb with h5|h5
     ·exact g1.apart b h5 (ash hG)
     ·exact hs.apart b h5.1 hG
    ·obtain⟨j,id,o,h1,h2,h3,h4⟩:=dI hv;exact hO ⟨id,o,h2,h3,h4⟩
   ·simp[RM.eval]at hq
  ·simp[RM.eval]at hq
 ·simp[RM.eval]at hq
end
end Go.Sx
namespace Go.Sx
open Go
instance {k:IntKind} {n:Nat}:DecidableEq (CK.arr k n).V:=inferInstanceAs (DecidableEq (List Int))
instance {k:IntKind}:DecidableEq (CK.ints k).V:=inferInstanceAs (DecidableEq (List Int))
instance {k:IntKind}:DecidableEq (CK.int k).V:=inferInstanceAs (DecidableEq Int)
instance:DecidableEq CK.str.V:=inferInstanceAs (DecidableEq ByteArray)
instance:DecidableEq CK.bool.V:=inferInstanceAs (DecidableEq Bool)
abbrev el{cs:List CK}(l:List (CL cs))(i:Int):CL cs:=l.getD i.toNat (CL.d cs)
abbrev bt{α:Type}(a:α):Prop:=a=a
abbrev mq:Prop:=(some []:Option (List ad))=some []
section
variable{K:List ad→AV→Prop}{C:bA→Prop}{t e:Tree}{p q:Prop}
theorem iZ{α:Type}{a:α}(h:t.aM K C):(Tree.need (a=a) t).aM K C:=⟨rfl,h⟩
theorem eU(hp:p)(h:t.aM K C):(Tree.need p t).aM K C:=⟨hp,h⟩
theorem anU{d:Decidable p}(h1:p→t.aM K C)(h2:¬p→e.aM K C):(Tree.ite (@decide p d) t e).aM K C:=⟨fun h=>h1 (of_decide_eq_true h),fun h=>h2 (of_decide_eq_false h)⟩
theorem anV{a b:Int}(h1:a=b→t.aM K C)(h2:a≠b→e.aM K C):(Tree.ite (a==b) t e).aM K C:=⟨fun h=>h1 (by simpa using h),fun h=>h2 (by simpa using h)⟩
theorem anW{a b:Int}(h1:a≠b→t.aM K C)(h2:a=b→e.aM K C):(Tree.ite (a !=b) t e).aM K C:=⟨fun h=>h1 (by simpa using h),fun h=>h2 (by simpa using h)⟩
theorem anX{b:Bool}(h:(Tree.ite b e t).aM K C):(Tree.ite (!b) t e).aM K C:=⟨fun hb=>h.2 (by simpa using hb),fun hb=>h.1 (by simpa using hb)⟩
theorem asj(h:t.aM K C):(Tree.ite true t e).aM K C:=⟨fun _=>h,fun x=>(by cases x)⟩
theorem kr(h:e.aM K C):(Tree.ite false t e).aM K C:=⟨fun x=>(by cases x),fun _=>h⟩
theorem anY{b:Bool}(h1:b=true→t.aM K C)(h2:b=false→e.aM K C):(Tree.ite b t e).aM K C:=⟨h1,h2⟩
theorem aiK(h1:p→t.aM K C)(h2:q→e.aM K C):(Tree.both p q t e).aM K C:=⟨h1,h2⟩
theorem aiL{H:List ad}{v:AV}(h:K H v):(Tree.ret H v).aM K C:=h
theorem rP{c:bA}(h:C c):(Tree.at c).aM K C:=h
theorem bQ{X:Type}{S:Spec X}{x:X}{L:List ad}{r:AV}{o:AV}{h:List ad}(m:Nat)(e:Norm.run ⟨[],[0],m,[]⟩ ⟨[r],L,[],{}⟩=some ⟨[o],h,[],{}⟩)(hm:(S.heap x).length≤m)(ho:S.out x=o)(hh:S.fH x=h):kq S x L r:=
 ⟨⟨[],[0],m,[]⟩,hm,by rw[ho,hh];exact e⟩
end
end Go.Sx
namespace Lf
open Go Go.Sx
section
variable{L:List ad}
theorem aiM{b:Bool}:Ends [.b .bool] (b,()) L (.s (.bool b)):=rfl
theorem zG{n:Int}:Ends [.b (.int .i64)] (n,()) L (.s (.int .i64 n)):=rfl
theorem aiN{s:ByteArray}:Ends [.b .str] (s,()) L (.s (.str s)):=rfl
theorem zH{s:ByteArray}{n:Int}:Ends [.b .str,.b (.int .i64)] (s,n,()) L (.bo [.s (.str s),.s (.aV .i64 n)]):=rfl
theorem fx{b:Bool}{b':Bool}(h:b=b'):Ends [.b .bool] (b,()) L (.s (.aA b')):=by subst h;rfl
theorem aeU{b b':Int}(h:b=b'):Ends [.b (.int .i64)] (b,()) L (.s (.int .i64 b')):=by subst h;rfl
end
theorem aiO{p:Nat→Bool}{n i:Nat}(hi:i<n)(h:p i=false):(List.range n).all p=false:=by
 rw[List.all_eq_false];exact⟨i,List.mem_range.2 hi,by simp[h]⟩
theorem aeV{p:Nat→Bool}{n:Nat}(h:∀i,i<n→p i=true):(List.range n).all p=true:=by
 rw[List.all_eq_true];exact fun i hi=>h i (List.mem_range.1 hi)
theorem cV{p:Nat→Bool}{n:Nat}:(List.range n).all p=true↔ ∀i,i<n→p i=true:=by
 simp[List.all_eq_true]
theorem bm{α:Type}{l:List α}{i:Nat}{d:α}(h:i<l.length):l.getD i d=l[i]:=by simp[List.getD,h]
theorem rQ{a b:ByteArray}(h:a.data.toList=b.data.toList):a=b:=by
 cases a;cases b;simp only[ByteArray.mk.injEq];exact Array.toList_inj.1 h
theorem sZ:∀(x:List UInt8),Op.bytesLess x x=false
 |[]=>rfl
 |a::x=>by simp[Op.bytesLess,sZ x]
theorem vp:∀{x y z:List UInt8},Op.bytesLess x y=true→Op.bytesLess y z=true→Op.bytesLess x z=true
 |_,[],_,h,_=>by simp[Op.bytesLess]at h
 |_,_::_,[],_,h=>by simp[Op.bytesLess]at h
 |[],b::y,c::z,_,_=>rfl
 |a::x,b::y,c::z,h1,h2=>by
  simp only[Op.bytesLess,Bool.or_eq_true,decide_eq_true_eq,Bool.and_eq_true,beq_iff_eq]at *;rcases h1 with h1|⟨rfl,h1⟩
  ·rcases h2 with h2|⟨rfl,h2⟩
   ·exact .inl (UInt8.lt_trans h1 h2)
   ·exact .inl h1
  ·rcases h2 with h2|⟨rfl,h2⟩
   ·exact .inl h2
   ·exact .inr ⟨rfl,vp h1 h2⟩
theorem vq:∀(x y:List UInt8),Op.bytesLess x y=true∨x=y∨Op.bytesLess y x=true
 |[],[]=>.inr (.inl rfl)
 |[],_::_=>.inl rfl
 |_::_,[]=>.inr (.inr rfl)
 |a::x,b::y=>by
  simp only[Op.bytesLess,Bool.or_eq_true,decide_eq_true_eq,Bool.and_eq_true,beq_iff_eq,List.cons.injEq];rcases UInt8.lt_or_lt_of_ne (a:=a) (b:=b)|>fun h=>(Decidable.em (a=b)).imp id h with rfl|h|h
  ·rcases vq x y with h|rfl|h
   ·exact .inl (.inr ⟨rfl,h⟩)
   ·exact .inr (.inl ⟨rfl,rfl⟩)
   ·exact .inr (.inr (.inr ⟨rfl,h⟩))
  ·exact .inl (.inl h)
  ·exact .inr (.inr (.inl h))
theorem l9:∀(x y:List UInt8),(Lib.compareBytes x y<0↔Op.bytesLess x y=true)∧(Lib.compareBytes x y=0↔x=y)∧(-1≤Lib.compareBytes x y∧Lib.compareBytes x y≤1)
 |[],[]=>by simp[Lib.compareBytes,Op.bytesLess]
 |[],_::_=>by simp[Lib.compareBytes,Op.bytesLess]
 |_::_,[]=>by simp[Lib.compareBytes,Op.bytesLess]
 |a::x,b::y=>by
  obtain⟨h1,h2,h3⟩:=l9 x y;simp only[Lib.compareBytes,Op.bytesLess,List.cons.injEq];by_cases h:a<b
  ·rw[if_pos h];have:a≠b:=fun e=>by subst e;exact absurd h (UInt8.lt_irrefl a)
   simp[h,this]
  ·rw[if_neg h];by_cases h':b<a
   ·rw[if_pos h'];have:a≠b:=fun e=>by subst e;exact absurd h' (UInt8.lt_irrefl a)
    simp[h,this]
   ·rw[if_neg h'];have:a=b:=UInt8.toNat_inj.1 (by rw[UInt8.lt_iff_toNat_lt]at h h';omega);subst this;simp[h,h1,h2,h3]
def ma(a b:ByteArray):Int:=Lib.compareBytes a.data.toList b.data.toList
theorem tG(a b:ByteArray):ma a b<0↔slt a b=true:=(l9 _ _).1
theorem aeW(a b:ByteArray):ma a b=0↔a=b:=by
 rw[show a=b↔a.data.toList=b.data.toList from⟨fun h=>by rw[h],rQ⟩];exact(l9 _ _).2.1
theorem dM(a:ByteArray):slt a a=false:=sZ _
theorem cr{a b c:ByteArray}(h1:slt a b=true)(h2:slt b c=true):slt a c=true:=vp h1 h2
theorem gF(a b:ByteArray):slt a b=true∨a=b∨slt b a=true:=by
 rcases vq a.data.toList b.data.toList with h|h|h
 ·exact .inl h
 ·exact .inr (.inl (rQ h))
 ·exact .inr (.inr h)
theorem om{a b:ByteArray}(h:slt a b=true):slt b a=false:=by
 cases h2:slt b a
 ·rfl
 ·have:=cr h h2;rw[dM]at this;cases this
theorem adx{a b:ByteArray}(h:slt a b=true):a≠b:=fun e=>by subst e;rw[dM]at h;cases h
theorem vr{a b:ByteArray}(h:slt a b=false)(h2:a≠b):slt b a=true:=by
 rcases gF a b with h3|h3|h3
 ·rw[h]at h3;cases h3
 ·exact absurd h3 h2
 ·exact h3
theorem gG(a:ByteArray):slt a ByteArray.empty=false:=by
 unfold slt;cases h:a.data.toList<;>rfl
theorem eJ{a b c:ByteArray}(h1:slt a b=true)(h2:slt c b=false):slt a c=true:=by
 rcases gF b c with h3|rfl|h3
 ·exact cr h1 h3
 ·exact h1
 ·rw[h2]at h3;cases h3
theorem lG{a:ByteArray}(h:a.size=0):a=ByteArray.empty:=by
 apply rQ;have:a.data.toList.length=0:=by rw[Array.length_toList];exact h
 rw[List.eq_nil_of_length_eq_zero this];rfl
end Lf
namespace Go.Sx
open Go
section
variable{ρ aB:Nat→Value}{H H' H1 H2:aJ}{G O O':Nat→Prop}{w w' w1 w2:World}{P:Program}{X:Ctx}{K:List ad→AV→Prop}
theorem Good.ghost(hs:Sat ρ H G w){n:Nat}(hn:H n=none)(g:Value):∃aB,aB n=g∧Sat aB (aD H n .dead) G w∧Step ρ H (aN ρ H G) w aB (aD H n .dead) (aN aB (aD H n .dead) G) w∧Frm ρ H w w:=by
 have ne:∀j x,H j=some x→j≠n:=fun j x hx e=>by subst e;rw[hn]at hx;cases hx
 have qc:∀b,Own (fun j=>if j=n then g else ρ j) (aD H n .dead) b→Own ρ H b:=by
  rintro b ⟨j,x,hx,h1,h2⟩;by_cases hj:j=n
  ·subst hj;simp only[aD,if_true,Option.some.injEq]at hx;subst hx;cases h1
  ·simp only[aD,hj,if_false]at hx h2;exact⟨j,x,hx,h1,h2⟩
 have st:Step ρ H (aN ρ H G) w (fun j=>if j=n then g else ρ j) (aD H n .dead) (aN (fun j=>if j=n then g else ρ j) (aD H n .dead) G) w:=by
  refine⟨fun j x hx=>by simp[ne j x hx],fun j x hx=>⟨x,by simp[aD,ne j x hx,hx],fun c' e' hc=>⟨c',e',hc,rfl,rfl⟩⟩,fun b hb=>.inl (hb.imp (qc b) id),fun b hb _=>rfl,Nat.le_refl _⟩
 refine⟨_,by simp,⟨fun j x hx=> ?_,fun i j oi oj b h1 h2 h3 h4 h5 h6=> ?_,fun b hb=>hs.apart b (qc b hb),hs.low⟩,st,rfl,rfl,rfl,fun _ _ _=>rfl⟩
 ·by_cases hj:j=n
  ·subst hj;simp only[aD,if_true,Option.some.injEq]at hx;subst hx;trivial
  ·simp only[aD,hj,if_false]at hx;simp only[hj,if_false];exact(hs.obj j x hx).step st (fun _ _ _=>rfl)
 ·have f:∀i oi,aD H n .dead i=some oi→oi.alive=true→er ((fun j=>if j=n then g else ρ j) i)=some b→H i=some oi∧er (ρ i)=some b:=by
   intro i oi hi uo hb;by_cases eR:i=n
   ·subst eR;simp only[aD,if_true,Option.some.injEq]at hi;subst hi;cases uo
   ·simp only[aD,eR,if_false]at hi hb;exact⟨hi,hb⟩
  obtain⟨x1,x2⟩:=f i oi h1 h3 h5;obtain⟨y1,y2⟩:=f j oj h2 h4 h6;exact hs.inj i j oi oj b x1 y1 h3 h4 x2 y2
theorem erase_filter{L:List MapEntry}(hb:(L.map (·.born)).Nodup){i:Nat}(hi:i<L.length):L.filter (fun x=>x.born !=L[i].born)=L.eraseIdx i:=by
 induction L generalizing i with
 |nil=>simp at hi
 |cons x L ih=>
  simp only[List.map_cons,List.nodup_cons]at hb;cases i with
  |zero=>
   simp only[List.getElem_cons_zero,List.eraseIdx_cons_zero];rw[List.filter_cons];simp only[bne_self_eq_false,Bool.false_eq_true,if_false];refine List.filter_eq_self.2 fun e he=> ?_;rw[bne_iff_ne];exact fun h=>hb.1 (List.mem_map.2 ⟨e,he,h⟩)
  |succ i=>
   simp only[List.length_cons]at hi;have eR:i<L.length:=by omega
   simp only[List.getElem_cons_succ,List.eraseIdx_cons_succ];rw[List.filter_cons,if_pos,ih hb.2 eR];rw[bne_iff_ne];exact fun h=>hb.1 (List.mem_map.2 ⟨_,List.getElem_mem eR,h.symm⟩)
theorem uh.next{ck:CK}{left:List (Int×ck.V)}{cur:Option (Int×ck.V)}{es:Array MapEntry}{clock:Nat}{seen:Array Nat}(h:uh ck left cur es clock seen){e:MapEntry}(he:e∈(leftOf es seen).toList):
 ∃i,∃hi:i<left.length,e.key=.int .i64 left[i].1∧e.val=ck.val left[i].2∧uh ck (left.eraseIdx i) (some left[i]) es clock (seen.push e.born):=by
 have hL:(leftOf es seen).toList=es.toList.filter fun e=> !seen.contains e.born:=by simp[leftOf]
 rw[hL]at he;obtain⟨i,hi,rfl⟩:=List.getElem_of_mem he;generalize hF:(es.toList.filter fun e=> !seen.contains e.born)=F at *;have heq:=h.eq;rw[hF]at heq;have hlen:F.length=left.length:=by have:=congrArg List.length heq;simpa only[List.length_map]using this
 have h1:=congrArg (fun l=>l[i]?) heq;have hil:i<left.length:=by omega
 simp only[List.getElem?_map,List.getElem?_eq_getElem hi,List.getElem?_eq_getElem hil,Option.map_some,Option.some.injEq,Prod.mk.injEq]at h1
 have jC:F[i]∈es.toList:=by
  have:=List.getElem_mem hi;exact(List.mem_filter.1 (show F[i]∈es.toList.filter (fun e=> !seen.contains e.born)from by rw[hF];exact this)).1
 refine⟨i,hil,h1.1,h1.2,⟨?_,fun p hp=>h.fits p (List.mem_of_mem_eraseIdx hp),h.xu,h.old,fun p hp=> ?_⟩⟩
 ·have e1:(es.toList.filter fun e=> !(seen.push F[i].born).contains e.born)=F.filter (fun x=>x.born !=F[i].born):=by
   generalize F[i].born=z;rw[←hF,List.filter_filter];refine List.filter_congr fun x _=> ?_;by_cases hz:x.born=z<;>simp[hz,bne]
  have iL:(F.map (·.born)).Nodup:=by
   rw[←hF];exact(List.Sublist.map _ List.filter_sublist).nodup h.xu
  rw[e1,erase_filter iL hi,ChangeMaps.map_eraseIdx,heq,←ChangeMaps.map_eraseIdx]
 ·cases hp;exact⟨h.fits _ (List.getElem_mem hil),F[i],jC,by simp,h1.1,h1.2⟩
theorem bX.apq{s:St}{a:Act}(h:bX X ρ s a w){dst:Option Tmp}{q:bC}{v:Value}(hw:w1=w∨w1=w.drew)(hg:Good ρ s.look X.G w1 (s.put dst q).look (q.r s.H.length) v w'):∃aB,bX X aB (s.put dst q) (a.put dst v) w':=by
 have h1:bX X ρ s a w1:=by
  rcases hw with rfl|rfl
  ·exact h
  ·exact h.drew
 obtain⟨aB,g1,g2,g3,g4⟩:=hg;obtain⟨arr,df⟩:=a;have hp:=qt (ρ:=aB) (H:=(s.put dst q).look) (O:=aN aB (s.put dst q).look X.G) (w:=w') h1.size (fun t=>ab.step g3 _ _ (h1.den t)) dst g2 df;exact⟨aB,g1,hp.1,hp.2,by have:=h1.defers;cases dst<;>exact this,h1.from_.trans g3,Frm.trans h1 g4,h1.kept.jc h1.sat g4⟩
theorem Yields.congr{o:Oper}{e e':Operand→Value}{R:Value→World→Prop}(he:execOp e' o=execOp e o)(h:Yields P o e w R):Yields P o e' w R:=by
 unfold Yields at *;rw[he];exact h
end
end Go.Sx
namespace Ds
open Go Go.Sx Go.Proofs Lf
noncomputable abbrev P:Program:=Tryd.prog
theorem mixed:P.follows .mixedOrders=true:=by kernel_rfl
abbrev bh:Ty:=.b (.int .i64)
abbrev cX:Ty:=.b .bool
abbrev dt:Ty:=.b .str
theorem go{Z:aX}{X:Ctx}{t:aE}{f:FuncId}{fn:Func}{ns:List (Nat×Norm)}{c:bA}{tr:Tree}{K:List ad→AV→Prop}{inl:List FuncId}(hz:dT Z X)(hX:∀id,X.H id=none)(hT:t.Ok P Z)(hf:P.funcs[f]? =some fn)
 (e:run P t.sum fn ns c inl=tr) (h:tr.aM K (Safe P f X K)):Safe P f X K c:=cq (aE.sOk hT) hz mixed hf (fun _ _ id _=>hX id) e h
theorem ew{Z:aX}{X:Ctx}{t:aE}{f:FuncId}{fn:Func}{ns:List (Nat×Norm)}{c:bA}{tr:Tree}{K:List ad→AV→Prop}{L:List ad}{inl:List FuncId}(hz:dT Z X)(hX:X.H=lk L)(hm:∀x∈ns,L.length≤x.2.m)(hT:t.Ok P Z)(hf:P.funcs[f]? =some fn)
 (e:run P t.sum fn ns c inl=tr) (h:tr.aM K (Safe P f X K)):Safe P f X K c:=
 cq (aE.sOk hT) hz mixed hf (fun x hx id du=>by rw[hX];exact List.getElem?_eq_none (Nat.le_trans (hm x hx) du)) e h
abbrev cS:List CK:=[.arr .u8 64]
abbrev kS:CK:=.arr .u8 64
abbrev eS:TypeId:=138
abbrev eD:TypeId:=96
abbrev Th:Type:=List (CL cS)
abbrev As:Type:=List (Int×kS.V)
abbrev obD(i j:Nat)(fu:Int):ad:=.own [.vec i,.ag j,.s (.int .i64 fu)] eD
abbrev hD(th:Th)(m:As)(fu:Int):List ad:=[obD 1 2 fu,.vec (.ae cS th) eS,.map kS m]
end Ds
namespace Ds
open Go Go.Sx Go.Proofs Lf
abbrev ku:aE:=[]
abbrev inD:List FuncId:=[89,90,108]
theorem aiP(th:Th)(m:As)(fu n:Int):run P ku.sum Tryd.f73 [] (start Tryd.f73 [.ptr 0 0,.s (.int .i64 n)] (hD th m fu)) inD=
 Tree.ite (decide (n<(0:Int))) (Tree.ret [ad.own [AV.vec (1:Nat),AV.ag (2:Nat),AV.s (SV.int IntKind.i64 fu)] (96:Nat),ad.vec (aI.ae [CK.arr IntKind.u8 (64:Nat)] th) (138:Nat),ad.map (CK.arr IntKind.u8 (64:Nat)) m] (AV.bo [AV.s (SV.str ByteArray.empty),AV.s (SV.aV IntKind.i64 (5:Int))])) (Tree.ite (decide (n≥(↑(List.length th):Int))) (Tree.ret [ad.own [AV.vec (1:Nat),AV.ag (2:Nat),AV.s (SV.int IntKind.i64 fu)] (96:Nat),ad.vec (aI.ae [CK.arr IntKind.u8 (64:Nat)] th) (138:Nat),ad.map (CK.arr IntKind.u8 (64:Nat)) m] (AV.bo [AV.s (SV.str ByteArray.empty),AV.s (SV.aV IntKind.i64 (5:Int))])) (Tree.ite (pd m n) (Tree.need ((0:Int)≤(0:Int)) (Tree.need ((0:Int)≤(↑(64:Nat):Int)) (Tree.need ((↑(64:Nat):Int)≤(↑(64:Nat):Int)) (Tree.need ((0:Nat)+(64:Nat)≤(64:Nat)) (Tree.ret [ad.own [AV.vec (1:Nat),AV.ag (2:Nat),AV.s (SV.int IntKind.i64 fu)] (96:Nat),ad.vec (aI.ae [CK.arr IntKind.u8 (64:Nat)] th) (138:Nat),ad.map (CK.arr IntKind.u8 (64:Nat)) m,ad.own [AV.ints IntKind.u8 (64:Nat) ((fO m n).getD (CK.arr IntKind.u8 (64:Nat)).d)] (138:Nat),ad.own [AV.ints IntKind.u8 (64:Nat) ((fO m n).getD (CK.arr IntKind.u8 (64:Nat)).d)] (138:Nat),ad.own [AV.ints IntKind.u8 (64:Nat) ((fO m n).getD (CK.arr IntKind.u8 (64:Nat)).d)] (138:Nat)] (AV.bo [AV.s (SV.str (aL (List.take (64:Nat) (List.drop (0:Nat) ((fO m n).getD (CK.arr IntKind.u8 (64:Nat)).d))))),AV.s (SV.aV IntKind.i64 (0:Int))])))))) (Tree.need ((0:Int)≤n) (Tree.need (n<(↑(List.length th):Int)) (Tree.need (List.length (List.getD th n.toNat (CL.d [CK.arr IntKind.u8 (64:Nat)])).fst=(64:Nat)) (Tree.need ((0:Int)≤(0:Int)) (Tree.need ((0:Int)≤(↑(64:Nat):Int)) (Tree.need ((↑(64:Nat):Int)≤(↑(64:Nat):Int)) (Tree.need ((0:Nat)+(64:Nat)≤(64:Nat)) (Tree.ret [ad.own [AV.vec (1:Nat),AV.ag (2:Nat),AV.s (SV.int IntKind.i64 fu)] (96:Nat),ad.vec (aI.ae [CK.arr IntKind.u8 (64:Nat)] th) (138:Nat),ad.map (CK.arr IntKind.u8 (64:Nat)) m,ad.own [AV.ints IntKind.u8 (64:Nat) (List.getD th n.toNat (CL.d [CK.arr IntKind.u8 (64:Nat)])).fst] (138:Nat),ad.own [AV.ints IntKind.u8 (64:Nat) ((fO m n).getD (CK.arr IntKind.u8 (64:Nat)).d)] (138:Nat),ad.own [AV.ints IntKind.u8 (64:Nat) (List.getD th n.toNat (CL.d [CK.arr IntKind.u8 (64:Nat)])).fst] (138:Nat)] (AV.bo [AV.s (SV.str (aL (List.take (64:Nat) (List.drop (0:Nat) (List.getD th n.toNat (CL.d [CK.arr IntKind.u8 (64:Nat)])).fst)))),AV.s (SV.aV IntKind.i64 (0:Int))]))))))))))):=by kernel_rfl
theorem agV(th:Th)(m:As)(fu n:Int)(s:ByteArray):run P ku.sum Tryd.f105 [] (start Tryd.f105 [.ptr 0 0,.s (.int .i64 n),.s (.str s)] (hD th m fu)) inD=
 Tree.ite (decide (n<0)) (.ret [.own [.vec 1,.ag 2,.s (.int .i64 fu)] 96,.vec (.ae [.arr .u8 64] th) 138,.map (.arr .u8 64) m] (.s (.aV .i64 5))) (.ite (decide (n≥(↑(List.length th):Int))) (.ret [.own [.vec 1,.ag 2,.s (.int .i64 fu)] 96,.vec (.ae [.arr .u8 64] th) 138,.map (.arr .u8 64) m] (.s (.aV .i64 5))) (.ite ((↑s.size:Int) !=64) (.ret [.own [.vec 1,.ag 2,.s (.int .i64 fu)] 96,.vec (.ae [.arr .u8 64] th) 138,.map (.arr .u8 64) m] (.s (.aV .i64 1))) (.ite (fu==0) (.ret [.own [.vec 1,.ag 2,.s (.int .i64 fu)] 96,.vec (.ae [.arr .u8 64] th) 138,.map (.arr .u8 64) m] (.s (.aV .i64 42))) (.need (aF (fu - (1:Int))) (.need (s.size≤4294967296) (.need ((64:Nat)≤(bu s).length) (.need (List.length ([(List.take 64 (bu s),())].getD 0 (CL.d [.arr .u8 64])).fst=64) (.ret [.own [.vec 1,.ag 2,.s (.int .i64 (imax (fu - (1:Int)) (-1)))] 96,.vec (.ae [.arr .u8 64] th) 138,.map (.arr .u8 64) (my m n ([(List.take 64 (bu s),())].getD 0 (CL.d [.arr .u8 64])).fst)] (.s (.aV .i64 0)))))))))):=by kernel_rfl
def mH(th:Th):Prop:=th.length≤4096∧∀i,i<th.length→(mS (th.getD i (CL.d cS))).length=64
def okM(n:Nat)(m:As):Prop:=(m.map (·.1)).Nodup∧∀p∈m,0≤p.1∧p.1<(n:Int)∧List.length (α:=Int) p.2=64
def okF(fu:Int):Prop:= -1≤fu∧fu≤9223372036854775807
structure bH (th:Th) (m:As) (fu:Int):Prop where
 t:mH th
 m:okM th.length m
 f:okF fu
def nD(th:Th)(n:Int):Bool:=decide (0≤n)&&decide (n<(th.length:Int))
def rR(th:Th)(m:As)(n:Int):List Int:=match fO m n with
 |some v=>v
 |none=>mS (th.getD n.toNat (CL.d cS))
def oI(th:Th)(m:As)(n:Int):ByteArray:=if nD th n=true then aL (rR th m n)else ByteArray.empty
def rdE(th:Th)(n:Int):Int:=if nD th n=true then 0 else 5
def vt(fu:Int):Int:=if fu=0 then 0 else imax (fu - 1) (-1)
def ri(th:Th)(fu n:Int)(s:ByteArray):Int:=if nD th n=true then(if s.size=64 then(if fu=0 then 42 else 0)else 1)else 5
def xZ(th:Th)(m:As)(fu n:Int)(s:ByteArray):As:=if ri th fu n s=0 then my m n (bu s)else m
def wZ(th:Th)(fu n:Int)(s:ByteArray):Int:=if nD th n=true∧s.size=64 then vt fu else fu
abbrev sRd:Spec (Th×As×Int×Int):=⟨fun(_,_,_,n)=>[.ptr 0 0,.s (.int .i64 n)],fun(th,m,fu,_)=>hD th m fu,fun(th,m,fu,_)=>[bH th m fu],fun(th,m,fu,_)=>hD th m fu,fun(th,m,_,n)=>.bo [.s (.str (oI th m n)),.s (.int .i64 (rdE th n))]⟩
abbrev sWr:Spec (Th×As×Int×Int×ByteArray):=⟨fun(_,_,_,n,s)=>[.ptr 0 0,.s (.int .i64 n),.s (.str s)],fun(th,m,fu,_)=>hD th m fu,fun(th,m,fu,_)=>[bH th m fu],
 fun(th,m,fu,n,s)=>hD th (xZ th m fu n s) (wZ th fu n s),fun(th,_,fu,n,s)=>.s (.int .i64 (ri th fu n s))⟩
theorem lH{th:Th}{n:Int}:nD th n=true↔0≤n∧n<(th.length:Int):=by simp[nD]
theorem qG{th:Th}{n:Int}:nD th n=false↔n<0∨(th.length:Int)≤n:=by
 rw[←Bool.not_eq_true,lH];omega
theorem vu{m:As}{n:Int}:pd m n=(fO m n).isSome:=by
 rw[Bool.eq_iff_iff];simp only[pd,fO,Option.isSome_map,List.find?_isSome,List.any_eq_true]
theorem abl{m:As}{n:Int}{v:kS.V}(h:fO m n=some v):(n,v)∈m:=by
 simp only[fO,Option.map_eq_some_iff]at h;obtain⟨p,hp,rfl⟩:=h;have h1:=List.mem_of_find?_eq_some hp;have h2:=List.find?_some hp;simp only[beq_iff_eq]at h2;obtain⟨a,b⟩:=p;simp only at h2;subst h2;exact h1
theorem abm{th:Th}{m:As}{fu n:Int}(h:bH th m fu)(hn:nD th n=true):(rR th m n).length=64:=by
 obtain⟨h0,h1⟩:=lH.1 hn;unfold rR;split
 ·rename_i v hv;exact(h.m.2 _ (abl hv)).2.2
 ·exact h.t.2 _ (by omega)
theorem abn{l:List Int}(h:l.length=64):List.take 64 (List.drop 0 l)=l:=by rw[List.drop_zero,List.take_of_length_le (by omega)]
theorem alD{Z:aX}:ib P Z 73 sRd:=by
 refine aC Tryd.func73 (by kernel_rfl) (fun x=>Nat.le_of_ble_eq_true (by kernel_rfl)) ?_;rintro⟨(th:Th),(m:As),(fu:Int),(n:Int)⟩ ⟨(hd:bH th m fu),_⟩ X hX hz;have bad:nD th n=false→oI th m n=ByteArray.empty∧rdE th n=5:=fun h=>by simp[oI,rdE,h]
 refine ew hz hX (by simp) aE.Ok.nil Tryd.func73 (aiP th m fu n) ⟨fun h=> ?_,fun h=>⟨fun h2=> ?_,fun h2=> ?_⟩⟩
 ·obtain⟨e1,e2⟩:=bad (qG.2 (.inl (of_decide_eq_true h)));exact bQ 3 (by kernel_rfl) (Nat.le_refl _) (by show AV.bo [.s (.str (oI th m n)),.s (.int .i64 (rdE th n))]=_;rw[e1,e2]) rfl
 ·obtain⟨e1,e2⟩:=bad (qG.2 (.inr (of_decide_eq_true h2)));exact bQ 3 (by kernel_rfl) (Nat.le_refl _) (by show AV.bo [.s (.str (oI th m n)),.s (.int .i64 (rdE th n))]=_;rw[e1,e2]) rfl
 have h:=of_decide_eq_false h;have h2:=of_decide_eq_false h2;have dd:nD th n=true:=lH.2 ⟨by omega,by omega⟩;have hl:=abm hd dd;have e1:oI th m n=aL (rR th m n):=by simp[oI,dd]
 have e2:rdE th n=0:=by simp[rdE,dd]
 refine⟨fun hh=>⟨by omega,by omega,by omega,by omega, ?_⟩,fun hh=>⟨by omega,by omega, ?_,by omega,by omega,by omega,by omega, ?_⟩⟩
 ·rw[vu]at hh;obtain⟨v,hv⟩:=Option.isSome_iff_exists.1 hh;have e3:rR th m n=v:=by unfold rR;rw[hv]
  rw[e3]at e1 hl;refine bQ (o:=.bo [.s (.str (aL (List.take 64 (List.drop 0 (((fO m n).getD (CK.arr .u8 64).d):List Int))))),.s (.int .i64 0)]) 3 (by kernel_rfl) (Nat.le_refl _) ?_ rfl;show AV.bo [.s (.str (oI th m n)),.s (.int .i64 (rdE th n))]=_;rw[e1,e2,hv,Option.getD_some,abn hl]
 ·rw[vu]at hh;have hv:fO m n=none:=by simpa using hh
  have e3:rR th m n=mS (th.getD n.toNat (CL.d cS)):=by simp[rR,hv]
  rw[e3]at hl;exact hl
 ·rw[vu]at hh;have hv:fO m n=none:=by simpa using hh
  have e3:rR th m n=mS (th.getD n.toNat (CL.d cS)):=by simp[rR,hv]
  rw[e3]at e1 hl;refine bQ (o:=.bo [.s (.str (aL (List.take 64 (List.drop 0 (mS (th.getD n.toNat (CL.d cS))))))),.s (.int .i64 0)]) 3 (by kernel_rfl) (Nat.le_refl _) ?_ rfl;show AV.bo [.s (.str (oI th m n)),.s (.int .i64 (rdE th n))]=_;rw[e1,e2,abn hl]
theorem vv{Z:aX}:ib P Z 105 sWr:=by
 refine aC Tryd.func105 (by kernel_rfl) (fun x=>Nat.le_of_ble_eq_true (by kernel_rfl)) ?_;rintro⟨(th:Th),(m:As),(fu:Int),(n:Int),(s:ByteArray)⟩ ⟨(hd:bH th m fu),_⟩ X hX hz;obtain⟨f1,f2⟩:=hd.f;have fin:∀(e:Int) (m':As) (fR:Int),ri th fu n s=e→xZ th m fu n s=m'→wZ th fu n s=fR→
  (sWr.out (th,m,fu,n,s)=.s (.int .i64 e))∧sWr.fH (th,m,fu,n,s)=hD th m' fR:=fun e m' fR h1 h2 h3=>
  ⟨by show AV.s (.int .i64 (ri th fu n s))=_;rw[h1],by show hD th (xZ th m fu n s) (wZ th fu n s)=_;rw[h2,h3]⟩
 have bad:nD th n=false→ri th fu n s=5∧xZ th m fu n s=m∧wZ th fu n s=fu:=fun h=>by simp[ri,xZ,wZ,h]
 refine ew hz hX (by simp) aE.Ok.nil Tryd.func105 (agV th m fu n s) ⟨fun h=> ?_,fun h=>⟨fun h2=> ?_,fun h2=>⟨fun h3=> ?_,fun h3=>⟨fun h4=> ?_,fun h4=>⟨⟨by omega,by omega⟩, ?_, ?_, ?_, ?_⟩⟩⟩⟩⟩
 ·obtain⟨e1,e2,e3⟩:=bad (qG.2 (.inl (of_decide_eq_true h)));exact bQ 3 (by kernel_rfl) (Nat.le_refl _) (fin _ _ _ e1 e2 e3).1 (fin _ _ _ e1 e2 e3).2
 ·obtain⟨e1,e2,e3⟩:=bad (qG.2 (.inr (of_decide_eq_true h2)));exact bQ 3 (by kernel_rfl) (Nat.le_refl _) (fin _ _ _ e1 e2 e3).1 (fin _ _ _ e1 e2 e3).2
 all_goals
  have h:=of_decide_eq_false h;have h2:=of_decide_eq_false h2;have dd:nD th n=true:=lH.2 ⟨by omega,by omega⟩
 ·have h3:s.size≠64:=by intro e;rw[e]at h3;simp at h3
  have e1:ri th fu n s=1:=by simp[ri,dd,h3]
  exact bQ 3 (by kernel_rfl) (Nat.le_refl _) (fin 1 m fu e1 (by simp[xZ,e1]) (by simp[wZ,h3])).1 (fin 1 m fu e1 (by simp[xZ,e1]) (by simp[wZ,h3])).2
 all_goals
  have h3:s.size=64:=by have:(s.size:Int)=64:=by simpa using h3
                        omega
 ·have h4:fu=0:=by simpa using h4
  have e1:ri th fu n s=42:=by simp[ri,dd,h3,h4]
  exact bQ 3 (by kernel_rfl) (Nat.le_refl _) (fin 42 m fu e1 (by simp[xZ,e1]) (by simp[wZ,dd,h3,h4,vt])).1 (fin 42 m fu e1 (by simp[xZ,e1]) (by simp[wZ,dd,h3,h4,vt])).2
 ·omega
 ·rw[iV];omega
 ·show(List.take 64 (bu s)).length=64;rw[List.length_take,iV];omega
 ·have h4:fu≠0:=by simpa using h4
  have e1:ri th fu n s=0:=by simp[ri,dd,h3,h4]
  have e2:xZ th m fu n s=my m n (List.take 64 (bu s)):=by
   rw[List.take_of_length_le (by rw[iV];omega)];simp[xZ,e1]
  have e3:wZ th fu n s=imax (fu - 1) (-1):=by simp[wZ,dd,h3,vt,h4]
  exact bQ 3 (by kernel_rfl) (Nat.le_refl _) (fin _ _ _ e1 e2 e3).1 (fin _ _ _ e1 e2 e3).2
theorem abo{m:As}{n:Int}{v:kS.V}(p:Int×kS.V):p∈my m n v→p∈m∨p=(n,v):=by
 unfold my;split
 ·intro h;obtain⟨q,hq,rfl⟩:=List.mem_map.1 h;split
  ·exact .inr rfl
  ·exact .inl hq
 ·intro h;rcases List.mem_append.1 h with h|h
  ·exact .inl h
  ·exact .inr (List.mem_singleton.1 h)
theorem agW{m:As}{n:Int}(h:∀p∈m,p.1≠n):fO m n=none:=by
 simp only[fO,Option.map_eq_none_iff,List.find?_eq_none,beq_iff_eq];exact h
theorem zI{m:As}(hk:(m.map (·.1)).Nodup){p:Int×kS.V}(hp:p∈m):fO m p.1=some p.2:=by
 obtain⟨j,hj⟩:=List.getElem?_of_mem hp;simp only[fO,pB hk hj,Option.map_some]
end Ds
namespace Go.Sx
open Go
section
variable{ρ aB:Nat→Value}{H H':aJ}{G O O':Nat→Prop}{w w':World}{P:Program}{Z:aX}
theorem aiQ{aG:List AV}:∀{vs:List Value} {i:Nat} {a b:AV},bE ρ H O w aG vs→aG[i]? =some a→(∀v,ab ρ H O w a v→ab ρ H O w b v)→bE ρ H O w (aG.set i b) vs:=by
 induction aG with
 |nil=>intro vs i a b h hi;simp at hi
 |cons x aG ih=>
  intro vs i a b h hi hab;obtain⟨v,rest,rfl,h1,h2⟩:=ax.1 h;cases i with
  |zero=>
   simp only[List.getElem?_cons_zero,Option.some.injEq]at hi;subst hi;exact ax.2 ⟨v,rest,rfl,hab v h1,h2⟩
  |succ i=>exact ax.2 ⟨v,rest,rfl,h1,ih h2 (by simpa using hi) hab⟩
def apU{X:Type}(S:Spec X)(x:X)(L:List ad)(r:AV):Prop:=
 ∃(N:Norm) (o:AV),(S.heap x).length≤N.m∧N.run ⟨[r],L,[],{}⟩=some ⟨[o],S.fH x,[],{}⟩∧∀(ρ:Nat→Value) (H:aJ) (O:Nat→Prop) (w:World) (v:Value),ab ρ H O w o v→ab ρ H O w (S.out x) v
variable{X:Type}{S:Spec X}
theorem zJ{f:FuncId}{fn:Func}(hf:P.funcs[f]? =some fn)(hb:fn.body.isSome=true)(hn:∀x,(S.args x).length≤fn.ntmps)
 (h:∀x,bw (S.pre x)→∀X:Ctx,X.H=lk (S.heap x)→dT Z X→Safe P f X (apU S x) (start fn (S.args x) (S.heap x))):ib P Z f S:=by
 intro x lD ρ G w vs hz hs hd;obtain⟨c,hb⟩:=Option.isSome_iff_exists.1 hb
 have nC:vs.length=(S.args x).length:=by
  have:∀{aG:List AV} {vs:List Value},bE ρ (lk (S.heap x)) (aN ρ (lk (S.heap x)) G) w aG vs→vs.length=aG.length:=by
   intro aG
   induction aG with
   |nil=>intro vs h;rw[aU.1 h];rfl
   |cons a aG ih=>intro vs h;obtain⟨v,rest,rfl,_,h2⟩:=ax.1 h;simp[ih h2]
  exact this hd
 refine(iJ (R:=jX ⟨ρ,lk (S.heap x),G,w,[]⟩ (apU S x)) hf hb ?_).mono ?_
 ·have:=(h x lD ⟨ρ,lk (S.heap x),G,w,[]⟩ rfl hz).goes rfl rfl (ρ:=ρ) (a:={tmps:=vs.toArray++Array.replicate (fn.ntmps - vs.toArray.size) undef,defers:=[]}) (w:=w);simp only[start,hb,Option.getD_some]at this;refine this ⟨hs, ?_,fun t=> ?_,rfl,Step.refl _ _ _ _,⟨rfl,rfl,rfl,fun _ _ _=>rfl⟩,fun x hx=>by cases hx⟩
  ·simp[nC]
  ·have e1:∀(aG:List AV) (vs:List Value),bE ρ (lk (S.heap x)) (aN ρ (lk (S.heap x)) G) w aG vs→∀t,ab ρ (lk (S.heap x)) (aN ρ (lk (S.heap x)) G) w (aG.getD t (.bo [])) (vs.getD t undef):=by
    intro aG
    induction aG with
    |nil=>intro vs h t;rw[aU.1 h];simp only[List.getD,List.getElem?_nil,Option.getD_none];exact cH
    |cons a aG ih=>
     intro vs h t;obtain⟨v,rest,rfl,h1,h2⟩:=ax.1 h;cases t with
     |zero=>simpa using h1
     |succ t=>simpa using ih rest h2 t
   have h1:=e1 _ _ hd t;simp only[List.getD_eq_getElem?_getD,List.getElem?_append,List.getElem?_replicate,Array.getD_eq_getD_getElem?,Array.getElem?_append,List.getElem?_toArray,Array.getElem?_replicate,List.size_toArray]at h1 ⊢;rw[nC];split
   ·rename_i ht;have hv:vs[t]? =some vs[t]:=List.getElem?_eq_getElem (by omega);have ha:(S.args x)[t]? =some (S.args x)[t]:=List.getElem?_eq_getElem ht;rw[hv,ha]at h1 ⊢;exact h1
   ·split
    ·exact cH
    ·unfold ab;trivial
 ·rintro e w' ⟨v,rfl,L,r,⟨N,o,hm,hN,hwk⟩,lF,g1,g2,g3,g4⟩;refine⟨v,rfl, ?_⟩
  have r0:bX ⟨ρ,lk (S.heap x),G,w,[]⟩ lF ⟨[r],L⟩ {tmps:= #[v],defers:=[]} w':=by
   refine⟨g1,rfl,fun t=> ?_,rfl,g3,g4,fun x hx=>by cases hx⟩;cases t with
   |zero=>exact g2
   |succ t=>simp only[List.getD,Array.getD];simp;unfold ab;trivial
  have h0:∀id,N.m≤id→(⟨ρ,lk (S.heap x),G,w,[]⟩:Ctx).H id=none:=fun id du=>by simp[lk];omega
  unfold Norm.run at hN;split at hN
  ·rename_i t1 L1 h1;simp only[]at hN;split at hN
   ·rename_i t2 L2 h2;simp only[Option.some.injEq,bA.mk.injEq,and_true]at hN;obtain⟨rfl,rfl⟩:=hN;obtain⟨lF,r1⟩:=bX.fG h0 h1 (bX.dW N.ez r0);obtain⟨gl,r2⟩:=bX.fZ N.pe r1;obtain⟨ρ3,r3⟩:=bX.ga N.cells r2;obtain⟨ρ4,r4⟩:=bX.fG h0 h2 r3;exact⟨ρ4,r4.sat,(hwk _ _ _ _ _ (by have h:=r4.den 0;exact h)),r4.from_,r4.jc⟩
   ·cases hN
  ·cases hN
end
end Go.Sx
namespace Ds
open Go Go.Sx Go.Proofs Lf
abbrev bD(n:Int):AV:=.s (.int .i64 n)
def mAs:List AV→RM ((Th×As×Int)×List Nat)
 |[.ptr id 0]=>.look id fun o=>match o with
  |some (.own [.vec i,.ag j,f] _)=>.look i fun o=>match o with
   |some (.vec (.ae [.arr .u8 64] th) _)=>.look j fun o=>match o,f.de with
    |some (.map (.arr .u8 64) m),some (_,_,fu)=>.ret ((th,m,fu),[id,i,j])
    |_,_=>.fail "no map"
   |_=>.fail "no row"
  |_=>.fail "no disk's cells"
 |_=>.fail "no disk"
def mRd:List AV→RM ((Th×As×Int×Int)×List Nat)
 |[.ptr id 0,n]=>(mAs [.ptr id 0]).bind fun((th,m,fu),σ)=>match n.de with
  |some (_,_,n)=>.ret ((th,m,fu,n),σ)
  |none=>.fail "no number"
 |_=>.fail "no disk"
abbrev asl:=cI sRd mRd
def mWr:List AV→RM ((Th×As×Int×Int×ByteArray)×List Nat)
 |[.ptr id 0,n,.s (.str s)]=>(mAs [.ptr id 0]).bind fun((th,m,fu),σ)=>match n.de with
  |some (_,_,n)=>.ret ((th,m,fu,n,s),σ)
  |none=>.fail "no number"
 |_=>.fail "no disk"
abbrev asm:=cI sWr mWr
def asn(th:Th)(m:As)(fu:Int):Bool:=th.length.ble 4096&&(List.range th.length).all (fun i=>(mS (th.getD i (CL.d cS))).length==64)&&decide (m.map (·.1)).Nodup&&m.all (fun p=>decide (0≤p.1)&&decide (p.1<(th.length:Int))&&List.length (α:=Int) p.2==64)&&decide (-1≤fu)&&decide (fu≤9223372036854775807)
theorem fy{th:Th}{m:As}{fu:Int}(h:asn th m fu=true):bH th m fu:=by
 simp only[asn,Bool.and_eq_true,List.all_eq_true,beq_iff_eq,decide_eq_true_eq,List.mem_range]at h;obtain⟨⟨⟨⟨⟨h1,h2⟩,h3⟩,h4⟩,h5⟩,h6⟩:=h;exact⟨⟨Nat.le_of_ble_eq_true h1,h2⟩,⟨h3,fun p hp=>⟨(h4 p hp).1.1,(h4 p hp).1.2,(h4 p hp).2⟩⟩,h5,h6⟩
theorem aiR{n:Nat}(h:n≤4096):bH (List.replicate n (CL.d cS)) [] (-1):=by
 refine⟨⟨by simpa using h,fun i hi=> ?_⟩,⟨by simp,fun p hp=>by cases hp⟩,by omega,by omega⟩;simp only[List.length_replicate]at hi;rw[bm (by simpa using hi),List.getElem_replicate];rfl
theorem rS{m:As}(h:(m.map (·.1)).Nodup){n:Int}{v:kS.V}:((my m n v).map (·.1)).Nodup:=by
 unfold my;split
 ·rw[qm];exact h
 ·rename_i hn;have hn:∀p∈m,p.1≠n:=fun p hp e=>hn (by simp only[pd,List.any_eq_true,beq_iff_eq];exact⟨p,hp,e⟩);rw[List.map_append,List.nodup_append];refine⟨h,by simp,fun a ha b hb=> ?_⟩;simp only[List.map_cons,List.map_nil,List.mem_singleton]at hb;obtain⟨p,hp,rfl⟩:=List.mem_map.1 ha;rw[hb];exact hn p hp
theorem alE{fu:Int}(h:okF fu):okF (vt fu):=by
 unfold okF vt imax at *;split
 ·omega
 ·split<;>omega
theorem abp{th:Th}{m:As}{fu n:Int}{s:ByteArray}(h:bH th m fu):bH th (xZ th m fu n s) (wZ th fu n s):=by
 refine⟨h.t, ?_, ?_⟩
 ·unfold xZ;split
  ·rename_i he
   have dd:nD th n=true∧s.size=64:=by
    unfold ri at he
    repeat' split at he
    all_goals first|(cases he;done)|exact⟨by assumption,by assumption⟩
   obtain⟨h0,h1⟩:=lH.1 dd.1;refine⟨rS h.m.1,fun p hp=> ?_⟩;rcases abo p hp with hp|rfl
   ·exact h.m.2 p hp
   ·exact⟨h0,h1,by show(bu s).length=64;rw[iV];exact dd.2⟩
  ·exact h.m
 ·unfold wZ;split
  ·exact alE h.f
  ·exact h.f
theorem oW(s:ByteArray):aL (bu s)=s:=by
 obtain⟨⟨l⟩⟩:=s;simp only[aL,bu,List.map_map];congr 2;refine(List.map_congr_left fun b _=> ?_).trans (List.map_id l);simp
theorem aiS{m:As}(h:(m.map (·.1)).Nodup){n x:Int}{v:kS.V}:fO (my m n v) x=if x=n then some v else fO m x:=by
 split
 ·rename_i e;subst e
  have hm:(x,v)∈my m x v:=by
   unfold my;split
   ·rename_i hh;simp only[pd,List.any_eq_true,beq_iff_eq]at hh;obtain⟨p,hp,e⟩:=hh;exact List.mem_map.2 ⟨p,hp,by rw[if_pos (by simpa using e)]⟩
   ·exact List.mem_append_right _ List.mem_cons_self
  exact zI (rS h) hm
 ·rename_i e;cases hg:fO m x with
  |none=>
   refine agW fun p hp ep=> ?_;rcases abo p hp with hp|rfl
   ·have:=zI h hp;rw[ep,hg]at this;cases this
   ·exact e ep.symm
  |some u=>
   have hu:=abl hg;refine zI (rS h) (p:=(x,u)) ?_;unfold my;split
   ·exact List.mem_map.2 ⟨_,hu,by rw[if_neg (by simpa using e)]⟩
   ·exact List.mem_append_left _ hu
theorem aiT{th:Th}{m:As}(h:(m.map (·.1)).Nodup){n x:Int}{v:List Int}:rR th (my m n v) x=if x=n then v else rR th m x:=by
 have e:=aiS h (n:=n) (x:=x) (v:=v);unfold rR;by_cases hx:x=n
 ·rw[if_pos hx]at e ⊢;rw[e]
 ·rw[if_neg hx]at e ⊢;rw[e]
theorem vw{th:Th}{fu n:Int}{s:ByteArray}:ri th fu n s=0↔nD th n=true∧s.size=64∧fu≠0:=by
 unfold ri;constructor
 ·intro h
  repeat' split at h
  all_goals first|(cases h;done)|exact⟨by assumption,by assumption,by assumption⟩
 ·rintro⟨h1,h2,h3⟩;simp[h1,h2,h3]
theorem anZ{th:Th}{m:As}{fu n x:Int}{s:ByteArray}(h:bH th m fu):oI th (xZ th m fu n s) x=if ri th fu n s=0∧x=n then s else oI th m x:=by
 unfold xZ;by_cases he:ri th fu n s=0
 ·rw[if_pos he];obtain⟨h1,h2,_⟩:=vw.1 he;unfold oI;rw[aiT h.m.1];by_cases hx:x=n
  ·subst hx;rw[if_pos h1,if_pos rfl,if_pos ⟨he,rfl⟩,oW]
  ·simp only[if_neg hx,hx,and_false,if_false]
 ·simp only[if_neg he,he,false_and,if_false]
theorem x6(l:List Int):(aL l).size=l.length:=by
 show(l.map _).toArray.size=_;simp
theorem aeX{th:Th}{m:As}{fu n:Int}(h:bH th m fu)(hn:nD th n=true):(oI th m n).size=64:=by
 unfold oI;rw[if_pos hn,x6,abm h hn]
end Ds
namespace Ds
open Go Go.Sx Go.Proofs Lf
def tH(th:Th):Int:=(th.length:Int).tdiv 4
def tl(th:Th)(n:Int):Bool:=decide (0≤n)&&decide (n<tH th)
def pgL(th:Th)(m:As)(n:Int):Nat→List Int
 |0=>[]
 |k+1=>pgL th m n k++bu (oI th m (n*4+(k:Int)))
def pgA(th:Th)(m:As)(n:Int):List Int:=pgL th m n 4
def qH(ws:List Int):Int:=ws.getD 0 0*256+ws.getD 1 0
def gM(th:Th)(m:As)(n:Int):Int:=if tl th n=true then(if qH (pgA th m n)>254 then 4 else 0)else 5
def fT(th:Th)(m:As)(n:Int):ByteArray:=if gM th m n=0 then aL (((pgA th m n).drop 2).take (qH (pgA th m n)).toNat)else ByteArray.empty
def x7(s:ByteArray):List Int:=(s.size:Int) / 256::(s.size:Int)%256::(bu s++List.replicate (254 - s.size) 0)
def gX(ws:List Int)(k:Nat):ByteArray:=aL ((ws.drop (64*k)).take 64)
def zK(th:Th)(n:Int)(ws:List Int):Nat→Nat→As→Int→As×Int×Int
 |0,_,m,f=>(m,f,0)
 |j+1,k,m,f=>if ri th f (n*4+(k:Int)) (gX ws k)=0 then zK th n ws j (k+1) (xZ th m f (n*4+(k:Int)) (gX ws k)) (wZ th f (n*4+(k:Int)) (gX ws k))
   else(xZ th m f (n*4+(k:Int)) (gX ws k),wZ th f (n*4+(k:Int)) (gX ws k),ri th f (n*4+(k:Int)) (gX ws k))
def gwC(th:Th)(n:Int)(s:ByteArray):Int:=if tl th n=true then(if(s.size:Int)>254 then 40 else 0)else 5
def kg(th:Th)(m:As)(fu n:Int)(s:ByteArray):As×Int×Int:=if gwC th n s=0 then zK th n (x7 s) 4 0 m fu else(m,fu,gwC th n s)
def pgT(s:ByteArray):Int:=aW s 9*256+aW s 10
theorem gY(s:ByteArray)(i:Nat):0≤aW s i∧aW s i≤255:=by
 have:=(s.data.toList.getD i 0).toNat_lt;unfold aW;omega
theorem wrap_u8(n:Int):IntKind.u8.wrap n=n%256:=rfl
theorem vz{a b:Int}(ha:0≤a∧a≤255)(hb:0≤b∧b≤255):bF BinOp.or IntKind.i64 (IntKind.i64.wrap (a*2^min (Int.toNat 8) IntKind.i64.bits)) b=a*256+b:=by
 have e1:IntKind.i64.wrap (a*2^min (Int.toNat 8) IntKind.i64.bits)=a*256:=by
  rw[show(2:Int)^min (Int.toNat 8) IntKind.i64.bits=256 from by decide];exact cg ⟨by omega,by omega⟩
 rw[e1];obtain⟨x,rfl⟩:=Int.eq_ofNat_of_zero_le ha.1;obtain⟨y,rfl⟩:=Int.eq_ofNat_of_zero_le hb.1;show IntKind.i64.wrap ((BitVec.ofInt 64 _ ||| BitVec.ofInt 64 _).toNat:Int)=_;have e2:(BitVec.ofInt 64 ((x:Int)*256)).toNat=2^8*x:=by rw[BitVec.toNat_ofInt];omega
 have e3:(BitVec.ofInt 64 (y:Int)).toNat=y:=by rw[BitVec.toNat_ofInt];omega
 rw[BitVec.toNat_or,e2,e3,←Nat.two_pow_add_eq_or_of_lt (by omega),cg ⟨by omega,by omega⟩];omega
theorem fI(s:ByteArray):(bu s).length=s.size:=by unfold bu;rw[List.length_map];exact Array.length_toList
theorem fJ{th:Th}{n:Int}:tl th n=true↔0≤n∧n<tH th:=by simp[tl]
theorem zL(th:Th):0≤tH th∧4*tH th≤(th.length:Int):=by
 unfold tH;rw[Int.tdiv_eq_ediv_of_nonneg (by omega)];omega
theorem zM{th:Th}{n:Int}(h:tl th n=true){k:Nat}(hk:k<4):nD th (n*4+(k:Int))=true:=by
 obtain⟨h0,h1⟩:=fJ.1 h;have:=zL th;exact lH.2 ⟨by omega,by omega⟩
theorem aeY{th:Th}{m:As}{fu n:Int}(h:bH th m fu)(hn:tl th n=true):∀k:Nat,k≤4→(pgL th m n k).length=64*k
 |0,_=>rfl
 |k+1,hk=>by
  rw[pgL,List.length_append,aeY h hn k (by omega),fI,aeX h (zM hn (by omega))];omega
theorem ady{xs ys:List Int}{k:Nat}(hx:xs.length=64*k)(hy:ys.length=64)(hk:k<4):
 over (xs++List.replicate (256 - 64*k) 0) (64*k) 64 ys=xs++ys++List.replicate (256 - 64*(k+1)) 0:=by
 unfold over;rw[←hx,List.take_left,List.take_of_length_le (by omega),List.drop_append,List.drop_replicate,List.drop_eq_nil_of_le (by omega),List.nil_append,hx];congr 2;omega
theorem apV{s:ByteArray}(h:s.size≤254):
 over (((List.replicate 256 (0:Int)).set 0 (IntKind.u8.wrap ((s.size:Int).fdiv (2^min (Int.toNat 8) IntKind.i64.bits)))).set 1 (IntKind.u8.wrap (s.size:Int))) 2 (min (bu s).length 254) (bu s)=x7 s:=by
 have e:(List.replicate 256 (0:Int))=0::0::List.replicate 254 0:=rfl;have hl:=fI s;rw[e];simp only[List.set_cons_zero,List.set_cons_succ,over,List.take_succ_cons,List.take_zero,hl,wrap_u8];rw[show(2:Int)^min (Int.toNat 8) IntKind.i64.bits=256 from by decide,Int.fdiv_eq_ediv_of_nonneg _ (by omega),Nat.min_eq_left h,List.take_of_length_le (by omega),Nat.add_comm 2,List.drop_succ_cons,List.drop_succ_cons,List.drop_replicate];unfold x7;rw[show(s.size:Int) / 256%256=(s.size:Int) / 256 from by omega];rfl
theorem aeZ{s:ByteArray}(h:s.size≤254):(x7 s).length=256:=by
 unfold x7;simp only[List.length_cons,List.length_append,List.length_replicate,fI];omega
theorem aiU{s:ByteArray}:∀x∈x7 s,s.size≤254→0≤x∧x≤255:=by
 intro x hx h;simp only[x7,List.mem_cons,List.mem_append,List.mem_replicate,bu,List.mem_map]at hx;rcases hx with rfl|rfl|⟨b,_,rfl⟩|⟨_,rfl⟩
 ·omega
 ·omega
 ·have:=b.toNat_lt;omega
 ·omega
theorem x8{ws:List Int}(h:ws.length=256){k:Nat}(hk:k<4):(gX ws k).size=64:=by
 unfold gX;rw[x6,List.length_take,List.length_drop];omega
theorem aiV{th:Th}{n:Int}{ws:List Int}:∀(j k:Nat) (m:As) (f:Int),bH th m f→bH th (zK th n ws j k m f).1 (zK th n ws j k m f).2.1
 |0,k,m,f,h=>h
 |j+1,k,m,f,h=>by
  unfold zK;split
  ·exact aiV j (k+1) _ _ (abp h)
  ·exact abp h
theorem an0{th:Th}{m:As}{fu n:Int}{s:ByteArray}(h:bH th m fu):bH th (kg th m fu n s).1 (kg th m fu n s).2.1:=by
 unfold kg;split
 ·exact aiV _ _ _ _ h
 ·exact h
end Ds
namespace Ds
open Go Go.Sx Go.Proofs Lf
def adz:aE:=[(73,asl),(105,asm)]
abbrev aiW:FuncId:=88
abbrev inG:List FuncId:=[71,45,64,72,aiW,999999]
abbrev eP:TypeId:=25
abbrev eE:TypeId:=35
abbrev eA:TypeId:=117
def adA:List (Nat×Norm):=[((aiW+1)*100000+1,⟨[],[0,1,4,19,21,22,24,67,68],3,[]⟩),(12,⟨[],[4,5,7,50],3,[]⟩)]
theorem apW(th:Th)(m:As)(fu n:Int):run P adz.sum Tryd.f56 adA (start Tryd.f56 [.ptr 0 0,bD n] (hD th m fu)) inG=
 Tree.ite (decide (n<0)) (.ret [.own [.vec 1,.ag 2,.s (.int .i64 fu)] 96,.vec (.ae [.arr .u8 64] th) 138,.map (.arr .u8 64) m,.own [.ptr 0 0] 25,.own [.s (.str ByteArray.empty)] 9,.own [.s (.aV .i64 5)] 35] (.bo [.s (.str ByteArray.empty),.s (.aV .i64 5)])) (.need ((4:Int)≠0) (.need (aF ((↑(List.length th):Int).tdiv 4)) (.ite (decide (n≥(↑(List.length th):Int).tdiv 4)) (.ret [.own [.vec 1,.ag 2,.s (.int .i64 fu)] 96,.vec (.ae [.arr .u8 64] th) 138,.map (.arr .u8 64) m,.own [.ptr 0 0] 25,.own [.s (.str ByteArray.empty)] 9,.own [.s (.aV .i64 5)] 35] (.bo [.s (.str ByteArray.empty),.s (.aV .i64 5)])) (.at (.mk (sl 69 [(0,.tag 3),(1,.ptr 4 0),(4,.s (.int .i64 0)),(19,.ptr 5 0),(21,.ptr 6 0),(22,.ptr 7 0),(24,.ptr 8 0),(67,.tag 9),(68,.tag 3)]) [.own [.vec 1,.ag 2,.s (.int .i64 fu)] 96,.vec (.ae [.arr .u8 64] th) 138,.map (.arr .u8 64) m,.dead,.own [.s (.int .i64 n)] 3,.own [.ptr 0 0] 25,.own [.s (.str ByteArray.empty)] 9,.own [.s (.int .i64 0)] 35,.own [.ints .u8 256 (List.replicate 256 0)] 117,.dead] (hd Tryd.f88 1) (.mk (some 88) false 0 [og Tryd.f56 none 8 1] 0)))))):=by kernel_rfl
noncomputable def cGR(th:Th)(m:As)(fu n:Int)(ws:List Int)(k:Int):bA:=⟨sl 69 [(0,.tag 3),(1,.ptr 4 0),(4,bD k),(19,.ptr 5 0),(21,.ptr 6 0),(22,.ptr 7 0),(24,.ptr 8 0),(67,.tag 9),(68,.tag 3)],
 [obD 1 2 fu,.vec (.ae cS th) eS,.map kS m,.dead,.own [bD n] 3,.own [.ptr 0 0] eP,.own [.s (.str ByteArray.empty)] 9,.own [bD 0] eE,.own [.ints .u8 256 ws] eA,.dead],hd Tryd.f88 1,⟨some aiW,false,0,[og Tryd.f56 none 8 1],0⟩⟩
theorem aiX(th:Th)(m:As)(fu n:Int)(ws:List Int)(k:Int):run P adz.sum Tryd.f56 adA (cGR th m fu n ws k) inG=
 Tree.ite (decide (k<4)) (.need (aF (k*64)) (.need (aF (n*4)) (.need (aF (n*4+k)) (.need (bt (some [AV.ptr 0 0,.s (.int .i64 (n*4+k))])) (.need (bt (some [ad.own [.vec 1,.ag 2,.s (.int .i64 fu)] 96,.vec (.ae [.arr .u8 64] th) 138,.map (.arr .u8 64) m])) (.need (bH th m fu) (.ite (rdE th (n*4+k) !=0) (.ret [.own [.vec 1,.ag 2,.s (.int .i64 fu)] 96,.vec (.ae [.arr .u8 64] th) 138,.map (.arr .u8 64) m,.dead,.own [.s (.int .i64 n)] 3,.own [.ptr 0 0] 25,.own [.s (.str ByteArray.empty)] 9,.own [.s (.int .i64 (rdE th (n*4+k)))] 35,.own [.ints .u8 256 ws] 117,.dead] (.bo [.s (.str ByteArray.empty),.s (.int .i64 (rdE th (n*4+k)))])) (.need ((0:Int)≤k*64) (.need (k*64≤(↑(256:Nat):Int)) (.need ((↑(256:Nat):Int)≤(↑(256:Nat):Int)) (.need True (.need ((0:Nat)+(k*64).toNat+((↑(256:Nat):Int).toNat - (k*64).toNat)≤256) (.need (aF (k+1)) (.at (.mk (sl 69 [(0,.tag 3),(1,.ptr 4 0),(4,.s (.int .i64 (k+1))),(19,.ptr 5 0),(21,.ptr 6 0),(22,.ptr 7 0),(24,.ptr 8 0),(67,.tag 9),(68,.tag 3)]) [.own [.vec 1,.ag 2,.s (.int .i64 fu)] 96,.vec (.ae [.arr .u8 64] th) 138,.map (.arr .u8 64) m,.dead,.own [.s (.int .i64 n)] 3,.own [.ptr 0 0] 25,.own [.s (.str ByteArray.empty)] 9,.own [.s (.int .i64 0)] 35,.own [.ints .u8 256 (over ws ((0:Nat)+(k*64).toNat) (min (List.map (fun(b:UInt8)=>(↑b.toNat:Int)) (oI th m (n*4+k)).data.toList).length ((↑(256:Nat):Int).toNat - (k*64).toNat)) (List.map (fun(b:UInt8)=>(↑b.toNat:Int)) (oI th m (n*4+k)).data.toList))] 117,.dead] (hd Tryd.f88 1) (.mk (some 88) false 0 [og Tryd.f56 none 8 1] 0)))))))))))))))) (.at (.mk (sl 51 [(4,.ptr 3 0),(5,.ptr 4 0),(7,.ptr 5 0),(50,.tag 6)]) [.own [.vec 1,.ag 2,.s (.int .i64 fu)] 96,.vec (.ae [.arr .u8 64] th) 138,.map (.arr .u8 64) m,.own [.s (.str ByteArray.empty)] 9,.own [.s (.int .i64 0)] 35,.own [.ints .u8 256 ws] 117,.dead] (hr Tryd.f56 12) (.mk none false 1 [] 0))):=by kernel_rfl
noncomputable def an1(th:Th)(m:As)(fu:Int)(ws:List Int):bA:=⟨sl 51 [(4,.ptr 3 0),(5,.ptr 4 0),(7,.ptr 5 0),(50,.tag 6)],[obD 1 2 fu,.vec (.ae cS th) eS,.map kS m,.own [.s (.str ByteArray.empty)] 9,.own [bD 0] eE,.own [.ints .u8 256 ws] eA,.dead],hr Tryd.f56 12,⟨none,false,1,[],0⟩⟩
theorem aiY(th:Th)(m:As)(fu:Int)(ws:List Int):run P adz.sum Tryd.f56 adA (an1 th m fu ws) inG=
 Tree.need (aF (ws.getD (0:Nat) (0:Int))) (Tree.need ((0:Int)≤(8:Int)) (Tree.need (aF (ws.getD (1:Nat) (0:Int))) (Tree.ite (decide (bF BinOp.or IntKind.i64 (IntKind.i64.wrap (ws.getD (0:Nat) (0:Int)*(2:Int)^min (Int.toNat (8:Int)) IntKind.i64.bits)) (ws.getD (1:Nat) (0:Int))>(254:Int))) (Tree.ret [ad.own [AV.vec (1:Nat),AV.ag (2:Nat),AV.s (SV.int IntKind.i64 fu)] (96:Nat),ad.vec (aI.ae [CK.arr IntKind.u8 (64:Nat)] th) (138:Nat),ad.map (CK.arr IntKind.u8 (64:Nat)) m,ad.own [AV.s (SV.str ByteArray.empty)] (9:Nat),ad.own [AV.s (SV.aV IntKind.i64 (4:Int))] (35:Nat),ad.own [AV.ints IntKind.u8 (256:Nat) ws] (117:Nat),ad.dead] (AV.bo [AV.s (SV.str ByteArray.empty),AV.s (SV.aV IntKind.i64 (4:Int))])) (Tree.need (aF ((2:Int)+bF BinOp.or IntKind.i64 (IntKind.i64.wrap (ws.getD (0:Nat) (0:Int)*(2:Int)^min (Int.toNat (8:Int)) IntKind.i64.bits)) (ws.getD (1:Nat) (0:Int)))) (Tree.need ((0:Int)≤(2:Int)) (Tree.need ((2:Int)≤(2:Int)+bF BinOp.or IntKind.i64 (IntKind.i64.wrap (ws.getD (0:Nat) (0:Int)*(2:Int)^min (Int.toNat (8:Int)) IntKind.i64.bits)) (ws.getD (1:Nat) (0:Int))) (Tree.need ((2:Int)+bF BinOp.or IntKind.i64 (IntKind.i64.wrap (ws.getD (0:Nat) (0:Int)*(2:Int)^min (Int.toNat (8:Int)) IntKind.i64.bits)) (ws.getD (1:Nat) (0:Int))≤(↑(256:Nat):Int)) (Tree.need ((2:Nat)+(((2:Int)+bF BinOp.or IntKind.i64 (IntKind.i64.wrap (ws.getD (0:Nat) (0:Int)*(2:Int)^min (Int.toNat (8:Int)) IntKind.i64.bits)) (ws.getD (1:Nat) (0:Int))).toNat - Int.toNat (2:Int))≤(256:Nat)) (Tree.ret [ad.own [AV.vec (1:Nat),AV.ag (2:Nat),AV.s (SV.int IntKind.i64 fu)] (96:Nat),ad.vec (aI.ae [CK.arr IntKind.u8 (64:Nat)] th) (138:Nat),ad.map (CK.arr IntKind.u8 (64:Nat)) m,ad.own [AV.s (SV.str (aL (List.take (((2:Int)+bF BinOp.or IntKind.i64 (IntKind.i64.wrap (ws.getD (0:Nat) (0:Int)*(2:Int)^min (Int.toNat (8:Int)) IntKind.i64.bits)) (ws.getD (1:Nat) (0:Int))).toNat - Int.toNat (2:Int)) (List.drop (2:Nat) ws))))] (9:Nat),ad.own [AV.s (SV.aV IntKind.i64 (0:Int))] (35:Nat),ad.own [AV.ints IntKind.u8 (256:Nat) ws] (117:Nat),ad.dead] (AV.bo [AV.s (SV.str (aL (List.take (((2:Int)+bF BinOp.or IntKind.i64 (IntKind.i64.wrap (ws.getD (0:Nat) (0:Int)*(2:Int)^min (Int.toNat (8:Int)) IntKind.i64.bits)) (ws.getD (1:Nat) (0:Int))).toNat - Int.toNat (2:Int)) (List.drop (2:Nat) ws)))),AV.s (SV.aV IntKind.i64 (0:Int))])))))))))):=by kernel_rfl
def alF:List (Nat×Norm):=[((aiW+1)*100000+1,⟨[],[0,1,4,20,23,25,64,65],3,[]⟩)]
theorem apX(th:Th)(m:As)(fu n:Int)(s:ByteArray):run P adz.sum Tryd.f97 alF (start Tryd.f97 [.ptr 0 0,bD n,.s (.str s)] (hD th m fu)) inG=
 Tree.ite (decide (n<(0:Int))) (Tree.ret [ad.own [AV.vec (1:Nat),AV.ag (2:Nat),AV.s (SV.int IntKind.i64 fu)] (96:Nat),ad.vec (aI.ae [CK.arr IntKind.u8 (64:Nat)] th) (138:Nat),ad.map (CK.arr IntKind.u8 (64:Nat)) m,ad.own [AV.ptr (0:Nat) (0:Nat)] (25:Nat),ad.own [AV.s (SV.aV IntKind.i64 (5:Int))] (35:Nat)] (AV.s (SV.aV IntKind.i64 (5:Int)))) (Tree.need ((4:Int)≠(0:Int)) (Tree.need (aF ((↑(List.length th):Int).tdiv (4:Int))) (Tree.ite (decide (n≥(↑(List.length th):Int).tdiv (4:Int))) (Tree.ret [ad.own [AV.vec (1:Nat),AV.ag (2:Nat),AV.s (SV.int IntKind.i64 fu)] (96:Nat),ad.vec (aI.ae [CK.arr IntKind.u8 (64:Nat)] th) (138:Nat),ad.map (CK.arr IntKind.u8 (64:Nat)) m,ad.own [AV.ptr (0:Nat) (0:Nat)] (25:Nat),ad.own [AV.s (SV.aV IntKind.i64 (5:Int))] (35:Nat)] (AV.s (SV.aV IntKind.i64 (5:Int)))) (Tree.ite (decide ((↑s.size:Int)>(254:Int))) (Tree.ret [ad.own [AV.vec (1:Nat),AV.ag (2:Nat),AV.s (SV.int IntKind.i64 fu)] (96:Nat),ad.vec (aI.ae [CK.arr IntKind.u8 (64:Nat)] th) (138:Nat),ad.map (CK.arr IntKind.u8 (64:Nat)) m,ad.own [AV.ptr (0:Nat) (0:Nat)] (25:Nat),ad.own [AV.s (SV.aV IntKind.i64 (40:Int))] (35:Nat)] (AV.s (SV.aV IntKind.i64 (40:Int)))) (Tree.need ((0:Int)≤(8:Int)) (Tree.need ((0:Int)≤(2:Int)) (Tree.need ((2:Int)≤(↑(256:Nat):Int)) (Tree.need ((↑(256:Nat):Int)≤(↑(256:Nat):Int)) (Tree.need True (Tree.need ((2:Nat)+(254:Nat)≤(256:Nat)) (Tree.at (bA.mk (sl (66:Nat) [((0:Nat),AV.tag (3:Nat)),((1:Nat),AV.ptr (4:Nat) (0:Nat)),((4:Nat),AV.s (SV.int IntKind.i64 (0:Int))),((20:Nat),AV.ptr (5:Nat) (0:Nat)),((23:Nat),AV.ptr (6:Nat) (0:Nat)),((25:Nat),AV.ptr (7:Nat) (0:Nat)),((64:Nat),AV.tag (8:Nat)),((65:Nat),AV.tag (3:Nat))]) [ad.own [AV.vec (1:Nat),AV.ag (2:Nat),AV.s (SV.int IntKind.i64 fu)] (96:Nat),ad.vec (aI.ae [CK.arr IntKind.u8 (64:Nat)] th) (138:Nat),ad.map (CK.arr IntKind.u8 (64:Nat)) m,ad.dead,ad.own [AV.s (SV.int IntKind.i64 n)] (3:Nat),ad.own [AV.ptr (0:Nat) (0:Nat)] (25:Nat),ad.own [AV.s (SV.int IntKind.i64 (0:Int))] (35:Nat),ad.own [AV.ints IntKind.u8 (256:Nat) (over (((List.replicate (256:Nat) (0:Int)).set (0:Nat) (IntKind.u8.wrap ((↑s.size:Int).fdiv ((2:Int)^min (Int.toNat (8:Int)) IntKind.i64.bits)))).set (1:Nat) (IntKind.u8.wrap (↑s.size:Int))) (2:Nat) (min (List.map (fun(b:UInt8)=>(↑b.toNat:Int)) s.data.toList).length (254:Nat)) (List.map (fun(b:UInt8)=>(↑b.toNat:Int)) s.data.toList))] (117:Nat),ad.dead] (hd Tryd.f88 (1:Nat)) (nh.mk (some (88:Nat)) false (0:Nat) [og Tryd.f97 none (11:Nat) (1:Nat)] (0:Nat)))))))))))))):=by kernel_rfl
noncomputable def cGW(th:Th)(m:As)(fu n:Int)(ws:List Int)(k:Int):bA:=⟨sl 66 [(0,.tag 3),(1,.ptr 4 0),(4,bD k),(20,.ptr 5 0),(23,.ptr 6 0),(25,.ptr 7 0),(64,.tag 8),(65,.tag 3)],
 [obD 1 2 fu,.vec (.ae cS th) eS,.map kS m,.dead,.own [bD n] 3,.own [.ptr 0 0] eP,.own [bD 0] eE,.own [.ints .u8 256 ws] eA,.dead],hd Tryd.f88 1,⟨some aiW,false,0,[og Tryd.f97 none 11 1],0⟩⟩
theorem aiZ(th:Th)(m:As)(fu n:Int)(ws:List Int)(k:Int):run P adz.sum Tryd.f97 alF (cGW th m fu n ws k) inG=
 Tree.ite (decide (k<4)) (.need (aF (k*64)) (.need (aF (n*4)) (.need (aF (n*4+k)) (.need (aF (k*64+64)) (.need ((0:Int)≤k*64) (.need (k*64≤k*64+64) (.need (k*64+64≤(↑(256:Nat):Int)) (.need ((0:Nat)+(k*64).toNat+((k*64+64).toNat - (k*64).toNat)≤256) (.need (bt (some [AV.ptr 0 0,.s (.int .i64 (n*4+k)),.s (.str (aL (List.take ((k*64+64).toNat - (k*64).toNat) (List.drop ((0:Nat)+(k*64).toNat) ws))))])) (.need (bt (some [ad.own [.vec 1,.ag 2,.s (.int .i64 fu)] 96,.vec (.ae [.arr .u8 64] th) 138,.map (.arr .u8 64) m])) (.need (bH th m fu) (.ite (ri th fu (n*4+k) (aL (List.take ((k*64+64).toNat - (k*64).toNat) (List.drop ((0:Nat)+(k*64).toNat) ws))) !=0) (.ret [.own [.vec 1,.ag 2,.s (.int .i64 (wZ th fu (n*4+k) (aL (List.take ((k*64+64).toNat - (k*64).toNat) (List.drop ((0:Nat)+(k*64).toNat) ws)))))] 96,.vec (.ae [.arr .u8 64] th) 138,.map (.arr .u8 64) (xZ th m fu (n*4+k) (aL (List.take ((k*64+64).toNat - (k*64).toNat) (List.drop ((0:Nat)+(k*64).toNat) ws)))),.dead,.own [.s (.int .i64 n)] 3,.own [.ptr 0 0] 25,.own [.s (.int .i64 (ri th fu (n*4+k) (aL (List.take ((k*64+64).toNat - (k*64).toNat) (List.drop ((0:Nat)+(k*64).toNat) ws)))))] 35,.own [.ints .u8 256 ws] 117,.dead] (.s (.int .i64 (ri th fu (n*4+k) (aL (List.take ((k*64+64).toNat - (k*64).toNat) (List.drop ((0:Nat)+(k*64).toNat) ws))))))) (.need (aF (k+1)) (.at (.mk (sl 66 [(0,.tag 3),(1,.ptr 4 0),(4,.s (.int .i64 (k+1))),(20,.ptr 5 0),(23,.ptr 6 0),(25,.ptr 7 0),(64,.tag 8),(65,.tag 3)]) [.own [.vec 1,.ag 2,.s (.int .i64 (wZ th fu (n*4+k) (aL (List.take ((k*64+64).toNat - (k*64).toNat) (List.drop ((0:Nat)+(k*64).toNat) ws)))))] 96,.vec (.ae [.arr .u8 64] th) 138,.map (.arr .u8 64) (xZ th m fu (n*4+k) (aL (List.take ((k*64+64).toNat - (k*64).toNat) (List.drop ((0:Nat)+(k*64).toNat) ws)))),.dead,.own [.s (.int .i64 n)] 3,.own [.ptr 0 0] 25,.own [.s (.int .i64 0)] 35,.own [.ints .u8 256 ws] 117,.dead] (hd Tryd.f88 1) (.mk (some 88) false 0 [og Tryd.f97 none 11 1] 0))))))))))))))))
 (.ret [.own [.vec 1,.ag 2,.s (.int .i64 fu)] 96,.vec (.ae [.arr .u8 64] th) 138,.map (.arr .u8 64) m,.dead,.own [.s (.int .i64 n)] 3,.own [.ptr 0 0] 25,.own [.s (.aV .i64 0)] 35,.own [.ints .u8 256 ws] 117,.dead] (.s (.aV .i64 0))):=by kernel_rfl
theorem apY(th:Th)(m:As)(fu:Int):run P adz.sum Tryd.f45 [] (start Tryd.f45 [.ptr 0 0] (hD th m fu)) inG=
 Tree.need ((4:Int)≠0) (.need (aF ((↑(List.length th):Int).tdiv 4)) (.ret [.own [.vec 1,.ag 2,.s (.int .i64 fu)] 96,.vec (.ae [.arr .u8 64] th) 138,.map (.arr .u8 64) m] (.s (.int .i64 ((↑(List.length th):Int).tdiv 4))))):=by kernel_rfl
end Ds
namespace Ds
open Go Go.Sx Go.Proofs Lf
abbrev sGR:Spec (Th×As×Int×Int):=⟨fun(_,_,_,n)=>[.ptr 0 0,bD n],fun(th,m,fu,_)=>hD th m fu,fun(th,m,fu,n)=>[bH th m fu,aF n],fun(th,m,fu,_)=>hD th m fu,fun(th,m,_,n)=>.bo [.s (.str (fT th m n)),bD (gM th m n)]⟩
abbrev sGW:Spec (Th×As×Int×Int×ByteArray):=⟨fun(_,_,_,n,s)=>[.ptr 0 0,bD n,.s (.str s)],fun(th,m,fu,_)=>hD th m fu,fun(th,m,fu,n,_)=>[bH th m fu,aF n],fun(th,m,fu,n,s)=>hD th (kg th m fu n s).1 (kg th m fu n s).2.1,fun(th,m,fu,n,s)=>bD (kg th m fu n s).2.2⟩
abbrev sPn:Spec (Th×As×Int):=⟨fun _=>[.ptr 0 0],fun(th,m,fu)=>hD th m fu,fun(th,m,fu)=>[bH th m fu],fun(th,m,fu)=>hD th m fu,fun(th,_,_)=>bD (tH th)⟩
theorem kG{Z:aX}:adz.Ok P Z:=aE.Ok.cons (alD.sum mRd) (aE.Ok.cons (vv.sum mWr) aE.Ok.nil)
theorem aso{Z:aX}:ib P Z 45 sPn:=by
 refine aC Tryd.func45 (by kernel_rfl) (fun x=>Nat.le_of_ble_eq_true (by kernel_rfl)) ?_;rintro⟨(th:Th),(m:As),(fu:Int)⟩ ⟨(hd:bH th m fu),_⟩ X hX hz;have h4:=hd.t.1;have:=zL th;refine ew hz hX (by simp) kG Tryd.func45 (apY th m fu) ⟨by decide,⟨by unfold tH at this;omega,by unfold tH at this;omega⟩, ?_⟩;exact bQ 3 rfl (Nat.le_refl _) rfl rfl
theorem apZ{th:Th}{n:Int}(h:nD th n=true):rdE th n=0:=by unfold rdE;rw[if_pos h]
theorem ai0{ws:List Int}(h:∀x∈ws,0≤x∧x≤255):bF BinOp.or IntKind.i64 (IntKind.i64.wrap (ws.getD 0 0*2^min (Int.toNat 8) IntKind.i64.bits)) (ws.getD 1 0)=qH ws∧0≤qH ws∧qH ws≤65535:=by
 have b:∀i,0≤ws.getD i 0∧ws.getD i 0≤255:=fun i=>by
  by_cases hi:i<ws.length
  ·rw[bm hi];exact h _ (List.getElem_mem hi)
  ·simp[List.getD,List.getElem?_eq_none (Nat.le_of_not_lt hi)]
 have h0:=b 0;have h1:=b 1;unfold qH;exact⟨vz h0 h1,by omega,by omega⟩
theorem vA{th:Th}{m:As}{n:Int}:∀k:Nat,∀x∈pgL th m n k,0≤x∧x≤255
 |0,x,hx=>by cases hx
 |k+1,x,hx=>by
  rw[pgL,List.mem_append]at hx;rcases hx with hx|hx
  ·exact vA k x hx
  ·simp only[bu,List.mem_map]at hx;obtain⟨b,_,rfl⟩:=hx;have:=b.toNat_lt;omega
theorem ap0{Z:aX}{X:Ctx}{th:Th}{m:As}{fu n:Int}(hX:X.H=lk (sGR.heap (th,m,fu,n)))(hz:dT Z X)(hd:bH th m fu)(hp:tl th n=true):Safe P 56 X (kq sGR (th,m,fu,n)) (an1 th m fu (pgA th m n)):=by
 have hns:∀x∈adA,(sGR.heap (th,m,fu,n)).length≤x.2.m:=by intro y hy;simp[adA]at hy;rcases hy with rfl|rfl<;>exact Nat.le_refl _
 refine ew hz hX hns kG Tryd.func56 (aiY th m fu (pgA th m n)) ?_;obtain⟨e,l0,l1⟩:=ai0 (ws:=pgA th m n) (vA 4)
 have b:∀i,aF ((pgA th m n).getD i 0):=fun i=>by
  by_cases hi:i<(pgA th m n).length
  ·rw[bm hi];have:=vA 4 _ (List.getElem_mem hi);exact⟨by omega,by omega⟩
  ·simp[List.getD,List.getElem?_eq_none (Nat.le_of_not_lt hi),aF]
 rw[e];generalize hl:qH (pgA th m n)=l at *;have g1:l>254→gM th m n=4:=fun h=>by unfold gM;rw[if_pos hp,hl,if_pos h]
 have g2:¬l>254→gM th m n=0:=fun h=>by unfold gM;rw[if_pos hp,hl,if_neg h]
 refine⟨b 0,by decide,b 1,fun h=> ?_,fun h=>⟨⟨by omega,by omega⟩,by decide,by omega,by have:=of_decide_eq_false h;omega,by have:=of_decide_eq_false h;omega, ?_⟩⟩
 ·have h:=g1 (of_decide_eq_true h);refine bQ 3 rfl (Nat.le_refl _) ?_ rfl;simp[fT,h,rnS]
 ·have h:=g2 (of_decide_eq_false h);refine bQ 3 rfl (Nat.le_refl _) ?_ rfl;simp only[fT,h,if_true,hl];rw[show(2+l).toNat - Int.toNat 2=l.toNat from by omega];rfl
theorem asp{Z:aX}:ib P Z 56 sGR:=by
 refine aC Tryd.func56 (by kernel_rfl) (fun x=>Nat.le_of_ble_eq_true (by kernel_rfl)) ?_;rintro⟨(th:Th),(m:As),(fu:Int),(n:Int)⟩ ⟨(hd:bH th m fu),(hn:aF n),_⟩ X hX hz;have hns:∀x∈adA,(sGR.heap (th,m,fu,n)).length≤x.2.m:=by intro y hy;simp[adA]at hy;rcases hy with rfl|rfl<;>exact Nat.le_refl _
 have h4:=hd.t.1;have hN:=zL th;unfold aF at hn
 have bad:¬tl th n=true→fT th m n=ByteArray.empty∧gM th m n=5:=fun h=>by
  have:gM th m n=5:=by unfold gM;rw[if_neg h]
  exact⟨by unfold fT;rw[if_neg (by rw[this];decide)],this⟩
 have loop:tl th n=true→∀(j k:Nat),k+j=4→Safe P 56 X (kq sGR (th,m,fu,n)) (cGR th m fu n (pgL th m n k++List.replicate (256 - 64*k) 0) (k:Int)):=by
  intro hp j;obtain⟨p0,p1⟩:=fJ.1 hp
  induction j with
  |zero=>
   intro k hk;obtain rfl:k=4:=by omega
   refine ew hz hX hns kG Tryd.func56 (aiX th m fu n _ 4) ⟨fun h=>absurd (of_decide_eq_true h) (by omega),fun _=> ?_⟩;have e:pgL th m n 4++List.replicate (256 - 64*4) 0=pgA th m n:=List.append_nil _;rw[e];exact ap0 hX hz hd hp
  |succ j ih=>
   intro k hk;have dd:=zM hp (show k<4 by omega);have next:=ih (k+1) (by omega)
   have hl:=aeY hd hp k (by omega);have hs:(bu (oI th m (n*4+(k:Int)))).length=64:=by rw[fI];exact aeX hd dd
   have ho:=ady (k:=k) hl hs (by omega);have e0:=apZ dd;refine ew hz hX hns kG Tryd.func56 (aiX th m fu n _ k) ?_;rw[show(pgL th m n (k+1))=pgL th m n k++bu (oI th m (n*4+(k:Int)))from rfl,←ho]at next
   have eo:over (pgL th m n k++List.replicate (256 - 64*k) 0) (0+((k:Int)*64).toNat) (min (List.map (fun(b:UInt8)=>(b.toNat:Int)) (oI th m (n*4+(k:Int))).data.toList).length ((256:Int).toNat - ((k:Int)*64).toNat)) (List.map (fun(b:UInt8)=>(b.toNat:Int)) (oI th m (n*4+(k:Int))).data.toList)=over (pgL th m n k++List.replicate (256 - 64*k) 0) (64*k) 64 (bu (oI th m (n*4+(k:Int)))):=by
    show over _ _ (min (bu _).length _) (bu _)=_;rw[hs,show(0+((k:Int)*64).toNat)=64*k from by omega,show min 64 ((256:Int).toNat - ((k:Int)*64).toNat)=64 from by omega]
   rw[show((256:Nat):Int)=256 from rfl,eo,e0];refine⟨fun _=>⟨⟨by omega,by omega⟩,⟨by omega,by omega⟩,⟨by omega,by omega⟩,rfl,rfl,hd,fun h=>absurd h (by decide),fun _=>⟨by omega,by omega,by omega,trivial,by omega,⟨by omega,by omega⟩,next⟩⟩,fun h=>absurd (of_decide_eq_false h) (by omega)⟩
 refine ew hz hX hns kG Tryd.func56 (apW th m fu n) ?_;have lp:=loop;unfold tH at hN
 repeat' (with_reducible (first|refine iZ ?_|refine eU ?_ ?_|refine anU (fun _=> ?_) (fun _=> ?_)|refine anV (fun _=> ?_) (fun _=> ?_)|refine anW (fun _=> ?_) (fun _=> ?_)|refine asj ?_|refine kr ?_|refine anX ?_|refine anY (fun _=> ?_) (fun _=> ?_)|refine aiK (fun _=> ?_) (fun _=> ?_)|refine aiL ?_|refine rP ?_))
 all_goals first|omega|exact⟨by omega,by omega⟩|skip
 ·obtain⟨e1,e2⟩:=bad (fun h=>by have:=fJ.1 h;omega);refine bQ 3 rfl (Nat.le_refl _) ?_ rfl;simp[e1,e2,rnS]
 ·obtain⟨e1,e2⟩:=bad (fun h=>by have:=fJ.1 h;unfold tH at this;omega);refine bQ 3 rfl (Nat.le_refl _) ?_ rfl;simp[e1,e2,rnS]
 ·exact lp (fJ.2 ⟨by omega,by unfold tH;omega⟩) 4 0 rfl
end Ds
namespace Ds
open Go Go.Sx Go.Proofs Lf
theorem asq{Z:aX}:ib P Z 97 sGW:=by
 refine aC Tryd.func97 (by kernel_rfl) (fun x=>Nat.le_of_ble_eq_true (by kernel_rfl)) ?_;rintro⟨(th:Th),(m:As),(fu:Int),(n:Int),(s:ByteArray)⟩ ⟨(hd:bH th m fu),(hn:aF n),_⟩ X hX hz;have hns:∀x∈alF,(sGW.heap (th,m,fu,n,s)).length≤x.2.m:=by intro y hy;simp[alF]at hy;rcases hy with rfl;exact Nat.le_refl _
 have h4:=hd.t.1;have hN:=zL th;unfold aF at hn;have bad:∀c,gwC th n s=c→c≠0→kg th m fu n s=(m,fu,c):=fun c h h2=>by unfold kg;rw[h,if_neg h2]
 have loop:tl th n=true→s.size≤254→∀(j k:Nat) (m':As) (fR:Int),k+j=4→bH th m' fR→kg th m fu n s=zK th n (x7 s) j k m' fR→Safe P 97 X (kq sGW (th,m,fu,n,s)) (cGW th m' fR n (x7 s) (k:Int)):=by
  intro hp au8 j;obtain⟨p0,p1⟩:=fJ.1 hp;have hl:=aeZ au8
  induction j with
  |zero=>
   intro k m' fR hk hd' hr;obtain rfl:k=4:=by omega
   refine ew hz hX hns kG Tryd.func97 (aiZ th m' fR n _ 4) ⟨fun h=>absurd (of_decide_eq_true h) (by omega),fun _=> ?_⟩;rw[zK]at hr;refine bQ 3 rfl (Nat.le_refl _) ?_ ?_<;>simp[hr,rnS]
  |succ j ih=>
   intro k m' fR hk hd' hr;have next:=ih (k+1)
   have es:aL (List.take ((((k:Int)*64+64)).toNat - ((k:Int)*64).toNat) (List.drop (0+((k:Int)*64).toNat) (x7 s)))=gX (x7 s) k:=by
    unfold gX;rw[show(0+((k:Int)*64).toNat)=64*k from by omega,show((((k:Int)*64+64)).toNat - ((k:Int)*64).toNat)=64 from by omega]
   rw[zK]at hr;refine ew hz hX hns kG Tryd.func97 (aiZ th m' fR n _ k) ?_;rw[show((256:Nat):Int)=256 from rfl,es];refine⟨fun _=>⟨⟨by omega,by omega⟩,⟨by omega,by omega⟩,⟨by omega,by omega⟩,⟨by omega,by omega⟩,by omega,by omega,by omega,by omega,rfl,rfl,hd',fun h=> ?_,fun h=>⟨⟨by omega,by omega⟩, ?_⟩⟩,fun h=>absurd (of_decide_eq_false h) (by omega)⟩
   ·have h:¬ri th fR (n*4+(k:Int)) (gX (x7 s) k)=0:=by simpa using h
    rw[if_neg h]at hr;refine bQ 3 rfl (Nat.le_refl _) ?_ ?_<;>simp[hr,rnS]
   ·have h:ri th fR (n*4+(k:Int)) (gX (x7 s) k)=0:=by simpa using h
    rw[if_pos h]at hr;exact next _ _ (by omega) (abp hd') hr
 refine ew hz hX hns kG Tryd.func97 (apX th m fu n s) ?_;have lp:=loop;have hb:=fun h=>apV (s:=s) h;unfold bu at hb;unfold tH at hN
 repeat' (with_reducible (first|refine iZ ?_|refine eU ?_ ?_|refine anU (fun _=> ?_) (fun _=> ?_)|refine anV (fun _=> ?_) (fun _=> ?_)|refine anW (fun _=> ?_) (fun _=> ?_)|refine asj ?_|refine kr ?_|refine anX ?_|refine anY (fun _=> ?_) (fun _=> ?_)|refine aiK (fun _=> ?_) (fun _=> ?_)|refine aiL ?_|refine rP ?_))
 all_goals first|omega|exact⟨by omega,by omega⟩|trivial|skip
 ·have e:=bad 5 (by unfold gwC;rw[if_neg (fun h=>by have:=fJ.1 h;omega)]) (by decide);refine bQ 3 rfl (Nat.le_refl _) ?_ ?_<;>simp[e,rnS]
 ·have e:=bad 5 (by unfold gwC;rw[if_neg (fun h=>by have:=fJ.1 h;unfold tH at this;omega)]) (by decide);refine bQ 3 rfl (Nat.le_refl _) ?_ ?_<;>simp[e,rnS]
 ·have e:=bad 40 (by unfold gwC;rw[if_pos (fJ.2 ⟨by omega,by unfold tH;omega⟩),if_pos (by omega)]) (by decide);refine bQ 3 rfl (Nat.le_refl _) ?_ ?_<;>simp[e,rnS]
 ·rw[hb (by omega)];have hp:tl th n=true:=fJ.2 ⟨by omega,by unfold tH;omega⟩;have ec:gwC th n s=0:=by unfold gwC;rw[if_pos hp,if_neg (by omega)]
  exact lp hp (by omega) 4 0 m fu rfl hd (by unfold kg;rw[ec,if_pos rfl])
end Ds
namespace Ds
open Go Go.Sx Go.Proofs Lf
theorem w4{ws:List Int}(h:∀x∈ws,0≤x∧x≤255):bu (aL ws)=ws:=by
 simp only[aL,bu,List.map_map];refine(List.map_congr_left fun b hb=> ?_).trans (List.map_id ws);have:=h b hb;simp only[Function.comp,UInt8.toNat_ofNat',id];omega
end Ds
namespace Ds
open Go Go.Sx Go.Proofs Lf
theorem ai1{th:Th}{n:Int}{ws:List Int}(hp:tl th n=true)(hw:ws.length=256):∀(j k:Nat) (m:As),k+j=4→bH th m (-1)→
 (zK th n ws j k m (-1)).2=(-1,0)∧(∀i:Nat,k≤i→i<4→oI th (zK th n ws j k m (-1)).1 (n*4+(i:Int))=gX ws i)∧
   ∀x,(∀i:Nat,k≤i→i<4→x≠n*4+(i:Int))→oI th (zK th n ws j k m (-1)).1 x=oI th m x
 |0,k,m,hk,hd=>⟨rfl,fun i h1 h2=>by omega,fun x _=>rfl⟩
 |j+1,k,m,hk,hd=>by
  have dd:=zM hp (show k<4 by omega);have hs:=x8 hw (show k<4 by omega);have he:ri th (-1) (n*4+(k:Int)) (gX ws k)=0:=vw.2 ⟨dd,hs,by decide⟩;have hf:wZ th (-1) (n*4+(k:Int)) (gX ws k)= -1:=by unfold wZ;rw[if_pos ⟨dd,hs⟩];rfl
  have hd':=abp (n:=n*4+(k:Int)) (s:=gX ws k) hd;have hr:=fun x=>anZ (n:=n*4+(k:Int)) (x:=x) (s:=gX ws k) hd;rw[hf]at hd';obtain⟨h1,h2,h3⟩:=ai1 hp hw j (k+1) _ (by omega) hd';unfold zK;rw[if_pos he,hf];refine⟨h1,fun i hi hi4=> ?_,fun x hx=> ?_⟩
  ·by_cases e:i=k
   ·subst e;rw[h3 _ (fun i' a b=>by omega),hr,if_pos ⟨he,rfl⟩]
   ·exact h2 i (by omega) hi4
  ·rw[h3 x (fun i a b=>hx i (by omega) b),hr,if_neg (fun h=>hx k (Nat.le_refl _) (by omega) h.2)]
theorem x9{th th':Th}{m m':As}{n:Int}:∀k:Nat,(∀i:Nat,i<k→oI th m (n*4+(i:Int))=oI th' m' (n*4+(i:Int)))→pgL th m n k=pgL th' m' n k
 |0,_=>rfl
 |k+1,h=>by rw[pgL,pgL,x9 k (fun i hi=>h i (by omega)),h k (by omega)]
theorem ai2{th th':Th}{m m':As}{n:Int}(hl:th'.length=th.length)(h:∀i:Nat,i<4→oI th m (n*4+(i:Int))=oI th' m' (n*4+(i:Int))):
 gM th' m' n=gM th m n∧fT th' m' n=fT th m n:=by
 have e:pgA th' m' n=pgA th m n:=(x9 4 h).symm;have ep:tl th' n=tl th n:=by unfold tl tH;rw[hl]
 have eg:gM th' m' n=gM th m n:=by unfold gM;rw[e,ep]
 exact⟨eg,by unfold fT;rw[eg,e]⟩
theorem ap1{th:Th}{m:As}{n:Int}{s:ByteArray}(hp:tl th n=true)(hs:s.size≤254)(h:pgA th m n=x7 s):gM th m n=0∧fT th m n=s:=by
 have hl:qH (x7 s)=(s.size:Int):=by
  unfold qH x7;show(s.size:Int) / 256*256+(s.size:Int)%256=s.size;omega
 have e:gM th m n=0:=by unfold gM;rw[if_pos hp,h,hl,if_neg (by omega)]
 refine⟨e, ?_⟩;unfold fT;rw[if_pos e,h,hl,Int.toNat_natCast];unfold x7;show aL ((bu s++List.replicate (254 - s.size) 0).take s.size)=s;rw[List.take_append_of_le_length (by rw[fI];exact Nat.le_refl _),List.take_of_length_le (by rw[fI];exact Nat.le_refl _),oW]
theorem ai3{ws:List Int}(hw:ws.length=256)(hb:∀x∈ws,0≤x∧x≤255):bu (gX ws 0)++bu (gX ws 1)++bu (gX ws 2)++bu (gX ws 3)=ws:=by
 have e:∀k,bu (gX ws k)=(ws.drop (64*k)).take 64:=fun k=>w4 fun x hx=>hb x (List.mem_of_mem_drop (List.mem_of_mem_take hx));rw[e,e,e,e];have h3:(ws.drop (64*3)).take 64=ws.drop 192:=List.take_of_length_le (by rw[List.length_drop];omega);rw[h3];have d:∀k,(ws.drop k).take 64++ws.drop (k+64)=ws.drop k:=fun k=>by rw[←List.drop_drop,List.take_append_drop]
 have d2:=d 128;have d1:=d 64;have d0:=d 0;simp only[List.append_assoc];rw[show 64*2=128 from rfl,d2,show 64*1=64 from rfl,d1,show 64*0=0 from rfl,d0];rfl
end Ds
namespace Lf
open Go Go.Sx Go.Proofs
noncomputable abbrev P:Program:=Tryd.prog
theorem mixed:P.follows .mixedOrders=true:=by kernel_rfl
abbrev bh:Ty:=.b (.int .i64)
abbrev cX:Ty:=.b .bool
abbrev dt:Ty:=.b .str
abbrev abq:Ty:=.b (.row (.ints .i64) 3)
abbrev cE:List CK:=[.str,.str]
abbrev cB:List CK:=[.str,.int .i64]
abbrev En:Type:=ByteArray×ByteArray×Unit
abbrev Br:Type:=ByteArray×Int×Unit
abbrev eE:TypeId:=34
abbrev eB:TypeId:=79
abbrev qI:Ty:=.b (.row (.ae cE) eE)
abbrev w5:Ty:=.b (.row (.ae cB) eB)
abbrev eK:Ty:=.st [.bool,.row (.ae cE) eE,.row (.ae cB) eB]
abbrev avN(l:Bool)(es:List En)(bs:List Br):AV:=.agg [.s (.bool l),.s (.ro (.ae cE es)),.s (.ro (.ae cB bs))]
abbrev ya(l:Bool)(es:List En)(bs:List Br)(t:TypeId):ad:=.own [.s (.bool l),.s (.ro (.ae cE es)),.s (.ro (.ae cB bs))] t
theorem go{Z:aX}{X:Ctx}{t:aE}{f:FuncId}{fn:Func}{ns:List (Nat×Norm)}{c:bA}{tr:Tree}{K:List ad→AV→Prop}(hz:dT Z X)(hX:∀id,X.H id=none)(hT:t.Ok P Z)(hf:P.funcs[f]? =some fn)
 (e:run P t.sum fn ns c=tr) (h:tr.aM K (Safe P f X K)):Safe P f X K c:=cq (aE.sOk hT) hz mixed hf (fun _ _ id _=>hX id) e h
def dE:En:=(ByteArray.empty,ByteArray.empty,())
def dB:Br:=(ByteArray.empty,0,())
def okE(es:List En)(i:Nat):Bool:= !(decide ((es.getD i dE).1=ByteArray.empty)||decide (((es.getD i dE).1.size:Int)>24)||decide (((es.getD i dE).2.1.size:Int)>100)||(decide (0<i)&& !slt (es.getD (i - 1) dE).1 (es.getD i dE).1))
def okB(bs:List Br)(i:Nat):Bool:= !(decide (((bs.getD i dB).1.size:Int)>24)||decide ((bs.getD i dB).2.1<2)||decide ((bs.getD i dB).2.1≥1024)||(decide (0<i)&& !slt (bs.getD (i - 1) dB).1 (bs.getD i dB).1))
def jE(es:List En):Bool:=(List.range es.length).all (okE es)
def gm(bs:List Br):Bool:=(List.range bs.length).all (okB bs)
def da(l:Bool)(es:List En)(bs:List Br):Bool:= !((l&&decide ((bs.length:Int)>0))||(!l&&decide ((es.length:Int)>0)))&&jE es&&gm bs
def ku:aE:=[]
def ai4:List (Nat×Norm):=[(4,⟨[],[1,27,28,29],0,[]⟩),(10,⟨[],[1,67,68,69],0,[]⟩)]
noncomputable def an2(l:Bool)(es:List En)(bs:List Br)(i:Int):bA:=⟨sl 105 [(1,.ptr 0 0),(27,.s (.ro (.ae cE es))),(28,.s (.int .i64 (es.length:Int))),(29,.s (.int .i64 i))],[ya l es bs 73],hd Tryd.f76 4,{}⟩
noncomputable def an3(l:Bool)(es:List En)(bs:List Br)(i:Int):bA:=⟨sl 105 [(1,.ptr 0 0),(67,.s (.ro (.ae cB bs))),(68,.s (.int .i64 (bs.length:Int))),(69,.s (.int .i64 i))],[ya l es bs 73],hd Tryd.f76 10,{}⟩
theorem alG(l:Bool)(es:List En)(bs:List Br):run P ku.sum Tryd.f76 ai4 (start Tryd.f76 [avN l es bs] [])=
 Tree.ite l (.ite (decide ((↑bs.length:Int)>0)) (.ret [.own [.s (.bool l),.s (.ro (.ae [.str,.str] es)),.s (.ro (.ae [.str,.int .i64] bs))] 73] (.s (.aA false))) (.ite (!l) (.ite (decide ((↑es.length:Int)>0)) (.ret [.own [.s (.bool l),.s (.ro (.ae [.str,.str] es)),.s (.ro (.ae [.str,.int .i64] bs))] 73] (.s (.aA false))) (.at (.mk (sl 105 [(1,.ptr 0 0),(27,.s (.ro (.ae [.str,.str] es))),(28,.s (.int .i64 (↑es.length:Int))),(29,.s (.int .i64 0))]) [.own [.s (.bool l),.s (.ro (.ae [.str,.str] es)),.s (.ro (.ae [.str,.int .i64] bs))] 73] (hd Tryd.f76 4) (.mk none false 0 [] 0)))) (.at (.mk (sl 105 [(1,.ptr 0 0),(27,.s (.ro (.ae [.str,.str] es))),(28,.s (.int .i64 (↑es.length:Int))),(29,.s (.int .i64 0))]) [.own [.s (.bool l),.s (.ro (.ae [.str,.str] es)),.s (.ro (.ae [.str,.int .i64] bs))] 73] (hd Tryd.f76 4) (.mk none false 0 [] 0))))) (.ite (!l) (.ite (decide ((↑es.length:Int)>0)) (.ret [.own [.s (.bool l),.s (.ro (.ae [.str,.str] es)),.s (.ro (.ae [.str,.int .i64] bs))] 73] (.s (.aA false))) (.at (.mk (sl 105 [(1,.ptr 0 0),(27,.s (.ro (.ae [.str,.str] es))),(28,.s (.int .i64 (↑es.length:Int))),(29,.s (.int .i64 0))]) [.own [.s (.bool l),.s (.ro (.ae [.str,.str] es)),.s (.ro (.ae [.str,.int .i64] bs))] 73] (hd Tryd.f76 4) (.mk none false 0 [] 0)))) (.at (.mk (sl 105 [(1,.ptr 0 0),(27,.s (.ro (.ae [.str,.str] es))),(28,.s (.int .i64 (↑es.length:Int))),(29,.s (.int .i64 0))]) [.own [.s (.bool l),.s (.ro (.ae [.str,.str] es)),.s (.ro (.ae [.str,.int .i64] bs))] 73] (hd Tryd.f76 4) (.mk none false 0 [] 0)))):=by kernel_rfl
theorem abr(l:Bool)(es:List En)(bs:List Br)(i:Int):run P ku.sum Tryd.f76 ai4 (an2 l es bs i)=
 Tree.ite (decide (i<(↑es.length:Int))) (.need ((0:Int)≤i) (.need (i<(↑es.length:Int)) (.ite (decide ((es.getD i.toNat (CL.d [.str,.str])).fst=ByteArray.empty)) (.ret [.own [.s (.bool l),.s (.ro (.ae [.str,.str] es)),.s (.ro (.ae [.str,.int .i64] bs))] 73,.own [.s (.str (es.getD i.toNat (CL.d [.str,.str])).fst),.s (.str (es.getD i.toNat (CL.d [.str,.str])).snd.fst)] 34] (.s (.aA false))) (.ite (decide ((↑(ByteArray.size (es.getD i.toNat (CL.d [.str,.str])).fst):Int)>24)) (.ret [.own [.s (.bool l),.s (.ro (.ae [.str,.str] es)),.s (.ro (.ae [.str,.int .i64] bs))] 73,.own [.s (.str (es.getD i.toNat (CL.d [.str,.str])).fst),.s (.str (es.getD i.toNat (CL.d [.str,.str])).snd.fst)] 34] (.s (.aA false))) (.ite (decide ((↑(ByteArray.size (es.getD i.toNat (CL.d [.str,.str])).snd.fst):Int)>100)) (.ret [.own [.s (.bool l),.s (.ro (.ae [.str,.str] es)),.s (.ro (.ae [.str,.int .i64] bs))] 73,.own [.s (.str (es.getD i.toNat (CL.d [.str,.str])).fst),.s (.str (es.getD i.toNat (CL.d [.str,.str])).snd.fst)] 34] (.s (.aA false))) (.ite (decide (i>0)) (.need (aF (i - (1:Int))) (.need ((0:Int)≤i - (1:Int)) (.need (i - (1:Int)<(↑es.length:Int)) (.ite (!slt (es.getD (i - (1:Int)).toNat (CL.d [.str,.str])).fst (es.getD i.toNat (CL.d [.str,.str])).fst) (.ret [.own [.s (.bool l),.s (.ro (.ae [.str,.str] es)),.s (.ro (.ae [.str,.int .i64] bs))] 73,.own [.s (.str (es.getD i.toNat (CL.d [.str,.str])).fst),.s (.str (es.getD i.toNat (CL.d [.str,.str])).snd.fst)] 34] (.s (.aA false))) (.need (aF (i+1)) (.at (.mk (sl 105 [(1,.ptr 0 0),(27,.s (.ro (.ae [.str,.str] es))),(28,.s (.int .i64 (↑es.length:Int))),(29,.s (.int .i64 (i+1)))]) [.own [.s (.bool l),.s (.ro (.ae [.str,.str] es)),.s (.ro (.ae [.str,.int .i64] bs))] 73] (hd Tryd.f76 4) (.mk none false 0 [] 0)))))))) (.need (aF (i+1)) (.at (.mk (sl 105 [(1,.ptr 0 0),(27,.s (.ro (.ae [.str,.str] es))),(28,.s (.int .i64 (↑es.length:Int))),(29,.s (.int .i64 (i+1)))]) [.own [.s (.bool l),.s (.ro (.ae [.str,.str] es)),.s (.ro (.ae [.str,.int .i64] bs))] 73] (hd Tryd.f76 4) (.mk none false 0 [] 0)))))))))) (.at (.mk (sl 105 [(1,.ptr 0 0),(67,.s (.ro (.ae [.str,.int .i64] bs))),(68,.s (.int .i64 (↑bs.length:Int))),(69,.s (.int .i64 0))]) [.own [.s (.bool l),.s (.ro (.ae [.str,.str] es)),.s (.ro (.ae [.str,.int .i64] bs))] 73] (hd Tryd.f76 10) (.mk none false 0 [] 0))):=by kernel_rfl
theorem abt(l:Bool)(es:List En)(bs:List Br)(i:Int):run P ku.sum Tryd.f76 ai4 (an3 l es bs i)=
 Tree.ite (decide (i<(↑bs.length:Int))) (.need ((0:Int)≤i) (.need (i<(↑bs.length:Int)) (.ite (decide ((↑(ByteArray.size (bs.getD i.toNat (CL.d [.str,.int .i64])).fst):Int)>24)) (.ret [.own [.s (.bool l),.s (.ro (.ae [.str,.str] es)),.s (.ro (.ae [.str,.int .i64] bs))] 73,.own [.s (.str (bs.getD i.toNat (CL.d [.str,.int .i64])).fst),.s (.int .i64 (bs.getD i.toNat (CL.d [.str,.int .i64])).snd.fst)] 79] (.s (.aA false))) (.ite (decide ((bs.getD i.toNat (CL.d [.str,.int .i64])).snd.fst<2)) (.ret [.own [.s (.bool l),.s (.ro (.ae [.str,.str] es)),.s (.ro (.ae [.str,.int .i64] bs))] 73,.own [.s (.str (bs.getD i.toNat (CL.d [.str,.int .i64])).fst),.s (.int .i64 (bs.getD i.toNat (CL.d [.str,.int .i64])).snd.fst)] 79] (.s (.aA false))) (.ite (decide ((bs.getD i.toNat (CL.d [.str,.int .i64])).snd.fst≥1024)) (.ret [.own [.s (.bool l),.s (.ro (.ae [.str,.str] es)),.s (.ro (.ae [.str,.int .i64] bs))] 73,.own [.s (.str (bs.getD i.toNat (CL.d [.str,.int .i64])).fst),.s (.int .i64 (bs.getD i.toNat (CL.d [.str,.int .i64])).snd.fst)] 79] (.s (.aA false))) (.ite (decide (i>0)) (.need (aF (i - (1:Int))) (.need ((0:Int)≤i - (1:Int)) (.need (i - (1:Int)<(↑bs.length:Int)) (.ite (!slt (bs.getD (i - (1:Int)).toNat (CL.d [.str,.int .i64])).fst (bs.getD i.toNat (CL.d [.str,.int .i64])).fst) (.ret [.own [.s (.bool l),.s (.ro (.ae [.str,.str] es)),.s (.ro (.ae [.str,.int .i64] bs))] 73,.own [.s (.str (bs.getD i.toNat (CL.d [.str,.int .i64])).fst),.s (.int .i64 (bs.getD i.toNat (CL.d [.str,.int .i64])).snd.fst)] 79] (.s (.aA false))) (.need (aF (i+1)) (.at (.mk (sl 105 [(1,.ptr 0 0),(67,.s (.ro (.ae [.str,.int .i64] bs))),(68,.s (.int .i64 (↑bs.length:Int))),(69,.s (.int .i64 (i+1)))]) [.own [.s (.bool l),.s (.ro (.ae [.str,.str] es)),.s (.ro (.ae [.str,.int .i64] bs))] 73] (hd Tryd.f76 10) (.mk none false 0 [] 0)))))))) (.need (aF (i+1)) (.at (.mk (sl 105 [(1,.ptr 0 0),(67,.s (.ro (.ae [.str,.int .i64] bs))),(68,.s (.int .i64 (↑bs.length:Int))),(69,.s (.int .i64 (i+1)))]) [.own [.s (.bool l),.s (.ro (.ae [.str,.str] es)),.s (.ro (.ae [.str,.int .i64] bs))] 73] (hd Tryd.f76 10) (.mk none false 0 [] 0)))))))))) (.ret [.own [.s (.bool l),.s (.ro (.ae [.str,.str] es)),.s (.ro (.ae [.str,.int .i64] bs))] 73] (.s (.aA true))):=by kernel_rfl
theorem adB{Z:aX}:dr P Z 76 [eK] [cX] (fun _=>[]) (fun((l,es,bs,()),())=>(da l es bs,())):=by
 refine au Tryd.func76 (by kernel_rfl) (by kernel_rfl) ?_;rintro⟨⟨(l:Bool),(es:List En),(bs:List Br),⟨⟩⟩,⟨⟩⟩ ⟨⟨_,hle,hlb,_⟩,_⟩ _ X hX hz;have hle:es.length≤9223372036854775807:=hle;have hlb:bs.length≤9223372036854775807:=hlb
 have second:jE es=true→da l es bs=gm bs→∀(n k:Nat),k+n=bs.length→(∀j,j<k→okB bs j=true)→Safe P 76 X (Ends [cX] (da l es bs,())) (an3 l es bs (k:Int)):=by
  intro he hm n
  induction n with
  |zero=>
   intro k hk hp;refine go hz hX aE.Ok.nil Tryd.func76 (abt l es bs k) ⟨fun h=>absurd (of_decide_eq_true h) (by omega),fun h=>fx ?_⟩;rw[hm];exact aeV (fun j hj=>hp j (by omega))
  |succ n ih=>
   intro k hk hp;have no:okB bs k=false→da l es bs=false:=fun h=>by rw[hm];exact aiO (by omega) h
   refine go hz hX aE.Ok.nil Tryd.func76 (abt l es bs k) ⟨fun h=>⟨by omega,by omega, ?_⟩,fun h=>absurd (of_decide_eq_false h) (by omega)⟩;simp only[Int.toNat_natCast];refine⟨fun h1=>fx (no ?_),fun h1=>⟨fun h2=>fx (no ?_),fun h2=>⟨fun h3=>fx (no ?_),fun h3=>⟨fun h4=> ?_,fun h4=>⟨⟨by omega,by omega⟩, ?_⟩⟩⟩⟩⟩
   ·show(!(decide (((bs.getD k dB).1.size:Int)>24)||_||_||_))=false;rw[show decide (((bs.getD k dB).1.size:Int)>24)=true from h1];rfl
   ·show(!(_||decide ((bs.getD k dB).2.1<2)||_||_))=false;rw[show decide ((bs.getD k dB).2.1<2)=true from h2];simp
   ·show(!(_||_||decide ((bs.getD k dB).2.1≥1024)||_))=false;rw[show decide ((bs.getD k dB).2.1≥1024)=true from h3];simp
   ·have h0:(k:Int)>0:=of_decide_eq_true h4;rw[show((k:Int) - 1).toNat=k - 1 from by omega];refine⟨⟨by omega,by omega⟩,by omega,by omega,fun h5=>fx (no ?_),fun h5=>⟨⟨by omega,by omega⟩,ih (k+1) (by omega) (fun j hj=> ?_)⟩⟩
    ·show(!(_||_||_||(decide (0<k)&& !slt (bs.getD (k - 1) dB).1 (bs.getD k dB).1)))=false;rw[show(!slt (bs.getD (k - 1) dB).1 (bs.getD k dB).1)=true from h5,show decide (0<k)=true from decide_eq_true (by omega)];simp
    ·by_cases uE:j=k
     ·subst uE;show(!(decide (((bs.getD j dB).1.size:Int)>24)||decide ((bs.getD j dB).2.1<2)||decide ((bs.getD j dB).2.1≥1024)||(decide (0<j)&& !slt (bs.getD (j - 1) dB).1 (bs.getD j dB).1)))=true;rw[show(!slt (bs.getD (j - 1) dB).1 (bs.getD j dB).1)=false from h5,show decide ((bs.getD j dB).2.1≥1024)=false from h3,show decide ((bs.getD j dB).2.1<2)=false from h2,show decide (((bs.getD j dB).1.size:Int)>24)=false from h1];simp
     ·exact hp j (by omega)
   ·have h0:¬(k:Int)>0:=of_decide_eq_false h4;refine ih (k+1) (by omega) (fun j hj=> ?_);by_cases uE:j=k
    ·subst uE;show(!(decide (((bs.getD j dB).1.size:Int)>24)||decide ((bs.getD j dB).2.1<2)||decide ((bs.getD j dB).2.1≥1024)||(decide (0<j)&& !slt (bs.getD (j - 1) dB).1 (bs.getD j dB).1)))=true;rw[show decide ((bs.getD j dB).2.1≥1024)=false from h3,show decide ((bs.getD j dB).2.1<2)=false from h2,show decide (((bs.getD j dB).1.size:Int)>24)=false from h1,decide_eq_false (by omega)];rfl
    ·exact hp j (by omega)
 have first:da l es bs=(jE es&&gm bs)→∀(n k:Nat),k+n=es.length→(∀j,j<k→okE es j=true)→Safe P 76 X (Ends [cX] (da l es bs,())) (an2 l es bs (k:Int)):=by
  intro hm n
  induction n with
  |zero=>
   intro k hk hp;have he:jE es=true:=aeV (fun j hj=>hp j (by omega));exact go hz hX aE.Ok.nil Tryd.func76 (abr l es bs k) ⟨fun h=>absurd (of_decide_eq_true h) (by omega),fun h=>second he (by rw[hm,he];rfl) bs.length 0 (by omega) (fun j hj=>by omega)⟩
  |succ n ih=>
   intro k hk hp;have no:okE es k=false→da l es bs=false:=fun h=>by rw[hm,show jE es=false from aiO (by omega) h];rfl
   refine go hz hX aE.Ok.nil Tryd.func76 (abr l es bs k) ⟨fun h=>⟨by omega,by omega, ?_⟩,fun h=>absurd (of_decide_eq_false h) (by omega)⟩;simp only[Int.toNat_natCast];refine⟨fun h1=>fx (no ?_),fun h1=>⟨fun h2=>fx (no ?_),fun h2=>⟨fun h3=>fx (no ?_),fun h3=>⟨fun h4=> ?_,fun h4=>⟨⟨by omega,by omega⟩, ?_⟩⟩⟩⟩⟩
   ·show(!(decide ((es.getD k dE).1=ByteArray.empty)||_||_||_))=false;rw[show decide ((es.getD k dE).1=ByteArray.empty)=true from h1];rfl
   ·show(!(_||decide (((es.getD k dE).1.size:Int)>24)||_||_))=false;rw[show decide (((es.getD k dE).1.size:Int)>24)=true from h2];simp
   ·show(!(_||_||decide (((es.getD k dE).2.1.size:Int)>100)||_))=false;rw[show decide (((es.getD k dE).2.1.size:Int)>100)=true from h3];simp
   ·have h0:(k:Int)>0:=of_decide_eq_true h4;rw[show((k:Int) - 1).toNat=k - 1 from by omega];refine⟨⟨by omega,by omega⟩,by omega,by omega,fun h5=>fx (no ?_),fun h5=>⟨⟨by omega,by omega⟩,ih (k+1) (by omega) (fun j hj=> ?_)⟩⟩
    ·show(!(_||_||_||(decide (0<k)&& !slt (es.getD (k - 1) dE).1 (es.getD k dE).1)))=false;rw[show(!slt (es.getD (k - 1) dE).1 (es.getD k dE).1)=true from h5,show decide (0<k)=true from decide_eq_true (by omega)];simp
    ·by_cases uE:j=k
     ·subst uE;show(!(decide ((es.getD j dE).1=ByteArray.empty)||decide (((es.getD j dE).1.size:Int)>24)||decide (((es.getD j dE).2.1.size:Int)>100)||(decide (0<j)&& !slt (es.getD (j - 1) dE).1 (es.getD j dE).1)))=true;rw[show(!slt (es.getD (j - 1) dE).1 (es.getD j dE).1)=false from h5,show decide (((es.getD j dE).2.1.size:Int)>100)=false from h3,show decide (((es.getD j dE).1.size:Int)>24)=false from h2,show decide ((es.getD j dE).1=ByteArray.empty)=false from h1];simp
     ·exact hp j (by omega)
   ·have h0:¬(k:Int)>0:=of_decide_eq_false h4;refine ih (k+1) (by omega) (fun j hj=> ?_);by_cases uE:j=k
    ·subst uE;show(!(decide ((es.getD j dE).1=ByteArray.empty)||decide (((es.getD j dE).1.size:Int)>24)||decide (((es.getD j dE).2.1.size:Int)>100)||(decide (0<j)&& !slt (es.getD (j - 1) dE).1 (es.getD j dE).1)))=true;rw[show decide (((es.getD j dE).2.1.size:Int)>100)=false from h3,show decide (((es.getD j dE).1.size:Int)>24)=false from h2,show decide ((es.getD j dE).1=ByteArray.empty)=false from h1,decide_eq_false (by omega)];rfl
    ·exact hp j (by omega)
 refine go hz hX aE.Ok.nil Tryd.func76 (alG l es bs) ⟨fun hl=>⟨fun h1=>fx ?_,fun h1=>⟨fun h2=> ?_,fun h2=>first ?_ es.length 0 (by omega) (fun j hj=>by omega)⟩⟩,fun hl=>⟨fun h1=>⟨fun h2=>fx ?_,fun h2=>first ?_ es.length 0 (by omega) (fun j hj=>by omega)⟩,fun h1=> ?_⟩⟩
 ·show(!((l&&decide ((bs.length:Int)>0))||_)&&_&&_)=false;rw[hl,h1];rfl
 ·subst hl;cases h2
 ·show(!((l&&decide ((bs.length:Int)>0))||(!l&&_))&&_&&_)=_;rw[hl,h1];rfl
 ·show(!((l&&_)||(!l&&decide ((es.length:Int)>0)))&&_&&_)=false;rw[hl,h2];rfl
 ·show(!((l&&_)||(!l&&decide ((es.length:Int)>0)))&&_&&_)=_;rw[hl,h2];rfl
 ·subst hl;cases h1
end Lf
namespace Lf
open Go Go.Sx Go.Proofs
theorem lI{α:Type}{l:List α}{k:Nat}{d:α}(h:k<l.length):l.take k++[l.getD k d]=l.take (k+1):=by
 rw[bm h,List.take_succ_eq_append_getElem h]
abbrev an4:=bZ [dt,dt] [bh] (fun _=>[]) (fun(a,b,())=>(ma a b,()))
def ap2:aE:=[(79,an4)]
theorem alH(a b:ByteArray):run P ap2.sum Tryd.f61 [] (start Tryd.f61 [.s (.str a),.s (.str b)] [])=
 Tree.ret [] (.s (.int .i64 (ma a b))):=by kernel_rfl
def ae0:aE:=[(61,an4)]
theorem adC(x:Br)(b:ByteArray):run P ae0.sum Tryd.f60 [] (start Tryd.f60 [.agg [.s (.str x.1),.s (.int .i64 x.2.1)],.s (.str b)] [])=
 Tree.ret [.own [.s (.str x.fst),.s (.int .i64 x.snd.fst)] 79] (.s (.int .i64 (ma x.fst b))):=by kernel_rfl
theorem abu(x:En)(b:ByteArray):run P ae0.sum Tryd.f78 [] (start Tryd.f78 [.agg [.s (.str x.1),.s (.str x.2.1)],.s (.str b)] [])=
 Tree.ret [.own [.s (.str x.fst),.s (.str x.snd.fst)] 34] (.s (.int .i64 (ma x.fst b))):=by kernel_rfl
set_option maxHeartbeats 1000000 in
set_option maxRecDepth 100000 in
theorem zN(a b:ByteArray)(w:World):Calls P 79 #[.string a,.string b] w fun e w'=>e=.returned (.int .i64 (ma a b))∧w'=w:=by
 have mixed:=mixed;have t3:=Tryd.underlying3;have t9:=Tryd.underlying9;have u3:=run_underlying t3;have u9:=run_underlying t9
 go_enter Tryd.func79,Tryd.ntmps79
 go_wp2
 rw[run_callFunc_extern Tryd.func91 (by kernel_rfl) (by kernel_rfl) (by kernel_rfl) (e:=Extern.BytealgCompare.compare) (by kernel_rfl),Lib.run_compareString];simp only[Result.andThen];rw[Oper.upon_value]
 go_wp2
 go_ret
 exact⟨rfl,rfl⟩
theorem alI{Z:aX}:dr P Z 79 [dt,dt] [bh] (fun _=>[]) (fun(a,b,())=>(ma a b,())):=by
 rintro⟨(a:ByteArray),(b:ByteArray),⟨⟩⟩ _ _ G w vs hG hz hd;obtain⟨v,rest,rfl,h1,h2⟩:=ax.1 hd;obtain⟨u,rest,rfl,h3,h4⟩:=ax.1 h2;obtain rfl:=aU.1 h4;obtain rfl:=fc h1;obtain rfl:=fc h3;refine(zN a b w).mono ?_;rintro e w' ⟨rfl,rfl⟩;refine⟨_,rfl,Good.val ⟨fun id o ho=>by simp at ho,fun i j oi oj b hi=>by simp at hi,fun b hb=> ?_,hG⟩ ?_⟩
 ·obtain⟨id,o,ho,_⟩:=hb;cases ho
 ·exact aw (.int .i64 _)
theorem ai5{Z:aX}:dr P Z 61 [dt,dt] [bh] (fun _=>[]) (fun(a,b,())=>(ma a b,())):=by
 refine au Tryd.func61 (by kernel_rfl) (by kernel_rfl) ?_;rintro⟨(a:ByteArray),(b:ByteArray),⟨⟩⟩ _ _ X hX hz;exact go hz hX (aE.Ok.cons alI.sum aE.Ok.nil) Tryd.func61 (alH a b) zG
abbrev tBr:Ty:=.st [.str,.int .i64]
abbrev tEn:Ty:=.st [.str,.str]
theorem agX{Z:aX}:dr P Z 60 [tBr,dt] [bh] (fun _=>[]) (fun((a,_,()),b,())=>(ma a b,())):=by
 refine au Tryd.func60 (by kernel_rfl) (by kernel_rfl) ?_;rintro⟨⟨(a:ByteArray),(n:Int),⟨⟩⟩,(b:ByteArray),⟨⟩⟩ _ _ X hX hz;exact go hz hX (aE.Ok.cons ai5.sum aE.Ok.nil) Tryd.func60 (adC (a,n,()) b) zG
theorem adD{Z:aX}:dr P Z 78 [tEn,dt] [bh] (fun _=>[]) (fun((a,_,()),b,())=>(ma a b,())):=by
 refine au Tryd.func78 (by kernel_rfl) (by kernel_rfl) ?_;rintro⟨⟨(a:ByteArray),(n:ByteArray),⟨⟩⟩,(b:ByteArray),⟨⟩⟩ _ _ X hX hz;exact go hz hX (aE.Ok.cons ai5.sum aE.Ok.nil) Tryd.func78 (abu (a,n,()) b) zG
end Lf
namespace Lf
open Go Go.Sx Go.Proofs
abbrev au9:=bZ [tBr,dt] [bh] (fun _=>[]) (fun((a,_,()),b,())=>(ma a b,()))
abbrev ava:=bZ [tEn,dt] [bh] (fun _=>[]) (fun((a,_,()),b,())=>(ma a b,()))
def abv:aE:=[(60,au9)
 ,(78,ava)
 ]
def alJ:List (Nat×Norm):=[(3,⟨[],[0,1,2,8,9,10],0,[]⟩)]
noncomputable def asr(bs:List Br)(key:ByteArray)(i j:Int):bA:=⟨sl 49 [(0,.s (.ro (.ae cB bs))),(1,.s (.str key)),(2,.s (.kV 60)),(8,.s (.int .i64 (bs.length:Int))),(9,.s (.int .i64 i)),(10,.s (.int .i64 j))],[],hd Tryd.f59 3,{}⟩
theorem alK(bs:List Br)(key:ByteArray):run P abv.sum Tryd.f59 alJ (start Tryd.f59 [.s (.ro (.ae cB bs)),.s (.str key),.s (.kV 60)] [])=
 Tree.at (.mk (sl 49 [(0,.s (.ro (.ae [.str,.int .i64] bs))),(1,.s (.str key)),(2,.s (.kV 60)),(8,.s (.int .i64 (↑bs.length:Int))),(9,.s (.int .i64 0)),(10,.s (.int .i64 (↑bs.length:Int)))]) [] (hd Tryd.f59 3) (.mk none false 0 [] 0)):=by kernel_rfl
theorem ae1(bs:List Br)(key:ByteArray)(i j:Int):run P abv.sum Tryd.f59 alJ (asr bs key i j)=
 Tree.ite (decide (i<j)) (Tree.need (aF (i+j)) (Tree.need ((0:Int)≤(1:Int)) (Tree.need ((0:Int)≤IntKind.i64.wrap ((IntKind.u64.wrap (i+j)).fdiv ((2:Int)^min (Int.toNat (1:Int)) IntKind.u64.bits))) (Tree.need (IntKind.i64.wrap ((IntKind.u64.wrap (i+j)).fdiv ((2:Int)^min (Int.toNat (1:Int)) IntKind.u64.bits))<(↑bs.length:Int)) (Tree.ite (decide (ma (bs.getD (IntKind.i64.wrap ((IntKind.u64.wrap (i+j)).fdiv ((2:Int)^min (Int.toNat (1:Int)) IntKind.u64.bits))).toNat (CL.d [CK.str,CK.int IntKind.i64])).fst key<(0:Int))) (Tree.need (aF (IntKind.i64.wrap ((IntKind.u64.wrap (i+j)).fdiv ((2:Int)^min (Int.toNat (1:Int)) IntKind.u64.bits))+(1:Int))) (Tree.at (bA.mk (sl (49:Nat) [((0:Nat),AV.s (SV.ro (aI.ae [CK.str,CK.int IntKind.i64] bs))),((1:Nat),AV.s (SV.str key)),((2:Nat),AV.s (SV.kV (60:Nat))),((8:Nat),AV.s (SV.int IntKind.i64 (↑bs.length:Int))),((9:Nat),AV.s (SV.int IntKind.i64 (IntKind.i64.wrap ((IntKind.u64.wrap (i+j)).fdiv ((2:Int)^min (Int.toNat (1:Int)) IntKind.u64.bits))+(1:Int)))),((10:Nat),AV.s (SV.int IntKind.i64 j))]) [] (hd Tryd.f59 (3:Nat)) (nh.mk none false (0:Nat) [] (0:Nat))))) (Tree.at (bA.mk (sl (49:Nat) [((0:Nat),AV.s (SV.ro (aI.ae [CK.str,CK.int IntKind.i64] bs))),((1:Nat),AV.s (SV.str key)),((2:Nat),AV.s (SV.kV (60:Nat))),((8:Nat),AV.s (SV.int IntKind.i64 (↑bs.length:Int))),((9:Nat),AV.s (SV.int IntKind.i64 i)),((10:Nat),AV.s (SV.int IntKind.i64 (IntKind.i64.wrap ((IntKind.u64.wrap (i+j)).fdiv ((2:Int)^min (Int.toNat (1:Int)) IntKind.u64.bits)))))]) [] (hd Tryd.f59 (3:Nat)) (nh.mk none false (0:Nat) [] (0:Nat))))))))) (Tree.ite (decide (i<(↑bs.length:Int))) (Tree.need ((0:Int)≤i) (Tree.need (i<(↑bs.length:Int)) (Tree.ret [] (AV.bo [AV.s (SV.int IntKind.i64 i),AV.s (SV.bool (ma (bs.getD i.toNat (CL.d [CK.str,CK.int IntKind.i64])).fst key==(0:Int)))])))) (Tree.ret [] (AV.bo [AV.s (SV.int IntKind.i64 i),AV.s (SV.aA false)]))):=by kernel_rfl
noncomputable def ass(bs:List En)(key:ByteArray)(i j:Int):bA:=⟨sl 49 [(0,.s (.ro (.ae cE bs))),(1,.s (.str key)),(2,.s (.kV 78)),(8,.s (.int .i64 (bs.length:Int))),(9,.s (.int .i64 i)),(10,.s (.int .i64 j))],[],hd Tryd.f77 3,{}⟩
theorem alL(bs:List En)(key:ByteArray):run P abv.sum Tryd.f77 alJ (start Tryd.f77 [.s (.ro (.ae cE bs)),.s (.str key),.s (.kV 78)] [])=
 Tree.at (.mk (sl 49 [(0,.s (.ro (.ae [.str,.str] bs))),(1,.s (.str key)),(2,.s (.kV 78)),(8,.s (.int .i64 (↑bs.length:Int))),(9,.s (.int .i64 0)),(10,.s (.int .i64 (↑bs.length:Int)))]) [] (hd Tryd.f77 3) (.mk none false 0 [] 0)):=by kernel_rfl
theorem ae2(bs:List En)(key:ByteArray)(i j:Int):run P abv.sum Tryd.f77 alJ (ass bs key i j)=
 Tree.ite (decide (i<j)) (Tree.need (aF (i+j)) (Tree.need ((0:Int)≤(1:Int)) (Tree.need ((0:Int)≤IntKind.i64.wrap ((IntKind.u64.wrap (i+j)).fdiv ((2:Int)^min (Int.toNat (1:Int)) IntKind.u64.bits))) (Tree.need (IntKind.i64.wrap ((IntKind.u64.wrap (i+j)).fdiv ((2:Int)^min (Int.toNat (1:Int)) IntKind.u64.bits))<(↑bs.length:Int)) (Tree.ite (decide (ma (bs.getD (IntKind.i64.wrap ((IntKind.u64.wrap (i+j)).fdiv ((2:Int)^min (Int.toNat (1:Int)) IntKind.u64.bits))).toNat (CL.d [CK.str,CK.str])).fst key<(0:Int))) (Tree.need (aF (IntKind.i64.wrap ((IntKind.u64.wrap (i+j)).fdiv ((2:Int)^min (Int.toNat (1:Int)) IntKind.u64.bits))+(1:Int))) (Tree.at (bA.mk (sl (49:Nat) [((0:Nat),AV.s (SV.ro (aI.ae [CK.str,CK.str] bs))),((1:Nat),AV.s (SV.str key)),((2:Nat),AV.s (SV.kV (78:Nat))),((8:Nat),AV.s (SV.int IntKind.i64 (↑bs.length:Int))),((9:Nat),AV.s (SV.int IntKind.i64 (IntKind.i64.wrap ((IntKind.u64.wrap (i+j)).fdiv ((2:Int)^min (Int.toNat (1:Int)) IntKind.u64.bits))+(1:Int)))),((10:Nat),AV.s (SV.int IntKind.i64 j))]) [] (hd Tryd.f77 (3:Nat)) (nh.mk none false (0:Nat) [] (0:Nat))))) (Tree.at (bA.mk (sl (49:Nat) [((0:Nat),AV.s (SV.ro (aI.ae [CK.str,CK.str] bs))),((1:Nat),AV.s (SV.str key)),((2:Nat),AV.s (SV.kV (78:Nat))),((8:Nat),AV.s (SV.int IntKind.i64 (↑bs.length:Int))),((9:Nat),AV.s (SV.int IntKind.i64 i)),((10:Nat),AV.s (SV.int IntKind.i64 (IntKind.i64.wrap ((IntKind.u64.wrap (i+j)).fdiv ((2:Int)^min (Int.toNat (1:Int)) IntKind.u64.bits)))))]) [] (hd Tryd.f77 (3:Nat)) (nh.mk none false (0:Nat) [] (0:Nat))))))))) (Tree.ite (decide (i<(↑bs.length:Int))) (Tree.need ((0:Int)≤i) (Tree.need (i<(↑bs.length:Int)) (Tree.ret [] (AV.bo [AV.s (SV.int IntKind.i64 i),AV.s (SV.bool (ma (bs.getD i.toNat (CL.d [CK.str,CK.str])).fst key==(0:Int)))])))) (Tree.ret [] (AV.bo [AV.s (SV.int IntKind.i64 i),AV.s (SV.aA false)]))):=by kernel_rfl
abbrev agY(x:Br):ByteArray:=x.1
abbrev pI(x:En):ByteArray:=x.1
abbrev mr(l:List Br):List ByteArray:=l.map agY
abbrev bB(l:List En):List ByteArray:=l.map pI
def cu(ks:List ByteArray)(key:ByteArray):Nat:=(ks.takeWhile (fun k=>slt k key)).length
def jj(ks:List ByteArray)(key:ByteArray):Bool:=decide (ks[cu ks key]? =some key)
def im(ks:List ByteArray):Prop:=∀i j,i<j→j<ks.length→slt (ks.getD i ByteArray.empty) (ks.getD j ByteArray.empty)=true
theorem cC{α:Type}(l:List α)(f:α→ByteArray)(d:α)(t:Nat)(hd:f d=ByteArray.empty:=by rfl):(l.map f).getD t ByteArray.empty=f (l.getD t d):=by
 simp only[List.getD,List.getElem?_map];cases l[t]? with
 |none=>exact hd.symm
 |some x=>rfl
theorem adE:∀{ks:List ByteArray} {key:ByteArray} {i:Nat},i≤ks.length→(∀t,t<i→slt (ks.getD t ByteArray.empty) key=true)→(i<ks.length→slt (ks.getD i ByteArray.empty) key=false)→cu ks key=i
 |[],key,i,h,_,_=>by
  simp only[List.length_nil,Nat.le_zero]at h;subst h;rfl
 |k::ks,key,0,h,_,h2=>by
  have:=h2 (by simp);simp only[List.getD_cons_zero]at this;simp[cu,List.takeWhile,this]
 |k::ks,key,i+1,h,h1,h2=>by
  have h0:=h1 0 (by omega);simp only[List.getD_cons_zero]at h0;have:=adE (ks:=ks) (key:=key) (i:=i) (by simpa using h) (fun t ht=>by simpa using h1 (t+1) (by omega)) (fun hi=>by simpa using h2 (by simpa using hi));simp only[cu]at this ⊢;simp[List.takeWhile,h0,this]
theorem vB(n:Int):(n==0)=decide (n=0):=by
 by_cases h:n=0<;>simp[h]
theorem ai6{s:Int}(h0:0≤s)(h1:s<9223372036854775808):(IntKind.u64.wrap s).fdiv (2^min (Int.toNat 1) IntKind.u64.bits)=s / 2:=by
 have e1:IntKind.u64.wrap s=s:=by
  show s%18446744073709551616=s;omega
 rw[e1];show s.fdiv 2=s / 2;rw[Int.fdiv_eq_ediv_of_nonneg _ (by omega)]
theorem lJ{Z:aX}:abv.Ok P Z:=aE.Ok.cons agX.sum (
 aE.Ok.cons adD.sum
 aE.Ok.nil)
theorem ap3{Z:aX}:dr P Z 59 [w5,dt,.b .fn] [bh,cX] (fun(l,_,f,())=>[(f:Nat)=60,(l:List Br).length≤1000000,im (mr l)]) (fun(l,key,_,())=>((cu (mr l) key:Nat),jj (mr l) key,())):=by
 refine au Tryd.func59 (by kernel_rfl) (by kernel_rfl) ?_;rintro⟨(l:List Br),(key:ByteArray),(f:Nat),⟨⟩⟩ _ ⟨(hf:f=60),(hl:l.length≤1000000),(hs:im (mr l)),_⟩ X hX hz;subst hf;have hk:∀t,(mr l).getD t ByteArray.empty=(l.getD t dB).1:=fun t=>cC l agY dB t;have hn:(mr l).length=l.length:=List.length_map _;have loop:∀(n i j:Nat),j - i≤n→i≤j→j≤l.length→(∀t,t<i→slt (l.getD t dB).1 key=true)→(∀t,j≤t→t<l.length→slt (l.getD t dB).1 key=false)→
  Safe P 59 X (Ends [bh,cX] ((cu (mr l) key:Nat),jj (mr l) key,())) (asr l key (i:Int) (j:Int)):=by
  intro n
  induction n with
  |zero=>
   intro i j h1 h2 h3 h4 h5;have hlb:cu (mr l) key=i:=adE (by rw[hn];omega) (fun t ht=>by rw[hk];exact h4 t ht) (fun h=>by rw[hn]at h;rw[hk];exact h5 i (by omega) h);refine go hz hX lJ Tryd.func59 (ae1 l key i j) ⟨fun h=>absurd (of_decide_eq_true h) (by omega),fun h=>⟨fun h6=>⟨by omega,of_decide_eq_true h6, ?_⟩,fun h6=> ?_⟩⟩
   ·have h7:i<l.length:=by have:=of_decide_eq_true h6;omega
    simp only[Int.toNat_natCast];rw[jj,hlb];refine aS ((i:Int),ma (l.getD i dB).1 key==0,()) ?_ (by kernel_rfl);congr 2;rw[List.getElem?_map,List.getElem?_eq_getElem h7,bm h7];simp only[Option.map_some,Option.some.injEq];rw[vB,decide_eq_decide.2 (aeW _ _)]
   ·have h7:¬i<l.length:=by have:=of_decide_eq_false h6;omega
    rw[jj,hlb];refine aS ((i:Int),false,()) ?_ (by kernel_rfl);congr 2;rw[List.getElem?_map,List.getElem?_eq_none (Nat.le_of_not_lt h7)];rfl
  |succ n ih=>
   intro i j h1 h2 h3 h4 h5;by_cases kp:i<j
   ·have e:=ai6 (s:=(i:Int)+(j:Int)) (by omega) (by omega);have e2:((i:Int)+(j:Int)) / 2=((i+j) / 2:Nat):=by omega
    refine go hz hX lJ Tryd.func59 (ae1 l key i j) ?_;have e3:IntKind.i64.wrap (((i+j) / 2:Nat):Int)=(((i+j) / 2:Nat):Int):=cg ⟨by omega,by omega⟩;rw[e,e2,e3];simp only[Int.toNat_natCast];refine⟨fun h=>⟨⟨by omega,by omega⟩,by decide,by omega,by omega,fun h6=>⟨⟨by omega,by omega⟩, ?_⟩,fun h6=> ?_⟩,fun h=>absurd (of_decide_eq_false h) (by omega)⟩
    ·have h7:slt (l.getD ((i+j) / 2) dB).1 key=true:=(tG _ _).1 (of_decide_eq_true h6);refine ih ((i+j) / 2+1) j (by omega) (by omega) h3 (fun t ht=> ?_) h5;by_cases hte:t=(i+j) / 2
     ·rw[hte];exact h7
     ·have:=hs t ((i+j) / 2) (by omega) (by omega);rw[hk,hk]at this;exact cr this h7
    ·have h7:slt (l.getD ((i+j) / 2) dB).1 key=false:=by
      cases h8:slt (l.getD ((i+j) / 2) dB).1 key
      ·rfl
      ·exact absurd ((tG _ _).2 h8) (of_decide_eq_false h6)
     refine ih i ((i+j) / 2) (by omega) (by omega) (by omega) h4 (fun t ht htl=> ?_);by_cases hte:t=(i+j) / 2
     ·rw[hte];exact h7
     ·have:=hs ((i+j) / 2) t (by omega) (by omega);rw[hk,hk]at this;cases h8:slt (l.getD t dB).1 key
      ·rfl
      ·rw[cr this h8]at h7;cases h7
   ·exact ih i j (by omega) h2 h3 h4 h5
 exact go hz hX lJ Tryd.func59 (alK l key) (loop l.length 0 l.length (by omega) (by omega) (by omega) (fun t ht=>by omega) (fun t ht htl=>by omega))
theorem ap4{Z:aX}:dr P Z 77 [qI,dt,.b .fn] [bh,cX] (fun(l,_,f,())=>[(f:Nat)=78,(l:List En).length≤1000000,im (bB l)]) (fun(l,key,_,())=>((cu (bB l) key:Nat),jj (bB l) key,())):=by
 refine au Tryd.func77 (by kernel_rfl) (by kernel_rfl) ?_;rintro⟨(l:List En),(key:ByteArray),(f:Nat),⟨⟩⟩ _ ⟨(hf:f=78),(hl:l.length≤1000000),(hs:im (bB l)),_⟩ X hX hz;subst hf;have hk:∀t,(bB l).getD t ByteArray.empty=(l.getD t dE).1:=fun t=>cC l pI dE t;have hn:(bB l).length=l.length:=List.length_map _;have loop:∀(n i j:Nat),j - i≤n→i≤j→j≤l.length→(∀t,t<i→slt (l.getD t dE).1 key=true)→(∀t,j≤t→t<l.length→slt (l.getD t dE).1 key=false)→
  Safe P 77 X (Ends [bh,cX] ((cu (bB l) key:Nat),jj (bB l) key,())) (ass l key (i:Int) (j:Int)):=by
  intro n
  induction n with
  |zero=>
   intro i j h1 h2 h3 h4 h5;have hlb:cu (bB l) key=i:=adE (by rw[hn];omega) (fun t ht=>by rw[hk];exact h4 t ht) (fun h=>by rw[hn]at h;rw[hk];exact h5 i (by omega) h);refine go hz hX lJ Tryd.func77 (ae2 l key i j) ⟨fun h=>absurd (of_decide_eq_true h) (by omega),fun h=>⟨fun h6=>⟨by omega,of_decide_eq_true h6, ?_⟩,fun h6=> ?_⟩⟩
   ·have h7:i<l.length:=by have:=of_decide_eq_true h6;omega
    simp only[Int.toNat_natCast];rw[jj,hlb];refine aS ((i:Int),ma (l.getD i dE).1 key==0,()) ?_ (by kernel_rfl);congr 2;rw[List.getElem?_map,List.getElem?_eq_getElem h7,bm h7];simp only[Option.map_some,Option.some.injEq];rw[vB,decide_eq_decide.2 (aeW _ _)]
   ·have h7:¬i<l.length:=by have:=of_decide_eq_false h6;omega
    rw[jj,hlb];refine aS ((i:Int),false,()) ?_ (by kernel_rfl);congr 2;rw[List.getElem?_map,List.getElem?_eq_none (Nat.le_of_not_lt h7)];rfl
  |succ n ih=>
   intro i j h1 h2 h3 h4 h5;by_cases kp:i<j
   ·have e:=ai6 (s:=(i:Int)+(j:Int)) (by omega) (by omega);have e2:((i:Int)+(j:Int)) / 2=((i+j) / 2:Nat):=by omega
    refine go hz hX lJ Tryd.func77 (ae2 l key i j) ?_;have e3:IntKind.i64.wrap (((i+j) / 2:Nat):Int)=(((i+j) / 2:Nat):Int):=cg ⟨by omega,by omega⟩;rw[e,e2,e3];simp only[Int.toNat_natCast];refine⟨fun h=>⟨⟨by omega,by omega⟩,by decide,by omega,by omega,fun h6=>⟨⟨by omega,by omega⟩, ?_⟩,fun h6=> ?_⟩,fun h=>absurd (of_decide_eq_false h) (by omega)⟩
    ·have h7:slt (l.getD ((i+j) / 2) dE).1 key=true:=(tG _ _).1 (of_decide_eq_true h6);refine ih ((i+j) / 2+1) j (by omega) (by omega) h3 (fun t ht=> ?_) h5;by_cases hte:t=(i+j) / 2
     ·rw[hte];exact h7
     ·have:=hs t ((i+j) / 2) (by omega) (by omega);rw[hk,hk]at this;exact cr this h7
    ·have h7:slt (l.getD ((i+j) / 2) dE).1 key=false:=by
      cases h8:slt (l.getD ((i+j) / 2) dE).1 key
      ·rfl
      ·exact absurd ((tG _ _).2 h8) (of_decide_eq_false h6)
     refine ih i ((i+j) / 2) (by omega) (by omega) (by omega) h4 (fun t ht htl=> ?_);by_cases hte:t=(i+j) / 2
     ·rw[hte];exact h7
     ·have:=hs ((i+j) / 2) t (by omega) (by omega);rw[hk,hk]at this;cases h8:slt (l.getD t dE).1 key
      ·rfl
      ·rw[cr this h8]at h7;cases h7
   ·exact ih i j (by omega) h2 h3 h4 h5
 exact go hz hX lJ Tryd.func77 (alL l key) (loop l.length 0 l.length (by omega) (by omega) (by omega) (fun t ht=>by omega) (fun t ht htl=>by omega))
end Lf
namespace Lf
open Go Go.Sx Go.Proofs
abbrev avb:=bZ [w5,dt,.b .fn] [bh,cX] (fun(l,_,f,())=>[(f:Nat)=60,(l:List Br).length≤1000000,im (mr l)]) (fun(l,key,_,())=>((cu (mr l) key:Nat),jj (mr l) key,()))
abbrev avc:=bZ [qI,dt,.b .fn] [bh,cX] (fun(l,_,f,())=>[(f:Nat)=78,(l:List En).length≤1000000,im (bB l)]) (fun(l,key,_,())=>((cu (bB l) key:Nat),jj (bB l) key,()))
def ai7:aE:=[(59,avb)
 ,(77,avc)
 ]
theorem agZ(l:List Br)(key:ByteArray):run P ai7.sum Tryd.f39 [] (start Tryd.f39 [.s (.ro (.ae cB l)),.s (.str key)] [])=
 Tree.need ((60:Nat)=(60:(Ty.b B.fn).V)) (.need (l.length≤1000000) (.need (im (mr l)) (.ite (!jj (mr l) key) (.need (aF ((↑(cu (mr l) key):bh.V) - (1:Int))) (.ret [] (.s (.int .i64 (imax 0 ((↑(cu (mr l) key):bh.V) - (1:Int))))))) (.ret [] (.s (.int .i64 (imax 0 (↑(cu (mr l) key):bh.V)))))))):=by kernel_rfl
theorem adF(l:List En)(key:ByteArray):run P ai7.sum Tryd.f58 [] (start Tryd.f58 [.s (.ro (.ae cE l)),.s (.str key)] [])=
 Tree.need ((78:Nat)=(78:(Ty.b B.fn).V)) (.need (l.length≤1000000) (.need (im (bB l)) (.ret [] (.bo [.s (.int .i64 (↑(cu (bB l) key):bh.V)),.s (.bool (jj (bB l) key))])))):=by kernel_rfl
def zO:List (Nat×Norm):=[(3,⟨[(3,.ints .i64 [],3)],[1,3,9,10,11],0,[]⟩),(8,⟨[(3,.ints .i64 [],3)],[3,28,29,30],0,[]⟩)]
noncomputable def ae3(l:Bool)(es:List En)(bs:List Br)(acc:List Int)(i:Int):bA:=⟨sl 43 [(1,.ptr 0 0),(3,.vec 1),(9,.s (.ro (.ae cE es))),(10,.s (.int .i64 (es.length:Int))),(11,.s (.int .i64 i))],[ya l es bs 73,.vec (.ints .i64 acc) 3],hd Tryd.f99 3,{}⟩
noncomputable def ae4(bs:List Br)(acc:List Int)(i:Int):bA:=⟨sl 43 [(3,.vec 0),(28,.s (.ro (.ae cB bs))),(29,.s (.int .i64 (bs.length:Int))),(30,.s (.int .i64 i))],[.vec (.ints .i64 acc) 3],hd Tryd.f99 8,{}⟩
theorem ag0(l:Bool)(es:List En)(bs:List Br):run P ku.sum Tryd.f99 zO (start Tryd.f99 [avN l es bs] [])=
 Tree.at (.mk (sl 43 [(1,.ptr 0 0),(3,.vec 1),(9,.s (.ro (.ae [.str,.str] es))),(10,.s (.int .i64 (↑es.length:Int))),(11,.s (.int .i64 0))]) [.own [.s (.bool l),.s (.ro (.ae [.str,.str] es)),.s (.ro (.ae [.str,.int .i64] bs))] 73,.vec (.ints .i64 []) 3] (hd Tryd.f99 3) (.mk none false 0 [] 0)):=by kernel_rfl
theorem vC(l:Bool)(es:List En)(bs:List Br)(acc:List Int)(i:Int):run P ku.sum Tryd.f99 zO (ae3 l es bs acc i)=
 Tree.ite (decide (i<(↑es.length:Int))) (.need ((0:Int)≤i) (.need (i<(↑es.length:Int)) (.need (aF ((2:Int)+(↑(ByteArray.size (es.getD i.toNat (CL.d [.str,.str])).fst):Int))) (.need (aF ((2:Int)+(↑(ByteArray.size (es.getD i.toNat (CL.d [.str,.str])).fst):Int)+(↑(ByteArray.size (es.getD i.toNat (CL.d [.str,.str])).snd.fst):Int))) (.need ((acc.length+1)*(8:Nat)≤140737488355328) (.need (aF (i+1)) (.at (.mk (sl 43 [(1,.ptr 0 0),(3,.vec 1),(9,.s (.ro (.ae [.str,.str] es))),(10,.s (.int .i64 (↑es.length:Int))),(11,.s (.int .i64 (i+1)))]) [.own [.s (.bool l),.s (.ro (.ae [.str,.str] es)),.s (.ro (.ae [.str,.int .i64] bs))] 73,.vec (.ints .i64 (acc++[(2:Int)+(↑(ByteArray.size (es.getD i.toNat (CL.d [.str,.str])).fst):Int)+(↑(ByteArray.size (es.getD i.toNat (CL.d [.str,.str])).snd.fst):Int)])) 3] (hd Tryd.f99 3) (.mk none false 0 [] 0))))))))) (.at (.mk (sl 43 [(3,.vec 0),(28,.s (.ro (.ae [.str,.int .i64] bs))),(29,.s (.int .i64 (↑bs.length:Int))),(30,.s (.int .i64 0))]) [.vec (.ints .i64 acc) 3] (hd Tryd.f99 8) (.mk none false 0 [] 0))):=by kernel_rfl
theorem vD(bs:List Br)(acc:List Int)(i:Int):run P ku.sum Tryd.f99 zO (ae4 bs acc i)=
 Tree.ite (decide (i<(↑bs.length:Int))) (.need ((0:Int)≤i) (.need (i<(↑bs.length:Int)) (.need (aF ((3:Int)+(↑(ByteArray.size (bs.getD i.toNat (CL.d [.str,.int .i64])).fst):Int))) (.need ((acc.length+1)*(8:Nat)≤140737488355328) (.need (aF (i+1)) (.at (.mk (sl 43 [(3,.vec 0),(28,.s (.ro (.ae [.str,.int .i64] bs))),(29,.s (.int .i64 (↑bs.length:Int))),(30,.s (.int .i64 (i+1)))]) [.vec (.ints .i64 (acc++[(3:Int)+(↑(ByteArray.size (bs.getD i.toNat (CL.d [.str,.int .i64])).fst):Int)])) 3] (hd Tryd.f99 8) (.mk none false 0 [] 0)))))))) (.ret [.vec (.ints .i64 acc) 3] (.vec 0)):=by kernel_rfl
def oX(x:En):Int:=2+(x.1.size:Int)+(x.2.1.size:Int)
def pJ(x:Br):Int:=3+(x.1.size:Int)
def aH(es:List En)(bs:List Br):List Int:=es.map oX++bs.map pJ
def bk(es:List En)(bs:List Br):Int:=1+((es.map oX).sum+(bs.map pJ).sum)
def bc(es:List En):Prop:=es.length≤1000∧∀x∈es,x.1.size≤1000∧x.2.1.size≤1000
def bd(bs:List Br):Prop:=bs.length≤1000∧∀x∈bs,x.1.size≤1000
abbrev ai8:=bZ [eK] [abq] (fun((_,es,bs,()),())=>[bc es,bd bs]) (fun((_,es,bs,()),())=>(aH es bs,()))
def an5:aE:=[(99,ai8)]
def ai9:List (Nat×Norm):=[(3,⟨[],[3,7,8,9],0,[]⟩)]
noncomputable def an6(l:List Int)(a i:Int):bA:=⟨sl 18 [(3,.s (.int .i64 a)),(7,.vec 0),(8,.s (.int .i64 (l.length:Int))),(9,.s (.int .i64 i))],[.vec (.ints .i64 l) 3],hd Tryd.f93 3,{}⟩
theorem treeSize(l:Bool)(es:List En)(bs:List Br):run P an5.sum Tryd.f93 ai9 (start Tryd.f93 [avN l es bs] [])=
 Tree.need (bc es) (.need (bd bs) (.at (.mk (sl 18 [(3,.s (.int .i64 1)),(7,.vec 0),(8,.s (.int .i64 (↑(aH es bs).length:Int))),(9,.s (.int .i64 0))]) [.vec (.ints .i64 (aH es bs)) 3] (hd Tryd.f93 3) (.mk none false 0 [] 0)))):=by kernel_rfl
theorem abw(l:List Int)(a i:Int):run P an5.sum Tryd.f93 ai9 (an6 l a i)=
 Tree.ite (decide (i<(↑l.length:Int))) (.need ((0:Int)≤i) (.need (i<(↑l.length:Int)) (.need (aF (a+l.getD i.toNat 0)) (.need (aF (i+1)) (.at (.mk (sl 18 [(3,.s (.int .i64 (a+l.getD i.toNat 0))),(7,.vec 0),(8,.s (.int .i64 (↑l.length:Int))),(9,.s (.int .i64 (i+1)))]) [.vec (.ints .i64 l) 3] (hd Tryd.f93 3) (.mk none false 0 [] 0))))))) (.ret [.vec (.ints .i64 l) 3] (.s (.int .i64 a))):=by kernel_rfl
abbrev an7:=bZ [eK] [bh] (fun((_,es,bs,()),())=>[bc es,bd bs]) (fun((_,es,bs,()),())=>(bk es bs,()))
def ast:aE:=[(93,an7)]
theorem aja(l:Bool)(es:List En)(bs:List Br):run P ast.sum Tryd.f82 [] (start Tryd.f82 [avN l es bs] [])=
 Tree.need (bc es) (.need (bd bs) (.ret [.own [.s (.bool l),.s (.ro (.ae [.str,.str] es)),.s (.ro (.ae [.str,.int .i64] bs))] 73] (.s (.bool (decide (bk es bs≤254)))))):=by kernel_rfl
theorem abx{Z:aX}:ai7.Ok P Z:=aE.Ok.cons ap3.sum (
 aE.Ok.cons ap4.sum
 aE.Ok.nil)
def aT(l:List Br)(key:ByteArray):Int:=imax 0 (if jj (mr l) key=true then(cu (mr l) key:Int)else(cu (mr l) key:Int) - 1)
theorem vE(ks:List ByteArray)(key:ByteArray):cu ks key≤ks.length:=by
 unfold cu;exact(List.takeWhile_sublist _).length_le
theorem vF{Z:aX}:dr P Z 39 [w5,dt] [bh] (fun(l,_,())=>[(l:List Br).length≤1000000,im (mr l)]) (fun(l,key,())=>(aT l key,())):=by
 refine au Tryd.func39 (by kernel_rfl) (by kernel_rfl) ?_;rintro⟨(l:List Br),(key:ByteArray),⟨⟩⟩ _ ⟨(hl:l.length≤1000000),(hs:im (mr l)),_⟩ X hX hz;have hb:=vE (mr l) key;rw[show(mr l).length=l.length from List.length_map _]at hb;refine go hz hX abx Tryd.func39 (agZ l key) ⟨rfl,hl,hs,fun h=>⟨⟨by omega,by omega⟩,aeU ?_⟩,fun h=>aeU ?_⟩
 ·have h:jj (mr l) key=false:=by simpa using h
  simp[aT,h]
 ·have h:jj (mr l) key=true:=by simpa using h
  simp[aT,h]
theorem rT{Z:aX}:dr P Z 58 [qI,dt] [bh,cX] (fun(l,_,())=>[(l:List En).length≤1000000,im (bB l)]) (fun(l,key,())=>((cu (bB l) key:Nat),jj (bB l) key,())):=by
 refine au Tryd.func58 (by kernel_rfl) (by kernel_rfl) ?_;rintro⟨(l:List En),(key:ByteArray),⟨⟩⟩ _ ⟨(hl:l.length≤1000000),(hs:im (bB l)),_⟩ X hX hz;exact go hz hX abx Tryd.func58 (adF l key) ⟨rfl,hl,hs,aS _ rfl (by kernel_rfl)⟩
theorem vG{es:List En}(h:bc es)(i:Nat):(es.getD i dE).1.size≤1000∧(es.getD i dE).2.1.size≤1000:=by
 by_cases hi:i<es.length
 ·rw[bm hi];exact h.2 _ (List.getElem_mem hi)
 ·rw[show es.getD i dE=dE from by simp[List.getD,List.getElem?_eq_none (Nat.le_of_not_lt hi)]];exact⟨by decide,by decide⟩
theorem vH{bs:List Br}(h:bd bs)(i:Nat):(bs.getD i dB).1.size≤1000:=by
 by_cases hi:i<bs.length
 ·rw[bm hi];exact h.2 _ (List.getElem_mem hi)
 ·rw[show bs.getD i dB=dB from by simp[List.getD,List.getElem?_eq_none (Nat.le_of_not_lt hi)]];decide
theorem oY{α:Type}{l:List α}{k:Nat}{d:α}(f:α→Int)(h:k<l.length):(l.take k).map f++[f (l.getD k d)]=(l.take (k+1)).map f:=by
 rw[←lI (d:=d) h,List.map_append];rfl
theorem qJ{Z:aX}:dr P Z 99 [eK] [abq] (fun((_,es,bs,()),())=>[bc es,bd bs]) (fun((_,es,bs,()),())=>(aH es bs,())):=by
 refine au Tryd.func99 (by kernel_rfl) (by kernel_rfl) ?_;rintro⟨⟨(l:Bool),(es:List En),(bs:List Br),⟨⟩⟩,⟨⟩⟩ _ ⟨(he:bc es),(hb:bd bs),_⟩ X hX hz;have he1:=he.1;have hb1:=hb.1
 have second:∀(n k:Nat),k+n=bs.length→Safe P 99 X (Ends [abq] (aH es bs,())) (ae4 bs (es.map oX++(bs.take k).map pJ) (k:Int)):=by
  intro n
  induction n with
  |zero=>
   intro k hk;refine go hz hX aE.Ok.nil Tryd.func99 (vD bs _ k) ⟨fun h=>absurd (of_decide_eq_true h) (by omega),fun h=> ?_⟩;rw[List.take_of_length_le (by omega)];exact aS (aH es bs,()) rfl (by kernel_rfl)
  |succ n ih=>
   intro k hk;have bK:=vH hb k;refine go hz hX aE.Ok.nil Tryd.func99 (vD bs _ k) ⟨fun h=>⟨by omega,by omega, ?_, ?_,⟨by omega,by omega⟩, ?_⟩,fun h=>absurd (of_decide_eq_false h) (by omega)⟩
   ·simp only[Int.toNat_natCast];show aF (3+((bs.getD k dB).1.size:Int));exact⟨by omega,by omega⟩
   ·simp only[List.length_append,List.length_map,List.length_take];omega
   ·simp only[Int.toNat_natCast];have:=ih (k+1) (by omega);rw[←oY (d:=dB) pJ (by omega),←List.append_assoc]at this;exact this
 have first:∀(n k:Nat),k+n=es.length→Safe P 99 X (Ends [abq] (aH es bs,())) (ae3 l es bs ((es.take k).map oX) (k:Int)):=by
  intro n
  induction n with
  |zero=>
   intro k hk;refine go hz hX aE.Ok.nil Tryd.func99 (vC l es bs _ k) ⟨fun h=>absurd (of_decide_eq_true h) (by omega),fun h=> ?_⟩;rw[List.take_of_length_le (by omega)];have:=second bs.length 0 (by omega);simp only[List.take_zero,List.map_nil,List.append_nil]at this;exact this
  |succ n ih=>
   intro k hk;obtain⟨hs1,hs2⟩:=vG he k;refine go hz hX aE.Ok.nil Tryd.func99 (vC l es bs _ k) ⟨fun h=>⟨by omega,by omega, ?_, ?_, ?_,⟨by omega,by omega⟩, ?_⟩,fun h=>absurd (of_decide_eq_false h) (by omega)⟩
   ·simp only[Int.toNat_natCast];show aF (2+((es.getD k dE).1.size:Int));exact⟨by omega,by omega⟩
   ·simp only[Int.toNat_natCast];show aF (2+((es.getD k dE).1.size:Int)+((es.getD k dE).2.1.size:Int));exact⟨by omega,by omega⟩
   ·simp only[List.length_map,List.length_take];omega
   ·simp only[Int.toNat_natCast];have:=ih (k+1) (by omega);rw[←oY (d:=dE) oX (by omega)]at this;exact this
 exact go hz hX aE.Ok.nil Tryd.func99 (ag0 l es bs) (first es.length 0 (by omega))
theorem yb{es:List En}{bs:List Br}(he:bc es)(hb:bd bs):∀x∈aH es bs,0≤x∧x≤2002:=by
 intro x hx;rcases List.mem_append.1 hx with hx|hx
 ·obtain⟨y,hy,rfl⟩:=List.mem_map.1 hx;have:=he.2 y hy;simp only[oX];omega
 ·obtain⟨y,hy,rfl⟩:=List.mem_map.1 hx;have:=hb.2 y hy;simp only[pJ];omega
theorem oo{l:List Int}{m:Int}(h:∀x∈l,0≤x∧x≤m)(hm:0≤m):0≤l.sum∧l.sum≤m*l.length:=by
 induction l with
 |nil=>simp
 |cons x l ih=>
  have h1:=h x (by simp);obtain⟨h2,h3⟩:=ih (fun y hy=>h y (by simp[hy]));simp only[List.sum_cons,List.length_cons];refine⟨by omega, ?_⟩;rw[show((l.length+1:Nat):Int)=(l.length:Int)+1 from rfl,Int.mul_add];omega
theorem iN{l:List Int}{k:Nat}(h:k<l.length):(l.take k).sum+l.getD k 0=(l.take (k+1)).sum:=by
 rw[←lI (d:=(0:Int)) h,List.sum_append];simp
theorem nE(es:List En)(bs:List Br):bk es bs=1+(aH es bs).sum:=by
 simp[bk,aH,List.sum_append]
theorem ae5{Z:aX}:dr P Z 93 [eK] [bh] (fun((_,es,bs,()),())=>[bc es,bd bs]) (fun((_,es,bs,()),())=>(bk es bs,())):=by
 refine au Tryd.func93 (by kernel_rfl) (by kernel_rfl) ?_;rintro⟨⟨(l:Bool),(es:List En),(bs:List Br),⟨⟩⟩,⟨⟩⟩ _ ⟨(he:bc es),(hb:bd bs),_⟩ X hX hz;have hr:=yb he hb
 have hlen:(aH es bs).length≤2000:=by
  have:=he.1;have:=hb.1;simp only[aH,List.length_append,List.length_map];omega
 show Safe P 93 X (Ends [bh] (bk es bs,())) _;rw[nE]
 have loop:∀(n k:Nat),k+n=(aH es bs).length→Safe P 93 X (Ends [bh] (1+(aH es bs).sum,())) (an6 (aH es bs) (1+((aH es bs).take k).sum) (k:Int)):=by
  intro n
  induction n with
  |zero=>
   intro k hk;refine go hz hX (aE.Ok.cons qJ.sum aE.Ok.nil) Tryd.func93 (abw _ _ k) ⟨fun h=>absurd (of_decide_eq_true h) (by omega),fun h=> ?_⟩;rw[List.take_of_length_le (by omega)];exact zG
  |succ n ih=>
   intro k hk;have h1:=oo (l:=(aH es bs).take k) (m:=2002) (fun x hx=>hr x (List.mem_of_mem_take hx)) (by omega)
   have h2:0≤(aH es bs).getD k 0∧(aH es bs).getD k 0≤2002:=by
    rw[bm (by omega)];exact hr _ (List.getElem_mem _)
   have h3:((aH es bs).take k).length≤2000:=by rw[List.length_take];omega
   refine go hz hX (aE.Ok.cons qJ.sum aE.Ok.nil) Tryd.func93 (abw _ _ k) ?_;simp only[Int.toNat_natCast];refine⟨fun h=>⟨by omega,by omega,⟨by omega,by omega⟩,⟨by omega,by omega⟩, ?_⟩,fun h=>absurd (of_decide_eq_false h) (by omega)⟩;have:=ih (k+1) (by omega);rw[←iN (by omega),←Int.add_assoc]at this;exact this
 have:=loop (aH es bs).length 0 (by omega);exact go hz hX (aE.Ok.cons qJ.sum aE.Ok.nil) Tryd.func93 (treeSize l es bs) ⟨he,hb,this⟩
theorem ae6{Z:aX}:dr P Z 82 [eK] [cX] (fun((_,es,bs,()),())=>[bc es,bd bs]) (fun((_,es,bs,()),())=>(decide (bk es bs≤254),())):=by
 refine au Tryd.func82 (by kernel_rfl) (by kernel_rfl) ?_;rintro⟨⟨(l:Bool),(es:List En),(bs:List Br),⟨⟩⟩,⟨⟩⟩ _ ⟨(he:bc es),(hb:bd bs),_⟩ X hX hz;exact go hz hX (aE.Ok.cons ae5.sum aE.Ok.nil) Tryd.func82 (aja l es bs) ⟨he,hb,aiM⟩
end Lf
namespace Lf
open Go Go.Sx Go.Proofs
def zP(s:ByteArray):List Int:=s.data.toList.map fun b=>(b.toNat:Int)
def yc(s:ByteArray):List Int:=IntKind.u8.wrap (s.size:Int)::zP s
abbrev asu:Type:=ByteArray×List Int
def aby:Spec asu:=⟨fun x=>[.s (.str x.1),.ptr 0 0],fun x=>[.own [.vec 1] 58,.vec (.ints .u8 x.2) 5],fun x=>[x.2.length≤100000000,x.1.size≤1000000],fun x=>[.own [.vec 2] 58,.dead,.vec (.ints .u8 (x.2++yc x.1)) 5],fun _=>.bo []⟩
def an8:List AV→RM (asu×List Nat)
 |[.s (.str s),.ptr id 0]=>.look id fun
  |some (.own [.vec j] _)=>.look j fun
   |some (.vec (.ints .u8 zs) _)=>.ret ((s,zs),[id,j])
   |_=>.fail "enc1: no bytes"
  |_=>.fail "enc1: no box"
 |_=>.fail "enc1"
theorem ajb(s:ByteArray)(zs:List Int):run P ku.sum Tryd.f104 [] (start Tryd.f104 [.s (.str s),.ptr 0 0] [.own [.vec 1] 58,.vec (.ints .u8 zs) 5])=
 Tree.need ((zs.length+(1:Nat))*(1:Nat)≤(140737488355328:Nat)) (Tree.need (((zs++[IntKind.u8.wrap (↑s.size:Int)]).length+(List.map (fun(b:UInt8)=>(↑b.toNat:Int)) s.data.toList).length)*(1:Nat)≤(140737488355328:Nat)) (Tree.ret [ad.own [AV.vec (4:Nat)] (58:Nat),ad.dead,ad.vec (aI.ints IntKind.u8 [IntKind.u8.wrap (↑s.size:Int)]) (5:Nat),ad.dead,ad.vec (aI.ints IntKind.u8 (zs++[IntKind.u8.wrap (↑s.size:Int)]++List.map (fun(b:UInt8)=>(↑b.toNat:Int)) s.data.toList)) (5:Nat)] (AV.bo []))):=by kernel_rfl
abbrev ap5:=bZ [eK] [cX] (fun _=>[]) (fun((l,es,bs,()),())=>(da l es bs,()))
abbrev an9:=bZ [eK] [cX] (fun((_,es,bs,()),())=>[bc es,bd bs]) (fun((_,es,bs,()),())=>(decide (bk es bs≤254),()))
def vI:aE:=[(76,ap5),(82,an9),(104,cI aby an8)]
def ae7:List (Nat×Norm):=[(8,⟨[],[1,4],0,[]⟩),(10,⟨[],[1,4,5,25,26,27],0,[]⟩),(16,⟨[],[4,5,41,42,43],0,[]⟩)]
noncomputable def aoa(l:Bool)(es:List En)(bs:List Br)(zs:List Int):bA:=⟨sl 64 [(1,.ptr 0 0),(4,.ptr 1 0)],[ya l es bs 73,.own [.vec 2] 58,.vec (.ints .u8 zs) 5],hr Tryd.f96 8,{}⟩
noncomputable def aob(l:Bool)(es:List En)(bs:List Br)(zs:List Int)(i:Int):bA:=⟨sl 64 [(1,.ptr 0 0),(4,.ptr 1 0),(5,.fn 104 [.ptr 1 0]),(25,.s (.ro (.ae cE es))),(26,.s (.int .i64 (es.length:Int))),(27,.s (.int .i64 i))],[ya l es bs 73,.own [.vec 2] 58,.vec (.ints .u8 zs) 5],hd Tryd.f96 10,{}⟩
noncomputable def aoc(bs:List Br)(zs:List Int)(i:Int):bA:=⟨sl 64 [(4,.ptr 0 0),(5,.fn 104 [.ptr 0 0]),(41,.s (.ro (.ae cB bs))),(42,.s (.int .i64 (bs.length:Int))),(43,.s (.int .i64 i))],[.own [.vec 1] 58,.vec (.ints .u8 zs) 5],hd Tryd.f96 16,{}⟩
theorem alM(l:Bool)(es:List En)(bs:List Br):run P vI.sum Tryd.f96 ae7 (start Tryd.f96 [avN l es bs] [])=
 Tree.ite (!da l es bs) (.ret [.own [.s (.bool l),.s (.ro (.ae [.str,.str] es)),.s (.ro (.ae [.str,.int .i64] bs))] 73] (.bo [.s (.str ByteArray.empty),.s (.aV .i64 4)])) (.need (bc es) (.need (bd bs) (.ite (!decide (bk es bs≤254)) (.ret [.own [.s (.bool l),.s (.ro (.ae [.str,.str] es)),.s (.ro (.ae [.str,.int .i64] bs))] 73] (.bo [.s (.str ByteArray.empty),.s (.aV .i64 40)])) (.ite l (.need ((0:Int)≤0) (.need ((0:Int)<(↑(1:Nat):Int)) (.at (.mk (sl 64 [(1,.ptr 0 0),(4,.ptr 1 0)]) [.own [.s (.bool l),.s (.ro (.ae [.str,.str] es)),.s (.ro (.ae [.str,.int .i64] bs))] 73,.own [.vec 2] 58,.vec (.ints .u8 ([(2:Int)].set 0 1)) 5] (hr Tryd.f96 8) (.mk none false 0 [] 0))))) (.at (.mk (sl 64 [(1,.ptr 0 0),(4,.ptr 1 0)]) [.own [.s (.bool l),.s (.ro (.ae [.str,.str] es)),.s (.ro (.ae [.str,.int .i64] bs))] 73,.own [.vec 2] 58,.vec (.ints .u8 [(2:Int)]) 5] (hr Tryd.f96 8) (.mk none false 0 [] 0))))))):=by kernel_rfl
theorem alN(l:Bool)(es:List En)(bs:List Br)(zs:List Int):run P vI.sum Tryd.f96 ae7 (aoa l es bs zs)=
 Tree.at (.mk (sl 64 [(1,.ptr 0 0),(4,.ptr 1 0),(5,.fn 104 [.ptr 1 0]),(25,.s (.ro (.ae [.str,.str] es))),(26,.s (.int .i64 (↑es.length:Int))),(27,.s (.int .i64 0))]) [.own [.s (.bool l),.s (.ro (.ae [.str,.str] es)),.s (.ro (.ae [.str,.int .i64] bs))] 73,.own [.vec 2] 58,.vec (.ints .u8 zs) 5] (hd Tryd.f96 10) (.mk none false 0 [] 0)):=by kernel_rfl
theorem abz(l:Bool)(es:List En)(bs:List Br)(zs:List Int)(i:Int):run P vI.sum Tryd.f96 ae7 (aob l es bs zs i)=
 Tree.ite (decide (i<(↑es.length:Int))) (.need ((0:Int)≤i) (.need (i<(↑es.length:Int)) (.need (bt (some [AV.s (.str (es.getD i.toNat (CL.d [.str,.str])).fst),.ptr 0 0])) (.need (bt (some [ad.own [.vec 1] 58,.vec (.ints .u8 zs) 5])) (.need (zs.length≤100000000) (.need (ByteArray.size (es.getD i.toNat (CL.d [.str,.str])).fst≤1000000) (.need (bt (some [AV.s (.str (es.getD i.toNat (CL.d [.str,.str])).snd.fst),.ptr 0 0])) (.need (bt (some [ad.own [.vec 1] 58,.vec (.ints .u8 (zs++yc (es.getD i.toNat (CL.d [.str,.str])).fst)) 5])) (.need ((zs++yc (es.getD i.toNat (CL.d [.str,.str])).fst).length≤100000000) (.need (ByteArray.size (es.getD i.toNat (CL.d [.str,.str])).snd.fst≤1000000) (.need (aF (i+1)) (.at (.mk (sl 64 [(1,.ptr 0 0),(4,.ptr 1 0),(5,.fn 104 [.ptr 1 0]),(25,.s (.ro (.ae [.str,.str] es))),(26,.s (.int .i64 (↑es.length:Int))),(27,.s (.int .i64 (i+1)))]) [.own [.s (.bool l),.s (.ro (.ae [.str,.str] es)),.s (.ro (.ae [.str,.int .i64] bs))] 73,.own [.vec 2] 58,.vec (.ints .u8 (zs++yc (es.getD i.toNat (CL.d [.str,.str])).fst++yc (es.getD i.toNat (CL.d [.str,.str])).snd.fst)) 5] (hd Tryd.f96 10) (.mk none false 0 [] 0)))))))))))))) (.at (.mk (sl 64 [(4,.ptr 0 0),(5,.fn 104 [.ptr 0 0]),(41,.s (.ro (.ae [.str,.int .i64] bs))),(42,.s (.int .i64 (↑bs.length:Int))),(43,.s (.int .i64 0))]) [.own [.vec 1] 58,.vec (.ints .u8 zs) 5] (hd Tryd.f96 16) (.mk none false 0 [] 0))):=by kernel_rfl
theorem abA(bs:List Br)(zs:List Int)(i:Int):run P vI.sum Tryd.f96 ae7 (aoc bs zs i)=
 Tree.ite (decide (i<(↑bs.length:Int))) (Tree.need ((0:Int)≤i) (Tree.need (i<(↑bs.length:Int)) (Tree.need (bt (some [AV.s (SV.str (bs.getD i.toNat (CL.d [CK.str,CK.int IntKind.i64])).fst),AV.ptr (0:Nat) (0:Nat)])) (Tree.need (bt (some [ad.own [AV.vec (1:Nat)] (58:Nat),ad.vec (aI.ints IntKind.u8 zs) (5:Nat)])) (Tree.need (zs.length≤(100000000:Nat)) (Tree.need (ByteArray.size (bs.getD i.toNat (CL.d [CK.str,CK.int IntKind.i64])).fst≤(1000000:Nat)) (Tree.need ((0:Int)≤(8:Int)) (Tree.need (((zs++yc (bs.getD i.toNat (CL.d [CK.str,CK.int IntKind.i64])).fst).length+(2:Nat))*(1:Nat)≤(140737488355328:Nat)) (Tree.need (aF (i+(1:Int))) (Tree.at (bA.mk (sl (64:Nat) [((4:Nat),AV.ptr (0:Nat) (0:Nat)),((5:Nat),AV.fn (104:Nat) [AV.ptr (0:Nat) (0:Nat)]),((41:Nat),AV.s (SV.ro (aI.ae [CK.str,CK.int IntKind.i64] bs))),((42:Nat),AV.s (SV.int IntKind.i64 (↑bs.length:Int))),((43:Nat),AV.s (SV.int IntKind.i64 (i+(1:Int))))]) [ad.own [AV.vec (1:Nat)] (58:Nat),ad.vec (aI.ints IntKind.u8 (zs++yc (bs.getD i.toNat (CL.d [CK.str,CK.int IntKind.i64])).fst++[IntKind.u8.wrap (Int.fdiv (bs.getD i.toNat (CL.d [CK.str,CK.int IntKind.i64])).snd.fst ((2:Int)^min (Int.toNat (8:Int)) IntKind.i64.bits)),IntKind.u8.wrap (bs.getD i.toNat (CL.d [CK.str,CK.int IntKind.i64])).snd.fst])) (5:Nat)] (hd Tryd.f96 (16:Nat)) (nh.mk none false (0:Nat) [] (0:Nat))))))))))))) (Tree.ret [ad.own [AV.vec (1:Nat)] (58:Nat),ad.vec (aI.ints IntKind.u8 zs) (5:Nat)] (AV.bo [AV.s (SV.str (aL zs)),AV.s (SV.aV IntKind.i64 (0:Int))])):=by kernel_rfl
theorem ew{Z:aX}{X:Ctx}{t:aE}{f:FuncId}{fn:Func}{ns:List (Nat×Norm)}{c:bA}{tr:Tree}{K:List ad→AV→Prop}{L:List ad}(hz:dT Z X)(hX:X.H=lk L)(hm:∀x∈ns,L.length≤x.2.m)(hT:t.Ok P Z)(hf:P.funcs[f]? =some fn)
 (e:run P t.sum fn ns c=tr) (h:tr.aM K (Safe P f X K)):Safe P f X K c:=cq (aE.sOk hT) hz mixed hf (fun x hx id du=>by rw[hX];exact List.getElem?_eq_none (Nat.le_trans (hm x hx) du)) e h
theorem alO{Z:aX}:ib P Z 104 aby:=by
 refine aC Tryd.func104 (by kernel_rfl) (fun x=>Nat.le_of_ble_eq_true (by kernel_rfl)) ?_;rintro⟨(s:ByteArray),(zs:List Int)⟩ ⟨(h1:zs.length≤100000000),(h2:s.size≤1000000),_⟩ X hX hz;have hs:s.data.toList.length=s.size:=Array.length_toList;refine ew hz hX (by simp) aE.Ok.nil Tryd.func104 (ajb s zs) ⟨by omega,by simp only[List.length_append,List.length_map,List.length_singleton];omega,⟨[],[0],2,[]⟩,Nat.le_refl _, ?_⟩;have e:zs++yc s=zs++[IntKind.u8.wrap (s.size:Int)]++zP s:=by simp[yc]
 show Norm.run _ _=some ⟨[AV.bo []],[.own [.vec 2] 58,.dead,.vec (.ints .u8 (zs++yc s)) 5],[],{}⟩;rw[e];kernel_rfl
def nF(x:En):List Int:=yc x.1++yc x.2.1
def tm(x:Br):List Int:=yc x.1++[IntKind.u8.wrap (Int.fdiv x.2.1 (2^min (Int.toNat 8) IntKind.i64.bits)),IntKind.u8.wrap x.2.1]
def w6(l:Bool):List Int:=[if l=true then 1 else 2]
def nG(l:Bool)(es:List En)(bs:List Br):List Int:=w6 l++es.flatMap nF++bs.flatMap tm
def abB(l:Bool)(es:List En)(bs:List Br):Bool:=da l es bs&&decide (bk es bs≤254)
def db(l:Bool)(es:List En)(bs:List Br):ByteArray:=if abB l es bs=true then aL (nG l es bs)else ByteArray.empty
def gZ(l:Bool)(es:List En)(bs:List Br):Int:=if da l es bs=true then(if bk es bs≤254 then 0 else 40)else 4
theorem mc(s:ByteArray):(yc s).length=s.size+1:=by
 have hs:s.data.toList.length=s.size:=Array.length_toList;simp[yc,zP,hs]
theorem yd{α β:Type}{l:List α}{k:Nat}{d:α}(f:α→List β)(h:k<l.length):(l.take k).flatMap f++f (l.getD k d)=(l.take (k+1)).flatMap f:=by
 rw[←lI (d:=d) h,List.flatMap_append];simp
theorem qK{α β:Type}(f:α→List β)(m:Nat):∀{l:List α},(∀x∈l,(f x).length≤m)→(l.flatMap f).length≤m*l.length
 |[],_=>by simp
 |x::l,h=>by
  have h1:=h x (by simp);have h2:=qK f m (l:=l) (fun y hy=>h y (by simp[hy]));simp only[List.flatMap_cons,List.length_append,List.length_cons,Nat.mul_add];omega
theorem abC{x:En}(h:x.1.size≤1000∧x.2.1.size≤1000):(nF x).length≤2002:=by
 simp only[nF,List.length_append,mc];omega
theorem ajc{x:Br}(h:x.1.size≤1000):(tm x).length≤1003:=by
 simp only[tm,List.length_append,mc,List.length_cons,List.length_nil];omega
theorem jJ{Z:aX}:vI.Ok P Z:=aE.Ok.cons adB.sum (aE.Ok.cons ae6.sum (aE.Ok.cons (alO.sum an8) aE.Ok.nil))
theorem ag1{Z:aX}:dr P Z 96 [eK] [dt,bh] (fun((_,es,bs,()),())=>[bc es,bd bs]) (fun((l,es,bs,()),())=>(db l es bs,gZ l es bs,())):=by
 refine au Tryd.func96 (by kernel_rfl) (by kernel_rfl) ?_;rintro⟨⟨(l:Bool),(es:List En),(bs:List Br),⟨⟩⟩,⟨⟩⟩ _ ⟨(he:bc es),(hb:bd bs),_⟩ X hX hz;have he1:=he.1;have hb1:=hb.1;show Safe P 96 X (Ends [dt,bh] (db l es bs,gZ l es bs,())) _
 have second:db l es bs=aL (nG l es bs)→gZ l es bs=0→∀(n k:Nat),k+n=bs.length→Safe P 96 X (Ends [dt,bh] (db l es bs,gZ l es bs,())) (aoc bs (w6 l++es.flatMap nF++(bs.take k).flatMap tm) (k:Int)):=by
  intro hS hN n
  induction n with
  |zero=>
   intro k hk;refine go hz hX jJ Tryd.func96 (abA bs _ k) ⟨fun h=>absurd (of_decide_eq_true h) (by omega),fun h=> ?_⟩;rw[List.take_of_length_le (by omega),hS,hN];exact zH
  |succ n ih=>
   intro k hk;have bK:=vH hb k;have hl1:(es.flatMap nF).length≤2002*es.length:=qK nF 2002 (fun x hx=>abC (he.2 x hx));have xD:((bs.take k).flatMap tm).length≤1003*(bs.take k).length:=qK tm 1003 (fun x hx=>ajc (hb.2 x (List.mem_of_mem_take hx)));have hl3:(bs.take k).length≤1000:=by rw[List.length_take];omega
   have hl:(w6 l++es.flatMap nF++(bs.take k).flatMap tm).length≤4000000:=by
    simp only[List.length_append,w6,List.length_singleton];omega
   refine go hz hX jJ Tryd.func96 (abA bs _ k) ?_;simp only[Int.toNat_natCast];refine⟨fun h=>⟨by omega,by omega,trivial,trivial,by omega, ?_,by decide, ?_,⟨by omega,by omega⟩, ?_⟩,fun h=>absurd (of_decide_eq_false h) (by omega)⟩
   ·show(bs.getD k dB).1.size≤1000000;omega
   ·rw[List.length_append,mc];show(_+((bs.getD k dB).1.size+1)+2)*1≤_;omega
   ·have:=ih (k+1) (by omega);rw[←yd (d:=dB) tm (by omega),←List.append_assoc]at this;rw[List.append_assoc (w6 l++es.flatMap nF++(bs.take k).flatMap tm)];exact this
 have first:db l es bs=aL (nG l es bs)→gZ l es bs=0→∀(n k:Nat),k+n=es.length→Safe P 96 X (Ends [dt,bh] (db l es bs,gZ l es bs,())) (aob l es bs (w6 l++(es.take k).flatMap nF) (k:Int)):=by
  intro hS hN n
  induction n with
  |zero=>
   intro k hk;refine go hz hX jJ Tryd.func96 (abz l es bs _ k) ⟨fun h=>absurd (of_decide_eq_true h) (by omega),fun h=> ?_⟩;rw[List.take_of_length_le (by omega)];have:=second hS hN bs.length 0 (by omega);simp only[List.take_zero,List.flatMap_nil,List.append_nil]at this;exact this
  |succ n ih=>
   intro k hk;obtain⟨hs1,hs2⟩:=vG he k;have xD:((es.take k).flatMap nF).length≤2002*(es.take k).length:=qK nF 2002 (fun x hx=>abC (he.2 x (List.mem_of_mem_take hx)));have hl3:(es.take k).length≤1000:=by rw[List.length_take];omega
   have hl:(w6 l++(es.take k).flatMap nF).length≤4000000:=by
    simp only[List.length_append,w6,List.length_singleton];omega
   refine go hz hX jJ Tryd.func96 (abz l es bs _ k) ?_;simp only[Int.toNat_natCast];refine⟨fun h=>⟨by omega,by omega,trivial,trivial,by omega, ?_,trivial,trivial, ?_, ?_,⟨by omega,by omega⟩, ?_⟩,fun h=>absurd (of_decide_eq_false h) (by omega)⟩
   ·show(es.getD k dE).1.size≤1000000;omega
   ·rw[List.length_append,mc];show _+((es.getD k dE).1.size+1)≤_;omega
   ·show(es.getD k dE).2.1.size≤1000000;omega
   ·have:=ih (k+1) (by omega);rw[←yd (d:=dE) nF (by omega),←List.append_assoc]at this;rw[List.append_assoc (w6 l++(es.take k).flatMap nF)];exact this
 refine go hz hX jJ Tryd.func96 (alM l es bs) ⟨fun h=> ?_,fun h=>⟨he,hb,fun h2=> ?_,fun h2=> ?_⟩⟩
 ·have h:da l es bs=false:=by simpa using h
  have e1:db l es bs=ByteArray.empty:=by simp[db,abB,h]
  have e2:gZ l es bs=4:=by simp[gZ,h]
  rw[e1,e2];exact zH
 ·have h:da l es bs=true:=by simpa using h
  have h2:¬bk es bs≤254:=by simpa using h2
  have e1:db l es bs=ByteArray.empty:=by simp[db,abB,h,h2]
  have e2:gZ l es bs=40:=by simp[gZ,h,h2]
  rw[e1,e2];exact zH
 ·have h:da l es bs=true:=by simpa using h
  have h2:bk es bs≤254:=by simpa using h2
  have e1:db l es bs=aL (nG l es bs):=by simp[db,abB,h,h2]
  have e2:gZ l es bs=0:=by simp[gZ,h,h2]
  have st:Safe P 96 X (Ends [dt,bh] (db l es bs,gZ l es bs,())) (aoa l es bs (w6 l)):=by
   refine go hz hX jJ Tryd.func96 (alN l es bs _) ?_;have:=first e1 e2 es.length 0 (by omega)
   simp only[List.take_zero,List.flatMap_nil,List.append_nil]at this;exact this
  refine⟨fun h3=>⟨by decide,by decide, ?_⟩,fun h3=> ?_⟩
  ·subst h3;exact st
  ·subst h3;exact st
end Lf
namespace Lf
open Go Go.Sx Go.Proofs
theorem ajd{bs:List Br}(h:gm bs=true){i:Nat}(hi:i+1<bs.length):slt (bs.getD i dB).1 (bs.getD (i+1) dB).1=true:=by
 have:=cV.1 h (i+1) hi;simp only[okB,Bool.not_eq_true',Bool.or_eq_false_iff,Bool.and_eq_false_iff,decide_eq_false_iff_not,Bool.not_eq_false']at this;have h2:=this.2;rcases h2 with h2|h2
 ·omega
 ·simpa using h2
theorem aje{es:List En}(h:jE es=true){i:Nat}(hi:i+1<es.length):slt (es.getD i dE).1 (es.getD (i+1) dE).1=true:=by
 have:=cV.1 h (i+1) hi;simp only[okE,Bool.not_eq_true',Bool.or_eq_false_iff,Bool.and_eq_false_iff,decide_eq_false_iff_not,Bool.not_eq_false']at this;have h2:=this.2;rcases h2 with h2|h2
 ·omega
 ·simpa using h2
theorem s5{ks:List ByteArray}(h:∀i,i+1<ks.length→slt (ks.getD i ByteArray.empty) (ks.getD (i+1) ByteArray.empty)=true):im ks:=by
 intro i j kp hj
 induction j with
 |zero=>omega
 |succ j ih=>
  by_cases he:i=j
  ·subst he;exact h i hj
  ·exact cr (ih (by omega) (by omega)) (h j hj)
theorem ap6{bs:List Br}(h:gm bs=true):im (mr bs):=s5 fun i hi=>by
 rw[List.length_map]at hi;rw[cC bs agY dB,cC bs agY dB];exact ajd h hi
theorem asv{es:List En}(h:jE es=true):im (bB es):=s5 fun i hi=>by
 rw[List.length_map]at hi;rw[cC es pI dE,cC es pI dE];exact aje h hi
theorem dN{l:Bool}{es:List En}{bs:List Br}(h:da l es bs=true):(l=true→bs=[])∧(l=false→es=[])∧jE es=true∧gm bs=true:=by
 simp only[da,Bool.and_eq_true,Bool.not_eq_true',Bool.or_eq_false_iff,Bool.and_eq_false_iff,decide_eq_false_iff_not]at h;obtain⟨⟨⟨h1,h2⟩,h3⟩,h4⟩:=h;refine⟨fun hl=> ?_,fun hl=> ?_,h3,h4⟩
 ·subst hl;rcases h1 with h1|h1
  ·cases h1
  ·exact List.eq_nil_of_length_eq_zero (by omega)
 ·subst hl;rcases h2 with h2|h2
  ·cases h2
  ·exact List.eq_nil_of_length_eq_zero (by omega)
theorem adG:∀{ks:List ByteArray} {key:ByteArray} {t:Nat},t<cu ks key→slt (ks.getD t ByteArray.empty) key=true
 |[],key,t,h=>by simp[cu]at h
 |k::ks,key,t,h=>by
  simp only[cu,List.takeWhile]at h;split at h
  ·rename_i hk;cases t with
   |zero=>simpa using hk
   |succ t=>
    simp only[List.length_cons]at h;simpa using adG (ks:=ks) (key:=key) (t:=t) (by simp only[cu];omega)
  ·simp at h
theorem adH:∀{ks:List ByteArray} {key:ByteArray},cu ks key<ks.length→slt (ks.getD (cu ks key) ByteArray.empty) key=false
 |[],key,h=>by simp at h
 |k::ks,key,h=>by
  by_cases hk:slt k key=true
  ·have e:cu (k::ks) key=cu ks key+1:=by simp[cu,List.takeWhile,hk]
   rw[e]at h ⊢;simpa using adH (ks:=ks) (key:=key) (by simpa using h)
  ·have hk:slt k key=false:=by simpa using hk
   have e:cu (k::ks) key=0:=by simp[cu,List.takeWhile,hk]
   rw[e];simpa using hk
theorem ajf{ks:List ByteArray}{key:ByteArray}(hs:im ks){t:Nat}(h1:cu ks key≤t)(h2:t<ks.length):slt (ks.getD t ByteArray.empty) key=false:=by
 have h:=adH (ks:=ks) (key:=key) (by omega);by_cases he:t=cu ks key
 ·rw[he];exact h
 ·have h3:=hs (cu ks key) t (by omega) h2;cases h4:slt (ks.getD t ByteArray.empty) key
  ·rfl
  ·rw[cr h3 h4]at h;cases h
theorem jF{ks:List ByteArray}{key:ByteArray}:jj ks key=true↔cu ks key<ks.length∧ks.getD (cu ks key) ByteArray.empty=key:=by
 simp only[jj,decide_eq_true_eq];constructor
 ·intro h;have h1:=(List.getElem?_eq_some_iff.1 h).1;exact⟨h1,by simp[List.getD,h]⟩
 ·rintro⟨h1,h2⟩;rw[bm h1]at h2;rw[List.getElem?_eq_getElem h1,h2]
theorem vJ{ks:List ByteArray}{key:ByteArray}(hs:im ks)(h0:ks≠[]):∃p:Nat,imax 0 (if jj ks key=true then(cu ks key:Int)else(cu ks key:Int) - 1)=(p:Int)∧p<ks.length∧
 (p=0∨slt key (ks.getD p ByteArray.empty)=false)∧(∀t,p<t→t<ks.length→slt key (ks.getD t ByteArray.empty)=true):=by
 have hlen:0<ks.length:=by
  cases ks with
  |nil=>exact absurd rfl h0
  |cons k ks=>simp
 have hle:=vE ks key;have up:∀t,cu ks key≤t→t<ks.length→ks.getD t ByteArray.empty≠key→slt key (ks.getD t ByteArray.empty)=true:=fun t h1 h2 h3=>vr (ajf hs h1 h2) h3;by_cases hk:jj ks key=true
 ·obtain⟨h1,h2⟩:=jF.1 hk;rw[if_pos hk];refine⟨cu ks key,by unfold imax;split<;>omega,h1,.inr (by rw[h2];exact dM key),fun t ht htl=> ?_⟩;rw[←h2];have:=hs (cu ks key) t ht htl;rw[h2]at this ⊢;exact this
 ·rw[if_neg hk]
  have cv:∀t,cu ks key≤t→t<ks.length→ks.getD t ByteArray.empty≠key:=by
   intro t h1 h2 h3;by_cases he:t=cu ks key
   ·subst he;exact hk (jF.2 ⟨h2,h3⟩)
   ·have h4:=hs (cu ks key) t (by omega) h2;rw[h3]at h4;rw[adH (by omega)]at h4;cases h4
  rcases Nat.eq_zero_or_pos (cu ks key)with hz|hz
  ·refine⟨0,by rw[hz];rfl,hlen,.inl rfl,fun t ht htl=>up t (by omega) htl (cv t (by omega) htl)⟩
  ·refine⟨cu ks key - 1,by unfold imax;split<;>omega,by omega,.inr (om (adG (by omega))),fun t ht htl=>up t (by omega) htl (cv t (by omega) htl)⟩
end Lf
