/- Lemmas: M6, M7, M8, M9, M10, M11, M12, M13, M14, M15, M16, F_old. -/
import Derived.Test.YtcjldfgkonfocaaDoorPE
namespace Ts
open Go Go.Sx Go.Proofs Lf
def lN(key:ByteArray):Option ByteArray→List En→List En
 |some v,l=>bt l key v
 |none,l=>cw l key
theorem zQ{x:En}{r:List En}{key v:ByteArray}(h:slt x.1 key=true):bt (x::r) key v=x::bt r key v:=by
 unfold bt
 rw[zu h,ae0 h]
 split<;>simp
theorem zR{x:En}{r:List En}{key v:ByteArray}(h:slt x.1 key=false):bt (x::r) key v=(key,v,())::(if x.1=key then r else x::r):=by
 unfold bt
 rw[adu h,ai8 h]
 by_cases e:x.1=key
 ·rw[decide_eq_true e,if_pos rfl,if_pos e];rfl
 ·rw[decide_eq_false e,if_neg (by simp),if_neg e];rfl
theorem ako{key v:ByteArray}:bt [] key v=[(key,v,())]:=rfl
theorem ag6{X W:List En}{key v:ByteArray}(h:∀x∈X,slt x.1 key=true):bt (X++W) key v=X++bt W key v:=by
 induction X with
 |nil=>rfl
 |cons x r ih=>rw[List.cons_append,zQ (h x List.mem_cons_self),ih fun y hy=>h y (List.mem_cons_of_mem _ hy)];rfl
theorem adL{Y Z:List En}{key v:ByteArray}(h:∀z∈Z,slt key z.1=true):bt (Y++Z) key v=bt Y key v++Z:=by
 induction Y with
 |nil=>
  rw[List.nil_append,ako]
  cases Z with
  |nil=>rfl
  |cons z r=>
   have hz:=h z List.mem_cons_self
   rw[zR (rr hz),if_neg (fun e=>apl hz e.symm)];rfl
 |cons y r ih=>
  cases hy:slt y.1 key
  ·rw[List.cons_append,zR hy,zR hy]
   by_cases e:y.1=key
   ·rw[if_pos e,if_pos e];rfl
   ·rw[if_neg e,if_neg e];rfl
  ·rw[List.cons_append,zQ hy,zQ hy,ih];rfl
theorem yd{X:List En}{key:ByteArray}(h:∀x∈X,x.1≠key):cw X key=X:=by
 unfold cw
 rw[List.filter_eq_self]
 intro x hx
 simp only[zV,decide_eq_false (h x hx),Bool.not_false]
theorem afw{X Y Z:List En}{key:ByteArray}{op:Option ByteArray}(h1:∀x∈X,slt x.1 key=true)(h2:∀z∈Z,slt key z.1=true):lN key op (X++Y++Z)=X++lN key op Y++Z:=by
 cases op with
 |some v=>
  show bt (X++Y++Z) key v=X++bt Y key v++Z
  rw[adL h2,ag6 h1]
 |none=>
  have e1:=yd (X:=X) (key:=key) fun x hx e=>by have:=h1 x hx;rw[e,dC]at this;cases this
  have e2:=yd (X:=Z) (key:=key) fun x hx e=>by have:=h2 x hx;rw[e,dC]at this;cases this
  show cw (X++Y++Z) key=X++cw Y key++Z
  unfold cw at e1 e2 ⊢
  rw[List.filter_append,List.filter_append,e1,e2]
theorem akp{X Y Z:List En}{key:ByteArray}(h1:∀x∈X,slt x.1 key=true)(h2:∀z∈Z,slt key z.1=true):gR (X++Y++Z) key=gR Y key:=by
 have e:=afw (op:=none) h1 h2 (Y:=Y)
 have e:cw (X++Y++Z) key=X++cw Y key++Z:=e
 unfold gR
 rw[e]
 simp only[List.length_append]
 by_cases c:(cw Y key).length<Y.length
 ·rw[decide_eq_true (by omega),decide_eq_true (by omega)]
 ·rw[decide_eq_false (by omega),decide_eq_false (by omega)]
theorem afx{X Y Z:List En}{key:ByteArray}{op:Option ByteArray}(h1:∀x∈X,slt x.1 key=true)(h2:∀z∈Z,slt key z.1=true):qI key op (X++Y++Z)=qI key op Y:=by
 cases op with
 |some v=>rfl
 |none=>
  show(if gR (X++Y++Z) key=true then(0:Int)else 5)=if gR Y key=true then 0 else 5
  rw[akp h1 h2]
theorem afy(key:ByteArray)(op:Option ByteArray)(l:List En):qI key op l=0∨qI key op l=5:=by
 cases op with
 |some v=>exact .inl rfl
 |none=>
  show(if gR l key=true then(0:Int)else 5)=0∨(if gR l key=true then(0:Int)else 5)=5
  split
  ·exact .inl rfl
  ·exact .inr rfl
theorem akq{key:ByteArray}{op:Option ByteArray}{l:List En}(h:qI key op l=0):doE key op l=lN key op l:=by
 cases op with
 |some v=>rfl
 |none=>
  have h:(if gR l key=true then(0:Int)else 5)=0:=h
  show(if gR l key=true then cw l key else [])=cw l key
  split at h
  ·rename_i hb;rw[if_pos hb]
  ·cases h
theorem zS{key:ByteArray}{op:Option ByteArray}{l:List En}{e:En}(h:e∈lN key op l):e∈l∨(e.1=key∧∃v,op=some v∧e.2.1=v):=by
 cases op with
 |some v=>
  have h:e∈bt l key v:=h
  unfold bt at h
  rcases List.mem_append.1 h with h|h
  ·exact .inl (List.mem_of_mem_take h)
  ·rcases List.mem_cons.1 h with rfl|h
   ·exact .inr ⟨rfl,v,rfl,rfl⟩
   ·exact .inl (List.mem_of_mem_drop h)
 |none=>exact .inl (List.mem_filter.1 (show e∈cw l key from h)).1
theorem am2{key:ByteArray}{op:Option ByteArray}{l:List En}(hk:1≤key.size∧key.size≤24)(hv:∀v,op=some v→v.size≤100)(h:jt l=true):jt (lN key op l)=true:=by
 rw[abJ]at h ⊢
 refine⟨fun e he=> ?_, ?_⟩
 ·rcases zS he with h1|⟨h1,v,h2,h3⟩
  ·exact h.1 e h1
  ·rw[h1,h3];exact⟨hk.1,hk.2,hv v h2⟩
 ·cases op with
  |some v=>exact alQ key v h.2
  |none=>exact alR key h.2
theorem vW{es:List En}{key:ByteArray}:bd (cw es key) []≤bd es []:=by
 rw[vH,vH]
 unfold cw
 induction es with
 |nil=>simp
 |cons x r ih=>
  rw[List.filter_cons]
  have:=ajF x
  split
  ·rw[List.map_cons,List.sum_cons,List.map_cons,List.sum_cons];omega
  ·rw[List.map_cons,List.sum_cons];omega
end Ts
namespace Ts
open Go Go.Sx Go.Proofs Lf
def cS(th:Th)(key:ByteArray)(op:Option ByteArray)(f:Nat)(s:S5)(n deep:Int):S5:=
 ⟨pf th key op f s.m s.fu s.fr s.fs s.gn n deep,ph th key op f s.m s.fu s.fr s.fs s.gn n deep,pj th key op f s.m s.fu s.fr s.fs s.gn n deep,qw th key op f s.m s.fu s.fr s.fs s.gn n deep,rI th key op f s.m s.fu s.fr s.fs s.gn n deep⟩
def cL(th:Th)(key:ByteArray)(op:Option ByteArray)(f:Nat)(s:S5)(n deep:Int):List Br:=sN th key op f s.m s.fu s.fr s.fs s.gn n deep
def cE'(th:Th)(key:ByteArray)(op:Option ByteArray)(f:Nat)(s:S5)(n deep:Int):Int:=rJ th key op f s.m s.fu s.fr s.fs s.gn n deep
def lvT(s:S5)(n:Int):S5:=⟨s.m,s.fu,s.fr,iU s.fs n,pb s.fs s.gn n⟩
def opP(op:Option ByteArray):Nat:=match op with|some _=>81|none=>0
structure ata (th:Th) (key:ByteArray) (op:Option ByteArray) (s t:S5) (h:Nat) (old:List En) (ps:List Int) (po:Nat) (l:List Br) (N V rest:List Int) (k0:ByteArray) (F:List (Kd h)):Prop where
 qK:qA th s t N V
 len:N.length≤2*(h+1)
 l:l=kK k0 (F.map (cH h))
 fr:For th t.m h F
 dV:bQ h F=lN key op old
 old:ps.Perm (V++rest)
 new:(bM h F).Perm (N++rest)
 two:F.length≤2
 del:op=none→F.length≤1
 tm:eR h F+(F.length - 1)*(81*3^h)≤po+opP op
structure atb (th:Th) (key:ByteArray) (op:Option ByteArray) (s t:S5) (h:Nat) (old:List En) (ps:List Int) (e:Int) (N V:List Int):Prop where
 qK:qA th s t N V
 len:N.length≤2*h+1
 sub:∀p∈V,p∈ps
 how:(e=5∧qI key op old=5)∨(e=41∧∀p,In s.fr p→p∈N)∨(e=42∧t.fu=0)
def adM(th:Th)(key:ByteArray)(op:Option ByteArray)(s t:S5)(h:Nat)(old:List En)(ps:List Int)(po:Nat)(l:List Br)(e:Int):Prop:=
 (e=0∧qI key op old=0∧∃N V rest k0 F,ata th key op s t h old ps po l N V rest k0 F)∨(e≠0∧∃N V,atb th key op s t h old ps e N V)
theorem akr{th:Th}{key:ByteArray}{op:Option ByteArray}{s s1 t:S5}{h:Nat}{old:List En}{ps N V:List Int}{e:Int}{k:Nat}(h1:qA th s s1 N V)(hN:N.length+k≤2*h+1)(hV:∀p∈V,p∈ps)(hb:Bad th s1 t k e):∃N V,atb th key op s t h old ps e N V:=by
 obtain⟨N2,b1,b2,b3⟩:=hb
 refine⟨N++N2,V++[],eK h1 b1 (fun p hp=>by cases hp),by rw[List.length_append];omega,fun p hp=>hV p (by simpa using hp),.inr (b3.imp (fun x=>⟨x.1,fun p hp=> ?_⟩) id)⟩
 by_cases hpn:p∈N
 ·exact List.mem_append_left _ hpn
 ·exact List.mem_append_right _ (x.2 p ((h1.fr p).2 ⟨hp,hpn⟩))
theorem afz{th:Th}{key:ByteArray}{op:Option ByteArray}{es:List En}(hk:1≤key.size∧key.size≤24)(hv:∀v,op=some v→v.size≤100)(jr:jt es=true)(hz:bd es []≤254){s s1:S5}{V ps:List Int}(h1:qA th s s1 [] V)(hV:ps.Perm V)(hc:qI key op es=0){h:Nat}:
 adM th key op s (sS th s1 true (lN key op es) []) 0 es ps h (sL th s1 true (lN key op es) []) (sE th s1 true (lN key op es) []):=by
 have ho:=h1.ok
 have atc:=am2 (op:=op) hk hv jr
 have y9:¬bd (lN key op es) []≤254→di true (lN key op es) []=true∧bd (aY true (lN key op es) []) []≤254∧bd (cI true (lN key op es) []) []≤254∧
  ∃k,0<k∧k<(lN key op es).length∧aY true (lN key op es) []=(lN key op es).take k∧cI true (lN key op es) []=(lN key op es).drop k∧a8 true (lN key op es) []=[]∧cQ true (lN key op es) []=[]∧bL true (lN key op es) []=true:=fun hn=>by
  cases op with
  |some v=>exact ajH atc hz hn
  |none=>exact absurd (Int.le_trans vW hz) hn
 rcases am1 ho atc y9 with⟨a,N,k0,F,b,c,d,e,g,i,j,k⟩|⟨a,b⟩
 ·refine .inl ⟨a,hc,[]++N,V++[],[],k0,F,eK h1 b (fun p hp=>by cases hp),by simp;omega,d,e,g, ?_, ?_,j,fun hn=>k ?_, ?_⟩
  ·rw[List.append_nil,List.append_nil];exact hV
  ·rw[i,List.nil_append,List.append_nil]
  ·subst hn;exact Int.le_trans vW hz
  ·have p0:eR 0 F=0:=by
    have:∀F:List (Kd 0),eR 0 F=0:=fun F=>by
     induction F with
     |nil=>rfl
     |cons x r ih=>rw[ic,ih];rfl
    exact this F
   rw[p0]
   cases op with
   |some v=>show 0+(F.length - 1)*(81*3^0)≤h+81;rw[Nat.pow_zero];omega
   |none=>
    have:=k (Int.le_trans vW hz)
    show 0+(F.length - 1)*(81*3^0)≤h+0
    rw[show F.length - 1=0 from by omega];omega
 ·exact .inr ⟨a,akr h1 (by simp) (fun p hp=>(hV.mem_iff).2 hp) b⟩
theorem aks{th:Th}{key:ByteArray}{op:Option ByteArray}(hk:1≤key.size∧key.size≤24)(hv:∀v,op=some v→v.size≤100){s:S5}{t:TN 0}{f:Nat}{deep:Int}(ho:xr th s)(hr:rep th s.m 0 t)(ht:qc 0 t)(hd:deep≤16):
 adM th key op s (cS th key op (f+1) s (pg 0 t) deep) 0 (dV 0 t) (nm 0 t) (tm 0 t) (cL th key op (f+1) s (pg 0 t) deep) (cE' th key op (f+1) s (pg 0 t) deep):=by
 obtain⟨n,es⟩:=t
 have hr:Rd th s.m n true es []:=hr
 obtain⟨e1,e2,e3,e4⟩:=hr.nd hd
 obtain⟨_,jr,hz⟩:=(show es≠[]∧jt es=true∧bd es []≤254 from ht)
 show adM th key op s (cS th key op (f+1) s n deep) 0 es [n] 0 (cL th key op (f+1) s n deep) (cE' th key op (f+1) s n deep)
 have h1:=adF ho n
 by_cases hc:qI key op es=0
 ·have e:vz th key op (f+1) s.m s.fu s.fr s.fs s.gn n deep=gK (pb s.fs s.gn n) (bk th s.m s.fu s.fr (iU s.fs n) true (lN key op es) []):=by
   rw[fR,if_neg (by rw[e1];simp),if_pos e2,e3,e4,if_neg (by rw[hc];simp),akq hc]
  have g:=afz (op:=op) (s1:=lvT s n) (h:=0) hk hv jr hz h1 (List.Perm.refl [n]) hc
  have c1:cS th key op (f+1) s n deep=sS th (lvT s n) true (lN key op es) []:=by unfold cS pf ph pj qw rI;rw[e];rfl
  have c2:cL th key op (f+1) s n deep=sL th (lvT s n) true (lN key op es) []:=by unfold cL sN;rw[e];rfl
  have c3:cE' th key op (f+1) s n deep=sE th (lvT s n) true (lN key op es) []:=by unfold cE' rJ;rw[e];rfl
  rw[c1,c2,c3]
  exact g
 ·have h5:qI key op es=5:=(afy key op es).resolve_left hc
  have e:vz th key op (f+1) s.m s.fu s.fr s.fs s.gn n deep=(s.m,s.fu,s.fr,s.fs,s.gn,[],5):=by
   rw[fR,if_neg (by rw[e1];simp),if_pos e2,e3,if_pos hc,h5]
  have c1:cS th key op (f+1) s n deep=s:=by unfold cS pf ph pj qw rI;rw[e]
  have c3:cE' th key op (f+1) s n deep=5:=by unfold cE' rJ;rw[e]
  rw[c1,c3]
  exact .inr ⟨by decide,[],[],gM ho,by simp,fun p hp=>(by cases hp),.inl ⟨rfl,h5⟩⟩
end Ts
namespace Ts
open Go Go.Sx Go.Proofs Lf
theorem ag7{th:Th}{m:As}{h:Nat}{A B F:List (Kd h)}{k:Kd h}{key:ByteArray}{op:Option ByteArray}(hQ:bR (A++k::B)=A++k::B)(jr:gq ((A++k::B).map (cH h))=true)(hs:abH h (A++k::B))(hT:∀x∈A++k::B,qc h x.2)
 (hA:∀x∈A,rep th m h x.2) (hB:∀x∈B,rep th m h x.2) (f:For th m h F) (fe:bQ h F=lN key op (dV h k.2)) (yM:slt key k.1=false) (sH:∀b∈B,slt key b.1=true):
 For th m h (bR (A++bW k.1 F++B))∧gq ((bR (A++bW k.1 F++B)).map (cH h))=true∧bQ h (bR (A++bW k.1 F++B))=lN key op (bQ h (A++k::B))∧qI key op (bQ h (A++k::B))=qI key op (dV h k.2)∧
  (F.length≤1→mm h (bR (A++bW k.1 F++B))≤mm h (A++k::B))∧(F.length≤2→mm h (bR (A++bW k.1 F++B))≤mm h (A++k::B)+27):=by
 obtain⟨o1,o2⟩:=fO.1 jr
 have mk:∀x∈A++k::B,(cH h x)∈(A++k::B).map (cH h):=fun x hx=>List.mem_map_of_mem hx
 have inA:∀x∈A,x∈A++k::B:=fun x hx=>List.mem_append_left _ hx
 have ink:k∈A++k::B:=List.mem_append_right _ List.mem_cons_self
 have inB:∀x∈B,x∈A++k::B:=fun x hx=>List.mem_append_right _ (List.mem_cons_of_mem _ hx)
 rw[List.map_append,List.map_cons,List.pairwise_append,List.pairwise_cons]at o2
 obtain⟨oA,⟨okB,oB⟩,oAB⟩:=o2
 obtain⟨s1,s2⟩:=hs
 rw[List.pairwise_append,List.pairwise_cons]at s1
 obtain⟨sA,⟨skB,sB⟩,sAB⟩:=s1
 have eA:∀x∈bQ h A,slt x.1 k.1=true:=fun x hx=>by
  obtain⟨a,ha,hxa⟩:=List.mem_flatMap.1 hx
  exact sAB a ha k List.mem_cons_self x hxa
 have eAk:∀x∈bQ h A,slt x.1 key=true:=fun x hx=>ei (eA x hx) yM
 have eBk:∀x∈bQ h B,slt key x.1=true:=fun x hx=>by
  obtain⟨b,hb,hxb⟩:=List.mem_flatMap.1 hx
  exact ei (sH b hb) (s2 b (inB b hb) x hxb)
 have kF:∀e∈bQ h F,slt e.1 k.1=false:=fun e he=>by
  rw[fe]at he
  rcases zS he with h1|⟨h1,_⟩
  ·exact s2 k ink e h1
  ·rw[h1];exact yM
 have fB:∀e∈bQ h F,∀b∈B,slt e.1 b.1=true:=fun e he b hb=>by
  rw[fe]at he
  rcases zS he with h1|⟨h1,_⟩
  ·exact skB b hb e h1
  ·rw[h1];exact sH b hb
 have inF:∀{x:Kd h},x∈F→∀e∈dV h x.2,e∈bQ h F:=fun hx e he=>List.mem_flatMap.2 ⟨_,hx,he⟩
 have some_:∀{x:Kd h},x∈F→∃e,e∈dV h x.2:=fun hx=>List.exists_mem_of_ne_nil _ (qx h (f.ok _ hx))
 have wT:∀x∈bW k.1 F,(x.1=k.1∨slt k.1 x.1=true)∧x.1.size≤24∧(2≤pg h x.2∧pg h x.2<1024)∧rep th m h x.2∧qc h x.2∧(∀e∈dV h x.2,slt e.1 x.1=false)∧(∀e∈dV h x.2,e∈bQ h F):=fun x hx=>by
  cases F with
  |nil=>cases hx
  |cons y r=>
   rcases List.mem_cons.1 hx with rfl|hx
   ·have y0:y∈y::r:=List.mem_cons_self
    exact⟨.inl rfl,(o1 _ (mk k ink)).1,f.pg y y0,f.rep y y0,f.ok y y0,fun e he=>kF e (inF (x:=y) y0 e he),fun e he=>inF (x:=y) y0 e he⟩
   ·have x0:x∈y::r:=List.mem_cons_of_mem _ hx
    refine⟨.inr ?_,f.key x x0,f.pg x x0,f.rep x x0,f.ok x x0,f.sep.2 x x0,inF x0⟩
    have p:=f.sep.1
    rw[List.pairwise_cons]at p
    obtain⟨e,he⟩:=some_ (x:=y) List.mem_cons_self
    have a1:=p.1 x hx e he
    have a2:=kF e (inF List.mem_cons_self e he)
    rcases hY k.1 e.1 with h1|h1|h1
    ·exact cv h1 a1
    ·rw[h1];exact a1
    ·rw[h1]at a2;cases a2
 have auO:∀x∈bW k.1 F,∀b∈B,slt x.1 b.1=true:=fun x hx b hb=>by
  obtain⟨_,_,_,_,ok,g1,g2⟩:=wT x hx
  obtain⟨e,he⟩:=List.exists_mem_of_ne_nil _ (qx h ok)
  have a1:=fB e (g2 e he) b hb
  rcases hY x.1 e.1 with h1|h1|h1
  ·exact cv h1 a1
  ·rw[h1];exact a1
  ·rw[g1 e he]at h1;cases h1
 have up2:(bW k.1 F).Pairwise fun a b=>slt a.1 b.1=true:=by
  cases F with
  |nil=>exact List.Pairwise.nil
  |cons y r=>
   have p:=f.sep.1
   rw[List.pairwise_cons]at p
   rw[bW,List.pairwise_cons]
   refine⟨fun x hx=>((wT x (List.mem_cons_of_mem _ hx)).1.resolve_left fun e=> ?_), ?_⟩
   ·
    obtain⟨e',he⟩:=some_ (x:=y) List.mem_cons_self
    have a1:=p.1 x hx e' he
    rw[e,kF e' (inF List.mem_cons_self e' he)]at a1
    cases a1
   ·refine List.Pairwise.imp_of_mem (fun{a b} ha hb hab=> ?_) p.2
    obtain⟨e',he⟩:=some_ (x:=a) (List.mem_cons_of_mem _ ha)
    have a1:=hab e' he
    have a2:=f.sep.2 a (List.mem_cons_of_mem _ ha) e' he
    rcases hY a.1 e'.1 with h1|h1|h1
    ·exact cv h1 a1
    ·rw[h1];exact a1
    ·rw[a2]at h1;cases h1
 have sp2:(bW k.1 F).Pairwise fun a b=>∀e∈dV h a.2,slt e.1 b.1=true:=by
  cases F with
  |nil=>exact List.Pairwise.nil
  |cons y r=>
   have p:=f.sep.1
   rw[List.pairwise_cons]at p
   rw[bW,List.pairwise_cons]
   exact p
 have am3:∀{p:Kd h→Prop},(∀x∈A,p x)→(∀x∈bW k.1 F,p x)→(∀x∈B,p x)→∀x∈A++bW k.1 F++B,p x:=fun h1 h2 h3 x hx=>by
  rcases List.mem_append.1 hx with hx|hx
  ·rcases List.mem_append.1 hx with hx|hx
   ·exact h1 x hx
   ·exact h2 x hx
  ·exact h3 x hx
 have okJ:gq ((A++bW k.1 F++B).map (cH h))=true:=by
  rw[fO]
  constructor
  ·intro b hb
   obtain⟨x,hx,rfl⟩:=List.mem_map.1 hb
   exact am3 (p:=fun x=>(cH h x).1.size≤24∧2≤(cH h x).2.1∧(cH h x).2.1<1024) (fun x hx=>o1 _ (mk x (inA x hx))) (fun x hx=>⟨(wT x hx).2.1,(wT x hx).2.2.1⟩) (fun x hx=>o1 _ (mk x (inB x hx))) x hx
  ·rw[List.map_append,List.map_append,List.pairwise_append,List.pairwise_append]
   refine⟨⟨oA, ?_,fun a ha b hb=> ?_⟩,oB,fun a ha b hb=> ?_⟩
   ·rw[List.pairwise_map];exact up2
   ·obtain⟨x,hx,rfl⟩:=List.mem_map.1 hb
    have a1:=oAB a ha (cH h k) List.mem_cons_self
    rcases(wT x hx).1 with e|e
    ·show slt a.1 x.1=true
     rw[e];exact a1
    ·exact cv a1 e
   ·obtain⟨y,hy,rfl⟩:=List.mem_map.1 hb
    rcases List.mem_append.1 ha with ha|ha
    ·exact oAB a ha (cH h y) (List.mem_cons_of_mem _ (List.mem_map_of_mem hy))
    ·obtain⟨x,hx,rfl⟩:=List.mem_map.1 ha
     exact auO x hx y hy
 have spJ:(A++bW k.1 F++B).Pairwise fun a b=>∀e∈dV h a.2,slt e.1 b.1=true:=by
  rw[List.pairwise_append,List.pairwise_append]
  refine⟨⟨sA,sp2,fun a ha b hb e he=> ?_⟩,sB,fun a ha b hb e he=> ?_⟩
  ·have a1:=sAB a ha k List.mem_cons_self e he
   rcases(wT b hb).1 with e1|e1
   ·rw[e1];exact a1
   ·exact cv a1 e1
  ·rcases List.mem_append.1 ha with ha|ha
   ·exact sAB a ha b (List.mem_cons_of_mem _ hb) e he
   ·exact fB e ((wT a ha).2.2.2.2.2.2 e he) b hb
 have auP:∀x∈A++bW k.1 F++B,∀e∈dV h x.2,slt e.1 x.1=false:=am3 (fun x hx=>s2 x (inA x hx)) (fun x hx=>(wT x hx).2.2.2.2.2.1) (fun x hx=>s2 x (inB x hx))
 have eE:bQ h (A++k::B)=bQ h A++dV h k.2++bQ h B:=by rw[jC,jU,List.append_assoc]
 have szs:mm h (bR (A++bW k.1 F++B))≤1+(gS (A.map (cH h))+gS ((bW k.1 F).map (cH h))+gS (B.map (cH h)))∧mm h (A++k::B)=1+(gS (A.map (cH h))+(o8 (cH h k)+gS (B.map (cH h)))):=by
  rw[adE,adE,←jE]
  have a1:=rK ((A++bW k.1 F++B).map (cH h))
  rw[List.map_append,List.map_append,vG,vG]at a1
  rw[List.map_append (l₁:=A),List.map_cons,vG (A.map (cH h)),c8]
  refine⟨?_,rfl⟩
  rw[List.map_append,List.map_append]
  omega
 refine⟨⟨vE _,fun x hx=> ?_,fun x hx=> ?_,⟨?_,fun x hx e he=> ?_⟩,fun x hx=> ?_,fun x hx=> ?_⟩, ?_, ?_, ?_,fun hl=> ?_,fun hl=> ?_⟩
 ·obtain⟨y,hy,e,_⟩:=gm hx
  rw[←e]
  exact am3 (p:=fun x=>rep th m h x.2) hA (fun x hx=>(wT x hx).2.2.2.1) hB y hy
 ·obtain⟨y,hy,e,_⟩:=gm hx
  rw[←e]
  exact am3 (p:=fun x=>qc h x.2) (fun x hx=>hT x (inA x hx)) (fun x hx=>(wT x hx).2.2.2.2.1) (fun x hx=>hT x (inB x hx)) y hy
 ·generalize A++bW k.1 F++B=J at spJ
  cases J with
  |nil=>exact List.Pairwise.nil
  |cons x r=>
   rw[List.pairwise_cons]at spJ
   rw[bR,List.pairwise_cons]
   exact spJ
 ·obtain⟨y,hy,e1,e2⟩:=gm hx
  rcases e2 with e2|e2
  ·rw[e2];exact gk _
  ·subst e2;exact auP x hy e he
 ·obtain⟨y,hy,e1,e2⟩:=gm hx
  rcases e2 with e2|e2
  ·rw[e2];exact Nat.zero_le _
  ·subst e2;exact((fO.1 okJ).1 _ (List.mem_map_of_mem hy)).1
 ·obtain⟨y,hy,e,_⟩:=gm hx
  rw[←e]
  exact((fO.1 okJ).1 _ (List.mem_map_of_mem hy)).2
 ·rw[←jE];exact xZ okJ
 ·rw[pn,jC,jC,agZ,fe,eE,afw eAk eBk]
 ·rw[eE,afx eAk eBk]
 ·obtain⟨z1,z2⟩:=szs
  rw[z2]
  refine Int.le_trans z1 ?_
  have:gS ((bW k.1 F).map (cH h))≤o8 (cH h k):=by
   cases F with
   |nil=>show(0:Int)≤_;have:=vF (cH h k);omega
   |cons y r=>
    cases r with
    |nil=>rw[bW,List.map_cons,c8];show o8 (cH h (k.1,y.2))+0≤_;rw[Int.add_zero];exact Int.le_refl _
    |cons z r=>simp only[List.length_cons]at hl;omega
  omega
 ·obtain⟨z1,z2⟩:=szs
  rw[z2]
  refine Int.le_trans z1 ?_
  have:gS ((bW k.1 F).map (cH h))≤o8 (cH h k)+27:=by
   cases F with
   |nil=>show(0:Int)≤_;have:=vF (cH h k);omega
   |cons y r=>
    cases r with
    |nil=>rw[bW,List.map_cons,c8];show o8 (cH h k)+0≤_;omega
    |cons z r=>
     cases r with
     |nil=>
      have:=f.key z (List.mem_cons_of_mem _ List.mem_cons_self)
      rw[bW,List.map_cons,List.map_cons,c8,c8]
      show o8 (cH h k)+(o8 (cH h z)+0)≤_
      have:o8 (cH h z)=3+(z.1.size:Int):=rfl
      omega
     |cons w r=>simp only[List.length_cons]at hl;omega
  omega
end Ts
namespace Ts
open Go Go.Sx Go.Proofs Lf
theorem ab5{h:Nat}{Q:List (Kd h)}{key:ByteArray}(hQ:Q≠[])(hb:bR Q=Q)(jr:gq (Q.map (cH h))=true):
 ∃A k B,Q=A++k::B∧(aT (Q.map (cH h)) key).toNat=A.length∧slt key k.1=false∧(∀b∈B,slt key b.1=true):=by
 have hs:=apy jr
 have hn:mc (Q.map (cH h))≠[]:=by cases Q with|nil=>exact absurd rfl hQ|cons q r=>simp
 obtain⟨p,e,hp,h0,h1⟩:=u6 (ks:=mc (Q.map (cH h))) (key:=key) hs hn
 have hl:(mc (Q.map (cH h))).length=Q.length:=by simp
 rw[hl]at hp h1
 have ek:∀i,i<Q.length→(mc (Q.map (cH h))).getD i ByteArray.empty=(Q.getD i (ByteArray.empty,Q.head hQ |>.2)).1:=fun i hi=>by
  rw[bg (by simpa using hi),bg hi];simp[cH]
 refine⟨Q.take p,Q[p],Q.drop (p+1), ?_, ?_, ?_,fun b hb=> ?_⟩
 ·rw[List.getElem_cons_drop,List.take_append_drop]
 ·unfold aT
  rw[e,List.length_take,Int.toNat_natCast]
  omega
 ·rcases h0 with h0|h0
  ·subst h0
   have:Q[0].1=ByteArray.empty:=by
    cases Q with
    |nil=>exact absurd rfl hQ
    |cons q r=>
     simp only[bR,List.cons.injEq]at hb
     show q.1=_
     rw[←hb.1]
   rw[this];exact gk _
  ·rw[ek p hp,bg hp]at h0;exact h0
 ·obtain⟨i,hi,rfl⟩:=List.getElem_of_mem hb
  rw[List.length_drop]at hi
  have:=h1 (p+1+i) (by omega) (by omega)
  rw[ek _ (by omega),bg (by omega)]at this
  rw[List.getElem_drop];exact this
theorem akt{P x y a b F n m:Nat}(c:Nat)(h1:F+(n - 1)*(81*P)≤m+c)(hn:n≤2)(hz:(n≤1→y≤x)∧(n≤2→y≤x+27)):3*P*(19+y)+(a+F+b)≤3*P*(19+x)+(a+m+b)+c:=by
 have k:3*P*(19+y)≤3*P*(19+x)+(n - 1)*(81*P):=by
  rcases Nat.lt_or_ge 1 n with h|h
  ·have e:n=2:=by omega
   subst e
   have:=Nat.mul_le_mul_left (3*P) (show 19+y≤(19+x)+27 from by have:=hz.2 (Nat.le_refl _);omega)
   rw[Nat.mul_add (3*P) (19+x) 27]at this
   omega
  ·have:=Nat.mul_le_mul_left (3*P) (show 19+y≤19+x from by have:=hz.1 h;omega)
   omega
 omega
theorem ag8{P x a b F m:Nat}(c:Nat)(h1:F+(2 - 1)*(81*P)≤m+c)(hx:73≤x):3*P*38+(a+F+b)+(2 - 1)*(81*(3*P))≤3*P*(19+x)+(a+m+b)+c:=by
 have:=Nat.mul_le_mul_left (3*P) (show 92≤19+x from by omega)
 omega
theorem ab6{th:Th}{key:ByteArray}{op:Option ByteArray}(hk:1≤key.size∧key.size≤24)(hv:∀v,op=some v→v.size≤100):∀(h:Nat) {s:S5} {t:TN h} {f:Nat} {deep:Int},xr th s→rep th s.m h t→qc h t→(∀p∈nm h t,¬In s.fr p)→h<f→deep+(h:Int)≤16→
 adM th key op s (cS th key op f s (pg h t) deep) h (dV h t) (nm h t) (tm h t) (cL th key op f s (pg h t) deep) (cE' th key op f s (pg h t) deep)
 |0,s,t,f,deep,ho,hr,ht,hp,hf,hd=>by
  cases f with
  |zero=>omega
  |succ f=>exact aks hk hv ho hr ht (by omega)
 |h+1,s,t,f,deep,ho,hr,ht,hp,hf,hd=>by
  cases f with
  |zero=>omega
  |succ f=>
  obtain⟨n,Q⟩:=t
  obtain⟨hr1,wy⟩:=(show Rd th s.m n false [] (Q.map (cH h))∧∀k∈Q,rep th s.m h k.2 from hr)
  obtain⟨hQ,hQb,jr,bE,y9,hT⟩:=(show Q≠[]∧bR Q=Q∧gq (Q.map (cH h))=true∧mm h Q≤254∧abH h Q∧∀k∈Q,qc h k.2 from ht)
  obtain⟨e1,e2,e3,e4⟩:=hr1.nd (deep:=deep) (by omega)
  obtain⟨A,k,B,eQ,ep,yM,sH⟩:=ab5 (key:=key) hQ hQb jr
  have cg:Q.map (cH h)≠[]:=by cases Q with|nil=>exact absurd rfl hQ|cons q r=>simp
  have egd:(Q.map (cH h)).getD A.length dB=cH h k:=by rw[eQ];simp[List.getD]
  have etk:(Q.map (cH h)).take A.length=A.map (cH h):=by rw[eQ];simp
  have edp:(Q.map (cH h)).drop (A.length+1)=B.map (cH h):=by
   rw[eQ,List.map_append,List.map_cons,←List.drop_drop]
   have e:(A.map (cH h)++cH h k::B.map (cH h)).drop A.length=cH h k::B.map (cH h):=by
    have:=List.drop_left (l₁:=A.map (cH h)) (l₂:=cH h k::B.map (cH h))
    rw[List.length_map]at this
    exact this
   rw[e];rfl
  have epg:bM h Q=bM h A++(nm h k.2++bM h B):=by rw[eQ,qy,jD]
  have hpn:¬In s.fr n:=hp n List.mem_cons_self
  have hpA:∀p∈bM h A,¬In s.fr p:=fun p jV=>hp p (List.mem_cons_of_mem _ (show p∈bM h Q from by rw[epg];exact List.mem_append_left _ jV))
  have hpk:∀p∈nm h k.2,¬In s.fr p:=fun p jV=>hp p (List.mem_cons_of_mem _ (show p∈bM h Q from by rw[epg];exact List.mem_append_right _ (List.mem_append_left _ jV)))
  have hpB:∀p∈bM h B,¬In s.fr p:=fun p jV=>hp p (List.mem_cons_of_mem _ (show p∈bM h Q from by rw[epg];exact List.mem_append_right _ (List.mem_append_right _ jV)))
  have kin:k∈Q:=by rw[eQ];exact List.mem_append_right _ List.mem_cons_self
  have ih:=ab6 hk hv h (s:=s) (t:=k.2) (f:=f) (deep:=deep+1) ho (wy k kin) (hT k kin) hpk (by omega) (by omega)
  have epk:(cH h k).2.1=pg h k.2:=rfl
  have ekk:(cH h k).1=k.1:=rfl
  show adM th key op s (cS th key op (f+1) s n deep) (h+1) (bQ h Q) (n::bM h Q) (3^(h+1)*(19+zW (mm h Q))+eR h Q) (cL th key op (f+1) s n deep) (cE' th key op (f+1) s n deep)
  have ed:vz th key op (f+1) s.m s.fu s.fr s.fs s.gn n deep=if cE' th key op f s (pg h k.2) (deep+1)≠0 then
   ((cS th key op f s (pg h k.2) (deep+1)).m,(cS th key op f s (pg h k.2) (deep+1)).fu,(cS th key op f s (pg h k.2) (deep+1)).fr,(cS th key op f s (pg h k.2) (deep+1)).fs,(cS th key op f s (pg h k.2) (deep+1)).gn,[],cE' th key op f s (pg h k.2) (deep+1))
   else gK (lvT (cS th key op f s (pg h k.2) (deep+1)) n).gn (bk th (lvT (cS th key op f s (pg h k.2) (deep+1)) n).m (lvT (cS th key op f s (pg h k.2) (deep+1)) n).fu (lvT (cS th key op f s (pg h k.2) (deep+1)) n).fr (lvT (cS th key op f s (pg h k.2) (deep+1)) n).fs false [] (A.map (cH h)++kK k.1 (cL th key op f s (pg h k.2) (deep+1))++B.map (cH h))):=by
   rw[fR,if_neg (by rw[e1];simp),if_neg (by rw[e2];simp),e4,if_neg cg,e3,ep,egd,etk,edp,epk,ekk]
   rfl
  generalize cS th key op f s (pg h k.2) (deep+1)=s2 at ih ed
  generalize cL th key op f s (pg h k.2) (deep+1)=l2 at ih ed
  generalize cE' th key op f s (pg h k.2) (deep+1)=x2 at ih ed
  rcases ih with⟨hx,hc,N,V,rest,k0,F,g⟩|⟨hx,N,V,g⟩
  ·rw[if_neg (by rw[hx];simp),g.l,agX,abI,←List.map_append,←List.map_append]at ed
   have hnN:n ∉ N:=fun hh=>hpn (g.qK.sub n hh)
   have l1:qA th s (lvT s2 n) N (V++[n]):=by
    have:=eK g.qK (adF g.qK.ok n) (fun p jV=>by rw[List.mem_singleton.1 jV];exact hnN)
    rw[List.append_nil]at this
    exact this
   have ho3:=l1.ok
   obtain⟨j1,j2,j3,j4,j5,j6⟩:=ag7 (th:=th) (m:=(lvT s2 n).m) (A:=A) (B:=B) (F:=F) (k:=k) (key:=key) (op:=op) (by rw[←eQ];exact hQb) (by rw[←eQ];exact jr) (by rw[←eQ];exact y9) (by rw[←eQ];exact hT)
    (fun x hx=>g.qK.rep h (wy x (by rw[eQ];exact List.mem_append_left _ hx)) fun p jV=>hpA p (List.mem_flatMap.2 ⟨x,hx,jV⟩))
    (fun x hx=>g.qK.rep h (wy x (by rw[eQ];exact List.mem_append_right _ (List.mem_cons_of_mem _ hx))) fun p jV=>hpB p (List.mem_flatMap.2 ⟨x,hx,jV⟩)) g.fr g.dV yM sH
   rw[←eQ]at j3 j4 j5 j6
   have atd:aa ((A++bW k.1 F++B).map (cH h))=(bR (A++bW k.1 F++B)).map (cH h):=jE _
   have pgJ:bM h (bR (A++bW k.1 F++B))=bM h A++bM h F++bM h B:=by rw[xX,qy,qy,ajD]
   have ate:eR h (bR (A++bW k.1 F++B))=eR h A+eR h F+eR h B:=by rw[xY,qz,qz,ajE]
   have auQ:eR h Q=eR h A+tm h k.2+eR h B:=by rw[eQ,qz,ic];omega
   have atf:∀p∈bM h (bR (A++bW k.1 F++B)),¬In (lvT s2 n).fr p:=fun p jV c9=>by
    obtain⟨i1,i2⟩:=(l1.fr p).1 c9
    rw[pgJ]at jV
    rcases List.mem_append.1 jV with jV|jV
    ·rcases List.mem_append.1 jV with jV|jV
     ·exact hpA p jV i1
     ·rcases List.mem_append.1 ((g.new.mem_iff).1 jV)with jV|jV
      ·exact i2 jV
      ·exact hpk p ((g.old.mem_iff).2 (List.mem_append_right _ jV)) i1
    ·exact hpB p jV i1
   have c1:cS th key op (f+1) s n deep=sS th (lvT s2 n) false [] ((A++bW k.1 F++B).map (cH h)):=by unfold cS pf ph pj qw rI;rw[ed];rfl
   have c2:cL th key op (f+1) s n deep=sL th (lvT s2 n) false [] ((A++bW k.1 F++B).map (cH h)):=by unfold cL sN;rw[ed];rfl
   have c3:cE' th key op (f+1) s n deep=sE th (lvT s2 n) false [] ((A++bW k.1 F++B).map (cH h)):=by unfold cE' rJ;rw[ed];rfl
   rw[c1,c2,c3]
   have old:(n::bM h Q).Perm ((V++[n])++(rest++(bM h A++bM h B))):=by
    rw[epg]
    have a1:(bM h A++(nm h k.2++bM h B)).Perm (nm h k.2++(bM h A++bM h B)):=by
     rw[←List.append_assoc,←List.append_assoc]
     exact List.Perm.append_right _ List.perm_append_comm
    have a2:(nm h k.2++(bM h A++bM h B)).Perm ((V++rest)++(bM h A++bM h B)):=List.Perm.append_right _ g.old
    have a3:=(List.Perm.cons n (a1.trans a2))
    refine a3.trans ?_
    rw[List.append_assoc,List.append_assoc V [n],List.singleton_append]
    exact List.perm_middle.symm
   have atg:(bM h (bR (A++bW k.1 F++B))).Perm (N++(rest++(bM h A++bM h B))):=by
    rw[pgJ]
    have a1:(bM h A++bM h F++bM h B).Perm (bM h F++(bM h A++bM h B)):=by
     rw[←List.append_assoc]
     exact List.Perm.append_right _ List.perm_append_comm
    refine a1.trans ?_
    rw[←List.append_assoc N]
    exact List.Perm.append_right _ g.new
   by_cases hJ:bR (A++bW k.1 F++B)=[]
   ·have h0:(A++bW k.1 F++B)=[]:=by
     cases hx:A++bW k.1 F++B with
     |nil=>rfl
     |cons x r=>rw[hx]at hJ;cases hJ
    obtain⟨a,b,c⟩:=afr (l:=false) (es:=[]) (bs:=(A++bW k.1 F++B).map (cH h)) ho3 (by rw[h0];rfl)
    have p0:=atg
    rw[hJ]at p0
    refine .inl ⟨a,by rw[j4];exact hc,N++[],(V++[n])++[],rest++(bM h A++bM h B),ByteArray.empty,[],eK l1 c (fun p hp=>by cases hp), ?_,b,afs, ?_, ?_, ?_,Nat.zero_le _,fun _=>Nat.zero_le _, ?_⟩
    ·rw[List.append_nil];have:=g.len;omega
    ·rw[←j3,hJ];rfl
    ·rw[List.append_nil];exact old
    ·rw[List.append_nil];exact p0
    ·show 0+(0 - 1)*_≤_
     rw[Nat.zero_sub,Nat.zero_mul];exact Nat.zero_le _
   ·have z27:=j6 g.two
    rcases afv ho3 atd hJ j1 atf j2 (by omega)with⟨a,N2,k2,F2,b,c,d,e,i,i2,i3⟩|⟨a,b⟩
    ·refine .inl ⟨a,by rw[j4];exact hc,N++N2,(V++[n])++[],rest++(bM h A++bM h B),k2,F2,eK l1 b (fun p hp=>by cases hp), ?_,d,e,by rw[i,j3],by rw[List.append_nil];exact old, ?_, ?_,fun hn=> ?_, ?_⟩
     ·rw[List.length_append];have:=g.len;omega
     ·refine i2.trans ?_
      refine(List.Perm.append_left N2 atg).trans ?_
      rw[←List.append_assoc]
      exact List.Perm.append_right _ List.perm_append_comm
     ·rcases i3 with⟨_,i3,_⟩|⟨_,i3,_⟩<;>omega
     ·rcases i3 with⟨_,i3,_⟩|⟨i4,i3,_⟩
      ·omega
      ·have:=j5 (g.del hn);omega
     ·have gp:=g.tm
      have e3:3^(h+1)=3*3^h:=by rw[Nat.pow_succ,Nat.mul_comm]
      rw[e3,auQ]
      rcases i3 with⟨_,i4,i5⟩|⟨i6,i4,i5⟩
      ·rw[i5,i4,ate,e3,Nat.sub_self,Nat.zero_mul,Nat.add_zero]
       refine akt (opP op) gp g.two ⟨fun hl=> ?_,fun hl=> ?_⟩
       ·have:=j5 hl;unfold zW;omega
       ·unfold zW;omega
      ·have h2:F.length=2:=by
        rcases Nat.lt_or_ge 1 F.length with hl|hl
        ·have:=g.two;omega
        ·have:=j5 hl;omega
       rw[h2]at gp
       rw[i5,i4,ate,e3]
       exact ag8 (opP op) gp (by unfold zW;omega)
    ·exact .inr ⟨a,akr l1 (by have:=g.len;omega) (fun p hp=>(old.mem_iff).2 (List.mem_append_left _ hp)) b⟩
  ·rw[if_pos hx]at ed
   have c1:cS th key op (f+1) s n deep=s2:=by unfold cS pf ph pj qw rI;rw[ed]
   have c3:cE' th key op (f+1) s n deep=x2:=by unfold cE' rJ;rw[ed]
   rw[c1,c3]
   refine .inr ⟨hx,N,V,g.qK,by have:=g.len;omega,fun p jV=>List.mem_cons_of_mem _ ?_, ?_⟩
   ·rw[epg];exact List.mem_append_right _ (List.mem_append_left _ (g.sub p jV))
   ·rcases g.how with⟨a,b⟩|a
    ·refine .inl ⟨a, ?_⟩
     have sAB:=y9.1
     rw[eQ,List.pairwise_append]at sAB
     have eAk:∀x∈bQ h A,slt x.1 key=true:=fun x hx=>by
      obtain⟨y,hy,hxy⟩:=List.mem_flatMap.1 hx
      exact ei (sAB.2.2 y hy k List.mem_cons_self x hxy) yM
     have eBk:∀x∈bQ h B,slt key x.1=true:=fun x hx=>by
      obtain⟨y,hy,hxy⟩:=List.mem_flatMap.1 hx
      exact ei (sH y hy) (y9.2 y (by rw[eQ];exact List.mem_append_right _ (List.mem_cons_of_mem _ hy)) x hxy)
     rw[eQ,jC,jU,←List.append_assoc,afx eAk eBk]
     exact b
    ·exact .inr a
end Ts
namespace Ts
open Go Go.Sx Go.Proofs Lf
def aQ(th:Th)(m:As)(root:Int)(h:Nat)(E:List En)(ps:List Int)(po:Nat):Prop:=
 (root=0∧h=0∧E=[]∧ps=[]∧po=0)∨∃t:TN h,root=pg h t∧2≤root∧root<1024∧rep th m h t∧qc h t∧E=dV h t∧ps=nm h t∧po=tm h t
def tS(th:Th)(key:ByteArray)(op:Option ByteArray)(s:S5)(root:Int):S5:=
 ⟨wP th key op s.m s.fu root s.fr s.fs s.gn,wQ th key op s.m s.fu root s.fr s.fs s.gn,wR th key op s.m s.fu root s.fr s.fs s.gn,abS th key op s.m s.fu root s.fr s.fs s.gn,abT th key op s.m s.fu root s.fr s.fs s.gn⟩
structure afA (th:Th) (key:ByteArray) (op:Option ByteArray) (s t:S5) (h:Nat) (old:List En) (ps:List Int) (po:Nat) (l:List Br) (N V rest:List Int) (k0:ByteArray) (h2:Nat) (F:List (Kd h2)):Prop where
 qK:qA th s t N V
 l:l=kK k0 (F.map (cH h2))
 fr:For th t.m h2 F
 dV:bQ h2 F=lN key op old
 old:ps.Perm (V++rest)
 new:(bM h2 F).Perm (N++rest)
 one:F.length≤1
 tm:eR h2 F≤po+opP op
 hh:h2≤h+1
structure aqB (th:Th) (key:ByteArray) (op:Option ByteArray) (s t:S5) (h:Nat) (old:List En) (e:Int) (N V:List Int):Prop where
 qK:qA th s t N V
 len:N.length≤2*h+3
 how:(e=5∧qI key op old=5)∨(e=41∧∀p,In s.fr p→p∈N)∨(e=42∧t.fu=0)
def stC(c:Chg):S5:=⟨c.1,c.2.1,c.2.2.1,c.2.2.2.1,c.2.2.2.2.1⟩
theorem For.okB{th:Th}{m:As}{h:Nat}{F:List (Kd h)}(f:For th m h F):gq (F.map (cH h))=true:=by
 rw[fO]
 refine⟨fun b hb=> ?_, ?_⟩
 ·obtain⟨x,hx,rfl⟩:=List.mem_map.1 hb
  exact⟨f.key x hx,f.pg x hx⟩
 ·rw[List.pairwise_map]
  refine List.Pairwise.imp_of_mem (fun{a b} ha hb hab=> ?_) f.sep.1
  obtain⟨e,he⟩:=List.exists_mem_of_ne_nil _ (qx h (f.ok a ha))
  have a1:=hab e he
  have a2:=f.sep.2 a ha e he
  show slt a.1 b.1=true
  rcases hY a.1 e.1 with h1|h1|h1
  ·exact cv h1 a1
  ·rw[h1];exact a1
  ·rw[a2]at h1;cases h1
theorem aku{th:Th}{key:ByteArray}{op:Option ByteArray}(hk:1≤key.size∧key.size≤24)(hv:∀v,op=some v→v.size≤100){s:S5}{root:Int}{h:Nat}{E:List En}{ps:List Int}{po:Nat}(ho:xr th s)(H:aQ th s.m root h E ps po)(hp:∀p∈ps,¬In s.fr p)(hh:h≤15):
 adM th key op s (tS th key op s root) h E ps po (vP th key op s.m s.fu root s.fr s.fs s.gn) (vQ th key op s.m s.fu root s.fr s.fs s.gn):=by
 rcases H with⟨h1,h2,h3,h4,h5⟩|⟨t,h1,h2,_,h3,h4,h5,h6,h7⟩
 ·subst h2 h3 h4 h5
  rcases afy key op []with hc|hc
  ·have e:iK th key op s.m s.fu root s.fr s.fs s.gn=gK s.gn (bk th s.m s.fu s.fr s.fs true (lN key op []) []):=by
    unfold iK
    rw[if_neg (by rw[h1];simp),if_neg (by rw[hc];simp),akq hc]
   have c1:tS th key op s root=sS th s true (lN key op []) []:=by unfold tS wP wQ wR abS abT;rw[e];rfl
   have c2:vP th key op s.m s.fu root s.fr s.fs s.gn=sL th s true (lN key op []) []:=by unfold vP;rw[e];rfl
   have c3:vQ th key op s.m s.fu root s.fr s.fs s.gn=sE th s true (lN key op []) []:=by unfold vQ;rw[e];rfl
   rw[c1,c2,c3]
   exact afz hk hv rfl (by decide) (gM ho) (List.Perm.refl _) hc
  ·have e:iK th key op s.m s.fu root s.fr s.fs s.gn=(s.m,s.fu,s.fr,s.fs,s.gn,[],5):=by
    unfold iK
    rw[if_neg (by rw[h1];simp),if_pos (by rw[hc];simp),hc]
   have c1:tS th key op s root=s:=by unfold tS wP wQ wR abS abT;rw[e]
   have c3:vQ th key op s.m s.fu root s.fr s.fs s.gn=5:=by unfold vQ;rw[e]
   rw[c1,c3]
   exact .inr ⟨by decide,[],[],gM ho,by simp,fun p hp=>(by cases hp),.inl ⟨rfl,hc⟩⟩
 ·subst h5 h6 h7
  have e:iK th key op s.m s.fu root s.fr s.fs s.gn=vz th key op 17 s.m s.fu s.fr s.fs s.gn (pg h t) 1:=by
   unfold iK
   rw[if_pos (by omega),h1]
  have g:=ab6 (op:=op) hk hv h (s:=s) (t:=t) (f:=17) (deep:=1) ho h3 h4 hp (by omega) (by omega)
  have c1:tS th key op s root=cS th key op 17 s (pg h t) 1:=by unfold tS wP wQ wR abS abT;rw[e];rfl
  have c2:vP th key op s.m s.fu root s.fr s.fs s.gn=cL th key op 17 s (pg h t) 1:=by unfold vP;rw[e];rfl
  have c3:vQ th key op s.m s.fu root s.fr s.fs s.gn=cE' th key op 17 s (pg h t) 1:=by unfold vQ;rw[e];rfl
  rw[c1,c2,c3]
  exact g
theorem am4{th:Th}{key:ByteArray}{op:Option ByteArray}{s:S5}{h:Nat}{E:List En}{ps:List Int}{po:Nat}{c:Chg}(hp:∀p∈ps,¬In s.fr p)(H:adM th key op s (stC c) h E ps po c.2.2.2.2.2.1 c.2.2.2.2.2.2):
 ((zY th c).2.2.2.2.2.2=0∧qI key op E=0∧∃N V rest k0 h2 F,afA th key op s (stC (zY th c)) h E ps po (zY th c).2.2.2.2.2.1 N V rest k0 h2 F)∨((zY th c).2.2.2.2.2.2≠0∧∃N V,aqB th key op s (stC (zY th c)) h E (zY th c).2.2.2.2.2.2 N V):=by
 rcases H with⟨hx,hc,N,V,rest,k0,F,g⟩|⟨hx,N,V,g⟩
 ·have hlen:c.2.2.2.2.2.1.length=F.length:=by rw[g.l,vJ,List.length_map]
  by_cases h2:F.length=2
  ·have hu:zY th c=gK c.2.2.2.2.1 (bk th c.1 c.2.1 c.2.2.1 c.2.2.2.1 false [] c.2.2.2.2.2.1):=if_pos ⟨hx,by rw[hlen,h2];decide⟩
   have hb:aa c.2.2.2.2.2.1=F.map (cH h):=by
    rw[g.l,abI,jE,agY,g.fr.bare]
   have hpF:∀p∈bM h F,¬In (stC c).fr p:=fun p jV c9=>by
    obtain⟨i1,i2⟩:=(g.qK.fr p).1 c9
    rcases List.mem_append.1 ((g.new.mem_iff).1 jV)with jV|jV
    ·exact i2 jV
    ·exact hp p ((g.old.mem_iff).2 (List.mem_append_right _ jV)) i1
   have bE:mm h F≤55:=by
    have e:=adE F
    have e2:gS (F.map (cH h))≤54:=by
     match F,h2,g.fr with
     |[a,b],_,f=>
      have k1:=f.key a List.mem_cons_self
      have k2:=f.key b (List.mem_cons_of_mem _ List.mem_cons_self)
      rw[List.map_cons,List.map_cons,c8,c8]
      show o8 (cH h a)+(o8 (cH h b)+0)≤54
      have e3:o8 (cH h a)=3+(a.1.size:Int):=rfl
      have e4:o8 (cH h b)=3+(b.1.size:Int):=rfl
      omega
    omega
   have cg:F≠[]:=fun e=>by rw[e]at h2;cases h2
   have hw:=afv (s:=stC c) (bs:=c.2.2.2.2.2.1) g.qK.ok hb cg g.fr hpF g.fr.okB (by omega)
   have c1:stC (zY th c)=sS th (stC c) false [] c.2.2.2.2.2.1:=by rw[hu];rfl
   have c2:(zY th c).2.2.2.2.2.1=sL th (stC c) false [] c.2.2.2.2.2.1:=by rw[hu];rfl
   have c3:(zY th c).2.2.2.2.2.2=sE th (stC c) false [] c.2.2.2.2.2.1:=by rw[hu];rfl
   rw[c1,c2,c3]
   rcases hw with⟨a,N2,k2,F2,b,cc,d,e,i,i2,i3⟩|⟨a,N2,b1,b2,b3⟩
   ·refine .inl ⟨a,hc,N++N2,V++[],rest,k2,h+1,F2,eK g.qK b (fun p hp=>by cases hp),d,e,by rw[i,g.dV],by rw[List.append_nil];exact g.old, ?_, ?_, ?_,Nat.le_refl _⟩
    ·refine i2.trans ?_
     refine(List.Perm.append_left N2 g.new).trans ?_
     rw[←List.append_assoc]
     exact List.Perm.append_right _ List.perm_append_comm
    ·rcases i3 with⟨_,i3,_⟩|⟨i3,_⟩<;>omega
    ·have gp:=g.tm
     rw[h2]at gp
     rcases i3 with⟨_,_,i3⟩|⟨i3,_⟩
     ·have o0:zW (mm h F)=0:=by unfold zW;omega
      rw[i3,o0,Nat.pow_succ]
      omega
     ·omega
   ·refine .inr ⟨a,N++N2,V++[],eK g.qK b1 (fun p hp=>by cases hp),by rw[List.length_append];have:=g.len;omega,.inr (b3.imp (fun x=>⟨x.1,fun p jV=> ?_⟩) id)⟩
    by_cases hpn:p∈N
    ·exact List.mem_append_left _ hpn
    ·exact List.mem_append_right _ (x.2 p ((g.qK.fr p).2 ⟨jV,hpn⟩))
  ·have hu:zY th c=c:=rO (fun a=>h2 (by have:=a.2;rw[hlen]at this;have:=g.two;omega))
   rw[hu]
   have gp:=g.tm
   have g2:=g.two
   refine .inl ⟨hx,hc,N,V,rest,k0,h,F,g.qK,g.l,g.fr,g.dV,g.old,g.new,by omega, ?_,by omega⟩
   have:F.length - 1=0:=by omega
   rw[this,Nat.zero_mul,Nat.add_zero]at gp
   exact gp
 ·have hu:zY th c=c:=rO (fun a=>hx a.1)
  rw[hu]
  exact .inr ⟨hx,N,V,g.qK,by have:=g.len;omega,g.how⟩
theorem vX{th:Th}:∀(h:Nat) {s:S5} {t:TN h} {f:Nat} {deep:Int},xr th s→rep th s.m h t→qc h t→2≤pg h t∧pg h t<1024→h<f→deep+(h:Int)≤16→
 wO th s.m f s.fs s.gn (pg h t) deep=0∧∃(h2:Nat) (t2:TN h2) (W:List Int),wN th s.m f s.fs s.gn (pg h t) deep=pg h2 t2∧(2≤pg h2 t2∧pg h2 t2<1024)∧qA th s ⟨s.m,s.fu,s.fr,vN th s.m f s.fs s.gn (pg h t) deep,vO th s.m f s.fs s.gn (pg h t) deep⟩ [] W∧
  rep th s.m h2 t2∧qc h2 t2∧dV h2 t2=dV h t∧(nm h t).Perm (W++nm h2 t2)∧tm h2 t2≤tm h t∧h2≤h
 |0,s,t,f,deep,ho,hr,ht,hp,hf,hd=>by
  cases f with
  |zero=>omega
  |succ f=>
   have dX:Rd th s.m (pg 0 t) true t.2 []:=hr
   obtain⟨e1,e2,e3,e4⟩:=dX.nd (deep:=deep) (by omega)
   have e:nY th s.m (f+1) s.fs s.gn (pg 0 t) deep=(s.fs,s.gn,pg 0 t,0):=by rw[nY,if_neg (by rw[e1];simp),if_pos (.inl e2)]
   refine⟨by unfold wO;rw[e],0,t,[],by unfold wN;rw[e],hp, ?_,hr,ht,rfl,List.Perm.refl _,Nat.le_refl _,Nat.le_refl _⟩
   unfold vN vO;rw[e];exact gM ho
 |h+1,s,t,f,deep,ho,hr,ht,hp,hf,hd=>by
  cases f with
  |zero=>omega
  |succ f=>
   obtain⟨n,Q⟩:=t
   obtain⟨hr1,wy⟩:=(show Rd th s.m n false [] (Q.map (cH h))∧∀k∈Q,rep th s.m h k.2 from hr)
   obtain⟨hQ,hQb,jr,bE,y9,hT⟩:=(show Q≠[]∧bR Q=Q∧gq (Q.map (cH h))=true∧mm h Q≤254∧abH h Q∧∀k∈Q,qc h k.2 from ht)
   obtain⟨e1,e2,e3,e4⟩:=hr1.nd (deep:=deep) (by omega)
   show wO th s.m (f+1) s.fs s.gn n deep=0∧∃(h2:Nat) (t2:TN h2) (W:List Int),wN th s.m (f+1) s.fs s.gn n deep=pg h2 t2∧(2≤pg h2 t2∧pg h2 t2<1024)∧qA th s ⟨s.m,s.fu,s.fr,vN th s.m (f+1) s.fs s.gn n deep,vO th s.m (f+1) s.fs s.gn n deep⟩ [] W∧
    rep th s.m h2 t2∧qc h2 t2∧dV h2 t2=bQ h Q∧(n::bM h Q).Perm (W++nm h2 t2)∧tm h2 t2≤3^(h+1)*(19+zW (mm h Q))+eR h Q∧h2≤h+1
   by_cases h1:Q.length=1
   ·match Q,h1 with
    |[k],_=>
     have kin:k∈[k]:=List.mem_cons_self
     have e:nY th s.m (f+1) s.fs s.gn n deep=nY th s.m f (iU s.fs n) (pb s.fs s.gn n) (pg h k.2) (deep+1):=by
      rw[nY,if_neg (by rw[e1];simp),if_neg (by rintro(a|a);rw[e2]at a;cases a;rw[e4]at a;exact a rfl),e4];rfl
     have l1:=adF ho n
     have pk:2≤pg h k.2∧pg h k.2<1024:=((fO.1 jr).1 (cH h k) (List.mem_map_of_mem kin)).2
     obtain⟨a,h2,t2,W,b,b2,c,d,d2,d3,d4,d5,d6⟩:=vX h (s:=lvT s n) (t:=k.2) (f:=f) (deep:=deep+1) l1.ok (wy k kin) (hT k kin) pk (by omega) (by omega)
     refine⟨by unfold wO at a ⊢;rw[e];exact a,h2,t2,[n]++W,by unfold wN at b ⊢;rw[e];exact b,b2, ?_,d,d2, ?_, ?_, ?_,by omega⟩
     ·have:=eK l1 c (fun p _=>List.not_mem_nil)
      unfold vN vO at this ⊢
      rw[e]
      exact this
     ·show dV h2 t2=dV h k.2++[]
      rw[List.append_nil,d3]
     ·show(n::(nm h k.2++[])).Perm (n::(W++nm h2 t2))
      rw[List.append_nil]
      exact d4.cons n
     ·show tm h2 t2≤3^(h+1)*(19+zW (mm h [k]))+eR h [k]
      have:eR h [k]=tm h k.2:=by rw[ic];rfl
      omega
   ·have e:nY th s.m (f+1) s.fs s.gn n deep=(s.fs,s.gn,n,0):=by
     rw[nY,if_neg (by rw[e1];simp),if_pos (.inr (by rw[e4,List.length_map];exact h1))]
    refine⟨by unfold wO;rw[e],h+1,(n,Q),[],by unfold wN;rw[e];rfl,hp, ?_,hr,ht,rfl,List.Perm.refl _,Nat.le_refl _,Nat.le_refl _⟩
    unfold vN vO;rw[e];exact gM ho
end Ts
namespace Ts
open Go Go.Sx Go.Proofs Lf
structure Inv (F0:Int→Prop) (fr fs:Ws) (ps:List Int):Prop where
 nd:ps.Nodup
 cov:∀p,F0 p↔In fr p∨In fs p
 dis:∀p,In fr p→¬In fs p
 sub:∀p,In fs p→p∈ps
 top:∀p∈ps,F0 p→In fs p
structure TI (th:Th) (F0:Int→Prop) (m:As) (fu root:Int) (fr fs gn:Ws) (h:Nat) (E:List En) (ps:List Int) (po:Nat):Prop where
 ok:xr th ⟨m,fu,fr,fs,gn⟩
 gz:gn=Bx.aJ
 f0:∀p,F0 p→2≤p∧Ds.s9 th p=true
 holds:aQ th m root h E ps po
 inv:Inv F0 fr fs ps
structure aqC (th:Th) (key:ByteArray) (op:Option ByteArray) (m:As) (fu:Int) (fr:Ws) (h:Nat) (E:List En) (m':As) (gl e:Int):Prop where
 d:Ds.bI th m' gl
 rd:∀p,¬In fr p→Ds.iM th m' p=Ds.iM th m p∧Ds.gu th m' p=Ds.gu th m p
 fu:fu= -1→gl= -1
 how:(e=5∧qI key op E=5)∨(e=41∧∃N:List Int,N.length≤2*h+3∧∀p,In fr p→p∈N)∨(e=42∧gl=0)
structure ye (th:Th) (F0:Int→Prop) (key:ByteArray) (op:Option ByteArray) (m:As) (fu:Int) (fr:Ws) (ps:List Int) (E:List En) (po:Nat) (r:Chs) (h':Nat) (ps':List Int) (wU:Nat):Prop where
 ti:TI th F0 r.1 r.2.1 r.2.2.1 r.2.2.2.1 r.2.2.2.2.1 r.2.2.2.2.2.1 h' (lN key op E) ps' wU
 po:wU≤po+opP op
 rd:∀p,¬F0 p→Ds.iM th r.1 p=Ds.iM th m p∧Ds.gu th r.1 p=Ds.gu th m p
 fu:fu= -1→r.2.1= -1
 new:∀p∈ps',p∈ps∨In fr p
theorem ath:∀(h:Nat) {t:TN (h+1)},19*3^(h+1)≤tm (h+1) t:=fun h t=>by
 have:3^(h+1)*19≤3^(h+1)*(19+zW (mm h t.2)):=Nat.mul_le_mul_left _ (by omega)
 rw[ajC]
 omega
theorem aQ.aqD{th:Th}{m:As}{root:Int}{h:Nat}{E:List En}{ps:List Int}{po:Nat}(H:aQ th m root h E ps po)(hp:po<19*3^15):h≤14:=by
 rcases H with⟨_,h2,_⟩|⟨t,_,_,_,_,_,_,_,h7⟩
 ·omega
 ·cases h with
  |zero=>omega
  |succ h=>
   have a:=ath h (t:=t)
   rw[←h7]at a
   have b:3^(h+1)<3^15:=by omega
   have:=(Nat.pow_lt_pow_iff_right (show 1<3 by omega)).1 b
   omega
theorem TI.free{th:Th}{F0:Int→Prop}{m:As}{fu root:Int}{fr fs gn:Ws}{h:Nat}{E:List En}{ps:List Int}{po:Nat}(T:TI th F0 m fu root fr fs gn h E ps po):∀p∈ps,¬In fr p:=fun p hp hf=>T.inv.dis p hf (T.inv.top p hp ((T.inv.cov p).2 (.inl hf)))
theorem ab7{th:Th}{F0:Int→Prop}{s t u:S5}{N V W rest ps pk ps':List Int}(hf0:∀p,F0 p→2≤p∧Ds.s9 th p=true)(hg:∀p,¬In s.gn p)(I:Inv F0 s.fr s.fs ps)(e1:qA th s t N V)(e2:qA th t u [] W)(o:ps.Perm (V++rest))(n:pk.Perm (N++rest))(l:pk.Perm (W++ps')):
 Inv F0 (Bx.bY .or u.fr u.gn) u.fs ps'∧xr th ⟨u.m,u.fu,Bx.bY .or u.fr u.gn,u.fs,Bx.aJ⟩:=by
 have ho:=e2.ok
 have frI:∀p,In (Bx.bY .or u.fr u.gn) p↔In u.fr p∨In u.gn p:=fun p=>ar6 ho.fr ho.gn
 have ufr:∀p,In u.fr p↔In s.fr p∧p ∉ N:=fun p=>by rw[e2.fr,e1.fr];exact⟨fun x=>x.1,fun x=>⟨x,List.not_mem_nil⟩⟩
 have tfs:=e1.fs
 have ufs:∀p,In u.fs p↔In t.fs p∧p ∉ W:=fun p=>by rw[e2.fs];exact⟨fun x=>x.elim id (fun y=>by cases y),.inl⟩
 have ugn:∀p,In u.gn p↔(In s.fs p∧p∈V)∨(In t.fs p∧p∈W):=fun p=>by
  rw[e2.gn,e1.gn]
  exact⟨fun x=>x.elim (fun y=>y.elim (fun z=>absurd z (hg p)) .inl) .inr,fun x=>x.elim (fun y=>.inl (.inr y)) .inr⟩
 have ndo:=(o.nodup_iff).1 I.nd
 obtain⟨nV,nR,dVR⟩:=List.nodup_append.1 ndo
 have ndn:(N++rest).Nodup:=List.nodup_append.2 ⟨e1.nd,nR,fun a ha b hb hab=>by
  subst hab
  have hps:a∈ps:=(o.mem_iff).2 (List.mem_append_right _ hb)
  have hfr:=e1.sub a ha
  exact I.dis a hfr (I.top a hps ((I.cov a).2 (.inl hfr)))⟩
 have ndl:=(l.nodup_iff).1 ((n.nodup_iff).2 ndn)
 obtain⟨nW,nP,dWP⟩:=List.nodup_append.1 ndl
 have mem:∀p,(p∈N∨p∈rest)↔(p∈W∨p∈ps'):=fun p=>by
  rw[←List.mem_append,←List.mem_append,←n.mem_iff,l.mem_iff]
 have ati:∀p,F0 p↔In (Bx.bY .or u.fr u.gn) p∨In u.fs p:=fun p=>by
  rw[I.cov,frI,ufr,ugn,ufs,tfs]
  constructor
  ·rintro(a|a)
   ·by_cases hN:p∈N
    ·by_cases hW:p∈W
     ·exact .inl (.inr (.inr ⟨.inr hN,hW⟩))
     ·exact .inr ⟨.inr hN,hW⟩
    ·exact .inl (.inl ⟨a,hN⟩)
   ·by_cases hV:p∈V
    ·exact .inl (.inr (.inl ⟨a,hV⟩))
    ·by_cases hW:p∈W
     ·exact .inl (.inr (.inr ⟨.inl ⟨a,hV⟩,hW⟩))
     ·exact .inr ⟨.inl ⟨a,hV⟩,hW⟩
  ·rintro((a|a|⟨a|a,_⟩)|⟨a|a,_⟩)
   ·exact .inl a.1
   ·exact .inr a.1
   ·exact .inr a.1
   ·exact .inl (e1.sub p a)
   ·exact .inr a.1
   ·exact .inl (e1.sub p a)
 refine⟨⟨nP,ati,fun p hp hq=> ?_,fun p hp=> ?_,fun p hp hf=> ?_⟩,⟨ho.d,(Bx.jS (.inl rfl) ho.fr ho.gn).1,ho.fs,Bx.dF.1,fun p hp=>hf0 p ((ati p).2 (.inl hp))⟩⟩
 ·rw[frI,ufr,ugn]at hp
  rw[ufs,tfs]at hq
  obtain⟨hq,hw⟩:=hq
  rcases hp with⟨a,b⟩|⟨a,b⟩|⟨_,b⟩
  ·rcases hq with⟨c,_⟩|c
   ·exact I.dis p a c
   ·exact b c
  ·rcases hq with⟨_,c⟩|c
   ·exact c b
   ·exact I.dis p (e1.sub p c) a
  ·exact hw b
 ·rw[ufs,tfs]at hp
  obtain⟨hp,hw⟩:=hp
  have:p∈N∨p∈rest:=hp.elim (fun x=>.inr ((List.mem_append.1 ((o.mem_iff).1 (I.sub p x.1))).resolve_left x.2)) .inl
  exact((mem p).1 this).resolve_left hw
 ·rw[ufs,tfs]
  have hw:p ∉ W:=fun hw=>dWP p hw p hp rfl
  refine⟨?_,hw⟩
  rcases(mem p).2 (.inr hp)with a|a
  ·exact .inr a
  ·exact .inl ⟨I.top p ((o.mem_iff).2 (List.mem_append_right _ a)) hf,fun hv=>dVR p hv p a rfl⟩
theorem afB{th:Th}{F0:Int→Prop}{m:As}{fu root:Int}{fr fs gn:Ws}{h:Nat}{E:List En}{ps:List Int}{po:Nat}(T:TI th F0 m fu root fr fs gn h E ps po):∀p,¬In gn p:=fun p=>by rw[T.gz];exact dr
theorem aoz{h:Nat}{l:List Br}{k0:ByteArray}{F:List (Kd h)}(e:l=kK k0 (F.map (cH h))):l.length=F.length:=by rw[e,vJ,List.length_map]
theorem am5{th:Th}{F0:Int→Prop}{key:ByteArray}{op:Option ByteArray}{m:As}{fu root:Int}{fr fs gn:Ws}{h:Nat}{E:List En}{ps:List Int}{po:Nat}(T:TI th F0 m fu root fr fs gn h E ps po){c:Chg}(hx:c.2.2.2.2.2.2=0){N V rest:List Int}{k0:ByteArray}{h2:Nat}
 (g:afA th key op ⟨m,fu,fr,fs,gn⟩ (stC c) h E ps po c.2.2.2.2.2.1 N V rest k0 h2 []):∃r,jv th root fr fs gn c=r∧r.2.2.2.2.2.2=0∧∃h' ps' wU,ye th F0 key op m fu fr ps E po r h' ps' wU:=by
 have ed2:jv th root fr fs gn c=(c.1,c.2.1,0,Bx.bY .or c.2.2.1 c.2.2.2.2.1,c.2.2.2.1,Bx.aJ,0):=by
  unfold jv nq
  rw[if_neg (fun a=>by rw[aoz g.l]at a;cases a.2),if_neg (by rw[hx];simp)]
 obtain⟨I,ok⟩:=ab7 T.f0 (afB T) T.inv g.qK (gM g.qK.ok) g.old (g.new) (ps':=[]) (by exact List.Perm.refl _)
 have hH:aQ th c.1 0 0 (lN key op E) [] 0:=.inl ⟨rfl,rfl,g.dV.symm,rfl,rfl⟩
 have hrd:∀p,¬F0 p→Ds.iM th c.1 p=Ds.iM th m p∧Ds.gu th c.1 p=Ds.gu th m p:=fun p hp=>g.qK.rd p (fun hf=>hp ((T.inv.cov p).2 (.inl hf)))
 have hT:TI th F0 c.1 c.2.1 0 (Bx.bY .or c.2.2.1 c.2.2.2.2.1) c.2.2.2.1 Bx.aJ 0 (lN key op E) [] 0:=⟨ok,rfl,T.f0,hH,I⟩
 exact⟨_,ed2,rfl,0,[],0,hT,Nat.zero_le _,hrd,g.qK.fu,fun p hp=>by cases hp⟩
theorem am6{th:Th}{F0:Int→Prop}{key:ByteArray}{op:Option ByteArray}{m:As}{fu root:Int}{fr fs gn:Ws}{h:Nat}{E:List En}{ps:List Int}{po:Nat}(T:TI th F0 m fu root fr fs gn h E ps po)(hh:h≤14){c:Chg}(hx:c.2.2.2.2.2.2=0){N V rest:List Int}{k0:ByteArray}{h2:Nat}{k:Kd h2}
 (g:afA th key op ⟨m,fu,fr,fs,gn⟩ (stC c) h E ps po c.2.2.2.2.2.1 N V rest k0 h2 [k]):∃r,jv th root fr fs gn c=r∧r.2.2.2.2.2.2=0∧∃h' ps' wU,ye th F0 key op m fu fr ps E po r h' ps' wU:=by
 have kin:k∈[k]:=List.mem_cons_self
 have atj:(c.2.2.2.2.2.1.getD 0 dB).2.1=pg h2 k.2:=by rw[g.l];rfl
 have hb2:h2≤15:=by have:=g.hh;omega
 obtain⟨a,h3,t3,W,b,b2,cc,d1,d2,d3,d4,d5,d6⟩:=vX h2 (s:=stC c) (t:=k.2) (f:=17) (deep:=1) g.qK.ok (g.fr.rep k kin) (g.fr.ok k kin) (g.fr.pg k kin) (by omega) (by omega)
 have ed2:jv th root fr fs gn c=(c.1,c.2.1,pg h3 t3,Bx.bY .or c.2.2.1 (vO th c.1 17 c.2.2.2.1 c.2.2.2.2.1 (pg h2 k.2) 1),vN th c.1 17 c.2.2.2.1 c.2.2.2.2.1 (pg h2 k.2) 1,Bx.aJ,0):=by
  unfold jv nq
  have b':wN th c.1 17 c.2.2.2.1 c.2.2.2.2.1 (pg h2 k.2) 1=pg h3 t3:=b
  have a':wO th c.1 17 c.2.2.2.1 c.2.2.2.2.1 (pg h2 k.2) 1=0:=a
  rw[if_pos ⟨hx,aoz g.l⟩,atj,a',b',if_neg (by simp)]
 have hn:(nm h2 k.2).Perm (N++rest):=by
  have:=g.new
  rw[jD]at this
  exact(List.append_nil (nm h2 k.2))▸this
 obtain⟨I,ok⟩:=ab7 T.f0 (afB T) T.inv g.qK cc g.old hn d4
 have hE:dV h3 t3=lN key op E:=by
  rw[d3,←g.dV,jU]
  exact(List.append_nil _).symm
 have hpo:tm h3 t3≤po+opP op:=by
  have:=g.tm
  rw[ic]at this
  have e0:eR h2 ([]:List (Kd h2))=0:=rfl
  omega
 have hH:aQ th c.1 (pg h3 t3) h3 (lN key op E) (nm h3 t3) (tm h3 t3):=.inr ⟨t3,rfl,b2.1,b2.2,d1,d2,hE.symm,rfl,rfl⟩
 have hrd:∀p,¬F0 p→Ds.iM th c.1 p=Ds.iM th m p∧Ds.gu th c.1 p=Ds.gu th m p:=fun p hp=>g.qK.rd p (fun hf=>hp ((T.inv.cov p).2 (.inl hf)))
 have hT:TI th F0 c.1 c.2.1 (pg h3 t3) (Bx.bY .or c.2.2.1 (vO th c.1 17 c.2.2.2.1 c.2.2.2.2.1 (pg h2 k.2) 1)) (vN th c.1 17 c.2.2.2.1 c.2.2.2.2.1 (pg h2 k.2) 1) Bx.aJ h3 (lN key op E) (nm h3 t3) (tm h3 t3):=⟨ok,rfl,T.f0,hH,I⟩
 exact⟨_,ed2,rfl,h3,nm h3 t3,tm h3 t3,hT,hpo,hrd,g.qK.fu,fun p hp=>(List.mem_append.1 ((hn.mem_iff).1 ((d4.mem_iff).2 (List.mem_append_right _ hp)))).elim (fun x=>.inr (g.qK.sub p x)) (fun x=>.inl ((g.old.mem_iff).2 (List.mem_append_right _ x)))⟩
theorem am7{th:Th}{F0:Int→Prop}{key:ByteArray}{op:Option ByteArray}{m:As}{fu root:Int}{fr fs gn:Ws}{h:Nat}{E:List En}{ps:List Int}{po:Nat}(T:TI th F0 m fu root fr fs gn h E ps po){c:Chg}(hx:c.2.2.2.2.2.2≠0){N V:List Int}(g:aqB th key op ⟨m,fu,fr,fs,gn⟩ (stC c) h E c.2.2.2.2.2.2 N V):
 ∃m' gl e,e≠0∧jv th root fr fs gn c=(m',gl,root,fr,fs,gn,e)∧aqC th key op m fu fr h E m' gl e:=by
 refine⟨c.1,c.2.1,c.2.2.2.2.2.2,hx, ?_,g.qK.ok.d,fun p hp=>g.qK.rd p hp,g.qK.fu, ?_⟩
 ·unfold jv nq
  rw[if_neg (fun a=>hx a.1),if_pos hx]
 ·exact g.how.imp id (fun x=>x.imp (fun y=>⟨y.1,N,g.len,y.2⟩) id)
theorem ag9{th:Th}{F0:Int→Prop}{key:ByteArray}{op:Option ByteArray}{m:As}{fu root:Int}{fr fs gn:Ws}{h:Nat}{E:List En}{ps:List Int}{po:Nat}(T:TI th F0 m fu root fr fs gn h E ps po)(hh:h≤14){c:Chg}
 (H2:(c.2.2.2.2.2.2=0∧qI key op E=0∧∃N V rest k0 h2 F,afA th key op ⟨m,fu,fr,fs,gn⟩ (stC c) h E ps po c.2.2.2.2.2.1 N V rest k0 h2 F)∨(c.2.2.2.2.2.2≠0∧∃N V,aqB th key op ⟨m,fu,fr,fs,gn⟩ (stC c) h E c.2.2.2.2.2.2 N V)):
 ((jv th root fr fs gn c).2.2.2.2.2.2=0∧qI key op E=0∧∃h' ps' wU,ye th F0 key op m fu fr ps E po (jv th root fr fs gn c) h' ps' wU)∨
 (∃m' gl e,e≠0∧jv th root fr fs gn c=(m',gl,root,fr,fs,gn,e)∧aqC th key op m fu fr h E m' gl e):=by
 rcases H2 with⟨hx,hc,N,V,rest,k0,h2,F,g⟩|⟨hx,N,V,g⟩
 ·left
  rcases F with _|⟨k,_|⟨k2,r⟩⟩
  ·obtain⟨r,e,h1,h2⟩:=am5 T hx g
   rw[e];exact⟨h1,hc,h2⟩
  ·obtain⟨r,e,h1,h2⟩:=am6 T hh hx g
   rw[e];exact⟨h1,hc,h2⟩
  ·exact absurd g.one (by simp)
 ·exact .inr (am7 T hx g)
theorem akv{th:Th}{F0:Int→Prop}{key:ByteArray}{op:Option ByteArray}{m:As}{fu root:Int}{fr fs gn:Ws}{h:Nat}{E:List En}{ps:List Int}{po:Nat}(T:TI th F0 m fu root fr fs gn h E ps po)(hk:1≤key.size∧key.size≤24)(hv:∀v,op=some v→v.size≤100)(hh:h≤14):
 ((kf th key op m fu root fr fs gn).2.2.2.2.2.2=0∧qI key op E=0∧∃h' ps' wU,ye th F0 key op m fu fr ps E po (kf th key op m fu root fr fs gn) h' ps' wU)∨
 (∃m' gl e,e≠0∧kf th key op m fu root fr fs gn=(m',gl,root,fr,fs,gn,e)∧aqC th key op m fu fr h E m' gl e):=
 ag9 T hh (am4 (c:=iK th key op m fu root fr fs gn) T.free (aku (s:=⟨m,fu,fr,fs,gn⟩) (key:=key) (op:=op) hk hv T.ok T.holds T.free (by omega)))
end Ts
namespace Ts
open Go Go.Sx Go.Proofs Lf
def rQ{σ:Type}(on:σ→Int→List En→σ):(h:Nat)→TN h→σ→σ
 |0,t,out=>on out t.1 t.2
 |h+1,t,out=>t.2.foldl (fun o k=>rQ on h k.2 o) (on out t.1 [])
theorem ab8{X:List En}{key:ByteArray}(h:∀x∈X,x.1≠key):X.find? (zV key)=none:=by
 rw[List.find?_eq_none]
 intro x hx
 simp[zV,h x hx]
theorem am8{X Y Z:List En}{key:ByteArray}(h1:∀x∈X,slt x.1 key=true)(h2:∀z∈Z,slt key z.1=true):o9 (X++Y++Z) key=o9 Y key∧ni (X++Y++Z) key=ni Y key:=by
 have e1:=ab8 (X:=X) (key:=key) fun x hx e=>by have:=h1 x hx;rw[e,dC]at this;cases this
 have e2:=ab8 (X:=Z) (key:=key) fun x hx e=>by have:=h2 x hx;rw[e,dC]at this;cases this
 have e:(X++Y++Z).find? (zV key)=Y.find? (zV key):=by
  rw[List.find?_append,List.find?_append,e1,e2]
  cases Y.find? (zV key)<;>rfl
 unfold o9 ni
 rw[e]
 exact⟨rfl,rfl⟩
theorem ab9{th:Th}{m:As}{key:ByteArray}:∀(h:Nat) {t:TN h} {f:Nat} {deep:Int},rep th m h t→qc h t→h<f→deep+(h:Int)≤16→zM th m key f (pg h t) deep=(o9 (dV h t) key,ni (dV h t) key,0)
 |0,t,f,deep,hr,ht,hf,hd=>by
  cases f with
  |zero=>omega
  |succ f=>
   have dX:Rd th m (pg 0 t) true t.2 []:=hr
   obtain⟨e1,e2,e3,e4⟩:=dX.nd (deep:=deep) (by omega)
   rw[zM,if_neg (by rw[e1];simp),if_pos e2,e3]
   rfl
 |h+1,t,f,deep,hr,ht,hf,hd=>by
  cases f with
  |zero=>omega
  |succ f=>
   obtain⟨n,Q⟩:=t
   obtain⟨hr1,wy⟩:=(show Rd th m n false [] (Q.map (cH h))∧∀k∈Q,rep th m h k.2 from hr)
   obtain⟨hQ,hQb,jr,bE,y9,hT⟩:=(show Q≠[]∧bR Q=Q∧gq (Q.map (cH h))=true∧mm h Q≤254∧abH h Q∧∀k∈Q,qc h k.2 from ht)
   obtain⟨e1,e2,e3,e4⟩:=hr1.nd (deep:=deep) (by omega)
   obtain⟨A,k,B,eQ,ep,yM,sH⟩:=ab5 (key:=key) hQ hQb jr
   have cg:Q.map (cH h)≠[]:=by cases Q with|nil=>exact absurd rfl hQ|cons q r=>simp
   have egd:(Q.map (cH h)).getD A.length dB=cH h k:=by rw[eQ];simp[List.getD]
   have kin:k∈Q:=by rw[eQ];exact List.mem_append_right _ List.mem_cons_self
   show zM th m key (f+1) n deep=(o9 (bQ h Q) key,ni (bQ h Q) key,0)
   rw[zM,if_neg (by rw[e1];simp),if_neg (by rw[e2];simp),e4,if_neg cg,ep,egd]
   have ih:=ab9 (key:=key) h (f:=f) (deep:=deep+1) (wy k kin) (hT k kin) (by omega) (by omega)
   show zM th m key f (pg h k.2) (deep+1)=_
   rw[ih]
   have sAB:=y9.1
   rw[eQ,List.pairwise_append]at sAB
   have eAk:∀x∈bQ h A,slt x.1 key=true:=fun x hx=>by
    obtain⟨y,hy,hxy⟩:=List.mem_flatMap.1 hx
    exact ei (sAB.2.2 y hy k List.mem_cons_self x hxy) yM
   have eBk:∀x∈bQ h B,slt key x.1=true:=fun x hx=>by
    obtain⟨y,hy,hxy⟩:=List.mem_flatMap.1 hx
    exact ei (sH y hy) (y9.2 y (by rw[eQ];exact List.mem_append_right _ (List.mem_cons_of_mem _ hy)) x hxy)
   have e:bQ h Q=bQ h A++dV h k.2++bQ h B:=by rw[eQ,jC,jU,List.append_assoc]
   obtain⟨f1,f2⟩:=am8 (Y:=dV h k.2) eAk eBk
   rw[e,f1,f2]
theorem atw{th:Th}{m:As}{root:Int}{key:ByteArray}{h:Nat}{E:List En}{ps:List Int}{po:Nat}(H:aQ th m root h E ps po)(hh:h≤15):gtT th m root key=if ie key none=false then(ByteArray.empty,false,1)else(o9 E key,ni E key,0):=by
 unfold gtT
 split
 ·rfl
 ·rcases H with⟨h1,_,h3,_⟩|⟨t,h1,h2,_,h3,h4,h5,_⟩
  ·rw[if_pos h1,h3];rfl
  ·rw[if_neg (by omega),h1,ab9 h h3 h4 (by omega) (by omega),h5]
theorem aca{σ:Type}{g:Ws→σ→Int→Ws×σ×Int}{h:Nat}{step:TN h→σ→σ}:∀(ks:List (Kd h)) {met:Ws} {out:σ},Bx.okW met→
 (∀k∈ks,∀(met:Ws) (out:σ),Bx.okW met→(∀p∈nm h k.2,¬In met p)→∃rR,g met out (pg h k.2)=(rR,step k.2 out,0)∧Bx.okW rR∧∀p,In rR p↔In met p∨p∈nm h k.2)→
 (∀p∈bM h ks,¬In met p)→(bM h ks).Nodup→∃rR,qF g (ks.map (cH h)) met out=(rR,ks.foldl (fun o k=>step k.2 o) out,0)∧Bx.okW rR∧∀p,In rR p↔In met p∨p∈bM h ks
 |[],met,out,hw,hg,hm,hn=>⟨met,rfl,hw,fun p=>⟨.inl,fun x=>x.elim id (fun y=>by cases y)⟩⟩
 |k::r,met,out,hw,hg,hm,hn=>by
  rw[jD]at hm hn
  obtain⟨n1,n2,n3⟩:=List.nodup_append.1 hn
  obtain⟨m1,e1,w1,i1⟩:=hg k List.mem_cons_self met out hw (fun p hp=>hm p (List.mem_append_left _ hp))
  obtain⟨m2,e2,w2,i2⟩:=aca r (met:=m1) (out:=step k.2 out) w1 (fun k' hk'=>hg k' (List.mem_cons_of_mem _ hk')) (fun p hp c9=>by
   rcases(i1 p).1 c9 with a|a
   ·exact hm p (List.mem_append_right _ hp) a
   ·exact n3 p a p hp rfl) n2
  refine⟨m2, ?_,w2,fun p=> ?_⟩
  ·rw[List.map_cons,qF]
   show(if(g met out (pg h k.2)).2.2≠0 then _ else _)=_
   rw[e1,if_neg (by simp)]
   show qF g (r.map (cH h)) (g met out (pg h k.2)).1 (g met out (pg h k.2)).2.1=_
   rw[e1]
   exact e2
  ·rw[i2,i1,jD,List.mem_append,or_assoc]
theorem aha{h:Nat}{ks:List (Kd h)}(hn:(bM h ks).Nodup){k:Kd h}(hk:k∈ks):(nm h k.2).Nodup:=by
 induction ks with
 |nil=>cases hk
 |cons a r ih=>
  rw[jD]at hn
  obtain⟨n1,n2,_⟩:=List.nodup_append.1 hn
  rcases List.mem_cons.1 hk with rfl|hk
  ·exact n1
  ·exact ih n2 hk
theorem vY{σ:Type}{on:σ→Int→List En→σ}{th:Th}{m:As}:∀(h:Nat) {t:TN h} {f:Nat} {deep:Int} {met:Ws} {out:σ},rep th m h t→qc h t→(2≤pg h t∧pg h t<1024)→h<f→deep+(h:Int)≤16→Bx.okW met→(∀p∈nm h t,¬In met p)→(nm h t).Nodup→
 ∃rR,dt on th m f deep met out (pg h t)=(rR,rQ on h t out,0)∧Bx.okW rR∧∀p,In rR p↔In met p∨p∈nm h t
 |0,t,f,deep,met,out,hr,ht,hp,hf,hd,hw,hm,hn=>by
  cases f with
  |zero=>omega
  |succ f=>
   have dX:Rd th m (pg 0 t) true t.2 []:=hr
   obtain⟨e1,e2,e3,e4⟩:=dX.nd (deep:=deep) (by omega)
   have hnm:¬Bx.lG met (pg 0 t)=true:=hm _ (vD 0 t)
   refine⟨Bx.cK met (pg 0 t), ?_,(Bx.fN hw _).1,fun p=> ?_⟩
   ·rw[dt,if_neg (by rw[e1];simp),if_neg hnm,e4,e3];rfl
   ·rw[nM hw (by omega)]
    show _↔In met p∨p∈[t.1]
    rw[List.mem_singleton];rfl
 |h+1,t,f,deep,met,out,hr,ht,hp,hf,hd,hw,hm,hn=>by
  cases f with
  |zero=>omega
  |succ f=>
   obtain⟨n,Q⟩:=t
   obtain⟨hr1,wy⟩:=(show Rd th m n false [] (Q.map (cH h))∧∀k∈Q,rep th m h k.2 from hr)
   obtain⟨hQ,hQb,jr,bE,y9,hT⟩:=(show Q≠[]∧bR Q=Q∧gq (Q.map (cH h))=true∧mm h Q≤254∧abH h Q∧∀k∈Q,qc h k.2 from ht)
   obtain⟨e1,e2,e3,e4⟩:=hr1.nd (deep:=deep) (by omega)
   have hp:2≤n∧n<1024:=hp
   have hm:∀p∈n::bM h Q,¬In met p:=hm
   have hn:(n::bM h Q).Nodup:=hn
   obtain⟨hn1,tI⟩:=List.nodup_cons.1 hn
   have hnm:¬Bx.lG met n=true:=hm n List.mem_cons_self
   have iw:=fun p=>nM (k:=p) hw (n:=n) (by omega)
   obtain⟨m2,ee,w2,i2⟩:=aca (g:=dt on th m f (deep+1)) (step:=rQ on h) Q (met:=Bx.cK met n) (out:=on out n []) (Bx.fN hw n).1
    (fun k hk met out hw hm=>by
      have hkn:(nm h k.2).Nodup:=by
       exact aha tI hk
      exact vY h (wy k hk) (hT k hk) ((fO.1 jr).1 (cH h k) (List.mem_map_of_mem hk)).2 (by omega) (by omega) hw hm hkn)
    (fun p jV c9=>by
      rcases(iw p).1 c9 with a|a
      ·exact hm p (List.mem_cons_of_mem _ jV) a
      ·exact hn1 (by rw[←a];exact jV)) tI
   refine⟨m2, ?_,w2,fun p=> ?_⟩
   ·show dt on th m (f+1) deep met out n=_
    rw[dt,if_neg (by rw[e1];simp),if_neg hnm,e4,e3]
    exact ee
   ·rw[i2,iw]
    show _↔In met p∨p∈n::bM h Q
    rw[List.mem_cons,or_assoc]
theorem akw(from_:ByteArray):∀(h:Nat) (t:TN h) (out:List En),rQ (qG from_) h t out=out++(dV h t).filter (ow from_)
 |0,t,out=>rfl
 |h+1,t,out=>by
  obtain⟨n,Q⟩:=t
  show Q.foldl (fun o k=>rQ (qG from_) h k.2 o) (out++[])=out++(bQ h Q).filter (ow from_)
  rw[List.append_nil]
  clear n
  induction Q generalizing out with
  |nil=>simp[bQ]
  |cons k r ih=>
   rw[List.foldl_cons,ih,akw from_ h,jU,List.filter_append,List.append_assoc]
theorem afC{h:Nat}(H:∀(t:TN h) (out:Ws),Bx.okW out→qc h t→(2≤pg h t∧pg h t<1024)→Bx.okW (rQ nZ h t out)∧∀p,In (rQ nZ h t out) p↔In out p∨p∈nm h t):
 ∀(ks:List (Kd h)) (out:Ws),Bx.okW out→(∀k∈ks,qc h k.2∧(2≤pg h k.2∧pg h k.2<1024))→Bx.okW (ks.foldl (fun o k=>rQ nZ h k.2 o) out)∧∀p,In (ks.foldl (fun o k=>rQ nZ h k.2 o) out) p↔In out p∨p∈bM h ks
 |[],out,hw,_=>⟨hw,fun p=>⟨.inl,fun x=>x.elim id (fun y=>by cases y)⟩⟩
 |k::r,out,hw,hk=>by
  obtain⟨a,b⟩:=hk k List.mem_cons_self
  obtain⟨w1,i1⟩:=H k.2 out hw a b
  obtain⟨w2,i2⟩:=afC H r _ w1 (fun k' hk'=>hk k' (List.mem_cons_of_mem _ hk'))
  refine⟨w2,fun p=> ?_⟩
  rw[List.foldl_cons,i2,i1,jD,List.mem_append,or_assoc]
theorem aqE(h:Nat):∀(t:TN h) (out:Ws),Bx.okW out→qc h t→(2≤pg h t∧pg h t<1024)→Bx.okW (rQ nZ h t out)∧∀p,In (rQ nZ h t out) p↔In out p∨p∈nm h t:=by
 induction h with
 |zero=>
  intro t out hw ht hp
  have hp:2≤t.1∧t.1<1024:=hp
  refine⟨(Bx.fN hw _).1,fun p=> ?_⟩
  show In (Bx.cK out t.1) p↔_
  rw[nM hw (by omega)]
  show _↔In out p∨p∈[t.1]
  rw[List.mem_singleton]
 |succ h ih=>
  intro t out hw ht hp
  obtain⟨n,Q⟩:=t
  have hp:2≤n∧n<1024:=hp
  obtain⟨hQ,hQb,jr,bE,y9,hT⟩:=(show Q≠[]∧bR Q=Q∧gq (Q.map (cH h))=true∧mm h Q≤254∧abH h Q∧∀k∈Q,qc h k.2 from ht)
  have hpk:∀k∈Q,2≤pg h k.2∧pg h k.2<1024:=fun k hk=>((fO.1 jr).1 (cH h k) (List.mem_map_of_mem hk)).2
  obtain⟨w,i⟩:=afC ih Q (Bx.cK out n) (Bx.fN hw n).1 (fun k hk=>⟨hT k hk,hpk k hk⟩)
  have e:rQ nZ (h+1) ((n,Q):TN (h+1)) out=Q.foldl (fun o k=>rQ nZ h k.2 o) (Bx.cK out n):=rfl
  have e2:nm (h+1) ((n,Q):TN (h+1))=n::bM h Q:=rfl
  rw[e,e2]
  refine⟨w,fun p=> ?_⟩
  rw[i,nM hw (by omega),List.mem_cons,or_assoc]
theorem yf{th:Th}{m:As}{root:Int}{h:Nat}{E:List En}{ps:List Int}{po:Nat}(H:aQ th m root h E ps po)(hn:ps.Nodup)(hh:h≤15)(from_:ByteArray):lsE th m root from_=0∧lsF th m root from_=E.filter (ow from_):=by
 have key:yb (qG from_) th m root []=(E.filter (ow from_),0):=by
  unfold yb
  rcases H with⟨h1,_,h3,_⟩|⟨t,h1,h2,h22,h3,h4,h5,h6,_⟩
  ·rw[if_pos h1,h3];rfl
  ·subst h5 h6
   obtain⟨rR,e,_⟩:=vY (on:=qG from_) h (f:=17) (deep:=1) (met:=Bx.aJ) (out:=[]) h3 h4 (by omega) (by omega) (by omega) Bx.dF.1 (fun p _=>dr) hn
   rw[if_neg (by omega),h1,e,akw];rfl
 have e1:lsE th m root from_=0:=by unfold lsE;rw[key]
 refine⟨e1, ?_⟩
 unfold lsF
 rw[if_neg (by rw[e1];simp)]
 unfold lsT
 rw[key]
theorem vZ{th:Th}{m:As}{root:Int}{h:Nat}{E:List En}{ps:List Int}{po:Nat}(H:aQ th m root h E ps po)(hn:ps.Nodup)(hh:h≤15):pgE th m root=0∧Bx.okW (vV th m root)∧∀p,In (vV th m root) p↔p∈ps:=by
 have key:(yb nZ th m root Bx.aJ).2=0∧Bx.okW (yb nZ th m root Bx.aJ).1∧∀p,In (yb nZ th m root Bx.aJ).1 p↔p∈ps:=by
  unfold yb
  rcases H with⟨h1,_,_,h4,_⟩|⟨t,h1,h2,h22,h3,h4,h5,h6,_⟩
  ·rw[if_pos h1,h4]
   exact⟨rfl,Bx.dF.1,fun p=>⟨fun x=>absurd x dr,fun x=>by cases x⟩⟩
  ·subst h5 h6
   obtain⟨rR,e,_⟩:=vY (on:=nZ) h (f:=17) (deep:=1) (met:=Bx.aJ) (out:=Bx.aJ) h3 h4 (by omega) (by omega) (by omega) Bx.dF.1 (fun p _=>dr) hn
   obtain⟨w,i⟩:=aqE h t Bx.aJ Bx.dF.1 h4 (by omega)
   rw[if_neg (by omega),h1,e]
   exact⟨rfl,w,fun p=>by rw[i];exact⟨fun x=>x.elim (fun y=>absurd y dr) id,.inr⟩⟩
 have e1:pgE th m root=0:=key.1
 refine⟨e1, ?_⟩
 unfold vV
 rw[if_neg (by rw[e1];simp)]
 exact key.2
end Ts
namespace Ts
open Go Go.Sx Go.Proofs Lf
theorem yg{α:Type}[DecidableEq α]:∀{l m:List α},l.Nodup→(∀x∈l,x∈m)→l.length≤m.length
 |[],m,_,_=>Nat.zero_le _
 |a::l,m,hn,hs=>by
  obtain⟨h1,h2⟩:=List.nodup_cons.1 hn
  have ha:=hs a List.mem_cons_self
  have:=yg (l:=l) (m:=m.erase a) h2 fun x hx=>(List.mem_erase_of_ne (fun e=>h1 (by rw[←e];exact hx))).2 (hs x (List.mem_cons_of_mem _ hx))
  rw[List.length_erase_of_mem ha]at this
  have:=List.length_pos_of_mem ha
  rw[List.length_cons]
  omega
theorem akx{ws:Ws}{k:Nat}:k∈Bx.ajp ws↔k<1024∧Bx.bit ws k=true:=by
 unfold Bx.ajp Bx.fr
 rw[List.mem_filter,List.mem_range]
theorem adN(ws:Ws):(Bx.ajp ws).Nodup:=List.Pairwise.filter _ List.nodup_range
theorem afD{ws:Ws}(hw:Bx.okW ws){N:List Int}(h:∀p,In ws p→p∈N):iV ws≤N.length:=by
 unfold iV
 rw[←List.length_map (f:=fun(k:Nat)=>(k:Int))]
 refine yg ?_ fun x hx=> ?_
 ·unfold List.Nodup
  rw[List.pairwise_map]
  exact(adN ws).imp fun h e=>h (by omega)
 ·obtain⟨k,hk,rfl⟩:=List.mem_map.1 hx
  obtain⟨a,b⟩:=akx.1 hk
  exact h _ ((er hw).2 ⟨⟨by omega,by omega⟩,by rw[Int.toNat_natCast];exact b⟩)
theorem ahb{a b c:Ws}(ha:Bx.okW a)(hb:Bx.okW b)(hc:Bx.okW c)(h:∀p,In c p↔In a p∨In b p)(hd:∀p,In a p→¬In b p):iV c=iV a+iV b:=by
 have bits:∀k,k<1024→Bx.bit c k=(Bx.bit a k||Bx.bit b k)∧¬(Bx.bit a k=true∧Bx.bit b k=true):=fun k hk=>by
  have hr:(0:Int)≤(k:Int)∧(k:Int)<1024:=⟨by omega,by omega⟩
  have e:∀{ws:Ws},Bx.okW ws→(In ws (k:Int)↔Bx.bit ws k=true):=fun hw=>by
   rw[er hw,Int.toNat_natCast];exact⟨fun x=>x.2,fun x=>⟨hr,x⟩⟩
  have h1:=h (k:Int)
  have h2:=hd (k:Int)
  rw[e ha,e hb]at h1
  rw[e hc]at h1
  rw[e ha,e hb]at h2
  refine⟨?_,fun x=>h2 x.1 x.2⟩
  cases e1:Bx.bit a k<;>cases e2:Bx.bit b k<;>cases e3:Bx.bit c k<;>simp[e1,e2,e3]at h1 ⊢
 have key:∀m,m≤1024→(Bx.fr (Bx.bit c) m).length=(Bx.fr (Bx.bit a) m).length+(Bx.fr (Bx.bit b) m).length:=by
  intro m
  induction m with
  |zero=>intro _;rfl
  |succ m ih=>
   intro hm
   obtain⟨b1,b2⟩:=bits m (by omega)
   have:=ih (by omega)
   rw[Bx.qp,Bx.qp,Bx.qp,List.length_append,List.length_append,List.length_append,b1]
   cases e1:Bx.bit a m<;>cases e2:Bx.bit b m<;>simp[e1,e2]at b2 ⊢ <;>omega
 exact key 1024 (Nat.le_refl _)
theorem TI.cnt{th:Th}{F0:Int→Prop}{m:As}{fu root:Int}{fr fs gn:Ws}{h:Nat}{E:List En}{ps:List Int}{po:Nat}(T:TI th F0 m fu root fr fs gn h E ps po){f0:Ws}(hw:Bx.okW f0)(hf:∀p,In f0 p↔F0 p):iV f0=iV fr+iV fs∧iV fs≤ps.length:=
 ⟨ahb T.ok.fr T.ok.fs hw (fun p=>by rw[hf,T.inv.cov]) T.inv.dis,afD T.ok.fs T.inv.sub⟩
theorem adO{E:List En}{key v:ByteArray}:(bt E key v).length≤E.length+1:=by rw[zv];split<;>omega
theorem adP{E:List En}{key:ByteArray}{op:Option ByteArray}:(lN key op E).length≤E.length+(match op with|some _=>1|none=>0):=by
 cases op with
 |some v=>exact adO
 |none=>exact List.length_filter_le _ _
end Ts
namespace Ts
open Go Go.Sx Go.Proofs Lf
structure auR (th:Th) (key:ByteArray) (op:Option ByteArray) (m:As) (fu:Int) (fr:Ws) (h:Nat) (E:List En) (m':As) (gl e:Int):Prop where
 d:Ds.bI th m' gl
 rd:∀p,¬In fr p→Ds.iM th m' p=Ds.iM th m p∧Ds.gu th m' p=Ds.gu th m p
 fu:fu= -1→gl= -1
 how:(ie key op=false∧e=1)∨(ie key op=true∧((e=5∧qI key op E=5)∨(e=41∧iV fr≤2*h+3)∨(e=42∧gl=0)))
theorem aky{key:ByteArray}{op:Option ByteArray}:ie key op=true↔(1≤key.size∧key.size≤24)∧∀v,op=some v→v.size≤100:=by
 cases op with
 |none=>
  simp only[ie,Bool.and_eq_true,decide_eq_true_eq]
  exact⟨fun h=>⟨h,fun v e=>by cases e⟩,fun h=>h.1⟩
 |some v=>
  simp only[ie,Bool.and_eq_true,decide_eq_true_eq]
  exact⟨fun h=>⟨h.1,fun w e=>by cases e;exact h.2⟩,fun h=>⟨h.1,h.2 v rfl⟩⟩
theorem am9{th:Th}{F0:Int→Prop}{key:ByteArray}{op:Option ByteArray}{m:As}{fu root:Int}{fr fs gn:Ws}{h:Nat}{E:List En}{ps:List Int}{po:Nat}(T:TI th F0 m fu root fr fs gn h E ps po)(hh:h≤14):
 ((vT th key op m fu root fr fs gn).2.2.2.2.2.2=0∧ie key op=true∧qI key op E=0∧∃h' ps' wU,ye th F0 key op m fu fr ps E po (vT th key op m fu root fr fs gn) h' ps' wU)∨
 (∃m' gl e,e≠0∧vT th key op m fu root fr fs gn=(m',gl,root,fr,fs,gn,e)∧auR th key op m fu fr h E m' gl e):=by
 by_cases hk:ie key op=true
 ·rw[zL hk]
  obtain⟨k1,k2⟩:=aky.1 hk
  rcases akv (key:=key) (op:=op) T k1 k2 hh with⟨a,b,c⟩|⟨m',gl,e,a,b,c⟩
  ·exact .inl ⟨a,hk,b,c⟩
  ·refine .inr ⟨m',gl,e,a,b,c.d,c.rd,c.fu,.inr ⟨hk, ?_⟩⟩
   rcases c.how with x|⟨x,N,y,z⟩|x
   ·exact .inl x
   ·exact .inr (.inl ⟨x,Nat.le_trans (afD T.ok.fr z) y⟩)
   ·exact .inr (.inr x)
 ·have hk:ie key op=false:=by simpa using hk
  exact .inr ⟨m,fu,1,by decide,adI hk,T.ok.d,fun p _=>⟨rfl,rfl⟩,id,.inl ⟨hk,rfl⟩⟩
theorem acb{th:Th}{m m':As}:∀(h:Nat) {t:TN h},rep th m h t→(∀p∈nm h t,Ds.iM th m' p=Ds.iM th m p∧Ds.gu th m' p=Ds.gu th m p)→rep th m' h t
 |0,t,hr,hp=>Rd.same hr (hp _ (vD 0 t))
 |h+1,t,hr,hp=>⟨Rd.same hr.1 (hp _ (vD (h+1) t)),fun k hk=>acb h (hr.2 k hk) fun p jV=>hp p (List.mem_cons_of_mem _ (List.mem_flatMap.2 ⟨k,hk,jV⟩))⟩
theorem aQ.same{th:Th}{m m':As}{root:Int}{h:Nat}{E:List En}{ps:List Int}{po:Nat}(H:aQ th m root h E ps po)(hp:∀p∈ps,Ds.iM th m' p=Ds.iM th m p∧Ds.gu th m' p=Ds.gu th m p):aQ th m' root h E ps po:=by
 rcases H with H|⟨t,h1,h2,h22,h3,h4,h5,h6,h7⟩
 ·exact .inl H
 ·subst h6
  exact .inr ⟨t,h1,h2,h22,acb h h3 hp,h4,h5,rfl,h7⟩
theorem TI.eH{th:Th}{F0:Int→Prop}{m m':As}{fu gl root:Int}{fr fs gn:Ws}{h:Nat}{E:List En}{ps:List Int}{po:Nat}(T:TI th F0 m fu root fr fs gn h E ps po)(hd:Ds.bI th m' gl)(hr:∀p,¬In fr p→Ds.iM th m' p=Ds.iM th m p∧Ds.gu th m' p=Ds.gu th m p):
 TI th F0 m' gl root fr fs gn h E ps po:=⟨⟨hd,T.ok.fr,T.ok.fs,T.ok.gn,T.ok.pg⟩,T.gz,T.f0,T.holds.same fun p hp=>hr p (T.free p hp),T.inv⟩
theorem akz{th:Th}{free:Ws}(hw:Bx.okW free):Bx.okW (zZ th free):=(Bx.jS (.inr (.inl rfl)) hw (Bx.jS (.inr (.inr rfl)) (Bx.dq _).1 (Bx.dq _).1).1).1
theorem akA{th:Th}{free:Ws}(hw:Bx.okW free){p:Int}:In (zZ th free) p↔In free p∧2≤p∧p<Ds.wb th:=by
 unfold zZ
 rw[ap8 hw (Bx.jS (.inr (.inr rfl)) (Bx.dq _).1 (Bx.dq _).1).1,tk (Bx.dq _).1 (Bx.dq _).1,abE,abE]
 constructor
 ·rintro⟨a,⟨b,c⟩,d⟩
  exact⟨a,by omega,c⟩
 ·rintro⟨a,b,c⟩
  have:=nk hw a
  exact⟨a,⟨by omega,c⟩,by omega⟩
theorem TI.start{th:Th}{m:As}{fu:Int}{free:Ws}(hd:Ds.bI th m fu)(hw:Bx.okW free):TI th (In (zZ th free)) m fu 0 (zZ th free) Bx.aJ Bx.aJ 0 [] [] 0:=by
 have f0:∀p,In (zZ th free) p→2≤p∧Ds.s9 th p=true:=fun p hp=>by
  obtain⟨_,a,b⟩:=(akA hw).1 hp
  exact⟨a,Ds.fy.2 ⟨by omega,b⟩⟩
 exact⟨⟨hd,akz hw,Bx.dF.1,Bx.dF.1,f0⟩,rfl,f0,.inl ⟨rfl,rfl,rfl,rfl,rfl⟩,⟨List.nodup_nil,fun p=>⟨.inl,fun x=>x.elim id (fun y=>absurd y dr)⟩,fun p _=>dr,fun p hp=>absurd hp dr,fun p hp=>by cases hp⟩⟩
theorem TI.rng{th:Th}{F0:Int→Prop}{m:As}{fu root:Int}{fr fs gn:Ws}{h:Nat}{E:List En}{ps:List Int}{po:Nat}(T:TI th F0 m fu root fr fs gn h E ps po):0≤root∧root≤65536:=by
 rcases T.holds with⟨h1,_⟩|⟨t,_,h2,h3,_⟩<;>omega
theorem ana(e:En):ow ByteArray.empty e=true:=by unfold ow;rw[gk];rfl
theorem filter_all(l:List En):l.filter (ow ByteArray.empty)=l:=List.filter_eq_self.2 fun e _=>ana e
theorem TI.small{th:Th}{F0:Int→Prop}{m:As}{fu root:Int}{fr fs gn:Ws}{h:Nat}{E:List En}{ps:List Int}{po:Nat}(T:TI th F0 m fu root fr fs gn h E ps po)(hp:po≤100000):h≤14:=T.holds.aqD (by have:19*3^15=272629233:=rfl;omega)
end Ts
namespace Ts
open Go Go.Sx Go.Proofs Lf
section
variable{th:Th}{F0:Int→Prop}{m:As}{fu root:Int}{fr fs gn:Ws}{h:Nat}{E:List En}{ps:List Int}{po:Nat}
theorem aQ.zero(H:aQ th m root h E ps po):(root=0↔E=[])∧(E=[]→ps=[]):=by
 rcases H with⟨a,_,e,p,_⟩|⟨t,_,h2,_,_,h4,h5,_⟩
 ·exact⟨⟨fun _=>e,fun _=>a⟩,fun _=>p⟩
 ·have:=qx h h4
  rw[←h5]at this
  exact⟨⟨fun x=>by omega,fun x=>absurd x this⟩,fun x=>absurd x this⟩
end
abbrev thB:Th:=cz 1000
theorem xE:Ds.wb thB=250:=by
 unfold Ds.wb
 rw[show thB.length=1000 from List.length_replicate ..];rfl
theorem TI.none{th:Th}{f0:Ws}{m:As}{fu root:Int}{fr fs gn:Ws}{h:Nat}{ps:List Int}{po:Nat}(hw:Bx.okW f0)(T:TI th (In f0) m fu root fr fs gn h [] ps po):root=0∧ps=[]∧fs=Bx.aJ∧iV fr=iV f0:=by
 obtain⟨a,b⟩:=T.holds.zero
 have hps:=b rfl
 subst hps
 have hfs:fs=Bx.aJ:=rH T.ok.fs Bx.dF.1 fun k=>⟨fun x=>(by have:=T.inv.sub k x;cases this),fun x=>absurd x dr⟩
 obtain⟨c1,c2⟩:=T.cnt hw fun p=>Iff.rfl
 exact⟨a.2 rfl,rfl,hfs,by simp only[List.length_nil]at c2;omega⟩
end Ts
namespace Ts
open Go Go.Sx Go.Proofs Lf
section
variable{th:Th}{F0:Int→Prop}{m:As}{fu root:Int}{fr fs gn:Ws}{h:Nat}{E:List En}{ps:List Int}{po:Nat}
theorem ahc(T:TI th F0 m fu root fr fs gn h E ps po)(hh:h≤15)(ho:∀p∈ps,F0 p):pgE th m root=0∧vV th m root=fs:=by
 obtain⟨e,a,b⟩:=vZ T.holds T.inv.nd hh
 exact⟨e,rH a T.ok.fs fun p=>(b p).trans ⟨fun x=>T.inv.top p x (ho p x),T.inv.sub p⟩⟩
theorem grown{key:ByteArray}{op:Option ByteArray}{r:Chs}{h':Nat}{ps':List Int}{wU:Nat}(T:TI th F0 m fu root fr fs gn h E ps po)(G:ye th F0 key op m fu fr ps E po r h' ps' wU){B:Int→Prop}(ho:∀p∈ps,B p∨F0 p):∀p∈ps',B p∨F0 p:=
 fun p hp=>(G.new p hp).elim (ho p) fun x=>.inr ((T.inv.cov p).2 (.inl x))
theorem aqF(T:TI th F0 m fu root fr fs gn h E ps po):TI th (In fr) m fu root fr Bx.aJ Bx.aJ h E ps po:=by
 have f0:∀p,In fr p→2≤p∧Ds.s9 th p=true:=fun p hp=>T.f0 p ((T.inv.cov p).2 (.inl hp))
 exact⟨⟨T.ok.d,T.ok.fr,Bx.dF.1,Bx.dF.1,f0⟩,rfl,f0,T.holds,⟨T.inv.nd,fun p=>⟨.inl,fun x=>x.elim id (fun y=>absurd y dr)⟩,fun p _=>dr,fun p hp=>absurd hp dr,fun p hp hf=>absurd hf (T.free p hp)⟩⟩
theorem akB(T:TI th F0 m fu root fr fs gn h E ps po):zZ th fr=fr:=rH (akz T.ok.fr) T.ok.fr fun p=>by
 rw[akA T.ok.fr]
 exact⟨fun x=>x.1,fun x=>⟨x,by obtain⟨a,b⟩:=T.f0 p ((T.inv.cov p).2 (.inl x));exact⟨a,(Ds.fy.1 b).2⟩⟩⟩
theorem akC{f st:Ws}(kD:Bx.okW st)(hf:Bx.okW f)(T:TI th (In f) m fu root fr fs gn h E ps po)(hh:h≤15)(hd:∀p,In st p→¬In f p)(ho:∀p∈ps,In st p∨In f p):
 pgE th m root=0∧Bx.okW (vV th m root)∧Bx.bY .andNot (vV th m root) st=fs∧fr=Bx.bY .andNot f fs∧Bx.bY .andNot fs f=Bx.aJ:=by
 obtain⟨e,a,b⟩:=vZ T.holds T.inv.nd hh
 refine⟨e,a,rH (Bx.jS (.inr (.inr rfl)) a kD).1 T.ok.fs fun p=> ?_,rH T.ok.fr (Bx.jS (.inr (.inr rfl)) hf T.ok.fs).1 fun p=> ?_,rH (Bx.jS (.inr (.inr rfl)) T.ok.fs hf).1 Bx.dF.1 fun p=> ?_⟩
 ·rw[tk a kD,b]
  exact⟨fun x=>T.inv.top p x.1 ((ho p x.1).resolve_left x.2),fun x=>⟨T.inv.sub p x,fun y=>hd p y ((T.inv.cov p).2 (.inr x))⟩⟩
 ·rw[tk hf T.ok.fs]
  exact⟨fun x=>⟨(T.inv.cov p).2 (.inl x),T.inv.dis p x⟩,fun x=>((T.inv.cov p).1 x.1).resolve_right x.2⟩
 ·rw[tk T.ok.fs hf]
  exact⟨fun x=>absurd ((T.inv.cov p).2 (.inr x.1)) x.2,fun x=>absurd x dr⟩
end
end Ts
namespace Ts
open Go Go.Sx Go.Proofs Lf
def mLg:List AV→RM (List (CL kL)×List Nat)
 |[.s (.ro (.ae [.int .u8,.str,.str] l))]=>.ret (l,[])
 |_=>.fail "no steps"
abbrev atk:=dm sLg mLg
abbrev atl:=bU [bo] [bo] (fun _=>[]) (fun(p,())=>(n6 p,()))
abbrev atm:=dm sLs mGt
abbrev atn:=dm sPg mT
abbrev auS:=bU [nU,nU,dG] [ch] (fun(l,qJ,from_,())=>[(qJ:List En)=List.filter (ow from_) l,(l:List En).length≤100000]) (fun _=>(true,()))
def ato:List AV→RM (XS×List Nat)
 |[.agg [.s (.int _ k),.s (.str key),.s (.str val)],t]=>(mT [t]).bind fun(X,σ)=>.ret ((X,k,key,val),σ)
 |_=>.fail "no step"
abbrev atp:=dm sDo ato
def yh:aG:=[(8,auH),(9,atk),(17,atl),(10,aox),(14,atp),(12,atm),(18,atn),(19,asH),(20,aow),(22,aov),(21,aot),(23,aou),(13,auS)]
abbrev hL(th:Th)(m:As)(fu root:Int)(fr fs gn:Ws):List ad:=[Ds.obD 2 3 fu,obT 0 root fr fs gn,.vec (.ae Ds.cS th) Ds.eS,.map Ds.kS m]
abbrev hO(th:Th)(m:As)(fu root:Int)(fr fs gn:Ws)(old:List En)(st f0:Ws)(cD:Int)(oT kq qL:Ws):List ad:=[Ds.obD 6 7 fu,obT 0 root fr fs gn,.vec (.ae cE old) Lf.eE,.own [.ints .u64 16 st] eSt,.own [.ints .u64 16 f0] eSt,obT 0 cD oT kq qL,.vec (.ae Ds.cS th) Ds.eS,.map Ds.kS m]
def akD:List (Nat×Norm):=[(6,⟨[],[1,2,8,9,10],0,[]⟩),(9,⟨[],[2,8,9],0,[]⟩),(16,⟨[],[2,8,9,11,13,15,16,17],0,[]⟩),(19,⟨[],[2,8,9,11,13,15,16,17],0,[]⟩)]
noncomputable def cOl(l l2:List (CL kL))(th:Th)(m:As)(fu root:Int)(fr fs gn:Ws)(i:Int):bz:=⟨sl 141 [(1,gO l),(2,gO l2),(8,.ptr 0 0),(9,.ptr 1 0),(10,bJ i)],hL th m fu root fr fs gn,hd Tryd.f4 6,{}⟩
noncomputable def auT(l2:List (CL kL))(th:Th)(m:As)(fu root:Int)(fr fs gn:Ws):bz:=⟨sl 141 [(2,gO l2),(8,.ptr 0 0),(9,.ptr 1 0)],hL th m fu root fr fs gn,hr Tryd.f4 9,{}⟩
noncomputable def akE(l2:List (CL kL))(th:Th)(m:As)(fu root:Int)(fr fs gn:Ws)(old:List En)(st f0:Ws)(cD:Int)(oT kq qL:Ws)(i:Int):bz:=⟨sl 141 [(2,gO l2),(8,.ptr 0 0),(9,.ptr 1 0),(11,.vec 2),(13,.ptr 3 0),(15,.ptr 4 0),(16,.ptr 5 0),(17,bJ i)],hO th m fu root fr fs gn old st f0 cD oT kq qL,hd Tryd.f4 16,{}⟩
noncomputable def atq(l2:List (CL kL))(th:Th)(m:As)(fu root:Int)(fr fs gn:Ws)(old:List En)(st f0:Ws)(cD:Int)(oT kq qL:Ws)(i:Int):bz:=⟨sl 141 [(2,gO l2),(8,.ptr 0 0),(9,.ptr 1 0),(11,.vec 2),(13,.ptr 3 0),(15,.ptr 4 0),(16,.ptr 5 0),(17,bJ i)],hO th m fu root fr fs gn old st f0 cD oT kq qL,hr Tryd.f4 19,{}⟩
theorem auU(lL:Int)(l l2:List (CL kL)):run P yh.sum Tryd.f4 akD (start Tryd.f4 [bJ lL,gO l,gO l2] [])=
 Tree.ite false (.ret [] (.s (.bool true))) (.need (bu (some [AV.s (.ro (.ae kL l))])) (.need aez (.need (l.length≤9223372036854775807) (.both True (l.length - (90:Nat)=0) (.ret [] (.s (.bool true))) (.need (bu (some [AV.s (.ro (.ae kL l2))])) (.need aez (.need (l2.length≤9223372036854775807) (.both True (l2.length - (90:Nat)=0) (.ret [] (.s (.bool true))) (.need ((4:Int)≠0) (.need (aD ((n6 lL).tdiv 4)) (.need (bu (some [AV.s (.int .i64 ((n6 lL).tdiv 4))])) (.need aez (.need ((3:Int)≤(n6 lL).tdiv (4:Int)∧(n6 lL).tdiv (4:Int)≤250) (.at (.mk (sl 141 [(1,.s (.ro (.ae kL l))),(2,.s (.ro (.ae kL l2))),(8,.ptr 0 0),(9,.ptr 1 0),(10,.s (.int .i64 0))]) [.own [.vec 2,.ag 3,.s (.int .i64 (-1))] 96,.own [.ptr 0 0,.s (.int .i64 0),.ints .u64 16 (zZ (cz ((4:Int)*(n6 lL).tdiv 4)) (Bx.cf ((n6 lL).tdiv 4))),.ints .u64 16 Bx.aJ,.ints .u64 16 Bx.aJ] 70,.vec (.ae [.arr .u8 64] (cz ((4:Int)*(n6 lL).tdiv 4))) 138,.map (.arr .u8 64) []] (hd Tryd.f4 6) (.mk none false 0 [] 0)))))))))))))))):=by kernel_rfl
theorem atr(l l2:List (CL kL))(th:Th)(m:As)(fu root:Int)(fr fs gn:Ws)(i:Int):run P yh.sum Tryd.f4 akD (cOl l l2 th m fu root fr fs gn i)=
 Tree.ite (decide (i<(↑l.length:Int))) (.need ((0:Int)≤i) (.need (i<(↑l.length:Int)) (.need (bu (some [AV.agg [.s (.int .u8 (stK (el l i))),.s (.str (stA (el l i))),.s (.str (stV (el l i)))],.ptr 0 0])) (.need (bu (some [ad.own [.ptr 1 0,.s (.int .i64 root),.ints .u64 16 fr,.ints .u64 16 fs,.ints .u64 16 gn] 70,.own [.vec 2,.ag 3,.s (.int .i64 fu)] 96,.vec (.ae [.arr .u8 64] th) 138,.map (.arr .u8 64) m])) (.need (Ds.bI th m fu) (.need (Bx.okW fr) (.need ((0:Int)≤root∧root≤65536) (.need (aD (i+1)) (.at (.mk (sl 141 [(1,.s (.ro (.ae kL l))),(2,.s (.ro (.ae kL l2))),(8,.ptr 0 0),(9,.ptr 1 0),(10,.s (.int .i64 (i+1)))]) [.own [.vec 2,.ag 3,.s (.int .i64 (do1 th (stK (el l i)) (stA (el l i)) (stV (el l i)) m fu root fr fs gn))] 96,.own [.ptr 0 0,.s (.int .i64 (doR th (stK (el l i)) (stA (el l i)) (stV (el l i)) m fu root fr fs gn)),.ints .u64 16 (do2 th (stK (el l i)) (stA (el l i)) (stV (el l i)) m fu root fr fs gn),.ints .u64 16 (do3 th (stK (el l i)) (stA (el l i)) (stV (el l i)) m fu root fr fs gn),.ints .u64 16 (do4 th (stK (el l i)) (stA (el l i)) (stV (el l i)) m fu root fr fs gn)] 70,.vec (.ae [.arr .u8 64] th) 138,.map (.arr .u8 64) (do0 th (stK (el l i)) (stA (el l i)) (stV (el l i)) m fu root fr fs gn)] (hd Tryd.f4 6) (.mk none false 0 [] 0))))))))))) (.at (.mk (sl 141 [(2,.s (.ro (.ae kL l2))),(8,.ptr 0 0),(9,.ptr 1 0)]) [.own [.vec 2,.ag 3,.s (.int .i64 fu)] 96,.own [.ptr 0 0,.s (.int .i64 root),.ints .u64 16 fr,.ints .u64 16 fs,.ints .u64 16 gn] 70,.vec (.ae [.arr .u8 64] th) 138,.map (.arr .u8 64) m] (hr Tryd.f4 9) (.mk none false 0 [] 0))):=by kernel_rfl
theorem ats(l2:List (CL kL))(th:Th)(m:As)(fu root:Int)(fr fs gn:Ws):run P yh.sum Tryd.f4 akD (auT l2 th m fu root fr fs gn)=
 Tree.need (bu (some [AV.ptr 0 0,.s (.str ByteArray.empty)]))
 (.need (bu (some [ad.own [.ptr 1 0,.s (.int .i64 root),.ints .u64 16 fr,.ints .u64 16 fs,.ints .u64 16 gn] 70,.own [.vec 2,.ag 3,.s (.int .i64 fu)] 96,.vec (.ae [.arr .u8 64] th) 138,.map (.arr .u8 64) m]))
   (.need (Ds.bI th m fu)
     (.need ((0:Int)≤root∧root≤65536)
       (.need (bu (some [AV.ptr 0 0]))
         (.need (bu (some [ad.own [.ptr 1 0,.s (.int .i64 root),.ints .u64 16 fr,.ints .u64 16 fs,.ints .u64 16 gn] 70,.own [.vec 2,.ag 3,.s (.int .i64 fu)] 96,.vec (.ae [.arr .u8 64] th) 138,.map (.arr .u8 64) m]))
           (.need (Ds.bI th m fu)
             (.need ((0:Int)≤root∧root≤65536)
               (.ite (lsE th m root ByteArray.empty !=0) (.ret [.own [.vec 2,.ag 3,.s (.int .i64 fu)] 96,.own [.ptr 0 0,.s (.int .i64 root),.ints .u64 16 fr,.ints .u64 16 fs,.ints .u64 16 gn] 70,.vec (.ae [.arr .u8 64] th) 138,.map (.arr .u8 64) m,.vec (.ae [.str,.str] (lsF th m root ByteArray.empty)) 34,.own [.ints .u64 16 (vV th m root)] 47] (.s (.aI false)))
                 (.ite (pgE th m root !=0) (.ret [.own [.vec 2,.ag 3,.s (.int .i64 fu)] 96,.own [.ptr 0 0,.s (.int .i64 root),.ints .u64 16 fr,.ints .u64 16 fs,.ints .u64 16 gn] 70,.vec (.ae [.arr .u8 64] th) 138,.map (.arr .u8 64) m,.vec (.ae [.str,.str] (lsF th m root ByteArray.empty)) 34,.own [.ints .u64 16 (vV th m root)] 47] (.s (.aI false)))
                   (.need (bu (some [AV.ptr 0 0])) (.need (bu (some [ad.own [.ptr 1 0,.s (.int .i64 root),.ints .u64 16 fr,.ints .u64 16 fs,.ints .u64 16 gn] 70,.own [.vec 2,.ag 3,.s (.int .i64 fu)] 96,.vec (.ae [.arr .u8 64] th) 138,.map (.arr .u8 64) m])) (.ite (!decide (vV th m root=fs)) (.ret [.own [.vec 2,.ag 3,.s (.int .i64 fu)] 96,.own [.ptr 0 0,.s (.int .i64 root),.ints .u64 16 fr,.ints .u64 16 fs,.ints .u64 16 gn] 70,.vec (.ae [.arr .u8 64] th) 138,.map (.arr .u8 64) m,.vec (.ae [.str,.str] (lsF th m root ByteArray.empty)) 34,.own [.ints .u64 16 (vV th m root)] 47] (.s (.aI false))) (.need (bu (some [AV.ptr 0 0])) (.need (bu (some [ad.own [.ptr 1 0,.s (.int .i64 root),.ints .u64 16 fr,.ints .u64 16 fs,.ints .u64 16 gn] 70,.own [.vec 2,.ag 3,.s (.int .i64 fu)] 96,.vec (.ae [.arr .u8 64] th) 138,.map (.arr .u8 64) m])) (.need (bu (some [AV.ptr 0 0])) (.need (bu (some [ad.own [.ptr 1 0,.s (.int .i64 root),.ints .u64 16 fr,.ints .u64 16 fs,.ints .u64 16 gn] 70,.own [.vec 2,.ag 3,.s (.int .i64 fu)] 96,.vec (.ae [.arr .u8 64] th) 138,.map (.arr .u8 64) m])) (.need (bu (some [AV.ptr 0 0,.s (.int .i64 root),.ints .u64 16 fr])) (.need (bu (some [ad.own [.vec 1,.ag 2,.s (.int .i64 fu)] 96,.vec (.ae [.arr .u8 64] th) 138,.map (.arr .u8 64) m])) (.need (Ds.bI th m fu) (.at (.mk (sl 141 [(2,.s (.ro (.ae kL l2))),(8,.ptr 0 0),(9,.ptr 1 0),(11,.vec 2),(13,.ptr 3 0),(15,.ptr 4 0),(16,.ptr 5 0),(17,.s (.int .i64 0))]) [.own [.vec 6,.ag 7,.s (.int .i64 fu)] 96,.own [.ptr 0 0,.s (.int .i64 root),.ints .u64 16 fr,.ints .u64 16 fs,.ints .u64 16 gn] 70,.vec (.ae [.str,.str] (lsF th m root ByteArray.empty)) 34,.own [.ints .u64 16 (vV th m root)] 47,.own [.ints .u64 16 fr] 47,.own [.ptr 0 0,.s (.int .i64 root),.ints .u64 16 (zZ th fr),.ints .u64 16 Bx.aJ,.ints .u64 16 Bx.aJ] 70,.vec (.ae [.arr .u8 64] th) 138,.map (.arr .u8 64) m] (hd Tryd.f4 16) (.mk none false 0 [] 0)))))))))))))))))))))):=by kernel_rfl
theorem akF(l2:List (CL kL))(th:Th)(m:As)(fu root:Int)(fr fs gn:Ws)(old:List En)(st f0:Ws)(cD:Int)(oT kq qL:Ws)(i:Int):run P yh.sum Tryd.f4 akD (akE l2 th m fu root fr fs gn old st f0 cD oT kq qL i)=
 Tree.ite (decide (i<(↑l2.length:Int))) (.need ((0:Int)≤i) (.need (i<(↑l2.length:Int)) (.need (bu (some [AV.agg [.s (.int .u8 (stK (el l2 i))),.s (.str (stA (el l2 i))),.s (.str (stV (el l2 i)))],.ptr 0 0])) (.need (bu (some [ad.own [.ptr 1 0,.s (.int .i64 cD),.ints .u64 16 oT,.ints .u64 16 kq,.ints .u64 16 qL] 70,.own [.vec 2,.ag 3,.s (.int .i64 fu)] 96,.vec (.ae [.arr .u8 64] th) 138,.map (.arr .u8 64) m])) (.need (Ds.bI th m fu) (.need (Bx.okW oT) (.need ((0:Int)≤cD∧cD≤65536) (.at (.mk (sl 141 [(2,.s (.ro (.ae kL l2))),(8,.ptr 0 0),(9,.ptr 1 0),(11,.vec 2),(13,.ptr 3 0),(15,.ptr 4 0),(16,.ptr 5 0),(17,.s (.int .i64 i))]) [.own [.vec 6,.ag 7,.s (.int .i64 (do1 th (stK (el l2 i)) (stA (el l2 i)) (stV (el l2 i)) m fu cD oT kq qL))] 96,.own [.ptr 0 0,.s (.int .i64 root),.ints .u64 16 fr,.ints .u64 16 fs,.ints .u64 16 gn] 70,.vec (.ae [.str,.str] old) 34,.own [.ints .u64 16 st] 47,.own [.ints .u64 16 f0] 47,.own [.ptr 0 0,.s (.int .i64 (doR th (stK (el l2 i)) (stA (el l2 i)) (stV (el l2 i)) m fu cD oT kq qL)),.ints .u64 16 (do2 th (stK (el l2 i)) (stA (el l2 i)) (stV (el l2 i)) m fu cD oT kq qL),.ints .u64 16 (do3 th (stK (el l2 i)) (stA (el l2 i)) (stV (el l2 i)) m fu cD oT kq qL),.ints .u64 16 (do4 th (stK (el l2 i)) (stA (el l2 i)) (stV (el l2 i)) m fu cD oT kq qL)] 70,.vec (.ae [.arr .u8 64] th) 138,.map (.arr .u8 64) (do0 th (stK (el l2 i)) (stA (el l2 i)) (stV (el l2 i)) m fu cD oT kq qL)] (hr Tryd.f4 19) (.mk none false 0 [] 0))))))))))
 (.need (bu (some [AV.ptr 0 0])) (.need (bu (some [ad.own [.ptr 1 0,.s (.int .i64 root),.ints .u64 16 fr,.ints .u64 16 fs,.ints .u64 16 gn] 70,.own [.vec 2,.ag 3,.s (.int .i64 fu)] 96,.vec (.ae [.arr .u8 64] th) 138,.map (.arr .u8 64) m])) (.need (bu (some [AV.ptr 0 0,.s (.int .i64 root),.ints .u64 16 f0])) (.need (bu (some [ad.own [.vec 1,.ag 2,.s (.int .i64 fu)] 96,.vec (.ae [.arr .u8 64] th) 138,.map (.arr .u8 64) m])) (.need (Ds.bI th m fu) (.need (bu (some [AV.ptr 0 0,.s (.str ByteArray.empty)])) (.need (bu (some [ad.own [.ptr 1 0,.s (.int .i64 root),.ints .u64 16 (zZ th f0),.ints .u64 16 Bx.aJ,.ints .u64 16 Bx.aJ] 70,.own [.vec 2,.ag 3,.s (.int .i64 fu)] 96,.vec (.ae [.arr .u8 64] th) 138,.map (.arr .u8 64) m])) (.need (Ds.bI th m fu) (.need ((0:Int)≤root∧root≤65536) (.ite (lsE th m root ByteArray.empty==0) (.need (lsF th m root ByteArray.empty=List.filter (ow ByteArray.empty) old) (.need (old.length≤100000) (.ret [.own [.vec 6,.ag 7,.s (.int .i64 fu)] 96,.own [.ptr 0 0,.s (.int .i64 root),.ints .u64 16 fr,.ints .u64 16 fs,.ints .u64 16 gn] 70,.vec (.ae [.str,.str] old) 34,.own [.ints .u64 16 st] 47,.own [.ints .u64 16 f0] 47,.own [.ptr 0 0,.s (.int .i64 cD),.ints .u64 16 oT,.ints .u64 16 kq,.ints .u64 16 qL] 70,.vec (.ae [.arr .u8 64] th) 138,.map (.arr .u8 64) m,.own [.ptr 0 0,.s (.int .i64 root),.ints .u64 16 (zZ th f0),.ints .u64 16 Bx.aJ,.ints .u64 16 Bx.aJ] 70,.vec (.ae [.str,.str] (lsF th m root ByteArray.empty)) 34] (.s (.bool true))))) (.ret [.own [.vec 6,.ag 7,.s (.int .i64 fu)] 96,.own [.ptr 0 0,.s (.int .i64 root),.ints .u64 16 fr,.ints .u64 16 fs,.ints .u64 16 gn] 70,.vec (.ae [.str,.str] old) 34,.own [.ints .u64 16 st] 47,.own [.ints .u64 16 f0] 47,.own [.ptr 0 0,.s (.int .i64 cD),.ints .u64 16 oT,.ints .u64 16 kq,.ints .u64 16 qL] 70,.vec (.ae [.arr .u8 64] th) 138,.map (.arr .u8 64) m,.own [.ptr 0 0,.s (.int .i64 root),.ints .u64 16 (zZ th f0),.ints .u64 16 Bx.aJ,.ints .u64 16 Bx.aJ] 70,.vec (.ae [.str,.str] (lsF th m root ByteArray.empty)) 34] (.s (.aI false))))))))))))):=by kernel_rfl
theorem aqG(l2:List (CL kL))(th:Th)(m:As)(fu root:Int)(fr fs gn:Ws)(old:List En)(st f0:Ws)(cD:Int)(oT kq qL:Ws)(i:Int):run P yh.sum Tryd.f4 akD (atq l2 th m fu root fr fs gn old st f0 cD oT kq qL i)=
 Tree.need (bu (some [AV.ptr 0 0]))
 (.need (bu (some [ad.own [.ptr 1 0,.s (.int .i64 cD),.ints .u64 16 oT,.ints .u64 16 kq,.ints .u64 16 qL] 70,.own [.vec 2,.ag 3,.s (.int .i64 fu)] 96,.vec (.ae [.arr .u8 64] th) 138,.map (.arr .u8 64) m]))
   (.need (Ds.bI th m fu)
     (.need ((0:Int)≤cD∧cD≤65536)
       (.ite (pgE th m cD !=0) (.ret [.own [.vec 6,.ag 7,.s (.int .i64 fu)] 96,.own [.ptr 0 0,.s (.int .i64 root),.ints .u64 16 fr,.ints .u64 16 fs,.ints .u64 16 gn] 70,.vec (.ae [.str,.str] old) 34,.own [.ints .u64 16 st] 47,.own [.ints .u64 16 f0] 47,.own [.ptr 0 0,.s (.int .i64 cD),.ints .u64 16 oT,.ints .u64 16 kq,.ints .u64 16 qL] 70,.vec (.ae [.arr .u8 64] th) 138,.map (.arr .u8 64) m,.own [.ints .u64 16 (vV th m cD)] 47] (.s (.aI false)))
         (.need (bu (some [AV.ptr 0 0]))
           (.need (bu (some [ad.own [.ptr 1 0,.s (.int .i64 cD),.ints .u64 16 oT,.ints .u64 16 kq,.ints .u64 16 qL] 70,.own [.vec 2,.ag 3,.s (.int .i64 fu)] 96,.vec (.ae [.arr .u8 64] th) 138,.map (.arr .u8 64) m]))
             (.ite (!decide (Bx.bY BinOp.andNot (vV th m cD) st=kq)) (.ret [.own [.vec 6,.ag 7,.s (.int .i64 fu)] 96,.own [.ptr 0 0,.s (.int .i64 root),.ints .u64 16 fr,.ints .u64 16 fs,.ints .u64 16 gn] 70,.vec (.ae [.str,.str] old) 34,.own [.ints .u64 16 st] 47,.own [.ints .u64 16 f0] 47,.own [.ptr 0 0,.s (.int .i64 cD),.ints .u64 16 oT,.ints .u64 16 kq,.ints .u64 16 qL] 70,.vec (.ae [.arr .u8 64] th) 138,.map (.arr .u8 64) m,.own [.ints .u64 16 (vV th m cD)] 47] (.s (.aI false)))
               (.need (bu (some [AV.ptr 0 0]))
                 (.need (bu (some [ad.own [.ptr 1 0,.s (.int .i64 cD),.ints .u64 16 oT,.ints .u64 16 kq,.ints .u64 16 qL] 70,.own [.vec 2,.ag 3,.s (.int .i64 fu)] 96,.vec (.ae [.arr .u8 64] th) 138,.map (.arr .u8 64) m]))
                   (.need (bu (some [AV.ptr 0 0]))
                     (.need (bu (some [ad.own [.ptr 1 0,.s (.int .i64 cD),.ints .u64 16 oT,.ints .u64 16 kq,.ints .u64 16 qL] 70,.own [.vec 2,.ag 3,.s (.int .i64 fu)] 96,.vec (.ae [.arr .u8 64] th) 138,.map (.arr .u8 64) m])) (.ite (!decide (oT=Bx.bY BinOp.andNot f0 kq)) (.ret [.own [.vec 6,.ag 7,.s (.int .i64 fu)] 96,.own [.ptr 0 0,.s (.int .i64 root),.ints .u64 16 fr,.ints .u64 16 fs,.ints .u64 16 gn] 70,.vec (.ae [.str,.str] old) 34,.own [.ints .u64 16 st] 47,.own [.ints .u64 16 f0] 47,.own [.ptr 0 0,.s (.int .i64 cD),.ints .u64 16 oT,.ints .u64 16 kq,.ints .u64 16 qL] 70,.vec (.ae [.arr .u8 64] th) 138,.map (.arr .u8 64) m,.own [.ints .u64 16 (vV th m cD)] 47] (.s (.aI false))) (.need (bu (some [AV.ptr 0 0])) (.need (bu (some [ad.own [.ptr 1 0,.s (.int .i64 cD),.ints .u64 16 oT,.ints .u64 16 kq,.ints .u64 16 qL] 70,.own [.vec 2,.ag 3,.s (.int .i64 fu)] 96,.vec (.ae [.arr .u8 64] th) 138,.map (.arr .u8 64) m])) (.ite (!decide (Bx.bY BinOp.andNot kq f0=List.replicate 16 0)) (.ret [.own [.vec 6,.ag 7,.s (.int .i64 fu)] 96,.own [.ptr 0 0,.s (.int .i64 root),.ints .u64 16 fr,.ints .u64 16 fs,.ints .u64 16 gn] 70,.vec (.ae [.str,.str] old) 34,.own [.ints .u64 16 st] 47,.own [.ints .u64 16 f0] 47,.own [.ptr 0 0,.s (.int .i64 cD),.ints .u64 16 oT,.ints .u64 16 kq,.ints .u64 16 qL] 70,.vec (.ae [.arr .u8 64] th) 138,.map (.arr .u8 64) m,.own [.ints .u64 16 (vV th m cD)] 47] (.s (.aI false))) (.need (aD (i+1)) (.at (.mk (sl 141 [(2,.s (.ro (.ae kL l2))),(8,.ptr 0 0),(9,.ptr 1 0),(11,.vec 2),(13,.ptr 3 0),(15,.ptr 4 0),(16,.ptr 5 0),(17,.s (.int .i64 (i+1)))]) [.own [.vec 6,.ag 7,.s (.int .i64 fu)] 96,.own [.ptr 0 0,.s (.int .i64 root),.ints .u64 16 fr,.ints .u64 16 fs,.ints .u64 16 gn] 70,.vec (.ae [.str,.str] old) 34,.own [.ints .u64 16 st] 47,.own [.ints .u64 16 f0] 47,.own [.ptr 0 0,.s (.int .i64 cD),.ints .u64 16 oT,.ints .u64 16 kq,.ints .u64 16 qL] 70,.vec (.ae [.arr .u8 64] th) 138,.map (.arr .u8 64) m] (hd Tryd.f4 16) (.mk none false 0 [] 0))))))))))))))))))):=by kernel_rfl
theorem jX:yh.Ok P Bx.bT:=aG.Ok.cons akh.sum (aG.Ok.cons (as7.sum mLg) (aG.Ok.cons aqz.sum (aG.Ok.cons (afq.sum mMd) (aG.Ok.cons (as8.sum ato) (aG.Ok.cons (amZ.sum mGt) (aG.Ok.cons (akc.sum mT) (aG.Ok.cons (ake.sum mT) (aG.Ok.cons (afp.sum mT) (aG.Ok.cons (afo.sum mT) (aG.Ok.cons (afn.sum mOp) (aG.Ok.cons Bx.zC.sum (aG.Ok.cons as9.sum aG.Ok.nil))))))))))))
abbrev KT:List ad→AV→Prop:=Ends [ch] (true,())
theorem akG(op:Option ByteArray):opP op≤81:=by
 cases op with
 |none=>exact Nat.zero_le _
 |some v=>exact Nat.le_refl _
theorem aqH(key:ByteArray)(op:Option ByteArray)(E:List En):(lN key op E).length≤E.length+1:=by
 refine Nat.le_trans adP ?_
 split<;>omega
theorem acd{th:Th}{F0 B:Int→Prop}{key:ByteArray}{op:Option ByteArray}{m:As}{root:Int}{fr fs gn:Ws}{h:Nat}{E:List En}{ps:List Int}{po:Nat}(T:TI th F0 m (-1) root fr fs gn h E ps po)(hp:po≤100000)(ho:∀p∈ps,B p∨F0 p):
 ∃m' oz ov kp rN h' E' ps' wU e,vT th key op m (-1) root fr fs gn=(m', -1,oz,ov,kp,rN,e)∧TI th F0 m' (-1) oz ov kp rN h' E' ps' wU∧wU≤po+opP op∧E'.length≤E.length+1∧(∀p∈ps',B p∨F0 p)∧∀p,¬F0 p→Ds.iM th m' p=Ds.iM th m p∧Ds.gu th m' p=Ds.gu th m p:=by
 rcases am9 (key:=key) (op:=op) T (T.small hp)with⟨a,b,c,h',ps',wU,G⟩|⟨m',gl,e,a,b,c⟩
 ·have gr:=grown T G ho
  rcases hr:vT th key op m (-1) root fr fs gn with⟨m',gl,oz,ov,kp,rN,e'⟩
  rw[hr]at G
  have hfu:=G.fu rfl
  have hti:=G.ti
  have hrd:=G.rd
  simp only at hfu hti hrd
  subst hfu
  exact⟨m',oz,ov,kp,rN,h',_,ps',wU,e',rfl,hti,G.po,aqH _ _ _,gr,hrd⟩
 ·have f:=c.fu rfl
  subst f
  exact⟨m',root,fr,fs,gn,h,E,ps,po,e,b,T.eH c.d c.rd,Nat.le_add_right _ _,Nat.le_succ _,ho,fun p hp=>c.rd p fun x=>hp ((T.inv.cov p).2 (.inl x))⟩
section
variable{X:Ctx}(hX:∀id,X.H id=none)(hz:dM Bx.bT X)
include hX hz
theorem att{l2:List (CL kL)}(hl:l2.length≤90){th:Th}{aK:Int}{f st gn0:Ws}{h0:Nat}{E0:List En}{ps0:List Int}{po0:Nat}(hr0:0≤aK∧aK≤65536)(hh0:h0≤14)(hE0:E0.length≤90)(hn0:ps0.Nodup)(hf:Bx.okW f)(kD:Bx.okW st)(hd:∀p,In st p→¬In f p)(hp0:∀p∈ps0,¬In f p):
 ∀(j k:Nat),k+j=l2.length→∀{m:As} {root:Int} {fr fs gn:Ws} {h:Nat} {E:List En} {ps:List Int} {po:Nat},TI th (In f) m (-1) root fr fs gn h E ps po→po≤81*(90+k)→(∀p∈ps,In st p∨In f p)→aQ th m aK h0 E0 ps0 po0→
 Safe P 4 X KT (akE l2 th m (-1) aK f st gn0 E0 st f root fr fs gn (k:Int))
 |0,k,hk,m,root,fr,fs,gn,h,E,ps,po,T,hp,ho,H=>by
  obtain⟨q1,q2⟩:=yf H hn0 (by omega) ByteArray.empty
  refine Lf.go hz hX jX Tryd.func4 (akF l2 th m (-1) aK f st gn0 E0 st f root fr fs gn k) ⟨fun h=>absurd (of_decide_eq_true h) (by omega),fun _=>⟨rfl,rfl,rfl,rfl,T.ok.d,rfl,rfl,T.ok.d,hr0,fun _=>⟨q2,by omega,uJ⟩,fun h=> ?_⟩⟩
  rw[q1]at h;cases h
 |j+1,k,hk,m,root,fr,fs,gn,h,E,ps,po,T,hp,ho,H=>by
  have hr:=T.rng
  generalize hK:stK (el l2 k)=K
  generalize hA:stA (el l2 k)=key
  generalize hV:stV (el l2 k)=val
  obtain⟨m',oz,ov,kp,rN,h',E',ps',wU,e,he,T',hpo,hE',cP,hrd⟩:=acd (key:=key) (op:=stOp K val) (B:=In st) T (by omega) ho
  have wg:=akG (stOp K val)
  have H':=H.same fun p hp=>hrd p (hp0 p hp)
  have hh':=T'.small (by omega)
  obtain⟨s1,s2,s3,s4,s5⟩:=akC kD hf T' (by omega) hd cP
  have c0:do0 th K key val m (-1) root fr fs gn=m':=by unfold do0;rw[he]
  have c1:do1 th K key val m (-1) root fr fs gn= -1:=by unfold do1;rw[he]
  have cR:doR th K key val m (-1) root fr fs gn=oz:=by unfold doR;rw[he]
  have c2:do2 th K key val m (-1) root fr fs gn=ov:=by unfold do2;rw[he]
  have c3:do3 th K key val m (-1) root fr fs gn=kp:=by unfold do3;rw[he]
  have c4:do4 th K key val m (-1) root fr fs gn=rN:=by unfold do4;rw[he]
  have ih:=att (gn0:=gn0) hl hr0 hh0 hE0 hn0 hf kD hd hp0 j (k+1) (by omega) T' (by omega) cP H'
  have s5:Bx.bY .andNot kp f=List.replicate 16 0:=s5
  refine Lf.go hz hX jX Tryd.func4 (akF l2 th m (-1) aK f st gn0 E0 st f root fr fs gn k) ⟨fun _=> ?_,fun h=>absurd (of_decide_eq_false h) (by omega)⟩
  rw[hK,hA,hV,c0,c1,cR,c2,c3,c4]
  refine⟨by omega,by omega,rfl,rfl,T.ok.d,T.ok.fr,hr, ?_⟩
  refine Lf.go hz hX jX Tryd.func4 (aqG l2 th m' (-1) aK f st gn0 E0 st f oz ov kp rN k) ⟨rfl,rfl,T'.ok.d,T'.rng,fun h=> ?_,fun _=>⟨rfl,rfl,fun h=> ?_,fun _=>⟨rfl,rfl,rfl,rfl,fun h=> ?_,fun _=>⟨rfl,rfl,fun h=> ?_,fun _=>⟨zX (by omega) (by omega),ih⟩⟩⟩⟩⟩
  ·rw[s1]at h;cases h
  ·exact absurd s3 (of_decide_eq_false (by cases hq:decide (Bx.bY .andNot (vV th m' oz) st=kp)<;>simp_all))
  ·exact absurd s4 (of_decide_eq_false (by cases hq:decide (ov=Bx.bY .andNot f kp)<;>simp_all))
  ·exact absurd s5 (of_decide_eq_false (by cases hq:decide (Bx.bY .andNot kp f=List.replicate 16 0)<;>simp_all))
theorem ol6{l l2:List (CL kL)}(hl:l.length≤90)(sV:l2.length≤90){th:Th}{F0:Int→Prop}:∀(j k:Nat),k+j=l.length→∀{m:As} {root:Int} {fr fs gn:Ws} {h:Nat} {E:List En} {ps:List Int} {po:Nat},TI th F0 m (-1) root fr fs gn h E ps po→po≤81*k→E.length≤k→(∀p∈ps,False∨F0 p)→
 Safe P 4 X KT (cOl l l2 th m (-1) root fr fs gn (k:Int))
 |0,k,hk,m,root,fr,fs,gn,h,E,ps,po,T,hp,hE,ho=>by
  have hh:=T.small (by omega)
  have hr:=T.rng
  obtain⟨l1,q2⟩:=yf T.holds T.inv.nd (by omega) ByteArray.empty
  rw[filter_all]at q2
  obtain⟨p1,p2⟩:=ahc T (by omega) fun p hp=>(ho p hp).resolve_left id
  have next:=att hX hz (gn0:=gn) sV hr hh (by omega) T.inv.nd T.ok.fr T.ok.fs (fun p a b=>T.inv.dis p b a) T.free l2.length 0 (by omega) (aqF T) (by omega) (fun p hp=>((T.inv.cov p).1 ((ho p hp).resolve_left id)).symm) T.holds
  refine Lf.go hz hX jX Tryd.func4 (atr l l2 th m (-1) root fr fs gn k) ⟨fun h=>absurd (of_decide_eq_true h) (by omega),fun _=> ?_⟩
  refine Lf.go hz hX jX Tryd.func4 (ats l2 th m (-1) root fr fs gn) ⟨rfl,rfl,T.ok.d,hr,rfl,rfl,T.ok.d,hr,fun h=> ?_,fun _=>⟨fun h=> ?_,fun _=>⟨rfl,rfl,fun h=> ?_,fun _=>⟨rfl,rfl,rfl,rfl,rfl,rfl,T.ok.d, ?_⟩⟩⟩⟩
  ·rw[l1]at h;cases h
  ·rw[p1]at h;cases h
  ·rw[p2,decide_eq_true rfl]at h;cases h
  ·show Safe P 4 X KT (akE l2 th m (-1) root fr fs gn (lsF th m root ByteArray.empty) (vV th m root) fr root (zZ th fr) Bx.aJ Bx.aJ ((0:Nat):Int))
   rw[q2,p2,akB T]
   exact next
 |j+1,k,hk,m,root,fr,fs,gn,h,E,ps,po,T,hp,hE,ho=>by
  have hr:=T.rng
  generalize hK:stK (el l k)=K
  generalize hA:stA (el l k)=key
  generalize hV:stV (el l k)=val
  obtain⟨m',oz,ov,kp,rN,h',E',ps',wU,e,he,T',hpo,hE',cP,hrd⟩:=acd (key:=key) (op:=stOp K val) (B:=fun _=>False) T (by omega) ho
  have wg:=akG (stOp K val)
  have c0:do0 th K key val m (-1) root fr fs gn=m':=by unfold do0;rw[he]
  have c1:do1 th K key val m (-1) root fr fs gn= -1:=by unfold do1;rw[he]
  have cR:doR th K key val m (-1) root fr fs gn=oz:=by unfold doR;rw[he]
  have c2:do2 th K key val m (-1) root fr fs gn=ov:=by unfold do2;rw[he]
  have c3:do3 th K key val m (-1) root fr fs gn=kp:=by unfold do3;rw[he]
  have c4:do4 th K key val m (-1) root fr fs gn=rN:=by unfold do4;rw[he]
  have ih:=ol6 hl sV j (k+1) (by omega) T' (by omega) (by omega) cP
  refine Lf.go hz hX jX Tryd.func4 (atr l l2 th m (-1) root fr fs gn k) ⟨fun _=> ?_,fun h=>absurd (of_decide_eq_false h) (by omega)⟩
  rw[hK,hA,hV,c0,c1,cR,c2,c3,c4]
  exact⟨by omega,by omega,rfl,rfl,T.ok.d,T.ok.fr,hr,zX (by omega) (by omega),ih⟩
end
theorem adQ:dg P Bx.bT 4 [bo,.b (.row (.ae kL) 32),.b (.row (.ae kL) 32)] [ch] (fun _=>[]) (fun _=>(true,())):=by
 refine aw Tryd.func4 (by kernel_rfl) (by kernel_rfl) ?_
 rintro⟨(lL:Int),(l:List (CL kL)),(l2:List (CL kL)),⟨⟩⟩ ⟨_,(hl0:l.length≤maxLen),(auV:l2.length≤maxLen),_⟩ _ X hX hz
 show Safe P 4 X KT _
 have hlen:l.length≤9223372036854775807:=by unfold maxLen at hl0;omega
 have atu:l2.length≤9223372036854775807:=by unfold maxLen at auV;omega
 obtain⟨s1,s2,s3⟩:=yc lL
 have hn:3≤(n6 lL).tdiv 4∧(n6 lL).tdiv 4≤250:=by
  rw[Int.tdiv_eq_ediv_of_nonneg (by omega)]
  omega
 refine Lf.go hz hX jX Tryd.func4 (auU lL l l2) ⟨fun h=>(by cases h),fun _=>⟨rfl,rfl,hlen,fun _=>uJ,fun hl=>⟨rfl,rfl,atu,fun _=>uJ,fun sV=>⟨by omega,zX (by omega) (by omega),rfl,rfl,hn, ?_⟩⟩⟩⟩
 exact ol6 hX hz (by omega) (by omega) l.length 0 (by omega) (TI.start (Ds.aiv (by omega)) (Bx.dq _).1) (by omega) (Nat.le_refl _) (fun p hp=>by cases hp)
end Ts
