/- Lemmas: M7, M8, M9, M10, M11, M12, M13, M14, M15, M17, M18, F_em. -/
import Derived.Test.YtcjldfgkonfocaaDoorPE
namespace Ts
open Go Go.Sx Go.Proofs Lf
def cS(th:Th)(key:ByteArray)(op:Option ByteArray)(f:Nat)(s:S5)(n deep:Int):S5:=
 ⟨pC th key op f s.m s.fu s.fr s.fs s.gn n deep,pD th key op f s.m s.fu s.fr s.fs s.gn n deep,pE th key op f s.m s.fu s.fr s.fs s.gn n deep,qL th key op f s.m s.fu s.fr s.fs s.gn n deep,rV th key op f s.m s.fu s.fr s.fs s.gn n deep⟩
def cL(th:Th)(key:ByteArray)(op:Option ByteArray)(f:Nat)(s:S5)(n deep:Int):List Br:=tc th key op f s.m s.fu s.fr s.fs s.gn n deep
def cE'(th:Th)(key:ByteArray)(op:Option ByteArray)(f:Nat)(s:S5)(n deep:Int):Int:=rW th key op f s.m s.fu s.fr s.fs s.gn n deep
def lvT(s:S5)(n:Int):S5:=⟨s.m,s.fu,s.fr,je s.fs n,pz s.fs s.gn n⟩
def opP(op:Option ByteArray):Nat:=match op with|some _=>81|none=>0
structure atO (th:Th) (key:ByteArray) (op:Option ByteArray) (s t:S5) (h:Nat) (old:List En) (ps:List Int) (po:Nat) (l:List Br) (N V rest:List Int) (k0:ByteArray) (F:List (Kd h)):Prop where
 qY:qP th s t N V
 len:N.length≤2*(h+1)
 l:l=kT k0 (F.map (cK h))
 fr:For th t.m h F
 dL:bK h F=kU key op old
 old:ps.Perm (V++rest)
 new:(bL h F).Perm (N++rest)
 two:F.length≤2
 del:op=none→F.length≤1
 te:eO h F+(F.length - 1)*(81*3^h)≤po+opP op
structure atP (th:Th) (key:ByteArray) (op:Option ByteArray) (s t:S5) (h:Nat) (old:List En) (ps:List Int) (e:Int) (N V:List Int):Prop where
 qY:qP th s t N V
 len:N.length≤2*h+1
 sub:∀p∈V,p∈ps
 how:(e=5∧py key op old=5)∨(e=41∧∀p,In s.fr p→p∈N)∨(e=42∧t.fu=0)
def ad8(th:Th)(key:ByteArray)(op:Option ByteArray)(s t:S5)(h:Nat)(old:List En)(ps:List Int)(po:Nat)(l:List Br)(e:Int):Prop:=
 (e=0∧py key op old=0∧∃N V rest k0 F,atO th key op s t h old ps po l N V rest k0 F)∨(e≠0∧∃N V,atP th key op s t h old ps e N V)
theorem akN{th:Th}{key:ByteArray}{op:Option ByteArray}{s s1 t:S5}{h:Nat}{old:List En}{ps N V:List Int}{e:Int}{k:Nat}(h1:qP th s s1 N V)(hN:N.length+k≤2*h+1)(hV:∀p∈V,p∈ps)(hb:Bad th s1 t k e):∃N V,atP th key op s t h old ps e N V:=by
 obtain⟨N2,b1,b2,b3⟩:=hb
 refine⟨N++N2,V++[],eY h1 b1 (fun p hp=>by cases hp),by rw[List.length_append];omega,fun p hp=>hV p (by simpa using hp),.inr (b3.imp (fun x=>⟨x.1,fun p hp=> ?_⟩) id)⟩
 by_cases hpn:p∈N
 ·exact List.mem_append_left _ hpn
 ·exact List.mem_append_right _ (x.2 p ((h1.fr p).2 ⟨hp,hpn⟩))
theorem afU{th:Th}{key:ByteArray}{op:Option ByteArray}{es:List En}(hk:1≤key.size∧key.size≤24)(hv:∀v,op=some v→v.size≤100)(iX:jB es=true)(hz:bh es []≤254){s s1:S5}{V ps:List Int}(h1:qP th s s1 [] V)(hV:ps.Perm V)(hc:py key op es=0){h:Nat}:
 ad8 th key op s (sS th s1 true (kU key op es) []) 0 es ps h (sL th s1 true (kU key op es) []) (sE th s1 true (kU key op es) []):=by
 have ho:=h1.ok
 have atQ:=ant (op:=op) hk hv iX
 have zt:¬bh (kU key op es) []≤254→dv true (kU key op es) []=true∧bh (aY true (kU key op es) []) []≤254∧bh (cN true (kU key op es) []) []≤254∧
  ∃k,0<k∧k<(kU key op es).length∧aY true (kU key op es) []=(kU key op es).take k∧cN true (kU key op es) []=(kU key op es).drop k∧bc true (kU key op es) []=[]∧cW true (kU key op es) []=[]∧bO true (kU key op es) []=true:=fun hn=>by
  cases op with
  |some v=>exact aj4 atQ hz hn
  |none=>exact absurd (Int.le_trans wm hz) hn
 rcases ans ho atQ zt with⟨a,N,k0,F,b,c,d,e,g,i,j,k⟩|⟨a,b⟩
 ·refine .inl ⟨a,hc,[]++N,V++[],[],k0,F,eY h1 b (fun p hp=>by cases hp),by simp;omega,d,e,g, ?_, ?_,j,fun hn=>k ?_, ?_⟩
  ·rw[List.append_nil,List.append_nil];exact hV
  ·rw[i,List.nil_append,List.append_nil]
  ·subst hn;exact Int.le_trans wm hz
  ·have p0:eO 0 F=0:=by
    have:∀F:List (Kd 0),eO 0 F=0:=fun F=>by
     induction F with
     |nil=>rfl
     |cons x r ih=>rw[gD,ih];rfl
    exact this F
   rw[p0]
   cases op with
   |some v=>show 0+(F.length - 1)*(81*3^0)≤h+81;rw[Nat.pow_zero];omega
   |none=>
    have:=k (Int.le_trans wm hz)
    show 0+(F.length - 1)*(81*3^0)≤h+0
    rw[show F.length - 1=0 from by omega];omega
 ·exact .inr ⟨a,akN h1 (by simp) (fun p hp=>(hV.mem_iff).2 hp) b⟩
theorem akO{th:Th}{key:ByteArray}{op:Option ByteArray}(hk:1≤key.size∧key.size≤24)(hv:∀v,op=some v→v.size≤100){s:S5}{t:TN 0}{f:Nat}{deep:Int}(ho:xI th s)(hr:rep th s.m 0 t)(ht:nY 0 t)(hd:deep≤16):
 ad8 th key op s (cS th key op (f+1) s (pg 0 t) deep) 0 (dL 0 t) (mC 0 t) (te 0 t) (cL th key op (f+1) s (pg 0 t) deep) (cE' th key op (f+1) s (pg 0 t) deep):=by
 obtain⟨n,es⟩:=t
 have hr:Rd th s.m n true es []:=hr
 obtain⟨e1,e2,e3,e4⟩:=hr.nd hd
 obtain⟨_,iX,hz⟩:=(show es≠[]∧jB es=true∧bh es []≤254 from ht)
 show ad8 th key op s (cS th key op (f+1) s n deep) 0 es [n] 0 (cL th key op (f+1) s n deep) (cE' th key op (f+1) s n deep)
 have h1:=ad0 ho n
 by_cases hc:py key op es=0
 ·have e:vO th key op (f+1) s.m s.fu s.fr s.fs s.gn n deep=gV (pz s.fs s.gn n) (bo th s.m s.fu s.fr (je s.fs n) true (kU key op es) []):=by
   rw[fZ,if_neg (by rw[e1];simp),if_pos e2,e3,e4,if_neg (by rw[hc];simp),akM hc]
  have g:=afU (op:=op) (s1:=lvT s n) (h:=0) hk hv iX hz h1 (List.Perm.refl [n]) hc
  have c1:cS th key op (f+1) s n deep=sS th (lvT s n) true (kU key op es) []:=by unfold cS pC pD pE qL rV;rw[e];rfl
  have c2:cL th key op (f+1) s n deep=sL th (lvT s n) true (kU key op es) []:=by unfold cL tc;rw[e];rfl
  have c3:cE' th key op (f+1) s n deep=sE th (lvT s n) true (kU key op es) []:=by unfold cE' rW;rw[e];rfl
  rw[c1,c2,c3]
  exact g
 ·have h5:py key op es=5:=(afT key op es).resolve_left hc
  have e:vO th key op (f+1) s.m s.fu s.fr s.fs s.gn n deep=(s.m,s.fu,s.fr,s.fs,s.gn,[],5):=by
   rw[fZ,if_neg (by rw[e1];simp),if_pos e2,e3,if_pos hc,h5]
  have c1:cS th key op (f+1) s n deep=s:=by unfold cS pC pD pE qL rV;rw[e]
  have c3:cE' th key op (f+1) s n deep=5:=by unfold cE' rW;rw[e]
  rw[c1,c3]
  exact .inr ⟨by decide,[],[],gX ho,by simp,fun p hp=>(by cases hp),.inl ⟨rfl,h5⟩⟩
end Ts
namespace Ts
open Go Go.Sx Go.Proofs Lf
theorem aht{th:Th}{m:As}{h:Nat}{A B F:List (Kd h)}{k:Kd h}{key:ByteArray}{op:Option ByteArray}(hQ:bQ (A++k::B)=A++k::B)(iX:gh ((A++k::B).map (cK h))=true)(hs:zZ h (A++k::B))(hT:∀x∈A++k::B,nY h x.2)
 (hA:∀x∈A,rep th m h x.2) (hB:∀x∈B,rep th m h x.2) (f:For th m h F) (fe:bK h F=kU key op (dL h k.2)) (y5:slt key k.1=false) (pJ:∀b∈B,slt key b.1=true):
 For th m h (bQ (A++bX k.1 F++B))∧gh ((bQ (A++bX k.1 F++B)).map (cK h))=true∧bK h (bQ (A++bX k.1 F++B))=kU key op (bK h (A++k::B))∧py key op (bK h (A++k::B))=py key op (dL h k.2)∧
  (F.length≤1→lU h (bQ (A++bX k.1 F++B))≤lU h (A++k::B))∧(F.length≤2→lU h (bQ (A++bX k.1 F++B))≤lU h (A++k::B)+27):=by
 obtain⟨o1,o2⟩:=fV.1 iX
 have mk:∀x∈A++k::B,(cK h x)∈(A++k::B).map (cK h):=fun x hx=>List.mem_map_of_mem hx
 have inA:∀x∈A,x∈A++k::B:=fun x hx=>List.mem_append_left _ hx
 have ink:k∈A++k::B:=List.mem_append_right _ List.mem_cons_self
 have inB:∀x∈B,x∈A++k::B:=fun x hx=>List.mem_append_right _ (List.mem_cons_of_mem _ hx)
 rw[List.map_append,List.map_cons,List.pairwise_append,List.pairwise_cons]at o2
 obtain⟨oA,⟨okB,oB⟩,oAB⟩:=o2
 obtain⟨s1,s2⟩:=hs
 rw[List.pairwise_append,List.pairwise_cons]at s1
 obtain⟨sA,⟨skB,sB⟩,sAB⟩:=s1
 have eA:∀x∈bK h A,slt x.1 k.1=true:=fun x hx=>by
  obtain⟨a,ha,hxa⟩:=List.mem_flatMap.1 hx
  exact sAB a ha k List.mem_cons_self x hxa
 have eAk:∀x∈bK h A,slt x.1 key=true:=fun x hx=>ez (eA x hx) y5
 have eBk:∀x∈bK h B,slt key x.1=true:=fun x hx=>by
  obtain⟨b,hb,hxb⟩:=List.mem_flatMap.1 hx
  exact ez (pJ b hb) (s2 b (inB b hb) x hxb)
 have kF:∀e∈bK h F,slt e.1 k.1=false:=fun e he=>by
  rw[fe]at he
  rcases aaj he with h1|⟨h1,_⟩
  ·exact s2 k ink e h1
  ·rw[h1];exact y5
 have fB:∀e∈bK h F,∀b∈B,slt e.1 b.1=true:=fun e he b hb=>by
  rw[fe]at he
  rcases aaj he with h1|⟨h1,_⟩
  ·exact skB b hb e h1
  ·rw[h1];exact pJ b hb
 have inF:∀{x:Kd h},x∈F→∀e∈dL h x.2,e∈bK h F:=fun hx e he=>List.mem_flatMap.2 ⟨_,hx,he⟩
 have some_:∀{x:Kd h},x∈F→∃e,e∈dL h x.2:=fun hx=>List.exists_mem_of_ne_nil _ (qM h (f.ok _ hx))
 have xd:∀x∈bX k.1 F,(x.1=k.1∨slt k.1 x.1=true)∧x.1.size≤24∧(2≤pg h x.2∧pg h x.2<1024)∧rep th m h x.2∧nY h x.2∧(∀e∈dL h x.2,slt e.1 x.1=false)∧(∀e∈dL h x.2,e∈bK h F):=fun x hx=>by
  cases F with
  |nil=>cases hx
  |cons y r=>
   rcases List.mem_cons.1 hx with rfl|hx
   ·have y0:y∈y::r:=List.mem_cons_self
    exact⟨.inl rfl,(o1 _ (mk k ink)).1,f.pg y y0,f.rep y y0,f.ok y y0,fun e he=>kF e (inF (x:=y) y0 e he),fun e he=>inF (x:=y) y0 e he⟩
   ·have x0:x∈y::r:=List.mem_cons_of_mem _ hx
    refine⟨.inr ?_,f.key x x0,f.pg x x0,f.rep x x0,f.ok x x0,f.sep.2 x x0,inF x0⟩
    have p:=f.sep.1
    rw[List.pairwise_cons]at p
    obtain⟨e,he⟩:=some_ (x:=y) List.mem_cons_self
    have a1:=p.1 x hx e he
    have a2:=kF e (inF List.mem_cons_self e he)
    rcases gA k.1 e.1 with h1|h1|h1
    ·exact cq h1 a1
    ·rw[h1];exact a1
    ·rw[h1]at a2;cases a2
 have avm:∀x∈bX k.1 F,∀b∈B,slt x.1 b.1=true:=fun x hx b hb=>by
  obtain⟨_,_,_,_,ok,g1,g2⟩:=xd x hx
  obtain⟨e,he⟩:=List.exists_mem_of_ne_nil _ (qM h ok)
  have a1:=fB e (g2 e he) b hb
  rcases gA x.1 e.1 with h1|h1|h1
  ·exact cq h1 a1
  ·rw[h1];exact a1
  ·rw[g1 e he]at h1;cases h1
 have up2:(bX k.1 F).Pairwise fun a b=>slt a.1 b.1=true:=by
  cases F with
  |nil=>exact List.Pairwise.nil
  |cons y r=>
   have p:=f.sep.1
   rw[List.pairwise_cons]at p
   rw[bX,List.pairwise_cons]
   refine⟨fun x hx=>((xd x (List.mem_cons_of_mem _ hx)).1.resolve_left fun e=> ?_), ?_⟩
   ·
    obtain⟨e',he⟩:=some_ (x:=y) List.mem_cons_self
    have a1:=p.1 x hx e' he
    rw[e,kF e' (inF List.mem_cons_self e' he)]at a1
    cases a1
   ·refine List.Pairwise.imp_of_mem (fun{a b} ha hb hab=> ?_) p.2
    obtain⟨e',he⟩:=some_ (x:=a) (List.mem_cons_of_mem _ ha)
    have a1:=hab e' he
    have a2:=f.sep.2 a (List.mem_cons_of_mem _ ha) e' he
    rcases gA a.1 e'.1 with h1|h1|h1
    ·exact cq h1 a1
    ·rw[h1];exact a1
    ·rw[a2]at h1;cases h1
 have sp2:(bX k.1 F).Pairwise fun a b=>∀e∈dL h a.2,slt e.1 b.1=true:=by
  cases F with
  |nil=>exact List.Pairwise.nil
  |cons y r=>
   have p:=f.sep.1
   rw[List.pairwise_cons]at p
   rw[bX,List.pairwise_cons]
   exact p
 have anu:∀{p:Kd h→Prop},(∀x∈A,p x)→(∀x∈bX k.1 F,p x)→(∀x∈B,p x)→∀x∈A++bX k.1 F++B,p x:=fun h1 h2 h3 x hx=>by
  rcases List.mem_append.1 hx with hx|hx
  ·rcases List.mem_append.1 hx with hx|hx
   ·exact h1 x hx
   ·exact h2 x hx
  ·exact h3 x hx
 have okJ:gh ((A++bX k.1 F++B).map (cK h))=true:=by
  rw[fV]
  constructor
  ·intro b hb
   obtain⟨x,hx,rfl⟩:=List.mem_map.1 hb
   exact anu (p:=fun x=>(cK h x).1.size≤24∧2≤(cK h x).2.1∧(cK h x).2.1<1024) (fun x hx=>o1 _ (mk x (inA x hx))) (fun x hx=>⟨(xd x hx).2.1,(xd x hx).2.2.1⟩) (fun x hx=>o1 _ (mk x (inB x hx))) x hx
  ·rw[List.map_append,List.map_append,List.pairwise_append,List.pairwise_append]
   refine⟨⟨oA, ?_,fun a ha b hb=> ?_⟩,oB,fun a ha b hb=> ?_⟩
   ·rw[List.pairwise_map];exact up2
   ·obtain⟨x,hx,rfl⟩:=List.mem_map.1 hb
    have a1:=oAB a ha (cK h k) List.mem_cons_self
    rcases(xd x hx).1 with e|e
    ·show slt a.1 x.1=true
     rw[e];exact a1
    ·exact cq a1 e
   ·obtain⟨y,hy,rfl⟩:=List.mem_map.1 hb
    rcases List.mem_append.1 ha with ha|ha
    ·exact oAB a ha (cK h y) (List.mem_cons_of_mem _ (List.mem_map_of_mem hy))
    ·obtain⟨x,hx,rfl⟩:=List.mem_map.1 ha
     exact avm x hx y hy
 have spJ:(A++bX k.1 F++B).Pairwise fun a b=>∀e∈dL h a.2,slt e.1 b.1=true:=by
  rw[List.pairwise_append,List.pairwise_append]
  refine⟨⟨sA,sp2,fun a ha b hb e he=> ?_⟩,sB,fun a ha b hb e he=> ?_⟩
  ·have a1:=sAB a ha k List.mem_cons_self e he
   rcases(xd b hb).1 with e1|e1
   ·rw[e1];exact a1
   ·exact cq a1 e1
  ·rcases List.mem_append.1 ha with ha|ha
   ·exact sAB a ha b (List.mem_cons_of_mem _ hb) e he
   ·exact fB e ((xd a ha).2.2.2.2.2.2 e he) b hb
 have avn:∀x∈A++bX k.1 F++B,∀e∈dL h x.2,slt e.1 x.1=false:=anu (fun x hx=>s2 x (inA x hx)) (fun x hx=>(xd x hx).2.2.2.2.2.1) (fun x hx=>s2 x (inB x hx))
 have eE:bK h (A++k::B)=bK h A++dL h k.2++bK h B:=by rw[jK,gj,List.append_assoc]
 have szs:lU h (bQ (A++bX k.1 F++B))≤1+(hU (A.map (cK h))+hU ((bX k.1 F).map (cK h))+hU (B.map (cK h)))∧lU h (A++k::B)=1+(hU (A.map (cK h))+(pv (cK h k)+hU (B.map (cK h)))):=by
  rw[adZ,adZ,←jL]
  have a1:=rX ((A++bX k.1 F++B).map (cK h))
  rw[List.map_append,List.map_append,vW,vW]at a1
  rw[List.map_append (l₁:=A),List.map_cons,vW (A.map (cK h)),dh]
  refine⟨?_,rfl⟩
  rw[List.map_append,List.map_append]
  omega
 refine⟨⟨vU _,fun x hx=> ?_,fun x hx=> ?_,⟨?_,fun x hx e he=> ?_⟩,fun x hx=> ?_,fun x hx=> ?_⟩, ?_, ?_, ?_,fun hl=> ?_,fun hl=> ?_⟩
 ·obtain⟨y,hy,e,_⟩:=gE hx
  rw[←e]
  exact anu (p:=fun x=>rep th m h x.2) hA (fun x hx=>(xd x hx).2.2.2.1) hB y hy
 ·obtain⟨y,hy,e,_⟩:=gE hx
  rw[←e]
  exact anu (p:=fun x=>nY h x.2) (fun x hx=>hT x (inA x hx)) (fun x hx=>(xd x hx).2.2.2.2.1) (fun x hx=>hT x (inB x hx)) y hy
 ·generalize A++bX k.1 F++B=J at spJ
  cases J with
  |nil=>exact List.Pairwise.nil
  |cons x r=>
   rw[List.pairwise_cons]at spJ
   rw[bQ,List.pairwise_cons]
   exact spJ
 ·obtain⟨y,hy,e1,e2⟩:=gE hx
  rcases e2 with e2|e2
  ·rw[e2];exact gB _
  ·subst e2;exact avn x hy e he
 ·obtain⟨y,hy,e1,e2⟩:=gE hx
  rcases e2 with e2|e2
  ·rw[e2];exact Nat.zero_le _
  ·subst e2;exact((fV.1 okJ).1 _ (List.mem_map_of_mem hy)).1
 ·obtain⟨y,hy,e,_⟩:=gE hx
  rw[←e]
  exact((fV.1 okJ).1 _ (List.mem_map_of_mem hy)).2
 ·rw[←jL];exact yo okJ
 ·rw[pF,jK,jK,ahl,fe,eE,afR eAk eBk]
 ·rw[eE,afS eAk eBk]
 ·obtain⟨z1,z2⟩:=szs
  rw[z2]
  refine Int.le_trans z1 ?_
  have:hU ((bX k.1 F).map (cK h))≤pv (cK h k):=by
   cases F with
   |nil=>show(0:Int)≤_;have:=vV (cK h k);omega
   |cons y r=>
    cases r with
    |nil=>rw[bX,List.map_cons,dh];show pv (cK h (k.1,y.2))+0≤_;rw[Int.add_zero];exact Int.le_refl _
    |cons z r=>simp only[List.length_cons]at hl;omega
  omega
 ·obtain⟨z1,z2⟩:=szs
  rw[z2]
  refine Int.le_trans z1 ?_
  have:hU ((bX k.1 F).map (cK h))≤pv (cK h k)+27:=by
   cases F with
   |nil=>show(0:Int)≤_;have:=vV (cK h k);omega
   |cons y r=>
    cases r with
    |nil=>rw[bX,List.map_cons,dh];show pv (cK h k)+0≤_;omega
    |cons z r=>
     cases r with
     |nil=>
      have:=f.key z (List.mem_cons_of_mem _ List.mem_cons_self)
      rw[bX,List.map_cons,List.map_cons,dh,dh]
      show pv (cK h k)+(pv (cK h z)+0)≤_
      have:pv (cK h z)=3+(z.1.size:Int):=rfl
      omega
     |cons w r=>simp only[List.length_cons]at hl;omega
  omega
end Ts
namespace Ts
open Go Go.Sx Go.Proofs Lf
theorem acm{h:Nat}{Q:List (Kd h)}{key:ByteArray}(hQ:Q≠[])(hb:bQ Q=Q)(iX:gh (Q.map (cK h))=true):
 ∃A k B,Q=A++k::B∧(aU (Q.map (cK h)) key).toNat=A.length∧slt key k.1=false∧(∀b∈B,slt key b.1=true):=by
 have hs:=ap1 iX
 have hn:mo (Q.map (cK h))≠[]:=by cases Q with|nil=>exact absurd rfl hQ|cons q r=>simp
 obtain⟨p,e,hp,h0,h1⟩:=vz (ks:=mo (Q.map (cK h))) (key:=key) hs hn
 have hl:(mo (Q.map (cK h))).length=Q.length:=by simp
 rw[hl]at hp h1
 have ek:∀i,i<Q.length→(mo (Q.map (cK h))).getD i ByteArray.empty=(Q.getD i (ByteArray.empty,Q.head hQ |>.2)).1:=fun i hi=>by
  rw[bk (by simpa using hi),bk hi];simp[cK]
 refine⟨Q.take p,Q[p],Q.drop (p+1), ?_, ?_, ?_,fun b hb=> ?_⟩
 ·rw[List.getElem_cons_drop,List.take_append_drop]
 ·unfold aU
  rw[e,List.length_take,Int.toNat_natCast]
  omega
 ·rcases h0 with h0|h0
  ·subst h0
   have:Q[0].1=ByteArray.empty:=by
    cases Q with
    |nil=>exact absurd rfl hQ
    |cons q r=>
     simp only[bQ,List.cons.injEq]at hb
     show q.1=_
     rw[←hb.1]
   rw[this];exact gB _
  ·rw[ek p hp,bk hp]at h0;exact h0
 ·obtain⟨i,hi,rfl⟩:=List.getElem_of_mem hb
  rw[List.length_drop]at hi
  have:=h1 (p+1+i) (by omega) (by omega)
  rw[ek _ (by omega),bk (by omega)]at this
  rw[List.getElem_drop];exact this
theorem akP{P x y a b F n m:Nat}(c:Nat)(h1:F+(n - 1)*(81*P)≤m+c)(hn:n≤2)(hz:(n≤1→y≤x)∧(n≤2→y≤x+27)):3*P*(19+y)+(a+F+b)≤3*P*(19+x)+(a+m+b)+c:=by
 have k:3*P*(19+y)≤3*P*(19+x)+(n - 1)*(81*P):=by
  rcases Nat.lt_or_ge 1 n with h|h
  ·have e:n=2:=by omega
   subst e
   have:=Nat.mul_le_mul_left (3*P) (show 19+y≤(19+x)+27 from by have:=hz.2 (Nat.le_refl _);omega)
   rw[Nat.mul_add (3*P) (19+x) 27]at this
   omega
  ·have:=Nat.mul_le_mul_left (3*P) (show 19+y≤19+x from by have:=hz.1 h;omega)
   omega
 omega
theorem ahu{P x a b F m:Nat}(c:Nat)(h1:F+(2 - 1)*(81*P)≤m+c)(hx:73≤x):3*P*38+(a+F+b)+(2 - 1)*(81*(3*P))≤3*P*(19+x)+(a+m+b)+c:=by
 have:=Nat.mul_le_mul_left (3*P) (show 92≤19+x from by omega)
 omega
theorem acn{th:Th}{key:ByteArray}{op:Option ByteArray}(hk:1≤key.size∧key.size≤24)(hv:∀v,op=some v→v.size≤100):∀(h:Nat) {s:S5} {t:TN h} {f:Nat} {deep:Int},xI th s→rep th s.m h t→nY h t→(∀p∈mC h t,¬In s.fr p)→h<f→deep+(h:Int)≤16→
 ad8 th key op s (cS th key op f s (pg h t) deep) h (dL h t) (mC h t) (te h t) (cL th key op f s (pg h t) deep) (cE' th key op f s (pg h t) deep)
 |0,s,t,f,deep,ho,hr,ht,hp,hf,hd=>by
  cases f with
  |zero=>omega
  |succ f=>exact akO hk hv ho hr ht (by omega)
 |h+1,s,t,f,deep,ho,hr,ht,hp,hf,hd=>by
  cases f with
  |zero=>omega
  |succ f=>
  obtain⟨n,Q⟩:=t
  obtain⟨hr1,wO⟩:=(show Rd th s.m n false [] (Q.map (cK h))∧∀k∈Q,rep th s.m h k.2 from hr)
  obtain⟨hQ,hQb,iX,bH,zt,hT⟩:=(show Q≠[]∧bQ Q=Q∧gh (Q.map (cK h))=true∧lU h Q≤254∧zZ h Q∧∀k∈Q,nY h k.2 from ht)
  obtain⟨e1,e2,e3,e4⟩:=hr1.nd (deep:=deep) (by omega)
  obtain⟨A,k,B,eQ,ep,y5,pJ⟩:=acm (key:=key) hQ hQb iX
  have ct:Q.map (cK h)≠[]:=by cases Q with|nil=>exact absurd rfl hQ|cons q r=>simp
  have egd:(Q.map (cK h)).getD A.length dB=cK h k:=by rw[eQ];simp[List.getD]
  have etk:(Q.map (cK h)).take A.length=A.map (cK h):=by rw[eQ];simp
  have edp:(Q.map (cK h)).drop (A.length+1)=B.map (cK h):=by
   rw[eQ,List.map_append,List.map_cons,←List.drop_drop]
   have e:(A.map (cK h)++cK h k::B.map (cK h)).drop A.length=cK h k::B.map (cK h):=by
    have:=List.drop_left (l₁:=A.map (cK h)) (l₂:=cK h k::B.map (cK h))
    rw[List.length_map]at this
    exact this
   rw[e];rfl
  have epg:bL h Q=bL h A++(mC h k.2++bL h B):=by rw[eQ,qN,iy]
  have hpn:¬In s.fr n:=hp n List.mem_cons_self
  have hpA:∀p∈bL h A,¬In s.fr p:=fun p j8=>hp p (List.mem_cons_of_mem _ (show p∈bL h Q from by rw[epg];exact List.mem_append_left _ j8))
  have hpk:∀p∈mC h k.2,¬In s.fr p:=fun p j8=>hp p (List.mem_cons_of_mem _ (show p∈bL h Q from by rw[epg];exact List.mem_append_right _ (List.mem_append_left _ j8)))
  have hpB:∀p∈bL h B,¬In s.fr p:=fun p j8=>hp p (List.mem_cons_of_mem _ (show p∈bL h Q from by rw[epg];exact List.mem_append_right _ (List.mem_append_right _ j8)))
  have kin:k∈Q:=by rw[eQ];exact List.mem_append_right _ List.mem_cons_self
  have ih:=acn hk hv h (s:=s) (t:=k.2) (f:=f) (deep:=deep+1) ho (wO k kin) (hT k kin) hpk (by omega) (by omega)
  have epk:(cK h k).2.1=pg h k.2:=rfl
  have ekk:(cK h k).1=k.1:=rfl
  show ad8 th key op s (cS th key op (f+1) s n deep) (h+1) (bK h Q) (n::bL h Q) (3^(h+1)*(19+w7 (lU h Q))+eO h Q) (cL th key op (f+1) s n deep) (cE' th key op (f+1) s n deep)
  have ed:vO th key op (f+1) s.m s.fu s.fr s.fs s.gn n deep=if cE' th key op f s (pg h k.2) (deep+1)≠0 then
   ((cS th key op f s (pg h k.2) (deep+1)).m,(cS th key op f s (pg h k.2) (deep+1)).fu,(cS th key op f s (pg h k.2) (deep+1)).fr,(cS th key op f s (pg h k.2) (deep+1)).fs,(cS th key op f s (pg h k.2) (deep+1)).gn,[],cE' th key op f s (pg h k.2) (deep+1))
   else gV (lvT (cS th key op f s (pg h k.2) (deep+1)) n).gn (bo th (lvT (cS th key op f s (pg h k.2) (deep+1)) n).m (lvT (cS th key op f s (pg h k.2) (deep+1)) n).fu (lvT (cS th key op f s (pg h k.2) (deep+1)) n).fr (lvT (cS th key op f s (pg h k.2) (deep+1)) n).fs false [] (A.map (cK h)++kT k.1 (cL th key op f s (pg h k.2) (deep+1))++B.map (cK h))):=by
   rw[fZ,if_neg (by rw[e1];simp),if_neg (by rw[e2];simp),e4,if_neg ct,e3,ep,egd,etk,edp,epk,ekk]
   rfl
  generalize cS th key op f s (pg h k.2) (deep+1)=s2 at ih ed
  generalize cL th key op f s (pg h k.2) (deep+1)=l2 at ih ed
  generalize cE' th key op f s (pg h k.2) (deep+1)=x2 at ih ed
  rcases ih with⟨hx,hc,N,V,rest,k0,F,g⟩|⟨hx,N,V,g⟩
  ·rw[if_neg (by rw[hx];simp),g.l,ahj,abX,←List.map_append,←List.map_append]at ed
   have hnN:n ∉ N:=fun hh=>hpn (g.qY.sub n hh)
   have l1:qP th s (lvT s2 n) N (V++[n]):=by
    have:=eY g.qY (ad0 g.qY.ok n) (fun p j8=>by rw[List.mem_singleton.1 j8];exact hnN)
    rw[List.append_nil]at this
    exact this
   have ho3:=l1.ok
   obtain⟨j1,j2,j3,j4,j5,j6⟩:=aht (th:=th) (m:=(lvT s2 n).m) (A:=A) (B:=B) (F:=F) (k:=k) (key:=key) (op:=op) (by rw[←eQ];exact hQb) (by rw[←eQ];exact iX) (by rw[←eQ];exact zt) (by rw[←eQ];exact hT)
    (fun x hx=>g.qY.rep h (wO x (by rw[eQ];exact List.mem_append_left _ hx)) fun p j8=>hpA p (List.mem_flatMap.2 ⟨x,hx,j8⟩))
    (fun x hx=>g.qY.rep h (wO x (by rw[eQ];exact List.mem_append_right _ (List.mem_cons_of_mem _ hx))) fun p j8=>hpB p (List.mem_flatMap.2 ⟨x,hx,j8⟩)) g.fr g.dL y5 pJ
   rw[←eQ]at j3 j4 j5 j6
   have atS:aa ((A++bX k.1 F++B).map (cK h))=(bQ (A++bX k.1 F++B)).map (cK h):=jL _
   have pgJ:bL h (bQ (A++bX k.1 F++B))=bL h A++bL h F++bL h B:=by rw[ym,qN,qN,aj0]
   have atT:eO h (bQ (A++bX k.1 F++B))=eO h A+eO h F+eO h B:=by rw[yn,qO,qO,aj1]
   have avo:eO h Q=eO h A+te h k.2+eO h B:=by rw[eQ,qO,gD];omega
   have atU:∀p∈bL h (bQ (A++bX k.1 F++B)),¬In (lvT s2 n).fr p:=fun p j8 di=>by
    obtain⟨i1,i2⟩:=(l1.fr p).1 di
    rw[pgJ]at j8
    rcases List.mem_append.1 j8 with j8|j8
    ·rcases List.mem_append.1 j8 with j8|j8
     ·exact hpA p j8 i1
     ·rcases List.mem_append.1 ((g.new.mem_iff).1 j8)with j8|j8
      ·exact i2 j8
      ·exact hpk p ((g.old.mem_iff).2 (List.mem_append_right _ j8)) i1
    ·exact hpB p j8 i1
   have c1:cS th key op (f+1) s n deep=sS th (lvT s2 n) false [] ((A++bX k.1 F++B).map (cK h)):=by unfold cS pC pD pE qL rV;rw[ed];rfl
   have c2:cL th key op (f+1) s n deep=sL th (lvT s2 n) false [] ((A++bX k.1 F++B).map (cK h)):=by unfold cL tc;rw[ed];rfl
   have c3:cE' th key op (f+1) s n deep=sE th (lvT s2 n) false [] ((A++bX k.1 F++B).map (cK h)):=by unfold cE' rW;rw[ed];rfl
   rw[c1,c2,c3]
   have old:(n::bL h Q).Perm ((V++[n])++(rest++(bL h A++bL h B))):=by
    rw[epg]
    have a1:(bL h A++(mC h k.2++bL h B)).Perm (mC h k.2++(bL h A++bL h B)):=by
     rw[←List.append_assoc,←List.append_assoc]
     exact List.Perm.append_right _ List.perm_append_comm
    have a2:(mC h k.2++(bL h A++bL h B)).Perm ((V++rest)++(bL h A++bL h B)):=List.Perm.append_right _ g.old
    have a3:=(List.Perm.cons n (a1.trans a2))
    refine a3.trans ?_
    rw[List.append_assoc,List.append_assoc V [n],List.singleton_append]
    exact List.perm_middle.symm
   have atV:(bL h (bQ (A++bX k.1 F++B))).Perm (N++(rest++(bL h A++bL h B))):=by
    rw[pgJ]
    have a1:(bL h A++bL h F++bL h B).Perm (bL h F++(bL h A++bL h B)):=by
     rw[←List.append_assoc]
     exact List.Perm.append_right _ List.perm_append_comm
    refine a1.trans ?_
    rw[←List.append_assoc N]
    exact List.Perm.append_right _ g.new
   by_cases hJ:bQ (A++bX k.1 F++B)=[]
   ·have h0:(A++bX k.1 F++B)=[]:=by
     cases hx:A++bX k.1 F++B with
     |nil=>rfl
     |cons x r=>rw[hx]at hJ;cases hJ
    obtain⟨a,b,c⟩:=afM (l:=false) (es:=[]) (bs:=(A++bX k.1 F++B).map (cK h)) ho3 (by rw[h0];rfl)
    have p0:=atV
    rw[hJ]at p0
    refine .inl ⟨a,by rw[j4];exact hc,N++[],(V++[n])++[],rest++(bL h A++bL h B),ByteArray.empty,[],eY l1 c (fun p hp=>by cases hp), ?_,b,afN, ?_, ?_, ?_,Nat.zero_le _,fun _=>Nat.zero_le _, ?_⟩
    ·rw[List.append_nil];have:=g.len;omega
    ·rw[←j3,hJ];rfl
    ·rw[List.append_nil];exact old
    ·rw[List.append_nil];exact p0
    ·show 0+(0 - 1)*_≤_
     rw[Nat.zero_sub,Nat.zero_mul];exact Nat.zero_le _
   ·have z27:=j6 g.two
    rcases afQ ho3 atS hJ j1 atU j2 (by omega)with⟨a,N2,k2,F2,b,c,d,e,i,i2,i3⟩|⟨a,b⟩
    ·refine .inl ⟨a,by rw[j4];exact hc,N++N2,(V++[n])++[],rest++(bL h A++bL h B),k2,F2,eY l1 b (fun p hp=>by cases hp), ?_,d,e,by rw[i,j3],by rw[List.append_nil];exact old, ?_, ?_,fun hn=> ?_, ?_⟩
     ·rw[List.length_append];have:=g.len;omega
     ·refine i2.trans ?_
      refine(List.Perm.append_left N2 atV).trans ?_
      rw[←List.append_assoc]
      exact List.Perm.append_right _ List.perm_append_comm
     ·rcases i3 with⟨_,i3,_⟩|⟨_,i3,_⟩<;>omega
     ·rcases i3 with⟨_,i3,_⟩|⟨i4,i3,_⟩
      ·omega
      ·have:=j5 (g.del hn);omega
     ·have gp:=g.te
      have e3:3^(h+1)=3*3^h:=by rw[Nat.pow_succ,Nat.mul_comm]
      rw[e3,avo]
      rcases i3 with⟨_,i4,i5⟩|⟨i6,i4,i5⟩
      ·rw[i5,i4,atT,e3,Nat.sub_self,Nat.zero_mul,Nat.add_zero]
       refine akP (opP op) gp g.two ⟨fun hl=> ?_,fun hl=> ?_⟩
       ·have:=j5 hl;unfold w7;omega
       ·unfold w7;omega
      ·have h2:F.length=2:=by
        rcases Nat.lt_or_ge 1 F.length with hl|hl
        ·have:=g.two;omega
        ·have:=j5 hl;omega
       rw[h2]at gp
       rw[i5,i4,atT,e3]
       exact ahu (opP op) gp (by unfold w7;omega)
    ·exact .inr ⟨a,akN l1 (by have:=g.len;omega) (fun p hp=>(old.mem_iff).2 (List.mem_append_left _ hp)) b⟩
  ·rw[if_pos hx]at ed
   have c1:cS th key op (f+1) s n deep=s2:=by unfold cS pC pD pE qL rV;rw[ed]
   have c3:cE' th key op (f+1) s n deep=x2:=by unfold cE' rW;rw[ed]
   rw[c1,c3]
   refine .inr ⟨hx,N,V,g.qY,by have:=g.len;omega,fun p j8=>List.mem_cons_of_mem _ ?_, ?_⟩
   ·rw[epg];exact List.mem_append_right _ (List.mem_append_left _ (g.sub p j8))
   ·rcases g.how with⟨a,b⟩|a
    ·refine .inl ⟨a, ?_⟩
     have sAB:=zt.1
     rw[eQ,List.pairwise_append]at sAB
     have eAk:∀x∈bK h A,slt x.1 key=true:=fun x hx=>by
      obtain⟨y,hy,hxy⟩:=List.mem_flatMap.1 hx
      exact ez (sAB.2.2 y hy k List.mem_cons_self x hxy) y5
     have eBk:∀x∈bK h B,slt key x.1=true:=fun x hx=>by
      obtain⟨y,hy,hxy⟩:=List.mem_flatMap.1 hx
      exact ez (pJ y hy) (zt.2 y (by rw[eQ];exact List.mem_append_right _ (List.mem_cons_of_mem _ hy)) x hxy)
     rw[eQ,jK,gj,←List.append_assoc,afS eAk eBk]
     exact b
    ·exact .inr a
end Ts
namespace Ts
open Go Go.Sx Go.Proofs Lf
def aN(th:Th)(m:As)(root:Int)(h:Nat)(E:List En)(ps:List Int)(po:Nat):Prop:=
 (root=0∧h=0∧E=[]∧ps=[]∧po=0)∨∃t:TN h,root=pg h t∧2≤root∧root<1024∧rep th m h t∧nY h t∧E=dL h t∧ps=mC h t∧po=te h t
def tS(th:Th)(key:ByteArray)(op:Option ByteArray)(s:S5)(root:Int):S5:=
 ⟨xa th key op s.m s.fu root s.fr s.fs s.gn,xb th key op s.m s.fu root s.fr s.fs s.gn,xc th key op s.m s.fu root s.fr s.fs s.gn,ab6 th key op s.m s.fu root s.fr s.fs s.gn,ab7 th key op s.m s.fu root s.fr s.fs s.gn⟩
structure afV (th:Th) (key:ByteArray) (op:Option ByteArray) (s t:S5) (h:Nat) (old:List En) (ps:List Int) (po:Nat) (l:List Br) (N V rest:List Int) (k0:ByteArray) (h2:Nat) (F:List (Kd h2)):Prop where
 qY:qP th s t N V
 l:l=kT k0 (F.map (cK h2))
 fr:For th t.m h2 F
 dL:bK h2 F=kU key op old
 old:ps.Perm (V++rest)
 new:(bL h2 F).Perm (N++rest)
 one:F.length≤1
 te:eO h2 F≤po+opP op
 hh:h2≤h+1
structure ara (th:Th) (key:ByteArray) (op:Option ByteArray) (s t:S5) (h:Nat) (old:List En) (e:Int) (N V:List Int):Prop where
 qY:qP th s t N V
 len:N.length≤2*h+3
 how:(e=5∧py key op old=5)∨(e=41∧∀p,In s.fr p→p∈N)∨(e=42∧t.fu=0)
def stC(c:Chg):S5:=⟨c.1,c.2.1,c.2.2.1,c.2.2.2.1,c.2.2.2.2.1⟩
theorem For.okB{th:Th}{m:As}{h:Nat}{F:List (Kd h)}(f:For th m h F):gh (F.map (cK h))=true:=by
 rw[fV]
 refine⟨fun b hb=> ?_, ?_⟩
 ·obtain⟨x,hx,rfl⟩:=List.mem_map.1 hb
  exact⟨f.key x hx,f.pg x hx⟩
 ·rw[List.pairwise_map]
  refine List.Pairwise.imp_of_mem (fun{a b} ha hb hab=> ?_) f.sep.1
  obtain⟨e,he⟩:=List.exists_mem_of_ne_nil _ (qM h (f.ok a ha))
  have a1:=hab e he
  have a2:=f.sep.2 a ha e he
  show slt a.1 b.1=true
  rcases gA a.1 e.1 with h1|h1|h1
  ·exact cq h1 a1
  ·rw[h1];exact a1
  ·rw[a2]at h1;cases h1
theorem akQ{th:Th}{key:ByteArray}{op:Option ByteArray}(hk:1≤key.size∧key.size≤24)(hv:∀v,op=some v→v.size≤100){s:S5}{root:Int}{h:Nat}{E:List En}{ps:List Int}{po:Nat}(ho:xI th s)(H:aN th s.m root h E ps po)(hp:∀p∈ps,¬In s.fr p)(hh:h≤15):
 ad8 th key op s (tS th key op s root) h E ps po (wg th key op s.m s.fu root s.fr s.fs s.gn) (wh th key op s.m s.fu root s.fr s.fs s.gn):=by
 rcases H with⟨h1,h2,h3,h4,h5⟩|⟨t,h1,h2,_,h3,h4,h5,h6,h7⟩
 ·subst h2 h3 h4 h5
  rcases afT key op []with hc|hc
  ·have e:iV th key op s.m s.fu root s.fr s.fs s.gn=gV s.gn (bo th s.m s.fu s.fr s.fs true (kU key op []) []):=by
    unfold iV
    rw[if_neg (by rw[h1];simp),if_neg (by rw[hc];simp),akM hc]
   have c1:tS th key op s root=sS th s true (kU key op []) []:=by unfold tS xa xb xc ab6 ab7;rw[e];rfl
   have c2:wg th key op s.m s.fu root s.fr s.fs s.gn=sL th s true (kU key op []) []:=by unfold wg;rw[e];rfl
   have c3:wh th key op s.m s.fu root s.fr s.fs s.gn=sE th s true (kU key op []) []:=by unfold wh;rw[e];rfl
   rw[c1,c2,c3]
   exact afU hk hv rfl (by decide) (gX ho) (List.Perm.refl _) hc
  ·have e:iV th key op s.m s.fu root s.fr s.fs s.gn=(s.m,s.fu,s.fr,s.fs,s.gn,[],5):=by
    unfold iV
    rw[if_neg (by rw[h1];simp),if_pos (by rw[hc];simp),hc]
   have c1:tS th key op s root=s:=by unfold tS xa xb xc ab6 ab7;rw[e]
   have c3:wh th key op s.m s.fu root s.fr s.fs s.gn=5:=by unfold wh;rw[e]
   rw[c1,c3]
   exact .inr ⟨by decide,[],[],gX ho,by simp,fun p hp=>(by cases hp),.inl ⟨rfl,hc⟩⟩
 ·subst h5 h6 h7
  have e:iV th key op s.m s.fu root s.fr s.fs s.gn=vO th key op 17 s.m s.fu s.fr s.fs s.gn (pg h t) 1:=by
   unfold iV
   rw[if_pos (by omega),h1]
  have g:=acn (op:=op) hk hv h (s:=s) (t:=t) (f:=17) (deep:=1) ho h3 h4 hp (by omega) (by omega)
  have c1:tS th key op s root=cS th key op 17 s (pg h t) 1:=by unfold tS xa xb xc ab6 ab7;rw[e];rfl
  have c2:wg th key op s.m s.fu root s.fr s.fs s.gn=cL th key op 17 s (pg h t) 1:=by unfold wg;rw[e];rfl
  have c3:wh th key op s.m s.fu root s.fr s.fs s.gn=cE' th key op 17 s (pg h t) 1:=by unfold wh;rw[e];rfl
  rw[c1,c2,c3]
  exact g
theorem anv{th:Th}{key:ByteArray}{op:Option ByteArray}{s:S5}{h:Nat}{E:List En}{ps:List Int}{po:Nat}{c:Chg}(hp:∀p∈ps,¬In s.fr p)(H:ad8 th key op s (stC c) h E ps po c.2.2.2.2.2.1 c.2.2.2.2.2.2):
 ((upT th c).2.2.2.2.2.2=0∧py key op E=0∧∃N V rest k0 h2 F,afV th key op s (stC (upT th c)) h E ps po (upT th c).2.2.2.2.2.1 N V rest k0 h2 F)∨((upT th c).2.2.2.2.2.2≠0∧∃N V,ara th key op s (stC (upT th c)) h E (upT th c).2.2.2.2.2.2 N V):=by
 rcases H with⟨hx,hc,N,V,rest,k0,F,g⟩|⟨hx,N,V,g⟩
 ·have hlen:c.2.2.2.2.2.1.length=F.length:=by rw[g.l,v7,List.length_map]
  by_cases h2:F.length=2
  ·have hu:upT th c=gV c.2.2.2.2.1 (bo th c.1 c.2.1 c.2.2.1 c.2.2.2.1 false [] c.2.2.2.2.2.1):=if_pos ⟨hx,by rw[hlen,h2];decide⟩
   have hb:aa c.2.2.2.2.2.1=F.map (cK h):=by
    rw[g.l,abX,jL,ahk,g.fr.bare]
   have hpF:∀p∈bL h F,¬In (stC c).fr p:=fun p j8 di=>by
    obtain⟨i1,i2⟩:=(g.qY.fr p).1 di
    rcases List.mem_append.1 ((g.new.mem_iff).1 j8)with j8|j8
    ·exact i2 j8
    ·exact hp p ((g.old.mem_iff).2 (List.mem_append_right _ j8)) i1
   have bH:lU h F≤55:=by
    have e:=adZ F
    have e2:hU (F.map (cK h))≤54:=by
     match F,h2,g.fr with
     |[a,b],_,f=>
      have k1:=f.key a List.mem_cons_self
      have k2:=f.key b (List.mem_cons_of_mem _ List.mem_cons_self)
      rw[List.map_cons,List.map_cons,dh,dh]
      show pv (cK h a)+(pv (cK h b)+0)≤54
      have e3:pv (cK h a)=3+(a.1.size:Int):=rfl
      have e4:pv (cK h b)=3+(b.1.size:Int):=rfl
      omega
    omega
   have ct:F≠[]:=fun e=>by rw[e]at h2;cases h2
   have hw:=afQ (s:=stC c) (bs:=c.2.2.2.2.2.1) g.qY.ok hb ct g.fr hpF g.fr.okB (by omega)
   have c1:stC (upT th c)=sS th (stC c) false [] c.2.2.2.2.2.1:=by rw[hu];rfl
   have c2:(upT th c).2.2.2.2.2.1=sL th (stC c) false [] c.2.2.2.2.2.1:=by rw[hu];rfl
   have c3:(upT th c).2.2.2.2.2.2=sE th (stC c) false [] c.2.2.2.2.2.1:=by rw[hu];rfl
   rw[c1,c2,c3]
   rcases hw with⟨a,N2,k2,F2,b,cc,d,e,i,i2,i3⟩|⟨a,N2,b1,b2,b3⟩
   ·refine .inl ⟨a,hc,N++N2,V++[],rest,k2,h+1,F2,eY g.qY b (fun p hp=>by cases hp),d,e,by rw[i,g.dL],by rw[List.append_nil];exact g.old, ?_, ?_, ?_,Nat.le_refl _⟩
    ·refine i2.trans ?_
     refine(List.Perm.append_left N2 g.new).trans ?_
     rw[←List.append_assoc]
     exact List.Perm.append_right _ List.perm_append_comm
    ·rcases i3 with⟨_,i3,_⟩|⟨i3,_⟩<;>omega
    ·have gp:=g.te
     rw[h2]at gp
     rcases i3 with⟨_,_,i3⟩|⟨i3,_⟩
     ·have o0:w7 (lU h F)=0:=by unfold w7;omega
      rw[i3,o0,Nat.pow_succ]
      omega
     ·omega
   ·refine .inr ⟨a,N++N2,V++[],eY g.qY b1 (fun p hp=>by cases hp),by rw[List.length_append];have:=g.len;omega,.inr (b3.imp (fun x=>⟨x.1,fun p j8=> ?_⟩) id)⟩
    by_cases hpn:p∈N
    ·exact List.mem_append_left _ hpn
    ·exact List.mem_append_right _ (x.2 p ((g.qY.fr p).2 ⟨j8,hpn⟩))
  ·have hu:upT th c=c:=r5 (fun a=>h2 (by have:=a.2;rw[hlen]at this;have:=g.two;omega))
   rw[hu]
   have gp:=g.te
   have g2:=g.two
   refine .inl ⟨hx,hc,N,V,rest,k0,h,F,g.qY,g.l,g.fr,g.dL,g.old,g.new,by omega, ?_,by omega⟩
   have:F.length - 1=0:=by omega
   rw[this,Nat.zero_mul,Nat.add_zero]at gp
   exact gp
 ·have hu:upT th c=c:=r5 (fun a=>hx a.1)
  rw[hu]
  exact .inr ⟨hx,N,V,g.qY,by have:=g.len;omega,g.how⟩
theorem wo{th:Th}:∀(h:Nat) {s:S5} {t:TN h} {f:Nat} {deep:Int},xI th s→rep th s.m h t→nY h t→2≤pg h t∧pg h t<1024→h<f→deep+(h:Int)≤16→
 w9 th s.m f s.fs s.gn (pg h t) deep=0∧∃(h2:Nat) (t2:TN h2) (W:List Int),w8 th s.m f s.fs s.gn (pg h t) deep=pg h2 t2∧(2≤pg h2 t2∧pg h2 t2<1024)∧qP th s ⟨s.m,s.fu,s.fr,wc th s.m f s.fs s.gn (pg h t) deep,we th s.m f s.fs s.gn (pg h t) deep⟩ [] W∧
  rep th s.m h2 t2∧nY h2 t2∧dL h2 t2=dL h t∧(mC h t).Perm (W++mC h2 t2)∧te h2 t2≤te h t∧h2≤h
 |0,s,t,f,deep,ho,hr,ht,hp,hf,hd=>by
  cases f with
  |zero=>omega
  |succ f=>
   have ei:Rd th s.m (pg 0 t) true t.2 []:=hr
   obtain⟨e1,e2,e3,e4⟩:=ei.nd (deep:=deep) (by omega)
   have e:ot th s.m (f+1) s.fs s.gn (pg 0 t) deep=(s.fs,s.gn,pg 0 t,0):=by rw[ot,if_neg (by rw[e1];simp),if_pos (.inl e2)]
   refine⟨by unfold w9;rw[e],0,t,[],by unfold w8;rw[e],hp, ?_,hr,ht,rfl,List.Perm.refl _,Nat.le_refl _,Nat.le_refl _⟩
   unfold wc we;rw[e];exact gX ho
 |h+1,s,t,f,deep,ho,hr,ht,hp,hf,hd=>by
  cases f with
  |zero=>omega
  |succ f=>
   obtain⟨n,Q⟩:=t
   obtain⟨hr1,wO⟩:=(show Rd th s.m n false [] (Q.map (cK h))∧∀k∈Q,rep th s.m h k.2 from hr)
   obtain⟨hQ,hQb,iX,bH,zt,hT⟩:=(show Q≠[]∧bQ Q=Q∧gh (Q.map (cK h))=true∧lU h Q≤254∧zZ h Q∧∀k∈Q,nY h k.2 from ht)
   obtain⟨e1,e2,e3,e4⟩:=hr1.nd (deep:=deep) (by omega)
   show w9 th s.m (f+1) s.fs s.gn n deep=0∧∃(h2:Nat) (t2:TN h2) (W:List Int),w8 th s.m (f+1) s.fs s.gn n deep=pg h2 t2∧(2≤pg h2 t2∧pg h2 t2<1024)∧qP th s ⟨s.m,s.fu,s.fr,wc th s.m (f+1) s.fs s.gn n deep,we th s.m (f+1) s.fs s.gn n deep⟩ [] W∧
    rep th s.m h2 t2∧nY h2 t2∧dL h2 t2=bK h Q∧(n::bL h Q).Perm (W++mC h2 t2)∧te h2 t2≤3^(h+1)*(19+w7 (lU h Q))+eO h Q∧h2≤h+1
   by_cases h1:Q.length=1
   ·match Q,h1 with
    |[k],_=>
     have kin:k∈[k]:=List.mem_cons_self
     have e:ot th s.m (f+1) s.fs s.gn n deep=ot th s.m f (je s.fs n) (pz s.fs s.gn n) (pg h k.2) (deep+1):=by
      rw[ot,if_neg (by rw[e1];simp),if_neg (by rintro(a|a);rw[e2]at a;cases a;rw[e4]at a;exact a rfl),e4];rfl
     have l1:=ad0 ho n
     have pk:2≤pg h k.2∧pg h k.2<1024:=((fV.1 iX).1 (cK h k) (List.mem_map_of_mem kin)).2
     obtain⟨a,h2,t2,W,b,b2,c,d,d2,d3,d4,d5,d6⟩:=wo h (s:=lvT s n) (t:=k.2) (f:=f) (deep:=deep+1) l1.ok (wO k kin) (hT k kin) pk (by omega) (by omega)
     refine⟨by unfold w9 at a ⊢;rw[e];exact a,h2,t2,[n]++W,by unfold w8 at b ⊢;rw[e];exact b,b2, ?_,d,d2, ?_, ?_, ?_,by omega⟩
     ·have:=eY l1 c (fun p _=>List.not_mem_nil)
      unfold wc we at this ⊢
      rw[e]
      exact this
     ·show dL h2 t2=dL h k.2++[]
      rw[List.append_nil,d3]
     ·show(n::(mC h k.2++[])).Perm (n::(W++mC h2 t2))
      rw[List.append_nil]
      exact d4.cons n
     ·show te h2 t2≤3^(h+1)*(19+w7 (lU h [k]))+eO h [k]
      have:eO h [k]=te h k.2:=by rw[gD];rfl
      omega
   ·have e:ot th s.m (f+1) s.fs s.gn n deep=(s.fs,s.gn,n,0):=by
     rw[ot,if_neg (by rw[e1];simp),if_pos (.inr (by rw[e4,List.length_map];exact h1))]
    refine⟨by unfold w9;rw[e],h+1,(n,Q),[],by unfold w8;rw[e];rfl,hp, ?_,hr,ht,rfl,List.Perm.refl _,Nat.le_refl _,Nat.le_refl _⟩
    unfold wc we;rw[e];exact gX ho
end Ts
namespace Ts
open Go Go.Sx Go.Proofs Lf
structure Inv (F0:Int→Prop) (fr fs:Ws) (ps:List Int):Prop where
 nd:ps.Nodup
 cov:∀p,F0 p↔In fr p∨In fs p
 dis:∀p,In fr p→¬In fs p
 sub:∀p,In fs p→p∈ps
 top:∀p∈ps,F0 p→In fs p
structure TI (th:Th) (F0:Int→Prop) (m:As) (fu root:Int) (fr fs gn:Ws) (h:Nat) (E:List En) (ps:List Int) (po:Nat):Prop where
 ok:xI th ⟨m,fu,fr,fs,gn⟩
 gz:gn=Bx.aP
 f0:∀p,F0 p→2≤p∧Ds.vg th p=true
 holds:aN th m root h E ps po
 inv:Inv F0 fr fs ps
structure arb (th:Th) (key:ByteArray) (op:Option ByteArray) (m:As) (fu:Int) (fr:Ws) (h:Nat) (E:List En) (m':As) (gC e:Int):Prop where
 d:Ds.bM th m' gC
 rd:∀p,¬In fr p→Ds.jo th m' p=Ds.jo th m p∧Ds.hC th m' p=Ds.hC th m p
 fu:fu= -1→gC= -1
 how:(e=5∧py key op E=5)∨(e=41∧∃N:List Int,N.length≤2*h+3∧∀p,In fr p→p∈N)∨(e=42∧gC=0)
structure yx (th:Th) (F0:Int→Prop) (key:ByteArray) (op:Option ByteArray) (m:As) (fu:Int) (fr:Ws) (ps:List Int) (E:List En) (po:Nat) (r:Chs) (h':Nat) (ps':List Int) (tJ:Nat):Prop where
 ti:TI th F0 r.1 r.2.1 r.2.2.1 r.2.2.2.1 r.2.2.2.2.1 r.2.2.2.2.2.1 h' (kU key op E) ps' tJ
 po:tJ≤po+opP op
 rd:∀p,¬F0 p→Ds.jo th r.1 p=Ds.jo th m p∧Ds.hC th r.1 p=Ds.hC th m p
 fu:fu= -1→r.2.1= -1
 new:∀p∈ps',p∈ps∨In fr p
theorem ao1:∀(h:Nat) {t:TN (h+1)},19*3^(h+1)≤te (h+1) t:=fun h t=>by
 have:3^(h+1)*19≤3^(h+1)*(19+w7 (lU h t.2)):=Nat.mul_le_mul_left _ (by omega)
 rw[ajZ]
 omega
theorem aN.arc{th:Th}{m:As}{root:Int}{h:Nat}{E:List En}{ps:List Int}{po:Nat}(H:aN th m root h E ps po)(hp:po<19*3^15):h≤14:=by
 rcases H with⟨_,h2,_⟩|⟨t,_,_,_,_,_,_,_,h7⟩
 ·omega
 ·cases h with
  |zero=>omega
  |succ h=>
   have a:=ao1 h (t:=t)
   rw[←h7]at a
   have b:3^(h+1)<3^15:=by omega
   have:=(Nat.pow_lt_pow_iff_right (show 1<3 by omega)).1 b
   omega
theorem TI.free{th:Th}{F0:Int→Prop}{m:As}{fu root:Int}{fr fs gn:Ws}{h:Nat}{E:List En}{ps:List Int}{po:Nat}(T:TI th F0 m fu root fr fs gn h E ps po):∀p∈ps,¬In fr p:=fun p hp hf=>T.inv.dis p hf (T.inv.top p hp ((T.inv.cov p).2 (.inl hf)))
theorem aco{th:Th}{F0:Int→Prop}{s t u:S5}{N V W rest ps pk ps':List Int}(hf0:∀p,F0 p→2≤p∧Ds.vg th p=true)(hg:∀p,¬In s.gn p)(I:Inv F0 s.fr s.fs ps)(e1:qP th s t N V)(e2:qP th t u [] W)(o:ps.Perm (V++rest))(n:pk.Perm (N++rest))(l:pk.Perm (W++ps')):
 Inv F0 (Bx.db .or u.fr u.gn) u.fs ps'∧xI th ⟨u.m,u.fu,Bx.db .or u.fr u.gn,u.fs,Bx.aP⟩:=by
 have ho:=e2.ok
 have frI:∀p,In (Bx.db .or u.fr u.gn) p↔In u.fr p∨In u.gn p:=fun p=>asM ho.fr ho.gn
 have ufr:∀p,In u.fr p↔In s.fr p∧p ∉ N:=fun p=>by rw[e2.fr,e1.fr];exact⟨fun x=>x.1,fun x=>⟨x,List.not_mem_nil⟩⟩
 have tfs:=e1.fs
 have ufs:∀p,In u.fs p↔In t.fs p∧p ∉ W:=fun p=>by rw[e2.fs];exact⟨fun x=>x.elim id (fun y=>by cases y),.inl⟩
 have ugn:∀p,In u.gn p↔(In s.fs p∧p∈V)∨(In t.fs p∧p∈W):=fun p=>by
  rw[e2.gn,e1.gn]
  exact⟨fun x=>x.elim (fun y=>y.elim (fun z=>absurd z (hg p)) .inl) .inr,fun x=>x.elim (fun y=>.inl (.inr y)) .inr⟩
 have ndo:=(o.nodup_iff).1 I.nd
 obtain⟨nV,nR,dVR⟩:=List.nodup_append.1 ndo
 have ndn:(N++rest).Nodup:=List.nodup_append.2 ⟨e1.nd,nR,fun a ha b hb hab=>by
  subst hab
  have hps:a∈ps:=(o.mem_iff).2 (List.mem_append_right _ hb)
  have hfr:=e1.sub a ha
  exact I.dis a hfr (I.top a hps ((I.cov a).2 (.inl hfr)))⟩
 have ndl:=(l.nodup_iff).1 ((n.nodup_iff).2 ndn)
 obtain⟨nW,nP,dWP⟩:=List.nodup_append.1 ndl
 have mem:∀p,(p∈N∨p∈rest)↔(p∈W∨p∈ps'):=fun p=>by
  rw[←List.mem_append,←List.mem_append,←n.mem_iff,l.mem_iff]
 have atW:∀p,F0 p↔In (Bx.db .or u.fr u.gn) p∨In u.fs p:=fun p=>by
  rw[I.cov,frI,ufr,ugn,ufs,tfs]
  constructor
  ·rintro(a|a)
   ·by_cases hN:p∈N
    ·by_cases hW:p∈W
     ·exact .inl (.inr (.inr ⟨.inr hN,hW⟩))
     ·exact .inr ⟨.inr hN,hW⟩
    ·exact .inl (.inl ⟨a,hN⟩)
   ·by_cases hV:p∈V
    ·exact .inl (.inr (.inl ⟨a,hV⟩))
    ·by_cases hW:p∈W
     ·exact .inl (.inr (.inr ⟨.inl ⟨a,hV⟩,hW⟩))
     ·exact .inr ⟨.inl ⟨a,hV⟩,hW⟩
  ·rintro((a|a|⟨a|a,_⟩)|⟨a|a,_⟩)
   ·exact .inl a.1
   ·exact .inr a.1
   ·exact .inr a.1
   ·exact .inl (e1.sub p a)
   ·exact .inr a.1
   ·exact .inl (e1.sub p a)
 refine⟨⟨nP,atW,fun p hp hq=> ?_,fun p hp=> ?_,fun p hp hf=> ?_⟩,⟨ho.d,(Bx.nw (.inl rfl) ho.fr ho.gn).1,ho.fs,Bx.eG.1,fun p hp=>hf0 p ((atW p).2 (.inl hp))⟩⟩
 ·rw[frI,ufr,ugn]at hp
  rw[ufs,tfs]at hq
  obtain⟨hq,hw⟩:=hq
  rcases hp with⟨a,b⟩|⟨a,b⟩|⟨_,b⟩
  ·rcases hq with⟨c,_⟩|c
   ·exact I.dis p a c
   ·exact b c
  ·rcases hq with⟨_,c⟩|c
   ·exact c b
   ·exact I.dis p (e1.sub p c) a
  ·exact hw b
 ·rw[ufs,tfs]at hp
  obtain⟨hp,hw⟩:=hp
  have:p∈N∨p∈rest:=hp.elim (fun x=>.inr ((List.mem_append.1 ((o.mem_iff).1 (I.sub p x.1))).resolve_left x.2)) .inl
  exact((mem p).1 this).resolve_left hw
 ·rw[ufs,tfs]
  have hw:p ∉ W:=fun hw=>dWP p hw p hp rfl
  refine⟨?_,hw⟩
  rcases(mem p).2 (.inr hp)with a|a
  ·exact .inr a
  ·exact .inl ⟨I.top p ((o.mem_iff).2 (List.mem_append_right _ a)) hf,fun hv=>dVR p hv p a rfl⟩
theorem afW{th:Th}{F0:Int→Prop}{m:As}{fu root:Int}{fr fs gn:Ws}{h:Nat}{E:List En}{ps:List Int}{po:Nat}(T:TI th F0 m fu root fr fs gn h E ps po):∀p,¬In gn p:=fun p=>by rw[T.gz];exact eX
theorem ao2{h:Nat}{l:List Br}{k0:ByteArray}{F:List (Kd h)}(e:l=kT k0 (F.map (cK h))):l.length=F.length:=by rw[e,v7,List.length_map]
theorem anw{th:Th}{F0:Int→Prop}{key:ByteArray}{op:Option ByteArray}{m:As}{fu root:Int}{fr fs gn:Ws}{h:Nat}{E:List En}{ps:List Int}{po:Nat}(T:TI th F0 m fu root fr fs gn h E ps po){c:Chg}(hx:c.2.2.2.2.2.2=0){N V rest:List Int}{k0:ByteArray}{h2:Nat}
 (g:afV th key op ⟨m,fu,fr,fs,gn⟩ (stC c) h E ps po c.2.2.2.2.2.1 N V rest k0 h2 []):∃r,jD th root fr fs gn c=r∧r.2.2.2.2.2.2=0∧∃h' ps' tJ,yx th F0 key op m fu fr ps E po r h' ps' tJ:=by
 have ed2:jD th root fr fs gn c=(c.1,c.2.1,0,Bx.db .or c.2.2.1 c.2.2.2.2.1,c.2.2.2.1,Bx.aP,0):=by
  unfold jD nC
  rw[if_neg (fun a=>by rw[ao2 g.l]at a;cases a.2),if_neg (by rw[hx];simp)]
 obtain⟨I,ok⟩:=aco T.f0 (afW T) T.inv g.qY (gX g.qY.ok) g.old (g.new) (ps':=[]) (by exact List.Perm.refl _)
 have hH:aN th c.1 0 0 (kU key op E) [] 0:=.inl ⟨rfl,rfl,g.dL.symm,rfl,rfl⟩
 have hrd:∀p,¬F0 p→Ds.jo th c.1 p=Ds.jo th m p∧Ds.hC th c.1 p=Ds.hC th m p:=fun p hp=>g.qY.rd p (fun hf=>hp ((T.inv.cov p).2 (.inl hf)))
 have hT:TI th F0 c.1 c.2.1 0 (Bx.db .or c.2.2.1 c.2.2.2.2.1) c.2.2.2.1 Bx.aP 0 (kU key op E) [] 0:=⟨ok,rfl,T.f0,hH,I⟩
 exact⟨_,ed2,rfl,0,[],0,hT,Nat.zero_le _,hrd,g.qY.fu,fun p hp=>by cases hp⟩
theorem anx{th:Th}{F0:Int→Prop}{key:ByteArray}{op:Option ByteArray}{m:As}{fu root:Int}{fr fs gn:Ws}{h:Nat}{E:List En}{ps:List Int}{po:Nat}(T:TI th F0 m fu root fr fs gn h E ps po)(hh:h≤14){c:Chg}(hx:c.2.2.2.2.2.2=0){N V rest:List Int}{k0:ByteArray}{h2:Nat}{k:Kd h2}
 (g:afV th key op ⟨m,fu,fr,fs,gn⟩ (stC c) h E ps po c.2.2.2.2.2.1 N V rest k0 h2 [k]):∃r,jD th root fr fs gn c=r∧r.2.2.2.2.2.2=0∧∃h' ps' tJ,yx th F0 key op m fu fr ps E po r h' ps' tJ:=by
 have kin:k∈[k]:=List.mem_cons_self
 have atX:(c.2.2.2.2.2.1.getD 0 dB).2.1=pg h2 k.2:=by rw[g.l];rfl
 have hb2:h2≤15:=by have:=g.hh;omega
 obtain⟨a,h3,t3,W,b,b2,cc,d1,d2,d3,d4,d5,d6⟩:=wo h2 (s:=stC c) (t:=k.2) (f:=17) (deep:=1) g.qY.ok (g.fr.rep k kin) (g.fr.ok k kin) (g.fr.pg k kin) (by omega) (by omega)
 have ed2:jD th root fr fs gn c=(c.1,c.2.1,pg h3 t3,Bx.db .or c.2.2.1 (we th c.1 17 c.2.2.2.1 c.2.2.2.2.1 (pg h2 k.2) 1),wc th c.1 17 c.2.2.2.1 c.2.2.2.2.1 (pg h2 k.2) 1,Bx.aP,0):=by
  unfold jD nC
  have b':w8 th c.1 17 c.2.2.2.1 c.2.2.2.2.1 (pg h2 k.2) 1=pg h3 t3:=b
  have a':w9 th c.1 17 c.2.2.2.1 c.2.2.2.2.1 (pg h2 k.2) 1=0:=a
  rw[if_pos ⟨hx,ao2 g.l⟩,atX,a',b',if_neg (by simp)]
 have hn:(mC h2 k.2).Perm (N++rest):=by
  have:=g.new
  rw[iy]at this
  exact(List.append_nil (mC h2 k.2))▸this
 obtain⟨I,ok⟩:=aco T.f0 (afW T) T.inv g.qY cc g.old hn d4
 have hE:dL h3 t3=kU key op E:=by
  rw[d3,←g.dL,gj]
  exact(List.append_nil _).symm
 have hpo:te h3 t3≤po+opP op:=by
  have:=g.te
  rw[gD]at this
  have e0:eO h2 ([]:List (Kd h2))=0:=rfl
  omega
 have hH:aN th c.1 (pg h3 t3) h3 (kU key op E) (mC h3 t3) (te h3 t3):=.inr ⟨t3,rfl,b2.1,b2.2,d1,d2,hE.symm,rfl,rfl⟩
 have hrd:∀p,¬F0 p→Ds.jo th c.1 p=Ds.jo th m p∧Ds.hC th c.1 p=Ds.hC th m p:=fun p hp=>g.qY.rd p (fun hf=>hp ((T.inv.cov p).2 (.inl hf)))
 have hT:TI th F0 c.1 c.2.1 (pg h3 t3) (Bx.db .or c.2.2.1 (we th c.1 17 c.2.2.2.1 c.2.2.2.2.1 (pg h2 k.2) 1)) (wc th c.1 17 c.2.2.2.1 c.2.2.2.2.1 (pg h2 k.2) 1) Bx.aP h3 (kU key op E) (mC h3 t3) (te h3 t3):=⟨ok,rfl,T.f0,hH,I⟩
 exact⟨_,ed2,rfl,h3,mC h3 t3,te h3 t3,hT,hpo,hrd,g.qY.fu,fun p hp=>(List.mem_append.1 ((hn.mem_iff).1 ((d4.mem_iff).2 (List.mem_append_right _ hp)))).elim (fun x=>.inr (g.qY.sub p x)) (fun x=>.inl ((g.old.mem_iff).2 (List.mem_append_right _ x)))⟩
theorem anz{th:Th}{F0:Int→Prop}{key:ByteArray}{op:Option ByteArray}{m:As}{fu root:Int}{fr fs gn:Ws}{h:Nat}{E:List En}{ps:List Int}{po:Nat}(T:TI th F0 m fu root fr fs gn h E ps po){c:Chg}(hx:c.2.2.2.2.2.2≠0){N V:List Int}(g:ara th key op ⟨m,fu,fr,fs,gn⟩ (stC c) h E c.2.2.2.2.2.2 N V):
 ∃m' gC e,e≠0∧jD th root fr fs gn c=(m',gC,root,fr,fs,gn,e)∧arb th key op m fu fr h E m' gC e:=by
 refine⟨c.1,c.2.1,c.2.2.2.2.2.2,hx, ?_,g.qY.ok.d,fun p hp=>g.qY.rd p hp,g.qY.fu, ?_⟩
 ·unfold jD nC
  rw[if_neg (fun a=>hx a.1),if_pos hx]
 ·exact g.how.imp id (fun x=>x.imp (fun y=>⟨y.1,N,g.len,y.2⟩) id)
theorem ahv{th:Th}{F0:Int→Prop}{key:ByteArray}{op:Option ByteArray}{m:As}{fu root:Int}{fr fs gn:Ws}{h:Nat}{E:List En}{ps:List Int}{po:Nat}(T:TI th F0 m fu root fr fs gn h E ps po)(hh:h≤14){c:Chg}
 (H2:(c.2.2.2.2.2.2=0∧py key op E=0∧∃N V rest k0 h2 F,afV th key op ⟨m,fu,fr,fs,gn⟩ (stC c) h E ps po c.2.2.2.2.2.1 N V rest k0 h2 F)∨(c.2.2.2.2.2.2≠0∧∃N V,ara th key op ⟨m,fu,fr,fs,gn⟩ (stC c) h E c.2.2.2.2.2.2 N V)):
 ((jD th root fr fs gn c).2.2.2.2.2.2=0∧py key op E=0∧∃h' ps' tJ,yx th F0 key op m fu fr ps E po (jD th root fr fs gn c) h' ps' tJ)∨
 (∃m' gC e,e≠0∧jD th root fr fs gn c=(m',gC,root,fr,fs,gn,e)∧arb th key op m fu fr h E m' gC e):=by
 rcases H2 with⟨hx,hc,N,V,rest,k0,h2,F,g⟩|⟨hx,N,V,g⟩
 ·left
  rcases F with _|⟨k,_|⟨k2,r⟩⟩
  ·obtain⟨r,e,h1,h2⟩:=anw T hx g
   rw[e];exact⟨h1,hc,h2⟩
  ·obtain⟨r,e,h1,h2⟩:=anx T hh hx g
   rw[e];exact⟨h1,hc,h2⟩
  ·exact absurd g.one (by simp)
 ·exact .inr (anz T hx g)
theorem akR{th:Th}{F0:Int→Prop}{key:ByteArray}{op:Option ByteArray}{m:As}{fu root:Int}{fr fs gn:Ws}{h:Nat}{E:List En}{ps:List Int}{po:Nat}(T:TI th F0 m fu root fr fs gn h E ps po)(hk:1≤key.size∧key.size≤24)(hv:∀v,op=some v→v.size≤100)(hh:h≤14):
 ((ku th key op m fu root fr fs gn).2.2.2.2.2.2=0∧py key op E=0∧∃h' ps' tJ,yx th F0 key op m fu fr ps E po (ku th key op m fu root fr fs gn) h' ps' tJ)∨
 (∃m' gC e,e≠0∧ku th key op m fu root fr fs gn=(m',gC,root,fr,fs,gn,e)∧arb th key op m fu fr h E m' gC e):=
 ahv T hh (anv (c:=iV th key op m fu root fr fs gn) T.free (akQ (s:=⟨m,fu,fr,fs,gn⟩) (key:=key) (op:=op) hk hv T.ok T.holds T.free (by omega)))
end Ts
namespace Ts
open Go Go.Sx Go.Proofs Lf
def r7{σ:Type}(on:σ→Int→List En→σ):(h:Nat)→TN h→σ→σ
 |0,t,out=>on out t.1 t.2
 |h+1,t,out=>t.2.foldl (fun o k=>r7 on h k.2 o) (on out t.1 [])
theorem acp{X:List En}{key:ByteArray}(h:∀x∈X,x.1≠key):X.find? (zM key)=none:=by
 rw[List.find?_eq_none]
 intro x hx
 simp[zM,h x hx]
theorem anA{X Y Z:List En}{key:ByteArray}(h1:∀x∈X,slt x.1 key=true)(h2:∀z∈Z,slt key z.1=true):pw (X++Y++Z) key=pw Y key∧nv (X++Y++Z) key=nv Y key:=by
 have e1:=acp (X:=X) (key:=key) fun x hx e=>by have:=h1 x hx;rw[e,dJ]at this;cases this
 have e2:=acp (X:=Z) (key:=key) fun x hx e=>by have:=h2 x hx;rw[e,dJ]at this;cases this
 have e:(X++Y++Z).find? (zM key)=Y.find? (zM key):=by
  rw[List.find?_append,List.find?_append,e1,e2]
  cases Y.find? (zM key)<;>rfl
 unfold pw nv
 rw[e]
 exact⟨rfl,rfl⟩
theorem acq{th:Th}{m:As}{key:ByteArray}:∀(h:Nat) {t:TN h} {f:Nat} {deep:Int},rep th m h t→nY h t→h<f→deep+(h:Int)≤16→aad th m key f (pg h t) deep=(pw (dL h t) key,nv (dL h t) key,0)
 |0,t,f,deep,hr,ht,hf,hd=>by
  cases f with
  |zero=>omega
  |succ f=>
   have ei:Rd th m (pg 0 t) true t.2 []:=hr
   obtain⟨e1,e2,e3,e4⟩:=ei.nd (deep:=deep) (by omega)
   rw[aad,if_neg (by rw[e1];simp),if_pos e2,e3]
   rfl
 |h+1,t,f,deep,hr,ht,hf,hd=>by
  cases f with
  |zero=>omega
  |succ f=>
   obtain⟨n,Q⟩:=t
   obtain⟨hr1,wO⟩:=(show Rd th m n false [] (Q.map (cK h))∧∀k∈Q,rep th m h k.2 from hr)
   obtain⟨hQ,hQb,iX,bH,zt,hT⟩:=(show Q≠[]∧bQ Q=Q∧gh (Q.map (cK h))=true∧lU h Q≤254∧zZ h Q∧∀k∈Q,nY h k.2 from ht)
   obtain⟨e1,e2,e3,e4⟩:=hr1.nd (deep:=deep) (by omega)
   obtain⟨A,k,B,eQ,ep,y5,pJ⟩:=acm (key:=key) hQ hQb iX
   have ct:Q.map (cK h)≠[]:=by cases Q with|nil=>exact absurd rfl hQ|cons q r=>simp
   have egd:(Q.map (cK h)).getD A.length dB=cK h k:=by rw[eQ];simp[List.getD]
   have kin:k∈Q:=by rw[eQ];exact List.mem_append_right _ List.mem_cons_self
   show aad th m key (f+1) n deep=(pw (bK h Q) key,nv (bK h Q) key,0)
   rw[aad,if_neg (by rw[e1];simp),if_neg (by rw[e2];simp),e4,if_neg ct,ep,egd]
   have ih:=acq (key:=key) h (f:=f) (deep:=deep+1) (wO k kin) (hT k kin) (by omega) (by omega)
   show aad th m key f (pg h k.2) (deep+1)=_
   rw[ih]
   have sAB:=zt.1
   rw[eQ,List.pairwise_append]at sAB
   have eAk:∀x∈bK h A,slt x.1 key=true:=fun x hx=>by
    obtain⟨y,hy,hxy⟩:=List.mem_flatMap.1 hx
    exact ez (sAB.2.2 y hy k List.mem_cons_self x hxy) y5
   have eBk:∀x∈bK h B,slt key x.1=true:=fun x hx=>by
    obtain⟨y,hy,hxy⟩:=List.mem_flatMap.1 hx
    exact ez (pJ y hy) (zt.2 y (by rw[eQ];exact List.mem_append_right _ (List.mem_cons_of_mem _ hy)) x hxy)
   have e:bK h Q=bK h A++dL h k.2++bK h B:=by rw[eQ,jK,gj,List.append_assoc]
   obtain⟨f1,f2⟩:=anA (Y:=dL h k.2) eAk eBk
   rw[e,f1,f2]
theorem at7{th:Th}{m:As}{root:Int}{key:ByteArray}{h:Nat}{E:List En}{ps:List Int}{po:Nat}(H:aN th m root h E ps po)(hh:h≤15):gtT th m root key=if gk key none=false then(ByteArray.empty,false,1)else(pw E key,nv E key,0):=by
 unfold gtT
 split
 ·rfl
 ·rcases H with⟨h1,_,h3,_⟩|⟨t,h1,h2,_,h3,h4,h5,_⟩
  ·rw[if_pos h1,h3];rfl
  ·rw[if_neg (by omega),h1,acq h h3 h4 (by omega) (by omega),h5]
theorem acr{σ:Type}{g:Ws→σ→Int→Ws×σ×Int}{h:Nat}{step:TN h→σ→σ}:∀(ks:List (Kd h)) {met:Ws} {out:σ},Bx.okW met→
 (∀k∈ks,∀(met:Ws) (out:σ),Bx.okW met→(∀p∈mC h k.2,¬In met p)→∃r8,g met out (pg h k.2)=(r8,step k.2 out,0)∧Bx.okW r8∧∀p,In r8 p↔In met p∨p∈mC h k.2)→
 (∀p∈bL h ks,¬In met p)→(bL h ks).Nodup→∃r8,qU g (ks.map (cK h)) met out=(r8,ks.foldl (fun o k=>step k.2 o) out,0)∧Bx.okW r8∧∀p,In r8 p↔In met p∨p∈bL h ks
 |[],met,out,hw,hg,hm,hn=>⟨met,rfl,hw,fun p=>⟨.inl,fun x=>x.elim id (fun y=>by cases y)⟩⟩
 |k::r,met,out,hw,hg,hm,hn=>by
  rw[iy]at hm hn
  obtain⟨n1,n2,n3⟩:=List.nodup_append.1 hn
  obtain⟨m1,e1,w1,i1⟩:=hg k List.mem_cons_self met out hw (fun p hp=>hm p (List.mem_append_left _ hp))
  obtain⟨m2,e2,w2,i2⟩:=acr r (met:=m1) (out:=step k.2 out) w1 (fun k' hk'=>hg k' (List.mem_cons_of_mem _ hk')) (fun p hp di=>by
   rcases(i1 p).1 di with a|a
   ·exact hm p (List.mem_append_right _ hp) a
   ·exact n3 p a p hp rfl) n2
  refine⟨m2, ?_,w2,fun p=> ?_⟩
  ·rw[List.map_cons,qU]
   show(if(g met out (pg h k.2)).2.2≠0 then _ else _)=_
   rw[e1,if_neg (by simp)]
   show qU g (r.map (cK h)) (g met out (pg h k.2)).1 (g met out (pg h k.2)).2.1=_
   rw[e1]
   exact e2
  ·rw[i2,i1,iy,List.mem_append,or_assoc]
theorem ahw{h:Nat}{ks:List (Kd h)}(hn:(bL h ks).Nodup){k:Kd h}(hk:k∈ks):(mC h k.2).Nodup:=by
 induction ks with
 |nil=>cases hk
 |cons a r ih=>
  rw[iy]at hn
  obtain⟨n1,n2,_⟩:=List.nodup_append.1 hn
  rcases List.mem_cons.1 hk with rfl|hk
  ·exact n1
  ·exact ih n2 hk
theorem wq{σ:Type}{on:σ→Int→List En→σ}{th:Th}{m:As}:∀(h:Nat) {t:TN h} {f:Nat} {deep:Int} {met:Ws} {out:σ},rep th m h t→nY h t→(2≤pg h t∧pg h t<1024)→h<f→deep+(h:Int)≤16→Bx.okW met→(∀p∈mC h t,¬In met p)→(mC h t).Nodup→
 ∃r8,dC on th m f deep met out (pg h t)=(r8,r7 on h t out,0)∧Bx.okW r8∧∀p,In r8 p↔In met p∨p∈mC h t
 |0,t,f,deep,met,out,hr,ht,hp,hf,hd,hw,hm,hn=>by
  cases f with
  |zero=>omega
  |succ f=>
   have ei:Rd th m (pg 0 t) true t.2 []:=hr
   obtain⟨e1,e2,e3,e4⟩:=ei.nd (deep:=deep) (by omega)
   have hnm:¬Bx.lO met (pg 0 t)=true:=hm _ (vT 0 t)
   refine⟨Bx.cO met (pg 0 t), ?_,(Bx.fU hw _).1,fun p=> ?_⟩
   ·rw[dC,if_neg (by rw[e1];simp),if_neg hnm,e4,e3];rfl
   ·rw[ob hw (by omega)]
    show _↔In met p∨p∈[t.1]
    rw[List.mem_singleton];rfl
 |h+1,t,f,deep,met,out,hr,ht,hp,hf,hd,hw,hm,hn=>by
  cases f with
  |zero=>omega
  |succ f=>
   obtain⟨n,Q⟩:=t
   obtain⟨hr1,wO⟩:=(show Rd th m n false [] (Q.map (cK h))∧∀k∈Q,rep th m h k.2 from hr)
   obtain⟨hQ,hQb,iX,bH,zt,hT⟩:=(show Q≠[]∧bQ Q=Q∧gh (Q.map (cK h))=true∧lU h Q≤254∧zZ h Q∧∀k∈Q,nY h k.2 from ht)
   obtain⟨e1,e2,e3,e4⟩:=hr1.nd (deep:=deep) (by omega)
   have hp:2≤n∧n<1024:=hp
   have hm:∀p∈n::bL h Q,¬In met p:=hm
   have hn:(n::bL h Q).Nodup:=hn
   obtain⟨hn1,uc⟩:=List.nodup_cons.1 hn
   have hnm:¬Bx.lO met n=true:=hm n List.mem_cons_self
   have iw:=fun p=>ob (k:=p) hw (n:=n) (by omega)
   obtain⟨m2,ee,w2,i2⟩:=acr (g:=dC on th m f (deep+1)) (step:=r7 on h) Q (met:=Bx.cO met n) (out:=on out n []) (Bx.fU hw n).1
    (fun k hk met out hw hm=>by
      have hkn:(mC h k.2).Nodup:=by
       exact ahw uc hk
      exact wq h (wO k hk) (hT k hk) ((fV.1 iX).1 (cK h k) (List.mem_map_of_mem hk)).2 (by omega) (by omega) hw hm hkn)
    (fun p j8 di=>by
      rcases(iw p).1 di with a|a
      ·exact hm p (List.mem_cons_of_mem _ j8) a
      ·exact hn1 (by rw[←a];exact j8)) uc
   refine⟨m2, ?_,w2,fun p=> ?_⟩
   ·show dC on th m (f+1) deep met out n=_
    rw[dC,if_neg (by rw[e1];simp),if_neg hnm,e4,e3]
    exact ee
   ·rw[i2,iw]
    show _↔In met p∨p∈n::bL h Q
    rw[List.mem_cons,or_assoc]
theorem akS(from_:ByteArray):∀(h:Nat) (t:TN h) (out:List En),r7 (qV from_) h t out=out++(dL h t).filter (geE from_)
 |0,t,out=>rfl
 |h+1,t,out=>by
  obtain⟨n,Q⟩:=t
  show Q.foldl (fun o k=>r7 (qV from_) h k.2 o) (out++[])=out++(bK h Q).filter (geE from_)
  rw[List.append_nil]
  clear n
  induction Q generalizing out with
  |nil=>simp[bK]
  |cons k r ih=>
   rw[List.foldl_cons,ih,akS from_ h,gj,List.filter_append,List.append_assoc]
theorem afX{h:Nat}(H:∀(t:TN h) (out:Ws),Bx.okW out→nY h t→(2≤pg h t∧pg h t<1024)→Bx.okW (r7 ou h t out)∧∀p,In (r7 ou h t out) p↔In out p∨p∈mC h t):
 ∀(ks:List (Kd h)) (out:Ws),Bx.okW out→(∀k∈ks,nY h k.2∧(2≤pg h k.2∧pg h k.2<1024))→Bx.okW (ks.foldl (fun o k=>r7 ou h k.2 o) out)∧∀p,In (ks.foldl (fun o k=>r7 ou h k.2 o) out) p↔In out p∨p∈bL h ks
 |[],out,hw,_=>⟨hw,fun p=>⟨.inl,fun x=>x.elim id (fun y=>by cases y)⟩⟩
 |k::r,out,hw,hk=>by
  obtain⟨a,b⟩:=hk k List.mem_cons_self
  obtain⟨w1,i1⟩:=H k.2 out hw a b
  obtain⟨w2,i2⟩:=afX H r _ w1 (fun k' hk'=>hk k' (List.mem_cons_of_mem _ hk'))
  refine⟨w2,fun p=> ?_⟩
  rw[List.foldl_cons,i2,i1,iy,List.mem_append,or_assoc]
theorem ard(h:Nat):∀(t:TN h) (out:Ws),Bx.okW out→nY h t→(2≤pg h t∧pg h t<1024)→Bx.okW (r7 ou h t out)∧∀p,In (r7 ou h t out) p↔In out p∨p∈mC h t:=by
 induction h with
 |zero=>
  intro t out hw ht hp
  have hp:2≤t.1∧t.1<1024:=hp
  refine⟨(Bx.fU hw _).1,fun p=> ?_⟩
  show In (Bx.cO out t.1) p↔_
  rw[ob hw (by omega)]
  show _↔In out p∨p∈[t.1]
  rw[List.mem_singleton]
 |succ h ih=>
  intro t out hw ht hp
  obtain⟨n,Q⟩:=t
  have hp:2≤n∧n<1024:=hp
  obtain⟨hQ,hQb,iX,bH,zt,hT⟩:=(show Q≠[]∧bQ Q=Q∧gh (Q.map (cK h))=true∧lU h Q≤254∧zZ h Q∧∀k∈Q,nY h k.2 from ht)
  have hpk:∀k∈Q,2≤pg h k.2∧pg h k.2<1024:=fun k hk=>((fV.1 iX).1 (cK h k) (List.mem_map_of_mem hk)).2
  obtain⟨w,i⟩:=afX ih Q (Bx.cO out n) (Bx.fU hw n).1 (fun k hk=>⟨hT k hk,hpk k hk⟩)
  have e:r7 ou (h+1) ((n,Q):TN (h+1)) out=Q.foldl (fun o k=>r7 ou h k.2 o) (Bx.cO out n):=rfl
  have e2:mC (h+1) ((n,Q):TN (h+1))=n::bL h Q:=rfl
  rw[e,e2]
  refine⟨w,fun p=> ?_⟩
  rw[i,ob hw (by omega),List.mem_cons,or_assoc]
theorem r9{th:Th}{m:As}{root:Int}{h:Nat}{E:List En}{ps:List Int}{po:Nat}(H:aN th m root h E ps po)(hn:ps.Nodup)(hh:h≤15)(from_:ByteArray):lsE th m root from_=0∧lsF th m root from_=E.filter (geE from_):=by
 have key:yv (qV from_) th m root []=(E.filter (geE from_),0):=by
  unfold yv
  rcases H with⟨h1,_,h3,_⟩|⟨t,h1,h2,h22,h3,h4,h5,h6,_⟩
  ·rw[if_pos h1,h3];rfl
  ·subst h5 h6
   obtain⟨r8,e,_⟩:=wq (on:=qV from_) h (f:=17) (deep:=1) (met:=Bx.aP) (out:=[]) h3 h4 (by omega) (by omega) (by omega) Bx.eG.1 (fun p _=>eX) hn
   rw[if_neg (by omega),h1,e,akS];rfl
 have e1:lsE th m root from_=0:=by unfold lsE;rw[key]
 refine⟨e1, ?_⟩
 unfold lsF
 rw[if_neg (by rw[e1];simp)]
 unfold lsT
 rw[key]
theorem ad9{th:Th}{m:As}{root:Int}{h:Nat}{E:List En}{ps:List Int}{po:Nat}(H:aN th m root h E ps po)(hn:ps.Nodup)(hh:h≤15):pgE th m root=0∧Bx.okW (pgF th m root)∧∀p,In (pgF th m root) p↔p∈ps:=by
 have key:(yv ou th m root Bx.aP).2=0∧Bx.okW (yv ou th m root Bx.aP).1∧∀p,In (yv ou th m root Bx.aP).1 p↔p∈ps:=by
  unfold yv
  rcases H with⟨h1,_,_,h4,_⟩|⟨t,h1,h2,h22,h3,h4,h5,h6,_⟩
  ·rw[if_pos h1,h4]
   exact⟨rfl,Bx.eG.1,fun p=>⟨fun x=>absurd x eX,fun x=>by cases x⟩⟩
  ·subst h5 h6
   obtain⟨r8,e,_⟩:=wq (on:=ou) h (f:=17) (deep:=1) (met:=Bx.aP) (out:=Bx.aP) h3 h4 (by omega) (by omega) (by omega) Bx.eG.1 (fun p _=>eX) hn
   obtain⟨w,i⟩:=ard h t Bx.aP Bx.eG.1 h4 (by omega)
   rw[if_neg (by omega),h1,e]
   exact⟨rfl,w,fun p=>by rw[i];exact⟨fun x=>x.elim (fun y=>absurd y eX) id,.inr⟩⟩
 have e1:pgE th m root=0:=key.1
 refine⟨e1, ?_⟩
 unfold pgF
 rw[if_neg (by rw[e1];simp)]
 exact key.2
end Ts
namespace Ts
open Go Go.Sx Go.Proofs Lf
theorem sc{α:Type}[DecidableEq α]:∀{l m:List α},l.Nodup→(∀x∈l,x∈m)→l.length≤m.length
 |[],m,_,_=>Nat.zero_le _
 |a::l,m,hn,hs=>by
  obtain⟨h1,h2⟩:=List.nodup_cons.1 hn
  have ha:=hs a List.mem_cons_self
  have:=sc (l:=l) (m:=m.erase a) h2 fun x hx=>(List.mem_erase_of_ne (fun e=>h1 (by rw[←e];exact hx))).2 (hs x (List.mem_cons_of_mem _ hx))
  rw[List.length_erase_of_mem ha]at this
  have:=List.length_pos_of_mem ha
  rw[List.length_cons]
  omega
theorem acs{ws:Ws}{k:Nat}:k∈Bx.adQ ws↔k<1024∧Bx.bit ws k=true:=by
 unfold Bx.adQ Bx.fr
 rw[List.mem_filter,List.mem_range]
theorem aea(ws:Ws):(Bx.adQ ws).Nodup:=List.Pairwise.filter _ List.nodup_range
theorem aak{ws:Ws}(hw:Bx.okW ws){N:List Int}(h:∀p,In ws p→p∈N):gG ws≤N.length:=by
 unfold gG
 rw[←List.length_map (f:=fun(k:Nat)=>(k:Int))]
 refine sc ?_ fun x hx=> ?_
 ·unfold List.Nodup
  rw[List.pairwise_map]
  exact(aea ws).imp fun h e=>h (by omega)
 ·obtain⟨k,hk,rfl⟩:=List.mem_map.1 hx
  obtain⟨a,b⟩:=acs.1 hk
  exact h _ ((dY hw).2 ⟨⟨by omega,by omega⟩,by rw[Int.toNat_natCast];exact b⟩)
theorem anB{ws:Ws}(hw:Bx.okW ws){N:List Int}(hn:N.Nodup)(h:∀p∈N,In ws p):N.length≤gG ws:=by
 unfold gG
 rw[←List.length_map (f:=fun(k:Nat)=>(k:Int))]
 refine sc hn fun x hx=> ?_
 obtain⟨a,b⟩:=(dY hw).1 (h x hx)
 exact List.mem_map.2 ⟨x.toNat,acs.2 ⟨by omega,b⟩,by omega⟩
theorem ahx{a b c:Ws}(ha:Bx.okW a)(hb:Bx.okW b)(hc:Bx.okW c)(h:∀p,In c p↔In a p∨In b p)(hd:∀p,In a p→¬In b p):gG c=gG a+gG b:=by
 have bits:∀k,k<1024→Bx.bit c k=(Bx.bit a k||Bx.bit b k)∧¬(Bx.bit a k=true∧Bx.bit b k=true):=fun k hk=>by
  have hr:(0:Int)≤(k:Int)∧(k:Int)<1024:=⟨by omega,by omega⟩
  have e:∀{ws:Ws},Bx.okW ws→(In ws (k:Int)↔Bx.bit ws k=true):=fun hw=>by
   rw[dY hw,Int.toNat_natCast];exact⟨fun x=>x.2,fun x=>⟨hr,x⟩⟩
  have h1:=h (k:Int)
  have h2:=hd (k:Int)
  rw[e ha,e hb]at h1
  rw[e hc]at h1
  rw[e ha,e hb]at h2
  refine⟨?_,fun x=>h2 x.1 x.2⟩
  cases e1:Bx.bit a k<;>cases e2:Bx.bit b k<;>cases e3:Bx.bit c k<;>simp[e1,e2,e3]at h1 ⊢
 have key:∀m,m≤1024→(Bx.fr (Bx.bit c) m).length=(Bx.fr (Bx.bit a) m).length+(Bx.fr (Bx.bit b) m).length:=by
  intro m
  induction m with
  |zero=>intro _;rfl
  |succ m ih=>
   intro hm
   obtain⟨b1,b2⟩:=bits m (by omega)
   have:=ih (by omega)
   rw[Bx.qF,Bx.qF,Bx.qF,List.length_append,List.length_append,List.length_append,b1]
   cases e1:Bx.bit a m<;>cases e2:Bx.bit b m<;>simp[e1,e2]at b2 ⊢ <;>omega
 exact key 1024 (Nat.le_refl _)
theorem anC{ws:Ws}(hw:Bx.okW ws):Bx.abR ws=(gG ws:Int):=Bx.amv hw.1
theorem yy:∀(h:Nat) {t:TN h},nY h t→(mC h t).length*57≤(dL h t).length*57+te h t
 |0,t,ok=>by
  have:0<t.2.length:=List.length_pos_iff.2 ok.1
  show 1*57≤t.2.length*57+0
  omega
 |h+1,t,ok=>by
  obtain⟨n,Q⟩:=t
  obtain⟨hQ,_,_,_,_,hT⟩:=(show Q≠[]∧bQ Q=Q∧gh (Q.map (cK h))=true∧lU h Q≤254∧zZ h Q∧∀k∈Q,nY h k.2 from ok)
  show(n::bL h Q).length*57≤(bK h Q).length*57+(3^(h+1)*(19+w7 (lU h Q))+eO h Q)
  have a:57≤3^(h+1)*(19+w7 (lU h Q)):=by
   have h1:3≤3^(h+1):=by rw[Nat.pow_succ];have:=Nat.one_le_pow h 3 (by omega);omega
   calc 57=3*19:=rfl
    _≤3^(h+1)*(19+w7 (lU h Q)):=Nat.mul_le_mul h1 (by omega)
  have b:∀ks:List (Kd h),(∀k∈ks,nY h k.2)→(bL h ks).length*57≤(bK h ks).length*57+eO h ks:=by
   intro ks
   induction ks with
   |nil=>intro _;exact Nat.zero_le _
   |cons k r ih=>
    intro hk
    have h1:=yy h (hk k List.mem_cons_self)
    have h2:=ih fun x hx=>hk x (List.mem_cons_of_mem _ hx)
    rw[iy,gj,gD,List.length_append,List.length_append]
    omega
  have:=b Q hT
  rw[List.length_cons]
  omega
theorem acu{th:Th}{m:As}{root:Int}{h:Nat}{E:List En}{ps:List Int}{po:Nat}(H:aN th m root h E ps po):ps.length*57≤E.length*57+po∧19*3^h≤po+19:=by
 rcases H with⟨_,h2,h3,h4,h5⟩|⟨t,_,_,_,_,h4,h5,h6,h7⟩
 ·subst h2 h3 h4 h5;exact⟨Nat.le_refl _,by decide⟩
 ·subst h5 h6 h7
  refine⟨yy h h4, ?_⟩
  cases h with
  |zero=>show 19*3^0≤_;rw[Nat.pow_zero];omega
  |succ h=>have:=ao1 h (t:=t);omega
theorem TI.cnt{th:Th}{F0:Int→Prop}{m:As}{fu root:Int}{fr fs gn:Ws}{h:Nat}{E:List En}{ps:List Int}{po:Nat}(T:TI th F0 m fu root fr fs gn h E ps po){f0:Ws}(hw:Bx.okW f0)(hf:∀p,In f0 p↔F0 p):gG f0=gG fr+gG fs∧gG fs≤ps.length:=
 ⟨ahx T.ok.fr T.ok.fs hw (fun p=>by rw[hf,T.inv.cov]) T.inv.dis,aak T.ok.fs T.inv.sub⟩
theorem aeb{E:List En}{key v:ByteArray}:(bw E key v).length≤E.length+1:=by rw[zO];split<;>omega
theorem aec{E:List En}{key:ByteArray}{op:Option ByteArray}:(kU key op E).length≤E.length+(match op with|some _=>1|none=>0):=by
 cases op with
 |some v=>exact aeb
 |none=>exact List.length_filter_le _ _
end Ts
namespace Ts
open Go Go.Sx Go.Proofs Lf
structure avp (th:Th) (key:ByteArray) (op:Option ByteArray) (m:As) (fu:Int) (fr:Ws) (h:Nat) (E:List En) (m':As) (gC e:Int):Prop where
 d:Ds.bM th m' gC
 rd:∀p,¬In fr p→Ds.jo th m' p=Ds.jo th m p∧Ds.hC th m' p=Ds.hC th m p
 fu:fu= -1→gC= -1
 how:(gk key op=false∧e=1)∨(gk key op=true∧((e=5∧py key op E=5)∨(e=41∧gG fr≤2*h+3)∨(e=42∧gC=0)))
theorem acv{key:ByteArray}{op:Option ByteArray}:gk key op=true↔(1≤key.size∧key.size≤24)∧∀v,op=some v→v.size≤100:=by
 cases op with
 |none=>
  simp only[gk,Bool.and_eq_true,decide_eq_true_eq]
  exact⟨fun h=>⟨h,fun v e=>by cases e⟩,fun h=>h.1⟩
 |some v=>
  simp only[gk,Bool.and_eq_true,decide_eq_true_eq]
  exact⟨fun h=>⟨h.1,fun w e=>by cases e;exact h.2⟩,fun h=>⟨h.1,h.2 v rfl⟩⟩
theorem anD{th:Th}{F0:Int→Prop}{key:ByteArray}{op:Option ByteArray}{m:As}{fu root:Int}{fr fs gn:Ws}{h:Nat}{E:List En}{ps:List Int}{po:Nat}(T:TI th F0 m fu root fr fs gn h E ps po)(hh:h≤14):
 ((sT th key op m fu root fr fs gn).2.2.2.2.2.2=0∧gk key op=true∧py key op E=0∧∃h' ps' tJ,yx th F0 key op m fu fr ps E po (sT th key op m fu root fr fs gn) h' ps' tJ)∨
 (∃m' gC e,e≠0∧sT th key op m fu root fr fs gn=(m',gC,root,fr,fs,gn,e)∧avp th key op m fu fr h E m' gC e):=by
 by_cases hk:gk key op=true
 ·rw[aac hk]
  obtain⟨k1,k2⟩:=acv.1 hk
  rcases akR (key:=key) (op:=op) T k1 k2 hh with⟨a,b,c⟩|⟨m',gC,e,a,b,c⟩
  ·exact .inl ⟨a,hk,b,c⟩
  ·refine .inr ⟨m',gC,e,a,b,c.d,c.rd,c.fu,.inr ⟨hk, ?_⟩⟩
   rcases c.how with x|⟨x,N,y,z⟩|x
   ·exact .inl x
   ·exact .inr (.inl ⟨x,Nat.le_trans (aak T.ok.fr z) y⟩)
   ·exact .inr (.inr x)
 ·have hk:gk key op=false:=by simpa using hk
  exact .inr ⟨m,fu,1,by decide,ad3 hk,T.ok.d,fun p _=>⟨rfl,rfl⟩,id,.inl ⟨hk,rfl⟩⟩
theorem acw{th:Th}{m m':As}:∀(h:Nat) {t:TN h},rep th m h t→(∀p∈mC h t,Ds.jo th m' p=Ds.jo th m p∧Ds.hC th m' p=Ds.hC th m p)→rep th m' h t
 |0,t,hr,hp=>Rd.same hr (hp _ (vT 0 t))
 |h+1,t,hr,hp=>⟨Rd.same hr.1 (hp _ (vT (h+1) t)),fun k hk=>acw h (hr.2 k hk) fun p j8=>hp p (List.mem_cons_of_mem _ (List.mem_flatMap.2 ⟨k,hk,j8⟩))⟩
theorem aN.same{th:Th}{m m':As}{root:Int}{h:Nat}{E:List En}{ps:List Int}{po:Nat}(H:aN th m root h E ps po)(hp:∀p∈ps,Ds.jo th m' p=Ds.jo th m p∧Ds.hC th m' p=Ds.hC th m p):aN th m' root h E ps po:=by
 rcases H with H|⟨t,h1,h2,h22,h3,h4,h5,h6,h7⟩
 ·exact .inl H
 ·subst h6
  exact .inr ⟨t,h1,h2,h22,acw h h3 hp,h4,h5,rfl,h7⟩
theorem TI.eU{th:Th}{F0:Int→Prop}{m m':As}{fu gC root:Int}{fr fs gn:Ws}{h:Nat}{E:List En}{ps:List Int}{po:Nat}(T:TI th F0 m fu root fr fs gn h E ps po)(hd:Ds.bM th m' gC)(hr:∀p,¬In fr p→Ds.jo th m' p=Ds.jo th m p∧Ds.hC th m' p=Ds.hC th m p):
 TI th F0 m' gC root fr fs gn h E ps po:=⟨⟨hd,T.ok.fr,T.ok.fs,T.ok.gn,T.ok.pg⟩,T.gz,T.f0,T.holds.same fun p hp=>hr p (T.free p hp),T.inv⟩
theorem akT{th:Th}{free:Ws}(hw:Bx.okW free):Bx.okW (opF th free):=(Bx.nw (.inr (.inl rfl)) hw (Bx.nw (.inr (.inr rfl)) (Bx.cT _).1 (Bx.cT _).1).1).1
theorem akU{th:Th}{free:Ws}(hw:Bx.okW free){p:Int}:In (opF th free) p↔In free p∧2≤p∧p<Ds.wz th:=by
 unfold opF
 rw[aqI hw (Bx.nw (.inr (.inr rfl)) (Bx.cT _).1 (Bx.cT _).1).1,amD (Bx.cT _).1 (Bx.cT _).1,vR,vR]
 constructor
 ·rintro⟨a,⟨b,c⟩,d⟩
  exact⟨a,by omega,c⟩
 ·rintro⟨a,b,c⟩
  have:=nz hw a
  exact⟨a,⟨by omega,c⟩,by omega⟩
theorem TI.start{th:Th}{m:As}{fu:Int}{free:Ws}(hd:Ds.bM th m fu)(hw:Bx.okW free):TI th (In (opF th free)) m fu 0 (opF th free) Bx.aP Bx.aP 0 [] [] 0:=by
 have f0:∀p,In (opF th free) p→2≤p∧Ds.vg th p=true:=fun p hp=>by
  obtain⟨_,a,b⟩:=(akU hw).1 hp
  exact⟨a,Ds.fY.2 ⟨by omega,b⟩⟩
 exact⟨⟨hd,akT hw,Bx.eG.1,Bx.eG.1,f0⟩,rfl,f0,.inl ⟨rfl,rfl,rfl,rfl,rfl⟩,⟨List.nodup_nil,fun p=>⟨.inl,fun x=>x.elim id (fun y=>absurd y eX)⟩,fun p _=>eX,fun p hp=>absurd hp eX,fun p hp=>by cases hp⟩⟩
theorem TI.rng{th:Th}{F0:Int→Prop}{m:As}{fu root:Int}{fr fs gn:Ws}{h:Nat}{E:List En}{ps:List Int}{po:Nat}(T:TI th F0 m fu root fr fs gn h E ps po):0≤root∧root≤65536:=by
 rcases T.holds with⟨h1,_⟩|⟨t,_,h2,h3,_⟩<;>omega
theorem anE(e:En):geE ByteArray.empty e=true:=by unfold geE;rw[gB];rfl
theorem filter_all(l:List En):l.filter (geE ByteArray.empty)=l:=List.filter_eq_self.2 fun e _=>anE e
theorem TI.small{th:Th}{F0:Int→Prop}{m:As}{fu root:Int}{fr fs gn:Ws}{h:Nat}{E:List En}{ps:List Int}{po:Nat}(T:TI th F0 m fu root fr fs gn h E ps po)(hp:po≤100000):h≤14:=T.holds.arc (by have:19*3^15=272629233:=rfl;omega)
end Ts
namespace Ts
open Go Go.Sx Go.Proofs Lf
def okK(e:En):Prop:=1≤e.1.size∧e.1.size≤24∧e.2.1.size≤100
def aed(l:List En):Prop:=l.Pairwise fun a b=>slt a.1 b.1=true
def opW(key:ByteArray)(op:Option ByteArray)(E:List En):Int:=if gk key op=true then py key op E else 1
theorem akV{es:List En}(h:ir (bA es)):aed es:=by
 refine List.pairwise_iff_getElem.2 fun i j hi hj kN=> ?_
 have:=h i j kN (by unfold bA;rw[List.length_map];exact hj)
 simpa[bA,List.getD,hi,hj]using this
theorem are{a b c:ByteArray}(h1:slt a b=true)(h2:slt c b=false):slt a c=true:=by
 rcases gA b c with h|h|h
 ·exact cq h1 h
 ·rw[←h];exact h1
 ·rw[h]at h2;cases h2
theorem afY:∀(h:Nat) {t:TN h},nY h t→(∀e∈dL h t,okK e)∧aed (dL h t)
 |0,t,ok=>by
  obtain⟨a,b⟩:=vX.1 ok.2.1
  exact⟨a,akV b⟩
 |h+1,t,ok=>by
  obtain⟨_,_,_,_,⟨s1,s2⟩,h6⟩:=ok
  rw[yl]
  have key:∀ks:List (Kd h),(ks.Pairwise fun a b=>∀e∈dL h a.2,slt e.1 b.1=true)→(∀k∈ks,∀e∈dL h k.2,slt e.1 k.1=false)→(∀k∈ks,nY h k.2)→(∀e∈bK h ks,okK e)∧aed (bK h ks):=by
   intro ks
   induction ks with
   |nil=>intro _ _ _;exact⟨fun e he=>(by cases he),List.Pairwise.nil⟩
   |cons k r ih=>
    intro p q o
    obtain⟨p1,p2⟩:=List.pairwise_cons.1 p
    obtain⟨a,b⟩:=ih p2 (fun x hx=>q x (List.mem_cons_of_mem _ hx)) (fun x hx=>o x (List.mem_cons_of_mem _ hx))
    obtain⟨c,d⟩:=afY h (o k List.mem_cons_self)
    rw[gj]
    refine⟨fun e he=>(List.mem_append.1 he).elim (c e) (a e),List.pairwise_append.2 ⟨d,b,fun x hx y hy=> ?_⟩⟩
    obtain⟨k2,pJ,hy⟩:=List.mem_flatMap.1 hy
    exact are (p1 k2 pJ x hx) (q k2 (List.mem_cons_of_mem _ pJ) y hy)
  exact key t.2 s1 s2 h6
section
variable{th:Th}{F0:Int→Prop}{m:As}{fu root:Int}{fr fs gn:Ws}{h:Nat}{E:List En}{ps:List Int}{po:Nat}
theorem aN.aed(H:aN th m root h E ps po):(∀e∈E,okK e)∧aed E:=by
 rcases H with⟨_,_,e,_⟩|⟨t,_,_,_,_,h4,h5,_⟩
 ·subst e;exact⟨fun e he=>(by cases he),List.Pairwise.nil⟩
 ·subst h5;exact afY h h4
theorem aN.zero(H:aN th m root h E ps po):(root=0↔E=[])∧(E=[]→ps=[]):=by
 rcases H with⟨a,_,e,p,_⟩|⟨t,_,h2,_,_,h4,h5,_⟩
 ·exact⟨⟨fun _=>e,fun _=>a⟩,fun _=>p⟩
 ·have:=qM h h4
  rw[←h5]at this
  exact⟨⟨fun x=>by omega,fun x=>absurd x this⟩,fun x=>absurd x this⟩
theorem arf{f0:Ws}{key:ByteArray}{op:Option ByteArray}(hw:Bx.okW f0)(hc:gG f0=248)(T:TI th (In f0) m (-1) root fr fs gn h E ps po)(hE:E.length≤90)(hp:po≤7290):
 (opW key op E=0∧(sT th key op m (-1) root fr fs gn).2.2.2.2.2.2=0∧gk key op=true∧py key op E=0∧∃h' ps' tJ,yx th (In f0) key op m (-1) fr ps E po (sT th key op m (-1) root fr fs gn) h' ps' tJ)∨
 (∃m',opW key op E≠0∧sT th key op m (-1) root fr fs gn=(m', -1,root,fr,fs,gn,opW key op E)∧TI th (In f0) m' (-1) root fr fs gn h E ps po):=by
 have hh:=T.small (by omega)
 obtain⟨c1,c2⟩:=T.cnt hw fun p=>Iff.rfl
 obtain⟨d1,d2⟩:=acu T.holds
 have h5:h≤5:=by
  rcases Nat.lt_or_ge 5 h with h6|h6
  ·have:=Nat.pow_le_pow_right (n:=3) (by omega) (show 6≤h from h6)
   have e:3^6=729:=rfl
   omega
  ·exact h6
 rcases anD (key:=key) (op:=op) T hh with⟨a,b,c,G⟩|⟨m',gC,e,a,b,c⟩
 ·exact .inl ⟨by unfold opW;rw[if_pos b,c],a,b,c,G⟩
 ·have f:=c.fu rfl
  subst f
  have w:e=opW key op E:=by
   rcases c.how with⟨x,y⟩|⟨x,⟨y,z⟩|⟨y,z⟩|⟨y,z⟩⟩
   ·unfold opW;rw[x,y];rfl
   ·unfold opW;rw[if_pos x,y,z]
   ·omega
   ·omega
  exact .inr ⟨m',by rw[←w];exact a,by rw[←w];exact b,T.eU c.d c.rd⟩
end
theorem acx{e:En}{r:List En}(hr:aed (e::r)):cz (e::r) e.1=r:=by
 obtain⟨a,_⟩:=List.pairwise_cons.1 hr
 rw[x9]
 have:(!zM e.1 e)=false:=by simp
 rw[this,if_neg (by decide)]
 refine List.filter_eq_self.2 fun x hx=> ?_
 simp only[Bool.not_eq_true',decide_eq_false_iff_not]
 exact fun h=>aiO (a x hx) h.symm
theorem ok_none{e:En}(h:okK e):gk e.1 none=true:=acv.2 ⟨⟨h.1,h.2.1⟩,fun v x=>(by cases x)⟩
abbrev iH:Th:=cF 1000
def f0B:Ws:=opF iH (Bx.b8 250)
theorem aal:Bx.okW f0B:=akT (Bx.cT _).1
theorem wR:Ds.wz iH=250:=by
 unfold Ds.wz
 rw[show iH.length=1000 from List.length_replicate ..];rfl
theorem akW{p:Int}:In f0B p↔2≤p∧p<250:=by
 unfold f0B
 rw[akU (Bx.cT _).1,vR,wR]
 omega
theorem afZ:gG f0B=248:=by
 have l:((List.range 248).map fun k:Nat=>(k:Int)+2).length=248:=by simp
 refine Nat.le_antisymm ?_ ?_
 ·rw[←l]
  refine aak aal fun p hp=> ?_
  have:=akW.1 hp
  exact List.mem_map.2 ⟨(p - 2).toNat,List.mem_range.2 (by omega),by omega⟩
 ·rw[←l]
  refine anB aal ?_ fun p hp=> ?_
  ·unfold List.Nodup
   rw[List.pairwise_map]
   exact List.nodup_range.imp fun h e=>h (by omega)
  ·obtain⟨k,hk,rfl⟩:=List.mem_map.1 hp
   have:=List.mem_range.1 hk
   exact akW.2 (by omega)
theorem TI.big:TI iH (In f0B) [] (-1) 0 f0B Bx.aP Bx.aP 0 [] [] 0:=TI.start (Ds.aiS (by omega)) (Bx.cT _).1
theorem TI.none{th:Th}{f0:Ws}{m:As}{fu root:Int}{fr fs gn:Ws}{h:Nat}{ps:List Int}{po:Nat}(hw:Bx.okW f0)(T:TI th (In f0) m fu root fr fs gn h [] ps po):root=0∧ps=[]∧fs=Bx.aP∧gG fr=gG f0:=by
 obtain⟨a,b⟩:=T.holds.zero
 have hps:=b rfl
 subst hps
 have hfs:fs=Bx.aP:=ajT T.ok.fs Bx.eG.1 fun k=>⟨fun x=>(by have:=T.inv.sub k x;cases this),fun x=>absurd x eX⟩
 obtain⟨c1,c2⟩:=T.cnt hw fun p=>Iff.rfl
 exact⟨a.2 rfl,rfl,hfs,by simp only[List.length_nil]at c2;omega⟩
end Ts
namespace Ts
open Go Go.Sx Go.Proofs Lf
theorem anF{key:ByteArray}{E:List En}(h:gk key none=true)(hd:gF E key=true):opW key none E=0:=by
 unfold opW py
 rw[if_pos h]
 simp only
 rw[if_pos hd]
end Ts
namespace Ts
open Go Go.Sx Go.Proofs Lf
abbrev TB(m:As)(root:Int)(fr fs gn:Ws)(h:Nat)(E:List En)(ps:List Int)(po:Nat):Prop:=TI iH (In f0B) m (-1) root fr fs gn h E ps po
section
variable{m:As}{root:Int}{fr fs gn:Ws}{h:Nat}{E:List En}{ps:List Int}{po:Nat}
theorem wu{key:ByteArray}{op:Option ByteArray}(T:TB m root fr fs gn h E ps po)(hE:E.length≤90)(hp:po≤7290):
 ∃m' oP oO lB qX h' E' ps' tJ,sT iH key op m (-1) root fr fs gn=(m', -1,oP,oO,lB,qX,opW key op E)∧TB m' oP oO lB qX h' E' ps' tJ∧tJ≤po+opP op∧E'=(if opW key op E=0 then kU key op E else E):=by
 rcases arf (key:=key) (op:=op) aal afZ T hE hp with⟨a,b,c,d,h',ps',tJ,G⟩|⟨m',a,b,c⟩
 ·rcases hr:sT iH key op m (-1) root fr fs gn with⟨m',gC,oP,oO,lB,qX,e'⟩
  rw[hr]at G b
  have hfu:=G.fu rfl
  have hti:=G.ti
  have hpo:=G.po
  simp only at b hfu hti
  subst hfu
  subst b
  exact⟨m',oP,oO,lB,qX,h',_,ps',tJ,by rw[a],hti,hpo,by rw[if_pos a]⟩
 ·exact⟨m',root,fr,fs,gn,h,E,ps,po,b,c,Nat.le_add_right _ _,by rw[if_neg a]⟩
theorem arh(op:Option ByteArray):opP op≤81:=by
 cases op with
 |none=>exact Nat.zero_le _
 |some v=>exact Nat.le_refl _
theorem ari(key:ByteArray)(op:Option ByteArray)(E:List En):(kU key op E).length≤E.length+1:=by
 refine Nat.le_trans aec ?_
 split<;>omega
theorem arj{p:Prop}[Decidable p](key:ByteArray)(op:Option ByteArray)(E:List En):(if p then kU key op E else E).length≤E.length+1:=by
 split
 ·exact ari key op E
 ·omega
end
end Ts
namespace Ts
open Go Go.Sx Go.Proofs Lf
def mLg:List AV→RM (List (CL s5)×List Nat)
 |[.s (.ro (.ae [.int .u8,.str,.str] l))]=>.ret (l,[])
 |_=>.fail "no steps"
abbrev atY:=dA sLg mLg
abbrev atZ:=dA sLs mGt
abbrev at0:=dA sPg mT
abbrev avq:=bY [Bx.dM] [bq] (fun(ws,())=>[Bx.okW ws]) (fun(ws,())=>(Bx.abR ws,()))
def at1:List AV→RM (XS×List Nat)
 |[.agg [.s (.int _ k),.s (.str key),.s (.str val)],t]=>(mT [t]).bind fun(X,σ)=>.ret ((X,k,key,val),σ)
 |_=>.fail "no step"
abbrev at2:=dA sDo at1
def acy:aH:=[(8,avh),(9,atY),(10,aoZ),(14,at2),(12,atZ),(22,aoX),(25,ad5),(18,at0),(19,atn),(20,aoY),(27,avq)]
def anG:List (Nat×Norm):=[(5,⟨[],[0,4,5],0,[]⟩),(13,⟨[],[4,8,10],0,[]⟩),(19,⟨[],[4,8,11],0,[]⟩)]
noncomputable def cEm(l:List (CL s5))(th:Th)(m:As)(fu root:Int)(fr fs gn:Ws)(i:Int):bC:=⟨sl 131 [(0,od l),(4,.ptr 0 0),(5,bP i)],hT th m fu root fr fs gn,hd Tryd.f6 5,{}⟩
abbrev hV(th:Th)(m:As)(fu root:Int)(fr fs gn:Ws)(M:List En):List ad:=[obT 2 root fr fs gn,.vec (.ae cE M) Lf.eE,Ds.obD 3 4 fu,.vec (.ae Ds.cS th) Ds.eS,.map Ds.kS m]
noncomputable def af0(M:List En)(th:Th)(m:As)(fu root:Int)(fr fs gn:Ws)(i:Int):bC:=⟨sl 131 [(4,.ptr 0 0),(8,.vec 1),(10,bP i)],hV th m fu root fr fs gn M,hd Tryd.f6 13,{}⟩
noncomputable def af1(M:List En)(th:Th)(m:As)(fu root:Int)(fr fs gn:Ws)(i:Int):bC:=⟨sl 131 [(4,.ptr 0 0),(8,.vec 1),(11,bP i)],hV th m fu root fr fs gn M,hd Tryd.f6 19,{}⟩
theorem avr(l:List (CL s5)):run P acy.sum Tryd.f6 anG (start Tryd.f6 [od l] [])=
 Tree.ite false (.ret [] (.s (.bool true))) (.need (bE (some [AV.s (.ro (.ae s5 l))])) (.need aiJ (.need (l.length≤9223372036854775807) (.both True (l.length - (90:Nat)=0) (.ret [] (.s (.bool true))) (.need (bE (some [AV.s (.int .i64 250)])) (.need aiJ (.need ((3:Int)≤250∧(250:Int)≤250) (.at (.mk (sl 131 [(0,.s (.ro (.ae s5 l))),(4,.ptr 0 0),(5,.s (.int .i64 0))]) [.own [.ptr 1 0,.s (.int .i64 0),.ints .u64 16 (opF (cF ((4:Int)*250)) (Bx.b8 250)),.ints .u64 16 Bx.aP,.ints .u64 16 Bx.aP] 70,.own [.vec 2,.ag 3,.s (.int .i64 (-1))] 96,.vec (.ae [.arr .u8 64] (cF ((4:Int)*250))) 138,.map (.arr .u8 64) []] (hd Tryd.f6 5) (.mk none false 0 [] 0)))))))))):=by kernel_rfl
theorem at3(l:List (CL s5))(th:Th)(m:As)(fu root:Int)(fr fs gn:Ws)(i:Int):run P acy.sum Tryd.f6 anG (cEm l th m fu root fr fs gn i)=
 Tree.ite (decide (i<(↑l.length:Int)))
 (.need ((0:Int)≤i)
   (.need (i<(↑l.length:Int))
     (.need (bE (some [AV.agg [.s (.int .u8 (kv (el l i))),.s (.str (kx (el l i))),.s (.str (ky (el l i)))],.ptr 0 0]))
       (.need (bE (some [ad.own [.ptr 1 0,.s (.int .i64 root),.ints .u64 16 fr,.ints .u64 16 fs,.ints .u64 16 gn] 70,.own [.vec 2,.ag 3,.s (.int .i64 fu)] 96,.vec (.ae [.arr .u8 64] th) 138,.map (.arr .u8 64) m]))
         (.need (Ds.bM th m fu)
           (.need (Bx.okW fr)
             (.need ((0:Int)≤root∧root≤65536)
               (.need (bE (some [AV.ptr 0 0,.s (.str ByteArray.empty)]))
                 (.need (bE (some [ad.own [.ptr 1 0,.s (.int .i64 (doR th (kv (el l i)) (kx (el l i)) (ky (el l i)) m fu root fr fs gn)),.ints .u64 16 (do2 th (kv (el l i)) (kx (el l i)) (ky (el l i)) m fu root fr fs gn),.ints .u64 16 (do3 th (kv (el l i)) (kx (el l i)) (ky (el l i)) m fu root fr fs gn),.ints .u64 16 (do4 th (kv (el l i)) (kx (el l i)) (ky (el l i)) m fu root fr fs gn)] 70,.own [.vec 2,.ag 3,.s (.int .i64 (do1 th (kv (el l i)) (kx (el l i)) (ky (el l i)) m fu root fr fs gn))] 96,.vec (.ae [.arr .u8 64] th) 138,.map (.arr .u8 64) (do0 th (kv (el l i)) (kx (el l i)) (ky (el l i)) m fu root fr fs gn)]))
                   (.need (Ds.bM th (do0 th (kv (el l i)) (kx (el l i)) (ky (el l i)) m fu root fr fs gn) (do1 th (kv (el l i)) (kx (el l i)) (ky (el l i)) m fu root fr fs gn))
                     (.need ((0:Int)≤doR th (kv (el l i)) (kx (el l i)) (ky (el l i)) m fu root fr fs gn∧doR th (kv (el l i)) (kx (el l i)) (ky (el l i)) m fu root fr fs gn≤65536)
                       (.ite (lsE th (do0 th (kv (el l i)) (kx (el l i)) (ky (el l i)) m fu root fr fs gn) (doR th (kv (el l i)) (kx (el l i)) (ky (el l i)) m fu root fr fs gn) ByteArray.empty !=0) (.ret [.own [.ptr 1 0,.s (.int .i64 (doR th (kv (el l i)) (kx (el l i)) (ky (el l i)) m fu root fr fs gn)),.ints .u64 16 (do2 th (kv (el l i)) (kx (el l i)) (ky (el l i)) m fu root fr fs gn),.ints .u64 16 (do3 th (kv (el l i)) (kx (el l i)) (ky (el l i)) m fu root fr fs gn),.ints .u64 16 (do4 th (kv (el l i)) (kx (el l i)) (ky (el l i)) m fu root fr fs gn)] 70,.own [.vec 2,.ag 3,.s (.int .i64 (do1 th (kv (el l i)) (kx (el l i)) (ky (el l i)) m fu root fr fs gn))] 96,.vec (.ae [.arr .u8 64] th) 138,.map (.arr .u8 64) (do0 th (kv (el l i)) (kx (el l i)) (ky (el l i)) m fu root fr fs gn),.vec (.ae [.str,.str] (lsF th (do0 th (kv (el l i)) (kx (el l i)) (ky (el l i)) m fu root fr fs gn) (doR th (kv (el l i)) (kx (el l i)) (ky (el l i)) m fu root fr fs gn) ByteArray.empty)) 34] (.s (.aI false)))
                         (.need (bE (some [AV.ptr 0 0])) (.need (bE (some [ad.own [.ptr 1 0,.s (.int .i64 (doR th (kv (el l i)) (kx (el l i)) (ky (el l i)) m fu root fr fs gn)),.ints .u64 16 (do2 th (kv (el l i)) (kx (el l i)) (ky (el l i)) m fu root fr fs gn),.ints .u64 16 (do3 th (kv (el l i)) (kx (el l i)) (ky (el l i)) m fu root fr fs gn),.ints .u64 16 (do4 th (kv (el l i)) (kx (el l i)) (ky (el l i)) m fu root fr fs gn)] 70,.own [.vec 2,.ag 3,.s (.int .i64 (do1 th (kv (el l i)) (kx (el l i)) (ky (el l i)) m fu root fr fs gn))] 96,.vec (.ae [.arr .u8 64] th) 138,.map (.arr .u8 64) (do0 th (kv (el l i)) (kx (el l i)) (ky (el l i)) m fu root fr fs gn)])) (.ite (!(doR th (kv (el l i)) (kx (el l i)) (ky (el l i)) m fu root fr fs gn==0)==((↑(lsF th (do0 th (kv (el l i)) (kx (el l i)) (ky (el l i)) m fu root fr fs gn) (doR th (kv (el l i)) (kx (el l i)) (ky (el l i)) m fu root fr fs gn) ByteArray.empty).length:Int)==0)) (.ret [.own [.ptr 1 0,.s (.int .i64 (doR th (kv (el l i)) (kx (el l i)) (ky (el l i)) m fu root fr fs gn)),.ints .u64 16 (do2 th (kv (el l i)) (kx (el l i)) (ky (el l i)) m fu root fr fs gn),.ints .u64 16 (do3 th (kv (el l i)) (kx (el l i)) (ky (el l i)) m fu root fr fs gn),.ints .u64 16 (do4 th (kv (el l i)) (kx (el l i)) (ky (el l i)) m fu root fr fs gn)] 70,.own [.vec 2,.ag 3,.s (.int .i64 (do1 th (kv (el l i)) (kx (el l i)) (ky (el l i)) m fu root fr fs gn))] 96,.vec (.ae [.arr .u8 64] th) 138,.map (.arr .u8 64) (do0 th (kv (el l i)) (kx (el l i)) (ky (el l i)) m fu root fr fs gn),.vec (.ae [.str,.str] (lsF th (do0 th (kv (el l i)) (kx (el l i)) (ky (el l i)) m fu root fr fs gn) (doR th (kv (el l i)) (kx (el l i)) (ky (el l i)) m fu root fr fs gn) ByteArray.empty)) 34] (.s (.aI false))) (.need (aD (i+1)) (.at (.mk (sl 131 [(0,.s (.ro (.ae s5 l))),(4,.ptr 0 0),(5,.s (.int .i64 (i+1)))]) [.own [.ptr 1 0,.s (.int .i64 (doR th (kv (el l i)) (kx (el l i)) (ky (el l i)) m fu root fr fs gn)),.ints .u64 16 (do2 th (kv (el l i)) (kx (el l i)) (ky (el l i)) m fu root fr fs gn),.ints .u64 16 (do3 th (kv (el l i)) (kx (el l i)) (ky (el l i)) m fu root fr fs gn),.ints .u64 16 (do4 th (kv (el l i)) (kx (el l i)) (ky (el l i)) m fu root fr fs gn)] 70,.own [.vec 2,.ag 3,.s (.int .i64 (do1 th (kv (el l i)) (kx (el l i)) (ky (el l i)) m fu root fr fs gn))] 96,.vec (.ae [.arr .u8 64] th) 138,.map (.arr .u8 64) (do0 th (kv (el l i)) (kx (el l i)) (ky (el l i)) m fu root fr fs gn)] (hd Tryd.f6 5) (.mk none false 0 [] 0)))))))))))))))))))
 (.need (bE (some [AV.ptr 0 0,.s (.str ByteArray.empty)])) (.need (bE (some [ad.own [.ptr 1 0,.s (.int .i64 root),.ints .u64 16 fr,.ints .u64 16 fs,.ints .u64 16 gn] 70,.own [.vec 2,.ag 3,.s (.int .i64 fu)] 96,.vec (.ae [.arr .u8 64] th) 138,.map (.arr .u8 64) m])) (.need (Ds.bM th m fu) (.need ((0:Int)≤root∧root≤65536) (.at (.mk (sl 131 [(4,.ptr 0 0),(8,.vec 1),(10,.s (.int .i64 0))]) [.own [.ptr 2 0,.s (.int .i64 root),.ints .u64 16 fr,.ints .u64 16 fs,.ints .u64 16 gn] 70,.vec (.ae [.str,.str] (lsF th m root ByteArray.empty)) 34,.own [.vec 3,.ag 4,.s (.int .i64 fu)] 96,.vec (.ae [.arr .u8 64] th) 138,.map (.arr .u8 64) m] (hd Tryd.f6 13) (.mk none false 0 [] 0))))))):=by kernel_rfl
theorem akX(M:List En)(th:Th)(m:As)(fu root:Int)(fr fs gn:Ws)(i:Int):run P acy.sum Tryd.f6 anG (af0 M th m fu root fr fs gn i)=
 Tree.ite (decide (i<(↑M.length:Int)))
 (.need (aD (i*7))
   (.need (aD (i*7+3))
     (.need ((↑M.length:Int)≠0)
       (.need ((0:Int)≤(i*7+3).tmod (↑M.length:Int))
         (.need ((i*7+3).tmod (↑M.length:Int)<(↑M.length:Int))
           (.need (bE (some [AV.ptr 0 0,.s (.str (M.getD ((i*7+3).tmod (↑M.length:Int)).toNat (CL.d [.str,.str])).fst)]))
             (.need (bE (some [ad.own [.ptr 1 0,.s (.int .i64 root),.ints .u64 16 fr,.ints .u64 16 fs,.ints .u64 16 gn] 70,.own [.vec 2,.ag 3,.s (.int .i64 fu)] 96,.vec (.ae [.arr .u8 64] th) 138,.map (.arr .u8 64) m]))
               (.need (Ds.bM th m fu)
                 (.need (Bx.okW fr)
                   (.need ((0:Int)≤root∧root≤65536)
                     (.ite (opE th (M.getD ((i*7+3).tmod (↑M.length:Int)).toNat (CL.d [.str,.str])).fst none m fu root fr fs gn==0) (.ite (decide (i>(↑M.length:Int))) (.ret [.own [.ptr 2 0,.s (.int .i64 (og th (M.getD ((i*7+3).tmod (↑M.length:Int)).toNat (CL.d [.str,.str])).fst none m fu root fr fs gn)),.ints .u64 16 (sW th (M.getD ((i*7+3).tmod (↑M.length:Int)).toNat (CL.d [.str,.str])).fst none m fu root fr fs gn),.ints .u64 16 (sX th (M.getD ((i*7+3).tmod (↑M.length:Int)).toNat (CL.d [.str,.str])).fst none m fu root fr fs gn),.ints .u64 16 (sY th (M.getD ((i*7+3).tmod (↑M.length:Int)).toNat (CL.d [.str,.str])).fst none m fu root fr fs gn)] 70,.vec (.ae [.str,.str] M) 34,.own [.vec 3,.ag 4,.s (.int .i64 (sV th (M.getD ((i*7+3).tmod (↑M.length:Int)).toNat (CL.d [.str,.str])).fst none m fu root fr fs gn))] 96,.vec (.ae [.arr .u8 64] th) 138,.map (.arr .u8 64) (sU th (M.getD ((i*7+3).tmod (↑M.length:Int)).toNat (CL.d [.str,.str])).fst none m fu root fr fs gn)] (.s (.aI false))) (.need (aD (i+1)) (.at (.mk (sl 131 [(4,.ptr 0 0),(8,.vec 1),(10,.s (.int .i64 (i+1)))]) [.own [.ptr 2 0,.s (.int .i64 (og th (M.getD ((i*7+3).tmod (↑M.length:Int)).toNat (CL.d [.str,.str])).fst none m fu root fr fs gn)),.ints .u64 16 (sW th (M.getD ((i*7+3).tmod (↑M.length:Int)).toNat (CL.d [.str,.str])).fst none m fu root fr fs gn),.ints .u64 16 (sX th (M.getD ((i*7+3).tmod (↑M.length:Int)).toNat (CL.d [.str,.str])).fst none m fu root fr fs gn),.ints .u64 16 (sY th (M.getD ((i*7+3).tmod (↑M.length:Int)).toNat (CL.d [.str,.str])).fst none m fu root fr fs gn)] 70,.vec (.ae [.str,.str] M) 34,.own [.vec 3,.ag 4,.s (.int .i64 (sV th (M.getD ((i*7+3).tmod (↑M.length:Int)).toNat (CL.d [.str,.str])).fst none m fu root fr fs gn))] 96,.vec (.ae [.arr .u8 64] th) 138,.map (.arr .u8 64) (sU th (M.getD ((i*7+3).tmod (↑M.length:Int)).toNat (CL.d [.str,.str])).fst none m fu root fr fs gn)] (hd Tryd.f6 13) (.mk none false 0 [] 0)))))
                       (.need (aD (i+1)) (.at (.mk (sl 131 [(4,.ptr 0 0),(8,.vec 1),(10,.s (.int .i64 (i+1)))]) [.own [.ptr 2 0,.s (.int .i64 (og th (M.getD ((i*7+3).tmod (↑M.length:Int)).toNat (CL.d [.str,.str])).fst none m fu root fr fs gn)),.ints .u64 16 (sW th (M.getD ((i*7+3).tmod (↑M.length:Int)).toNat (CL.d [.str,.str])).fst none m fu root fr fs gn),.ints .u64 16 (sX th (M.getD ((i*7+3).tmod (↑M.length:Int)).toNat (CL.d [.str,.str])).fst none m fu root fr fs gn),.ints .u64 16 (sY th (M.getD ((i*7+3).tmod (↑M.length:Int)).toNat (CL.d [.str,.str])).fst none m fu root fr fs gn)] 70,.vec (.ae [.str,.str] M) 34,.own [.vec 3,.ag 4,.s (.int .i64 (sV th (M.getD ((i*7+3).tmod (↑M.length:Int)).toNat (CL.d [.str,.str])).fst none m fu root fr fs gn))] 96,.vec (.ae [.arr .u8 64] th) 138,.map (.arr .u8 64) (sU th (M.getD ((i*7+3).tmod (↑M.length:Int)).toNat (CL.d [.str,.str])).fst none m fu root fr fs gn)] (hd Tryd.f6 13) (.mk none false 0 [] 0)))))))))))))))
 (.need (bE (some [AV.ptr 0 0,.s (.str ByteArray.empty)])) (.need (bE (some [ad.own [.ptr 1 0,.s (.int .i64 root),.ints .u64 16 fr,.ints .u64 16 fs,.ints .u64 16 gn] 70,.own [.vec 2,.ag 3,.s (.int .i64 fu)] 96,.vec (.ae [.arr .u8 64] th) 138,.map (.arr .u8 64) m])) (.need (Ds.bM th m fu) (.need ((0:Int)≤root∧root≤65536) (.at (.mk (sl 131 [(4,.ptr 0 0),(8,.vec 1),(11,.s (.int .i64 0))]) [.own [.ptr 2 0,.s (.int .i64 root),.ints .u64 16 fr,.ints .u64 16 fs,.ints .u64 16 gn] 70,.vec (.ae [.str,.str] (lsF th m root ByteArray.empty)) 34,.own [.vec 3,.ag 4,.s (.int .i64 fu)] 96,.vec (.ae [.arr .u8 64] th) 138,.map (.arr .u8 64) m] (hd Tryd.f6 19) (.mk none false 0 [] 0))))))):=by kernel_rfl
theorem akY(M:List En)(th:Th)(m:As)(fu root:Int)(fr fs gn:Ws)(i:Int):run P acy.sum Tryd.f6 anG (af1 M th m fu root fr fs gn i)=
 Tree.ite (decide (i<(↑M.length:Int))) (.need ((0:Int)≤i) (.need (i<(↑M.length:Int)) (.need (bE (some [AV.ptr 0 0,.s (.str (M.getD i.toNat (CL.d [.str,.str])).fst)])) (.need (bE (some [ad.own [.ptr 1 0,.s (.int .i64 root),.ints .u64 16 fr,.ints .u64 16 fs,.ints .u64 16 gn] 70,.own [.vec 2,.ag 3,.s (.int .i64 fu)] 96,.vec (.ae [.arr .u8 64] th) 138,.map (.arr .u8 64) m])) (.need (Ds.bM th m fu) (.need (Bx.okW fr) (.need ((0:Int)≤root∧root≤65536) (.ite (opE th (M.getD i.toNat (CL.d [.str,.str])).fst none m fu root fr fs gn !=0) (.ret [.own [.ptr 2 0,.s (.int .i64 (og th (M.getD i.toNat (CL.d [.str,.str])).fst none m fu root fr fs gn)),.ints .u64 16 (sW th (M.getD i.toNat (CL.d [.str,.str])).fst none m fu root fr fs gn),.ints .u64 16 (sX th (M.getD i.toNat (CL.d [.str,.str])).fst none m fu root fr fs gn),.ints .u64 16 (sY th (M.getD i.toNat (CL.d [.str,.str])).fst none m fu root fr fs gn)] 70,.vec (.ae [.str,.str] M) 34,.own [.vec 3,.ag 4,.s (.int .i64 (sV th (M.getD i.toNat (CL.d [.str,.str])).fst none m fu root fr fs gn))] 96,.vec (.ae [.arr .u8 64] th) 138,.map (.arr .u8 64) (sU th (M.getD i.toNat (CL.d [.str,.str])).fst none m fu root fr fs gn)] (.s (.aI false))) (.need (aD (i+1)) (.at (.mk (sl 131 [(4,.ptr 0 0),(8,.vec 1),(11,.s (.int .i64 (i+1)))]) [.own [.ptr 2 0,.s (.int .i64 (og th (M.getD i.toNat (CL.d [.str,.str])).fst none m fu root fr fs gn)),.ints .u64 16 (sW th (M.getD i.toNat (CL.d [.str,.str])).fst none m fu root fr fs gn),.ints .u64 16 (sX th (M.getD i.toNat (CL.d [.str,.str])).fst none m fu root fr fs gn),.ints .u64 16 (sY th (M.getD i.toNat (CL.d [.str,.str])).fst none m fu root fr fs gn)] 70,.vec (.ae [.str,.str] M) 34,.own [.vec 3,.ag 4,.s (.int .i64 (sV th (M.getD i.toNat (CL.d [.str,.str])).fst none m fu root fr fs gn))] 96,.vec (.ae [.arr .u8 64] th) 138,.map (.arr .u8 64) (sU th (M.getD i.toNat (CL.d [.str,.str])).fst none m fu root fr fs gn)] (hd Tryd.f6 19) (.mk none false 0 [] 0))))))))))))
 (.need (bE (some [AV.ptr 0 0]))
   (.need (bE (some [ad.own [.ptr 1 0,.s (.int .i64 root),.ints .u64 16 fr,.ints .u64 16 fs,.ints .u64 16 gn] 70,.own [.vec 2,.ag 3,.s (.int .i64 fu)] 96,.vec (.ae [.arr .u8 64] th) 138,.map (.arr .u8 64) m]))
     (.need (Ds.bM th m fu)
       (.need ((0:Int)≤root∧root≤65536)
         (.ite (pgE th m root==0) (.ite (decide (pgF th m root=List.replicate 16 0)) (.need (bE (some [AV.ptr 0 0])) (.need (bE (some [ad.own [.ptr 1 0,.s (.int .i64 root),.ints .u64 16 fr,.ints .u64 16 fs,.ints .u64 16 gn] 70,.own [.vec 2,.ag 3,.s (.int .i64 fu)] 96,.vec (.ae [.arr .u8 64] th) 138,.map (.arr .u8 64) m])) (.ite (root==0) (.need (bE (some [AV.ptr 0 0])) (.need (bE (some [ad.own [.ptr 1 0,.s (.int .i64 root),.ints .u64 16 fr,.ints .u64 16 fs,.ints .u64 16 gn] 70,.own [.vec 2,.ag 3,.s (.int .i64 fu)] 96,.vec (.ae [.arr .u8 64] th) 138,.map (.arr .u8 64) m])) (.ite (decide (fs=List.replicate 16 0)) (.need (bE (some [AV.ptr 0 0])) (.need (bE (some [ad.own [.ptr 1 0,.s (.int .i64 root),.ints .u64 16 fr,.ints .u64 16 fs,.ints .u64 16 gn] 70,.own [.vec 2,.ag 3,.s (.int .i64 fu)] 96,.vec (.ae [.arr .u8 64] th) 138,.map (.arr .u8 64) m])) (.need (Bx.okW fr) (.ret [.own [.ptr 2 0,.s (.int .i64 root),.ints .u64 16 fr,.ints .u64 16 fs,.ints .u64 16 gn] 70,.vec (.ae [.str,.str] M) 34,.own [.vec 3,.ag 4,.s (.int .i64 fu)] 96,.vec (.ae [.arr .u8 64] th) 138,.map (.arr .u8 64) m,.own [.ints .u64 16 (pgF th m root)] 47] (.s (.bool (Bx.abR fr==248))))))) (.ret [.own [.ptr 2 0,.s (.int .i64 root),.ints .u64 16 fr,.ints .u64 16 fs,.ints .u64 16 gn] 70,.vec (.ae [.str,.str] M) 34,.own [.vec 3,.ag 4,.s (.int .i64 fu)] 96,.vec (.ae [.arr .u8 64] th) 138,.map (.arr .u8 64) m,.own [.ints .u64 16 (pgF th m root)] 47] (.s (.aI false)))))) (.ret [.own [.ptr 2 0,.s (.int .i64 root),.ints .u64 16 fr,.ints .u64 16 fs,.ints .u64 16 gn] 70,.vec (.ae [.str,.str] M) 34,.own [.vec 3,.ag 4,.s (.int .i64 fu)] 96,.vec (.ae [.arr .u8 64] th) 138,.map (.arr .u8 64) m,.own [.ints .u64 16 (pgF th m root)] 47] (.s (.aI false)))))) (.ret [.own [.ptr 2 0,.s (.int .i64 root),.ints .u64 16 fr,.ints .u64 16 fs,.ints .u64 16 gn] 70,.vec (.ae [.str,.str] M) 34,.own [.vec 3,.ag 4,.s (.int .i64 fu)] 96,.vec (.ae [.arr .u8 64] th) 138,.map (.arr .u8 64) m,.own [.ints .u64 16 (pgF th m root)] 47] (.s (.aI false))))
           (.ret [.own [.ptr 2 0,.s (.int .i64 root),.ints .u64 16 fr,.ints .u64 16 fs,.ints .u64 16 gn] 70,.vec (.ae [.str,.str] M) 34,.own [.vec 3,.ag 4,.s (.int .i64 fu)] 96,.vec (.ae [.arr .u8 64] th) 138,.map (.arr .u8 64) m,.own [.ints .u64 16 (pgF th m root)] 47] (.s (.aI false)))))))):=by kernel_rfl
theorem ka:acy.Ok P Bx.bV:=aH.Ok.cons akD.sum (aH.Ok.cons (atM.sum mLg) (aH.Ok.cons (afL.sum mMd) (aH.Ok.cons (atN.sum at1) (aH.Ok.cons (anp.sum mGt) (aH.Ok.cons (afJ.sum mT) (aH.Ok.cons (nD.sum mGt) (aH.Ok.cons (akz.sum mT) (aH.Ok.cons (akB.sum mT) (aH.Ok.cons (afK.sum mT) (aH.Ok.cons Bx.aqA.sum aH.Ok.nil))))))))))
abbrev KT:List ad→AV→Prop:=Ends [cV] (true,())
theorem ark(key:ByteArray){p:Prop}[Decidable p](E:List En):(if p then kU key none E else E).length≤E.length:=by
 split
 ·exact List.length_filter_le _ _
 ·exact Nat.le_refl _
theorem zb{m:As}{root:Int}{fr fs gn:Ws}{h:Nat}{E:List En}{ps:List Int}{po:Nat}(T:TB m root fr fs gn h E ps po):(!((root==(0:Int))==((E.length:Int)==0)))=false:=by
 have z:=T.holds.zero.1
 cases E with
 |nil=>rw[z.2 rfl];rfl
 |cons x r=>
  have h1:¬root=0:=fun e=>by cases z.1 e
  rw[beq_eq_false_iff_ne.2 h1,show(((x::r).length:Int)==0)=false from beq_eq_false_iff_ne.2 (by rw[List.length_cons];omega)]
  rfl
section
variable{X:Ctx}(hX:∀id,X.H id=none)(hz:dS Bx.bV X)
include hX hz
theorem at4{M:List En}(hM:M.length≤90):∀(j k:Nat),k+j=M.length→∀{m:As} {root:Int} {fr fs gn:Ws} {h:Nat} {ps:List Int} {po:Nat},TB m root fr fs gn h (M.drop k) ps po→po≤7290→
 Safe P 6 X KT (af1 M iH m (-1) root fr fs gn (k:Int))
 |0,k,hk,m,root,fr,fs,gn,h,ps,po,T,hp=>by
  rw[List.drop_of_length_le (by omega)]at T
  obtain⟨z1,z2,z3,z4⟩:=T.none aal
  have hh:=T.small (by omega)
  obtain⟨p1,p2,p3⟩:=ad9 T.holds T.inv.nd (by omega)
  subst z1 z2 z3
  have p4:pgF iH m 0=Bx.aP:=ajT p2 Bx.eG.1 fun p=>(p3 p).trans ⟨fun x=>(by cases x),fun x=>absurd x eX⟩
  have l4:Bx.abR fr=248:=by rw[anC T.ok.fr,z4,afZ];rfl
  refine Lf.go hz hX ka Tryd.func6 (akY M iH m (-1) 0 fr Bx.aP gn k) ⟨fun h=>absurd (of_decide_eq_true h) (by omega),fun _=>⟨rfl,rfl,T.ok.d,⟨by omega,by omega⟩,fun _=>⟨fun _=>⟨rfl,rfl,fun _=>⟨rfl,rfl,fun _=>⟨rfl,rfl,T.ok.fr, ?_⟩,fun h=> ?_⟩,fun h=> ?_⟩,fun h=> ?_⟩,fun h=> ?_⟩⟩
  ·rw[l4];exact adv
  ·exact absurd h (by decide)
  ·exact absurd h (by decide)
  ·exact absurd (of_decide_eq_false h) (not_not_intro p4)
  ·rw[p1]at h;cases h
 |j+1,k,hk,m,root,fr,fs,gn,h,ps,po,T,hp=>by
  have hr:=T.rng
  have d:M.drop k=M.getD k dE::M.drop (k+1):=drop_cons dE (by omega)
  obtain⟨iX,hri⟩:=T.holds.aed
  rw[d]at iX hri
  have hw:opW (M.getD k dE).1 none (M.drop k)=0:=by
   rw[d]
   exact anF (ok_none (iX _ List.mem_cons_self)) (by unfold gF;rw[acx hri];simp only[List.length_cons,decide_eq_true_eq];omega)
  obtain⟨m',oP,oO,lB,qX,h',E',ps',tJ,e,T',hpo,hE⟩:=wu (key:=(M.getD k dE).1) (op:=none) T (by rw[List.length_drop];omega) hp
  rw[hw]at e hE
  rw[if_pos rfl,d]at hE
  have hE:E'=M.drop (k+1):=hE.trans (acx hri)
  subst hE
  have wv:tJ≤po:=hpo
  have c0:sU iH (M.getD k dE).1 none m (-1) root fr fs gn=m':=by unfold sU;rw[e]
  have c1:sV iH (M.getD k dE).1 none m (-1) root fr fs gn= -1:=by unfold sV;rw[e]
  have cR:og iH (M.getD k dE).1 none m (-1) root fr fs gn=oP:=by unfold og;rw[e]
  have c2:sW iH (M.getD k dE).1 none m (-1) root fr fs gn=oO:=by unfold sW;rw[e]
  have c3:sX iH (M.getD k dE).1 none m (-1) root fr fs gn=lB:=by unfold sX;rw[e]
  have c4:sY iH (M.getD k dE).1 none m (-1) root fr fs gn=qX:=by unfold sY;rw[e]
  have cE:opE iH (M.getD k dE).1 none m (-1) root fr fs gn=0:=by unfold opE;rw[e]
  have ih:=at4 hM j (k+1) (by omega) T' (by omega)
  refine Lf.go hz hX ka Tryd.func6 (akY M iH m (-1) root fr fs gn k) ⟨fun _=>⟨by omega,by omega,rfl,rfl,T.ok.d,T.ok.fr,hr,fun h=> ?_,fun _=>⟨z7 (by omega) (by omega), ?_⟩⟩,fun h=>absurd (of_decide_eq_false h) (by omega)⟩
  ·exact absurd cE (bne_iff_ne.1 h)
  ·show Safe P 6 X KT (af1 M iH (sU iH (M.getD k dE).1 none m (-1) root fr fs gn) (sV iH (M.getD k dE).1 none m (-1) root fr fs gn) (og iH (M.getD k dE).1 none m (-1) root fr fs gn) (sW iH (M.getD k dE).1 none m (-1) root fr fs gn) (sX iH (M.getD k dE).1 none m (-1) root fr fs gn) (sY iH (M.getD k dE).1 none m (-1) root fr fs gn) ((k:Int)+1))
   rw[c0,c1,cR,c2,c3,c4]
   exact ih
theorem at5{M:List En}(hM:M.length≤90):∀(j k:Nat),k+j=M.length→∀{m:As} {root:Int} {fr fs gn:Ws} {h:Nat} {E:List En} {ps:List Int} {po:Nat},TB m root fr fs gn h E ps po→po≤7290→E.length≤90→
 Safe P 6 X KT (af0 M iH m (-1) root fr fs gn (k:Int))
 |0,k,hk,m,root,fr,fs,gn,h,E,ps,po,T,hp,hE=>by
  have hh:=T.small (by omega)
  obtain⟨l1,l2⟩:=r9 T.holds T.inv.nd (by omega) ByteArray.empty
  rw[filter_all]at l2
  refine Lf.go hz hX ka Tryd.func6 (akX M iH m (-1) root fr fs gn k) ⟨fun h=>absurd (of_decide_eq_true h) (by omega),fun _=>⟨rfl,rfl,T.ok.d,T.rng, ?_⟩⟩
  show Safe P 6 X KT (af1 (lsF iH m root ByteArray.empty) iH m (-1) root fr fs gn ((0:Nat):Int))
  rw[l2]
  exact at4 hX hz hE E.length 0 (by omega) T hp
 |j+1,k,hk,m,root,fr,fs,gn,h,E,ps,po,T,hp,hE=>by
  have hr:=T.rng
  have arw:(0:Int)<(M.length:Int):=by omega
  have q1:0≤((k:Int)*7+3).tmod (M.length:Int):=Int.tmod_nonneg _ (by omega)
  have q2:((k:Int)*7+3).tmod (M.length:Int)<(M.length:Int):=Int.tmod_lt_of_pos _ arw
  generalize hq:((k:Int)*7+3).tmod (M.length:Int)=q at q1 q2
  generalize pJ:(M.getD q.toNat dE).1=key
  obtain⟨m',oP,oO,lB,qX,h',E',ps',tJ,e,T',hpo,hE2⟩:=wu (key:=key) (op:=none) T hE hp
  have wv:tJ≤po:=hpo
  have hE':E'.length≤E.length:=by rw[hE2];exact ark key E
  have c0:sU iH key none m (-1) root fr fs gn=m':=by unfold sU;rw[e]
  have c1:sV iH key none m (-1) root fr fs gn= -1:=by unfold sV;rw[e]
  have cR:og iH key none m (-1) root fr fs gn=oP:=by unfold og;rw[e]
  have c2:sW iH key none m (-1) root fr fs gn=oO:=by unfold sW;rw[e]
  have c3:sX iH key none m (-1) root fr fs gn=lB:=by unfold sX;rw[e]
  have c4:sY iH key none m (-1) root fr fs gn=qX:=by unfold sY;rw[e]
  have ih:=at5 hM j (k+1) (by omega) T' (by omega) (by omega)
  have nx:Safe P 6 X KT (af0 M iH (sU iH key none m (-1) root fr fs gn) (sV iH key none m (-1) root fr fs gn) (og iH key none m (-1) root fr fs gn) (sW iH key none m (-1) root fr fs gn) (sX iH key none m (-1) root fr fs gn) (sY iH key none m (-1) root fr fs gn) ((k:Int)+1)):=by
   rw[c0,c1,cR,c2,c3,c4]
   exact ih
  subst pJ hq
  refine Lf.go hz hX ka Tryd.func6 (akX M iH m (-1) root fr fs gn k) ⟨fun _=>⟨z7 (by omega) (by omega),z7 (by omega) (by omega),by omega,q1,q2,rfl,rfl,T.ok.d,T.ok.fr,hr,fun _=>⟨fun h=> ?_,fun _=>⟨z7 (by omega) (by omega),nx⟩⟩,fun _=>⟨z7 (by omega) (by omega),nx⟩⟩,fun h=>absurd (of_decide_eq_false h) (by omega)⟩
  exact absurd (of_decide_eq_true h) (by omega)
theorem em5{l:List (CL s5)}(hl:l.length≤90):∀(j k:Nat),k+j=l.length→∀{m:As} {root:Int} {fr fs gn:Ws} {h:Nat} {E:List En} {ps:List Int} {po:Nat},TB m root fr fs gn h E ps po→po≤81*k→E.length≤k→
 Safe P 6 X KT (cEm l iH m (-1) root fr fs gn (k:Int))
 |0,k,hk,m,root,fr,fs,gn,h,E,ps,po,T,hp,hE=>by
  have hh:=T.small (by omega)
  obtain⟨l1,l2⟩:=r9 T.holds T.inv.nd (by omega) ByteArray.empty
  rw[filter_all]at l2
  refine Lf.go hz hX ka Tryd.func6 (at3 l iH m (-1) root fr fs gn k) ⟨fun h=>absurd (of_decide_eq_true h) (by omega),fun _=>⟨rfl,rfl,T.ok.d,T.rng, ?_⟩⟩
  show Safe P 6 X KT (af0 (lsF iH m root ByteArray.empty) iH m (-1) root fr fs gn ((0:Nat):Int))
  rw[l2]
  exact at5 hX hz (by omega) E.length 0 (by omega) T (by omega) (by omega)
 |j+1,k,hk,m,root,fr,fs,gn,h,E,ps,po,T,hp,hE=>by
  have hr:=T.rng
  generalize hK:kv (el l k)=K
  generalize hA:kx (el l k)=key
  generalize hV:ky (el l k)=val
  obtain⟨m',oP,oO,lB,qX,h',E',ps',tJ,e,T',hpo,hE2⟩:=wu (key:=key) (op:=stOp K val) T (by omega) (by omega)
  have wv:=arh (stOp K val)
  have hE':E'.length≤E.length+1:=by rw[hE2];exact arj _ _ _
  have hh:=T'.small (by omega)
  obtain⟨l1,l2⟩:=r9 T'.holds T'.inv.nd (by omega) ByteArray.empty
  rw[filter_all]at l2
  have c0:do0 iH K key val m (-1) root fr fs gn=m':=by unfold do0;rw[e]
  have c1:do1 iH K key val m (-1) root fr fs gn= -1:=by unfold do1;rw[e]
  have cR:doR iH K key val m (-1) root fr fs gn=oP:=by unfold doR;rw[e]
  have c2:do2 iH K key val m (-1) root fr fs gn=oO:=by unfold do2;rw[e]
  have c3:do3 iH K key val m (-1) root fr fs gn=lB:=by unfold do3;rw[e]
  have c4:do4 iH K key val m (-1) root fr fs gn=qX:=by unfold do4;rw[e]
  have ih:=em5 hl j (k+1) (by omega) T' (by omega) (by omega)
  have tz:=zb T'
  refine Lf.go hz hX ka Tryd.func6 (at3 l iH m (-1) root fr fs gn k) ⟨fun _=> ?_,fun h=>absurd (of_decide_eq_false h) (by omega)⟩
  rw[hK,hA,hV,c0,c1,cR,c2,c3,c4,l1,l2]
  refine⟨by omega,by omega,rfl,rfl,T.ok.d,T.ok.fr,hr,rfl,rfl,T'.ok.d,T'.rng,fun h=>(by cases h),fun _=>⟨rfl,rfl,fun h=> ?_,fun _=>⟨z7 (by omega) (by omega),ih⟩⟩⟩
  rw[tz]at h;cases h
end
theorem aam:dt P Bx.bV 6 [.b (.row (.ae s5) 32)] [cV] (fun _=>[]) (fun _=>(true,())):=by
 refine au Tryd.func6 (by kernel_rfl) (by kernel_rfl) ?_
 rintro⟨(l:List (CL s5)),⟨⟩⟩ ⟨(hl0:l.length≤maxLen),_⟩ _ X hX hz
 show Safe P 6 X KT _
 have hlen:l.length≤9223372036854775807:=by unfold maxLen at hl0;omega
 refine Lf.go hz hX ka Tryd.func6 (avr l) ⟨fun h=>(by cases h),fun _=>⟨rfl,rfl,hlen,fun _=>adv,fun hl=>⟨rfl,rfl,⟨by omega,by omega⟩, ?_⟩⟩⟩
 exact em5 hX hz (by omega) l.length 0 (by omega) TI.big (by omega) (Nat.le_refl _)
end Ts
