/- Lemmas: M9, M10, M11, M12, M13, M14, F_full. -/
import Derived.Test.YtcjldfgkonfocaaDoorPE
namespace Ts
open Go Go.Sx Go.Proofs Lf
theorem ab0{h:Nat}{Q:List (Kd h)}{key:ByteArray}(hQ:Q≠[])(hb:bT Q=Q)(jP:gH (Q.map (cT h))=true):
 ∃A k B,Q=A++k::B∧(aT (Q.map (cT h)) key).toNat=A.length∧slt key k.1=false∧(∀b∈B,slt key b.1=true):=by
 have hs:=apr jP
 have hn:mg (Q.map (cT h))≠[]:=by cases Q with|nil=>exact absurd rfl hQ|cons q r=>simp
 obtain⟨p,e,hp,h0,h1⟩:=ve (ks:=mg (Q.map (cT h))) (key:=key) hs hn
 have hl:(mg (Q.map (cT h))).length=Q.length:=by simp
 rw[hl]at hp h1
 have ek:∀i,i<Q.length→(mg (Q.map (cT h))).getD i ByteArray.empty=(Q.getD i (ByteArray.empty,Q.head hQ |>.2)).1:=fun i hi=>by
  rw[bh (by simpa using hi),bh hi];simp[cT]
 refine⟨Q.take p,Q[p],Q.drop (p+1), ?_, ?_, ?_,fun b hb=> ?_⟩
 ·rw[List.getElem_cons_drop,List.take_append_drop]
 ·unfold aT
  rw[e,List.length_take,Int.toNat_natCast]
  omega
 ·rcases h0 with h0|h0
  ·subst h0
   have:Q[0].1=ByteArray.empty:=by
    cases Q with
    |nil=>exact absurd rfl hQ
    |cons q r=>
     simp only[bT,List.cons.injEq]at hb
     show q.1=_
     rw[←hb.1]
   rw[this];exact gq _
  ·rw[ek p hp,bh hp]at h0;exact h0
 ·obtain⟨i,hi,rfl⟩:=List.getElem_of_mem hb
  rw[List.length_drop]at hi
  have:=h1 (p+1+i) (by omega) (by omega)
  rw[ek _ (by omega),bh (by omega)]at this
  rw[List.getElem_drop];exact this
theorem akn{P x y a b F n m:Nat}(c:Nat)(h1:F+(n - 1)*(81*P)≤m+c)(hn:n≤2)(hz:(n≤1→y≤x)∧(n≤2→y≤x+27)):3*P*(19+y)+(a+F+b)≤3*P*(19+x)+(a+m+b)+c:=by
 have k:3*P*(19+y)≤3*P*(19+x)+(n - 1)*(81*P):=by
  rcases Nat.lt_or_ge 1 n with h|h
  ·have e:n=2:=by omega
   subst e
   have:=Nat.mul_le_mul_left (3*P) (show 19+y≤(19+x)+27 from by have:=hz.2 (Nat.le_refl _);omega)
   rw[Nat.mul_add (3*P) (19+x) 27]at this
   omega
  ·have:=Nat.mul_le_mul_left (3*P) (show 19+y≤19+x from by have:=hz.1 h;omega)
   omega
 omega
theorem ag4{P x a b F m:Nat}(c:Nat)(h1:F+(2 - 1)*(81*P)≤m+c)(hx:73≤x):3*P*38+(a+F+b)+(2 - 1)*(81*(3*P))≤3*P*(19+x)+(a+m+b)+c:=by
 have:=Nat.mul_le_mul_left (3*P) (show 92≤19+x from by omega)
 omega
theorem ab1{th:Th}{key:ByteArray}{op:Option ByteArray}(hk:1≤key.size∧key.size≤24)(hv:∀v,op=some v→v.size≤100):∀(h:Nat) {s:S5} {t:TN h} {f:Nat} {deep:Int},xt th s→rep th s.m h t→sO h t→(∀p∈oE h t,¬In s.fr p)→h<f→deep+(h:Int)≤16→
 adP th key op s (cS th key op f s (pg h t) deep) h (eb h t) (oE h t) (tq h t) (cL th key op f s (pg h t) deep) (cE' th key op f s (pg h t) deep)
 |0,s,t,f,deep,ho,hr,ht,hp,hf,hd=>by
  cases f with
  |zero=>omega
  |succ f=>exact akm hk hv ho hr ht (by omega)
 |h+1,s,t,f,deep,ho,hr,ht,hp,hf,hd=>by
  cases f with
  |zero=>omega
  |succ f=>
  obtain⟨n,Q⟩:=t
  obtain⟨hr1,wv⟩:=(show Rd th s.m n false [] (Q.map (cT h))∧∀k∈Q,rep th s.m h k.2 from hr)
  obtain⟨hQ,hQb,jP,bI,zR,hT⟩:=(show Q≠[]∧bT Q=Q∧gH (Q.map (cT h))=true∧nv h Q≤254∧adG h Q∧∀k∈Q,sO h k.2 from ht)
  obtain⟨e1,e2,e3,e4⟩:=hr1.nd (deep:=deep) (by omega)
  obtain⟨A,k,B,eQ,ep,yJ,sK⟩:=ab0 (key:=key) hQ hQb jP
  have cu:Q.map (cT h)≠[]:=by cases Q with|nil=>exact absurd rfl hQ|cons q r=>simp
  have egd:(Q.map (cT h)).getD A.length dB=cT h k:=by rw[eQ];simp[List.getD]
  have etk:(Q.map (cT h)).take A.length=A.map (cT h):=by rw[eQ];simp
  have edp:(Q.map (cT h)).drop (A.length+1)=B.map (cT h):=by
   rw[eQ,List.map_append,List.map_cons,←List.drop_drop]
   have e:(A.map (cT h)++cT h k::B.map (cT h)).drop A.length=cT h k::B.map (cT h):=by
    have:=List.drop_left (l₁:=A.map (cT h)) (l₂:=cT h k::B.map (cT h))
    rw[List.length_map]at this
    exact this
   rw[e];rfl
  have epg:bQ h Q=bQ h A++(oE h k.2++bQ h B):=by rw[eQ,qA,lI]
  have hpn:¬In s.fr n:=hp n List.mem_cons_self
  have hpA:∀p∈bQ h A,¬In s.fr p:=fun p jZ=>hp p (List.mem_cons_of_mem _ (show p∈bQ h Q from by rw[epg];exact List.mem_append_left _ jZ))
  have hpk:∀p∈oE h k.2,¬In s.fr p:=fun p jZ=>hp p (List.mem_cons_of_mem _ (show p∈bQ h Q from by rw[epg];exact List.mem_append_right _ (List.mem_append_left _ jZ)))
  have hpB:∀p∈bQ h B,¬In s.fr p:=fun p jZ=>hp p (List.mem_cons_of_mem _ (show p∈bQ h Q from by rw[epg];exact List.mem_append_right _ (List.mem_append_right _ jZ)))
  have kin:k∈Q:=by rw[eQ];exact List.mem_append_right _ List.mem_cons_self
  have ih:=ab1 hk hv h (s:=s) (t:=k.2) (f:=f) (deep:=deep+1) ho (wv k kin) (hT k kin) hpk (by omega) (by omega)
  have epk:(cT h k).2.1=pg h k.2:=rfl
  have ekk:(cT h k).1=k.1:=rfl
  show adP th key op s (cS th key op (f+1) s n deep) (h+1) (bP h Q) (n::bQ h Q) (3^(h+1)*(19+zU (nv h Q))+eX h Q) (cL th key op (f+1) s n deep) (cE' th key op (f+1) s n deep)
  have ed:vC th key op (f+1) s.m s.fu s.fr s.fs s.gn n deep=if cE' th key op f s (pg h k.2) (deep+1)≠0 then
   ((cS th key op f s (pg h k.2) (deep+1)).m,(cS th key op f s (pg h k.2) (deep+1)).fu,(cS th key op f s (pg h k.2) (deep+1)).fr,(cS th key op f s (pg h k.2) (deep+1)).fs,(cS th key op f s (pg h k.2) (deep+1)).gn,[],cE' th key op f s (pg h k.2) (deep+1))
   else gL (lvT (cS th key op f s (pg h k.2) (deep+1)) n).gn (bo th (lvT (cS th key op f s (pg h k.2) (deep+1)) n).m (lvT (cS th key op f s (pg h k.2) (deep+1)) n).fu (lvT (cS th key op f s (pg h k.2) (deep+1)) n).fr (lvT (cS th key op f s (pg h k.2) (deep+1)) n).fs false [] (A.map (cT h)++kK k.1 (cL th key op f s (pg h k.2) (deep+1))++B.map (cT h))):=by
   rw[fV,if_neg (by rw[e1];simp),if_neg (by rw[e2];simp),e4,if_neg cu,e3,ep,egd,etk,edp,epk,ekk]
   rfl
  generalize cS th key op f s (pg h k.2) (deep+1)=s2 at ih ed
  generalize cL th key op f s (pg h k.2) (deep+1)=l2 at ih ed
  generalize cE' th key op f s (pg h k.2) (deep+1)=x2 at ih ed
  rcases ih with⟨hx,hc,N,V,rest,k0,F,g⟩|⟨hx,N,V,g⟩
  ·rw[if_neg (by rw[hx];simp),g.l,agV,abD,←List.map_append,←List.map_append]at ed
   have hnN:n ∉ N:=fun hh=>hpn (g.qL.sub n hh)
   have l1:qC th s (lvT s2 n) N (V++[n]):=by
    have:=eO g.qL (adI g.qL.ok n) (fun p jZ=>by rw[List.mem_singleton.1 jZ];exact hnN)
    rw[List.append_nil]at this
    exact this
   have ho3:=l1.ok
   obtain⟨j1,j2,j3,j4,j5,j6⟩:=ag3 (th:=th) (m:=(lvT s2 n).m) (A:=A) (B:=B) (F:=F) (k:=k) (key:=key) (op:=op) (by rw[←eQ];exact hQb) (by rw[←eQ];exact jP) (by rw[←eQ];exact zR) (by rw[←eQ];exact hT)
    (fun x hx=>g.qL.rep h (wv x (by rw[eQ];exact List.mem_append_left _ hx)) fun p jZ=>hpA p (List.mem_flatMap.2 ⟨x,hx,jZ⟩))
    (fun x hx=>g.qL.rep h (wv x (by rw[eQ];exact List.mem_append_right _ (List.mem_cons_of_mem _ hx))) fun p jZ=>hpB p (List.mem_flatMap.2 ⟨x,hx,jZ⟩)) g.fr g.eb yJ sK
   rw[←eQ]at j3 j4 j5 j6
   have atj:aa ((A++bX k.1 F++B).map (cT h))=(bT (A++bX k.1 F++B)).map (cT h):=jG _
   have pgJ:bQ h (bT (A++bX k.1 F++B))=bQ h A++bQ h F++bQ h B:=by rw[xY,qA,qA,ajB]
   have atk:eX h (bT (A++bX k.1 F++B))=eX h A+eX h F+eX h B:=by rw[xZ,qB,qB,ajC]
   have auU:eX h Q=eX h A+tq h k.2+eX h B:=by rw[eQ,qB,ij];omega
   have atl:∀p∈bQ h (bT (A++bX k.1 F++B)),¬In (lvT s2 n).fr p:=fun p jZ dm=>by
    obtain⟨i1,i2⟩:=(l1.fr p).1 dm
    rw[pgJ]at jZ
    rcases List.mem_append.1 jZ with jZ|jZ
    ·rcases List.mem_append.1 jZ with jZ|jZ
     ·exact hpA p jZ i1
     ·rcases List.mem_append.1 ((g.new.mem_iff).1 jZ)with jZ|jZ
      ·exact i2 jZ
      ·exact hpk p ((g.old.mem_iff).2 (List.mem_append_right _ jZ)) i1
    ·exact hpB p jZ i1
   have c1:cS th key op (f+1) s n deep=sS th (lvT s2 n) false [] ((A++bX k.1 F++B).map (cT h)):=by unfold cS pj pn pq qz rI;rw[ed];rfl
   have c2:cL th key op (f+1) s n deep=sL th (lvT s2 n) false [] ((A++bX k.1 F++B).map (cT h)):=by unfold cL sQ;rw[ed];rfl
   have c3:cE' th key op (f+1) s n deep=sE th (lvT s2 n) false [] ((A++bX k.1 F++B).map (cT h)):=by unfold cE' rJ;rw[ed];rfl
   rw[c1,c2,c3]
   have old:(n::bQ h Q).Perm ((V++[n])++(rest++(bQ h A++bQ h B))):=by
    rw[epg]
    have a1:(bQ h A++(oE h k.2++bQ h B)).Perm (oE h k.2++(bQ h A++bQ h B)):=by
     rw[←List.append_assoc,←List.append_assoc]
     exact List.Perm.append_right _ List.perm_append_comm
    have a2:(oE h k.2++(bQ h A++bQ h B)).Perm ((V++rest)++(bQ h A++bQ h B)):=List.Perm.append_right _ g.old
    have a3:=(List.Perm.cons n (a1.trans a2))
    refine a3.trans ?_
    rw[List.append_assoc,List.append_assoc V [n],List.singleton_append]
    exact List.perm_middle.symm
   have atm:(bQ h (bT (A++bX k.1 F++B))).Perm (N++(rest++(bQ h A++bQ h B))):=by
    rw[pgJ]
    have a1:(bQ h A++bQ h F++bQ h B).Perm (bQ h F++(bQ h A++bQ h B)):=by
     rw[←List.append_assoc]
     exact List.Perm.append_right _ List.perm_append_comm
    refine a1.trans ?_
    rw[←List.append_assoc N]
    exact List.Perm.append_right _ g.new
   by_cases hJ:bT (A++bX k.1 F++B)=[]
   ·have h0:(A++bX k.1 F++B)=[]:=by
     cases hx:A++bX k.1 F++B with
     |nil=>rfl
     |cons x r=>rw[hx]at hJ;cases hJ
    obtain⟨a,b,c⟩:=afp (l:=false) (es:=[]) (bs:=(A++bX k.1 F++B).map (cT h)) ho3 (by rw[h0];rfl)
    have p0:=atm
    rw[hJ]at p0
    refine .inl ⟨a,by rw[j4];exact hc,N++[],(V++[n])++[],rest++(bQ h A++bQ h B),ByteArray.empty,[],eO l1 c (fun p hp=>by cases hp), ?_,b,afq, ?_, ?_, ?_,Nat.zero_le _,fun _=>Nat.zero_le _, ?_⟩
    ·rw[List.append_nil];have:=g.len;omega
    ·rw[←j3,hJ];rfl
    ·rw[List.append_nil];exact old
    ·rw[List.append_nil];exact p0
    ·show 0+(0 - 1)*_≤_
     rw[Nat.zero_sub,Nat.zero_mul];exact Nat.zero_le _
   ·have z27:=j6 g.two
    rcases aft ho3 atj hJ j1 atl j2 (by omega)with⟨a,N2,k2,F2,b,c,d,e,i,i2,i3⟩|⟨a,b⟩
    ·refine .inl ⟨a,by rw[j4];exact hc,N++N2,(V++[n])++[],rest++(bQ h A++bQ h B),k2,F2,eO l1 b (fun p hp=>by cases hp), ?_,d,e,by rw[i,j3],by rw[List.append_nil];exact old, ?_, ?_,fun hn=> ?_, ?_⟩
     ·rw[List.length_append];have:=g.len;omega
     ·refine i2.trans ?_
      refine(List.Perm.append_left N2 atm).trans ?_
      rw[←List.append_assoc]
      exact List.Perm.append_right _ List.perm_append_comm
     ·rcases i3 with⟨_,i3,_⟩|⟨_,i3,_⟩<;>omega
     ·rcases i3 with⟨_,i3,_⟩|⟨i4,i3,_⟩
      ·omega
      ·have:=j5 (g.del hn);omega
     ·have gp:=g.tq
      have e3:3^(h+1)=3*3^h:=by rw[Nat.pow_succ,Nat.mul_comm]
      rw[e3,auU]
      rcases i3 with⟨_,i4,i5⟩|⟨i6,i4,i5⟩
      ·rw[i5,i4,atk,e3,Nat.sub_self,Nat.zero_mul,Nat.add_zero]
       refine akn (opP op) gp g.two ⟨fun hl=> ?_,fun hl=> ?_⟩
       ·have:=j5 hl;unfold zU;omega
       ·unfold zU;omega
      ·have h2:F.length=2:=by
        rcases Nat.lt_or_ge 1 F.length with hl|hl
        ·have:=g.two;omega
        ·have:=j5 hl;omega
       rw[h2]at gp
       rw[i5,i4,atk,e3]
       exact ag4 (opP op) gp (by unfold zU;omega)
    ·exact .inr ⟨a,akl l1 (by have:=g.len;omega) (fun p hp=>(old.mem_iff).2 (List.mem_append_left _ hp)) b⟩
  ·rw[if_pos hx]at ed
   have c1:cS th key op (f+1) s n deep=s2:=by unfold cS pj pn pq qz rI;rw[ed]
   have c3:cE' th key op (f+1) s n deep=x2:=by unfold cE' rJ;rw[ed]
   rw[c1,c3]
   refine .inr ⟨hx,N,V,g.qL,by have:=g.len;omega,fun p jZ=>List.mem_cons_of_mem _ ?_, ?_⟩
   ·rw[epg];exact List.mem_append_right _ (List.mem_append_left _ (g.sub p jZ))
   ·rcases g.how with⟨a,b⟩|a
    ·refine .inl ⟨a, ?_⟩
     have sAB:=zR.1
     rw[eQ,List.pairwise_append]at sAB
     have eAk:∀x∈bP h A,slt x.1 key=true:=fun x hx=>by
      obtain⟨y,hy,hxy⟩:=List.mem_flatMap.1 hx
      exact ey (sAB.2.2 y hy k List.mem_cons_self x hxy) yJ
     have eBk:∀x∈bP h B,slt key x.1=true:=fun x hx=>by
      obtain⟨y,hy,hxy⟩:=List.mem_flatMap.1 hx
      exact ey (sK y hy) (zR.2 y (by rw[eQ];exact List.mem_append_right _ (List.mem_cons_of_mem _ hy)) x hxy)
     rw[eQ,jF,jY,←List.append_assoc,afv eAk eBk]
     exact b
    ·exact .inr a
end Ts
namespace Ts
open Go Go.Sx Go.Proofs Lf
def aP(th:Th)(m:As)(root:Int)(h:Nat)(E:List En)(ps:List Int)(po:Nat):Prop:=
 (root=0∧h=0∧E=[]∧ps=[]∧po=0)∨∃t:TN h,root=pg h t∧2≤root∧root<1024∧rep th m h t∧sO h t∧E=eb h t∧ps=oE h t∧po=tq h t
def tS(th:Th)(key:ByteArray)(op:Option ByteArray)(s:S5)(root:Int):S5:=
 ⟨wO th key op s.m s.fu root s.fr s.fs s.gn,wP th key op s.m s.fu root s.fr s.fs s.gn,wQ th key op s.m s.fu root s.fr s.fs s.gn,abN th key op s.m s.fu root s.fr s.fs s.gn,abO th key op s.m s.fu root s.fr s.fs s.gn⟩
structure afy (th:Th) (key:ByteArray) (op:Option ByteArray) (s t:S5) (h:Nat) (old:List En) (ps:List Int) (po:Nat) (l:List Br) (N V rest:List Int) (k0:ByteArray) (h2:Nat) (F:List (Kd h2)):Prop where
 qL:qC th s t N V
 l:l=kK k0 (F.map (cT h2))
 fr:For th t.m h2 F
 eb:bP h2 F=lP key op old
 old:ps.Perm (V++rest)
 new:(bQ h2 F).Perm (N++rest)
 one:F.length≤1
 tq:eX h2 F≤po+opP op
 hh:h2≤h+1
structure aqF (th:Th) (key:ByteArray) (op:Option ByteArray) (s t:S5) (h:Nat) (old:List En) (e:Int) (N V:List Int):Prop where
 qL:qC th s t N V
 len:N.length≤2*h+3
 how:(e=5∧qJ key op old=5)∨(e=41∧∀p,In s.fr p→p∈N)∨(e=42∧t.fu=0)
def stC(c:Chg):S5:=⟨c.1,c.2.1,c.2.2.1,c.2.2.2.1,c.2.2.2.2.1⟩
theorem For.okB{th:Th}{m:As}{h:Nat}{F:List (Kd h)}(f:For th m h F):gH (F.map (cT h))=true:=by
 rw[gN]
 refine⟨fun b hb=> ?_, ?_⟩
 ·obtain⟨x,hx,rfl⟩:=List.mem_map.1 hb
  exact⟨f.key x hx,f.pg x hx⟩
 ·rw[List.pairwise_map]
  refine List.Pairwise.imp_of_mem (fun{a b} ha hb hab=> ?_) f.sep.1
  obtain⟨e,he⟩:=List.exists_mem_of_ne_nil _ (tu h (f.ok a ha))
  have a1:=hab e he
  have a2:=f.sep.2 a ha e he
  show slt a.1 b.1=true
  rcases ib a.1 e.1 with h1|h1|h1
  ·exact cH h1 a1
  ·rw[h1];exact a1
  ·rw[a2]at h1;cases h1
theorem ako{th:Th}{key:ByteArray}{op:Option ByteArray}(hk:1≤key.size∧key.size≤24)(hv:∀v,op=some v→v.size≤100){s:S5}{root:Int}{h:Nat}{E:List En}{ps:List Int}{po:Nat}(ho:xt th s)(H:aP th s.m root h E ps po)(hp:∀p∈ps,¬In s.fr p)(hh:h≤15):
 adP th key op s (tS th key op s root) h E ps po (vT th key op s.m s.fu root s.fr s.fs s.gn) (vU th key op s.m s.fu root s.fr s.fs s.gn):=by
 rcases H with⟨h1,h2,h3,h4,h5⟩|⟨t,h1,h2,_,h3,h4,h5,h6,h7⟩
 ·subst h2 h3 h4 h5
  rcases afw key op []with hc|hc
  ·have e:iP th key op s.m s.fu root s.fr s.fs s.gn=gL s.gn (bo th s.m s.fu s.fr s.fs true (lP key op []) []):=by
    unfold iP
    rw[if_neg (by rw[h1];simp),if_neg (by rw[hc];simp),akk hc]
   have c1:tS th key op s root=sS th s true (lP key op []) []:=by unfold tS wO wP wQ abN abO;rw[e];rfl
   have c2:vT th key op s.m s.fu root s.fr s.fs s.gn=sL th s true (lP key op []) []:=by unfold vT;rw[e];rfl
   have c3:vU th key op s.m s.fu root s.fr s.fs s.gn=sE th s true (lP key op []) []:=by unfold vU;rw[e];rfl
   rw[c1,c2,c3]
   exact afx hk hv rfl (by decide) (gO ho) (List.Perm.refl _) hc
  ·have e:iP th key op s.m s.fu root s.fr s.fs s.gn=(s.m,s.fu,s.fr,s.fs,s.gn,[],5):=by
    unfold iP
    rw[if_neg (by rw[h1];simp),if_pos (by rw[hc];simp),hc]
   have c1:tS th key op s root=s:=by unfold tS wO wP wQ abN abO;rw[e]
   have c3:vU th key op s.m s.fu root s.fr s.fs s.gn=5:=by unfold vU;rw[e]
   rw[c1,c3]
   exact .inr ⟨by decide,[],[],gO ho,by simp,fun p hp=>(by cases hp),.inl ⟨rfl,hc⟩⟩
 ·subst h5 h6 h7
  have e:iP th key op s.m s.fu root s.fr s.fs s.gn=vC th key op 17 s.m s.fu s.fr s.fs s.gn (pg h t) 1:=by
   unfold iP
   rw[if_pos (by omega),h1]
  have g:=ab1 (op:=op) hk hv h (s:=s) (t:=t) (f:=17) (deep:=1) ho h3 h4 hp (by omega) (by omega)
  have c1:tS th key op s root=cS th key op 17 s (pg h t) 1:=by unfold tS wO wP wQ abN abO;rw[e];rfl
  have c2:vT th key op s.m s.fu root s.fr s.fs s.gn=cL th key op 17 s (pg h t) 1:=by unfold vT;rw[e];rfl
  have c3:vU th key op s.m s.fu root s.fr s.fs s.gn=cE' th key op 17 s (pg h t) 1:=by unfold vU;rw[e];rfl
  rw[c1,c2,c3]
  exact g
theorem amX{th:Th}{key:ByteArray}{op:Option ByteArray}{s:S5}{h:Nat}{E:List En}{ps:List Int}{po:Nat}{c:Chg}(hp:∀p∈ps,¬In s.fr p)(H:adP th key op s (stC c) h E ps po c.2.2.2.2.2.1 c.2.2.2.2.2.2):
 ((zV th c).2.2.2.2.2.2=0∧qJ key op E=0∧∃N V rest k0 h2 F,afy th key op s (stC (zV th c)) h E ps po (zV th c).2.2.2.2.2.1 N V rest k0 h2 F)∨((zV th c).2.2.2.2.2.2≠0∧∃N V,aqF th key op s (stC (zV th c)) h E (zV th c).2.2.2.2.2.2 N V):=by
 rcases H with⟨hx,hc,N,V,rest,k0,F,g⟩|⟨hx,N,V,g⟩
 ·have hlen:c.2.2.2.2.2.1.length=F.length:=by rw[g.l,vM,List.length_map]
  by_cases h2:F.length=2
  ·have hu:zV th c=gL c.2.2.2.2.1 (bo th c.1 c.2.1 c.2.2.1 c.2.2.2.1 false [] c.2.2.2.2.2.1):=if_pos ⟨hx,by rw[hlen,h2];decide⟩
   have hb:aa c.2.2.2.2.2.1=F.map (cT h):=by
    rw[g.l,abD,jG,agW,g.fr.bare]
   have hpF:∀p∈bQ h F,¬In (stC c).fr p:=fun p jZ dm=>by
    obtain⟨i1,i2⟩:=(g.qL.fr p).1 dm
    rcases List.mem_append.1 ((g.new.mem_iff).1 jZ)with jZ|jZ
    ·exact i2 jZ
    ·exact hp p ((g.old.mem_iff).2 (List.mem_append_right _ jZ)) i1
   have bI:nv h F≤55:=by
    have e:=adH F
    have e2:gW (F.map (cT h))≤54:=by
     match F,h2,g.fr with
     |[a,b],_,f=>
      have k1:=f.key a List.mem_cons_self
      have k2:=f.key b (List.mem_cons_of_mem _ List.mem_cons_self)
      rw[List.map_cons,List.map_cons,dj,dj]
      show pa (cT h a)+(pa (cT h b)+0)≤54
      have e3:pa (cT h a)=3+(a.1.size:Int):=rfl
      have e4:pa (cT h b)=3+(b.1.size:Int):=rfl
      omega
    omega
   have cu:F≠[]:=fun e=>by rw[e]at h2;cases h2
   have hw:=aft (s:=stC c) (bs:=c.2.2.2.2.2.1) g.qL.ok hb cu g.fr hpF g.fr.okB (by omega)
   have c1:stC (zV th c)=sS th (stC c) false [] c.2.2.2.2.2.1:=by rw[hu];rfl
   have c2:(zV th c).2.2.2.2.2.1=sL th (stC c) false [] c.2.2.2.2.2.1:=by rw[hu];rfl
   have c3:(zV th c).2.2.2.2.2.2=sE th (stC c) false [] c.2.2.2.2.2.1:=by rw[hu];rfl
   rw[c1,c2,c3]
   rcases hw with⟨a,N2,k2,F2,b,cc,d,e,i,i2,i3⟩|⟨a,N2,b1,b2,b3⟩
   ·refine .inl ⟨a,hc,N++N2,V++[],rest,k2,h+1,F2,eO g.qL b (fun p hp=>by cases hp),d,e,by rw[i,g.eb],by rw[List.append_nil];exact g.old, ?_, ?_, ?_,Nat.le_refl _⟩
    ·refine i2.trans ?_
     refine(List.Perm.append_left N2 g.new).trans ?_
     rw[←List.append_assoc]
     exact List.Perm.append_right _ List.perm_append_comm
    ·rcases i3 with⟨_,i3,_⟩|⟨i3,_⟩<;>omega
    ·have gp:=g.tq
     rw[h2]at gp
     rcases i3 with⟨_,_,i3⟩|⟨i3,_⟩
     ·have o0:zU (nv h F)=0:=by unfold zU;omega
      rw[i3,o0,Nat.pow_succ]
      omega
     ·omega
   ·refine .inr ⟨a,N++N2,V++[],eO g.qL b1 (fun p hp=>by cases hp),by rw[List.length_append];have:=g.len;omega,.inr (b3.imp (fun x=>⟨x.1,fun p jZ=> ?_⟩) id)⟩
    by_cases hpn:p∈N
    ·exact List.mem_append_left _ hpn
    ·exact List.mem_append_right _ (x.2 p ((g.qL.fr p).2 ⟨jZ,hpn⟩))
  ·have hu:zV th c=c:=rM (fun a=>h2 (by have:=a.2;rw[hlen]at this;have:=g.two;omega))
   rw[hu]
   have gp:=g.tq
   have g2:=g.two
   refine .inl ⟨hx,hc,N,V,rest,k0,h,F,g.qL,g.l,g.fr,g.eb,g.old,g.new,by omega, ?_,by omega⟩
   have:F.length - 1=0:=by omega
   rw[this,Nat.zero_mul,Nat.add_zero]at gp
   exact gp
 ·have hu:zV th c=c:=rM (fun a=>hx a.1)
  rw[hu]
  exact .inr ⟨hx,N,V,g.qL,by have:=g.len;omega,g.how⟩
theorem vZ{th:Th}:∀(h:Nat) {s:S5} {t:TN h} {f:Nat} {deep:Int},xt th s→rep th s.m h t→sO h t→2≤pg h t∧pg h t<1024→h<f→deep+(h:Int)≤16→
 wN th s.m f s.fs s.gn (pg h t) deep=0∧∃(h2:Nat) (t2:TN h2) (W:List Int),wM th s.m f s.fs s.gn (pg h t) deep=pg h2 t2∧(2≤pg h2 t2∧pg h2 t2<1024)∧qC th s ⟨s.m,s.fu,s.fr,vR th s.m f s.fs s.gn (pg h t) deep,vS th s.m f s.fs s.gn (pg h t) deep⟩ [] W∧
  rep th s.m h2 t2∧sO h2 t2∧eb h2 t2=eb h t∧(oE h t).Perm (W++oE h2 t2)∧tq h2 t2≤tq h t∧h2≤h
 |0,s,t,f,deep,ho,hr,ht,hp,hf,hd=>by
  cases f with
  |zero=>omega
  |succ f=>
   have eh:Rd th s.m (pg 0 t) true t.2 []:=hr
   obtain⟨e1,e2,e3,e4⟩:=eh.nd (deep:=deep) (by omega)
   have e:ob th s.m (f+1) s.fs s.gn (pg 0 t) deep=(s.fs,s.gn,pg 0 t,0):=by rw[ob,if_neg (by rw[e1];simp),if_pos (.inl e2)]
   refine⟨by unfold wN;rw[e],0,t,[],by unfold wM;rw[e],hp, ?_,hr,ht,rfl,List.Perm.refl _,Nat.le_refl _,Nat.le_refl _⟩
   unfold vR vS;rw[e];exact gO ho
 |h+1,s,t,f,deep,ho,hr,ht,hp,hf,hd=>by
  cases f with
  |zero=>omega
  |succ f=>
   obtain⟨n,Q⟩:=t
   obtain⟨hr1,wv⟩:=(show Rd th s.m n false [] (Q.map (cT h))∧∀k∈Q,rep th s.m h k.2 from hr)
   obtain⟨hQ,hQb,jP,bI,zR,hT⟩:=(show Q≠[]∧bT Q=Q∧gH (Q.map (cT h))=true∧nv h Q≤254∧adG h Q∧∀k∈Q,sO h k.2 from ht)
   obtain⟨e1,e2,e3,e4⟩:=hr1.nd (deep:=deep) (by omega)
   show wN th s.m (f+1) s.fs s.gn n deep=0∧∃(h2:Nat) (t2:TN h2) (W:List Int),wM th s.m (f+1) s.fs s.gn n deep=pg h2 t2∧(2≤pg h2 t2∧pg h2 t2<1024)∧qC th s ⟨s.m,s.fu,s.fr,vR th s.m (f+1) s.fs s.gn n deep,vS th s.m (f+1) s.fs s.gn n deep⟩ [] W∧
    rep th s.m h2 t2∧sO h2 t2∧eb h2 t2=bP h Q∧(n::bQ h Q).Perm (W++oE h2 t2)∧tq h2 t2≤3^(h+1)*(19+zU (nv h Q))+eX h Q∧h2≤h+1
   by_cases h1:Q.length=1
   ·match Q,h1 with
    |[k],_=>
     have kin:k∈[k]:=List.mem_cons_self
     have e:ob th s.m (f+1) s.fs s.gn n deep=ob th s.m f (iZ s.fs n) (pe s.fs s.gn n) (pg h k.2) (deep+1):=by
      rw[ob,if_neg (by rw[e1];simp),if_neg (by rintro(a|a);rw[e2]at a;cases a;rw[e4]at a;exact a rfl),e4];rfl
     have l1:=adI ho n
     have pk:2≤pg h k.2∧pg h k.2<1024:=((gN.1 jP).1 (cT h k) (List.mem_map_of_mem kin)).2
     obtain⟨a,h2,t2,W,b,b2,c,d,d2,d3,d4,d5,d6⟩:=vZ h (s:=lvT s n) (t:=k.2) (f:=f) (deep:=deep+1) l1.ok (wv k kin) (hT k kin) pk (by omega) (by omega)
     refine⟨by unfold wN at a ⊢;rw[e];exact a,h2,t2,[n]++W,by unfold wM at b ⊢;rw[e];exact b,b2, ?_,d,d2, ?_, ?_, ?_,by omega⟩
     ·have:=eO l1 c (fun p _=>List.not_mem_nil)
      unfold vR vS at this ⊢
      rw[e]
      exact this
     ·show eb h2 t2=eb h k.2++[]
      rw[List.append_nil,d3]
     ·show(n::(oE h k.2++[])).Perm (n::(W++oE h2 t2))
      rw[List.append_nil]
      exact d4.cons n
     ·show tq h2 t2≤3^(h+1)*(19+zU (nv h [k]))+eX h [k]
      have:eX h [k]=tq h k.2:=by rw[ij];rfl
      omega
   ·have e:ob th s.m (f+1) s.fs s.gn n deep=(s.fs,s.gn,n,0):=by
     rw[ob,if_neg (by rw[e1];simp),if_pos (.inr (by rw[e4,List.length_map];exact h1))]
    refine⟨by unfold wN;rw[e],h+1,(n,Q),[],by unfold wM;rw[e];rfl,hp, ?_,hr,ht,rfl,List.Perm.refl _,Nat.le_refl _,Nat.le_refl _⟩
    unfold vR vS;rw[e];exact gO ho
end Ts
namespace Ts
open Go Go.Sx Go.Proofs Lf
structure Inv (F0:Int→Prop) (fr fs:Ws) (ps:List Int):Prop where
 nd:ps.Nodup
 cov:∀p,F0 p↔In fr p∨In fs p
 dis:∀p,In fr p→¬In fs p
 sub:∀p,In fs p→p∈ps
 top:∀p∈ps,F0 p→In fs p
structure TI (th:Th) (F0:Int→Prop) (m:As) (fu root:Int) (fr fs gn:Ws) (h:Nat) (E:List En) (ps:List Int) (po:Nat):Prop where
 ok:xt th ⟨m,fu,fr,fs,gn⟩
 gz:gn=Bx.bk
 f0:∀p,F0 p→2≤p∧Ds.uU th p=true
 holds:aP th m root h E ps po
 inv:Inv F0 fr fs ps
structure aqG (th:Th) (key:ByteArray) (op:Option ByteArray) (m:As) (fu:Int) (fr:Ws) (h:Nat) (E:List En) (m':As) (fK e:Int):Prop where
 d:Ds.bU th m' fK
 rd:∀p,¬In fr p→Ds.ji th m' p=Ds.ji th m p∧Ds.gS th m' p=Ds.gS th m p
 fu:fu= -1→fK= -1
 how:(e=5∧qJ key op E=5)∨(e=41∧∃N:List Int,N.length≤2*h+3∧∀p,In fr p→p∈N)∨(e=42∧fK=0)
structure ab2 (th:Th) (F0:Int→Prop) (key:ByteArray) (op:Option ByteArray) (m:As) (fu:Int) (fr:Ws) (ps:List Int) (E:List En) (po:Nat) (r:Chs) (h':Nat) (ps':List Int) (po':Nat):Prop where
 ti:TI th F0 r.1 r.2.1 r.2.2.1 r.2.2.2.1 r.2.2.2.2.1 r.2.2.2.2.2.1 h' (lP key op E) ps' po'
 po:po'≤po+opP op
 rd:∀p,¬F0 p→Ds.ji th r.1 p=Ds.ji th m p∧Ds.gS th r.1 p=Ds.gS th m p
 fu:fu= -1→r.2.1= -1
 new:∀p∈ps',p∈ps∨In fr p
theorem atn:∀(h:Nat) {t:TN (h+1)},19*3^(h+1)≤tq (h+1) t:=fun h t=>by
 have:3^(h+1)*19≤3^(h+1)*(19+zU (nv h t.2)):=Nat.mul_le_mul_left _ (by omega)
 rw[ajA]
 omega
theorem aP.aqH{th:Th}{m:As}{root:Int}{h:Nat}{E:List En}{ps:List Int}{po:Nat}(H:aP th m root h E ps po)(hp:po<19*3^15):h≤14:=by
 rcases H with⟨_,h2,_⟩|⟨t,_,_,_,_,_,_,_,h7⟩
 ·omega
 ·cases h with
  |zero=>omega
  |succ h=>
   have a:=atn h (t:=t)
   rw[←h7]at a
   have b:3^(h+1)<3^15:=by omega
   have:=(Nat.pow_lt_pow_iff_right (show 1<3 by omega)).1 b
   omega
theorem TI.free{th:Th}{F0:Int→Prop}{m:As}{fu root:Int}{fr fs gn:Ws}{h:Nat}{E:List En}{ps:List Int}{po:Nat}(T:TI th F0 m fu root fr fs gn h E ps po):∀p∈ps,¬In fr p:=fun p hp hf=>T.inv.dis p hf (T.inv.top p hp ((T.inv.cov p).2 (.inl hf)))
theorem ab3{th:Th}{F0:Int→Prop}{s t u:S5}{N V W rest ps pk ps':List Int}(hf0:∀p,F0 p→2≤p∧Ds.uU th p=true)(hg:∀p,¬In s.gn p)(I:Inv F0 s.fr s.fs ps)(e1:qC th s t N V)(e2:qC th t u [] W)(o:ps.Perm (V++rest))(n:pk.Perm (N++rest))(l:pk.Perm (W++ps')):
 Inv F0 (Bx.dc .or u.fr u.gn) u.fs ps'∧xt th ⟨u.m,u.fu,Bx.dc .or u.fr u.gn,u.fs,Bx.bk⟩:=by
 have ho:=e2.ok
 have frI:∀p,In (Bx.dc .or u.fr u.gn) p↔In u.fr p∨In u.gn p:=fun p=>asf ho.fr ho.gn
 have ufr:∀p,In u.fr p↔In s.fr p∧p ∉ N:=fun p=>by rw[e2.fr,e1.fr];exact⟨fun x=>x.1,fun x=>⟨x,List.not_mem_nil⟩⟩
 have tfs:=e1.fs
 have ufs:∀p,In u.fs p↔In t.fs p∧p ∉ W:=fun p=>by rw[e2.fs];exact⟨fun x=>x.elim id (fun y=>by cases y),.inl⟩
 have ugn:∀p,In u.gn p↔(In s.fs p∧p∈V)∨(In t.fs p∧p∈W):=fun p=>by
  rw[e2.gn,e1.gn]
  exact⟨fun x=>x.elim (fun y=>y.elim (fun z=>absurd z (hg p)) .inl) .inr,fun x=>x.elim (fun y=>.inl (.inr y)) .inr⟩
 have ndo:=(o.nodup_iff).1 I.nd
 obtain⟨nV,nR,dVR⟩:=List.nodup_append.1 ndo
 have ndn:(N++rest).Nodup:=List.nodup_append.2 ⟨e1.nd,nR,fun a ha b hb hab=>by
  subst hab
  have hps:a∈ps:=(o.mem_iff).2 (List.mem_append_right _ hb)
  have hfr:=e1.sub a ha
  exact I.dis a hfr (I.top a hps ((I.cov a).2 (.inl hfr)))⟩
 have ndl:=(l.nodup_iff).1 ((n.nodup_iff).2 ndn)
 obtain⟨nW,nP,dWP⟩:=List.nodup_append.1 ndl
 have mem:∀p,(p∈N∨p∈rest)↔(p∈W∨p∈ps'):=fun p=>by
  rw[←List.mem_append,←List.mem_append,←n.mem_iff,l.mem_iff]
 have ato:∀p,F0 p↔In (Bx.dc .or u.fr u.gn) p∨In u.fs p:=fun p=>by
  rw[I.cov,frI,ufr,ugn,ufs,tfs]
  constructor
  ·rintro(a|a)
   ·by_cases hN:p∈N
    ·by_cases hW:p∈W
     ·exact .inl (.inr (.inr ⟨.inr hN,hW⟩))
     ·exact .inr ⟨.inr hN,hW⟩
    ·exact .inl (.inl ⟨a,hN⟩)
   ·by_cases hV:p∈V
    ·exact .inl (.inr (.inl ⟨a,hV⟩))
    ·by_cases hW:p∈W
     ·exact .inl (.inr (.inr ⟨.inl ⟨a,hV⟩,hW⟩))
     ·exact .inr ⟨.inl ⟨a,hV⟩,hW⟩
  ·rintro((a|a|⟨a|a,_⟩)|⟨a|a,_⟩)
   ·exact .inl a.1
   ·exact .inr a.1
   ·exact .inr a.1
   ·exact .inl (e1.sub p a)
   ·exact .inr a.1
   ·exact .inl (e1.sub p a)
 refine⟨⟨nP,ato,fun p hp hq=> ?_,fun p hp=> ?_,fun p hp hf=> ?_⟩,⟨ho.d,(Bx.nr (.inl rfl) ho.fr ho.gn).1,ho.fs,Bx.gK.1,fun p hp=>hf0 p ((ato p).2 (.inl hp))⟩⟩
 ·rw[frI,ufr,ugn]at hp
  rw[ufs,tfs]at hq
  obtain⟨hq,hw⟩:=hq
  rcases hp with⟨a,b⟩|⟨a,b⟩|⟨_,b⟩
  ·rcases hq with⟨c,_⟩|c
   ·exact I.dis p a c
   ·exact b c
  ·rcases hq with⟨_,c⟩|c
   ·exact c b
   ·exact I.dis p (e1.sub p c) a
  ·exact hw b
 ·rw[ufs,tfs]at hp
  obtain⟨hp,hw⟩:=hp
  have:p∈N∨p∈rest:=hp.elim (fun x=>.inr ((List.mem_append.1 ((o.mem_iff).1 (I.sub p x.1))).resolve_left x.2)) .inl
  exact((mem p).1 this).resolve_left hw
 ·rw[ufs,tfs]
  have hw:p ∉ W:=fun hw=>dWP p hw p hp rfl
  refine⟨?_,hw⟩
  rcases(mem p).2 (.inr hp)with a|a
  ·exact .inr a
  ·exact .inl ⟨I.top p ((o.mem_iff).2 (List.mem_append_right _ a)) hf,fun hv=>dVR p hv p a rfl⟩
theorem afz{th:Th}{F0:Int→Prop}{m:As}{fu root:Int}{fr fs gn:Ws}{h:Nat}{E:List En}{ps:List Int}{po:Nat}(T:TI th F0 m fu root fr fs gn h E ps po):∀p,¬In gn p:=fun p=>by rw[T.gz];exact lH
theorem aor{h:Nat}{l:List Br}{k0:ByteArray}{F:List (Kd h)}(e:l=kK k0 (F.map (cT h))):l.length=F.length:=by rw[e,vM,List.length_map]
theorem amY{th:Th}{F0:Int→Prop}{key:ByteArray}{op:Option ByteArray}{m:As}{fu root:Int}{fr fs gn:Ws}{h:Nat}{E:List En}{ps:List Int}{po:Nat}(T:TI th F0 m fu root fr fs gn h E ps po){c:Chg}(hx:c.2.2.2.2.2.2=0){N V rest:List Int}{k0:ByteArray}{h2:Nat}
 (g:afy th key op ⟨m,fu,fr,fs,gn⟩ (stC c) h E ps po c.2.2.2.2.2.1 N V rest k0 h2 []):∃r,jy th root fr fs gn c=r∧r.2.2.2.2.2.2=0∧∃h' ps' po',ab2 th F0 key op m fu fr ps E po r h' ps' po':=by
 have ed2:jy th root fr fs gn c=(c.1,c.2.1,0,Bx.dc .or c.2.2.1 c.2.2.2.2.1,c.2.2.2.1,Bx.bk,0):=by
  unfold jy ny
  rw[if_neg (fun a=>by rw[aor g.l]at a;cases a.2),if_neg (by rw[hx];simp)]
 obtain⟨I,ok⟩:=ab3 T.f0 (afz T) T.inv g.qL (gO g.qL.ok) g.old (g.new) (ps':=[]) (by exact List.Perm.refl _)
 have hH:aP th c.1 0 0 (lP key op E) [] 0:=.inl ⟨rfl,rfl,g.eb.symm,rfl,rfl⟩
 have hrd:∀p,¬F0 p→Ds.ji th c.1 p=Ds.ji th m p∧Ds.gS th c.1 p=Ds.gS th m p:=fun p hp=>g.qL.rd p (fun hf=>hp ((T.inv.cov p).2 (.inl hf)))
 have hT:TI th F0 c.1 c.2.1 0 (Bx.dc .or c.2.2.1 c.2.2.2.2.1) c.2.2.2.1 Bx.bk 0 (lP key op E) [] 0:=⟨ok,rfl,T.f0,hH,I⟩
 exact⟨_,ed2,rfl,0,[],0,hT,Nat.zero_le _,hrd,g.qL.fu,fun p hp=>by cases hp⟩
theorem amZ{th:Th}{F0:Int→Prop}{key:ByteArray}{op:Option ByteArray}{m:As}{fu root:Int}{fr fs gn:Ws}{h:Nat}{E:List En}{ps:List Int}{po:Nat}(T:TI th F0 m fu root fr fs gn h E ps po)(hh:h≤14){c:Chg}(hx:c.2.2.2.2.2.2=0){N V rest:List Int}{k0:ByteArray}{h2:Nat}{k:Kd h2}
 (g:afy th key op ⟨m,fu,fr,fs,gn⟩ (stC c) h E ps po c.2.2.2.2.2.1 N V rest k0 h2 [k]):∃r,jy th root fr fs gn c=r∧r.2.2.2.2.2.2=0∧∃h' ps' po',ab2 th F0 key op m fu fr ps E po r h' ps' po':=by
 have kin:k∈[k]:=List.mem_cons_self
 have atp:(c.2.2.2.2.2.1.getD 0 dB).2.1=pg h2 k.2:=by rw[g.l];rfl
 have hb2:h2≤15:=by have:=g.hh;omega
 obtain⟨a,h3,t3,W,b,b2,cc,d1,d2,d3,d4,d5,d6⟩:=vZ h2 (s:=stC c) (t:=k.2) (f:=17) (deep:=1) g.qL.ok (g.fr.rep k kin) (g.fr.ok k kin) (g.fr.pg k kin) (by omega) (by omega)
 have ed2:jy th root fr fs gn c=(c.1,c.2.1,pg h3 t3,Bx.dc .or c.2.2.1 (vS th c.1 17 c.2.2.2.1 c.2.2.2.2.1 (pg h2 k.2) 1),vR th c.1 17 c.2.2.2.1 c.2.2.2.2.1 (pg h2 k.2) 1,Bx.bk,0):=by
  unfold jy ny
  have b':wM th c.1 17 c.2.2.2.1 c.2.2.2.2.1 (pg h2 k.2) 1=pg h3 t3:=b
  have a':wN th c.1 17 c.2.2.2.1 c.2.2.2.2.1 (pg h2 k.2) 1=0:=a
  rw[if_pos ⟨hx,aor g.l⟩,atp,a',b',if_neg (by simp)]
 have hn:(oE h2 k.2).Perm (N++rest):=by
  have:=g.new
  rw[lI]at this
  exact(List.append_nil (oE h2 k.2))▸this
 obtain⟨I,ok⟩:=ab3 T.f0 (afz T) T.inv g.qL cc g.old hn d4
 have hE:eb h3 t3=lP key op E:=by
  rw[d3,←g.eb,jY]
  exact(List.append_nil _).symm
 have hpo:tq h3 t3≤po+opP op:=by
  have:=g.tq
  rw[ij]at this
  have e0:eX h2 ([]:List (Kd h2))=0:=rfl
  omega
 have hH:aP th c.1 (pg h3 t3) h3 (lP key op E) (oE h3 t3) (tq h3 t3):=.inr ⟨t3,rfl,b2.1,b2.2,d1,d2,hE.symm,rfl,rfl⟩
 have hrd:∀p,¬F0 p→Ds.ji th c.1 p=Ds.ji th m p∧Ds.gS th c.1 p=Ds.gS th m p:=fun p hp=>g.qL.rd p (fun hf=>hp ((T.inv.cov p).2 (.inl hf)))
 have hT:TI th F0 c.1 c.2.1 (pg h3 t3) (Bx.dc .or c.2.2.1 (vS th c.1 17 c.2.2.2.1 c.2.2.2.2.1 (pg h2 k.2) 1)) (vR th c.1 17 c.2.2.2.1 c.2.2.2.2.1 (pg h2 k.2) 1) Bx.bk h3 (lP key op E) (oE h3 t3) (tq h3 t3):=⟨ok,rfl,T.f0,hH,I⟩
 exact⟨_,ed2,rfl,h3,oE h3 t3,tq h3 t3,hT,hpo,hrd,g.qL.fu,fun p hp=>(List.mem_append.1 ((hn.mem_iff).1 ((d4.mem_iff).2 (List.mem_append_right _ hp)))).elim (fun x=>.inr (g.qL.sub p x)) (fun x=>.inl ((g.old.mem_iff).2 (List.mem_append_right _ x)))⟩
theorem am0{th:Th}{F0:Int→Prop}{key:ByteArray}{op:Option ByteArray}{m:As}{fu root:Int}{fr fs gn:Ws}{h:Nat}{E:List En}{ps:List Int}{po:Nat}(T:TI th F0 m fu root fr fs gn h E ps po){c:Chg}(hx:c.2.2.2.2.2.2≠0){N V:List Int}(g:aqF th key op ⟨m,fu,fr,fs,gn⟩ (stC c) h E c.2.2.2.2.2.2 N V):
 ∃m' fK e,e≠0∧jy th root fr fs gn c=(m',fK,root,fr,fs,gn,e)∧aqG th key op m fu fr h E m' fK e:=by
 refine⟨c.1,c.2.1,c.2.2.2.2.2.2,hx, ?_,g.qL.ok.d,fun p hp=>g.qL.rd p hp,g.qL.fu, ?_⟩
 ·unfold jy ny
  rw[if_neg (fun a=>hx a.1),if_pos hx]
 ·exact g.how.imp id (fun x=>x.imp (fun y=>⟨y.1,N,g.len,y.2⟩) id)
theorem ag5{th:Th}{F0:Int→Prop}{key:ByteArray}{op:Option ByteArray}{m:As}{fu root:Int}{fr fs gn:Ws}{h:Nat}{E:List En}{ps:List Int}{po:Nat}(T:TI th F0 m fu root fr fs gn h E ps po)(hh:h≤14){c:Chg}
 (H2:(c.2.2.2.2.2.2=0∧qJ key op E=0∧∃N V rest k0 h2 F,afy th key op ⟨m,fu,fr,fs,gn⟩ (stC c) h E ps po c.2.2.2.2.2.1 N V rest k0 h2 F)∨(c.2.2.2.2.2.2≠0∧∃N V,aqF th key op ⟨m,fu,fr,fs,gn⟩ (stC c) h E c.2.2.2.2.2.2 N V)):
 ((jy th root fr fs gn c).2.2.2.2.2.2=0∧qJ key op E=0∧∃h' ps' po',ab2 th F0 key op m fu fr ps E po (jy th root fr fs gn c) h' ps' po')∨
 (∃m' fK e,e≠0∧jy th root fr fs gn c=(m',fK,root,fr,fs,gn,e)∧aqG th key op m fu fr h E m' fK e):=by
 rcases H2 with⟨hx,hc,N,V,rest,k0,h2,F,g⟩|⟨hx,N,V,g⟩
 ·left
  rcases F with _|⟨k,_|⟨k2,r⟩⟩
  ·obtain⟨r,e,h1,h2⟩:=amY T hx g
   rw[e];exact⟨h1,hc,h2⟩
  ·obtain⟨r,e,h1,h2⟩:=amZ T hh hx g
   rw[e];exact⟨h1,hc,h2⟩
  ·exact absurd g.one (by simp)
 ·exact .inr (am0 T hx g)
theorem akp{th:Th}{F0:Int→Prop}{key:ByteArray}{op:Option ByteArray}{m:As}{fu root:Int}{fr fs gn:Ws}{h:Nat}{E:List En}{ps:List Int}{po:Nat}(T:TI th F0 m fu root fr fs gn h E ps po)(hk:1≤key.size∧key.size≤24)(hv:∀v,op=some v→v.size≤100)(hh:h≤14):
 ((kg th key op m fu root fr fs gn).2.2.2.2.2.2=0∧qJ key op E=0∧∃h' ps' po',ab2 th F0 key op m fu fr ps E po (kg th key op m fu root fr fs gn) h' ps' po')∨
 (∃m' fK e,e≠0∧kg th key op m fu root fr fs gn=(m',fK,root,fr,fs,gn,e)∧aqG th key op m fu fr h E m' fK e):=
 ag5 T hh (amX (c:=iP th key op m fu root fr fs gn) T.free (ako (s:=⟨m,fu,fr,fs,gn⟩) (key:=key) (op:=op) hk hv T.ok T.holds T.free (by omega)))
end Ts
namespace Ts
open Go Go.Sx Go.Proofs Lf
def akq{σ:Type}(on:σ→Int→List En→σ):(h:Nat)→TN h→σ→σ
 |0,t,out=>on out t.1 t.2
 |h+1,t,out=>t.2.foldl (fun o k=>akq on h k.2 o) (on out t.1 [])
theorem ab4{X:List En}{key:ByteArray}(h:∀x∈X,x.1≠key):X.find? (zT key)=none:=by
 rw[List.find?_eq_none]
 intro x hx
 simp[zT,h x hx]
theorem am1{X Y Z:List En}{key:ByteArray}(h1:∀x∈X,slt x.1 key=true)(h2:∀z∈Z,slt key z.1=true):pb (X++Y++Z) key=pb Y key∧np (X++Y++Z) key=np Y key:=by
 have e1:=ab4 (X:=X) (key:=key) fun x hx e=>by have:=h1 x hx;rw[e,dJ]at this;cases this
 have e2:=ab4 (X:=Z) (key:=key) fun x hx e=>by have:=h2 x hx;rw[e,dJ]at this;cases this
 have e:(X++Y++Z).find? (zT key)=Y.find? (zT key):=by
  rw[List.find?_append,List.find?_append,e1,e2]
  cases Y.find? (zT key)<;>rfl
 unfold pb np
 rw[e]
 exact⟨rfl,rfl⟩
theorem ab5{th:Th}{m:As}{key:ByteArray}:∀(h:Nat) {t:TN h} {f:Nat} {deep:Int},rep th m h t→sO h t→h<f→deep+(h:Int)≤16→zJ th m key f (pg h t) deep=(pb (eb h t) key,np (eb h t) key,0)
 |0,t,f,deep,hr,ht,hf,hd=>by
  cases f with
  |zero=>omega
  |succ f=>
   have eh:Rd th m (pg 0 t) true t.2 []:=hr
   obtain⟨e1,e2,e3,e4⟩:=eh.nd (deep:=deep) (by omega)
   rw[zJ,if_neg (by rw[e1];simp),if_pos e2,e3]
   rfl
 |h+1,t,f,deep,hr,ht,hf,hd=>by
  cases f with
  |zero=>omega
  |succ f=>
   obtain⟨n,Q⟩:=t
   obtain⟨hr1,wv⟩:=(show Rd th m n false [] (Q.map (cT h))∧∀k∈Q,rep th m h k.2 from hr)
   obtain⟨hQ,hQb,jP,bI,zR,hT⟩:=(show Q≠[]∧bT Q=Q∧gH (Q.map (cT h))=true∧nv h Q≤254∧adG h Q∧∀k∈Q,sO h k.2 from ht)
   obtain⟨e1,e2,e3,e4⟩:=hr1.nd (deep:=deep) (by omega)
   obtain⟨A,k,B,eQ,ep,yJ,sK⟩:=ab0 (key:=key) hQ hQb jP
   have cu:Q.map (cT h)≠[]:=by cases Q with|nil=>exact absurd rfl hQ|cons q r=>simp
   have egd:(Q.map (cT h)).getD A.length dB=cT h k:=by rw[eQ];simp[List.getD]
   have kin:k∈Q:=by rw[eQ];exact List.mem_append_right _ List.mem_cons_self
   show zJ th m key (f+1) n deep=(pb (bP h Q) key,np (bP h Q) key,0)
   rw[zJ,if_neg (by rw[e1];simp),if_neg (by rw[e2];simp),e4,if_neg cu,ep,egd]
   have ih:=ab5 (key:=key) h (f:=f) (deep:=deep+1) (wv k kin) (hT k kin) (by omega) (by omega)
   show zJ th m key f (pg h k.2) (deep+1)=_
   rw[ih]
   have sAB:=zR.1
   rw[eQ,List.pairwise_append]at sAB
   have eAk:∀x∈bP h A,slt x.1 key=true:=fun x hx=>by
    obtain⟨y,hy,hxy⟩:=List.mem_flatMap.1 hx
    exact ey (sAB.2.2 y hy k List.mem_cons_self x hxy) yJ
   have eBk:∀x∈bP h B,slt key x.1=true:=fun x hx=>by
    obtain⟨y,hy,hxy⟩:=List.mem_flatMap.1 hx
    exact ey (sK y hy) (zR.2 y (by rw[eQ];exact List.mem_append_right _ (List.mem_cons_of_mem _ hy)) x hxy)
   have e:bP h Q=bP h A++eb h k.2++bP h B:=by rw[eQ,jF,jY,List.append_assoc]
   obtain⟨f1,f2⟩:=am1 (Y:=eb h k.2) eAk eBk
   rw[e,f1,f2]
theorem atA{th:Th}{m:As}{root:Int}{key:ByteArray}{h:Nat}{E:List En}{ps:List Int}{po:Nat}(H:aP th m root h E ps po)(hh:h≤15):gtT th m root key=if ik key none=false then(ByteArray.empty,false,1)else(pb E key,np E key,0):=by
 unfold gtT
 split
 ·rfl
 ·rcases H with⟨h1,_,h3,_⟩|⟨t,h1,h2,_,h3,h4,h5,_⟩
  ·rw[if_pos h1,h3];rfl
  ·rw[if_neg (by omega),h1,ab5 h h3 h4 (by omega) (by omega),h5]
theorem ab6{σ:Type}{g:Ws→σ→Int→Ws×σ×Int}{h:Nat}{step:TN h→σ→σ}:∀(ks:List (Kd h)) {met:Ws} {out:σ},Bx.okW met→
 (∀k∈ks,∀(met:Ws) (out:σ),Bx.okW met→(∀p∈oE h k.2,¬In met p)→∃sV,g met out (pg h k.2)=(sV,step k.2 out,0)∧Bx.okW sV∧∀p,In sV p↔In met p∨p∈oE h k.2)→
 (∀p∈bQ h ks,¬In met p)→(bQ h ks).Nodup→∃sV,vX g (ks.map (cT h)) met out=(sV,ks.foldl (fun o k=>step k.2 o) out,0)∧Bx.okW sV∧∀p,In sV p↔In met p∨p∈bQ h ks
 |[],met,out,hw,hg,hm,hn=>⟨met,rfl,hw,fun p=>⟨.inl,fun x=>x.elim id (fun y=>by cases y)⟩⟩
 |k::r,met,out,hw,hg,hm,hn=>by
  rw[lI]at hm hn
  obtain⟨n1,n2,n3⟩:=List.nodup_append.1 hn
  obtain⟨m1,e1,w1,i1⟩:=hg k List.mem_cons_self met out hw (fun p hp=>hm p (List.mem_append_left _ hp))
  obtain⟨m2,e2,w2,i2⟩:=ab6 r (met:=m1) (out:=step k.2 out) w1 (fun k' hk'=>hg k' (List.mem_cons_of_mem _ hk')) (fun p hp dm=>by
   rcases(i1 p).1 dm with a|a
   ·exact hm p (List.mem_append_right _ hp) a
   ·exact n3 p a p hp rfl) n2
  refine⟨m2, ?_,w2,fun p=> ?_⟩
  ·rw[List.map_cons,vX]
   show(if(g met out (pg h k.2)).2.2≠0 then _ else _)=_
   rw[e1,if_neg (by simp)]
   show vX g (r.map (cT h)) (g met out (pg h k.2)).1 (g met out (pg h k.2)).2.1=_
   rw[e1]
   exact e2
  ·rw[i2,i1,lI,List.mem_append,or_assoc]
theorem ag6{h:Nat}{ks:List (Kd h)}(hn:(bQ h ks).Nodup){k:Kd h}(hk:k∈ks):(oE h k.2).Nodup:=by
 induction ks with
 |nil=>cases hk
 |cons a r ih=>
  rw[lI]at hn
  obtain⟨n1,n2,_⟩:=List.nodup_append.1 hn
  rcases List.mem_cons.1 hk with rfl|hk
  ·exact n1
  ·exact ih n2 hk
theorem ab7{σ:Type}{on:σ→Int→List En→σ}{th:Th}{m:As}:∀(h:Nat) {t:TN h} {f:Nat} {deep:Int} {met:Ws} {out:σ},rep th m h t→sO h t→(2≤pg h t∧pg h t<1024)→h<f→deep+(h:Int)≤16→Bx.okW met→(∀p∈oE h t,¬In met p)→(oE h t).Nodup→
 ∃sV,gP on th m f deep met out (pg h t)=(sV,akq on h t out,0)∧Bx.okW sV∧∀p,In sV p↔In met p∨p∈oE h t
 |0,t,f,deep,met,out,hr,ht,hp,hf,hd,hw,hm,hn=>by
  cases f with
  |zero=>omega
  |succ f=>
   have eh:Rd th m (pg 0 t) true t.2 []:=hr
   obtain⟨e1,e2,e3,e4⟩:=eh.nd (deep:=deep) (by omega)
   have hnm:¬Bx.nq met (pg 0 t)=true:=hm _ (vG 0 t)
   refine⟨Bx.di met (pg 0 t), ?_,(Bx.iN hw _).1,fun p=> ?_⟩
   ·rw[gP,if_neg (by rw[e1];simp),if_neg hnm,e4,e3];rfl
   ·rw[tn hw (by omega)]
    show _↔In met p∨p∈[t.1]
    rw[List.mem_singleton];rfl
 |h+1,t,f,deep,met,out,hr,ht,hp,hf,hd,hw,hm,hn=>by
  cases f with
  |zero=>omega
  |succ f=>
   obtain⟨n,Q⟩:=t
   obtain⟨hr1,wv⟩:=(show Rd th m n false [] (Q.map (cT h))∧∀k∈Q,rep th m h k.2 from hr)
   obtain⟨hQ,hQb,jP,bI,zR,hT⟩:=(show Q≠[]∧bT Q=Q∧gH (Q.map (cT h))=true∧nv h Q≤254∧adG h Q∧∀k∈Q,sO h k.2 from ht)
   obtain⟨e1,e2,e3,e4⟩:=hr1.nd (deep:=deep) (by omega)
   have hp:2≤n∧n<1024:=hp
   have hm:∀p∈n::bQ h Q,¬In met p:=hm
   have hn:(n::bQ h Q).Nodup:=hn
   obtain⟨hn1,tM⟩:=List.nodup_cons.1 hn
   have hnm:¬Bx.nq met n=true:=hm n List.mem_cons_self
   have iw:=fun p=>tn (k:=p) hw (n:=n) (by omega)
   obtain⟨m2,ee,w2,i2⟩:=ab6 (g:=gP on th m f (deep+1)) (step:=akq on h) Q (met:=Bx.di met n) (out:=on out n []) (Bx.iN hw n).1
    (fun k hk met out hw hm=>by
      have hkn:(oE h k.2).Nodup:=by
       exact ag6 tM hk
      exact ab7 h (wv k hk) (hT k hk) ((gN.1 jP).1 (cT h k) (List.mem_map_of_mem hk)).2 (by omega) (by omega) hw hm hkn)
    (fun p jZ dm=>by
      rcases(iw p).1 dm with a|a
      ·exact hm p (List.mem_cons_of_mem _ jZ) a
      ·exact hn1 (by rw[←a];exact jZ)) tM
   refine⟨m2, ?_,w2,fun p=> ?_⟩
   ·show gP on th m (f+1) deep met out n=_
    rw[gP,if_neg (by rw[e1];simp),if_neg hnm,e4,e3]
    exact ee
   ·rw[i2,iw]
    show _↔In met p∨p∈n::bQ h Q
    rw[List.mem_cons,or_assoc]
theorem akr(from_:ByteArray):∀(h:Nat) (t:TN h) (out:List En),akq (qH from_) h t out=out++(eb h t).filter (oF from_)
 |0,t,out=>rfl
 |h+1,t,out=>by
  obtain⟨n,Q⟩:=t
  show Q.foldl (fun o k=>akq (qH from_) h k.2 o) (out++[])=out++(bP h Q).filter (oF from_)
  rw[List.append_nil]
  clear n
  induction Q generalizing out with
  |nil=>simp[bP]
  |cons k r ih=>
   rw[List.foldl_cons,ih,akr from_ h,jY,List.filter_append,List.append_assoc]
theorem yd{th:Th}{m:As}{root:Int}{h:Nat}{E:List En}{ps:List Int}{po:Nat}(H:aP th m root h E ps po)(hn:ps.Nodup)(hh:h≤15)(from_:ByteArray):lsE th m root from_=0∧lsF th m root from_=E.filter (oF from_):=by
 have key:wkT (qH from_) th m root []=(E.filter (oF from_),0):=by
  unfold wkT
  rcases H with⟨h1,_,h3,_⟩|⟨t,h1,h2,h22,h3,h4,h5,h6,_⟩
  ·rw[if_pos h1,h3];rfl
  ·subst h5 h6
   obtain⟨sV,e,_⟩:=ab7 (on:=qH from_) h (f:=17) (deep:=1) (met:=Bx.bk) (out:=[]) h3 h4 (by omega) (by omega) (by omega) Bx.gK.1 (fun p _=>lH) hn
   rw[if_neg (by omega),h1,e,akr];rfl
 have e1:lsE th m root from_=0:=by unfold lsE;rw[key]
 refine⟨e1, ?_⟩
 unfold lsF
 rw[if_neg (by rw[e1];simp)]
 unfold lsT
 rw[key]
end Ts
namespace Ts
open Go Go.Sx Go.Proofs Lf
theorem ye{α:Type}[DecidableEq α]:∀{l m:List α},l.Nodup→(∀x∈l,x∈m)→l.length≤m.length
 |[],m,_,_=>Nat.zero_le _
 |a::l,m,hn,hs=>by
  obtain⟨h1,h2⟩:=List.nodup_cons.1 hn
  have ha:=hs a List.mem_cons_self
  have:=ye (l:=l) (m:=m.erase a) h2 fun x hx=>(List.mem_erase_of_ne (fun e=>h1 (by rw[←e];exact hx))).2 (hs x (List.mem_cons_of_mem _ hx))
  rw[List.length_erase_of_mem ha]at this
  have:=List.length_pos_of_mem ha
  rw[List.length_cons]
  omega
theorem aks{ws:Ws}{k:Nat}:k∈Bx.adw ws↔k<1024∧Bx.bit ws k=true:=by
 unfold Bx.adw Bx.fr
 rw[List.mem_filter,List.mem_range]
theorem adQ(ws:Ws):(Bx.adw ws).Nodup:=List.Pairwise.filter _ List.nodup_range
theorem afA{ws:Ws}(hw:Bx.okW ws){N:List Int}(h:∀p,In ws p→p∈N):ja ws≤N.length:=by
 unfold ja
 rw[←List.length_map (f:=fun(k:Nat)=>(k:Int))]
 refine ye ?_ fun x hx=> ?_
 ·unfold List.Nodup
  rw[List.pairwise_map]
  exact(adQ ws).imp fun h e=>h (by omega)
 ·obtain⟨k,hk,rfl⟩:=List.mem_map.1 hx
  obtain⟨a,b⟩:=aks.1 hk
  exact h _ ((eW hw).2 ⟨⟨by omega,by omega⟩,by rw[Int.toNat_natCast];exact b⟩)
theorem ag7{a b c:Ws}(ha:Bx.okW a)(hb:Bx.okW b)(hc:Bx.okW c)(h:∀p,In c p↔In a p∨In b p)(hd:∀p,In a p→¬In b p):ja c=ja a+ja b:=by
 have bits:∀k,k<1024→Bx.bit c k=(Bx.bit a k||Bx.bit b k)∧¬(Bx.bit a k=true∧Bx.bit b k=true):=fun k hk=>by
  have hr:(0:Int)≤(k:Int)∧(k:Int)<1024:=⟨by omega,by omega⟩
  have e:∀{ws:Ws},Bx.okW ws→(In ws (k:Int)↔Bx.bit ws k=true):=fun hw=>by
   rw[eW hw,Int.toNat_natCast];exact⟨fun x=>x.2,fun x=>⟨hr,x⟩⟩
  have h1:=h (k:Int)
  have h2:=hd (k:Int)
  rw[e ha,e hb]at h1
  rw[e hc]at h1
  rw[e ha,e hb]at h2
  refine⟨?_,fun x=>h2 x.1 x.2⟩
  cases e1:Bx.bit a k<;>cases e2:Bx.bit b k<;>cases e3:Bx.bit c k<;>simp[e1,e2,e3]at h1 ⊢
 have key:∀m,m≤1024→(Bx.fr (Bx.bit c) m).length=(Bx.fr (Bx.bit a) m).length+(Bx.fr (Bx.bit b) m).length:=by
  intro m
  induction m with
  |zero=>intro _;rfl
  |succ m ih=>
   intro hm
   obtain⟨b1,b2⟩:=bits m (by omega)
   have:=ih (by omega)
   rw[Bx.qs,Bx.qs,Bx.qs,List.length_append,List.length_append,List.length_append,b1]
   cases e1:Bx.bit a m<;>cases e2:Bx.bit b m<;>simp[e1,e2]at b2 ⊢ <;>omega
 exact key 1024 (Nat.le_refl _)
theorem am2{ws:Ws}(hw:Bx.okW ws):Bx.adz ws=(ja ws:Int):=Bx.al4 hw.1
theorem TI.cnt{th:Th}{F0:Int→Prop}{m:As}{fu root:Int}{fr fs gn:Ws}{h:Nat}{E:List En}{ps:List Int}{po:Nat}(T:TI th F0 m fu root fr fs gn h E ps po){f0:Ws}(hw:Bx.okW f0)(hf:∀p,In f0 p↔F0 p):ja f0=ja fr+ja fs∧ja fs≤ps.length:=
 ⟨ag7 T.ok.fr T.ok.fs hw (fun p=>by rw[hf,T.inv.cov]) T.inv.dis,afA T.ok.fs T.inv.sub⟩
theorem adR{E:List En}{key v:ByteArray}:(bw E key v).length≤E.length+1:=by rw[zu];split<;>omega
theorem adS{E:List En}{key:ByteArray}{op:Option ByteArray}:(lP key op E).length≤E.length+(match op with|some _=>1|none=>0):=by
 cases op with
 |some v=>exact adR
 |none=>exact List.length_filter_le _ _
end Ts
namespace Ts
open Go Go.Sx Go.Proofs Lf
structure auV (th:Th) (key:ByteArray) (op:Option ByteArray) (m:As) (fu:Int) (fr:Ws) (h:Nat) (E:List En) (m':As) (fK e:Int):Prop where
 d:Ds.bU th m' fK
 rd:∀p,¬In fr p→Ds.ji th m' p=Ds.ji th m p∧Ds.gS th m' p=Ds.gS th m p
 fu:fu= -1→fK= -1
 how:(ik key op=false∧e=1)∨(ik key op=true∧((e=5∧qJ key op E=5)∨(e=41∧ja fr≤2*h+3)∨(e=42∧fK=0)))
theorem akt{key:ByteArray}{op:Option ByteArray}:ik key op=true↔(1≤key.size∧key.size≤24)∧∀v,op=some v→v.size≤100:=by
 cases op with
 |none=>
  simp only[ik,Bool.and_eq_true,decide_eq_true_eq]
  exact⟨fun h=>⟨h,fun v e=>by cases e⟩,fun h=>h.1⟩
 |some v=>
  simp only[ik,Bool.and_eq_true,decide_eq_true_eq]
  exact⟨fun h=>⟨h.1,fun w e=>by cases e;exact h.2⟩,fun h=>⟨h.1,h.2 v rfl⟩⟩
theorem am3{th:Th}{F0:Int→Prop}{key:ByteArray}{op:Option ByteArray}{m:As}{fu root:Int}{fr fs gn:Ws}{h:Nat}{E:List En}{ps:List Int}{po:Nat}(T:TI th F0 m fu root fr fs gn h E ps po)(hh:h≤14):
 ((wR th key op m fu root fr fs gn).2.2.2.2.2.2=0∧ik key op=true∧qJ key op E=0∧∃h' ps' po',ab2 th F0 key op m fu fr ps E po (wR th key op m fu root fr fs gn) h' ps' po')∨
 (∃m' fK e,e≠0∧wR th key op m fu root fr fs gn=(m',fK,root,fr,fs,gn,e)∧auV th key op m fu fr h E m' fK e):=by
 by_cases hk:ik key op=true
 ·rw[zI hk]
  obtain⟨k1,k2⟩:=akt.1 hk
  rcases akp (key:=key) (op:=op) T k1 k2 hh with⟨a,b,c⟩|⟨m',fK,e,a,b,c⟩
  ·exact .inl ⟨a,hk,b,c⟩
  ·refine .inr ⟨m',fK,e,a,b,c.d,c.rd,c.fu,.inr ⟨hk, ?_⟩⟩
   rcases c.how with x|⟨x,N,y,z⟩|x
   ·exact .inl x
   ·exact .inr (.inl ⟨x,Nat.le_trans (afA T.ok.fr z) y⟩)
   ·exact .inr (.inr x)
 ·have hk:ik key op=false:=by simpa using hk
  exact .inr ⟨m,fu,1,by decide,adL hk,T.ok.d,fun p _=>⟨rfl,rfl⟩,id,.inl ⟨hk,rfl⟩⟩
theorem ab8{th:Th}{m m':As}:∀(h:Nat) {t:TN h},rep th m h t→(∀p∈oE h t,Ds.ji th m' p=Ds.ji th m p∧Ds.gS th m' p=Ds.gS th m p)→rep th m' h t
 |0,t,hr,hp=>Rd.same hr (hp _ (vG 0 t))
 |h+1,t,hr,hp=>⟨Rd.same hr.1 (hp _ (vG (h+1) t)),fun k hk=>ab8 h (hr.2 k hk) fun p jZ=>hp p (List.mem_cons_of_mem _ (List.mem_flatMap.2 ⟨k,hk,jZ⟩))⟩
theorem aP.same{th:Th}{m m':As}{root:Int}{h:Nat}{E:List En}{ps:List Int}{po:Nat}(H:aP th m root h E ps po)(hp:∀p∈ps,Ds.ji th m' p=Ds.ji th m p∧Ds.gS th m' p=Ds.gS th m p):aP th m' root h E ps po:=by
 rcases H with H|⟨t,h1,h2,h22,h3,h4,h5,h6,h7⟩
 ·exact .inl H
 ·subst h6
  exact .inr ⟨t,h1,h2,h22,ab8 h h3 hp,h4,h5,rfl,h7⟩
theorem TI.eJ{th:Th}{F0:Int→Prop}{m m':As}{fu fK root:Int}{fr fs gn:Ws}{h:Nat}{E:List En}{ps:List Int}{po:Nat}(T:TI th F0 m fu root fr fs gn h E ps po)(hd:Ds.bU th m' fK)(hr:∀p,¬In fr p→Ds.ji th m' p=Ds.ji th m p∧Ds.gS th m' p=Ds.gS th m p):
 TI th F0 m' fK root fr fs gn h E ps po:=⟨⟨hd,T.ok.fr,T.ok.fs,T.ok.gn,T.ok.pg⟩,T.gz,T.f0,T.holds.same fun p hp=>hr p (T.free p hp),T.inv⟩
theorem aqI{th:Th}{free:Ws}(hw:Bx.okW free):Bx.okW (opF th free):=(Bx.nr (.inr (.inl rfl)) hw (Bx.nr (.inr (.inr rfl)) (Bx.dQ _).1 (Bx.dQ _).1).1).1
theorem aqJ{th:Th}{free:Ws}(hw:Bx.okW free){p:Int}:In (opF th free) p↔In free p∧2≤p∧p<Ds.xF th:=by
 unfold opF
 rw[aqc hw (Bx.nr (.inr (.inr rfl)) (Bx.dQ _).1 (Bx.dQ _).1).1,amb (Bx.dQ _).1 (Bx.dQ _).1,abz,abz]
 constructor
 ·rintro⟨a,⟨b,c⟩,d⟩
  exact⟨a,by omega,c⟩
 ·rintro⟨a,b,c⟩
  have:=nu hw a
  exact⟨a,⟨by omega,c⟩,by omega⟩
theorem TI.start{th:Th}{m:As}{fu:Int}{free:Ws}(hd:Ds.bU th m fu)(hw:Bx.okW free):TI th (In (opF th free)) m fu 0 (opF th free) Bx.bk Bx.bk 0 [] [] 0:=by
 have f0:∀p,In (opF th free) p→2≤p∧Ds.uU th p=true:=fun p hp=>by
  obtain⟨_,a,b⟩:=(aqJ hw).1 hp
  exact⟨a,Ds.fU.2 ⟨by omega,b⟩⟩
 exact⟨⟨hd,aqI hw,Bx.gK.1,Bx.gK.1,f0⟩,rfl,f0,.inl ⟨rfl,rfl,rfl,rfl,rfl⟩,⟨List.nodup_nil,fun p=>⟨.inl,fun x=>x.elim id (fun y=>absurd y lH)⟩,fun p _=>lH,fun p hp=>absurd hp lH,fun p hp=>by cases hp⟩⟩
theorem TI.rng{th:Th}{F0:Int→Prop}{m:As}{fu root:Int}{fr fs gn:Ws}{h:Nat}{E:List En}{ps:List Int}{po:Nat}(T:TI th F0 m fu root fr fs gn h E ps po):0≤root∧root≤65536:=by
 rcases T.holds with⟨h1,_⟩|⟨t,_,h2,h3,_⟩<;>omega
theorem am4(e:En):oF ByteArray.empty e=true:=by unfold oF;rw[gq];rfl
theorem filter_all(l:List En):l.filter (oF ByteArray.empty)=l:=List.filter_eq_self.2 fun e _=>am4 e
theorem TI.small{th:Th}{F0:Int→Prop}{m:As}{fu root:Int}{fr fs gn:Ws}{h:Nat}{E:List En}{ps:List Int}{po:Nat}(T:TI th F0 m fu root fr fs gn h E ps po)(hp:po≤100000):h≤14:=T.holds.aqH (by have:19*3^15=272629233:=rfl;omega)
end Ts
namespace Ts
open Go Go.Sx Go.Proofs Lf
def mLg:List AV→RM (List (CL mi)×List Nat)
 |[.s (.ro (.ad [.int .u8,.str,.str] l))]=>.ret (l,[])
 |_=>.fail "no steps"
abbrev atq:=dI sLg mLg
abbrev atr:=bS [bm] [bm] (fun _=>[]) (fun(p,())=>(lM p,()))
def mNw:List AV→RM (Int×List Nat)
 |[n]=>match n.dk with
  |some (_,_,n)=>.ret (n,[])
  |none=>.fail "new"
 |_=>.fail "new"
abbrev ats:=dI sNw mNw
abbrev aqK:=bS [Bx.sk] [Bx.dt] (fun _=>[]) (fun(l,())=>(Bx.ofF l,()))
abbrev att:=dI sLs mGt
abbrev auW:=bS [Bx.dt] [bm] (fun(ws,())=>[Bx.okW ws]) (fun(ws,())=>(Bx.adz ws,()))
abbrev auX:=bS [n9,n9,dL] [cv] (fun(l,qK,from_,())=>[(qK:List En)=List.filter (oF from_) l,(l:List En).length≤100000]) (fun _=>(true,()))
def atu:List AV→RM (XS×List Nat)
 |[.agg [.s (.int _ k),.s (.str key),.s (.str val)],t]=>(mT [t]).bind fun(X,σ)=>.ret ((X,k,key,val),σ)
 |_=>.fail "no step"
abbrev atv:=dI sDo atu
abbrev anr:=dI Ds.sFu Ds.mFu
abbrev atw:=dI Ds.sDe Ds.mAs
def ab9:aH:=[(8,auK),(9,atq),(17,atr),(31,ats),(32,aqK),(21,aon),(33,anr),(34,atw),(22,aoo),(19,asM),(20,aop),(12,att),(14,atv),(27,auW),(13,auX)]
abbrev hL(th:Th)(m:As)(fu root:Int)(fr fs gn:Ws):List ae:=[Ds.obD 2 3 fu,obT 0 root fr fs gn,.vec (.ad Ds.cS th) Ds.eS,.map Ds.kS m]
abbrev hL2(th:Th)(m:As)(fu root:Int)(fr fs gn bY bZ:Ws)(old:List En):List ae:=[Ds.obD 5 6 fu,obT 0 root fr fs gn,.own [.ints .u64 16 bY] eSt,.own [.ints .u64 16 bZ] eSt,.vec (.ad cE old) Lf.eE,.vec (.ad Ds.cS th) Ds.eS,.map Ds.kS m]
def am5:List (Nat×Norm):=[(10,⟨[],[2,9,11,12],0,[]⟩),(15,⟨[],[2,9,11,12,13,14,15,16,17,18],0,[]⟩),(17,⟨[],[2,9,11,12,13,14,15,16,18],0,[]⟩)]
noncomputable def cFu(l:List (CL mi))(th:Th)(m:As)(fu root:Int)(fr fs gn:Ws)(i:Int):bB:=⟨sl 127 [(2,kz l),(9,.ptr 0 0),(11,.ptr 1 0),(12,bO i)],hL th m fu root fr fs gn,hd Tryd.f7 10,{}⟩
noncomputable def aku(l:List (CL mi))(th:Th)(m:As)(fu root:Int)(fr fs gn:Ws)(i aI:Int)(bY bZ:Ws)(old:List En)(e1 e2:Int):bB:=⟨sl 127 [(2,kz l),(9,.ptr 0 0),(11,.ptr 1 0),(12,bO i),(13,bO aI),(14,.ptr 2 0),(15,.ptr 3 0),(16,.vec 4),(17,bO e1),(18,bO e2)],hL2 th m fu root fr fs gn bY bZ old,hr Tryd.f7 15,{}⟩
noncomputable def aos(l:List (CL mi))(th:Th)(m:As)(fu root:Int)(fr fs gn:Ws)(i aI:Int)(bY bZ:Ws)(old:List En)(e2:Int):bB:=⟨sl 127 [(2,kz l),(9,.ptr 0 0),(11,.ptr 1 0),(12,bO i),(13,bO aI),(14,.ptr 2 0),(15,.ptr 3 0),(16,.vec 4),(18,bO e2)],hL2 th m fu root fr fs gn bY bZ old,hr Tryd.f7 17,{}⟩
theorem auY(iQ:Int)(free:List Int)(l:List (CL mi))(aca:Int):run P ab9.sum Tryd.f7 am5 (start Tryd.f7 [bO iQ,.s (.ro (.ints .i64 free)),kz l,bO aca] [])=
 Tree.ite false (.ret [] (.s (.bool true))) (.need (bJ (some [AV.s (.ro (.ad mi l))])) (.need aii (.need (l.length≤9223372036854775807) (.both True (l.length - (90:Nat)=0) (.ret [] (.s (.bool true))) (.ite (decide ((↑free.length:Int)>300)) (.ret [] (.s (.bool true))) (.need (bJ (some [AV.s (.int .i64 (lM iQ))])) (.need aii (.need ((1:Int)≤lM iQ∧lM iQ≤4096) (.ite false (.ret [.own [.vec 1,.ag 2,.s (.int .i64 (-1))] 96,.vec (.ad [.arr .u8 64] (cq (lM iQ))) 138,.map (.arr .u8 64) []] (.s (.aJ false))) (.need (bJ (some [AV.ptr 0 0,.s (.int .i64 0),.ints .u64 16 (Bx.ofF free)])) (.need (bJ (some [ae.own [.vec 1,.ag 2,.s (.int .i64 (-1))] 96,.vec (.ad [.arr .u8 64] (cq (lM iQ))) 138,.map (.arr .u8 64) []])) (.need (Ds.bU (cq (lM iQ)) [] (-1)) (.ite (decide (aca≥0)) (.need ((400:Int)≠0) (.need (bJ (some [AV.ptr 0 0,.s (.int .i64 (aca.tmod 400))])) (.need (bJ (some [ae.own [.vec 1,.ag 2,.s (.int .i64 (-1))] 96,.vec (.ad [.arr .u8 64] (cq (lM iQ))) 138,.map (.arr .u8 64) []])) (.at (.mk (sl 127 [(2,.s (.ro (.ad mi l))),(9,.ptr 0 0),(11,.ptr 1 0),(12,.s (.int .i64 0))]) [.own [.vec 2,.ag 3,.s (.int .i64 (Ds.fuF (-1) (aca.tmod 400)))] 96,.own [.ptr 0 0,.s (.int .i64 0),.ints .u64 16 (opF (cq (lM iQ)) (Bx.ofF free)),.ints .u64 16 Bx.bk,.ints .u64 16 Bx.bk] 70,.vec (.ad [.arr .u8 64] (cq (lM iQ))) 138,.map (.arr .u8 64) []] (hd Tryd.f7 10) (.mk none false 0 [] 0)))))) (.at (.mk (sl 127 [(2,.s (.ro (.ad mi l))),(9,.ptr 0 0),(11,.ptr 1 0),(12,.s (.int .i64 0))]) [.own [.vec 2,.ag 3,.s (.int .i64 (-1))] 96,.own [.ptr 0 0,.s (.int .i64 0),.ints .u64 16 (opF (cq (lM iQ)) (Bx.ofF free)),.ints .u64 16 Bx.bk,.ints .u64 16 Bx.bk] 70,.vec (.ad [.arr .u8 64] (cq (lM iQ))) 138,.map (.arr .u8 64) []] (hd Tryd.f7 10) (.mk none false 0 [] 0)))))))))))))))):=by kernel_rfl
theorem atx(l:List (CL mi))(th:Th)(m:As)(fu root:Int)(fr fs gn:Ws)(i:Int):run P ab9.sum Tryd.f7 am5 (cFu l th m fu root fr fs gn i)=
 Tree.ite (decide (i<(↑l.length:Int)))
 (.need (bJ (some [AV.ptr 0 0]))
   (.need (bJ (some [ae.own [.ptr 1 0,.s (.int .i64 root),.ints .u64 16 fr,.ints .u64 16 fs,.ints .u64 16 gn] 70,.own [.vec 2,.ag 3,.s (.int .i64 fu)] 96,.vec (.ad [.arr .u8 64] th) 138,.map (.arr .u8 64) m]))
     (.need (bJ (some [AV.ptr 0 0])) (.need (bJ (some [ae.own [.ptr 1 0,.s (.int .i64 root),.ints .u64 16 fr,.ints .u64 16 fs,.ints .u64 16 gn] 70,.own [.vec 2,.ag 3,.s (.int .i64 fu)] 96,.vec (.ad [.arr .u8 64] th) 138,.map (.arr .u8 64) m])) (.need (bJ (some [AV.ptr 0 0])) (.need (bJ (some [ae.own [.ptr 1 0,.s (.int .i64 root),.ints .u64 16 fr,.ints .u64 16 fs,.ints .u64 16 gn] 70,.own [.vec 2,.ag 3,.s (.int .i64 fu)] 96,.vec (.ad [.arr .u8 64] th) 138,.map (.arr .u8 64) m])) (.need (bJ (some [AV.ptr 0 0,.s (.str ByteArray.empty)])) (.need (bJ (some [ae.own [.ptr 1 0,.s (.int .i64 root),.ints .u64 16 fr,.ints .u64 16 fs,.ints .u64 16 gn] 70,.own [.vec 2,.ag 3,.s (.int .i64 fu)] 96,.vec (.ad [.arr .u8 64] th) 138,.map (.arr .u8 64) m])) (.need (Ds.bU th m fu) (.need ((0:Int)≤root∧root≤65536) (.need ((0:Int)≤i) (.need (i<(↑l.length:Int)) (.need (bJ (some [AV.agg [.s (.int .u8 (sF (el l i))),.s (.str (sU (el l i))),.s (.str (sG (el l i)))],.ptr 0 0])) (.need (bJ (some [ae.own [.ptr 1 0,.s (.int .i64 root),.ints .u64 16 fr,.ints .u64 16 fs,.ints .u64 16 gn] 70,.own [.vec 2,.ag 3,.s (.int .i64 fu)] 96,.vec (.ad [.arr .u8 64] th) 138,.map (.arr .u8 64) m])) (.need (Ds.bU th m fu) (.need (Bx.okW fr) (.need ((0:Int)≤root∧root≤65536) (.at (.mk (sl 127 [(2,.s (.ro (.ad mi l))),(9,.ptr 0 0),(11,.ptr 1 0),(12,.s (.int .i64 i)),(13,.s (.int .i64 root)),(14,.ptr 2 0),(15,.ptr 3 0),(16,.vec 4),(17,.s (.int .i64 (lsE th m root ByteArray.empty))),(18,.s (.int .i64 (doX th (sF (el l i)) (sU (el l i)) (sG (el l i)) m fu root fr fs gn)))]) [.own [.vec 5,.ag 6,.s (.int .i64 (do1 th (sF (el l i)) (sU (el l i)) (sG (el l i)) m fu root fr fs gn))] 96,.own [.ptr 0 0,.s (.int .i64 (doR th (sF (el l i)) (sU (el l i)) (sG (el l i)) m fu root fr fs gn)),.ints .u64 16 (do2 th (sF (el l i)) (sU (el l i)) (sG (el l i)) m fu root fr fs gn),.ints .u64 16 (do3 th (sF (el l i)) (sU (el l i)) (sG (el l i)) m fu root fr fs gn),.ints .u64 16 (do4 th (sF (el l i)) (sU (el l i)) (sG (el l i)) m fu root fr fs gn)] 70,.own [.ints .u64 16 fs] 47,.own [.ints .u64 16 fr] 47,.vec (.ad [.str,.str] (lsF th m root ByteArray.empty)) 34,.vec (.ad [.arr .u8 64] th) 138,.map (.arr .u8 64) (do0 th (sF (el l i)) (sU (el l i)) (sG (el l i)) m fu root fr fs gn)] (hr Tryd.f7 15) (.mk none false 0 [] 0))))))))))))))))))))
 (.ret [.own [.vec 2,.ag 3,.s (.int .i64 fu)] 96,.own [.ptr 0 0,.s (.int .i64 root),.ints .u64 16 fr,.ints .u64 16 fs,.ints .u64 16 gn] 70,.vec (.ad [.arr .u8 64] th) 138,.map (.arr .u8 64) m] (.s (.aJ true))):=by kernel_rfl
theorem aqL(l:List (CL mi))(th:Th)(m:As)(fu root:Int)(fr fs gn:Ws)(i aI:Int)(bY bZ:Ws)(old:List En)(e1 e2:Int):run P ab9.sum Tryd.f7 am5 (aku l th m fu root fr fs gn i aI bY bZ old e1 e2)=
 Tree.ite (e1 !=0) (.ret [.own [.vec 5,.ag 6,.s (.int .i64 fu)] 96,.own [.ptr 0 0,.s (.int .i64 root),.ints .u64 16 fr,.ints .u64 16 fs,.ints .u64 16 gn] 70,.own [.ints .u64 16 bY] 47,.own [.ints .u64 16 bZ] 47,.vec (.ad [.str,.str] old) 34,.vec (.ad [.arr .u8 64] th) 138,.map (.arr .u8 64) m] (.s (.aJ false)))
 (.ite (e2==41) (.need (Bx.okW bZ) (.ite (decide (Bx.adz bZ≥34)) (.ret [.own [.vec 5,.ag 6,.s (.int .i64 fu)] 96,.own [.ptr 0 0,.s (.int .i64 root),.ints .u64 16 fr,.ints .u64 16 fs,.ints .u64 16 gn] 70,.own [.ints .u64 16 bY] 47,.own [.ints .u64 16 bZ] 47,.vec (.ad [.str,.str] old) 34,.vec (.ad [.arr .u8 64] th) 138,.map (.arr .u8 64) m] (.s (.aJ false))) (.ite (e2==42) (.need (bJ (some [AV.ptr 0 0])) (.need (bJ (some [ae.own [.vec 1,.ag 2,.s (.int .i64 fu)] 96,.vec (.ad [.arr .u8 64] th) 138,.map (.arr .u8 64) m])) (.ite (!fu==0) (.ret [.own [.vec 5,.ag 6,.s (.int .i64 fu)] 96,.own [.ptr 0 0,.s (.int .i64 root),.ints .u64 16 fr,.ints .u64 16 fs,.ints .u64 16 gn] 70,.own [.ints .u64 16 bY] 47,.own [.ints .u64 16 bZ] 47,.vec (.ad [.str,.str] old) 34,.vec (.ad [.arr .u8 64] th) 138,.map (.arr .u8 64) m] (.s (.aJ false))) (.at (.mk (sl 127 [(2,.s (.ro (.ad mi l))),(9,.ptr 0 0),(11,.ptr 1 0),(12,.s (.int .i64 i)),(13,.s (.int .i64 aI)),(14,.ptr 2 0),(15,.ptr 3 0),(16,.vec 4),(18,.s (.int .i64 e2))]) [.own [.vec 5,.ag 6,.s (.int .i64 fu)] 96,.own [.ptr 0 0,.s (.int .i64 root),.ints .u64 16 fr,.ints .u64 16 fs,.ints .u64 16 gn] 70,.own [.ints .u64 16 bY] 47,.own [.ints .u64 16 bZ] 47,.vec (.ad [.str,.str] old) 34,.vec (.ad [.arr .u8 64] th) 138,.map (.arr .u8 64) m] (hr Tryd.f7 17) (.mk none false 0 [] 0)))))) (.at (.mk (sl 127 [(2,.s (.ro (.ad mi l))),(9,.ptr 0 0),(11,.ptr 1 0),(12,.s (.int .i64 i)),(13,.s (.int .i64 aI)),(14,.ptr 2 0),(15,.ptr 3 0),(16,.vec 4),(18,.s (.int .i64 e2))]) [.own [.vec 5,.ag 6,.s (.int .i64 fu)] 96,.own [.ptr 0 0,.s (.int .i64 root),.ints .u64 16 fr,.ints .u64 16 fs,.ints .u64 16 gn] 70,.own [.ints .u64 16 bY] 47,.own [.ints .u64 16 bZ] 47,.vec (.ad [.str,.str] old) 34,.vec (.ad [.arr .u8 64] th) 138,.map (.arr .u8 64) m] (hr Tryd.f7 17) (.mk none false 0 [] 0))))))
   (.ite (e2==42) (.need (bJ (some [AV.ptr 0 0])) (.need (bJ (some [ae.own [.vec 1,.ag 2,.s (.int .i64 fu)] 96,.vec (.ad [.arr .u8 64] th) 138,.map (.arr .u8 64) m])) (.ite (!fu==0) (.ret [.own [.vec 5,.ag 6,.s (.int .i64 fu)] 96,.own [.ptr 0 0,.s (.int .i64 root),.ints .u64 16 fr,.ints .u64 16 fs,.ints .u64 16 gn] 70,.own [.ints .u64 16 bY] 47,.own [.ints .u64 16 bZ] 47,.vec (.ad [.str,.str] old) 34,.vec (.ad [.arr .u8 64] th) 138,.map (.arr .u8 64) m] (.s (.aJ false))) (.at (.mk (sl 127 [(2,.s (.ro (.ad mi l))),(9,.ptr 0 0),(11,.ptr 1 0),(12,.s (.int .i64 i)),(13,.s (.int .i64 aI)),(14,.ptr 2 0),(15,.ptr 3 0),(16,.vec 4),(18,.s (.int .i64 e2))]) [.own [.vec 5,.ag 6,.s (.int .i64 fu)] 96,.own [.ptr 0 0,.s (.int .i64 root),.ints .u64 16 fr,.ints .u64 16 fs,.ints .u64 16 gn] 70,.own [.ints .u64 16 bY] 47,.own [.ints .u64 16 bZ] 47,.vec (.ad [.str,.str] old) 34,.vec (.ad [.arr .u8 64] th) 138,.map (.arr .u8 64) m] (hr Tryd.f7 17) (.mk none false 0 [] 0)))))) (.at (.mk (sl 127 [(2,.s (.ro (.ad mi l))),(9,.ptr 0 0),(11,.ptr 1 0),(12,.s (.int .i64 i)),(13,.s (.int .i64 aI)),(14,.ptr 2 0),(15,.ptr 3 0),(16,.vec 4),(18,.s (.int .i64 e2))]) [.own [.vec 5,.ag 6,.s (.int .i64 fu)] 96,.own [.ptr 0 0,.s (.int .i64 root),.ints .u64 16 fr,.ints .u64 16 fs,.ints .u64 16 gn] 70,.own [.ints .u64 16 bY] 47,.own [.ints .u64 16 bZ] 47,.vec (.ad [.str,.str] old) 34,.vec (.ad [.arr .u8 64] th) 138,.map (.arr .u8 64) m] (hr Tryd.f7 17) (.mk none false 0 [] 0))))):=by kernel_rfl
theorem akv(l:List (CL mi))(th:Th)(m:As)(fu root:Int)(fr fs gn:Ws)(i aI:Int)(bY bZ:Ws)(old:List En)(e2:Int):run P ab9.sum Tryd.f7 am5 (aos l th m fu root fr fs gn i aI bY bZ old e2)=
 Tree.ite (e2==0) (.need (aD (i+1)) (.at (.mk (sl 127 [(2,.s (.ro (.ad mi l))),(9,.ptr 0 0),(11,.ptr 1 0),(12,.s (.int .i64 (i+1)))]) [.own [.vec 2,.ag 3,.s (.int .i64 fu)] 96,.own [.ptr 0 0,.s (.int .i64 root),.ints .u64 16 fr,.ints .u64 16 fs,.ints .u64 16 gn] 70,.vec (.ad [.arr .u8 64] th) 138,.map (.arr .u8 64) m] (hd Tryd.f7 10) (.mk none false 0 [] 0))))
 (.need (bJ (some [AV.ptr 0 0,.s (.str ByteArray.empty)]))
   (.need (bJ (some [ae.own [.ptr 1 0,.s (.int .i64 root),.ints .u64 16 fr,.ints .u64 16 fs,.ints .u64 16 gn] 70,.own [.vec 2,.ag 3,.s (.int .i64 fu)] 96,.vec (.ad [.arr .u8 64] th) 138,.map (.arr .u8 64) m]))
     (.need (Ds.bU th m fu)
       (.need ((0:Int)≤root∧root≤65536)
         (.need (bJ (some [AV.ptr 0 0]))
           (.need (bJ (some [ae.own [.ptr 1 0,.s (.int .i64 root),.ints .u64 16 fr,.ints .u64 16 fs,.ints .u64 16 gn] 70,.own [.vec 2,.ag 3,.s (.int .i64 fu)] 96,.vec (.ad [.arr .u8 64] th) 138,.map (.arr .u8 64) m]))
             (.ite (root !=aI) (.ret [.own [.vec 5,.ag 6,.s (.int .i64 fu)] 96,.own [.ptr 0 0,.s (.int .i64 root),.ints .u64 16 fr,.ints .u64 16 fs,.ints .u64 16 gn] 70,.own [.ints .u64 16 bY] 47,.own [.ints .u64 16 bZ] 47,.vec (.ad [.str,.str] old) 34,.vec (.ad [.arr .u8 64] th) 138,.map (.arr .u8 64) m,.vec (.ad [.str,.str] (lsF th m root ByteArray.empty)) 34] (.s (.aJ false)))
               (.need (bJ (some [AV.ptr 0 0]))
                 (.need (bJ (some [ae.own [.ptr 1 0,.s (.int .i64 root),.ints .u64 16 fr,.ints .u64 16 fs,.ints .u64 16 gn] 70,.own [.vec 2,.ag 3,.s (.int .i64 fu)] 96,.vec (.ad [.arr .u8 64] th) 138,.map (.arr .u8 64) m]))
                   (.ite (!decide (fs=bY)) (.ret [.own [.vec 5,.ag 6,.s (.int .i64 fu)] 96,.own [.ptr 0 0,.s (.int .i64 root),.ints .u64 16 fr,.ints .u64 16 fs,.ints .u64 16 gn] 70,.own [.ints .u64 16 bY] 47,.own [.ints .u64 16 bZ] 47,.vec (.ad [.str,.str] old) 34,.vec (.ad [.arr .u8 64] th) 138,.map (.arr .u8 64) m,.vec (.ad [.str,.str] (lsF th m root ByteArray.empty)) 34] (.s (.aJ false)))
                     (.need (bJ (some [AV.ptr 0 0])) (.need (bJ (some [ae.own [.ptr 1 0,.s (.int .i64 root),.ints .u64 16 fr,.ints .u64 16 fs,.ints .u64 16 gn] 70,.own [.vec 2,.ag 3,.s (.int .i64 fu)] 96,.vec (.ad [.arr .u8 64] th) 138,.map (.arr .u8 64) m])) (.ite (!decide (fr=bZ)) (.ret [.own [.vec 5,.ag 6,.s (.int .i64 fu)] 96,.own [.ptr 0 0,.s (.int .i64 root),.ints .u64 16 fr,.ints .u64 16 fs,.ints .u64 16 gn] 70,.own [.ints .u64 16 bY] 47,.own [.ints .u64 16 bZ] 47,.vec (.ad [.str,.str] old) 34,.vec (.ad [.arr .u8 64] th) 138,.map (.arr .u8 64) m,.vec (.ad [.str,.str] (lsF th m root ByteArray.empty)) 34] (.s (.aJ false))) (.ite (lsE th m root ByteArray.empty !=0) (.ret [.own [.vec 5,.ag 6,.s (.int .i64 fu)] 96,.own [.ptr 0 0,.s (.int .i64 root),.ints .u64 16 fr,.ints .u64 16 fs,.ints .u64 16 gn] 70,.own [.ints .u64 16 bY] 47,.own [.ints .u64 16 bZ] 47,.vec (.ad [.str,.str] old) 34,.vec (.ad [.arr .u8 64] th) 138,.map (.arr .u8 64) m,.vec (.ad [.str,.str] (lsF th m root ByteArray.empty)) 34] (.s (.aJ false))) (.need (lsF th m root ByteArray.empty=List.filter (oF ByteArray.empty) old) (.need (old.length≤100000) (.ite false (.ret [.own [.vec 5,.ag 6,.s (.int .i64 fu)] 96,.own [.ptr 0 0,.s (.int .i64 root),.ints .u64 16 fr,.ints .u64 16 fs,.ints .u64 16 gn] 70,.own [.ints .u64 16 bY] 47,.own [.ints .u64 16 bZ] 47,.vec (.ad [.str,.str] old) 34,.vec (.ad [.arr .u8 64] th) 138,.map (.arr .u8 64) m,.vec (.ad [.str,.str] (lsF th m root ByteArray.empty)) 34] (.s (.aJ false))) (.need (aD (i+1)) (.at (.mk (sl 127 [(2,.s (.ro (.ad mi l))),(9,.ptr 0 0),(11,.ptr 1 0),(12,.s (.int .i64 (i+1)))]) [.own [.vec 2,.ag 3,.s (.int .i64 fu)] 96,.own [.ptr 0 0,.s (.int .i64 root),.ints .u64 16 fr,.ints .u64 16 fs,.ints .u64 16 gn] 70,.vec (.ad [.arr .u8 64] th) 138,.map (.arr .u8 64) m] (hd Tryd.f7 10) (.mk none false 0 [] 0))))))))))))))))))))):=by kernel_rfl
theorem lN:ab9.Ok P Bx.ct:=aH.Ok.cons akb.sum (aH.Ok.cons (atd.sum mLg) (aH.Ok.cons aqC.sum (aH.Ok.cons (aqD.sum mNw) (aH.Ok.cons Bx.ar7.sum (aH.Ok.cons (afm.sum mOp) (aH.Ok.cons (Ds.ald.sum Ds.mFu) (aH.Ok.cons (Ds.alc.sum Ds.mAs) (aH.Ok.cons (afn.sum mT) (aH.Ok.cons (aj8.sum mT) (aH.Ok.cons (afo.sum mT) (aH.Ok.cons (amR.sum mGt) (aH.Ok.cons (ate.sum atu) (aH.Ok.cons Bx.ap3.sum (aH.Ok.cons atf.sum aH.Ok.nil))))))))))))))
theorem aqM(op:Option ByteArray):opP op≤81:=by
 cases op with
 |none=>exact Nat.zero_le _
 |some v=>exact Nat.le_refl _
abbrev KT:List ae→AV→Prop:=Ends [cv] (true,())
section
variable{X:Ctx}{l:List (CL mi)}{th:Th}{m:As}{fu root:Int}{fr fs gn:Ws}{i aI:Int}{bY bZ:Ws}{old:List En}{e1 e2:Int}
theorem aty(hX:∀id,X.H id=none)(hz:dS Bx.ct X)(h1:e1=0)(hw:Bx.okW bZ)(h41:e2=41→ja bZ<34)(h42:e2=42→fu=0)(H:Safe P 7 X KT (aos l th m fu root fr fs gn i aI bY bZ old e2)):
 Safe P 7 X KT (aku l th m fu root fr fs gn i aI bY bZ old e1 e2):=by
 subst h1
 refine Lf.go hz hX lN Tryd.func7 (aqL l th m fu root fr fs gn i aI bY bZ old 0 e2) ⟨fun h=>(by cases h),fun _=>⟨fun h=>⟨hw,fun h2=> ?_,fun _=>⟨fun h3=>⟨rfl,rfl,fun h4=> ?_,fun _=>H⟩,fun _=>H⟩⟩,fun _=>⟨fun h3=>⟨rfl,rfl,fun h4=> ?_,fun _=>H⟩,fun _=>H⟩⟩⟩
 ·have h:=h41 (by simpa using h)
  have h2:=of_decide_eq_true h2
  rw[am2 hw]at h2
  omega
 ·have:=h42 (by simpa using h3)
  subst this
  exact absurd h4 (by decide)
 ·have:=h42 (by simpa using h3)
  subst this
  exact absurd h4 (by decide)
end
theorem nY{X:Ctx}(hX:∀id,X.H id=none)(hz:dS Bx.ct X){l:List (CL mi)}(hl:l.length≤90){th:Th}{F0:Int→Prop}:∀(j k:Nat),k+j=l.length→∀{m:As} {fu root:Int} {fr fs gn:Ws} {h:Nat} {E:List En} {ps:List Int} {po:Nat},
 TI th F0 m fu root fr fs gn h E ps po→po≤81*k→E.length≤k→Safe P 7 X KT (cFu l th m fu root fr fs gn (k:Int))
 |0,k,hk,m,fu,root,fr,fs,gn,h,E,ps,po,T,hp,hE=>
  Lf.go hz hX lN Tryd.func7 (atx l th m fu root fr fs gn k) ⟨fun h=>absurd (of_decide_eq_true h) (by omega),fun _=>ala⟩
 |j+1,k,hk,m,fu,root,fr,fs,gn,h,E,ps,po,T,hp,hE=>by
  have hr:=T.rng
  have hh:=T.small (by omega)
  obtain⟨l1,l2⟩:=yd T.holds T.inv.nd (by omega) ByteArray.empty
  rw[filter_all]at l2
  refine Lf.go hz hX lN Tryd.func7 (atx l th m fu root fr fs gn k) ⟨fun _=>⟨rfl,rfl,rfl,rfl,rfl,rfl,rfl,rfl,T.ok.d,hr,by omega,by omega,rfl,rfl,T.ok.d,T.ok.fr,hr, ?_⟩,fun h=>absurd (of_decide_eq_false h) (by omega)⟩
  rcases am3 (key:=sU (el l k)) (op:=stOp (sF (el l k)) (sG (el l k))) T hh with⟨a,b,c,h',ps',po',G⟩|⟨m',fK,e,a,b,c⟩
  ·have w4:=aqM (stOp (sF (el l k)) (sG (el l k)))
   have hE':=adS (E:=E) (key:=sU (el l k)) (op:=stOp (sF (el l k)) (sG (el l k)))
   have hE2:(lP (sU (el l k)) (stOp (sF (el l k)) (sG (el l k))) E).length≤E.length+1:=by
    refine Nat.le_trans hE' ?_
    unfold stOp;split<;>simp
   have G2:=G.po
   have ih:=nY hX hz hl j (k+1) (by omega) G.ti (by omega) (by omega)
   refine aty hX hz l1 T.ok.fr (fun h=> ?_) (fun h=> ?_) ?_
   ·exact absurd (a.symm.trans h) (by decide)
   ·exact absurd (a.symm.trans h) (by decide)
   ·refine Lf.go hz hX lN Tryd.func7 (akv l th _ _ _ _ _ _ k root fs fr _ _) ⟨fun _=>⟨inI (by omega) (by omega),ih⟩,fun h=> ?_⟩
    exact absurd (beq_iff_eq.2 a) (by have h:_=false:=h;intro h2;exact Bool.false_ne_true (h.symm.trans h2))
  ·have c0:do0 th (sF (el l k)) (sU (el l k)) (sG (el l k)) m fu root fr fs gn=m':=by unfold do0;rw[b]
   have c1:do1 th (sF (el l k)) (sU (el l k)) (sG (el l k)) m fu root fr fs gn=fK:=by unfold do1;rw[b]
   have cR:doR th (sF (el l k)) (sU (el l k)) (sG (el l k)) m fu root fr fs gn=root:=by unfold doR;rw[b]
   have c2:do2 th (sF (el l k)) (sU (el l k)) (sG (el l k)) m fu root fr fs gn=fr:=by unfold do2;rw[b]
   have c3:do3 th (sF (el l k)) (sU (el l k)) (sG (el l k)) m fu root fr fs gn=fs:=by unfold do3;rw[b]
   have c4:do4 th (sF (el l k)) (sU (el l k)) (sG (el l k)) m fu root fr fs gn=gn:=by unfold do4;rw[b]
   have cX:doX th (sF (el l k)) (sU (el l k)) (sG (el l k)) m fu root fr fs gn=e:=by unfold doX;rw[b]
   have T2:=T.eJ c.d c.rd
   obtain⟨q1,q2⟩:=yd T2.holds T2.inv.nd (by omega) ByteArray.empty
   rw[filter_all]at q2
   have ih:=nY hX hz hl j (k+1) (by omega) T2 (by omega) (by omega)
   show Safe P 7 X KT (aku l th (do0 th (sF (el l k)) (sU (el l k)) (sG (el l k)) m fu root fr fs gn) (do1 th (sF (el l k)) (sU (el l k)) (sG (el l k)) m fu root fr fs gn) (doR th (sF (el l k)) (sU (el l k)) (sG (el l k)) m fu root fr fs gn) (do2 th (sF (el l k)) (sU (el l k)) (sG (el l k)) m fu root fr fs gn) (do3 th (sF (el l k)) (sU (el l k)) (sG (el l k)) m fu root fr fs gn) (do4 th (sF (el l k)) (sU (el l k)) (sG (el l k)) m fu root fr fs gn) k root fs fr (lsF th m root ByteArray.empty) (lsE th m root ByteArray.empty) (doX th (sF (el l k)) (sU (el l k)) (sG (el l k)) m fu root fr fs gn))
   rw[c0,c1,cR,c2,c3,c4,cX,l2]
   refine aty hX hz l1 T.ok.fr (fun h=> ?_) (fun h=> ?_) ?_
   ·rcases c.how with⟨_,x⟩|⟨_,⟨x,_⟩|⟨_,x⟩|⟨x,_⟩⟩
    ·rw[x]at h;cases h
    ·rw[x]at h;cases h
    ·omega
    ·rw[x]at h;cases h
   ·rcases c.how with⟨_,x⟩|⟨_,⟨x,_⟩|⟨x,_⟩|⟨_,x⟩⟩
    ·rw[x]at h;cases h
    ·rw[x]at h;cases h
    ·rw[x]at h;cases h
    ·exact x
   ·have done:aD ((k:Int)+1):=inI (by omega) (by omega)
    refine Lf.go hz hX lN Tryd.func7 (akv l th m' fK root fr fs gn k root fs fr E e) ⟨fun h=>absurd (beq_iff_eq.1 h) a,fun _=>⟨rfl,rfl,T2.ok.d,hr,rfl,rfl,fun h=> ?_,fun _=>⟨rfl,rfl,fun h=> ?_,fun _=>⟨rfl,rfl,fun h=> ?_,fun _=>⟨fun h=> ?_,fun _=>⟨?_, ?_,fun h=>(by cases h),fun _=>⟨done,ih⟩⟩⟩⟩⟩⟩⟩
    ·exact absurd rfl (bne_iff_ne.1 h)
    ·rw[decide_eq_true rfl]at h;cases h
    ·rw[decide_eq_true rfl]at h;cases h
    ·exact absurd q1 (bne_iff_ne.1 h)
    ·rw[q2,filter_all]
    ·omega
theorem acb:dd P Bx.ct 7 [bm,sk,.b (.row (.ad mi) 32),bm] [cv] (fun _=>[]) (fun _=>(true,())):=by
 refine aq Tryd.func7 (by kernel_rfl) (by kernel_rfl) ?_
 rintro⟨(iQ:Int),(free:List Int),(l:List (CL mi)),(aca:Int),⟨⟩⟩ ⟨_,_,(hl0:l.length≤maxLen),_⟩ _ X hX hz
 show Safe P 7 X KT _
 have hlen:l.length≤9223372036854775807:=by unfold maxLen at hl0;omega
 have sc:=yb iQ
 have hd:Ds.bU (cq (lM iQ)) [] (-1):=Ds.ais (by omega)
 refine Lf.go hz hX lN Tryd.func7 (auY iQ free l aca) ⟨fun h=>(by cases h),fun _=>⟨rfl,rfl,hlen,fun _=>y9,fun hl=>⟨fun _=>y9,fun _=>⟨rfl,rfl,⟨by omega,by omega⟩,fun h=>(by cases h),fun _=>⟨rfl,rfl,hd,fun _=>⟨by decide,rfl,rfl, ?_⟩,fun _=> ?_⟩⟩⟩⟩⟩
 ·have hd2:Ds.bU (cq (lM iQ)) [] (Ds.fuF (-1) (aca.tmod 400)):=Ds.arB hd (by have:=Int.tmod_lt_of_pos aca (show(0:Int)<400 by decide);omega)
  exact nY hX hz (by omega) l.length 0 (by omega) (TI.start hd2 (Bx.ajm free).1) (by omega) (Nat.le_refl _)
 ·exact nY hX hz (by omega) l.length 0 (by omega) (TI.start hd (Bx.ajm free).1) (by omega) (Nat.le_refl _)
end Ts
