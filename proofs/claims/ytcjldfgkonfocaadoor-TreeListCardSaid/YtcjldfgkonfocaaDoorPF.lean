/- Lemmas: M9, M10, M11, M12, M13, M14, M15, N22, N23, M17, M18, F_list. -/
import Derived.Test.YtcjldfgkonfocaaDoorPE
namespace Ts
open Go Go.Sx Go.Proofs Lf
theorem ab4{h:Nat}{Q:List (Kd h)}{key:ByteArray}(hQ:Q≠[])(hb:bO Q=Q)(jO:gm (Q.map (cH h))=true):
 ∃A k B,Q=A++k::B∧(aS (Q.map (cH h)) key).toNat=A.length∧slt key k.1=false∧(∀b∈B,slt key b.1=true):=by
 have hs:=apz jO
 have hn:l9 (Q.map (cH h))≠[]:=by cases Q with|nil=>exact absurd rfl hQ|cons q r=>simp
 obtain⟨p,e,hp,h0,h1⟩:=u7 (ks:=l9 (Q.map (cH h))) (key:=key) hs hn
 have hl:(l9 (Q.map (cH h))).length=Q.length:=by simp
 rw[hl]at hp h1
 have ek:∀i,i<Q.length→(l9 (Q.map (cH h))).getD i ByteArray.empty=(Q.getD i (ByteArray.empty,Q.head hQ |>.2)).1:=fun i hi=>by
  rw[bd (by simpa using hi),bd hi];simp[cH]
 refine⟨Q.take p,Q[p],Q.drop (p+1), ?_, ?_, ?_,fun b hb=> ?_⟩
 ·rw[List.getElem_cons_drop,List.take_append_drop]
 ·unfold aS
  rw[e,List.length_take,Int.toNat_natCast]
  omega
 ·rcases h0 with h0|h0
  ·subst h0
   have:Q[0].1=ByteArray.empty:=by
    cases Q with
    |nil=>exact absurd rfl hQ
    |cons q r=>
     simp only[bO,List.cons.injEq]at hb
     show q.1=_
     rw[←hb.1]
   rw[this];exact ib _
  ·rw[ek p hp,bd hp]at h0;exact h0
 ·obtain⟨i,hi,rfl⟩:=List.getElem_of_mem hb
  rw[List.length_drop]at hi
  have:=h1 (p+1+i) (by omega) (by omega)
  rw[ek _ (by omega),bd (by omega)]at this
  rw[List.getElem_drop];exact this
theorem akn{P x y a b F n m:Nat}(c:Nat)(h1:F+(n - 1)*(81*P)≤m+c)(hn:n≤2)(hz:(n≤1→y≤x)∧(n≤2→y≤x+27)):3*P*(19+y)+(a+F+b)≤3*P*(19+x)+(a+m+b)+c:=by
 have k:3*P*(19+y)≤3*P*(19+x)+(n - 1)*(81*P):=by
  rcases Nat.lt_or_ge 1 n with h|h
  ·have e:n=2:=by omega
   subst e
   have:=Nat.mul_le_mul_left (3*P) (show 19+y≤(19+x)+27 from by have:=hz.2 (Nat.le_refl _);omega)
   rw[Nat.mul_add (3*P) (19+x) 27]at this
   omega
  ·have:=Nat.mul_le_mul_left (3*P) (show 19+y≤19+x from by have:=hz.1 h;omega)
   omega
 omega
theorem ag6{P x a b F m:Nat}(c:Nat)(h1:F+(2 - 1)*(81*P)≤m+c)(hx:73≤x):3*P*38+(a+F+b)+(2 - 1)*(81*(3*P))≤3*P*(19+x)+(a+m+b)+c:=by
 have:=Nat.mul_le_mul_left (3*P) (show 92≤19+x from by omega)
 omega
theorem ab5{th:Th}{key:ByteArray}{op:Option ByteArray}(hk:1≤key.size∧key.size≤24)(hv:∀v,op=some v→v.size≤100):∀(h:Nat) {s:S5} {t:TN h} {f:Nat} {deep:Int},xx th s→rep th s.m h t→py h t→(∀p∈nZ h t,¬In s.fr p)→h<f→deep+(h:Int)≤16→
 adR th key op s (cS th key op f s (pg h t) deep) h (dC h t) (nZ h t) (sQ h t) (cL th key op f s (pg h t) deep) (cE' th key op f s (pg h t) deep)
 |0,s,t,f,deep,ho,hr,ht,hp,hf,hd=>by
  cases f with
  |zero=>omega
  |succ f=>exact akm hk hv ho hr ht (by omega)
 |h+1,s,t,f,deep,ho,hr,ht,hp,hf,hd=>by
  cases f with
  |zero=>omega
  |succ f=>
  obtain⟨n,Q⟩:=t
  obtain⟨hr1,wA⟩:=(show Rd th s.m n false [] (Q.map (cH h))∧∀k∈Q,rep th s.m h k.2 from hr)
  obtain⟨hQ,hQb,jO,bF,zZ,hT⟩:=(show Q≠[]∧bO Q=Q∧gm (Q.map (cH h))=true∧l4 h Q≤254∧abH h Q∧∀k∈Q,py h k.2 from ht)
  obtain⟨e1,e2,e3,e4⟩:=hr1.nd (deep:=deep) (by omega)
  obtain⟨A,k,B,eQ,ep,yQ,qK⟩:=ab4 (key:=key) hQ hQb jO
  have b9:Q.map (cH h)≠[]:=by cases Q with|nil=>exact absurd rfl hQ|cons q r=>simp
  have egd:(Q.map (cH h)).getD A.length dB=cH h k:=by rw[eQ];simp[List.getD]
  have etk:(Q.map (cH h)).take A.length=A.map (cH h):=by rw[eQ];simp
  have edp:(Q.map (cH h)).drop (A.length+1)=B.map (cH h):=by
   rw[eQ,List.map_append,List.map_cons,←List.drop_drop]
   have e:(A.map (cH h)++cH h k::B.map (cH h)).drop A.length=cH h k::B.map (cH h):=by
    have:=List.drop_left (l₁:=A.map (cH h)) (l₂:=cH h k::B.map (cH h))
    rw[List.length_map]at this
    exact this
   rw[e];rfl
  have epg:bJ h Q=bJ h A++(nZ h k.2++bJ h B):=by rw[eQ,qA,jE]
  have hpn:¬In s.fr n:=hp n List.mem_cons_self
  have hpA:∀p∈bJ h A,¬In s.fr p:=fun p jW=>hp p (List.mem_cons_of_mem _ (show p∈bJ h Q from by rw[epg];exact List.mem_append_left _ jW))
  have hpk:∀p∈nZ h k.2,¬In s.fr p:=fun p jW=>hp p (List.mem_cons_of_mem _ (show p∈bJ h Q from by rw[epg];exact List.mem_append_right _ (List.mem_append_left _ jW)))
  have hpB:∀p∈bJ h B,¬In s.fr p:=fun p jW=>hp p (List.mem_cons_of_mem _ (show p∈bJ h Q from by rw[epg];exact List.mem_append_right _ (List.mem_append_right _ jW)))
  have kin:k∈Q:=by rw[eQ];exact List.mem_append_right _ List.mem_cons_self
  have ih:=ab5 hk hv h (s:=s) (t:=k.2) (f:=f) (deep:=deep+1) ho (wA k kin) (hT k kin) hpk (by omega) (by omega)
  have epk:(cH h k).2.1=pg h k.2:=rfl
  have ekk:(cH h k).1=k.1:=rfl
  show adR th key op s (cS th key op (f+1) s n deep) (h+1) (bH h Q) (n::bJ h Q) (3^(h+1)*(19+wQ (l4 h Q))+eF h Q) (cL th key op (f+1) s n deep) (cE' th key op (f+1) s n deep)
  have ed:vA th key op (f+1) s.m s.fu s.fr s.fs s.gn n deep=if cE' th key op f s (pg h k.2) (deep+1)≠0 then
   ((cS th key op f s (pg h k.2) (deep+1)).m,(cS th key op f s (pg h k.2) (deep+1)).fu,(cS th key op f s (pg h k.2) (deep+1)).fr,(cS th key op f s (pg h k.2) (deep+1)).fs,(cS th key op f s (pg h k.2) (deep+1)).gn,[],cE' th key op f s (pg h k.2) (deep+1))
   else gK (lvT (cS th key op f s (pg h k.2) (deep+1)) n).gn (bh th (lvT (cS th key op f s (pg h k.2) (deep+1)) n).m (lvT (cS th key op f s (pg h k.2) (deep+1)) n).fu (lvT (cS th key op f s (pg h k.2) (deep+1)) n).fr (lvT (cS th key op f s (pg h k.2) (deep+1)) n).fs false [] (A.map (cH h)++kK k.1 (cL th key op f s (pg h k.2) (deep+1))++B.map (cH h))):=by
   rw[fP,if_neg (by rw[e1];simp),if_neg (by rw[e2];simp),e4,if_neg b9,e3,ep,egd,etk,edp,epk,ekk]
   rfl
  generalize cS th key op f s (pg h k.2) (deep+1)=s2 at ih ed
  generalize cL th key op f s (pg h k.2) (deep+1)=l2 at ih ed
  generalize cE' th key op f s (pg h k.2) (deep+1)=x2 at ih ed
  rcases ih with⟨hx,hc,N,V,rest,k0,F,g⟩|⟨hx,N,V,g⟩
  ·rw[if_neg (by rw[hx];simp),g.l,agW,abI,←List.map_append,←List.map_append]at ed
   have hnN:n ∉ N:=fun hh=>hpn (g.qN.sub n hh)
   have l1:qC th s (lvT s2 n) N (V++[n]):=by
    have:=eJ g.qN (adK g.qN.ok n) (fun p jW=>by rw[List.mem_singleton.1 jW];exact hnN)
    rw[List.append_nil]at this
    exact this
   have ho3:=l1.ok
   obtain⟨j1,j2,j3,j4,j5,j6⟩:=ag5 (th:=th) (m:=(lvT s2 n).m) (A:=A) (B:=B) (F:=F) (k:=k) (key:=key) (op:=op) (by rw[←eQ];exact hQb) (by rw[←eQ];exact jO) (by rw[←eQ];exact zZ) (by rw[←eQ];exact hT)
    (fun x hx=>g.qN.rep h (wA x (by rw[eQ];exact List.mem_append_left _ hx)) fun p jW=>hpA p (List.mem_flatMap.2 ⟨x,hx,jW⟩))
    (fun x hx=>g.qN.rep h (wA x (by rw[eQ];exact List.mem_append_right _ (List.mem_cons_of_mem _ hx))) fun p jW=>hpB p (List.mem_flatMap.2 ⟨x,hx,jW⟩)) g.fr g.dC yQ qK
   rw[←eQ]at j3 j4 j5 j6
   have ate:aa ((A++bV k.1 F++B).map (cH h))=(bO (A++bV k.1 F++B)).map (cH h):=jF _
   have pgJ:bJ h (bO (A++bV k.1 F++B))=bJ h A++bJ h F++bJ h B:=by rw[x9,qA,qA,ajC]
   have atf:eF h (bO (A++bV k.1 F++B))=eF h A+eF h F+eF h B:=by rw[ya,qB,qB,ajD]
   have auO:eF h Q=eF h A+sQ h k.2+eF h B:=by rw[eQ,qB,gk];omega
   have atg:∀p∈bJ h (bO (A++bV k.1 F++B)),¬In (lvT s2 n).fr p:=fun p jW c8=>by
    obtain⟨i1,i2⟩:=(l1.fr p).1 c8
    rw[pgJ]at jW
    rcases List.mem_append.1 jW with jW|jW
    ·rcases List.mem_append.1 jW with jW|jW
     ·exact hpA p jW i1
     ·rcases List.mem_append.1 ((g.new.mem_iff).1 jW)with jW|jW
      ·exact i2 jW
      ·exact hpk p ((g.old.mem_iff).2 (List.mem_append_right _ jW)) i1
    ·exact hpB p jW i1
   have c1:cS th key op (f+1) s n deep=sS th (lvT s2 n) false [] ((A++bV k.1 F++B).map (cH h)):=by unfold cS pd pe pf qy rJ;rw[ed];rfl
   have c2:cL th key op (f+1) s n deep=sL th (lvT s2 n) false [] ((A++bV k.1 F++B).map (cH h)):=by unfold cL sP;rw[ed];rfl
   have c3:cE' th key op (f+1) s n deep=sE th (lvT s2 n) false [] ((A++bV k.1 F++B).map (cH h)):=by unfold cE' rK;rw[ed];rfl
   rw[c1,c2,c3]
   have old:(n::bJ h Q).Perm ((V++[n])++(rest++(bJ h A++bJ h B))):=by
    rw[epg]
    have a1:(bJ h A++(nZ h k.2++bJ h B)).Perm (nZ h k.2++(bJ h A++bJ h B)):=by
     rw[←List.append_assoc,←List.append_assoc]
     exact List.Perm.append_right _ List.perm_append_comm
    have a2:(nZ h k.2++(bJ h A++bJ h B)).Perm ((V++rest)++(bJ h A++bJ h B)):=List.Perm.append_right _ g.old
    have a3:=(List.Perm.cons n (a1.trans a2))
    refine a3.trans ?_
    rw[List.append_assoc,List.append_assoc V [n],List.singleton_append]
    exact List.perm_middle.symm
   have ath:(bJ h (bO (A++bV k.1 F++B))).Perm (N++(rest++(bJ h A++bJ h B))):=by
    rw[pgJ]
    have a1:(bJ h A++bJ h F++bJ h B).Perm (bJ h F++(bJ h A++bJ h B)):=by
     rw[←List.append_assoc]
     exact List.Perm.append_right _ List.perm_append_comm
    refine a1.trans ?_
    rw[←List.append_assoc N]
    exact List.Perm.append_right _ g.new
   by_cases hJ:bO (A++bV k.1 F++B)=[]
   ·have h0:(A++bV k.1 F++B)=[]:=by
     cases hx:A++bV k.1 F++B with
     |nil=>rfl
     |cons x r=>rw[hx]at hJ;cases hJ
    obtain⟨a,b,c⟩:=afq (l:=false) (es:=[]) (bs:=(A++bV k.1 F++B).map (cH h)) ho3 (by rw[h0];rfl)
    have p0:=ath
    rw[hJ]at p0
    refine .inl ⟨a,by rw[j4];exact hc,N++[],(V++[n])++[],rest++(bJ h A++bJ h B),ByteArray.empty,[],eJ l1 c (fun p hp=>by cases hp), ?_,b,afr, ?_, ?_, ?_,Nat.zero_le _,fun _=>Nat.zero_le _, ?_⟩
    ·rw[List.append_nil];have:=g.len;omega
    ·rw[←j3,hJ];rfl
    ·rw[List.append_nil];exact old
    ·rw[List.append_nil];exact p0
    ·show 0+(0 - 1)*_≤_
     rw[Nat.zero_sub,Nat.zero_mul];exact Nat.zero_le _
   ·have z27:=j6 g.two
    rcases afu ho3 ate hJ j1 atg j2 (by omega)with⟨a,N2,k2,F2,b,c,d,e,i,i2,i3⟩|⟨a,b⟩
    ·refine .inl ⟨a,by rw[j4];exact hc,N++N2,(V++[n])++[],rest++(bJ h A++bJ h B),k2,F2,eJ l1 b (fun p hp=>by cases hp), ?_,d,e,by rw[i,j3],by rw[List.append_nil];exact old, ?_, ?_,fun hn=> ?_, ?_⟩
     ·rw[List.length_append];have:=g.len;omega
     ·refine i2.trans ?_
      refine(List.Perm.append_left N2 ath).trans ?_
      rw[←List.append_assoc]
      exact List.Perm.append_right _ List.perm_append_comm
     ·rcases i3 with⟨_,i3,_⟩|⟨_,i3,_⟩<;>omega
     ·rcases i3 with⟨_,i3,_⟩|⟨i4,i3,_⟩
      ·omega
      ·have:=j5 (g.del hn);omega
     ·have gp:=g.sQ
      have e3:3^(h+1)=3*3^h:=by rw[Nat.pow_succ,Nat.mul_comm]
      rw[e3,auO]
      rcases i3 with⟨_,i4,i5⟩|⟨i6,i4,i5⟩
      ·rw[i5,i4,atf,e3,Nat.sub_self,Nat.zero_mul,Nat.add_zero]
       refine akn (opP op) gp g.two ⟨fun hl=> ?_,fun hl=> ?_⟩
       ·have:=j5 hl;unfold wQ;omega
       ·unfold wQ;omega
      ·have h2:F.length=2:=by
        rcases Nat.lt_or_ge 1 F.length with hl|hl
        ·have:=g.two;omega
        ·have:=j5 hl;omega
       rw[h2]at gp
       rw[i5,i4,atf,e3]
       exact ag6 (opP op) gp (by unfold wQ;omega)
    ·exact .inr ⟨a,akl l1 (by have:=g.len;omega) (fun p hp=>(old.mem_iff).2 (List.mem_append_left _ hp)) b⟩
  ·rw[if_pos hx]at ed
   have c1:cS th key op (f+1) s n deep=s2:=by unfold cS pd pe pf qy rJ;rw[ed]
   have c3:cE' th key op (f+1) s n deep=x2:=by unfold cE' rK;rw[ed]
   rw[c1,c3]
   refine .inr ⟨hx,N,V,g.qN,by have:=g.len;omega,fun p jW=>List.mem_cons_of_mem _ ?_, ?_⟩
   ·rw[epg];exact List.mem_append_right _ (List.mem_append_left _ (g.sub p jW))
   ·rcases g.how with⟨a,b⟩|a
    ·refine .inl ⟨a, ?_⟩
     have sAB:=zZ.1
     rw[eQ,List.pairwise_append]at sAB
     have eAk:∀x∈bH h A,slt x.1 key=true:=fun x hx=>by
      obtain⟨y,hy,hxy⟩:=List.mem_flatMap.1 hx
      exact eh (sAB.2.2 y hy k List.mem_cons_self x hxy) yQ
     have eBk:∀x∈bH h B,slt key x.1=true:=fun x hx=>by
      obtain⟨y,hy,hxy⟩:=List.mem_flatMap.1 hx
      exact eh (qK y hy) (zZ.2 y (by rw[eQ];exact List.mem_append_right _ (List.mem_cons_of_mem _ hy)) x hxy)
     rw[eQ,jD,fW,←List.append_assoc,afw eAk eBk]
     exact b
    ·exact .inr a
end Ts
namespace Ts
open Go Go.Sx Go.Proofs Lf
def aM(th:Th)(m:As)(root:Int)(h:Nat)(E:List En)(ps:List Int)(po:Nat):Prop:=
 (root=0∧h=0∧E=[]∧ps=[]∧po=0)∨∃t:TN h,root=pg h t∧2≤root∧root<1024∧rep th m h t∧py h t∧E=dC h t∧ps=nZ h t∧po=sQ h t
def tS(th:Th)(key:ByteArray)(op:Option ByteArray)(s:S5)(root:Int):S5:=
 ⟨wU th key op s.m s.fu root s.fr s.fs s.gn,wV th key op s.m s.fu root s.fr s.fs s.gn,wW th key op s.m s.fu root s.fr s.fs s.gn,abR th key op s.m s.fu root s.fr s.fs s.gn,abS th key op s.m s.fu root s.fr s.fs s.gn⟩
structure afz (th:Th) (key:ByteArray) (op:Option ByteArray) (s t:S5) (h:Nat) (old:List En) (ps:List Int) (po:Nat) (l:List Br) (N V rest:List Int) (k0:ByteArray) (h2:Nat) (F:List (Kd h2)):Prop where
 qN:qC th s t N V
 l:l=kK k0 (F.map (cH h2))
 fr:For th t.m h2 F
 dC:bH h2 F=kL key op old
 old:ps.Perm (V++rest)
 new:(bJ h2 F).Perm (N++rest)
 one:F.length≤1
 sQ:eF h2 F≤po+opP op
 hh:h2≤h+1
structure aqB (th:Th) (key:ByteArray) (op:Option ByteArray) (s t:S5) (h:Nat) (old:List En) (e:Int) (N V:List Int):Prop where
 qN:qC th s t N V
 len:N.length≤2*h+3
 how:(e=5∧ou key op old=5)∨(e=41∧∀p,In s.fr p→p∈N)∨(e=42∧t.fu=0)
def stC(c:Chg):S5:=⟨c.1,c.2.1,c.2.2.1,c.2.2.2.1,c.2.2.2.2.1⟩
theorem For.okB{th:Th}{m:As}{h:Nat}{F:List (Kd h)}(f:For th m h F):gm (F.map (cH h))=true:=by
 rw[gM]
 refine⟨fun b hb=> ?_, ?_⟩
 ·obtain⟨x,hx,rfl⟩:=List.mem_map.1 hb
  exact⟨f.key x hx,f.pg x hx⟩
 ·rw[List.pairwise_map]
  refine List.Pairwise.imp_of_mem (fun{a b} ha hb hab=> ?_) f.sep.1
  obtain⟨e,he⟩:=List.exists_mem_of_ne_nil _ (qz h (f.ok a ha))
  have a1:=hab e he
  have a2:=f.sep.2 a ha e he
  show slt a.1 b.1=true
  rcases fw a.1 e.1 with h1|h1|h1
  ·exact bT h1 a1
  ·rw[h1];exact a1
  ·rw[a2]at h1;cases h1
theorem ako{th:Th}{key:ByteArray}{op:Option ByteArray}(hk:1≤key.size∧key.size≤24)(hv:∀v,op=some v→v.size≤100){s:S5}{root:Int}{h:Nat}{E:List En}{ps:List Int}{po:Nat}(ho:xx th s)(H:aM th s.m root h E ps po)(hp:∀p∈ps,¬In s.fr p)(hh:h≤15):
 adR th key op s (tS th key op s root) h E ps po (vT th key op s.m s.fu root s.fr s.fs s.gn) (vU th key op s.m s.fu root s.fr s.fs s.gn):=by
 rcases H with⟨h1,h2,h3,h4,h5⟩|⟨t,h1,h2,_,h3,h4,h5,h6,h7⟩
 ·subst h2 h3 h4 h5
  rcases afx key op []with hc|hc
  ·have e:iL th key op s.m s.fu root s.fr s.fs s.gn=gK s.gn (bh th s.m s.fu s.fr s.fs true (kL key op []) []):=by
    unfold iL
    rw[if_neg (by rw[h1];simp),if_neg (by rw[hc];simp),akk hc]
   have c1:tS th key op s root=sS th s true (kL key op []) []:=by unfold tS wU wV wW abR abS;rw[e];rfl
   have c2:vT th key op s.m s.fu root s.fr s.fs s.gn=sL th s true (kL key op []) []:=by unfold vT;rw[e];rfl
   have c3:vU th key op s.m s.fu root s.fr s.fs s.gn=sE th s true (kL key op []) []:=by unfold vU;rw[e];rfl
   rw[c1,c2,c3]
   exact afy hk hv rfl (by decide) (gN ho) (List.Perm.refl _) hc
  ·have e:iL th key op s.m s.fu root s.fr s.fs s.gn=(s.m,s.fu,s.fr,s.fs,s.gn,[],5):=by
    unfold iL
    rw[if_neg (by rw[h1];simp),if_pos (by rw[hc];simp),hc]
   have c1:tS th key op s root=s:=by unfold tS wU wV wW abR abS;rw[e]
   have c3:vU th key op s.m s.fu root s.fr s.fs s.gn=5:=by unfold vU;rw[e]
   rw[c1,c3]
   exact .inr ⟨by decide,[],[],gN ho,by simp,fun p hp=>(by cases hp),.inl ⟨rfl,hc⟩⟩
 ·subst h5 h6 h7
  have e:iL th key op s.m s.fu root s.fr s.fs s.gn=vA th key op 17 s.m s.fu s.fr s.fs s.gn (pg h t) 1:=by
   unfold iL
   rw[if_pos (by omega),h1]
  have g:=ab5 (op:=op) hk hv h (s:=s) (t:=t) (f:=17) (deep:=1) ho h3 h4 hp (by omega) (by omega)
  have c1:tS th key op s root=cS th key op 17 s (pg h t) 1:=by unfold tS wU wV wW abR abS;rw[e];rfl
  have c2:vT th key op s.m s.fu root s.fr s.fs s.gn=cL th key op 17 s (pg h t) 1:=by unfold vT;rw[e];rfl
  have c3:vU th key op s.m s.fu root s.fr s.fs s.gn=cE' th key op 17 s (pg h t) 1:=by unfold vU;rw[e];rfl
  rw[c1,c2,c3]
  exact g
theorem amY{th:Th}{key:ByteArray}{op:Option ByteArray}{s:S5}{h:Nat}{E:List En}{ps:List Int}{po:Nat}{c:Chg}(hp:∀p∈ps,¬In s.fr p)(H:adR th key op s (stC c) h E ps po c.2.2.2.2.2.1 c.2.2.2.2.2.2):
 ((z7 th c).2.2.2.2.2.2=0∧ou key op E=0∧∃N V rest k0 h2 F,afz th key op s (stC (z7 th c)) h E ps po (z7 th c).2.2.2.2.2.1 N V rest k0 h2 F)∨((z7 th c).2.2.2.2.2.2≠0∧∃N V,aqB th key op s (stC (z7 th c)) h E (z7 th c).2.2.2.2.2.2 N V):=by
 rcases H with⟨hx,hc,N,V,rest,k0,F,g⟩|⟨hx,N,V,g⟩
 ·have hlen:c.2.2.2.2.2.1.length=F.length:=by rw[g.l,vM,List.length_map]
  by_cases h2:F.length=2
  ·have hu:z7 th c=gK c.2.2.2.2.1 (bh th c.1 c.2.1 c.2.2.1 c.2.2.2.1 false [] c.2.2.2.2.2.1):=if_pos ⟨hx,by rw[hlen,h2];decide⟩
   have hb:aa c.2.2.2.2.2.1=F.map (cH h):=by
    rw[g.l,abI,jF,agX,g.fr.bare]
   have hpF:∀p∈bJ h F,¬In (stC c).fr p:=fun p jW c8=>by
    obtain⟨i1,i2⟩:=(g.qN.fr p).1 c8
    rcases List.mem_append.1 ((g.new.mem_iff).1 jW)with jW|jW
    ·exact i2 jW
    ·exact hp p ((g.old.mem_iff).2 (List.mem_append_right _ jW)) i1
   have bF:l4 h F≤55:=by
    have e:=adJ F
    have e2:gX (F.map (cH h))≤54:=by
     match F,h2,g.fr with
     |[a,b],_,f=>
      have k1:=f.key a List.mem_cons_self
      have k2:=f.key b (List.mem_cons_of_mem _ List.mem_cons_self)
      rw[List.map_cons,List.map_cons,c7,c7]
      show oZ (cH h a)+(oZ (cH h b)+0)≤54
      have e3:oZ (cH h a)=3+(a.1.size:Int):=rfl
      have e4:oZ (cH h b)=3+(b.1.size:Int):=rfl
      omega
    omega
   have b9:F≠[]:=fun e=>by rw[e]at h2;cases h2
   have hw:=afu (s:=stC c) (bs:=c.2.2.2.2.2.1) g.qN.ok hb b9 g.fr hpF g.fr.okB (by omega)
   have c1:stC (z7 th c)=sS th (stC c) false [] c.2.2.2.2.2.1:=by rw[hu];rfl
   have c2:(z7 th c).2.2.2.2.2.1=sL th (stC c) false [] c.2.2.2.2.2.1:=by rw[hu];rfl
   have c3:(z7 th c).2.2.2.2.2.2=sE th (stC c) false [] c.2.2.2.2.2.1:=by rw[hu];rfl
   rw[c1,c2,c3]
   rcases hw with⟨a,N2,k2,F2,b,cc,d,e,i,i2,i3⟩|⟨a,N2,b1,b2,b3⟩
   ·refine .inl ⟨a,hc,N++N2,V++[],rest,k2,h+1,F2,eJ g.qN b (fun p hp=>by cases hp),d,e,by rw[i,g.dC],by rw[List.append_nil];exact g.old, ?_, ?_, ?_,Nat.le_refl _⟩
    ·refine i2.trans ?_
     refine(List.Perm.append_left N2 g.new).trans ?_
     rw[←List.append_assoc]
     exact List.Perm.append_right _ List.perm_append_comm
    ·rcases i3 with⟨_,i3,_⟩|⟨i3,_⟩<;>omega
    ·have gp:=g.sQ
     rw[h2]at gp
     rcases i3 with⟨_,_,i3⟩|⟨i3,_⟩
     ·have o0:wQ (l4 h F)=0:=by unfold wQ;omega
      rw[i3,o0,Nat.pow_succ]
      omega
     ·omega
   ·refine .inr ⟨a,N++N2,V++[],eJ g.qN b1 (fun p hp=>by cases hp),by rw[List.length_append];have:=g.len;omega,.inr (b3.imp (fun x=>⟨x.1,fun p jW=> ?_⟩) id)⟩
    by_cases hpn:p∈N
    ·exact List.mem_append_left _ hpn
    ·exact List.mem_append_right _ (x.2 p ((g.qN.fr p).2 ⟨jW,hpn⟩))
  ·have hu:z7 th c=c:=rO (fun a=>h2 (by have:=a.2;rw[hlen]at this;have:=g.two;omega))
   rw[hu]
   have gp:=g.sQ
   have g2:=g.two
   refine .inl ⟨hx,hc,N,V,rest,k0,h,F,g.qN,g.l,g.fr,g.dC,g.old,g.new,by omega, ?_,by omega⟩
   have:F.length - 1=0:=by omega
   rw[this,Nat.zero_mul,Nat.add_zero]at gp
   exact gp
 ·have hu:z7 th c=c:=rO (fun a=>hx a.1)
  rw[hu]
  exact .inr ⟨hx,N,V,g.qN,by have:=g.len;omega,g.how⟩
theorem vZ{th:Th}:∀(h:Nat) {s:S5} {t:TN h} {f:Nat} {deep:Int},xx th s→rep th s.m h t→py h t→2≤pg h t∧pg h t<1024→h<f→deep+(h:Int)≤16→
 wT th s.m f s.fs s.gn (pg h t) deep=0∧∃(h2:Nat) (t2:TN h2) (W:List Int),wR th s.m f s.fs s.gn (pg h t) deep=pg h2 t2∧(2≤pg h2 t2∧pg h2 t2<1024)∧qC th s ⟨s.m,s.fu,s.fr,vR th s.m f s.fs s.gn (pg h t) deep,vS th s.m f s.fs s.gn (pg h t) deep⟩ [] W∧
  rep th s.m h2 t2∧py h2 t2∧dC h2 t2=dC h t∧(nZ h t).Perm (W++nZ h2 t2)∧sQ h2 t2≤sQ h t∧h2≤h
 |0,s,t,f,deep,ho,hr,ht,hp,hf,hd=>by
  cases f with
  |zero=>omega
  |succ f=>
   have dW:Rd th s.m (pg 0 t) true t.2 []:=hr
   obtain⟨e1,e2,e3,e4⟩:=dW.nd (deep:=deep) (by omega)
   have e:n6 th s.m (f+1) s.fs s.gn (pg 0 t) deep=(s.fs,s.gn,pg 0 t,0):=by rw[n6,if_neg (by rw[e1];simp),if_pos (.inl e2)]
   refine⟨by unfold wT;rw[e],0,t,[],by unfold wR;rw[e],hp, ?_,hr,ht,rfl,List.Perm.refl _,Nat.le_refl _,Nat.le_refl _⟩
   unfold vR vS;rw[e];exact gN ho
 |h+1,s,t,f,deep,ho,hr,ht,hp,hf,hd=>by
  cases f with
  |zero=>omega
  |succ f=>
   obtain⟨n,Q⟩:=t
   obtain⟨hr1,wA⟩:=(show Rd th s.m n false [] (Q.map (cH h))∧∀k∈Q,rep th s.m h k.2 from hr)
   obtain⟨hQ,hQb,jO,bF,zZ,hT⟩:=(show Q≠[]∧bO Q=Q∧gm (Q.map (cH h))=true∧l4 h Q≤254∧abH h Q∧∀k∈Q,py h k.2 from ht)
   obtain⟨e1,e2,e3,e4⟩:=hr1.nd (deep:=deep) (by omega)
   show wT th s.m (f+1) s.fs s.gn n deep=0∧∃(h2:Nat) (t2:TN h2) (W:List Int),wR th s.m (f+1) s.fs s.gn n deep=pg h2 t2∧(2≤pg h2 t2∧pg h2 t2<1024)∧qC th s ⟨s.m,s.fu,s.fr,vR th s.m (f+1) s.fs s.gn n deep,vS th s.m (f+1) s.fs s.gn n deep⟩ [] W∧
    rep th s.m h2 t2∧py h2 t2∧dC h2 t2=bH h Q∧(n::bJ h Q).Perm (W++nZ h2 t2)∧sQ h2 t2≤3^(h+1)*(19+wQ (l4 h Q))+eF h Q∧h2≤h+1
   by_cases h1:Q.length=1
   ·match Q,h1 with
    |[k],_=>
     have kin:k∈[k]:=List.mem_cons_self
     have e:n6 th s.m (f+1) s.fs s.gn n deep=n6 th s.m f (iW s.fs n) (o9 s.fs s.gn n) (pg h k.2) (deep+1):=by
      rw[n6,if_neg (by rw[e1];simp),if_neg (by rintro(a|a);rw[e2]at a;cases a;rw[e4]at a;exact a rfl),e4];rfl
     have l1:=adK ho n
     have pk:2≤pg h k.2∧pg h k.2<1024:=((gM.1 jO).1 (cH h k) (List.mem_map_of_mem kin)).2
     obtain⟨a,h2,t2,W,b,b2,c,d,d2,d3,d4,d5,d6⟩:=vZ h (s:=lvT s n) (t:=k.2) (f:=f) (deep:=deep+1) l1.ok (wA k kin) (hT k kin) pk (by omega) (by omega)
     refine⟨by unfold wT at a ⊢;rw[e];exact a,h2,t2,[n]++W,by unfold wR at b ⊢;rw[e];exact b,b2, ?_,d,d2, ?_, ?_, ?_,by omega⟩
     ·have:=eJ l1 c (fun p _=>List.not_mem_nil)
      unfold vR vS at this ⊢
      rw[e]
      exact this
     ·show dC h2 t2=dC h k.2++[]
      rw[List.append_nil,d3]
     ·show(n::(nZ h k.2++[])).Perm (n::(W++nZ h2 t2))
      rw[List.append_nil]
      exact d4.cons n
     ·show sQ h2 t2≤3^(h+1)*(19+wQ (l4 h [k]))+eF h [k]
      have:eF h [k]=sQ h k.2:=by rw[gk];rfl
      omega
   ·have e:n6 th s.m (f+1) s.fs s.gn n deep=(s.fs,s.gn,n,0):=by
     rw[n6,if_neg (by rw[e1];simp),if_pos (.inr (by rw[e4,List.length_map];exact h1))]
    refine⟨by unfold wT;rw[e],h+1,(n,Q),[],by unfold wR;rw[e];rfl,hp, ?_,hr,ht,rfl,List.Perm.refl _,Nat.le_refl _,Nat.le_refl _⟩
    unfold vR vS;rw[e];exact gN ho
end Ts
namespace Ts
open Go Go.Sx Go.Proofs Lf
structure Inv (F0:Int→Prop) (fr fs:Ws) (ps:List Int):Prop where
 nd:ps.Nodup
 cov:∀p,F0 p↔In fr p∨In fs p
 dis:∀p,In fr p→¬In fs p
 sub:∀p,In fs p→p∈ps
 top:∀p∈ps,F0 p→In fs p
structure TI (th:Th) (F0:Int→Prop) (m:As) (fu root:Int) (fr fs gn:Ws) (h:Nat) (E:List En) (ps:List Int) (po:Nat):Prop where
 ok:xx th ⟨m,fu,fr,fs,gn⟩
 gz:gn=Bx.bg
 f0:∀p,F0 p→2≤p∧Ds.uS th p=true
 holds:aM th m root h E ps po
 inv:Inv F0 fr fs ps
structure aqC (th:Th) (key:ByteArray) (op:Option ByteArray) (m:As) (fu:Int) (fr:Ws) (h:Nat) (E:List En) (m':As) (gj e:Int):Prop where
 d:Ds.bR th m' gj
 rd:∀p,¬In fr p→Ds.je th m' p=Ds.je th m p∧Ds.gS th m' p=Ds.gS th m p
 fu:fu= -1→gj= -1
 how:(e=5∧ou key op E=5)∨(e=41∧∃N:List Int,N.length≤2*h+3∧∀p,In fr p→p∈N)∨(e=42∧gj=0)
structure yh (th:Th) (F0:Int→Prop) (key:ByteArray) (op:Option ByteArray) (m:As) (fu:Int) (fr:Ws) (ps:List Int) (E:List En) (po:Nat) (r:Chs) (h':Nat) (ps':List Int) (yi:Nat):Prop where
 ti:TI th F0 r.1 r.2.1 r.2.2.1 r.2.2.2.1 r.2.2.2.2.1 r.2.2.2.2.2.1 h' (kL key op E) ps' yi
 po:yi≤po+opP op
 rd:∀p,¬F0 p→Ds.je th r.1 p=Ds.je th m p∧Ds.gS th r.1 p=Ds.gS th m p
 fu:fu= -1→r.2.1= -1
 new:∀p∈ps',p∈ps∨In fr p
theorem aoy:∀(h:Nat) {t:TN (h+1)},19*3^(h+1)≤sQ (h+1) t:=fun h t=>by
 have:3^(h+1)*19≤3^(h+1)*(19+wQ (l4 h t.2)):=Nat.mul_le_mul_left _ (by omega)
 rw[ajB]
 omega
theorem aM.aqD{th:Th}{m:As}{root:Int}{h:Nat}{E:List En}{ps:List Int}{po:Nat}(H:aM th m root h E ps po)(hp:po<19*3^15):h≤14:=by
 rcases H with⟨_,h2,_⟩|⟨t,_,_,_,_,_,_,_,h7⟩
 ·omega
 ·cases h with
  |zero=>omega
  |succ h=>
   have a:=aoy h (t:=t)
   rw[←h7]at a
   have b:3^(h+1)<3^15:=by omega
   have:=(Nat.pow_lt_pow_iff_right (show 1<3 by omega)).1 b
   omega
theorem TI.free{th:Th}{F0:Int→Prop}{m:As}{fu root:Int}{fr fs gn:Ws}{h:Nat}{E:List En}{ps:List Int}{po:Nat}(T:TI th F0 m fu root fr fs gn h E ps po):∀p∈ps,¬In fr p:=fun p hp hf=>T.inv.dis p hf (T.inv.top p hp ((T.inv.cov p).2 (.inl hf)))
theorem ab6{th:Th}{F0:Int→Prop}{s t u:S5}{N V W rest ps pk ps':List Int}(hf0:∀p,F0 p→2≤p∧Ds.uS th p=true)(hg:∀p,¬In s.gn p)(I:Inv F0 s.fr s.fs ps)(e1:qC th s t N V)(e2:qC th t u [] W)(o:ps.Perm (V++rest))(n:pk.Perm (N++rest))(l:pk.Perm (W++ps')):
 Inv F0 (Bx.cV .or u.fr u.gn) u.fs ps'∧xx th ⟨u.m,u.fu,Bx.cV .or u.fr u.gn,u.fs,Bx.bg⟩:=by
 have ho:=e2.ok
 have frI:∀p,In (Bx.cV .or u.fr u.gn) p↔In u.fr p∨In u.gn p:=fun p=>ar9 ho.fr ho.gn
 have ufr:∀p,In u.fr p↔In s.fr p∧p ∉ N:=fun p=>by rw[e2.fr,e1.fr];exact⟨fun x=>x.1,fun x=>⟨x,List.not_mem_nil⟩⟩
 have tfs:=e1.fs
 have ufs:∀p,In u.fs p↔In t.fs p∧p ∉ W:=fun p=>by rw[e2.fs];exact⟨fun x=>x.elim id (fun y=>by cases y),.inl⟩
 have ugn:∀p,In u.gn p↔(In s.fs p∧p∈V)∨(In t.fs p∧p∈W):=fun p=>by
  rw[e2.gn,e1.gn]
  exact⟨fun x=>x.elim (fun y=>y.elim (fun z=>absurd z (hg p)) .inl) .inr,fun x=>x.elim (fun y=>.inl (.inr y)) .inr⟩
 have ndo:=(o.nodup_iff).1 I.nd
 obtain⟨nV,nR,dVR⟩:=List.nodup_append.1 ndo
 have ndn:(N++rest).Nodup:=List.nodup_append.2 ⟨e1.nd,nR,fun a ha b hb hab=>by
  subst hab
  have hps:a∈ps:=(o.mem_iff).2 (List.mem_append_right _ hb)
  have hfr:=e1.sub a ha
  exact I.dis a hfr (I.top a hps ((I.cov a).2 (.inl hfr)))⟩
 have ndl:=(l.nodup_iff).1 ((n.nodup_iff).2 ndn)
 obtain⟨nW,nP,dWP⟩:=List.nodup_append.1 ndl
 have mem:∀p,(p∈N∨p∈rest)↔(p∈W∨p∈ps'):=fun p=>by
  rw[←List.mem_append,←List.mem_append,←n.mem_iff,l.mem_iff]
 have ati:∀p,F0 p↔In (Bx.cV .or u.fr u.gn) p∨In u.fs p:=fun p=>by
  rw[I.cov,frI,ufr,ugn,ufs,tfs]
  constructor
  ·rintro(a|a)
   ·by_cases hN:p∈N
    ·by_cases hW:p∈W
     ·exact .inl (.inr (.inr ⟨.inr hN,hW⟩))
     ·exact .inr ⟨.inr hN,hW⟩
    ·exact .inl (.inl ⟨a,hN⟩)
   ·by_cases hV:p∈V
    ·exact .inl (.inr (.inl ⟨a,hV⟩))
    ·by_cases hW:p∈W
     ·exact .inl (.inr (.inr ⟨.inl ⟨a,hV⟩,hW⟩))
     ·exact .inr ⟨.inl ⟨a,hV⟩,hW⟩
  ·rintro((a|a|⟨a|a,_⟩)|⟨a|a,_⟩)
   ·exact .inl a.1
   ·exact .inr a.1
   ·exact .inr a.1
   ·exact .inl (e1.sub p a)
   ·exact .inr a.1
   ·exact .inl (e1.sub p a)
 refine⟨⟨nP,ati,fun p hp hq=> ?_,fun p hp=> ?_,fun p hp hf=> ?_⟩,⟨ho.d,(Bx.nm (.inl rfl) ho.fr ho.gn).1,ho.fs,Bx.iK.1,fun p hp=>hf0 p ((ati p).2 (.inl hp))⟩⟩
 ·rw[frI,ufr,ugn]at hp
  rw[ufs,tfs]at hq
  obtain⟨hq,hw⟩:=hq
  rcases hp with⟨a,b⟩|⟨a,b⟩|⟨_,b⟩
  ·rcases hq with⟨c,_⟩|c
   ·exact I.dis p a c
   ·exact b c
  ·rcases hq with⟨_,c⟩|c
   ·exact c b
   ·exact I.dis p (e1.sub p c) a
  ·exact hw b
 ·rw[ufs,tfs]at hp
  obtain⟨hp,hw⟩:=hp
  have:p∈N∨p∈rest:=hp.elim (fun x=>.inr ((List.mem_append.1 ((o.mem_iff).1 (I.sub p x.1))).resolve_left x.2)) .inl
  exact((mem p).1 this).resolve_left hw
 ·rw[ufs,tfs]
  have hw:p ∉ W:=fun hw=>dWP p hw p hp rfl
  refine⟨?_,hw⟩
  rcases(mem p).2 (.inr hp)with a|a
  ·exact .inr a
  ·exact .inl ⟨I.top p ((o.mem_iff).2 (List.mem_append_right _ a)) hf,fun hv=>dVR p hv p a rfl⟩
theorem afA{th:Th}{F0:Int→Prop}{m:As}{fu root:Int}{fr fs gn:Ws}{h:Nat}{E:List En}{ps:List Int}{po:Nat}(T:TI th F0 m fu root fr fs gn h E ps po):∀p,¬In gn p:=fun p=>by rw[T.gz];exact jB
theorem aoz{h:Nat}{l:List Br}{k0:ByteArray}{F:List (Kd h)}(e:l=kK k0 (F.map (cH h))):l.length=F.length:=by rw[e,vM,List.length_map]
theorem amZ{th:Th}{F0:Int→Prop}{key:ByteArray}{op:Option ByteArray}{m:As}{fu root:Int}{fr fs gn:Ws}{h:Nat}{E:List En}{ps:List Int}{po:Nat}(T:TI th F0 m fu root fr fs gn h E ps po){c:Chg}(hx:c.2.2.2.2.2.2=0){N V rest:List Int}{k0:ByteArray}{h2:Nat}
 (g:afz th key op ⟨m,fu,fr,fs,gn⟩ (stC c) h E ps po c.2.2.2.2.2.1 N V rest k0 h2 []):∃r,jt th root fr fs gn c=r∧r.2.2.2.2.2.2=0∧∃h' ps' yi,yh th F0 key op m fu fr ps E po r h' ps' yi:=by
 have ed2:jt th root fr fs gn c=(c.1,c.2.1,0,Bx.cV .or c.2.2.1 c.2.2.2.2.1,c.2.2.2.1,Bx.bg,0):=by
  unfold jt nv
  rw[if_neg (fun a=>by rw[aoz g.l]at a;cases a.2),if_neg (by rw[hx];simp)]
 obtain⟨I,ok⟩:=ab6 T.f0 (afA T) T.inv g.qN (gN g.qN.ok) g.old (g.new) (ps':=[]) (by exact List.Perm.refl _)
 have hH:aM th c.1 0 0 (kL key op E) [] 0:=.inl ⟨rfl,rfl,g.dC.symm,rfl,rfl⟩
 have hrd:∀p,¬F0 p→Ds.je th c.1 p=Ds.je th m p∧Ds.gS th c.1 p=Ds.gS th m p:=fun p hp=>g.qN.rd p (fun hf=>hp ((T.inv.cov p).2 (.inl hf)))
 have hT:TI th F0 c.1 c.2.1 0 (Bx.cV .or c.2.2.1 c.2.2.2.2.1) c.2.2.2.1 Bx.bg 0 (kL key op E) [] 0:=⟨ok,rfl,T.f0,hH,I⟩
 exact⟨_,ed2,rfl,0,[],0,hT,Nat.zero_le _,hrd,g.qN.fu,fun p hp=>by cases hp⟩
theorem am0{th:Th}{F0:Int→Prop}{key:ByteArray}{op:Option ByteArray}{m:As}{fu root:Int}{fr fs gn:Ws}{h:Nat}{E:List En}{ps:List Int}{po:Nat}(T:TI th F0 m fu root fr fs gn h E ps po)(hh:h≤14){c:Chg}(hx:c.2.2.2.2.2.2=0){N V rest:List Int}{k0:ByteArray}{h2:Nat}{k:Kd h2}
 (g:afz th key op ⟨m,fu,fr,fs,gn⟩ (stC c) h E ps po c.2.2.2.2.2.1 N V rest k0 h2 [k]):∃r,jt th root fr fs gn c=r∧r.2.2.2.2.2.2=0∧∃h' ps' yi,yh th F0 key op m fu fr ps E po r h' ps' yi:=by
 have kin:k∈[k]:=List.mem_cons_self
 have atj:(c.2.2.2.2.2.1.getD 0 dB).2.1=pg h2 k.2:=by rw[g.l];rfl
 have hb2:h2≤15:=by have:=g.hh;omega
 obtain⟨a,h3,t3,W,b,b2,cc,d1,d2,d3,d4,d5,d6⟩:=vZ h2 (s:=stC c) (t:=k.2) (f:=17) (deep:=1) g.qN.ok (g.fr.rep k kin) (g.fr.ok k kin) (g.fr.pg k kin) (by omega) (by omega)
 have ed2:jt th root fr fs gn c=(c.1,c.2.1,pg h3 t3,Bx.cV .or c.2.2.1 (vS th c.1 17 c.2.2.2.1 c.2.2.2.2.1 (pg h2 k.2) 1),vR th c.1 17 c.2.2.2.1 c.2.2.2.2.1 (pg h2 k.2) 1,Bx.bg,0):=by
  unfold jt nv
  have b':wR th c.1 17 c.2.2.2.1 c.2.2.2.2.1 (pg h2 k.2) 1=pg h3 t3:=b
  have a':wT th c.1 17 c.2.2.2.1 c.2.2.2.2.1 (pg h2 k.2) 1=0:=a
  rw[if_pos ⟨hx,aoz g.l⟩,atj,a',b',if_neg (by simp)]
 have hn:(nZ h2 k.2).Perm (N++rest):=by
  have:=g.new
  rw[jE]at this
  exact(List.append_nil (nZ h2 k.2))▸this
 obtain⟨I,ok⟩:=ab6 T.f0 (afA T) T.inv g.qN cc g.old hn d4
 have hE:dC h3 t3=kL key op E:=by
  rw[d3,←g.dC,fW]
  exact(List.append_nil _).symm
 have hpo:sQ h3 t3≤po+opP op:=by
  have:=g.sQ
  rw[gk]at this
  have e0:eF h2 ([]:List (Kd h2))=0:=rfl
  omega
 have hH:aM th c.1 (pg h3 t3) h3 (kL key op E) (nZ h3 t3) (sQ h3 t3):=.inr ⟨t3,rfl,b2.1,b2.2,d1,d2,hE.symm,rfl,rfl⟩
 have hrd:∀p,¬F0 p→Ds.je th c.1 p=Ds.je th m p∧Ds.gS th c.1 p=Ds.gS th m p:=fun p hp=>g.qN.rd p (fun hf=>hp ((T.inv.cov p).2 (.inl hf)))
 have hT:TI th F0 c.1 c.2.1 (pg h3 t3) (Bx.cV .or c.2.2.1 (vS th c.1 17 c.2.2.2.1 c.2.2.2.2.1 (pg h2 k.2) 1)) (vR th c.1 17 c.2.2.2.1 c.2.2.2.2.1 (pg h2 k.2) 1) Bx.bg h3 (kL key op E) (nZ h3 t3) (sQ h3 t3):=⟨ok,rfl,T.f0,hH,I⟩
 exact⟨_,ed2,rfl,h3,nZ h3 t3,sQ h3 t3,hT,hpo,hrd,g.qN.fu,fun p hp=>(List.mem_append.1 ((hn.mem_iff).1 ((d4.mem_iff).2 (List.mem_append_right _ hp)))).elim (fun x=>.inr (g.qN.sub p x)) (fun x=>.inl ((g.old.mem_iff).2 (List.mem_append_right _ x)))⟩
theorem am1{th:Th}{F0:Int→Prop}{key:ByteArray}{op:Option ByteArray}{m:As}{fu root:Int}{fr fs gn:Ws}{h:Nat}{E:List En}{ps:List Int}{po:Nat}(T:TI th F0 m fu root fr fs gn h E ps po){c:Chg}(hx:c.2.2.2.2.2.2≠0){N V:List Int}(g:aqB th key op ⟨m,fu,fr,fs,gn⟩ (stC c) h E c.2.2.2.2.2.2 N V):
 ∃m' gj e,e≠0∧jt th root fr fs gn c=(m',gj,root,fr,fs,gn,e)∧aqC th key op m fu fr h E m' gj e:=by
 refine⟨c.1,c.2.1,c.2.2.2.2.2.2,hx, ?_,g.qN.ok.d,fun p hp=>g.qN.rd p hp,g.qN.fu, ?_⟩
 ·unfold jt nv
  rw[if_neg (fun a=>hx a.1),if_pos hx]
 ·exact g.how.imp id (fun x=>x.imp (fun y=>⟨y.1,N,g.len,y.2⟩) id)
theorem ag7{th:Th}{F0:Int→Prop}{key:ByteArray}{op:Option ByteArray}{m:As}{fu root:Int}{fr fs gn:Ws}{h:Nat}{E:List En}{ps:List Int}{po:Nat}(T:TI th F0 m fu root fr fs gn h E ps po)(hh:h≤14){c:Chg}
 (H2:(c.2.2.2.2.2.2=0∧ou key op E=0∧∃N V rest k0 h2 F,afz th key op ⟨m,fu,fr,fs,gn⟩ (stC c) h E ps po c.2.2.2.2.2.1 N V rest k0 h2 F)∨(c.2.2.2.2.2.2≠0∧∃N V,aqB th key op ⟨m,fu,fr,fs,gn⟩ (stC c) h E c.2.2.2.2.2.2 N V)):
 ((jt th root fr fs gn c).2.2.2.2.2.2=0∧ou key op E=0∧∃h' ps' yi,yh th F0 key op m fu fr ps E po (jt th root fr fs gn c) h' ps' yi)∨
 (∃m' gj e,e≠0∧jt th root fr fs gn c=(m',gj,root,fr,fs,gn,e)∧aqC th key op m fu fr h E m' gj e):=by
 rcases H2 with⟨hx,hc,N,V,rest,k0,h2,F,g⟩|⟨hx,N,V,g⟩
 ·left
  rcases F with _|⟨k,_|⟨k2,r⟩⟩
  ·obtain⟨r,e,h1,h2⟩:=amZ T hx g
   rw[e];exact⟨h1,hc,h2⟩
  ·obtain⟨r,e,h1,h2⟩:=am0 T hh hx g
   rw[e];exact⟨h1,hc,h2⟩
  ·exact absurd g.one (by simp)
 ·exact .inr (am1 T hx g)
theorem akp{th:Th}{F0:Int→Prop}{key:ByteArray}{op:Option ByteArray}{m:As}{fu root:Int}{fr fs gn:Ws}{h:Nat}{E:List En}{ps:List Int}{po:Nat}(T:TI th F0 m fu root fr fs gn h E ps po)(hk:1≤key.size∧key.size≤24)(hv:∀v,op=some v→v.size≤100)(hh:h≤14):
 ((ki th key op m fu root fr fs gn).2.2.2.2.2.2=0∧ou key op E=0∧∃h' ps' yi,yh th F0 key op m fu fr ps E po (ki th key op m fu root fr fs gn) h' ps' yi)∨
 (∃m' gj e,e≠0∧ki th key op m fu root fr fs gn=(m',gj,root,fr,fs,gn,e)∧aqC th key op m fu fr h E m' gj e):=
 ag7 T hh (amY (c:=iL th key op m fu root fr fs gn) T.free (ako (s:=⟨m,fu,fr,fs,gn⟩) (key:=key) (op:=op) hk hv T.ok T.holds T.free (by omega)))
end Ts
namespace Ts
open Go Go.Sx Go.Proofs Lf
def akq{σ:Type}(on:σ→Int→List En→σ):(h:Nat)→TN h→σ→σ
 |0,t,out=>on out t.1 t.2
 |h+1,t,out=>t.2.foldl (fun o k=>akq on h k.2 o) (on out t.1 [])
theorem ab7{X:List En}{key:ByteArray}(h:∀x∈X,x.1≠key):X.find? (ot key)=none:=by
 rw[List.find?_eq_none]
 intro x hx
 simp[ot,h x hx]
theorem am2{X Y Z:List En}{key:ByteArray}(h1:∀x∈X,slt x.1 key=true)(h2:∀z∈Z,slt key z.1=true):nj (X++Y++Z) key=nj Y key∧lB (X++Y++Z) key=lB Y key:=by
 have e1:=ab7 (X:=X) (key:=key) fun x hx e=>by have:=h1 x hx;rw[e,dz]at this;cases this
 have e2:=ab7 (X:=Z) (key:=key) fun x hx e=>by have:=h2 x hx;rw[e,dz]at this;cases this
 have e:(X++Y++Z).find? (ot key)=Y.find? (ot key):=by
  rw[List.find?_append,List.find?_append,e1,e2]
  cases Y.find? (ot key)<;>rfl
 unfold nj lB
 rw[e]
 exact⟨rfl,rfl⟩
theorem ab8{th:Th}{m:As}{key:ByteArray}:∀(h:Nat) {t:TN h} {f:Nat} {deep:Int},rep th m h t→py h t→h<f→deep+(h:Int)≤16→zR th m key f (pg h t) deep=(nj (dC h t) key,lB (dC h t) key,0)
 |0,t,f,deep,hr,ht,hf,hd=>by
  cases f with
  |zero=>omega
  |succ f=>
   have dW:Rd th m (pg 0 t) true t.2 []:=hr
   obtain⟨e1,e2,e3,e4⟩:=dW.nd (deep:=deep) (by omega)
   rw[zR,if_neg (by rw[e1];simp),if_pos e2,e3]
   rfl
 |h+1,t,f,deep,hr,ht,hf,hd=>by
  cases f with
  |zero=>omega
  |succ f=>
   obtain⟨n,Q⟩:=t
   obtain⟨hr1,wA⟩:=(show Rd th m n false [] (Q.map (cH h))∧∀k∈Q,rep th m h k.2 from hr)
   obtain⟨hQ,hQb,jO,bF,zZ,hT⟩:=(show Q≠[]∧bO Q=Q∧gm (Q.map (cH h))=true∧l4 h Q≤254∧abH h Q∧∀k∈Q,py h k.2 from ht)
   obtain⟨e1,e2,e3,e4⟩:=hr1.nd (deep:=deep) (by omega)
   obtain⟨A,k,B,eQ,ep,yQ,qK⟩:=ab4 (key:=key) hQ hQb jO
   have b9:Q.map (cH h)≠[]:=by cases Q with|nil=>exact absurd rfl hQ|cons q r=>simp
   have egd:(Q.map (cH h)).getD A.length dB=cH h k:=by rw[eQ];simp[List.getD]
   have kin:k∈Q:=by rw[eQ];exact List.mem_append_right _ List.mem_cons_self
   show zR th m key (f+1) n deep=(nj (bH h Q) key,lB (bH h Q) key,0)
   rw[zR,if_neg (by rw[e1];simp),if_neg (by rw[e2];simp),e4,if_neg b9,ep,egd]
   have ih:=ab8 (key:=key) h (f:=f) (deep:=deep+1) (wA k kin) (hT k kin) (by omega) (by omega)
   show zR th m key f (pg h k.2) (deep+1)=_
   rw[ih]
   have sAB:=zZ.1
   rw[eQ,List.pairwise_append]at sAB
   have eAk:∀x∈bH h A,slt x.1 key=true:=fun x hx=>by
    obtain⟨y,hy,hxy⟩:=List.mem_flatMap.1 hx
    exact eh (sAB.2.2 y hy k List.mem_cons_self x hxy) yQ
   have eBk:∀x∈bH h B,slt key x.1=true:=fun x hx=>by
    obtain⟨y,hy,hxy⟩:=List.mem_flatMap.1 hx
    exact eh (qK y hy) (zZ.2 y (by rw[eQ];exact List.mem_append_right _ (List.mem_cons_of_mem _ hy)) x hxy)
   have e:bH h Q=bH h A++dC h k.2++bH h B:=by rw[eQ,jD,fW,List.append_assoc]
   obtain⟨f1,f2⟩:=am2 (Y:=dC h k.2) eAk eBk
   rw[e,f1,f2]
theorem am3{th:Th}{m:As}{root:Int}{key:ByteArray}{h:Nat}{E:List En}{ps:List Int}{po:Nat}(H:aM th m root h E ps po)(hh:h≤15):gtT th m root key=if dq key none=false then(ByteArray.empty,false,1)else(nj E key,lB E key,0):=by
 unfold gtT
 split
 ·rfl
 ·rcases H with⟨h1,_,h3,_⟩|⟨t,h1,h2,_,h3,h4,h5,_⟩
  ·rw[if_pos h1,h3];rfl
  ·rw[if_neg (by omega),h1,ab8 h h3 h4 (by omega) (by omega),h5]
theorem ab9{σ:Type}{g:Ws→σ→Int→Ws×σ×Int}{h:Nat}{step:TN h→σ→σ}:∀(ks:List (Kd h)) {met:Ws} {out:σ},Bx.okW met→
 (∀k∈ks,∀(met:Ws) (out:σ),Bx.okW met→(∀p∈nZ h k.2,¬In met p)→∃sU,g met out (pg h k.2)=(sU,step k.2 out,0)∧Bx.okW sU∧∀p,In sU p↔In met p∨p∈nZ h k.2)→
 (∀p∈bJ h ks,¬In met p)→(bJ h ks).Nodup→∃sU,vX g (ks.map (cH h)) met out=(sU,ks.foldl (fun o k=>step k.2 o) out,0)∧Bx.okW sU∧∀p,In sU p↔In met p∨p∈bJ h ks
 |[],met,out,hw,hg,hm,hn=>⟨met,rfl,hw,fun p=>⟨.inl,fun x=>x.elim id (fun y=>by cases y)⟩⟩
 |k::r,met,out,hw,hg,hm,hn=>by
  rw[jE]at hm hn
  obtain⟨n1,n2,n3⟩:=List.nodup_append.1 hn
  obtain⟨m1,e1,w1,i1⟩:=hg k List.mem_cons_self met out hw (fun p hp=>hm p (List.mem_append_left _ hp))
  obtain⟨m2,e2,w2,i2⟩:=ab9 r (met:=m1) (out:=step k.2 out) w1 (fun k' hk'=>hg k' (List.mem_cons_of_mem _ hk')) (fun p hp c8=>by
   rcases(i1 p).1 c8 with a|a
   ·exact hm p (List.mem_append_right _ hp) a
   ·exact n3 p a p hp rfl) n2
  refine⟨m2, ?_,w2,fun p=> ?_⟩
  ·rw[List.map_cons,vX]
   show(if(g met out (pg h k.2)).2.2≠0 then _ else _)=_
   rw[e1,if_neg (by simp)]
   show vX g (r.map (cH h)) (g met out (pg h k.2)).1 (g met out (pg h k.2)).2.1=_
   rw[e1]
   exact e2
  ·rw[i2,i1,jE,List.mem_append,or_assoc]
theorem ag8{h:Nat}{ks:List (Kd h)}(hn:(bJ h ks).Nodup){k:Kd h}(hk:k∈ks):(nZ h k.2).Nodup:=by
 induction ks with
 |nil=>cases hk
 |cons a r ih=>
  rw[jE]at hn
  obtain⟨n1,n2,_⟩:=List.nodup_append.1 hn
  rcases List.mem_cons.1 hk with rfl|hk
  ·exact n1
  ·exact ih n2 hk
theorem aca{σ:Type}{on:σ→Int→List En→σ}{th:Th}{m:As}:∀(h:Nat) {t:TN h} {f:Nat} {deep:Int} {met:Ws} {out:σ},rep th m h t→py h t→(2≤pg h t∧pg h t<1024)→h<f→deep+(h:Int)≤16→Bx.okW met→(∀p∈nZ h t,¬In met p)→(nZ h t).Nodup→
 ∃sU,gO on th m f deep met out (pg h t)=(sU,akq on h t out,0)∧Bx.okW sU∧∀p,In sU p↔In met p∨p∈nZ h t
 |0,t,f,deep,met,out,hr,ht,hp,hf,hd,hw,hm,hn=>by
  cases f with
  |zero=>omega
  |succ f=>
   have dW:Rd th m (pg 0 t) true t.2 []:=hr
   obtain⟨e1,e2,e3,e4⟩:=dW.nd (deep:=deep) (by omega)
   have hnm:¬Bx.nk met (pg 0 t)=true:=hm _ (vF 0 t)
   refine⟨Bx.ej met (pg 0 t), ?_,(Bx.jU hw _).1,fun p=> ?_⟩
   ·rw[gO,if_neg (by rw[e1];simp),if_neg hnm,e4,e3];rfl
   ·rw[tl hw (by omega)]
    show _↔In met p∨p∈[t.1]
    rw[List.mem_singleton];rfl
 |h+1,t,f,deep,met,out,hr,ht,hp,hf,hd,hw,hm,hn=>by
  cases f with
  |zero=>omega
  |succ f=>
   obtain⟨n,Q⟩:=t
   obtain⟨hr1,wA⟩:=(show Rd th m n false [] (Q.map (cH h))∧∀k∈Q,rep th m h k.2 from hr)
   obtain⟨hQ,hQb,jO,bF,zZ,hT⟩:=(show Q≠[]∧bO Q=Q∧gm (Q.map (cH h))=true∧l4 h Q≤254∧abH h Q∧∀k∈Q,py h k.2 from ht)
   obtain⟨e1,e2,e3,e4⟩:=hr1.nd (deep:=deep) (by omega)
   have hp:2≤n∧n<1024:=hp
   have hm:∀p∈n::bJ h Q,¬In met p:=hm
   have hn:(n::bJ h Q).Nodup:=hn
   obtain⟨hn1,tJ⟩:=List.nodup_cons.1 hn
   have hnm:¬Bx.nk met n=true:=hm n List.mem_cons_self
   have iw:=fun p=>tl (k:=p) hw (n:=n) (by omega)
   obtain⟨m2,ee,w2,i2⟩:=ab9 (g:=gO on th m f (deep+1)) (step:=akq on h) Q (met:=Bx.ej met n) (out:=on out n []) (Bx.jU hw n).1
    (fun k hk met out hw hm=>by
      have hkn:(nZ h k.2).Nodup:=by
       exact ag8 tJ hk
      exact aca h (wA k hk) (hT k hk) ((gM.1 jO).1 (cH h k) (List.mem_map_of_mem hk)).2 (by omega) (by omega) hw hm hkn)
    (fun p jW c8=>by
      rcases(iw p).1 c8 with a|a
      ·exact hm p (List.mem_cons_of_mem _ jW) a
      ·exact hn1 (by rw[←a];exact jW)) tJ
   refine⟨m2, ?_,w2,fun p=> ?_⟩
   ·show gO on th m (f+1) deep met out n=_
    rw[gO,if_neg (by rw[e1];simp),if_neg hnm,e4,e3]
    exact ee
   ·rw[i2,iw]
    show _↔In met p∨p∈n::bJ h Q
    rw[List.mem_cons,or_assoc]
theorem akr(from_:ByteArray):∀(h:Nat) (t:TN h) (out:List En),akq (qH from_) h t out=out++(dC h t).filter (pr from_)
 |0,t,out=>rfl
 |h+1,t,out=>by
  obtain⟨n,Q⟩:=t
  show Q.foldl (fun o k=>akq (qH from_) h k.2 o) (out++[])=out++(bH h Q).filter (pr from_)
  rw[List.append_nil]
  clear n
  induction Q generalizing out with
  |nil=>simp[bH]
  |cons k r ih=>
   rw[List.foldl_cons,ih,akr from_ h,fW,List.filter_append,List.append_assoc]
theorem yj{th:Th}{m:As}{root:Int}{h:Nat}{E:List En}{ps:List Int}{po:Nat}(H:aM th m root h E ps po)(hn:ps.Nodup)(hh:h≤15)(from_:ByteArray):lsE th m root from_=0∧lsF th m root from_=E.filter (pr from_):=by
 have key:wkT (qH from_) th m root []=(E.filter (pr from_),0):=by
  unfold wkT
  rcases H with⟨h1,_,h3,_⟩|⟨t,h1,h2,h22,h3,h4,h5,h6,_⟩
  ·rw[if_pos h1,h3];rfl
  ·subst h5 h6
   obtain⟨sU,e,_⟩:=aca (on:=qH from_) h (f:=17) (deep:=1) (met:=Bx.bg) (out:=[]) h3 h4 (by omega) (by omega) (by omega) Bx.iK.1 (fun p _=>jB) hn
   rw[if_neg (by omega),h1,e,akr];rfl
 have e1:lsE th m root from_=0:=by unfold lsE;rw[key]
 refine⟨e1, ?_⟩
 unfold lsF
 rw[if_neg (by rw[e1];simp)]
 unfold lsT
 rw[key]
end Ts
namespace Ts
open Go Go.Sx Go.Proofs Lf
theorem rR{α:Type}[DecidableEq α]:∀{l m:List α},l.Nodup→(∀x∈l,x∈m)→l.length≤m.length
 |[],m,_,_=>Nat.zero_le _
 |a::l,m,hn,hs=>by
  obtain⟨h1,h2⟩:=List.nodup_cons.1 hn
  have ha:=hs a List.mem_cons_self
  have:=rR (l:=l) (m:=m.erase a) h2 fun x hx=>(List.mem_erase_of_ne (fun e=>h1 (by rw[←e];exact hx))).2 (hs x (List.mem_cons_of_mem _ hx))
  rw[List.length_erase_of_mem ha]at this
  have:=List.length_pos_of_mem ha
  rw[List.length_cons]
  omega
theorem acb{ws:Ws}{k:Nat}:k∈Bx.ajn ws↔k<1024∧Bx.bit ws k=true:=by
 unfold Bx.ajn Bx.fr
 rw[List.mem_filter,List.mem_range]
theorem adS(ws:Ws):(Bx.ajn ws).Nodup:=List.Pairwise.filter _ List.nodup_range
theorem zV{ws:Ws}(hw:Bx.okW ws){N:List Int}(h:∀p,In ws p→p∈N):gP ws≤N.length:=by
 unfold gP
 rw[←List.length_map (f:=fun(k:Nat)=>(k:Int))]
 refine rR ?_ fun x hx=> ?_
 ·unfold List.Nodup
  rw[List.pairwise_map]
  exact(adS ws).imp fun h e=>h (by omega)
 ·obtain⟨k,hk,rfl⟩:=List.mem_map.1 hx
  obtain⟨a,b⟩:=acb.1 hk
  exact h _ ((dR hw).2 ⟨⟨by omega,by omega⟩,by rw[Int.toNat_natCast];exact b⟩)
theorem am4{ws:Ws}(hw:Bx.okW ws){N:List Int}(hn:N.Nodup)(h:∀p∈N,In ws p):N.length≤gP ws:=by
 unfold gP
 rw[←List.length_map (f:=fun(k:Nat)=>(k:Int))]
 refine rR hn fun x hx=> ?_
 obtain⟨a,b⟩:=(dR hw).1 (h x hx)
 exact List.mem_map.2 ⟨x.toNat,acb.2 ⟨by omega,b⟩,by omega⟩
theorem ag9{a b c:Ws}(ha:Bx.okW a)(hb:Bx.okW b)(hc:Bx.okW c)(h:∀p,In c p↔In a p∨In b p)(hd:∀p,In a p→¬In b p):gP c=gP a+gP b:=by
 have bits:∀k,k<1024→Bx.bit c k=(Bx.bit a k||Bx.bit b k)∧¬(Bx.bit a k=true∧Bx.bit b k=true):=fun k hk=>by
  have hr:(0:Int)≤(k:Int)∧(k:Int)<1024:=⟨by omega,by omega⟩
  have e:∀{ws:Ws},Bx.okW ws→(In ws (k:Int)↔Bx.bit ws k=true):=fun hw=>by
   rw[dR hw,Int.toNat_natCast];exact⟨fun x=>x.2,fun x=>⟨hr,x⟩⟩
  have h1:=h (k:Int)
  have h2:=hd (k:Int)
  rw[e ha,e hb]at h1
  rw[e hc]at h1
  rw[e ha,e hb]at h2
  refine⟨?_,fun x=>h2 x.1 x.2⟩
  cases e1:Bx.bit a k<;>cases e2:Bx.bit b k<;>cases e3:Bx.bit c k<;>simp[e1,e2,e3]at h1 ⊢
 have key:∀m,m≤1024→(Bx.fr (Bx.bit c) m).length=(Bx.fr (Bx.bit a) m).length+(Bx.fr (Bx.bit b) m).length:=by
  intro m
  induction m with
  |zero=>intro _;rfl
  |succ m ih=>
   intro hm
   obtain⟨b1,b2⟩:=bits m (by omega)
   have:=ih (by omega)
   rw[Bx.qq,Bx.qq,Bx.qq,List.length_append,List.length_append,List.length_append,b1]
   cases e1:Bx.bit a m<;>cases e2:Bx.bit b m<;>simp[e1,e2]at b2 ⊢ <;>omega
 exact key 1024 (Nat.le_refl _)
theorem yk:∀(h:Nat) {t:TN h},py h t→(nZ h t).length*57≤(dC h t).length*57+sQ h t
 |0,t,ok=>by
  have:0<t.2.length:=List.length_pos_iff.2 ok.1
  show 1*57≤t.2.length*57+0
  omega
 |h+1,t,ok=>by
  obtain⟨n,Q⟩:=t
  obtain⟨hQ,_,_,_,_,hT⟩:=(show Q≠[]∧bO Q=Q∧gm (Q.map (cH h))=true∧l4 h Q≤254∧abH h Q∧∀k∈Q,py h k.2 from ok)
  show(n::bJ h Q).length*57≤(bH h Q).length*57+(3^(h+1)*(19+wQ (l4 h Q))+eF h Q)
  have a:57≤3^(h+1)*(19+wQ (l4 h Q)):=by
   have h1:3≤3^(h+1):=by rw[Nat.pow_succ];have:=Nat.one_le_pow h 3 (by omega);omega
   calc 57=3*19:=rfl
    _≤3^(h+1)*(19+wQ (l4 h Q)):=Nat.mul_le_mul h1 (by omega)
  have b:∀ks:List (Kd h),(∀k∈ks,py h k.2)→(bJ h ks).length*57≤(bH h ks).length*57+eF h ks:=by
   intro ks
   induction ks with
   |nil=>intro _;exact Nat.zero_le _
   |cons k r ih=>
    intro hk
    have h1:=yk h (hk k List.mem_cons_self)
    have h2:=ih fun x hx=>hk x (List.mem_cons_of_mem _ hx)
    rw[jE,fW,gk,List.length_append,List.length_append]
    omega
  have:=b Q hT
  rw[List.length_cons]
  omega
theorem acd{th:Th}{m:As}{root:Int}{h:Nat}{E:List En}{ps:List Int}{po:Nat}(H:aM th m root h E ps po):ps.length*57≤E.length*57+po∧19*3^h≤po+19:=by
 rcases H with⟨_,h2,h3,h4,h5⟩|⟨t,_,_,_,_,h4,h5,h6,h7⟩
 ·subst h2 h3 h4 h5;exact⟨Nat.le_refl _,by decide⟩
 ·subst h5 h6 h7
  refine⟨yk h h4, ?_⟩
  cases h with
  |zero=>show 19*3^0≤_;rw[Nat.pow_zero];omega
  |succ h=>have:=aoy h (t:=t);omega
theorem TI.cnt{th:Th}{F0:Int→Prop}{m:As}{fu root:Int}{fr fs gn:Ws}{h:Nat}{E:List En}{ps:List Int}{po:Nat}(T:TI th F0 m fu root fr fs gn h E ps po){f0:Ws}(hw:Bx.okW f0)(hf:∀p,In f0 p↔F0 p):gP f0=gP fr+gP fs∧gP fs≤ps.length:=
 ⟨ag9 T.ok.fr T.ok.fs hw (fun p=>by rw[hf,T.inv.cov]) T.inv.dis,zV T.ok.fs T.inv.sub⟩
theorem adT{E:List En}{key v:ByteArray}:(bt E key v).length≤E.length+1:=by rw[zB];split<;>omega
theorem adU{E:List En}{key:ByteArray}{op:Option ByteArray}:(kL key op E).length≤E.length+(match op with|some _=>1|none=>0):=by
 cases op with
 |some v=>exact adT
 |none=>exact List.length_filter_le _ _
end Ts
namespace Ts
open Go Go.Sx Go.Proofs Lf
structure auP (th:Th) (key:ByteArray) (op:Option ByteArray) (m:As) (fu:Int) (fr:Ws) (h:Nat) (E:List En) (m':As) (gj e:Int):Prop where
 d:Ds.bR th m' gj
 rd:∀p,¬In fr p→Ds.je th m' p=Ds.je th m p∧Ds.gS th m' p=Ds.gS th m p
 fu:fu= -1→gj= -1
 how:(dq key op=false∧e=1)∨(dq key op=true∧((e=5∧ou key op E=5)∨(e=41∧gP fr≤2*h+3)∨(e=42∧gj=0)))
theorem qI{key:ByteArray}{op:Option ByteArray}:dq key op=true↔(1≤key.size∧key.size≤24)∧∀v,op=some v→v.size≤100:=by
 cases op with
 |none=>
  simp only[dq,Bool.and_eq_true,decide_eq_true_eq]
  exact⟨fun h=>⟨h,fun v e=>by cases e⟩,fun h=>h.1⟩
 |some v=>
  simp only[dq,Bool.and_eq_true,decide_eq_true_eq]
  exact⟨fun h=>⟨h.1,fun w e=>by cases e;exact h.2⟩,fun h=>⟨h.1,h.2 v rfl⟩⟩
theorem am5{th:Th}{F0:Int→Prop}{key:ByteArray}{op:Option ByteArray}{m:As}{fu root:Int}{fr fs gn:Ws}{h:Nat}{E:List En}{ps:List Int}{po:Nat}(T:TI th F0 m fu root fr fs gn h E ps po)(hh:h≤14):
 ((sw th key op m fu root fr fs gn).2.2.2.2.2.2=0∧dq key op=true∧ou key op E=0∧∃h' ps' yi,yh th F0 key op m fu fr ps E po (sw th key op m fu root fr fs gn) h' ps' yi)∨
 (∃m' gj e,e≠0∧sw th key op m fu root fr fs gn=(m',gj,root,fr,fs,gn,e)∧auP th key op m fu fr h E m' gj e):=by
 by_cases hk:dq key op=true
 ·rw[zQ hk]
  obtain⟨k1,k2⟩:=qI.1 hk
  rcases akp (key:=key) (op:=op) T k1 k2 hh with⟨a,b,c⟩|⟨m',gj,e,a,b,c⟩
  ·exact .inl ⟨a,hk,b,c⟩
  ·refine .inr ⟨m',gj,e,a,b,c.d,c.rd,c.fu,.inr ⟨hk, ?_⟩⟩
   rcases c.how with x|⟨x,N,y,z⟩|x
   ·exact .inl x
   ·exact .inr (.inl ⟨x,Nat.le_trans (zV T.ok.fr z) y⟩)
   ·exact .inr (.inr x)
 ·have hk:dq key op=false:=by simpa using hk
  exact .inr ⟨m,fu,1,by decide,adN hk,T.ok.d,fun p _=>⟨rfl,rfl⟩,id,.inl ⟨hk,rfl⟩⟩
theorem ace{th:Th}{m m':As}:∀(h:Nat) {t:TN h},rep th m h t→(∀p∈nZ h t,Ds.je th m' p=Ds.je th m p∧Ds.gS th m' p=Ds.gS th m p)→rep th m' h t
 |0,t,hr,hp=>Rd.same hr (hp _ (vF 0 t))
 |h+1,t,hr,hp=>⟨Rd.same hr.1 (hp _ (vF (h+1) t)),fun k hk=>ace h (hr.2 k hk) fun p jW=>hp p (List.mem_cons_of_mem _ (List.mem_flatMap.2 ⟨k,hk,jW⟩))⟩
theorem aM.same{th:Th}{m m':As}{root:Int}{h:Nat}{E:List En}{ps:List Int}{po:Nat}(H:aM th m root h E ps po)(hp:∀p∈ps,Ds.je th m' p=Ds.je th m p∧Ds.gS th m' p=Ds.gS th m p):aM th m' root h E ps po:=by
 rcases H with H|⟨t,h1,h2,h22,h3,h4,h5,h6,h7⟩
 ·exact .inl H
 ·subst h6
  exact .inr ⟨t,h1,h2,h22,ace h h3 hp,h4,h5,rfl,h7⟩
theorem TI.er{th:Th}{F0:Int→Prop}{m m':As}{fu gj root:Int}{fr fs gn:Ws}{h:Nat}{E:List En}{ps:List Int}{po:Nat}(T:TI th F0 m fu root fr fs gn h E ps po)(hd:Ds.bR th m' gj)(hr:∀p,¬In fr p→Ds.je th m' p=Ds.je th m p∧Ds.gS th m' p=Ds.gS th m p):
 TI th F0 m' gj root fr fs gn h E ps po:=⟨⟨hd,T.ok.fr,T.ok.fs,T.ok.gn,T.ok.pg⟩,T.gz,T.f0,T.holds.same fun p hp=>hr p (T.free p hp),T.inv⟩
theorem aks{th:Th}{free:Ws}(hw:Bx.okW free):Bx.okW (opF th free):=(Bx.nm (.inr (.inl rfl)) hw (Bx.nm (.inr (.inr rfl)) (Bx.cK _).1 (Bx.cK _).1).1).1
theorem akt{th:Th}{free:Ws}(hw:Bx.okW free){p:Int}:In (opF th free) p↔In free p∧2≤p∧p<Ds.wg th:=by
 unfold opF
 rw[aqa hw (Bx.nm (.inr (.inr rfl)) (Bx.cK _).1 (Bx.cK _).1).1,ama (Bx.cK _).1 (Bx.cK _).1,vD,vD]
 constructor
 ·rintro⟨a,⟨b,c⟩,d⟩
  exact⟨a,by omega,c⟩
 ·rintro⟨a,b,c⟩
  have:=nq hw a
  exact⟨a,⟨by omega,c⟩,by omega⟩
theorem TI.start{th:Th}{m:As}{fu:Int}{free:Ws}(hd:Ds.bR th m fu)(hw:Bx.okW free):TI th (In (opF th free)) m fu 0 (opF th free) Bx.bg Bx.bg 0 [] [] 0:=by
 have f0:∀p,In (opF th free) p→2≤p∧Ds.uS th p=true:=fun p hp=>by
  obtain⟨_,a,b⟩:=(akt hw).1 hp
  exact⟨a,Ds.fO.2 ⟨by omega,b⟩⟩
 exact⟨⟨hd,aks hw,Bx.iK.1,Bx.iK.1,f0⟩,rfl,f0,.inl ⟨rfl,rfl,rfl,rfl,rfl⟩,⟨List.nodup_nil,fun p=>⟨.inl,fun x=>x.elim id (fun y=>absurd y jB)⟩,fun p _=>jB,fun p hp=>absurd hp jB,fun p hp=>by cases hp⟩⟩
theorem TI.rng{th:Th}{F0:Int→Prop}{m:As}{fu root:Int}{fr fs gn:Ws}{h:Nat}{E:List En}{ps:List Int}{po:Nat}(T:TI th F0 m fu root fr fs gn h E ps po):0≤root∧root≤65536:=by
 rcases T.holds with⟨h1,_⟩|⟨t,_,h2,h3,_⟩<;>omega
theorem TI.small{th:Th}{F0:Int→Prop}{m:As}{fu root:Int}{fr fs gn:Ws}{h:Nat}{E:List En}{ps:List Int}{po:Nat}(T:TI th F0 m fu root fr fs gn h E ps po)(hp:po≤100000):h≤14:=T.holds.aqD (by have:19*3^15=272629233:=rfl;omega)
end Ts
namespace Ts
open Go Go.Sx Go.Proofs Lf
def okK(e:En):Prop:=1≤e.1.size∧e.1.size≤24∧e.2.1.size≤100
def v7(l:List En):Prop:=l.Pairwise fun a b=>slt a.1 b.1=true
def wY(key:ByteArray)(op:Option ByteArray)(E:List En):Int:=if dq key op=true then ou key op E else 1
theorem aku{es:List En}(h:gW (bu es)):v7 es:=by
 refine List.pairwise_iff_getElem.2 fun i j hi hj kb=> ?_
 have:=h i j kb (by unfold bu;rw[List.length_map];exact hj)
 simpa[bu,List.getD,hi,hj]using this
theorem akv{es:List En}(h:v7 es):gW (bu es):=by
 intro i j kb hj
 have tY:j<es.length:=by unfold bu at hj;rwa[List.length_map]at hj
 have zX:i<es.length:=by omega
 have:=List.pairwise_iff_getElem.1 h i j zX tY kb
 simpa[bu,List.getD,zX,tY]using this
theorem aqE{a b c:ByteArray}(h1:slt a b=true)(h2:slt c b=false):slt a c=true:=by
 rcases fw b c with h|h|h
 ·exact bT h1 h
 ·rw[←h];exact h1
 ·rw[h]at h2;cases h2
theorem afB:∀(h:Nat) {t:TN h},py h t→(∀e∈dC h t,okK e)∧v7 (dC h t)
 |0,t,ok=>by
  obtain⟨a,b⟩:=vJ.1 ok.2.1
  exact⟨a,aku b⟩
 |h+1,t,ok=>by
  obtain⟨_,_,_,_,⟨s1,s2⟩,h6⟩:=ok
  rw[x8]
  have key:∀ks:List (Kd h),(ks.Pairwise fun a b=>∀e∈dC h a.2,slt e.1 b.1=true)→(∀k∈ks,∀e∈dC h k.2,slt e.1 k.1=false)→(∀k∈ks,py h k.2)→(∀e∈bH h ks,okK e)∧v7 (bH h ks):=by
   intro ks
   induction ks with
   |nil=>intro _ _ _;exact⟨fun e he=>(by cases he),List.Pairwise.nil⟩
   |cons k r ih=>
    intro p q o
    obtain⟨p1,p2⟩:=List.pairwise_cons.1 p
    obtain⟨a,b⟩:=ih p2 (fun x hx=>q x (List.mem_cons_of_mem _ hx)) (fun x hx=>o x (List.mem_cons_of_mem _ hx))
    obtain⟨c,d⟩:=afB h (o k List.mem_cons_self)
    rw[fW]
    refine⟨fun e he=>(List.mem_append.1 he).elim (c e) (a e),List.pairwise_append.2 ⟨d,b,fun x hx y hy=> ?_⟩⟩
    obtain⟨k2,qK,hy⟩:=List.mem_flatMap.1 hy
    exact aqE (p1 k2 qK x hx) (q k2 (List.mem_cons_of_mem _ qK) y hy)
  exact key t.2 s1 s2 h6
section
variable{th:Th}{F0:Int→Prop}{m:As}{fu root:Int}{fr fs gn:Ws}{h:Nat}{E:List En}{ps:List Int}{po:Nat}
theorem aM.v7(H:aM th m root h E ps po):(∀e∈E,okK e)∧v7 E:=by
 rcases H with⟨_,_,e,_⟩|⟨t,_,_,_,_,h4,h5,_⟩
 ·subst e;exact⟨fun e he=>(by cases he),List.Pairwise.nil⟩
 ·subst h5;exact afB h h4
theorem aM.zero(H:aM th m root h E ps po):(root=0↔E=[])∧(E=[]→ps=[]):=by
 rcases H with⟨a,_,e,p,_⟩|⟨t,_,h2,_,_,h4,h5,_⟩
 ·exact⟨⟨fun _=>e,fun _=>a⟩,fun _=>p⟩
 ·have:=qz h h4
  rw[←h5]at this
  exact⟨⟨fun x=>by omega,fun x=>absurd x this⟩,fun x=>absurd x this⟩
theorem aqF{f0:Ws}{key:ByteArray}{op:Option ByteArray}(hw:Bx.okW f0)(hc:gP f0=248)(T:TI th (In f0) m (-1) root fr fs gn h E ps po)(hE:E.length≤90)(hp:po≤7290):
 (wY key op E=0∧(sw th key op m (-1) root fr fs gn).2.2.2.2.2.2=0∧dq key op=true∧ou key op E=0∧∃h' ps' yi,yh th (In f0) key op m (-1) fr ps E po (sw th key op m (-1) root fr fs gn) h' ps' yi)∨
 (∃m',wY key op E≠0∧sw th key op m (-1) root fr fs gn=(m', -1,root,fr,fs,gn,wY key op E)∧TI th (In f0) m' (-1) root fr fs gn h E ps po):=by
 have hh:=T.small (by omega)
 obtain⟨c1,c2⟩:=T.cnt hw fun p=>Iff.rfl
 obtain⟨d1,d2⟩:=acd T.holds
 have h5:h≤5:=by
  rcases Nat.lt_or_ge 5 h with h6|h6
  ·have:=Nat.pow_le_pow_right (n:=3) (by omega) (show 6≤h from h6)
   have e:3^6=729:=rfl
   omega
  ·exact h6
 rcases am5 (key:=key) (op:=op) T hh with⟨a,b,c,G⟩|⟨m',gj,e,a,b,c⟩
 ·exact .inl ⟨by unfold wY;rw[if_pos b,c],a,b,c,G⟩
 ·have f:=c.fu rfl
  subst f
  have w:e=wY key op E:=by
   rcases c.how with⟨x,y⟩|⟨x,⟨y,z⟩|⟨y,z⟩|⟨y,z⟩⟩
   ·unfold wY;rw[x,y];rfl
   ·unfold wY;rw[if_pos x,y,z]
   ·omega
   ·omega
  exact .inr ⟨m',by rw[←w];exact a,by rw[←w];exact b,T.er c.d c.rd⟩
end
theorem ok_none{e:En}(h:okK e):dq e.1 none=true:=qI.2 ⟨⟨h.1,h.2.1⟩,fun v x=>(by cases x)⟩
abbrev mm:Th:=cv 1000
def f0B:Ws:=opF mm (Bx.bY 250)
theorem adV:Bx.okW f0B:=aks (Bx.cK _).1
theorem wF:Ds.wg mm=250:=by
 unfold Ds.wg
 rw[show mm.length=1000 from List.length_replicate ..];rfl
theorem akw{p:Int}:In f0B p↔2≤p∧p<250:=by
 unfold f0B
 rw[akt (Bx.cK _).1,vD,wF]
 omega
theorem am6:gP f0B=248:=by
 have l:((List.range 248).map fun k:Nat=>(k:Int)+2).length=248:=by simp
 refine Nat.le_antisymm ?_ ?_
 ·rw[←l]
  refine zV adV fun p hp=> ?_
  have:=akw.1 hp
  exact List.mem_map.2 ⟨(p - 2).toNat,List.mem_range.2 (by omega),by omega⟩
 ·rw[←l]
  refine am4 adV ?_ fun p hp=> ?_
  ·unfold List.Nodup
   rw[List.pairwise_map]
   exact List.nodup_range.imp fun h e=>h (by omega)
  ·obtain⟨k,hk,rfl⟩:=List.mem_map.1 hp
   have:=List.mem_range.1 hk
   exact akw.2 (by omega)
theorem TI.big:TI mm (In f0B) [] (-1) 0 f0B Bx.bg Bx.bg 0 [] [] 0:=TI.start (Ds.ait (by omega)) (Bx.cK _).1
theorem TI.none{th:Th}{f0:Ws}{m:As}{fu root:Int}{fr fs gn:Ws}{h:Nat}{ps:List Int}{po:Nat}(hw:Bx.okW f0)(T:TI th (In f0) m fu root fr fs gn h [] ps po):root=0∧ps=[]∧fs=Bx.bg∧gP fr=gP f0:=by
 obtain⟨a,b⟩:=T.holds.zero
 have hps:=b rfl
 subst hps
 have hfs:fs=Bx.bg:=aqb T.ok.fs Bx.iK.1 fun k=>⟨fun x=>(by have:=T.inv.sub k x;cases this),fun x=>absurd x jB⟩
 obtain⟨c1,c2⟩:=T.cnt hw fun p=>Iff.rfl
 exact⟨a.2 rfl,rfl,hfs,by simp only[List.length_nil]at c2;omega⟩
end Ts
namespace Ts
open Go Go.Sx Go.Proofs Lf
def am7:List (Nat×Norm):=[(4,⟨[(7,.ad cE [],Lf.eE)],[0,1,2,7,8,9],0,[]⟩)]
noncomputable def cLp(l out:List En)(key val:ByteArray)(b:Bool)(i:Int):bx:=⟨sl 56 [(0,.s (.ro (.ad cE l))),(1,.s (.str key)),(2,.s (.str val)),(7,.vec 0),(8,.s (.bool b)),(9,bQ i)],[.vec (.ad cE out) Lf.eE],hd Tryd.f16 4,{}⟩
theorem auQ(l:List En)(key val:ByteArray):run P (aH.sum []) Tryd.f16 am7 (start Tryd.f16 [.s (.ro (.ad cE l)),.s (.str key),.s (.str val)] [])=
 Tree.at (.mk (sl 56 [(0,.s (.ro (.ad [.str,.str] l))),(1,.s (.str key)),(2,.s (.str val)),(7,.vec 0),(8,.s (.bool false)),(9,.s (.int .i64 0))]) [.vec (.ad [.str,.str] []) 34] (hd Tryd.f16 4) (.mk none false 0 [] 0)):=by kernel_rfl
theorem atk(l out:List En)(key val:ByteArray)(b:Bool)(i:Int):run P (aH.sum []) Tryd.f16 am7 (cLp l out key val b i)=
 Tree.ite (decide (i<(↑l.length:Int)))
 (.need ((0:Int)≤i)
   (.need (i<(↑l.length:Int))
     (.ite (!slt (l.getD i.toNat (CL.d [.str,.str])).fst key) (.ite (!b) (.need ((out.length+1)*(32:Nat)≤140737488355328) (.need ((0:Int)≤i) (.need (i<(↑l.length:Int)) (.ite (!decide ((l.getD i.toNat (CL.d [.str,.str])).fst=key)) (.need ((0:Int)≤i) (.need (i<(↑l.length:Int)) (.need (((out++[(key,val,())]).length+1)*(32:Nat)≤140737488355328) (.need (ax (i+1)) (.at (.mk (sl 56 [(0,.s (.ro (.ad [.str,.str] l))),(1,.s (.str key)),(2,.s (.str val)),(7,.vec 0),(8,.s (.bool true)),(9,.s (.int .i64 (i+1)))]) [.vec (.ad [.str,.str] (out++[(key,val,())]++[((l.getD i.toNat (CL.d [.str,.str])).fst,(l.getD i.toNat (CL.d [.str,.str])).snd.fst,())])) 34] (hd Tryd.f16 4) (.mk none false 0 [] 0))))))) (.need (ax (i+1)) (.at (.mk (sl 56 [(0,.s (.ro (.ad [.str,.str] l))),(1,.s (.str key)),(2,.s (.str val)),(7,.vec 0),(8,.s (.bool true)),(9,.s (.int .i64 (i+1)))]) [.vec (.ad [.str,.str] (out++[(key,val,())])) 34] (hd Tryd.f16 4) (.mk none false 0 [] 0)))))))) (.need ((0:Int)≤i) (.need (i<(↑l.length:Int)) (.ite (!decide ((l.getD i.toNat (CL.d [.str,.str])).fst=key)) (.need ((0:Int)≤i) (.need (i<(↑l.length:Int)) (.need ((out.length+1)*(32:Nat)≤140737488355328) (.need (ax (i+1)) (.at (.mk (sl 56 [(0,.s (.ro (.ad [.str,.str] l))),(1,.s (.str key)),(2,.s (.str val)),(7,.vec 0),(8,.s (.bool b)),(9,.s (.int .i64 (i+1)))]) [.vec (.ad [.str,.str] (out++[((l.getD i.toNat (CL.d [.str,.str])).fst,(l.getD i.toNat (CL.d [.str,.str])).snd.fst,())])) 34] (hd Tryd.f16 4) (.mk none false 0 [] 0))))))) (.need (ax (i+1)) (.at (.mk (sl 56 [(0,.s (.ro (.ad [.str,.str] l))),(1,.s (.str key)),(2,.s (.str val)),(7,.vec 0),(8,.s (.bool b)),(9,.s (.int .i64 (i+1)))]) [.vec (.ad [.str,.str] out) 34] (hd Tryd.f16 4) (.mk none false 0 [] 0)))))))) (.need ((0:Int)≤i) (.need (i<(↑l.length:Int)) (.ite (!decide ((l.getD i.toNat (CL.d [.str,.str])).fst=key)) (.need ((0:Int)≤i) (.need (i<(↑l.length:Int)) (.need ((out.length+1)*(32:Nat)≤140737488355328) (.need (ax (i+1)) (.at (.mk (sl 56 [(0,.s (.ro (.ad [.str,.str] l))),(1,.s (.str key)),(2,.s (.str val)),(7,.vec 0),(8,.s (.bool b)),(9,.s (.int .i64 (i+1)))]) [.vec (.ad [.str,.str] (out++[((l.getD i.toNat (CL.d [.str,.str])).fst,(l.getD i.toNat (CL.d [.str,.str])).snd.fst,())])) 34] (hd Tryd.f16 4) (.mk none false 0 [] 0))))))) (.need (ax (i+1)) (.at (.mk (sl 56 [(0,.s (.ro (.ad [.str,.str] l))),(1,.s (.str key)),(2,.s (.str val)),(7,.vec 0),(8,.s (.bool b)),(9,.s (.int .i64 (i+1)))]) [.vec (.ad [.str,.str] out) 34] (hd Tryd.f16 4) (.mk none false 0 [] 0))))))))))
 (.ite (!b) (.need ((out.length+1)*(32:Nat)≤140737488355328) (.ret [.dead,.vec (.ad [.str,.str] [(key,val,())]) 34,.vec (.ad [.str,.str] (out++[(key,val,())])) 34] (.vec 2))) (.ret [.vec (.ad [.str,.str] out) 34] (.vec 0))):=by kernel_rfl
def am8:List (Nat×Norm):=[(3,⟨[(5,.ad cE [],Lf.eE)],[0,1,5,6],0,[]⟩)]
noncomputable def cLd(l out:List En)(key:ByteArray)(i:Int):bx:=⟨sl 28 [(0,.s (.ro (.ad cE l))),(1,.s (.str key)),(5,.vec 0),(6,bQ i)],[.vec (.ad cE out) Lf.eE],hd Tryd.f15 3,{}⟩
theorem auR(l:List En)(key:ByteArray):run P (aH.sum []) Tryd.f15 am8 (start Tryd.f15 [.s (.ro (.ad cE l)),.s (.str key)] [])=
 Tree.at (.mk (sl 28 [(0,.s (.ro (.ad [.str,.str] l))),(1,.s (.str key)),(5,.vec 0),(6,.s (.int .i64 0))]) [.vec (.ad [.str,.str] []) 34] (hd Tryd.f15 3) (.mk none false 0 [] 0)):=by kernel_rfl
theorem atl(l out:List En)(key:ByteArray)(i:Int):run P (aH.sum []) Tryd.f15 am8 (cLd l out key i)=
 Tree.ite (decide (i<(↑l.length:Int))) (.need ((0:Int)≤i) (.need (i<(↑l.length:Int)) (.ite (!decide ((l.getD i.toNat (CL.d [.str,.str])).fst=key)) (.need ((0:Int)≤i) (.need (i<(↑l.length:Int)) (.need ((out.length+1)*(32:Nat)≤140737488355328) (.need (ax (i+1)) (.at (.mk (sl 28 [(0,.s (.ro (.ad [.str,.str] l))),(1,.s (.str key)),(5,.vec 0),(6,.s (.int .i64 (i+1)))]) [.vec (.ad [.str,.str] (out++[((l.getD i.toNat (CL.d [.str,.str])).fst,(l.getD i.toNat (CL.d [.str,.str])).snd.fst,())])) 34] (hd Tryd.f15 3) (.mk none false 0 [] 0))))))) (.need (ax (i+1)) (.at (.mk (sl 28 [(0,.s (.ro (.ad [.str,.str] l))),(1,.s (.str key)),(5,.vec 0),(6,.s (.int .i64 (i+1)))]) [.vec (.ad [.str,.str] out) 34] (hd Tryd.f15 3) (.mk none false 0 [] 0))))))) (.ret [.vec (.ad [.str,.str] out) 34] (.vec 0)):=by kernel_rfl
def n7(key val:ByteArray):Bool→List En→List En
 |dn,[]=>if dn=true then []else [(key,val,())]
 |dn,x::r=>(if slt x.1 key=false∧dn=false then [(key,val,())]else [])++((if x.1=key then []else [x])++n7 key val (dn|| !slt x.1 key) r)
theorem yl(key val:ByteArray):∀l:List En,(∀x∈l,slt key x.1=true)→n7 key val true l=l
 |[],_=>rfl
 |x::r,h=>by
  rw[n7,if_neg (by simp),if_neg (fun e=>adg (h x List.mem_cons_self) e.symm),Bool.true_or,yl key val r fun y hy=>h y (List.mem_cons_of_mem _ hy)]
  rfl
theorem afC(key val:ByteArray):∀l:List En,v7 l→n7 key val false l=bt l key val
 |[],_=>rfl
 |x::r,h=>by
  obtain⟨h1,h2⟩:=List.pairwise_cons.1 h
  rw[n7]
  cases hs:slt x.1 key
  ·rw[if_pos ⟨rfl,rfl⟩,tu hs]
   have hr:∀y∈r,slt key y.1=true:=fun y hy=>by
    rcases fw x.1 key with a|a|a
    ·rw[hs]at a;cases a
    ·rw[←a];exact h1 y hy
    ·exact bT a (h1 y hy)
   rw[show(false|| !false)=true from rfl,yl key val r hr]
   by_cases e:x.1=key
   ·rw[if_pos e,if_pos e];rfl
   ·rw[if_neg e,if_neg e];rfl
  ·rw[if_neg (by simp),if_neg (adg hs),show(false|| !true)=false from rfl,afC key val r h2,tq hs]
   rfl
end Ts
namespace Ts
open Go Go.Sx Go.Proofs Lf
abbrev sLp:Spec (List En×ByteArray×ByteArray):=⟨fun(l,key,val)=>[.s (.ro (.ad cE l)),.s (.str key),.s (.str val)],fun _=>[],fun(l,_,_)=>[l.length≤1000],fun(l,key,val)=>[.vec (.ad cE (n7 key val false l)) Lf.eE],fun _=>.vec 0⟩
abbrev sLd:Spec (List En×ByteArray):=⟨fun(l,key)=>[.s (.ro (.ad cE l)),.s (.str key)],fun _=>[],fun(l,_)=>[l.length≤1000],fun(l,key)=>[.vec (.ad cE (bS l key)) Lf.eE],fun _=>.vec 0⟩
def mLp:List AV→RM ((List En×ByteArray×ByteArray)×List Nat)
 |[.s (.ro (.ad [.str,.str] l)),.s (.str key),.s (.str val)]=>.ret ((l,key,val),[])
 |_=>.fail "no row"
def mLd:List AV→RM ((List En×ByteArray)×List Nat)
 |[.s (.ro (.ad [.str,.str] l)),.s (.str key)]=>.ret ((l,key),[])
 |_=>.fail "no row"
theorem nf{b:Bool}(h:(!b)=true):b=false:=by cases b<;>simp_all
theorem nt{b:Bool}(h:(!b)=false):b=true:=by cases b<;>simp_all
theorem np{p:Prop}[Decidable p](h:(!decide p)=true):¬p:=of_decide_eq_false (nf h)
theorem pp{p:Prop}[Decidable p](h:(!decide p)=false):p:=of_decide_eq_true (nt h)
theorem aoA{l r:List En}{key val:ByteArray}(e:r=n7 key val false l):sLp.fi (l,key,val)=[.vec (.ad cE r) Lf.eE]∧sLp.out (l,key,val)=.vec 0:=by subst e;exact⟨rfl,rfl⟩
theorem atm{l r:List En}{key:ByteArray}(e:r=bS l key):sLd.fi (l,key)=[.vec (.ad cE r) Lf.eE]∧sLd.out (l,key)=.vec 0:=by subst e;exact⟨rfl,rfl⟩
theorem atn{Z:a8}:ke P Z 16 sLp:=by
 refine aR Tryd.func16 (by kernel_rfl) (fun x=>Nat.le_of_ble_eq_true (by kernel_rfl)) ?_
 rintro⟨(l:List En),(key:ByteArray),(val:ByteArray)⟩ ⟨(hl:l.length≤1000),_⟩ X hX hz
 have sN:∀x∈am7,(sLp.heap (l,key,val)).length≤x.2.m:=by intro y hy;simp only[am7,List.mem_singleton]at hy;subst hy;exact Nat.le_refl _
 have loop:∀(j k:Nat) (out:List En) (b:Bool),k+j=l.length→out.length≤2*k→out++n7 key val b (l.drop k)=n7 key val false l→Safe P 16 X (iV sLp (l,key,val)) (cLp l out key val b (k:Int)):=by
  intro j
  induction j with
  |zero=>
   intro k out b hk ho he
   rw[List.drop_of_length_le (by omega),n7]at he
   refine Ds.eH hz hX sN aH.Ok.nil Tryd.func16 (atk l out key val b k) ⟨fun h=>absurd (of_decide_eq_true h) (by omega),fun _=>⟨fun h=>⟨by omega, ?_⟩,fun h=> ?_⟩⟩
   ·rw[if_neg (by cases b<;>simp_all)]at he
    obtain⟨f1,f2⟩:=aoA he
    exact ch 0 rfl (Nat.le_refl _) f2 f1
   ·rw[if_pos (by cases b<;>simp_all),List.append_nil]at he
    obtain⟨f1,f2⟩:=aoA he
    exact ch 0 rfl (Nat.le_refl _) f2 f1
  |succ j ih=>
   intro k out b hk ho he
   have d:l.drop k=l.getD k dE::l.drop (k+1):=drop_cons dE (by omega)
   rw[d,n7]at he
   have next:∀(v8:List En) (b':Bool),v8.length≤2*(k+1)→v8++n7 key val b' (l.drop (k+1))=n7 key val false l→Safe P 16 X (iV sLp (l,key,val)) (cLp l v8 key val b' ((k:Int)+1)):=fun v8 b' a e=>ih (k+1) v8 b' (by omega) a e
   refine Ds.eH hz hX sN aH.Ok.nil Tryd.func16 (atk l out key val b k) ⟨fun _=>⟨by omega,by omega,fun h1=>⟨fun h2=>⟨by omega,by omega,by omega,fun h3=>⟨by omega,by omega, ?_,⟨by omega,by omega⟩, ?_⟩,fun h3=>⟨⟨by omega,by omega⟩, ?_⟩⟩,fun h2=>⟨by omega,by omega,fun h3=>⟨by omega,by omega,by omega,⟨by omega,by omega⟩, ?_⟩,fun h3=>⟨⟨by omega,by omega⟩, ?_⟩⟩⟩,
    fun h1=>⟨by omega,by omega,fun h3=>⟨by omega,by omega,by omega,⟨by omega,by omega⟩, ?_⟩,fun h3=>⟨⟨by omega,by omega⟩, ?_⟩⟩⟩,fun h=>absurd (of_decide_eq_false h) (by omega)⟩
   ·rw[List.length_append,List.length_singleton];omega
   ·have hs:slt (l.getD k dE).1 key=false:=nf h1
    have hb:b=false:=nf h2
    have hk3:¬(l.getD k dE).1=key:=np h3
    subst hb
    rw[if_pos ⟨hs,rfl⟩,if_neg hk3,hs]at he
    refine next _ true ?_ ?_
    ·simp only[List.length_append,List.length_cons,List.length_nil];omega
    ·simp only[List.append_assoc];exact he
   ·have hs:slt (l.getD k dE).1 key=false:=nf h1
    have hb:b=false:=nf h2
    have hk3:(l.getD k dE).1=key:=pp h3
    subst hb
    rw[if_pos ⟨hs,rfl⟩,if_pos hk3,hs]at he
    refine next _ true ?_ ?_
    ·simp only[List.length_append,List.length_cons,List.length_nil];omega
    ·simp only[List.append_assoc];exact he
   ·have hs:slt (l.getD k dE).1 key=false:=nf h1
    have hb:b=true:=nt h2
    have hk3:¬(l.getD k dE).1=key:=np h3
    subst hb
    rw[if_neg (by simp),if_neg hk3,hs]at he
    refine next _ true ?_ ?_
    ·simp only[List.length_append,List.length_cons,List.length_nil];omega
    ·simp only[List.append_assoc];exact he
   ·have hs:slt (l.getD k dE).1 key=false:=nf h1
    have hb:b=true:=nt h2
    have hk3:(l.getD k dE).1=key:=pp h3
    subst hb
    rw[if_neg (by simp),if_pos hk3,hs]at he
    refine next _ true ?_ ?_
    ·omega
    ·exact he
   ·have hs:slt (l.getD k dE).1 key=true:=nt h1
    have hk3:¬(l.getD k dE).1=key:=np h3
    rw[if_neg (by rw[hs];simp),if_neg hk3,hs,show(b|| !true)=b from by cases b<;>rfl]at he
    refine next _ b ?_ ?_
    ·simp only[List.length_append,List.length_cons,List.length_nil];omega
    ·simp only[List.append_assoc];exact he
   ·have hs:slt (l.getD k dE).1 key=true:=nt h1
    have hk3:(l.getD k dE).1=key:=pp h3
    rw[if_neg (by rw[hs];simp),if_pos hk3,hs,show(b|| !true)=b from by cases b<;>rfl]at he
    refine next _ b ?_ ?_
    ·omega
    ·exact he
 exact Ds.eH hz hX sN aH.Ok.nil Tryd.func16 (auQ l key val) (loop l.length 0 [] false (by omega) (Nat.le_refl _) rfl)
theorem ato{Z:a8}:ke P Z 15 sLd:=by
 refine aR Tryd.func15 (by kernel_rfl) (fun x=>Nat.le_of_ble_eq_true (by kernel_rfl)) ?_
 rintro⟨(l:List En),(key:ByteArray)⟩ ⟨(hl:l.length≤1000),_⟩ X hX hz
 have sN:∀x∈am8,(sLd.heap (l,key)).length≤x.2.m:=by intro y hy;simp only[am8,List.mem_singleton]at hy;subst hy;exact Nat.le_refl _
 have loop:∀(j k:Nat) (out:List En),k+j=l.length→out.length≤k→out++bS (l.drop k) key=bS l key→Safe P 15 X (iV sLd (l,key)) (cLd l out key (k:Int)):=by
  intro j
  induction j with
  |zero=>
   intro k out hk ho he
   rw[List.drop_of_length_le (by omega)]at he
   refine Ds.eH hz hX sN aH.Ok.nil Tryd.func15 (atl l out key k) ⟨fun h=>absurd (of_decide_eq_true h) (by omega),fun _=> ?_⟩
   obtain⟨f1,f2⟩:=atm ((List.append_nil out).symm.trans he)
   exact ch 0 rfl (Nat.le_refl _) f2 f1
  |succ j ih=>
   intro k out hk ho he
   have d:l.drop k=l.getD k dE::l.drop (k+1):=drop_cons dE (by omega)
   rw[d,xT]at he
   have next:∀(v8:List En),v8.length≤k+1→v8++bS (l.drop (k+1)) key=bS l key→Safe P 15 X (iV sLd (l,key)) (cLd l v8 key ((k:Int)+1)):=fun v8 a e=>ih (k+1) v8 (by omega) a e
   refine Ds.eH hz hX sN aH.Ok.nil Tryd.func15 (atl l out key k) ⟨fun _=>⟨by omega,by omega,fun h3=>⟨by omega,by omega,by omega,⟨by omega,by omega⟩, ?_⟩,fun h3=>⟨⟨by omega,by omega⟩, ?_⟩⟩,fun h=>absurd (of_decide_eq_false h) (by omega)⟩
   ·have hk3:¬(l.getD k dE).1=key:=np h3
    rw[if_pos (by rw[show ot key (l.getD k dE)=false from decide_eq_false hk3];rfl)]at he
    refine next _ ?_ ?_
    ·simp only[List.length_append,List.length_cons,List.length_nil];omega
    ·simp only[List.append_assoc];exact he
   ·have hk3:(l.getD k dE).1=key:=pp h3
    rw[if_neg (by rw[show ot key (l.getD k dE)=true from decide_eq_true hk3];decide)]at he
    exact next _ (by omega) he
 exact Ds.eH hz hX sN aH.Ok.nil Tryd.func15 (auR l key) (loop l.length 0 [] (by omega) (Nat.le_refl _) rfl)
end Ts
namespace Ts
open Go Go.Sx Go.Proofs Lf
theorem afD(key:ByteArray):∀l:List En,(l.find? (ot key)).isSome=l.any (ot key)
 |[]=>rfl
 |x::r=>by
  have:=afD key r
  rw[List.any_cons,List.find?_cons]
  cases ot key x<;>simp[this]
theorem zW{key:ByteArray}{l:List En}:lB l key=l.any (ot key):=afD key l
theorem afE{key:ByteArray}{l:List En}(h:v7 l):fL l key=l.any (ot key):=by rw[←zW,alN (akv h)]
theorem am9{key:ByteArray}{l:List En}(h:∀e∈l,okK e)(hk:dq key none=false):l.any (ot key)=false:=by
 rw[List.any_eq_false]
 intro x hx e
 have e:x.1=key:=by simpa using e
 have:=ok_none (h x hx)
 rw[e,hk]at this
 cases this
theorem ana{key:ByteArray}{l:List En}(h:l.any (ot key)=false):nj l key=ByteArray.empty:=by
 rw[←zW]at h
 unfold lB at h
 unfold nj
 cases e:l.find? (ot key)with
 |none=>rfl
 |some x=>rw[e]at h;cases h
theorem anb{key:ByteArray}{op:Option ByteArray}{E:List En}(h:dq key none=false):wY key op E=1:=by
 unfold wY
 cases op with
 |none=>rw[h];rfl
 |some v=>
  have:dq key (some v)=false:=by
   unfold dq at h ⊢
   simp only at h ⊢
   rw[h];rfl
  rw[this];rfl
theorem anc{key v:ByteArray}{E:List En}(h:100<v.size):wY key (some v) E=1:=by
 unfold wY
 have:dq key (some v)=false:=by
  unfold dq
  simp only
  rw[show decide (v.size≤100)=false from decide_eq_false (by omega),Bool.and_false]
 rw[this];rfl
theorem ane{key v:ByteArray}{E:List En}(h:dq key none=true)(hv:v.size≤100):wY key (some v) E=0:=by
 unfold wY
 have:dq key (some v)=true:=qI.2 ⟨(qI.1 h).1,fun w e=>by cases e;exact hv⟩
 rw[if_pos this];rfl
theorem anf{key:ByteArray}{E:List En}(h:dq key none=true)(hd:fL E key=true):wY key none E=0:=by
 unfold wY ou
 rw[if_pos h]
 simp only
 rw[if_pos hd]
theorem aqG{key:ByteArray}{E:List En}(h:dq key none=true)(hd:fL E key=false):wY key none E=5:=by
 unfold wY ou
 rw[if_pos h]
 simp only
 rw[hd];rfl
end Ts
namespace Ts
open Go Go.Sx Go.Proofs Lf
abbrev TB(m:As)(root:Int)(fr fs gn:Ws)(h:Nat)(E:List En)(ps:List Int)(po:Nat):Prop:=TI mm (In f0B) m (-1) root fr fs gn h E ps po
section
variable{m:As}{root:Int}{fr fs gn:Ws}{h:Nat}{E:List En}{ps:List Int}{po:Nat}
theorem akx{key:ByteArray}{op:Option ByteArray}(T:TB m root fr fs gn h E ps po)(hE:E.length≤90)(hp:po≤7290):
 ∃m' qJ pn lK rN h' E' ps' yi,sw mm key op m (-1) root fr fs gn=(m', -1,qJ,pn,lK,rN,wY key op E)∧TB m' qJ pn lK rN h' E' ps' yi∧yi≤po+opP op∧E'=(if wY key op E=0 then kL key op E else E):=by
 rcases aqF (key:=key) (op:=op) adV am6 T hE hp with⟨a,b,c,d,h',ps',yi,G⟩|⟨m',a,b,c⟩
 ·rcases hr:sw mm key op m (-1) root fr fs gn with⟨m',gj,qJ,pn,lK,rN,e'⟩
  rw[hr]at G b
  have hfu:=G.fu rfl
  have hti:=G.ti
  have hpo:=G.po
  simp only at b hfu hti
  subst hfu
  subst b
  exact⟨m',qJ,pn,lK,rN,h',_,ps',yi,by rw[a],hti,hpo,by rw[if_pos a]⟩
 ·exact⟨m',root,fr,fs,gn,h,E,ps,po,b,c,Nat.le_add_right _ _,by rw[if_neg a]⟩
theorem wa{k:Int}{v:ByteArray}(h:k=2):stOp k v=none:=if_pos h
theorem stOp_put{k:Int}{v:ByteArray}(h:¬k=2):stOp k v=some v:=if_neg h
theorem aqH(op:Option ByteArray):opP op≤81:=by
 cases op with
 |none=>exact Nat.zero_le _
 |some v=>exact Nat.le_refl _
theorem aqI(key:ByteArray)(op:Option ByteArray)(E:List En):(kL key op E).length≤E.length+1:=by
 refine Nat.le_trans adU ?_
 split<;>omega
theorem aqJ{p:Prop}[Decidable p](key:ByteArray)(op:Option ByteArray)(E:List En):(if p then kL key op E else E).length≤E.length+1:=by
 split
 ·exact aqI key op E
 ·omega
end
theorem aky{X:Ctx}{K:List ae→AV→Prop}{f:FuncId}{tmps:List AV}{L:List ae}{todo:List Item}{stk:mj}(id:Nat){c:bx}
 (e:(⟨(pS ⟨tmps,L⟩ id).tmps,(pS ⟨tmps,L⟩ id).H,todo,stk⟩:bx)=c) (h:Safe P f X K c):Safe P f X K ⟨tmps,L,todo,stk⟩:=by
 subst e
 intro G E ρ a w gq gR hr b t fs hw
 exact h G E ρ a w gq gR (hr.ac4 id) b t fs hw
theorem aha{X:Ctx}{K:List ae→AV→Prop}{f:FuncId}{tmps:List AV}{L:List ae}{todo:List Item}{stk:mj}(hX:∀id,X.H id=none)(id:Nat)(N:Norm){c:bx}
 (e:N.run ⟨(pS ⟨tmps,L⟩ id).tmps,(pS ⟨tmps,L⟩ id).H,todo,stk⟩=some c) (h:Safe P f X K c):Safe P f X K ⟨tmps,L,todo,stk⟩:=
 aky id rfl (Norm.safe (fun i _=>hX i) e h)
end Ts
namespace Ts
open Go Go.Sx Go.Proofs Lf
def mLg:List AV→RM (List (CL iN)×List Nat)
 |[.s (.ro (.ad [.int .u8,.str,.str] l))]=>.ret (l,[])
 |_=>.fail "no steps"
abbrev atp:=dJ sLg mLg
abbrev atq:=dJ sLs mGt
abbrev auS:=bW [nX,nX,dD] [cf] (fun(l,qM,from_,())=>[(qM:List En)=List.filter (pr from_) l,(l:List En).length≤100000]) (fun _=>(true,()))
def atr:List AV→RM (XS×List Nat)
 |[.agg [.s (.int _ k),.s (.str key),.s (.str val)],t]=>(mT [t]).bind fun(X,σ)=>.ret ((X,k,key,val),σ)
 |_=>.fail "no step"
abbrev ats:=dJ sDo atr
abbrev att:=dJ ag1 mGt
abbrev atu:=dJ sLp mLp
abbrev atv:=dJ sLd mLd
def acf:aH:=[(8,auG),(9,atp),(10,aow),(14,ats),(12,atq),(11,att),(13,auS),(16,atu),(15,atv)]
def ang:List (Nat×Norm):=[(6,⟨[(5,.ad cE [],Lf.eE)],[0,4,5,6],0,[]⟩),(12,⟨[],[0,4,5,6,7,8,9,10],0,[]⟩),(21,⟨[],[0,4,5,6,7,8,9,11],0,[]⟩)]
abbrev eSp:TypeId:=32
abbrev hT2(th:Th)(m:As)(fu root:Int)(fr fs gn:Ws)(k:Int)(key val:ByteArray):List ae:=[obT 2 root fr fs gn,.own [.s (.int .u8 k),.s (.str key),.s (.str val)] eSp,Ds.obD 3 4 fu,.vec (.ad Ds.cS th) Ds.eS,.map Ds.kS m]
noncomputable def cLi(l:List (CL iN))(E:List En)(th:Th)(m:As)(fu root:Int)(fr fs gn:Ws)(i:Int):bx:=⟨sl 168 [(0,ju l),(4,.ptr 0 0),(5,.s (.ro (.ad cE E))),(6,bQ i)],hT th m fu root fr fs gn,hd Tryd.f3 6,{}⟩
noncomputable def aqK(l:List (CL iN))(E:List En)(th:Th)(m:As)(fu root:Int)(fr fs gn:Ws)(i:Int):bx:=⟨sl 168 [(0,ju l),(4,.ptr 0 0),(5,.vec 1),(6,bQ i)],[obT 2 root fr fs gn,.vec (.ad cE E) Lf.eE,Ds.obD 3 4 fu,.vec (.ad Ds.cS th) Ds.eS,.map Ds.kS m],hd Tryd.f3 6,{}⟩
noncomputable def afF(l:List (CL iN))(E:List En)(th:Th)(m:As)(fu root:Int)(fr fs gn:Ws)(i k:Int)(key val:ByteArray)(bi b:Bool)(j:Int):bx:=⟨sl 168 [(0,ju l),(4,.ptr 0 0),(5,.s (.ro (.ad cE E))),(6,bQ i),(7,.ptr 1 0),(8,.s (.bool bi)),(9,.s (.bool b)),(10,bQ j)],hT2 th m fu root fr fs gn k key val,hd Tryd.f3 12,{}⟩
noncomputable def akz(l:List (CL iN))(E:List En)(th:Th)(m:As)(fu root:Int)(fr fs gn:Ws)(i k:Int)(key val:ByteArray)(bi b:Bool)(w:Int):bx:=⟨sl 168 [(0,ju l),(4,.ptr 0 0),(5,.s (.ro (.ad cE E))),(6,bQ i),(7,.ptr 1 0),(8,.s (.bool bi)),(9,.s (.bool b)),(11,bQ w)],hT2 th m fu root fr fs gn k key val,hr Tryd.f3 21,{}⟩
theorem auT(l:List (CL iN)):run P acf.sum Tryd.f3 ang (start Tryd.f3 [ju l] [])=
 Tree.ite false (.ret [] (.s (.bool true))) (.need (bK (some [AV.s (.ro (.ad iN l))])) (.need xH (.need (l.length≤9223372036854775807) (.both True (l.length - (90:Nat)=0) (.ret [] (.s (.bool true))) (.need (bK (some [AV.s (.int .i64 250)])) (.need xH (.need ((3:Int)≤250∧(250:Int)≤250) (.at (.mk (sl 168 [(0,.s (.ro (.ad iN l))),(4,.ptr 0 0),(5,.vec 1),(6,.s (.int .i64 0))]) [.own [.ptr 2 0,.s (.int .i64 0),.ints .u64 16 (opF (cv ((4:Int)*250)) (Bx.bY 250)),.ints .u64 16 Bx.bg,.ints .u64 16 Bx.bg] 70,.vec (.ad [.str,.str] []) 34,.own [.vec 3,.ag 4,.s (.int .i64 (-1))] 96,.vec (.ad [.arr .u8 64] (cv ((4:Int)*250))) 138,.map (.arr .u8 64) []] (hd Tryd.f3 6) (.mk none false 0 [] 0)))))))))):=by kernel_rfl
theorem atw(l:List (CL iN))(E:List En)(th:Th)(m:As)(fu root:Int)(fr fs gn:Ws)(i:Int):run P acf.sum Tryd.f3 ang (cLi l E th m fu root fr fs gn i)=
 Tree.ite (decide (i<(↑l.length:Int))) (.need ((0:Int)≤i) (.need (i<(↑l.length:Int)) (.ite (decide ((↑(stA (el l i)).size:Int)≥1)) (.at (.mk (sl 168 [(0,.s (.ro (.ad iN l))),(4,.ptr 0 0),(5,.s (.ro (.ad [.str,.str] E))),(6,.s (.int .i64 i)),(7,.ptr 1 0),(8,.s (.bool (decide ((↑(stA (el l i)).size:Int)≤24)))),(9,.s (.bool false)),(10,.s (.int .i64 0))]) [.own [.ptr 2 0,.s (.int .i64 root),.ints .u64 16 fr,.ints .u64 16 fs,.ints .u64 16 gn] 70,.own [.s (.int .u8 (stK (el l i))),.s (.str (stA (el l i))),.s (.str (stV (el l i)))] 32,.own [.vec 3,.ag 4,.s (.int .i64 fu)] 96,.vec (.ad [.arr .u8 64] th) 138,.map (.arr .u8 64) m] (hd Tryd.f3 12) (.mk none false 0 [] 0))) (.at (.mk (sl 168 [(0,.s (.ro (.ad iN l))),(4,.ptr 0 0),(5,.s (.ro (.ad [.str,.str] E))),(6,.s (.int .i64 i)),(7,.ptr 1 0),(8,.s (.bool false)),(9,.s (.bool false)),(10,.s (.int .i64 0))]) [.own [.ptr 2 0,.s (.int .i64 root),.ints .u64 16 fr,.ints .u64 16 fs,.ints .u64 16 gn] 70,.own [.s (.int .u8 (stK (el l i))),.s (.str (stA (el l i))),.s (.str (stV (el l i)))] 32,.own [.vec 3,.ag 4,.s (.int .i64 fu)] 96,.vec (.ad [.arr .u8 64] th) 138,.map (.arr .u8 64) m] (hd Tryd.f3 12) (.mk none false 0 [] 0)))))) (.need (bK (some [AV.ptr 0 0,.s (.str ByteArray.empty)])) (.need (bK (some [ae.own [.ptr 1 0,.s (.int .i64 root),.ints .u64 16 fr,.ints .u64 16 fs,.ints .u64 16 gn] 70,.own [.vec 2,.ag 3,.s (.int .i64 fu)] 96,.vec (.ad [.arr .u8 64] th) 138,.map (.arr .u8 64) m])) (.need (Ds.bR th m fu) (.need ((0:Int)≤root∧root≤65536) (.ite (lsE th m root ByteArray.empty==0) (.need (lsF th m root ByteArray.empty=List.filter (pr ByteArray.empty) E) (.need (E.length≤100000) (.ret [.own [.ptr 1 0,.s (.int .i64 root),.ints .u64 16 fr,.ints .u64 16 fs,.ints .u64 16 gn] 70,.own [.vec 2,.ag 3,.s (.int .i64 fu)] 96,.vec (.ad [.arr .u8 64] th) 138,.map (.arr .u8 64) m,.vec (.ad [.str,.str] (lsF th m root ByteArray.empty)) 34] (.s (.bool true))))) (.ret [.own [.ptr 1 0,.s (.int .i64 root),.ints .u64 16 fr,.ints .u64 16 fs,.ints .u64 16 gn] 70,.own [.vec 2,.ag 3,.s (.int .i64 fu)] 96,.vec (.ad [.arr .u8 64] th) 138,.map (.arr .u8 64) m,.vec (.ad [.str,.str] (lsF th m root ByteArray.empty)) 34] (.s (.aI false)))))))):=by kernel_rfl
theorem akA(l:List (CL iN))(E:List En)(th:Th)(m:As)(fu root:Int)(fr fs gn:Ws)(i k:Int)(key val:ByteArray)(bi b:Bool)(j:Int):run P acf.sum Tryd.f3 ang (afF l E th m fu root fr fs gn i k key val bi b j)=
 Tree.ite (decide (j<(↑E.length:Int))) (.ite b (.need (ax (j+1)) (.at (.mk (sl 168 [(0,.s (.ro (.ad iN l))),(4,.ptr 0 0),(5,.s (.ro (.ad [.str,.str] E))),(6,.s (.int .i64 i)),(7,.ptr 1 0),(8,.s (.bool bi)),(9,.s (.bool true)),(10,.s (.int .i64 (j+1)))]) [.own [.ptr 2 0,.s (.int .i64 root),.ints .u64 16 fr,.ints .u64 16 fs,.ints .u64 16 gn] 70,.own [.s (.int .u8 k),.s (.str key),.s (.str val)] 32,.own [.vec 3,.ag 4,.s (.int .i64 fu)] 96,.vec (.ad [.arr .u8 64] th) 138,.map (.arr .u8 64) m] (hd Tryd.f3 12) (.mk none false 0 [] 0)))) (.need ((0:Int)≤j) (.need (j<(↑E.length:Int)) (.need (ax (j+1)) (.at (.mk (sl 168 [(0,.s (.ro (.ad iN l))),(4,.ptr 0 0),(5,.s (.ro (.ad [.str,.str] E))),(6,.s (.int .i64 i)),(7,.ptr 1 0),(8,.s (.bool bi)),(9,.s (.bool (decide ((E.getD j.toNat (CL.d [.str,.str])).fst=key)))),(10,.s (.int .i64 (j+1)))]) [.own [.ptr 2 0,.s (.int .i64 root),.ints .u64 16 fr,.ints .u64 16 fs,.ints .u64 16 gn] 70,.own [.s (.int .u8 k),.s (.str key),.s (.str val)] 32,.own [.vec 3,.ag 4,.s (.int .i64 fu)] 96,.vec (.ad [.arr .u8 64] th) 138,.map (.arr .u8 64) m] (hd Tryd.f3 12) (.mk none false 0 [] 0)))))))
 (.ite (!bi) (.at (.mk (sl 168 [(0,.s (.ro (.ad iN l))),(4,.ptr 0 0),(5,.s (.ro (.ad [.str,.str] E))),(6,.s (.int .i64 i)),(7,.ptr 1 0),(8,.s (.bool bi)),(9,.s (.bool b)),(11,.s (.int .i64 1))]) [.own [.ptr 2 0,.s (.int .i64 root),.ints .u64 16 fr,.ints .u64 16 fs,.ints .u64 16 gn] 70,.own [.s (.int .u8 k),.s (.str key),.s (.str val)] 32,.own [.vec 3,.ag 4,.s (.int .i64 fu)] 96,.vec (.ad [.arr .u8 64] th) 138,.map (.arr .u8 64) m] (hr Tryd.f3 21) (.mk none false 0 [] 0)))
   (.ite (decide (k<2)) (.ite (decide ((↑val.size:Int)>100)) (.at (.mk (sl 168 [(0,.s (.ro (.ad iN l))),(4,.ptr 0 0),(5,.s (.ro (.ad [.str,.str] E))),(6,.s (.int .i64 i)),(7,.ptr 1 0),(8,.s (.bool bi)),(9,.s (.bool b)),(11,.s (.int .i64 1))]) [.own [.ptr 2 0,.s (.int .i64 root),.ints .u64 16 fr,.ints .u64 16 fs,.ints .u64 16 gn] 70,.own [.s (.int .u8 k),.s (.str key),.s (.str val)] 32,.own [.vec 3,.ag 4,.s (.int .i64 fu)] 96,.vec (.ad [.arr .u8 64] th) 138,.map (.arr .u8 64) m] (hr Tryd.f3 21) (.mk none false 0 [] 0))) (.ite (k==2) (.ite (!b) (.at (.mk (sl 168 [(0,.s (.ro (.ad iN l))),(4,.ptr 0 0),(5,.s (.ro (.ad [.str,.str] E))),(6,.s (.int .i64 i)),(7,.ptr 1 0),(8,.s (.bool bi)),(9,.s (.bool b)),(11,.s (.int .i64 5))]) [.own [.ptr 2 0,.s (.int .i64 root),.ints .u64 16 fr,.ints .u64 16 fs,.ints .u64 16 gn] 70,.own [.s (.int .u8 k),.s (.str key),.s (.str val)] 32,.own [.vec 3,.ag 4,.s (.int .i64 fu)] 96,.vec (.ad [.arr .u8 64] th) 138,.map (.arr .u8 64) m] (hr Tryd.f3 21) (.mk none false 0 [] 0))) (.at (.mk (sl 168 [(0,.s (.ro (.ad iN l))),(4,.ptr 0 0),(5,.s (.ro (.ad [.str,.str] E))),(6,.s (.int .i64 i)),(7,.ptr 1 0),(8,.s (.bool bi)),(9,.s (.bool b)),(11,.s (.int .i64 0))]) [.own [.ptr 2 0,.s (.int .i64 root),.ints .u64 16 fr,.ints .u64 16 fs,.ints .u64 16 gn] 70,.own [.s (.int .u8 k),.s (.str key),.s (.str val)] 32,.own [.vec 3,.ag 4,.s (.int .i64 fu)] 96,.vec (.ad [.arr .u8 64] th) 138,.map (.arr .u8 64) m] (hr Tryd.f3 21) (.mk none false 0 [] 0)))) (.at (.mk (sl 168 [(0,.s (.ro (.ad iN l))),(4,.ptr 0 0),(5,.s (.ro (.ad [.str,.str] E))),(6,.s (.int .i64 i)),(7,.ptr 1 0),(8,.s (.bool bi)),(9,.s (.bool b)),(11,.s (.int .i64 0))]) [.own [.ptr 2 0,.s (.int .i64 root),.ints .u64 16 fr,.ints .u64 16 fs,.ints .u64 16 gn] 70,.own [.s (.int .u8 k),.s (.str key),.s (.str val)] 32,.own [.vec 3,.ag 4,.s (.int .i64 fu)] 96,.vec (.ad [.arr .u8 64] th) 138,.map (.arr .u8 64) m] (hr Tryd.f3 21) (.mk none false 0 [] 0)))))
     (.ite (k==2) (.ite (!b) (.at (.mk (sl 168 [(0,.s (.ro (.ad iN l))),(4,.ptr 0 0),(5,.s (.ro (.ad [.str,.str] E))),(6,.s (.int .i64 i)),(7,.ptr 1 0),(8,.s (.bool bi)),(9,.s (.bool b)),(11,.s (.int .i64 5))]) [.own [.ptr 2 0,.s (.int .i64 root),.ints .u64 16 fr,.ints .u64 16 fs,.ints .u64 16 gn] 70,.own [.s (.int .u8 k),.s (.str key),.s (.str val)] 32,.own [.vec 3,.ag 4,.s (.int .i64 fu)] 96,.vec (.ad [.arr .u8 64] th) 138,.map (.arr .u8 64) m] (hr Tryd.f3 21) (.mk none false 0 [] 0))) (.at (.mk (sl 168 [(0,.s (.ro (.ad iN l))),(4,.ptr 0 0),(5,.s (.ro (.ad [.str,.str] E))),(6,.s (.int .i64 i)),(7,.ptr 1 0),(8,.s (.bool bi)),(9,.s (.bool b)),(11,.s (.int .i64 0))]) [.own [.ptr 2 0,.s (.int .i64 root),.ints .u64 16 fr,.ints .u64 16 fs,.ints .u64 16 gn] 70,.own [.s (.int .u8 k),.s (.str key),.s (.str val)] 32,.own [.vec 3,.ag 4,.s (.int .i64 fu)] 96,.vec (.ad [.arr .u8 64] th) 138,.map (.arr .u8 64) m] (hr Tryd.f3 21) (.mk none false 0 [] 0)))) (.at (.mk (sl 168 [(0,.s (.ro (.ad iN l))),(4,.ptr 0 0),(5,.s (.ro (.ad [.str,.str] E))),(6,.s (.int .i64 i)),(7,.ptr 1 0),(8,.s (.bool bi)),(9,.s (.bool b)),(11,.s (.int .i64 0))]) [.own [.ptr 2 0,.s (.int .i64 root),.ints .u64 16 fr,.ints .u64 16 fs,.ints .u64 16 gn] 70,.own [.s (.int .u8 k),.s (.str key),.s (.str val)] 32,.own [.vec 3,.ag 4,.s (.int .i64 fu)] 96,.vec (.ad [.arr .u8 64] th) 138,.map (.arr .u8 64) m] (hr Tryd.f3 21) (.mk none false 0 [] 0)))))):=by kernel_rfl
theorem akB(l:List (CL iN))(E:List En)(th:Th)(m:As)(fu root:Int)(fr fs gn:Ws)(i k:Int)(key val:ByteArray)(bi b:Bool)(w:Int):run P acf.sum Tryd.f3 ang (akz l E th m fu root fr fs gn i k key val bi b w)=
 Tree.ite (decide (k>2))
 (.need (bK (some [AV.ptr 0 0,.s (.str key)]))
   (.need (bK (some [ae.own [.ptr 1 0,.s (.int .i64 root),.ints .u64 16 fr,.ints .u64 16 fs,.ints .u64 16 gn] 70,.own [.vec 2,.ag 3,.s (.int .i64 fu)] 96,.vec (.ad [.arr .u8 64] th) 138,.map (.arr .u8 64) m]))
     (.need (Ds.bR th m fu)
       (.need ((0:Int)≤root∧root≤65536)
         (.ite (!bi==(gtE th m root key==0)) (.ret [.own [.ptr 2 0,.s (.int .i64 root),.ints .u64 16 fr,.ints .u64 16 fs,.ints .u64 16 gn] 70,.own [.s (.int .u8 k),.s (.str key),.s (.str val)] 32,.own [.vec 3,.ag 4,.s (.int .i64 fu)] 96,.vec (.ad [.arr .u8 64] th) 138,.map (.arr .u8 64) m] (.s (.aI false)))
           (.ite (!gtB th m root key==b) (.ret [.own [.ptr 2 0,.s (.int .i64 root),.ints .u64 16 fr,.ints .u64 16 fs,.ints .u64 16 gn] 70,.own [.s (.int .u8 k),.s (.str key),.s (.str val)] 32,.own [.vec 3,.ag 4,.s (.int .i64 fu)] 96,.vec (.ad [.arr .u8 64] th) 138,.map (.arr .u8 64) m] (.s (.aI false)))
             (.ite (!gtB th m root key) (.ite (!decide (gtV th m root key=ByteArray.empty)) (.ret [.own [.ptr 2 0,.s (.int .i64 root),.ints .u64 16 fr,.ints .u64 16 fs,.ints .u64 16 gn] 70,.own [.s (.int .u8 k),.s (.str key),.s (.str val)] 32,.own [.vec 3,.ag 4,.s (.int .i64 fu)] 96,.vec (.ad [.arr .u8 64] th) 138,.map (.arr .u8 64) m] (.s (.aI false))) (.need (bK (some [AV.ptr 0 0,.s (.str key)])) (.need (bK (some [ae.own [.ptr 1 0,.s (.int .i64 root),.ints .u64 16 fr,.ints .u64 16 fs,.ints .u64 16 gn] 70,.own [.vec 2,.ag 3,.s (.int .i64 fu)] 96,.vec (.ad [.arr .u8 64] th) 138,.map (.arr .u8 64) m])) (.need (Ds.bR th m fu) (.need ((0:Int)≤root∧root≤65536) (.ite (lsE th m root key !=0) (.ret [.own [.ptr 2 0,.s (.int .i64 root),.ints .u64 16 fr,.ints .u64 16 fs,.ints .u64 16 gn] 70,.own [.s (.int .u8 k),.s (.str key),.s (.str val)] 32,.own [.vec 3,.ag 4,.s (.int .i64 fu)] 96,.vec (.ad [.arr .u8 64] th) 138,.map (.arr .u8 64) m,.vec (.ad [.str,.str] (lsF th m root key)) 34] (.s (.aI false))) (.need (lsF th m root key=List.filter (pr key) E) (.need (E.length≤100000) (.ite false (.ret [.own [.ptr 2 0,.s (.int .i64 root),.ints .u64 16 fr,.ints .u64 16 fs,.ints .u64 16 gn] 70,.own [.s (.int .u8 k),.s (.str key),.s (.str val)] 32,.own [.vec 3,.ag 4,.s (.int .i64 fu)] 96,.vec (.ad [.arr .u8 64] th) 138,.map (.arr .u8 64) m,.vec (.ad [.str,.str] (lsF th m root key)) 34] (.s (.aI false))) (.need (ax (i+1)) (.at (.mk (sl 168 [(0,.s (.ro (.ad iN l))),(4,.ptr 0 0),(5,.s (.ro (.ad [.str,.str] E))),(6,.s (.int .i64 (i+1)))]) [.own [.ptr 1 0,.s (.int .i64 root),.ints .u64 16 fr,.ints .u64 16 fs,.ints .u64 16 gn] 70,.own [.vec 2,.ag 3,.s (.int .i64 fu)] 96,.vec (.ad [.arr .u8 64] th) 138,.map (.arr .u8 64) m] (hd Tryd.f3 6) (.mk none false 0 [] 0)))))))))))))
               (.need (bK (some [AV.ptr 0 0,.s (.str key)])) (.need (bK (some [ae.own [.ptr 1 0,.s (.int .i64 root),.ints .u64 16 fr,.ints .u64 16 fs,.ints .u64 16 gn] 70,.own [.vec 2,.ag 3,.s (.int .i64 fu)] 96,.vec (.ad [.arr .u8 64] th) 138,.map (.arr .u8 64) m])) (.need (Ds.bR th m fu) (.need ((0:Int)≤root∧root≤65536) (.ite (lsE th m root key !=0) (.ret [.own [.ptr 2 0,.s (.int .i64 root),.ints .u64 16 fr,.ints .u64 16 fs,.ints .u64 16 gn] 70,.own [.s (.int .u8 k),.s (.str key),.s (.str val)] 32,.own [.vec 3,.ag 4,.s (.int .i64 fu)] 96,.vec (.ad [.arr .u8 64] th) 138,.map (.arr .u8 64) m,.vec (.ad [.str,.str] (lsF th m root key)) 34] (.s (.aI false))) (.need (lsF th m root key=List.filter (pr key) E) (.need (E.length≤100000) (.ite false (.ret [.own [.ptr 2 0,.s (.int .i64 root),.ints .u64 16 fr,.ints .u64 16 fs,.ints .u64 16 gn] 70,.own [.s (.int .u8 k),.s (.str key),.s (.str val)] 32,.own [.vec 3,.ag 4,.s (.int .i64 fu)] 96,.vec (.ad [.arr .u8 64] th) 138,.map (.arr .u8 64) m,.vec (.ad [.str,.str] (lsF th m root key)) 34] (.s (.aI false))) (.need (ax (i+1)) (.at (.mk (sl 168 [(0,.s (.ro (.ad iN l))),(4,.ptr 0 0),(5,.s (.ro (.ad [.str,.str] E))),(6,.s (.int .i64 (i+1)))]) [.own [.ptr 1 0,.s (.int .i64 root),.ints .u64 16 fr,.ints .u64 16 fs,.ints .u64 16 gn] 70,.own [.vec 2,.ag 3,.s (.int .i64 fu)] 96,.vec (.ad [.arr .u8 64] th) 138,.map (.arr .u8 64) m] (hd Tryd.f3 6) (.mk none false 0 [] 0)))))))))))))))))))
 (.need (bK (some [AV.agg [.s (.int .u8 k),.s (.str key),.s (.str val)],.ptr 0 0]))
   (.need (bK (some [ae.own [.ptr 1 0,.s (.int .i64 root),.ints .u64 16 fr,.ints .u64 16 fs,.ints .u64 16 gn] 70,.own [.vec 2,.ag 3,.s (.int .i64 fu)] 96,.vec (.ad [.arr .u8 64] th) 138,.map (.arr .u8 64) m]))
     (.need (Ds.bR th m fu)
       (.need (Bx.okW fr)
         (.need ((0:Int)≤root∧root≤65536)
           (.ite (doX th k key val m fu root fr fs gn !=w) (.ret [.own [.ptr 2 0,.s (.int .i64 (doR th k key val m fu root fr fs gn)),.ints .u64 16 (do2 th k key val m fu root fr fs gn),.ints .u64 16 (do3 th k key val m fu root fr fs gn),.ints .u64 16 (do4 th k key val m fu root fr fs gn)] 70,.own [.s (.int .u8 k),.s (.str key),.s (.str val)] 32,.own [.vec 3,.ag 4,.s (.int .i64 (do1 th k key val m fu root fr fs gn))] 96,.vec (.ad [.arr .u8 64] th) 138,.map (.arr .u8 64) (do0 th k key val m fu root fr fs gn)] (.s (.aI false)))
             (.ite (w==0) (.ite (k==2) (.need (bK (some [AV.s (.ro (.ad [.str,.str] E)),.s (.str key)])) (.need xH (.need (E.length≤1000) (.need (ax (i+1)) (.at (.mk (sl 168 [(0,.s (.ro (.ad iN l))),(4,.ptr 0 0),(5,.vec 1),(6,.s (.int .i64 (i+1)))]) [.own [.ptr 2 0,.s (.int .i64 (doR th k key val m fu root fr fs gn)),.ints .u64 16 (do2 th k key val m fu root fr fs gn),.ints .u64 16 (do3 th k key val m fu root fr fs gn),.ints .u64 16 (do4 th k key val m fu root fr fs gn)] 70,.vec (.ad [.str,.str] (bS E key)) 34,.own [.vec 3,.ag 4,.s (.int .i64 (do1 th k key val m fu root fr fs gn))] 96,.vec (.ad [.arr .u8 64] th) 138,.map (.arr .u8 64) (do0 th k key val m fu root fr fs gn)] (hd Tryd.f3 6) (.mk none false 0 [] 0))))))) (.ite (w==0) (.need (bK (some [AV.s (.ro (.ad [.str,.str] E)),.s (.str key),.s (.str val)])) (.need xH (.need (E.length≤1000) (.need (ax (i+1)) (.at (.mk (sl 168 [(0,.s (.ro (.ad iN l))),(4,.ptr 0 0),(5,.vec 1),(6,.s (.int .i64 (i+1)))]) [.own [.ptr 2 0,.s (.int .i64 (doR th k key val m fu root fr fs gn)),.ints .u64 16 (do2 th k key val m fu root fr fs gn),.ints .u64 16 (do3 th k key val m fu root fr fs gn),.ints .u64 16 (do4 th k key val m fu root fr fs gn)] 70,.vec (.ad [.str,.str] (n7 key val false E)) 34,.own [.vec 3,.ag 4,.s (.int .i64 (do1 th k key val m fu root fr fs gn))] 96,.vec (.ad [.arr .u8 64] th) 138,.map (.arr .u8 64) (do0 th k key val m fu root fr fs gn)] (hd Tryd.f3 6) (.mk none false 0 [] 0))))))) (.need (ax (i+1)) (.at (.mk (sl 168 [(0,.s (.ro (.ad iN l))),(4,.ptr 0 0),(5,.s (.ro (.ad [.str,.str] E))),(6,.s (.int .i64 (i+1)))]) [.own [.ptr 1 0,.s (.int .i64 (doR th k key val m fu root fr fs gn)),.ints .u64 16 (do2 th k key val m fu root fr fs gn),.ints .u64 16 (do3 th k key val m fu root fr fs gn),.ints .u64 16 (do4 th k key val m fu root fr fs gn)] 70,.own [.vec 2,.ag 3,.s (.int .i64 (do1 th k key val m fu root fr fs gn))] 96,.vec (.ad [.arr .u8 64] th) 138,.map (.arr .u8 64) (do0 th k key val m fu root fr fs gn)] (hd Tryd.f3 6) (.mk none false 0 [] 0))))))
               (.ite (w==0) (.need (bK (some [AV.s (.ro (.ad [.str,.str] E)),.s (.str key),.s (.str val)])) (.need xH (.need (E.length≤1000) (.need (ax (i+1)) (.at (.mk (sl 168 [(0,.s (.ro (.ad iN l))),(4,.ptr 0 0),(5,.vec 1),(6,.s (.int .i64 (i+1)))]) [.own [.ptr 2 0,.s (.int .i64 (doR th k key val m fu root fr fs gn)),.ints .u64 16 (do2 th k key val m fu root fr fs gn),.ints .u64 16 (do3 th k key val m fu root fr fs gn),.ints .u64 16 (do4 th k key val m fu root fr fs gn)] 70,.vec (.ad [.str,.str] (n7 key val false E)) 34,.own [.vec 3,.ag 4,.s (.int .i64 (do1 th k key val m fu root fr fs gn))] 96,.vec (.ad [.arr .u8 64] th) 138,.map (.arr .u8 64) (do0 th k key val m fu root fr fs gn)] (hd Tryd.f3 6) (.mk none false 0 [] 0))))))) (.need (ax (i+1)) (.at (.mk (sl 168 [(0,.s (.ro (.ad iN l))),(4,.ptr 0 0),(5,.s (.ro (.ad [.str,.str] E))),(6,.s (.int .i64 (i+1)))]) [.own [.ptr 1 0,.s (.int .i64 (doR th k key val m fu root fr fs gn)),.ints .u64 16 (do2 th k key val m fu root fr fs gn),.ints .u64 16 (do3 th k key val m fu root fr fs gn),.ints .u64 16 (do4 th k key val m fu root fr fs gn)] 70,.own [.vec 2,.ag 3,.s (.int .i64 (do1 th k key val m fu root fr fs gn))] 96,.vec (.ad [.arr .u8 64] th) 138,.map (.arr .u8 64) (do0 th k key val m fu root fr fs gn)] (hd Tryd.f3 6) (.mk none false 0 [] 0)))))))))))):=by kernel_rfl
theorem jY:acf.Ok P Bx.cn:=aH.Ok.cons akb.sum (aH.Ok.cons (as8.sum mLg) (aH.Ok.cons (afp.sum mMd) (aH.Ok.cons (as9.sum atr) (aH.Ok.cons (amQ.sum mGt) (aH.Ok.cons (ajZ.sum mGt) (aH.Ok.cons ata.sum (aH.Ok.cons (atn.sum mLp) (aH.Ok.cons (ato.sum mLd) aH.Ok.nil))))))))
abbrev KT:List ae→AV→Prop:=Ends [cf] (true,())
theorem akC{α:Type}{p:α→Bool}{l:List α}{k:Nat}{d:α}(h:k<l.length):(l.take (k+1)).any p=((l.take k).any p||p (l.getD k d)):=by
 rw[←jx (d:=d) h,List.any_append,List.any_cons,List.any_nil,Bool.or_false]
section
variable{X:Ctx}(hX:∀id,X.H id=none)(hz:dP Bx.cn X)
include hX
theorem liV{l:List (CL iN)}{E:List En}{th:Th}{m:As}{fu root:Int}{fr fs gn:Ws}{i:Int}(H:Safe P 3 X KT (cLi l E th m fu root fr fs gn i)):Safe P 3 X KT (aqK l E th m fu root fr fs gn i):=
 aha hX 1 ⟨[],[0,4,5,6],0,[]⟩ (by kernel_rfl) H
include hz
theorem auU{l:List (CL iN)}{i:Nat}(hi:i<90){m:As}{root:Int}{fr fs gn:Ws}{h:Nat}{E:List En}{ps:List Int}{po:Nat}(T:TB m root fr fs gn h E ps po)(hp:po≤81*i)(hE:E.length≤i){k:Int}{key val:ByteArray}{bi b:Bool}{w:Int}
 (hbi:bi=dq key none) (hb:b=E.any (ot key)) (hw:k≤2→w=wY key (stOp k val) E)
 (ih:∀{m:As} {root:Int} {fr fs gn:Ws} {h:Nat} {E:List En} {ps:List Int} {po:Nat},TB m root fr fs gn h E ps po→po≤81*(i+1)→E.length≤i+1→Safe P 3 X KT (cLi l E mm m (-1) root fr fs gn ((i:Int)+1))):
 Safe P 3 X KT (akz l E mm m (-1) root fr fs gn (i:Int) k key val bi b w):=by
 have hr:=T.rng
 have hh:=T.small (by omega)
 have hI:ax ((i:Int)+1):=inI (by omega) (by omega)
 by_cases hk:k>2
 ·obtain⟨l1,l2⟩:=yj T.holds T.inv.nd (by omega) key
  have hg:=am3 (key:=key) T.holds (by omega)
  have gE:(gtE mm m root key==0)=bi:=by
   unfold gtE
   rw[hg,hbi]
   cases e:dq key none<;>rfl
  have gB:gtB mm m root key=b:=by
   unfold gtB
   rw[hg,hb]
   cases e:dq key none
   ·rw[if_pos rfl,am9 T.holds.v7.1 e]
   ·rw[if_neg (by decide)];exact zW
  have gV:b=false→gtV mm m root key=ByteArray.empty:=fun h0=>by
   unfold gtV
   rw[hg]
   cases e:dq key none
   ·rw[if_pos rfl]
   ·rw[if_neg (by decide)];exact ana (hb.symm.trans h0)
  have more:Safe P 3 X KT (cLi l E mm m (-1) root fr fs gn ((i:Int)+1)):=ih T (by omega) (by omega)
  refine Lf.go hz hX jY Tryd.func3 (akB l E mm m (-1) root fr fs gn i k key val bi b w) ⟨fun _=> ?_,fun h=>absurd (of_decide_eq_false h) (by omega)⟩
  rw[gE,gB,l1,l2]
  refine⟨rfl,rfl,T.ok.d,hr,fun h=> ?_,fun _=>⟨fun h=> ?_,fun _=>⟨fun h0=>⟨fun h=> ?_,fun _=>⟨rfl,rfl,T.ok.d,hr,fun h=>(by cases h),fun _=>⟨rfl,by omega,fun h=>(by cases h),fun _=>⟨hI,more⟩⟩⟩⟩,fun _=>⟨rfl,rfl,T.ok.d,hr,fun h=>(by cases h),fun _=>⟨rfl,by omega,fun h=>(by cases h),fun _=>⟨hI,more⟩⟩⟩⟩⟩⟩
  ·cases bi<;>cases h
  ·cases b<;>cases h
  ·rw[gV (nf h0),decide_eq_true rfl]at h;cases h
 ·have hw:=hw (by omega)
  obtain⟨m',qJ,pn,lK,rN,h',E',ps',yi,e,T',hpo,hE2⟩:=akx (key:=key) (op:=stOp k val) T (by omega) (by omega)
  have w9:=aqH (stOp k val)
  have hE':E'.length≤E.length+1:=by rw[hE2];exact aqJ _ _ _
  rw[←hw]at e hE2
  have c0:do0 mm k key val m (-1) root fr fs gn=m':=by unfold do0;rw[e]
  have c1:do1 mm k key val m (-1) root fr fs gn= -1:=by unfold do1;rw[e]
  have cR:doR mm k key val m (-1) root fr fs gn=qJ:=by unfold doR;rw[e]
  have c2:do2 mm k key val m (-1) root fr fs gn=pn:=by unfold do2;rw[e]
  have c3:do3 mm k key val m (-1) root fr fs gn=lK:=by unfold do3;rw[e]
  have c4:do4 mm k key val m (-1) root fr fs gn=rN:=by unfold do4;rw[e]
  have cX:doX mm k key val m (-1) root fr fs gn=w:=by unfold doX;rw[e]
  have more:=ih T' (by omega) (by omega)
  have del:k=2→w=0→Safe P 3 X KT (aqK l (bS E key) mm m' (-1) qJ pn lK rN ((i:Int)+1)):=fun a1 a2=>by
   rw[if_pos a2,wa a1]at hE2
   have:E'=bS E key:=hE2
   rw[←this]
   exact liV hX more
  have put:¬k=2→w=0→Safe P 3 X KT (aqK l (n7 key val false E) mm m' (-1) qJ pn lK rN ((i:Int)+1)):=fun a1 a2=>by
   rw[if_pos a2,stOp_put a1]at hE2
   have:E'=bt E key val:=hE2
   rw[afC key val E T.holds.v7.2,←this]
   exact liV hX more
  have er:¬w=0→Safe P 3 X KT (cLi l E mm m' (-1) qJ pn lK rN ((i:Int)+1)):=fun a=>by
   rw[if_neg a]at hE2
   rw[←hE2]
   exact more
  refine Lf.go hz hX jY Tryd.func3 (akB l E mm m (-1) root fr fs gn i k key val bi b w) ⟨fun h=>absurd (of_decide_eq_true h) hk,fun _=> ?_⟩
  rw[c0,c1,cR,c2,c3,c4,cX]
  refine⟨rfl,rfl,T.ok.d,T.ok.fr,hr,fun h=>absurd rfl (bne_iff_ne.1 h),fun _=>⟨fun w0=>⟨fun k2=>⟨rfl,rfl,by omega,hI,del (beq_iff_eq.1 k2) (beq_iff_eq.1 w0)⟩,fun k2=>⟨fun _=>⟨rfl,rfl,by omega,hI,put (beq_eq_false_iff_ne.1 k2) (beq_iff_eq.1 w0)⟩,fun w1=> ?_⟩⟩,fun w0=>⟨fun w1=> ?_,fun _=>⟨hI,er (beq_eq_false_iff_ne.1 w0)⟩⟩⟩⟩
  ·exact absurd (beq_iff_eq.1 w0) (beq_eq_false_iff_ne.1 w1)
  ·exact absurd (beq_iff_eq.1 w1) (beq_eq_false_iff_ne.1 w0)
theorem atx{l:List (CL iN)}{i:Nat}(hi:i<90){m:As}{root:Int}{fr fs gn:Ws}{h:Nat}{E:List En}{ps:List Int}{po:Nat}(T:TB m root fr fs gn h E ps po)(hp:po≤81*i)(hE:E.length≤i){k:Int}{key val:ByteArray}{bi:Bool}
 (hbi:bi=dq key none)
 (ih:∀{m:As} {root:Int} {fr fs gn:Ws} {h:Nat} {E:List En} {ps:List Int} {po:Nat},TB m root fr fs gn h E ps po→po≤81*(i+1)→E.length≤i+1→Safe P 3 X KT (cLi l E mm m (-1) root fr fs gn ((i:Int)+1))):
 ∀(n j:Nat) (b:Bool),j+n=E.length→b=(E.take j).any (ot key)→Safe P 3 X KT (afF l E mm m (-1) root fr fs gn (i:Int) k key val bi b (j:Int))
 |0,j,b,hj,hb=>by
  rw[List.take_of_length_le (by omega)]at hb
  have fin:∀{w:Int},(k≤2→w=wY key (stOp k val) E)→Safe P 3 X KT (akz l E mm m (-1) root fr fs gn (i:Int) k key val bi b w):=fun hw=>auU hX hz hi T hp hE hbi hb hw ih
  have hri:=T.holds.v7.2
  refine Lf.go hz hX jY Tryd.func3 (akA l E mm m (-1) root fr fs gn i k key val bi b j) ⟨fun h=>absurd (of_decide_eq_true h) (by omega),fun _=>⟨fun h=>fin fun _=> ?_,fun h=>⟨fun h1=>⟨fun h2=>fin fun _=> ?_,fun h2=>⟨fun h3=>⟨fun h4=>fin fun _=> ?_,fun h4=>fin fun _=> ?_⟩,fun h3=>fin fun _=> ?_⟩⟩,fun h1=>⟨fun h3=>⟨fun h4=>fin fun _=> ?_,fun h4=>fin fun _=> ?_⟩,fun h3=>fin fun hk=> ?_⟩⟩⟩⟩
  ·exact(anb (hbi.symm.trans (nf h))).symm
  ·have:=of_decide_eq_true h1;have h2:=of_decide_eq_true h2
   rw[stOp_put (by omega)]
   exact(anc (by omega)).symm
  ·have:=of_decide_eq_true h1;have h3:=beq_iff_eq.1 h3;omega
  ·have:=of_decide_eq_true h1;have h3:=beq_iff_eq.1 h3;omega
  ·have:=of_decide_eq_true h1;have h2:=of_decide_eq_false h2
   rw[stOp_put (by omega)]
   exact(ane (hbi.symm.trans (nt h)) (by omega)).symm
  ·rw[wa (beq_iff_eq.1 h3)]
   exact(aqG (hbi.symm.trans (nt h)) ((afE hri).trans (hb.symm.trans (nf h4)))).symm
  ·rw[wa (beq_iff_eq.1 h3)]
   exact(anf (hbi.symm.trans (nt h)) ((afE hri).trans (hb.symm.trans (nt h4)))).symm
  ·have:=of_decide_eq_false h1;have h3:=beq_eq_false_iff_ne.1 h3;omega
 |n+1,j,b,hj,hb=>by
  have s:=akC (p:=ot key) (l:=E) (k:=j) (d:=dE) (by omega)
  rw[←hb]at s
  have next:∀b',b'=(b||ot key (E.getD j dE))→Safe P 3 X KT (afF l E mm m (-1) root fr fs gn (i:Int) k key val bi b' ((j:Int)+1)):=fun b' sH=>atx hi T hp hE hbi ih n (j+1) b' (by omega) (sH.trans s.symm)
  refine Lf.go hz hX jY Tryd.func3 (akA l E mm m (-1) root fr fs gn i k key val bi b j) ⟨fun _=>⟨fun h=>⟨inI (by omega) (by omega),next _ ?_⟩,fun h=>⟨by omega,by omega,inI (by omega) (by omega),next _ ?_⟩⟩,fun h=>absurd (of_decide_eq_false h) (by omega)⟩
  ·have h:b=true:=h
   rw[h];rfl
  ·have h:b=false:=h
   rw[h];rfl
theorem li6{l:List (CL iN)}(hl:l.length≤90):∀(j k:Nat),k+j=l.length→∀{m:As} {root:Int} {fr fs gn:Ws} {h:Nat} {E:List En} {ps:List Int} {po:Nat},TB m root fr fs gn h E ps po→po≤81*k→E.length≤k→
 Safe P 3 X KT (cLi l E mm m (-1) root fr fs gn (k:Int))
 |0,k,hk,m,root,fr,fs,gn,h,E,ps,po,T,hp,hE=>by
  have hh:=T.small (by omega)
  obtain⟨l1,l2⟩:=yj T.holds T.inv.nd (by omega) ByteArray.empty
  refine Lf.go hz hX jY Tryd.func3 (atw l E mm m (-1) root fr fs gn k) ⟨fun h=>absurd (of_decide_eq_true h) (by omega),fun _=>⟨rfl,rfl,T.ok.d,T.rng,fun _=>⟨l2,by omega,zh⟩,fun h=> ?_⟩⟩
  rw[l1]at h;cases h
 |j+1,k,hk,m,root,fr,fs,gn,h,E,ps,po,T,hp,hE=>by
  have ih:∀{m:As} {root:Int} {fr fs gn:Ws} {h:Nat} {E:List En} {ps:List Int} {po:Nat},TB m root fr fs gn h E ps po→po≤81*(k+1)→E.length≤k+1→Safe P 3 X KT (cLi l E mm m (-1) root fr fs gn ((k:Int)+1)):=fun T a b=>li6 hl j (k+1) (by omega) T a b
  have go:∀bi,bi=dq (stA (el l k)) none→Safe P 3 X KT (afF l E mm m (-1) root fr fs gn (k:Int) (stK (el l k)) (stA (el l k)) (stV (el l k)) bi false ((0:Nat):Int)):=fun bi hbi=>atx hX hz (by omega) T hp hE hbi ih E.length 0 false (by omega) rfl
  refine Lf.go hz hX jY Tryd.func3 (atw l E mm m (-1) root fr fs gn k) ⟨fun _=>⟨by omega,by omega,fun h=>go _ ?_,fun h=>go _ ?_⟩,fun h=>absurd (of_decide_eq_false h) (by omega)⟩
  ·have h:=of_decide_eq_true h
   unfold dq
   rw[show decide (1≤(stA (el l k)).size)=true from decide_eq_true (by omega),Bool.true_and]
   by_cases h2:(stA (el l k)).size≤24
   ·rw[decide_eq_true h2];exact decide_eq_true (by omega)
   ·rw[decide_eq_false h2];exact decide_eq_false (by omega)
  ·have h:=of_decide_eq_false h
   unfold dq
   rw[show decide (1≤(stA (el l k)).size)=false from decide_eq_false (by omega)]
   rfl
end
theorem acg:dm P Bx.cn 3 [.b (.row (.ad iN) 32)] [cf] (fun _=>[]) (fun _=>(true,())):=by
 refine au Tryd.func3 (by kernel_rfl) (by kernel_rfl) ?_
 rintro⟨(l:List (CL iN)),⟨⟩⟩ ⟨(hl0:l.length≤maxLen),_⟩ _ X hX hz
 show Safe P 3 X KT _
 have hlen:l.length≤9223372036854775807:=by unfold maxLen at hl0;omega
 refine Lf.go hz hX jY Tryd.func3 (auT l) ⟨fun h=>(by cases h),fun _=>⟨rfl,rfl,hlen,fun _=>zh,fun hl=>⟨rfl,rfl,⟨by omega,by omega⟩, ?_⟩⟩⟩
 exact liV hX (li6 hX hz (by omega) l.length 0 (by omega) TI.big (by omega) (Nat.le_refl _))
end Ts
