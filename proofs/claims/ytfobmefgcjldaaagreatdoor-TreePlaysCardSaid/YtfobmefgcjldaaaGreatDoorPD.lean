/- Lemmas: R3, R4, R6, R7, R8, SxRoom, R9, R10, Bx1, Bx2, Bx3, Bx4, Bx5, Bx6, M0, Bx7, L7r, SxWeak, N1, N2, N3, N4, Rp, Hq, M1, N5, SxTup, N6, N7, M2, M3, N8, N9, N10, N11. -/
import Derived.Test.YtfobmefgcjldaaaGreatDoorProg
import Derived.Lib.TrailingZeros
import Derived.Shelf.Spec.TrailingZeros
import Derived.Test.YtfobmefgcjldaaaGreatDoorRows
import Derived.WalkKit
import Derived.WalkSpells
import Derived.WalkLawsBesides
import Derived.Test.YtfobmefgcjldaaaGreatDoorPC
open Go.Proofs.Tryz
open Go.IntKind (i64 u64 u8)
open Array (getD_eq_getD_getElem?)
open Bool (and_eq_false_iff and_eq_true cond_eq_ite not_eq_true' or_eq_true)
open ByteArray (empty)
open Int (toNat_natCast)
open List (append_assoc append_nil cons_append getElem?_append_left getElem?_append_right getElem?_eq_getElem getElem?_eq_none getElem?_set getElem?_take getElem_mem length_append length_cons length_drop length_map length_nil length_take map_cons mem_append mem_cons mem_map mem_singleton nil_append replicate take_of_length_le)
open Nat (le_of_ble_eq_true le_refl lt_or_ge zero_add zero_le)
open Option (getD_some isSome_iff_exists)
noncomputable section
namespace Lf
open Go Go.Sx Go.Proofs
def aaX:aF:=[(112,alg)]
def alj:List (Nat×Norm):=[(9,⟨[],[0,2,4,5],0,[(1,1,false,.ah cE [],uy),(1,2,false,.ah cB [],sR)]⟩)]
def tZ(s:ByteArray)(l:Bool)(es:List En)(bs:List Br)(i:Int):bQ:=⟨sl 131 [(0,.s (.str s)),(2,.ptr 0 0),(4,.ptr 1 0),(5,.s (.int .i64 i))],[ate,.ak [.s (.bool l),.vec 2,.vec 3] eRN,.vec (.ah cE es) uy,.vec (.ah cB bs) sR],hd f81 9,{}⟩
theorem alk(s:ByteArray):run P aaX.sum f81 alj (start f81 [.s (.str s)] [])=
 Tree.ite (decide ((↑s.size:Int)>254)) (.ret [.ak [.s (.aN false),.emp,.emp] 109] (.bd [.agg [.s (.aN false),.emp,.emp],.s (.aO .i64 40)])) (.ite ((↑s.size:Int)==0) (.ret [.ak [.s (.aN false),.emp,.emp] 109] (.bd [.agg [.s (.aN false),.emp,.emp],.s (.aO .i64 8)])) (.ab ((0:Int)<=0) (.ab ((0:Int)<(↑s.size:Int)) (.ite (ax s (Int.toNat 0) !=1) (.ab ((0:Int)<=0) (.ab ((0:Int)<(↑s.size:Int)) (.ite (ax s (Int.toNat 0) !=2) (.ret [.ak [.s (.aN false),.emp,.emp] 109] (.bd [.agg [.s (.aN false),.emp,.emp],.s (.aO .i64 4)])) (.ab ((0:Int)<=0) (.ab ((0:Int)<(↑s.size:Int)) (.at (tZ s (ax s (Int.toNat 0)==1) [] [] 1))))))) (.ab ((0:Int)<=0) (.ab ((0:Int)<(↑s.size:Int)) (.at (tZ s (ax s (Int.toNat 0)==1) [] [] 1)))))))):=by kernel_rfl
theorem acX(s:ByteArray)(l:Bool)(es:List En)(bs:List Br)(i:Int):run P aaX.sum f81 alj (tZ s l es bs i)=
 Tree.ite (decide (i<(↑s.size:Int)))
 (.ab ((0:Int)<=i)
   (.ab (i<(↑s.size:Int))
     (.ab (aw (ax s i.toNat))
       (.ab (aw (i+1))
         (.ab (aw (i+1+ax s i.toNat))
           (.ite (decide (i+1+ax s i.toNat>(↑s.size:Int))) (.ret [.ak [.s (.aN false),.emp,.emp] 109,.ak [.s (.bool l),.vec 2,.vec 3] 109,.vec (.ah cE es) 67,.vec (.ah cB bs) 113] (.bd [.agg [.s (.aN false),.emp,.emp],.s (.aO .i64 8)]))
             (.ab (aw (i+1))
               (.ab (aw (i+1))
                 (.ab (aw (i+1+ax s i.toNat))
                   (.ab ((0:Int)<=i+1)
                     (.ab (i+1<=i+1+ax s i.toNat)
                       (.ab (i+1+ax s i.toNat<=(↑s.size:Int))
                         (.ab (aw (i+1))
                           (.ab (aw (i+1+ax s i.toNat))
                             (.ite l (.ite (decide (i+1+ax s i.toNat>=(↑s.size:Int))) (.ret [.ak [.s (.aN false),.emp,.emp] 109,.ak [.s (.bool l),.vec 2,.vec 3] 109,.vec (.ah cE es) 67,.vec (.ah cB bs) 113] (.bd [.agg [.s (.aN false),.emp,.emp],.s (.aO .i64 8)])) (.ab (aw (i+1+ax s i.toNat+1)) (.ab ((0:Int)<=i+1+ax s i.toNat) (.ab (i+1+ax s i.toNat<(↑s.size:Int)) (.ab (aw (ax s (i+1+ax s i.toNat).toNat)) (.ab (aw (i+1+ax s i.toNat+1+ax s (i+1+ax s i.toNat).toNat)) (.ite (decide (i+1+ax s i.toNat+1+ax s (i+1+ax s i.toNat).toNat>(↑s.size:Int))) (.ret [.ak [.s (.aN false),.emp,.emp] 109,.ak [.s (.bool l),.vec 2,.vec 3] 109,.vec (.ah cE es) 67,.vec (.ah cB bs) 113] (.bd [.agg [.s (.aN false),.emp,.emp],.s (.aO .i64 8)])) (.ab ((0:Int)<=i+1+ax s i.toNat) (.ab (i+1+ax s i.toNat<(↑s.size:Int)) (.ab (aw (ax s (i+1+ax s i.toNat).toNat)) (.ab (aw (i+1+ax s i.toNat+1)) (.ab (aw (i+1+ax s i.toNat+1)) (.ab (aw (i+1+ax s i.toNat+1+ax s (i+1+ax s i.toNat).toNat)) (.ab ((0:Int)<=i+1+ax s i.toNat+1) (.ab (i+1+ax s i.toNat+1<=i+1+ax s i.toNat+1+ax s (i+1+ax s i.toNat).toNat) (.ab (i+1+ax s i.toNat+1+ax s (i+1+ax s i.toNat).toNat<=(↑s.size:Int)) (.ab ((es.length+1)*(32:Nat)<=140737488355328) (.ab (aw (i+1+ax s i.toNat+1)) (.ab (aw (i+1+ax s i.toNat+1+ax s (i+1+ax s i.toNat).toNat)) (.at (tZ s l (es++[(s.extract (i+1).toNat (i+1+ax s i.toNat).toNat,s.extract (i+1+ax s i.toNat+1).toNat (i+1+ax s i.toNat+1+ax s (i+1+ax s i.toNat).toNat).toNat,())]) bs (i+1+ax s i.toNat+1+ax s (i+1+ax s i.toNat).toNat))))))))))))))))))))))
                               (.ab (aw (i+1+ax s i.toNat+2)) (.ite (decide (i+1+ax s i.toNat+2>(↑s.size:Int))) (.ret [.ak [.s (.aN false),.emp,.emp] 109,.ak [.s (.bool l),.vec 2,.vec 3] 109,.vec (.ah cE es) 67,.vec (.ah cB bs) 113] (.bd [.agg [.s (.aN false),.emp,.emp],.s (.aO .i64 8)])) (.ab ((0:Int)<=i+1+ax s i.toNat) (.ab (i+1+ax s i.toNat<(↑s.size:Int)) (.ab (aw (ax s (i+1+ax s i.toNat).toNat)) (.ab (aw (ax s (i+1+ax s i.toNat).toNat*256)) (.ab (aw (i+1+ax s i.toNat+1)) (.ab ((0:Int)<=i+1+ax s i.toNat+1) (.ab (i+1+ax s i.toNat+1<(↑s.size:Int)) (.ab (aw (ax s (i+1+ax s i.toNat+1).toNat)) (.ab (aw (ax s (i+1+ax s i.toNat).toNat*256+ax s (i+1+ax s i.toNat+1).toNat)) (.ab ((bs.length+1)*(24:Nat)<=140737488355328) (.ab (aw (i+1+ax s i.toNat+2)) (.at (tZ s l es (bs++[(s.extract (i+1).toNat (i+1+ax s i.toNat).toNat,ax s (i+1+ax s i.toNat).toNat*256+ax s (i+1+ax s i.toNat+1).toNat,())]) (i+1+ax s i.toNat+2)))))))))))))))))))))))))))))))
 (.ite (!ch l es bs) (.ret [.ak [.s (.aN false),.emp,.emp] 109,.ak [.s (.bool l),.vec 2,.vec 3] 109,.vec (.ah cE es) 67,.vec (.ah cB bs) 113] (.bd [.agg [.s (.aN false),.emp,.emp],.s (.aO .i64 4)])) (.ret [.ak [.s (.bool l),.vec 2,.vec 3] 109,.ak [.s (.bool l),.vec 2,.vec 3] 109,.vec (.ah cE es) 67,.vec (.ah cB bs) 113] (.bd [.agg [.s (.bool l),.vec 2,.vec 3],.s (.aO .i64 0)]))):=by kernel_rfl
def sf(s:ByteArray)(k:Nat):ByteArray:=s.extract k s.size
theorem aoM(s:ByteArray)(k:Nat):U (sf s k)=(U s).drop k:=by
 rw[sf,iK,take_of_length_le (by rw[length_drop,ku];omega)]
theorem uY(s:ByteArray)(k:Nat):(sf s k).size=s.size - k:=by rw[sf,dN];omega
theorem alm(s:ByteArray){k:Nat}(h:s.size<=k):sf s k=empty:=fx (by rw[uY];omega)
theorem aaY(s:ByteArray)(k:Nat):∃b:Nat,ax s k=(b:Int)/\b<=255:=by
 have:=fZ s k;exact⟨(ax s k).toNat,by omega,by omega⟩
theorem uZ{s:ByteArray}{k b:Nat}(h:k<s.size)(hb:ax s k=(b:Int)):U (sf s k)=UInt8.ofNat b::U (sf s (k+1)):=by
 have hl:k<(U s).length:=by rw[ku];exact h
 have e:ax s k=((U s)[k].toNat:Int):=by simp[ax,List.getD,getElem?_eq_getElem hl]
 have e2:b=(U s)[k].toNat:=by omega
 rw[aoM,aoM,List.drop_eq_getElem_cons hl,e2];simp
theorem agO{s:ByteArray}{k b:Nat}(h:k+1+b<=s.size)(hb:ax s k=(b:Int))(hb2:b<=255):tY (sf s k)=true/\xN (sf s k)=s.extract (k+1) (k+1+b)/\im (sf s k)=sf s (k+1+b):=by
 have hz:(s.extract (k+1) (k+1+b)).size=b:=by rw[dN];omega
 have hu:U (sf s k)=oC (s.extract (k+1) (k+1+b))++U (sf s (k+1+b)):=by
  rw[uZ (by omega) hb,oC,hz,cons_append];congr 1;rw[aoM,aoM,iK,show k+1+b - (k+1)=b from by omega,show List.drop (k+1+b) (U s)=List.drop b (List.drop (k+1) (U s))from by rw[List.drop_drop],List.take_append_drop]
 have⟨h1,h2,h3⟩:=aoH hu (by omega);exact⟨h1,h2,mP h3⟩
theorem acY{s:ByteArray}{k b:Nat}(hk:k<s.size)(h:s.size<k+1+b)(hb:ax s k=(b:Int))(hb2:b<=255):tY (sf s k)=false:=by
 cases e:tY (sf s k);rfl;exfalso;have⟨h1,h2⟩:=aaS e;rw[uZ hk hb,oC]at h1;simp only[cons_append,List.cons.injEq]at h1
 have h3:b=(xN (sf s k)).size:=by
  have:=congrArg UInt8.toNat h1.1;simp only[UInt8.toNat_ofNat']at this;omega
 have h4:=congrArg List.length h1.2;rw[length_append,ku,ku,ku,uY]at h4;omega
theorem aoN{s:ByteArray}{k:Nat}(h:s.size<=k):tY (sf s k)=false:=by
 rw[alm s h];cases e:tY empty;rfl;have:=oB e;simp at this
theorem atf{s:ByteArray}{k a b:Nat}(h:k+2<=s.size)(ha:ax s k=(a:Int))(hb:ax s (k+1)=(b:Int))(ha2:a<=255)(hb2:b<=255):rG 2 (sf s k)=true/\ak8 (kF 2 (sf s k))=(a:Int)*256+b/\pt 2 (sf s k)=sf s (k+2):=by
 have hu:U (sf s k)=[UInt8.ofNat a,UInt8.ofNat b]++U (sf s (k+2)):=by
  rw[uZ (by omega) ha,uZ (by omega) hb];rfl
 have⟨h1,h2,h3⟩:=aaP (k:=2) hu rfl;refine⟨h1, ?_,mP h3⟩;rw[arc h2];simp only[UInt8.toNat_ofNat'];omega
theorem aiG{s:ByteArray}{k:Nat}(h:s.size<k+2):rG 2 (sf s k)=false:=by
 simp only[rG,uY,Bool.not_eq_false',decide_eq_true_eq];omega
theorem aoO{Z:aZ}:cg P Z 81 [cv] [oz,bk] (λ_=>[]) (λ(s,())=>((gT s,lJ s,kJ s,()),pv s,())):=by
 refine ay func81 (by kernel_rfl) (by kernel_rfl) ?_;rintro⟨(s:ByteArray),⟨⟩⟩ _ _ X hX hz;have hT:aaX.Ok P Z:=aF.Ok.cons aaV.sum aF.Ok.nil;have I:∀x:Int, -1000000<=x->x<=1000000->aw x:=λx h1 h2=>⟨by omega,by omega⟩;show Safe P 81 X (Ends [oz,bk] (acU s)) _;have loop:s.size<=254->∀(l:Bool) (n k:Nat) (es:List En) (bs:List Br),s.size<=k+n->k<=s.size->es.length+bs.length<=k->awe l (gi l n (sf s k) es bs)=acU s->
  Safe P 81 X (Ends [oz,bk] (acU s)) (tZ s l es bs (k:Int)):=by
  intro wQ l n
  have fin:∀(n k:Nat) (es:List En) (bs:List Br),k=s.size->awe l (gi l n (sf s k) es bs)=acU s->Safe P 81 X (Ends [oz,bk] (acU s)) (tZ s l es bs (k:Int)):=by
   intro n k es bs hk hy;rw[ak9 (by rw[alm s (by omega)];rfl)]at hy;refine go hz hX hT func81 (acX s l es bs k) ⟨λh=>absurd (of_decide_eq_true h) (by omega),λ_=>⟨λh=> ?_,λh=> ?_⟩⟩;refine aM ((false,[],[],()),4,()) ?_ (by kernel_rfl);rw[<-hy,if_neg (by simpa using h)];rfl;refine aM ((l,es,bs,()),0,()) ?_ (by kernel_rfl);rw[<-hy,if_pos (by simpa using h)];rfl
  induction n with
  |zero=>exact λk es bs hn hk _ hy=>fin 0 k es bs (by omega) hy
  |succ n ih=>
   intro k es bs hn hk ajW hy;by_cases hks:k=s.size;exact fin (n+1) k es bs hks hy;have br:k<s.size:=by omega
   have h0:sf s k≠empty:=λe=>by have:=uY s k;rw[e]at this;simp at this;omega
   have bad:gi l (n+1) (sf s k) es bs=(8,[],[])->((false,[],[],()),8,())=acU s:=λe=>by rw[<-hy,e];rfl
   have⟨b,hb,hb2⟩:=aaY s k;have⟨c,hc,hc2⟩:=aaY s (k+1+b);have⟨d,hd,hd2⟩:=aaY s (k+1+b+1);refine go hz hX hT func81 (acX s l es bs k) ?_;simp only[toNat_natCast,hb];rw[show((k:Int)+1+(b:Int)).toNat=k+1+b from by omega,show((k:Int)+1).toNat=k+1 from by omega,show((k:Int)+1+(b:Int)+1).toNat=k+1+b+1 from by omega];simp only[hc,hd];rw[show((k:Int)+1+(b:Int)+1+(c:Int)).toNat=k+1+b+1+c from by omega];refine⟨λh=> ?_,λh=>absurd (of_decide_eq_false h) (by omega)⟩;refine⟨by omega,by omega,I _ (by omega) (by omega),I _ (by omega) (by omega),I _ (by omega) (by omega),λh1=> ?_,λh1=> ?_⟩;refine aM ((false,[],[],()),8,()) (bad ?_).symm (by kernel_rfl);have h1:=of_decide_eq_true h1;rw[gi,if_neg h0,if_pos (acY br (by omega) hb hb2)];have h1:=of_decide_eq_false h1;have⟨t1,t2,t3⟩:=agO (by omega) hb hb2;refine⟨I _ (by omega) (by omega),I _ (by omega) (by omega),I _ (by omega) (by omega),by omega,by omega,by omega,I _ (by omega) (by omega),I _ (by omega) (by omega),λhl=>⟨λh2=> ?_,λh2=>⟨I _ (by omega) (by omega),by omega, ?_⟩⟩,λhl=>⟨I _ (by omega) (by omega),λh2=> ?_,λh2=> ?_⟩⟩;have h2:=of_decide_eq_true h2;refine aM ((false,[],[],()),8,()) (bad ?_).symm (by kernel_rfl);rw[gi,if_neg h0,if_neg (by simp[t1]),if_pos hl,if_neg (by rw[t3,aoN (by omega)];simp)];have h2:=of_decide_eq_false h2;refine⟨by omega,I _ (by omega) (by omega),I _ (by omega) (by omega),λh3=> ?_,λh3=> ?_⟩;have h3:=of_decide_eq_true h3;refine aM ((false,[],[],()),8,()) (bad ?_).symm (by kernel_rfl);rw[gi,if_neg h0,if_neg (by simp[t1]),if_pos hl,if_neg (by rw[t3,acY (by omega) (by omega) hc hc2];simp)];have h3:=of_decide_eq_false h3;have⟨u1,u2,u3⟩:=agO (s:=s) (k:=k+1+b) (b:=c) (by omega) hc hc2;refine⟨by omega,by omega,I _ (by omega) (by omega),I _ (by omega) (by omega),I _ (by omega) (by omega),I _ (by omega) (by omega),by omega,by omega,by omega,by omega,I _ (by omega) (by omega),I _ (by omega) (by omega), ?_⟩;have:=ih (k+1+b+1+c) (es++[(s.extract (k+1) (k+1+b),s.extract (k+1+b+1) (k+1+b+1+c),())]) bs (by omega) (by omega) (by simp only[length_append,length_cons,length_nil];omega)
    (by rw[<-hy,gi,if_neg h0,if_neg (by simp[t1]),if_pos hl,if_pos (by rw[t3];exact u1),t3,t2,u2,u3])
   rw[show((k+1+b+1+c:Nat):Int)=(k:Int)+1+b+1+c from by omega]at this;exact this;have h2:=of_decide_eq_true h2;refine aM ((false,[],[],()),8,()) (bad ?_).symm (by kernel_rfl);rw[gi,if_neg h0,if_neg (by simp[t1]),if_neg (by simp[hl]),if_neg (by rw[t3,aiG (by omega)];simp)];have h2:=of_decide_eq_false h2;have⟨u1,u2,u3⟩:=atf (s:=s) (k:=k+1+b) (by omega) hc hd hc2 hd2;refine⟨by omega,by omega,I _ (by omega) (by omega),I _ (by omega) (by omega),I _ (by omega) (by omega),by omega,by omega,I _ (by omega) (by omega),I _ (by omega) (by omega),by omega,I _ (by omega) (by omega), ?_⟩;have:=ih (k+1+b+2) es (bs++[(s.extract (k+1) (k+1+b),(c:Int)*256+d,())]) (by omega) (by omega) (by simp only[length_append,length_cons,length_nil];omega)
    (by rw[<-hy,gi,if_neg h0,if_neg (by simp[t1]),if_neg (by simp[hl]),if_pos (by rw[t3];exact u1),t3,t2,u2,u3])
   rw[show((k+1+b+2:Nat):Int)=(k:Int)+1+b+2 from by omega]at this;exact this
 have err:∀(c:Int) (_:decide (c=0)=false),jP s=(c,[],[])->acU s=((false,[],[],()),c,()):=λc hc e=>by
  show((decide ((jP s).1=0)&&(ax s 0==1),(jP s).2.1,(jP s).2.2,()),(jP s).1,())=_;rw[e,hc];rfl
 have first:(s.size:Int)<=254->s≠empty->¬(ax s 0≠1/\ax s 0≠2)->Safe P 81 X (Ends [oz,bk] (acU s)) (tZ s (ax s 0==1) [] [] 1):=λh1 h2 h3=>by
  have hp:0<s.size:=Nat.pos_of_ne_zero λe=>h2 (fx e);have e:jP s=gi (ax s 0==1) s.size (sf s 1) [] []:=by rw[jP,if_neg (by omega),if_neg h2,if_neg h3];rfl
  exact loop (by omega) (ax s 0==1) s.size 1 [] [] (by omega) (by omega) (by simp) (by rw[<-e];rfl)
 refine go hz hX hT func81 (alk s) ⟨λh=>aM ((false,[],[],()),40,()) (err 40 rfl ?_) (by kernel_rfl),λh=>⟨λh2=>aM ((false,[],[],()),8,()) (err 8 rfl ?_) (by kernel_rfl),λh2=> ?_⟩⟩;rw[jP,if_pos (of_decide_eq_true h)];rw[jP,if_neg (of_decide_eq_false h),if_pos (fx (by simpa using h2))];have h:=of_decide_eq_false h;have h2:s≠empty:=λe=>by subst e;simp at h2
 have hp:0<s.size:=Nat.pos_of_ne_zero λe=>h2 (fx e);refine⟨by omega,by omega,λh3=>⟨by omega,by omega,λh4=>aM ((false,[],[],()),4,()) (err 4 rfl ?_) (by kernel_rfl),λh4=>⟨by omega,by omega,first (by omega) h2 ?_⟩⟩,λh3=>⟨by omega,by omega,first (by omega) h2 ?_⟩⟩;have h3:ax s 0≠1:=by simpa using h3
 have h4:ax s 0≠2:=by simpa using h4
 rw[jP,if_neg h,if_neg h2,if_pos ⟨h3,h4⟩];have h4:ax s 0=2:=by simpa using h4
 exact λe=>e.2 h4;have h3:ax s 0=1:=by simpa using h3
 exact λe=>e.1 h3
abbrev atg:=bM [rC] [rC] (λ(l,())=>[(l:List En).length<=100000]) (λ(l,())=>(l,()))
abbrev ayF:=bM [yd] [yd] (λ(l,())=>[(l:List Br).length<=100000]) (λ(l,())=>(l,()))
def afs:aF:=[(67,atg),(134,ayF)]
abbrev awo:=bM [rC,bk] [rC,rC] (λ(l,k,())=>[(l:List En).length<=100000,0<=(k:Int),(l=[]\/k<=(l.length:Int))]) (λ(l,k,())=>(List.take (Int.toNat k) l,List.drop (Int.toNat k) l,()))
abbrev awp:=bM [yd,bk] [yd,yd] (λ(l,k,())=>[(l:List Br).length<=100000,0<=(k:Int),(l=[]\/k<=(l.length:Int))]) (λ(l,k,())=>(List.take (Int.toNat k) l,List.drop (Int.toNat k) l,()))
def aft:aF:=[(119,akV),(108,ata),(114,aq7),(120,awo),(121,awp)]
def arf:List (Nat×Norm):=[(7,⟨[],[1,2,3,6,7,8,9,34,35,36],0,[]⟩)]
def gv(l:Bool)(es:List En):List En:=if l=true then es else []
def gw(l:Bool)(bs:List Br):List Br:=if l=true then []else bs
abbrev awq:=bM [oz,bk] [oz,oz] (λ((l,es,bs,()),k,())=>[(es:List En).length<=100000,(bs:List Br).length<=100000,0<=(k:Int),((l:Bool)=true->k<=(es.length:Int)),(l=false->k<=(bs.length:Int))])
 (λ((l,es,bs,()),k,())=>((l,gv l (List.take (Int.toNat k) es),gw l (List.take (Int.toNat k) bs),()),(l,gv l (List.drop (Int.toNat k) es),gw l (List.drop (Int.toNat k) bs),()),()))
def aaZ:aF:=[(112,alg),(123,ale),(124,awq)]
def aln:List (Nat×Norm):=[(6,⟨[],[1,2,3,5,6,7,8],0,[]⟩)]
def aiH(l:Bool)(es:List En)(bs:List Br)(zs:List Int)(n:Nat)(first rest jl least i:Int):bQ:=⟨sl 87 [(1,.ptr 0 0),(2,.ptr 1 0),(3,.ptr 2 0),(6,.s (.int .i64 first)),(7,.s (.int .i64 rest)),(8,.s (.int .i64 jl)),(9,.s (.int .i64 least)),(34,.part 3 0 n),(35,.s (.int .i64 (n:Int))),(36,.s (.int .i64 i))],
 [rD l es bs 99,obZ,obZ,.vec (.af .i64 zs) 3],hd f89 7,{}⟩
def zg(l:Bool)(es:List En)(bs:List Br)(m jl least i:Int):bQ:=⟨sl 63 [(1,.ptr 0 0),(2,.ptr 1 0),(3,.ptr 2 0),(5,.s (.int .i64 m)),(6,.s (.int .i64 jl)),(7,.s (.int .i64 least)),(8,.s (.int .i64 i))],
 [rD l es bs eRN,ate,ate],hd f100 6,{}⟩
theorem aoP(a:List En):run P dK.sum f67 [] (start f67 [.s (.ro (.ah cE a))] [])=
 Tree.both (a.length=0) True (.ret [] .emp) (.ab (((0:Nat)+a.length)*(32:Nat)<=140737488355328) (.ret [.aH,.vec (.ah cE ([]++a)) 66] (.vec 1))):=by kernel_rfl
theorem aoQ(a:List Br):run P dK.sum f134 [] (start f134 [.s (.ro (.ah cB a))] [])=
 Tree.both (a.length=0) True (.ret [] .emp) (.ab (((0:Nat)+a.length)*(24:Nat)<=140737488355328) (.ret [.aH,.vec (.ah cB ([]++a)) 105] (.vec 1))):=by kernel_rfl
theorem alo(a:List En)(k:Int):run P afs.sum f120 [] (start f120 [.s (.ro (.ah cE a)),.s (.int .i64 k)] [])=
 Tree.ite ((↑a.length:Int)==0) (.ret [] (.bd [.emp,.emp])) (.ab ((0:Int)<=0) (.ab ((0:Int)<=k) (.ab (k<=a.length) (.ab ((List.drop (Int.toNat 0) (List.take k.toNat a)).length<=100000) (.ab ((0:Int)<=k) (.ab (k<=a.length) (.ab ((↑a.length:Int)<=(↑a.length:Int)) (.ab ((List.drop k.toNat (List.take (↑a.length:Int).toNat a)).length<=100000) (.ret [.vec (.ah cE (List.drop (Int.toNat 0) (List.take k.toNat a))) 66,.vec (.ah cE (List.drop k.toNat (List.take (↑a.length:Int).toNat a))) 66] (.bd [.vec 0,.vec 1])))))))))):=by kernel_rfl
theorem alp(a:List Br)(k:Int):run P afs.sum f121 [] (start f121 [.s (.ro (.ah cB a)),.s (.int .i64 k)] [])=
 Tree.ite ((↑a.length:Int)==0) (.ret [] (.bd [.emp,.emp])) (.ab ((0:Int)<=0) (.ab ((0:Int)<=k) (.ab (k<=a.length) (.ab ((List.drop (Int.toNat 0) (List.take k.toNat a)).length<=100000) (.ab ((0:Int)<=k) (.ab (k<=a.length) (.ab ((↑a.length:Int)<=(↑a.length:Int)) (.ab ((List.drop k.toNat (List.take (↑a.length:Int).toNat a)).length<=100000) (.ret [.vec (.ah cB (List.drop (Int.toNat 0) (List.take k.toNat a))) 105,.vec (.ah cB (List.drop k.toNat (List.take (↑a.length:Int).toNat a))) 105] (.bd [.vec 0,.vec 1])))))))))):=by kernel_rfl
theorem aoR(l:Bool)(es:List En)(bs:List Br):run P aft.sum f89 arf (start f89 [sS l es bs] [])=
 Tree.ab (aY es) (.ab (aV bs) (.ite (!ch l es bs) (.ret [.ak [.s (.bool l),.s (.ro (.ah cE es)),.s (.ro (.ah cB bs))] 99,.ak [.s (.aN false),.emp,.emp] 99,.ak [.s (.aN false),.emp,.emp] 99,.vec (.af .i64 (aQ es bs)) 3] (.bd [.agg [.s (.aN false),.emp,.emp],.agg [.s (.aN false),.emp,.emp],.s (.aO .i64 4)])) (.ite (decide ((↑(aQ es bs).length:Int)<2)) (.ret [.ak [.s (.bool l),.s (.ro (.ah cE es)),.s (.ro (.ah cB bs))] 99,.ak [.s (.aN false),.emp,.emp] 99,.ak [.s (.aN false),.emp,.emp] 99,.vec (.af .i64 (aQ es bs)) 3] (.bd [.agg [.s (.aN false),.emp,.emp],.agg [.s (.aN false),.emp,.emp],.s (.aO .i64 4)])) (.ab (aY es) (.ab (aV bs) (.ab (aw (bw es bs - (1:Int))) (.ab (aw ((↑(aQ es bs).length:Int) - (1:Int))) (.ab ((0:Int)<=0) (.ab ((0:Int)<=(↑(aQ es bs).length:Int) - (1:Int)) (.ab ((↑(0:Nat):Int)+((↑(aQ es bs).length:Int) - (1:Int))<=(↑(aQ es bs).length:Int)) (.at (aiH l es bs (aQ es bs) (((↑(aQ es bs).length:Int) - (1:Int)).toNat - Int.toNat 0) 0 (bw es bs - (1:Int)) 0 0 0)))))))))))):=by kernel_rfl
theorem alq(l:Bool)(es:List En)(bs:List Br)(k:Int):run P dK.sum f124 [] (start f124 [sS l es bs,.s (.int .i64 k)] [])=
 Tree.ite l (.ab ((0:Int)<=0) (.ab ((0:Int)<=k) (.ab (k<=es.length) (.ab ((List.drop (Int.toNat 0) (List.take k.toNat es)).length*(32:Nat)<=140737488355328) (.ab ((0:Int)<=k) (.ab (k<=es.length) (.ab ((↑es.length:Int)<=(↑es.length:Int)) (.ab ((List.drop k.toNat (List.take (↑es.length:Int).toNat es)).length*(32:Nat)<=140737488355328) (.ret [.ak [.s (.bool l),.s (.ro (.ah cE es)),.s (.ro (.ah cB bs))] 109,.ak [.s (.bool l),.vec 5,.emp] 109,.ak [.s (.bool l),.vec 6,.emp] 109,.ak [.s (.bool l),.vec 5,.emp] 109,.ak [.s (.bool l),.vec 6,.emp] 109,.vec (.ah cE (List.drop (Int.toNat 0) (List.take k.toNat es))) 67,.vec (.ah cE (List.drop k.toNat (List.take (↑es.length:Int).toNat es))) 67] (.bd [.agg [.s (.bool l),.vec 5,.emp],.agg [.s (.bool l),.vec 6,.emp]])))))))))) (.ab ((0:Int)<=0) (.ab ((0:Int)<=k) (.ab (k<=bs.length) (.ab ((List.drop (Int.toNat 0) (List.take k.toNat bs)).length*(24:Nat)<=140737488355328) (.ab ((0:Int)<=k) (.ab (k<=bs.length) (.ab ((↑bs.length:Int)<=(↑bs.length:Int)) (.ab ((List.drop k.toNat (List.take (↑bs.length:Int).toNat bs)).length*(24:Nat)<=140737488355328) (.ret [.ak [.s (.bool l),.s (.ro (.ah cE es)),.s (.ro (.ah cB bs))] 109,.ak [.s (.bool l),.emp,.vec 5] 109,.ak [.s (.bool l),.emp,.vec 6] 109,.ak [.s (.bool l),.emp,.vec 5] 109,.ak [.s (.bool l),.emp,.vec 6] 109,.vec (.ah cB (List.drop (Int.toNat 0) (List.take k.toNat bs))) 113,.vec (.ah cB (List.drop k.toNat (List.take (↑bs.length:Int).toNat bs))) 113] (.bd [.agg [.s (.bool l),.emp,.vec 5],.agg [.s (.bool l),.emp,.vec 6]])))))))))):=by kernel_rfl
theorem alr(l:Bool)(es:List En)(bs:List Br):run P aaZ.sum f100 aln (start f100 [sS l es bs] [])=
 Tree.ab (aw ((↑es.length:Int)+(↑bs.length:Int))) (.ite (!ch l es bs) (.ret [.ak [.s (.bool l),.s (.ro (.ah cE es)),.s (.ro (.ah cB bs))] 109,.ak [.s (.aN false),.emp,.emp] 109,.ak [.s (.aN false),.emp,.emp] 109] (.bd [.agg [.s (.aN false),.emp,.emp],.agg [.s (.aN false),.emp,.emp],.s (.aO .i64 4)])) (.ite (decide ((↑es.length:Int)+(↑bs.length:Int)<2)) (.ret [.ak [.s (.bool l),.s (.ro (.ah cE es)),.s (.ro (.ah cB bs))] 109,.ak [.s (.aN false),.emp,.emp] 109,.ak [.s (.aN false),.emp,.emp] 109] (.bd [.agg [.s (.aN false),.emp,.emp],.agg [.s (.aN false),.emp,.emp],.s (.aO .i64 4)])) (.at (zg l es bs ((↑es.length:Int)+(↑bs.length:Int)) 0 0 1)))):=by kernel_rfl
theorem agP(l:Bool)(es:List En)(bs:List Br)(zs:List Int)(n:Nat)(first rest jl least i:Int):run P aft.sum f89 arf (aiH l es bs zs n first rest jl least i)=
 Tree.ite (decide (i<(↑n:Int))) (.ab ((0:Int)<=i) (.ab (i<(↑n:Int)) (.ab (aw (first+zs.getD ((0:Nat)+i.toNat) 0)) (.ab (aw (rest - zs.getD ((0:Nat)+i.toNat) 0)) (.ite (jl==0) (.ab (aw (i+1)) (.ab (aw (i+1)) (.at (aiH l es bs zs n (first+zs.getD ((0:Nat)+i.toNat) 0) (rest - zs.getD ((0:Nat)+i.toNat) 0) (i+1) (imax (first+zs.getD ((0:Nat)+i.toNat) 0) (rest - zs.getD ((0:Nat)+i.toNat) 0)) (i+1))))) (.ite (decide (imax (first+zs.getD ((0:Nat)+i.toNat) 0) (rest - zs.getD ((0:Nat)+i.toNat) 0)<least)) (.ab (aw (i+1)) (.ab (aw (i+1)) (.at (aiH l es bs zs n (first+zs.getD ((0:Nat)+i.toNat) 0) (rest - zs.getD ((0:Nat)+i.toNat) 0) (i+1) (imax (first+zs.getD ((0:Nat)+i.toNat) 0) (rest - zs.getD ((0:Nat)+i.toNat) 0)) (i+1))))) (.ab (aw (i+1)) (.at (aiH l es bs zs n (first+zs.getD ((0:Nat)+i.toNat) 0) (rest - zs.getD ((0:Nat)+i.toNat) 0) jl least (i+1)))))))))) (.ab (es.length<=100000) (.ab ((0:bk.V)<=jl) (.ab (es=[]\/jl<=es.length) (.ab (bs.length<=100000) (.ab ((0:bk.V)<=jl) (.ab (bs=[]\/jl<=bs.length) (.ret [.ak [.s (.bool l),.s (.ro (.ah cE es)),.s (.ro (.ah cB bs))] 99,.ak [.s (.bool l),.vec 6,.vec 8] 99,.ak [.s (.bool l),.vec 7,.vec 9] 99,.vec (.af .i64 zs) 3,.ak [.s (.bool l),.vec 6,.vec 8] 99,.ak [.s (.bool l),.vec 7,.vec 9] 99,.vec (.ah cE (List.take jl.toNat es)) 66,.vec (.ah cE (List.drop jl.toNat es)) 66,.vec (.ah cB (List.take jl.toNat bs)) 105,.vec (.ah cB (List.drop jl.toNat bs)) 105] (.bd [.agg [.s (.bool l),.vec 6,.vec 8],.agg [.s (.bool l),.vec 7,.vec 9],.s (.aO .i64 0)])))))))):=by kernel_rfl
theorem acZ(l:Bool)(es:List En)(bs:List Br)(m jl least i:Int):run P aaZ.sum f100 aln (zg l es bs m jl least i)=
 Tree.ite (decide (i<m)) (.ab (es.length<=100000) (.ab (bs.length<=100000) (.ab ((0:bk.V)<=i) (.ab (l=true->i<=es.length) (.ab (l=false->i<=bs.length) (.ab (aY (gv l (List.take i.toNat es))) (.ab (aV (gw l (List.take i.toNat bs))) (.ab (aY (gv l (List.drop i.toNat es))) (.ab (aV (gw l (List.drop i.toNat bs))) (.ite (jl==0) (.ab (aw (i+1)) (.at (zg l es bs m i (imax (bw (gv l (List.take i.toNat es)) (gw l (List.take i.toNat bs))) (bw (gv l (List.drop i.toNat es)) (gw l (List.drop i.toNat bs)))) (i+1)))) (.ite (decide (imax (bw (gv l (List.take i.toNat es)) (gw l (List.take i.toNat bs))) (bw (gv l (List.drop i.toNat es)) (gw l (List.drop i.toNat bs)))<least)) (.ab (aw (i+1)) (.at (zg l es bs m i (imax (bw (gv l (List.take i.toNat es)) (gw l (List.take i.toNat bs))) (bw (gv l (List.drop i.toNat es)) (gw l (List.drop i.toNat bs)))) (i+1)))) (.ab (aw (i+1)) (.at (zg l es bs m jl least (i+1))))))))))))))) (.ab (es.length<=100000) (.ab (bs.length<=100000) (.ab ((0:bk.V)<=jl) (.ab (l=true->jl<=es.length) (.ab (l=false->jl<=bs.length) (.ret [.ak [.s (.bool l),.s (.ro (.ah cE es)),.s (.ro (.ah cB bs))] 109,.ak [.s (.bool l),.vec 3,.vec 4] 109,.ak [.s (.bool l),.vec 5,.vec 6] 109,.vec (.ah cE (gv l (List.take jl.toNat es))) 67,.vec (.ah cB (gw l (List.take jl.toNat bs))) 113,.vec (.ah cE (gv l (List.drop jl.toNat es))) 67,.vec (.ah cB (gw l (List.drop jl.toNat bs))) 113,.ak [.s (.bool l),.vec 3,.vec 4] 109,.ak [.s (.bool l),.vec 5,.vec 6] 109] (.bd [.agg [.s (.bool l),.vec 3,.vec 4],.agg [.s (.bool l),.vec 5,.vec 6],.s (.aO .i64 0)]))))))):=by kernel_rfl
theorem afu{Z:aZ}:cg P Z 67 [rC] [rC] (λ(l,())=>[(l:List En).length<=100000]) (λ(l,())=>(l,())):=by
 refine ay func67 (by kernel_rfl) (by kernel_rfl) ?_;rintro⟨(l:List En),⟨⟩⟩ _ ⟨(hl:l.length<=100000),_⟩ X hX hz;refine go hz hX aF.Ok.nil func67 (aoP l) ⟨λh=> ?_,λ_=>⟨by omega, ?_⟩⟩;obtain rfl:=List.eq_nil_of_length_eq_zero h;exact aM ([],()) rfl (by kernel_rfl);exact aM (l,()) rfl (by kernel_rfl)
theorem ath{Z:aZ}:cg P Z 134 [yd] [yd] (λ(l,())=>[(l:List Br).length<=100000]) (λ(l,())=>(l,())):=by
 refine ay func134 (by kernel_rfl) (by kernel_rfl) ?_;rintro⟨(l:List Br),⟨⟩⟩ _ ⟨(hl:l.length<=100000),_⟩ X hX hz;refine go hz hX aF.Ok.nil func134 (aoQ l) ⟨λh=> ?_,λ_=>⟨by omega, ?_⟩⟩;obtain rfl:=List.eq_nil_of_length_eq_zero h;exact aM ([],()) rfl (by kernel_rfl);exact aM (l,()) rfl (by kernel_rfl)
theorem zh{Z:aZ}:afs.Ok P Z:=aF.Ok.cons afu.sum (aF.Ok.cons ath.sum aF.Ok.nil)
theorem aoS{Z:aZ}:cg P Z 120 [rC,bk] [rC,rC] (λ(l,k,())=>[(l:List En).length<=100000,0<=(k:Int),(l=[]\/k<=(l.length:Int))]) (λ(l,k,())=>(List.take (Int.toNat k) l,List.drop (Int.toNat k) l,())):=by
 refine ay func120 (by kernel_rfl) (by kernel_rfl) ?_;rintro⟨(l:List En),(k:Int),⟨⟩⟩ _ ⟨(hl:l.length<=100000),(h0:0<=k),(hk:l=[]\/k<=(l.length:Int)),_⟩ X hX hz;show Safe P 120 X (Ends [rC,rC] (l.take k.toNat,l.drop k.toNat,())) _;refine go hz hX zh func120 (alo l k) ⟨λh=> ?_,λh=> ?_⟩
 obtain rfl:l=[]:=List.eq_nil_of_length_eq_zero (by have:(l.length:Int)=0:=by simpa using h
                                                    omega)
 refine aM (rs:=[rC,rC]) ([],[],()) ?_ (by kernel_rfl);show(List.take k.toNat ([]:List En),List.drop k.toNat ([]:List En),())=([],[],());rw[List.take_nil,List.drop_nil];have hk:k<=(l.length:Int):=hk.elim (λe=>by subst e;simp at h) id;have e1:List.drop (Int.toNat 0) (List.take k.toNat l)=l.take k.toNat:=rfl;have e2:List.drop k.toNat (List.take ((l.length:Int)).toNat l)=l.drop k.toNat:=by rw[take_of_length_le (by omega)]
 refine⟨by omega,h0,hk, ?_,h0,hk,by omega, ?_, ?_⟩;rw[e1,length_take];omega;rw[e2,length_drop];omega;exact aM (List.drop (Int.toNat 0) (List.take k.toNat l),List.drop k.toNat (List.take ((l.length:Int)).toNat l),()) (by rw[e2];rfl) (by kernel_rfl)
theorem aoT{Z:aZ}:cg P Z 121 [yd,bk] [yd,yd] (λ(l,k,())=>[(l:List Br).length<=100000,0<=(k:Int),(l=[]\/k<=(l.length:Int))]) (λ(l,k,())=>(List.take (Int.toNat k) l,List.drop (Int.toNat k) l,())):=by
 refine ay func121 (by kernel_rfl) (by kernel_rfl) ?_;rintro⟨(l:List Br),(k:Int),⟨⟩⟩ _ ⟨(hl:l.length<=100000),(h0:0<=k),(hk:l=[]\/k<=(l.length:Int)),_⟩ X hX hz;show Safe P 121 X (Ends [yd,yd] (l.take k.toNat,l.drop k.toNat,())) _;refine go hz hX zh func121 (alp l k) ⟨λh=> ?_,λh=> ?_⟩
 obtain rfl:l=[]:=List.eq_nil_of_length_eq_zero (by have:(l.length:Int)=0:=by simpa using h
                                                    omega)
 refine aM (rs:=[yd,yd]) ([],[],()) ?_ (by kernel_rfl);show(List.take k.toNat ([]:List Br),List.drop k.toNat ([]:List Br),())=([],[],());rw[List.take_nil,List.drop_nil];have hk:k<=(l.length:Int):=hk.elim (λe=>by subst e;simp at h) id;have e1:List.drop (Int.toNat 0) (List.take k.toNat l)=l.take k.toNat:=rfl;have e2:List.drop k.toNat (List.take ((l.length:Int)).toNat l)=l.drop k.toNat:=by rw[take_of_length_le (by omega)]
 refine⟨by omega,h0,hk, ?_,h0,hk,by omega, ?_, ?_⟩;rw[e1,length_take];omega;rw[e2,length_drop];omega;exact aM (List.drop (Int.toNat 0) (List.take k.toNat l),List.drop k.toNat (List.take ((l.length:Int)).toNat l),()) (by rw[e2];rfl) (by kernel_rfl)
def nt(zs:List Int)(k:Nat):Int:=imax (zs.take k).sum (zs.sum - (zs.take k).sum)
def fl(zs:List Int):Nat->Nat×Int
 |0=>(0,0)|k+1=>if(fl zs k).1=0\/nt zs (k+1)<(fl zs k).2 then(k+1,nt zs (k+1))else fl zs k
theorem rI(zs:List Int):∀k,(fl zs k).1<=k
 |0=>le_refl _|k+1=>by
  have:=rI zs k;rw[fl];split;exact le_refl _;omega
theorem ac0(zs:List Int):∀k,0<k->0<(fl zs k).1
 |0,h=>absurd h (by omega)
 |k+1,_=>by
  rw[fl];split;exact Nat.succ_pos _;rename_i h;exact Nat.pos_of_ne_zero (λe=>h (.inl e))
def e9(es:List En)(bs:List Br):Nat:=(fl (aQ es bs) (es.length+bs.length - 1)).1
def fc(l:Bool)(es:List En)(bs:List Br):Bool:=ch l es bs&&decide (2<=es.length+bs.length)
def ct(l:Bool)(es:List En)(bs:List Br):Bool:=fc l es bs&&l
def bz(l:Bool)(es:List En)(bs:List Br):List En:=if fc l es bs=true then es.take (e9 es bs)else []
def eH(l:Bool)(es:List En)(bs:List Br):List En:=if fc l es bs=true then es.drop (e9 es bs)else []
def bA(l:Bool)(es:List En)(bs:List Br):List Br:=if fc l es bs=true then bs.take (e9 es bs)else []
def eI(l:Bool)(es:List En)(bs:List Br):List Br:=if fc l es bs=true then bs.drop (e9 es bs)else []
def u4(l:Bool)(es:List En)(bs:List Br):Int:=if fc l es bs=true then 0 else 4
abbrev spY(l:Bool)(es:List En)(bs:List Br):AL [er,er,bk]:=((ct l es bs,bz l es bs,bA l es bs,()),(ct l es bs,eH l es bs,eI l es bs,()),u4 l es bs,())
theorem afv{l:Bool}{es:List En}{bs:List Br}(h:fc l es bs=false):spY l es bs=((false,[],[],()),(false,[],[],()),4,()):=by
 simp[spY,ct,bz,eH,bA,eI,u4,h];rfl
theorem agQ{l:Bool}{es:List En}{bs:List Br}(h:fc l es bs=true):spY l es bs=((l,es.take (e9 es bs),bs.take (e9 es bs),()),(l,es.drop (e9 es bs),bs.drop (e9 es bs),()),0,()):=by
 simp[spY,ct,bz,eH,bA,eI,u4,h];rfl
theorem qo(es:List En)(bs:List Br):(aQ es bs).length=es.length+bs.length:=by simp[aQ]
theorem aiI{zs:List Int}(h:∀x∈zs,0<=x/\x<=2002)(hl:zs.length<=2000)(k:Nat):0<=(zs.take k).sum/\(zs.take k).sum<=4004000:=by
 have:=mi (l:=zs.take k) (m:=2002) (λx hx=>h x (List.mem_of_mem_take hx)) (by omega);have h3:(zs.take k).length<=2000:=by rw[length_take];omega
 omega
theorem als{Z:aZ}:cg P Z 89 [er] [er,er,bk] (λ((_,es,bs,()),())=>[aY es,aV bs])
 (λ((l,es,bs,()),())=>((ct l es bs,bz l es bs,bA l es bs,()),(ct l es bs,eH l es bs,eI l es bs,()),u4 l es bs,())):=by
 refine ay func89 (by kernel_rfl) (by kernel_rfl) ?_;rintro⟨⟨(l:Bool),(es:List En),(bs:List Br),⟨⟩⟩,⟨⟩⟩ _ ⟨(he:aY es),(hb:aV bs),_⟩ X hX hz;have hT:aft.Ok P Z:=aF.Ok.cons rE.sum (aF.Ok.cons afh.sum (aF.Ok.cons agB.sum (aF.Ok.cons aoS.sum (aF.Ok.cons aoT.sum aF.Ok.nil))));show Safe P 89 X (Ends [er,er,bk] (spY l es bs)) _;have hle:=he.1;have hlb:=hb.1;have bx:=qo es bs;have hr:=y7 he hb;have l9:=aiI hr (by omega);have ayG:=l9 (aQ es bs).length;rw[List.take_length]at ayG;have bZ:=wX es bs;have loop:fc l es bs=true->∀(n k:Nat),k+n=es.length+bs.length - 1->Safe P 89 X (Ends [er,er,bk] (spY l es bs))
  (aiH l es bs (aQ es bs) (es.length+bs.length - 1) ((aQ es bs).take k).sum ((aQ es bs).sum - ((aQ es bs).take k).sum) ((fl (aQ es bs) k).1:Int) (fl (aQ es bs) k).2 (k:Int)):=by
  intro hok n;have alu:=hok;simp only[fc,and_eq_true,decide_eq_true_eq]at alu;have⟨hm,h2⟩:=alu;have⟨m1,m2,m3,m4⟩:=dD hm
  induction n with
  |zero=>
   intro k hk;have ayH:=rI (aQ es bs) k
   have hE:es=[]\/((fl (aQ es bs) k).1:Int)<=(es.length:Int):=by
    cases l;exact .inl (m2 rfl);have:=m1 rfl;subst this;simp only[length_nil]at hk;exact .inr (by omega)
   have hB:bs=[]\/((fl (aQ es bs) k).1:Int)<=(bs.length:Int):=by
    cases l;have:=m2 rfl;subst this;simp only[length_nil]at hk;exact .inr (by omega);exact .inl (m1 rfl)
   refine go hz hX hT func89 (agP l es bs _ _ _ _ _ _ k) ⟨λh=>absurd (of_decide_eq_true h) (by omega),λh=>⟨by omega,Int.natCast_nonneg _,hE,by omega,Int.natCast_nonneg _,hB, ?_⟩⟩;have alv:(fl (aQ es bs) k).1=e9 es bs:=by rw[e9,show k=es.length+bs.length - 1 from by omega]
   rw[alv,agQ hok];exact aM ((l,es.take (e9 es bs),bs.take (e9 es bs),()),(l,es.drop (e9 es bs),bs.drop (e9 es bs),()),0,()) rfl (by kernel_rfl)
  |succ n ih=>
   intro k hk;have h1:=l9 k
   have h3:0<=(aQ es bs).getD k 0/\(aQ es bs).getD k 0<=2002:=by
    rw[bT (by omega)];exact hr _ (getElem_mem _)
   have ny:=iV (l:=aQ es bs) (k:=k) (by omega)
   have hc:imax (((aQ es bs).take k).sum+(aQ es bs).getD k 0) ((aQ es bs).sum - ((aQ es bs).take k).sum - (aQ es bs).getD k 0)=nt (aQ es bs) (k+1):=by
    rw[nt,<-ny];congr 1;omega
   have next:=ih (k+1) (by omega)
   rw[<-ny,show(aQ es bs).sum - (((aQ es bs).take k).sum+(aQ es bs).getD k 0)=(aQ es bs).sum - ((aQ es bs).take k).sum - (aQ es bs).getD k 0 from by omega]at next
   refine go hz hX hT func89 (agP l es bs _ _ _ _ _ _ k) ?_;simp only[toNat_natCast,zero_add,hc];refine⟨λh=>⟨by omega,by omega,⟨by omega,by omega⟩,⟨by omega,by omega⟩,λh0=> ?_,λh0=>⟨λbr=> ?_,λbr=> ?_⟩⟩,λh=>absurd (of_decide_eq_false h) (by omega)⟩
   have h0:(fl (aQ es bs) k).1=0:=by have:((fl (aQ es bs) k).1:Int)=0:=by simpa using h0
                                     omega
   rw[fl,if_pos (.inl h0)]at next
   exact⟨⟨by omega,by omega⟩,⟨by omega,by omega⟩,next⟩;rw[fl,if_pos (.inr (of_decide_eq_true br))]at next
   exact⟨⟨by omega,by omega⟩,⟨by omega,by omega⟩,next⟩
   have h0:¬((fl (aQ es bs) k).1=0\/nt (aQ es bs) (k+1)<(fl (aQ es bs) k).2):=by
    rintro(h|h);simp[h]at h0;exact of_decide_eq_false br h
   rw[fl,if_neg h0]at next
   exact⟨⟨by omega,by omega⟩,next⟩
 have bad:fc l es bs=false->spY l es bs=((false,[],[],()),(false,[],[],()),4,()):=afv;refine go hz hX hT func89 (aoR l es bs) ⟨he,hb,λh=>aM ((false,[],[],()),(false,[],[],()),4,()) (bad ?_) (by kernel_rfl),λh=>⟨λh2=>aM ((false,[],[],()),(false,[],[],()),4,()) (bad ?_) (by kernel_rfl),λh2=> ?_⟩⟩;have h:ch l es bs=false:=by simpa using h
 simp[fc,h];have h2:=of_decide_eq_true h2;simp only[fc,and_eq_false_iff,decide_eq_false_iff_not];exact .inr (by omega);have h:ch l es bs=true:=by simpa using h
 have h2:=of_decide_eq_false h2;have hok:fc l es bs=true:=by simp only[fc,h,Bool.true_and,decide_eq_true_eq];omega
 refine⟨he,hb,⟨by omega,by omega⟩,⟨by omega,by omega⟩,by omega,by omega,by omega, ?_⟩;have:=loop hok (es.length+bs.length - 1) 0 (by omega);have e1:((((aQ es bs).length:Int) - 1).toNat - Int.toNat 0)=es.length+bs.length - 1:=by omega
 rw[e1,bZ];simp only[List.take_zero,List.sum_nil,Int.sub_zero,fl]at this;rw[show 1+(aQ es bs).sum - 1=(aQ es bs).sum from by omega];exact this
theorem aoU{Z:aZ}:cg P Z 124 [oz,bk] [oz,oz] (λ((l,es,bs,()),k,())=>[(es:List En).length<=100000,(bs:List Br).length<=100000,0<=(k:Int),((l:Bool)=true->k<=(es.length:Int)),(l=false->k<=(bs.length:Int))])
 (λ((l,es,bs,()),k,())=>((l,gv l (List.take (Int.toNat k) es),gw l (List.take (Int.toNat k) bs),()),(l,gv l (List.drop (Int.toNat k) es),gw l (List.drop (Int.toNat k) bs),()),())):=by
 refine ay func124 (by kernel_rfl) (by kernel_rfl) ?_;rintro⟨⟨(l:Bool),(es:List En),(bs:List Br),⟨⟩⟩,(k:Int),⟨⟩⟩ _ ⟨(he:es.length<=100000),(hb:bs.length<=100000),(h0:0<=k),(h1:l=true->k<=(es.length:Int)),(h2:l=false->k<=(bs.length:Int)),_⟩ X hX hz;show Safe P 124 X (Ends [oz,oz] ((l,gv l (es.take k.toNat),gw l (bs.take k.toNat),()),(l,gv l (es.drop k.toNat),gw l (bs.drop k.toNat),()),())) _;have e2:List.drop k.toNat (List.take ((es.length:Int)).toNat es)=es.drop k.toNat:=by rw[take_of_length_le (by omega)]
 have e3:List.drop k.toNat (List.take ((bs.length:Int)).toNat bs)=bs.drop k.toNat:=by rw[take_of_length_le (by omega)]
 refine go hz hX aF.Ok.nil func124 (alq l es bs k) ⟨λhl=> ?_,λhl=> ?_⟩;have hk:=h1 hl;refine⟨by omega,h0,hk, ?_,h0,hk,by omega, ?_, ?_⟩;show(es.take k.toNat).length*32<=_;rw[length_take];omega;rw[e2,length_drop];omega;subst hl;exact aM ((true,List.drop (Int.toNat 0) (List.take k.toNat es),[],()),(true,List.drop k.toNat (List.take ((es.length:Int)).toNat es),[],()),()) (by rw[e2];rfl) (by kernel_rfl);have hk:=h2 hl;refine⟨by omega,h0,hk, ?_,h0,hk,by omega, ?_, ?_⟩;show(bs.take k.toNat).length*24<=_;rw[length_take];omega;rw[e3,length_drop];omega;subst hl;exact aM ((false,[],List.drop (Int.toNat 0) (List.take k.toNat bs),()),(false,[],List.drop k.toNat (List.take ((bs.length:Int)).toNat bs),()),()) (by rw[e3];rfl) (by kernel_rfl)
theorem ua{es:List En}(h:aY es)(k:Nat):aY (es.take k):=⟨by have:=h.1;rw[length_take];omega,λx hx=>h.2 x (List.mem_of_mem_take hx)⟩
theorem uc{es:List Br}(h:aV es)(k:Nat):aV (es.take k):=⟨by have:=h.1;rw[length_take];omega,λx hx=>h.2 x (List.mem_of_mem_take hx)⟩
theorem ud{es:List En}(h:aY es)(k:Nat):aY (es.drop k):=⟨by have:=h.1;rw[length_drop];omega,λx hx=>h.2 x (List.mem_of_mem_drop hx)⟩
theorem ue{es:List Br}(h:aV es)(k:Nat):aV (es.drop k):=⟨by have:=h.1;rw[length_drop];omega,λx hx=>h.2 x (List.mem_of_mem_drop hx)⟩
theorem fT:aY []:=⟨by simp,λx hx=>by simp at hx⟩
theorem qp:aV []:=⟨by simp,λx hx=>by simp at hx⟩
theorem ac1(zs:List Int)(k:Nat):(zs.drop k).sum=zs.sum - (zs.take k).sum:=by
 have:(zs.take k++zs.drop k).sum=zs.sum:=by rw[List.take_append_drop]
 rw[List.sum_append]at this;omega
theorem sW{l:Bool}{es:List En}{bs:List Br}(m1:l=true->bs=[])(m2:l=false->es=[])(k:Nat):
 gv l (es.take k)=es.take k/\gw l (bs.take k)=bs.take k/\gv l (es.drop k)=es.drop k/\gw l (bs.drop k)=bs.drop k/\
 bw (es.take k) (bs.take k)=1+((aQ es bs).take k).sum/\bw (es.drop k) (bs.drop k)=1+((aQ es bs).sum - ((aQ es bs).take k).sum):=by
 rw[<-ac1];cases l;obtain rfl:=m2 rfl;simp[gv,gw,aQ,bw];obtain rfl:=m1 rfl;simp[gv,gw,aQ,bw]
theorem ac2(a b:Int):imax (1+a) (1+b)=1+imax a b:=by
 unfold imax;split<;>split<;>omega
theorem aiJ{Z:aZ}:cg P Z 100 [oz] [oz,oz,bk] (λ((_,es,bs,()),())=>[aY es,aV bs])
 (λ((l,es,bs,()),())=>((ct l es bs,bz l es bs,bA l es bs,()),(ct l es bs,eH l es bs,eI l es bs,()),u4 l es bs,())):=by
 refine ay func100 (by kernel_rfl) (by kernel_rfl) ?_;rintro⟨⟨(l:Bool),(es:List En),(bs:List Br),⟨⟩⟩,⟨⟩⟩ _ ⟨(he:aY es),(hb:aV bs),_⟩ X hX hz;have hT:aaZ.Ok P Z:=aF.Ok.cons aaV.sum (aF.Ok.cons acV.sum (aF.Ok.cons aoU.sum aF.Ok.nil));show Safe P 100 X (Ends [oz,oz,bk] (spY l es bs)) _;have hle:=he.1;have hlb:=hb.1;have bx:=qo es bs;have loop:fc l es bs=true->∀(n k:Nat),k+n=es.length+bs.length - 1->Safe P 100 X (Ends [oz,oz,bk] (spY l es bs))
  (zg l es bs ((es.length:Int)+(bs.length:Int)) ((fl (aQ es bs) k).1:Int) (if(fl (aQ es bs) k).1=0 then 0 else 1+(fl (aQ es bs) k).2) ((k:Int)+1)):=by
  intro hok n;have alu:=hok;simp only[fc,and_eq_true,decide_eq_true_eq]at alu;have⟨hm,h2⟩:=alu;have⟨m1,m2,m3,m4⟩:=dD hm;have alb:l=true->es.length+bs.length=es.length:=λh=>by rw[m1 h];rfl
  have alc:l=false->es.length+bs.length=bs.length:=λh=>by rw[m2 h];simp
  induction n with
  |zero=>
   intro k hk;have ayH:=rI (aQ es bs) k;refine go hz hX hT func100 (acZ l es bs _ _ _ _) ⟨λh=>absurd (of_decide_eq_true h) (by omega),λh=>⟨by omega,by omega,Int.natCast_nonneg _,λhl=> ?_,λhl=> ?_, ?_⟩⟩;have:=alb hl;omega;have:=alc hl;omega;have alv:(fl (aQ es bs) k).1=e9 es bs:=by rw[e9,show k=es.length+bs.length - 1 from by omega]
   have⟨c1,c2,c3,c4,_⟩:=sW m1 m2 (e9 es bs);rw[alv];refine aM ((l,gv l (es.take (e9 es bs)),gw l (bs.take (e9 es bs)),()),(l,gv l (es.drop (e9 es bs)),gw l (bs.drop (e9 es bs)),()),0,()) ?_ (by kernel_rfl);rw[c1,c2,c3,c4];exact agQ hok
  |succ n ih=>
   intro k hk;have⟨c1,c2,c3,c4,c5,c6⟩:=sW m1 m2 (k+1);have next:=ih (k+1) (by omega)
   have alw:imax (bw (es.take (k+1)) (bs.take (k+1))) (bw (es.drop (k+1)) (bs.drop (k+1)))=1+nt (aQ es bs) (k+1):=by rw[c5,c6,ac2];rfl
   refine go hz hX hT func100 (acZ l es bs _ _ _ _) ?_;rw[show((k:Int)+1).toNat=k+1 from by omega];refine⟨λh=>⟨by omega,by omega, ?_,λhl=> ?_,λhl=> ?_, ?_, ?_, ?_, ?_,λh0=>⟨⟨by omega,by omega⟩, ?_⟩,λh0=>⟨λbr=>⟨⟨by omega,by omega⟩, ?_⟩,λbr=>⟨⟨by omega,by omega⟩, ?_⟩⟩⟩,λh=>absurd (of_decide_eq_false h) (by omega)⟩;show(0:Int)<=(k:Int)+1;omega;have:=alb hl;omega;have:=alc hl;omega;exact c1.symm▸ua he (k+1);exact c2.symm▸uc hb (k+1);exact c3.symm▸ud he (k+1);exact c4.symm▸ue hb (k+1)
   have h0:(fl (aQ es bs) k).1=0:=by have:((fl (aQ es bs) k).1:Int)=0:=by simpa using h0
                                     omega
   rw[fl,if_pos (.inl h0)]at next
   have e:imax (bw (gv l (es.take (k+1))) (gw l (bs.take (k+1)))) (bw (gv l (es.drop (k+1))) (gw l (bs.drop (k+1))))=(if k+1=0 then 0 else 1+nt (aQ es bs) (k+1)):=by
    rw[c1,c2,c3,c4,alw,if_neg (by omega)]
   rw[<-e]at next
   exact next
   have h0:(fl (aQ es bs) k).1≠0:=λe=>by simp[e]at h0
   have br:imax (bw (gv l (es.take (k+1))) (gw l (bs.take (k+1)))) (bw (gv l (es.drop (k+1))) (gw l (bs.drop (k+1))))<(if(fl (aQ es bs) k).1=0 then 0 else 1+(fl (aQ es bs) k).2):=of_decide_eq_true br
   have e:imax (bw (gv l (es.take (k+1))) (gw l (bs.take (k+1)))) (bw (gv l (es.drop (k+1))) (gw l (bs.drop (k+1))))=(if k+1=0 then 0 else 1+nt (aQ es bs) (k+1)):=by
    rw[c1,c2,c3,c4,alw,if_neg (by omega)]
   have ajQ:nt (aQ es bs) (k+1)<(fl (aQ es bs) k).2:=by
    rw[e,if_neg h0,if_neg (by omega)]at br;omega
   rw[fl,if_pos (.inr ajQ),<-e]at next
   exact next
   have h0:(fl (aQ es bs) k).1≠0:=λe=>by simp[e]at h0
   have br:¬imax (bw (gv l (es.take (k+1))) (gw l (bs.take (k+1)))) (bw (gv l (es.drop (k+1))) (gw l (bs.drop (k+1))))<(if(fl (aQ es bs) k).1=0 then 0 else 1+(fl (aQ es bs) k).2):=of_decide_eq_false br
   have e:imax (bw (gv l (es.take (k+1))) (gw l (bs.take (k+1)))) (bw (gv l (es.drop (k+1))) (gw l (bs.drop (k+1))))=1+nt (aQ es bs) (k+1):=by
    rw[c1,c2,c3,c4,alw]
   have ajQ:¬((fl (aQ es bs) k).1=0\/nt (aQ es bs) (k+1)<(fl (aQ es bs) k).2):=by
    rw[e,if_neg h0]at br;rintro(h|h);exact h0 h;omega
   rw[fl,if_neg ajQ]at next
   exact next
 refine go hz hX hT func100 (alr l es bs) ⟨⟨by omega,by omega⟩,λh=>aM ((false,[],[],()),(false,[],[],()),4,()) (afv ?_) (by kernel_rfl),λh=>⟨λh2=>aM ((false,[],[],()),(false,[],[],()),4,()) (afv ?_) (by kernel_rfl),λh2=> ?_⟩⟩;have h:ch l es bs=false:=by simpa using h
 simp[fc,h];have h2:=of_decide_eq_true h2;simp only[fc,and_eq_false_iff,decide_eq_false_iff_not];exact .inr (by omega);have h:ch l es bs=true:=by simpa using h
 have h2:=of_decide_eq_false h2;have hok:fc l es bs=true:=by simp only[fc,h,Bool.true_and,decide_eq_true_eq];omega
 exact loop hok (es.length+bs.length - 1) 0 (by omega)
def agR:List (Nat×Norm):=[(2,⟨[],[0,1,6],0,[]⟩)]
def aa0(l:List En)(key:ByteArray)(i:Int):bQ:=⟨sl 25 [(0,.s (.ro (.ah cE l))),(1,.s (.str key)),(6,.s (.int .i64 i))],[],hd f48 2,{}⟩
def alx:List (Nat×Norm):=[(4,⟨[(7,.ah cE [],uy)],[0,1,2,7,8,9],0,[]⟩)]
def uf(l:List En)(key val:ByteArray)(out:List En)(dn:Bool)(i:Int):bQ:=⟨sl 56 [(0,.s (.ro (.ah cE l))),(1,.s (.str key)),(2,.s (.str val)),(7,.vec 0),(8,.s (.bool dn)),(9,.s (.int .i64 i))],[.vec (.ah cE out) uy],hd f96 4,{}⟩
def aly:List (Nat×Norm):=[(3,⟨[(6,.ah cE [],uy)],[0,1,6,7],0,[]⟩)]
def ac3(l:List En)(key:ByteArray)(out:List En)(i:Int):bQ:=⟨sl 34 [(0,.s (.ro (.ah cE l))),(1,.s (.str key)),(6,.vec 0),(7,.s (.int .i64 i))],[.vec (.ah cE out) uy],hd f97 3,{}⟩
def arh:List (Nat×Norm):=[(3,⟨[],[0,1,5,6],0,[]⟩)]
def alz(l:List Br)(key:ByteArray)(at_ i:Int):bQ:=⟨sl 22 [(0,.s (.ro (.ah cB l))),(1,.s (.str key)),(5,.s (.int .i64 at_)),(6,.s (.int .i64 i))],[],hd f49 3,{}⟩
abbrev aa1:=bM [rC,cv] [bk,bL] (λ(l,_,())=>[(l:List En).length<=1000000,jj (b9 l)]) (λ(l,key,())=>((cY (b9 l) key:Nat),jD (b9 l) key,()))
def aoV:aF:=[(66,aa1)]
theorem aiK(l:List En)(key:ByteArray):run P dK.sum f48 agR (start f48 [.s (.ro (.ah cE l)),.s (.str key)] [])=
 Tree.at (aa0 l key 0):=by kernel_rfl
theorem zi(l:List En)(key:ByteArray)(i:Int):run P dK.sum f48 agR (aa0 l key i)=
 Tree.ite (decide (i<l.length)) (.ab ((0:Int)<=i) (.ab (i<l.length) (.ite (decide ((l.getD i.toNat (CL.d cE)).fst=key)) (.ab ((0:Int)<=i) (.ab (i<l.length) (.ret [] (.bd [.s (.str (l.getD i.toNat (CL.d cE)).snd.fst),.s (.aN true)])))) (.ab (aw (i+1)) (.at (aa0 l key (i+1))))))) (.ret [] (.bd [.s (.str empty),.s (.aN false)])):=by kernel_rfl
theorem alA(l:List En)(key val:ByteArray):run P dK.sum f96 alx (start f96 [.s (.ro (.ah cE l)),.s (.str key),.s (.str val)] [])=
 Tree.at (uf l key val [] false 0):=by kernel_rfl
theorem ac4(l:List En)(key val:ByteArray)(out:List En)(dn:Bool)(i:Int):run P dK.sum f96 alx (uf l key val out dn i)=
 Tree.ite (decide (i<l.length)) (.ite (!dn) (.ab ((0:Int)<=i) (.ab (i<l.length) (.ite (!slt (l.getD i.toNat (CL.d cE)).fst key) (.ab ((out.length+1)*(32:Nat)<=140737488355328) (.ab ((0:Int)<=i) (.ab (i<l.length) (.ite (decide ((l.getD i.toNat (CL.d cE)).fst=key)) (.ab (aw (i+1)) (.at (uf l key val (out++[(key,val,())]) true (i+1)))) (.ab ((0:Int)<=i) (.ab (i<l.length) (.ab (((out++[(key,val,())]).length+1)*(32:Nat)<=140737488355328) (.ab (aw (i+1)) (.at (uf l key val (out++[(key,val,())]++[((l.getD i.toNat (CL.d cE)).fst,(l.getD i.toNat (CL.d cE)).snd.fst,())]) true (i+1))))))))))) (.ab ((0:Int)<=i) (.ab (i<l.length) (.ab ((out.length+1)*(32:Nat)<=140737488355328) (.ab (aw (i+1)) (.at (uf l key val (out++[((l.getD i.toNat (CL.d cE)).fst,(l.getD i.toNat (CL.d cE)).snd.fst,())]) dn (i+1)))))))))) (.ab ((0:Int)<=i) (.ab (i<l.length) (.ab ((out.length+1)*(32:Nat)<=140737488355328) (.ab (aw (i+1)) (.at (uf l key val (out++[((l.getD i.toNat (CL.d cE)).fst,(l.getD i.toNat (CL.d cE)).snd.fst,())]) dn (i+1)))))))) (.ite (!dn) (.ab ((out.length+1)*(32:Nat)<=140737488355328) (.ret [.aH,.vec (.ah cE [(key,val,())]) 67,.vec (.ah cE (out++[(key,val,())])) 67] (.vec 2))) (.ret [.vec (.ah cE out) 67] (.vec 0))):=by kernel_rfl
theorem alB(l:List En)(key:ByteArray):run P dK.sum f97 aly (start f97 [.s (.ro (.ah cE l)),.s (.str key)] [])=
 Tree.at (ac3 l key [] 0):=by kernel_rfl
theorem ac5(l:List En)(key:ByteArray)(out:List En)(i:Int):run P dK.sum f97 aly (ac3 l key out i)=
 Tree.ite (decide (i<l.length)) (.ab ((0:Int)<=i) (.ab (i<l.length) (.ite (!decide ((l.getD i.toNat (CL.d cE)).fst=key)) (.ab ((0:Int)<=i) (.ab (i<l.length) (.ab ((out.length+1)*(32:Nat)<=140737488355328) (.ab (aw (i+1)) (.at (ac3 l key (out++[((l.getD i.toNat (CL.d cE)).fst,(l.getD i.toNat (CL.d cE)).snd.fst,())]) (i+1))))))) (.ab (aw (i+1)) (.at (ac3 l key out (i+1))))))) (.ret [.vec (.ah cE out) 67] (.bd [.vec 0,.s (.bool (decide ((↑out.length:Int)<(↑l.length:Int))))])):=by kernel_rfl
theorem aoW(l:List Br)(key:ByteArray):run P dK.sum f49 arh (start f49 [.s (.ro (.ah cB l)),.s (.str key)] [])=
 Tree.at (alz l key 0 0):=by kernel_rfl
theorem agS(l:List Br)(key:ByteArray)(at_ i:Int):run P dK.sum f49 arh (alz l key at_ i)=
 Tree.ite (decide (i<l.length)) (.ab ((0:Int)<=i) (.ab (i<l.length) (.ite (slt (l.getD i.toNat (CL.d cB)).fst key||decide ((l.getD i.toNat (CL.d cB)).fst=key)) (.ab (aw (i+1)) (.at (alz l key i (i+1)))) (.ab (aw (i+1)) (.at (alz l key at_ (i+1))))))) (.ret [] (.s (.int .i64 at_))):=by kernel_rfl
theorem alC(l:List En)(key:ByteArray):run P aoV.sum f45 [] (start f45 [.s (.ro (.ah cE l)),.s (.str key)] [])=
 Tree.ab (l.length<=1000000) (.ab (jj (b9 l)) (.ite (!jD (b9 l) key) (.ret [] (.bd [.s (.str empty),.s (.aN false)])) (.ab ((0:Int)<=(↑(cY (b9 l) key):bk.V)) (.ab ((↑(cY (b9 l) key):bk.V)<(↑l.length:Int)) (.ret [] (.bd [.s (.str (l.getD (Int.toNat (↑(cY (b9 l) key):bk.V)) (CL.d cE)).snd.fst),.s (.aN true)])))))):=by kernel_rfl
theorem afw(l:List En)(i j:Int):run P dK.sum f74 [] (start f74 [.vec 0,.s (.int .i64 i),.s (.int .i64 j)] [.vec (.ah cE l) eE])=
 Tree.ab ((0:Int)<=i) (.ab (i<=j) (.ab (j<=l.length) (.ab ((↑(0:Nat):Int)+(↑l.length:Int)<=(↑l.length:Int)) (.ite (i==j) (.ret [.vec (.ah cE l) 66] (.vec 0)) (.ab ((0:Int)<=0) (.ab ((0:Int)<=i) (.ab ((↑(0:Nat):Int)+i<=l.length) (.ab ((0:Int)<=j) (.ab (j<=l.length) (.ab ((↑(0:Nat):Int)+(↑l.length:Int)<=(↑l.length:Int)) (.ab ((0:Nat)+(i.toNat - Int.toNat 0)+(List.drop ((0:Nat)+j.toNat) (List.take ((0:Nat)+j.toNat+((↑l.length:Int).toNat - j.toNat)) l)).length<=l.length) (.ab ((0:Int)<=(↑(i.toNat - Int.toNat (0:Int)+(List.drop ((0:Nat)+j.toNat) (List.take ((0:Nat)+j.toNat+((↑l.length:Int).toNat - j.toNat)) l)).length):Int)) (.ab ((↑(i.toNat - Int.toNat (0:Int)+(List.drop ((0:Nat)+j.toNat) (List.take ((0:Nat)+j.toNat+((↑l.length:Int).toNat - j.toNat)) l)).length):Int)<=(↑l.length:Int)) (.ab ((↑(0:Nat):Int)+(↑l.length:Int)<=(↑(over l ((0:Nat)+(i.toNat - Int.toNat 0)) (List.drop ((0:Nat)+j.toNat) (List.take ((0:Nat)+j.toNat+((↑l.length:Int).toNat - j.toNat)) l)).length (List.drop ((0:Nat)+j.toNat) (List.take ((0:Nat)+j.toNat+((↑l.length:Int).toNat - j.toNat)) l))).length:Int)) (.ret [.vec (.ah cE (over (over l ((0:Nat)+(i.toNat - Int.toNat 0)) (List.drop ((0:Nat)+j.toNat) (List.take ((0:Nat)+j.toNat+((↑l.length:Int).toNat - j.toNat)) l)).length (List.drop ((0:Nat)+j.toNat) (List.take ((0:Nat)+j.toNat+((↑l.length:Int).toNat - j.toNat)) l))) ((0:Nat)+(↑(i.toNat - Int.toNat (0:Int)+(List.drop ((0:Nat)+j.toNat) (List.take ((0:Nat)+j.toNat+((↑l.length:Int).toNat - j.toNat)) l)).length):Int).toNat) ((↑l.length:Int).toNat - (↑(i.toNat - Int.toNat (0:Int)+(List.drop ((0:Nat)+j.toNat) (List.take ((0:Nat)+j.toNat+((↑l.length:Int).toNat - j.toNat)) l)).length):Int).toNat) (replicate ((↑l.length:Int).toNat - (↑(i.toNat - Int.toNat (0:Int)+(List.drop ((0:Nat)+j.toNat) (List.take ((0:Nat)+j.toNat+((↑l.length:Int).toNat - j.toNat)) l)).length):Int).toNat) (CL.d cE)))) 66] (.part 0 0 (i.toNat - Int.toNat (0:Int)+(List.drop ((0:Nat)+j.toNat) (List.take ((0:Nat)+j.toNat+((↑l.length:Int).toNat - j.toNat)) l)).length))))))))))))))))):=by kernel_rfl
theorem drop_cons{α:Type}{l:List α}{k:Nat}(d:α)(h:k<l.length):l.drop k=l.getD k d::l.drop (k+1):=by rw[List.drop_eq_getElem_cons h,bT h]
abbrev zj(key:ByteArray)(x:En):Bool:=decide (x.1=key)
def m6(l:List En)(key:ByteArray):ByteArray:=match l.find? (zj key)with|some x=>x.2.1|none=>empty
def lK(l:List En)(key:ByteArray):Bool:=(l.find? (zj key)).isSome
theorem u5{L:List au}{s:ByteArray}{b:Bool}:Ends [cv,bL] (s,b,()) L (.bd [.s (.str s),.s (.aN b)]):=rfl
theorem alD{Z:aZ}:cg P Z 48 [mX,cv] [cv,bL] (λ_=>[]) (λ(l,key,())=>(m6 l key,lK l key,())):=by
 refine ay func48 (by kernel_rfl) (by kernel_rfl) ?_;rintro⟨(l:List En),(key:ByteArray),⟨⟩⟩ ⟨hl,_⟩ _ X hX hz;have hl:l.length<=9223372036854775807:=hl;show Safe P 48 X (Ends [cv,bL] (m6 l key,lK l key,())) _
 have loop:∀(n k:Nat),k+n=l.length->l.find? (zj key)=(l.drop k).find? (zj key)->Safe P 48 X (Ends [cv,bL] (m6 l key,lK l key,())) (aa0 l key (k:Int)):=by
  intro n
  induction n with
  |zero=>
   intro k hk hp;refine go hz hX aF.Ok.nil func48 (zi l key k) ⟨λh=>absurd (of_decide_eq_true h) (by omega),λh=> ?_⟩;have e:l.find? (zj key)=none:=by rw[hp,List.drop_of_length_le (by omega)];rfl
   have e1:m6 l key=empty:=by rw[m6,e]
   have e2:lK l key=false:=by rw[lK,e];rfl
   rw[e1,e2];exact u5
  |succ n ih=>
   intro k hk hp;rw[drop_cons dE (by omega),List.find?_cons]at hp;refine go hz hX aF.Ok.nil func48 (zi l key k) ?_;simp only[toNat_natCast];refine⟨λh=>⟨by omega,by omega,λh1=>⟨by omega,by omega, ?_⟩,λh1=>⟨⟨by omega,by omega⟩, ?_⟩⟩,λh=>absurd (of_decide_eq_false h) (by omega)⟩;rw[show zj key (l.getD k dE)=true from h1]at hp;have e1:m6 l key=(l.getD k dE).2.1:=by rw[m6,hp]
   have e2:lK l key=true:=by rw[lK,hp];rfl
   rw[e1,e2];exact u5;rw[show zj key (l.getD k dE)=false from h1]at hp;exact ih (k+1) (by omega) hp
 exact go hz hX aF.Ok.nil func48 (aiK l key) (loop l.length 0 (by omega) rfl)
theorem agT{l:List En}(hs:jj (b9 l)){i j:Nat}(hi:i<l.length)(hj:j<l.length)(h:(l.getD i dE).1=(l.getD j dE).1):i=j:=by
 have hk:∀t,(b9 l).getD t empty=(l.getD t dE).1:=λt=>fR l acK dE t;have hn:(b9 l).length=l.length:=length_map _;rcases Nat.lt_trichotomy i j with h1|h1|h1;have:=hs i j h1 (by omega);rw[hk,hk,h,iH]at this;cases this;exact h1;have:=hs j i h1 (by omega);rw[hk,hk,h,iH]at this;cases this
theorem agU{l:List En}{key:ByteArray}(hs:jj (b9 l)):lK l key=jD (b9 l) key/\(jD (b9 l) key=true->cY (b9 l) key<l.length/\m6 l key=(l.getD (cY (b9 l) key) dE).2.1):=by
 have hk:∀t,(b9 l).getD t empty=(l.getD t dE).1:=λt=>fR l acK dE t;have hn:(b9 l).length=l.length:=length_map _;cases ha:jD (b9 l) key;refine⟨?_,λh=>by cases h⟩;cases hf:l.find? (zj key)with
 |none=>rw[lK,hf];rfl|some x=>
  exfalso;have h1:=List.find?_some hf;obtain⟨i,hi,rfl⟩:=List.getElem_of_mem (List.mem_of_find?_eq_some hf);have h1:l[i].1=key:=of_decide_eq_true h1;have h2:(l.getD i dE).1=key:=by rw[bT hi];exact h1
  rcases lt_or_ge i (cY (b9 l) key)with h3|h3;have:=afn h3;rw[hk,h2,iH]at this;cases this;rcases Nat.eq_or_lt_of_le h3 with h4|h4;have:jD (b9 l) key=true:=jO.2 ⟨by omega,by rw[hk,h4];exact h2⟩;rw[ha]at this;cases this;have h5:=ak2 hs (key:=key) (t:=cY (b9 l) key) (le_refl _) (by omega);have h6:=hs _ _ h4 (by omega);rw[hk i,h2]at h6;rw[h6]at h5;cases h5
 have⟨h1,h2⟩:=jO.1 ha;rw[hk]at h2;rw[hn]at h1;cases hf:l.find? (zj key)with
 |none=>
  exfalso;have:=List.find?_eq_none.1 hf (l.getD (cY (b9 l) key) dE) (by rw[bT h1];exact getElem_mem _);exact this (decide_eq_true h2)
 |some x=>
  obtain⟨i,hi,rfl⟩:=List.getElem_of_mem (List.mem_of_find?_eq_some hf);have h3:=List.find?_some hf;have h3:l[i].1=key:=of_decide_eq_true h3;have e:i=cY (b9 l) key:=agT hs hi h1 (by rw[h2,bT hi];exact h3);subst e;exact⟨by rw[lK,hf];rfl,λ_=>⟨h1,by rw[m6,hf,bT hi]⟩⟩
theorem aoX{Z:aZ}:cg P Z 45 [rC,cv] [cv,bL] (λ(l,_,())=>[(l:List En).length<=1000000,jj (b9 l)]) (λ(l,key,())=>(m6 l key,lK l key,())):=by
 refine ay func45 (by kernel_rfl) (by kernel_rfl) ?_;rintro⟨(l:List En),(key:ByteArray),⟨⟩⟩ _ ⟨(hl:l.length<=1000000),(hs:jj (b9 l)),_⟩ X hX hz;show Safe P 45 X (Ends [cv,bL] (m6 l key,lK l key,())) _;have⟨h1,h2⟩:=agU (key:=key) hs;refine go hz hX (aF.Ok.cons sU.sum aF.Ok.nil) func45 (alC l key) ⟨hl,hs,λh=> ?_,λh=> ?_⟩;have h:jD (b9 l) key=false:=by simpa using h
 have e2:lK l key=false:=by rw[h1,h]
 have e1:m6 l key=empty:=by
  cases hf:l.find? (zj key)with
  |none=>rw[m6,hf]|some x=>rw[lK,hf]at e2;cases e2
 rw[e1,e2];exact u5;have h:jD (b9 l) key=true:=by simpa using h
 have⟨h3,h4⟩:=h2 h;rw[h4,h1,h];refine⟨Int.natCast_nonneg _, ?_,u5⟩;show((cY (b9 l) key:Nat):Int)<_;omega
def oD(key val:ByteArray):Bool->List En->List En
 |dn,[]=>if dn=true then []else [(key,val,())]
 |dn,x::r=>if dn=false/\slt x.1 key=false then(if x.1=key then(key,val,())::oD key val true r else(key,val,())::x::oD key val true r)else x::oD key val dn r
theorem aoY{Z:aZ}:cg P Z 96 [mX,cv,cv] [mX] (λ(l,_,_,())=>[(l:List En).length<=100000]) (λ(l,key,val,())=>(oD key val false l,())):=by
 refine ay func96 (by kernel_rfl) (by kernel_rfl) ?_;rintro⟨(l:List En),(key:ByteArray),(val:ByteArray),⟨⟩⟩ _ ⟨(hl:l.length<=100000),_⟩ X hX hz;show Safe P 96 X (Ends [mX] (oD key val false l,())) _
 have loop:∀(n k:Nat) (out:List En) (dn:Bool),k+n=l.length->out.length<=2*k->oD key val false l=out++oD key val dn (l.drop k)->Safe P 96 X (Ends [mX] (oD key val false l,())) (uf l key val out dn (k:Int)):=by
  intro n
  induction n with
  |zero=>
   intro k out dn hk bx hp;rw[List.drop_of_length_le (by omega)]at hp;refine go hz hX aF.Ok.nil func96 (ac4 l key val out dn k) ⟨λh=>absurd (of_decide_eq_true h) (by omega),λh=>⟨λh1=>⟨by omega, ?_⟩,λh1=> ?_⟩⟩;have h1:dn=false:=by simpa using h1
   subst h1;rw[hp];exact aM (out++[(key,val,())],()) rfl (by kernel_rfl);have h1:dn=true:=by simpa using h1
   subst h1;have hp:oD key val false l=out:=by rw[hp];exact append_nil _
   rw[hp];exact aM (out,()) rfl (by kernel_rfl)
  |succ n ih=>
   intro k out dn hk bx hp;rw[drop_cons dE (by omega),oD]at hp;refine go hz hX aF.Ok.nil func96 (ac4 l key val out dn k) ?_;simp only[toNat_natCast]
   have fj:¬(dn=false/\slt (l.getD k dE).1 key=false)->Safe P 96 X (Ends [mX] (oD key val false l,())) (uf l key val (out++[l.getD k dE]) dn ((k:Int)+1)):=λh=>by
    rw[if_neg h]at hp;exact ih (k+1) _ dn (by omega) (by simp only[length_append,length_cons,length_nil];omega) (by rw[hp,append_assoc];rfl)
   refine⟨λh=>⟨λh1=>⟨by omega,by omega,λh2=>⟨by omega,by omega,by omega,λh3=>⟨⟨by omega,by omega⟩, ?_⟩,λh3=>⟨by omega,by omega, ?_,⟨by omega,by omega⟩, ?_⟩⟩,λh2=>⟨by omega,by omega,by omega,⟨by omega,by omega⟩,fj ?_⟩⟩,λh1=>⟨by omega,by omega,by omega,⟨by omega,by omega⟩,fj ?_⟩⟩,λh=>absurd (of_decide_eq_false h) (by omega)⟩;have h1:dn=false:=by simpa using h1
   have h2:(!slt (l.getD k dE).1 key)=true:=h2;rw[if_pos ⟨h1,by simpa using h2⟩,if_pos (show(l.getD k dE).1=key from of_decide_eq_true h3)]at hp;exact ih (k+1) _ true (by omega) (by simp only[length_append,length_cons,length_nil];omega) (by rw[hp,append_assoc];rfl);simp only[length_append,length_cons,length_nil];omega;have h1:dn=false:=by simpa using h1
   have h2:(!slt (l.getD k dE).1 key)=true:=h2;rw[if_pos ⟨h1,by simpa using h2⟩,if_neg (show¬(l.getD k dE).1=key from of_decide_eq_false h3)]at hp;exact ih (k+1) (out++[(key,val,())]++[l.getD k dE]) true (by omega) (by simp only[length_append,length_cons,length_nil];omega) (by rw[hp,append_assoc,append_assoc];rfl);have h2:(!slt (l.getD k dE).1 key)=false:=h2;exact λg=>by rw[g.2]at h2;cases h2
   exact λg=>by rw[g.1]at h1;cases h1
 exact go hz hX aF.Ok.nil func96 (alA l key val) (loop l.length 0 [] false (by omega) (by simp) rfl)
def dg(l:List En)(key:ByteArray):List En:=l.filter λx=> !zj key x
def gI(l:List En)(key:ByteArray):Bool:=decide (((dg l key).length:Int)<(l.length:Int))
theorem zk(x:En)(r:List En)(key:ByteArray):dg (x::r) key=if(!zj key x)=true then x::dg r key else dg r key:=by
 unfold dg;rw[List.filter_cons]
theorem aoZ{Z:aZ}:cg P Z 97 [mX,cv] [mX,bL] (λ(l,_,())=>[(l:List En).length<=100000]) (λ(l,key,())=>(dg l key,gI l key,())):=by
 refine ay func97 (by kernel_rfl) (by kernel_rfl) ?_;rintro⟨(l:List En),(key:ByteArray),⟨⟩⟩ _ ⟨(hl:l.length<=100000),_⟩ X hX hz;show Safe P 97 X (Ends [mX,bL] (dg l key,gI l key,())) _
 have loop:∀(n k:Nat) (out:List En),k+n=l.length->out.length<=k->dg l key=out++dg (l.drop k) key->Safe P 97 X (Ends [mX,bL] (dg l key,gI l key,())) (ac3 l key out (k:Int)):=by
  intro n
  induction n with
  |zero=>
   intro k out hk bx hp;rw[List.drop_of_length_le (by omega)]at hp;have hp:dg l key=out:=by rw[hp];exact append_nil _
   refine go hz hX aF.Ok.nil func97 (ac5 l key out k) ⟨λh=>absurd (of_decide_eq_true h) (by omega),λh=> ?_⟩;exact aM (out,decide ((out.length:Int)<(l.length:Int)),()) (by rw[gI,hp];rfl) (by kernel_rfl)
  |succ n ih=>
   intro k out hk bx hp;rw[drop_cons dE (by omega),zk]at hp;refine go hz hX aF.Ok.nil func97 (ac5 l key out k) ?_;simp only[toNat_natCast];refine⟨λh=>⟨by omega,by omega,λh1=>⟨by omega,by omega,by omega,⟨by omega,by omega⟩, ?_⟩,λh1=>⟨⟨by omega,by omega⟩, ?_⟩⟩,λh=>absurd (of_decide_eq_false h) (by omega)⟩;rw[if_pos (show(!zj key (l.getD k dE))=true from h1)]at hp;exact ih (k+1) _ (by omega) (by simp only[length_append,length_cons,length_nil];omega) (by rw[hp,append_assoc];rfl);rw[if_neg (show¬(!zj key (l.getD k dE))=true from by rw[show(!zj key (l.getD k dE))=false from h1];simp)]at hp;exact ih (k+1) out (by omega) (by omega) (by rw[hp])
 exact go hz hX aF.Ok.nil func97 (alB l key) (loop l.length 0 [] (by omega) (by simp) rfl)
def leK(key:ByteArray)(x:Br):Bool:=slt x.1 key||decide (x.1=key)
def plR(l:List Br)(key:ByteArray):Nat->Nat
 |0=>0|k+1=>if leK key (l.getD k dB)=true then k else plR l key k
theorem aiL{Z:aZ}:cg P Z 49 [as6,cv] [bk] (λ_=>[]) (λ(l,key,())=>(((plR l key (l:List Br).length:Nat):Int),())):=by
 refine ay func49 (by kernel_rfl) (by kernel_rfl) ?_;rintro⟨(l:List Br),(key:ByteArray),⟨⟩⟩ ⟨hl,_⟩ _ X hX hz;have hl:l.length<=9223372036854775807:=hl;show Safe P 49 X (Ends [bk] (((plR l key l.length:Nat):Int),())) _
 have loop:∀(n k:Nat),k+n=l.length->Safe P 49 X (Ends [bk] (((plR l key l.length:Nat):Int),())) (alz l key ((plR l key k:Nat):Int) (k:Int)):=by
  intro n
  induction n with
  |zero=>
   intro k hk;refine go hz hX aF.Ok.nil func49 (agS l key _ k) ⟨λh=>absurd (of_decide_eq_true h) (by omega),λh=>uO (by rw[show l.length=k from by omega])⟩
  |succ n ih=>
   intro k hk;have next:=ih (k+1) (by omega)
   rw[plR]at next
   refine go hz hX aF.Ok.nil func49 (agS l key _ k) ?_;simp only[toNat_natCast];refine⟨λh=>⟨by omega,by omega,λh1=>⟨⟨by omega,by omega⟩, ?_⟩,λh1=>⟨⟨by omega,by omega⟩, ?_⟩⟩,λh=>absurd (of_decide_eq_false h) (by omega)⟩;rw[if_pos (show leK key (l.getD k dB)=true from h1)]at next
   exact next
   rw[if_neg (show¬leK key (l.getD k dB)=true from by rw[show leK key (l.getD k dB)=false from h1];simp)]at next
   exact next
 exact go hz hX aF.Ok.nil func49 (aoW l key) (loop l.length 0 (by omega))
abbrev yf(l:List En)(j:Int):List En:=List.drop ((0:Nat)+j.toNat) (List.take ((0:Nat)+j.toNat+(((l.length:Int)).toNat - j.toNat)) l)
abbrev sX(l:List En)(i j:Int):Nat:=i.toNat - Int.toNat (0:Int)+(yf l j).length
abbrev aiM(l:List En)(i j:Int):List En:=over (over l ((0:Nat)+(i.toNat - Int.toNat (0:Int))) (yf l j).length (yf l j)) ((0:Nat)+((sX l i j:Nat):Int).toNat) (((l.length:Int)).toNat - ((sX l i j:Nat):Int).toNat) (replicate (((l.length:Int)).toNat - ((sX l i j:Nat):Int).toNat) (CL.d cE))
def agV:Spec (List En×Int×Int):=⟨λx=>[.vec 0,.s (.int .i64 x.2.1),.s (.int .i64 x.2.2)],λx=>[.vec (.ah cE x.1) eE],λx=>[0<=x.2.1,x.2.1<x.2.2,x.2.2<=((x.1.length:Nat):Int)],λx=>[.vec (.ah cE (aiM x.1 x.2.1 x.2.2)) eE],λx=>.part 0 0 (sX x.1 x.2.1 x.2.2)⟩
def awr:List AV->RM ((List En×Int×Int)×List Nat)
 |[.vec id,.s (.int .i64 i),.s (.int .i64 j)]=>.look id λ
  |some (.vec (.ah [.str,.str] l) _)=>.ret ((l,i,j),[id])|_=>.fail ""
 |_=>.fail ""
def alE:aF:=[(66,aa1),(67,atg),(74,cu agV awr)]
theorem ao0(l:List En)(key:ByteArray):run P alE.sum f43 [] (start f43 [.s (.ro (.ah cE l)),.s (.str key)] [])=
 Tree.ab (l.length<=1000000) (.ab (jj (b9 l)) (.ab (l.length<=100000) (.ite (jD (b9 l) key) (.ab (aw ((↑(cY (b9 l) key):bk.V)+1)) (.ab (bD (some [AV.vec 0,.s (.int .i64 (↑(cY (b9 l) key):bk.V)),.s (.int .i64 ((↑(cY (b9 l) key):bk.V)+1))])) (.ab (bD (some [au.vec (.ah cE l) 66])) (.ab ((0:Int)<=(↑(cY (b9 l) key):bk.V)) (.ab ((↑(cY (b9 l) key):bk.V)<(↑(cY (b9 l) key):bk.V)+1) (.ab ((↑(cY (b9 l) key):bk.V)+1<=(↑l.length:Int)) (.ret [.vec (.ah cE (aiM l (↑(cY (b9 l) key):bk.V) ((↑(cY (b9 l) key):bk.V)+1))) 66] (.bd [.part 0 0 (sX l (↑(cY (b9 l) key):bk.V) ((↑(cY (b9 l) key):bk.V)+1)),.s (.bool (jD (b9 l) key))])))))))) (.ret [.vec (.ah cE l) 66] (.bd [.vec 0,.s (.bool (jD (b9 l) key))]))))):=by kernel_rfl
theorem aiN{Z:aZ}:fD P Z 74 agV:=by
 refine fS func74 ?_;rintro⟨l,i,j⟩ ⟨(h1:0<=i),(h2:i<j),(h3:j<=(l.length:Int)),_⟩ X hX hz;have e1:(yf l j).length=l.length - j.toNat:=by simp only[yf,length_drop,length_take];omega
 refine cA hz hX (by simp) aF.Ok.nil func74 (afw l i j) ⟨h1,by omega,h3,by omega,λh=>absurd h (by simp;omega),λ_=>⟨by omega,h1,by omega,by omega,h3,by omega, ?_, ?_, ?_, ?_,⟨⟨[],[0],1,[]⟩,le_refl _, ?_⟩⟩⟩;show 0+(i.toNat - Int.toNat 0)+(yf l j).length<=l.length;rw[e1];omega;show(0:Int)<=((sX l i j:Nat):Int);omega;show((sX l i j:Nat):Int)<=_;simp only[sX,e1];omega;show((0:Nat):Int)+(l.length:Int)<=((over l (0+(i.toNat - Int.toNat 0)) (yf l j).length (yf l j)).length:Int);simp only[over,length_append,length_take,length_drop,e1];omega;show Norm.run _ _=some ⟨[.part 0 0 (sX l i j)],[.vec (.ah cE (aiM l i j)) eE],[],{}⟩;kernel_rfl
theorem alF{l:List En}{key:ByteArray}(hs:jj (b9 l)):(jD (b9 l) key=false->dg l key=l)/\(jD (b9 l) key=true->dg l key=l.take (cY (b9 l) key)++l.drop (cY (b9 l) key+1)):=by
 have hk:∀t,(b9 l).getD t empty=(l.getD t dE).1:=λt=>fR l acK dE t;have hn:(b9 l).length=l.length:=length_map _;have⟨f1,f2⟩:=agU (key:=key) hs;refine⟨λh=> ?_,λh=> ?_⟩;rw[h]at f1;refine List.filter_eq_self.2 λx hx=> ?_
 have:l.find? (zj key)=none:=by
  cases hf:l.find? (zj key)with
  |none=>rfl|some y=>rw[lK,hf]at f1;cases f1
 have:=List.find?_eq_none.1 this x hx;cases hb:zj key x;rfl;exact absurd hb this;have⟨h1,h2⟩:=jO.1 h;rw[hk]at h2;rw[hn]at h1;have e:l=l.take (cY (b9 l) key)++l.getD (cY (b9 l) key) dE::l.drop (cY (b9 l) key+1):=by rw[<-drop_cons dE h1,List.take_append_drop]
 have other:∀i,i<l.length->i≠cY (b9 l) key->(!zj key (l.getD i dE))=true:=λi hi cG=>by
  cases hb:zj key (l.getD i dE);rfl;exact absurd (agT hs hi h1 ((show(l.getD i dE).1=key from of_decide_eq_true hb).trans h2.symm)) cG
 have g1:dg (l.take (cY (b9 l) key)) key=l.take (cY (b9 l) key):=by
  refine List.filter_eq_self.2 λx hx=> ?_;obtain⟨i,hi,rfl⟩:=List.getElem_of_mem hx;rw[length_take]at hi;have:=other i (by omega) (by omega);rw[bT (by omega)]at this;rw[List.getElem_take];exact this
 have g2:dg (l.drop (cY (b9 l) key+1)) key=l.drop (cY (b9 l) key+1):=by
  refine List.filter_eq_self.2 λx hx=> ?_;obtain⟨i,hi,rfl⟩:=List.getElem_of_mem hx;rw[length_drop]at hi;have:=other (cY (b9 l) key+1+i) (by omega) (by omega);rw[bT (by omega)]at this;rw[List.getElem_drop];exact this
 have app:∀a b:List En,dg (a++b) key=dg a key++dg b key:=λa b=>List.filter_append ..;have:dg l key=dg (l.take (cY (b9 l) key)++l.getD (cY (b9 l) key) dE::l.drop (cY (b9 l) key+1)) key:=by rw[<-e]
 rw[this,app,zk,if_neg (show¬(!decide ((l.getD (cY (b9 l) key) dE).1=key))=true from by rw[decide_eq_true h2];simp),g1,g2]
theorem ao1{l:List En}{key:ByteArray}(hs:jj (b9 l)):gI l key=jD (b9 l) key:=by
 have⟨h1,h2⟩:=alF (key:=key) hs;cases ha:jD (b9 l) key;rw[gI,h1 ha];simp;have⟨h3,_⟩:=jO.1 ha;rw[length_map]at h3;rw[gI,h2 ha];simp only[length_append,length_take,length_drop,decide_eq_true_eq];omega
theorem aiO{l:List En}{k:Nat}(h:k<l.length):(aiM l (k:Int) ((k:Int)+1)).take (sX l (k:Int) ((k:Int)+1))=l.take k++l.drop (k+1):=by
 have e0:yf l ((k:Int)+1)=l.drop (k+1):=by
  simp only[yf];rw[show 0+((k:Int)+1).toNat=k+1 from by omega,take_of_length_le (by omega)]
 have e1:sX l (k:Int) ((k:Int)+1)=l.length - 1:=by
  simp only[sX,e0,length_drop];omega
 simp only[aiM,e0,e1,over];rw[show 0+((k:Int).toNat - Int.toNat 0)=k from by omega,show 0+(((l.length - 1:Nat):Int)).toNat=l.length - 1 from by omega,show k+(l.drop (k+1)).length=l.length - 1 from by rw[length_drop];omega];rw[take_of_length_le (l:=l.drop (k+1)) (le_refl _)];have bx:(l.take k++l.drop (k+1)).length=l.length - 1:=by simp only[length_append,length_take,length_drop];omega
 rw[append_assoc,append_assoc,<-append_assoc (l.take k),List.take_left' bx,List.take_left' bx]
theorem alG{Z:aZ}:cg P Z 43 [rC,cv] [rC,bL] (λ(l,_,())=>[(l:List En).length<=100000,jj (b9 l)]) (λ(l,key,())=>(dg l key,gI l key,())):=by
 refine ay func43 (by kernel_rfl) (by kernel_rfl) ?_;rintro⟨(l:List En),(key:ByteArray),⟨⟩⟩ _ ⟨(hl:l.length<=100000),(hs:jj (b9 l)),_⟩ X hX hz;show Safe P 43 X (Ends [rC,bL] (dg l key,gI l key,())) _;have hT:alE.Ok P Z:=aF.Ok.cons sU.sum (aF.Ok.cons afu.sum (aF.Ok.cons (aiN.sum awr) aF.Ok.nil));have⟨d1,d2⟩:=alF (key:=key) hs;have hb:=ao1 (key:=key) hs;have hle:=wV (b9 l) key;rw[length_map]at hle;refine go hz hX hT func43 (ao0 l key) ⟨by omega,hs,hl,λh=> ?_,λh=> ?_⟩;have⟨h3,_⟩:=jO.1 h;rw[length_map]at h3;refine⟨⟨?_, ?_⟩,rfl,rfl, ?_, ?_, ?_, ?_⟩;show(-9223372036854775808:Int)<=((cY (b9 l) key:Nat):Int)+1;omega;show((cY (b9 l) key:Nat):Int)+1<=(9223372036854775807:Int);omega;show(0:Int)<=((cY (b9 l) key:Nat):Int);omega;show((cY (b9 l) key:Nat):Int)<((cY (b9 l) key:Nat):Int)+1;omega;show((cY (b9 l) key:Nat):Int)+1<=(l.length:Int);omega;refine aM (List.drop 0 ((aiM l ((cY (b9 l) key:Nat):Int) (((cY (b9 l) key:Nat):Int)+1)).take (0+sX l ((cY (b9 l) key:Nat):Int) (((cY (b9 l) key:Nat):Int)+1))),jD (b9 l) key,()) ?_ (by kernel_rfl);rw[d2 h,hb,zero_add,aiO h3];rfl;refine aM (l,jD (b9 l) key,()) ?_ (by kernel_rfl);rw[d1 h,hb];rfl
theorem zl(key val:ByteArray):∀l:List En,oD key val true l=l
 |[]=>rfl|x::r=>by rw[oD,if_neg (by simp),zl key val r]
def eO(l:List En)(key val:ByteArray):List En:=l.take (cY (b9 l) key)++(key,val,())::l.drop (if jD (b9 l) key=true then cY (b9 l) key+1 else cY (b9 l) key)
theorem agW{x:En}{r:List En}{key:ByteArray}(h:slt x.1 key=true):cY (b9 (x::r)) key=cY (b9 r) key+1:=by simp[cY,b9,List.takeWhile,h]
theorem alH{x:En}{r:List En}{key:ByteArray}(h:slt x.1 key=false):cY (b9 (x::r)) key=0:=by simp[cY,b9,List.takeWhile,h]
theorem ao2{x:En}{r:List En}{key:ByteArray}(h:slt x.1 key=true):jD (b9 (x::r)) key=jD (b9 r) key:=by
 unfold jD;rw[agW h];rfl
theorem ati{x:En}{r:List En}{key:ByteArray}(h:slt x.1 key=false):jD (b9 (x::r)) key=decide (x.1=key):=by
 unfold jD;rw[alH h];simp[b9]
theorem put_eq(key val:ByteArray):∀l:List En,oD key val false l=eO l key val
 |[]=>rfl|x::r=>by
  rw[oD];cases hs:slt x.1 key;rw[if_pos ⟨rfl,rfl⟩,eO,alH hs,ati hs,zl];by_cases hk:x.1=key;rw[if_pos hk,decide_eq_true hk];rfl;rw[if_neg hk,decide_eq_false hk];rfl;rw[if_neg (by simp),put_eq key val r,eO,eO,agW hs,ao2 hs];cases jD (b9 r) key<;>rfl
theorem atj{l:List Br}{key:ByteArray}{p:Nat}(h1:p<l.length)(h2:p=0\/slt key (l.getD p dB).1=false)(h3:∀t,p<t->t<l.length->slt key (l.getD t dB).1=true):plR l key l.length=p:=by
 have down:∀n,p+1+n<=l.length->plR l key (p+1+n)=plR l key (p+1):=by
  intro n
  induction n with
  |zero=>exact λ_=>rfl|succ n ih=>
   intro h;have hs:=h3 (p+1+n) (by omega) (by omega);rw[show p+1+(n+1)=(p+1+n)+1 from by omega,plR,if_neg (by simp only[leK,y4 hs,decide_eq_false (Ne.symm (asY hs))];simp),ih (by omega)]
 have:=down (l.length - (p+1)) (by omega);rw[show p+1+(l.length - (p+1))=l.length from by omega]at this;rw[this,plR];cases hl:leK key (l.getD p dB);rw[if_neg (by simp)];rcases h2 with rfl|h2;rfl;exfalso;simp only[leK,Bool.or_eq_false_iff,decide_eq_false_iff_not]at hl;rw[wI hl.1 hl.2]at h2;cases h2;rw[if_pos rfl]
theorem aiP{l:List Br}{key:ByteArray}(hs:jj (mg l)):((plR l key l.length:Nat):Int)=aI l key:=by
 have hn:(mg l).length=l.length:=length_map _;have hk:∀t,(mg l).getD t empty=(l.getD t dB).1:=λt=>fR l akS dB t;cases l with
 |nil=>
  show(0:Int)=imax 0 (if jD [] key=true then((0:Nat):Int)else((0:Nat):Int) - 1);split<;>rfl
 |cons x r=>
  have⟨p,hp,hp1,hp2,hp3⟩:=w4 (key:=key) hs (by simp);rw[hn]at hp1 hp3;have hp:aI (x::r) key=(p:Int):=hp;rw[hp,atj hp1 (by rw[<-hk];exact hp2) (λt h1 h2=>by rw[<-hk];exact hp3 t h1 h2)]
theorem ao3{l:List En}{key val:ByteArray}:(eO l key val).length=l.length+(if jD (b9 l) key=true then 0 else 1):=by
 have:=wV (b9 l) key;rw[length_map]at this;cases ha:jD (b9 l) key;simp only[eO,ha,length_append,length_cons,length_take,length_drop];simp;omega;have h1:=(jO.1 ha).1;rw[length_map]at h1;simp only[eO,ha,length_append,length_cons,length_take,length_drop];simp;omega
end Lf
namespace Go.Sx
open Go
section
variable{ρ aU:Nat->Value}{H H':a8}{G O O':Nat->Prop}{w w':World}{P:Program}{X:Ctx}{L:List au}{K:List au->AV->Prop}
theorem atk(hs:Sat ρ (lk L) G w){id:Nat}{c c2:ba}{e:TypeId}{aa:Value}(dI:L[id]? =some (.vec c e))(qS:∀b,eQ aa=some b->eQ (ρ id)=some b)(ej:iB ρ (lk L) (bg ρ (lk L) G) w aa (.vec c2 e)):
 ∃aU,Sat aU (lk (L.set id .aH++[.vec c2 e])) G w/\yT ρ L G w aU (L.set id .aH++[.vec c2 e])/\aU L.length=aa:=by
 have br:id<L.length:=(List.getElem?_eq_some_iff.1 dI).1;generalize hx:au.vec c2 e=x;have hxa:x.alive=true:=by rw[<-hx];rfl
 have old:∀{k:Nat} {o:au},(L.set id .aH++[x])[k]? =some o->(k=L.length/\o=x)\/(k=id/\o=.aH)\/(k≠id/\k≠L.length/\L[k]? =some o):=by
  intro k o ho;have h2:=(List.getElem?_eq_some_iff.1 ho).1;simp only[length_append,List.length_set,length_cons,length_nil]at h2;by_cases hk:k=L.length;subst hk;rw[getElem?_append_right (by simp)]at ho;simp at ho;exact .inl ⟨rfl,ho.symm⟩;rw[getElem?_append_left (by simp;omega),getElem?_set]at ho;split at ho;rename_i hk2
  first
   |exact .inr (.inl ⟨hk2.symm,by simpa using ho.symm⟩)
   |(rw[if_pos br]at ho;exact .inr (.inl ⟨hk2.symm,by simpa using ho.symm⟩))
  rename_i hk2;exact .inr (.inr ⟨Ne.symm hk2,hk,ho⟩)
 have new:∀{k:Nat} {o:au},L[k]? =some o->k≠id->(L.set id .aH++[x])[k]? =some o:=by
  intro k o ho hk;have h1:=(List.getElem?_eq_some_iff.1 ho).1;rw[getElem?_append_left (by simpa using h1),List.getElem?_set_ne (Ne.symm hk)];exact ho
 have aks:(L.set id .aH++[x])[id]? =some .aH:=by
  rw[getElem?_append_left (by simpa using br),List.getElem?_set_self br]
 have avP:(L.set id .aH++[x])[L.length]? =some x:=by
  rw[getElem?_append_right (by simp)];simp
 let aU:Nat->Value:=λj=>if j=L.length then aa else ρ j
 have dR:∀b,Own aU (lk (L.set id .aH++[x])) b->Own ρ (lk L) b:=by
  rintro b ⟨k,o,ho,ha,hb⟩;rcases old ho with⟨h1,h2⟩|⟨h1,h2⟩|⟨h1,h2,h3⟩;simp only[aU,h1,if_true]at hb;exact⟨id,_,dI,rfl,qS b hb⟩;subst h2;cases ha;simp only[aU,h2,if_false]at hb;exact⟨k,o,h3,ha,hb⟩
 have st:yT ρ L G w aU (L.set id .aH++[x]):=by
  refine⟨λk o ho=> ?_,λk o ho=> ?_,λb hb=>.inl ?_,λ_ _ _=>rfl,le_refl _⟩;have h1:k<L.length:=(List.getElem?_eq_some_iff.1 ho).1;simp only[aU];rw[if_neg (by omega)];by_cases hk:k=id;subst hk;exact⟨.aH,aks,λc' e' hc=>by cases hc⟩;exact⟨o,new ho hk,λc' e' hc=>⟨c',e',hc,rfl,rfl⟩⟩;rcases hb with hb|hb;exact .inl (dR b hb);exact .inr hb
 refine⟨aU,⟨λk o ho=> ?_,λi j oi oj b hi hj ai aj bi bj=> ?_,λb hb=>hs.apart b (dR b hb),hs.low⟩,st, ?_⟩;rcases old ho with⟨h1,h2⟩|⟨h1,h2⟩|⟨h1,h2,h3⟩;rw[h2];simp only[aU,h1,if_true];rw[hx]at ej;exact ej.step st (λ_ _ _=>rfl);subst h2;trivial;simp only[aU,h2,if_false];exact(hs.obj k o h3).step st (λ_ _ _=>rfl)
 have cls:∀{k:Nat} {o:au},(L.set id .aH++[x])[k]? =some o->o.alive=true->eQ (aU k)=some b->(k=L.length/\eQ (ρ id)=some b)\/(k≠id/\k≠L.length/\L[k]? =some o/\eQ (ρ k)=some b):=by
  intro k o ho ha hb;rcases old ho with⟨h1,h2⟩|⟨h1,h2⟩|⟨h1,h2,h3⟩;simp only[aU,h1,if_true]at hb;exact .inl ⟨h1,qS b hb⟩;subst h2;cases ha;simp only[aU,h2,if_false]at hb;exact .inr ⟨h1,h2,h3,hb⟩
 rcases cls hi ai bi with⟨h1,h2⟩|⟨h1,h2,h3,h4⟩<;>rcases cls hj aj bj with⟨k1,k2⟩|⟨k1,k2,k3,k4⟩;rw[h1,k1];exact absurd (hs.inj j id oj _ b k3 dI aj rfl k4 h2) k1;exact absurd (hs.inj i id oi _ b h3 dI ai rfl h4 k2) h1;exact hs.inj i j oi oj b h3 k3 ai aj h4 k4;simp only[aU,if_true]
def rJ(c:ba)(m:Nat):ba:=.eM c.size (c.n+m) λi j=>bif i.blt c.n then c.cell i j else .bm
theorem ac6{tmps:List AV}{t:Nat}{y x:AV}(ht:tmps.getD t (.s .bm)=y)(hy:y≠.s .bm)(u:Nat):(tmps.set t x).getD u (.s .bm)=if u=t then x else tmps.getD u (.s .bm):=by
 have br:t<tmps.length:=by
  rcases lt_or_ge t tmps.length with h|h;exact h;rw[List.getD,getElem?_eq_none h]at ht;exact absurd ht.symm hy
 by_cases hu:u=t;subst hu;rw[if_pos rfl];simp[List.getD,br];rw[if_neg hu];simp[List.getD,List.getElem?_set_ne (Ne.symm hu)]
theorem alI{a:Option Addr}{cap m:Nat}{c:ba}{e:TypeId}(hm:0<m)(aws:c.n+m<=cap)(h:iB ρ H O w (.slice a c.n cap) (.vec c e)):iB ρ H O w (.slice a (c.n+m) cap) (.vec (rJ c m) e):=by
 have⟨a2,qP,h1,h2,h3,h4⟩:=h;cases h1;rcases h4 with h4|⟨b,o,cells,fr,us,rfl,g1,g2,g3,g4⟩;omega;refine⟨some ⟨b,o,none⟩,cap,rfl,aws,h3,.inr ⟨b,o,cells,fr,λi j=>if i<c.n then us i j else cells.getD (o+i*c.size+j) undef,rfl,g1,g2,g3,λi j hi hj=> ?_⟩⟩;have hi:i<c.n+m:=hi;have hj:j<c.size:=hj;show cells[o+i*c.size+j]? =_/\bh O w (bif i.blt c.n then c.cell i j else .bm) _;by_cases dH:i<c.n;dsimp only;rw[if_pos dH,show i.blt c.n=true from by simpa[Nat.blt,Nat.lt_iff_add_one_le]using dH];exact g4 i j dH hj;dsimp only
 rw[if_neg dH,show i.blt c.n=false from by
  cases hb:i.blt c.n;rfl;exact absurd (show i<c.n from by simpa[Nat.blt,Nat.lt_iff_add_one_le]using hb) dH]
 have br:o+i*c.size+j<cells.length:=by
  have:(i+1)*c.size<=cap*c.size:=Nat.mul_le_mul_right _ (by omega);rw[Nat.succ_mul]at this;omega
 have e:cells[o+i*c.size+j]? =some (cells.getD (o+i*c.size+j) undef):=by simp[List.getD,br]
 exact⟨e,.bm _ (g2.2 _ (List.mem_of_getElem? e))⟩
theorem aiQ{f:FuncId}{tmps:List AV}{todo:List Item}{t id m:Nat}{c:ba}{e:TypeId}(ht:tmps.getD t (.s .bm)=.vec id)(dI:L[id]? =some (.vec c e))(hm:0<m)
 {stk:yJ} (hA:Safe P f X K ⟨tmps.set t (.part L.length 0 c.n),L.set id .aH++[.vec (rJ c m) e],todo,stk⟩)
 (hB:Safe P f X K ⟨tmps.set t (.s (.zM c (c.n+m))),L.set id .aH,todo,stk⟩):Safe P f X K ⟨tmps,L,todo,stk⟩:=by
 intro G E ρ a w ij iv hr bf tf fsf hwf;have hs:Sat ρ (lk L) G w:=hr.sat;have hd:=hr.den t;rw[show(St.tmps ⟨tmps,L⟩).getD t (.s .bm)=.vec id from ht]at hd;have⟨a0,cap,hv,dX,hle,aeK⟩:=iQ hs dI hd;have ej:=hs.obj id _ dI;rw[dX,hv]at ej;have br:id<L.length:=(List.getElem?_eq_some_iff.1 dI).1;by_cases hc:c.n+m<=cap
 have⟨aU,s',st,hρ⟩:=atk hs dI (aa:=.slice a0 (c.n+m) cap) (c2:=rJ c m) (λb hb=>by
  rw[dX,hv];cases a0 with
  |none=>simp[eQ]at hb|some y=>simpa[eQ]using hb) (alI hm hc ej)
 refine hA G E aU a w ij iv ⟨s',by rw[List.length_set];exact hr.size,λu=> ?_,hr.defers,hr.ao.trans st,hr.jr,hr.kept⟩ bf tf fsf hwf;show ag aU _ _ w ((tmps.set t (.part L.length 0 c.n)).getD u (.s .bm)) _;rw[ac6 ht (by simp)];by_cases hu:u=t;subst hu;rw[if_pos rfl,hv];unfold ag aS;refine⟨rfl,.vec (rJ c m) e,by show(L.set id .aH++[_])[L.length]? =_;rw[getElem?_append_right (by simp)];simp,λc' e' he=> ?_⟩;cases he;refine⟨by show 0+c.n<=c.n+m;omega,a0,cap,a0,hρ,hc,by simp,λ_=> ?_⟩;rw[Nat.zero_mul];cases a0 with
 |none=>rfl|some y=>simp[Addr.add]
 rw[if_neg hu];exact(hr.den u).step st
 have eL:lk (L.set id .aH)=aP (lk L) id .aH:=by
  funext k;show(L.set id .aH)[k]? =_;rw[getElem?_set];by_cases hk:id=k;subst hk;simp[aP,br];rw[if_neg hk];simp[aP,Ne.symm hk]
 have st:yT ρ L G w ρ (L.set id .aH):=by
  show Step ρ (lk L) _ w ρ (lk (L.set id .aH)) (bg ρ (lk (L.set id .aH)) G) w;rw[eL];exact fw (H:=lk L) dI
 have hs':Sat ρ (lk (L.set id .aH)) G w:=by rw[eL];exact Sat.kill hs dI
 refine hB G E ρ a w ij iv ⟨hs',by rw[List.length_set];exact hr.size,λu=> ?_,hr.defers,hr.ao.trans st,hr.jr,hr.kept⟩ bf tf fsf hwf;show ag ρ _ _ w ((tmps.set t (.s (.zM c (c.n+m)))).getD u (.s .bm)) _;rw[ac6 ht (by simp)];by_cases hu:u=t;subst hu;rw[if_pos rfl,hv];refine aK (.zM _ _ _ _ _ ?_ (by omega));have⟨a2,qP,h1,h2,h3,h4⟩:=ej;cases h1;rcases h4 with rfl|⟨b,o,cells,fr,us,rfl,g1,g2,g3,g4⟩;exact .ro c a0 0 (λ_ _=>undef) 0 0 hle aeK (λh=>by omega) (λi j hi _=>by omega) (λi j hi _=>by omega);refine .ro c _ cap us b o hle aeK (λh0=>⟨rfl, ?_, ?_⟩) (λi j hi hj=> ?_) (λi j hi hj=>((g4 i j hi hj).2).step st.gf st.heap st.size)
 have hb:eQ (ρ id)=some b:=by
  rw[dX,hv];simp only[eQ];rw[if_neg (by omega)]
 rintro(⟨k,ok,hk,ha,hb2⟩|hG);have hk:(L.set id .aH)[k]? =some ok:=hk;rw[getElem?_set]at hk;split at hk;rename_i e1
 first
  |(simp only[Option.some.injEq]at hk;subst hk;cases ha)
  |(rw[if_pos br]at hk;simp only[Option.some.injEq]at hk;subst hk;cases ha)
 rename_i e1;exact e1 (hs.inj id k _ ok b dI hk rfl ha hb hb2);exact hs.apart b ⟨id,_,dI,rfl,hb⟩ hG;exact(Array.getElem?_eq_some_iff.1 g1).1;have:=(g4 i j hi hj).1;simp only[World.cell?,g1];simp[this];rw[if_neg hu];exact(hr.den u).step st
theorem alJ{f:FuncId}{tmps:List AV}{todo:List Item}{stk:yJ}{id:Nat}{c c':ba}{e:TypeId}(dI:L[id]? =some (.vec c e))(hn:c'.n=c.n)(bZ:c'.size=c.size)(hc:∀i j,i<c.n->j<c.size->c'.cell i j=c.cell i j)
 (h:Safe P f X K ⟨tmps,L.set id (.vec c' e),todo,stk⟩):Safe P f X K ⟨tmps,L,todo,stk⟩:=by
 intro G E ρ a w ij iv hr b t fs hw;have hs:Sat ρ (lk L) G w:=hr.sat;have br:id<L.length:=(List.getElem?_eq_some_iff.1 dI).1
 have eL:lk (L.set id (.vec c' e))=aP (lk L) id (.vec c' e):=by
  funext k;show(L.set id (.vec c' e))[k]? =_;rw[getElem?_set];by_cases hk:id=k;subst hk;simp[aP,br];rw[if_neg hk];simp[aP,Ne.symm hk]
 have ej:iB ρ (aP (lk L) id (.vec c' e)) (bg ρ (lk L) G) w (ρ id) (.vec c' e):=by
  have⟨a2,qP,h1,h2,h3,h4⟩:=hs.obj id _ dI;refine⟨a2,qP,by rw[hn];exact h1,by omega,h3, ?_⟩;rcases h4 with h4|⟨b,o,cells,fr,us,rfl,g1,g2,g3,g4⟩;exact .inl h4;refine .inr ⟨b,o,cells,fr,us,rfl,g1,g2,by rw[bZ];exact g3,λi j hi hj=> ?_⟩;rw[hn]at hi;rw[bZ]at hj;rw[bZ,hc i j hi hj];exact g4 i j hi hj
 have⟨aU,s',_,st,_⟩:=Good.upd (H:=lk L) (o':=.vec c' e) (r:=.s .bm) (v:=undef) hs dI rfl (λc2 e2 he=>by cases he;exact⟨c,e,rfl,hn,bZ⟩) ej (by unfold ag;trivial);rw[<-eL]at s' st;exact h G E aU a w ij iv ⟨s',hr.size,λu=>(hr.den u).step st,hr.defers,hr.ao.trans st,hr.jr,hr.kept⟩ b t fs hw
theorem aiR{f:FuncId}{tmps:List AV}{todo:List Item}{stk:yJ}{t id n:Nat}{c:ba}{e:TypeId}(ht:tmps.getD t (.s .bm)=.part id 0 n)(dI:L[id]? =some (.vec c e))(hn:n=c.n)(h0:0<n)
 (h:Safe P f X K ⟨tmps.set t (.vec id),L,todo,stk⟩):Safe P f X K ⟨tmps,L,todo,stk⟩:=by
 intro G E ρ a w ij iv hr b tf fs hw;have hd:=hr.den t;rw[show(St.tmps ⟨tmps,L⟩).getD t (.s .bm)=.part id 0 n from ht]at hd;refine h G E ρ a w ij iv (hr.aas ht ?_) b tf fs hw;have hd0:=hd;unfold ag aS at hd;have⟨h1,o,ho,hv⟩:=hd
 have:o=.vec c e:=by
  have:(St.look ⟨tmps,L⟩) id=some (.vec c e):=dI;rw[this]at ho;cases ho;rfl
 subst this;have⟨hle,a1,cap,a2,k1,k2,k3,k4⟩:=hv c e rfl;have xW:cap≠0:=by omega
 unfold ag aS;refine⟨h1,.vec c e,ho,λc' e' he=> ?_⟩;cases he;rw[k3,k1,k4 xW,Nat.sub_zero,hn,Nat.zero_mul];cases a1 with
 |none=>rfl|some y=>simp[Addr.add]
end
end Go.Sx
namespace Lf
open Go Go.Sx Go.Proofs
def mj{α:Type}(l:List α)(k:Nat)(x:α):List α:=l.take k++x::l.drop k
def agX:Spec (List En×En×Nat):=⟨λx=>[.vec 0,.s (.int .i64 (x.2.2:Int)),.vec 1],λx=>[.vec (.ah cE x.1) eE,.vec (.ah cE [x.2.1]) eE],λx=>[x.2.2<=x.1.length,x.1.length<=100000],λx=>[.aH,.vec (.ah cE [x.2.1]) eE,.vec (.ah cE (mj x.1 x.2.2 x.2.1)) eE],λx=>.vec 2⟩
def ari:List (Nat×Norm):=[(8,⟨[],[0,1,2,7,8],2,[]⟩)]
def cI8(l:List (CL cE))(x:CL cE)(k:Nat):bQ:=⟨sl 95 [(0,.vec 0),(1,.s (.int .i64 (k:Int))),(2,.vec 1),(7,.s (.int .i64 ((1:Nat):Int))),(8,.s (.int .i64 (l.length:Int)))],[.vec (.ah cE l) eE,.vec (.ah cE [x]) eE],hr f68 8,{}⟩
def cIA(l:List (CL cE))(x:CL cE)(k:Nat):bQ:=⟨sl 95 [(0,.part 2 0 l.length),(1,.s (.int .i64 (k:Int))),(2,.vec 1),(7,.s (.int .i64 ((1:Nat):Int))),(8,.s (.int .i64 (l.length:Int)))],[.aH,.vec (.ah cE [x]) eE,.vec (rJ (.ah cE l) 1) eE],hr f68 8,{}⟩
def cIB(l:List (CL cE))(x:CL cE)(k:Nat):bQ:=⟨sl 95 [(0,.s (.zM (.ah cE l) (l.length+1))),(1,.s (.int .i64 (k:Int))),(2,.vec 1),(7,.s (.int .i64 ((1:Nat):Int))),(8,.s (.int .i64 (l.length:Int)))],[.aH,.vec (.ah cE [x]) eE],hr f68 8,{}⟩
def awt:List (Nat×Norm):=[(17,⟨[],[0],3,[]⟩)]
def cIC(l:List (CL cE))(x:CL cE):bQ:=⟨sl 95 [(0,.vec 2)],[.aH,.vec (.ah cE [x]) eE,.vec (.ah cE l) eE],hr f68 17,{}⟩
theorem ao4(l:List (CL cE))(x:CL cE)(k:Nat):run P (aF.sum []) f68 ari (start f68 [.vec 0,.s (.int .i64 (k:Int)),.vec 1] [.vec (.ah cE l) eE,.vec (.ah cE [x]) eE])=
 Tree.ab ((0:Int)<=(↑k:Int)) (.ab ((↑k:Int)<=(↑l.length:Int)) (.ab ((↑(0:Nat):Int)+(↑l.length:Int)<=(↑l.length:Int)) (.ite false (.ret [.vec (.ah cE l) 66,.vec (.ah cE [x]) 66] (.vec 0)) (.ite ((↑k:Int)==(↑l.length:Int)) (.ab ((l.length+1)*(32:Nat)<=140737488355328) (.ret [.aH,.vec (.ah cE [x]) 66,.vec (.ah cE (l++[x])) 66] (.vec 2))) (.at (cI8 l x k)))))):=by kernel_rfl
theorem atl(l:List (CL cE))(x:CL cE)(k:Nat):run P (aF.sum []) f68 awt (cIA l x k)=
 Tree.ab (aw ((↑l.length:Int)+(1:Int)))
 (Tree.ab ((↑l.length:Int)+(1:Int)≤(↑(l.length+(1:Nat) - (0:Nat)):Int))
   (Tree.ab (aw ((↑l.length:Int)+(1:Int)))
     (Tree.ab ((0:Int)≤(0:Int))
       (Tree.ab ((0:Int)≤(↑l.length:Int)+(1:Int))
         (Tree.ab ((↑(0:Nat):Int)+((↑l.length:Int)+(1:Int))≤(↑(l.length+(1:Nat)):Int))
           (Tree.ab (aw ((↑k:Int)+(1:Int)))
             (Tree.ab ((0:Int)≤(↑k:Int)+(1:Int))
               (Tree.ab ((↑k:Int)+(1:Int)≤(↑(((↑l.length:Int)+(1:Int)).toNat - Int.toNat (0:Int)):Int))
                 (Tree.ab ((↑(0:Nat):Int)+(↑(((↑l.length:Int)+(1:Int)).toNat - Int.toNat (0:Int)):Int)≤(↑(l.length+(1:Nat)):Int)) (Tree.ab (ase P (94:Nat)) (Tree.ab (aw ((↑k:Int)+(1:Int))) (Tree.ab ((0:Int)≤(↑k:Int)+(1:Int)) (Tree.ab ((↑k:Int)+(1:Int)≤(↑(((↑l.length:Int)+(1:Int)).toNat - Int.toNat (0:Int)):Int)) (Tree.ab ((↑(0:Nat):Int)+(↑(((↑l.length:Int)+(1:Int)).toNat - Int.toNat (0:Int)):Int)≤(↑(l.length+(1:Nat)):Int)) (Tree.ab ((0:Int)≤(↑k:Int)) (Tree.ab ((↑k:Int)≤(↑(((↑l.length:Int)+(1:Int)).toNat - Int.toNat (0:Int)):Int)) (Tree.ab ((↑(0:Nat):Int)+(↑(((↑l.length:Int)+(1:Int)).toNat - Int.toNat (0:Int)):Int)≤(↑(l.length+(1:Nat)):Int)) (Tree.ab ((0:Int)≤(↑k:Int)) (Tree.ab ((↑k:Int)≤(↑(((↑l.length:Int)+(1:Int)).toNat - Int.toNat (0:Int)):Int)) (Tree.ab ((↑(0:Nat):Int)+(↑(((↑l.length:Int)+(1:Int)).toNat - Int.toNat (0:Int)):Int)≤(↑(l.length+(1:Nat)):Int)) (Tree.at (bQ.mk (sl (95:Nat) [((0:Nat),AV.part (2:Nat) (0:Nat) (((↑l.length:Int)+(1:Int)).toNat - Int.toNat (0:Int)))]) [au.aH,au.vec (ba.ah [CK.str,CK.str] [x]) (66:Nat),au.vec (ba.eM (ba.eM (ba.eM (ba.ah cE l).size (l.length+(1:Nat)) fun(i j:Nat)=>bif i.blt l.length then(ba.ah cE l).cell i j else SV.bm).size (l.length+(1:Nat)) fun(i j:Nat)=>bif ((0:Nat)+((↑k:Int)+(1:Int)).toNat).ble i&&i.blt ((0:Nat)+((↑k:Int)+(1:Int)).toNat+min ((0:Nat)+(↑k:Int).toNat+((↑(((↑l.length:Int)+(1:Int)).toNat - Int.toNat (0:Int)):Int).toNat - (↑k:Int).toNat) - ((0:Nat)+(↑k:Int).toNat)) ((↑(((↑l.length:Int)+(1:Int)).toNat - Int.toNat (0:Int)):Int).toNat - ((↑k:Int)+(1:Int)).toNat))then(dJ (ba.eM (ba.ah cE l).size (l.length+(1:Nat)) fun(i j:Nat)=>bif i.blt l.length then(ba.ah cE l).cell i j else SV.bm) ((0:Nat)+(↑k:Int).toNat) ((0:Nat)+(↑k:Int).toNat+((↑(((↑l.length:Int)+(1:Int)).toNat - Int.toNat (0:Int)):Int).toNat - (↑k:Int).toNat))).cell (i - ((0:Nat)+((↑k:Int)+(1:Int)).toNat)) j else(ba.eM (ba.ah cE l).size (l.length+(1:Nat)) fun(i j:Nat)=>bif i.blt l.length then(ba.ah cE l).cell i j else SV.bm).cell i j).size (l.length+(1:Nat)) fun(i j:Nat)=>bif ((0:Nat)+(↑k:Int).toNat).ble i&&i.blt ((0:Nat)+(↑k:Int).toNat+min (1:Nat) ((↑(((↑l.length:Int)+(1:Int)).toNat - Int.toNat (0:Int)):Int).toNat - (↑k:Int).toNat))then(ba.ah [CK.str,CK.str] [x]).cell (i - ((0:Nat)+(↑k:Int).toNat)) j else(ba.eM (ba.eM (ba.ah cE l).size (l.length+(1:Nat)) fun(i j:Nat)=>bif i.blt l.length then(ba.ah cE l).cell i j else SV.bm).size (l.length+(1:Nat)) fun(i j:Nat)=>bif ((0:Nat)+((↑k:Int)+(1:Int)).toNat).ble i&&i.blt ((0:Nat)+((↑k:Int)+(1:Int)).toNat+min ((0:Nat)+(↑k:Int).toNat+((↑(((↑l.length:Int)+(1:Int)).toNat - Int.toNat (0:Int)):Int).toNat - (↑k:Int).toNat) - ((0:Nat)+(↑k:Int).toNat)) ((↑(((↑l.length:Int)+(1:Int)).toNat - Int.toNat (0:Int)):Int).toNat - ((↑k:Int)+(1:Int)).toNat))then(dJ (ba.eM (ba.ah cE l).size (l.length+(1:Nat)) fun(i j:Nat)=>bif i.blt l.length then(ba.ah cE l).cell i j else SV.bm) ((0:Nat)+(↑k:Int).toNat) ((0:Nat)+(↑k:Int).toNat+((↑(((↑l.length:Int)+(1:Int)).toNat - Int.toNat (0:Int)):Int).toNat - (↑k:Int).toNat))).cell (i - ((0:Nat)+((↑k:Int)+(1:Int)).toNat)) j else(ba.eM (ba.ah cE l).size (l.length+(1:Nat)) fun(i j:Nat)=>bif i.blt l.length then(ba.ah cE l).cell i j else SV.bm).cell i j).cell i j) (66:Nat)] (hr f68 (17:Nat)) (yJ.mk none false (0:Nat) [] (0:Nat)))))))))))))))))))))))):=by kernel_rfl
theorem atm(l:List (CL cE))(x:CL cE):run P (aF.sum []) f68 [] (cIC l x)=
 Tree.ret [.aH,.vec (.ah cE [x]) 66,.vec (.ah cE l) 66] (.vec 2):=by kernel_rfl
theorem atn(l:List (CL cE))(x:CL cE)(k:Nat):run P (aF.sum []) f68 [] (cIB l x k)=
 Tree.ab (aw ((↑l.length:Int)+1))
 (.ab ((↑(l.length+1):Int)<=(↑l.length:Int)+1) (.ab ((0:Int)<=(↑k:Int)) (.ab ((↑k:Int)<=(↑l.length:Int)) (.ab (aw ((↑l.length:Int)+1)) (.ab (aw ((↑l.length:Int)+1 - (↑k:Int))) (.ab ((0:Int)<(↑l.length:Int)+1 - (↑k:Int)) (.ab ((↑(l.length+1):Int)<=(↑(List.drop 0 (List.take (↑k:Int).toNat l)).length:Int)+((↑l.length:Int)+1 - (↑k:Int))) (.ab ((↑(List.drop 0 (List.take (↑k:Int).toNat l)).length:Int)+((↑l.length:Int)+1 - (↑k:Int))<=4294967296) (.ab ((0:Int)<=(↑k:Int)) (.ab ((↑k:Int)<=(↑(List.drop 0 (List.take (↑k:Int).toNat l)++replicate ((↑l.length:Int)+1 - (↑k:Int)).toNat (CL.d cE)).length:Int)) (.ab ((↑(0:Nat):Int)+(↑(List.drop 0 (List.take (↑k:Int).toNat l)++replicate ((↑l.length:Int)+1 - (↑k:Int)).toNat (CL.d cE)).length:Int)<=(↑(List.drop 0 (List.take (↑k:Int).toNat l)++replicate ((↑l.length:Int)+1 - (↑k:Int)).toNat (CL.d cE)).length:Int)) (.ab (aw ((↑k:Int)+1)) (.ab ((0:Int)<=(↑k:Int)+1) (.ab ((↑k:Int)+1<=(↑(over (List.drop 0 (List.take (↑k:Int).toNat l)++replicate ((↑l.length:Int)+1 - (↑k:Int)).toNat (CL.d cE)) ((0:Nat)+(↑k:Int).toNat) (min 1 ((↑(List.drop 0 (List.take (↑k:Int).toNat l)++replicate ((↑l.length:Int)+1 - (↑k:Int)).toNat (CL.d cE)).length:Int).toNat - (↑k:Int).toNat)) [x]).length:Int)) (.ab ((↑(0:Nat):Int)+(↑(over (List.drop 0 (List.take (↑k:Int).toNat l)++replicate ((↑l.length:Int)+1 - (↑k:Int)).toNat (CL.d cE)) ((0:Nat)+(↑k:Int).toNat) (min 1 ((↑(List.drop 0 (List.take (↑k:Int).toNat l)++replicate ((↑l.length:Int)+1 - (↑k:Int)).toNat (CL.d cE)).length:Int).toNat - (↑k:Int).toNat)) [x]).length:Int)<=(↑(over (List.drop 0 (List.take (↑k:Int).toNat l)++replicate ((↑l.length:Int)+1 - (↑k:Int)).toNat (CL.d cE)) ((0:Nat)+(↑k:Int).toNat) (min 1 ((↑(List.drop 0 (List.take (↑k:Int).toNat l)++replicate ((↑l.length:Int)+1 - (↑k:Int)).toNat (CL.d cE)).length:Int).toNat - (↑k:Int).toNat)) [x]).length:Int)) (.ab ((0:Int)<=(↑k:Int)) (.ab ((↑k:Int)<=(↑l.length:Int)) (.ab ((↑l.length:Int)<=(↑l.length:Int)) (.ret [.aH,.vec (.ah cE [x]) 66,.vec (.ah cE (over (over (List.drop 0 (List.take (↑k:Int).toNat l)++replicate ((↑l.length:Int)+1 - (↑k:Int)).toNat (CL.d cE)) ((0:Nat)+(↑k:Int).toNat) (min 1 ((↑(List.drop 0 (List.take (↑k:Int).toNat l)++replicate ((↑l.length:Int)+1 - (↑k:Int)).toNat (CL.d cE)).length:Int).toNat - (↑k:Int).toNat)) [x]) ((0:Nat)+((↑k:Int)+1).toNat) (min (List.drop (↑k:Int).toNat (List.take (↑l.length:Int).toNat l)).length ((↑(over (List.drop 0 (List.take (↑k:Int).toNat l)++replicate ((↑l.length:Int)+1 - (↑k:Int)).toNat (CL.d cE)) ((0:Nat)+(↑k:Int).toNat) (min 1 ((↑(List.drop 0 (List.take (↑k:Int).toNat l)++replicate ((↑l.length:Int)+1 - (↑k:Int)).toNat (CL.d cE)).length:Int).toNat - (↑k:Int).toNat)) [x]).length:Int).toNat - ((↑k:Int)+1).toNat)) (List.drop (↑k:Int).toNat (List.take (↑l.length:Int).toNat l)))) 66] (.vec 2)))))))))))))))))))):=by kernel_rfl
theorem aiS{α:Type}{xs ys:List α}{lo k:Nat}(hk:k=ys.length)(h:lo+ys.length=xs.length):over xs lo k ys=xs.take lo++ys:=by
 subst hk;rw[over,take_of_length_le (le_refl _),List.drop_of_length_le (by omega),append_nil]
theorem ug{α:Type}{l:List α}{k:Nat}{x:α}(h:k<=l.length):(mj l k x).length=l.length+1:=by
 simp only[mj,length_append,length_take,length_cons,length_drop];omega
theorem alK{α:Type}(l:List α)(x:α):mj l l.length x=l++[x]:=by simp[mj]
theorem aiT{α:Type}{l:List α}{k:Nat}{x d:α}(h:k<=l.length)(i:Nat):(mj l k x).getD i d=if i<k then l.getD i d else if i=k then x else l.getD (i - 1) d:=by
 simp only[mj,List.getD];split;rw[getElem?_append_left (by simp;omega),getElem?_take,if_pos (by assumption)];rw[getElem?_append_right (by simp;omega)];rw[length_take,Nat.min_eq_left h];split;rename_i h2;subst h2;simp;rw[show i - k=(i - 1 - k)+1 from by omega,List.getElem?_cons_succ,List.getElem?_drop];congr 2;omega
theorem awu:ase P 94:=⟨f94,f94.params.getD 0 0,eE,f94.resultTypes.getD 0 0,2,func94,by kernel_rfl,by kernel_rfl,by kernel_rfl,by kernel_rfl,by kernel_rfl,by kernel_rfl⟩
theorem alL{α:Type}{l:List α}{k:Nat}{x d:α}(hk:k<l.length):
 over (over (List.drop 0 (List.take (k:Int).toNat l)++replicate ((l.length:Int)+(1:Int) - (k:Int)).toNat d) (0+(k:Int).toNat) (min 1 (((List.drop 0 (List.take (k:Int).toNat l)++replicate ((l.length:Int)+(1:Int) - (k:Int)).toNat d).length:Int).toNat - (k:Int).toNat)) [x]) (0+((k:Int)+(1:Int)).toNat) (l.length - k) (List.drop (k:Int).toNat (List.take (l.length:Int).toNat l))=mj l k x:=by
 have e1:(k:Int).toNat=k:=by omega
 have e2:((l.length:Int)+(1:Int) - (k:Int)).toNat=l.length+1 - k:=by omega
 have e3:((k:Int)+(1:Int)).toNat=k+1:=by omega
 have e4:(l.length:Int).toNat=l.length:=by omega
 rw[e1,e2,e3,e4,List.drop_zero,zero_add,zero_add,take_of_length_le (le_refl l.length)]
 have hA:(List.take k l++replicate (l.length+1 - k) d).length=l.length+1:=by
  simp only[length_append,length_take,List.length_replicate];omega
 rw[hA,show min 1 (((l.length+1:Nat):Int).toNat - k)=1 from by omega]
 have hov:(over (List.take k l++replicate (l.length+1 - k) d) k 1 [x]).length=l.length+1:=by
  rw[fN _ _ (by rw[hA];omega) (by simp),hA]
 rw[aiS (by rw[length_drop]) (by rw[hov,length_drop];omega)];rw[over,List.take_left' (by simp only[length_append,length_take,List.length_replicate,length_cons,length_nil];omega)];rw[List.take_left' (by rw[length_take];omega)];simp[mj]
theorem aa2{a b:Nat}:a.blt b=decide (a<b):=by
 by_cases h:a<b;rw[decide_eq_true h];simpa[Nat.blt,Nat.lt_iff_add_one_le]using h;rw[decide_eq_false h];cases hb:a.blt b with
 |false=>rfl|true=>exact absurd (by simpa[Nat.blt,Nat.lt_iff_add_one_le]using hb) h
theorem aa3{a b:Nat}:a.ble b=decide (a<=b):=by
 by_cases h:a<=b;rw[decide_eq_true h];exact Nat.ble_eq_true_of_le h;rw[decide_eq_false h];cases hb:a.ble b with
 |false=>rfl|true=>exact absurd (le_of_ble_eq_true hb) h
theorem ato{Z:aZ}:fD P Z 68 agX:=by
 refine fS func68 ?_;rintro⟨(l:List (CL cE)),(x:CL cE),(k:Nat)⟩ ⟨(hk:k<=l.length),(hl:l.length<=100000),_⟩ X hX hz;refine cA hz hX (by intro y hy;simp[ari]at hy;subst hy;exact le_refl _) aF.Ok.nil func68 (ao4 l x k) ⟨by omega,by omega,by omega,(λh=>nomatch h),λ_=>⟨λh=>⟨by omega,⟨⟨[],[0],2,[]⟩,le_refl _, ?_⟩⟩,λh=> ?_⟩⟩;have hkl:k=l.length:=by have:=eq_of_beq h;omega
 subst hkl;show Norm.run _ _=some ⟨[.vec 2],[.aH,.vec (.ah cE [x]) eE,.vec (.ah cE (mj l l.length x)) eE],[],{}⟩;rw[alK];kernel_rfl
 have hkl:k<l.length:=by
  rcases lt_or_ge k l.length with h1|h1;exact h1;have:k=l.length:=by omega
  subst this;simp at h
 refine aiQ (t:=0) (id:=0) (m:=1) (c:=.ah cE l) (e:=eE) rfl rfl (by omega) ?_ ?_;refine(show Safe P 68 X _ (cIA l x k)from ?_);have e1:((l.length:Int)+(1:Int)).toNat - Int.toNat 0=l.length+1:=by omega
 have tr:=atl l x k;rw[e1]at tr;refine cA hz hX (by intro y hy;simp[awt]at hy;subst hy;show 2<=3;omega) aF.Ok.nil func68 tr ⟨⟨by omega,by omega⟩,by omega,⟨by omega,by omega⟩,by omega,by omega,by omega,⟨by omega,by omega⟩,by omega,by omega,by omega,awu,⟨by omega,by omega⟩,by omega,by omega,by omega,by omega,by omega,by omega,by omega,by omega,by omega, ?_⟩;refine alJ (id:=2) (c':=.ah cE (mj l k x)) rfl ?_ rfl ?_ ?_;exact ug (by omega);intro i j hi hj;have hi:i<l.length+1:=hi;show CL.cell cE ((mj l k x).getD i (CL.d cE)) j=_;rw[aiT (by omega)];by_cases h1:i<k;have p1:¬(0+(k:Int).toNat<=i):=by omega
 have p2:¬(0+((k:Int)+(1:Int)).toNat<=i):=by omega
 have p3:i<l.length:=by omega
 simp only[ba.cell,aa2,aa3,p1,p2,p3,h1,decide_false,decide_true,Bool.false_and,cond_false,cond_true,if_true];by_cases h2:i=k;subst h2;have p1:0+(i:Int).toNat<=i:=by omega
 have p2:i<0+(i:Int).toNat+min 1 (((l.length+1:Nat):Int).toNat - (i:Int).toNat):=by omega
 have p3:i - (0+(i:Int).toNat)=0:=by omega
 simp only[ba.cell,aa2,aa3,p1,p2,p3,h1,decide_true,Bool.true_and,cond_true,if_true,if_false,List.getD_cons_zero];have p1:¬(i<0+(k:Int).toNat+min 1 (((l.length+1:Nat):Int).toNat - (k:Int).toNat)):=by omega
 have p2:0+((k:Int)+(1:Int)).toNat<=i:=by omega
 have p3:i<0+((k:Int)+(1:Int)).toNat+min (0+(k:Int).toNat+(((l.length+1:Nat):Int).toNat - (k:Int).toNat) - (0+(k:Int).toNat)) (((l.length+1:Nat):Int).toNat - ((k:Int)+(1:Int)).toNat):=by omega
 have p4:0+(k:Int).toNat+(i - (0+((k:Int)+(1:Int)).toNat))=i - 1:=by omega
 have p5:i - 1<l.length:=by omega
 simp only[ba.cell,dJ,aa2,aa3,p1,p2,p3,p4,p5,h1,h2,decide_true,decide_false,Bool.and_false,Bool.and_true,cond_true,cond_false,if_false];refine aiR (t:=0) (id:=2) (c:=.ah cE (mj l k x)) (e:=eE) rfl rfl (ug (by omega)).symm (by omega) ?_;refine cA hz hX (by intro y hy;simp at hy) aF.Ok.nil func68 (atm (mj l k x) x) ⟨⟨[],[0],2,[]⟩,le_refl _, ?_⟩;show Norm.run _ _=some ⟨[.vec 2],[.aH,.vec (.ah cE [x]) eE,.vec (.ah cE (mj l k x)) eE],[],{}⟩;kernel_rfl;refine(show Safe P 68 X _ (cIB l x k)from ?_);have tr:=atn l x k
 have eA:(List.drop 0 (List.take (k:Int).toNat l)++replicate ((l.length:Int)+(1:Int) - (k:Int)).toNat (CL.d cE)).length=l.length+1:=by
  simp only[List.drop_zero,length_append,length_take,List.length_replicate];omega
 have eB:(over (List.drop 0 (List.take (k:Int).toNat l)++replicate ((l.length:Int)+(1:Int) - (k:Int)).toNat (CL.d cE)) (0+(k:Int).toNat) (min 1 (((List.drop 0 (List.take (k:Int).toNat l)++replicate ((l.length:Int)+(1:Int) - (k:Int)).toNat (CL.d cE)).length:Int).toNat - (k:Int).toNat)) [x]).length=l.length+1:=by
  rw[fN _ _ (by rw[eA];omega) (by simp;omega),eA]
 have eC:(List.drop 0 (List.take (k:Int).toNat l)).length=k:=by simp only[List.drop_zero,length_take];omega
 have e1:(min (List.drop (k:Int).toNat (List.take (l.length:Int).toNat l)).length (((over (List.drop 0 (List.take (k:Int).toNat l)++replicate ((l.length:Int)+(1:Int) - (k:Int)).toNat (CL.d cE)) (0+(k:Int).toNat) (min 1 (((List.drop 0 (List.take (k:Int).toNat l)++replicate ((l.length:Int)+(1:Int) - (k:Int)).toNat (CL.d cE)).length:Int).toNat - (k:Int).toNat)) [x]).length:Int).toNat - ((k:Int)+(1:Int)).toNat))=l.length - k:=by
  rw[eB];simp only[length_drop,length_take];omega
 rw[e1,alL hkl,eB,eA,eC]at tr;refine cA hz hX (by intro y hy;simp at hy) aF.Ok.nil func68 tr ⟨⟨by omega,by omega⟩,by omega,by omega,by omega,⟨by omega,by omega⟩,⟨by omega,by omega⟩,by omega,by omega,by omega,by omega,by omega,by omega,⟨by omega,by omega⟩,by omega,by omega,by omega,by omega,by omega,by omega,⟨⟨[],[0],2,[]⟩,le_refl _, ?_⟩⟩;show Norm.run _ _=some ⟨[.vec 2],[.aH,.vec (.ah cE [x]) eE,.vec (.ah cE (mj l k x)) eE],[],{}⟩;kernel_rfl
def awv:List AV->RM ((List En×En×Nat)×List Nat)
 |[.vec id,.s (.int .i64 i),.vec id2]=>.look id λo=>match o with
  |some (.vec (.ah [.str,.str] l) _)=>.look id2 λo=>match o with
   |some (.vec (.ah [.str,.str] [x]) _)=>.ret ((l,x,i.toNat),[id,id2])|_=>.fail ""
  |_=>.fail ""
 |_=>.fail ""
def alM:aF:=[(66,aa1),(67,atg),(68,cu agX awv)]
theorem ao5(l:List (CL cE))(key val:ByteArray):run P alM.sum f40 [] (start f40 [.s (.ro (.ah cE l)),.s (.str key),.s (.str val)] [])=
 Tree.ab (l.length<=1000000) (.ab (jj (b9 l)) (.ab (l.length<=100000) (.ite (jD (b9 l) key) (.ab ((0:Int)<=(↑(cY (b9 l) key):bk.V)) (.ab ((↑(cY (b9 l) key):bk.V)<(↑l.length:Int)) (.ret [.vec (.ah cE (l.set (Int.toNat (↑(cY (b9 l) key):bk.V)) ((l.getD (Int.toNat (↑(cY (b9 l) key):bk.V)) (CL.d cE)).fst,val,()))) 66] (.vec 0)))) (.ab (some [AV.vec 0,.s (.int .i64 (↑(cY (b9 l) key):bk.V)),.vec 1]=some [AV.vec 0,.s (.int .i64 (↑(Int.toNat (↑(cY (b9 l) key):bk.V)):Int)),.vec 1]) (.ab (some [au.vec (.ah cE l) 66,.vec (.ah cE [(key,val,())]) 66]=some [au.vec (.ah cE l) 66,.vec (.ah cE [(key,val,())]) 66]) (.ab (Int.toNat (↑(cY (b9 l) key):bk.V)<=l.length) (.ab (l.length<=100000) (.ret [.aH,.vec (.ah cE [(key,val,())]) 66,.vec (.ah cE (mj l (Int.toNat (↑(cY (b9 l) key):bk.V)) (key,val,()))) 66] (.vec 2))))))))):=by kernel_rfl
theorem alN{α:Type}{l:List α}{k:Nat}{x:α}(h:k<l.length):l.set k x=l.take k++x::l.drop (k+1):=by
 rw[List.set_eq_take_append_cons_drop,if_pos h]
theorem alO{l:List En}{key val:ByteArray}(h:jD (b9 l) key=true)(h1:cY (b9 l) key<l.length):eO l key val=l.set (cY (b9 l) key) (key,val,()):=by
 rw[alN h1,eO,if_pos h]
theorem ao6{l:List En}{key val:ByteArray}(h:jD (b9 l) key=false):eO l key val=mj l (cY (b9 l) key) (key,val,()):=by
 rw[eO,if_neg (by rw[h];simp),mj]
theorem alP{Z:aZ}:cg P Z 40 [rC,cv,cv] [rC] (λ(l,_,_,())=>[(l:List En).length<=100000,jj (b9 l)]) (λ(l,key,val,())=>(eO l key val,())):=by
 refine ay func40 (by kernel_rfl) (by kernel_rfl) ?_;rintro⟨(l:List (CL cE)),(key:ByteArray),(val:ByteArray),⟨⟩⟩ _ ⟨(hl:l.length<=100000),(hs:jj (b9 l)),_⟩ X hX hz;have hT:alM.Ok P Z:=aF.Ok.cons sU.sum (aF.Ok.cons afu.sum (aF.Ok.cons (ato.sum awv) aF.Ok.nil));have hn:(b9 l).length=l.length:=length_map _;have hle:=wV (b9 l) key;rw[hn]at hle;refine go hz hX hT func40 (ao5 l key val) ⟨by omega,hs,hl,λh=> ?_,λh=> ?_⟩;have⟨h1,h2⟩:=jO.1 h;rw[hn]at h1;refine⟨Int.natCast_nonneg _,Int.ofNat_lt.2 h1, ?_⟩;refine aM (l.set (cY (b9 l) key) ((l.getD (cY (b9 l) key) dE).1,val,()),()) ?_ (by kernel_rfl);have hk:(l.getD (cY (b9 l) key) dE).1=key:=(fR l acK dE _).symm.trans h2;rw[hk];exact congrArg (λy=>(y,())) (alO h h1);refine⟨rfl,rfl,by show cY (b9 l) key<=l.length;exact hle,hl, ?_⟩;refine aM (mj l (cY (b9 l) key) (key,val,()),()) ?_ (by kernel_rfl);exact congrArg (λy=>(y,())) (ao6 h)
end Lf
namespace Bx
open Go Go.Sx Go.Proofs
abbrev dF:Ty:=.b (.arr .u64 16)
abbrev bk:Ty:=.b (.int .i64)
abbrev tU:Ty:=.b (.int .u64)
abbrev bL:Ty:=.b .bool
abbrev iw:Ty:=.b (.row (.af .i64) 3)
abbrev P:Program:=Tryz.prog
theorem mixed:P.follows .mixedOrders=true:=by kernel_rfl
def dK:aF:=[]
def eJ(n:Int):Int:=if 0<=n/\n<1024 then n / 64 else 0
def ml(n:Int):Int:=if 0<=n/\n<1024 then 2^(n%64).toNat else 0
def ix(n:Int):Bool:=decide (0<=n/\n<1024)
abbrev s36:=bM [bk] [bk,tU,bL] (λ_=>[]) (λ(n,())=>(eJ n,ml n,ix n,()))
def ao7:aF:=[(59,s36)]
theorem atp(n:Int):run P dK.sum f59 [] (start f59 [.s (.int .i64 n)] [])=
 Tree.ite (decide (n<(0:Int))) (Tree.ret [] (AV.bd [AV.s (SV.aO i64 (0:Int)),AV.s (SV.aO u64 (0:Int)),AV.s (SV.aN false)])) (Tree.ite (decide (n≥(1024:Int))) (Tree.ret [] (AV.bd [AV.s (SV.aO i64 (0:Int)),AV.s (SV.aO u64 (0:Int)),AV.s (SV.aN false)])) (Tree.ab ((64:Int)≠(0:Int)) (Tree.ab (aw (n.tdiv (64:Int))) (Tree.ab ((64:Int)≠(0:Int)) (Tree.ab ((0:Int)≤n.tmod (64:Int)) (Tree.ret [] (AV.bd [AV.s (SV.int i64 (n.tdiv (64:Int))),AV.s (SV.int u64 (u64.wrap ((1:Int)*(2:Int)^min (n.tmod (64:Int)).toNat u64.bits))),AV.s (SV.aN true)]))))))):=by kernel_rfl
theorem atq(a b:Int):run P dK.sum f58 [] (start f58 [.s (.int .u64 a),.s (.int .u64 b)] [])=
 Tree.ret [] (.s (.int .u64 (bX BinOp.andNot .u64 a b))):=by kernel_rfl
theorem atr(a b:Int):run P dK.sum f56 [] (start f56 [.s (.int .u64 a),.s (.int .u64 b)] [])=
 Tree.ret [] (.s (.int .u64 (bX BinOp.and .u64 a b))):=by kernel_rfl
theorem ats(a b:Int):run P dK.sum f91 [] (start f91 [.s (.int .u64 a),.s (.int .u64 b)] [])=
 Tree.ret [] (.s (.int .u64 (bX BinOp.or .u64 a b))):=by kernel_rfl
theorem att(ws:List Int)(n:Int):run P ao7.sum f84 [] (start f84 [.af .u64 16 ws,.s (.int .i64 n)] [])=
 Tree.ite (ix n) (.ab ((0:Int)<=eJ n) (.ab (eJ n<(↑(16:Nat):Int)) (.ret [.ak [.af .u64 16 ws] 37] (.s (.bool (bX BinOp.and .u64 (ws.getD (eJ n).toNat 0) (ml n) !=0)))))) (.ret [.ak [.af .u64 16 ws] 37] (.s (.aN false))):=by kernel_rfl
theorem atu(ws:List Int)(n:Int):run P ao7.sum f34 [] (start f34 [.af .u64 16 ws,.s (.int .i64 n)] [])=
 Tree.ite (ix n) (.ab ((0:Int)<=eJ n) (.ab (eJ n<(↑(16:Nat):Int)) (.ab ((0:Int)<=eJ n) (.ab (eJ n<(↑(16:Nat):Int)) (.ret [.ak [.af .u64 16 (ws.set (eJ n).toNat (bX BinOp.or .u64 (ws.getD (eJ n).toNat 0) (ml n)))] 37,.ak [.af .u64 16 (ws.set (eJ n).toNat (bX BinOp.or .u64 (ws.getD (eJ n).toNat 0) (ml n)))] 37] (.af .u64 16 (ws.set (eJ n).toNat (bX BinOp.or .u64 (ws.getD (eJ n).toNat 0) (ml n))))))))) (.ret [.ak [.af .u64 16 ws] 37,.ak [.af .u64 16 ws] 37] (.af .u64 16 ws)):=by kernel_rfl
theorem atv(ws:List Int)(n:Int):run P ao7.sum f118 [] (start f118 [.af .u64 16 ws,.s (.int .i64 n)] [])=
 Tree.ite (ix n) (.ab ((0:Int)<=eJ n) (.ab (eJ n<(↑(16:Nat):Int)) (.ab ((0:Int)<=eJ n) (.ab (eJ n<(↑(16:Nat):Int)) (.ret [.ak [.af .u64 16 (ws.set (eJ n).toNat (bX BinOp.andNot .u64 (ws.getD (eJ n).toNat 0) (ml n)))] 37,.ak [.af .u64 16 (ws.set (eJ n).toNat (bX BinOp.andNot .u64 (ws.getD (eJ n).toNat 0) (ml n)))] 37] (.af .u64 16 (ws.set (eJ n).toNat (bX BinOp.andNot .u64 (ws.getD (eJ n).toNat 0) (ml n))))))))) (.ret [.ak [.af .u64 16 ws] 37,.ak [.af .u64 16 ws] 37] (.af .u64 16 ws)):=by kernel_rfl
theorem go{Z:aZ}{X:Ctx}{t:aF}{f:FuncId}{fn:Func}{ns:List (Nat×Norm)}{c:bQ}{tr:Tree}{K:List au->AV->Prop}(hz:cP Z X)(hX:∀id,X.H id=none)(hT:t.Ok P Z)(hf:P.funcs[f]? =some fn)
 (e:run P t.sum fn ns c=tr) (h:tr.bt K (Safe P f X K)):Safe P f X K c:=cR (aF.sOk hT) hz mixed hf (λ_ _ id _=>hX id) e h
theorem atw{Z:aZ}:cg P Z 59 [bk] [bk,tU,bL] (λ_=>[]) (λ(n,())=>(eJ n,ml n,ix n,())):=by
 refine ay func59 (by kernel_rfl) (by kernel_rfl) ?_;rintro⟨(n:Int),⟨⟩⟩ _ _ X hX hz;refine cR (aF.sOk aF.Ok.nil) hz mixed func59 (λx h=>by simp at h) (atp n) ?_
 have no:¬(0<=n/\n<1024)->Ends [bk,tU,bL] (eJ n,ml n,ix n,()) [] (AV.bd [AV.s (SV.aO i64 0),AV.s (SV.aO u64 0),AV.s (SV.aN false)]):=λh=>
  aM (0,0,false,()) (by simp only[eJ,ml,ix,if_neg h,decide_eq_false h]) (by kernel_rfl)
 refine⟨λh=>no (by simp at h;omega),λh=>⟨λh2=>no (by simp at h2;omega),λh2=> ?_⟩⟩;have h3:0<=n/\n<1024:=by simp at h h2;omega
 have e1:n.tdiv 64=n / 64:=Int.tdiv_eq_ediv_of_nonneg h3.1;have e2:n.tmod 64=n%64:=Int.tmod_eq_emod_of_nonneg h3.1;refine⟨by omega,⟨by omega,by omega⟩,by omega,by omega, ?_⟩;rw[e1,e2]
 have e3:u64.wrap ((1:Int)*(2:Int)^min (n%64).toNat u64.bits)=2^(n%64).toNat:=by
  have:(n%64).toNat<64:=by omega
  rw[show u64.bits=64 from rfl,Nat.min_eq_left (by omega),Int.one_mul];show(2:Int)^(n%64).toNat%18446744073709551616=_;refine Int.emod_eq_of_lt (Int.pow_nonneg (by omega)) ?_;have h5:(2:Nat)^(n%64).toNat<2^64:=Nat.pow_lt_pow_right (by omega) this;have:((2:Nat)^(n%64).toNat:Int)<((2^64:Nat):Int):=by exact_mod_cast h5
  simpa using this
 rw[e3];exact aM (n / 64,2^(n%64).toNat,true,()) (by simp only[eJ,ml,ix,if_pos h3,decide_eq_true h3]) (by kernel_rfl)
theorem aiU{Z:aZ}:cg P Z 58 [tU,tU] [tU] (λ_=>[]) (λ(a,b,())=>(bX .andNot .u64 a b,())):=by
 refine ay func58 (by kernel_rfl) (by kernel_rfl) ?_;rintro⟨(a:Int),(b:Int),⟨⟩⟩ _ _ X hX hz;exact cR (aF.sOk aF.Ok.nil) hz mixed func58 (λx h=>by simp at h) (atq a b) (aM _ rfl (by kernel_rfl))
theorem atx{Z:aZ}:cg P Z 56 [tU,tU] [tU] (λ_=>[]) (λ(a,b,())=>(bX .and .u64 a b,())):=by
 refine ay func56 (by kernel_rfl) (by kernel_rfl) ?_;rintro⟨(a:Int),(b:Int),⟨⟩⟩ _ _ X hX hz;exact cR (aF.sOk aF.Ok.nil) hz mixed func56 (λx h=>by simp at h) (atr a b) (aM _ rfl (by kernel_rfl))
theorem aww{Z:aZ}:cg P Z 91 [tU,tU] [tU] (λ_=>[]) (λ(a,b,())=>(bX .or .u64 a b,())):=by
 refine ay func91 (by kernel_rfl) (by kernel_rfl) ?_;rintro⟨(a:Int),(b:Int),⟨⟩⟩ _ _ X hX hz;exact cR (aF.sOk aF.Ok.nil) hz mixed func91 (λx h=>by simp at h) (ats a b) (aM _ rfl (by kernel_rfl))
theorem aa4{Z:aZ}:ao7.Ok P Z:=aF.Ok.cons atw.sum aF.Ok.nil
theorem qq{n:Int}(h:ix n=true):0<=eJ n/\eJ n<16:=by
 simp only[ix,decide_eq_true_eq]at h;simp only[eJ,if_pos h];omega
def lL(ws:List Int)(n:Int):Bool:=ix n&&(bX .and .u64 (ws.getD (eJ n).toNat 0) (ml n) !=0)
def cU(ws:List Int)(n:Int):List Int:=if ix n=true then ws.set (eJ n).toNat (bX .or .u64 (ws.getD (eJ n).toNat 0) (ml n))else ws
def dG(ws:List Int)(n:Int):List Int:=if ix n=true then ws.set (eJ n).toNat (bX .andNot .u64 (ws.getD (eJ n).toNat 0) (ml n))else ws
theorem afx{Z:aZ}:cg P Z 84 [dF,bk] [bL] (λ_=>[]) (λ(ws,n,())=>(lL ws n,())):=by
 refine ay func84 (by kernel_rfl) (by kernel_rfl) ?_;rintro⟨(ws:List Int),(n:Int),⟨⟩⟩ _ _ X hX hz;refine cR (aF.sOk aa4) hz mixed func84 (λx h=>by simp at h) (att ws n) ⟨λh=> ?_,λh=> ?_⟩;have:=qq h;exact⟨this.1,this.2,aM (bX .and .u64 (ws.getD (eJ n).toNat 0) (ml n) !=0,()) (by simp[lL,h]) (by kernel_rfl)⟩;exact aM (false,()) (by simp[lL,h]) (by kernel_rfl)
theorem pb{Z:aZ}:cg P Z 34 [dF,bk] [dF] (λ_=>[]) (λ(ws,n,())=>(cU ws n,())):=by
 refine ay func34 (by kernel_rfl) (by kernel_rfl) ?_;rintro⟨(ws:List Int),(n:Int),⟨⟩⟩ _ _ X hX hz;refine cR (aF.sOk aa4) hz mixed func34 (λx h=>by simp at h) (atu ws n) ⟨λh=> ?_,λh=> ?_⟩;have:=qq h;refine⟨this.1,this.2,this.1,this.2, ?_⟩;simp only[cU,if_pos h];exact aM _ rfl (by kernel_rfl);exact aM (ws,()) (by simp only[cU,h];rfl) (by kernel_rfl)
theorem xd{Z:aZ}:cg P Z 118 [dF,bk] [dF] (λ_=>[]) (λ(ws,n,())=>(dG ws n,())):=by
 refine ay func118 (by kernel_rfl) (by kernel_rfl) ?_;rintro⟨(ws:List Int),(n:Int),⟨⟩⟩ _ _ X hX hz;refine cR (aF.sOk aa4) hz mixed func118 (λx h=>by simp at h) (atv ws n) ⟨λh=> ?_,λh=> ?_⟩;have:=qq h;refine⟨this.1,this.2,this.1,this.2, ?_⟩;simp only[dG,if_pos h];exact aM _ rfl (by kernel_rfl);exact aM (ws,()) (by simp only[dG,h];rfl) (by kernel_rfl)
abbrev sOp(op:BinOp):=bM [tU,tU] [tU] (λ_=>[]) (λ(a,b,())=>(bX op .u64 a b,()))
def aa5:aF:=[(58,sOp .andNot),(56,sOp .and),(91,sOp .or)]
def ac7:List (Nat×Norm):=[(2,⟨[],[2,3,4,6,8],0,[]⟩)]
def c37(f:FuncId)(b s:List Int)(i:Int):bQ:=⟨sl 23 [(2,.s (.qF f)),(3,.ptr 0 0),(4,.ptr 1 0),(6,.ptr 2 0),(8,.s (.int .i64 i))],[.ak [.af .u64 16 s] 37,.ak [.af .u64 16 b] 37,.ak [.af .u64 16 (replicate 16 0)] 37],hd f55 2,{}⟩
theorem ao8(a b:List Int):run P aa5.sum f55 ac7 (start f55 [.af .u64 16 a,.af .u64 16 b,.s (.qF 58)] [])=
 Tree.at (c37 58 b a 0):=by kernel_rfl
theorem ao9(b s:List Int)(i:Int):run P aa5.sum f55 ac7 (c37 58 b s i)=
 Tree.ite (decide (i<16)) (.ab ((0:Int)<=i) (.ab (i<(↑(16:Nat):Int)) (.ab ((0:Int)<=i) (.ab (i<(↑(16:Nat):Int)) (.ab ((0:Int)<=i) (.ab (i<(↑(16:Nat):Int)) (.ab (aw (i+1)) (.at (c37 58 b (s.set i.toNat (bX BinOp.andNot .u64 (s.getD i.toNat 0) (b.getD i.toNat 0))) (i+1)))))))))) (.ret [.ak [.af .u64 16 s] 37,.ak [.af .u64 16 b] 37,.ak [.af .u64 16 s] 37] (.af .u64 16 s)):=by kernel_rfl
theorem apa(a b:List Int):run P aa5.sum f55 ac7 (start f55 [.af .u64 16 a,.af .u64 16 b,.s (.qF 56)] [])=
 Tree.at (c37 56 b a 0):=by kernel_rfl
theorem apb(b s:List Int)(i:Int):run P aa5.sum f55 ac7 (c37 56 b s i)=
 Tree.ite (decide (i<16)) (.ab ((0:Int)<=i) (.ab (i<(↑(16:Nat):Int)) (.ab ((0:Int)<=i) (.ab (i<(↑(16:Nat):Int)) (.ab ((0:Int)<=i) (.ab (i<(↑(16:Nat):Int)) (.ab (aw (i+1)) (.at (c37 56 b (s.set i.toNat (bX BinOp.and .u64 (s.getD i.toNat 0) (b.getD i.toNat 0))) (i+1)))))))))) (.ret [.ak [.af .u64 16 s] 37,.ak [.af .u64 16 b] 37,.ak [.af .u64 16 s] 37] (.af .u64 16 s)):=by kernel_rfl
theorem apc(a b:List Int):run P aa5.sum f55 ac7 (start f55 [.af .u64 16 a,.af .u64 16 b,.s (.qF 91)] [])=
 Tree.at (c37 91 b a 0):=by kernel_rfl
theorem apd(b s:List Int)(i:Int):run P aa5.sum f55 ac7 (c37 91 b s i)=
 Tree.ite (decide (i<16)) (.ab ((0:Int)<=i) (.ab (i<(↑(16:Nat):Int)) (.ab ((0:Int)<=i) (.ab (i<(↑(16:Nat):Int)) (.ab ((0:Int)<=i) (.ab (i<(↑(16:Nat):Int)) (.ab (aw (i+1)) (.at (c37 91 b (s.set i.toNat (bX BinOp.or .u64 (s.getD i.toNat 0) (b.getD i.toNat 0))) (i+1)))))))))) (.ret [.ak [.af .u64 16 s] 37,.ak [.af .u64 16 b] 37,.ak [.af .u64 16 s] 37] (.af .u64 16 s)):=by kernel_rfl
theorem ape{Z:aZ}:aa5.Ok P Z:=aF.Ok.cons aiU.sum (aF.Ok.cons atx.sum (aF.Ok.cons aww.sum aF.Ok.nil))
def dY(op:BinOp)(a b:List Int):List Int:=List.zipWith (bX op .u64) a b
def ac8(f:FuncId):BinOp:=if f=58 then .andNot else if f=56 then .and else .or
theorem xe{a b:List Int}{n:Nat}(ha:a.length=n)(hb:b.length=n)(h:∀j,j<n->a.getD j 0=b.getD j 0):a=b:=by
 refine List.ext_getElem (by omega) λj h1 h2=> ?_;have:=h j (by omega);simpa[List.getD,h1,h2]using this
theorem rK(a:List Int)(i j:Nat)(x:Int):(a.set i x).getD j 0=if j=i/\i<a.length then x else a.getD j 0:=by
 simp only[List.getD,getElem?_set];by_cases h:i=j;subst h;by_cases h2:i<a.length;simp[h2];simp[h2];simp[h,Ne.symm h]
def I37(op:BinOp)(a b s:List Int)(i:Int):Prop:=0<=i/\i<=16/\s.length=16/\∀j,j<16->s.getD j 0=if(j:Int)<i then bX op .u64 (a.getD j 0) (b.getD j 0)else a.getD j 0
theorem alQ{op:BinOp}{a b s:List Int}{i:Int}(h:I37 op a b s i)(hi:i<16):I37 op a b (s.set i.toNat (bX op .u64 (s.getD i.toNat 0) (b.getD i.toNat 0))) (i+1):=by
 have⟨h1,h2,h3,h4⟩:=h;refine⟨by omega,by omega,by simpa using h3,λj hj=> ?_⟩;rw[rK];by_cases hji:j=i.toNat;subst hji;rw[if_pos ⟨rfl,by omega⟩,if_pos (by omega),h4 _ hj,if_neg (by omega)];rw[if_neg (λh=>hji h.1),h4 j hj];by_cases h5:(j:Int)<i;rw[if_pos h5,if_pos (by omega)];rw[if_neg h5,if_neg (by omega)]
theorem apf{op:BinOp}{a b s:List Int}{i:Int}(ha:a.length=16)(hb:b.length=16)(h:I37 op a b s i)(hi:¬i<16):s=dY op a b:=by
 have⟨h1,h2,h3,h4⟩:=h;refine xe h3 (by simp[dY,ha,hb]) λj hj=> ?_;rw[h4 j hj,if_pos (by omega)];simp[dY,List.getD,List.getElem?_zipWith,ha,hb,hj]
theorem aa6{Z:aZ}:cg P Z 55 [dF,dF,.b .fn] [dF] (λ(_,_,f,())=>[f=58\/f=56\/f=91]) (λ(a,b,f,())=>(dY (ac8 f) a b,())):=by
 refine ay func55 (by kernel_rfl) (by kernel_rfl) ?_;rintro⟨(a:List Int),(b:List Int),(f:FuncId),⟨⟩⟩ ⟨(ha:a.length=16),(hb:b.length=16),_⟩ ⟨(hf:f=58\/f=56\/f=91),_⟩ X hX hz
 have run (c:bQ) (t:Tree) (ht:run P aa5.sum f55 ac7 c=t) {K:List au->AV->Prop} (h:t.bt K (Safe P 55 X K)):Safe P 55 X K c:=
  cR (aF.sOk ape) hz mixed func55 (λx h id _=>hX id) ht h
 have loop (op:BinOp) (f:FuncId) (hl:∀s i,Sx.run P aa5.sum f55 ac7 (c37 f b s i)=Tree.ite (decide (i<16)) (.ab ((0:Int)<=i) (.ab (i<(↑(16:Nat):Int)) (.ab ((0:Int)<=i) (.ab (i<(↑(16:Nat):Int)) (.ab ((0:Int)<=i) (.ab (i<(↑(16:Nat):Int)) (.ab (aw (i+1)) (.at (c37 f b (s.set i.toNat (bX op .u64 (s.getD i.toNat 0) (b.getD i.toNat 0))) (i+1)))))))))) (.ret [.ak [.af .u64 16 s] 37,.ak [.af .u64 16 b] 37,.ak [.af .u64 16 s] 37] (.af .u64 16 s))):
  Safe P 55 X (Ends [dF] (dY op a b,())) (c37 f b a 0):=by
  refine ef (λ(x:List Int×Int)=>c37 f b x.1 x.2) (λx=>I37 op a b x.1 x.2) (λx=>(16 - x.2).toNat) ?_ (a,0) ⟨by omega,by omega,ha,λj hj=>by rw[if_neg (by simp only[];omega)]⟩;rintro⟨s,i⟩ hI ih;have h0:0<=i:=hI.1;refine run _ _ (hl s i) ⟨λh=> ?_,λh=> ?_⟩;have hi:i<16:=by simpa using h
  exact⟨h0,hi,h0,hi,h0,hi,⟨by omega,by omega⟩,ih (_,i+1) (alQ hI hi) (by simp only[];omega)⟩;have hi:¬i<16:=by simpa using h
  exact aM (s,()) (by rw[<-apf ha hb hI hi]) (by kernel_rfl)
 rcases hf with rfl|rfl|rfl;exact run _ _ (ao8 a b) (loop .andNot 58 (λs i=>ao9 b s i));exact run _ _ (apa a b) (loop .and 56 (λs i=>apb b s i));exact run _ _ (apc a b) (loop .or 91 (λs i=>apd b s i))
abbrev s37:=bM [dF,dF,.b .fn] [dF] (λ(_,_,f,())=>[f=58\/f=56\/f=91]) (λ(a,b,f,())=>(dY (ac8 f) a b,()))
def aty:aF:=[(55,s37)]
abbrev s16:=bM [dF,bk] [dF] (λ_=>[]) (λ(ws,n,())=>(cU ws n,()))
def atz:aF:=[(34,s16)]
def awx:List (Nat×Norm):=[(3,⟨[],[2,3,6,7,8],0,[]⟩)]
def c11(l s:List Int)(i:Int):bQ:=⟨sl 17 [(2,.ptr 0 0),(3,.ptr 1 0),(6,.s (.ro (.af .i64 l))),(7,.s (.int .i64 l.length)),(8,.s (.int .i64 i))],[.ak [.af .u64 16 (replicate 16 0)] 37,.ak [.af .u64 16 s] 37],hd f9 3,{}⟩
def awy:List (Nat×Norm):=[(3,⟨[],[0,2,3,6],0,[]⟩)]
def c13(n:Int)(s:List Int)(i:Int):bQ:=⟨sl 24 [(0,.s (.int .i64 n)),(2,.ptr 0 0),(3,.ptr 1 0),(6,.s (.int .i64 i))],[.ak [.af .u64 16 (replicate 16 0)] 37,.ak [.af .u64 16 s] 37],hd f31 3,{}⟩
def awz:List (Nat×Norm):=[(4,⟨[],[0,1,5],0,[]⟩)]
def c19(a b:List Int)(i:Int):bQ:=⟨sl 26 [(0,.s (.ro (.af .i64 a))),(1,.s (.ro (.af .i64 b))),(5,.s (.int .i64 i))],[],hd f20 4,{}⟩
theorem atA(a b:List Int):run P aty.sum f33 [] (start f33 [.af .u64 16 a,.af .u64 16 b] [])=
 Tree.ab ((58:Nat)=(58:(Ty.b B.fn).V)\/(58:Nat)=(56:(Ty.b B.fn).V)\/(58:Nat)=(91:(Ty.b B.fn).V)) (.ret [.ak [.af .u64 16 a] 37,.ak [.af .u64 16 b] 37,.ak [.af .u64 16 (dY (ac8 58) a b)] 37] (.af .u64 16 (dY (ac8 58) a b))):=by kernel_rfl
theorem atB(a b:List Int):run P aty.sum f30 [] (start f30 [.af .u64 16 a,.af .u64 16 b] [])=
 Tree.ab ((56:Nat)=(58:(Ty.b B.fn).V)\/(56:Nat)=(56:(Ty.b B.fn).V)\/(56:Nat)=(91:(Ty.b B.fn).V)) (.ret [.ak [.af .u64 16 a] 37,.ak [.af .u64 16 b] 37,.ak [.af .u64 16 (dY (ac8 56) a b)] 37] (.af .u64 16 (dY (ac8 56) a b))):=by kernel_rfl
theorem atC(a b:List Int):run P aty.sum f65 [] (start f65 [.af .u64 16 a,.af .u64 16 b] [])=
 Tree.ab ((91:Nat)=(58:(Ty.b B.fn).V)\/(91:Nat)=(56:(Ty.b B.fn).V)\/(91:Nat)=(91:(Ty.b B.fn).V)) (.ret [.ak [.af .u64 16 a] 37,.ak [.af .u64 16 b] 37,.ak [.af .u64 16 (dY (ac8 91) a b)] 37] (.af .u64 16 (dY (ac8 91) a b))):=by kernel_rfl
theorem atD(l:List Int):run P atz.sum f9 awx (start f9 [.s (.ro (.af .i64 l))] [])=
 Tree.at (c11 l (replicate 16 0) 0):=by kernel_rfl
theorem atE(l s:List Int)(i:Int):run P atz.sum f9 awx (c11 l s i)=
 Tree.ite (decide (i<l.length)) (.ab ((0:Int)<=i) (.ab (i<l.length) (.ab (aw (i+1)) (.at (c11 l (cU s (l.getD i.toNat 0)) (i+1)))))) (.ret [.ak [.af .u64 16 s] 37,.ak [.af .u64 16 s] 37] (.af .u64 16 s)):=by kernel_rfl
theorem atF(n:Int):run P dK.sum f31 awy (start f31 [.s (.int .i64 n)] [])=
 Tree.at (c13 n (replicate 16 0) 0):=by kernel_rfl
theorem atG(n:Int)(s:List Int)(i:Int):run P dK.sum f31 awy (c13 n s i)=
 Tree.ite (decide (i<(16:Int))) (Tree.ab (aw (i*(64:Int))) (Tree.ab (aw (pZ (imax n (0:Int)) (1024:Int) - i*(64:Int))) (Tree.ab ((0:Int)≤pZ (imax (pZ (imax n (0:Int)) (1024:Int) - i*(64:Int)) (0:Int)) (64:Int)) (Tree.ab ((0:Int)≤i) (Tree.ab (i<(↑(16:Nat):Int)) (Tree.ab (aw (i+(1:Int))) (Tree.at (c13 n (s.set i.toNat (u64.wrap (u64.wrap ((1:Int)*(2:Int)^min (pZ (imax (pZ (imax n (0:Int)) (1024:Int) - i*(64:Int)) (0:Int)) (64:Int)).toNat u64.bits) - (1:Int)))) (i+(1:Int)))))))))) (Tree.ret [au.ak [AV.af u64 (16:Nat) s] (37:Nat),au.ak [AV.af u64 (16:Nat) s] (37:Nat)] (AV.af u64 (16:Nat) s)):=by kernel_rfl
theorem atH(a b:List Int):run P dK.sum f20 awz (start f20 [.s (.ro (.af .i64 a)),.s (.ro (.af .i64 b))] [])=
 Tree.ite ((↑a.length:Int) !=(↑b.length:Int)) (.ret [] (.s (.aN false))) (.at (c19 a b 0)):=by kernel_rfl
theorem atI(a b:List Int)(i:Int):run P dK.sum f20 awz (c19 a b i)=
 Tree.ite (decide (i<a.length)) (.ab ((0:Int)<=i) (.ab (i<a.length) (.ab ((0:Int)<=i) (.ab (i<b.length) (.ite (a.getD i.toNat (0:Int) !=b.getD i.toNat 0) (.ret [] (.s (.aN false))) (.ab (aw (i+1)) (.at (c19 a b (i+1))))))))) (.ret [] (.s (.aN true))):=by kernel_rfl
theorem agY{Z:aZ}:cg P Z 33 [dF,dF] [dF] (λ_=>[]) (λ(a,b,())=>(dY .andNot a b,())):=by
 refine ay func33 (by kernel_rfl) (by kernel_rfl) ?_;rintro⟨(a:List Int),(b:List Int),⟨⟩⟩ _ _ X hX hz;exact go hz hX (aF.Ok.cons aa6.sum aF.Ok.nil) func33 (atA a b) ⟨.inl rfl,aM _ rfl (by kernel_rfl)⟩
theorem apg{Z:aZ}:cg P Z 30 [dF,dF] [dF] (λ_=>[]) (λ(a,b,())=>(dY .and a b,())):=by
 refine ay func30 (by kernel_rfl) (by kernel_rfl) ?_;rintro⟨(a:List Int),(b:List Int),⟨⟩⟩ _ _ X hX hz;exact go hz hX (aF.Ok.cons aa6.sum aF.Ok.nil) func30 (atB a b) ⟨.inr (.inl rfl),aM _ rfl (by kernel_rfl)⟩
theorem alR{Z:aZ}:cg P Z 65 [dF,dF] [dF] (λ_=>[]) (λ(a,b,())=>(dY .or a b,())):=by
 refine ay func65 (by kernel_rfl) (by kernel_rfl) ?_;rintro⟨(a:List Int),(b:List Int),⟨⟩⟩ _ _ X hX hz;exact go hz hX (aF.Ok.cons aa6.sum aF.Ok.nil) func65 (atC a b) ⟨.inr (.inr rfl),aM _ rfl (by kernel_rfl)⟩
def cz:List Int:=replicate 16 0
def ofF(l:List Int):List Int:=l.foldl cU cz
theorem pd:maxLen=9223372036854775807:=by decide
theorem iL{α:Type}(l:List α)(i:Nat)(d:α)(h:i<l.length):l.take (i+1)=l.take i++[l.getD i d]:=by
 rw[List.take_add_one];simp[List.getD,h]
theorem awA{Z:aZ}:cg P Z 9 [iw] [dF] (λ_=>[]) (λ(l,())=>(ofF l,())):=by
 refine ay func9 (by kernel_rfl) (by kernel_rfl) ?_;rintro⟨(l:List Int),⟨⟩⟩ ⟨(hl:l.length<=maxLen),_⟩ _ X hX hz;rw[pd]at hl;have hT:atz.Ok P Z:=aF.Ok.cons pb.sum aF.Ok.nil;refine go hz hX hT func9 (atD l) ?_;refine ef (λ(x:List Int×Int)=>c11 l x.1 x.2) (λx=>0<=x.2/\x.2<=l.length/\x.1=(l.take x.2.toNat).foldl cU cz) (λx=>(l.length - x.2).toNat) ?_ (cz,0) ⟨by simp only[];omega,by simp only[];omega,rfl⟩;rintro⟨s,i⟩ ⟨(h0:0<=i),(h1:i<=l.length),(h2:s=_)⟩ ih;simp only[]at h2;refine go hz hX hT func9 (atE l s i) ⟨λh=> ?_,λh=> ?_⟩;have hi:i<(l.length:Int):=of_decide_eq_true h;refine⟨h0,hi,⟨by omega,by omega⟩,ih (cU s (l.getD i.toNat 0),i+1) ⟨by simp only[];omega,by simp only[];omega, ?_⟩ (by simp only[];omega)⟩;simp only[];rw[show(i+1).toNat=i.toNat+1 from by omega,iL l i.toNat 0 (by omega),List.foldl_append,h2];rfl;have hi:¬i<(l.length:Int):=of_decide_eq_false h;refine aM (s,()) ?_ (by kernel_rfl);rw[h2,take_of_length_le (by omega)];rfl
def aiV(n i:Int):Int:=pZ (imax (pZ (imax n 0) 1024 - i*64) 0) 64
def sY(n i:Int):Int:=u64.wrap (u64.wrap (1*2^min (aiV n i).toNat u64.bits) - 1)
def dM(n:Int):List Int:=(List.range 16).map λ(i:Nat)=>sY n i
theorem xf(n i:Int):0<=aiV n i/\aiV n i<=64:=by
 unfold aiV;generalize pZ (imax n 0) 1024 - i*64=x;unfold pZ imax;split<;>split at * <;>omega
theorem aiW(n:Int):0<=pZ (imax n 0) 1024/\pZ (imax n 0) 1024<=1024:=by
 unfold pZ imax;split<;>split at * <;>omega
theorem ac9{Z:aZ}:cg P Z 31 [bk] [dF] (λ_=>[]) (λ(n,())=>(dM n,())):=by
 refine ay func31 (by kernel_rfl) (by kernel_rfl) ?_;rintro⟨(n:Int),⟨⟩⟩ _ _ X hX hz;refine go hz hX aF.Ok.nil func31 (atF n) ?_;refine ef (λ(x:List Int×Int)=>c13 n x.1 x.2) (λx=>0<=x.2/\x.2<=16/\x.1.length=16/\∀j:Nat,j<16->(j:Int)<x.2->x.1.getD j 0=sY n j) (λx=>(16 - x.2).toNat) ?_ (cz,0) ⟨by simp only[];omega,by simp only[];omega,rfl,λj _ h=>by simp only[]at h;omega⟩;rintro⟨s,i⟩ ⟨(h0:0<=i),(h1:i<=16),(h2:s.length=16),h3⟩ ih;simp only[]at h3;have hr:=xf n i;have hc:=aiW n;refine go hz hX aF.Ok.nil func31 (atG n s i) ⟨λh=> ?_,λh=> ?_⟩;have hi:i<(16:Int):=of_decide_eq_true h;refine⟨⟨by omega,by omega⟩,⟨by omega,by omega⟩,hr.1,h0,hi,⟨by omega,by omega⟩,ih (s.set i.toNat (sY n i),i+1) ⟨by simp only[];omega,by simp only[];omega,by simpa using h2,λj hj hji=> ?_⟩ (by simp only[];omega)⟩;simp only[]at hji ⊢;rw[rK];by_cases yG:j=i.toNat;rw[if_pos ⟨yG,by omega⟩,show(j:Int)=i from by omega];rw[if_neg (λh=>yG h.1)];exact h3 j hj (by omega);have hi:¬i<(16:Int):=of_decide_eq_false h;refine aM (s,()) ?_ (by kernel_rfl);rw[xe (a:=s) (b:=dM n) h2 (by simp[dM]) (λj hj=> ?_)];rw[h3 j hj (by omega)];simp[dM,List.getD,hj]
theorem aph{Z:aZ}:cg P Z 20 [iw,iw] [bL] (λ_=>[]) (λ(a,b,())=>(decide ((a:List Int)=b),())):=by
 refine ay func20 (by kernel_rfl) (by kernel_rfl) ?_;rintro⟨(a:List Int),(b:List Int),⟨⟩⟩ ⟨(hl:a.length<=maxLen),_⟩ _ X hX hz;rw[pd]at hl;refine go hz hX aF.Ok.nil func20 (atH a b) ⟨λh=> ?_,λh=> ?_⟩;refine aM (false,()) ?_ (by kernel_rfl);have:a≠b:=by rintro rfl;simp at h
 simp[this];have hab:a.length=b.length:=by simp[ba.n]at h;omega
 refine ef (λ(i:Int)=>c19 a b i) (λi=>0<=i/\i<=a.length/\a.take i.toNat=b.take i.toNat) (λi=>(a.length - i).toNat) ?_ 0 ⟨by omega,by omega,rfl⟩;rintro i ⟨(h0:0<=i),(h1:i<=a.length),h2⟩ ih;refine go hz hX aF.Ok.nil func20 (atI a b i) ⟨λh=> ?_,λh=> ?_⟩;have hi:i<(a.length:Int):=of_decide_eq_true h;refine⟨h0,hi,h0,by omega,λh3=> ?_,λh3=>⟨⟨by omega,by omega⟩,ih (i+1) ⟨by omega,by omega, ?_⟩ (by omega)⟩⟩;refine aM (false,()) ?_ (by kernel_rfl);have:a≠b:=by rintro rfl;simp at h3
 simp[this];rw[show(i+1).toNat=i.toNat+1 from by omega,iL a i.toNat 0 (by omega),iL b i.toNat 0 (by omega),h2];simp only[bne_eq_false_iff_eq]at h3;rw[h3];have hi:¬i<(a.length:Int):=of_decide_eq_false h;refine aM (true,()) ?_ (by kernel_rfl);rw[take_of_length_le (by omega),take_of_length_le (by omega)]at h2;simp[h2]
def ub(a b:Int):Int:=bX .and .u64 a b
def sh(x k:Int):Int:=x.fdiv ((2:Int)^min (Int.toNat k) u64.bits)
def pc:Nat->Nat->Nat
 |0,_=>0|n+1,x=>x%2+pc n (x / 2)
theorem atJ(a b:Nat)(ha:a<18446744073709551616)(hb:b<18446744073709551616):ub (a:Int) (b:Int)=((a &&& b:Nat):Int):=by
 have hx:a &&& b<2^64:=Nat.and_lt_two_pow _ (by omega)
 have h1:(BitVec.ofInt 64 (a:Int)).toNat=a:=by
  rw[BitVec.ofInt_natCast,BitVec.toNat_ofNat];exact Nat.mod_eq_of_lt (by omega)
 have h2:(BitVec.ofInt 64 (b:Int)).toNat=b:=by
  rw[BitVec.ofInt_natCast,BitVec.toNat_ofNat];exact Nat.mod_eq_of_lt (by omega)
 show((BitVec.ofInt 64 (a:Int) &&& BitVec.ofInt 64 (b:Int)).toNat:Int)%18446744073709551616=_;rw[BitVec.toNat_and,h1,h2];omega
def msk(b c:Nat):Nat->Nat
 |0=>0|n+1=>(2^b - 1)+2^c*msk b c n
theorem rL(b c n x:Nat)(hbc:b<=c):x &&& msk b c (n+1)=x%2^b+2^c*((x / 2^c) &&& msk b c n):=by
 have alS:x%2^b<2^c:=Nat.lt_of_lt_of_le (Nat.mod_lt _ (Nat.two_pow_pos _)) (Nat.pow_le_pow_right (by omega) hbc);have hm:2^b - 1<2^c:=Nat.lt_of_lt_of_le (by have:=Nat.two_pow_pos b;omega) (Nat.pow_le_pow_right (by omega) hbc);apply Nat.eq_of_testBit_eq;intro i;rw[Nat.testBit_and,msk,Nat.add_comm (2^b - 1),Nat.add_comm (x%2^b)];rw[Nat.testBit_two_pow_mul_add _ hm,Nat.testBit_two_pow_mul_add _ alS];by_cases hi:i<c;rw[if_pos hi,if_pos hi,Nat.testBit_two_pow_sub_one,Nat.testBit_mod_two_pow,Bool.and_comm];rw[if_neg hi,if_neg hi,Nat.testBit_and,Nat.testBit_div_two_pow];congr 2;omega
def st1(n x:Nat):Nat:=((x / 2) &&& msk 1 2 n)+(x &&& msk 1 2 n)
theorem ada(n x:Nat):st1 (n+1) x=(x%2+x / 2%2)+4*st1 n (x / 4):=by
 unfold st1;rw[rL 1 2 n x (by omega),rL 1 2 n (x / 2) (by omega)];rw[show x / 2 / 2^2=x / 4 / 2 from by omega,show x / 2^2=x / 4 from rfl];omega
def st2(n y:Nat):Nat:=((y / 4) &&& msk 2 4 n)+(y &&& msk 2 4 n)
theorem alT(n y:Nat):st2 (n+1) y=(y%4+y / 4%4)+16*st2 n (y / 16):=by
 unfold st2;rw[rL 2 4 n y (by omega),rL 2 4 n (y / 4) (by omega)];rw[show y / 4 / 2^4=y / 16 / 4 from by omega,show y / 2^4=y / 16 from rfl];omega
theorem alU(n x:Nat):st1 (n+2) x%16=x%2+x / 2%2+4*(x / 4%2+x / 4 / 2%2)/\st1 (n+2) x / 16=st1 n (x / 16):=by
 rw[ada,ada,show x / 16=x / 4 / 4 from by omega];constructor<;>omega
theorem asE:∀(n x:Nat),st2 (n+1) (st1 (2*(n+1)) x)=pc 4 x+16*st2 n (st1 (2*n) (x / 16)):=by
 intro n x;rw[alT,show 2*(n+1)=2*n+2 from by omega];have⟨h1,h2⟩:=alU (2*n) x;rw[h2];have hp:pc 4 x=x%2+(x / 2%2+(x / 2 / 2%2+(x / 2 / 2 / 2%2+0))):=rfl;rw[show x / 2 / 2=x / 4 from by omega]at hp;rw[hp];generalize st1 (2*n+2) x=y at *;generalize x / 4 / 2%2=b3 at *;have:x%2<2/\x / 2%2<2/\x / 4%2<2:=by omega
 generalize x%2=b0 at *;generalize x / 2%2=b1 at *;generalize x / 4%2=b2 at *;omega
def st3(n z:Nat):Nat:=(z / 16+z) &&& msk 4 8 n
theorem agZ:∀(n x:Nat),pc n x<=n
 |0,x=>le_refl _|n+1,x=>by have:=agZ n (x / 2);simp only[pc];omega
theorem alV:∀(m n x:Nat),pc (m+n) x=pc m x+pc n (x / 2^m)
 |0,n,x=>by simp[pc]
 |m+1,n,x=>by
  rw[show m+1+n=(m+n)+1 from by omega];simp only[pc];rw[alV m n (x / 2),Nat.div_div_eq_div_mul,Nat.pow_succ,Nat.mul_comm 2];omega
def z4(n x:Nat):Nat:=st2 n (st1 (2*n) x)
theorem aa7(n x:Nat):z4 (n+1) x=pc 4 x+16*z4 n (x / 16):=asE n x
theorem api(x:Nat):z4 0 x=0:=by simp[z4,st2,msk]
theorem alW(n x:Nat):st3 (n+1) (z4 (2*n+2) x)=pc 8 x+256*st3 n (z4 (2*n) (x / 256)):=by
 unfold st3;rw[rL 4 8 n _ (by omega)];have e1:=aa7 (2*n+1) x;have e2:=aa7 (2*n) (x / 16);rw[Nat.div_div_eq_div_mul]at e2;have e0:pc 8 x=pc 4 x+pc 4 (x / 16):=alV 4 4 x;have b1:=agZ 4 x;have b2:=agZ 4 (x / 16)
 have b3:z4 (2*n) (x / (16*16))%16<=4:=by
  cases n with
  |zero=>rw[api];omega|succ n=>
   rw[show 2*(n+1)=(2*n+1)+1 from by omega,aa7];have:=agZ 4 (x / (16*16));omega
 rw[show x / 256=x / (16*16)from rfl];generalize z4 (2*n) (x / (16*16))=q at *;generalize z4 (2*n+1) (x / 16)=r at *;generalize z4 (2*n+2) x=t at *;have ht:(t / 16+t) / 2^8=q / 16+q:=by omega
 rw[ht];have:(t / 16+t)%2^4=pc 4 x+pc 4 (x / 16):=by omega
 omega
theorem bytes(x:Nat):st3 8 (z4 16 x)=pc 8 x+256*(pc 8 (x / 2^8)+256*(pc 8 (x / 2^16)+256*(pc 8 (x / 2^24)+256*(pc 8 (x / 2^32)+256*(pc 8 (x / 2^40)+256*(pc 8 (x / 2^48)+256*pc 8 (x / 2^56))))))):=by
 have h (n x:Nat):=alW n x;have h0:∀x,st3 0 (z4 0 x)=0:=λx=>by simp[st3,msk]
 rw[h 7,h 6,h 5,h 4,h 3,h 2,h 1,h 0,h0];simp only[Nat.div_div_eq_div_mul]
 try rfl
def okW(ws:List Int):Prop:=ws.length=16/\∀w∈ws,0<=w/\w<18446744073709551616
def wd(ws:List Int)(i:Nat):Nat:=(ws.getD i 0).toNat
def bit(ws:List Int)(k:Nat):Bool:=(wd ws (k / 64)).testBit (k%64)
def opb:BinOp->Bool->Bool->Bool
 |.or,x,y=>x||y|.andNot,x,y=>x&& !y|_,x,y=>x&&y
theorem rM{ws:List Int}(h:okW ws)(i:Nat):wd ws i<18446744073709551616/\(ws.getD i 0)=(wd ws i:Int):=by
 unfold wd;by_cases hi:i<ws.length;have:=h.2 (ws.getD i 0) (by rw[List.getD,getElem?_eq_getElem hi];exact getElem_mem hi);omega;have:ws.getD i 0=0:=by simp[List.getD,getElem?_eq_none (Nat.le_of_not_lt hi)]
 rw[this];simp
theorem zm(op:BinOp)(xM:op=.or\/op=.and\/op=.andNot)(a b:Nat)(ha:a<18446744073709551616)(hb:b<18446744073709551616):
 ∃r:Nat,bX op .u64 (a:Int) (b:Int)=(r:Int)/\r<18446744073709551616/\∀i,i<64->r.testBit i=opb op (a.testBit i) (b.testBit i):=by
 have h1:BitVec.ofInt 64 (a:Int)=BitVec.ofNat 64 a:=BitVec.ofInt_natCast 64 a;have h2:BitVec.ofInt 64 (b:Int)=BitVec.ofNat 64 b:=BitVec.ofInt_natCast 64 b
 have key:∀v:BitVec 64,u64.wrap (v.toNat:Int)=(v.toNat:Int):=λv=>by
  have:=v.isLt;show(v.toNat:Int)%18446744073709551616=_;omega
 rcases xM with rfl|rfl|rfl;refine⟨(BitVec.ofNat 64 a ||| BitVec.ofNat 64 b).toNat, ?_,(BitVec.ofNat 64 a ||| BitVec.ofNat 64 b).isLt,λi hi=> ?_⟩;show u64.wrap ((BitVec.ofInt 64 (a:Int) ||| BitVec.ofInt 64 (b:Int)).toNat:Int)=_;rw[h1,h2,key];rw[BitVec.testBit_toNat,BitVec.getLsbD_or,BitVec.getLsbD_ofNat,BitVec.getLsbD_ofNat];simp[opb,hi];refine⟨(BitVec.ofNat 64 a &&& BitVec.ofNat 64 b).toNat, ?_,(BitVec.ofNat 64 a &&& BitVec.ofNat 64 b).isLt,λi hi=> ?_⟩;show u64.wrap ((BitVec.ofInt 64 (a:Int) &&& BitVec.ofInt 64 (b:Int)).toNat:Int)=_;rw[h1,h2,key];rw[BitVec.testBit_toNat,BitVec.getLsbD_and,BitVec.getLsbD_ofNat,BitVec.getLsbD_ofNat];simp[opb,hi];refine⟨(BitVec.ofNat 64 a &&& ~~~ BitVec.ofNat 64 b).toNat, ?_,(BitVec.ofNat 64 a &&& ~~~ BitVec.ofNat 64 b).isLt,λi hi=> ?_⟩;show u64.wrap ((BitVec.ofInt 64 (a:Int) &&& ~~~ BitVec.ofInt 64 (b:Int)).toNat:Int)=_;rw[h1,h2,key];rw[BitVec.testBit_toNat,BitVec.getLsbD_and,BitVec.getLsbD_not,BitVec.getLsbD_ofNat,BitVec.getLsbD_ofNat];simp[opb,hi]
theorem xg{ws:List Int}(hl:ws.length=16)(h:∀i,i<16->0<=ws.getD i 0/\ws.getD i 0<18446744073709551616):okW ws:=by
 refine⟨hl,λw hw=> ?_⟩;obtain⟨i,hi,rfl⟩:=List.getElem_of_mem hw;have:=h i (by omega);rwa[List.getD,getElem?_eq_getElem hi]at this
theorem alX{op:BinOp}{a b:List Int}(ha:a.length=16)(hb:b.length=16){i:Nat}(hi:i<16):(dY op a b).getD i 0=bX op .u64 (a.getD i 0) (b.getD i 0):=by
 have h1:i<a.length:=by omega
 have h2:i<b.length:=by omega
 simp[dY,List.getD,List.getElem?_zipWith,h1,h2]
theorem kx{op:BinOp}(xM:op=.or\/op=.and\/op=.andNot){a b:List Int}(ha:okW a)(hb:okW b):okW (dY op a b)/\∀k,k<1024->bit (dY op a b) k=opb op (bit a k) (bit b k):=by
 have key:∀i,i<16->∃r:Nat,(dY op a b).getD i 0=(r:Int)/\r<18446744073709551616/\∀j,j<64->r.testBit j=opb op ((wd a i).testBit j) ((wd b i).testBit j):=λi hi=>by
  rw[alX ha.1 hb.1 hi,(rM ha i).2,(rM hb i).2];exact zm op xM _ _ (rM ha i).1 (rM hb i).1
 refine⟨xg (by simp[dY,ha.1,hb.1]) λi hi=> ?_,λk hk=> ?_⟩;have⟨r,h1,h2,_⟩:=key i hi;rw[h1];omega;have⟨r,h1,h2,h3⟩:=key (k / 64) (by omega);unfold bit;rw[show wd (dY op a b) (k / 64)=r from by unfold wd;rw[h1];rfl];exact h3 _ (by omega)
theorem fe:okW cz/\∀k,bit cz k=false:=by
 refine⟨⟨rfl,λw hw=> ?_⟩,λk=> ?_⟩;have:=List.eq_of_mem_replicate hw;omega
 have:wd cz (k / 64)=0:=by
  unfold wd cz;rw[List.getD,List.getElem?_replicate];split<;>rfl
 simp[bit,this]
theorem u6{j i:Nat}:(2^j).testBit i=decide (j=i):=by
 rw[Nat.testBit_two_pow]
theorem adb{n:Int}(h:0<=n/\n<1024):ml n=((2^(n.toNat%64):Nat):Int)/\2^(n.toNat%64)<18446744073709551616/\eJ n=((n.toNat / 64:Nat):Int):=by
 unfold ml eJ;rw[if_pos h,if_pos h];have e:(n%64).toNat=n.toNat%64:=by omega
 rw[e];have h2:(2:Nat)^(n.toNat%64)<2^64:=Nat.pow_lt_pow_right (by omega) (by omega);refine⟨by simp,h2,by omega⟩
theorem mm{n:Int}:ix n=true↔0<=n/\n<1024:=by simp[ix]
theorem alY(op:BinOp)(xM:op=.or\/op=.andNot){ws:List Int}(hw:okW ws){n:Int}(h:0<=n/\n<1024):
 okW (ws.set (eJ n).toNat (bX op .u64 (ws.getD (eJ n).toNat 0) (ml n)))/\∀k,k<1024->bit (ws.set (eJ n).toNat (bX op .u64 (ws.getD (eJ n).toNat 0) (ml n))) k=opb op (bit ws k) (decide (n=(k:Int))):=by
 have⟨e1,e2,e3⟩:=adb h;rw[e1,e3,toNat_natCast];obtain⟨m,rfl⟩:=Int.eq_ofNat_of_zero_le h.1;simp only[toNat_natCast]at *;have hb:=rM hw (m / 64);rw[hb.2];have⟨r,h1,h2,h3⟩:=zm op (by rcases xM with h|h<;>simp[h]) _ _ hb.1 e2;rw[h1];have hm:m / 64<ws.length:=by rw[hw.1];omega
 refine⟨xg (by simpa using hw.1) λi hi=> ?_,λk hk=> ?_⟩;rw[rK];split;omega;have:=rM hw i;omega;unfold bit wd;rw[rK];by_cases hk2:k / 64=m / 64;rw[if_pos ⟨hk2,hm⟩,toNat_natCast,h3 _ (by omega),u6]
 have:decide (m%64=k%64)=decide ((m:Int)=(k:Int)):=by
  apply decide_eq_decide.2;omega
 rw[this,hk2];rfl;rw[if_neg (λh=>hk2 h.1)];have:decide ((m:Int)=(k:Int))=false:=decide_eq_false (by omega);rw[this];rcases xM with rfl|rfl<;>simp[opb]
theorem gx{ws:List Int}(hw:okW ws)(n:Int):okW (cU ws n)/\∀k,k<1024->bit (cU ws n) k=(bit ws k||decide (n=(k:Int))):=by
 unfold cU;by_cases h:0<=n/\n<1024;rw[if_pos (mm.2 h)];exact alY .or (.inl rfl) hw h;rw[if_neg (λh2=>h (mm.1 h2))];refine⟨hw,λk hk=> ?_⟩;rw[decide_eq_false (by omega),Bool.or_false]
theorem oE{ws:List Int}(hw:okW ws)(n:Int):okW (dG ws n)/\∀k,k<1024->bit (dG ws n) k=(bit ws k&& !decide (n=(k:Int))):=by
 unfold dG;by_cases h:0<=n/\n<1024;rw[if_pos (mm.2 h)];exact alY .andNot (.inr rfl) hw h;rw[if_neg (λh2=>h (mm.1 h2))];refine⟨hw,λk hk=> ?_⟩;rw[decide_eq_false (by omega)];simp
theorem xh(l:List Int):okW (ofF l)/\∀k,k<1024->bit (ofF l) k=decide ((k:Int)∈l):=by
 have:∀(l:List Int) (ws:List Int),okW ws->okW (l.foldl cU ws)/\∀k,k<1024->bit (l.foldl cU ws) k=(bit ws k||decide ((k:Int)∈l)):=by
  intro l
  induction l with
  |nil=>intro ws h;exact⟨h,λk _=>by simp⟩
  |cons n l ih=>
   intro ws h;have⟨h1,h2⟩:=gx h n;have⟨h3,h4⟩:=ih _ h1;refine⟨h3,λk hk=> ?_⟩;rw[List.foldl_cons,h4 k hk,h2 k hk];by_cases hn:n=(k:Int);simp[hn];simp[hn,Ne.symm hn]
 have⟨h1,h2⟩:=this l cz fe.1;exact⟨h1,λk hk=>by rw[ofF,h2 k hk,fe.2];simp⟩
theorem apj(w j:Nat):w &&& 2^j=if w.testBit j=true then 2^j else 0:=by
 apply Nat.eq_of_testBit_eq;intro i;rw[Nat.testBit_and,u6];by_cases h:j=i;subst h;cases h2:w.testBit j;simp;simp[u6];cases h2:w.testBit j;simp[h];simp[u6,h]
theorem aa8{ws:List Int}(hw:okW ws)(n:Int):lL ws n=(decide (0<=n/\n<1024)&&bit ws n.toNat):=by
 unfold lL;by_cases h:0<=n/\n<1024;rw[show ix n=true from mm.2 h,decide_eq_true h];have⟨e1,e2,e3⟩:=adb h;rw[e1,e3,toNat_natCast];have hb:=rM hw (n.toNat / 64);rw[hb.2];have:=atJ _ _ hb.1 e2;unfold ub at this;rw[this,apj];unfold bit;have hp:(0:Nat)<2^(n.toNat%64):=Nat.two_pow_pos _;generalize (2:Nat)^(n.toNat%64)=p at *;cases(wd ws (n.toNat / 64)).testBit (n.toNat%64);rfl;rw[if_pos rfl];simp;omega;rw[show ix n=false from by simp[ix];omega,decide_eq_false h];rfl
theorem apk{a b:List Int}(ha:okW a)(hb:okW b)(h:∀k,k<1024->bit a k=bit b k):a=b:=by
 refine xe ha.1 hb.1 λi hi=> ?_;have h1:=rM ha i;have h2:=rM hb i;rw[h1.2,h2.2];congr 1;apply Nat.eq_of_testBit_eq;intro j;by_cases hj:j<64;have:=h (64*i+j) (by omega);unfold bit at this;rwa[show(64*i+j) / 64=i from by omega,show(64*i+j)%64=j from by omega]at this;rw[Nat.testBit_lt_two_pow (Nat.lt_of_lt_of_le h1.1 (Nat.pow_le_pow_right (by omega) (Nat.le_of_not_lt hj):2^64<=2^j)),Nat.testBit_lt_two_pow (Nat.lt_of_lt_of_le h2.1 (Nat.pow_le_pow_right (by omega) (Nat.le_of_not_lt hj):2^64<=2^j))]
theorem xi(n i:Int):∃m:Nat,m<=64/\aiV n i=m/\sY n i=((2^m - 1:Nat):Int):=by
 have⟨h0,h1⟩:=xf n i;have⟨m,hm⟩:=Int.eq_ofNat_of_zero_le h0;refine⟨m,by omega,hm, ?_⟩;unfold sY;rw[hm,toNat_natCast,show u64.bits=64 from rfl,Nat.min_eq_left (by omega),Int.one_mul];show((2:Int)^m%18446744073709551616 - 1)%18446744073709551616=_;have hp:=Nat.two_pow_pos m;by_cases h64:m=64;subst h64;decide;have h2:(2:Nat)^m<2^64:=Nat.pow_lt_pow_right (by omega) (by omega);rw[show(2:Int)^m=((2^m:Nat):Int)from by simp];generalize (2:Nat)^m=p at *;omega
theorem dz(n:Int):okW (dM n)/\∀k,k<1024->bit (dM n) k=decide ((k:Int)<n):=by
 have hg:∀i:Nat,i<16->(dM n).getD i 0=sY n i:=λi hi=>by simp[dM,List.getD,hi]
 refine⟨xg (by simp[dM]) λi hi=> ?_,λk hk=> ?_⟩;rw[hg i hi];have⟨m,h1,_,h2⟩:=xi n i;rw[h2];have:(2:Nat)^m<=2^64:=Nat.pow_le_pow_right (by omega) h1;omega;unfold bit wd;rw[hg _ (by omega)];have⟨m,h1,h3,h2⟩:=xi n ((k / 64:Nat):Int);rw[h2,toNat_natCast,Nat.testBit_two_pow_sub_one];apply decide_eq_decide.2;unfold aiV pZ imax at h3;split at h3<;>(split at h3<;>(split at h3<;>split at h3<;>omega))
abbrev s35:=bM [tU] [bk] (λ(x,())=>[(0:Int)<=x/\x<(18446744073709551616:Int)]) (λ(x,())=>(((pc 64 (Int.toNat x):Nat):Int),()))
def ade(x:Int):Int:=(Lib.ctz 64 x.toNat:Nat)
abbrev s34:=bM [tU] [bk] (λ(x,())=>[(0:Int)<=x/\x<(18446744073709551616:Int)]) (λ(x,())=>(ade x,()))
abbrev s13:=bM [bk] [dF] (λ_=>[]) (λ(n,())=>(dM n,()))
abbrev s21:=bM [dF,dF] [dF] (λ_=>[]) (λ(a,b,())=>(dY .andNot a b,()))
def atL:aF:=[(31,s13),(33,s21),(82,s34)]
def awB:List (Nat×Norm):=[(6,⟨[],[17,18],0,[]⟩)]
def c12(ws:List Int)(i:Int):bQ:=⟨sl 30 [(17,.af .u64 16 ws),(18,.s (.int .i64 i))],[],hd f50 6,{}⟩
def k9:List Int->Int->Option Int
 |[],_=>none|w::ws,i=>if w≠0 then some (i*64+ade w)else k9 ws (i+1)
def mo(ws:List Int)(n:Int):Option Int:=if imax n 0>=1024 then none else k9 (dY .andNot ws (dM (imax n 0))) 0
def bN(ws:List Int)(n:Int):Int:=(mo ws n).getD 0
def dZ(ws:List Int)(n:Int):Bool:=(mo ws n).isSome
abbrev s12:=bM [dF,bk] [bk,bL] (λ(ws,_,())=>[okW ws]) (λ(ws,n,())=>(bN ws n,dZ ws n,()))
def atM:aF:=[(50,s12)]
def awC:List (Nat×Norm):=[(3,⟨[(3,.af .i64 [],3)],[1,3,4,5],0,[]⟩)]
def c20(ws out:List Int)(n:Int)(is:Bool):bQ:=⟨sl 24 [(1,.ptr 0 0),(3,.vec 1),(4,.s (.int .i64 n)),(5,.s (.bool is))],[.ak [.af .u64 16 ws] 37,.vec (.af .i64 out) 3],hd f22 3,{}⟩
theorem atN(ws:List Int)(n:Int):run P atL.sum f50 awB (start f50 [.af .u64 16 ws,.s (.int .i64 n)] [])=
 Tree.ite (decide (imax n (0:Int)>=1024)) (.ret [.ak [.af .u64 16 ws] 37] (.bd [.s (.aO .i64 0),.s (.aN false)])) (.at (c12 (dY BinOp.andNot ws (dM (imax n 0))) 0)):=by kernel_rfl
theorem atO(ws:List Int)(i:Int):run P atL.sum f50 awB (c12 ws i)=
 Tree.ite (decide (i<16)) (.ab ((0:Int)<=i) (.ab (i<(↑(16:Nat):Int)) (.ite (ws.getD i.toNat (0:Int) !=0) (.ab (aw (i*64)) (.ab ((0:Int)<=ws.getD i.toNat (0:Int)/\ws.getD i.toNat (0:Int)<18446744073709551616) (.ab (aw (i*64+ade (ws.getD i.toNat 0))) (.ret [] (.bd [.s (.int .i64 (i*64+ade (ws.getD i.toNat 0))),.s (.aN true)]))))) (.ab (aw (i+1)) (.at (c12 ws (i+1))))))) (.ret [] (.bd [.s (.aO .i64 0),.s (.aN false)])):=by kernel_rfl
theorem atP(ws:List Int):run P atM.sum f22 awC (start f22 [.af .u64 16 ws] [])=
 Tree.ab (okW ws) (.at (c20 ws [] (bN ws 0) (dZ ws 0))):=by kernel_rfl
theorem atQ(ws out:List Int)(n:Int)(is:Bool):run P atM.sum f22 awC (c20 ws out n is)=
 Tree.ite is (.ab ((out.length+1)*(8:Nat)<=140737488355328) (.ab (aw (n+1)) (.ab (okW ws) (.at (c20 ws (out++[n]) (bN ws (n+1)) (dZ ws (n+1))))))) (.ret [.ak [.af .u64 16 ws] 37,.vec (.af .i64 out) 3] (.vec 1)):=by kernel_rfl
def fr(b:Nat->Bool)(m:Nat):List Nat:=(List.range m).filter b
def sZ(ws:List Int):List Nat:=fr (bit ws) 1024
def yg(l:List Nat):List Int:=l.map λ(k:Nat)=>(k:Int)
theorem u7(b:Nat->Bool)(m:Nat):fr b (m+1)=fr b m++(if b m=true then [m]else []):=by
 unfold fr;rw[List.range_succ,List.filter_append];cases h:b m<;>simp[h]
theorem s5{b:Nat->Bool}{m:Nat}:∀(p:Nat),m<=p->(∀k,m<=k->k<p->b k=false)->fr b p=fr b m
 |0,h,_=>by rw[show m=0 from by omega]
 |p+1,h,hb=>by
  by_cases hm:m=p+1;rw[hm];rw[u7,s5 p (by omega) (λk h1 h2=>hb k h1 (by omega)),hb p (by omega) (by omega)];simp
theorem s6(b:Nat->Bool)(m:Nat):(fr b m).length<=m:=by
 have:=List.length_filter_le b (List.range m);rwa[List.length_range]at this
theorem adf{x:Nat}(h0:x≠0)(h:x<18446744073709551616):Lib.ctz 64 x<64/\x.testBit (Lib.ctz 64 x)=true/\∀c,c<Lib.ctz 64 x->x.testBit c=false:=by
 unfold Lib.ctz;rw[if_neg h0];have⟨m,h1,h2⟩:=Lib.ctzFrom_spec 64 x (by omega) h;generalize Lib.ctzFrom 64 x=e at *;refine⟨h2, ?_,λc hc=> ?_⟩;rw[h1,Nat.testBit_two_pow_mul];simp;rw[h1,Nat.testBit_two_pow_mul];simp;omega
theorem m7 : ∀ (l : List Int) (i : Int), (∀ w ∈ l, 0 ≤ w ∧ w < 18446744073709551616) →
    match k9 l i with
    | some v => ∃ j c : Nat, j < l.length ∧ c < 64 ∧ v = (i + j) * 64 + c ∧ (l.getD j 0).toNat.testBit c = true ∧ (∀ c', c' < c → (l.getD j 0).toNat.testBit c' = false) ∧ ∀ j', j' < j → l.getD j' 0 = 0
    | none => ∀ j, l.getD j 0 = 0
  | [], i, _ => fun j => by simp
  | w :: l, i, h => by
    unfold k9;have hw := h w (by simp);by_cases h0 : w ≠ 0
    · rw [if_pos h0];obtain ⟨h1, h2, h3⟩ := adf (x := w.toNat) (by omega) (by omega);exact ⟨0, Lib.ctz 64 w.toNat, by simp, h1, by simp [ade], by simpa using h2, by simpa using h3, fun j' hj => by omega⟩
    · rw [if_neg h0];have ih := m7 l (i + 1) (fun x hx => h x (by simp [hx]));split
      · rename_i v hv;rw [hv] at ih;obtain ⟨j, c, h1, h2, h3, h4, h5, h6⟩ := ih;refine ⟨j + 1, c, by simp; omega, h2, by rw [h3]; simp; omega, by simpa using h4, by simpa using h5, fun j' hj => ?_⟩;cases j' with
        | zero => simp; omega
        | succ j' => simpa using h6 j' (by omega)
      · rename_i hv;rw [hv] at ih;intro j;cases j with
        | zero => simp; omega
        | succ j => simpa using ih j
theorem qs{ws:List Int}(hw:okW ws){n v:Int}(h:mo ws n=some v):∃p:Nat,v=(p:Int)/\p<1024/\bit ws p=true/\n<=(p:Int)/\∀k:Nat,k<p->n<=(k:Int)->bit ws k=false:=by
 unfold mo at h;split at h;cases h;rename_i h0;have⟨h1,h2⟩:=kx (.inr (.inr rfl)) hw (dz (imax n 0)).1;have hs:=m7 _ 0 h1.2;rw[h]at hs;have⟨j,c,g1,g2,g3,g4,g5,g6⟩:=hs;rw[h1.1]at g1
 have hm:∀k,k<1024->bit (dY .andNot ws (dM (imax n 0))) k=(bit ws k&& !decide ((k:Int)<imax n 0)):=λk hk=>by
  rw[h2 k hk,(dz (imax n 0)).2 k hk];rfl
 have hp:bit (dY .andNot ws (dM (imax n 0))) (64*j+c)=true:=by
  unfold bit wd;rw[show(64*j+c) / 64=j from by omega,show(64*j+c)%64=c from by omega];exact g4
 have alS:∀k,k<64*j+c->bit (dY .andNot ws (dM (imax n 0))) k=false:=λk hk=>by
  unfold bit wd;by_cases hkj:k / 64=j;rw[hkj];exact g5 _ (by omega);rw[g6 (k / 64) (by omega)];simp
 have awD:imax n 0=n/\0<=n\/imax n 0=0/\n<0:=by unfold imax;split<;>omega
 have hp2:=hp;rw[hm _ (by omega)]at hp2;simp only[and_eq_true,not_eq_true',decide_eq_false_iff_not]at hp2;refine⟨64*j+c,by rw[g3];simp;omega,by omega,hp2.1,by omega,λk hk hn=> ?_⟩;have:=alS k hk;rw[hm k (by omega)]at this;simp only[and_eq_false_iff,Bool.not_eq_false',decide_eq_true_eq]at this;rcases this with h|h;exact h;omega
theorem xj{ws:List Int}(hw:okW ws){n:Int}(h:mo ws n=none):∀k:Nat,k<1024->n<=(k:Int)->bit ws k=false:=by
 intro k hk hn;unfold mo at h;have awD:imax n 0=n/\0<=n\/imax n 0=0/\n<0:=by unfold imax;split<;>omega
 split at h;omega;rename_i h0;have⟨h1,h2⟩:=kx (.inr (.inr rfl)) hw (dz (imax n 0)).1;have hs:=m7 _ 0 h1.2;rw[h]at hs
 have hb:bit (dY .andNot ws (dM (imax n 0))) k=false:=by
  unfold bit wd;rw[hs];simp
 rw[h2 k hk,(dz (imax n 0)).2 k hk,decide_eq_false (by omega)]at hb;simpa[opb]using hb
theorem ag0{Z:aZ}(h34:rq P Z 82 s34):cg P Z 50 [dF,bk] [bk,bL] (λ(ws,_,())=>[okW ws]) (λ(ws,n,())=>(bN ws n,dZ ws n,())):=by
 refine ay func50 (by kernel_rfl) (by kernel_rfl) ?_;rintro⟨(ws:List Int),(n:Int),⟨⟩⟩ _ ⟨(hw:okW ws),_⟩ X hX hz;have hT:atL.Ok P Z:=aF.Ok.cons ac9.sum (aF.Ok.cons agY.sum (aF.Ok.cons h34 aF.Ok.nil));refine go hz hX hT func50 (atN ws n) ⟨λh=> ?_,λh=> ?_⟩;have h:imax n 0>=1024:=of_decide_eq_true h;refine aM (0,false,()) ?_ (by kernel_rfl);simp only[bN,dZ,mo,if_pos h];rfl;have h:¬imax n 0>=1024:=of_decide_eq_false h;have e:mo ws n=k9 (dY .andNot ws (dM (imax n 0))) 0:=by unfold mo;rw[if_neg h]
 have hr:=(kx (.inr (.inr rfl)) hw (dz (imax n 0)).1).1;simp only[bN,dZ,e];generalize dY BinOp.andNot ws (dM (imax n 0))=rest at *;refine ef (λ(i:Int)=>c12 rest i) (λi=>0<=i/\i<=16/\k9 rest 0=k9 (rest.drop i.toNat) i) (λi=>(16 - i).toNat) ?_ 0 ⟨by omega,by omega,rfl⟩;rintro i ⟨(h0:0<=i),(h1:i<=16),h2⟩ ih;have hl:=hr.1;refine go hz hX hT func50 (atO rest i) ⟨λh=> ?_,λh=> ?_⟩;have hi:i<(16:Int):=of_decide_eq_true h
 have hd:rest.drop i.toNat=rest.getD i.toNat 0::rest.drop (i.toNat+1):=by
  rw[List.drop_eq_getElem_cons (by omega),List.getD,getElem?_eq_getElem (by omega)];rfl
 have hm:=hr.2 (rest.getD i.toNat 0) (by rw[List.getD,getElem?_eq_getElem (by omega)];exact getElem_mem (by omega));rw[hd,k9]at h2;refine⟨h0,hi,λh3=> ?_,λh3=>⟨⟨by omega,by omega⟩,ih (i+1) ⟨by omega,by omega, ?_⟩ (by omega)⟩⟩;have h3:rest.getD i.toNat 0≠0:=by simpa using h3
 rw[if_pos h3]at h2;have hc:=(adf (x:=(rest.getD i.toNat 0).toNat) (by omega) (by omega)).1;refine⟨⟨by omega,by omega⟩,hm,⟨by unfold ade;omega,by unfold ade;omega⟩, ?_⟩;rw[h2];exact aM _ rfl (by kernel_rfl);have h3:¬rest.getD i.toNat 0≠0:=by simpa using h3
 rw[if_neg h3]at h2;rw[h2,show(i+1).toNat=i.toNat+1 from by omega];have hi:¬i<(16:Int):=of_decide_eq_false h;rw[List.drop_eq_nil_of_le (by omega)]at h2;rw[h2];exact aM (0,false,()) rfl (by kernel_rfl)
theorem atS{Z:aZ}(h34:rq P Z 82 s34):cg P Z 22 [dF] [iw] (λ(ws,())=>[okW ws]) (λ(ws,())=>(yg (sZ ws),())):=by
 refine ay func22 (by kernel_rfl) (by kernel_rfl) ?_;rintro⟨(ws:List Int),⟨⟩⟩ _ ⟨(hw:okW ws),_⟩ X hX hz;have hT:atM.Ok P Z:=aF.Ok.cons (ag0 h34).sum aF.Ok.nil;refine go hz hX hT func22 (atP ws) ⟨hw, ?_⟩;refine ef (λ(m:Nat)=>c20 ws (yg (fr (bit ws) m)) (bN ws m) (dZ ws m)) (λm=>m<=1024) (λm=>1024 - m) ?_ 0 (by omega);rintro m (h1:m<=1024) ih
 have bx:(yg (fr (bit ws) m)).length<=1024:=by
  have:=s6 (bit ws) m;simp only[yg,length_map];omega
 refine go hz hX hT func22 (atQ ws _ _ _) ⟨λh=> ?_,λh=> ?_⟩;have⟨v,hv⟩:=isSome_iff_exists.1 h;obtain⟨p,rfl,g1,g2,g3,g4⟩:=qs hw hv;have hn:bN ws m=(p:Int):=by unfold bN;rw[hv];rfl
 rw[hn];refine⟨by omega,⟨by omega,by omega⟩,hw, ?_⟩;have:=ih (p+1) (by omega) (by omega);rw[u7,if_pos g2,s5 (m:=m) p (by omega) (λk h1 h2=>g4 k h2 (by omega))]at this;rw[show yg (fr (bit ws) m++[p])=yg (fr (bit ws) m)++[(p:Int)]from by simp[yg]]at this;rw[Int.natCast_add]at this;exact this
 have hv:mo ws m=none:=by
  unfold dZ at h;cases hh:mo ws m with
  |none=>rfl|some v=>rw[hh]at h;cases h
 have e:sZ ws=fr (bit ws) m:=s5 1024 h1 (λk h1 h2=>xj hw hv k h2 (by omega));rw[<-e];exact aM (yg (sZ ws),()) rfl (by kernel_rfl)
end Bx
namespace Ts
open Go Go.Sx Go.Proofs Lf
abbrev Th:=Ds.Th
abbrev As:=Ds.As
abbrev Ws:=List Int
def fE(th:Th)(m:As)(n ad:Int):Int:=if ad>16 then 4 else if Ds.nr th m n=0 then pv (Ds.kX th m n)else Ds.nr th m n
def qt(th:Th)(m:As)(n ad:Int):Bool:=decide (ad<=16)&&decide (Ds.nr th m n=0)
def jF(th:Th)(m:As)(n ad:Int):Bool:=qt th m n ad&&gT (Ds.kX th m n)
def bY(th:Th)(m:As)(n ad:Int):List En:=if qt th m n ad=true then lJ (Ds.kX th m n)else []
def bc(th:Th)(m:As)(n ad:Int):List Br:=if qt th m n ad=true then kJ (Ds.kX th m n)else []
def gj(l:Bool)(es:List En)(bs:List Br):ByteArray:=if l=true then(es.getD 0 dE).1 else(bs.getD 0 dB).1
def ae:List Br->List Br
 |[]=>[]|b::r=>(empty,b.2.1,())::r
abbrev Wr:Type:=As×Int×Ws×Ws×Br×Int
def b8(th:Th)(m:As)(fu:Int)(fr fs:Ws)(l:Bool)(es:List En)(bs:List Br):Wr:=
 if Bx.dZ fr 0=false then(m,fu,fr,fs,dB,41)
 else if dq l es (ae bs)≠0 then(m,fu,fr,fs,dB,dq l es (ae bs))
 else if(Ds.me th m fu (Bx.bN fr 0) (bO l es (ae bs))).2.2≠0 then
  ((Ds.me th m fu (Bx.bN fr 0) (bO l es (ae bs))).1,(Ds.me th m fu (Bx.bN fr 0) (bO l es (ae bs))).2.1,fr,fs,dB,(Ds.me th m fu (Bx.bN fr 0) (bO l es (ae bs))).2.2)
 else((Ds.me th m fu (Bx.bN fr 0) (bO l es (ae bs))).1,(Ds.me th m fu (Bx.bN fr 0) (bO l es (ae bs))).2.1,Bx.dG fr (Bx.bN fr 0),Bx.cU fs (Bx.bN fr 0),(gj l es bs,Bx.bN fr 0,()),0)
abbrev Wrs:Type:=As×Int×Ws×Ws×List Br×Int
def two(a:Wr)(b:Wr):Wrs:=(b.1,b.2.1,b.2.2.1,b.2.2.2.1,[a.2.2.2.2.1,b.2.2.2.2.1],b.2.2.2.2.2)
def bG(th:Th)(m:As)(fu:Int)(fr fs:Ws)(l:Bool)(es:List En)(bs:List Br):Wrs:=
 if es.length+bs.length=0 then(m,fu,fr,fs,[],0)
 else if bw es (ae bs)<=254 then
  let a:=b8 th m fu fr fs l es (ae bs)
  (a.1,a.2.1,a.2.2.1,a.2.2.2.1,[a.2.2.2.2.1],a.2.2.2.2.2)
 else if u4 l es (ae bs)≠0 then(m,fu,fr,fs,[],u4 l es (ae bs))
 else
  let a:=b8 th m fu fr fs (ct l es (ae bs)) (bz l es (ae bs)) (bA l es (ae bs))
  if a.2.2.2.2.2≠0 then(a.1,a.2.1,a.2.2.1,a.2.2.2.1,[],a.2.2.2.2.2)
  else two a (b8 th a.1 a.2.1 a.2.2.1 a.2.2.2.1 (ct l es (ae bs)) (eH l es (ae bs)) (eI l es (ae bs)))
def m8(key:ByteArray)(op:Option ByteArray)(l:List En):List En:=match op with
 |some val=>eO l key val|none=>if gI l key=true then dg l key else []
def s7(key:ByteArray)(op:Option ByteArray)(l:List En):Int:=match op with
 |some _=>0|none=>if gI l key=true then 0 else 5
def j5(fs:Ws)(n:Int):Ws:=if Bx.lL fs n=true then Bx.dG fs n else fs
def r5(fs gn:Ws)(n:Int):Ws:=if Bx.lL fs n=true then Bx.cU gn n else gn
abbrev Chg:Type:=As×Int×Ws×Ws×Ws×List Br×Int
def iy(gn:Ws)(w:Wrs):Chg:=(w.1,w.2.1,w.2.2.1,w.2.2.2.1,gn,w.2.2.2.2.1,w.2.2.2.2.2)
def mq(k:ByteArray):List Br->List Br
 |[]=>[]|b::r=>(k,b.2.1,())::r
def vd(th:Th)(key:ByteArray)(op:Option ByteArray):Nat->As->Int->Ws->Ws->Ws->Int->Int->Chg
 |0,m,fu,fr,fs,gn,_,_=>(m,fu,fr,fs,gn,[],4)|f+1,m,fu,fr,fs,gn,n,ad=>
  if fE th m n ad≠0 then(m,fu,fr,fs,gn,[],fE th m n ad)
  else if jF th m n ad=true then
   if s7 key op (bY th m n ad)≠0 then(m,fu,fr,fs,gn,[],s7 key op (bY th m n ad))
   else iy (r5 fs gn n) (bG th m fu fr (j5 fs n) true (m8 key op (bY th m n ad)) (bc th m n ad))
  else if bc th m n ad=[]then(m,fu,fr,fs,gn,[],4)
  else
   let k:=(aI (bc th m n ad) key).toNat;let r:=vd th key op f m fu fr fs gn ((bc th m n ad).getD k dB).2.1 (ad+1)
   if r.2.2.2.2.2.2≠0 then(r.1,r.2.1,r.2.2.1,r.2.2.2.1,r.2.2.2.2.1,[],r.2.2.2.2.2.2)
   else iy (r5 r.2.2.2.1 r.2.2.2.2.1 n) (bG th r.1 r.2.1 r.2.2.1 (j5 r.2.2.2.1 n) false (bY th m n ad)
    ((bc th m n ad).take k++mq ((bc th m n ad).getD k dB).1 r.2.2.2.2.2.1++(bc th m n ad).drop (k+1)))
end Ts
namespace Bx
open Go Go.Sx Go.Proofs Go.RowKit
set_option maxHeartbeats 1000000 in
theorem apl(x k idx:Nat)(w:World)(hx0:((x:Int)==0)=false)
 (key:u64.wrap (bits BinOp.and u64 (x:Int) (u64.wrap (-(x:Int)))*285870213051353865) / 288230376151711744=(idx:Int))
 (hi:idx<64) (hk:k<64) (qU:w.cell? ⟨0,idx,none⟩=some (.int .u8 k)):
 Calls Tryz.prog 82 #[.int .u64 x] w λe w'=>e=.returned (.int .i64 k)/\w'=w:=by
 go_enter func82,Tryz.ntmps82
 go_wp2_with (simp only[key])
 go_ret
 exact⟨rfl,rfl⟩
set_option maxHeartbeats 1000000 in
theorem apm(w:World):
 Calls Tryz.prog 82 #[.int .u64 0] w λe w'=>e=.returned (.int .i64 64)/\w'=w:=by
 go_enter func82,Tryz.ntmps82
 go_wp2
 go_ret
 exact⟨rfl,rfl⟩
theorem atT(w:World)(h:TabAt 0 Lib.deBruijn64tab w):0<w.heap.size:=by
 have h0:=h 0 (by decide);rcases lt_or_ge 0 w.heap.size with h1|h1;exact h1;simp[World.cell?,Array.getElem?_eq_none h1]at h0
def cw:aZ:=⟨[0],TabAt 0 Lib.deBruijn64tab,λw h b hb=>by rw[mem_singleton.1 hb];exact atT w h,λw w' h k j hj=>by rw[mC (k 0 (by simp))];exact h j hj⟩
theorem atU(x:Nat)(hx:x<18446744073709551616)(w:World)(hT:TabAt 0 Lib.deBruijn64tab w):
 Calls Tryz.prog 82 #[.int .u64 x] w λe w'=>e=.returned (.int .i64 (Lib.ctz 64 x))/\w'=w:=by
 by_cases hx0:x=0;subst hx0;exact apm w;have⟨alS,hk⟩:=Lib.lowest_bit 64 x hx0 hx;have⟨hi,ayI⟩:=Lib.deBruijn64_at _ hk;have qU:=hT _ hi;rw[ayI]at qU;exact apl x _ _ w (by simp;omega) (tz64_key x _ hx hx0 alS) hi hk qU
theorem arj:cg P cw 82 [tU] [bk] (λ(x,())=>[(0:Int)<=x/\x<(18446744073709551616:Int)]) (λ(x,())=>(ade x,())):=by
 rintro⟨(x:Int),⟨⟩⟩ _ ⟨(hx:0<=x/\x<18446744073709551616),_⟩ G w vs hG hz hd;obtain⟨n,rfl⟩:=Int.eq_ofNat_of_zero_le hx.1;obtain⟨v,rest,rfl,h1,h2⟩:=aJ.1 hd;obtain rfl:=bp.1 h2
 have h3:v=.int .u64 n:=by
  have:=aC (x:=.int .u64 n) (by simp) h1;cases this;rfl
 subst h3;refine(atU n (by omega) w hz).mono ?_;rintro e w' ⟨rfl,rfl⟩;refine⟨_,rfl,Good.val ⟨λid o ho=>by simp at ho,λi j oi oj b hi=>by simp at hi,λb hb=> ?_,hG⟩ ?_⟩;have⟨id,o,ho,_⟩:=hb;cases ho;exact aK (.int .i64 _)
end Bx
namespace Lf
open Go Go.Sx Go.Proofs
abbrev ia:Ty:=.st [.bool,.jM (.ah cE) eE,.jM (.ah cB) eB]
abbrev ark(l:Bool)(r:Int×List En×List Br):AL [ia,bk]:=((decide (r.1=0)&&l,r.2.1,r.2.2,()),r.1,())
abbrev uh(s:ByteArray):AL [ia,bk]:=((gT s,lJ s,kJ s,()),pv s,())
theorem apn{Z:aZ}:cg P Z 76 [cv] [ia,bk] (λ_=>[]) (λ(s,())=>((gT s,lJ s,kJ s,()),pv s,())):=by
 refine ay func76 (by kernel_rfl) (by kernel_rfl) ?_;rintro⟨(s0:ByteArray),⟨⟩⟩ _ _ X hX hz;show Safe P 76 X (Ends [ia,bk] (uh s0)) _;have loop:∀(l:Bool) (n:Nat) (s:ByteArray) (es:List En) (bs:List Br),s.size<=n->es.length+bs.length+s.size<=254->ark l (gi l n s es bs)=uh s0->
  Safe P 76 X (Ends [ia,bk] (uh s0)) (aoE s l es bs):=by
  intro l n
  induction n with
  |zero=>
   intro s es bs hn hb hy;obtain rfl:=fx (Nat.le_zero.1 hn);refine go hz hX jY func76 (agL empty l es bs) ⟨λh=>absurd h (by simp),λ_=>⟨λh=> ?_,λh=> ?_⟩⟩;refine aM ((false,[],[],()),4,()) ?_ (by kernel_rfl);rw[<-hy,gi,if_neg (by simpa using h)];rfl;refine aM ((l,es,bs,()),0,()) ?_ (by kernel_rfl);rw[<-hy,gi,if_pos (by simpa using h)];rfl
  |succ n ih=>
   intro s es bs hn hb hy;refine go hz hX jY func76 (agL s l es bs) ⟨λh=> ?_,λh=> ?_⟩;have h:s≠empty:=by simpa using h
   have bad:gi l (n+1) s es bs=(8,[],[])->∀(s':ByteArray) (l3:List En) (pO:List Br),Safe P 76 X (Ends [ia,bk] (uh s0)) (pN s' l l3 pO false):=λe s' l3 pO=>by
    refine go hz hX jY func76 (acS s' l l3 pO false) ⟨λ_=> ?_,λh=>by cases h⟩;refine aM ((false,[],[],()),8,()) ?_ (by kernel_rfl);rw[<-hy,e];rfl
   have cont:∀(s':ByteArray) (l3:List En) (pO:List Br),s'.size<=n->l3.length+pO.length+s'.size<=254->ark l (gi l n s' l3 pO)=uh s0->Safe P 76 X (Ends [ia,bk] (uh s0)) (pN s' l l3 pO true):=λs' l3 pO h1 h2 h3=>by
    refine go hz hX jY func76 (acS s' l l3 pO true) ⟨λh=>(by cases h),λ_=>ih s' l3 pO h1 h2 h3⟩
   have hr:=λhB=>oB (s:=s) hB;refine⟨rfl,rfl,λhl=>⟨λhB=>⟨rfl,rfl,by omega, ?_⟩,λhB=> ?_⟩,λhl=>⟨λhB=>⟨rfl,rfl,by decide,λh2=> ?_,λh2=> ?_⟩,λhB=> ?_⟩⟩;subst hl;have hr:=hr hB;cases h2:tY (im s);exact bad (by rw[gi,if_neg h,if_neg (by simp[hB]),if_pos rfl,if_neg (by simp[h2])]) _ _ _;have:=oB h2;exact cont _ _ _ (by omega) (by simp only[length_append,length_cons,length_nil];omega) (by rw[<-hy,gi,if_neg h,if_neg (by simp[hB]),if_pos rfl,if_pos h2]);exact⟨λh=>(by rw[hB]at h;cases h),λ_=>by rw[hB];exact bad (by rw[gi,if_neg h,if_pos hB]) _ _ _⟩;subst hl;have hr:=hr hB;have e1:=w7 (by decide) h2;have e2:=acT (by decide) h2;have b0:=fZ (kF 2 (im s)) 0;have b1:=fZ (kF 2 (im s)) 1;refine⟨by decide,by omega,⟨by show _<=ax _ 0;omega,by show ax _ 0<=_;omega⟩,by decide,by decide,by omega,⟨by show _<=ax _ 1;omega,by show ax _ 1<=_;omega⟩,by omega, ?_⟩;rw[h2];exact cont _ _ _ (by omega) (by simp only[length_append,length_cons,length_nil];omega) (by rw[<-hy,gi,if_neg h,if_neg (by simp[hB]),if_neg (by simp),if_pos h2];rfl);subst hl;rw[h2];exact bad (by rw[gi,if_neg h,if_neg (by simp[hB]),if_neg (by simp),if_neg (by simp[h2])]) _ _ _;rw[hB];exact bad (by rw[gi,if_neg h,if_pos hB]) _ _ _;have h:s=empty:=by simpa using h
   refine⟨λh2=> ?_,λh2=> ?_⟩;refine aM ((false,[],[],()),4,()) ?_ (by kernel_rfl);rw[<-hy,gi,if_pos h,if_neg (by simpa using h2)];rfl;refine aM ((l,es,bs,()),0,()) ?_ (by kernel_rfl);rw[<-hy,gi,if_pos h,if_pos (by simpa using h2)];rfl
 have first:(s0.size:Int)<=254->s0≠empty->¬(ax s0 0≠1/\ax s0 0≠2)->Safe P 76 X (Ends [ia,bk] (uh s0)) (agK s0):=λh1 h2 h3=>by
  have hp:0<s0.size:=Nat.pos_of_ne_zero λe=>h2 (fx e);refine go hz hX jY func76 (ak5 s0) ⟨by omega,by omega,by omega,by omega,by omega, ?_⟩;have e:jP s0=gi (ax s0 0==1) s0.size (s0.extract 1 s0.size) [] []:=by rw[jP,if_neg (by omega),if_neg h2,if_neg h3]
  refine loop (ax s0 0==1) s0.size (s0.extract 1 s0.size) [] [] (by rw[dN];omega) (by rw[dN];simp only[length_nil];omega) ?_;rw[<-e];rfl
 have err:∀(c:Int) (hc:decide (c=0)=false),jP s0=(c,[],[])->uh s0=((false,[],[],()),c,()):=λc hc e=>by
  show((decide ((jP s0).1=0)&&(ax s0 0==1),(jP s0).2.1,(jP s0).2.2,()),(jP s0).1,())=_;rw[e,hc];rfl
 refine go hz hX jY func76 (aoF s0) ⟨λh=>aM ((false,[],[],()),40,()) (err 40 rfl ?_) (by kernel_rfl),λh=>⟨λh2=>aM ((false,[],[],()),8,()) (err 8 rfl ?_) (by kernel_rfl),λh2=> ?_⟩⟩;rw[jP,if_pos (of_decide_eq_true h)];rw[jP,if_neg (of_decide_eq_false h),if_pos (of_decide_eq_true h2)];have h:=of_decide_eq_false h;have h2:=of_decide_eq_false h2;have hp:0<s0.size:=Nat.pos_of_ne_zero λe=>h2 (fx e);refine⟨by omega,by omega,λh3=>⟨by omega,by omega,λh4=>aM ((false,[],[],()),4,()) (err 4 rfl ?_) (by kernel_rfl),λh4=>first (by omega) h2 ?_⟩,λh3=>first (by omega) h2 ?_⟩;have h3:ax s0 0≠1:=by simpa using h3
 have h4:ax s0 0≠2:=by simpa using h4
 rw[jP,if_neg h,if_neg h2,if_pos ⟨h3,h4⟩];have h4:ax s0 0=2:=by simpa using h4
 exact λe=>e.2 h4;have h3:ax s0 0=1:=by simpa using h3
 exact λe=>e.1 h3
end Lf
namespace Go.Sx
open Go
inductive Wk1:AV->AV->Prop
 |refl (a:AV):Wk1 a a|bl (b:Bool):Wk1 (.s (.aN b)) (.s (.bool b))|il (k:IntKind) (n:Int):Wk1 (.s (.aO k n)) (.s (.int k n))|em (c:ba):c.n=0->Wk1 .emp (.s (.ro c))
inductive WkL:List AV->List AV->Prop
 |nil:WkL [] []|cons {a b:AV} {l m:List AV}:Wk1 a b->WkL l m->WkL (a::l) (b::m)
inductive Wk2:AV->AV->Prop
 |one {a b:AV}:Wk1 a b->Wk2 a b|agg {l m:List AV}:WkL l m->Wk2 (.agg l) (.agg m)
inductive jQ:List AV->List AV->Prop
 |nil:jQ [] []|cons {a b:AV} {l m:List AV}:Wk2 a b->jQ l m->jQ (a::l) (b::m)
inductive Wk:AV->AV->Prop
 |two {a b:AV}:Wk2 a b->Wk a b|bd {l m:List AV}:jQ l m->Wk (.bd l) (.bd m)
section
variable{ρ:Nat->Value}{H:a8}{O:Nat->Prop}{w:World}
theorem Wk1.den{a b:AV}(h:Wk1 a b){v:Value}(hd:ag ρ H O w a v):ag ρ H O w b v:=by
 cases h with
 |refl=>exact hd|bl b=>
  have:=aC (by simp) hd;cases this;exact aK (.bool _)
 |il k n=>
  have:=aC (by simp) hd;cases this;exact aK (.int _ _)
 |em c hc=>
  unfold ag at hd;obtain⟨a,rfl⟩:=hd;exact aK (rk hc a)
theorem Wk1.ae2{a b:AV}(h:Wk1 a b){cs:List Value}(hd:aX ρ H O w a cs):aX ρ H O w b cs:=by
 cases h with
 |refl=>exact hd|bl b=>
  unfold aX at hd ⊢;obtain⟨u,rfl,h⟩:=hd;cases h;exact⟨_,rfl,.bool _⟩
 |il k n=>
  unfold aX at hd ⊢;obtain⟨u,rfl,h⟩:=hd;cases h;exact⟨_,rfl,.int _ _⟩
 |em c hc=>
  unfold aX at hd ⊢;obtain⟨u,rfl,a,rfl⟩:=hd;exact⟨_,rfl,rk hc a⟩
theorem WkL.den{l m:List AV}(h:WkL l m):∀{cs:List Value},aE ρ H O w l cs->aE ρ H O w m cs:=by
 induction h with
 |nil=>exact λhd=>hd|cons h1 _ ih=>
  intro cs hd;unfold aE at hd ⊢;have⟨c1,c2,e,g1,g2⟩:=hd;exact⟨c1,c2,e,h1.ae2 g1,ih g2⟩
theorem Wk2.den{a b:AV}(h:Wk2 a b){v:Value}(hd:ag ρ H O w a v):ag ρ H O w b v:=by
 cases h with
 |one h=>exact h.den hd|agg h=>
  unfold ag at hd ⊢;have⟨cs,e,g⟩:=hd;exact⟨cs,e,h.den g⟩
theorem jQ.den{l m:List AV}(h:jQ l m):∀{vs:List Value},bI ρ H O w l vs->bI ρ H O w m vs:=by
 induction h with
 |nil=>exact λhd=>hd|cons h1 _ ih=>
  intro vs hd;have⟨v,rest,e,g1,g2⟩:=aJ.1 hd;exact aJ.2 ⟨v,rest,e,h1.den g1,ih g2⟩
theorem Wk.den{a b:AV}(h:Wk a b){v:Value}(hd:ag ρ H O w a v):ag ρ H O w b v:=by
 cases h with
 |two h=>exact h.den hd|bd h=>
  unfold ag at hd ⊢;have⟨us,e,g⟩:=hd;exact⟨us,e,h.den g⟩
end
theorem aa9{X:Type}{S:Spec X}{x:X}{L:List au}{r:AV}{o o':AV}{h:List au}(m:Nat)(e:Norm.run ⟨[],[0],m,[]⟩ ⟨[r],L,[],{}⟩=some ⟨[o],h,[],{}⟩)(hm:(S.heap x).length<=m)(hw:Wk o o')(ho:S.out x=o')(hh:S.eG x=h):akF S x L r:=
 ⟨⟨[],[0],m,[]⟩,o,hm,by rw[hh];exact e,λρ H O w v hd=>by rw[ho];exact hw.den hd⟩
end Go.Sx
namespace Ts
open Go Go.Sx Go.Proofs Lf
abbrev P:Program:=Tryz.prog
abbrev eT:TypeId:=83
abbrev qu(i:Nat)(aa:Int)(fr fs gn:Ws):au:=.ak [.ptr i 0,.s (.int .i64 aa),.af .u64 16 fr,.af .u64 16 fs,.af .u64 16 gn] eT
abbrev hT(th:Th)(m:As)(fu aa:Int)(fr fs gn:Ws):List au:=[qu 1 aa fr fs gn,Ds.wJ 2 3 fu,.vec (.ah Ds.cS th) Ds.eS,.map Ds.kS m]
abbrev az(n:Int):AV:=.s (.int .i64 n)
abbrev awE:=cu Ds.sGR Ds.mRd
abbrev awF:=cu Ds.sGW Ds.mWr
abbrev atV:=gH [cv] [ia,bk] (λ_=>[]) (λ(s,())=>((gT s,lJ s,kJ s,()),pv s,()))
def arl:aF:=[(75,awE),(76,atV)]
abbrev XT:Type:=Th×As×Int×Int×Ws×Ws×Ws
abbrev sNo:Spec (XT×Int×Int):=⟨λ(_,n,ad)=>[.ptr 0 0,az n,az ad],λ((th,m,fu,aa,fr,fs,gn),_,_)=>hT th m fu aa fr fs gn,λ((th,m,fu,_),n,_)=>[Ds.cf th m fu,aw n],λ((th,m,fu,aa,fr,fs,gn),_,_)=>hT th m fu aa fr fs gn,
 λ((th,m,_),n,ad)=>.bd [.agg [.s (.bool (jF th m n ad)),.s (.ro (.ah cE (bY th m n ad))),.s (.ro (.ah cB (bc th m n ad)))],az (fE th m n ad)]⟩
theorem ayJ(th:Th)(m:As)(fu aa:Int)(fr fs gn:Ws)(n ad:Int):run P arl.sum f44 [] (start f44 [.ptr 0 0,az n,az ad] (hT th m fu aa fr fs gn))=
 Tree.ite (decide (ad>16)) (.ret (hT th m fu aa fr fs gn++[.ak [.s (.aN false),.emp,.emp] 99]) (.bd [.agg [.s (.aN false),.emp,.emp],.s (.aO .i64 4)])) (.ab (bD (some [AV.ptr 0 0,az n])) (.ab (bD (some (Ds.hD th m fu))) (.ab (Ds.cf th m fu) (.ab (aw n) (.ite (Ds.nr th m n !=0) (.ret (hT th m fu aa fr fs gn++[.ak [.s (.aN false),.emp,.emp] 99]) (.bd [.agg [.s (.aN false),.emp,.emp],az (Ds.nr th m n)])) (.ret (hT th m fu aa fr fs gn++[.ak [.s (.bool (gT (Ds.kX th m n))),.s (.ro (.ah cE (lJ (Ds.kX th m n)))),.s (.ro (.ah cB (kJ (Ds.kX th m n))))] 99]) (.bd [.agg [.s (.bool (gT (Ds.kX th m n))),.s (.ro (.ah cE (lJ (Ds.kX th m n)))),.s (.ro (.ah cB (kJ (Ds.kX th m n))))],az (pv (Ds.kX th m n))]))))))):=by kernel_rfl
theorem alZ{Z:aZ}:arl.Ok P Z:=aF.Ok.cons (Ds.av8.sum Ds.mRd) (aF.Ok.cons apn.gH aF.Ok.nil)
theorem s8{l l':AV}{es bs l3 pO:AV}{e e':AV}(h1:Wk1 l l')(h2:Wk1 es l3)(h3:Wk1 bs pO)(h4:Wk1 e e'):Wk (.bd [.agg [l,es,bs],e]) (.bd [.agg [l',l3,pO],e']):=
 .bd (.cons (.agg (.cons h1 (.cons h2 (.cons h3 .nil)))) (.cons (.one h4) .nil))
theorem pe{Z:aZ}:fD P Z 44 sNo:=by
 refine jN func44 (by kernel_rfl) (λx=>le_of_ble_eq_true (by kernel_rfl)) ?_;rintro⟨⟨th,m,fu,aa,fr,fs,gn⟩,n,ad⟩ ⟨(hd:Ds.cf th m fu),(hn:aw n),_⟩ X hX hz;refine Ds.cA hz hX (by intro y hy;cases hy) alZ func44 (ayJ th m fu aa fr fs gn n ad) ⟨λh=> ?_,λh=>⟨rfl,rfl,hd,hn,λh2=> ?_,λh2=> ?_⟩⟩;have h:=of_decide_eq_true h;have e0:qt th m n ad=false:=by unfold qt;rw[decide_eq_false (by omega),Bool.false_and]
 refine aa9 4 (by kernel_rfl) (le_refl _) (s8 (.refl (.s (.bool false))) (.em (.ah cE []) rfl) (.em (.ah cB []) rfl) (.refl (.s (.int .i64 4)))) ?_ rfl;show AV.bd [.agg [.s (.bool (jF th m n ad)),.s (.ro (.ah cE (bY th m n ad))),.s (.ro (.ah cB (bc th m n ad)))],az (fE th m n ad)]=_;unfold jF bY bc fE;rw[e0,if_pos h];rfl;have h:=of_decide_eq_false h;have h2:Ds.nr th m n≠0:=by simpa using h2
 have e0:qt th m n ad=false:=by unfold qt;rw[decide_eq_false h2,Bool.and_false]
 refine aa9 4 (by kernel_rfl) (le_refl _) (s8 (.refl (.s (.bool false))) (.em (.ah cE []) rfl) (.em (.ah cB []) rfl) (.refl (az (Ds.nr th m n)))) ?_ rfl;show AV.bd [.agg [.s (.bool (jF th m n ad)),.s (.ro (.ah cE (bY th m n ad))),.s (.ro (.ah cB (bc th m n ad)))],az (fE th m n ad)]=_;unfold jF bY bc fE;rw[e0,if_neg h,if_neg h2];rfl;have h:=of_decide_eq_false h;have h2:Ds.nr th m n=0:=by simpa using h2
 have e0:qt th m n ad=true:=by unfold qt;rw[decide_eq_true h2,decide_eq_true (by omega)];rfl
 refine aa9 4 (by kernel_rfl) (le_refl _) (s8 (.refl (.s (.bool (gT (Ds.kX th m n))))) (.refl (.s (.ro (.ah cE (lJ (Ds.kX th m n)))))) (.refl (.s (.ro (.ah cB (kJ (Ds.kX th m n)))))) (.refl (az (pv (Ds.kX th m n))))) ?_ rfl;show AV.bd [.agg [.s (.bool (jF th m n ad)),.s (.ro (.ah cE (bY th m n ad))),.s (.ro (.ah cB (bc th m n ad)))],az (fE th m n ad)]=_;unfold jF bY bc fE;rw[e0,if_neg h,if_pos h2];rfl
abbrev atW:=bM [Bx.dF,Bx.bk] [Bx.bL] (λ_=>[]) (λ(ws,n,())=>(Bx.lL ws n,()))
abbrev adg:=bM [Bx.dF,Bx.bk] [Bx.dF] (λ_=>[]) (λ(ws,n,())=>(Bx.cU ws n,()))
abbrev arn:=bM [Bx.dF,Bx.bk] [Bx.dF] (λ_=>[]) (λ(ws,n,())=>(Bx.dG ws n,()))
def aro:aF:=[(84,atW),(34,adg),(118,arn)]
abbrev sLv:Spec (XT×Int):=⟨λ(_,n)=>[.ptr 0 0,az n],λ((th,m,fu,aa,fr,fs,gn),_)=>hT th m fu aa fr fs gn,λ_=>[],λ((th,m,fu,aa,fr,fs,gn),n)=>hT th m fu aa fr (j5 fs n) (r5 fs gn n),λ_=>.bd []⟩
theorem ayK(th:Th)(m:As)(fu aa:Int)(fr fs gn:Ws)(n:Int):run P aro.sum f90 [] (start f90 [.ptr 0 0,az n] (hT th m fu aa fr fs gn))=
 Tree.ite (Bx.lL fs n) (.ret (hT th m fu aa fr (Bx.dG fs n) (Bx.cU gn n)) (.bd [])) (.ret (hT th m fu aa fr fs gn) (.bd [])):=by kernel_rfl
theorem al0{Z:aZ}:aro.Ok P Z:=aF.Ok.cons Bx.afx.sum (aF.Ok.cons Bx.pb.sum (aF.Ok.cons Bx.xd.sum aF.Ok.nil))
theorem xk{Z:aZ}:fD P Z 90 sLv:=by
 refine fS func90 ?_;rintro⟨⟨th,m,fu,aa,fr,fs,gn⟩,n⟩ _ X hX hz;refine Ds.cA hz hX (by intro y hy;cases hy) al0 func90 (ayK th m fu aa fr fs gn n) ⟨λh=> ?_,λh=> ?_⟩;have e1:j5 fs n=Bx.dG fs n:=if_pos h;have e2:r5 fs gn n=Bx.cU gn n:=if_pos h;exact bK (h:=hT th m fu aa fr (Bx.dG fs n) (Bx.cU gn n)) 4 rfl (le_refl _) rfl (by show hT th m fu aa fr (j5 fs n) (r5 fs gn n)=_;rw[e1,e2]);have e1:j5 fs n=fs:=if_neg (by rw[h];simp);have e2:r5 fs gn n=gn:=if_neg (by rw[h];simp);exact bK (h:=hT th m fu aa fr fs gn) 4 rfl (le_refl _) rfl (by show hT th m fu aa fr (j5 fs n) (r5 fs gn n)=_;rw[e1,e2])
abbrev azS:=bM [er] [cv] (λ((l,es,bs,()),())=>[((l:Bool)=true->0<(es:List En).length)/\(l=false->0<(bs:List Br).length)]) (λ((l,es,bs,()),())=>(gj l es bs,()))
theorem ayL(l:Bool)(es:List En)(bs:List Br):run P (aF.sum []) f115 [] (start f115 [sS l es bs] [])=
 Tree.ite l (.ab ((0:Int)<=0) (.ab ((0:Int)<(↑es.length:Int)) (.ret [.ak [.s (.bool l),.s (.ro (.ah cE es)),.s (.ro (.ah cB bs))] 99] (.s (.str (es.getD 0 (CL.d cE)).fst))))) (.ab ((0:Int)<=0) (.ab ((0:Int)<(↑bs.length:Int)) (.ret [.ak [.s (.bool l),.s (.ro (.ah cE es)),.s (.ro (.ah cB bs))] 99] (.s (.str (bs.getD 0 (CL.d cB)).fst))))):=by kernel_rfl
theorem al1{Z:aZ}:cg P Z 115 [er] [cv] (λ((l,es,bs,()),())=>[((l:Bool)=true->0<(es:List En).length)/\(l=false->0<(bs:List Br).length)]) (λ((l,es,bs,()),())=>(gj l es bs,())):=by
 refine ay func115 (by kernel_rfl) (by kernel_rfl) ?_;rintro⟨⟨(l:Bool),(es:List En),(bs:List Br),⟨⟩⟩,⟨⟩⟩ _ ⟨⟨h1,h2⟩,_⟩ X hX hz;refine Lf.go hz hX aF.Ok.nil func115 (ayL l es bs) ⟨λh=>⟨by omega,Int.ofNat_lt.2 (h1 h), ?_⟩,λh=>⟨by omega,Int.ofNat_lt.2 (h2 h), ?_⟩⟩;show Ends [cv] (gj l es bs,()) _ _;unfold gj;rw[if_pos h];exact akD;show Ends [cv] (gj l es bs,()) _ _;unfold gj;rw[if_neg (by rw[h];simp)];exact akD
abbrev cBs:List CK:=[.rows cB]
abbrev eBs:TypeId:=97
abbrev Rows:Type:=List (List Br×Unit)
abbrev awG:Ty:=.b (.row (.ah cBs) eBs)
abbrev rwB(x:CL cBs):List Br:=x.1
def nsJ:List (Nat×Norm):=[(3,⟨[(3,.ah cB [],eB)],[3,6,7,8],0,[]⟩)]
def cJ(ls:List (CL cBs))(acc:List Br)(i:Int):bQ:=⟨sl 17 [(3,.vec 0),(6,.s (.ro (.ah cBs ls))),(7,az (ls.length:Int)),(8,az i)],[.vec (.ah cB acc) eB],hd f113 3,{}⟩
def cC(ls:List (CL cBs)):List Br:=ls.flatMap λx=>rwB x
abbrev sJ:=bM [awG] [yd] (λ(ls,())=>[(ls:List (CL cBs)).length<=100,(cC ls).length<=100000]) (λ(ls,())=>(cC ls,()))
def arp:aF:=[(113,sJ)]
theorem trJ(ls:List (CL cBs)):run P (aF.sum []) f113 nsJ (start f113 [.s (.ro (.ah cBs ls))] [])=
 Tree.at (cJ ls [] 0):=by kernel_rfl
theorem arq(ls:List (CL cBs))(acc:List Br)(i:Int):run P (aF.sum []) f113 nsJ (cJ ls acc i)=
 Tree.ite (decide (i<ls.length)) (.ab ((0:Int)<=i) (.ab (i<ls.length) (.ab ((acc.length+(rwB (el ls i)).length)*(24:Nat)<=140737488355328) (.ab (aw (i+1)) (.at (cJ ls (acc++rwB (el ls i)) (i+1))))))) (.ret [.vec (.ah cB acc) 105] (.vec 0)):=by kernel_rfl
theorem ayM(l:Bool)(es:List En)(bs:List Br):run P arp.sum f86 [] (start f86 [sS l es bs] [])=
 Tree.ite (decide ((↑bs.length:Int)>0)) (.ab ((0:Int)<=0) (.ab ((0:Int)<(↑bs.length:Int)) (.ab ((0:Int)<=1) (.ab ((1:Int)<=(↑bs.length:Int)) (.ab ((↑bs.length:Int)<=(↑bs.length:Int)) (.ab ([([(empty,(bs.getD 0 (CL.d cB)).snd.fst,())],()),(List.drop (Int.toNat 1) (List.take (↑bs.length:Int).toNat bs),())].length<=100) (.ab ((cC [([(empty,(bs.getD 0 (CL.d cB)).snd.fst,())],()),(List.drop (Int.toNat 1) (List.take (↑bs.length:Int).toNat bs),())]).length<=100000) (.ret [.ak [.s (.bool l),.s (.ro (.ah cE es)),.vec 4] 99,.ak [.s (.bool l),.s (.ro (.ah cE es)),.vec 4] 99,.aH,.vec (.ah cBs [([(empty,(bs.getD 0 (CL.d cB)).snd.fst,())],()),(List.drop (Int.toNat 1) (List.take (↑bs.length:Int).toNat bs),())]) 97,.vec (.ah cB (cC [([(empty,(bs.getD 0 (CL.d cB)).snd.fst,())],()),(List.drop (Int.toNat 1) (List.take (↑bs.length:Int).toNat bs),())])) 105] (.agg [.s (.bool l),.s (.ro (.ah cE es)),.vec 4]))))))))) (.ret [.ak [.s (.bool l),.s (.ro (.ah cE es)),.s (.ro (.ah cB bs))] 99,.ak [.s (.bool l),.s (.ro (.ah cE es)),.s (.ro (.ah cB bs))] 99] (.agg [.s (.bool l),.s (.ro (.ah cE es)),.s (.ro (.ah cB bs))])):=by kernel_rfl
theorem afy{ls:List (CL cBs)}(k:Nat)(h:k<ls.length):cC (ls.take (k+1))=cC (ls.take k)++rwB (ls.getD k (CL.d cBs)):=by
 rw[<-iJ (d:=CL.d cBs) h];simp[cC]
theorem al2{ls:List (CL cBs)}(k:Nat):(cC (ls.take k)).length<=(cC ls).length:=by
 have e:cC ls=cC (ls.take k)++cC (ls.drop k):=by
  unfold cC;exact(congrArg (List.flatMap λx=>rwB x) (List.take_append_drop k ls).symm).trans List.flatMap_append
 rw[e,length_append];omega
theorem s9{Z:aZ}:cg P Z 113 [awG] [yd] (λ(ls,())=>[(ls:List (CL cBs)).length<=100,(cC ls).length<=100000]) (λ(ls,())=>(cC ls,())):=by
 refine ay func113 (by kernel_rfl) (by kernel_rfl) ?_;rintro⟨(ls:List (CL cBs)),⟨⟩⟩ _ ⟨(hl:ls.length<=100),(hj:(cC ls).length<=100000),_⟩ X hX hz
 have first:∀(n k:Nat),k+n=ls.length->Safe P 113 X (Ends [yd] (cC ls,())) (cJ ls (cC (ls.take k)) (k:Int)):=by
  intro n
  induction n with
  |zero=>
   intro k hk;refine Lf.go hz hX aF.Ok.nil func113 (arq ls _ k) ⟨λh=>absurd (of_decide_eq_true h) (by omega),λh=> ?_⟩;rw[take_of_length_le (by omega)];exact aM (cC ls,()) rfl (by kernel_rfl)
  |succ n ih=>
   intro k hk;have e:=afy (ls:=ls) k (by omega);have l1:=al2 (ls:=ls) (k+1);rw[e,length_append]at l1;refine Lf.go hz hX aF.Ok.nil func113 (arq ls _ k) ⟨λh=>⟨by omega,by omega, ?_,⟨by omega,by omega⟩, ?_⟩,λh=>absurd (of_decide_eq_false h) (by omega)⟩;show((cC (ls.take k)).length+(rwB (ls.getD k (CL.d cBs))).length)*24<=140737488355328;omega;have:=ih (k+1) (by omega);rw[e]at this;exact this
 exact Lf.go hz hX aF.Ok.nil func113 (trJ ls) (first ls.length 0 (by omega))
theorem al3{Z:aZ}:arp.Ok P Z:=aF.Ok.cons s9.sum aF.Ok.nil
theorem ag1{Z:aZ}:cg P Z 86 [er] [ia] (λ((_,_,bs,()),())=>[(bs:List Br).length<=1000]) (λ((l,es,bs,()),())=>((l,es,ae bs,()),())):=by
 refine ay func86 (by kernel_rfl) (by kernel_rfl) ?_;rintro⟨⟨(l:Bool),(es:List En),(bs:List Br),⟨⟩⟩,⟨⟩⟩ _ ⟨(hl:bs.length<=1000),_⟩ X hX hz;show Safe P 86 X (Ends [ia] ((l,es,ae bs,()),())) _;refine Lf.go hz hX al3 func86 (ayM l es bs) ⟨λh=> ?_,λh=> ?_⟩;have h:=of_decide_eq_true h
 obtain⟨b,r,rfl⟩:∃b r,bs=b::r:=by
  cases bs with
  |nil=>simp at h|cons b r=>exact⟨b,r,rfl⟩
 simp only[length_cons]at h hl
 have e:cC [([(empty,((b::r).getD (0:Nat) (CL.d [CK.str,CK.int i64])).snd.fst,())],()),(List.drop (Int.toNat (1:Int)) (List.take (↑(b::r).length:Int).toNat (b::r)),())]=ae (b::r):=by
  show [(empty,b.2.1,())]++(List.drop 1 (List.take (r.length+1) (b::r))++[])=(empty,b.2.1,())::r;rw[take_of_length_le (by simp)];simp
 refine⟨by omega,by simp only[length_cons];omega,by omega,by simp only[length_cons];omega,by simp only[length_cons];omega,by show 2<=100;decide, ?_, ?_⟩;refine Nat.le_trans (Nat.le_of_eq (congrArg List.length e)) ?_;show r.length+1<=100000;omega;exact aM (rs:=[ia]) ((l,es,cC [([(empty,((b::r).getD (0:Nat) (CL.d [CK.str,CK.int i64])).snd.fst,())],()),(List.drop (Int.toNat (1:Int)) (List.take (↑(b::r).length:Int).toNat (b::r)),())],()),()) (by rw[e]) (by kernel_rfl);have h:=of_decide_eq_false h;obtain rfl:bs=[]:=List.eq_nil_of_length_eq_zero (by omega);exact aM (rs:=[ia]) ((l,es,[],()),()) rfl (by kernel_rfl)
end Ts
namespace Lf
open Go Go.Sx Go.Proofs
theorem m9{l:Bool}{es:List En}{bs:List Br}(h:ch l es bs=true):jj (b9 es)/\jj (mg bs):=by
 simp only[ch,and_eq_true]at h;exact⟨ayE h.1.2,ayD h.2⟩
theorem na{α:Type}{l:List α}{k i:Nat}{d:α}(h:i<k):(l.take k).getD i d=l.getD i d:=by simp[List.getD,getElem?_take,h]
theorem nb{α:Type}{l:List α}{k i:Nat}{d:α}:(l.drop k).getD i d=l.getD (k+i) d:=by simp[List.getD,List.getElem?_drop]
theorem aiX{es:List En}(h:mf es=true)(k:Nat):mf (es.take k)=true:=eh.2 λi hi=>by
 rw[length_take]at hi;have:=o9.1 (eh.1 h i (by omega));rw[o9,na (by omega),na (by omega)];exact this
theorem aiY{es:List Br}(h:pr es=true)(k:Nat):pr (es.take k)=true:=eh.2 λi hi=>by
 rw[length_take]at hi;have:=pa.1 (eh.1 h i (by omega));rw[pa,na (by omega),na (by omega)];exact this
theorem aiZ{es:List En}(h:mf es=true)(k:Nat):mf (es.drop k)=true:=eh.2 λi hi=>by
 rw[length_drop]at hi;have⟨h1,h2,h3,h4⟩:=o9.1 (eh.1 h (k+i) (by omega));rw[o9,nb,nb];exact⟨h1,h2,h3,λh0=>by have:=h4 (by omega);rw[show k+i - 1=k+(i - 1)from by omega]at this;exact this⟩
theorem ai0{es:List Br}(h:pr es=true)(k:Nat):pr (es.drop k)=true:=eh.2 λi hi=>by
 rw[length_drop]at hi;have⟨h1,h2,h3,h4⟩:=pa.1 (eh.1 h (k+i) (by omega));rw[pa,nb,nb];exact⟨h1,h2,h3,λh0=>by have:=h4 (by omega);rw[show k+i - 1=k+(i - 1)from by omega]at this;exact this⟩
theorem ag2{l:Bool}{es:List En}{bs:List Br}(m1:l=true->bs=[])(m2:l=false->es=[])(m3:mf es=true)(m4:pr bs=true):ch l es bs=true:=by
 simp only[ch,m3,m4,Bool.and_true];cases l;rw[m2 rfl];rfl;rw[m1 rfl];rfl
theorem al4{l:Bool}{es:List En}{bs:List Br}(h:ch l es bs=true)(k:Nat):ch l (es.take k) (bs.take k)=true:=by
 have⟨m1,m2,m3,m4⟩:=dD h;exact ag2 (λe=>by rw[m1 e,List.take_nil]) (λe=>by rw[m2 e,List.take_nil]) (aiX m3 k) (aiY m4 k)
theorem al5{l:Bool}{es:List En}{bs:List Br}(h:ch l es bs=true)(k:Nat):ch l (es.drop k) (bs.drop k)=true:=by
 have⟨m1,m2,m3,m4⟩:=dD h;exact ag2 (λe=>by rw[m1 e,List.drop_nil]) (λe=>by rw[m2 e,List.drop_nil]) (aiZ m3 k) (ai0 m4 k)
theorem aba:∀{l:List Int} {m:Int},(∀x∈l,m<=x)->m*l.length<=l.sum
 |[],m,_=>by simp
 |a::r,m,h=>by
  have h1:=aba (l:=r) (m:=m) λx hx=>h x (List.mem_cons_of_mem _ hx);have h2:=h a List.mem_cons_self;rw[List.sum_cons,length_cons];have:m*((r.length+1:Nat):Int)=m*(r.length:Int)+m:=by rw[Int.natCast_add,Int.mul_add];simp
  omega
theorem apo(es:List En)(bs:List Br):∀x∈aQ es bs,2<=x:=λx hx=>by
 simp only[aQ,mem_append,mem_map]at hx;rcases hx with⟨e,_,rfl⟩|⟨b,_,rfl⟩;simp only[o8];omega;simp only[sT];omega
theorem al6{zs:List Int}(h:∀x∈zs,2<=x){k:Nat}(h1:0<k)(h2:k<zs.length):2<=(zs.take k).sum/\(zs.take k).sum+2<=zs.sum:=by
 have a1:=aba (l:=zs.take k) (m:=2) λx hx=>h x (List.mem_of_mem_take hx);have a2:=aba (l:=zs.drop k) (m:=2) λx hx=>h x (List.mem_of_mem_drop hx);rw[ac1]at a2;rw[length_take]at a1;rw[length_drop]at a2;omega
theorem zn{l:Bool}{es:List En}{bs:List Br}(h:fc l es bs=true)(he:aY es)(hb:aV bs):
 aY (bz l es bs)/\aV (bA l es bs)/\aY (eH l es bs)/\aV (eI l es bs)/\ak6 (ct l es bs) ([]++bz l es bs++eH l es bs) ([]++bA l es bs++eI l es bs) l es bs=true/\
 ch (ct l es bs) (bz l es bs) (bA l es bs)=true/\ch (ct l es bs) (eH l es bs) (eI l es bs)=true/\
 bw (bz l es bs) (bA l es bs)<bw es bs/\bw (eH l es bs) (eI l es bs)<bw es bs/\bw (bz l es bs) (bA l es bs)+bw (eH l es bs) (eI l es bs)=bw es bs+1/\
 imax (bw (bz l es bs) (bA l es bs)) (bw (eH l es bs) (eI l es bs))=1+nt (aQ es bs) (e9 es bs):=by
 have h':=h;simp only[fc,and_eq_true,decide_eq_true_eq]at h';have⟨hm,h2⟩:=h';have⟨m1,m2,_,_⟩:=dD hm;have⟨_,_,_,_,c5,c6⟩:=sW m1 m2 (e9 es bs);have b1:=ac0 (aQ es bs) (es.length+bs.length - 1) (by omega);have b2:=rI (aQ es bs) (es.length+bs.length - 1);have p:=al6 (apo es bs) (k:=e9 es bs) b1 (by rw[qo];rw[e9];omega);have bZ:=wX es bs;simp only[bz,eH,bA,eI,ct,h,if_true,Bool.true_and];refine⟨ua he _,uc hb _,ud he _,ue hb _, ?_,al4 hm _,al5 hm _,by omega,by omega,by omega, ?_⟩;rw[nil_append,nil_append,List.take_append_drop,List.take_append_drop];exact aiD _ _ _;rw[c5,c6,ac2];rfl
theorem al7{l:Bool}{es:List En}{bs:List Br}(h:(u4 l es bs==0)=true):fc l es bs=true:=by
 unfold u4 at h;split at h;assumption;exact absurd h (by decide)
end Lf
namespace Ds
open Go Go.Sx Go.Proofs Lf
end Ds
namespace Ts
open Go Go.Sx Go.Proofs Lf
def In(ws:Ws)(k:Int):Prop:=Bx.lL ws k=true
instance (ws:Ws) (k:Int):Decidable (In ws k):=inferInstanceAs (Decidable (_=true))
theorem ib{ws:Ws}(hw:Bx.okW ws){k:Int}:In ws k↔(0<=k/\k<1024)/\Bx.bit ws k.toNat=true:=by
 unfold In;rw[Bx.aa8 hw,and_eq_true,decide_eq_true_eq]
theorem al8{ws:Ws}(hw:Bx.okW ws){k:Int}(h:In ws k):0<=k/\k<1024:=((ib hw).1 h).1
theorem ax8{ws:Ws}(hw:Bx.okW ws){n:Int}(hn:0<=n/\n<1024){k:Int}:In (Bx.cU ws n) k↔In ws k\/k=n:=by
 have⟨h1,h2⟩:=Bx.gx hw n;rw[ib h1,ib hw];constructor;rintro⟨a,b⟩;rw[h2 k.toNat (by omega),or_eq_true,decide_eq_true_eq]at b;rcases b with b|b;exact .inl ⟨a,b⟩;right;omega;rintro(⟨a,b⟩|rfl);exact⟨a,by rw[h2 _ (by omega),b];rfl⟩;refine⟨hn, ?_⟩;rw[h2 _ (by omega),or_eq_true,decide_eq_true_eq];right;omega
theorem al9{op:BinOp}(xM:op=.or\/op=.and\/op=.andNot){a b:Ws}(ha:Bx.okW a)(hb:Bx.okW b){k:Int}:
 In (Bx.dY op a b) k↔(0<=k/\k<1024)/\Bx.opb op (Bx.bit a k.toNat) (Bx.bit b k.toNat)=true:=by
 have⟨h1,h2⟩:=Bx.kx xM ha hb;rw[ib h1];constructor;rintro⟨c,d⟩;rw[h2 _ (by omega)]at d;exact⟨c,d⟩;rintro⟨c,d⟩;exact⟨c,by rw[h2 _ (by omega)];exact d⟩
theorem atX{a b:Ws}(ha:Bx.okW a)(hb:Bx.okW b){k:Int}:In (Bx.dY .and a b) k↔In a k/\In b k:=by
 rw[al9 (.inr (.inl rfl)) ha hb,ib ha,ib hb];simp only[Bx.opb,and_eq_true];exact⟨λ⟨c,d⟩=>⟨⟨c,d.1⟩,c,d.2⟩,λ⟨x,y⟩=>⟨x.1,x.2,y.2⟩⟩
theorem apq{a b:Ws}(ha:Bx.okW a)(hb:Bx.okW b){k:Int}:In (Bx.dY .andNot a b) k↔In a k/\¬In b k:=by
 rw[al9 (.inr (.inr rfl)) ha hb,ib ha,ib hb];simp only[Bx.opb,and_eq_true,not_eq_true'];constructor;rintro⟨c,d,e⟩;exact⟨⟨c,d⟩,λh=>by rw[h.2]at e;cases e⟩;rintro⟨⟨c,d⟩,e⟩;refine⟨c,d, ?_⟩;cases hh:Bx.bit b k.toNat;rfl;exact absurd ⟨c,hh⟩ e
theorem adh{n k:Int}:In (Bx.dM n) k↔(0<=k/\k<1024)/\k<n:=by
 have⟨h1,h2⟩:=Bx.dz n;rw[ib h1];constructor;rintro⟨c,d⟩;rw[h2 _ (by omega),decide_eq_true_eq]at d;exact⟨c,by omega⟩;rintro⟨c,d⟩;exact⟨c,by rw[h2 _ (by omega),decide_eq_true_eq];omega⟩
theorem awH{l:List Int}{k:Int}:In (Bx.ofF l) k↔(0<=k/\k<1024)/\k∈l:=by
 have⟨h1,h2⟩:=Bx.xh l;rw[ib h1];constructor;rintro⟨c,d⟩;rw[h2 _ (by omega),decide_eq_true_eq,Int.toNat_of_nonneg c.1]at d;exact⟨c,d⟩;rintro⟨c,d⟩;refine⟨c, ?_⟩;rw[h2 _ (by omega),decide_eq_true_eq,Int.toNat_of_nonneg c.1];exact d
theorem atY{a b:Ws}(ha:Bx.okW a)(hb:Bx.okW b)(h:∀k,In a k↔In b k):a=b:=Bx.apk ha hb λk hk=>by
 have h1:=h (k:Int);rw[ib ha,ib hb,toNat_natCast]at h1;have hr:(0:Int)<=(k:Int)/\(k:Int)<1024:=⟨by omega,by omega⟩;have h2:Bx.bit a k=true↔Bx.bit b k=true:=⟨λh=>(h1.1 ⟨hr,h⟩).2,λh=>(h1.2 ⟨hr,h⟩).2⟩;cases e1:Bx.bit a k<;>cases e2:Bx.bit b k<;>simp[e1,e2]at h2 ⊢
theorem ama{ws:Ws}(hw:Bx.okW ws)(h:Bx.dZ ws 0=true):In ws (Bx.bN ws 0):=by
 unfold Bx.dZ at h;have⟨v,hv⟩:=isSome_iff_exists.1 h;obtain⟨p,rfl,hp,hb,_,_⟩:=Bx.qs hw hv;have e:Bx.bN ws 0=(p:Int):=by unfold Bx.bN;rw[hv];rfl
 rw[e,ib hw];exact⟨⟨by omega,by omega⟩,by rw[toNat_natCast];exact hb⟩
structure Rd (th:Th) (m:As) (p:Int) (l:Bool) (es:List En) (bs:List Br):Prop where
 e:Ds.nr th m p=0
 c:pv (Ds.kX th m p)=0
 l:gT (Ds.kX th m p)=l
 es:lJ (Ds.kX th m p)=es
 bs:kJ (Ds.kX th m p)=bs
theorem Rd.same{th:Th}{m m':As}{p:Int}{l:Bool}{es:List En}{bs:List Br}(h:Rd th m p l es bs)(h1:Ds.nr th m' p=Ds.nr th m p/\Ds.kX th m' p=Ds.kX th m p):Rd th m' p l es bs:=by
 have⟨a,b,c,d,e⟩:=h;exact⟨by rw[h1.1];exact a,by rw[h1.2];exact b,by rw[h1.2];exact c,by rw[h1.2];exact d,by rw[h1.2];exact e⟩
theorem Rd.nd{th:Th}{m:As}{p:Int}{l:Bool}{es:List En}{bs:List Br}(h:Rd th m p l es bs){ad:Int}(hd:ad<=16):fE th m p ad=0/\jF th m p ad=l/\bY th m p ad=es/\bc th m p ad=bs:=by
 have e0:qt th m p ad=true:=by unfold qt;rw[decide_eq_true hd,decide_eq_true h.e];rfl
 refine⟨?_, ?_, ?_, ?_⟩;unfold fE;rw[if_neg (by omega),if_pos h.e];exact h.c;unfold jF;rw[e0,Bool.true_and];exact h.l;unfold bY;rw[if_pos e0];exact h.es;unfold bc;rw[if_pos e0];exact h.bs
abbrev awI:=bM [er] [cv] (λ((l,es,bs,()),())=>[((l:Bool)=true->0<(es:List En).length)/\(l=false->0<(bs:List Br).length)]) (λ((l,es,bs,()),())=>(gj l es bs,()))
abbrev ars:=gH [er] [ia] (λ((_,_,bs,()),())=>[(bs:List Br).length<=1000]) (λ((l,es,bs,()),())=>((l,es,ae bs,()),()))
abbrev ayN:=bM [Bx.dF,Bx.bk] [Bx.bk,Bx.bL] (λ(ws,_,())=>[Bx.okW ws]) (λ(ws,n,())=>(Bx.bN ws n,Bx.dZ ws n,()))
abbrev awJ:=bM [er] [cv,bk] (λ((_,es,bs,()),())=>[aY es,aV bs]) (λ((l,es,bs,()),())=>(bO l es bs,dq l es bs,()))
def art:aF:=[(115,awI),(86,ars),(50,ayN),(116,awJ),(117,awF),(118,arn),(34,adg)]
abbrev awK:Spec (XT×Bool×List En×List Br):=⟨λ(_,l,es,bs)=>[.ptr 0 0,sS l es bs],λ((th,m,fu,aa,fr,fs,gn),_)=>hT th m fu aa fr fs gn,
 λ((th,m,fu,_,fr,_,_),l,es,bs)=>[Ds.cf th m fu,Bx.okW fr,((l:Bool)=true->0<(es:List En).length)/\(l=false->0<(bs:List Br).length),aY es,aV bs],
 λ((th,m,fu,aa,fr,fs,gn),l,es,bs)=>hT th (b8 th m fu fr fs l es bs).1 (b8 th m fu fr fs l es bs).2.1 aa (b8 th m fu fr fs l es bs).2.2.1 (b8 th m fu fr fs l es bs).2.2.2.1 gn,
 λ((th,m,fu,_,fr,fs,_),l,es,bs)=>.bd [.agg [.s (.str (b8 th m fu fr fs l es bs).2.2.2.2.1.1),az (b8 th m fu fr fs l es bs).2.2.2.2.1.2.1],az (b8 th m fu fr fs l es bs).2.2.2.2.2]⟩
theorem ayO(th:Th)(m:As)(fu aa:Int)(fr fs gn:Ws)(l:Bool)(es:List En)(bs:List Br):run P art.sum f88 [] (start f88 [.ptr 0 0,sS l es bs] (hT th m fu aa fr fs gn))=
 Tree.ab ((l=true->(0:Nat)<es.length)/\(l=false->(0:Nat)<bs.length)) (.ab (bs.length<=1000) (.ab (Bx.okW fr) (.ite (!Bx.dZ fr 0) (.ret (hT th m fu aa fr fs gn++[.ak [.s (.bool l),.s (.ro (.ah cE es)),.s (.ro (.ah cB (ae bs)))] 99,.ak [.s (.str empty),.s (.aO .i64 0)] 105]) (.bd [.agg [.s (.str empty),.s (.aO .i64 0)],.s (.aO .i64 41)])) (.ab (aY es) (.ab (aV (ae bs)) (.ite (dq l es (ae bs) !=0) (.ret (hT th m fu aa fr fs gn++[.ak [.s (.bool l),.s (.ro (.ah cE es)),.s (.ro (.ah cB (ae bs)))] 99,.ak [.s (.str empty),.s (.aO .i64 0)] 105]) (.bd [.agg [.s (.str empty),.s (.aO .i64 0)],az (dq l es (ae bs))])) (.ab (bD (some [AV.ptr 0 0,az (Bx.bN fr 0),.s (.str (bO l es (ae bs)))])) (.ab (bD (some (Ds.hD th m fu))) (.ab (Ds.cf th m fu) (.ab (aw (Bx.bN fr 0)) (.ite ((Ds.me th m fu (Bx.bN fr 0) (bO l es (ae bs))).snd.snd !=0) (.ret (hT th (Ds.me th m fu (Bx.bN fr 0) (bO l es (ae bs))).fst (Ds.me th m fu (Bx.bN fr 0) (bO l es (ae bs))).snd.fst aa fr fs gn++[.ak [.s (.bool l),.s (.ro (.ah cE es)),.s (.ro (.ah cB (ae bs)))] 99,.ak [.s (.str empty),.s (.aO .i64 0)] 105]) (.bd [.agg [.s (.str empty),.s (.aO .i64 0)],az ((Ds.me th m fu (Bx.bN fr 0) (bO l es (ae bs))).snd.snd)])) (.ret (hT th (Ds.me th m fu (Bx.bN fr 0) (bO l es (ae bs))).fst (Ds.me th m fu (Bx.bN fr 0) (bO l es (ae bs))).snd.fst aa (Bx.dG fr (Bx.bN fr 0)) (Bx.cU fs (Bx.bN fr 0)) gn++[.ak [.s (.bool l),.s (.ro (.ah cE es)),.s (.ro (.ah cB (ae bs)))] 99,.ak [.s (.str (gj l es bs)),az (Bx.bN fr 0)] 105]) (.bd [.agg [.s (.str (gj l es bs)),az (Bx.bN fr 0)],.s (.aO .i64 0)]))))))))))))):=by kernel_rfl
theorem lg{bs:List Br}(h:aV bs):aV (ae bs):=by
 cases bs with
 |nil=>exact h|cons b r=>
  refine⟨h.1,λx hx=> ?_⟩;rcases mem_cons.1 hx with rfl|hx;exact zero_le _;exact h.2 x (List.mem_cons_of_mem _ hx)
theorem xl{ws:Ws}(hw:Bx.okW ws)(h:Bx.dZ ws 0=true):0<=Bx.bN ws 0/\Bx.bN ws 0<1024:=al8 hw (ama hw h)
theorem amb:art.Ok P Bx.cw:=aF.Ok.cons al1.sum (aF.Ok.cons ag1.gH (aF.Ok.cons (Bx.ag0 Bx.arj.sum).sum (aF.Ok.cons aiC.sum (aF.Ok.cons (Ds.av9.sum Ds.mWr) (aF.Ok.cons Bx.xd.sum (aF.Ok.cons Bx.pb.sum aF.Ok.nil))))))
theorem wN:fD P Bx.cw 88 awK:=by
 refine fS func88 ?_;rintro⟨⟨th,m,fu,aa,fr,fs,gn⟩,l,es,bs⟩ ⟨(hd:Ds.cf th m fu),(hf:Bx.okW fr),(cG:((l:Bool)=true->0<(es:List En).length)/\(l=false->0<(bs:List Br).length)),(he:aY es),(hb:aV bs),_⟩ X hX hz;refine Ds.cA hz hX (by intro y hy;cases hy) amb func88 (ayO th m fu aa fr fs gn l es bs) ⟨cG,hb.1,hf,λh=> ?_,λh=>⟨he,lg hb,λh2=> ?_,λh2=>⟨rfl,rfl,hd, ?_,λh3=> ?_,λh3=> ?_⟩⟩⟩;have h:Bx.dZ fr 0=false:=by simpa using h
 have e:b8 th m fu fr fs l es bs=(m,fu,fr,fs,dB,41):=by unfold b8;rw[if_pos h]
 refine bK (h:=hT th m fu aa fr fs gn) 4 rfl (le_refl _) ?_ ?_;show AV.bd [.agg [.s (.str (b8 th m fu fr fs l es bs).2.2.2.2.1.1),az (b8 th m fu fr fs l es bs).2.2.2.2.1.2.1],az (b8 th m fu fr fs l es bs).2.2.2.2.2]=_;rw[e];rfl;show hT th (b8 th m fu fr fs l es bs).1 (b8 th m fu fr fs l es bs).2.1 aa (b8 th m fu fr fs l es bs).2.2.1 (b8 th m fu fr fs l es bs).2.2.2.1 gn=_;rw[e];have h:¬Bx.dZ fr 0=false:=by simpa using h
 have h2:dq l es (ae bs)≠0:=by simpa using h2
 have e:b8 th m fu fr fs l es bs=(m,fu,fr,fs,dB,dq l es (ae bs)):=by unfold b8;rw[if_neg h,if_pos h2]
 refine bK (h:=hT th m fu aa fr fs gn) 4 rfl (le_refl _) ?_ ?_;show AV.bd [.agg [.s (.str (b8 th m fu fr fs l es bs).2.2.2.2.1.1),az (b8 th m fu fr fs l es bs).2.2.2.2.1.2.1],az (b8 th m fu fr fs l es bs).2.2.2.2.2]=_;rw[e];rfl;show hT th (b8 th m fu fr fs l es bs).1 (b8 th m fu fr fs l es bs).2.1 aa (b8 th m fu fr fs l es bs).2.2.1 (b8 th m fu fr fs l es bs).2.2.2.1 gn=_;rw[e];have h:Bx.dZ fr 0=true:=by simpa using h
 have:=xl hf h;exact⟨by omega,by omega⟩;have h:¬Bx.dZ fr 0=false:=by simpa using h
 have h2:¬dq l es (ae bs)≠0:=by simpa using h2
 have h3:(Ds.me th m fu (Bx.bN fr 0) (bO l es (ae bs))).2.2≠0:=by simpa using h3
 have e:b8 th m fu fr fs l es bs=((Ds.me th m fu (Bx.bN fr 0) (bO l es (ae bs))).1,(Ds.me th m fu (Bx.bN fr 0) (bO l es (ae bs))).2.1,fr,fs,dB,(Ds.me th m fu (Bx.bN fr 0) (bO l es (ae bs))).2.2):=by unfold b8;rw[if_neg h,if_neg h2,if_pos h3]
 refine bK (h:=hT th (Ds.me th m fu (Bx.bN fr 0) (bO l es (ae bs))).1 (Ds.me th m fu (Bx.bN fr 0) (bO l es (ae bs))).2.1 aa fr fs gn) 4 rfl (le_refl _) ?_ ?_;show AV.bd [.agg [.s (.str (b8 th m fu fr fs l es bs).2.2.2.2.1.1),az (b8 th m fu fr fs l es bs).2.2.2.2.1.2.1],az (b8 th m fu fr fs l es bs).2.2.2.2.2]=_;rw[e];rfl;show hT th (b8 th m fu fr fs l es bs).1 (b8 th m fu fr fs l es bs).2.1 aa (b8 th m fu fr fs l es bs).2.2.1 (b8 th m fu fr fs l es bs).2.2.2.1 gn=_;rw[e];have h:¬Bx.dZ fr 0=false:=by simpa using h
 have h2:¬dq l es (ae bs)≠0:=by simpa using h2
 have h3:¬(Ds.me th m fu (Bx.bN fr 0) (bO l es (ae bs))).2.2≠0:=by simpa using h3
 have e:b8 th m fu fr fs l es bs=((Ds.me th m fu (Bx.bN fr 0) (bO l es (ae bs))).1,(Ds.me th m fu (Bx.bN fr 0) (bO l es (ae bs))).2.1,Bx.dG fr (Bx.bN fr 0),Bx.cU fs (Bx.bN fr 0),(gj l es bs,Bx.bN fr 0,()),0):=by unfold b8;rw[if_neg h,if_neg h2,if_neg h3]
 refine bK (h:=hT th (Ds.me th m fu (Bx.bN fr 0) (bO l es (ae bs))).1 (Ds.me th m fu (Bx.bN fr 0) (bO l es (ae bs))).2.1 aa (Bx.dG fr (Bx.bN fr 0)) (Bx.cU fs (Bx.bN fr 0)) gn) 4 rfl (le_refl _) ?_ ?_;show AV.bd [.agg [.s (.str (b8 th m fu fr fs l es bs).2.2.2.2.1.1),az (b8 th m fu fr fs l es bs).2.2.2.2.1.2.1],az (b8 th m fu fr fs l es bs).2.2.2.2.2]=_;rw[e];rfl;show hT th (b8 th m fu fr fs l es bs).1 (b8 th m fu fr fs l es bs).2.1 aa (b8 th m fu fr fs l es bs).2.2.1 (b8 th m fu fr fs l es bs).2.2.2.1 gn=_;rw[e]
end Ts
namespace Go.Sx
open Go
def ag3:List Nat->List AV->(List AV->RM bP)->RM bP
 |[],args,k=>k args|id::ids,args,k=>.look id λo=>match o with
  |some (.vec c _)=>((ag3 ids (args.map (n8 id c)) k).aez id).mD id|_=>.fail ""
def abb(i:Nat)(s:Nat->List AV->RM bP):Nat->List AV->RM bP:=λbase args=>ag3 (aeT (args.getD i (.s .bm))) args (s base)
def ag4(cs:List (Nat×ba)):Nat->List AV->List AV
 |_,[]=>[]|j,.emp::r=>(match cs.find? (λp=>p.1.beq j)with
  |some (_,c)=>bif c.n.beq 0 then .s (.ro c)else .emp|none=>.emp)::ag4 cs (j+1) r
 |j,a::r=>a::ag4 cs (j+1) r
def aru(cs:List (Nat×ba)):AV->AV
 |.agg aD=>.agg (ag4 cs 0 aD)|a=>a
def pf(i:Nat)(cs:List (Nat×ba))(s:Nat->List AV->RM bP):Nat->List AV->RM bP:=λbase args=>s base (match args[i]? with
 |some a=>args.set i (aru cs a)|none=>args)
section
variable{ρ aU:Nat->Value}{H H':a8}{G O O':Nat->Prop}{w w':World}{P:Program}{Z:aZ}{X:Type}{S:Spec X}
theorem zo{cs:List (Nat×ba)}:∀(l:List AV) (j:Nat) {vs:List Value},aE ρ H O w l vs->aE ρ H O w (ag4 cs j l) vs
 |[],_,vs,h=>h|a::l,j,vs,h=>by
  obtain⟨c1,c2,rfl,h1,h2⟩:=aq.1 h;have ih:=zo (cs:=cs) l (j+1) h2;cases a with
  |emp=>
   refine aq.2 ⟨c1,c2,rfl, ?_,ih⟩;split;rw[cond_eq_ite];split;rename_i c _ hc;have hc:c.n=0:=by simpa using hc
   unfold aX at h1 ⊢;obtain⟨u,rfl,a,rfl⟩:=h1;exact⟨_,rfl,rk hc a⟩;exact h1;exact h1
  |_=>exact aq.2 ⟨c1,c2,rfl,h1,ih⟩
theorem ai1{cs:List (Nat×ba)}{a:AV}{v:Value}(h:ag ρ H O w a v):ag ρ H O w (aru cs a) v:=by
 cases a with
 |agg aD=>
  unfold ag at h;obtain⟨vs,rfl,h1⟩:=h;show ag _ _ _ _ (.agg _) _;unfold ag;exact⟨vs,rfl,zo _ _ h1⟩
 |_=>exact h
theorem dC{f:FuncId}{s:Nat->List AV->RM bP}(h:rq P Z f s)(i:Nat)(cs:List (Nat×ba)):rq P Z f (pf i cs s):=by
 intro base args H q hq hn ρ G w vs dU hz hs hd;unfold pf at hq;split at hq;rename_i a ha;exact h base _ H q hq hn ρ G w vs dU hz hs (acE hd ha λv hv=>ai1 hv);exact h base _ H q hq hn ρ G w vs dU hz hs hd
theorem ai2(hs:Sat ρ H G w){id:Nat}{c:ba}{e:TypeId}(ho:H id=some (.vec c e)){x:AV}{v:Value}(hx:ag ρ H (bg ρ H G) w x v):
 ag ρ (aP H id .aH) (bg ρ (aP H id .aH) G) w (n8 id c x) v:=by
 have st:=fw (ρ:=ρ) (G:=G) (w:=w) ho;have gone:=qY hs ho
 have ae2:∀x cs,aX ρ H (bg ρ H G) w x cs→aX ρ (aP H id .aH) (bg ρ (aP H id .aH) G) w (n7 id c x) cs:=by
  intro x cs hx;have ny:=aX.step st x cs hx;cases x<;>try exact ny
  rename_i j;simp only[n7,cond_eq_ite];split;rename_i hj;have hj:j=id:=by simpa using hj
  subst hj;unfold aX at hx ⊢;obtain⟨u,rfl,hu⟩:=hx;obtain⟨a,cap,hv,hr,_⟩:=iQ hs ho (by unfold ag;exact hu);exact⟨u,rfl,by rw[←hr];exact gone⟩;exact ny
 have mK:∀(xs:List AV) cs,aE ρ H (bg ρ H G) w xs cs→aE ρ (aP H id .aH) (bg ρ (aP H id .aH) G) w (xs.map (n7 id c)) cs:=by
  intro xs
  induction xs with
  |nil=>intro cs hx;exact aG.2 (aG.1 hx)
  |cons x xs ih=>
   intro cs hx;obtain⟨c1,c2,rfl,h1,h2⟩:=aq.1 hx;exact aq.2 ⟨c1,c2,rfl,ae2 _ _ h1,ih _ h2⟩
 have ny:=ag.step st x v hx;cases x with
 |agg aD=>
  unfold ag at hx;obtain⟨cs,rfl,h1⟩:=hx;show ag _ _ _ _ (.agg _) _;unfold ag;exact⟨cs,rfl,mK _ _ h1⟩
 |vec j=>
  simp only[n8,cond_eq_ite];split;rename_i hj;have hj:j=id:=by simpa using hj
  subst hj;obtain⟨a,cap,hv,hr,_⟩:=iQ hs ho hx;rw[←hr];exact aK gone;exact ny
 |_=>exact ny
theorem adi{f:FuncId}{s:Nat->List AV->RM bP}(h:rq P Z f s){base:Nat}:∀(ids:List Nat) {args:List AV} {H:a8} {q:bP},(ag3 ids args (s base)).eval H=some q->bE q.ab->
 ∀(ρ:Nat->Value) (G:Nat->Prop) (w:World) (vs:List Value),(∀j,j<q.new.length->H (base+j)=none)->ZAt Z ρ H w->Sat ρ H G w->bI ρ H (bg ρ H G) w args vs->
 Calls P f vs.toArray w λe w'=>∃v,e=.returned v/\Good ρ H G w (dc H q.up base q.new) (q.r base) v w'
 |[],args,H,q,hq,hn,ρ,G,w,vs,dU,hz,hs,hd=>h base args H q hq hn ρ G w vs dU hz hs hd|id::ids,args,H,q,hq,hn,ρ,G,w,vs,dU,hz,hs,hd=>by
  simp only[ag3,RM.eval]at hq;split at hq;rename_i c el ho;obtain⟨q',h1,rfl⟩:=RM.mI _ hq;rw[RM.l6]at h1;have st:=fw (ρ:=ρ) (G:=G) (w:=w) ho;have hz1:ZAt Z ρ (aP H id .aH) w:=⟨hz.1,λb hb hO=>hz.2 b hb (eY hO)⟩
  have aaH:∀j,j<q'.new.length->aP H id .aH (base+j)=none:=λj hj=>by
   have:=dU j hj;simp only[aP];split;rename_i e1;rw[e1,ho]at this;cases this;exact this
  have hd1:bI ρ (aP H id .aH) (bg ρ (aP H id .aH) G) w (args.map (n8 id c)) vs:=by
   clear h1 hq
   induction args generalizing vs with
   |nil=>exact(show bI _ _ _ _ [] vs by rw[bp.1 hd];unfold bI;rfl)
   |cons a args ih=>
    obtain⟨v,rest,rfl,g1,g2⟩:=aJ.1 hd;exact aJ.2 ⟨v,rest,rfl,ai2 hs ho g1,ih _ g2⟩
  refine(adi h ids h1 hn ρ G w vs aaH hz1 (hs.kill ho) hd1).mono ?_;rintro en w' ⟨v,he,hg⟩;refine⟨v,he, ?_⟩
  have aeS:dc H ((id,.aH)::q'.up) base q'.new=dc (aP H id .aH) q'.up base q'.new:=by
   funext j;simp only[dc,cT,aP];cases cT q'.up j with
   |some x=>rfl|none=>
    simp only[];by_cases hj:j=id;subst hj
    have qc:¬(base<=j/\j<base+q'.new.length):=by
     rintro⟨k1,k2⟩;have:=dU (j - base) (by simp only[];omega);rw[show base+(j - base)=j from by omega,ho]at this;cases this
    simp[qc];simp[hj]
  simp only[];rw[aeS];exact Good.after st (λb hb=>eY hb) hg;simp[RM.eval]at hq
theorem fy{f:FuncId}{s:Nat->List AV->RM bP}(h:rq P Z f s)(i:Nat):rq P Z f (abb i s):=by
 intro base args H q hq hn ρ G w vs dU hz hs hd;exact adi h _ hq hn ρ G w vs dU hz hs hd
theorem yh{f:FuncId}{fn:Func}{aT:List AV}{L:List au}{K:List au->AV->Prop}(hf:P.funcs[f]? =some fn)(hb:fn.body.isSome=true)(hn:aT.length<=fn.ntmps)
 (h:∀X:Ctx,X.H=lk L->cP Z X->Safe P f X K (start fn aT L)) (ρ:Nat->Value) (G:Nat->Prop) (w:World) (vs:List Value) (hz:ZAt Z ρ (lk L) w) (hs:Sat ρ (lk L) G w)
 (hd:bI ρ (lk L) (bg ρ (lk L) G) w aT vs):Calls P f vs.toArray w (ki ⟨ρ,lk L,G,w,[]⟩ K):=by
 have⟨c,hb⟩:=isSome_iff_exists.1 hb
 have ov:vs.length=aT.length:=by
  have:∀{aT:List AV} {vs:List Value},bI ρ (lk L) (bg ρ (lk L) G) w aT vs->vs.length=aT.length:=by
   intro aT
   induction aT with
   |nil=>intro vs h;rw[bp.1 h];rfl
   |cons a aT ih=>intro vs h;obtain⟨v,rest,rfl,_,h2⟩:=aJ.1 h;simp[ih h2]
  exact this hd
 refine iS (R:=ki ⟨ρ,lk L,G,w,[]⟩ K) hf hb ?_;have:=(h ⟨ρ,lk L,G,w,[]⟩ rfl hz).goes rfl rfl (ρ:=ρ) (a:={tmps:=vs.toArray++Array.replicate (fn.ntmps - vs.toArray.size) undef,defers:=[]}) (w:=w);simp only[start,hb,getD_some]at this;refine this ⟨hs, ?_,λt=> ?_,rfl,Step.refl _ _ _ _,⟨rfl,rfl,rfl,λ_ _ _=>rfl⟩,λx hx=>by cases hx⟩;simp[ov]
 have e1:∀(aT:List AV) (vs:List Value),bI ρ (lk L) (bg ρ (lk L) G) w aT vs->∀t,ag ρ (lk L) (bg ρ (lk L) G) w (aT.getD t (.bd [])) (vs.getD t undef):=by
  intro aT
  induction aT with
  |nil=>intro vs h t;rw[bp.1 h];simp only[List.getD,List.getElem?_nil,Option.getD_none];exact cX
  |cons a aT ih=>
   intro vs h t;obtain⟨v,rest,rfl,h1,h2⟩:=aJ.1 h;cases t with
   |zero=>simpa using h1|succ t=>simpa using ih rest h2 t
 have h1:=e1 _ _ hd t;simp only[List.getD_eq_getElem?_getD,List.getElem?_append,List.getElem?_replicate,getD_eq_getD_getElem?,Array.getElem?_append,List.getElem?_toArray,Array.getElem?_replicate,List.size_toArray]at h1 ⊢;rw[ov];split;rename_i ht;have hv:vs[t]? =some vs[t]:=getElem?_eq_getElem (by omega);have ha:aT[t]? =some aT[t]:=getElem?_eq_getElem ht;rw[hv,ha]at h1 ⊢;exact h1;split;exact cX;unfold ag;trivial
def nC{X:Type}(S:Spec X)(x:X)(L:List au)(r:AV):Prop:=
 ∃(N:Norm) (vs os:List AV),r=.bd vs/\(S.heap x).length<=N.m/\N.run ⟨vs,L,[],{}⟩=some ⟨os,S.eG x,[],{}⟩/\∀(ρ:Nat->Value) (H:a8) (O:Nat->Prop) (w:World) (us:List Value),bI ρ H O w os us->ag ρ H O w (S.out x) (.tuple us.toArray)
theorem ag5:∀{os:List AV} {us:List Value},os.length=us.length->(∀t,ag ρ H O w (os.getD t (.s .bm)) (us.getD t undef))->bI ρ H O w os us
 |[],[],_,_=>by unfold bI;rfl
 |[],_::_,h,_=>by simp at h
 |_::_,[],h,_=>by simp at h
 |a::os,u::us,hl,h=>aJ.2 ⟨u,us,rfl,h 0,ag5 (by simpa using hl) λt=>h (t+1)⟩
theorem dj{f:FuncId}{fn:Func}(hf:P.funcs[f]? =some fn)(hb:fn.body.isSome=true)(hn:∀x,(S.args x).length<=fn.ntmps)
 (h:∀x,bE (S.pre x)->∀X:Ctx,X.H=lk (S.heap x)->cP Z X->Safe P f X (nC S x) (start fn (S.args x) (S.heap x))):fD P Z f S:=by
 intro x l9 ρ G w vs hz hs hd;refine(yh hf hb (hn x) (h x l9) ρ G w vs hz hs hd).mono ?_;rintro e w' ⟨v,rfl,L,r,⟨N,ts,os,rfl,hm,hN,hwk⟩,ma,g1,g2,g3,g4⟩;refine⟨v,rfl, ?_⟩;unfold ag at g2;obtain⟨us,rfl,g2⟩:=g2
 have bx:us.length=ts.length:=by
  have:∀{aT:List AV} {vs:List Value},bI ma (λid=>L[id]?) (bg ma (λid=>L[id]?) G) w' aT vs->vs.length=aT.length:=by
   intro aT
   induction aT with
   |nil=>intro vs h;rw[bp.1 h];rfl
   |cons a aT ih=>intro vs h;obtain⟨v,rest,rfl,_,h2⟩:=aJ.1 h;simp[ih h2]
  exact this g2
 have r0:cq ⟨ρ,lk (S.heap x),G,w,[]⟩ ma ⟨ts,L⟩ {tmps:=us.toArray,defers:=[]} w':=by
  refine⟨g1,by simp[bx],λt=> ?_,rfl,g3,g4,λx hx=>by cases hx⟩;clear bx hN;have g2':bI ma (St.look ⟨ts,L⟩) (bg ma (St.look ⟨ts,L⟩) G) w' ts us:=g2;show ag ma (St.look ⟨ts,L⟩) (bg ma (St.look ⟨ts,L⟩) G) w' (ts.getD t (.s .bm)) (us.toArray.getD t undef);generalize St.look ⟨ts,L⟩=H1 at g2' ⊢;clear g2 hwk
  induction ts generalizing us t with
  |nil=>simp only[List.getD,List.getElem?_nil,Option.getD_none];unfold ag;trivial|cons a ts ih=>
   obtain⟨u,rest,rfl,k1,k2⟩:=aJ.1 g2';cases t with
   |zero=>simpa using k1|succ t=>simpa[getD_eq_getD_getElem?]using ih _ t k2
 have h0:∀id,N.m<=id->(⟨ρ,lk (S.heap x),G,w,[]⟩:Ctx).H id=none:=λid dI=>by simp[lk];omega
 have fin:∃ρ4,cq ⟨ρ,lk (S.heap x),G,w,[]⟩ ρ4 ⟨os,S.eG x⟩ {tmps:=us.toArray,defers:=[]} w':=by
  unfold Norm.run at hN;split at hN;rename_i t1 L1 h1;simp only[]at hN;split at hN;rename_i t2 L2 h2;simp only[Option.some.injEq,bQ.mk.injEq,and_true]at hN;obtain⟨rfl,rfl⟩:=hN;have⟨ma,r1⟩:=cq.fY h0 h1 (cq.ek N.fj r0);have⟨gG,r2⟩:=cq.gr N.pT r1;have⟨ρ3,r3⟩:=cq.gu N.cells r2;have⟨ρ4,r4⟩:=cq.fY h0 h2 r3;exact⟨ρ4,r4⟩;cases hN;cases hN
 have⟨ρ4,r4⟩:=fin;refine⟨ρ4,r4.sat,hwk _ _ _ _ _ (ag5 ?_ λt=> ?_),r4.ao,r4.jr⟩;have:=r4.size;simpa using this;have:=r4.den t;have e:(us.toArray.getD t undef)=us.getD t undef:=by simp[getD_eq_getD_getElem?,List.getD_eq_getElem?_getD]
 rw[<-e];exact this
theorem fm{S:Spec X}{x:X}{L:List au}{vs os:List AV}{h:List au}(N:Norm)(e:N.run ⟨vs,L,[],{}⟩=some ⟨os,h,[],{}⟩)(hm:(S.heap x).length<=N.m){os':List AV}(hw:jQ os os')(ho:S.out x=.bd os')(hh:S.eG x=h):nC S x L (.bd vs):=
 ⟨N,vs,os,rfl,hm,by rw[hh];exact e,λρ H O w us hd=>by rw[ho];unfold ag;exact⟨us,rfl,hw.den hd⟩⟩
theorem jQ.same:∀(os:List AV),jQ os os
 |[]=>.nil|a::os=>.cons (.one (.refl a)) (jQ.same os)
end
end Go.Sx
namespace Ts
open Go Go.Sx Go.Proofs Lf
def mT:List AV->RM (XT×List Nat)
 |[.ptr id 0]=>.look id λo=>match o with
  |some (.ak [.ptr d 0,rt,.af .u64 16 fr,.af .u64 16 fs,.af .u64 16 gn] _)=>(Ds.mAs [.ptr d 0]).bind λ((th,m,fu),σ)=>match rt.cD with
   |some (_,_,aa)=>.ret ((th,m,fu,aa,fr,fs,gn),id::σ)|none=>.fail ""
  |_=>.fail ""
 |_=>.fail ""
def apr:AV->Option (Bool×List En×List Br)
 |.agg [l,.s (.ro (.ah [.str,.str] es)),.s (.ro (.ah [.str,.int .i64] bs))]=>match l.iA with
  |some (_,b)=>some (b,es,bs)|none=>none
 |_=>none
def mTN:List AV->RM ((XT×Bool×List En×List Br)×List Nat)
 |[t,x]=>(mT [t]).bind λ(X,σ)=>match apr x with
  |some (l,es,bs)=>.ret ((X,l,es,bs),σ)|none=>.fail ""
 |_=>.fail ""
abbrev arv(s:Nat->List AV->RM bP):=abb 1 (pf 1 [(1,.ah cE []),(2,.ah cB [])] s)
abbrev atZ:=arv (cu awK mTN)
abbrev ayP:=bM [er] [er,er,bk] (λ((_,es,bs,()),())=>[aY es,aV bs]) (λ((l,es,bs,()),())=>((ct l es bs,bz l es bs,bA l es bs,()),(ct l es bs,eH l es bs,eI l es bs,()),u4 l es bs,()))
def arw:aF:=[(86,ars),(87,aq9),(88,atZ),(89,ayP)]
abbrev mr(l:Bool)(es:List En)(bs:List Br):Prop:=(l=true->bs=[])/\(l=false->es=[])
abbrev sWs:Spec (XT×Bool×List En×List Br):=⟨λ(_,l,es,bs)=>[.ptr 0 0,sS l es bs],λ((th,m,fu,aa,fr,fs,gn),_)=>hT th m fu aa fr fs gn,
 λ((th,m,fu,_,fr,_,_),l,es,bs)=>[Ds.cf th m fu,Bx.okW fr,mr l es bs,aY es,aV bs],
 λ((th,m,fu,aa,fr,fs,gn),l,es,bs)=>hT th (bG th m fu fr fs l es bs).1 (bG th m fu fr fs l es bs).2.1 aa (bG th m fu fr fs l es bs).2.2.1 (bG th m fu fr fs l es bs).2.2.2.1 gn++[.vec (.ah cB (bG th m fu fr fs l es bs).2.2.2.2.1) Lf.eB],
 λ((th,m,fu,_,fr,fs,_),l,es,bs)=>.bd [.vec 4,az (bG th m fu fr fs l es bs).2.2.2.2.2]⟩
theorem ayQ(th:Th)(m:As)(fu aa:Int)(fr fs gn:Ws)(l:Bool)(es:List En)(bs:List Br):run P arw.sum f63 [] (start f63 [.ptr 0 0,sS l es bs] (hT th m fu aa fr fs gn))=
 Tree.ab (aw ((↑es.length:Int)+(↑bs.length:Int)))
 (.ite ((↑es.length:Int)+(↑bs.length:Int)==0) (.ret (hT th m fu aa fr fs gn++[.ak [.s (.bool l),.s (.ro (.ah cE es)),.s (.ro (.ah cB bs))] 99]) (.bd [.emp,.s (.aO .i64 0)]))
   (.ab (bs.length<=1000)
     (.ab (aY es)
       (.ab (aV (ae bs))
         (.ite (decide (bw es (ae bs)<=254)) (.ab (bD (some [AV.ptr 0 0,.agg [.s (.bool l),.s (.ro (.ah cE es)),.s (.ro (.ah cB (ae bs)))]])) (.ab (bD (some (hT th m fu aa fr fs gn))) (.ab (Ds.cf th m fu) (.ab (Bx.okW fr) (.ab ((l=true->(0:Nat)<es.length)/\(l=false->(0:Nat)<(ae bs).length)) (.ab (aY es) (.ab (aV (ae bs)) (.ret (hT th (b8 th m fu fr fs l es (ae bs)).fst (b8 th m fu fr fs l es (ae bs)).snd.fst aa (b8 th m fu fr fs l es (ae bs)).snd.snd.fst (b8 th m fu fr fs l es (ae bs)).snd.snd.snd.fst gn++[.ak [.s (.bool l),.s (.ro (.ah cE es)),.s (.ro (.ah cB (ae bs)))] 99,.ak [.s (.str (b8 th m fu fr fs l es (ae bs)).snd.snd.snd.snd.fst.fst),az ((b8 th m fu fr fs l es (ae bs)).snd.snd.snd.snd.fst.snd.fst)] 105,.vec (.ah cB [((b8 th m fu fr fs l es (ae bs)).snd.snd.snd.snd.fst.fst,(b8 th m fu fr fs l es (ae bs)).snd.snd.snd.snd.fst.snd.fst,())]) 105]) (.bd [.vec 6,az ((b8 th m fu fr fs l es (ae bs)).snd.snd.snd.snd.snd)])))))))))
           (.ab (aY es)
             (.ab (aV (ae bs))
               (.ite (u4 l es (ae bs) !=0) (.ret (hT th m fu aa fr fs gn++[.ak [.s (.bool l),.s (.ro (.ah cE es)),.s (.ro (.ah cB (ae bs)))] 99,.vec (.ah cE (bz l es (ae bs))) 66,.vec (.ah cB (bA l es (ae bs))) 105,.vec (.ah cE (eH l es (ae bs))) 66,.vec (.ah cB (eI l es (ae bs))) 105,.ak [.s (.bool (ct l es (ae bs))),.vec 5,.vec 6] 99,.ak [.s (.bool (ct l es (ae bs))),.vec 7,.vec 8] 99]) (.bd [.emp,az (u4 l es (ae bs))]))
                 (.ab (bD (some [AV.ptr 0 0,.agg [.s (.bool (ct l es (ae bs))),.s (.ro (.ah cE (bz l es (ae bs)))),.s (.ro (.ah cB (bA l es (ae bs))))]]))
                   (.ab (bD (some (hT th m fu aa fr fs gn)))
                     (.ab (Ds.cf th m fu)
                       (.ab (Bx.okW fr)
                         (.ab ((ct l es (ae bs)=true->(0:Nat)<(bz l es (ae bs)).length)/\(ct l es (ae bs)=false->(0:Nat)<(bA l es (ae bs)).length))
                           (.ab (aY (bz l es (ae bs)))
                             (.ab (aV (bA l es (ae bs)))
                               (.ite ((b8 th m fu fr fs (ct l es (ae bs)) (bz l es (ae bs)) (bA l es (ae bs))).snd.snd.snd.snd.snd !=0) (.ret (hT th (b8 th m fu fr fs (ct l es (ae bs)) (bz l es (ae bs)) (bA l es (ae bs))).fst (b8 th m fu fr fs (ct l es (ae bs)) (bz l es (ae bs)) (bA l es (ae bs))).snd.fst aa (b8 th m fu fr fs (ct l es (ae bs)) (bz l es (ae bs)) (bA l es (ae bs))).snd.snd.fst (b8 th m fu fr fs (ct l es (ae bs)) (bz l es (ae bs)) (bA l es (ae bs))).snd.snd.snd.fst gn++[.ak [.s (.bool l),.s (.ro (.ah cE es)),.s (.ro (.ah cB (ae bs)))] 99,.aH,.aH,.vec (.ah cE (eH l es (ae bs))) 66,.vec (.ah cB (eI l es (ae bs))) 105,.ak [.s (.bool (ct l es (ae bs))),.vec 5,.vec 6] 99,.ak [.s (.bool (ct l es (ae bs))),.vec 7,.vec 8] 99,.ak [.s (.str (b8 th m fu fr fs (ct l es (ae bs)) (bz l es (ae bs)) (bA l es (ae bs))).snd.snd.snd.snd.fst.fst),az ((b8 th m fu fr fs (ct l es (ae bs)) (bz l es (ae bs)) (bA l es (ae bs))).snd.snd.snd.snd.fst.snd.fst)] 105]) (.bd [.emp,az ((b8 th m fu fr fs (ct l es (ae bs)) (bz l es (ae bs)) (bA l es (ae bs))).snd.snd.snd.snd.snd)]))
                                 (.ab (bD (some [AV.ptr 0 0,.agg [.s (.bool (ct l es (ae bs))),.s (.ro (.ah cE (eH l es (ae bs)))),.s (.ro (.ah cB (eI l es (ae bs))))]]))
                                   (.ab (bD (some (hT th (b8 th m fu fr fs (ct l es (ae bs)) (bz l es (ae bs)) (bA l es (ae bs))).fst (b8 th m fu fr fs (ct l es (ae bs)) (bz l es (ae bs)) (bA l es (ae bs))).snd.fst aa (b8 th m fu fr fs (ct l es (ae bs)) (bz l es (ae bs)) (bA l es (ae bs))).snd.snd.fst (b8 th m fu fr fs (ct l es (ae bs)) (bz l es (ae bs)) (bA l es (ae bs))).snd.snd.snd.fst gn)))
                                     (.ab (Ds.cf th (b8 th m fu fr fs (ct l es (ae bs)) (bz l es (ae bs)) (bA l es (ae bs))).fst (b8 th m fu fr fs (ct l es (ae bs)) (bz l es (ae bs)) (bA l es (ae bs))).snd.fst)
                                       (.ab (Bx.okW (b8 th m fu fr fs (ct l es (ae bs)) (bz l es (ae bs)) (bA l es (ae bs))).snd.snd.fst)
                                         (.ab ((ct l es (ae bs)=true->(0:Nat)<(eH l es (ae bs)).length)/\(ct l es (ae bs)=false->(0:Nat)<(eI l es (ae bs)).length))
                                           (.ab (aY (eH l es (ae bs)))
                                             (.ab (aV (eI l es (ae bs)))
                                               (.ret
                                                 (hT th (b8 th (b8 th m fu fr fs (ct l es (ae bs)) (bz l es (ae bs)) (bA l es (ae bs))).fst (b8 th m fu fr fs (ct l es (ae bs)) (bz l es (ae bs)) (bA l es (ae bs))).snd.fst (b8 th m fu fr fs (ct l es (ae bs)) (bz l es (ae bs)) (bA l es (ae bs))).snd.snd.fst (b8 th m fu fr fs (ct l es (ae bs)) (bz l es (ae bs)) (bA l es (ae bs))).snd.snd.snd.fst (ct l es (ae bs)) (eH l es (ae bs)) (eI l es (ae bs))).fst (b8 th (b8 th m fu fr fs (ct l es (ae bs)) (bz l es (ae bs)) (bA l es (ae bs))).fst (b8 th m fu fr fs (ct l es (ae bs)) (bz l es (ae bs)) (bA l es (ae bs))).snd.fst (b8 th m fu fr fs (ct l es (ae bs)) (bz l es (ae bs)) (bA l es (ae bs))).snd.snd.fst (b8 th m fu fr fs (ct l es (ae bs)) (bz l es (ae bs)) (bA l es (ae bs))).snd.snd.snd.fst (ct l es (ae bs)) (eH l es (ae bs)) (eI l es (ae bs))).snd.fst aa (b8 th (b8 th m fu fr fs (ct l es (ae bs)) (bz l es (ae bs)) (bA l es (ae bs))).fst (b8 th m fu fr fs (ct l es (ae bs)) (bz l es (ae bs)) (bA l es (ae bs))).snd.fst (b8 th m fu fr fs (ct l es (ae bs)) (bz l es (ae bs)) (bA l es (ae bs))).snd.snd.fst (b8 th m fu fr fs (ct l es (ae bs)) (bz l es (ae bs)) (bA l es (ae bs))).snd.snd.snd.fst (ct l es (ae bs)) (eH l es (ae bs)) (eI l es (ae bs))).snd.snd.fst (b8 th (b8 th m fu fr fs (ct l es (ae bs)) (bz l es (ae bs)) (bA l es (ae bs))).fst (b8 th m fu fr fs (ct l es (ae bs)) (bz l es (ae bs)) (bA l es (ae bs))).snd.fst (b8 th m fu fr fs (ct l es (ae bs)) (bz l es (ae bs)) (bA l es (ae bs))).snd.snd.fst (b8 th m fu fr fs (ct l es (ae bs)) (bz l es (ae bs)) (bA l es (ae bs))).snd.snd.snd.fst (ct l es (ae bs)) (eH l es (ae bs)) (eI l es (ae bs))).snd.snd.snd.fst gn++
                                                   [.ak [.s (.bool l),.s (.ro (.ah cE es)),.s (.ro (.ah cB (ae bs)))] 99,.aH,.aH,.aH,.aH,.ak [.s (.bool (ct l es (ae bs))),.vec 5,.vec 6] 99,.ak [.s (.bool (ct l es (ae bs))),.vec 7,.vec 8] 99,.ak [.s (.str (b8 th m fu fr fs (ct l es (ae bs)) (bz l es (ae bs)) (bA l es (ae bs))).snd.snd.snd.snd.fst.fst),az ((b8 th m fu fr fs (ct l es (ae bs)) (bz l es (ae bs)) (bA l es (ae bs))).snd.snd.snd.snd.fst.snd.fst)] 105,.ak [.s (.str (b8 th (b8 th m fu fr fs (ct l es (ae bs)) (bz l es (ae bs)) (bA l es (ae bs))).fst (b8 th m fu fr fs (ct l es (ae bs)) (bz l es (ae bs)) (bA l es (ae bs))).snd.fst (b8 th m fu fr fs (ct l es (ae bs)) (bz l es (ae bs)) (bA l es (ae bs))).snd.snd.fst (b8 th m fu fr fs (ct l es (ae bs)) (bz l es (ae bs)) (bA l es (ae bs))).snd.snd.snd.fst (ct l es (ae bs)) (eH l es (ae bs)) (eI l es (ae bs))).snd.snd.snd.snd.fst.fst),az ((b8 th (b8 th m fu fr fs (ct l es (ae bs)) (bz l es (ae bs)) (bA l es (ae bs))).fst (b8 th m fu fr fs (ct l es (ae bs)) (bz l es (ae bs)) (bA l es (ae bs))).snd.fst (b8 th m fu fr fs (ct l es (ae bs)) (bz l es (ae bs)) (bA l es (ae bs))).snd.snd.fst (b8 th m fu fr fs (ct l es (ae bs)) (bz l es (ae bs)) (bA l es (ae bs))).snd.snd.snd.fst (ct l es (ae bs)) (eH l es (ae bs)) (eI l es (ae bs))).snd.snd.snd.snd.fst.snd.fst)] 105,.vec (.ah cB [((b8 th m fu fr fs (ct l es (ae bs)) (bz l es (ae bs)) (bA l es (ae bs))).snd.snd.snd.snd.fst.fst,(b8 th m fu fr fs (ct l es (ae bs)) (bz l es (ae bs)) (bA l es (ae bs))).snd.snd.snd.snd.fst.snd.fst,()),((b8 th (b8 th m fu fr fs (ct l es (ae bs)) (bz l es (ae bs)) (bA l es (ae bs))).fst (b8 th m fu fr fs (ct l es (ae bs)) (bz l es (ae bs)) (bA l es (ae bs))).snd.fst (b8 th m fu fr fs (ct l es (ae bs)) (bz l es (ae bs)) (bA l es (ae bs))).snd.snd.fst (b8 th m fu fr fs (ct l es (ae bs)) (bz l es (ae bs)) (bA l es (ae bs))).snd.snd.snd.fst (ct l es (ae bs)) (eH l es (ae bs)) (eI l es (ae bs))).snd.snd.snd.snd.fst.fst,(b8 th (b8 th m fu fr fs (ct l es (ae bs)) (bz l es (ae bs)) (bA l es (ae bs))).fst (b8 th m fu fr fs (ct l es (ae bs)) (bz l es (ae bs)) (bA l es (ae bs))).snd.fst (b8 th m fu fr fs (ct l es (ae bs)) (bz l es (ae bs)) (bA l es (ae bs))).snd.snd.fst (b8 th m fu fr fs (ct l es (ae bs)) (bz l es (ae bs)) (bA l es (ae bs))).snd.snd.snd.fst (ct l es (ae bs)) (eH l es (ae bs)) (eI l es (ae bs))).snd.snd.snd.snd.fst.snd.fst,())]) 105])
                                                 (.bd [.vec 13,az ((b8 th (b8 th m fu fr fs (ct l es (ae bs)) (bz l es (ae bs)) (bA l es (ae bs))).fst (b8 th m fu fr fs (ct l es (ae bs)) (bz l es (ae bs)) (bA l es (ae bs))).snd.fst (b8 th m fu fr fs (ct l es (ae bs)) (bz l es (ae bs)) (bA l es (ae bs))).snd.snd.fst (b8 th m fu fr fs (ct l es (ae bs)) (bz l es (ae bs)) (bA l es (ae bs))).snd.snd.snd.fst (ct l es (ae bs)) (eH l es (ae bs)) (eI l es (ae bs))).snd.snd.snd.snd.snd)]))))))))))))))))))))))))):=by kernel_rfl
theorem xm{th:Th}{m:As}{fu:Int}{fr fs:Ws}{l:Bool}{es:List En}{bs:List Br}(hd:Ds.cf th m fu)(hf:Bx.okW fr):Ds.cf th (b8 th m fu fr fs l es bs).1 (b8 th m fu fr fs l es bs).2.1/\Bx.okW (b8 th m fu fr fs l es bs).2.2.1:=by
 have gd:=Ds.av6 (n:=Bx.bN fr 0) (s:=bO l es (ae bs)) hd;unfold b8;split;exact⟨hd,hf⟩;split;exact⟨hd,hf⟩;split;exact⟨gd,hf⟩;exact⟨gd,(Bx.oE hf _).1⟩
theorem zp(bs:List Br):(ae bs).length=bs.length:=by cases bs<;>rfl
theorem ag6{l:Bool}{es:List En}{bs:List Br}(ok:fc l es bs=true):(ct l es bs=true->0<(bz l es bs).length/\0<(eH l es bs).length)/\(ct l es bs=false->0<(bA l es bs).length/\0<(eI l es bs).length):=by
 have ok':=ok;simp only[fc,and_eq_true,decide_eq_true_eq]at ok';have⟨hm,h2⟩:=ok';have⟨m1,m2,_,_⟩:=dD hm;have b1:=ac0 (aQ es bs) (es.length+bs.length - 1) (by omega);have b2:=rI (aQ es bs) (es.length+bs.length - 1);have c:0<e9 es bs/\e9 es bs<=es.length+bs.length - 1:=⟨b1,b2⟩;simp only[ct,bz,eH,bA,eI,ok,if_true,Bool.true_and,length_take,length_drop];refine⟨λe=> ?_,λe=> ?_⟩;have:=m1 e;subst this;simp only[length_nil]at *;omega;have:=m2 e;subst this;simp only[length_nil]at *;omega
theorem amc:arw.Ok P Bx.cw:=aF.Ok.cons ag1.gH (aF.Ok.cons agC.sum (aF.Ok.cons (fy (dC (wN.sum mTN) 1 _) 1) (aF.Ok.cons als.sum aF.Ok.nil)))
theorem j6:fD P Bx.cw 63 sWs:=by
 refine dj func63 (by kernel_rfl) (λx=>le_of_ble_eq_true (by kernel_rfl)) ?_;rintro⟨⟨th,m,fu,aa,fr,fs,gn⟩,l,es,bs⟩ ⟨(hd:Ds.cf th m fu),(hf:Bx.okW fr),⟨(hl1:l=true->bs=[]),(yE:l=false->es=[])⟩,(he:aY es),(hb:aV bs),_⟩ X hX hz;have fin:∀{w:Wrs},bG th m fu fr fs l es bs=w->hT th (bG th m fu fr fs l es bs).1 (bG th m fu fr fs l es bs).2.1 aa (bG th m fu fr fs l es bs).2.2.1 (bG th m fu fr fs l es bs).2.2.2.1 gn++[.vec (.ah cB (bG th m fu fr fs l es bs).2.2.2.2.1) Lf.eB]=hT th w.1 w.2.1 aa w.2.2.1 w.2.2.2.1 gn++[.vec (.ah cB w.2.2.2.2.1) Lf.eB]/\
  AV.bd [.vec 4,az (bG th m fu fr fs l es bs).2.2.2.2.2]=.bd [.vec 4,az w.2.2.2.2.2]:=λe=>by rw[e];exact⟨rfl,rfl⟩
 have hbb:=lg hb;refine Ds.cA hz hX (by intro y hy;cases hy) amc func63 (ayQ th m fu aa fr fs gn l es bs) ⟨?_,λh=> ?_,λh=>⟨hb.1,he,hbb,λh2=>⟨rfl,rfl,hd,hf, ?_,he,hbb, ?_⟩,λh2=>⟨he,hbb,λh3=> ?_,λh3=> ?_⟩⟩⟩;have:=he.1;have:=hb.1;exact⟨by omega,by omega⟩;have h:(es.length:Int)+bs.length=0:=by simpa using h
 have⟨f1,f2⟩:=fin (w:=(m,fu,fr,fs,[],0)) (by unfold bG;rw[if_pos (by omega)]);exact fm ⟨[(0,.ah cB [],Lf.eB)],[0,1],4,[]⟩ rfl (le_refl _) (jQ.same _) f2 f1;have h:¬((es.length:Int)+bs.length=0):=by simpa using h
 rw[zp];refine⟨λe=>Nat.pos_of_ne_zero λh0=>h ?_,λe=>Nat.pos_of_ne_zero λh0=>h ?_⟩;rw[hl1 e,h0];rfl;rw[yE e,h0];rfl;have h:¬((es.length:Int)+bs.length=0):=by simpa using h
 have h2:=of_decide_eq_true h2;have⟨f1,f2⟩:=fin (w:=((b8 th m fu fr fs l es (ae bs)).1,(b8 th m fu fr fs l es (ae bs)).2.1,(b8 th m fu fr fs l es (ae bs)).2.2.1,(b8 th m fu fr fs l es (ae bs)).2.2.2.1,[(b8 th m fu fr fs l es (ae bs)).2.2.2.2.1],(b8 th m fu fr fs l es (ae bs)).2.2.2.2.2)) (by unfold bG;rw[if_neg (by omega),if_pos h2]);exact fm ⟨[],[0,1],4,[]⟩ rfl (le_refl _) (jQ.same _) f2 f1;have h:¬((es.length:Int)+bs.length=0):=by simpa using h
 have h2:=of_decide_eq_false h2;have h3:u4 l es (ae bs)≠0:=by simpa using h3
 have⟨f1,f2⟩:=fin (w:=(m,fu,fr,fs,[],u4 l es (ae bs))) (by unfold bG;rw[if_neg (by omega),if_neg h2,if_pos h3]);exact fm ⟨[(0,.ah cB [],Lf.eB)],[0,1],4,[]⟩ rfl (le_refl _) (jQ.same _) f2 f1;have h:¬((es.length:Int)+bs.length=0):=by simpa using h
 have h2:=of_decide_eq_false h2;have h3:u4 l es (ae bs)=0:=by simpa using h3
 have ok:=al7 (l:=l) (es:=es) (bs:=ae bs) (by rw[h3];rfl);have⟨q1,q2,q3,q4,_,_,_,q5,q6,_,_⟩:=zn ok he hbb
 have hmn:ch l es (ae bs)=true:=by
  simp only[fc,and_eq_true]at ok;exact ok.1
 have hsp:ct l es (ae bs)=l:=by unfold ct;rw[ok,Bool.true_and]
 have⟨p1,p2⟩:=ag6 ok;have n1:(ct l es (ae bs)=true->0<(bz l es (ae bs)).length)/\(ct l es (ae bs)=false->0<(bA l es (ae bs)).length):=⟨λe=>(p1 e).1,λe=>(p2 e).1⟩;have n2:(ct l es (ae bs)=true->0<(eH l es (ae bs)).length)/\(ct l es (ae bs)=false->0<(eI l es (ae bs)).length):=⟨λe=>(p1 e).2,λe=>(p2 e).2⟩;have⟨w1,w2⟩:=xm (fs:=fs) (l:=ct l es (ae bs)) (es:=bz l es (ae bs)) (bs:=bA l es (ae bs)) hd hf;refine⟨rfl,rfl,hd,hf,n1,q1,q2,λh4=> ?_,λh4=>⟨rfl,rfl,w1,w2,n2,q3,q4, ?_⟩⟩;have h4:(b8 th m fu fr fs (ct l es (ae bs)) (bz l es (ae bs)) (bA l es (ae bs))).2.2.2.2.2≠0:=by simpa using h4
 have⟨f1,f2⟩:=fin (w:=((b8 th m fu fr fs (ct l es (ae bs)) (bz l es (ae bs)) (bA l es (ae bs))).1,(b8 th m fu fr fs (ct l es (ae bs)) (bz l es (ae bs)) (bA l es (ae bs))).2.1,(b8 th m fu fr fs (ct l es (ae bs)) (bz l es (ae bs)) (bA l es (ae bs))).2.2.1,(b8 th m fu fr fs (ct l es (ae bs)) (bz l es (ae bs)) (bA l es (ae bs))).2.2.2.1,[],(b8 th m fu fr fs (ct l es (ae bs)) (bz l es (ae bs)) (bA l es (ae bs))).2.2.2.2.2)) (by unfold bG;rw[if_neg (by omega),if_neg h2,if_neg (by rw[h3];simp),if_pos h4]);exact fm ⟨[(0,.ah cB [],Lf.eB)],[0,1],4,[]⟩ rfl (le_refl _) (jQ.same _) f2 f1;have h4:¬(b8 th m fu fr fs (ct l es (ae bs)) (bz l es (ae bs)) (bA l es (ae bs))).2.2.2.2.2≠0:=by simpa using h4
 have⟨f1,f2⟩:=fin (w:=two (b8 th m fu fr fs (ct l es (ae bs)) (bz l es (ae bs)) (bA l es (ae bs))) (b8 th (b8 th m fu fr fs (ct l es (ae bs)) (bz l es (ae bs)) (bA l es (ae bs))).1 (b8 th m fu fr fs (ct l es (ae bs)) (bz l es (ae bs)) (bA l es (ae bs))).2.1 (b8 th m fu fr fs (ct l es (ae bs)) (bz l es (ae bs)) (bA l es (ae bs))).2.2.1 (b8 th m fu fr fs (ct l es (ae bs)) (bz l es (ae bs)) (bA l es (ae bs))).2.2.2.1 (ct l es (ae bs)) (eH l es (ae bs)) (eI l es (ae bs)))) (by unfold bG;rw[if_neg (by omega),if_neg h2,if_neg (by rw[h3];simp),if_neg h4]);exact fm ⟨[],[0,1],4,[]⟩ rfl (le_refl _) (jQ.same _) f2 f1
abbrev XC:Type:=XT×Int×Int×ByteArray×ByteArray
abbrev fP1:FuncId:=39
abbrev fD1:FuncId:=42
abbrev uA(s:ByteArray):au:=.ak [.s (.str s)] 9
abbrev kz(th:Th)(m:As)(fu aa:Int)(fr fs gn:Ws)(key val:ByteArray):List au:=hT th m fu aa fr fs gn++[uA key,uA val]
abbrev jm(th:Th)(m:As)(fu aa:Int)(fr fs gn:Ws)(key:ByteArray):List au:=hT th m fu aa fr fs gn++[uA key]
def arx(f:Nat)(th:Th)(m:As)(fu:Int)(fr:Ws)(n ad:Int)(key val:ByteArray):List Prop:=[Ds.cf th m fu,Bx.okW fr,0<=n/\n<=65536,1<=ad/\ad<=17,18<=ad+(f:Int),1<=key.size/\key.size<=24,val.size<=100]
def yi(th:Th)(key:ByteArray)(op:Option ByteArray)(f:Nat)(m:As)(fu:Int)(fr fs gn:Ws)(n ad:Int):As:=(vd th key op f m fu fr fs gn n ad).1
def yj(th:Th)(key:ByteArray)(op:Option ByteArray)(f:Nat)(m:As)(fu:Int)(fr fs gn:Ws)(n ad:Int):Int:=(vd th key op f m fu fr fs gn n ad).2.1
def yk(th:Th)(key:ByteArray)(op:Option ByteArray)(f:Nat)(m:As)(fu:Int)(fr fs gn:Ws)(n ad:Int):Ws:=(vd th key op f m fu fr fs gn n ad).2.2.1
def abc(th:Th)(key:ByteArray)(op:Option ByteArray)(f:Nat)(m:As)(fu:Int)(fr fs gn:Ws)(n ad:Int):Ws:=(vd th key op f m fu fr fs gn n ad).2.2.2.1
def adj(th:Th)(key:ByteArray)(op:Option ByteArray)(f:Nat)(m:As)(fu:Int)(fr fs gn:Ws)(n ad:Int):Ws:=(vd th key op f m fu fr fs gn n ad).2.2.2.2.1
def abd(th:Th)(key:ByteArray)(op:Option ByteArray)(f:Nat)(m:As)(fu:Int)(fr fs gn:Ws)(n ad:Int):List Br:=(vd th key op f m fu fr fs gn n ad).2.2.2.2.2.1
def adk(th:Th)(key:ByteArray)(op:Option ByteArray)(f:Nat)(m:As)(fu:Int)(fr fs gn:Ws)(n ad:Int):Int:=(vd th key op f m fu fr fs gn n ad).2.2.2.2.2.2
abbrev yl(f:Nat):Spec XC:=⟨λ(_,n,ad,key,_)=>[.ptr 0 0,az n,az ad,.s (.str key),.fn fP1 [.ptr 4 0,.ptr 5 0]],λ((th,m,fu,aa,fr,fs,gn),_,_,key,val)=>kz th m fu aa fr fs gn key val,
 λ((th,m,fu,_,fr,_,_),n,ad,key,val)=>arx f th m fu fr n ad key val,
 λ((th,m,fu,aa,fr,fs,gn),n,ad,key,val)=>kz th (yi th key (some val) f m fu fr fs gn n ad) (yj th key (some val) f m fu fr fs gn n ad) aa (yk th key (some val) f m fu fr fs gn n ad) (abc th key (some val) f m fu fr fs gn n ad) (adj th key (some val) f m fu fr fs gn n ad) key val++[.vec (.ah cB (abd th key (some val) f m fu fr fs gn n ad)) Lf.eB],
 λ((th,m,fu,_,fr,fs,gn),n,ad,key,val)=>.bd [.vec 6,az (adk th key (some val) f m fu fr fs gn n ad)]⟩
abbrev ym(f:Nat):Spec XC:=⟨λ(_,n,ad,key,_)=>[.ptr 0 0,az n,az ad,.s (.str key),.fn fD1 [.ptr 4 0]],λ((th,m,fu,aa,fr,fs,gn),_,_,key,_)=>jm th m fu aa fr fs gn key,
 λ((th,m,fu,_,fr,_,_),n,ad,key,val)=>arx f th m fu fr n ad key val,
 λ((th,m,fu,aa,fr,fs,gn),n,ad,key,_)=>jm th (yi th key none f m fu fr fs gn n ad) (yj th key none f m fu fr fs gn n ad) aa (yk th key none f m fu fr fs gn n ad) (abc th key none f m fu fr fs gn n ad) (adj th key none f m fu fr fs gn n ad) key++[.vec (.ah cB (abd th key none f m fu fr fs gn n ad)) Lf.eB],
 λ((th,m,fu,_,fr,fs,gn),n,ad,key,_)=>.bd [.vec 5,az (adk th key none f m fu fr fs gn n ad)]⟩
def amd(i:Nat):(ByteArray->RM (XC×List Nat))->RM (XC×List Nat):=λk=>.look i λo=>match o with
 |some (.ak [.s (.str s)] _)=>k s|_=>.fail ""
def aps:List AV->RM (XC×List Nat)
 |[t,n,d,.s (.str _),.fn _ [.ptr i 0,.ptr j 0]]=>(mT [t]).bind λ(X,σ)=>match n.cD,d.cD with
  |some (_,_,n),some (_,_,d)=>amd i λkey=>amd j λval=>.ret ((X,n,d,key,val),σ++[i,j])|_,_=>.fail ""
 |_=>.fail ""
def apt:List AV->RM (XC×List Nat)
 |[t,n,d,.s (.str _),.fn _ [.ptr i 0]]=>(mT [t]).bind λ(X,σ)=>match n.cD,d.cD with
  |some (_,_,n),some (_,_,d)=>amd i λkey=>.ret ((X,n,d,key,empty),σ++[i])|_,_=>.fail ""
 |_=>.fail ""
def mNo:List AV->RM ((XT×Int×Int)×List Nat)
 |[t,n,d]=>(mT [t]).bind λ(X,σ)=>match n.cD,d.cD with
  |some (_,_,n),some (_,_,d)=>.ret ((X,n,d),σ)|_,_=>.fail ""
 |_=>.fail ""
def mLv:List AV->RM ((XT×Int)×List Nat)
 |[t,n]=>(mT [t]).bind λ(X,σ)=>match n.cD with
  |some (_,_,n)=>.ret ((X,n),σ)|_=>.fail ""
 |_=>.fail ""
abbrev zq:=cu sNo mNo
abbrev ame:=cu sLv mLv
abbrev zr:=arv (cu sWs mTN)
abbrev ary:=gH [rC,cv,cv] [rC] (λ(l,_,_,())=>[(l:List En).length<=100000,jj (b9 l)]) (λ(l,key,val,())=>(eO l key val,()))
abbrev arz:=bM [rC,cv] [rC,bL] (λ(l,_,())=>[(l:List En).length<=100000,jj (b9 l)]) (λ(l,key,())=>(dg l key,gI l key,()))
abbrev at0:=bM [yd,cv] [bk] (λ(l,_,())=>[(l:List Br).length<=1000000,jj (mg l)]) (λ(l,key,())=>(aI l key,()))
def pP(f:Nat):aF:=[(44,zq),(90,ame),(63,zr),(40,ary),(46,at0),(113,sJ),(85,cu (yl f) aps)]
def pQ(f:Nat):aF:=[(44,zq),(90,ame),(63,zr),(43,arz),(46,at0),(113,sJ),(85,cu (ym f) apt)]
abbrev eN:TypeId:=99
def afz:List (Nat×Norm):=[(5,⟨[],[0,1,4,12],6,[]⟩),(10,⟨[],[0,1,2,3,4,12],6,[]⟩),(14,⟨[],[0,1,12,13,14,15],6,[]⟩),(18,⟨[],[0,1,12,14,15],6,[]⟩)]
def awL(th:Th)(m:As)(fu aa:Int)(fr fs gn:Ws)(n:Int)(key val:ByteArray)(es:List En)(bs:List Br):bQ:=
 ⟨sl 106 [(0,.ptr 0 0),(1,az n),(4,.fn fP1 [.ptr 4 0,.ptr 5 0]),(12,.ptr 6 0)],kz th m fu aa fr fs gn key val++[rD true es bs eN],hr f85 5,{}⟩
def amf(th:Th)(m:As)(fu aa:Int)(fr fs gn:Ws)(n ad:Int)(key val:ByteArray)(l:Bool)(es:List En)(bs:List Br):bQ:=
 ⟨sl 106 [(0,.ptr 0 0),(1,az n),(2,az ad),(3,.s (.str key)),(4,.fn fP1 [.ptr 4 0,.ptr 5 0]),(12,.ptr 6 0)],kz th m fu aa fr fs gn key val++[rD l es bs eN],hr f85 10,{}⟩
def amg(th:Th)(m:As)(fu aa:Int)(fr fs gn:Ws)(n:Int)(key val:ByteArray)(l:Bool)(es:List En)(bs:List Br)(k e:Int)(r:List Br):bQ:=
 ⟨sl 106 [(0,.ptr 0 0),(1,az n),(12,.ptr 6 0),(13,az e),(14,az k),(15,.vec 7)],kz th m fu aa fr fs gn key val++[rD l es bs eN,.vec (.ah cB r) Lf.eB],hr f85 14,{}⟩
def ag7(th:Th)(m:As)(fu aa:Int)(fr fs gn:Ws)(n:Int)(key val:ByteArray)(l:Bool)(es:List En)(bs:List Br)(k:Int)(r:List Br):bQ:=
 ⟨sl 106 [(0,.ptr 0 0),(1,az n),(12,.ptr 6 0),(14,az k),(15,.vec 7)],kz th m fu aa fr fs gn key val++[rD l es bs eN,.vec (.ah cB r) Lf.eB],hr f85 18,{}⟩
def afA:List (Nat×Norm):=[(5,⟨[],[0,1,4,12],5,[]⟩),(10,⟨[],[0,1,2,3,4,12],5,[]⟩),(14,⟨[],[0,1,12,13,14,15],5,[]⟩),(18,⟨[],[0,1,12,14,15],5,[]⟩)]
def awM(th:Th)(m:As)(fu aa:Int)(fr fs gn:Ws)(n:Int)(key:ByteArray)(es:List En)(bs:List Br):bQ:=
 ⟨sl 106 [(0,.ptr 0 0),(1,az n),(4,.fn fD1 [.ptr 4 0]),(12,.ptr 5 0)],jm th m fu aa fr fs gn key++[rD true es bs eN],hr f85 5,{}⟩
def amh(th:Th)(m:As)(fu aa:Int)(fr fs gn:Ws)(n ad:Int)(key:ByteArray)(l:Bool)(es:List En)(bs:List Br):bQ:=
 ⟨sl 106 [(0,.ptr 0 0),(1,az n),(2,az ad),(3,.s (.str key)),(4,.fn fD1 [.ptr 4 0]),(12,.ptr 5 0)],jm th m fu aa fr fs gn key++[rD l es bs eN],hr f85 10,{}⟩
def ami(th:Th)(m:As)(fu aa:Int)(fr fs gn:Ws)(n:Int)(key:ByteArray)(l:Bool)(es:List En)(bs:List Br)(k e:Int)(r:List Br):bQ:=
 ⟨sl 106 [(0,.ptr 0 0),(1,az n),(12,.ptr 5 0),(13,az e),(14,az k),(15,.vec 6)],jm th m fu aa fr fs gn key++[rD l es bs eN,.vec (.ah cB r) Lf.eB],hr f85 14,{}⟩
def ag8(th:Th)(m:As)(fu aa:Int)(fr fs gn:Ws)(n:Int)(key:ByteArray)(l:Bool)(es:List En)(bs:List Br)(k:Int)(r:List Br):bQ:=
 ⟨sl 106 [(0,.ptr 0 0),(1,az n),(12,.ptr 5 0),(14,az k),(15,.vec 6)],jm th m fu aa fr fs gn key++[rD l es bs eN,.vec (.ah cB r) Lf.eB],hr f85 18,{}⟩
theorem ayR(f:Nat)(th:Th)(m:As)(fu aa:Int)(fr fs gn:Ws)(n ad:Int)(key val:ByteArray):run P (pP f).sum f85 afz (start f85 [.ptr 0 0,az n,az ad,.s (.str key),.fn fP1 [.ptr 4 0,.ptr 5 0]] (kz th m fu aa fr fs gn key val)) (inl:=[fP1])=
 Tree.ab (bD (some [AV.ptr 0 0,az n,az ad])) (.ab (bD (some (hT th m fu aa fr fs gn))) (.ab (Ds.cf th m fu) (.ab (aw n) (.ite (fE th m n ad !=0) (.ret (kz th m fu aa fr fs gn key val++[.ak [.s (.bool (jF th m n ad)),.s (.ro (.ah cE (bY th m n ad))),.s (.ro (.ah cB (bc th m n ad)))] 99]) (.bd [.emp,az (fE th m n ad)])) (.ite (jF th m n ad) (.at (.mk (sl 106 [(0,.ptr 0 0),(1,az n),(4,.fn 39 [.ptr 4 0,.ptr 5 0]),(12,.ptr 6 0)]) (kz th m fu aa fr fs gn key val++[.ak [.s (.bool (jF th m n ad)),.s (.ro (.ah cE (bY th m n ad))),.s (.ro (.ah cB (bc th m n ad)))] 99]) (hr f85 5) (.mk none false 0 [] 0))) (.at (amf th m fu aa fr fs gn n ad key val (jF th m n ad) (bY th m n ad) (bc th m n ad)))))))):=by kernel_rfl
theorem awN(f:Nat)(th:Th)(m:As)(fu aa:Int)(fr fs gn:Ws)(n:Int)(key val:ByteArray)(es:List En)(bs:List Br):run P (pP f).sum f85 afz (awL th m fu aa fr fs gn n key val es bs) (inl:=[fP1])=
 Tree.ab (es.length<=100000) (.ab (jj (b9 es)) (.ab (bD (some [AV.ptr 0 0,az n])) (.ab (bD (some (hT th m fu aa fr fs gn))) (.ab (bD (some [AV.ptr 0 0,.agg [.s (.bool true),.s (.ro (.ah cE (eO es key val))),.s (.ro (.ah cB bs))]])) (.ab (bD (some (hT th m fu aa fr (j5 fs n) (r5 fs gn n)))) (.ab (Ds.cf th m fu) (.ab (Bx.okW fr) (.ab (mr true (eO es key val) bs) (.ab (aY (eO es key val)) (.ab (aV bs) (.ret (kz th (bG th m fu fr (j5 fs n) true (eO es key val) bs).fst (bG th m fu fr (j5 fs n) true (eO es key val) bs).snd.fst aa (bG th m fu fr (j5 fs n) true (eO es key val) bs).snd.snd.fst (bG th m fu fr (j5 fs n) true (eO es key val) bs).snd.snd.snd.fst (r5 fs gn n) key val++[.ak [.s (.bool true),.vec 7,.s (.ro (.ah cB bs))] 99,.aH,.vec (.ah cB (bG th m fu fr (j5 fs n) true (eO es key val) bs).snd.snd.snd.snd.fst) 105]) (.bd [.vec 8,az ((bG th m fu fr (j5 fs n) true (eO es key val) bs).snd.snd.snd.snd.snd)])))))))))))):=by kernel_rfl
theorem at2(f:Nat)(th:Th)(m:As)(fu aa:Int)(fr fs gn:Ws)(n ad:Int)(key val:ByteArray)(l:Bool)(es:List En)(bs:List Br):run P (pP f).sum f85 afz (amf th m fu aa fr fs gn n ad key val l es bs) (inl:=[fP1])=
 Tree.ite ((↑bs.length:Int)==0) (.ret (kz th m fu aa fr fs gn key val++[.ak [.s (.bool l),.s (.ro (.ah cE es)),.s (.ro (.ah cB bs))] 99]) (.bd [.emp,.s (.aO .i64 4)])) (.ab (bs.length<=1000000) (.ab (jj (mg bs)) (.ab ((0:Int)<=aI bs key) (.ab (aI bs key<bs.length) (.ab (aw (ad+1)) (.ab (bD (some [AV.ptr 0 0,az ((bs.getD (aI bs key).toNat (CL.d cB)).snd.fst),az (ad+1),.s (.str key),.fn 39 [.ptr 4 0,.ptr 5 0]])) (.ab (bD (some (kz th m fu aa fr fs gn key val))) (.ab (Ds.cf th m fu) (.ab (Bx.okW fr) (.ab ((0:Int)<=(bs.getD (aI bs key).toNat (CL.d cB)).snd.fst/\(bs.getD (aI bs key).toNat (CL.d cB)).snd.fst<=65536) (.ab ((1:Int)<=ad+1/\ad+1<=17) (.ab ((18:Int)<=ad+1+(↑f:Int)) (.ab ((1:Nat)<=key.size/\key.size<=24) (.ab (val.size<=100) (.at (amg th (yi th key (some val) f m fu fr fs gn (bs.getD (aI bs key).toNat (CL.d cB)).snd.fst (ad+1)) (yj th key (some val) f m fu fr fs gn (bs.getD (aI bs key).toNat (CL.d cB)).snd.fst (ad+1)) aa (yk th key (some val) f m fu fr fs gn (bs.getD (aI bs key).toNat (CL.d cB)).snd.fst (ad+1)) (abc th key (some val) f m fu fr fs gn (bs.getD (aI bs key).toNat (CL.d cB)).snd.fst (ad+1)) (adj th key (some val) f m fu fr fs gn (bs.getD (aI bs key).toNat (CL.d cB)).snd.fst (ad+1)) n key val l es bs (aI bs key) (adk th key (some val) f m fu fr fs gn (bs.getD (aI bs key).toNat (CL.d cB)).snd.fst (ad+1)) (abd th key (some val) f m fu fr fs gn (bs.getD (aI bs key).toNat (CL.d cB)).snd.fst (ad+1)))))))))))))))))):=by kernel_rfl
theorem at3(f:Nat)(th:Th)(m:As)(fu aa:Int)(fr fs gn:Ws)(n:Int)(key val:ByteArray)(l:Bool)(es:List En)(bs:List Br)(k e:Int)(r:List Br):run P (pP f).sum f85 afz (amg th m fu aa fr fs gn n key val l es bs k e r) (inl:=[fP1])=
 Tree.ite (e !=0) (.ret (kz th m fu aa fr fs gn key val++[.ak [.s (.bool l),.s (.ro (.ah cE es)),.s (.ro (.ah cB bs))] 99,.vec (.ah cB r) 105]) (.bd [.emp,az e])) (.ite (decide ((↑r.length:Int)>0)) (.ab ((0:Int)<=k) (.ab (k<bs.length) (.ab ((0:Int)<=0) (.ab ((0:Int)<(↑r.length:Int)) (.at (ag7 th m fu aa fr fs gn n key val l es bs k (r.set 0 ((bs.getD k.toNat (CL.d cB)).fst,(r.getD 0 (CL.d cB)).snd)))))))) (.at (ag7 th m fu aa fr fs gn n key val l es bs k r))):=by kernel_rfl
theorem at4(f:Nat)(th:Th)(m:As)(fu aa:Int)(fr fs gn:Ws)(n:Int)(key val:ByteArray)(l:Bool)(es:List En)(bs:List Br)(k:Int)(r:List Br):run P (pP f).sum f85 afz (ag7 th m fu aa fr fs gn n key val l es bs k r) (inl:=[fP1])=
 Tree.ab ((0:Int)<=0) (.ab ((0:Int)<=k) (.ab (k<=bs.length) (.ab (aw (k+1)) (.ab ((0:Int)<=k+1) (.ab (k+1<=(↑bs.length:Int)) (.ab ((↑bs.length:Int)<=(↑bs.length:Int)) (.ab ([(List.drop (Int.toNat 0) (List.take k.toNat bs),()),(r,()),(List.drop (k+1).toNat (List.take (↑bs.length:Int).toNat bs),())].length<=100) (.ab ((cC [(List.drop (Int.toNat 0) (List.take k.toNat bs),()),(r,()),(List.drop (k+1).toNat (List.take (↑bs.length:Int).toNat bs),())]).length<=100000) (.ab (bD (some [AV.ptr 0 0,az n])) (.ab (bD (some (hT th m fu aa fr fs gn))) (.ab (bD (some [AV.ptr 0 0,.agg [.s (.bool l),.s (.ro (.ah cE es)),.s (.ro (.ah cB (cC [(List.drop (Int.toNat 0) (List.take k.toNat bs),()),(r,()),(List.drop (k+1).toNat (List.take (↑bs.length:Int).toNat bs),())])))]])) (.ab (bD (some (hT th m fu aa fr (j5 fs n) (r5 fs gn n)))) (.ab (Ds.cf th m fu) (.ab (Bx.okW fr) (.ab (mr l es (cC [(List.drop (Int.toNat 0) (List.take k.toNat bs),()),(r,()),(List.drop (k+1).toNat (List.take (↑bs.length:Int).toNat bs),())])) (.ab (aY es) (.ab (aV (cC [(List.drop (Int.toNat 0) (List.take k.toNat bs),()),(r,()),(List.drop (k+1).toNat (List.take (↑bs.length:Int).toNat bs),())])) (.ret (kz th (bG th m fu fr (j5 fs n) l es (cC [(List.drop (Int.toNat 0) (List.take k.toNat bs),()),(r,()),(List.drop (k+1).toNat (List.take (↑bs.length:Int).toNat bs),())])).fst (bG th m fu fr (j5 fs n) l es (cC [(List.drop (Int.toNat 0) (List.take k.toNat bs),()),(r,()),(List.drop (k+1).toNat (List.take (↑bs.length:Int).toNat bs),())])).snd.fst aa (bG th m fu fr (j5 fs n) l es (cC [(List.drop (Int.toNat 0) (List.take k.toNat bs),()),(r,()),(List.drop (k+1).toNat (List.take (↑bs.length:Int).toNat bs),())])).snd.snd.fst (bG th m fu fr (j5 fs n) l es (cC [(List.drop (Int.toNat 0) (List.take k.toNat bs),()),(r,()),(List.drop (k+1).toNat (List.take (↑bs.length:Int).toNat bs),())])).snd.snd.snd.fst (r5 fs gn n) key val++[.ak [.s (.bool l),.s (.ro (.ah cE es)),.vec 9] 99,.aH,.vec (.ah cBs [(List.drop (Int.toNat 0) (List.take k.toNat bs),()),(r,()),(List.drop (k+1).toNat (List.take (↑bs.length:Int).toNat bs),())]) 97,.aH,.vec (.ah cB (bG th m fu fr (j5 fs n) l es (cC [(List.drop (Int.toNat 0) (List.take k.toNat bs),()),(r,()),(List.drop (k+1).toNat (List.take (↑bs.length:Int).toNat bs),())])).snd.snd.snd.snd.fst) 105]) (.bd [.vec 10,az ((bG th m fu fr (j5 fs n) l es (cC [(List.drop (Int.toNat 0) (List.take k.toNat bs),()),(r,()),(List.drop (k+1).toNat (List.take (↑bs.length:Int).toNat bs),())])).snd.snd.snd.snd.snd)]))))))))))))))))))):=by kernel_rfl
theorem ayS(f:Nat)(th:Th)(m:As)(fu aa:Int)(fr fs gn:Ws)(n ad:Int)(key:ByteArray):run P (pQ f).sum f85 afA (start f85 [.ptr 0 0,az n,az ad,.s (.str key),.fn fD1 [.ptr 4 0]] (jm th m fu aa fr fs gn key)) (inl:=[fD1])=
 Tree.ab (bD (some [AV.ptr 0 0,az n,az ad])) (.ab (bD (some (hT th m fu aa fr fs gn))) (.ab (Ds.cf th m fu) (.ab (aw n) (.ite (fE th m n ad !=0) (.ret (jm th m fu aa fr fs gn key++[.ak [.s (.bool (jF th m n ad)),.s (.ro (.ah cE (bY th m n ad))),.s (.ro (.ah cB (bc th m n ad)))] 99]) (.bd [.emp,az (fE th m n ad)])) (.ite (jF th m n ad) (.at (.mk (sl 106 [(0,.ptr 0 0),(1,az n),(4,.fn 42 [.ptr 4 0]),(12,.ptr 5 0)]) (jm th m fu aa fr fs gn key++[.ak [.s (.bool (jF th m n ad)),.s (.ro (.ah cE (bY th m n ad))),.s (.ro (.ah cB (bc th m n ad)))] 99]) (hr f85 5) (.mk none false 0 [] 0))) (.at (amh th m fu aa fr fs gn n ad key (jF th m n ad) (bY th m n ad) (bc th m n ad)))))))):=by kernel_rfl
theorem awO(f:Nat)(th:Th)(m:As)(fu aa:Int)(fr fs gn:Ws)(n:Int)(key:ByteArray)(es:List En)(bs:List Br):run P (pQ f).sum f85 afA (awM th m fu aa fr fs gn n key es bs) (inl:=[fD1])=
 Tree.ab (es.length<=100000) (.ab (jj (b9 es)) (.ite (!gI es key) (.ret (jm th m fu aa fr fs gn key++[.ak [.s (.bool true),.emp,.s (.ro (.ah cB bs))] 99,.vec (.ah cE (dg es key)) 66]) (.bd [.emp,.s (.aO .i64 5)])) (.ab (bD (some [AV.ptr 0 0,az n])) (.ab (bD (some (hT th m fu aa fr fs gn))) (.ab (bD (some [AV.ptr 0 0,.agg [.s (.bool true),.s (.ro (.ah cE (dg es key))),.s (.ro (.ah cB bs))]])) (.ab (bD (some (hT th m fu aa fr (j5 fs n) (r5 fs gn n)))) (.ab (Ds.cf th m fu) (.ab (Bx.okW fr) (.ab (mr true (dg es key) bs) (.ab (aY (dg es key)) (.ab (aV bs) (.ret (jm th (bG th m fu fr (j5 fs n) true (dg es key) bs).fst (bG th m fu fr (j5 fs n) true (dg es key) bs).snd.fst aa (bG th m fu fr (j5 fs n) true (dg es key) bs).snd.snd.fst (bG th m fu fr (j5 fs n) true (dg es key) bs).snd.snd.snd.fst (r5 fs gn n) key++[.ak [.s (.bool true),.vec 6,.s (.ro (.ah cB bs))] 99,.aH,.vec (.ah cB (bG th m fu fr (j5 fs n) true (dg es key) bs).snd.snd.snd.snd.fst) 105]) (.bd [.vec 7,az ((bG th m fu fr (j5 fs n) true (dg es key) bs).snd.snd.snd.snd.snd)]))))))))))))):=by kernel_rfl
theorem at5(f:Nat)(th:Th)(m:As)(fu aa:Int)(fr fs gn:Ws)(n ad:Int)(key:ByteArray)(l:Bool)(es:List En)(bs:List Br):run P (pQ f).sum f85 afA (amh th m fu aa fr fs gn n ad key l es bs) (inl:=[fD1])=
 Tree.ite ((↑bs.length:Int)==0) (.ret (jm th m fu aa fr fs gn key++[.ak [.s (.bool l),.s (.ro (.ah cE es)),.s (.ro (.ah cB bs))] 99]) (.bd [.emp,.s (.aO .i64 4)])) (.ab (bs.length<=1000000) (.ab (jj (mg bs)) (.ab ((0:Int)<=aI bs key) (.ab (aI bs key<bs.length) (.ab (aw (ad+1)) (.ab (bD (some [AV.ptr 0 0,az ((bs.getD (aI bs key).toNat (CL.d cB)).snd.fst),az (ad+1),.s (.str key),.fn 42 [.ptr 4 0]])) (.ab (bD (some (jm th m fu aa fr fs gn key))) (.ab (Ds.cf th m fu) (.ab (Bx.okW fr) (.ab ((0:Int)<=(bs.getD (aI bs key).toNat (CL.d cB)).snd.fst/\(bs.getD (aI bs key).toNat (CL.d cB)).snd.fst<=65536) (.ab ((1:Int)<=ad+1/\ad+1<=17) (.ab ((18:Int)<=ad+1+(↑f:Int)) (.ab ((1:Nat)<=key.size/\key.size<=24) (.ab (empty.size<=100) (.at (ami th (yi th key none f m fu fr fs gn (bs.getD (aI bs key).toNat (CL.d cB)).snd.fst (ad+1)) (yj th key none f m fu fr fs gn (bs.getD (aI bs key).toNat (CL.d cB)).snd.fst (ad+1)) aa (yk th key none f m fu fr fs gn (bs.getD (aI bs key).toNat (CL.d cB)).snd.fst (ad+1)) (abc th key none f m fu fr fs gn (bs.getD (aI bs key).toNat (CL.d cB)).snd.fst (ad+1)) (adj th key none f m fu fr fs gn (bs.getD (aI bs key).toNat (CL.d cB)).snd.fst (ad+1)) n key l es bs (aI bs key) (adk th key none f m fu fr fs gn (bs.getD (aI bs key).toNat (CL.d cB)).snd.fst (ad+1)) (abd th key none f m fu fr fs gn (bs.getD (aI bs key).toNat (CL.d cB)).snd.fst (ad+1)))))))))))))))))):=by kernel_rfl
theorem at6(f:Nat)(th:Th)(m:As)(fu aa:Int)(fr fs gn:Ws)(n:Int)(key:ByteArray)(l:Bool)(es:List En)(bs:List Br)(k e:Int)(r:List Br):run P (pQ f).sum f85 afA (ami th m fu aa fr fs gn n key l es bs k e r) (inl:=[fD1])=
 Tree.ite (e !=0) (.ret (jm th m fu aa fr fs gn key++[.ak [.s (.bool l),.s (.ro (.ah cE es)),.s (.ro (.ah cB bs))] 99,.vec (.ah cB r) 105]) (.bd [.emp,az e])) (.ite (decide ((↑r.length:Int)>0)) (.ab ((0:Int)<=k) (.ab (k<bs.length) (.ab ((0:Int)<=0) (.ab ((0:Int)<(↑r.length:Int)) (.at (ag8 th m fu aa fr fs gn n key l es bs k (r.set 0 ((bs.getD k.toNat (CL.d cB)).fst,(r.getD 0 (CL.d cB)).snd)))))))) (.at (ag8 th m fu aa fr fs gn n key l es bs k r))):=by kernel_rfl
theorem at7(f:Nat)(th:Th)(m:As)(fu aa:Int)(fr fs gn:Ws)(n:Int)(key:ByteArray)(l:Bool)(es:List En)(bs:List Br)(k:Int)(r:List Br):run P (pQ f).sum f85 afA (ag8 th m fu aa fr fs gn n key l es bs k r) (inl:=[fD1])=
 Tree.ab ((0:Int)<=0) (.ab ((0:Int)<=k) (.ab (k<=bs.length) (.ab (aw (k+1)) (.ab ((0:Int)<=k+1) (.ab (k+1<=(↑bs.length:Int)) (.ab ((↑bs.length:Int)<=(↑bs.length:Int)) (.ab ([(List.drop (Int.toNat 0) (List.take k.toNat bs),()),(r,()),(List.drop (k+1).toNat (List.take (↑bs.length:Int).toNat bs),())].length<=100) (.ab ((cC [(List.drop (Int.toNat 0) (List.take k.toNat bs),()),(r,()),(List.drop (k+1).toNat (List.take (↑bs.length:Int).toNat bs),())]).length<=100000) (.ab (bD (some [AV.ptr 0 0,az n])) (.ab (bD (some (hT th m fu aa fr fs gn))) (.ab (bD (some [AV.ptr 0 0,.agg [.s (.bool l),.s (.ro (.ah cE es)),.s (.ro (.ah cB (cC [(List.drop (Int.toNat 0) (List.take k.toNat bs),()),(r,()),(List.drop (k+1).toNat (List.take (↑bs.length:Int).toNat bs),())])))]])) (.ab (bD (some (hT th m fu aa fr (j5 fs n) (r5 fs gn n)))) (.ab (Ds.cf th m fu) (.ab (Bx.okW fr) (.ab (mr l es (cC [(List.drop (Int.toNat 0) (List.take k.toNat bs),()),(r,()),(List.drop (k+1).toNat (List.take (↑bs.length:Int).toNat bs),())])) (.ab (aY es) (.ab (aV (cC [(List.drop (Int.toNat 0) (List.take k.toNat bs),()),(r,()),(List.drop (k+1).toNat (List.take (↑bs.length:Int).toNat bs),())])) (.ret (jm th (bG th m fu fr (j5 fs n) l es (cC [(List.drop (Int.toNat 0) (List.take k.toNat bs),()),(r,()),(List.drop (k+1).toNat (List.take (↑bs.length:Int).toNat bs),())])).fst (bG th m fu fr (j5 fs n) l es (cC [(List.drop (Int.toNat 0) (List.take k.toNat bs),()),(r,()),(List.drop (k+1).toNat (List.take (↑bs.length:Int).toNat bs),())])).snd.fst aa (bG th m fu fr (j5 fs n) l es (cC [(List.drop (Int.toNat 0) (List.take k.toNat bs),()),(r,()),(List.drop (k+1).toNat (List.take (↑bs.length:Int).toNat bs),())])).snd.snd.fst (bG th m fu fr (j5 fs n) l es (cC [(List.drop (Int.toNat 0) (List.take k.toNat bs),()),(r,()),(List.drop (k+1).toNat (List.take (↑bs.length:Int).toNat bs),())])).snd.snd.snd.fst (r5 fs gn n) key++[.ak [.s (.bool l),.s (.ro (.ah cE es)),.vec 8] 99,.aH,.vec (.ah cBs [(List.drop (Int.toNat 0) (List.take k.toNat bs),()),(r,()),(List.drop (k+1).toNat (List.take (↑bs.length:Int).toNat bs),())]) 97,.aH,.vec (.ah cB (bG th m fu fr (j5 fs n) l es (cC [(List.drop (Int.toNat 0) (List.take k.toNat bs),()),(r,()),(List.drop (k+1).toNat (List.take (↑bs.length:Int).toNat bs),())])).snd.snd.snd.snd.fst) 105]) (.bd [.vec 9,az ((bG th m fu fr (j5 fs n) l es (cC [(List.drop (Int.toNat 0) (List.take k.toNat bs),()),(r,()),(List.drop (k+1).toNat (List.take (↑bs.length:Int).toNat bs),())])).snd.snd.snd.snd.snd)]))))))))))))))))))):=by kernel_rfl
def TN:Nat->Type
 |0=>Int×List En|h+1=>Int×List (ByteArray×TN h)
abbrev Kd(h:Nat):Type:=ByteArray×TN h
def pg:(h:Nat)->TN h->Int
 |0,t=>t.1|_+1,t=>t.1
def aua:(h:Nat)->TN h->List En
 |0,t=>t.2|h+1,t=>t.2.flatMap λk=>aua h k.2
def pgs:(h:Nat)->TN h->List Int
 |0,t=>[t.1]|h+1,t=>t.1::t.2.flatMap λk=>pgs h k.2
def brK(h:Nat)(k:Kd h):Br:=(k.1,pg h k.2,())
def rep(th:Th)(m:As):(h:Nat)->TN h->Prop
 |0,t=>Rd th m t.1 true t.2 []|h+1,t=>Rd th m t.1 false [] (t.2.map (brK h))/\∀k∈t.2,rep th m h k.2
def ayT(h:Nat)(ks:List (Kd h)):Prop:=ks.Pairwise (λa b=>∀e∈aua h a.2,slt e.1 b.1=true)/\∀k∈ks,∀e∈aua h k.2,slt e.1 k.1=false
def awP{h:Nat}:List (Kd h)->List (Kd h)
 |[]=>[]|k::r=>(empty,k.2)::r
def szK(h:Nat)(ks:List (Kd h)):Int:=bw [] (ks.map (brK h))
def okT:(h:Nat)->TN h->Prop
 |0,t=>t.2≠[]/\mf t.2=true/\bw t.2 []<=254|h+1,t=>t.2≠[]/\awP t.2=t.2/\pr (t.2.map (brK h))=true/\szK h t.2<=254/\ayT h t.2/\∀k∈t.2,okT h k.2
theorem amj:∀(h:Nat) (t:TN h),pg h t∈pgs h t
 |0,t=>mem_singleton.2 rfl|h+1,t=>List.mem_cons_self
theorem afB(x:Br):3<=sT x:=by unfold sT;omega
theorem aub(x:En):2<=o8 x:=by unfold o8;omega
def uB(bs:List Br):Int:=(bs.map sT).sum
theorem oF:uB []=0:=rfl
theorem iM(b:Br)(r:List Br):uB (b::r)=sT b+uB r:=by simp[uB]
theorem apu(bs:List Br):0<=uB bs:=by
 induction bs with
 |nil=>simp[oF]|cons b r ih=>rw[iM];have:=afB b;omega
theorem ai3(bs:List Br):uB (ae bs)<=uB bs:=by
 cases bs with
 |nil=>exact Int.le_refl _|cons b r=>
  rw[ae,iM,iM];have:sT (empty,b.2.1,())=3:=rfl;have:=afB b;omega
structure S5 where
 m:As
 fu:Int
 fr:Ws
 fs:Ws
 gn:Ws
structure okS (th:Th) (s:S5):Prop where
 d:Ds.cf th s.m s.fu
 fr:Bx.okW s.fr
 fs:Bx.okW s.fs
 gn:Bx.okW s.gn
 pg:∀p,In s.fr p->2<=p/\Ds.pOk th p=true
structure Eff (th:Th) (s t:S5) (N V:List Int):Prop where
 ok:okS th t
 nd:N.Nodup
 sub:∀p∈N,In s.fr p
 fr:∀p,In t.fr p↔In s.fr p/\p ∉ N
 fs:∀p,In t.fs p↔(In s.fs p/\p ∉ V)\/p∈N
 gn:∀p,In t.gn p↔In s.gn p\/(In s.fs p/\p∈V)
 rd:∀p,¬In s.fr p->Ds.nr th t.m p=Ds.nr th s.m p/\Ds.kX th t.m p=Ds.kX th s.m p
 fu:s.fu= -1->t.fu= -1
 lo:s.fu= -1->(∀p∈N,∀q,In s.fr q->q<p->q∈N)/\∀p,p ∉ N->Ds.nr th t.m p=Ds.nr th s.m p/\Ds.kX th t.m p=Ds.kX th s.m p
 sec:∀x:Int,¬In s.fr (x / 4)->fi t.m x=fi s.m x
theorem apv{bs:List Br}:3*(bs.length:Int)<=uB bs:=by
 induction bs with
 |nil=>simp[oF]|cons b r ih=>rw[iM,length_cons];have:=afB b;omega
theorem amk(bs:List Br):bw [] bs=1+uB bs:=by simp[bw,uB]
theorem apw{es:List En}:2*(es.length:Int)<=(es.map o8).sum:=by
 induction es with
 |nil=>simp|cons b r ih=>rw[map_cons,List.sum_cons,length_cons];have:=aub b;omega
theorem Eff.rep{th:Th}{s t:S5}{N V:List Int}(h:Eff th s t N V):∀(k:Nat) {x:TN k},Ts.rep th s.m k x->(∀p∈pgs k x,¬In s.fr p)->Ts.rep th t.m k x
 |0,x,hr,hp=>Rd.same hr (h.rd _ (hp _ (amj 0 x)))|k+1,x,hr,hp=>⟨Rd.same hr.1 (h.rd _ (hp _ (amj (k+1) x))),λy hy=>h.rep k (hr.2 y hy) λp hpp=>hp p (List.mem_cons_of_mem _ (List.mem_flatMap.2 ⟨y,hy,hpp⟩))⟩
theorem eu{th:Th}{m:As}{n ad:Int}(h:fE th m n ad=0):ch (jF th m n ad) (bY th m n ad) (bc th m n ad)=true/\(bY th m n ad).length<=126/\(bc th m n ad).length<=84/\aY (bY th m n ad)/\aV (bc th m n ad)/\
 ad<=16/\bw (bY th m n ad) (bc th m n ad)<=254:=by
 unfold fE at h;split at h;cases h;rename_i hd;split at h;rename_i hg;have e0:qt th m n ad=true:=by unfold qt;rw[decide_eq_true hg,decide_eq_true (by omega)];rfl
 have⟨a,b,c,_,e⟩:=aoJ h;have sz:=(jZ.1 c).2;have e1:bY th m n ad=lJ (Ds.kX th m n):=by unfold bY;rw[if_pos e0]
 have e2:bc th m n ad=kJ (Ds.kX th m n):=by unfold bc;rw[if_pos e0]
 have e3:jF th m n ad=gT (Ds.kX th m n):=by unfold jF;rw[e0,Bool.true_and]
 rw[e1,e2,e3];have s1:=apw (es:=lJ (Ds.kX th m n));have s2:=apv (bs:=kJ (Ds.kX th m n));have s3:=apu (kJ (Ds.kX th m n));unfold bw at sz;unfold uB at s2 s3;refine⟨e,by omega,by omega,a,b,by omega, ?_⟩;unfold bw;exact sz;rename_i hg;exact absurd h hg
abbrev xn(es:List En):Prop:=∀x∈es,x.1.size<=24
abbrev iN(bs:List Br):Prop:=∀x∈bs,x.1.size<=24
theorem adl{l:Bool}{es:List En}{bs:List Br}(he:xn es)(hb:iN bs):(gj l es bs).size<=24:=by
 unfold gj;split;cases es with
 |nil=>exact zero_le _|cons e r=>exact he e List.mem_cons_self
 cases bs with
 |nil=>exact zero_le _|cons e r=>exact hb e List.mem_cons_self
theorem abe{th:Th}{m:As}{fu:Int}{fr fs:Ws}{l:Bool}{es:List En}{bs:List Br}(he:xn es)(hb:iN bs):(b8 th m fu fr fs l es bs).2.2.2.2.1.1.size<=24:=by
 unfold b8;split;exact zero_le _;split;exact zero_le _;split;exact zero_le _;exact adl he hb
theorem aml{bs:List Br}(h:iN bs):iN (ae bs):=by
 cases bs with
 |nil=>exact h|cons b r=>
  intro x hx;rcases mem_cons.1 hx with rfl|hx;exact zero_le _;exact h x (List.mem_cons_of_mem _ hx)
theorem apx{l:Bool}{es:List En}{bs:List Br}(he:xn es):xn (bz l es bs)/\xn (eH l es bs):=by
 unfold bz eH;split;exact⟨λx hx=>he x (List.mem_of_mem_take hx),λx hx=>he x (List.mem_of_mem_drop hx)⟩;exact⟨λx hx=>(by cases hx),λx hx=>(by cases hx)⟩
theorem apy{l:Bool}{es:List En}{bs:List Br}(he:iN bs):iN (bA l es bs)/\iN (eI l es bs):=by
 unfold bA eI;split;exact⟨λx hx=>he x (List.mem_of_mem_take hx),λx hx=>he x (List.mem_of_mem_drop hx)⟩;exact⟨λx hx=>(by cases hx),λx hx=>(by cases hx)⟩
theorem afC{th:Th}{m:As}{fu:Int}{fr fs:Ws}{l:Bool}{es:List En}{bs:List Br}(hf:Bx.okW fr):0<=(b8 th m fu fr fs l es bs).2.2.2.2.1.2.1/\(b8 th m fu fr fs l es bs).2.2.2.2.1.2.1<=65536:=by
 have z:0<=dB.2.1/\dB.2.1<=65536:=⟨Int.le_refl 0,by show(0:Int)<=65536;omega⟩;unfold b8;split;exact z;rename_i h;have:=xl hf (by simpa using h);split;exact z;split;exact z;exact⟨by show 0<=Bx.bN fr 0;omega,by show Bx.bN fr 0<=65536;omega⟩
theorem noE{q:En->Prop}:∀b∈([]:List En),q b:=λb hb=>by cases hb
theorem noB{q:Br->Prop}:∀b∈([]:List Br),q b:=λb hb=>by cases hb
structure amm (th:Th) (m:As) (fu:Int) (fr:Ws) (l:List Br):Prop where
 d:Ds.cf th m fu
 fr:Bx.okW fr
 two:l.length<=2
 key:iN l
 pg:∀b∈l,0<=b.2.1/\b.2.1<=65536
theorem jo{th:Th}{m:As}{fu:Int}{fr fs:Ws}{l:Bool}{es:List En}{bs:List Br}(hd:Ds.cf th m fu)(hf:Bx.okW fr)(he:xn es)(hb:iN bs):
 amm th (bG th m fu fr fs l es bs).1 (bG th m fu fr fs l es bs).2.1 (bG th m fu fr fs l es bs).2.2.1 (bG th m fu fr fs l es bs).2.2.2.2.1:=by
 have hbb:=aml hb;have nil:iN ([]:List Br):=λb hb=>by cases hb
 unfold bG;split;exact⟨hd,hf,zero_le _,nil,noB⟩;split;have⟨a,b⟩:=xm (fs:=fs) (l:=l) (es:=es) (bs:=ae bs) hd hf;refine⟨a,b,by show 1<=2;omega,λx hx=> ?_,λx hx=> ?_⟩;rw[mem_singleton.1 hx];exact abe he hbb;rw[mem_singleton.1 hx];exact afC hf;split;exact⟨hd,hf,zero_le _,nil,noB⟩;have⟨s1,s2⟩:=apx (l:=l) (bs:=ae bs) he;have⟨s3,s4⟩:=apy (l:=l) (es:=es) hbb;have⟨a,b⟩:=xm (fs:=fs) (l:=ct l es (ae bs)) (es:=bz l es (ae bs)) (bs:=bA l es (ae bs)) hd hf;simp only[];split;exact⟨a,b,zero_le _,nil,noB⟩;have⟨c,d⟩:=xm (fs:=(b8 th m fu fr fs (ct l es (ae bs)) (bz l es (ae bs)) (bA l es (ae bs))).2.2.2.1) (l:=ct l es (ae bs)) (es:=eH l es (ae bs)) (bs:=eI l es (ae bs)) a b;refine⟨c,d,le_refl 2,λx hx=> ?_,λx hx=> ?_⟩;rcases mem_cons.1 hx with rfl|hx;exact abe s1 s3;rw[mem_singleton.1 hx];exact abe s2 s4;rcases mem_cons.1 hx with rfl|hx;exact afC hf;rw[mem_singleton.1 hx];exact afC b
theorem afD{key:ByteArray}{op:Option ByteArray}{es:List En}(hk:key.size<=24)(he:xn es):xn (m8 key op es):=by
 cases op with
 |some v=>
  show xn (eO es key v);intro x hx;unfold eO at hx;rcases mem_append.1 hx with hx|hx;exact he x (List.mem_of_mem_take hx);rcases mem_cons.1 hx with rfl|hx;exact hk;exact he x (List.mem_of_mem_drop hx)
 |none=>
  show xn (if gI es key=true then dg es key else []);split;exact λx hx=>he x (List.mem_filter.1 hx).1;exact λx hx=>by cases hx
theorem j7{key:ByteArray}{op:Option ByteArray}{es:List En}(hk:key.size<=24)(hv:∀v,op=some v->v.size<=100)(hl:es.length<=126)(he:aY es):aY (m8 key op es):=by
 cases op with
 |some v=>
  have hv:=hv v rfl;show aY (eO es key v);refine⟨by rw[ao3];split<;>omega,λx hx=> ?_⟩;unfold eO at hx;rcases mem_append.1 hx with hx|hx;exact he.2 x (List.mem_of_mem_take hx);rcases mem_cons.1 hx with rfl|hx;exact⟨by show key.size<=1000;omega,by show v.size<=1000;omega⟩;exact he.2 x (List.mem_of_mem_drop hx)
 |none=>
  show aY (if gI es key=true then dg es key else []);split;exact⟨Nat.le_trans (List.length_filter_le _ _) he.1,λx hx=>he.2 x ((List.mem_filter.1 hx).1)⟩;exact fT
theorem afE{k:ByteArray}{r:List Br}(hk:k.size<=24)(h:iN r):iN (mq k r):=by
 cases r with
 |nil=>exact h|cons b r=>
  intro x hx;rcases mem_cons.1 hx with rfl|hx;exact hk;exact h x (List.mem_cons_of_mem _ hx)
theorem adm(k:ByteArray)(r:List Br):(mq k r).length=r.length:=by cases r<;>rfl
theorem nc{bs:List Br}(hb:iN bs)(k:Nat):(bs.getD k dB).1.size<=24:=by
 rcases lt_or_ge k bs.length with h|h;rw[bT h];exact hb _ (getElem_mem h);rw[List.getD,getElem?_eq_none h];exact zero_le _
theorem ag9{bs r:List Br}{k:Nat}{s:ByteArray}(hb:iN bs)(hk:iN r)(hs:s.size<=24):iN (bs.take k++mq s r++bs.drop (k+1)):=λx hx=>by
 rcases mem_append.1 hx with hx|hx;rcases mem_append.1 hx with hx|hx;exact hb x (List.mem_of_mem_take hx);exact afE hs hk x hx;exact hb x (List.mem_of_mem_drop hx)
theorem qv{bs r:List Br}{k:Nat}{s:ByteArray}(hb:iN bs)(hl:bs.length<=84)(hr:r.length<=2)(hk:iN r)(hs:s.size<=24):aV (bs.take k++mq s r++bs.drop (k+1)):=by
 refine⟨?_,λx hx=>Nat.le_trans (ag9 hb hk hs x hx) (by omega)⟩;rw[length_append,length_append,adm,length_take,length_drop];omega
theorem xo{l:Bool}{es:List En}{bs:List Br}(h:ch l es bs=true):xn es/\iN bs:=by
 have⟨_,_,h1,h2⟩:=dD h;exact⟨λx hx=>(aoI h1 hx).1,λx hx=>(ala h2 hx).1⟩
theorem oG{th:Th}{key:ByteArray}{op:Option ByteArray}(hk:key.size≤24):∀(f:Nat) {m:As} {fu:Int} {fr fs gn:Ws} {n ad:Int},Ds.cf th m fu→Bx.okW fr→
 amm th (yi th key op f m fu fr fs gn n ad) (yj th key op f m fu fr fs gn n ad) (yk th key op f m fu fr fs gn n ad) (abd th key op f m fu fr fs gn n ad)
 |0,m,fu,fr,fs,gn,n,ad,hd,hf=>⟨hd,hf,zero_le _,noB,noB⟩
 |f+1,m,fu,fr,fs,gn,n,ad,hd,hf=>by
  have nil:iN ([]:List Br):=fun b hb=>by cases hb
  unfold yi yj yk abd vd;split;exact⟨hd,hf,zero_le _,nil,noB⟩;rename_i h0;obtain⟨hm,_⟩:=eu (by simpa using h0);obtain⟨n3,n4⟩:=xo hm;split;split;exact⟨hd,hf,zero_le _,nil,noB⟩;exact jo hd hf (afD hk n3) n4;split;exact⟨hd,hf,zero_le _,nil,noB⟩;simp only[];have r:=oG (op:=op) hk f (fs:=fs) (gn:=gn) (n:=((bc th m n ad).getD (aI (bc th m n ad) key).toNat dB).2.1) (ad:=ad+1) hd hf;split;exact⟨r.d,r.fr,zero_le _,nil,noB⟩;exact jo r.d r.fr n3 (ag9 n4 r.key (nc n4 _))
theorem jR{th:Th}{key:ByteArray}{op:Option ByteArray}{f:Nat}{m:As}{fu:Int}{fr fs gn:Ws}{n ad:Int}:vd th key op (f+1) m fu fr fs gn n ad=
 if fE th m n ad≠0 then(m,fu,fr,fs,gn,[],fE th m n ad)
 else if jF th m n ad=true then
  if s7 key op (bY th m n ad)≠0 then(m,fu,fr,fs,gn,[],s7 key op (bY th m n ad))
  else iy (r5 fs gn n) (bG th m fu fr (j5 fs n) true (m8 key op (bY th m n ad)) (bc th m n ad))
 else if bc th m n ad=[]then(m,fu,fr,fs,gn,[],4)
 else if adk th key op f m fu fr fs gn ((bc th m n ad).getD (aI (bc th m n ad) key).toNat dB).2.1 (ad+1)≠0 then
  (yi th key op f m fu fr fs gn ((bc th m n ad).getD (aI (bc th m n ad) key).toNat dB).2.1 (ad+1),yj th key op f m fu fr fs gn ((bc th m n ad).getD (aI (bc th m n ad) key).toNat dB).2.1 (ad+1),
   yk th key op f m fu fr fs gn ((bc th m n ad).getD (aI (bc th m n ad) key).toNat dB).2.1 (ad+1),abc th key op f m fu fr fs gn ((bc th m n ad).getD (aI (bc th m n ad) key).toNat dB).2.1 (ad+1),
   adj th key op f m fu fr fs gn ((bc th m n ad).getD (aI (bc th m n ad) key).toNat dB).2.1 (ad+1),[],adk th key op f m fu fr fs gn ((bc th m n ad).getD (aI (bc th m n ad) key).toNat dB).2.1 (ad+1))
 else iy (r5 (abc th key op f m fu fr fs gn ((bc th m n ad).getD (aI (bc th m n ad) key).toNat dB).2.1 (ad+1)) (adj th key op f m fu fr fs gn ((bc th m n ad).getD (aI (bc th m n ad) key).toNat dB).2.1 (ad+1)) n)
  (bG th (yi th key op f m fu fr fs gn ((bc th m n ad).getD (aI (bc th m n ad) key).toNat dB).2.1 (ad+1)) (yj th key op f m fu fr fs gn ((bc th m n ad).getD (aI (bc th m n ad) key).toNat dB).2.1 (ad+1))
    (yk th key op f m fu fr fs gn ((bc th m n ad).getD (aI (bc th m n ad) key).toNat dB).2.1 (ad+1)) (j5 (abc th key op f m fu fr fs gn ((bc th m n ad).getD (aI (bc th m n ad) key).toNat dB).2.1 (ad+1)) n) false (bY th m n ad)
    ((bc th m n ad).take (aI (bc th m n ad) key).toNat++mq ((bc th m n ad).getD (aI (bc th m n ad) key).toNat dB).1 (abd th key op f m fu fr fs gn ((bc th m n ad).getD (aI (bc th m n ad) key).toNat dB).2.1 (ad+1))++(bc th m n ad).drop ((aI (bc th m n ad) key).toNat+1))):=rfl
def awQ(bs r:List Br)(k:Int):List Br:=cC [(List.drop (Int.toNat 0) (List.take k.toNat bs),()),(r,()),(List.drop (k+1).toNat (List.take (bs.length:Int).toNat bs),())]
theorem adn{bs r:List Br}{k:Int}(h0:0<=k):awQ bs r k=bs.take k.toNat++r++bs.drop (k.toNat+1):=by
 show List.drop 0 (List.take k.toNat bs)++(r++(List.drop (k+1).toNat (List.take (bs.length:Int).toNat bs)++[]))=_;rw[append_nil,List.drop_zero,append_assoc,show(bs.length:Int).toNat=bs.length from rfl,List.take_length,show(k+1).toNat=k.toNat+1 from by omega]
theorem amn{th:Th}{m:As}{fu aa:Int}{fr fs gn:Ws}{n ad:Int}{key val:ByteArray}{f:Nat}{c:Chg}(e:vd th key (some val) f m fu fr fs gn n ad=c):
 (yl f).eG ((th,m,fu,aa,fr,fs,gn),n,ad,key,val)=kz th c.1 c.2.1 aa c.2.2.1 c.2.2.2.1 c.2.2.2.2.1 key val++[.vec (.ah cB c.2.2.2.2.2.1) Lf.eB]/\(yl f).out ((th,m,fu,aa,fr,fs,gn),n,ad,key,val)=.bd [.vec 6,az c.2.2.2.2.2.2]:=by
 subst e;exact⟨rfl,rfl⟩
theorem ai4{th:Th}{m:As}{fu aa:Int}{fr fs gn:Ws}{n ad:Int}{key val:ByteArray}{f:Nat}{c:Chg}(e:vd th key none f m fu fr fs gn n ad=c):
 (ym f).eG ((th,m,fu,aa,fr,fs,gn),n,ad,key,val)=jm th c.1 c.2.1 aa c.2.2.1 c.2.2.2.1 c.2.2.2.2.1 key++[.vec (.ah cB c.2.2.2.2.2.1) Lf.eB]/\(ym f).out ((th,m,fu,aa,fr,fs,gn),n,ad,key,val)=.bd [.vec 5,az c.2.2.2.2.2.2]:=by
 subst e;exact⟨rfl,rfl⟩
theorem mu{bs:List Br}{key:ByteArray}(hs:jj (mg bs))(h:bs≠[]):0<=aI bs key/\aI bs key<(bs.length:Int):=by
 have⟨p,e,hp,_⟩:=w4 (ks:=mg bs) (key:=key) hs (by cases bs with|nil=>exact absurd rfl h|cons b r=>simp);unfold aI;rw[e];rw[length_map]at hp;exact⟨by omega,by omega⟩
theorem ado{r:List Br}{k:ByteArray}(h:0<r.length):(r.set 0 (k,(r.getD 0 (CL.d [CK.str,CK.int i64])).snd):List Br)=mq k r:=by
 cases r with
 |nil=>simp at h|cons b r=>rfl
theorem inI{n:Int}(h0: -65537<=n)(h1:n<=65537):aw n:=⟨by omega,by omega⟩
theorem qw{th:Th}{m:As}{n ad:Int}(h:fE th m n ad=0)(k:Nat):0<=((bc th m n ad).getD k dB).2.1/\((bc th m n ad).getD k dB).2.1<=65536:=by
 have⟨hm,_⟩:=eu h;rcases lt_or_ge k (bc th m n ad).length with hk|hk;have:=ala (dD hm).2.2.2 (getElem_mem hk);rw[bT hk];omega;rw[List.getD,getElem?_eq_none hk];exact⟨Int.le_refl 0,by show(0:Int)<=65536;omega⟩
theorem amo{f:Nat}(h:fD P Bx.cw 85 (yl f)):(pP f).Ok P Bx.cw:=aF.Ok.cons (pe.sum mNo) (aF.Ok.cons (xk.sum mLv) (aF.Ok.cons (fy (dC (j6.sum mTN) 1 _) 1) (aF.Ok.cons alP.gH (aF.Ok.cons wW.sum (aF.Ok.cons s9.sum (aF.Ok.cons (h.sum aps) aF.Ok.nil))))))
section
variable{th:Th}{m:As}{fu aa:Int}{fr fs gn:Ws}{n ad:Int}{key val:ByteArray}{f:Nat}{X:Ctx}
theorem adp{th:Th}{m:As}{fu aa:Int}{fr fs gn:Ws}{key val:ByteArray}:∀y∈afz,(kz th m fu aa fr fs gn key val).length<=y.2.m:=λy hy=>by
 simp only[afz,mem_cons,List.not_mem_nil,or_false]at hy;rcases hy with rfl|rfl|rfl|rfl<;>exact le_refl _
theorem aha(hz:cP Bx.cw X)(hX:X.H=lk (kz th m fu aa fr fs gn key val))(T:(pP f).Ok P Bx.cw){m':As}{lH:Int}{rN nn uC:Ws}{l:Bool}{es:List En}{bs:List Br}{k:Int}{r:List Br}(hd:Ds.cf th m' lH)(hf:Bx.okW rN)(hl:l=false/\es=[])(he:aY es)
 (hb:aV (bs.take k.toNat++r++bs.drop (k.toNat+1))) (hk0:0<=k) (hk1:k<(bs.length:Int)) (hbl:bs.length<=84)
 (e:vd th key (some val) (f+1) m fu fr fs gn n ad=iy (r5 nn uC n) (bG th m' lH rN (j5 nn n) l es (bs.take k.toNat++r++bs.drop (k.toNat+1)))):
 Safe P 85 X (nC (yl (f+1)) ((th,m,fu,aa,fr,fs,gn),n,ad,key,val)) (ag7 th m' lH aa rN nn uC n key val l es bs k r):=by
 rw[<-adn hk0]at hb e;have hjl:=hb.1;have⟨f1,f2⟩:=amn (aa:=aa) (val:=val) e;refine Ds.cA hz hX adp T func85 (at4 f th m' lH aa rN nn uC n key val l es bs k r) ⟨by omega,hk0,by omega,⟨by omega,by omega⟩,by omega,by omega,by omega,by show 3<=100;omega, ?_,rfl,rfl,rfl,rfl,hd,hf,⟨λh=>(by rw[hl.1]at h;cases h),λ_=>hl.2⟩,he,hb, ?_⟩;exact Nat.le_trans hjl (by omega);exact fm ⟨[],[0,1],6,[]⟩ rfl (le_refl _) (jQ.same _) f2 f1
theorem apz(hz:cP Bx.cw X)(hX:X.H=lk (kz th m fu aa fr fs gn key val))(T:(pP f).Ok P Bx.cw){m':As}{lH:Int}{rN nn uC:Ws}{l:Bool}{es:List En}{bs:List Br}{k e:Int}{r:List Br}(hd:Ds.cf th m' lH)(hf:Bx.okW rN)(hl:l=false/\es=[])(he:aY es)
 (hb:aV (bs.take k.toNat++mq (bs.getD k.toNat dB).1 r++bs.drop (k.toNat+1))) (hk0:0<=k) (hk1:k<(bs.length:Int)) (hbl:bs.length<=84)
 (ee:vd th key (some val) (f+1) m fu fr fs gn n ad=if e≠0 then(m',lH,rN,nn,uC,[],e)else iy (r5 nn uC n) (bG th m' lH rN (j5 nn n) l es (bs.take k.toNat++mq (bs.getD k.toNat dB).1 r++bs.drop (k.toNat+1)))):
 Safe P 85 X (nC (yl (f+1)) ((th,m,fu,aa,fr,fs,gn),n,ad,key,val)) (amg th m' lH aa rN nn uC n key val l es bs k e r):=by
 refine Ds.cA hz hX adp T func85 (at3 f th m' lH aa rN nn uC n key val l es bs k e r) ⟨λh=> ?_,λh=>⟨λh5=> ?_,λh5=> ?_⟩⟩;have h:e≠0:=by simpa using h
 rw[if_pos h]at ee;have⟨f1,f2⟩:=amn (aa:=aa) (val:=val) ee;exact fm ⟨[(0,.ah cB [],Lf.eB)],[0,1],6,[]⟩ rfl (le_refl _) (jQ.same _) f2 f1;have h:¬e≠0:=by simpa using h
 rw[if_neg h]at ee;have h5:=of_decide_eq_true h5;have e5:=ado (r:=r) (k:=(bs.getD k.toNat dB).1) (by omega);rw[<-e5]at hb ee;exact⟨hk0,hk1,by omega,h5,aha hz hX T hd hf hl he hb hk0 hk1 hbl ee⟩;have h:¬e≠0:=by simpa using h
 rw[if_neg h]at ee;have h5:=of_decide_eq_false h5;have e5:r=[]:=List.eq_nil_of_length_eq_zero (by omega);subst e5;exact aha hz hX T hd hf hl he hb hk0 hk1 hbl ee
theorem apA(hz:cP Bx.cw X)(hX:X.H=lk (kz th m fu aa fr fs gn key val))(T:(pP f).Ok P Bx.cw)(hd:Ds.cf th m fu)(hf:Bx.okW fr)(h1:1<=ad/\ad<=17)(h2:18<=ad+((f+1:Nat):Int))(hk:1<=key.size/\key.size<=24)(hv:val.size<=100)
 (h:fE th m n ad=0) (hl:jF th m n ad=false):
 Safe P 85 X (nC (yl (f+1)) ((th,m,fu,aa,fr,fs,gn),n,ad,key,val)) (amf th m fu aa fr fs gn n ad key val (jF th m n ad) (bY th m n ad) (bc th m n ad)):=by
 have⟨hm,n1,n2,n3,n4,n5,_⟩:=eu h;have⟨m1,m2,_,_⟩:=dD hm;have⟨s1,s2⟩:=m9 hm;have hkk:∀v:ByteArray,(some val)=some v->v.size<=100:=λv e=>by cases e;exact hv
 refine Ds.cA hz hX adp T func85 (at2 f th m fu aa fr fs gn n ad key val (jF th m n ad) (bY th m n ad) (bc th m n ad)) ⟨λh3=> ?_,λh3=> ?_⟩
 have h3:bc th m n ad=[]:=List.eq_nil_of_length_eq_zero (by have:((bc th m n ad).length:Int)=0:=by simpa using h3
                                                            omega)
 have⟨f1,f2⟩:=amn (val:=val) (aa:=aa) (th:=th) (m:=m) (fu:=fu) (fr:=fr) (fs:=fs) (gn:=gn) (key:=key) (f:=f+1) (n:=n) (ad:=ad) (c:=(m,fu,fr,fs,gn,[],4)) (by rw[jR,if_neg (by rw[h];simp),if_neg (by rw[hl];simp),if_pos h3]);exact fm ⟨[(0,.ah cB [],Lf.eB)],[0,1],6,[]⟩ rfl (le_refl _) (jQ.same _) f2 f1;have h3:bc th m n ad≠[]:=λe=>by rw[e]at h3;simp at h3
 have⟨p0,p1⟩:=mu (key:=key) s2 h3;have pg:=qw h (aI (bc th m n ad) key).toNat;have oH:=oG (th:=th) (key:=key) (op:=(some val)) hk.2 f (m:=m) (fu:=fu) (fr:=fr) (fs:=fs) (gn:=gn) (n:=((bc th m n ad).getD (aI (bc th m n ad) key).toNat dB).2.1) (ad:=ad+1) hd hf;have hb:=qv (bs:=bc th m n ad) (k:=(aI (bc th m n ad) key).toNat) (xo hm).2 n2 oH.two oH.key (nc (xo hm).2 (aI (bc th m n ad) key).toNat);refine⟨by omega,s2,p0,p1,inI (by omega) (by omega),rfl,rfl,hd,hf,pg,⟨by omega,by omega⟩,by omega,hk,hv,apz hz hX T oH.d oH.fr ⟨hl,m2 hl⟩ n3 hb p0 p1 n2 ?_⟩;rw[jR,if_neg (by rw[h];simp),if_neg (by rw[hl];simp),if_neg h3,hl];rfl
theorem auc(hz:cP Bx.cw X)(hX:X.H=lk (kz th m fu aa fr fs gn key val))(T:(pP f).Ok P Bx.cw)(hd:Ds.cf th m fu)(hf:Bx.okW fr)(hk:1<=key.size/\key.size<=24)(hv:val.size<=100)
 (h:fE th m n ad=0) (hl:jF th m n ad=true):
 Safe P 85 X (nC (yl (f+1)) ((th,m,fu,aa,fr,fs,gn),n,ad,key,val)) (awL th m fu aa fr fs gn n key val (bY th m n ad) (bc th m n ad)):=by
 have⟨hm,n1,n2,n3,n4,n5,_⟩:=eu h;have⟨m1,m2,_,_⟩:=dD hm;have⟨s1,s2⟩:=m9 hm;have hkk:∀v:ByteArray,(some val)=some v->v.size<=100:=λv e=>by cases e;exact hv
 have⟨f1,f2⟩:=amn (val:=val) (aa:=aa) (th:=th) (m:=m) (fu:=fu) (fr:=fr) (fs:=fs) (gn:=gn) (key:=key) (f:=f+1) (n:=n) (ad:=ad) (c:=iy (r5 fs gn n) (bG th m fu fr (j5 fs n) true (eO (bY th m n ad) key val) (bc th m n ad))) (by rw[jR,if_neg (by rw[h];simp),if_pos hl,if_neg (by show¬(0:Int)≠0;simp)];rfl);refine Ds.cA hz hX adp T func85 (awN f th m fu aa fr fs gn n key val (bY th m n ad) (bc th m n ad)) ⟨by omega,s1,rfl,rfl,rfl,rfl,hd,hf,⟨λ_=>m1 hl,λe=>by cases e⟩,j7 (op:=some val) hk.2 hkk n1 n3,n4, ?_⟩;exact fm ⟨[],[0,1],6,[]⟩ rfl (le_refl _) (jQ.same _) f2 f1
theorem xp:∀f,fD P Bx.cw 85 (yl f)
 |0=>by
  rintro⟨⟨(th:Th),(m:As),(fu:Int),(aa:Int),(fr:Ws),(fs:Ws),(gn:Ws)⟩,(n:Int),(ad:Int),(key:ByteArray),(val:ByteArray)⟩ ⟨_,_,_,(h1:1<=ad/\ad<=17),(h2:18<=ad+((0:Nat):Int)),_⟩;omega
 |f+1=>by
  have T:=amo (xp f);refine dj func85 (by kernel_rfl) (λx=>le_of_ble_eq_true (by kernel_rfl)) ?_;rintro⟨⟨th,m,fu,aa,fr,fs,gn⟩,n,ad,key,val⟩ ⟨(hd:Ds.cf th m fu),(hf:Bx.okW fr),(hn:0<=n/\n<=65536),(h1:1<=ad/\ad<=17),(h2:18<=ad+((f+1:Nat):Int)),(hk:1<=key.size/\key.size<=24),(hv:val.size<=100),_⟩ X hX hz;refine Ds.cA hz hX adp T func85 (ayR f th m fu aa fr fs gn n ad key val) ⟨rfl,rfl,hd,inI (by omega) (by omega),λh=> ?_,λh=>⟨λhl=> ?_,λhl=> ?_⟩⟩;have h:fE th m n ad≠0:=by simpa using h
  have⟨f1,f2⟩:=amn (val:=val) (aa:=aa) (th:=th) (m:=m) (fu:=fu) (fr:=fr) (fs:=fs) (gn:=gn) (key:=key) (f:=f+1) (n:=n) (ad:=ad) (c:=(m,fu,fr,fs,gn,[],fE th m n ad)) (by rw[jR,if_pos h]);exact fm ⟨[(0,.ah cB [],Lf.eB)],[0,1],6,[]⟩ rfl (le_refl _) (jQ.same _) f2 f1;have h:fE th m n ad=0:=by simpa using h
  have e:=auc (aa:=aa) (val:=val) (gn:=gn) (fs:=fs) hz hX T hd hf hk hv h hl;rw[hl];exact e;have h:fE th m n ad=0:=by simpa using h
  exact apA hz hX T hd hf h1 h2 hk hv h hl
end
theorem amp{f:Nat}(h:fD P Bx.cw 85 (ym f)):(pQ f).Ok P Bx.cw:=aF.Ok.cons (pe.sum mNo) (aF.Ok.cons (xk.sum mLv) (aF.Ok.cons (fy (dC (j6.sum mTN) 1 _) 1) (aF.Ok.cons alG.sum (aF.Ok.cons wW.sum (aF.Ok.cons s9.sum (aF.Ok.cons (h.sum apt) aF.Ok.nil))))))
section
variable{th:Th}{m:As}{fu aa:Int}{fr fs gn:Ws}{n ad:Int}{key val:ByteArray}{f:Nat}{X:Ctx}
theorem adq{th:Th}{m:As}{fu aa:Int}{fr fs gn:Ws}{key:ByteArray}:∀y∈afA,(jm th m fu aa fr fs gn key).length<=y.2.m:=λy hy=>by
 simp only[afA,mem_cons,List.not_mem_nil,or_false]at hy;rcases hy with rfl|rfl|rfl|rfl<;>exact le_refl _
theorem ahb(hz:cP Bx.cw X)(hX:X.H=lk (jm th m fu aa fr fs gn key))(T:(pQ f).Ok P Bx.cw){m':As}{lH:Int}{rN nn uC:Ws}{l:Bool}{es:List En}{bs:List Br}{k:Int}{r:List Br}(hd:Ds.cf th m' lH)(hf:Bx.okW rN)(hl:l=false/\es=[])(he:aY es)
 (hb:aV (bs.take k.toNat++r++bs.drop (k.toNat+1))) (hk0:0<=k) (hk1:k<(bs.length:Int)) (hbl:bs.length<=84)
 (e:vd th key none (f+1) m fu fr fs gn n ad=iy (r5 nn uC n) (bG th m' lH rN (j5 nn n) l es (bs.take k.toNat++r++bs.drop (k.toNat+1)))):
 Safe P 85 X (nC (ym (f+1)) ((th,m,fu,aa,fr,fs,gn),n,ad,key,val)) (ag8 th m' lH aa rN nn uC n key l es bs k r):=by
 rw[<-adn hk0]at hb e;have hjl:=hb.1;have⟨f1,f2⟩:=ai4 (aa:=aa) (val:=val) e;refine Ds.cA hz hX adq T func85 (at7 f th m' lH aa rN nn uC n key l es bs k r) ⟨by omega,hk0,by omega,⟨by omega,by omega⟩,by omega,by omega,by omega,by show 3<=100;omega, ?_,rfl,rfl,rfl,rfl,hd,hf,⟨λh=>(by rw[hl.1]at h;cases h),λ_=>hl.2⟩,he,hb, ?_⟩;exact Nat.le_trans hjl (by omega);exact fm ⟨[],[0,1],5,[]⟩ rfl (le_refl _) (jQ.same _) f2 f1
theorem apB(hz:cP Bx.cw X)(hX:X.H=lk (jm th m fu aa fr fs gn key))(T:(pQ f).Ok P Bx.cw){m':As}{lH:Int}{rN nn uC:Ws}{l:Bool}{es:List En}{bs:List Br}{k e:Int}{r:List Br}(hd:Ds.cf th m' lH)(hf:Bx.okW rN)(hl:l=false/\es=[])(he:aY es)
 (hb:aV (bs.take k.toNat++mq (bs.getD k.toNat dB).1 r++bs.drop (k.toNat+1))) (hk0:0<=k) (hk1:k<(bs.length:Int)) (hbl:bs.length<=84)
 (ee:vd th key none (f+1) m fu fr fs gn n ad=if e≠0 then(m',lH,rN,nn,uC,[],e)else iy (r5 nn uC n) (bG th m' lH rN (j5 nn n) l es (bs.take k.toNat++mq (bs.getD k.toNat dB).1 r++bs.drop (k.toNat+1)))):
 Safe P 85 X (nC (ym (f+1)) ((th,m,fu,aa,fr,fs,gn),n,ad,key,val)) (ami th m' lH aa rN nn uC n key l es bs k e r):=by
 refine Ds.cA hz hX adq T func85 (at6 f th m' lH aa rN nn uC n key l es bs k e r) ⟨λh=> ?_,λh=>⟨λh5=> ?_,λh5=> ?_⟩⟩;have h:e≠0:=by simpa using h
 rw[if_pos h]at ee;have⟨f1,f2⟩:=ai4 (aa:=aa) (val:=val) ee;exact fm ⟨[(0,.ah cB [],Lf.eB)],[0,1],5,[]⟩ rfl (le_refl _) (jQ.same _) f2 f1;have h:¬e≠0:=by simpa using h
 rw[if_neg h]at ee;have h5:=of_decide_eq_true h5;have e5:=ado (r:=r) (k:=(bs.getD k.toNat dB).1) (by omega);rw[<-e5]at hb ee;exact⟨hk0,hk1,by omega,h5,ahb hz hX T hd hf hl he hb hk0 hk1 hbl ee⟩;have h:¬e≠0:=by simpa using h
 rw[if_neg h]at ee;have h5:=of_decide_eq_false h5;have e5:r=[]:=List.eq_nil_of_length_eq_zero (by omega);subst e5;exact ahb hz hX T hd hf hl he hb hk0 hk1 hbl ee
theorem apC(hz:cP Bx.cw X)(hX:X.H=lk (jm th m fu aa fr fs gn key))(T:(pQ f).Ok P Bx.cw)(hd:Ds.cf th m fu)(hf:Bx.okW fr)(h1:1<=ad/\ad<=17)(h2:18<=ad+((f+1:Nat):Int))(hk:1<=key.size/\key.size<=24)
 (h:fE th m n ad=0) (hl:jF th m n ad=false):
 Safe P 85 X (nC (ym (f+1)) ((th,m,fu,aa,fr,fs,gn),n,ad,key,val)) (amh th m fu aa fr fs gn n ad key (jF th m n ad) (bY th m n ad) (bc th m n ad)):=by
 have⟨hm,n1,n2,n3,n4,n5,_⟩:=eu h;have⟨m1,m2,_,_⟩:=dD hm;have⟨s1,s2⟩:=m9 hm;have hkk:∀v:ByteArray,none=some v->v.size<=100:=λv e=>by cases e
 refine Ds.cA hz hX adq T func85 (at5 f th m fu aa fr fs gn n ad key (jF th m n ad) (bY th m n ad) (bc th m n ad)) ⟨λh3=> ?_,λh3=> ?_⟩
 have h3:bc th m n ad=[]:=List.eq_nil_of_length_eq_zero (by have:((bc th m n ad).length:Int)=0:=by simpa using h3
                                                            omega)
 have⟨f1,f2⟩:=ai4 (val:=val) (aa:=aa) (th:=th) (m:=m) (fu:=fu) (fr:=fr) (fs:=fs) (gn:=gn) (key:=key) (f:=f+1) (n:=n) (ad:=ad) (c:=(m,fu,fr,fs,gn,[],4)) (by rw[jR,if_neg (by rw[h];simp),if_neg (by rw[hl];simp),if_pos h3]);exact fm ⟨[(0,.ah cB [],Lf.eB)],[0,1],5,[]⟩ rfl (le_refl _) (jQ.same _) f2 f1;have h3:bc th m n ad≠[]:=λe=>by rw[e]at h3;simp at h3
 have⟨p0,p1⟩:=mu (key:=key) s2 h3;have pg:=qw h (aI (bc th m n ad) key).toNat;have oH:=oG (th:=th) (key:=key) (op:=none) hk.2 f (m:=m) (fu:=fu) (fr:=fr) (fs:=fs) (gn:=gn) (n:=((bc th m n ad).getD (aI (bc th m n ad) key).toNat dB).2.1) (ad:=ad+1) hd hf;have hb:=qv (bs:=bc th m n ad) (k:=(aI (bc th m n ad) key).toNat) (xo hm).2 n2 oH.two oH.key (nc (xo hm).2 (aI (bc th m n ad) key).toNat);refine⟨by omega,s2,p0,p1,inI (by omega) (by omega),rfl,rfl,hd,hf,pg,⟨by omega,by omega⟩,by omega,hk,(zero_le 100),apB hz hX T oH.d oH.fr ⟨hl,m2 hl⟩ n3 hb p0 p1 n2 ?_⟩;rw[jR,if_neg (by rw[h];simp),if_neg (by rw[hl];simp),if_neg h3,hl];rfl
theorem aud(hz:cP Bx.cw X)(hX:X.H=lk (jm th m fu aa fr fs gn key))(T:(pQ f).Ok P Bx.cw)(hd:Ds.cf th m fu)(hf:Bx.okW fr)(hk:1<=key.size/\key.size<=24)
 (h:fE th m n ad=0) (hl:jF th m n ad=true):
 Safe P 85 X (nC (ym (f+1)) ((th,m,fu,aa,fr,fs,gn),n,ad,key,val)) (awM th m fu aa fr fs gn n key (bY th m n ad) (bc th m n ad)):=by
 have⟨hm,n1,n2,n3,n4,n5,_⟩:=eu h;have⟨m1,m2,_,_⟩:=dD hm;have⟨s1,s2⟩:=m9 hm;have hkk:∀v:ByteArray,none=some v->v.size<=100:=λv e=>by cases e
 refine Ds.cA hz hX adq T func85 (awO f th m fu aa fr fs gn n key (bY th m n ad) (bc th m n ad)) ⟨by omega,s1,λhb=> ?_,λhb=> ?_⟩;have hb:gI (bY th m n ad) key=false:=by simpa using hb
 have hc:s7 key none (bY th m n ad)=5:=by show(if gI (bY th m n ad) key=true then(0:Int)else 5)=5;rw[if_neg (by rw[hb];simp)]
 have⟨f1,f2⟩:=ai4 (val:=val) (aa:=aa) (th:=th) (m:=m) (fu:=fu) (fr:=fr) (fs:=fs) (gn:=gn) (key:=key) (f:=f+1) (n:=n) (ad:=ad) (c:=(m,fu,fr,fs,gn,[],5)) (by rw[jR,if_neg (by rw[h];simp),if_pos hl,if_pos (by rw[hc];simp),hc]);exact fm ⟨[(0,.ah cB [],Lf.eB)],[0,1],5,[]⟩ rfl (le_refl _) (jQ.same _) f2 f1;have hb:gI (bY th m n ad) key=true:=by simpa using hb
 have hc:s7 key none (bY th m n ad)=0:=by show(if gI (bY th m n ad) key=true then(0:Int)else 5)=0;rw[if_pos hb]
 have ee:m8 key none (bY th m n ad)=dg (bY th m n ad) key:=by show(if gI (bY th m n ad) key=true then _ else _)=_;rw[if_pos hb]
 have sm:=j7 (key:=key) (op:=none) (es:=bY th m n ad) hk.2 hkk n1 n3;have⟨f1,f2⟩:=ai4 (val:=val) (aa:=aa) (th:=th) (m:=m) (fu:=fu) (fr:=fr) (fs:=fs) (gn:=gn) (key:=key) (f:=f+1) (n:=n) (ad:=ad) (c:=iy (r5 fs gn n) (bG th m fu fr (j5 fs n) true (dg (bY th m n ad) key) (bc th m n ad))) (by rw[jR,if_neg (by rw[h];simp),if_pos hl,if_neg (by rw[hc];simp),ee]);rw[ee]at sm;exact⟨rfl,rfl,rfl,rfl,hd,hf,⟨λ_=>m1 hl,λe=>by cases e⟩,sm,n4,fm ⟨[],[0,1],5,[]⟩ rfl (le_refl _) (jQ.same _) f2 f1⟩
theorem xq:∀f,fD P Bx.cw 85 (ym f)
 |0=>by
  rintro⟨⟨(th:Th),(m:As),(fu:Int),(aa:Int),(fr:Ws),(fs:Ws),(gn:Ws)⟩,(n:Int),(ad:Int),(key:ByteArray),(val:ByteArray)⟩ ⟨_,_,_,(h1:1<=ad/\ad<=17),(h2:18<=ad+((0:Nat):Int)),_⟩;omega
 |f+1=>by
  have T:=amp (xq f);refine dj func85 (by kernel_rfl) (λx=>le_of_ble_eq_true (by kernel_rfl)) ?_;rintro⟨⟨th,m,fu,aa,fr,fs,gn⟩,n,ad,key,val⟩ ⟨(hd:Ds.cf th m fu),(hf:Bx.okW fr),(hn:0<=n/\n<=65536),(h1:1<=ad/\ad<=17),(h2:18<=ad+((f+1:Nat):Int)),(hk:1<=key.size/\key.size<=24),(hv:val.size<=100),_⟩ X hX hz;refine Ds.cA hz hX adq T func85 (ayS f th m fu aa fr fs gn n ad key) ⟨rfl,rfl,hd,inI (by omega) (by omega),λh=> ?_,λh=>⟨λhl=> ?_,λhl=> ?_⟩⟩;have h:fE th m n ad≠0:=by simpa using h
  have⟨f1,f2⟩:=ai4 (val:=val) (aa:=aa) (th:=th) (m:=m) (fu:=fu) (fr:=fr) (fs:=fs) (gn:=gn) (key:=key) (f:=f+1) (n:=n) (ad:=ad) (c:=(m,fu,fr,fs,gn,[],fE th m n ad)) (by rw[jR,if_pos h]);exact fm ⟨[(0,.ah cB [],Lf.eB)],[0,1],5,[]⟩ rfl (le_refl _) (jQ.same _) f2 f1;have h:fE th m n ad=0:=by simpa using h
  have e:=aud (aa:=aa) (val:=val) (gn:=gn) (fs:=fs) hz hX T hd hf hk h hl;rw[hl];exact e;have h:fE th m n ad=0:=by simpa using h
  exact apC hz hX T hd hf h1 h2 hk h hl
end
def jS(th:Th)(m:As):Nat->Ws->Ws->Int->Int->Ws×Ws×Int×Int
 |0,fs,gn,_,_=>(fs,gn,0,4)|f+1,fs,gn,n,ad=>
  if fE th m n ad≠0 then(fs,gn,0,fE th m n ad)
  else if jF th m n ad=true\/(bc th m n ad).length≠1 then(fs,gn,n,0)
  else jS th m f (j5 fs n) (r5 fs gn n) ((bc th m n ad).getD 0 dB).2.1 (ad+1)
def apD(th:Th)(m:As)(f:Nat)(fs gn:Ws)(n ad:Int):Ws:=(jS th m f fs gn n ad).1
def apE(th:Th)(m:As)(f:Nat)(fs gn:Ws)(n ad:Int):Ws:=(jS th m f fs gn n ad).2.1
def apF(th:Th)(m:As)(f:Nat)(fs gn:Ws)(n ad:Int):Int:=(jS th m f fs gn n ad).2.2.1
def apG(th:Th)(m:As)(f:Nat)(fs gn:Ws)(n ad:Int):Int:=(jS th m f fs gn n ad).2.2.2
abbrev sLo:Spec (XT×Int):=⟨λ(_,n)=>[.ptr 0 0,az n],λ((th,m,fu,aa,fr,fs,gn),_)=>hT th m fu aa fr fs gn,λ((th,m,fu,_),n)=>[Ds.cf th m fu,0<=n/\n<=65536],
 λ((th,m,fu,aa,fr,fs,gn),n)=>hT th m fu aa fr (apD th m 17 fs gn n 1) (apE th m 17 fs gn n 1),λ((th,m,_,_,_,fs,gn),n)=>.bd [az (apF th m 17 fs gn n 1),az (apG th m 17 fs gn n 1)]⟩
def amq:aF:=[(44,zq),(90,ame)]
def apH:List (Nat×Norm):=[(3,⟨[],[0,1,6],4,[]⟩)]
def cLo(th:Th)(m:As)(fu aa:Int)(fr fs gn:Ws)(n ad:Int):bQ:=⟨sl 38 [(0,.ptr 0 0),(1,az n),(6,az ad)],hT th m fu aa fr fs gn,hd f64 3,{}⟩
theorem ayU(th:Th)(m:As)(fu aa:Int)(fr fs gn:Ws)(n:Int):run P amq.sum f64 apH (start f64 [.ptr 0 0,az n] (hT th m fu aa fr fs gn))=
 Tree.at (cLo th m fu aa fr fs gn n 1):=by kernel_rfl
theorem ayV(th:Th)(m:As)(fu aa:Int)(fr fs gn:Ws)(n ad:Int):run P amq.sum f64 apH (cLo th m fu aa fr fs gn n ad)=
 Tree.ab (bD (some [AV.ptr 0 0,az n,az ad])) (.ab (bD (some (hT th m fu aa fr fs gn))) (.ab (Ds.cf th m fu) (.ab (aw n) (.ite (fE th m n ad !=0) (.ret (hT th m fu aa fr fs gn++[.ak [.s (.bool (jF th m n ad)),.s (.ro (.ah cE (bY th m n ad))),.s (.ro (.ah cB (bc th m n ad)))] 99]) (.bd [.s (.aO .i64 0),az (fE th m n ad)])) (.ite (jF th m n ad) (.ret (hT th m fu aa fr fs gn++[.ak [.s (.bool (jF th m n ad)),.s (.ro (.ah cE (bY th m n ad))),.s (.ro (.ah cB (bc th m n ad)))] 99]) (.bd [az n,.s (.aO .i64 0)])) (.ite ((↑(bc th m n ad).length:Int) !=1) (.ret (hT th m fu aa fr fs gn++[.ak [.s (.bool (jF th m n ad)),.s (.ro (.ah cE (bY th m n ad))),.s (.ro (.ah cB (bc th m n ad)))] 99]) (.bd [az n,.s (.aO .i64 0)])) (.ab (bD (some [AV.ptr 0 0,az n])) (.ab (bD (some (hT th m fu aa fr fs gn))) (.ab ((0:Int)<=0) (.ab ((0:Int)<(↑(bc th m n ad).length:Int)) (.ab (aw (ad+1)) (.at (cLo th m fu aa fr (j5 fs n) (r5 fs gn n) ((bc th m n ad).getD 0 (CL.d cB)).snd.fst (ad+1)))))))))))))):=by kernel_rfl
theorem adr{Z:aZ}:amq.Ok P Z:=aF.Ok.cons (pe.sum mNo) (aF.Ok.cons (xk.sum mLv) aF.Ok.nil)
theorem amr{th:Th}{m:As}{fu aa:Int}{fr fs gn:Ws}{n:Int}{c:Ws×Ws×Int×Int}(e:c=jS th m 17 fs gn n 1):
 sLo.eG ((th,m,fu,aa,fr,fs,gn),n)=hT th m fu aa fr c.1 c.2.1/\sLo.out ((th,m,fu,aa,fr,fs,gn),n)=.bd [az c.2.2.1,az c.2.2.2]:=by
 subst e;exact⟨rfl,rfl⟩
theorem ads{Z:aZ}:fD P Z 64 sLo:=by
 refine fS func64 ?_;rintro⟨⟨th,m,fu,aa,fr,dd,de⟩,n0⟩ ⟨(hd:Ds.cf th m fu),(hn0:0<=n0/\n0<=65536),_⟩ X hX hz
 have hm:∀y∈apH,(hT th m fu aa fr dd de).length<=y.2.m:=λy hy=>by
  simp only[apH,mem_singleton]at hy;subst hy;exact le_refl _
 have loop:∀(f:Nat) (fs gn:Ws) (n ad:Int),1<=ad/\ad<=17->18<=ad+(f:Int)->0<=n/\n<=65536->jS th m f fs gn n ad=jS th m 17 dd de n0 1->
  Safe P 64 X (fq sLo ((th,m,fu,aa,fr,dd,de),n0)) (cLo th m fu aa fr fs gn n ad):=by
  intro f
  induction f with
  |zero=>intro fs gn n ad h1 h2;omega
  |succ f ih=>
   intro fs gn n ad h1 h2 hn e;rw[jS]at e;refine Ds.cA hz hX hm adr func64 (ayV th m fu aa fr fs gn n ad) ⟨rfl,rfl,hd,inI (by omega) (by omega),λh=> ?_,λh=>⟨λhl=> ?_,λhl=>⟨λh3=> ?_,λh3=> ?_⟩⟩⟩;have h:fE th m n ad≠0:=by simpa using h
   rw[if_pos h]at e;have⟨f1,f2⟩:=amr (fu:=fu) (aa:=aa) (fr:=fr) e;exact bK 4 rfl (le_refl _) f2 f1;have h:fE th m n ad=0:=by simpa using h
   rw[if_neg (by rw[h];simp),if_pos (.inl hl)]at e;have⟨f1,f2⟩:=amr (fu:=fu) (aa:=aa) (fr:=fr) e;exact bK 4 rfl (le_refl _) f2 f1;have h:fE th m n ad=0:=by simpa using h
   have h3:¬((bc th m n ad).length:Int)=1:=by simpa using h3
   rw[if_neg (by rw[h];simp),if_pos (.inr (by omega))]at e;have⟨f1,f2⟩:=amr (fu:=fu) (aa:=aa) (fr:=fr) e;exact bK 4 rfl (le_refl _) f2 f1;have h:fE th m n ad=0:=by simpa using h
   have h3:((bc th m n ad).length:Int)=1:=by simpa using h3
   rw[if_neg (by rw[h];simp),if_neg (by rintro(a|a);rw[hl]at a;cases a;omega)]at e;have pg:=qw h 0;have⟨_,_,_,_,_,n5,_⟩:=eu h;exact⟨rfl,rfl,by omega,by omega,inI (by omega) (by omega),ih _ _ _ _ ⟨by omega,by omega⟩ (by omega) pg e⟩
 exact Ds.cA hz hX hm adr func64 (ayU th m fu aa fr dd de n0) (loop 17 dd de n0 1 ⟨by omega,by omega⟩ (by omega) hn0 rfl)
end Ts
