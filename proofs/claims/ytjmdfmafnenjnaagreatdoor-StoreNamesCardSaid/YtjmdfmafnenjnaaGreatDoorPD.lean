/- Lemmas: L3, L4, L5, L6, L7, Lm, R4, R6, R7, R8, SxRoom, R9, R10, Bx1, Bx2, Bx3, Bx4, Bx5, Bx6, M0, Bx7, L7r, SxWeak, N1, N2, N3, N4, Rp, Hq, M1, N5, SxTup, N6. -/
import Derived.Test.YtjmdfmafnenjnaaGreatDoorProg
import Derived.Lib.TrailingZeros
import Derived.Shelf.Spec.TrailingZeros
import Derived.Test.YtjmdfmafnenjnaaGreatDoorRows
import Derived.WalkKit
import Derived.WalkSpells
import Derived.WalkLawsBesides
import Derived.Test.YtjmdfmafnenjnaaGreatDoorPC
namespace Lf
open Go Go.Sx Go.Proofs
abbrev asX:=cp [tBr,dI] [bB] (fun _=>[]) (fun((a,_,()),b,())=>(lg a b,()))
abbrev asY:=cp [tEn,dI] [bB] (fun _=>[]) (fun((a,_,()),b,())=>(lg a b,()))
def zP:aH:=[(127,asX)
 ,(152,asY)
 ]
def ajI:List (Nat×Norm):=[(3,⟨[],[0,1,2,8,9,10],0,[]⟩)]
noncomputable def ap9(bs:List Br)(key:ByteArray)(i j:Int):bw:=⟨sl 49 [(0,.s (.ro (.ad cB bs))),(1,.s (.str key)),(2,.s (.j8 127)),(8,.s (.int .i64 (bs.length:Int))),(9,.s (.int .i64 i)),(10,.s (.int .i64 j))],[],hd Tryz.f126 3,{}⟩
theorem ajJ(bs:List Br)(key:ByteArray):run P zP.sum Tryz.f126 ajI (start Tryz.f126 [.s (.ro (.ad cB bs)),.s (.str key),.s (.j8 127)] [])=
 Tree.at (.mk (sl 49 [(0,.s (.ro (.ad [.str,.int .i64] bs))),(1,.s (.str key)),(2,.s (.j8 127)),(8,.s (.int .i64 (↑bs.length:Int))),(9,.s (.int .i64 0)),(10,.s (.int .i64 (↑bs.length:Int)))]) [] (hd Tryz.f126 3) (.mk none false 0 [] 0)):=by kernel_rfl
theorem adi(bs:List Br)(key:ByteArray)(i j:Int):run P zP.sum Tryz.f126 ajI (ap9 bs key i j)=
 Tree.ite (decide (i<j)) (Tree.need (ay (i+j)) (Tree.need ((0:Int)≤(1:Int)) (Tree.need ((0:Int)≤IntKind.i64.wrap ((IntKind.u64.wrap (i+j)).fdiv ((2:Int)^min (Int.toNat (1:Int)) IntKind.u64.bits))) (Tree.need (IntKind.i64.wrap ((IntKind.u64.wrap (i+j)).fdiv ((2:Int)^min (Int.toNat (1:Int)) IntKind.u64.bits))<(↑bs.length:Int)) (Tree.ite (decide (lg (bs.getD (IntKind.i64.wrap ((IntKind.u64.wrap (i+j)).fdiv ((2:Int)^min (Int.toNat (1:Int)) IntKind.u64.bits))).toNat (CL.d [CK.str,CK.int IntKind.i64])).fst key<(0:Int))) (Tree.need (ay (IntKind.i64.wrap ((IntKind.u64.wrap (i+j)).fdiv ((2:Int)^min (Int.toNat (1:Int)) IntKind.u64.bits))+(1:Int))) (Tree.at (bw.mk (sl (49:Nat) [((0:Nat),AV.s (SV.ro (aL.ad [CK.str,CK.int IntKind.i64] bs))),((1:Nat),AV.s (SV.str key)),((2:Nat),AV.s (SV.j8 (127:Nat))),((8:Nat),AV.s (SV.int IntKind.i64 (↑bs.length:Int))),((9:Nat),AV.s (SV.int IntKind.i64 (IntKind.i64.wrap ((IntKind.u64.wrap (i+j)).fdiv ((2:Int)^min (Int.toNat (1:Int)) IntKind.u64.bits))+(1:Int)))),((10:Nat),AV.s (SV.int IntKind.i64 j))]) [] (hd Tryz.f126 (3:Nat)) (kU.mk none false (0:Nat) [] (0:Nat))))) (Tree.at (bw.mk (sl (49:Nat) [((0:Nat),AV.s (SV.ro (aL.ad [CK.str,CK.int IntKind.i64] bs))),((1:Nat),AV.s (SV.str key)),((2:Nat),AV.s (SV.j8 (127:Nat))),((8:Nat),AV.s (SV.int IntKind.i64 (↑bs.length:Int))),((9:Nat),AV.s (SV.int IntKind.i64 i)),((10:Nat),AV.s (SV.int IntKind.i64 (IntKind.i64.wrap ((IntKind.u64.wrap (i+j)).fdiv ((2:Int)^min (Int.toNat (1:Int)) IntKind.u64.bits)))))]) [] (hd Tryz.f126 (3:Nat)) (kU.mk none false (0:Nat) [] (0:Nat))))))))) (Tree.ite (decide (i<(↑bs.length:Int))) (Tree.need ((0:Int)≤i) (Tree.need (i<(↑bs.length:Int)) (Tree.ret [] (AV.bg [AV.s (SV.int IntKind.i64 i),AV.s (SV.bool (lg (bs.getD i.toNat (CL.d [CK.str,CK.int IntKind.i64])).fst key==(0:Int)))])))) (Tree.ret [] (AV.bg [AV.s (SV.int IntKind.i64 i),AV.s (SV.aC false)]))):=by kernel_rfl
noncomputable def aqa(bs:List En)(key:ByteArray)(i j:Int):bw:=⟨sl 49 [(0,.s (.ro (.ad cE bs))),(1,.s (.str key)),(2,.s (.j8 152)),(8,.s (.int .i64 (bs.length:Int))),(9,.s (.int .i64 i)),(10,.s (.int .i64 j))],[],hd Tryz.f151 3,{}⟩
theorem ajK(bs:List En)(key:ByteArray):run P zP.sum Tryz.f151 ajI (start Tryz.f151 [.s (.ro (.ad cE bs)),.s (.str key),.s (.j8 152)] [])=
 Tree.at (.mk (sl 49 [(0,.s (.ro (.ad [.str,.str] bs))),(1,.s (.str key)),(2,.s (.j8 152)),(8,.s (.int .i64 (↑bs.length:Int))),(9,.s (.int .i64 0)),(10,.s (.int .i64 (↑bs.length:Int)))]) [] (hd Tryz.f151 3) (.mk none false 0 [] 0)):=by kernel_rfl
theorem adj(bs:List En)(key:ByteArray)(i j:Int):run P zP.sum Tryz.f151 ajI (aqa bs key i j)=
 Tree.ite (decide (i<j)) (Tree.need (ay (i+j)) (Tree.need ((0:Int)≤(1:Int)) (Tree.need ((0:Int)≤IntKind.i64.wrap ((IntKind.u64.wrap (i+j)).fdiv ((2:Int)^min (Int.toNat (1:Int)) IntKind.u64.bits))) (Tree.need (IntKind.i64.wrap ((IntKind.u64.wrap (i+j)).fdiv ((2:Int)^min (Int.toNat (1:Int)) IntKind.u64.bits))<(↑bs.length:Int)) (Tree.ite (decide (lg (bs.getD (IntKind.i64.wrap ((IntKind.u64.wrap (i+j)).fdiv ((2:Int)^min (Int.toNat (1:Int)) IntKind.u64.bits))).toNat (CL.d [CK.str,CK.str])).fst key<(0:Int))) (Tree.need (ay (IntKind.i64.wrap ((IntKind.u64.wrap (i+j)).fdiv ((2:Int)^min (Int.toNat (1:Int)) IntKind.u64.bits))+(1:Int))) (Tree.at (bw.mk (sl (49:Nat) [((0:Nat),AV.s (SV.ro (aL.ad [CK.str,CK.str] bs))),((1:Nat),AV.s (SV.str key)),((2:Nat),AV.s (SV.j8 (152:Nat))),((8:Nat),AV.s (SV.int IntKind.i64 (↑bs.length:Int))),((9:Nat),AV.s (SV.int IntKind.i64 (IntKind.i64.wrap ((IntKind.u64.wrap (i+j)).fdiv ((2:Int)^min (Int.toNat (1:Int)) IntKind.u64.bits))+(1:Int)))),((10:Nat),AV.s (SV.int IntKind.i64 j))]) [] (hd Tryz.f151 (3:Nat)) (kU.mk none false (0:Nat) [] (0:Nat))))) (Tree.at (bw.mk (sl (49:Nat) [((0:Nat),AV.s (SV.ro (aL.ad [CK.str,CK.str] bs))),((1:Nat),AV.s (SV.str key)),((2:Nat),AV.s (SV.j8 (152:Nat))),((8:Nat),AV.s (SV.int IntKind.i64 (↑bs.length:Int))),((9:Nat),AV.s (SV.int IntKind.i64 i)),((10:Nat),AV.s (SV.int IntKind.i64 (IntKind.i64.wrap ((IntKind.u64.wrap (i+j)).fdiv ((2:Int)^min (Int.toNat (1:Int)) IntKind.u64.bits)))))]) [] (hd Tryz.f151 (3:Nat)) (kU.mk none false (0:Nat) [] (0:Nat))))))))) (Tree.ite (decide (i<(↑bs.length:Int))) (Tree.need ((0:Int)≤i) (Tree.need (i<(↑bs.length:Int)) (Tree.ret [] (AV.bg [AV.s (SV.int IntKind.i64 i),AV.s (SV.bool (lg (bs.getD i.toNat (CL.d [CK.str,CK.str])).fst key==(0:Int)))])))) (Tree.ret [] (AV.bg [AV.s (SV.int IntKind.i64 i),AV.s (SV.aC false)]))):=by kernel_rfl
abbrev aeX(x:Br):ByteArray:=x.1
abbrev zQ(x:En):ByteArray:=x.1
abbrev mJ(l:List Br):List ByteArray:=l.map aeX
abbrev cg(l:List En):List ByteArray:=l.map zQ
def cY(ks:List ByteArray)(key:ByteArray):Nat:=(ks.takeWhile (fun k=>slt k key)).length
def jW(ks:List ByteArray)(key:ByteArray):Bool:=decide (ks[cY ks key]? =some key)
def iU(ks:List ByteArray):Prop:=∀i j,i<j→j<ks.length→slt (ks.getD i ByteArray.empty) (ks.getD j ByteArray.empty)=true
theorem eH{α:Type}(l:List α)(f:α→ByteArray)(d:α)(t:Nat)(hd:f d=ByteArray.empty:=by rfl):(l.map f).getD t ByteArray.empty=f (l.getD t d):=by
 simp only[List.getD,List.getElem?_map];cases l[t]? with
 |none=>exact hd.symm
 |some x=>rfl
theorem abZ:∀{ks:List ByteArray} {key:ByteArray} {i:Nat},i≤ks.length→(∀t,t<i→slt (ks.getD t ByteArray.empty) key=true)→(i<ks.length→slt (ks.getD i ByteArray.empty) key=false)→cY ks key=i
 |[],key,i,h,_,_=>by
  simp only[List.length_nil,Nat.le_zero]at h;subst h;rfl
 |k::ks,key,0,h,_,h2=>by
  have:=h2 (by simp);simp only[List.getD_cons_zero]at this;simp[cY,List.takeWhile,this]
 |k::ks,key,i+1,h,h1,h2=>by
  have h0:=h1 0 (by omega);simp only[List.getD_cons_zero]at h0;have:=abZ (ks:=ks) (key:=key) (i:=i) (by simpa using h) (fun t ht=>by simpa using h1 (t+1) (by omega)) (fun hi=>by simpa using h2 (by simpa using hi));simp only[cY]at this ⊢;simp[List.takeWhile,h0,this]
theorem tD(n:Int):(n==0)=decide (n=0):=by
 by_cases h:n=0<;>simp[h]
theorem ag5{s:Int}(h0:0≤s)(h1:s<9223372036854775808):(IntKind.u64.wrap s).fdiv (2^min (Int.toNat 1) IntKind.u64.bits)=s / 2:=by
 have e1:IntKind.u64.wrap s=s:=by
  show s%18446744073709551616=s;omega
 rw[e1];show s.fdiv 2=s / 2;rw[Int.fdiv_eq_ediv_of_nonneg _ (by omega)]
theorem kA{Z:aW}:zP.Ok P Z:=aH.Ok.cons aeW.sum (
 aH.Ok.cons abY.sum
 aH.Ok.nil)
theorem anN{Z:aW}:dr P Z 126 [uD,dI,.b .fn] [bB,c9] (fun(l,_,f,())=>[(f:Nat)=127,(l:List Br).length≤1000000,iU (mJ l)]) (fun(l,key,_,())=>((cY (mJ l) key:Nat),jW (mJ l) key,())):=by
 refine aB Tryz.func126 (by kernel_rfl) (by kernel_rfl) ?_;rintro⟨(l:List Br),(key:ByteArray),(f:Nat),⟨⟩⟩ _ ⟨(hf:f=127),(hl:l.length≤1000000),(hs:iU (mJ l)),_⟩ X hX hz;subst hf;have hk:∀t,(mJ l).getD t ByteArray.empty=(l.getD t dB).1:=fun t=>eH l aeX dB t;have hn:(mJ l).length=l.length:=List.length_map _;have loop:∀(n i j:Nat),j - i≤n→i≤j→j≤l.length→(∀t,t<i→slt (l.getD t dB).1 key=true)→(∀t,j≤t→t<l.length→slt (l.getD t dB).1 key=false)→
  Safe P 126 X (Ends [bB,c9] ((cY (mJ l) key:Nat),jW (mJ l) key,())) (ap9 l key (i:Int) (j:Int)):=by
  intro n
  induction n with
  |zero=>
   intro i j h1 h2 h3 h4 h5;have hlb:cY (mJ l) key=i:=abZ (by rw[hn];omega) (fun t ht=>by rw[hk];exact h4 t ht) (fun h=>by rw[hn]at h;rw[hk];exact h5 i (by omega) h);refine go hz hX kA Tryz.func126 (adi l key i j) ⟨fun h=>absurd (of_decide_eq_true h) (by omega),fun h=>⟨fun h6=>⟨by omega,of_decide_eq_true h6, ?_⟩,fun h6=> ?_⟩⟩
   ·have h7:i<l.length:=by have:=of_decide_eq_true h6;omega
    simp only[Int.toNat_natCast];rw[jW,hlb];refine aV ((i:Int),lg (l.getD i dB).1 key==0,()) ?_ (by kernel_rfl);congr 2;rw[List.getElem?_map,List.getElem?_eq_getElem h7,bM h7];simp only[Option.map_some,Option.some.injEq];rw[tD,decide_eq_decide.2 (ada _ _)]
   ·have h7:¬i<l.length:=by have:=of_decide_eq_false h6;omega
    rw[jW,hlb];refine aV ((i:Int),false,()) ?_ (by kernel_rfl);congr 2;rw[List.getElem?_map,List.getElem?_eq_none (Nat.le_of_not_lt h7)];rfl
  |succ n ih=>
   intro i j h1 h2 h3 h4 h5;by_cases kP:i<j
   ·have e:=ag5 (s:=(i:Int)+(j:Int)) (by omega) (by omega);have e2:((i:Int)+(j:Int)) / 2=((i+j) / 2:Nat):=by omega
    refine go hz hX kA Tryz.func126 (adi l key i j) ?_;have e3:IntKind.i64.wrap (((i+j) / 2:Nat):Int)=(((i+j) / 2:Nat):Int):=cn ⟨by omega,by omega⟩;rw[e,e2,e3];simp only[Int.toNat_natCast];refine⟨fun h=>⟨⟨by omega,by omega⟩,by decide,by omega,by omega,fun h6=>⟨⟨by omega,by omega⟩, ?_⟩,fun h6=> ?_⟩,fun h=>absurd (of_decide_eq_false h) (by omega)⟩
    ·have h7:slt (l.getD ((i+j) / 2) dB).1 key=true:=(rM _ _).1 (of_decide_eq_true h6);refine ih ((i+j) / 2+1) j (by omega) (by omega) h3 (fun t ht=> ?_) h5;by_cases hte:t=(i+j) / 2
     ·rw[hte];exact h7
     ·have:=hs t ((i+j) / 2) (by omega) (by omega);rw[hk,hk]at this;exact gk this h7
    ·have h7:slt (l.getD ((i+j) / 2) dB).1 key=false:=by
      cases h8:slt (l.getD ((i+j) / 2) dB).1 key
      ·rfl
      ·exact absurd ((rM _ _).2 h8) (of_decide_eq_false h6)
     refine ih i ((i+j) / 2) (by omega) (by omega) (by omega) h4 (fun t ht htl=> ?_);by_cases hte:t=(i+j) / 2
     ·rw[hte];exact h7
     ·have:=hs ((i+j) / 2) t (by omega) (by omega);rw[hk,hk]at this;cases h8:slt (l.getD t dB).1 key
      ·rfl
      ·rw[gk this h8]at h7;cases h7
   ·exact ih i j (by omega) h2 h3 h4 h5
 exact go hz hX kA Tryz.func126 (ajJ l key) (loop l.length 0 l.length (by omega) (by omega) (by omega) (fun t ht=>by omega) (fun t ht htl=>by omega))
theorem anO{Z:aW}:dr P Z 151 [ph,dI,.b .fn] [bB,c9] (fun(l,_,f,())=>[(f:Nat)=152,(l:List En).length≤1000000,iU (cg l)]) (fun(l,key,_,())=>((cY (cg l) key:Nat),jW (cg l) key,())):=by
 refine aB Tryz.func151 (by kernel_rfl) (by kernel_rfl) ?_;rintro⟨(l:List En),(key:ByteArray),(f:Nat),⟨⟩⟩ _ ⟨(hf:f=152),(hl:l.length≤1000000),(hs:iU (cg l)),_⟩ X hX hz;subst hf;have hk:∀t,(cg l).getD t ByteArray.empty=(l.getD t dE).1:=fun t=>eH l zQ dE t;have hn:(cg l).length=l.length:=List.length_map _;have loop:∀(n i j:Nat),j - i≤n→i≤j→j≤l.length→(∀t,t<i→slt (l.getD t dE).1 key=true)→(∀t,j≤t→t<l.length→slt (l.getD t dE).1 key=false)→
  Safe P 151 X (Ends [bB,c9] ((cY (cg l) key:Nat),jW (cg l) key,())) (aqa l key (i:Int) (j:Int)):=by
  intro n
  induction n with
  |zero=>
   intro i j h1 h2 h3 h4 h5;have hlb:cY (cg l) key=i:=abZ (by rw[hn];omega) (fun t ht=>by rw[hk];exact h4 t ht) (fun h=>by rw[hn]at h;rw[hk];exact h5 i (by omega) h);refine go hz hX kA Tryz.func151 (adj l key i j) ⟨fun h=>absurd (of_decide_eq_true h) (by omega),fun h=>⟨fun h6=>⟨by omega,of_decide_eq_true h6, ?_⟩,fun h6=> ?_⟩⟩
   ·have h7:i<l.length:=by have:=of_decide_eq_true h6;omega
    simp only[Int.toNat_natCast];rw[jW,hlb];refine aV ((i:Int),lg (l.getD i dE).1 key==0,()) ?_ (by kernel_rfl);congr 2;rw[List.getElem?_map,List.getElem?_eq_getElem h7,bM h7];simp only[Option.map_some,Option.some.injEq];rw[tD,decide_eq_decide.2 (ada _ _)]
   ·have h7:¬i<l.length:=by have:=of_decide_eq_false h6;omega
    rw[jW,hlb];refine aV ((i:Int),false,()) ?_ (by kernel_rfl);congr 2;rw[List.getElem?_map,List.getElem?_eq_none (Nat.le_of_not_lt h7)];rfl
  |succ n ih=>
   intro i j h1 h2 h3 h4 h5;by_cases kP:i<j
   ·have e:=ag5 (s:=(i:Int)+(j:Int)) (by omega) (by omega);have e2:((i:Int)+(j:Int)) / 2=((i+j) / 2:Nat):=by omega
    refine go hz hX kA Tryz.func151 (adj l key i j) ?_;have e3:IntKind.i64.wrap (((i+j) / 2:Nat):Int)=(((i+j) / 2:Nat):Int):=cn ⟨by omega,by omega⟩;rw[e,e2,e3];simp only[Int.toNat_natCast];refine⟨fun h=>⟨⟨by omega,by omega⟩,by decide,by omega,by omega,fun h6=>⟨⟨by omega,by omega⟩, ?_⟩,fun h6=> ?_⟩,fun h=>absurd (of_decide_eq_false h) (by omega)⟩
    ·have h7:slt (l.getD ((i+j) / 2) dE).1 key=true:=(rM _ _).1 (of_decide_eq_true h6);refine ih ((i+j) / 2+1) j (by omega) (by omega) h3 (fun t ht=> ?_) h5;by_cases hte:t=(i+j) / 2
     ·rw[hte];exact h7
     ·have:=hs t ((i+j) / 2) (by omega) (by omega);rw[hk,hk]at this;exact gk this h7
    ·have h7:slt (l.getD ((i+j) / 2) dE).1 key=false:=by
      cases h8:slt (l.getD ((i+j) / 2) dE).1 key
      ·rfl
      ·exact absurd ((rM _ _).2 h8) (of_decide_eq_false h6)
     refine ih i ((i+j) / 2) (by omega) (by omega) (by omega) h4 (fun t ht htl=> ?_);by_cases hte:t=(i+j) / 2
     ·rw[hte];exact h7
     ·have:=hs ((i+j) / 2) t (by omega) (by omega);rw[hk,hk]at this;cases h8:slt (l.getD t dE).1 key
      ·rfl
      ·rw[gk this h8]at h7;cases h7
   ·exact ih i j (by omega) h2 h3 h4 h5
 exact go hz hX kA Tryz.func151 (ajK l key) (loop l.length 0 l.length (by omega) (by omega) (by omega) (fun t ht=>by omega) (fun t ht htl=>by omega))
end Lf
namespace Lf
open Go Go.Sx Go.Proofs
abbrev asZ:=cp [uD,dI,.b .fn] [bB,c9] (fun(l,_,f,())=>[(f:Nat)=127,(l:List Br).length≤1000000,iU (mJ l)]) (fun(l,key,_,())=>((cY (mJ l) key:Nat),jW (mJ l) key,()))
abbrev as0:=cp [ph,dI,.b .fn] [bB,c9] (fun(l,_,f,())=>[(f:Nat)=152,(l:List En).length≤1000000,iU (cg l)]) (fun(l,key,_,())=>((cY (cg l) key:Nat),jW (cg l) key,()))
def ag6:aH:=[(126,asZ)
 ,(151,as0)
 ]
theorem aeY(l:List Br)(key:ByteArray):run P ag6.sum Tryz.f79 [] (start Tryz.f79 [.s (.ro (.ad cB l)),.s (.str key)] [])=
 Tree.need ((127:Nat)=(127:(Ty.b B.fn).V)) (.need (l.length≤1000000) (.need (iU (mJ l)) (.ite (!jW (mJ l) key) (.need (ay ((↑(cY (mJ l) key):bB.V) - (1:Int))) (.ret [] (.s (.int .i64 (imax 0 ((↑(cY (mJ l) key):bB.V) - (1:Int))))))) (.ret [] (.s (.int .i64 (imax 0 (↑(cY (mJ l) key):bB.V)))))))):=by kernel_rfl
theorem ab0(l:List En)(key:ByteArray):run P ag6.sum Tryz.f115 [] (start Tryz.f115 [.s (.ro (.ad cE l)),.s (.str key)] [])=
 Tree.need ((152:Nat)=(152:(Ty.b B.fn).V)) (.need (l.length≤1000000) (.need (iU (cg l)) (.ret [] (.bg [.s (.int .i64 (↑(cY (cg l) key):bB.V)),.s (.bool (jW (cg l) key))])))):=by kernel_rfl
def xK:List (Nat×Norm):=[(3,⟨[(3,.ints .i64 [],3)],[1,3,9,10,11],0,[]⟩),(8,⟨[(3,.ints .i64 [],3)],[3,28,29,30],0,[]⟩)]
noncomputable def adk(l:Bool)(es:List En)(bs:List Br)(acc:List Int)(i:Int):bw:=⟨sl 43 [(1,.ptr 0 0),(3,.vec 1),(9,.s (.ro (.ad cE es))),(10,.s (.int .i64 (es.length:Int))),(11,.s (.int .i64 i))],[obN l es bs 131,.vec (.ints .i64 acc) 3],hd Tryz.f180 3,{}⟩
noncomputable def adl(bs:List Br)(acc:List Int)(i:Int):bw:=⟨sl 43 [(3,.vec 0),(28,.s (.ro (.ad cB bs))),(29,.s (.int .i64 (bs.length:Int))),(30,.s (.int .i64 i))],[.vec (.ints .i64 acc) 3],hd Tryz.f180 8,{}⟩
theorem aeZ(l:Bool)(es:List En)(bs:List Br):run P gL.sum Tryz.f180 xK (start Tryz.f180 [avN l es bs] [])=
 Tree.at (.mk (sl 43 [(1,.ptr 0 0),(3,.vec 1),(9,.s (.ro (.ad [.str,.str] es))),(10,.s (.int .i64 (↑es.length:Int))),(11,.s (.int .i64 0))]) [.own [.s (.bool l),.s (.ro (.ad [.str,.str] es)),.s (.ro (.ad [.str,.int .i64] bs))] 131,.vec (.ints .i64 []) 3] (hd Tryz.f180 3) (.mk none false 0 [] 0)):=by kernel_rfl
theorem tE(l:Bool)(es:List En)(bs:List Br)(acc:List Int)(i:Int):run P gL.sum Tryz.f180 xK (adk l es bs acc i)=
 Tree.ite (decide (i<(↑es.length:Int))) (.need ((0:Int)≤i) (.need (i<(↑es.length:Int)) (.need (ay ((2:Int)+(↑(ByteArray.size (es.getD i.toNat (CL.d [.str,.str])).fst):Int))) (.need (ay ((2:Int)+(↑(ByteArray.size (es.getD i.toNat (CL.d [.str,.str])).fst):Int)+(↑(ByteArray.size (es.getD i.toNat (CL.d [.str,.str])).snd.fst):Int))) (.need ((acc.length+1)*(8:Nat)≤140737488355328) (.need (ay (i+1)) (.at (.mk (sl 43 [(1,.ptr 0 0),(3,.vec 1),(9,.s (.ro (.ad [.str,.str] es))),(10,.s (.int .i64 (↑es.length:Int))),(11,.s (.int .i64 (i+1)))]) [.own [.s (.bool l),.s (.ro (.ad [.str,.str] es)),.s (.ro (.ad [.str,.int .i64] bs))] 131,.vec (.ints .i64 (acc++[(2:Int)+(↑(ByteArray.size (es.getD i.toNat (CL.d [.str,.str])).fst):Int)+(↑(ByteArray.size (es.getD i.toNat (CL.d [.str,.str])).snd.fst):Int)])) 3] (hd Tryz.f180 3) (.mk none false 0 [] 0))))))))) (.at (.mk (sl 43 [(3,.vec 0),(28,.s (.ro (.ad [.str,.int .i64] bs))),(29,.s (.int .i64 (↑bs.length:Int))),(30,.s (.int .i64 0))]) [.vec (.ints .i64 acc) 3] (hd Tryz.f180 8) (.mk none false 0 [] 0))):=by kernel_rfl
theorem tF(bs:List Br)(acc:List Int)(i:Int):run P gL.sum Tryz.f180 xK (adl bs acc i)=
 Tree.ite (decide (i<(↑bs.length:Int))) (.need ((0:Int)≤i) (.need (i<(↑bs.length:Int)) (.need (ay ((3:Int)+(↑(ByteArray.size (bs.getD i.toNat (CL.d [.str,.int .i64])).fst):Int))) (.need ((acc.length+1)*(8:Nat)≤140737488355328) (.need (ay (i+1)) (.at (.mk (sl 43 [(3,.vec 0),(28,.s (.ro (.ad [.str,.int .i64] bs))),(29,.s (.int .i64 (↑bs.length:Int))),(30,.s (.int .i64 (i+1)))]) [.vec (.ints .i64 (acc++[(3:Int)+(↑(ByteArray.size (bs.getD i.toNat (CL.d [.str,.int .i64])).fst):Int)])) 3] (hd Tryz.f180 8) (.mk none false 0 [] 0)))))))) (.ret [.vec (.ints .i64 acc) 3] (.vec 0)):=by kernel_rfl
def szE(x:En):Int:=2+(x.1.size:Int)+(x.2.1.size:Int)
def szB(x:Br):Int:=3+(x.1.size:Int)
def aO(es:List En)(bs:List Br):List Int:=es.map szE++bs.map szB
def cH(es:List En)(bs:List Br):Int:=1+((es.map szE).sum+(bs.map szB).sum)
def bh(es:List En):Prop:=es.length≤1000∧∀x∈es,x.1.size≤1000∧x.2.1.size≤1000
def bk(bs:List Br):Prop:=bs.length≤1000∧∀x∈bs,x.1.size≤1000
abbrev ag7:=cp [ed] [zL] (fun((_,es,bs,()),())=>[bh es,bk bs]) (fun((_,es,bs,()),())=>(aO es bs,()))
def alT:aH:=[(180,ag7)]
def ag8:List (Nat×Norm):=[(3,⟨[],[3,7,8,9],0,[]⟩)]
noncomputable def alU(l:List Int)(a i:Int):bw:=⟨sl 18 [(3,.s (.int .i64 a)),(7,.vec 0),(8,.s (.int .i64 (l.length:Int))),(9,.s (.int .i64 i))],[.vec (.ints .i64 l) 3],hd Tryz.f175 3,{}⟩
theorem treeSize(l:Bool)(es:List En)(bs:List Br):run P alT.sum Tryz.f175 ag8 (start Tryz.f175 [avN l es bs] [])=
 Tree.need (bh es) (.need (bk bs) (.at (.mk (sl 18 [(3,.s (.int .i64 1)),(7,.vec 0),(8,.s (.int .i64 (↑(aO es bs).length:Int))),(9,.s (.int .i64 0))]) [.vec (.ints .i64 (aO es bs)) 3] (hd Tryz.f175 3) (.mk none false 0 [] 0)))):=by kernel_rfl
theorem zR(l:List Int)(a i:Int):run P alT.sum Tryz.f175 ag8 (alU l a i)=
 Tree.ite (decide (i<(↑l.length:Int))) (.need ((0:Int)≤i) (.need (i<(↑l.length:Int)) (.need (ay (a+l.getD i.toNat 0)) (.need (ay (i+1)) (.at (.mk (sl 18 [(3,.s (.int .i64 (a+l.getD i.toNat 0))),(7,.vec 0),(8,.s (.int .i64 (↑l.length:Int))),(9,.s (.int .i64 (i+1)))]) [.vec (.ints .i64 l) 3] (hd Tryz.f175 3) (.mk none false 0 [] 0))))))) (.ret [.vec (.ints .i64 l) 3] (.s (.int .i64 a))):=by kernel_rfl
abbrev ag9:=cp [ed] [bB] (fun((_,es,bs,()),())=>[bh es,bk bs]) (fun((_,es,bs,()),())=>(cH es bs,()))
def aqb:aH:=[(175,ag9)]
theorem aha(l:Bool)(es:List En)(bs:List Br):run P aqb.sum Tryz.f146 [] (start Tryz.f146 [avN l es bs] [])=
 Tree.need (bh es) (.need (bk bs) (.ret [.own [.s (.bool l),.s (.ro (.ad [.str,.str] es)),.s (.ro (.ad [.str,.int .i64] bs))] 131] (.s (.bool (decide (cH es bs≤254)))))):=by kernel_rfl
theorem zS{Z:aW}:ag6.Ok P Z:=aH.Ok.cons anN.sum (
 aH.Ok.cons anO.sum
 aH.Ok.nil)
def aX(l:List Br)(key:ByteArray):Int:=imax 0 (if jW (mJ l) key=true then(cY (mJ l) key:Int)else(cY (mJ l) key:Int) - 1)
theorem tG(ks:List ByteArray)(key:ByteArray):cY ks key≤ks.length:=by
 unfold cY;exact(List.takeWhile_sublist _).length_le
theorem pj{Z:aW}:dr P Z 79 [uD,dI] [bB] (fun(l,_,())=>[(l:List Br).length≤1000000,iU (mJ l)]) (fun(l,key,())=>(aX l key,())):=by
 refine aB Tryz.func79 (by kernel_rfl) (by kernel_rfl) ?_;rintro⟨(l:List Br),(key:ByteArray),⟨⟩⟩ _ ⟨(hl:l.length≤1000000),(hs:iU (mJ l)),_⟩ X hX hz;have hb:=tG (mJ l) key;rw[show(mJ l).length=l.length from List.length_map _]at hb;refine go hz hX zS Tryz.func79 (aeY l key) ⟨rfl,hl,hs,fun h=>⟨⟨by omega,by omega⟩,ac8 ?_⟩,fun h=>ac8 ?_⟩
 ·have h:jW (mJ l) key=false:=by simpa using h
  simp[aX,h]
 ·have h:jW (mJ l) key=true:=by simpa using h
  simp[aX,h]
theorem qv{Z:aW}:dr P Z 115 [ph,dI] [bB,c9] (fun(l,_,())=>[(l:List En).length≤1000000,iU (cg l)]) (fun(l,key,())=>((cY (cg l) key:Nat),jW (cg l) key,())):=by
 refine aB Tryz.func115 (by kernel_rfl) (by kernel_rfl) ?_;rintro⟨(l:List En),(key:ByteArray),⟨⟩⟩ _ ⟨(hl:l.length≤1000000),(hs:iU (cg l)),_⟩ X hX hz;exact go hz hX zS Tryz.func115 (ab0 l key) ⟨rfl,hl,hs,aV _ rfl (by kernel_rfl)⟩
theorem tH{es:List En}(h:bh es)(i:Nat):(es.getD i dE).1.size≤1000∧(es.getD i dE).2.1.size≤1000:=by
 by_cases hi:i<es.length
 ·rw[bM hi];exact h.2 _ (List.getElem_mem hi)
 ·rw[show es.getD i dE=dE from by simp[List.getD,List.getElem?_eq_none (Nat.le_of_not_lt hi)]];exact⟨by decide,by decide⟩
theorem tI{bs:List Br}(h:bk bs)(i:Nat):(bs.getD i dB).1.size≤1000:=by
 by_cases hi:i<bs.length
 ·rw[bM hi];exact h.2 _ (List.getElem_mem hi)
 ·rw[show bs.getD i dB=dB from by simp[List.getD,List.getElem?_eq_none (Nat.le_of_not_lt hi)]];decide
theorem nB{α:Type}{l:List α}{k:Nat}{d:α}(f:α→Int)(h:k<l.length):(l.take k).map f++[f (l.getD k d)]=(l.take (k+1)).map f:=by
 rw[←kz (d:=d) h,List.map_append];rfl
theorem pk{Z:aW}:dr P Z 180 [ed] [zL] (fun((_,es,bs,()),())=>[bh es,bk bs]) (fun((_,es,bs,()),())=>(aO es bs,())):=by
 refine aB Tryz.func180 (by kernel_rfl) (by kernel_rfl) ?_;rintro⟨⟨(l:Bool),(es:List En),(bs:List Br),⟨⟩⟩,⟨⟩⟩ _ ⟨(he:bh es),(hb:bk bs),_⟩ X hX hz;have he1:=he.1;have hb1:=hb.1
 have second:∀(n k:Nat),k+n=bs.length→Safe P 180 X (Ends [zL] (aO es bs,())) (adl bs (es.map szE++(bs.take k).map szB) (k:Int)):=by
  intro n
  induction n with
  |zero=>
   intro k hk;refine go hz hX aH.Ok.nil Tryz.func180 (tF bs _ k) ⟨fun h=>absurd (of_decide_eq_true h) (by omega),fun h=> ?_⟩;rw[List.take_of_length_le (by omega)];exact aV (aO es bs,()) rfl (by kernel_rfl)
  |succ n ih=>
   intro k hk;have bR:=tI hb k;refine go hz hX aH.Ok.nil Tryz.func180 (tF bs _ k) ⟨fun h=>⟨by omega,by omega, ?_, ?_,⟨by omega,by omega⟩, ?_⟩,fun h=>absurd (of_decide_eq_false h) (by omega)⟩
   ·simp only[Int.toNat_natCast];show ay (3+((bs.getD k dB).1.size:Int));exact⟨by omega,by omega⟩
   ·simp only[List.length_append,List.length_map,List.length_take];omega
   ·simp only[Int.toNat_natCast];have:=ih (k+1) (by omega);rw[←nB (d:=dB) szB (by omega),←List.append_assoc]at this;exact this
 have first:∀(n k:Nat),k+n=es.length→Safe P 180 X (Ends [zL] (aO es bs,())) (adk l es bs ((es.take k).map szE) (k:Int)):=by
  intro n
  induction n with
  |zero=>
   intro k hk;refine go hz hX aH.Ok.nil Tryz.func180 (tE l es bs _ k) ⟨fun h=>absurd (of_decide_eq_true h) (by omega),fun h=> ?_⟩;rw[List.take_of_length_le (by omega)];have:=second bs.length 0 (by omega);simp only[List.take_zero,List.map_nil,List.append_nil]at this;exact this
  |succ n ih=>
   intro k hk;obtain⟨hs1,hs2⟩:=tH he k;refine go hz hX aH.Ok.nil Tryz.func180 (tE l es bs _ k) ⟨fun h=>⟨by omega,by omega, ?_, ?_, ?_,⟨by omega,by omega⟩, ?_⟩,fun h=>absurd (of_decide_eq_false h) (by omega)⟩
   ·simp only[Int.toNat_natCast];show ay (2+((es.getD k dE).1.size:Int));exact⟨by omega,by omega⟩
   ·simp only[Int.toNat_natCast];show ay (2+((es.getD k dE).1.size:Int)+((es.getD k dE).2.1.size:Int));exact⟨by omega,by omega⟩
   ·simp only[List.length_map,List.length_take];omega
   ·simp only[Int.toNat_natCast];have:=ih (k+1) (by omega);rw[←nB (d:=dE) szE (by omega)]at this;exact this
 exact go hz hX aH.Ok.nil Tryz.func180 (aeZ l es bs) (first es.length 0 (by omega))
theorem v7{es:List En}{bs:List Br}(he:bh es)(hb:bk bs):∀x∈aO es bs,0≤x∧x≤2002:=by
 intro x hx;rcases List.mem_append.1 hx with hx|hx
 ·obtain⟨y,hy,rfl⟩:=List.mem_map.1 hx;have:=he.2 y hy;simp only[szE];omega
 ·obtain⟨y,hy,rfl⟩:=List.mem_map.1 hx;have:=hb.2 y hy;simp only[szB];omega
theorem v8{l:List Int}{m:Int}(h:∀x∈l,0≤x∧x≤m)(hm:0≤m):0≤l.sum∧l.sum≤m*l.length:=by
 induction l with
 |nil=>simp
 |cons x l ih=>
  have h1:=h x (by simp);obtain⟨h2,h3⟩:=ih (fun y hy=>h y (by simp[hy]));simp only[List.sum_cons,List.length_cons];refine⟨by omega, ?_⟩;rw[show((l.length+1:Nat):Int)=(l.length:Int)+1 from rfl,Int.mul_add];omega
theorem nC{l:List Int}{k:Nat}(h:k<l.length):(l.take k).sum+l.getD k 0=(l.take (k+1)).sum:=by
 rw[←kz (d:=(0:Int)) h,List.sum_append];simp
theorem tJ(es:List En)(bs:List Br):cH es bs=1+(aO es bs).sum:=by
 simp[cH,aO,List.sum_append]
theorem xL{Z:aW}:dr P Z 175 [ed] [bB] (fun((_,es,bs,()),())=>[bh es,bk bs]) (fun((_,es,bs,()),())=>(cH es bs,())):=by
 refine aB Tryz.func175 (by kernel_rfl) (by kernel_rfl) ?_;rintro⟨⟨(l:Bool),(es:List En),(bs:List Br),⟨⟩⟩,⟨⟩⟩ _ ⟨(he:bh es),(hb:bk bs),_⟩ X hX hz;have hr:=v7 he hb
 have hlen:(aO es bs).length≤2000:=by
  have:=he.1;have:=hb.1;simp only[aO,List.length_append,List.length_map];omega
 show Safe P 175 X (Ends [bB] (cH es bs,())) _;rw[tJ]
 have loop:∀(n k:Nat),k+n=(aO es bs).length→Safe P 175 X (Ends [bB] (1+(aO es bs).sum,())) (alU (aO es bs) (1+((aO es bs).take k).sum) (k:Int)):=by
  intro n
  induction n with
  |zero=>
   intro k hk;refine go hz hX (aH.Ok.cons pk.sum aH.Ok.nil) Tryz.func175 (zR _ _ k) ⟨fun h=>absurd (of_decide_eq_true h) (by omega),fun h=> ?_⟩;rw[List.take_of_length_le (by omega)];exact xA
  |succ n ih=>
   intro k hk;have h1:=v8 (l:=(aO es bs).take k) (m:=2002) (fun x hx=>hr x (List.mem_of_mem_take hx)) (by omega)
   have h2:0≤(aO es bs).getD k 0∧(aO es bs).getD k 0≤2002:=by
    rw[bM (by omega)];exact hr _ (List.getElem_mem _)
   have h3:((aO es bs).take k).length≤2000:=by rw[List.length_take];omega
   refine go hz hX (aH.Ok.cons pk.sum aH.Ok.nil) Tryz.func175 (zR _ _ k) ?_;simp only[Int.toNat_natCast];refine⟨fun h=>⟨by omega,by omega,⟨by omega,by omega⟩,⟨by omega,by omega⟩, ?_⟩,fun h=>absurd (of_decide_eq_false h) (by omega)⟩;have:=ih (k+1) (by omega);rw[←nC (by omega),←Int.add_assoc]at this;exact this
 have:=loop (aO es bs).length 0 (by omega);exact go hz hX (aH.Ok.cons pk.sum aH.Ok.nil) Tryz.func175 (treeSize l es bs) ⟨he,hb,this⟩
theorem adm{Z:aW}:dr P Z 146 [ed] [c9] (fun((_,es,bs,()),())=>[bh es,bk bs]) (fun((_,es,bs,()),())=>(decide (cH es bs≤254),())):=by
 refine aB Tryz.func146 (by kernel_rfl) (by kernel_rfl) ?_;rintro⟨⟨(l:Bool),(es:List En),(bs:List Br),⟨⟩⟩,⟨⟩⟩ _ ⟨(he:bh es),(hb:bk bs),_⟩ X hX hz;exact go hz hX (aH.Ok.cons xL.sum aH.Ok.nil) Tryz.func146 (aha l es bs) ⟨he,hb,anv⟩
end Lf
namespace Lf
open Go Go.Sx Go.Proofs
def xM(s:ByteArray):List Int:=s.data.toList.map fun b=>(b.toNat:Int)
def wa(s:ByteArray):List Int:=IntKind.u8.wrap (s.size:Int)::xM s
abbrev aqc:Type:=ByteArray×List Int
def zT:Spec aqc:=⟨fun x=>[.s (.str x.1),.ptr 0 0],fun x=>[.own [.vec 1] 107,.vec (.ints .u8 x.2) 5],fun x=>[x.2.length≤100000000,x.1.size≤1000000],fun x=>[.own [.vec 2] 107,.dead,.vec (.ints .u8 (x.2++wa x.1)) 5],fun _=>.bg []⟩
def alV:List AV→RM (aqc×List Nat)
 |[.s (.str s),.ptr id 0]=>.look id fun
  |some (.own [.vec j] _)=>.look j fun
   |some (.vec (.ints .u8 zs) _)=>.ret ((s,zs),[id,j])
   |_=>.fail "enc1: no bytes"
  |_=>.fail "enc1: no box"
 |_=>.fail "enc1"
theorem ahb(s:ByteArray)(zs:List Int):run P gL.sum Tryz.f194 [] (start Tryz.f194 [.s (.str s),.ptr 0 0] [.own [.vec 1] 107,.vec (.ints .u8 zs) 5])=
 Tree.need ((zs.length+(1:Nat))*(1:Nat)≤(140737488355328:Nat)) (Tree.need (((zs++[IntKind.u8.wrap (↑s.size:Int)]).length+(List.map (fun(b:UInt8)=>(↑b.toNat:Int)) s.data.toList).length)*(1:Nat)≤(140737488355328:Nat)) (Tree.ret [ab.own [AV.vec (4:Nat)] (107:Nat),ab.dead,ab.vec (aL.ints IntKind.u8 [IntKind.u8.wrap (↑s.size:Int)]) (5:Nat),ab.dead,ab.vec (aL.ints IntKind.u8 (zs++[IntKind.u8.wrap (↑s.size:Int)]++List.map (fun(b:UInt8)=>(↑b.toNat:Int)) s.data.toList)) (5:Nat)] (AV.bg []))):=by kernel_rfl
abbrev anP:=cp [ed] [c9] (fun _=>[]) (fun((l,es,bs,()),())=>(eu l es bs,()))
abbrev alW:=cp [ed] [c9] (fun((_,es,bs,()),())=>[bh es,bk bs]) (fun((_,es,bs,()),())=>(decide (cH es bs≤254),()))
def tK:aH:=[(166,anP),(146,alW),(194,bZ zT alV)]
def adn:List (Nat×Norm):=[(8,⟨[],[1,4],0,[]⟩),(10,⟨[],[1,4,5,25,26,27],0,[]⟩),(16,⟨[],[4,5,41,42,43],0,[]⟩)]
noncomputable def alX(l:Bool)(es:List En)(bs:List Br)(zs:List Int):bw:=⟨sl 64 [(1,.ptr 0 0),(4,.ptr 1 0)],[obN l es bs 131,.own [.vec 2] 107,.vec (.ints .u8 zs) 5],hr Tryz.f177 8,{}⟩
noncomputable def alY(l:Bool)(es:List En)(bs:List Br)(zs:List Int)(i:Int):bw:=⟨sl 64 [(1,.ptr 0 0),(4,.ptr 1 0),(5,.fn 194 [.ptr 1 0]),(25,.s (.ro (.ad cE es))),(26,.s (.int .i64 (es.length:Int))),(27,.s (.int .i64 i))],[obN l es bs 131,.own [.vec 2] 107,.vec (.ints .u8 zs) 5],hd Tryz.f177 10,{}⟩
noncomputable def alZ(bs:List Br)(zs:List Int)(i:Int):bw:=⟨sl 64 [(4,.ptr 0 0),(5,.fn 194 [.ptr 0 0]),(41,.s (.ro (.ad cB bs))),(42,.s (.int .i64 (bs.length:Int))),(43,.s (.int .i64 i))],[.own [.vec 1] 107,.vec (.ints .u8 zs) 5],hd Tryz.f177 16,{}⟩
theorem ajL(l:Bool)(es:List En)(bs:List Br):run P tK.sum Tryz.f177 adn (start Tryz.f177 [avN l es bs] [])=
 Tree.ite (!eu l es bs) (.ret [.own [.s (.bool l),.s (.ro (.ad [.str,.str] es)),.s (.ro (.ad [.str,.int .i64] bs))] 131] (.bg [.s (.str ByteArray.empty),.s (.aK .i64 4)])) (.need (bh es) (.need (bk bs) (.ite (!decide (cH es bs≤254)) (.ret [.own [.s (.bool l),.s (.ro (.ad [.str,.str] es)),.s (.ro (.ad [.str,.int .i64] bs))] 131] (.bg [.s (.str ByteArray.empty),.s (.aK .i64 40)])) (.ite l (.need ((0:Int)≤0) (.need ((0:Int)<(↑(1:Nat):Int)) (.at (.mk (sl 64 [(1,.ptr 0 0),(4,.ptr 1 0)]) [.own [.s (.bool l),.s (.ro (.ad [.str,.str] es)),.s (.ro (.ad [.str,.int .i64] bs))] 131,.own [.vec 2] 107,.vec (.ints .u8 ([(2:Int)].set 0 1)) 5] (hr Tryz.f177 8) (.mk none false 0 [] 0))))) (.at (.mk (sl 64 [(1,.ptr 0 0),(4,.ptr 1 0)]) [.own [.s (.bool l),.s (.ro (.ad [.str,.str] es)),.s (.ro (.ad [.str,.int .i64] bs))] 131,.own [.vec 2] 107,.vec (.ints .u8 [(2:Int)]) 5] (hr Tryz.f177 8) (.mk none false 0 [] 0))))))):=by kernel_rfl
theorem ajM(l:Bool)(es:List En)(bs:List Br)(zs:List Int):run P tK.sum Tryz.f177 adn (alX l es bs zs)=
 Tree.at (.mk (sl 64 [(1,.ptr 0 0),(4,.ptr 1 0),(5,.fn 194 [.ptr 1 0]),(25,.s (.ro (.ad [.str,.str] es))),(26,.s (.int .i64 (↑es.length:Int))),(27,.s (.int .i64 0))]) [.own [.s (.bool l),.s (.ro (.ad [.str,.str] es)),.s (.ro (.ad [.str,.int .i64] bs))] 131,.own [.vec 2] 107,.vec (.ints .u8 zs) 5] (hd Tryz.f177 10) (.mk none false 0 [] 0)):=by kernel_rfl
theorem zU(l:Bool)(es:List En)(bs:List Br)(zs:List Int)(i:Int):run P tK.sum Tryz.f177 adn (alY l es bs zs i)=
 Tree.ite (decide (i<(↑es.length:Int))) (.need ((0:Int)≤i) (.need (i<(↑es.length:Int)) (.need (bn (some [AV.s (.str (es.getD i.toNat (CL.d [.str,.str])).fst),.ptr 0 0])) (.need (bn (some [ab.own [.vec 1] 107,.vec (.ints .u8 zs) 5])) (.need (zs.length≤100000000) (.need (ByteArray.size (es.getD i.toNat (CL.d [.str,.str])).fst≤1000000) (.need (bn (some [AV.s (.str (es.getD i.toNat (CL.d [.str,.str])).snd.fst),.ptr 0 0])) (.need (bn (some [ab.own [.vec 1] 107,.vec (.ints .u8 (zs++wa (es.getD i.toNat (CL.d [.str,.str])).fst)) 5])) (.need ((zs++wa (es.getD i.toNat (CL.d [.str,.str])).fst).length≤100000000) (.need (ByteArray.size (es.getD i.toNat (CL.d [.str,.str])).snd.fst≤1000000) (.need (ay (i+1)) (.at (.mk (sl 64 [(1,.ptr 0 0),(4,.ptr 1 0),(5,.fn 194 [.ptr 1 0]),(25,.s (.ro (.ad [.str,.str] es))),(26,.s (.int .i64 (↑es.length:Int))),(27,.s (.int .i64 (i+1)))]) [.own [.s (.bool l),.s (.ro (.ad [.str,.str] es)),.s (.ro (.ad [.str,.int .i64] bs))] 131,.own [.vec 2] 107,.vec (.ints .u8 (zs++wa (es.getD i.toNat (CL.d [.str,.str])).fst++wa (es.getD i.toNat (CL.d [.str,.str])).snd.fst)) 5] (hd Tryz.f177 10) (.mk none false 0 [] 0)))))))))))))) (.at (.mk (sl 64 [(4,.ptr 0 0),(5,.fn 194 [.ptr 0 0]),(41,.s (.ro (.ad [.str,.int .i64] bs))),(42,.s (.int .i64 (↑bs.length:Int))),(43,.s (.int .i64 0))]) [.own [.vec 1] 107,.vec (.ints .u8 zs) 5] (hd Tryz.f177 16) (.mk none false 0 [] 0))):=by kernel_rfl
theorem zV(bs:List Br)(zs:List Int)(i:Int):run P tK.sum Tryz.f177 adn (alZ bs zs i)=
 Tree.ite (decide (i<(↑bs.length:Int))) (Tree.need ((0:Int)≤i) (Tree.need (i<(↑bs.length:Int)) (Tree.need (bn (some [AV.s (SV.str (bs.getD i.toNat (CL.d [CK.str,CK.int IntKind.i64])).fst),AV.ptr (0:Nat) (0:Nat)])) (Tree.need (bn (some [ab.own [AV.vec (1:Nat)] (107:Nat),ab.vec (aL.ints IntKind.u8 zs) (5:Nat)])) (Tree.need (zs.length≤(100000000:Nat)) (Tree.need (ByteArray.size (bs.getD i.toNat (CL.d [CK.str,CK.int IntKind.i64])).fst≤(1000000:Nat)) (Tree.need ((0:Int)≤(8:Int)) (Tree.need (((zs++wa (bs.getD i.toNat (CL.d [CK.str,CK.int IntKind.i64])).fst).length+(2:Nat))*(1:Nat)≤(140737488355328:Nat)) (Tree.need (ay (i+(1:Int))) (Tree.at (bw.mk (sl (64:Nat) [((4:Nat),AV.ptr (0:Nat) (0:Nat)),((5:Nat),AV.fn (194:Nat) [AV.ptr (0:Nat) (0:Nat)]),((41:Nat),AV.s (SV.ro (aL.ad [CK.str,CK.int IntKind.i64] bs))),((42:Nat),AV.s (SV.int IntKind.i64 (↑bs.length:Int))),((43:Nat),AV.s (SV.int IntKind.i64 (i+(1:Int))))]) [ab.own [AV.vec (1:Nat)] (107:Nat),ab.vec (aL.ints IntKind.u8 (zs++wa (bs.getD i.toNat (CL.d [CK.str,CK.int IntKind.i64])).fst++[IntKind.u8.wrap (Int.fdiv (bs.getD i.toNat (CL.d [CK.str,CK.int IntKind.i64])).snd.fst ((2:Int)^min (Int.toNat (8:Int)) IntKind.i64.bits)),IntKind.u8.wrap (bs.getD i.toNat (CL.d [CK.str,CK.int IntKind.i64])).snd.fst])) (5:Nat)] (hd Tryz.f177 (16:Nat)) (kU.mk none false (0:Nat) [] (0:Nat))))))))))))) (Tree.ret [ab.own [AV.vec (1:Nat)] (107:Nat),ab.vec (aL.ints IntKind.u8 zs) (5:Nat)] (AV.bg [AV.s (SV.str (bc zs)),AV.s (SV.aK IntKind.i64 (0:Int))])):=by kernel_rfl
theorem cR{Z:aW}{X:Ctx}{t:aH}{f:FuncId}{fn:Func}{ns:List (Nat×Norm)}{c:bw}{tr:Tree}{K:List ab→AV→Prop}{L:List ab}(hz:dP Z X)(hX:X.H=lk L)(hm:∀x∈ns,L.length≤x.2.m)(hT:t.Ok P Z)(hf:P.funcs[f]? =some fn)
 (e:run P t.sum fn ns c=tr) (h:tr.aZ K (Safe P f X K)):Safe P f X K c:=cG (aH.sOk hT) hz mixed hf (fun x hx id de=>by rw[hX];exact List.getElem?_eq_none (Nat.le_trans (hm x hx) de)) e h
theorem ajN{Z:aW}:fC P Z 194 zT:=by
 refine au Tryz.func194 (by kernel_rfl) (fun x=>Nat.le_of_ble_eq_true (by kernel_rfl)) ?_;rintro⟨(s:ByteArray),(zs:List Int)⟩ ⟨(h1:zs.length≤100000000),(h2:s.size≤1000000),_⟩ X hX hz;have hs:s.data.toList.length=s.size:=Array.length_toList;refine cR hz hX (by simp) aH.Ok.nil Tryz.func194 (ahb s zs) ⟨by omega,by simp only[List.length_append,List.length_map,List.length_singleton];omega,⟨[],[0],2,[]⟩,Nat.le_refl _, ?_⟩;have e:zs++wa s=zs++[IntKind.u8.wrap (s.size:Int)]++xM s:=by simp[wa]
 show Norm.run _ _=some ⟨[AV.bg []],[.own [.vec 2] 107,.dead,.vec (.ints .u8 (zs++wa s)) 5],[],{}⟩;rw[e];kernel_rfl
def mL(x:En):List Int:=wa x.1++wa x.2.1
def rr(x:Br):List Int:=wa x.1++[IntKind.u8.wrap (Int.fdiv x.2.1 (2^min (Int.toNat 8) IntKind.i64.bits)),IntKind.u8.wrap x.2.1]
def uT(l:Bool):List Int:=[if l=true then 1 else 2]
def ab1(l:Bool)(es:List En)(bs:List Br):List Int:=uT l++es.flatMap mL++bs.flatMap rr
def zW(l:Bool)(es:List En)(bs:List Br):Bool:=eu l es bs&&decide (cH es bs≤254)
def dX(l:Bool)(es:List En)(bs:List Br):ByteArray:=if zW l es bs=true then bc (ab1 l es bs)else ByteArray.empty
def gM(l:Bool)(es:List En)(bs:List Br):Int:=if eu l es bs=true then(if cH es bs≤254 then 0 else 40)else 4
theorem lq(s:ByteArray):(wa s).length=s.size+1:=by
 have hs:s.data.toList.length=s.size:=Array.length_toList;simp[wa,xM,hs]
theorem wb{α β:Type}{l:List α}{k:Nat}{d:α}(f:α→List β)(h:k<l.length):(l.take k).flatMap f++f (l.getD k d)=(l.take (k+1)).flatMap f:=by
 rw[←kz (d:=d) h,List.flatMap_append];simp
theorem pn{α β:Type}(f:α→List β)(m:Nat):∀{l:List α},(∀x∈l,(f x).length≤m)→(l.flatMap f).length≤m*l.length
 |[],_=>by simp
 |x::l,h=>by
  have h1:=h x (by simp);have h2:=pn f m (l:=l) (fun y hy=>h y (by simp[hy]));simp only[List.flatMap_cons,List.length_append,List.length_cons,Nat.mul_add];omega
theorem zX{x:En}(h:x.1.size≤1000∧x.2.1.size≤1000):(mL x).length≤2002:=by
 simp only[mL,List.length_append,lq];omega
theorem ahc{x:Br}(h:x.1.size≤1000):(rr x).length≤1003:=by
 simp only[rr,List.length_append,lq,List.length_cons,List.length_nil];omega
theorem ja{Z:aW}:tK.Ok P Z:=aH.Ok.cons abW.sum (aH.Ok.cons adm.sum (aH.Ok.cons (ajN.sum alV) aH.Ok.nil))
theorem wc{Z:aW}:dr P Z 177 [ed] [dI,bB] (fun((_,es,bs,()),())=>[bh es,bk bs]) (fun((l,es,bs,()),())=>(dX l es bs,gM l es bs,())):=by
 refine aB Tryz.func177 (by kernel_rfl) (by kernel_rfl) ?_;rintro⟨⟨(l:Bool),(es:List En),(bs:List Br),⟨⟩⟩,⟨⟩⟩ _ ⟨(he:bh es),(hb:bk bs),_⟩ X hX hz;have he1:=he.1;have hb1:=hb.1;show Safe P 177 X (Ends [dI,bB] (dX l es bs,gM l es bs,())) _
 have second:dX l es bs=bc (ab1 l es bs)→gM l es bs=0→∀(n k:Nat),k+n=bs.length→Safe P 177 X (Ends [dI,bB] (dX l es bs,gM l es bs,())) (alZ bs (uT l++es.flatMap mL++(bs.take k).flatMap rr) (k:Int)):=by
  intro hS hN n
  induction n with
  |zero=>
   intro k hk;refine go hz hX ja Tryz.func177 (zV bs _ k) ⟨fun h=>absurd (of_decide_eq_true h) (by omega),fun h=> ?_⟩;rw[List.take_of_length_le (by omega),hS,hN];exact xB
  |succ n ih=>
   intro k hk;have bR:=tI hb k;have hl1:(es.flatMap mL).length≤2002*es.length:=pn mL 2002 (fun x hx=>zX (he.2 x hx));have vC:((bs.take k).flatMap rr).length≤1003*(bs.take k).length:=pn rr 1003 (fun x hx=>ahc (hb.2 x (List.mem_of_mem_take hx)));have hl3:(bs.take k).length≤1000:=by rw[List.length_take];omega
   have hl:(uT l++es.flatMap mL++(bs.take k).flatMap rr).length≤4000000:=by
    simp only[List.length_append,uT,List.length_singleton];omega
   refine go hz hX ja Tryz.func177 (zV bs _ k) ?_;simp only[Int.toNat_natCast];refine⟨fun h=>⟨by omega,by omega,trivial,trivial,by omega, ?_,by decide, ?_,⟨by omega,by omega⟩, ?_⟩,fun h=>absurd (of_decide_eq_false h) (by omega)⟩
   ·show(bs.getD k dB).1.size≤1000000;omega
   ·rw[List.length_append,lq];show(_+((bs.getD k dB).1.size+1)+2)*1≤_;omega
   ·have:=ih (k+1) (by omega);rw[←wb (d:=dB) rr (by omega),←List.append_assoc]at this;rw[List.append_assoc (uT l++es.flatMap mL++(bs.take k).flatMap rr)];exact this
 have first:dX l es bs=bc (ab1 l es bs)→gM l es bs=0→∀(n k:Nat),k+n=es.length→Safe P 177 X (Ends [dI,bB] (dX l es bs,gM l es bs,())) (alY l es bs (uT l++(es.take k).flatMap mL) (k:Int)):=by
  intro hS hN n
  induction n with
  |zero=>
   intro k hk;refine go hz hX ja Tryz.func177 (zU l es bs _ k) ⟨fun h=>absurd (of_decide_eq_true h) (by omega),fun h=> ?_⟩;rw[List.take_of_length_le (by omega)];have:=second hS hN bs.length 0 (by omega);simp only[List.take_zero,List.flatMap_nil,List.append_nil]at this;exact this
  |succ n ih=>
   intro k hk;obtain⟨hs1,hs2⟩:=tH he k;have vC:((es.take k).flatMap mL).length≤2002*(es.take k).length:=pn mL 2002 (fun x hx=>zX (he.2 x (List.mem_of_mem_take hx)));have hl3:(es.take k).length≤1000:=by rw[List.length_take];omega
   have hl:(uT l++(es.take k).flatMap mL).length≤4000000:=by
    simp only[List.length_append,uT,List.length_singleton];omega
   refine go hz hX ja Tryz.func177 (zU l es bs _ k) ?_;simp only[Int.toNat_natCast];refine⟨fun h=>⟨by omega,by omega,trivial,trivial,by omega, ?_,trivial,trivial, ?_, ?_,⟨by omega,by omega⟩, ?_⟩,fun h=>absurd (of_decide_eq_false h) (by omega)⟩
   ·show(es.getD k dE).1.size≤1000000;omega
   ·rw[List.length_append,lq];show _+((es.getD k dE).1.size+1)≤_;omega
   ·show(es.getD k dE).2.1.size≤1000000;omega
   ·have:=ih (k+1) (by omega);rw[←wb (d:=dE) mL (by omega),←List.append_assoc]at this;rw[List.append_assoc (uT l++(es.take k).flatMap mL)];exact this
 refine go hz hX ja Tryz.func177 (ajL l es bs) ⟨fun h=> ?_,fun h=>⟨he,hb,fun h2=> ?_,fun h2=> ?_⟩⟩
 ·have h:eu l es bs=false:=by simpa using h
  have e1:dX l es bs=ByteArray.empty:=by simp[dX,zW,h]
  have e2:gM l es bs=4:=by simp[gM,h]
  rw[e1,e2];exact xB
 ·have h:eu l es bs=true:=by simpa using h
  have h2:¬cH es bs≤254:=by simpa using h2
  have e1:dX l es bs=ByteArray.empty:=by simp[dX,zW,h,h2]
  have e2:gM l es bs=40:=by simp[gM,h,h2]
  rw[e1,e2];exact xB
 ·have h:eu l es bs=true:=by simpa using h
  have h2:cH es bs≤254:=by simpa using h2
  have e1:dX l es bs=bc (ab1 l es bs):=by simp[dX,zW,h,h2]
  have e2:gM l es bs=0:=by simp[gM,h,h2]
  have st:Safe P 177 X (Ends [dI,bB] (dX l es bs,gM l es bs,())) (alX l es bs (uT l)):=by
   refine go hz hX ja Tryz.func177 (ajM l es bs _) ?_;have:=first e1 e2 es.length 0 (by omega)
   simp only[List.take_zero,List.flatMap_nil,List.append_nil]at this;exact this
  refine⟨fun h3=>⟨by decide,by decide, ?_⟩,fun h3=> ?_⟩
  ·subst h3;exact st
  ·subst h3;exact st
end Lf
namespace Lf
open Go Go.Sx Go.Proofs
abbrev as1:=cp [ed] [dI,bB] (fun((_,es,bs,()),())=>[bh es,bk bs]) (fun((l,es,bs,()),())=>(dX l es bs,gM l es bs,()))
abbrev anQ:=cp [uD,dI] [bB] (fun(l,_,())=>[(l:List Br).length≤1000000,iU (mJ l)]) (fun(l,key,())=>(aX l key,()))
def jr:aH:=[(177,as1),(175,ag9),(79,anQ)]
theorem ahd{bs:List Br}(h:np bs=true){i:Nat}(hi:i+1<bs.length):slt (bs.getD i dB).1 (bs.getD (i+1) dB).1=true:=by
 have:=dw.1 h (i+1) hi;simp only[okB,Bool.not_eq_true',Bool.or_eq_false_iff,Bool.and_eq_false_iff,decide_eq_false_iff_not,Bool.not_eq_false']at this;have h2:=this.2;rcases h2 with h2|h2
 ·omega
 ·simpa using h2
theorem ahe{es:List En}(h:nn es=true){i:Nat}(hi:i+1<es.length):slt (es.getD i dE).1 (es.getD (i+1) dE).1=true:=by
 have:=dw.1 h (i+1) hi;simp only[okE,Bool.not_eq_true',Bool.or_eq_false_iff,Bool.and_eq_false_iff,decide_eq_false_iff_not,Bool.not_eq_false']at this;have h2:=this.2;rcases h2 with h2|h2
 ·omega
 ·simpa using h2
theorem rb{ks:List ByteArray}(h:∀i,i+1<ks.length→slt (ks.getD i ByteArray.empty) (ks.getD (i+1) ByteArray.empty)=true):iU ks:=by
 intro i j kP hj
 induction j with
 |zero=>omega
 |succ j ih=>
  by_cases he:i=j
  ·subst he;exact h i hj
  ·exact gk (ih (by omega) (by omega)) (h j hj)
theorem aqd{bs:List Br}(h:np bs=true):iU (mJ bs):=rb fun i hi=>by
 rw[List.length_map]at hi;rw[eH bs aeX dB,eH bs aeX dB];exact ahd h hi
theorem as2{es:List En}(h:nn es=true):iU (cg es):=rb fun i hi=>by
 rw[List.length_map]at hi;rw[eH es zQ dE,eH es zQ dE];exact ahe h hi
theorem eI{l:Bool}{es:List En}{bs:List Br}(h:eu l es bs=true):(l=true→bs=[])∧(l=false→es=[])∧nn es=true∧np bs=true:=by
 simp only[eu,Bool.and_eq_true,Bool.not_eq_true',Bool.or_eq_false_iff,Bool.and_eq_false_iff,decide_eq_false_iff_not]at h;obtain⟨⟨⟨h1,h2⟩,h3⟩,h4⟩:=h;refine⟨fun hl=> ?_,fun hl=> ?_,h3,h4⟩
 ·subst hl;rcases h1 with h1|h1
  ·cases h1
  ·exact List.eq_nil_of_length_eq_zero (by omega)
 ·subst hl;rcases h2 with h2|h2
  ·cases h2
  ·exact List.eq_nil_of_length_eq_zero (by omega)
theorem ab2:∀{ks:List ByteArray} {key:ByteArray} {t:Nat},t<cY ks key→slt (ks.getD t ByteArray.empty) key=true
 |[],key,t,h=>by simp[cY]at h
 |k::ks,key,t,h=>by
  simp only[cY,List.takeWhile]at h;split at h
  ·rename_i hk;cases t with
   |zero=>simpa using hk
   |succ t=>
    simp only[List.length_cons]at h;simpa using ab2 (ks:=ks) (key:=key) (t:=t) (by simp only[cY];omega)
  ·simp at h
theorem ab3:∀{ks:List ByteArray} {key:ByteArray},cY ks key<ks.length→slt (ks.getD (cY ks key) ByteArray.empty) key=false
 |[],key,h=>by simp at h
 |k::ks,key,h=>by
  by_cases hk:slt k key=true
  ·have e:cY (k::ks) key=cY ks key+1:=by simp[cY,List.takeWhile,hk]
   rw[e]at h ⊢;simpa using ab3 (ks:=ks) (key:=key) (by simpa using h)
  ·have hk:slt k key=false:=by simpa using hk
   have e:cY (k::ks) key=0:=by simp[cY,List.takeWhile,hk]
   rw[e];simpa using hk
theorem ahf{ks:List ByteArray}{key:ByteArray}(hs:iU ks){t:Nat}(h1:cY ks key≤t)(h2:t<ks.length):slt (ks.getD t ByteArray.empty) key=false:=by
 have h:=ab3 (ks:=ks) (key:=key) (by omega);by_cases he:t=cY ks key
 ·rw[he];exact h
 ·have h3:=hs (cY ks key) t (by omega) h2;cases h4:slt (ks.getD t ByteArray.empty) key
  ·rfl
  ·rw[gk h3 h4]at h;cases h
theorem iV{ks:List ByteArray}{key:ByteArray}:jW ks key=true↔cY ks key<ks.length∧ks.getD (cY ks key) ByteArray.empty=key:=by
 simp only[jW,decide_eq_true_eq];constructor
 ·intro h;have h1:=(List.getElem?_eq_some_iff.1 h).1;exact⟨h1,by simp[List.getD,h]⟩
 ·rintro⟨h1,h2⟩;rw[bM h1]at h2;rw[List.getElem?_eq_getElem h1,h2]
theorem ab4{ks:List ByteArray}{key:ByteArray}(hs:iU ks)(h0:ks≠[]):∃p:Nat,imax 0 (if jW ks key=true then(cY ks key:Int)else(cY ks key:Int) - 1)=(p:Int)∧p<ks.length∧
 (p=0∨slt key (ks.getD p ByteArray.empty)=false)∧(∀t,p<t→t<ks.length→slt key (ks.getD t ByteArray.empty)=true):=by
 have hlen:0<ks.length:=by
  cases ks with
  |nil=>exact absurd rfl h0
  |cons k ks=>simp
 have hle:=tG ks key;have up:∀t,cY ks key≤t→t<ks.length→ks.getD t ByteArray.empty≠key→slt key (ks.getD t ByteArray.empty)=true:=fun t h1 h2 h3=>abN (ahf hs h1 h2) h3;by_cases hk:jW ks key=true
 ·obtain⟨h1,h2⟩:=iV.1 hk;rw[if_pos hk];refine⟨cY ks key,by unfold imax;split<;>omega,h1,.inr (by rw[h2];exact jq key),fun t ht htl=> ?_⟩;rw[←h2];have:=hs (cY ks key) t ht htl;rw[h2]at this ⊢;exact this
 ·rw[if_neg hk]
  have cL:∀t,cY ks key≤t→t<ks.length→ks.getD t ByteArray.empty≠key:=by
   intro t h1 h2 h3;by_cases he:t=cY ks key
   ·subst he;exact hk (iV.2 ⟨h2,h3⟩)
   ·have h4:=hs (cY ks key) t (by omega) h2;rw[h3]at h4;rw[ab3 (by omega)]at h4;cases h4
  rcases Nat.eq_zero_or_pos (cY ks key)with hz|hz
  ·refine⟨0,by rw[hz];rfl,hlen,.inl rfl,fun t ht htl=>up t (by omega) htl (cL t (by omega) htl)⟩
  ·refine⟨cY ks key - 1,by unfold imax;split<;>omega,by omega,.inr (aeM (ab2 (by omega))),fun t ht htl=>up t (by omega) htl (cL t (by omega) htl)⟩
theorem ew{Z:aW}:jr.Ok P Z:=aH.Ok.cons wc.sum (aH.Ok.cons xL.sum (aH.Ok.cons pj.sum aH.Ok.nil))
end Lf
namespace Lf
open Go Go.Sx Go.Proofs
def aqe(a b:List En):Bool:=decide (a=b)
def aqf(a b:List Br):Bool:=decide (a=b)
def jX(k:Int)(s:ByteArray):ByteArray:=if k>(s.size:Int)then ByteArray.empty else s.extract 0 k.toNat
def ru(k:Int)(s:ByteArray):Bool:= !decide (k>(s.size:Int))
def pq(k:Int)(s:ByteArray):ByteArray:=if k>(s.size:Int)then s else s.extract k.toNat s.size
def tL:Spec (Int×ByteArray):=⟨fun x=>[.s (.int .i64 x.1),.ptr 0 0],fun x=>[.own [.s (.str x.2)] 9],fun x=>[0≤x.1],fun x=>[.own [.s (.str (pq x.1 x.2))] 9],fun x=>.bg [.s (.str (jX x.1 x.2)),.s (.bool (ru x.1 x.2))]⟩
def ado:List AV→RM ((Int×ByteArray)×List Nat)
 |[.s (.int .i64 k),.ptr id 0]=>.look id fun
  |some (.own [.s (.str s)] _)=>.ret ((k,s),[id])
  |_=>.fail "take: no text"
 |[.s (.aK .i64 k),.ptr id 0]=>.look id fun
  |some (.own [.s (.str s)] _)=>.ret ((k,s),[id])
  |_=>.fail "take: no text"
 |_=>.fail "take"
theorem ahg(k:Int)(s:ByteArray):run P gL.sum Tryz.f164 [] (start Tryz.f164 [.s (.int .i64 k),.ptr 0 0] [.own [.s (.str s)] 9])=
 Tree.ite (decide (k>(↑s.size:Int))) (.ret [.own [.s (.str s)] 9] (.bg [.s (.str ByteArray.empty),.s (.aC false)])) (.need ((0:Int)≤0) (.need ((0:Int)≤k) (.need (k≤(↑s.size:Int)) (.need ((0:Int)≤k) (.need (k≤(↑s.size:Int)) (.need ((↑s.size:Int)≤(↑s.size:Int)) (.ret [.own [.s (.str (s.extract k.toNat (↑s.size:Int).toNat))] 9] (.bg [.s (.str (s.extract (Int.toNat 0) k.toNat)),.s (.aC true)])))))))):=by kernel_rfl
def rdK(s:ByteArray):Int:=aG (jX 1 s) 0
def yu(s:ByteArray):ByteArray:=if ru 1 s=true then jX (rdK s) (pq 1 s)else ByteArray.empty
def xN(s:ByteArray):Bool:=ru 1 s&&ru (rdK s) (pq 1 s)
def hU(s:ByteArray):ByteArray:=if ru 1 s=true then pq (rdK s) (pq 1 s)else pq 1 s
def zY:Spec ByteArray:=⟨fun _=>[.ptr 0 0],fun s=>[.own [.fn 164 [.ptr 1 0]] 237,.own [.s (.str s)] 9],fun _=>[],fun s=>[.own [.fn 164 [.ptr 1 0]] 237,.own [.s (.str (hU s))] 9],fun s=>.bg [.s (.str (yu s)),.s (.bool (xN s))]⟩
def al0:List AV→RM (ByteArray×List Nat)
 |[.ptr id 0]=>.look id fun
  |some (.own [.fn _ [.ptr j 0]] _)=>.look j fun
   |some (.own [.s (.str s)] _)=>.ret (s,[id,j])
   |_=>.fail "text: no text"
  |_=>.fail "text: no take"
 |_=>.fail "text"
def adp:aH:=[(164,bZ tL ado)]
theorem ahh(s:ByteArray):run P adp.sum Tryz.f165 [] (start Tryz.f165 [.ptr 0 0] [.own [.fn 164 [.ptr 1 0]] 237,.own [.s (.str s)] 9])=
 Tree.need (bn (some [AV.s (.int .i64 1),.ptr 0 0])) (.need (bn (some [ab.own [.s (.str s)] 9])) (.need ((0:Int)≤1) (.ite (!ru 1 s) (.ret [.own [.fn 164 [.ptr 1 0]] 237,.own [.s (.str (pq 1 s))] 9] (.bg [.s (.str ByteArray.empty),.s (.aC false)])) (.need ((0:Int)≤0) (.need ((0:Int)<(↑(jX 1 s).size:Int)) (.need (ay (aG (jX 1 s) (Int.toNat 0))) (.need (bn (some [AV.s (.int .i64 (aG (jX 1 s) (Int.toNat 0))),.ptr 0 0])) (.need (bn (some [ab.own [.s (.str (pq 1 s))] 9])) (.need ((0:Int)≤aG (jX 1 s) (Int.toNat 0)) (.ret [.own [.fn 164 [.ptr 1 0]] 237,.own [.s (.str (pq (aG (jX 1 s) (Int.toNat 0)) (pq 1 s)))] 9] (.bg [.s (.str (jX (aG (jX 1 s) (Int.toNat 0)) (pq 1 s))),.s (.bool (ru (aG (jX 1 s) (Int.toNat 0)) (pq 1 s)))]))))))))))):=by kernel_rfl
def tM:aH:=[(164,bZ tL ado),(165,bZ zY al0),(166,anP)]
def adq:List (Nat×Norm):=[(7,⟨[],[1,2],0,[]⟩),(11,⟨[],[1,2,4,5,6],0,[(2,1,false,.ad cE [],eE),(2,2,false,.ad cB [],eB)]⟩),(22,⟨[],[1,2,4,5,6,8],0,[]⟩)]
def obZ:ab:=.own [.s (.bool false),.emp,.emp] 131
noncomputable def al1(s:ByteArray):bw:=⟨sl 93 [(1,.ptr 0 0),(2,.ptr 1 0)],[.own [.s (.str s)] 9,obZ],hr Tryz.f125 7,{}⟩
noncomputable def aqg(s:ByteArray)(l:Bool)(es:List En)(bs:List Br):bw:=⟨sl 93 [(1,.ptr 0 0),(2,.ptr 1 0),(4,.ptr 2 0),(5,.ptr 3 0),(6,.fn 165 [.ptr 3 0])],[.own [.s (.str s)] 9,obZ,.own [.s (.bool l),.vec 4,.vec 5] 131,.own [.fn 164 [.ptr 0 0]] 237,.vec (.ad cE es) eE,.vec (.ad cB bs) eB],hd Tryz.f125 11,{}⟩
noncomputable def ahi(s:ByteArray)(l:Bool)(es:List En)(bs:List Br)(is:Bool):bw:=⟨sl 93 [(1,.ptr 0 0),(2,.ptr 1 0),(4,.ptr 2 0),(5,.ptr 3 0),(6,.fn 165 [.ptr 3 0]),(8,.s (.bool is))],[.own [.s (.str s)] 9,obZ,.own [.s (.bool l),.vec 4,.vec 5] 131,.own [.fn 164 [.ptr 0 0]] 237,.vec (.ad cE es) eE,.vec (.ad cB bs) eB],hr Tryz.f125 22,{}⟩
theorem ajO(s:ByteArray):run P tM.sum Tryz.f125 adq (start Tryz.f125 [.s (.str s)] [])=
 Tree.ite (decide ((↑s.size:Int)>254)) (.ret [.own [.s (.str s)] 9,.own [.s (.aC false),.emp,.emp] 131] (.bg [.agg [.s (.aC false),.emp,.emp],.s (.aK .i64 40)])) (.ite (decide (s=ByteArray.empty)) (.ret [.own [.s (.str s)] 9,.own [.s (.aC false),.emp,.emp] 131] (.bg [.agg [.s (.aC false),.emp,.emp],.s (.aK .i64 8)])) (.need ((0:Int)≤0) (.need ((0:Int)<(↑s.size:Int)) (.ite (aG s (Int.toNat 0) !=1) (.need ((0:Int)≤0) (.need ((0:Int)<(↑s.size:Int)) (.ite (aG s (Int.toNat 0) !=2) (.ret [.own [.s (.str s)] 9,.own [.s (.aC false),.emp,.emp] 131] (.bg [.agg [.s (.aC false),.emp,.emp],.s (.aK .i64 4)])) (.at (.mk (sl 93 [(1,.ptr 0 0),(2,.ptr 1 0)]) [.own [.s (.str s)] 9,.own [.s (.bool false),.emp,.emp] 131] (hr Tryz.f125 7) (.mk none false 0 [] 0)))))) (.at (.mk (sl 93 [(1,.ptr 0 0),(2,.ptr 1 0)]) [.own [.s (.str s)] 9,.own [.s (.bool false),.emp,.emp] 131] (hr Tryz.f125 7) (.mk none false 0 [] 0))))))):=by kernel_rfl
theorem ahj(s:ByteArray):run P tM.sum Tryz.f125 adq (al1 s)=
 Tree.need ((0:Int)≤0) (.need ((0:Int)<(↑s.size:Int)) (.need ((0:Int)≤1) (.need ((1:Int)≤(↑s.size:Int)) (.need ((↑s.size:Int)≤(↑s.size:Int)) (.at (.mk (sl 93 [(1,.ptr 0 0),(2,.ptr 1 0),(4,.ptr 2 0),(5,.ptr 3 0),(6,.fn 165 [.ptr 3 0])]) [.own [.s (.str (s.extract (Int.toNat 1) (↑s.size:Int).toNat))] 9,.own [.s (.bool false),.emp,.emp] 131,.own [.s (.bool (aG s (Int.toNat 0)==1)),.vec 4,.vec 5] 131,.own [.fn 164 [.ptr 0 0]] 237,.vec (.ad [.str,.str] []) 66,.vec (.ad [.str,.int .i64] []) 137] (hd Tryz.f125 11) (.mk none false 0 [] 0))))))):=by kernel_rfl
theorem adr(s:ByteArray)(l:Bool)(es:List En)(bs:List Br):run P tM.sum Tryz.f125 adq (aqg s l es bs)=
 Tree.ite (!decide (s=ByteArray.empty))
 (Tree.need (bn (some [AV.ptr (0:Nat) (0:Nat)]))
   (Tree.need (bn (some [ab.own [AV.fn (164:Nat) [AV.ptr (1:Nat) (0:Nat)]] (237:Nat),ab.own [AV.s (SV.str s)] (9:Nat)]))
     (Tree.ite l
       (Tree.ite (xN s) (Tree.need (bn (some [AV.ptr (0:Nat) (0:Nat)])) (Tree.need (bn (some [ab.own [AV.fn (164:Nat) [AV.ptr (1:Nat) (0:Nat)]] (237:Nat),ab.own [AV.s (SV.str (hU s))] (9:Nat)])) (Tree.need ((es.length+(1:Nat))*(32:Nat)≤(140737488355328:Nat)) (Tree.at (bw.mk (sl (93:Nat) [((1:Nat),AV.ptr (0:Nat) (0:Nat)),((2:Nat),AV.ptr (1:Nat) (0:Nat)),((4:Nat),AV.ptr (2:Nat) (0:Nat)),((5:Nat),AV.ptr (3:Nat) (0:Nat)),((6:Nat),AV.fn (165:Nat) [AV.ptr (3:Nat) (0:Nat)]),((8:Nat),AV.s (SV.bool (xN (hU s))))]) [ab.own [AV.s (SV.str (hU (hU s)))] (9:Nat),ab.own [AV.s (SV.bool false),AV.emp,AV.emp] (131:Nat),ab.own [AV.s (SV.bool l),AV.vec (4:Nat),AV.vec (5:Nat)] (131:Nat),ab.own [AV.fn (164:Nat) [AV.ptr (0:Nat) (0:Nat)]] (237:Nat),ab.vec (aL.ad [CK.str,CK.str] (es++[(yu s,yu (hU s),())])) (66:Nat),ab.vec (aL.ad [CK.str,CK.int IntKind.i64] bs) (137:Nat)] (hr Tryz.f125 (22:Nat)) (kU.mk none false (0:Nat) [] (0:Nat)))))))
         (Tree.ite (xN s) (Tree.need (bn (some [AV.s (SV.int IntKind.i64 (2:Int)),AV.ptr (0:Nat) (0:Nat)])) (Tree.need (bn (some [ab.own [AV.s (SV.str (hU s))] (9:Nat)])) (Tree.need ((0:Int)≤(2:Int)) (Tree.ite (ru (2:Int) (hU s)) (Tree.need ((0:Int)≤(0:Int)) (Tree.need ((0:Int)<(↑(jX (2:Int) (hU s)).size:Int)) (Tree.need (ay (aG (jX (2:Int) (hU s)) (Int.toNat (0:Int)))) (Tree.need ((0:Int)≤(8:Int)) (Tree.need ((0:Int)≤(1:Int)) (Tree.need ((1:Int)<(↑(jX (2:Int) (hU s)).size:Int)) (Tree.need (ay (aG (jX (2:Int) (hU s)) (Int.toNat (1:Int)))) (Tree.need ((bs.length+(1:Nat))*(24:Nat)≤(140737488355328:Nat)) (Tree.at (bw.mk (sl (93:Nat) [((1:Nat),AV.ptr (0:Nat) (0:Nat)),((2:Nat),AV.ptr (1:Nat) (0:Nat)),((4:Nat),AV.ptr (2:Nat) (0:Nat)),((5:Nat),AV.ptr (3:Nat) (0:Nat)),((6:Nat),AV.fn (165:Nat) [AV.ptr (3:Nat) (0:Nat)]),((8:Nat),AV.s (SV.bool (ru (2:Int) (hU s))))]) [ab.own [AV.s (SV.str (pq (2:Int) (hU s)))] (9:Nat),ab.own [AV.s (SV.bool false),AV.emp,AV.emp] (131:Nat),ab.own [AV.s (SV.bool l),AV.vec (4:Nat),AV.vec (5:Nat)] (131:Nat),ab.own [AV.fn (164:Nat) [AV.ptr (0:Nat) (0:Nat)]] (237:Nat),ab.vec (aL.ad [CK.str,CK.str] es) (66:Nat),ab.vec (aL.ad [CK.str,CK.int IntKind.i64] (bs++[(yu s,bt BinOp.or IntKind.i64 (IntKind.i64.wrap (aG (jX (2:Int) (hU s)) (Int.toNat (0:Int))*(2:Int)^min (Int.toNat (8:Int)) IntKind.i64.bits)) (aG (jX (2:Int) (hU s)) (Int.toNat (1:Int))),())])) (137:Nat)] (hr Tryz.f125 (22:Nat)) (kU.mk none false (0:Nat) [] (0:Nat)))))))))))) (Tree.at (bw.mk (sl (93:Nat) [((1:Nat),AV.ptr (0:Nat) (0:Nat)),((2:Nat),AV.ptr (1:Nat) (0:Nat)),((4:Nat),AV.ptr (2:Nat) (0:Nat)),((5:Nat),AV.ptr (3:Nat) (0:Nat)),((6:Nat),AV.fn (165:Nat) [AV.ptr (3:Nat) (0:Nat)]),((8:Nat),AV.s (SV.bool (ru (2:Int) (hU s))))]) [ab.own [AV.s (SV.str (pq (2:Int) (hU s)))] (9:Nat),ab.own [AV.s (SV.bool false),AV.emp,AV.emp] (131:Nat),ab.own [AV.s (SV.bool l),AV.vec (4:Nat),AV.vec (5:Nat)] (131:Nat),ab.own [AV.fn (164:Nat) [AV.ptr (0:Nat) (0:Nat)]] (237:Nat),ab.vec (aL.ad [CK.str,CK.str] es) (66:Nat),ab.vec (aL.ad [CK.str,CK.int IntKind.i64] bs) (137:Nat)] (hr Tryz.f125 (22:Nat)) (kU.mk none false (0:Nat) [] (0:Nat)))))))) (Tree.at (bw.mk (sl (93:Nat) [((1:Nat),AV.ptr (0:Nat) (0:Nat)),((2:Nat),AV.ptr (1:Nat) (0:Nat)),((4:Nat),AV.ptr (2:Nat) (0:Nat)),((5:Nat),AV.ptr (3:Nat) (0:Nat)),((6:Nat),AV.fn (165:Nat) [AV.ptr (3:Nat) (0:Nat)]),((8:Nat),AV.s (SV.bool (xN s)))]) [ab.own [AV.s (SV.str (hU s))] (9:Nat),ab.own [AV.s (SV.bool false),AV.emp,AV.emp] (131:Nat),ab.own [AV.s (SV.bool l),AV.vec (4:Nat),AV.vec (5:Nat)] (131:Nat),ab.own [AV.fn (164:Nat) [AV.ptr (0:Nat) (0:Nat)]] (237:Nat),ab.vec (aL.ad [CK.str,CK.str] es) (66:Nat),ab.vec (aL.ad [CK.str,CK.int IntKind.i64] bs) (137:Nat)] (hr Tryz.f125 (22:Nat)) (kU.mk none false (0:Nat) [] (0:Nat))))))
       (Tree.ite (xN s) (Tree.need (bn (some [AV.s (SV.int IntKind.i64 (2:Int)),AV.ptr (0:Nat) (0:Nat)])) (Tree.need (bn (some [ab.own [AV.s (SV.str (hU s))] (9:Nat)])) (Tree.need ((0:Int)≤(2:Int)) (Tree.ite (ru (2:Int) (hU s)) (Tree.need ((0:Int)≤(0:Int)) (Tree.need ((0:Int)<(↑(jX (2:Int) (hU s)).size:Int)) (Tree.need (ay (aG (jX (2:Int) (hU s)) (Int.toNat (0:Int)))) (Tree.need ((0:Int)≤(8:Int)) (Tree.need ((0:Int)≤(1:Int)) (Tree.need ((1:Int)<(↑(jX (2:Int) (hU s)).size:Int)) (Tree.need (ay (aG (jX (2:Int) (hU s)) (Int.toNat (1:Int)))) (Tree.need ((bs.length+(1:Nat))*(24:Nat)≤(140737488355328:Nat)) (Tree.at (bw.mk (sl (93:Nat) [((1:Nat),AV.ptr (0:Nat) (0:Nat)),((2:Nat),AV.ptr (1:Nat) (0:Nat)),((4:Nat),AV.ptr (2:Nat) (0:Nat)),((5:Nat),AV.ptr (3:Nat) (0:Nat)),((6:Nat),AV.fn (165:Nat) [AV.ptr (3:Nat) (0:Nat)]),((8:Nat),AV.s (SV.bool (ru (2:Int) (hU s))))]) [ab.own [AV.s (SV.str (pq (2:Int) (hU s)))] (9:Nat),ab.own [AV.s (SV.bool false),AV.emp,AV.emp] (131:Nat),ab.own [AV.s (SV.bool l),AV.vec (4:Nat),AV.vec (5:Nat)] (131:Nat),ab.own [AV.fn (164:Nat) [AV.ptr (0:Nat) (0:Nat)]] (237:Nat),ab.vec (aL.ad [CK.str,CK.str] es) (66:Nat),ab.vec (aL.ad [CK.str,CK.int IntKind.i64] (bs++[(yu s,bt BinOp.or IntKind.i64 (IntKind.i64.wrap (aG (jX (2:Int) (hU s)) (Int.toNat (0:Int))*(2:Int)^min (Int.toNat (8:Int)) IntKind.i64.bits)) (aG (jX (2:Int) (hU s)) (Int.toNat (1:Int))),())])) (137:Nat)] (hr Tryz.f125 (22:Nat)) (kU.mk none false (0:Nat) [] (0:Nat)))))))))))) (Tree.at (bw.mk (sl (93:Nat) [((1:Nat),AV.ptr (0:Nat) (0:Nat)),((2:Nat),AV.ptr (1:Nat) (0:Nat)),((4:Nat),AV.ptr (2:Nat) (0:Nat)),((5:Nat),AV.ptr (3:Nat) (0:Nat)),((6:Nat),AV.fn (165:Nat) [AV.ptr (3:Nat) (0:Nat)]),((8:Nat),AV.s (SV.bool (ru (2:Int) (hU s))))]) [ab.own [AV.s (SV.str (pq (2:Int) (hU s)))] (9:Nat),ab.own [AV.s (SV.bool false),AV.emp,AV.emp] (131:Nat),ab.own [AV.s (SV.bool l),AV.vec (4:Nat),AV.vec (5:Nat)] (131:Nat),ab.own [AV.fn (164:Nat) [AV.ptr (0:Nat) (0:Nat)]] (237:Nat),ab.vec (aL.ad [CK.str,CK.str] es) (66:Nat),ab.vec (aL.ad [CK.str,CK.int IntKind.i64] bs) (137:Nat)] (hr Tryz.f125 (22:Nat)) (kU.mk none false (0:Nat) [] (0:Nat)))))))) (Tree.at (bw.mk (sl (93:Nat) [((1:Nat),AV.ptr (0:Nat) (0:Nat)),((2:Nat),AV.ptr (1:Nat) (0:Nat)),((4:Nat),AV.ptr (2:Nat) (0:Nat)),((5:Nat),AV.ptr (3:Nat) (0:Nat)),((6:Nat),AV.fn (165:Nat) [AV.ptr (3:Nat) (0:Nat)]),((8:Nat),AV.s (SV.bool (xN s)))]) [ab.own [AV.s (SV.str (hU s))] (9:Nat),ab.own [AV.s (SV.bool false),AV.emp,AV.emp] (131:Nat),ab.own [AV.s (SV.bool l),AV.vec (4:Nat),AV.vec (5:Nat)] (131:Nat),ab.own [AV.fn (164:Nat) [AV.ptr (0:Nat) (0:Nat)]] (237:Nat),ab.vec (aL.ad [CK.str,CK.str] es) (66:Nat),ab.vec (aL.ad [CK.str,CK.int IntKind.i64] bs) (137:Nat)] (hr Tryz.f125 (22:Nat)) (kU.mk none false (0:Nat) [] (0:Nat))))))))
 (Tree.ite (!eu l es bs) (Tree.ret [ab.own [AV.s (SV.str s)] (9:Nat),ab.own [AV.s (SV.aC false),AV.emp,AV.emp] (131:Nat),ab.own [AV.s (SV.bool l),AV.vec (4:Nat),AV.vec (5:Nat)] (131:Nat),ab.own [AV.fn (164:Nat) [AV.ptr (0:Nat) (0:Nat)]] (237:Nat),ab.vec (aL.ad [CK.str,CK.str] es) (66:Nat),ab.vec (aL.ad [CK.str,CK.int IntKind.i64] bs) (137:Nat)] (AV.bg [AV.agg [AV.s (SV.aC false),AV.emp,AV.emp],AV.s (SV.aK IntKind.i64 (4:Int))])) (Tree.ret [ab.own [AV.s (SV.str s)] (9:Nat),ab.own [AV.s (SV.bool l),AV.vec (4:Nat),AV.vec (5:Nat)] (131:Nat),ab.own [AV.s (SV.bool l),AV.vec (4:Nat),AV.vec (5:Nat)] (131:Nat),ab.own [AV.fn (164:Nat) [AV.ptr (0:Nat) (0:Nat)]] (237:Nat),ab.vec (aL.ad [CK.str,CK.str] es) (66:Nat),ab.vec (aL.ad [CK.str,CK.int IntKind.i64] bs) (137:Nat)] (AV.bg [AV.agg [AV.s (SV.bool l),AV.vec (4:Nat),AV.vec (5:Nat)],AV.s (SV.aK IntKind.i64 (0:Int))]))):=by kernel_rfl
theorem zZ(s:ByteArray)(l:Bool)(es:List En)(bs:List Br)(is:Bool):run P tM.sum Tryz.f125 adq (ahi s l es bs is)=
 Tree.ite (!is) (.ret [.own [.s (.str s)] 9,.own [.s (.aC false),.emp,.emp] 131,.own [.s (.bool l),.vec 4,.vec 5] 131,.own [.fn 164 [.ptr 0 0]] 237,.vec (.ad [.str,.str] es) 66,.vec (.ad [.str,.int .i64] bs) 137] (.bg [.agg [.s (.aC false),.emp,.emp],.s (.aK .i64 8)])) (.at (.mk (sl 93 [(1,.ptr 0 0),(2,.ptr 1 0),(4,.ptr 2 0),(5,.ptr 3 0),(6,.fn 165 [.ptr 3 0])]) [.own [.s (.str s)] 9,.own [.s (.bool false),.emp,.emp] 131,.own [.s (.bool l),.vec 4,.vec 5] 131,.own [.fn 164 [.ptr 0 0]] 237,.vec (.ad [.str,.str] es) 66,.vec (.ad [.str,.int .i64] bs) 137] (hd Tryz.f125 11) (.mk none false 0 [] 0))):=by kernel_rfl
def ahk(l:Bool)(es:List En)(bs:List Br)(l':Bool)(kp:List En)(nD:List Br):Bool:=(l==l')&&(aqe es kp&&aqf bs nD)
theorem eQ(s:ByteArray)(i j:Nat):(s.extract i j).size=min j s.size - i:=by simp
theorem cO(s:ByteArray)(i:Nat):0≤aG s i∧aG s i≤255:=by
 have:=(s.data.toList.getD i 0).toNat_lt;unfold aG;omega
theorem xO{k:Int}{s:ByteArray}:ru k s=true↔k≤(s.size:Int):=by simp[ru]
theorem tN{k:Int}{s:ByteArray}(h0:0≤k)(h:ru k s=true):((jX k s).size:Int)=k:=by
 have h:=xO.1 h;rw[jX,if_neg (by omega),eQ];omega
theorem z6{k:Int}{s:ByteArray}(h0:0≤k)(h:ru k s=true):((pq k s).size:Int)=s.size - k:=by
 have h:=xO.1 h;rw[pq,if_neg (by omega),eQ];omega
theorem ahl(k:Int)(s:ByteArray):(pq k s).size≤s.size:=by
 unfold pq;split
 ·exact Nat.le_refl _
 ·rw[eQ];omega
theorem ads{Z:aW}:fC P Z 164 tL:=by
 refine au Tryz.func164 (by kernel_rfl) (fun x=>Nat.le_of_ble_eq_true (by kernel_rfl)) ?_;rintro⟨(k:Int),(s:ByteArray)⟩ ⟨(h1:0≤k),_⟩ X hX hz;refine cR hz hX (by simp) aH.Ok.nil Tryz.func164 (ahg k s) ⟨fun h=>⟨⟨[],[0],1,[]⟩,Nat.le_refl _, ?_⟩,fun h=> ?_⟩
 ·show Norm.run _ _=some ⟨[.bg [.s (.str (jX k s)),.s (.bool (ru k s))]],[.own [.s (.str (pq k s))] 9],[],{}⟩;rw[jX,pq,ru,if_pos (of_decide_eq_true h),if_pos (of_decide_eq_true h),h];kernel_rfl
 ·have h2:=of_decide_eq_false h;refine⟨by omega,h1,by omega,h1,by omega,by omega,⟨[],[0],1,[]⟩,Nat.le_refl _, ?_⟩;show Norm.run _ _=some ⟨[.bg [.s (.str (jX k s)),.s (.bool (ru k s))]],[.own [.s (.str (pq k s))] 9],[],{}⟩;rw[jX,pq,ru,if_neg h2,if_neg h2,h];kernel_rfl
theorem ab5{Z:aW}:adp.Ok P Z:=aH.Ok.cons (ads.sum ado) aH.Ok.nil
theorem ajP{Z:aW}:fC P Z 165 zY:=by
 refine au Tryz.func165 (by kernel_rfl) (fun x=>Nat.le_of_ble_eq_true (by kernel_rfl)) ?_;rintro(s:ByteArray) _ X hX hz;refine cR hz hX (by simp) ab5 Tryz.func165 (ahh s) ⟨rfl,rfl,by decide,fun h=>⟨⟨[],[0],2,[]⟩,Nat.le_refl _, ?_⟩,fun h=> ?_⟩
 ·have h:ru 1 s=false:=by simpa using h
  show Norm.run _ _=some ⟨[.bg [.s (.str (yu s)),.s (.bool (xN s))]],[.own [.fn 164 [.ptr 1 0]] 237,.own [.s (.str (hU s))] 9],[],{}⟩;rw[yu,hU,xN,h];kernel_rfl
 ·have h:ru 1 s=true:=by simpa using h
  have h1:=tN (by omega) h;have h2:=cO (jX 1 s) 0;refine⟨by decide,by omega,⟨by show _≤aG (jX 1 s) 0;omega,by show aG (jX 1 s) 0≤_;omega⟩,rfl,rfl,h2.1,⟨[],[0],2,[]⟩,Nat.le_refl _, ?_⟩;show Norm.run _ _=some ⟨[.bg [.s (.str (yu s)),.s (.bool (xN s))]],[.own [.fn 164 [.ptr 1 0]] 237,.own [.s (.str (hU s))] 9],[],{}⟩;rw[yu,hU,xN,h];kernel_rfl
theorem jb{Z:aW}:tM.Ok P Z:=aH.Ok.cons (ads.sum ado) (aH.Ok.cons (ajP.sum al0) (aH.Ok.cons abW.sum aH.Ok.nil))
theorem pr{s:ByteArray}(h:xN s=true):(hU s).size+1≤s.size:=by
 simp only[xN,Bool.and_eq_true]at h;have h1:=z6 (by omega) h.1;have h2:=ahl (rdK s) (pq 1 s);rw[hU,if_pos h.1];omega
def ajQ(t:ByteArray):Int:=bt BinOp.or IntKind.i64 (IntKind.i64.wrap (aG t (Int.toNat 0)*2^min (Int.toNat 8) IntKind.i64.bits)) (aG t (Int.toNat 1))
def jY(l:Bool):Nat→ByteArray→List En→List Br→Int×List En×List Br
 |0,_,es,bs=>if eu l es bs=true then(0,es,bs)else(4,[],[])
 |n+1,s,es,bs=>
  if s=ByteArray.empty then(if eu l es bs=true then(0,es,bs)else(4,[],[]))
  else if xN s=false then(8,[],[])
  else if l=true then(if xN (hU s)=true then jY l n (hU (hU s)) (es++[(yu s,yu (hU s),())]) bs else(8,[],[]))
  else(if ru 2 (hU s)=true then jY l n (pq 2 (hU s)) es (bs++[(yu s,ajQ (jX 2 (hU s)),())])else(8,[],[]))
def pt(s:ByteArray):Int×List En×List Br:=
 if(s.size:Int)>254 then(40,[],[])else if s=ByteArray.empty then(8,[],[])else if aG s 0≠1∧aG s 0≠2 then(4,[],[])
 else jY (aG s 0==1) s.size (s.extract 1 s.size) [] []
def uU(s:ByteArray):Int:=(pt s).1
def oa(s:ByteArray):List En:=(pt s).2.1
def nq(s:ByteArray):List Br:=(pt s).2.2
def jL(s:ByteArray):Bool:=decide (uU s=0)&&(aG s 0==1)
end Lf
namespace Lf
open Go Go.Sx Go.Proofs
abbrev U(s:ByteArray):List UInt8:=s.data.toList
theorem tO(s:ByteArray):(U s).length=s.size:=Array.length_toList
theorem qw(s:ByteArray)(i j:Nat):U (s.extract i j)=((U s).drop i).take (j - i):=by
 rw[U,ByteArray.data_extract,Array.toList_extract,List.extract_eq_take_drop]
theorem aqh{s:ByteArray}(h:U s=[]):s=ByteArray.empty:=tp h
theorem xP{s:ByteArray}{k:Int}(h0:0≤k)(h:ru k s=true):U s=U (jX k s)++U (pq k s)∧((U (jX k s)).length:Int)=k:=by
 have hk:=xO.1 h;have hl:=tO s;refine⟨?_,by rw[tO];exact tN h0 h⟩;rw[jX,pq,if_neg (by omega),if_neg (by omega),qw,qw,List.drop_zero,Nat.sub_zero,List.take_of_length_le (l:=(U s).drop _) (by simp[hl]),List.take_append_drop]
def tP(s:ByteArray):List UInt8:=UInt8.ofNat s.size::U s
theorem mM{s:ByteArray}{a:UInt8}{r:List UInt8}(h:U s=a::r):aG s 0=(a.toNat:Int):=by
 simp[aG,show s.data.toList=a::r from h]
theorem xQ{s:ByteArray}{a b:UInt8}{r:List UInt8}(h:U s=a::b::r):aG s 1=(b.toNat:Int):=by
 simp[aG,show s.data.toList=a::b::r from h]
theorem adt{s:ByteArray}(h:xN s=true):U s=tP (yu s)++U (hU s)∧(yu s).size≤255:=by
 simp only[xN,Bool.and_eq_true]at h;obtain⟨h1,h2⟩:=h;obtain⟨g1,g2⟩:=xP (by decide) h1;have hr:=cO (jX 1 s) 0;obtain⟨g3,g4⟩:=xP (k:=rdK s) hr.1 h2;have g2:(U (jX 1 s)).length=1:=by omega
 obtain⟨a,ha⟩:=List.length_eq_one_iff.1 g2;have e:rdK s=(a.toNat:Int):=mM ha;rw[yu,hU,if_pos h1,if_pos h1];have hs:(jX (rdK s) (pq 1 s)).size=a.toNat:=by rw[←tO];omega
 refine⟨?_,by rw[hs];have:=a.toNat_lt;omega⟩;rw[g1,ha,g3,tP,hs];simp
def lJ(x:En):List UInt8:=tP x.1++tP x.2.1
def lK(x:Br):List UInt8:=tP x.1++[UInt8.ofNat (x.2.1 / 256).toNat,UInt8.ofNat (x.2.1%256).toNat]
theorem pf{a b:Int}(ha:0≤a∧a≤255)(hb:0≤b∧b≤255):bt BinOp.or IntKind.i64 (IntKind.i64.wrap (a*2^min (Int.toNat 8) IntKind.i64.bits)) b=a*256+b:=by
 have e1:IntKind.i64.wrap (a*2^min (Int.toNat 8) IntKind.i64.bits)=a*256:=by
  rw[show(2:Int)^min (Int.toNat 8) IntKind.i64.bits=256 from by decide];exact cn ⟨by omega,by omega⟩
 rw[e1];obtain⟨x,rfl⟩:=Int.eq_ofNat_of_zero_le ha.1;obtain⟨y,rfl⟩:=Int.eq_ofNat_of_zero_le hb.1;show IntKind.i64.wrap ((BitVec.ofInt 64 _ ||| BitVec.ofInt 64 _).toNat:Int)=_;have e2:(BitVec.ofInt 64 ((x:Int)*256)).toNat=2^8*x:=by rw[BitVec.toNat_ofInt];omega
 have e3:(BitVec.ofInt 64 (y:Int)).toNat=y:=by rw[BitVec.toNat_ofInt];omega
 rw[BitVec.toNat_or,e2,e3,←Nat.two_pow_add_eq_or_of_lt (by omega),cn ⟨by omega,by omega⟩];omega
theorem aqi{t:ByteArray}{a b:UInt8}(h:U t=[a,b]):ajQ t=(a.toNat:Int)*256+b.toNat:=by
 have h1:=a.toNat_lt;have h2:=b.toNat_lt;have e0:=mM h;have e1:=xQ h;rw[ajQ,show aG t (Int.toNat 0)=_ from e0,show aG t (Int.toNat 1)=_ from e1];exact pf ⟨by omega,by omega⟩ ⟨by omega,by omega⟩
theorem anR{α:Type}:∀{l:List α},l.length=2→∃a b,l=[a,b]
 |[a,b],_=>⟨a,b,rfl⟩
theorem aqj:∀(n:Nat) (l:Bool) (s:ByteArray) (es:List En) (bs:List Br) {kp:List En} {nD:List Br},s.size≤n→jY l n s es bs=(0,kp,nD)→
 ∃es2 bs2,kp=es++es2∧nD=bs++bs2∧eu l kp nD=true∧U s=es2.flatMap lJ++bs2.flatMap lK∧(l=true→bs2=[])∧(l=false→es2=[]):=by
 intro n;have fin:∀(l:Bool) (s:ByteArray) (es:List En) (bs:List Br) {kp:List En} {nD:List Br},s=ByteArray.empty→(if eu l es bs=true then((0:Int),es,bs)else(4,[],[]))=(0,kp,nD)→
  ∃es2 bs2,kp=es++es2∧nD=bs++bs2∧eu l kp nD=true∧U s=es2.flatMap lJ++bs2.flatMap lK∧(l=true→bs2=[])∧(l=false→es2=[]):=by
  intro l s es bs kp nD hs h;split at h
  ·rename_i hm;simp only[Prod.mk.injEq,true_and]at h;obtain⟨rfl,rfl⟩:=h;exact⟨[],[],by simp,by simp,hm,by subst hs;rfl,fun _=>rfl,fun _=>rfl⟩
  ·simp at h
 induction n with
 |zero=>
  intro l s es bs kp nD hn h;exact fin l s es bs (ky (Nat.le_zero.1 hn)) h
 |succ n ih=>
  intro l s es bs kp nD hn h;by_cases h0:s=ByteArray.empty
  ·rw[jY,if_pos h0]at h;exact fin l s es bs h0 h
  ·rw[jY,if_neg h0]at h;split at h
   ·simp at h
   ·rename_i hB;have hB:xN s=true:=by simpa using hB
    obtain⟨a1,a2⟩:=adt hB;have c1:=pr hB;split at h
    ·rename_i hl;subst hl;split at h
     ·rename_i hB2;obtain⟨b1,b2⟩:=adt hB2;have c2:=pr hB2;obtain⟨es2,bs2,rfl,rfl,d3,d4,d5,d6⟩:=ih true _ _ _ (by omega) h;have d5:=d5 rfl;subst d5;refine⟨(yu s,yu (hU s),())::es2,[],by simp,by simp,d3, ?_,fun _=>rfl,fun h=>(by cases h)⟩;rw[a1,b1,d4];simp[lJ]
     ·simp at h
    ·rename_i hl;have hl:l=false:=by simpa using hl
     subst hl;split at h
     ·rename_i hB2;obtain⟨b1,b2⟩:=xP (by decide) hB2;have c2:=ahl 2 (hU s);obtain⟨es2,bs2,rfl,rfl,d3,d4,d5,d6⟩:=ih false _ _ _ (by omega) h;have d6:=d6 rfl;subst d6;refine⟨[],(yu s,ajQ (jX 2 (hU s)),())::bs2,by simp,by simp,d3, ?_,fun h=>(by cases h),fun _=>rfl⟩;have b2:(U (jX 2 (hU s))).length=2:=by omega
      obtain⟨a,b,hab⟩:=anR b2;have e:=aqi hab;have h1:=a.toNat_lt;have h2:=b.toNat_lt;rw[a1,b1,d4,hab];simp only[List.flatMap_nil,List.nil_append,List.flatMap_cons,lK,e,List.append_assoc];rw[show(((a.toNat:Int)*256+b.toNat) / 256).toNat=a.toNat from by omega,show(((a.toNat:Int)*256+b.toNat)%256).toNat=b.toNat from by omega];simp
     ·simp at h
theorem anS{es:List En}(h:nn es=true){x:En}(hx:x∈es):x.1.size≤24∧x.2.1.size≤100:=by
 obtain⟨i,hi,rfl⟩:=List.getElem_of_mem hx;have:=dw.1 h i hi;simp only[okE,Bool.not_eq_true',Bool.or_eq_false_iff,decide_eq_false_iff_not,bM hi]at this;omega
theorem ahm{bs:List Br}(h:np bs=true){x:Br}(hx:x∈bs):x.1.size≤24∧2≤x.2.1∧x.2.1<1024:=by
 obtain⟨i,hi,rfl⟩:=List.getElem_of_mem hx;have:=dw.1 h i hi;simp only[okB,Bool.not_eq_true',Bool.or_eq_false_iff,decide_eq_false_iff_not,bM hi]at this;omega
abbrev enB(zs:List Int):List UInt8:=zs.map fun n=>UInt8.ofNat n.toNat
theorem ajR(zs:List Int):U (bc zs)=enB zs:=rfl
theorem u8_in{n:Int}(h0:0≤n)(h1:n≤255):IntKind.u8.wrap n=n:=by
 simp only[IntKind.wrap,IntKind.bits,IntKind.signed,Bool.false_and];simp;omega
theorem xR{s:ByteArray}(h:s.size≤255):enB (wa s)=tP s:=by
 simp only[enB,wa,List.map_cons,tP,u8_in (n:=(s.size:Int)) (by omega) (by omega),Int.toNat_natCast,List.cons.injEq,true_and,xM,List.map_map];exact(List.map_congr_left (fun a _=>by simp)).trans (List.map_id _)
theorem aqk{x:En}(h:x.1.size≤24∧x.2.1.size≤100):enB (mL x)=lJ x:=by
 simp only[mL,lJ,List.map_append];rw[show(wa x.1).map _=_ from xR (by omega),show(wa x.2.1).map _=_ from xR (by omega)]
theorem aql{x:Br}(h:x.1.size≤24∧2≤x.2.1∧x.2.1<1024):enB (rr x)=lK x:=by
 obtain⟨k,p,⟨⟩⟩:=x;have hp:2≤p∧p<1024:=h.2;simp only[rr,lK,List.map_append,List.map_cons,List.map_nil];rw[show(wa k).map _=_ from xR (by have:k.size≤24:=h.1;omega),show(2:Int)^min (Int.toNat 8) IntKind.i64.bits=256 from by decide,Int.fdiv_eq_ediv_of_nonneg _ (by omega),u8_in (by omega) (by omega)]
 have e:IntKind.u8.wrap p=p%256:=by
  simp only[IntKind.wrap,IntKind.bits,IntKind.signed,Bool.false_and];simp
 rw[e]
theorem tQ{α:Type}{f:α→List Int}{g:α→List UInt8}:∀{l:List α},(∀x∈l,enB (f x)=g x)→enB (l.flatMap f)=l.flatMap g
 |[],_=>rfl
 |x::l,h=>by
  simp only[List.flatMap_cons,List.map_append];rw[show(f x).map _=_ from h x (by simp),show(l.flatMap f).map _=_ from tQ (fun y hy=>h y (by simp[hy]))]
theorem aqm{l:Bool}{es:List En}{bs:List Br}(h1:nn es=true)(h2:np bs=true):U (bc (ab1 l es bs))=(if l=true then 1 else 2)::(es.flatMap lJ++bs.flatMap lK):=by
 rw[ajR,ab1];simp only[List.map_append];rw[show(es.flatMap mL).map _=_ from tQ fun x hx=>aqk (anS h1 hx),show(bs.flatMap rr).map _=_ from tQ fun x hx=>aql (ahm h2 hx)];cases l<;>rfl
theorem aqn:∀(es:List En),((es.flatMap lJ).length:Int)=(es.map szE).sum
 |[]=>rfl
 |x::es=>by
  simp only[List.flatMap_cons,List.length_append,List.map_cons,List.sum_cons,←aqn es,szE,lJ,tP,List.length_cons,tO];omega
theorem aqo:∀(bs:List Br),((bs.flatMap lK).length:Int)=(bs.map szB).sum
 |[]=>rfl
 |x::bs=>by
  simp only[List.flatMap_cons,List.length_append,List.map_cons,List.sum_cons,←aqo bs,szB,lK,tP,List.length_cons,List.length_nil,tO];omega
theorem ahn{s:ByteArray}{a:UInt8}{es:List En}{bs:List Br}(h:U s=a::(es.flatMap lJ++bs.flatMap lK)):(s.size:Int)=cH es bs:=by
 have:=tO s;rw[h]at this;simp only[List.length_cons,List.length_append]at this;rw[cH,←aqn,←aqo];omega
theorem qx{l:Bool}{es:List En}{bs:List Br}:gM l es bs=0↔eu l es bs=true∧cH es bs≤254:=by
 unfold gM;split
 ·split<;>simp_all
 ·simp_all
theorem ajS{l:Bool}{es:List En}{bs:List Br}(h:gM l es bs=0):dX l es bs=bc (ab1 l es bs):=by
 obtain⟨h1,h2⟩:=qx.1 h;rw[dX,if_pos (by simp[zW,h1,h2])]
theorem aqp:∀(es:List En),es.length≤(es.flatMap lJ).length
 |[]=>Nat.le_refl _
 |x::l=>by have:=aqp l;simp only[List.flatMap_cons,List.length_cons,List.length_append,lJ,tP];omega
theorem aqq:∀(es:List Br),es.length≤(es.flatMap lK).length
 |[]=>Nat.le_refl _
 |x::l=>by have:=aqq l;simp only[List.flatMap_cons,List.length_cons,List.length_append,lK,tP];omega
theorem ajT{s:ByteArray}(h:uU s=0):bh (oa s)∧bk (nq s)∧gM (jL s) (oa s) (nq s)=0∧dX (jL s) (oa s) (nq s)=s∧eu (jL s) (oa s) (nq s)=true:=by
 have h':=h;rw[uU]at h;have hl:jL s=(aG s 0==1):=by simp[jL,h']
 rw[hl];unfold oa nq;unfold pt at h ⊢;split at h
 ·exact absurd h (by decide)
 rename_i g1;rw[if_neg g1];split at h
 ·exact absurd h (by decide)
 rename_i g2;rw[if_neg g2];split at h
 ·exact absurd h (by decide)
 rename_i g3;rw[if_neg g3];obtain⟨kp,nD,e⟩:∃kp nD,jY (aG s 0==1) s.size (s.extract 1 s.size) [] []=(0,kp,nD):=⟨_,_,Prod.ext h rfl⟩;rw[e];simp only;obtain⟨es2,bs2,k1,k2,k3,k4,k5,k6⟩:=aqj _ _ _ _ _ (by rw[eQ];omega) e;simp only[List.nil_append]at k1 k2;subst k1 k2;obtain⟨m1,m2,m3,m4⟩:=eI k3;have hlen:=tO s;cases hu:U s with
 |nil=>exact absurd (aqh hu) g2
 |cons a r=>
  have hb:=mM hu;have ha:=a.toNat_lt
  have hr:r=kp.flatMap lJ++nD.flatMap lK:=by
   rw[←k4,qw,hu];rw[hu]at hlen;simp only[List.length_cons]at hlen;rw[show List.drop 1 (a::r)=r from rfl,List.take_of_length_le (by omega)]
  rw[hr]at hu;have hs:=ahn hu;have hn:gM (aG s 0==1) kp nD=0:=qx.2 ⟨k3,by omega⟩;have atZ:=aqp kp;have at0:=aqq nD;rw[hu]at hlen;simp only[List.length_cons,List.length_append]at hlen;refine⟨⟨by omega,fun x hx=>by have:=anS m3 hx;omega⟩,⟨by omega,fun x hx=>by have:=ahm m4 hx;omega⟩,hn, ?_,k3⟩;rw[ajS hn];apply tp;show U _=U _;rw[aqm m3 m4,hu];congr 1;by_cases hc:aG s 0=1
  ·rw[if_pos (by simp[hc])];exact UInt8.toNat_inj.1 (by show 1=_;omega)
  ·rw[if_neg (by simp[hc])]
   have:aG s 0=2:=by
    rcases Decidable.em (aG s 0=2)with h|h
    ·exact h
    ·exact absurd ⟨hc,h⟩ g3
   exact UInt8.toNat_inj.1 (by show 2=_;omega)
end Lf
namespace Lf
open Go Go.Sx Go.Proofs
theorem ajU(a:List En):run P gL.sum Tryz.f116 [] (start Tryz.f116 [.s (.ro (.ad cE a))] [])=
 Tree.both (a.length=0) True (.ret [] .emp) (.need (((0:Nat)+a.length)*(32:Nat)≤140737488355328) (.ret [.dead,.vec (.ad [.str,.str] ([]++a)) 66] (.vec 1))):=by kernel_rfl
theorem ajV(a:List Br):run P gL.sum Tryz.f195 [] (start Tryz.f195 [.s (.ro (.ad cB a))] [])=
 Tree.both (a.length=0) True (.ret [] .emp) (.need (((0:Nat)+a.length)*(24:Nat)≤140737488355328) (.ret [.dead,.vec (.ad [.str,.int .i64] ([]++a)) 137] (.vec 1))):=by kernel_rfl
abbrev anT:=cp [ph] [ph] (fun(l,())=>[(l:List En).length≤100000]) (fun(l,())=>(l,()))
abbrev as3:=cp [uD] [uD] (fun(l,())=>[(l:List Br).length≤100000]) (fun(l,())=>(l,()))
def ab6:aH:=[(116,anT),(195,as3)]
theorem aho(a:List En)(k:Int):run P ab6.sum Tryz.f181 [] (start Tryz.f181 [.s (.ro (.ad cE a)),.s (.int .i64 k)] [])=
 Tree.ite ((↑a.length:Int)==0) (.ret [] (.bg [.emp,.emp])) (.need ((0:Int)≤0) (.need ((0:Int)≤k) (.need (k≤(↑a.length:Int)) (.need ((List.drop (Int.toNat 0) (List.take k.toNat a)).length≤100000) (.need ((0:Int)≤k) (.need (k≤(↑a.length:Int)) (.need ((↑a.length:Int)≤(↑a.length:Int)) (.need ((List.drop k.toNat (List.take (↑a.length:Int).toNat a)).length≤100000) (.ret [.vec (.ad [.str,.str] (List.drop (Int.toNat 0) (List.take k.toNat a))) 66,.vec (.ad [.str,.str] (List.drop k.toNat (List.take (↑a.length:Int).toNat a))) 66] (.bg [.vec 0,.vec 1])))))))))):=by kernel_rfl
theorem ahp(a:List Br)(k:Int):run P ab6.sum Tryz.f182 [] (start Tryz.f182 [.s (.ro (.ad cB a)),.s (.int .i64 k)] [])=
 Tree.ite ((↑a.length:Int)==0) (.ret [] (.bg [.emp,.emp])) (.need ((0:Int)≤0) (.need ((0:Int)≤k) (.need (k≤(↑a.length:Int)) (.need ((List.drop (Int.toNat 0) (List.take k.toNat a)).length≤100000) (.need ((0:Int)≤k) (.need (k≤(↑a.length:Int)) (.need ((↑a.length:Int)≤(↑a.length:Int)) (.need ((List.drop k.toNat (List.take (↑a.length:Int).toNat a)).length≤100000) (.ret [.vec (.ad [.str,.int .i64] (List.drop (Int.toNat 0) (List.take k.toNat a))) 137,.vec (.ad [.str,.int .i64] (List.drop k.toNat (List.take (↑a.length:Int).toNat a))) 137] (.bg [.vec 0,.vec 1])))))))))):=by kernel_rfl
abbrev aqr:=cp [ph,bB] [ph,ph] (fun(l,k,())=>[(l:List En).length≤100000,0≤(k:Int),(l=[]∨k≤(l.length:Int))]) (fun(l,k,())=>(List.take (Int.toNat k) l,List.drop (Int.toNat k) l,()))
abbrev aqs:=cp [uD,bB] [uD,uD] (fun(l,k,())=>[(l:List Br).length≤100000,0≤(k:Int),(l=[]∨k≤(l.length:Int))]) (fun(l,k,())=>(List.take (Int.toNat k) l,List.drop (Int.toNat k) l,()))
def ab7:aH:=[(180,ag7),(166,anP),(175,ag9),(181,aqr),(182,aqs)]
def al2:List (Nat×Norm):=[(7,⟨[],[1,2,3,6,7,8,9,34,35,36],0,[]⟩)]
theorem ajW(l:Bool)(es:List En)(bs:List Br):run P ab7.sum Tryz.f148 al2 (start Tryz.f148 [avN l es bs] [])=
 Tree.need (bh es) (.need (bk bs) (.ite (!eu l es bs) (.ret [.own [.s (.bool l),.s (.ro (.ad [.str,.str] es)),.s (.ro (.ad [.str,.int .i64] bs))] 131,.own [.s (.aC false),.emp,.emp] 131,.own [.s (.aC false),.emp,.emp] 131,.vec (.ints .i64 (aO es bs)) 3] (.bg [.agg [.s (.aC false),.emp,.emp],.agg [.s (.aC false),.emp,.emp],.s (.aK .i64 4)])) (.ite (decide ((↑(aO es bs).length:Int)<2)) (.ret [.own [.s (.bool l),.s (.ro (.ad [.str,.str] es)),.s (.ro (.ad [.str,.int .i64] bs))] 131,.own [.s (.aC false),.emp,.emp] 131,.own [.s (.aC false),.emp,.emp] 131,.vec (.ints .i64 (aO es bs)) 3] (.bg [.agg [.s (.aC false),.emp,.emp],.agg [.s (.aC false),.emp,.emp],.s (.aK .i64 4)])) (.need (bh es) (.need (bk bs) (.need (ay (cH es bs - (1:Int))) (.need (ay ((↑(aO es bs).length:Int) - (1:Int))) (.need ((0:Int)≤0) (.need ((0:Int)≤(↑(aO es bs).length:Int) - (1:Int)) (.need ((↑(0:Nat):Int)+((↑(aO es bs).length:Int) - (1:Int))≤(↑(aO es bs).length:Int)) (.at (.mk (sl 87 [(1,.ptr 0 0),(2,.ptr 1 0),(3,.ptr 2 0),(6,.s (.int .i64 0)),(7,.s (.int .i64 (cH es bs - (1:Int)))),(8,.s (.int .i64 0)),(9,.s (.int .i64 0)),(34,.part 3 0 (((↑(aO es bs).length:Int) - (1:Int)).toNat - Int.toNat 0)),(35,.s (.int .i64 (↑(((↑(aO es bs).length:Int) - (1:Int)).toNat - Int.toNat 0):Int))),(36,.s (.int .i64 0))]) [.own [.s (.bool l),.s (.ro (.ad [.str,.str] es)),.s (.ro (.ad [.str,.int .i64] bs))] 131,.own [.s (.bool false),.emp,.emp] 131,.own [.s (.bool false),.emp,.emp] 131,.vec (.ints .i64 (aO es bs)) 3] (hd Tryz.f148 7) (.mk none false 0 [] 0))))))))))))):=by kernel_rfl
def ajX(l:Bool)(es:List En):List En:=if l=true then es else []
def ajY(l:Bool)(bs:List Br):List Br:=if l=true then []else bs
noncomputable def aqt(l:Bool)(es:List En)(bs:List Br)(zs:List Int)(n:Nat)(first rest qy least i:Int):bw:=⟨sl 87 [(1,.ptr 0 0),(2,.ptr 1 0),(3,.ptr 2 0),(6,.s (.int .i64 first)),(7,.s (.int .i64 rest)),(8,.s (.int .i64 qy)),(9,.s (.int .i64 least)),(34,.part 3 0 n),(35,.s (.int .i64 (n:Int))),(36,.s (.int .i64 i))],
 [obN l es bs 131,obZ,obZ,.vec (.ints .i64 zs) 3],hd Tryz.f148 7,{}⟩
theorem adu(l:Bool)(es:List En)(bs:List Br)(zs:List Int)(n:Nat)(first rest qy least i:Int):run P ab7.sum Tryz.f148 al2 (aqt l es bs zs n first rest qy least i)=
 Tree.ite (decide (i<(↑n:Int))) (.need ((0:Int)≤i) (.need (i<(↑n:Int)) (.need (ay (first+zs.getD ((0:Nat)+i.toNat) 0)) (.need (ay (rest - zs.getD ((0:Nat)+i.toNat) 0)) (.ite (qy==0) (.need (ay (i+1)) (.need (ay (i+1)) (.at (.mk (sl 87 [(1,.ptr 0 0),(2,.ptr 1 0),(3,.ptr 2 0),(6,.s (.int .i64 (first+zs.getD ((0:Nat)+i.toNat) 0))),(7,.s (.int .i64 (rest - zs.getD ((0:Nat)+i.toNat) 0))),(8,.s (.int .i64 (i+1))),(9,.s (.int .i64 (imax (first+zs.getD ((0:Nat)+i.toNat) 0) (rest - zs.getD ((0:Nat)+i.toNat) 0)))),(34,.part 3 0 n),(35,.s (.int .i64 (↑n:Int))),(36,.s (.int .i64 (i+1)))]) [.own [.s (.bool l),.s (.ro (.ad [.str,.str] es)),.s (.ro (.ad [.str,.int .i64] bs))] 131,.own [.s (.bool false),.emp,.emp] 131,.own [.s (.bool false),.emp,.emp] 131,.vec (.ints .i64 zs) 3] (hd Tryz.f148 7) (.mk none false 0 [] 0))))) (.ite (decide (imax (first+zs.getD ((0:Nat)+i.toNat) 0) (rest - zs.getD ((0:Nat)+i.toNat) 0)<least)) (.need (ay (i+1)) (.need (ay (i+1)) (.at (.mk (sl 87 [(1,.ptr 0 0),(2,.ptr 1 0),(3,.ptr 2 0),(6,.s (.int .i64 (first+zs.getD ((0:Nat)+i.toNat) 0))),(7,.s (.int .i64 (rest - zs.getD ((0:Nat)+i.toNat) 0))),(8,.s (.int .i64 (i+1))),(9,.s (.int .i64 (imax (first+zs.getD ((0:Nat)+i.toNat) 0) (rest - zs.getD ((0:Nat)+i.toNat) 0)))),(34,.part 3 0 n),(35,.s (.int .i64 (↑n:Int))),(36,.s (.int .i64 (i+1)))]) [.own [.s (.bool l),.s (.ro (.ad [.str,.str] es)),.s (.ro (.ad [.str,.int .i64] bs))] 131,.own [.s (.bool false),.emp,.emp] 131,.own [.s (.bool false),.emp,.emp] 131,.vec (.ints .i64 zs) 3] (hd Tryz.f148 7) (.mk none false 0 [] 0))))) (.need (ay (i+1)) (.at (.mk (sl 87 [(1,.ptr 0 0),(2,.ptr 1 0),(3,.ptr 2 0),(6,.s (.int .i64 (first+zs.getD ((0:Nat)+i.toNat) 0))),(7,.s (.int .i64 (rest - zs.getD ((0:Nat)+i.toNat) 0))),(8,.s (.int .i64 qy)),(9,.s (.int .i64 least)),(34,.part 3 0 n),(35,.s (.int .i64 (↑n:Int))),(36,.s (.int .i64 (i+1)))]) [.own [.s (.bool l),.s (.ro (.ad [.str,.str] es)),.s (.ro (.ad [.str,.int .i64] bs))] 131,.own [.s (.bool false),.emp,.emp] 131,.own [.s (.bool false),.emp,.emp] 131,.vec (.ints .i64 zs) 3] (hd Tryz.f148 7) (.mk none false 0 [] 0))))))))))
 (.need (es.length≤100000) (.need ((0:bB.V)≤qy) (.need (es=[]∨qy≤(↑es.length:Int)) (.need (bs.length≤100000) (.need ((0:bB.V)≤qy) (.need (bs=[]∨qy≤(↑bs.length:Int)) (.ret [.own [.s (.bool l),.s (.ro (.ad [.str,.str] es)),.s (.ro (.ad [.str,.int .i64] bs))] 131,.own [.s (.bool l),.vec 6,.vec 8] 131,.own [.s (.bool l),.vec 7,.vec 9] 131,.vec (.ints .i64 zs) 3,.own [.s (.bool l),.vec 6,.vec 8] 131,.own [.s (.bool l),.vec 7,.vec 9] 131,.vec (.ad [.str,.str] (List.take qy.toNat es)) 66,.vec (.ad [.str,.str] (List.drop qy.toNat es)) 66,.vec (.ad [.str,.int .i64] (List.take qy.toNat bs)) 137,.vec (.ad [.str,.int .i64] (List.drop qy.toNat bs)) 137] (.bg [.agg [.s (.bool l),.vec 6,.vec 8],.agg [.s (.bool l),.vec 7,.vec 9],.s (.aK .i64 0)])))))))):=by kernel_rfl
theorem ab8{Z:aW}:dr P Z 116 [ph] [ph] (fun(l,())=>[(l:List En).length≤100000]) (fun(l,())=>(l,())):=by
 refine aB Tryz.func116 (by kernel_rfl) (by kernel_rfl) ?_;rintro⟨(l:List En),⟨⟩⟩ _ ⟨(hl:l.length≤100000),_⟩ X hX hz;refine go hz hX aH.Ok.nil Tryz.func116 (ajU l) ⟨fun h=> ?_,fun _=>⟨by omega, ?_⟩⟩
 ·obtain rfl:=List.eq_nil_of_length_eq_zero h;exact aV ([],()) rfl (by kernel_rfl)
 ·exact aV (l,()) rfl (by kernel_rfl)
theorem anU{Z:aW}:dr P Z 195 [uD] [uD] (fun(l,())=>[(l:List Br).length≤100000]) (fun(l,())=>(l,())):=by
 refine aB Tryz.func195 (by kernel_rfl) (by kernel_rfl) ?_;rintro⟨(l:List Br),⟨⟩⟩ _ ⟨(hl:l.length≤100000),_⟩ X hX hz;refine go hz hX aH.Ok.nil Tryz.func195 (ajV l) ⟨fun h=> ?_,fun _=>⟨by omega, ?_⟩⟩
 ·obtain rfl:=List.eq_nil_of_length_eq_zero h;exact aV ([],()) rfl (by kernel_rfl)
 ·exact aV (l,()) rfl (by kernel_rfl)
theorem we{Z:aW}:ab6.Ok P Z:=aH.Ok.cons ab8.sum (aH.Ok.cons anU.sum aH.Ok.nil)
theorem ajZ{Z:aW}:dr P Z 181 [ph,bB] [ph,ph] (fun(l,k,())=>[(l:List En).length≤100000,0≤(k:Int),(l=[]∨k≤(l.length:Int))]) (fun(l,k,())=>(List.take (Int.toNat k) l,List.drop (Int.toNat k) l,())):=by
 refine aB Tryz.func181 (by kernel_rfl) (by kernel_rfl) ?_;rintro⟨(l:List En),(k:Int),⟨⟩⟩ _ ⟨(hl:l.length≤100000),(h0:0≤k),(hk:l=[]∨k≤(l.length:Int)),_⟩ X hX hz;show Safe P 181 X (Ends [ph,ph] (l.take k.toNat,l.drop k.toNat,())) _;refine go hz hX we Tryz.func181 (aho l k) ⟨fun h=> ?_,fun h=> ?_⟩
 ·obtain rfl:l=[]:=List.eq_nil_of_length_eq_zero (by have:(l.length:Int)=0:=by simpa using h
                                                     omega)
  refine aV (rs:=[ph,ph]) ([],[],()) ?_ (by kernel_rfl);show(List.take k.toNat ([]:List En),List.drop k.toNat ([]:List En),())=([],[],());rw[List.take_nil,List.drop_nil]
 ·have hk:k≤(l.length:Int):=hk.elim (fun e=>by subst e;simp at h) id;have e1:List.drop (Int.toNat 0) (List.take k.toNat l)=l.take k.toNat:=rfl;have e2:List.drop k.toNat (List.take ((l.length:Int)).toNat l)=l.drop k.toNat:=by rw[List.take_of_length_le (by omega)]
  refine⟨by omega,h0,hk, ?_,h0,hk,by omega, ?_, ?_⟩
  ·rw[e1,List.length_take];omega
  ·rw[e2,List.length_drop];omega
  ·exact aV (List.drop (Int.toNat 0) (List.take k.toNat l),List.drop k.toNat (List.take ((l.length:Int)).toNat l),()) (by rw[e2];rfl) (by kernel_rfl)
theorem aj0{Z:aW}:dr P Z 182 [uD,bB] [uD,uD] (fun(l,k,())=>[(l:List Br).length≤100000,0≤(k:Int),(l=[]∨k≤(l.length:Int))]) (fun(l,k,())=>(List.take (Int.toNat k) l,List.drop (Int.toNat k) l,())):=by
 refine aB Tryz.func182 (by kernel_rfl) (by kernel_rfl) ?_;rintro⟨(l:List Br),(k:Int),⟨⟩⟩ _ ⟨(hl:l.length≤100000),(h0:0≤k),(hk:l=[]∨k≤(l.length:Int)),_⟩ X hX hz;show Safe P 182 X (Ends [uD,uD] (l.take k.toNat,l.drop k.toNat,())) _;refine go hz hX we Tryz.func182 (ahp l k) ⟨fun h=> ?_,fun h=> ?_⟩
 ·obtain rfl:l=[]:=List.eq_nil_of_length_eq_zero (by have:(l.length:Int)=0:=by simpa using h
                                                     omega)
  refine aV (rs:=[uD,uD]) ([],[],()) ?_ (by kernel_rfl);show(List.take k.toNat ([]:List Br),List.drop k.toNat ([]:List Br),())=([],[],());rw[List.take_nil,List.drop_nil]
 ·have hk:k≤(l.length:Int):=hk.elim (fun e=>by subst e;simp at h) id;have e1:List.drop (Int.toNat 0) (List.take k.toNat l)=l.take k.toNat:=rfl;have e2:List.drop k.toNat (List.take ((l.length:Int)).toNat l)=l.drop k.toNat:=by rw[List.take_of_length_le (by omega)]
  refine⟨by omega,h0,hk, ?_,h0,hk,by omega, ?_, ?_⟩
  ·rw[e1,List.length_take];omega
  ·rw[e2,List.length_drop];omega
  ·exact aV (List.drop (Int.toNat 0) (List.take k.toNat l),List.drop k.toNat (List.take ((l.length:Int)).toNat l),()) (by rw[e2];rfl) (by kernel_rfl)
def wg(zs:List Int)(k:Nat):Int:=imax (zs.take k).sum (zs.sum - (zs.take k).sum)
def jZ(zs:List Int):Nat→Nat×Int
 |0=>(0,0)
 |k+1=>if(jZ zs k).1=0∨wg zs (k+1)<(jZ zs k).2 then(k+1,wg zs (k+1))else jZ zs k
theorem rO(zs:List Int):∀k,(jZ zs k).1≤k
 |0=>Nat.le_refl _
 |k+1=>by
  have:=rO zs k;rw[jZ];split
  ·exact Nat.le_refl _
  ·omega
theorem z7(zs:List Int):∀k,0<k→0<(jZ zs k).1
 |0,h=>absurd h (by omega)
 |k+1,_=>by
  rw[jZ];split
  ·exact Nat.succ_pos _
  ·rename_i h;exact Nat.pos_of_ne_zero (fun e=>h (.inl e))
def gl(es:List En)(bs:List Br):Nat:=(jZ (aO es bs) (es.length+bs.length - 1)).1
def fN(l:Bool)(es:List En)(bs:List Br):Bool:=eu l es bs&&decide (2≤es.length+bs.length)
def cU(l:Bool)(es:List En)(bs:List Br):Bool:=fN l es bs&&l
def bF(l:Bool)(es:List En)(bs:List Br):List En:=if fN l es bs=true then es.take (gl es bs)else []
def fv(l:Bool)(es:List En)(bs:List Br):List En:=if fN l es bs=true then es.drop (gl es bs)else []
def bG(l:Bool)(es:List En)(bs:List Br):List Br:=if fN l es bs=true then bs.take (gl es bs)else []
def fw(l:Bool)(es:List En)(bs:List Br):List Br:=if fN l es bs=true then bs.drop (gl es bs)else []
def spC(l:Bool)(es:List En)(bs:List Br):Int:=if fN l es bs=true then 0 else 4
abbrev spY(l:Bool)(es:List En)(bs:List Br):AL [ed,ed,bB]:=((cU l es bs,bF l es bs,bG l es bs,()),(cU l es bs,fv l es bs,fw l es bs,()),spC l es bs,())
theorem anV{l:Bool}{es:List En}{bs:List Br}(h:fN l es bs=false):spY l es bs=((false,[],[],()),(false,[],[],()),4,()):=by
 simp[spY,cU,bF,fv,bG,fw,spC,h];rfl
theorem aj1{l:Bool}{es:List En}{bs:List Br}(h:fN l es bs=true):spY l es bs=((l,es.take (gl es bs),bs.take (gl es bs),()),(l,es.drop (gl es bs),bs.drop (gl es bs),()),0,()):=by
 simp[spY,cU,bF,fv,bG,fw,spC,h];rfl
theorem tS(es:List En)(bs:List Br):(aO es bs).length=es.length+bs.length:=by simp[aO]
theorem ae0{zs:List Int}(h:∀x∈zs,0≤x∧x≤2002)(hl:zs.length≤2000)(k:Nat):0≤(zs.take k).sum∧(zs.take k).sum≤4004000:=by
 have:=v8 (l:=zs.take k) (m:=2002) (fun x hx=>h x (List.mem_of_mem_take hx)) (by omega);have h3:(zs.take k).length≤2000:=by rw[List.length_take];omega
 omega
theorem ahq{Z:aW}:dr P Z 148 [ed] [ed,ed,bB] (fun((_,es,bs,()),())=>[bh es,bk bs])
 (fun((l,es,bs,()),())=>((cU l es bs,bF l es bs,bG l es bs,()),(cU l es bs,fv l es bs,fw l es bs,()),spC l es bs,())):=by
 refine aB Tryz.func148 (by kernel_rfl) (by kernel_rfl) ?_;rintro⟨⟨(l:Bool),(es:List En),(bs:List Br),⟨⟩⟩,⟨⟩⟩ _ ⟨(he:bh es),(hb:bk bs),_⟩ X hX hz;have hT:ab7.Ok P Z:=aH.Ok.cons pk.sum (aH.Ok.cons abW.sum (aH.Ok.cons xL.sum (aH.Ok.cons ajZ.sum (aH.Ok.cons aj0.sum aH.Ok.nil))));show Safe P 148 X (Ends [ed,ed,bB] (spY l es bs)) _;have hle:=he.1;have hlb:=hb.1;have hlen:=tS es bs;have hr:=v7 he hb;have kx:=ae0 hr (by omega);have as4:=kx (aO es bs).length;rw[List.take_length]at as4;have bR:=tJ es bs;have loop:fN l es bs=true→∀(n k:Nat),k+n=es.length+bs.length - 1→Safe P 148 X (Ends [ed,ed,bB] (spY l es bs))
  (aqt l es bs (aO es bs) (es.length+bs.length - 1) ((aO es bs).take k).sum ((aO es bs).sum - ((aO es bs).take k).sum) ((jZ (aO es bs) k).1:Int) (jZ (aO es bs) k).2 (k:Int)):=by
  intro hok n;have aqu:=hok;simp only[fN,Bool.and_eq_true,decide_eq_true_eq]at aqu;obtain⟨hm,h2⟩:=aqu;obtain⟨m1,m2,m3,m4⟩:=eI hm
  induction n with
  |zero=>
   intro k hk;have at5:=rO (aO es bs) k
   have hE:es=[]∨((jZ (aO es bs) k).1:Int)≤(es.length:Int):=by
    cases l
    ·exact .inl (m2 rfl)
    ·have:=m1 rfl;subst this;simp only[List.length_nil]at hk;exact .inr (by omega)
   have hB:bs=[]∨((jZ (aO es bs) k).1:Int)≤(bs.length:Int):=by
    cases l
    ·have:=m2 rfl;subst this;simp only[List.length_nil]at hk;exact .inr (by omega)
    ·exact .inl (m1 rfl)
   refine go hz hX hT Tryz.func148 (adu l es bs _ _ _ _ _ _ k) ⟨fun h=>absurd (of_decide_eq_true h) (by omega),fun h=>⟨by omega,Int.natCast_nonneg _,hE,by omega,Int.natCast_nonneg _,hB, ?_⟩⟩;have aqv:(jZ (aO es bs) k).1=gl es bs:=by rw[gl,show k=es.length+bs.length - 1 from by omega]
   rw[aqv,aj1 hok];exact aV ((l,es.take (gl es bs),bs.take (gl es bs),()),(l,es.drop (gl es bs),bs.drop (gl es bs),()),0,()) rfl (by kernel_rfl)
  |succ n ih=>
   intro k hk;have h1:=kx k
   have h3:0≤(aO es bs).getD k 0∧(aO es bs).getD k 0≤2002:=by
    rw[bM (by omega)];exact hr _ (List.getElem_mem _)
   have kO:=nC (l:=aO es bs) (k:=k) (by omega)
   have hc:imax (((aO es bs).take k).sum+(aO es bs).getD k 0) ((aO es bs).sum - ((aO es bs).take k).sum - (aO es bs).getD k 0)=wg (aO es bs) (k+1):=by
    rw[wg,←kO];congr 1;omega
   have next:=ih (k+1) (by omega)
   rw[←kO,show(aO es bs).sum - (((aO es bs).take k).sum+(aO es bs).getD k 0)=(aO es bs).sum - ((aO es bs).take k).sum - (aO es bs).getD k 0 from by omega]at next
   refine go hz hX hT Tryz.func148 (adu l es bs _ _ _ _ _ _ k) ?_;simp only[Int.toNat_natCast,Nat.zero_add,hc];refine⟨fun h=>⟨by omega,by omega,⟨by omega,by omega⟩,⟨by omega,by omega⟩,fun h0=> ?_,fun h0=>⟨fun bm=> ?_,fun bm=> ?_⟩⟩,fun h=>absurd (of_decide_eq_false h) (by omega)⟩
   ·have h0:(jZ (aO es bs) k).1=0:=by have:((jZ (aO es bs) k).1:Int)=0:=by simpa using h0
                                      omega
    rw[jZ,if_pos (.inl h0)]at next
    exact⟨⟨by omega,by omega⟩,⟨by omega,by omega⟩,next⟩
   ·rw[jZ,if_pos (.inr (of_decide_eq_true bm))]at next
    exact⟨⟨by omega,by omega⟩,⟨by omega,by omega⟩,next⟩
   ·have h0:¬((jZ (aO es bs) k).1=0∨wg (aO es bs) (k+1)<(jZ (aO es bs) k).2):=by
     rintro(h|h)
     ·simp[h]at h0
     ·exact of_decide_eq_false bm h
    rw[jZ,if_neg h0]at next
    exact⟨⟨by omega,by omega⟩,next⟩
 have bad:fN l es bs=false→spY l es bs=((false,[],[],()),(false,[],[],()),4,()):=anV;refine go hz hX hT Tryz.func148 (ajW l es bs) ⟨he,hb,fun h=>aV ((false,[],[],()),(false,[],[],()),4,()) (bad ?_) (by kernel_rfl),fun h=>⟨fun h2=>aV ((false,[],[],()),(false,[],[],()),4,()) (bad ?_) (by kernel_rfl),fun h2=> ?_⟩⟩
 ·have h:eu l es bs=false:=by simpa using h
  simp[fN,h]
 ·have h2:=of_decide_eq_true h2;simp only[fN,Bool.and_eq_false_iff,decide_eq_false_iff_not];exact .inr (by omega)
 ·have h:eu l es bs=true:=by simpa using h
  have h2:=of_decide_eq_false h2;have hok:fN l es bs=true:=by simp only[fN,h,Bool.true_and,decide_eq_true_eq];omega
  refine⟨he,hb,⟨by omega,by omega⟩,⟨by omega,by omega⟩,by omega,by omega,by omega, ?_⟩;have:=loop hok (es.length+bs.length - 1) 0 (by omega);have e1:((((aO es bs).length:Int) - 1).toNat - Int.toNat 0)=es.length+bs.length - 1:=by omega
  rw[e1,bR];simp only[List.take_zero,List.sum_nil,Int.sub_zero,jZ]at this;rw[show 1+(aO es bs).sum - 1=(aO es bs).sum from by omega];exact this
theorem z8{es:List En}(h:bh es)(k:Nat):bh (es.take k):=⟨by have:=h.1;rw[List.length_take];omega,fun x hx=>h.2 x (List.mem_of_mem_take hx)⟩
theorem aaa{es:List Br}(h:bk es)(k:Nat):bk (es.take k):=⟨by have:=h.1;rw[List.length_take];omega,fun x hx=>h.2 x (List.mem_of_mem_take hx)⟩
theorem aab{es:List En}(h:bh es)(k:Nat):bh (es.drop k):=⟨by have:=h.1;rw[List.length_drop];omega,fun x hx=>h.2 x (List.mem_of_mem_drop hx)⟩
theorem aac{es:List Br}(h:bk es)(k:Nat):bk (es.drop k):=⟨by have:=h.1;rw[List.length_drop];omega,fun x hx=>h.2 x (List.mem_of_mem_drop hx)⟩
theorem js:bh []:=⟨by simp,fun x hx=>by simp at hx⟩
theorem ab9:bk []:=⟨by simp,fun x hx=>by simp at hx⟩
theorem aad(zs:List Int)(k:Nat):(zs.drop k).sum=zs.sum - (zs.take k).sum:=by
 have:(zs.take k++zs.drop k).sum=zs.sum:=by rw[List.take_append_drop]
 rw[List.sum_append]at this;omega
theorem ae1{l:Bool}{es:List En}{bs:List Br}(m1:l=true→bs=[])(m2:l=false→es=[])(k:Nat):
 ajX l (es.take k)=es.take k∧ajY l (bs.take k)=bs.take k∧ajX l (es.drop k)=es.drop k∧ajY l (bs.drop k)=bs.drop k∧
 cH (es.take k) (bs.take k)=1+((aO es bs).take k).sum∧cH (es.drop k) (bs.drop k)=1+((aO es bs).sum - ((aO es bs).take k).sum):=by
 rw[←aad];cases l
 ·obtain rfl:=m2 rfl;simp[ajX,ajY,aO,cH]
 ·obtain rfl:=m1 rfl;simp[ajX,ajY,aO,cH]
theorem ahr(a b:Int):imax (1+a) (1+b)=1+imax a b:=by
 unfold imax;split<;>split<;>omega
end Lf
namespace Lf
open Go Go.Sx Go.Proofs
abbrev xS:=cp [ph,dI] [bB,c9] (fun(l,_,())=>[(l:List En).length≤1000000,iU (cg l)]) (fun(l,key,())=>((cY (cg l) key:Nat),jW (cg l) key,()))
def aj2:aH:=[(115,xS)]
theorem ahs(l:List En)(key:ByteArray):run P aj2.sum Tryz.f78 [] (start Tryz.f78 [.s (.ro (.ad cE l)),.s (.str key)] [])=
 Tree.need (l.length≤1000000) (.need (iU (cg l)) (.ite (!jW (cg l) key) (.ret [] (.bg [.s (.str ByteArray.empty),.s (.aC false)])) (.need ((0:Int)≤(↑(cY (cg l) key):bB.V)) (.need ((↑(cY (cg l) key):bB.V)<(↑l.length:Int)) (.ret [] (.bg [.s (.str (l.getD (Int.toNat (↑(cY (cg l) key):bB.V)) (CL.d [.str,.str])).snd.fst),.s (.aC true)])))))):=by kernel_rfl
theorem aca(l:List En)(i j:Int):run P gL.sum Tryz.f123 [] (start Tryz.f123 [.vec 0,.s (.int .i64 i),.s (.int .i64 j)] [.vec (.ad cE l) eE])=
 Tree.need ((0:Int)≤i) (.need (i≤j) (.need (j≤(↑l.length:Int)) (.need ((↑(0:Nat):Int)+(↑l.length:Int)≤(↑l.length:Int)) (.ite (i==j) (.ret [.vec (.ad [.str,.str] l) 66] (.vec 0)) (.need ((0:Int)≤0) (.need ((0:Int)≤i) (.need ((↑(0:Nat):Int)+i≤(↑l.length:Int)) (.need ((0:Int)≤j) (.need (j≤(↑l.length:Int)) (.need ((↑(0:Nat):Int)+(↑l.length:Int)≤(↑l.length:Int)) (.need ((0:Nat)+(i.toNat - Int.toNat 0)+(List.drop ((0:Nat)+j.toNat) (List.take ((0:Nat)+j.toNat+((↑l.length:Int).toNat - j.toNat)) l)).length≤l.length) (.need ((0:Int)≤(↑(i.toNat - Int.toNat (0:Int)+(List.drop ((0:Nat)+j.toNat) (List.take ((0:Nat)+j.toNat+((↑l.length:Int).toNat - j.toNat)) l)).length):Int)) (.need ((↑(i.toNat - Int.toNat (0:Int)+(List.drop ((0:Nat)+j.toNat) (List.take ((0:Nat)+j.toNat+((↑l.length:Int).toNat - j.toNat)) l)).length):Int)≤(↑l.length:Int)) (.need ((↑(0:Nat):Int)+(↑l.length:Int)≤(↑(over l ((0:Nat)+(i.toNat - Int.toNat 0)) (List.drop ((0:Nat)+j.toNat) (List.take ((0:Nat)+j.toNat+((↑l.length:Int).toNat - j.toNat)) l)).length (List.drop ((0:Nat)+j.toNat) (List.take ((0:Nat)+j.toNat+((↑l.length:Int).toNat - j.toNat)) l))).length:Int)) (.ret [.vec (.ad [.str,.str] (over (over l ((0:Nat)+(i.toNat - Int.toNat 0)) (List.drop ((0:Nat)+j.toNat) (List.take ((0:Nat)+j.toNat+((↑l.length:Int).toNat - j.toNat)) l)).length (List.drop ((0:Nat)+j.toNat) (List.take ((0:Nat)+j.toNat+((↑l.length:Int).toNat - j.toNat)) l))) ((0:Nat)+(↑(i.toNat - Int.toNat (0:Int)+(List.drop ((0:Nat)+j.toNat) (List.take ((0:Nat)+j.toNat+((↑l.length:Int).toNat - j.toNat)) l)).length):Int).toNat) ((↑l.length:Int).toNat - (↑(i.toNat - Int.toNat (0:Int)+(List.drop ((0:Nat)+j.toNat) (List.take ((0:Nat)+j.toNat+((↑l.length:Int).toNat - j.toNat)) l)).length):Int).toNat) (List.replicate ((↑l.length:Int).toNat - (↑(i.toNat - Int.toNat (0:Int)+(List.drop ((0:Nat)+j.toNat) (List.take ((0:Nat)+j.toNat+((↑l.length:Int).toNat - j.toNat)) l)).length):Int).toNat) (CL.d [.str,.str])))) 66] (.part 0 0 (i.toNat - Int.toNat (0:Int)+(List.drop ((0:Nat)+j.toNat) (List.take ((0:Nat)+j.toNat+((↑l.length:Int).toNat - j.toNat)) l)).length))))))))))))))))):=by kernel_rfl
theorem drop_cons{α:Type}{l:List α}{k:Nat}(d:α)(h:k<l.length):l.drop k=l.getD k d::l.drop (k+1):=by rw[List.drop_eq_getElem_cons h,bM h]
abbrev isK(key:ByteArray)(x:En):Bool:=decide (x.1=key)
def xT(l:List En)(key:ByteArray):ByteArray:=match l.find? (isK key)with|some x=>x.2.1|none=>ByteArray.empty
def tT(l:List En)(key:ByteArray):Bool:=(l.find? (isK key)).isSome
theorem adv{L:List ab}{s:ByteArray}{b:Bool}:Ends [dI,c9] (s,b,()) L (.bg [.s (.str s),.s (.aC b)]):=rfl
theorem adw{l:List En}(hs:iU (cg l)){i j:Nat}(hi:i<l.length)(hj:j<l.length)(h:(l.getD i dE).1=(l.getD j dE).1):i=j:=by
 have hk:∀t,(cg l).getD t ByteArray.empty=(l.getD t dE).1:=fun t=>eH l zQ dE t;have hn:(cg l).length=l.length:=List.length_map _;rcases Nat.lt_trichotomy i j with h1|h1|h1
 ·have:=hs i j h1 (by omega);rw[hk,hk,h,jq]at this;cases this
 ·exact h1
 ·have:=hs j i h1 (by omega);rw[hk,hk,h,jq]at this;cases this
theorem adx{l:List En}{key:ByteArray}(hs:iU (cg l)):tT l key=jW (cg l) key∧(jW (cg l) key=true→cY (cg l) key<l.length∧xT l key=(l.getD (cY (cg l) key) dE).2.1):=by
 have hk:∀t,(cg l).getD t ByteArray.empty=(l.getD t dE).1:=fun t=>eH l zQ dE t;have hn:(cg l).length=l.length:=List.length_map _;cases ha:jW (cg l) key
 ·refine⟨?_,fun h=>by cases h⟩;cases hf:l.find? (isK key)with
  |none=>rw[tT,hf];rfl
  |some x=>
   exfalso;have h1:=List.find?_some hf;obtain⟨i,hi,rfl⟩:=List.getElem_of_mem (List.mem_of_find?_eq_some hf);have h1:l[i].1=key:=of_decide_eq_true h1;have h2:(l.getD i dE).1=key:=by rw[bM hi];exact h1
   rcases Nat.lt_or_ge i (cY (cg l) key)with h3|h3
   ·have:=ab2 h3;rw[hk,h2,jq]at this;cases this
   ·rcases Nat.eq_or_lt_of_le h3 with h4|h4
    ·have:jW (cg l) key=true:=iV.2 ⟨by omega,by rw[hk,h4];exact h2⟩;rw[ha]at this;cases this
    ·have h5:=ahf hs (key:=key) (t:=cY (cg l) key) (Nat.le_refl _) (by omega);have h6:=hs _ _ h4 (by omega);rw[hk i,h2]at h6;rw[h6]at h5;cases h5
 ·obtain⟨h1,h2⟩:=iV.1 ha;rw[hk]at h2;rw[hn]at h1;cases hf:l.find? (isK key)with
  |none=>
   exfalso;have:=List.find?_eq_none.1 hf (l.getD (cY (cg l) key) dE) (by rw[bM h1];exact List.getElem_mem _);exact this (decide_eq_true h2)
  |some x=>
   obtain⟨i,hi,rfl⟩:=List.getElem_of_mem (List.mem_of_find?_eq_some hf);have h3:=List.find?_some hf;have h3:l[i].1=key:=of_decide_eq_true h3;have e:i=cY (cg l) key:=adw hs hi h1 (by rw[h2,bM hi];exact h3);subst e;exact⟨by rw[tT,hf];rfl,fun _=>⟨h1,by rw[xT,hf,bM hi]⟩⟩
theorem aj3{Z:aW}:dr P Z 78 [ph,dI] [dI,c9] (fun(l,_,())=>[(l:List En).length≤1000000,iU (cg l)]) (fun(l,key,())=>(xT l key,tT l key,())):=by
 refine aB Tryz.func78 (by kernel_rfl) (by kernel_rfl) ?_;rintro⟨(l:List En),(key:ByteArray),⟨⟩⟩ _ ⟨(hl:l.length≤1000000),(hs:iU (cg l)),_⟩ X hX hz;show Safe P 78 X (Ends [dI,c9] (xT l key,tT l key,())) _;obtain⟨h1,h2⟩:=adx (key:=key) hs;refine go hz hX (aH.Ok.cons qv.sum aH.Ok.nil) Tryz.func78 (ahs l key) ⟨hl,hs,fun h=> ?_,fun h=> ?_⟩
 ·have h:jW (cg l) key=false:=by simpa using h
  have e2:tT l key=false:=by rw[h1,h]
  have e1:xT l key=ByteArray.empty:=by
   cases hf:l.find? (isK key)with
   |none=>rw[xT,hf]
   |some x=>rw[tT,hf]at e2;cases e2
  rw[e1,e2];exact adv
 ·have h:jW (cg l) key=true:=by simpa using h
  obtain⟨h3,h4⟩:=h2 h;rw[h4,h1,h];refine⟨Int.natCast_nonneg _, ?_,adv⟩;show((cY (cg l) key:Nat):Int)<_;omega
def dY(l:List En)(key:ByteArray):List En:=l.filter fun x=> !isK key x
def lr(l:List En)(key:ByteArray):Bool:=decide (((dY l key).length:Int)<(l.length:Int))
theorem ae2(x:En)(r:List En)(key:ByteArray):dY (x::r) key=if(!isK key x)=true then x::dY r key else dY r key:=by
 unfold dY;rw[List.filter_cons]
end Lf
namespace Lf
open Go Go.Sx Go.Proofs
abbrev uV(l:List En)(j:Int):List En:=List.drop ((0:Nat)+j.toNat) (List.take ((0:Nat)+j.toNat+(((l.length:Int)).toNat - j.toNat)) l)
abbrev qz(l:List En)(i j:Int):Nat:=i.toNat - Int.toNat (0:Int)+(uV l j).length
abbrev ae3(l:List En)(i j:Int):List En:=over (over l ((0:Nat)+(i.toNat - Int.toNat (0:Int))) (uV l j).length (uV l j)) ((0:Nat)+((qz l i j:Nat):Int).toNat) (((l.length:Int)).toNat - ((qz l i j:Nat):Int).toNat) (List.replicate (((l.length:Int)).toNat - ((qz l i j:Nat):Int).toNat) (CL.d cE))
def ady:Spec (List En×Int×Int):=⟨fun x=>[.vec 0,.s (.int .i64 x.2.1),.s (.int .i64 x.2.2)],fun x=>[.vec (.ad cE x.1) eE],fun x=>[0≤x.2.1,x.2.1<x.2.2,x.2.2≤((x.1.length:Nat):Int)],fun x=>[.vec (.ad cE (ae3 x.1 x.2.1 x.2.2)) eE],fun x=>.part 0 0 (qz x.1 x.2.1 x.2.2)⟩
def aqw:List AV→RM ((List En×Int×Int)×List Nat)
 |[.vec id,.s (.int .i64 i),.s (.int .i64 j)]=>.look id fun
  |some (.vec (.ad [.str,.str] l) _)=>.ret ((l,i,j),[id])
  |_=>.fail "delete: no row"
 |_=>.fail "delete"
def aht:aH:=[(115,xS),(116,anT),(123,bZ ady aqw)]
theorem aj4(l:List En)(key:ByteArray):run P aht.sum Tryz.f76 [] (start Tryz.f76 [.s (.ro (.ad cE l)),.s (.str key)] [])=
 Tree.need (l.length≤1000000) (.need (iU (cg l)) (.need (l.length≤100000) (.ite (jW (cg l) key) (.need (ay ((↑(cY (cg l) key):bB.V)+1)) (.need (bn (some [AV.vec 0,.s (.int .i64 (↑(cY (cg l) key):bB.V)),.s (.int .i64 ((↑(cY (cg l) key):bB.V)+1))])) (.need (bn (some [ab.vec (.ad [.str,.str] l) 66])) (.need ((0:Int)≤(↑(cY (cg l) key):bB.V)) (.need ((↑(cY (cg l) key):bB.V)<(↑(cY (cg l) key):bB.V)+1) (.need ((↑(cY (cg l) key):bB.V)+1≤(↑l.length:Int)) (.ret [.vec (.ad [.str,.str] (ae3 l (↑(cY (cg l) key):bB.V) ((↑(cY (cg l) key):bB.V)+1))) 66] (.bg [.part 0 0 (qz l (↑(cY (cg l) key):bB.V) ((↑(cY (cg l) key):bB.V)+1)),.s (.bool (jW (cg l) key))])))))))) (.ret [.vec (.ad [.str,.str] l) 66] (.bg [.vec 0,.s (.bool (jW (cg l) key))]))))):=by kernel_rfl
theorem ae4{Z:aW}:fC P Z 123 ady:=by
 refine au Tryz.func123 (by kernel_rfl) (fun x=>Nat.le_of_ble_eq_true (by kernel_rfl)) ?_;rintro⟨(l:List En),(i:Int),(j:Int)⟩ ⟨(h1:0≤i),(h2:i<j),(h3:j≤(l.length:Int)),_⟩ X hX hz;have e1:(uV l j).length=l.length - j.toNat:=by simp only[uV,List.length_drop,List.length_take];omega
 refine cR hz hX (by simp) aH.Ok.nil Tryz.func123 (aca l i j) ⟨h1,by omega,h3,by omega,fun h=>absurd h (by simp;omega),fun _=>⟨by omega,h1,by omega,by omega,h3,by omega, ?_, ?_, ?_, ?_,⟨⟨[],[0],1,[]⟩,Nat.le_refl _, ?_⟩⟩⟩
 ·show 0+(i.toNat - Int.toNat 0)+(uV l j).length≤l.length;rw[e1];omega
 ·show(0:Int)≤((qz l i j:Nat):Int);omega
 ·show((qz l i j:Nat):Int)≤_;simp only[qz,e1];omega
 ·show((0:Nat):Int)+(l.length:Int)≤((over l (0+(i.toNat - Int.toNat 0)) (uV l j).length (uV l j)).length:Int);simp only[over,List.length_append,List.length_take,List.length_drop,e1];omega
 ·show Norm.run _ _=some ⟨[.part 0 0 (qz l i j)],[.vec (.ad cE (ae3 l i j)) eE],[],{}⟩;kernel_rfl
theorem ahu{l:List En}{key:ByteArray}(hs:iU (cg l)):(jW (cg l) key=false→dY l key=l)∧(jW (cg l) key=true→dY l key=l.take (cY (cg l) key)++l.drop (cY (cg l) key+1)):=by
 have hk:∀t,(cg l).getD t ByteArray.empty=(l.getD t dE).1:=fun t=>eH l zQ dE t;have hn:(cg l).length=l.length:=List.length_map _;obtain⟨f1,f2⟩:=adx (key:=key) hs;refine⟨fun h=> ?_,fun h=> ?_⟩
 ·rw[h]at f1;refine List.filter_eq_self.2 fun x hx=> ?_
  have:l.find? (isK key)=none:=by
   cases hf:l.find? (isK key)with
   |none=>rfl
   |some y=>rw[tT,hf]at f1;cases f1
  have:=List.find?_eq_none.1 this x hx;cases hb:isK key x
  ·rfl
  ·exact absurd hb this
 ·obtain⟨h1,h2⟩:=iV.1 h;rw[hk]at h2;rw[hn]at h1;have e:l=l.take (cY (cg l) key)++l.getD (cY (cg l) key) dE::l.drop (cY (cg l) key+1):=by rw[←drop_cons dE h1,List.take_append_drop]
  have other:∀i,i<l.length→i≠cY (cg l) key→(!isK key (l.getD i dE))=true:=fun i hi cL=>by
   cases hb:isK key (l.getD i dE)
   ·rfl
   ·exact absurd (adw hs hi h1 ((show(l.getD i dE).1=key from of_decide_eq_true hb).trans h2.symm)) cL
  have g1:dY (l.take (cY (cg l) key)) key=l.take (cY (cg l) key):=by
   refine List.filter_eq_self.2 fun x hx=> ?_;obtain⟨i,hi,rfl⟩:=List.getElem_of_mem hx;rw[List.length_take]at hi;have:=other i (by omega) (by omega);rw[bM (by omega)]at this;rw[List.getElem_take];exact this
  have g2:dY (l.drop (cY (cg l) key+1)) key=l.drop (cY (cg l) key+1):=by
   refine List.filter_eq_self.2 fun x hx=> ?_;obtain⟨i,hi,rfl⟩:=List.getElem_of_mem hx;rw[List.length_drop]at hi;have:=other (cY (cg l) key+1+i) (by omega) (by omega);rw[bM (by omega)]at this;rw[List.getElem_drop];exact this
  have app:∀a b:List En,dY (a++b) key=dY a key++dY b key:=fun a b=>List.filter_append ..;have:dY l key=dY (l.take (cY (cg l) key)++l.getD (cY (cg l) key) dE::l.drop (cY (cg l) key+1)) key:=by rw[←e]
  rw[this,app,ae2,if_neg (show¬(!decide ((l.getD (cY (cg l) key) dE).1=key))=true from by rw[decide_eq_true h2];simp),g1,g2]
theorem aj5{l:List En}{key:ByteArray}(hs:iU (cg l)):lr l key=jW (cg l) key:=by
 obtain⟨h1,h2⟩:=ahu (key:=key) hs;cases ha:jW (cg l) key
 ·rw[lr,h1 ha];simp
 ·obtain⟨h3,_⟩:=iV.1 ha;rw[List.length_map]at h3;rw[lr,h2 ha];simp only[List.length_append,List.length_take,List.length_drop,decide_eq_true_eq];omega
theorem ae5{l:List En}{k:Nat}(h:k<l.length):(ae3 l (k:Int) ((k:Int)+1)).take (qz l (k:Int) ((k:Int)+1))=l.take k++l.drop (k+1):=by
 have e0:uV l ((k:Int)+1)=l.drop (k+1):=by
  simp only[uV];rw[show 0+((k:Int)+1).toNat=k+1 from by omega,List.take_of_length_le (by omega)]
 have e1:qz l (k:Int) ((k:Int)+1)=l.length - 1:=by
  simp only[qz,e0,List.length_drop];omega
 simp only[ae3,e0,e1,over];rw[show 0+((k:Int).toNat - Int.toNat 0)=k from by omega,show 0+(((l.length - 1:Nat):Int)).toNat=l.length - 1 from by omega,show k+(l.drop (k+1)).length=l.length - 1 from by rw[List.length_drop];omega];rw[List.take_of_length_le (l:=l.drop (k+1)) (Nat.le_refl _)];have hlen:(l.take k++l.drop (k+1)).length=l.length - 1:=by simp only[List.length_append,List.length_take,List.length_drop];omega
 rw[List.append_assoc,List.append_assoc,←List.append_assoc (l.take k),List.take_left' hlen,List.take_left' hlen]
theorem ahv{Z:aW}:dr P Z 76 [ph,dI] [ph,c9] (fun(l,_,())=>[(l:List En).length≤100000,iU (cg l)]) (fun(l,key,())=>(dY l key,lr l key,())):=by
 refine aB Tryz.func76 (by kernel_rfl) (by kernel_rfl) ?_;rintro⟨(l:List En),(key:ByteArray),⟨⟩⟩ _ ⟨(hl:l.length≤100000),(hs:iU (cg l)),_⟩ X hX hz;show Safe P 76 X (Ends [ph,c9] (dY l key,lr l key,())) _;have hT:aht.Ok P Z:=aH.Ok.cons qv.sum (aH.Ok.cons ab8.sum (aH.Ok.cons (ae4.sum aqw) aH.Ok.nil));obtain⟨d1,d2⟩:=ahu (key:=key) hs;have hb:=aj5 (key:=key) hs;have hle:=tG (cg l) key;rw[List.length_map]at hle;refine go hz hX hT Tryz.func76 (aj4 l key) ⟨by omega,hs,hl,fun h=> ?_,fun h=> ?_⟩
 ·obtain⟨h3,_⟩:=iV.1 h;rw[List.length_map]at h3;refine⟨⟨?_, ?_⟩,rfl,rfl, ?_, ?_, ?_, ?_⟩
  ·show(-9223372036854775808:Int)≤((cY (cg l) key:Nat):Int)+1;omega
  ·show((cY (cg l) key:Nat):Int)+1≤(9223372036854775807:Int);omega
  ·show(0:Int)≤((cY (cg l) key:Nat):Int);omega
  ·show((cY (cg l) key:Nat):Int)<((cY (cg l) key:Nat):Int)+1;omega
  ·show((cY (cg l) key:Nat):Int)+1≤(l.length:Int);omega
  ·refine aV (List.drop 0 ((ae3 l ((cY (cg l) key:Nat):Int) (((cY (cg l) key:Nat):Int)+1)).take (0+qz l ((cY (cg l) key:Nat):Int) (((cY (cg l) key:Nat):Int)+1))),jW (cg l) key,()) ?_ (by kernel_rfl);rw[d2 h,hb,Nat.zero_add,ae5 h3];rfl
 ·refine aV (l,jW (cg l) key,()) ?_ (by kernel_rfl);rw[d1 h,hb];rfl
end Lf
namespace Lf
open Go Go.Sx Go.Proofs
def fx(l:List En)(key val:ByteArray):List En:=l.take (cY (cg l) key)++(key,val,())::l.drop (if jW (cg l) key=true then cY (cg l) key+1 else cY (cg l) key)
theorem aj6{l:List En}{key val:ByteArray}:(fx l key val).length=l.length+(if jW (cg l) key=true then 0 else 1):=by
 have:=tG (cg l) key;rw[List.length_map]at this;cases ha:jW (cg l) key
 ·simp only[fx,ha,List.length_append,List.length_cons,List.length_take,List.length_drop];simp;omega
 ·have h1:=(iV.1 ha).1;rw[List.length_map]at h1;simp only[fx,ha,List.length_append,List.length_cons,List.length_take,List.length_drop];simp;omega
end Lf
namespace Go.Sx
open Go
section
variable{ρ aF:Nat→Value}{H H':aM}{G O O':Nat→Prop}{w w':World}{P:Program}{X:Ctx}{L:List ab}{K:List ab→AV→Prop}
theorem anW(hs:Sat ρ (lk L) G w){id:Nat}{c c2:aL}{e:TypeId}{root:Value}(de:L[id]? =some (.vec c e))(oK:∀b,eg root=some b→eg (ρ id)=some b)(dQ:gQ ρ (lk L) (aP ρ (lk L) G) w root (.vec c2 e)):
 ∃aF,Sat aF (lk (L.set id .dead++[.vec c2 e])) G w∧vQ ρ L G w aF (L.set id .dead++[.vec c2 e])∧aF L.length=root:=by
 have bm:id<L.length:=(List.getElem?_eq_some_iff.1 de).1;generalize hx:ab.vec c2 e=x;have hxa:x.alive=true:=by rw[←hx];rfl
 have old:∀{k:Nat} {o:ab},(L.set id .dead++[x])[k]? =some o→(k=L.length∧o=x)∨(k=id∧o=.dead)∨(k≠id∧k≠L.length∧L[k]? =some o):=by
  intro k o ho;have h2:=(List.getElem?_eq_some_iff.1 ho).1;simp only[List.length_append,List.length_set,List.length_cons,List.length_nil]at h2;by_cases hk:k=L.length
  ·subst hk;rw[List.getElem?_append_right (by simp)]at ho;simp at ho;exact .inl ⟨rfl,ho.symm⟩
  ·rw[List.getElem?_append_left (by simp;omega),List.getElem?_set]at ho;split at ho
   ·rename_i yK
    first
     |exact .inr (.inl ⟨yK.symm,by simpa using ho.symm⟩)
     |(rw[if_pos bm]at ho;exact .inr (.inl ⟨yK.symm,by simpa using ho.symm⟩))
   ·rename_i yK;exact .inr (.inr ⟨Ne.symm yK,hk,ho⟩)
 have new:∀{k:Nat} {o:ab},L[k]? =some o→k≠id→(L.set id .dead++[x])[k]? =some o:=by
  intro k o ho hk;have h1:=(List.getElem?_eq_some_iff.1 ho).1;rw[List.getElem?_append_left (by simpa using h1),List.getElem?_set_ne (Ne.symm hk)];exact ho
 have agz:(L.set id .dead++[x])[id]? =some .dead:=by
  rw[List.getElem?_append_left (by simpa using bm),List.getElem?_set_self bm]
 have apL:(L.set id .dead++[x])[L.length]? =some x:=by
  rw[List.getElem?_append_right (by simp)];simp
 let aF:Nat→Value:=fun j=>if j=L.length then root else ρ j
 have dC:∀b,Own aF (lk (L.set id .dead++[x])) b→Own ρ (lk L) b:=by
  rintro b ⟨k,o,ho,ha,hb⟩;rcases old ho with⟨h1,h2⟩|⟨h1,h2⟩|⟨h1,h2,h3⟩
  ·simp only[aF,h1,if_true]at hb;exact⟨id,_,de,rfl,oK b hb⟩
  ·subst h2;cases ha
  ·simp only[aF,h2,if_false]at hb;exact⟨k,o,h3,ha,hb⟩
 have st:vQ ρ L G w aF (L.set id .dead++[x]):=by
  refine⟨fun k o ho=> ?_,fun k o ho=> ?_,fun b hb=>.inl ?_,fun _ _ _=>rfl,Nat.le_refl _⟩
  ·have h1:k<L.length:=(List.getElem?_eq_some_iff.1 ho).1;simp only[aF];rw[if_neg (by omega)]
  ·by_cases hk:k=id
   ·subst hk;exact⟨.dead,agz,fun c' e' hc=>by cases hc⟩
   ·exact⟨o,new ho hk,fun c' e' hc=>⟨c',e',hc,rfl,rfl⟩⟩
  ·rcases hb with hb|hb
   ·exact .inl (dC b hb)
   ·exact .inr hb
 refine⟨aF,⟨fun k o ho=> ?_,fun i j oi oj b hi hj ai aj bi bj=> ?_,fun b hb=>hs.apart b (dC b hb),hs.low⟩,st, ?_⟩
 ·rcases old ho with⟨h1,h2⟩|⟨h1,h2⟩|⟨h1,h2,h3⟩
  ·rw[h2];simp only[aF,h1,if_true];rw[hx]at dQ;exact dQ.step st (fun _ _ _=>rfl)
  ·subst h2;trivial
  ·simp only[aF,h2,if_false];exact(hs.obj k o h3).step st (fun _ _ _=>rfl)
 ·have cls:∀{k:Nat} {o:ab},(L.set id .dead++[x])[k]? =some o→o.alive=true→eg (aF k)=some b→(k=L.length∧eg (ρ id)=some b)∨(k≠id∧k≠L.length∧L[k]? =some o∧eg (ρ k)=some b):=by
   intro k o ho ha hb;rcases old ho with⟨h1,h2⟩|⟨h1,h2⟩|⟨h1,h2,h3⟩
   ·simp only[aF,h1,if_true]at hb;exact .inl ⟨h1,oK b hb⟩
   ·subst h2;cases ha
   ·simp only[aF,h2,if_false]at hb;exact .inr ⟨h1,h2,h3,hb⟩
  rcases cls hi ai bi with⟨h1,h2⟩|⟨h1,h2,h3,h4⟩<;>rcases cls hj aj bj with⟨k1,k2⟩|⟨k1,k2,k3,k4⟩
  ·rw[h1,k1]
  ·exact absurd (hs.inj j id oj _ b k3 de aj rfl k4 h2) k1
  ·exact absurd (hs.inj i id oi _ b h3 de ai rfl h4 k2) h1
  ·exact hs.inj i j oi oj b h3 k3 ai aj h4 k4
 ·simp only[aF,if_true]
def pv(c:aL)(m:Nat):aL:=.ef c.size (c.n+m) fun i j=>bif i.blt c.n then c.cell i j else .aR
theorem aae{tmps:List AV}{t:Nat}{y x:AV}(ht:tmps.getD t (.s .aR)=y)(hy:y≠.s .aR)(u:Nat):(tmps.set t x).getD u (.s .aR)=if u=t then x else tmps.getD u (.s .aR):=by
 have bm:t<tmps.length:=by
  rcases Nat.lt_or_ge t tmps.length with h|h
  ·exact h
  ·rw[List.getD,List.getElem?_eq_none h]at ht;exact absurd ht.symm hy
 by_cases hu:u=t
 ·subst hu;rw[if_pos rfl];simp[List.getD,bm]
 ·rw[if_neg hu];simp[List.getD,List.getElem?_set_ne (Ne.symm hu)]
theorem ahw{a:Option Addr}{cap m:Nat}{c:aL}{e:TypeId}(hm:0<m)(aqx:c.n+m≤cap)(h:gQ ρ H O w (.slice a c.n cap) (.vec c e)):gQ ρ H O w (.slice a (c.n+m) cap) (.vec (pv c m) e):=by
 obtain⟨a2,oH,h1,h2,h3,h4⟩:=h;cases h1;rcases h4 with h4|⟨b,o,cells,fr,us,rfl,g1,g2,g3,g4⟩
 ·omega
 ·refine⟨some ⟨b,o,none⟩,cap,rfl,aqx,h3,.inr ⟨b,o,cells,fr,fun i j=>if i<c.n then us i j else cells.getD (o+i*c.size+j) undef,rfl,g1,g2,g3,fun i j hi hj=> ?_⟩⟩;have hi:i<c.n+m:=hi;have hj:j<c.size:=hj;show cells[o+i*c.size+j]? =_∧aT O w (bif i.blt c.n then c.cell i j else .aR) _;by_cases dz:i<c.n
  ·dsimp only;rw[if_pos dz,show i.blt c.n=true from by simpa[Nat.blt,Nat.lt_iff_add_one_le]using dz];exact g4 i j dz hj
  ·dsimp only
   rw[if_neg dz,show i.blt c.n=false from by
    cases hb:i.blt c.n
    ·rfl
    ·exact absurd (show i<c.n from by simpa[Nat.blt,Nat.lt_iff_add_one_le]using hb) dz]
   have bm:o+i*c.size+j<cells.length:=by
    have:(i+1)*c.size≤cap*c.size:=Nat.mul_le_mul_right _ (by omega);rw[Nat.succ_mul]at this;omega
   have e:cells[o+i*c.size+j]? =some (cells.getD (o+i*c.size+j) undef):=by simp[List.getD,bm]
   exact⟨e,.aR _ (g2.2 _ (List.mem_of_getElem? e))⟩
theorem ae6{f:FuncId}{tmps:List AV}{todo:List Item}{t id m:Nat}{c:aL}{e:TypeId}(ht:tmps.getD t (.s .aR)=.vec id)(de:L[id]? =some (.vec c e))(hm:0<m)
 {stk:kU} (hA:Safe P f X K ⟨tmps.set t (.part L.length 0 c.n),L.set id .dead++[.vec (pv c m) e],todo,stk⟩)
 (hB:Safe P f X K ⟨tmps.set t (.s (.wI c (c.n+m))),L.set id .dead,todo,stk⟩):Safe P f X K ⟨tmps,L,todo,stk⟩:=by
 intro G E ρ a w gI gO hr bf tf fsf hwf;have hs:Sat ρ (lk L) G w:=hr.sat;have hd:=hr.den t;rw[show(St.tmps ⟨tmps,L⟩).getD t (.s .aR)=.vec id from ht]at hd;obtain⟨a0,cap,hv,dK,hle,abp⟩:=iL hs de hd;have dQ:=hs.obj id _ de;rw[dK,hv]at dQ;have bm:id<L.length:=(List.getElem?_eq_some_iff.1 de).1;by_cases hc:c.n+m≤cap
 ·obtain⟨aF,s',st,hρ⟩:=anW hs de (root:=.slice a0 (c.n+m) cap) (c2:=pv c m) (fun b hb=>by
   rw[dK,hv];cases a0 with
   |none=>simp[eg]at hb
   |some y=>simpa[eg]using hb) (ahw hm hc dQ)
  refine hA G E aF a w gI gO ⟨s',by rw[List.length_set];exact hr.size,fun u=> ?_,hr.defers,hr.from_.trans st,hr.ix,hr.kept⟩ bf tf fsf hwf;show af aF _ _ w ((tmps.set t (.part L.length 0 c.n)).getD u (.s .aR)) _;rw[aae ht (by simp)];by_cases hu:u=t
  ·subst hu;rw[if_pos rfl,hv];unfold af aD;refine⟨rfl,.vec (pv c m) e,by show(L.set id .dead++[_])[L.length]? =_;rw[List.getElem?_append_right (by simp)];simp,fun c' e' he=> ?_⟩;cases he;refine⟨by show 0+c.n≤c.n+m;omega,a0,cap,a0,hρ,hc,by simp,fun _=> ?_⟩;rw[Nat.zero_mul];cases a0 with
   |none=>rfl
   |some y=>simp[Addr.add]
  ·rw[if_neg hu];exact(hr.den u).step st
 ·have eL:lk (L.set id .dead)=ax (lk L) id .dead:=by
   funext k;show(L.set id .dead)[k]? =_;rw[List.getElem?_set];by_cases hk:id=k
   ·subst hk;simp[ax,bm]
   ·rw[if_neg hk];simp[ax,Ne.symm hk]
  have st:vQ ρ L G w ρ (L.set id .dead):=by
   show Step ρ (lk L) _ w ρ (lk (L.set id .dead)) (aP ρ (lk (L.set id .dead)) G) w;rw[eL];exact eK (H:=lk L) de
  have hs':Sat ρ (lk (L.set id .dead)) G w:=by rw[eL];exact Sat.kill hs de
  refine hB G E ρ a w gI gO ⟨hs',by rw[List.length_set];exact hr.size,fun u=> ?_,hr.defers,hr.from_.trans st,hr.ix,hr.kept⟩ bf tf fsf hwf;show af ρ _ _ w ((tmps.set t (.s (.wI c (c.n+m)))).getD u (.s .aR)) _;rw[aae ht (by simp)];by_cases hu:u=t
  ·subst hu;rw[if_pos rfl,hv];refine az (.wI _ _ _ _ _ ?_ (by omega));obtain⟨a2,oH,h1,h2,h3,h4⟩:=dQ;cases h1;rcases h4 with rfl|⟨b,o,cells,fr,us,rfl,g1,g2,g3,g4⟩
   ·exact .ro c a0 0 (fun _ _=>undef) 0 0 hle abp (fun h=>by omega) (fun i j hi _=>by omega) (fun i j hi _=>by omega)
   ·refine .ro c _ cap us b o hle abp (fun h0=>⟨rfl, ?_, ?_⟩) (fun i j hi hj=> ?_) (fun i j hi hj=>((g4 i j hi hj).2).step st.fz st.heap st.size)
    ·have hb:eg (ρ id)=some b:=by
      rw[dK,hv];simp only[eg];rw[if_neg (by omega)]
     rintro(⟨k,ok,hk,ha,hb2⟩|hG)
     ·have hk:(L.set id .dead)[k]? =some ok:=hk;rw[List.getElem?_set]at hk;split at hk
      ·rename_i e1
       first
        |(simp only[Option.some.injEq]at hk;subst hk;cases ha)
        |(rw[if_pos bm]at hk;simp only[Option.some.injEq]at hk;subst hk;cases ha)
      ·rename_i e1;exact e1 (hs.inj id k _ ok b de hk rfl ha hb hb2)
     ·exact hs.apart b ⟨id,_,de,rfl,hb⟩ hG
    ·exact(Array.getElem?_eq_some_iff.1 g1).1
    ·have:=(g4 i j hi hj).1;simp only[World.cell?,g1];simp[this]
  ·rw[if_neg hu];exact(hr.den u).step st
theorem ahx{f:FuncId}{tmps:List AV}{todo:List Item}{stk:kU}{id:Nat}{c c':aL}{e:TypeId}(de:L[id]? =some (.vec c e))(hn:c'.n=c.n)(bR:c'.size=c.size)(hc:∀i j,i<c.n→j<c.size→c'.cell i j=c.cell i j)
 (h:Safe P f X K ⟨tmps,L.set id (.vec c' e),todo,stk⟩):Safe P f X K ⟨tmps,L,todo,stk⟩:=by
 intro G E ρ a w gI gO hr b t fs hw;have hs:Sat ρ (lk L) G w:=hr.sat;have bm:id<L.length:=(List.getElem?_eq_some_iff.1 de).1
 have eL:lk (L.set id (.vec c' e))=ax (lk L) id (.vec c' e):=by
  funext k;show(L.set id (.vec c' e))[k]? =_;rw[List.getElem?_set];by_cases hk:id=k
  ·subst hk;simp[ax,bm]
  ·rw[if_neg hk];simp[ax,Ne.symm hk]
 have dQ:gQ ρ (ax (lk L) id (.vec c' e)) (aP ρ (lk L) G) w (ρ id) (.vec c' e):=by
  obtain⟨a2,oH,h1,h2,h3,h4⟩:=hs.obj id _ de;refine⟨a2,oH,by rw[hn];exact h1,by omega,h3, ?_⟩;rcases h4 with h4|⟨b,o,cells,fr,us,rfl,g1,g2,g3,g4⟩
  ·exact .inl h4
  ·refine .inr ⟨b,o,cells,fr,us,rfl,g1,g2,by rw[bR];exact g3,fun i j hi hj=> ?_⟩;rw[hn]at hi;rw[bR]at hj;rw[bR,hc i j hi hj];exact g4 i j hi hj
 obtain⟨aF,s',_,st,_⟩:=Good.upd (H:=lk L) (o':=.vec c' e) (r:=.s .aR) (v:=undef) hs de rfl (fun c2 e2 he=>by cases he;exact⟨c,e,rfl,hn,bR⟩) dQ (by unfold af;trivial);rw[←eL]at s' st;exact h G E aF a w gI gO ⟨s',hr.size,fun u=>(hr.den u).step st,hr.defers,hr.from_.trans st,hr.ix,hr.kept⟩ b t fs hw
theorem ae7{f:FuncId}{tmps:List AV}{todo:List Item}{stk:kU}{t id n:Nat}{c:aL}{e:TypeId}(ht:tmps.getD t (.s .aR)=.part id 0 n)(de:L[id]? =some (.vec c e))(hn:n=c.n)(h0:0<n)
 (h:Safe P f X K ⟨tmps.set t (.vec id),L,todo,stk⟩):Safe P f X K ⟨tmps,L,todo,stk⟩:=by
 intro G E ρ a w gI gO hr b tf fs hw;have hd:=hr.den t;rw[show(St.tmps ⟨tmps,L⟩).getD t (.s .aR)=.part id 0 n from ht]at hd;refine h G E ρ a w gI gO (hr.xn ht ?_) b tf fs hw;have yP:=hd;unfold af aD at hd;obtain⟨h1,o,ho,hv⟩:=hd
 have:o=.vec c e:=by
  have:(St.look ⟨tmps,L⟩) id=some (.vec c e):=de;rw[this]at ho;cases ho;rfl
 subst this;obtain⟨hle,a1,cap,a2,k1,k2,k3,k4⟩:=hv c e rfl;have uM:cap≠0:=by omega
 unfold af aD;refine⟨h1,.vec c e,ho,fun c' e' he=> ?_⟩;cases he;rw[k3,k1,k4 uM,Nat.sub_zero,hn,Nat.zero_mul];cases a1 with
 |none=>rfl
 |some y=>simp[Addr.add]
end
end Go.Sx
namespace Lf
open Go Go.Sx Go.Proofs
def kB{α:Type}(l:List α)(k:Nat)(x:α):List α:=l.take k++x::l.drop k
def adz:Spec (List En×En×Nat):=⟨fun x=>[.vec 0,.s (.int .i64 (x.2.2:Int)),.vec 1],fun x=>[.vec (.ad cE x.1) eE,.vec (.ad cE [x.2.1]) eE],fun x=>[x.2.2≤x.1.length,x.1.length≤100000],fun x=>[.dead,.vec (.ad cE [x.2.1]) eE,.vec (.ad cE (kB x.1 x.2.2 x.2.1)) eE],fun x=>.vec 2⟩
def al3:List (Nat×Norm):=[(8,⟨[],[0,1,2,7,8],2,[]⟩)]
noncomputable def cIA(l:List (CL cE))(x:CL cE)(k:Nat):bw:=⟨sl 95 [(0,.part 2 0 l.length),(1,.s (.int .i64 (k:Int))),(2,.vec 1),(7,.s (.int .i64 ((1:Nat):Int))),(8,.s (.int .i64 (l.length:Int)))],[.dead,.vec (.ad cE [x]) eE,.vec (pv (.ad cE l) 1) eE],hr Tryz.f117 8,{}⟩
noncomputable def cIB(l:List (CL cE))(x:CL cE)(k:Nat):bw:=⟨sl 95 [(0,.s (.wI (.ad cE l) (l.length+1))),(1,.s (.int .i64 (k:Int))),(2,.vec 1),(7,.s (.int .i64 ((1:Nat):Int))),(8,.s (.int .i64 (l.length:Int)))],[.dead,.vec (.ad cE [x]) eE],hr Tryz.f117 8,{}⟩
def aqy:List (Nat×Norm):=[(17,⟨[],[0],3,[]⟩)]
theorem aj7(l:List (CL cE))(x:CL cE)(k:Nat):run P (aH.sum []) Tryz.f117 al3 (start Tryz.f117 [.vec 0,.s (.int .i64 (k:Int)),.vec 1] [.vec (.ad cE l) eE,.vec (.ad cE [x]) eE])=
 Tree.need ((0:Int)≤(↑k:Int)) (.need ((↑k:Int)≤(↑l.length:Int)) (.need ((↑(0:Nat):Int)+(↑l.length:Int)≤(↑l.length:Int)) (.ite false (.ret [.vec (.ad [.str,.str] l) 66,.vec (.ad [.str,.str] [x]) 66] (.vec 0)) (.ite ((↑k:Int)==(↑l.length:Int)) (.need ((l.length+1)*(32:Nat)≤140737488355328) (.ret [.dead,.vec (.ad [.str,.str] [x]) 66,.vec (.ad [.str,.str] (l++[x])) 66] (.vec 2))) (.at (.mk (sl 95 [(0,.vec 0),(1,.s (.int .i64 (↑k:Int))),(2,.vec 1),(7,.s (.int .i64 (↑(1:Nat):Int))),(8,.s (.int .i64 (↑l.length:Int)))]) [.vec (.ad [.str,.str] l) 66,.vec (.ad [.str,.str] [x]) 66] (hr Tryz.f117 8) (.mk none false 0 [] 0))))))):=by kernel_rfl
theorem anX(l:List (CL cE))(x:CL cE)(k:Nat):run P (aH.sum []) Tryz.f117 aqy (cIA l x k)=
 Tree.need (ay ((↑l.length:Int)+(1:Int)))
 (Tree.need ((↑l.length:Int)+(1:Int)≤(↑(l.length+(1:Nat) - (0:Nat)):Int))
   (Tree.need (ay ((↑l.length:Int)+(1:Int)))
     (Tree.need ((0:Int)≤(0:Int))
       (Tree.need ((0:Int)≤(↑l.length:Int)+(1:Int))
         (Tree.need ((↑(0:Nat):Int)+((↑l.length:Int)+(1:Int))≤(↑(l.length+(1:Nat)):Int))
           (Tree.need (ay ((↑k:Int)+(1:Int)))
             (Tree.need ((0:Int)≤(↑k:Int)+(1:Int))
               (Tree.need ((↑k:Int)+(1:Int)≤(↑(((↑l.length:Int)+(1:Int)).toNat - Int.toNat (0:Int)):Int))
                 (Tree.need ((↑(0:Nat):Int)+(↑(((↑l.length:Int)+(1:Int)).toNat - Int.toNat (0:Int)):Int)≤(↑(l.length+(1:Nat)):Int)) (Tree.need (amP P (153:Nat)) (Tree.need (ay ((↑k:Int)+(1:Int))) (Tree.need ((0:Int)≤(↑k:Int)+(1:Int)) (Tree.need ((↑k:Int)+(1:Int)≤(↑(((↑l.length:Int)+(1:Int)).toNat - Int.toNat (0:Int)):Int)) (Tree.need ((↑(0:Nat):Int)+(↑(((↑l.length:Int)+(1:Int)).toNat - Int.toNat (0:Int)):Int)≤(↑(l.length+(1:Nat)):Int)) (Tree.need ((0:Int)≤(↑k:Int)) (Tree.need ((↑k:Int)≤(↑(((↑l.length:Int)+(1:Int)).toNat - Int.toNat (0:Int)):Int)) (Tree.need ((↑(0:Nat):Int)+(↑(((↑l.length:Int)+(1:Int)).toNat - Int.toNat (0:Int)):Int)≤(↑(l.length+(1:Nat)):Int)) (Tree.need ((0:Int)≤(↑k:Int)) (Tree.need ((↑k:Int)≤(↑(((↑l.length:Int)+(1:Int)).toNat - Int.toNat (0:Int)):Int)) (Tree.need ((↑(0:Nat):Int)+(↑(((↑l.length:Int)+(1:Int)).toNat - Int.toNat (0:Int)):Int)≤(↑(l.length+(1:Nat)):Int)) (Tree.at (bw.mk (sl (95:Nat) [((0:Nat),AV.part (2:Nat) (0:Nat) (((↑l.length:Int)+(1:Int)).toNat - Int.toNat (0:Int)))]) [ab.dead,ab.vec (aL.ad [CK.str,CK.str] [x]) (66:Nat),ab.vec (aL.ef (aL.ef (aL.ef (aL.ad cE l).size (l.length+(1:Nat)) fun(i j:Nat)=>bif i.blt l.length then(aL.ad cE l).cell i j else SV.aR).size (l.length+(1:Nat)) fun(i j:Nat)=>bif ((0:Nat)+((↑k:Int)+(1:Int)).toNat).ble i&&i.blt ((0:Nat)+((↑k:Int)+(1:Int)).toNat+min ((0:Nat)+(↑k:Int).toNat+((↑(((↑l.length:Int)+(1:Int)).toNat - Int.toNat (0:Int)):Int).toNat - (↑k:Int).toNat) - ((0:Nat)+(↑k:Int).toNat)) ((↑(((↑l.length:Int)+(1:Int)).toNat - Int.toNat (0:Int)):Int).toNat - ((↑k:Int)+(1:Int)).toNat))then(dq (aL.ef (aL.ad cE l).size (l.length+(1:Nat)) fun(i j:Nat)=>bif i.blt l.length then(aL.ad cE l).cell i j else SV.aR) ((0:Nat)+(↑k:Int).toNat) ((0:Nat)+(↑k:Int).toNat+((↑(((↑l.length:Int)+(1:Int)).toNat - Int.toNat (0:Int)):Int).toNat - (↑k:Int).toNat))).cell (i - ((0:Nat)+((↑k:Int)+(1:Int)).toNat)) j else(aL.ef (aL.ad cE l).size (l.length+(1:Nat)) fun(i j:Nat)=>bif i.blt l.length then(aL.ad cE l).cell i j else SV.aR).cell i j).size (l.length+(1:Nat)) fun(i j:Nat)=>bif ((0:Nat)+(↑k:Int).toNat).ble i&&i.blt ((0:Nat)+(↑k:Int).toNat+min (1:Nat) ((↑(((↑l.length:Int)+(1:Int)).toNat - Int.toNat (0:Int)):Int).toNat - (↑k:Int).toNat))then(aL.ad [CK.str,CK.str] [x]).cell (i - ((0:Nat)+(↑k:Int).toNat)) j else(aL.ef (aL.ef (aL.ad cE l).size (l.length+(1:Nat)) fun(i j:Nat)=>bif i.blt l.length then(aL.ad cE l).cell i j else SV.aR).size (l.length+(1:Nat)) fun(i j:Nat)=>bif ((0:Nat)+((↑k:Int)+(1:Int)).toNat).ble i&&i.blt ((0:Nat)+((↑k:Int)+(1:Int)).toNat+min ((0:Nat)+(↑k:Int).toNat+((↑(((↑l.length:Int)+(1:Int)).toNat - Int.toNat (0:Int)):Int).toNat - (↑k:Int).toNat) - ((0:Nat)+(↑k:Int).toNat)) ((↑(((↑l.length:Int)+(1:Int)).toNat - Int.toNat (0:Int)):Int).toNat - ((↑k:Int)+(1:Int)).toNat))then(dq (aL.ef (aL.ad cE l).size (l.length+(1:Nat)) fun(i j:Nat)=>bif i.blt l.length then(aL.ad cE l).cell i j else SV.aR) ((0:Nat)+(↑k:Int).toNat) ((0:Nat)+(↑k:Int).toNat+((↑(((↑l.length:Int)+(1:Int)).toNat - Int.toNat (0:Int)):Int).toNat - (↑k:Int).toNat))).cell (i - ((0:Nat)+((↑k:Int)+(1:Int)).toNat)) j else(aL.ef (aL.ad cE l).size (l.length+(1:Nat)) fun(i j:Nat)=>bif i.blt l.length then(aL.ad cE l).cell i j else SV.aR).cell i j).cell i j) (66:Nat)] (hr Tryz.f117 (17:Nat)) (kU.mk none false (0:Nat) [] (0:Nat)))))))))))))))))))))))):=by kernel_rfl
noncomputable def cIC(l:List (CL cE))(x:CL cE):bw:=⟨sl 95 [(0,.vec 2)],[.dead,.vec (.ad cE [x]) eE,.vec (.ad cE l) eE],hr Tryz.f117 17,{}⟩
theorem anY(l:List (CL cE))(x:CL cE):run P (aH.sum []) Tryz.f117 [] (cIC l x)=
 Tree.ret [.dead,.vec (.ad [.str,.str] [x]) 66,.vec (.ad [.str,.str] l) 66] (.vec 2):=by kernel_rfl
theorem anZ(l:List (CL cE))(x:CL cE)(k:Nat):run P (aH.sum []) Tryz.f117 [] (cIB l x k)=
 Tree.need (ay ((↑l.length:Int)+1))
 (.need ((↑(l.length+1):Int)≤(↑l.length:Int)+1) (.need ((0:Int)≤(↑k:Int)) (.need ((↑k:Int)≤(↑l.length:Int)) (.need (ay ((↑l.length:Int)+1)) (.need (ay ((↑l.length:Int)+1 - (↑k:Int))) (.need ((0:Int)<(↑l.length:Int)+1 - (↑k:Int)) (.need ((↑(l.length+1):Int)≤(↑(List.drop 0 (List.take (↑k:Int).toNat l)).length:Int)+((↑l.length:Int)+1 - (↑k:Int))) (.need ((↑(List.drop 0 (List.take (↑k:Int).toNat l)).length:Int)+((↑l.length:Int)+1 - (↑k:Int))≤4294967296) (.need ((0:Int)≤(↑k:Int)) (.need ((↑k:Int)≤(↑(List.drop 0 (List.take (↑k:Int).toNat l)++List.replicate ((↑l.length:Int)+1 - (↑k:Int)).toNat (CL.d [.str,.str])).length:Int)) (.need ((↑(0:Nat):Int)+(↑(List.drop 0 (List.take (↑k:Int).toNat l)++List.replicate ((↑l.length:Int)+1 - (↑k:Int)).toNat (CL.d [.str,.str])).length:Int)≤(↑(List.drop 0 (List.take (↑k:Int).toNat l)++List.replicate ((↑l.length:Int)+1 - (↑k:Int)).toNat (CL.d [.str,.str])).length:Int)) (.need (ay ((↑k:Int)+1)) (.need ((0:Int)≤(↑k:Int)+1) (.need ((↑k:Int)+1≤(↑(over (List.drop 0 (List.take (↑k:Int).toNat l)++List.replicate ((↑l.length:Int)+1 - (↑k:Int)).toNat (CL.d [.str,.str])) ((0:Nat)+(↑k:Int).toNat) (min 1 ((↑(List.drop 0 (List.take (↑k:Int).toNat l)++List.replicate ((↑l.length:Int)+1 - (↑k:Int)).toNat (CL.d [.str,.str])).length:Int).toNat - (↑k:Int).toNat)) [x]).length:Int)) (.need ((↑(0:Nat):Int)+(↑(over (List.drop 0 (List.take (↑k:Int).toNat l)++List.replicate ((↑l.length:Int)+1 - (↑k:Int)).toNat (CL.d [.str,.str])) ((0:Nat)+(↑k:Int).toNat) (min 1 ((↑(List.drop 0 (List.take (↑k:Int).toNat l)++List.replicate ((↑l.length:Int)+1 - (↑k:Int)).toNat (CL.d [.str,.str])).length:Int).toNat - (↑k:Int).toNat)) [x]).length:Int)≤(↑(over (List.drop 0 (List.take (↑k:Int).toNat l)++List.replicate ((↑l.length:Int)+1 - (↑k:Int)).toNat (CL.d [.str,.str])) ((0:Nat)+(↑k:Int).toNat) (min 1 ((↑(List.drop 0 (List.take (↑k:Int).toNat l)++List.replicate ((↑l.length:Int)+1 - (↑k:Int)).toNat (CL.d [.str,.str])).length:Int).toNat - (↑k:Int).toNat)) [x]).length:Int)) (.need ((0:Int)≤(↑k:Int)) (.need ((↑k:Int)≤(↑l.length:Int)) (.need ((↑l.length:Int)≤(↑l.length:Int)) (.ret [.dead,.vec (.ad [.str,.str] [x]) 66,.vec (.ad [.str,.str] (over (over (List.drop 0 (List.take (↑k:Int).toNat l)++List.replicate ((↑l.length:Int)+1 - (↑k:Int)).toNat (CL.d [.str,.str])) ((0:Nat)+(↑k:Int).toNat) (min 1 ((↑(List.drop 0 (List.take (↑k:Int).toNat l)++List.replicate ((↑l.length:Int)+1 - (↑k:Int)).toNat (CL.d [.str,.str])).length:Int).toNat - (↑k:Int).toNat)) [x]) ((0:Nat)+((↑k:Int)+1).toNat) (min (List.drop (↑k:Int).toNat (List.take (↑l.length:Int).toNat l)).length ((↑(over (List.drop 0 (List.take (↑k:Int).toNat l)++List.replicate ((↑l.length:Int)+1 - (↑k:Int)).toNat (CL.d [.str,.str])) ((0:Nat)+(↑k:Int).toNat) (min 1 ((↑(List.drop 0 (List.take (↑k:Int).toNat l)++List.replicate ((↑l.length:Int)+1 - (↑k:Int)).toNat (CL.d [.str,.str])).length:Int).toNat - (↑k:Int).toNat)) [x]).length:Int).toNat - ((↑k:Int)+1).toNat)) (List.drop (↑k:Int).toNat (List.take (↑l.length:Int).toNat l)))) 66] (.vec 2)))))))))))))))))))):=by kernel_rfl
theorem ae8{α:Type}{xs ys:List α}{lo k:Nat}(hk:k=ys.length)(h:lo+ys.length=xs.length):over xs lo k ys=xs.take lo++ys:=by
 subst hk;rw[over,List.take_of_length_le (Nat.le_refl _),List.drop_of_length_le (by omega),List.append_nil]
theorem re{α:Type}{l:List α}{k:Nat}{x:α}(h:k≤l.length):(kB l k x).length=l.length+1:=by
 simp only[kB,List.length_append,List.length_take,List.length_cons,List.length_drop];omega
theorem ahy{α:Type}(l:List α)(x:α):kB l l.length x=l++[x]:=by simp[kB]
theorem ae9{α:Type}{l:List α}{k:Nat}{x d:α}(h:k≤l.length)(i:Nat):(kB l k x).getD i d=if i<k then l.getD i d else if i=k then x else l.getD (i - 1) d:=by
 simp only[kB,List.getD];split
 ·rw[List.getElem?_append_left (by simp;omega),List.getElem?_take,if_pos (by assumption)]
 ·rw[List.getElem?_append_right (by simp;omega)];rw[List.length_take,Nat.min_eq_left h];split
  ·rename_i h2;subst h2;simp
  ·rw[show i - k=(i - 1 - k)+1 from by omega,List.getElem?_cons_succ,List.getElem?_drop];congr 2;omega
theorem aqz:amP P 153:=⟨Tryz.f153,Tryz.f153.params.getD 0 0,eE,Tryz.f153.resultTypes.getD 0 0,2,Tryz.func153,by kernel_rfl,by kernel_rfl,by kernel_rfl,by kernel_rfl,by kernel_rfl,by kernel_rfl⟩
theorem ahz{α:Type}{l:List α}{k:Nat}{x d:α}(hk:k<l.length):
 over (over (List.drop 0 (List.take (k:Int).toNat l)++List.replicate ((l.length:Int)+(1:Int) - (k:Int)).toNat d) (0+(k:Int).toNat) (min 1 (((List.drop 0 (List.take (k:Int).toNat l)++List.replicate ((l.length:Int)+(1:Int) - (k:Int)).toNat d).length:Int).toNat - (k:Int).toNat)) [x]) (0+((k:Int)+(1:Int)).toNat) (l.length - k) (List.drop (k:Int).toNat (List.take (l.length:Int).toNat l))=kB l k x:=by
 have e1:(k:Int).toNat=k:=by omega
 have e2:((l.length:Int)+(1:Int) - (k:Int)).toNat=l.length+1 - k:=by omega
 have e3:((k:Int)+(1:Int)).toNat=k+1:=by omega
 have e4:(l.length:Int).toNat=l.length:=by omega
 rw[e1,e2,e3,e4,List.drop_zero,Nat.zero_add,Nat.zero_add,List.take_of_length_le (Nat.le_refl l.length)]
 have hA:(List.take k l++List.replicate (l.length+1 - k) d).length=l.length+1:=by
  simp only[List.length_append,List.length_take,List.length_replicate];omega
 rw[hA,show min 1 (((l.length+1:Nat):Int).toNat - k)=1 from by omega]
 have hov:(over (List.take k l++List.replicate (l.length+1 - k) d) k 1 [x]).length=l.length+1:=by
  rw[fc _ _ (by rw[hA];omega) (by simp),hA]
 rw[ae8 (by rw[List.length_drop]) (by rw[hov,List.length_drop];omega)];rw[over,List.take_left' (by simp only[List.length_append,List.length_take,List.length_replicate,List.length_cons,List.length_nil];omega)];rw[List.take_left' (by rw[List.length_take];omega)];simp[kB]
theorem xU{a b:Nat}:a.blt b=decide (a<b):=by
 by_cases h:a<b
 ·rw[decide_eq_true h];simpa[Nat.blt,Nat.lt_iff_add_one_le]using h
 ·rw[decide_eq_false h];cases hb:a.blt b with
  |false=>rfl
  |true=>exact absurd (by simpa[Nat.blt,Nat.lt_iff_add_one_le]using hb) h
theorem xV{a b:Nat}:a.ble b=decide (a≤b):=by
 by_cases h:a≤b
 ·rw[decide_eq_true h];exact Nat.ble_eq_true_of_le h
 ·rw[decide_eq_false h];cases hb:a.ble b with
  |false=>rfl
  |true=>exact absurd (Nat.le_of_ble_eq_true hb) h
theorem an0{Z:aW}:fC P Z 117 adz:=by
 refine au Tryz.func117 (by kernel_rfl) (fun x=>Nat.le_of_ble_eq_true (by kernel_rfl)) ?_;rintro⟨(l:List (CL cE)),(x:CL cE),(k:Nat)⟩ ⟨(hk:k≤l.length),(hl:l.length≤100000),_⟩ X hX hz;refine cR hz hX (by intro y hy;simp[al3]at hy;subst hy;exact Nat.le_refl _) aH.Ok.nil Tryz.func117 (aj7 l x k) ⟨by omega,by omega,by omega,(fun h=>nomatch h),fun _=>⟨fun h=>⟨by omega,⟨⟨[],[0],2,[]⟩,Nat.le_refl _, ?_⟩⟩,fun h=> ?_⟩⟩
 ·have hkl:k=l.length:=by have:=eq_of_beq h;omega
  subst hkl;show Norm.run _ _=some ⟨[.vec 2],[.dead,.vec (.ad cE [x]) eE,.vec (.ad cE (kB l l.length x)) eE],[],{}⟩;rw[ahy];kernel_rfl
 have hkl:k<l.length:=by
  rcases Nat.lt_or_ge k l.length with h1|h1
  ·exact h1
  ·have:k=l.length:=by omega
   subst this;simp at h
 refine ae6 (t:=0) (id:=0) (m:=1) (c:=.ad cE l) (e:=eE) rfl rfl (by omega) ?_ ?_
 ·
  refine(show Safe P 117 X _ (cIA l x k)from ?_);have e1:((l.length:Int)+(1:Int)).toNat - Int.toNat 0=l.length+1:=by omega
  have tr:=anX l x k;rw[e1]at tr;refine cR hz hX (by intro y hy;simp[aqy]at hy;subst hy;show 2≤3;omega) aH.Ok.nil Tryz.func117 tr ⟨⟨by omega,by omega⟩,by omega,⟨by omega,by omega⟩,by omega,by omega,by omega,⟨by omega,by omega⟩,by omega,by omega,by omega,aqz,⟨by omega,by omega⟩,by omega,by omega,by omega,by omega,by omega,by omega,by omega,by omega,by omega, ?_⟩;refine ahx (id:=2) (c':=.ad cE (kB l k x)) rfl ?_ rfl ?_ ?_
  ·exact re (by omega)
  ·intro i j hi hj;have hi:i<l.length+1:=hi;show CL.cell cE ((kB l k x).getD i (CL.d cE)) j=_;rw[ae9 (by omega)];by_cases h1:i<k
   ·have p1:¬(0+(k:Int).toNat≤i):=by omega
    have p2:¬(0+((k:Int)+(1:Int)).toNat≤i):=by omega
    have p3:i<l.length:=by omega
    simp only[aL.cell,xU,xV,p1,p2,p3,h1,decide_false,decide_true,Bool.false_and,cond_false,cond_true,if_true]
   ·by_cases h2:i=k
    ·subst h2;have p1:0+(i:Int).toNat≤i:=by omega
     have p2:i<0+(i:Int).toNat+min 1 (((l.length+1:Nat):Int).toNat - (i:Int).toNat):=by omega
     have p3:i - (0+(i:Int).toNat)=0:=by omega
     simp only[aL.cell,xU,xV,p1,p2,p3,h1,decide_true,Bool.true_and,cond_true,if_true,if_false,List.getD_cons_zero]
    ·have p1:¬(i<0+(k:Int).toNat+min 1 (((l.length+1:Nat):Int).toNat - (k:Int).toNat)):=by omega
     have p2:0+((k:Int)+(1:Int)).toNat≤i:=by omega
     have p3:i<0+((k:Int)+(1:Int)).toNat+min (0+(k:Int).toNat+(((l.length+1:Nat):Int).toNat - (k:Int).toNat) - (0+(k:Int).toNat)) (((l.length+1:Nat):Int).toNat - ((k:Int)+(1:Int)).toNat):=by omega
     have p4:0+(k:Int).toNat+(i - (0+((k:Int)+(1:Int)).toNat))=i - 1:=by omega
     have p5:i - 1<l.length:=by omega
     simp only[aL.cell,dq,xU,xV,p1,p2,p3,p4,p5,h1,h2,decide_true,decide_false,Bool.and_false,Bool.and_true,cond_true,cond_false,if_false]
  ·refine ae7 (t:=0) (id:=2) (c:=.ad cE (kB l k x)) (e:=eE) rfl rfl (re (by omega)).symm (by omega) ?_;refine cR hz hX (by intro y hy;simp at hy) aH.Ok.nil Tryz.func117 (anY (kB l k x) x) ⟨⟨[],[0],2,[]⟩,Nat.le_refl _, ?_⟩;show Norm.run _ _=some ⟨[.vec 2],[.dead,.vec (.ad cE [x]) eE,.vec (.ad cE (kB l k x)) eE],[],{}⟩;kernel_rfl
 ·
  refine(show Safe P 117 X _ (cIB l x k)from ?_);have tr:=anZ l x k
  have eA:(List.drop 0 (List.take (k:Int).toNat l)++List.replicate ((l.length:Int)+(1:Int) - (k:Int)).toNat (CL.d cE)).length=l.length+1:=by
   simp only[List.drop_zero,List.length_append,List.length_take,List.length_replicate];omega
  have eB:(over (List.drop 0 (List.take (k:Int).toNat l)++List.replicate ((l.length:Int)+(1:Int) - (k:Int)).toNat (CL.d cE)) (0+(k:Int).toNat) (min 1 (((List.drop 0 (List.take (k:Int).toNat l)++List.replicate ((l.length:Int)+(1:Int) - (k:Int)).toNat (CL.d cE)).length:Int).toNat - (k:Int).toNat)) [x]).length=l.length+1:=by
   rw[fc _ _ (by rw[eA];omega) (by simp;omega),eA]
  have eC:(List.drop 0 (List.take (k:Int).toNat l)).length=k:=by simp only[List.drop_zero,List.length_take];omega
  have e1:(min (List.drop (k:Int).toNat (List.take (l.length:Int).toNat l)).length (((over (List.drop 0 (List.take (k:Int).toNat l)++List.replicate ((l.length:Int)+(1:Int) - (k:Int)).toNat (CL.d cE)) (0+(k:Int).toNat) (min 1 (((List.drop 0 (List.take (k:Int).toNat l)++List.replicate ((l.length:Int)+(1:Int) - (k:Int)).toNat (CL.d cE)).length:Int).toNat - (k:Int).toNat)) [x]).length:Int).toNat - ((k:Int)+(1:Int)).toNat))=l.length - k:=by
   rw[eB];simp only[List.length_drop,List.length_take];omega
  rw[e1,ahz hkl,eB,eA,eC]at tr;refine cR hz hX (by intro y hy;simp at hy) aH.Ok.nil Tryz.func117 tr ⟨⟨by omega,by omega⟩,by omega,by omega,by omega,⟨by omega,by omega⟩,⟨by omega,by omega⟩,by omega,by omega,by omega,by omega,by omega,by omega,⟨by omega,by omega⟩,by omega,by omega,by omega,by omega,by omega,by omega,⟨⟨[],[0],2,[]⟩,Nat.le_refl _, ?_⟩⟩;show Norm.run _ _=some ⟨[.vec 2],[.dead,.vec (.ad cE [x]) eE,.vec (.ad cE (kB l k x)) eE],[],{}⟩;kernel_rfl
end Lf
namespace Lf
open Go Go.Sx Go.Proofs
def aqA:List AV→RM ((List En×En×Nat)×List Nat)
 |[.vec id,.s (.int .i64 i),.vec id2]=>.look id fun o=>match o with
  |some (.vec (.ad [.str,.str] l) _)=>.look id2 fun o=>match o with
   |some (.vec (.ad [.str,.str] [x]) _)=>.ret ((l,x,i.toNat),[id,id2])
   |_=>.fail "insert: no element"
  |_=>.fail "insert: no row"
 |_=>.fail "insert"
def ahA:aH:=[(115,xS),(116,anT),(117,bZ adz aqA)]
theorem aj8(l:List (CL cE))(key val:ByteArray):run P ahA.sum Tryz.f73 [] (start Tryz.f73 [.s (.ro (.ad cE l)),.s (.str key),.s (.str val)] [])=
 Tree.need (l.length≤1000000) (.need (iU (cg l)) (.need (l.length≤100000) (.ite (jW (cg l) key) (.need ((0:Int)≤(↑(cY (cg l) key):bB.V)) (.need ((↑(cY (cg l) key):bB.V)<(↑l.length:Int)) (.ret [.vec (.ad [.str,.str] (l.set (Int.toNat (↑(cY (cg l) key):bB.V)) ((l.getD (Int.toNat (↑(cY (cg l) key):bB.V)) (CL.d [.str,.str])).fst,val,()))) 66] (.vec 0)))) (.need (some [AV.vec 0,.s (.int .i64 (↑(cY (cg l) key):bB.V)),.vec 1]=some [AV.vec 0,.s (.int .i64 (↑(Int.toNat (↑(cY (cg l) key):bB.V)):Int)),.vec 1]) (.need (some [ab.vec (.ad [.str,.str] l) 66,.vec (.ad [.str,.str] [(key,val,())]) 66]=some [ab.vec (.ad [.str,.str] l) 66,.vec (.ad [.str,.str] [(key,val,())]) 66]) (.need (Int.toNat (↑(cY (cg l) key):bB.V)≤l.length) (.need (l.length≤100000) (.ret [.dead,.vec (.ad [.str,.str] [(key,val,())]) 66,.vec (.ad [.str,.str] (kB l (Int.toNat (↑(cY (cg l) key):bB.V)) (key,val,()))) 66] (.vec 2))))))))):=by kernel_rfl
theorem ahB{α:Type}{l:List α}{k:Nat}{x:α}(h:k<l.length):l.set k x=l.take k++x::l.drop (k+1):=by
 rw[List.set_eq_take_append_cons_drop,if_pos h]
theorem ahC{l:List En}{key val:ByteArray}(h:jW (cg l) key=true)(h1:cY (cg l) key<l.length):fx l key val=l.set (cY (cg l) key) (key,val,()):=by
 rw[ahB h1,fx,if_pos h]
theorem aj9{l:List En}{key val:ByteArray}(h:jW (cg l) key=false):fx l key val=kB l (cY (cg l) key) (key,val,()):=by
 rw[fx,if_neg (by rw[h];simp),kB]
theorem ahD{Z:aW}:dr P Z 73 [ph,dI,dI] [ph] (fun(l,_,_,())=>[(l:List En).length≤100000,iU (cg l)]) (fun(l,key,val,())=>(fx l key val,())):=by
 refine aB Tryz.func73 (by kernel_rfl) (by kernel_rfl) ?_;rintro⟨(l:List (CL cE)),(key:ByteArray),(val:ByteArray),⟨⟩⟩ _ ⟨(hl:l.length≤100000),(hs:iU (cg l)),_⟩ X hX hz;have hT:ahA.Ok P Z:=aH.Ok.cons qv.sum (aH.Ok.cons ab8.sum (aH.Ok.cons (an0.sum aqA) aH.Ok.nil));have hn:(cg l).length=l.length:=List.length_map _;have hle:=tG (cg l) key;rw[hn]at hle;refine go hz hX hT Tryz.func73 (aj8 l key val) ⟨by omega,hs,hl,fun h=> ?_,fun h=> ?_⟩
 ·obtain⟨h1,h2⟩:=iV.1 h;rw[hn]at h1;refine⟨Int.natCast_nonneg _,Int.ofNat_lt.2 h1, ?_⟩;refine aV (l.set (cY (cg l) key) ((l.getD (cY (cg l) key) dE).1,val,()),()) ?_ (by kernel_rfl);have hk:(l.getD (cY (cg l) key) dE).1=key:=(eH l zQ dE _).symm.trans h2;rw[hk];exact congrArg (fun y=>(y,())) (ahC h h1)
 ·refine⟨rfl,rfl,by show cY (cg l) key≤l.length;exact hle,hl, ?_⟩;refine aV (kB l (cY (cg l) key) (key,val,()),()) ?_ (by kernel_rfl);exact congrArg (fun y=>(y,())) (aj9 h)
end Lf
namespace Bx
open Go Go.Sx Go.Proofs
abbrev dJ:Ty:=.b (.arr .u64 16)
abbrev bB:Ty:=.b (.int .i64)
abbrev tU:Ty:=.b (.int .u64)
abbrev c9:Ty:=.b .bool
abbrev zL:Ty:=.b (.row (.ints .i64) 3)
noncomputable abbrev P:Program:=Tryz.prog
theorem mixed:P.follows .mixedOrders=true:=by kernel_rfl
def gL:aH:=[]
def dZ(n:Int):Int:=if 0≤n∧n<1024 then n / 64 else 0
def kC(n:Int):Int:=if 0≤n∧n<1024 then 2^(n%64).toNat else 0
def gP(n:Int):Bool:=decide (0≤n∧n<1024)
theorem an1(n:Int):run P gL.sum Tryz.f109 [] (start Tryz.f109 [.s (.int .i64 n)] [])=
 Tree.ite (decide (n<(0:Int))) (Tree.ret [] (AV.bg [AV.s (SV.aK IntKind.i64 (0:Int)),AV.s (SV.aK IntKind.u64 (0:Int)),AV.s (SV.aC false)])) (Tree.ite (decide (n≥(1024:Int))) (Tree.ret [] (AV.bg [AV.s (SV.aK IntKind.i64 (0:Int)),AV.s (SV.aK IntKind.u64 (0:Int)),AV.s (SV.aC false)])) (Tree.need ((64:Int)≠(0:Int)) (Tree.need (ay (n.tdiv (64:Int))) (Tree.need ((64:Int)≠(0:Int)) (Tree.need ((0:Int)≤n.tmod (64:Int)) (Tree.ret [] (AV.bg [AV.s (SV.int IntKind.i64 (n.tdiv (64:Int))),AV.s (SV.int IntKind.u64 (IntKind.u64.wrap ((1:Int)*(2:Int)^min (n.tmod (64:Int)).toNat IntKind.u64.bits))),AV.s (SV.aC true)]))))))):=by kernel_rfl
theorem an2(a b:Int):run P gL.sum Tryz.f108 [] (start Tryz.f108 [.s (.int .u64 a),.s (.int .u64 b)] [])=
 Tree.ret [] (.s (.int .u64 (bt BinOp.andNot .u64 a b))):=by kernel_rfl
theorem an3(a b:Int):run P gL.sum Tryz.f106 [] (start Tryz.f106 [.s (.int .u64 a),.s (.int .u64 b)] [])=
 Tree.ret [] (.s (.int .u64 (bt BinOp.and .u64 a b))):=by kernel_rfl
theorem an4(a b:Int):run P gL.sum Tryz.f150 [] (start Tryz.f150 [.s (.int .u64 a),.s (.int .u64 b)] [])=
 Tree.ret [] (.s (.int .u64 (bt BinOp.or .u64 a b))):=by kernel_rfl
abbrev s36:=cp [bB] [bB,tU,c9] (fun _=>[]) (fun(n,())=>(dZ n,kC n,gP n,()))
def aka:aH:=[(109,s36)]
theorem an5(ws:List Int)(n:Int):run P aka.sum Tryz.f133 [] (start Tryz.f133 [.ints .u64 16 ws,.s (.int .i64 n)] [])=
 Tree.ite (gP n) (.need ((0:Int)≤dZ n) (.need (dZ n<(↑(16:Nat):Int)) (.ret [.own [.ints .u64 16 ws] 37] (.s (.bool (bt BinOp.and .u64 (ws.getD (dZ n).toNat 0) (kC n) !=0)))))) (.ret [.own [.ints .u64 16 ws] 37] (.s (.aC false))):=by kernel_rfl
theorem an6(ws:List Int)(n:Int):run P aka.sum Tryz.f67 [] (start Tryz.f67 [.ints .u64 16 ws,.s (.int .i64 n)] [])=
 Tree.ite (gP n) (.need ((0:Int)≤dZ n) (.need (dZ n<(↑(16:Nat):Int)) (.need ((0:Int)≤dZ n) (.need (dZ n<(↑(16:Nat):Int)) (.ret [.own [.ints .u64 16 (ws.set (dZ n).toNat (bt BinOp.or .u64 (ws.getD (dZ n).toNat 0) (kC n)))] 37,.own [.ints .u64 16 (ws.set (dZ n).toNat (bt BinOp.or .u64 (ws.getD (dZ n).toNat 0) (kC n)))] 37] (.ints .u64 16 (ws.set (dZ n).toNat (bt BinOp.or .u64 (ws.getD (dZ n).toNat 0) (kC n))))))))) (.ret [.own [.ints .u64 16 ws] 37,.own [.ints .u64 16 ws] 37] (.ints .u64 16 ws)):=by kernel_rfl
theorem an7(ws:List Int)(n:Int):run P aka.sum Tryz.f179 [] (start Tryz.f179 [.ints .u64 16 ws,.s (.int .i64 n)] [])=
 Tree.ite (gP n) (.need ((0:Int)≤dZ n) (.need (dZ n<(↑(16:Nat):Int)) (.need ((0:Int)≤dZ n) (.need (dZ n<(↑(16:Nat):Int)) (.ret [.own [.ints .u64 16 (ws.set (dZ n).toNat (bt BinOp.andNot .u64 (ws.getD (dZ n).toNat 0) (kC n)))] 37,.own [.ints .u64 16 (ws.set (dZ n).toNat (bt BinOp.andNot .u64 (ws.getD (dZ n).toNat 0) (kC n)))] 37] (.ints .u64 16 (ws.set (dZ n).toNat (bt BinOp.andNot .u64 (ws.getD (dZ n).toNat 0) (kC n))))))))) (.ret [.own [.ints .u64 16 ws] 37,.own [.ints .u64 16 ws] 37] (.ints .u64 16 ws)):=by kernel_rfl
theorem go{Z:aW}{X:Ctx}{t:aH}{f:FuncId}{fn:Func}{ns:List (Nat×Norm)}{c:bw}{tr:Tree}{K:List ab→AV→Prop}(hz:dP Z X)(hX:∀id,X.H id=none)(hT:t.Ok P Z)(hf:P.funcs[f]? =some fn)
 (e:run P t.sum fn ns c=tr) (h:tr.aZ K (Safe P f X K)):Safe P f X K c:=cG (aH.sOk hT) hz mixed hf (fun _ _ id _=>hX id) e h
theorem an8{Z:aW}:dr P Z 109 [bB] [bB,tU,c9] (fun _=>[]) (fun(n,())=>(dZ n,kC n,gP n,())):=by
 refine aB Tryz.func109 (by kernel_rfl) (by kernel_rfl) ?_;rintro⟨(n:Int),⟨⟩⟩ _ _ X hX hz;refine cG (aH.sOk aH.Ok.nil) hz mixed Tryz.func109 (fun x h=>by simp at h) (an1 n) ?_
 have no:¬(0≤n∧n<1024)→Ends [bB,tU,c9] (dZ n,kC n,gP n,()) [] (AV.bg [AV.s (SV.aK IntKind.i64 0),AV.s (SV.aK IntKind.u64 0),AV.s (SV.aC false)]):=fun h=>
  aV (0,0,false,()) (by simp only[dZ,kC,gP,if_neg h,decide_eq_false h]) (by kernel_rfl)
 refine⟨fun h=>no (by simp at h;omega),fun h=>⟨fun h2=>no (by simp at h2;omega),fun h2=> ?_⟩⟩;have h3:0≤n∧n<1024:=by simp at h h2;omega
 have e1:n.tdiv 64=n / 64:=Int.tdiv_eq_ediv_of_nonneg h3.1;have e2:n.tmod 64=n%64:=Int.tmod_eq_emod_of_nonneg h3.1;refine⟨by omega,⟨by omega,by omega⟩,by omega,by omega, ?_⟩;rw[e1,e2]
 have e3:IntKind.u64.wrap ((1:Int)*(2:Int)^min (n%64).toNat IntKind.u64.bits)=2^(n%64).toNat:=by
  have:(n%64).toNat<64:=by omega
  rw[show IntKind.u64.bits=64 from rfl,Nat.min_eq_left (by omega),Int.one_mul];show(2:Int)^(n%64).toNat%18446744073709551616=_;refine Int.emod_eq_of_lt (Int.pow_nonneg (by omega)) ?_;have h5:(2:Nat)^(n%64).toNat<2^64:=Nat.pow_lt_pow_right (by omega) this;have:((2:Nat)^(n%64).toNat:Int)<((2^64:Nat):Int):=by exact_mod_cast h5
  simpa using this
 rw[e3];exact aV (n / 64,2^(n%64).toNat,true,()) (by simp only[dZ,kC,gP,if_pos h3,decide_eq_true h3]) (by kernel_rfl)
theorem afa{Z:aW}:dr P Z 108 [tU,tU] [tU] (fun _=>[]) (fun(a,b,())=>(bt .andNot .u64 a b,())):=by
 refine aB Tryz.func108 (by kernel_rfl) (by kernel_rfl) ?_;rintro⟨(a:Int),(b:Int),⟨⟩⟩ _ _ X hX hz;exact cG (aH.sOk aH.Ok.nil) hz mixed Tryz.func108 (fun x h=>by simp at h) (an2 a b) (aV _ rfl (by kernel_rfl))
theorem an9{Z:aW}:dr P Z 106 [tU,tU] [tU] (fun _=>[]) (fun(a,b,())=>(bt .and .u64 a b,())):=by
 refine aB Tryz.func106 (by kernel_rfl) (by kernel_rfl) ?_;rintro⟨(a:Int),(b:Int),⟨⟩⟩ _ _ X hX hz;exact cG (aH.sOk aH.Ok.nil) hz mixed Tryz.func106 (fun x h=>by simp at h) (an3 a b) (aV _ rfl (by kernel_rfl))
theorem aqB{Z:aW}:dr P Z 150 [tU,tU] [tU] (fun _=>[]) (fun(a,b,())=>(bt .or .u64 a b,())):=by
 refine aB Tryz.func150 (by kernel_rfl) (by kernel_rfl) ?_;rintro⟨(a:Int),(b:Int),⟨⟩⟩ _ _ X hX hz;exact cG (aH.sOk aH.Ok.nil) hz mixed Tryz.func150 (fun x h=>by simp at h) (an4 a b) (aV _ rfl (by kernel_rfl))
theorem xW{Z:aW}:aka.Ok P Z:=aH.Ok.cons an8.sum aH.Ok.nil
theorem ob{n:Int}(h:gP n=true):0≤dZ n∧dZ n<16:=by
 simp only[gP,decide_eq_true_eq]at h;simp only[dZ,if_pos h];omega
def lP(ws:List Int)(n:Int):Bool:=gP n&&(bt .and .u64 (ws.getD (dZ n).toNat 0) (kC n) !=0)
def dM(ws:List Int)(n:Int):List Int:=if gP n=true then ws.set (dZ n).toNat (bt .or .u64 (ws.getD (dZ n).toNat 0) (kC n))else ws
def dG(ws:List Int)(n:Int):List Int:=if gP n=true then ws.set (dZ n).toNat (bt .andNot .u64 (ws.getD (dZ n).toNat 0) (kC n))else ws
theorem acb{Z:aW}:dr P Z 133 [dJ,bB] [c9] (fun _=>[]) (fun(ws,n,())=>(lP ws n,())):=by
 refine aB Tryz.func133 (by kernel_rfl) (by kernel_rfl) ?_;rintro⟨(ws:List Int),(n:Int),⟨⟩⟩ _ _ X hX hz;refine cG (aH.sOk xW) hz mixed Tryz.func133 (fun x h=>by simp at h) (an5 ws n) ⟨fun h=> ?_,fun h=> ?_⟩
 ·have:=ob h;exact⟨this.1,this.2,aV (bt .and .u64 (ws.getD (dZ n).toNat 0) (kC n) !=0,()) (by simp[lP,h]) (by kernel_rfl)⟩
 ·exact aV (false,()) (by simp[lP,h]) (by kernel_rfl)
theorem pw{Z:aW}:dr P Z 67 [dJ,bB] [dJ] (fun _=>[]) (fun(ws,n,())=>(dM ws n,())):=by
 refine aB Tryz.func67 (by kernel_rfl) (by kernel_rfl) ?_;rintro⟨(ws:List Int),(n:Int),⟨⟩⟩ _ _ X hX hz;refine cG (aH.sOk xW) hz mixed Tryz.func67 (fun x h=>by simp at h) (an6 ws n) ⟨fun h=> ?_,fun h=> ?_⟩
 ·have:=ob h;refine⟨this.1,this.2,this.1,this.2, ?_⟩;simp only[dM,if_pos h];exact aV _ rfl (by kernel_rfl)
 ·exact aV (ws,()) (by simp only[dM,h];rfl) (by kernel_rfl)
theorem tV{Z:aW}:dr P Z 179 [dJ,bB] [dJ] (fun _=>[]) (fun(ws,n,())=>(dG ws n,())):=by
 refine aB Tryz.func179 (by kernel_rfl) (by kernel_rfl) ?_;rintro⟨(ws:List Int),(n:Int),⟨⟩⟩ _ _ X hX hz;refine cG (aH.sOk xW) hz mixed Tryz.func179 (fun x h=>by simp at h) (an7 ws n) ⟨fun h=> ?_,fun h=> ?_⟩
 ·have:=ob h;refine⟨this.1,this.2,this.1,this.2, ?_⟩;simp only[dG,if_pos h];exact aV _ rfl (by kernel_rfl)
 ·exact aV (ws,()) (by simp only[dG,h];rfl) (by kernel_rfl)
end Bx
namespace Bx
open Go Go.Sx Go.Proofs
abbrev sOp(op:BinOp):=cp [tU,tU] [tU] (fun _=>[]) (fun(a,b,())=>(bt op .u64 a b,()))
def xX:aH:=[(108,sOp .andNot),(106,sOp .and),(150,sOp .or)]
def aaf:List (Nat×Norm):=[(2,⟨[],[2,3,4,6,8],0,[]⟩)]
noncomputable def c37(f:FuncId)(b s:List Int)(i:Int):bw:=⟨sl 23 [(2,.s (.j8 f)),(3,.ptr 0 0),(4,.ptr 1 0),(6,.ptr 2 0),(8,.s (.int .i64 i))],[.own [.ints .u64 16 s] 37,.own [.ints .u64 16 b] 37,.own [.ints .u64 16 (List.replicate 16 0)] 37],hd Tryz.f105 2,{}⟩
theorem akb(a b:List Int):run P xX.sum Tryz.f105 aaf (start Tryz.f105 [.ints .u64 16 a,.ints .u64 16 b,.s (.j8 108)] [])=
 Tree.at (.mk (sl 23 [(2,.s (.j8 108)),(3,.ptr 0 0),(4,.ptr 1 0),(6,.ptr 2 0),(8,.s (.int .i64 0))]) [.own [.ints .u64 16 a] 37,.own [.ints .u64 16 b] 37,.own [.ints .u64 16 (List.replicate 16 0)] 37] (hd Tryz.f105 2) (.mk none false 0 [] 0)):=by kernel_rfl
theorem akc(b s:List Int)(i:Int):run P xX.sum Tryz.f105 aaf (c37 108 b s i)=
 Tree.ite (decide (i<16)) (.need ((0:Int)≤i) (.need (i<(↑(16:Nat):Int)) (.need ((0:Int)≤i) (.need (i<(↑(16:Nat):Int)) (.need ((0:Int)≤i) (.need (i<(↑(16:Nat):Int)) (.need (ay (i+1)) (.at (.mk (sl 23 [(2,.s (.j8 108)),(3,.ptr 0 0),(4,.ptr 1 0),(6,.ptr 2 0),(8,.s (.int .i64 (i+1)))]) [.own [.ints .u64 16 (s.set i.toNat (bt BinOp.andNot .u64 (s.getD i.toNat 0) (b.getD i.toNat 0)))] 37,.own [.ints .u64 16 b] 37,.own [.ints .u64 16 (List.replicate 16 0)] 37] (hd Tryz.f105 2) (.mk none false 0 [] 0)))))))))) (.ret [.own [.ints .u64 16 s] 37,.own [.ints .u64 16 b] 37,.own [.ints .u64 16 s] 37] (.ints .u64 16 s)):=by kernel_rfl
theorem akd(a b:List Int):run P xX.sum Tryz.f105 aaf (start Tryz.f105 [.ints .u64 16 a,.ints .u64 16 b,.s (.j8 106)] [])=
 Tree.at (.mk (sl 23 [(2,.s (.j8 106)),(3,.ptr 0 0),(4,.ptr 1 0),(6,.ptr 2 0),(8,.s (.int .i64 0))]) [.own [.ints .u64 16 a] 37,.own [.ints .u64 16 b] 37,.own [.ints .u64 16 (List.replicate 16 0)] 37] (hd Tryz.f105 2) (.mk none false 0 [] 0)):=by kernel_rfl
theorem ake(b s:List Int)(i:Int):run P xX.sum Tryz.f105 aaf (c37 106 b s i)=
 Tree.ite (decide (i<16)) (.need ((0:Int)≤i) (.need (i<(↑(16:Nat):Int)) (.need ((0:Int)≤i) (.need (i<(↑(16:Nat):Int)) (.need ((0:Int)≤i) (.need (i<(↑(16:Nat):Int)) (.need (ay (i+1)) (.at (.mk (sl 23 [(2,.s (.j8 106)),(3,.ptr 0 0),(4,.ptr 1 0),(6,.ptr 2 0),(8,.s (.int .i64 (i+1)))]) [.own [.ints .u64 16 (s.set i.toNat (bt BinOp.and .u64 (s.getD i.toNat 0) (b.getD i.toNat 0)))] 37,.own [.ints .u64 16 b] 37,.own [.ints .u64 16 (List.replicate 16 0)] 37] (hd Tryz.f105 2) (.mk none false 0 [] 0)))))))))) (.ret [.own [.ints .u64 16 s] 37,.own [.ints .u64 16 b] 37,.own [.ints .u64 16 s] 37] (.ints .u64 16 s)):=by kernel_rfl
theorem akf(a b:List Int):run P xX.sum Tryz.f105 aaf (start Tryz.f105 [.ints .u64 16 a,.ints .u64 16 b,.s (.j8 150)] [])=
 Tree.at (.mk (sl 23 [(2,.s (.j8 150)),(3,.ptr 0 0),(4,.ptr 1 0),(6,.ptr 2 0),(8,.s (.int .i64 0))]) [.own [.ints .u64 16 a] 37,.own [.ints .u64 16 b] 37,.own [.ints .u64 16 (List.replicate 16 0)] 37] (hd Tryz.f105 2) (.mk none false 0 [] 0)):=by kernel_rfl
theorem akg(b s:List Int)(i:Int):run P xX.sum Tryz.f105 aaf (c37 150 b s i)=
 Tree.ite (decide (i<16)) (.need ((0:Int)≤i) (.need (i<(↑(16:Nat):Int)) (.need ((0:Int)≤i) (.need (i<(↑(16:Nat):Int)) (.need ((0:Int)≤i) (.need (i<(↑(16:Nat):Int)) (.need (ay (i+1)) (.at (.mk (sl 23 [(2,.s (.j8 150)),(3,.ptr 0 0),(4,.ptr 1 0),(6,.ptr 2 0),(8,.s (.int .i64 (i+1)))]) [.own [.ints .u64 16 (s.set i.toNat (bt BinOp.or .u64 (s.getD i.toNat 0) (b.getD i.toNat 0)))] 37,.own [.ints .u64 16 b] 37,.own [.ints .u64 16 (List.replicate 16 0)] 37] (hd Tryz.f105 2) (.mk none false 0 [] 0)))))))))) (.ret [.own [.ints .u64 16 s] 37,.own [.ints .u64 16 b] 37,.own [.ints .u64 16 s] 37] (.ints .u64 16 s)):=by kernel_rfl
theorem akh{Z:aW}:xX.Ok P Z:=aH.Ok.cons afa.sum (aH.Ok.cons an9.sum (aH.Ok.cons aqB.sum aH.Ok.nil))
def bN(op:BinOp)(a b:List Int):List Int:=List.zipWith (bt op .u64) a b
def aag(f:FuncId):BinOp:=if f=108 then .andNot else if f=106 then .and else .or
theorem aah{a b:List Int}{n:Nat}(ha:a.length=n)(hb:b.length=n)(h:∀j,j<n→a.getD j 0=b.getD j 0):a=b:=by
 refine List.ext_getElem (by omega) fun j h1 h2=> ?_;have:=h j (by omega);simpa[List.getD,h1,h2]using this
theorem px(a:List Int)(i j:Nat)(x:Int):(a.set i x).getD j 0=if j=i∧i<a.length then x else a.getD j 0:=by
 simp only[List.getD,List.getElem?_set];by_cases h:i=j
 ·subst h;by_cases h2:i<a.length
  ·simp[h2]
  ·simp[h2]
 ·simp[h,Ne.symm h]
def I37(op:BinOp)(a b s:List Int)(i:Int):Prop:=0≤i∧i≤16∧s.length=16∧∀j,j<16→s.getD j 0=if(j:Int)<i then bt op .u64 (a.getD j 0) (b.getD j 0)else a.getD j 0
theorem ahE{op:BinOp}{a b s:List Int}{i:Int}(h:I37 op a b s i)(hi:i<16):I37 op a b (s.set i.toNat (bt op .u64 (s.getD i.toNat 0) (b.getD i.toNat 0))) (i+1):=by
 obtain⟨h1,h2,h3,h4⟩:=h;refine⟨by omega,by omega,by simpa using h3,fun j hj=> ?_⟩;rw[px];by_cases hji:j=i.toNat
 ·subst hji;rw[if_pos ⟨rfl,by omega⟩,if_pos (by omega),h4 _ hj,if_neg (by omega)]
 ·rw[if_neg (fun h=>hji h.1),h4 j hj];by_cases h5:(j:Int)<i
  ·rw[if_pos h5,if_pos (by omega)]
  ·rw[if_neg h5,if_neg (by omega)]
theorem aki{op:BinOp}{a b s:List Int}{i:Int}(ha:a.length=16)(hb:b.length=16)(h:I37 op a b s i)(hi:¬i<16):s=bN op a b:=by
 obtain⟨h1,h2,h3,h4⟩:=h;refine aah h3 (by simp[bN,ha,hb]) fun j hj=> ?_;rw[h4 j hj,if_pos (by omega)];simp[bN,List.getD,List.getElem?_zipWith,ha,hb,hj]
theorem xY{Z:aW}:dr P Z 105 [dJ,dJ,.b .fn] [dJ] (fun(_,_,f,())=>[f=108∨f=106∨f=150]) (fun(a,b,f,())=>(bN (aag f) a b,())):=by
 refine aB Tryz.func105 (by kernel_rfl) (by kernel_rfl) ?_;rintro⟨(a:List Int),(b:List Int),(f:FuncId),⟨⟩⟩ ⟨(ha:a.length=16),(hb:b.length=16),_⟩ ⟨(hf:f=108∨f=106∨f=150),_⟩ X hX hz
 have run (c:bw) (t:Tree) (ht:run P xX.sum Tryz.f105 aaf c=t) {K:List ab→AV→Prop} (h:t.aZ K (Safe P 105 X K)):Safe P 105 X K c:=
  cG (aH.sOk akh) hz mixed Tryz.func105 (fun x h id _=>hX id) ht h
 have loop (op:BinOp) (f:FuncId) (hl:∀s i,Sx.run P xX.sum Tryz.f105 aaf (c37 f b s i)=Tree.ite (decide (i<16)) (.need ((0:Int)≤i) (.need (i<(↑(16:Nat):Int)) (.need ((0:Int)≤i) (.need (i<(↑(16:Nat):Int)) (.need ((0:Int)≤i) (.need (i<(↑(16:Nat):Int)) (.need (ay (i+1)) (.at (c37 f b (s.set i.toNat (bt op .u64 (s.getD i.toNat 0) (b.getD i.toNat 0))) (i+1)))))))))) (.ret [.own [.ints .u64 16 s] 37,.own [.ints .u64 16 b] 37,.own [.ints .u64 16 s] 37] (.ints .u64 16 s))):
  Safe P 105 X (Ends [dJ] (bN op a b,())) (c37 f b a 0):=by
  refine na (fun(x:List Int×Int)=>c37 f b x.1 x.2) (fun x=>I37 op a b x.1 x.2) (fun x=>(16 - x.2).toNat) ?_ (a,0) ⟨by omega,by omega,ha,fun j hj=>by rw[if_neg (by simp only[];omega)]⟩;rintro⟨s,i⟩ hI ih;have h0:0≤i:=hI.1;refine run _ _ (hl s i) ⟨fun h=> ?_,fun h=> ?_⟩
  ·have hi:i<16:=by simpa using h
   exact⟨h0,hi,h0,hi,h0,hi,⟨by omega,by omega⟩,ih (_,i+1) (ahE hI hi) (by simp only[];omega)⟩
  ·have hi:¬i<16:=by simpa using h
   exact aV (s,()) (by rw[←aki ha hb hI hi]) (by kernel_rfl)
 rcases hf with rfl|rfl|rfl
 ·exact run _ _ (akb a b) (loop .andNot 108 (fun s i=>akc b s i))
 ·exact run _ _ (akd a b) (loop .and 106 (fun s i=>ake b s i))
 ·exact run _ _ (akf a b) (loop .or 150 (fun s i=>akg b s i))
end Bx
namespace Bx
open Go Go.Sx Go.Proofs
abbrev s37:=cp [dJ,dJ,.b .fn] [dJ] (fun(_,_,f,())=>[f=108∨f=106∨f=150]) (fun(a,b,f,())=>(bN (aag f) a b,()))
def aoa:aH:=[(105,s37)]
theorem aob(a b:List Int):run P aoa.sum Tryz.f66 [] (start Tryz.f66 [.ints .u64 16 a,.ints .u64 16 b] [])=
 Tree.need ((108:Nat)=(108:(Ty.b B.fn).V)∨(108:Nat)=(106:(Ty.b B.fn).V)∨(108:Nat)=(150:(Ty.b B.fn).V)) (.ret [.own [.ints .u64 16 a] 37,.own [.ints .u64 16 b] 37,.own [.ints .u64 16 (bN (aag 108) a b)] 37] (.ints .u64 16 (bN (aag 108) a b))):=by kernel_rfl
theorem aoc(a b:List Int):run P aoa.sum Tryz.f63 [] (start Tryz.f63 [.ints .u64 16 a,.ints .u64 16 b] [])=
 Tree.need ((106:Nat)=(108:(Ty.b B.fn).V)∨(106:Nat)=(106:(Ty.b B.fn).V)∨(106:Nat)=(150:(Ty.b B.fn).V)) (.ret [.own [.ints .u64 16 a] 37,.own [.ints .u64 16 b] 37,.own [.ints .u64 16 (bN (aag 106) a b)] 37] (.ints .u64 16 (bN (aag 106) a b))):=by kernel_rfl
theorem aod(a b:List Int):run P aoa.sum Tryz.f114 [] (start Tryz.f114 [.ints .u64 16 a,.ints .u64 16 b] [])=
 Tree.need ((150:Nat)=(108:(Ty.b B.fn).V)∨(150:Nat)=(106:(Ty.b B.fn).V)∨(150:Nat)=(150:(Ty.b B.fn).V)) (.ret [.own [.ints .u64 16 a] 37,.own [.ints .u64 16 b] 37,.own [.ints .u64 16 (bN (aag 150) a b)] 37] (.ints .u64 16 (bN (aag 150) a b))):=by kernel_rfl
def aqC:List (Nat×Norm):=[(3,⟨[],[0,2,3,6],0,[]⟩)]
noncomputable def c13(n:Int)(s:List Int)(i:Int):bw:=⟨sl 24 [(0,.s (.int .i64 n)),(2,.ptr 0 0),(3,.ptr 1 0),(6,.s (.int .i64 i))],[.own [.ints .u64 16 (List.replicate 16 0)] 37,.own [.ints .u64 16 s] 37],hd Tryz.f64 3,{}⟩
theorem aoe(n:Int):run P gL.sum Tryz.f64 aqC (start Tryz.f64 [.s (.int .i64 n)] [])=
 Tree.at (.mk (sl 24 [(0,.s (.int .i64 n)),(2,.ptr 0 0),(3,.ptr 1 0),(6,.s (.int .i64 0))]) [.own [.ints .u64 16 (List.replicate 16 0)] 37,.own [.ints .u64 16 (List.replicate 16 0)] 37] (hd Tryz.f64 3) (.mk none false 0 [] 0)):=by kernel_rfl
theorem aof(n:Int)(s:List Int)(i:Int):run P gL.sum Tryz.f64 aqC (c13 n s i)=
 Tree.ite (decide (i<(16:Int))) (Tree.need (ay (i*(64:Int))) (Tree.need (ay (nN (imax n (0:Int)) (1024:Int) - i*(64:Int))) (Tree.need ((0:Int)≤nN (imax (nN (imax n (0:Int)) (1024:Int) - i*(64:Int)) (0:Int)) (64:Int)) (Tree.need ((0:Int)≤i) (Tree.need (i<(↑(16:Nat):Int)) (Tree.need (ay (i+(1:Int))) (Tree.at (bw.mk (sl (24:Nat) [((0:Nat),AV.s (SV.int IntKind.i64 n)),((2:Nat),AV.ptr (0:Nat) (0:Nat)),((3:Nat),AV.ptr (1:Nat) (0:Nat)),((6:Nat),AV.s (SV.int IntKind.i64 (i+(1:Int))))]) [ab.own [AV.ints IntKind.u64 (16:Nat) (List.replicate (16:Nat) (0:Int))] (37:Nat),ab.own [AV.ints IntKind.u64 (16:Nat) (s.set i.toNat (IntKind.u64.wrap (IntKind.u64.wrap ((1:Int)*(2:Int)^min (nN (imax (nN (imax n (0:Int)) (1024:Int) - i*(64:Int)) (0:Int)) (64:Int)).toNat IntKind.u64.bits) - (1:Int))))] (37:Nat)] (hd Tryz.f64 (3:Nat)) (kU.mk none false (0:Nat) [] (0:Nat)))))))))) (Tree.ret [ab.own [AV.ints IntKind.u64 (16:Nat) s] (37:Nat),ab.own [AV.ints IntKind.u64 (16:Nat) s] (37:Nat)] (AV.ints IntKind.u64 (16:Nat) s)):=by kernel_rfl
theorem rP{Z:aW}:dr P Z 66 [dJ,dJ] [dJ] (fun _=>[]) (fun(a,b,())=>(bN .andNot a b,())):=by
 refine aB Tryz.func66 (by kernel_rfl) (by kernel_rfl) ?_;rintro⟨(a:List Int),(b:List Int),⟨⟩⟩ _ _ X hX hz;exact go hz hX (aH.Ok.cons xY.sum aH.Ok.nil) Tryz.func66 (aob a b) ⟨.inl rfl,aV _ rfl (by kernel_rfl)⟩
theorem adA{Z:aW}:dr P Z 63 [dJ,dJ] [dJ] (fun _=>[]) (fun(a,b,())=>(bN .and a b,())):=by
 refine aB Tryz.func63 (by kernel_rfl) (by kernel_rfl) ?_;rintro⟨(a:List Int),(b:List Int),⟨⟩⟩ _ _ X hX hz;exact go hz hX (aH.Ok.cons xY.sum aH.Ok.nil) Tryz.func63 (aoc a b) ⟨.inr (.inl rfl),aV _ rfl (by kernel_rfl)⟩
theorem ahF{Z:aW}:dr P Z 114 [dJ,dJ] [dJ] (fun _=>[]) (fun(a,b,())=>(bN .or a b,())):=by
 refine aB Tryz.func114 (by kernel_rfl) (by kernel_rfl) ?_;rintro⟨(a:List Int),(b:List Int),⟨⟩⟩ _ _ X hX hz;exact go hz hX (aH.Ok.cons xY.sum aH.Ok.nil) Tryz.func114 (aod a b) ⟨.inr (.inr rfl),aV _ rfl (by kernel_rfl)⟩
def ae:List Int:=List.replicate 16 0
theorem wi{α:Type}(l:List α)(i:Nat)(d:α)(h:i<l.length):l.take (i+1)=l.take i++[l.getD i d]:=by
 rw[List.take_add_one];simp[List.getD,h]
def afb(n i:Int):Int:=nN (imax (nN (imax n 0) 1024 - i*64) 0) 64
def qA(n i:Int):Int:=IntKind.u64.wrap (IntKind.u64.wrap (1*2^min (afb n i).toNat IntKind.u64.bits) - 1)
def aY(n:Int):List Int:=(List.range 16).map fun(i:Nat)=>qA n i
theorem tW(n i:Int):0≤afb n i∧afb n i≤64:=by
 unfold afb;generalize nN (imax n 0) 1024 - i*64=x;unfold nN imax;split<;>split at * <;>omega
theorem afc(n:Int):0≤nN (imax n 0) 1024∧nN (imax n 0) 1024≤1024:=by
 unfold nN imax;split<;>split at * <;>omega
theorem py {Z : aW} : dr P Z 64 [bB] [dJ] (fun _ => []) (fun (n, ()) => (aY n, ())) := by
 refine aB Tryz.func64 (by kernel_rfl) (by kernel_rfl) ?_;rintro ⟨(n : Int), ⟨⟩⟩ _ _ X hX hz;refine go hz hX aH.Ok.nil Tryz.func64 (aoe n) ?_;refine na (fun (x : List Int × Int) => c13 n x.1 x.2) (fun x => 0 ≤ x.2 ∧ x.2 ≤ 16 ∧ x.1.length = 16 ∧ ∀ j : Nat, j < 16 → (j : Int) < x.2 → x.1.getD j 0 = qA n j) (fun x => (16 - x.2).toNat) ?_ (ae, 0) ⟨by simp only []; omega, by simp only []; omega, rfl, fun j _ h => by simp only [] at h; omega⟩;rintro ⟨s, i⟩ ⟨(h0 : 0 ≤ i), (h1 : i ≤ 16), (h2 : s.length = 16), h3⟩ ih;simp only [] at h3;have hr := tW n i;have hc := afc n;refine go hz hX aH.Ok.nil Tryz.func64 (aof n s i) ⟨fun h => ?_, fun h => ?_⟩
 · have hi : i < (16 : Int) := of_decide_eq_true h;refine ⟨⟨by omega, by omega⟩, ⟨by omega, by omega⟩, hr.1, h0, hi, ⟨by omega, by omega⟩, ih (s.set i.toNat (qA n i), i + 1) ⟨by simp only []; omega, by simp only []; omega, by simpa using h2, fun j hj hji => ?_⟩ (by simp only []; omega)⟩;simp only [] at hji ⊢;rw [px];by_cases rI : j = i.toNat
   · rw [if_pos ⟨rI, by omega⟩, show (j : Int) = i from by omega]
   · rw [if_neg (fun h => rI h.1)];exact h3 j hj (by omega)
 · have hi : ¬ i < (16 : Int) := of_decide_eq_false h;refine aV (s, ()) ?_ (by kernel_rfl);rw [aah (a := s) (b := aY n) h2 (by simp [aY]) (fun j hj => ?_)];rw [h3 j hj (by omega)];simp [aY, List.getD, hj]
end Bx
namespace Bx
open Go Go.Sx Go.Proofs
def acd(n:Int):Int:=IntKind.u64.wrap n
def ub(a b:Int):Int:=bt .and .u64 a b
def sh(x k:Int):Int:=x.fdiv ((2:Int)^min (Int.toNat k) IntKind.u64.bits)
def oc1(x:Int):Int:=acd (ub (sh x 1) 6148914691236517205+ub x 6148914691236517205)
def oc2(x:Int):Int:=acd (ub (sh x 2) 3689348814741910323+ub x 3689348814741910323)
def oc3(x:Int):Int:=ub (acd (sh x 4+x)) 1085102592571150095
def oc4(x:Int):Int:=acd (x+sh x 8)
def oc5(x:Int):Int:=acd (x+sh x 16)
def oc6(x:Int):Int:=acd (x+sh x 32)
def ocF(x:Int):Int:=bt .and .i64 (oc6 (oc5 (oc4 (oc3 (oc2 (oc1 x)))))) 127
def ocG(x:Int):Int:=bt .and .i64 (IntKind.i64.wrap (oc6 (oc5 (oc4 (oc3 (oc2 (oc1 x))))))) 127
theorem aog(x:Int):run P gL.sum Tryz.f137 [] (start Tryz.f137 [.s (.int .u64 x)] [])=
 Tree.need ((0:Int)≤1) (.need ((0:Int)≤2) (.need ((0:Int)≤4) (.need ((0:Int)≤8) (.need ((0:Int)≤16) (.need ((0:Int)≤32) (.ret [] (.s (.int .i64 (ocG x))))))))):=by kernel_rfl
def pc:Nat→Nat→Nat
 |0,_=>0
 |n+1,x=>x%2+pc n (x / 2)
theorem qB(a b:Nat)(ha:a<18446744073709551616)(hb:b<18446744073709551616):ub (a:Int) (b:Int)=((a &&& b:Nat):Int):=by
 have hx:a &&& b<2^64:=Nat.and_lt_two_pow _ (by omega)
 have h1:(BitVec.ofInt 64 (a:Int)).toNat=a:=by
  rw[BitVec.ofInt_natCast,BitVec.toNat_ofNat];exact Nat.mod_eq_of_lt (by omega)
 have h2:(BitVec.ofInt 64 (b:Int)).toNat=b:=by
  rw[BitVec.ofInt_natCast,BitVec.toNat_ofNat];exact Nat.mod_eq_of_lt (by omega)
 show((BitVec.ofInt 64 (a:Int) &&& BitVec.ofInt 64 (b:Int)).toNat:Int)%18446744073709551616=_;rw[BitVec.toNat_and,h1,h2];omega
theorem nf(n:Int):acd n=n%18446744073709551616:=rfl
theorem qC(x k:Nat)(hk:k≤64):sh (x:Int) (k:Int)=((x / 2^k:Nat):Int):=by
 unfold sh;rw[show IntKind.u64.bits=64 from rfl,Int.toNat_natCast,Nat.min_eq_left hk,Int.fdiv_eq_ediv_of_nonneg _ (Int.pow_nonneg (by omega))];simp
def msk(b c:Nat):Nat→Nat
 |0=>0
 |n+1=>(2^b - 1)+2^c*msk b c n
theorem pz(b c n x:Nat)(hbc:b≤c):x &&& msk b c (n+1)=x%2^b+2^c*((x / 2^c) &&& msk b c n):=by
 have ahG:x%2^b<2^c:=Nat.lt_of_lt_of_le (Nat.mod_lt _ (Nat.two_pow_pos _)) (Nat.pow_le_pow_right (by omega) hbc);have hm:2^b - 1<2^c:=Nat.lt_of_lt_of_le (by have:=Nat.two_pow_pos b;omega) (Nat.pow_le_pow_right (by omega) hbc);apply Nat.eq_of_testBit_eq;intro i;rw[Nat.testBit_and,msk,Nat.add_comm (2^b - 1),Nat.add_comm (x%2^b)];rw[Nat.testBit_two_pow_mul_add _ hm,Nat.testBit_two_pow_mul_add _ ahG];by_cases hi:i<c
 ·rw[if_pos hi,if_pos hi,Nat.testBit_two_pow_sub_one,Nat.testBit_mod_two_pow,Bool.and_comm]
 ·rw[if_neg hi,if_neg hi,Nat.testBit_and,Nat.testBit_div_two_pow];congr 2;omega
def vM(n x:Nat):Nat:=((x / 2) &&& msk 1 2 n)+(x &&& msk 1 2 n)
theorem aai(n x:Nat):vM (n+1) x=(x%2+x / 2%2)+4*vM n (x / 4):=by
 unfold vM;rw[pz 1 2 n x (by omega),pz 1 2 n (x / 2) (by omega)];rw[show x / 2 / 2^2=x / 4 / 2 from by omega,show x / 2^2=x / 4 from rfl];omega
def yt(n y:Nat):Nat:=((y / 4) &&& msk 2 4 n)+(y &&& msk 2 4 n)
theorem ahH(n y:Nat):yt (n+1) y=(y%4+y / 4%4)+16*yt n (y / 16):=by
 unfold yt;rw[pz 2 4 n y (by omega),pz 2 4 n (y / 4) (by omega)];rw[show y / 4 / 2^4=y / 16 / 4 from by omega,show y / 2^4=y / 16 from rfl];omega
theorem ahI(n x:Nat):vM (n+2) x%16=x%2+x / 2%2+4*(x / 4%2+x / 4 / 2%2)∧vM (n+2) x / 16=vM n (x / 16):=by
 rw[aai,aai,show x / 16=x / 4 / 4 from by omega];constructor<;>omega
theorem anc:∀(n x:Nat),yt (n+1) (vM (2*(n+1)) x)=pc 4 x+16*yt n (vM (2*n) (x / 16)):=by
 intro n x;rw[ahH,show 2*(n+1)=2*n+2 from by omega];obtain⟨h1,h2⟩:=ahI (2*n) x;rw[h2];have hp:pc 4 x=x%2+(x / 2%2+(x / 2 / 2%2+(x / 2 / 2 / 2%2+0))):=rfl;rw[show x / 2 / 2=x / 4 from by omega]at hp;rw[hp];generalize vM (2*n+2) x=y at *;generalize x / 4 / 2%2=b3 at *;have:x%2<2∧x / 2%2<2∧x / 4%2<2:=by omega
 generalize x%2=b0 at *;generalize x / 2%2=b1 at *;generalize x / 4%2=b2 at *;omega
def st3(n z:Nat):Nat:=(z / 16+z) &&& msk 4 8 n
theorem jt:∀(n x:Nat),pc n x≤n
 |0,x=>Nat.le_refl _
 |n+1,x=>by have:=jt n (x / 2);simp only[pc];omega
theorem lu:∀(m n x:Nat),pc (m+n) x=pc m x+pc n (x / 2^m)
 |0,n,x=>by simp[pc]
 |m+1,n,x=>by
  rw[show m+1+n=(m+n)+1 from by omega];simp only[pc];rw[lu m n (x / 2),Nat.div_div_eq_div_mul,Nat.pow_succ,Nat.mul_comm 2];omega
def z4(n x:Nat):Nat:=yt n (vM (2*n) x)
theorem xZ(n x:Nat):z4 (n+1) x=pc 4 x+16*z4 n (x / 16):=anc n x
theorem akj(x:Nat):z4 0 x=0:=by simp[z4,yt,msk]
theorem ahJ(n x:Nat):st3 (n+1) (z4 (2*n+2) x)=pc 8 x+256*st3 n (z4 (2*n) (x / 256)):=by
 unfold st3;rw[pz 4 8 n _ (by omega)];have e1:=xZ (2*n+1) x;have e2:=xZ (2*n) (x / 16);rw[Nat.div_div_eq_div_mul]at e2;have e0:pc 8 x=pc 4 x+pc 4 (x / 16):=lu 4 4 x;have b1:=jt 4 x;have b2:=jt 4 (x / 16)
 have b3:z4 (2*n) (x / (16*16))%16≤4:=by
  cases n with
  |zero=>rw[akj];omega
  |succ n=>
   rw[show 2*(n+1)=(2*n+1)+1 from by omega,xZ];have:=jt 4 (x / (16*16));omega
 rw[show x / 256=x / (16*16)from rfl];generalize z4 (2*n) (x / (16*16))=q at *;generalize z4 (2*n+1) (x / 16)=r at *;generalize z4 (2*n+2) x=t at *;have ht:(t / 16+t) / 2^8=q / 16+q:=by omega
 rw[ht];have:(t / 16+t)%2^4=pc 4 x+pc 4 (x / 16):=by omega
 omega
theorem bytes(x:Nat):st3 8 (z4 16 x)=pc 8 x+256*(pc 8 (x / 2^8)+256*(pc 8 (x / 2^16)+256*(pc 8 (x / 2^24)+256*(pc 8 (x / 2^32)+256*(pc 8 (x / 2^40)+256*(pc 8 (x / 2^48)+256*pc 8 (x / 2^56))))))):=by
 have h (n x:Nat):=ahJ n x;have h0:∀x,st3 0 (z4 0 x)=0:=fun x=>by simp[st3,msk]
 rw[h 7,h 6,h 5,h 4,h 3,h 2,h 1,h 0,h0];simp only[Nat.div_div_eq_div_mul]
 try rfl
theorem as5(x:Nat):pc 64 x=pc 8 x+(pc 8 (x / 2^8)+(pc 8 (x / 2^16)+(pc 8 (x / 2^24)+(pc 8 (x / 2^32)+(pc 8 (x / 2^40)+(pc 8 (x / 2^48)+pc 8 (x / 2^56))))))):=by
 rw[lu 8 56 x,lu 8 48,lu 8 40,lu 8 32,lu 8 24,lu 8 16,lu 8 8];simp only[Nat.div_div_eq_div_mul]
 try rfl
theorem akk(x:Nat)(hx:x<18446744073709551616):oc1 (x:Int)=(vM 32 x:Nat):=by
 have hm:msk 1 2 32=6148914691236517205:=by decide
 unfold oc1 vM;rw[show(1:Int)=((1:Nat):Int)from rfl,qC x 1 (by omega),show(6148914691236517205:Int)=((6148914691236517205:Nat):Int)from rfl,qB _ _ (by omega) (by omega),qB _ _ hx (by omega),nf,hm];have h1:x / 2^1 &&& 6148914691236517205≤6148914691236517205:=Nat.and_le_right;have h2:x &&& 6148914691236517205≤6148914691236517205:=Nat.and_le_right;rw[show x / 2^1=x / 2 from rfl]at *;omega
theorem aoh(x:Nat):vM 32 x<18446744073709551616:=by
 have hm:msk 1 2 32=6148914691236517205:=by decide
 unfold vM;rw[hm];have h1:x / 2 &&& 6148914691236517205≤6148914691236517205:=Nat.and_le_right;have h2:x &&& 6148914691236517205≤6148914691236517205:=Nat.and_le_right;omega
theorem akl(x:Nat)(hx:x<18446744073709551616):oc2 (x:Int)=(yt 16 x:Nat):=by
 have hm:msk 2 4 16=3689348814741910323:=by decide
 unfold oc2 yt;rw[show(2:Int)=((2:Nat):Int)from rfl,qC x 2 (by omega),show(3689348814741910323:Int)=((3689348814741910323:Nat):Int)from rfl,qB _ _ (by omega) (by omega),qB _ _ hx (by omega),nf,hm];have h1:x / 2^2 &&& 3689348814741910323≤3689348814741910323:=Nat.and_le_right;have h2:x &&& 3689348814741910323≤3689348814741910323:=Nat.and_le_right;rw[show x / 2^2=x / 4 from rfl]at *;omega
theorem aoi(x:Nat):yt 16 x≤7378697629483820646:=by
 have hm:msk 2 4 16=3689348814741910323:=by decide
 unfold yt;rw[hm];have h1:x / 4 &&& 3689348814741910323≤3689348814741910323:=Nat.and_le_right;have h2:x &&& 3689348814741910323≤3689348814741910323:=Nat.and_le_right;omega
theorem akm(x:Nat)(hx:x≤7378697629483820646):oc3 (x:Int)=(st3 8 x:Nat):=by
 have hm:msk 4 8 8=1085102592571150095:=by decide
 unfold oc3 st3;rw[show(4:Int)=((4:Nat):Int)from rfl,qC x 4 (by omega),nf,hm];rw[show(((x / 2^4:Nat):Int)+(x:Int))%18446744073709551616=((x / 16+x:Nat):Int)from by omega,show(1085102592571150095:Int)=((1085102592571150095:Nat):Int)from rfl,qB _ _ (by omega) (by omega)]
theorem ahK(x:Nat)(hx:x<18446744073709551616):∃t:Nat,oc6 (oc5 (oc4 (oc3 (oc2 (oc1 (x:Int))))))=(t:Int)∧t<9223372036854775808∧t%256=pc 64 x:=by
 rw[akk x hx,akl _ (aoh x),akm _ (aoi _)];have hb:=bytes x;rw[show z4 16 x=yt 16 (vM 32 x)from rfl]at hb;have hp:=as5 x;generalize st3 8 (yt 16 (vM 32 x))=y at *;have b0:=jt 8 x;have b1:=jt 8 (x / 2^8);have b2:=jt 8 (x / 2^16);have b3:=jt 8 (x / 2^24);have b4:=jt 8 (x / 2^32);have b5:=jt 8 (x / 2^40);have b6:=jt 8 (x / 2^48);have b7:=jt 8 (x / 2^56);generalize pc 8 x=c0 at *;generalize pc 8 (x / 2^8)=c1 at *;generalize pc 8 (x / 2^16)=c2 at *;generalize pc 8 (x / 2^24)=c3 at *;generalize pc 8 (x / 2^32)=c4 at *;generalize pc 8 (x / 2^40)=c5 at *;generalize pc 8 (x / 2^48)=c6 at *;generalize pc 8 (x / 2^56)=c7 at *;generalize pc 64 x=p at *
 have e4:oc4 (y:Int)=((y+y / 256:Nat):Int):=by
  unfold oc4;rw[show(8:Int)=((8:Nat):Int)from rfl,qC y 8 (by omega),nf,show(2:Nat)^8=256 from rfl];omega
 have h8:y / 256=c1+256*(c2+256*(c3+256*(c4+256*(c5+256*(c6+256*c7))))):=by omega
 rw[e4];have hu:y+y / 256=(c0+c1)+256*((c1+c2)+256*((c2+c3)+256*((c3+c4)+256*((c4+c5)+256*((c5+c6)+256*((c6+c7)+256*c7)))))):=by omega
 generalize y+y / 256=u at *;clear h8 hb e4
 have e5:oc5 (u:Int)=((u+u / 65536:Nat):Int):=by
  unfold oc5;rw[show(16:Int)=((16:Nat):Int)from rfl,qC u 16 (by omega),nf,show(2:Nat)^16=65536 from rfl];omega
 have h16:u / 65536=(c2+c3)+256*((c3+c4)+256*((c4+c5)+256*((c5+c6)+256*((c6+c7)+256*c7)))):=by omega
 rw[e5]
 have hv:∃a1 a2 a3 a5 a6 a7:Nat,a1≤64∧a2≤64∧a3≤64∧a5≤64∧a6≤64∧a7≤64∧u+u / 65536=(c0+c1+c2+c3)+256*(a1+256*(a2+256*(a3+256*((c4+c5+c6+c7)+256*(a5+256*(a6+256*a7)))))):=
  ⟨c1+c2+c3+c4,c2+c3+c4+c5,c3+c4+c5+c6,c5+c6+c7,c6+c7,c7,by omega,by omega,by omega,by omega,by omega,by omega,by omega⟩
 obtain⟨a1,a2,a3,a5,a6,a7,g1,g2,g3,g5,g6,g7,hv⟩:=hv;generalize u+u / 65536=v at *;clear hu h16 e5
 have e6:oc6 (v:Int)=((v+v / 4294967296:Nat):Int):=by
  unfold oc6;rw[show(32:Int)=((32:Nat):Int)from rfl,qC v 32 (by omega),nf,show(2:Nat)^32=4294967296 from rfl];omega
 rw[e6];refine⟨v+v / 4294967296,rfl,by omega, ?_⟩;have:v / 4294967296=(c4+c5+c6+c7)+256*(a5+256*(a6+256*a7)):=by omega
 omega
theorem aoj(t:Nat)(ht:t<9223372036854775808):bt .and .i64 (t:Int) 127=((t%128:Nat):Int):=by
 have h1:(BitVec.ofInt 64 (t:Int)).toNat=t:=by
  rw[BitVec.ofInt_natCast,BitVec.toNat_ofNat];exact Nat.mod_eq_of_lt (by omega)
 have h2:(BitVec.ofInt 64 (127:Int)).toNat=127:=by decide
 show IntKind.i64.wrap ((BitVec.ofInt 64 (t:Int) &&& BitVec.ofInt 64 (127:Int)).toNat:Int)=_;rw[BitVec.toNat_and,h1,h2,show(127:Nat)=2^7 - 1 from rfl,Nat.and_two_pow_sub_one_eq_mod];generalize hm:t%2^7=m;have:m<128:=by omega
 simp only[IntKind.wrap,IntKind.signed,IntKind.bits];simp;omega
theorem akn(x:Nat)(hx:x<18446744073709551616):ocF (x:Int)=(pc 64 x:Nat):=by
 obtain⟨t,h1,h2,h3⟩:=ahK x hx;unfold ocF;rw[h1,aoj t h2];have:=jt 64 x;omega
theorem ako{Z:aW}:dr P Z 137 [tU] [bB] (fun(x,())=>[(0:Int)≤x∧x<(18446744073709551616:Int)]) (fun(x,())=>(((pc 64 (Int.toNat x):Nat):Int),())):=by
 refine aB Tryz.func137 (by kernel_rfl) (by kernel_rfl) ?_;rintro⟨(x:Int),⟨⟩⟩ _ ⟨(hx:0≤x∧x<18446744073709551616),_⟩ X hX hz;obtain⟨n,rfl⟩:=Int.eq_ofNat_of_zero_le hx.1;obtain⟨t,h1,h2,h3⟩:=ahK n (by omega);refine go hz hX aH.Ok.nil Tryz.func137 (aog n) ⟨by omega,by omega,by omega,by omega,by omega,by omega,aV (ocG n,()) ?_ (by kernel_rfl)⟩
 ·have e:ocG n=ocF n:=by
   unfold ocG ocF;rw[cn (by rw[h1];exact⟨by omega,by omega⟩)]
  rw[e];clear e;revert h1;intro _;rw[akn n (by omega)];rfl
end Bx
namespace Bx
open Go Go.Sx Go.Proofs
def okW(ws:List Int):Prop:=ws.length=16∧∀w∈ws,0≤w∧w<18446744073709551616
def wd(ws:List Int)(i:Nat):Nat:=(ws.getD i 0).toNat
def bit(ws:List Int)(k:Nat):Bool:=(wd ws (k / 64)).testBit (k%64)
def opb:BinOp→Bool→Bool→Bool
 |.or,x,y=>x||y
 |.andNot,x,y=>x&& !y
 |_,x,y=>x&&y
theorem tX{ws:List Int}(h:okW ws)(i:Nat):wd ws i<18446744073709551616∧(ws.getD i 0)=(wd ws i:Int):=by
 unfold wd;by_cases hi:i<ws.length
 ·have:=h.2 (ws.getD i 0) (by rw[List.getD,List.getElem?_eq_getElem hi];exact List.getElem_mem hi);omega
 ·have:ws.getD i 0=0:=by simp[List.getD,List.getElem?_eq_none (Nat.le_of_not_lt hi)]
  rw[this];simp
theorem wj(op:BinOp)(uy:op=.or∨op=.and∨op=.andNot)(a b:Nat)(ha:a<18446744073709551616)(hb:b<18446744073709551616):
 ∃r:Nat,bt op .u64 (a:Int) (b:Int)=(r:Int)∧r<18446744073709551616∧∀i,i<64→r.testBit i=opb op (a.testBit i) (b.testBit i):=by
 have h1:BitVec.ofInt 64 (a:Int)=BitVec.ofNat 64 a:=BitVec.ofInt_natCast 64 a;have h2:BitVec.ofInt 64 (b:Int)=BitVec.ofNat 64 b:=BitVec.ofInt_natCast 64 b
 have key:∀v:BitVec 64,IntKind.u64.wrap (v.toNat:Int)=(v.toNat:Int):=fun v=>by
  have:=v.isLt;show(v.toNat:Int)%18446744073709551616=_;omega
 rcases uy with rfl|rfl|rfl
 ·refine⟨(BitVec.ofNat 64 a ||| BitVec.ofNat 64 b).toNat, ?_,(BitVec.ofNat 64 a ||| BitVec.ofNat 64 b).isLt,fun i hi=> ?_⟩
  ·show IntKind.u64.wrap ((BitVec.ofInt 64 (a:Int) ||| BitVec.ofInt 64 (b:Int)).toNat:Int)=_;rw[h1,h2,key]
  ·rw[BitVec.testBit_toNat,BitVec.getLsbD_or,BitVec.getLsbD_ofNat,BitVec.getLsbD_ofNat];simp[opb,hi]
 ·refine⟨(BitVec.ofNat 64 a &&& BitVec.ofNat 64 b).toNat, ?_,(BitVec.ofNat 64 a &&& BitVec.ofNat 64 b).isLt,fun i hi=> ?_⟩
  ·show IntKind.u64.wrap ((BitVec.ofInt 64 (a:Int) &&& BitVec.ofInt 64 (b:Int)).toNat:Int)=_;rw[h1,h2,key]
  ·rw[BitVec.testBit_toNat,BitVec.getLsbD_and,BitVec.getLsbD_ofNat,BitVec.getLsbD_ofNat];simp[opb,hi]
 ·refine⟨(BitVec.ofNat 64 a &&& ~~~ BitVec.ofNat 64 b).toNat, ?_,(BitVec.ofNat 64 a &&& ~~~ BitVec.ofNat 64 b).isLt,fun i hi=> ?_⟩
  ·show IntKind.u64.wrap ((BitVec.ofInt 64 (a:Int) &&& ~~~ BitVec.ofInt 64 (b:Int)).toNat:Int)=_;rw[h1,h2,key]
  ·rw[BitVec.testBit_toNat,BitVec.getLsbD_and,BitVec.getLsbD_not,BitVec.getLsbD_ofNat,BitVec.getLsbD_ofNat];simp[opb,hi]
theorem tY{ws:List Int}(hl:ws.length=16)(h:∀i,i<16→0≤ws.getD i 0∧ws.getD i 0<18446744073709551616):okW ws:=by
 refine⟨hl,fun w hw=> ?_⟩;obtain⟨i,hi,rfl⟩:=List.getElem_of_mem hw;have:=h i (by omega);rwa[List.getD,List.getElem?_eq_getElem hi]at this
theorem ahL{op:BinOp}{a b:List Int}(ha:a.length=16)(hb:b.length=16){i:Nat}(hi:i<16):(bN op a b).getD i 0=bt op .u64 (a.getD i 0) (b.getD i 0):=by
 have h1:i<a.length:=by omega
 have h2:i<b.length:=by omega
 simp[bN,List.getD,List.getElem?_zipWith,h1,h2]
theorem lz{op:BinOp}(uy:op=.or∨op=.and∨op=.andNot){a b:List Int}(ha:okW a)(hb:okW b):okW (bN op a b)∧∀k,k<1024→bit (bN op a b) k=opb op (bit a k) (bit b k):=by
 have key:∀i,i<16→∃r:Nat,(bN op a b).getD i 0=(r:Int)∧r<18446744073709551616∧∀j,j<64→r.testBit j=opb op ((wd a i).testBit j) ((wd b i).testBit j):=fun i hi=>by
  rw[ahL ha.1 hb.1 hi,(tX ha i).2,(tX hb i).2];exact wj op uy _ _ (tX ha i).1 (tX hb i).1
 refine⟨tY (by simp[bN,ha.1,hb.1]) fun i hi=> ?_,fun k hk=> ?_⟩
 ·obtain⟨r,h1,h2,_⟩:=key i hi;rw[h1];omega
 ·obtain⟨r,h1,h2,h3⟩:=key (k / 64) (by omega);unfold bit;rw[show wd (bN op a b) (k / 64)=r from by unfold wd;rw[h1];rfl];exact h3 _ (by omega)
theorem kD:okW ae∧∀k,bit ae k=false:=by
 refine⟨⟨rfl,fun w hw=> ?_⟩,fun k=> ?_⟩
 ·have:=List.eq_of_mem_replicate hw;omega
 ·have:wd ae (k / 64)=0:=by
   unfold wd ae;rw[List.getD,List.getElem?_replicate];split<;>rfl
  simp[bit,this]
theorem rQ{j i:Nat}:(2^j).testBit i=decide (j=i):=by
 rw[Nat.testBit_two_pow]
theorem aaj{n:Int}(h:0≤n∧n<1024):kC n=((2^(n.toNat%64):Nat):Int)∧2^(n.toNat%64)<18446744073709551616∧dZ n=((n.toNat / 64:Nat):Int):=by
 unfold kC dZ;rw[if_pos h,if_pos h];have e:(n%64).toNat=n.toNat%64:=by omega
 rw[e];have h2:(2:Nat)^(n.toNat%64)<2^64:=Nat.pow_lt_pow_right (by omega) (by omega);refine⟨by simp,h2,by omega⟩
theorem kE{n:Int}:gP n=true↔0≤n∧n<1024:=by simp[gP]
theorem ahM(op:BinOp)(uy:op=.or∨op=.andNot){ws:List Int}(hw:okW ws){n:Int}(h:0≤n∧n<1024):
 okW (ws.set (dZ n).toNat (bt op .u64 (ws.getD (dZ n).toNat 0) (kC n)))∧∀k,k<1024→bit (ws.set (dZ n).toNat (bt op .u64 (ws.getD (dZ n).toNat 0) (kC n))) k=opb op (bit ws k) (decide (n=(k:Int))):=by
 obtain⟨e1,e2,e3⟩:=aaj h;rw[e1,e3,Int.toNat_natCast];obtain⟨m,rfl⟩:=Int.eq_ofNat_of_zero_le h.1;simp only[Int.toNat_natCast]at *;have hb:=tX hw (m / 64);rw[hb.2];obtain⟨r,h1,h2,h3⟩:=wj op (by rcases uy with h|h<;>simp[h]) _ _ hb.1 e2;rw[h1];have hm:m / 64<ws.length:=by rw[hw.1];omega
 refine⟨tY (by simpa using hw.1) fun i hi=> ?_,fun k hk=> ?_⟩
 ·rw[px];split
  ·omega
  ·have:=tX hw i;omega
 ·unfold bit wd;rw[px];by_cases yK:k / 64=m / 64
  ·rw[if_pos ⟨yK,hm⟩,Int.toNat_natCast,h3 _ (by omega),rQ]
   have:decide (m%64=k%64)=decide ((m:Int)=(k:Int)):=by
    apply decide_eq_decide.2;omega
   rw[this,yK];rfl
  ·rw[if_neg (fun h=>yK h.1)];have:decide ((m:Int)=(k:Int))=false:=decide_eq_false (by omega);rw[this];rcases uy with rfl|rfl<;>simp[opb]
theorem pA{ws:List Int}(hw:okW ws)(n:Int):okW (dM ws n)∧∀k,k<1024→bit (dM ws n) k=(bit ws k||decide (n=(k:Int))):=by
 unfold dM;by_cases h:0≤n∧n<1024
 ·rw[if_pos (kE.2 h)];exact ahM .or (.inl rfl) hw h
 ·rw[if_neg (fun h2=>h (kE.1 h2))];refine⟨hw,fun k hk=> ?_⟩;rw[decide_eq_false (by omega),Bool.or_false]
theorem aak{ws:List Int}(hw:okW ws)(n:Int):okW (dG ws n)∧∀k,k<1024→bit (dG ws n) k=(bit ws k&& !decide (n=(k:Int))):=by
 unfold dG;by_cases h:0≤n∧n<1024
 ·rw[if_pos (kE.2 h)];exact ahM .andNot (.inr rfl) hw h
 ·rw[if_neg (fun h2=>h (kE.1 h2))];refine⟨hw,fun k hk=> ?_⟩;rw[decide_eq_false (by omega)];simp
theorem akp(w j:Nat):w &&& 2^j=if w.testBit j=true then 2^j else 0:=by
 apply Nat.eq_of_testBit_eq;intro i;rw[Nat.testBit_and,rQ];by_cases h:j=i
 ·subst h;cases h2:w.testBit j
  ·simp
  ·simp[rQ]
 ·cases h2:w.testBit j
  ·simp[h]
  ·simp[rQ,h]
theorem adB{ws:List Int}(hw:okW ws)(n:Int):lP ws n=(decide (0≤n∧n<1024)&&bit ws n.toNat):=by
 unfold lP;by_cases h:0≤n∧n<1024
 ·rw[show gP n=true from kE.2 h,decide_eq_true h];obtain⟨e1,e2,e3⟩:=aaj h;rw[e1,e3,Int.toNat_natCast];have hb:=tX hw (n.toNat / 64);rw[hb.2];have:=qB _ _ hb.1 e2;unfold ub at this;rw[this,akp];unfold bit;have hp:(0:Nat)<2^(n.toNat%64):=Nat.two_pow_pos _;generalize (2:Nat)^(n.toNat%64)=p at *;cases(wd ws (n.toNat / 64)).testBit (n.toNat%64)
  ·rfl
  ·rw[if_pos rfl];simp;omega
 ·rw[show gP n=false from by simp[gP];omega,decide_eq_false h];rfl
theorem tZ(n i:Int):∃m:Nat,m≤64∧afb n i=m∧qA n i=((2^m - 1:Nat):Int):=by
 obtain⟨h0,h1⟩:=tW n i;obtain⟨m,hm⟩:=Int.eq_ofNat_of_zero_le h0;refine⟨m,by omega,hm, ?_⟩;unfold qA;rw[hm,Int.toNat_natCast,show IntKind.u64.bits=64 from rfl,Nat.min_eq_left (by omega),Int.one_mul];show((2:Int)^m%18446744073709551616 - 1)%18446744073709551616=_;have hp:=Nat.two_pow_pos m;by_cases h64:m=64
 ·subst h64;decide
 ·have h2:(2:Nat)^m<2^64:=Nat.pow_lt_pow_right (by omega) (by omega);rw[show(2:Int)^m=((2^m:Nat):Int)from by simp];generalize (2:Nat)^m=p at *;omega
theorem cq(n:Int):okW (aY n)∧∀k,k<1024→bit (aY n) k=decide ((k:Int)<n):=by
 have hg:∀i:Nat,i<16→(aY n).getD i 0=qA n i:=fun i hi=>by simp[aY,List.getD,hi]
 refine⟨tY (by simp[aY]) fun i hi=> ?_,fun k hk=> ?_⟩
 ·rw[hg i hi];obtain⟨m,h1,_,h2⟩:=tZ n i;rw[h2];have:(2:Nat)^m≤2^64:=Nat.pow_le_pow_right (by omega) h1;omega
 ·unfold bit wd;rw[hg _ (by omega)];obtain⟨m,h1,h3,h2⟩:=tZ n ((k / 64:Nat):Int);rw[h2,Int.toNat_natCast,Nat.testBit_two_pow_sub_one];apply decide_eq_decide.2;unfold afb nN imax at h3;split at h3<;>(split at h3<;>(split at h3<;>split at h3<;>omega))
end Bx
namespace Bx
open Go Go.Sx Go.Proofs
abbrev s35:=cp [tU] [bB] (fun(x,())=>[(0:Int)≤x∧x<(18446744073709551616:Int)]) (fun(x,())=>(((pc 64 (Int.toNat x):Nat):Int),()))
def aok:aH:=[(137,s35)]
def aqD:List (Nat×Norm):=[(3,⟨[],[3,6,7],0,[]⟩)]
noncomputable def c14(ws:List Int)(n i:Int):bw:=⟨sl 16 [(3,.s (.int .i64 n)),(6,.ints .u64 16 ws),(7,.s (.int .i64 i))],[],hd Tryz.f93 3,{}⟩
theorem aol(ws:List Int):run P aok.sum Tryz.f93 aqD (start Tryz.f93 [.ints .u64 16 ws] [])=
 Tree.at (.mk (sl 16 [(3,.s (.int .i64 0)),(6,.ints .u64 16 ws),(7,.s (.int .i64 0))]) [] (hd Tryz.f93 3) (.mk none false 0 [] 0)):=by kernel_rfl
theorem aom(ws:List Int)(n i:Int):run P aok.sum Tryz.f93 aqD (c14 ws n i)=
 Tree.ite (decide (i<16)) (.need ((0:Int)≤i) (.need (i<(↑(16:Nat):Int)) (.need ((0:Int)≤ws.getD i.toNat (0:Int)∧ws.getD i.toNat (0:Int)<18446744073709551616) (.need (ay (n+(↑(pc 64 (ws.getD i.toNat 0).toNat):Int))) (.need (ay (i+1)) (.at (.mk (sl 16 [(3,.s (.int .i64 (n+(↑(pc 64 (ws.getD i.toNat 0).toNat):Int)))),(6,.ints .u64 16 ws),(7,.s (.int .i64 (i+1)))]) [] (hd Tryz.f93 3) (.mk none false 0 [] 0)))))))) (.ret [] (.s (.int .i64 n))):=by kernel_rfl
def aal(x:Int):Int:=(Lib.ctz 64 x.toNat:Nat)
abbrev s34:=cp [tU] [bB] (fun(x,())=>[(0:Int)≤x∧x<(18446744073709551616:Int)]) (fun(x,())=>(aal x,()))
abbrev s13:=cp [bB] [dJ] (fun _=>[]) (fun(n,())=>(aY n,()))
abbrev s21:=cp [dJ,dJ] [dJ] (fun _=>[]) (fun(a,b,())=>(bN .andNot a b,()))
def aon:aH:=[(64,s13),(66,s21),(131,s34)]
def aqE:List (Nat×Norm):=[(6,⟨[],[17,18],0,[]⟩)]
noncomputable def c12(ws:List Int)(i:Int):bw:=⟨sl 30 [(17,.ints .u64 16 ws),(18,.s (.int .i64 i))],[],hd Tryz.f83 6,{}⟩
theorem aoo(ws:List Int)(n:Int):run P aon.sum Tryz.f83 aqE (start Tryz.f83 [.ints .u64 16 ws,.s (.int .i64 n)] [])=
 Tree.ite (decide (imax n (0:Int)≥1024)) (.ret [.own [.ints .u64 16 ws] 37] (.bg [.s (.aK .i64 0),.s (.aC false)])) (.at (.mk (sl 30 [(17,.ints .u64 16 (bN BinOp.andNot ws (aY (imax n 0)))),(18,.s (.int .i64 0))]) [] (hd Tryz.f83 6) (.mk none false 0 [] 0))):=by kernel_rfl
theorem aop(ws:List Int)(i:Int):run P aon.sum Tryz.f83 aqE (c12 ws i)=
 Tree.ite (decide (i<16)) (.need ((0:Int)≤i) (.need (i<(↑(16:Nat):Int)) (.ite (ws.getD i.toNat (0:Int) !=0) (.need (ay (i*64)) (.need ((0:Int)≤ws.getD i.toNat (0:Int)∧ws.getD i.toNat (0:Int)<18446744073709551616) (.need (ay (i*64+aal (ws.getD i.toNat 0))) (.ret [] (.bg [.s (.int .i64 (i*64+aal (ws.getD i.toNat 0))),.s (.aC true)]))))) (.need (ay (i+1)) (.at (.mk (sl 30 [(17,.ints .u64 16 ws),(18,.s (.int .i64 (i+1)))]) [] (hd Tryz.f83 6) (.mk none false 0 [] 0))))))) (.ret [] (.bg [.s (.aK .i64 0),.s (.aC false)])):=by kernel_rfl
def jM:List Int→Int→Option Int
 |[],_=>none
 |w::ws,i=>if w≠0 then some (i*64+aal w)else jM ws (i+1)
def ua(ws:List Int)(n:Int):Option Int:=if imax n 0≥1024 then none else jM (bN .andNot ws (aY (imax n 0))) 0
def bS(ws:List Int)(n:Int):Int:=(ua ws n).getD 0
def fV(ws:List Int)(n:Int):Bool:=(ua ws n).isSome
abbrev s12:=cp [dJ,bB] [bB,c9] (fun(ws,_,())=>[okW ws]) (fun(ws,n,())=>(bS ws n,fV ws n,()))
def fr(b:Nat→Bool)(m:Nat):List Nat:=(List.range m).filter b
def ace(ws:List Int):List Nat:=fr (bit ws) 1024
theorem pB(b:Nat→Bool)(m:Nat):fr b (m+1)=fr b m++(if b m=true then [m]else []):=by
 unfold fr;rw[List.range_succ,List.filter_append];cases h:b m<;>simp[h]
theorem afd(b:Nat→Bool)(m:Nat):(fr b m).length≤m:=by
 have:=List.length_filter_le b (List.range m);rwa[List.length_range]at this
theorem aam{x:Nat}(h0:x≠0)(h:x<18446744073709551616):Lib.ctz 64 x<64∧x.testBit (Lib.ctz 64 x)=true∧∀c,c<Lib.ctz 64 x→x.testBit c=false:=by
 unfold Lib.ctz;rw[if_neg h0];obtain⟨m,h1,h2⟩:=Lib.ctzFrom_spec 64 x (by omega) h;generalize Lib.ctzFrom 64 x=e at *;refine⟨h2, ?_,fun c hc=> ?_⟩
 ·rw[h1,Nat.testBit_two_pow_mul];simp
 ·rw[h1,Nat.testBit_two_pow_mul];simp;omega
theorem pC : ∀ (l : List Int) (i : Int), (∀ w ∈ l, 0 ≤ w ∧ w < 18446744073709551616) →
    match jM l i with
    | some v => ∃ j c : Nat, j < l.length ∧ c < 64 ∧ v = (i + j) * 64 + c ∧ (l.getD j 0).toNat.testBit c = true ∧ (∀ c', c' < c → (l.getD j 0).toNat.testBit c' = false) ∧ ∀ j', j' < j → l.getD j' 0 = 0
    | none => ∀ j, l.getD j 0 = 0
  | [], i, _ => fun j => by simp
  | w :: l, i, h => by
    unfold jM;have hw := h w (by simp);by_cases h0 : w ≠ 0
    · rw [if_pos h0];obtain ⟨h1, h2, h3⟩ := aam (x := w.toNat) (by omega) (by omega);exact ⟨0, Lib.ctz 64 w.toNat, by simp, h1, by simp [aal], by simpa using h2, by simpa using h3, fun j' hj => by omega⟩
    · rw [if_neg h0];have ih := pC l (i + 1) (fun x hx => h x (by simp [hx]));split
      · rename_i v hv;rw [hv] at ih;obtain ⟨j, c, h1, h2, h3, h4, h5, h6⟩ := ih;refine ⟨j + 1, c, by simp; omega, h2, by rw [h3]; simp; omega, by simpa using h4, by simpa using h5, fun j' hj => ?_⟩;cases j' with
        | zero => simp; omega
        | succ j' => simpa using h6 j' (by omega)
      · rename_i hv;rw [hv] at ih;intro j;cases j with
        | zero => simp; omega
        | succ j => simpa using ih j
theorem acf{ws:List Int}(hw:okW ws){n v:Int}(h:ua ws n=some v):∃p:Nat,v=(p:Int)∧p<1024∧bit ws p=true∧n≤(p:Int)∧∀k:Nat,k<p→n≤(k:Int)→bit ws k=false:=by
 unfold ua at h;split at h
 ·cases h
 ·rename_i h0;obtain⟨h1,h2⟩:=lz (.inr (.inr rfl)) hw (cq (imax n 0)).1;have hs:=pC _ 0 h1.2;rw[h]at hs;obtain⟨j,c,g1,g2,g3,g4,g5,g6⟩:=hs;rw[h1.1]at g1
  have hm:∀k,k<1024→bit (bN .andNot ws (aY (imax n 0))) k=(bit ws k&& !decide ((k:Int)<imax n 0)):=fun k hk=>by
   rw[h2 k hk,(cq (imax n 0)).2 k hk];rfl
  have hp:bit (bN .andNot ws (aY (imax n 0))) (64*j+c)=true:=by
   unfold bit wd;rw[show(64*j+c) / 64=j from by omega,show(64*j+c)%64=c from by omega];exact g4
  have ahG:∀k,k<64*j+c→bit (bN .andNot ws (aY (imax n 0))) k=false:=fun k hk=>by
   unfold bit wd;by_cases hkj:k / 64=j
   ·rw[hkj];exact g5 _ (by omega)
   ·rw[g6 (k / 64) (by omega)];simp
  have at1:imax n 0=n∧0≤n∨imax n 0=0∧n<0:=by unfold imax;split<;>omega
  have hp2:=hp;rw[hm _ (by omega)]at hp2;simp only[Bool.and_eq_true,Bool.not_eq_true',decide_eq_false_iff_not]at hp2;refine⟨64*j+c,by rw[g3];simp;omega,by omega,hp2.1,by omega,fun k hk hn=> ?_⟩;have:=ahG k hk;rw[hm k (by omega)]at this;simp only[Bool.and_eq_false_iff,Bool.not_eq_false',decide_eq_true_eq]at this;rcases this with h|h
  ·exact h
  ·omega
def oc(ws:List Int):Int:=((ws.map fun w=>pc 64 w.toNat).sum:Nat)
theorem ahN{Z:aW}:dr P Z 93 [dJ] [bB] (fun(ws,())=>[okW ws]) (fun(ws,())=>(oc ws,())):=by
 refine aB Tryz.func93 (by kernel_rfl) (by kernel_rfl) ?_;rintro⟨(ws:List Int),⟨⟩⟩ _ ⟨(hw:okW ws),_⟩ X hX hz;have hT:aok.Ok P Z:=aH.Ok.cons ako.sum aH.Ok.nil;refine go hz hX hT Tryz.func93 (aol ws) ?_
 have bound:∀l:List Int,(l.map fun w=>pc 64 w.toNat).sum≤64*l.length:=fun l=>by
  induction l with
  |nil=>simp
  |cons a l ih=>have:=jt 64 a.toNat;simp only[List.map_cons,List.sum_cons,List.length_cons];omega
 refine na (fun(i:Int)=>c14 ws (((ws.take i.toNat).map fun w=>pc 64 w.toNat).sum:Nat) i) (fun i=>0≤i∧i≤16) (fun i=>(16 - i).toNat) ?_ 0 ⟨by omega,by omega⟩;rintro i ⟨(h0:0≤i),(h1:i≤16)⟩ ih;have hl:=hw.1;have hb:=bound (ws.take i.toNat);rw[List.length_take]at hb;refine go hz hX hT Tryz.func93 (aom ws _ i) ⟨fun h=> ?_,fun h=> ?_⟩
 ·have hi:i<(16:Int):=of_decide_eq_true h;have hm:=hw.2 (ws.getD i.toNat 0) (by rw[List.getD,List.getElem?_eq_getElem (by omega)];exact List.getElem_mem (by omega));have hp:=jt 64 (ws.getD i.toNat 0).toNat;refine⟨h0,hi,hm,⟨by omega,by omega⟩,⟨by omega,by omega⟩, ?_⟩;have:=ih (i+1) ⟨by omega,by omega⟩ (by omega);rw[show(i+1).toNat=i.toNat+1 from by omega,wi ws i.toNat 0 (by omega)]at this;rw[List.map_append,List.sum_append]at this;simp only[List.map_cons,List.map_nil,List.sum_cons,List.sum_nil,Nat.add_zero]at this;rw[Int.natCast_add]at this;exact this
 ·have hi:¬i<(16:Int):=of_decide_eq_false h;rw[List.take_of_length_le (by omega)];exact aV (oc ws,()) rfl (by kernel_rfl)
theorem wk:∀(n x:Nat),pc n x=((List.range n).filter x.testBit).length
 |0,x=>rfl
 |n+1,x=>by
  rw[pc,wk n (x / 2),List.range_succ_eq_map,List.filter_cons,List.filter_map];have e:(x.testBit∘Nat.succ)=(x / 2).testBit:=by funext i;simp[Nat.testBit_succ]
  rw[e,Nat.testBit_zero];rcases Nat.mod_two_eq_zero_or_one x with h|h
  ·rw[h];simp
  ·rw[h];simp;omega
theorem akq{ws:List Int}(hl:ws.length=16):oc ws=((ace ws).length:Nat):=by
 have:∀j,j≤16→(fr (bit ws) (64*j)).length=((ws.take j).map fun w=>pc 64 w.toNat).sum:=by
  intro j
  induction j with
  |zero=>intro _;rfl
  |succ j ih=>
   intro hj;rw[wi ws j 0 (by omega),List.map_append,List.sum_append,←ih (by omega)];unfold fr;rw[show 64*(j+1)=64*j+64 from by omega,List.range_add,List.filter_append,List.length_append,List.filter_map,List.length_map];simp only[List.map_cons,List.map_nil,List.sum_cons,List.sum_nil,Nat.add_zero];rw[wk];congr 2;apply List.filter_congr;intro i hi;have hi:=List.mem_range.1 hi;simp only[Function.comp,bit,wd];rw[show(64*j+i) / 64=j from by omega,show(64*j+i)%64=i from by omega]
 unfold oc ace;have h:=this 16 (by omega);rw[show 64*16=1024 from rfl]at h;rw[h,List.take_of_length_le (by omega)]
theorem akr{Z:aW}(h34:kZ P Z 131 s34):dr P Z 83 [dJ,bB] [bB,c9] (fun(ws,_,())=>[okW ws]) (fun(ws,n,())=>(bS ws n,fV ws n,())):=by
 refine aB Tryz.func83 (by kernel_rfl) (by kernel_rfl) ?_;rintro⟨(ws:List Int),(n:Int),⟨⟩⟩ _ ⟨(hw:okW ws),_⟩ X hX hz;have hT:aon.Ok P Z:=aH.Ok.cons py.sum (aH.Ok.cons rP.sum (aH.Ok.cons h34 aH.Ok.nil));refine go hz hX hT Tryz.func83 (aoo ws n) ⟨fun h=> ?_,fun h=> ?_⟩
 ·have h:imax n 0≥1024:=of_decide_eq_true h;refine aV (0,false,()) ?_ (by kernel_rfl);simp only[bS,fV,ua,if_pos h];rfl
 ·have h:¬imax n 0≥1024:=of_decide_eq_false h;have e:ua ws n=jM (bN .andNot ws (aY (imax n 0))) 0:=by unfold ua;rw[if_neg h]
  have hr:=(lz (.inr (.inr rfl)) hw (cq (imax n 0)).1).1;simp only[bS,fV,e];generalize bN BinOp.andNot ws (aY (imax n 0))=rest at *;refine na (fun(i:Int)=>c12 rest i) (fun i=>0≤i∧i≤16∧jM rest 0=jM (rest.drop i.toNat) i) (fun i=>(16 - i).toNat) ?_ 0 ⟨by omega,by omega,rfl⟩;rintro i ⟨(h0:0≤i),(h1:i≤16),h2⟩ ih;have hl:=hr.1;refine go hz hX hT Tryz.func83 (aop rest i) ⟨fun h=> ?_,fun h=> ?_⟩
  ·have hi:i<(16:Int):=of_decide_eq_true h
   have hd:rest.drop i.toNat=rest.getD i.toNat 0::rest.drop (i.toNat+1):=by
    rw[List.drop_eq_getElem_cons (by omega),List.getD,List.getElem?_eq_getElem (by omega)];rfl
   have hm:=hr.2 (rest.getD i.toNat 0) (by rw[List.getD,List.getElem?_eq_getElem (by omega)];exact List.getElem_mem (by omega));rw[hd,jM]at h2;refine⟨h0,hi,fun h3=> ?_,fun h3=>⟨⟨by omega,by omega⟩,ih (i+1) ⟨by omega,by omega, ?_⟩ (by omega)⟩⟩
   ·have h3:rest.getD i.toNat 0≠0:=by simpa using h3
    rw[if_pos h3]at h2;have hc:=(aam (x:=(rest.getD i.toNat 0).toNat) (by omega) (by omega)).1;refine⟨⟨by omega,by omega⟩,hm,⟨by unfold aal;omega,by unfold aal;omega⟩, ?_⟩;rw[h2];exact aV _ rfl (by kernel_rfl)
   ·have h3:¬rest.getD i.toNat 0≠0:=by simpa using h3
    rw[if_neg h3]at h2;rw[h2,show(i+1).toNat=i.toNat+1 from by omega]
  ·have hi:¬i<(16:Int):=of_decide_eq_false h;rw[List.drop_eq_nil_of_le (by omega)]at h2;rw[h2];exact aV (0,false,()) rfl (by kernel_rfl)
end Bx
namespace Ts
open Go Go.Sx Go.Proofs Lf
abbrev Th:=Ds.Th
abbrev As:=Ds.As
abbrev Ws:=List Int
def fF(th:Th)(m:As)(n deep:Int):Int:=if deep>16 then 4 else if Ds.n9 th m n=0 then uU (Ds.j6 th m n)else Ds.n9 th m n
def qD(th:Th)(m:As)(n deep:Int):Bool:=decide (deep≤16)&&decide (Ds.n9 th m n=0)
def jy(th:Th)(m:As)(n deep:Int):Bool:=qD th m n deep&&jL (Ds.j6 th m n)
def bT(th:Th)(m:As)(n deep:Int):List En:=if qD th m n deep=true then oa (Ds.j6 th m n)else []
def aQ(th:Th)(m:As)(n deep:Int):List Br:=if qD th m n deep=true then nq (Ds.j6 th m n)else []
def gX(l:Bool)(es:List En)(bs:List Br):ByteArray:=if l=true then(es.getD 0 dE).1 else(bs.getD 0 dB).1
def aa:List Br→List Br
 |[]=>[]
 |b::r=>(ByteArray.empty,b.2.1,())::r
abbrev Wr:Type:=As×Int×Ws×Ws×Br×Int
def bU(th:Th)(m:As)(fu:Int)(fr fs:Ws)(l:Bool)(es:List En)(bs:List Br):Wr:=
 if Bx.fV fr 0=false then(m,fu,fr,fs,dB,41)
 else if gM l es (aa bs)≠0 then(m,fu,fr,fs,dB,gM l es (aa bs))
 else if(Ds.nm th m fu (Bx.bS fr 0) (dX l es (aa bs))).2.2≠0 then
  ((Ds.nm th m fu (Bx.bS fr 0) (dX l es (aa bs))).1,(Ds.nm th m fu (Bx.bS fr 0) (dX l es (aa bs))).2.1,fr,fs,dB,(Ds.nm th m fu (Bx.bS fr 0) (dX l es (aa bs))).2.2)
 else((Ds.nm th m fu (Bx.bS fr 0) (dX l es (aa bs))).1,(Ds.nm th m fu (Bx.bS fr 0) (dX l es (aa bs))).2.1,Bx.dG fr (Bx.bS fr 0),Bx.dM fs (Bx.bS fr 0),(gX l es bs,Bx.bS fr 0,()),0)
abbrev Wrs:Type:=As×Int×Ws×Ws×List Br×Int
def two(a:Wr)(b:Wr):Wrs:=(b.1,b.2.1,b.2.2.1,b.2.2.2.1,[a.2.2.2.2.1,b.2.2.2.2.1],b.2.2.2.2.2)
def bJ(th:Th)(m:As)(fu:Int)(fr fs:Ws)(l:Bool)(es:List En)(bs:List Br):Wrs:=
 if es.length+bs.length=0 then(m,fu,fr,fs,[],0)
 else if cH es (aa bs)≤254 then
  let a:=bU th m fu fr fs l es (aa bs)
  (a.1,a.2.1,a.2.2.1,a.2.2.2.1,[a.2.2.2.2.1],a.2.2.2.2.2)
 else if spC l es (aa bs)≠0 then(m,fu,fr,fs,[],spC l es (aa bs))
 else
  let a:=bU th m fu fr fs (cU l es (aa bs)) (bF l es (aa bs)) (bG l es (aa bs))
  if a.2.2.2.2.2≠0 then(a.1,a.2.1,a.2.2.1,a.2.2.2.1,[],a.2.2.2.2.2)
  else two a (bU th a.1 a.2.1 a.2.2.1 a.2.2.2.1 (cU l es (aa bs)) (fv l es (aa bs)) (fw l es (aa bs)))
def doE(key:ByteArray)(op:Option ByteArray)(l:List En):List En:=match op with
 |some val=>fx l key val
 |none=>if lr l key=true then dY l key else []
def doC(key:ByteArray)(op:Option ByteArray)(l:List En):Int:=match op with
 |some _=>0
 |none=>if lr l key=true then 0 else 5
def jB(fs:Ws)(n:Int):Ws:=if Bx.lP fs n=true then Bx.dG fs n else fs
def ry(fs gn:Ws)(n:Int):Ws:=if Bx.lP fs n=true then Bx.dM gn n else gn
abbrev Chg:Type:=As×Int×Ws×Ws×Ws×List Br×Int
def ju(gn:Ws)(w:Wrs):Chg:=(w.1,w.2.1,w.2.2.1,w.2.2.2.1,gn,w.2.2.2.2.1,w.2.2.2.2.2)
def uc(k:ByteArray):List Br→List Br
 |[]=>[]
 |b::r=>(k,b.2.1,())::r
def x6(th:Th)(key:ByteArray)(op:Option ByteArray):Nat→As→Int→Ws→Ws→Ws→Int→Int→Chg
 |0,m,fu,fr,fs,gn,_,_=>(m,fu,fr,fs,gn,[],4)
 |f+1,m,fu,fr,fs,gn,n,deep=>
  if fF th m n deep≠0 then(m,fu,fr,fs,gn,[],fF th m n deep)
  else if jy th m n deep=true then
   if doC key op (bT th m n deep)≠0 then(m,fu,fr,fs,gn,[],doC key op (bT th m n deep))
   else ju (ry fs gn n) (bJ th m fu fr (jB fs n) true (doE key op (bT th m n deep)) (aQ th m n deep))
  else if aQ th m n deep=[]then(m,fu,fr,fs,gn,[],4)
  else
   let k:=(aX (aQ th m n deep) key).toNat;let r:=x6 th key op f m fu fr fs gn ((aQ th m n deep).getD k dB).2.1 (deep+1)
   if r.2.2.2.2.2.2≠0 then(r.1,r.2.1,r.2.2.1,r.2.2.2.1,r.2.2.2.2.1,[],r.2.2.2.2.2.2)
   else ju (ry r.2.2.2.1 r.2.2.2.2.1 n) (bJ th r.1 r.2.1 r.2.2.1 (jB r.2.2.2.1 n) false (bT th m n deep)
    ((aQ th m n deep).take k++uc ((aQ th m n deep).getD k dB).1 r.2.2.2.2.2.1++(aQ th m n deep).drop (k+1)))
end Ts
namespace Bx
open Go Go.Sx Go.Proofs Go.RowKit
set_option maxHeartbeats 1000000 in
theorem aks(x k idx:Nat)(w:World)(hx0:((x:Int)==0)=false)
 (key:IntKind.u64.wrap (bits BinOp.and IntKind.u64 (x:Int) (IntKind.u64.wrap (-(x:Int)))*285870213051353865) / 288230376151711744=(idx:Int))
 (hi:idx<64) (hk:k<64) (oM:w.cell? ⟨0,idx,none⟩=some (.int .u8 k)):
 Calls Tryz.prog 131 #[.int .u64 x] w fun e w'=>e=.returned (.int .i64 k)∧w'=w:=by
 go_enter Tryz.func131,Tryz.ntmps131
 go_wp2_with (simp only[key])
 go_ret
 exact⟨rfl,rfl⟩
set_option maxHeartbeats 1000000 in
theorem akt(w:World):
 Calls Tryz.prog 131 #[.int .u64 0] w fun e w'=>e=.returned (.int .i64 64)∧w'=w:=by
 go_enter Tryz.func131,Tryz.ntmps131
 go_wp2
 go_ret
 exact⟨rfl,rfl⟩
theorem aoq(w:World)(h:TabAt 0 Lib.deBruijn64tab w):0<w.heap.size:=by
 have h0:=h 0 (by decide);rcases Nat.lt_or_ge 0 w.heap.size with h1|h1
 ·exact h1
 ·simp[World.cell?,Array.getElem?_eq_none h1]at h0
def bO:aW:=⟨[0],TabAt 0 Lib.deBruijn64tab,fun w h b hb=>by rw[List.mem_singleton.1 hb];exact aoq w h,fun w w' h k j hj=>by rw[kK (k 0 (by simp))];exact h j hj⟩
theorem aor(x:Nat)(hx:x<18446744073709551616)(w:World)(hT:TabAt 0 Lib.deBruijn64tab w):
 Calls Tryz.prog 131 #[.int .u64 x] w fun e w'=>e=.returned (.int .i64 (Lib.ctz 64 x))∧w'=w:=by
 by_cases hx0:x=0
 ·subst hx0;exact akt w
 ·obtain⟨ahG,hk⟩:=Lib.lowest_bit 64 x hx0 hx;obtain⟨hi,as6⟩:=Lib.deBruijn64_at _ hk;have oM:=hT _ hi;rw[as6]at oM;exact aks x _ _ w (by simp;omega) (tz64_key x _ hx hx0 ahG) hi hk oM
theorem aqF:dr P bO 131 [tU] [bB] (fun(x,())=>[(0:Int)≤x∧x<(18446744073709551616:Int)]) (fun(x,())=>(aal x,())):=by
 rintro⟨(x:Int),⟨⟩⟩ _ ⟨(hx:0≤x∧x<18446744073709551616),_⟩ G w vs hG hz hd;obtain⟨n,rfl⟩:=Int.eq_ofNat_of_zero_le hx.1;obtain⟨v,rest,rfl,h1,h2⟩:=aA.1 hd;obtain rfl:=aU.1 h2
 have h3:v=.int .u64 n:=by
  have:=ak (x:=.int .u64 n) (by simp) h1;cases this;rfl
 subst h3;refine(aor n (by omega) w hz).mono ?_;rintro e w' ⟨rfl,rfl⟩;refine⟨_,rfl,Good.val ⟨fun id o ho=>by simp at ho,fun i j oi oj b hi=>by simp at hi,fun b hb=> ?_,hG⟩ ?_⟩
 ·obtain⟨id,o,ho,_⟩:=hb;cases ho
 ·exact az (.int .i64 _)
end Bx
namespace Lf
open Go Go.Sx Go.Proofs
abbrev gG:Ty:=.st [.bool,.mD (.ad cE) eE,.mD (.ad cB) eB]
abbrev al4(l:Bool)(r:Int×List En×List Br):AL [gG,bB]:=((decide (r.1=0)&&l,r.2.1,r.2.2,()),r.1,())
abbrev rf(s:ByteArray):AL [gG,bB]:=((jL s,oa s,nq s,()),uU s,())
theorem aku{Z:aW}:dr P Z 125 [dI] [gG,bB] (fun _=>[]) (fun(s,())=>((jL s,oa s,nq s,()),uU s,())):=by
 refine aB Tryz.func125 (by kernel_rfl) (by kernel_rfl) ?_;rintro⟨(s0:ByteArray),⟨⟩⟩ _ _ X hX hz;show Safe P 125 X (Ends [gG,bB] (rf s0)) _;have loop:∀(l:Bool) (n:Nat) (s:ByteArray) (es:List En) (bs:List Br),s.size≤n→es.length+bs.length+s.size≤254→al4 l (jY l n s es bs)=rf s0→
  Safe P 125 X (Ends [gG,bB] (rf s0)) (aqg s l es bs):=by
  intro l n
  induction n with
  |zero=>
   intro s es bs hn hb hy;obtain rfl:=ky (Nat.le_zero.1 hn);refine go hz hX jb Tryz.func125 (adr ByteArray.empty l es bs) ⟨fun h=>absurd h (by simp),fun _=>⟨fun h=> ?_,fun h=> ?_⟩⟩
   ·refine aV ((false,[],[],()),4,()) ?_ (by kernel_rfl);rw[←hy,jY,if_neg (by simpa using h)];rfl
   ·refine aV ((l,es,bs,()),0,()) ?_ (by kernel_rfl);rw[←hy,jY,if_pos (by simpa using h)];rfl
  |succ n ih=>
   intro s es bs hn hb hy;refine go hz hX jb Tryz.func125 (adr s l es bs) ⟨fun h=> ?_,fun h=> ?_⟩
   ·have h:s≠ByteArray.empty:=by simpa using h
    have bad:jY l (n+1) s es bs=(8,[],[])→∀(s':ByteArray) (kp:List En) (nD:List Br),Safe P 125 X (Ends [gG,bB] (rf s0)) (ahi s' l kp nD false):=fun e s' kp nD=>by
     refine go hz hX jb Tryz.func125 (zZ s' l kp nD false) ⟨fun _=> ?_,fun h=>by cases h⟩;refine aV ((false,[],[],()),8,()) ?_ (by kernel_rfl);rw[←hy,e];rfl
    have cont:∀(s':ByteArray) (kp:List En) (nD:List Br),s'.size≤n→kp.length+nD.length+s'.size≤254→al4 l (jY l n s' kp nD)=rf s0→Safe P 125 X (Ends [gG,bB] (rf s0)) (ahi s' l kp nD true):=fun s' kp nD h1 h2 h3=>by
     refine go hz hX jb Tryz.func125 (zZ s' l kp nD true) ⟨fun h=>(by cases h),fun _=>ih s' kp nD h1 h2 h3⟩
    have hr:=fun hB=>pr (s:=s) hB;refine⟨rfl,rfl,fun hl=>⟨fun hB=>⟨rfl,rfl,by omega, ?_⟩,fun hB=> ?_⟩,fun hl=>⟨fun hB=>⟨rfl,rfl,by decide,fun h2=> ?_,fun h2=> ?_⟩,fun hB=> ?_⟩⟩
    ·subst hl;have hr:=hr hB;cases h2:xN (hU s)
     ·exact bad (by rw[jY,if_neg h,if_neg (by simp[hB]),if_pos rfl,if_neg (by simp[h2])]) _ _ _
     ·have:=pr h2;exact cont _ _ _ (by omega) (by simp only[List.length_append,List.length_cons,List.length_nil];omega) (by rw[←hy,jY,if_neg h,if_neg (by simp[hB]),if_pos rfl,if_pos h2])
    ·exact⟨fun h=>(by rw[hB]at h;cases h),fun _=>by rw[hB];exact bad (by rw[jY,if_neg h,if_pos hB]) _ _ _⟩
    ·subst hl;have hr:=hr hB;have e1:=tN (by decide) h2;have e2:=z6 (by decide) h2;have b0:=cO (jX 2 (hU s)) 0;have b1:=cO (jX 2 (hU s)) 1;refine⟨by decide,by omega,⟨by show _≤aG _ 0;omega,by show aG _ 0≤_;omega⟩,by decide,by decide,by omega,⟨by show _≤aG _ 1;omega,by show aG _ 1≤_;omega⟩,by omega, ?_⟩;rw[h2];exact cont _ _ _ (by omega) (by simp only[List.length_append,List.length_cons,List.length_nil];omega) (by rw[←hy,jY,if_neg h,if_neg (by simp[hB]),if_neg (by simp),if_pos h2];rfl)
    ·subst hl;rw[h2];exact bad (by rw[jY,if_neg h,if_neg (by simp[hB]),if_neg (by simp),if_neg (by simp[h2])]) _ _ _
    ·rw[hB];exact bad (by rw[jY,if_neg h,if_pos hB]) _ _ _
   ·have h:s=ByteArray.empty:=by simpa using h
    refine⟨fun h2=> ?_,fun h2=> ?_⟩
    ·refine aV ((false,[],[],()),4,()) ?_ (by kernel_rfl);rw[←hy,jY,if_pos h,if_neg (by simpa using h2)];rfl
    ·refine aV ((l,es,bs,()),0,()) ?_ (by kernel_rfl);rw[←hy,jY,if_pos h,if_pos (by simpa using h2)];rfl
 have first:(s0.size:Int)≤254→s0≠ByteArray.empty→¬(aG s0 0≠1∧aG s0 0≠2)→Safe P 125 X (Ends [gG,bB] (rf s0)) (al1 s0):=fun h1 h2 h3=>by
  have hp:0<s0.size:=Nat.pos_of_ne_zero fun e=>h2 (ky e);refine go hz hX jb Tryz.func125 (ahj s0) ⟨by omega,by omega,by omega,by omega,by omega, ?_⟩;have e:pt s0=jY (aG s0 0==1) s0.size (s0.extract 1 s0.size) [] []:=by rw[pt,if_neg (by omega),if_neg h2,if_neg h3]
  refine loop (aG s0 0==1) s0.size (s0.extract 1 s0.size) [] [] (by rw[eQ];omega) (by rw[eQ];simp only[List.length_nil];omega) ?_;rw[←e];rfl
 have err:∀(c:Int) (hc:decide (c=0)=false),pt s0=(c,[],[])→rf s0=((false,[],[],()),c,()):=fun c hc e=>by
  show((decide ((pt s0).1=0)&&(aG s0 0==1),(pt s0).2.1,(pt s0).2.2,()),(pt s0).1,())=_;rw[e,hc];rfl
 refine go hz hX jb Tryz.func125 (ajO s0) ⟨fun h=>aV ((false,[],[],()),40,()) (err 40 rfl ?_) (by kernel_rfl),fun h=>⟨fun h2=>aV ((false,[],[],()),8,()) (err 8 rfl ?_) (by kernel_rfl),fun h2=> ?_⟩⟩
 ·rw[pt,if_pos (of_decide_eq_true h)]
 ·rw[pt,if_neg (of_decide_eq_false h),if_pos (of_decide_eq_true h2)]
 ·have h:=of_decide_eq_false h;have h2:=of_decide_eq_false h2;have hp:0<s0.size:=Nat.pos_of_ne_zero fun e=>h2 (ky e);refine⟨by omega,by omega,fun h3=>⟨by omega,by omega,fun h4=>aV ((false,[],[],()),4,()) (err 4 rfl ?_) (by kernel_rfl),fun h4=>first (by omega) h2 ?_⟩,fun h3=>first (by omega) h2 ?_⟩
  ·have h3:aG s0 0≠1:=by simpa using h3
   have h4:aG s0 0≠2:=by simpa using h4
   rw[pt,if_neg h,if_neg h2,if_pos ⟨h3,h4⟩]
  ·have h4:aG s0 0=2:=by simpa using h4
   exact fun e=>e.2 h4
  ·have h3:aG s0 0=1:=by simpa using h3
   exact fun e=>e.1 h3
end Lf
namespace Go.Sx
open Go
inductive Wk1:AV→AV→Prop
 |refl (a:AV):Wk1 a a
 |bl (b:Bool):Wk1 (.s (.aC b)) (.s (.bool b))
 |il (k:IntKind) (n:Int):Wk1 (.s (.aK k n)) (.s (.int k n))
 |em (c:aL):c.n=0→Wk1 .emp (.s (.ro c))
inductive WkL:List AV→List AV→Prop
 |nil:WkL [] []
 |cons {a b:AV} {l m:List AV}:Wk1 a b→WkL l m→WkL (a::l) (b::m)
inductive Wk2:AV→AV→Prop
 |one {a b:AV}:Wk1 a b→Wk2 a b
 |agg {l m:List AV}:WkL l m→Wk2 (.agg l) (.agg m)
inductive nE:List AV→List AV→Prop
 |nil:nE [] []
 |cons {a b:AV} {l m:List AV}:Wk2 a b→nE l m→nE (a::l) (b::m)
inductive Wk:AV→AV→Prop
 |two {a b:AV}:Wk2 a b→Wk a b
 |bg {l m:List AV}:nE l m→Wk (.bg l) (.bg m)
section
variable{ρ:Nat→Value}{H:aM}{O:Nat→Prop}{w:World}
theorem Wk1.den{a b:AV}(h:Wk1 a b){v:Value}(hd:af ρ H O w a v):af ρ H O w b v:=by
 cases h with
 |refl=>exact hd
 |bl b=>
  have:=ak (by simp) hd;cases this;exact az (.bool _)
 |il k n=>
  have:=ak (by simp) hd;cases this;exact az (.int _ _)
 |em c hc=>
  unfold af at hd;obtain⟨a,rfl⟩:=hd;exact az (rK hc a)
theorem Wk1.abF{a b:AV}(h:Wk1 a b){cs:List Value}(hd:aN ρ H O w a cs):aN ρ H O w b cs:=by
 cases h with
 |refl=>exact hd
 |bl b=>
  unfold aN at hd ⊢;obtain⟨u,rfl,h⟩:=hd;cases h;exact⟨_,rfl,.bool _⟩
 |il k n=>
  unfold aN at hd ⊢;obtain⟨u,rfl,h⟩:=hd;cases h;exact⟨_,rfl,.int _ _⟩
 |em c hc=>
  unfold aN at hd ⊢;obtain⟨u,rfl,a,rfl⟩:=hd;exact⟨_,rfl,rK hc a⟩
theorem WkL.den{l m:List AV}(h:WkL l m):∀{cs:List Value},aq ρ H O w l cs→aq ρ H O w m cs:=by
 induction h with
 |nil=>exact fun hd=>hd
 |cons h1 _ ih=>
  intro cs hd;unfold aq at hd ⊢;obtain⟨c1,c2,e,g1,g2⟩:=hd;exact⟨c1,c2,e,h1.abF g1,ih g2⟩
theorem Wk2.den{a b:AV}(h:Wk2 a b){v:Value}(hd:af ρ H O w a v):af ρ H O w b v:=by
 cases h with
 |one h=>exact h.den hd
 |agg h=>
  unfold af at hd ⊢;obtain⟨cs,e,g⟩:=hd;exact⟨cs,e,h.den g⟩
theorem nE.den{l m:List AV}(h:nE l m):∀{vs:List Value},bI ρ H O w l vs→bI ρ H O w m vs:=by
 induction h with
 |nil=>exact fun hd=>hd
 |cons h1 _ ih=>
  intro vs hd;obtain⟨v,rest,e,g1,g2⟩:=aA.1 hd;exact aA.2 ⟨v,rest,e,h1.den g1,ih g2⟩
theorem Wk.den{a b:AV}(h:Wk a b){v:Value}(hd:af ρ H O w a v):af ρ H O w b v:=by
 cases h with
 |two h=>exact h.den hd
 |bg h=>
  unfold af at hd ⊢;obtain⟨us,e,g⟩:=hd;exact⟨us,e,h.den g⟩
end
theorem aos{X:Type}{S:Spec X}{x:X}{L:List ab}{r:AV}{o o':AV}{h:List ab}(m:Nat)(e:Norm.run ⟨[],[0],m,[]⟩ ⟨[r],L,[],{}⟩=some ⟨[o],h,[],{}⟩)(hm:(S.heap x).length≤m)(hw:Wk o o')(ho:S.out x=o')(hh:S.ez x=h):anx S x L r:=
 ⟨⟨[],[0],m,[]⟩,o,hm,by rw[hh];exact e,fun ρ H O w v hd=>by rw[ho];exact hw.den hd⟩
end Go.Sx
namespace Ts
open Go Go.Sx Go.Proofs Lf
noncomputable abbrev P:Program:=Tryz.prog
abbrev eT:TypeId:=115
abbrev rR(i:Nat)(root:Int)(fr fs gn:Ws):ab:=.own [.ptr i 0,.s (.int .i64 root),.ints .u64 16 fr,.ints .u64 16 fs,.ints .u64 16 gn] eT
abbrev hT(th:Th)(m:As)(fu root:Int)(fr fs gn:Ws):List ab:=[rR 1 root fr fs gn,Ds.uB 2 3 fu,.vec (.ad Ds.cS th) Ds.eS,.map Ds.kS m]
abbrev bE(n:Int):AV:=.s (.int .i64 n)
abbrev aqG:=bZ Ds.sGR Ds.mRd
abbrev aqH:=bZ Ds.sGW Ds.mWr
abbrev aot:=tg [dI] [gG,bB] (fun _=>[]) (fun(s,())=>((jL s,oa s,nq s,()),uU s,()))
def al5:aH:=[(124,aqG),(125,aot)]
theorem as7(th:Th)(m:As)(fu root:Int)(fr fs gn:Ws)(n deep:Int):run P al5.sum Tryz.f77 [] (start Tryz.f77 [.ptr 0 0,bE n,bE deep] (hT th m fu root fr fs gn))=
 Tree.ite (decide (deep>16)) (.ret [.own [.ptr 1 0,.s (.int .i64 root),.ints .u64 16 fr,.ints .u64 16 fs,.ints .u64 16 gn] 115,.own [.vec 2,.ag 3,.s (.int .i64 fu)] 105,.vec (.ad [.arr .u8 64] th) 165,.map (.arr .u8 64) m,.own [.s (.aC false),.emp,.emp] 131] (.bg [.agg [.s (.aC false),.emp,.emp],.s (.aK .i64 4)])) (.need (bn (some [AV.ptr 0 0,.s (.int .i64 n)])) (.need (bn (some [ab.own [.vec 1,.ag 2,.s (.int .i64 fu)] 105,.vec (.ad [.arr .u8 64] th) 165,.map (.arr .u8 64) m])) (.need (Ds.bx th m fu) (.need (ay n) (.ite (Ds.n9 th m n !=0) (.ret [.own [.ptr 1 0,.s (.int .i64 root),.ints .u64 16 fr,.ints .u64 16 fs,.ints .u64 16 gn] 115,.own [.vec 2,.ag 3,.s (.int .i64 fu)] 105,.vec (.ad [.arr .u8 64] th) 165,.map (.arr .u8 64) m,.own [.s (.aC false),.emp,.emp] 131] (.bg [.agg [.s (.aC false),.emp,.emp],.s (.int .i64 (Ds.n9 th m n))])) (.ret [.own [.ptr 1 0,.s (.int .i64 root),.ints .u64 16 fr,.ints .u64 16 fs,.ints .u64 16 gn] 115,.own [.vec 2,.ag 3,.s (.int .i64 fu)] 105,.vec (.ad [.arr .u8 64] th) 165,.map (.arr .u8 64) m,.own [.s (.bool (jL (Ds.j6 th m n))),.s (.ro (.ad [.str,.str] (oa (Ds.j6 th m n)))),.s (.ro (.ad [.str,.int .i64] (nq (Ds.j6 th m n))))] 131] (.bg [.agg [.s (.bool (jL (Ds.j6 th m n))),.s (.ro (.ad [.str,.str] (oa (Ds.j6 th m n)))),.s (.ro (.ad [.str,.int .i64] (nq (Ds.j6 th m n))))],.s (.int .i64 (uU (Ds.j6 th m n)))]))))))):=by kernel_rfl
abbrev XT:Type:=Th×As×Int×Int×Ws×Ws×Ws
abbrev sNo:Spec (XT×Int×Int):=⟨fun(_,n,deep)=>[.ptr 0 0,bE n,bE deep],fun((th,m,fu,root,fr,fs,gn),_,_)=>hT th m fu root fr fs gn,fun((th,m,fu,_),n,_)=>[Ds.bx th m fu,ay n],fun((th,m,fu,root,fr,fs,gn),_,_)=>hT th m fu root fr fs gn,
 fun((th,m,_),n,deep)=>.bg [.agg [.s (.bool (jy th m n deep)),.s (.ro (.ad cE (bT th m n deep))),.s (.ro (.ad cB (aQ th m n deep)))],bE (fF th m n deep)]⟩
theorem ahO{Z:aW}:al5.Ok P Z:=aH.Ok.cons (Ds.ap7.sum Ds.mRd) (aH.Ok.cons aku.tg aH.Ok.nil)
theorem acg{l l':AV}{es bs kp nD:AV}{e e':AV}(h1:Wk1 l l')(h2:Wk1 es kp)(h3:Wk1 bs nD)(h4:Wk1 e e'):Wk (.bg [.agg [l,es,bs],e]) (.bg [.agg [l',kp,nD],e']):=
 .bg (.cons (.agg (.cons h1 (.cons h2 (.cons h3 .nil)))) (.cons (.one h4) .nil))
theorem ng{Z:aW}:fC P Z 77 sNo:=by
 refine xF Tryz.func77 (by kernel_rfl) (fun x=>Nat.le_of_ble_eq_true (by kernel_rfl)) ?_;rintro⟨⟨(th:Th),(m:As),(fu:Int),(root:Int),(fr:Ws),(fs:Ws),(gn:Ws)⟩,(n:Int),(deep:Int)⟩ ⟨(hd:Ds.bx th m fu),(hn:ay n),_⟩ X hX hz;refine Ds.cR hz hX (by intro y hy;cases hy) ahO Tryz.func77 (as7 th m fu root fr fs gn n deep) ⟨fun h=> ?_,fun h=>⟨rfl,rfl,hd,hn,fun h2=> ?_,fun h2=> ?_⟩⟩
 ·have h:=of_decide_eq_true h;have e0:qD th m n deep=false:=by unfold qD;rw[decide_eq_false (by omega),Bool.false_and]
  refine aos 4 (by kernel_rfl) (Nat.le_refl _) (acg (.refl (.s (.bool false))) (.em (.ad cE []) rfl) (.em (.ad cB []) rfl) (.refl (.s (.int .i64 4)))) ?_ rfl;show AV.bg [.agg [.s (.bool (jy th m n deep)),.s (.ro (.ad cE (bT th m n deep))),.s (.ro (.ad cB (aQ th m n deep)))],bE (fF th m n deep)]=_;unfold jy bT aQ fF;rw[e0,if_pos h];rfl
 ·have h:=of_decide_eq_false h;have h2:Ds.n9 th m n≠0:=by simpa using h2
  have e0:qD th m n deep=false:=by unfold qD;rw[decide_eq_false h2,Bool.and_false]
  refine aos 4 (by kernel_rfl) (Nat.le_refl _) (acg (.refl (.s (.bool false))) (.em (.ad cE []) rfl) (.em (.ad cB []) rfl) (.refl (bE (Ds.n9 th m n)))) ?_ rfl;show AV.bg [.agg [.s (.bool (jy th m n deep)),.s (.ro (.ad cE (bT th m n deep))),.s (.ro (.ad cB (aQ th m n deep)))],bE (fF th m n deep)]=_;unfold jy bT aQ fF;rw[e0,if_neg h,if_neg h2];rfl
 ·have h:=of_decide_eq_false h;have h2:Ds.n9 th m n=0:=by simpa using h2
  have e0:qD th m n deep=true:=by unfold qD;rw[decide_eq_true h2,decide_eq_true (by omega)];rfl
  refine aos 4 (by kernel_rfl) (Nat.le_refl _) (acg (.refl (.s (.bool (jL (Ds.j6 th m n))))) (.refl (.s (.ro (.ad cE (oa (Ds.j6 th m n)))))) (.refl (.s (.ro (.ad cB (nq (Ds.j6 th m n)))))) (.refl (bE (uU (Ds.j6 th m n))))) ?_ rfl;show AV.bg [.agg [.s (.bool (jy th m n deep)),.s (.ro (.ad cE (bT th m n deep))),.s (.ro (.ad cB (aQ th m n deep)))],bE (fF th m n deep)]=_;unfold jy bT aQ fF;rw[e0,if_neg h,if_pos h2];rfl
end Ts
namespace Ts
open Go Go.Sx Go.Proofs Lf
abbrev aou:=cp [Bx.dJ,Bx.bB] [Bx.c9] (fun _=>[]) (fun(ws,n,())=>(Bx.lP ws n,()))
abbrev aan:=cp [Bx.dJ,Bx.bB] [Bx.dJ] (fun _=>[]) (fun(ws,n,())=>(Bx.dM ws n,()))
abbrev al6:=cp [Bx.dJ,Bx.bB] [Bx.dJ] (fun _=>[]) (fun(ws,n,())=>(Bx.dG ws n,()))
def al7:aH:=[(133,aou),(67,aan),(179,al6)]
theorem as8(th:Th)(m:As)(fu root:Int)(fr fs gn:Ws)(n:Int):run P al7.sum Tryz.f149 [] (start Tryz.f149 [.ptr 0 0,bE n] (hT th m fu root fr fs gn))=
 Tree.ite (Bx.lP fs n) (.ret [.own [.ptr 1 0,.s (.int .i64 root),.ints .u64 16 fr,.ints .u64 16 (Bx.dG fs n),.ints .u64 16 (Bx.dM gn n)] 115,.own [.vec 2,.ag 3,.s (.int .i64 fu)] 105,.vec (.ad [.arr .u8 64] th) 165,.map (.arr .u8 64) m] (.bg [])) (.ret [.own [.ptr 1 0,.s (.int .i64 root),.ints .u64 16 fr,.ints .u64 16 fs,.ints .u64 16 gn] 115,.own [.vec 2,.ag 3,.s (.int .i64 fu)] 105,.vec (.ad [.arr .u8 64] th) 165,.map (.arr .u8 64) m] (.bg [])):=by kernel_rfl
abbrev sLv:Spec (XT×Int):=⟨fun(_,n)=>[.ptr 0 0,bE n],fun((th,m,fu,root,fr,fs,gn),_)=>hT th m fu root fr fs gn,fun _=>[],fun((th,m,fu,root,fr,fs,gn),n)=>hT th m fu root fr (jB fs n) (ry fs gn n),fun _=>.bg []⟩
theorem ahP{Z:aW}:al7.Ok P Z:=aH.Ok.cons Bx.acb.sum (aH.Ok.cons Bx.pw.sum (aH.Ok.cons Bx.tV.sum aH.Ok.nil))
theorem ud{Z:aW}:fC P Z 149 sLv:=by
 refine au Tryz.func149 (by kernel_rfl) (fun x=>Nat.le_of_ble_eq_true (by kernel_rfl)) ?_;rintro⟨⟨(th:Th),(m:As),(fu:Int),(root:Int),(fr:Ws),(fs:Ws),(gn:Ws)⟩,(n:Int)⟩ _ X hX hz;refine Ds.cR hz hX (by intro y hy;cases hy) ahP Tryz.func149 (as8 th m fu root fr fs gn n) ⟨fun h=> ?_,fun h=> ?_⟩
 ·have e1:jB fs n=Bx.dG fs n:=if_pos h;have e2:ry fs gn n=Bx.dM gn n:=if_pos h;exact bC (h:=hT th m fu root fr (Bx.dG fs n) (Bx.dM gn n)) 4 rfl (Nat.le_refl _) rfl (by show hT th m fu root fr (jB fs n) (ry fs gn n)=_;rw[e1,e2])
 ·have e1:jB fs n=fs:=if_neg (by rw[h];simp);have e2:ry fs gn n=gn:=if_neg (by rw[h];simp);exact bC (h:=hT th m fu root fr fs gn) 4 rfl (Nat.le_refl _) rfl (by show hT th m fu root fr (jB fs n) (ry fs gn n)=_;rw[e1,e2])
end Ts
namespace Ts
open Go Go.Sx Go.Proofs Lf
theorem as9(l:Bool)(es:List En)(bs:List Br):run P (aH.sum []) Tryz.f176 [] (start Tryz.f176 [avN l es bs] [])=
 Tree.ite l (.need ((0:Int)≤0) (.need ((0:Int)<(↑es.length:Int)) (.ret [.own [.s (.bool l),.s (.ro (.ad [.str,.str] es)),.s (.ro (.ad [.str,.int .i64] bs))] 131] (.s (.str (es.getD 0 (CL.d [.str,.str])).fst))))) (.need ((0:Int)≤0) (.need ((0:Int)<(↑bs.length:Int)) (.ret [.own [.s (.bool l),.s (.ro (.ad [.str,.str] es)),.s (.ro (.ad [.str,.int .i64] bs))] 131] (.s (.str (bs.getD 0 (CL.d [.str,.int .i64])).fst))))):=by kernel_rfl
abbrev at6:=cp [ed] [dI] (fun((l,es,bs,()),())=>[((l:Bool)=true→0<(es:List En).length)∧(l=false→0<(bs:List Br).length)]) (fun((l,es,bs,()),())=>(gX l es bs,()))
theorem ahQ{Z:aW}:dr P Z 176 [ed] [dI] (fun((l,es,bs,()),())=>[((l:Bool)=true→0<(es:List En).length)∧(l=false→0<(bs:List Br).length)]) (fun((l,es,bs,()),())=>(gX l es bs,())):=by
 refine aB Tryz.func176 (by kernel_rfl) (by kernel_rfl) ?_;rintro⟨⟨(l:Bool),(es:List En),(bs:List Br),⟨⟩⟩,⟨⟩⟩ _ ⟨⟨h1,h2⟩,_⟩ X hX hz;refine Lf.go hz hX aH.Ok.nil Tryz.func176 (as9 l es bs) ⟨fun h=>⟨by omega,Int.ofNat_lt.2 (h1 h), ?_⟩,fun h=>⟨by omega,Int.ofNat_lt.2 (h2 h), ?_⟩⟩
 ·show Ends [dI] (gX l es bs,()) _ _;unfold gX;rw[if_pos h];exact agH
 ·show Ends [dI] (gX l es bs,()) _ _;unfold gX;rw[if_neg (by rw[h];simp)];exact agH
end Ts
namespace Ts
open Go Go.Sx Go.Proofs Lf
abbrev uW:List CK:=[.rows cB]
abbrev eBs:TypeId:=129
abbrev Rows:Type:=List (List Br×Unit)
abbrev aqI:Ty:=.b (.row (.ad uW) eBs)
abbrev rwB(x:CL uW):List Br:=x.1
def nsJ:List (Nat×Norm):=[(3,⟨[(3,.ad cB [],eB)],[3,6,7,8],0,[]⟩)]
noncomputable def cJ(ls:List (CL uW))(acc:List Br)(i:Int):bw:=⟨sl 17 [(3,.vec 0),(6,.s (.ro (.ad uW ls))),(7,bE (ls.length:Int)),(8,bE i)],[.vec (.ad cB acc) eB],hd Tryz.f174 3,{}⟩
theorem trJ(ls:List (CL uW)):run P (aH.sum []) Tryz.f174 nsJ (start Tryz.f174 [.s (.ro (.ad uW ls))] [])=
 Tree.at (.mk (sl 17 [(3,.vec 0),(6,.s (.ro (.ad uW ls))),(7,.s (.int .i64 (↑ls.length:Int))),(8,.s (.int .i64 0))]) [.vec (.ad [.str,.int .i64] []) 137] (hd Tryz.f174 3) (.mk none false 0 [] 0)):=by kernel_rfl
theorem al8(ls:List (CL uW))(acc:List Br)(i:Int):run P (aH.sum []) Tryz.f174 nsJ (cJ ls acc i)=
 Tree.ite (decide (i<(↑ls.length:Int))) (.need ((0:Int)≤i) (.need (i<(↑ls.length:Int)) (.need ((acc.length+(rwB (el ls i)).length)*(24:Nat)≤140737488355328) (.need (ay (i+1)) (.at (.mk (sl 17 [(3,.vec 0),(6,.s (.ro (.ad uW ls))),(7,.s (.int .i64 (↑ls.length:Int))),(8,.s (.int .i64 (i+1)))]) [.vec (.ad [.str,.int .i64] (acc++rwB (el ls i))) 137] (hd Tryz.f174 3) (.mk none false 0 [] 0))))))) (.ret [.vec (.ad [.str,.int .i64] acc) 137] (.vec 0)):=by kernel_rfl
def ct(ls:List (CL uW)):List Br:=ls.flatMap fun x=>rwB x
abbrev sJ:=cp [aqI] [uD] (fun(ls,())=>[(ls:List (CL uW)).length≤100,(ct ls).length≤100000]) (fun(ls,())=>(ct ls,()))
def al9:aH:=[(174,sJ)]
theorem ata(l:Bool)(es:List En)(bs:List Br):run P al9.sum Tryz.f145 [] (start Tryz.f145 [avN l es bs] [])=
 Tree.ite (decide ((↑bs.length:Int)>0)) (.need ((0:Int)≤0) (.need ((0:Int)<(↑bs.length:Int)) (.need ((0:Int)≤1) (.need ((1:Int)≤(↑bs.length:Int)) (.need ((↑bs.length:Int)≤(↑bs.length:Int)) (.need ([([(ByteArray.empty,(bs.getD 0 (CL.d [.str,.int .i64])).snd.fst,())],()),(List.drop (Int.toNat 1) (List.take (↑bs.length:Int).toNat bs),())].length≤100) (.need ((ct [([(ByteArray.empty,(bs.getD 0 (CL.d [.str,.int .i64])).snd.fst,())],()),(List.drop (Int.toNat 1) (List.take (↑bs.length:Int).toNat bs),())]).length≤100000) (.ret [.own [.s (.bool l),.s (.ro (.ad [.str,.str] es)),.vec 4] 131,.own [.s (.bool l),.s (.ro (.ad [.str,.str] es)),.vec 4] 131,.dead,.vec (.ad uW [([(ByteArray.empty,(bs.getD 0 (CL.d [.str,.int .i64])).snd.fst,())],()),(List.drop (Int.toNat 1) (List.take (↑bs.length:Int).toNat bs),())]) 129,.vec (.ad [.str,.int .i64] (ct [([(ByteArray.empty,(bs.getD 0 (CL.d [.str,.int .i64])).snd.fst,())],()),(List.drop (Int.toNat 1) (List.take (↑bs.length:Int).toNat bs),())])) 137] (.agg [.s (.bool l),.s (.ro (.ad [.str,.str] es)),.vec 4]))))))))) (.ret [.own [.s (.bool l),.s (.ro (.ad [.str,.str] es)),.s (.ro (.ad [.str,.int .i64] bs))] 131,.own [.s (.bool l),.s (.ro (.ad [.str,.str] es)),.s (.ro (.ad [.str,.int .i64] bs))] 131] (.agg [.s (.bool l),.s (.ro (.ad [.str,.str] es)),.s (.ro (.ad [.str,.int .i64] bs))])):=by kernel_rfl
theorem ach{ls:List (CL uW)}(k:Nat)(h:k<ls.length):ct (ls.take (k+1))=ct (ls.take k)++rwB (ls.getD k (CL.d uW)):=by
 rw[←kz (d:=CL.d uW) h];simp[ct]
theorem ahR{ls:List (CL uW)}(k:Nat):(ct (ls.take k)).length≤(ct ls).length:=by
 have e:ct ls=ct (ls.take k)++ct (ls.drop k):=by
  unfold ct;exact(congrArg (List.flatMap fun x=>rwB x) (List.take_append_drop k ls).symm).trans List.flatMap_append
 rw[e,List.length_append];omega
theorem qE{Z:aW}:dr P Z 174 [aqI] [uD] (fun(ls,())=>[(ls:List (CL uW)).length≤100,(ct ls).length≤100000]) (fun(ls,())=>(ct ls,())):=by
 refine aB Tryz.func174 (by kernel_rfl) (by kernel_rfl) ?_;rintro⟨(ls:List (CL uW)),⟨⟩⟩ _ ⟨(hl:ls.length≤100),(hj:(ct ls).length≤100000),_⟩ X hX hz
 have first:∀(n k:Nat),k+n=ls.length→Safe P 174 X (Ends [uD] (ct ls,())) (cJ ls (ct (ls.take k)) (k:Int)):=by
  intro n
  induction n with
  |zero=>
   intro k hk;refine Lf.go hz hX aH.Ok.nil Tryz.func174 (al8 ls _ k) ⟨fun h=>absurd (of_decide_eq_true h) (by omega),fun h=> ?_⟩;rw[List.take_of_length_le (by omega)];exact aV (ct ls,()) rfl (by kernel_rfl)
  |succ n ih=>
   intro k hk;have e:=ach (ls:=ls) k (by omega);have l1:=ahR (ls:=ls) (k+1);rw[e,List.length_append]at l1;refine Lf.go hz hX aH.Ok.nil Tryz.func174 (al8 ls _ k) ⟨fun h=>⟨by omega,by omega, ?_,⟨by omega,by omega⟩, ?_⟩,fun h=>absurd (of_decide_eq_false h) (by omega)⟩
   ·show((ct (ls.take k)).length+(rwB (ls.getD k (CL.d uW))).length)*24≤140737488355328;omega
   ·have:=ih (k+1) (by omega);rw[e]at this;exact this
 exact Lf.go hz hX aH.Ok.nil Tryz.func174 (trJ ls) (first ls.length 0 (by omega))
theorem ahS{Z:aW}:al9.Ok P Z:=aH.Ok.cons qE.sum aH.Ok.nil
theorem adC{Z:aW}:dr P Z 145 [ed] [gG] (fun((_,_,bs,()),())=>[(bs:List Br).length≤1000]) (fun((l,es,bs,()),())=>((l,es,aa bs,()),())):=by
 refine aB Tryz.func145 (by kernel_rfl) (by kernel_rfl) ?_;rintro⟨⟨(l:Bool),(es:List En),(bs:List Br),⟨⟩⟩,⟨⟩⟩ _ ⟨(hl:bs.length≤1000),_⟩ X hX hz;show Safe P 145 X (Ends [gG] ((l,es,aa bs,()),())) _;refine Lf.go hz hX ahS Tryz.func145 (ata l es bs) ⟨fun h=> ?_,fun h=> ?_⟩
 ·have h:=of_decide_eq_true h
  obtain⟨b,r,rfl⟩:∃b r,bs=b::r:=by
   cases bs with
   |nil=>simp at h
   |cons b r=>exact⟨b,r,rfl⟩
  simp only[List.length_cons]at h hl
  have e:ct [([(ByteArray.empty,((b::r).getD (0:Nat) (CL.d [CK.str,CK.int IntKind.i64])).snd.fst,())],()),(List.drop (Int.toNat (1:Int)) (List.take (↑(b::r).length:Int).toNat (b::r)),())]=aa (b::r):=by
   show [(ByteArray.empty,b.2.1,())]++(List.drop 1 (List.take (r.length+1) (b::r))++[])=(ByteArray.empty,b.2.1,())::r;rw[List.take_of_length_le (by simp)];simp
  refine⟨by omega,by simp only[List.length_cons];omega,by omega,by simp only[List.length_cons];omega,by simp only[List.length_cons];omega,by show 2≤100;decide, ?_, ?_⟩
  ·refine Nat.le_trans (Nat.le_of_eq (congrArg List.length e)) ?_;show r.length+1≤100000;omega
  ·exact aV (rs:=[gG]) ((l,es,ct [([(ByteArray.empty,((b::r).getD (0:Nat) (CL.d [CK.str,CK.int IntKind.i64])).snd.fst,())],()),(List.drop (Int.toNat (1:Int)) (List.take (↑(b::r).length:Int).toNat (b::r)),())],()),()) (by rw[e]) (by kernel_rfl)
 ·have h:=of_decide_eq_false h;obtain rfl:bs=[]:=List.eq_nil_of_length_eq_zero (by omega);exact aV (rs:=[gG]) ((l,es,[],()),()) rfl (by kernel_rfl)
end Ts
namespace Lf
open Go Go.Sx Go.Proofs
theorem rS{es:List En}{k:Nat}:okE es k=true↔(1≤(es.getD k dE).1.size∧(es.getD k dE).1.size≤24∧(es.getD k dE).2.1.size≤100∧(0<k→slt (es.getD (k - 1) dE).1 (es.getD k dE).1=true)):=by
 simp only[okE,Bool.not_eq_true',Bool.or_eq_false_iff,Bool.and_eq_false_iff,decide_eq_false_iff_not,Bool.not_eq_false'];constructor
 ·rintro⟨⟨⟨h1,h2⟩,h3⟩,h4⟩;exact⟨Nat.pos_of_ne_zero fun e=>h1 (ky e),by omega,by omega,fun h=>h4.resolve_left (fun g=>g h)⟩
 ·rintro⟨h1,h2,h3,h4⟩;exact⟨⟨⟨fun e=>(by rw[e]at h1;simp at h1),by omega⟩,by omega⟩,(Decidable.em (0<k)).elim (fun h=>.inr (h4 h)) .inl⟩
theorem pD{bs:List Br}{k:Nat}:okB bs k=true↔((bs.getD k dB).1.size≤24∧2≤(bs.getD k dB).2.1∧(bs.getD k dB).2.1≤1023∧(0<k→slt (bs.getD (k - 1) dB).1 (bs.getD k dB).1=true)):=by
 simp only[okB,Bool.not_eq_true',Bool.or_eq_false_iff,Bool.and_eq_false_iff,decide_eq_false_iff_not,Bool.not_eq_false'];constructor
 ·rintro⟨⟨⟨h1,h2⟩,h3⟩,h4⟩;exact⟨by omega,by omega,by omega,fun h=>h4.resolve_left (fun g=>g h)⟩
 ·rintro⟨h1,h2,h3,h4⟩;exact⟨⟨⟨by omega,by omega⟩,by omega⟩,(Decidable.em (0<k)).elim (fun h=>.inr (h4 h)) .inl⟩
theorem afe(l:Bool)(es:List En)(bs:List Br):ahk l es bs l es bs=true:=by simp[ahk,aqe,aqf]
theorem pE{l:Bool}{es:List En}{bs:List Br}(h:eu l es bs=true):iU (cg es)∧iU (mJ bs):=by
 simp only[eu,Bool.and_eq_true]at h;exact⟨as2 h.1.2,aqd h.2⟩
theorem lA{α:Type}{l:List α}{k i:Nat}{d:α}(h:i<k):(l.take k).getD i d=l.getD i d:=by simp[List.getD,List.getElem?_take,h]
theorem lB{α:Type}{l:List α}{k i:Nat}{d:α}:(l.drop k).getD i d=l.getD (k+i) d:=by simp[List.getD,List.getElem?_drop]
theorem aff{es:List En}(h:nn es=true)(k:Nat):nn (es.take k)=true:=dw.2 fun i hi=>by
 rw[List.length_take]at hi;have:=rS.1 (dw.1 h i (by omega));rw[rS,lA (by omega),lA (by omega)];exact this
theorem afg{es:List Br}(h:np es=true)(k:Nat):np (es.take k)=true:=dw.2 fun i hi=>by
 rw[List.length_take]at hi;have:=pD.1 (dw.1 h i (by omega));rw[pD,lA (by omega),lA (by omega)];exact this
theorem afh{es:List En}(h:nn es=true)(k:Nat):nn (es.drop k)=true:=dw.2 fun i hi=>by
 rw[List.length_drop]at hi;obtain⟨h1,h2,h3,h4⟩:=rS.1 (dw.1 h (k+i) (by omega));rw[rS,lB,lB];exact⟨h1,h2,h3,fun h0=>by have:=h4 (by omega);rw[show k+i - 1=k+(i - 1)from by omega]at this;exact this⟩
theorem afi{es:List Br}(h:np es=true)(k:Nat):np (es.drop k)=true:=dw.2 fun i hi=>by
 rw[List.length_drop]at hi;obtain⟨h1,h2,h3,h4⟩:=pD.1 (dw.1 h (k+i) (by omega));rw[pD,lB,lB];exact⟨h1,h2,h3,fun h0=>by have:=h4 (by omega);rw[show k+i - 1=k+(i - 1)from by omega]at this;exact this⟩
theorem adD{l:Bool}{es:List En}{bs:List Br}(m1:l=true→bs=[])(m2:l=false→es=[])(m3:nn es=true)(m4:np bs=true):eu l es bs=true:=by
 simp only[eu,m3,m4,Bool.and_true];cases l
 ·rw[m2 rfl];rfl
 ·rw[m1 rfl];rfl
theorem ahT{l:Bool}{es:List En}{bs:List Br}(h:eu l es bs=true)(k:Nat):eu l (es.take k) (bs.take k)=true:=by
 obtain⟨m1,m2,m3,m4⟩:=eI h;exact adD (fun e=>by rw[m1 e,List.take_nil]) (fun e=>by rw[m2 e,List.take_nil]) (aff m3 k) (afg m4 k)
theorem ahU{l:Bool}{es:List En}{bs:List Br}(h:eu l es bs=true)(k:Nat):eu l (es.drop k) (bs.drop k)=true:=by
 obtain⟨m1,m2,m3,m4⟩:=eI h;exact adD (fun e=>by rw[m1 e,List.drop_nil]) (fun e=>by rw[m2 e,List.drop_nil]) (afh m3 k) (afi m4 k)
theorem x7:∀{l:List Int} {m:Int},(∀x∈l,m≤x)→m*l.length≤l.sum
 |[],m,_=>by simp
 |a::r,m,h=>by
  have h1:=x7 (l:=r) (m:=m) fun x hx=>h x (List.mem_cons_of_mem _ hx);have h2:=h a List.mem_cons_self;rw[List.sum_cons,List.length_cons];have:m*((r.length+1:Nat):Int)=m*(r.length:Int)+m:=by rw[Int.natCast_add,Int.mul_add];simp
  omega
theorem akv(es:List En)(bs:List Br):∀x∈aO es bs,2≤x:=fun x hx=>by
 simp only[aO,List.mem_append,List.mem_map]at hx;rcases hx with⟨e,_,rfl⟩|⟨b,_,rfl⟩
 ·simp only[szE];omega
 ·simp only[szB];omega
theorem ahV{zs:List Int}(h:∀x∈zs,2≤x){k:Nat}(h1:0<k)(h2:k<zs.length):2≤(zs.take k).sum∧(zs.take k).sum+2≤zs.sum:=by
 have a1:=x7 (l:=zs.take k) (m:=2) fun x hx=>h x (List.mem_of_mem_take hx);have a2:=x7 (l:=zs.drop k) (m:=2) fun x hx=>h x (List.mem_of_mem_drop hx);rw[aad]at a2;rw[List.length_take]at a1;rw[List.length_drop]at a2;omega
theorem afj{l:Bool}{es:List En}{bs:List Br}(h:fN l es bs=true)(he:bh es)(hb:bk bs):
 bh (bF l es bs)∧bk (bG l es bs)∧bh (fv l es bs)∧bk (fw l es bs)∧ahk (cU l es bs) ([]++bF l es bs++fv l es bs) ([]++bG l es bs++fw l es bs) l es bs=true∧
 eu (cU l es bs) (bF l es bs) (bG l es bs)=true∧eu (cU l es bs) (fv l es bs) (fw l es bs)=true∧
 cH (bF l es bs) (bG l es bs)<cH es bs∧cH (fv l es bs) (fw l es bs)<cH es bs∧cH (bF l es bs) (bG l es bs)+cH (fv l es bs) (fw l es bs)=cH es bs+1∧
 imax (cH (bF l es bs) (bG l es bs)) (cH (fv l es bs) (fw l es bs))=1+wg (aO es bs) (gl es bs):=by
 have h':=h;simp only[fN,Bool.and_eq_true,decide_eq_true_eq]at h';obtain⟨hm,h2⟩:=h';obtain⟨m1,m2,_,_⟩:=eI hm;obtain⟨_,_,_,_,c5,c6⟩:=ae1 m1 m2 (gl es bs);have b1:=z7 (aO es bs) (es.length+bs.length - 1) (by omega);have b2:=rO (aO es bs) (es.length+bs.length - 1);have p:=ahV (akv es bs) (k:=gl es bs) b1 (by rw[tS];rw[gl];omega);have bR:=tJ es bs;simp only[bF,fv,bG,fw,cU,h,if_true,Bool.true_and];refine⟨z8 he _,aaa hb _,aab he _,aac hb _, ?_,ahT hm _,ahU hm _,by omega,by omega,by omega, ?_⟩
 ·rw[List.nil_append,List.nil_append,List.take_append_drop,List.take_append_drop];exact afe _ _ _
 ·rw[c5,c6,ahr];rfl
theorem aov{l:Bool}{es:List En}{bs:List Br}(h:(spC l es bs==0)=true):fN l es bs=true:=by
 unfold spC at h;split at h
 ·assumption
 ·exact absurd h (by decide)
end Lf
namespace Ds
open Go Go.Sx Go.Proofs Lf
end Ds
namespace Ts
open Go Go.Sx Go.Proofs Lf
def In(ws:Ws)(k:Int):Prop:=Bx.lP ws k=true
instance (ws:Ws) (k:Int):Decidable (In ws k):=inferInstanceAs (Decidable (_=true))
theorem gY{ws:Ws}(hw:Bx.okW ws){k:Int}:In ws k↔(0≤k∧k<1024)∧Bx.bit ws k.toNat=true:=by
 unfold In;rw[Bx.adB hw,Bool.and_eq_true,decide_eq_true_eq]
theorem pF{ws:Ws}(hw:Bx.okW ws){k:Int}(h:In ws k):0≤k∧k<1024:=((gY hw).1 h).1
theorem asq{ws:Ws}(hw:Bx.okW ws){n:Int}(hn:0≤n∧n<1024){k:Int}:In (Bx.dM ws n) k↔In ws k∨k=n:=by
 obtain⟨h1,h2⟩:=Bx.pA hw n;rw[gY h1,gY hw];constructor
 ·rintro⟨a,b⟩;rw[h2 k.toNat (by omega),Bool.or_eq_true,decide_eq_true_eq]at b;rcases b with b|b
  ·exact .inl ⟨a,b⟩
  ·right;omega
 ·rintro(⟨a,b⟩|rfl)
  ·exact⟨a,by rw[h2 _ (by omega),b];rfl⟩
  ·refine⟨hn, ?_⟩;rw[h2 _ (by omega),Bool.or_eq_true,decide_eq_true_eq];right;omega
theorem ahW{op:BinOp}(uy:op=.or∨op=.and∨op=.andNot){a b:Ws}(ha:Bx.okW a)(hb:Bx.okW b){k:Int}:
 In (Bx.bN op a b) k↔(0≤k∧k<1024)∧Bx.opb op (Bx.bit a k.toNat) (Bx.bit b k.toNat)=true:=by
 obtain⟨h1,h2⟩:=Bx.lz uy ha hb;rw[gY h1];constructor
 ·rintro⟨c,d⟩;rw[h2 _ (by omega)]at d;exact⟨c,d⟩
 ·rintro⟨c,d⟩;exact⟨c,by rw[h2 _ (by omega)];exact d⟩
theorem ahX{a b:Ws}(ha:Bx.okW a)(hb:Bx.okW b){k:Int}:In (Bx.bN .and a b) k↔In a k∧In b k:=by
 rw[ahW (.inr (.inl rfl)) ha hb,gY ha,gY hb];simp only[Bx.opb,Bool.and_eq_true];exact⟨fun⟨c,d⟩=>⟨⟨c,d.1⟩,c,d.2⟩,fun⟨x,y⟩=>⟨x.1,x.2,y.2⟩⟩
theorem rT{a b:Ws}(ha:Bx.okW a)(hb:Bx.okW b){k:Int}:In (Bx.bN .andNot a b) k↔In a k∧¬In b k:=by
 rw[ahW (.inr (.inr rfl)) ha hb,gY ha,gY hb];simp only[Bx.opb,Bool.and_eq_true,Bool.not_eq_true'];constructor
 ·rintro⟨c,d,e⟩;exact⟨⟨c,d⟩,fun h=>by rw[h.2]at e;cases e⟩
 ·rintro⟨⟨c,d⟩,e⟩;refine⟨c,d, ?_⟩;cases hh:Bx.bit b k.toNat
  ·rfl
  ·exact absurd ⟨c,hh⟩ e
theorem kF{n k:Int}:In (Bx.aY n) k↔(0≤k∧k<1024)∧k<n:=by
 obtain⟨h1,h2⟩:=Bx.cq n;rw[gY h1];constructor
 ·rintro⟨c,d⟩;rw[h2 _ (by omega),decide_eq_true_eq]at d;exact⟨c,by omega⟩
 ·rintro⟨c,d⟩;exact⟨c,by rw[h2 _ (by omega),decide_eq_true_eq];omega⟩
theorem nh{k:Int}:¬In Bx.ae k:=fun h=>by
 have:=((gY Bx.kD.1).1 h).2;rw[Bx.kD.2]at this;cases this
theorem ahY{ws:Ws}(hw:Bx.okW ws)(h:Bx.fV ws 0=true):In ws (Bx.bS ws 0):=by
 unfold Bx.fV at h;obtain⟨v,hv⟩:=Option.isSome_iff_exists.1 h;obtain⟨p,rfl,hp,hb,_,_⟩:=Bx.acf hw hv;have e:Bx.bS ws 0=(p:Int):=by unfold Bx.bS;rw[hv];rfl
 rw[e,gY hw];exact⟨⟨by omega,by omega⟩,by rw[Int.toNat_natCast];exact hb⟩
structure Rd (th:Th) (m:As) (p:Int) (l:Bool) (es:List En) (bs:List Br):Prop where
 e:Ds.n9 th m p=0
 c:uU (Ds.j6 th m p)=0
 l:jL (Ds.j6 th m p)=l
 es:oa (Ds.j6 th m p)=es
 bs:nq (Ds.j6 th m p)=bs
theorem Rd.same{th:Th}{m m':As}{p:Int}{l:Bool}{es:List En}{bs:List Br}(h:Rd th m p l es bs)(h1:Ds.n9 th m' p=Ds.n9 th m p∧Ds.j6 th m' p=Ds.j6 th m p):Rd th m' p l es bs:=by
 obtain⟨a,b,c,d,e⟩:=h;exact⟨by rw[h1.1];exact a,by rw[h1.2];exact b,by rw[h1.2];exact c,by rw[h1.2];exact d,by rw[h1.2];exact e⟩
theorem Rd.nd{th:Th}{m:As}{p:Int}{l:Bool}{es:List En}{bs:List Br}(h:Rd th m p l es bs){deep:Int}(hd:deep≤16):fF th m p deep=0∧jy th m p deep=l∧bT th m p deep=es∧aQ th m p deep=bs:=by
 have e0:qD th m p deep=true:=by unfold qD;rw[decide_eq_true hd,decide_eq_true h.e];rfl
 refine⟨?_, ?_, ?_, ?_⟩
 ·unfold fF;rw[if_neg (by omega),if_pos h.e];exact h.c
 ·unfold jy;rw[e0,Bool.true_and];exact h.l
 ·unfold bT;rw[if_pos e0];exact h.es
 ·unfold aQ;rw[if_pos e0];exact h.bs
end Ts
namespace Ts
open Go Go.Sx Go.Proofs Lf
abbrev aqJ:=cp [ed] [dI] (fun((l,es,bs,()),())=>[((l:Bool)=true→0<(es:List En).length)∧(l=false→0<(bs:List Br).length)]) (fun((l,es,bs,()),())=>(gX l es bs,()))
abbrev ama:=tg [ed] [gG] (fun((_,_,bs,()),())=>[(bs:List Br).length≤1000]) (fun((l,es,bs,()),())=>((l,es,aa bs,()),()))
abbrev atb:=cp [Bx.dJ,Bx.bB] [Bx.bB,Bx.c9] (fun(ws,_,())=>[Bx.okW ws]) (fun(ws,n,())=>(Bx.bS ws n,Bx.fV ws n,()))
abbrev aqK:=cp [ed] [dI,bB] (fun((_,es,bs,()),())=>[bh es,bk bs]) (fun((l,es,bs,()),())=>(dX l es bs,gM l es bs,()))
def amb:aH:=[(176,aqJ),(145,ama),(83,atb),(177,aqK),(178,aqH),(179,al6),(67,aan)]
theorem atc(th:Th)(m:As)(fu root:Int)(fr fs gn:Ws)(l:Bool)(es:List En)(bs:List Br):run P amb.sum Tryz.f147 [] (start Tryz.f147 [.ptr 0 0,avN l es bs] (hT th m fu root fr fs gn))=
 Tree.need ((l=true→(0:Nat)<es.length)∧(l=false→(0:Nat)<bs.length))
 (.need (bs.length≤1000)
   (.need (Bx.okW fr)
     (.ite (!Bx.fV fr 0) (.ret [.own [.ptr 1 0,.s (.int .i64 root),.ints .u64 16 fr,.ints .u64 16 fs,.ints .u64 16 gn] 115,.own [.vec 2,.ag 3,.s (.int .i64 fu)] 105,.vec (.ad [.arr .u8 64] th) 165,.map (.arr .u8 64) m,.own [.s (.bool l),.s (.ro (.ad [.str,.str] es)),.s (.ro (.ad [.str,.int .i64] (aa bs)))] 131,.own [.s (.str ByteArray.empty),.s (.aK .i64 0)] 137] (.bg [.agg [.s (.str ByteArray.empty),.s (.aK .i64 0)],.s (.aK .i64 41)]))
       (.need (bh es) (.need (bk (aa bs)) (.ite (gM l es (aa bs) !=0) (.ret [.own [.ptr 1 0,.s (.int .i64 root),.ints .u64 16 fr,.ints .u64 16 fs,.ints .u64 16 gn] 115,.own [.vec 2,.ag 3,.s (.int .i64 fu)] 105,.vec (.ad [.arr .u8 64] th) 165,.map (.arr .u8 64) m,.own [.s (.bool l),.s (.ro (.ad [.str,.str] es)),.s (.ro (.ad [.str,.int .i64] (aa bs)))] 131,.own [.s (.str ByteArray.empty),.s (.aK .i64 0)] 137] (.bg [.agg [.s (.str ByteArray.empty),.s (.aK .i64 0)],.s (.int .i64 (gM l es (aa bs)))])) (.need (bn (some [AV.ptr 0 0,.s (.int .i64 (Bx.bS fr 0)),.s (.str (dX l es (aa bs)))])) (.need (bn (some [ab.own [.vec 1,.ag 2,.s (.int .i64 fu)] 105,.vec (.ad [.arr .u8 64] th) 165,.map (.arr .u8 64) m])) (.need (Ds.bx th m fu) (.need (ay (Bx.bS fr 0)) (.ite ((Ds.nm th m fu (Bx.bS fr 0) (dX l es (aa bs))).snd.snd !=0) (.ret [.own [.ptr 1 0,.s (.int .i64 root),.ints .u64 16 fr,.ints .u64 16 fs,.ints .u64 16 gn] 115,.own [.vec 2,.ag 3,.s (.int .i64 (Ds.nm th m fu (Bx.bS fr 0) (dX l es (aa bs))).snd.fst)] 105,.vec (.ad [.arr .u8 64] th) 165,.map (.arr .u8 64) (Ds.nm th m fu (Bx.bS fr 0) (dX l es (aa bs))).fst,.own [.s (.bool l),.s (.ro (.ad [.str,.str] es)),.s (.ro (.ad [.str,.int .i64] (aa bs)))] 131,.own [.s (.str ByteArray.empty),.s (.aK .i64 0)] 137] (.bg [.agg [.s (.str ByteArray.empty),.s (.aK .i64 0)],.s (.int .i64 (Ds.nm th m fu (Bx.bS fr 0) (dX l es (aa bs))).snd.snd)])) (.ret [.own [.ptr 1 0,.s (.int .i64 root),.ints .u64 16 (Bx.dG fr (Bx.bS fr 0)),.ints .u64 16 (Bx.dM fs (Bx.bS fr 0)),.ints .u64 16 gn] 115,.own [.vec 2,.ag 3,.s (.int .i64 (Ds.nm th m fu (Bx.bS fr 0) (dX l es (aa bs))).snd.fst)] 105,.vec (.ad [.arr .u8 64] th) 165,.map (.arr .u8 64) (Ds.nm th m fu (Bx.bS fr 0) (dX l es (aa bs))).fst,.own [.s (.bool l),.s (.ro (.ad [.str,.str] es)),.s (.ro (.ad [.str,.int .i64] (aa bs)))] 131,.own [.s (.str (gX l es bs)),.s (.int .i64 (Bx.bS fr 0))] 137] (.bg [.agg [.s (.str (gX l es bs)),.s (.int .i64 (Bx.bS fr 0))],.s (.aK .i64 0)]))))))))))))):=by kernel_rfl
abbrev aqL:Spec (XT×Bool×List En×List Br):=⟨fun(_,l,es,bs)=>[.ptr 0 0,avN l es bs],fun((th,m,fu,root,fr,fs,gn),_)=>hT th m fu root fr fs gn,
 fun((th,m,fu,_,fr,_,_),l,es,bs)=>[Ds.bx th m fu,Bx.okW fr,((l:Bool)=true→0<(es:List En).length)∧(l=false→0<(bs:List Br).length),bh es,bk bs],
 fun((th,m,fu,root,fr,fs,gn),l,es,bs)=>hT th (bU th m fu fr fs l es bs).1 (bU th m fu fr fs l es bs).2.1 root (bU th m fu fr fs l es bs).2.2.1 (bU th m fu fr fs l es bs).2.2.2.1 gn,
 fun((th,m,fu,_,fr,fs,_),l,es,bs)=>.bg [.agg [.s (.str (bU th m fu fr fs l es bs).2.2.2.2.1.1),bE (bU th m fu fr fs l es bs).2.2.2.2.1.2.1],bE (bU th m fu fr fs l es bs).2.2.2.2.2]⟩
theorem rh{bs:List Br}(h:bk bs):bk (aa bs):=by
 cases bs with
 |nil=>exact h
 |cons b r=>
  refine⟨h.1,fun x hx=> ?_⟩;rcases List.mem_cons.1 hx with rfl|hx
  ·exact Nat.zero_le _
  ·exact h.2 x (List.mem_cons_of_mem _ hx)
theorem ue{ws:Ws}(hw:Bx.okW ws)(h:Bx.fV ws 0=true):0≤Bx.bS ws 0∧Bx.bS ws 0<1024:=pF hw (ahY hw h)
theorem ahZ:amb.Ok P Bx.bO:=aH.Ok.cons ahQ.sum (aH.Ok.cons adC.tg (aH.Ok.cons (Bx.akr Bx.aqF.sum).sum (aH.Ok.cons wc.sum (aH.Ok.cons (Ds.ap8.sum Ds.mWr) (aH.Ok.cons Bx.tV.sum (aH.Ok.cons Bx.pw.sum aH.Ok.nil))))))
theorem tz:fC P Bx.bO 147 aqL:=by
 refine au Tryz.func147 (by kernel_rfl) (fun x=>Nat.le_of_ble_eq_true (by kernel_rfl)) ?_;rintro⟨⟨(th:Th),(m:As),(fu:Int),(root:Int),(fr:Ws),(fs:Ws),(gn:Ws)⟩,(l:Bool),(es:List En),(bs:List Br)⟩ ⟨(hd:Ds.bx th m fu),(hf:Bx.okW fr),(cL:((l:Bool)=true→0<(es:List En).length)∧(l=false→0<(bs:List Br).length)),(he:bh es),(hb:bk bs),_⟩ X hX hz;refine Ds.cR hz hX (by intro y hy;cases hy) ahZ Tryz.func147 (atc th m fu root fr fs gn l es bs) ⟨cL,hb.1,hf,fun h=> ?_,fun h=>⟨he,rh hb,fun h2=> ?_,fun h2=>⟨rfl,rfl,hd, ?_,fun h3=> ?_,fun h3=> ?_⟩⟩⟩
 ·have h:Bx.fV fr 0=false:=by simpa using h
  have e:bU th m fu fr fs l es bs=(m,fu,fr,fs,dB,41):=by unfold bU;rw[if_pos h]
  refine bC (h:=hT th m fu root fr fs gn) 4 rfl (Nat.le_refl _) ?_ ?_
  ·show AV.bg [.agg [.s (.str (bU th m fu fr fs l es bs).2.2.2.2.1.1),bE (bU th m fu fr fs l es bs).2.2.2.2.1.2.1],bE (bU th m fu fr fs l es bs).2.2.2.2.2]=_;rw[e];rfl
  ·show hT th (bU th m fu fr fs l es bs).1 (bU th m fu fr fs l es bs).2.1 root (bU th m fu fr fs l es bs).2.2.1 (bU th m fu fr fs l es bs).2.2.2.1 gn=_;rw[e]
 ·have h:¬Bx.fV fr 0=false:=by simpa using h
  have h2:gM l es (aa bs)≠0:=by simpa using h2
  have e:bU th m fu fr fs l es bs=(m,fu,fr,fs,dB,gM l es (aa bs)):=by unfold bU;rw[if_neg h,if_pos h2]
  refine bC (h:=hT th m fu root fr fs gn) 4 rfl (Nat.le_refl _) ?_ ?_
  ·show AV.bg [.agg [.s (.str (bU th m fu fr fs l es bs).2.2.2.2.1.1),bE (bU th m fu fr fs l es bs).2.2.2.2.1.2.1],bE (bU th m fu fr fs l es bs).2.2.2.2.2]=_;rw[e];rfl
  ·show hT th (bU th m fu fr fs l es bs).1 (bU th m fu fr fs l es bs).2.1 root (bU th m fu fr fs l es bs).2.2.1 (bU th m fu fr fs l es bs).2.2.2.1 gn=_;rw[e]
 ·have h:Bx.fV fr 0=true:=by simpa using h
  have:=ue hf h;exact⟨by omega,by omega⟩
 ·have h:¬Bx.fV fr 0=false:=by simpa using h
  have h2:¬gM l es (aa bs)≠0:=by simpa using h2
  have h3:(Ds.nm th m fu (Bx.bS fr 0) (dX l es (aa bs))).2.2≠0:=by simpa using h3
  have e:bU th m fu fr fs l es bs=((Ds.nm th m fu (Bx.bS fr 0) (dX l es (aa bs))).1,(Ds.nm th m fu (Bx.bS fr 0) (dX l es (aa bs))).2.1,fr,fs,dB,(Ds.nm th m fu (Bx.bS fr 0) (dX l es (aa bs))).2.2):=by unfold bU;rw[if_neg h,if_neg h2,if_pos h3]
  refine bC (h:=hT th (Ds.nm th m fu (Bx.bS fr 0) (dX l es (aa bs))).1 (Ds.nm th m fu (Bx.bS fr 0) (dX l es (aa bs))).2.1 root fr fs gn) 4 rfl (Nat.le_refl _) ?_ ?_
  ·show AV.bg [.agg [.s (.str (bU th m fu fr fs l es bs).2.2.2.2.1.1),bE (bU th m fu fr fs l es bs).2.2.2.2.1.2.1],bE (bU th m fu fr fs l es bs).2.2.2.2.2]=_;rw[e];rfl
  ·show hT th (bU th m fu fr fs l es bs).1 (bU th m fu fr fs l es bs).2.1 root (bU th m fu fr fs l es bs).2.2.1 (bU th m fu fr fs l es bs).2.2.2.1 gn=_;rw[e]
 ·have h:¬Bx.fV fr 0=false:=by simpa using h
  have h2:¬gM l es (aa bs)≠0:=by simpa using h2
  have h3:¬(Ds.nm th m fu (Bx.bS fr 0) (dX l es (aa bs))).2.2≠0:=by simpa using h3
  have e:bU th m fu fr fs l es bs=((Ds.nm th m fu (Bx.bS fr 0) (dX l es (aa bs))).1,(Ds.nm th m fu (Bx.bS fr 0) (dX l es (aa bs))).2.1,Bx.dG fr (Bx.bS fr 0),Bx.dM fs (Bx.bS fr 0),(gX l es bs,Bx.bS fr 0,()),0):=by unfold bU;rw[if_neg h,if_neg h2,if_neg h3]
  refine bC (h:=hT th (Ds.nm th m fu (Bx.bS fr 0) (dX l es (aa bs))).1 (Ds.nm th m fu (Bx.bS fr 0) (dX l es (aa bs))).2.1 root (Bx.dG fr (Bx.bS fr 0)) (Bx.dM fs (Bx.bS fr 0)) gn) 4 rfl (Nat.le_refl _) ?_ ?_
  ·show AV.bg [.agg [.s (.str (bU th m fu fr fs l es bs).2.2.2.2.1.1),bE (bU th m fu fr fs l es bs).2.2.2.2.1.2.1],bE (bU th m fu fr fs l es bs).2.2.2.2.2]=_;rw[e];rfl
  ·show hT th (bU th m fu fr fs l es bs).1 (bU th m fu fr fs l es bs).2.1 root (bU th m fu fr fs l es bs).2.2.1 (bU th m fu fr fs l es bs).2.2.2.1 gn=_;rw[e]
end Ts
namespace Go.Sx
open Go
def adE:List Nat→List AV→(List AV→RM bH)→RM bH
 |[],args,k=>k args
 |id::ids,args,k=>.look id fun o=>match o with
  |some (.vec c _)=>((adE ids (args.map (mi id c)) k).abf id).kL id
  |_=>.fail "give up: no row"
def ah0(i:Nat)(s:Nat→List AV→RM bH):Nat→List AV→RM bH:=fun base args=>adE (abw (args.getD i (.s .aR))) args (s base)
def adF(cs:List (Nat×aL)):Nat→List AV→List AV
 |_,[]=>[]
 |j,.emp::r=>(match cs.find? (fun p=>p.1.beq j)with
  |some (_,c)=>bif c.n.beq 0 then .s (.ro c)else .emp
  |none=>.emp)::adF cs (j+1) r
 |j,a::r=>a::adF cs (j+1) r
def amc(cs:List (Nat×aL)):AV→AV
 |.agg ao=>.agg (adF cs 0 ao)
 |a=>a
def x8(i:Nat)(cs:List (Nat×aL))(s:Nat→List AV→RM bH):Nat→List AV→RM bH:=fun base args=>s base (match args[i]? with
 |some a=>args.set i (amc cs a)
 |none=>args)
section
variable{ρ aF:Nat→Value}{H H':aM}{G O O':Nat→Prop}{w w':World}{P:Program}{Z:aW}{X:Type}{S:Spec X}
theorem wm{cs:List (Nat×aL)}:∀(l:List AV) (j:Nat) {vs:List Value},aq ρ H O w l vs→aq ρ H O w (adF cs j l) vs
 |[],_,vs,h=>h
 |a::l,j,vs,h=>by
  obtain⟨c1,c2,rfl,h1,h2⟩:=ah.1 h;have ih:=wm (cs:=cs) l (j+1) h2;cases a with
  |emp=>
   refine ah.2 ⟨c1,c2,rfl, ?_,ih⟩;split
   ·rw[Bool.cond_eq_ite];split
    ·rename_i c _ hc;have hc:c.n=0:=by simpa using hc
     unfold aN at h1 ⊢;obtain⟨u,rfl,a,rfl⟩:=h1;exact⟨_,rfl,rK hc a⟩
    ·exact h1
   ·exact h1
  |_=>exact ah.2 ⟨c1,c2,rfl,h1,ih⟩
theorem afk{cs:List (Nat×aL)}{a:AV}{v:Value}(h:af ρ H O w a v):af ρ H O w (amc cs a) v:=by
 cases a with
 |agg ao=>
  unfold af at h;obtain⟨vs,rfl,h1⟩:=h;show af _ _ _ _ (.agg _) _;unfold af;exact⟨vs,rfl,wm _ _ h1⟩
 |_=>exact h
theorem fW{f:FuncId}{s:Nat→List AV→RM bH}(h:kZ P Z f s)(i:Nat)(cs:List (Nat×aL)):kZ P Z f (x8 i cs s):=by
 intro base args H q hq hn ρ G w vs dV hz hs hd;unfold x8 at hq;split at hq
 ·rename_i a ha;exact h base _ H q hq hn ρ G w vs dV hz hs (agQ hd ha fun v hv=>afk hv)
 ·exact h base _ H q hq hn ρ G w vs dV hz hs hd
theorem afl(hs:Sat ρ H G w){id:Nat}{c:aL}{e:TypeId}(ho:H id=some (.vec c e)){x:AV}{v:Value}(hx:af ρ H (aP ρ H G) w x v):
 af ρ (ax H id .dead) (aP ρ (ax H id .dead) G) w (mi id c x) v:=by
 have st:=eK (ρ:=ρ) (G:=G) (w:=w) ho;have gone:=sN hs ho
 have abF:∀x cs,aN ρ H (aP ρ H G) w x cs→aN ρ (ax H id .dead) (aP ρ (ax H id .dead) G) w (mh id c x) cs:=by
  intro x cs hx;have kO:=aN.step st x cs hx;cases x<;>try exact kO
  rename_i j;simp only[mh,Bool.cond_eq_ite];split
  ·rename_i hj;have hj:j=id:=by simpa using hj
   subst hj;unfold aN at hx ⊢;obtain⟨u,rfl,hu⟩:=hx;obtain⟨a,cap,hv,hr,_⟩:=iL hs ho (by unfold af;exact hu);exact⟨u,rfl,by rw[←hr];exact gone⟩
  ·exact kO
 have kW:∀(xs:List AV) cs,aq ρ H (aP ρ H G) w xs cs→aq ρ (ax H id .dead) (aP ρ (ax H id .dead) G) w (xs.map (mh id c)) cs:=by
  intro xs
  induction xs with
  |nil=>intro cs hx;exact aw.2 (aw.1 hx)
  |cons x xs ih=>
   intro cs hx;obtain⟨c1,c2,rfl,h1,h2⟩:=ah.1 hx;exact ah.2 ⟨c1,c2,rfl,abF _ _ h1,ih _ h2⟩
 have kO:=af.step st x v hx;cases x with
 |agg ao=>
  unfold af at hx;obtain⟨cs,rfl,h1⟩:=hx;show af _ _ _ _ (.agg _) _;unfold af;exact⟨cs,rfl,kW _ _ h1⟩
 |vec j=>
  simp only[mi,Bool.cond_eq_ite];split
  ·rename_i hj;have hj:j=id:=by simpa using hj
   subst hj;obtain⟨a,cap,hv,hr,_⟩:=iL hs ho hx;rw[←hr];exact az gone
  ·exact kO
 |_=>exact kO
theorem aao{f:FuncId}{s:Nat→List AV→RM bH}(h:kZ P Z f s){base:Nat}:∀(ids:List Nat) {args:List AV} {H:aM} {q:bH},(adE ids args (s base)).eval H=some q→bD q.need→
 ∀(ρ:Nat→Value) (G:Nat→Prop) (w:World) (vs:List Value),(∀j,j<q.new.length→H (base+j)=none)→ZAt Z ρ H w→Sat ρ H G w→bI ρ H (aP ρ H G) w args vs→
 Calls P f vs.toArray w fun e w'=>∃v,e=.returned v∧Good ρ H G w (cW H q.up base q.new) (q.r base) v w'
 |[],args,H,q,hq,hn,ρ,G,w,vs,dV,hz,hs,hd=>h base args H q hq hn ρ G w vs dV hz hs hd
 |id::ids,args,H,q,hq,hn,ρ,G,w,vs,dV,hz,hs,hd=>by
  simp only[adE,RM.eval]at hq;split at hq
  ·rename_i c el ho;obtain⟨q',h1,rfl⟩:=RM.kT _ hq;rw[RM.mZ]at h1;have st:=eK (ρ:=ρ) (G:=G) (w:=w) ho;have hz1:ZAt Z ρ (ax H id .dead) w:=⟨hz.1,fun b hb hO=>hz.2 b hb (fe hO)⟩
   have akw:∀j,j<q'.new.length→ax H id .dead (base+j)=none:=fun j hj=>by
    have:=dV j hj;simp only[ax];split
    ·rename_i e1;rw[e1,ho]at this;cases this
    ·exact this
   have hd1:bI ρ (ax H id .dead) (aP ρ (ax H id .dead) G) w (args.map (mi id c)) vs:=by
    clear h1 hq
    induction args generalizing vs with
    |nil=>exact(show bI _ _ _ _ [] vs by rw[aU.1 hd];unfold bI;rfl)
    |cons a args ih=>
     obtain⟨v,rest,rfl,g1,g2⟩:=aA.1 hd;exact aA.2 ⟨v,rest,rfl,afl hs ho g1,ih _ g2⟩
   refine(aao h ids h1 hn ρ G w vs akw hz1 (hs.kill ho) hd1).mono ?_;rintro en w' ⟨v,he,hg⟩;refine⟨v,he, ?_⟩
   have agc:cW H ((id,.dead)::q'.up) base q'.new=cW (ax H id .dead) q'.up base q'.new:=by
    funext j;simp only[cW,cr,ax];cases cr q'.up j with
    |some x=>rfl
    |none=>
     simp only[];by_cases hj:j=id
     ·subst hj
      have rm:¬(base≤j∧j<base+q'.new.length):=by
       rintro⟨k1,k2⟩;have:=dV (j - base) (by simp only[];omega);rw[show base+(j - base)=j from by omega,ho]at this;cases this
      simp[rm]
     ·simp[hj]
   simp only[];rw[agc];exact Good.after st (fun b hb=>fe hb) hg
  ·simp[RM.eval]at hq
theorem gZ{f:FuncId}{s:Nat→List AV→RM bH}(h:kZ P Z f s)(i:Nat):kZ P Z f (ah0 i s):=by
 intro base args H q hq hn ρ G w vs dV hz hs hd;exact aao h _ hq hn ρ G w vs dV hz hs hd
theorem uX{f:FuncId}{fn:Func}{aJ:List AV}{L:List ab}{K:List ab→AV→Prop}(hf:P.funcs[f]? =some fn)(hb:fn.body.isSome=true)(hn:aJ.length≤fn.ntmps)
 (h:∀X:Ctx,X.H=lk L→dP Z X→Safe P f X K (start fn aJ L)) (ρ:Nat→Value) (G:Nat→Prop) (w:World) (vs:List Value) (hz:ZAt Z ρ (lk L) w) (hs:Sat ρ (lk L) G w)
 (hd:bI ρ (lk L) (aP ρ (lk L) G) w aJ vs):Calls P f vs.toArray w (iR ⟨ρ,lk L,G,w,[]⟩ K):=by
 obtain⟨c,hb⟩:=Option.isSome_iff_exists.1 hb
 have mF:vs.length=aJ.length:=by
  have:∀{aJ:List AV} {vs:List Value},bI ρ (lk L) (aP ρ (lk L) G) w aJ vs→vs.length=aJ.length:=by
   intro aJ
   induction aJ with
   |nil=>intro vs h;rw[aU.1 h];rfl
   |cons a aJ ih=>intro vs h;obtain⟨v,rest,rfl,_,h2⟩:=aA.1 h;simp[ih h2]
  exact this hd
 refine hM (R:=iR ⟨ρ,lk L,G,w,[]⟩ K) hf hb ?_;have:=(h ⟨ρ,lk L,G,w,[]⟩ rfl hz).goes rfl rfl (ρ:=ρ) (a:={tmps:=vs.toArray++Array.replicate (fn.ntmps - vs.toArray.size) undef,defers:=[]}) (w:=w);simp only[start,hb,Option.getD_some]at this;refine this ⟨hs, ?_,fun t=> ?_,rfl,Step.refl _ _ _ _,⟨rfl,rfl,rfl,fun _ _ _=>rfl⟩,fun x hx=>by cases hx⟩
 ·simp[mF]
 ·have e1:∀(aJ:List AV) (vs:List Value),bI ρ (lk L) (aP ρ (lk L) G) w aJ vs→∀t,af ρ (lk L) (aP ρ (lk L) G) w (aJ.getD t (.bg [])) (vs.getD t undef):=by
   intro aJ
   induction aJ with
   |nil=>intro vs h t;rw[aU.1 h];simp only[List.getD,List.getElem?_nil,Option.getD_none];exact cC
   |cons a aJ ih=>
    intro vs h t;obtain⟨v,rest,rfl,h1,h2⟩:=aA.1 h;cases t with
    |zero=>simpa using h1
    |succ t=>simpa using ih rest h2 t
  have h1:=e1 _ _ hd t;simp only[List.getD_eq_getElem?_getD,List.getElem?_append,List.getElem?_replicate,Array.getD_eq_getD_getElem?,Array.getElem?_append,List.getElem?_toArray,Array.getElem?_replicate,List.size_toArray]at h1 ⊢;rw[mF];split
  ·rename_i ht;have hv:vs[t]? =some vs[t]:=List.getElem?_eq_getElem (by omega);have ha:aJ[t]? =some aJ[t]:=List.getElem?_eq_getElem ht;rw[hv,ha]at h1 ⊢;exact h1
  ·split
   ·exact cC
   ·unfold af;trivial
def uY{X:Type}(S:Spec X)(x:X)(L:List ab)(r:AV):Prop:=
 ∃(N:Norm) (vs os:List AV),r=.bg vs∧(S.heap x).length≤N.m∧N.run ⟨vs,L,[],{}⟩=some ⟨os,S.ez x,[],{}⟩∧∀(ρ:Nat→Value) (H:aM) (O:Nat→Prop) (w:World) (us:List Value),bI ρ H O w os us→af ρ H O w (S.out x) (.tuple us.toArray)
theorem adG:∀{os:List AV} {us:List Value},os.length=us.length→(∀t,af ρ H O w (os.getD t (.s .aR)) (us.getD t undef))→bI ρ H O w os us
 |[],[],_,_=>by unfold bI;rfl
 |[],_::_,h,_=>by simp at h
 |_::_,[],h,_=>by simp at h
 |a::os,u::us,hl,h=>aA.2 ⟨u,us,rfl,h 0,adG (by simpa using hl) fun t=>h (t+1)⟩
theorem fy{f:FuncId}{fn:Func}(hf:P.funcs[f]? =some fn)(hb:fn.body.isSome=true)(hn:∀x,(S.args x).length≤fn.ntmps)
 (h:∀x,bD (S.pre x)→∀X:Ctx,X.H=lk (S.heap x)→dP Z X→Safe P f X (uY S x) (start fn (S.args x) (S.heap x))):fC P Z f S:=by
 intro x kx ρ G w vs hz hs hd;refine(uX hf hb (hn x) (h x kx) ρ G w vs hz hs hd).mono ?_;rintro e w' ⟨v,rfl,L,r,⟨N,ts,os,rfl,hm,hN,hwk⟩,iq,g1,g2,g3,g4⟩;refine⟨v,rfl, ?_⟩;unfold af at g2;obtain⟨us,rfl,g2⟩:=g2
 have hlen:us.length=ts.length:=by
  have:∀{aJ:List AV} {vs:List Value},bI iq (fun id=>L[id]?) (aP iq (fun id=>L[id]?) G) w' aJ vs→vs.length=aJ.length:=by
   intro aJ
   induction aJ with
   |nil=>intro vs h;rw[aU.1 h];rfl
   |cons a aJ ih=>intro vs h;obtain⟨v,rest,rfl,_,h2⟩:=aA.1 h;simp[ih h2]
  exact this g2
 have r0:bY ⟨ρ,lk (S.heap x),G,w,[]⟩ iq ⟨ts,L⟩ {tmps:=us.toArray,defers:=[]} w':=by
  refine⟨g1,by simp[hlen],fun t=> ?_,rfl,g3,g4,fun x hx=>by cases hx⟩;clear hlen hN;have g2':bI iq (St.look ⟨ts,L⟩) (aP iq (St.look ⟨ts,L⟩) G) w' ts us:=g2;show af iq (St.look ⟨ts,L⟩) (aP iq (St.look ⟨ts,L⟩) G) w' (ts.getD t (.s .aR)) (us.toArray.getD t undef);generalize St.look ⟨ts,L⟩=H1 at g2' ⊢;clear g2 hwk
  induction ts generalizing us t with
  |nil=>simp only[List.getD,List.getElem?_nil,Option.getD_none];unfold af;trivial
  |cons a ts ih=>
   obtain⟨u,rest,rfl,k1,k2⟩:=aA.1 g2';cases t with
   |zero=>simpa using k1
   |succ t=>simpa[Array.getD_eq_getD_getElem?]using ih _ t k2
 have h0:∀id,N.m≤id→(⟨ρ,lk (S.heap x),G,w,[]⟩:Ctx).H id=none:=fun id de=>by simp[lk];omega
 have fin:∃ρ4,bY ⟨ρ,lk (S.heap x),G,w,[]⟩ ρ4 ⟨os,S.ez x⟩ {tmps:=us.toArray,defers:=[]} w':=by
  unfold Norm.run at hN;split at hN
  ·rename_i t1 L1 h1;simp only[]at hN;split at hN
   ·rename_i t2 L2 h2;simp only[Option.some.injEq,bw.mk.injEq,and_true]at hN;obtain⟨rfl,rfl⟩:=hN;obtain⟨iq,r1⟩:=bY.fq h0 h1 (bY.dR N.dO r0);obtain⟨fE,r2⟩:=bY.fL N.nH r1;obtain⟨ρ3,r3⟩:=bY.fM N.cells r2;obtain⟨ρ4,r4⟩:=bY.fq h0 h2 r3;exact⟨ρ4,r4⟩
   ·cases hN
  ·cases hN
 obtain⟨ρ4,r4⟩:=fin;refine⟨ρ4,r4.sat,hwk _ _ _ _ _ (adG ?_ fun t=> ?_),r4.from_,r4.ix⟩
 ·have:=r4.size;simpa using this
 ·have:=r4.den t;have e:(us.toArray.getD t undef)=us.getD t undef:=by simp[Array.getD_eq_getD_getElem?,List.getD_eq_getElem?_getD]
  rw[←e];exact this
theorem jC{S:Spec X}{x:X}{L:List ab}{vs os:List AV}{h:List ab}(N:Norm)(e:N.run ⟨vs,L,[],{}⟩=some ⟨os,h,[],{}⟩)(hm:(S.heap x).length≤N.m){os':List AV}(hw:nE os os')(ho:S.out x=.bg os')(hh:S.ez x=h):uY S x L (.bg vs):=
 ⟨N,vs,os,rfl,hm,by rw[hh];exact e,fun ρ H O w us hd=>by rw[ho];unfold af;exact⟨us,rfl,hw.den hd⟩⟩
theorem nE.same:∀(os:List AV),nE os os
 |[]=>.nil
 |a::os=>.cons (.one (.refl a)) (nE.same os)
end
end Go.Sx
namespace Ts
open Go Go.Sx Go.Proofs Lf
def mT:List AV→RM (XT×List Nat)
 |[.ptr id 0]=>.look id fun o=>match o with
  |some (.own [.ptr d 0,rt,.ints .u64 16 fr,.ints .u64 16 fs,.ints .u64 16 gn] _)=>(Ds.xG [.ptr d 0]).bind fun((th,m,fu),σ)=>match rt.cu with
   |some (_,_,root)=>.ret ((th,m,fu,root,fr,fs,gn),id::σ)
   |none=>.fail "no root"
  |_=>.fail "no tree's cells"
 |_=>.fail "no tree"
def aow:AV→Option (Bool×List En×List Br)
 |.agg [l,.s (.ro (.ad [.str,.str] es)),.s (.ro (.ad [.str,.int .i64] bs))]=>match l.eW with
  |some (_,b)=>some (b,es,bs)
  |none=>none
 |_=>none
def mTN:List AV→RM ((XT×Bool×List En×List Br)×List Nat)
 |[t,x]=>(mT [t]).bind fun(X,σ)=>match aow x with
  |some (l,es,bs)=>.ret ((X,l,es,bs),σ)
  |none=>.fail "no node"
 |_=>.fail "no tree and node"
abbrev amd(s:Nat→List AV→RM bH):=ah0 1 (x8 1 [(1,.ad cE []),(2,.ad cB [])] s)
abbrev aox:=amd (bZ aqL mTN)
abbrev atd:=cp [ed] [ed,ed,bB] (fun((_,es,bs,()),())=>[bh es,bk bs]) (fun((l,es,bs,()),())=>((cU l es bs,bF l es bs,bG l es bs,()),(cU l es bs,fv l es bs,fw l es bs,()),spC l es bs,()))
def ame:aH:=[(145,ama),(146,alW),(147,aox),(148,atd)]
theorem ate(th:Th)(m:As)(fu root:Int)(fr fs gn:Ws)(l:Bool)(es:List En)(bs:List Br):run P ame.sum Tryz.f112 [] (start Tryz.f112 [.ptr 0 0,avN l es bs] (hT th m fu root fr fs gn))=
 Tree.need (ay ((↑es.length:Int)+(↑bs.length:Int)))
 (.ite ((↑es.length:Int)+(↑bs.length:Int)==0) (.ret [.own [.ptr 1 0,.s (.int .i64 root),.ints .u64 16 fr,.ints .u64 16 fs,.ints .u64 16 gn] 115,.own [.vec 2,.ag 3,.s (.int .i64 fu)] 105,.vec (.ad [.arr .u8 64] th) 165,.map (.arr .u8 64) m,.own [.s (.bool l),.s (.ro (.ad [.str,.str] es)),.s (.ro (.ad [.str,.int .i64] bs))] 131] (.bg [.emp,.s (.aK .i64 0)]))
   (.need (bs.length≤1000)
     (.need (bh es)
       (.need (bk (aa bs))
         (.ite (decide (cH es (aa bs)≤254)) (.need (bn (some [AV.ptr 0 0,.agg [.s (.bool l),.s (.ro (.ad [.str,.str] es)),.s (.ro (.ad [.str,.int .i64] (aa bs)))]])) (.need (bn (some [ab.own [.ptr 1 0,.s (.int .i64 root),.ints .u64 16 fr,.ints .u64 16 fs,.ints .u64 16 gn] 115,.own [.vec 2,.ag 3,.s (.int .i64 fu)] 105,.vec (.ad [.arr .u8 64] th) 165,.map (.arr .u8 64) m])) (.need (Ds.bx th m fu) (.need (Bx.okW fr) (.need ((l=true→(0:Nat)<es.length)∧(l=false→(0:Nat)<(aa bs).length)) (.need (bh es) (.need (bk (aa bs)) (.ret [.own [.ptr 1 0,.s (.int .i64 root),.ints .u64 16 (bU th m fu fr fs l es (aa bs)).snd.snd.fst,.ints .u64 16 (bU th m fu fr fs l es (aa bs)).snd.snd.snd.fst,.ints .u64 16 gn] 115,.own [.vec 2,.ag 3,.s (.int .i64 (bU th m fu fr fs l es (aa bs)).snd.fst)] 105,.vec (.ad [.arr .u8 64] th) 165,.map (.arr .u8 64) (bU th m fu fr fs l es (aa bs)).fst,.own [.s (.bool l),.s (.ro (.ad [.str,.str] es)),.s (.ro (.ad [.str,.int .i64] (aa bs)))] 131,.own [.s (.str (bU th m fu fr fs l es (aa bs)).snd.snd.snd.snd.fst.fst),.s (.int .i64 (bU th m fu fr fs l es (aa bs)).snd.snd.snd.snd.fst.snd.fst)] 137,.vec (.ad [.str,.int .i64] [((bU th m fu fr fs l es (aa bs)).snd.snd.snd.snd.fst.fst,(bU th m fu fr fs l es (aa bs)).snd.snd.snd.snd.fst.snd.fst,())]) 137] (.bg [.vec 6,.s (.int .i64 (bU th m fu fr fs l es (aa bs)).snd.snd.snd.snd.snd)])))))))))
           (.need (bh es)
             (.need (bk (aa bs))
               (.ite (spC l es (aa bs) !=0) (.ret [.own [.ptr 1 0,.s (.int .i64 root),.ints .u64 16 fr,.ints .u64 16 fs,.ints .u64 16 gn] 115,.own [.vec 2,.ag 3,.s (.int .i64 fu)] 105,.vec (.ad [.arr .u8 64] th) 165,.map (.arr .u8 64) m,.own [.s (.bool l),.s (.ro (.ad [.str,.str] es)),.s (.ro (.ad [.str,.int .i64] (aa bs)))] 131,.vec (.ad [.str,.str] (bF l es (aa bs))) 66,.vec (.ad [.str,.int .i64] (bG l es (aa bs))) 137,.vec (.ad [.str,.str] (fv l es (aa bs))) 66,.vec (.ad [.str,.int .i64] (fw l es (aa bs))) 137,.own [.s (.bool (cU l es (aa bs))),.vec 5,.vec 6] 131,.own [.s (.bool (cU l es (aa bs))),.vec 7,.vec 8] 131] (.bg [.emp,.s (.int .i64 (spC l es (aa bs)))]))
                 (.need (bn (some [AV.ptr 0 0,.agg [.s (.bool (cU l es (aa bs))),.s (.ro (.ad [.str,.str] (bF l es (aa bs)))),.s (.ro (.ad [.str,.int .i64] (bG l es (aa bs))))]]))
                   (.need (bn (some [ab.own [.ptr 1 0,.s (.int .i64 root),.ints .u64 16 fr,.ints .u64 16 fs,.ints .u64 16 gn] 115,.own [.vec 2,.ag 3,.s (.int .i64 fu)] 105,.vec (.ad [.arr .u8 64] th) 165,.map (.arr .u8 64) m]))
                     (.need (Ds.bx th m fu)
                       (.need (Bx.okW fr)
                         (.need ((cU l es (aa bs)=true→(0:Nat)<(bF l es (aa bs)).length)∧(cU l es (aa bs)=false→(0:Nat)<(bG l es (aa bs)).length))
                           (.need (bh (bF l es (aa bs)))
                             (.need (bk (bG l es (aa bs)))
                               (.ite ((bU th m fu fr fs (cU l es (aa bs)) (bF l es (aa bs)) (bG l es (aa bs))).snd.snd.snd.snd.snd !=0) (.ret [.own [.ptr 1 0,.s (.int .i64 root),.ints .u64 16 (bU th m fu fr fs (cU l es (aa bs)) (bF l es (aa bs)) (bG l es (aa bs))).snd.snd.fst,.ints .u64 16 (bU th m fu fr fs (cU l es (aa bs)) (bF l es (aa bs)) (bG l es (aa bs))).snd.snd.snd.fst,.ints .u64 16 gn] 115,.own [.vec 2,.ag 3,.s (.int .i64 (bU th m fu fr fs (cU l es (aa bs)) (bF l es (aa bs)) (bG l es (aa bs))).snd.fst)] 105,.vec (.ad [.arr .u8 64] th) 165,.map (.arr .u8 64) (bU th m fu fr fs (cU l es (aa bs)) (bF l es (aa bs)) (bG l es (aa bs))).fst,.own [.s (.bool l),.s (.ro (.ad [.str,.str] es)),.s (.ro (.ad [.str,.int .i64] (aa bs)))] 131,.dead,.dead,.vec (.ad [.str,.str] (fv l es (aa bs))) 66,.vec (.ad [.str,.int .i64] (fw l es (aa bs))) 137,.own [.s (.bool (cU l es (aa bs))),.vec 5,.vec 6] 131,.own [.s (.bool (cU l es (aa bs))),.vec 7,.vec 8] 131,.own [.s (.str (bU th m fu fr fs (cU l es (aa bs)) (bF l es (aa bs)) (bG l es (aa bs))).snd.snd.snd.snd.fst.fst),.s (.int .i64 (bU th m fu fr fs (cU l es (aa bs)) (bF l es (aa bs)) (bG l es (aa bs))).snd.snd.snd.snd.fst.snd.fst)] 137] (.bg [.emp,.s (.int .i64 (bU th m fu fr fs (cU l es (aa bs)) (bF l es (aa bs)) (bG l es (aa bs))).snd.snd.snd.snd.snd)]))
                                 (.need (bn (some [AV.ptr 0 0,.agg [.s (.bool (cU l es (aa bs))),.s (.ro (.ad [.str,.str] (fv l es (aa bs)))),.s (.ro (.ad [.str,.int .i64] (fw l es (aa bs))))]]))
                                   (.need (bn (some [ab.own [.ptr 1 0,.s (.int .i64 root),.ints .u64 16 (bU th m fu fr fs (cU l es (aa bs)) (bF l es (aa bs)) (bG l es (aa bs))).snd.snd.fst,.ints .u64 16 (bU th m fu fr fs (cU l es (aa bs)) (bF l es (aa bs)) (bG l es (aa bs))).snd.snd.snd.fst,.ints .u64 16 gn] 115,.own [.vec 2,.ag 3,.s (.int .i64 (bU th m fu fr fs (cU l es (aa bs)) (bF l es (aa bs)) (bG l es (aa bs))).snd.fst)] 105,.vec (.ad [.arr .u8 64] th) 165,.map (.arr .u8 64) (bU th m fu fr fs (cU l es (aa bs)) (bF l es (aa bs)) (bG l es (aa bs))).fst]))
                                     (.need (Ds.bx th (bU th m fu fr fs (cU l es (aa bs)) (bF l es (aa bs)) (bG l es (aa bs))).fst (bU th m fu fr fs (cU l es (aa bs)) (bF l es (aa bs)) (bG l es (aa bs))).snd.fst)
                                       (.need (Bx.okW (bU th m fu fr fs (cU l es (aa bs)) (bF l es (aa bs)) (bG l es (aa bs))).snd.snd.fst)
                                         (.need ((cU l es (aa bs)=true→(0:Nat)<(fv l es (aa bs)).length)∧(cU l es (aa bs)=false→(0:Nat)<(fw l es (aa bs)).length))
                                           (.need (bh (fv l es (aa bs)))
                                             (.need (bk (fw l es (aa bs)))
                                               (.ret
                                                 [.own [.ptr 1 0,.s (.int .i64 root),.ints .u64 16 (bU th (bU th m fu fr fs (cU l es (aa bs)) (bF l es (aa bs)) (bG l es (aa bs))).fst (bU th m fu fr fs (cU l es (aa bs)) (bF l es (aa bs)) (bG l es (aa bs))).snd.fst (bU th m fu fr fs (cU l es (aa bs)) (bF l es (aa bs)) (bG l es (aa bs))).snd.snd.fst (bU th m fu fr fs (cU l es (aa bs)) (bF l es (aa bs)) (bG l es (aa bs))).snd.snd.snd.fst (cU l es (aa bs)) (fv l es (aa bs)) (fw l es (aa bs))).snd.snd.fst,.ints .u64 16 (bU th (bU th m fu fr fs (cU l es (aa bs)) (bF l es (aa bs)) (bG l es (aa bs))).fst (bU th m fu fr fs (cU l es (aa bs)) (bF l es (aa bs)) (bG l es (aa bs))).snd.fst (bU th m fu fr fs (cU l es (aa bs)) (bF l es (aa bs)) (bG l es (aa bs))).snd.snd.fst (bU th m fu fr fs (cU l es (aa bs)) (bF l es (aa bs)) (bG l es (aa bs))).snd.snd.snd.fst (cU l es (aa bs)) (fv l es (aa bs)) (fw l es (aa bs))).snd.snd.snd.fst,.ints .u64 16 gn] 115,.own [.vec 2,.ag 3,.s (.int .i64 (bU th (bU th m fu fr fs (cU l es (aa bs)) (bF l es (aa bs)) (bG l es (aa bs))).fst (bU th m fu fr fs (cU l es (aa bs)) (bF l es (aa bs)) (bG l es (aa bs))).snd.fst (bU th m fu fr fs (cU l es (aa bs)) (bF l es (aa bs)) (bG l es (aa bs))).snd.snd.fst (bU th m fu fr fs (cU l es (aa bs)) (bF l es (aa bs)) (bG l es (aa bs))).snd.snd.snd.fst (cU l es (aa bs)) (fv l es (aa bs)) (fw l es (aa bs))).snd.fst)] 105,.vec (.ad [.arr .u8 64] th) 165,.map (.arr .u8 64) (bU th (bU th m fu fr fs (cU l es (aa bs)) (bF l es (aa bs)) (bG l es (aa bs))).fst (bU th m fu fr fs (cU l es (aa bs)) (bF l es (aa bs)) (bG l es (aa bs))).snd.fst (bU th m fu fr fs (cU l es (aa bs)) (bF l es (aa bs)) (bG l es (aa bs))).snd.snd.fst (bU th m fu fr fs (cU l es (aa bs)) (bF l es (aa bs)) (bG l es (aa bs))).snd.snd.snd.fst (cU l es (aa bs)) (fv l es (aa bs)) (fw l es (aa bs))).fst,.own [.s (.bool l),.s (.ro (.ad [.str,.str] es)),.s (.ro (.ad [.str,.int .i64] (aa bs)))] 131,.dead,.dead,.dead,.dead,.own [.s (.bool (cU l es (aa bs))),.vec 5,.vec 6] 131,.own [.s (.bool (cU l es (aa bs))),.vec 7,.vec 8] 131,.own [.s (.str (bU th m fu fr fs (cU l es (aa bs)) (bF l es (aa bs)) (bG l es (aa bs))).snd.snd.snd.snd.fst.fst),.s (.int .i64 (bU th m fu fr fs (cU l es (aa bs)) (bF l es (aa bs)) (bG l es (aa bs))).snd.snd.snd.snd.fst.snd.fst)] 137,
                                                   .own [.s (.str (bU th (bU th m fu fr fs (cU l es (aa bs)) (bF l es (aa bs)) (bG l es (aa bs))).fst (bU th m fu fr fs (cU l es (aa bs)) (bF l es (aa bs)) (bG l es (aa bs))).snd.fst (bU th m fu fr fs (cU l es (aa bs)) (bF l es (aa bs)) (bG l es (aa bs))).snd.snd.fst (bU th m fu fr fs (cU l es (aa bs)) (bF l es (aa bs)) (bG l es (aa bs))).snd.snd.snd.fst (cU l es (aa bs)) (fv l es (aa bs)) (fw l es (aa bs))).snd.snd.snd.snd.fst.fst),.s (.int .i64 (bU th (bU th m fu fr fs (cU l es (aa bs)) (bF l es (aa bs)) (bG l es (aa bs))).fst (bU th m fu fr fs (cU l es (aa bs)) (bF l es (aa bs)) (bG l es (aa bs))).snd.fst (bU th m fu fr fs (cU l es (aa bs)) (bF l es (aa bs)) (bG l es (aa bs))).snd.snd.fst (bU th m fu fr fs (cU l es (aa bs)) (bF l es (aa bs)) (bG l es (aa bs))).snd.snd.snd.fst (cU l es (aa bs)) (fv l es (aa bs)) (fw l es (aa bs))).snd.snd.snd.snd.fst.snd.fst)] 137,.vec (.ad [.str,.int .i64] [((bU th m fu fr fs (cU l es (aa bs)) (bF l es (aa bs)) (bG l es (aa bs))).snd.snd.snd.snd.fst.fst,(bU th m fu fr fs (cU l es (aa bs)) (bF l es (aa bs)) (bG l es (aa bs))).snd.snd.snd.snd.fst.snd.fst,()),((bU th (bU th m fu fr fs (cU l es (aa bs)) (bF l es (aa bs)) (bG l es (aa bs))).fst (bU th m fu fr fs (cU l es (aa bs)) (bF l es (aa bs)) (bG l es (aa bs))).snd.fst (bU th m fu fr fs (cU l es (aa bs)) (bF l es (aa bs)) (bG l es (aa bs))).snd.snd.fst (bU th m fu fr fs (cU l es (aa bs)) (bF l es (aa bs)) (bG l es (aa bs))).snd.snd.snd.fst (cU l es (aa bs)) (fv l es (aa bs)) (fw l es (aa bs))).snd.snd.snd.snd.fst.fst,(bU th (bU th m fu fr fs (cU l es (aa bs)) (bF l es (aa bs)) (bG l es (aa bs))).fst (bU th m fu fr fs (cU l es (aa bs)) (bF l es (aa bs)) (bG l es (aa bs))).snd.fst (bU th m fu fr fs (cU l es (aa bs)) (bF l es (aa bs)) (bG l es (aa bs))).snd.snd.fst (bU th m fu fr fs (cU l es (aa bs)) (bF l es (aa bs)) (bG l es (aa bs))).snd.snd.snd.fst (cU l es (aa bs)) (fv l es (aa bs)) (fw l es (aa bs))).snd.snd.snd.snd.fst.snd.fst,())]) 137]
                                                 (.bg [.vec 13,.s (.int .i64 (bU th (bU th m fu fr fs (cU l es (aa bs)) (bF l es (aa bs)) (bG l es (aa bs))).fst (bU th m fu fr fs (cU l es (aa bs)) (bF l es (aa bs)) (bG l es (aa bs))).snd.fst (bU th m fu fr fs (cU l es (aa bs)) (bF l es (aa bs)) (bG l es (aa bs))).snd.snd.fst (bU th m fu fr fs (cU l es (aa bs)) (bF l es (aa bs)) (bG l es (aa bs))).snd.snd.snd.fst (cU l es (aa bs)) (fv l es (aa bs)) (fw l es (aa bs))).snd.snd.snd.snd.snd)]))))))))))))))))))))))))):=by kernel_rfl
abbrev x9(l:Bool)(es:List En)(bs:List Br):Prop:=(l=true→bs=[])∧(l=false→es=[])
abbrev sWs:Spec (XT×Bool×List En×List Br):=⟨fun(_,l,es,bs)=>[.ptr 0 0,avN l es bs],fun((th,m,fu,root,fr,fs,gn),_)=>hT th m fu root fr fs gn,
 fun((th,m,fu,_,fr,_,_),l,es,bs)=>[Ds.bx th m fu,Bx.okW fr,x9 l es bs,bh es,bk bs],
 fun((th,m,fu,root,fr,fs,gn),l,es,bs)=>hT th (bJ th m fu fr fs l es bs).1 (bJ th m fu fr fs l es bs).2.1 root (bJ th m fu fr fs l es bs).2.2.1 (bJ th m fu fr fs l es bs).2.2.2.1 gn++[.vec (.ad cB (bJ th m fu fr fs l es bs).2.2.2.2.1) Lf.eB],
 fun((th,m,fu,_,fr,fs,_),l,es,bs)=>.bg [.vec 4,bE (bJ th m fu fr fs l es bs).2.2.2.2.2]⟩
theorem ya{th:Th}{m:As}{fu:Int}{fr fs:Ws}{l:Bool}{es:List En}{bs:List Br}(hd:Ds.bx th m fu)(hf:Bx.okW fr):Ds.bx th (bU th m fu fr fs l es bs).1 (bU th m fu fr fs l es bs).2.1∧Bx.okW (bU th m fu fr fs l es bs).2.2.1:=by
 have gd:=Ds.ap6 (n:=Bx.bS fr 0) (s:=dX l es (aa bs)) hd;unfold bU;split
 ·exact⟨hd,hf⟩
 ·split
  ·exact⟨hd,hf⟩
  ·split
   ·exact⟨gd,hf⟩
   ·exact⟨gd,(Bx.aak hf _).1⟩
theorem afm(bs:List Br):(aa bs).length=bs.length:=by cases bs<;>rfl
theorem akx{l:Bool}{es:List En}{bs:List Br}(ok:fN l es bs=true):(cU l es bs=true→0<(bF l es bs).length∧0<(fv l es bs).length)∧(cU l es bs=false→0<(bG l es bs).length∧0<(fw l es bs).length):=by
 have ok':=ok;simp only[fN,Bool.and_eq_true,decide_eq_true_eq]at ok';obtain⟨hm,h2⟩:=ok';obtain⟨m1,m2,_,_⟩:=eI hm;have b1:=z7 (aO es bs) (es.length+bs.length - 1) (by omega);have b2:=rO (aO es bs) (es.length+bs.length - 1);have c:0<gl es bs∧gl es bs≤es.length+bs.length - 1:=⟨b1,b2⟩;simp only[cU,bF,fv,bG,fw,ok,if_true,Bool.true_and,List.length_take,List.length_drop];refine⟨fun e=> ?_,fun e=> ?_⟩
 ·have:=m1 e;subst this;simp only[List.length_nil]at *;omega
 ·have:=m2 e;subst this;simp only[List.length_nil]at *;omega
theorem ah1:ame.Ok P Bx.bO:=aH.Ok.cons adC.tg (aH.Ok.cons adm.sum (aH.Ok.cons (gZ (fW (tz.sum mTN) 1 _) 1) (aH.Ok.cons ahq.sum aH.Ok.nil)))
theorem jc:fC P Bx.bO 112 sWs:=by
 refine fy Tryz.func112 (by kernel_rfl) (fun x=>Nat.le_of_ble_eq_true (by kernel_rfl)) ?_;rintro⟨⟨(th:Th),(m:As),(fu:Int),(root:Int),(fr:Ws),(fs:Ws),(gn:Ws)⟩,(l:Bool),(es:List En),(bs:List Br)⟩ ⟨(hd:Ds.bx th m fu),(hf:Bx.okW fr),⟨(hl1:l=true→bs=[]),(vC:l=false→es=[])⟩,(he:bh es),(hb:bk bs),_⟩ X hX hz;have fin:∀{w:Wrs},bJ th m fu fr fs l es bs=w→hT th (bJ th m fu fr fs l es bs).1 (bJ th m fu fr fs l es bs).2.1 root (bJ th m fu fr fs l es bs).2.2.1 (bJ th m fu fr fs l es bs).2.2.2.1 gn++[.vec (.ad cB (bJ th m fu fr fs l es bs).2.2.2.2.1) Lf.eB]=hT th w.1 w.2.1 root w.2.2.1 w.2.2.2.1 gn++[.vec (.ad cB w.2.2.2.2.1) Lf.eB]∧
  AV.bg [.vec 4,bE (bJ th m fu fr fs l es bs).2.2.2.2.2]=.bg [.vec 4,bE w.2.2.2.2.2]:=fun e=>by rw[e];exact⟨rfl,rfl⟩
 have hbb:=rh hb;refine Ds.cR hz hX (by intro y hy;cases hy) ah1 Tryz.func112 (ate th m fu root fr fs gn l es bs) ⟨?_,fun h=> ?_,fun h=>⟨hb.1,he,hbb,fun h2=>⟨rfl,rfl,hd,hf, ?_,he,hbb, ?_⟩,fun h2=>⟨he,hbb,fun h3=> ?_,fun h3=> ?_⟩⟩⟩
 ·have:=he.1;have:=hb.1;exact⟨by omega,by omega⟩
 ·have h:(es.length:Int)+bs.length=0:=by simpa using h
  obtain⟨f1,f2⟩:=fin (w:=(m,fu,fr,fs,[],0)) (by unfold bJ;rw[if_pos (by omega)]);exact jC ⟨[(0,.ad cB [],Lf.eB)],[0,1],4,[]⟩ rfl (Nat.le_refl _) (nE.same _) f2 f1
 ·have h:¬((es.length:Int)+bs.length=0):=by simpa using h
  rw[afm];refine⟨fun e=>Nat.pos_of_ne_zero fun h0=>h ?_,fun e=>Nat.pos_of_ne_zero fun h0=>h ?_⟩
  ·rw[hl1 e,h0];rfl
  ·rw[vC e,h0];rfl
 ·have h:¬((es.length:Int)+bs.length=0):=by simpa using h
  have h2:=of_decide_eq_true h2;obtain⟨f1,f2⟩:=fin (w:=((bU th m fu fr fs l es (aa bs)).1,(bU th m fu fr fs l es (aa bs)).2.1,(bU th m fu fr fs l es (aa bs)).2.2.1,(bU th m fu fr fs l es (aa bs)).2.2.2.1,[(bU th m fu fr fs l es (aa bs)).2.2.2.2.1],(bU th m fu fr fs l es (aa bs)).2.2.2.2.2)) (by unfold bJ;rw[if_neg (by omega),if_pos h2]);exact jC ⟨[],[0,1],4,[]⟩ rfl (Nat.le_refl _) (nE.same _) f2 f1
 ·have h:¬((es.length:Int)+bs.length=0):=by simpa using h
  have h2:=of_decide_eq_false h2;have h3:spC l es (aa bs)≠0:=by simpa using h3
  obtain⟨f1,f2⟩:=fin (w:=(m,fu,fr,fs,[],spC l es (aa bs))) (by unfold bJ;rw[if_neg (by omega),if_neg h2,if_pos h3]);exact jC ⟨[(0,.ad cB [],Lf.eB)],[0,1],4,[]⟩ rfl (Nat.le_refl _) (nE.same _) f2 f1
 ·have h:¬((es.length:Int)+bs.length=0):=by simpa using h
  have h2:=of_decide_eq_false h2;have h3:spC l es (aa bs)=0:=by simpa using h3
  have ok:=aov (l:=l) (es:=es) (bs:=aa bs) (by rw[h3];rfl);obtain⟨q1,q2,q3,q4,_,_,_,q5,q6,_,_⟩:=afj ok he hbb
  have hmn:eu l es (aa bs)=true:=by
   simp only[fN,Bool.and_eq_true]at ok;exact ok.1
  have hsp:cU l es (aa bs)=l:=by unfold cU;rw[ok,Bool.true_and]
  obtain⟨p1,p2⟩:=akx ok;have n1:(cU l es (aa bs)=true→0<(bF l es (aa bs)).length)∧(cU l es (aa bs)=false→0<(bG l es (aa bs)).length):=⟨fun e=>(p1 e).1,fun e=>(p2 e).1⟩;have n2:(cU l es (aa bs)=true→0<(fv l es (aa bs)).length)∧(cU l es (aa bs)=false→0<(fw l es (aa bs)).length):=⟨fun e=>(p1 e).2,fun e=>(p2 e).2⟩;obtain⟨w1,w2⟩:=ya (fs:=fs) (l:=cU l es (aa bs)) (es:=bF l es (aa bs)) (bs:=bG l es (aa bs)) hd hf;refine⟨rfl,rfl,hd,hf,n1,q1,q2,fun h4=> ?_,fun h4=>⟨rfl,rfl,w1,w2,n2,q3,q4, ?_⟩⟩
  ·have h4:(bU th m fu fr fs (cU l es (aa bs)) (bF l es (aa bs)) (bG l es (aa bs))).2.2.2.2.2≠0:=by simpa using h4
   obtain⟨f1,f2⟩:=fin (w:=((bU th m fu fr fs (cU l es (aa bs)) (bF l es (aa bs)) (bG l es (aa bs))).1,(bU th m fu fr fs (cU l es (aa bs)) (bF l es (aa bs)) (bG l es (aa bs))).2.1,(bU th m fu fr fs (cU l es (aa bs)) (bF l es (aa bs)) (bG l es (aa bs))).2.2.1,(bU th m fu fr fs (cU l es (aa bs)) (bF l es (aa bs)) (bG l es (aa bs))).2.2.2.1,[],(bU th m fu fr fs (cU l es (aa bs)) (bF l es (aa bs)) (bG l es (aa bs))).2.2.2.2.2)) (by unfold bJ;rw[if_neg (by omega),if_neg h2,if_neg (by rw[h3];simp),if_pos h4]);exact jC ⟨[(0,.ad cB [],Lf.eB)],[0,1],4,[]⟩ rfl (Nat.le_refl _) (nE.same _) f2 f1
  ·have h4:¬(bU th m fu fr fs (cU l es (aa bs)) (bF l es (aa bs)) (bG l es (aa bs))).2.2.2.2.2≠0:=by simpa using h4
   obtain⟨f1,f2⟩:=fin (w:=two (bU th m fu fr fs (cU l es (aa bs)) (bF l es (aa bs)) (bG l es (aa bs))) (bU th (bU th m fu fr fs (cU l es (aa bs)) (bF l es (aa bs)) (bG l es (aa bs))).1 (bU th m fu fr fs (cU l es (aa bs)) (bF l es (aa bs)) (bG l es (aa bs))).2.1 (bU th m fu fr fs (cU l es (aa bs)) (bF l es (aa bs)) (bG l es (aa bs))).2.2.1 (bU th m fu fr fs (cU l es (aa bs)) (bF l es (aa bs)) (bG l es (aa bs))).2.2.2.1 (cU l es (aa bs)) (fv l es (aa bs)) (fw l es (aa bs)))) (by unfold bJ;rw[if_neg (by omega),if_neg h2,if_neg (by rw[h3];simp),if_neg h4]);exact jC ⟨[],[0,1],4,[]⟩ rfl (Nat.le_refl _) (nE.same _) f2 f1
end Ts
