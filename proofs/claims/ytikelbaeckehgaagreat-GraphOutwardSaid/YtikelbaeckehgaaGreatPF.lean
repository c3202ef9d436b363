/- Lemmas: EF, EG, EI, EJ, EK, EL, EM, EN. -/
import Derived.Test.YtikelbaeckehgaaGreatPE
open Go.Proofs.Tryz
open Go.IntKind (i64 u64 u8)
open Bool (and_eq_true)
open ByteArray (empty)
open List (append_assoc cons_append getElem?_eq_none getElem_mem length_append length_cons mem_append)
open Nat (le_trans zero_add)
noncomputable section
namespace Ds
open Go Go.Sx Go.Proofs Lf
abbrev atq:=sumOf [] [aZ] (λ_=>[]) (λ()=>(true,()))
abbrev atr:=fm (oG [bh] ak4 ak3) (fo [bh])
abbrev ats(F:AL [bh,bg,jx]->AL [sL]):=dY [bh,bg,jx] [sL] abQ F
def hfP(ps:Ps)(cs:Ss)(nm:ByteArray)(k ev:Int)(ky:ByteArray):ByteArray:=(gb ps cs nm k ev ky).1.1
def hfN(ps:Ps)(cs:Ss)(nm:ByteArray)(k ev:Int)(ky:ByteArray):Int:=(gb ps cs nm k ev ky).1.2.1
def hfL(ps:Ps)(cs:Ss)(nm:ByteArray)(k ev:Int)(ky:ByteArray):Ss:=(gb ps cs nm k ev ky).2.1
def hfB(ps:Ps)(cs:Ss)(nm:ByteArray)(k ev:Int)(ky:ByteArray):Bool:=(gb ps cs nm k ev ky).2.2
abbrev FHb:AL [bh,te,y7,gC,bg]->AL [y7,te,aZ]:=λ(ps,cs,(nm,k,()),ev,ky,())=>(siO (hfP ps cs nm k ev ky) (hfN ps cs nm k ev ky),hfL ps cs nm k ev ky,hfB ps cs nm k ev ky,())
abbrev att:=dY [bh,te,y7,gC,bg] [y7,te,aZ] aeD FHb
def kc(F:AL [bh,bg,jx]->AL [sL]):aQ:=[(4,atq),(5,atr),(6,ats F),(7,att),(8,ajd)]
def fl:List (Nat×Norm):=[(3,⟨[],[0,1,2,3,4,5],0,[]⟩),(6,⟨[],[0,2,3,4,5,13],0,[]⟩),(11,⟨[],[0,4,5,13,15,16,17],0,[]⟩),(13,⟨[],[0,4,5,13,15,16,17],0,[]⟩),(15,⟨[],[0,4,5,13,15,16,17,19,20],0,[]⟩),(16,⟨[],[0,4,5,13,15,16,17,19,20],0,[]⟩),(19,⟨[],[0,4,5,13,15,16,19],0,[]⟩),(22,⟨[],[0,4,5,16,21],0,[]⟩),(23,⟨[],[0,4,5,16,21,22],0,[]⟩),(24,⟨[],[0,4,5,16,21,22],0,[]⟩),(26,⟨[],[0,4,5,16,21,22],0,[]⟩),(31,⟨[],[0,4,5,16,21,22,23,24],0,[]⟩),(34,⟨[],[0,4,5,16,21,22,23],0,[]⟩),(35,⟨[],[],0,[]⟩)]
def ae3(r1:Ps)(i1:Int)(i2:Int)(r2:List Int)(i3:Int)(s1:ByteArray):aR:=⟨sl 229 [(0,(.s (.ro (.ab cP r1)))),(1,(.s (.int .i64 i1))),(2,(.s (.int .i64 i2))),(3,(.s (.ro (.ay .i64 r2)))),(4,(.s (.int .u8 i3))),(5,(.s (.str s1)))],[],(hr f3 3),(bt.mk none false 0 [] 0)⟩
def aad(r1:Ps)(i1:Int)(r2:List Int)(i2:Int)(s1:ByteArray)(s2:ByteArray)(r3:Vs)(r4:Ns)(r5:Fs):aR:=⟨sl 229 [(0,(.s (.ro (.ab cP r1)))),(2,(.s (.int .i64 i1))),(3,(.s (.ro (.ay .i64 r2)))),(4,(.s (.int .u8 i2))),(5,(.s (.str s1))),(13,(.ptr 0 0))],[(.ad [(.s (.str s2)),(.s (.ro (.ab cV r3))),(.s (.ro (.ab cN r4))),(.s (.ro (.ab cF r5)))] 30)],(hr f3 6),(bt.mk none false 0 [] 0)⟩
def wT(r1:Ps)(i1:Int)(s1:ByteArray)(r2:Ss)(s2:ByteArray)(r3:Vs)(r4:Ns)(r5:Fs)(s3:ByteArray)(i2:Int)(r6:Ss):aR:=⟨sl 229 [(0,(.s (.ro (.ab cP r1)))),(4,(.s (.int .u8 i1))),(5,(.s (.str s1))),(13,(.ptr 0 0)),(15,(.s (.ro (.ab bZ r2)))),(16,(.ptr 1 0)),(17,(.vec 2))],[(.ad [(.s (.str s2)),(.s (.ro (.ab cV r3))),(.s (.ro (.ab cN r4))),(.s (.ro (.ab cF r5)))] 30),(.ad [(.s (.str s3)),(.s (.int .i64 i2))] 33),(.vec (.ab bZ r6) 33)],(hr f3 11),(bt.mk none false 0 [] 0)⟩
def abS(r1:Ps)(i1:Int)(s1:ByteArray)(r2:Ss)(s2:ByteArray)(r3:Vs)(r4:Ns)(r5:Fs)(s3:ByteArray)(i2:Int)(r6:Ss):aR:=⟨sl 229 [(0,(.s (.ro (.ab cP r1)))),(4,(.s (.int .u8 i1))),(5,(.s (.str s1))),(13,(.ptr 0 0)),(15,(.s (.ro (.ab bZ r2)))),(16,(.ptr 1 0)),(17,(.vec 2))],[(.ad [(.s (.str s2)),(.s (.ro (.ab cV r3))),(.s (.ro (.ab cN r4))),(.s (.ro (.ab cF r5)))] 30),(.ad [(.s (.str s3)),(.s (.int .i64 i2))] 33),(.vec (.ab bZ r6) 33)],(hr f3 13),(bt.mk none false 0 [] 0)⟩
def qV(r1:Ps)(i1:Int)(s1:ByteArray)(r2:Ss)(i2:Int)(i3:Int)(s2:ByteArray)(r3:Vs)(r4:Ns)(r5:Fs)(s3:ByteArray)(i4:Int)(r6:Ss):aR:=⟨sl 229 [(0,(.s (.ro (.ab cP r1)))),(4,(.s (.int .u8 i1))),(5,(.s (.str s1))),(13,(.ptr 0 0)),(15,(.s (.ro (.ab bZ r2)))),(16,(.ptr 1 0)),(17,(.vec 2)),(19,(.s (.int .i64 i2))),(20,(.s (.int .i64 i3)))],[(.ad [(.s (.str s2)),(.s (.ro (.ab cV r3))),(.s (.ro (.ab cN r4))),(.s (.ro (.ab cF r5)))] 30),(.ad [(.s (.str s3)),(.s (.int .i64 i4))] 33),(.vec (.ab bZ r6) 33)],(hd f3 15),(bt.mk none false 0 [] 0)⟩
def abT(r1:Ps)(i1:Int)(s1:ByteArray)(r2:Ss)(i2:Int)(i3:Int)(s2:ByteArray)(r3:Vs)(r4:Ns)(r5:Fs)(s3:ByteArray)(i4:Int)(r6:Ss):aR:=⟨sl 229 [(0,(.s (.ro (.ab cP r1)))),(4,(.s (.int .u8 i1))),(5,(.s (.str s1))),(13,(.ptr 0 0)),(15,(.s (.ro (.ab bZ r2)))),(16,(.ptr 1 0)),(17,(.vec 2)),(19,(.s (.int .i64 i2))),(20,(.s (.int .i64 i3)))],[(.ad [(.s (.str s2)),(.s (.ro (.ab cV r3))),(.s (.ro (.ab cN r4))),(.s (.ro (.ab cF r5)))] 30),(.ad [(.s (.str s3)),(.s (.int .i64 i4))] 33),(.vec (.ab bZ r6) 33)],(hr f3 16),(bt.mk none false 0 [] 0)⟩
def wU(r1:Ps)(i1:Int)(s1:ByteArray)(r2:Ss)(i2:Int)(s2:ByteArray)(r3:Vs)(r4:Ns)(r5:Fs)(s3:ByteArray)(i3:Int):aR:=⟨sl 229 [(0,(.s (.ro (.ab cP r1)))),(4,(.s (.int .u8 i1))),(5,(.s (.str s1))),(13,(.ptr 0 0)),(15,(.s (.ro (.ab bZ r2)))),(16,(.ptr 1 0)),(19,(.s (.int .i64 i2)))],[(.ad [(.s (.str s2)),(.s (.ro (.ab cV r3))),(.s (.ro (.ab cN r4))),(.s (.ro (.ab cF r5)))] 30),(.ad [(.s (.str s3)),(.s (.int .i64 i3))] 33)],(hr f3 19),(bt.mk none false 0 [] 0)⟩
def qW(r1:Ps)(i1:Int)(s1:ByteArray)(s2:ByteArray)(s3:ByteArray)(i2:Int):aR:=⟨sl 229 [(0,(.s (.ro (.ab cP r1)))),(4,(.s (.int .u8 i1))),(5,(.s (.str s1))),(16,(.ptr 0 0)),(21,(.s (.str s2)))],[(.ad [(.s (.str s3)),(.s (.int .i64 i2))] 33)],(hr f3 22),(bt.mk none false 0 [] 0)⟩
def qX(r1:Ps)(i1:Int)(s1:ByteArray)(s2:ByteArray)(i2:Int)(s3:ByteArray)(i3:Int):aR:=⟨sl 229 [(0,(.s (.ro (.ab cP r1)))),(4,(.s (.int .u8 i1))),(5,(.s (.str s1))),(16,(.ptr 0 0)),(21,(.s (.str s2))),(22,(.s (.int .i64 i2)))],[(.ad [(.s (.str s3)),(.s (.int .i64 i3))] 33)],(hd f3 23),(bt.mk none false 0 [] 0)⟩
def qY(r1:Ps)(i1:Int)(s1:ByteArray)(s2:ByteArray)(i2:Int)(s3:ByteArray)(i3:Int):aR:=⟨sl 229 [(0,(.s (.ro (.ab cP r1)))),(4,(.s (.int .u8 i1))),(5,(.s (.str s1))),(16,(.ptr 0 0)),(21,(.s (.str s2))),(22,(.s (.int .i64 i2)))],[(.ad [(.s (.str s3)),(.s (.int .i64 i3))] 33)],(hr f3 24),(bt.mk none false 0 [] 0)⟩
def wV(r1:Ps)(i1:Int)(s1:ByteArray)(s2:ByteArray)(i2:Int)(s3:ByteArray)(i3:Int):aR:=⟨sl 229 [(0,(.s (.ro (.ab cP r1)))),(4,(.s (.int .u8 i1))),(5,(.s (.str s1))),(16,(.ptr 0 0)),(21,(.s (.str s2))),(22,(.s (.int .i64 i2)))],[(.ad [(.s (.str s3)),(.s (.int .i64 i3))] 33)],(hr f3 26),(bt.mk none false 0 [] 0)⟩
def alj:aR:=⟨sl 229 [],[],(hr f3 35),(bt.mk none false 0 [] 0)⟩
def abU(r1:Ps)(i1:Int)(s1:ByteArray)(s2:ByteArray)(i2:Int)(i3:Int)(s3:ByteArray)(i4:Int)(s4:ByteArray)(i5:Int)(i6:Int)(i7:Int)(i8:Int)(s5:ByteArray)(s6:ByteArray)(s7:ByteArray)(b1:Bool)(r2:Vs)(r3:List ByteArray):aR:=⟨sl 229 [(0,(.s (.ro (.ab cP r1)))),(4,(.s (.int .u8 i1))),(5,(.s (.str s1))),(16,(.ptr 0 0)),(21,(.s (.str s2))),(22,(.s (.int .i64 i2))),(23,(.ptr 1 0)),(24,(.s (.int .i64 i3)))],[(.ad [(.s (.str s3)),(.s (.int .i64 i4))] 33),(.ad [(.s (.str s4)),(.s (.int .u8 i5)),(.s (.int .i64 i6)),(.s (.int .i64 i7)),(.s (.int .u8 i8)),(.s (.str s5)),(.s (.str s6)),(.s (.str s7)),(.s (.bool b1)),(.s (.ro (.ab cV r2))),(.s (.ro (.strs r3)))] 40)],(hr f3 31),(bt.mk none false 0 [] 0)⟩
def qZ(r1:Ps)(i1:Int)(s1:ByteArray)(s2:ByteArray)(i2:Int)(s3:ByteArray)(i3:Int)(s4:ByteArray)(i4:Int)(i5:Int)(i6:Int)(i7:Int)(s5:ByteArray)(s6:ByteArray)(s7:ByteArray)(b1:Bool)(r2:Vs)(r3:List ByteArray):aR:=⟨sl 229 [(0,(.s (.ro (.ab cP r1)))),(4,(.s (.int .u8 i1))),(5,(.s (.str s1))),(16,(.ptr 0 0)),(21,(.s (.str s2))),(22,(.s (.int .i64 i2))),(23,(.ptr 1 0))],[(.ad [(.s (.str s3)),(.s (.int .i64 i3))] 33),(.ad [(.s (.str s4)),(.s (.int .u8 i4)),(.s (.int .i64 i5)),(.s (.int .i64 i6)),(.s (.int .u8 i7)),(.s (.str s5)),(.s (.str s6)),(.s (.str s7)),(.s (.bool b1)),(.s (.ro (.ab cV r2))),(.s (.ro (.strs r3)))] 40)],(hr f3 34),(bt.mk none false 0 [] 0)⟩
theorem aqG(F:AL [bh,bg,jx]->AL [sL])(F:AL [bh,bg,jx]->AL [sL])(ps:Ps)(w n:Int)(ks:List Int)(ev:Int)(ky:ByteArray):run P (kc F).sum f3 fl (start f3 [.s (.ro (.ab cP ps)),aT w,aT n,.s (.ro (.ay .i64 ks)),jb ev,.s (.str ky)] [])=
 Tree.ite false (.ret [] (.s (.bool true))) (.aa (bN (some [AV.s (.ro (.ab cP ps))])) (.aa ba (.aa (okM ps) (.both True (abP ps=0) (.ret [] (.s (.bool true))) (.ite ((↑(List.length ps):Int)==0) (.ret [] (.s (.bool true))) (.ite (decide ((↑ks.length:Int)>20)) (.ret [] (.s (.bool true))) (.ite (decide ((↑ky.size:Int)>100)) (.ret [] (.s (.bool true))) (.at (ae3 ps w n ks ev ky))))))))):=by kernel_rfl
theorem alk(F:AL [bh,bg,jx]→AL [sL])(r1:Ps)(i1:Int)(i2:Int)(r2:List Int)(i3:Int)(s1:ByteArray):run P (kc F).sum f3 fl (ae3 r1 i1 i2 r2 i3 s1)=
 Tree.aa (u64.wrap (↑(List.length r1):Int)≠(0:Int)) (Tree.aa ((0:Int)≤i64.wrap ((u64.wrap i1).tmod (u64.wrap (↑(List.length r1):Int)))) (Tree.aa (i64.wrap ((u64.wrap i1).tmod (u64.wrap (↑(List.length r1):Int)))<(↑(List.length r1):Int)) (Tree.ite ((↑(pO (el r1 (i64.wrap ((u64.wrap i1).tmod (u64.wrap (↑(List.length r1):Int)))))).length:Int)==(0:Int)) (Tree.ret [au.ad [AV.s (SV.str (pN (el r1 (i64.wrap ((u64.wrap i1).tmod (u64.wrap (↑(List.length r1):Int))))))),AV.s (SV.ro (aS.ab cV (pV (el r1 (i64.wrap ((u64.wrap i1).tmod (u64.wrap (↑(List.length r1):Int)))))))),AV.s (SV.ro (aS.ab cN (pO (el r1 (i64.wrap ((u64.wrap i1).tmod (u64.wrap (↑(List.length r1):Int)))))))),AV.s (SV.ro (aS.ab cF (pF (el r1 (i64.wrap ((u64.wrap i1).tmod (u64.wrap (↑(List.length r1):Int))))))))] (30:Nat)] (AV.s (SV.ao true))) (Tree.at (aad r1 i2 r2 i3 s1 (pN (el r1 (i64.wrap ((u64.wrap i1).tmod (u64.wrap (↑(List.length r1):Int)))))) (pV (el r1 (i64.wrap ((u64.wrap i1).tmod (u64.wrap (↑(List.length r1):Int)))))) (pO (el r1 (i64.wrap ((u64.wrap i1).tmod (u64.wrap (↑(List.length r1):Int)))))) (pF (el r1 (i64.wrap ((u64.wrap i1).tmod (u64.wrap (↑(List.length r1):Int))))))))))):=by kernel_rfl
theorem alm(F:AL [bh,bg,jx]→AL [sL])(r1:Ps)(i1:Int)(r2:List Int)(i2:Int)(s1:ByteArray)(s2:ByteArray)(r3:Vs)(r4:Ns)(r5:Fs):run P (kc F).sum f3 fl (aad r1 i1 r2 i2 s1 s2 r3 r4 r5)=
 Tree.aa (u64.wrap (↑(List.length r4):Int)≠(0:Int)) (Tree.aa (cq r1) (Tree.aa (List.length r1≤(100:Nat)) (Tree.aa (cq r1) (Tree.aa (List.length (F (r1,s2,r2,())).1≤(1000000:Nat)) (Tree.ite (!hfB r1 (F (r1,s2,r2,())).1 s2 (i64.wrap ((u64.wrap i1).tmod (u64.wrap (↑(List.length r4):Int)))) i2 s1) (Tree.ite (decide (hfP r1 (F (r1,s2,r2,())).1 s2 (i64.wrap ((u64.wrap i1).tmod (u64.wrap (↑(List.length r4):Int)))) i2 s1=empty)&&(hfN r1 (F (r1,s2,r2,())).1 s2 (i64.wrap ((u64.wrap i1).tmod (u64.wrap (↑(List.length r4):Int)))) i2 s1==(0:Int)&&true)) (Tree.ret [au.ad [AV.s (SV.str s2),AV.s (SV.ro (aS.ab cV r3)),AV.s (SV.ro (aS.ab cN r4)),AV.s (SV.ro (aS.ab cF r5))] (30:Nat),au.ad [AV.s (SV.str s2),AV.s (SV.int i64 (i64.wrap ((u64.wrap i1).tmod (u64.wrap (↑(List.length r4):Int)))))] (33:Nat),au.vec (aS.ab bZ (hfL r1 (F (r1,s2,r2,())).1 s2 (i64.wrap ((u64.wrap i1).tmod (u64.wrap (↑(List.length r4):Int)))) i2 s1)) (33:Nat),au.ad [AV.s (SV.str (hfP r1 (F (r1,s2,r2,())).1 s2 (i64.wrap ((u64.wrap i1).tmod (u64.wrap (↑(List.length r4):Int)))) i2 s1)),AV.s (SV.int i64 (hfN r1 (F (r1,s2,r2,())).1 s2 (i64.wrap ((u64.wrap i1).tmod (u64.wrap (↑(List.length r4):Int)))) i2 s1))] (33:Nat)] (AV.s (SV.bool ((↑(List.length (hfL r1 (F (r1,s2,r2,())).1 s2 (i64.wrap ((u64.wrap i1).tmod (u64.wrap (↑(List.length r4):Int)))) i2 s1)):Int)==(0:Int))))) (Tree.ret [au.ad [AV.s (SV.str s2),AV.s (SV.ro (aS.ab cV r3)),AV.s (SV.ro (aS.ab cN r4)),AV.s (SV.ro (aS.ab cF r5))] (30:Nat),au.ad [AV.s (SV.str s2),AV.s (SV.int i64 (i64.wrap ((u64.wrap i1).tmod (u64.wrap (↑(List.length r4):Int)))))] (33:Nat),au.vec (aS.ab bZ (hfL r1 (F (r1,s2,r2,())).1 s2 (i64.wrap ((u64.wrap i1).tmod (u64.wrap (↑(List.length r4):Int)))) i2 s1)) (33:Nat),au.ad [AV.s (SV.str (hfP r1 (F (r1,s2,r2,())).1 s2 (i64.wrap ((u64.wrap i1).tmod (u64.wrap (↑(List.length r4):Int)))) i2 s1)),AV.s (SV.int i64 (hfN r1 (F (r1,s2,r2,())).1 s2 (i64.wrap ((u64.wrap i1).tmod (u64.wrap (↑(List.length r4):Int)))) i2 s1))] (33:Nat)] (AV.s (SV.ao false)))) (Tree.at (wT r1 i2 s1 (F (r1,s2,r2,())).1 s2 r3 r4 r5 (hfP r1 (F (r1,s2,r2,())).1 s2 (i64.wrap ((u64.wrap i1).tmod (u64.wrap (↑(List.length r4):Int)))) i2 s1) (hfN r1 (F (r1,s2,r2,())).1 s2 (i64.wrap ((u64.wrap i1).tmod (u64.wrap (↑(List.length r4):Int)))) i2 s1) (hfL r1 (F (r1,s2,r2,())).1 s2 (i64.wrap ((u64.wrap i1).tmod (u64.wrap (↑(List.length r4):Int)))) i2 s1)))))))):=by kernel_rfl
theorem ahu(F:AL [bh,bg,jx]->AL [sL])(r1:Ps)(i1:Int)(s1:ByteArray)(r2:Ss)(s2:ByteArray)(r3:Vs)(r4:Ns)(r5:Fs)(s3:ByteArray)(i2:Int)(r6:Ss):run P (kc F).sum f3 fl (wT r1 i1 s1 r2 s2 r3 r4 r5 s3 i2 r6)=
 Tree.ite (decide ((↑(List.length r6):Int)>(↑(List.length r2):Int))) (.ret [.ad [.s (.str s2),.s (.ro (.ab cV r3)),.s (.ro (.ab cN r4)),.s (.ro (.ab cF r5))] 30,.ad [.s (.str s3),.s (.int .i64 i2)] 33,.vec (.ab bZ r6) 33] (.s (.ao false))) (.at (abS r1 i1 s1 r2 s2 r3 r4 r5 s3 i2 r6)):=by kernel_rfl
theorem ahv(F:AL [bh,bg,jx]->AL [sL])(r1:Ps)(i1:Int)(s1:ByteArray)(r2:Ss)(s2:ByteArray)(r3:Vs)(r4:Ns)(r5:Fs)(s3:ByteArray)(i2:Int)(r6:Ss):run P (kc F).sum f3 fl (abS r1 i1 s1 r2 s2 r3 r4 r5 s3 i2 r6)=
 Tree.aa (aD ((↑(List.length r2):Int) - (↑(List.length r6):Int))) (.at (qV r1 i1 s1 r2 ((↑(List.length r2):Int) - (↑(List.length r6):Int)) 0 s2 r3 r4 r5 s3 i2 r6)):=by kernel_rfl
theorem yc(F:AL [bh,bg,jx]->AL [sL])(r1:Ps)(i1:Int)(s1:ByteArray)(r2:Ss)(i2:Int)(i3:Int)(s2:ByteArray)(r3:Vs)(r4:Ns)(r5:Fs)(s3:ByteArray)(i4:Int)(r6:Ss):run P (kc F).sum f3 fl (qV r1 i1 s1 r2 i2 i3 s2 r3 r4 r5 s3 i4 r6)=
 Tree.ite (decide (i3<(↑(List.length r6):Int))) (.aa ((0:Int)<=i3) (.aa (i3<(↑(List.length r6):Int)) (.aa (aD (i2+i3)) (.aa ((0:Int)<=i2+i3) (.aa (i2+i3<(↑(List.length r2):Int)) (.ite (!(decide (sP (el r6 i3)=sP (el r2 (i2+i3)))&&(sN (el r6 i3)==sN (el r2 (i2+i3))&&true))) (.ret [.ad [.s (.str s2),.s (.ro (.ab cV r3)),.s (.ro (.ab cN r4)),.s (.ro (.ab cF r5))] 30,.ad [.s (.str s3),.s (.int .i64 i4)] 33,.vec (.ab bZ r6) 33] (.s (.ao false))) (.at (abT r1 i1 s1 r2 i2 i3 s2 r3 r4 r5 s3 i4 r6)))))))) (.at (wU r1 i1 s1 r2 i2 s2 r3 r4 r5 s3 i4)):=by kernel_rfl
theorem ahw(F:AL [bh,bg,jx]->AL [sL])(r1:Ps)(i1:Int)(s1:ByteArray)(r2:Ss)(i2:Int)(i3:Int)(s2:ByteArray)(r3:Vs)(r4:Ns)(r5:Fs)(s3:ByteArray)(i4:Int)(r6:Ss):run P (kc F).sum f3 fl (abT r1 i1 s1 r2 i2 i3 s2 r3 r4 r5 s3 i4 r6)=
 Tree.aa (aD (i3+1)) (.at (qV r1 i1 s1 r2 i2 (i3+1) s2 r3 r4 r5 s3 i4 r6)):=by kernel_rfl
theorem yd(F:AL [bh,bg,jx]->AL [sL])(r1:Ps)(i1:Int)(s1:ByteArray)(r2:Ss)(i2:Int)(s2:ByteArray)(r3:Vs)(r4:Ns)(r5:Fs)(s3:ByteArray)(i3:Int):run P (kc F).sum f3 fl (wU r1 i1 s1 r2 i2 s2 r3 r4 r5 s3 i3)=
 Tree.ite (decide (i2>0)) (.aa (aD (i2 - (1:Int))) (.aa ((0:Int)<=i2 - (1:Int)) (.aa (i2 - (1:Int)<(↑(List.length r2):Int)) (.at (qW r1 i1 s1 (sP (el r2 (i2 - (1:Int)))) s3 i3))))) (.at (qW r1 i1 s1 s2 s3 i3)):=by kernel_rfl
theorem ahx(F:AL [bh,bg,jx]->AL [sL])(r1:Ps)(i1:Int)(s1:ByteArray)(s2:ByteArray)(s3:ByteArray)(i2:Int):run P (kc F).sum f3 fl (qW r1 i1 s1 s2 s3 i2)=
 Tree.at (qX r1 i1 s1 s2 0 s3 i2):=by kernel_rfl
theorem ye(F:AL [bh,bg,jx]->AL [sL])(r1:Ps)(i1:Int)(s1:ByteArray)(s2:ByteArray)(i2:Int)(s3:ByteArray)(i3:Int):run P (kc F).sum f3 fl (qX r1 i1 s1 s2 i2 s3 i3)=
 Tree.ite (decide (i2<(↑(List.length r1):Int))) (.aa ((0:Int)<=i2) (.aa (i2<(↑(List.length r1):Int)) (.ite (!decide (pN (el r1 i2)=s2)) (.at (qY r1 i1 s1 s2 i2 s3 i3)) (.ite (decide (i3<0)) (.at (qY r1 i1 s1 s2 i2 s3 i3)) (.aa ((0:Int)<=i2) (.aa (i2<(↑(List.length r1):Int)) (.ite (decide (i3>=(↑(pO (el r1 i2)).length:Int))) (.at (qY r1 i1 s1 s2 i2 s3 i3)) (.at (wV r1 i1 s1 s2 i2 s3 i3))))))))) (.at alj):=by kernel_rfl
theorem ahy(F:AL [bh,bg,jx]->AL [sL])(r1:Ps)(i1:Int)(s1:ByteArray)(s2:ByteArray)(i2:Int)(s3:ByteArray)(i3:Int):run P (kc F).sum f3 fl (qY r1 i1 s1 s2 i2 s3 i3)=
 Tree.aa (aD (i2+1)) (.at (qX r1 i1 s1 s2 (i2+1) s3 i3)):=by kernel_rfl
theorem ahz(F:AL [bh,bg,jx]->AL [sL])(r1:Ps)(i1:Int)(s1:ByteArray)(s2:ByteArray)(i2:Int)(s3:ByteArray)(i3:Int):run P (kc F).sum f3 fl (wV r1 i1 s1 s2 i2 s3 i3)=
 Tree.aa ((0:Int)<=i2) (.aa (i2<(↑(List.length r1):Int)) (.aa ((0:Int)<=i3) (.aa (i3<(↑(pO (el r1 i2)).length:Int)) (.ite (nK (el (pO (el r1 i2)) i3)==13) (.aa ((0:Int)<=i2) (.aa (i2<(↑(List.length r1):Int)) (.aa ((pO (el r1 i2)).length<=1000000) (.ite (!j6 (pO (el r1 i2)) i3) (.ret [.ad [.s (.str s3),.s (.int .i64 i3)] 33,.ad [.s (.str (nN (el (pO (el r1 i2)) i3))),.s (.int .u8 (nK (el (pO (el r1 i2)) i3))),.s (.int .i64 (nI (el (pO (el r1 i2)) i3))),.s (.int .i64 (nO (el (pO (el r1 i2)) i3))),.s (.int .u8 (nE (el (pO (el r1 i2)) i3))),.s (.str (nY (el (pO (el r1 i2)) i3))),.s (.str (nT (el (pO (el r1 i2)) i3))),.s (.str (nS (el (pO (el r1 i2)) i3))),.s (.bool (nB (el (pO (el r1 i2)) i3))),.s (.ro (.ab cV (nV (el (pO (el r1 i2)) i3)))),.s (.ro (.strs (nZ (el (pO (el r1 i2)) i3))))] 40] (.s (.ao false))) (.at (abU r1 i1 s1 s2 i2 (bk (pO (el r1 i2)) i3) s3 i3 (nN (el (pO (el r1 i2)) i3)) (nK (el (pO (el r1 i2)) i3)) (nI (el (pO (el r1 i2)) i3)) (nO (el (pO (el r1 i2)) i3)) (nE (el (pO (el r1 i2)) i3)) (nY (el (pO (el r1 i2)) i3)) (nT (el (pO (el r1 i2)) i3)) (nS (el (pO (el r1 i2)) i3)) (nB (el (pO (el r1 i2)) i3)) (nV (el (pO (el r1 i2)) i3)) (nZ (el (pO (el r1 i2)) i3)))))))) (.ite (nK (el (pO (el r1 i2)) i3) !=15) (.ret [.ad [.s (.str s3),.s (.int .i64 i3)] 33,.ad [.s (.str (nN (el (pO (el r1 i2)) i3))),.s (.int .u8 (nK (el (pO (el r1 i2)) i3))),.s (.int .i64 (nI (el (pO (el r1 i2)) i3))),.s (.int .i64 (nO (el (pO (el r1 i2)) i3))),.s (.int .u8 (nE (el (pO (el r1 i2)) i3))),.s (.str (nY (el (pO (el r1 i2)) i3))),.s (.str (nT (el (pO (el r1 i2)) i3))),.s (.str (nS (el (pO (el r1 i2)) i3))),.s (.bool (nB (el (pO (el r1 i2)) i3))),.s (.ro (.ab cV (nV (el (pO (el r1 i2)) i3)))),.s (.ro (.strs (nZ (el (pO (el r1 i2)) i3))))] 40] (.s (.ao false))) (.at (qZ r1 i1 s1 s2 i2 s3 i3 (nN (el (pO (el r1 i2)) i3)) (nK (el (pO (el r1 i2)) i3)) (nI (el (pO (el r1 i2)) i3)) (nO (el (pO (el r1 i2)) i3)) (nE (el (pO (el r1 i2)) i3)) (nY (el (pO (el r1 i2)) i3)) (nT (el (pO (el r1 i2)) i3)) (nS (el (pO (el r1 i2)) i3)) (nB (el (pO (el r1 i2)) i3)) (nV (el (pO (el r1 i2)) i3)) (nZ (el (pO (el r1 i2)) i3))))))))):=by kernel_rfl
theorem ahA(F:AL [bh,bg,jx]->AL [sL])(r1:Ps)(i1:Int)(s1:ByteArray)(s2:ByteArray)(i2:Int)(i3:Int)(s3:ByteArray)(i4:Int)(s4:ByteArray)(i5:Int)(i6:Int)(i7:Int)(i8:Int)(s5:ByteArray)(s6:ByteArray)(s7:ByteArray)(b1:Bool)(r2:Vs)(r3:List ByteArray):run P (kc F).sum f3 fl (abU r1 i1 s1 s2 i2 i3 s3 i4 s4 i5 i6 i7 i8 s5 s6 s7 b1 r2 r3)=
 Tree.aa ((0:Int)<=i2) (.aa (i2<(↑(List.length r1):Int)) (.aa ((0:Int)<=i3) (.aa (i3<(↑(pO (el r1 i2)).length:Int)) (.at (qZ r1 i1 s1 s2 i2 s3 i4 (nN (el (pO (el r1 i2)) i3)) (nK (el (pO (el r1 i2)) i3)) (nI (el (pO (el r1 i2)) i3)) (nO (el (pO (el r1 i2)) i3)) (nE (el (pO (el r1 i2)) i3)) (nY (el (pO (el r1 i2)) i3)) (nT (el (pO (el r1 i2)) i3)) (nS (el (pO (el r1 i2)) i3)) (nB (el (pO (el r1 i2)) i3)) (nV (el (pO (el r1 i2)) i3)) (nZ (el (pO (el r1 i2)) i3))))))):=by kernel_rfl
theorem ahB(F:AL [bh,bg,jx]->AL [sL])(r1:Ps)(i1:Int)(s1:ByteArray)(s2:ByteArray)(i2:Int)(s3:ByteArray)(i3:Int)(s4:ByteArray)(i4:Int)(i5:Int)(i6:Int)(i7:Int)(s5:ByteArray)(s6:ByteArray)(s7:ByteArray)(b1:Bool)(r2:Vs)(r3:List ByteArray):run P (kc F).sum f3 fl (qZ r1 i1 s1 s2 i2 s3 i3 s4 i4 i5 i6 i7 s5 s6 s7 b1 r2 r3)=
 Tree.ite (decide (s3=s2)) (.ite (i7==i1) (.ite (decide (s5=s1)) (.ite (i1==4) (.ret [.ad [.s (.str s3),.s (.int .i64 i3)] 33,.ad [.s (.str s4),.s (.int .u8 i4),.s (.int .i64 i5),.s (.int .i64 i6),.s (.int .u8 i7),.s (.str s5),.s (.str s6),.s (.str s7),.s (.bool b1),.s (.ro (.ab cV r2)),.s (.ro (.strs r3))] 40] (.s (.ao true))) (.ret [.ad [.s (.str s3),.s (.int .i64 i3)] 33,.ad [.s (.str s4),.s (.int .u8 i4),.s (.int .i64 i5),.s (.int .i64 i6),.s (.int .u8 i7),.s (.str s5),.s (.str s6),.s (.str s7),.s (.bool b1),.s (.ro (.ab cV r2)),.s (.ro (.strs r3))] 40] (.s (.bool (i1==5))))) (.ite (decide (s5=empty)) (.ite (i1==4) (.ret [.ad [.s (.str s3),.s (.int .i64 i3)] 33,.ad [.s (.str s4),.s (.int .u8 i4),.s (.int .i64 i5),.s (.int .i64 i6),.s (.int .u8 i7),.s (.str s5),.s (.str s6),.s (.str s7),.s (.bool b1),.s (.ro (.ab cV r2)),.s (.ro (.strs r3))] 40] (.s (.ao true))) (.ret [.ad [.s (.str s3),.s (.int .i64 i3)] 33,.ad [.s (.str s4),.s (.int .u8 i4),.s (.int .i64 i5),.s (.int .i64 i6),.s (.int .u8 i7),.s (.str s5),.s (.str s6),.s (.str s7),.s (.bool b1),.s (.ro (.ab cV r2)),.s (.ro (.strs r3))] 40] (.s (.bool (i1==5))))) (.ret [.ad [.s (.str s3),.s (.int .i64 i3)] 33,.ad [.s (.str s4),.s (.int .u8 i4),.s (.int .i64 i5),.s (.int .i64 i6),.s (.int .u8 i7),.s (.str s5),.s (.str s6),.s (.str s7),.s (.bool b1),.s (.ro (.ab cV r2)),.s (.ro (.strs r3))] 40] (.s (.ao false))))) (.ret [.ad [.s (.str s3),.s (.int .i64 i3)] 33,.ad [.s (.str s4),.s (.int .u8 i4),.s (.int .i64 i5),.s (.int .i64 i6),.s (.int .u8 i7),.s (.str s5),.s (.str s6),.s (.str s7),.s (.bool b1),.s (.ro (.ab cV r2)),.s (.ro (.strs r3))] 40] (.s (.ao false)))) (.ret [.ad [.s (.str s3),.s (.int .i64 i3)] 33,.ad [.s (.str s4),.s (.int .u8 i4),.s (.int .i64 i5),.s (.int .i64 i6),.s (.int .u8 i7),.s (.str s5),.s (.str s6),.s (.str s7),.s (.bool b1),.s (.ro (.ab cV r2)),.s (.ro (.strs r3))] 40] (.s (.ao false))):=by kernel_rfl
theorem aln{Z:aP}:cf P Z 7 [bh,te,y7,gC,bg] [y7,te,aZ] aeD FHb:=cf.cg aeE λ⟨ps,cs,⟨nm,k,⟨⟩⟩,ev,ky,⟨⟩⟩=>rfl
theorem ani{Z:aP}{F:AL [bh,bg,jx]->AL [sL]}(hw:cf P Z 4 [] [aZ] (λ_=>[]) (λ()=>(true,())))(hF:cf P Z 6 [bh,bg,jx] [sL] abQ F):(kc F).Ok P Z:=
 aQ.Ok.cons hw.sum (aQ.Ok.cons (ang.sum (fo [bh])) (aQ.Ok.cons hF.dY (aQ.Ok.cons aln.dY (aQ.Ok.cons aja.sum aQ.Ok.nil))))
theorem ae4{q:ByteArray->Int->Bool}{l:List Int}{ky:ByteArray}:(b5 q l ky).2=true->(b5 q l ky).1∈l/\(q ky (b5 q l ky).1=true\/q empty (b5 q l ky).1=true):=by
 unfold b5;cases h1:l.find? (q ky)with
 |some n=>exact λ_=>⟨List.mem_of_find?_eq_some h1,.inl (List.find?_some h1)⟩|none=>
  cases h2:l.find? (q empty)with
  |some n=>exact λ_=>⟨List.mem_of_find?_eq_some h2,.inr (List.find?_some h2)⟩|none=>exact λh=>by cases h
def AtP(ev:Int)(ky:ByteArray)(p:CL cP)(h:CL bZ):Prop:=sP h=pN p/\((∃ip,(b5 (lU (pO p) ev) (bu (pO p) ip) ky).2=true/\sN h=(b5 (lU (pO p) ev) (bu (pO p) ip) ky).1)\/(∃ip,(b5 (lI (pO p) ev) (cQ (pO p) ip) ky).2=true/\sN h=(b5 (lI (pO p) ev) (cQ (pO p) ip) ky).1))
def alo(ps:Ps)(ev:Int)(ky:ByteArray)(p:CL cP)(cs:Ss)(r:HR):Prop:=r.2.2=true->(r.2.1=cs/\AtP ev ky p r.1)\/(∃pre c,cs=pre++c::r.2.1/\AtP ev ky (ag ps (sP c)) r.1)
theorem abV{ps:Ps}{ev:Int}{ky:ByteArray}{cs:Ss}{p:CL cP}{ip:Int}{k:Int->Bool->HR}(h:∀i b,alo ps ev ky p cs (k i b)):alo ps ev ky p cs (lJ ev ky cs p ip k):=by
 unfold lJ;split
 ·next hc=>
  rw[and_eq_true]at hc;exact λ_=>.inl ⟨rfl,rfl,.inl ⟨ip,hc.2,rfl⟩⟩
 ·exact h _ _
theorem wW{ps:Ps}{ev:Int}{ky:ByteArray}:∀(d:Nat) (cs:Ss) (p:CL cP) (ip:Int) (b:Bool),alo ps ev ky p cs (ga ps ev ky d cs p ip b)
 |0,_,_,_,_=>λh=>by cases h
 |d+1,cs,p,ip,b=>by
  unfold ga;split
  ·next hc=>
   rw[and_eq_true]at hc;exact λ_=>.inl ⟨rfl,rfl,.inr ⟨ip,hc.2,rfl⟩⟩
  ·split
   ·exact abV λi b=>wW d cs p i b
   ·cases cs with
    |nil=>exact λh=>by cases h
    |cons c e9=>
     show alo ps ev ky p (c::e9) (if dC (pO (ag ps (sP c))) (sN c)then lJ ev ky e9 (ag ps (sP c)) (sN c) (ga ps ev ky d e9 (ag ps (sP c)))else noH);by_cases hi:dC (pO (ag ps (sP c))) (sN c)=true
     ·rw[if_pos hi];intro hr;rcases abV (ps:=ps) (λi b=>wW d e9 (ag ps (sP c)) i b) hr with⟨h1,h2⟩|⟨pre,c',h1,h2⟩
      ·exact .inr ⟨[],c,by rw[h1];rfl,h2⟩
      ·exact .inr ⟨c::pre,c',by rw[cons_append,<-h1],h2⟩
     ·rw[if_neg hi];exact λh=>by cases h
theorem ahC{ps:Ps}{cs:Ss}{p:CL cP}{k ev:Int}{ky:ByteArray}:alo ps ev ky p cs (lK ps cs p k ev ky):=by
 unfold lK;split
 ·next hc=>
  rw[and_eq_true]at hc;exact λ_=>.inl ⟨rfl,rfl,.inl ⟨k,hc.1,rfl⟩⟩
 ·exact wW _ _ _ _ _
theorem alp{ps:Ps}{cs:Ss}{nm:ByteArray}{k ev:Int}{ky:ByteArray}(h:(gb ps cs nm k ev ky).2.2=true):(ev=4\/ev=5)/\dC (pO (ag ps nm)) k=true/\gb ps cs nm k ev ky=lK ps cs (ag ps nm) k ev ky:=by
 unfold gb at h ⊢;by_cases h1:(!dC (pO (ag ps nm)) k)=true;rw[if_pos h1]at h;cases h;rw[if_neg h1]at h ⊢;by_cases h2:(ev !=4&&ev !=5)=true;rw[if_pos h2]at h;cases h;rw[if_neg h2];refine⟨?_,by simpa using h1,rfl⟩;by_cases e4:ev=4;exact .inl e4;by_cases e5:ev=5;exact .inr e5;exact absurd (by simp[e4,e5]) h2
theorem wX{cs:List CK}{p:CL cs->Bool}{l:List (CL cs)}{x:Int}(h:x∈dH p l 0):0<=x/\x<(l.length:Int)/\p (el l x)=true:=by
 have go:∀(m:List (CL cs)) (i:Int),x∈dH p m i->∃k:Nat,∃hk:k<m.length,x=i+k/\p m[k]=true:=by
  intro m
  induction m with
  |nil=>intro i h;cases h
  |cons y m ih=>
   intro i h;rcases mem_append.1 h with h|h;cases hp:p y with
   |true=>
    rw[hp]at h;exact⟨0,Nat.zero_lt_succ _,by simpa using h,hp⟩
   |false=>rw[hp]at h;cases h
   have⟨k,hk,e,h2⟩:=ih (i+1) h;exact⟨k+1,Nat.succ_lt_succ hk,by omega,h2⟩
 have⟨k,hk,e,h2⟩:=go l 0 h;rw[Int.zero_add]at e;rw[e];exact⟨by omega,by omega,by rw[j5 hk];exact h2⟩
theorem ae5{ps:Ps}{nm:ByteArray}{k:Int}(h:dC (pO (ag ps nm)) k=true):∃i:Nat,∃hi:i<ps.length,ag ps nm=ps[i]/\pN ps[i]=nm/\∀j (hj:j<i),pN (ps[j]'(by omega))≠nm:=by
 rcases jK (p:=pDf nm) (l:=ps)with⟨e,_⟩|⟨i,e,hi,h2,h3⟩;rw[(ai8 e).1]at h;have h:0<=k/\k<(0:Int):=of_decide_eq_true h;exact absurd h (by omega);refine⟨i,hi, ?_,of_decide_eq_true h2,λj hj=>of_decide_eq_false (h3 j hj)⟩;have e:acV ps nm=(i:Int):=e;show el ps (pb ps nm)=ps[i];unfold pb;rw[if_pos (by omega),e,j5 hi]
def okX(ns:Ns)(ev:Int)(ky:ByteArray)(k:Int):Prop:=nE (el ns k)=ev/\(nY (el ns k)=ky\/nY (el ns k)=empty)
def okH(ns:Ns)(ev:Int)(ky:ByteArray)(k:Int):Prop:=dC ns k=true/\((nK (el ns k)=15/\okX ns ev ky k)\/(nK (el ns k)=13/\j6 ns k=true/\dC ns (bk ns k)=true/\okX ns ev ky (bk ns k)))
theorem alq{ns:Ns}{k:Int}(h:dC ns k=true):aM ns k=el ns k:=by
 rw[<-nQ];exact if_pos (of_decide_eq_true h)
theorem abW{ns:Ns}{k:Int}(h:j6 ns k=true):dC ns (bk ns k)=true:=by
 have h:0<(jz ns k).length:=of_decide_eq_true h
 have h2:bk ns k∈jz ns k:=by
  show(jz ns k).getD 0 0∈_;rw[cK h];exact getElem_mem h
 have⟨h3,h4,_⟩:=wX h2;exact decide_eq_true ⟨h3,h4⟩
theorem aqH{ev:Int}{ky:ByteArray}{p:CL cP}{h:CL bZ}(a:AtP ev ky p h):sP h=pN p/\okH (pO p) ev ky (sN h):=by
 obtain⟨e,⟨ip,h1,h2⟩|⟨ip,h1,h2⟩⟩:=a;refine⟨e, ?_⟩;have⟨h3,h4⟩:=ae4 h1;rw[<-h2]at h3 h4;have⟨h5,h6,h7⟩:=wX h3;have c9:dC (pO p) (sN h)=true:=decide_eq_true ⟨h5,h6⟩;unfold pBo at h7;rw[and_eq_true]at h7;refine⟨c9,.inl ⟨eq_of_beq h7.1, ?_⟩⟩;unfold lU at h4;rw[c9,alq c9]at h4;simp only[Bool.true_and,and_eq_true,decide_eq_true_eq]at h4;rcases h4 with⟨q,r⟩|⟨q,r⟩;exact⟨eq_of_beq q,.inl r⟩;exact⟨eq_of_beq q,.inr r⟩;refine⟨e, ?_⟩;have⟨h3,h4⟩:=ae4 h1;rw[<-h2]at h3 h4;have⟨h5,h6,h7⟩:=wX h3;have c9:dC (pO p) (sN h)=true:=decide_eq_true ⟨h5,h6⟩;unfold pAs at h7;rw[and_eq_true]at h7;unfold lI at h4
 have hs:j6 (pO p) (sN h)=true:=by
  rcases h4 with h4|h4<;>· simp only[and_eq_true]at h4;exact h4.1.1
 refine⟨c9,.inr ⟨eq_of_beq h7.1,hs,abW hs, ?_⟩⟩;rw[hs,alq (abW hs)]at h4;simp only[Bool.true_and,and_eq_true,decide_eq_true_eq]at h4;rcases h4 with⟨q,r⟩|⟨q,r⟩;exact⟨eq_of_beq q,.inl r⟩;exact⟨eq_of_beq q,.inr r⟩
def sV(cs left:Ss)(nm:ByteArray):ByteArray:=if 0<cs.length - left.length then sP (cs.getD (cs.length - left.length - 1) (CL.d bZ))else nm
theorem ahD{ps:Ps}{cs:Ss}{nm:ByteArray}{k ev:Int}{ky:ByteArray}(h:(gb ps cs nm k ev ky).2.2=true):(ev=4\/ev=5)/\(∃pre,cs=pre++(gb ps cs nm k ev ky).2.1)/\sP (gb ps cs nm k ev ky).1=sV cs (gb ps cs nm k ev ky).2.1 nm/\okH (pO (ag ps (sV cs (gb ps cs nm k ev ky).2.1 nm))) ev ky (sN (gb ps cs nm k ev ky).1):=by
 have⟨h1,h2,h3⟩:=alp h;rw[h3]at h ⊢
 have fin:∀{q:ByteArray},AtP ev ky (ag ps q) (lK ps cs (ag ps nm) k ev ky).1->sP (lK ps cs (ag ps nm) k ev ky).1=q/\okH (pO (ag ps q)) ev ky (sN (lK ps cs (ag ps nm) k ev ky).1):=λ{q} a=>by
  have⟨e,o⟩:=aqH a;have⟨i,hi,e2,e3,_⟩:=ae5 o.1;exact⟨by rw[e,e2,e3],o⟩
 rcases ahC h with⟨e,a⟩|⟨pre,c,e,a⟩;refine⟨h1,⟨[],by rw[e];rfl⟩, ?_⟩
 have eo:sV cs (lK ps cs (ag ps nm) k ev ky).2.1 nm=nm:=by
  unfold sV;rw[e,if_neg (by omega)]
 rw[eo];exact fin a;have hl:=congrArg List.length e;rw[length_append,length_cons]at hl
 have eo:sV cs (lK ps cs (ag ps nm) k ev ky).2.1 nm=sP c:=by
  unfold sV;rw[if_pos (by omega),show cs.length - (lK ps cs (ag ps nm) k ev ky).2.1.length - 1=pre.length from by omega];have hp:pre.length<cs.length:=by omega
  rw[cK hp];congr 1;have:=List.getElem_of_eq e hp;rw[this];simp
 refine⟨h1,⟨pre++[c], ?_⟩, ?_⟩;rw[append_assoc];exact e;rw[eo];exact fin a
theorem anj{ps:Ps}{cs:Ss}{nm:ByteArray}{k ev:Int}{ky:ByteArray}(h:(gb ps cs nm k ev ky).2.2=false):gb ps cs nm k ev ky=noH:=by
 have tl:∀{cs:Ss} {p:CL cP} {ip:Int} {k:Int->Bool->HR},(∀i b,(k i b).2.2=false->k i b=noH)->(lJ ev ky cs p ip k).2.2=false->lJ ev ky cs p ip k=noH:=by
  intro cs p ip k hk h;unfold lJ at h ⊢;split at h;cases h
  next hc=>rw[if_neg hc];exact hk _ _ h
 have lp:∀(d:Nat) (cs:Ss) (p:CL cP) (ip:Int) (b:Bool),(ga ps ev ky d cs p ip b).2.2=false->ga ps ev ky d cs p ip b=noH:=by
  intro d
  induction d with
  |zero=>intro cs p ip b _;rfl
  |succ d ih=>
   intro cs p ip b h;rw[pd]at h ⊢;split at h;cases h
   next hc=>
   rw[if_neg hc];split at h
   next hc2=>rw[if_pos hc2];exact tl (λi b=>ih _ _ _ _) h
   next hc2=>
   rw[if_neg hc2];cases cs with
   |nil=>rfl|cons c e9=>
    cases hi:dC (pO (ag ps (sP c))) (sN c)with
    |true=>rw[x9 hi]at h ⊢;exact tl (λi b=>ih _ _ _ _) h|false=>rw[abt hi]
 unfold gb at h ⊢;split at h
 next hc=>rw[if_pos hc]
 next hc=>
 rw[if_neg hc];split at h
 next hc2=>rw[if_pos hc2]
 next hc2=>
 rw[if_neg hc2];unfold lK at h ⊢;split at h;cases h
 next hc3=>rw[if_neg hc3];exact lp _ _ _ _ _ h
abbrev SfG(X:Ctx)(c:aR):Prop:=Safe P 3 X (Ends [aZ] (true,())) c
section
variable{Z:aP}{X:Ctx}{F:AL [bh,bg,jx]->AL [sL]}
theorem atu(hX:∀id,X.H id=none)(hz:cE Z X)(mA:(kc F).Ok P Z){r1:Ps}{i1:Int}{s1 s2:ByteArray}{i2:Int}{s3:ByteArray}{i3:Int}{s4:ByteArray}{i4 i5 i6 i7:Int}{s5 s6 s7:ByteArray}{b1:Bool}{r2:Vs}{r3:List ByteArray}(e1:s3=s2)(e2:i7=i1)(e3:s5=s1\/s5=empty)(e4:i1=4\/i1=5):SfG X (qZ r1 i1 s1 s2 i2 s3 i3 s4 i4 i5 i6 i7 s5 s6 s7 b1 r2 r3):=by
 refine go hz hX mA func3 (ahB F r1 i1 s1 s2 i2 s3 i3 s4 i4 i5 i6 i7 s5 s6 s7 b1 r2 r3) (af (decide_eq_true e1) (af (beq_iff_eq.2 e2) ?_));rcases e4 with rfl|rfl;by_cases hk:s5=s1;exact af (decide_eq_true hk) (af rfl (aL _ rfl (by kernel_rfl)));exact ak (decide_eq_false hk) (af (decide_eq_true (e3.resolve_left hk)) (af rfl (aL _ rfl (by kernel_rfl))));by_cases hk:s5=s1;exact af (decide_eq_true hk) (ak rfl (aL _ rfl (by kernel_rfl)));exact ak (decide_eq_false hk) (af (decide_eq_true (e3.resolve_left hk)) (ak rfl (aL _ rfl (by kernel_rfl))))
theorem au4(hX:∀id,X.H id=none)(hz:cE Z X)(mA:(kc F).Ok P Z){r1:Ps}{i1:Int}{s1 s2:ByteArray}{i2:Int}{s3:ByteArray}{i3:Int}(h0:0<=i2)(h1:i2<(r1.length:Int))(hs:cq r1)(o:okH (pO (el r1 i2)) i1 s1 i3)(e1:s3=s2)(e4:i1=4\/i1=5):SfG X (wV r1 i1 s1 s2 i2 s3 i3):=by
 have⟨c9,o⟩:=o;have c9:0<=i3/\i3<((pO (el r1 i2)).length:Int):=of_decide_eq_true c9;refine go hz hX mA func3 (ahz F r1 i1 s1 s2 i2 s3 i3) ⟨h0,h1,c9.1,c9.2, ?_⟩;rcases o with⟨k,x1,x2⟩|⟨k,ks,kin,x1,x2⟩;exact ak (by rw[k];rfl) (ak (by rw[k];rfl) (atu hX hz mA e1 x1 x2 e4));have kin:0<=bk (pO (el r1 i2)) i3/\bk (pO (el r1 i2)) i3<((pO (el r1 i2)).length:Int):=of_decide_eq_true kin;refine af (by rw[k];rfl) ⟨h0,h1,(hs.el _).1,ak (by rw[ks];rfl) ?_⟩;exact go hz hX mA func3 (ahA F r1 i1 s1 s2 i2 _ s3 i3 _ _ _ _ _ _ _ _ _ _ _) ⟨h0,h1,kin.1,kin.2,atu hX hz mA e1 x1 x2 e4⟩
theorem au5(hX:∀id,X.H id=none)(hz:cE Z X)(mA:(kc F).Ok P Z){r1:Ps}{i1:Int}{s1 s2:ByteArray}{s3:ByteArray}{i3:Int}{i:Nat}(hi:i<r1.length)(h5:r1.length<=5)(hp:pN r1[i]=s2)(hb:∀j (hj:j<i),pN (r1[j]'(by omega))≠s2)(hs:cq r1)(o:okH (pO r1[i]) i1 s1 i3)(e1:s3=s2)(e4:i1=4\/i1=5):∀(d k:Nat),k+d=i->SfG X (qX r1 i1 s1 s2 (k:Int) s3 i3):=by
 have ei:∀{k:Nat} (h:k<r1.length),el r1 (k:Int)=r1[k]:=λh=>j5 h;intro d
 induction d with
 |zero=>
  intro k hk;have hk:k=i:=hk;subst hk;have c9:0<=i3/\i3<((pO r1[k]).length:Int):=of_decide_eq_true o.1;refine go hz hX mA func3 (ye F r1 i1 s1 s2 k s3 i3) (af (decide_eq_true (by omega)) ⟨by omega,by omega,ak ?_ (ak (decide_eq_false (by omega)) ⟨by omega,by omega,ak ?_ ?_⟩)⟩);rw[ei hi,decide_eq_true hp];rfl;rw[ei hi];exact decide_eq_false (by omega);exact au4 hX hz mA (by omega) (by omega) hs (by rw[ei hi];exact o) e1 e4
 |succ d ih=>
  intro k hk;have hk2:k<r1.length:=by omega
  refine go hz hX mA func3 (ye F r1 i1 s1 s2 k s3 i3) (af (decide_eq_true (by omega)) ⟨by omega,by omega,af ?_ ?_⟩);rw[ei hk2,decide_eq_false (hb k (by omega))];rfl;exact go hz hX mA func3 (ahy F r1 i1 s1 s2 k s3 i3) ⟨⟨by omega,by omega⟩,ih (k+1) (by omega)⟩
theorem atv(hX:∀id,X.H id=none)(hz:cE Z X)(mA:(kc F).Ok P Z){r1:Ps}{i1:Int}{s1 s2:ByteArray}{s3:ByteArray}{i3:Int}(h5:r1.length<=5)(hs:cq r1)(o:okH (pO (ag r1 s2)) i1 s1 i3)(e1:s3=s2)(e4:i1=4\/i1=5):SfG X (qW r1 i1 s1 s2 s3 i3):=by
 have⟨i,hi,e,hp,hb⟩:=ae5 o.1;rw[e]at o;exact go hz hX mA func3 (ahx F r1 i1 s1 s2 s3 i3) (au5 hX hz mA hi h5 hp hb hs o e1 e4 i 0 (zero_add _))
theorem au6(hX:∀id,X.H id=none)(hz:cE Z X)(mA:(kc F).Ok P Z){r1:Ps}{i1:Int}{s1:ByteArray}{r2 pre r6:Ss}{s2:ByteArray}{r3:Vs}{r4:Ns}{r5:Fs}{s3:ByteArray}{i4:Int}(e:r2=pre++r6)(h6:r2.length<=6)(hk:SfG X (wU r1 i1 s1 r2 (pre.length:Int) s2 r3 r4 r5 s3 i4)):∀(d k:Nat),k+d=r6.length->SfG X (qV r1 i1 s1 r2 (pre.length:Int) (k:Int) s2 r3 r4 r5 s3 i4 r6):=by
 have hl:r2.length=pre.length+r6.length:=by rw[e,length_append]
 intro d
 induction d with
 |zero=>
  intro k hk2;exact go hz hX mA func3 (yc F r1 i1 s1 r2 _ k s2 r3 r4 r5 s3 i4 r6) (ak (decide_eq_false (by omega)) hk)
 |succ d ih=>
  intro k hk2;have h1:k<r6.length:=by omega
  have h2:pre.length+k<r2.length:=by omega
  have ee:el r2 ((pre.length:Int)+(k:Int))=el r6 (k:Int):=by
   rw[show((pre.length:Int)+(k:Int))=((pre.length+k:Nat):Int)from by omega,j5 h2,j5 h1];subst e;rw[List.getElem_append_right (by omega)];simp
  refine go hz hX mA func3 (yc F r1 i1 s1 r2 _ k s2 r3 r4 r5 s3 i4 r6) (af (decide_eq_true (by omega)) ⟨by omega,by omega,⟨by omega,by omega⟩,by omega,by omega,ak ?_ ?_⟩);rw[ee];simp;exact go hz hX mA func3 (ahw F r1 i1 s1 r2 _ k s2 r3 r4 r5 s3 i4 r6) ⟨⟨by omega,by omega⟩,ih (k+1) (by omega)⟩
theorem au7(hX:∀id,X.H id=none)(hz:cE Z X)(mA:(kc F).Ok P Z){r1:Ps}{i1:Int}{s1:ByteArray}{r2 r6:Ss}{s2:ByteArray}{r3:Vs}{r4:Ns}{r5:Fs}{s3:ByteArray}{i4:Int}(hs:cq r1)(h5:r1.length<=5)(h6:r2.length<=6)(e:∃pre,r2=pre++r6)(e1:s3=sV r2 r6 s2)(o:okH (pO (ag r1 (sV r2 r6 s2))) i1 s1 i4)(e4:i1=4\/i1=5):SfG X (wT r1 i1 s1 r2 s2 r3 r4 r5 s3 i4 r6):=by
 have⟨pre,e⟩:=e;have hl:r2.length=pre.length+r6.length:=by rw[e,length_append]
 refine go hz hX mA func3 (ahu F r1 i1 s1 r2 s2 r3 r4 r5 s3 i4 r6) (ak (decide_eq_false (by omega)) ?_);refine go hz hX mA func3 (ahv F r1 i1 s1 r2 s2 r3 r4 r5 s3 i4 r6) ⟨⟨by omega,by omega⟩, ?_⟩;rw[show((r2.length:Int) - (r6.length:Int))=(pre.length:Int)from by omega];refine au6 hX hz mA e h6 ?_ r6.length 0 (zero_add _);have en:r2.length - r6.length=pre.length:=by omega
 by_cases h0:0<pre.length;refine go hz hX mA func3 (yd F r1 i1 s1 r2 _ s2 r3 r4 r5 s3 i4) (af (decide_eq_true (by omega)) ⟨⟨by omega,by omega⟩,by omega,by omega, ?_⟩)
 have eo:sP (el r2 ((pre.length:Int) - 1))=sV r2 r6 s2:=by
  unfold sV;rw[en,if_pos h0,show((pre.length:Int) - 1)=((pre.length - 1:Nat):Int)from by omega];have h1:pre.length - 1<r2.length:=by omega
  rw[j5 h1,cK h1]
 rw[eo];exact atv hX hz mA h5 hs o e1 e4;refine go hz hX mA func3 (yd F r1 i1 s1 r2 _ s2 r3 r4 r5 s3 i4) (ak (decide_eq_false (by omega)) ?_)
 have eo:sV r2 r6 s2=s2:=by
  unfold sV;rw[en,if_neg h0]
 rw[eo]at o e1;exact atv hX hz mA h5 hs o e1 e4
theorem pl6(hX:∀id,X.H id=none)(hz:cE Z X)(mA:(kc F).Ok P Z){r1:Ps}{i1:Int}{r2:List Int}{i2:Int}{s1 s2:ByteArray}{r3:Vs}{r4:Ns}{r5:Fs}(hF:List.length (show Ss from(F (r1,s2,r2,())).1)<=6)(hs:cq r1)(h5:r1.length<=5)(h4:0<r4.length)(h4':r4.length<=1000000):SfG X (aad r1 i1 r2 i2 s1 s2 r3 r4 r5):=by
 have⟨w1,w2,w3⟩:=umod (x:=i1) h4 (by omega);refine go hz hX mA func3 (alm F r1 i1 r2 i2 s1 s2 r3 r4 r5) ⟨w1,hs,by omega,hs,le_trans hF (by omega), ?_⟩;generalize i64.wrap ((u64.wrap i1).tmod (u64.wrap (r4.length:Int)))=k at *;revert hF;generalize (F (r1,s2,r2,())).1=cs;intro hF;cases hb:hfB r1 cs s2 k i2 s1 with
 |false=>
  have hn:=anj (show(gb r1 cs s2 k i2 s1).2.2=false from hb);have n1:hfP r1 cs s2 k i2 s1=empty:=by unfold hfP;rw[hn];rfl
  have n2:hfN r1 cs s2 k i2 s1=0:=by unfold hfN;rw[hn];rfl
  have n3:hfL r1 cs s2 k i2 s1=[]:=by unfold hfL;rw[hn];rfl
  refine af rfl (af (by rw[n1,n2];simp) ?_);rw[n3];exact aL _ rfl (by kernel_rfl)
 |true=>
  have⟨h1,h2,h3,h4⟩:=ahD (show(gb r1 cs s2 k i2 s1).2.2=true from hb);exact ak rfl (au7 hX hz mA hs h5 hF h2 h3 h4 h1)
end
theorem alr{ps:Ps}(h:abP ps=0):lgI ps ps.length/\ps.length<=5:=by
 refine Classical.byContradiction λn=> ?_;unfold abP at h;rw[if_neg n]at h;cases h
theorem als{ps:Ps}(h:lgI ps ps.length):cq ps:=λp hp=>by
 obtain⟨i,hi,rfl⟩:=List.getElem_of_mem hp;have:=h i (by omega) (by omega);rw[j5 hi]at this;have:=af6 this;omega
theorem abX{Z:aP}:cf P Z 3 [bh,bx,bx,jx,gC,bg] [aZ] (λ(ps,_,_,_,_,_,())=>[okM ps]) (λ_=>(true,())):=by
 have⟨F,hF,hq⟩:=anh;have mA:(kc F).Ok P Z:=ani ajH (hF Z);refine a6 func3 (by kernel_rfl) (by kernel_rfl) ?_;rintro⟨(ps:Ps),(w:Int),(n:Int),(ks:List Int),(ev:Int),(ky:ByteArray),⟨⟩⟩ hok ⟨hm,_⟩ X hX hz;have hm:okM ps:=hm;show SfG X _;refine go hz hX mA func3 (aqG F F ps w n ks ev ky) (ak rfl ⟨rfl,rfl,hm,λ_=>aL _ rfl (by kernel_rfl),λhb=> ?_⟩);have hb:abP ps=0:=hb;have⟨hl,h5⟩:=alr hb;have hs:=als hl;by_cases h0:(ps.length:Int)=0;exact af (beq_iff_eq.2 h0) (aL _ rfl (by kernel_rfl));refine ak (beq_eq_false_iff_ne.2 h0) ?_;by_cases h1:(ks.length:Int)>20;exact af (decide_eq_true h1) (aL _ rfl (by kernel_rfl));refine ak (decide_eq_false h1) ?_;by_cases h2:(ky.size:Int)>100;exact af (decide_eq_true h2) (aL _ rfl (by kernel_rfl));refine ak (decide_eq_false h2) ?_;have⟨w1,w2,w3⟩:=umod (x:=w) (n:=ps.length) (by omega) (by omega);refine go hz hX mA func3 (alk F ps w n ks ev ky) ⟨w1,w2,w3, ?_⟩;generalize i64.wrap ((u64.wrap w).tmod (u64.wrap (ps.length:Int)))=k at *;by_cases h3:((pO (el ps k)).length:Int)=0;exact af (beq_iff_eq.2 h3) (aL _ rfl (by kernel_rfl));refine ak (beq_eq_false_iff_ne.2 h3) (pl6 hX hz mA ?_ hs h5 (by omega) (hs.el _).1);refine hq (ps,_,ks,()) ?_ ⟨hs,by omega,trivial⟩;exact⟨hok.1,trivial,hok.2.2.2.1,trivial⟩
theorem alu{l:Vs}(h:∀v∈l,CL.wf cV v):j8 l:=λv hv=>by
 have:(vT v).size<=maxLen:=(h v hv).2.2.2.1;exact this
theorem aqI{x:Ty.V bh}(w:Ty.wf bh x)(s:Ty.cJ reachBytes bh x):okM x:=by
 have key:∀p:CL cP,CL.wf cP p->CL.cJ reachBytes cP p->okP (pV p) (pO p) (pF p)/\j8 (pV p)/\wNs (pO p):=λp hw hh=>by
  have hv:CK.cJ reachBytes (.rows cV) (pV p):=hh.2.1;have hn:CK.cJ reachBytes (.rows cN) (pO p):=hh.2.2.1;have hf:CK.cJ reachBytes (.rows cF) (pF p):=hh.2.2.2.1;have wv:CK.wf (.rows cV) (pV p):=hw.2.1;have wn:CK.wf (.rows cN) (pO p):=hw.2.2.1;refine⟨⟨hv.1,hn.1,hf.1,λx hx=> ?_⟩,alu wv.2,λx hx=> ?_⟩;have hxx:CL.cJ reachBytes cN x:=hn.2 x hx;have h1:CK.cJ reachBytes (.rows cV) (nV x):=hxx.2.2.2.2.2.2.2.2.2.1;have h2:CK.cJ reachBytes .strs (nZ x):=hxx.2.2.2.2.2.2.2.2.2.2.1;exact⟨h1.1,h2⟩;have hxx:CL.wf cN x:=wn.2 x hx;have h1:CK.wf (.rows cV) (nV x):=hxx.2.2.2.2.2.2.2.2.2.1;exact alu h1.2
 intro i;have w:RK.wf (.ab cP) x:=w;have s:RK.cJ reachBytes (.ab cP) x:=s;by_cases h:i.toNat<List.length (show Ps from x);have e:el (show Ps from x) i=(show Ps from x)[i.toNat]:=cK h;rw[show el x i=_ from e];exact key _ (w _ (getElem_mem h)) (s.2 _ (getElem_mem h))
 have e:el (show Ps from x) i=CL.d cP:=by
  show List.getD _ _ _=_;rw[List.getD_eq_getElem?_getD,getElem?_eq_none (by omega)];rfl
 rw[show el x i=_ from e];exact⟨⟨by decide,by decide,by decide,List.forall_mem_nil _⟩,List.forall_mem_nil _,List.forall_mem_nil _⟩
theorem sW{Z:aP}:cf P Z 3 [bh,bx,bx,jx,gC,bg] [aZ] (λ(ps,_,_,_,_,_,())=>[okM ps]) (λ_=>(true,())):=abX
end Ds
