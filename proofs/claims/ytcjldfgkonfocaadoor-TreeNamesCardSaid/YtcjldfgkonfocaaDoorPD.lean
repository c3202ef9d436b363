/- Lemmas: L7, Lm, R4, R6, R7, R8, SxRoom, R9, R10, Bx1, Bx2, Bx3, Bx4, Bx5, Bx6, M0, Bx7, L7r, SxWeak, N1, N2, N3, N4, Rp, Hq, M1, N5, SxTup, N6, N7, M2. -/
import Derived.Test.YtcjldfgkonfocaaDoorProg
import Derived.Lib.TrailingZeros
import Derived.Shelf.Spec.TrailingZeros
import Derived.Test.YtcjldfgkonfocaaDoorRows
import Derived.WalkKit
import Derived.WalkSpells
import Derived.WalkLawsBesides
import Derived.Test.YtcjldfgkonfocaaDoorPC
namespace Lf
open Go Go.Sx Go.Proofs
def asw(a b:List En):Bool:=decide (a=b)
def asx(a b:List Br):Bool:=decide (a=b)
def ki(k:Int)(s:ByteArray):ByteArray:=if k>(s.size:Int)then ByteArray.empty else s.extract 0 k.toNat
def s6(k:Int)(s:ByteArray):Bool:= !decide (k>(s.size:Int))
def oZ(k:Int)(s:ByteArray):ByteArray:=if k>(s.size:Int)then s else s.extract k.toNat s.size
def vK:Spec (Int×ByteArray):=⟨fun x=>[.s (.int .i64 x.1),.ptr 0 0],fun x=>[.own [.s (.str x.2)] 9],fun x=>[0≤x.1],fun x=>[.own [.s (.str (oZ x.1 x.2))] 9],fun x=>.bo [.s (.str (ki x.1 x.2)),.s (.bool (s6 x.1 x.2))]⟩
def ae8:List AV→RM ((Int×ByteArray)×List Nat)
 |[.s (.int .i64 k),.ptr id 0]=>.look id fun
  |some (.own [.s (.str s)] _)=>.ret ((k,s),[id])
  |_=>.fail "take: no text"
 |[.s (.aV .i64 k),.ptr id 0]=>.look id fun
  |some (.own [.s (.str s)] _)=>.ret ((k,s),[id])
  |_=>.fail "take: no text"
 |_=>.fail "take"
theorem ajg(k:Int)(s:ByteArray):run P ku.sum Tryd.f74 [] (start Tryd.f74 [.s (.int .i64 k),.ptr 0 0] [.own [.s (.str s)] 9])=
 Tree.ite (decide (k>(↑s.size:Int))) (.ret [.own [.s (.str s)] 9] (.bo [.s (.str ByteArray.empty),.s (.aA false)])) (.need ((0:Int)≤0) (.need ((0:Int)≤k) (.need (k≤(↑s.size:Int)) (.need ((0:Int)≤k) (.need (k≤(↑s.size:Int)) (.need ((↑s.size:Int)≤(↑s.size:Int)) (.ret [.own [.s (.str (s.extract k.toNat (↑s.size:Int).toNat))] 9] (.bo [.s (.str (s.extract (Int.toNat 0) k.toNat)),.s (.aA true)])))))))):=by kernel_rfl
def rdK(s:ByteArray):Int:=aW (ki 1 s) 0
def ye(s:ByteArray):ByteArray:=if s6 1 s=true then ki (rdK s) (oZ 1 s)else ByteArray.empty
def w7(s:ByteArray):Bool:=s6 1 s&&s6 (rdK s) (oZ 1 s)
def ic(s:ByteArray):ByteArray:=if s6 1 s=true then oZ (rdK s) (oZ 1 s)else oZ 1 s
def abD:Spec ByteArray:=⟨fun _=>[.ptr 0 0],fun s=>[.own [.fn 74 [.ptr 1 0]] 122,.own [.s (.str s)] 9],fun _=>[],fun s=>[.own [.fn 74 [.ptr 1 0]] 122,.own [.s (.str (ic s))] 9],fun s=>.bo [.s (.str (ye s)),.s (.bool (w7 s))]⟩
def aod:List AV→RM (ByteArray×List Nat)
 |[.ptr id 0]=>.look id fun
  |some (.own [.fn _ [.ptr j 0]] _)=>.look j fun
   |some (.own [.s (.str s)] _)=>.ret (s,[id,j])
   |_=>.fail "text: no text"
  |_=>.fail "text: no take"
 |_=>.fail "text"
def ae9:aE:=[(74,cI vK ae8)]
theorem ajh(s:ByteArray):run P ae9.sum Tryd.f75 [] (start Tryd.f75 [.ptr 0 0] [.own [.fn 74 [.ptr 1 0]] 122,.own [.s (.str s)] 9])=
 Tree.need (bt (some [AV.s (.int .i64 1),.ptr 0 0])) (.need (bt (some [ad.own [.s (.str s)] 9])) (.need ((0:Int)≤1) (.ite (!s6 1 s) (.ret [.own [.fn 74 [.ptr 1 0]] 122,.own [.s (.str (oZ 1 s))] 9] (.bo [.s (.str ByteArray.empty),.s (.aA false)])) (.need ((0:Int)≤0) (.need ((0:Int)<(↑(ki 1 s).size:Int)) (.need (aF (aW (ki 1 s) (Int.toNat 0))) (.need (bt (some [AV.s (.int .i64 (aW (ki 1 s) (Int.toNat 0))),.ptr 0 0])) (.need (bt (some [ad.own [.s (.str (oZ 1 s))] 9])) (.need ((0:Int)≤aW (ki 1 s) (Int.toNat 0)) (.ret [.own [.fn 74 [.ptr 1 0]] 122,.own [.s (.str (oZ (aW (ki 1 s) (Int.toNat 0)) (oZ 1 s)))] 9] (.bo [.s (.str (ki (aW (ki 1 s) (Int.toNat 0)) (oZ 1 s))),.s (.bool (s6 (aW (ki 1 s) (Int.toNat 0)) (oZ 1 s)))]))))))))))):=by kernel_rfl
def vL:aE:=[(74,cI vK ae8),(75,cI abD aod),(76,ap5)]
def afa:List (Nat×Norm):=[(7,⟨[],[1,2],0,[]⟩),(11,⟨[],[1,2,4,5,6],0,[(2,1,false,.ae cE [],eE),(2,2,false,.ae cB [],eB)]⟩),(22,⟨[],[1,2,4,5,6,8],0,[]⟩)]
def obZ:ad:=.own [.s (.bool false),.emp,.emp] 73
noncomputable def aoe(s:ByteArray):bA:=⟨sl 93 [(1,.ptr 0 0),(2,.ptr 1 0)],[.own [.s (.str s)] 9,obZ],hr Tryd.f57 7,{}⟩
noncomputable def asy(s:ByteArray)(l:Bool)(es:List En)(bs:List Br):bA:=⟨sl 93 [(1,.ptr 0 0),(2,.ptr 1 0),(4,.ptr 2 0),(5,.ptr 3 0),(6,.fn 75 [.ptr 3 0])],[.own [.s (.str s)] 9,obZ,.own [.s (.bool l),.vec 4,.vec 5] 73,.own [.fn 74 [.ptr 0 0]] 122,.vec (.ae cE es) eE,.vec (.ae cB bs) eB],hd Tryd.f57 11,{}⟩
noncomputable def aji(s:ByteArray)(l:Bool)(es:List En)(bs:List Br)(is:Bool):bA:=⟨sl 93 [(1,.ptr 0 0),(2,.ptr 1 0),(4,.ptr 2 0),(5,.ptr 3 0),(6,.fn 75 [.ptr 3 0]),(8,.s (.bool is))],[.own [.s (.str s)] 9,obZ,.own [.s (.bool l),.vec 4,.vec 5] 73,.own [.fn 74 [.ptr 0 0]] 122,.vec (.ae cE es) eE,.vec (.ae cB bs) eB],hr Tryd.f57 22,{}⟩
theorem alP(s:ByteArray):run P vL.sum Tryd.f57 afa (start Tryd.f57 [.s (.str s)] [])=
 Tree.ite (decide ((↑s.size:Int)>254)) (.ret [.own [.s (.str s)] 9,.own [.s (.aA false),.emp,.emp] 73] (.bo [.agg [.s (.aA false),.emp,.emp],.s (.aV .i64 40)])) (.ite (decide (s=ByteArray.empty)) (.ret [.own [.s (.str s)] 9,.own [.s (.aA false),.emp,.emp] 73] (.bo [.agg [.s (.aA false),.emp,.emp],.s (.aV .i64 8)])) (.need ((0:Int)≤0) (.need ((0:Int)<(↑s.size:Int)) (.ite (aW s (Int.toNat 0) !=1) (.need ((0:Int)≤0) (.need ((0:Int)<(↑s.size:Int)) (.ite (aW s (Int.toNat 0) !=2) (.ret [.own [.s (.str s)] 9,.own [.s (.aA false),.emp,.emp] 73] (.bo [.agg [.s (.aA false),.emp,.emp],.s (.aV .i64 4)])) (.at (.mk (sl 93 [(1,.ptr 0 0),(2,.ptr 1 0)]) [.own [.s (.str s)] 9,.own [.s (.bool false),.emp,.emp] 73] (hr Tryd.f57 7) (.mk none false 0 [] 0)))))) (.at (.mk (sl 93 [(1,.ptr 0 0),(2,.ptr 1 0)]) [.own [.s (.str s)] 9,.own [.s (.bool false),.emp,.emp] 73] (hr Tryd.f57 7) (.mk none false 0 [] 0))))))):=by kernel_rfl
theorem ajj(s:ByteArray):run P vL.sum Tryd.f57 afa (aoe s)=
 Tree.need ((0:Int)≤0) (.need ((0:Int)<(↑s.size:Int)) (.need ((0:Int)≤1) (.need ((1:Int)≤(↑s.size:Int)) (.need ((↑s.size:Int)≤(↑s.size:Int)) (.at (.mk (sl 93 [(1,.ptr 0 0),(2,.ptr 1 0),(4,.ptr 2 0),(5,.ptr 3 0),(6,.fn 75 [.ptr 3 0])]) [.own [.s (.str (s.extract (Int.toNat 1) (↑s.size:Int).toNat))] 9,.own [.s (.bool false),.emp,.emp] 73,.own [.s (.bool (aW s (Int.toNat 0)==1)),.vec 4,.vec 5] 73,.own [.fn 74 [.ptr 0 0]] 122,.vec (.ae [.str,.str] []) 34,.vec (.ae [.str,.int .i64] []) 79] (hd Tryd.f57 11) (.mk none false 0 [] 0))))))):=by kernel_rfl
theorem afb(s:ByteArray)(l:Bool)(es:List En)(bs:List Br):run P vL.sum Tryd.f57 afa (asy s l es bs)=
 Tree.ite (!decide (s=ByteArray.empty))
 (Tree.need (bt (some [AV.ptr (0:Nat) (0:Nat)]))
   (Tree.need (bt (some [ad.own [AV.fn (74:Nat) [AV.ptr (1:Nat) (0:Nat)]] (122:Nat),ad.own [AV.s (SV.str s)] (9:Nat)]))
     (Tree.ite l
       (Tree.ite (w7 s) (Tree.need (bt (some [AV.ptr (0:Nat) (0:Nat)])) (Tree.need (bt (some [ad.own [AV.fn (74:Nat) [AV.ptr (1:Nat) (0:Nat)]] (122:Nat),ad.own [AV.s (SV.str (ic s))] (9:Nat)])) (Tree.need ((es.length+(1:Nat))*(32:Nat)≤(140737488355328:Nat)) (Tree.at (bA.mk (sl (93:Nat) [((1:Nat),AV.ptr (0:Nat) (0:Nat)),((2:Nat),AV.ptr (1:Nat) (0:Nat)),((4:Nat),AV.ptr (2:Nat) (0:Nat)),((5:Nat),AV.ptr (3:Nat) (0:Nat)),((6:Nat),AV.fn (75:Nat) [AV.ptr (3:Nat) (0:Nat)]),((8:Nat),AV.s (SV.bool (w7 (ic s))))]) [ad.own [AV.s (SV.str (ic (ic s)))] (9:Nat),ad.own [AV.s (SV.bool false),AV.emp,AV.emp] (73:Nat),ad.own [AV.s (SV.bool l),AV.vec (4:Nat),AV.vec (5:Nat)] (73:Nat),ad.own [AV.fn (74:Nat) [AV.ptr (0:Nat) (0:Nat)]] (122:Nat),ad.vec (aI.ae [CK.str,CK.str] (es++[(ye s,ye (ic s),())])) (34:Nat),ad.vec (aI.ae [CK.str,CK.int IntKind.i64] bs) (79:Nat)] (hr Tryd.f57 (22:Nat)) (nh.mk none false (0:Nat) [] (0:Nat)))))))
         (Tree.ite (w7 s) (Tree.need (bt (some [AV.s (SV.int IntKind.i64 (2:Int)),AV.ptr (0:Nat) (0:Nat)])) (Tree.need (bt (some [ad.own [AV.s (SV.str (ic s))] (9:Nat)])) (Tree.need ((0:Int)≤(2:Int)) (Tree.ite (s6 (2:Int) (ic s)) (Tree.need ((0:Int)≤(0:Int)) (Tree.need ((0:Int)<(↑(ki (2:Int) (ic s)).size:Int)) (Tree.need (aF (aW (ki (2:Int) (ic s)) (Int.toNat (0:Int)))) (Tree.need ((0:Int)≤(8:Int)) (Tree.need ((0:Int)≤(1:Int)) (Tree.need ((1:Int)<(↑(ki (2:Int) (ic s)).size:Int)) (Tree.need (aF (aW (ki (2:Int) (ic s)) (Int.toNat (1:Int)))) (Tree.need ((bs.length+(1:Nat))*(24:Nat)≤(140737488355328:Nat)) (Tree.at (bA.mk (sl (93:Nat) [((1:Nat),AV.ptr (0:Nat) (0:Nat)),((2:Nat),AV.ptr (1:Nat) (0:Nat)),((4:Nat),AV.ptr (2:Nat) (0:Nat)),((5:Nat),AV.ptr (3:Nat) (0:Nat)),((6:Nat),AV.fn (75:Nat) [AV.ptr (3:Nat) (0:Nat)]),((8:Nat),AV.s (SV.bool (s6 (2:Int) (ic s))))]) [ad.own [AV.s (SV.str (oZ (2:Int) (ic s)))] (9:Nat),ad.own [AV.s (SV.bool false),AV.emp,AV.emp] (73:Nat),ad.own [AV.s (SV.bool l),AV.vec (4:Nat),AV.vec (5:Nat)] (73:Nat),ad.own [AV.fn (74:Nat) [AV.ptr (0:Nat) (0:Nat)]] (122:Nat),ad.vec (aI.ae [CK.str,CK.str] es) (34:Nat),ad.vec (aI.ae [CK.str,CK.int IntKind.i64] (bs++[(ye s,bF BinOp.or IntKind.i64 (IntKind.i64.wrap (aW (ki (2:Int) (ic s)) (Int.toNat (0:Int))*(2:Int)^min (Int.toNat (8:Int)) IntKind.i64.bits)) (aW (ki (2:Int) (ic s)) (Int.toNat (1:Int))),())])) (79:Nat)] (hr Tryd.f57 (22:Nat)) (nh.mk none false (0:Nat) [] (0:Nat)))))))))))) (Tree.at (bA.mk (sl (93:Nat) [((1:Nat),AV.ptr (0:Nat) (0:Nat)),((2:Nat),AV.ptr (1:Nat) (0:Nat)),((4:Nat),AV.ptr (2:Nat) (0:Nat)),((5:Nat),AV.ptr (3:Nat) (0:Nat)),((6:Nat),AV.fn (75:Nat) [AV.ptr (3:Nat) (0:Nat)]),((8:Nat),AV.s (SV.bool (s6 (2:Int) (ic s))))]) [ad.own [AV.s (SV.str (oZ (2:Int) (ic s)))] (9:Nat),ad.own [AV.s (SV.bool false),AV.emp,AV.emp] (73:Nat),ad.own [AV.s (SV.bool l),AV.vec (4:Nat),AV.vec (5:Nat)] (73:Nat),ad.own [AV.fn (74:Nat) [AV.ptr (0:Nat) (0:Nat)]] (122:Nat),ad.vec (aI.ae [CK.str,CK.str] es) (34:Nat),ad.vec (aI.ae [CK.str,CK.int IntKind.i64] bs) (79:Nat)] (hr Tryd.f57 (22:Nat)) (nh.mk none false (0:Nat) [] (0:Nat)))))))) (Tree.at (bA.mk (sl (93:Nat) [((1:Nat),AV.ptr (0:Nat) (0:Nat)),((2:Nat),AV.ptr (1:Nat) (0:Nat)),((4:Nat),AV.ptr (2:Nat) (0:Nat)),((5:Nat),AV.ptr (3:Nat) (0:Nat)),((6:Nat),AV.fn (75:Nat) [AV.ptr (3:Nat) (0:Nat)]),((8:Nat),AV.s (SV.bool (w7 s)))]) [ad.own [AV.s (SV.str (ic s))] (9:Nat),ad.own [AV.s (SV.bool false),AV.emp,AV.emp] (73:Nat),ad.own [AV.s (SV.bool l),AV.vec (4:Nat),AV.vec (5:Nat)] (73:Nat),ad.own [AV.fn (74:Nat) [AV.ptr (0:Nat) (0:Nat)]] (122:Nat),ad.vec (aI.ae [CK.str,CK.str] es) (34:Nat),ad.vec (aI.ae [CK.str,CK.int IntKind.i64] bs) (79:Nat)] (hr Tryd.f57 (22:Nat)) (nh.mk none false (0:Nat) [] (0:Nat))))))
       (Tree.ite (w7 s) (Tree.need (bt (some [AV.s (SV.int IntKind.i64 (2:Int)),AV.ptr (0:Nat) (0:Nat)])) (Tree.need (bt (some [ad.own [AV.s (SV.str (ic s))] (9:Nat)])) (Tree.need ((0:Int)≤(2:Int)) (Tree.ite (s6 (2:Int) (ic s)) (Tree.need ((0:Int)≤(0:Int)) (Tree.need ((0:Int)<(↑(ki (2:Int) (ic s)).size:Int)) (Tree.need (aF (aW (ki (2:Int) (ic s)) (Int.toNat (0:Int)))) (Tree.need ((0:Int)≤(8:Int)) (Tree.need ((0:Int)≤(1:Int)) (Tree.need ((1:Int)<(↑(ki (2:Int) (ic s)).size:Int)) (Tree.need (aF (aW (ki (2:Int) (ic s)) (Int.toNat (1:Int)))) (Tree.need ((bs.length+(1:Nat))*(24:Nat)≤(140737488355328:Nat)) (Tree.at (bA.mk (sl (93:Nat) [((1:Nat),AV.ptr (0:Nat) (0:Nat)),((2:Nat),AV.ptr (1:Nat) (0:Nat)),((4:Nat),AV.ptr (2:Nat) (0:Nat)),((5:Nat),AV.ptr (3:Nat) (0:Nat)),((6:Nat),AV.fn (75:Nat) [AV.ptr (3:Nat) (0:Nat)]),((8:Nat),AV.s (SV.bool (s6 (2:Int) (ic s))))]) [ad.own [AV.s (SV.str (oZ (2:Int) (ic s)))] (9:Nat),ad.own [AV.s (SV.bool false),AV.emp,AV.emp] (73:Nat),ad.own [AV.s (SV.bool l),AV.vec (4:Nat),AV.vec (5:Nat)] (73:Nat),ad.own [AV.fn (74:Nat) [AV.ptr (0:Nat) (0:Nat)]] (122:Nat),ad.vec (aI.ae [CK.str,CK.str] es) (34:Nat),ad.vec (aI.ae [CK.str,CK.int IntKind.i64] (bs++[(ye s,bF BinOp.or IntKind.i64 (IntKind.i64.wrap (aW (ki (2:Int) (ic s)) (Int.toNat (0:Int))*(2:Int)^min (Int.toNat (8:Int)) IntKind.i64.bits)) (aW (ki (2:Int) (ic s)) (Int.toNat (1:Int))),())])) (79:Nat)] (hr Tryd.f57 (22:Nat)) (nh.mk none false (0:Nat) [] (0:Nat)))))))))))) (Tree.at (bA.mk (sl (93:Nat) [((1:Nat),AV.ptr (0:Nat) (0:Nat)),((2:Nat),AV.ptr (1:Nat) (0:Nat)),((4:Nat),AV.ptr (2:Nat) (0:Nat)),((5:Nat),AV.ptr (3:Nat) (0:Nat)),((6:Nat),AV.fn (75:Nat) [AV.ptr (3:Nat) (0:Nat)]),((8:Nat),AV.s (SV.bool (s6 (2:Int) (ic s))))]) [ad.own [AV.s (SV.str (oZ (2:Int) (ic s)))] (9:Nat),ad.own [AV.s (SV.bool false),AV.emp,AV.emp] (73:Nat),ad.own [AV.s (SV.bool l),AV.vec (4:Nat),AV.vec (5:Nat)] (73:Nat),ad.own [AV.fn (74:Nat) [AV.ptr (0:Nat) (0:Nat)]] (122:Nat),ad.vec (aI.ae [CK.str,CK.str] es) (34:Nat),ad.vec (aI.ae [CK.str,CK.int IntKind.i64] bs) (79:Nat)] (hr Tryd.f57 (22:Nat)) (nh.mk none false (0:Nat) [] (0:Nat)))))))) (Tree.at (bA.mk (sl (93:Nat) [((1:Nat),AV.ptr (0:Nat) (0:Nat)),((2:Nat),AV.ptr (1:Nat) (0:Nat)),((4:Nat),AV.ptr (2:Nat) (0:Nat)),((5:Nat),AV.ptr (3:Nat) (0:Nat)),((6:Nat),AV.fn (75:Nat) [AV.ptr (3:Nat) (0:Nat)]),((8:Nat),AV.s (SV.bool (w7 s)))]) [ad.own [AV.s (SV.str (ic s))] (9:Nat),ad.own [AV.s (SV.bool false),AV.emp,AV.emp] (73:Nat),ad.own [AV.s (SV.bool l),AV.vec (4:Nat),AV.vec (5:Nat)] (73:Nat),ad.own [AV.fn (74:Nat) [AV.ptr (0:Nat) (0:Nat)]] (122:Nat),ad.vec (aI.ae [CK.str,CK.str] es) (34:Nat),ad.vec (aI.ae [CK.str,CK.int IntKind.i64] bs) (79:Nat)] (hr Tryd.f57 (22:Nat)) (nh.mk none false (0:Nat) [] (0:Nat))))))))
 (Tree.ite (!da l es bs) (Tree.ret [ad.own [AV.s (SV.str s)] (9:Nat),ad.own [AV.s (SV.aA false),AV.emp,AV.emp] (73:Nat),ad.own [AV.s (SV.bool l),AV.vec (4:Nat),AV.vec (5:Nat)] (73:Nat),ad.own [AV.fn (74:Nat) [AV.ptr (0:Nat) (0:Nat)]] (122:Nat),ad.vec (aI.ae [CK.str,CK.str] es) (34:Nat),ad.vec (aI.ae [CK.str,CK.int IntKind.i64] bs) (79:Nat)] (AV.bo [AV.agg [AV.s (SV.aA false),AV.emp,AV.emp],AV.s (SV.aV IntKind.i64 (4:Int))])) (Tree.ret [ad.own [AV.s (SV.str s)] (9:Nat),ad.own [AV.s (SV.bool l),AV.vec (4:Nat),AV.vec (5:Nat)] (73:Nat),ad.own [AV.s (SV.bool l),AV.vec (4:Nat),AV.vec (5:Nat)] (73:Nat),ad.own [AV.fn (74:Nat) [AV.ptr (0:Nat) (0:Nat)]] (122:Nat),ad.vec (aI.ae [CK.str,CK.str] es) (34:Nat),ad.vec (aI.ae [CK.str,CK.int IntKind.i64] bs) (79:Nat)] (AV.bo [AV.agg [AV.s (SV.bool l),AV.vec (4:Nat),AV.vec (5:Nat)],AV.s (SV.aV IntKind.i64 (0:Int))]))):=by kernel_rfl
theorem abE(s:ByteArray)(l:Bool)(es:List En)(bs:List Br)(is:Bool):run P vL.sum Tryd.f57 afa (aji s l es bs is)=
 Tree.ite (!is) (.ret [.own [.s (.str s)] 9,.own [.s (.aA false),.emp,.emp] 73,.own [.s (.bool l),.vec 4,.vec 5] 73,.own [.fn 74 [.ptr 0 0]] 122,.vec (.ae [.str,.str] es) 34,.vec (.ae [.str,.int .i64] bs) 79] (.bo [.agg [.s (.aA false),.emp,.emp],.s (.aV .i64 8)])) (.at (.mk (sl 93 [(1,.ptr 0 0),(2,.ptr 1 0),(4,.ptr 2 0),(5,.ptr 3 0),(6,.fn 75 [.ptr 3 0])]) [.own [.s (.str s)] 9,.own [.s (.bool false),.emp,.emp] 73,.own [.s (.bool l),.vec 4,.vec 5] 73,.own [.fn 74 [.ptr 0 0]] 122,.vec (.ae [.str,.str] es) 34,.vec (.ae [.str,.int .i64] bs) 79] (hd Tryd.f57 11) (.mk none false 0 [] 0))):=by kernel_rfl
def ajk(l:Bool)(es:List En)(bs:List Br)(l':Bool)(lu:List En)(o8:List Br):Bool:=(l==l')&&(asw es lu&&asx bs o8)
theorem dC(s:ByteArray)(i j:Nat):(s.extract i j).size=min j s.size - i:=by simp
theorem gY(s:ByteArray)(i:Nat):0≤aW s i∧aW s i≤255:=by
 have:=(s.data.toList.getD i 0).toNat_lt;unfold aW;omega
theorem tI{k:Int}{s:ByteArray}:s6 k s=true↔k≤(s.size:Int):=by simp[s6]
theorem vM{k:Int}{s:ByteArray}(h0:0≤k)(h:s6 k s=true):((ki k s).size:Int)=k:=by
 have h:=tI.1 h;rw[ki,if_neg (by omega),dC];omega
theorem abF{k:Int}{s:ByteArray}(h0:0≤k)(h:s6 k s=true):((oZ k s).size:Int)=s.size - k:=by
 have h:=tI.1 h;rw[oZ,if_neg (by omega),dC];omega
theorem adI(k:Int)(s:ByteArray):(oZ k s).size≤s.size:=by
 unfold oZ;split
 ·exact Nat.le_refl _
 ·rw[dC];omega
theorem afc{Z:aX}:ib P Z 74 vK:=by
 refine aC Tryd.func74 (by kernel_rfl) (fun x=>Nat.le_of_ble_eq_true (by kernel_rfl)) ?_;rintro⟨(k:Int),(s:ByteArray)⟩ ⟨(h1:0≤k),_⟩ X hX hz;refine ew hz hX (by simp) aE.Ok.nil Tryd.func74 (ajg k s) ⟨fun h=>⟨⟨[],[0],1,[]⟩,Nat.le_refl _, ?_⟩,fun h=> ?_⟩
 ·show Norm.run _ _=some ⟨[.bo [.s (.str (ki k s)),.s (.bool (s6 k s))]],[.own [.s (.str (oZ k s))] 9],[],{}⟩;rw[ki,oZ,s6,if_pos (of_decide_eq_true h),if_pos (of_decide_eq_true h),h];kernel_rfl
 ·have h2:=of_decide_eq_false h;refine⟨by omega,h1,by omega,h1,by omega,by omega,⟨[],[0],1,[]⟩,Nat.le_refl _, ?_⟩;show Norm.run _ _=some ⟨[.bo [.s (.str (ki k s)),.s (.bool (s6 k s))]],[.own [.s (.str (oZ k s))] 9],[],{}⟩;rw[ki,oZ,s6,if_neg h2,if_neg h2,h];kernel_rfl
theorem adJ{Z:aX}:ae9.Ok P Z:=aE.Ok.cons (afc.sum ae8) aE.Ok.nil
theorem alQ{Z:aX}:ib P Z 75 abD:=by
 refine aC Tryd.func75 (by kernel_rfl) (fun x=>Nat.le_of_ble_eq_true (by kernel_rfl)) ?_;rintro(s:ByteArray) _ X hX hz;refine ew hz hX (by simp) adJ Tryd.func75 (ajh s) ⟨rfl,rfl,by decide,fun h=>⟨⟨[],[0],2,[]⟩,Nat.le_refl _, ?_⟩,fun h=> ?_⟩
 ·have h:s6 1 s=false:=by simpa using h
  show Norm.run _ _=some ⟨[.bo [.s (.str (ye s)),.s (.bool (w7 s))]],[.own [.fn 74 [.ptr 1 0]] 122,.own [.s (.str (ic s))] 9],[],{}⟩;rw[ye,ic,w7,h];kernel_rfl
 ·have h:s6 1 s=true:=by simpa using h
  have h1:=vM (by omega) h;have h2:=gY (ki 1 s) 0;refine⟨by decide,by omega,⟨by show _≤aW (ki 1 s) 0;omega,by show aW (ki 1 s) 0≤_;omega⟩,rfl,rfl,h2.1,⟨[],[0],2,[]⟩,Nat.le_refl _, ?_⟩;show Norm.run _ _=some ⟨[.bo [.s (.str (ye s)),.s (.bool (w7 s))]],[.own [.fn 74 [.ptr 1 0]] 122,.own [.s (.str (ic s))] 9],[],{}⟩;rw[ye,ic,w7,h];kernel_rfl
theorem jK{Z:aX}:vL.Ok P Z:=aE.Ok.cons (afc.sum ae8) (aE.Ok.cons (alQ.sum aod) (aE.Ok.cons adB.sum aE.Ok.nil))
theorem j9{s:ByteArray}(h:w7 s=true):(ic s).size+1≤s.size:=by
 simp only[w7,Bool.and_eq_true]at h;have h1:=abF (by omega) h.1;have h2:=adI (rdK s) (oZ 1 s);rw[ic,if_pos h.1];omega
def ajl(t:ByteArray):Int:=bF BinOp.or IntKind.i64 (IntKind.i64.wrap (aW t (Int.toNat 0)*2^min (Int.toNat 8) IntKind.i64.bits)) (aW t (Int.toNat 1))
def iC(l:Bool):Nat→ByteArray→List En→List Br→Int×List En×List Br
 |0,_,es,bs=>if da l es bs=true then(0,es,bs)else(4,[],[])
 |n+1,s,es,bs=>
  if s=ByteArray.empty then(if da l es bs=true then(0,es,bs)else(4,[],[]))
  else if w7 s=false then(8,[],[])
  else if l=true then(if w7 (ic s)=true then iC l n (ic (ic s)) (es++[(ye s,ye (ic s),())]) bs else(8,[],[]))
  else(if s6 2 (ic s)=true then iC l n (oZ 2 (ic s)) es (bs++[(ye s,ajl (ki 2 (ic s)),())])else(8,[],[]))
def oJ(s:ByteArray):Int×List En×List Br:=
 if(s.size:Int)>254 then(40,[],[])else if s=ByteArray.empty then(8,[],[])else if aW s 0≠1∧aW s 0≠2 then(4,[],[])
 else iC (aW s 0==1) s.size (s.extract 1 s.size) [] []
def rU(s:ByteArray):Int:=(oJ s).1
def nH(s:ByteArray):List En:=(oJ s).2.1
def mE(s:ByteArray):List Br:=(oJ s).2.2
def ju(s:ByteArray):Bool:=decide (rU s=0)&&(aW s 0==1)
end Lf
namespace Lf
open Go Go.Sx Go.Proofs
abbrev U(s:ByteArray):List UInt8:=s.data.toList
theorem mu(s:ByteArray):(U s).length=s.size:=Array.length_toList
theorem jL(s:ByteArray)(i j:Nat):U (s.extract i j)=((U s).drop i).take (j - i):=by
 rw[U,ByteArray.data_extract,Array.toList_extract,List.extract_eq_take_drop]
theorem zQ:U ByteArray.empty=[]:=rfl
theorem aof{s:ByteArray}(h:U s=[]):s=ByteArray.empty:=rQ h
theorem zR{s:ByteArray}{a b:List UInt8}{k:Int}(h:U s=a++b)(hk:(a.length:Int)=k):s6 k s=true∧U (ki k s)=a∧U (oZ k s)=b:=by
 have hl:=mu s;rw[h,List.length_append]at hl;refine⟨tI.2 (by omega), ?_, ?_⟩
 ·rw[ki,if_neg (by omega),jL,h,show k.toNat - 0=a.length from by omega];simp
 ·rw[oZ,if_neg (by omega),jL,h,show k.toNat=a.length from by omega,List.drop_left,List.take_of_length_le (by omega)]
theorem zS{s:ByteArray}{k:Int}(h0:0≤k)(h:s6 k s=true):U s=U (ki k s)++U (oZ k s)∧((U (ki k s)).length:Int)=k:=by
 have hk:=tI.1 h;have hl:=mu s;refine⟨?_,by rw[mu];exact vM h0 h⟩;rw[ki,oZ,if_neg (by omega),if_neg (by omega),jL,jL,List.drop_zero,Nat.sub_zero,List.take_of_length_le (l:=(U s).drop _) (by simp[hl]),List.take_append_drop]
def nI(s:ByteArray):List UInt8:=UInt8.ofNat s.size::U s
theorem ja{s:ByteArray}{a:UInt8}{r:List UInt8}(h:U s=a::r):aW s 0=(a.toNat:Int):=by
 simp[aW,show s.data.toList=a::r from h]
theorem zT{s:ByteArray}{a b:UInt8}{r:List UInt8}(h:U s=a::b::r):aW s 1=(b.toNat:Int):=by
 simp[aW,show s.data.toList=a::b::r from h]
theorem zU{s k:ByteArray}{r:List UInt8}(h:U s=nI k++r)(hk:k.size≤255):w7 s=true∧ye s=k∧U (ic s)=r:=by
 obtain⟨h1,h2,h3⟩:=zR (s:=s) (a:=[UInt8.ofNat k.size]) (b:=U k++r) (k:=1) (by rw[h];rfl) rfl;have e:rdK s=(k.size:Int):=by rw[rdK,ja h2];simp;omega
 obtain⟨g1,g2,g3⟩:=zR (s:=oZ 1 s) (k:=rdK s) h3 (by rw[mu,e]);refine⟨by simp[w7,h1,g1], ?_, ?_⟩
 ·rw[ye,if_pos h1];exact rQ g2
 ·rw[ic,if_pos h1];exact g3
theorem afd{s:ByteArray}(h:w7 s=true):U s=nI (ye s)++U (ic s)∧(ye s).size≤255:=by
 simp only[w7,Bool.and_eq_true]at h;obtain⟨h1,h2⟩:=h;obtain⟨g1,g2⟩:=zS (by decide) h1;have hr:=gY (ki 1 s) 0;obtain⟨g3,g4⟩:=zS (k:=rdK s) hr.1 h2;have g2:(U (ki 1 s)).length=1:=by omega
 obtain⟨a,ha⟩:=List.length_eq_one_iff.1 g2;have e:rdK s=(a.toNat:Int):=ja ha;rw[ye,ic,if_pos h1,if_pos h1];have hs:(ki (rdK s) (oZ 1 s)).size=a.toNat:=by rw[←mu];omega
 refine⟨?_,by rw[hs];have:=a.toNat_lt;omega⟩;rw[g1,ha,g3,nI,hs];simp
def iq(x:En):List UInt8:=nI x.1++nI x.2.1
def ir(x:Br):List UInt8:=nI x.1++[UInt8.ofNat (x.2.1 / 256).toNat,UInt8.ofNat (x.2.1%256).toNat]
theorem vz{a b:Int}(ha:0≤a∧a≤255)(hb:0≤b∧b≤255):bF BinOp.or IntKind.i64 (IntKind.i64.wrap (a*2^min (Int.toNat 8) IntKind.i64.bits)) b=a*256+b:=by
 have e1:IntKind.i64.wrap (a*2^min (Int.toNat 8) IntKind.i64.bits)=a*256:=by
  rw[show(2:Int)^min (Int.toNat 8) IntKind.i64.bits=256 from by decide];exact cg ⟨by omega,by omega⟩
 rw[e1];obtain⟨x,rfl⟩:=Int.eq_ofNat_of_zero_le ha.1;obtain⟨y,rfl⟩:=Int.eq_ofNat_of_zero_le hb.1;show IntKind.i64.wrap ((BitVec.ofInt 64 _ ||| BitVec.ofInt 64 _).toNat:Int)=_;have e2:(BitVec.ofInt 64 ((x:Int)*256)).toNat=2^8*x:=by rw[BitVec.toNat_ofInt];omega
 have e3:(BitVec.ofInt 64 (y:Int)).toNat=y:=by rw[BitVec.toNat_ofInt];omega
 rw[BitVec.toNat_or,e2,e3,←Nat.two_pow_add_eq_or_of_lt (by omega),cg ⟨by omega,by omega⟩];omega
theorem aog{t:ByteArray}{a b:UInt8}(h:U t=[a,b]):ajl t=(a.toNat:Int)*256+b.toNat:=by
 have h1:=a.toNat_lt;have h2:=b.toNat_lt;have e0:=ja h;have e1:=zT h;rw[ajl,show aW t (Int.toNat 0)=_ from e0,show aW t (Int.toNat 1)=_ from e1];exact vz ⟨by omega,by omega⟩ ⟨by omega,by omega⟩
theorem abG{l:Bool}{n:Nat}{s:ByteArray}{es:List En}{bs:List Br}(h:U s=[]):iC l n s es bs=if da l es bs=true then(0,es,bs)else(4,[],[]):=by
 cases n with
 |zero=>rfl
 |succ n=>rw[iC,if_pos (aof h)]
theorem abH:∀(n:Nat) (yf:List En) (s:ByteArray) (es:List En) (bs:List Br),s.size≤n→U s=yf.flatMap iq→(∀x∈yf,x.1.size≤255∧x.2.1.size≤255)→iC true n s es bs=if da true (es++yf) bs=true then(0,es++yf,bs)else(4,[],[])
 |n,[],s,es,bs,_,hu,_=>by rw[abG hu,List.append_nil]
 |0,x::yf,s,es,bs,hn,hu,_=>by
  have:=mu s;rw[hu]at this;simp[iq,nI]at this;omega
 |n+1,x::yf,s,es,bs,hn,hu,hx=>by
  obtain⟨k,v,⟨⟩⟩:=x;have hx0:=hx (k,v,()) (by simp);have h0:s≠ByteArray.empty:=fun e=>by subst e;simp[zQ,iq,nI]at hu
  obtain⟨a1,a2,a3⟩:=zU (s:=s) (k:=k) (r:=nI v++yf.flatMap iq) (by rw[hu];simp[iq]) hx0.1;obtain⟨b1,b2,b3⟩:=zU a3 hx0.2;have c1:=j9 a1;have c2:=j9 b1;rw[iC,if_neg h0,if_neg (by simp[a1]),if_pos rfl,if_pos b1,a2,b2,abH n yf _ _ bs (by omega) b3 (fun y hy=>hx y (by simp[hy]))];simp
theorem vN:∀(n:Nat) (yg:List Br) (s:ByteArray) (es:List En) (bs:List Br),s.size≤n→U s=yg.flatMap ir→(∀x∈yg,x.1.size≤255∧0≤x.2.1∧x.2.1<65536)→iC false n s es bs=if da false es (bs++yg)=true then(0,es,bs++yg)else(4,[],[])
 |n,[],s,es,bs,_,hu,_=>by rw[abG hu,List.append_nil]
 |0,x::yg,s,es,bs,hn,hu,_=>by
  have:=mu s;rw[hu]at this;simp[ir,nI]at this;omega
 |n+1,x::yg,s,es,bs,hn,hu,hx=>by
  obtain⟨k,p,⟨⟩⟩:=x;have hx0:=hx (k,p,()) (by simp);have h0:s≠ByteArray.empty:=fun e=>by subst e;simp[zQ,ir,nI]at hu
  obtain⟨a1,a2,a3⟩:=zU (s:=s) (k:=k) (r:=[UInt8.ofNat (p / 256).toNat,UInt8.ofNat (p%256).toNat]++yg.flatMap ir) (by rw[hu];simp[ir]) hx0.1;obtain⟨b1,b2,b3⟩:=zR (k:=2) a3 rfl;have c1:=j9 a1;have c2:=adI 2 (ic s)
  have e:ajl (ki 2 (ic s))=p:=by
   have hp:0≤p∧p<65536:=hx0.2;rw[aog b2];simp only[UInt8.toNat_ofNat'];omega
  rw[iC,if_neg h0,if_neg (by simp[a1]),if_neg (by simp),if_pos b1,a2,e,vN n yg _ es _ (by omega) b3 (fun y hy=>hx y (by simp[hy]))];simp
theorem ap7{α:Type}:∀{l:List α},l.length=2→∃a b,l=[a,b]
 |[a,b],_=>⟨a,b,rfl⟩
theorem asz:∀(n:Nat) (l:Bool) (s:ByteArray) (es:List En) (bs:List Br) {lu:List En} {o8:List Br},s.size≤n→iC l n s es bs=(0,lu,o8)→
 ∃yf yg,lu=es++yf∧o8=bs++yg∧da l lu o8=true∧U s=yf.flatMap iq++yg.flatMap ir∧(l=true→yg=[])∧(l=false→yf=[]):=by
 intro n;have fin:∀(l:Bool) (s:ByteArray) (es:List En) (bs:List Br) {lu:List En} {o8:List Br},s=ByteArray.empty→(if da l es bs=true then((0:Int),es,bs)else(4,[],[]))=(0,lu,o8)→
  ∃yf yg,lu=es++yf∧o8=bs++yg∧da l lu o8=true∧U s=yf.flatMap iq++yg.flatMap ir∧(l=true→yg=[])∧(l=false→yf=[]):=by
  intro l s es bs lu o8 hs h;split at h
  ·rename_i hm;simp only[Prod.mk.injEq,true_and]at h;obtain⟨rfl,rfl⟩:=h;exact⟨[],[],by simp,by simp,hm,by subst hs;rfl,fun _=>rfl,fun _=>rfl⟩
  ·simp at h
 induction n with
 |zero=>
  intro l s es bs lu o8 hn h;exact fin l s es bs (lG (Nat.le_zero.1 hn)) h
 |succ n ih=>
  intro l s es bs lu o8 hn h;by_cases h0:s=ByteArray.empty
  ·rw[iC,if_pos h0]at h;exact fin l s es bs h0 h
  ·rw[iC,if_neg h0]at h;split at h
   ·simp at h
   ·rename_i hB;have hB:w7 s=true:=by simpa using hB
    obtain⟨a1,a2⟩:=afd hB;have c1:=j9 hB;split at h
    ·rename_i hl;subst hl;split at h
     ·rename_i hB2;obtain⟨b1,b2⟩:=afd hB2;have c2:=j9 hB2;obtain⟨yf,yg,rfl,rfl,d3,d4,d5,d6⟩:=ih true _ _ _ (by omega) h;have d5:=d5 rfl;subst d5;refine⟨(ye s,ye (ic s),())::yf,[],by simp,by simp,d3, ?_,fun _=>rfl,fun h=>(by cases h)⟩;rw[a1,b1,d4];simp[iq]
     ·simp at h
    ·rename_i hl;have hl:l=false:=by simpa using hl
     subst hl;split at h
     ·rename_i hB2;obtain⟨b1,b2⟩:=zS (by decide) hB2;have c2:=adI 2 (ic s);obtain⟨yf,yg,rfl,rfl,d3,d4,d5,d6⟩:=ih false _ _ _ (by omega) h;have d6:=d6 rfl;subst d6;refine⟨[],(ye s,ajl (ki 2 (ic s)),())::yg,by simp,by simp,d3, ?_,fun h=>(by cases h),fun _=>rfl⟩;have b2:(U (ki 2 (ic s))).length=2:=by omega
      obtain⟨a,b,hab⟩:=ap7 b2;have e:=aog hab;have h1:=a.toNat_lt;have h2:=b.toNat_lt;rw[a1,b1,d4,hab];simp only[List.flatMap_nil,List.nil_append,List.flatMap_cons,ir,e,List.append_assoc];rw[show(((a.toNat:Int)*256+b.toNat) / 256).toNat=a.toNat from by omega,show(((a.toNat:Int)*256+b.toNat)%256).toNat=b.toNat from by omega];simp
     ·simp at h
theorem adK{es:List En}(h:jE es=true){x:En}(hx:x∈es):x.1.size≤24∧x.2.1.size≤100:=by
 obtain⟨i,hi,rfl⟩:=List.getElem_of_mem hx;have:=cV.1 h i hi;simp only[okE,Bool.not_eq_true',Bool.or_eq_false_iff,decide_eq_false_iff_not,bm hi]at this;omega
theorem abI{bs:List Br}(h:gm bs=true){x:Br}(hx:x∈bs):x.1.size≤24∧2≤x.2.1∧x.2.1<1024:=by
 obtain⟨i,hi,rfl⟩:=List.getElem_of_mem hx;have:=cV.1 h i hi;simp only[okB,Bool.not_eq_true',Bool.or_eq_false_iff,decide_eq_false_iff_not,bm hi]at this;omega
abbrev enB(zs:List Int):List UInt8:=zs.map fun n=>UInt8.ofNat n.toNat
theorem alR(zs:List Int):U (aL zs)=enB zs:=rfl
theorem u8_in{n:Int}(h0:0≤n)(h1:n≤255):IntKind.u8.wrap n=n:=by
 simp only[IntKind.wrap,IntKind.bits,IntKind.signed,Bool.false_and];simp;omega
theorem zV{s:ByteArray}(h:s.size≤255):enB (yc s)=nI s:=by
 simp only[enB,yc,List.map_cons,nI,u8_in (n:=(s.size:Int)) (by omega) (by omega),Int.toNat_natCast,List.cons.injEq,true_and,zP,List.map_map];exact(List.map_congr_left (fun a _=>by simp)).trans (List.map_id _)
theorem asA{x:En}(h:x.1.size≤24∧x.2.1.size≤100):enB (nF x)=iq x:=by
 simp only[nF,iq,List.map_append];rw[show(yc x.1).map _=_ from zV (by omega),show(yc x.2.1).map _=_ from zV (by omega)]
theorem asB{x:Br}(h:x.1.size≤24∧2≤x.2.1∧x.2.1<1024):enB (tm x)=ir x:=by
 obtain⟨k,p,⟨⟩⟩:=x;have hp:2≤p∧p<1024:=h.2;simp only[tm,ir,List.map_append,List.map_cons,List.map_nil];rw[show(yc k).map _=_ from zV (by have:k.size≤24:=h.1;omega),show(2:Int)^min (Int.toNat 8) IntKind.i64.bits=256 from by decide,Int.fdiv_eq_ediv_of_nonneg _ (by omega),u8_in (by omega) (by omega)]
 have e:IntKind.u8.wrap p=p%256:=by
  simp only[IntKind.wrap,IntKind.bits,IntKind.signed,Bool.false_and];simp
 rw[e]
theorem vO{α:Type}{f:α→List Int}{g:α→List UInt8}:∀{l:List α},(∀x∈l,enB (f x)=g x)→enB (l.flatMap f)=l.flatMap g
 |[],_=>rfl
 |x::l,h=>by
  simp only[List.flatMap_cons,List.map_append];rw[show(f x).map _=_ from h x (by simp),show(l.flatMap f).map _=_ from vO (fun y hy=>h y (by simp[hy]))]
theorem aoh{l:Bool}{es:List En}{bs:List Br}(h1:jE es=true)(h2:gm bs=true):U (aL (nG l es bs))=(if l=true then 1 else 2)::(es.flatMap iq++bs.flatMap ir):=by
 rw[alR,nG];simp only[List.map_append];rw[show(es.flatMap nF).map _=_ from vO fun x hx=>asA (adK h1 hx),show(bs.flatMap tm).map _=_ from vO fun x hx=>asB (abI h2 hx)];cases l<;>rfl
theorem asC:∀(es:List En),((es.flatMap iq).length:Int)=(es.map oX).sum
 |[]=>rfl
 |x::es=>by
  simp only[List.flatMap_cons,List.length_append,List.map_cons,List.sum_cons,←asC es,oX,iq,nI,List.length_cons,mu];omega
theorem asD:∀(bs:List Br),((bs.flatMap ir).length:Int)=(bs.map pJ).sum
 |[]=>rfl
 |x::bs=>by
  simp only[List.flatMap_cons,List.length_append,List.map_cons,List.sum_cons,←asD bs,pJ,ir,nI,List.length_cons,List.length_nil,mu];omega
theorem abJ{s:ByteArray}{a:UInt8}{es:List En}{bs:List Br}(h:U s=a::(es.flatMap iq++bs.flatMap ir)):(s.size:Int)=bk es bs:=by
 have:=mu s;rw[h]at this;simp only[List.length_cons,List.length_append]at this;rw[bk,←asC,←asD];omega
theorem lK{l:Bool}{es:List En}{bs:List Br}:gZ l es bs=0↔da l es bs=true∧bk es bs≤254:=by
 unfold gZ;split
 ·split<;>simp_all
 ·simp_all
theorem afe{l:Bool}{es:List En}{bs:List Br}(h:gZ l es bs=0):db l es bs=aL (nG l es bs):=by
 obtain⟨h1,h2⟩:=lK.1 h;rw[db,if_pos (by simp[abB,h1,h2])]
theorem alS{l:Bool}{es:List En}{bs:List Br}(h:gZ l es bs=0):rU (db l es bs)=0∧ju (db l es bs)=l∧nH (db l es bs)=es∧mE (db l es bs)=bs∧((db l es bs).size:Int)=bk es bs:=by
 obtain⟨h1,h2⟩:=lK.1 h;obtain⟨m1,m2,m3,m4⟩:=dN h1;rw[afe h];have hu:=aoh (l:=l) m3 m4;have hs:=abJ hu;have h0:aL (nG l es bs)≠ByteArray.empty:=fun e=>by rw[e,zQ]at hu;cases hu
 have hb:aW (aL (nG l es bs)) 0=if l=true then 1 else 2:=by rw[ja hu];cases l<;>rfl
 have he:U ((aL (nG l es bs)).extract 1 (aL (nG l es bs)).size)=es.flatMap iq++bs.flatMap ir:=by
  have:=mu (aL (nG l es bs));rw[hu]at this;rw[jL,hu];simp only[List.length_cons]at this;exact List.take_of_length_le (by simp;simp at this;omega)
 have hd:oJ (aL (nG l es bs))=(0,es,bs):=by
  rw[oJ,if_neg (by omega),if_neg h0,if_neg (by rw[hb];cases l<;>simp),hb];cases l
  ·obtain rfl:=m2 rfl;have:=vN (aL (nG false [] bs)).size bs _ [] [] (by rw[dC];omega) he (fun x hx=>by have:=abI m4 hx;omega);simp only[List.nil_append,h1,if_true]at this;exact this
  ·obtain rfl:=m1 rfl;have:=abH (aL (nG true es [])).size es ((aL (nG true es [])).extract 1 (aL (nG true es [])).size) [] [] (by rw[dC];omega) (by rw[he];simp) (fun x hx=>by have:=adK m3 hx;omega);simp only[List.nil_append,h1,if_true]at this;exact this
 refine⟨by rw[rU,hd], ?_,by rw[nH,hd],by rw[mE,hd],hs⟩;rw[ju,rU,hd,hb];cases l<;>rfl
theorem asE:∀(es:List En),es.length≤(es.flatMap iq).length
 |[]=>Nat.le_refl _
 |x::l=>by have:=asE l;simp only[List.flatMap_cons,List.length_cons,List.length_append,iq,nI];omega
theorem asF:∀(es:List Br),es.length≤(es.flatMap ir).length
 |[]=>Nat.le_refl _
 |x::l=>by have:=asF l;simp only[List.flatMap_cons,List.length_cons,List.length_append,ir,nI];omega
theorem alT{s:ByteArray}(h:rU s=0):bc (nH s)∧bd (mE s)∧gZ (ju s) (nH s) (mE s)=0∧db (ju s) (nH s) (mE s)=s∧da (ju s) (nH s) (mE s)=true:=by
 have h':=h;rw[rU]at h;have hl:ju s=(aW s 0==1):=by simp[ju,h']
 rw[hl];unfold nH mE;unfold oJ at h ⊢;split at h
 ·exact absurd h (by decide)
 rename_i g1;rw[if_neg g1];split at h
 ·exact absurd h (by decide)
 rename_i g2;rw[if_neg g2];split at h
 ·exact absurd h (by decide)
 rename_i g3;rw[if_neg g3];obtain⟨lu,o8,e⟩:∃lu o8,iC (aW s 0==1) s.size (s.extract 1 s.size) [] []=(0,lu,o8):=⟨_,_,Prod.ext h rfl⟩;rw[e];simp only;obtain⟨yf,yg,k1,k2,k3,k4,k5,k6⟩:=asz _ _ _ _ _ (by rw[dC];omega) e;simp only[List.nil_append]at k1 k2;subst k1 k2;obtain⟨m1,m2,m3,m4⟩:=dN k3;have hlen:=mu s;cases hu:U s with
 |nil=>exact absurd (aof hu) g2
 |cons a r=>
  have hb:=ja hu;have ha:=a.toNat_lt
  have hr:r=lu.flatMap iq++o8.flatMap ir:=by
   rw[←k4,jL,hu];rw[hu]at hlen;simp only[List.length_cons]at hlen;rw[show List.drop 1 (a::r)=r from rfl,List.take_of_length_le (by omega)]
  rw[hr]at hu;have hs:=abJ hu;have hn:gZ (aW s 0==1) lu o8=0:=lK.2 ⟨k3,by omega⟩;have awm:=asE lu;have awn:=asF o8;rw[hu]at hlen;simp only[List.length_cons,List.length_append]at hlen;refine⟨⟨by omega,fun x hx=>by have:=adK m3 hx;omega⟩,⟨by omega,fun x hx=>by have:=abI m4 hx;omega⟩,hn, ?_,k3⟩;rw[afe hn];apply rQ;show U _=U _;rw[aoh m3 m4,hu];congr 1;by_cases hc:aW s 0=1
  ·rw[if_pos (by simp[hc])];exact UInt8.toNat_inj.1 (by show 1=_;omega)
  ·rw[if_neg (by simp[hc])]
   have:aW s 0=2:=by
    rcases Decidable.em (aW s 0=2)with h|h
    ·exact h
    ·exact absurd ⟨hc,h⟩ g3
   exact UInt8.toNat_inj.1 (by show 2=_;omega)
end Lf
namespace Lf
open Go Go.Sx Go.Proofs
theorem alU(a:List En):run P ku.sum Tryd.f68 [] (start Tryd.f68 [.s (.ro (.ae cE a))] [])=
 Tree.both (a.length=0) True (.ret [] .emp) (.need (((0:Nat)+a.length)*(32:Nat)≤140737488355328) (.ret [.dead,.vec (.ae [.str,.str] ([]++a)) 34] (.vec 1))):=by kernel_rfl
theorem alV(a:List Br):run P ku.sum Tryd.f106 [] (start Tryd.f106 [.s (.ro (.ae cB a))] [])=
 Tree.both (a.length=0) True (.ret [] .emp) (.need (((0:Nat)+a.length)*(24:Nat)≤140737488355328) (.ret [.dead,.vec (.ae [.str,.int .i64] ([]++a)) 79] (.vec 1))):=by kernel_rfl
abbrev ap8:=bZ [qI] [qI] (fun(l,())=>[(l:List En).length≤100000]) (fun(l,())=>(l,()))
abbrev avd:=bZ [w5] [w5] (fun(l,())=>[(l:List Br).length≤100000]) (fun(l,())=>(l,()))
def adL:aE:=[(68,ap8),(106,avd)]
theorem ajm(a:List En)(k:Int):run P adL.sum Tryd.f100 [] (start Tryd.f100 [.s (.ro (.ae cE a)),.s (.int .i64 k)] [])=
 Tree.ite ((↑a.length:Int)==0) (.ret [] (.bo [.emp,.emp])) (.need ((0:Int)≤0) (.need ((0:Int)≤k) (.need (k≤(↑a.length:Int)) (.need ((List.drop (Int.toNat 0) (List.take k.toNat a)).length≤100000) (.need ((0:Int)≤k) (.need (k≤(↑a.length:Int)) (.need ((↑a.length:Int)≤(↑a.length:Int)) (.need ((List.drop k.toNat (List.take (↑a.length:Int).toNat a)).length≤100000) (.ret [.vec (.ae [.str,.str] (List.drop (Int.toNat 0) (List.take k.toNat a))) 34,.vec (.ae [.str,.str] (List.drop k.toNat (List.take (↑a.length:Int).toNat a))) 34] (.bo [.vec 0,.vec 1])))))))))):=by kernel_rfl
theorem ajn(a:List Br)(k:Int):run P adL.sum Tryd.f101 [] (start Tryd.f101 [.s (.ro (.ae cB a)),.s (.int .i64 k)] [])=
 Tree.ite ((↑a.length:Int)==0) (.ret [] (.bo [.emp,.emp])) (.need ((0:Int)≤0) (.need ((0:Int)≤k) (.need (k≤(↑a.length:Int)) (.need ((List.drop (Int.toNat 0) (List.take k.toNat a)).length≤100000) (.need ((0:Int)≤k) (.need (k≤(↑a.length:Int)) (.need ((↑a.length:Int)≤(↑a.length:Int)) (.need ((List.drop k.toNat (List.take (↑a.length:Int).toNat a)).length≤100000) (.ret [.vec (.ae [.str,.int .i64] (List.drop (Int.toNat 0) (List.take k.toNat a))) 79,.vec (.ae [.str,.int .i64] (List.drop k.toNat (List.take (↑a.length:Int).toNat a))) 79] (.bo [.vec 0,.vec 1])))))))))):=by kernel_rfl
abbrev asG:=bZ [qI,bh] [qI,qI] (fun(l,k,())=>[(l:List En).length≤100000,0≤(k:Int),(l=[]∨k≤(l.length:Int))]) (fun(l,k,())=>(List.take (Int.toNat k) l,List.drop (Int.toNat k) l,()))
abbrev asH:=bZ [w5,bh] [w5,w5] (fun(l,k,())=>[(l:List Br).length≤100000,0≤(k:Int),(l=[]∨k≤(l.length:Int))]) (fun(l,k,())=>(List.take (Int.toNat k) l,List.drop (Int.toNat k) l,()))
def adM:aE:=[(99,ai8),(76,ap5),(93,an7),(100,asG),(101,asH)]
def aoi:List (Nat×Norm):=[(7,⟨[],[1,2,3,6,7,8,9,34,35,36],0,[]⟩)]
theorem alW(l:Bool)(es:List En)(bs:List Br):run P adM.sum Tryd.f84 aoi (start Tryd.f84 [avN l es bs] [])=
 Tree.need (bc es) (.need (bd bs) (.ite (!da l es bs) (.ret [.own [.s (.bool l),.s (.ro (.ae [.str,.str] es)),.s (.ro (.ae [.str,.int .i64] bs))] 73,.own [.s (.aA false),.emp,.emp] 73,.own [.s (.aA false),.emp,.emp] 73,.vec (.ints .i64 (aH es bs)) 3] (.bo [.agg [.s (.aA false),.emp,.emp],.agg [.s (.aA false),.emp,.emp],.s (.aV .i64 4)])) (.ite (decide ((↑(aH es bs).length:Int)<2)) (.ret [.own [.s (.bool l),.s (.ro (.ae [.str,.str] es)),.s (.ro (.ae [.str,.int .i64] bs))] 73,.own [.s (.aA false),.emp,.emp] 73,.own [.s (.aA false),.emp,.emp] 73,.vec (.ints .i64 (aH es bs)) 3] (.bo [.agg [.s (.aA false),.emp,.emp],.agg [.s (.aA false),.emp,.emp],.s (.aV .i64 4)])) (.need (bc es) (.need (bd bs) (.need (aF (bk es bs - (1:Int))) (.need (aF ((↑(aH es bs).length:Int) - (1:Int))) (.need ((0:Int)≤0) (.need ((0:Int)≤(↑(aH es bs).length:Int) - (1:Int)) (.need ((↑(0:Nat):Int)+((↑(aH es bs).length:Int) - (1:Int))≤(↑(aH es bs).length:Int)) (.at (.mk (sl 87 [(1,.ptr 0 0),(2,.ptr 1 0),(3,.ptr 2 0),(6,.s (.int .i64 0)),(7,.s (.int .i64 (bk es bs - (1:Int)))),(8,.s (.int .i64 0)),(9,.s (.int .i64 0)),(34,.part 3 0 (((↑(aH es bs).length:Int) - (1:Int)).toNat - Int.toNat 0)),(35,.s (.int .i64 (↑(((↑(aH es bs).length:Int) - (1:Int)).toNat - Int.toNat 0):Int))),(36,.s (.int .i64 0))]) [.own [.s (.bool l),.s (.ro (.ae [.str,.str] es)),.s (.ro (.ae [.str,.int .i64] bs))] 73,.own [.s (.bool false),.emp,.emp] 73,.own [.s (.bool false),.emp,.emp] 73,.vec (.ints .i64 (aH es bs)) 3] (hd Tryd.f84 7) (.mk none false 0 [] 0))))))))))))):=by kernel_rfl
def alX(l:Bool)(es:List En):List En:=if l=true then es else []
def alY(l:Bool)(bs:List Br):List Br:=if l=true then []else bs
noncomputable def asI(l:Bool)(es:List En)(bs:List Br)(zs:List Int)(n:Nat)(first rest rV least i:Int):bA:=⟨sl 87 [(1,.ptr 0 0),(2,.ptr 1 0),(3,.ptr 2 0),(6,.s (.int .i64 first)),(7,.s (.int .i64 rest)),(8,.s (.int .i64 rV)),(9,.s (.int .i64 least)),(34,.part 3 0 n),(35,.s (.int .i64 (n:Int))),(36,.s (.int .i64 i))],
 [ya l es bs 73,obZ,obZ,.vec (.ints .i64 zs) 3],hd Tryd.f84 7,{}⟩
theorem aff(l:Bool)(es:List En)(bs:List Br)(zs:List Int)(n:Nat)(first rest rV least i:Int):run P adM.sum Tryd.f84 aoi (asI l es bs zs n first rest rV least i)=
 Tree.ite (decide (i<(↑n:Int))) (.need ((0:Int)≤i) (.need (i<(↑n:Int)) (.need (aF (first+zs.getD ((0:Nat)+i.toNat) 0)) (.need (aF (rest - zs.getD ((0:Nat)+i.toNat) 0)) (.ite (rV==0) (.need (aF (i+1)) (.need (aF (i+1)) (.at (.mk (sl 87 [(1,.ptr 0 0),(2,.ptr 1 0),(3,.ptr 2 0),(6,.s (.int .i64 (first+zs.getD ((0:Nat)+i.toNat) 0))),(7,.s (.int .i64 (rest - zs.getD ((0:Nat)+i.toNat) 0))),(8,.s (.int .i64 (i+1))),(9,.s (.int .i64 (imax (first+zs.getD ((0:Nat)+i.toNat) 0) (rest - zs.getD ((0:Nat)+i.toNat) 0)))),(34,.part 3 0 n),(35,.s (.int .i64 (↑n:Int))),(36,.s (.int .i64 (i+1)))]) [.own [.s (.bool l),.s (.ro (.ae [.str,.str] es)),.s (.ro (.ae [.str,.int .i64] bs))] 73,.own [.s (.bool false),.emp,.emp] 73,.own [.s (.bool false),.emp,.emp] 73,.vec (.ints .i64 zs) 3] (hd Tryd.f84 7) (.mk none false 0 [] 0))))) (.ite (decide (imax (first+zs.getD ((0:Nat)+i.toNat) 0) (rest - zs.getD ((0:Nat)+i.toNat) 0)<least)) (.need (aF (i+1)) (.need (aF (i+1)) (.at (.mk (sl 87 [(1,.ptr 0 0),(2,.ptr 1 0),(3,.ptr 2 0),(6,.s (.int .i64 (first+zs.getD ((0:Nat)+i.toNat) 0))),(7,.s (.int .i64 (rest - zs.getD ((0:Nat)+i.toNat) 0))),(8,.s (.int .i64 (i+1))),(9,.s (.int .i64 (imax (first+zs.getD ((0:Nat)+i.toNat) 0) (rest - zs.getD ((0:Nat)+i.toNat) 0)))),(34,.part 3 0 n),(35,.s (.int .i64 (↑n:Int))),(36,.s (.int .i64 (i+1)))]) [.own [.s (.bool l),.s (.ro (.ae [.str,.str] es)),.s (.ro (.ae [.str,.int .i64] bs))] 73,.own [.s (.bool false),.emp,.emp] 73,.own [.s (.bool false),.emp,.emp] 73,.vec (.ints .i64 zs) 3] (hd Tryd.f84 7) (.mk none false 0 [] 0))))) (.need (aF (i+1)) (.at (.mk (sl 87 [(1,.ptr 0 0),(2,.ptr 1 0),(3,.ptr 2 0),(6,.s (.int .i64 (first+zs.getD ((0:Nat)+i.toNat) 0))),(7,.s (.int .i64 (rest - zs.getD ((0:Nat)+i.toNat) 0))),(8,.s (.int .i64 rV)),(9,.s (.int .i64 least)),(34,.part 3 0 n),(35,.s (.int .i64 (↑n:Int))),(36,.s (.int .i64 (i+1)))]) [.own [.s (.bool l),.s (.ro (.ae [.str,.str] es)),.s (.ro (.ae [.str,.int .i64] bs))] 73,.own [.s (.bool false),.emp,.emp] 73,.own [.s (.bool false),.emp,.emp] 73,.vec (.ints .i64 zs) 3] (hd Tryd.f84 7) (.mk none false 0 [] 0))))))))))
 (.need (es.length≤100000) (.need ((0:bh.V)≤rV) (.need (es=[]∨rV≤(↑es.length:Int)) (.need (bs.length≤100000) (.need ((0:bh.V)≤rV) (.need (bs=[]∨rV≤(↑bs.length:Int)) (.ret [.own [.s (.bool l),.s (.ro (.ae [.str,.str] es)),.s (.ro (.ae [.str,.int .i64] bs))] 73,.own [.s (.bool l),.vec 6,.vec 8] 73,.own [.s (.bool l),.vec 7,.vec 9] 73,.vec (.ints .i64 zs) 3,.own [.s (.bool l),.vec 6,.vec 8] 73,.own [.s (.bool l),.vec 7,.vec 9] 73,.vec (.ae [.str,.str] (List.take rV.toNat es)) 34,.vec (.ae [.str,.str] (List.drop rV.toNat es)) 34,.vec (.ae [.str,.int .i64] (List.take rV.toNat bs)) 79,.vec (.ae [.str,.int .i64] (List.drop rV.toNat bs)) 79] (.bo [.agg [.s (.bool l),.vec 6,.vec 8],.agg [.s (.bool l),.vec 7,.vec 9],.s (.aV .i64 0)])))))))):=by kernel_rfl
theorem adN{Z:aX}:dr P Z 68 [qI] [qI] (fun(l,())=>[(l:List En).length≤100000]) (fun(l,())=>(l,())):=by
 refine au Tryd.func68 (by kernel_rfl) (by kernel_rfl) ?_;rintro⟨(l:List En),⟨⟩⟩ _ ⟨(hl:l.length≤100000),_⟩ X hX hz;refine go hz hX aE.Ok.nil Tryd.func68 (alU l) ⟨fun h=> ?_,fun _=>⟨by omega, ?_⟩⟩
 ·obtain rfl:=List.eq_nil_of_length_eq_zero h;exact aS ([],()) rfl (by kernel_rfl)
 ·exact aS (l,()) rfl (by kernel_rfl)
theorem ap9{Z:aX}:dr P Z 106 [w5] [w5] (fun(l,())=>[(l:List Br).length≤100000]) (fun(l,())=>(l,())):=by
 refine au Tryd.func106 (by kernel_rfl) (by kernel_rfl) ?_;rintro⟨(l:List Br),⟨⟩⟩ _ ⟨(hl:l.length≤100000),_⟩ X hX hz;refine go hz hX aE.Ok.nil Tryd.func106 (alV l) ⟨fun h=> ?_,fun _=>⟨by omega, ?_⟩⟩
 ·obtain rfl:=List.eq_nil_of_length_eq_zero h;exact aS ([],()) rfl (by kernel_rfl)
 ·exact aS (l,()) rfl (by kernel_rfl)
theorem yh{Z:aX}:adL.Ok P Z:=aE.Ok.cons adN.sum (aE.Ok.cons ap9.sum aE.Ok.nil)
theorem alZ{Z:aX}:dr P Z 100 [qI,bh] [qI,qI] (fun(l,k,())=>[(l:List En).length≤100000,0≤(k:Int),(l=[]∨k≤(l.length:Int))]) (fun(l,k,())=>(List.take (Int.toNat k) l,List.drop (Int.toNat k) l,())):=by
 refine au Tryd.func100 (by kernel_rfl) (by kernel_rfl) ?_;rintro⟨(l:List En),(k:Int),⟨⟩⟩ _ ⟨(hl:l.length≤100000),(h0:0≤k),(hk:l=[]∨k≤(l.length:Int)),_⟩ X hX hz;show Safe P 100 X (Ends [qI,qI] (l.take k.toNat,l.drop k.toNat,())) _;refine go hz hX yh Tryd.func100 (ajm l k) ⟨fun h=> ?_,fun h=> ?_⟩
 ·obtain rfl:l=[]:=List.eq_nil_of_length_eq_zero (by have:(l.length:Int)=0:=by simpa using h
                                                     omega)
  refine aS (rs:=[qI,qI]) ([],[],()) ?_ (by kernel_rfl);show(List.take k.toNat ([]:List En),List.drop k.toNat ([]:List En),())=([],[],());rw[List.take_nil,List.drop_nil]
 ·have hk:k≤(l.length:Int):=hk.elim (fun e=>by subst e;simp at h) id;have e1:List.drop (Int.toNat 0) (List.take k.toNat l)=l.take k.toNat:=rfl;have e2:List.drop k.toNat (List.take ((l.length:Int)).toNat l)=l.drop k.toNat:=by rw[List.take_of_length_le (by omega)]
  refine⟨by omega,h0,hk, ?_,h0,hk,by omega, ?_, ?_⟩
  ·rw[e1,List.length_take];omega
  ·rw[e2,List.length_drop];omega
  ·exact aS (List.drop (Int.toNat 0) (List.take k.toNat l),List.drop k.toNat (List.take ((l.length:Int)).toNat l),()) (by rw[e2];rfl) (by kernel_rfl)
theorem al0{Z:aX}:dr P Z 101 [w5,bh] [w5,w5] (fun(l,k,())=>[(l:List Br).length≤100000,0≤(k:Int),(l=[]∨k≤(l.length:Int))]) (fun(l,k,())=>(List.take (Int.toNat k) l,List.drop (Int.toNat k) l,())):=by
 refine au Tryd.func101 (by kernel_rfl) (by kernel_rfl) ?_;rintro⟨(l:List Br),(k:Int),⟨⟩⟩ _ ⟨(hl:l.length≤100000),(h0:0≤k),(hk:l=[]∨k≤(l.length:Int)),_⟩ X hX hz;show Safe P 101 X (Ends [w5,w5] (l.take k.toNat,l.drop k.toNat,())) _;refine go hz hX yh Tryd.func101 (ajn l k) ⟨fun h=> ?_,fun h=> ?_⟩
 ·obtain rfl:l=[]:=List.eq_nil_of_length_eq_zero (by have:(l.length:Int)=0:=by simpa using h
                                                     omega)
  refine aS (rs:=[w5,w5]) ([],[],()) ?_ (by kernel_rfl);show(List.take k.toNat ([]:List Br),List.drop k.toNat ([]:List Br),())=([],[],());rw[List.take_nil,List.drop_nil]
 ·have hk:k≤(l.length:Int):=hk.elim (fun e=>by subst e;simp at h) id;have e1:List.drop (Int.toNat 0) (List.take k.toNat l)=l.take k.toNat:=rfl;have e2:List.drop k.toNat (List.take ((l.length:Int)).toNat l)=l.drop k.toNat:=by rw[List.take_of_length_le (by omega)]
  refine⟨by omega,h0,hk, ?_,h0,hk,by omega, ?_, ?_⟩
  ·rw[e1,List.length_take];omega
  ·rw[e2,List.length_drop];omega
  ·exact aS (List.drop (Int.toNat 0) (List.take k.toNat l),List.drop k.toNat (List.take ((l.length:Int)).toNat l),()) (by rw[e2];rfl) (by kernel_rfl)
def jv(zs:List Int)(k:Nat):Int:=imax (zs.take k).sum (zs.sum - (zs.take k).sum)
def hC(zs:List Int):Nat→Nat×Int
 |0=>(0,0)
 |k+1=>if(hC zs k).1=0∨jv zs (k+1)<(hC zs k).2 then(k+1,jv zs (k+1))else hC zs k
theorem oq(zs:List Int):∀k,(hC zs k).1≤k
 |0=>Nat.le_refl _
 |k+1=>by
  have:=oq zs k;rw[hC];split
  ·exact Nat.le_refl _
  ·omega
theorem nJ(zs:List Int):∀k,0<k→0<(hC zs k).1
 |0,h=>absurd h (by omega)
 |k+1,_=>by
  rw[hC];split
  ·exact Nat.succ_pos _
  ·rename_i h;exact Nat.pos_of_ne_zero (fun e=>h (.inl e))
def dQ(es:List En)(bs:List Br):Nat:=(hC (aH es bs) (es.length+bs.length - 1)).1
def dD(l:Bool)(es:List En)(bs:List Br):Bool:=da l es bs&&decide (2≤es.length+bs.length)
def bT(l:Bool)(es:List En)(bs:List Br):Bool:=dD l es bs&&l
def ba(l:Bool)(es:List En)(bs:List Br):List En:=if dD l es bs=true then es.take (dQ es bs)else []
def cQ(l:Bool)(es:List En)(bs:List Br):List En:=if dD l es bs=true then es.drop (dQ es bs)else []
def bg(l:Bool)(es:List En)(bs:List Br):List Br:=if dD l es bs=true then bs.take (dQ es bs)else []
def cY(l:Bool)(es:List En)(bs:List Br):List Br:=if dD l es bs=true then bs.drop (dQ es bs)else []
def spC(l:Bool)(es:List En)(bs:List Br):Int:=if dD l es bs=true then 0 else 4
abbrev spY(l:Bool)(es:List En)(bs:List Br):AL [eK,eK,bh]:=((bT l es bs,ba l es bs,bg l es bs,()),(bT l es bs,cQ l es bs,cY l es bs,()),spC l es bs,())
theorem aqa{l:Bool}{es:List En}{bs:List Br}(h:dD l es bs=false):spY l es bs=((false,[],[],()),(false,[],[],()),4,()):=by
 simp[spY,bT,ba,cQ,bg,cY,spC,h];rfl
theorem al1{l:Bool}{es:List En}{bs:List Br}(h:dD l es bs=true):spY l es bs=((l,es.take (dQ es bs),bs.take (dQ es bs),()),(l,es.drop (dQ es bs),bs.drop (dQ es bs),()),0,()):=by
 simp[spY,bT,ba,cQ,bg,cY,spC,h];rfl
theorem vP(es:List En)(bs:List Br):(aH es bs).length=es.length+bs.length:=by simp[aH]
theorem ag2{zs:List Int}(h:∀x∈zs,0≤x∧x≤2002)(hl:zs.length≤2000)(k:Nat):0≤(zs.take k).sum∧(zs.take k).sum≤4004000:=by
 have:=oo (l:=zs.take k) (m:=2002) (fun x hx=>h x (List.mem_of_mem_take hx)) (by omega);have h3:(zs.take k).length≤2000:=by rw[List.length_take];omega
 omega
theorem ajo{Z:aX}:dr P Z 84 [eK] [eK,eK,bh] (fun((_,es,bs,()),())=>[bc es,bd bs])
 (fun((l,es,bs,()),())=>((bT l es bs,ba l es bs,bg l es bs,()),(bT l es bs,cQ l es bs,cY l es bs,()),spC l es bs,())):=by
 refine au Tryd.func84 (by kernel_rfl) (by kernel_rfl) ?_;rintro⟨⟨(l:Bool),(es:List En),(bs:List Br),⟨⟩⟩,⟨⟩⟩ _ ⟨(he:bc es),(hb:bd bs),_⟩ X hX hz;have hT:adM.Ok P Z:=aE.Ok.cons qJ.sum (aE.Ok.cons adB.sum (aE.Ok.cons ae5.sum (aE.Ok.cons alZ.sum (aE.Ok.cons al0.sum aE.Ok.nil))));show Safe P 84 X (Ends [eK,eK,bh] (spY l es bs)) _;have hle:=he.1;have hlb:=hb.1;have hlen:=vP es bs;have hr:=yb he hb;have lD:=ag2 hr (by omega);have ave:=lD (aH es bs).length;rw[List.take_length]at ave;have bK:=nE es bs;have loop:dD l es bs=true→∀(n k:Nat),k+n=es.length+bs.length - 1→Safe P 84 X (Ends [eK,eK,bh] (spY l es bs))
  (asI l es bs (aH es bs) (es.length+bs.length - 1) ((aH es bs).take k).sum ((aH es bs).sum - ((aH es bs).take k).sum) ((hC (aH es bs) k).1:Int) (hC (aH es bs) k).2 (k:Int)):=by
  intro jd n;have asJ:=jd;simp only[dD,Bool.and_eq_true,decide_eq_true_eq]at asJ;obtain⟨hm,h2⟩:=asJ;obtain⟨m1,m2,m3,m4⟩:=dN hm
  induction n with
  |zero=>
   intro k hk;have awq:=oq (aH es bs) k
   have hE:es=[]∨((hC (aH es bs) k).1:Int)≤(es.length:Int):=by
    cases l
    ·exact .inl (m2 rfl)
    ·have:=m1 rfl;subst this;simp only[List.length_nil]at hk;exact .inr (by omega)
   have hB:bs=[]∨((hC (aH es bs) k).1:Int)≤(bs.length:Int):=by
    cases l
    ·have:=m2 rfl;subst this;simp only[List.length_nil]at hk;exact .inr (by omega)
    ·exact .inl (m1 rfl)
   refine go hz hX hT Tryd.func84 (aff l es bs _ _ _ _ _ _ k) ⟨fun h=>absurd (of_decide_eq_true h) (by omega),fun h=>⟨by omega,Int.natCast_nonneg _,hE,by omega,Int.natCast_nonneg _,hB, ?_⟩⟩;have asK:(hC (aH es bs) k).1=dQ es bs:=by rw[dQ,show k=es.length+bs.length - 1 from by omega]
   rw[asK,al1 jd];exact aS ((l,es.take (dQ es bs),bs.take (dQ es bs),()),(l,es.drop (dQ es bs),bs.drop (dQ es bs),()),0,()) rfl (by kernel_rfl)
  |succ n ih=>
   intro k hk;have h1:=lD k
   have h3:0≤(aH es bs).getD k 0∧(aH es bs).getD k 0≤2002:=by
    rw[bm (by omega)];exact hr _ (List.getElem_mem _)
   have mA:=iN (l:=aH es bs) (k:=k) (by omega)
   have hc:imax (((aH es bs).take k).sum+(aH es bs).getD k 0) ((aH es bs).sum - ((aH es bs).take k).sum - (aH es bs).getD k 0)=jv (aH es bs) (k+1):=by
    rw[jv,←mA];congr 1;omega
   have next:=ih (k+1) (by omega)
   rw[←mA,show(aH es bs).sum - (((aH es bs).take k).sum+(aH es bs).getD k 0)=(aH es bs).sum - ((aH es bs).take k).sum - (aH es bs).getD k 0 from by omega]at next
   refine go hz hX hT Tryd.func84 (aff l es bs _ _ _ _ _ _ k) ?_;simp only[Int.toNat_natCast,Nat.zero_add,hc];refine⟨fun h=>⟨by omega,by omega,⟨by omega,by omega⟩,⟨by omega,by omega⟩,fun h0=> ?_,fun h0=>⟨fun a8=> ?_,fun a8=> ?_⟩⟩,fun h=>absurd (of_decide_eq_false h) (by omega)⟩
   ·have h0:(hC (aH es bs) k).1=0:=by have:((hC (aH es bs) k).1:Int)=0:=by simpa using h0
                                      omega
    rw[hC,if_pos (.inl h0)]at next
    exact⟨⟨by omega,by omega⟩,⟨by omega,by omega⟩,next⟩
   ·rw[hC,if_pos (.inr (of_decide_eq_true a8))]at next
    exact⟨⟨by omega,by omega⟩,⟨by omega,by omega⟩,next⟩
   ·have h0:¬((hC (aH es bs) k).1=0∨jv (aH es bs) (k+1)<(hC (aH es bs) k).2):=by
     rintro(h|h)
     ·simp[h]at h0
     ·exact of_decide_eq_false a8 h
    rw[hC,if_neg h0]at next
    exact⟨⟨by omega,by omega⟩,next⟩
 have bad:dD l es bs=false→spY l es bs=((false,[],[],()),(false,[],[],()),4,()):=aqa;refine go hz hX hT Tryd.func84 (alW l es bs) ⟨he,hb,fun h=>aS ((false,[],[],()),(false,[],[],()),4,()) (bad ?_) (by kernel_rfl),fun h=>⟨fun h2=>aS ((false,[],[],()),(false,[],[],()),4,()) (bad ?_) (by kernel_rfl),fun h2=> ?_⟩⟩
 ·have h:da l es bs=false:=by simpa using h
  simp[dD,h]
 ·have h2:=of_decide_eq_true h2;simp only[dD,Bool.and_eq_false_iff,decide_eq_false_iff_not];exact .inr (by omega)
 ·have h:da l es bs=true:=by simpa using h
  have h2:=of_decide_eq_false h2;have jd:dD l es bs=true:=by simp only[dD,h,Bool.true_and,decide_eq_true_eq];omega
  refine⟨he,hb,⟨by omega,by omega⟩,⟨by omega,by omega⟩,by omega,by omega,by omega, ?_⟩;have:=loop jd (es.length+bs.length - 1) 0 (by omega);have e1:((((aH es bs).length:Int) - 1).toNat - Int.toNat 0)=es.length+bs.length - 1:=by omega
  rw[e1,bK];simp only[List.take_zero,List.sum_nil,Int.sub_zero,hC]at this;rw[show 1+(aH es bs).sum - 1=(aH es bs).sum from by omega];exact this
theorem abK{es:List En}(h:bc es)(k:Nat):bc (es.take k):=⟨by have:=h.1;rw[List.length_take];omega,fun x hx=>h.2 x (List.mem_of_mem_take hx)⟩
theorem abL{es:List Br}(h:bd es)(k:Nat):bd (es.take k):=⟨by have:=h.1;rw[List.length_take];omega,fun x hx=>h.2 x (List.mem_of_mem_take hx)⟩
theorem abM{es:List En}(h:bc es)(k:Nat):bc (es.drop k):=⟨by have:=h.1;rw[List.length_drop];omega,fun x hx=>h.2 x (List.mem_of_mem_drop hx)⟩
theorem abN{es:List Br}(h:bd es)(k:Nat):bd (es.drop k):=⟨by have:=h.1;rw[List.length_drop];omega,fun x hx=>h.2 x (List.mem_of_mem_drop hx)⟩
theorem iD:bc []:=⟨by simp,fun x hx=>by simp at hx⟩
theorem vQ:bd []:=⟨by simp,fun x hx=>by simp at hx⟩
theorem abO(zs:List Int)(k:Nat):(zs.drop k).sum=zs.sum - (zs.take k).sum:=by
 have:(zs.take k++zs.drop k).sum=zs.sum:=by rw[List.take_append_drop]
 rw[List.sum_append]at this;omega
theorem ag3{l:Bool}{es:List En}{bs:List Br}(m1:l=true→bs=[])(m2:l=false→es=[])(k:Nat):
 alX l (es.take k)=es.take k∧alY l (bs.take k)=bs.take k∧alX l (es.drop k)=es.drop k∧alY l (bs.drop k)=bs.drop k∧
 bk (es.take k) (bs.take k)=1+((aH es bs).take k).sum∧bk (es.drop k) (bs.drop k)=1+((aH es bs).sum - ((aH es bs).take k).sum):=by
 rw[←abO];cases l
 ·obtain rfl:=m2 rfl;simp[alX,alY,aH,bk]
 ·obtain rfl:=m1 rfl;simp[alX,alY,aH,bk]
theorem ajp(a b:Int):imax (1+a) (1+b)=1+imax a b:=by
 unfold imax;split<;>split<;>omega
end Lf
namespace Lf
open Go Go.Sx Go.Proofs
abbrev zW:=bZ [qI,dt] [bh,cX] (fun(l,_,())=>[(l:List En).length≤1000000,im (bB l)]) (fun(l,key,())=>((cu (bB l) key:Nat),jj (bB l) key,()))
def al2:aE:=[(58,zW)]
theorem ajq(l:List En)(key:ByteArray):run P al2.sum Tryd.f38 [] (start Tryd.f38 [.s (.ro (.ae cE l)),.s (.str key)] [])=
 Tree.need (l.length≤1000000) (.need (im (bB l)) (.ite (!jj (bB l) key) (.ret [] (.bo [.s (.str ByteArray.empty),.s (.aA false)])) (.need ((0:Int)≤(↑(cu (bB l) key):bh.V)) (.need ((↑(cu (bB l) key):bh.V)<(↑l.length:Int)) (.ret [] (.bo [.s (.str (l.getD (Int.toNat (↑(cu (bB l) key):bh.V)) (CL.d [.str,.str])).snd.fst),.s (.aA true)])))))):=by kernel_rfl
theorem adO(l:List En)(i j:Int):run P ku.sum Tryd.f70 [] (start Tryd.f70 [.vec 0,.s (.int .i64 i),.s (.int .i64 j)] [.vec (.ae cE l) eE])=
 Tree.need ((0:Int)≤i) (.need (i≤j) (.need (j≤(↑l.length:Int)) (.need ((↑(0:Nat):Int)+(↑l.length:Int)≤(↑l.length:Int)) (.ite (i==j) (.ret [.vec (.ae [.str,.str] l) 34] (.vec 0)) (.need ((0:Int)≤0) (.need ((0:Int)≤i) (.need ((↑(0:Nat):Int)+i≤(↑l.length:Int)) (.need ((0:Int)≤j) (.need (j≤(↑l.length:Int)) (.need ((↑(0:Nat):Int)+(↑l.length:Int)≤(↑l.length:Int)) (.need ((0:Nat)+(i.toNat - Int.toNat 0)+(List.drop ((0:Nat)+j.toNat) (List.take ((0:Nat)+j.toNat+((↑l.length:Int).toNat - j.toNat)) l)).length≤l.length) (.need ((0:Int)≤(↑(i.toNat - Int.toNat (0:Int)+(List.drop ((0:Nat)+j.toNat) (List.take ((0:Nat)+j.toNat+((↑l.length:Int).toNat - j.toNat)) l)).length):Int)) (.need ((↑(i.toNat - Int.toNat (0:Int)+(List.drop ((0:Nat)+j.toNat) (List.take ((0:Nat)+j.toNat+((↑l.length:Int).toNat - j.toNat)) l)).length):Int)≤(↑l.length:Int)) (.need ((↑(0:Nat):Int)+(↑l.length:Int)≤(↑(over l ((0:Nat)+(i.toNat - Int.toNat 0)) (List.drop ((0:Nat)+j.toNat) (List.take ((0:Nat)+j.toNat+((↑l.length:Int).toNat - j.toNat)) l)).length (List.drop ((0:Nat)+j.toNat) (List.take ((0:Nat)+j.toNat+((↑l.length:Int).toNat - j.toNat)) l))).length:Int)) (.ret [.vec (.ae [.str,.str] (over (over l ((0:Nat)+(i.toNat - Int.toNat 0)) (List.drop ((0:Nat)+j.toNat) (List.take ((0:Nat)+j.toNat+((↑l.length:Int).toNat - j.toNat)) l)).length (List.drop ((0:Nat)+j.toNat) (List.take ((0:Nat)+j.toNat+((↑l.length:Int).toNat - j.toNat)) l))) ((0:Nat)+(↑(i.toNat - Int.toNat (0:Int)+(List.drop ((0:Nat)+j.toNat) (List.take ((0:Nat)+j.toNat+((↑l.length:Int).toNat - j.toNat)) l)).length):Int).toNat) ((↑l.length:Int).toNat - (↑(i.toNat - Int.toNat (0:Int)+(List.drop ((0:Nat)+j.toNat) (List.take ((0:Nat)+j.toNat+((↑l.length:Int).toNat - j.toNat)) l)).length):Int).toNat) (List.replicate ((↑l.length:Int).toNat - (↑(i.toNat - Int.toNat (0:Int)+(List.drop ((0:Nat)+j.toNat) (List.take ((0:Nat)+j.toNat+((↑l.length:Int).toNat - j.toNat)) l)).length):Int).toNat) (CL.d [.str,.str])))) 34] (.part 0 0 (i.toNat - Int.toNat (0:Int)+(List.drop ((0:Nat)+j.toNat) (List.take ((0:Nat)+j.toNat+((↑l.length:Int).toNat - j.toNat)) l)).length))))))))))))))))):=by kernel_rfl
theorem drop_cons{α:Type}{l:List α}{k:Nat}(d:α)(h:k<l.length):l.drop k=l.getD k d::l.drop (k+1):=by rw[List.drop_eq_getElem_cons h,bm h]
abbrev tn(key:ByteArray)(x:En):Bool:=decide (x.1=key)
def oK(l:List En)(key:ByteArray):ByteArray:=match l.find? (tn key)with|some x=>x.2.1|none=>ByteArray.empty
def me(l:List En)(key:ByteArray):Bool:=(l.find? (tn key)).isSome
theorem afg{L:List ad}{s:ByteArray}{b:Bool}:Ends [dt,cX] (s,b,()) L (.bo [.s (.str s),.s (.aA b)]):=rfl
theorem afh{l:List En}(hs:im (bB l)){i j:Nat}(hi:i<l.length)(hj:j<l.length)(h:(l.getD i dE).1=(l.getD j dE).1):i=j:=by
 have hk:∀t,(bB l).getD t ByteArray.empty=(l.getD t dE).1:=fun t=>cC l pI dE t;have hn:(bB l).length=l.length:=List.length_map _;rcases Nat.lt_trichotomy i j with h1|h1|h1
 ·have:=hs i j h1 (by omega);rw[hk,hk,h,dM]at this;cases this
 ·exact h1
 ·have:=hs j i h1 (by omega);rw[hk,hk,h,dM]at this;cases this
theorem zX{l:List En}{key:ByteArray}(hs:im (bB l)):me l key=jj (bB l) key∧(jj (bB l) key=true→cu (bB l) key<l.length∧oK l key=(l.getD (cu (bB l) key) dE).2.1):=by
 have hk:∀t,(bB l).getD t ByteArray.empty=(l.getD t dE).1:=fun t=>cC l pI dE t;have hn:(bB l).length=l.length:=List.length_map _;cases ha:jj (bB l) key
 ·refine⟨?_,fun h=>by cases h⟩;cases hf:l.find? (tn key)with
  |none=>rw[me,hf];rfl
  |some x=>
   exfalso;have h1:=List.find?_some hf;obtain⟨i,hi,rfl⟩:=List.getElem_of_mem (List.mem_of_find?_eq_some hf);have h1:l[i].1=key:=of_decide_eq_true h1;have h2:(l.getD i dE).1=key:=by rw[bm hi];exact h1
   rcases Nat.lt_or_ge i (cu (bB l) key)with h3|h3
   ·have:=adG h3;rw[hk,h2,dM]at this;cases this
   ·rcases Nat.eq_or_lt_of_le h3 with h4|h4
    ·have:jj (bB l) key=true:=jF.2 ⟨by omega,by rw[hk,h4];exact h2⟩;rw[ha]at this;cases this
    ·have h5:=ajf hs (key:=key) (t:=cu (bB l) key) (Nat.le_refl _) (by omega);have h6:=hs _ _ h4 (by omega);rw[hk i,h2]at h6;rw[h6]at h5;cases h5
 ·obtain⟨h1,h2⟩:=jF.1 ha;rw[hk]at h2;rw[hn]at h1;cases hf:l.find? (tn key)with
  |none=>
   exfalso;have:=List.find?_eq_none.1 hf (l.getD (cu (bB l) key) dE) (by rw[bm h1];exact List.getElem_mem _);exact this (decide_eq_true h2)
  |some x=>
   obtain⟨i,hi,rfl⟩:=List.getElem_of_mem (List.mem_of_find?_eq_some hf);have h3:=List.find?_some hf;have h3:l[i].1=key:=of_decide_eq_true h3;have e:i=cu (bB l) key:=afh hs hi h1 (by rw[h2,bm hi];exact h3);subst e;exact⟨by rw[me,hf];rfl,fun _=>⟨h1,by rw[oK,hf,bm hi]⟩⟩
theorem al3{Z:aX}:dr P Z 38 [qI,dt] [dt,cX] (fun(l,_,())=>[(l:List En).length≤1000000,im (bB l)]) (fun(l,key,())=>(oK l key,me l key,())):=by
 refine au Tryd.func38 (by kernel_rfl) (by kernel_rfl) ?_;rintro⟨(l:List En),(key:ByteArray),⟨⟩⟩ _ ⟨(hl:l.length≤1000000),(hs:im (bB l)),_⟩ X hX hz;show Safe P 38 X (Ends [dt,cX] (oK l key,me l key,())) _;obtain⟨h1,h2⟩:=zX (key:=key) hs;refine go hz hX (aE.Ok.cons rT.sum aE.Ok.nil) Tryd.func38 (ajq l key) ⟨hl,hs,fun h=> ?_,fun h=> ?_⟩
 ·have h:jj (bB l) key=false:=by simpa using h
  have e2:me l key=false:=by rw[h1,h]
  have e1:oK l key=ByteArray.empty:=by
   cases hf:l.find? (tn key)with
   |none=>rw[oK,hf]
   |some x=>rw[me,hf]at e2;cases e2
  rw[e1,e2];exact afg
 ·have h:jj (bB l) key=true:=by simpa using h
  obtain⟨h3,h4⟩:=h2 h;rw[h4,h1,h];refine⟨Int.natCast_nonneg _, ?_,afg⟩;show((cu (bB l) key:Nat):Int)<_;omega
def vR(key val:ByteArray):Bool→List En→List En
 |dn,[]=>if dn=true then []else [(key,val,())]
 |dn,x::r=>if dn=false∧slt x.1 key=false then(if x.1=key then(key,val,())::vR key val true r else(key,val,())::x::vR key val true r)else x::vR key val dn r
def cD(l:List En)(key:ByteArray):List En:=l.filter fun x=> !tn key x
def gq(l:List En)(key:ByteArray):Bool:=decide (((cD l key).length:Int)<(l.length:Int))
theorem yi(x:En)(r:List En)(key:ByteArray):cD (x::r) key=if(!tn key x)=true then x::cD r key else cD r key:=by
 unfold cD;rw[List.filter_cons]
end Lf
namespace Lf
open Go Go.Sx Go.Proofs
abbrev w8(l:List En)(j:Int):List En:=List.drop ((0:Nat)+j.toNat) (List.take ((0:Nat)+j.toNat+(((l.length:Int)).toNat - j.toNat)) l)
abbrev rW(l:List En)(i j:Int):Nat:=i.toNat - Int.toNat (0:Int)+(w8 l j).length
abbrev ag4(l:List En)(i j:Int):List En:=over (over l ((0:Nat)+(i.toNat - Int.toNat (0:Int))) (w8 l j).length (w8 l j)) ((0:Nat)+((rW l i j:Nat):Int).toNat) (((l.length:Int)).toNat - ((rW l i j:Nat):Int).toNat) (List.replicate (((l.length:Int)).toNat - ((rW l i j:Nat):Int).toNat) (CL.d cE))
def afi:Spec (List En×Int×Int):=⟨fun x=>[.vec 0,.s (.int .i64 x.2.1),.s (.int .i64 x.2.2)],fun x=>[.vec (.ae cE x.1) eE],fun x=>[0≤x.2.1,x.2.1<x.2.2,x.2.2≤((x.1.length:Nat):Int)],fun x=>[.vec (.ae cE (ag4 x.1 x.2.1 x.2.2)) eE],fun x=>.part 0 0 (rW x.1 x.2.1 x.2.2)⟩
def asL:List AV→RM ((List En×Int×Int)×List Nat)
 |[.vec id,.s (.int .i64 i),.s (.int .i64 j)]=>.look id fun
  |some (.vec (.ae [.str,.str] l) _)=>.ret ((l,i,j),[id])
  |_=>.fail "delete: no row"
 |_=>.fail "delete"
def ajr:aE:=[(58,zW),(68,ap8),(70,cI afi asL)]
theorem al4(l:List En)(key:ByteArray):run P ajr.sum Tryd.f52 [] (start Tryd.f52 [.s (.ro (.ae cE l)),.s (.str key)] [])=
 Tree.need (l.length≤1000000) (.need (im (bB l)) (.need (l.length≤100000) (.ite (jj (bB l) key) (.need (aF ((↑(cu (bB l) key):bh.V)+1)) (.need (bt (some [AV.vec 0,.s (.int .i64 (↑(cu (bB l) key):bh.V)),.s (.int .i64 ((↑(cu (bB l) key):bh.V)+1))])) (.need (bt (some [ad.vec (.ae [.str,.str] l) 34])) (.need ((0:Int)≤(↑(cu (bB l) key):bh.V)) (.need ((↑(cu (bB l) key):bh.V)<(↑(cu (bB l) key):bh.V)+1) (.need ((↑(cu (bB l) key):bh.V)+1≤(↑l.length:Int)) (.ret [.vec (.ae [.str,.str] (ag4 l (↑(cu (bB l) key):bh.V) ((↑(cu (bB l) key):bh.V)+1))) 34] (.bo [.part 0 0 (rW l (↑(cu (bB l) key):bh.V) ((↑(cu (bB l) key):bh.V)+1)),.s (.bool (jj (bB l) key))])))))))) (.ret [.vec (.ae [.str,.str] l) 34] (.bo [.vec 0,.s (.bool (jj (bB l) key))]))))):=by kernel_rfl
theorem ag5{Z:aX}:ib P Z 70 afi:=by
 refine aC Tryd.func70 (by kernel_rfl) (fun x=>Nat.le_of_ble_eq_true (by kernel_rfl)) ?_;rintro⟨(l:List En),(i:Int),(j:Int)⟩ ⟨(h1:0≤i),(h2:i<j),(h3:j≤(l.length:Int)),_⟩ X hX hz;have e1:(w8 l j).length=l.length - j.toNat:=by simp only[w8,List.length_drop,List.length_take];omega
 refine ew hz hX (by simp) aE.Ok.nil Tryd.func70 (adO l i j) ⟨h1,by omega,h3,by omega,fun h=>absurd h (by simp;omega),fun _=>⟨by omega,h1,by omega,by omega,h3,by omega, ?_, ?_, ?_, ?_,⟨⟨[],[0],1,[]⟩,Nat.le_refl _, ?_⟩⟩⟩
 ·show 0+(i.toNat - Int.toNat 0)+(w8 l j).length≤l.length;rw[e1];omega
 ·show(0:Int)≤((rW l i j:Nat):Int);omega
 ·show((rW l i j:Nat):Int)≤_;simp only[rW,e1];omega
 ·show((0:Nat):Int)+(l.length:Int)≤((over l (0+(i.toNat - Int.toNat 0)) (w8 l j).length (w8 l j)).length:Int);simp only[over,List.length_append,List.length_take,List.length_drop,e1];omega
 ·show Norm.run _ _=some ⟨[.part 0 0 (rW l i j)],[.vec (.ae cE (ag4 l i j)) eE],[],{}⟩;kernel_rfl
theorem ajs{l:List En}{key:ByteArray}(hs:im (bB l)):(jj (bB l) key=false→cD l key=l)∧(jj (bB l) key=true→cD l key=l.take (cu (bB l) key)++l.drop (cu (bB l) key+1)):=by
 have hk:∀t,(bB l).getD t ByteArray.empty=(l.getD t dE).1:=fun t=>cC l pI dE t;have hn:(bB l).length=l.length:=List.length_map _;obtain⟨f1,f2⟩:=zX (key:=key) hs;refine⟨fun h=> ?_,fun h=> ?_⟩
 ·rw[h]at f1;refine List.filter_eq_self.2 fun x hx=> ?_
  have:l.find? (tn key)=none:=by
   cases hf:l.find? (tn key)with
   |none=>rfl
   |some y=>rw[me,hf]at f1;cases f1
  have:=List.find?_eq_none.1 this x hx;cases hb:tn key x
  ·rfl
  ·exact absurd hb this
 ·obtain⟨h1,h2⟩:=jF.1 h;rw[hk]at h2;rw[hn]at h1;have e:l=l.take (cu (bB l) key)++l.getD (cu (bB l) key) dE::l.drop (cu (bB l) key+1):=by rw[←drop_cons dE h1,List.take_append_drop]
  have other:∀i,i<l.length→i≠cu (bB l) key→(!tn key (l.getD i dE))=true:=fun i hi cv=>by
   cases hb:tn key (l.getD i dE)
   ·rfl
   ·exact absurd (afh hs hi h1 ((show(l.getD i dE).1=key from of_decide_eq_true hb).trans h2.symm)) cv
  have g1:cD (l.take (cu (bB l) key)) key=l.take (cu (bB l) key):=by
   refine List.filter_eq_self.2 fun x hx=> ?_;obtain⟨i,hi,rfl⟩:=List.getElem_of_mem hx;rw[List.length_take]at hi;have:=other i (by omega) (by omega);rw[bm (by omega)]at this;rw[List.getElem_take];exact this
  have g2:cD (l.drop (cu (bB l) key+1)) key=l.drop (cu (bB l) key+1):=by
   refine List.filter_eq_self.2 fun x hx=> ?_;obtain⟨i,hi,rfl⟩:=List.getElem_of_mem hx;rw[List.length_drop]at hi;have:=other (cu (bB l) key+1+i) (by omega) (by omega);rw[bm (by omega)]at this;rw[List.getElem_drop];exact this
  have app:∀a b:List En,cD (a++b) key=cD a key++cD b key:=fun a b=>List.filter_append ..;have:cD l key=cD (l.take (cu (bB l) key)++l.getD (cu (bB l) key) dE::l.drop (cu (bB l) key+1)) key:=by rw[←e]
  rw[this,app,yi,if_neg (show¬(!decide ((l.getD (cu (bB l) key) dE).1=key))=true from by rw[decide_eq_true h2];simp),g1,g2]
theorem al5{l:List En}{key:ByteArray}(hs:im (bB l)):gq l key=jj (bB l) key:=by
 obtain⟨h1,h2⟩:=ajs (key:=key) hs;cases ha:jj (bB l) key
 ·rw[gq,h1 ha];simp
 ·obtain⟨h3,_⟩:=jF.1 ha;rw[List.length_map]at h3;rw[gq,h2 ha];simp only[List.length_append,List.length_take,List.length_drop,decide_eq_true_eq];omega
theorem ag6{l:List En}{k:Nat}(h:k<l.length):(ag4 l (k:Int) ((k:Int)+1)).take (rW l (k:Int) ((k:Int)+1))=l.take k++l.drop (k+1):=by
 have e0:w8 l ((k:Int)+1)=l.drop (k+1):=by
  simp only[w8];rw[show 0+((k:Int)+1).toNat=k+1 from by omega,List.take_of_length_le (by omega)]
 have e1:rW l (k:Int) ((k:Int)+1)=l.length - 1:=by
  simp only[rW,e0,List.length_drop];omega
 simp only[ag4,e0,e1,over];rw[show 0+((k:Int).toNat - Int.toNat 0)=k from by omega,show 0+(((l.length - 1:Nat):Int)).toNat=l.length - 1 from by omega,show k+(l.drop (k+1)).length=l.length - 1 from by rw[List.length_drop];omega];rw[List.take_of_length_le (l:=l.drop (k+1)) (Nat.le_refl _)];have hlen:(l.take k++l.drop (k+1)).length=l.length - 1:=by simp only[List.length_append,List.length_take,List.length_drop];omega
 rw[List.append_assoc,List.append_assoc,←List.append_assoc (l.take k),List.take_left' hlen,List.take_left' hlen]
theorem ajt{Z:aX}:dr P Z 52 [qI,dt] [qI,cX] (fun(l,_,())=>[(l:List En).length≤100000,im (bB l)]) (fun(l,key,())=>(cD l key,gq l key,())):=by
 refine au Tryd.func52 (by kernel_rfl) (by kernel_rfl) ?_;rintro⟨(l:List En),(key:ByteArray),⟨⟩⟩ _ ⟨(hl:l.length≤100000),(hs:im (bB l)),_⟩ X hX hz;show Safe P 52 X (Ends [qI,cX] (cD l key,gq l key,())) _;have hT:ajr.Ok P Z:=aE.Ok.cons rT.sum (aE.Ok.cons adN.sum (aE.Ok.cons (ag5.sum asL) aE.Ok.nil));obtain⟨d1,d2⟩:=ajs (key:=key) hs;have hb:=al5 (key:=key) hs;have hle:=vE (bB l) key;rw[List.length_map]at hle;refine go hz hX hT Tryd.func52 (al4 l key) ⟨by omega,hs,hl,fun h=> ?_,fun h=> ?_⟩
 ·obtain⟨h3,_⟩:=jF.1 h;rw[List.length_map]at h3;refine⟨⟨?_, ?_⟩,rfl,rfl, ?_, ?_, ?_, ?_⟩
  ·show(-9223372036854775808:Int)≤((cu (bB l) key:Nat):Int)+1;omega
  ·show((cu (bB l) key:Nat):Int)+1≤(9223372036854775807:Int);omega
  ·show(0:Int)≤((cu (bB l) key:Nat):Int);omega
  ·show((cu (bB l) key:Nat):Int)<((cu (bB l) key:Nat):Int)+1;omega
  ·show((cu (bB l) key:Nat):Int)+1≤(l.length:Int);omega
  ·refine aS (List.drop 0 ((ag4 l ((cu (bB l) key:Nat):Int) (((cu (bB l) key:Nat):Int)+1)).take (0+rW l ((cu (bB l) key:Nat):Int) (((cu (bB l) key:Nat):Int)+1))),jj (bB l) key,()) ?_ (by kernel_rfl);rw[d2 h,hb,Nat.zero_add,ag6 h3];rfl
 ·refine aS (l,jj (bB l) key,()) ?_ (by kernel_rfl);rw[d1 h,hb];rfl
end Lf
namespace Lf
open Go Go.Sx Go.Proofs
theorem ot(key val:ByteArray):∀l:List En,vR key val true l=l
 |[]=>rfl
 |x::r=>by rw[vR,if_neg (by simp),ot key val r]
def bz(l:List En)(key val:ByteArray):List En:=l.take (cu (bB l) key)++(key,val,())::l.drop (if jj (bB l) key=true then cu (bB l) key+1 else cu (bB l) key)
theorem zY{x:En}{r:List En}{key:ByteArray}(h:slt x.1 key=true):cu (bB (x::r)) key=cu (bB r) key+1:=by simp[cu,bB,List.takeWhile,h]
theorem adP{x:En}{r:List En}{key:ByteArray}(h:slt x.1 key=false):cu (bB (x::r)) key=0:=by simp[cu,bB,List.takeWhile,h]
theorem afj{x:En}{r:List En}{key:ByteArray}(h:slt x.1 key=true):jj (bB (x::r)) key=jj (bB r) key:=by
 unfold jj;rw[zY h];rfl
theorem aju{x:En}{r:List En}{key:ByteArray}(h:slt x.1 key=false):jj (bB (x::r)) key=decide (x.1=key):=by
 unfold jj;rw[adP h];simp[bB]
theorem put_eq(key val:ByteArray):∀l:List En,vR key val false l=bz l key val
 |[]=>rfl
 |x::r=>by
  rw[vR];cases hs:slt x.1 key
  ·rw[if_pos ⟨rfl,rfl⟩,bz,adP hs,aju hs,ot];by_cases hk:x.1=key
   ·rw[if_pos hk,decide_eq_true hk];rfl
   ·rw[if_neg hk,decide_eq_false hk];rfl
  ·rw[if_neg (by simp),put_eq key val r,bz,bz,zY hs,afj hs];cases jj (bB r) key<;>rfl
theorem zZ{l:List En}{key val:ByteArray}:(bz l key val).length=l.length+(if jj (bB l) key=true then 0 else 1):=by
 have:=vE (bB l) key;rw[List.length_map]at this;cases ha:jj (bB l) key
 ·simp only[bz,ha,List.length_append,List.length_cons,List.length_take,List.length_drop];simp;omega
 ·have h1:=(jF.1 ha).1;rw[List.length_map]at h1;simp only[bz,ha,List.length_append,List.length_cons,List.length_take,List.length_drop];simp;omega
abbrev ris(l:List En):Prop:=l.Pairwise fun a b=>slt a.1 b.1=true
theorem tJ{l:List En}:im (bB l)↔ris l:=by
 have hk:∀t,(bB l).getD t ByteArray.empty=(l.getD t dE).1:=fun t=>cC l pI dE t;have hn:(bB l).length=l.length:=List.length_map _;rw[ris,List.pairwise_iff_getElem];constructor
 ·intro h i j hi hj kp;have:=h i j kp (by omega);rw[hk,hk,bm hi,bm hj]at this;exact this
 ·intro h i j kp hj;rw[hn]at hj;have:=h i j (by omega) hj kp;rw[hk,hk,bm (by omega),bm hj];exact this
theorem afk:∀{l:List En} (key val:ByteArray),ris l→ris (vR key val false l)∧∀a:En,slt a.1 key=true→(∀x∈l,slt a.1 x.1=true)→∀x∈vR key val false l,slt a.1 x.1=true
 |[],key,val,_=>by
  rw[vR,if_neg (by simp)]
  exact⟨List.pairwise_singleton ..,fun a h _ x hx=>by
   simp only[List.mem_singleton]at hx;subst hx;exact h⟩
 |x::r,key,val,h=>by
  obtain⟨h1,h2⟩:=List.pairwise_cons.1 h;obtain⟨g1,g2⟩:=afk (l:=r) key val h2;rw[vR];split
  ·rename_i hc;split
   ·rename_i hk;rw[ot];refine⟨List.pairwise_cons.2 ⟨fun y hy=>by rw[show(key,val,()).1=x.1 from hk.symm];exact h1 y hy,h2⟩,fun a ha hl y hy=> ?_⟩;rcases List.mem_cons.1 hy with rfl|hy
    ·exact ha
    ·exact hl y (List.mem_cons_of_mem _ hy)
   ·rename_i hk;rw[ot];have a8:slt key x.1=true:=vr hc.2 hk;refine⟨List.pairwise_cons.2 ⟨fun y hy=> ?_,h⟩,fun a ha hl y hy=> ?_⟩
    ·rcases List.mem_cons.1 hy with rfl|hy
     ·exact a8
     ·exact cr a8 (h1 y hy)
    ·rcases List.mem_cons.1 hy with rfl|hy
     ·exact ha
     ·exact hl y hy
  ·rename_i hc;have hx:slt x.1 key=true:=by simpa using hc
   refine⟨List.pairwise_cons.2 ⟨fun y hy=>g2 x hx h1 y hy,g1⟩,fun a ha hl y hy=> ?_⟩;rcases List.mem_cons.1 hy with rfl|hy
   ·exact hl _ (by simp)
   ·exact g2 a ha (fun z hz=>hl z (List.mem_cons_of_mem _ hz)) y hy
theorem al6{l:List En}(key val:ByteArray)(h:im (bB l)):im (bB (bz l key val)):=by
 rw[←put_eq];exact tJ.2 (afk key val (tJ.1 h)).1
theorem al7{l:List En}(key:ByteArray)(h:im (bB l)):im (bB (cD l key)):=tJ.2 (List.Pairwise.filter _ (tJ.1 h))
end Lf
namespace Go.Sx
open Go
section
variable{ρ aB:Nat→Value}{H H':aJ}{G O O':Nat→Prop}{w w':World}{P:Program}{X:Ctx}{L:List ad}{K:List ad→AV→Prop}
theorem aqb(hs:Sat ρ (lk L) G w){id:Nat}{c c2:aI}{e:TypeId}{root:Value}(du:L[id]? =some (.vec c e))(qj:∀b,er root=some b→er (ρ id)=some b)(dV:iv ρ (lk L) (aN ρ (lk L) G) w root (.vec c2 e)):
 ∃aB,Sat aB (lk (L.set id .dead++[.vec c2 e])) G w∧xS ρ L G w aB (L.set id .dead++[.vec c2 e])∧aB L.length=root:=by
 have a8:id<L.length:=(List.getElem?_eq_some_iff.1 du).1;generalize hx:ad.vec c2 e=x;have hxa:x.alive=true:=by rw[←hx];rfl
 have old:∀{k:Nat} {o:ad},(L.set id .dead++[x])[k]? =some o→(k=L.length∧o=x)∨(k=id∧o=.dead)∨(k≠id∧k≠L.length∧L[k]? =some o):=by
  intro k o ho;have h2:=(List.getElem?_eq_some_iff.1 ho).1;simp only[List.length_append,List.length_set,List.length_cons,List.length_nil]at h2;by_cases hk:k=L.length
  ·subst hk;rw[List.getElem?_append_right (by simp)]at ho;simp at ho;exact .inl ⟨rfl,ho.symm⟩
  ·rw[List.getElem?_append_left (by simp;omega),List.getElem?_set]at ho;split at ho
   ·rename_i rh
    first
     |exact .inr (.inl ⟨rh.symm,by simpa using ho.symm⟩)
     |(rw[if_pos a8]at ho;exact .inr (.inl ⟨rh.symm,by simpa using ho.symm⟩))
   ·rename_i rh;exact .inr (.inr ⟨Ne.symm rh,hk,ho⟩)
 have new:∀{k:Nat} {o:ad},L[k]? =some o→k≠id→(L.set id .dead++[x])[k]? =some o:=by
  intro k o ho hk;have h1:=(List.getElem?_eq_some_iff.1 ho).1;rw[List.getElem?_append_left (by simpa using h1),List.getElem?_set_ne (Ne.symm hk)];exact ho
 have aiC:(L.set id .dead++[x])[id]? =some .dead:=by
  rw[List.getElem?_append_left (by simpa using a8),List.getElem?_set_self a8]
 have ar6:(L.set id .dead++[x])[L.length]? =some x:=by
  rw[List.getElem?_append_right (by simp)];simp
 let aB:Nat→Value:=fun j=>if j=L.length then root else ρ j
 have dI:∀b,Own aB (lk (L.set id .dead++[x])) b→Own ρ (lk L) b:=by
  rintro b ⟨k,o,ho,ha,hb⟩;rcases old ho with⟨h1,h2⟩|⟨h1,h2⟩|⟨h1,h2,h3⟩
  ·simp only[aB,h1,if_true]at hb;exact⟨id,_,du,rfl,qj b hb⟩
  ·subst h2;cases ha
  ·simp only[aB,h2,if_false]at hb;exact⟨k,o,h3,ha,hb⟩
 have st:xS ρ L G w aB (L.set id .dead++[x]):=by
  refine⟨fun k o ho=> ?_,fun k o ho=> ?_,fun b hb=>.inl ?_,fun _ _ _=>rfl,Nat.le_refl _⟩
  ·have h1:k<L.length:=(List.getElem?_eq_some_iff.1 ho).1;simp only[aB];rw[if_neg (by omega)]
  ·by_cases hk:k=id
   ·subst hk;exact⟨.dead,aiC,fun c' e' hc=>by cases hc⟩
   ·exact⟨o,new ho hk,fun c' e' hc=>⟨c',e',hc,rfl,rfl⟩⟩
  ·rcases hb with hb|hb
   ·exact .inl (dI b hb)
   ·exact .inr hb
 refine⟨aB,⟨fun k o ho=> ?_,fun i j oi oj b hi hj ai aj bi bj=> ?_,fun b hb=>hs.apart b (dI b hb),hs.low⟩,st, ?_⟩
 ·rcases old ho with⟨h1,h2⟩|⟨h1,h2⟩|⟨h1,h2,h3⟩
  ·rw[h2];simp only[aB,h1,if_true];rw[hx]at dV;exact dV.step st (fun _ _ _=>rfl)
  ·subst h2;trivial
  ·simp only[aB,h2,if_false];exact(hs.obj k o h3).step st (fun _ _ _=>rfl)
 ·have cls:∀{k:Nat} {o:ad},(L.set id .dead++[x])[k]? =some o→o.alive=true→er (aB k)=some b→(k=L.length∧er (ρ id)=some b)∨(k≠id∧k≠L.length∧L[k]? =some o∧er (ρ k)=some b):=by
   intro k o ho ha hb;rcases old ho with⟨h1,h2⟩|⟨h1,h2⟩|⟨h1,h2,h3⟩
   ·simp only[aB,h1,if_true]at hb;exact .inl ⟨h1,qj b hb⟩
   ·subst h2;cases ha
   ·simp only[aB,h2,if_false]at hb;exact .inr ⟨h1,h2,h3,hb⟩
  rcases cls hi ai bi with⟨h1,h2⟩|⟨h1,h2,h3,h4⟩<;>rcases cls hj aj bj with⟨k1,k2⟩|⟨k1,k2,k3,k4⟩
  ·rw[h1,k1]
  ·exact absurd (hs.inj j id oj _ b k3 du aj rfl k4 h2) k1
  ·exact absurd (hs.inj i id oi _ b h3 du ai rfl h4 k2) h1
  ·exact hs.inj i j oi oj b h3 k3 ai aj h4 k4
 ·simp only[aB,if_true]
def qL(c:aI)(m:Nat):aI:=.ei c.size (c.n+m) fun i j=>bif i.blt c.n then c.cell i j else .aQ
theorem abP{tmps:List AV}{t:Nat}{y x:AV}(ht:tmps.getD t (.s .aQ)=y)(hy:y≠.s .aQ)(u:Nat):(tmps.set t x).getD u (.s .aQ)=if u=t then x else tmps.getD u (.s .aQ):=by
 have a8:t<tmps.length:=by
  rcases Nat.lt_or_ge t tmps.length with h|h
  ·exact h
  ·rw[List.getD,List.getElem?_eq_none h]at ht;exact absurd ht.symm hy
 by_cases hu:u=t
 ·subst hu;rw[if_pos rfl];simp[List.getD,a8]
 ·rw[if_neg hu];simp[List.getD,List.getElem?_set_ne (Ne.symm hu)]
theorem ajv{a:Option Addr}{cap m:Nat}{c:aI}{e:TypeId}(hm:0<m)(asM:c.n+m≤cap)(h:iv ρ H O w (.slice a c.n cap) (.vec c e)):iv ρ H O w (.slice a (c.n+m) cap) (.vec (qL c m) e):=by
 obtain⟨a2,qg,h1,h2,h3,h4⟩:=h;cases h1;rcases h4 with h4|⟨b,o,cells,fr,us,rfl,g1,g2,g3,g4⟩
 ·omega
 ·refine⟨some ⟨b,o,none⟩,cap,rfl,asM,h3,.inr ⟨b,o,cells,fr,fun i j=>if i<c.n then us i j else cells.getD (o+i*c.size+j) undef,rfl,g1,g2,g3,fun i j hi hj=> ?_⟩⟩;have hi:i<c.n+m:=hi;have hj:j<c.size:=hj;show cells[o+i*c.size+j]? =_∧aR O w (bif i.blt c.n then c.cell i j else .aQ) _;by_cases dd:i<c.n
  ·dsimp only;rw[if_pos dd,show i.blt c.n=true from by simpa[Nat.blt,Nat.lt_iff_add_one_le]using dd];exact g4 i j dd hj
  ·dsimp only
   rw[if_neg dd,show i.blt c.n=false from by
    cases hb:i.blt c.n
    ·rfl
    ·exact absurd (show i<c.n from by simpa[Nat.blt,Nat.lt_iff_add_one_le]using hb) dd]
   have a8:o+i*c.size+j<cells.length:=by
    have:(i+1)*c.size≤cap*c.size:=Nat.mul_le_mul_right _ (by omega);rw[Nat.succ_mul]at this;omega
   have e:cells[o+i*c.size+j]? =some (cells.getD (o+i*c.size+j) undef):=by simp[List.getD,a8]
   exact⟨e,.aQ _ (g2.2 _ (List.mem_of_getElem? e))⟩
theorem ag7{f:FuncId}{tmps:List AV}{todo:List Item}{t id m:Nat}{c:aI}{e:TypeId}(ht:tmps.getD t (.s .aQ)=.vec id)(du:L[id]? =some (.vec c e))(hm:0<m)
 {stk:nh} (hA:Safe P f X K ⟨tmps.set t (.part L.length 0 c.n),L.set id .dead++[.vec (qL c m) e],todo,stk⟩)
 (hB:Safe P f X K ⟨tmps.set t (.s (.yK c (c.n+m))),L.set id .dead,todo,stk⟩):Safe P f X K ⟨tmps,L,todo,stk⟩:=by
 intro G E ρ a w ik iM hr bf tf fsf hwf;have hs:Sat ρ (lk L) G w:=hr.sat;have hd:=hr.den t;rw[show(St.tmps ⟨tmps,L⟩).getD t (.s .aQ)=.vec id from ht]at hd;obtain⟨a0,cap,hv,dP,hle,ac6⟩:=jy hs du hd;have dV:=hs.obj id _ du;rw[dP,hv]at dV;have a8:id<L.length:=(List.getElem?_eq_some_iff.1 du).1;by_cases hc:c.n+m≤cap
 ·obtain⟨aB,s',st,hρ⟩:=aqb hs du (root:=.slice a0 (c.n+m) cap) (c2:=qL c m) (fun b hb=>by
   rw[dP,hv];cases a0 with
   |none=>simp[er]at hb
   |some y=>simpa[er]using hb) (ajv hm hc dV)
  refine hA G E aB a w ik iM ⟨s',by rw[List.length_set];exact hr.size,fun u=> ?_,hr.defers,hr.from_.trans st,hr.jc,hr.kept⟩ bf tf fsf hwf;show ab aB _ _ w ((tmps.set t (.part L.length 0 c.n)).getD u (.s .aQ)) _;rw[abP ht (by simp)];by_cases hu:u=t
  ·subst hu;rw[if_pos rfl,hv];unfold ab az;refine⟨rfl,.vec (qL c m) e,by show(L.set id .dead++[_])[L.length]? =_;rw[List.getElem?_append_right (by simp)];simp,fun c' e' he=> ?_⟩;cases he;refine⟨by show 0+c.n≤c.n+m;omega,a0,cap,a0,hρ,hc,by simp,fun _=> ?_⟩;rw[Nat.zero_mul];cases a0 with
   |none=>rfl
   |some y=>simp[Addr.add]
  ·rw[if_neg hu];exact(hr.den u).step st
 ·have eL:lk (L.set id .dead)=aD (lk L) id .dead:=by
   funext k;show(L.set id .dead)[k]? =_;rw[List.getElem?_set];by_cases hk:id=k
   ·subst hk;simp[aD,a8]
   ·rw[if_neg hk];simp[aD,Ne.symm hk]
  have st:xS ρ L G w ρ (L.set id .dead):=by
   show Step ρ (lk L) _ w ρ (lk (L.set id .dead)) (aN ρ (lk (L.set id .dead)) G) w;rw[eL];exact fD (H:=lk L) du
  have hs':Sat ρ (lk (L.set id .dead)) G w:=by rw[eL];exact Sat.kill hs du
  refine hB G E ρ a w ik iM ⟨hs',by rw[List.length_set];exact hr.size,fun u=> ?_,hr.defers,hr.from_.trans st,hr.jc,hr.kept⟩ bf tf fsf hwf;show ab ρ _ _ w ((tmps.set t (.s (.yK c (c.n+m)))).getD u (.s .aQ)) _;rw[abP ht (by simp)];by_cases hu:u=t
  ·subst hu;rw[if_pos rfl,hv];refine aw (.yK _ _ _ _ _ ?_ (by omega));obtain⟨a2,qg,h1,h2,h3,h4⟩:=dV;cases h1;rcases h4 with rfl|⟨b,o,cells,fr,us,rfl,g1,g2,g3,g4⟩
   ·exact .ro c a0 0 (fun _ _=>undef) 0 0 hle ac6 (fun h=>by omega) (fun i j hi _=>by omega) (fun i j hi _=>by omega)
   ·refine .ro c _ cap us b o hle ac6 (fun h0=>⟨rfl, ?_, ?_⟩) (fun i j hi hj=> ?_) (fun i j hi hj=>((g4 i j hi hj).2).step st.fP st.heap st.size)
    ·have hb:er (ρ id)=some b:=by
      rw[dP,hv];simp only[er];rw[if_neg (by omega)]
     rintro(⟨k,ok,hk,ha,hb2⟩|hG)
     ·have hk:(L.set id .dead)[k]? =some ok:=hk;rw[List.getElem?_set]at hk;split at hk
      ·rename_i e1
       first
        |(simp only[Option.some.injEq]at hk;subst hk;cases ha)
        |(rw[if_pos a8]at hk;simp only[Option.some.injEq]at hk;subst hk;cases ha)
      ·rename_i e1;exact e1 (hs.inj id k _ ok b du hk rfl ha hb hb2)
     ·exact hs.apart b ⟨id,_,du,rfl,hb⟩ hG
    ·exact(Array.getElem?_eq_some_iff.1 g1).1
    ·have:=(g4 i j hi hj).1;simp only[World.cell?,g1];simp[this]
  ·rw[if_neg hu];exact(hr.den u).step st
theorem ajw{f:FuncId}{tmps:List AV}{todo:List Item}{stk:nh}{id:Nat}{c c':aI}{e:TypeId}(du:L[id]? =some (.vec c e))(hn:c'.n=c.n)(bK:c'.size=c.size)(hc:∀i j,i<c.n→j<c.size→c'.cell i j=c.cell i j)
 (h:Safe P f X K ⟨tmps,L.set id (.vec c' e),todo,stk⟩):Safe P f X K ⟨tmps,L,todo,stk⟩:=by
 intro G E ρ a w ik iM hr b t fs hw;have hs:Sat ρ (lk L) G w:=hr.sat;have a8:id<L.length:=(List.getElem?_eq_some_iff.1 du).1
 have eL:lk (L.set id (.vec c' e))=aD (lk L) id (.vec c' e):=by
  funext k;show(L.set id (.vec c' e))[k]? =_;rw[List.getElem?_set];by_cases hk:id=k
  ·subst hk;simp[aD,a8]
  ·rw[if_neg hk];simp[aD,Ne.symm hk]
 have dV:iv ρ (aD (lk L) id (.vec c' e)) (aN ρ (lk L) G) w (ρ id) (.vec c' e):=by
  obtain⟨a2,qg,h1,h2,h3,h4⟩:=hs.obj id _ du;refine⟨a2,qg,by rw[hn];exact h1,by omega,h3, ?_⟩;rcases h4 with h4|⟨b,o,cells,fr,us,rfl,g1,g2,g3,g4⟩
  ·exact .inl h4
  ·refine .inr ⟨b,o,cells,fr,us,rfl,g1,g2,by rw[bK];exact g3,fun i j hi hj=> ?_⟩;rw[hn]at hi;rw[bK]at hj;rw[bK,hc i j hi hj];exact g4 i j hi hj
 obtain⟨aB,s',_,st,_⟩:=Good.upd (H:=lk L) (o':=.vec c' e) (r:=.s .aQ) (v:=undef) hs du rfl (fun c2 e2 he=>by cases he;exact⟨c,e,rfl,hn,bK⟩) dV (by unfold ab;trivial);rw[←eL]at s' st;exact h G E aB a w ik iM ⟨s',hr.size,fun u=>(hr.den u).step st,hr.defers,hr.from_.trans st,hr.jc,hr.kept⟩ b t fs hw
theorem ag8{f:FuncId}{tmps:List AV}{todo:List Item}{stk:nh}{t id n:Nat}{c:aI}{e:TypeId}(ht:tmps.getD t (.s .aQ)=.part id 0 n)(du:L[id]? =some (.vec c e))(hn:n=c.n)(h0:0<n)
 (h:Safe P f X K ⟨tmps.set t (.vec id),L,todo,stk⟩):Safe P f X K ⟨tmps,L,todo,stk⟩:=by
 intro G E ρ a w ik iM hr b tf fs hw;have hd:=hr.den t;rw[show(St.tmps ⟨tmps,L⟩).getD t (.s .aQ)=.part id 0 n from ht]at hd;refine h G E ρ a w ik iM (hr.zq ht ?_) b tf fs hw;have hd0:=hd;unfold ab az at hd;obtain⟨h1,o,ho,hv⟩:=hd
 have:o=.vec c e:=by
  have:(St.look ⟨tmps,L⟩) id=some (.vec c e):=du;rw[this]at ho;cases ho;rfl
 subst this;obtain⟨hle,a1,cap,a2,k1,k2,k3,k4⟩:=hv c e rfl;have wR:cap≠0:=by omega
 unfold ab az;refine⟨h1,.vec c e,ho,fun c' e' he=> ?_⟩;cases he;rw[k3,k1,k4 wR,Nat.sub_zero,hn,Nat.zero_mul];cases a1 with
 |none=>rfl
 |some y=>simp[Addr.add]
end
end Go.Sx
namespace Lf
open Go Go.Sx Go.Proofs
def lL{α:Type}(l:List α)(k:Nat)(x:α):List α:=l.take k++x::l.drop k
def afl:Spec (List En×En×Nat):=⟨fun x=>[.vec 0,.s (.int .i64 (x.2.2:Int)),.vec 1],fun x=>[.vec (.ae cE x.1) eE,.vec (.ae cE [x.2.1]) eE],fun x=>[x.2.2≤x.1.length,x.1.length≤100000],fun x=>[.dead,.vec (.ae cE [x.2.1]) eE,.vec (.ae cE (lL x.1 x.2.2 x.2.1)) eE],fun x=>.vec 2⟩
def aoj:List (Nat×Norm):=[(8,⟨[],[0,1,2,7,8],2,[]⟩)]
noncomputable def cIA(l:List (CL cE))(x:CL cE)(k:Nat):bA:=⟨sl 95 [(0,.part 2 0 l.length),(1,.s (.int .i64 (k:Int))),(2,.vec 1),(7,.s (.int .i64 ((1:Nat):Int))),(8,.s (.int .i64 (l.length:Int)))],[.dead,.vec (.ae cE [x]) eE,.vec (qL (.ae cE l) 1) eE],hr Tryd.f69 8,{}⟩
noncomputable def cIB(l:List (CL cE))(x:CL cE)(k:Nat):bA:=⟨sl 95 [(0,.s (.yK (.ae cE l) (l.length+1))),(1,.s (.int .i64 (k:Int))),(2,.vec 1),(7,.s (.int .i64 ((1:Nat):Int))),(8,.s (.int .i64 (l.length:Int)))],[.dead,.vec (.ae cE [x]) eE],hr Tryd.f69 8,{}⟩
def asN:List (Nat×Norm):=[(17,⟨[],[0],3,[]⟩)]
theorem al8(l:List (CL cE))(x:CL cE)(k:Nat):run P (aE.sum []) Tryd.f69 aoj (start Tryd.f69 [.vec 0,.s (.int .i64 (k:Int)),.vec 1] [.vec (.ae cE l) eE,.vec (.ae cE [x]) eE])=
 Tree.need ((0:Int)≤(↑k:Int)) (.need ((↑k:Int)≤(↑l.length:Int)) (.need ((↑(0:Nat):Int)+(↑l.length:Int)≤(↑l.length:Int)) (.ite false (.ret [.vec (.ae [.str,.str] l) 34,.vec (.ae [.str,.str] [x]) 34] (.vec 0)) (.ite ((↑k:Int)==(↑l.length:Int)) (.need ((l.length+1)*(32:Nat)≤140737488355328) (.ret [.dead,.vec (.ae [.str,.str] [x]) 34,.vec (.ae [.str,.str] (l++[x])) 34] (.vec 2))) (.at (.mk (sl 95 [(0,.vec 0),(1,.s (.int .i64 (↑k:Int))),(2,.vec 1),(7,.s (.int .i64 (↑(1:Nat):Int))),(8,.s (.int .i64 (↑l.length:Int)))]) [.vec (.ae [.str,.str] l) 34,.vec (.ae [.str,.str] [x]) 34] (hr Tryd.f69 8) (.mk none false 0 [] 0))))))):=by kernel_rfl
theorem aqc(l:List (CL cE))(x:CL cE)(k:Nat):run P (aE.sum []) Tryd.f69 asN (cIA l x k)=
 Tree.need (aF ((↑l.length:Int)+(1:Int)))
 (Tree.need ((↑l.length:Int)+(1:Int)≤(↑(l.length+(1:Nat) - (0:Nat)):Int))
   (Tree.need (aF ((↑l.length:Int)+(1:Int)))
     (Tree.need ((0:Int)≤(0:Int))
       (Tree.need ((0:Int)≤(↑l.length:Int)+(1:Int))
         (Tree.need ((↑(0:Nat):Int)+((↑l.length:Int)+(1:Int))≤(↑(l.length+(1:Nat)):Int))
           (Tree.need (aF ((↑k:Int)+(1:Int)))
             (Tree.need ((0:Int)≤(↑k:Int)+(1:Int))
               (Tree.need ((↑k:Int)+(1:Int)≤(↑(((↑l.length:Int)+(1:Int)).toNat - Int.toNat (0:Int)):Int))
                 (Tree.need ((↑(0:Nat):Int)+(↑(((↑l.length:Int)+(1:Int)).toNat - Int.toNat (0:Int)):Int)≤(↑(l.length+(1:Nat)):Int)) (Tree.need (apc P (86:Nat)) (Tree.need (aF ((↑k:Int)+(1:Int))) (Tree.need ((0:Int)≤(↑k:Int)+(1:Int)) (Tree.need ((↑k:Int)+(1:Int)≤(↑(((↑l.length:Int)+(1:Int)).toNat - Int.toNat (0:Int)):Int)) (Tree.need ((↑(0:Nat):Int)+(↑(((↑l.length:Int)+(1:Int)).toNat - Int.toNat (0:Int)):Int)≤(↑(l.length+(1:Nat)):Int)) (Tree.need ((0:Int)≤(↑k:Int)) (Tree.need ((↑k:Int)≤(↑(((↑l.length:Int)+(1:Int)).toNat - Int.toNat (0:Int)):Int)) (Tree.need ((↑(0:Nat):Int)+(↑(((↑l.length:Int)+(1:Int)).toNat - Int.toNat (0:Int)):Int)≤(↑(l.length+(1:Nat)):Int)) (Tree.need ((0:Int)≤(↑k:Int)) (Tree.need ((↑k:Int)≤(↑(((↑l.length:Int)+(1:Int)).toNat - Int.toNat (0:Int)):Int)) (Tree.need ((↑(0:Nat):Int)+(↑(((↑l.length:Int)+(1:Int)).toNat - Int.toNat (0:Int)):Int)≤(↑(l.length+(1:Nat)):Int)) (Tree.at (bA.mk (sl (95:Nat) [((0:Nat),AV.part (2:Nat) (0:Nat) (((↑l.length:Int)+(1:Int)).toNat - Int.toNat (0:Int)))]) [ad.dead,ad.vec (aI.ae [CK.str,CK.str] [x]) (34:Nat),ad.vec (aI.ei (aI.ei (aI.ei (aI.ae cE l).size (l.length+(1:Nat)) fun(i j:Nat)=>bif i.blt l.length then(aI.ae cE l).cell i j else SV.aQ).size (l.length+(1:Nat)) fun(i j:Nat)=>bif ((0:Nat)+((↑k:Int)+(1:Int)).toNat).ble i&&i.blt ((0:Nat)+((↑k:Int)+(1:Int)).toNat+min ((0:Nat)+(↑k:Int).toNat+((↑(((↑l.length:Int)+(1:Int)).toNat - Int.toNat (0:Int)):Int).toNat - (↑k:Int).toNat) - ((0:Nat)+(↑k:Int).toNat)) ((↑(((↑l.length:Int)+(1:Int)).toNat - Int.toNat (0:Int)):Int).toNat - ((↑k:Int)+(1:Int)).toNat))then(dv (aI.ei (aI.ae cE l).size (l.length+(1:Nat)) fun(i j:Nat)=>bif i.blt l.length then(aI.ae cE l).cell i j else SV.aQ) ((0:Nat)+(↑k:Int).toNat) ((0:Nat)+(↑k:Int).toNat+((↑(((↑l.length:Int)+(1:Int)).toNat - Int.toNat (0:Int)):Int).toNat - (↑k:Int).toNat))).cell (i - ((0:Nat)+((↑k:Int)+(1:Int)).toNat)) j else(aI.ei (aI.ae cE l).size (l.length+(1:Nat)) fun(i j:Nat)=>bif i.blt l.length then(aI.ae cE l).cell i j else SV.aQ).cell i j).size (l.length+(1:Nat)) fun(i j:Nat)=>bif ((0:Nat)+(↑k:Int).toNat).ble i&&i.blt ((0:Nat)+(↑k:Int).toNat+min (1:Nat) ((↑(((↑l.length:Int)+(1:Int)).toNat - Int.toNat (0:Int)):Int).toNat - (↑k:Int).toNat))then(aI.ae [CK.str,CK.str] [x]).cell (i - ((0:Nat)+(↑k:Int).toNat)) j else(aI.ei (aI.ei (aI.ae cE l).size (l.length+(1:Nat)) fun(i j:Nat)=>bif i.blt l.length then(aI.ae cE l).cell i j else SV.aQ).size (l.length+(1:Nat)) fun(i j:Nat)=>bif ((0:Nat)+((↑k:Int)+(1:Int)).toNat).ble i&&i.blt ((0:Nat)+((↑k:Int)+(1:Int)).toNat+min ((0:Nat)+(↑k:Int).toNat+((↑(((↑l.length:Int)+(1:Int)).toNat - Int.toNat (0:Int)):Int).toNat - (↑k:Int).toNat) - ((0:Nat)+(↑k:Int).toNat)) ((↑(((↑l.length:Int)+(1:Int)).toNat - Int.toNat (0:Int)):Int).toNat - ((↑k:Int)+(1:Int)).toNat))then(dv (aI.ei (aI.ae cE l).size (l.length+(1:Nat)) fun(i j:Nat)=>bif i.blt l.length then(aI.ae cE l).cell i j else SV.aQ) ((0:Nat)+(↑k:Int).toNat) ((0:Nat)+(↑k:Int).toNat+((↑(((↑l.length:Int)+(1:Int)).toNat - Int.toNat (0:Int)):Int).toNat - (↑k:Int).toNat))).cell (i - ((0:Nat)+((↑k:Int)+(1:Int)).toNat)) j else(aI.ei (aI.ae cE l).size (l.length+(1:Nat)) fun(i j:Nat)=>bif i.blt l.length then(aI.ae cE l).cell i j else SV.aQ).cell i j).cell i j) (34:Nat)] (hr Tryd.f69 (17:Nat)) (nh.mk none false (0:Nat) [] (0:Nat)))))))))))))))))))))))):=by kernel_rfl
noncomputable def cIC(l:List (CL cE))(x:CL cE):bA:=⟨sl 95 [(0,.vec 2)],[.dead,.vec (.ae cE [x]) eE,.vec (.ae cE l) eE],hr Tryd.f69 17,{}⟩
theorem aqd(l:List (CL cE))(x:CL cE):run P (aE.sum []) Tryd.f69 [] (cIC l x)=
 Tree.ret [.dead,.vec (.ae [.str,.str] [x]) 34,.vec (.ae [.str,.str] l) 34] (.vec 2):=by kernel_rfl
theorem aqe(l:List (CL cE))(x:CL cE)(k:Nat):run P (aE.sum []) Tryd.f69 [] (cIB l x k)=
 Tree.need (aF ((↑l.length:Int)+1))
 (.need ((↑(l.length+1):Int)≤(↑l.length:Int)+1) (.need ((0:Int)≤(↑k:Int)) (.need ((↑k:Int)≤(↑l.length:Int)) (.need (aF ((↑l.length:Int)+1)) (.need (aF ((↑l.length:Int)+1 - (↑k:Int))) (.need ((0:Int)<(↑l.length:Int)+1 - (↑k:Int)) (.need ((↑(l.length+1):Int)≤(↑(List.drop 0 (List.take (↑k:Int).toNat l)).length:Int)+((↑l.length:Int)+1 - (↑k:Int))) (.need ((↑(List.drop 0 (List.take (↑k:Int).toNat l)).length:Int)+((↑l.length:Int)+1 - (↑k:Int))≤4294967296) (.need ((0:Int)≤(↑k:Int)) (.need ((↑k:Int)≤(↑(List.drop 0 (List.take (↑k:Int).toNat l)++List.replicate ((↑l.length:Int)+1 - (↑k:Int)).toNat (CL.d [.str,.str])).length:Int)) (.need ((↑(0:Nat):Int)+(↑(List.drop 0 (List.take (↑k:Int).toNat l)++List.replicate ((↑l.length:Int)+1 - (↑k:Int)).toNat (CL.d [.str,.str])).length:Int)≤(↑(List.drop 0 (List.take (↑k:Int).toNat l)++List.replicate ((↑l.length:Int)+1 - (↑k:Int)).toNat (CL.d [.str,.str])).length:Int)) (.need (aF ((↑k:Int)+1)) (.need ((0:Int)≤(↑k:Int)+1) (.need ((↑k:Int)+1≤(↑(over (List.drop 0 (List.take (↑k:Int).toNat l)++List.replicate ((↑l.length:Int)+1 - (↑k:Int)).toNat (CL.d [.str,.str])) ((0:Nat)+(↑k:Int).toNat) (min 1 ((↑(List.drop 0 (List.take (↑k:Int).toNat l)++List.replicate ((↑l.length:Int)+1 - (↑k:Int)).toNat (CL.d [.str,.str])).length:Int).toNat - (↑k:Int).toNat)) [x]).length:Int)) (.need ((↑(0:Nat):Int)+(↑(over (List.drop 0 (List.take (↑k:Int).toNat l)++List.replicate ((↑l.length:Int)+1 - (↑k:Int)).toNat (CL.d [.str,.str])) ((0:Nat)+(↑k:Int).toNat) (min 1 ((↑(List.drop 0 (List.take (↑k:Int).toNat l)++List.replicate ((↑l.length:Int)+1 - (↑k:Int)).toNat (CL.d [.str,.str])).length:Int).toNat - (↑k:Int).toNat)) [x]).length:Int)≤(↑(over (List.drop 0 (List.take (↑k:Int).toNat l)++List.replicate ((↑l.length:Int)+1 - (↑k:Int)).toNat (CL.d [.str,.str])) ((0:Nat)+(↑k:Int).toNat) (min 1 ((↑(List.drop 0 (List.take (↑k:Int).toNat l)++List.replicate ((↑l.length:Int)+1 - (↑k:Int)).toNat (CL.d [.str,.str])).length:Int).toNat - (↑k:Int).toNat)) [x]).length:Int)) (.need ((0:Int)≤(↑k:Int)) (.need ((↑k:Int)≤(↑l.length:Int)) (.need ((↑l.length:Int)≤(↑l.length:Int)) (.ret [.dead,.vec (.ae [.str,.str] [x]) 34,.vec (.ae [.str,.str] (over (over (List.drop 0 (List.take (↑k:Int).toNat l)++List.replicate ((↑l.length:Int)+1 - (↑k:Int)).toNat (CL.d [.str,.str])) ((0:Nat)+(↑k:Int).toNat) (min 1 ((↑(List.drop 0 (List.take (↑k:Int).toNat l)++List.replicate ((↑l.length:Int)+1 - (↑k:Int)).toNat (CL.d [.str,.str])).length:Int).toNat - (↑k:Int).toNat)) [x]) ((0:Nat)+((↑k:Int)+1).toNat) (min (List.drop (↑k:Int).toNat (List.take (↑l.length:Int).toNat l)).length ((↑(over (List.drop 0 (List.take (↑k:Int).toNat l)++List.replicate ((↑l.length:Int)+1 - (↑k:Int)).toNat (CL.d [.str,.str])) ((0:Nat)+(↑k:Int).toNat) (min 1 ((↑(List.drop 0 (List.take (↑k:Int).toNat l)++List.replicate ((↑l.length:Int)+1 - (↑k:Int)).toNat (CL.d [.str,.str])).length:Int).toNat - (↑k:Int).toNat)) [x]).length:Int).toNat - ((↑k:Int)+1).toNat)) (List.drop (↑k:Int).toNat (List.take (↑l.length:Int).toNat l)))) 34] (.vec 2)))))))))))))))))))):=by kernel_rfl
theorem ag9{α:Type}{xs ys:List α}{lo k:Nat}(hk:k=ys.length)(h:lo+ys.length=xs.length):over xs lo k ys=xs.take lo++ys:=by
 subst hk;rw[over,List.take_of_length_le (Nat.le_refl _),List.drop_of_length_le (by omega),List.append_nil]
theorem s7{α:Type}{l:List α}{k:Nat}{x:α}(h:k≤l.length):(lL l k x).length=l.length+1:=by
 simp only[lL,List.length_append,List.length_take,List.length_cons,List.length_drop];omega
theorem ajx{α:Type}(l:List α)(x:α):lL l l.length x=l++[x]:=by simp[lL]
theorem aha{α:Type}{l:List α}{k:Nat}{x d:α}(h:k≤l.length)(i:Nat):(lL l k x).getD i d=if i<k then l.getD i d else if i=k then x else l.getD (i - 1) d:=by
 simp only[lL,List.getD];split
 ·rw[List.getElem?_append_left (by simp;omega),List.getElem?_take,if_pos (by assumption)]
 ·rw[List.getElem?_append_right (by simp;omega)];rw[List.length_take,Nat.min_eq_left h];split
  ·rename_i h2;subst h2;simp
  ·rw[show i - k=(i - 1 - k)+1 from by omega,List.getElem?_cons_succ,List.getElem?_drop];congr 2;omega
theorem asO:apc P 86:=⟨Tryd.f86,Tryd.f86.params.getD 0 0,eE,Tryd.f86.resultTypes.getD 0 0,2,Tryd.func86,by kernel_rfl,by kernel_rfl,by kernel_rfl,by kernel_rfl,by kernel_rfl,by kernel_rfl⟩
theorem ajy{α:Type}{l:List α}{k:Nat}{x d:α}(hk:k<l.length):
 over (over (List.drop 0 (List.take (k:Int).toNat l)++List.replicate ((l.length:Int)+(1:Int) - (k:Int)).toNat d) (0+(k:Int).toNat) (min 1 (((List.drop 0 (List.take (k:Int).toNat l)++List.replicate ((l.length:Int)+(1:Int) - (k:Int)).toNat d).length:Int).toNat - (k:Int).toNat)) [x]) (0+((k:Int)+(1:Int)).toNat) (l.length - k) (List.drop (k:Int).toNat (List.take (l.length:Int).toNat l))=lL l k x:=by
 have e1:(k:Int).toNat=k:=by omega
 have e2:((l.length:Int)+(1:Int) - (k:Int)).toNat=l.length+1 - k:=by omega
 have e3:((k:Int)+(1:Int)).toNat=k+1:=by omega
 have e4:(l.length:Int).toNat=l.length:=by omega
 rw[e1,e2,e3,e4,List.drop_zero,Nat.zero_add,Nat.zero_add,List.take_of_length_le (Nat.le_refl l.length)]
 have hA:(List.take k l++List.replicate (l.length+1 - k) d).length=l.length+1:=by
  simp only[List.length_append,List.length_take,List.length_replicate];omega
 rw[hA,show min 1 (((l.length+1:Nat):Int).toNat - k)=1 from by omega]
 have hov:(over (List.take k l++List.replicate (l.length+1 - k) d) k 1 [x]).length=l.length+1:=by
  rw[fo _ _ (by rw[hA];omega) (by simp),hA]
 rw[ag9 (by rw[List.length_drop]) (by rw[hov,List.length_drop];omega)];rw[over,List.take_left' (by simp only[List.length_append,List.length_take,List.length_replicate,List.length_cons,List.length_nil];omega)];rw[List.take_left' (by rw[List.length_take];omega)];simp[lL]
theorem z6{a b:Nat}:a.blt b=decide (a<b):=by
 by_cases h:a<b
 ·rw[decide_eq_true h];simpa[Nat.blt,Nat.lt_iff_add_one_le]using h
 ·rw[decide_eq_false h];cases hb:a.blt b with
  |false=>rfl
  |true=>exact absurd (by simpa[Nat.blt,Nat.lt_iff_add_one_le]using hb) h
theorem z7{a b:Nat}:a.ble b=decide (a≤b):=by
 by_cases h:a≤b
 ·rw[decide_eq_true h];exact Nat.ble_eq_true_of_le h
 ·rw[decide_eq_false h];cases hb:a.ble b with
  |false=>rfl
  |true=>exact absurd (Nat.le_of_ble_eq_true hb) h
theorem aqf{Z:aX}:ib P Z 69 afl:=by
 refine aC Tryd.func69 (by kernel_rfl) (fun x=>Nat.le_of_ble_eq_true (by kernel_rfl)) ?_;rintro⟨(l:List (CL cE)),(x:CL cE),(k:Nat)⟩ ⟨(hk:k≤l.length),(hl:l.length≤100000),_⟩ X hX hz;refine ew hz hX (by intro y hy;simp[aoj]at hy;subst hy;exact Nat.le_refl _) aE.Ok.nil Tryd.func69 (al8 l x k) ⟨by omega,by omega,by omega,(fun h=>nomatch h),fun _=>⟨fun h=>⟨by omega,⟨⟨[],[0],2,[]⟩,Nat.le_refl _, ?_⟩⟩,fun h=> ?_⟩⟩
 ·have hkl:k=l.length:=by have:=eq_of_beq h;omega
  subst hkl;show Norm.run _ _=some ⟨[.vec 2],[.dead,.vec (.ae cE [x]) eE,.vec (.ae cE (lL l l.length x)) eE],[],{}⟩;rw[ajx];kernel_rfl
 have hkl:k<l.length:=by
  rcases Nat.lt_or_ge k l.length with h1|h1
  ·exact h1
  ·have:k=l.length:=by omega
   subst this;simp at h
 refine ag7 (t:=0) (id:=0) (m:=1) (c:=.ae cE l) (e:=eE) rfl rfl (by omega) ?_ ?_
 ·
  refine(show Safe P 69 X _ (cIA l x k)from ?_);have e1:((l.length:Int)+(1:Int)).toNat - Int.toNat 0=l.length+1:=by omega
  have tr:=aqc l x k;rw[e1]at tr;refine ew hz hX (by intro y hy;simp[asN]at hy;subst hy;show 2≤3;omega) aE.Ok.nil Tryd.func69 tr ⟨⟨by omega,by omega⟩,by omega,⟨by omega,by omega⟩,by omega,by omega,by omega,⟨by omega,by omega⟩,by omega,by omega,by omega,asO,⟨by omega,by omega⟩,by omega,by omega,by omega,by omega,by omega,by omega,by omega,by omega,by omega, ?_⟩;refine ajw (id:=2) (c':=.ae cE (lL l k x)) rfl ?_ rfl ?_ ?_
  ·exact s7 (by omega)
  ·intro i j hi hj;have hi:i<l.length+1:=hi;show CL.cell cE ((lL l k x).getD i (CL.d cE)) j=_;rw[aha (by omega)];by_cases h1:i<k
   ·have p1:¬(0+(k:Int).toNat≤i):=by omega
    have p2:¬(0+((k:Int)+(1:Int)).toNat≤i):=by omega
    have p3:i<l.length:=by omega
    simp only[aI.cell,z6,z7,p1,p2,p3,h1,decide_false,decide_true,Bool.false_and,cond_false,cond_true,if_true]
   ·by_cases h2:i=k
    ·subst h2;have p1:0+(i:Int).toNat≤i:=by omega
     have p2:i<0+(i:Int).toNat+min 1 (((l.length+1:Nat):Int).toNat - (i:Int).toNat):=by omega
     have p3:i - (0+(i:Int).toNat)=0:=by omega
     simp only[aI.cell,z6,z7,p1,p2,p3,h1,decide_true,Bool.true_and,cond_true,if_true,if_false,List.getD_cons_zero]
    ·have p1:¬(i<0+(k:Int).toNat+min 1 (((l.length+1:Nat):Int).toNat - (k:Int).toNat)):=by omega
     have p2:0+((k:Int)+(1:Int)).toNat≤i:=by omega
     have p3:i<0+((k:Int)+(1:Int)).toNat+min (0+(k:Int).toNat+(((l.length+1:Nat):Int).toNat - (k:Int).toNat) - (0+(k:Int).toNat)) (((l.length+1:Nat):Int).toNat - ((k:Int)+(1:Int)).toNat):=by omega
     have p4:0+(k:Int).toNat+(i - (0+((k:Int)+(1:Int)).toNat))=i - 1:=by omega
     have p5:i - 1<l.length:=by omega
     simp only[aI.cell,dv,z6,z7,p1,p2,p3,p4,p5,h1,h2,decide_true,decide_false,Bool.and_false,Bool.and_true,cond_true,cond_false,if_false]
  ·refine ag8 (t:=0) (id:=2) (c:=.ae cE (lL l k x)) (e:=eE) rfl rfl (s7 (by omega)).symm (by omega) ?_;refine ew hz hX (by intro y hy;simp at hy) aE.Ok.nil Tryd.func69 (aqd (lL l k x) x) ⟨⟨[],[0],2,[]⟩,Nat.le_refl _, ?_⟩;show Norm.run _ _=some ⟨[.vec 2],[.dead,.vec (.ae cE [x]) eE,.vec (.ae cE (lL l k x)) eE],[],{}⟩;kernel_rfl
 ·
  refine(show Safe P 69 X _ (cIB l x k)from ?_);have tr:=aqe l x k
  have eA:(List.drop 0 (List.take (k:Int).toNat l)++List.replicate ((l.length:Int)+(1:Int) - (k:Int)).toNat (CL.d cE)).length=l.length+1:=by
   simp only[List.drop_zero,List.length_append,List.length_take,List.length_replicate];omega
  have eB:(over (List.drop 0 (List.take (k:Int).toNat l)++List.replicate ((l.length:Int)+(1:Int) - (k:Int)).toNat (CL.d cE)) (0+(k:Int).toNat) (min 1 (((List.drop 0 (List.take (k:Int).toNat l)++List.replicate ((l.length:Int)+(1:Int) - (k:Int)).toNat (CL.d cE)).length:Int).toNat - (k:Int).toNat)) [x]).length=l.length+1:=by
   rw[fo _ _ (by rw[eA];omega) (by simp;omega),eA]
  have eC:(List.drop 0 (List.take (k:Int).toNat l)).length=k:=by simp only[List.drop_zero,List.length_take];omega
  have e1:(min (List.drop (k:Int).toNat (List.take (l.length:Int).toNat l)).length (((over (List.drop 0 (List.take (k:Int).toNat l)++List.replicate ((l.length:Int)+(1:Int) - (k:Int)).toNat (CL.d cE)) (0+(k:Int).toNat) (min 1 (((List.drop 0 (List.take (k:Int).toNat l)++List.replicate ((l.length:Int)+(1:Int) - (k:Int)).toNat (CL.d cE)).length:Int).toNat - (k:Int).toNat)) [x]).length:Int).toNat - ((k:Int)+(1:Int)).toNat))=l.length - k:=by
   rw[eB];simp only[List.length_drop,List.length_take];omega
  rw[e1,ajy hkl,eB,eA,eC]at tr;refine ew hz hX (by intro y hy;simp at hy) aE.Ok.nil Tryd.func69 tr ⟨⟨by omega,by omega⟩,by omega,by omega,by omega,⟨by omega,by omega⟩,⟨by omega,by omega⟩,by omega,by omega,by omega,by omega,by omega,by omega,⟨by omega,by omega⟩,by omega,by omega,by omega,by omega,by omega,by omega,⟨⟨[],[0],2,[]⟩,Nat.le_refl _, ?_⟩⟩;show Norm.run _ _=some ⟨[.vec 2],[.dead,.vec (.ae cE [x]) eE,.vec (.ae cE (lL l k x)) eE],[],{}⟩;kernel_rfl
end Lf
namespace Lf
open Go Go.Sx Go.Proofs
def asP:List AV→RM ((List En×En×Nat)×List Nat)
 |[.vec id,.s (.int .i64 i),.vec id2]=>.look id fun o=>match o with
  |some (.vec (.ae [.str,.str] l) _)=>.look id2 fun o=>match o with
   |some (.vec (.ae [.str,.str] [x]) _)=>.ret ((l,x,i.toNat),[id,id2])
   |_=>.fail "insert: no element"
  |_=>.fail "insert: no row"
 |_=>.fail "insert"
def ajz:aE:=[(58,zW),(68,ap8),(69,cI afl asP)]
theorem al9(l:List (CL cE))(key val:ByteArray):run P ajz.sum Tryd.f50 [] (start Tryd.f50 [.s (.ro (.ae cE l)),.s (.str key),.s (.str val)] [])=
 Tree.need (l.length≤1000000) (.need (im (bB l)) (.need (l.length≤100000) (.ite (jj (bB l) key) (.need ((0:Int)≤(↑(cu (bB l) key):bh.V)) (.need ((↑(cu (bB l) key):bh.V)<(↑l.length:Int)) (.ret [.vec (.ae [.str,.str] (l.set (Int.toNat (↑(cu (bB l) key):bh.V)) ((l.getD (Int.toNat (↑(cu (bB l) key):bh.V)) (CL.d [.str,.str])).fst,val,()))) 34] (.vec 0)))) (.need (some [AV.vec 0,.s (.int .i64 (↑(cu (bB l) key):bh.V)),.vec 1]=some [AV.vec 0,.s (.int .i64 (↑(Int.toNat (↑(cu (bB l) key):bh.V)):Int)),.vec 1]) (.need (some [ad.vec (.ae [.str,.str] l) 34,.vec (.ae [.str,.str] [(key,val,())]) 34]=some [ad.vec (.ae [.str,.str] l) 34,.vec (.ae [.str,.str] [(key,val,())]) 34]) (.need (Int.toNat (↑(cu (bB l) key):bh.V)≤l.length) (.need (l.length≤100000) (.ret [.dead,.vec (.ae [.str,.str] [(key,val,())]) 34,.vec (.ae [.str,.str] (lL l (Int.toNat (↑(cu (bB l) key):bh.V)) (key,val,()))) 34] (.vec 2))))))))):=by kernel_rfl
theorem ajA{α:Type}{l:List α}{k:Nat}{x:α}(h:k<l.length):l.set k x=l.take k++x::l.drop (k+1):=by
 rw[List.set_eq_take_append_cons_drop,if_pos h]
theorem ajB{l:List En}{key val:ByteArray}(h:jj (bB l) key=true)(h1:cu (bB l) key<l.length):bz l key val=l.set (cu (bB l) key) (key,val,()):=by
 rw[ajA h1,bz,if_pos h]
theorem ama{l:List En}{key val:ByteArray}(h:jj (bB l) key=false):bz l key val=lL l (cu (bB l) key) (key,val,()):=by
 rw[bz,if_neg (by rw[h];simp),lL]
theorem ajC{Z:aX}:dr P Z 50 [qI,dt,dt] [qI] (fun(l,_,_,())=>[(l:List En).length≤100000,im (bB l)]) (fun(l,key,val,())=>(bz l key val,())):=by
 refine au Tryd.func50 (by kernel_rfl) (by kernel_rfl) ?_;rintro⟨(l:List (CL cE)),(key:ByteArray),(val:ByteArray),⟨⟩⟩ _ ⟨(hl:l.length≤100000),(hs:im (bB l)),_⟩ X hX hz;have hT:ajz.Ok P Z:=aE.Ok.cons rT.sum (aE.Ok.cons adN.sum (aE.Ok.cons (aqf.sum asP) aE.Ok.nil));have hn:(bB l).length=l.length:=List.length_map _;have hle:=vE (bB l) key;rw[hn]at hle;refine go hz hX hT Tryd.func50 (al9 l key val) ⟨by omega,hs,hl,fun h=> ?_,fun h=> ?_⟩
 ·obtain⟨h1,h2⟩:=jF.1 h;rw[hn]at h1;refine⟨Int.natCast_nonneg _,Int.ofNat_lt.2 h1, ?_⟩;refine aS (l.set (cu (bB l) key) ((l.getD (cu (bB l) key) dE).1,val,()),()) ?_ (by kernel_rfl);have hk:(l.getD (cu (bB l) key) dE).1=key:=(cC l pI dE _).symm.trans h2;rw[hk];exact congrArg (fun y=>(y,())) (ajB h h1)
 ·refine⟨rfl,rfl,by show cu (bB l) key≤l.length;exact hle,hl, ?_⟩;refine aS (lL l (cu (bB l) key) (key,val,()),()) ?_ (by kernel_rfl);exact congrArg (fun y=>(y,())) (ama h)
end Lf
namespace Bx
open Go Go.Sx Go.Proofs
abbrev dw:Ty:=.b (.arr .u64 16)
abbrev bh:Ty:=.b (.int .i64)
abbrev tU:Ty:=.b (.int .u64)
abbrev cX:Ty:=.b .bool
abbrev abq:Ty:=.b (.row (.ints .i64) 3)
noncomputable abbrev P:Program:=Tryd.prog
theorem mixed:P.follows .mixedOrders=true:=by kernel_rfl
def ku:aE:=[]
def dZ(n:Int):Int:=if 0≤n∧n<1024 then n / 64 else 0
def lM(n:Int):Int:=if 0≤n∧n<1024 then 2^(n%64).toNat else 0
def iu(n:Int):Bool:=decide (0≤n∧n<1024)
theorem aqg(n:Int):run P ku.sum Tryd.f55 [] (start Tryd.f55 [.s (.int .i64 n)] [])=
 Tree.ite (decide (n<(0:Int))) (Tree.ret [] (AV.bo [AV.s (SV.aV IntKind.i64 (0:Int)),AV.s (SV.aV IntKind.u64 (0:Int)),AV.s (SV.aA false)])) (Tree.ite (decide (n≥(1024:Int))) (Tree.ret [] (AV.bo [AV.s (SV.aV IntKind.i64 (0:Int)),AV.s (SV.aV IntKind.u64 (0:Int)),AV.s (SV.aA false)])) (Tree.need ((64:Int)≠(0:Int)) (Tree.need (aF (n.tdiv (64:Int))) (Tree.need ((64:Int)≠(0:Int)) (Tree.need ((0:Int)≤n.tmod (64:Int)) (Tree.ret [] (AV.bo [AV.s (SV.int IntKind.i64 (n.tdiv (64:Int))),AV.s (SV.int IntKind.u64 (IntKind.u64.wrap ((1:Int)*(2:Int)^min (n.tmod (64:Int)).toNat IntKind.u64.bits))),AV.s (SV.aA true)]))))))):=by kernel_rfl
theorem aqh(a b:Int):run P ku.sum Tryd.f47 [] (start Tryd.f47 [.s (.int .u64 a),.s (.int .u64 b)] [])=
 Tree.ret [] (.s (.int .u64 (bF BinOp.andNot .u64 a b))):=by kernel_rfl
theorem aqi(a b:Int):run P ku.sum Tryd.f63 [] (start Tryd.f63 [.s (.int .u64 a),.s (.int .u64 b)] [])=
 Tree.ret [] (.s (.int .u64 (bF BinOp.and .u64 a b))):=by kernel_rfl
theorem aqj(a b:Int):run P ku.sum Tryd.f54 [] (start Tryd.f54 [.s (.int .u64 a),.s (.int .u64 b)] [])=
 Tree.ret [] (.s (.int .u64 (bF BinOp.or .u64 a b))):=by kernel_rfl
abbrev s36:=bZ [bh] [bh,tU,cX] (fun _=>[]) (fun(n,())=>(dZ n,lM n,iu n,()))
def amb:aE:=[(55,s36)]
theorem aqk(ws:List Int)(n:Int):run P amb.sum Tryd.f35 [] (start Tryd.f35 [.ints .u64 16 ws,.s (.int .i64 n)] [])=
 Tree.ite (iu n) (.need ((0:Int)≤dZ n) (.need (dZ n<(↑(16:Nat):Int)) (.ret [.own [.ints .u64 16 ws] 47] (.s (.bool (bF BinOp.and .u64 (ws.getD (dZ n).toNat 0) (lM n) !=0)))))) (.ret [.own [.ints .u64 16 ws] 47] (.s (.aA false))):=by kernel_rfl
theorem aql(ws:List Int)(n:Int):run P amb.sum Tryd.f43 [] (start Tryd.f43 [.ints .u64 16 ws,.s (.int .i64 n)] [])=
 Tree.ite (iu n) (.need ((0:Int)≤dZ n) (.need (dZ n<(↑(16:Nat):Int)) (.need ((0:Int)≤dZ n) (.need (dZ n<(↑(16:Nat):Int)) (.ret [.own [.ints .u64 16 (ws.set (dZ n).toNat (bF BinOp.or .u64 (ws.getD (dZ n).toNat 0) (lM n)))] 47,.own [.ints .u64 16 (ws.set (dZ n).toNat (bF BinOp.or .u64 (ws.getD (dZ n).toNat 0) (lM n)))] 47] (.ints .u64 16 (ws.set (dZ n).toNat (bF BinOp.or .u64 (ws.getD (dZ n).toNat 0) (lM n))))))))) (.ret [.own [.ints .u64 16 ws] 47,.own [.ints .u64 16 ws] 47] (.ints .u64 16 ws)):=by kernel_rfl
theorem aqm(ws:List Int)(n:Int):run P amb.sum Tryd.f98 [] (start Tryd.f98 [.ints .u64 16 ws,.s (.int .i64 n)] [])=
 Tree.ite (iu n) (.need ((0:Int)≤dZ n) (.need (dZ n<(↑(16:Nat):Int)) (.need ((0:Int)≤dZ n) (.need (dZ n<(↑(16:Nat):Int)) (.ret [.own [.ints .u64 16 (ws.set (dZ n).toNat (bF BinOp.andNot .u64 (ws.getD (dZ n).toNat 0) (lM n)))] 47,.own [.ints .u64 16 (ws.set (dZ n).toNat (bF BinOp.andNot .u64 (ws.getD (dZ n).toNat 0) (lM n)))] 47] (.ints .u64 16 (ws.set (dZ n).toNat (bF BinOp.andNot .u64 (ws.getD (dZ n).toNat 0) (lM n))))))))) (.ret [.own [.ints .u64 16 ws] 47,.own [.ints .u64 16 ws] 47] (.ints .u64 16 ws)):=by kernel_rfl
theorem go{Z:aX}{X:Ctx}{t:aE}{f:FuncId}{fn:Func}{ns:List (Nat×Norm)}{c:bA}{tr:Tree}{K:List ad→AV→Prop}(hz:dT Z X)(hX:∀id,X.H id=none)(hT:t.Ok P Z)(hf:P.funcs[f]? =some fn)
 (e:run P t.sum fn ns c=tr) (h:tr.aM K (Safe P f X K)):Safe P f X K c:=cq (aE.sOk hT) hz mixed hf (fun _ _ id _=>hX id) e h
theorem aqn{Z:aX}:dr P Z 55 [bh] [bh,tU,cX] (fun _=>[]) (fun(n,())=>(dZ n,lM n,iu n,())):=by
 refine au Tryd.func55 (by kernel_rfl) (by kernel_rfl) ?_;rintro⟨(n:Int),⟨⟩⟩ _ _ X hX hz;refine cq (aE.sOk aE.Ok.nil) hz mixed Tryd.func55 (fun x h=>by simp at h) (aqg n) ?_
 have no:¬(0≤n∧n<1024)→Ends [bh,tU,cX] (dZ n,lM n,iu n,()) [] (AV.bo [AV.s (SV.aV IntKind.i64 0),AV.s (SV.aV IntKind.u64 0),AV.s (SV.aA false)]):=fun h=>
  aS (0,0,false,()) (by simp only[dZ,lM,iu,if_neg h,decide_eq_false h]) (by kernel_rfl)
 refine⟨fun h=>no (by simp at h;omega),fun h=>⟨fun h2=>no (by simp at h2;omega),fun h2=> ?_⟩⟩;have h3:0≤n∧n<1024:=by simp at h h2;omega
 have e1:n.tdiv 64=n / 64:=Int.tdiv_eq_ediv_of_nonneg h3.1;have e2:n.tmod 64=n%64:=Int.tmod_eq_emod_of_nonneg h3.1;refine⟨by omega,⟨by omega,by omega⟩,by omega,by omega, ?_⟩;rw[e1,e2]
 have e3:IntKind.u64.wrap ((1:Int)*(2:Int)^min (n%64).toNat IntKind.u64.bits)=2^(n%64).toNat:=by
  have:(n%64).toNat<64:=by omega
  rw[show IntKind.u64.bits=64 from rfl,Nat.min_eq_left (by omega),Int.one_mul];show(2:Int)^(n%64).toNat%18446744073709551616=_;refine Int.emod_eq_of_lt (Int.pow_nonneg (by omega)) ?_;have h5:(2:Nat)^(n%64).toNat<2^64:=Nat.pow_lt_pow_right (by omega) this;have:((2:Nat)^(n%64).toNat:Int)<((2^64:Nat):Int):=by exact_mod_cast h5
  simpa using this
 rw[e3];exact aS (n / 64,2^(n%64).toNat,true,()) (by simp only[dZ,lM,iu,if_pos h3,decide_eq_true h3]) (by kernel_rfl)
theorem ahb{Z:aX}:dr P Z 47 [tU,tU] [tU] (fun _=>[]) (fun(a,b,())=>(bF .andNot .u64 a b,())):=by
 refine au Tryd.func47 (by kernel_rfl) (by kernel_rfl) ?_;rintro⟨(a:Int),(b:Int),⟨⟩⟩ _ _ X hX hz;exact cq (aE.sOk aE.Ok.nil) hz mixed Tryd.func47 (fun x h=>by simp at h) (aqh a b) (aS _ rfl (by kernel_rfl))
theorem aqo{Z:aX}:dr P Z 63 [tU,tU] [tU] (fun _=>[]) (fun(a,b,())=>(bF .and .u64 a b,())):=by
 refine au Tryd.func63 (by kernel_rfl) (by kernel_rfl) ?_;rintro⟨(a:Int),(b:Int),⟨⟩⟩ _ _ X hX hz;exact cq (aE.sOk aE.Ok.nil) hz mixed Tryd.func63 (fun x h=>by simp at h) (aqi a b) (aS _ rfl (by kernel_rfl))
theorem asQ{Z:aX}:dr P Z 54 [tU,tU] [tU] (fun _=>[]) (fun(a,b,())=>(bF .or .u64 a b,())):=by
 refine au Tryd.func54 (by kernel_rfl) (by kernel_rfl) ?_;rintro⟨(a:Int),(b:Int),⟨⟩⟩ _ _ X hX hz;exact cq (aE.sOk aE.Ok.nil) hz mixed Tryd.func54 (fun x h=>by simp at h) (aqj a b) (aS _ rfl (by kernel_rfl))
theorem z8{Z:aX}:amb.Ok P Z:=aE.Ok.cons aqn.sum aE.Ok.nil
theorem pK{n:Int}(h:iu n=true):0≤dZ n∧dZ n<16:=by
 simp only[iu,decide_eq_true_eq]at h;simp only[dZ,if_pos h];omega
def lN(ws:List Int)(n:Int):Bool:=iu n&&(bF .and .u64 (ws.getD (dZ n).toNat 0) (lM n) !=0)
def cT(ws:List Int)(n:Int):List Int:=if iu n=true then ws.set (dZ n).toNat (bF .or .u64 (ws.getD (dZ n).toNat 0) (lM n))else ws
def cU(ws:List Int)(n:Int):List Int:=if iu n=true then ws.set (dZ n).toNat (bF .andNot .u64 (ws.getD (dZ n).toNat 0) (lM n))else ws
theorem vS{Z:aX}:dr P Z 35 [dw,bh] [cX] (fun _=>[]) (fun(ws,n,())=>(lN ws n,())):=by
 refine au Tryd.func35 (by kernel_rfl) (by kernel_rfl) ?_;rintro⟨(ws:List Int),(n:Int),⟨⟩⟩ _ _ X hX hz;refine cq (aE.sOk z8) hz mixed Tryd.func35 (fun x h=>by simp at h) (aqk ws n) ⟨fun h=> ?_,fun h=> ?_⟩
 ·have:=pK h;exact⟨this.1,this.2,aS (bF .and .u64 (ws.getD (dZ n).toNat 0) (lM n) !=0,()) (by simp[lN,h]) (by kernel_rfl)⟩
 ·exact aS (false,()) (by simp[lN,h]) (by kernel_rfl)
theorem ou{Z:aX}:dr P Z 43 [dw,bh] [dw] (fun _=>[]) (fun(ws,n,())=>(cT ws n,())):=by
 refine au Tryd.func43 (by kernel_rfl) (by kernel_rfl) ?_;rintro⟨(ws:List Int),(n:Int),⟨⟩⟩ _ _ X hX hz;refine cq (aE.sOk z8) hz mixed Tryd.func43 (fun x h=>by simp at h) (aql ws n) ⟨fun h=> ?_,fun h=> ?_⟩
 ·have:=pK h;refine⟨this.1,this.2,this.1,this.2, ?_⟩;simp only[cT,if_pos h];exact aS _ rfl (by kernel_rfl)
 ·exact aS (ws,()) (by simp only[cT,h];rfl) (by kernel_rfl)
theorem vT{Z:aX}:dr P Z 98 [dw,bh] [dw] (fun _=>[]) (fun(ws,n,())=>(cU ws n,())):=by
 refine au Tryd.func98 (by kernel_rfl) (by kernel_rfl) ?_;rintro⟨(ws:List Int),(n:Int),⟨⟩⟩ _ _ X hX hz;refine cq (aE.sOk z8) hz mixed Tryd.func98 (fun x h=>by simp at h) (aqm ws n) ⟨fun h=> ?_,fun h=> ?_⟩
 ·have:=pK h;refine⟨this.1,this.2,this.1,this.2, ?_⟩;simp only[cU,if_pos h];exact aS _ rfl (by kernel_rfl)
 ·exact aS (ws,()) (by simp only[cU,h];rfl) (by kernel_rfl)
end Bx
namespace Bx
open Go Go.Sx Go.Proofs
abbrev sOp(op:BinOp):=bZ [tU,tU] [tU] (fun _=>[]) (fun(a,b,())=>(bF op .u64 a b,()))
def aaa:aE:=[(47,sOp .andNot),(63,sOp .and),(54,sOp .or)]
def abQ:List (Nat×Norm):=[(2,⟨[],[2,3,4,6,8],0,[]⟩)]
noncomputable def c37(f:FuncId)(b s:List Int)(i:Int):bA:=⟨sl 23 [(2,.s (.kV f)),(3,.ptr 0 0),(4,.ptr 1 0),(6,.ptr 2 0),(8,.s (.int .i64 i))],[.own [.ints .u64 16 s] 47,.own [.ints .u64 16 b] 47,.own [.ints .u64 16 (List.replicate 16 0)] 47],hd Tryd.f46 2,{}⟩
theorem amc(a b:List Int):run P aaa.sum Tryd.f46 abQ (start Tryd.f46 [.ints .u64 16 a,.ints .u64 16 b,.s (.kV 47)] [])=
 Tree.at (.mk (sl 23 [(2,.s (.kV 47)),(3,.ptr 0 0),(4,.ptr 1 0),(6,.ptr 2 0),(8,.s (.int .i64 0))]) [.own [.ints .u64 16 a] 47,.own [.ints .u64 16 b] 47,.own [.ints .u64 16 (List.replicate 16 0)] 47] (hd Tryd.f46 2) (.mk none false 0 [] 0)):=by kernel_rfl
theorem amd(b s:List Int)(i:Int):run P aaa.sum Tryd.f46 abQ (c37 47 b s i)=
 Tree.ite (decide (i<16)) (.need ((0:Int)≤i) (.need (i<(↑(16:Nat):Int)) (.need ((0:Int)≤i) (.need (i<(↑(16:Nat):Int)) (.need ((0:Int)≤i) (.need (i<(↑(16:Nat):Int)) (.need (aF (i+1)) (.at (.mk (sl 23 [(2,.s (.kV 47)),(3,.ptr 0 0),(4,.ptr 1 0),(6,.ptr 2 0),(8,.s (.int .i64 (i+1)))]) [.own [.ints .u64 16 (s.set i.toNat (bF BinOp.andNot .u64 (s.getD i.toNat 0) (b.getD i.toNat 0)))] 47,.own [.ints .u64 16 b] 47,.own [.ints .u64 16 (List.replicate 16 0)] 47] (hd Tryd.f46 2) (.mk none false 0 [] 0)))))))))) (.ret [.own [.ints .u64 16 s] 47,.own [.ints .u64 16 b] 47,.own [.ints .u64 16 s] 47] (.ints .u64 16 s)):=by kernel_rfl
theorem ame(a b:List Int):run P aaa.sum Tryd.f46 abQ (start Tryd.f46 [.ints .u64 16 a,.ints .u64 16 b,.s (.kV 63)] [])=
 Tree.at (.mk (sl 23 [(2,.s (.kV 63)),(3,.ptr 0 0),(4,.ptr 1 0),(6,.ptr 2 0),(8,.s (.int .i64 0))]) [.own [.ints .u64 16 a] 47,.own [.ints .u64 16 b] 47,.own [.ints .u64 16 (List.replicate 16 0)] 47] (hd Tryd.f46 2) (.mk none false 0 [] 0)):=by kernel_rfl
theorem amf(b s:List Int)(i:Int):run P aaa.sum Tryd.f46 abQ (c37 63 b s i)=
 Tree.ite (decide (i<16)) (.need ((0:Int)≤i) (.need (i<(↑(16:Nat):Int)) (.need ((0:Int)≤i) (.need (i<(↑(16:Nat):Int)) (.need ((0:Int)≤i) (.need (i<(↑(16:Nat):Int)) (.need (aF (i+1)) (.at (.mk (sl 23 [(2,.s (.kV 63)),(3,.ptr 0 0),(4,.ptr 1 0),(6,.ptr 2 0),(8,.s (.int .i64 (i+1)))]) [.own [.ints .u64 16 (s.set i.toNat (bF BinOp.and .u64 (s.getD i.toNat 0) (b.getD i.toNat 0)))] 47,.own [.ints .u64 16 b] 47,.own [.ints .u64 16 (List.replicate 16 0)] 47] (hd Tryd.f46 2) (.mk none false 0 [] 0)))))))))) (.ret [.own [.ints .u64 16 s] 47,.own [.ints .u64 16 b] 47,.own [.ints .u64 16 s] 47] (.ints .u64 16 s)):=by kernel_rfl
theorem amg(a b:List Int):run P aaa.sum Tryd.f46 abQ (start Tryd.f46 [.ints .u64 16 a,.ints .u64 16 b,.s (.kV 54)] [])=
 Tree.at (.mk (sl 23 [(2,.s (.kV 54)),(3,.ptr 0 0),(4,.ptr 1 0),(6,.ptr 2 0),(8,.s (.int .i64 0))]) [.own [.ints .u64 16 a] 47,.own [.ints .u64 16 b] 47,.own [.ints .u64 16 (List.replicate 16 0)] 47] (hd Tryd.f46 2) (.mk none false 0 [] 0)):=by kernel_rfl
theorem amh(b s:List Int)(i:Int):run P aaa.sum Tryd.f46 abQ (c37 54 b s i)=
 Tree.ite (decide (i<16)) (.need ((0:Int)≤i) (.need (i<(↑(16:Nat):Int)) (.need ((0:Int)≤i) (.need (i<(↑(16:Nat):Int)) (.need ((0:Int)≤i) (.need (i<(↑(16:Nat):Int)) (.need (aF (i+1)) (.at (.mk (sl 23 [(2,.s (.kV 54)),(3,.ptr 0 0),(4,.ptr 1 0),(6,.ptr 2 0),(8,.s (.int .i64 (i+1)))]) [.own [.ints .u64 16 (s.set i.toNat (bF BinOp.or .u64 (s.getD i.toNat 0) (b.getD i.toNat 0)))] 47,.own [.ints .u64 16 b] 47,.own [.ints .u64 16 (List.replicate 16 0)] 47] (hd Tryd.f46 2) (.mk none false 0 [] 0)))))))))) (.ret [.own [.ints .u64 16 s] 47,.own [.ints .u64 16 b] 47,.own [.ints .u64 16 s] 47] (.ints .u64 16 s)):=by kernel_rfl
theorem ami{Z:aX}:aaa.Ok P Z:=aE.Ok.cons ahb.sum (aE.Ok.cons aqo.sum (aE.Ok.cons asQ.sum aE.Ok.nil))
def ct(op:BinOp)(a b:List Int):List Int:=List.zipWith (bF op .u64) a b
def abR(f:FuncId):BinOp:=if f=47 then .andNot else if f=63 then .and else .or
theorem vU{a b:List Int}{n:Nat}(ha:a.length=n)(hb:b.length=n)(h:∀j,j<n→a.getD j 0=b.getD j 0):a=b:=by
 refine List.ext_getElem (by omega) fun j h1 h2=> ?_;have:=h j (by omega);simpa[List.getD,h1,h2]using this
theorem qM(a:List Int)(i j:Nat)(x:Int):(a.set i x).getD j 0=if j=i∧i<a.length then x else a.getD j 0:=by
 simp only[List.getD,List.getElem?_set];by_cases h:i=j
 ·subst h;by_cases h2:i<a.length
  ·simp[h2]
  ·simp[h2]
 ·simp[h,Ne.symm h]
def I37(op:BinOp)(a b s:List Int)(i:Int):Prop:=0≤i∧i≤16∧s.length=16∧∀j,j<16→s.getD j 0=if(j:Int)<i then bF op .u64 (a.getD j 0) (b.getD j 0)else a.getD j 0
theorem ajD{op:BinOp}{a b s:List Int}{i:Int}(h:I37 op a b s i)(hi:i<16):I37 op a b (s.set i.toNat (bF op .u64 (s.getD i.toNat 0) (b.getD i.toNat 0))) (i+1):=by
 obtain⟨h1,h2,h3,h4⟩:=h;refine⟨by omega,by omega,by simpa using h3,fun j hj=> ?_⟩;rw[qM];by_cases hji:j=i.toNat
 ·subst hji;rw[if_pos ⟨rfl,by omega⟩,if_pos (by omega),h4 _ hj,if_neg (by omega)]
 ·rw[if_neg (fun h=>hji h.1),h4 j hj];by_cases h5:(j:Int)<i
  ·rw[if_pos h5,if_pos (by omega)]
  ·rw[if_neg h5,if_neg (by omega)]
theorem amj{op:BinOp}{a b s:List Int}{i:Int}(ha:a.length=16)(hb:b.length=16)(h:I37 op a b s i)(hi:¬i<16):s=ct op a b:=by
 obtain⟨h1,h2,h3,h4⟩:=h;refine vU h3 (by simp[ct,ha,hb]) fun j hj=> ?_;rw[h4 j hj,if_pos (by omega)];simp[ct,List.getD,List.getElem?_zipWith,ha,hb,hj]
theorem aab{Z:aX}:dr P Z 46 [dw,dw,.b .fn] [dw] (fun(_,_,f,())=>[f=47∨f=63∨f=54]) (fun(a,b,f,())=>(ct (abR f) a b,())):=by
 refine au Tryd.func46 (by kernel_rfl) (by kernel_rfl) ?_;rintro⟨(a:List Int),(b:List Int),(f:FuncId),⟨⟩⟩ ⟨(ha:a.length=16),(hb:b.length=16),_⟩ ⟨(hf:f=47∨f=63∨f=54),_⟩ X hX hz
 have run (c:bA) (t:Tree) (ht:run P aaa.sum Tryd.f46 abQ c=t) {K:List ad→AV→Prop} (h:t.aM K (Safe P 46 X K)):Safe P 46 X K c:=
  cq (aE.sOk ami) hz mixed Tryd.func46 (fun x h id _=>hX id) ht h
 have loop (op:BinOp) (f:FuncId) (hl:∀s i,Sx.run P aaa.sum Tryd.f46 abQ (c37 f b s i)=Tree.ite (decide (i<16)) (.need ((0:Int)≤i) (.need (i<(↑(16:Nat):Int)) (.need ((0:Int)≤i) (.need (i<(↑(16:Nat):Int)) (.need ((0:Int)≤i) (.need (i<(↑(16:Nat):Int)) (.need (aF (i+1)) (.at (c37 f b (s.set i.toNat (bF op .u64 (s.getD i.toNat 0) (b.getD i.toNat 0))) (i+1)))))))))) (.ret [.own [.ints .u64 16 s] 47,.own [.ints .u64 16 b] 47,.own [.ints .u64 16 s] 47] (.ints .u64 16 s))):
  Safe P 46 X (Ends [dw] (ct op a b,())) (c37 f b a 0):=by
  refine oh (fun(x:List Int×Int)=>c37 f b x.1 x.2) (fun x=>I37 op a b x.1 x.2) (fun x=>(16 - x.2).toNat) ?_ (a,0) ⟨by omega,by omega,ha,fun j hj=>by rw[if_neg (by simp only[];omega)]⟩;rintro⟨s,i⟩ hI ih;have h0:0≤i:=hI.1;refine run _ _ (hl s i) ⟨fun h=> ?_,fun h=> ?_⟩
  ·have hi:i<16:=by simpa using h
   exact⟨h0,hi,h0,hi,h0,hi,⟨by omega,by omega⟩,ih (_,i+1) (ajD hI hi) (by simp only[];omega)⟩
  ·have hi:¬i<16:=by simpa using h
   exact aS (s,()) (by rw[←amj ha hb hI hi]) (by kernel_rfl)
 rcases hf with rfl|rfl|rfl
 ·exact run _ _ (amc a b) (loop .andNot 47 (fun s i=>amd b s i))
 ·exact run _ _ (ame a b) (loop .and 63 (fun s i=>amf b s i))
 ·exact run _ _ (amg a b) (loop .or 54 (fun s i=>amh b s i))
end Bx
namespace Bx
open Go Go.Sx Go.Proofs
abbrev s37:=bZ [dw,dw,.b .fn] [dw] (fun(_,_,f,())=>[f=47∨f=63∨f=54]) (fun(a,b,f,())=>(ct (abR f) a b,()))
def aqp:aE:=[(46,s37)]
theorem aqq(a b:List Int):run P aqp.sum Tryd.f23 [] (start Tryd.f23 [.ints .u64 16 a,.ints .u64 16 b] [])=
 Tree.need ((47:Nat)=(47:(Ty.b B.fn).V)∨(47:Nat)=(63:(Ty.b B.fn).V)∨(47:Nat)=(54:(Ty.b B.fn).V)) (.ret [.own [.ints .u64 16 a] 47,.own [.ints .u64 16 b] 47,.own [.ints .u64 16 (ct (abR 47) a b)] 47] (.ints .u64 16 (ct (abR 47) a b))):=by kernel_rfl
theorem aqr(a b:List Int):run P aqp.sum Tryd.f44 [] (start Tryd.f44 [.ints .u64 16 a,.ints .u64 16 b] [])=
 Tree.need ((63:Nat)=(47:(Ty.b B.fn).V)∨(63:Nat)=(63:(Ty.b B.fn).V)∨(63:Nat)=(54:(Ty.b B.fn).V)) (.ret [.own [.ints .u64 16 a] 47,.own [.ints .u64 16 b] 47,.own [.ints .u64 16 (ct (abR 63) a b)] 47] (.ints .u64 16 (ct (abR 63) a b))):=by kernel_rfl
theorem aqs(a b:List Int):run P aqp.sum Tryd.f28 [] (start Tryd.f28 [.ints .u64 16 a,.ints .u64 16 b] [])=
 Tree.need ((54:Nat)=(47:(Ty.b B.fn).V)∨(54:Nat)=(63:(Ty.b B.fn).V)∨(54:Nat)=(54:(Ty.b B.fn).V)) (.ret [.own [.ints .u64 16 a] 47,.own [.ints .u64 16 b] 47,.own [.ints .u64 16 (ct (abR 54) a b)] 47] (.ints .u64 16 (ct (abR 54) a b))):=by kernel_rfl
def asR:List (Nat×Norm):=[(3,⟨[],[0,2,3,6],0,[]⟩)]
noncomputable def c13(n:Int)(s:List Int)(i:Int):bA:=⟨sl 24 [(0,.s (.int .i64 n)),(2,.ptr 0 0),(3,.ptr 1 0),(6,.s (.int .i64 i))],[.own [.ints .u64 16 (List.replicate 16 0)] 47,.own [.ints .u64 16 s] 47],hd Tryd.f29 3,{}⟩
theorem aqt(n:Int):run P ku.sum Tryd.f29 asR (start Tryd.f29 [.s (.int .i64 n)] [])=
 Tree.at (.mk (sl 24 [(0,.s (.int .i64 n)),(2,.ptr 0 0),(3,.ptr 1 0),(6,.s (.int .i64 0))]) [.own [.ints .u64 16 (List.replicate 16 0)] 47,.own [.ints .u64 16 (List.replicate 16 0)] 47] (hd Tryd.f29 3) (.mk none false 0 [] 0)):=by kernel_rfl
theorem aqu(n:Int)(s:List Int)(i:Int):run P ku.sum Tryd.f29 asR (c13 n s i)=
 Tree.ite (decide (i<(16:Int))) (Tree.need (aF (i*(64:Int))) (Tree.need (aF (pr (imax n (0:Int)) (1024:Int) - i*(64:Int))) (Tree.need ((0:Int)≤pr (imax (pr (imax n (0:Int)) (1024:Int) - i*(64:Int)) (0:Int)) (64:Int)) (Tree.need ((0:Int)≤i) (Tree.need (i<(↑(16:Nat):Int)) (Tree.need (aF (i+(1:Int))) (Tree.at (bA.mk (sl (24:Nat) [((0:Nat),AV.s (SV.int IntKind.i64 n)),((2:Nat),AV.ptr (0:Nat) (0:Nat)),((3:Nat),AV.ptr (1:Nat) (0:Nat)),((6:Nat),AV.s (SV.int IntKind.i64 (i+(1:Int))))]) [ad.own [AV.ints IntKind.u64 (16:Nat) (List.replicate (16:Nat) (0:Int))] (47:Nat),ad.own [AV.ints IntKind.u64 (16:Nat) (s.set i.toNat (IntKind.u64.wrap (IntKind.u64.wrap ((1:Int)*(2:Int)^min (pr (imax (pr (imax n (0:Int)) (1024:Int) - i*(64:Int)) (0:Int)) (64:Int)).toNat IntKind.u64.bits) - (1:Int))))] (47:Nat)] (hd Tryd.f29 (3:Nat)) (nh.mk none false (0:Nat) [] (0:Nat)))))))))) (Tree.ret [ad.own [AV.ints IntKind.u64 (16:Nat) s] (47:Nat),ad.own [AV.ints IntKind.u64 (16:Nat) s] (47:Nat)] (AV.ints IntKind.u64 (16:Nat) s)):=by kernel_rfl
theorem tK{Z:aX}:dr P Z 23 [dw,dw] [dw] (fun _=>[]) (fun(a,b,())=>(ct .andNot a b,())):=by
 refine au Tryd.func23 (by kernel_rfl) (by kernel_rfl) ?_;rintro⟨(a:List Int),(b:List Int),⟨⟩⟩ _ _ X hX hz;exact go hz hX (aE.Ok.cons aab.sum aE.Ok.nil) Tryd.func23 (aqq a b) ⟨.inl rfl,aS _ rfl (by kernel_rfl)⟩
theorem afm{Z:aX}:dr P Z 44 [dw,dw] [dw] (fun _=>[]) (fun(a,b,())=>(ct .and a b,())):=by
 refine au Tryd.func44 (by kernel_rfl) (by kernel_rfl) ?_;rintro⟨(a:List Int),(b:List Int),⟨⟩⟩ _ _ X hX hz;exact go hz hX (aE.Ok.cons aab.sum aE.Ok.nil) Tryd.func44 (aqr a b) ⟨.inr (.inl rfl),aS _ rfl (by kernel_rfl)⟩
theorem adQ{Z:aX}:dr P Z 28 [dw,dw] [dw] (fun _=>[]) (fun(a,b,())=>(ct .or a b,())):=by
 refine au Tryd.func28 (by kernel_rfl) (by kernel_rfl) ?_;rintro⟨(a:List Int),(b:List Int),⟨⟩⟩ _ _ X hX hz;exact go hz hX (aE.Ok.cons aab.sum aE.Ok.nil) Tryd.func28 (aqs a b) ⟨.inr (.inr rfl),aS _ rfl (by kernel_rfl)⟩
def ah:List Int:=List.replicate 16 0
theorem yj{α:Type}(l:List α)(i:Nat)(d:α)(h:i<l.length):l.take (i+1)=l.take i++[l.getD i d]:=by
 rw[List.take_add_one];simp[List.getD,h]
def ahc(n i:Int):Int:=pr (imax (pr (imax n 0) 1024 - i*64) 0) 64
def rX(n i:Int):Int:=IntKind.u64.wrap (IntKind.u64.wrap (1*2^min (ahc n i).toNat IntKind.u64.bits) - 1)
def br(n:Int):List Int:=(List.range 16).map fun(i:Nat)=>rX n i
theorem vV(n i:Int):0≤ahc n i∧ahc n i≤64:=by
 unfold ahc;generalize pr (imax n 0) 1024 - i*64=x;unfold pr imax;split<;>split at * <;>omega
theorem ahd(n:Int):0≤pr (imax n 0) 1024∧pr (imax n 0) 1024≤1024:=by
 unfold pr imax;split<;>split at * <;>omega
theorem nK {Z : aX} : dr P Z 29 [bh] [dw] (fun _ => []) (fun (n, ()) => (br n, ())) := by
 refine au Tryd.func29 (by kernel_rfl) (by kernel_rfl) ?_;rintro ⟨(n : Int), ⟨⟩⟩ _ _ X hX hz;refine go hz hX aE.Ok.nil Tryd.func29 (aqt n) ?_;refine oh (fun (x : List Int × Int) => c13 n x.1 x.2) (fun x => 0 ≤ x.2 ∧ x.2 ≤ 16 ∧ x.1.length = 16 ∧ ∀ j : Nat, j < 16 → (j : Int) < x.2 → x.1.getD j 0 = rX n j) (fun x => (16 - x.2).toNat) ?_ (ah, 0) ⟨by simp only []; omega, by simp only []; omega, rfl, fun j _ h => by simp only [] at h; omega⟩;rintro ⟨s, i⟩ ⟨(h0 : 0 ≤ i), (h1 : i ≤ 16), (h2 : s.length = 16), h3⟩ ih;simp only [] at h3;have hr := vV n i;have hc := ahd n;refine go hz hX aE.Ok.nil Tryd.func29 (aqu n s i) ⟨fun h => ?_, fun h => ?_⟩
 · have hi : i < (16 : Int) := of_decide_eq_true h;refine ⟨⟨by omega, by omega⟩, ⟨by omega, by omega⟩, hr.1, h0, hi, ⟨by omega, by omega⟩, ih (s.set i.toNat (rX n i), i + 1) ⟨by simp only []; omega, by simp only []; omega, by simpa using h2, fun j hj hji => ?_⟩ (by simp only []; omega)⟩;simp only [] at hji ⊢;rw [qM];by_cases uE : j = i.toNat
   · rw [if_pos ⟨uE, by omega⟩, show (j : Int) = i from by omega]
   · rw [if_neg (fun h => uE h.1)];exact h3 j hj (by omega)
 · have hi : ¬ i < (16 : Int) := of_decide_eq_false h;refine aS (s, ()) ?_ (by kernel_rfl);rw [vU (a := s) (b := br n) h2 (by simp [br]) (fun j hj => ?_)];rw [h3 j hj (by omega)];simp [br, List.getD, hj]
end Bx
namespace Bx
open Go Go.Sx Go.Proofs
def adR(n:Int):Int:=IntKind.u64.wrap n
def ub(a b:Int):Int:=bF .and .u64 a b
def sh(x k:Int):Int:=x.fdiv ((2:Int)^min (Int.toNat k) IntKind.u64.bits)
def oc1(x:Int):Int:=adR (ub (sh x 1) 6148914691236517205+ub x 6148914691236517205)
def oc2(x:Int):Int:=adR (ub (sh x 2) 3689348814741910323+ub x 3689348814741910323)
def oc3(x:Int):Int:=ub (adR (sh x 4+x)) 1085102592571150095
def oc4(x:Int):Int:=adR (x+sh x 8)
def oc5(x:Int):Int:=adR (x+sh x 16)
def oc6(x:Int):Int:=adR (x+sh x 32)
def ocF(x:Int):Int:=bF .and .i64 (oc6 (oc5 (oc4 (oc3 (oc2 (oc1 x)))))) 127
def ocG(x:Int):Int:=bF .and .i64 (IntKind.i64.wrap (oc6 (oc5 (oc4 (oc3 (oc2 (oc1 x))))))) 127
theorem aqv(x:Int):run P ku.sum Tryd.f53 [] (start Tryd.f53 [.s (.int .u64 x)] [])=
 Tree.need ((0:Int)≤1) (.need ((0:Int)≤2) (.need ((0:Int)≤4) (.need ((0:Int)≤8) (.need ((0:Int)≤16) (.need ((0:Int)≤32) (.ret [] (.s (.int .i64 (ocG x))))))))):=by kernel_rfl
def pc:Nat→Nat→Nat
 |0,_=>0
 |n+1,x=>x%2+pc n (x / 2)
theorem rY(a b:Nat)(ha:a<18446744073709551616)(hb:b<18446744073709551616):ub (a:Int) (b:Int)=((a &&& b:Nat):Int):=by
 have hx:a &&& b<2^64:=Nat.and_lt_two_pow _ (by omega)
 have h1:(BitVec.ofInt 64 (a:Int)).toNat=a:=by
  rw[BitVec.ofInt_natCast,BitVec.toNat_ofNat];exact Nat.mod_eq_of_lt (by omega)
 have h2:(BitVec.ofInt 64 (b:Int)).toNat=b:=by
  rw[BitVec.ofInt_natCast,BitVec.toNat_ofNat];exact Nat.mod_eq_of_lt (by omega)
 show((BitVec.ofInt 64 (a:Int) &&& BitVec.ofInt 64 (b:Int)).toNat:Int)%18446744073709551616=_;rw[BitVec.toNat_and,h1,h2];omega
theorem ov(n:Int):adR n=n%18446744073709551616:=rfl
theorem rZ(x k:Nat)(hk:k≤64):sh (x:Int) (k:Int)=((x / 2^k:Nat):Int):=by
 unfold sh;rw[show IntKind.u64.bits=64 from rfl,Int.toNat_natCast,Nat.min_eq_left hk,Int.fdiv_eq_ediv_of_nonneg _ (Int.pow_nonneg (by omega))];simp
def msk(b c:Nat):Nat→Nat
 |0=>0
 |n+1=>(2^b - 1)+2^c*msk b c n
theorem qN(b c n x:Nat)(hbc:b≤c):x &&& msk b c (n+1)=x%2^b+2^c*((x / 2^c) &&& msk b c n):=by
 have adS:x%2^b<2^c:=Nat.lt_of_lt_of_le (Nat.mod_lt _ (Nat.two_pow_pos _)) (Nat.pow_le_pow_right (by omega) hbc);have hm:2^b - 1<2^c:=Nat.lt_of_lt_of_le (by have:=Nat.two_pow_pos b;omega) (Nat.pow_le_pow_right (by omega) hbc);apply Nat.eq_of_testBit_eq;intro i;rw[Nat.testBit_and,msk,Nat.add_comm (2^b - 1),Nat.add_comm (x%2^b)];rw[Nat.testBit_two_pow_mul_add _ hm,Nat.testBit_two_pow_mul_add _ adS];by_cases hi:i<c
 ·rw[if_pos hi,if_pos hi,Nat.testBit_two_pow_sub_one,Nat.testBit_mod_two_pow,Bool.and_comm]
 ·rw[if_neg hi,if_neg hi,Nat.testBit_and,Nat.testBit_div_two_pow];congr 2;omega
def st1(n x:Nat):Nat:=((x / 2) &&& msk 1 2 n)+(x &&& msk 1 2 n)
theorem abS(n x:Nat):st1 (n+1) x=(x%2+x / 2%2)+4*st1 n (x / 4):=by
 unfold st1;rw[qN 1 2 n x (by omega),qN 1 2 n (x / 2) (by omega)];rw[show x / 2 / 2^2=x / 4 / 2 from by omega,show x / 2^2=x / 4 from rfl];omega
def st2(n y:Nat):Nat:=((y / 4) &&& msk 2 4 n)+(y &&& msk 2 4 n)
theorem ajE(n y:Nat):st2 (n+1) y=(y%4+y / 4%4)+16*st2 n (y / 16):=by
 unfold st2;rw[qN 2 4 n y (by omega),qN 2 4 n (y / 4) (by omega)];rw[show y / 4 / 2^4=y / 16 / 4 from by omega,show y / 2^4=y / 16 from rfl];omega
theorem ajF(n x:Nat):st1 (n+2) x%16=x%2+x / 2%2+4*(x / 4%2+x / 4 / 2%2)∧st1 (n+2) x / 16=st1 n (x / 16):=by
 rw[abS,abS,show x / 16=x / 4 / 4 from by omega];constructor<;>omega
theorem apB:∀(n x:Nat),st2 (n+1) (st1 (2*(n+1)) x)=pc 4 x+16*st2 n (st1 (2*n) (x / 16)):=by
 intro n x;rw[ajE,show 2*(n+1)=2*n+2 from by omega];obtain⟨h1,h2⟩:=ajF (2*n) x;rw[h2];have hp:pc 4 x=x%2+(x / 2%2+(x / 2 / 2%2+(x / 2 / 2 / 2%2+0))):=rfl;rw[show x / 2 / 2=x / 4 from by omega]at hp;rw[hp];generalize st1 (2*n+2) x=y at *;generalize x / 4 / 2%2=b3 at *;have:x%2<2∧x / 2%2<2∧x / 4%2<2:=by omega
 generalize x%2=b0 at *;generalize x / 2%2=b1 at *;generalize x / 4%2=b2 at *;omega
def st3(n z:Nat):Nat:=(z / 16+z) &&& msk 4 8 n
theorem ka:∀(n x:Nat),pc n x≤n
 |0,x=>Nat.le_refl _
 |n+1,x=>by have:=ka n (x / 2);simp only[pc];omega
theorem mf:∀(m n x:Nat),pc (m+n) x=pc m x+pc n (x / 2^m)
 |0,n,x=>by simp[pc]
 |m+1,n,x=>by
  rw[show m+1+n=(m+n)+1 from by omega];simp only[pc];rw[mf m n (x / 2),Nat.div_div_eq_div_mul,Nat.pow_succ,Nat.mul_comm 2];omega
def z4(n x:Nat):Nat:=st2 n (st1 (2*n) x)
theorem aac(n x:Nat):z4 (n+1) x=pc 4 x+16*z4 n (x / 16):=apB n x
theorem amk(x:Nat):z4 0 x=0:=by simp[z4,st2,msk]
theorem ajG(n x:Nat):st3 (n+1) (z4 (2*n+2) x)=pc 8 x+256*st3 n (z4 (2*n) (x / 256)):=by
 unfold st3;rw[qN 4 8 n _ (by omega)];have e1:=aac (2*n+1) x;have e2:=aac (2*n) (x / 16);rw[Nat.div_div_eq_div_mul]at e2;have e0:pc 8 x=pc 4 x+pc 4 (x / 16):=mf 4 4 x;have b1:=ka 4 x;have b2:=ka 4 (x / 16)
 have b3:z4 (2*n) (x / (16*16))%16≤4:=by
  cases n with
  |zero=>rw[amk];omega
  |succ n=>
   rw[show 2*(n+1)=(2*n+1)+1 from by omega,aac];have:=ka 4 (x / (16*16));omega
 rw[show x / 256=x / (16*16)from rfl];generalize z4 (2*n) (x / (16*16))=q at *;generalize z4 (2*n+1) (x / 16)=r at *;generalize z4 (2*n+2) x=t at *;have ht:(t / 16+t) / 2^8=q / 16+q:=by omega
 rw[ht];have:(t / 16+t)%2^4=pc 4 x+pc 4 (x / 16):=by omega
 omega
theorem bytes(x:Nat):st3 8 (z4 16 x)=pc 8 x+256*(pc 8 (x / 2^8)+256*(pc 8 (x / 2^16)+256*(pc 8 (x / 2^24)+256*(pc 8 (x / 2^32)+256*(pc 8 (x / 2^40)+256*(pc 8 (x / 2^48)+256*pc 8 (x / 2^56))))))):=by
 have h (n x:Nat):=ajG n x;have h0:∀x,st3 0 (z4 0 x)=0:=fun x=>by simp[st3,msk]
 rw[h 7,h 6,h 5,h 4,h 3,h 2,h 1,h 0,h0];simp only[Nat.div_div_eq_div_mul]
 try rfl
theorem avf(x:Nat):pc 64 x=pc 8 x+(pc 8 (x / 2^8)+(pc 8 (x / 2^16)+(pc 8 (x / 2^24)+(pc 8 (x / 2^32)+(pc 8 (x / 2^40)+(pc 8 (x / 2^48)+pc 8 (x / 2^56))))))):=by
 rw[mf 8 56 x,mf 8 48,mf 8 40,mf 8 32,mf 8 24,mf 8 16,mf 8 8];simp only[Nat.div_div_eq_div_mul]
 try rfl
theorem aml(x:Nat)(hx:x<18446744073709551616):oc1 (x:Int)=(st1 32 x:Nat):=by
 have hm:msk 1 2 32=6148914691236517205:=by decide
 unfold oc1 st1;rw[show(1:Int)=((1:Nat):Int)from rfl,rZ x 1 (by omega),show(6148914691236517205:Int)=((6148914691236517205:Nat):Int)from rfl,rY _ _ (by omega) (by omega),rY _ _ hx (by omega),ov,hm];have h1:x / 2^1 &&& 6148914691236517205≤6148914691236517205:=Nat.and_le_right;have h2:x &&& 6148914691236517205≤6148914691236517205:=Nat.and_le_right;rw[show x / 2^1=x / 2 from rfl]at *;omega
theorem aqw(x:Nat):st1 32 x<18446744073709551616:=by
 have hm:msk 1 2 32=6148914691236517205:=by decide
 unfold st1;rw[hm];have h1:x / 2 &&& 6148914691236517205≤6148914691236517205:=Nat.and_le_right;have h2:x &&& 6148914691236517205≤6148914691236517205:=Nat.and_le_right;omega
theorem amm(x:Nat)(hx:x<18446744073709551616):oc2 (x:Int)=(st2 16 x:Nat):=by
 have hm:msk 2 4 16=3689348814741910323:=by decide
 unfold oc2 st2;rw[show(2:Int)=((2:Nat):Int)from rfl,rZ x 2 (by omega),show(3689348814741910323:Int)=((3689348814741910323:Nat):Int)from rfl,rY _ _ (by omega) (by omega),rY _ _ hx (by omega),ov,hm];have h1:x / 2^2 &&& 3689348814741910323≤3689348814741910323:=Nat.and_le_right;have h2:x &&& 3689348814741910323≤3689348814741910323:=Nat.and_le_right;rw[show x / 2^2=x / 4 from rfl]at *;omega
theorem aqx(x:Nat):st2 16 x≤7378697629483820646:=by
 have hm:msk 2 4 16=3689348814741910323:=by decide
 unfold st2;rw[hm];have h1:x / 4 &&& 3689348814741910323≤3689348814741910323:=Nat.and_le_right;have h2:x &&& 3689348814741910323≤3689348814741910323:=Nat.and_le_right;omega
theorem amn(x:Nat)(hx:x≤7378697629483820646):oc3 (x:Int)=(st3 8 x:Nat):=by
 have hm:msk 4 8 8=1085102592571150095:=by decide
 unfold oc3 st3;rw[show(4:Int)=((4:Nat):Int)from rfl,rZ x 4 (by omega),ov,hm];rw[show(((x / 2^4:Nat):Int)+(x:Int))%18446744073709551616=((x / 16+x:Nat):Int)from by omega,show(1085102592571150095:Int)=((1085102592571150095:Nat):Int)from rfl,rY _ _ (by omega) (by omega)]
theorem ajH(x:Nat)(hx:x<18446744073709551616):∃t:Nat,oc6 (oc5 (oc4 (oc3 (oc2 (oc1 (x:Int))))))=(t:Int)∧t<9223372036854775808∧t%256=pc 64 x:=by
 rw[aml x hx,amm _ (aqw x),amn _ (aqx _)];have hb:=bytes x;rw[show z4 16 x=st2 16 (st1 32 x)from rfl]at hb;have hp:=avf x;generalize st3 8 (st2 16 (st1 32 x))=y at *;have b0:=ka 8 x;have b1:=ka 8 (x / 2^8);have b2:=ka 8 (x / 2^16);have b3:=ka 8 (x / 2^24);have b4:=ka 8 (x / 2^32);have b5:=ka 8 (x / 2^40);have b6:=ka 8 (x / 2^48);have b7:=ka 8 (x / 2^56);generalize pc 8 x=c0 at *;generalize pc 8 (x / 2^8)=c1 at *;generalize pc 8 (x / 2^16)=c2 at *;generalize pc 8 (x / 2^24)=c3 at *;generalize pc 8 (x / 2^32)=c4 at *;generalize pc 8 (x / 2^40)=c5 at *;generalize pc 8 (x / 2^48)=c6 at *;generalize pc 8 (x / 2^56)=c7 at *;generalize pc 64 x=p at *
 have e4:oc4 (y:Int)=((y+y / 256:Nat):Int):=by
  unfold oc4;rw[show(8:Int)=((8:Nat):Int)from rfl,rZ y 8 (by omega),ov,show(2:Nat)^8=256 from rfl];omega
 have h8:y / 256=c1+256*(c2+256*(c3+256*(c4+256*(c5+256*(c6+256*c7))))):=by omega
 rw[e4];have hu:y+y / 256=(c0+c1)+256*((c1+c2)+256*((c2+c3)+256*((c3+c4)+256*((c4+c5)+256*((c5+c6)+256*((c6+c7)+256*c7)))))):=by omega
 generalize y+y / 256=u at *;clear h8 hb e4
 have e5:oc5 (u:Int)=((u+u / 65536:Nat):Int):=by
  unfold oc5;rw[show(16:Int)=((16:Nat):Int)from rfl,rZ u 16 (by omega),ov,show(2:Nat)^16=65536 from rfl];omega
 have h16:u / 65536=(c2+c3)+256*((c3+c4)+256*((c4+c5)+256*((c5+c6)+256*((c6+c7)+256*c7)))):=by omega
 rw[e5]
 have hv:∃a1 a2 a3 a5 a6 a7:Nat,a1≤64∧a2≤64∧a3≤64∧a5≤64∧a6≤64∧a7≤64∧u+u / 65536=(c0+c1+c2+c3)+256*(a1+256*(a2+256*(a3+256*((c4+c5+c6+c7)+256*(a5+256*(a6+256*a7)))))):=
  ⟨c1+c2+c3+c4,c2+c3+c4+c5,c3+c4+c5+c6,c5+c6+c7,c6+c7,c7,by omega,by omega,by omega,by omega,by omega,by omega,by omega⟩
 obtain⟨a1,a2,a3,a5,a6,a7,g1,g2,g3,g5,g6,g7,hv⟩:=hv;generalize u+u / 65536=v at *;clear hu h16 e5
 have e6:oc6 (v:Int)=((v+v / 4294967296:Nat):Int):=by
  unfold oc6;rw[show(32:Int)=((32:Nat):Int)from rfl,rZ v 32 (by omega),ov,show(2:Nat)^32=4294967296 from rfl];omega
 rw[e6];refine⟨v+v / 4294967296,rfl,by omega, ?_⟩;have:v / 4294967296=(c4+c5+c6+c7)+256*(a5+256*(a6+256*a7)):=by omega
 omega
theorem aqy(t:Nat)(ht:t<9223372036854775808):bF .and .i64 (t:Int) 127=((t%128:Nat):Int):=by
 have h1:(BitVec.ofInt 64 (t:Int)).toNat=t:=by
  rw[BitVec.ofInt_natCast,BitVec.toNat_ofNat];exact Nat.mod_eq_of_lt (by omega)
 have h2:(BitVec.ofInt 64 (127:Int)).toNat=127:=by decide
 show IntKind.i64.wrap ((BitVec.ofInt 64 (t:Int) &&& BitVec.ofInt 64 (127:Int)).toNat:Int)=_;rw[BitVec.toNat_and,h1,h2,show(127:Nat)=2^7 - 1 from rfl,Nat.and_two_pow_sub_one_eq_mod];generalize hm:t%2^7=m;have:m<128:=by omega
 simp only[IntKind.wrap,IntKind.signed,IntKind.bits];simp;omega
theorem amo(x:Nat)(hx:x<18446744073709551616):ocF (x:Int)=(pc 64 x:Nat):=by
 obtain⟨t,h1,h2,h3⟩:=ajH x hx;unfold ocF;rw[h1,aqy t h2];have:=ka 64 x;omega
theorem amp{Z:aX}:dr P Z 53 [tU] [bh] (fun(x,())=>[(0:Int)≤x∧x<(18446744073709551616:Int)]) (fun(x,())=>(((pc 64 (Int.toNat x):Nat):Int),())):=by
 refine au Tryd.func53 (by kernel_rfl) (by kernel_rfl) ?_;rintro⟨(x:Int),⟨⟩⟩ _ ⟨(hx:0≤x∧x<18446744073709551616),_⟩ X hX hz;obtain⟨n,rfl⟩:=Int.eq_ofNat_of_zero_le hx.1;obtain⟨t,h1,h2,h3⟩:=ajH n (by omega);refine go hz hX aE.Ok.nil Tryd.func53 (aqv n) ⟨by omega,by omega,by omega,by omega,by omega,by omega,aS (ocG n,()) ?_ (by kernel_rfl)⟩
 ·have e:ocG n=ocF n:=by
   unfold ocG ocF;rw[cg (by rw[h1];exact⟨by omega,by omega⟩)]
  rw[e];clear e;revert h1;intro _;rw[amo n (by omega)];rfl
end Bx
namespace Bx
open Go Go.Sx Go.Proofs
def okW(ws:List Int):Prop:=ws.length=16∧∀w∈ws,0≤w∧w<18446744073709551616
def wd(ws:List Int)(i:Nat):Nat:=(ws.getD i 0).toNat
def bit(ws:List Int)(k:Nat):Bool:=(wd ws (k / 64)).testBit (k%64)
def opb:BinOp→Bool→Bool→Bool
 |.or,x,y=>x||y
 |.andNot,x,y=>x&& !y
 |_,x,y=>x&&y
theorem qO{ws:List Int}(h:okW ws)(i:Nat):wd ws i<18446744073709551616∧(ws.getD i 0)=(wd ws i:Int):=by
 unfold wd;by_cases hi:i<ws.length
 ·have:=h.2 (ws.getD i 0) (by rw[List.getD,List.getElem?_eq_getElem hi];exact List.getElem_mem hi);omega
 ·have:ws.getD i 0=0:=by simp[List.getD,List.getElem?_eq_none (Nat.le_of_not_lt hi)]
  rw[this];simp
theorem yk(op:BinOp)(wI:op=.or∨op=.and∨op=.andNot)(a b:Nat)(ha:a<18446744073709551616)(hb:b<18446744073709551616):
 ∃r:Nat,bF op .u64 (a:Int) (b:Int)=(r:Int)∧r<18446744073709551616∧∀i,i<64→r.testBit i=opb op (a.testBit i) (b.testBit i):=by
 have h1:BitVec.ofInt 64 (a:Int)=BitVec.ofNat 64 a:=BitVec.ofInt_natCast 64 a;have h2:BitVec.ofInt 64 (b:Int)=BitVec.ofNat 64 b:=BitVec.ofInt_natCast 64 b
 have key:∀v:BitVec 64,IntKind.u64.wrap (v.toNat:Int)=(v.toNat:Int):=fun v=>by
  have:=v.isLt;show(v.toNat:Int)%18446744073709551616=_;omega
 rcases wI with rfl|rfl|rfl
 ·refine⟨(BitVec.ofNat 64 a ||| BitVec.ofNat 64 b).toNat, ?_,(BitVec.ofNat 64 a ||| BitVec.ofNat 64 b).isLt,fun i hi=> ?_⟩
  ·show IntKind.u64.wrap ((BitVec.ofInt 64 (a:Int) ||| BitVec.ofInt 64 (b:Int)).toNat:Int)=_;rw[h1,h2,key]
  ·rw[BitVec.testBit_toNat,BitVec.getLsbD_or,BitVec.getLsbD_ofNat,BitVec.getLsbD_ofNat];simp[opb,hi]
 ·refine⟨(BitVec.ofNat 64 a &&& BitVec.ofNat 64 b).toNat, ?_,(BitVec.ofNat 64 a &&& BitVec.ofNat 64 b).isLt,fun i hi=> ?_⟩
  ·show IntKind.u64.wrap ((BitVec.ofInt 64 (a:Int) &&& BitVec.ofInt 64 (b:Int)).toNat:Int)=_;rw[h1,h2,key]
  ·rw[BitVec.testBit_toNat,BitVec.getLsbD_and,BitVec.getLsbD_ofNat,BitVec.getLsbD_ofNat];simp[opb,hi]
 ·refine⟨(BitVec.ofNat 64 a &&& ~~~ BitVec.ofNat 64 b).toNat, ?_,(BitVec.ofNat 64 a &&& ~~~ BitVec.ofNat 64 b).isLt,fun i hi=> ?_⟩
  ·show IntKind.u64.wrap ((BitVec.ofInt 64 (a:Int) &&& ~~~ BitVec.ofInt 64 (b:Int)).toNat:Int)=_;rw[h1,h2,key]
  ·rw[BitVec.testBit_toNat,BitVec.getLsbD_and,BitVec.getLsbD_not,BitVec.getLsbD_ofNat,BitVec.getLsbD_ofNat];simp[opb,hi]
theorem vW{ws:List Int}(hl:ws.length=16)(h:∀i,i<16→0≤ws.getD i 0∧ws.getD i 0<18446744073709551616):okW ws:=by
 refine⟨hl,fun w hw=> ?_⟩;obtain⟨i,hi,rfl⟩:=List.getElem_of_mem hw;have:=h i (by omega);rwa[List.getD,List.getElem?_eq_getElem hi]at this
theorem ajI{op:BinOp}{a b:List Int}(ha:a.length=16)(hb:b.length=16){i:Nat}(hi:i<16):(ct op a b).getD i 0=bF op .u64 (a.getD i 0) (b.getD i 0):=by
 have h1:i<a.length:=by omega
 have h2:i<b.length:=by omega
 simp[ct,List.getD,List.getElem?_zipWith,h1,h2]
theorem kR{op:BinOp}(wI:op=.or∨op=.and∨op=.andNot){a b:List Int}(ha:okW a)(hb:okW b):okW (ct op a b)∧∀k,k<1024→bit (ct op a b) k=opb op (bit a k) (bit b k):=by
 have key:∀i,i<16→∃r:Nat,(ct op a b).getD i 0=(r:Int)∧r<18446744073709551616∧∀j,j<64→r.testBit j=opb op ((wd a i).testBit j) ((wd b i).testBit j):=fun i hi=>by
  rw[ajI ha.1 hb.1 hi,(qO ha i).2,(qO hb i).2];exact yk op wI _ _ (qO ha i).1 (qO hb i).1
 refine⟨vW (by simp[ct,ha.1,hb.1]) fun i hi=> ?_,fun k hk=> ?_⟩
 ·obtain⟨r,h1,h2,_⟩:=key i hi;rw[h1];omega
 ·obtain⟨r,h1,h2,h3⟩:=key (k / 64) (by omega);unfold bit;rw[show wd (ct op a b) (k / 64)=r from by unfold wd;rw[h1];rfl];exact h3 _ (by omega)
theorem eX:okW ah∧∀k,bit ah k=false:=by
 refine⟨⟨rfl,fun w hw=> ?_⟩,fun k=> ?_⟩
 ·have:=List.eq_of_mem_replicate hw;omega
 ·have:wd ah (k / 64)=0:=by
   unfold wd ah;rw[List.getD,List.getElem?_replicate];split<;>rfl
  simp[bit,this]
theorem tL{j i:Nat}:(2^j).testBit i=decide (j=i):=by
 rw[Nat.testBit_two_pow]
theorem abT{n:Int}(h:0≤n∧n<1024):lM n=((2^(n.toNat%64):Nat):Int)∧2^(n.toNat%64)<18446744073709551616∧dZ n=((n.toNat / 64:Nat):Int):=by
 unfold lM dZ;rw[if_pos h,if_pos h];have e:(n%64).toNat=n.toNat%64:=by omega
 rw[e];have h2:(2:Nat)^(n.toNat%64)<2^64:=Nat.pow_lt_pow_right (by omega) (by omega);refine⟨by simp,h2,by omega⟩
theorem lO{n:Int}:iu n=true↔0≤n∧n<1024:=by simp[iu]
theorem ajJ(op:BinOp)(wI:op=.or∨op=.andNot){ws:List Int}(hw:okW ws){n:Int}(h:0≤n∧n<1024):
 okW (ws.set (dZ n).toNat (bF op .u64 (ws.getD (dZ n).toNat 0) (lM n)))∧∀k,k<1024→bit (ws.set (dZ n).toNat (bF op .u64 (ws.getD (dZ n).toNat 0) (lM n))) k=opb op (bit ws k) (decide (n=(k:Int))):=by
 obtain⟨e1,e2,e3⟩:=abT h;rw[e1,e3,Int.toNat_natCast];obtain⟨m,rfl⟩:=Int.eq_ofNat_of_zero_le h.1;simp only[Int.toNat_natCast]at *;have hb:=qO hw (m / 64);rw[hb.2];obtain⟨r,h1,h2,h3⟩:=yk op (by rcases wI with h|h<;>simp[h]) _ _ hb.1 e2;rw[h1];have hm:m / 64<ws.length:=by rw[hw.1];omega
 refine⟨vW (by simpa using hw.1) fun i hi=> ?_,fun k hk=> ?_⟩
 ·rw[qM];split
  ·omega
  ·have:=qO hw i;omega
 ·unfold bit wd;rw[qM];by_cases rh:k / 64=m / 64
  ·rw[if_pos ⟨rh,hm⟩,Int.toNat_natCast,h3 _ (by omega),tL]
   have:decide (m%64=k%64)=decide ((m:Int)=(k:Int)):=by
    apply decide_eq_decide.2;omega
   rw[this,rh];rfl
  ·rw[if_neg (fun h=>rh h.1)];have:decide ((m:Int)=(k:Int))=false:=decide_eq_false (by omega);rw[this];rcases wI with rfl|rfl<;>simp[opb]
theorem gb{ws:List Int}(hw:okW ws)(n:Int):okW (cT ws n)∧∀k,k<1024→bit (cT ws n) k=(bit ws k||decide (n=(k:Int))):=by
 unfold cT;by_cases h:0≤n∧n<1024
 ·rw[if_pos (lO.2 h)];exact ajJ .or (.inl rfl) hw h
 ·rw[if_neg (fun h2=>h (lO.1 h2))];refine⟨hw,fun k hk=> ?_⟩;rw[decide_eq_false (by omega),Bool.or_false]
theorem kH{ws:List Int}(hw:okW ws)(n:Int):okW (cU ws n)∧∀k,k<1024→bit (cU ws n) k=(bit ws k&& !decide (n=(k:Int))):=by
 unfold cU;by_cases h:0≤n∧n<1024
 ·rw[if_pos (lO.2 h)];exact ajJ .andNot (.inr rfl) hw h
 ·rw[if_neg (fun h2=>h (lO.1 h2))];refine⟨hw,fun k hk=> ?_⟩;rw[decide_eq_false (by omega)];simp
theorem amq(w j:Nat):w &&& 2^j=if w.testBit j=true then 2^j else 0:=by
 apply Nat.eq_of_testBit_eq;intro i;rw[Nat.testBit_and,tL];by_cases h:j=i
 ·subst h;cases h2:w.testBit j
  ·simp
  ·simp[tL]
 ·cases h2:w.testBit j
  ·simp[h]
  ·simp[tL,h]
theorem afn{ws:List Int}(hw:okW ws)(n:Int):lN ws n=(decide (0≤n∧n<1024)&&bit ws n.toNat):=by
 unfold lN;by_cases h:0≤n∧n<1024
 ·rw[show iu n=true from lO.2 h,decide_eq_true h];obtain⟨e1,e2,e3⟩:=abT h;rw[e1,e3,Int.toNat_natCast];have hb:=qO hw (n.toNat / 64);rw[hb.2];have:=rY _ _ hb.1 e2;unfold ub at this;rw[this,amq];unfold bit;have hp:(0:Nat)<2^(n.toNat%64):=Nat.two_pow_pos _;generalize (2:Nat)^(n.toNat%64)=p at *;cases(wd ws (n.toNat / 64)).testBit (n.toNat%64)
  ·rfl
  ·rw[if_pos rfl];simp;omega
 ·rw[show iu n=false from by simp[iu];omega,decide_eq_false h];rfl
theorem amr{a b:List Int}(ha:okW a)(hb:okW b)(h:∀k,k<1024→bit a k=bit b k):a=b:=by
 refine vU ha.1 hb.1 fun i hi=> ?_;have h1:=qO ha i;have h2:=qO hb i;rw[h1.2,h2.2];congr 1;apply Nat.eq_of_testBit_eq;intro j;by_cases hj:j<64
 ·have:=h (64*i+j) (by omega);unfold bit at this;rwa[show(64*i+j) / 64=i from by omega,show(64*i+j)%64=j from by omega]at this
 ·rw[Nat.testBit_lt_two_pow (Nat.lt_of_lt_of_le h1.1 (Nat.pow_le_pow_right (by omega) (Nat.le_of_not_lt hj):2^64≤2^j)),Nat.testBit_lt_two_pow (Nat.lt_of_lt_of_le h2.1 (Nat.pow_le_pow_right (by omega) (Nat.le_of_not_lt hj):2^64≤2^j))]
theorem vX(n i:Int):∃m:Nat,m≤64∧ahc n i=m∧rX n i=((2^m - 1:Nat):Int):=by
 obtain⟨h0,h1⟩:=vV n i;obtain⟨m,hm⟩:=Int.eq_ofNat_of_zero_le h0;refine⟨m,by omega,hm, ?_⟩;unfold rX;rw[hm,Int.toNat_natCast,show IntKind.u64.bits=64 from rfl,Nat.min_eq_left (by omega),Int.one_mul];show((2:Int)^m%18446744073709551616 - 1)%18446744073709551616=_;have hp:=Nat.two_pow_pos m;by_cases h64:m=64
 ·subst h64;decide
 ·have h2:(2:Nat)^m<2^64:=Nat.pow_lt_pow_right (by omega) (by omega);rw[show(2:Int)^m=((2^m:Nat):Int)from by simp];generalize (2:Nat)^m=p at *;omega
theorem bL(n:Int):okW (br n)∧∀k,k<1024→bit (br n) k=decide ((k:Int)<n):=by
 have hg:∀i:Nat,i<16→(br n).getD i 0=rX n i:=fun i hi=>by simp[br,List.getD,hi]
 refine⟨vW (by simp[br]) fun i hi=> ?_,fun k hk=> ?_⟩
 ·rw[hg i hi];obtain⟨m,h1,_,h2⟩:=vX n i;rw[h2];have:(2:Nat)^m≤2^64:=Nat.pow_le_pow_right (by omega) h1;omega
 ·unfold bit wd;rw[hg _ (by omega)];obtain⟨m,h1,h3,h2⟩:=vX n ((k / 64:Nat):Int);rw[h2,Int.toNat_natCast,Nat.testBit_two_pow_sub_one];apply decide_eq_decide.2;unfold ahc pr imax at h3;split at h3<;>(split at h3<;>(split at h3<;>split at h3<;>omega))
end Bx
namespace Bx
open Go Go.Sx Go.Proofs
abbrev s35:=bZ [tU] [bh] (fun(x,())=>[(0:Int)≤x∧x<(18446744073709551616:Int)]) (fun(x,())=>(((pc 64 (Int.toNat x):Nat):Int),()))
def aqz:aE:=[(53,s35)]
def asS:List (Nat×Norm):=[(3,⟨[],[3,6,7],0,[]⟩)]
noncomputable def c14(ws:List Int)(n i:Int):bA:=⟨sl 16 [(3,.s (.int .i64 n)),(6,.ints .u64 16 ws),(7,.s (.int .i64 i))],[],hd Tryd.f27 3,{}⟩
theorem aqA(ws:List Int):run P aqz.sum Tryd.f27 asS (start Tryd.f27 [.ints .u64 16 ws] [])=
 Tree.at (.mk (sl 16 [(3,.s (.int .i64 0)),(6,.ints .u64 16 ws),(7,.s (.int .i64 0))]) [] (hd Tryd.f27 3) (.mk none false 0 [] 0)):=by kernel_rfl
theorem aqB(ws:List Int)(n i:Int):run P aqz.sum Tryd.f27 asS (c14 ws n i)=
 Tree.ite (decide (i<16)) (.need ((0:Int)≤i) (.need (i<(↑(16:Nat):Int)) (.need ((0:Int)≤ws.getD i.toNat (0:Int)∧ws.getD i.toNat (0:Int)<18446744073709551616) (.need (aF (n+(↑(pc 64 (ws.getD i.toNat 0).toNat):Int))) (.need (aF (i+1)) (.at (.mk (sl 16 [(3,.s (.int .i64 (n+(↑(pc 64 (ws.getD i.toNat 0).toNat):Int)))),(6,.ints .u64 16 ws),(7,.s (.int .i64 (i+1)))]) [] (hd Tryd.f27 3) (.mk none false 0 [] 0)))))))) (.ret [] (.s (.int .i64 n))):=by kernel_rfl
def abU(x:Int):Int:=(Lib.ctz 64 x.toNat:Nat)
abbrev s34:=bZ [tU] [bh] (fun(x,())=>[(0:Int)≤x∧x<(18446744073709551616:Int)]) (fun(x,())=>(abU x,()))
abbrev s13:=bZ [bh] [dw] (fun _=>[]) (fun(n,())=>(br n,()))
abbrev s21:=bZ [dw,dw] [dw] (fun _=>[]) (fun(a,b,())=>(ct .andNot a b,()))
def aqC:aE:=[(29,s13),(23,s21),(103,s34)]
def asT:List (Nat×Norm):=[(6,⟨[],[17,18],0,[]⟩)]
noncomputable def c12(ws:List Int)(i:Int):bA:=⟨sl 30 [(17,.ints .u64 16 ws),(18,.s (.int .i64 i))],[],hd Tryd.f95 6,{}⟩
theorem aqD(ws:List Int)(n:Int):run P aqC.sum Tryd.f95 asT (start Tryd.f95 [.ints .u64 16 ws,.s (.int .i64 n)] [])=
 Tree.ite (decide (imax n (0:Int)≥1024)) (.ret [.own [.ints .u64 16 ws] 47] (.bo [.s (.aV .i64 0),.s (.aA false)])) (.at (.mk (sl 30 [(17,.ints .u64 16 (ct BinOp.andNot ws (br (imax n 0)))),(18,.s (.int .i64 0))]) [] (hd Tryd.f95 6) (.mk none false 0 [] 0))):=by kernel_rfl
theorem aqE(ws:List Int)(i:Int):run P aqC.sum Tryd.f95 asT (c12 ws i)=
 Tree.ite (decide (i<16)) (.need ((0:Int)≤i) (.need (i<(↑(16:Nat):Int)) (.ite (ws.getD i.toNat (0:Int) !=0) (.need (aF (i*64)) (.need ((0:Int)≤ws.getD i.toNat (0:Int)∧ws.getD i.toNat (0:Int)<18446744073709551616) (.need (aF (i*64+abU (ws.getD i.toNat 0))) (.ret [] (.bo [.s (.int .i64 (i*64+abU (ws.getD i.toNat 0))),.s (.aA true)]))))) (.need (aF (i+1)) (.at (.mk (sl 30 [(17,.ints .u64 16 ws),(18,.s (.int .i64 (i+1)))]) [] (hd Tryd.f95 6) (.mk none false 0 [] 0))))))) (.ret [] (.bo [.s (.aV .i64 0),.s (.aA false)])):=by kernel_rfl
def kI:List Int→Int→Option Int
 |[],_=>none
 |w::ws,i=>if w≠0 then some (i*64+abU w)else kI ws (i+1)
def nL(ws:List Int)(n:Int):Option Int:=if imax n 0≥1024 then none else kI (ct .andNot ws (br (imax n 0))) 0
def bx(ws:List Int)(n:Int):Int:=(nL ws n).getD 0
def eb(ws:List Int)(n:Int):Bool:=(nL ws n).isSome
abbrev s12:=bZ [dw,bh] [bh,cX] (fun(ws,_,())=>[okW ws]) (fun(ws,n,())=>(bx ws n,eb ws n,()))
def fr(b:Nat→Bool)(m:Nat):List Nat:=(List.range m).filter b
def adT(ws:List Int):List Nat:=fr (bit ws) 1024
theorem qP(b:Nat→Bool)(m:Nat):fr b (m+1)=fr b m++(if b m=true then [m]else []):=by
 unfold fr;rw[List.range_succ,List.filter_append];cases h:b m<;>simp[h]
theorem ahe(b:Nat→Bool)(m:Nat):(fr b m).length≤m:=by
 have:=List.length_filter_le b (List.range m);rwa[List.length_range]at this
theorem abV{x:Nat}(h0:x≠0)(h:x<18446744073709551616):Lib.ctz 64 x<64∧x.testBit (Lib.ctz 64 x)=true∧∀c,c<Lib.ctz 64 x→x.testBit c=false:=by
 unfold Lib.ctz;rw[if_neg h0];obtain⟨m,h1,h2⟩:=Lib.ctzFrom_spec 64 x (by omega) h;generalize Lib.ctzFrom 64 x=e at *;refine⟨h2, ?_,fun c hc=> ?_⟩
 ·rw[h1,Nat.testBit_two_pow_mul];simp
 ·rw[h1,Nat.testBit_two_pow_mul];simp;omega
theorem mg : ∀ (l : List Int) (i : Int), (∀ w ∈ l, 0 ≤ w ∧ w < 18446744073709551616) →
    match kI l i with
    | some v => ∃ j c : Nat, j < l.length ∧ c < 64 ∧ v = (i + j) * 64 + c ∧ (l.getD j 0).toNat.testBit c = true ∧ (∀ c', c' < c → (l.getD j 0).toNat.testBit c' = false) ∧ ∀ j', j' < j → l.getD j' 0 = 0
    | none => ∀ j, l.getD j 0 = 0
  | [], i, _ => fun j => by simp
  | w :: l, i, h => by
    unfold kI;have hw := h w (by simp);by_cases h0 : w ≠ 0
    · rw [if_pos h0];obtain ⟨h1, h2, h3⟩ := abV (x := w.toNat) (by omega) (by omega);exact ⟨0, Lib.ctz 64 w.toNat, by simp, h1, by simp [abU], by simpa using h2, by simpa using h3, fun j' hj => by omega⟩
    · rw [if_neg h0];have ih := mg l (i + 1) (fun x hx => h x (by simp [hx]));split
      · rename_i v hv;rw [hv] at ih;obtain ⟨j, c, h1, h2, h3, h4, h5, h6⟩ := ih;refine ⟨j + 1, c, by simp; omega, h2, by rw [h3]; simp; omega, by simpa using h4, by simpa using h5, fun j' hj => ?_⟩;cases j' with
        | zero => simp; omega
        | succ j' => simpa using h6 j' (by omega)
      · rename_i hv;rw [hv] at ih;intro j;cases j with
        | zero => simp; omega
        | succ j => simpa using ih j
theorem vY{ws:List Int}(hw:okW ws){n v:Int}(h:nL ws n=some v):∃p:Nat,v=(p:Int)∧p<1024∧bit ws p=true∧n≤(p:Int)∧∀k:Nat,k<p→n≤(k:Int)→bit ws k=false:=by
 unfold nL at h;split at h
 ·cases h
 ·rename_i h0;obtain⟨h1,h2⟩:=kR (.inr (.inr rfl)) hw (bL (imax n 0)).1;have hs:=mg _ 0 h1.2;rw[h]at hs;obtain⟨j,c,g1,g2,g3,g4,g5,g6⟩:=hs;rw[h1.1]at g1
  have hm:∀k,k<1024→bit (ct .andNot ws (br (imax n 0))) k=(bit ws k&& !decide ((k:Int)<imax n 0)):=fun k hk=>by
   rw[h2 k hk,(bL (imax n 0)).2 k hk];rfl
  have hp:bit (ct .andNot ws (br (imax n 0))) (64*j+c)=true:=by
   unfold bit wd;rw[show(64*j+c) / 64=j from by omega,show(64*j+c)%64=c from by omega];exact g4
  have adS:∀k,k<64*j+c→bit (ct .andNot ws (br (imax n 0))) k=false:=fun k hk=>by
   unfold bit wd;by_cases hkj:k / 64=j
   ·rw[hkj];exact g5 _ (by omega)
   ·rw[g6 (k / 64) (by omega)];simp
  have asU:imax n 0=n∧0≤n∨imax n 0=0∧n<0:=by unfold imax;split<;>omega
  have hp2:=hp;rw[hm _ (by omega)]at hp2;simp only[Bool.and_eq_true,Bool.not_eq_true',decide_eq_false_iff_not]at hp2;refine⟨64*j+c,by rw[g3];simp;omega,by omega,hp2.1,by omega,fun k hk hn=> ?_⟩;have:=adS k hk;rw[hm k (by omega)]at this;simp only[Bool.and_eq_false_iff,Bool.not_eq_false',decide_eq_true_eq]at this;rcases this with h|h
  ·exact h
  ·omega
theorem adU{ws:List Int}(hw:okW ws){n:Int}(h:nL ws n=none):∀k:Nat,k<1024→n≤(k:Int)→bit ws k=false:=by
 intro k hk hn;unfold nL at h;have asU:imax n 0=n∧0≤n∨imax n 0=0∧n<0:=by unfold imax;split<;>omega
 split at h
 ·omega
 ·rename_i h0;obtain⟨h1,h2⟩:=kR (.inr (.inr rfl)) hw (bL (imax n 0)).1;have hs:=mg _ 0 h1.2;rw[h]at hs
  have hb:bit (ct .andNot ws (br (imax n 0))) k=false:=by
   unfold bit wd;rw[hs];simp
  rw[h2 k hk,(bL (imax n 0)).2 k hk,decide_eq_false (by omega)]at hb;simpa[opb]using hb
def abW(ws:List Int):Int:=((ws.map fun w=>pc 64 w.toNat).sum:Nat)
theorem aqF{Z:aX}:dr P Z 27 [dw] [bh] (fun(ws,())=>[okW ws]) (fun(ws,())=>(abW ws,())):=by
 refine au Tryd.func27 (by kernel_rfl) (by kernel_rfl) ?_;rintro⟨(ws:List Int),⟨⟩⟩ _ ⟨(hw:okW ws),_⟩ X hX hz;have hT:aqz.Ok P Z:=aE.Ok.cons amp.sum aE.Ok.nil;refine go hz hX hT Tryd.func27 (aqA ws) ?_
 have bound:∀l:List Int,(l.map fun w=>pc 64 w.toNat).sum≤64*l.length:=fun l=>by
  induction l with
  |nil=>simp
  |cons a l ih=>have:=ka 64 a.toNat;simp only[List.map_cons,List.sum_cons,List.length_cons];omega
 refine oh (fun(i:Int)=>c14 ws (((ws.take i.toNat).map fun w=>pc 64 w.toNat).sum:Nat) i) (fun i=>0≤i∧i≤16) (fun i=>(16 - i).toNat) ?_ 0 ⟨by omega,by omega⟩;rintro i ⟨(h0:0≤i),(h1:i≤16)⟩ ih;have hl:=hw.1;have hb:=bound (ws.take i.toNat);rw[List.length_take]at hb;refine go hz hX hT Tryd.func27 (aqB ws _ i) ⟨fun h=> ?_,fun h=> ?_⟩
 ·have hi:i<(16:Int):=of_decide_eq_true h;have hm:=hw.2 (ws.getD i.toNat 0) (by rw[List.getD,List.getElem?_eq_getElem (by omega)];exact List.getElem_mem (by omega));have hp:=ka 64 (ws.getD i.toNat 0).toNat;refine⟨h0,hi,hm,⟨by omega,by omega⟩,⟨by omega,by omega⟩, ?_⟩;have:=ih (i+1) ⟨by omega,by omega⟩ (by omega);rw[show(i+1).toNat=i.toNat+1 from by omega,yj ws i.toNat 0 (by omega)]at this;rw[List.map_append,List.sum_append]at this;simp only[List.map_cons,List.map_nil,List.sum_cons,List.sum_nil,Nat.add_zero]at this;rw[Int.natCast_add]at this;exact this
 ·have hi:¬i<(16:Int):=of_decide_eq_false h;rw[List.take_of_length_le (by omega)];exact aS (abW ws,()) rfl (by kernel_rfl)
theorem yl:∀(n x:Nat),pc n x=((List.range n).filter x.testBit).length
 |0,x=>rfl
 |n+1,x=>by
  rw[pc,yl n (x / 2),List.range_succ_eq_map,List.filter_cons,List.filter_map];have e:(x.testBit∘Nat.succ)=(x / 2).testBit:=by funext i;simp[Nat.testBit_succ]
  rw[e,Nat.testBit_zero];rcases Nat.mod_two_eq_zero_or_one x with h|h
  ·rw[h];simp
  ·rw[h];simp;omega
theorem ams{ws:List Int}(hl:ws.length=16):abW ws=((adT ws).length:Nat):=by
 have:∀j,j≤16→(fr (bit ws) (64*j)).length=((ws.take j).map fun w=>pc 64 w.toNat).sum:=by
  intro j
  induction j with
  |zero=>intro _;rfl
  |succ j ih=>
   intro hj;rw[yj ws j 0 (by omega),List.map_append,List.sum_append,←ih (by omega)];unfold fr;rw[show 64*(j+1)=64*j+64 from by omega,List.range_add,List.filter_append,List.length_append,List.filter_map,List.length_map];simp only[List.map_cons,List.map_nil,List.sum_cons,List.sum_nil,Nat.add_zero];rw[yl];congr 2;apply List.filter_congr;intro i hi;have hi:=List.mem_range.1 hi;simp only[Function.comp,bit,wd];rw[show(64*j+i) / 64=j from by omega,show(64*j+i)%64=i from by omega]
 unfold abW adT;have h:=this 16 (by omega);rw[show 64*16=1024 from rfl]at h;rw[h,List.take_of_length_le (by omega)]
theorem amt{Z:aX}(h34:vd P Z 103 s34):dr P Z 95 [dw,bh] [bh,cX] (fun(ws,_,())=>[okW ws]) (fun(ws,n,())=>(bx ws n,eb ws n,())):=by
 refine au Tryd.func95 (by kernel_rfl) (by kernel_rfl) ?_;rintro⟨(ws:List Int),(n:Int),⟨⟩⟩ _ ⟨(hw:okW ws),_⟩ X hX hz;have hT:aqC.Ok P Z:=aE.Ok.cons nK.sum (aE.Ok.cons tK.sum (aE.Ok.cons h34 aE.Ok.nil));refine go hz hX hT Tryd.func95 (aqD ws n) ⟨fun h=> ?_,fun h=> ?_⟩
 ·have h:imax n 0≥1024:=of_decide_eq_true h;refine aS (0,false,()) ?_ (by kernel_rfl);simp only[bx,eb,nL,if_pos h];rfl
 ·have h:¬imax n 0≥1024:=of_decide_eq_false h;have e:nL ws n=kI (ct .andNot ws (br (imax n 0))) 0:=by unfold nL;rw[if_neg h]
  have hr:=(kR (.inr (.inr rfl)) hw (bL (imax n 0)).1).1;simp only[bx,eb,e];generalize ct BinOp.andNot ws (br (imax n 0))=rest at *;refine oh (fun(i:Int)=>c12 rest i) (fun i=>0≤i∧i≤16∧kI rest 0=kI (rest.drop i.toNat) i) (fun i=>(16 - i).toNat) ?_ 0 ⟨by omega,by omega,rfl⟩;rintro i ⟨(h0:0≤i),(h1:i≤16),h2⟩ ih;have hl:=hr.1;refine go hz hX hT Tryd.func95 (aqE rest i) ⟨fun h=> ?_,fun h=> ?_⟩
  ·have hi:i<(16:Int):=of_decide_eq_true h
   have hd:rest.drop i.toNat=rest.getD i.toNat 0::rest.drop (i.toNat+1):=by
    rw[List.drop_eq_getElem_cons (by omega),List.getD,List.getElem?_eq_getElem (by omega)];rfl
   have hm:=hr.2 (rest.getD i.toNat 0) (by rw[List.getD,List.getElem?_eq_getElem (by omega)];exact List.getElem_mem (by omega));rw[hd,kI]at h2;refine⟨h0,hi,fun h3=> ?_,fun h3=>⟨⟨by omega,by omega⟩,ih (i+1) ⟨by omega,by omega, ?_⟩ (by omega)⟩⟩
   ·have h3:rest.getD i.toNat 0≠0:=by simpa using h3
    rw[if_pos h3]at h2;have hc:=(abV (x:=(rest.getD i.toNat 0).toNat) (by omega) (by omega)).1;refine⟨⟨by omega,by omega⟩,hm,⟨by unfold abU;omega,by unfold abU;omega⟩, ?_⟩;rw[h2];exact aS _ rfl (by kernel_rfl)
   ·have h3:¬rest.getD i.toNat 0≠0:=by simpa using h3
    rw[if_neg h3]at h2;rw[h2,show(i+1).toNat=i.toNat+1 from by omega]
  ·have hi:¬i<(16:Int):=of_decide_eq_false h;rw[List.drop_eq_nil_of_le (by omega)]at h2;rw[h2];exact aS (0,false,()) rfl (by kernel_rfl)
end Bx
namespace Ts
open Go Go.Sx Go.Proofs Lf
abbrev Th:=Ds.Th
abbrev As:=Ds.As
abbrev Ws:=List Int
def eZ(th:Th)(m:As)(n deep:Int):Int:=if deep>16 then 4 else if Ds.gM th m n=0 then rU (Ds.fT th m n)else Ds.gM th m n
def r5(th:Th)(m:As)(n deep:Int):Bool:=decide (deep≤16)&&decide (Ds.gM th m n=0)
def kj(th:Th)(m:As)(n deep:Int):Bool:=r5 th m n deep&&ju (Ds.fT th m n)
def bS(th:Th)(m:As)(n deep:Int):List En:=if r5 th m n deep=true then nH (Ds.fT th m n)else []
def aO(th:Th)(m:As)(n deep:Int):List Br:=if r5 th m n deep=true then mE (Ds.fT th m n)else []
def cW(l:Bool)(es:List En)(bs:List Br):ByteArray:=if l=true then(es.getD 0 dE).1 else(bs.getD 0 dB).1
def aa:List Br→List Br
 |[]=>[]
 |b::r=>(ByteArray.empty,b.2.1,())::r
abbrev Wr:Type:=As×Int×Ws×Ws×Br×Int
def bM(th:Th)(m:As)(fu:Int)(fr fs:Ws)(l:Bool)(es:List En)(bs:List Br):Wr:=
 if Bx.eb fr 0=false then(m,fu,fr,fs,dB,41)
 else if gZ l es (aa bs)≠0 then(m,fu,fr,fs,dB,gZ l es (aa bs))
 else if(Ds.kg th m fu (Bx.bx fr 0) (db l es (aa bs))).2.2≠0 then
  ((Ds.kg th m fu (Bx.bx fr 0) (db l es (aa bs))).1,(Ds.kg th m fu (Bx.bx fr 0) (db l es (aa bs))).2.1,fr,fs,dB,(Ds.kg th m fu (Bx.bx fr 0) (db l es (aa bs))).2.2)
 else((Ds.kg th m fu (Bx.bx fr 0) (db l es (aa bs))).1,(Ds.kg th m fu (Bx.bx fr 0) (db l es (aa bs))).2.1,Bx.cU fr (Bx.bx fr 0),Bx.cT fs (Bx.bx fr 0),(cW l es bs,Bx.bx fr 0,()),0)
abbrev Wrs:Type:=As×Int×Ws×Ws×List Br×Int
def two(a:Wr)(b:Wr):Wrs:=(b.1,b.2.1,b.2.2.1,b.2.2.2.1,[a.2.2.2.2.1,b.2.2.2.2.1],b.2.2.2.2.2)
def bp(th:Th)(m:As)(fu:Int)(fr fs:Ws)(l:Bool)(es:List En)(bs:List Br):Wrs:=
 if es.length+bs.length=0 then(m,fu,fr,fs,[],0)
 else if bk es (aa bs)≤254 then
  let a:=bM th m fu fr fs l es (aa bs)
  (a.1,a.2.1,a.2.2.1,a.2.2.2.1,[a.2.2.2.2.1],a.2.2.2.2.2)
 else if spC l es (aa bs)≠0 then(m,fu,fr,fs,[],spC l es (aa bs))
 else
  let a:=bM th m fu fr fs (bT l es (aa bs)) (ba l es (aa bs)) (bg l es (aa bs))
  if a.2.2.2.2.2≠0 then(a.1,a.2.1,a.2.2.1,a.2.2.2.1,[],a.2.2.2.2.2)
  else two a (bM th a.1 a.2.1 a.2.2.1 a.2.2.2.1 (bT l es (aa bs)) (cQ l es (aa bs)) (cY l es (aa bs)))
def doE(key:ByteArray)(op:Option ByteArray)(l:List En):List En:=match op with
 |some val=>bz l key val
 |none=>if gq l key=true then cD l key else []
def pL(key:ByteArray)(op:Option ByteArray)(l:List En):Int:=match op with
 |some _=>0
 |none=>if gq l key=true then 0 else 5
def jk(fs:Ws)(n:Int):Ws:=if Bx.lN fs n=true then Bx.cU fs n else fs
def pM(fs gn:Ws)(n:Int):Ws:=if Bx.lN fs n=true then Bx.cT gn n else gn
abbrev Chg:Type:=As×Int×Ws×Ws×Ws×List Br×Int
def hP(gn:Ws)(w:Wrs):Chg:=(w.1,w.2.1,w.2.2.1,w.2.2.2.1,gn,w.2.2.2.2.1,w.2.2.2.2.2)
def kT(k:ByteArray):List Br→List Br
 |[]=>[]
 |b::r=>(k,b.2.1,())::r
def vZ(th:Th)(key:ByteArray)(op:Option ByteArray):Nat→As→Int→Ws→Ws→Ws→Int→Int→Chg
 |0,m,fu,fr,fs,gn,_,_=>(m,fu,fr,fs,gn,[],4)
 |f+1,m,fu,fr,fs,gn,n,deep=>
  if eZ th m n deep≠0 then(m,fu,fr,fs,gn,[],eZ th m n deep)
  else if kj th m n deep=true then
   if pL key op (bS th m n deep)≠0 then(m,fu,fr,fs,gn,[],pL key op (bS th m n deep))
   else hP (pM fs gn n) (bp th m fu fr (jk fs n) true (doE key op (bS th m n deep)) (aO th m n deep))
  else if aO th m n deep=[]then(m,fu,fr,fs,gn,[],4)
  else
   let k:=(aT (aO th m n deep) key).toNat;let r:=vZ th key op f m fu fr fs gn ((aO th m n deep).getD k dB).2.1 (deep+1)
   if r.2.2.2.2.2.2≠0 then(r.1,r.2.1,r.2.2.1,r.2.2.2.1,r.2.2.2.2.1,[],r.2.2.2.2.2.2)
   else hP (pM r.2.2.2.1 r.2.2.2.2.1 n) (bp th r.1 r.2.1 r.2.2.1 (jk r.2.2.2.1 n) false (bS th m n deep)
    ((aO th m n deep).take k++kT ((aO th m n deep).getD k dB).1 r.2.2.2.2.2.1++(aO th m n deep).drop (k+1)))
end Ts
namespace Bx
open Go Go.Sx Go.Proofs Go.RowKit
set_option maxHeartbeats 1000000 in
theorem amu(x k idx:Nat)(w:World)(hx0:((x:Int)==0)=false)
 (key:IntKind.u64.wrap (bits BinOp.and IntKind.u64 (x:Int) (IntKind.u64.wrap (-(x:Int)))*285870213051353865) / 288230376151711744=(idx:Int))
 (hi:idx<64) (hk:k<64) (ql:w.cell? ⟨1,idx,none⟩=some (.int .u8 k)):
 Calls Tryd.prog 103 #[.int .u64 x] w fun e w'=>e=.returned (.int .i64 k)∧w'=w:=by
 go_enter Tryd.func103,Tryd.ntmps103
 go_wp2_with (simp only[key])
 go_ret
 exact⟨rfl,rfl⟩
set_option maxHeartbeats 1000000 in
theorem amv(w:World):
 Calls Tryd.prog 103 #[.int .u64 0] w fun e w'=>e=.returned (.int .i64 64)∧w'=w:=by
 go_enter Tryd.func103,Tryd.ntmps103
 go_wp2
 go_ret
 exact⟨rfl,rfl⟩
theorem aqG(w:World)(h:TabAt 1 Lib.deBruijn64tab w):1<w.heap.size:=by
 have h0:=h 0 (by decide);rcases Nat.lt_or_ge 1 w.heap.size with h1|h1
 ·exact h1
 ·simp[World.cell?,Array.getElem?_eq_none h1]at h0
def bV:aX:=⟨[1],TabAt 1 Lib.deBruijn64tab,fun w h b hb=>by rw[List.mem_singleton.1 hb];exact aqG w h,fun w w' h k j hj=>by rw[lW (k 1 (by simp))];exact h j hj⟩
theorem aqH(x:Nat)(hx:x<18446744073709551616)(w:World)(hT:TabAt 1 Lib.deBruijn64tab w):
 Calls Tryd.prog 103 #[.int .u64 x] w fun e w'=>e=.returned (.int .i64 (Lib.ctz 64 x))∧w'=w:=by
 by_cases hx0:x=0
 ·subst hx0;exact amv w
 ·obtain⟨adS,hk⟩:=Lib.lowest_bit 64 x hx0 hx;obtain⟨hi,avg⟩:=Lib.deBruijn64_at _ hk;have ql:=hT _ hi;rw[avg]at ql;exact amu x _ _ w (by simp;omega) (tz64_key x _ hx hx0 adS) hi hk ql
theorem asV:dr P bV 103 [tU] [bh] (fun(x,())=>[(0:Int)≤x∧x<(18446744073709551616:Int)]) (fun(x,())=>(abU x,())):=by
 rintro⟨(x:Int),⟨⟩⟩ _ ⟨(hx:0≤x∧x<18446744073709551616),_⟩ G w vs hG hz hd;obtain⟨n,rfl⟩:=Int.eq_ofNat_of_zero_le hx.1;obtain⟨v,rest,rfl,h1,h2⟩:=ax.1 hd;obtain rfl:=aU.1 h2
 have h3:v=.int .u64 n:=by
  have:=ak (x:=.int .u64 n) (by simp) h1;cases this;rfl
 subst h3;refine(aqH n (by omega) w hz).mono ?_;rintro e w' ⟨rfl,rfl⟩;refine⟨_,rfl,Good.val ⟨fun id o ho=>by simp at ho,fun i j oi oj b hi=>by simp at hi,fun b hb=> ?_,hG⟩ ?_⟩
 ·obtain⟨id,o,ho,_⟩:=hb;cases ho
 ·exact aw (.int .i64 _)
end Bx
namespace Lf
open Go Go.Sx Go.Proofs
abbrev hU:Ty:=.st [.bool,.nA (.ae cE) eE,.nA (.ae cB) eB]
abbrev aok(l:Bool)(r:Int×List En×List Br):AL [hU,bh]:=((decide (r.1=0)&&l,r.2.1,r.2.2,()),r.1,())
abbrev s8(s:ByteArray):AL [hU,bh]:=((ju s,nH s,mE s,()),rU s,())
theorem amw{Z:aX}:dr P Z 57 [dt] [hU,bh] (fun _=>[]) (fun(s,())=>((ju s,nH s,mE s,()),rU s,())):=by
 refine au Tryd.func57 (by kernel_rfl) (by kernel_rfl) ?_;rintro⟨(s0:ByteArray),⟨⟩⟩ _ _ X hX hz;show Safe P 57 X (Ends [hU,bh] (s8 s0)) _;have loop:∀(l:Bool) (n:Nat) (s:ByteArray) (es:List En) (bs:List Br),s.size≤n→es.length+bs.length+s.size≤254→aok l (iC l n s es bs)=s8 s0→
  Safe P 57 X (Ends [hU,bh] (s8 s0)) (asy s l es bs):=by
  intro l n
  induction n with
  |zero=>
   intro s es bs hn hb hy;obtain rfl:=lG (Nat.le_zero.1 hn);refine go hz hX jK Tryd.func57 (afb ByteArray.empty l es bs) ⟨fun h=>absurd h (by simp),fun _=>⟨fun h=> ?_,fun h=> ?_⟩⟩
   ·refine aS ((false,[],[],()),4,()) ?_ (by kernel_rfl);rw[←hy,iC,if_neg (by simpa using h)];rfl
   ·refine aS ((l,es,bs,()),0,()) ?_ (by kernel_rfl);rw[←hy,iC,if_pos (by simpa using h)];rfl
  |succ n ih=>
   intro s es bs hn hb hy;refine go hz hX jK Tryd.func57 (afb s l es bs) ⟨fun h=> ?_,fun h=> ?_⟩
   ·have h:s≠ByteArray.empty:=by simpa using h
    have bad:iC l (n+1) s es bs=(8,[],[])→∀(s':ByteArray) (lu:List En) (o8:List Br),Safe P 57 X (Ends [hU,bh] (s8 s0)) (aji s' l lu o8 false):=fun e s' lu o8=>by
     refine go hz hX jK Tryd.func57 (abE s' l lu o8 false) ⟨fun _=> ?_,fun h=>by cases h⟩;refine aS ((false,[],[],()),8,()) ?_ (by kernel_rfl);rw[←hy,e];rfl
    have cont:∀(s':ByteArray) (lu:List En) (o8:List Br),s'.size≤n→lu.length+o8.length+s'.size≤254→aok l (iC l n s' lu o8)=s8 s0→Safe P 57 X (Ends [hU,bh] (s8 s0)) (aji s' l lu o8 true):=fun s' lu o8 h1 h2 h3=>by
     refine go hz hX jK Tryd.func57 (abE s' l lu o8 true) ⟨fun h=>(by cases h),fun _=>ih s' lu o8 h1 h2 h3⟩
    have hr:=fun hB=>j9 (s:=s) hB;refine⟨rfl,rfl,fun hl=>⟨fun hB=>⟨rfl,rfl,by omega, ?_⟩,fun hB=> ?_⟩,fun hl=>⟨fun hB=>⟨rfl,rfl,by decide,fun h2=> ?_,fun h2=> ?_⟩,fun hB=> ?_⟩⟩
    ·subst hl;have hr:=hr hB;cases h2:w7 (ic s)
     ·exact bad (by rw[iC,if_neg h,if_neg (by simp[hB]),if_pos rfl,if_neg (by simp[h2])]) _ _ _
     ·have:=j9 h2;exact cont _ _ _ (by omega) (by simp only[List.length_append,List.length_cons,List.length_nil];omega) (by rw[←hy,iC,if_neg h,if_neg (by simp[hB]),if_pos rfl,if_pos h2])
    ·exact⟨fun h=>(by rw[hB]at h;cases h),fun _=>by rw[hB];exact bad (by rw[iC,if_neg h,if_pos hB]) _ _ _⟩
    ·subst hl;have hr:=hr hB;have e1:=vM (by decide) h2;have e2:=abF (by decide) h2;have b0:=gY (ki 2 (ic s)) 0;have b1:=gY (ki 2 (ic s)) 1;refine⟨by decide,by omega,⟨by show _≤aW _ 0;omega,by show aW _ 0≤_;omega⟩,by decide,by decide,by omega,⟨by show _≤aW _ 1;omega,by show aW _ 1≤_;omega⟩,by omega, ?_⟩;rw[h2];exact cont _ _ _ (by omega) (by simp only[List.length_append,List.length_cons,List.length_nil];omega) (by rw[←hy,iC,if_neg h,if_neg (by simp[hB]),if_neg (by simp),if_pos h2];rfl)
    ·subst hl;rw[h2];exact bad (by rw[iC,if_neg h,if_neg (by simp[hB]),if_neg (by simp),if_neg (by simp[h2])]) _ _ _
    ·rw[hB];exact bad (by rw[iC,if_neg h,if_pos hB]) _ _ _
   ·have h:s=ByteArray.empty:=by simpa using h
    refine⟨fun h2=> ?_,fun h2=> ?_⟩
    ·refine aS ((false,[],[],()),4,()) ?_ (by kernel_rfl);rw[←hy,iC,if_pos h,if_neg (by simpa using h2)];rfl
    ·refine aS ((l,es,bs,()),0,()) ?_ (by kernel_rfl);rw[←hy,iC,if_pos h,if_pos (by simpa using h2)];rfl
 have first:(s0.size:Int)≤254→s0≠ByteArray.empty→¬(aW s0 0≠1∧aW s0 0≠2)→Safe P 57 X (Ends [hU,bh] (s8 s0)) (aoe s0):=fun h1 h2 h3=>by
  have hp:0<s0.size:=Nat.pos_of_ne_zero fun e=>h2 (lG e);refine go hz hX jK Tryd.func57 (ajj s0) ⟨by omega,by omega,by omega,by omega,by omega, ?_⟩;have e:oJ s0=iC (aW s0 0==1) s0.size (s0.extract 1 s0.size) [] []:=by rw[oJ,if_neg (by omega),if_neg h2,if_neg h3]
  refine loop (aW s0 0==1) s0.size (s0.extract 1 s0.size) [] [] (by rw[dC];omega) (by rw[dC];simp only[List.length_nil];omega) ?_;rw[←e];rfl
 have err:∀(c:Int) (hc:decide (c=0)=false),oJ s0=(c,[],[])→s8 s0=((false,[],[],()),c,()):=fun c hc e=>by
  show((decide ((oJ s0).1=0)&&(aW s0 0==1),(oJ s0).2.1,(oJ s0).2.2,()),(oJ s0).1,())=_;rw[e,hc];rfl
 refine go hz hX jK Tryd.func57 (alP s0) ⟨fun h=>aS ((false,[],[],()),40,()) (err 40 rfl ?_) (by kernel_rfl),fun h=>⟨fun h2=>aS ((false,[],[],()),8,()) (err 8 rfl ?_) (by kernel_rfl),fun h2=> ?_⟩⟩
 ·rw[oJ,if_pos (of_decide_eq_true h)]
 ·rw[oJ,if_neg (of_decide_eq_false h),if_pos (of_decide_eq_true h2)]
 ·have h:=of_decide_eq_false h;have h2:=of_decide_eq_false h2;have hp:0<s0.size:=Nat.pos_of_ne_zero fun e=>h2 (lG e);refine⟨by omega,by omega,fun h3=>⟨by omega,by omega,fun h4=>aS ((false,[],[],()),4,()) (err 4 rfl ?_) (by kernel_rfl),fun h4=>first (by omega) h2 ?_⟩,fun h3=>first (by omega) h2 ?_⟩
  ·have h3:aW s0 0≠1:=by simpa using h3
   have h4:aW s0 0≠2:=by simpa using h4
   rw[oJ,if_neg h,if_neg h2,if_pos ⟨h3,h4⟩]
  ·have h4:aW s0 0=2:=by simpa using h4
   exact fun e=>e.2 h4
  ·have h3:aW s0 0=1:=by simpa using h3
   exact fun e=>e.1 h3
end Lf
namespace Go.Sx
open Go
inductive Wk1:AV→AV→Prop
 |refl (a:AV):Wk1 a a
 |bl (b:Bool):Wk1 (.s (.aA b)) (.s (.bool b))
 |il (k:IntKind) (n:Int):Wk1 (.s (.aV k n)) (.s (.int k n))
 |em (c:aI):c.n=0→Wk1 .emp (.s (.ro c))
inductive WkL:List AV→List AV→Prop
 |nil:WkL [] []
 |cons {a b:AV} {l m:List AV}:Wk1 a b→WkL l m→WkL (a::l) (b::m)
inductive Wk2:AV→AV→Prop
 |one {a b:AV}:Wk1 a b→Wk2 a b
 |agg {l m:List AV}:WkL l m→Wk2 (.agg l) (.agg m)
inductive o9:List AV→List AV→Prop
 |nil:o9 [] []
 |cons {a b:AV} {l m:List AV}:Wk2 a b→o9 l m→o9 (a::l) (b::m)
inductive Wk:AV→AV→Prop
 |two {a b:AV}:Wk2 a b→Wk a b
 |bo {l m:List AV}:o9 l m→Wk (.bo l) (.bo m)
section
variable{ρ:Nat→Value}{H:aJ}{O:Nat→Prop}{w:World}
theorem Wk1.den{a b:AV}(h:Wk1 a b){v:Value}(hd:ab ρ H O w a v):ab ρ H O w b v:=by
 cases h with
 |refl=>exact hd
 |bl b=>
  have:=ak (by simp) hd;cases this;exact aw (.bool _)
 |il k n=>
  have:=ak (by simp) hd;cases this;exact aw (.int _ _)
 |em c hc=>
  unfold ab at hd;obtain⟨a,rfl⟩:=hd;exact aw (tD hc a)
theorem Wk1.adp{a b:AV}(h:Wk1 a b){cs:List Value}(hd:aK ρ H O w a cs):aK ρ H O w b cs:=by
 cases h with
 |refl=>exact hd
 |bl b=>
  unfold aK at hd ⊢;obtain⟨u,rfl,h⟩:=hd;cases h;exact⟨_,rfl,.bool _⟩
 |il k n=>
  unfold aK at hd ⊢;obtain⟨u,rfl,h⟩:=hd;cases h;exact⟨_,rfl,.int _ _⟩
 |em c hc=>
  unfold aK at hd ⊢;obtain⟨u,rfl,a,rfl⟩:=hd;exact⟨_,rfl,tD hc a⟩
theorem WkL.den{l m:List AV}(h:WkL l m):∀{cs:List Value},ao ρ H O w l cs→ao ρ H O w m cs:=by
 induction h with
 |nil=>exact fun hd=>hd
 |cons h1 _ ih=>
  intro cs hd;unfold ao at hd ⊢;obtain⟨c1,c2,e,g1,g2⟩:=hd;exact⟨c1,c2,e,h1.adp g1,ih g2⟩
theorem Wk2.den{a b:AV}(h:Wk2 a b){v:Value}(hd:ab ρ H O w a v):ab ρ H O w b v:=by
 cases h with
 |one h=>exact h.den hd
 |agg h=>
  unfold ab at hd ⊢;obtain⟨cs,e,g⟩:=hd;exact⟨cs,e,h.den g⟩
theorem o9.den{l m:List AV}(h:o9 l m):∀{vs:List Value},bE ρ H O w l vs→bE ρ H O w m vs:=by
 induction h with
 |nil=>exact fun hd=>hd
 |cons h1 _ ih=>
  intro vs hd;obtain⟨v,rest,e,g1,g2⟩:=ax.1 hd;exact ax.2 ⟨v,rest,e,h1.den g1,ih g2⟩
theorem Wk.den{a b:AV}(h:Wk a b){v:Value}(hd:ab ρ H O w a v):ab ρ H O w b v:=by
 cases h with
 |two h=>exact h.den hd
 |bo h=>
  unfold ab at hd ⊢;obtain⟨us,e,g⟩:=hd;exact⟨us,e,h.den g⟩
end
theorem aqI{X:Type}{S:Spec X}{x:X}{L:List ad}{r:AV}{o o':AV}{h:List ad}(m:Nat)(e:Norm.run ⟨[],[0],m,[]⟩ ⟨[r],L,[],{}⟩=some ⟨[o],h,[],{}⟩)(hm:(S.heap x).length≤m)(hw:Wk o o')(ho:S.out x=o')(hh:S.fH x=h):apU S x L r:=
 ⟨⟨[],[0],m,[]⟩,o,hm,by rw[hh];exact e,fun ρ H O w v hd=>by rw[ho];exact hw.den hd⟩
end Go.Sx
namespace Ts
open Go Go.Sx Go.Proofs Lf
noncomputable abbrev P:Program:=Tryd.prog
abbrev eT:TypeId:=70
abbrev obT(i:Nat)(root:Int)(fr fs gn:Ws):ad:=.own [.ptr i 0,.s (.int .i64 root),.ints .u64 16 fr,.ints .u64 16 fs,.ints .u64 16 gn] eT
abbrev hT(th:Th)(m:As)(fu root:Int)(fr fs gn:Ws):List ad:=[obT 1 root fr fs gn,Ds.obD 2 3 fu,.vec (.ae Ds.cS th) Ds.eS,.map Ds.kS m]
abbrev bD(n:Int):AV:=.s (.int .i64 n)
abbrev asW:=cI Ds.sGR Ds.mRd
abbrev asX:=cI Ds.sGW Ds.mWr
abbrev aqJ:=ve [dt] [hU,bh] (fun _=>[]) (fun(s,())=>((ju s,nH s,mE s,()),rU s,()))
def aol:aE:=[(56,asW),(57,aqJ)]
theorem avh(th:Th)(m:As)(fu root:Int)(fr fs gn:Ws)(n deep:Int):run P aol.sum Tryd.f37 [] (start Tryd.f37 [.ptr 0 0,bD n,bD deep] (hT th m fu root fr fs gn))=
 Tree.ite (decide (deep>16)) (.ret [.own [.ptr 1 0,.s (.int .i64 root),.ints .u64 16 fr,.ints .u64 16 fs,.ints .u64 16 gn] 70,.own [.vec 2,.ag 3,.s (.int .i64 fu)] 96,.vec (.ae [.arr .u8 64] th) 138,.map (.arr .u8 64) m,.own [.s (.aA false),.emp,.emp] 73] (.bo [.agg [.s (.aA false),.emp,.emp],.s (.aV .i64 4)])) (.need (bt (some [AV.ptr 0 0,.s (.int .i64 n)])) (.need (bt (some [ad.own [.vec 1,.ag 2,.s (.int .i64 fu)] 96,.vec (.ae [.arr .u8 64] th) 138,.map (.arr .u8 64) m])) (.need (Ds.bH th m fu) (.need (aF n) (.ite (Ds.gM th m n !=0) (.ret [.own [.ptr 1 0,.s (.int .i64 root),.ints .u64 16 fr,.ints .u64 16 fs,.ints .u64 16 gn] 70,.own [.vec 2,.ag 3,.s (.int .i64 fu)] 96,.vec (.ae [.arr .u8 64] th) 138,.map (.arr .u8 64) m,.own [.s (.aA false),.emp,.emp] 73] (.bo [.agg [.s (.aA false),.emp,.emp],.s (.int .i64 (Ds.gM th m n))])) (.ret [.own [.ptr 1 0,.s (.int .i64 root),.ints .u64 16 fr,.ints .u64 16 fs,.ints .u64 16 gn] 70,.own [.vec 2,.ag 3,.s (.int .i64 fu)] 96,.vec (.ae [.arr .u8 64] th) 138,.map (.arr .u8 64) m,.own [.s (.bool (ju (Ds.fT th m n))),.s (.ro (.ae [.str,.str] (nH (Ds.fT th m n)))),.s (.ro (.ae [.str,.int .i64] (mE (Ds.fT th m n))))] 73] (.bo [.agg [.s (.bool (ju (Ds.fT th m n))),.s (.ro (.ae [.str,.str] (nH (Ds.fT th m n)))),.s (.ro (.ae [.str,.int .i64] (mE (Ds.fT th m n))))],.s (.int .i64 (rU (Ds.fT th m n)))]))))))):=by kernel_rfl
abbrev XT:Type:=Th×As×Int×Int×Ws×Ws×Ws
abbrev sNo:Spec (XT×Int×Int):=⟨fun(_,n,deep)=>[.ptr 0 0,bD n,bD deep],fun((th,m,fu,root,fr,fs,gn),_,_)=>hT th m fu root fr fs gn,fun((th,m,fu,_),n,_)=>[Ds.bH th m fu,aF n],fun((th,m,fu,root,fr,fs,gn),_,_)=>hT th m fu root fr fs gn,
 fun((th,m,_),n,deep)=>.bo [.agg [.s (.bool (kj th m n deep)),.s (.ro (.ae cE (bS th m n deep))),.s (.ro (.ae cB (aO th m n deep)))],bD (eZ th m n deep)]⟩
theorem ajK{Z:aX}:aol.Ok P Z:=aE.Ok.cons (Ds.asp.sum Ds.mRd) (aE.Ok.cons amw.ve aE.Ok.nil)
theorem adV{l l':AV}{es bs lu o8:AV}{e e':AV}(h1:Wk1 l l')(h2:Wk1 es lu)(h3:Wk1 bs o8)(h4:Wk1 e e'):Wk (.bo [.agg [l,es,bs],e]) (.bo [.agg [l',lu,o8],e']):=
 .bo (.cons (.agg (.cons h1 (.cons h2 (.cons h3 .nil)))) (.cons (.one h4) .nil))
theorem ow{Z:aX}:ib P Z 37 sNo:=by
 refine zJ Tryd.func37 (by kernel_rfl) (fun x=>Nat.le_of_ble_eq_true (by kernel_rfl)) ?_;rintro⟨⟨(th:Th),(m:As),(fu:Int),(root:Int),(fr:Ws),(fs:Ws),(gn:Ws)⟩,(n:Int),(deep:Int)⟩ ⟨(hd:Ds.bH th m fu),(hn:aF n),_⟩ X hX hz;refine Ds.ew hz hX (by intro y hy;cases hy) ajK Tryd.func37 (avh th m fu root fr fs gn n deep) ⟨fun h=> ?_,fun h=>⟨rfl,rfl,hd,hn,fun h2=> ?_,fun h2=> ?_⟩⟩
 ·have h:=of_decide_eq_true h;have e0:r5 th m n deep=false:=by unfold r5;rw[decide_eq_false (by omega),Bool.false_and]
  refine aqI 4 (by kernel_rfl) (Nat.le_refl _) (adV (.refl (.s (.bool false))) (.em (.ae cE []) rfl) (.em (.ae cB []) rfl) (.refl (.s (.int .i64 4)))) ?_ rfl;show AV.bo [.agg [.s (.bool (kj th m n deep)),.s (.ro (.ae cE (bS th m n deep))),.s (.ro (.ae cB (aO th m n deep)))],bD (eZ th m n deep)]=_;unfold kj bS aO eZ;rw[e0,if_pos h];rfl
 ·have h:=of_decide_eq_false h;have h2:Ds.gM th m n≠0:=by simpa using h2
  have e0:r5 th m n deep=false:=by unfold r5;rw[decide_eq_false h2,Bool.and_false]
  refine aqI 4 (by kernel_rfl) (Nat.le_refl _) (adV (.refl (.s (.bool false))) (.em (.ae cE []) rfl) (.em (.ae cB []) rfl) (.refl (bD (Ds.gM th m n)))) ?_ rfl;show AV.bo [.agg [.s (.bool (kj th m n deep)),.s (.ro (.ae cE (bS th m n deep))),.s (.ro (.ae cB (aO th m n deep)))],bD (eZ th m n deep)]=_;unfold kj bS aO eZ;rw[e0,if_neg h,if_neg h2];rfl
 ·have h:=of_decide_eq_false h;have h2:Ds.gM th m n=0:=by simpa using h2
  have e0:r5 th m n deep=true:=by unfold r5;rw[decide_eq_true h2,decide_eq_true (by omega)];rfl
  refine aqI 4 (by kernel_rfl) (Nat.le_refl _) (adV (.refl (.s (.bool (ju (Ds.fT th m n))))) (.refl (.s (.ro (.ae cE (nH (Ds.fT th m n)))))) (.refl (.s (.ro (.ae cB (mE (Ds.fT th m n)))))) (.refl (bD (rU (Ds.fT th m n))))) ?_ rfl;show AV.bo [.agg [.s (.bool (kj th m n deep)),.s (.ro (.ae cE (bS th m n deep))),.s (.ro (.ae cB (aO th m n deep)))],bD (eZ th m n deep)]=_;unfold kj bS aO eZ;rw[e0,if_neg h,if_pos h2];rfl
end Ts
namespace Ts
open Go Go.Sx Go.Proofs Lf
abbrev ajL:=bZ [Bx.dw,Bx.bh] [Bx.cX] (fun _=>[]) (fun(ws,n,())=>(Bx.lN ws n,()))
abbrev ym:=bZ [Bx.dw,Bx.bh] [Bx.dw] (fun _=>[]) (fun(ws,n,())=>(Bx.cT ws n,()))
abbrev aom:=bZ [Bx.dw,Bx.bh] [Bx.dw] (fun _=>[]) (fun(ws,n,())=>(Bx.cU ws n,()))
def aon:aE:=[(35,ajL),(43,ym),(98,aom)]
theorem avi(th:Th)(m:As)(fu root:Int)(fr fs gn:Ws)(n:Int):run P aon.sum Tryd.f85 [] (start Tryd.f85 [.ptr 0 0,bD n] (hT th m fu root fr fs gn))=
 Tree.ite (Bx.lN fs n) (.ret [.own [.ptr 1 0,.s (.int .i64 root),.ints .u64 16 fr,.ints .u64 16 (Bx.cU fs n),.ints .u64 16 (Bx.cT gn n)] 70,.own [.vec 2,.ag 3,.s (.int .i64 fu)] 96,.vec (.ae [.arr .u8 64] th) 138,.map (.arr .u8 64) m] (.bo [])) (.ret [.own [.ptr 1 0,.s (.int .i64 root),.ints .u64 16 fr,.ints .u64 16 fs,.ints .u64 16 gn] 70,.own [.vec 2,.ag 3,.s (.int .i64 fu)] 96,.vec (.ae [.arr .u8 64] th) 138,.map (.arr .u8 64) m] (.bo [])):=by kernel_rfl
abbrev sLv:Spec (XT×Int):=⟨fun(_,n)=>[.ptr 0 0,bD n],fun((th,m,fu,root,fr,fs,gn),_)=>hT th m fu root fr fs gn,fun _=>[],fun((th,m,fu,root,fr,fs,gn),n)=>hT th m fu root fr (jk fs n) (pM fs gn n),fun _=>.bo []⟩
theorem ajM{Z:aX}:aon.Ok P Z:=aE.Ok.cons Bx.vS.sum (aE.Ok.cons Bx.ou.sum (aE.Ok.cons Bx.vT.sum aE.Ok.nil))
theorem v7{Z:aX}:ib P Z 85 sLv:=by
 refine aC Tryd.func85 (by kernel_rfl) (fun x=>Nat.le_of_ble_eq_true (by kernel_rfl)) ?_;rintro⟨⟨(th:Th),(m:As),(fu:Int),(root:Int),(fr:Ws),(fs:Ws),(gn:Ws)⟩,(n:Int)⟩ _ X hX hz;refine Ds.ew hz hX (by intro y hy;cases hy) ajM Tryd.func85 (avi th m fu root fr fs gn n) ⟨fun h=> ?_,fun h=> ?_⟩
 ·have e1:jk fs n=Bx.cU fs n:=if_pos h;have e2:pM fs gn n=Bx.cT gn n:=if_pos h;exact bQ (h:=hT th m fu root fr (Bx.cU fs n) (Bx.cT gn n)) 4 rfl (Nat.le_refl _) rfl (by show hT th m fu root fr (jk fs n) (pM fs gn n)=_;rw[e1,e2])
 ·have e1:jk fs n=fs:=if_neg (by rw[h];simp);have e2:pM fs gn n=gn:=if_neg (by rw[h];simp);exact bQ (h:=hT th m fu root fr fs gn) 4 rfl (Nat.le_refl _) rfl (by show hT th m fu root fr (jk fs n) (pM fs gn n)=_;rw[e1,e2])
end Ts
namespace Ts
open Go Go.Sx Go.Proofs Lf
theorem avj(l:Bool)(es:List En)(bs:List Br):run P (aE.sum []) Tryd.f94 [] (start Tryd.f94 [avN l es bs] [])=
 Tree.ite l (.need ((0:Int)≤0) (.need ((0:Int)<(↑es.length:Int)) (.ret [.own [.s (.bool l),.s (.ro (.ae [.str,.str] es)),.s (.ro (.ae [.str,.int .i64] bs))] 73] (.s (.str (es.getD 0 (CL.d [.str,.str])).fst))))) (.need ((0:Int)≤0) (.need ((0:Int)<(↑bs.length:Int)) (.ret [.own [.s (.bool l),.s (.ro (.ae [.str,.str] es)),.s (.ro (.ae [.str,.int .i64] bs))] 73] (.s (.str (bs.getD 0 (CL.d [.str,.int .i64])).fst))))):=by kernel_rfl
abbrev awr:=bZ [eK] [dt] (fun((l,es,bs,()),())=>[((l:Bool)=true→0<(es:List En).length)∧(l=false→0<(bs:List Br).length)]) (fun((l,es,bs,()),())=>(cW l es bs,()))
theorem ajN{Z:aX}:dr P Z 94 [eK] [dt] (fun((l,es,bs,()),())=>[((l:Bool)=true→0<(es:List En).length)∧(l=false→0<(bs:List Br).length)]) (fun((l,es,bs,()),())=>(cW l es bs,())):=by
 refine au Tryd.func94 (by kernel_rfl) (by kernel_rfl) ?_;rintro⟨⟨(l:Bool),(es:List En),(bs:List Br),⟨⟩⟩,⟨⟩⟩ _ ⟨⟨h1,h2⟩,_⟩ X hX hz;refine Lf.go hz hX aE.Ok.nil Tryd.func94 (avj l es bs) ⟨fun h=>⟨by omega,Int.ofNat_lt.2 (h1 h), ?_⟩,fun h=>⟨by omega,Int.ofNat_lt.2 (h2 h), ?_⟩⟩
 ·show Ends [dt] (cW l es bs,()) _ _;unfold cW;rw[if_pos h];exact aiN
 ·show Ends [dt] (cW l es bs,()) _ _;unfold cW;rw[if_neg (by rw[h];simp)];exact aiN
end Ts
namespace Ts
open Go Go.Sx Go.Proofs Lf
abbrev w9:List CK:=[.rows cB]
abbrev eBs:TypeId:=71
abbrev Rows:Type:=List (List Br×Unit)
abbrev asY:Ty:=.b (.row (.ae w9) eBs)
abbrev rwB(x:CL w9):List Br:=x.1
def nsJ:List (Nat×Norm):=[(3,⟨[(3,.ae cB [],eB)],[3,6,7,8],0,[]⟩)]
noncomputable def cJ(ls:List (CL w9))(acc:List Br)(i:Int):bA:=⟨sl 17 [(3,.vec 0),(6,.s (.ro (.ae w9 ls))),(7,bD (ls.length:Int)),(8,bD i)],[.vec (.ae cB acc) eB],hd Tryd.f92 3,{}⟩
theorem trJ(ls:List (CL w9)):run P (aE.sum []) Tryd.f92 nsJ (start Tryd.f92 [.s (.ro (.ae w9 ls))] [])=
 Tree.at (.mk (sl 17 [(3,.vec 0),(6,.s (.ro (.ae w9 ls))),(7,.s (.int .i64 (↑ls.length:Int))),(8,.s (.int .i64 0))]) [.vec (.ae [.str,.int .i64] []) 79] (hd Tryd.f92 3) (.mk none false 0 [] 0)):=by kernel_rfl
theorem aoo(ls:List (CL w9))(acc:List Br)(i:Int):run P (aE.sum []) Tryd.f92 nsJ (cJ ls acc i)=
 Tree.ite (decide (i<(↑ls.length:Int))) (.need ((0:Int)≤i) (.need (i<(↑ls.length:Int)) (.need ((acc.length+(rwB (el ls i)).length)*(24:Nat)≤140737488355328) (.need (aF (i+1)) (.at (.mk (sl 17 [(3,.vec 0),(6,.s (.ro (.ae w9 ls))),(7,.s (.int .i64 (↑ls.length:Int))),(8,.s (.int .i64 (i+1)))]) [.vec (.ae [.str,.int .i64] (acc++rwB (el ls i))) 79] (hd Tryd.f92 3) (.mk none false 0 [] 0))))))) (.ret [.vec (.ae [.str,.int .i64] acc) 79] (.vec 0)):=by kernel_rfl
def b8(ls:List (CL w9)):List Br:=ls.flatMap fun x=>rwB x
abbrev sJ:=bZ [asY] [w5] (fun(ls,())=>[(ls:List (CL w9)).length≤100,(b8 ls).length≤100000]) (fun(ls,())=>(b8 ls,()))
def aop:aE:=[(92,sJ)]
theorem avk(l:Bool)(es:List En)(bs:List Br):run P aop.sum Tryd.f81 [] (start Tryd.f81 [avN l es bs] [])=
 Tree.ite (decide ((↑bs.length:Int)>0)) (.need ((0:Int)≤0) (.need ((0:Int)<(↑bs.length:Int)) (.need ((0:Int)≤1) (.need ((1:Int)≤(↑bs.length:Int)) (.need ((↑bs.length:Int)≤(↑bs.length:Int)) (.need ([([(ByteArray.empty,(bs.getD 0 (CL.d [.str,.int .i64])).snd.fst,())],()),(List.drop (Int.toNat 1) (List.take (↑bs.length:Int).toNat bs),())].length≤100) (.need ((b8 [([(ByteArray.empty,(bs.getD 0 (CL.d [.str,.int .i64])).snd.fst,())],()),(List.drop (Int.toNat 1) (List.take (↑bs.length:Int).toNat bs),())]).length≤100000) (.ret [.own [.s (.bool l),.s (.ro (.ae [.str,.str] es)),.vec 4] 73,.own [.s (.bool l),.s (.ro (.ae [.str,.str] es)),.vec 4] 73,.dead,.vec (.ae w9 [([(ByteArray.empty,(bs.getD 0 (CL.d [.str,.int .i64])).snd.fst,())],()),(List.drop (Int.toNat 1) (List.take (↑bs.length:Int).toNat bs),())]) 71,.vec (.ae [.str,.int .i64] (b8 [([(ByteArray.empty,(bs.getD 0 (CL.d [.str,.int .i64])).snd.fst,())],()),(List.drop (Int.toNat 1) (List.take (↑bs.length:Int).toNat bs),())])) 79] (.agg [.s (.bool l),.s (.ro (.ae [.str,.str] es)),.vec 4]))))))))) (.ret [.own [.s (.bool l),.s (.ro (.ae [.str,.str] es)),.s (.ro (.ae [.str,.int .i64] bs))] 73,.own [.s (.bool l),.s (.ro (.ae [.str,.str] es)),.s (.ro (.ae [.str,.int .i64] bs))] 73] (.agg [.s (.bool l),.s (.ro (.ae [.str,.str] es)),.s (.ro (.ae [.str,.int .i64] bs))])):=by kernel_rfl
theorem adW{ls:List (CL w9)}(k:Nat)(h:k<ls.length):b8 (ls.take (k+1))=b8 (ls.take k)++rwB (ls.getD k (CL.d w9)):=by
 rw[←lI (d:=CL.d w9) h];simp[b8]
theorem ajO{ls:List (CL w9)}(k:Nat):(b8 (ls.take k)).length≤(b8 ls).length:=by
 have e:b8 ls=b8 (ls.take k)++b8 (ls.drop k):=by
  unfold b8;exact(congrArg (List.flatMap fun x=>rwB x) (List.take_append_drop k ls).symm).trans List.flatMap_append
 rw[e,List.length_append];omega
theorem r6{Z:aX}:dr P Z 92 [asY] [w5] (fun(ls,())=>[(ls:List (CL w9)).length≤100,(b8 ls).length≤100000]) (fun(ls,())=>(b8 ls,())):=by
 refine au Tryd.func92 (by kernel_rfl) (by kernel_rfl) ?_;rintro⟨(ls:List (CL w9)),⟨⟩⟩ _ ⟨(hl:ls.length≤100),(hj:(b8 ls).length≤100000),_⟩ X hX hz
 have first:∀(n k:Nat),k+n=ls.length→Safe P 92 X (Ends [w5] (b8 ls,())) (cJ ls (b8 (ls.take k)) (k:Int)):=by
  intro n
  induction n with
  |zero=>
   intro k hk;refine Lf.go hz hX aE.Ok.nil Tryd.func92 (aoo ls _ k) ⟨fun h=>absurd (of_decide_eq_true h) (by omega),fun h=> ?_⟩;rw[List.take_of_length_le (by omega)];exact aS (b8 ls,()) rfl (by kernel_rfl)
  |succ n ih=>
   intro k hk;have e:=adW (ls:=ls) k (by omega);have l1:=ajO (ls:=ls) (k+1);rw[e,List.length_append]at l1;refine Lf.go hz hX aE.Ok.nil Tryd.func92 (aoo ls _ k) ⟨fun h=>⟨by omega,by omega, ?_,⟨by omega,by omega⟩, ?_⟩,fun h=>absurd (of_decide_eq_false h) (by omega)⟩
   ·show((b8 (ls.take k)).length+(rwB (ls.getD k (CL.d w9))).length)*24≤140737488355328;omega
   ·have:=ih (k+1) (by omega);rw[e]at this;exact this
 exact Lf.go hz hX aE.Ok.nil Tryd.func92 (trJ ls) (first ls.length 0 (by omega))
theorem ajP{Z:aX}:aop.Ok P Z:=aE.Ok.cons r6.sum aE.Ok.nil
theorem afo{Z:aX}:dr P Z 81 [eK] [hU] (fun((_,_,bs,()),())=>[(bs:List Br).length≤1000]) (fun((l,es,bs,()),())=>((l,es,aa bs,()),())):=by
 refine au Tryd.func81 (by kernel_rfl) (by kernel_rfl) ?_;rintro⟨⟨(l:Bool),(es:List En),(bs:List Br),⟨⟩⟩,⟨⟩⟩ _ ⟨(hl:bs.length≤1000),_⟩ X hX hz;show Safe P 81 X (Ends [hU] ((l,es,aa bs,()),())) _;refine Lf.go hz hX ajP Tryd.func81 (avk l es bs) ⟨fun h=> ?_,fun h=> ?_⟩
 ·have h:=of_decide_eq_true h
  obtain⟨b,r,rfl⟩:∃b r,bs=b::r:=by
   cases bs with
   |nil=>simp at h
   |cons b r=>exact⟨b,r,rfl⟩
  simp only[List.length_cons]at h hl
  have e:b8 [([(ByteArray.empty,((b::r).getD (0:Nat) (CL.d [CK.str,CK.int IntKind.i64])).snd.fst,())],()),(List.drop (Int.toNat (1:Int)) (List.take (↑(b::r).length:Int).toNat (b::r)),())]=aa (b::r):=by
   show [(ByteArray.empty,b.2.1,())]++(List.drop 1 (List.take (r.length+1) (b::r))++[])=(ByteArray.empty,b.2.1,())::r;rw[List.take_of_length_le (by simp)];simp
  refine⟨by omega,by simp only[List.length_cons];omega,by omega,by simp only[List.length_cons];omega,by simp only[List.length_cons];omega,by show 2≤100;decide, ?_, ?_⟩
  ·refine Nat.le_trans (Nat.le_of_eq (congrArg List.length e)) ?_;show r.length+1≤100000;omega
  ·exact aS (rs:=[hU]) ((l,es,b8 [([(ByteArray.empty,((b::r).getD (0:Nat) (CL.d [CK.str,CK.int IntKind.i64])).snd.fst,())],()),(List.drop (Int.toNat (1:Int)) (List.take (↑(b::r).length:Int).toNat (b::r)),())],()),()) (by rw[e]) (by kernel_rfl)
 ·have h:=of_decide_eq_false h;obtain rfl:bs=[]:=List.eq_nil_of_length_eq_zero (by omega);exact aS (rs:=[hU]) ((l,es,[],()),()) rfl (by kernel_rfl)
end Ts
namespace Lf
open Go Go.Sx Go.Proofs
theorem oz{es:List En}{k:Nat}:okE es k=true↔(1≤(es.getD k dE).1.size∧(es.getD k dE).1.size≤24∧(es.getD k dE).2.1.size≤100∧(0<k→slt (es.getD (k - 1) dE).1 (es.getD k dE).1=true)):=by
 simp only[okE,Bool.not_eq_true',Bool.or_eq_false_iff,Bool.and_eq_false_iff,decide_eq_false_iff_not,Bool.not_eq_false'];constructor
 ·rintro⟨⟨⟨h1,h2⟩,h3⟩,h4⟩;exact⟨Nat.pos_of_ne_zero fun e=>h1 (lG e),by omega,by omega,fun h=>h4.resolve_left (fun g=>g h)⟩
 ·rintro⟨h1,h2,h3,h4⟩;exact⟨⟨⟨fun e=>(by rw[e]at h1;simp at h1),by omega⟩,by omega⟩,(Decidable.em (0<k)).elim (fun h=>.inr (h4 h)) .inl⟩
theorem qQ{bs:List Br}{k:Nat}:okB bs k=true↔((bs.getD k dB).1.size≤24∧2≤(bs.getD k dB).2.1∧(bs.getD k dB).2.1≤1023∧(0<k→slt (bs.getD (k - 1) dB).1 (bs.getD k dB).1=true)):=by
 simp only[okB,Bool.not_eq_true',Bool.or_eq_false_iff,Bool.and_eq_false_iff,decide_eq_false_iff_not,Bool.not_eq_false'];constructor
 ·rintro⟨⟨⟨h1,h2⟩,h3⟩,h4⟩;exact⟨by omega,by omega,by omega,fun h=>h4.resolve_left (fun g=>g h)⟩
 ·rintro⟨h1,h2,h3,h4⟩;exact⟨⟨⟨by omega,by omega⟩,by omega⟩,(Decidable.em (0<k)).elim (fun h=>.inr (h4 h)) .inl⟩
theorem ahf(l:Bool)(es:List En)(bs:List Br):ajk l es bs l es bs=true:=by simp[ajk,asw,asx]
theorem qR{l:Bool}{es:List En}{bs:List Br}(h:da l es bs=true):im (bB es)∧im (mr bs):=by
 simp only[da,Bool.and_eq_true]at h;exact⟨asv h.1.2,ap6 h.2⟩
theorem aqK{l:List En}{key val:ByteArray}(h:l.length≤200):(bz l key val).length≤201:=by rw[zZ];split<;>omega
theorem mh{α:Type}{l:List α}{k i:Nat}{d:α}(h:i<k):(l.take k).getD i d=l.getD i d:=by simp[List.getD,List.getElem?_take,h]
theorem kb{α:Type}{l:List α}{k i:Nat}{d:α}:(l.drop k).getD i d=l.getD (k+i) d:=by simp[List.getD,List.getElem?_drop]
theorem yn{es:List En}(h:jE es=true)(k:Nat):jE (es.take k)=true:=cV.2 fun i hi=>by
 rw[List.length_take]at hi;have:=oz.1 (cV.1 h i (by omega));rw[oz,mh (by omega),mh (by omega)];exact this
theorem yo{es:List Br}(h:gm es=true)(k:Nat):gm (es.take k)=true:=cV.2 fun i hi=>by
 rw[List.length_take]at hi;have:=qQ.1 (cV.1 h i (by omega));rw[qQ,mh (by omega),mh (by omega)];exact this
theorem yp{es:List En}(h:jE es=true)(k:Nat):jE (es.drop k)=true:=cV.2 fun i hi=>by
 rw[List.length_drop]at hi;obtain⟨h1,h2,h3,h4⟩:=oz.1 (cV.1 h (k+i) (by omega));rw[oz,kb,kb];exact⟨h1,h2,h3,fun h0=>by have:=h4 (by omega);rw[show k+i - 1=k+(i - 1)from by omega]at this;exact this⟩
theorem yq{es:List Br}(h:gm es=true)(k:Nat):gm (es.drop k)=true:=cV.2 fun i hi=>by
 rw[List.length_drop]at hi;obtain⟨h1,h2,h3,h4⟩:=qQ.1 (cV.1 h (k+i) (by omega));rw[qQ,kb,kb];exact⟨h1,h2,h3,fun h0=>by have:=h4 (by omega);rw[show k+i - 1=k+(i - 1)from by omega]at this;exact this⟩
theorem tM{l:Bool}{es:List En}{bs:List Br}(m1:l=true→bs=[])(m2:l=false→es=[])(m3:jE es=true)(m4:gm bs=true):da l es bs=true:=by
 simp only[da,m3,m4,Bool.and_true];cases l
 ·rw[m2 rfl];rfl
 ·rw[m1 rfl];rfl
theorem abX{l:Bool}{es:List En}{bs:List Br}(h:da l es bs=true)(k:Nat):da l (es.take k) (bs.take k)=true:=by
 obtain⟨m1,m2,m3,m4⟩:=dN h;exact tM (fun e=>by rw[m1 e,List.take_nil]) (fun e=>by rw[m2 e,List.take_nil]) (yn m3 k) (yo m4 k)
theorem abY{l:Bool}{es:List En}{bs:List Br}(h:da l es bs=true)(k:Nat):da l (es.drop k) (bs.drop k)=true:=by
 obtain⟨m1,m2,m3,m4⟩:=dN h;exact tM (fun e=>by rw[m1 e,List.drop_nil]) (fun e=>by rw[m2 e,List.drop_nil]) (yp m3 k) (yq m4 k)
theorem tN:∀{l:List Int} {m:Int},(∀x∈l,m≤x)→m*l.length≤l.sum
 |[],m,_=>by simp
 |a::r,m,h=>by
  have h1:=tN (l:=r) (m:=m) fun x hx=>h x (List.mem_cons_of_mem _ hx);have h2:=h a List.mem_cons_self;rw[List.sum_cons,List.length_cons];have:m*((r.length+1:Nat):Int)=m*(r.length:Int)+m:=by rw[Int.natCast_add,Int.mul_add];simp
  omega
theorem amx(es:List En)(bs:List Br):∀x∈aH es bs,2≤x:=fun x hx=>by
 simp only[aH,List.mem_append,List.mem_map]at hx;rcases hx with⟨e,_,rfl⟩|⟨b,_,rfl⟩
 ·simp only[oX];omega
 ·simp only[pJ];omega
theorem ajQ{zs:List Int}(h:∀x∈zs,2≤x){k:Nat}(h1:0<k)(h2:k<zs.length):2≤(zs.take k).sum∧(zs.take k).sum+2≤zs.sum:=by
 have a1:=tN (l:=zs.take k) (m:=2) fun x hx=>h x (List.mem_of_mem_take hx);have a2:=tN (l:=zs.drop k) (m:=2) fun x hx=>h x (List.mem_of_mem_drop hx);rw[abO]at a2;rw[List.length_take]at a1;rw[List.length_drop]at a2;omega
theorem v8(zs:List Int):∀k,0<k→(hC zs k).2=jv zs (hC zs k).1
 |0,h=>absurd h (by omega)
 |k+1,_=>by
  rw[hC];split
  ·rfl
  ·rename_i h;have hk:0<k:=Nat.pos_of_ne_zero fun e=>h (.inl (by rw[e];rfl));exact v8 zs k hk
theorem qS(zs:List Int):∀k j,0<j→j≤k→(hC zs k).2≤jv zs j
 |0,j,h,h2=>absurd h (by omega)
 |k+1,j,h,h2=>by
  rw[hC];split
  ·rename_i hc;by_cases e:j=k+1
   ·rw[e];exact Int.le_refl _
   ·have:=qS zs k j h (by omega);rcases hc with hc|hc
    ·have:=nJ zs k (by omega);omega
    ·show jv zs (k+1)≤_;omega
  ·rename_i hc;by_cases e:j=k+1
   ·rw[e];have:¬jv zs (k+1)<(hC zs k).2:=fun h=>hc (.inr h);omega
   ·exact qS zs k j h (by omega)
theorem pN{p:Nat→Int}{c:Int}:∀n:Nat,p 0<c→c≤p n→∃k,k<n∧p k<c∧c≤p (k+1)
 |0,h1,h2=>absurd h2 (by omega)
 |n+1,h1,h2=>by
  by_cases h:c≤p n
  ·obtain⟨k,a,b,d⟩:=pN n h1 h;exact⟨k,by omega,b,d⟩
  ·exact⟨n,by omega,by omega,h2⟩
theorem ahg{zs:List Int}(h2:∀x∈zs,2≤x∧x≤126)(hs:253<zs.sum)(hs2:zs.sum≤379):2≤zs.length∧jv zs (hC zs (zs.length - 1)).1≤253:=by
 have hb:=(oo (l:=zs) (m:=126) (fun x hx=>⟨by have:=(h2 x hx).1;omega,(h2 x hx).2⟩) (by omega)).2;have hl:2≤zs.length:=by omega
 refine⟨hl, ?_⟩;obtain⟨k,hk,k1,k2⟩:=pN (p:=fun k=>(zs.take k).sum) (c:=zs.sum - 253) zs.length (by simp;omega) (by simp only[List.take_length];omega);have k1:(zs.take k).sum<zs.sum - 253:=k1;have k2:zs.sum - 253≤(zs.take (k+1)).sum:=k2;have k3:=iN hk;have k4:zs.getD k 0≤126:=by rw[bm hk];exact(h2 _ (List.getElem_mem _)).2
 have k5:k+1<zs.length:=by
  rcases Nat.lt_or_ge (k+1) zs.length with h|h
  ·exact h
  ·rw[List.take_of_length_le h]at k3;omega
 have m:=qS zs (zs.length - 1) (k+1) (by omega) (by omega);rw[v8 _ _ (by omega)]at m;refine Int.le_trans m ?_;unfold jv imax;split<;>omega
theorem ajR(l:List En)(key val:ByteArray):((bz l key val).map oX).sum≤(l.map oX).sum+oX (key,val,()):=by
 have adS:∀l:List En,0≤(l.map oX).sum:=fun l=>by
  have:=tN (l:=l.map oX) (m:=0) fun x hx=>by
   obtain⟨e,_,rfl⟩:=List.mem_map.1 hx;simp only[oX];omega
  omega
 have hd:∀(p q:Nat),p≤q→((l.drop q).map oX).sum≤((l.drop p).map oX).sum:=fun p q h=>by
  have e:l.drop p=(l.drop p).take (q - p)++l.drop q:=by
   have:=List.take_append_drop (q - p) (l.drop p);rw[List.drop_drop,show p+(q - p)=q from by omega]at this;exact this.symm
  rw[e,List.map_append,List.sum_append];have:=adS ((l.drop p).take (q - p));omega
 have h1:(l.map oX).sum=((l.take (cu (bB l) key)).map oX).sum+((l.drop (cu (bB l) key)).map oX).sum:=by
  rw[←List.sum_append,←List.map_append,List.take_append_drop]
 have h2:=hd (cu (bB l) key) (if jj (bB l) key=true then cu (bB l) key+1 else cu (bB l) key) (by split<;>omega);rw[bz,List.map_append,List.sum_append,List.map_cons,List.sum_cons];omega
theorem amy(l:List En)(key val:ByteArray):(key,val,())∈bz l key val:=by
 rw[bz];exact List.mem_append_right _ List.mem_cons_self
theorem r7{l:Bool}{es:List En}{bs:List Br}(h:dD l es bs=true)(he:bc es)(hb:bd bs):
 bc (ba l es bs)∧bd (bg l es bs)∧bc (cQ l es bs)∧bd (cY l es bs)∧ajk (bT l es bs) ([]++ba l es bs++cQ l es bs) ([]++bg l es bs++cY l es bs) l es bs=true∧
 da (bT l es bs) (ba l es bs) (bg l es bs)=true∧da (bT l es bs) (cQ l es bs) (cY l es bs)=true∧
 bk (ba l es bs) (bg l es bs)<bk es bs∧bk (cQ l es bs) (cY l es bs)<bk es bs∧bk (ba l es bs) (bg l es bs)+bk (cQ l es bs) (cY l es bs)=bk es bs+1∧
 imax (bk (ba l es bs) (bg l es bs)) (bk (cQ l es bs) (cY l es bs))=1+jv (aH es bs) (dQ es bs):=by
 have h':=h;simp only[dD,Bool.and_eq_true,decide_eq_true_eq]at h';obtain⟨hm,h2⟩:=h';obtain⟨m1,m2,_,_⟩:=dN hm;obtain⟨_,_,_,_,c5,c6⟩:=ag3 m1 m2 (dQ es bs);have b1:=nJ (aH es bs) (es.length+bs.length - 1) (by omega);have b2:=oq (aH es bs) (es.length+bs.length - 1);have p:=ajQ (amx es bs) (k:=dQ es bs) b1 (by rw[vP];rw[dQ];omega);have bK:=nE es bs;simp only[ba,cQ,bg,cY,bT,h,if_true,Bool.true_and];refine⟨abK he _,abL hb _,abM he _,abN hb _, ?_,abX hm _,abY hm _,by omega,by omega,by omega, ?_⟩
 ·rw[List.nil_append,List.nil_append,List.take_append_drop,List.take_append_drop];exact ahf _ _ _
 ·rw[c5,c6,ajp];rfl
theorem aqL{l:Bool}{es:List En}{bs:List Br}(h:(spC l es bs==0)=true):dD l es bs=true:=by
 unfold spC at h;split at h
 ·assumption
 ·exact absurd h (by decide)
theorem adX{l:List En}{key val:ByteArray}(h:l.length≤200)(hm:da true (bz l key val) []=true):bc (bz l key val):=by
 obtain⟨_,_,m3,_⟩:=dN hm;exact⟨Nat.le_trans (aqK h) (by omega),fun x hx=>by have:=adK m3 hx;omega⟩
theorem ahh{es:List En}{key val:ByteArray}(hl:es.length≤200)(hs:bk es []≤254)(hm:da true (bz es key val) []=true)(hn:¬bk (bz es key val) []≤254):
 dD true (bz es key val) []=true∧bk (ba true (bz es key val) []) (bg true (bz es key val) [])≤254∧bk (cQ true (bz es key val) []) (cY true (bz es key val) [])≤254:=by
 obtain⟨_,_,m3,_⟩:=dN hm;have e0:∀l:List En,aH l []=l.map oX:=fun l=>by simp[aH]
 have e1:=nE es [];have e2:=nE (bz es key val) [];rw[e0]at e1 e2;have k1:=ajR es key val;have k2:=adK m3 (amy es key val);have k3:oX (key,val,())≤126:=by simp only[oX];simp only[]at k2;omega
 have hz:∀x∈(bz es key val).map oX,2≤x∧x≤126:=fun x hx=>by
  obtain⟨y,hy,rfl⟩:=List.mem_map.1 hx;have:=adK m3 hy;simp only[oX];omega
 obtain⟨b1,b2⟩:=ahg hz (by omega) (by omega);rw[List.length_map]at b1 b2
 have ok:dD true (bz es key val) []=true:=by
  simp only[dD,hm,Bool.true_and,decide_eq_true_eq,List.length_nil];omega
 obtain⟨_,_,_,_,_,_,_,_,_,_,f⟩:=r7 ok (adX hl hm) vQ;rw[e0]at f;have f2:jv ((bz es key val).map oX) (dQ (bz es key val) [])≤253:=by rw[dQ,e0,List.length_nil,Nat.add_zero];exact b2
 unfold imax at f;refine⟨ok, ?_, ?_⟩<;>split at f<;>omega
end Lf
namespace Ds
open Go Go.Sx Go.Proofs Lf
theorem afp{th:Th}{n:Int}{ws:List Int}(hp:tl th n=true)(hw:ws.length=256):∀(j k:Nat) (m:As) (f:Int),k+j=4→bH th m f→
 (((zK th n ws j k m f).2.2=0∧∀i:Nat,k≤i→i<4→oI th (zK th n ws j k m f).1 (n*4+(i:Int))=gX ws i)∨((zK th n ws j k m f).2.2=42∧(zK th n ws j k m f).2.1=0))∧
   ∀x,(∀i:Nat,k≤i→i<4→x≠n*4+(i:Int))→oI th (zK th n ws j k m f).1 x=oI th m x
 |0,k,m,f,hk,hd=>⟨.inl ⟨rfl,fun i h1 h2=>by omega⟩,fun x _=>rfl⟩
 |j+1,k,m,f,hk,hd=>by
  have dd:=zM hp (show k<4 by omega);have hs:=x8 hw (show k<4 by omega);have hd':=abp (n:=n*4+(k:Int)) (s:=gX ws k) hd;have hr:=fun x=>anZ (n:=n*4+(k:Int)) (x:=x) (s:=gX ws k) hd;unfold zK;by_cases hf:f=0
  ·have he:ri th f (n*4+(k:Int)) (gX ws k)=42:=by unfold ri;rw[if_pos dd,if_pos hs,if_pos hf]
   rw[if_neg (by rw[he];decide)];refine⟨.inr ⟨he, ?_⟩,fun x hx=> ?_⟩
   ·show wZ th f (n*4+(k:Int)) (gX ws k)=0;unfold wZ vt;rw[if_pos ⟨dd,hs⟩,if_pos hf]
   ·show oI th (xZ th m f (n*4+(k:Int)) (gX ws k)) x=_;rw[hr,if_neg];rintro⟨h,_⟩;rw[he]at h;cases h
  ·have he:ri th f (n*4+(k:Int)) (gX ws k)=0:=vw.2 ⟨dd,hs,hf⟩;rw[if_pos he];obtain⟨h1,h3⟩:=afp hp hw j (k+1) _ _ (by omega) hd';refine⟨h1.elim (fun hh=>.inl ⟨hh.1,fun i hi hi4=> ?_⟩) .inr,fun x hx=> ?_⟩
   ·by_cases e:i=k
    ·subst e;rw[h3 _ (fun i' a b=>by omega),hr,if_pos ⟨he,rfl⟩]
    ·exact hh.2 i (by omega) hi4
   ·rw[h3 x (fun i a b=>hx i (by omega) b),hr,if_neg (fun h=>hx k (Nat.le_refl _) (by omega) h.2)]
theorem aqM{th:Th}{m:As}{fu n:Int}{s:ByteArray}(hd:bH th m fu)(hp:tl th n=true)(hs:s.size≤254):
 (((kg th m fu n s).2.2=0∧gM th (kg th m fu n s).1 n=0∧fT th (kg th m fu n s).1 n=s)∨((kg th m fu n s).2.2=42∧(kg th m fu n s).2.1=0))∧
   (fu= -1→(kg th m fu n s).2.1= -1)∧
   ∀p,p≠n→gM th (kg th m fu n s).1 p=gM th m p∧fT th (kg th m fu n s).1 p=fT th m p:=by
 have hl:=aeZ hs;obtain⟨h1,h3⟩:=afp hp hl 4 0 m fu rfl hd;have ec:gwC th n s=0:=by unfold gwC;rw[if_pos hp,if_neg (by omega)]
 unfold kg;rw[ec,if_pos rfl];refine⟨h1.imp (fun⟨a,h2⟩=> ?_) id,fun e=>by subst e;rw[(ai1 hp hl 4 0 m rfl hd).1],fun p hpn=>ai2 rfl fun i hi=>(h3 _ fun i' _ eR=>by omega).symm⟩
 have e:pgA th (zK th n (x7 s) 4 0 m fu).1 n=x7 s:=by
  show pgL _ _ _ 4=_;simp only[pgL,List.nil_append];rw[h2 0 (by omega) (by omega),h2 1 (by omega) (by omega),h2 2 (by omega) (by omega),h2 3 (by omega) (by omega)];exact ai3 hl (fun x hx=>aiU x hx hs)
 exact⟨a,ap1 hp hs e⟩
end Ds
namespace Ts
open Go Go.Sx Go.Proofs Lf
def In(ws:Ws)(k:Int):Prop:=Bx.lN ws k=true
instance (ws:Ws) (k:Int):Decidable (In ws k):=inferInstanceAs (Decidable (_=true))
theorem dU{ws:Ws}(hw:Bx.okW ws){k:Int}:In ws k↔(0≤k∧k<1024)∧Bx.bit ws k.toNat=true:=by
 unfold In;rw[Bx.afn hw,Bool.and_eq_true,decide_eq_true_eq]
theorem nM{ws:Ws}(hw:Bx.okW ws){k:Int}(h:In ws k):0≤k∧k<1024:=((dU hw).1 h).1
theorem oC{ws:Ws}(hw:Bx.okW ws){n:Int}(hn:0≤n∧n<1024){k:Int}:In (Bx.cT ws n) k↔In ws k∨k=n:=by
 obtain⟨h1,h2⟩:=Bx.gb hw n;rw[dU h1,dU hw];constructor
 ·rintro⟨a,b⟩;rw[h2 k.toNat (by omega),Bool.or_eq_true,decide_eq_true_eq]at b;rcases b with b|b
  ·exact .inl ⟨a,b⟩
  ·right;omega
 ·rintro(⟨a,b⟩|rfl)
  ·exact⟨a,by rw[h2 _ (by omega),b];rfl⟩
  ·refine⟨hn, ?_⟩;rw[h2 _ (by omega),Bool.or_eq_true,decide_eq_true_eq];right;omega
theorem pO{ws:Ws}(hw:Bx.okW ws){n k:Int}:In (Bx.cU ws n) k↔In ws k∧k≠n:=by
 obtain⟨h1,h2⟩:=Bx.kH hw n;rw[dU h1,dU hw];constructor
 ·rintro⟨a,b⟩;rw[h2 k.toNat (by omega),Bool.and_eq_true,Bool.not_eq_true',decide_eq_false_iff_not]at b;exact⟨⟨a,b.1⟩,by omega⟩
 ·rintro⟨⟨a,b⟩,c⟩;refine⟨a, ?_⟩;rw[h2 _ (by omega),Bool.and_eq_true,Bool.not_eq_true',decide_eq_false_iff_not];exact⟨b,by omega⟩
theorem adY{op:BinOp}(wI:op=.or∨op=.and∨op=.andNot){a b:Ws}(ha:Bx.okW a)(hb:Bx.okW b){k:Int}:
 In (Bx.ct op a b) k↔(0≤k∧k<1024)∧Bx.opb op (Bx.bit a k.toNat) (Bx.bit b k.toNat)=true:=by
 obtain⟨h1,h2⟩:=Bx.kR wI ha hb;rw[dU h1];constructor
 ·rintro⟨c,d⟩;rw[h2 _ (by omega)]at d;exact⟨c,d⟩
 ·rintro⟨c,d⟩;exact⟨c,by rw[h2 _ (by omega)];exact d⟩
theorem aoq{a b:Ws}(ha:Bx.okW a)(hb:Bx.okW b){k:Int}:In (Bx.ct .or a b) k↔In a k∨In b k:=by
 rw[adY (.inl rfl) ha hb,dU ha,dU hb];simp only[Bx.opb,Bool.or_eq_true];exact⟨fun⟨c,d⟩=>d.imp (fun x=>⟨c,x⟩) (fun x=>⟨c,x⟩),fun h=>h.elim (fun x=>⟨x.1,.inl x.2⟩) (fun x=>⟨x.1,.inr x.2⟩)⟩
theorem aqN{a b:Ws}(ha:Bx.okW a)(hb:Bx.okW b){k:Int}:In (Bx.ct .and a b) k↔In a k∧In b k:=by
 rw[adY (.inr (.inl rfl)) ha hb,dU ha,dU hb];simp only[Bx.opb,Bool.and_eq_true];exact⟨fun⟨c,d⟩=>⟨⟨c,d.1⟩,c,d.2⟩,fun⟨x,y⟩=>⟨x.1,x.2,y.2⟩⟩
theorem afq{a b:Ws}(ha:Bx.okW a)(hb:Bx.okW b){k:Int}:In (Bx.ct .andNot a b) k↔In a k∧¬In b k:=by
 rw[adY (.inr (.inr rfl)) ha hb,dU ha,dU hb];simp only[Bx.opb,Bool.and_eq_true,Bool.not_eq_true'];constructor
 ·rintro⟨c,d,e⟩;exact⟨⟨c,d⟩,fun h=>by rw[h.2]at e;cases e⟩
 ·rintro⟨⟨c,d⟩,e⟩;refine⟨c,d, ?_⟩;cases hh:Bx.bit b k.toNat
  ·rfl
  ·exact absurd ⟨c,hh⟩ e
theorem lP{n k:Int}:In (Bx.br n) k↔(0≤k∧k<1024)∧k<n:=by
 obtain⟨h1,h2⟩:=Bx.bL n;rw[dU h1];constructor
 ·rintro⟨c,d⟩;rw[h2 _ (by omega),decide_eq_true_eq]at d;exact⟨c,by omega⟩
 ·rintro⟨c,d⟩;exact⟨c,by rw[h2 _ (by omega),decide_eq_true_eq];omega⟩
theorem fK{k:Int}:¬In Bx.ah k:=fun h=>by
 have:=((dU Bx.eX.1).1 h).2;rw[Bx.eX.2]at this;cases this
theorem adZ{a b:Ws}(ha:Bx.okW a)(hb:Bx.okW b)(h:∀k,In a k↔In b k):a=b:=Bx.amr ha hb fun k hk=>by
 have h1:=h (k:Int);rw[dU ha,dU hb,Int.toNat_natCast]at h1;have hr:(0:Int)≤(k:Int)∧(k:Int)<1024:=⟨by omega,by omega⟩;have h2:Bx.bit a k=true↔Bx.bit b k=true:=⟨fun h=>(h1.1 ⟨hr,h⟩).2,fun h=>(h1.2 ⟨hr,h⟩).2⟩;cases e1:Bx.bit a k<;>cases e2:Bx.bit b k<;>simp[e1,e2]at h2 ⊢
theorem abZ{ws:Ws}(hw:Bx.okW ws)(h:Bx.eb ws 0=true):In ws (Bx.bx ws 0):=by
 unfold Bx.eb at h;obtain⟨v,hv⟩:=Option.isSome_iff_exists.1 h;obtain⟨p,rfl,hp,hb,_,_⟩:=Bx.vY hw hv;have e:Bx.bx ws 0=(p:Int):=by unfold Bx.bx;rw[hv];rfl
 rw[e,dU hw];exact⟨⟨by omega,by omega⟩,by rw[Int.toNat_natCast];exact hb⟩
theorem ajS{ws:Ws}(hw:Bx.okW ws)(h:Bx.eb ws 0=true){q:Int}(hq:In ws q):Bx.bx ws 0≤q:=by
 unfold Bx.eb at h;obtain⟨v,hv⟩:=Option.isSome_iff_exists.1 h;obtain⟨p,rfl,hp,hb,_,apC⟩:=Bx.vY hw hv;have e:Bx.bx ws 0=(p:Int):=by unfold Bx.bx;rw[hv];rfl
 rw[e];obtain⟨hr,hq⟩:=(dU hw).1 hq;refine Int.not_lt.1 fun a8=> ?_;rw[apC q.toNat (by omega) (by omega)]at hq;cases hq
theorem amz{ws:Ws}(hw:Bx.okW ws)(h:Bx.eb ws 0=false)(k:Int):¬In ws k:=by
 unfold Bx.eb at h
 have hv:Bx.nL ws 0=none:=by
  cases e:Bx.nL ws 0 with
  |none=>rfl
  |some v=>rw[e]at h;cases h
 intro hk;obtain⟨hr,hb⟩:=(dU hw).1 hk;rw[Bx.adU hw hv k.toNat (by omega) (by omega)]at hb;cases hb
structure Rd (th:Th) (m:As) (p:Int) (l:Bool) (es:List En) (bs:List Br):Prop where
 e:Ds.gM th m p=0
 c:rU (Ds.fT th m p)=0
 l:ju (Ds.fT th m p)=l
 es:nH (Ds.fT th m p)=es
 bs:mE (Ds.fT th m p)=bs
theorem Rd.same{th:Th}{m m':As}{p:Int}{l:Bool}{es:List En}{bs:List Br}(h:Rd th m p l es bs)(h1:Ds.gM th m' p=Ds.gM th m p∧Ds.fT th m' p=Ds.fT th m p):Rd th m' p l es bs:=by
 obtain⟨a,b,c,d,e⟩:=h;exact⟨by rw[h1.1];exact a,by rw[h1.2];exact b,by rw[h1.2];exact c,by rw[h1.2];exact d,by rw[h1.2];exact e⟩
theorem Rd.nd{th:Th}{m:As}{p:Int}{l:Bool}{es:List En}{bs:List Br}(h:Rd th m p l es bs){deep:Int}(hd:deep≤16):eZ th m p deep=0∧kj th m p deep=l∧bS th m p deep=es∧aO th m p deep=bs:=by
 have e0:r5 th m p deep=true:=by unfold r5;rw[decide_eq_true hd,decide_eq_true h.e];rfl
 refine⟨?_, ?_, ?_, ?_⟩
 ·unfold eZ;rw[if_neg (by omega),if_pos h.e];exact h.c
 ·unfold kj;rw[e0,Bool.true_and];exact h.l
 ·unfold bS;rw[if_pos e0];exact h.es
 ·unfold aO;rw[if_pos e0];exact h.bs
end Ts
namespace Ts
open Go Go.Sx Go.Proofs Lf
abbrev asZ:=bZ [eK] [dt] (fun((l,es,bs,()),())=>[((l:Bool)=true→0<(es:List En).length)∧(l=false→0<(bs:List Br).length)]) (fun((l,es,bs,()),())=>(cW l es bs,()))
abbrev aor:=ve [eK] [hU] (fun((_,_,bs,()),())=>[(bs:List Br).length≤1000]) (fun((l,es,bs,()),())=>((l,es,aa bs,()),()))
abbrev avl:=bZ [Bx.dw,Bx.bh] [Bx.bh,Bx.cX] (fun(ws,_,())=>[Bx.okW ws]) (fun(ws,n,())=>(Bx.bx ws n,Bx.eb ws n,()))
abbrev as0:=bZ [eK] [dt,bh] (fun((_,es,bs,()),())=>[bc es,bd bs]) (fun((l,es,bs,()),())=>(db l es bs,gZ l es bs,()))
def aos:aE:=[(94,asZ),(81,aor),(95,avl),(96,as0),(97,asX),(98,aom),(43,ym)]
theorem avm(th:Th)(m:As)(fu root:Int)(fr fs gn:Ws)(l:Bool)(es:List En)(bs:List Br):run P aos.sum Tryd.f83 [] (start Tryd.f83 [.ptr 0 0,avN l es bs] (hT th m fu root fr fs gn))=
 Tree.need ((l=true→(0:Nat)<es.length)∧(l=false→(0:Nat)<bs.length))
 (.need (bs.length≤1000)
   (.need (Bx.okW fr)
     (.ite (!Bx.eb fr 0) (.ret [.own [.ptr 1 0,.s (.int .i64 root),.ints .u64 16 fr,.ints .u64 16 fs,.ints .u64 16 gn] 70,.own [.vec 2,.ag 3,.s (.int .i64 fu)] 96,.vec (.ae [.arr .u8 64] th) 138,.map (.arr .u8 64) m,.own [.s (.bool l),.s (.ro (.ae [.str,.str] es)),.s (.ro (.ae [.str,.int .i64] (aa bs)))] 73,.own [.s (.str ByteArray.empty),.s (.aV .i64 0)] 79] (.bo [.agg [.s (.str ByteArray.empty),.s (.aV .i64 0)],.s (.aV .i64 41)]))
       (.need (bc es) (.need (bd (aa bs)) (.ite (gZ l es (aa bs) !=0) (.ret [.own [.ptr 1 0,.s (.int .i64 root),.ints .u64 16 fr,.ints .u64 16 fs,.ints .u64 16 gn] 70,.own [.vec 2,.ag 3,.s (.int .i64 fu)] 96,.vec (.ae [.arr .u8 64] th) 138,.map (.arr .u8 64) m,.own [.s (.bool l),.s (.ro (.ae [.str,.str] es)),.s (.ro (.ae [.str,.int .i64] (aa bs)))] 73,.own [.s (.str ByteArray.empty),.s (.aV .i64 0)] 79] (.bo [.agg [.s (.str ByteArray.empty),.s (.aV .i64 0)],.s (.int .i64 (gZ l es (aa bs)))])) (.need (bt (some [AV.ptr 0 0,.s (.int .i64 (Bx.bx fr 0)),.s (.str (db l es (aa bs)))])) (.need (bt (some [ad.own [.vec 1,.ag 2,.s (.int .i64 fu)] 96,.vec (.ae [.arr .u8 64] th) 138,.map (.arr .u8 64) m])) (.need (Ds.bH th m fu) (.need (aF (Bx.bx fr 0)) (.ite ((Ds.kg th m fu (Bx.bx fr 0) (db l es (aa bs))).snd.snd !=0) (.ret [.own [.ptr 1 0,.s (.int .i64 root),.ints .u64 16 fr,.ints .u64 16 fs,.ints .u64 16 gn] 70,.own [.vec 2,.ag 3,.s (.int .i64 (Ds.kg th m fu (Bx.bx fr 0) (db l es (aa bs))).snd.fst)] 96,.vec (.ae [.arr .u8 64] th) 138,.map (.arr .u8 64) (Ds.kg th m fu (Bx.bx fr 0) (db l es (aa bs))).fst,.own [.s (.bool l),.s (.ro (.ae [.str,.str] es)),.s (.ro (.ae [.str,.int .i64] (aa bs)))] 73,.own [.s (.str ByteArray.empty),.s (.aV .i64 0)] 79] (.bo [.agg [.s (.str ByteArray.empty),.s (.aV .i64 0)],.s (.int .i64 (Ds.kg th m fu (Bx.bx fr 0) (db l es (aa bs))).snd.snd)])) (.ret [.own [.ptr 1 0,.s (.int .i64 root),.ints .u64 16 (Bx.cU fr (Bx.bx fr 0)),.ints .u64 16 (Bx.cT fs (Bx.bx fr 0)),.ints .u64 16 gn] 70,.own [.vec 2,.ag 3,.s (.int .i64 (Ds.kg th m fu (Bx.bx fr 0) (db l es (aa bs))).snd.fst)] 96,.vec (.ae [.arr .u8 64] th) 138,.map (.arr .u8 64) (Ds.kg th m fu (Bx.bx fr 0) (db l es (aa bs))).fst,.own [.s (.bool l),.s (.ro (.ae [.str,.str] es)),.s (.ro (.ae [.str,.int .i64] (aa bs)))] 73,.own [.s (.str (cW l es bs)),.s (.int .i64 (Bx.bx fr 0))] 79] (.bo [.agg [.s (.str (cW l es bs)),.s (.int .i64 (Bx.bx fr 0))],.s (.aV .i64 0)]))))))))))))):=by kernel_rfl
abbrev as1:Spec (XT×Bool×List En×List Br):=⟨fun(_,l,es,bs)=>[.ptr 0 0,avN l es bs],fun((th,m,fu,root,fr,fs,gn),_)=>hT th m fu root fr fs gn,
 fun((th,m,fu,_,fr,_,_),l,es,bs)=>[Ds.bH th m fu,Bx.okW fr,((l:Bool)=true→0<(es:List En).length)∧(l=false→0<(bs:List Br).length),bc es,bd bs],
 fun((th,m,fu,root,fr,fs,gn),l,es,bs)=>hT th (bM th m fu fr fs l es bs).1 (bM th m fu fr fs l es bs).2.1 root (bM th m fu fr fs l es bs).2.2.1 (bM th m fu fr fs l es bs).2.2.2.1 gn,
 fun((th,m,fu,_,fr,fs,_),l,es,bs)=>.bo [.agg [.s (.str (bM th m fu fr fs l es bs).2.2.2.2.1.1),bD (bM th m fu fr fs l es bs).2.2.2.2.1.2.1],bD (bM th m fu fr fs l es bs).2.2.2.2.2]⟩
theorem s9{bs:List Br}(h:bd bs):bd (aa bs):=by
 cases bs with
 |nil=>exact h
 |cons b r=>
  refine⟨h.1,fun x hx=> ?_⟩;rcases List.mem_cons.1 hx with rfl|hx
  ·exact Nat.zero_le _
  ·exact h.2 x (List.mem_cons_of_mem _ hx)
theorem wa{ws:Ws}(hw:Bx.okW ws)(h:Bx.eb ws 0=true):0≤Bx.bx ws 0∧Bx.bx ws 0<1024:=nM hw (abZ hw h)
theorem ajT:aos.Ok P Bx.bV:=aE.Ok.cons ajN.sum (aE.Ok.cons afo.ve (aE.Ok.cons (Bx.amt Bx.asV.sum).sum (aE.Ok.cons ag1.sum (aE.Ok.cons (Ds.asq.sum Ds.mWr) (aE.Ok.cons Bx.vT.sum (aE.Ok.cons Bx.ou.sum aE.Ok.nil))))))
theorem vv:ib P Bx.bV 83 as1:=by
 refine aC Tryd.func83 (by kernel_rfl) (fun x=>Nat.le_of_ble_eq_true (by kernel_rfl)) ?_;rintro⟨⟨(th:Th),(m:As),(fu:Int),(root:Int),(fr:Ws),(fs:Ws),(gn:Ws)⟩,(l:Bool),(es:List En),(bs:List Br)⟩ ⟨(hd:Ds.bH th m fu),(hf:Bx.okW fr),(cv:((l:Bool)=true→0<(es:List En).length)∧(l=false→0<(bs:List Br).length)),(he:bc es),(hb:bd bs),_⟩ X hX hz;refine Ds.ew hz hX (by intro y hy;cases hy) ajT Tryd.func83 (avm th m fu root fr fs gn l es bs) ⟨cv,hb.1,hf,fun h=> ?_,fun h=>⟨he,s9 hb,fun h2=> ?_,fun h2=>⟨rfl,rfl,hd, ?_,fun h3=> ?_,fun h3=> ?_⟩⟩⟩
 ·have h:Bx.eb fr 0=false:=by simpa using h
  have e:bM th m fu fr fs l es bs=(m,fu,fr,fs,dB,41):=by unfold bM;rw[if_pos h]
  refine bQ (h:=hT th m fu root fr fs gn) 4 rfl (Nat.le_refl _) ?_ ?_
  ·show AV.bo [.agg [.s (.str (bM th m fu fr fs l es bs).2.2.2.2.1.1),bD (bM th m fu fr fs l es bs).2.2.2.2.1.2.1],bD (bM th m fu fr fs l es bs).2.2.2.2.2]=_;rw[e];rfl
  ·show hT th (bM th m fu fr fs l es bs).1 (bM th m fu fr fs l es bs).2.1 root (bM th m fu fr fs l es bs).2.2.1 (bM th m fu fr fs l es bs).2.2.2.1 gn=_;rw[e]
 ·have h:¬Bx.eb fr 0=false:=by simpa using h
  have h2:gZ l es (aa bs)≠0:=by simpa using h2
  have e:bM th m fu fr fs l es bs=(m,fu,fr,fs,dB,gZ l es (aa bs)):=by unfold bM;rw[if_neg h,if_pos h2]
  refine bQ (h:=hT th m fu root fr fs gn) 4 rfl (Nat.le_refl _) ?_ ?_
  ·show AV.bo [.agg [.s (.str (bM th m fu fr fs l es bs).2.2.2.2.1.1),bD (bM th m fu fr fs l es bs).2.2.2.2.1.2.1],bD (bM th m fu fr fs l es bs).2.2.2.2.2]=_;rw[e];rfl
  ·show hT th (bM th m fu fr fs l es bs).1 (bM th m fu fr fs l es bs).2.1 root (bM th m fu fr fs l es bs).2.2.1 (bM th m fu fr fs l es bs).2.2.2.1 gn=_;rw[e]
 ·have h:Bx.eb fr 0=true:=by simpa using h
  have:=wa hf h;exact⟨by omega,by omega⟩
 ·have h:¬Bx.eb fr 0=false:=by simpa using h
  have h2:¬gZ l es (aa bs)≠0:=by simpa using h2
  have h3:(Ds.kg th m fu (Bx.bx fr 0) (db l es (aa bs))).2.2≠0:=by simpa using h3
  have e:bM th m fu fr fs l es bs=((Ds.kg th m fu (Bx.bx fr 0) (db l es (aa bs))).1,(Ds.kg th m fu (Bx.bx fr 0) (db l es (aa bs))).2.1,fr,fs,dB,(Ds.kg th m fu (Bx.bx fr 0) (db l es (aa bs))).2.2):=by unfold bM;rw[if_neg h,if_neg h2,if_pos h3]
  refine bQ (h:=hT th (Ds.kg th m fu (Bx.bx fr 0) (db l es (aa bs))).1 (Ds.kg th m fu (Bx.bx fr 0) (db l es (aa bs))).2.1 root fr fs gn) 4 rfl (Nat.le_refl _) ?_ ?_
  ·show AV.bo [.agg [.s (.str (bM th m fu fr fs l es bs).2.2.2.2.1.1),bD (bM th m fu fr fs l es bs).2.2.2.2.1.2.1],bD (bM th m fu fr fs l es bs).2.2.2.2.2]=_;rw[e];rfl
  ·show hT th (bM th m fu fr fs l es bs).1 (bM th m fu fr fs l es bs).2.1 root (bM th m fu fr fs l es bs).2.2.1 (bM th m fu fr fs l es bs).2.2.2.1 gn=_;rw[e]
 ·have h:¬Bx.eb fr 0=false:=by simpa using h
  have h2:¬gZ l es (aa bs)≠0:=by simpa using h2
  have h3:¬(Ds.kg th m fu (Bx.bx fr 0) (db l es (aa bs))).2.2≠0:=by simpa using h3
  have e:bM th m fu fr fs l es bs=((Ds.kg th m fu (Bx.bx fr 0) (db l es (aa bs))).1,(Ds.kg th m fu (Bx.bx fr 0) (db l es (aa bs))).2.1,Bx.cU fr (Bx.bx fr 0),Bx.cT fs (Bx.bx fr 0),(cW l es bs,Bx.bx fr 0,()),0):=by unfold bM;rw[if_neg h,if_neg h2,if_neg h3]
  refine bQ (h:=hT th (Ds.kg th m fu (Bx.bx fr 0) (db l es (aa bs))).1 (Ds.kg th m fu (Bx.bx fr 0) (db l es (aa bs))).2.1 root (Bx.cU fr (Bx.bx fr 0)) (Bx.cT fs (Bx.bx fr 0)) gn) 4 rfl (Nat.le_refl _) ?_ ?_
  ·show AV.bo [.agg [.s (.str (bM th m fu fr fs l es bs).2.2.2.2.1.1),bD (bM th m fu fr fs l es bs).2.2.2.2.1.2.1],bD (bM th m fu fr fs l es bs).2.2.2.2.2]=_;rw[e];rfl
  ·show hT th (bM th m fu fr fs l es bs).1 (bM th m fu fr fs l es bs).2.1 root (bM th m fu fr fs l es bs).2.2.1 (bM th m fu fr fs l es bs).2.2.2.1 gn=_;rw[e]
end Ts
namespace Go.Sx
open Go
def afr:List Nat→List AV→(List AV→RM bC)→RM bC
 |[],args,k=>k args
 |id::ids,args,k=>.look id fun o=>match o with
  |some (.vec c _)=>((afr ids (args.map (nj id c)) k).af5 id).lX id
  |_=>.fail "give up: no row"
def ajU(i:Nat)(s:Nat→List AV→RM bC):Nat→List AV→RM bC:=fun base args=>afr (adg (args.getD i (.s .aQ))) args (s base)
def afs(cs:List (Nat×aI)):Nat→List AV→List AV
 |_,[]=>[]
 |j,.emp::r=>(match cs.find? (fun p=>p.1.beq j)with
  |some (_,c)=>bif c.n.beq 0 then .s (.ro c)else .emp
  |none=>.emp)::afs cs (j+1) r
 |j,a::r=>a::afs cs (j+1) r
def aot(cs:List (Nat×aI)):AV→AV
 |.agg an=>.agg (afs cs 0 an)
 |a=>a
def aad(i:Nat)(cs:List (Nat×aI))(s:Nat→List AV→RM bC):Nat→List AV→RM bC:=fun base args=>s base (match args[i]? with
 |some a=>args.set i (aot cs a)
 |none=>args)
section
variable{ρ aB:Nat→Value}{H H':aJ}{G O O':Nat→Prop}{w w':World}{P:Program}{Z:aX}{X:Type}{S:Spec X}
theorem yr{cs:List (Nat×aI)}:∀(l:List AV) (j:Nat) {vs:List Value},ao ρ H O w l vs→ao ρ H O w (afs cs j l) vs
 |[],_,vs,h=>h
 |a::l,j,vs,h=>by
  obtain⟨c1,c2,rfl,h1,h2⟩:=af.1 h;have ih:=yr (cs:=cs) l (j+1) h2;cases a with
  |emp=>
   refine af.2 ⟨c1,c2,rfl, ?_,ih⟩;split
   ·rw[Bool.cond_eq_ite];split
    ·rename_i c _ hc;have hc:c.n=0:=by simpa using hc
     unfold aK at h1 ⊢;obtain⟨u,rfl,a,rfl⟩:=h1;exact⟨_,rfl,tD hc a⟩
    ·exact h1
   ·exact h1
  |_=>exact af.2 ⟨c1,c2,rfl,h1,ih⟩
theorem ahi{cs:List (Nat×aI)}{a:AV}{v:Value}(h:ab ρ H O w a v):ab ρ H O w (aot cs a) v:=by
 cases a with
 |agg an=>
  unfold ab at h;obtain⟨vs,rfl,h1⟩:=h;show ab _ _ _ _ (.agg _) _;unfold ab;exact⟨vs,rfl,yr _ _ h1⟩
 |_=>exact h
theorem gr{f:FuncId}{s:Nat→List AV→RM bC}(h:vd P Z f s)(i:Nat)(cs:List (Nat×aI)):vd P Z f (aad i cs s):=by
 intro base args H q hq hn ρ G w vs e9 hz hs hd;unfold aad at hq;split at hq
 ·rename_i a ha;exact h base _ H q hq hn ρ G w vs e9 hz hs (aiQ hd ha fun v hv=>ahi hv)
 ·exact h base _ H q hq hn ρ G w vs e9 hz hs hd
theorem ahj(hs:Sat ρ H G w){id:Nat}{c:aI}{e:TypeId}(ho:H id=some (.vec c e)){x:AV}{v:Value}(hx:ab ρ H (aN ρ H G) w x v):
 ab ρ (aD H id .dead) (aN ρ (aD H id .dead) G) w (nj id c x) v:=by
 have st:=fD (ρ:=ρ) (G:=G) (w:=w) ho;have gone:=uK hs ho
 have adp:∀x cs,aK ρ H (aN ρ H G) w x cs→aK ρ (aD H id .dead) (aN ρ (aD H id .dead) G) w (ni id c x) cs:=by
  intro x cs hx;have mA:=aK.step st x cs hx;cases x<;>try exact mA
  rename_i j;simp only[ni,Bool.cond_eq_ite];split
  ·rename_i hj;have hj:j=id:=by simpa using hj
   subst hj;unfold aK at hx ⊢;obtain⟨u,rfl,hu⟩:=hx;obtain⟨a,cap,hv,hr,_⟩:=jy hs ho (by unfold ab;exact hu);exact⟨u,rfl,by rw[←hr];exact gone⟩
  ·exact mA
 have l5:∀(xs:List AV) cs,ao ρ H (aN ρ H G) w xs cs→ao ρ (aD H id .dead) (aN ρ (aD H id .dead) G) w (xs.map (ni id c)) cs:=by
  intro xs
  induction xs with
  |nil=>intro cs hx;exact aq.2 (aq.1 hx)
  |cons x xs ih=>
   intro cs hx;obtain⟨c1,c2,rfl,h1,h2⟩:=af.1 hx;exact af.2 ⟨c1,c2,rfl,adp _ _ h1,ih _ h2⟩
 have mA:=ab.step st x v hx;cases x with
 |agg an=>
  unfold ab at hx;obtain⟨cs,rfl,h1⟩:=hx;show ab _ _ _ _ (.agg _) _;unfold ab;exact⟨cs,rfl,l5 _ _ h1⟩
 |vec j=>
  simp only[nj,Bool.cond_eq_ite];split
  ·rename_i hj;have hj:j=id:=by simpa using hj
   subst hj;obtain⟨a,cap,hv,hr,_⟩:=jy hs ho hx;rw[←hr];exact aw gone
  ·exact mA
 |_=>exact mA
theorem ab0{f:FuncId}{s:Nat→List AV→RM bC}(h:vd P Z f s){base:Nat}:∀(ids:List Nat) {args:List AV} {H:aJ} {q:bC},(afr ids args (s base)).eval H=some q→bw q.need→
 ∀(ρ:Nat→Value) (G:Nat→Prop) (w:World) (vs:List Value),(∀j,j<q.new.length→H (base+j)=none)→ZAt Z ρ H w→Sat ρ H G w→bE ρ H (aN ρ H G) w args vs→
 Calls P f vs.toArray w fun e w'=>∃v,e=.returned v∧Good ρ H G w (c9 H q.up base q.new) (q.r base) v w'
 |[],args,H,q,hq,hn,ρ,G,w,vs,e9,hz,hs,hd=>h base args H q hq hn ρ G w vs e9 hz hs hd
 |id::ids,args,H,q,hq,hn,ρ,G,w,vs,e9,hz,hs,hd=>by
  simp only[afr,RM.eval]at hq;split at hq
  ·rename_i c el ho;obtain⟨q',h1,rfl⟩:=RM.l3 _ hq;rw[RM.oa]at h1;have st:=fD (ρ:=ρ) (G:=G) (w:=w) ho;have hz1:ZAt Z ρ (aD H id .dead) w:=⟨hz.1,fun b hb hO=>hz.2 b hb (fp hO)⟩
   have amA:∀j,j<q'.new.length→aD H id .dead (base+j)=none:=fun j hj=>by
    have:=e9 j hj;simp only[aD];split
    ·rename_i e1;rw[e1,ho]at this;cases this
    ·exact this
   have hd1:bE ρ (aD H id .dead) (aN ρ (aD H id .dead) G) w (args.map (nj id c)) vs:=by
    clear h1 hq
    induction args generalizing vs with
    |nil=>exact(show bE _ _ _ _ [] vs by rw[aU.1 hd];unfold bE;rfl)
    |cons a args ih=>
     obtain⟨v,rest,rfl,g1,g2⟩:=ax.1 hd;exact ax.2 ⟨v,rest,rfl,ahj hs ho g1,ih _ g2⟩
   refine(ab0 h ids h1 hn ρ G w vs amA hz1 (hs.kill ho) hd1).mono ?_;rintro en w' ⟨v,he,hg⟩;refine⟨v,he, ?_⟩
   have aif:c9 H ((id,.dead)::q'.up) base q'.new=c9 (aD H id .dead) q'.up base q'.new:=by
    funext j;simp only[c9,cN,aD];cases cN q'.up j with
    |some x=>rfl
    |none=>
     simp only[];by_cases hj:j=id
     ·subst hj
      have uC:¬(base≤j∧j<base+q'.new.length):=by
       rintro⟨k1,k2⟩;have:=e9 (j - base) (by simp only[];omega);rw[show base+(j - base)=j from by omega,ho]at this;cases this
      simp[uC]
     ·simp[hj]
   simp only[];rw[aif];exact Good.after st (fun b hb=>fp hb) hg
  ·simp[RM.eval]at hq
theorem iE{f:FuncId}{s:Nat→List AV→RM bC}(h:vd P Z f s)(i:Nat):vd P Z f (ajU i s):=by
 intro base args H q hq hn ρ G w vs e9 hz hs hd;exact ab0 h _ hq hn ρ G w vs e9 hz hs hd
theorem xa{f:FuncId}{fn:Func}{aG:List AV}{L:List ad}{K:List ad→AV→Prop}(hf:P.funcs[f]? =some fn)(hb:fn.body.isSome=true)(hn:aG.length≤fn.ntmps)
 (h:∀X:Ctx,X.H=lk L→dT Z X→Safe P f X K (start fn aG L)) (ρ:Nat→Value) (G:Nat→Prop) (w:World) (vs:List Value) (hz:ZAt Z ρ (lk L) w) (hs:Sat ρ (lk L) G w)
 (hd:bE ρ (lk L) (aN ρ (lk L) G) w aG vs):Calls P f vs.toArray w (jX ⟨ρ,lk L,G,w,[]⟩ K):=by
 obtain⟨c,hb⟩:=Option.isSome_iff_exists.1 hb
 have nC:vs.length=aG.length:=by
  have:∀{aG:List AV} {vs:List Value},bE ρ (lk L) (aN ρ (lk L) G) w aG vs→vs.length=aG.length:=by
   intro aG
   induction aG with
   |nil=>intro vs h;rw[aU.1 h];rfl
   |cons a aG ih=>intro vs h;obtain⟨v,rest,rfl,_,h2⟩:=ax.1 h;simp[ih h2]
  exact this hd
 refine iJ (R:=jX ⟨ρ,lk L,G,w,[]⟩ K) hf hb ?_;have:=(h ⟨ρ,lk L,G,w,[]⟩ rfl hz).goes rfl rfl (ρ:=ρ) (a:={tmps:=vs.toArray++Array.replicate (fn.ntmps - vs.toArray.size) undef,defers:=[]}) (w:=w);simp only[start,hb,Option.getD_some]at this;refine this ⟨hs, ?_,fun t=> ?_,rfl,Step.refl _ _ _ _,⟨rfl,rfl,rfl,fun _ _ _=>rfl⟩,fun x hx=>by cases hx⟩
 ·simp[nC]
 ·have e1:∀(aG:List AV) (vs:List Value),bE ρ (lk L) (aN ρ (lk L) G) w aG vs→∀t,ab ρ (lk L) (aN ρ (lk L) G) w (aG.getD t (.bo [])) (vs.getD t undef):=by
   intro aG
   induction aG with
   |nil=>intro vs h t;rw[aU.1 h];simp only[List.getD,List.getElem?_nil,Option.getD_none];exact cH
   |cons a aG ih=>
    intro vs h t;obtain⟨v,rest,rfl,h1,h2⟩:=ax.1 h;cases t with
    |zero=>simpa using h1
    |succ t=>simpa using ih rest h2 t
  have h1:=e1 _ _ hd t;simp only[List.getD_eq_getElem?_getD,List.getElem?_append,List.getElem?_replicate,Array.getD_eq_getD_getElem?,Array.getElem?_append,List.getElem?_toArray,Array.getElem?_replicate,List.size_toArray]at h1 ⊢;rw[nC];split
  ·rename_i ht;have hv:vs[t]? =some vs[t]:=List.getElem?_eq_getElem (by omega);have ha:aG[t]? =some aG[t]:=List.getElem?_eq_getElem ht;rw[hv,ha]at h1 ⊢;exact h1
  ·split
   ·exact cH
   ·unfold ab;trivial
def xb{X:Type}(S:Spec X)(x:X)(L:List ad)(r:AV):Prop:=
 ∃(N:Norm) (vs os:List AV),r=.bo vs∧(S.heap x).length≤N.m∧N.run ⟨vs,L,[],{}⟩=some ⟨os,S.fH x,[],{}⟩∧∀(ρ:Nat→Value) (H:aJ) (O:Nat→Prop) (w:World) (us:List Value),bE ρ H O w os us→ab ρ H O w (S.out x) (.tuple us.toArray)
theorem aft:∀{os:List AV} {us:List Value},os.length=us.length→(∀t,ab ρ H O w (os.getD t (.s .aQ)) (us.getD t undef))→bE ρ H O w os us
 |[],[],_,_=>by unfold bE;rfl
 |[],_::_,h,_=>by simp at h
 |_::_,[],h,_=>by simp at h
 |a::os,u::us,hl,h=>ax.2 ⟨u,us,rfl,h 0,aft (by simpa using hl) fun t=>h (t+1)⟩
theorem fL{f:FuncId}{fn:Func}(hf:P.funcs[f]? =some fn)(hb:fn.body.isSome=true)(hn:∀x,(S.args x).length≤fn.ntmps)
 (h:∀x,bw (S.pre x)→∀X:Ctx,X.H=lk (S.heap x)→dT Z X→Safe P f X (xb S x) (start fn (S.args x) (S.heap x))):ib P Z f S:=by
 intro x lD ρ G w vs hz hs hd;refine(xa hf hb (hn x) (h x lD) ρ G w vs hz hs hd).mono ?_;rintro e w' ⟨v,rfl,L,r,⟨N,ts,os,rfl,hm,hN,hwk⟩,lF,g1,g2,g3,g4⟩;refine⟨v,rfl, ?_⟩;unfold ab at g2;obtain⟨us,rfl,g2⟩:=g2
 have hlen:us.length=ts.length:=by
  have:∀{aG:List AV} {vs:List Value},bE lF (fun id=>L[id]?) (aN lF (fun id=>L[id]?) G) w' aG vs→vs.length=aG.length:=by
   intro aG
   induction aG with
   |nil=>intro vs h;rw[aU.1 h];rfl
   |cons a aG ih=>intro vs h;obtain⟨v,rest,rfl,_,h2⟩:=ax.1 h;simp[ih h2]
  exact this g2
 have r0:bX ⟨ρ,lk (S.heap x),G,w,[]⟩ lF ⟨ts,L⟩ {tmps:=us.toArray,defers:=[]} w':=by
  refine⟨g1,by simp[hlen],fun t=> ?_,rfl,g3,g4,fun x hx=>by cases hx⟩;clear hlen hN;have g2':bE lF (St.look ⟨ts,L⟩) (aN lF (St.look ⟨ts,L⟩) G) w' ts us:=g2;show ab lF (St.look ⟨ts,L⟩) (aN lF (St.look ⟨ts,L⟩) G) w' (ts.getD t (.s .aQ)) (us.toArray.getD t undef);generalize St.look ⟨ts,L⟩=H1 at g2' ⊢;clear g2 hwk
  induction ts generalizing us t with
  |nil=>simp only[List.getD,List.getElem?_nil,Option.getD_none];unfold ab;trivial
  |cons a ts ih=>
   obtain⟨u,rest,rfl,k1,k2⟩:=ax.1 g2';cases t with
   |zero=>simpa using k1
   |succ t=>simpa[Array.getD_eq_getD_getElem?]using ih _ t k2
 have h0:∀id,N.m≤id→(⟨ρ,lk (S.heap x),G,w,[]⟩:Ctx).H id=none:=fun id du=>by simp[lk];omega
 have fin:∃ρ4,bX ⟨ρ,lk (S.heap x),G,w,[]⟩ ρ4 ⟨os,S.fH x⟩ {tmps:=us.toArray,defers:=[]} w':=by
  unfold Norm.run at hN;split at hN
  ·rename_i t1 L1 h1;simp only[]at hN;split at hN
   ·rename_i t2 L2 h2;simp only[Option.some.injEq,bA.mk.injEq,and_true]at hN;obtain⟨rfl,rfl⟩:=hN;obtain⟨lF,r1⟩:=bX.fG h0 h1 (bX.dW N.ez r0);obtain⟨gl,r2⟩:=bX.fZ N.pe r1;obtain⟨ρ3,r3⟩:=bX.ga N.cells r2;obtain⟨ρ4,r4⟩:=bX.fG h0 h2 r3;exact⟨ρ4,r4⟩
   ·cases hN
  ·cases hN
 obtain⟨ρ4,r4⟩:=fin;refine⟨ρ4,r4.sat,hwk _ _ _ _ _ (aft ?_ fun t=> ?_),r4.from_,r4.jc⟩
 ·have:=r4.size;simpa using this
 ·have:=r4.den t;have e:(us.toArray.getD t undef)=us.getD t undef:=by simp[Array.getD_eq_getD_getElem?,List.getD_eq_getElem?_getD]
  rw[←e];exact this
theorem kv{S:Spec X}{x:X}{L:List ad}{vs os:List AV}{h:List ad}(N:Norm)(e:N.run ⟨vs,L,[],{}⟩=some ⟨os,h,[],{}⟩)(hm:(S.heap x).length≤N.m){os':List AV}(hw:o9 os os')(ho:S.out x=.bo os')(hh:S.fH x=h):xb S x L (.bo vs):=
 ⟨N,vs,os,rfl,hm,by rw[hh];exact e,fun ρ H O w us hd=>by rw[ho];unfold ab;exact⟨us,rfl,hw.den hd⟩⟩
theorem o9.same:∀(os:List AV),o9 os os
 |[]=>.nil
 |a::os=>.cons (.one (.refl a)) (o9.same os)
end
end Go.Sx
namespace Ts
open Go Go.Sx Go.Proofs Lf
def mT:List AV→RM (XT×List Nat)
 |[.ptr id 0]=>.look id fun o=>match o with
  |some (.own [.ptr d 0,rt,.ints .u64 16 fr,.ints .u64 16 fs,.ints .u64 16 gn] _)=>(Ds.mAs [.ptr d 0]).bind fun((th,m,fu),σ)=>match rt.de with
   |some (_,_,root)=>.ret ((th,m,fu,root,fr,fs,gn),id::σ)
   |none=>.fail "no root"
  |_=>.fail "no tree's cells"
 |_=>.fail "no tree"
def aqO:AV→Option (Bool×List En×List Br)
 |.agg [l,.s (.ro (.ae [.str,.str] es)),.s (.ro (.ae [.str,.int .i64] bs))]=>match l.je with
  |some (_,b)=>some (b,es,bs)
  |none=>none
 |_=>none
def mTN:List AV→RM ((XT×Bool×List En×List Br)×List Nat)
 |[t,x]=>(mT [t]).bind fun(X,σ)=>match aqO x with
  |some (l,es,bs)=>.ret ((X,l,es,bs),σ)
  |none=>.fail "no node"
 |_=>.fail "no tree and node"
abbrev aou(s:Nat→List AV→RM bC):=ajU 1 (aad 1 [(1,.ae cE []),(2,.ae cB [])] s)
abbrev aqP:=aou (cI as1 mTN)
abbrev avn:=bZ [eK] [eK,eK,bh] (fun((_,es,bs,()),())=>[bc es,bd bs]) (fun((l,es,bs,()),())=>((bT l es bs,ba l es bs,bg l es bs,()),(bT l es bs,cQ l es bs,cY l es bs,()),spC l es bs,()))
def aov:aE:=[(81,aor),(82,an9),(83,aqP),(84,avn)]
theorem avo(th:Th)(m:As)(fu root:Int)(fr fs gn:Ws)(l:Bool)(es:List En)(bs:List Br):run P aov.sum Tryd.f66 [] (start Tryd.f66 [.ptr 0 0,avN l es bs] (hT th m fu root fr fs gn))=
 Tree.need (aF ((↑es.length:Int)+(↑bs.length:Int)))
 (.ite ((↑es.length:Int)+(↑bs.length:Int)==0) (.ret [.own [.ptr 1 0,.s (.int .i64 root),.ints .u64 16 fr,.ints .u64 16 fs,.ints .u64 16 gn] 70,.own [.vec 2,.ag 3,.s (.int .i64 fu)] 96,.vec (.ae [.arr .u8 64] th) 138,.map (.arr .u8 64) m,.own [.s (.bool l),.s (.ro (.ae [.str,.str] es)),.s (.ro (.ae [.str,.int .i64] bs))] 73] (.bo [.emp,.s (.aV .i64 0)]))
   (.need (bs.length≤1000)
     (.need (bc es)
       (.need (bd (aa bs))
         (.ite (decide (bk es (aa bs)≤254)) (.need (bt (some [AV.ptr 0 0,.agg [.s (.bool l),.s (.ro (.ae [.str,.str] es)),.s (.ro (.ae [.str,.int .i64] (aa bs)))]])) (.need (bt (some [ad.own [.ptr 1 0,.s (.int .i64 root),.ints .u64 16 fr,.ints .u64 16 fs,.ints .u64 16 gn] 70,.own [.vec 2,.ag 3,.s (.int .i64 fu)] 96,.vec (.ae [.arr .u8 64] th) 138,.map (.arr .u8 64) m])) (.need (Ds.bH th m fu) (.need (Bx.okW fr) (.need ((l=true→(0:Nat)<es.length)∧(l=false→(0:Nat)<(aa bs).length)) (.need (bc es) (.need (bd (aa bs)) (.ret [.own [.ptr 1 0,.s (.int .i64 root),.ints .u64 16 (bM th m fu fr fs l es (aa bs)).snd.snd.fst,.ints .u64 16 (bM th m fu fr fs l es (aa bs)).snd.snd.snd.fst,.ints .u64 16 gn] 70,.own [.vec 2,.ag 3,.s (.int .i64 (bM th m fu fr fs l es (aa bs)).snd.fst)] 96,.vec (.ae [.arr .u8 64] th) 138,.map (.arr .u8 64) (bM th m fu fr fs l es (aa bs)).fst,.own [.s (.bool l),.s (.ro (.ae [.str,.str] es)),.s (.ro (.ae [.str,.int .i64] (aa bs)))] 73,.own [.s (.str (bM th m fu fr fs l es (aa bs)).snd.snd.snd.snd.fst.fst),.s (.int .i64 (bM th m fu fr fs l es (aa bs)).snd.snd.snd.snd.fst.snd.fst)] 79,.vec (.ae [.str,.int .i64] [((bM th m fu fr fs l es (aa bs)).snd.snd.snd.snd.fst.fst,(bM th m fu fr fs l es (aa bs)).snd.snd.snd.snd.fst.snd.fst,())]) 79] (.bo [.vec 6,.s (.int .i64 (bM th m fu fr fs l es (aa bs)).snd.snd.snd.snd.snd)])))))))))
           (.need (bc es)
             (.need (bd (aa bs))
               (.ite (spC l es (aa bs) !=0) (.ret [.own [.ptr 1 0,.s (.int .i64 root),.ints .u64 16 fr,.ints .u64 16 fs,.ints .u64 16 gn] 70,.own [.vec 2,.ag 3,.s (.int .i64 fu)] 96,.vec (.ae [.arr .u8 64] th) 138,.map (.arr .u8 64) m,.own [.s (.bool l),.s (.ro (.ae [.str,.str] es)),.s (.ro (.ae [.str,.int .i64] (aa bs)))] 73,.vec (.ae [.str,.str] (ba l es (aa bs))) 34,.vec (.ae [.str,.int .i64] (bg l es (aa bs))) 79,.vec (.ae [.str,.str] (cQ l es (aa bs))) 34,.vec (.ae [.str,.int .i64] (cY l es (aa bs))) 79,.own [.s (.bool (bT l es (aa bs))),.vec 5,.vec 6] 73,.own [.s (.bool (bT l es (aa bs))),.vec 7,.vec 8] 73] (.bo [.emp,.s (.int .i64 (spC l es (aa bs)))]))
                 (.need (bt (some [AV.ptr 0 0,.agg [.s (.bool (bT l es (aa bs))),.s (.ro (.ae [.str,.str] (ba l es (aa bs)))),.s (.ro (.ae [.str,.int .i64] (bg l es (aa bs))))]]))
                   (.need (bt (some [ad.own [.ptr 1 0,.s (.int .i64 root),.ints .u64 16 fr,.ints .u64 16 fs,.ints .u64 16 gn] 70,.own [.vec 2,.ag 3,.s (.int .i64 fu)] 96,.vec (.ae [.arr .u8 64] th) 138,.map (.arr .u8 64) m]))
                     (.need (Ds.bH th m fu)
                       (.need (Bx.okW fr)
                         (.need ((bT l es (aa bs)=true→(0:Nat)<(ba l es (aa bs)).length)∧(bT l es (aa bs)=false→(0:Nat)<(bg l es (aa bs)).length))
                           (.need (bc (ba l es (aa bs)))
                             (.need (bd (bg l es (aa bs)))
                               (.ite ((bM th m fu fr fs (bT l es (aa bs)) (ba l es (aa bs)) (bg l es (aa bs))).snd.snd.snd.snd.snd !=0) (.ret [.own [.ptr 1 0,.s (.int .i64 root),.ints .u64 16 (bM th m fu fr fs (bT l es (aa bs)) (ba l es (aa bs)) (bg l es (aa bs))).snd.snd.fst,.ints .u64 16 (bM th m fu fr fs (bT l es (aa bs)) (ba l es (aa bs)) (bg l es (aa bs))).snd.snd.snd.fst,.ints .u64 16 gn] 70,.own [.vec 2,.ag 3,.s (.int .i64 (bM th m fu fr fs (bT l es (aa bs)) (ba l es (aa bs)) (bg l es (aa bs))).snd.fst)] 96,.vec (.ae [.arr .u8 64] th) 138,.map (.arr .u8 64) (bM th m fu fr fs (bT l es (aa bs)) (ba l es (aa bs)) (bg l es (aa bs))).fst,.own [.s (.bool l),.s (.ro (.ae [.str,.str] es)),.s (.ro (.ae [.str,.int .i64] (aa bs)))] 73,.dead,.dead,.vec (.ae [.str,.str] (cQ l es (aa bs))) 34,.vec (.ae [.str,.int .i64] (cY l es (aa bs))) 79,.own [.s (.bool (bT l es (aa bs))),.vec 5,.vec 6] 73,.own [.s (.bool (bT l es (aa bs))),.vec 7,.vec 8] 73,.own [.s (.str (bM th m fu fr fs (bT l es (aa bs)) (ba l es (aa bs)) (bg l es (aa bs))).snd.snd.snd.snd.fst.fst),.s (.int .i64 (bM th m fu fr fs (bT l es (aa bs)) (ba l es (aa bs)) (bg l es (aa bs))).snd.snd.snd.snd.fst.snd.fst)] 79] (.bo [.emp,.s (.int .i64 (bM th m fu fr fs (bT l es (aa bs)) (ba l es (aa bs)) (bg l es (aa bs))).snd.snd.snd.snd.snd)]))
                                 (.need (bt (some [AV.ptr 0 0,.agg [.s (.bool (bT l es (aa bs))),.s (.ro (.ae [.str,.str] (cQ l es (aa bs)))),.s (.ro (.ae [.str,.int .i64] (cY l es (aa bs))))]]))
                                   (.need (bt (some [ad.own [.ptr 1 0,.s (.int .i64 root),.ints .u64 16 (bM th m fu fr fs (bT l es (aa bs)) (ba l es (aa bs)) (bg l es (aa bs))).snd.snd.fst,.ints .u64 16 (bM th m fu fr fs (bT l es (aa bs)) (ba l es (aa bs)) (bg l es (aa bs))).snd.snd.snd.fst,.ints .u64 16 gn] 70,.own [.vec 2,.ag 3,.s (.int .i64 (bM th m fu fr fs (bT l es (aa bs)) (ba l es (aa bs)) (bg l es (aa bs))).snd.fst)] 96,.vec (.ae [.arr .u8 64] th) 138,.map (.arr .u8 64) (bM th m fu fr fs (bT l es (aa bs)) (ba l es (aa bs)) (bg l es (aa bs))).fst]))
                                     (.need (Ds.bH th (bM th m fu fr fs (bT l es (aa bs)) (ba l es (aa bs)) (bg l es (aa bs))).fst (bM th m fu fr fs (bT l es (aa bs)) (ba l es (aa bs)) (bg l es (aa bs))).snd.fst)
                                       (.need (Bx.okW (bM th m fu fr fs (bT l es (aa bs)) (ba l es (aa bs)) (bg l es (aa bs))).snd.snd.fst)
                                         (.need ((bT l es (aa bs)=true→(0:Nat)<(cQ l es (aa bs)).length)∧(bT l es (aa bs)=false→(0:Nat)<(cY l es (aa bs)).length))
                                           (.need (bc (cQ l es (aa bs)))
                                             (.need (bd (cY l es (aa bs)))
                                               (.ret
                                                 [.own [.ptr 1 0,.s (.int .i64 root),.ints .u64 16 (bM th (bM th m fu fr fs (bT l es (aa bs)) (ba l es (aa bs)) (bg l es (aa bs))).fst (bM th m fu fr fs (bT l es (aa bs)) (ba l es (aa bs)) (bg l es (aa bs))).snd.fst (bM th m fu fr fs (bT l es (aa bs)) (ba l es (aa bs)) (bg l es (aa bs))).snd.snd.fst (bM th m fu fr fs (bT l es (aa bs)) (ba l es (aa bs)) (bg l es (aa bs))).snd.snd.snd.fst (bT l es (aa bs)) (cQ l es (aa bs)) (cY l es (aa bs))).snd.snd.fst,.ints .u64 16 (bM th (bM th m fu fr fs (bT l es (aa bs)) (ba l es (aa bs)) (bg l es (aa bs))).fst (bM th m fu fr fs (bT l es (aa bs)) (ba l es (aa bs)) (bg l es (aa bs))).snd.fst (bM th m fu fr fs (bT l es (aa bs)) (ba l es (aa bs)) (bg l es (aa bs))).snd.snd.fst (bM th m fu fr fs (bT l es (aa bs)) (ba l es (aa bs)) (bg l es (aa bs))).snd.snd.snd.fst (bT l es (aa bs)) (cQ l es (aa bs)) (cY l es (aa bs))).snd.snd.snd.fst,.ints .u64 16 gn] 70,.own [.vec 2,.ag 3,.s (.int .i64 (bM th (bM th m fu fr fs (bT l es (aa bs)) (ba l es (aa bs)) (bg l es (aa bs))).fst (bM th m fu fr fs (bT l es (aa bs)) (ba l es (aa bs)) (bg l es (aa bs))).snd.fst (bM th m fu fr fs (bT l es (aa bs)) (ba l es (aa bs)) (bg l es (aa bs))).snd.snd.fst (bM th m fu fr fs (bT l es (aa bs)) (ba l es (aa bs)) (bg l es (aa bs))).snd.snd.snd.fst (bT l es (aa bs)) (cQ l es (aa bs)) (cY l es (aa bs))).snd.fst)] 96,.vec (.ae [.arr .u8 64] th) 138,.map (.arr .u8 64) (bM th (bM th m fu fr fs (bT l es (aa bs)) (ba l es (aa bs)) (bg l es (aa bs))).fst (bM th m fu fr fs (bT l es (aa bs)) (ba l es (aa bs)) (bg l es (aa bs))).snd.fst (bM th m fu fr fs (bT l es (aa bs)) (ba l es (aa bs)) (bg l es (aa bs))).snd.snd.fst (bM th m fu fr fs (bT l es (aa bs)) (ba l es (aa bs)) (bg l es (aa bs))).snd.snd.snd.fst (bT l es (aa bs)) (cQ l es (aa bs)) (cY l es (aa bs))).fst,.own [.s (.bool l),.s (.ro (.ae [.str,.str] es)),.s (.ro (.ae [.str,.int .i64] (aa bs)))] 73,.dead,.dead,.dead,.dead,.own [.s (.bool (bT l es (aa bs))),.vec 5,.vec 6] 73,.own [.s (.bool (bT l es (aa bs))),.vec 7,.vec 8] 73,.own [.s (.str (bM th m fu fr fs (bT l es (aa bs)) (ba l es (aa bs)) (bg l es (aa bs))).snd.snd.snd.snd.fst.fst),.s (.int .i64 (bM th m fu fr fs (bT l es (aa bs)) (ba l es (aa bs)) (bg l es (aa bs))).snd.snd.snd.snd.fst.snd.fst)] 79,
                                                   .own [.s (.str (bM th (bM th m fu fr fs (bT l es (aa bs)) (ba l es (aa bs)) (bg l es (aa bs))).fst (bM th m fu fr fs (bT l es (aa bs)) (ba l es (aa bs)) (bg l es (aa bs))).snd.fst (bM th m fu fr fs (bT l es (aa bs)) (ba l es (aa bs)) (bg l es (aa bs))).snd.snd.fst (bM th m fu fr fs (bT l es (aa bs)) (ba l es (aa bs)) (bg l es (aa bs))).snd.snd.snd.fst (bT l es (aa bs)) (cQ l es (aa bs)) (cY l es (aa bs))).snd.snd.snd.snd.fst.fst),.s (.int .i64 (bM th (bM th m fu fr fs (bT l es (aa bs)) (ba l es (aa bs)) (bg l es (aa bs))).fst (bM th m fu fr fs (bT l es (aa bs)) (ba l es (aa bs)) (bg l es (aa bs))).snd.fst (bM th m fu fr fs (bT l es (aa bs)) (ba l es (aa bs)) (bg l es (aa bs))).snd.snd.fst (bM th m fu fr fs (bT l es (aa bs)) (ba l es (aa bs)) (bg l es (aa bs))).snd.snd.snd.fst (bT l es (aa bs)) (cQ l es (aa bs)) (cY l es (aa bs))).snd.snd.snd.snd.fst.snd.fst)] 79,.vec (.ae [.str,.int .i64] [((bM th m fu fr fs (bT l es (aa bs)) (ba l es (aa bs)) (bg l es (aa bs))).snd.snd.snd.snd.fst.fst,(bM th m fu fr fs (bT l es (aa bs)) (ba l es (aa bs)) (bg l es (aa bs))).snd.snd.snd.snd.fst.snd.fst,()),((bM th (bM th m fu fr fs (bT l es (aa bs)) (ba l es (aa bs)) (bg l es (aa bs))).fst (bM th m fu fr fs (bT l es (aa bs)) (ba l es (aa bs)) (bg l es (aa bs))).snd.fst (bM th m fu fr fs (bT l es (aa bs)) (ba l es (aa bs)) (bg l es (aa bs))).snd.snd.fst (bM th m fu fr fs (bT l es (aa bs)) (ba l es (aa bs)) (bg l es (aa bs))).snd.snd.snd.fst (bT l es (aa bs)) (cQ l es (aa bs)) (cY l es (aa bs))).snd.snd.snd.snd.fst.fst,(bM th (bM th m fu fr fs (bT l es (aa bs)) (ba l es (aa bs)) (bg l es (aa bs))).fst (bM th m fu fr fs (bT l es (aa bs)) (ba l es (aa bs)) (bg l es (aa bs))).snd.fst (bM th m fu fr fs (bT l es (aa bs)) (ba l es (aa bs)) (bg l es (aa bs))).snd.snd.fst (bM th m fu fr fs (bT l es (aa bs)) (ba l es (aa bs)) (bg l es (aa bs))).snd.snd.snd.fst (bT l es (aa bs)) (cQ l es (aa bs)) (cY l es (aa bs))).snd.snd.snd.snd.fst.snd.fst,())]) 79]
                                                 (.bo [.vec 13,.s (.int .i64 (bM th (bM th m fu fr fs (bT l es (aa bs)) (ba l es (aa bs)) (bg l es (aa bs))).fst (bM th m fu fr fs (bT l es (aa bs)) (ba l es (aa bs)) (bg l es (aa bs))).snd.fst (bM th m fu fr fs (bT l es (aa bs)) (ba l es (aa bs)) (bg l es (aa bs))).snd.snd.fst (bM th m fu fr fs (bT l es (aa bs)) (ba l es (aa bs)) (bg l es (aa bs))).snd.snd.snd.fst (bT l es (aa bs)) (cQ l es (aa bs)) (cY l es (aa bs))).snd.snd.snd.snd.snd)]))))))))))))))))))))))))):=by kernel_rfl
abbrev aae(l:Bool)(es:List En)(bs:List Br):Prop:=(l=true→bs=[])∧(l=false→es=[])
abbrev sWs:Spec (XT×Bool×List En×List Br):=⟨fun(_,l,es,bs)=>[.ptr 0 0,avN l es bs],fun((th,m,fu,root,fr,fs,gn),_)=>hT th m fu root fr fs gn,
 fun((th,m,fu,_,fr,_,_),l,es,bs)=>[Ds.bH th m fu,Bx.okW fr,aae l es bs,bc es,bd bs],
 fun((th,m,fu,root,fr,fs,gn),l,es,bs)=>hT th (bp th m fu fr fs l es bs).1 (bp th m fu fr fs l es bs).2.1 root (bp th m fu fr fs l es bs).2.2.1 (bp th m fu fr fs l es bs).2.2.2.1 gn++[.vec (.ae cB (bp th m fu fr fs l es bs).2.2.2.2.1) Lf.eB],
 fun((th,m,fu,_,fr,fs,_),l,es,bs)=>.bo [.vec 4,bD (bp th m fu fr fs l es bs).2.2.2.2.2]⟩
theorem aaf{th:Th}{m:As}{fu:Int}{fr fs:Ws}{l:Bool}{es:List En}{bs:List Br}(hd:Ds.bH th m fu)(hf:Bx.okW fr):Ds.bH th (bM th m fu fr fs l es bs).1 (bM th m fu fr fs l es bs).2.1∧Bx.okW (bM th m fu fr fs l es bs).2.2.1:=by
 have gd:=Ds.an0 (n:=Bx.bx fr 0) (s:=db l es (aa bs)) hd;unfold bM;split
 ·exact⟨hd,hf⟩
 ·split
  ·exact⟨hd,hf⟩
  ·split
   ·exact⟨gd,hf⟩
   ·exact⟨gd,(Bx.kH hf _).1⟩
theorem yt(bs:List Br):(aa bs).length=bs.length:=by cases bs<;>rfl
theorem amB{l:Bool}{es:List En}{bs:List Br}(ok:dD l es bs=true):(bT l es bs=true→0<(ba l es bs).length∧0<(cQ l es bs).length)∧(bT l es bs=false→0<(bg l es bs).length∧0<(cY l es bs).length):=by
 have ok':=ok;simp only[dD,Bool.and_eq_true,decide_eq_true_eq]at ok';obtain⟨hm,h2⟩:=ok';obtain⟨m1,m2,_,_⟩:=dN hm;have b1:=nJ (aH es bs) (es.length+bs.length - 1) (by omega);have b2:=oq (aH es bs) (es.length+bs.length - 1);have c:0<dQ es bs∧dQ es bs≤es.length+bs.length - 1:=⟨b1,b2⟩;simp only[bT,ba,cQ,bg,cY,ok,if_true,Bool.true_and,List.length_take,List.length_drop];refine⟨fun e=> ?_,fun e=> ?_⟩
 ·have:=m1 e;subst this;simp only[List.length_nil]at *;omega
 ·have:=m2 e;subst this;simp only[List.length_nil]at *;omega
theorem ajV:aov.Ok P Bx.bV:=aE.Ok.cons afo.ve (aE.Ok.cons ae6.sum (aE.Ok.cons (iE (gr (vv.sum mTN) 1 _) 1) (aE.Ok.cons ajo.sum aE.Ok.nil)))
theorem jM:ib P Bx.bV 66 sWs:=by
 refine fL Tryd.func66 (by kernel_rfl) (fun x=>Nat.le_of_ble_eq_true (by kernel_rfl)) ?_;rintro⟨⟨(th:Th),(m:As),(fu:Int),(root:Int),(fr:Ws),(fs:Ws),(gn:Ws)⟩,(l:Bool),(es:List En),(bs:List Br)⟩ ⟨(hd:Ds.bH th m fu),(hf:Bx.okW fr),⟨(hl1:l=true→bs=[]),(xD:l=false→es=[])⟩,(he:bc es),(hb:bd bs),_⟩ X hX hz;have fin:∀{w:Wrs},bp th m fu fr fs l es bs=w→hT th (bp th m fu fr fs l es bs).1 (bp th m fu fr fs l es bs).2.1 root (bp th m fu fr fs l es bs).2.2.1 (bp th m fu fr fs l es bs).2.2.2.1 gn++[.vec (.ae cB (bp th m fu fr fs l es bs).2.2.2.2.1) Lf.eB]=hT th w.1 w.2.1 root w.2.2.1 w.2.2.2.1 gn++[.vec (.ae cB w.2.2.2.2.1) Lf.eB]∧
  AV.bo [.vec 4,bD (bp th m fu fr fs l es bs).2.2.2.2.2]=.bo [.vec 4,bD w.2.2.2.2.2]:=fun e=>by rw[e];exact⟨rfl,rfl⟩
 have hbb:=s9 hb;refine Ds.ew hz hX (by intro y hy;cases hy) ajV Tryd.func66 (avo th m fu root fr fs gn l es bs) ⟨?_,fun h=> ?_,fun h=>⟨hb.1,he,hbb,fun h2=>⟨rfl,rfl,hd,hf, ?_,he,hbb, ?_⟩,fun h2=>⟨he,hbb,fun h3=> ?_,fun h3=> ?_⟩⟩⟩
 ·have:=he.1;have:=hb.1;exact⟨by omega,by omega⟩
 ·have h:(es.length:Int)+bs.length=0:=by simpa using h
  obtain⟨f1,f2⟩:=fin (w:=(m,fu,fr,fs,[],0)) (by unfold bp;rw[if_pos (by omega)]);exact kv ⟨[(0,.ae cB [],Lf.eB)],[0,1],4,[]⟩ rfl (Nat.le_refl _) (o9.same _) f2 f1
 ·have h:¬((es.length:Int)+bs.length=0):=by simpa using h
  rw[yt];refine⟨fun e=>Nat.pos_of_ne_zero fun h0=>h ?_,fun e=>Nat.pos_of_ne_zero fun h0=>h ?_⟩
  ·rw[hl1 e,h0];rfl
  ·rw[xD e,h0];rfl
 ·have h:¬((es.length:Int)+bs.length=0):=by simpa using h
  have h2:=of_decide_eq_true h2;obtain⟨f1,f2⟩:=fin (w:=((bM th m fu fr fs l es (aa bs)).1,(bM th m fu fr fs l es (aa bs)).2.1,(bM th m fu fr fs l es (aa bs)).2.2.1,(bM th m fu fr fs l es (aa bs)).2.2.2.1,[(bM th m fu fr fs l es (aa bs)).2.2.2.2.1],(bM th m fu fr fs l es (aa bs)).2.2.2.2.2)) (by unfold bp;rw[if_neg (by omega),if_pos h2]);exact kv ⟨[],[0,1],4,[]⟩ rfl (Nat.le_refl _) (o9.same _) f2 f1
 ·have h:¬((es.length:Int)+bs.length=0):=by simpa using h
  have h2:=of_decide_eq_false h2;have h3:spC l es (aa bs)≠0:=by simpa using h3
  obtain⟨f1,f2⟩:=fin (w:=(m,fu,fr,fs,[],spC l es (aa bs))) (by unfold bp;rw[if_neg (by omega),if_neg h2,if_pos h3]);exact kv ⟨[(0,.ae cB [],Lf.eB)],[0,1],4,[]⟩ rfl (Nat.le_refl _) (o9.same _) f2 f1
 ·have h:¬((es.length:Int)+bs.length=0):=by simpa using h
  have h2:=of_decide_eq_false h2;have h3:spC l es (aa bs)=0:=by simpa using h3
  have ok:=aqL (l:=l) (es:=es) (bs:=aa bs) (by rw[h3];rfl);obtain⟨q1,q2,q3,q4,_,_,_,q5,q6,_,_⟩:=r7 ok he hbb
  have hmn:da l es (aa bs)=true:=by
   simp only[dD,Bool.and_eq_true]at ok;exact ok.1
  have zF:bT l es (aa bs)=l:=by unfold bT;rw[ok,Bool.true_and]
  obtain⟨p1,p2⟩:=amB ok;have n1:(bT l es (aa bs)=true→0<(ba l es (aa bs)).length)∧(bT l es (aa bs)=false→0<(bg l es (aa bs)).length):=⟨fun e=>(p1 e).1,fun e=>(p2 e).1⟩;have n2:(bT l es (aa bs)=true→0<(cQ l es (aa bs)).length)∧(bT l es (aa bs)=false→0<(cY l es (aa bs)).length):=⟨fun e=>(p1 e).2,fun e=>(p2 e).2⟩;obtain⟨w1,w2⟩:=aaf (fs:=fs) (l:=bT l es (aa bs)) (es:=ba l es (aa bs)) (bs:=bg l es (aa bs)) hd hf;refine⟨rfl,rfl,hd,hf,n1,q1,q2,fun h4=> ?_,fun h4=>⟨rfl,rfl,w1,w2,n2,q3,q4, ?_⟩⟩
  ·have h4:(bM th m fu fr fs (bT l es (aa bs)) (ba l es (aa bs)) (bg l es (aa bs))).2.2.2.2.2≠0:=by simpa using h4
   obtain⟨f1,f2⟩:=fin (w:=((bM th m fu fr fs (bT l es (aa bs)) (ba l es (aa bs)) (bg l es (aa bs))).1,(bM th m fu fr fs (bT l es (aa bs)) (ba l es (aa bs)) (bg l es (aa bs))).2.1,(bM th m fu fr fs (bT l es (aa bs)) (ba l es (aa bs)) (bg l es (aa bs))).2.2.1,(bM th m fu fr fs (bT l es (aa bs)) (ba l es (aa bs)) (bg l es (aa bs))).2.2.2.1,[],(bM th m fu fr fs (bT l es (aa bs)) (ba l es (aa bs)) (bg l es (aa bs))).2.2.2.2.2)) (by unfold bp;rw[if_neg (by omega),if_neg h2,if_neg (by rw[h3];simp),if_pos h4]);exact kv ⟨[(0,.ae cB [],Lf.eB)],[0,1],4,[]⟩ rfl (Nat.le_refl _) (o9.same _) f2 f1
  ·have h4:¬(bM th m fu fr fs (bT l es (aa bs)) (ba l es (aa bs)) (bg l es (aa bs))).2.2.2.2.2≠0:=by simpa using h4
   obtain⟨f1,f2⟩:=fin (w:=two (bM th m fu fr fs (bT l es (aa bs)) (ba l es (aa bs)) (bg l es (aa bs))) (bM th (bM th m fu fr fs (bT l es (aa bs)) (ba l es (aa bs)) (bg l es (aa bs))).1 (bM th m fu fr fs (bT l es (aa bs)) (ba l es (aa bs)) (bg l es (aa bs))).2.1 (bM th m fu fr fs (bT l es (aa bs)) (ba l es (aa bs)) (bg l es (aa bs))).2.2.1 (bM th m fu fr fs (bT l es (aa bs)) (ba l es (aa bs)) (bg l es (aa bs))).2.2.2.1 (bT l es (aa bs)) (cQ l es (aa bs)) (cY l es (aa bs)))) (by unfold bp;rw[if_neg (by omega),if_neg h2,if_neg (by rw[h3];simp),if_neg h4]);exact kv ⟨[],[0,1],4,[]⟩ rfl (Nat.le_refl _) (o9.same _) f2 f1
end Ts
namespace Ts
open Go Go.Sx Go.Proofs Lf
abbrev XC:Type:=XT×Int×Int×ByteArray×ByteArray
abbrev fP1:FuncId:=49
abbrev fD1:FuncId:=51
abbrev tO(s:ByteArray):ad:=.own [.s (.str s)] 9
abbrev qT(th:Th)(m:As)(fu root:Int)(fr fs gn:Ws)(key val:ByteArray):List ad:=hT th m fu root fr fs gn++[tO key,tO val]
abbrev qU(th:Th)(m:As)(fu root:Int)(fr fs gn:Ws)(key:ByteArray):List ad:=hT th m fu root fr fs gn++[tO key]
def aow(f:Nat)(th:Th)(m:As)(fu:Int)(fr:Ws)(n deep:Int)(key val:ByteArray):List Prop:=[Ds.bH th m fu,Bx.okW fr,0≤n∧n≤65536,1≤deep∧deep≤17,18≤deep+(f:Int),1≤key.size∧key.size≤24,val.size≤100]
def pP(th:Th)(key:ByteArray)(op:Option ByteArray)(f:Nat)(m:As)(fu:Int)(fr fs gn:Ws)(n deep:Int):As:=(vZ th key op f m fu fr fs gn n deep).1
def pQ(th:Th)(key:ByteArray)(op:Option ByteArray)(f:Nat)(m:As)(fu:Int)(fr fs gn:Ws)(n deep:Int):Int:=(vZ th key op f m fu fr fs gn n deep).2.1
def pR(th:Th)(key:ByteArray)(op:Option ByteArray)(f:Nat)(m:As)(fu:Int)(fr fs gn:Ws)(n deep:Int):Ws:=(vZ th key op f m fu fr fs gn n deep).2.2.1
def qV(th:Th)(key:ByteArray)(op:Option ByteArray)(f:Nat)(m:As)(fu:Int)(fr fs gn:Ws)(n deep:Int):Ws:=(vZ th key op f m fu fr fs gn n deep).2.2.2.1
def r8(th:Th)(key:ByteArray)(op:Option ByteArray)(f:Nat)(m:As)(fu:Int)(fr fs gn:Ws)(n deep:Int):Ws:=(vZ th key op f m fu fr fs gn n deep).2.2.2.2.1
def tp(th:Th)(key:ByteArray)(op:Option ByteArray)(f:Nat)(m:As)(fu:Int)(fr fs gn:Ws)(n deep:Int):List Br:=(vZ th key op f m fu fr fs gn n deep).2.2.2.2.2.1
def r9(th:Th)(key:ByteArray)(op:Option ByteArray)(f:Nat)(m:As)(fu:Int)(fr fs gn:Ws)(n deep:Int):Int:=(vZ th key op f m fu fr fs gn n deep).2.2.2.2.2.2
abbrev xc(f:Nat):Spec XC:=⟨fun(_,n,deep,key,_)=>[.ptr 0 0,bD n,bD deep,.s (.str key),.fn fP1 [.ptr 4 0,.ptr 5 0]],fun((th,m,fu,root,fr,fs,gn),_,_,key,val)=>qT th m fu root fr fs gn key val,
 fun((th,m,fu,_,fr,_,_),n,deep,key,val)=>aow f th m fu fr n deep key val,
 fun((th,m,fu,root,fr,fs,gn),n,deep,key,val)=>qT th (pP th key (some val) f m fu fr fs gn n deep) (pQ th key (some val) f m fu fr fs gn n deep) root (pR th key (some val) f m fu fr fs gn n deep) (qV th key (some val) f m fu fr fs gn n deep) (r8 th key (some val) f m fu fr fs gn n deep) key val++[.vec (.ae cB (tp th key (some val) f m fu fr fs gn n deep)) Lf.eB],
 fun((th,m,fu,_,fr,fs,gn),n,deep,key,val)=>.bo [.vec 6,bD (r9 th key (some val) f m fu fr fs gn n deep)]⟩
abbrev xd(f:Nat):Spec XC:=⟨fun(_,n,deep,key,_)=>[.ptr 0 0,bD n,bD deep,.s (.str key),.fn fD1 [.ptr 4 0]],fun((th,m,fu,root,fr,fs,gn),_,_,key,_)=>qU th m fu root fr fs gn key,
 fun((th,m,fu,_,fr,_,_),n,deep,key,val)=>aow f th m fu fr n deep key val,
 fun((th,m,fu,root,fr,fs,gn),n,deep,key,_)=>qU th (pP th key none f m fu fr fs gn n deep) (pQ th key none f m fu fr fs gn n deep) root (pR th key none f m fu fr fs gn n deep) (qV th key none f m fu fr fs gn n deep) (r8 th key none f m fu fr fs gn n deep) key++[.vec (.ae cB (tp th key none f m fu fr fs gn n deep)) Lf.eB],
 fun((th,m,fu,_,fr,fs,gn),n,deep,key,_)=>.bo [.vec 5,bD (r9 th key none f m fu fr fs gn n deep)]⟩
def ajW(i:Nat):(ByteArray→RM (XC×List Nat))→RM (XC×List Nat):=fun k=>.look i fun o=>match o with
 |some (.own [.s (.str s)] _)=>k s
 |_=>.fail "no text"
def amC:List AV→RM (XC×List Nat)
 |[t,n,d,.s (.str _),.fn _ [.ptr i 0,.ptr j 0]]=>(mT [t]).bind fun(X,σ)=>match n.de,d.de with
  |some (_,_,n),some (_,_,d)=>ajW i fun key=>ajW j fun val=>.ret ((X,n,d,key,val),σ++[i,j])
  |_,_=>.fail "no numbers"
 |_=>.fail "change: arguments"
def amD:List AV→RM (XC×List Nat)
 |[t,n,d,.s (.str _),.fn _ [.ptr i 0]]=>(mT [t]).bind fun(X,σ)=>match n.de,d.de with
  |some (_,_,n),some (_,_,d)=>ajW i fun key=>.ret ((X,n,d,key,ByteArray.empty),σ++[i])
  |_,_=>.fail "no numbers"
 |_=>.fail "change: arguments"
def mNo:List AV→RM ((XT×Int×Int)×List Nat)
 |[t,n,d]=>(mT [t]).bind fun(X,σ)=>match n.de,d.de with
  |some (_,_,n),some (_,_,d)=>.ret ((X,n,d),σ)
  |_,_=>.fail "no numbers"
 |_=>.fail "node: arguments"
def mLv:List AV→RM ((XT×Int)×List Nat)
 |[t,n]=>(mT [t]).bind fun(X,σ)=>match n.de with
  |some (_,_,n)=>.ret ((X,n),σ)
  |_=>.fail "no numbers"
 |_=>.fail "leave: arguments"
abbrev yu:=cI sNo mNo
abbrev ajX:=cI sLv mLv
abbrev yv:=aou (cI sWs mTN)
abbrev aox:=ve [qI,dt,dt] [qI] (fun(l,_,_,())=>[(l:List En).length≤100000,im (bB l)]) (fun(l,key,val,())=>(bz l key val,()))
abbrev aoy:=bZ [qI,dt] [qI,cX] (fun(l,_,())=>[(l:List En).length≤100000,im (bB l)]) (fun(l,key,())=>(cD l key,gq l key,()))
abbrev aqQ:=bZ [w5,dt] [bh] (fun(l,_,())=>[(l:List Br).length≤1000000,im (mr l)]) (fun(l,key,())=>(aT l key,()))
def pa(f:Nat):aE:=[(37,yu),(85,ajX),(66,yv),(50,aox),(39,aqQ),(92,sJ),(80,cI (xc f) amC)]
def pb(f:Nat):aE:=[(37,yu),(85,ajX),(66,yv),(52,aoy),(39,aqQ),(92,sJ),(80,cI (xd f) amD)]
abbrev eN:TypeId:=73
def ad0:List (Nat×Norm):=[(5,⟨[],[0,1,4,12],6,[]⟩),(10,⟨[],[0,1,2,3,4,12],6,[]⟩),(14,⟨[],[0,1,12,13,14,15],6,[]⟩),(18,⟨[],[0,1,12,14,15],6,[]⟩)]
noncomputable def as2(th:Th)(m:As)(fu root:Int)(fr fs gn:Ws)(n:Int)(key val:ByteArray)(es:List En)(bs:List Br):bA:=
 ⟨sl 106 [(0,.ptr 0 0),(1,bD n),(4,.fn fP1 [.ptr 4 0,.ptr 5 0]),(12,.ptr 6 0)],qT th m fu root fr fs gn key val++[ya true es bs eN],hr Tryd.f80 5,{}⟩
noncomputable def aoz(th:Th)(m:As)(fu root:Int)(fr fs gn:Ws)(n deep:Int)(key val:ByteArray)(l:Bool)(es:List En)(bs:List Br):bA:=
 ⟨sl 106 [(0,.ptr 0 0),(1,bD n),(2,bD deep),(3,.s (.str key)),(4,.fn fP1 [.ptr 4 0,.ptr 5 0]),(12,.ptr 6 0)],qT th m fu root fr fs gn key val++[ya l es bs eN],hr Tryd.f80 10,{}⟩
noncomputable def aoA(th:Th)(m:As)(fu root:Int)(fr fs gn:Ws)(n:Int)(key val:ByteArray)(l:Bool)(es:List En)(bs:List Br)(k e:Int)(r:List Br):bA:=
 ⟨sl 106 [(0,.ptr 0 0),(1,bD n),(12,.ptr 6 0),(13,bD e),(14,bD k),(15,.vec 7)],qT th m fu root fr fs gn key val++[ya l es bs eN,.vec (.ae cB r) Lf.eB],hr Tryd.f80 14,{}⟩
noncomputable def aoB(th:Th)(m:As)(fu root:Int)(fr fs gn:Ws)(n:Int)(key val:ByteArray)(l:Bool)(es:List En)(bs:List Br)(k:Int)(r:List Br):bA:=
 ⟨sl 106 [(0,.ptr 0 0),(1,bD n),(12,.ptr 6 0),(14,bD k),(15,.vec 7)],qT th m fu root fr fs gn key val++[ya l es bs eN,.vec (.ae cB r) Lf.eB],hr Tryd.f80 18,{}⟩
theorem avp(f:Nat)(th:Th)(m:As)(fu root:Int)(fr fs gn:Ws)(n deep:Int)(key val:ByteArray):run P (pa f).sum Tryd.f80 ad0 (start Tryd.f80 [.ptr 0 0,bD n,bD deep,.s (.str key),.fn fP1 [.ptr 4 0,.ptr 5 0]] (qT th m fu root fr fs gn key val)) (inl:=[fP1])=
 Tree.need (bt (some [AV.ptr 0 0,.s (.int .i64 n),.s (.int .i64 deep)])) (.need (bt (some [ad.own [.ptr 1 0,.s (.int .i64 root),.ints .u64 16 fr,.ints .u64 16 fs,.ints .u64 16 gn] 70,.own [.vec 2,.ag 3,.s (.int .i64 fu)] 96,.vec (.ae [.arr .u8 64] th) 138,.map (.arr .u8 64) m])) (.need (Ds.bH th m fu) (.need (aF n) (.ite (eZ th m n deep !=0) (.ret [.own [.ptr 1 0,.s (.int .i64 root),.ints .u64 16 fr,.ints .u64 16 fs,.ints .u64 16 gn] 70,.own [.vec 2,.ag 3,.s (.int .i64 fu)] 96,.vec (.ae [.arr .u8 64] th) 138,.map (.arr .u8 64) m,.own [.s (.str key)] 9,.own [.s (.str val)] 9,.own [.s (.bool (kj th m n deep)),.s (.ro (.ae [.str,.str] (bS th m n deep))),.s (.ro (.ae [.str,.int .i64] (aO th m n deep)))] 73] (.bo [.emp,.s (.int .i64 (eZ th m n deep))])) (.ite (kj th m n deep) (.at (.mk (sl 106 [(0,.ptr 0 0),(1,.s (.int .i64 n)),(4,.fn 49 [.ptr 4 0,.ptr 5 0]),(12,.ptr 6 0)]) [.own [.ptr 1 0,.s (.int .i64 root),.ints .u64 16 fr,.ints .u64 16 fs,.ints .u64 16 gn] 70,.own [.vec 2,.ag 3,.s (.int .i64 fu)] 96,.vec (.ae [.arr .u8 64] th) 138,.map (.arr .u8 64) m,.own [.s (.str key)] 9,.own [.s (.str val)] 9,.own [.s (.bool (kj th m n deep)),.s (.ro (.ae [.str,.str] (bS th m n deep))),.s (.ro (.ae [.str,.int .i64] (aO th m n deep)))] 73] (hr Tryd.f80 5) (.mk none false 0 [] 0))) (.at (.mk (sl 106 [(0,.ptr 0 0),(1,.s (.int .i64 n)),(2,.s (.int .i64 deep)),(3,.s (.str key)),(4,.fn 49 [.ptr 4 0,.ptr 5 0]),(12,.ptr 6 0)]) [.own [.ptr 1 0,.s (.int .i64 root),.ints .u64 16 fr,.ints .u64 16 fs,.ints .u64 16 gn] 70,.own [.vec 2,.ag 3,.s (.int .i64 fu)] 96,.vec (.ae [.arr .u8 64] th) 138,.map (.arr .u8 64) m,.own [.s (.str key)] 9,.own [.s (.str val)] 9,.own [.s (.bool (kj th m n deep)),.s (.ro (.ae [.str,.str] (bS th m n deep))),.s (.ro (.ae [.str,.int .i64] (aO th m n deep)))] 73] (hr Tryd.f80 10) (.mk none false 0 [] 0)))))))):=by kernel_rfl
theorem as3(f:Nat)(th:Th)(m:As)(fu root:Int)(fr fs gn:Ws)(n:Int)(key val:ByteArray)(es:List En)(bs:List Br):run P (pa f).sum Tryd.f80 ad0 (as2 th m fu root fr fs gn n key val es bs) (inl:=[fP1])=
 Tree.need (es.length≤100000) (.need (im (bB es)) (.need (bt (some [AV.ptr 0 0,.s (.int .i64 n)])) (.need (bt (some [ad.own [.ptr 1 0,.s (.int .i64 root),.ints .u64 16 fr,.ints .u64 16 fs,.ints .u64 16 gn] 70,.own [.vec 2,.ag 3,.s (.int .i64 fu)] 96,.vec (.ae [.arr .u8 64] th) 138,.map (.arr .u8 64) m])) (.need (bt (some [AV.ptr 0 0,.agg [.s (.bool true),.s (.ro (.ae [.str,.str] (bz es key val))),.s (.ro (.ae [.str,.int .i64] bs))]])) (.need (bt (some [ad.own [.ptr 1 0,.s (.int .i64 root),.ints .u64 16 fr,.ints .u64 16 (jk fs n),.ints .u64 16 (pM fs gn n)] 70,.own [.vec 2,.ag 3,.s (.int .i64 fu)] 96,.vec (.ae [.arr .u8 64] th) 138,.map (.arr .u8 64) m])) (.need (Ds.bH th m fu) (.need (Bx.okW fr) (.need (aae true (bz es key val) bs) (.need (bc (bz es key val)) (.need (bd bs) (.ret [.own [.ptr 1 0,.s (.int .i64 root),.ints .u64 16 (bp th m fu fr (jk fs n) true (bz es key val) bs).snd.snd.fst,.ints .u64 16 (bp th m fu fr (jk fs n) true (bz es key val) bs).snd.snd.snd.fst,.ints .u64 16 (pM fs gn n)] 70,.own [.vec 2,.ag 3,.s (.int .i64 (bp th m fu fr (jk fs n) true (bz es key val) bs).snd.fst)] 96,.vec (.ae [.arr .u8 64] th) 138,.map (.arr .u8 64) (bp th m fu fr (jk fs n) true (bz es key val) bs).fst,.own [.s (.str key)] 9,.own [.s (.str val)] 9,.own [.s (.bool true),.vec 7,.s (.ro (.ae [.str,.int .i64] bs))] 73,.dead,.vec (.ae [.str,.int .i64] (bp th m fu fr (jk fs n) true (bz es key val) bs).snd.snd.snd.snd.fst) 79] (.bo [.vec 8,.s (.int .i64 (bp th m fu fr (jk fs n) true (bz es key val) bs).snd.snd.snd.snd.snd)])))))))))))):=by kernel_rfl
theorem aqR(f:Nat)(th:Th)(m:As)(fu root:Int)(fr fs gn:Ws)(n deep:Int)(key val:ByteArray)(l:Bool)(es:List En)(bs:List Br):run P (pa f).sum Tryd.f80 ad0 (aoz th m fu root fr fs gn n deep key val l es bs) (inl:=[fP1])=
 Tree.ite ((↑bs.length:Int)==0) (.ret [.own [.ptr 1 0,.s (.int .i64 root),.ints .u64 16 fr,.ints .u64 16 fs,.ints .u64 16 gn] 70,.own [.vec 2,.ag 3,.s (.int .i64 fu)] 96,.vec (.ae [.arr .u8 64] th) 138,.map (.arr .u8 64) m,.own [.s (.str key)] 9,.own [.s (.str val)] 9,.own [.s (.bool l),.s (.ro (.ae [.str,.str] es)),.s (.ro (.ae [.str,.int .i64] bs))] 73] (.bo [.emp,.s (.aV .i64 4)]))
 (.need (bs.length≤1000000) (.need (im (mr bs)) (.need ((0:Int)≤aT bs key) (.need (aT bs key<(↑bs.length:Int)) (.need (aF (deep+1)) (.need (bt (some [AV.ptr 0 0,.s (.int .i64 (bs.getD (aT bs key).toNat (CL.d [.str,.int .i64])).snd.fst),.s (.int .i64 (deep+1)),.s (.str key),.fn 49 [.ptr 4 0,.ptr 5 0]])) (.need (bt (some [ad.own [.ptr 1 0,.s (.int .i64 root),.ints .u64 16 fr,.ints .u64 16 fs,.ints .u64 16 gn] 70,.own [.vec 2,.ag 3,.s (.int .i64 fu)] 96,.vec (.ae [.arr .u8 64] th) 138,.map (.arr .u8 64) m,.own [.s (.str key)] 9,.own [.s (.str val)] 9])) (.need (Ds.bH th m fu) (.need (Bx.okW fr) (.need ((0:Int)≤(bs.getD (aT bs key).toNat (CL.d [.str,.int .i64])).snd.fst∧(bs.getD (aT bs key).toNat (CL.d [.str,.int .i64])).snd.fst≤65536) (.need ((1:Int)≤deep+1∧deep+1≤17) (.need ((18:Int)≤deep+1+(↑f:Int)) (.need ((1:Nat)≤key.size∧key.size≤24) (.need (val.size≤100) (.at (.mk (sl 106 [(0,.ptr 0 0),(1,.s (.int .i64 n)),(12,.ptr 6 0),(13,.s (.int .i64 (r9 th key (some val) f m fu fr fs gn (bs.getD (aT bs key).toNat (CL.d [.str,.int .i64])).snd.fst (deep+1)))),(14,.s (.int .i64 (aT bs key))),(15,.vec 7)]) [.own [.ptr 1 0,.s (.int .i64 root),.ints .u64 16 (pR th key (some val) f m fu fr fs gn (bs.getD (aT bs key).toNat (CL.d [.str,.int .i64])).snd.fst (deep+1)),.ints .u64 16 (qV th key (some val) f m fu fr fs gn (bs.getD (aT bs key).toNat (CL.d [.str,.int .i64])).snd.fst (deep+1)),.ints .u64 16 (r8 th key (some val) f m fu fr fs gn (bs.getD (aT bs key).toNat (CL.d [.str,.int .i64])).snd.fst (deep+1))] 70,.own [.vec 2,.ag 3,.s (.int .i64 (pQ th key (some val) f m fu fr fs gn (bs.getD (aT bs key).toNat (CL.d [.str,.int .i64])).snd.fst (deep+1)))] 96,.vec (.ae [.arr .u8 64] th) 138,.map (.arr .u8 64) (pP th key (some val) f m fu fr fs gn (bs.getD (aT bs key).toNat (CL.d [.str,.int .i64])).snd.fst (deep+1)),.own [.s (.str key)] 9,.own [.s (.str val)] 9,.own [.s (.bool l),.s (.ro (.ae [.str,.str] es)),.s (.ro (.ae [.str,.int .i64] bs))] 73,.vec (.ae [.str,.int .i64] (tp th key (some val) f m fu fr fs gn (bs.getD (aT bs key).toNat (CL.d [.str,.int .i64])).snd.fst (deep+1))) 79] (hr Tryd.f80 14) (.mk none false 0 [] 0))))))))))))))))):=by kernel_rfl
theorem aqS(f:Nat)(th:Th)(m:As)(fu root:Int)(fr fs gn:Ws)(n:Int)(key val:ByteArray)(l:Bool)(es:List En)(bs:List Br)(k e:Int)(r:List Br):run P (pa f).sum Tryd.f80 ad0 (aoA th m fu root fr fs gn n key val l es bs k e r) (inl:=[fP1])=
 Tree.ite (e !=0) (.ret [.own [.ptr 1 0,.s (.int .i64 root),.ints .u64 16 fr,.ints .u64 16 fs,.ints .u64 16 gn] 70,.own [.vec 2,.ag 3,.s (.int .i64 fu)] 96,.vec (.ae [.arr .u8 64] th) 138,.map (.arr .u8 64) m,.own [.s (.str key)] 9,.own [.s (.str val)] 9,.own [.s (.bool l),.s (.ro (.ae [.str,.str] es)),.s (.ro (.ae [.str,.int .i64] bs))] 73,.vec (.ae [.str,.int .i64] r) 79] (.bo [.emp,.s (.int .i64 e)])) (.ite (decide ((↑r.length:Int)>0)) (.need ((0:Int)≤k) (.need (k<(↑bs.length:Int)) (.need ((0:Int)≤0) (.need ((0:Int)<(↑r.length:Int)) (.at (.mk (sl 106 [(0,.ptr 0 0),(1,.s (.int .i64 n)),(12,.ptr 6 0),(14,.s (.int .i64 k)),(15,.vec 7)]) [.own [.ptr 1 0,.s (.int .i64 root),.ints .u64 16 fr,.ints .u64 16 fs,.ints .u64 16 gn] 70,.own [.vec 2,.ag 3,.s (.int .i64 fu)] 96,.vec (.ae [.arr .u8 64] th) 138,.map (.arr .u8 64) m,.own [.s (.str key)] 9,.own [.s (.str val)] 9,.own [.s (.bool l),.s (.ro (.ae [.str,.str] es)),.s (.ro (.ae [.str,.int .i64] bs))] 73,.vec (.ae [.str,.int .i64] (r.set 0 ((bs.getD k.toNat (CL.d [.str,.int .i64])).fst,(r.getD 0 (CL.d [.str,.int .i64])).snd))) 79] (hr Tryd.f80 18) (.mk none false 0 [] 0))))))) (.at (.mk (sl 106 [(0,.ptr 0 0),(1,.s (.int .i64 n)),(12,.ptr 6 0),(14,.s (.int .i64 k)),(15,.vec 7)]) [.own [.ptr 1 0,.s (.int .i64 root),.ints .u64 16 fr,.ints .u64 16 fs,.ints .u64 16 gn] 70,.own [.vec 2,.ag 3,.s (.int .i64 fu)] 96,.vec (.ae [.arr .u8 64] th) 138,.map (.arr .u8 64) m,.own [.s (.str key)] 9,.own [.s (.str val)] 9,.own [.s (.bool l),.s (.ro (.ae [.str,.str] es)),.s (.ro (.ae [.str,.int .i64] bs))] 73,.vec (.ae [.str,.int .i64] r) 79] (hr Tryd.f80 18) (.mk none false 0 [] 0)))):=by kernel_rfl
theorem aqT(f:Nat)(th:Th)(m:As)(fu root:Int)(fr fs gn:Ws)(n:Int)(key val:ByteArray)(l:Bool)(es:List En)(bs:List Br)(k:Int)(r:List Br):run P (pa f).sum Tryd.f80 ad0 (aoB th m fu root fr fs gn n key val l es bs k r) (inl:=[fP1])=
 Tree.need ((0:Int)≤0)
 (.need ((0:Int)≤k)
   (.need (k≤(↑bs.length:Int))
     (.need (aF (k+1))
       (.need ((0:Int)≤k+1)
         (.need (k+1≤(↑bs.length:Int))
           (.need ((↑bs.length:Int)≤(↑bs.length:Int))
             (.need ([(List.drop (Int.toNat 0) (List.take k.toNat bs),()),(r,()),(List.drop (k+1).toNat (List.take (↑bs.length:Int).toNat bs),())].length≤100)
               (.need ((b8 [(List.drop (Int.toNat 0) (List.take k.toNat bs),()),(r,()),(List.drop (k+1).toNat (List.take (↑bs.length:Int).toNat bs),())]).length≤100000)
                 (.need (bt (some [AV.ptr 0 0,.s (.int .i64 n)])) (.need (bt (some [ad.own [.ptr 1 0,.s (.int .i64 root),.ints .u64 16 fr,.ints .u64 16 fs,.ints .u64 16 gn] 70,.own [.vec 2,.ag 3,.s (.int .i64 fu)] 96,.vec (.ae [.arr .u8 64] th) 138,.map (.arr .u8 64) m])) (.need (bt (some [AV.ptr 0 0,.agg [.s (.bool l),.s (.ro (.ae [.str,.str] es)),.s (.ro (.ae [.str,.int .i64] (b8 [(List.drop (Int.toNat 0) (List.take k.toNat bs),()),(r,()),(List.drop (k+1).toNat (List.take (↑bs.length:Int).toNat bs),())])))]])) (.need (bt (some [ad.own [.ptr 1 0,.s (.int .i64 root),.ints .u64 16 fr,.ints .u64 16 (jk fs n),.ints .u64 16 (pM fs gn n)] 70,.own [.vec 2,.ag 3,.s (.int .i64 fu)] 96,.vec (.ae [.arr .u8 64] th) 138,.map (.arr .u8 64) m])) (.need (Ds.bH th m fu) (.need (Bx.okW fr) (.need (aae l es (b8 [(List.drop (Int.toNat 0) (List.take k.toNat bs),()),(r,()),(List.drop (k+1).toNat (List.take (↑bs.length:Int).toNat bs),())])) (.need (bc es) (.need (bd (b8 [(List.drop (Int.toNat 0) (List.take k.toNat bs),()),(r,()),(List.drop (k+1).toNat (List.take (↑bs.length:Int).toNat bs),())])) (.ret [.own [.ptr 1 0,.s (.int .i64 root),.ints .u64 16 (bp th m fu fr (jk fs n) l es (b8 [(List.drop (Int.toNat 0) (List.take k.toNat bs),()),(r,()),(List.drop (k+1).toNat (List.take (↑bs.length:Int).toNat bs),())])).snd.snd.fst,.ints .u64 16 (bp th m fu fr (jk fs n) l es (b8 [(List.drop (Int.toNat 0) (List.take k.toNat bs),()),(r,()),(List.drop (k+1).toNat (List.take (↑bs.length:Int).toNat bs),())])).snd.snd.snd.fst,.ints .u64 16 (pM fs gn n)] 70,.own [.vec 2,.ag 3,.s (.int .i64 (bp th m fu fr (jk fs n) l es (b8 [(List.drop (Int.toNat 0) (List.take k.toNat bs),()),(r,()),(List.drop (k+1).toNat (List.take (↑bs.length:Int).toNat bs),())])).snd.fst)] 96,.vec (.ae [.arr .u8 64] th) 138,.map (.arr .u8 64) (bp th m fu fr (jk fs n) l es (b8 [(List.drop (Int.toNat 0) (List.take k.toNat bs),()),(r,()),(List.drop (k+1).toNat (List.take (↑bs.length:Int).toNat bs),())])).fst,.own [.s (.str key)] 9,.own [.s (.str val)] 9,.own [.s (.bool l),.s (.ro (.ae [.str,.str] es)),.vec 9] 73,.dead,.vec (.ae w9 [(List.drop (Int.toNat 0) (List.take k.toNat bs),()),(r,()),(List.drop (k+1).toNat (List.take (↑bs.length:Int).toNat bs),())]) 71,.dead,.vec (.ae [.str,.int .i64] (bp th m fu fr (jk fs n) l es (b8 [(List.drop (Int.toNat 0) (List.take k.toNat bs),()),(r,()),(List.drop (k+1).toNat (List.take (↑bs.length:Int).toNat bs),())])).snd.snd.snd.snd.fst) 79] (.bo [.vec 10,.s (.int .i64 (bp th m fu fr (jk fs n) l es (b8 [(List.drop (Int.toNat 0) (List.take k.toNat bs),()),(r,()),(List.drop (k+1).toNat (List.take (↑bs.length:Int).toNat bs),())])).snd.snd.snd.snd.snd)]))))))))))))))))))):=by kernel_rfl
def ad1:List (Nat×Norm):=[(5,⟨[],[0,1,4,12],5,[]⟩),(10,⟨[],[0,1,2,3,4,12],5,[]⟩),(14,⟨[],[0,1,12,13,14,15],5,[]⟩),(18,⟨[],[0,1,12,14,15],5,[]⟩)]
noncomputable def as4(th:Th)(m:As)(fu root:Int)(fr fs gn:Ws)(n:Int)(key:ByteArray)(es:List En)(bs:List Br):bA:=
 ⟨sl 106 [(0,.ptr 0 0),(1,bD n),(4,.fn fD1 [.ptr 4 0]),(12,.ptr 5 0)],qU th m fu root fr fs gn key++[ya true es bs eN],hr Tryd.f80 5,{}⟩
noncomputable def aoC(th:Th)(m:As)(fu root:Int)(fr fs gn:Ws)(n deep:Int)(key:ByteArray)(l:Bool)(es:List En)(bs:List Br):bA:=
 ⟨sl 106 [(0,.ptr 0 0),(1,bD n),(2,bD deep),(3,.s (.str key)),(4,.fn fD1 [.ptr 4 0]),(12,.ptr 5 0)],qU th m fu root fr fs gn key++[ya l es bs eN],hr Tryd.f80 10,{}⟩
noncomputable def aoD(th:Th)(m:As)(fu root:Int)(fr fs gn:Ws)(n:Int)(key:ByteArray)(l:Bool)(es:List En)(bs:List Br)(k e:Int)(r:List Br):bA:=
 ⟨sl 106 [(0,.ptr 0 0),(1,bD n),(12,.ptr 5 0),(13,bD e),(14,bD k),(15,.vec 6)],qU th m fu root fr fs gn key++[ya l es bs eN,.vec (.ae cB r) Lf.eB],hr Tryd.f80 14,{}⟩
noncomputable def aoE(th:Th)(m:As)(fu root:Int)(fr fs gn:Ws)(n:Int)(key:ByteArray)(l:Bool)(es:List En)(bs:List Br)(k:Int)(r:List Br):bA:=
 ⟨sl 106 [(0,.ptr 0 0),(1,bD n),(12,.ptr 5 0),(14,bD k),(15,.vec 6)],qU th m fu root fr fs gn key++[ya l es bs eN,.vec (.ae cB r) Lf.eB],hr Tryd.f80 18,{}⟩
theorem avq(f:Nat)(th:Th)(m:As)(fu root:Int)(fr fs gn:Ws)(n deep:Int)(key:ByteArray):run P (pb f).sum Tryd.f80 ad1 (start Tryd.f80 [.ptr 0 0,bD n,bD deep,.s (.str key),.fn fD1 [.ptr 4 0]] (qU th m fu root fr fs gn key)) (inl:=[fD1])=
 Tree.need (bt (some [AV.ptr 0 0,.s (.int .i64 n),.s (.int .i64 deep)])) (.need (bt (some [ad.own [.ptr 1 0,.s (.int .i64 root),.ints .u64 16 fr,.ints .u64 16 fs,.ints .u64 16 gn] 70,.own [.vec 2,.ag 3,.s (.int .i64 fu)] 96,.vec (.ae [.arr .u8 64] th) 138,.map (.arr .u8 64) m])) (.need (Ds.bH th m fu) (.need (aF n) (.ite (eZ th m n deep !=0) (.ret [.own [.ptr 1 0,.s (.int .i64 root),.ints .u64 16 fr,.ints .u64 16 fs,.ints .u64 16 gn] 70,.own [.vec 2,.ag 3,.s (.int .i64 fu)] 96,.vec (.ae [.arr .u8 64] th) 138,.map (.arr .u8 64) m,.own [.s (.str key)] 9,.own [.s (.bool (kj th m n deep)),.s (.ro (.ae [.str,.str] (bS th m n deep))),.s (.ro (.ae [.str,.int .i64] (aO th m n deep)))] 73] (.bo [.emp,.s (.int .i64 (eZ th m n deep))])) (.ite (kj th m n deep) (.at (.mk (sl 106 [(0,.ptr 0 0),(1,.s (.int .i64 n)),(4,.fn 51 [.ptr 4 0]),(12,.ptr 5 0)]) [.own [.ptr 1 0,.s (.int .i64 root),.ints .u64 16 fr,.ints .u64 16 fs,.ints .u64 16 gn] 70,.own [.vec 2,.ag 3,.s (.int .i64 fu)] 96,.vec (.ae [.arr .u8 64] th) 138,.map (.arr .u8 64) m,.own [.s (.str key)] 9,.own [.s (.bool (kj th m n deep)),.s (.ro (.ae [.str,.str] (bS th m n deep))),.s (.ro (.ae [.str,.int .i64] (aO th m n deep)))] 73] (hr Tryd.f80 5) (.mk none false 0 [] 0))) (.at (.mk (sl 106 [(0,.ptr 0 0),(1,.s (.int .i64 n)),(2,.s (.int .i64 deep)),(3,.s (.str key)),(4,.fn 51 [.ptr 4 0]),(12,.ptr 5 0)]) [.own [.ptr 1 0,.s (.int .i64 root),.ints .u64 16 fr,.ints .u64 16 fs,.ints .u64 16 gn] 70,.own [.vec 2,.ag 3,.s (.int .i64 fu)] 96,.vec (.ae [.arr .u8 64] th) 138,.map (.arr .u8 64) m,.own [.s (.str key)] 9,.own [.s (.bool (kj th m n deep)),.s (.ro (.ae [.str,.str] (bS th m n deep))),.s (.ro (.ae [.str,.int .i64] (aO th m n deep)))] 73] (hr Tryd.f80 10) (.mk none false 0 [] 0)))))))):=by kernel_rfl
theorem as5(f:Nat)(th:Th)(m:As)(fu root:Int)(fr fs gn:Ws)(n:Int)(key:ByteArray)(es:List En)(bs:List Br):run P (pb f).sum Tryd.f80 ad1 (as4 th m fu root fr fs gn n key es bs) (inl:=[fD1])=
 Tree.need (es.length≤100000) (.need (im (bB es)) (.ite (!gq es key) (.ret [.own [.ptr 1 0,.s (.int .i64 root),.ints .u64 16 fr,.ints .u64 16 fs,.ints .u64 16 gn] 70,.own [.vec 2,.ag 3,.s (.int .i64 fu)] 96,.vec (.ae [.arr .u8 64] th) 138,.map (.arr .u8 64) m,.own [.s (.str key)] 9,.own [.s (.bool true),.emp,.s (.ro (.ae [.str,.int .i64] bs))] 73,.vec (.ae [.str,.str] (cD es key)) 34] (.bo [.emp,.s (.aV .i64 5)])) (.need (bt (some [AV.ptr 0 0,.s (.int .i64 n)])) (.need (bt (some [ad.own [.ptr 1 0,.s (.int .i64 root),.ints .u64 16 fr,.ints .u64 16 fs,.ints .u64 16 gn] 70,.own [.vec 2,.ag 3,.s (.int .i64 fu)] 96,.vec (.ae [.arr .u8 64] th) 138,.map (.arr .u8 64) m])) (.need (bt (some [AV.ptr 0 0,.agg [.s (.bool true),.s (.ro (.ae [.str,.str] (cD es key))),.s (.ro (.ae [.str,.int .i64] bs))]])) (.need (bt (some [ad.own [.ptr 1 0,.s (.int .i64 root),.ints .u64 16 fr,.ints .u64 16 (jk fs n),.ints .u64 16 (pM fs gn n)] 70,.own [.vec 2,.ag 3,.s (.int .i64 fu)] 96,.vec (.ae [.arr .u8 64] th) 138,.map (.arr .u8 64) m])) (.need (Ds.bH th m fu) (.need (Bx.okW fr) (.need (aae true (cD es key) bs) (.need (bc (cD es key)) (.need (bd bs) (.ret [.own [.ptr 1 0,.s (.int .i64 root),.ints .u64 16 (bp th m fu fr (jk fs n) true (cD es key) bs).snd.snd.fst,.ints .u64 16 (bp th m fu fr (jk fs n) true (cD es key) bs).snd.snd.snd.fst,.ints .u64 16 (pM fs gn n)] 70,.own [.vec 2,.ag 3,.s (.int .i64 (bp th m fu fr (jk fs n) true (cD es key) bs).snd.fst)] 96,.vec (.ae [.arr .u8 64] th) 138,.map (.arr .u8 64) (bp th m fu fr (jk fs n) true (cD es key) bs).fst,.own [.s (.str key)] 9,.own [.s (.bool true),.vec 6,.s (.ro (.ae [.str,.int .i64] bs))] 73,.dead,.vec (.ae [.str,.int .i64] (bp th m fu fr (jk fs n) true (cD es key) bs).snd.snd.snd.snd.fst) 79] (.bo [.vec 7,.s (.int .i64 (bp th m fu fr (jk fs n) true (cD es key) bs).snd.snd.snd.snd.snd)]))))))))))))):=by kernel_rfl
theorem aqU(f:Nat)(th:Th)(m:As)(fu root:Int)(fr fs gn:Ws)(n deep:Int)(key:ByteArray)(l:Bool)(es:List En)(bs:List Br):run P (pb f).sum Tryd.f80 ad1 (aoC th m fu root fr fs gn n deep key l es bs) (inl:=[fD1])=
 Tree.ite ((↑bs.length:Int)==0) (.ret [.own [.ptr 1 0,.s (.int .i64 root),.ints .u64 16 fr,.ints .u64 16 fs,.ints .u64 16 gn] 70,.own [.vec 2,.ag 3,.s (.int .i64 fu)] 96,.vec (.ae [.arr .u8 64] th) 138,.map (.arr .u8 64) m,.own [.s (.str key)] 9,.own [.s (.bool l),.s (.ro (.ae [.str,.str] es)),.s (.ro (.ae [.str,.int .i64] bs))] 73] (.bo [.emp,.s (.aV .i64 4)])) (.need (bs.length≤1000000) (.need (im (mr bs)) (.need ((0:Int)≤aT bs key) (.need (aT bs key<(↑bs.length:Int)) (.need (aF (deep+1)) (.need (bt (some [AV.ptr 0 0,.s (.int .i64 (bs.getD (aT bs key).toNat (CL.d [.str,.int .i64])).snd.fst),.s (.int .i64 (deep+1)),.s (.str key),.fn 51 [.ptr 4 0]])) (.need (bt (some [ad.own [.ptr 1 0,.s (.int .i64 root),.ints .u64 16 fr,.ints .u64 16 fs,.ints .u64 16 gn] 70,.own [.vec 2,.ag 3,.s (.int .i64 fu)] 96,.vec (.ae [.arr .u8 64] th) 138,.map (.arr .u8 64) m,.own [.s (.str key)] 9])) (.need (Ds.bH th m fu) (.need (Bx.okW fr) (.need ((0:Int)≤(bs.getD (aT bs key).toNat (CL.d [.str,.int .i64])).snd.fst∧(bs.getD (aT bs key).toNat (CL.d [.str,.int .i64])).snd.fst≤65536) (.need ((1:Int)≤deep+1∧deep+1≤17) (.need ((18:Int)≤deep+1+(↑f:Int)) (.need ((1:Nat)≤key.size∧key.size≤24) (.need (ByteArray.empty.size≤100) (.at (.mk (sl 106 [(0,.ptr 0 0),(1,.s (.int .i64 n)),(12,.ptr 5 0),(13,.s (.int .i64 (r9 th key none f m fu fr fs gn (bs.getD (aT bs key).toNat (CL.d [.str,.int .i64])).snd.fst (deep+1)))),(14,.s (.int .i64 (aT bs key))),(15,.vec 6)]) [.own [.ptr 1 0,.s (.int .i64 root),.ints .u64 16 (pR th key none f m fu fr fs gn (bs.getD (aT bs key).toNat (CL.d [.str,.int .i64])).snd.fst (deep+1)),.ints .u64 16 (qV th key none f m fu fr fs gn (bs.getD (aT bs key).toNat (CL.d [.str,.int .i64])).snd.fst (deep+1)),.ints .u64 16 (r8 th key none f m fu fr fs gn (bs.getD (aT bs key).toNat (CL.d [.str,.int .i64])).snd.fst (deep+1))] 70,.own [.vec 2,.ag 3,.s (.int .i64 (pQ th key none f m fu fr fs gn (bs.getD (aT bs key).toNat (CL.d [.str,.int .i64])).snd.fst (deep+1)))] 96,.vec (.ae [.arr .u8 64] th) 138,.map (.arr .u8 64) (pP th key none f m fu fr fs gn (bs.getD (aT bs key).toNat (CL.d [.str,.int .i64])).snd.fst (deep+1)),.own [.s (.str key)] 9,.own [.s (.bool l),.s (.ro (.ae [.str,.str] es)),.s (.ro (.ae [.str,.int .i64] bs))] 73,.vec (.ae [.str,.int .i64] (tp th key none f m fu fr fs gn (bs.getD (aT bs key).toNat (CL.d [.str,.int .i64])).snd.fst (deep+1))) 79] (hr Tryd.f80 14) (.mk none false 0 [] 0))))))))))))))))):=by kernel_rfl
theorem aqV(f:Nat)(th:Th)(m:As)(fu root:Int)(fr fs gn:Ws)(n:Int)(key:ByteArray)(l:Bool)(es:List En)(bs:List Br)(k e:Int)(r:List Br):run P (pb f).sum Tryd.f80 ad1 (aoD th m fu root fr fs gn n key l es bs k e r) (inl:=[fD1])=
 Tree.ite (e !=0) (.ret [.own [.ptr 1 0,.s (.int .i64 root),.ints .u64 16 fr,.ints .u64 16 fs,.ints .u64 16 gn] 70,.own [.vec 2,.ag 3,.s (.int .i64 fu)] 96,.vec (.ae [.arr .u8 64] th) 138,.map (.arr .u8 64) m,.own [.s (.str key)] 9,.own [.s (.bool l),.s (.ro (.ae [.str,.str] es)),.s (.ro (.ae [.str,.int .i64] bs))] 73,.vec (.ae [.str,.int .i64] r) 79] (.bo [.emp,.s (.int .i64 e)])) (.ite (decide ((↑r.length:Int)>0)) (.need ((0:Int)≤k) (.need (k<(↑bs.length:Int)) (.need ((0:Int)≤0) (.need ((0:Int)<(↑r.length:Int)) (.at (.mk (sl 106 [(0,.ptr 0 0),(1,.s (.int .i64 n)),(12,.ptr 5 0),(14,.s (.int .i64 k)),(15,.vec 6)]) [.own [.ptr 1 0,.s (.int .i64 root),.ints .u64 16 fr,.ints .u64 16 fs,.ints .u64 16 gn] 70,.own [.vec 2,.ag 3,.s (.int .i64 fu)] 96,.vec (.ae [.arr .u8 64] th) 138,.map (.arr .u8 64) m,.own [.s (.str key)] 9,.own [.s (.bool l),.s (.ro (.ae [.str,.str] es)),.s (.ro (.ae [.str,.int .i64] bs))] 73,.vec (.ae [.str,.int .i64] (r.set 0 ((bs.getD k.toNat (CL.d [.str,.int .i64])).fst,(r.getD 0 (CL.d [.str,.int .i64])).snd))) 79] (hr Tryd.f80 18) (.mk none false 0 [] 0))))))) (.at (.mk (sl 106 [(0,.ptr 0 0),(1,.s (.int .i64 n)),(12,.ptr 5 0),(14,.s (.int .i64 k)),(15,.vec 6)]) [.own [.ptr 1 0,.s (.int .i64 root),.ints .u64 16 fr,.ints .u64 16 fs,.ints .u64 16 gn] 70,.own [.vec 2,.ag 3,.s (.int .i64 fu)] 96,.vec (.ae [.arr .u8 64] th) 138,.map (.arr .u8 64) m,.own [.s (.str key)] 9,.own [.s (.bool l),.s (.ro (.ae [.str,.str] es)),.s (.ro (.ae [.str,.int .i64] bs))] 73,.vec (.ae [.str,.int .i64] r) 79] (hr Tryd.f80 18) (.mk none false 0 [] 0)))):=by kernel_rfl
theorem aqW(f:Nat)(th:Th)(m:As)(fu root:Int)(fr fs gn:Ws)(n:Int)(key:ByteArray)(l:Bool)(es:List En)(bs:List Br)(k:Int)(r:List Br):run P (pb f).sum Tryd.f80 ad1 (aoE th m fu root fr fs gn n key l es bs k r) (inl:=[fD1])=
 Tree.need ((0:Int)≤0)
 (.need ((0:Int)≤k)
   (.need (k≤(↑bs.length:Int))
     (.need (aF (k+1))
       (.need ((0:Int)≤k+1)
         (.need (k+1≤(↑bs.length:Int))
           (.need ((↑bs.length:Int)≤(↑bs.length:Int))
             (.need ([(List.drop (Int.toNat 0) (List.take k.toNat bs),()),(r,()),(List.drop (k+1).toNat (List.take (↑bs.length:Int).toNat bs),())].length≤100)
               (.need ((b8 [(List.drop (Int.toNat 0) (List.take k.toNat bs),()),(r,()),(List.drop (k+1).toNat (List.take (↑bs.length:Int).toNat bs),())]).length≤100000)
                 (.need (bt (some [AV.ptr 0 0,.s (.int .i64 n)])) (.need (bt (some [ad.own [.ptr 1 0,.s (.int .i64 root),.ints .u64 16 fr,.ints .u64 16 fs,.ints .u64 16 gn] 70,.own [.vec 2,.ag 3,.s (.int .i64 fu)] 96,.vec (.ae [.arr .u8 64] th) 138,.map (.arr .u8 64) m])) (.need (bt (some [AV.ptr 0 0,.agg [.s (.bool l),.s (.ro (.ae [.str,.str] es)),.s (.ro (.ae [.str,.int .i64] (b8 [(List.drop (Int.toNat 0) (List.take k.toNat bs),()),(r,()),(List.drop (k+1).toNat (List.take (↑bs.length:Int).toNat bs),())])))]])) (.need (bt (some [ad.own [.ptr 1 0,.s (.int .i64 root),.ints .u64 16 fr,.ints .u64 16 (jk fs n),.ints .u64 16 (pM fs gn n)] 70,.own [.vec 2,.ag 3,.s (.int .i64 fu)] 96,.vec (.ae [.arr .u8 64] th) 138,.map (.arr .u8 64) m])) (.need (Ds.bH th m fu) (.need (Bx.okW fr) (.need (aae l es (b8 [(List.drop (Int.toNat 0) (List.take k.toNat bs),()),(r,()),(List.drop (k+1).toNat (List.take (↑bs.length:Int).toNat bs),())])) (.need (bc es) (.need (bd (b8 [(List.drop (Int.toNat 0) (List.take k.toNat bs),()),(r,()),(List.drop (k+1).toNat (List.take (↑bs.length:Int).toNat bs),())])) (.ret [.own [.ptr 1 0,.s (.int .i64 root),.ints .u64 16 (bp th m fu fr (jk fs n) l es (b8 [(List.drop (Int.toNat 0) (List.take k.toNat bs),()),(r,()),(List.drop (k+1).toNat (List.take (↑bs.length:Int).toNat bs),())])).snd.snd.fst,.ints .u64 16 (bp th m fu fr (jk fs n) l es (b8 [(List.drop (Int.toNat 0) (List.take k.toNat bs),()),(r,()),(List.drop (k+1).toNat (List.take (↑bs.length:Int).toNat bs),())])).snd.snd.snd.fst,.ints .u64 16 (pM fs gn n)] 70,.own [.vec 2,.ag 3,.s (.int .i64 (bp th m fu fr (jk fs n) l es (b8 [(List.drop (Int.toNat 0) (List.take k.toNat bs),()),(r,()),(List.drop (k+1).toNat (List.take (↑bs.length:Int).toNat bs),())])).snd.fst)] 96,.vec (.ae [.arr .u8 64] th) 138,.map (.arr .u8 64) (bp th m fu fr (jk fs n) l es (b8 [(List.drop (Int.toNat 0) (List.take k.toNat bs),()),(r,()),(List.drop (k+1).toNat (List.take (↑bs.length:Int).toNat bs),())])).fst,.own [.s (.str key)] 9,.own [.s (.bool l),.s (.ro (.ae [.str,.str] es)),.vec 8] 73,.dead,.vec (.ae w9 [(List.drop (Int.toNat 0) (List.take k.toNat bs),()),(r,()),(List.drop (k+1).toNat (List.take (↑bs.length:Int).toNat bs),())]) 71,.dead,.vec (.ae [.str,.int .i64] (bp th m fu fr (jk fs n) l es (b8 [(List.drop (Int.toNat 0) (List.take k.toNat bs),()),(r,()),(List.drop (k+1).toNat (List.take (↑bs.length:Int).toNat bs),())])).snd.snd.snd.snd.fst) 79] (.bo [.vec 9,.s (.int .i64 (bp th m fu fr (jk fs n) l es (b8 [(List.drop (Int.toNat 0) (List.take k.toNat bs),()),(r,()),(List.drop (k+1).toNat (List.take (↑bs.length:Int).toNat bs),())])).snd.snd.snd.snd.snd)]))))))))))))))))))):=by kernel_rfl
end Ts
namespace Ts
open Go Go.Sx Go.Proofs Lf
def TN:Nat→Type
 |0=>Int×List En
 |h+1=>Int×List (ByteArray×TN h)
abbrev Kd(h:Nat):Type:=ByteArray×TN h
def pg:(h:Nat)→TN h→Int
 |0,t=>t.1
 |_+1,t=>t.1
def dz:(h:Nat)→TN h→List En
 |0,t=>t.2
 |h+1,t=>t.2.flatMap fun k=>dz h k.2
def mF:(h:Nat)→TN h→List Int
 |0,t=>[t.1]
 |h+1,t=>t.1::t.2.flatMap fun k=>mF h k.2
def cO(h:Nat)(k:Kd h):Br:=(k.1,pg h k.2,())
def bJ(h:Nat)(ks:List (Kd h)):List En:=ks.flatMap fun k=>dz h k.2
def bP(h:Nat)(ks:List (Kd h)):List Int:=ks.flatMap fun k=>mF h k.2
def rep(th:Th)(m:As):(h:Nat)→TN h→Prop
 |0,t=>Rd th m t.1 true t.2 []
 |h+1,t=>Rd th m t.1 false [] (t.2.map (cO h))∧∀k∈t.2,rep th m h k.2
def aag(h:Nat)(ks:List (Kd h)):Prop:=ks.Pairwise (fun a b=>∀e∈dz h a.2,slt e.1 b.1=true)∧∀k∈ks,∀e∈dz h k.2,slt e.1 k.1=false
def bU{h:Nat}:List (Kd h)→List (Kd h)
 |[]=>[]
 |k::r=>(ByteArray.empty,k.2)::r
def b9{h:Nat}(s:ByteArray):List (Kd h)→List (Kd h)
 |[]=>[]
 |k::r=>(s,k.2)::r
def lU(h:Nat)(ks:List (Kd h)):Int:=bk [] (ks.map (cO h))
def mH:(h:Nat)→TN h→Prop
 |0,t=>t.2≠[]∧jE t.2=true∧bk t.2 []≤254
 |h+1,t=>t.2≠[]∧bU t.2=t.2∧gm (t.2.map (cO h))=true∧lU h t.2≤254∧aag h t.2∧∀k∈t.2,mH h k.2
def xe(n:Int):Nat:=(n - 155).toNat
def tq:(h:Nat)→TN h→Nat
 |0,_=>0
 |h+1,t=>3^(h+1)*(19+xe (lU h t.2))+(t.2.map fun k=>tq h k.2).sum
def eV(h:Nat)(ks:List (Kd h)):Nat:=(ks.map fun k=>tq h k.2).sum
theorem sd{h:Nat}(t:TN (h+1)):dz (h+1) t=bJ h t.2:=rfl
theorem ajY{h:Nat}(t:TN (h+1)):tq (h+1) t=3^(h+1)*(19+xe (lU h t.2))+eV h t.2:=rfl
theorem se:∀(h:Nat) (t:TN h),pg h t∈mF h t
 |0,t=>List.mem_singleton.2 rfl
 |h+1,t=>List.mem_cons_self
theorem qW:∀(h:Nat) {t:TN h},mH h t→dz h t≠[]
 |0,t,ok=>ok.1
 |h+1,t,ok=>by
  obtain⟨h1,_,_,_,_,h6⟩:=ok;obtain⟨k,r,e⟩:=List.exists_cons_of_ne_nil h1;have:=qW h (h6 k (by rw[e];exact List.mem_cons_self));rw[sd,e];show dz h k.2++_≠[];intro hn;exact this (List.append_eq_nil_iff.1 hn).1
theorem jN{h:Nat}(a b:List (Kd h)):bJ h (a++b)=bJ h a++bJ h b:=List.flatMap_append
theorem qX{h:Nat}(a b:List (Kd h)):bP h (a++b)=bP h a++bP h b:=List.flatMap_append
theorem qY{h:Nat}(a b:List (Kd h)):eV h (a++b)=eV h a+eV h b:=by simp[eV]
theorem fz{h:Nat}(k:Kd h)(r:List (Kd h)):bJ h (k::r)=dz h k.2++bJ h r:=rfl
theorem gH{h:Nat}(k:Kd h)(r:List (Kd h)):bP h (k::r)=mF h k.2++bP h r:=rfl
theorem gI{h:Nat}(k:Kd h)(r:List (Kd h)):eV h (k::r)=tq h k.2+eV h r:=by simp[eV]
theorem jO{h:Nat}(ks:List (Kd h)):aa (ks.map (cO h))=(bU ks).map (cO h):=by cases ks<;>rfl
theorem ab1{h:Nat}(s:ByteArray)(ks:List (Kd h)):kT s (ks.map (cO h))=(b9 s ks).map (cO h):=by cases ks<;>rfl
theorem ahk(s s':ByteArray)(l:List Br):kT s (kT s' l)=kT s l:=by cases l<;>rfl
theorem wb{h:Nat}(ks:List (Kd h)):bU (bU ks)=bU ks:=by cases ks<;>rfl
theorem ahl{h:Nat}(s:ByteArray)(ks:List (Kd h)):bU (b9 s ks)=bU ks:=by cases ks<;>rfl
theorem pS{h:Nat}(ks:List (Kd h)):bJ h (bU ks)=bJ h ks:=by cases ks<;>rfl
theorem yw{h:Nat}(ks:List (Kd h)):bP h (bU ks)=bP h ks:=by cases ks<;>rfl
theorem yx{h:Nat}(ks:List (Kd h)):eV h (bU ks)=eV h ks:=by cases ks<;>rfl
theorem ahm{h:Nat}(s:ByteArray)(ks:List (Kd h)):bJ h (b9 s ks)=bJ h ks:=by cases ks<;>rfl
theorem ajZ{h:Nat}(s:ByteArray)(ks:List (Kd h)):bP h (b9 s ks)=bP h ks:=by cases ks<;>rfl
theorem aj0{h:Nat}(s:ByteArray)(ks:List (Kd h)):eV h (b9 s ks)=eV h ks:=by cases ks<;>rfl
theorem gJ{h:Nat}{ks:List (Kd h)}{k:Kd h}(hk:k∈bU ks):∃k'∈ks,k'.2=k.2∧(k.1=ByteArray.empty∨k=k'):=by
 cases ks with
 |nil=>cases hk
 |cons a r=>
  rcases List.mem_cons.1 hk with rfl|h
  ·exact⟨a,List.mem_cons_self,rfl,.inl rfl⟩
  ·exact⟨k,List.mem_cons_of_mem _ h,rfl,.inr rfl⟩
theorem wc(x:Br):3≤pJ x:=by unfold pJ;omega
theorem aj1(x:En):2≤oX x:=by unfold oX;omega
def ie(bs:List Br):Int:=(bs.map pJ).sum
theorem nN:ie []=0:=rfl
theorem dj(b:Br)(r:List Br):ie (b::r)=pJ b+ie r:=by simp[ie]
theorem we(a b:List Br):ie (a++b)=ie a+ie b:=by simp[ie]
theorem amE(bs:List Br):0≤ie bs:=by
 induction bs with
 |nil=>simp[nN]
 |cons b r ih=>rw[dj];have:=wc b;omega
theorem ad2{h:Nat}(ks:List (Kd h)):lU h ks=1+ie (ks.map (cO h)):=by
 unfold lU bk ie;simp
theorem sf(bs:List Br):ie (aa bs)≤ie bs:=by
 cases bs with
 |nil=>exact Int.le_refl _
 |cons b r=>
  rw[aa,dj,dj];have:pJ (ByteArray.empty,b.2.1,())=3:=rfl;have:=wc b;omega
theorem gf{bs:List Br}:gm bs=true↔(∀b∈bs,b.1.size≤24∧2≤b.2.1∧b.2.1<1024)∧bs.Pairwise fun a b=>slt a.1 b.1=true:=by
 constructor
 ·intro h;refine⟨fun b hb=>abI h hb, ?_⟩;have hs:=ap6 h;rw[List.pairwise_iff_getElem];intro i j hi hj kp;have:=hs i j kp (by simpa using hj);rw[cC bs agY dB i,cC bs agY dB j,bm hi,bm hj]at this;exact this
 ·rintro⟨h1,h2⟩;refine cV.2 fun i hi=>qQ.2 ?_;obtain⟨a,b,c⟩:=h1 (bs.getD i dB) (by rw[bm hi];exact List.getElem_mem hi);refine⟨by omega,by omega,by omega,fun h0=> ?_⟩;rw[List.pairwise_iff_getElem]at h2;have:=h2 (i - 1) i (by omega) hi (by omega);rw[bm (by omega),bm hi];exact this
theorem amF{a b:ByteArray}(h:slt a b=true):slt ByteArray.empty b=true:=by
 rcases gF ByteArray.empty b with h1|h1|h1
 ·exact h1
 ·subst h1;rw[gG]at h;cases h
 ·rw[gG]at h1;cases h1
theorem yy{bs:List Br}(h:gm bs=true):gm (aa bs)=true:=by
 rw[gf]at h ⊢;cases bs with
 |nil=>exact h
 |cons b r=>
  obtain⟨h1,h2⟩:=h;rw[List.pairwise_cons]at h2;refine⟨fun x hx=> ?_, ?_⟩
  ·rcases List.mem_cons.1 hx with rfl|hx
   ·have:=h1 b List.mem_cons_self;exact⟨Nat.zero_le 24,this.2⟩
   ·exact h1 x (List.mem_cons_of_mem _ hx)
  ·rw[aa,List.pairwise_cons];exact⟨fun x hx=>amF (h2.1 x hx),h2.2⟩
theorem wg{es:List En}:jE es=true↔(∀e∈es,1≤e.1.size∧e.1.size≤24∧e.2.1.size≤100)∧im (bB es):=by
 constructor
 ·intro h;refine⟨fun e he=> ?_,asv h⟩;obtain⟨i,hi,rfl⟩:=List.getElem_of_mem he;obtain⟨a,b,c,_⟩:=oz.1 (cV.1 h i hi);rw[bm hi]at a b c;exact⟨by omega,by omega,by omega⟩
 ·rintro⟨h1,h2⟩;refine cV.2 fun i hi=>oz.2 ?_;obtain⟨a,b,c⟩:=h1 (es.getD i dE) (by rw[bm hi];exact List.getElem_mem hi);refine⟨by omega,by omega,by omega,fun h0=> ?_⟩;have:=h2 (i - 1) i (by omega) (by simpa using hi);rw[cC es pI dE,cC es pI dE]at this;exact this
end Ts
