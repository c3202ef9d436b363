/- Lemmas: L7, Lm, R4, R6, R7, R8, SxRoom, R9, R10, Bx1, Bx2, Bx3, Bx4, Bx5, Bx6, M0, Bx7, L7r, SxWeak, N1, N2, N3, N4, Rp, Hq, M1, N5, SxTup, N6, N7, M2, M3, N8. -/
import Derived.Test.YthhcofcdkdknoaaGreatDoorProg
import Derived.Lib.TrailingZeros
import Derived.Shelf.Spec.TrailingZeros
import Derived.Test.YthhcofcdkdknoaaGreatDoorRows
import Derived.WalkKit
import Derived.WalkSpells
import Derived.WalkLawsBesides
import Derived.Test.YthhcofcdkdknoaaGreatDoorPC
open Array (getD_eq_getD_getElem? length_toList)
open Bool (and_eq_true cond_eq_ite not_eq_true')
open ByteArray (empty)
open Int (toNat_natCast)
open List (append_assoc append_nil getElem?_append_left getElem?_append_right getElem?_eq_getElem getElem?_eq_none getElem?_eq_some_iff getElem?_set getElem?_take getElem_mem length_append length_cons length_drop length_map length_nil length_take map_append map_cons map_nil mem_append mem_append_right mem_cons mem_cons_of_mem mem_cons_self mem_flatMap mem_map mem_range mem_singleton nil_append nodup_append pairwise_cons replicate sum_cons take_of_length_le)
open Nat (add_zero le_of_ble_eq_true le_refl le_trans lt_or_ge zero_add zero_le)
open Option (getD_some isSome_iff_exists)
open World (cell?)
namespace Lf
open Go Go.Sx Go.Proofs
def avO(a b:List En):Bool:=decide (a=b)
def avP(a b:List Br):Bool:=decide (a=b)
def lA(k:Int)(s:ByteArray):ByteArray:=if k>(s.size:Int)then empty else s.extract 0 k.toNat
def uF(k:Int)(s:ByteArray):Bool:= !decide (k>(s.size:Int))
def pY(k:Int)(s:ByteArray):ByteArray:=if k>(s.size:Int)then s else s.extract k.toNat s.size
def xo:Spec (Int×ByteArray):=⟨λx=>[.s (.int .i64 x.1),.an 0 0],λx=>[.ay [.s (.ag x.2)] 9],λx=>[0<=x.1],λx=>[.ay [.s (.ag (pY x.1 x.2))] 9],λx=>.bD [.s (.ag (lA x.1 x.2)),.s (.bool (uF x.1 x.2))]⟩
def aht:List AV->RM ((Int×ByteArray)×List Nat)
 |[.s (.int .i64 k),.an id 0]=>.aA id λ
  |some (.ay [.s (.ag s)] _)=>.ret ((k,s),[id])
  |_=>.fail "take: no text"
 |[.s (.aZ .i64 k),.an id 0]=>.aA id λ
  |some (.ay [.s (.ag s)] _)=>.ret ((k,s),[id])
  |_=>.fail "take: no text"
 |_=>.fail "take"
def rdK(s:ByteArray):Int:=aN (lA 1 s) 0
def zT(s:ByteArray):ByteArray:=if uF 1 s=true then lA (rdK s) (pY 1 s)else empty
def yI(s:ByteArray):Bool:=uF 1 s&&uF (rdK s) (pY 1 s)
def iT(s:ByteArray):ByteArray:=if uF 1 s=true then pY (rdK s) (pY 1 s)else pY 1 s
def adv:Spec ByteArray:=⟨λ_=>[.an 0 0],λs=>[.ay [.fn 164 [.an 1 0]] 237,.ay [.s (.ag s)] 9],λ_=>[],λs=>[.ay [.fn 164 [.an 1 0]] 237,.ay [.s (.ag (iT s))] 9],λs=>.bD [.s (.ag (zT s)),.s (.bool (yI s))]⟩
def arz:List AV->RM (ByteArray×List Nat)
 |[.an id 0]=>.aA id λ
  |some (.ay [.fn _ [.an j 0]] _)=>.aA j λ
   |some (.ay [.s (.ag s)] _)=>.ret (s,[id,j])
   |_=>.fail "text: no text"
  |_=>.fail "text: no take"
 |_=>.fail "text"
def ahu:aR:=[(164,cC xo aht)]
def xp:aR:=[(164,cC xo aht),(165,cC adv arz),(166,atj)]
def ahv:List (Nat×Norm):=[(7,⟨[],[1,2],0,[]⟩),(11,⟨[],[1,2,4,5,6],0,[(2,1,false,.az cE [],eE),(2,2,false,.az cB [],eB)]⟩),(22,⟨[],[1,2,4,5,6,8],0,[]⟩)]
def obZ:au:=.ay [.s (.bool false),.emp,.emp] 131
noncomputable def ahw(s:ByteArray):cn:=⟨sl 93 [(1,.an 0 0),(2,.an 1 0)],[.ay [.s (.ag s)] 9,obZ],hr Tryz.f125 7,{}⟩
noncomputable def atl(s:ByteArray)(l:Bool)(es:List En)(bs:List Br):cn:=⟨sl 93 [(1,.an 0 0),(2,.an 1 0),(4,.an 2 0),(5,.an 3 0),(6,.fn 165 [.an 3 0])],[.ay [.s (.ag s)] 9,obZ,.ay [.s (.bool l),.aq 4,.aq 5] 131,.ay [.fn 164 [.an 0 0]] 237,.aq (.az cE es) eE,.aq (.az cB bs) eB],hd Tryz.f125 11,{}⟩
noncomputable def xq(s:ByteArray)(l:Bool)(es:List En)(bs:List Br)(is:Bool):cn:=⟨sl 93 [(1,.an 0 0),(2,.an 1 0),(4,.an 2 0),(5,.an 3 0),(6,.fn 165 [.an 3 0]),(8,.s (.bool is))],[.ay [.s (.ag s)] 9,obZ,.ay [.s (.bool l),.aq 4,.aq 5] 131,.ay [.fn 164 [.an 0 0]] 237,.aq (.az cE es) eE,.aq (.az cB bs) eB],hr Tryz.f125 22,{}⟩
theorem al7(k:Int)(s:ByteArray):run P iU.sum Tryz.f164 [] (start Tryz.f164 [.s (.int .i64 k),.an 0 0] [.ay [.s (.ag s)] 9])=
 Tree.ite (decide (k>(↑s.size:Int))) (.ret [.ay [.s (.ag s)] 9] (.bD [.s (.ag empty),.s (.aT false)])) (.ab ((0:Int)<=0) (.ab ((0:Int)<=k) (.ab (k<=(↑s.size:Int)) (.ab ((0:Int)<=k) (.ab (k<=(↑s.size:Int)) (.ab ((↑s.size:Int)<=(↑s.size:Int)) (.ret [.ay [.s (.ag (s.extract k.toNat (↑s.size:Int).toNat))] 9] (.bD [.s (.ag (s.extract (Int.toNat 0) k.toNat)),.s (.aT true)])))))))):=by kernel_rfl
theorem al8(s:ByteArray):run P ahu.sum Tryz.f165 [] (start Tryz.f165 [.an 0 0] [.ay [.fn 164 [.an 1 0]] 237,.ay [.s (.ag s)] 9])=
 Tree.ab (bx (some [AV.s (.int .i64 1),.an 0 0])) (.ab (bx (some [au.ay [.s (.ag s)] 9])) (.ab ((0:Int)<=1) (.ite (!uF 1 s) (.ret [.ay [.fn 164 [.an 1 0]] 237,.ay [.s (.ag (pY 1 s))] 9] (.bD [.s (.ag empty),.s (.aT false)])) (.ab ((0:Int)<=0) (.ab ((0:Int)<(↑(lA 1 s).size:Int)) (.ab (aG (aN (lA 1 s) (Int.toNat 0))) (.ab (bx (some [AV.s (.int .i64 (aN (lA 1 s) (Int.toNat 0))),.an 0 0])) (.ab (bx (some [au.ay [.s (.ag (pY 1 s))] 9])) (.ab ((0:Int)<=aN (lA 1 s) (Int.toNat 0)) (.ret [.ay [.fn 164 [.an 1 0]] 237,.ay [.s (.ag (pY (aN (lA 1 s) (Int.toNat 0)) (pY 1 s)))] 9] (.bD [.s (.ag (lA (aN (lA 1 s) (Int.toNat 0)) (pY 1 s))),.s (.bool (uF (aN (lA 1 s) (Int.toNat 0)) (pY 1 s)))]))))))))))):=by kernel_rfl
theorem ao4(s:ByteArray):run P xp.sum Tryz.f125 ahv (start Tryz.f125 [.s (.ag s)] [])=
 Tree.ite (decide ((↑s.size:Int)>254)) (.ret [.ay [.s (.ag s)] 9,.ay [.s (.aT false),.emp,.emp] 131] (.bD [.agg [.s (.aT false),.emp,.emp],.s (.aZ .i64 40)])) (.ite (decide (s=empty)) (.ret [.ay [.s (.ag s)] 9,.ay [.s (.aT false),.emp,.emp] 131] (.bD [.agg [.s (.aT false),.emp,.emp],.s (.aZ .i64 8)])) (.ab ((0:Int)<=0) (.ab ((0:Int)<(↑s.size:Int)) (.ite (aN s (Int.toNat 0) !=1) (.ab ((0:Int)<=0) (.ab ((0:Int)<(↑s.size:Int)) (.ite (aN s (Int.toNat 0) !=2) (.ret [.ay [.s (.ag s)] 9,.ay [.s (.aT false),.emp,.emp] 131] (.bD [.agg [.s (.aT false),.emp,.emp],.s (.aZ .i64 4)])) (.at (ahw s))))) (.at (ahw s)))))):=by kernel_rfl
theorem al9(s:ByteArray):run P xp.sum Tryz.f125 ahv (ahw s)=
 Tree.ab ((0:Int)<=0) (.ab ((0:Int)<(↑s.size:Int)) (.ab ((0:Int)<=1) (.ab ((1:Int)<=(↑s.size:Int)) (.ab ((↑s.size:Int)<=(↑s.size:Int)) (.at (.mk (sl 93 [(1,.an 0 0),(2,.an 1 0),(4,.an 2 0),(5,.an 3 0),(6,.fn 165 [.an 3 0])]) [.ay [.s (.ag (s.extract (Int.toNat 1) (↑s.size:Int).toNat))] 9,.ay [.s (.bool false),.emp,.emp] 131,.ay [.s (.bool (aN s (Int.toNat 0)==1)),.aq 4,.aq 5] 131,.ay [.fn 164 [.an 0 0]] 237,.aq (.az [.ag,.ag] []) 66,.aq (.az [.ag,.int .i64] []) 137] (hd Tryz.f125 11) (.mk none false 0 [] 0))))))):=by kernel_rfl
theorem ahx(s:ByteArray)(l:Bool)(es:List En)(bs:List Br):run P xp.sum Tryz.f125 ahv (atl s l es bs)=
 Tree.ite (!decide (s=empty))
 (Tree.ab (bx (some [AV.an (0:Nat) (0:Nat)]))
   (Tree.ab (bx (some [au.ay [AV.fn (164:Nat) [AV.an (1:Nat) (0:Nat)]] (237:Nat),au.ay [AV.s (SV.ag s)] (9:Nat)]))
     (Tree.ite l (Tree.ite (yI s) (Tree.ab (bx (some [AV.an (0:Nat) (0:Nat)])) (Tree.ab (bx (some [au.ay [AV.fn (164:Nat) [AV.an (1:Nat) (0:Nat)]] (237:Nat),au.ay [AV.s (SV.ag (iT s))] (9:Nat)])) (Tree.ab ((es.length+(1:Nat))*(32:Nat)≤(140737488355328:Nat)) (Tree.at (cn.mk (sl (93:Nat) [((1:Nat),AV.an (0:Nat) (0:Nat)),((2:Nat),AV.an (1:Nat) (0:Nat)),((4:Nat),AV.an (2:Nat) (0:Nat)),((5:Nat),AV.an (3:Nat) (0:Nat)),((6:Nat),AV.fn (165:Nat) [AV.an (3:Nat) (0:Nat)]),((8:Nat),AV.s (SV.bool (yI (iT s))))]) [au.ay [AV.s (SV.ag (iT (iT s)))] (9:Nat),au.ay [AV.s (SV.bool false),AV.emp,AV.emp] (131:Nat),au.ay [AV.s (SV.bool l),AV.aq (4:Nat),AV.aq (5:Nat)] (131:Nat),au.ay [AV.fn (164:Nat) [AV.an (0:Nat) (0:Nat)]] (237:Nat),au.aq (a8.az [CK.ag,CK.ag] (es++[(zT s,zT (iT s),())])) (66:Nat),au.aq (a8.az [CK.ag,CK.int IntKind.i64] bs) (137:Nat)] (hr Tryz.f125 (22:Nat)) (ur.mk none false (0:Nat) [] (0:Nat))))))) (Tree.ite (yI s) (Tree.ab (bx (some [AV.s (SV.int IntKind.i64 (2:Int)),AV.an (0:Nat) (0:Nat)])) (Tree.ab (bx (some [au.ay [AV.s (SV.ag (iT s))] (9:Nat)])) (Tree.ab ((0:Int)≤(2:Int)) (Tree.ite (uF (2:Int) (iT s)) (Tree.ab ((0:Int)≤(0:Int)) (Tree.ab ((0:Int)<(↑(lA (2:Int) (iT s)).size:Int)) (Tree.ab (aG (aN (lA (2:Int) (iT s)) (Int.toNat (0:Int)))) (Tree.ab ((0:Int)≤(8:Int)) (Tree.ab ((0:Int)≤(1:Int)) (Tree.ab ((1:Int)<(↑(lA (2:Int) (iT s)).size:Int)) (Tree.ab (aG (aN (lA (2:Int) (iT s)) (Int.toNat (1:Int)))) (Tree.ab ((bs.length+(1:Nat))*(24:Nat)≤(140737488355328:Nat)) (Tree.at (cn.mk (sl (93:Nat) [((1:Nat),AV.an (0:Nat) (0:Nat)),((2:Nat),AV.an (1:Nat) (0:Nat)),((4:Nat),AV.an (2:Nat) (0:Nat)),((5:Nat),AV.an (3:Nat) (0:Nat)),((6:Nat),AV.fn (165:Nat) [AV.an (3:Nat) (0:Nat)]),((8:Nat),AV.s (SV.bool (uF (2:Int) (iT s))))]) [au.ay [AV.s (SV.ag (pY (2:Int) (iT s)))] (9:Nat),au.ay [AV.s (SV.bool false),AV.emp,AV.emp] (131:Nat),au.ay [AV.s (SV.bool l),AV.aq (4:Nat),AV.aq (5:Nat)] (131:Nat),au.ay [AV.fn (164:Nat) [AV.an (0:Nat) (0:Nat)]] (237:Nat),au.aq (a8.az [CK.ag,CK.ag] es) (66:Nat),au.aq (a8.az [CK.ag,CK.int IntKind.i64] (bs++[(zT s,bJ BinOp.or IntKind.i64 (IntKind.i64.wrap (aN (lA (2:Int) (iT s)) (Int.toNat (0:Int))*(2:Int)^min (Int.toNat (8:Int)) IntKind.i64.bits)) (aN (lA (2:Int) (iT s)) (Int.toNat (1:Int))),())])) (137:Nat)] (hr Tryz.f125 (22:Nat)) (ur.mk none false (0:Nat) [] (0:Nat)))))))))))) (Tree.at (xq (pY (2:Int) (iT s)) l es bs (uF (2:Int) (iT s)))))))) (Tree.at (xq (iT s) l es bs (yI s)))))
       (Tree.ite (yI s) (Tree.ab (bx (some [AV.s (SV.int IntKind.i64 (2:Int)),AV.an (0:Nat) (0:Nat)])) (Tree.ab (bx (some [au.ay [AV.s (SV.ag (iT s))] (9:Nat)])) (Tree.ab ((0:Int)≤(2:Int)) (Tree.ite (uF (2:Int) (iT s)) (Tree.ab ((0:Int)≤(0:Int)) (Tree.ab ((0:Int)<(↑(lA (2:Int) (iT s)).size:Int)) (Tree.ab (aG (aN (lA (2:Int) (iT s)) (Int.toNat (0:Int)))) (Tree.ab ((0:Int)≤(8:Int)) (Tree.ab ((0:Int)≤(1:Int)) (Tree.ab ((1:Int)<(↑(lA (2:Int) (iT s)).size:Int)) (Tree.ab (aG (aN (lA (2:Int) (iT s)) (Int.toNat (1:Int)))) (Tree.ab ((bs.length+(1:Nat))*(24:Nat)≤(140737488355328:Nat)) (Tree.at (cn.mk (sl (93:Nat) [((1:Nat),AV.an (0:Nat) (0:Nat)),((2:Nat),AV.an (1:Nat) (0:Nat)),((4:Nat),AV.an (2:Nat) (0:Nat)),((5:Nat),AV.an (3:Nat) (0:Nat)),((6:Nat),AV.fn (165:Nat) [AV.an (3:Nat) (0:Nat)]),((8:Nat),AV.s (SV.bool (uF (2:Int) (iT s))))]) [au.ay [AV.s (SV.ag (pY (2:Int) (iT s)))] (9:Nat),au.ay [AV.s (SV.bool false),AV.emp,AV.emp] (131:Nat),au.ay [AV.s (SV.bool l),AV.aq (4:Nat),AV.aq (5:Nat)] (131:Nat),au.ay [AV.fn (164:Nat) [AV.an (0:Nat) (0:Nat)]] (237:Nat),au.aq (a8.az [CK.ag,CK.ag] es) (66:Nat),au.aq (a8.az [CK.ag,CK.int IntKind.i64] (bs++[(zT s,bJ BinOp.or IntKind.i64 (IntKind.i64.wrap (aN (lA (2:Int) (iT s)) (Int.toNat (0:Int))*(2:Int)^min (Int.toNat (8:Int)) IntKind.i64.bits)) (aN (lA (2:Int) (iT s)) (Int.toNat (1:Int))),())])) (137:Nat)] (hr Tryz.f125 (22:Nat)) (ur.mk none false (0:Nat) [] (0:Nat)))))))))))) (Tree.at (xq (pY (2:Int) (iT s)) l es bs (uF (2:Int) (iT s)))))))) (Tree.at (xq (iT s) l es bs (yI s)))))))
 (Tree.ite (!dM l es bs) (Tree.ret [au.ay [AV.s (SV.ag s)] (9:Nat),au.ay [AV.s (SV.aT false),AV.emp,AV.emp] (131:Nat),au.ay [AV.s (SV.bool l),AV.aq (4:Nat),AV.aq (5:Nat)] (131:Nat),au.ay [AV.fn (164:Nat) [AV.an (0:Nat) (0:Nat)]] (237:Nat),au.aq (a8.az [CK.ag,CK.ag] es) (66:Nat),au.aq (a8.az [CK.ag,CK.int IntKind.i64] bs) (137:Nat)] (AV.bD [AV.agg [AV.s (SV.aT false),AV.emp,AV.emp],AV.s (SV.aZ IntKind.i64 (4:Int))])) (Tree.ret [au.ay [AV.s (SV.ag s)] (9:Nat),au.ay [AV.s (SV.bool l),AV.aq (4:Nat),AV.aq (5:Nat)] (131:Nat),au.ay [AV.s (SV.bool l),AV.aq (4:Nat),AV.aq (5:Nat)] (131:Nat),au.ay [AV.fn (164:Nat) [AV.an (0:Nat) (0:Nat)]] (237:Nat),au.aq (a8.az [CK.ag,CK.ag] es) (66:Nat),au.aq (a8.az [CK.ag,CK.int IntKind.i64] bs) (137:Nat)] (AV.bD [AV.agg [AV.s (SV.bool l),AV.aq (4:Nat),AV.aq (5:Nat)],AV.s (SV.aZ IntKind.i64 (0:Int))]))):=by kernel_rfl
theorem adw(s:ByteArray)(l:Bool)(es:List En)(bs:List Br)(is:Bool):run P xp.sum Tryz.f125 ahv (xq s l es bs is)=
 Tree.ite (!is) (.ret [.ay [.s (.ag s)] 9,.ay [.s (.aT false),.emp,.emp] 131,.ay [.s (.bool l),.aq 4,.aq 5] 131,.ay [.fn 164 [.an 0 0]] 237,.aq (.az [.ag,.ag] es) 66,.aq (.az [.ag,.int .i64] bs) 137] (.bD [.agg [.s (.aT false),.emp,.emp],.s (.aZ .i64 8)])) (.at (atl s l es bs)):=by kernel_rfl
def ama(l:Bool)(es:List En)(bs:List Br)(l':Bool)(ml:List En)(pZ:List Br):Bool:=(l==l')&&(avO es ml&&avP bs pZ)
theorem dZ(s:ByteArray)(i j:Nat):(s.extract i j).size=min j s.size - i:=by simp
theorem dm(s:ByteArray)(i:Nat):0<=aN s i/\aN s i<=255:=by
 have:=(s.data.toList.getD i 0).toNat_lt;unfold aN;omega
theorem vr{k:Int}{s:ByteArray}:uF k s=true↔k<=(s.size:Int):=by simp[uF]
theorem xr{k:Int}{s:ByteArray}(h0:0<=k)(h:uF k s=true):((lA k s).size:Int)=k:=by
 have h:=vr.1 h;rw[lA,if_neg (by omega),dZ];omega
theorem adx{k:Int}{s:ByteArray}(h0:0<=k)(h:uF k s=true):((pY k s).size:Int)=s.size - k:=by
 have h:=vr.1 h;rw[pY,if_neg (by omega),dZ];omega
theorem afP(k:Int)(s:ByteArray):(pY k s).size<=s.size:=by
 unfold pY;split;exact le_refl _;rw[dZ];omega
theorem ahy{Z:bB}:gE P Z 164 xo:=by
 refine aK Tryz.func164 (by kernel_rfl) (λx=>le_of_ble_eq_true (by kernel_rfl)) ?_;rintro⟨(k:Int),(s:ByteArray)⟩ ⟨(h1:0<=k),_⟩ X hX hz;refine dk hz hX (by simp) aR.Ok.nil Tryz.func164 (al7 k s) ⟨λh=>⟨⟨[],[0],1,[]⟩,le_refl _, ?_⟩,λh=> ?_⟩;show Norm.run _ _=some ⟨[.bD [.s (.ag (lA k s)),.s (.bool (uF k s))]],[.ay [.s (.ag (pY k s))] 9],[],{}⟩;rw[lA,pY,uF,if_pos (of_decide_eq_true h),if_pos (of_decide_eq_true h),h];kernel_rfl;have h2:=of_decide_eq_false h;refine⟨by omega,h1,by omega,h1,by omega,by omega,⟨[],[0],1,[]⟩,le_refl _, ?_⟩;show Norm.run _ _=some ⟨[.bD [.s (.ag (lA k s)),.s (.bool (uF k s))]],[.ay [.s (.ag (pY k s))] 9],[],{}⟩;rw[lA,pY,uF,if_neg h2,if_neg h2,h];kernel_rfl
theorem afQ{Z:bB}:ahu.Ok P Z:=aR.Ok.cons (ahy.sum aht) aR.Ok.nil
theorem ao5{Z:bB}:gE P Z 165 adv:=by
 refine aK Tryz.func165 (by kernel_rfl) (λx=>le_of_ble_eq_true (by kernel_rfl)) ?_;rintro(s:ByteArray) _ X hX hz;refine dk hz hX (by simp) afQ Tryz.func165 (al8 s) ⟨rfl,rfl,by decide,λh=>⟨⟨[],[0],2,[]⟩,le_refl _, ?_⟩,λh=> ?_⟩;have h:uF 1 s=false:=by simpa using h
 show Norm.run _ _=some ⟨[.bD [.s (.ag (zT s)),.s (.bool (yI s))]],[.ay [.fn 164 [.an 1 0]] 237,.ay [.s (.ag (iT s))] 9],[],{}⟩;rw[zT,iT,yI,h];kernel_rfl;have h:uF 1 s=true:=by simpa using h
 have h1:=xr (by omega) h;have h2:=dm (lA 1 s) 0;refine⟨by decide,by omega,⟨by show _<=aN (lA 1 s) 0;omega,by show aN (lA 1 s) 0<=_;omega⟩,rfl,rfl,h2.1,⟨[],[0],2,[]⟩,le_refl _, ?_⟩;show Norm.run _ _=some ⟨[.bD [.s (.ag (zT s)),.s (.bool (yI s))]],[.ay [.fn 164 [.an 1 0]] 237,.ay [.s (.ag (iT s))] 9],[],{}⟩;rw[zT,iT,yI,h];kernel_rfl
theorem kK{Z:bB}:xp.Ok P Z:=aR.Ok.cons (ahy.sum aht) (aR.Ok.cons (ao5.sum arz) (aR.Ok.cons afI.sum aR.Ok.nil))
theorem lq{s:ByteArray}(h:yI s=true):(iT s).size+1<=s.size:=by
 simp only[yI,and_eq_true]at h;have h1:=adx (by omega) h.1;have h2:=afP (rdK s) (pY 1 s);rw[iT,if_pos h.1];omega
def amb(t:ByteArray):Int:=bJ BinOp.or IntKind.i64 (IntKind.i64.wrap (aN t (Int.toNat 0)*2^min (Int.toNat 8) IntKind.i64.bits)) (aN t (Int.toNat 1))
def jl(l:Bool):Nat->ByteArray->List En->List Br->Int×List En×List Br
 |0,_,es,bs=>if dM l es bs=true then(0,es,bs)else(4,[],[])
 |n+1,s,es,bs=>
  if s=empty then(if dM l es bs=true then(0,es,bs)else(4,[],[]))
  else if yI s=false then(8,[],[])
  else if l=true then(if yI (iT s)=true then jl l n (iT (iT s)) (es++[(zT s,zT (iT s),())]) bs else(8,[],[]))
  else(if uF 2 (iT s)=true then jl l n (pY 2 (iT s)) es (bs++[(zT s,amb (lA 2 (iT s)),())])else(8,[],[]))
def pK(s:ByteArray):Int×List En×List Br:=
 if(s.size:Int)>254 then(40,[],[])else if s=empty then(8,[],[])else if aN s 0≠1/\aN s 0≠2 then(4,[],[])
 else jl (aN s 0==1) s.size (s.extract 1 s.size) [] []
def tF(s:ByteArray):Int:=(pK s).1
def oN(s:ByteArray):List En:=(pK s).2.1
def nD(s:ByteArray):List Br:=(pK s).2.2
def kf(s:ByteArray):Bool:=decide (tF s=0)&&(aN s 0==1)
abbrev U(s:ByteArray):List UInt8:=s.data.toList
theorem nx(s:ByteArray):(U s).length=s.size:=length_toList
theorem kL(s:ByteArray)(i j:Nat):U (s.extract i j)=((U s).drop i).take (j - i):=by
 rw[U,ByteArray.data_extract,Array.toList_extract,List.extract_eq_take_drop]
theorem abu:U empty=[]:=rfl
theorem arA{s:ByteArray}(h:U s=[]):s=empty:=tv h
theorem abv{s:ByteArray}{a b:List UInt8}{k:Int}(h:U s=a++b)(hk:(a.length:Int)=k):uF k s=true/\U (lA k s)=a/\U (pY k s)=b:=by
 have hl:=nx s;rw[h,length_append]at hl;refine⟨vr.2 (by omega), ?_, ?_⟩;rw[lA,if_neg (by omega),kL,h,show k.toNat - 0=a.length from by omega];simp;rw[pY,if_neg (by omega),kL,h,show k.toNat=a.length from by omega,List.drop_left,take_of_length_le (by omega)]
theorem abw{s:ByteArray}{k:Int}(h0:0<=k)(h:uF k s=true):U s=U (lA k s)++U (pY k s)/\((U (lA k s)).length:Int)=k:=by
 have hk:=vr.1 h;have hl:=nx s;refine⟨?_,by rw[nx];exact xr h0 h⟩;rw[lA,pY,if_neg (by omega),if_neg (by omega),kL,kL,List.drop_zero,Nat.sub_zero,take_of_length_le (l:=(U s).drop _) (by simp[hl]),List.take_append_drop]
def oO(s:ByteArray):List UInt8:=UInt8.ofNat s.size::U s
theorem jN{s:ByteArray}{a:UInt8}{r:List UInt8}(h:U s=a::r):aN s 0=(a.toNat:Int):=by
 simp[aN,show s.data.toList=a::r from h]
theorem abx{s:ByteArray}{a b:UInt8}{r:List UInt8}(h:U s=a::b::r):aN s 1=(b.toNat:Int):=by
 simp[aN,show s.data.toList=a::b::r from h]
theorem aby{s k:ByteArray}{r:List UInt8}(h:U s=oO k++r)(hk:k.size<=255):yI s=true/\zT s=k/\U (iT s)=r:=by
 have⟨h1,h2,h3⟩:=abv (s:=s) (a:=[UInt8.ofNat k.size]) (b:=U k++r) (k:=1) (by rw[h];rfl) rfl;have e:rdK s=(k.size:Int):=by rw[rdK,jN h2];simp;omega
 have⟨g1,g2,g3⟩:=abv (s:=pY 1 s) (k:=rdK s) h3 (by rw[nx,e]);refine⟨by simp[yI,h1,g1], ?_, ?_⟩;rw[zT,if_pos h1];exact tv g2;rw[iT,if_pos h1];exact g3
theorem ahz{s:ByteArray}(h:yI s=true):U s=oO (zT s)++U (iT s)/\(zT s).size<=255:=by
 simp only[yI,and_eq_true]at h;have⟨h1,h2⟩:=h;have⟨g1,g2⟩:=abw (by decide) h1;have hr:=dm (lA 1 s) 0;have⟨g3,g4⟩:=abw (k:=rdK s) hr.1 h2;have g2:(U (lA 1 s)).length=1:=by omega
 have⟨a,ha⟩:=List.length_eq_one_iff.1 g2;have e:rdK s=(a.toNat:Int):=jN ha;rw[zT,iT,if_pos h1,if_pos h1];have hs:(lA (rdK s) (pY 1 s)).size=a.toNat:=by rw[<-nx];omega
 refine⟨?_,by rw[hs];have:=a.toNat_lt;omega⟩;rw[g1,ha,g3,oO,hs];simp
def ja(x:En):List UInt8:=oO x.1++oO x.2.1
def jb(x:Br):List UInt8:=oO x.1++[UInt8.ofNat (x.2.1 / 256).toNat,UInt8.ofNat (x.2.1%256).toNat]
theorem rS{a b:Int}(ha:0<=a/\a<=255)(hb:0<=b/\b<=255):bJ BinOp.or IntKind.i64 (IntKind.i64.wrap (a*2^min (Int.toNat 8) IntKind.i64.bits)) b=a*256+b:=by
 have e1:IntKind.i64.wrap (a*2^min (Int.toNat 8) IntKind.i64.bits)=a*256:=by
  rw[show(2:Int)^min (Int.toNat 8) IntKind.i64.bits=256 from by decide];exact cM ⟨by omega,by omega⟩
 rw[e1];obtain⟨x,rfl⟩:=Int.eq_ofNat_of_zero_le ha.1;obtain⟨y,rfl⟩:=Int.eq_ofNat_of_zero_le hb.1;show IntKind.i64.wrap ((BitVec.ofInt 64 _ ||| BitVec.ofInt 64 _).toNat:Int)=_;have e2:(BitVec.ofInt 64 ((x:Int)*256)).toNat=2^8*x:=by rw[BitVec.toNat_ofInt];omega
 have e3:(BitVec.ofInt 64 (y:Int)).toNat=y:=by rw[BitVec.toNat_ofInt];omega
 rw[BitVec.toNat_or,e2,e3,<-Nat.two_pow_add_eq_or_of_lt (by omega),cM ⟨by omega,by omega⟩];omega
theorem arB{t:ByteArray}{a b:UInt8}(h:U t=[a,b]):amb t=(a.toNat:Int)*256+b.toNat:=by
 have h1:=a.toNat_lt;have h2:=b.toNat_lt;have e0:=jN h;have e1:=abx h;rw[amb,show aN t (Int.toNat 0)=_ from e0,show aN t (Int.toNat 1)=_ from e1];exact rS ⟨by omega,by omega⟩ ⟨by omega,by omega⟩
theorem ady{l:Bool}{n:Nat}{s:ByteArray}{es:List En}{bs:List Br}(h:U s=[]):jl l n s es bs=if dM l es bs=true then(0,es,bs)else(4,[],[]):=by
 cases n with
 |zero=>rfl
 |succ n=>rw[jl,if_pos (arA h)]
theorem adz:∀(n:Nat) (zU:List En) (s:ByteArray) (es:List En) (bs:List Br),s.size<=n->U s=zU.flatMap ja->(∀x∈zU,x.1.size<=255/\x.2.1.size<=255)->jl true n s es bs=if dM true (es++zU) bs=true then(0,es++zU,bs)else(4,[],[])
 |n,[],s,es,bs,_,hu,_=>by rw[ady hu,append_nil]
 |0,x::zU,s,es,bs,hn,hu,_=>by
  have:=nx s;rw[hu]at this;simp[ja,oO]at this;omega
 |n+1,x::zU,s,es,bs,hn,hu,hx=>by
  have⟨k,v,⟨⟩⟩:=x;have hx0:=hx (k,v,()) (by simp);have h0:s≠empty:=λe=>by subst e;simp[abu,ja,oO]at hu
  have⟨a1,a2,a3⟩:=aby (s:=s) (k:=k) (r:=oO v++zU.flatMap ja) (by rw[hu];simp[ja]) hx0.1;have⟨b1,b2,b3⟩:=aby a3 hx0.2;have c1:=lq a1;have c2:=lq b1;rw[jl,if_neg h0,if_neg (by simp[a1]),if_pos rfl,if_pos b1,a2,b2,adz n zU _ _ bs (by omega) b3 (λy hy=>hx y (by simp[hy]))];simp
theorem xt:∀(n:Nat) (zV:List Br) (s:ByteArray) (es:List En) (bs:List Br),s.size<=n->U s=zV.flatMap jb->(∀x∈zV,x.1.size<=255/\0<=x.2.1/\x.2.1<65536)->jl false n s es bs=if dM false es (bs++zV)=true then(0,es,bs++zV)else(4,[],[])
 |n,[],s,es,bs,_,hu,_=>by rw[ady hu,append_nil]
 |0,x::zV,s,es,bs,hn,hu,_=>by
  have:=nx s;rw[hu]at this;simp[jb,oO]at this;omega
 |n+1,x::zV,s,es,bs,hn,hu,hx=>by
  have⟨k,p,⟨⟩⟩:=x;have hx0:=hx (k,p,()) (by simp);have h0:s≠empty:=λe=>by subst e;simp[abu,jb,oO]at hu
  have⟨a1,a2,a3⟩:=aby (s:=s) (k:=k) (r:=[UInt8.ofNat (p / 256).toNat,UInt8.ofNat (p%256).toNat]++zV.flatMap jb) (by rw[hu];simp[jb]) hx0.1;have⟨b1,b2,b3⟩:=abv (k:=2) a3 rfl;have c1:=lq a1;have c2:=afP 2 (iT s)
  have e:amb (lA 2 (iT s))=p:=by
   have hp:0<=p/\p<65536:=hx0.2;rw[arB b2];simp only[UInt8.toNat_ofNat'];omega
  rw[jl,if_neg h0,if_neg (by simp[a1]),if_neg (by simp),if_pos b1,a2,e,xt n zV _ es _ (by omega) b3 (λy hy=>hx y (by simp[hy]))];simp
theorem atm{α:Type}:∀{l:List α},l.length=2->∃a b,l=[a,b]
 |[a,b],_=>⟨a,b,rfl⟩
theorem avQ:∀(n:Nat) (l:Bool) (s:ByteArray) (es:List En) (bs:List Br) {ml:List En} {pZ:List Br},s.size<=n->jl l n s es bs=(0,ml,pZ)->
 ∃zU zV,ml=es++zU/\pZ=bs++zV/\dM l ml pZ=true/\U s=zU.flatMap ja++zV.flatMap jb/\(l=true->zV=[])/\(l=false->zU=[]):=by
 intro n;have fin:∀(l:Bool) (s:ByteArray) (es:List En) (bs:List Br) {ml:List En} {pZ:List Br},s=empty->(if dM l es bs=true then((0:Int),es,bs)else(4,[],[]))=(0,ml,pZ)->
  ∃zU zV,ml=es++zU/\pZ=bs++zV/\dM l ml pZ=true/\U s=zU.flatMap ja++zV.flatMap jb/\(l=true->zV=[])/\(l=false->zU=[]):=by
  intro l s es bs ml pZ hs h;split at h;rename_i hm;simp only[Prod.mk.injEq,true_and]at h;obtain⟨rfl,rfl⟩:=h;exact⟨[],[],by simp,by simp,hm,by subst hs;rfl,λ_=>rfl,λ_=>rfl⟩;simp at h
 induction n with
 |zero=>
  intro l s es bs ml pZ hn h;exact fin l s es bs (mB (Nat.le_zero.1 hn)) h
 |succ n ih=>
  intro l s es bs ml pZ hn h;by_cases h0:s=empty;rw[jl,if_pos h0]at h;exact fin l s es bs h0 h;rw[jl,if_neg h0]at h;split at h;simp at h;rename_i hB;have hB:yI s=true:=by simpa using hB
  have⟨a1,a2⟩:=ahz hB;have c1:=lq hB;split at h;rename_i hl;subst hl;split at h;rename_i hB2;have⟨b1,b2⟩:=ahz hB2;have c2:=lq hB2;obtain⟨zU,zV,rfl,rfl,d3,d4,d5,d6⟩:=ih true _ _ _ (by omega) h;have d5:=d5 rfl;subst d5;refine⟨(zT s,zT (iT s),())::zU,[],by simp,by simp,d3, ?_,λ_=>rfl,λh=>(by cases h)⟩;rw[a1,b1,d4];simp[ja];simp at h;rename_i hl;have hl:l=false:=by simpa using hl
  subst hl;split at h;rename_i hB2;have⟨b1,b2⟩:=abw (by decide) hB2;have c2:=afP 2 (iT s);obtain⟨zU,zV,rfl,rfl,d3,d4,d5,d6⟩:=ih false _ _ _ (by omega) h;have d6:=d6 rfl;subst d6;refine⟨[],(zT s,amb (lA 2 (iT s)),())::zV,by simp,by simp,d3, ?_,λh=>(by cases h),λ_=>rfl⟩;have b2:(U (lA 2 (iT s))).length=2:=by omega
  have⟨a,b,hab⟩:=atm b2;have e:=arB hab;have h1:=a.toNat_lt;have h2:=b.toNat_lt;rw[a1,b1,d4,hab];simp only[List.flatMap_nil,nil_append,List.flatMap_cons,jb,e,append_assoc];rw[show(((a.toNat:Int)*256+b.toNat) / 256).toNat=a.toNat from by omega,show(((a.toNat:Int)*256+b.toNat)%256).toNat=b.toNat from by omega];simp;simp at h
theorem afR{es:List En}(h:kB es=true){x:En}(hx:x∈es):x.1.size<=24/\x.2.1.size<=100:=by
 obtain⟨i,hi,rfl⟩:=List.getElem_of_mem hx;have:=dC.1 h i hi;simp only[okE,not_eq_true',Bool.or_eq_false_iff,decide_eq_false_iff_not,bt hi]at this;omega
theorem adA{bs:List Br}(h:iq bs=true){x:Br}(hx:x∈bs):x.1.size<=24/\2<=x.2.1/\x.2.1<1024:=by
 obtain⟨i,hi,rfl⟩:=List.getElem_of_mem hx;have:=dC.1 h i hi;simp only[okB,not_eq_true',Bool.or_eq_false_iff,decide_eq_false_iff_not,bt hi]at this;omega
abbrev enB(zs:List Int):List UInt8:=zs.map λn=>UInt8.ofNat n.toNat
theorem ao6(zs:List Int):U (aW zs)=enB zs:=rfl
theorem u8_in{n:Int}(h0:0<=n)(h1:n<=255):IntKind.u8.wrap n=n:=by
 simp only[IntKind.wrap,IntKind.bits,IntKind.signed,Bool.false_and];simp;omega
theorem abz{s:ByteArray}(h:s.size<=255):enB (zR s)=oO s:=by
 simp only[enB,zR,map_cons,oO,u8_in (n:=(s.size:Int)) (by omega) (by omega),toNat_natCast,List.cons.injEq,true_and,abt,List.map_map];exact(List.map_congr_left (λa _=>by simp)).trans (List.map_id _)
theorem avR{x:En}(h:x.1.size<=24/\x.2.1.size<=100):enB (oL x)=ja x:=by
 simp only[oL,ja,map_append];rw[show(zR x.1).map _=_ from abz (by omega),show(zR x.2.1).map _=_ from abz (by omega)]
theorem avS{x:Br}(h:x.1.size<=24/\2<=x.2.1/\x.2.1<1024):enB (uU x)=jb x:=by
 have⟨k,p,⟨⟩⟩:=x;have hp:2<=p/\p<1024:=h.2;simp only[uU,jb,map_append,map_cons,map_nil];rw[show(zR k).map _=_ from abz (by have:k.size<=24:=h.1;omega),show(2:Int)^min (Int.toNat 8) IntKind.i64.bits=256 from by decide,Int.fdiv_eq_ediv_of_nonneg _ (by omega),u8_in (by omega) (by omega)]
 have e:IntKind.u8.wrap p=p%256:=by
  simp only[IntKind.wrap,IntKind.bits,IntKind.signed,Bool.false_and];simp
 rw[e]
theorem xu{α:Type}{f:α->List Int}{g:α->List UInt8}:∀{l:List α},(∀x∈l,enB (f x)=g x)->enB (l.flatMap f)=l.flatMap g
 |[],_=>rfl
 |x::l,h=>by
  simp only[List.flatMap_cons,map_append];rw[show(f x).map _=_ from h x (by simp),show(l.flatMap f).map _=_ from xu (λy hy=>h y (by simp[hy]))]
theorem arC{l:Bool}{es:List En}{bs:List Br}(h1:kB es=true)(h2:iq bs=true):U (aW (oM l es bs))=(if l=true then 1 else 2)::(es.flatMap ja++bs.flatMap jb):=by
 rw[ao6,oM];simp only[map_append];rw[show(es.flatMap oL).map _=_ from xu λx hx=>avR (afR h1 hx),show(bs.flatMap uU).map _=_ from xu λx hx=>avS (adA h2 hx)];cases l<;>rfl
theorem avT:∀(es:List En),((es.flatMap ja).length:Int)=(es.map qU).sum
 |[]=>rfl
 |x::es=>by
  simp only[List.flatMap_cons,length_append,map_cons,sum_cons,<-avT es,qU,ja,oO,length_cons,nx];omega
theorem avU:∀(bs:List Br),((bs.flatMap jb).length:Int)=(bs.map qC).sum
 |[]=>rfl
 |x::bs=>by
  simp only[List.flatMap_cons,length_append,map_cons,sum_cons,<-avU bs,qC,jb,oO,length_cons,length_nil,nx];omega
theorem adB{s:ByteArray}{a:UInt8}{es:List En}{bs:List Br}(h:U s=a::(es.flatMap ja++bs.flatMap jb)):(s.size:Int)=bI es bs:=by
 have:=nx s;rw[h]at this;simp only[length_cons,length_append]at this;rw[bI,<-avT,<-avU];omega
theorem mI{l:Bool}{es:List En}{bs:List Br}:iJ l es bs=0↔dM l es bs=true/\bI es bs<=254:=by
 unfold iJ;split;split<;>simp_all;simp_all
theorem ahA{l:Bool}{es:List En}{bs:List Br}(h:iJ l es bs=0):dG l es bs=aW (oM l es bs):=by
 have⟨h1,h2⟩:=mI.1 h;rw[dG,if_pos (by simp[adt,h1,h2])]
theorem ao7{l:Bool}{es:List En}{bs:List Br}(h:iJ l es bs=0):tF (dG l es bs)=0/\kf (dG l es bs)=l/\oN (dG l es bs)=es/\nD (dG l es bs)=bs/\((dG l es bs).size:Int)=bI es bs:=by
 have⟨h1,h2⟩:=mI.1 h;have⟨m1,m2,m3,m4⟩:=eJ h1;rw[ahA h];have hu:=arC (l:=l) m3 m4;have hs:=adB hu;have h0:aW (oM l es bs)≠empty:=λe=>by rw[e,abu]at hu;cases hu
 have hb:aN (aW (oM l es bs)) 0=if l=true then 1 else 2:=by rw[jN hu];cases l<;>rfl
 have he:U ((aW (oM l es bs)).extract 1 (aW (oM l es bs)).size)=es.flatMap ja++bs.flatMap jb:=by
  have:=nx (aW (oM l es bs));rw[hu]at this;rw[kL,hu];simp only[length_cons]at this;exact take_of_length_le (by simp;simp at this;omega)
 have hd:pK (aW (oM l es bs))=(0,es,bs):=by
  rw[pK,if_neg (by omega),if_neg h0,if_neg (by rw[hb];cases l<;>simp),hb];cases l;obtain rfl:=m2 rfl;have:=xt (aW (oM false [] bs)).size bs _ [] [] (by rw[dZ];omega) he (λx hx=>by have:=adA m4 hx;omega);simp only[nil_append,h1,if_true]at this;exact this;obtain rfl:=m1 rfl;have:=adz (aW (oM true es [])).size es ((aW (oM true es [])).extract 1 (aW (oM true es [])).size) [] [] (by rw[dZ];omega) (by rw[he];simp) (λx hx=>by have:=afR m3 hx;omega);simp only[nil_append,h1,if_true]at this;exact this
 refine⟨by rw[tF,hd], ?_,by rw[oN,hd],by rw[nD,hd],hs⟩;rw[kf,tF,hd,hb];cases l<;>rfl
theorem avV:∀(es:List En),es.length<=(es.flatMap ja).length
 |[]=>le_refl _
 |x::l=>by have:=avV l;simp only[List.flatMap_cons,length_cons,length_append,ja,oO];omega
theorem avW:∀(es:List Br),es.length<=(es.flatMap jb).length
 |[]=>le_refl _
 |x::l=>by have:=avW l;simp only[List.flatMap_cons,length_cons,length_append,jb,oO];omega
theorem ao8{s:ByteArray}(h:tF s=0):bF (oN s)/\bG (nD s)/\iJ (kf s) (oN s) (nD s)=0/\dG (kf s) (oN s) (nD s)=s/\dM (kf s) (oN s) (nD s)=true:=by
 have h':=h;rw[tF]at h;have hl:kf s=(aN s 0==1):=by simp[kf,h']
 rw[hl];unfold oN nD;unfold pK at h ⊢;split at h;exact absurd h (by decide);rename_i g1;rw[if_neg g1];split at h;exact absurd h (by decide);rename_i g2;rw[if_neg g2];split at h;exact absurd h (by decide);rename_i g3;rw[if_neg g3];obtain⟨ml,pZ,e⟩:∃ml pZ,jl (aN s 0==1) s.size (s.extract 1 s.size) [] []=(0,ml,pZ):=⟨_,_,Prod.ext h rfl⟩;rw[e];simp only;have⟨zU,zV,k1,k2,k3,k4,k5,k6⟩:=avQ _ _ _ _ _ (by rw[dZ];omega) e;simp only[nil_append]at k1 k2;subst k1 k2;have⟨m1,m2,m3,m4⟩:=eJ k3;have bK:=nx s;cases hu:U s with
 |nil=>exact absurd (arA hu) g2
 |cons a r=>
  have hb:=jN hu;have ha:=a.toNat_lt
  have hr:r=ml.flatMap ja++pZ.flatMap jb:=by
   rw[<-k4,kL,hu];rw[hu]at bK;simp only[length_cons]at bK;rw[show List.drop 1 (a::r)=r from rfl,take_of_length_le (by omega)]
  rw[hr]at hu;have hs:=adB hu;have hn:iJ (aN s 0==1) ml pZ=0:=mI.2 ⟨k3,by omega⟩;have azv:=avV ml;have azw:=avW pZ;rw[hu]at bK;simp only[length_cons,length_append]at bK;refine⟨⟨by omega,λx hx=>by have:=afR m3 hx;omega⟩,⟨by omega,λx hx=>by have:=adA m4 hx;omega⟩,hn, ?_,k3⟩;rw[ahA hn];apply tv;show U _=U _;rw[arC m3 m4,hu];congr 1;by_cases hc:aN s 0=1;rw[if_pos (by simp[hc])];exact UInt8.toNat_inj.1 (by show 1=_;omega);rw[if_neg (by simp[hc])]
  have:aN s 0=2:=by
   rcases Decidable.em (aN s 0=2)with h|h;exact h;exact absurd ⟨hc,h⟩ g3
  exact UInt8.toNat_inj.1 (by show 2=_;omega)
abbrev atn:=cU [rT] [rT] (λ(l,())=>[(l:List En).length<=100000]) (λ(l,())=>(l,()))
abbrev ax7:=cU [yG] [yG] (λ(l,())=>[(l:List Br).length<=100000]) (λ(l,())=>(l,()))
def afS:aR:=[(116,atn),(195,ax7)]
abbrev avX:=cU [rT,bS] [rT,rT] (λ(l,k,())=>[(l:List En).length<=100000,0<=(k:Int),(l=[]\/k<=(l.length:Int))]) (λ(l,k,())=>(List.take (Int.toNat k) l,List.drop (Int.toNat k) l,()))
abbrev avY:=cU [yG,bS] [yG,yG] (λ(l,k,())=>[(l:List Br).length<=100000,0<=(k:Int),(l=[]\/k<=(l.length:Int))]) (λ(l,k,())=>(List.take (Int.toNat k) l,List.drop (Int.toNat k) l,()))
def afT:aR:=[(180,alZ),(166,atj),(175,arw),(181,avX),(182,avY)]
def arD:List (Nat×Norm):=[(7,⟨[],[1,2,3,6,7,8,9,34,35,36],0,[]⟩)]
def ao9(l:Bool)(es:List En):List En:=if l=true then es else []
def apa(l:Bool)(bs:List Br):List Br:=if l=true then []else bs
noncomputable def ajw(l:Bool)(es:List En)(bs:List Br)(zs:List Int)(n:Nat)(first rest tG least i:Int):cn:=⟨sl 87 [(1,.an 0 0),(2,.an 1 0),(3,.an 2 0),(6,.s (.int .i64 first)),(7,.s (.int .i64 rest)),(8,.s (.int .i64 tG)),(9,.s (.int .i64 least)),(34,.part 3 0 n),(35,.s (.int .i64 (n:Int))),(36,.s (.int .i64 i))],
 [obN l es bs 131,obZ,obZ,.aq (.aw .i64 zs) 3],hd Tryz.f148 7,{}⟩
theorem apb(a:List En):run P iU.sum Tryz.f116 [] (start Tryz.f116 [.s (.ro (.az cE a))] [])=
 Tree.both (a.length=0) True (.ret [] .emp) (.ab (((0:Nat)+a.length)*(32:Nat)<=140737488355328) (.ret [.aB,.aq (.az [.ag,.ag] ([]++a)) 66] (.aq 1))):=by kernel_rfl
theorem apc(a:List Br):run P iU.sum Tryz.f195 [] (start Tryz.f195 [.s (.ro (.az cB a))] [])=
 Tree.both (a.length=0) True (.ret [] .emp) (.ab (((0:Nat)+a.length)*(24:Nat)<=140737488355328) (.ret [.aB,.aq (.az [.ag,.int .i64] ([]++a)) 137] (.aq 1))):=by kernel_rfl
theorem amc(a:List En)(k:Int):run P afS.sum Tryz.f181 [] (start Tryz.f181 [.s (.ro (.az cE a)),.s (.int .i64 k)] [])=
 Tree.ite ((↑a.length:Int)==0) (.ret [] (.bD [.emp,.emp])) (.ab ((0:Int)<=0) (.ab ((0:Int)<=k) (.ab (k<=(↑a.length:Int)) (.ab ((List.drop (Int.toNat 0) (List.take k.toNat a)).length<=100000) (.ab ((0:Int)<=k) (.ab (k<=(↑a.length:Int)) (.ab ((↑a.length:Int)<=(↑a.length:Int)) (.ab ((List.drop k.toNat (List.take (↑a.length:Int).toNat a)).length<=100000) (.ret [.aq (.az [.ag,.ag] (List.drop (Int.toNat 0) (List.take k.toNat a))) 66,.aq (.az [.ag,.ag] (List.drop k.toNat (List.take (↑a.length:Int).toNat a))) 66] (.bD [.aq 0,.aq 1])))))))))):=by kernel_rfl
theorem amd(a:List Br)(k:Int):run P afS.sum Tryz.f182 [] (start Tryz.f182 [.s (.ro (.az cB a)),.s (.int .i64 k)] [])=
 Tree.ite ((↑a.length:Int)==0) (.ret [] (.bD [.emp,.emp])) (.ab ((0:Int)<=0) (.ab ((0:Int)<=k) (.ab (k<=(↑a.length:Int)) (.ab ((List.drop (Int.toNat 0) (List.take k.toNat a)).length<=100000) (.ab ((0:Int)<=k) (.ab (k<=(↑a.length:Int)) (.ab ((↑a.length:Int)<=(↑a.length:Int)) (.ab ((List.drop k.toNat (List.take (↑a.length:Int).toNat a)).length<=100000) (.ret [.aq (.az [.ag,.int .i64] (List.drop (Int.toNat 0) (List.take k.toNat a))) 137,.aq (.az [.ag,.int .i64] (List.drop k.toNat (List.take (↑a.length:Int).toNat a))) 137] (.bD [.aq 0,.aq 1])))))))))):=by kernel_rfl
theorem apd(l:Bool)(es:List En)(bs:List Br):run P afT.sum Tryz.f148 arD (start Tryz.f148 [avN l es bs] [])=
 Tree.ab (bF es) (.ab (bG bs) (.ite (!dM l es bs) (.ret [.ay [.s (.bool l),.s (.ro (.az [.ag,.ag] es)),.s (.ro (.az [.ag,.int .i64] bs))] 131,.ay [.s (.aT false),.emp,.emp] 131,.ay [.s (.aT false),.emp,.emp] 131,.aq (.aw .i64 (aX es bs)) 3] (.bD [.agg [.s (.aT false),.emp,.emp],.agg [.s (.aT false),.emp,.emp],.s (.aZ .i64 4)])) (.ite (decide ((↑(aX es bs).length:Int)<2)) (.ret [.ay [.s (.bool l),.s (.ro (.az [.ag,.ag] es)),.s (.ro (.az [.ag,.int .i64] bs))] 131,.ay [.s (.aT false),.emp,.emp] 131,.ay [.s (.aT false),.emp,.emp] 131,.aq (.aw .i64 (aX es bs)) 3] (.bD [.agg [.s (.aT false),.emp,.emp],.agg [.s (.aT false),.emp,.emp],.s (.aZ .i64 4)])) (.ab (bF es) (.ab (bG bs) (.ab (aG (bI es bs - (1:Int))) (.ab (aG ((↑(aX es bs).length:Int) - (1:Int))) (.ab ((0:Int)<=0) (.ab ((0:Int)<=(↑(aX es bs).length:Int) - (1:Int)) (.ab ((↑(0:Nat):Int)+((↑(aX es bs).length:Int) - (1:Int))<=(↑(aX es bs).length:Int)) (.at (ajw l es bs (aX es bs) (((↑(aX es bs).length:Int) - (1:Int)).toNat - Int.toNat 0) 0 (bI es bs - (1:Int)) 0 0 0)))))))))))):=by kernel_rfl
theorem ahB(l:Bool)(es:List En)(bs:List Br)(zs:List Int)(n:Nat)(first rest tG least i:Int):run P afT.sum Tryz.f148 arD (ajw l es bs zs n first rest tG least i)=
 Tree.ite (decide (i<(↑n:Int))) (.ab ((0:Int)<=i) (.ab (i<(↑n:Int)) (.ab (aG (first+zs.getD ((0:Nat)+i.toNat) 0)) (.ab (aG (rest - zs.getD ((0:Nat)+i.toNat) 0)) (.ite (tG==0) (.ab (aG (i+1)) (.ab (aG (i+1)) (.at (ajw l es bs zs n (first+zs.getD ((0:Nat)+i.toNat) 0) (rest - zs.getD ((0:Nat)+i.toNat) 0) (i+1) (imax (first+zs.getD ((0:Nat)+i.toNat) 0) (rest - zs.getD ((0:Nat)+i.toNat) 0)) (i+1))))) (.ite (decide (imax (first+zs.getD ((0:Nat)+i.toNat) 0) (rest - zs.getD ((0:Nat)+i.toNat) 0)<least)) (.ab (aG (i+1)) (.ab (aG (i+1)) (.at (ajw l es bs zs n (first+zs.getD ((0:Nat)+i.toNat) 0) (rest - zs.getD ((0:Nat)+i.toNat) 0) (i+1) (imax (first+zs.getD ((0:Nat)+i.toNat) 0) (rest - zs.getD ((0:Nat)+i.toNat) 0)) (i+1))))) (.ab (aG (i+1)) (.at (ajw l es bs zs n (first+zs.getD ((0:Nat)+i.toNat) 0) (rest - zs.getD ((0:Nat)+i.toNat) 0) tG least (i+1)))))))))) (.ab (es.length<=100000) (.ab ((0:bS.V)<=tG) (.ab (es=[]\/tG<=(↑es.length:Int)) (.ab (bs.length<=100000) (.ab ((0:bS.V)<=tG) (.ab (bs=[]\/tG<=(↑bs.length:Int)) (.ret [.ay [.s (.bool l),.s (.ro (.az [.ag,.ag] es)),.s (.ro (.az [.ag,.int .i64] bs))] 131,.ay [.s (.bool l),.aq 6,.aq 8] 131,.ay [.s (.bool l),.aq 7,.aq 9] 131,.aq (.aw .i64 zs) 3,.ay [.s (.bool l),.aq 6,.aq 8] 131,.ay [.s (.bool l),.aq 7,.aq 9] 131,.aq (.az [.ag,.ag] (List.take tG.toNat es)) 66,.aq (.az [.ag,.ag] (List.drop tG.toNat es)) 66,.aq (.az [.ag,.int .i64] (List.take tG.toNat bs)) 137,.aq (.az [.ag,.int .i64] (List.drop tG.toNat bs)) 137] (.bD [.agg [.s (.bool l),.aq 6,.aq 8],.agg [.s (.bool l),.aq 7,.aq 9],.s (.aZ .i64 0)])))))))):=by kernel_rfl
theorem afU{Z:bB}:dO P Z 116 [rT] [rT] (λ(l,())=>[(l:List En).length<=100000]) (λ(l,())=>(l,())):=by
 refine aM Tryz.func116 (by kernel_rfl) (by kernel_rfl) ?_;rintro⟨(l:List En),⟨⟩⟩ _ ⟨(hl:l.length<=100000),_⟩ X hX hz;refine go hz hX aR.Ok.nil Tryz.func116 (apb l) ⟨λh=> ?_,λ_=>⟨by omega, ?_⟩⟩;obtain rfl:=List.eq_nil_of_length_eq_zero h;exact bq ([],()) rfl (by kernel_rfl);exact bq (l,()) rfl (by kernel_rfl)
theorem ato{Z:bB}:dO P Z 195 [yG] [yG] (λ(l,())=>[(l:List Br).length<=100000]) (λ(l,())=>(l,())):=by
 refine aM Tryz.func195 (by kernel_rfl) (by kernel_rfl) ?_;rintro⟨(l:List Br),⟨⟩⟩ _ ⟨(hl:l.length<=100000),_⟩ X hX hz;refine go hz hX aR.Ok.nil Tryz.func195 (apc l) ⟨λh=> ?_,λ_=>⟨by omega, ?_⟩⟩;obtain rfl:=List.eq_nil_of_length_eq_zero h;exact bq ([],()) rfl (by kernel_rfl);exact bq (l,()) rfl (by kernel_rfl)
theorem zW{Z:bB}:afS.Ok P Z:=aR.Ok.cons afU.sum (aR.Ok.cons ato.sum aR.Ok.nil)
theorem ape{Z:bB}:dO P Z 181 [rT,bS] [rT,rT] (λ(l,k,())=>[(l:List En).length<=100000,0<=(k:Int),(l=[]\/k<=(l.length:Int))]) (λ(l,k,())=>(List.take (Int.toNat k) l,List.drop (Int.toNat k) l,())):=by
 refine aM Tryz.func181 (by kernel_rfl) (by kernel_rfl) ?_;rintro⟨(l:List En),(k:Int),⟨⟩⟩ _ ⟨(hl:l.length<=100000),(h0:0<=k),(hk:l=[]\/k<=(l.length:Int)),_⟩ X hX hz;show Safe P 181 X (Ends [rT,rT] (l.take k.toNat,l.drop k.toNat,())) _;refine go hz hX zW Tryz.func181 (amc l k) ⟨λh=> ?_,λh=> ?_⟩
 obtain rfl:l=[]:=List.eq_nil_of_length_eq_zero (by have:(l.length:Int)=0:=by simpa using h
                                                    omega)
 refine bq (rs:=[rT,rT]) ([],[],()) ?_ (by kernel_rfl);show(List.take k.toNat ([]:List En),List.drop k.toNat ([]:List En),())=([],[],());rw[List.take_nil,List.drop_nil];have hk:k<=(l.length:Int):=hk.elim (λe=>by subst e;simp at h) id;have e1:List.drop (Int.toNat 0) (List.take k.toNat l)=l.take k.toNat:=rfl;have e2:List.drop k.toNat (List.take ((l.length:Int)).toNat l)=l.drop k.toNat:=by rw[take_of_length_le (by omega)]
 refine⟨by omega,h0,hk, ?_,h0,hk,by omega, ?_, ?_⟩;rw[e1,length_take];omega;rw[e2,length_drop];omega;exact bq (List.drop (Int.toNat 0) (List.take k.toNat l),List.drop k.toNat (List.take ((l.length:Int)).toNat l),()) (by rw[e2];rfl) (by kernel_rfl)
theorem apf{Z:bB}:dO P Z 182 [yG,bS] [yG,yG] (λ(l,k,())=>[(l:List Br).length<=100000,0<=(k:Int),(l=[]\/k<=(l.length:Int))]) (λ(l,k,())=>(List.take (Int.toNat k) l,List.drop (Int.toNat k) l,())):=by
 refine aM Tryz.func182 (by kernel_rfl) (by kernel_rfl) ?_;rintro⟨(l:List Br),(k:Int),⟨⟩⟩ _ ⟨(hl:l.length<=100000),(h0:0<=k),(hk:l=[]\/k<=(l.length:Int)),_⟩ X hX hz;show Safe P 182 X (Ends [yG,yG] (l.take k.toNat,l.drop k.toNat,())) _;refine go hz hX zW Tryz.func182 (amd l k) ⟨λh=> ?_,λh=> ?_⟩
 obtain rfl:l=[]:=List.eq_nil_of_length_eq_zero (by have:(l.length:Int)=0:=by simpa using h
                                                    omega)
 refine bq (rs:=[yG,yG]) ([],[],()) ?_ (by kernel_rfl);show(List.take k.toNat ([]:List Br),List.drop k.toNat ([]:List Br),())=([],[],());rw[List.take_nil,List.drop_nil];have hk:k<=(l.length:Int):=hk.elim (λe=>by subst e;simp at h) id;have e1:List.drop (Int.toNat 0) (List.take k.toNat l)=l.take k.toNat:=rfl;have e2:List.drop k.toNat (List.take ((l.length:Int)).toNat l)=l.drop k.toNat:=by rw[take_of_length_le (by omega)]
 refine⟨by omega,h0,hk, ?_,h0,hk,by omega, ?_, ?_⟩;rw[e1,length_take];omega;rw[e2,length_drop];omega;exact bq (List.drop (Int.toNat 0) (List.take k.toNat l),List.drop k.toNat (List.take ((l.length:Int)).toNat l),()) (by rw[e2];rfl) (by kernel_rfl)
def kg(zs:List Int)(k:Nat):Int:=imax (zs.take k).sum (zs.sum - (zs.take k).sum)
def iK(zs:List Int):Nat->Nat×Int
 |0=>(0,0)
 |k+1=>if(iK zs k).1=0\/kg zs (k+1)<(iK zs k).2 then(k+1,kg zs (k+1))else iK zs k
theorem px(zs:List Int):∀k,(iK zs k).1<=k
 |0=>le_refl _
 |k+1=>by
  have:=px zs k;rw[iK];split;exact le_refl _;omega
theorem oP(zs:List Int):∀k,0<k->0<(iK zs k).1
 |0,h=>absurd h (by omega)
 |k+1,_=>by
  rw[iK];split;exact Nat.succ_pos _;rename_i h;exact Nat.pos_of_ne_zero (λe=>h (.inl e))
def eX(es:List En)(bs:List Br):Nat:=(iK (aX es bs) (es.length+bs.length - 1)).1
def eb(l:Bool)(es:List En)(bs:List Br):Bool:=dM l es bs&&decide (2<=es.length+bs.length)
def cz(l:Bool)(es:List En)(bs:List Br):Bool:=eb l es bs&&l
def bE(l:Bool)(es:List En)(bs:List Br):List En:=if eb l es bs=true then es.take (eX es bs)else []
def dw(l:Bool)(es:List En)(bs:List Br):List En:=if eb l es bs=true then es.drop (eX es bs)else []
def bH(l:Bool)(es:List En)(bs:List Br):List Br:=if eb l es bs=true then bs.take (eX es bs)else []
def dH(l:Bool)(es:List En)(bs:List Br):List Br:=if eb l es bs=true then bs.drop (eX es bs)else []
def spC(l:Bool)(es:List En)(bs:List Br):Int:=if eb l es bs=true then 0 else 4
abbrev spY(l:Bool)(es:List En)(bs:List Br):AL [fE,fE,bS]:=((cz l es bs,bE l es bs,bH l es bs,()),(cz l es bs,dw l es bs,dH l es bs,()),spC l es bs,())
theorem atp{l:Bool}{es:List En}{bs:List Br}(h:eb l es bs=false):spY l es bs=((false,[],[],()),(false,[],[],()),4,()):=by
 simp[spY,cz,bE,dw,bH,dH,spC,h];rfl
theorem apg{l:Bool}{es:List En}{bs:List Br}(h:eb l es bs=true):spY l es bs=((l,es.take (eX es bs),bs.take (eX es bs),()),(l,es.drop (eX es bs),bs.drop (eX es bs),()),0,()):=by
 simp[spY,cz,bE,dw,bH,dH,spC,h];rfl
theorem xv(es:List En)(bs:List Br):(aX es bs).length=es.length+bs.length:=by simp[aX]
theorem ajx{zs:List Int}(h:∀x∈zs,0<=x/\x<=2002)(hl:zs.length<=2000)(k:Nat):0<=(zs.take k).sum/\(zs.take k).sum<=4004000:=by
 have:=pw (l:=zs.take k) (m:=2002) (λx hx=>h x (List.mem_of_mem_take hx)) (by omega);have h3:(zs.take k).length<=2000:=by rw[length_take];omega
 omega
theorem ame{Z:bB}:dO P Z 148 [fE] [fE,fE,bS] (λ((_,es,bs,()),())=>[bF es,bG bs])
 (λ((l,es,bs,()),())=>((cz l es bs,bE l es bs,bH l es bs,()),(cz l es bs,dw l es bs,dH l es bs,()),spC l es bs,())):=by
 refine aM Tryz.func148 (by kernel_rfl) (by kernel_rfl) ?_;rintro⟨⟨(l:Bool),(es:List En),(bs:List Br),⟨⟩⟩,⟨⟩⟩ _ ⟨(he:bF es),(hb:bG bs),_⟩ X hX hz;have hT:afT.Ok P Z:=aR.Ok.cons rU.sum (aR.Ok.cons afI.sum (aR.Ok.cons ahn.sum (aR.Ok.cons ape.sum (aR.Ok.cons apf.sum aR.Ok.nil))));show Safe P 148 X (Ends [fE,fE,bS] (spY l es bs)) _;have hle:=he.1;have hlb:=hb.1;have bK:=xv es bs;have hr:=zQ he hb;have mz:=ajx hr (by omega);have ax8:=mz (aX es bs).length;rw[List.take_length]at ax8;have cq:=oK es bs;have loop:eb l es bs=true->∀(n k:Nat),k+n=es.length+bs.length - 1->Safe P 148 X (Ends [fE,fE,bS] (spY l es bs))
  (ajw l es bs (aX es bs) (es.length+bs.length - 1) ((aX es bs).take k).sum ((aX es bs).sum - ((aX es bs).take k).sum) ((iK (aX es bs) k).1:Int) (iK (aX es bs) k).2 (k:Int)):=by
  intro kv n;have avZ:=kv;simp only[eb,and_eq_true,decide_eq_true_eq]at avZ;have⟨hm,h2⟩:=avZ;have⟨m1,m2,m3,m4⟩:=eJ hm
  induction n with
  |zero=>
   intro k hk;have azA:=px (aX es bs) k
   have hE:es=[]\/((iK (aX es bs) k).1:Int)<=(es.length:Int):=by
    cases l;exact .inl (m2 rfl);have:=m1 rfl;subst this;simp only[length_nil]at hk;exact .inr (by omega)
   have hB:bs=[]\/((iK (aX es bs) k).1:Int)<=(bs.length:Int):=by
    cases l;have:=m2 rfl;subst this;simp only[length_nil]at hk;exact .inr (by omega);exact .inl (m1 rfl)
   refine go hz hX hT Tryz.func148 (ahB l es bs _ _ _ _ _ _ k) ⟨λh=>absurd (of_decide_eq_true h) (by omega),λh=>⟨by omega,Int.natCast_nonneg _,hE,by omega,Int.natCast_nonneg _,hB, ?_⟩⟩;have av0:(iK (aX es bs) k).1=eX es bs:=by rw[eX,show k=es.length+bs.length - 1 from by omega]
   rw[av0,apg kv];exact bq ((l,es.take (eX es bs),bs.take (eX es bs),()),(l,es.drop (eX es bs),bs.drop (eX es bs),()),0,()) rfl (by kernel_rfl)
  |succ n ih=>
   intro k hk;have h1:=mz k
   have h3:0<=(aX es bs).getD k 0/\(aX es bs).getD k 0<=2002:=by
    rw[bt (by omega)];exact hr _ (getElem_mem _)
   have mY:=jy (l:=aX es bs) (k:=k) (by omega)
   have hc:imax (((aX es bs).take k).sum+(aX es bs).getD k 0) ((aX es bs).sum - ((aX es bs).take k).sum - (aX es bs).getD k 0)=kg (aX es bs) (k+1):=by
    rw[kg,<-mY];congr 1;omega
   have next:=ih (k+1) (by omega)
   rw[<-mY,show(aX es bs).sum - (((aX es bs).take k).sum+(aX es bs).getD k 0)=(aX es bs).sum - ((aX es bs).take k).sum - (aX es bs).getD k 0 from by omega]at next
   refine go hz hX hT Tryz.func148 (ahB l es bs _ _ _ _ _ _ k) ?_;simp only[toNat_natCast,zero_add,hc];refine⟨λh=>⟨by omega,by omega,⟨by omega,by omega⟩,⟨by omega,by omega⟩,λh0=> ?_,λh0=>⟨λbA=> ?_,λbA=> ?_⟩⟩,λh=>absurd (of_decide_eq_false h) (by omega)⟩
   have h0:(iK (aX es bs) k).1=0:=by have:((iK (aX es bs) k).1:Int)=0:=by simpa using h0
                                     omega
   rw[iK,if_pos (.inl h0)]at next
   exact⟨⟨by omega,by omega⟩,⟨by omega,by omega⟩,next⟩;rw[iK,if_pos (.inr (of_decide_eq_true bA))]at next
   exact⟨⟨by omega,by omega⟩,⟨by omega,by omega⟩,next⟩
   have h0:¬((iK (aX es bs) k).1=0\/kg (aX es bs) (k+1)<(iK (aX es bs) k).2):=by
    rintro(h|h);simp[h]at h0;exact of_decide_eq_false bA h
   rw[iK,if_neg h0]at next
   exact⟨⟨by omega,by omega⟩,next⟩
 have bad:eb l es bs=false->spY l es bs=((false,[],[],()),(false,[],[],()),4,()):=atp;refine go hz hX hT Tryz.func148 (apd l es bs) ⟨he,hb,λh=>bq ((false,[],[],()),(false,[],[],()),4,()) (bad ?_) (by kernel_rfl),λh=>⟨λh2=>bq ((false,[],[],()),(false,[],[],()),4,()) (bad ?_) (by kernel_rfl),λh2=> ?_⟩⟩;have h:dM l es bs=false:=by simpa using h
 simp[eb,h];have h2:=of_decide_eq_true h2;simp only[eb,Bool.and_eq_false_iff,decide_eq_false_iff_not];exact .inr (by omega);have h:dM l es bs=true:=by simpa using h
 have h2:=of_decide_eq_false h2;have kv:eb l es bs=true:=by simp only[eb,h,Bool.true_and,decide_eq_true_eq];omega
 refine⟨he,hb,⟨by omega,by omega⟩,⟨by omega,by omega⟩,by omega,by omega,by omega, ?_⟩;have:=loop kv (es.length+bs.length - 1) 0 (by omega);have e1:((((aX es bs).length:Int) - 1).toNat - Int.toNat 0)=es.length+bs.length - 1:=by omega
 rw[e1,cq];simp only[List.take_zero,List.sum_nil,Int.sub_zero,iK]at this;rw[show 1+(aX es bs).sum - 1=(aX es bs).sum from by omega];exact this
theorem adC{es:List En}(h:bF es)(k:Nat):bF (es.take k):=⟨by have:=h.1;rw[length_take];omega,λx hx=>h.2 x (List.mem_of_mem_take hx)⟩
theorem adD{es:List Br}(h:bG es)(k:Nat):bG (es.take k):=⟨by have:=h.1;rw[length_take];omega,λx hx=>h.2 x (List.mem_of_mem_take hx)⟩
theorem adE{es:List En}(h:bF es)(k:Nat):bF (es.drop k):=⟨by have:=h.1;rw[length_drop];omega,λx hx=>h.2 x (List.mem_of_mem_drop hx)⟩
theorem adF{es:List Br}(h:bG es)(k:Nat):bG (es.drop k):=⟨by have:=h.1;rw[length_drop];omega,λx hx=>h.2 x (List.mem_of_mem_drop hx)⟩
theorem jm:bF []:=⟨by simp,λx hx=>by simp at hx⟩
theorem xw:bG []:=⟨by simp,λx hx=>by simp at hx⟩
theorem adG(zs:List Int)(k:Nat):(zs.drop k).sum=zs.sum - (zs.take k).sum:=by
 have:(zs.take k++zs.drop k).sum=zs.sum:=by rw[List.take_append_drop]
 rw[List.sum_append]at this;omega
theorem ajy{l:Bool}{es:List En}{bs:List Br}(m1:l=true->bs=[])(m2:l=false->es=[])(k:Nat):
 ao9 l (es.take k)=es.take k/\apa l (bs.take k)=bs.take k/\ao9 l (es.drop k)=es.drop k/\apa l (bs.drop k)=bs.drop k/\
 bI (es.take k) (bs.take k)=1+((aX es bs).take k).sum/\bI (es.drop k) (bs.drop k)=1+((aX es bs).sum - ((aX es bs).take k).sum):=by
 rw[<-adG];cases l;obtain rfl:=m2 rfl;simp[ao9,apa,aX,bI];obtain rfl:=m1 rfl;simp[ao9,apa,aX,bI]
theorem amf(a b:Int):imax (1+a) (1+b)=1+imax a b:=by
 unfold imax;split<;>split<;>omega
abbrev abA:=cU [rT,fc] [bS,dg] (λ(l,_,())=>[(l:List En).length<=1000000,jk (cg l)]) (λ(l,ad,())=>((de (cg l) ad:Nat),ke (cg l) ad,()))
def aph:aR:=[(115,abA)]
theorem amg(l:List En)(ad:ByteArray):run P aph.sum Tryz.f78 [] (start Tryz.f78 [.s (.ro (.az cE l)),.s (.ag ad)] [])=
 Tree.ab (l.length<=1000000) (.ab (jk (cg l)) (.ite (!ke (cg l) ad) (.ret [] (.bD [.s (.ag empty),.s (.aT false)])) (.ab ((0:Int)<=(↑(de (cg l) ad):bS.V)) (.ab ((↑(de (cg l) ad):bS.V)<(↑l.length:Int)) (.ret [] (.bD [.s (.ag (l.getD (Int.toNat (↑(de (cg l) ad):bS.V)) (CL.d [.ag,.ag])).snd.fst),.s (.aT true)])))))):=by kernel_rfl
theorem afV(l:List En)(i j:Int):run P iU.sum Tryz.f123 [] (start Tryz.f123 [.aq 0,.s (.int .i64 i),.s (.int .i64 j)] [.aq (.az cE l) eE])=
 Tree.ab ((0:Int)<=i) (.ab (i<=j) (.ab (j<=(↑l.length:Int)) (.ab ((↑(0:Nat):Int)+(↑l.length:Int)<=(↑l.length:Int)) (.ite (i==j) (.ret [.aq (.az [.ag,.ag] l) 66] (.aq 0)) (.ab ((0:Int)<=0) (.ab ((0:Int)<=i) (.ab ((↑(0:Nat):Int)+i<=(↑l.length:Int)) (.ab ((0:Int)<=j) (.ab (j<=(↑l.length:Int)) (.ab ((↑(0:Nat):Int)+(↑l.length:Int)<=(↑l.length:Int)) (.ab ((0:Nat)+(i.toNat - Int.toNat 0)+(List.drop ((0:Nat)+j.toNat) (List.take ((0:Nat)+j.toNat+((↑l.length:Int).toNat - j.toNat)) l)).length<=l.length) (.ab ((0:Int)<=(↑(i.toNat - Int.toNat (0:Int)+(List.drop ((0:Nat)+j.toNat) (List.take ((0:Nat)+j.toNat+((↑l.length:Int).toNat - j.toNat)) l)).length):Int)) (.ab ((↑(i.toNat - Int.toNat (0:Int)+(List.drop ((0:Nat)+j.toNat) (List.take ((0:Nat)+j.toNat+((↑l.length:Int).toNat - j.toNat)) l)).length):Int)<=(↑l.length:Int)) (.ab ((↑(0:Nat):Int)+(↑l.length:Int)<=(↑(over l ((0:Nat)+(i.toNat - Int.toNat 0)) (List.drop ((0:Nat)+j.toNat) (List.take ((0:Nat)+j.toNat+((↑l.length:Int).toNat - j.toNat)) l)).length (List.drop ((0:Nat)+j.toNat) (List.take ((0:Nat)+j.toNat+((↑l.length:Int).toNat - j.toNat)) l))).length:Int)) (.ret [.aq (.az [.ag,.ag] (over (over l ((0:Nat)+(i.toNat - Int.toNat 0)) (List.drop ((0:Nat)+j.toNat) (List.take ((0:Nat)+j.toNat+((↑l.length:Int).toNat - j.toNat)) l)).length (List.drop ((0:Nat)+j.toNat) (List.take ((0:Nat)+j.toNat+((↑l.length:Int).toNat - j.toNat)) l))) ((0:Nat)+(↑(i.toNat - Int.toNat (0:Int)+(List.drop ((0:Nat)+j.toNat) (List.take ((0:Nat)+j.toNat+((↑l.length:Int).toNat - j.toNat)) l)).length):Int).toNat) ((↑l.length:Int).toNat - (↑(i.toNat - Int.toNat (0:Int)+(List.drop ((0:Nat)+j.toNat) (List.take ((0:Nat)+j.toNat+((↑l.length:Int).toNat - j.toNat)) l)).length):Int).toNat) (replicate ((↑l.length:Int).toNat - (↑(i.toNat - Int.toNat (0:Int)+(List.drop ((0:Nat)+j.toNat) (List.take ((0:Nat)+j.toNat+((↑l.length:Int).toNat - j.toNat)) l)).length):Int).toNat) (CL.d [.ag,.ag])))) 66] (.part 0 0 (i.toNat - Int.toNat (0:Int)+(List.drop ((0:Nat)+j.toNat) (List.take ((0:Nat)+j.toNat+((↑l.length:Int).toNat - j.toNat)) l)).length))))))))))))))))):=by kernel_rfl
theorem drop_cons{α:Type}{l:List α}{k:Nat}(d:α)(h:k<l.length):l.drop k=l.getD k d::l.drop (k+1):=by rw[List.drop_eq_getElem_cons h,bt h]
abbrev yJ(ad:ByteArray)(x:En):Bool:=decide (x.1=ad)
def oQ(l:List En)(ad:ByteArray):ByteArray:=match l.find? (yJ ad)with|some x=>x.2.1|none=>empty
def nj(l:List En)(ad:ByteArray):Bool:=(l.find? (yJ ad)).isSome
theorem ahC{L:List au}{s:ByteArray}{b:Bool}:Ends [fc,dg] (s,b,()) L (.bD [.s (.ag s),.s (.aT b)]):=rfl
theorem ahD{l:List En}(hs:jk (cg l)){i j:Nat}(hi:i<l.length)(hj:j<l.length)(h:(l.getD i dE).1=(l.getD j dE).1):i=j:=by
 have hk:∀t,(cg l).getD t empty=(l.getD t dE).1:=λt=>dq l qB dE t;have hn:(cg l).length=l.length:=length_map _;rcases Nat.lt_trichotomy i j with h1|h1|h1;have:=hs i j h1 (by omega);rw[hk,hk,h,eI]at this;cases this;exact h1;have:=hs j i h1 (by omega);rw[hk,hk,h,eI]at this;cases this
theorem ahE{l:List En}{ad:ByteArray}(hs:jk (cg l)):nj l ad=ke (cg l) ad/\(ke (cg l) ad=true->de (cg l) ad<l.length/\oQ l ad=(l.getD (de (cg l) ad) dE).2.1):=by
 have hk:∀t,(cg l).getD t empty=(l.getD t dE).1:=λt=>dq l qB dE t;have hn:(cg l).length=l.length:=length_map _;cases ha:ke (cg l) ad;refine⟨?_,λh=>by cases h⟩;cases hf:l.find? (yJ ad)with
 |none=>rw[nj,hf];rfl
 |some x=>
  exfalso;have h1:=List.find?_some hf;obtain⟨i,hi,rfl⟩:=List.getElem_of_mem (List.mem_of_find?_eq_some hf);have h1:l[i].1=ad:=of_decide_eq_true h1;have h2:(l.getD i dE).1=ad:=by rw[bt hi];exact h1
  rcases lt_or_ge i (de (cg l) ad)with h3|h3;have:=afN h3;rw[hk,h2,eI]at this;cases this;rcases Nat.eq_or_lt_of_le h3 with h4|h4;have:ke (cg l) ad=true:=kC.2 ⟨by omega,by rw[hk,h4];exact h2⟩;rw[ha]at this;cases this;have h5:=al6 hs (ad:=ad) (t:=de (cg l) ad) (le_refl _) (by omega);have h6:=hs _ _ h4 (by omega);rw[hk i,h2]at h6;rw[h6]at h5;cases h5
 have⟨h1,h2⟩:=kC.1 ha;rw[hk]at h2;rw[hn]at h1;cases hf:l.find? (yJ ad)with
 |none=>
  exfalso;have:=List.find?_eq_none.1 hf (l.getD (de (cg l) ad) dE) (by rw[bt h1];exact getElem_mem _);exact this (decide_eq_true h2)
 |some x=>
  obtain⟨i,hi,rfl⟩:=List.getElem_of_mem (List.mem_of_find?_eq_some hf);have h3:=List.find?_some hf;have h3:l[i].1=ad:=of_decide_eq_true h3;have e:i=de (cg l) ad:=ahD hs hi h1 (by rw[h2,bt hi];exact h3);subst e;exact⟨by rw[nj,hf];rfl,λ_=>⟨h1,by rw[oQ,hf,bt hi]⟩⟩
theorem api{Z:bB}:dO P Z 78 [rT,fc] [fc,dg] (λ(l,_,())=>[(l:List En).length<=1000000,jk (cg l)]) (λ(l,ad,())=>(oQ l ad,nj l ad,())):=by
 refine aM Tryz.func78 (by kernel_rfl) (by kernel_rfl) ?_;rintro⟨(l:List En),(ad:ByteArray),⟨⟩⟩ _ ⟨(hl:l.length<=1000000),(hs:jk (cg l)),_⟩ X hX hz;show Safe P 78 X (Ends [fc,dg] (oQ l ad,nj l ad,())) _;have⟨h1,h2⟩:=ahE (ad:=ad) hs;refine go hz hX (aR.Ok.cons tE.sum aR.Ok.nil) Tryz.func78 (amg l ad) ⟨hl,hs,λh=> ?_,λh=> ?_⟩;have h:ke (cg l) ad=false:=by simpa using h
 have e2:nj l ad=false:=by rw[h1,h]
 have e1:oQ l ad=empty:=by
  cases hf:l.find? (yJ ad)with
  |none=>rw[oQ,hf]
  |some x=>rw[nj,hf]at e2;cases e2
 rw[e1,e2];exact ahC;have h:ke (cg l) ad=true:=by simpa using h
 have⟨h3,h4⟩:=h2 h;rw[h4,h1,h];refine⟨Int.natCast_nonneg _, ?_,ahC⟩;show((de (cg l) ad:Nat):Int)<_;omega
def xx(ad val:ByteArray):Bool->List En->List En
 |dn,[]=>if dn=true then []else [(ad,val,())]
 |dn,x::r=>if dn=false/\slt x.1 ad=false then(if x.1=ad then(ad,val,())::xx ad val true r else(ad,val,())::x::xx ad val true r)else x::xx ad val dn r
def cN(l:List En)(ad:ByteArray):List En:=l.filter λx=> !yJ ad x
def iV(l:List En)(ad:ByteArray):Bool:=decide (((cN l ad).length:Int)<(l.length:Int))
theorem tH(x:En)(r:List En)(ad:ByteArray):cN (x::r) ad=if(!yJ ad x)=true then x::cN r ad else cN r ad:=by
 unfold cN;rw[List.filter_cons]
abbrev yK(l:List En)(j:Int):List En:=List.drop ((0:Nat)+j.toNat) (List.take ((0:Nat)+j.toNat+(((l.length:Int)).toNat - j.toNat)) l)
abbrev tI(l:List En)(i j:Int):Nat:=i.toNat - Int.toNat (0:Int)+(yK l j).length
abbrev ajz(l:List En)(i j:Int):List En:=over (over l ((0:Nat)+(i.toNat - Int.toNat (0:Int))) (yK l j).length (yK l j)) ((0:Nat)+((tI l i j:Nat):Int).toNat) (((l.length:Int)).toNat - ((tI l i j:Nat):Int).toNat) (replicate (((l.length:Int)).toNat - ((tI l i j:Nat):Int).toNat) (CL.d cE))
def ahF:Spec (List En×Int×Int):=⟨λx=>[.aq 0,.s (.int .i64 x.2.1),.s (.int .i64 x.2.2)],λx=>[.aq (.az cE x.1) eE],λx=>[0<=x.2.1,x.2.1<x.2.2,x.2.2<=((x.1.length:Nat):Int)],λx=>[.aq (.az cE (ajz x.1 x.2.1 x.2.2)) eE],λx=>.part 0 0 (tI x.1 x.2.1 x.2.2)⟩
def av1:List AV->RM ((List En×Int×Int)×List Nat)
 |[.aq id,.s (.int .i64 i),.s (.int .i64 j)]=>.aA id λ
  |some (.aq (.az [.ag,.ag] l) _)=>.ret ((l,i,j),[id])
  |_=>.fail "delete: no row"
 |_=>.fail "delete"
def amh:aR:=[(115,abA),(116,atn),(123,cC ahF av1)]
theorem apj(l:List En)(ad:ByteArray):run P amh.sum Tryz.f76 [] (start Tryz.f76 [.s (.ro (.az cE l)),.s (.ag ad)] [])=
 Tree.ab (l.length<=1000000) (.ab (jk (cg l)) (.ab (l.length<=100000) (.ite (ke (cg l) ad) (.ab (aG ((↑(de (cg l) ad):bS.V)+1)) (.ab (bx (some [AV.aq 0,.s (.int .i64 (↑(de (cg l) ad):bS.V)),.s (.int .i64 ((↑(de (cg l) ad):bS.V)+1))])) (.ab (bx (some [au.aq (.az [.ag,.ag] l) 66])) (.ab ((0:Int)<=(↑(de (cg l) ad):bS.V)) (.ab ((↑(de (cg l) ad):bS.V)<(↑(de (cg l) ad):bS.V)+1) (.ab ((↑(de (cg l) ad):bS.V)+1<=(↑l.length:Int)) (.ret [.aq (.az [.ag,.ag] (ajz l (↑(de (cg l) ad):bS.V) ((↑(de (cg l) ad):bS.V)+1))) 66] (.bD [.part 0 0 (tI l (↑(de (cg l) ad):bS.V) ((↑(de (cg l) ad):bS.V)+1)),.s (.bool (ke (cg l) ad))])))))))) (.ret [.aq (.az [.ag,.ag] l) 66] (.bD [.aq 0,.s (.bool (ke (cg l) ad))]))))):=by kernel_rfl
theorem ajA{Z:bB}:gE P Z 123 ahF:=by
 refine aK Tryz.func123 (by kernel_rfl) (λx=>le_of_ble_eq_true (by kernel_rfl)) ?_;rintro⟨(l:List En),(i:Int),(j:Int)⟩ ⟨(h1:0<=i),(h2:i<j),(h3:j<=(l.length:Int)),_⟩ X hX hz;have e1:(yK l j).length=l.length - j.toNat:=by simp only[yK,length_drop,length_take];omega
 refine dk hz hX (by simp) aR.Ok.nil Tryz.func123 (afV l i j) ⟨h1,by omega,h3,by omega,λh=>absurd h (by simp;omega),λ_=>⟨by omega,h1,by omega,by omega,h3,by omega, ?_, ?_, ?_, ?_,⟨⟨[],[0],1,[]⟩,le_refl _, ?_⟩⟩⟩;show 0+(i.toNat - Int.toNat 0)+(yK l j).length<=l.length;rw[e1];omega;show(0:Int)<=((tI l i j:Nat):Int);omega;show((tI l i j:Nat):Int)<=_;simp only[tI,e1];omega;show((0:Nat):Int)+(l.length:Int)<=((over l (0+(i.toNat - Int.toNat 0)) (yK l j).length (yK l j)).length:Int);simp only[over,length_append,length_take,length_drop,e1];omega;show Norm.run _ _=some ⟨[.part 0 0 (tI l i j)],[.aq (.az cE (ajz l i j)) eE],[],{}⟩;kernel_rfl
theorem ami{l:List En}{ad:ByteArray}(hs:jk (cg l)):(ke (cg l) ad=false->cN l ad=l)/\(ke (cg l) ad=true->cN l ad=l.take (de (cg l) ad)++l.drop (de (cg l) ad+1)):=by
 have hk:∀t,(cg l).getD t empty=(l.getD t dE).1:=λt=>dq l qB dE t;have hn:(cg l).length=l.length:=length_map _;have⟨f1,f2⟩:=ahE (ad:=ad) hs;refine⟨λh=> ?_,λh=> ?_⟩;rw[h]at f1;refine List.filter_eq_self.2 λx hx=> ?_
 have:l.find? (yJ ad)=none:=by
  cases hf:l.find? (yJ ad)with
  |none=>rfl
  |some y=>rw[nj,hf]at f1;cases f1
 have:=List.find?_eq_none.1 this x hx;cases hb:yJ ad x;rfl;exact absurd hb this;have⟨h1,h2⟩:=kC.1 h;rw[hk]at h2;rw[hn]at h1;have e:l=l.take (de (cg l) ad)++l.getD (de (cg l) ad) dE::l.drop (de (cg l) ad+1):=by rw[<-drop_cons dE h1,List.take_append_drop]
 have other:∀i,i<l.length->i≠de (cg l) ad->(!yJ ad (l.getD i dE))=true:=λi hi cX=>by
  cases hb:yJ ad (l.getD i dE);rfl;exact absurd (ahD hs hi h1 ((show(l.getD i dE).1=ad from of_decide_eq_true hb).trans h2.symm)) cX
 have g1:cN (l.take (de (cg l) ad)) ad=l.take (de (cg l) ad):=by
  refine List.filter_eq_self.2 λx hx=> ?_;obtain⟨i,hi,rfl⟩:=List.getElem_of_mem hx;rw[length_take]at hi;have:=other i (by omega) (by omega);rw[bt (by omega)]at this;rw[List.getElem_take];exact this
 have g2:cN (l.drop (de (cg l) ad+1)) ad=l.drop (de (cg l) ad+1):=by
  refine List.filter_eq_self.2 λx hx=> ?_;obtain⟨i,hi,rfl⟩:=List.getElem_of_mem hx;rw[length_drop]at hi;have:=other (de (cg l) ad+1+i) (by omega) (by omega);rw[bt (by omega)]at this;rw[List.getElem_drop];exact this
 have app:∀a b:List En,cN (a++b) ad=cN a ad++cN b ad:=λa b=>List.filter_append ..;have:cN l ad=cN (l.take (de (cg l) ad)++l.getD (de (cg l) ad) dE::l.drop (de (cg l) ad+1)) ad:=by rw[<-e]
 rw[this,app,tH,if_neg (show¬(!decide ((l.getD (de (cg l) ad) dE).1=ad))=true from by rw[decide_eq_true h2];simp),g1,g2]
theorem apk{l:List En}{ad:ByteArray}(hs:jk (cg l)):iV l ad=ke (cg l) ad:=by
 have⟨h1,h2⟩:=ami (ad:=ad) hs;cases ha:ke (cg l) ad;rw[iV,h1 ha];simp;have⟨h3,_⟩:=kC.1 ha;rw[length_map]at h3;rw[iV,h2 ha];simp only[length_append,length_take,length_drop,decide_eq_true_eq];omega
theorem ajB{l:List En}{k:Nat}(h:k<l.length):(ajz l (k:Int) ((k:Int)+1)).take (tI l (k:Int) ((k:Int)+1))=l.take k++l.drop (k+1):=by
 have e0:yK l ((k:Int)+1)=l.drop (k+1):=by
  simp only[yK];rw[show 0+((k:Int)+1).toNat=k+1 from by omega,take_of_length_le (by omega)]
 have e1:tI l (k:Int) ((k:Int)+1)=l.length - 1:=by
  simp only[tI,e0,length_drop];omega
 simp only[ajz,e0,e1,over];rw[show 0+((k:Int).toNat - Int.toNat 0)=k from by omega,show 0+(((l.length - 1:Nat):Int)).toNat=l.length - 1 from by omega,show k+(l.drop (k+1)).length=l.length - 1 from by rw[length_drop];omega];rw[take_of_length_le (l:=l.drop (k+1)) (le_refl _)];have bK:(l.take k++l.drop (k+1)).length=l.length - 1:=by simp only[length_append,length_take,length_drop];omega
 rw[append_assoc,append_assoc,<-append_assoc (l.take k),List.take_left' bK,List.take_left' bK]
theorem amj{Z:bB}:dO P Z 76 [rT,fc] [rT,dg] (λ(l,_,())=>[(l:List En).length<=100000,jk (cg l)]) (λ(l,ad,())=>(cN l ad,iV l ad,())):=by
 refine aM Tryz.func76 (by kernel_rfl) (by kernel_rfl) ?_;rintro⟨(l:List En),(ad:ByteArray),⟨⟩⟩ _ ⟨(hl:l.length<=100000),(hs:jk (cg l)),_⟩ X hX hz;show Safe P 76 X (Ends [rT,dg] (cN l ad,iV l ad,())) _;have hT:amh.Ok P Z:=aR.Ok.cons tE.sum (aR.Ok.cons afU.sum (aR.Ok.cons (ajA.sum av1) aR.Ok.nil));have⟨d1,d2⟩:=ami (ad:=ad) hs;have hb:=apk (ad:=ad) hs;have hle:=xi (cg l) ad;rw[length_map]at hle;refine go hz hX hT Tryz.func76 (apj l ad) ⟨by omega,hs,hl,λh=> ?_,λh=> ?_⟩;have⟨h3,_⟩:=kC.1 h;rw[length_map]at h3;refine⟨⟨?_, ?_⟩,rfl,rfl, ?_, ?_, ?_, ?_⟩;show(-9223372036854775808:Int)<=((de (cg l) ad:Nat):Int)+1;omega;show((de (cg l) ad:Nat):Int)+1<=(9223372036854775807:Int);omega;show(0:Int)<=((de (cg l) ad:Nat):Int);omega;show((de (cg l) ad:Nat):Int)<((de (cg l) ad:Nat):Int)+1;omega;show((de (cg l) ad:Nat):Int)+1<=(l.length:Int);omega;refine bq (List.drop 0 ((ajz l ((de (cg l) ad:Nat):Int) (((de (cg l) ad:Nat):Int)+1)).take (0+tI l ((de (cg l) ad:Nat):Int) (((de (cg l) ad:Nat):Int)+1))),ke (cg l) ad,()) ?_ (by kernel_rfl);rw[d2 h,hb,zero_add,ajB h3];rfl;refine bq (l,ke (cg l) ad,()) ?_ (by kernel_rfl);rw[d1 h,hb];rfl
theorem py(ad val:ByteArray):∀l:List En,xx ad val true l=l
 |[]=>rfl
 |x::r=>by rw[xx,if_neg (by simp),py ad val r]
def bX(l:List En)(ad val:ByteArray):List En:=l.take (de (cg l) ad)++(ad,val,())::l.drop (if ke (cg l) ad=true then de (cg l) ad+1 else de (cg l) ad)
theorem abB{x:En}{r:List En}{ad:ByteArray}(h:slt x.1 ad=true):de (cg (x::r)) ad=de (cg r) ad+1:=by simp[de,cg,List.takeWhile,h]
theorem afW{x:En}{r:List En}{ad:ByteArray}(h:slt x.1 ad=false):de (cg (x::r)) ad=0:=by simp[de,cg,List.takeWhile,h]
theorem ahG{x:En}{r:List En}{ad:ByteArray}(h:slt x.1 ad=true):ke (cg (x::r)) ad=ke (cg r) ad:=by
 unfold ke;rw[abB h];rfl
theorem amk{x:En}{r:List En}{ad:ByteArray}(h:slt x.1 ad=false):ke (cg (x::r)) ad=decide (x.1=ad):=by
 unfold ke;rw[afW h];simp[cg]
theorem put_eq(ad val:ByteArray):∀l:List En,xx ad val false l=bX l ad val
 |[]=>rfl
 |x::r=>by
  rw[xx];cases hs:slt x.1 ad;rw[if_pos ⟨rfl,rfl⟩,bX,afW hs,amk hs,py];by_cases hk:x.1=ad;rw[if_pos hk,decide_eq_true hk];rfl;rw[if_neg hk,decide_eq_false hk];rfl;rw[if_neg (by simp),put_eq ad val r,bX,bX,abB hs,ahG hs];cases ke (cg r) ad<;>rfl
theorem abC{l:List En}{ad val:ByteArray}:(bX l ad val).length=l.length+(if ke (cg l) ad=true then 0 else 1):=by
 have:=xi (cg l) ad;rw[length_map]at this;cases ha:ke (cg l) ad;simp only[bX,ha,length_append,length_cons,length_take,length_drop];simp;omega;have h1:=(kC.1 ha).1;rw[length_map]at h1;simp only[bX,ha,length_append,length_cons,length_take,length_drop];simp;omega
abbrev ris(l:List En):Prop:=l.Pairwise λa b=>slt a.1 b.1=true
theorem vt{l:List En}:jk (cg l)↔ris l:=by
 have hk:∀t,(cg l).getD t empty=(l.getD t dE).1:=λt=>dq l qB dE t;have hn:(cg l).length=l.length:=length_map _;rw[ris,List.pairwise_iff_getElem];constructor;intro h i j hi hj lI;have:=h i j lI (by omega);rw[hk,hk,bt hi,bt hj]at this;exact this;intro h i j lI hj;rw[hn]at hj;have:=h i j (by omega) hj lI;rw[hk,hk,bt (by omega),bt hj];exact this
theorem ahH:∀{l:List En} (ad val:ByteArray),ris l->ris (xx ad val false l)/\∀a:En,slt a.1 ad=true->(∀x∈l,slt a.1 x.1=true)->∀x∈xx ad val false l,slt a.1 x.1=true
 |[],ad,val,_=>by
  rw[xx,if_neg (by simp)]
  exact⟨List.pairwise_singleton ..,λa h _ x hx=>by
   simp only[mem_singleton]at hx;subst hx;exact h⟩
 |x::r,ad,val,h=>by
  have⟨h1,h2⟩:=pairwise_cons.1 h;have⟨g1,g2⟩:=ahH (l:=r) ad val h2;rw[xx];split;rename_i hc;split;rename_i hk;rw[py];refine⟨pairwise_cons.2 ⟨λy hy=>by rw[show(ad,val,()).1=x.1 from hk.symm];exact h1 y hy,h2⟩,λa ha hl y hy=> ?_⟩;rcases mem_cons.1 hy with rfl|hy;exact ha;exact hl y (mem_cons_of_mem _ hy);rename_i hk;rw[py];have bA:slt ad x.1=true:=w5 hc.2 hk;refine⟨pairwise_cons.2 ⟨λy hy=> ?_,h⟩,λa ha hl y hy=> ?_⟩;rcases mem_cons.1 hy with rfl|hy;exact bA;exact dc bA (h1 y hy);rcases mem_cons.1 hy with rfl|hy;exact ha;exact hl y hy;rename_i hc;have hx:slt x.1 ad=true:=by simpa using hc
  refine⟨pairwise_cons.2 ⟨λy hy=>g2 x hx h1 y hy,g1⟩,λa ha hl y hy=> ?_⟩;rcases mem_cons.1 hy with rfl|hy;exact hl _ (by simp);exact g2 a ha (λz hz=>hl z (mem_cons_of_mem _ hz)) y hy
theorem apl{l:List En}(ad val:ByteArray)(h:jk (cg l)):jk (cg (bX l ad val)):=by
 rw[<-put_eq];exact vt.2 (ahH ad val (vt.1 h)).1
theorem apm{l:List En}(ad:ByteArray)(h:jk (cg l)):jk (cg (cN l ad)):=vt.2 (List.Pairwise.filter _ (vt.1 h))
end Lf
namespace Go.Sx
open Go
section
variable{ρ aQ:Nat->Value}{H H':aV}{G O O':Nat->Prop}{w w':World}{P:Program}{X:Ctx}{L:List au}{K:List au->AV->Prop}
theorem atq(hs:Sat ρ (lk L) G w){id:Nat}{c c2:a8}{e:TypeId}{aa:Value}(dN:L[id]? =some (.aq c e))(rj:∀b,fp aa=some b->fp (ρ id)=some b)(e9:jd ρ (lk L) (bd ρ (lk L) G) w aa (.aq c2 e)):
 ∃aQ,Sat aQ (lk (L.set id .aB++[.aq c2 e])) G w/\zD ρ L G w aQ (L.set id .aB++[.aq c2 e])/\aQ L.length=aa:=by
 have bA:id<L.length:=(getElem?_eq_some_iff.1 dN).1;generalize hx:au.aq c2 e=x;have hxa:x.alive=true:=by rw[<-hx];rfl
 have old:∀{k:Nat} {o:au},(L.set id .aB++[x])[k]? =some o->(k=L.length/\o=x)\/(k=id/\o=.aB)\/(k≠id/\k≠L.length/\L[k]? =some o):=by
  intro k o ho;have h2:=(getElem?_eq_some_iff.1 ho).1;simp only[length_append,List.length_set,length_cons,length_nil]at h2;by_cases hk:k=L.length;subst hk;rw[getElem?_append_right (by simp)]at ho;simp at ho;exact .inl ⟨rfl,ho.symm⟩;rw[getElem?_append_left (by simp;omega),getElem?_set]at ho;split at ho;rename_i ri
  first
   |exact .inr (.inl ⟨ri.symm,by simpa using ho.symm⟩)
   |(rw[if_pos bA]at ho;exact .inr (.inl ⟨ri.symm,by simpa using ho.symm⟩))
  rename_i ri;exact .inr (.inr ⟨Ne.symm ri,hk,ho⟩)
 have new:∀{k:Nat} {o:au},L[k]? =some o->k≠id->(L.set id .aB++[x])[k]? =some o:=by
  intro k o ho hk;have h1:=(getElem?_eq_some_iff.1 ho).1;rw[getElem?_append_left (by simpa using h1),List.getElem?_set_ne (Ne.symm hk)];exact ho
 have ak5:(L.set id .aB++[x])[id]? =some .aB:=by
  rw[getElem?_append_left (by simpa using bA),List.getElem?_set_self bA]
 have avl:(L.set id .aB++[x])[L.length]? =some x:=by
  rw[getElem?_append_right (by simp)];simp
 let aQ:Nat->Value:=λj=>if j=L.length then aa else ρ j
 have ew:∀b,Own aQ (lk (L.set id .aB++[x])) b->Own ρ (lk L) b:=by
  rintro b ⟨k,o,ho,ha,hb⟩;rcases old ho with⟨h1,h2⟩|⟨h1,h2⟩|⟨h1,h2,h3⟩;simp only[aQ,h1,if_true]at hb;exact⟨id,_,dN,rfl,rj b hb⟩;subst h2;cases ha;simp only[aQ,h2,if_false]at hb;exact⟨k,o,h3,ha,hb⟩
 have st:zD ρ L G w aQ (L.set id .aB++[x]):=by
  refine⟨λk o ho=> ?_,λk o ho=> ?_,λb hb=>.inl ?_,λ_ _ _=>rfl,le_refl _⟩;have h1:k<L.length:=(getElem?_eq_some_iff.1 ho).1;simp only[aQ];rw[if_neg (by omega)];by_cases hk:k=id;subst hk;exact⟨.aB,ak5,λc' e' hc=>by cases hc⟩;exact⟨o,new ho hk,λc' e' hc=>⟨c',e',hc,rfl,rfl⟩⟩;rcases hb with hb|hb;exact .inl (ew b hb);exact .inr hb
 refine⟨aQ,⟨λk o ho=> ?_,λi j oi oj b hi hj ai aj bi bj=> ?_,λb hb=>hs.apart b (ew b hb),hs.low⟩,st, ?_⟩;rcases old ho with⟨h1,h2⟩|⟨h1,h2⟩|⟨h1,h2,h3⟩;rw[h2];simp only[aQ,h1,if_true];rw[hx]at e9;exact e9.step st (λ_ _ _=>rfl);subst h2;trivial;simp only[aQ,h2,if_false];exact(hs.obj k o h3).step st (λ_ _ _=>rfl)
 have cls:∀{k:Nat} {o:au},(L.set id .aB++[x])[k]? =some o->o.alive=true->fp (aQ k)=some b->(k=L.length/\fp (ρ id)=some b)\/(k≠id/\k≠L.length/\L[k]? =some o/\fp (ρ k)=some b):=by
  intro k o ho ha hb;rcases old ho with⟨h1,h2⟩|⟨h1,h2⟩|⟨h1,h2,h3⟩;simp only[aQ,h1,if_true]at hb;exact .inl ⟨h1,rj b hb⟩;subst h2;cases ha;simp only[aQ,h2,if_false]at hb;exact .inr ⟨h1,h2,h3,hb⟩
 rcases cls hi ai bi with⟨h1,h2⟩|⟨h1,h2,h3,h4⟩<;>rcases cls hj aj bj with⟨k1,k2⟩|⟨k1,k2,k3,k4⟩;rw[h1,k1];exact absurd (hs.inj j id oj _ b k3 dN aj rfl k4 h2) k1;exact absurd (hs.inj i id oi _ b h3 dN ai rfl h4 k2) h1;exact hs.inj i j oi oj b h3 k3 ai aj h4 k4;simp only[aQ,if_true]
def rW(c:a8)(m:Nat):a8:=.fo c.size (c.n+m) λi j=>bif i.blt c.n then c.cell i j else .bk
theorem adH{ah:List AV}{t:Nat}{y x:AV}(ht:ah.getD t (.s .bk)=y)(hy:y≠.s .bk)(u:Nat):(ah.set t x).getD u (.s .bk)=if u=t then x else ah.getD u (.s .bk):=by
 have bA:t<ah.length:=by
  rcases lt_or_ge t ah.length with h|h;exact h;rw[List.getD,getElem?_eq_none h]at ht;exact absurd ht.symm hy
 by_cases hu:u=t;subst hu;rw[if_pos rfl];simp[List.getD,bA];rw[if_neg hu];simp[List.getD,List.getElem?_set_ne (Ne.symm hu)]
theorem aml{a:Option Addr}{cap m:Nat}{c:a8}{e:TypeId}(hm:0<m)(av2:c.n+m<=cap)(h:jd ρ H O w (.slice a c.n cap) (.aq c e)):jd ρ H O w (.slice a (c.n+m) cap) (.aq (rW c m) e):=by
 have⟨a2,re,h1,h2,h3,h4⟩:=h;cases h1;rcases h4 with h4|⟨b,o,cells,fr,us,rfl,g1,g2,g3,g4⟩;omega;refine⟨some ⟨b,o,none⟩,cap,rfl,av2,h3,.inr ⟨b,o,cells,fr,λi j=>if i<c.n then us i j else cells.getD (o+i*c.size+j) undef,rfl,g1,g2,g3,λi j hi hj=> ?_⟩⟩;have hi:i<c.n+m:=hi;have hj:j<c.size:=hj;show cells[o+i*c.size+j]? =_/\bg O w (bif i.blt c.n then c.cell i j else .bk) _;by_cases dv:i<c.n;dsimp only;rw[if_pos dv,show i.blt c.n=true from by simpa[Nat.blt,Nat.lt_iff_add_one_le]using dv];exact g4 i j dv hj;dsimp only
 rw[if_neg dv,show i.blt c.n=false from by
  cases hb:i.blt c.n;rfl;exact absurd (show i<c.n from by simpa[Nat.blt,Nat.lt_iff_add_one_le]using hb) dv]
 have bA:o+i*c.size+j<cells.length:=by
  have:(i+1)*c.size<=cap*c.size:=Nat.mul_le_mul_right _ (by omega);rw[Nat.succ_mul]at this;omega
 have e:cells[o+i*c.size+j]? =some (cells.getD (o+i*c.size+j) undef):=by simp[List.getD,bA]
 exact⟨e,.bk _ (g2.2 _ (List.mem_of_getElem? e))⟩
theorem ajC{f:FuncId}{ah:List AV}{todo:List Item}{t id m:Nat}{c:a8}{e:TypeId}(ht:ah.getD t (.s .bk)=.aq id)(dN:L[id]? =some (.aq c e))(hm:0<m)
 {stk:ur} (hA:Safe P f X K ⟨ah.set t (.part L.length 0 c.n),L.set id .aB++[.aq (rW c m) e],todo,stk⟩)
 (hB:Safe P f X K ⟨ah.set t (.s (.rot c (c.n+m))),L.set id .aB,todo,stk⟩):Safe P f X K ⟨ah,L,todo,stk⟩:=by
 intro G E ρ a w iS iZ hr bf tf fsf hwf;have hs:Sat ρ (lk L) G w:=hr.sat;have hd:=hr.den t;rw[show(St.ah ⟨ah,L⟩).getD t (.s .bk)=.aq id from ht]at hd;have⟨a0,cap,hv,eW,hle,afa⟩:=js hs dN hd;have e9:=hs.obj id _ dN;rw[eW,hv]at e9;have bA:id<L.length:=(getElem?_eq_some_iff.1 dN).1;by_cases hc:c.n+m<=cap
 have⟨aQ,s',st,hρ⟩:=atq hs dN (aa:=.slice a0 (c.n+m) cap) (c2:=rW c m) (λb hb=>by
  rw[eW,hv];cases a0 with
  |none=>simp[fp]at hb
  |some y=>simpa[fp]using hb) (aml hm hc e9)
 refine hA G E aQ a w iS iZ ⟨s',by rw[List.length_set];exact hr.size,λu=> ?_,hr.defers,hr.ax.trans st,hr.jQ,hr.bc⟩ bf tf fsf hwf;show ak aQ _ _ w ((ah.set t (.part L.length 0 c.n)).getD u (.s .bk)) _;rw[adH ht (by simp)];by_cases hu:u=t;subst hu;rw[if_pos rfl,hv];unfold ak aO;refine⟨rfl,.aq (rW c m) e,by show(L.set id .aB++[_])[L.length]? =_;rw[getElem?_append_right (by simp)];simp,λc' e' he=> ?_⟩;cases he;refine⟨by show 0+c.n<=c.n+m;omega,a0,cap,a0,hρ,hc,by simp,λ_=> ?_⟩;rw[Nat.zero_mul];cases a0 with
 |none=>rfl
 |some y=>simp[Addr.add]
 rw[if_neg hu];exact(hr.den u).step st
 have eL:lk (L.set id .aB)=aF (lk L) id .aB:=by
  funext k;show(L.set id .aB)[k]? =_;rw[getElem?_set];by_cases hk:id=k;subst hk;simp[aF,bA];rw[if_neg hk];simp[aF,Ne.symm hk]
 have st:zD ρ L G w ρ (L.set id .aB):=by
  show Step ρ (lk L) _ w ρ (lk (L.set id .aB)) (bd ρ (lk (L.set id .aB)) G) w;rw[eL];exact fz (H:=lk L) dN
 have hs':Sat ρ (lk (L.set id .aB)) G w:=by rw[eL];exact Sat.kill hs dN
 refine hB G E ρ a w iS iZ ⟨hs',by rw[List.length_set];exact hr.size,λu=> ?_,hr.defers,hr.ax.trans st,hr.jQ,hr.bc⟩ bf tf fsf hwf;show ak ρ _ _ w ((ah.set t (.s (.rot c (c.n+m)))).getD u (.s .bk)) _;rw[adH ht (by simp)];by_cases hu:u=t;subst hu;rw[if_pos rfl,hv];refine aJ (.rot _ _ _ _ _ ?_ (by omega));have⟨a2,re,h1,h2,h3,h4⟩:=e9;cases h1;rcases h4 with rfl|⟨b,o,cells,fr,us,rfl,g1,g2,g3,g4⟩;exact .ro c a0 0 (λ_ _=>undef) 0 0 hle afa (λh=>by omega) (λi j hi _=>by omega) (λi j hi _=>by omega);refine .ro c _ cap us b o hle afa (λh0=>⟨rfl, ?_, ?_⟩) (λi j hi hj=> ?_) (λi j hi hj=>((g4 i j hi hj).2).step st.gy st.heap st.size)
 have hb:fp (ρ id)=some b:=by
  rw[eW,hv];simp only[fp];rw[if_neg (by omega)]
 rintro(⟨k,ok,hk,ha,hb2⟩|hG);have hk:(L.set id .aB)[k]? =some ok:=hk;rw[getElem?_set]at hk;split at hk;rename_i e1
 first
  |(simp only[Option.some.injEq]at hk;subst hk;cases ha)
  |(rw[if_pos bA]at hk;simp only[Option.some.injEq]at hk;subst hk;cases ha)
 rename_i e1;exact e1 (hs.inj id k _ ok b dN hk rfl ha hb hb2);exact hs.apart b ⟨id,_,dN,rfl,hb⟩ hG;exact(Array.getElem?_eq_some_iff.1 g1).1;have:=(g4 i j hi hj).1;simp only[cell?,g1];simp[this];rw[if_neg hu];exact(hr.den u).step st
theorem amm{f:FuncId}{ah:List AV}{todo:List Item}{stk:ur}{id:Nat}{c c':a8}{e:TypeId}(dN:L[id]? =some (.aq c e))(hn:c'.n=c.n)(cq:c'.size=c.size)(hc:∀i j,i<c.n->j<c.size->c'.cell i j=c.cell i j)
 (h:Safe P f X K ⟨ah,L.set id (.aq c' e),todo,stk⟩):Safe P f X K ⟨ah,L,todo,stk⟩:=by
 intro G E ρ a w iS iZ hr b t fs hw;have hs:Sat ρ (lk L) G w:=hr.sat;have bA:id<L.length:=(getElem?_eq_some_iff.1 dN).1
 have eL:lk (L.set id (.aq c' e))=aF (lk L) id (.aq c' e):=by
  funext k;show(L.set id (.aq c' e))[k]? =_;rw[getElem?_set];by_cases hk:id=k;subst hk;simp[aF,bA];rw[if_neg hk];simp[aF,Ne.symm hk]
 have e9:jd ρ (aF (lk L) id (.aq c' e)) (bd ρ (lk L) G) w (ρ id) (.aq c' e):=by
  have⟨a2,re,h1,h2,h3,h4⟩:=hs.obj id _ dN;refine⟨a2,re,by rw[hn];exact h1,by omega,h3, ?_⟩;rcases h4 with h4|⟨b,o,cells,fr,us,rfl,g1,g2,g3,g4⟩;exact .inl h4;refine .inr ⟨b,o,cells,fr,us,rfl,g1,g2,by rw[cq];exact g3,λi j hi hj=> ?_⟩;rw[hn]at hi;rw[cq]at hj;rw[cq,hc i j hi hj];exact g4 i j hi hj
 have⟨aQ,s',_,st,_⟩:=Good.upd (H:=lk L) (o':=.aq c' e) (r:=.s .bk) (v:=undef) hs dN rfl (λc2 e2 he=>by cases he;exact⟨c,e,rfl,hn,cq⟩) e9 (by unfold ak;trivial);rw[<-eL]at s' st;exact h G E aQ a w iS iZ ⟨s',hr.size,λu=>(hr.den u).step st,hr.defers,hr.ax.trans st,hr.jQ,hr.bc⟩ b t fs hw
theorem ajD{f:FuncId}{ah:List AV}{todo:List Item}{stk:ur}{t id n:Nat}{c:a8}{e:TypeId}(ht:ah.getD t (.s .bk)=.part id 0 n)(dN:L[id]? =some (.aq c e))(hn:n=c.n)(h0:0<n)
 (h:Safe P f X K ⟨ah.set t (.aq id),L,todo,stk⟩):Safe P f X K ⟨ah,L,todo,stk⟩:=by
 intro G E ρ a w iS iZ hr b tf fs hw;have hd:=hr.den t;rw[show(St.ah ⟨ah,L⟩).getD t (.s .bk)=.part id 0 n from ht]at hd;refine h G E ρ a w iS iZ (hr.aa1 ht ?_) b tf fs hw;have hd0:=hd;unfold ak aO at hd;have⟨h1,o,ho,hv⟩:=hd
 have:o=.aq c e:=by
  have:(St.aA ⟨ah,L⟩) id=some (.aq c e):=dN;rw[this]at ho;cases ho;rfl
 subst this;have⟨hle,a1,cap,a2,k1,k2,k3,k4⟩:=hv c e rfl;have yu:cap≠0:=by omega
 unfold ak aO;refine⟨h1,.aq c e,ho,λc' e' he=> ?_⟩;cases he;rw[k3,k1,k4 yu,Nat.sub_zero,hn,Nat.zero_mul];cases a1 with
 |none=>rfl
 |some y=>simp[Addr.add]
end
end Go.Sx
namespace Lf
open Go Go.Sx Go.Proofs
def mJ{α:Type}(l:List α)(k:Nat)(x:α):List α:=l.take k++x::l.drop k
def ahI:Spec (List En×En×Nat):=⟨λx=>[.aq 0,.s (.int .i64 (x.2.2:Int)),.aq 1],λx=>[.aq (.az cE x.1) eE,.aq (.az cE [x.2.1]) eE],λx=>[x.2.2<=x.1.length,x.1.length<=100000],λx=>[.aB,.aq (.az cE [x.2.1]) eE,.aq (.az cE (mJ x.1 x.2.2 x.2.1)) eE],λx=>.aq 2⟩
def arE:List (Nat×Norm):=[(8,⟨[],[0,1,2,7,8],2,[]⟩)]
noncomputable def cI8(l:List (CL cE))(x:CL cE)(k:Nat):cn:=⟨sl 95 [(0,.aq 0),(1,.s (.int .i64 (k:Int))),(2,.aq 1),(7,.s (.int .i64 ((1:Nat):Int))),(8,.s (.int .i64 (l.length:Int)))],[.aq (.az cE l) eE,.aq (.az cE [x]) eE],hr Tryz.f117 8,{}⟩
noncomputable def cIA(l:List (CL cE))(x:CL cE)(k:Nat):cn:=⟨sl 95 [(0,.part 2 0 l.length),(1,.s (.int .i64 (k:Int))),(2,.aq 1),(7,.s (.int .i64 ((1:Nat):Int))),(8,.s (.int .i64 (l.length:Int)))],[.aB,.aq (.az cE [x]) eE,.aq (rW (.az cE l) 1) eE],hr Tryz.f117 8,{}⟩
noncomputable def cIB(l:List (CL cE))(x:CL cE)(k:Nat):cn:=⟨sl 95 [(0,.s (.rot (.az cE l) (l.length+1))),(1,.s (.int .i64 (k:Int))),(2,.aq 1),(7,.s (.int .i64 ((1:Nat):Int))),(8,.s (.int .i64 (l.length:Int)))],[.aB,.aq (.az cE [x]) eE],hr Tryz.f117 8,{}⟩
def av3:List (Nat×Norm):=[(17,⟨[],[0],3,[]⟩)]
noncomputable def cIC(l:List (CL cE))(x:CL cE):cn:=⟨sl 95 [(0,.aq 2)],[.aB,.aq (.az cE [x]) eE,.aq (.az cE l) eE],hr Tryz.f117 17,{}⟩
theorem apn(l:List (CL cE))(x:CL cE)(k:Nat):run P (aR.sum []) Tryz.f117 arE (start Tryz.f117 [.aq 0,.s (.int .i64 (k:Int)),.aq 1] [.aq (.az cE l) eE,.aq (.az cE [x]) eE])=
 Tree.ab ((0:Int)<=(↑k:Int)) (.ab ((↑k:Int)<=(↑l.length:Int)) (.ab ((↑(0:Nat):Int)+(↑l.length:Int)<=(↑l.length:Int)) (.ite false (.ret [.aq (.az [.ag,.ag] l) 66,.aq (.az [.ag,.ag] [x]) 66] (.aq 0)) (.ite ((↑k:Int)==(↑l.length:Int)) (.ab ((l.length+1)*(32:Nat)<=140737488355328) (.ret [.aB,.aq (.az [.ag,.ag] [x]) 66,.aq (.az [.ag,.ag] (l++[x])) 66] (.aq 2))) (.at (cI8 l x k)))))):=by kernel_rfl
theorem atr(l:List (CL cE))(x:CL cE)(k:Nat):run P (aR.sum []) Tryz.f117 av3 (cIA l x k)=
 Tree.ab (aG ((↑l.length:Int)+(1:Int)))
 (Tree.ab ((↑l.length:Int)+(1:Int)<=(↑(l.length+(1:Nat) - (0:Nat)):Int))
   (Tree.ab (aG ((↑l.length:Int)+(1:Int)))
     (Tree.ab ((0:Int)<=(0:Int))
       (Tree.ab ((0:Int)<=(↑l.length:Int)+(1:Int))
         (Tree.ab ((↑(0:Nat):Int)+((↑l.length:Int)+(1:Int))<=(↑(l.length+(1:Nat)):Int))
           (Tree.ab (aG ((↑k:Int)+(1:Int)))
             (Tree.ab ((0:Int)<=(↑k:Int)+(1:Int))
               (Tree.ab ((↑k:Int)+(1:Int)<=(↑(((↑l.length:Int)+(1:Int)).toNat - Int.toNat (0:Int)):Int))
                 (Tree.ab ((↑(0:Nat):Int)+(↑(((↑l.length:Int)+(1:Int)).toNat - Int.toNat (0:Int)):Int)<=(↑(l.length+(1:Nat)):Int)) (Tree.ab (asj P (153:Nat)) (Tree.ab (aG ((↑k:Int)+(1:Int))) (Tree.ab ((0:Int)<=(↑k:Int)+(1:Int)) (Tree.ab ((↑k:Int)+(1:Int)<=(↑(((↑l.length:Int)+(1:Int)).toNat - Int.toNat (0:Int)):Int)) (Tree.ab ((↑(0:Nat):Int)+(↑(((↑l.length:Int)+(1:Int)).toNat - Int.toNat (0:Int)):Int)<=(↑(l.length+(1:Nat)):Int)) (Tree.ab ((0:Int)<=(↑k:Int)) (Tree.ab ((↑k:Int)<=(↑(((↑l.length:Int)+(1:Int)).toNat - Int.toNat (0:Int)):Int)) (Tree.ab ((↑(0:Nat):Int)+(↑(((↑l.length:Int)+(1:Int)).toNat - Int.toNat (0:Int)):Int)<=(↑(l.length+(1:Nat)):Int)) (Tree.ab ((0:Int)<=(↑k:Int)) (Tree.ab ((↑k:Int)<=(↑(((↑l.length:Int)+(1:Int)).toNat - Int.toNat (0:Int)):Int)) (Tree.ab ((↑(0:Nat):Int)+(↑(((↑l.length:Int)+(1:Int)).toNat - Int.toNat (0:Int)):Int)<=(↑(l.length+(1:Nat)):Int)) (Tree.at (cn.mk (sl (95:Nat) [((0:Nat),AV.part (2:Nat) (0:Nat) (((↑l.length:Int)+(1:Int)).toNat - Int.toNat (0:Int)))]) [au.aB,au.aq (a8.az [CK.ag,CK.ag] [x]) (66:Nat),au.aq (a8.fo (a8.fo (a8.fo (a8.az cE l).size (l.length+(1:Nat)) λ(i j:Nat)=>bif i.blt l.length then(a8.az cE l).cell i j else SV.bk).size (l.length+(1:Nat)) λ(i j:Nat)=>bif ((0:Nat)+((↑k:Int)+(1:Int)).toNat).ble i&&i.blt ((0:Nat)+((↑k:Int)+(1:Int)).toNat+min ((0:Nat)+(↑k:Int).toNat+((↑(((↑l.length:Int)+(1:Int)).toNat - Int.toNat (0:Int)):Int).toNat - (↑k:Int).toNat) - ((0:Nat)+(↑k:Int).toNat)) ((↑(((↑l.length:Int)+(1:Int)).toNat - Int.toNat (0:Int)):Int).toNat - ((↑k:Int)+(1:Int)).toNat))then(dY (a8.fo (a8.az cE l).size (l.length+(1:Nat)) λ(i j:Nat)=>bif i.blt l.length then(a8.az cE l).cell i j else SV.bk) ((0:Nat)+(↑k:Int).toNat) ((0:Nat)+(↑k:Int).toNat+((↑(((↑l.length:Int)+(1:Int)).toNat - Int.toNat (0:Int)):Int).toNat - (↑k:Int).toNat))).cell (i - ((0:Nat)+((↑k:Int)+(1:Int)).toNat)) j else(a8.fo (a8.az cE l).size (l.length+(1:Nat)) λ(i j:Nat)=>bif i.blt l.length then(a8.az cE l).cell i j else SV.bk).cell i j).size (l.length+(1:Nat)) λ(i j:Nat)=>bif ((0:Nat)+(↑k:Int).toNat).ble i&&i.blt ((0:Nat)+(↑k:Int).toNat+min (1:Nat) ((↑(((↑l.length:Int)+(1:Int)).toNat - Int.toNat (0:Int)):Int).toNat - (↑k:Int).toNat))then(a8.az [CK.ag,CK.ag] [x]).cell (i - ((0:Nat)+(↑k:Int).toNat)) j else(a8.fo (a8.fo (a8.az cE l).size (l.length+(1:Nat)) λ(i j:Nat)=>bif i.blt l.length then(a8.az cE l).cell i j else SV.bk).size (l.length+(1:Nat)) λ(i j:Nat)=>bif ((0:Nat)+((↑k:Int)+(1:Int)).toNat).ble i&&i.blt ((0:Nat)+((↑k:Int)+(1:Int)).toNat+min ((0:Nat)+(↑k:Int).toNat+((↑(((↑l.length:Int)+(1:Int)).toNat - Int.toNat (0:Int)):Int).toNat - (↑k:Int).toNat) - ((0:Nat)+(↑k:Int).toNat)) ((↑(((↑l.length:Int)+(1:Int)).toNat - Int.toNat (0:Int)):Int).toNat - ((↑k:Int)+(1:Int)).toNat))then(dY (a8.fo (a8.az cE l).size (l.length+(1:Nat)) λ(i j:Nat)=>bif i.blt l.length then(a8.az cE l).cell i j else SV.bk) ((0:Nat)+(↑k:Int).toNat) ((0:Nat)+(↑k:Int).toNat+((↑(((↑l.length:Int)+(1:Int)).toNat - Int.toNat (0:Int)):Int).toNat - (↑k:Int).toNat))).cell (i - ((0:Nat)+((↑k:Int)+(1:Int)).toNat)) j else(a8.fo (a8.az cE l).size (l.length+(1:Nat)) λ(i j:Nat)=>bif i.blt l.length then(a8.az cE l).cell i j else SV.bk).cell i j).cell i j) (66:Nat)] (hr Tryz.f117 (17:Nat)) (ur.mk none false (0:Nat) [] (0:Nat)))))))))))))))))))))))):=by kernel_rfl
theorem ats(l:List (CL cE))(x:CL cE):run P (aR.sum []) Tryz.f117 [] (cIC l x)=
 Tree.ret [.aB,.aq (.az [.ag,.ag] [x]) 66,.aq (.az [.ag,.ag] l) 66] (.aq 2):=by kernel_rfl
theorem att(l:List (CL cE))(x:CL cE)(k:Nat):run P (aR.sum []) Tryz.f117 [] (cIB l x k)=
 Tree.ab (aG ((↑l.length:Int)+1))
 (.ab ((↑(l.length+1):Int)<=(↑l.length:Int)+1) (.ab ((0:Int)<=(↑k:Int)) (.ab ((↑k:Int)<=(↑l.length:Int)) (.ab (aG ((↑l.length:Int)+1)) (.ab (aG ((↑l.length:Int)+1 - (↑k:Int))) (.ab ((0:Int)<(↑l.length:Int)+1 - (↑k:Int)) (.ab ((↑(l.length+1):Int)<=(↑(List.drop 0 (List.take (↑k:Int).toNat l)).length:Int)+((↑l.length:Int)+1 - (↑k:Int))) (.ab ((↑(List.drop 0 (List.take (↑k:Int).toNat l)).length:Int)+((↑l.length:Int)+1 - (↑k:Int))<=4294967296) (.ab ((0:Int)<=(↑k:Int)) (.ab ((↑k:Int)<=(↑(List.drop 0 (List.take (↑k:Int).toNat l)++replicate ((↑l.length:Int)+1 - (↑k:Int)).toNat (CL.d [.ag,.ag])).length:Int)) (.ab ((↑(0:Nat):Int)+(↑(List.drop 0 (List.take (↑k:Int).toNat l)++replicate ((↑l.length:Int)+1 - (↑k:Int)).toNat (CL.d [.ag,.ag])).length:Int)<=(↑(List.drop 0 (List.take (↑k:Int).toNat l)++replicate ((↑l.length:Int)+1 - (↑k:Int)).toNat (CL.d [.ag,.ag])).length:Int)) (.ab (aG ((↑k:Int)+1)) (.ab ((0:Int)<=(↑k:Int)+1) (.ab ((↑k:Int)+1<=(↑(over (List.drop 0 (List.take (↑k:Int).toNat l)++replicate ((↑l.length:Int)+1 - (↑k:Int)).toNat (CL.d [.ag,.ag])) ((0:Nat)+(↑k:Int).toNat) (min 1 ((↑(List.drop 0 (List.take (↑k:Int).toNat l)++replicate ((↑l.length:Int)+1 - (↑k:Int)).toNat (CL.d [.ag,.ag])).length:Int).toNat - (↑k:Int).toNat)) [x]).length:Int)) (.ab ((↑(0:Nat):Int)+(↑(over (List.drop 0 (List.take (↑k:Int).toNat l)++replicate ((↑l.length:Int)+1 - (↑k:Int)).toNat (CL.d [.ag,.ag])) ((0:Nat)+(↑k:Int).toNat) (min 1 ((↑(List.drop 0 (List.take (↑k:Int).toNat l)++replicate ((↑l.length:Int)+1 - (↑k:Int)).toNat (CL.d [.ag,.ag])).length:Int).toNat - (↑k:Int).toNat)) [x]).length:Int)<=(↑(over (List.drop 0 (List.take (↑k:Int).toNat l)++replicate ((↑l.length:Int)+1 - (↑k:Int)).toNat (CL.d [.ag,.ag])) ((0:Nat)+(↑k:Int).toNat) (min 1 ((↑(List.drop 0 (List.take (↑k:Int).toNat l)++replicate ((↑l.length:Int)+1 - (↑k:Int)).toNat (CL.d [.ag,.ag])).length:Int).toNat - (↑k:Int).toNat)) [x]).length:Int)) (.ab ((0:Int)<=(↑k:Int)) (.ab ((↑k:Int)<=(↑l.length:Int)) (.ab ((↑l.length:Int)<=(↑l.length:Int)) (.ret [.aB,.aq (.az [.ag,.ag] [x]) 66,.aq (.az [.ag,.ag] (over (over (List.drop 0 (List.take (↑k:Int).toNat l)++replicate ((↑l.length:Int)+1 - (↑k:Int)).toNat (CL.d [.ag,.ag])) ((0:Nat)+(↑k:Int).toNat) (min 1 ((↑(List.drop 0 (List.take (↑k:Int).toNat l)++replicate ((↑l.length:Int)+1 - (↑k:Int)).toNat (CL.d [.ag,.ag])).length:Int).toNat - (↑k:Int).toNat)) [x]) ((0:Nat)+((↑k:Int)+1).toNat) (min (List.drop (↑k:Int).toNat (List.take (↑l.length:Int).toNat l)).length ((↑(over (List.drop 0 (List.take (↑k:Int).toNat l)++replicate ((↑l.length:Int)+1 - (↑k:Int)).toNat (CL.d [.ag,.ag])) ((0:Nat)+(↑k:Int).toNat) (min 1 ((↑(List.drop 0 (List.take (↑k:Int).toNat l)++replicate ((↑l.length:Int)+1 - (↑k:Int)).toNat (CL.d [.ag,.ag])).length:Int).toNat - (↑k:Int).toNat)) [x]).length:Int).toNat - ((↑k:Int)+1).toNat)) (List.drop (↑k:Int).toNat (List.take (↑l.length:Int).toNat l)))) 66] (.aq 2)))))))))))))))))))):=by kernel_rfl
theorem ajE{α:Type}{xs ys:List α}{lo k:Nat}(hk:k=ys.length)(h:lo+ys.length=xs.length):over xs lo k ys=xs.take lo++ys:=by
 subst hk;rw[over,take_of_length_le (le_refl _),List.drop_of_length_le (by omega),append_nil]
theorem uG{α:Type}{l:List α}{k:Nat}{x:α}(h:k<=l.length):(mJ l k x).length=l.length+1:=by
 simp only[mJ,length_append,length_take,length_cons,length_drop];omega
theorem amn{α:Type}(l:List α)(x:α):mJ l l.length x=l++[x]:=by simp[mJ]
theorem ajF{α:Type}{l:List α}{k:Nat}{x d:α}(h:k<=l.length)(i:Nat):(mJ l k x).getD i d=if i<k then l.getD i d else if i=k then x else l.getD (i - 1) d:=by
 simp only[mJ,List.getD];split;rw[getElem?_append_left (by simp;omega),getElem?_take,if_pos (by assumption)];rw[getElem?_append_right (by simp;omega)];rw[length_take,Nat.min_eq_left h];split;rename_i h2;subst h2;simp;rw[show i - k=(i - 1 - k)+1 from by omega,List.getElem?_cons_succ,List.getElem?_drop];congr 2;omega
theorem av4:asj P 153:=⟨Tryz.f153,Tryz.f153.params.getD 0 0,eE,Tryz.f153.resultTypes.getD 0 0,2,Tryz.func153,by kernel_rfl,by kernel_rfl,by kernel_rfl,by kernel_rfl,by kernel_rfl,by kernel_rfl⟩
theorem amo{α:Type}{l:List α}{k:Nat}{x d:α}(hk:k<l.length):
 over (over (List.drop 0 (List.take (k:Int).toNat l)++replicate ((l.length:Int)+(1:Int) - (k:Int)).toNat d) (0+(k:Int).toNat) (min 1 (((List.drop 0 (List.take (k:Int).toNat l)++replicate ((l.length:Int)+(1:Int) - (k:Int)).toNat d).length:Int).toNat - (k:Int).toNat)) [x]) (0+((k:Int)+(1:Int)).toNat) (l.length - k) (List.drop (k:Int).toNat (List.take (l.length:Int).toNat l))=mJ l k x:=by
 have e1:(k:Int).toNat=k:=by omega
 have e2:((l.length:Int)+(1:Int) - (k:Int)).toNat=l.length+1 - k:=by omega
 have e3:((k:Int)+(1:Int)).toNat=k+1:=by omega
 have e4:(l.length:Int).toNat=l.length:=by omega
 rw[e1,e2,e3,e4,List.drop_zero,zero_add,zero_add,take_of_length_le (le_refl l.length)]
 have hA:(List.take k l++replicate (l.length+1 - k) d).length=l.length+1:=by
  simp only[length_append,length_take,List.length_replicate];omega
 rw[hA,show min 1 (((l.length+1:Nat):Int).toNat - k)=1 from by omega]
 have hov:(over (List.take k l++replicate (l.length+1 - k) d) k 1 [x]).length=l.length+1:=by
  rw[gf _ _ (by rw[hA];omega) (by simp),hA]
 rw[ajE (by rw[length_drop]) (by rw[hov,length_drop];omega)];rw[over,List.take_left' (by simp only[length_append,length_take,List.length_replicate,length_cons,length_nil];omega)];rw[List.take_left' (by rw[length_take];omega)];simp[mJ]
theorem abD{a b:Nat}:a.blt b=decide (a<b):=by
 by_cases h:a<b;rw[decide_eq_true h];simpa[Nat.blt,Nat.lt_iff_add_one_le]using h;rw[decide_eq_false h];cases hb:a.blt b with
 |false=>rfl
 |true=>exact absurd (by simpa[Nat.blt,Nat.lt_iff_add_one_le]using hb) h
theorem abE{a b:Nat}:a.ble b=decide (a<=b):=by
 by_cases h:a<=b;rw[decide_eq_true h];exact Nat.ble_eq_true_of_le h;rw[decide_eq_false h];cases hb:a.ble b with
 |false=>rfl
 |true=>exact absurd (le_of_ble_eq_true hb) h
theorem atu{Z:bB}:gE P Z 117 ahI:=by
 refine aK Tryz.func117 (by kernel_rfl) (λx=>le_of_ble_eq_true (by kernel_rfl)) ?_;rintro⟨(l:List (CL cE)),(x:CL cE),(k:Nat)⟩ ⟨(hk:k<=l.length),(hl:l.length<=100000),_⟩ X hX hz;refine dk hz hX (by intro y hy;simp[arE]at hy;subst hy;exact le_refl _) aR.Ok.nil Tryz.func117 (apn l x k) ⟨by omega,by omega,by omega,(λh=>nomatch h),λ_=>⟨λh=>⟨by omega,⟨⟨[],[0],2,[]⟩,le_refl _, ?_⟩⟩,λh=> ?_⟩⟩;have hkl:k=l.length:=by have:=eq_of_beq h;omega
 subst hkl;show Norm.run _ _=some ⟨[.aq 2],[.aB,.aq (.az cE [x]) eE,.aq (.az cE (mJ l l.length x)) eE],[],{}⟩;rw[amn];kernel_rfl
 have hkl:k<l.length:=by
  rcases lt_or_ge k l.length with h1|h1;exact h1;have:k=l.length:=by omega
  subst this;simp at h
 refine ajC (t:=0) (id:=0) (m:=1) (c:=.az cE l) (e:=eE) rfl rfl (by omega) ?_ ?_;refine(show Safe P 117 X _ (cIA l x k)from ?_);have e1:((l.length:Int)+(1:Int)).toNat - Int.toNat 0=l.length+1:=by omega
 have tr:=atr l x k;rw[e1]at tr;refine dk hz hX (by intro y hy;simp[av3]at hy;subst hy;show 2<=3;omega) aR.Ok.nil Tryz.func117 tr ⟨⟨by omega,by omega⟩,by omega,⟨by omega,by omega⟩,by omega,by omega,by omega,⟨by omega,by omega⟩,by omega,by omega,by omega,av4,⟨by omega,by omega⟩,by omega,by omega,by omega,by omega,by omega,by omega,by omega,by omega,by omega, ?_⟩;refine amm (id:=2) (c':=.az cE (mJ l k x)) rfl ?_ rfl ?_ ?_;exact uG (by omega);intro i j hi hj;have hi:i<l.length+1:=hi;show CL.cell cE ((mJ l k x).getD i (CL.d cE)) j=_;rw[ajF (by omega)];by_cases h1:i<k;have p1:¬(0+(k:Int).toNat<=i):=by omega
 have p2:¬(0+((k:Int)+(1:Int)).toNat<=i):=by omega
 have p3:i<l.length:=by omega
 simp only[a8.cell,abD,abE,p1,p2,p3,h1,decide_false,decide_true,Bool.false_and,cond_false,cond_true,if_true];by_cases h2:i=k;subst h2;have p1:0+(i:Int).toNat<=i:=by omega
 have p2:i<0+(i:Int).toNat+min 1 (((l.length+1:Nat):Int).toNat - (i:Int).toNat):=by omega
 have p3:i - (0+(i:Int).toNat)=0:=by omega
 simp only[a8.cell,abD,abE,p1,p2,p3,h1,decide_true,Bool.true_and,cond_true,if_true,if_false,List.getD_cons_zero];have p1:¬(i<0+(k:Int).toNat+min 1 (((l.length+1:Nat):Int).toNat - (k:Int).toNat)):=by omega
 have p2:0+((k:Int)+(1:Int)).toNat<=i:=by omega
 have p3:i<0+((k:Int)+(1:Int)).toNat+min (0+(k:Int).toNat+(((l.length+1:Nat):Int).toNat - (k:Int).toNat) - (0+(k:Int).toNat)) (((l.length+1:Nat):Int).toNat - ((k:Int)+(1:Int)).toNat):=by omega
 have p4:0+(k:Int).toNat+(i - (0+((k:Int)+(1:Int)).toNat))=i - 1:=by omega
 have p5:i - 1<l.length:=by omega
 simp only[a8.cell,dY,abD,abE,p1,p2,p3,p4,p5,h1,h2,decide_true,decide_false,Bool.and_false,Bool.and_true,cond_true,cond_false,if_false];refine ajD (t:=0) (id:=2) (c:=.az cE (mJ l k x)) (e:=eE) rfl rfl (uG (by omega)).symm (by omega) ?_;refine dk hz hX (by intro y hy;simp at hy) aR.Ok.nil Tryz.func117 (ats (mJ l k x) x) ⟨⟨[],[0],2,[]⟩,le_refl _, ?_⟩;show Norm.run _ _=some ⟨[.aq 2],[.aB,.aq (.az cE [x]) eE,.aq (.az cE (mJ l k x)) eE],[],{}⟩;kernel_rfl;refine(show Safe P 117 X _ (cIB l x k)from ?_);have tr:=att l x k
 have eA:(List.drop 0 (List.take (k:Int).toNat l)++replicate ((l.length:Int)+(1:Int) - (k:Int)).toNat (CL.d cE)).length=l.length+1:=by
  simp only[List.drop_zero,length_append,length_take,List.length_replicate];omega
 have eB:(over (List.drop 0 (List.take (k:Int).toNat l)++replicate ((l.length:Int)+(1:Int) - (k:Int)).toNat (CL.d cE)) (0+(k:Int).toNat) (min 1 (((List.drop 0 (List.take (k:Int).toNat l)++replicate ((l.length:Int)+(1:Int) - (k:Int)).toNat (CL.d cE)).length:Int).toNat - (k:Int).toNat)) [x]).length=l.length+1:=by
  rw[gf _ _ (by rw[eA];omega) (by simp;omega),eA]
 have eC:(List.drop 0 (List.take (k:Int).toNat l)).length=k:=by simp only[List.drop_zero,length_take];omega
 have e1:(min (List.drop (k:Int).toNat (List.take (l.length:Int).toNat l)).length (((over (List.drop 0 (List.take (k:Int).toNat l)++replicate ((l.length:Int)+(1:Int) - (k:Int)).toNat (CL.d cE)) (0+(k:Int).toNat) (min 1 (((List.drop 0 (List.take (k:Int).toNat l)++replicate ((l.length:Int)+(1:Int) - (k:Int)).toNat (CL.d cE)).length:Int).toNat - (k:Int).toNat)) [x]).length:Int).toNat - ((k:Int)+(1:Int)).toNat))=l.length - k:=by
  rw[eB];simp only[length_drop,length_take];omega
 rw[e1,amo hkl,eB,eA,eC]at tr;refine dk hz hX (by intro y hy;simp at hy) aR.Ok.nil Tryz.func117 tr ⟨⟨by omega,by omega⟩,by omega,by omega,by omega,⟨by omega,by omega⟩,⟨by omega,by omega⟩,by omega,by omega,by omega,by omega,by omega,by omega,⟨by omega,by omega⟩,by omega,by omega,by omega,by omega,by omega,by omega,⟨⟨[],[0],2,[]⟩,le_refl _, ?_⟩⟩;show Norm.run _ _=some ⟨[.aq 2],[.aB,.aq (.az cE [x]) eE,.aq (.az cE (mJ l k x)) eE],[],{}⟩;kernel_rfl
def av5:List AV->RM ((List En×En×Nat)×List Nat)
 |[.aq id,.s (.int .i64 i),.aq id2]=>.aA id λo=>match o with
  |some (.aq (.az [.ag,.ag] l) _)=>.aA id2 λo=>match o with
   |some (.aq (.az [.ag,.ag] [x]) _)=>.ret ((l,x,i.toNat),[id,id2])
   |_=>.fail "insert: no element"
  |_=>.fail "insert: no row"
 |_=>.fail "insert"
def amp:aR:=[(115,abA),(116,atn),(117,cC ahI av5)]
theorem apo(l:List (CL cE))(ad val:ByteArray):run P amp.sum Tryz.f73 [] (start Tryz.f73 [.s (.ro (.az cE l)),.s (.ag ad),.s (.ag val)] [])=
 Tree.ab (l.length<=1000000) (.ab (jk (cg l)) (.ab (l.length<=100000) (.ite (ke (cg l) ad) (.ab ((0:Int)<=(↑(de (cg l) ad):bS.V)) (.ab ((↑(de (cg l) ad):bS.V)<(↑l.length:Int)) (.ret [.aq (.az [.ag,.ag] (l.set (Int.toNat (↑(de (cg l) ad):bS.V)) ((l.getD (Int.toNat (↑(de (cg l) ad):bS.V)) (CL.d [.ag,.ag])).fst,val,()))) 66] (.aq 0)))) (.ab (some [AV.aq 0,.s (.int .i64 (↑(de (cg l) ad):bS.V)),.aq 1]=some [AV.aq 0,.s (.int .i64 (↑(Int.toNat (↑(de (cg l) ad):bS.V)):Int)),.aq 1]) (.ab (some [au.aq (.az [.ag,.ag] l) 66,.aq (.az [.ag,.ag] [(ad,val,())]) 66]=some [au.aq (.az [.ag,.ag] l) 66,.aq (.az [.ag,.ag] [(ad,val,())]) 66]) (.ab (Int.toNat (↑(de (cg l) ad):bS.V)<=l.length) (.ab (l.length<=100000) (.ret [.aB,.aq (.az [.ag,.ag] [(ad,val,())]) 66,.aq (.az [.ag,.ag] (mJ l (Int.toNat (↑(de (cg l) ad):bS.V)) (ad,val,()))) 66] (.aq 2))))))))):=by kernel_rfl
theorem amq{α:Type}{l:List α}{k:Nat}{x:α}(h:k<l.length):l.set k x=l.take k++x::l.drop (k+1):=by
 rw[List.set_eq_take_append_cons_drop,if_pos h]
theorem amr{l:List En}{ad val:ByteArray}(h:ke (cg l) ad=true)(h1:de (cg l) ad<l.length):bX l ad val=l.set (de (cg l) ad) (ad,val,()):=by
 rw[amq h1,bX,if_pos h]
theorem apq{l:List En}{ad val:ByteArray}(h:ke (cg l) ad=false):bX l ad val=mJ l (de (cg l) ad) (ad,val,()):=by
 rw[bX,if_neg (by rw[h];simp),mJ]
theorem ams{Z:bB}:dO P Z 73 [rT,fc,fc] [rT] (λ(l,_,_,())=>[(l:List En).length<=100000,jk (cg l)]) (λ(l,ad,val,())=>(bX l ad val,())):=by
 refine aM Tryz.func73 (by kernel_rfl) (by kernel_rfl) ?_;rintro⟨(l:List (CL cE)),(ad:ByteArray),(val:ByteArray),⟨⟩⟩ _ ⟨(hl:l.length<=100000),(hs:jk (cg l)),_⟩ X hX hz;have hT:amp.Ok P Z:=aR.Ok.cons tE.sum (aR.Ok.cons afU.sum (aR.Ok.cons (atu.sum av5) aR.Ok.nil));have hn:(cg l).length=l.length:=length_map _;have hle:=xi (cg l) ad;rw[hn]at hle;refine go hz hX hT Tryz.func73 (apo l ad val) ⟨by omega,hs,hl,λh=> ?_,λh=> ?_⟩;have⟨h1,h2⟩:=kC.1 h;rw[hn]at h1;refine⟨Int.natCast_nonneg _,Int.ofNat_lt.2 h1, ?_⟩;refine bq (l.set (de (cg l) ad) ((l.getD (de (cg l) ad) dE).1,val,()),()) ?_ (by kernel_rfl);have hk:(l.getD (de (cg l) ad) dE).1=ad:=(dq l qB dE _).symm.trans h2;rw[hk];exact congrArg (λy=>(y,())) (amr h h1);refine⟨rfl,rfl,by show de (cg l) ad<=l.length;exact hle,hl, ?_⟩;refine bq (mJ l (de (cg l) ad) (ad,val,()),()) ?_ (by kernel_rfl);exact congrArg (λy=>(y,())) (apq h)
end Lf
namespace Bx
open Go Go.Sx Go.Proofs
abbrev eU:Ty:=.b (.arr .u64 16)
abbrev bS:Ty:=.b (.int .i64)
abbrev tU:Ty:=.b (.int .u64)
abbrev dg:Ty:=.b .bool
abbrev adi:Ty:=.b (.row (.aw .i64) 3)
noncomputable abbrev P:Program:=Tryz.prog
theorem mixed:P.follows .mixedOrders=true:=by kernel_rfl
def iU:aR:=[]
def fk(n:Int):Int:=if 0<=n/\n<1024 then n / 64 else 0
def mK(n:Int):Int:=if 0<=n/\n<1024 then 2^(n%64).toNat else 0
def jc(n:Int):Bool:=decide (0<=n/\n<1024)
abbrev s36:=cU [bS] [bS,tU,dg] (λ_=>[]) (λ(n,())=>(fk n,mK n,jc n,()))
def apr:aR:=[(109,s36)]
theorem atv(n:Int):run P iU.sum Tryz.f109 [] (start Tryz.f109 [.s (.int .i64 n)] [])=
 Tree.ite (decide (n<(0:Int))) (Tree.ret [] (AV.bD [AV.s (SV.aZ IntKind.i64 (0:Int)),AV.s (SV.aZ IntKind.u64 (0:Int)),AV.s (SV.aT false)])) (Tree.ite (decide (n>=(1024:Int))) (Tree.ret [] (AV.bD [AV.s (SV.aZ IntKind.i64 (0:Int)),AV.s (SV.aZ IntKind.u64 (0:Int)),AV.s (SV.aT false)])) (Tree.ab ((64:Int)≠(0:Int)) (Tree.ab (aG (n.tdiv (64:Int))) (Tree.ab ((64:Int)≠(0:Int)) (Tree.ab ((0:Int)<=n.tmod (64:Int)) (Tree.ret [] (AV.bD [AV.s (SV.int IntKind.i64 (n.tdiv (64:Int))),AV.s (SV.int IntKind.u64 (IntKind.u64.wrap ((1:Int)*(2:Int)^min (n.tmod (64:Int)).toNat IntKind.u64.bits))),AV.s (SV.aT true)]))))))):=by kernel_rfl
theorem atw(a b:Int):run P iU.sum Tryz.f108 [] (start Tryz.f108 [.s (.int .u64 a),.s (.int .u64 b)] [])=
 Tree.ret [] (.s (.int .u64 (bJ BinOp.andNot .u64 a b))):=by kernel_rfl
theorem atx(a b:Int):run P iU.sum Tryz.f106 [] (start Tryz.f106 [.s (.int .u64 a),.s (.int .u64 b)] [])=
 Tree.ret [] (.s (.int .u64 (bJ BinOp.and .u64 a b))):=by kernel_rfl
theorem aty(a b:Int):run P iU.sum Tryz.f150 [] (start Tryz.f150 [.s (.int .u64 a),.s (.int .u64 b)] [])=
 Tree.ret [] (.s (.int .u64 (bJ BinOp.or .u64 a b))):=by kernel_rfl
theorem atz(ws:List Int)(n:Int):run P apr.sum Tryz.f133 [] (start Tryz.f133 [.aw .u64 16 ws,.s (.int .i64 n)] [])=
 Tree.ite (jc n) (.ab ((0:Int)<=fk n) (.ab (fk n<(↑(16:Nat):Int)) (.ret [.ay [.aw .u64 16 ws] 37] (.s (.bool (bJ BinOp.and .u64 (ws.getD (fk n).toNat 0) (mK n) !=0)))))) (.ret [.ay [.aw .u64 16 ws] 37] (.s (.aT false))):=by kernel_rfl
theorem atA(ws:List Int)(n:Int):run P apr.sum Tryz.f67 [] (start Tryz.f67 [.aw .u64 16 ws,.s (.int .i64 n)] [])=
 Tree.ite (jc n) (.ab ((0:Int)<=fk n) (.ab (fk n<(↑(16:Nat):Int)) (.ab ((0:Int)<=fk n) (.ab (fk n<(↑(16:Nat):Int)) (.ret [.ay [.aw .u64 16 (ws.set (fk n).toNat (bJ BinOp.or .u64 (ws.getD (fk n).toNat 0) (mK n)))] 37,.ay [.aw .u64 16 (ws.set (fk n).toNat (bJ BinOp.or .u64 (ws.getD (fk n).toNat 0) (mK n)))] 37] (.aw .u64 16 (ws.set (fk n).toNat (bJ BinOp.or .u64 (ws.getD (fk n).toNat 0) (mK n))))))))) (.ret [.ay [.aw .u64 16 ws] 37,.ay [.aw .u64 16 ws] 37] (.aw .u64 16 ws)):=by kernel_rfl
theorem atB(ws:List Int)(n:Int):run P apr.sum Tryz.f179 [] (start Tryz.f179 [.aw .u64 16 ws,.s (.int .i64 n)] [])=
 Tree.ite (jc n) (.ab ((0:Int)<=fk n) (.ab (fk n<(↑(16:Nat):Int)) (.ab ((0:Int)<=fk n) (.ab (fk n<(↑(16:Nat):Int)) (.ret [.ay [.aw .u64 16 (ws.set (fk n).toNat (bJ BinOp.andNot .u64 (ws.getD (fk n).toNat 0) (mK n)))] 37,.ay [.aw .u64 16 (ws.set (fk n).toNat (bJ BinOp.andNot .u64 (ws.getD (fk n).toNat 0) (mK n)))] 37] (.aw .u64 16 (ws.set (fk n).toNat (bJ BinOp.andNot .u64 (ws.getD (fk n).toNat 0) (mK n))))))))) (.ret [.ay [.aw .u64 16 ws] 37,.ay [.aw .u64 16 ws] 37] (.aw .u64 16 ws)):=by kernel_rfl
theorem go{Z:bB}{X:Ctx}{t:aR}{f:FuncId}{fn:Func}{ns:List (Nat×Norm)}{c:cn}{tr:Tree}{K:List au->AV->Prop}(hz:eO Z X)(hX:∀id,X.H id=none)(hT:t.Ok P Z)(hf:P.funcs[f]? =some fn)
 (e:run P t.sum fn ns c=tr) (h:tr.ba K (Safe P f X K)):Safe P f X K c:=db (aR.sOk hT) hz mixed hf (λ_ _ id _=>hX id) e h
theorem atC{Z:bB}:dO P Z 109 [bS] [bS,tU,dg] (λ_=>[]) (λ(n,())=>(fk n,mK n,jc n,())):=by
 refine aM Tryz.func109 (by kernel_rfl) (by kernel_rfl) ?_;rintro⟨(n:Int),⟨⟩⟩ _ _ X hX hz;refine db (aR.sOk aR.Ok.nil) hz mixed Tryz.func109 (λx h=>by simp at h) (atv n) ?_
 have no:¬(0<=n/\n<1024)->Ends [bS,tU,dg] (fk n,mK n,jc n,()) [] (AV.bD [AV.s (SV.aZ IntKind.i64 0),AV.s (SV.aZ IntKind.u64 0),AV.s (SV.aT false)]):=λh=>
  bq (0,0,false,()) (by simp only[fk,mK,jc,if_neg h,decide_eq_false h]) (by kernel_rfl)
 refine⟨λh=>no (by simp at h;omega),λh=>⟨λh2=>no (by simp at h2;omega),λh2=> ?_⟩⟩;have h3:0<=n/\n<1024:=by simp at h h2;omega
 have e1:n.tdiv 64=n / 64:=Int.tdiv_eq_ediv_of_nonneg h3.1;have e2:n.tmod 64=n%64:=Int.tmod_eq_emod_of_nonneg h3.1;refine⟨by omega,⟨by omega,by omega⟩,by omega,by omega, ?_⟩;rw[e1,e2]
 have e3:IntKind.u64.wrap ((1:Int)*(2:Int)^min (n%64).toNat IntKind.u64.bits)=2^(n%64).toNat:=by
  have:(n%64).toNat<64:=by omega
  rw[show IntKind.u64.bits=64 from rfl,Nat.min_eq_left (by omega),Int.one_mul];show(2:Int)^(n%64).toNat%18446744073709551616=_;refine Int.emod_eq_of_lt (Int.pow_nonneg (by omega)) ?_;have h5:(2:Nat)^(n%64).toNat<2^64:=Nat.pow_lt_pow_right (by omega) this;have:((2:Nat)^(n%64).toNat:Int)<((2^64:Nat):Int):=by exact_mod_cast h5
  simpa using this
 rw[e3];exact bq (n / 64,2^(n%64).toNat,true,()) (by simp only[fk,mK,jc,if_pos h3,decide_eq_true h3]) (by kernel_rfl)
theorem ajG{Z:bB}:dO P Z 108 [tU,tU] [tU] (λ_=>[]) (λ(a,b,())=>(bJ .andNot .u64 a b,())):=by
 refine aM Tryz.func108 (by kernel_rfl) (by kernel_rfl) ?_;rintro⟨(a:Int),(b:Int),⟨⟩⟩ _ _ X hX hz;exact db (aR.sOk aR.Ok.nil) hz mixed Tryz.func108 (λx h=>by simp at h) (atw a b) (bq _ rfl (by kernel_rfl))
theorem atD{Z:bB}:dO P Z 106 [tU,tU] [tU] (λ_=>[]) (λ(a,b,())=>(bJ .and .u64 a b,())):=by
 refine aM Tryz.func106 (by kernel_rfl) (by kernel_rfl) ?_;rintro⟨(a:Int),(b:Int),⟨⟩⟩ _ _ X hX hz;exact db (aR.sOk aR.Ok.nil) hz mixed Tryz.func106 (λx h=>by simp at h) (atx a b) (bq _ rfl (by kernel_rfl))
theorem av6{Z:bB}:dO P Z 150 [tU,tU] [tU] (λ_=>[]) (λ(a,b,())=>(bJ .or .u64 a b,())):=by
 refine aM Tryz.func150 (by kernel_rfl) (by kernel_rfl) ?_;rintro⟨(a:Int),(b:Int),⟨⟩⟩ _ _ X hX hz;exact db (aR.sOk aR.Ok.nil) hz mixed Tryz.func150 (λx h=>by simp at h) (aty a b) (bq _ rfl (by kernel_rfl))
theorem abF{Z:bB}:apr.Ok P Z:=aR.Ok.cons atC.sum aR.Ok.nil
theorem qD{n:Int}(h:jc n=true):0<=fk n/\fk n<16:=by
 simp only[jc,decide_eq_true_eq]at h;simp only[fk,if_pos h];omega
def mL(ws:List Int)(n:Int):Bool:=jc n&&(bJ .and .u64 (ws.getD (fk n).toNat 0) (mK n) !=0)
def dz(ws:List Int)(n:Int):List Int:=if jc n=true then ws.set (fk n).toNat (bJ .or .u64 (ws.getD (fk n).toNat 0) (mK n))else ws
def dA(ws:List Int)(n:Int):List Int:=if jc n=true then ws.set (fk n).toNat (bJ .andNot .u64 (ws.getD (fk n).toNat 0) (mK n))else ws
theorem afX{Z:bB}:dO P Z 133 [eU,bS] [dg] (λ_=>[]) (λ(ws,n,())=>(mL ws n,())):=by
 refine aM Tryz.func133 (by kernel_rfl) (by kernel_rfl) ?_;rintro⟨(ws:List Int),(n:Int),⟨⟩⟩ _ _ X hX hz;refine db (aR.sOk abF) hz mixed Tryz.func133 (λx h=>by simp at h) (atz ws n) ⟨λh=> ?_,λh=> ?_⟩;have:=qD h;exact⟨this.1,this.2,bq (bJ .and .u64 (ws.getD (fk n).toNat 0) (mK n) !=0,()) (by simp[mL,h]) (by kernel_rfl)⟩;exact bq (false,()) (by simp[mL,h]) (by kernel_rfl)
theorem rX{Z:bB}:dO P Z 67 [eU,bS] [eU] (λ_=>[]) (λ(ws,n,())=>(dz ws n,())):=by
 refine aM Tryz.func67 (by kernel_rfl) (by kernel_rfl) ?_;rintro⟨(ws:List Int),(n:Int),⟨⟩⟩ _ _ X hX hz;refine db (aR.sOk abF) hz mixed Tryz.func67 (λx h=>by simp at h) (atA ws n) ⟨λh=> ?_,λh=> ?_⟩;have:=qD h;refine⟨this.1,this.2,this.1,this.2, ?_⟩;simp only[dz,if_pos h];exact bq _ rfl (by kernel_rfl);exact bq (ws,()) (by simp only[dz,h];rfl) (by kernel_rfl)
theorem xy{Z:bB}:dO P Z 179 [eU,bS] [eU] (λ_=>[]) (λ(ws,n,())=>(dA ws n,())):=by
 refine aM Tryz.func179 (by kernel_rfl) (by kernel_rfl) ?_;rintro⟨(ws:List Int),(n:Int),⟨⟩⟩ _ _ X hX hz;refine db (aR.sOk abF) hz mixed Tryz.func179 (λx h=>by simp at h) (atB ws n) ⟨λh=> ?_,λh=> ?_⟩;have:=qD h;refine⟨this.1,this.2,this.1,this.2, ?_⟩;simp only[dA,if_pos h];exact bq _ rfl (by kernel_rfl);exact bq (ws,()) (by simp only[dA,h];rfl) (by kernel_rfl)
abbrev sOp(op:BinOp):=cU [tU,tU] [tU] (λ_=>[]) (λ(a,b,())=>(bJ op .u64 a b,()))
def abG:aR:=[(108,sOp .andNot),(106,sOp .and),(150,sOp .or)]
def adI:List (Nat×Norm):=[(2,⟨[],[2,3,4,6,8],0,[]⟩)]
noncomputable def c37(f:FuncId)(b s:List Int)(i:Int):cn:=⟨sl 23 [(2,.s (.qW f)),(3,.an 0 0),(4,.an 1 0),(6,.an 2 0),(8,.s (.int .i64 i))],[.ay [.aw .u64 16 s] 37,.ay [.aw .u64 16 b] 37,.ay [.aw .u64 16 (replicate 16 0)] 37],hd Tryz.f105 2,{}⟩
theorem aps(a b:List Int):run P abG.sum Tryz.f105 adI (start Tryz.f105 [.aw .u64 16 a,.aw .u64 16 b,.s (.qW 108)] [])=
 Tree.at (c37 108 b a 0):=by kernel_rfl
theorem apt(b s:List Int)(i:Int):run P abG.sum Tryz.f105 adI (c37 108 b s i)=
 Tree.ite (decide (i<16)) (.ab ((0:Int)<=i) (.ab (i<(↑(16:Nat):Int)) (.ab ((0:Int)<=i) (.ab (i<(↑(16:Nat):Int)) (.ab ((0:Int)<=i) (.ab (i<(↑(16:Nat):Int)) (.ab (aG (i+1)) (.at (c37 108 b (s.set i.toNat (bJ BinOp.andNot .u64 (s.getD i.toNat 0) (b.getD i.toNat 0))) (i+1)))))))))) (.ret [.ay [.aw .u64 16 s] 37,.ay [.aw .u64 16 b] 37,.ay [.aw .u64 16 s] 37] (.aw .u64 16 s)):=by kernel_rfl
theorem apu(a b:List Int):run P abG.sum Tryz.f105 adI (start Tryz.f105 [.aw .u64 16 a,.aw .u64 16 b,.s (.qW 106)] [])=
 Tree.at (c37 106 b a 0):=by kernel_rfl
theorem apv(b s:List Int)(i:Int):run P abG.sum Tryz.f105 adI (c37 106 b s i)=
 Tree.ite (decide (i<16)) (.ab ((0:Int)<=i) (.ab (i<(↑(16:Nat):Int)) (.ab ((0:Int)<=i) (.ab (i<(↑(16:Nat):Int)) (.ab ((0:Int)<=i) (.ab (i<(↑(16:Nat):Int)) (.ab (aG (i+1)) (.at (c37 106 b (s.set i.toNat (bJ BinOp.and .u64 (s.getD i.toNat 0) (b.getD i.toNat 0))) (i+1)))))))))) (.ret [.ay [.aw .u64 16 s] 37,.ay [.aw .u64 16 b] 37,.ay [.aw .u64 16 s] 37] (.aw .u64 16 s)):=by kernel_rfl
theorem apw(a b:List Int):run P abG.sum Tryz.f105 adI (start Tryz.f105 [.aw .u64 16 a,.aw .u64 16 b,.s (.qW 150)] [])=
 Tree.at (c37 150 b a 0):=by kernel_rfl
theorem apx(b s:List Int)(i:Int):run P abG.sum Tryz.f105 adI (c37 150 b s i)=
 Tree.ite (decide (i<16)) (.ab ((0:Int)<=i) (.ab (i<(↑(16:Nat):Int)) (.ab ((0:Int)<=i) (.ab (i<(↑(16:Nat):Int)) (.ab ((0:Int)<=i) (.ab (i<(↑(16:Nat):Int)) (.ab (aG (i+1)) (.at (c37 150 b (s.set i.toNat (bJ BinOp.or .u64 (s.getD i.toNat 0) (b.getD i.toNat 0))) (i+1)))))))))) (.ret [.ay [.aw .u64 16 s] 37,.ay [.aw .u64 16 b] 37,.ay [.aw .u64 16 s] 37] (.aw .u64 16 s)):=by kernel_rfl
theorem apy{Z:bB}:abG.Ok P Z:=aR.Ok.cons ajG.sum (aR.Ok.cons atD.sum (aR.Ok.cons av6.sum aR.Ok.nil))
def cf(op:BinOp)(a b:List Int):List Int:=List.zipWith (bJ op .u64) a b
def adJ(f:FuncId):BinOp:=if f=108 then .andNot else if f=106 then .and else .or
theorem xz{a b:List Int}{n:Nat}(ha:a.length=n)(hb:b.length=n)(h:∀j,j<n->a.getD j 0=b.getD j 0):a=b:=by
 refine List.ext_getElem (by omega) λj h1 h2=> ?_;have:=h j (by omega);simpa[List.getD,h1,h2]using this
theorem rY(a:List Int)(i j:Nat)(x:Int):(a.set i x).getD j 0=if j=i/\i<a.length then x else a.getD j 0:=by
 simp only[List.getD,getElem?_set];by_cases h:i=j;subst h;by_cases h2:i<a.length;simp[h2];simp[h2];simp[h,Ne.symm h]
def I37(op:BinOp)(a b s:List Int)(i:Int):Prop:=0<=i/\i<=16/\s.length=16/\∀j,j<16->s.getD j 0=if(j:Int)<i then bJ op .u64 (a.getD j 0) (b.getD j 0)else a.getD j 0
theorem amt{op:BinOp}{a b s:List Int}{i:Int}(h:I37 op a b s i)(hi:i<16):I37 op a b (s.set i.toNat (bJ op .u64 (s.getD i.toNat 0) (b.getD i.toNat 0))) (i+1):=by
 have⟨h1,h2,h3,h4⟩:=h;refine⟨by omega,by omega,by simpa using h3,λj hj=> ?_⟩;rw[rY];by_cases hji:j=i.toNat;subst hji;rw[if_pos ⟨rfl,by omega⟩,if_pos (by omega),h4 _ hj,if_neg (by omega)];rw[if_neg (λh=>hji h.1),h4 j hj];by_cases h5:(j:Int)<i;rw[if_pos h5,if_pos (by omega)];rw[if_neg h5,if_neg (by omega)]
theorem apz{op:BinOp}{a b s:List Int}{i:Int}(ha:a.length=16)(hb:b.length=16)(h:I37 op a b s i)(hi:¬i<16):s=cf op a b:=by
 have⟨h1,h2,h3,h4⟩:=h;refine xz h3 (by simp[cf,ha,hb]) λj hj=> ?_;rw[h4 j hj,if_pos (by omega)];simp[cf,List.getD,List.getElem?_zipWith,ha,hb,hj]
theorem abH{Z:bB}:dO P Z 105 [eU,eU,.b .fn] [eU] (λ(_,_,f,())=>[f=108\/f=106\/f=150]) (λ(a,b,f,())=>(cf (adJ f) a b,())):=by
 refine aM Tryz.func105 (by kernel_rfl) (by kernel_rfl) ?_;rintro⟨(a:List Int),(b:List Int),(f:FuncId),⟨⟩⟩ ⟨(ha:a.length=16),(hb:b.length=16),_⟩ ⟨(hf:f=108\/f=106\/f=150),_⟩ X hX hz
 have run (c:cn) (t:Tree) (ht:run P abG.sum Tryz.f105 adI c=t) {K:List au->AV->Prop} (h:t.ba K (Safe P 105 X K)):Safe P 105 X K c:=
  db (aR.sOk apy) hz mixed Tryz.func105 (λx h id _=>hX id) ht h
 have loop (op:BinOp) (f:FuncId) (hl:∀s i,Sx.run P abG.sum Tryz.f105 adI (c37 f b s i)=Tree.ite (decide (i<16)) (.ab ((0:Int)<=i) (.ab (i<(↑(16:Nat):Int)) (.ab ((0:Int)<=i) (.ab (i<(↑(16:Nat):Int)) (.ab ((0:Int)<=i) (.ab (i<(↑(16:Nat):Int)) (.ab (aG (i+1)) (.at (c37 f b (s.set i.toNat (bJ op .u64 (s.getD i.toNat 0) (b.getD i.toNat 0))) (i+1)))))))))) (.ret [.ay [.aw .u64 16 s] 37,.ay [.aw .u64 16 b] 37,.ay [.aw .u64 16 s] 37] (.aw .u64 16 s))):
  Safe P 105 X (Ends [eU] (cf op a b,())) (c37 f b a 0):=by
  refine pq (λ(x:List Int×Int)=>c37 f b x.1 x.2) (λx=>I37 op a b x.1 x.2) (λx=>(16 - x.2).toNat) ?_ (a,0) ⟨by omega,by omega,ha,λj hj=>by rw[if_neg (by simp only[];omega)]⟩;rintro⟨s,i⟩ hI ih;have h0:0<=i:=hI.1;refine run _ _ (hl s i) ⟨λh=> ?_,λh=> ?_⟩;have hi:i<16:=by simpa using h
  exact⟨h0,hi,h0,hi,h0,hi,⟨by omega,by omega⟩,ih (_,i+1) (amt hI hi) (by simp only[];omega)⟩;have hi:¬i<16:=by simpa using h
  exact bq (s,()) (by rw[<-apz ha hb hI hi]) (by kernel_rfl)
 rcases hf with rfl|rfl|rfl;exact run _ _ (aps a b) (loop .andNot 108 (λs i=>apt b s i));exact run _ _ (apu a b) (loop .and 106 (λs i=>apv b s i));exact run _ _ (apw a b) (loop .or 150 (λs i=>apx b s i))
abbrev s37:=cU [eU,eU,.b .fn] [eU] (λ(_,_,f,())=>[f=108\/f=106\/f=150]) (λ(a,b,f,())=>(cf (adJ f) a b,()))
def atE:aR:=[(105,s37)]
def av7:List (Nat×Norm):=[(3,⟨[],[0,2,3,6],0,[]⟩)]
noncomputable def c13(n:Int)(s:List Int)(i:Int):cn:=⟨sl 24 [(0,.s (.int .i64 n)),(2,.an 0 0),(3,.an 1 0),(6,.s (.int .i64 i))],[.ay [.aw .u64 16 (replicate 16 0)] 37,.ay [.aw .u64 16 s] 37],hd Tryz.f64 3,{}⟩
theorem atF(a b:List Int):run P atE.sum Tryz.f66 [] (start Tryz.f66 [.aw .u64 16 a,.aw .u64 16 b] [])=
 Tree.ab ((108:Nat)=(108:(Ty.b B.fn).V)\/(108:Nat)=(106:(Ty.b B.fn).V)\/(108:Nat)=(150:(Ty.b B.fn).V)) (.ret [.ay [.aw .u64 16 a] 37,.ay [.aw .u64 16 b] 37,.ay [.aw .u64 16 (cf (adJ 108) a b)] 37] (.aw .u64 16 (cf (adJ 108) a b))):=by kernel_rfl
theorem atG(a b:List Int):run P atE.sum Tryz.f63 [] (start Tryz.f63 [.aw .u64 16 a,.aw .u64 16 b] [])=
 Tree.ab ((106:Nat)=(108:(Ty.b B.fn).V)\/(106:Nat)=(106:(Ty.b B.fn).V)\/(106:Nat)=(150:(Ty.b B.fn).V)) (.ret [.ay [.aw .u64 16 a] 37,.ay [.aw .u64 16 b] 37,.ay [.aw .u64 16 (cf (adJ 106) a b)] 37] (.aw .u64 16 (cf (adJ 106) a b))):=by kernel_rfl
theorem atH(a b:List Int):run P atE.sum Tryz.f114 [] (start Tryz.f114 [.aw .u64 16 a,.aw .u64 16 b] [])=
 Tree.ab ((150:Nat)=(108:(Ty.b B.fn).V)\/(150:Nat)=(106:(Ty.b B.fn).V)\/(150:Nat)=(150:(Ty.b B.fn).V)) (.ret [.ay [.aw .u64 16 a] 37,.ay [.aw .u64 16 b] 37,.ay [.aw .u64 16 (cf (adJ 150) a b)] 37] (.aw .u64 16 (cf (adJ 150) a b))):=by kernel_rfl
theorem atI(n:Int):run P iU.sum Tryz.f64 av7 (start Tryz.f64 [.s (.int .i64 n)] [])=
 Tree.at (c13 n (replicate 16 0) 0):=by kernel_rfl
theorem atJ(n:Int)(s:List Int)(i:Int):run P iU.sum Tryz.f64 av7 (c13 n s i)=
 Tree.ite (decide (i<(16:Int))) (Tree.ab (aG (i*(64:Int))) (Tree.ab (aG (qj (imax n (0:Int)) (1024:Int) - i*(64:Int))) (Tree.ab ((0:Int)≤qj (imax (qj (imax n (0:Int)) (1024:Int) - i*(64:Int)) (0:Int)) (64:Int)) (Tree.ab ((0:Int)≤i) (Tree.ab (i<(↑(16:Nat):Int)) (Tree.ab (aG (i+(1:Int))) (Tree.at (c13 n (s.set i.toNat (IntKind.u64.wrap (IntKind.u64.wrap ((1:Int)*(2:Int)^min (qj (imax (qj (imax n (0:Int)) (1024:Int) - i*(64:Int)) (0:Int)) (64:Int)).toNat IntKind.u64.bits) - (1:Int)))) (i+(1:Int)))))))))) (Tree.ret [au.ay [AV.aw IntKind.u64 (16:Nat) s] (37:Nat),au.ay [AV.aw IntKind.u64 (16:Nat) s] (37:Nat)] (AV.aw IntKind.u64 (16:Nat) s)):=by kernel_rfl
theorem vu{Z:bB}:dO P Z 66 [eU,eU] [eU] (λ_=>[]) (λ(a,b,())=>(cf .andNot a b,())):=by
 refine aM Tryz.func66 (by kernel_rfl) (by kernel_rfl) ?_;rintro⟨(a:List Int),(b:List Int),⟨⟩⟩ _ _ X hX hz;exact go hz hX (aR.Ok.cons abH.sum aR.Ok.nil) Tryz.func66 (atF a b) ⟨.inl rfl,bq _ rfl (by kernel_rfl)⟩
theorem ahJ{Z:bB}:dO P Z 63 [eU,eU] [eU] (λ_=>[]) (λ(a,b,())=>(cf .and a b,())):=by
 refine aM Tryz.func63 (by kernel_rfl) (by kernel_rfl) ?_;rintro⟨(a:List Int),(b:List Int),⟨⟩⟩ _ _ X hX hz;exact go hz hX (aR.Ok.cons abH.sum aR.Ok.nil) Tryz.func63 (atG a b) ⟨.inr (.inl rfl),bq _ rfl (by kernel_rfl)⟩
theorem amu{Z:bB}:dO P Z 114 [eU,eU] [eU] (λ_=>[]) (λ(a,b,())=>(cf .or a b,())):=by
 refine aM Tryz.func114 (by kernel_rfl) (by kernel_rfl) ?_;rintro⟨(a:List Int),(b:List Int),⟨⟩⟩ _ _ X hX hz;exact go hz hX (aR.Ok.cons abH.sum aR.Ok.nil) Tryz.func114 (atH a b) ⟨.inr (.inr rfl),bq _ rfl (by kernel_rfl)⟩
def aL:List Int:=replicate 16 0
theorem zX{α:Type}(l:List α)(i:Nat)(d:α)(h:i<l.length):l.take (i+1)=l.take i++[l.getD i d]:=by
 rw[List.take_add_one];simp[List.getD,h]
def ajH(n i:Int):Int:=qj (imax (qj (imax n 0) 1024 - i*64) 0) 64
def tJ(n i:Int):Int:=IntKind.u64.wrap (IntKind.u64.wrap (1*2^min (ajH n i).toNat IntKind.u64.bits) - 1)
def bw(n:Int):List Int:=(List.range 16).map λ(i:Nat)=>tJ n i
theorem xC(n i:Int):0<=ajH n i/\ajH n i<=64:=by
 unfold ajH;generalize qj (imax n 0) 1024 - i*64=x;unfold qj imax;split<;>split at * <;>omega
theorem ajI(n:Int):0<=qj (imax n 0) 1024/\qj (imax n 0) 1024<=1024:=by
 unfold qj imax;split<;>split at * <;>omega
theorem rZ {Z : bB} : dO P Z 64 [bS] [eU] (λ_ => []) (λ(n, ()) => (bw n, ())) := by
 refine aM Tryz.func64 (by kernel_rfl) (by kernel_rfl) ?_;rintro ⟨(n : Int), ⟨⟩⟩ _ _ X hX hz;refine go hz hX aR.Ok.nil Tryz.func64 (atI n) ?_;refine pq (λ(x : List Int × Int) => c13 n x.1 x.2) (λx => 0 <= x.2 /\ x.2 <= 16 /\ x.1.length = 16 /\ ∀ j : Nat, j < 16 -> (j : Int) < x.2 -> x.1.getD j 0 = tJ n j) (λx => (16 - x.2).toNat) ?_ (aL, 0) ⟨by simp only []; omega, by simp only []; omega, rfl, λj _ h => by simp only [] at h; omega⟩;rintro ⟨s, i⟩ ⟨(h0 : 0 <= i), (h1 : i <= 16), (h2 : s.length = 16), h3⟩ ih;simp only [] at h3;have hr := xC n i;have hc := ajI n;refine go hz hX aR.Ok.nil Tryz.func64 (atJ n s i) ⟨λh => ?_, λh => ?_⟩;have hi : i < (16 : Int) := of_decide_eq_true h;refine ⟨⟨by omega, by omega⟩, ⟨by omega, by omega⟩, hr.1, h0, hi, ⟨by omega, by omega⟩, ih (s.set i.toNat (tJ n i), i + 1) ⟨by simp only []; omega, by simp only []; omega, by simpa using h2, λj hj hji => ?_⟩ (by simp only []; omega)⟩;simp only [] at hji ⊢;rw [rY];by_cases u7 : j = i.toNat;rw [if_pos ⟨u7, by omega⟩, show (j : Int) = i from by omega];rw [if_neg (λh => u7 h.1)];exact h3 j hj (by omega);have hi : ¬ i < (16 : Int) := of_decide_eq_false h;refine bq (s, ()) ?_ (by kernel_rfl);rw [xz (a := s) (b := bw n) h2 (by simp [bw]) (λj hj => ?_)];rw [h3 j hj (by omega)];simp [bw, List.getD, hj]
def afY(n:Int):Int:=IntKind.u64.wrap n
def ub(a b:Int):Int:=bJ .and .u64 a b
def sh(x k:Int):Int:=x.fdiv ((2:Int)^min (Int.toNat k) IntKind.u64.bits)
def oc1(x:Int):Int:=afY (ub (sh x 1) 6148914691236517205+ub x 6148914691236517205)
def oc2(x:Int):Int:=afY (ub (sh x 2) 3689348814741910323+ub x 3689348814741910323)
def oc3(x:Int):Int:=ub (afY (sh x 4+x)) 1085102592571150095
def oc4(x:Int):Int:=afY (x+sh x 8)
def oc5(x:Int):Int:=afY (x+sh x 16)
def oc6(x:Int):Int:=afY (x+sh x 32)
def ocF(x:Int):Int:=bJ .and .i64 (oc6 (oc5 (oc4 (oc3 (oc2 (oc1 x)))))) 127
def ocG(x:Int):Int:=bJ .and .i64 (IntKind.i64.wrap (oc6 (oc5 (oc4 (oc3 (oc2 (oc1 x))))))) 127
theorem atL(x:Int):run P iU.sum Tryz.f137 [] (start Tryz.f137 [.s (.int .u64 x)] [])=
 Tree.ab ((0:Int)<=1) (.ab ((0:Int)<=2) (.ab ((0:Int)<=4) (.ab ((0:Int)<=8) (.ab ((0:Int)<=16) (.ab ((0:Int)<=32) (.ret [] (.s (.int .i64 (ocG x))))))))):=by kernel_rfl
def pc:Nat->Nat->Nat
 |0,_=>0
 |n+1,x=>x%2+pc n (x / 2)
theorem tK(a b:Nat)(ha:a<18446744073709551616)(hb:b<18446744073709551616):ub (a:Int) (b:Int)=((a &&& b:Nat):Int):=by
 have hx:a &&& b<2^64:=Nat.and_lt_two_pow _ (by omega)
 have h1:(BitVec.ofInt 64 (a:Int)).toNat=a:=by
  rw[BitVec.ofInt_natCast,BitVec.toNat_ofNat];exact Nat.mod_eq_of_lt (by omega)
 have h2:(BitVec.ofInt 64 (b:Int)).toNat=b:=by
  rw[BitVec.ofInt_natCast,BitVec.toNat_ofNat];exact Nat.mod_eq_of_lt (by omega)
 show((BitVec.ofInt 64 (a:Int) &&& BitVec.ofInt 64 (b:Int)).toNat:Int)%18446744073709551616=_;rw[BitVec.toNat_and,h1,h2];omega
theorem pz(n:Int):afY n=n%18446744073709551616:=rfl
theorem tL(x k:Nat)(hk:k<=64):sh (x:Int) (k:Int)=((x / 2^k:Nat):Int):=by
 unfold sh;rw[show IntKind.u64.bits=64 from rfl,toNat_natCast,Nat.min_eq_left hk,Int.fdiv_eq_ediv_of_nonneg _ (Int.pow_nonneg (by omega))];simp
def msk(b c:Nat):Nat->Nat
 |0=>0
 |n+1=>(2^b - 1)+2^c*msk b c n
theorem r5(b c n x:Nat)(hbc:b<=c):x &&& msk b c (n+1)=x%2^b+2^c*((x / 2^c) &&& msk b c n):=by
 have afZ:x%2^b<2^c:=Nat.lt_of_lt_of_le (Nat.mod_lt _ (Nat.two_pow_pos _)) (Nat.pow_le_pow_right (by omega) hbc);have hm:2^b - 1<2^c:=Nat.lt_of_lt_of_le (by have:=Nat.two_pow_pos b;omega) (Nat.pow_le_pow_right (by omega) hbc);apply Nat.eq_of_testBit_eq;intro i;rw[Nat.testBit_and,msk,Nat.add_comm (2^b - 1),Nat.add_comm (x%2^b)];rw[Nat.testBit_two_pow_mul_add _ hm,Nat.testBit_two_pow_mul_add _ afZ];by_cases hi:i<c;rw[if_pos hi,if_pos hi,Nat.testBit_two_pow_sub_one,Nat.testBit_mod_two_pow,Bool.and_comm];rw[if_neg hi,if_neg hi,Nat.testBit_and,Nat.testBit_div_two_pow];congr 2;omega
def st1(n x:Nat):Nat:=((x / 2) &&& msk 1 2 n)+(x &&& msk 1 2 n)
theorem adK(n x:Nat):st1 (n+1) x=(x%2+x / 2%2)+4*st1 n (x / 4):=by
 unfold st1;rw[r5 1 2 n x (by omega),r5 1 2 n (x / 2) (by omega)];rw[show x / 2 / 2^2=x / 4 / 2 from by omega,show x / 2^2=x / 4 from rfl];omega
def st2(n y:Nat):Nat:=((y / 4) &&& msk 2 4 n)+(y &&& msk 2 4 n)
theorem amv(n y:Nat):st2 (n+1) y=(y%4+y / 4%4)+16*st2 n (y / 16):=by
 unfold st2;rw[r5 2 4 n y (by omega),r5 2 4 n (y / 4) (by omega)];rw[show y / 4 / 2^4=y / 16 / 4 from by omega,show y / 2^4=y / 16 from rfl];omega
theorem amw(n x:Nat):st1 (n+2) x%16=x%2+x / 2%2+4*(x / 4%2+x / 4 / 2%2)/\st1 (n+2) x / 16=st1 n (x / 16):=by
 rw[adK,adK,show x / 16=x / 4 / 4 from by omega];constructor<;>omega
theorem asH:∀(n x:Nat),st2 (n+1) (st1 (2*(n+1)) x)=pc 4 x+16*st2 n (st1 (2*n) (x / 16)):=by
 intro n x;rw[amv,show 2*(n+1)=2*n+2 from by omega];have⟨h1,h2⟩:=amw (2*n) x;rw[h2];have hp:pc 4 x=x%2+(x / 2%2+(x / 2 / 2%2+(x / 2 / 2 / 2%2+0))):=rfl;rw[show x / 2 / 2=x / 4 from by omega]at hp;rw[hp];generalize st1 (2*n+2) x=y at *;generalize x / 4 / 2%2=b3 at *;have:x%2<2/\x / 2%2<2/\x / 4%2<2:=by omega
 generalize x%2=b0 at *;generalize x / 2%2=b1 at *;generalize x / 4%2=b2 at *;omega
def st3(n z:Nat):Nat:=(z / 16+z) &&& msk 4 8 n
theorem lr:∀(n x:Nat),pc n x<=n
 |0,x=>le_refl _
 |n+1,x=>by have:=lr n (x / 2);simp only[pc];omega
theorem nk:∀(m n x:Nat),pc (m+n) x=pc m x+pc n (x / 2^m)
 |0,n,x=>by simp[pc]
 |m+1,n,x=>by
  rw[show m+1+n=(m+n)+1 from by omega];simp only[pc];rw[nk m n (x / 2),Nat.div_div_eq_div_mul,Nat.pow_succ,Nat.mul_comm 2];omega
def z4(n x:Nat):Nat:=st2 n (st1 (2*n) x)
theorem abI(n x:Nat):z4 (n+1) x=pc 4 x+16*z4 n (x / 16):=asH n x
theorem apA(x:Nat):z4 0 x=0:=by simp[z4,st2,msk]
theorem amx(n x:Nat):st3 (n+1) (z4 (2*n+2) x)=pc 8 x+256*st3 n (z4 (2*n) (x / 256)):=by
 unfold st3;rw[r5 4 8 n _ (by omega)];have e1:=abI (2*n+1) x;have e2:=abI (2*n) (x / 16);rw[Nat.div_div_eq_div_mul]at e2;have e0:pc 8 x=pc 4 x+pc 4 (x / 16):=nk 4 4 x;have b1:=lr 4 x;have b2:=lr 4 (x / 16)
 have b3:z4 (2*n) (x / (16*16))%16<=4:=by
  cases n with
  |zero=>rw[apA];omega
  |succ n=>
   rw[show 2*(n+1)=(2*n+1)+1 from by omega,abI];have:=lr 4 (x / (16*16));omega
 rw[show x / 256=x / (16*16)from rfl];generalize z4 (2*n) (x / (16*16))=q at *;generalize z4 (2*n+1) (x / 16)=r at *;generalize z4 (2*n+2) x=t at *;have ht:(t / 16+t) / 2^8=q / 16+q:=by omega
 rw[ht];have:(t / 16+t)%2^4=pc 4 x+pc 4 (x / 16):=by omega
 omega
theorem bytes(x:Nat):st3 8 (z4 16 x)=pc 8 x+256*(pc 8 (x / 2^8)+256*(pc 8 (x / 2^16)+256*(pc 8 (x / 2^24)+256*(pc 8 (x / 2^32)+256*(pc 8 (x / 2^40)+256*(pc 8 (x / 2^48)+256*pc 8 (x / 2^56))))))):=by
 have h (n x:Nat):=amx n x;have h0:∀x,st3 0 (z4 0 x)=0:=λx=>by simp[st3,msk]
 rw[h 7,h 6,h 5,h 4,h 3,h 2,h 1,h 0,h0];simp only[Nat.div_div_eq_div_mul]
 try rfl
theorem ax9(x:Nat):pc 64 x=pc 8 x+(pc 8 (x / 2^8)+(pc 8 (x / 2^16)+(pc 8 (x / 2^24)+(pc 8 (x / 2^32)+(pc 8 (x / 2^40)+(pc 8 (x / 2^48)+pc 8 (x / 2^56))))))):=by
 rw[nk 8 56 x,nk 8 48,nk 8 40,nk 8 32,nk 8 24,nk 8 16,nk 8 8];simp only[Nat.div_div_eq_div_mul]
 try rfl
theorem apB(x:Nat)(hx:x<18446744073709551616):oc1 (x:Int)=(st1 32 x:Nat):=by
 have hm:msk 1 2 32=6148914691236517205:=by decide
 unfold oc1 st1;rw[show(1:Int)=((1:Nat):Int)from rfl,tL x 1 (by omega),show(6148914691236517205:Int)=((6148914691236517205:Nat):Int)from rfl,tK _ _ (by omega) (by omega),tK _ _ hx (by omega),pz,hm];have h1:x / 2^1 &&& 6148914691236517205<=6148914691236517205:=Nat.and_le_right;have h2:x &&& 6148914691236517205<=6148914691236517205:=Nat.and_le_right;rw[show x / 2^1=x / 2 from rfl]at *;omega
theorem atM(x:Nat):st1 32 x<18446744073709551616:=by
 have hm:msk 1 2 32=6148914691236517205:=by decide
 unfold st1;rw[hm];have h1:x / 2 &&& 6148914691236517205<=6148914691236517205:=Nat.and_le_right;have h2:x &&& 6148914691236517205<=6148914691236517205:=Nat.and_le_right;omega
theorem apC(x:Nat)(hx:x<18446744073709551616):oc2 (x:Int)=(st2 16 x:Nat):=by
 have hm:msk 2 4 16=3689348814741910323:=by decide
 unfold oc2 st2;rw[show(2:Int)=((2:Nat):Int)from rfl,tL x 2 (by omega),show(3689348814741910323:Int)=((3689348814741910323:Nat):Int)from rfl,tK _ _ (by omega) (by omega),tK _ _ hx (by omega),pz,hm];have h1:x / 2^2 &&& 3689348814741910323<=3689348814741910323:=Nat.and_le_right;have h2:x &&& 3689348814741910323<=3689348814741910323:=Nat.and_le_right;rw[show x / 2^2=x / 4 from rfl]at *;omega
theorem atN(x:Nat):st2 16 x<=7378697629483820646:=by
 have hm:msk 2 4 16=3689348814741910323:=by decide
 unfold st2;rw[hm];have h1:x / 4 &&& 3689348814741910323<=3689348814741910323:=Nat.and_le_right;have h2:x &&& 3689348814741910323<=3689348814741910323:=Nat.and_le_right;omega
theorem apD(x:Nat)(hx:x<=7378697629483820646):oc3 (x:Int)=(st3 8 x:Nat):=by
 have hm:msk 4 8 8=1085102592571150095:=by decide
 unfold oc3 st3;rw[show(4:Int)=((4:Nat):Int)from rfl,tL x 4 (by omega),pz,hm];rw[show(((x / 2^4:Nat):Int)+(x:Int))%18446744073709551616=((x / 16+x:Nat):Int)from by omega,show(1085102592571150095:Int)=((1085102592571150095:Nat):Int)from rfl,tK _ _ (by omega) (by omega)]
theorem amy(x:Nat)(hx:x<18446744073709551616):∃t:Nat,oc6 (oc5 (oc4 (oc3 (oc2 (oc1 (x:Int))))))=(t:Int)/\t<9223372036854775808/\t%256=pc 64 x:=by
 rw[apB x hx,apC _ (atM x),apD _ (atN _)];have hb:=bytes x;rw[show z4 16 x=st2 16 (st1 32 x)from rfl]at hb;have hp:=ax9 x;generalize st3 8 (st2 16 (st1 32 x))=y at *;have b0:=lr 8 x;have b1:=lr 8 (x / 2^8);have b2:=lr 8 (x / 2^16);have b3:=lr 8 (x / 2^24);have b4:=lr 8 (x / 2^32);have b5:=lr 8 (x / 2^40);have b6:=lr 8 (x / 2^48);have b7:=lr 8 (x / 2^56);generalize pc 8 x=c0 at *;generalize pc 8 (x / 2^8)=c1 at *;generalize pc 8 (x / 2^16)=c2 at *;generalize pc 8 (x / 2^24)=c3 at *;generalize pc 8 (x / 2^32)=c4 at *;generalize pc 8 (x / 2^40)=c5 at *;generalize pc 8 (x / 2^48)=c6 at *;generalize pc 8 (x / 2^56)=c7 at *;generalize pc 64 x=p at *
 have e4:oc4 (y:Int)=((y+y / 256:Nat):Int):=by
  unfold oc4;rw[show(8:Int)=((8:Nat):Int)from rfl,tL y 8 (by omega),pz,show(2:Nat)^8=256 from rfl];omega
 have h8:y / 256=c1+256*(c2+256*(c3+256*(c4+256*(c5+256*(c6+256*c7))))):=by omega
 rw[e4];have hu:y+y / 256=(c0+c1)+256*((c1+c2)+256*((c2+c3)+256*((c3+c4)+256*((c4+c5)+256*((c5+c6)+256*((c6+c7)+256*c7)))))):=by omega
 generalize y+y / 256=u at *;clear h8 hb e4
 have e5:oc5 (u:Int)=((u+u / 65536:Nat):Int):=by
  unfold oc5;rw[show(16:Int)=((16:Nat):Int)from rfl,tL u 16 (by omega),pz,show(2:Nat)^16=65536 from rfl];omega
 have h16:u / 65536=(c2+c3)+256*((c3+c4)+256*((c4+c5)+256*((c5+c6)+256*((c6+c7)+256*c7)))):=by omega
 rw[e5]
 have hv:∃a1 a2 a3 a5 a6 a7:Nat,a1<=64/\a2<=64/\a3<=64/\a5<=64/\a6<=64/\a7<=64/\u+u / 65536=(c0+c1+c2+c3)+256*(a1+256*(a2+256*(a3+256*((c4+c5+c6+c7)+256*(a5+256*(a6+256*a7)))))):=
  ⟨c1+c2+c3+c4,c2+c3+c4+c5,c3+c4+c5+c6,c5+c6+c7,c6+c7,c7,by omega,by omega,by omega,by omega,by omega,by omega,by omega⟩
 have⟨a1,a2,a3,a5,a6,a7,g1,g2,g3,g5,g6,g7,hv⟩:=hv;generalize u+u / 65536=v at *;clear hu h16 e5
 have e6:oc6 (v:Int)=((v+v / 4294967296:Nat):Int):=by
  unfold oc6;rw[show(32:Int)=((32:Nat):Int)from rfl,tL v 32 (by omega),pz,show(2:Nat)^32=4294967296 from rfl];omega
 rw[e6];refine⟨v+v / 4294967296,rfl,by omega, ?_⟩;have:v / 4294967296=(c4+c5+c6+c7)+256*(a5+256*(a6+256*a7)):=by omega
 omega
theorem atO(t:Nat)(ht:t<9223372036854775808):bJ .and .i64 (t:Int) 127=((t%128:Nat):Int):=by
 have h1:(BitVec.ofInt 64 (t:Int)).toNat=t:=by
  rw[BitVec.ofInt_natCast,BitVec.toNat_ofNat];exact Nat.mod_eq_of_lt (by omega)
 have h2:(BitVec.ofInt 64 (127:Int)).toNat=127:=by decide
 show IntKind.i64.wrap ((BitVec.ofInt 64 (t:Int) &&& BitVec.ofInt 64 (127:Int)).toNat:Int)=_;rw[BitVec.toNat_and,h1,h2,show(127:Nat)=2^7 - 1 from rfl,Nat.and_two_pow_sub_one_eq_mod];generalize hm:t%2^7=m;have:m<128:=by omega
 simp only[IntKind.wrap,IntKind.signed,IntKind.bits];simp;omega
theorem apE(x:Nat)(hx:x<18446744073709551616):ocF (x:Int)=(pc 64 x:Nat):=by
 have⟨t,h1,h2,h3⟩:=amy x hx;unfold ocF;rw[h1,atO t h2];have:=lr 64 x;omega
theorem apF{Z:bB}:dO P Z 137 [tU] [bS] (λ(x,())=>[(0:Int)<=x/\x<(18446744073709551616:Int)]) (λ(x,())=>(((pc 64 (Int.toNat x):Nat):Int),())):=by
 refine aM Tryz.func137 (by kernel_rfl) (by kernel_rfl) ?_;rintro⟨(x:Int),⟨⟩⟩ _ ⟨(hx:0<=x/\x<18446744073709551616),_⟩ X hX hz;obtain⟨n,rfl⟩:=Int.eq_ofNat_of_zero_le hx.1;have⟨t,h1,h2,h3⟩:=amy n (by omega);refine go hz hX aR.Ok.nil Tryz.func137 (atL n) ⟨by omega,by omega,by omega,by omega,by omega,by omega,bq (ocG n,()) ?_ (by kernel_rfl)⟩
 have e:ocG n=ocF n:=by
  unfold ocG ocF;rw[cM (by rw[h1];exact⟨by omega,by omega⟩)]
 rw[e];clear e;revert h1;intro _;rw[apE n (by omega)];rfl
def okW(ws:List Int):Prop:=ws.length=16/\∀w∈ws,0<=w/\w<18446744073709551616
def wd(ws:List Int)(i:Nat):Nat:=(ws.getD i 0).toNat
def bit(ws:List Int)(k:Nat):Bool:=(wd ws (k / 64)).testBit (k%64)
def opb:BinOp->Bool->Bool->Bool
 |.or,x,y=>x||y
 |.andNot,x,y=>x&& !y
 |_,x,y=>x&&y
theorem r6{ws:List Int}(h:okW ws)(i:Nat):wd ws i<18446744073709551616/\(ws.getD i 0)=(wd ws i:Int):=by
 unfold wd;by_cases hi:i<ws.length;have:=h.2 (ws.getD i 0) (by rw[List.getD,getElem?_eq_getElem hi];exact getElem_mem hi);omega;have:ws.getD i 0=0:=by simp[List.getD,getElem?_eq_none (Nat.le_of_not_lt hi)]
 rw[this];simp
theorem zY(op:BinOp)(yj:op=.or\/op=.and\/op=.andNot)(a b:Nat)(ha:a<18446744073709551616)(hb:b<18446744073709551616):
 ∃r:Nat,bJ op .u64 (a:Int) (b:Int)=(r:Int)/\r<18446744073709551616/\∀i,i<64->r.testBit i=opb op (a.testBit i) (b.testBit i):=by
 have h1:BitVec.ofInt 64 (a:Int)=BitVec.ofNat 64 a:=BitVec.ofInt_natCast 64 a;have h2:BitVec.ofInt 64 (b:Int)=BitVec.ofNat 64 b:=BitVec.ofInt_natCast 64 b
 have ad:∀v:BitVec 64,IntKind.u64.wrap (v.toNat:Int)=(v.toNat:Int):=λv=>by
  have:=v.isLt;show(v.toNat:Int)%18446744073709551616=_;omega
 rcases yj with rfl|rfl|rfl;refine⟨(BitVec.ofNat 64 a ||| BitVec.ofNat 64 b).toNat, ?_,(BitVec.ofNat 64 a ||| BitVec.ofNat 64 b).isLt,λi hi=> ?_⟩;show IntKind.u64.wrap ((BitVec.ofInt 64 (a:Int) ||| BitVec.ofInt 64 (b:Int)).toNat:Int)=_;rw[h1,h2,ad];rw[BitVec.testBit_toNat,BitVec.getLsbD_or,BitVec.getLsbD_ofNat,BitVec.getLsbD_ofNat];simp[opb,hi];refine⟨(BitVec.ofNat 64 a &&& BitVec.ofNat 64 b).toNat, ?_,(BitVec.ofNat 64 a &&& BitVec.ofNat 64 b).isLt,λi hi=> ?_⟩;show IntKind.u64.wrap ((BitVec.ofInt 64 (a:Int) &&& BitVec.ofInt 64 (b:Int)).toNat:Int)=_;rw[h1,h2,ad];rw[BitVec.testBit_toNat,BitVec.getLsbD_and,BitVec.getLsbD_ofNat,BitVec.getLsbD_ofNat];simp[opb,hi];refine⟨(BitVec.ofNat 64 a &&& ~~~ BitVec.ofNat 64 b).toNat, ?_,(BitVec.ofNat 64 a &&& ~~~ BitVec.ofNat 64 b).isLt,λi hi=> ?_⟩;show IntKind.u64.wrap ((BitVec.ofInt 64 (a:Int) &&& ~~~ BitVec.ofInt 64 (b:Int)).toNat:Int)=_;rw[h1,h2,ad];rw[BitVec.testBit_toNat,BitVec.getLsbD_and,BitVec.getLsbD_not,BitVec.getLsbD_ofNat,BitVec.getLsbD_ofNat];simp[opb,hi]
theorem xD{ws:List Int}(hl:ws.length=16)(h:∀i,i<16->0<=ws.getD i 0/\ws.getD i 0<18446744073709551616):okW ws:=by
 refine⟨hl,λw hw=> ?_⟩;obtain⟨i,hi,rfl⟩:=List.getElem_of_mem hw;have:=h i (by omega);rwa[List.getD,getElem?_eq_getElem hi]at this
theorem amz{op:BinOp}{a b:List Int}(ha:a.length=16)(hb:b.length=16){i:Nat}(hi:i<16):(cf op a b).getD i 0=bJ op .u64 (a.getD i 0) (b.getD i 0):=by
 have h1:i<a.length:=by omega
 have h2:i<b.length:=by omega
 simp[cf,List.getD,List.getElem?_zipWith,h1,h2]
theorem iL{op:BinOp}(yj:op=.or\/op=.and\/op=.andNot){a b:List Int}(ha:okW a)(hb:okW b):okW (cf op a b)/\∀k,k<1024->bit (cf op a b) k=opb op (bit a k) (bit b k):=by
 have ad:∀i,i<16->∃r:Nat,(cf op a b).getD i 0=(r:Int)/\r<18446744073709551616/\∀j,j<64->r.testBit j=opb op ((wd a i).testBit j) ((wd b i).testBit j):=λi hi=>by
  rw[amz ha.1 hb.1 hi,(r6 ha i).2,(r6 hb i).2];exact zY op yj _ _ (r6 ha i).1 (r6 hb i).1
 refine⟨xD (by simp[cf,ha.1,hb.1]) λi hi=> ?_,λk hk=> ?_⟩;have⟨r,h1,h2,_⟩:=ad i hi;rw[h1];omega;have⟨r,h1,h2,h3⟩:=ad (k / 64) (by omega);unfold bit;rw[show wd (cf op a b) (k / 64)=r from by unfold wd;rw[h1];rfl];exact h3 _ (by omega)
theorem fh:okW aL/\∀k,bit aL k=false:=by
 refine⟨⟨rfl,λw hw=> ?_⟩,λk=> ?_⟩;have:=List.eq_of_mem_replicate hw;omega
 have:wd aL (k / 64)=0:=by
  unfold wd aL;rw[List.getD,List.getElem?_replicate];split<;>rfl
 simp[bit,this]
theorem vv{j i:Nat}:(2^j).testBit i=decide (j=i):=by
 rw[Nat.testBit_two_pow]
theorem adL{n:Int}(h:0<=n/\n<1024):mK n=((2^(n.toNat%64):Nat):Int)/\2^(n.toNat%64)<18446744073709551616/\fk n=((n.toNat / 64:Nat):Int):=by
 unfold mK fk;rw[if_pos h,if_pos h];have e:(n%64).toNat=n.toNat%64:=by omega
 rw[e];have h2:(2:Nat)^(n.toNat%64)<2^64:=Nat.pow_lt_pow_right (by omega) (by omega);refine⟨by simp,h2,by omega⟩
theorem mM{n:Int}:jc n=true↔0<=n/\n<1024:=by simp[jc]
theorem amA(op:BinOp)(yj:op=.or\/op=.andNot){ws:List Int}(hw:okW ws){n:Int}(h:0<=n/\n<1024):
 okW (ws.set (fk n).toNat (bJ op .u64 (ws.getD (fk n).toNat 0) (mK n)))/\∀k,k<1024->bit (ws.set (fk n).toNat (bJ op .u64 (ws.getD (fk n).toNat 0) (mK n))) k=opb op (bit ws k) (decide (n=(k:Int))):=by
 have⟨e1,e2,e3⟩:=adL h;rw[e1,e3,toNat_natCast];obtain⟨m,rfl⟩:=Int.eq_ofNat_of_zero_le h.1;simp only[toNat_natCast]at *;have hb:=r6 hw (m / 64);rw[hb.2];have⟨r,h1,h2,h3⟩:=zY op (by rcases yj with h|h<;>simp[h]) _ _ hb.1 e2;rw[h1];have hm:m / 64<ws.length:=by rw[hw.1];omega
 refine⟨xD (by simpa using hw.1) λi hi=> ?_,λk hk=> ?_⟩;rw[rY];split;omega;have:=r6 hw i;omega;unfold bit wd;rw[rY];by_cases ri:k / 64=m / 64;rw[if_pos ⟨ri,hm⟩,toNat_natCast,h3 _ (by omega),vv]
 have:decide (m%64=k%64)=decide ((m:Int)=(k:Int)):=by
  apply decide_eq_decide.2;omega
 rw[this,ri];rfl;rw[if_neg (λh=>ri h.1)];have:decide ((m:Int)=(k:Int))=false:=decide_eq_false (by omega);rw[this];rcases yj with rfl|rfl<;>simp[opb]
theorem gO{ws:List Int}(hw:okW ws)(n:Int):okW (dz ws n)/\∀k,k<1024->bit (dz ws n) k=(bit ws k||decide (n=(k:Int))):=by
 unfold dz;by_cases h:0<=n/\n<1024;rw[if_pos (mM.2 h)];exact amA .or (.inl rfl) hw h;rw[if_neg (λh2=>h (mM.1 h2))];refine⟨hw,λk hk=> ?_⟩;rw[decide_eq_false (by omega),Bool.or_false]
theorem lT{ws:List Int}(hw:okW ws)(n:Int):okW (dA ws n)/\∀k,k<1024->bit (dA ws n) k=(bit ws k&& !decide (n=(k:Int))):=by
 unfold dA;by_cases h:0<=n/\n<1024;rw[if_pos (mM.2 h)];exact amA .andNot (.inr rfl) hw h;rw[if_neg (λh2=>h (mM.1 h2))];refine⟨hw,λk hk=> ?_⟩;rw[decide_eq_false (by omega)];simp
theorem apG(w j:Nat):w &&& 2^j=if w.testBit j=true then 2^j else 0:=by
 apply Nat.eq_of_testBit_eq;intro i;rw[Nat.testBit_and,vv];by_cases h:j=i;subst h;cases h2:w.testBit j;simp;simp[vv];cases h2:w.testBit j;simp[h];simp[vv,h]
theorem ahK{ws:List Int}(hw:okW ws)(n:Int):mL ws n=(decide (0<=n/\n<1024)&&bit ws n.toNat):=by
 unfold mL;by_cases h:0<=n/\n<1024;rw[show jc n=true from mM.2 h,decide_eq_true h];have⟨e1,e2,e3⟩:=adL h;rw[e1,e3,toNat_natCast];have hb:=r6 hw (n.toNat / 64);rw[hb.2];have:=tK _ _ hb.1 e2;unfold ub at this;rw[this,apG];unfold bit;have hp:(0:Nat)<2^(n.toNat%64):=Nat.two_pow_pos _;generalize (2:Nat)^(n.toNat%64)=p at *;cases(wd ws (n.toNat / 64)).testBit (n.toNat%64);rfl;rw[if_pos rfl];simp;omega;rw[show jc n=false from by simp[jc];omega,decide_eq_false h];rfl
theorem apH{a b:List Int}(ha:okW a)(hb:okW b)(h:∀k,k<1024->bit a k=bit b k):a=b:=by
 refine xz ha.1 hb.1 λi hi=> ?_;have h1:=r6 ha i;have h2:=r6 hb i;rw[h1.2,h2.2];congr 1;apply Nat.eq_of_testBit_eq;intro j;by_cases hj:j<64;have:=h (64*i+j) (by omega);unfold bit at this;rwa[show(64*i+j) / 64=i from by omega,show(64*i+j)%64=j from by omega]at this;rw[Nat.testBit_lt_two_pow (Nat.lt_of_lt_of_le h1.1 (Nat.pow_le_pow_right (by omega) (Nat.le_of_not_lt hj):2^64<=2^j)),Nat.testBit_lt_two_pow (Nat.lt_of_lt_of_le h2.1 (Nat.pow_le_pow_right (by omega) (Nat.le_of_not_lt hj):2^64<=2^j))]
theorem xE(n i:Int):∃m:Nat,m<=64/\ajH n i=m/\tJ n i=((2^m - 1:Nat):Int):=by
 have⟨h0,h1⟩:=xC n i;have⟨m,hm⟩:=Int.eq_ofNat_of_zero_le h0;refine⟨m,by omega,hm, ?_⟩;unfold tJ;rw[hm,toNat_natCast,show IntKind.u64.bits=64 from rfl,Nat.min_eq_left (by omega),Int.one_mul];show((2:Int)^m%18446744073709551616 - 1)%18446744073709551616=_;have hp:=Nat.two_pow_pos m;by_cases h64:m=64;subst h64;decide;have h2:(2:Nat)^m<2^64:=Nat.pow_lt_pow_right (by omega) (by omega);rw[show(2:Int)^m=((2^m:Nat):Int)from by simp];generalize (2:Nat)^m=p at *;omega
theorem cr(n:Int):okW (bw n)/\∀k,k<1024->bit (bw n) k=decide ((k:Int)<n):=by
 have hg:∀i:Nat,i<16->(bw n).getD i 0=tJ n i:=λi hi=>by simp[bw,List.getD,hi]
 refine⟨xD (by simp[bw]) λi hi=> ?_,λk hk=> ?_⟩;rw[hg i hi];have⟨m,h1,_,h2⟩:=xE n i;rw[h2];have:(2:Nat)^m<=2^64:=Nat.pow_le_pow_right (by omega) h1;omega;unfold bit wd;rw[hg _ (by omega)];have⟨m,h1,h3,h2⟩:=xE n ((k / 64:Nat):Int);rw[h2,toNat_natCast,Nat.testBit_two_pow_sub_one];apply decide_eq_decide.2;unfold ajH qj imax at h3;split at h3<;>(split at h3<;>(split at h3<;>split at h3<;>omega))
abbrev s35:=cU [tU] [bS] (λ(x,())=>[(0:Int)<=x/\x<(18446744073709551616:Int)]) (λ(x,())=>(((pc 64 (Int.toNat x):Nat):Int),()))
def atP:aR:=[(137,s35)]
def av9:List (Nat×Norm):=[(3,⟨[],[3,6,7],0,[]⟩)]
noncomputable def c14(ws:List Int)(n i:Int):cn:=⟨sl 16 [(3,.s (.int .i64 n)),(6,.aw .u64 16 ws),(7,.s (.int .i64 i))],[],hd Tryz.f93 3,{}⟩
def adM(x:Int):Int:=(Lib.ctz 64 x.toNat:Nat)
abbrev s34:=cU [tU] [bS] (λ(x,())=>[(0:Int)<=x/\x<(18446744073709551616:Int)]) (λ(x,())=>(adM x,()))
abbrev s13:=cU [bS] [eU] (λ_=>[]) (λ(n,())=>(bw n,()))
abbrev s21:=cU [eU,eU] [eU] (λ_=>[]) (λ(a,b,())=>(cf .andNot a b,()))
def atQ:aR:=[(64,s13),(66,s21),(131,s34)]
def awa:List (Nat×Norm):=[(6,⟨[],[17,18],0,[]⟩)]
noncomputable def c12(ws:List Int)(i:Int):cn:=⟨sl 30 [(17,.aw .u64 16 ws),(18,.s (.int .i64 i))],[],hd Tryz.f83 6,{}⟩
def lU:List Int->Int->Option Int
 |[],_=>none
 |w::ws,i=>if w≠0 then some (i*64+adM w)else lU ws (i+1)
def oR(ws:List Int)(n:Int):Option Int:=if imax n 0>=1024 then none else lU (cf .andNot ws (bw (imax n 0))) 0
def bU(ws:List Int)(n:Int):Int:=(oR ws n).getD 0
def fl(ws:List Int)(n:Int):Bool:=(oR ws n).isSome
abbrev s12:=cU [eU,bS] [bS,dg] (λ(ws,_,())=>[okW ws]) (λ(ws,n,())=>(bU ws n,fl ws n,()))
theorem atT(ws:List Int):run P atP.sum Tryz.f93 av9 (start Tryz.f93 [.aw .u64 16 ws] [])=
 Tree.at (c14 ws 0 0):=by kernel_rfl
theorem atU(ws:List Int)(n i:Int):run P atP.sum Tryz.f93 av9 (c14 ws n i)=
 Tree.ite (decide (i<16)) (.ab ((0:Int)<=i) (.ab (i<(↑(16:Nat):Int)) (.ab ((0:Int)<=ws.getD i.toNat (0:Int)/\ws.getD i.toNat (0:Int)<18446744073709551616) (.ab (aG (n+(↑(pc 64 (ws.getD i.toNat 0).toNat):Int))) (.ab (aG (i+1)) (.at (c14 ws (n+(↑(pc 64 (ws.getD i.toNat 0).toNat):Int)) (i+1)))))))) (.ret [] (.s (.int .i64 n))):=by kernel_rfl
theorem atV(ws:List Int)(n:Int):run P atQ.sum Tryz.f83 awa (start Tryz.f83 [.aw .u64 16 ws,.s (.int .i64 n)] [])=
 Tree.ite (decide (imax n (0:Int)>=1024)) (.ret [.ay [.aw .u64 16 ws] 37] (.bD [.s (.aZ .i64 0),.s (.aT false)])) (.at (c12 (cf BinOp.andNot ws (bw (imax n 0))) 0)):=by kernel_rfl
theorem atW(ws:List Int)(i:Int):run P atQ.sum Tryz.f83 awa (c12 ws i)=
 Tree.ite (decide (i<16)) (.ab ((0:Int)<=i) (.ab (i<(↑(16:Nat):Int)) (.ite (ws.getD i.toNat (0:Int) !=0) (.ab (aG (i*64)) (.ab ((0:Int)<=ws.getD i.toNat (0:Int)/\ws.getD i.toNat (0:Int)<18446744073709551616) (.ab (aG (i*64+adM (ws.getD i.toNat 0))) (.ret [] (.bD [.s (.int .i64 (i*64+adM (ws.getD i.toNat 0))),.s (.aT true)]))))) (.ab (aG (i+1)) (.at (c12 ws (i+1))))))) (.ret [] (.bD [.s (.aZ .i64 0),.s (.aT false)])):=by kernel_rfl
def fr(b:Nat->Bool)(m:Nat):List Nat:=(List.range m).filter b
def af0(ws:List Int):List Nat:=fr (bit ws) 1024
theorem r7(b:Nat->Bool)(m:Nat):fr b (m+1)=fr b m++(if b m=true then [m]else []):=by
 unfold fr;rw[List.range_succ,List.filter_append];cases h:b m<;>simp[h]
theorem ajJ(b:Nat->Bool)(m:Nat):(fr b m).length<=m:=by
 have:=List.length_filter_le b (List.range m);rwa[List.length_range]at this
theorem adN{x:Nat}(h0:x≠0)(h:x<18446744073709551616):Lib.ctz 64 x<64/\x.testBit (Lib.ctz 64 x)=true/\∀c,c<Lib.ctz 64 x->x.testBit c=false:=by
 unfold Lib.ctz;rw[if_neg h0];have⟨m,h1,h2⟩:=Lib.ctzFrom_spec 64 x (by omega) h;generalize Lib.ctzFrom 64 x=e at *;refine⟨h2, ?_,λc hc=> ?_⟩;rw[h1,Nat.testBit_two_pow_mul];simp;rw[h1,Nat.testBit_two_pow_mul];simp;omega
theorem nm : ∀ (l : List Int) (i : Int), (∀ w ∈ l, 0 ≤ w ∧ w < 18446744073709551616) →
    match lU l i with
    | some v => ∃ j c : Nat, j < l.length ∧ c < 64 ∧ v = (i + j) * 64 + c ∧ (l.getD j 0).toNat.testBit c = true ∧ (∀ c', c' < c → (l.getD j 0).toNat.testBit c' = false) ∧ ∀ j', j' < j → l.getD j' 0 = 0
    | none => ∀ j, l.getD j 0 = 0
  | [], i, _ => fun j => by simp
  | w :: l, i, h => by
    unfold lU;have hw := h w (by simp);by_cases h0 : w ≠ 0
    · rw [if_pos h0];obtain ⟨h1, h2, h3⟩ := adN (x := w.toNat) (by omega) (by omega);exact ⟨0, Lib.ctz 64 w.toNat, by simp, h1, by simp [adM], by simpa using h2, by simpa using h3, fun j' hj => by omega⟩
    · rw [if_neg h0];have ih := nm l (i + 1) (fun x hx => h x (by simp [hx]));split
      · rename_i v hv;rw [hv] at ih;obtain ⟨j, c, h1, h2, h3, h4, h5, h6⟩ := ih;refine ⟨j + 1, c, by simp; omega, h2, by rw [h3]; simp; omega, by simpa using h4, by simpa using h5, fun j' hj => ?_⟩;cases j' with
        | zero => simp; omega
        | succ j' => simpa using h6 j' (by omega)
      · rename_i hv;rw [hv] at ih;intro j;cases j with
        | zero => simp; omega
        | succ j => simpa using ih j
theorem xF{ws:List Int}(hw:okW ws){n v:Int}(h:oR ws n=some v):∃p:Nat,v=(p:Int)/\p<1024/\bit ws p=true/\n<=(p:Int)/\∀k:Nat,k<p->n<=(k:Int)->bit ws k=false:=by
 unfold oR at h;split at h;cases h;rename_i h0;have⟨h1,h2⟩:=iL (.inr (.inr rfl)) hw (cr (imax n 0)).1;have hs:=nm _ 0 h1.2;rw[h]at hs;have⟨j,c,g1,g2,g3,g4,g5,g6⟩:=hs;rw[h1.1]at g1
 have hm:∀k,k<1024->bit (cf .andNot ws (bw (imax n 0))) k=(bit ws k&& !decide ((k:Int)<imax n 0)):=λk hk=>by
  rw[h2 k hk,(cr (imax n 0)).2 k hk];rfl
 have hp:bit (cf .andNot ws (bw (imax n 0))) (64*j+c)=true:=by
  unfold bit wd;rw[show(64*j+c) / 64=j from by omega,show(64*j+c)%64=c from by omega];exact g4
 have afZ:∀k,k<64*j+c->bit (cf .andNot ws (bw (imax n 0))) k=false:=λk hk=>by
  unfold bit wd;by_cases hkj:k / 64=j;rw[hkj];exact g5 _ (by omega);rw[g6 (k / 64) (by omega)];simp
 have awb:imax n 0=n/\0<=n\/imax n 0=0/\n<0:=by unfold imax;split<;>omega
 have hp2:=hp;rw[hm _ (by omega)]at hp2;simp only[and_eq_true,not_eq_true',decide_eq_false_iff_not]at hp2;refine⟨64*j+c,by rw[g3];simp;omega,by omega,hp2.1,by omega,λk hk hn=> ?_⟩;have:=afZ k hk;rw[hm k (by omega)]at this;simp only[Bool.and_eq_false_iff,Bool.not_eq_false',decide_eq_true_eq]at this;rcases this with h|h;exact h;omega
theorem af1{ws:List Int}(hw:okW ws){n:Int}(h:oR ws n=none):∀k:Nat,k<1024->n<=(k:Int)->bit ws k=false:=by
 intro k hk hn;unfold oR at h;have awb:imax n 0=n/\0<=n\/imax n 0=0/\n<0:=by unfold imax;split<;>omega
 split at h;omega;rename_i h0;have⟨h1,h2⟩:=iL (.inr (.inr rfl)) hw (cr (imax n 0)).1;have hs:=nm _ 0 h1.2;rw[h]at hs
 have hb:bit (cf .andNot ws (bw (imax n 0))) k=false:=by
  unfold bit wd;rw[hs];simp
 rw[h2 k hk,(cr (imax n 0)).2 k hk,decide_eq_false (by omega)]at hb;simpa[opb]using hb
def iM(ws:List Int):Int:=((ws.map λw=>pc 64 w.toNat).sum:Nat)
theorem amB{Z:bB}:dO P Z 93 [eU] [bS] (λ(ws,())=>[okW ws]) (λ(ws,())=>(iM ws,())):=by
 refine aM Tryz.func93 (by kernel_rfl) (by kernel_rfl) ?_;rintro⟨(ws:List Int),⟨⟩⟩ _ ⟨(hw:okW ws),_⟩ X hX hz;have hT:atP.Ok P Z:=aR.Ok.cons apF.sum aR.Ok.nil;refine go hz hX hT Tryz.func93 (atT ws) ?_
 have bound:∀l:List Int,(l.map λw=>pc 64 w.toNat).sum<=64*l.length:=λl=>by
  induction l with
  |nil=>simp
  |cons a l ih=>have:=lr 64 a.toNat;simp only[map_cons,sum_cons,length_cons];omega
 refine pq (λ(i:Int)=>c14 ws (((ws.take i.toNat).map λw=>pc 64 w.toNat).sum:Nat) i) (λi=>0<=i/\i<=16) (λi=>(16 - i).toNat) ?_ 0 ⟨by omega,by omega⟩;rintro i ⟨(h0:0<=i),(h1:i<=16)⟩ ih;have hl:=hw.1;have hb:=bound (ws.take i.toNat);rw[length_take]at hb;refine go hz hX hT Tryz.func93 (atU ws _ i) ⟨λh=> ?_,λh=> ?_⟩;have hi:i<(16:Int):=of_decide_eq_true h;have hm:=hw.2 (ws.getD i.toNat 0) (by rw[List.getD,getElem?_eq_getElem (by omega)];exact getElem_mem (by omega));have hp:=lr 64 (ws.getD i.toNat 0).toNat;refine⟨h0,hi,hm,⟨by omega,by omega⟩,⟨by omega,by omega⟩, ?_⟩;have:=ih (i+1) ⟨by omega,by omega⟩ (by omega);rw[show(i+1).toNat=i.toNat+1 from by omega,zX ws i.toNat 0 (by omega)]at this;rw[map_append,List.sum_append]at this;simp only[map_cons,map_nil,sum_cons,List.sum_nil,add_zero]at this;rw[Int.natCast_add]at this;exact this;have hi:¬i<(16:Int):=of_decide_eq_false h;rw[take_of_length_le (by omega)];exact bq (iM ws,()) rfl (by kernel_rfl)
theorem zZ:∀(n x:Nat),pc n x=((List.range n).filter x.testBit).length
 |0,x=>rfl
 |n+1,x=>by
  rw[pc,zZ n (x / 2),List.range_succ_eq_map,List.filter_cons,List.filter_map];have e:(x.testBit∘Nat.succ)=(x / 2).testBit:=by funext i;simp[Nat.testBit_succ]
  rw[e,Nat.testBit_zero];rcases Nat.mod_two_eq_zero_or_one x with h|h;rw[h];simp;rw[h];simp;omega
theorem apI{ws:List Int}(hl:ws.length=16):iM ws=((af0 ws).length:Nat):=by
 have:∀j,j<=16->(fr (bit ws) (64*j)).length=((ws.take j).map λw=>pc 64 w.toNat).sum:=by
  intro j
  induction j with
  |zero=>intro _;rfl
  |succ j ih=>
   intro hj;rw[zX ws j 0 (by omega),map_append,List.sum_append,<-ih (by omega)];unfold fr;rw[show 64*(j+1)=64*j+64 from by omega,List.range_add,List.filter_append,length_append,List.filter_map,length_map];simp only[map_cons,map_nil,sum_cons,List.sum_nil,add_zero];rw[zZ];congr 2;apply List.filter_congr;intro i hi;have hi:=mem_range.1 hi;simp only[Function.comp,bit,wd];rw[show(64*j+i) / 64=j from by omega,show(64*j+i)%64=i from by omega]
 unfold iM af0;have h:=this 16 (by omega);rw[show 64*16=1024 from rfl]at h;rw[h,take_of_length_le (by omega)]
theorem apJ{Z:bB}(h34:qA P Z 131 s34):dO P Z 83 [eU,bS] [bS,dg] (λ(ws,_,())=>[okW ws]) (λ(ws,n,())=>(bU ws n,fl ws n,())):=by
 refine aM Tryz.func83 (by kernel_rfl) (by kernel_rfl) ?_;rintro⟨(ws:List Int),(n:Int),⟨⟩⟩ _ ⟨(hw:okW ws),_⟩ X hX hz;have hT:atQ.Ok P Z:=aR.Ok.cons rZ.sum (aR.Ok.cons vu.sum (aR.Ok.cons h34 aR.Ok.nil));refine go hz hX hT Tryz.func83 (atV ws n) ⟨λh=> ?_,λh=> ?_⟩;have h:imax n 0>=1024:=of_decide_eq_true h;refine bq (0,false,()) ?_ (by kernel_rfl);simp only[bU,fl,oR,if_pos h];rfl;have h:¬imax n 0>=1024:=of_decide_eq_false h;have e:oR ws n=lU (cf .andNot ws (bw (imax n 0))) 0:=by unfold oR;rw[if_neg h]
 have hr:=(iL (.inr (.inr rfl)) hw (cr (imax n 0)).1).1;simp only[bU,fl,e];generalize cf BinOp.andNot ws (bw (imax n 0))=rest at *;refine pq (λ(i:Int)=>c12 rest i) (λi=>0<=i/\i<=16/\lU rest 0=lU (rest.drop i.toNat) i) (λi=>(16 - i).toNat) ?_ 0 ⟨by omega,by omega,rfl⟩;rintro i ⟨(h0:0<=i),(h1:i<=16),h2⟩ ih;have hl:=hr.1;refine go hz hX hT Tryz.func83 (atW rest i) ⟨λh=> ?_,λh=> ?_⟩;have hi:i<(16:Int):=of_decide_eq_true h
 have hd:rest.drop i.toNat=rest.getD i.toNat 0::rest.drop (i.toNat+1):=by
  rw[List.drop_eq_getElem_cons (by omega),List.getD,getElem?_eq_getElem (by omega)];rfl
 have hm:=hr.2 (rest.getD i.toNat 0) (by rw[List.getD,getElem?_eq_getElem (by omega)];exact getElem_mem (by omega));rw[hd,lU]at h2;refine⟨h0,hi,λh3=> ?_,λh3=>⟨⟨by omega,by omega⟩,ih (i+1) ⟨by omega,by omega, ?_⟩ (by omega)⟩⟩;have h3:rest.getD i.toNat 0≠0:=by simpa using h3
 rw[if_pos h3]at h2;have hc:=(adN (x:=(rest.getD i.toNat 0).toNat) (by omega) (by omega)).1;refine⟨⟨by omega,by omega⟩,hm,⟨by unfold adM;omega,by unfold adM;omega⟩, ?_⟩;rw[h2];exact bq _ rfl (by kernel_rfl);have h3:¬rest.getD i.toNat 0≠0:=by simpa using h3
 rw[if_neg h3]at h2;rw[h2,show(i+1).toNat=i.toNat+1 from by omega];have hi:¬i<(16:Int):=of_decide_eq_false h;rw[List.drop_eq_nil_of_le (by omega)]at h2;rw[h2];exact bq (0,false,()) rfl (by kernel_rfl)
end Bx
namespace Ts
open Go Go.Sx Go.Proofs Lf
abbrev Th:=Ds.Th
abbrev As:=Ds.As
abbrev Ws:=List Int
def gF(th:Th)(m:As)(n ae:Int):Int:=if ae>16 then 4 else if Ds.gS th m n=0 then tF (Ds.fR th m n)else Ds.gS th m n
def tM(th:Th)(m:As)(n ae:Int):Bool:=decide (ae<=16)&&decide (Ds.gS th m n=0)
def lB(th:Th)(m:As)(n ae:Int):Bool:=tM th m n ae&&kf (Ds.fR th m n)
def cv(th:Th)(m:As)(n ae:Int):List En:=if tM th m n ae=true then oN (Ds.fR th m n)else []
def bh(th:Th)(m:As)(n ae:Int):List Br:=if tM th m n ae=true then nD (Ds.fR th m n)else []
def dD(l:Bool)(es:List En)(bs:List Br):ByteArray:=if l=true then(es.getD 0 dE).1 else(bs.getD 0 dB).1
def af:List Br->List Br
 |[]=>[]
 |b::r=>(empty,b.2.1,())::r
abbrev Wr:Type:=As×Int×Ws×Ws×Br×Int
def ct(th:Th)(m:As)(fu:Int)(fr fs:Ws)(l:Bool)(es:List En)(bs:List Br):Wr:=
 if Bx.fl fr 0=false then(m,fu,fr,fs,dB,41)
 else if iJ l es (af bs)≠0 then(m,fu,fr,fs,dB,iJ l es (af bs))
 else if(Ds.ky th m fu (Bx.bU fr 0) (dG l es (af bs))).2.2≠0 then
  ((Ds.ky th m fu (Bx.bU fr 0) (dG l es (af bs))).1,(Ds.ky th m fu (Bx.bU fr 0) (dG l es (af bs))).2.1,fr,fs,dB,(Ds.ky th m fu (Bx.bU fr 0) (dG l es (af bs))).2.2)
 else((Ds.ky th m fu (Bx.bU fr 0) (dG l es (af bs))).1,(Ds.ky th m fu (Bx.bU fr 0) (dG l es (af bs))).2.1,Bx.dA fr (Bx.bU fr 0),Bx.dz fs (Bx.bU fr 0),(dD l es bs,Bx.bU fr 0,()),0)
abbrev Wrs:Type:=As×Int×Ws×Ws×List Br×Int
def two(a:Wr)(b:Wr):Wrs:=(b.1,b.2.1,b.2.2.1,b.2.2.2.1,[a.2.2.2.2.1,b.2.2.2.2.1],b.2.2.2.2.2)
def bO(th:Th)(m:As)(fu:Int)(fr fs:Ws)(l:Bool)(es:List En)(bs:List Br):Wrs:=
 if es.length+bs.length=0 then(m,fu,fr,fs,[],0)
 else if bI es (af bs)<=254 then
  let a:=ct th m fu fr fs l es (af bs)
  (a.1,a.2.1,a.2.2.1,a.2.2.2.1,[a.2.2.2.2.1],a.2.2.2.2.2)
 else if spC l es (af bs)≠0 then(m,fu,fr,fs,[],spC l es (af bs))
 else
  let a:=ct th m fu fr fs (cz l es (af bs)) (bE l es (af bs)) (bH l es (af bs))
  if a.2.2.2.2.2≠0 then(a.1,a.2.1,a.2.2.1,a.2.2.2.1,[],a.2.2.2.2.2)
  else two a (ct th a.1 a.2.1 a.2.2.1 a.2.2.2.1 (cz l es (af bs)) (dw l es (af bs)) (dH l es (af bs)))
def doE(ad:ByteArray)(op:Option ByteArray)(l:List En):List En:=match op with
 |some val=>bX l ad val
 |none=>if iV l ad=true then cN l ad else []
def sH(ad:ByteArray)(op:Option ByteArray)(l:List En):Int:=match op with
 |some _=>0
 |none=>if iV l ad=true then 0 else 5
def jW(fs:Ws)(n:Int):Ws:=if Bx.mL fs n=true then Bx.dA fs n else fs
def qE(fs gn:Ws)(n:Int):Ws:=if Bx.mL fs n=true then Bx.dz gn n else gn
abbrev Chg:Type:=As×Int×Ws×Ws×Ws×List Br×Int
def iN(gn:Ws)(w:Wrs):Chg:=(w.1,w.2.1,w.2.2.1,w.2.2.2.1,gn,w.2.2.2.2.1,w.2.2.2.2.2)
def l7(k:ByteArray):List Br->List Br
 |[]=>[]
 |b::r=>(k,b.2.1,())::r
def xG(th:Th)(ad:ByteArray)(op:Option ByteArray):Nat->As->Int->Ws->Ws->Ws->Int->Int->Chg
 |0,m,fu,fr,fs,gn,_,_=>(m,fu,fr,fs,gn,[],4)
 |f+1,m,fu,fr,fs,gn,n,ae=>
  if gF th m n ae≠0 then(m,fu,fr,fs,gn,[],gF th m n ae)
  else if lB th m n ae=true then
   if sH ad op (cv th m n ae)≠0 then(m,fu,fr,fs,gn,[],sH ad op (cv th m n ae))
   else iN (qE fs gn n) (bO th m fu fr (jW fs n) true (doE ad op (cv th m n ae)) (bh th m n ae))
  else if bh th m n ae=[]then(m,fu,fr,fs,gn,[],4)
  else
   let k:=(br (bh th m n ae) ad).toNat;let r:=xG th ad op f m fu fr fs gn ((bh th m n ae).getD k dB).2.1 (ae+1)
   if r.2.2.2.2.2.2≠0 then(r.1,r.2.1,r.2.2.1,r.2.2.2.1,r.2.2.2.2.1,[],r.2.2.2.2.2.2)
   else iN (qE r.2.2.2.1 r.2.2.2.2.1 n) (bO th r.1 r.2.1 r.2.2.1 (jW r.2.2.2.1 n) false (cv th m n ae)
    ((bh th m n ae).take k++l7 ((bh th m n ae).getD k dB).1 r.2.2.2.2.2.1++(bh th m n ae).drop (k+1)))
end Ts
namespace Bx
open Go Go.Sx Go.Proofs Go.RowKit
set_option maxHeartbeats 1000000 in
theorem apK(x k idx:Nat)(w:World)(hx0:((x:Int)==0)=false)
 (ad:IntKind.u64.wrap (bits BinOp.and IntKind.u64 (x:Int) (IntKind.u64.wrap (-(x:Int)))*285870213051353865) / 288230376151711744=(idx:Int))
 (hi:idx<64) (hk:k<64) (rl:w.cell? ⟨0,idx,none⟩=some (.int .u8 k)):
 Calls Tryz.prog 131 #[.int .u64 x] w λe w'=>e=.returned (.int .i64 k)/\w'=w:=by
 go_enter Tryz.func131,Tryz.ntmps131
 go_wp2_with (simp only[ad])
 go_ret
 exact⟨rfl,rfl⟩
set_option maxHeartbeats 1000000 in
theorem apL(w:World):
 Calls Tryz.prog 131 #[.int .u64 0] w λe w'=>e=.returned (.int .i64 64)/\w'=w:=by
 go_enter Tryz.func131,Tryz.ntmps131
 go_wp2
 go_ret
 exact⟨rfl,rfl⟩
theorem atX(w:World)(h:TabAt 0 Lib.deBruijn64tab w):0<w.heap.size:=by
 have h0:=h 0 (by decide);rcases lt_or_ge 0 w.heap.size with h1|h1;exact h1;simp[cell?,Array.getElem?_eq_none h1]at h0
def bZ:bB:=⟨[0],TabAt 0 Lib.deBruijn64tab,λw h b hb=>by rw[mem_singleton.1 hb];exact atX w h,λw w' h k j hj=>by rw[mU (k 0 (by simp))];exact h j hj⟩
theorem atY(x:Nat)(hx:x<18446744073709551616)(w:World)(hT:TabAt 0 Lib.deBruijn64tab w):
 Calls Tryz.prog 131 #[.int .u64 x] w λe w'=>e=.returned (.int .i64 (Lib.ctz 64 x))/\w'=w:=by
 by_cases hx0:x=0;subst hx0;exact apL w;have⟨afZ,hk⟩:=Lib.lowest_bit 64 x hx0 hx;have⟨hi,aya⟩:=Lib.deBruijn64_at _ hk;have rl:=hT _ hi;rw[aya]at rl;exact apK x _ _ w (by simp;omega) (tz64_key x _ hx hx0 afZ) hi hk rl
theorem awc:dO P bZ 131 [tU] [bS] (λ(x,())=>[(0:Int)<=x/\x<(18446744073709551616:Int)]) (λ(x,())=>(adM x,())):=by
 rintro⟨(x:Int),⟨⟩⟩ _ ⟨(hx:0<=x/\x<18446744073709551616),_⟩ G w vs hG hz hd;obtain⟨n,rfl⟩:=Int.eq_ofNat_of_zero_le hx.1;obtain⟨v,rest,rfl,h1,h2⟩:=aI.1 hd;obtain rfl:=bo.1 h2
 have h3:v=.int .u64 n:=by
  have:=aC (x:=.int .u64 n) (by simp) h1;cases this;rfl
 subst h3;refine(atY n (by omega) w hz).mono ?_;rintro e w' ⟨rfl,rfl⟩;refine⟨_,rfl,Good.val ⟨λid o ho=>by simp at ho,λi j oi oj b hi=>by simp at hi,λb hb=> ?_,hG⟩ ?_⟩;have⟨id,o,ho,_⟩:=hb;cases ho;exact aJ (.int .i64 _)
end Bx
namespace Lf
open Go Go.Sx Go.Proofs
abbrev iP:Ty:=.st [.bool,.mA (.az cE) eE,.mA (.az cB) eB]
abbrev arF(l:Bool)(r:Int×List En×List Br):AL [iP,bS]:=((decide (r.1=0)&&l,r.2.1,r.2.2,()),r.1,())
abbrev uH(s:ByteArray):AL [iP,bS]:=((kf s,oN s,nD s,()),tF s,())
theorem apM{Z:bB}:dO P Z 125 [fc] [iP,bS] (λ_=>[]) (λ(s,())=>((kf s,oN s,nD s,()),tF s,())):=by
 refine aM Tryz.func125 (by kernel_rfl) (by kernel_rfl) ?_;rintro⟨(s0:ByteArray),⟨⟩⟩ _ _ X hX hz;show Safe P 125 X (Ends [iP,bS] (uH s0)) _;have loop:∀(l:Bool) (n:Nat) (s:ByteArray) (es:List En) (bs:List Br),s.size<=n->es.length+bs.length+s.size<=254->arF l (jl l n s es bs)=uH s0->
  Safe P 125 X (Ends [iP,bS] (uH s0)) (atl s l es bs):=by
  intro l n
  induction n with
  |zero=>
   intro s es bs hn hb hy;obtain rfl:=mB (Nat.le_zero.1 hn);refine go hz hX kK Tryz.func125 (ahx empty l es bs) ⟨λh=>absurd h (by simp),λ_=>⟨λh=> ?_,λh=> ?_⟩⟩;refine bq ((false,[],[],()),4,()) ?_ (by kernel_rfl);rw[<-hy,jl,if_neg (by simpa using h)];rfl;refine bq ((l,es,bs,()),0,()) ?_ (by kernel_rfl);rw[<-hy,jl,if_pos (by simpa using h)];rfl
  |succ n ih=>
   intro s es bs hn hb hy;refine go hz hX kK Tryz.func125 (ahx s l es bs) ⟨λh=> ?_,λh=> ?_⟩;have h:s≠empty:=by simpa using h
   have bad:jl l (n+1) s es bs=(8,[],[])->∀(s':ByteArray) (ml:List En) (pZ:List Br),Safe P 125 X (Ends [iP,bS] (uH s0)) (xq s' l ml pZ false):=λe s' ml pZ=>by
    refine go hz hX kK Tryz.func125 (adw s' l ml pZ false) ⟨λ_=> ?_,λh=>by cases h⟩;refine bq ((false,[],[],()),8,()) ?_ (by kernel_rfl);rw[<-hy,e];rfl
   have cont:∀(s':ByteArray) (ml:List En) (pZ:List Br),s'.size<=n->ml.length+pZ.length+s'.size<=254->arF l (jl l n s' ml pZ)=uH s0->Safe P 125 X (Ends [iP,bS] (uH s0)) (xq s' l ml pZ true):=λs' ml pZ h1 h2 h3=>by
    refine go hz hX kK Tryz.func125 (adw s' l ml pZ true) ⟨λh=>(by cases h),λ_=>ih s' ml pZ h1 h2 h3⟩
   have hr:=λhB=>lq (s:=s) hB;refine⟨rfl,rfl,λhl=>⟨λhB=>⟨rfl,rfl,by omega, ?_⟩,λhB=> ?_⟩,λhl=>⟨λhB=>⟨rfl,rfl,by decide,λh2=> ?_,λh2=> ?_⟩,λhB=> ?_⟩⟩;subst hl;have hr:=hr hB;cases h2:yI (iT s);exact bad (by rw[jl,if_neg h,if_neg (by simp[hB]),if_pos rfl,if_neg (by simp[h2])]) _ _ _;have:=lq h2;exact cont _ _ _ (by omega) (by simp only[length_append,length_cons,length_nil];omega) (by rw[<-hy,jl,if_neg h,if_neg (by simp[hB]),if_pos rfl,if_pos h2]);exact⟨λh=>(by rw[hB]at h;cases h),λ_=>by rw[hB];exact bad (by rw[jl,if_neg h,if_pos hB]) _ _ _⟩;subst hl;have hr:=hr hB;have e1:=xr (by decide) h2;have e2:=adx (by decide) h2;have b0:=dm (lA 2 (iT s)) 0;have b1:=dm (lA 2 (iT s)) 1;refine⟨by decide,by omega,⟨by show _<=aN _ 0;omega,by show aN _ 0<=_;omega⟩,by decide,by decide,by omega,⟨by show _<=aN _ 1;omega,by show aN _ 1<=_;omega⟩,by omega, ?_⟩;rw[h2];exact cont _ _ _ (by omega) (by simp only[length_append,length_cons,length_nil];omega) (by rw[<-hy,jl,if_neg h,if_neg (by simp[hB]),if_neg (by simp),if_pos h2];rfl);subst hl;rw[h2];exact bad (by rw[jl,if_neg h,if_neg (by simp[hB]),if_neg (by simp),if_neg (by simp[h2])]) _ _ _;rw[hB];exact bad (by rw[jl,if_neg h,if_pos hB]) _ _ _;have h:s=empty:=by simpa using h
   refine⟨λh2=> ?_,λh2=> ?_⟩;refine bq ((false,[],[],()),4,()) ?_ (by kernel_rfl);rw[<-hy,jl,if_pos h,if_neg (by simpa using h2)];rfl;refine bq ((l,es,bs,()),0,()) ?_ (by kernel_rfl);rw[<-hy,jl,if_pos h,if_pos (by simpa using h2)];rfl
 have first:(s0.size:Int)<=254->s0≠empty->¬(aN s0 0≠1/\aN s0 0≠2)->Safe P 125 X (Ends [iP,bS] (uH s0)) (ahw s0):=λh1 h2 h3=>by
  have hp:0<s0.size:=Nat.pos_of_ne_zero λe=>h2 (mB e);refine go hz hX kK Tryz.func125 (al9 s0) ⟨by omega,by omega,by omega,by omega,by omega, ?_⟩;have e:pK s0=jl (aN s0 0==1) s0.size (s0.extract 1 s0.size) [] []:=by rw[pK,if_neg (by omega),if_neg h2,if_neg h3]
  refine loop (aN s0 0==1) s0.size (s0.extract 1 s0.size) [] [] (by rw[dZ];omega) (by rw[dZ];simp only[length_nil];omega) ?_;rw[<-e];rfl
 have err:∀(c:Int) (hc:decide (c=0)=false),pK s0=(c,[],[])->uH s0=((false,[],[],()),c,()):=λc hc e=>by
  show((decide ((pK s0).1=0)&&(aN s0 0==1),(pK s0).2.1,(pK s0).2.2,()),(pK s0).1,())=_;rw[e,hc];rfl
 refine go hz hX kK Tryz.func125 (ao4 s0) ⟨λh=>bq ((false,[],[],()),40,()) (err 40 rfl ?_) (by kernel_rfl),λh=>⟨λh2=>bq ((false,[],[],()),8,()) (err 8 rfl ?_) (by kernel_rfl),λh2=> ?_⟩⟩;rw[pK,if_pos (of_decide_eq_true h)];rw[pK,if_neg (of_decide_eq_false h),if_pos (of_decide_eq_true h2)];have h:=of_decide_eq_false h;have h2:=of_decide_eq_false h2;have hp:0<s0.size:=Nat.pos_of_ne_zero λe=>h2 (mB e);refine⟨by omega,by omega,λh3=>⟨by omega,by omega,λh4=>bq ((false,[],[],()),4,()) (err 4 rfl ?_) (by kernel_rfl),λh4=>first (by omega) h2 ?_⟩,λh3=>first (by omega) h2 ?_⟩;have h3:aN s0 0≠1:=by simpa using h3
 have h4:aN s0 0≠2:=by simpa using h4
 rw[pK,if_neg h,if_neg h2,if_pos ⟨h3,h4⟩];have h4:aN s0 0=2:=by simpa using h4
 exact λe=>e.2 h4;have h3:aN s0 0=1:=by simpa using h3
 exact λe=>e.1 h3
end Lf
namespace Go.Sx
open Go
inductive Wk1:AV->AV->Prop
 |refl (a:AV):Wk1 a a
 |bl (b:Bool):Wk1 (.s (.aT b)) (.s (.bool b))
 |il (k:IntKind) (n:Int):Wk1 (.s (.aZ k n)) (.s (.int k n))
 |em (c:a8):c.n=0->Wk1 .emp (.s (.ro c))
inductive WkL:List AV->List AV->Prop
 |nil:WkL [] []
 |cons {a b:AV} {l m:List AV}:Wk1 a b->WkL l m->WkL (a::l) (b::m)
inductive Wk2:AV->AV->Prop
 |one {a b:AV}:Wk1 a b->Wk2 a b
 |agg {l m:List AV}:WkL l m->Wk2 (.agg l) (.agg m)
inductive p6:List AV->List AV->Prop
 |nil:p6 [] []
 |cons {a b:AV} {l m:List AV}:Wk2 a b->p6 l m->p6 (a::l) (b::m)
inductive Wk:AV->AV->Prop
 |two {a b:AV}:Wk2 a b->Wk a b
 |bD {l m:List AV}:p6 l m->Wk (.bD l) (.bD m)
section
variable{ρ:Nat->Value}{H:aV}{O:Nat->Prop}{w:World}
theorem Wk1.den{a b:AV}(h:Wk1 a b){v:Value}(hd:ak ρ H O w a v):ak ρ H O w b v:=by
 cases h with
 |refl=>exact hd
 |bl b=>
  have:=aC (by simp) hd;cases this;exact aJ (.bool _)
 |il k n=>
  have:=aC (by simp) hd;cases this;exact aJ (.int _ _)
 |em c hc=>
  unfold ak at hd;obtain⟨a,rfl⟩:=hd;exact aJ (rH hc a)
theorem Wk1.afq{a b:AV}(h:Wk1 a b){cs:List Value}(hd:aU ρ H O w a cs):aU ρ H O w b cs:=by
 cases h with
 |refl=>exact hd
 |bl b=>
  unfold aU at hd ⊢;obtain⟨u,rfl,h⟩:=hd;cases h;exact⟨_,rfl,.bool _⟩
 |il k n=>
  unfold aU at hd ⊢;obtain⟨u,rfl,h⟩:=hd;cases h;exact⟨_,rfl,.int _ _⟩
 |em c hc=>
  unfold aU at hd ⊢;obtain⟨u,rfl,a,rfl⟩:=hd;exact⟨_,rfl,rH hc a⟩
theorem WkL.den{l m:List AV}(h:WkL l m):∀{cs:List Value},aE ρ H O w l cs->aE ρ H O w m cs:=by
 induction h with
 |nil=>exact λhd=>hd
 |cons h1 _ ih=>
  intro cs hd;unfold aE at hd ⊢;have⟨c1,c2,e,g1,g2⟩:=hd;exact⟨c1,c2,e,h1.afq g1,ih g2⟩
theorem Wk2.den{a b:AV}(h:Wk2 a b){v:Value}(hd:ak ρ H O w a v):ak ρ H O w b v:=by
 cases h with
 |one h=>exact h.den hd
 |agg h=>
  unfold ak at hd ⊢;have⟨cs,e,g⟩:=hd;exact⟨cs,e,h.den g⟩
theorem p6.den{l m:List AV}(h:p6 l m):∀{vs:List Value},bV ρ H O w l vs->bV ρ H O w m vs:=by
 induction h with
 |nil=>exact λhd=>hd
 |cons h1 _ ih=>
  intro vs hd;have⟨v,rest,e,g1,g2⟩:=aI.1 hd;exact aI.2 ⟨v,rest,e,h1.den g1,ih g2⟩
theorem Wk.den{a b:AV}(h:Wk a b){v:Value}(hd:ak ρ H O w a v):ak ρ H O w b v:=by
 cases h with
 |two h=>exact h.den hd
 |bD h=>
  unfold ak at hd ⊢;have⟨us,e,g⟩:=hd;exact⟨us,e,h.den g⟩
end
theorem atZ{X:Type}{S:Spec X}{x:X}{L:List au}{r:AV}{o o':AV}{h:List au}(m:Nat)(e:Norm.run ⟨[],[0],m,[]⟩ ⟨[r],L,[],{}⟩=some ⟨[o],h,[],{}⟩)(hm:(S.heap x).length<=m)(hw:Wk o o')(ho:S.out x=o')(hh:S.eG x=h):ajp S x L r:=
 ⟨⟨[],[0],m,[]⟩,o,hm,by rw[hh];exact e,λρ H O w v hd=>by rw[ho];exact hw.den hd⟩
end Go.Sx
namespace Ts
open Go Go.Sx Go.Proofs Lf
noncomputable abbrev P:Program:=Tryz.prog
abbrev eT:TypeId:=115
abbrev fm(i:Nat)(aa:Int)(fr fs gn:Ws):au:=.ay [.an i 0,.s (.int .i64 aa),.aw .u64 16 fr,.aw .u64 16 fs,.aw .u64 16 gn] eT
abbrev hT(th:Th)(m:As)(fu aa:Int)(fr fs gn:Ws):List au:=[fm 1 aa fr fs gn,Ds.jw 2 3 fu,.aq (.az Ds.cS th) Ds.eS,.map Ds.kS m]
abbrev bQ(n:Int):AV:=.s (.int .i64 n)
abbrev awd:=cC Ds.sGR Ds.mRd
abbrev awe:=cC Ds.sGW Ds.mWr
abbrev at0:=wQ [fc] [iP,bS] (λ_=>[]) (λ(s,())=>((kf s,oN s,nD s,()),tF s,()))
def arG:aR:=[(124,awd),(125,at0)]
abbrev XT:Type:=Th×As×Int×Int×Ws×Ws×Ws
abbrev sNo:Spec (XT×Int×Int):=⟨λ(_,n,ae)=>[.an 0 0,bQ n,bQ ae],λ((th,m,fu,aa,fr,fs,gn),_,_)=>hT th m fu aa fr fs gn,λ((th,m,fu,_),n,_)=>[Ds.bz th m fu,aG n],λ((th,m,fu,aa,fr,fs,gn),_,_)=>hT th m fu aa fr fs gn,
 λ((th,m,_),n,ae)=>.bD [.agg [.s (.bool (lB th m n ae)),.s (.ro (.az cE (cv th m n ae))),.s (.ro (.az cB (bh th m n ae)))],bQ (gF th m n ae)]⟩
theorem ayb(th:Th)(m:As)(fu aa:Int)(fr fs gn:Ws)(n ae:Int):run P arG.sum Tryz.f77 [] (start Tryz.f77 [.an 0 0,bQ n,bQ ae] (hT th m fu aa fr fs gn))=
 Tree.ite (decide (ae>16)) (.ret (hT th m fu aa fr fs gn++[.ay [.s (.aT false),.emp,.emp] 131]) (.bD [.agg [.s (.aT false),.emp,.emp],.s (.aZ .i64 4)])) (.ab (bx (some [AV.an 0 0,.s (.int .i64 n)])) (.ab (bx (some (Ds.hD th m fu))) (.ab (Ds.bz th m fu) (.ab (aG n) (.ite (Ds.gS th m n !=0) (.ret (hT th m fu aa fr fs gn++[.ay [.s (.aT false),.emp,.emp] 131]) (.bD [.agg [.s (.aT false),.emp,.emp],.s (.int .i64 (Ds.gS th m n))])) (.ret (hT th m fu aa fr fs gn++[.ay [.s (.bool (kf (Ds.fR th m n))),.s (.ro (.az [.ag,.ag] (oN (Ds.fR th m n)))),.s (.ro (.az [.ag,.int .i64] (nD (Ds.fR th m n))))] 131]) (.bD [.agg [.s (.bool (kf (Ds.fR th m n))),.s (.ro (.az [.ag,.ag] (oN (Ds.fR th m n)))),.s (.ro (.az [.ag,.int .i64] (nD (Ds.fR th m n))))],.s (.int .i64 (tF (Ds.fR th m n)))]))))))):=by kernel_rfl
theorem amC{Z:bB}:arG.Ok P Z:=aR.Ok.cons (Ds.avG.sum Ds.mRd) (aR.Ok.cons apM.wQ aR.Ok.nil)
theorem af2{l l':AV}{es bs ml pZ:AV}{e e':AV}(h1:Wk1 l l')(h2:Wk1 es ml)(h3:Wk1 bs pZ)(h4:Wk1 e e'):Wk (.bD [.agg [l,es,bs],e]) (.bD [.agg [l',ml,pZ],e']):=
 .bD (.cons (.agg (.cons h1 (.cons h2 (.cons h3 .nil)))) (.cons (.one h4) .nil))
theorem pA{Z:bB}:gE P Z 77 sNo:=by
 refine rP Tryz.func77 (by kernel_rfl) (λx=>le_of_ble_eq_true (by kernel_rfl)) ?_;rintro⟨⟨(th:Th),(m:As),(fu:Int),(aa:Int),(fr:Ws),(fs:Ws),(gn:Ws)⟩,(n:Int),(ae:Int)⟩ ⟨(hd:Ds.bz th m fu),(hn:aG n),_⟩ X hX hz;refine Ds.dk hz hX (by intro y hy;cases hy) amC Tryz.func77 (ayb th m fu aa fr fs gn n ae) ⟨λh=> ?_,λh=>⟨rfl,rfl,hd,hn,λh2=> ?_,λh2=> ?_⟩⟩;have h:=of_decide_eq_true h;have e0:tM th m n ae=false:=by unfold tM;rw[decide_eq_false (by omega),Bool.false_and]
 refine atZ 4 (by kernel_rfl) (le_refl _) (af2 (.refl (.s (.bool false))) (.em (.az cE []) rfl) (.em (.az cB []) rfl) (.refl (.s (.int .i64 4)))) ?_ rfl;show AV.bD [.agg [.s (.bool (lB th m n ae)),.s (.ro (.az cE (cv th m n ae))),.s (.ro (.az cB (bh th m n ae)))],bQ (gF th m n ae)]=_;unfold lB cv bh gF;rw[e0,if_pos h];rfl;have h:=of_decide_eq_false h;have h2:Ds.gS th m n≠0:=by simpa using h2
 have e0:tM th m n ae=false:=by unfold tM;rw[decide_eq_false h2,Bool.and_false]
 refine atZ 4 (by kernel_rfl) (le_refl _) (af2 (.refl (.s (.bool false))) (.em (.az cE []) rfl) (.em (.az cB []) rfl) (.refl (bQ (Ds.gS th m n)))) ?_ rfl;show AV.bD [.agg [.s (.bool (lB th m n ae)),.s (.ro (.az cE (cv th m n ae))),.s (.ro (.az cB (bh th m n ae)))],bQ (gF th m n ae)]=_;unfold lB cv bh gF;rw[e0,if_neg h,if_neg h2];rfl;have h:=of_decide_eq_false h;have h2:Ds.gS th m n=0:=by simpa using h2
 have e0:tM th m n ae=true:=by unfold tM;rw[decide_eq_true h2,decide_eq_true (by omega)];rfl
 refine atZ 4 (by kernel_rfl) (le_refl _) (af2 (.refl (.s (.bool (kf (Ds.fR th m n))))) (.refl (.s (.ro (.az cE (oN (Ds.fR th m n)))))) (.refl (.s (.ro (.az cB (nD (Ds.fR th m n)))))) (.refl (bQ (tF (Ds.fR th m n))))) ?_ rfl;show AV.bD [.agg [.s (.bool (lB th m n ae)),.s (.ro (.az cE (cv th m n ae))),.s (.ro (.az cB (bh th m n ae)))],bQ (gF th m n ae)]=_;unfold lB cv bh gF;rw[e0,if_neg h,if_pos h2];rfl
abbrev at1:=cU [Bx.eU,Bx.bS] [Bx.dg] (λ_=>[]) (λ(ws,n,())=>(Bx.mL ws n,()))
abbrev adO:=cU [Bx.eU,Bx.bS] [Bx.eU] (λ_=>[]) (λ(ws,n,())=>(Bx.dz ws n,()))
abbrev arH:=cU [Bx.eU,Bx.bS] [Bx.eU] (λ_=>[]) (λ(ws,n,())=>(Bx.dA ws n,()))
def arI:aR:=[(133,at1),(67,adO),(179,arH)]
abbrev sLv:Spec (XT×Int):=⟨λ(_,n)=>[.an 0 0,bQ n],λ((th,m,fu,aa,fr,fs,gn),_)=>hT th m fu aa fr fs gn,λ_=>[],λ((th,m,fu,aa,fr,fs,gn),n)=>hT th m fu aa fr (jW fs n) (qE fs gn n),λ_=>.bD []⟩
theorem ayc(th:Th)(m:As)(fu aa:Int)(fr fs gn:Ws)(n:Int):run P arI.sum Tryz.f149 [] (start Tryz.f149 [.an 0 0,bQ n] (hT th m fu aa fr fs gn))=
 Tree.ite (Bx.mL fs n) (.ret (hT th m fu aa fr (Bx.dA fs n) (Bx.dz gn n)) (.bD [])) (.ret (hT th m fu aa fr fs gn) (.bD [])):=by kernel_rfl
theorem amD{Z:bB}:arI.Ok P Z:=aR.Ok.cons Bx.afX.sum (aR.Ok.cons Bx.rX.sum (aR.Ok.cons Bx.xy.sum aR.Ok.nil))
theorem xH{Z:bB}:gE P Z 149 sLv:=by
 refine aK Tryz.func149 (by kernel_rfl) (λx=>le_of_ble_eq_true (by kernel_rfl)) ?_;rintro⟨⟨(th:Th),(m:As),(fu:Int),(aa:Int),(fr:Ws),(fs:Ws),(gn:Ws)⟩,(n:Int)⟩ _ X hX hz;refine Ds.dk hz hX (by intro y hy;cases hy) amD Tryz.func149 (ayc th m fu aa fr fs gn n) ⟨λh=> ?_,λh=> ?_⟩;have e1:jW fs n=Bx.dA fs n:=if_pos h;have e2:qE fs gn n=Bx.dz gn n:=if_pos h;exact bN (h:=hT th m fu aa fr (Bx.dA fs n) (Bx.dz gn n)) 4 rfl (le_refl _) rfl (by show hT th m fu aa fr (jW fs n) (qE fs gn n)=_;rw[e1,e2]);have e1:jW fs n=fs:=if_neg (by rw[h];simp);have e2:qE fs gn n=gn:=if_neg (by rw[h];simp);exact bN (h:=hT th m fu aa fr fs gn) 4 rfl (le_refl _) rfl (by show hT th m fu aa fr (jW fs n) (qE fs gn n)=_;rw[e1,e2])
abbrev azB:=cU [fE] [fc] (λ((l,es,bs,()),())=>[((l:Bool)=true->0<(es:List En).length)/\(l=false->0<(bs:List Br).length)]) (λ((l,es,bs,()),())=>(dD l es bs,()))
theorem ayd(l:Bool)(es:List En)(bs:List Br):run P (aR.sum []) Tryz.f176 [] (start Tryz.f176 [avN l es bs] [])=
 Tree.ite l (.ab ((0:Int)<=0) (.ab ((0:Int)<(↑es.length:Int)) (.ret [.ay [.s (.bool l),.s (.ro (.az [.ag,.ag] es)),.s (.ro (.az [.ag,.int .i64] bs))] 131] (.s (.ag (es.getD 0 (CL.d [.ag,.ag])).fst))))) (.ab ((0:Int)<=0) (.ab ((0:Int)<(↑bs.length:Int)) (.ret [.ay [.s (.bool l),.s (.ro (.az [.ag,.ag] es)),.s (.ro (.az [.ag,.int .i64] bs))] 131] (.s (.ag (bs.getD 0 (CL.d [.ag,.int .i64])).fst))))):=by kernel_rfl
theorem amE{Z:bB}:dO P Z 176 [fE] [fc] (λ((l,es,bs,()),())=>[((l:Bool)=true->0<(es:List En).length)/\(l=false->0<(bs:List Br).length)]) (λ((l,es,bs,()),())=>(dD l es bs,())):=by
 refine aM Tryz.func176 (by kernel_rfl) (by kernel_rfl) ?_;rintro⟨⟨(l:Bool),(es:List En),(bs:List Br),⟨⟩⟩,⟨⟩⟩ _ ⟨⟨h1,h2⟩,_⟩ X hX hz;refine Lf.go hz hX aR.Ok.nil Tryz.func176 (ayd l es bs) ⟨λh=>⟨by omega,Int.ofNat_lt.2 (h1 h), ?_⟩,λh=>⟨by omega,Int.ofNat_lt.2 (h2 h), ?_⟩⟩;show Ends [fc] (dD l es bs,()) _ _;unfold dD;rw[if_pos h];exact alk;show Ends [fc] (dD l es bs,()) _ _;unfold dD;rw[if_neg (by rw[h];simp)];exact alk
abbrev yL:List CK:=[.rows cB]
abbrev eBs:TypeId:=129
abbrev Rows:Type:=List (List Br×Unit)
abbrev awf:Ty:=.b (.row (.az yL) eBs)
abbrev rwB(x:CL yL):List Br:=x.1
def nsJ:List (Nat×Norm):=[(3,⟨[(3,.az cB [],eB)],[3,6,7,8],0,[]⟩)]
noncomputable def cJ(ls:List (CL yL))(acc:List Br)(i:Int):cn:=⟨sl 17 [(3,.aq 0),(6,.s (.ro (.az yL ls))),(7,bQ (ls.length:Int)),(8,bQ i)],[.aq (.az cB acc) eB],hd Tryz.f174 3,{}⟩
def cQ(ls:List (CL yL)):List Br:=ls.flatMap λx=>rwB x
abbrev sJ:=cU [awf] [yG] (λ(ls,())=>[(ls:List (CL yL)).length<=100,(cQ ls).length<=100000]) (λ(ls,())=>(cQ ls,()))
def arJ:aR:=[(174,sJ)]
theorem trJ(ls:List (CL yL)):run P (aR.sum []) Tryz.f174 nsJ (start Tryz.f174 [.s (.ro (.az yL ls))] [])=
 Tree.at (.mk (sl 17 [(3,.aq 0),(6,.s (.ro (.az yL ls))),(7,.s (.int .i64 (↑ls.length:Int))),(8,.s (.int .i64 0))]) [.aq (.az [.ag,.int .i64] []) 137] (hd Tryz.f174 3) (.mk none false 0 [] 0)):=by kernel_rfl
theorem arK(ls:List (CL yL))(acc:List Br)(i:Int):run P (aR.sum []) Tryz.f174 nsJ (cJ ls acc i)=
 Tree.ite (decide (i<(↑ls.length:Int))) (.ab ((0:Int)<=i) (.ab (i<(↑ls.length:Int)) (.ab ((acc.length+(rwB (el ls i)).length)*(24:Nat)<=140737488355328) (.ab (aG (i+1)) (.at (.mk (sl 17 [(3,.aq 0),(6,.s (.ro (.az yL ls))),(7,.s (.int .i64 (↑ls.length:Int))),(8,.s (.int .i64 (i+1)))]) [.aq (.az [.ag,.int .i64] (acc++rwB (el ls i))) 137] (hd Tryz.f174 3) (.mk none false 0 [] 0))))))) (.ret [.aq (.az [.ag,.int .i64] acc) 137] (.aq 0)):=by kernel_rfl
theorem aye(l:Bool)(es:List En)(bs:List Br):run P arJ.sum Tryz.f145 [] (start Tryz.f145 [avN l es bs] [])=
 Tree.ite (decide ((↑bs.length:Int)>0)) (.ab ((0:Int)<=0) (.ab ((0:Int)<(↑bs.length:Int)) (.ab ((0:Int)<=1) (.ab ((1:Int)<=(↑bs.length:Int)) (.ab ((↑bs.length:Int)<=(↑bs.length:Int)) (.ab ([([(empty,(bs.getD 0 (CL.d [.ag,.int .i64])).snd.fst,())],()),(List.drop (Int.toNat 1) (List.take (↑bs.length:Int).toNat bs),())].length<=100) (.ab ((cQ [([(empty,(bs.getD 0 (CL.d [.ag,.int .i64])).snd.fst,())],()),(List.drop (Int.toNat 1) (List.take (↑bs.length:Int).toNat bs),())]).length<=100000) (.ret [.ay [.s (.bool l),.s (.ro (.az [.ag,.ag] es)),.aq 4] 131,.ay [.s (.bool l),.s (.ro (.az [.ag,.ag] es)),.aq 4] 131,.aB,.aq (.az yL [([(empty,(bs.getD 0 (CL.d [.ag,.int .i64])).snd.fst,())],()),(List.drop (Int.toNat 1) (List.take (↑bs.length:Int).toNat bs),())]) 129,.aq (.az [.ag,.int .i64] (cQ [([(empty,(bs.getD 0 (CL.d [.ag,.int .i64])).snd.fst,())],()),(List.drop (Int.toNat 1) (List.take (↑bs.length:Int).toNat bs),())])) 137] (.agg [.s (.bool l),.s (.ro (.az [.ag,.ag] es)),.aq 4]))))))))) (.ret [.ay [.s (.bool l),.s (.ro (.az [.ag,.ag] es)),.s (.ro (.az [.ag,.int .i64] bs))] 131,.ay [.s (.bool l),.s (.ro (.az [.ag,.ag] es)),.s (.ro (.az [.ag,.int .i64] bs))] 131] (.agg [.s (.bool l),.s (.ro (.az [.ag,.ag] es)),.s (.ro (.az [.ag,.int .i64] bs))])):=by kernel_rfl
theorem af3{ls:List (CL yL)}(k:Nat)(h:k<ls.length):cQ (ls.take (k+1))=cQ (ls.take k)++rwB (ls.getD k (CL.d yL)):=by
 rw[<-ik (d:=CL.d yL) h];simp[cQ]
theorem amF{ls:List (CL yL)}(k:Nat):(cQ (ls.take k)).length<=(cQ ls).length:=by
 have e:cQ ls=cQ (ls.take k)++cQ (ls.drop k):=by
  unfold cQ;exact(congrArg (List.flatMap λx=>rwB x) (List.take_append_drop k ls).symm).trans List.flatMap_append
 rw[e,length_append];omega
theorem tN{Z:bB}:dO P Z 174 [awf] [yG] (λ(ls,())=>[(ls:List (CL yL)).length<=100,(cQ ls).length<=100000]) (λ(ls,())=>(cQ ls,())):=by
 refine aM Tryz.func174 (by kernel_rfl) (by kernel_rfl) ?_;rintro⟨(ls:List (CL yL)),⟨⟩⟩ _ ⟨(hl:ls.length<=100),(hj:(cQ ls).length<=100000),_⟩ X hX hz
 have first:∀(n k:Nat),k+n=ls.length->Safe P 174 X (Ends [yG] (cQ ls,())) (cJ ls (cQ (ls.take k)) (k:Int)):=by
  intro n
  induction n with
  |zero=>
   intro k hk;refine Lf.go hz hX aR.Ok.nil Tryz.func174 (arK ls _ k) ⟨λh=>absurd (of_decide_eq_true h) (by omega),λh=> ?_⟩;rw[take_of_length_le (by omega)];exact bq (cQ ls,()) rfl (by kernel_rfl)
  |succ n ih=>
   intro k hk;have e:=af3 (ls:=ls) k (by omega);have l1:=amF (ls:=ls) (k+1);rw[e,length_append]at l1;refine Lf.go hz hX aR.Ok.nil Tryz.func174 (arK ls _ k) ⟨λh=>⟨by omega,by omega, ?_,⟨by omega,by omega⟩, ?_⟩,λh=>absurd (of_decide_eq_false h) (by omega)⟩;show((cQ (ls.take k)).length+(rwB (ls.getD k (CL.d yL))).length)*24<=140737488355328;omega;have:=ih (k+1) (by omega);rw[e]at this;exact this
 exact Lf.go hz hX aR.Ok.nil Tryz.func174 (trJ ls) (first ls.length 0 (by omega))
theorem amG{Z:bB}:arJ.Ok P Z:=aR.Ok.cons tN.sum aR.Ok.nil
theorem ahL{Z:bB}:dO P Z 145 [fE] [iP] (λ((_,_,bs,()),())=>[(bs:List Br).length<=1000]) (λ((l,es,bs,()),())=>((l,es,af bs,()),())):=by
 refine aM Tryz.func145 (by kernel_rfl) (by kernel_rfl) ?_;rintro⟨⟨(l:Bool),(es:List En),(bs:List Br),⟨⟩⟩,⟨⟩⟩ _ ⟨(hl:bs.length<=1000),_⟩ X hX hz;show Safe P 145 X (Ends [iP] ((l,es,af bs,()),())) _;refine Lf.go hz hX amG Tryz.func145 (aye l es bs) ⟨λh=> ?_,λh=> ?_⟩;have h:=of_decide_eq_true h
 obtain⟨b,r,rfl⟩:∃b r,bs=b::r:=by
  cases bs with
  |nil=>simp at h
  |cons b r=>exact⟨b,r,rfl⟩
 simp only[length_cons]at h hl
 have e:cQ [([(empty,((b::r).getD (0:Nat) (CL.d [CK.ag,CK.int IntKind.i64])).snd.fst,())],()),(List.drop (Int.toNat (1:Int)) (List.take (↑(b::r).length:Int).toNat (b::r)),())]=af (b::r):=by
  show [(empty,b.2.1,())]++(List.drop 1 (List.take (r.length+1) (b::r))++[])=(empty,b.2.1,())::r;rw[take_of_length_le (by simp)];simp
 refine⟨by omega,by simp only[length_cons];omega,by omega,by simp only[length_cons];omega,by simp only[length_cons];omega,by show 2<=100;decide, ?_, ?_⟩;refine le_trans (Nat.le_of_eq (congrArg List.length e)) ?_;show r.length+1<=100000;omega;exact bq (rs:=[iP]) ((l,es,cQ [([(empty,((b::r).getD (0:Nat) (CL.d [CK.ag,CK.int IntKind.i64])).snd.fst,())],()),(List.drop (Int.toNat (1:Int)) (List.take (↑(b::r).length:Int).toNat (b::r)),())],()),()) (by rw[e]) (by kernel_rfl);have h:=of_decide_eq_false h;obtain rfl:bs=[]:=List.eq_nil_of_length_eq_zero (by omega);exact bq (rs:=[iP]) ((l,es,[],()),()) rfl (by kernel_rfl)
end Ts
namespace Lf
open Go Go.Sx Go.Proofs
theorem pB{es:List En}{k:Nat}:okE es k=true↔(1<=(es.getD k dE).1.size/\(es.getD k dE).1.size<=24/\(es.getD k dE).2.1.size<=100/\(0<k->slt (es.getD (k - 1) dE).1 (es.getD k dE).1=true)):=by
 simp only[okE,not_eq_true',Bool.or_eq_false_iff,Bool.and_eq_false_iff,decide_eq_false_iff_not,Bool.not_eq_false'];constructor;rintro⟨⟨⟨h1,h2⟩,h3⟩,h4⟩;exact⟨Nat.pos_of_ne_zero λe=>h1 (mB e),by omega,by omega,λh=>h4.resolve_left (λg=>g h)⟩;rintro⟨h1,h2,h3,h4⟩;exact⟨⟨⟨λe=>(by rw[e]at h1;simp at h1),by omega⟩,by omega⟩,(Decidable.em (0<k)).elim (λh=>.inr (h4 h)) .inl⟩
theorem r8{bs:List Br}{k:Nat}:okB bs k=true↔((bs.getD k dB).1.size<=24/\2<=(bs.getD k dB).2.1/\(bs.getD k dB).2.1<=1023/\(0<k->slt (bs.getD (k - 1) dB).1 (bs.getD k dB).1=true)):=by
 simp only[okB,not_eq_true',Bool.or_eq_false_iff,Bool.and_eq_false_iff,decide_eq_false_iff_not,Bool.not_eq_false'];constructor;rintro⟨⟨⟨h1,h2⟩,h3⟩,h4⟩;exact⟨by omega,by omega,by omega,λh=>h4.resolve_left (λg=>g h)⟩;rintro⟨h1,h2,h3,h4⟩;exact⟨⟨⟨by omega,by omega⟩,by omega⟩,(Decidable.em (0<k)).elim (λh=>.inr (h4 h)) .inl⟩
theorem ajK(l:Bool)(es:List En)(bs:List Br):ama l es bs l es bs=true:=by simp[ama,avO,avP]
theorem r9{l:Bool}{es:List En}{bs:List Br}(h:dM l es bs=true):jk (cg es)/\jk (nw bs):=by
 simp only[dM,and_eq_true]at h;exact⟨avL h.1.2,atk h.2⟩
theorem at2{l:List En}{ad val:ByteArray}(h:l.length<=200):(bX l ad val).length<=201:=by rw[abC];split<;>omega
theorem nn{α:Type}{l:List α}{k i:Nat}{d:α}(h:i<k):(l.take k).getD i d=l.getD i d:=by simp[List.getD,getElem?_take,h]
theorem lu{α:Type}{l:List α}{k i:Nat}{d:α}:(l.drop k).getD i d=l.getD (k+i) d:=by simp[List.getD,List.getElem?_drop]
theorem z6{es:List En}(h:kB es=true)(k:Nat):kB (es.take k)=true:=dC.2 λi hi=>by
 rw[length_take]at hi;have:=pB.1 (dC.1 h i (by omega));rw[pB,nn (by omega),nn (by omega)];exact this
theorem z7{es:List Br}(h:iq es=true)(k:Nat):iq (es.take k)=true:=dC.2 λi hi=>by
 rw[length_take]at hi;have:=r8.1 (dC.1 h i (by omega));rw[r8,nn (by omega),nn (by omega)];exact this
theorem z8{es:List En}(h:kB es=true)(k:Nat):kB (es.drop k)=true:=dC.2 λi hi=>by
 rw[length_drop]at hi;have⟨h1,h2,h3,h4⟩:=pB.1 (dC.1 h (k+i) (by omega));rw[pB,lu,lu];exact⟨h1,h2,h3,λh0=>by have:=h4 (by omega);rw[show k+i - 1=k+(i - 1)from by omega]at this;exact this⟩
theorem aaa{es:List Br}(h:iq es=true)(k:Nat):iq (es.drop k)=true:=dC.2 λi hi=>by
 rw[length_drop]at hi;have⟨h1,h2,h3,h4⟩:=r8.1 (dC.1 h (k+i) (by omega));rw[r8,lu,lu];exact⟨h1,h2,h3,λh0=>by have:=h4 (by omega);rw[show k+i - 1=k+(i - 1)from by omega]at this;exact this⟩
theorem vw{l:Bool}{es:List En}{bs:List Br}(m1:l=true->bs=[])(m2:l=false->es=[])(m3:kB es=true)(m4:iq bs=true):dM l es bs=true:=by
 simp only[dM,m3,m4,Bool.and_true];cases l;rw[m2 rfl];rfl;rw[m1 rfl];rfl
theorem adP{l:Bool}{es:List En}{bs:List Br}(h:dM l es bs=true)(k:Nat):dM l (es.take k) (bs.take k)=true:=by
 have⟨m1,m2,m3,m4⟩:=eJ h;exact vw (λe=>by rw[m1 e,List.take_nil]) (λe=>by rw[m2 e,List.take_nil]) (z6 m3 k) (z7 m4 k)
theorem adQ{l:Bool}{es:List En}{bs:List Br}(h:dM l es bs=true)(k:Nat):dM l (es.drop k) (bs.drop k)=true:=by
 have⟨m1,m2,m3,m4⟩:=eJ h;exact vw (λe=>by rw[m1 e,List.drop_nil]) (λe=>by rw[m2 e,List.drop_nil]) (z8 m3 k) (aaa m4 k)
theorem vz:∀{l:List Int} {m:Int},(∀x∈l,m<=x)->m*l.length<=l.sum
 |[],m,_=>by simp
 |a::r,m,h=>by
  have h1:=vz (l:=r) (m:=m) λx hx=>h x (mem_cons_of_mem _ hx);have h2:=h a mem_cons_self;rw[sum_cons,length_cons];have:m*((r.length+1:Nat):Int)=m*(r.length:Int)+m:=by rw[Int.natCast_add,Int.mul_add];simp
  omega
theorem apN(es:List En)(bs:List Br):∀x∈aX es bs,2<=x:=λx hx=>by
 simp only[aX,mem_append,mem_map]at hx;rcases hx with⟨e,_,rfl⟩|⟨b,_,rfl⟩;simp only[qU];omega;simp only[qC];omega
theorem amH{zs:List Int}(h:∀x∈zs,2<=x){k:Nat}(h1:0<k)(h2:k<zs.length):2<=(zs.take k).sum/\(zs.take k).sum+2<=zs.sum:=by
 have a1:=vz (l:=zs.take k) (m:=2) λx hx=>h x (List.mem_of_mem_take hx);have a2:=vz (l:=zs.drop k) (m:=2) λx hx=>h x (List.mem_of_mem_drop hx);rw[adG]at a2;rw[length_take]at a1;rw[length_drop]at a2;omega
theorem xI(zs:List Int):∀k,0<k->(iK zs k).2=kg zs (iK zs k).1
 |0,h=>absurd h (by omega)
 |k+1,_=>by
  rw[iK];split;rfl;rename_i h;have hk:0<k:=Nat.pos_of_ne_zero λe=>h (.inl (by rw[e];rfl));exact xI zs k hk
theorem sc(zs:List Int):∀k j,0<j->j<=k->(iK zs k).2<=kg zs j
 |0,j,h,h2=>absurd h (by omega)
 |k+1,j,h,h2=>by
  rw[iK];split;rename_i hc;by_cases e:j=k+1;rw[e];exact Int.le_refl _;have:=sc zs k j h (by omega);rcases hc with hc|hc;have:=oP zs k (by omega);omega;show kg zs (k+1)<=_;omega;rename_i hc;by_cases e:j=k+1;rw[e];have:¬kg zs (k+1)<(iK zs k).2:=λh=>hc (.inr h);omega;exact sc zs k j h (by omega)
theorem qF{p:Nat->Int}{c:Int}:∀n:Nat,p 0<c->c<=p n->∃k,k<n/\p k<c/\c<=p (k+1)
 |0,h1,h2=>absurd h2 (by omega)
 |n+1,h1,h2=>by
  by_cases h:c<=p n;have⟨k,a,b,d⟩:=qF n h1 h;exact⟨k,by omega,b,d⟩;exact⟨n,by omega,by omega,h2⟩
theorem ajL{zs:List Int}(h2:∀x∈zs,2<=x/\x<=126)(hs:253<zs.sum)(hs2:zs.sum<=379):2<=zs.length/\kg zs (iK zs (zs.length - 1)).1<=253:=by
 have hb:=(pw (l:=zs) (m:=126) (λx hx=>⟨by have:=(h2 x hx).1;omega,(h2 x hx).2⟩) (by omega)).2;have hl:2<=zs.length:=by omega
 refine⟨hl, ?_⟩;have⟨k,hk,k1,k2⟩:=qF (p:=λk=>(zs.take k).sum) (c:=zs.sum - 253) zs.length (by simp;omega) (by simp only[List.take_length];omega);have k1:(zs.take k).sum<zs.sum - 253:=k1;have k2:zs.sum - 253<=(zs.take (k+1)).sum:=k2;have k3:=jy hk;have k4:zs.getD k 0<=126:=by rw[bt hk];exact(h2 _ (getElem_mem _)).2
 have k5:k+1<zs.length:=by
  rcases lt_or_ge (k+1) zs.length with h|h;exact h;rw[take_of_length_le h]at k3;omega
 have m:=sc zs (zs.length - 1) (k+1) (by omega) (by omega);rw[xI _ _ (by omega)]at m;refine Int.le_trans m ?_;unfold kg imax;split<;>omega
theorem amI(l:List En)(ad val:ByteArray):((bX l ad val).map qU).sum<=(l.map qU).sum+qU (ad,val,()):=by
 have afZ:∀l:List En,0<=(l.map qU).sum:=λl=>by
  have:=vz (l:=l.map qU) (m:=0) λx hx=>by
   obtain⟨e,_,rfl⟩:=mem_map.1 hx;simp only[qU];omega
  omega
 have hd:∀(p q:Nat),p<=q->((l.drop q).map qU).sum<=((l.drop p).map qU).sum:=λp q h=>by
  have e:l.drop p=(l.drop p).take (q - p)++l.drop q:=by
   have:=List.take_append_drop (q - p) (l.drop p);rw[List.drop_drop,show p+(q - p)=q from by omega]at this;exact this.symm
  rw[e,map_append,List.sum_append];have:=afZ ((l.drop p).take (q - p));omega
 have h1:(l.map qU).sum=((l.take (de (cg l) ad)).map qU).sum+((l.drop (de (cg l) ad)).map qU).sum:=by
  rw[<-List.sum_append,<-map_append,List.take_append_drop]
 have h2:=hd (de (cg l) ad) (if ke (cg l) ad=true then de (cg l) ad+1 else de (cg l) ad) (by split<;>omega);rw[bX,map_append,List.sum_append,map_cons,sum_cons];omega
theorem apO(l:List En)(ad val:ByteArray):(ad,val,())∈bX l ad val:=by
 rw[bX];exact mem_append_right _ mem_cons_self
theorem tO{l:Bool}{es:List En}{bs:List Br}(h:eb l es bs=true)(he:bF es)(hb:bG bs):
 bF (bE l es bs)/\bG (bH l es bs)/\bF (dw l es bs)/\bG (dH l es bs)/\ama (cz l es bs) ([]++bE l es bs++dw l es bs) ([]++bH l es bs++dH l es bs) l es bs=true/\
 dM (cz l es bs) (bE l es bs) (bH l es bs)=true/\dM (cz l es bs) (dw l es bs) (dH l es bs)=true/\
 bI (bE l es bs) (bH l es bs)<bI es bs/\bI (dw l es bs) (dH l es bs)<bI es bs/\bI (bE l es bs) (bH l es bs)+bI (dw l es bs) (dH l es bs)=bI es bs+1/\
 imax (bI (bE l es bs) (bH l es bs)) (bI (dw l es bs) (dH l es bs))=1+kg (aX es bs) (eX es bs):=by
 have h':=h;simp only[eb,and_eq_true,decide_eq_true_eq]at h';have⟨hm,h2⟩:=h';have⟨m1,m2,_,_⟩:=eJ hm;have⟨_,_,_,_,c5,c6⟩:=ajy m1 m2 (eX es bs);have b1:=oP (aX es bs) (es.length+bs.length - 1) (by omega);have b2:=px (aX es bs) (es.length+bs.length - 1);have p:=amH (apN es bs) (k:=eX es bs) b1 (by rw[xv];rw[eX];omega);have cq:=oK es bs;simp only[bE,dw,bH,dH,cz,h,if_true,Bool.true_and];refine⟨adC he _,adD hb _,adE he _,adF hb _, ?_,adP hm _,adQ hm _,by omega,by omega,by omega, ?_⟩;rw[nil_append,nil_append,List.take_append_drop,List.take_append_drop];exact ajK _ _ _;rw[c5,c6,amf];rfl
theorem at3{l:Bool}{es:List En}{bs:List Br}(h:(spC l es bs==0)=true):eb l es bs=true:=by
 unfold spC at h;split at h;assumption;exact absurd h (by decide)
theorem af4{l:List En}{ad val:ByteArray}(h:l.length<=200)(hm:dM true (bX l ad val) []=true):bF (bX l ad val):=by
 have⟨_,_,m3,_⟩:=eJ hm;exact⟨le_trans (at2 h) (by omega),λx hx=>by have:=afR m3 hx;omega⟩
theorem ajM{es:List En}{ad val:ByteArray}(hl:es.length<=200)(hs:bI es []<=254)(hm:dM true (bX es ad val) []=true)(hn:¬bI (bX es ad val) []<=254):
 eb true (bX es ad val) []=true/\bI (bE true (bX es ad val) []) (bH true (bX es ad val) [])<=254/\bI (dw true (bX es ad val) []) (dH true (bX es ad val) [])<=254:=by
 have⟨_,_,m3,_⟩:=eJ hm;have e0:∀l:List En,aX l []=l.map qU:=λl=>by simp[aX]
 have e1:=oK es [];have e2:=oK (bX es ad val) [];rw[e0]at e1 e2;have k1:=amI es ad val;have k2:=afR m3 (apO es ad val);have k3:qU (ad,val,())<=126:=by simp only[qU];simp only[]at k2;omega
 have hz:∀x∈(bX es ad val).map qU,2<=x/\x<=126:=λx hx=>by
  obtain⟨y,hy,rfl⟩:=mem_map.1 hx;have:=afR m3 hy;simp only[qU];omega
 have⟨b1,b2⟩:=ajL hz (by omega) (by omega);rw[length_map]at b1 b2
 have ok:eb true (bX es ad val) []=true:=by
  simp only[eb,hm,Bool.true_and,decide_eq_true_eq,length_nil];omega
 have⟨_,_,_,_,_,_,_,_,_,_,f⟩:=tO ok (af4 hl hm) xw;rw[e0]at f;have f2:kg ((bX es ad val).map qU) (eX (bX es ad val) [])<=253:=by rw[eX,e0,length_nil,add_zero];exact b2
 unfold imax at f;refine⟨ok, ?_, ?_⟩<;>split at f<;>omega
end Lf
namespace Ds
open Go Go.Sx Go.Proofs Lf
theorem ahM{th:Th}{n:Int}{ws:List Int}(hp:vn th n=true)(hw:ws.length=256):∀(j k:Nat) (m:As) (f:Int),k+j=4->bz th m f->
 (((yC th n ws j k m f).2.2=0/\∀i:Nat,k<=i->i<4->dX th (yC th n ws j k m f).1 (n*4+(i:Int))=iI ws i)\/((yC th n ws j k m f).2.2=42/\(yC th n ws j k m f).2.1=0))/\
   ∀x,(∀i:Nat,k<=i->i<4->x≠n*4+(i:Int))->dX th (yC th n ws j k m f).1 x=dX th m x
 |0,k,m,f,hk,hd=>⟨.inl ⟨rfl,λi h1 h2=>by omega⟩,λx _=>rfl⟩
 |j+1,k,m,f,hk,hd=>by
  have dv:=abn hp (show k<4 by omega);have hs:=zO hw (show k<4 by omega);have hd':=xc (n:=n*4+(k:Int)) (s:=iI ws k) hd;have hr:=λx=>alz (n:=n*4+(k:Int)) (x:=x) (s:=iI ws k) hd;unfold yC;by_cases hf:f=0;have he:oG th f (n*4+(k:Int)) (iI ws k)=42:=by unfold oG;rw[if_pos dv,if_pos hs,if_pos hf]
  rw[if_neg (by rw[he];decide)];refine⟨.inr ⟨he, ?_⟩,λx hx=> ?_⟩;show tz th f (n*4+(k:Int)) (iI ws k)=0;unfold tz dL;rw[if_pos ⟨dv,hs⟩,if_pos hf];show dX th (tx th m f (n*4+(k:Int)) (iI ws k)) x=_;rw[hr,if_neg];rintro⟨h,_⟩;rw[he]at h;cases h;have he:oG th f (n*4+(k:Int)) (iI ws k)=0:=oH.2 ⟨dv,hs,hf⟩;rw[if_pos he];have⟨h1,h3⟩:=ahM hp hw j (k+1) _ _ (by omega) hd';refine⟨h1.elim (λhh=>.inl ⟨hh.1,λi hi hi4=> ?_⟩) .inr,λx hx=> ?_⟩;by_cases e:i=k;subst e;rw[h3 _ (λi' a b=>by omega),hr,if_pos ⟨he,rfl⟩];exact hh.2 i (by omega) hi4;rw[h3 x (λi a b=>hx i (by omega) b),hr,if_neg (λh=>hx k (le_refl _) (by omega) h.2)]
theorem amJ{th:Th}{m:As}{fu n x:Int}{s:ByteArray}(h:bz th m fu)(hx:x≠n):cW (tx th m fu n s) x=cW m x:=by
 unfold tx;split;have e:=ade (m:=m) h.m.1 (n:=n) (x:=x) (v:=bP s);rw[if_neg hx]at e;exact e;rfl
theorem ahN{th:Th}{n x:Int}{ws:List Int}:∀(j k:Nat) (m:As) (f:Int),k+j=4->bz th m f->x / 4≠n->cW (yC th n ws j k m f).1 x=cW m x
 |0,k,m,f,_,_,_=>rfl
 |j+1,k,m,f,hk,hd,hx=>by
  have e:x≠n*4+(k:Int):=by omega
  unfold yC;split;exact(ahN j (k+1) _ _ (by omega) (xc hd) hx).trans (amJ hd e);exact amJ hd e
theorem at4{th:Th}{m:As}{fu n x:Int}{s:ByteArray}(hd:bz th m fu)(hx:x / 4≠n):cW (ky th m fu n s).1 x=cW m x:=by
 unfold ky;split;exact ahN 4 0 m fu rfl hd hx;rfl
theorem at5{th:Th}{m:As}{fu n:Int}{s:ByteArray}(hd:bz th m fu)(hp:vn th n=true)(hs:s.size<=254):
 (((ky th m fu n s).2.2=0/\gS th (ky th m fu n s).1 n=0/\fR th (ky th m fu n s).1 n=s)\/((ky th m fu n s).2.2=42/\(ky th m fu n s).2.1=0))/\
   (fu= -1->(ky th m fu n s).2.1= -1)/\
   ∀p,p≠n->gS th (ky th m fu n s).1 p=gS th m p/\fR th (ky th m fu n s).1 p=fR th m p:=by
 have hl:=ahi hs;have⟨h1,h3⟩:=ahM hp hl 4 0 m fu rfl hd;have ec:gwC th n s=0:=by unfold gwC;rw[if_pos hp,if_neg (by omega)]
 unfold ky;rw[ec,if_pos rfl];refine⟨h1.imp (λ⟨a,h2⟩=> ?_) id,λe=>by subst e;rw[(alR hp hl 4 0 m rfl hd).1],λp hpn=>adh rfl λi hi=>(h3 _ λi' _ fG=>by omega).symm⟩
 have e:pgA th (yC th n (zM s) 4 0 m fu).1 n=zM s:=by
  show pgL _ _ _ 4=_;simp only[pgL,nil_append];rw[h2 0 (by omega) (by omega),h2 1 (by omega) (by omega),h2 2 (by omega) (by omega),h2 3 (by omega) (by omega)];exact alS hl (λx hx=>alC x hx hs)
 exact⟨a,atf hp hs e⟩
end Ds
namespace Ts
open Go Go.Sx Go.Proofs Lf
def In(ws:Ws)(k:Int):Prop:=Bx.mL ws k=true
instance (ws:Ws) (k:Int):Decidable (In ws k):=inferInstanceAs (Decidable (_=true))
theorem eY{ws:Ws}(hw:Bx.okW ws){k:Int}:In ws k↔(0<=k/\k<1024)/\Bx.bit ws k.toNat=true:=by
 unfold In;rw[Bx.ahK hw,and_eq_true,decide_eq_true_eq]
theorem mN{ws:Ws}(hw:Bx.okW ws){k:Int}(h:In ws k):0<=k/\k<1024:=((eY hw).1 h).1
theorem pC{ws:Ws}(hw:Bx.okW ws){n:Int}(hn:0<=n/\n<1024){k:Int}:In (Bx.dz ws n) k↔In ws k\/k=n:=by
 have⟨h1,h2⟩:=Bx.gO hw n;rw[eY h1,eY hw];constructor;rintro⟨a,b⟩;rw[h2 k.toNat (by omega),Bool.or_eq_true,decide_eq_true_eq]at b;rcases b with b|b;exact .inl ⟨a,b⟩;right;omega;rintro(⟨a,b⟩|rfl);exact⟨a,by rw[h2 _ (by omega),b];rfl⟩;refine⟨hn, ?_⟩;rw[h2 _ (by omega),Bool.or_eq_true,decide_eq_true_eq];right;omega
theorem qG{ws:Ws}(hw:Bx.okW ws){n k:Int}:In (Bx.dA ws n) k↔In ws k/\k≠n:=by
 have⟨h1,h2⟩:=Bx.lT hw n;rw[eY h1,eY hw];constructor;rintro⟨a,b⟩;rw[h2 k.toNat (by omega),and_eq_true,not_eq_true',decide_eq_false_iff_not]at b;exact⟨⟨a,b.1⟩,by omega⟩;rintro⟨⟨a,b⟩,c⟩;refine⟨a, ?_⟩;rw[h2 _ (by omega),and_eq_true,not_eq_true',decide_eq_false_iff_not];exact⟨b,by omega⟩
theorem af5{op:BinOp}(yj:op=.or\/op=.and\/op=.andNot){a b:Ws}(ha:Bx.okW a)(hb:Bx.okW b){k:Int}:
 In (Bx.cf op a b) k↔(0<=k/\k<1024)/\Bx.opb op (Bx.bit a k.toNat) (Bx.bit b k.toNat)=true:=by
 have⟨h1,h2⟩:=Bx.iL yj ha hb;rw[eY h1];constructor;rintro⟨c,d⟩;rw[h2 _ (by omega)]at d;exact⟨c,d⟩;rintro⟨c,d⟩;exact⟨c,by rw[h2 _ (by omega)];exact d⟩
theorem awg{a b:Ws}(ha:Bx.okW a)(hb:Bx.okW b){k:Int}:In (Bx.cf .or a b) k↔In a k\/In b k:=by
 rw[af5 (.inl rfl) ha hb,eY ha,eY hb];simp only[Bx.opb,Bool.or_eq_true];exact⟨λ⟨c,d⟩=>d.imp (λx=>⟨c,x⟩) (λx=>⟨c,x⟩),λh=>h.elim (λx=>⟨x.1,.inl x.2⟩) (λx=>⟨x.1,.inr x.2⟩)⟩
theorem amK{a b:Ws}(ha:Bx.okW a)(hb:Bx.okW b){k:Int}:In (Bx.cf .and a b) k↔In a k/\In b k:=by
 rw[af5 (.inr (.inl rfl)) ha hb,eY ha,eY hb];simp only[Bx.opb,and_eq_true];exact⟨λ⟨c,d⟩=>⟨⟨c,d.1⟩,c,d.2⟩,λ⟨x,y⟩=>⟨x.1,x.2,y.2⟩⟩
theorem sd{a b:Ws}(ha:Bx.okW a)(hb:Bx.okW b){k:Int}:In (Bx.cf .andNot a b) k↔In a k/\¬In b k:=by
 rw[af5 (.inr (.inr rfl)) ha hb,eY ha,eY hb];simp only[Bx.opb,and_eq_true,not_eq_true'];constructor;rintro⟨c,d,e⟩;exact⟨⟨c,d⟩,λh=>by rw[h.2]at e;cases e⟩;rintro⟨⟨c,d⟩,e⟩;refine⟨c,d, ?_⟩;cases hh:Bx.bit b k.toNat;rfl;exact absurd ⟨c,hh⟩ e
theorem mO{n k:Int}:In (Bx.bw n) k↔(0<=k/\k<1024)/\k<n:=by
 have⟨h1,h2⟩:=Bx.cr n;rw[eY h1];constructor;rintro⟨c,d⟩;rw[h2 _ (by omega),decide_eq_true_eq]at d;exact⟨c,by omega⟩;rintro⟨c,d⟩;exact⟨c,by rw[h2 _ (by omega),decide_eq_true_eq];omega⟩
theorem eZ{k:Int}:¬In Bx.aL k:=λh=>by
 have:=((eY Bx.fh.1).1 h).2;rw[Bx.fh.2]at this;cases this
theorem af6{a b:Ws}(ha:Bx.okW a)(hb:Bx.okW b)(h:∀k,In a k↔In b k):a=b:=Bx.apH ha hb λk hk=>by
 have h1:=h (k:Int);rw[eY ha,eY hb,toNat_natCast]at h1;have hr:(0:Int)<=(k:Int)/\(k:Int)<1024:=⟨by omega,by omega⟩;have h2:Bx.bit a k=true↔Bx.bit b k=true:=⟨λh=>(h1.1 ⟨hr,h⟩).2,λh=>(h1.2 ⟨hr,h⟩).2⟩;cases e1:Bx.bit a k<;>cases e2:Bx.bit b k<;>simp[e1,e2]at h2 ⊢
theorem adR{ws:Ws}(hw:Bx.okW ws)(h:Bx.fl ws 0=true):In ws (Bx.bU ws 0):=by
 unfold Bx.fl at h;have⟨v,hv⟩:=isSome_iff_exists.1 h;obtain⟨p,rfl,hp,hb,_,_⟩:=Bx.xF hw hv;have e:Bx.bU ws 0=(p:Int):=by unfold Bx.bU;rw[hv];rfl
 rw[e,eY hw];exact⟨⟨by omega,by omega⟩,by rw[toNat_natCast];exact hb⟩
theorem amL{ws:Ws}(hw:Bx.okW ws)(h:Bx.fl ws 0=true){q:Int}(hq:In ws q):Bx.bU ws 0<=q:=by
 unfold Bx.fl at h;have⟨v,hv⟩:=isSome_iff_exists.1 h;obtain⟨p,rfl,hp,hb,_,asI⟩:=Bx.xF hw hv;have e:Bx.bU ws 0=(p:Int):=by unfold Bx.bU;rw[hv];rfl
 rw[e];have⟨hr,hq⟩:=(eY hw).1 hq;refine Int.not_lt.1 λbA=> ?_;rw[asI q.toNat (by omega) (by omega)]at hq;cases hq
theorem apP{ws:Ws}(hw:Bx.okW ws)(h:Bx.fl ws 0=false)(k:Int):¬In ws k:=by
 unfold Bx.fl at h
 have hv:Bx.oR ws 0=none:=by
  cases e:Bx.oR ws 0 with
  |none=>rfl
  |some v=>rw[e]at h;cases h
 intro hk;have⟨hr,hb⟩:=(eY hw).1 hk;rw[Bx.af1 hw hv k.toNat (by omega) (by omega)]at hb;cases hb
structure Rd (th:Th) (m:As) (p:Int) (l:Bool) (es:List En) (bs:List Br):Prop where
 e:Ds.gS th m p=0
 c:tF (Ds.fR th m p)=0
 l:kf (Ds.fR th m p)=l
 es:oN (Ds.fR th m p)=es
 bs:nD (Ds.fR th m p)=bs
theorem Rd.same{th:Th}{m m':As}{p:Int}{l:Bool}{es:List En}{bs:List Br}(h:Rd th m p l es bs)(h1:Ds.gS th m' p=Ds.gS th m p/\Ds.fR th m' p=Ds.fR th m p):Rd th m' p l es bs:=by
 have⟨a,b,c,d,e⟩:=h;exact⟨by rw[h1.1];exact a,by rw[h1.2];exact b,by rw[h1.2];exact c,by rw[h1.2];exact d,by rw[h1.2];exact e⟩
theorem Rd.nd{th:Th}{m:As}{p:Int}{l:Bool}{es:List En}{bs:List Br}(h:Rd th m p l es bs){ae:Int}(hd:ae<=16):gF th m p ae=0/\lB th m p ae=l/\cv th m p ae=es/\bh th m p ae=bs:=by
 have e0:tM th m p ae=true:=by unfold tM;rw[decide_eq_true hd,decide_eq_true h.e];rfl
 refine⟨?_, ?_, ?_, ?_⟩;unfold gF;rw[if_neg (by omega),if_pos h.e];exact h.c;unfold lB;rw[e0,Bool.true_and];exact h.l;unfold cv;rw[if_pos e0];exact h.es;unfold bh;rw[if_pos e0];exact h.bs
abbrev awh:=cU [fE] [fc] (λ((l,es,bs,()),())=>[((l:Bool)=true->0<(es:List En).length)/\(l=false->0<(bs:List Br).length)]) (λ((l,es,bs,()),())=>(dD l es bs,()))
abbrev arL:=wQ [fE] [iP] (λ((_,_,bs,()),())=>[(bs:List Br).length<=1000]) (λ((l,es,bs,()),())=>((l,es,af bs,()),()))
abbrev ayf:=cU [Bx.eU,Bx.bS] [Bx.bS,Bx.dg] (λ(ws,_,())=>[Bx.okW ws]) (λ(ws,n,())=>(Bx.bU ws n,Bx.fl ws n,()))
abbrev awi:=cU [fE] [fc,bS] (λ((_,es,bs,()),())=>[bF es,bG bs]) (λ((l,es,bs,()),())=>(dG l es bs,iJ l es bs,()))
def arM:aR:=[(176,awh),(145,arL),(83,ayf),(177,awi),(178,awe),(179,arH),(67,adO)]
abbrev awj:Spec (XT×Bool×List En×List Br):=⟨λ(_,l,es,bs)=>[.an 0 0,avN l es bs],λ((th,m,fu,aa,fr,fs,gn),_)=>hT th m fu aa fr fs gn,
 λ((th,m,fu,_,fr,_,_),l,es,bs)=>[Ds.bz th m fu,Bx.okW fr,((l:Bool)=true->0<(es:List En).length)/\(l=false->0<(bs:List Br).length),bF es,bG bs],
 λ((th,m,fu,aa,fr,fs,gn),l,es,bs)=>hT th (ct th m fu fr fs l es bs).1 (ct th m fu fr fs l es bs).2.1 aa (ct th m fu fr fs l es bs).2.2.1 (ct th m fu fr fs l es bs).2.2.2.1 gn,
 λ((th,m,fu,_,fr,fs,_),l,es,bs)=>.bD [.agg [.s (.ag (ct th m fu fr fs l es bs).2.2.2.2.1.1),bQ (ct th m fu fr fs l es bs).2.2.2.2.1.2.1],bQ (ct th m fu fr fs l es bs).2.2.2.2.2]⟩
theorem ayg(th:Th)(m:As)(fu aa:Int)(fr fs gn:Ws)(l:Bool)(es:List En)(bs:List Br):run P arM.sum Tryz.f147 [] (start Tryz.f147 [.an 0 0,avN l es bs] (hT th m fu aa fr fs gn))=
 Tree.ab ((l=true->(0:Nat)<es.length)/\(l=false->(0:Nat)<bs.length)) (.ab (bs.length<=1000) (.ab (Bx.okW fr) (.ite (!Bx.fl fr 0) (.ret (hT th m fu aa fr fs gn++[.ay [.s (.bool l),.s (.ro (.az [.ag,.ag] es)),.s (.ro (.az [.ag,.int .i64] (af bs)))] 131,.ay [.s (.ag empty),.s (.aZ .i64 0)] 137]) (.bD [.agg [.s (.ag empty),.s (.aZ .i64 0)],.s (.aZ .i64 41)])) (.ab (bF es) (.ab (bG (af bs)) (.ite (iJ l es (af bs) !=0) (.ret (hT th m fu aa fr fs gn++[.ay [.s (.bool l),.s (.ro (.az [.ag,.ag] es)),.s (.ro (.az [.ag,.int .i64] (af bs)))] 131,.ay [.s (.ag empty),.s (.aZ .i64 0)] 137]) (.bD [.agg [.s (.ag empty),.s (.aZ .i64 0)],.s (.int .i64 (iJ l es (af bs)))])) (.ab (bx (some [AV.an 0 0,.s (.int .i64 (Bx.bU fr 0)),.s (.ag (dG l es (af bs)))])) (.ab (bx (some (Ds.hD th m fu))) (.ab (Ds.bz th m fu) (.ab (aG (Bx.bU fr 0)) (.ite ((Ds.ky th m fu (Bx.bU fr 0) (dG l es (af bs))).snd.snd !=0) (.ret (hT th (Ds.ky th m fu (Bx.bU fr 0) (dG l es (af bs))).fst (Ds.ky th m fu (Bx.bU fr 0) (dG l es (af bs))).snd.fst aa fr fs gn++[.ay [.s (.bool l),.s (.ro (.az [.ag,.ag] es)),.s (.ro (.az [.ag,.int .i64] (af bs)))] 131,.ay [.s (.ag empty),.s (.aZ .i64 0)] 137]) (.bD [.agg [.s (.ag empty),.s (.aZ .i64 0)],.s (.int .i64 (Ds.ky th m fu (Bx.bU fr 0) (dG l es (af bs))).snd.snd)])) (.ret (hT th (Ds.ky th m fu (Bx.bU fr 0) (dG l es (af bs))).fst (Ds.ky th m fu (Bx.bU fr 0) (dG l es (af bs))).snd.fst aa (Bx.dA fr (Bx.bU fr 0)) (Bx.dz fs (Bx.bU fr 0)) gn++[.ay [.s (.bool l),.s (.ro (.az [.ag,.ag] es)),.s (.ro (.az [.ag,.int .i64] (af bs)))] 131,.ay [.s (.ag (dD l es bs)),.s (.int .i64 (Bx.bU fr 0))] 137]) (.bD [.agg [.s (.ag (dD l es bs)),.s (.int .i64 (Bx.bU fr 0))],.s (.aZ .i64 0)]))))))))))))):=by kernel_rfl
theorem uI{bs:List Br}(h:bG bs):bG (af bs):=by
 cases bs with
 |nil=>exact h
 |cons b r=>
  refine⟨h.1,λx hx=> ?_⟩;rcases mem_cons.1 hx with rfl|hx;exact zero_le _;exact h.2 x (mem_cons_of_mem _ hx)
theorem xJ{ws:Ws}(hw:Bx.okW ws)(h:Bx.fl ws 0=true):0<=Bx.bU ws 0/\Bx.bU ws 0<1024:=mN hw (adR hw h)
theorem amM:arM.Ok P Bx.bZ:=aR.Ok.cons amE.sum (aR.Ok.cons ahL.wQ (aR.Ok.cons (Bx.apJ Bx.awc.sum).sum (aR.Ok.cons ajv.sum (aR.Ok.cons (Ds.avH.sum Ds.mWr) (aR.Ok.cons Bx.xy.sum (aR.Ok.cons Bx.rX.sum aR.Ok.nil))))))
theorem w9:gE P Bx.bZ 147 awj:=by
 refine aK Tryz.func147 (by kernel_rfl) (λx=>le_of_ble_eq_true (by kernel_rfl)) ?_;rintro⟨⟨(th:Th),(m:As),(fu:Int),(aa:Int),(fr:Ws),(fs:Ws),(gn:Ws)⟩,(l:Bool),(es:List En),(bs:List Br)⟩ ⟨(hd:Ds.bz th m fu),(hf:Bx.okW fr),(cX:((l:Bool)=true->0<(es:List En).length)/\(l=false->0<(bs:List Br).length)),(he:bF es),(hb:bG bs),_⟩ X hX hz;refine Ds.dk hz hX (by intro y hy;cases hy) amM Tryz.func147 (ayg th m fu aa fr fs gn l es bs) ⟨cX,hb.1,hf,λh=> ?_,λh=>⟨he,uI hb,λh2=> ?_,λh2=>⟨rfl,rfl,hd, ?_,λh3=> ?_,λh3=> ?_⟩⟩⟩;have h:Bx.fl fr 0=false:=by simpa using h
 have e:ct th m fu fr fs l es bs=(m,fu,fr,fs,dB,41):=by unfold ct;rw[if_pos h]
 refine bN (h:=hT th m fu aa fr fs gn) 4 rfl (le_refl _) ?_ ?_;show AV.bD [.agg [.s (.ag (ct th m fu fr fs l es bs).2.2.2.2.1.1),bQ (ct th m fu fr fs l es bs).2.2.2.2.1.2.1],bQ (ct th m fu fr fs l es bs).2.2.2.2.2]=_;rw[e];rfl;show hT th (ct th m fu fr fs l es bs).1 (ct th m fu fr fs l es bs).2.1 aa (ct th m fu fr fs l es bs).2.2.1 (ct th m fu fr fs l es bs).2.2.2.1 gn=_;rw[e];have h:¬Bx.fl fr 0=false:=by simpa using h
 have h2:iJ l es (af bs)≠0:=by simpa using h2
 have e:ct th m fu fr fs l es bs=(m,fu,fr,fs,dB,iJ l es (af bs)):=by unfold ct;rw[if_neg h,if_pos h2]
 refine bN (h:=hT th m fu aa fr fs gn) 4 rfl (le_refl _) ?_ ?_;show AV.bD [.agg [.s (.ag (ct th m fu fr fs l es bs).2.2.2.2.1.1),bQ (ct th m fu fr fs l es bs).2.2.2.2.1.2.1],bQ (ct th m fu fr fs l es bs).2.2.2.2.2]=_;rw[e];rfl;show hT th (ct th m fu fr fs l es bs).1 (ct th m fu fr fs l es bs).2.1 aa (ct th m fu fr fs l es bs).2.2.1 (ct th m fu fr fs l es bs).2.2.2.1 gn=_;rw[e];have h:Bx.fl fr 0=true:=by simpa using h
 have:=xJ hf h;exact⟨by omega,by omega⟩;have h:¬Bx.fl fr 0=false:=by simpa using h
 have h2:¬iJ l es (af bs)≠0:=by simpa using h2
 have h3:(Ds.ky th m fu (Bx.bU fr 0) (dG l es (af bs))).2.2≠0:=by simpa using h3
 have e:ct th m fu fr fs l es bs=((Ds.ky th m fu (Bx.bU fr 0) (dG l es (af bs))).1,(Ds.ky th m fu (Bx.bU fr 0) (dG l es (af bs))).2.1,fr,fs,dB,(Ds.ky th m fu (Bx.bU fr 0) (dG l es (af bs))).2.2):=by unfold ct;rw[if_neg h,if_neg h2,if_pos h3]
 refine bN (h:=hT th (Ds.ky th m fu (Bx.bU fr 0) (dG l es (af bs))).1 (Ds.ky th m fu (Bx.bU fr 0) (dG l es (af bs))).2.1 aa fr fs gn) 4 rfl (le_refl _) ?_ ?_;show AV.bD [.agg [.s (.ag (ct th m fu fr fs l es bs).2.2.2.2.1.1),bQ (ct th m fu fr fs l es bs).2.2.2.2.1.2.1],bQ (ct th m fu fr fs l es bs).2.2.2.2.2]=_;rw[e];rfl;show hT th (ct th m fu fr fs l es bs).1 (ct th m fu fr fs l es bs).2.1 aa (ct th m fu fr fs l es bs).2.2.1 (ct th m fu fr fs l es bs).2.2.2.1 gn=_;rw[e];have h:¬Bx.fl fr 0=false:=by simpa using h
 have h2:¬iJ l es (af bs)≠0:=by simpa using h2
 have h3:¬(Ds.ky th m fu (Bx.bU fr 0) (dG l es (af bs))).2.2≠0:=by simpa using h3
 have e:ct th m fu fr fs l es bs=((Ds.ky th m fu (Bx.bU fr 0) (dG l es (af bs))).1,(Ds.ky th m fu (Bx.bU fr 0) (dG l es (af bs))).2.1,Bx.dA fr (Bx.bU fr 0),Bx.dz fs (Bx.bU fr 0),(dD l es bs,Bx.bU fr 0,()),0):=by unfold ct;rw[if_neg h,if_neg h2,if_neg h3]
 refine bN (h:=hT th (Ds.ky th m fu (Bx.bU fr 0) (dG l es (af bs))).1 (Ds.ky th m fu (Bx.bU fr 0) (dG l es (af bs))).2.1 aa (Bx.dA fr (Bx.bU fr 0)) (Bx.dz fs (Bx.bU fr 0)) gn) 4 rfl (le_refl _) ?_ ?_;show AV.bD [.agg [.s (.ag (ct th m fu fr fs l es bs).2.2.2.2.1.1),bQ (ct th m fu fr fs l es bs).2.2.2.2.1.2.1],bQ (ct th m fu fr fs l es bs).2.2.2.2.2]=_;rw[e];rfl;show hT th (ct th m fu fr fs l es bs).1 (ct th m fu fr fs l es bs).2.1 aa (ct th m fu fr fs l es bs).2.2.1 (ct th m fu fr fs l es bs).2.2.2.1 gn=_;rw[e]
end Ts
namespace Go.Sx
open Go
def ahO:List Nat->List AV->(List AV->RM b8)->RM b8
 |[],args,k=>k args
 |id::ids,args,k=>.aA id λo=>match o with
  |some (.aq c _)=>((ahO ids (args.map (od id c)) k).ae0 id).mV id
  |_=>.fail "give up: no row"
def amN(i:Nat)(s:Nat->List AV->RM b8):Nat->List AV->RM b8:=λbase args=>ahO (afh (args.getD i (.s .bk))) args (s base)
def ahP(cs:List (Nat×a8)):Nat->List AV->List AV
 |_,[]=>[]
 |j,.emp::r=>(match cs.find? (λp=>p.1.beq j)with
  |some (_,c)=>bif c.n.beq 0 then .s (.ro c)else .emp
  |none=>.emp)::ahP cs (j+1) r
 |j,a::r=>a::ahP cs (j+1) r
def arN(cs:List (Nat×a8)):AV->AV
 |.agg aD=>.agg (ahP cs 0 aD)
 |a=>a
def abJ(i:Nat)(cs:List (Nat×a8))(s:Nat->List AV->RM b8):Nat->List AV->RM b8:=λbase args=>s base (match args[i]? with
 |some a=>args.set i (arN cs a)
 |none=>args)
section
variable{ρ aQ:Nat->Value}{H H':aV}{G O O':Nat->Prop}{w w':World}{P:Program}{Z:bB}{X:Type}{S:Spec X}
theorem aab{cs:List (Nat×a8)}:∀(l:List AV) (j:Nat) {vs:List Value},aE ρ H O w l vs->aE ρ H O w (ahP cs j l) vs
 |[],_,vs,h=>h
 |a::l,j,vs,h=>by
  obtain⟨c1,c2,rfl,h1,h2⟩:=ao.1 h;have ih:=aab (cs:=cs) l (j+1) h2;cases a with
  |emp=>
   refine ao.2 ⟨c1,c2,rfl, ?_,ih⟩;split;rw[cond_eq_ite];split;rename_i c _ hc;have hc:c.n=0:=by simpa using hc
   unfold aU at h1 ⊢;obtain⟨u,rfl,a,rfl⟩:=h1;exact⟨_,rfl,rH hc a⟩;exact h1;exact h1
  |_=>exact ao.2 ⟨c1,c2,rfl,h1,ih⟩
theorem ajN{cs:List (Nat×a8)}{a:AV}{v:Value}(h:ak ρ H O w a v):ak ρ H O w (arN cs a) v:=by
 cases a with
 |agg aD=>
  unfold ak at h;obtain⟨vs,rfl,h1⟩:=h;show ak _ _ _ _ (.agg _) _;unfold ak;exact⟨vs,rfl,aab _ _ h1⟩
 |_=>exact h
theorem gY{f:FuncId}{s:Nat->List AV->RM b8}(h:qA P Z f s)(i:Nat)(cs:List (Nat×a8)):qA P Z f (abJ i cs s):=by
 intro base args H q hq hn ρ G w vs dK hz hs hd;unfold abJ at hq;split at hq;rename_i a ha;exact h base _ H q hq hn ρ G w vs dK hz hs (adb hd ha λv hv=>ajN hv);exact h base _ H q hq hn ρ G w vs dK hz hs hd
theorem ajO(hs:Sat ρ H G w){id:Nat}{c:a8}{e:TypeId}(ho:H id=some (.aq c e)){x:AV}{v:Value}(hx:ak ρ H (bd ρ H G) w x v):
 ak ρ (aF H id .aB) (bd ρ (aF H id .aB) G) w (od id c x) v:=by
 have st:=fz (ρ:=ρ) (G:=G) (w:=w) ho;have gone:=rr hs ho
 have afq:∀x cs,aU ρ H (bd ρ H G) w x cs→aU ρ (aF H id .aB) (bd ρ (aF H id .aB) G) w (oc id c x) cs:=by
  intro x cs hx;have mY:=aU.step st x cs hx;cases x<;>try exact mY
  rename_i j;simp only[oc,cond_eq_ite];split;rename_i hj;have hj:j=id:=by simpa using hj
  subst hj;unfold aU at hx ⊢;obtain⟨u,rfl,hu⟩:=hx;obtain⟨a,cap,hv,hr,_⟩:=js hs ho (by unfold ak;exact hu);exact⟨u,rfl,by rw[←hr];exact gone⟩;exact mY
 have m8:∀(xs:List AV) cs,aE ρ H (bd ρ H G) w xs cs→aE ρ (aF H id .aB) (bd ρ (aF H id .aB) G) w (xs.map (oc id c)) cs:=by
  intro xs
  induction xs with
  |nil=>intro cs hx;exact aH.2 (aH.1 hx)
  |cons x xs ih=>
   intro cs hx;obtain⟨c1,c2,rfl,h1,h2⟩:=ao.1 hx;exact ao.2 ⟨c1,c2,rfl,afq _ _ h1,ih _ h2⟩
 have mY:=ak.step st x v hx;cases x with
 |agg aD=>
  unfold ak at hx;obtain⟨cs,rfl,h1⟩:=hx;show ak _ _ _ _ (.agg _) _;unfold ak;exact⟨cs,rfl,m8 _ _ h1⟩
 |aq j=>
  simp only[od,cond_eq_ite];split;rename_i hj;have hj:j=id:=by simpa using hj
  subst hj;obtain⟨a,cap,hv,hr,_⟩:=js hs ho hx;rw[←hr];exact aJ gone;exact mY
 |_=>exact mY
theorem adS{f:FuncId}{s:Nat->List AV->RM b8}(h:qA P Z f s){base:Nat}:∀(ids:List Nat) {args:List AV} {H:aV} {q:b8},(ahO ids args (s base)).eval H=some q->bT q.ab->
 ∀(ρ:Nat->Value) (G:Nat->Prop) (w:World) (vs:List Value),(∀j,j<q.new.length->H (base+j)=none)->ZAt Z ρ H w->Sat ρ H G w->bV ρ H (bd ρ H G) w args vs->
 Calls P f vs.toArray w λe w'=>∃v,e=.returned v/\Good ρ H G w (di H q.up base q.new) (q.r base) v w'
 |[],args,H,q,hq,hn,ρ,G,w,vs,dK,hz,hs,hd=>h base args H q hq hn ρ G w vs dK hz hs hd
 |id::ids,args,H,q,hq,hn,ρ,G,w,vs,dK,hz,hs,hd=>by
  simp only[ahO,RM.eval]at hq;split at hq;rename_i c el ho;obtain⟨q',h1,rfl⟩:=RM.m6 _ hq;rw[RM.mu]at h1;have st:=fz (ρ:=ρ) (G:=G) (w:=w) ho;have hz1:ZAt Z ρ (aF H id .aB) w:=⟨hz.1,λb hb hO=>hz.2 b hb (fA hO)⟩
  have abi:∀j,j<q'.new.length->aF H id .aB (base+j)=none:=λj hj=>by
   have:=dK j hj;simp only[aF];split;rename_i e1;rw[e1,ho]at this;cases this;exact this
  have hd1:bV ρ (aF H id .aB) (bd ρ (aF H id .aB) G) w (args.map (od id c)) vs:=by
   clear h1 hq
   induction args generalizing vs with
   |nil=>exact(show bV _ _ _ _ [] vs by rw[bo.1 hd];unfold bV;rfl)
   |cons a args ih=>
    obtain⟨v,rest,rfl,g1,g2⟩:=aI.1 hd;exact aI.2 ⟨v,rest,rfl,ajO hs ho g1,ih _ g2⟩
  refine(adS h ids h1 hn ρ G w vs abi hz1 (hs.kill ho) hd1).mono ?_;rintro en w' ⟨v,he,hg⟩;refine⟨v,he, ?_⟩
  have afg:di H ((id,.aB)::q'.up) base q'.new=di (aF H id .aB) q'.up base q'.new:=by
   funext j;simp only[di,cK,aF];cases cK q'.up j with
   |some x=>rfl
   |none=>
    simp only[];by_cases hj:j=id;subst hj
    have te:¬(base<=j/\j<base+q'.new.length):=by
     rintro⟨k1,k2⟩;have:=dK (j - base) (by simp only[];omega);rw[show base+(j - base)=j from by omega,ho]at this;cases this
    simp[te];simp[hj]
  simp only[];rw[afg];exact Good.after st (λb hb=>fA hb) hg;simp[RM.eval]at hq
theorem jo{f:FuncId}{s:Nat->List AV->RM b8}(h:qA P Z f s)(i:Nat):qA P Z f (amN i s):=by
 intro base args H q hq hn ρ G w vs dK hz hs hd;exact adS h _ hq hn ρ G w vs dK hz hs hd
theorem yM{f:FuncId}{fn:Func}{aS:List AV}{L:List au}{K:List au->AV->Prop}(hf:P.funcs[f]? =some fn)(hb:fn.body.isSome=true)(hn:aS.length<=fn.ntmps)
 (h:∀X:Ctx,X.H=lk L->eO Z X->Safe P f X K (start fn aS L)) (ρ:Nat->Value) (G:Nat->Prop) (w:World) (vs:List Value) (hz:ZAt Z ρ (lk L) w) (hs:Sat ρ (lk L) G w)
 (hd:bV ρ (lk L) (bd ρ (lk L) G) w aS vs):Calls P f vs.toArray w (ku ⟨ρ,lk L,G,w,[]⟩ K):=by
 have⟨c,hb⟩:=isSome_iff_exists.1 hb
 have oF:vs.length=aS.length:=by
  have:∀{aS:List AV} {vs:List Value},bV ρ (lk L) (bd ρ (lk L) G) w aS vs->vs.length=aS.length:=by
   intro aS
   induction aS with
   |nil=>intro vs h;rw[bo.1 h];rfl
   |cons a aS ih=>intro vs h;obtain⟨v,rest,rfl,_,h2⟩:=aI.1 h;simp[ih h2]
  exact this hd
 refine ju (R:=ku ⟨ρ,lk L,G,w,[]⟩ K) hf hb ?_;have:=(h ⟨ρ,lk L,G,w,[]⟩ rfl hz).goes rfl rfl (ρ:=ρ) (a:={ah:=vs.toArray++Array.replicate (fn.ntmps - vs.toArray.size) undef,defers:=[]}) (w:=w);simp only[start,hb,getD_some]at this;refine this ⟨hs, ?_,λt=> ?_,rfl,Step.refl _ _ _ _,⟨rfl,rfl,rfl,λ_ _ _=>rfl⟩,λx hx=>by cases hx⟩;simp[oF]
 have e1:∀(aS:List AV) (vs:List Value),bV ρ (lk L) (bd ρ (lk L) G) w aS vs->∀t,ak ρ (lk L) (bd ρ (lk L) G) w (aS.getD t (.bD [])) (vs.getD t undef):=by
  intro aS
  induction aS with
  |nil=>intro vs h t;rw[bo.1 h];simp only[List.getD,List.getElem?_nil,Option.getD_none];exact cZ
  |cons a aS ih=>
   intro vs h t;obtain⟨v,rest,rfl,h1,h2⟩:=aI.1 h;cases t with
   |zero=>simpa using h1
   |succ t=>simpa using ih rest h2 t
 have h1:=e1 _ _ hd t;simp only[List.getD_eq_getElem?_getD,List.getElem?_append,List.getElem?_replicate,getD_eq_getD_getElem?,Array.getElem?_append,List.getElem?_toArray,Array.getElem?_replicate,List.size_toArray]at h1 ⊢;rw[oF];split;rename_i ht;have hv:vs[t]? =some vs[t]:=getElem?_eq_getElem (by omega);have ha:aS[t]? =some aS[t]:=getElem?_eq_getElem ht;rw[hv,ha]at h1 ⊢;exact h1;split;exact cZ;unfold ak;trivial
def yN{X:Type}(S:Spec X)(x:X)(L:List au)(r:AV):Prop:=
 ∃(N:Norm) (vs os:List AV),r=.bD vs/\(S.heap x).length<=N.m/\N.run ⟨vs,L,[],{}⟩=some ⟨os,S.eG x,[],{}⟩/\∀(ρ:Nat->Value) (H:aV) (O:Nat->Prop) (w:World) (us:List Value),bV ρ H O w os us->ak ρ H O w (S.out x) (.tuple us.toArray)
theorem ahQ:∀{os:List AV} {us:List Value},os.length=us.length->(∀t,ak ρ H O w (os.getD t (.s .bk)) (us.getD t undef))->bV ρ H O w os us
 |[],[],_,_=>by unfold bV;rfl
 |[],_::_,h,_=>by simp at h
 |_::_,[],h,_=>by simp at h
 |a::os,u::us,hl,h=>aI.2 ⟨u,us,rfl,h 0,ahQ (by simpa using hl) λt=>h (t+1)⟩
theorem gx{f:FuncId}{fn:Func}(hf:P.funcs[f]? =some fn)(hb:fn.body.isSome=true)(hn:∀x,(S.args x).length<=fn.ntmps)
 (h:∀x,bT (S.pre x)->∀X:Ctx,X.H=lk (S.heap x)->eO Z X->Safe P f X (yN S x) (start fn (S.args x) (S.heap x))):gE P Z f S:=by
 intro x mz ρ G w vs hz hs hd;refine(yM hf hb (hn x) (h x mz) ρ G w vs hz hs hd).mono ?_;rintro e w' ⟨v,rfl,L,r,⟨N,ts,os,rfl,hm,hN,hwk⟩,jL,g1,g2,g3,g4⟩;refine⟨v,rfl, ?_⟩;unfold ak at g2;obtain⟨us,rfl,g2⟩:=g2
 have bK:us.length=ts.length:=by
  have:∀{aS:List AV} {vs:List Value},bV jL (λid=>L[id]?) (bd jL (λid=>L[id]?) G) w' aS vs->vs.length=aS.length:=by
   intro aS
   induction aS with
   |nil=>intro vs h;rw[bo.1 h];rfl
   |cons a aS ih=>intro vs h;obtain⟨v,rest,rfl,_,h2⟩:=aI.1 h;simp[ih h2]
  exact this g2
 have r0:cF ⟨ρ,lk (S.heap x),G,w,[]⟩ jL ⟨ts,L⟩ {ah:=us.toArray,defers:=[]} w':=by
  refine⟨g1,by simp[bK],λt=> ?_,rfl,g3,g4,λx hx=>by cases hx⟩;clear bK hN;have g2':bV jL (St.aA ⟨ts,L⟩) (bd jL (St.aA ⟨ts,L⟩) G) w' ts us:=g2;show ak jL (St.aA ⟨ts,L⟩) (bd jL (St.aA ⟨ts,L⟩) G) w' (ts.getD t (.s .bk)) (us.toArray.getD t undef);generalize St.aA ⟨ts,L⟩=H1 at g2' ⊢;clear g2 hwk
  induction ts generalizing us t with
  |nil=>simp only[List.getD,List.getElem?_nil,Option.getD_none];unfold ak;trivial
  |cons a ts ih=>
   obtain⟨u,rest,rfl,k1,k2⟩:=aI.1 g2';cases t with
   |zero=>simpa using k1
   |succ t=>simpa[getD_eq_getD_getElem?]using ih _ t k2
 have h0:∀id,N.m<=id->(⟨ρ,lk (S.heap x),G,w,[]⟩:Ctx).H id=none:=λid dN=>by simp[lk];omega
 have fin:∃ρ4,cF ⟨ρ,lk (S.heap x),G,w,[]⟩ ρ4 ⟨os,S.eG x⟩ {ah:=us.toArray,defers:=[]} w':=by
  unfold Norm.run at hN;split at hN;rename_i t1 L1 h1;simp only[]at hN;split at hN;rename_i t2 L2 h2;simp only[Option.some.injEq,cn.mk.injEq,and_true]at hN;obtain⟨rfl,rfl⟩:=hN;have⟨jL,r1⟩:=cF.gr h0 h1 (cF.fa N.fq r0);have⟨gD,r2⟩:=cF.gL N.qb r1;have⟨ρ3,r3⟩:=cF.gM N.cells r2;have⟨ρ4,r4⟩:=cF.gr h0 h2 r3;exact⟨ρ4,r4⟩;cases hN;cases hN
 have⟨ρ4,r4⟩:=fin;refine⟨ρ4,r4.sat,hwk _ _ _ _ _ (ahQ ?_ λt=> ?_),r4.ax,r4.jQ⟩;have:=r4.size;simpa using this;have:=r4.den t;have e:(us.toArray.getD t undef)=us.getD t undef:=by simp[getD_eq_getD_getElem?,List.getD_eq_getElem?_getD]
 rw[<-e];exact this
theorem lK{S:Spec X}{x:X}{L:List au}{vs os:List AV}{h:List au}(N:Norm)(e:N.run ⟨vs,L,[],{}⟩=some ⟨os,h,[],{}⟩)(hm:(S.heap x).length<=N.m){os':List AV}(hw:p6 os os')(ho:S.out x=.bD os')(hh:S.eG x=h):yN S x L (.bD vs):=
 ⟨N,vs,os,rfl,hm,by rw[hh];exact e,λρ H O w us hd=>by rw[ho];unfold ak;exact⟨us,rfl,hw.den hd⟩⟩
theorem p6.same:∀(os:List AV),p6 os os
 |[]=>.nil
 |a::os=>.cons (.one (.refl a)) (p6.same os)
end
end Go.Sx
namespace Ts
open Go Go.Sx Go.Proofs Lf
def mT:List AV->RM (XT×List Nat)
 |[.an id 0]=>.aA id λo=>match o with
  |some (.ay [.an d 0,rt,.aw .u64 16 fr,.aw .u64 16 fs,.aw .u64 16 gn] _)=>(Ds.xb [.an d 0]).bind λ((th,m,fu),σ)=>match rt.cP with
   |some (_,_,aa)=>.ret ((th,m,fu,aa,fr,fs,gn),id::σ)
   |none=>.fail "no root"
  |_=>.fail "no tree's cells"
 |_=>.fail "no tree"
def at6:AV->Option (Bool×List En×List Br)
 |.agg [l,.s (.ro (.az [.ag,.ag] es)),.s (.ro (.az [.ag,.int .i64] bs))]=>match l.fT with
  |some (_,b)=>some (b,es,bs)
  |none=>none
 |_=>none
def mTN:List AV->RM ((XT×Bool×List En×List Br)×List Nat)
 |[t,x]=>(mT [t]).bind λ(X,σ)=>match at6 x with
  |some (l,es,bs)=>.ret ((X,l,es,bs),σ)
  |none=>.fail "no node"
 |_=>.fail "no tree and node"
abbrev arO(s:Nat->List AV->RM b8):=amN 1 (abJ 1 [(1,.az cE []),(2,.az cB [])] s)
abbrev at7:=arO (cC awj mTN)
abbrev ayh:=cU [fE] [fE,fE,bS] (λ((_,es,bs,()),())=>[bF es,bG bs]) (λ((l,es,bs,()),())=>((cz l es bs,bE l es bs,bH l es bs,()),(cz l es bs,dw l es bs,dH l es bs,()),spC l es bs,()))
def arP:aR:=[(145,arL),(146,ary),(147,at7),(148,ayh)]
abbrev abK(l:Bool)(es:List En)(bs:List Br):Prop:=(l=true->bs=[])/\(l=false->es=[])
abbrev sWs:Spec (XT×Bool×List En×List Br):=⟨λ(_,l,es,bs)=>[.an 0 0,avN l es bs],λ((th,m,fu,aa,fr,fs,gn),_)=>hT th m fu aa fr fs gn,
 λ((th,m,fu,_,fr,_,_),l,es,bs)=>[Ds.bz th m fu,Bx.okW fr,abK l es bs,bF es,bG bs],
 λ((th,m,fu,aa,fr,fs,gn),l,es,bs)=>hT th (bO th m fu fr fs l es bs).1 (bO th m fu fr fs l es bs).2.1 aa (bO th m fu fr fs l es bs).2.2.1 (bO th m fu fr fs l es bs).2.2.2.1 gn++[.aq (.az cB (bO th m fu fr fs l es bs).2.2.2.2.1) Lf.eB],
 λ((th,m,fu,_,fr,fs,_),l,es,bs)=>.bD [.aq 4,bQ (bO th m fu fr fs l es bs).2.2.2.2.2]⟩
theorem ayi(th:Th)(m:As)(fu aa:Int)(fr fs gn:Ws)(l:Bool)(es:List En)(bs:List Br):run P arP.sum Tryz.f112 [] (start Tryz.f112 [.an 0 0,avN l es bs] (hT th m fu aa fr fs gn))=
 Tree.ab (aG ((↑es.length:Int)+(↑bs.length:Int)))
 (.ite ((↑es.length:Int)+(↑bs.length:Int)==0) (.ret (hT th m fu aa fr fs gn++[.ay [.s (.bool l),.s (.ro (.az [.ag,.ag] es)),.s (.ro (.az [.ag,.int .i64] bs))] 131]) (.bD [.emp,.s (.aZ .i64 0)]))
   (.ab (bs.length<=1000)
     (.ab (bF es)
       (.ab (bG (af bs))
         (.ite (decide (bI es (af bs)<=254)) (.ab (bx (some [AV.an 0 0,.agg [.s (.bool l),.s (.ro (.az [.ag,.ag] es)),.s (.ro (.az [.ag,.int .i64] (af bs)))]])) (.ab (bx (some (hT th m fu aa fr fs gn))) (.ab (Ds.bz th m fu) (.ab (Bx.okW fr) (.ab ((l=true->(0:Nat)<es.length)/\(l=false->(0:Nat)<(af bs).length)) (.ab (bF es) (.ab (bG (af bs)) (.ret (hT th (ct th m fu fr fs l es (af bs)).fst (ct th m fu fr fs l es (af bs)).snd.fst aa (ct th m fu fr fs l es (af bs)).snd.snd.fst (ct th m fu fr fs l es (af bs)).snd.snd.snd.fst gn++[.ay [.s (.bool l),.s (.ro (.az [.ag,.ag] es)),.s (.ro (.az [.ag,.int .i64] (af bs)))] 131,.ay [.s (.ag (ct th m fu fr fs l es (af bs)).snd.snd.snd.snd.fst.fst),.s (.int .i64 (ct th m fu fr fs l es (af bs)).snd.snd.snd.snd.fst.snd.fst)] 137,.aq (.az [.ag,.int .i64] [((ct th m fu fr fs l es (af bs)).snd.snd.snd.snd.fst.fst,(ct th m fu fr fs l es (af bs)).snd.snd.snd.snd.fst.snd.fst,())]) 137]) (.bD [.aq 6,.s (.int .i64 (ct th m fu fr fs l es (af bs)).snd.snd.snd.snd.snd)])))))))))
           (.ab (bF es)
             (.ab (bG (af bs))
               (.ite (spC l es (af bs) !=0) (.ret (hT th m fu aa fr fs gn++[.ay [.s (.bool l),.s (.ro (.az [.ag,.ag] es)),.s (.ro (.az [.ag,.int .i64] (af bs)))] 131,.aq (.az [.ag,.ag] (bE l es (af bs))) 66,.aq (.az [.ag,.int .i64] (bH l es (af bs))) 137,.aq (.az [.ag,.ag] (dw l es (af bs))) 66,.aq (.az [.ag,.int .i64] (dH l es (af bs))) 137,.ay [.s (.bool (cz l es (af bs))),.aq 5,.aq 6] 131,.ay [.s (.bool (cz l es (af bs))),.aq 7,.aq 8] 131]) (.bD [.emp,.s (.int .i64 (spC l es (af bs)))]))
                 (.ab (bx (some [AV.an 0 0,.agg [.s (.bool (cz l es (af bs))),.s (.ro (.az [.ag,.ag] (bE l es (af bs)))),.s (.ro (.az [.ag,.int .i64] (bH l es (af bs))))]]))
                   (.ab (bx (some (hT th m fu aa fr fs gn)))
                     (.ab (Ds.bz th m fu)
                       (.ab (Bx.okW fr)
                         (.ab ((cz l es (af bs)=true->(0:Nat)<(bE l es (af bs)).length)/\(cz l es (af bs)=false->(0:Nat)<(bH l es (af bs)).length))
                           (.ab (bF (bE l es (af bs)))
                             (.ab (bG (bH l es (af bs)))
                               (.ite ((ct th m fu fr fs (cz l es (af bs)) (bE l es (af bs)) (bH l es (af bs))).snd.snd.snd.snd.snd !=0) (.ret (hT th (ct th m fu fr fs (cz l es (af bs)) (bE l es (af bs)) (bH l es (af bs))).fst (ct th m fu fr fs (cz l es (af bs)) (bE l es (af bs)) (bH l es (af bs))).snd.fst aa (ct th m fu fr fs (cz l es (af bs)) (bE l es (af bs)) (bH l es (af bs))).snd.snd.fst (ct th m fu fr fs (cz l es (af bs)) (bE l es (af bs)) (bH l es (af bs))).snd.snd.snd.fst gn++[.ay [.s (.bool l),.s (.ro (.az [.ag,.ag] es)),.s (.ro (.az [.ag,.int .i64] (af bs)))] 131,.aB,.aB,.aq (.az [.ag,.ag] (dw l es (af bs))) 66,.aq (.az [.ag,.int .i64] (dH l es (af bs))) 137,.ay [.s (.bool (cz l es (af bs))),.aq 5,.aq 6] 131,.ay [.s (.bool (cz l es (af bs))),.aq 7,.aq 8] 131,.ay [.s (.ag (ct th m fu fr fs (cz l es (af bs)) (bE l es (af bs)) (bH l es (af bs))).snd.snd.snd.snd.fst.fst),.s (.int .i64 (ct th m fu fr fs (cz l es (af bs)) (bE l es (af bs)) (bH l es (af bs))).snd.snd.snd.snd.fst.snd.fst)] 137]) (.bD [.emp,.s (.int .i64 (ct th m fu fr fs (cz l es (af bs)) (bE l es (af bs)) (bH l es (af bs))).snd.snd.snd.snd.snd)]))
                                 (.ab (bx (some [AV.an 0 0,.agg [.s (.bool (cz l es (af bs))),.s (.ro (.az [.ag,.ag] (dw l es (af bs)))),.s (.ro (.az [.ag,.int .i64] (dH l es (af bs))))]]))
                                   (.ab (bx (some (hT th (ct th m fu fr fs (cz l es (af bs)) (bE l es (af bs)) (bH l es (af bs))).fst (ct th m fu fr fs (cz l es (af bs)) (bE l es (af bs)) (bH l es (af bs))).snd.fst aa (ct th m fu fr fs (cz l es (af bs)) (bE l es (af bs)) (bH l es (af bs))).snd.snd.fst (ct th m fu fr fs (cz l es (af bs)) (bE l es (af bs)) (bH l es (af bs))).snd.snd.snd.fst gn)))
                                     (.ab (Ds.bz th (ct th m fu fr fs (cz l es (af bs)) (bE l es (af bs)) (bH l es (af bs))).fst (ct th m fu fr fs (cz l es (af bs)) (bE l es (af bs)) (bH l es (af bs))).snd.fst)
                                       (.ab (Bx.okW (ct th m fu fr fs (cz l es (af bs)) (bE l es (af bs)) (bH l es (af bs))).snd.snd.fst)
                                         (.ab ((cz l es (af bs)=true->(0:Nat)<(dw l es (af bs)).length)/\(cz l es (af bs)=false->(0:Nat)<(dH l es (af bs)).length))
                                           (.ab (bF (dw l es (af bs)))
                                             (.ab (bG (dH l es (af bs)))
                                               (.ret
                                                 (hT th (ct th (ct th m fu fr fs (cz l es (af bs)) (bE l es (af bs)) (bH l es (af bs))).fst (ct th m fu fr fs (cz l es (af bs)) (bE l es (af bs)) (bH l es (af bs))).snd.fst (ct th m fu fr fs (cz l es (af bs)) (bE l es (af bs)) (bH l es (af bs))).snd.snd.fst (ct th m fu fr fs (cz l es (af bs)) (bE l es (af bs)) (bH l es (af bs))).snd.snd.snd.fst (cz l es (af bs)) (dw l es (af bs)) (dH l es (af bs))).fst (ct th (ct th m fu fr fs (cz l es (af bs)) (bE l es (af bs)) (bH l es (af bs))).fst (ct th m fu fr fs (cz l es (af bs)) (bE l es (af bs)) (bH l es (af bs))).snd.fst (ct th m fu fr fs (cz l es (af bs)) (bE l es (af bs)) (bH l es (af bs))).snd.snd.fst (ct th m fu fr fs (cz l es (af bs)) (bE l es (af bs)) (bH l es (af bs))).snd.snd.snd.fst (cz l es (af bs)) (dw l es (af bs)) (dH l es (af bs))).snd.fst aa (ct th (ct th m fu fr fs (cz l es (af bs)) (bE l es (af bs)) (bH l es (af bs))).fst (ct th m fu fr fs (cz l es (af bs)) (bE l es (af bs)) (bH l es (af bs))).snd.fst (ct th m fu fr fs (cz l es (af bs)) (bE l es (af bs)) (bH l es (af bs))).snd.snd.fst (ct th m fu fr fs (cz l es (af bs)) (bE l es (af bs)) (bH l es (af bs))).snd.snd.snd.fst (cz l es (af bs)) (dw l es (af bs)) (dH l es (af bs))).snd.snd.fst (ct th (ct th m fu fr fs (cz l es (af bs)) (bE l es (af bs)) (bH l es (af bs))).fst (ct th m fu fr fs (cz l es (af bs)) (bE l es (af bs)) (bH l es (af bs))).snd.fst (ct th m fu fr fs (cz l es (af bs)) (bE l es (af bs)) (bH l es (af bs))).snd.snd.fst (ct th m fu fr fs (cz l es (af bs)) (bE l es (af bs)) (bH l es (af bs))).snd.snd.snd.fst (cz l es (af bs)) (dw l es (af bs)) (dH l es (af bs))).snd.snd.snd.fst gn++
                                                   [.ay [.s (.bool l),.s (.ro (.az [.ag,.ag] es)),.s (.ro (.az [.ag,.int .i64] (af bs)))] 131,.aB,.aB,.aB,.aB,.ay [.s (.bool (cz l es (af bs))),.aq 5,.aq 6] 131,.ay [.s (.bool (cz l es (af bs))),.aq 7,.aq 8] 131,.ay [.s (.ag (ct th m fu fr fs (cz l es (af bs)) (bE l es (af bs)) (bH l es (af bs))).snd.snd.snd.snd.fst.fst),.s (.int .i64 (ct th m fu fr fs (cz l es (af bs)) (bE l es (af bs)) (bH l es (af bs))).snd.snd.snd.snd.fst.snd.fst)] 137,.ay [.s (.ag (ct th (ct th m fu fr fs (cz l es (af bs)) (bE l es (af bs)) (bH l es (af bs))).fst (ct th m fu fr fs (cz l es (af bs)) (bE l es (af bs)) (bH l es (af bs))).snd.fst (ct th m fu fr fs (cz l es (af bs)) (bE l es (af bs)) (bH l es (af bs))).snd.snd.fst (ct th m fu fr fs (cz l es (af bs)) (bE l es (af bs)) (bH l es (af bs))).snd.snd.snd.fst (cz l es (af bs)) (dw l es (af bs)) (dH l es (af bs))).snd.snd.snd.snd.fst.fst),.s (.int .i64 (ct th (ct th m fu fr fs (cz l es (af bs)) (bE l es (af bs)) (bH l es (af bs))).fst (ct th m fu fr fs (cz l es (af bs)) (bE l es (af bs)) (bH l es (af bs))).snd.fst (ct th m fu fr fs (cz l es (af bs)) (bE l es (af bs)) (bH l es (af bs))).snd.snd.fst (ct th m fu fr fs (cz l es (af bs)) (bE l es (af bs)) (bH l es (af bs))).snd.snd.snd.fst (cz l es (af bs)) (dw l es (af bs)) (dH l es (af bs))).snd.snd.snd.snd.fst.snd.fst)] 137,.aq (.az [.ag,.int .i64] [((ct th m fu fr fs (cz l es (af bs)) (bE l es (af bs)) (bH l es (af bs))).snd.snd.snd.snd.fst.fst,(ct th m fu fr fs (cz l es (af bs)) (bE l es (af bs)) (bH l es (af bs))).snd.snd.snd.snd.fst.snd.fst,()),((ct th (ct th m fu fr fs (cz l es (af bs)) (bE l es (af bs)) (bH l es (af bs))).fst (ct th m fu fr fs (cz l es (af bs)) (bE l es (af bs)) (bH l es (af bs))).snd.fst (ct th m fu fr fs (cz l es (af bs)) (bE l es (af bs)) (bH l es (af bs))).snd.snd.fst (ct th m fu fr fs (cz l es (af bs)) (bE l es (af bs)) (bH l es (af bs))).snd.snd.snd.fst (cz l es (af bs)) (dw l es (af bs)) (dH l es (af bs))).snd.snd.snd.snd.fst.fst,(ct th (ct th m fu fr fs (cz l es (af bs)) (bE l es (af bs)) (bH l es (af bs))).fst (ct th m fu fr fs (cz l es (af bs)) (bE l es (af bs)) (bH l es (af bs))).snd.fst (ct th m fu fr fs (cz l es (af bs)) (bE l es (af bs)) (bH l es (af bs))).snd.snd.fst (ct th m fu fr fs (cz l es (af bs)) (bE l es (af bs)) (bH l es (af bs))).snd.snd.snd.fst (cz l es (af bs)) (dw l es (af bs)) (dH l es (af bs))).snd.snd.snd.snd.fst.snd.fst,())]) 137])
                                                 (.bD [.aq 13,.s (.int .i64 (ct th (ct th m fu fr fs (cz l es (af bs)) (bE l es (af bs)) (bH l es (af bs))).fst (ct th m fu fr fs (cz l es (af bs)) (bE l es (af bs)) (bH l es (af bs))).snd.fst (ct th m fu fr fs (cz l es (af bs)) (bE l es (af bs)) (bH l es (af bs))).snd.snd.fst (ct th m fu fr fs (cz l es (af bs)) (bE l es (af bs)) (bH l es (af bs))).snd.snd.snd.fst (cz l es (af bs)) (dw l es (af bs)) (dH l es (af bs))).snd.snd.snd.snd.snd)]))))))))))))))))))))))))):=by kernel_rfl
theorem abL{th:Th}{m:As}{fu:Int}{fr fs:Ws}{l:Bool}{es:List En}{bs:List Br}(hd:Ds.bz th m fu)(hf:Bx.okW fr):Ds.bz th (ct th m fu fr fs l es bs).1 (ct th m fu fr fs l es bs).2.1/\Bx.okW (ct th m fu fr fs l es bs).2.2.1:=by
 have gd:=Ds.ars (n:=Bx.bU fr 0) (s:=dG l es (af bs)) hd;unfold ct;split;exact⟨hd,hf⟩;split;exact⟨hd,hf⟩;split;exact⟨gd,hf⟩;exact⟨gd,(Bx.lT hf _).1⟩
theorem aac(bs:List Br):(af bs).length=bs.length:=by cases bs<;>rfl
theorem apQ{l:Bool}{es:List En}{bs:List Br}(ok:eb l es bs=true):(cz l es bs=true->0<(bE l es bs).length/\0<(dw l es bs).length)/\(cz l es bs=false->0<(bH l es bs).length/\0<(dH l es bs).length):=by
 have ok':=ok;simp only[eb,and_eq_true,decide_eq_true_eq]at ok';have⟨hm,h2⟩:=ok';have⟨m1,m2,_,_⟩:=eJ hm;have b1:=oP (aX es bs) (es.length+bs.length - 1) (by omega);have b2:=px (aX es bs) (es.length+bs.length - 1);have c:0<eX es bs/\eX es bs<=es.length+bs.length - 1:=⟨b1,b2⟩;simp only[cz,bE,dw,bH,dH,ok,if_true,Bool.true_and,length_take,length_drop];refine⟨λe=> ?_,λe=> ?_⟩;have:=m1 e;subst this;simp only[length_nil]at *;omega;have:=m2 e;subst this;simp only[length_nil]at *;omega
theorem amO:arP.Ok P Bx.bZ:=aR.Ok.cons ahL.wQ (aR.Ok.cons aho.sum (aR.Ok.cons (jo (gY (w9.sum mTN) 1 _) 1) (aR.Ok.cons ame.sum aR.Ok.nil)))
theorem kM:gE P Bx.bZ 112 sWs:=by
 refine gx Tryz.func112 (by kernel_rfl) (λx=>le_of_ble_eq_true (by kernel_rfl)) ?_;rintro⟨⟨(th:Th),(m:As),(fu:Int),(aa:Int),(fr:Ws),(fs:Ws),(gn:Ws)⟩,(l:Bool),(es:List En),(bs:List Br)⟩ ⟨(hd:Ds.bz th m fu),(hf:Bx.okW fr),⟨(hl1:l=true->bs=[]),(zo:l=false->es=[])⟩,(he:bF es),(hb:bG bs),_⟩ X hX hz;have fin:∀{w:Wrs},bO th m fu fr fs l es bs=w->hT th (bO th m fu fr fs l es bs).1 (bO th m fu fr fs l es bs).2.1 aa (bO th m fu fr fs l es bs).2.2.1 (bO th m fu fr fs l es bs).2.2.2.1 gn++[.aq (.az cB (bO th m fu fr fs l es bs).2.2.2.2.1) Lf.eB]=hT th w.1 w.2.1 aa w.2.2.1 w.2.2.2.1 gn++[.aq (.az cB w.2.2.2.2.1) Lf.eB]/\
  AV.bD [.aq 4,bQ (bO th m fu fr fs l es bs).2.2.2.2.2]=.bD [.aq 4,bQ w.2.2.2.2.2]:=λe=>by rw[e];exact⟨rfl,rfl⟩
 have hbb:=uI hb;refine Ds.dk hz hX (by intro y hy;cases hy) amO Tryz.func112 (ayi th m fu aa fr fs gn l es bs) ⟨?_,λh=> ?_,λh=>⟨hb.1,he,hbb,λh2=>⟨rfl,rfl,hd,hf, ?_,he,hbb, ?_⟩,λh2=>⟨he,hbb,λh3=> ?_,λh3=> ?_⟩⟩⟩;have:=he.1;have:=hb.1;exact⟨by omega,by omega⟩;have h:(es.length:Int)+bs.length=0:=by simpa using h
 have⟨f1,f2⟩:=fin (w:=(m,fu,fr,fs,[],0)) (by unfold bO;rw[if_pos (by omega)]);exact lK ⟨[(0,.az cB [],Lf.eB)],[0,1],4,[]⟩ rfl (le_refl _) (p6.same _) f2 f1;have h:¬((es.length:Int)+bs.length=0):=by simpa using h
 rw[aac];refine⟨λe=>Nat.pos_of_ne_zero λh0=>h ?_,λe=>Nat.pos_of_ne_zero λh0=>h ?_⟩;rw[hl1 e,h0];rfl;rw[zo e,h0];rfl;have h:¬((es.length:Int)+bs.length=0):=by simpa using h
 have h2:=of_decide_eq_true h2;have⟨f1,f2⟩:=fin (w:=((ct th m fu fr fs l es (af bs)).1,(ct th m fu fr fs l es (af bs)).2.1,(ct th m fu fr fs l es (af bs)).2.2.1,(ct th m fu fr fs l es (af bs)).2.2.2.1,[(ct th m fu fr fs l es (af bs)).2.2.2.2.1],(ct th m fu fr fs l es (af bs)).2.2.2.2.2)) (by unfold bO;rw[if_neg (by omega),if_pos h2]);exact lK ⟨[],[0,1],4,[]⟩ rfl (le_refl _) (p6.same _) f2 f1;have h:¬((es.length:Int)+bs.length=0):=by simpa using h
 have h2:=of_decide_eq_false h2;have h3:spC l es (af bs)≠0:=by simpa using h3
 have⟨f1,f2⟩:=fin (w:=(m,fu,fr,fs,[],spC l es (af bs))) (by unfold bO;rw[if_neg (by omega),if_neg h2,if_pos h3]);exact lK ⟨[(0,.az cB [],Lf.eB)],[0,1],4,[]⟩ rfl (le_refl _) (p6.same _) f2 f1;have h:¬((es.length:Int)+bs.length=0):=by simpa using h
 have h2:=of_decide_eq_false h2;have h3:spC l es (af bs)=0:=by simpa using h3
 have ok:=at3 (l:=l) (es:=es) (bs:=af bs) (by rw[h3];rfl);have⟨q1,q2,q3,q4,_,_,_,q5,q6,_,_⟩:=tO ok he hbb
 have hmn:dM l es (af bs)=true:=by
  simp only[eb,and_eq_true]at ok;exact ok.1
 have hsp:cz l es (af bs)=l:=by unfold cz;rw[ok,Bool.true_and]
 have⟨p1,p2⟩:=apQ ok;have n1:(cz l es (af bs)=true->0<(bE l es (af bs)).length)/\(cz l es (af bs)=false->0<(bH l es (af bs)).length):=⟨λe=>(p1 e).1,λe=>(p2 e).1⟩;have n2:(cz l es (af bs)=true->0<(dw l es (af bs)).length)/\(cz l es (af bs)=false->0<(dH l es (af bs)).length):=⟨λe=>(p1 e).2,λe=>(p2 e).2⟩;have⟨w1,w2⟩:=abL (fs:=fs) (l:=cz l es (af bs)) (es:=bE l es (af bs)) (bs:=bH l es (af bs)) hd hf;refine⟨rfl,rfl,hd,hf,n1,q1,q2,λh4=> ?_,λh4=>⟨rfl,rfl,w1,w2,n2,q3,q4, ?_⟩⟩;have h4:(ct th m fu fr fs (cz l es (af bs)) (bE l es (af bs)) (bH l es (af bs))).2.2.2.2.2≠0:=by simpa using h4
 have⟨f1,f2⟩:=fin (w:=((ct th m fu fr fs (cz l es (af bs)) (bE l es (af bs)) (bH l es (af bs))).1,(ct th m fu fr fs (cz l es (af bs)) (bE l es (af bs)) (bH l es (af bs))).2.1,(ct th m fu fr fs (cz l es (af bs)) (bE l es (af bs)) (bH l es (af bs))).2.2.1,(ct th m fu fr fs (cz l es (af bs)) (bE l es (af bs)) (bH l es (af bs))).2.2.2.1,[],(ct th m fu fr fs (cz l es (af bs)) (bE l es (af bs)) (bH l es (af bs))).2.2.2.2.2)) (by unfold bO;rw[if_neg (by omega),if_neg h2,if_neg (by rw[h3];simp),if_pos h4]);exact lK ⟨[(0,.az cB [],Lf.eB)],[0,1],4,[]⟩ rfl (le_refl _) (p6.same _) f2 f1;have h4:¬(ct th m fu fr fs (cz l es (af bs)) (bE l es (af bs)) (bH l es (af bs))).2.2.2.2.2≠0:=by simpa using h4
 have⟨f1,f2⟩:=fin (w:=two (ct th m fu fr fs (cz l es (af bs)) (bE l es (af bs)) (bH l es (af bs))) (ct th (ct th m fu fr fs (cz l es (af bs)) (bE l es (af bs)) (bH l es (af bs))).1 (ct th m fu fr fs (cz l es (af bs)) (bE l es (af bs)) (bH l es (af bs))).2.1 (ct th m fu fr fs (cz l es (af bs)) (bE l es (af bs)) (bH l es (af bs))).2.2.1 (ct th m fu fr fs (cz l es (af bs)) (bE l es (af bs)) (bH l es (af bs))).2.2.2.1 (cz l es (af bs)) (dw l es (af bs)) (dH l es (af bs)))) (by unfold bO;rw[if_neg (by omega),if_neg h2,if_neg (by rw[h3];simp),if_neg h4]);exact lK ⟨[],[0,1],4,[]⟩ rfl (le_refl _) (p6.same _) f2 f1
abbrev XC:Type:=XT×Int×Int×ByteArray×ByteArray
abbrev fP1:FuncId:=72
abbrev fD1:FuncId:=75
abbrev uV(s:ByteArray):au:=.ay [.s (.ag s)] 9
abbrev se(th:Th)(m:As)(fu aa:Int)(fr fs gn:Ws)(ad val:ByteArray):List au:=hT th m fu aa fr fs gn++[uV ad,uV val]
abbrev sf(th:Th)(m:As)(fu aa:Int)(fr fs gn:Ws)(ad:ByteArray):List au:=hT th m fu aa fr fs gn++[uV ad]
def arQ(f:Nat)(th:Th)(m:As)(fu:Int)(fr:Ws)(n ae:Int)(ad val:ByteArray):List Prop:=[Ds.bz th m fu,Bx.okW fr,0<=n/\n<=65536,1<=ae/\ae<=17,18<=ae+(f:Int),1<=ad.size/\ad.size<=24,val.size<=100]
def qH(th:Th)(ad:ByteArray)(op:Option ByteArray)(f:Nat)(m:As)(fu:Int)(fr fs gn:Ws)(n ae:Int):As:=(xG th ad op f m fu fr fs gn n ae).1
def qI(th:Th)(ad:ByteArray)(op:Option ByteArray)(f:Nat)(m:As)(fu:Int)(fr fs gn:Ws)(n ae:Int):Int:=(xG th ad op f m fu fr fs gn n ae).2.1
def qJ(th:Th)(ad:ByteArray)(op:Option ByteArray)(f:Nat)(m:As)(fu:Int)(fr fs gn:Ws)(n ae:Int):Ws:=(xG th ad op f m fu fr fs gn n ae).2.2.1
def sg(th:Th)(ad:ByteArray)(op:Option ByteArray)(f:Nat)(m:As)(fu:Int)(fr fs gn:Ws)(n ae:Int):Ws:=(xG th ad op f m fu fr fs gn n ae).2.2.2.1
def tP(th:Th)(ad:ByteArray)(op:Option ByteArray)(f:Nat)(m:As)(fu:Int)(fr fs gn:Ws)(n ae:Int):Ws:=(xG th ad op f m fu fr fs gn n ae).2.2.2.2.1
def uW(th:Th)(ad:ByteArray)(op:Option ByteArray)(f:Nat)(m:As)(fu:Int)(fr fs gn:Ws)(n ae:Int):List Br:=(xG th ad op f m fu fr fs gn n ae).2.2.2.2.2.1
def tQ(th:Th)(ad:ByteArray)(op:Option ByteArray)(f:Nat)(m:As)(fu:Int)(fr fs gn:Ws)(n ae:Int):Int:=(xG th ad op f m fu fr fs gn n ae).2.2.2.2.2.2
abbrev yO(f:Nat):Spec XC:=⟨λ(_,n,ae,ad,_)=>[.an 0 0,bQ n,bQ ae,.s (.ag ad),.fn fP1 [.an 4 0,.an 5 0]],λ((th,m,fu,aa,fr,fs,gn),_,_,ad,val)=>se th m fu aa fr fs gn ad val,
 λ((th,m,fu,_,fr,_,_),n,ae,ad,val)=>arQ f th m fu fr n ae ad val,
 λ((th,m,fu,aa,fr,fs,gn),n,ae,ad,val)=>se th (qH th ad (some val) f m fu fr fs gn n ae) (qI th ad (some val) f m fu fr fs gn n ae) aa (qJ th ad (some val) f m fu fr fs gn n ae) (sg th ad (some val) f m fu fr fs gn n ae) (tP th ad (some val) f m fu fr fs gn n ae) ad val++[.aq (.az cB (uW th ad (some val) f m fu fr fs gn n ae)) Lf.eB],
 λ((th,m,fu,_,fr,fs,gn),n,ae,ad,val)=>.bD [.aq 6,bQ (tQ th ad (some val) f m fu fr fs gn n ae)]⟩
abbrev yP(f:Nat):Spec XC:=⟨λ(_,n,ae,ad,_)=>[.an 0 0,bQ n,bQ ae,.s (.ag ad),.fn fD1 [.an 4 0]],λ((th,m,fu,aa,fr,fs,gn),_,_,ad,_)=>sf th m fu aa fr fs gn ad,
 λ((th,m,fu,_,fr,_,_),n,ae,ad,val)=>arQ f th m fu fr n ae ad val,
 λ((th,m,fu,aa,fr,fs,gn),n,ae,ad,_)=>sf th (qH th ad none f m fu fr fs gn n ae) (qI th ad none f m fu fr fs gn n ae) aa (qJ th ad none f m fu fr fs gn n ae) (sg th ad none f m fu fr fs gn n ae) (tP th ad none f m fu fr fs gn n ae) ad++[.aq (.az cB (uW th ad none f m fu fr fs gn n ae)) Lf.eB],
 λ((th,m,fu,_,fr,fs,gn),n,ae,ad,_)=>.bD [.aq 5,bQ (tQ th ad none f m fu fr fs gn n ae)]⟩
def amP(i:Nat):(ByteArray->RM (XC×List Nat))->RM (XC×List Nat):=λk=>.aA i λo=>match o with
 |some (.ay [.s (.ag s)] _)=>k s
 |_=>.fail "no text"
def apR:List AV->RM (XC×List Nat)
 |[t,n,d,.s (.ag _),.fn _ [.an i 0,.an j 0]]=>(mT [t]).bind λ(X,σ)=>match n.cP,d.cP with
  |some (_,_,n),some (_,_,d)=>amP i λad=>amP j λval=>.ret ((X,n,d,ad,val),σ++[i,j])
  |_,_=>.fail "no numbers"
 |_=>.fail "change: arguments"
def apS:List AV->RM (XC×List Nat)
 |[t,n,d,.s (.ag _),.fn _ [.an i 0]]=>(mT [t]).bind λ(X,σ)=>match n.cP,d.cP with
  |some (_,_,n),some (_,_,d)=>amP i λad=>.ret ((X,n,d,ad,empty),σ++[i])
  |_,_=>.fail "no numbers"
 |_=>.fail "change: arguments"
def mNo:List AV->RM ((XT×Int×Int)×List Nat)
 |[t,n,d]=>(mT [t]).bind λ(X,σ)=>match n.cP,d.cP with
  |some (_,_,n),some (_,_,d)=>.ret ((X,n,d),σ)
  |_,_=>.fail "no numbers"
 |_=>.fail "node: arguments"
def mLv:List AV->RM ((XT×Int)×List Nat)
 |[t,n]=>(mT [t]).bind λ(X,σ)=>match n.cP with
  |some (_,_,n)=>.ret ((X,n),σ)
  |_=>.fail "no numbers"
 |_=>.fail "leave: arguments"
abbrev aad:=cC sNo mNo
abbrev amQ:=cC sLv mLv
abbrev aae:=arO (cC sWs mTN)
abbrev arR:=wQ [rT,fc,fc] [rT] (λ(l,_,_,())=>[(l:List En).length<=100000,jk (cg l)]) (λ(l,ad,val,())=>(bX l ad val,()))
abbrev arS:=cU [rT,fc] [rT,dg] (λ(l,_,())=>[(l:List En).length<=100000,jk (cg l)]) (λ(l,ad,())=>(cN l ad,iV l ad,()))
abbrev aua:=cU [yG,fc] [bS] (λ(l,_,())=>[(l:List Br).length<=1000000,jk (nw l)]) (λ(l,ad,())=>(br l ad,()))
def p7(f:Nat):aR:=[(77,aad),(149,amQ),(112,aae),(73,arR),(79,aua),(174,sJ),(144,cC (yO f) apR)]
def p8(f:Nat):aR:=[(77,aad),(149,amQ),(112,aae),(76,arS),(79,aua),(174,sJ),(144,cC (yP f) apS)]
abbrev eN:TypeId:=131
def af7:List (Nat×Norm):=[(5,⟨[],[0,1,4,12],6,[]⟩),(10,⟨[],[0,1,2,3,4,12],6,[]⟩),(14,⟨[],[0,1,12,13,14,15],6,[]⟩),(18,⟨[],[0,1,12,14,15],6,[]⟩)]
noncomputable def awk(th:Th)(m:As)(fu aa:Int)(fr fs gn:Ws)(n:Int)(ad val:ByteArray)(es:List En)(bs:List Br):cn:=
 ⟨sl 106 [(0,.an 0 0),(1,bQ n),(4,.fn fP1 [.an 4 0,.an 5 0]),(12,.an 6 0)],se th m fu aa fr fs gn ad val++[obN true es bs eN],hr Tryz.f144 5,{}⟩
noncomputable def amR(th:Th)(m:As)(fu aa:Int)(fr fs gn:Ws)(n ae:Int)(ad val:ByteArray)(l:Bool)(es:List En)(bs:List Br):cn:=
 ⟨sl 106 [(0,.an 0 0),(1,bQ n),(2,bQ ae),(3,.s (.ag ad)),(4,.fn fP1 [.an 4 0,.an 5 0]),(12,.an 6 0)],se th m fu aa fr fs gn ad val++[obN l es bs eN],hr Tryz.f144 10,{}⟩
noncomputable def amS(th:Th)(m:As)(fu aa:Int)(fr fs gn:Ws)(n:Int)(ad val:ByteArray)(l:Bool)(es:List En)(bs:List Br)(k e:Int)(r:List Br):cn:=
 ⟨sl 106 [(0,.an 0 0),(1,bQ n),(12,.an 6 0),(13,bQ e),(14,bQ k),(15,.aq 7)],se th m fu aa fr fs gn ad val++[obN l es bs eN,.aq (.az cB r) Lf.eB],hr Tryz.f144 14,{}⟩
noncomputable def amT(th:Th)(m:As)(fu aa:Int)(fr fs gn:Ws)(n:Int)(ad val:ByteArray)(l:Bool)(es:List En)(bs:List Br)(k:Int)(r:List Br):cn:=
 ⟨sl 106 [(0,.an 0 0),(1,bQ n),(12,.an 6 0),(14,bQ k),(15,.aq 7)],se th m fu aa fr fs gn ad val++[obN l es bs eN,.aq (.az cB r) Lf.eB],hr Tryz.f144 18,{}⟩
def af8:List (Nat×Norm):=[(5,⟨[],[0,1,4,12],5,[]⟩),(10,⟨[],[0,1,2,3,4,12],5,[]⟩),(14,⟨[],[0,1,12,13,14,15],5,[]⟩),(18,⟨[],[0,1,12,14,15],5,[]⟩)]
noncomputable def awl(th:Th)(m:As)(fu aa:Int)(fr fs gn:Ws)(n:Int)(ad:ByteArray)(es:List En)(bs:List Br):cn:=
 ⟨sl 106 [(0,.an 0 0),(1,bQ n),(4,.fn fD1 [.an 4 0]),(12,.an 5 0)],sf th m fu aa fr fs gn ad++[obN true es bs eN],hr Tryz.f144 5,{}⟩
noncomputable def amU(th:Th)(m:As)(fu aa:Int)(fr fs gn:Ws)(n ae:Int)(ad:ByteArray)(l:Bool)(es:List En)(bs:List Br):cn:=
 ⟨sl 106 [(0,.an 0 0),(1,bQ n),(2,bQ ae),(3,.s (.ag ad)),(4,.fn fD1 [.an 4 0]),(12,.an 5 0)],sf th m fu aa fr fs gn ad++[obN l es bs eN],hr Tryz.f144 10,{}⟩
noncomputable def amV(th:Th)(m:As)(fu aa:Int)(fr fs gn:Ws)(n:Int)(ad:ByteArray)(l:Bool)(es:List En)(bs:List Br)(k e:Int)(r:List Br):cn:=
 ⟨sl 106 [(0,.an 0 0),(1,bQ n),(12,.an 5 0),(13,bQ e),(14,bQ k),(15,.aq 6)],sf th m fu aa fr fs gn ad++[obN l es bs eN,.aq (.az cB r) Lf.eB],hr Tryz.f144 14,{}⟩
noncomputable def amW(th:Th)(m:As)(fu aa:Int)(fr fs gn:Ws)(n:Int)(ad:ByteArray)(l:Bool)(es:List En)(bs:List Br)(k:Int)(r:List Br):cn:=
 ⟨sl 106 [(0,.an 0 0),(1,bQ n),(12,.an 5 0),(14,bQ k),(15,.aq 6)],sf th m fu aa fr fs gn ad++[obN l es bs eN,.aq (.az cB r) Lf.eB],hr Tryz.f144 18,{}⟩
theorem ayj(f:Nat)(th:Th)(m:As)(fu aa:Int)(fr fs gn:Ws)(n ae:Int)(ad val:ByteArray):run P (p7 f).sum Tryz.f144 af7 (start Tryz.f144 [.an 0 0,bQ n,bQ ae,.s (.ag ad),.fn fP1 [.an 4 0,.an 5 0]] (se th m fu aa fr fs gn ad val)) (inl:=[fP1])=
 Tree.ab (bx (some [AV.an 0 0,.s (.int .i64 n),.s (.int .i64 ae)])) (.ab (bx (some (hT th m fu aa fr fs gn))) (.ab (Ds.bz th m fu) (.ab (aG n) (.ite (gF th m n ae !=0) (.ret (hT th m fu aa fr fs gn++[.ay [.s (.ag ad)] 9,.ay [.s (.ag val)] 9,.ay [.s (.bool (lB th m n ae)),.s (.ro (.az [.ag,.ag] (cv th m n ae))),.s (.ro (.az [.ag,.int .i64] (bh th m n ae)))] 131]) (.bD [.emp,.s (.int .i64 (gF th m n ae))])) (.ite (lB th m n ae) (.at (.mk (sl 106 [(0,.an 0 0),(1,.s (.int .i64 n)),(4,.fn 72 [.an 4 0,.an 5 0]),(12,.an 6 0)]) (hT th m fu aa fr fs gn++[.ay [.s (.ag ad)] 9,.ay [.s (.ag val)] 9,.ay [.s (.bool (lB th m n ae)),.s (.ro (.az [.ag,.ag] (cv th m n ae))),.s (.ro (.az [.ag,.int .i64] (bh th m n ae)))] 131]) (hr Tryz.f144 5) (.mk none false 0 [] 0))) (.at (amR th m fu aa fr fs gn n ae ad val (lB th m n ae) (cv th m n ae) (bh th m n ae)))))))):=by kernel_rfl
theorem awm(f:Nat)(th:Th)(m:As)(fu aa:Int)(fr fs gn:Ws)(n:Int)(ad val:ByteArray)(es:List En)(bs:List Br):run P (p7 f).sum Tryz.f144 af7 (awk th m fu aa fr fs gn n ad val es bs) (inl:=[fP1])=
 Tree.ab (es.length<=100000) (.ab (jk (cg es)) (.ab (bx (some [AV.an 0 0,.s (.int .i64 n)])) (.ab (bx (some (hT th m fu aa fr fs gn))) (.ab (bx (some [AV.an 0 0,.agg [.s (.bool true),.s (.ro (.az [.ag,.ag] (bX es ad val))),.s (.ro (.az [.ag,.int .i64] bs))]])) (.ab (bx (some (hT th m fu aa fr (jW fs n) (qE fs gn n)))) (.ab (Ds.bz th m fu) (.ab (Bx.okW fr) (.ab (abK true (bX es ad val) bs) (.ab (bF (bX es ad val)) (.ab (bG bs) (.ret (hT th (bO th m fu fr (jW fs n) true (bX es ad val) bs).fst (bO th m fu fr (jW fs n) true (bX es ad val) bs).snd.fst aa (bO th m fu fr (jW fs n) true (bX es ad val) bs).snd.snd.fst (bO th m fu fr (jW fs n) true (bX es ad val) bs).snd.snd.snd.fst (qE fs gn n)++[.ay [.s (.ag ad)] 9,.ay [.s (.ag val)] 9,.ay [.s (.bool true),.aq 7,.s (.ro (.az [.ag,.int .i64] bs))] 131,.aB,.aq (.az [.ag,.int .i64] (bO th m fu fr (jW fs n) true (bX es ad val) bs).snd.snd.snd.snd.fst) 137]) (.bD [.aq 8,.s (.int .i64 (bO th m fu fr (jW fs n) true (bX es ad val) bs).snd.snd.snd.snd.snd)])))))))))))):=by kernel_rfl
theorem aub(f:Nat)(th:Th)(m:As)(fu aa:Int)(fr fs gn:Ws)(n ae:Int)(ad val:ByteArray)(l:Bool)(es:List En)(bs:List Br):run P (p7 f).sum Tryz.f144 af7 (amR th m fu aa fr fs gn n ae ad val l es bs) (inl:=[fP1])=
 Tree.ite ((↑bs.length:Int)==0) (.ret (hT th m fu aa fr fs gn++[.ay [.s (.ag ad)] 9,.ay [.s (.ag val)] 9,.ay [.s (.bool l),.s (.ro (.az [.ag,.ag] es)),.s (.ro (.az [.ag,.int .i64] bs))] 131]) (.bD [.emp,.s (.aZ .i64 4)])) (.ab (bs.length<=1000000) (.ab (jk (nw bs)) (.ab ((0:Int)<=br bs ad) (.ab (br bs ad<(↑bs.length:Int)) (.ab (aG (ae+1)) (.ab (bx (some [AV.an 0 0,.s (.int .i64 (bs.getD (br bs ad).toNat (CL.d [.ag,.int .i64])).snd.fst),.s (.int .i64 (ae+1)),.s (.ag ad),.fn 72 [.an 4 0,.an 5 0]])) (.ab (bx (some (hT th m fu aa fr fs gn++[.ay [.s (.ag ad)] 9,.ay [.s (.ag val)] 9]))) (.ab (Ds.bz th m fu) (.ab (Bx.okW fr) (.ab ((0:Int)<=(bs.getD (br bs ad).toNat (CL.d [.ag,.int .i64])).snd.fst/\(bs.getD (br bs ad).toNat (CL.d [.ag,.int .i64])).snd.fst<=65536) (.ab ((1:Int)<=ae+1/\ae+1<=17) (.ab ((18:Int)<=ae+1+(↑f:Int)) (.ab ((1:Nat)<=ad.size/\ad.size<=24) (.ab (val.size<=100) (.at (amS th (qH th ad (some val) f m fu fr fs gn (bs.getD (br bs ad).toNat (CL.d [.ag,.int .i64])).snd.fst (ae+1)) (qI th ad (some val) f m fu fr fs gn (bs.getD (br bs ad).toNat (CL.d [.ag,.int .i64])).snd.fst (ae+1)) aa (qJ th ad (some val) f m fu fr fs gn (bs.getD (br bs ad).toNat (CL.d [.ag,.int .i64])).snd.fst (ae+1)) (sg th ad (some val) f m fu fr fs gn (bs.getD (br bs ad).toNat (CL.d [.ag,.int .i64])).snd.fst (ae+1)) (tP th ad (some val) f m fu fr fs gn (bs.getD (br bs ad).toNat (CL.d [.ag,.int .i64])).snd.fst (ae+1)) n ad val l es bs (br bs ad) (tQ th ad (some val) f m fu fr fs gn (bs.getD (br bs ad).toNat (CL.d [.ag,.int .i64])).snd.fst (ae+1)) (uW th ad (some val) f m fu fr fs gn (bs.getD (br bs ad).toNat (CL.d [.ag,.int .i64])).snd.fst (ae+1)))))))))))))))))):=by kernel_rfl
theorem auc(f:Nat)(th:Th)(m:As)(fu aa:Int)(fr fs gn:Ws)(n:Int)(ad val:ByteArray)(l:Bool)(es:List En)(bs:List Br)(k e:Int)(r:List Br):run P (p7 f).sum Tryz.f144 af7 (amS th m fu aa fr fs gn n ad val l es bs k e r) (inl:=[fP1])=
 Tree.ite (e !=0) (.ret (hT th m fu aa fr fs gn++[.ay [.s (.ag ad)] 9,.ay [.s (.ag val)] 9,.ay [.s (.bool l),.s (.ro (.az [.ag,.ag] es)),.s (.ro (.az [.ag,.int .i64] bs))] 131,.aq (.az [.ag,.int .i64] r) 137]) (.bD [.emp,.s (.int .i64 e)])) (.ite (decide ((↑r.length:Int)>0)) (.ab ((0:Int)<=k) (.ab (k<(↑bs.length:Int)) (.ab ((0:Int)<=0) (.ab ((0:Int)<(↑r.length:Int)) (.at (.mk (sl 106 [(0,.an 0 0),(1,.s (.int .i64 n)),(12,.an 6 0),(14,.s (.int .i64 k)),(15,.aq 7)]) (hT th m fu aa fr fs gn++[.ay [.s (.ag ad)] 9,.ay [.s (.ag val)] 9,.ay [.s (.bool l),.s (.ro (.az [.ag,.ag] es)),.s (.ro (.az [.ag,.int .i64] bs))] 131,.aq (.az [.ag,.int .i64] (r.set 0 ((bs.getD k.toNat (CL.d [.ag,.int .i64])).fst,(r.getD 0 (CL.d [.ag,.int .i64])).snd))) 137]) (hr Tryz.f144 18) (.mk none false 0 [] 0))))))) (.at (amT th m fu aa fr fs gn n ad val l es bs k r))):=by kernel_rfl
theorem aud(f:Nat)(th:Th)(m:As)(fu aa:Int)(fr fs gn:Ws)(n:Int)(ad val:ByteArray)(l:Bool)(es:List En)(bs:List Br)(k:Int)(r:List Br):run P (p7 f).sum Tryz.f144 af7 (amT th m fu aa fr fs gn n ad val l es bs k r) (inl:=[fP1])=
 Tree.ab ((0:Int)<=0) (.ab ((0:Int)<=k) (.ab (k<=(↑bs.length:Int)) (.ab (aG (k+1)) (.ab ((0:Int)<=k+1) (.ab (k+1<=(↑bs.length:Int)) (.ab ((↑bs.length:Int)<=(↑bs.length:Int)) (.ab ([(List.drop (Int.toNat 0) (List.take k.toNat bs),()),(r,()),(List.drop (k+1).toNat (List.take (↑bs.length:Int).toNat bs),())].length<=100) (.ab ((cQ [(List.drop (Int.toNat 0) (List.take k.toNat bs),()),(r,()),(List.drop (k+1).toNat (List.take (↑bs.length:Int).toNat bs),())]).length<=100000) (.ab (bx (some [AV.an 0 0,.s (.int .i64 n)])) (.ab (bx (some (hT th m fu aa fr fs gn))) (.ab (bx (some [AV.an 0 0,.agg [.s (.bool l),.s (.ro (.az [.ag,.ag] es)),.s (.ro (.az [.ag,.int .i64] (cQ [(List.drop (Int.toNat 0) (List.take k.toNat bs),()),(r,()),(List.drop (k+1).toNat (List.take (↑bs.length:Int).toNat bs),())])))]])) (.ab (bx (some (hT th m fu aa fr (jW fs n) (qE fs gn n)))) (.ab (Ds.bz th m fu) (.ab (Bx.okW fr) (.ab (abK l es (cQ [(List.drop (Int.toNat 0) (List.take k.toNat bs),()),(r,()),(List.drop (k+1).toNat (List.take (↑bs.length:Int).toNat bs),())])) (.ab (bF es) (.ab (bG (cQ [(List.drop (Int.toNat 0) (List.take k.toNat bs),()),(r,()),(List.drop (k+1).toNat (List.take (↑bs.length:Int).toNat bs),())])) (.ret (hT th (bO th m fu fr (jW fs n) l es (cQ [(List.drop (Int.toNat 0) (List.take k.toNat bs),()),(r,()),(List.drop (k+1).toNat (List.take (↑bs.length:Int).toNat bs),())])).fst (bO th m fu fr (jW fs n) l es (cQ [(List.drop (Int.toNat 0) (List.take k.toNat bs),()),(r,()),(List.drop (k+1).toNat (List.take (↑bs.length:Int).toNat bs),())])).snd.fst aa (bO th m fu fr (jW fs n) l es (cQ [(List.drop (Int.toNat 0) (List.take k.toNat bs),()),(r,()),(List.drop (k+1).toNat (List.take (↑bs.length:Int).toNat bs),())])).snd.snd.fst (bO th m fu fr (jW fs n) l es (cQ [(List.drop (Int.toNat 0) (List.take k.toNat bs),()),(r,()),(List.drop (k+1).toNat (List.take (↑bs.length:Int).toNat bs),())])).snd.snd.snd.fst (qE fs gn n)++[.ay [.s (.ag ad)] 9,.ay [.s (.ag val)] 9,.ay [.s (.bool l),.s (.ro (.az [.ag,.ag] es)),.aq 9] 131,.aB,.aq (.az yL [(List.drop (Int.toNat 0) (List.take k.toNat bs),()),(r,()),(List.drop (k+1).toNat (List.take (↑bs.length:Int).toNat bs),())]) 129,.aB,.aq (.az [.ag,.int .i64] (bO th m fu fr (jW fs n) l es (cQ [(List.drop (Int.toNat 0) (List.take k.toNat bs),()),(r,()),(List.drop (k+1).toNat (List.take (↑bs.length:Int).toNat bs),())])).snd.snd.snd.snd.fst) 137]) (.bD [.aq 10,.s (.int .i64 (bO th m fu fr (jW fs n) l es (cQ [(List.drop (Int.toNat 0) (List.take k.toNat bs),()),(r,()),(List.drop (k+1).toNat (List.take (↑bs.length:Int).toNat bs),())])).snd.snd.snd.snd.snd)]))))))))))))))))))):=by kernel_rfl
theorem ayk(f:Nat)(th:Th)(m:As)(fu aa:Int)(fr fs gn:Ws)(n ae:Int)(ad:ByteArray):run P (p8 f).sum Tryz.f144 af8 (start Tryz.f144 [.an 0 0,bQ n,bQ ae,.s (.ag ad),.fn fD1 [.an 4 0]] (sf th m fu aa fr fs gn ad)) (inl:=[fD1])=
 Tree.ab (bx (some [AV.an 0 0,.s (.int .i64 n),.s (.int .i64 ae)])) (.ab (bx (some (hT th m fu aa fr fs gn))) (.ab (Ds.bz th m fu) (.ab (aG n) (.ite (gF th m n ae !=0) (.ret (hT th m fu aa fr fs gn++[.ay [.s (.ag ad)] 9,.ay [.s (.bool (lB th m n ae)),.s (.ro (.az [.ag,.ag] (cv th m n ae))),.s (.ro (.az [.ag,.int .i64] (bh th m n ae)))] 131]) (.bD [.emp,.s (.int .i64 (gF th m n ae))])) (.ite (lB th m n ae) (.at (.mk (sl 106 [(0,.an 0 0),(1,.s (.int .i64 n)),(4,.fn 75 [.an 4 0]),(12,.an 5 0)]) (hT th m fu aa fr fs gn++[.ay [.s (.ag ad)] 9,.ay [.s (.bool (lB th m n ae)),.s (.ro (.az [.ag,.ag] (cv th m n ae))),.s (.ro (.az [.ag,.int .i64] (bh th m n ae)))] 131]) (hr Tryz.f144 5) (.mk none false 0 [] 0))) (.at (amU th m fu aa fr fs gn n ae ad (lB th m n ae) (cv th m n ae) (bh th m n ae)))))))):=by kernel_rfl
theorem awn(f:Nat)(th:Th)(m:As)(fu aa:Int)(fr fs gn:Ws)(n:Int)(ad:ByteArray)(es:List En)(bs:List Br):run P (p8 f).sum Tryz.f144 af8 (awl th m fu aa fr fs gn n ad es bs) (inl:=[fD1])=
 Tree.ab (es.length<=100000) (.ab (jk (cg es)) (.ite (!iV es ad) (.ret (hT th m fu aa fr fs gn++[.ay [.s (.ag ad)] 9,.ay [.s (.bool true),.emp,.s (.ro (.az [.ag,.int .i64] bs))] 131,.aq (.az [.ag,.ag] (cN es ad)) 66]) (.bD [.emp,.s (.aZ .i64 5)])) (.ab (bx (some [AV.an 0 0,.s (.int .i64 n)])) (.ab (bx (some (hT th m fu aa fr fs gn))) (.ab (bx (some [AV.an 0 0,.agg [.s (.bool true),.s (.ro (.az [.ag,.ag] (cN es ad))),.s (.ro (.az [.ag,.int .i64] bs))]])) (.ab (bx (some (hT th m fu aa fr (jW fs n) (qE fs gn n)))) (.ab (Ds.bz th m fu) (.ab (Bx.okW fr) (.ab (abK true (cN es ad) bs) (.ab (bF (cN es ad)) (.ab (bG bs) (.ret (hT th (bO th m fu fr (jW fs n) true (cN es ad) bs).fst (bO th m fu fr (jW fs n) true (cN es ad) bs).snd.fst aa (bO th m fu fr (jW fs n) true (cN es ad) bs).snd.snd.fst (bO th m fu fr (jW fs n) true (cN es ad) bs).snd.snd.snd.fst (qE fs gn n)++[.ay [.s (.ag ad)] 9,.ay [.s (.bool true),.aq 6,.s (.ro (.az [.ag,.int .i64] bs))] 131,.aB,.aq (.az [.ag,.int .i64] (bO th m fu fr (jW fs n) true (cN es ad) bs).snd.snd.snd.snd.fst) 137]) (.bD [.aq 7,.s (.int .i64 (bO th m fu fr (jW fs n) true (cN es ad) bs).snd.snd.snd.snd.snd)]))))))))))))):=by kernel_rfl
theorem aue(f:Nat)(th:Th)(m:As)(fu aa:Int)(fr fs gn:Ws)(n ae:Int)(ad:ByteArray)(l:Bool)(es:List En)(bs:List Br):run P (p8 f).sum Tryz.f144 af8 (amU th m fu aa fr fs gn n ae ad l es bs) (inl:=[fD1])=
 Tree.ite ((↑bs.length:Int)==0) (.ret (hT th m fu aa fr fs gn++[.ay [.s (.ag ad)] 9,.ay [.s (.bool l),.s (.ro (.az [.ag,.ag] es)),.s (.ro (.az [.ag,.int .i64] bs))] 131]) (.bD [.emp,.s (.aZ .i64 4)])) (.ab (bs.length<=1000000) (.ab (jk (nw bs)) (.ab ((0:Int)<=br bs ad) (.ab (br bs ad<(↑bs.length:Int)) (.ab (aG (ae+1)) (.ab (bx (some [AV.an 0 0,.s (.int .i64 (bs.getD (br bs ad).toNat (CL.d [.ag,.int .i64])).snd.fst),.s (.int .i64 (ae+1)),.s (.ag ad),.fn 75 [.an 4 0]])) (.ab (bx (some (hT th m fu aa fr fs gn++[.ay [.s (.ag ad)] 9]))) (.ab (Ds.bz th m fu) (.ab (Bx.okW fr) (.ab ((0:Int)<=(bs.getD (br bs ad).toNat (CL.d [.ag,.int .i64])).snd.fst/\(bs.getD (br bs ad).toNat (CL.d [.ag,.int .i64])).snd.fst<=65536) (.ab ((1:Int)<=ae+1/\ae+1<=17) (.ab ((18:Int)<=ae+1+(↑f:Int)) (.ab ((1:Nat)<=ad.size/\ad.size<=24) (.ab (empty.size<=100) (.at (amV th (qH th ad none f m fu fr fs gn (bs.getD (br bs ad).toNat (CL.d [.ag,.int .i64])).snd.fst (ae+1)) (qI th ad none f m fu fr fs gn (bs.getD (br bs ad).toNat (CL.d [.ag,.int .i64])).snd.fst (ae+1)) aa (qJ th ad none f m fu fr fs gn (bs.getD (br bs ad).toNat (CL.d [.ag,.int .i64])).snd.fst (ae+1)) (sg th ad none f m fu fr fs gn (bs.getD (br bs ad).toNat (CL.d [.ag,.int .i64])).snd.fst (ae+1)) (tP th ad none f m fu fr fs gn (bs.getD (br bs ad).toNat (CL.d [.ag,.int .i64])).snd.fst (ae+1)) n ad l es bs (br bs ad) (tQ th ad none f m fu fr fs gn (bs.getD (br bs ad).toNat (CL.d [.ag,.int .i64])).snd.fst (ae+1)) (uW th ad none f m fu fr fs gn (bs.getD (br bs ad).toNat (CL.d [.ag,.int .i64])).snd.fst (ae+1)))))))))))))))))):=by kernel_rfl
theorem auf(f:Nat)(th:Th)(m:As)(fu aa:Int)(fr fs gn:Ws)(n:Int)(ad:ByteArray)(l:Bool)(es:List En)(bs:List Br)(k e:Int)(r:List Br):run P (p8 f).sum Tryz.f144 af8 (amV th m fu aa fr fs gn n ad l es bs k e r) (inl:=[fD1])=
 Tree.ite (e !=0) (.ret (hT th m fu aa fr fs gn++[.ay [.s (.ag ad)] 9,.ay [.s (.bool l),.s (.ro (.az [.ag,.ag] es)),.s (.ro (.az [.ag,.int .i64] bs))] 131,.aq (.az [.ag,.int .i64] r) 137]) (.bD [.emp,.s (.int .i64 e)])) (.ite (decide ((↑r.length:Int)>0)) (.ab ((0:Int)<=k) (.ab (k<(↑bs.length:Int)) (.ab ((0:Int)<=0) (.ab ((0:Int)<(↑r.length:Int)) (.at (.mk (sl 106 [(0,.an 0 0),(1,.s (.int .i64 n)),(12,.an 5 0),(14,.s (.int .i64 k)),(15,.aq 6)]) (hT th m fu aa fr fs gn++[.ay [.s (.ag ad)] 9,.ay [.s (.bool l),.s (.ro (.az [.ag,.ag] es)),.s (.ro (.az [.ag,.int .i64] bs))] 131,.aq (.az [.ag,.int .i64] (r.set 0 ((bs.getD k.toNat (CL.d [.ag,.int .i64])).fst,(r.getD 0 (CL.d [.ag,.int .i64])).snd))) 137]) (hr Tryz.f144 18) (.mk none false 0 [] 0))))))) (.at (amW th m fu aa fr fs gn n ad l es bs k r))):=by kernel_rfl
theorem aug(f:Nat)(th:Th)(m:As)(fu aa:Int)(fr fs gn:Ws)(n:Int)(ad:ByteArray)(l:Bool)(es:List En)(bs:List Br)(k:Int)(r:List Br):run P (p8 f).sum Tryz.f144 af8 (amW th m fu aa fr fs gn n ad l es bs k r) (inl:=[fD1])=
 Tree.ab ((0:Int)<=0) (.ab ((0:Int)<=k) (.ab (k<=(↑bs.length:Int)) (.ab (aG (k+1)) (.ab ((0:Int)<=k+1) (.ab (k+1<=(↑bs.length:Int)) (.ab ((↑bs.length:Int)<=(↑bs.length:Int)) (.ab ([(List.drop (Int.toNat 0) (List.take k.toNat bs),()),(r,()),(List.drop (k+1).toNat (List.take (↑bs.length:Int).toNat bs),())].length<=100) (.ab ((cQ [(List.drop (Int.toNat 0) (List.take k.toNat bs),()),(r,()),(List.drop (k+1).toNat (List.take (↑bs.length:Int).toNat bs),())]).length<=100000) (.ab (bx (some [AV.an 0 0,.s (.int .i64 n)])) (.ab (bx (some (hT th m fu aa fr fs gn))) (.ab (bx (some [AV.an 0 0,.agg [.s (.bool l),.s (.ro (.az [.ag,.ag] es)),.s (.ro (.az [.ag,.int .i64] (cQ [(List.drop (Int.toNat 0) (List.take k.toNat bs),()),(r,()),(List.drop (k+1).toNat (List.take (↑bs.length:Int).toNat bs),())])))]])) (.ab (bx (some (hT th m fu aa fr (jW fs n) (qE fs gn n)))) (.ab (Ds.bz th m fu) (.ab (Bx.okW fr) (.ab (abK l es (cQ [(List.drop (Int.toNat 0) (List.take k.toNat bs),()),(r,()),(List.drop (k+1).toNat (List.take (↑bs.length:Int).toNat bs),())])) (.ab (bF es) (.ab (bG (cQ [(List.drop (Int.toNat 0) (List.take k.toNat bs),()),(r,()),(List.drop (k+1).toNat (List.take (↑bs.length:Int).toNat bs),())])) (.ret (hT th (bO th m fu fr (jW fs n) l es (cQ [(List.drop (Int.toNat 0) (List.take k.toNat bs),()),(r,()),(List.drop (k+1).toNat (List.take (↑bs.length:Int).toNat bs),())])).fst (bO th m fu fr (jW fs n) l es (cQ [(List.drop (Int.toNat 0) (List.take k.toNat bs),()),(r,()),(List.drop (k+1).toNat (List.take (↑bs.length:Int).toNat bs),())])).snd.fst aa (bO th m fu fr (jW fs n) l es (cQ [(List.drop (Int.toNat 0) (List.take k.toNat bs),()),(r,()),(List.drop (k+1).toNat (List.take (↑bs.length:Int).toNat bs),())])).snd.snd.fst (bO th m fu fr (jW fs n) l es (cQ [(List.drop (Int.toNat 0) (List.take k.toNat bs),()),(r,()),(List.drop (k+1).toNat (List.take (↑bs.length:Int).toNat bs),())])).snd.snd.snd.fst (qE fs gn n)++[.ay [.s (.ag ad)] 9,.ay [.s (.bool l),.s (.ro (.az [.ag,.ag] es)),.aq 8] 131,.aB,.aq (.az yL [(List.drop (Int.toNat 0) (List.take k.toNat bs),()),(r,()),(List.drop (k+1).toNat (List.take (↑bs.length:Int).toNat bs),())]) 129,.aB,.aq (.az [.ag,.int .i64] (bO th m fu fr (jW fs n) l es (cQ [(List.drop (Int.toNat 0) (List.take k.toNat bs),()),(r,()),(List.drop (k+1).toNat (List.take (↑bs.length:Int).toNat bs),())])).snd.snd.snd.snd.fst) 137]) (.bD [.aq 9,.s (.int .i64 (bO th m fu fr (jW fs n) l es (cQ [(List.drop (Int.toNat 0) (List.take k.toNat bs),()),(r,()),(List.drop (k+1).toNat (List.take (↑bs.length:Int).toNat bs),())])).snd.snd.snd.snd.snd)]))))))))))))))))))):=by kernel_rfl
def TN:Nat->Type
 |0=>Int×List En
 |h+1=>Int×List (ByteArray×TN h)
abbrev Kd(h:Nat):Type:=ByteArray×TN h
def pg:(h:Nat)->TN h->Int
 |0,t=>t.1
 |_+1,t=>t.1
def eV:(h:Nat)->TN h->List En
 |0,t=>t.2
 |h+1,t=>t.2.flatMap λk=>eV h k.2
def nG:(h:Nat)->TN h->List Int
 |0,t=>[t.1]
 |h+1,t=>t.1::t.2.flatMap λk=>nG h k.2
def du(h:Nat)(k:Kd h):Br:=(k.1,pg h k.2,())
def cw(h:Nat)(ks:List (Kd h)):List En:=ks.flatMap λk=>eV h k.2
def cD(h:Nat)(ks:List (Kd h)):List Int:=ks.flatMap λk=>nG h k.2
def rep(th:Th)(m:As):(h:Nat)->TN h->Prop
 |0,t=>Rd th m t.1 true t.2 []
 |h+1,t=>Rd th m t.1 false [] (t.2.map (du h))/\∀k∈t.2,rep th m h k.2
def adT(h:Nat)(ks:List (Kd h)):Prop:=ks.Pairwise (λa b=>∀e∈eV h a.2,slt e.1 b.1=true)/\∀k∈ks,∀e∈eV h k.2,slt e.1 k.1=false
def cI{h:Nat}:List (Kd h)->List (Kd h)
 |[]=>[]
 |k::r=>(empty,k.2)::r
def cR{h:Nat}(s:ByteArray):List (Kd h)->List (Kd h)
 |[]=>[]
 |k::r=>(s,k.2)::r
def nH(h:Nat)(ks:List (Kd h)):Int:=bI [] (ks.map (du h))
def pJ:(h:Nat)->TN h->Prop
 |0,t=>t.2≠[]/\kB t.2=true/\bI t.2 []<=254
 |h+1,t=>t.2≠[]/\cI t.2=t.2/\iq (t.2.map (du h))=true/\nH h t.2<=254/\adT h t.2/\∀k∈t.2,pJ h k.2
def ovr(n:Int):Nat:=(n - 155).toNat
def vA:(h:Nat)->TN h->Nat
 |0,_=>0
 |h+1,t=>3^(h+1)*(19+ovr (nH h t.2))+(t.2.map λk=>vA h k.2).sum
def fN(h:Nat)(ks:List (Kd h)):Nat:=(ks.map λk=>vA h k.2).sum
theorem aaf{h:Nat}(t:TN (h+1)):eV (h+1) t=cw h t.2:=rfl
theorem amX{h:Nat}(t:TN (h+1)):vA (h+1) t=3^(h+1)*(19+ovr (nH h t.2))+fN h t.2:=rfl
theorem qK:∀(h:Nat) (t:TN h),pg h t∈nG h t
 |0,t=>mem_singleton.2 rfl
 |h+1,t=>mem_cons_self
theorem si:∀(h:Nat) {t:TN h},pJ h t->eV h t≠[]
 |0,t,ok=>ok.1
 |h+1,t,ok=>by
  have⟨h1,_,_,_,_,h6⟩:=ok;have⟨k,r,e⟩:=List.exists_cons_of_ne_nil h1;have:=si h (h6 k (by rw[e];exact mem_cons_self));rw[aaf,e];show eV h k.2++_≠[];intro hn;exact this (List.append_eq_nil_iff.1 hn).1
theorem kN{h:Nat}(a b:List (Kd h)):cw h (a++b)=cw h a++cw h b:=List.flatMap_append
theorem sj{h:Nat}(a b:List (Kd h)):cD h (a++b)=cD h a++cD h b:=List.flatMap_append
theorem sk{h:Nat}(a b:List (Kd h)):fN h (a++b)=fN h a+fN h b:=by simp[fN]
theorem jq{h:Nat}(k:Kd h)(r:List (Kd h)):cw h (k::r)=eV h k.2++cw h r:=rfl
theorem kO{h:Nat}(k:Kd h)(r:List (Kd h)):cD h (k::r)=nG h k.2++cD h r:=rfl
theorem jr{h:Nat}(k:Kd h)(r:List (Kd h)):fN h (k::r)=vA h k.2+fN h r:=by simp[fN]
theorem kP{h:Nat}(ks:List (Kd h)):af (ks.map (du h))=(cI ks).map (du h):=by cases ks<;>rfl
theorem adU{h:Nat}(s:ByteArray)(ks:List (Kd h)):l7 s (ks.map (du h))=(cR s ks).map (du h):=by cases ks<;>rfl
theorem ajP(s s':ByteArray)(l:List Br):l7 s (l7 s' l)=l7 s l:=by cases l<;>rfl
theorem xL{h:Nat}(ks:List (Kd h)):cI (cI ks)=cI ks:=by cases ks<;>rfl
theorem ajQ{h:Nat}(s:ByteArray)(ks:List (Kd h)):cI (cR s ks)=cI ks:=by cases ks<;>rfl
theorem qL{h:Nat}(ks:List (Kd h)):cw h (cI ks)=cw h ks:=by cases ks<;>rfl
theorem aag{h:Nat}(ks:List (Kd h)):cD h (cI ks)=cD h ks:=by cases ks<;>rfl
theorem aah{h:Nat}(ks:List (Kd h)):fN h (cI ks)=fN h ks:=by cases ks<;>rfl
theorem ajR{h:Nat}(s:ByteArray)(ks:List (Kd h)):cw h (cR s ks)=cw h ks:=by cases ks<;>rfl
theorem amY{h:Nat}(s:ByteArray)(ks:List (Kd h)):cD h (cR s ks)=cD h ks:=by cases ks<;>rfl
theorem amZ{h:Nat}(s:ByteArray)(ks:List (Kd h)):fN h (cR s ks)=fN h ks:=by cases ks<;>rfl
theorem im{h:Nat}{ks:List (Kd h)}{k:Kd h}(hk:k∈cI ks):∃k'∈ks,k'.2=k.2/\(k.1=empty\/k=k'):=by
 cases ks with
 |nil=>cases hk
 |cons a r=>
  rcases mem_cons.1 hk with rfl|h;exact⟨a,mem_cons_self,rfl,.inl rfl⟩;exact⟨k,mem_cons_of_mem _ h,rfl,.inr rfl⟩
theorem xM(x:Br):3<=qC x:=by unfold qC;omega
theorem am0(x:En):2<=qU x:=by unfold qU;omega
def iW(bs:List Br):Int:=(bs.map qC).sum
theorem oS:iW []=0:=rfl
theorem dS(b:Br)(r:List Br):iW (b::r)=qC b+iW r:=by simp[iW]
theorem xN(a b:List Br):iW (a++b)=iW a+iW b:=by simp[iW]
theorem apT(bs:List Br):0<=iW bs:=by
 induction bs with
 |nil=>simp[oS]
 |cons b r ih=>rw[dS];have:=xM b;omega
theorem af9{h:Nat}(ks:List (Kd h)):nH h ks=1+iW (ks.map (du h)):=by
 unfold nH bI iW;simp
theorem tT(bs:List Br):iW (af bs)<=iW bs:=by
 cases bs with
 |nil=>exact Int.le_refl _
 |cons b r=>
  rw[af,dS,dS];have:qC (empty,b.2.1,())=3:=rfl;have:=xM b;omega
theorem gP{bs:List Br}:iq bs=true↔(∀b∈bs,b.1.size<=24/\2<=b.2.1/\b.2.1<1024)/\bs.Pairwise λa b=>slt a.1 b.1=true:=by
 constructor;intro h;refine⟨λb hb=>adA h hb, ?_⟩;have hs:=atk h;rw[List.pairwise_iff_getElem];intro i j hi hj lI;have:=hs i j lI (by simpa using hj);rw[dq bs ajs dB i,dq bs ajs dB j,bt hi,bt hj]at this;exact this;rintro⟨h1,h2⟩;refine dC.2 λi hi=>r8.2 ?_;have⟨a,b,c⟩:=h1 (bs.getD i dB) (by rw[bt hi];exact getElem_mem hi);refine⟨by omega,by omega,by omega,λh0=> ?_⟩;rw[List.pairwise_iff_getElem]at h2;have:=h2 (i - 1) i (by omega) hi (by omega);rw[bt (by omega),bt hi];exact this
theorem apU{a b:ByteArray}(h:slt a b=true):slt empty b=true:=by
 rcases ig empty b with h1|h1|h1;exact h1;subst h1;rw[ij]at h;cases h;rw[ij]at h1;cases h1
theorem aai{bs:List Br}(h:iq bs=true):iq (af bs)=true:=by
 rw[gP]at h ⊢;cases bs with
 |nil=>exact h
 |cons b r=>
  have⟨h1,h2⟩:=h;rw[pairwise_cons]at h2;refine⟨λx hx=> ?_, ?_⟩;rcases mem_cons.1 hx with rfl|hx;have:=h1 b mem_cons_self;exact⟨zero_le 24,this.2⟩;exact h1 x (mem_cons_of_mem _ hx);rw[af,pairwise_cons];exact⟨λx hx=>apU (h2.1 x hx),h2.2⟩
theorem xO{es:List En}:kB es=true↔(∀e∈es,1<=e.1.size/\e.1.size<=24/\e.2.1.size<=100)/\jk (cg es):=by
 constructor;intro h;refine⟨λe he=> ?_,avL h⟩;obtain⟨i,hi,rfl⟩:=List.getElem_of_mem he;have⟨a,b,c,_⟩:=pB.1 (dC.1 h i hi);rw[bt hi]at a b c;exact⟨by omega,by omega,by omega⟩;rintro⟨h1,h2⟩;refine dC.2 λi hi=>pB.2 ?_;have⟨a,b,c⟩:=h1 (es.getD i dE) (by rw[bt hi];exact getElem_mem hi);refine⟨by omega,by omega,by omega,λh0=> ?_⟩;have:=h2 (i - 1) i (by omega) (by simpa using hi);rw[dq es qB dE,dq es qB dE]at this;exact this
structure S5 where
 m:As
 fu:Int
 fr:Ws
 fs:Ws
 gn:Ws
structure zC (th:Th) (s:S5):Prop where
 d:Ds.bz th s.m s.fu
 fr:Bx.okW s.fr
 fs:Bx.okW s.fs
 gn:Bx.okW s.gn
 pg:∀p,In s.fr p->2<=p/\Ds.vn th p=true
structure sn (th:Th) (s t:S5) (N V:List Int):Prop where
 ok:zC th t
 nd:N.Nodup
 sub:∀p∈N,In s.fr p
 fr:∀p,In t.fr p↔In s.fr p/\p ∉ N
 fs:∀p,In t.fs p↔(In s.fs p/\p ∉ V)\/p∈N
 gn:∀p,In t.gn p↔In s.gn p\/(In s.fs p/\p∈V)
 rd:∀p,¬In s.fr p->Ds.gS th t.m p=Ds.gS th s.m p/\Ds.fR th t.m p=Ds.fR th s.m p
 fu:s.fu= -1->t.fu= -1
 lo:s.fu= -1->(∀p∈N,∀q,In s.fr q->q<p->q∈N)/\∀p,p ∉ N->Ds.gS th t.m p=Ds.gS th s.m p/\Ds.fR th t.m p=Ds.fR th s.m p
 sec:∀x:Int,¬In s.fr (x / 4)->cW t.m x=cW s.m x
def wS(th:Th)(s:S5)(l:Bool)(es:List En)(bs:List Br):S5:=
 ⟨(ct th s.m s.fu s.fr s.fs l es bs).1,(ct th s.m s.fu s.fr s.fs l es bs).2.1,(ct th s.m s.fu s.fr s.fs l es bs).2.2.1,(ct th s.m s.fu s.fr s.fs l es bs).2.2.2.1,s.gn⟩
def wE(th:Th)(s:S5)(l:Bool)(es:List En)(bs:List Br):Int:=(ct th s.m s.fu s.fr s.fs l es bs).2.2.2.2.2
def wB(th:Th)(s:S5)(l:Bool)(es:List En)(bs:List Br):Br:=(ct th s.m s.fu s.fr s.fs l es bs).2.2.2.2.1
theorem ajS{zs:List Int}(h:∀x∈zs,3<=x/\x<=27)(h1:253<zs.sum)(h2:zs.sum<=280):2<=zs.length/\kg zs (iK zs (zs.length - 1)).1<=153:=by
 have hb:=(pw (l:=zs) (m:=27) (λx hx=>⟨by have:=(h x hx).1;omega,(h x hx).2⟩) (by omega)).2;have hl:2<=zs.length:=by omega
 refine⟨hl, ?_⟩;have⟨k,hk,k1,k2⟩:=qF (p:=λk=>(zs.take k).sum) (c:=127) zs.length (by simp) (by simp only[List.take_length];omega);have k1:(zs.take k).sum<127:=k1;have k2:127<=(zs.take (k+1)).sum:=k2;have k3:=jy hk;have k4:zs.getD k 0<=27:=by rw[bt hk];exact(h _ (getElem_mem _)).2
 have k5:k+1<zs.length:=by
  rcases lt_or_ge (k+1) zs.length with h|h;exact h;rw[take_of_length_le h]at k3;omega
 have m:=sc zs (zs.length - 1) (k+1) (by omega) (by omega);rw[xI _ _ (by omega)]at m;refine Int.le_trans m ?_;unfold kg imax;split<;>omega
theorem ahR{bs:List Br}:3*(bs.length:Int)<=iW bs:=by
 induction bs with
 |nil=>simp[oS]
 |cons b r ih=>rw[dS,length_cons];have:=xM b;omega
theorem so(bs:List Br):bI [] bs=1+iW bs:=by simp[bI,iW]
theorem xP(es:List En):bI es []=1+(es.map qU).sum:=by simp[bI]
theorem apV{bs:List Br}(h:iq bs=true):dM false [] bs=true:=vw (λe=>by cases e) (λ_=>rfl) rfl h
theorem awo{es:List En}(h:kB es=true):dM true es []=true:=vw (λ_=>rfl) (λe=>by cases e) h rfl
theorem am1{bs:List Br}(kv:iq bs=true)(h1:254<bI [] bs)(h2:bI [] bs<=281):
 eb false [] bs=true/\bI [] (bH false [] bs)<=154/\bI [] (dH false [] bs)<=154/\
  ∃k,0<k/\k<bs.length/\bH false [] bs=bs.take k/\dH false [] bs=bs.drop k/\bE false [] bs=[]/\dw false [] bs=[]/\cz false [] bs=false:=by
 rw[so]at h1 h2;have e0:aX [] bs=bs.map qC:=by simp[aX]
 have hz:∀x∈bs.map qC,3<=x/\x<=27:=λx hx=>by
  obtain⟨y,hy,rfl⟩:=mem_map.1 hx;have:=adA kv hy;unfold qC;omega
 have⟨b1,b2⟩:=ajS hz (by unfold iW at h1;omega) (by unfold iW at h2;omega);rw[length_map]at b1 b2
 have ok:eb false [] bs=true:=by
  simp only[eb,apV kv,Bool.true_and,decide_eq_true_eq,length_nil];omega
 have hsm:bG bs:=⟨by have:=ahR (bs:=bs);omega,λx hx=>by have:=adA kv hx;omega⟩;have⟨_,_,_,_,_,_,_,_,_,f0,f⟩:=tO ok jm hsm;rw[e0]at f;have f2:kg (bs.map qC) (eX [] bs)<=153:=by rw[eX,e0,length_nil,zero_add];exact b2
 have p1:=oP (aX [] bs) (([]:List En).length+bs.length - 1) (by simp;omega);have p2:=px (aX [] bs) (([]:List En).length+bs.length - 1);simp only[length_nil,zero_add]at p1 p2;have e1:bE false [] bs=[]:=by unfold bE;rw[if_pos ok,List.take_nil]
 have e2:dw false [] bs=[]:=by unfold dw;rw[if_pos ok,List.drop_nil]
 rw[e1,e2]at f;unfold imax at f;refine⟨ok, ?_, ?_,eX [] bs,by unfold eX;simp only[length_nil,zero_add];exact p1,by unfold eX;simp only[length_nil,zero_add];omega,by unfold bH;rw[if_pos ok],by unfold dH;rw[if_pos ok],e1,e2,by unfold cz;rw[ok];rfl⟩;split at f<;>omega;split at f<;>omega
theorem ahS{es:List En}:2*(es.length:Int)<=(es.map qU).sum:=by
 induction es with
 |nil=>simp
 |cons b r ih=>rw[map_cons,sum_cons,length_cons];have:=am0 b;omega
theorem am2{es:List En}{ad val:ByteArray}(kv:kB (bX es ad val)=true)(h0:bI es []<=254)(h1:¬bI (bX es ad val) []<=254):
 eb true (bX es ad val) []=true/\bI (bE true (bX es ad val) []) []<=254/\bI (dw true (bX es ad val) []) []<=254/\
  ∃k,0<k/\k<(bX es ad val).length/\bE true (bX es ad val) []=(bX es ad val).take k/\dw true (bX es ad val) []=(bX es ad val).drop k/\bH true (bX es ad val) []=[]/\dH true (bX es ad val) []=[]/\cz true (bX es ad val) []=true:=by
 have hl:es.length<=200:=by
  have:=ahS (es:=es);rw[xP]at h0;omega
 have⟨ok,f1,f2⟩:=ajM hl h0 (awo kv) h1;generalize bX es ad val=xs at kv h1 ok f1 f2 ⊢;have e1:bH true xs []=[]:=by unfold bH;rw[if_pos ok,List.take_nil]
 have e2:dH true xs []=[]:=by unfold dH;rw[if_pos ok,List.drop_nil]
 rw[e1]at f1;rw[e2]at f2
 have h2:2<=xs.length:=by
  simp only[eb,and_eq_true,decide_eq_true_eq,length_nil]at ok;omega
 have p1:=oP (aX xs []) (xs.length+([]:List Br).length - 1) (by simp;omega);have p2:=px (aX xs []) (xs.length+([]:List Br).length - 1);simp only[length_nil,add_zero]at p1 p2;exact⟨ok,f1,f2,eX xs [],by unfold eX;simp only[length_nil,add_zero];exact p1,by unfold eX;simp only[length_nil,add_zero];omega,by unfold bE;rw[if_pos ok],by unfold dw;rw[if_pos ok],e1,e2,by unfold cz;rw[ok];rfl⟩
theorem iQ{th:Th}{s:S5}(h:zC th s):sn th s s [] []:=
 ⟨h,List.nodup_nil,λp hp=>(by cases hp),λp=>⟨λx=>⟨x,List.not_mem_nil⟩,λx=>x.1⟩,λp=>⟨λx=>.inl ⟨x,List.not_mem_nil⟩,λx=>x.elim (λy=>y.1) (λy=>by cases y)⟩,
   λp=>⟨.inl,λx=>x.elim id (λy=>by cases y.2)⟩,λp _=>⟨rfl,rfl⟩,id,λ_=>⟨λp hp=>(by cases hp),λp _=>⟨rfl,rfl⟩⟩,λ_ _=>rfl⟩
theorem fL{th:Th}{s t u:S5}{N1 N2 V1 V2:List Int}(h1:sn th s t N1 V1)(h2:sn th t u N2 V2)(hd:∀p∈V2,p ∉ N1):sn th s u (N1++N2) (V1++V2)where
 ok:=h2.ok
 nd:=nodup_append.2 ⟨h1.nd,h2.nd,λa ha b hb e=>by subst e;exact((h1.fr a).1 (h2.sub a hb)).2 ha⟩
 sub:=λp hp=>(mem_append.1 hp).elim (h1.sub p) (λh=>((h1.fr p).1 (h2.sub p h)).1)
 fr:=λp=>by rw[h2.fr,h1.fr,mem_append,not_or,and_assoc]
 fs:=λp=>by
  rw[h2.fs,h1.fs,mem_append,mem_append,not_or];constructor;rintro(⟨⟨a,b⟩|a,c⟩|a);exact .inl ⟨a,b,c⟩;exact .inr (.inl a);exact .inr (.inr a);rintro(⟨a,b,c⟩|a|a);exact .inl ⟨.inl ⟨a,b⟩,c⟩;exact .inl ⟨.inr a,λh=>hd p h a⟩;exact .inr a
 gn:=λp=>by
  rw[h2.gn,h1.gn,h1.fs,mem_append];constructor;rintro((a|⟨a,b⟩)|⟨⟨a,b⟩|a,c⟩);exact .inl a;exact .inr ⟨a,.inl b⟩;exact .inr ⟨a,.inr c⟩;exact absurd a (hd p c);rintro(a|⟨a,b|b⟩);exact .inl (.inl a);exact .inl (.inr ⟨a,b⟩);by_cases hv:p∈V1;exact .inl (.inr ⟨a,hv⟩);exact .inr ⟨.inl ⟨a,hv⟩,b⟩
 rd:=λp hp=>by
  have a:=h1.rd p hp;have b:=h2.rd p (λh=>hp ((h1.fr p).1 h).1);exact⟨b.1.trans a.1,b.2.trans a.2⟩
 fu:=λh=>h2.fu (h1.fu h)
 lo:=λh=>by
  have⟨a1,b1⟩:=h1.lo h;have⟨a2,b2⟩:=h2.lo (h1.fu h);refine⟨λp hp q hq bA=> ?_,λp hp=> ?_⟩;rcases mem_append.1 hp with hp|hp;exact List.mem_append_left _ (a1 p hp q hq bA);by_cases hn:q∈N1;exact List.mem_append_left _ hn;exact mem_append_right _ (a2 p hp q ((h1.fr q).2 ⟨hq,hn⟩) bA);have x:=b1 p λy=>hp (List.mem_append_left _ y);have y:=b2 p λy=>hp (mem_append_right _ y);exact⟨y.1.trans x.1,y.2.trans x.2⟩
 sec:=λx hx=>(h2.sec x λh=>hx ((h1.fr _).1 h).1).trans (h1.sec x hx)
theorem sn.rep{th:Th}{s t:S5}{N V:List Int}(h:sn th s t N V):∀(k:Nat) {x:TN k},Ts.rep th s.m k x->(∀p∈nG k x,¬In s.fr p)->Ts.rep th t.m k x
 |0,x,hr,hp=>Rd.same hr (h.rd _ (hp _ (qK 0 x)))
 |k+1,x,hr,hp=>⟨Rd.same hr.1 (h.rd _ (hp _ (qK (k+1) x))),λy hy=>h.rep k (hr.2 y hy) λp kD=>hp p (mem_cons_of_mem _ (mem_flatMap.2 ⟨y,hy,kD⟩))⟩
theorem aga{th:Th}{s:S5}(h:zC th s)(n:Int):sn th s ⟨s.m,s.fu,s.fr,jW s.fs n,qE s.fs s.gn n⟩ [] [n]:=by
 have r:In s.fs n->0<=n/\n<1024:=λhn=>mN h.fs hn;by_cases hn:In s.fs n;have e1:jW s.fs n=Bx.dA s.fs n:=if_pos hn;have e2:qE s.fs s.gn n=Bx.dz s.gn n:=if_pos hn;rw[e1,e2];refine⟨⟨h.d,h.fr,(Bx.lT h.fs n).1,(Bx.gO h.gn n).1,h.pg⟩,List.nodup_nil,λp hp=>(by cases hp),λp=>⟨λx=>⟨x,List.not_mem_nil⟩,λx=>x.1⟩,λp=> ?_,λp=> ?_,λp _=>⟨rfl,rfl⟩,id,λ_=>⟨λp hp=>(by cases hp),λp _=>⟨rfl,rfl⟩⟩,λ_ _=>rfl⟩;simp only[];rw[qG h.fs,mem_singleton];exact⟨.inl,λx=>x.elim id (λy=>by cases y)⟩;simp only[];rw[pC h.gn (r hn),mem_singleton];exact⟨λx=>x.imp id (λy=>⟨by rw[y];exact hn,y⟩),λx=>x.imp id (λy=>y.2)⟩;have e1:jW s.fs n=s.fs:=if_neg hn;have e2:qE s.fs s.gn n=s.gn:=if_neg hn;rw[e1,e2];refine⟨h,List.nodup_nil,λp hp=>(by cases hp),λp=>⟨λx=>⟨x,List.not_mem_nil⟩,λx=>x.1⟩,λp=> ?_,λp=> ?_,λp _=>⟨rfl,rfl⟩,id,λ_=>⟨λp hp=>(by cases hp),λp _=>⟨rfl,rfl⟩⟩,λ_ _=>rfl⟩;rw[mem_singleton];exact⟨λx=>.inl ⟨x,λe=>hn (by rw[<-e];exact x)⟩,λx=>x.elim (λy=>y.1) (λy=>by cases y)⟩;rw[mem_singleton];exact⟨.inl,λx=>x.elim id (λy=>absurd (by rw[<-y.2];exact y.1) hn)⟩
theorem auh{th:Th}{s:S5}{l:Bool}{es:List En}{bs:List Br}(ho:zC th s)(hm:dM l es (af bs)=true)(hz:bI es (af bs)<=254):
 (wE th s l es bs=0/\∃n,sn th s (wS th s l es bs) [n] []/\wB th s l es bs=(dD l es bs,n,())/\Rd th (wS th s l es bs).m n l es (af bs))\/
 (wE th s l es bs=41/\wS th s l es bs=s/\∀k,¬In s.fr k)\/(wE th s l es bs=42/\sn th s (wS th s l es bs) [] []/\(wS th s l es bs).fu=0):=by
 have he:iJ l es (af bs)=0:=mI.2 ⟨hm,hz⟩;have⟨d1,d2,d3,d4,d5⟩:=ao7 he;by_cases hx:Bx.fl s.fr 0=false;have e:ct th s.m s.fu s.fr s.fs l es bs=(s.m,s.fu,s.fr,s.fs,dB,41):=by unfold ct;rw[if_pos hx]
 right;left;refine⟨by unfold wE;rw[e],by unfold wS;rw[e],λk=>apP ho.fr hx k⟩;have hx1:Bx.fl s.fr 0=true:=by simpa using hx
 have hn:=adR ho.fr hx1;have⟨uO,hnp⟩:=ho.pg _ hn;have hnr:=mN ho.fr hn;have⟨g1,g2,g3⟩:=Ds.at5 (th:=th) (m:=s.m) (fu:=s.fu) (n:=Bx.bU s.fr 0) (s:=dG l es (af bs)) ho.d hnp (by omega);have gd:=Ds.ars (n:=Bx.bU s.fr 0) (s:=dG l es (af bs)) ho.d;have gs:∀x:Int,¬In s.fr (x / 4)->cW (Ds.ky th s.m s.fu (Bx.bU s.fr 0) (dG l es (af bs))).1 x=cW s.m x:=λx hx=>Ds.at4 ho.d λe=>hx (by rw[e];exact hn);rcases g1 with⟨a,b,c⟩|⟨a,b⟩;left
 have e:ct th s.m s.fu s.fr s.fs l es bs=((Ds.ky th s.m s.fu (Bx.bU s.fr 0) (dG l es (af bs))).1,(Ds.ky th s.m s.fu (Bx.bU s.fr 0) (dG l es (af bs))).2.1,Bx.dA s.fr (Bx.bU s.fr 0),Bx.dz s.fs (Bx.bU s.fr 0),(dD l es bs,Bx.bU s.fr 0,()),0):=by
  unfold ct;rw[if_neg hx,if_neg (by rw[he];simp),if_neg (by rw[a];simp)]
 refine⟨by unfold wE;rw[e],Bx.bU s.fr 0, ?_,by unfold wB;rw[e], ?_⟩;unfold wS;rw[e];refine⟨⟨gd,(Bx.lT ho.fr _).1,(Bx.gO ho.fs _).1,ho.gn,λp hp=>ho.pg p ((qG ho.fr).1 hp).1⟩,by simp,λp hp=>by rw[mem_singleton.1 hp];exact hn,λp=> ?_,λp=> ?_,λp=> ?_,λp hp=>g3 p (λe=>hp (by rw[e];exact hn)),g2,λ_=>⟨λp hp q hq bA=> ?_,λp hp=>g3 p λe=>hp (mem_singleton.2 e)⟩,gs⟩;simp only[];rw[qG ho.fr,mem_singleton];simp only[];rw[pC ho.fs hnr,mem_singleton];exact⟨λx=>x.imp (λy=>⟨y,List.not_mem_nil⟩) id,λx=>x.imp (λy=>y.1) id⟩;exact⟨.inl,λx=>x.elim id (λy=>by cases y.2)⟩;have:=amL ho.fr hx1 hq;rw[mem_singleton.1 hp]at bA;omega;unfold wS;rw[e];exact⟨b,by rw[c];exact d1,by rw[c];exact d2,by rw[c];exact d3,by rw[c];exact d4⟩;right;right
 have e:ct th s.m s.fu s.fr s.fs l es bs=((Ds.ky th s.m s.fu (Bx.bU s.fr 0) (dG l es (af bs))).1,(Ds.ky th s.m s.fu (Bx.bU s.fr 0) (dG l es (af bs))).2.1,s.fr,s.fs,dB,42):=by
  unfold ct;rw[if_neg hx,if_neg (by rw[he];simp),if_pos (by rw[a];simp),a]
 refine⟨by unfold wE;rw[e], ?_,by unfold wS;rw[e];exact b⟩;unfold wS;rw[e];have r:=iQ ho;refine⟨⟨gd,ho.fr,ho.fs,ho.gn,ho.pg⟩,r.nd,r.sub,r.fr,r.fs,r.gn,λp hp=>g3 p (λe=>hp (by rw[e];exact hn)),g2,λh=>absurd (g2 h) (by rw[b];decide),gs⟩
theorem fF{th:Th}{m:As}{n ae:Int}(h:gF th m n ae=0):dM (lB th m n ae) (cv th m n ae) (bh th m n ae)=true/\(cv th m n ae).length<=126/\(bh th m n ae).length<=84/\bF (cv th m n ae)/\bG (bh th m n ae)/\
 ae<=16/\bI (cv th m n ae) (bh th m n ae)<=254:=by
 unfold gF at h;split at h;cases h;rename_i hd;split at h;rename_i hg;have e0:tM th m n ae=true:=by unfold tM;rw[decide_eq_true hg,decide_eq_true (by omega)];rfl
 have⟨a,b,c,_,e⟩:=ao8 h;have sz:=(mI.1 c).2;have e1:cv th m n ae=oN (Ds.fR th m n):=by unfold cv;rw[if_pos e0]
 have e2:bh th m n ae=nD (Ds.fR th m n):=by unfold bh;rw[if_pos e0]
 have e3:lB th m n ae=kf (Ds.fR th m n):=by unfold lB;rw[e0,Bool.true_and]
 rw[e1,e2,e3];have s1:=ahS (es:=oN (Ds.fR th m n));have s2:=ahR (bs:=nD (Ds.fR th m n));have s3:=apT (nD (Ds.fR th m n));unfold bI at sz;unfold iW at s2 s3;refine⟨e,by omega,by omega,a,b,by omega, ?_⟩;unfold bI;exact sz;rename_i hg;exact absurd h hg
abbrev xQ(es:List En):Prop:=∀x∈es,x.1.size<=24
abbrev lz(bs:List Br):Prop:=∀x∈bs,x.1.size<=24
theorem adV{l:Bool}{es:List En}{bs:List Br}(he:xQ es)(hb:lz bs):(dD l es bs).size<=24:=by
 unfold dD;split;cases es with
 |nil=>exact zero_le _
 |cons e r=>exact he e mem_cons_self
 cases bs with
 |nil=>exact zero_le _
 |cons e r=>exact hb e mem_cons_self
theorem abM{th:Th}{m:As}{fu:Int}{fr fs:Ws}{l:Bool}{es:List En}{bs:List Br}(he:xQ es)(hb:lz bs):(ct th m fu fr fs l es bs).2.2.2.2.1.1.size<=24:=by
 unfold ct;split;exact zero_le _;split;exact zero_le _;split;exact zero_le _;exact adV he hb
theorem am3{bs:List Br}(h:lz bs):lz (af bs):=by
 cases bs with
 |nil=>exact h
 |cons b r=>
  intro x hx;rcases mem_cons.1 hx with rfl|hx;exact zero_le _;exact h x (mem_cons_of_mem _ hx)
theorem apW{l:Bool}{es:List En}{bs:List Br}(he:xQ es):xQ (bE l es bs)/\xQ (dw l es bs):=by
 unfold bE dw;split;exact⟨λx hx=>he x (List.mem_of_mem_take hx),λx hx=>he x (List.mem_of_mem_drop hx)⟩;exact⟨λx hx=>(by cases hx),λx hx=>(by cases hx)⟩
theorem apX{l:Bool}{es:List En}{bs:List Br}(he:lz bs):lz (bH l es bs)/\lz (dH l es bs):=by
 unfold bH dH;split;exact⟨λx hx=>he x (List.mem_of_mem_take hx),λx hx=>he x (List.mem_of_mem_drop hx)⟩;exact⟨λx hx=>(by cases hx),λx hx=>(by cases hx)⟩
theorem agb{th:Th}{m:As}{fu:Int}{fr fs:Ws}{l:Bool}{es:List En}{bs:List Br}(hf:Bx.okW fr):0<=(ct th m fu fr fs l es bs).2.2.2.2.1.2.1/\(ct th m fu fr fs l es bs).2.2.2.2.1.2.1<=65536:=by
 have z:0<=dB.2.1/\dB.2.1<=65536:=⟨Int.le_refl 0,by show(0:Int)<=65536;omega⟩;unfold ct;split;exact z;rename_i h;have:=xJ hf (by simpa using h);split;exact z;split;exact z;exact⟨by show 0<=Bx.bU fr 0;omega,by show Bx.bU fr 0<=65536;omega⟩
theorem noE{q:En->Prop}:∀b∈([]:List En),q b:=λb hb=>by cases hb
theorem noB{q:Br->Prop}:∀b∈([]:List Br),q b:=λb hb=>by cases hb
structure am4 (th:Th) (m:As) (fu:Int) (fr:Ws) (l:List Br):Prop where
 d:Ds.bz th m fu
 fr:Bx.okW fr
 two:l.length<=2
 ad:lz l
 pg:∀b∈l,0<=b.2.1/\b.2.1<=65536
theorem oT{th:Th}{m:As}{fu:Int}{fr fs:Ws}{l:Bool}{es:List En}{bs:List Br}(hd:Ds.bz th m fu)(hf:Bx.okW fr)(he:xQ es)(hb:lz bs):
 am4 th (bO th m fu fr fs l es bs).1 (bO th m fu fr fs l es bs).2.1 (bO th m fu fr fs l es bs).2.2.1 (bO th m fu fr fs l es bs).2.2.2.2.1:=by
 have hbb:=am3 hb;have nil:lz ([]:List Br):=λb hb=>by cases hb
 unfold bO;split;exact⟨hd,hf,zero_le _,nil,noB⟩;split;have⟨a,b⟩:=abL (fs:=fs) (l:=l) (es:=es) (bs:=af bs) hd hf;refine⟨a,b,by show 1<=2;omega,λx hx=> ?_,λx hx=> ?_⟩;rw[mem_singleton.1 hx];exact abM he hbb;rw[mem_singleton.1 hx];exact agb hf;split;exact⟨hd,hf,zero_le _,nil,noB⟩;have⟨s1,s2⟩:=apW (l:=l) (bs:=af bs) he;have⟨s3,s4⟩:=apX (l:=l) (es:=es) hbb;have⟨a,b⟩:=abL (fs:=fs) (l:=cz l es (af bs)) (es:=bE l es (af bs)) (bs:=bH l es (af bs)) hd hf;simp only[];split;exact⟨a,b,zero_le _,nil,noB⟩;have⟨c,d⟩:=abL (fs:=(ct th m fu fr fs (cz l es (af bs)) (bE l es (af bs)) (bH l es (af bs))).2.2.2.1) (l:=cz l es (af bs)) (es:=dw l es (af bs)) (bs:=dH l es (af bs)) a b;refine⟨c,d,le_refl 2,λx hx=> ?_,λx hx=> ?_⟩;rcases mem_cons.1 hx with rfl|hx;exact abM s1 s3;rw[mem_singleton.1 hx];exact abM s2 s4;rcases mem_cons.1 hx with rfl|hx;exact agb hf;rw[mem_singleton.1 hx];exact agb b
theorem am5{ad:ByteArray}{op:Option ByteArray}{es:List En}(hk:ad.size<=24)(he:xQ es):xQ (doE ad op es):=by
 cases op with
 |some v=>
  show xQ (bX es ad v);intro x hx;unfold bX at hx;rcases mem_append.1 hx with hx|hx;exact he x (List.mem_of_mem_take hx);rcases mem_cons.1 hx with rfl|hx;exact hk;exact he x (List.mem_of_mem_drop hx)
 |none=>
  show xQ (if iV es ad=true then cN es ad else []);split;exact λx hx=>he x (List.mem_filter.1 hx).1;exact λx hx=>by cases hx
theorem pD{ad:ByteArray}{op:Option ByteArray}{es:List En}(hk:ad.size<=24)(hv:∀v,op=some v->v.size<=100)(hl:es.length<=126)(he:bF es):bF (doE ad op es):=by
 cases op with
 |some v=>
  have hv:=hv v rfl;show bF (bX es ad v);refine⟨by rw[abC];split<;>omega,λx hx=> ?_⟩;unfold bX at hx;rcases mem_append.1 hx with hx|hx;exact he.2 x (List.mem_of_mem_take hx);rcases mem_cons.1 hx with rfl|hx;exact⟨by show ad.size<=1000;omega,by show v.size<=1000;omega⟩;exact he.2 x (List.mem_of_mem_drop hx)
 |none=>
  show bF (if iV es ad=true then cN es ad else []);split;exact⟨le_trans (List.length_filter_le _ _) he.1,λx hx=>he.2 x ((List.mem_filter.1 hx).1)⟩;exact jm
theorem agc{k:ByteArray}{r:List Br}(hk:k.size<=24)(h:lz r):lz (l7 k r):=by
 cases r with
 |nil=>exact h
 |cons b r=>
  intro x hx;rcases mem_cons.1 hx with rfl|hx;exact hk;exact h x (mem_cons_of_mem _ hx)
theorem xR(k:ByteArray)(r:List Br):(l7 k r).length=r.length:=by cases r<;>rfl
theorem qM{bs:List Br}(hb:lz bs)(k:Nat):(bs.getD k dB).1.size<=24:=by
 rcases lt_or_ge k bs.length with h|h;rw[bt h];exact hb _ (getElem_mem h);rw[List.getD,getElem?_eq_none h];exact zero_le _
theorem ahT{bs r:List Br}{k:Nat}{s:ByteArray}(hb:lz bs)(hk:lz r)(hs:s.size<=24):lz (bs.take k++l7 s r++bs.drop (k+1)):=λx hx=>by
 rcases mem_append.1 hx with hx|hx;rcases mem_append.1 hx with hx|hx;exact hb x (List.mem_of_mem_take hx);exact agc hs hk x hx;exact hb x (List.mem_of_mem_drop hx)
theorem xS{bs r:List Br}{k:Nat}{s:ByteArray}(hb:lz bs)(hl:bs.length<=84)(hr:r.length<=2)(hk:lz r)(hs:s.size<=24):bG (bs.take k++l7 s r++bs.drop (k+1)):=by
 refine⟨?_,λx hx=>le_trans (ahT hb hk hs x hx) (by omega)⟩;rw[length_append,length_append,xR,length_take,length_drop];omega
theorem adW{l:Bool}{es:List En}{bs:List Br}(h:dM l es bs=true):xQ es/\lz bs:=by
 have⟨_,_,h1,h2⟩:=eJ h;exact⟨λx hx=>(afR h1 hx).1,λx hx=>(adA h2 hx).1⟩
theorem sq{th:Th}{ad:ByteArray}{op:Option ByteArray}(hk:ad.size≤24):∀(f:Nat) {m:As} {fu:Int} {fr fs gn:Ws} {n ae:Int},Ds.bz th m fu→Bx.okW fr→
 am4 th (qH th ad op f m fu fr fs gn n ae) (qI th ad op f m fu fr fs gn n ae) (qJ th ad op f m fu fr fs gn n ae) (uW th ad op f m fu fr fs gn n ae)
 |0,m,fu,fr,fs,gn,n,ae,hd,hf=>⟨hd,hf,zero_le _,noB,noB⟩
 |f+1,m,fu,fr,fs,gn,n,ae,hd,hf=>by
  have nil:lz ([]:List Br):=fun b hb=>by cases hb
  unfold qH qI qJ uW xG;split;exact⟨hd,hf,zero_le _,nil,noB⟩;rename_i h0;obtain⟨hm,_⟩:=fF (by simpa using h0);obtain⟨n3,n4⟩:=adW hm;split;split;exact⟨hd,hf,zero_le _,nil,noB⟩;exact oT hd hf (am5 hk n3) n4;split;exact⟨hd,hf,zero_le _,nil,noB⟩;simp only[];have r:=sq (op:=op) hk f (fs:=fs) (gn:=gn) (n:=((bh th m n ae).getD (br (bh th m n ae) ad).toNat dB).2.1) (ae:=ae+1) hd hf;split;exact⟨r.d,r.fr,zero_le _,nil,noB⟩;exact oT r.d r.fr n3 (ahT n4 r.ad (qM n4 _))
end Ts
