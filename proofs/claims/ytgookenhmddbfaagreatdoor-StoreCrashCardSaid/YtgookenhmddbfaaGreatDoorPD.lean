/- Lemmas: L7, Lm, R4, R6, R7, R8, SxRoom, R9, R10, Bx1, Bx2, Bx3, Bx4, Bx5, Bx6, M0, Bx7, L7r, SxWeak, N1, N2, N3, N4, Rp, Hq, M1, N5, SxTup, N6, N7, M2, M3, N8, N9. -/
import Derived.Test.YtgookenhmddbfaaGreatDoorProg
import Derived.Lib.TrailingZeros
import Derived.Shelf.Spec.TrailingZeros
import Derived.Test.YtgookenhmddbfaaGreatDoorRows
import Derived.WalkKit
import Derived.WalkSpells
import Derived.WalkLawsBesides
import Derived.Test.YtgookenhmddbfaaGreatDoorPC
open Go.Proofs.Tryz
open Go.IntKind (i64 u64 u8)
open Array (getD_eq_getD_getElem? length_toList)
open Bool (and_eq_true cond_eq_ite not_eq_true')
open ByteArray (empty)
open Int (toNat_natCast)
open List (append_assoc append_nil getElem?_append_left getElem?_append_right getElem?_eq_getElem getElem?_eq_none getElem?_set getElem?_take getElem_mem length_append length_cons length_drop length_map length_nil length_set length_take map_append map_cons map_nil mem_append mem_append_right mem_cons mem_cons_of_mem mem_cons_self mem_flatMap mem_map mem_range mem_singleton nil_append nodup_append pairwise_cons replicate sum_cons take_of_length_le)
open Nat (add_zero le_of_ble_eq_true le_refl le_trans lt_or_ge zero_add zero_le)
open Option (getD_some isSome_iff_exists)
noncomputable section
namespace Lf
open Go Go.Sx Go.Proofs
def axo(a b:List En):Bool:=decide (a=b)
def axp(a b:List Br):Bool:=decide (a=b)
def lG(k:Int)(s:ByteArray):ByteArray:=if k>(s.size:Int)then empty else s.extract 0 k.toNat
def vG(k:Int)(s:ByteArray):Bool:= !decide (k>(s.size:Int))
def qB(k:Int)(s:ByteArray):ByteArray:=if k>(s.size:Int)then s else s.extract k.toNat s.size
def yq:Spec (Int×ByteArray):=⟨λx=>[.s (.int .i64 x.1),.ptr 0 0],λx=>[.aq [.s (.str x.2)] 9],λx=>[0<=x.1],λx=>[.aq [.s (.str (qB x.1 x.2))] 9],λx=>.bq [.s (.str (lG x.1 x.2)),.s (.bool (vG x.1 x.2))]⟩
def aif:List AV->RM ((Int×ByteArray)×List Nat)
 |[.s (.int .i64 k),.ptr id 0]=>.look id λ
  |some (.aq [.s (.str s)] _)=>.ret ((k,s),[id])|_=>.fail ""
 |[.s (.aR .i64 k),.ptr id 0]=>.look id λ
  |some (.aq [.s (.str s)] _)=>.ret ((k,s),[id])|_=>.fail ""
 |_=>.fail ""
def rdK(s:ByteArray):Int:=aJ (lG 1 s) 0
def rdT(s:ByteArray):ByteArray:=if vG 1 s=true then lG (rdK s) (qB 1 s)else empty
def zJ(s:ByteArray):Bool:=vG 1 s&&vG (rdK s) (qB 1 s)
def iR(s:ByteArray):ByteArray:=if vG 1 s=true then qB (rdK s) (qB 1 s)else qB 1 s
def aed:Spec ByteArray:=⟨λ_=>[.ptr 0 0],λs=>[.aq [.fn 105 [.ptr 1 0]] 161,.aq [.s (.str s)] 9],λ_=>[],λs=>[.aq [.fn 105 [.ptr 1 0]] 161,.aq [.s (.str (iR s))] 9],λs=>.bq [.s (.str (rdT s)),.s (.bool (zJ s))]⟩
def asX:List AV->RM (ByteArray×List Nat)
 |[.ptr id 0]=>.look id λ
  |some (.aq [.fn _ [.ptr j 0]] _)=>.look j λ
   |some (.aq [.s (.str s)] _)=>.ret (s,[id,j])|_=>.fail ""
  |_=>.fail ""
 |_=>.fail ""
def aih:aK:=[(105,bY yq aif)]
def yr:aK:=[(105,bY yq aif),(106,bY aed asX),(107,auQ)]
def aii:List (Nat×Norm):=[(7,⟨[],[1,2],0,[]⟩),(11,⟨[],[1,2,4,5,6],0,[(2,1,false,.au cE [],eE),(2,2,false,.au cB [],eB)]⟩),(22,⟨[],[1,2,4,5,6,8],0,[]⟩)]
def obZ:ak:=.aq [.s (.bool false),.emp,.emp] 100
def aij(s:ByteArray):bP:=⟨sl 93 [(1,.ptr 0 0),(2,.ptr 1 0)],[.aq [.s (.str s)] 9,obZ],hr f85 7,{}⟩
def aqe(s:ByteArray)(l:Bool)(es:List En)(bs:List Br):bP:=⟨sl 93 [(1,.ptr 0 0),(2,.ptr 1 0),(4,.ptr 2 0),(5,.ptr 3 0),(6,.fn 106 [.ptr 3 0])],[.aq [.s (.str s)] 9,obZ,.aq [.s (.bool l),.vec 4,.vec 5] 100,.aq [.fn 105 [.ptr 0 0]] 161,.vec (.au cE es) eE,.vec (.au cB bs) eB],hd f85 11,{}⟩
def qC(s:ByteArray)(l:Bool)(es:List En)(bs:List Br)(is:Bool):bP:=⟨sl 93 [(1,.ptr 0 0),(2,.ptr 1 0),(4,.ptr 2 0),(5,.ptr 3 0),(6,.fn 106 [.ptr 3 0]),(8,.s (.bool is))],[.aq [.s (.str s)] 9,obZ,.aq [.s (.bool l),.vec 4,.vec 5] 100,.aq [.fn 105 [.ptr 0 0]] 161,.vec (.au cE es) eE,.vec (.au cB bs) eB],hr f85 22,{}⟩
theorem am2(k:Int)(s:ByteArray):run P ij.sum f105 [] (start f105 [.s (.int .i64 k),.ptr 0 0] [.aq [.s (.str s)] 9])=
 Tree.ite (decide (k>(↑s.size:Int))) (.ret [.aq [.s (.str s)] 9] (.bq [.s (.str empty),.s (.aI false)])) (.ab ((0:Int)<=0) (.ab ((0:Int)<=k) (.ab (k<=(↑s.size:Int)) (.ab ((0:Int)<=k) (.ab (k<=(↑s.size:Int)) (.ab ((↑s.size:Int)<=(↑s.size:Int)) (.ret [.aq [.s (.str (s.extract k.toNat (↑s.size:Int).toNat))] 9] (.bq [.s (.str (s.extract (Int.toNat 0) k.toNat)),.s (.aI true)])))))))):=by kernel_rfl
theorem am3(s:ByteArray):run P aih.sum f106 [] (start f106 [.ptr 0 0] [.aq [.fn 105 [.ptr 1 0]] 161,.aq [.s (.str s)] 9])=
 Tree.ab (bp (some [AV.s (.int .i64 1),.ptr 0 0])) (.ab (bp (some [ak.aq [.s (.str s)] 9])) (.ab ((0:Int)<=1) (.ite (!vG 1 s) (.ret [.aq [.fn 105 [.ptr 1 0]] 161,.aq [.s (.str (qB 1 s))] 9] (.bq [.s (.str empty),.s (.aI false)])) (.ab ((0:Int)<=0) (.ab ((0:Int)<(↑(lG 1 s).size:Int)) (.ab (aA (aJ (lG 1 s) (Int.toNat 0))) (.ab (bp (some [AV.s (.int .i64 (aJ (lG 1 s) (Int.toNat 0))),.ptr 0 0])) (.ab (bp (some [ak.aq [.s (.str (qB 1 s))] 9])) (.ab ((0:Int)<=aJ (lG 1 s) (Int.toNat 0)) (.ret [.aq [.fn 105 [.ptr 1 0]] 161,.aq [.s (.str (qB (aJ (lG 1 s) (Int.toNat 0)) (qB 1 s)))] 9] (.bq [.s (.str (lG (aJ (lG 1 s) (Int.toNat 0)) (qB 1 s))),.s (.bool (vG (aJ (lG 1 s) (Int.toNat 0)) (qB 1 s)))]))))))))))):=by kernel_rfl
theorem aqf(s:ByteArray):run P yr.sum f85 aii (start f85 [.s (.str s)] [])=
 Tree.ite (decide ((↑s.size:Int)>254)) (.ret [.aq [.s (.str s)] 9,.aq [.s (.aI false),.emp,.emp] 100] (.bq [.agg [.s (.aI false),.emp,.emp],.s (.aR .i64 40)])) (.ite (decide (s=empty)) (.ret [.aq [.s (.str s)] 9,.aq [.s (.aI false),.emp,.emp] 100] (.bq [.agg [.s (.aI false),.emp,.emp],.s (.aR .i64 8)])) (.ab ((0:Int)<=0) (.ab ((0:Int)<(↑s.size:Int)) (.ite (aJ s (Int.toNat 0) !=1) (.ab ((0:Int)<=0) (.ab ((0:Int)<(↑s.size:Int)) (.ite (aJ s (Int.toNat 0) !=2) (.ret [.aq [.s (.str s)] 9,.aq [.s (.aI false),.emp,.emp] 100] (.bq [.agg [.s (.aI false),.emp,.emp],.s (.aR .i64 4)])) (.at (aij s))))) (.at (aij s)))))):=by kernel_rfl
theorem am4(s:ByteArray):run P yr.sum f85 aii (aij s)=
 Tree.ab ((0:Int)<=0) (.ab ((0:Int)<(↑s.size:Int)) (.ab ((0:Int)<=1) (.ab ((1:Int)<=(↑s.size:Int)) (.ab ((↑s.size:Int)<=(↑s.size:Int)) (.at (aqe (s.extract (Int.toNat 1) (↑s.size:Int).toNat) (aJ s (Int.toNat 0)==1) [] [])))))):=by kernel_rfl
theorem aik(s:ByteArray)(l:Bool)(es:List En)(bs:List Br):run P yr.sum f85 aii (aqe s l es bs)=
 Tree.ite (!decide (s=empty)) (Tree.ab (bp (some [AV.ptr (0:Nat) (0:Nat)])) (Tree.ab (bp (some [ak.aq [AV.fn (105:Nat) [AV.ptr (1:Nat) (0:Nat)]] (161:Nat),ak.aq [AV.s (SV.str s)] (9:Nat)])) (Tree.ite l (Tree.ite (zJ s) (Tree.ab (bp (some [AV.ptr (0:Nat) (0:Nat)])) (Tree.ab (bp (some [ak.aq [AV.fn (105:Nat) [AV.ptr (1:Nat) (0:Nat)]] (161:Nat),ak.aq [AV.s (SV.str (iR s))] (9:Nat)])) (Tree.ab ((es.length+(1:Nat))*(32:Nat)≤(140737488355328:Nat)) (Tree.at (qC (iR (iR s)) l (es++[(rdT s,rdT (iR s),())]) bs (zJ (iR s))))))) (Tree.ite (zJ s) (Tree.ab (bp (some [AV.s (SV.int i64 (2:Int)),AV.ptr (0:Nat) (0:Nat)])) (Tree.ab (bp (some [ak.aq [AV.s (SV.str (iR s))] (9:Nat)])) (Tree.ab ((0:Int)≤(2:Int)) (Tree.ite (vG (2:Int) (iR s)) (Tree.ab ((0:Int)≤(0:Int)) (Tree.ab ((0:Int)<(↑(lG (2:Int) (iR s)).size:Int)) (Tree.ab (aA (aJ (lG (2:Int) (iR s)) (Int.toNat (0:Int)))) (Tree.ab ((0:Int)≤(8:Int)) (Tree.ab ((0:Int)≤(1:Int)) (Tree.ab ((1:Int)<(↑(lG (2:Int) (iR s)).size:Int)) (Tree.ab (aA (aJ (lG (2:Int) (iR s)) (Int.toNat (1:Int)))) (Tree.ab ((bs.length+(1:Nat))*(24:Nat)≤(140737488355328:Nat)) (Tree.at (qC (qB (2:Int) (iR s)) l es (bs++[(rdT s,bE BinOp.or i64 (i64.wrap (aJ (lG (2:Int) (iR s)) (Int.toNat (0:Int))*(2:Int)^min (Int.toNat (8:Int)) i64.bits)) (aJ (lG (2:Int) (iR s)) (Int.toNat (1:Int))),())]) (vG (2:Int) (iR s)))))))))))) (Tree.at (qC (qB (2:Int) (iR s)) l es bs (vG (2:Int) (iR s)))))))) (Tree.at (qC (iR s) l es bs (zJ s))))) (Tree.ite (zJ s) (Tree.ab (bp (some [AV.s (SV.int i64 (2:Int)),AV.ptr (0:Nat) (0:Nat)])) (Tree.ab (bp (some [ak.aq [AV.s (SV.str (iR s))] (9:Nat)])) (Tree.ab ((0:Int)≤(2:Int)) (Tree.ite (vG (2:Int) (iR s)) (Tree.ab ((0:Int)≤(0:Int)) (Tree.ab ((0:Int)<(↑(lG (2:Int) (iR s)).size:Int)) (Tree.ab (aA (aJ (lG (2:Int) (iR s)) (Int.toNat (0:Int)))) (Tree.ab ((0:Int)≤(8:Int)) (Tree.ab ((0:Int)≤(1:Int)) (Tree.ab ((1:Int)<(↑(lG (2:Int) (iR s)).size:Int)) (Tree.ab (aA (aJ (lG (2:Int) (iR s)) (Int.toNat (1:Int)))) (Tree.ab ((bs.length+(1:Nat))*(24:Nat)≤(140737488355328:Nat)) (Tree.at (qC (qB (2:Int) (iR s)) l es (bs++[(rdT s,bE BinOp.or i64 (i64.wrap (aJ (lG (2:Int) (iR s)) (Int.toNat (0:Int))*(2:Int)^min (Int.toNat (8:Int)) i64.bits)) (aJ (lG (2:Int) (iR s)) (Int.toNat (1:Int))),())]) (vG (2:Int) (iR s)))))))))))) (Tree.at (qC (qB (2:Int) (iR s)) l es bs (vG (2:Int) (iR s)))))))) (Tree.at (qC (iR s) l es bs (zJ s))))))) (Tree.ite (!dD l es bs) (Tree.ret [ak.aq [AV.s (SV.str s)] (9:Nat),ak.aq [AV.s (SV.aI false),AV.emp,AV.emp] (100:Nat),ak.aq [AV.s (SV.bool l),AV.vec (4:Nat),AV.vec (5:Nat)] (100:Nat),ak.aq [AV.fn (105:Nat) [AV.ptr (0:Nat) (0:Nat)]] (161:Nat),ak.vec (aU.au [CK.str,CK.str] es) (76:Nat),ak.vec (aU.au [CK.str,CK.int i64] bs) (116:Nat)] (AV.bq [AV.agg [AV.s (SV.aI false),AV.emp,AV.emp],AV.s (SV.aR i64 (4:Int))])) (Tree.ret [ak.aq [AV.s (SV.str s)] (9:Nat),ak.aq [AV.s (SV.bool l),AV.vec (4:Nat),AV.vec (5:Nat)] (100:Nat),ak.aq [AV.s (SV.bool l),AV.vec (4:Nat),AV.vec (5:Nat)] (100:Nat),ak.aq [AV.fn (105:Nat) [AV.ptr (0:Nat) (0:Nat)]] (161:Nat),ak.vec (aU.au [CK.str,CK.str] es) (76:Nat),ak.vec (aU.au [CK.str,CK.int i64] bs) (116:Nat)] (AV.bq [AV.agg [AV.s (SV.bool l),AV.vec (4:Nat),AV.vec (5:Nat)],AV.s (SV.aR i64 (0:Int))]))):=by kernel_rfl
theorem aee(s:ByteArray)(l:Bool)(es:List En)(bs:List Br)(is:Bool):run P yr.sum f85 aii (qC s l es bs is)=
 Tree.ite (!is) (.ret [.aq [.s (.str s)] 9,.aq [.s (.aI false),.emp,.emp] 100,.aq [.s (.bool l),.vec 4,.vec 5] 100,.aq [.fn 105 [.ptr 0 0]] 161,.vec (.au cE es) 76,.vec (.au cB bs) 116] (.bq [.agg [.s (.aI false),.emp,.emp],.s (.aR .i64 8)])) (.at (aqe s l es bs)):=by kernel_rfl
def am5(l:Bool)(es:List En)(bs:List Br)(l':Bool)(mE:List En)(qD:List Br):Bool:=(l==l')&&(axo es mE&&axp bs qD)
theorem dV(s:ByteArray)(i j:Nat):(s.extract i j).size=min j s.size - i:=by simp
theorem c8(s:ByteArray)(i:Nat):0<=aJ s i/\aJ s i<=255:=by
 have:=(s.data.toList.getD i 0).toNat_lt;unfold aJ;omega
theorem wz{k:Int}{s:ByteArray}:vG k s=true↔k<=(s.size:Int):=by simp[vG]
theorem yt{k:Int}{s:ByteArray}(h0:0<=k)(h:vG k s=true):((lG k s).size:Int)=k:=by
 have h:=wz.1 h;rw[lG,if_neg (by omega),dV];omega
theorem aef{k:Int}{s:ByteArray}(h0:0<=k)(h:vG k s=true):((qB k s).size:Int)=s.size - k:=by
 have h:=wz.1 h;rw[qB,if_neg (by omega),dV];omega
theorem agD(k:Int)(s:ByteArray):(qB k s).size<=s.size:=by
 unfold qB;split;exact le_refl _;rw[dV];omega
theorem ail{Z:bh}:fI P Z 105 yq:=by
 refine fS func105 ?_;rintro⟨k,s⟩ ⟨(h1:0<=k),_⟩ X hX hz;refine cF hz hX (by simp) aK.Ok.nil func105 (am2 k s) ⟨λh=>⟨⟨[],[0],1,[]⟩,le_refl _, ?_⟩,λh=> ?_⟩;show Norm.run _ _=some ⟨[.bq [.s (.str (lG k s)),.s (.bool (vG k s))]],[.aq [.s (.str (qB k s))] 9],[],{}⟩;rw[lG,qB,vG,if_pos (of_decide_eq_true h),if_pos (of_decide_eq_true h),h];kernel_rfl;have h2:=of_decide_eq_false h;refine⟨by omega,h1,by omega,h1,by omega,by omega,⟨[],[0],1,[]⟩,le_refl _, ?_⟩;show Norm.run _ _=some ⟨[.bq [.s (.str (lG k s)),.s (.bool (vG k s))]],[.aq [.s (.str (qB k s))] 9],[],{}⟩;rw[lG,qB,vG,if_neg h2,if_neg h2,h];kernel_rfl
theorem agE{Z:bh}:aih.Ok P Z:=aK.Ok.cons (ail.sum aif) aK.Ok.nil
theorem aqg{Z:bh}:fI P Z 106 aed:=by
 refine fS func106 ?_;rintro(s:ByteArray) _ X hX hz;refine cF hz hX (by simp) agE func106 (am3 s) ⟨rfl,rfl,by decide,λh=>⟨⟨[],[0],2,[]⟩,le_refl _, ?_⟩,λh=> ?_⟩;have h:vG 1 s=false:=by simpa using h
 show Norm.run _ _=some ⟨[.bq [.s (.str (rdT s)),.s (.bool (zJ s))]],[.aq [.fn 105 [.ptr 1 0]] 161,.aq [.s (.str (iR s))] 9],[],{}⟩;rw[rdT,iR,zJ,h];kernel_rfl;have h:vG 1 s=true:=by simpa using h
 have h1:=yt (by omega) h;have h2:=c8 (lG 1 s) 0;refine⟨by decide,by omega,⟨by show _<=aJ (lG 1 s) 0;omega,by show aJ (lG 1 s) 0<=_;omega⟩,rfl,rfl,h2.1,⟨[],[0],2,[]⟩,le_refl _, ?_⟩;show Norm.run _ _=some ⟨[.bq [.s (.str (rdT s)),.s (.bool (zJ s))]],[.aq [.fn 105 [.ptr 1 0]] 161,.aq [.s (.str (iR s))] 9],[],{}⟩;rw[rdT,iR,zJ,h];kernel_rfl
theorem kG{Z:bh}:yr.Ok P Z:=aK.Ok.cons (ail.sum aif) (aK.Ok.cons (aqg.sum asX) (aK.Ok.cons agw.sum aK.Ok.nil))
theorem lq{s:ByteArray}(h:zJ s=true):(iR s).size+1<=s.size:=by
 simp only[zJ,and_eq_true]at h;have h1:=aef (by omega) h.1;have h2:=agD (rdK s) (qB 1 s);rw[iR,if_pos h.1];omega
def am6(t:ByteArray):Int:=bE BinOp.or i64 (i64.wrap (aJ t (Int.toNat 0)*2^min (Int.toNat 8) i64.bits)) (aJ t (Int.toNat 1))
def jh(l:Bool):Nat->ByteArray->List En->List Br->Int×List En×List Br
 |0,_,es,bs=>if dD l es bs=true then(0,es,bs)else(4,[],[])
 |n+1,s,es,bs=>
  if s=empty then(if dD l es bs=true then(0,es,bs)else(4,[],[]))
  else if zJ s=false then(8,[],[])
  else if l=true then(if zJ (iR s)=true then jh l n (iR (iR s)) (es++[(rdT s,rdT (iR s),())]) bs else(8,[],[]))
  else(if vG 2 (iR s)=true then jh l n (qB 2 (iR s)) es (bs++[(rdT s,am6 (lG 2 (iR s)),())])else(8,[],[]))
def qi(s:ByteArray):Int×List En×List Br:=
 if(s.size:Int)>254 then(40,[],[])else if s=empty then(8,[],[])else if aJ s 0≠1/\aJ s 0≠2 then(4,[],[])
 else jh (aJ s 0==1) s.size (s.extract 1 s.size) [] []
def uA(s:ByteArray):Int:=(qi s).1
def pt(s:ByteArray):List En:=(qi s).2.1
def nX(s:ByteArray):List Br:=(qi s).2.2
def ka(s:ByteArray):Bool:=decide (uA s=0)&&(aJ s 0==1)
abbrev U(s:ByteArray):List UInt8:=s.data.toList
theorem nO(s:ByteArray):(U s).length=s.size:=length_toList
theorem kH(s:ByteArray)(i j:Nat):U (s.extract i j)=((U s).drop i).take (j - i):=by
 rw[U,ByteArray.data_extract,Array.toList_extract,List.extract_eq_take_drop]
theorem ab9:U empty=[]:=rfl
theorem asY{s:ByteArray}(h:U s=[]):s=empty:=um h
theorem aca{s:ByteArray}{a b:List UInt8}{k:Int}(h:U s=a++b)(hk:(a.length:Int)=k):vG k s=true/\U (lG k s)=a/\U (qB k s)=b:=by
 have hl:=nO s;rw[h,length_append]at hl;refine⟨wz.2 (by omega), ?_, ?_⟩;rw[lG,if_neg (by omega),kH,h,show k.toNat - 0=a.length from by omega];simp;rw[qB,if_neg (by omega),kH,h,show k.toNat=a.length from by omega,List.drop_left,take_of_length_le (by omega)]
theorem acb{s:ByteArray}{k:Int}(h0:0<=k)(h:vG k s=true):U s=U (lG k s)++U (qB k s)/\((U (lG k s)).length:Int)=k:=by
 have hk:=wz.1 h;have hl:=nO s;refine⟨?_,by rw[nO];exact yt h0 h⟩;rw[lG,qB,if_neg (by omega),if_neg (by omega),kH,kH,List.drop_zero,Nat.sub_zero,take_of_length_le (l:=(U s).drop _) (by simp[hl]),List.take_append_drop]
def pv(s:ByteArray):List UInt8:=UInt8.ofNat s.size::U s
theorem jJ{s:ByteArray}{a:UInt8}{r:List UInt8}(h:U s=a::r):aJ s 0=(a.toNat:Int):=by
 simp[aJ,show s.data.toList=a::r from h]
theorem acd{s:ByteArray}{a b:UInt8}{r:List UInt8}(h:U s=a::b::r):aJ s 1=(b.toNat:Int):=by
 simp[aJ,show s.data.toList=a::b::r from h]
theorem ace{s k:ByteArray}{r:List UInt8}(h:U s=pv k++r)(hk:k.size<=255):zJ s=true/\rdT s=k/\U (iR s)=r:=by
 have⟨h1,h2,h3⟩:=aca (s:=s) (a:=[UInt8.ofNat k.size]) (b:=U k++r) (k:=1) (by rw[h];rfl) rfl;have e:rdK s=(k.size:Int):=by rw[rdK,jJ h2];simp;omega
 have⟨g1,g2,g3⟩:=aca (s:=qB 1 s) (k:=rdK s) h3 (by rw[nO,e]);refine⟨by simp[zJ,h1,g1], ?_, ?_⟩;rw[rdT,if_pos h1];exact um g2;rw[iR,if_pos h1];exact g3
theorem aim{s:ByteArray}(h:zJ s=true):U s=pv (rdT s)++U (iR s)/\(rdT s).size<=255:=by
 simp only[zJ,and_eq_true]at h;have⟨h1,h2⟩:=h;have⟨g1,g2⟩:=acb (by decide) h1;have hr:=c8 (lG 1 s) 0;have⟨g3,g4⟩:=acb (k:=rdK s) hr.1 h2;have g2:(U (lG 1 s)).length=1:=by omega
 have⟨a,ha⟩:=List.length_eq_one_iff.1 g2;have e:rdK s=(a.toNat:Int):=jJ ha;rw[rdT,iR,if_pos h1,if_pos h1];have hs:(lG (rdK s) (qB 1 s)).size=a.toNat:=by rw[<-nO];omega
 refine⟨?_,by rw[hs];have:=a.toNat_lt;omega⟩;rw[g1,ha,g3,pv,hs];simp
def iW(x:En):List UInt8:=pv x.1++pv x.2.1
def iX(x:Br):List UInt8:=pv x.1++[UInt8.ofNat (x.2.1 / 256).toNat,UInt8.ofNat (x.2.1%256).toNat]
theorem sM{a b:Int}(ha:0<=a/\a<=255)(hb:0<=b/\b<=255):bE BinOp.or i64 (i64.wrap (a*2^min (Int.toNat 8) i64.bits)) b=a*256+b:=by
 have e1:i64.wrap (a*2^min (Int.toNat 8) i64.bits)=a*256:=by
  rw[show(2:Int)^min (Int.toNat 8) i64.bits=256 from by decide];exact cq ⟨by omega,by omega⟩
 rw[e1];obtain⟨x,rfl⟩:=Int.eq_ofNat_of_zero_le ha.1;obtain⟨y,rfl⟩:=Int.eq_ofNat_of_zero_le hb.1;show i64.wrap ((BitVec.ofInt 64 _ ||| BitVec.ofInt 64 _).toNat:Int)=_;have e2:(BitVec.ofInt 64 ((x:Int)*256)).toNat=2^8*x:=by rw[BitVec.toNat_ofInt];omega
 have e3:(BitVec.ofInt 64 (y:Int)).toNat=y:=by rw[BitVec.toNat_ofInt];omega
 rw[BitVec.toNat_or,e2,e3,<-Nat.two_pow_add_eq_or_of_lt (by omega),cq ⟨by omega,by omega⟩];omega
theorem asZ{t:ByteArray}{a b:UInt8}(h:U t=[a,b]):am6 t=(a.toNat:Int)*256+b.toNat:=by
 have h1:=a.toNat_lt;have h2:=b.toNat_lt;have e0:=jJ h;have e1:=acd h;rw[am6,show aJ t (Int.toNat 0)=_ from e0,show aJ t (Int.toNat 1)=_ from e1];exact sM ⟨by omega,by omega⟩ ⟨by omega,by omega⟩
theorem aeg{l:Bool}{n:Nat}{s:ByteArray}{es:List En}{bs:List Br}(h:U s=[]):jh l n s es bs=if dD l es bs=true then(0,es,bs)else(4,[],[]):=by
 cases n with
 |zero=>rfl|succ n=>rw[jh,if_pos (asY h)]
theorem aeh:∀(n:Nat) (es2:List En) (s:ByteArray) (es:List En) (bs:List Br),s.size<=n->U s=es2.flatMap iW->(∀x∈es2,x.1.size<=255/\x.2.1.size<=255)->jh true n s es bs=if dD true (es++es2) bs=true then(0,es++es2,bs)else(4,[],[])
 |n,[],s,es,bs,_,hu,_=>by rw[aeg hu,append_nil]
 |0,x::es2,s,es,bs,hn,hu,_=>by
  have:=nO s;rw[hu]at this;simp[iW,pv]at this;omega
 |n+1,x::es2,s,es,bs,hn,hu,hx=>by
  have⟨k,v,⟨⟩⟩:=x;have hx0:=hx (k,v,()) (by simp);have h0:s≠empty:=λe=>by subst e;simp[ab9,iW,pv]at hu
  have⟨a1,a2,a3⟩:=ace (s:=s) (k:=k) (r:=pv v++es2.flatMap iW) (by rw[hu];simp[iW]) hx0.1;have⟨b1,b2,b3⟩:=ace a3 hx0.2;have c1:=lq a1;have c2:=lq b1;rw[jh,if_neg h0,if_neg (by simp[a1]),if_pos rfl,if_pos b1,a2,b2,aeh n es2 _ _ bs (by omega) b3 (λy hy=>hx y (by simp[hy]))];simp
theorem yu:∀(n:Nat) (bs2:List Br) (s:ByteArray) (es:List En) (bs:List Br),s.size<=n->U s=bs2.flatMap iX->(∀x∈bs2,x.1.size<=255/\0<=x.2.1/\x.2.1<65536)->jh false n s es bs=if dD false es (bs++bs2)=true then(0,es,bs++bs2)else(4,[],[])
 |n,[],s,es,bs,_,hu,_=>by rw[aeg hu,append_nil]
 |0,x::bs2,s,es,bs,hn,hu,_=>by
  have:=nO s;rw[hu]at this;simp[iX,pv]at this;omega
 |n+1,x::bs2,s,es,bs,hn,hu,hx=>by
  have⟨k,p,⟨⟩⟩:=x;have hx0:=hx (k,p,()) (by simp);have h0:s≠empty:=λe=>by subst e;simp[ab9,iX,pv]at hu
  have⟨a1,a2,a3⟩:=ace (s:=s) (k:=k) (r:=[UInt8.ofNat (p / 256).toNat,UInt8.ofNat (p%256).toNat]++bs2.flatMap iX) (by rw[hu];simp[iX]) hx0.1;have⟨b1,b2,b3⟩:=aca (k:=2) a3 rfl;have c1:=lq a1;have c2:=agD 2 (iR s)
  have e:am6 (lG 2 (iR s))=p:=by
   have hp:0<=p/\p<65536:=hx0.2;rw[asZ b2];simp only[UInt8.toNat_ofNat'];omega
  rw[jh,if_neg h0,if_neg (by simp[a1]),if_neg (by simp),if_pos b1,a2,e,yu n bs2 _ es _ (by omega) b3 (λy hy=>hx y (by simp[hy]))];simp
theorem auS{α:Type}:∀{l:List α},l.length=2->∃a b,l=[a,b]
 |[a,b],_=>⟨a,b,rfl⟩
theorem axq:∀(n:Nat) (l:Bool) (s:ByteArray) (es:List En) (bs:List Br) {mE:List En} {qD:List Br},s.size<=n->jh l n s es bs=(0,mE,qD)->
 ∃es2 bs2,mE=es++es2/\qD=bs++bs2/\dD l mE qD=true/\U s=es2.flatMap iW++bs2.flatMap iX/\(l=true->bs2=[])/\(l=false->es2=[]):=by
 intro n;have fin:∀(l:Bool) (s:ByteArray) (es:List En) (bs:List Br) {mE:List En} {qD:List Br},s=empty->(if dD l es bs=true then((0:Int),es,bs)else(4,[],[]))=(0,mE,qD)->
  ∃es2 bs2,mE=es++es2/\qD=bs++bs2/\dD l mE qD=true/\U s=es2.flatMap iW++bs2.flatMap iX/\(l=true->bs2=[])/\(l=false->es2=[]):=by
  intro l s es bs mE qD hs h;split at h;rename_i hm;simp only[Prod.mk.injEq,true_and]at h;obtain⟨rfl,rfl⟩:=h;exact⟨[],[],by simp,by simp,hm,by subst hs;rfl,λ_=>rfl,λ_=>rfl⟩;simp at h
 induction n with
 |zero=>
  intro l s es bs mE qD hn h;exact fin l s es bs (mM (Nat.le_zero.1 hn)) h
 |succ n ih=>
  intro l s es bs mE qD hn h;by_cases h0:s=empty;rw[jh,if_pos h0]at h;exact fin l s es bs h0 h;rw[jh,if_neg h0]at h;split at h;simp at h;rename_i hB;have hB:zJ s=true:=by simpa using hB
  have⟨a1,a2⟩:=aim hB;have c1:=lq hB;split at h;rename_i hl;subst hl;split at h;rename_i hB2;have⟨b1,b2⟩:=aim hB2;have c2:=lq hB2;obtain⟨es2,bs2,rfl,rfl,d3,d4,d5,d6⟩:=ih true _ _ _ (by omega) h;have d5:=d5 rfl;subst d5;refine⟨(rdT s,rdT (iR s),())::es2,[],by simp,by simp,d3, ?_,λ_=>rfl,λh=>(by cases h)⟩;rw[a1,b1,d4];simp[iW];simp at h;rename_i hl;have hl:l=false:=by simpa using hl
  subst hl;split at h;rename_i hB2;have⟨b1,b2⟩:=acb (by decide) hB2;have c2:=agD 2 (iR s);obtain⟨es2,bs2,rfl,rfl,d3,d4,d5,d6⟩:=ih false _ _ _ (by omega) h;have d6:=d6 rfl;subst d6;refine⟨[],(rdT s,am6 (lG 2 (iR s)),())::bs2,by simp,by simp,d3, ?_,λh=>(by cases h),λ_=>rfl⟩;have b2:(U (lG 2 (iR s))).length=2:=by omega
  have⟨a,b,hab⟩:=auS b2;have e:=asZ hab;have h1:=a.toNat_lt;have h2:=b.toNat_lt;rw[a1,b1,d4,hab];simp only[List.flatMap_nil,nil_append,List.flatMap_cons,iX,e,append_assoc];rw[show(((a.toNat:Int)*256+b.toNat) / 256).toNat=a.toNat from by omega,show(((a.toNat:Int)*256+b.toNat)%256).toNat=b.toNat from by omega];simp;simp at h
theorem agF{es:List En}(h:kv es=true){x:En}(hx:x∈es):x.1.size<=24/\x.2.1.size<=100:=by
 obtain⟨i,hi,rfl⟩:=List.getElem_of_mem hx;have:=dt.1 h i hi;simp only[okE,not_eq_true',Bool.or_eq_false_iff,decide_eq_false_iff_not,ba hi]at this;omega
theorem aei{bs:List Br}(h:ik bs=true){x:Br}(hx:x∈bs):x.1.size<=24/\2<=x.2.1/\x.2.1<1024:=by
 obtain⟨i,hi,rfl⟩:=List.getElem_of_mem hx;have:=dt.1 h i hi;simp only[okB,not_eq_true',Bool.or_eq_false_iff,decide_eq_false_iff_not,ba hi]at this;omega
abbrev enB(zs:List Int):List UInt8:=zs.map λn=>UInt8.ofNat n.toNat
theorem aqh(zs:List Int):U (aF zs)=enB zs:=rfl
theorem u8_in{n:Int}(h0:0<=n)(h1:n<=255):u8.wrap n=n:=by
 simp only[IntKind.wrap,IntKind.bits,IntKind.signed,Bool.false_and];simp;omega
theorem acf{s:ByteArray}(h:s.size<=255):enB (txt s)=pv s:=by
 simp only[enB,txt,map_cons,pv,u8_in (n:=(s.size:Int)) (by omega) (by omega),toNat_natCast,List.cons.injEq,true_and,ab8,List.map_map];exact(List.map_congr_left (λa _=>by simp)).trans (List.map_id _)
theorem axr{x:En}(h:x.1.size<=24/\x.2.1.size<=100):enB (pq x)=iW x:=by
 simp only[pq,iW,map_append];rw[show(txt x.1).map _=_ from acf (by omega),show(txt x.2.1).map _=_ from acf (by omega)]
theorem axs{x:Br}(h:x.1.size<=24/\2<=x.2.1/\x.2.1<1024):enB (vV x)=iX x:=by
 have⟨k,p,⟨⟩⟩:=x;have hp:2<=p/\p<1024:=h.2;simp only[vV,iX,map_append,map_cons,map_nil];rw[show(txt k).map _=_ from acf (by have:k.size<=24:=h.1;omega),show(2:Int)^min (Int.toNat 8) i64.bits=256 from by decide,Int.fdiv_eq_ediv_of_nonneg _ (by omega),u8_in (by omega) (by omega)]
 have e:u8.wrap p=p%256:=by
  simp only[IntKind.wrap,IntKind.bits,IntKind.signed,Bool.false_and];simp
 rw[e]
theorem yv{α:Type}{f:α->List Int}{g:α->List UInt8}:∀{l:List α},(∀x∈l,enB (f x)=g x)->enB (l.flatMap f)=l.flatMap g
 |[],_=>rfl|x::l,h=>by
  simp only[List.flatMap_cons,map_append];rw[show(f x).map _=_ from h x (by simp),show(l.flatMap f).map _=_ from yv (λy hy=>h y (by simp[hy]))]
theorem as0{l:Bool}{es:List En}{bs:List Br}(h1:kv es=true)(h2:ik bs=true):U (aF (pr l es bs))=(if l=true then 1 else 2)::(es.flatMap iW++bs.flatMap iX):=by
 rw[aqh,pr];simp only[map_append];rw[show(es.flatMap pq).map _=_ from yv λx hx=>axr (agF h1 hx),show(bs.flatMap vV).map _=_ from yv λx hx=>axs (aei h2 hx)];cases l<;>rfl
theorem axt:∀(es:List En),((es.flatMap iW).length:Int)=(es.map rG).sum
 |[]=>rfl|x::es=>by
  simp only[List.flatMap_cons,length_append,map_cons,sum_cons,<-axt es,rG,iW,pv,length_cons,nO];omega
theorem axu:∀(bs:List Br),((bs.flatMap iX).length:Int)=(bs.map rh).sum
 |[]=>rfl|x::bs=>by
  simp only[List.flatMap_cons,length_append,map_cons,sum_cons,<-axu bs,rh,iX,pv,length_cons,length_nil,nO];omega
theorem aej{s:ByteArray}{a:UInt8}{es:List En}{bs:List Br}(h:U s=a::(es.flatMap iW++bs.flatMap iX)):(s.size:Int)=bC es bs:=by
 have:=nO s;rw[h]at this;simp only[length_cons,length_append]at this;rw[bC,<-axt,<-axu];omega
theorem mR{l:Bool}{es:List En}{bs:List Br}:iJ l es bs=0↔dD l es bs=true/\bC es bs<=254:=by
 unfold iJ;split;split<;>simp_all;simp_all
theorem ain{l:Bool}{es:List En}{bs:List Br}(h:iJ l es bs=0):encS l es bs=aF (pr l es bs):=by
 have⟨h1,h2⟩:=mR.1 h;rw[encS,if_pos (by simp[aeb,h1,h2])]
theorem aqi{l:Bool}{es:List En}{bs:List Br}(h:iJ l es bs=0):uA (encS l es bs)=0/\ka (encS l es bs)=l/\pt (encS l es bs)=es/\nX (encS l es bs)=bs/\((encS l es bs).size:Int)=bC es bs:=by
 have⟨h1,h2⟩:=mR.1 h;have⟨m1,m2,m3,m4⟩:=ew h1;rw[ain h];have hu:=as0 (l:=l) m3 m4;have hs:=aej hu;have h0:aF (pr l es bs)≠empty:=λe=>by rw[e,ab9]at hu;cases hu
 have hb:aJ (aF (pr l es bs)) 0=if l=true then 1 else 2:=by rw[jJ hu];cases l<;>rfl
 have he:U ((aF (pr l es bs)).extract 1 (aF (pr l es bs)).size)=es.flatMap iW++bs.flatMap iX:=by
  have:=nO (aF (pr l es bs));rw[hu]at this;rw[kH,hu];simp only[length_cons]at this;exact take_of_length_le (by simp;simp at this;omega)
 have hd:qi (aF (pr l es bs))=(0,es,bs):=by
  rw[qi,if_neg (by omega),if_neg h0,if_neg (by rw[hb];cases l<;>simp),hb];cases l;obtain rfl:=m2 rfl;have:=yu (aF (pr false [] bs)).size bs _ [] [] (by rw[dV];omega) he (λx hx=>by have:=aei m4 hx;omega);simp only[nil_append,h1,if_true]at this;exact this;obtain rfl:=m1 rfl;have:=aeh (aF (pr true es [])).size es ((aF (pr true es [])).extract 1 (aF (pr true es [])).size) [] [] (by rw[dV];omega) (by rw[he];simp) (λx hx=>by have:=agF m3 hx;omega);simp only[nil_append,h1,if_true]at this;exact this
 refine⟨by rw[uA,hd], ?_,by rw[pt,hd],by rw[nX,hd],hs⟩;rw[ka,uA,hd,hb];cases l<;>rfl
theorem axv:∀(es:List En),es.length<=(es.flatMap iW).length
 |[]=>le_refl _|x::l=>by have:=axv l;simp only[List.flatMap_cons,length_cons,length_append,iW,pv];omega
theorem axw:∀(es:List Br),es.length<=(es.flatMap iX).length
 |[]=>le_refl _|x::l=>by have:=axw l;simp only[List.flatMap_cons,length_cons,length_append,iX,pv];omega
theorem aqj{s:ByteArray}(h:uA s=0):bx (pt s)/\bz (nX s)/\iJ (ka s) (pt s) (nX s)=0/\encS (ka s) (pt s) (nX s)=s/\dD (ka s) (pt s) (nX s)=true:=by
 have h':=h;rw[uA]at h;have hl:ka s=(aJ s 0==1):=by simp[ka,h']
 rw[hl];unfold pt nX;unfold qi at h ⊢;split at h;exact absurd h (by decide);rename_i g1;rw[if_neg g1];split at h;exact absurd h (by decide);rename_i g2;rw[if_neg g2];split at h;exact absurd h (by decide);rename_i g3;rw[if_neg g3];obtain⟨mE,qD,e⟩:∃mE qD,jh (aJ s 0==1) s.size (s.extract 1 s.size) [] []=(0,mE,qD):=⟨_,_,Prod.ext h rfl⟩;rw[e];simp only;have⟨es2,bs2,k1,k2,k3,k4,k5,k6⟩:=axq _ _ _ _ _ (by rw[dV];omega) e;simp only[nil_append]at k1 k2;subst k1 k2;have⟨m1,m2,m3,m4⟩:=ew k3;have bB:=nO s;cases hu:U s with
 |nil=>exact absurd (asY hu) g2|cons a r=>
  have hb:=jJ hu;have ha:=a.toNat_lt
  have hr:r=mE.flatMap iW++qD.flatMap iX:=by
   rw[<-k4,kH,hu];rw[hu]at bB;simp only[length_cons]at bB;rw[show List.drop 1 (a::r)=r from rfl,take_of_length_le (by omega)]
  rw[hr]at hu;have hs:=aej hu;have hn:iJ (aJ s 0==1) mE qD=0:=mR.2 ⟨k3,by omega⟩;have aBl:=axv mE;have aBm:=axw qD;rw[hu]at bB;simp only[length_cons,length_append]at bB;refine⟨⟨by omega,λx hx=>by have:=agF m3 hx;omega⟩,⟨by omega,λx hx=>by have:=aei m4 hx;omega⟩,hn, ?_,k3⟩;rw[ain hn];apply um;show U _=U _;rw[as0 m3 m4,hu];congr 1;by_cases hc:aJ s 0=1;rw[if_pos (by simp[hc])];exact UInt8.toNat_inj.1 (by show 1=_;omega);rw[if_neg (by simp[hc])]
  have:aJ s 0=2:=by
   rcases Decidable.em (aJ s 0=2)with h|h;exact h;exact absurd ⟨hc,h⟩ g3
  exact UInt8.toNat_inj.1 (by show 2=_;omega)
abbrev auT:=sumOf [sP] [sP] (λ(l,())=>[(l:List En).length<=100000]) (λ(l,())=>(l,()))
abbrev azM:=sumOf [zH] [zH] (λ(l,())=>[(l:List Br).length<=100000]) (λ(l,())=>(l,()))
def agG:aK:=[(82,auT),(141,azM)]
abbrev axx:=sumOf [sP,bI] [sP,sP] (λ(l,k,())=>[(l:List En).length<=100000,0<=(k:Int),(l=[]\/k<=(l.length:Int))]) (λ(l,k,())=>(List.take (Int.toNat k) l,List.drop (Int.toNat k) l,()))
abbrev axy:=sumOf [zH,bI] [zH,zH] (λ(l,k,())=>[(l:List Br).length<=100000,0<=(k:Int),(l=[]\/k<=(l.length:Int))]) (λ(l,k,())=>(List.take (Int.toNat k) l,List.drop (Int.toNat k) l,()))
def agH:aK:=[(127,amU),(107,auQ),(121,asU),(128,axx),(129,axy)]
def as1:List (Nat×Norm):=[(7,⟨[],[1,2,3,6,7,8,9,34,35,36],0,[]⟩)]
def aqk(l:Bool)(es:List En):List En:=if l=true then es else []
def aql(l:Bool)(bs:List Br):List Br:=if l=true then []else bs
def akm(l:Bool)(es:List En)(bs:List Br)(zs:List Int)(n:Nat)(first rest uB least i:Int):bP:=⟨sl 87 [(1,.ptr 0 0),(2,.ptr 1 0),(3,.ptr 2 0),(6,.s (.int .i64 first)),(7,.s (.int .i64 rest)),(8,.s (.int .i64 uB)),(9,.s (.int .i64 least)),(34,.part 3 0 n),(35,.s (.int .i64 (n:Int))),(36,.s (.int .i64 i))],
 [obN l es bs 100,obZ,obZ,.vec (.ah .i64 zs) 3],hd f97 7,{}⟩
theorem aqm(a:List En):run P ij.sum f82 [] (start f82 [.s (.ro (.au cE a))] [])=
 Tree.both (a.length=0) True (.ret [] .emp) (.ab (((0:Nat)+a.length)*(32:Nat)<=140737488355328) (.ret [.aw,.vec (.au cE ([]++a)) 76] (.vec 1))):=by kernel_rfl
theorem aqn(a:List Br):run P ij.sum f141 [] (start f141 [.s (.ro (.au cB a))] [])=
 Tree.both (a.length=0) True (.ret [] .emp) (.ab (((0:Nat)+a.length)*(24:Nat)<=140737488355328) (.ret [.aw,.vec (.au cB ([]++a)) 116] (.vec 1))):=by kernel_rfl
theorem am7(a:List En)(k:Int):run P agG.sum f128 [] (start f128 [.s (.ro (.au cE a)),.s (.int .i64 k)] [])=
 Tree.ite ((↑a.length:Int)==0) (.ret [] (.bq [.emp,.emp])) (.ab ((0:Int)<=0) (.ab ((0:Int)<=k) (.ab (k<=a.length) (.ab ((List.drop (Int.toNat 0) (List.take k.toNat a)).length<=100000) (.ab ((0:Int)<=k) (.ab (k<=a.length) (.ab ((↑a.length:Int)<=(↑a.length:Int)) (.ab ((List.drop k.toNat (List.take (↑a.length:Int).toNat a)).length<=100000) (.ret [.vec (.au cE (List.drop (Int.toNat 0) (List.take k.toNat a))) 76,.vec (.au cE (List.drop k.toNat (List.take (↑a.length:Int).toNat a))) 76] (.bq [.vec 0,.vec 1])))))))))):=by kernel_rfl
theorem am8(a:List Br)(k:Int):run P agG.sum f129 [] (start f129 [.s (.ro (.au cB a)),.s (.int .i64 k)] [])=
 Tree.ite ((↑a.length:Int)==0) (.ret [] (.bq [.emp,.emp])) (.ab ((0:Int)<=0) (.ab ((0:Int)<=k) (.ab (k<=a.length) (.ab ((List.drop (Int.toNat 0) (List.take k.toNat a)).length<=100000) (.ab ((0:Int)<=k) (.ab (k<=a.length) (.ab ((↑a.length:Int)<=(↑a.length:Int)) (.ab ((List.drop k.toNat (List.take (↑a.length:Int).toNat a)).length<=100000) (.ret [.vec (.au cB (List.drop (Int.toNat 0) (List.take k.toNat a))) 116,.vec (.au cB (List.drop k.toNat (List.take (↑a.length:Int).toNat a))) 116] (.bq [.vec 0,.vec 1])))))))))):=by kernel_rfl
theorem aqo(l:Bool)(es:List En)(bs:List Br):run P agH.sum f97 as1 (start f97 [avN l es bs] [])=
 Tree.ab (bx es) (.ab (bz bs) (.ite (!dD l es bs) (.ret [.aq [.s (.bool l),.s (.ro (.au cE es)),.s (.ro (.au cB bs))] 100,.aq [.s (.aI false),.emp,.emp] 100,.aq [.s (.aI false),.emp,.emp] 100,.vec (.ah .i64 (aT es bs)) 3] (.bq [.agg [.s (.aI false),.emp,.emp],.agg [.s (.aI false),.emp,.emp],.s (.aR .i64 4)])) (.ite (decide ((↑(aT es bs).length:Int)<2)) (.ret [.aq [.s (.bool l),.s (.ro (.au cE es)),.s (.ro (.au cB bs))] 100,.aq [.s (.aI false),.emp,.emp] 100,.aq [.s (.aI false),.emp,.emp] 100,.vec (.ah .i64 (aT es bs)) 3] (.bq [.agg [.s (.aI false),.emp,.emp],.agg [.s (.aI false),.emp,.emp],.s (.aR .i64 4)])) (.ab (bx es) (.ab (bz bs) (.ab (aA (bC es bs - (1:Int))) (.ab (aA ((↑(aT es bs).length:Int) - (1:Int))) (.ab ((0:Int)<=0) (.ab ((0:Int)<=(↑(aT es bs).length:Int) - (1:Int)) (.ab ((↑(0:Nat):Int)+((↑(aT es bs).length:Int) - (1:Int))<=(↑(aT es bs).length:Int)) (.at (akm l es bs (aT es bs) (((↑(aT es bs).length:Int) - (1:Int)).toNat - Int.toNat 0) 0 (bC es bs - (1:Int)) 0 0 0)))))))))))):=by kernel_rfl
theorem aio(l:Bool)(es:List En)(bs:List Br)(zs:List Int)(n:Nat)(first rest uB least i:Int):run P agH.sum f97 as1 (akm l es bs zs n first rest uB least i)=
 Tree.ite (decide (i<(↑n:Int))) (.ab ((0:Int)<=i) (.ab (i<(↑n:Int)) (.ab (aA (first+zs.getD ((0:Nat)+i.toNat) 0)) (.ab (aA (rest - zs.getD ((0:Nat)+i.toNat) 0)) (.ite (uB==0) (.ab (aA (i+1)) (.ab (aA (i+1)) (.at (akm l es bs zs n (first+zs.getD ((0:Nat)+i.toNat) 0) (rest - zs.getD ((0:Nat)+i.toNat) 0) (i+1) (imax (first+zs.getD ((0:Nat)+i.toNat) 0) (rest - zs.getD ((0:Nat)+i.toNat) 0)) (i+1))))) (.ite (decide (imax (first+zs.getD ((0:Nat)+i.toNat) 0) (rest - zs.getD ((0:Nat)+i.toNat) 0)<least)) (.ab (aA (i+1)) (.ab (aA (i+1)) (.at (akm l es bs zs n (first+zs.getD ((0:Nat)+i.toNat) 0) (rest - zs.getD ((0:Nat)+i.toNat) 0) (i+1) (imax (first+zs.getD ((0:Nat)+i.toNat) 0) (rest - zs.getD ((0:Nat)+i.toNat) 0)) (i+1))))) (.ab (aA (i+1)) (.at (akm l es bs zs n (first+zs.getD ((0:Nat)+i.toNat) 0) (rest - zs.getD ((0:Nat)+i.toNat) 0) uB least (i+1)))))))))) (.ab (es.length<=100000) (.ab ((0:bI.V)<=uB) (.ab (es=[]\/uB<=es.length) (.ab (bs.length<=100000) (.ab ((0:bI.V)<=uB) (.ab (bs=[]\/uB<=bs.length) (.ret [.aq [.s (.bool l),.s (.ro (.au cE es)),.s (.ro (.au cB bs))] 100,.aq [.s (.bool l),.vec 6,.vec 8] 100,.aq [.s (.bool l),.vec 7,.vec 9] 100,.vec (.ah .i64 zs) 3,.aq [.s (.bool l),.vec 6,.vec 8] 100,.aq [.s (.bool l),.vec 7,.vec 9] 100,.vec (.au cE (List.take uB.toNat es)) 76,.vec (.au cE (List.drop uB.toNat es)) 76,.vec (.au cB (List.take uB.toNat bs)) 116,.vec (.au cB (List.drop uB.toNat bs)) 116] (.bq [.agg [.s (.bool l),.vec 6,.vec 8],.agg [.s (.bool l),.vec 7,.vec 9],.s (.aR .i64 0)])))))))):=by kernel_rfl
theorem agI{Z:bh}:dF P Z 82 [sP] [sP] (λ(l,())=>[(l:List En).length<=100000]) (λ(l,())=>(l,())):=by
 refine aH func82 (by kernel_rfl) (by kernel_rfl) ?_;rintro⟨(l:List En),⟨⟩⟩ _ ⟨(hl:l.length<=100000),_⟩ X hX hz;refine go hz hX aK.Ok.nil func82 (aqm l) ⟨λh=> ?_,λ_=>⟨by omega, ?_⟩⟩;obtain rfl:=List.eq_nil_of_length_eq_zero h;exact bd ([],()) rfl (by kernel_rfl);exact bd (l,()) rfl (by kernel_rfl)
theorem auU{Z:bh}:dF P Z 141 [zH] [zH] (λ(l,())=>[(l:List Br).length<=100000]) (λ(l,())=>(l,())):=by
 refine aH func141 (by kernel_rfl) (by kernel_rfl) ?_;rintro⟨(l:List Br),⟨⟩⟩ _ ⟨(hl:l.length<=100000),_⟩ X hX hz;refine go hz hX aK.Ok.nil func141 (aqn l) ⟨λh=> ?_,λ_=>⟨by omega, ?_⟩⟩;obtain rfl:=List.eq_nil_of_length_eq_zero h;exact bd ([],()) rfl (by kernel_rfl);exact bd (l,()) rfl (by kernel_rfl)
theorem aaH{Z:bh}:agG.Ok P Z:=aK.Ok.cons agI.sum (aK.Ok.cons auU.sum aK.Ok.nil)
theorem aqp{Z:bh}:dF P Z 128 [sP,bI] [sP,sP] (λ(l,k,())=>[(l:List En).length<=100000,0<=(k:Int),(l=[]\/k<=(l.length:Int))]) (λ(l,k,())=>(List.take (Int.toNat k) l,List.drop (Int.toNat k) l,())):=by
 refine aH func128 (by kernel_rfl) (by kernel_rfl) ?_;rintro⟨(l:List En),(k:Int),⟨⟩⟩ _ ⟨(hl:l.length<=100000),(h0:0<=k),(hk:l=[]\/k<=(l.length:Int)),_⟩ X hX hz;show Safe P 128 X (Ends [sP,sP] (l.take k.toNat,l.drop k.toNat,())) _;refine go hz hX aaH func128 (am7 l k) ⟨λh=> ?_,λh=> ?_⟩
 obtain rfl:l=[]:=List.eq_nil_of_length_eq_zero (by have:(l.length:Int)=0:=by simpa using h
                                                    omega)
 refine bd (rs:=[sP,sP]) ([],[],()) ?_ (by kernel_rfl);show(List.take k.toNat ([]:List En),List.drop k.toNat ([]:List En),())=([],[],());rw[List.take_nil,List.drop_nil];have hk:k<=(l.length:Int):=hk.elim (λe=>by subst e;simp at h) id;have e1:List.drop (Int.toNat 0) (List.take k.toNat l)=l.take k.toNat:=rfl;have e2:List.drop k.toNat (List.take ((l.length:Int)).toNat l)=l.drop k.toNat:=by rw[take_of_length_le (by omega)]
 refine⟨by omega,h0,hk, ?_,h0,hk,by omega, ?_, ?_⟩;rw[e1,length_take];omega;rw[e2,length_drop];omega;exact bd (List.drop (Int.toNat 0) (List.take k.toNat l),List.drop k.toNat (List.take ((l.length:Int)).toNat l),()) (by rw[e2];rfl) (by kernel_rfl)
theorem aqq{Z:bh}:dF P Z 129 [zH,bI] [zH,zH] (λ(l,k,())=>[(l:List Br).length<=100000,0<=(k:Int),(l=[]\/k<=(l.length:Int))]) (λ(l,k,())=>(List.take (Int.toNat k) l,List.drop (Int.toNat k) l,())):=by
 refine aH func129 (by kernel_rfl) (by kernel_rfl) ?_;rintro⟨(l:List Br),(k:Int),⟨⟩⟩ _ ⟨(hl:l.length<=100000),(h0:0<=k),(hk:l=[]\/k<=(l.length:Int)),_⟩ X hX hz;show Safe P 129 X (Ends [zH,zH] (l.take k.toNat,l.drop k.toNat,())) _;refine go hz hX aaH func129 (am8 l k) ⟨λh=> ?_,λh=> ?_⟩
 obtain rfl:l=[]:=List.eq_nil_of_length_eq_zero (by have:(l.length:Int)=0:=by simpa using h
                                                    omega)
 refine bd (rs:=[zH,zH]) ([],[],()) ?_ (by kernel_rfl);show(List.take k.toNat ([]:List Br),List.drop k.toNat ([]:List Br),())=([],[],());rw[List.take_nil,List.drop_nil];have hk:k<=(l.length:Int):=hk.elim (λe=>by subst e;simp at h) id;have e1:List.drop (Int.toNat 0) (List.take k.toNat l)=l.take k.toNat:=rfl;have e2:List.drop k.toNat (List.take ((l.length:Int)).toNat l)=l.drop k.toNat:=by rw[take_of_length_le (by omega)]
 refine⟨by omega,h0,hk, ?_,h0,hk,by omega, ?_, ?_⟩;rw[e1,length_take];omega;rw[e2,length_drop];omega;exact bd (List.drop (Int.toNat 0) (List.take k.toNat l),List.drop k.toNat (List.take ((l.length:Int)).toNat l),()) (by rw[e2];rfl) (by kernel_rfl)
def kb(zs:List Int)(k:Nat):Int:=imax (zs.take k).sum (zs.sum - (zs.take k).sum)
def iK(zs:List Int):Nat->Nat×Int
 |0=>(0,0)|k+1=>if(iK zs k).1=0\/kb zs (k+1)<(iK zs k).2 then(k+1,kb zs (k+1))else iK zs k
theorem pX(zs:List Int):∀k,(iK zs k).1<=k
 |0=>le_refl _|k+1=>by
  have:=pX zs k;rw[iK];split;exact le_refl _;omega
theorem pw(zs:List Int):∀k,0<k->0<(iK zs k).1
 |0,h=>absurd h (by omega)
 |k+1,_=>by
  rw[iK];split;exact Nat.succ_pos _;rename_i h;exact Nat.pos_of_ne_zero (λe=>h (.inl e))
def eI(es:List En)(bs:List Br):Nat:=(iK (aT es bs) (es.length+bs.length - 1)).1
def dW(l:Bool)(es:List En)(bs:List Br):Bool:=dD l es bs&&decide (2<=es.length+bs.length)
def b8(l:Bool)(es:List En)(bs:List Br):Bool:=dW l es bs&&l
def bu(l:Bool)(es:List En)(bs:List Br):List En:=if dW l es bs=true then es.take (eI es bs)else []
def dj(l:Bool)(es:List En)(bs:List Br):List En:=if dW l es bs=true then es.drop (eI es bs)else []
def bA(l:Bool)(es:List En)(bs:List Br):List Br:=if dW l es bs=true then bs.take (eI es bs)else []
def dw(l:Bool)(es:List En)(bs:List Br):List Br:=if dW l es bs=true then bs.drop (eI es bs)else []
def spC(l:Bool)(es:List En)(bs:List Br):Int:=if dW l es bs=true then 0 else 4
abbrev spY(l:Bool)(es:List En)(bs:List Br):AL [fo,fo,bI]:=((b8 l es bs,bu l es bs,bA l es bs,()),(b8 l es bs,dj l es bs,dw l es bs,()),spC l es bs,())
theorem auV{l:Bool}{es:List En}{bs:List Br}(h:dW l es bs=false):spY l es bs=((false,[],[],()),(false,[],[],()),4,()):=by
 simp[spY,b8,bu,dj,bA,dw,spC,h];rfl
theorem aqr{l:Bool}{es:List En}{bs:List Br}(h:dW l es bs=true):spY l es bs=((l,es.take (eI es bs),bs.take (eI es bs),()),(l,es.drop (eI es bs),bs.drop (eI es bs),()),0,()):=by
 simp[spY,b8,bu,dj,bA,dw,spC,h];rfl
theorem yw(es:List En)(bs:List Br):(aT es bs).length=es.length+bs.length:=by simp[aT]
theorem akn{zs:List Int}(h:∀x∈zs,0<=x/\x<=2002)(hl:zs.length<=2000)(k:Nat):0<=(zs.take k).sum/\(zs.take k).sum<=4004000:=by
 have:=pW (l:=zs.take k) (m:=2002) (λx hx=>h x (List.mem_of_mem_take hx)) (by omega);have h3:(zs.take k).length<=2000:=by rw[length_take];omega
 omega
theorem am9{Z:bh}:dF P Z 97 [fo] [fo,fo,bI] (λ((_,es,bs,()),())=>[bx es,bz bs])
 (λ((l,es,bs,()),())=>((b8 l es bs,bu l es bs,bA l es bs,()),(b8 l es bs,dj l es bs,dw l es bs,()),spC l es bs,())):=by
 refine aH func97 (by kernel_rfl) (by kernel_rfl) ?_;rintro⟨⟨(l:Bool),(es:List En),(bs:List Br),⟨⟩⟩,⟨⟩⟩ _ ⟨(he:bx es),(hb:bz bs),_⟩ X hX hz;have hT:agH.Ok P Z:=aK.Ok.cons sQ.sum (aK.Ok.cons agw.sum (aK.Ok.cons ah9.sum (aK.Ok.cons aqp.sum (aK.Ok.cons aqq.sum aK.Ok.nil))));show Safe P 97 X (Ends [fo,fo,bI] (spY l es bs)) _;have hle:=he.1;have hlb:=hb.1;have bB:=yw es bs;have hr:=aaF he hb;have mK:=akn hr (by omega);have azN:=mK (aT es bs).length;rw[List.take_length]at azN;have bU:=pj es bs;have loop:dW l es bs=true->∀(n k:Nat),k+n=es.length+bs.length - 1->Safe P 97 X (Ends [fo,fo,bI] (spY l es bs))
  (akm l es bs (aT es bs) (es.length+bs.length - 1) ((aT es bs).take k).sum ((aT es bs).sum - ((aT es bs).take k).sum) ((iK (aT es bs) k).1:Int) (iK (aT es bs) k).2 (k:Int)):=by
  intro jU n;have axz:=jU;simp only[dW,and_eq_true,decide_eq_true_eq]at axz;have⟨hm,h2⟩:=axz;have⟨m1,m2,m3,m4⟩:=ew hm
  induction n with
  |zero=>
   intro k hk;have aBq:=pX (aT es bs) k
   have hE:es=[]\/((iK (aT es bs) k).1:Int)<=(es.length:Int):=by
    cases l;exact .inl (m2 rfl);have:=m1 rfl;subst this;simp only[length_nil]at hk;exact .inr (by omega)
   have hB:bs=[]\/((iK (aT es bs) k).1:Int)<=(bs.length:Int):=by
    cases l;have:=m2 rfl;subst this;simp only[length_nil]at hk;exact .inr (by omega);exact .inl (m1 rfl)
   refine go hz hX hT func97 (aio l es bs _ _ _ _ _ _ k) ⟨λh=>absurd (of_decide_eq_true h) (by omega),λh=>⟨by omega,Int.natCast_nonneg _,hE,by omega,Int.natCast_nonneg _,hB, ?_⟩⟩;have axA:(iK (aT es bs) k).1=eI es bs:=by rw[eI,show k=es.length+bs.length - 1 from by omega]
   rw[axA,aqr jU];exact bd ((l,es.take (eI es bs),bs.take (eI es bs),()),(l,es.drop (eI es bs),bs.drop (eI es bs),()),0,()) rfl (by kernel_rfl)
  |succ n ih=>
   intro k hk;have h1:=mK k
   have h3:0<=(aT es bs).getD k 0/\(aT es bs).getD k 0<=2002:=by
    rw[ba (by omega)];exact hr _ (getElem_mem _)
   have ni:=ju (l:=aT es bs) (k:=k) (by omega)
   have hc:imax (((aT es bs).take k).sum+(aT es bs).getD k 0) ((aT es bs).sum - ((aT es bs).take k).sum - (aT es bs).getD k 0)=kb (aT es bs) (k+1):=by
    rw[kb,<-ni];congr 1;omega
   have next:=ih (k+1) (by omega)
   rw[<-ni,show(aT es bs).sum - (((aT es bs).take k).sum+(aT es bs).getD k 0)=(aT es bs).sum - ((aT es bs).take k).sum - (aT es bs).getD k 0 from by omega]at next
   refine go hz hX hT func97 (aio l es bs _ _ _ _ _ _ k) ?_;simp only[toNat_natCast,zero_add,hc];refine⟨λh=>⟨by omega,by omega,⟨by omega,by omega⟩,⟨by omega,by omega⟩,λh0=> ?_,λh0=>⟨λbo=> ?_,λbo=> ?_⟩⟩,λh=>absurd (of_decide_eq_false h) (by omega)⟩
   have h0:(iK (aT es bs) k).1=0:=by have:((iK (aT es bs) k).1:Int)=0:=by simpa using h0
                                     omega
   rw[iK,if_pos (.inl h0)]at next
   exact⟨⟨by omega,by omega⟩,⟨by omega,by omega⟩,next⟩;rw[iK,if_pos (.inr (of_decide_eq_true bo))]at next
   exact⟨⟨by omega,by omega⟩,⟨by omega,by omega⟩,next⟩
   have h0:¬((iK (aT es bs) k).1=0\/kb (aT es bs) (k+1)<(iK (aT es bs) k).2):=by
    rintro(h|h);simp[h]at h0;exact of_decide_eq_false bo h
   rw[iK,if_neg h0]at next
   exact⟨⟨by omega,by omega⟩,next⟩
 have bad:dW l es bs=false->spY l es bs=((false,[],[],()),(false,[],[],()),4,()):=auV;refine go hz hX hT func97 (aqo l es bs) ⟨he,hb,λh=>bd ((false,[],[],()),(false,[],[],()),4,()) (bad ?_) (by kernel_rfl),λh=>⟨λh2=>bd ((false,[],[],()),(false,[],[],()),4,()) (bad ?_) (by kernel_rfl),λh2=> ?_⟩⟩;have h:dD l es bs=false:=by simpa using h
 simp[dW,h];have h2:=of_decide_eq_true h2;simp only[dW,Bool.and_eq_false_iff,decide_eq_false_iff_not];exact .inr (by omega);have h:dD l es bs=true:=by simpa using h
 have h2:=of_decide_eq_false h2;have jU:dW l es bs=true:=by simp only[dW,h,Bool.true_and,decide_eq_true_eq];omega
 refine⟨he,hb,⟨by omega,by omega⟩,⟨by omega,by omega⟩,by omega,by omega,by omega, ?_⟩;have:=loop jU (es.length+bs.length - 1) 0 (by omega);have e1:((((aT es bs).length:Int) - 1).toNat - Int.toNat 0)=es.length+bs.length - 1:=by omega
 rw[e1,bU];simp only[List.take_zero,List.sum_nil,Int.sub_zero,iK]at this;rw[show 1+(aT es bs).sum - 1=(aT es bs).sum from by omega];exact this
theorem aek{es:List En}(h:bx es)(k:Nat):bx (es.take k):=⟨by have:=h.1;rw[length_take];omega,λx hx=>h.2 x (List.mem_of_mem_take hx)⟩
theorem ael{es:List Br}(h:bz es)(k:Nat):bz (es.take k):=⟨by have:=h.1;rw[length_take];omega,λx hx=>h.2 x (List.mem_of_mem_take hx)⟩
theorem aem{es:List En}(h:bx es)(k:Nat):bx (es.drop k):=⟨by have:=h.1;rw[length_drop];omega,λx hx=>h.2 x (List.mem_of_mem_drop hx)⟩
theorem aen{es:List Br}(h:bz es)(k:Nat):bz (es.drop k):=⟨by have:=h.1;rw[length_drop];omega,λx hx=>h.2 x (List.mem_of_mem_drop hx)⟩
theorem ji:bx []:=⟨by simp,λx hx=>by simp at hx⟩
theorem yx:bz []:=⟨by simp,λx hx=>by simp at hx⟩
theorem aeo(zs:List Int)(k:Nat):(zs.drop k).sum=zs.sum - (zs.take k).sum:=by
 have:(zs.take k++zs.drop k).sum=zs.sum:=by rw[List.take_append_drop]
 rw[List.sum_append]at this;omega
theorem ako{l:Bool}{es:List En}{bs:List Br}(m1:l=true->bs=[])(m2:l=false->es=[])(k:Nat):
 aqk l (es.take k)=es.take k/\aql l (bs.take k)=bs.take k/\aqk l (es.drop k)=es.drop k/\aql l (bs.drop k)=bs.drop k/\
 bC (es.take k) (bs.take k)=1+((aT es bs).take k).sum/\bC (es.drop k) (bs.drop k)=1+((aT es bs).sum - ((aT es bs).take k).sum):=by
 rw[<-aeo];cases l;obtain rfl:=m2 rfl;simp[aqk,aql,aT,bC];obtain rfl:=m1 rfl;simp[aqk,aql,aT,bC]
theorem ana(a b:Int):imax (1+a) (1+b)=1+imax a b:=by
 unfold imax;split<;>split<;>omega
abbrev acg:=sumOf [sP,eU] [bI,dg] (λ(l,_,())=>[(l:List En).length<=1000000,jt (bS l)]) (λ(l,key,())=>((cW (bS l) key:Nat),j9 (bS l) key,()))
def aqs:aK:=[(81,acg)]
theorem anb(l:List En)(key:ByteArray):run P aqs.sum f62 [] (start f62 [.s (.ro (.au cE l)),.s (.str key)] [])=
 Tree.ab (l.length<=1000000) (.ab (jt (bS l)) (.ite (!j9 (bS l) key) (.ret [] (.bq [.s (.str empty),.s (.aI false)])) (.ab ((0:Int)<=(↑(cW (bS l) key):bI.V)) (.ab ((↑(cW (bS l) key):bI.V)<(↑l.length:Int)) (.ret [] (.bq [.s (.str (l.getD (Int.toNat (↑(cW (bS l) key):bI.V)) (CL.d cE)).snd.fst),.s (.aI true)])))))):=by kernel_rfl
theorem agJ(l:List En)(i j:Int):run P ij.sum f92 [] (start f92 [.vec 0,.s (.int .i64 i),.s (.int .i64 j)] [.vec (.au cE l) eE])=
 Tree.ab ((0:Int)<=i) (.ab (i<=j) (.ab (j<=l.length) (.ab ((↑(0:Nat):Int)+(↑l.length:Int)<=(↑l.length:Int)) (.ite (i==j) (.ret [.vec (.au cE l) 76] (.vec 0)) (.ab ((0:Int)<=0) (.ab ((0:Int)<=i) (.ab ((↑(0:Nat):Int)+i<=l.length) (.ab ((0:Int)<=j) (.ab (j<=l.length) (.ab ((↑(0:Nat):Int)+(↑l.length:Int)<=(↑l.length:Int)) (.ab ((0:Nat)+(i.toNat - Int.toNat 0)+(List.drop ((0:Nat)+j.toNat) (List.take ((0:Nat)+j.toNat+((↑l.length:Int).toNat - j.toNat)) l)).length<=l.length) (.ab ((0:Int)<=(↑(i.toNat - Int.toNat (0:Int)+(List.drop ((0:Nat)+j.toNat) (List.take ((0:Nat)+j.toNat+((↑l.length:Int).toNat - j.toNat)) l)).length):Int)) (.ab ((↑(i.toNat - Int.toNat (0:Int)+(List.drop ((0:Nat)+j.toNat) (List.take ((0:Nat)+j.toNat+((↑l.length:Int).toNat - j.toNat)) l)).length):Int)<=(↑l.length:Int)) (.ab ((↑(0:Nat):Int)+(↑l.length:Int)<=(↑(over l ((0:Nat)+(i.toNat - Int.toNat 0)) (List.drop ((0:Nat)+j.toNat) (List.take ((0:Nat)+j.toNat+((↑l.length:Int).toNat - j.toNat)) l)).length (List.drop ((0:Nat)+j.toNat) (List.take ((0:Nat)+j.toNat+((↑l.length:Int).toNat - j.toNat)) l))).length:Int)) (.ret [.vec (.au cE (over (over l ((0:Nat)+(i.toNat - Int.toNat 0)) (List.drop ((0:Nat)+j.toNat) (List.take ((0:Nat)+j.toNat+((↑l.length:Int).toNat - j.toNat)) l)).length (List.drop ((0:Nat)+j.toNat) (List.take ((0:Nat)+j.toNat+((↑l.length:Int).toNat - j.toNat)) l))) ((0:Nat)+(↑(i.toNat - Int.toNat (0:Int)+(List.drop ((0:Nat)+j.toNat) (List.take ((0:Nat)+j.toNat+((↑l.length:Int).toNat - j.toNat)) l)).length):Int).toNat) ((↑l.length:Int).toNat - (↑(i.toNat - Int.toNat (0:Int)+(List.drop ((0:Nat)+j.toNat) (List.take ((0:Nat)+j.toNat+((↑l.length:Int).toNat - j.toNat)) l)).length):Int).toNat) (replicate ((↑l.length:Int).toNat - (↑(i.toNat - Int.toNat (0:Int)+(List.drop ((0:Nat)+j.toNat) (List.take ((0:Nat)+j.toNat+((↑l.length:Int).toNat - j.toNat)) l)).length):Int).toNat) (CL.d cE)))) 76] (.part 0 0 (i.toNat - Int.toNat (0:Int)+(List.drop ((0:Nat)+j.toNat) (List.take ((0:Nat)+j.toNat+((↑l.length:Int).toNat - j.toNat)) l)).length))))))))))))))))):=by kernel_rfl
theorem drop_cons{α:Type}{l:List α}{k:Nat}(d:α)(h:k<l.length):l.drop k=l.getD k d::l.drop (k+1):=by rw[List.drop_eq_getElem_cons h,ba h]
abbrev isK(key:ByteArray)(x:En):Bool:=decide (x.1=key)
def px(l:List En)(key:ByteArray):ByteArray:=match l.find? (isK key)with|some x=>x.2.1|none=>empty
def nA(l:List En)(key:ByteArray):Bool:=(l.find? (isK key)).isSome
theorem aip{L:List ak}{s:ByteArray}{b:Bool}:Ends [eU,dg] (s,b,()) L (.bq [.s (.str s),.s (.aI b)]):=rfl
theorem aiq{l:List En}(hs:jt (bS l)){i j:Nat}(hi:i<l.length)(hj:j<l.length)(h:(l.getD i dE).1=(l.getD j dE).1):i=j:=by
 have hk:∀t,(bS l).getD t empty=(l.getD t dE).1:=λt=>c9 l rf dE t;have hn:(bS l).length=l.length:=length_map _;rcases Nat.lt_trichotomy i j with h1|h1|h1;have:=hs i j h1 (by omega);rw[hk,hk,h,eu]at this;cases this;exact h1;have:=hs j i h1 (by omega);rw[hk,hk,h,eu]at this;cases this
theorem air{l:List En}{key:ByteArray}(hs:jt (bS l)):nA l key=j9 (bS l) key/\(j9 (bS l) key=true->cW (bS l) key<l.length/\px l key=(l.getD (cW (bS l) key) dE).2.1):=by
 have hk:∀t,(bS l).getD t empty=(l.getD t dE).1:=λt=>c9 l rf dE t;have hn:(bS l).length=l.length:=length_map _;cases ha:j9 (bS l) key;refine⟨?_,λh=>by cases h⟩;cases hf:l.find? (isK key)with
 |none=>rw[nA,hf];rfl|some x=>
  exfalso;have h1:=List.find?_some hf;obtain⟨i,hi,rfl⟩:=List.getElem_of_mem (List.mem_of_find?_eq_some hf);have h1:l[i].1=key:=of_decide_eq_true h1;have h2:(l.getD i dE).1=key:=by rw[ba hi];exact h1
  rcases lt_or_ge i (cW (bS l) key)with h3|h3;have:=agB h3;rw[hk,h2,eu]at this;cases this;rcases Nat.eq_or_lt_of_le h3 with h4|h4;have:j9 (bS l) key=true:=kx.2 ⟨by omega,by rw[hk,h4];exact h2⟩;rw[ha]at this;cases this;have h5:=am1 hs (key:=key) (t:=cW (bS l) key) (le_refl _) (by omega);have h6:=hs _ _ h4 (by omega);rw[hk i,h2]at h6;rw[h6]at h5;cases h5
 have⟨h1,h2⟩:=kx.1 ha;rw[hk]at h2;rw[hn]at h1;cases hf:l.find? (isK key)with
 |none=>
  exfalso;have:=List.find?_eq_none.1 hf (l.getD (cW (bS l) key) dE) (by rw[ba h1];exact getElem_mem _);exact this (decide_eq_true h2)
 |some x=>
  obtain⟨i,hi,rfl⟩:=List.getElem_of_mem (List.mem_of_find?_eq_some hf);have h3:=List.find?_some hf;have h3:l[i].1=key:=of_decide_eq_true h3;have e:i=cW (bS l) key:=aiq hs hi h1 (by rw[h2,ba hi];exact h3);subst e;exact⟨by rw[nA,hf];rfl,λ_=>⟨h1,by rw[px,hf,ba hi]⟩⟩
theorem aqt{Z:bh}:dF P Z 62 [sP,eU] [eU,dg] (λ(l,_,())=>[(l:List En).length<=1000000,jt (bS l)]) (λ(l,key,())=>(px l key,nA l key,())):=by
 refine aH func62 (by kernel_rfl) (by kernel_rfl) ?_;rintro⟨(l:List En),(key:ByteArray),⟨⟩⟩ _ ⟨(hl:l.length<=1000000),(hs:jt (bS l)),_⟩ X hX hz;show Safe P 62 X (Ends [eU,dg] (px l key,nA l key,())) _;have⟨h1,h2⟩:=air (key:=key) hs;refine go hz hX (aK.Ok.cons uz.sum aK.Ok.nil) func62 (anb l key) ⟨hl,hs,λh=> ?_,λh=> ?_⟩;have h:j9 (bS l) key=false:=by simpa using h
 have e2:nA l key=false:=by rw[h1,h]
 have e1:px l key=empty:=by
  cases hf:l.find? (isK key)with
  |none=>rw[px,hf]|some x=>rw[nA,hf]at e2;cases e2
 rw[e1,e2];exact aip;have h:j9 (bS l) key=true:=by simpa using h
 have⟨h3,h4⟩:=h2 h;rw[h4,h1,h];refine⟨Int.natCast_nonneg _, ?_,aip⟩;show((cW (bS l) key:Nat):Int)<_;omega
def yy(key val:ByteArray):Bool->List En->List En
 |dn,[]=>if dn=true then []else [(key,val,())]
 |dn,x::r=>if dn=false/\slt x.1 key=false then(if x.1=key then(key,val,())::yy key val true r else(key,val,())::x::yy key val true r)else x::yy key val dn r
def cH(l:List En)(key:ByteArray):List En:=l.filter λx=> !isK key x
def iT(l:List En)(key:ByteArray):Bool:=decide (((cH l key).length:Int)<(l.length:Int))
theorem aaI(x:En)(r:List En)(key:ByteArray):cH (x::r) key=if(!isK key x)=true then x::cH r key else cH r key:=by
 unfold cH;rw[List.filter_cons]
abbrev zK(l:List En)(j:Int):List En:=List.drop ((0:Nat)+j.toNat) (List.take ((0:Nat)+j.toNat+(((l.length:Int)).toNat - j.toNat)) l)
abbrev uC(l:List En)(i j:Int):Nat:=i.toNat - Int.toNat (0:Int)+(zK l j).length
abbrev akp(l:List En)(i j:Int):List En:=over (over l ((0:Nat)+(i.toNat - Int.toNat (0:Int))) (zK l j).length (zK l j)) ((0:Nat)+((uC l i j:Nat):Int).toNat) (((l.length:Int)).toNat - ((uC l i j:Nat):Int).toNat) (replicate (((l.length:Int)).toNat - ((uC l i j:Nat):Int).toNat) (CL.d cE))
def ais:Spec (List En×Int×Int):=⟨λx=>[.vec 0,.s (.int .i64 x.2.1),.s (.int .i64 x.2.2)],λx=>[.vec (.au cE x.1) eE],λx=>[0<=x.2.1,x.2.1<x.2.2,x.2.2<=((x.1.length:Nat):Int)],λx=>[.vec (.au cE (akp x.1 x.2.1 x.2.2)) eE],λx=>.part 0 0 (uC x.1 x.2.1 x.2.2)⟩
def axB:List AV->RM ((List En×Int×Int)×List Nat)
 |[.vec id,.s (.int .i64 i),.s (.int .i64 j)]=>.look id λ
  |some (.vec (.au [.str,.str] l) _)=>.ret ((l,i,j),[id])|_=>.fail ""
 |_=>.fail ""
def anc:aK:=[(81,acg),(82,auT),(92,bY ais axB)]
theorem aqu(l:List En)(key:ByteArray):run P anc.sum f73 [] (start f73 [.s (.ro (.au cE l)),.s (.str key)] [])=
 Tree.ab (l.length<=1000000) (.ab (jt (bS l)) (.ab (l.length<=100000) (.ite (j9 (bS l) key) (.ab (aA ((↑(cW (bS l) key):bI.V)+1)) (.ab (bp (some [AV.vec 0,.s (.int .i64 (↑(cW (bS l) key):bI.V)),.s (.int .i64 ((↑(cW (bS l) key):bI.V)+1))])) (.ab (bp (some [ak.vec (.au cE l) 76])) (.ab ((0:Int)<=(↑(cW (bS l) key):bI.V)) (.ab ((↑(cW (bS l) key):bI.V)<(↑(cW (bS l) key):bI.V)+1) (.ab ((↑(cW (bS l) key):bI.V)+1<=(↑l.length:Int)) (.ret [.vec (.au cE (akp l (↑(cW (bS l) key):bI.V) ((↑(cW (bS l) key):bI.V)+1))) 76] (.bq [.part 0 0 (uC l (↑(cW (bS l) key):bI.V) ((↑(cW (bS l) key):bI.V)+1)),.s (.bool (j9 (bS l) key))])))))))) (.ret [.vec (.au cE l) 76] (.bq [.vec 0,.s (.bool (j9 (bS l) key))]))))):=by kernel_rfl
theorem akq{Z:bh}:fI P Z 92 ais:=by
 refine fS func92 ?_;rintro⟨l,i,j⟩ ⟨(h1:0<=i),(h2:i<j),(h3:j<=(l.length:Int)),_⟩ X hX hz;have e1:(zK l j).length=l.length - j.toNat:=by simp only[zK,length_drop,length_take];omega
 refine cF hz hX (by simp) aK.Ok.nil func92 (agJ l i j) ⟨h1,by omega,h3,by omega,λh=>absurd h (by simp;omega),λ_=>⟨by omega,h1,by omega,by omega,h3,by omega, ?_, ?_, ?_, ?_,⟨⟨[],[0],1,[]⟩,le_refl _, ?_⟩⟩⟩;show 0+(i.toNat - Int.toNat 0)+(zK l j).length<=l.length;rw[e1];omega;show(0:Int)<=((uC l i j:Nat):Int);omega;show((uC l i j:Nat):Int)<=_;simp only[uC,e1];omega;show((0:Nat):Int)+(l.length:Int)<=((over l (0+(i.toNat - Int.toNat 0)) (zK l j).length (zK l j)).length:Int);simp only[over,length_append,length_take,length_drop,e1];omega;show Norm.run _ _=some ⟨[.part 0 0 (uC l i j)],[.vec (.au cE (akp l i j)) eE],[],{}⟩;kernel_rfl
theorem ane{l:List En}{key:ByteArray}(hs:jt (bS l)):(j9 (bS l) key=false->cH l key=l)/\(j9 (bS l) key=true->cH l key=l.take (cW (bS l) key)++l.drop (cW (bS l) key+1)):=by
 have hk:∀t,(bS l).getD t empty=(l.getD t dE).1:=λt=>c9 l rf dE t;have hn:(bS l).length=l.length:=length_map _;have⟨f1,f2⟩:=air (key:=key) hs;refine⟨λh=> ?_,λh=> ?_⟩;rw[h]at f1;refine List.filter_eq_self.2 λx hx=> ?_
 have:l.find? (isK key)=none:=by
  cases hf:l.find? (isK key)with
  |none=>rfl|some y=>rw[nA,hf]at f1;cases f1
 have:=List.find?_eq_none.1 this x hx;cases hb:isK key x;rfl;exact absurd hb this;have⟨h1,h2⟩:=kx.1 h;rw[hk]at h2;rw[hn]at h1;have e:l=l.take (cW (bS l) key)++l.getD (cW (bS l) key) dE::l.drop (cW (bS l) key+1):=by rw[<-drop_cons dE h1,List.take_append_drop]
 have other:∀i,i<l.length->i≠cW (bS l) key->(!isK key (l.getD i dE))=true:=λi hi cP=>by
  cases hb:isK key (l.getD i dE);rfl;exact absurd (aiq hs hi h1 ((show(l.getD i dE).1=key from of_decide_eq_true hb).trans h2.symm)) cP
 have g1:cH (l.take (cW (bS l) key)) key=l.take (cW (bS l) key):=by
  refine List.filter_eq_self.2 λx hx=> ?_;obtain⟨i,hi,rfl⟩:=List.getElem_of_mem hx;rw[length_take]at hi;have:=other i (by omega) (by omega);rw[ba (by omega)]at this;rw[List.getElem_take];exact this
 have g2:cH (l.drop (cW (bS l) key+1)) key=l.drop (cW (bS l) key+1):=by
  refine List.filter_eq_self.2 λx hx=> ?_;obtain⟨i,hi,rfl⟩:=List.getElem_of_mem hx;rw[length_drop]at hi;have:=other (cW (bS l) key+1+i) (by omega) (by omega);rw[ba (by omega)]at this;rw[List.getElem_drop];exact this
 have app:∀a b:List En,cH (a++b) key=cH a key++cH b key:=λa b=>List.filter_append ..;have:cH l key=cH (l.take (cW (bS l) key)++l.getD (cW (bS l) key) dE::l.drop (cW (bS l) key+1)) key:=by rw[<-e]
 rw[this,app,aaI,if_neg (show¬(!decide ((l.getD (cW (bS l) key) dE).1=key))=true from by rw[decide_eq_true h2];simp),g1,g2]
theorem aqv{l:List En}{key:ByteArray}(hs:jt (bS l)):iT l key=j9 (bS l) key:=by
 have⟨h1,h2⟩:=ane (key:=key) hs;cases ha:j9 (bS l) key;rw[iT,h1 ha];simp;have⟨h3,_⟩:=kx.1 ha;rw[length_map]at h3;rw[iT,h2 ha];simp only[length_append,length_take,length_drop,decide_eq_true_eq];omega
theorem akr{l:List En}{k:Nat}(h:k<l.length):(akp l (k:Int) ((k:Int)+1)).take (uC l (k:Int) ((k:Int)+1))=l.take k++l.drop (k+1):=by
 have e0:zK l ((k:Int)+1)=l.drop (k+1):=by
  simp only[zK];rw[show 0+((k:Int)+1).toNat=k+1 from by omega,take_of_length_le (by omega)]
 have e1:uC l (k:Int) ((k:Int)+1)=l.length - 1:=by
  simp only[uC,e0,length_drop];omega
 simp only[akp,e0,e1,over];rw[show 0+((k:Int).toNat - Int.toNat 0)=k from by omega,show 0+(((l.length - 1:Nat):Int)).toNat=l.length - 1 from by omega,show k+(l.drop (k+1)).length=l.length - 1 from by rw[length_drop];omega];rw[take_of_length_le (l:=l.drop (k+1)) (le_refl _)];have bB:(l.take k++l.drop (k+1)).length=l.length - 1:=by simp only[length_append,length_take,length_drop];omega
 rw[append_assoc,append_assoc,<-append_assoc (l.take k),List.take_left' bB,List.take_left' bB]
theorem anf{Z:bh}:dF P Z 73 [sP,eU] [sP,dg] (λ(l,_,())=>[(l:List En).length<=100000,jt (bS l)]) (λ(l,key,())=>(cH l key,iT l key,())):=by
 refine aH func73 (by kernel_rfl) (by kernel_rfl) ?_;rintro⟨(l:List En),(key:ByteArray),⟨⟩⟩ _ ⟨(hl:l.length<=100000),(hs:jt (bS l)),_⟩ X hX hz;show Safe P 73 X (Ends [sP,dg] (cH l key,iT l key,())) _;have hT:anc.Ok P Z:=aK.Ok.cons uz.sum (aK.Ok.cons agI.sum (aK.Ok.cons (akq.sum axB) aK.Ok.nil));have⟨d1,d2⟩:=ane (key:=key) hs;have hb:=aqv (key:=key) hs;have hle:=yk (bS l) key;rw[length_map]at hle;refine go hz hX hT func73 (aqu l key) ⟨by omega,hs,hl,λh=> ?_,λh=> ?_⟩;have⟨h3,_⟩:=kx.1 h;rw[length_map]at h3;refine⟨⟨?_, ?_⟩,rfl,rfl, ?_, ?_, ?_, ?_⟩;show(-9223372036854775808:Int)<=((cW (bS l) key:Nat):Int)+1;omega;show((cW (bS l) key:Nat):Int)+1<=(9223372036854775807:Int);omega;show(0:Int)<=((cW (bS l) key:Nat):Int);omega;show((cW (bS l) key:Nat):Int)<((cW (bS l) key:Nat):Int)+1;omega;show((cW (bS l) key:Nat):Int)+1<=(l.length:Int);omega;refine bd (List.drop 0 ((akp l ((cW (bS l) key:Nat):Int) (((cW (bS l) key:Nat):Int)+1)).take (0+uC l ((cW (bS l) key:Nat):Int) (((cW (bS l) key:Nat):Int)+1))),j9 (bS l) key,()) ?_ (by kernel_rfl);rw[d2 h,hb,zero_add,akr h3];rfl;refine bd (l,j9 (bS l) key,()) ?_ (by kernel_rfl);rw[d1 h,hb];rfl
theorem pY(key val:ByteArray):∀l:List En,yy key val true l=l
 |[]=>rfl|x::r=>by rw[yy,if_neg (by simp),pY key val r]
def bN(l:List En)(key val:ByteArray):List En:=l.take (cW (bS l) key)++(key,val,())::l.drop (if j9 (bS l) key=true then cW (bS l) key+1 else cW (bS l) key)
theorem ach{x:En}{r:List En}{key:ByteArray}(h:slt x.1 key=true):cW (bS (x::r)) key=cW (bS r) key+1:=by simp[cW,bS,List.takeWhile,h]
theorem agK{x:En}{r:List En}{key:ByteArray}(h:slt x.1 key=false):cW (bS (x::r)) key=0:=by simp[cW,bS,List.takeWhile,h]
theorem ait{x:En}{r:List En}{key:ByteArray}(h:slt x.1 key=true):j9 (bS (x::r)) key=j9 (bS r) key:=by
 unfold j9;rw[ach h];rfl
theorem ang{x:En}{r:List En}{key:ByteArray}(h:slt x.1 key=false):j9 (bS (x::r)) key=decide (x.1=key):=by
 unfold j9;rw[agK h];simp[bS]
theorem put_eq(key val:ByteArray):∀l:List En,yy key val false l=bN l key val
 |[]=>rfl|x::r=>by
  rw[yy];cases hs:slt x.1 key;rw[if_pos ⟨rfl,rfl⟩,bN,agK hs,ang hs,pY];by_cases hk:x.1=key;rw[if_pos hk,decide_eq_true hk];rfl;rw[if_neg hk,decide_eq_false hk];rfl;rw[if_neg (by simp),put_eq key val r,bN,bN,ach hs,ait hs];cases j9 (bS r) key<;>rfl
theorem aci{l:List En}{key val:ByteArray}:(bN l key val).length=l.length+(if j9 (bS l) key=true then 0 else 1):=by
 have:=yk (bS l) key;rw[length_map]at this;cases ha:j9 (bS l) key;simp only[bN,ha,length_append,length_cons,length_take,length_drop];simp;omega;have h1:=(kx.1 ha).1;rw[length_map]at h1;simp only[bN,ha,length_append,length_cons,length_take,length_drop];simp;omega
abbrev ris(l:List En):Prop:=l.Pairwise λa b=>slt a.1 b.1=true
theorem wA{l:List En}:jt (bS l)↔ris l:=by
 have hk:∀t,(bS l).getD t empty=(l.getD t dE).1:=λt=>c9 l rf dE t;have hn:(bS l).length=l.length:=length_map _;rw[ris,List.pairwise_iff_getElem];constructor;intro h i j hi hj ma;have:=h i j ma (by omega);rw[hk,hk,ba hi,ba hj]at this;exact this;intro h i j ma hj;rw[hn]at hj;have:=h i j (by omega) hj ma;rw[hk,hk,ba (by omega),ba hj];exact this
theorem aiu:∀{l:List En} (key val:ByteArray),ris l->ris (yy key val false l)/\∀a:En,slt a.1 key=true->(∀x∈l,slt a.1 x.1=true)->∀x∈yy key val false l,slt a.1 x.1=true
 |[],key,val,_=>by
  rw[yy,if_neg (by simp)]
  exact⟨List.pairwise_singleton ..,λa h _ x hx=>by
   simp only[mem_singleton]at hx;subst hx;exact h⟩
 |x::r,key,val,h=>by
  have⟨h1,h2⟩:=pairwise_cons.1 h;have⟨g1,g2⟩:=aiu (l:=r) key val h2;rw[yy];split;rename_i hc;split;rename_i hk;rw[pY];refine⟨pairwise_cons.2 ⟨λy hy=>by rw[show(key,val,()).1=x.1 from hk.symm];exact h1 y hy,h2⟩,λa ha hl y hy=> ?_⟩;rcases mem_cons.1 hy with rfl|hy;exact ha;exact hl y (mem_cons_of_mem _ hy);rename_i hk;rw[pY];have bo:slt key x.1=true:=x9 hc.2 hk;refine⟨pairwise_cons.2 ⟨λy hy=> ?_,h⟩,λa ha hl y hy=> ?_⟩;rcases mem_cons.1 hy with rfl|hy;exact bo;exact dc bo (h1 y hy);rcases mem_cons.1 hy with rfl|hy;exact ha;exact hl y hy;rename_i hc;have hx:slt x.1 key=true:=by simpa using hc
  refine⟨pairwise_cons.2 ⟨λy hy=>g2 x hx h1 y hy,g1⟩,λa ha hl y hy=> ?_⟩;rcases mem_cons.1 hy with rfl|hy;exact hl _ (by simp);exact g2 a ha (λz hz=>hl z (mem_cons_of_mem _ hz)) y hy
theorem aqw{l:List En}(key val:ByteArray)(h:jt (bS l)):jt (bS (bN l key val)):=by
 rw[<-put_eq];exact wA.2 (aiu key val (wA.1 h)).1
theorem aqx{l:List En}(key:ByteArray)(h:jt (bS l)):jt (bS (cH l key)):=wA.2 (List.Pairwise.filter _ (wA.1 h))
end Lf
namespace Go.Sx
open Go
section
variable{ρ aL:Nat->Value}{H H':aS}{G O O':Nat->Prop}{w w':World}{P:Program}{X:Ctx}{L:List ak}{K:List ak->AV->Prop}
theorem auW(hs:Sat ρ (lk L) G w){id:Nat}{c c2:aU}{e:TypeId}{aa:Value}(dq:L[id]? =some (.vec c e))(rS:∀b,eW aa=some b->eW (ρ id)=some b)(dT:iv ρ (lk L) (aV ρ (lk L) G) w aa (.vec c2 e)):
 ∃aL,Sat aL (lk (L.set id .aw++[.vec c2 e])) G w/\stp ρ L G w aL (L.set id .aw++[.vec c2 e])/\aL L.length=aa:=by
 have bo:id<L.length:=(List.getElem?_eq_some_iff.1 dq).1;generalize hx:ak.vec c2 e=x;have hxa:x.alive=true:=by rw[<-hx];rfl
 have old:∀{k:Nat} {o:ak},(L.set id .aw++[x])[k]? =some o->(k=L.length/\o=x)\/(k=id/\o=.aw)\/(k≠id/\k≠L.length/\L[k]? =some o):=by
  intro k o ho;have h2:=(List.getElem?_eq_some_iff.1 ho).1;simp only[length_append,length_set,length_cons,length_nil]at h2;by_cases hk:k=L.length;subst hk;rw[getElem?_append_right (by simp)]at ho;simp at ho;exact .inl ⟨rfl,ho.symm⟩;rw[getElem?_append_left (by simp;omega),getElem?_set]at ho;split at ho;rename_i vg
  first
   |exact .inr (.inl ⟨vg.symm,by simpa using ho.symm⟩)
   |(rw[if_pos bo]at ho;exact .inr (.inl ⟨vg.symm,by simpa using ho.symm⟩))
  rename_i vg;exact .inr (.inr ⟨Ne.symm vg,hk,ho⟩)
 have new:∀{k:Nat} {o:ak},L[k]? =some o->k≠id->(L.set id .aw++[x])[k]? =some o:=by
  intro k o ho hk;have h1:=(List.getElem?_eq_some_iff.1 ho).1;rw[getElem?_append_left (by simpa using h1),List.getElem?_set_ne (Ne.symm hk)];exact ho
 have al4:(L.set id .aw++[x])[id]? =some .aw:=by
  rw[getElem?_append_left (by simpa using bo),List.getElem?_set_self bo]
 have awY:(L.set id .aw++[x])[L.length]? =some x:=by
  rw[getElem?_append_right (by simp)];simp
 let aL:Nat->Value:=λj=>if j=L.length then aa else ρ j
 have ei:∀b,Own aL (lk (L.set id .aw++[x])) b->Own ρ (lk L) b:=by
  rintro b ⟨k,o,ho,ha,hb⟩;rcases old ho with⟨h1,h2⟩|⟨h1,h2⟩|⟨h1,h2,h3⟩;simp only[aL,h1,if_true]at hb;exact⟨id,_,dq,rfl,rS b hb⟩;subst h2;cases ha;simp only[aL,h2,if_false]at hb;exact⟨k,o,h3,ha,hb⟩
 have st:stp ρ L G w aL (L.set id .aw++[x]):=by
  refine⟨λk o ho=> ?_,λk o ho=> ?_,λb hb=>.inl ?_,λ_ _ _=>rfl,le_refl _⟩;have h1:k<L.length:=(List.getElem?_eq_some_iff.1 ho).1;simp only[aL];rw[if_neg (by omega)];by_cases hk:k=id;subst hk;exact⟨.aw,al4,λc' e' hc=>by cases hc⟩;exact⟨o,new ho hk,λc' e' hc=>⟨c',e',hc,rfl,rfl⟩⟩;rcases hb with hb|hb;exact .inl (ei b hb);exact .inr hb
 refine⟨aL,⟨λk o ho=> ?_,λi j oi oj b hi hj ai aj bi bj=> ?_,λb hb=>hs.apart b (ei b hb),hs.low⟩,st, ?_⟩;rcases old ho with⟨h1,h2⟩|⟨h1,h2⟩|⟨h1,h2,h3⟩;rw[h2];simp only[aL,h1,if_true];rw[hx]at dT;exact dT.step st (λ_ _ _=>rfl);subst h2;trivial;simp only[aL,h2,if_false];exact(hs.obj k o h3).step st (λ_ _ _=>rfl)
 have cls:∀{k:Nat} {o:ak},(L.set id .aw++[x])[k]? =some o->o.alive=true->eW (aL k)=some b->(k=L.length/\eW (ρ id)=some b)\/(k≠id/\k≠L.length/\L[k]? =some o/\eW (ρ k)=some b):=by
  intro k o ho ha hb;rcases old ho with⟨h1,h2⟩|⟨h1,h2⟩|⟨h1,h2,h3⟩;simp only[aL,h1,if_true]at hb;exact .inl ⟨h1,rS b hb⟩;subst h2;cases ha;simp only[aL,h2,if_false]at hb;exact .inr ⟨h1,h2,h3,hb⟩
 rcases cls hi ai bi with⟨h1,h2⟩|⟨h1,h2,h3,h4⟩<;>rcases cls hj aj bj with⟨k1,k2⟩|⟨k1,k2,k3,k4⟩;rw[h1,k1];exact absurd (hs.inj j id oj _ b k3 dq aj rfl k4 h2) k1;exact absurd (hs.inj i id oi _ b h3 dq ai rfl h4 k2) h1;exact hs.inj i j oi oj b h3 k3 ai aj h4 k4;simp only[aL,if_true]
def sT(c:aU)(m:Nat):aU:=.e9 c.size (c.n+m) λi j=>bif i.blt c.n then c.cell i j else .aY
theorem aep{tmps:List AV}{t:Nat}{y x:AV}(ht:tmps.getD t (.s .aY)=y)(hy:y≠.s .aY)(u:Nat):(tmps.set t x).getD u (.s .aY)=if u=t then x else tmps.getD u (.s .aY):=by
 have bo:t<tmps.length:=by
  rcases lt_or_ge t tmps.length with h|h;exact h;rw[List.getD,getElem?_eq_none h]at ht;exact absurd ht.symm hy
 by_cases hu:u=t;subst hu;rw[if_pos rfl];simp[List.getD,bo];rw[if_neg hu];simp[List.getD,List.getElem?_set_ne (Ne.symm hu)]
theorem anh{a:Option Addr}{cap m:Nat}{c:aU}{e:TypeId}(hm:0<m)(as2:c.n+m<=cap)(h:iv ρ H O w (.slice a c.n cap) (.vec c e)):iv ρ H O w (.slice a (c.n+m) cap) (.vec (sT c m) e):=by
 have⟨a2,qT,h1,h2,h3,h4⟩:=h;cases h1;rcases h4 with h4|⟨b,o,cells,fr,us,rfl,g1,g2,g3,g4⟩;omega;refine⟨some ⟨b,o,none⟩,cap,rfl,as2,h3,.inr ⟨b,o,cells,fr,λi j=>if i<c.n then us i j else cells.getD (o+i*c.size+j) undef,rfl,g1,g2,g3,λi j hi hj=> ?_⟩⟩;have hi:i<c.n+m:=hi;have hj:j<c.size:=hj;show cells[o+i*c.size+j]? =_/\aW O w (bif i.blt c.n then c.cell i j else .aY) _;by_cases cO:i<c.n;dsimp only;rw[if_pos cO,show i.blt c.n=true from by simpa[Nat.blt,Nat.lt_iff_add_one_le]using cO];exact g4 i j cO hj;dsimp only
 rw[if_neg cO,show i.blt c.n=false from by
  cases hb:i.blt c.n;rfl;exact absurd (show i<c.n from by simpa[Nat.blt,Nat.lt_iff_add_one_le]using hb) cO]
 have bo:o+i*c.size+j<cells.length:=by
  have:(i+1)*c.size<=cap*c.size:=Nat.mul_le_mul_right _ (by omega);rw[Nat.succ_mul]at this;omega
 have e:cells[o+i*c.size+j]? =some (cells.getD (o+i*c.size+j) undef):=by simp[List.getD,bo]
 exact⟨e,.aY _ (g2.2 _ (List.mem_of_getElem? e))⟩
theorem aks{f:FuncId}{tmps:List AV}{todo:List Item}{t id m:Nat}{c:aU}{e:TypeId}(ht:tmps.getD t (.s .aY)=.vec id)(dq:L[id]? =some (.vec c e))(hm:0<m)
 {stk:uf} (hA:Safe P f X K ⟨tmps.set t (.part L.length 0 c.n),L.set id .aw++[.vec (sT c m) e],todo,stk⟩)
 (hB:Safe P f X K ⟨tmps.set t (.s (.rot c (c.n+m))),L.set id .aw,todo,stk⟩):Safe P f X K ⟨tmps,L,todo,stk⟩:=by
 intro G E ρ a w gL hZ hr bf tf fsf hwf;have hs:Sat ρ (lk L) G w:=hr.sat;have hd:=hr.den t;rw[show(St.tmps ⟨tmps,L⟩).getD t (.s .aY)=.vec id from ht]at hd;have⟨a0,cap,hv,dK,hle,ac0⟩:=iz hs dq hd;have dT:=hs.obj id _ dq;rw[dK,hv]at dT;have bo:id<L.length:=(List.getElem?_eq_some_iff.1 dq).1;by_cases hc:c.n+m<=cap
 have⟨aL,s',st,hρ⟩:=auW hs dq (aa:=.slice a0 (c.n+m) cap) (c2:=sT c m) (λb hb=>by
  rw[dK,hv];cases a0 with
  |none=>simp[eW]at hb|some y=>simpa[eW]using hb) (anh hm hc dT)
 refine hA G E aL a w gL hZ ⟨s',by rw[length_set];exact hr.size,λu=> ?_,hr.defers,hr.ao.trans st,hr.jF,hr.kept⟩ bf tf fsf hwf;show af aL _ _ w ((tmps.set t (.part L.length 0 c.n)).getD u (.s .aY)) _;rw[aep ht (by simp)];by_cases hu:u=t;subst hu;rw[if_pos rfl,hv];unfold af aN;refine⟨rfl,.vec (sT c m) e,by show(L.set id .aw++[_])[L.length]? =_;rw[getElem?_append_right (by simp)];simp,λc' e' he=> ?_⟩;cases he;refine⟨by show 0+c.n<=c.n+m;omega,a0,cap,a0,hρ,hc,by simp,λ_=> ?_⟩;rw[Nat.zero_mul];cases a0 with
 |none=>rfl|some y=>simp[Addr.add]
 rw[if_neg hu];exact(hr.den u).step st
 have eL:lk (L.set id .aw)=aB (lk L) id .aw:=by
  funext k;show(L.set id .aw)[k]? =_;rw[getElem?_set];by_cases hk:id=k;subst hk;simp[aB,bo];rw[if_neg hk];simp[aB,Ne.symm hk]
 have st:stp ρ L G w ρ (L.set id .aw):=by
  show Step ρ (lk L) _ w ρ (lk (L.set id .aw)) (aV ρ (lk (L.set id .aw)) G) w;rw[eL];exact fi (H:=lk L) dq
 have hs':Sat ρ (lk (L.set id .aw)) G w:=by rw[eL];exact Sat.kill hs dq
 refine hB G E ρ a w gL hZ ⟨hs',by rw[length_set];exact hr.size,λu=> ?_,hr.defers,hr.ao.trans st,hr.jF,hr.kept⟩ bf tf fsf hwf;show af ρ _ _ w ((tmps.set t (.s (.rot c (c.n+m)))).getD u (.s .aY)) _;rw[aep ht (by simp)];by_cases hu:u=t;subst hu;rw[if_pos rfl,hv];refine aE (.rot _ _ _ _ _ ?_ (by omega));have⟨a2,qT,h1,h2,h3,h4⟩:=dT;cases h1;rcases h4 with rfl|⟨b,o,cells,fr,us,rfl,g1,g2,g3,g4⟩;exact .ro c a0 0 (λ_ _=>undef) 0 0 hle ac0 (λh=>by omega) (λi j hi _=>by omega) (λi j hi _=>by omega);refine .ro c _ cap us b o hle ac0 (λh0=>⟨rfl, ?_, ?_⟩) (λi j hi hj=> ?_) (λi j hi hj=>((g4 i j hi hj).2).step st.gq st.heap st.size)
 have hb:eW (ρ id)=some b:=by
  rw[dK,hv];simp only[eW];rw[if_neg (by omega)]
 rintro(⟨k,ok,hk,ha,hb2⟩|hG);have hk:(L.set id .aw)[k]? =some ok:=hk;rw[getElem?_set]at hk;split at hk;rename_i e1
 first
  |(simp only[Option.some.injEq]at hk;subst hk;cases ha)
  |(rw[if_pos bo]at hk;simp only[Option.some.injEq]at hk;subst hk;cases ha)
 rename_i e1;exact e1 (hs.inj id k _ ok b dq hk rfl ha hb hb2);exact hs.apart b ⟨id,_,dq,rfl,hb⟩ hG;exact(Array.getElem?_eq_some_iff.1 g1).1;have:=(g4 i j hi hj).1;simp only[World.cell?,g1];simp[this];rw[if_neg hu];exact(hr.den u).step st
theorem ani{f:FuncId}{tmps:List AV}{todo:List Item}{stk:uf}{id:Nat}{c c':aU}{e:TypeId}(dq:L[id]? =some (.vec c e))(hn:c'.n=c.n)(bU:c'.size=c.size)(hc:∀i j,i<c.n->j<c.size->c'.cell i j=c.cell i j)
 (h:Safe P f X K ⟨tmps,L.set id (.vec c' e),todo,stk⟩):Safe P f X K ⟨tmps,L,todo,stk⟩:=by
 intro G E ρ a w gL hZ hr b t fs hw;have hs:Sat ρ (lk L) G w:=hr.sat;have bo:id<L.length:=(List.getElem?_eq_some_iff.1 dq).1
 have eL:lk (L.set id (.vec c' e))=aB (lk L) id (.vec c' e):=by
  funext k;show(L.set id (.vec c' e))[k]? =_;rw[getElem?_set];by_cases hk:id=k;subst hk;simp[aB,bo];rw[if_neg hk];simp[aB,Ne.symm hk]
 have dT:iv ρ (aB (lk L) id (.vec c' e)) (aV ρ (lk L) G) w (ρ id) (.vec c' e):=by
  have⟨a2,qT,h1,h2,h3,h4⟩:=hs.obj id _ dq;refine⟨a2,qT,by rw[hn];exact h1,by omega,h3, ?_⟩;rcases h4 with h4|⟨b,o,cells,fr,us,rfl,g1,g2,g3,g4⟩;exact .inl h4;refine .inr ⟨b,o,cells,fr,us,rfl,g1,g2,by rw[bU];exact g3,λi j hi hj=> ?_⟩;rw[hn]at hi;rw[bU]at hj;rw[bU,hc i j hi hj];exact g4 i j hi hj
 have⟨aL,s',_,st,_⟩:=Good.upd (H:=lk L) (o':=.vec c' e) (r:=.s .aY) (v:=undef) hs dq rfl (λc2 e2 he=>by cases he;exact⟨c,e,rfl,hn,bU⟩) dT (by unfold af;trivial);rw[<-eL]at s' st;exact h G E aL a w gL hZ ⟨s',hr.size,λu=>(hr.den u).step st,hr.defers,hr.ao.trans st,hr.jF,hr.kept⟩ b t fs hw
theorem akt{f:FuncId}{tmps:List AV}{todo:List Item}{stk:uf}{t id n:Nat}{c:aU}{e:TypeId}(ht:tmps.getD t (.s .aY)=.part id 0 n)(dq:L[id]? =some (.vec c e))(hn:n=c.n)(h0:0<n)
 (h:Safe P f X K ⟨tmps.set t (.vec id),L,todo,stk⟩):Safe P f X K ⟨tmps,L,todo,stk⟩:=by
 intro G E ρ a w gL hZ hr b tf fs hw;have hd:=hr.den t;rw[show(St.tmps ⟨tmps,L⟩).getD t (.s .aY)=.part id 0 n from ht]at hd;refine h G E ρ a w gL hZ (hr.abI ht ?_) b tf fs hw;have hd0:=hd;unfold af aN at hd;have⟨h1,o,ho,hv⟩:=hd
 have:o=.vec c e:=by
  have:(St.look ⟨tmps,L⟩) id=some (.vec c e):=dq;rw[this]at ho;cases ho;rfl
 subst this;have⟨hle,a1,cap,a2,k1,k2,k3,k4⟩:=hv c e rfl;have zv:cap≠0:=by omega
 unfold af aN;refine⟨h1,.vec c e,ho,λc' e' he=> ?_⟩;cases he;rw[k3,k1,k4 zv,Nat.sub_zero,hn,Nat.zero_mul];cases a1 with
 |none=>rfl|some y=>simp[Addr.add]
end
end Go.Sx
namespace Lf
open Go Go.Sx Go.Proofs
def mS{α:Type}(l:List α)(k:Nat)(x:α):List α:=l.take k++x::l.drop k
def aiv:Spec (List En×En×Nat):=⟨λx=>[.vec 0,.s (.int .i64 (x.2.2:Int)),.vec 1],λx=>[.vec (.au cE x.1) eE,.vec (.au cE [x.2.1]) eE],λx=>[x.2.2<=x.1.length,x.1.length<=100000],λx=>[.aw,.vec (.au cE [x.2.1]) eE,.vec (.au cE (mS x.1 x.2.2 x.2.1)) eE],λx=>.vec 2⟩
def as3:List (Nat×Norm):=[(8,⟨[],[0,1,2,7,8],2,[]⟩)]
def cI8(l:List (CL cE))(x:CL cE)(k:Nat):bP:=⟨sl 95 [(0,.vec 0),(1,.s (.int .i64 (k:Int))),(2,.vec 1),(7,.s (.int .i64 ((1:Nat):Int))),(8,.s (.int .i64 (l.length:Int)))],[.vec (.au cE l) eE,.vec (.au cE [x]) eE],hr f83 8,{}⟩
def cIA(l:List (CL cE))(x:CL cE)(k:Nat):bP:=⟨sl 95 [(0,.part 2 0 l.length),(1,.s (.int .i64 (k:Int))),(2,.vec 1),(7,.s (.int .i64 ((1:Nat):Int))),(8,.s (.int .i64 (l.length:Int)))],[.aw,.vec (.au cE [x]) eE,.vec (sT (.au cE l) 1) eE],hr f83 8,{}⟩
def cIB(l:List (CL cE))(x:CL cE)(k:Nat):bP:=⟨sl 95 [(0,.s (.rot (.au cE l) (l.length+1))),(1,.s (.int .i64 (k:Int))),(2,.vec 1),(7,.s (.int .i64 ((1:Nat):Int))),(8,.s (.int .i64 (l.length:Int)))],[.aw,.vec (.au cE [x]) eE],hr f83 8,{}⟩
def axC:List (Nat×Norm):=[(17,⟨[],[0],3,[]⟩)]
def cIC(l:List (CL cE))(x:CL cE):bP:=⟨sl 95 [(0,.vec 2)],[.aw,.vec (.au cE [x]) eE,.vec (.au cE l) eE],hr f83 17,{}⟩
theorem aqy(l:List (CL cE))(x:CL cE)(k:Nat):run P (aK.sum []) f83 as3 (start f83 [.vec 0,.s (.int .i64 (k:Int)),.vec 1] [.vec (.au cE l) eE,.vec (.au cE [x]) eE])=
 Tree.ab ((0:Int)<=(↑k:Int)) (.ab ((↑k:Int)<=(↑l.length:Int)) (.ab ((↑(0:Nat):Int)+(↑l.length:Int)<=(↑l.length:Int)) (.ite false (.ret [.vec (.au cE l) 76,.vec (.au cE [x]) 76] (.vec 0)) (.ite ((↑k:Int)==(↑l.length:Int)) (.ab ((l.length+1)*(32:Nat)<=140737488355328) (.ret [.aw,.vec (.au cE [x]) 76,.vec (.au cE (l++[x])) 76] (.vec 2))) (.at (cI8 l x k)))))):=by kernel_rfl
theorem auX(l:List (CL cE))(x:CL cE)(k:Nat):run P (aK.sum []) f83 axC (cIA l x k)=
 Tree.ab (aA ((↑l.length:Int)+(1:Int)))
 (Tree.ab ((↑l.length:Int)+(1:Int)≤(↑(l.length+(1:Nat) - (0:Nat)):Int))
   (Tree.ab (aA ((↑l.length:Int)+(1:Int)))
     (Tree.ab ((0:Int)≤(0:Int))
       (Tree.ab ((0:Int)≤(↑l.length:Int)+(1:Int))
         (Tree.ab ((↑(0:Nat):Int)+((↑l.length:Int)+(1:Int))≤(↑(l.length+(1:Nat)):Int))
           (Tree.ab (aA ((↑k:Int)+(1:Int)))
             (Tree.ab ((0:Int)≤(↑k:Int)+(1:Int))
               (Tree.ab ((↑k:Int)+(1:Int)≤(↑(((↑l.length:Int)+(1:Int)).toNat - Int.toNat (0:Int)):Int))
                 (Tree.ab ((↑(0:Nat):Int)+(↑(((↑l.length:Int)+(1:Int)).toNat - Int.toNat (0:Int)):Int)≤(↑(l.length+(1:Nat)):Int)) (Tree.ab (atJ P (102:Nat)) (Tree.ab (aA ((↑k:Int)+(1:Int))) (Tree.ab ((0:Int)≤(↑k:Int)+(1:Int)) (Tree.ab ((↑k:Int)+(1:Int)≤(↑(((↑l.length:Int)+(1:Int)).toNat - Int.toNat (0:Int)):Int)) (Tree.ab ((↑(0:Nat):Int)+(↑(((↑l.length:Int)+(1:Int)).toNat - Int.toNat (0:Int)):Int)≤(↑(l.length+(1:Nat)):Int)) (Tree.ab ((0:Int)≤(↑k:Int)) (Tree.ab ((↑k:Int)≤(↑(((↑l.length:Int)+(1:Int)).toNat - Int.toNat (0:Int)):Int)) (Tree.ab ((↑(0:Nat):Int)+(↑(((↑l.length:Int)+(1:Int)).toNat - Int.toNat (0:Int)):Int)≤(↑(l.length+(1:Nat)):Int)) (Tree.ab ((0:Int)≤(↑k:Int)) (Tree.ab ((↑k:Int)≤(↑(((↑l.length:Int)+(1:Int)).toNat - Int.toNat (0:Int)):Int)) (Tree.ab ((↑(0:Nat):Int)+(↑(((↑l.length:Int)+(1:Int)).toNat - Int.toNat (0:Int)):Int)≤(↑(l.length+(1:Nat)):Int)) (Tree.at (bP.mk (sl (95:Nat) [((0:Nat),AV.part (2:Nat) (0:Nat) (((↑l.length:Int)+(1:Int)).toNat - Int.toNat (0:Int)))]) [ak.aw,ak.vec (aU.au [CK.str,CK.str] [x]) (76:Nat),ak.vec (aU.e9 (aU.e9 (aU.e9 (aU.au cE l).size (l.length+(1:Nat)) fun(i j:Nat)=>bif i.blt l.length then(aU.au cE l).cell i j else SV.aY).size (l.length+(1:Nat)) fun(i j:Nat)=>bif ((0:Nat)+((↑k:Int)+(1:Int)).toNat).ble i&&i.blt ((0:Nat)+((↑k:Int)+(1:Int)).toNat+min ((0:Nat)+(↑k:Int).toNat+((↑(((↑l.length:Int)+(1:Int)).toNat - Int.toNat (0:Int)):Int).toNat - (↑k:Int).toNat) - ((0:Nat)+(↑k:Int).toNat)) ((↑(((↑l.length:Int)+(1:Int)).toNat - Int.toNat (0:Int)):Int).toNat - ((↑k:Int)+(1:Int)).toNat))then(dS (aU.e9 (aU.au cE l).size (l.length+(1:Nat)) fun(i j:Nat)=>bif i.blt l.length then(aU.au cE l).cell i j else SV.aY) ((0:Nat)+(↑k:Int).toNat) ((0:Nat)+(↑k:Int).toNat+((↑(((↑l.length:Int)+(1:Int)).toNat - Int.toNat (0:Int)):Int).toNat - (↑k:Int).toNat))).cell (i - ((0:Nat)+((↑k:Int)+(1:Int)).toNat)) j else(aU.e9 (aU.au cE l).size (l.length+(1:Nat)) fun(i j:Nat)=>bif i.blt l.length then(aU.au cE l).cell i j else SV.aY).cell i j).size (l.length+(1:Nat)) fun(i j:Nat)=>bif ((0:Nat)+(↑k:Int).toNat).ble i&&i.blt ((0:Nat)+(↑k:Int).toNat+min (1:Nat) ((↑(((↑l.length:Int)+(1:Int)).toNat - Int.toNat (0:Int)):Int).toNat - (↑k:Int).toNat))then(aU.au [CK.str,CK.str] [x]).cell (i - ((0:Nat)+(↑k:Int).toNat)) j else(aU.e9 (aU.e9 (aU.au cE l).size (l.length+(1:Nat)) fun(i j:Nat)=>bif i.blt l.length then(aU.au cE l).cell i j else SV.aY).size (l.length+(1:Nat)) fun(i j:Nat)=>bif ((0:Nat)+((↑k:Int)+(1:Int)).toNat).ble i&&i.blt ((0:Nat)+((↑k:Int)+(1:Int)).toNat+min ((0:Nat)+(↑k:Int).toNat+((↑(((↑l.length:Int)+(1:Int)).toNat - Int.toNat (0:Int)):Int).toNat - (↑k:Int).toNat) - ((0:Nat)+(↑k:Int).toNat)) ((↑(((↑l.length:Int)+(1:Int)).toNat - Int.toNat (0:Int)):Int).toNat - ((↑k:Int)+(1:Int)).toNat))then(dS (aU.e9 (aU.au cE l).size (l.length+(1:Nat)) fun(i j:Nat)=>bif i.blt l.length then(aU.au cE l).cell i j else SV.aY) ((0:Nat)+(↑k:Int).toNat) ((0:Nat)+(↑k:Int).toNat+((↑(((↑l.length:Int)+(1:Int)).toNat - Int.toNat (0:Int)):Int).toNat - (↑k:Int).toNat))).cell (i - ((0:Nat)+((↑k:Int)+(1:Int)).toNat)) j else(aU.e9 (aU.au cE l).size (l.length+(1:Nat)) fun(i j:Nat)=>bif i.blt l.length then(aU.au cE l).cell i j else SV.aY).cell i j).cell i j) (76:Nat)] (hr f83 (17:Nat)) (uf.mk none false (0:Nat) [] (0:Nat)))))))))))))))))))))))):=by kernel_rfl
theorem auY(l:List (CL cE))(x:CL cE):run P (aK.sum []) f83 [] (cIC l x)=
 Tree.ret [.aw,.vec (.au cE [x]) 76,.vec (.au cE l) 76] (.vec 2):=by kernel_rfl
theorem auZ(l:List (CL cE))(x:CL cE)(k:Nat):run P (aK.sum []) f83 [] (cIB l x k)=
 Tree.ab (aA ((↑l.length:Int)+1))
 (.ab ((↑(l.length+1):Int)<=(↑l.length:Int)+1) (.ab ((0:Int)<=(↑k:Int)) (.ab ((↑k:Int)<=(↑l.length:Int)) (.ab (aA ((↑l.length:Int)+1)) (.ab (aA ((↑l.length:Int)+1 - (↑k:Int))) (.ab ((0:Int)<(↑l.length:Int)+1 - (↑k:Int)) (.ab ((↑(l.length+1):Int)<=(↑(List.drop 0 (List.take (↑k:Int).toNat l)).length:Int)+((↑l.length:Int)+1 - (↑k:Int))) (.ab ((↑(List.drop 0 (List.take (↑k:Int).toNat l)).length:Int)+((↑l.length:Int)+1 - (↑k:Int))<=4294967296) (.ab ((0:Int)<=(↑k:Int)) (.ab ((↑k:Int)<=(↑(List.drop 0 (List.take (↑k:Int).toNat l)++replicate ((↑l.length:Int)+1 - (↑k:Int)).toNat (CL.d cE)).length:Int)) (.ab ((↑(0:Nat):Int)+(↑(List.drop 0 (List.take (↑k:Int).toNat l)++replicate ((↑l.length:Int)+1 - (↑k:Int)).toNat (CL.d cE)).length:Int)<=(↑(List.drop 0 (List.take (↑k:Int).toNat l)++replicate ((↑l.length:Int)+1 - (↑k:Int)).toNat (CL.d cE)).length:Int)) (.ab (aA ((↑k:Int)+1)) (.ab ((0:Int)<=(↑k:Int)+1) (.ab ((↑k:Int)+1<=(↑(over (List.drop 0 (List.take (↑k:Int).toNat l)++replicate ((↑l.length:Int)+1 - (↑k:Int)).toNat (CL.d cE)) ((0:Nat)+(↑k:Int).toNat) (min 1 ((↑(List.drop 0 (List.take (↑k:Int).toNat l)++replicate ((↑l.length:Int)+1 - (↑k:Int)).toNat (CL.d cE)).length:Int).toNat - (↑k:Int).toNat)) [x]).length:Int)) (.ab ((↑(0:Nat):Int)+(↑(over (List.drop 0 (List.take (↑k:Int).toNat l)++replicate ((↑l.length:Int)+1 - (↑k:Int)).toNat (CL.d cE)) ((0:Nat)+(↑k:Int).toNat) (min 1 ((↑(List.drop 0 (List.take (↑k:Int).toNat l)++replicate ((↑l.length:Int)+1 - (↑k:Int)).toNat (CL.d cE)).length:Int).toNat - (↑k:Int).toNat)) [x]).length:Int)<=(↑(over (List.drop 0 (List.take (↑k:Int).toNat l)++replicate ((↑l.length:Int)+1 - (↑k:Int)).toNat (CL.d cE)) ((0:Nat)+(↑k:Int).toNat) (min 1 ((↑(List.drop 0 (List.take (↑k:Int).toNat l)++replicate ((↑l.length:Int)+1 - (↑k:Int)).toNat (CL.d cE)).length:Int).toNat - (↑k:Int).toNat)) [x]).length:Int)) (.ab ((0:Int)<=(↑k:Int)) (.ab ((↑k:Int)<=(↑l.length:Int)) (.ab ((↑l.length:Int)<=(↑l.length:Int)) (.ret [.aw,.vec (.au cE [x]) 76,.vec (.au cE (over (over (List.drop 0 (List.take (↑k:Int).toNat l)++replicate ((↑l.length:Int)+1 - (↑k:Int)).toNat (CL.d cE)) ((0:Nat)+(↑k:Int).toNat) (min 1 ((↑(List.drop 0 (List.take (↑k:Int).toNat l)++replicate ((↑l.length:Int)+1 - (↑k:Int)).toNat (CL.d cE)).length:Int).toNat - (↑k:Int).toNat)) [x]) ((0:Nat)+((↑k:Int)+1).toNat) (min (List.drop (↑k:Int).toNat (List.take (↑l.length:Int).toNat l)).length ((↑(over (List.drop 0 (List.take (↑k:Int).toNat l)++replicate ((↑l.length:Int)+1 - (↑k:Int)).toNat (CL.d cE)) ((0:Nat)+(↑k:Int).toNat) (min 1 ((↑(List.drop 0 (List.take (↑k:Int).toNat l)++replicate ((↑l.length:Int)+1 - (↑k:Int)).toNat (CL.d cE)).length:Int).toNat - (↑k:Int).toNat)) [x]).length:Int).toNat - ((↑k:Int)+1).toNat)) (List.drop (↑k:Int).toNat (List.take (↑l.length:Int).toNat l)))) 76] (.vec 2)))))))))))))))))))):=by kernel_rfl
theorem aku{α:Type}{xs ys:List α}{lo k:Nat}(hk:k=ys.length)(h:lo+ys.length=xs.length):over xs lo k ys=xs.take lo++ys:=by
 subst hk;rw[over,take_of_length_le (le_refl _),List.drop_of_length_le (by omega),append_nil]
theorem vH{α:Type}{l:List α}{k:Nat}{x:α}(h:k<=l.length):(mS l k x).length=l.length+1:=by
 simp only[mS,length_append,length_take,length_cons,length_drop];omega
theorem anj{α:Type}(l:List α)(x:α):mS l l.length x=l++[x]:=by simp[mS]
theorem akv{α:Type}{l:List α}{k:Nat}{x d:α}(h:k<=l.length)(i:Nat):(mS l k x).getD i d=if i<k then l.getD i d else if i=k then x else l.getD (i - 1) d:=by
 simp only[mS,List.getD];split;rw[getElem?_append_left (by simp;omega),getElem?_take,if_pos (by assumption)];rw[getElem?_append_right (by simp;omega)];rw[length_take,Nat.min_eq_left h];split;rename_i h2;subst h2;simp;rw[show i - k=(i - 1 - k)+1 from by omega,List.getElem?_cons_succ,List.getElem?_drop];congr 2;omega
theorem axD:atJ P 102:=⟨f102,f102.params.getD 0 0,eE,f102.resultTypes.getD 0 0,2,func102,by kernel_rfl,by kernel_rfl,by kernel_rfl,by kernel_rfl,by kernel_rfl,by kernel_rfl⟩
theorem ank{α:Type}{l:List α}{k:Nat}{x d:α}(hk:k<l.length):
 over (over (List.drop 0 (List.take (k:Int).toNat l)++replicate ((l.length:Int)+(1:Int) - (k:Int)).toNat d) (0+(k:Int).toNat) (min 1 (((List.drop 0 (List.take (k:Int).toNat l)++replicate ((l.length:Int)+(1:Int) - (k:Int)).toNat d).length:Int).toNat - (k:Int).toNat)) [x]) (0+((k:Int)+(1:Int)).toNat) (l.length - k) (List.drop (k:Int).toNat (List.take (l.length:Int).toNat l))=mS l k x:=by
 have e1:(k:Int).toNat=k:=by omega
 have e2:((l.length:Int)+(1:Int) - (k:Int)).toNat=l.length+1 - k:=by omega
 have e3:((k:Int)+(1:Int)).toNat=k+1:=by omega
 have e4:(l.length:Int).toNat=l.length:=by omega
 rw[e1,e2,e3,e4,List.drop_zero,zero_add,zero_add,take_of_length_le (le_refl l.length)]
 have hA:(List.take k l++replicate (l.length+1 - k) d).length=l.length+1:=by
  simp only[length_append,length_take,List.length_replicate];omega
 rw[hA,show min 1 (((l.length+1:Nat):Int).toNat - k)=1 from by omega]
 have hov:(over (List.take k l++replicate (l.length+1 - k) d) k 1 [x]).length=l.length+1:=by
  rw[eO _ _ (by rw[hA];omega) (by simp),hA]
 rw[aku (by rw[length_drop]) (by rw[hov,length_drop];omega)];rw[over,List.take_left' (by simp only[length_append,length_take,List.length_replicate,length_cons,length_nil];omega)];rw[List.take_left' (by rw[length_take];omega)];simp[mS]
theorem acj{a b:Nat}:a.blt b=decide (a<b):=by
 by_cases h:a<b;rw[decide_eq_true h];simpa[Nat.blt,Nat.lt_iff_add_one_le]using h;rw[decide_eq_false h];cases hb:a.blt b with
 |false=>rfl|true=>exact absurd (by simpa[Nat.blt,Nat.lt_iff_add_one_le]using hb) h
theorem ack{a b:Nat}:a.ble b=decide (a<=b):=by
 by_cases h:a<=b;rw[decide_eq_true h];exact Nat.ble_eq_true_of_le h;rw[decide_eq_false h];cases hb:a.ble b with
 |false=>rfl|true=>exact absurd (le_of_ble_eq_true hb) h
theorem au0{Z:bh}:fI P Z 83 aiv:=by
 refine fS func83 ?_;rintro⟨(l:List (CL cE)),(x:CL cE),(k:Nat)⟩ ⟨(hk:k<=l.length),(hl:l.length<=100000),_⟩ X hX hz;refine cF hz hX (by intro y hy;simp[as3]at hy;subst hy;exact le_refl _) aK.Ok.nil func83 (aqy l x k) ⟨by omega,by omega,by omega,(λh=>nomatch h),λ_=>⟨λh=>⟨by omega,⟨⟨[],[0],2,[]⟩,le_refl _, ?_⟩⟩,λh=> ?_⟩⟩;have hkl:k=l.length:=by have:=eq_of_beq h;omega
 subst hkl;show Norm.run _ _=some ⟨[.vec 2],[.aw,.vec (.au cE [x]) eE,.vec (.au cE (mS l l.length x)) eE],[],{}⟩;rw[anj];kernel_rfl
 have hkl:k<l.length:=by
  rcases lt_or_ge k l.length with h1|h1;exact h1;have:k=l.length:=by omega
  subst this;simp at h
 refine aks (t:=0) (id:=0) (m:=1) (c:=.au cE l) (e:=eE) rfl rfl (by omega) ?_ ?_;refine(show Safe P 83 X _ (cIA l x k)from ?_);have e1:((l.length:Int)+(1:Int)).toNat - Int.toNat 0=l.length+1:=by omega
 have tr:=auX l x k;rw[e1]at tr;refine cF hz hX (by intro y hy;simp[axC]at hy;subst hy;show 2<=3;omega) aK.Ok.nil func83 tr ⟨⟨by omega,by omega⟩,by omega,⟨by omega,by omega⟩,by omega,by omega,by omega,⟨by omega,by omega⟩,by omega,by omega,by omega,axD,⟨by omega,by omega⟩,by omega,by omega,by omega,by omega,by omega,by omega,by omega,by omega,by omega, ?_⟩;refine ani (id:=2) (c':=.au cE (mS l k x)) rfl ?_ rfl ?_ ?_;exact vH (by omega);intro i j hi hj;have hi:i<l.length+1:=hi;show CL.cell cE ((mS l k x).getD i (CL.d cE)) j=_;rw[akv (by omega)];by_cases h1:i<k;have p1:¬(0+(k:Int).toNat<=i):=by omega
 have p2:¬(0+((k:Int)+(1:Int)).toNat<=i):=by omega
 have p3:i<l.length:=by omega
 simp only[aU.cell,acj,ack,p1,p2,p3,h1,decide_false,decide_true,Bool.false_and,cond_false,cond_true,if_true];by_cases h2:i=k;subst h2;have p1:0+(i:Int).toNat<=i:=by omega
 have p2:i<0+(i:Int).toNat+min 1 (((l.length+1:Nat):Int).toNat - (i:Int).toNat):=by omega
 have p3:i - (0+(i:Int).toNat)=0:=by omega
 simp only[aU.cell,acj,ack,p1,p2,p3,h1,decide_true,Bool.true_and,cond_true,if_true,if_false,List.getD_cons_zero];have p1:¬(i<0+(k:Int).toNat+min 1 (((l.length+1:Nat):Int).toNat - (k:Int).toNat)):=by omega
 have p2:0+((k:Int)+(1:Int)).toNat<=i:=by omega
 have p3:i<0+((k:Int)+(1:Int)).toNat+min (0+(k:Int).toNat+(((l.length+1:Nat):Int).toNat - (k:Int).toNat) - (0+(k:Int).toNat)) (((l.length+1:Nat):Int).toNat - ((k:Int)+(1:Int)).toNat):=by omega
 have p4:0+(k:Int).toNat+(i - (0+((k:Int)+(1:Int)).toNat))=i - 1:=by omega
 have p5:i - 1<l.length:=by omega
 simp only[aU.cell,dS,acj,ack,p1,p2,p3,p4,p5,h1,h2,decide_true,decide_false,Bool.and_false,Bool.and_true,cond_true,cond_false,if_false];refine akt (t:=0) (id:=2) (c:=.au cE (mS l k x)) (e:=eE) rfl rfl (vH (by omega)).symm (by omega) ?_;refine cF hz hX (by intro y hy;simp at hy) aK.Ok.nil func83 (auY (mS l k x) x) ⟨⟨[],[0],2,[]⟩,le_refl _, ?_⟩;show Norm.run _ _=some ⟨[.vec 2],[.aw,.vec (.au cE [x]) eE,.vec (.au cE (mS l k x)) eE],[],{}⟩;kernel_rfl;refine(show Safe P 83 X _ (cIB l x k)from ?_);have tr:=auZ l x k
 have eA:(List.drop 0 (List.take (k:Int).toNat l)++replicate ((l.length:Int)+(1:Int) - (k:Int)).toNat (CL.d cE)).length=l.length+1:=by
  simp only[List.drop_zero,length_append,length_take,List.length_replicate];omega
 have eB:(over (List.drop 0 (List.take (k:Int).toNat l)++replicate ((l.length:Int)+(1:Int) - (k:Int)).toNat (CL.d cE)) (0+(k:Int).toNat) (min 1 (((List.drop 0 (List.take (k:Int).toNat l)++replicate ((l.length:Int)+(1:Int) - (k:Int)).toNat (CL.d cE)).length:Int).toNat - (k:Int).toNat)) [x]).length=l.length+1:=by
  rw[eO _ _ (by rw[eA];omega) (by simp;omega),eA]
 have eC:(List.drop 0 (List.take (k:Int).toNat l)).length=k:=by simp only[List.drop_zero,length_take];omega
 have e1:(min (List.drop (k:Int).toNat (List.take (l.length:Int).toNat l)).length (((over (List.drop 0 (List.take (k:Int).toNat l)++replicate ((l.length:Int)+(1:Int) - (k:Int)).toNat (CL.d cE)) (0+(k:Int).toNat) (min 1 (((List.drop 0 (List.take (k:Int).toNat l)++replicate ((l.length:Int)+(1:Int) - (k:Int)).toNat (CL.d cE)).length:Int).toNat - (k:Int).toNat)) [x]).length:Int).toNat - ((k:Int)+(1:Int)).toNat))=l.length - k:=by
  rw[eB];simp only[length_drop,length_take];omega
 rw[e1,ank hkl,eB,eA,eC]at tr;refine cF hz hX (by intro y hy;simp at hy) aK.Ok.nil func83 tr ⟨⟨by omega,by omega⟩,by omega,by omega,by omega,⟨by omega,by omega⟩,⟨by omega,by omega⟩,by omega,by omega,by omega,by omega,by omega,by omega,⟨by omega,by omega⟩,by omega,by omega,by omega,by omega,by omega,by omega,⟨⟨[],[0],2,[]⟩,le_refl _, ?_⟩⟩;show Norm.run _ _=some ⟨[.vec 2],[.aw,.vec (.au cE [x]) eE,.vec (.au cE (mS l k x)) eE],[],{}⟩;kernel_rfl
def axE:List AV->RM ((List En×En×Nat)×List Nat)
 |[.vec id,.s (.int .i64 i),.vec id2]=>.look id λo=>match o with
  |some (.vec (.au [.str,.str] l) _)=>.look id2 λo=>match o with
   |some (.vec (.au [.str,.str] [x]) _)=>.ret ((l,x,i.toNat),[id,id2])|_=>.fail ""
  |_=>.fail ""
 |_=>.fail ""
def anl:aK:=[(81,acg),(82,auT),(83,bY aiv axE)]
theorem aqz(l:List (CL cE))(key val:ByteArray):run P anl.sum f58 [] (start f58 [.s (.ro (.au cE l)),.s (.str key),.s (.str val)] [])=
 Tree.ab (l.length<=1000000) (.ab (jt (bS l)) (.ab (l.length<=100000) (.ite (j9 (bS l) key) (.ab ((0:Int)<=(↑(cW (bS l) key):bI.V)) (.ab ((↑(cW (bS l) key):bI.V)<(↑l.length:Int)) (.ret [.vec (.au cE (l.set (Int.toNat (↑(cW (bS l) key):bI.V)) ((l.getD (Int.toNat (↑(cW (bS l) key):bI.V)) (CL.d cE)).fst,val,()))) 76] (.vec 0)))) (.ab (some [AV.vec 0,.s (.int .i64 (↑(cW (bS l) key):bI.V)),.vec 1]=some [AV.vec 0,.s (.int .i64 (↑(Int.toNat (↑(cW (bS l) key):bI.V)):Int)),.vec 1]) (.ab (some [ak.vec (.au cE l) 76,.vec (.au cE [(key,val,())]) 76]=some [ak.vec (.au cE l) 76,.vec (.au cE [(key,val,())]) 76]) (.ab (Int.toNat (↑(cW (bS l) key):bI.V)<=l.length) (.ab (l.length<=100000) (.ret [.aw,.vec (.au cE [(key,val,())]) 76,.vec (.au cE (mS l (Int.toNat (↑(cW (bS l) key):bI.V)) (key,val,()))) 76] (.vec 2))))))))):=by kernel_rfl
theorem anm{α:Type}{l:List α}{k:Nat}{x:α}(h:k<l.length):l.set k x=l.take k++x::l.drop (k+1):=by
 rw[List.set_eq_take_append_cons_drop,if_pos h]
theorem ann{l:List En}{key val:ByteArray}(h:j9 (bS l) key=true)(h1:cW (bS l) key<l.length):bN l key val=l.set (cW (bS l) key) (key,val,()):=by
 rw[anm h1,bN,if_pos h]
theorem aqA{l:List En}{key val:ByteArray}(h:j9 (bS l) key=false):bN l key val=mS l (cW (bS l) key) (key,val,()):=by
 rw[bN,if_neg (by rw[h];simp),mS]
theorem ano{Z:bh}:dF P Z 58 [sP,eU,eU] [sP] (λ(l,_,_,())=>[(l:List En).length<=100000,jt (bS l)]) (λ(l,key,val,())=>(bN l key val,())):=by
 refine aH func58 (by kernel_rfl) (by kernel_rfl) ?_;rintro⟨(l:List (CL cE)),(key:ByteArray),(val:ByteArray),⟨⟩⟩ _ ⟨(hl:l.length<=100000),(hs:jt (bS l)),_⟩ X hX hz;have hT:anl.Ok P Z:=aK.Ok.cons uz.sum (aK.Ok.cons agI.sum (aK.Ok.cons (au0.sum axE) aK.Ok.nil));have hn:(bS l).length=l.length:=length_map _;have hle:=yk (bS l) key;rw[hn]at hle;refine go hz hX hT func58 (aqz l key val) ⟨by omega,hs,hl,λh=> ?_,λh=> ?_⟩;have⟨h1,h2⟩:=kx.1 h;rw[hn]at h1;refine⟨Int.natCast_nonneg _,Int.ofNat_lt.2 h1, ?_⟩;refine bd (l.set (cW (bS l) key) ((l.getD (cW (bS l) key) dE).1,val,()),()) ?_ (by kernel_rfl);have hk:(l.getD (cW (bS l) key) dE).1=key:=(c9 l rf dE _).symm.trans h2;rw[hk];exact congrArg (λy=>(y,())) (ann h h1);refine⟨rfl,rfl,by show cW (bS l) key<=l.length;exact hle,hl, ?_⟩;refine bd (mS l (cW (bS l) key) (key,val,()),()) ?_ (by kernel_rfl);exact congrArg (λy=>(y,())) (aqA h)
end Lf
namespace Bx
open Go Go.Sx Go.Proofs
abbrev eH:Ty:=.b (.arr .u64 16)
abbrev bI:Ty:=.b (.int .i64)
abbrev tU:Ty:=.b (.int .u64)
abbrev dg:Ty:=.b .bool
abbrev ad0:Ty:=.b (.row (.ah .i64) 3)
abbrev P:Program:=Tryz.prog
theorem mixed:P.follows .mixedOrders=true:=by kernel_rfl
def ij:aK:=[]
def eY(n:Int):Int:=if 0<=n/\n<1024 then n / 64 else 0
def mU(n:Int):Int:=if 0<=n/\n<1024 then 2^(n%64).toNat else 0
def iY(n:Int):Bool:=decide (0<=n/\n<1024)
abbrev s36:=sumOf [bI] [bI,tU,dg] (λ_=>[]) (λ(n,())=>(eY n,mU n,iY n,()))
def aqB:aK:=[(76,s36)]
theorem au1(n:Int):run P ij.sum f76 [] (start f76 [.s (.int .i64 n)] [])=
 Tree.ite (decide (n<(0:Int))) (Tree.ret [] (AV.bq [AV.s (SV.aR i64 (0:Int)),AV.s (SV.aR u64 (0:Int)),AV.s (SV.aI false)])) (Tree.ite (decide (n≥(1024:Int))) (Tree.ret [] (AV.bq [AV.s (SV.aR i64 (0:Int)),AV.s (SV.aR u64 (0:Int)),AV.s (SV.aI false)])) (Tree.ab ((64:Int)≠(0:Int)) (Tree.ab (aA (n.tdiv (64:Int))) (Tree.ab ((64:Int)≠(0:Int)) (Tree.ab ((0:Int)≤n.tmod (64:Int)) (Tree.ret [] (AV.bq [AV.s (SV.int i64 (n.tdiv (64:Int))),AV.s (SV.int u64 (u64.wrap ((1:Int)*(2:Int)^min (n.tmod (64:Int)).toNat u64.bits))),AV.s (SV.aI true)]))))))):=by kernel_rfl
theorem au2(a b:Int):run P ij.sum f53 [] (start f53 [.s (.int .u64 a),.s (.int .u64 b)] [])=
 Tree.ret [] (.s (.int .u64 (bE BinOp.andNot .u64 a b))):=by kernel_rfl
theorem au3(a b:Int):run P ij.sum f70 [] (start f70 [.s (.int .u64 a),.s (.int .u64 b)] [])=
 Tree.ret [] (.s (.int .u64 (bE BinOp.and .u64 a b))):=by kernel_rfl
theorem au4(a b:Int):run P ij.sum f99 [] (start f99 [.s (.int .u64 a),.s (.int .u64 b)] [])=
 Tree.ret [] (.s (.int .u64 (bE BinOp.or .u64 a b))):=by kernel_rfl
theorem au5(ws:List Int)(n:Int):run P aqB.sum f75 [] (start f75 [.ah .u64 16 ws,.s (.int .i64 n)] [])=
 Tree.ite (iY n) (.ab ((0:Int)<=eY n) (.ab (eY n<(↑(16:Nat):Int)) (.ret [.aq [.ah .u64 16 ws] 67] (.s (.bool (bE BinOp.and .u64 (ws.getD (eY n).toNat 0) (mU n) !=0)))))) (.ret [.aq [.ah .u64 16 ws] 67] (.s (.aI false))):=by kernel_rfl
theorem au6(ws:List Int)(n:Int):run P aqB.sum f51 [] (start f51 [.ah .u64 16 ws,.s (.int .i64 n)] [])=
 Tree.ite (iY n) (.ab ((0:Int)<=eY n) (.ab (eY n<(↑(16:Nat):Int)) (.ab ((0:Int)<=eY n) (.ab (eY n<(↑(16:Nat):Int)) (.ret [.aq [.ah .u64 16 (ws.set (eY n).toNat (bE BinOp.or .u64 (ws.getD (eY n).toNat 0) (mU n)))] 67,.aq [.ah .u64 16 (ws.set (eY n).toNat (bE BinOp.or .u64 (ws.getD (eY n).toNat 0) (mU n)))] 67] (.ah .u64 16 (ws.set (eY n).toNat (bE BinOp.or .u64 (ws.getD (eY n).toNat 0) (mU n))))))))) (.ret [.aq [.ah .u64 16 ws] 67,.aq [.ah .u64 16 ws] 67] (.ah .u64 16 ws)):=by kernel_rfl
theorem au7(ws:List Int)(n:Int):run P aqB.sum f126 [] (start f126 [.ah .u64 16 ws,.s (.int .i64 n)] [])=
 Tree.ite (iY n) (.ab ((0:Int)<=eY n) (.ab (eY n<(↑(16:Nat):Int)) (.ab ((0:Int)<=eY n) (.ab (eY n<(↑(16:Nat):Int)) (.ret [.aq [.ah .u64 16 (ws.set (eY n).toNat (bE BinOp.andNot .u64 (ws.getD (eY n).toNat 0) (mU n)))] 67,.aq [.ah .u64 16 (ws.set (eY n).toNat (bE BinOp.andNot .u64 (ws.getD (eY n).toNat 0) (mU n)))] 67] (.ah .u64 16 (ws.set (eY n).toNat (bE BinOp.andNot .u64 (ws.getD (eY n).toNat 0) (mU n))))))))) (.ret [.aq [.ah .u64 16 ws] 67,.aq [.ah .u64 16 ws] 67] (.ah .u64 16 ws)):=by kernel_rfl
theorem go{Z:bh}{X:Ctx}{t:aK}{f:FuncId}{fn:Func}{ns:List (Nat×Norm)}{c:bP}{tr:Tree}{K:List ak->AV->Prop}(hz:dZ Z X)(hX:∀id,X.H id=none)(hT:t.Ok P Z)(hf:P.funcs[f]? =some fn)
 (e:run P t.sum fn ns c=tr) (h:tr.Holds K (Safe P f X K)):Safe P f X K c:=cU (aK.sOk hT) hz mixed hf (λ_ _ id _=>hX id) e h
theorem au8{Z:bh}:dF P Z 76 [bI] [bI,tU,dg] (λ_=>[]) (λ(n,())=>(eY n,mU n,iY n,())):=by
 refine aH func76 (by kernel_rfl) (by kernel_rfl) ?_;rintro⟨(n:Int),⟨⟩⟩ _ _ X hX hz;refine cU (aK.sOk aK.Ok.nil) hz mixed func76 (λx h=>by simp at h) (au1 n) ?_
 have no:¬(0<=n/\n<1024)->Ends [bI,tU,dg] (eY n,mU n,iY n,()) [] (AV.bq [AV.s (SV.aR i64 0),AV.s (SV.aR u64 0),AV.s (SV.aI false)]):=λh=>
  bd (0,0,false,()) (by simp only[eY,mU,iY,if_neg h,decide_eq_false h]) (by kernel_rfl)
 refine⟨λh=>no (by simp at h;omega),λh=>⟨λh2=>no (by simp at h2;omega),λh2=> ?_⟩⟩;have h3:0<=n/\n<1024:=by simp at h h2;omega
 have e1:n.tdiv 64=n / 64:=Int.tdiv_eq_ediv_of_nonneg h3.1;have e2:n.tmod 64=n%64:=Int.tmod_eq_emod_of_nonneg h3.1;refine⟨by omega,⟨by omega,by omega⟩,by omega,by omega, ?_⟩;rw[e1,e2]
 have e3:u64.wrap ((1:Int)*(2:Int)^min (n%64).toNat u64.bits)=2^(n%64).toNat:=by
  have:(n%64).toNat<64:=by omega
  rw[show u64.bits=64 from rfl,Nat.min_eq_left (by omega),Int.one_mul];show(2:Int)^(n%64).toNat%18446744073709551616=_;refine Int.emod_eq_of_lt (Int.pow_nonneg (by omega)) ?_;have h5:(2:Nat)^(n%64).toNat<2^64:=Nat.pow_lt_pow_right (by omega) this;have:((2:Nat)^(n%64).toNat:Int)<((2^64:Nat):Int):=by exact_mod_cast h5
  simpa using this
 rw[e3];exact bd (n / 64,2^(n%64).toNat,true,()) (by simp only[eY,mU,iY,if_pos h3,decide_eq_true h3]) (by kernel_rfl)
theorem akw{Z:bh}:dF P Z 53 [tU,tU] [tU] (λ_=>[]) (λ(a,b,())=>(bE .andNot .u64 a b,())):=by
 refine aH func53 (by kernel_rfl) (by kernel_rfl) ?_;rintro⟨(a:Int),(b:Int),⟨⟩⟩ _ _ X hX hz;exact cU (aK.sOk aK.Ok.nil) hz mixed func53 (λx h=>by simp at h) (au2 a b) (bd _ rfl (by kernel_rfl))
theorem au9{Z:bh}:dF P Z 70 [tU,tU] [tU] (λ_=>[]) (λ(a,b,())=>(bE .and .u64 a b,())):=by
 refine aH func70 (by kernel_rfl) (by kernel_rfl) ?_;rintro⟨(a:Int),(b:Int),⟨⟩⟩ _ _ X hX hz;exact cU (aK.sOk aK.Ok.nil) hz mixed func70 (λx h=>by simp at h) (au3 a b) (bd _ rfl (by kernel_rfl))
theorem axF{Z:bh}:dF P Z 99 [tU,tU] [tU] (λ_=>[]) (λ(a,b,())=>(bE .or .u64 a b,())):=by
 refine aH func99 (by kernel_rfl) (by kernel_rfl) ?_;rintro⟨(a:Int),(b:Int),⟨⟩⟩ _ _ X hX hz;exact cU (aK.sOk aK.Ok.nil) hz mixed func99 (λx h=>by simp at h) (au4 a b) (bd _ rfl (by kernel_rfl))
theorem acm{Z:bh}:aqB.Ok P Z:=aK.Ok.cons au8.sum aK.Ok.nil
theorem ri{n:Int}(h:iY n=true):0<=eY n/\eY n<16:=by
 simp only[iY,decide_eq_true_eq]at h;simp only[eY,if_pos h];omega
def mV(ws:List Int)(n:Int):Bool:=iY n&&(bE .and .u64 (ws.getD (eY n).toNat 0) (mU n) !=0)
def dk(ws:List Int)(n:Int):List Int:=if iY n=true then ws.set (eY n).toNat (bE .or .u64 (ws.getD (eY n).toNat 0) (mU n))else ws
def dm(ws:List Int)(n:Int):List Int:=if iY n=true then ws.set (eY n).toNat (bE .andNot .u64 (ws.getD (eY n).toNat 0) (mU n))else ws
theorem agL{Z:bh}:dF P Z 75 [eH,bI] [dg] (λ_=>[]) (λ(ws,n,())=>(mV ws n,())):=by
 refine aH func75 (by kernel_rfl) (by kernel_rfl) ?_;rintro⟨(ws:List Int),(n:Int),⟨⟩⟩ _ _ X hX hz;refine cU (aK.sOk acm) hz mixed func75 (λx h=>by simp at h) (au5 ws n) ⟨λh=> ?_,λh=> ?_⟩;have:=ri h;exact⟨this.1,this.2,bd (bE .and .u64 (ws.getD (eY n).toNat 0) (mU n) !=0,()) (by simp[mV,h]) (by kernel_rfl)⟩;exact bd (false,()) (by simp[mV,h]) (by kernel_rfl)
theorem sU{Z:bh}:dF P Z 51 [eH,bI] [eH] (λ_=>[]) (λ(ws,n,())=>(dk ws n,())):=by
 refine aH func51 (by kernel_rfl) (by kernel_rfl) ?_;rintro⟨(ws:List Int),(n:Int),⟨⟩⟩ _ _ X hX hz;refine cU (aK.sOk acm) hz mixed func51 (λx h=>by simp at h) (au6 ws n) ⟨λh=> ?_,λh=> ?_⟩;have:=ri h;refine⟨this.1,this.2,this.1,this.2, ?_⟩;simp only[dk,if_pos h];exact bd _ rfl (by kernel_rfl);exact bd (ws,()) (by simp only[dk,h];rfl) (by kernel_rfl)
theorem yz{Z:bh}:dF P Z 126 [eH,bI] [eH] (λ_=>[]) (λ(ws,n,())=>(dm ws n,())):=by
 refine aH func126 (by kernel_rfl) (by kernel_rfl) ?_;rintro⟨(ws:List Int),(n:Int),⟨⟩⟩ _ _ X hX hz;refine cU (aK.sOk acm) hz mixed func126 (λx h=>by simp at h) (au7 ws n) ⟨λh=> ?_,λh=> ?_⟩;have:=ri h;refine⟨this.1,this.2,this.1,this.2, ?_⟩;simp only[dm,if_pos h];exact bd _ rfl (by kernel_rfl);exact bd (ws,()) (by simp only[dm,h];rfl) (by kernel_rfl)
abbrev sOp(op:BinOp):=sumOf [tU,tU] [tU] (λ_=>[]) (λ(a,b,())=>(bE op .u64 a b,()))
def acn:aK:=[(53,sOp .andNot),(70,sOp .and),(99,sOp .or)]
def aeq:List (Nat×Norm):=[(2,⟨[],[2,3,4,6,8],0,[]⟩)]
def c37(f:FuncId)(b s:List Int)(i:Int):bP:=⟨sl 23 [(2,.s (.rH f)),(3,.ptr 0 0),(4,.ptr 1 0),(6,.ptr 2 0),(8,.s (.int .i64 i))],[.aq [.ah .u64 16 s] 67,.aq [.ah .u64 16 b] 67,.aq [.ah .u64 16 (replicate 16 0)] 67],hd f52 2,{}⟩
theorem aqC(a b:List Int):run P acn.sum f52 aeq (start f52 [.ah .u64 16 a,.ah .u64 16 b,.s (.rH 53)] [])=
 Tree.at (c37 53 b a 0):=by kernel_rfl
theorem aqD(b s:List Int)(i:Int):run P acn.sum f52 aeq (c37 53 b s i)=
 Tree.ite (decide (i<16)) (.ab ((0:Int)<=i) (.ab (i<(↑(16:Nat):Int)) (.ab ((0:Int)<=i) (.ab (i<(↑(16:Nat):Int)) (.ab ((0:Int)<=i) (.ab (i<(↑(16:Nat):Int)) (.ab (aA (i+1)) (.at (c37 53 b (s.set i.toNat (bE BinOp.andNot .u64 (s.getD i.toNat 0) (b.getD i.toNat 0))) (i+1)))))))))) (.ret [.aq [.ah .u64 16 s] 67,.aq [.ah .u64 16 b] 67,.aq [.ah .u64 16 s] 67] (.ah .u64 16 s)):=by kernel_rfl
theorem aqE(a b:List Int):run P acn.sum f52 aeq (start f52 [.ah .u64 16 a,.ah .u64 16 b,.s (.rH 70)] [])=
 Tree.at (c37 70 b a 0):=by kernel_rfl
theorem aqF(b s:List Int)(i:Int):run P acn.sum f52 aeq (c37 70 b s i)=
 Tree.ite (decide (i<16)) (.ab ((0:Int)<=i) (.ab (i<(↑(16:Nat):Int)) (.ab ((0:Int)<=i) (.ab (i<(↑(16:Nat):Int)) (.ab ((0:Int)<=i) (.ab (i<(↑(16:Nat):Int)) (.ab (aA (i+1)) (.at (c37 70 b (s.set i.toNat (bE BinOp.and .u64 (s.getD i.toNat 0) (b.getD i.toNat 0))) (i+1)))))))))) (.ret [.aq [.ah .u64 16 s] 67,.aq [.ah .u64 16 b] 67,.aq [.ah .u64 16 s] 67] (.ah .u64 16 s)):=by kernel_rfl
theorem aqG(a b:List Int):run P acn.sum f52 aeq (start f52 [.ah .u64 16 a,.ah .u64 16 b,.s (.rH 99)] [])=
 Tree.at (c37 99 b a 0):=by kernel_rfl
theorem aqH(b s:List Int)(i:Int):run P acn.sum f52 aeq (c37 99 b s i)=
 Tree.ite (decide (i<16)) (.ab ((0:Int)<=i) (.ab (i<(↑(16:Nat):Int)) (.ab ((0:Int)<=i) (.ab (i<(↑(16:Nat):Int)) (.ab ((0:Int)<=i) (.ab (i<(↑(16:Nat):Int)) (.ab (aA (i+1)) (.at (c37 99 b (s.set i.toNat (bE BinOp.or .u64 (s.getD i.toNat 0) (b.getD i.toNat 0))) (i+1)))))))))) (.ret [.aq [.ah .u64 16 s] 67,.aq [.ah .u64 16 b] 67,.aq [.ah .u64 16 s] 67] (.ah .u64 16 s)):=by kernel_rfl
theorem aqI{Z:bh}:acn.Ok P Z:=aK.Ok.cons akw.sum (aK.Ok.cons au9.sum (aK.Ok.cons axF.sum aK.Ok.nil))
def bR(op:BinOp)(a b:List Int):List Int:=List.zipWith (bE op .u64) a b
def aer(f:FuncId):BinOp:=if f=53 then .andNot else if f=70 then .and else .or
theorem yA{a b:List Int}{n:Nat}(ha:a.length=n)(hb:b.length=n)(h:∀j,j<n->a.getD j 0=b.getD j 0):a=b:=by
 refine List.ext_getElem (by omega) λj h1 h2=> ?_;have:=h j (by omega);simpa[List.getD,h1,h2]using this
theorem sV(a:List Int)(i j:Nat)(x:Int):(a.set i x).getD j 0=if j=i/\i<a.length then x else a.getD j 0:=by
 simp only[List.getD,getElem?_set];by_cases h:i=j;subst h;by_cases h2:i<a.length;simp[h2];simp[h2];simp[h,Ne.symm h]
def I37(op:BinOp)(a b s:List Int)(i:Int):Prop:=0<=i/\i<=16/\s.length=16/\∀j,j<16->s.getD j 0=if(j:Int)<i then bE op .u64 (a.getD j 0) (b.getD j 0)else a.getD j 0
theorem anp{op:BinOp}{a b s:List Int}{i:Int}(h:I37 op a b s i)(hi:i<16):I37 op a b (s.set i.toNat (bE op .u64 (s.getD i.toNat 0) (b.getD i.toNat 0))) (i+1):=by
 have⟨h1,h2,h3,h4⟩:=h;refine⟨by omega,by omega,by simpa using h3,λj hj=> ?_⟩;rw[sV];by_cases hji:j=i.toNat;subst hji;rw[if_pos ⟨rfl,by omega⟩,if_pos (by omega),h4 _ hj,if_neg (by omega)];rw[if_neg (λh=>hji h.1),h4 j hj];by_cases h5:(j:Int)<i;rw[if_pos h5,if_pos (by omega)];rw[if_neg h5,if_neg (by omega)]
theorem aqJ{op:BinOp}{a b s:List Int}{i:Int}(ha:a.length=16)(hb:b.length=16)(h:I37 op a b s i)(hi:¬i<16):s=bR op a b:=by
 have⟨h1,h2,h3,h4⟩:=h;refine yA h3 (by simp[bR,ha,hb]) λj hj=> ?_;rw[h4 j hj,if_pos (by omega)];simp[bR,List.getD,List.getElem?_zipWith,ha,hb,hj]
theorem aco{Z:bh}:dF P Z 52 [eH,eH,.b .fn] [eH] (λ(_,_,f,())=>[f=53\/f=70\/f=99]) (λ(a,b,f,())=>(bR (aer f) a b,())):=by
 refine aH func52 (by kernel_rfl) (by kernel_rfl) ?_;rintro⟨(a:List Int),(b:List Int),(f:FuncId),⟨⟩⟩ ⟨(ha:a.length=16),(hb:b.length=16),_⟩ ⟨(hf:f=53\/f=70\/f=99),_⟩ X hX hz
 have run (c:bP) (t:Tree) (ht:run P acn.sum f52 aeq c=t) {K:List ak->AV->Prop} (h:t.Holds K (Safe P 52 X K)):Safe P 52 X K c:=
  cU (aK.sOk aqI) hz mixed func52 (λx h id _=>hX id) ht h
 have loop (op:BinOp) (f:FuncId) (hl:∀s i,Sx.run P acn.sum f52 aeq (c37 f b s i)=Tree.ite (decide (i<16)) (.ab ((0:Int)<=i) (.ab (i<(↑(16:Nat):Int)) (.ab ((0:Int)<=i) (.ab (i<(↑(16:Nat):Int)) (.ab ((0:Int)<=i) (.ab (i<(↑(16:Nat):Int)) (.ab (aA (i+1)) (.at (c37 f b (s.set i.toNat (bE op .u64 (s.getD i.toNat 0) (b.getD i.toNat 0))) (i+1)))))))))) (.ret [.aq [.ah .u64 16 s] 67,.aq [.ah .u64 16 b] 67,.aq [.ah .u64 16 s] 67] (.ah .u64 16 s))):
  Safe P 52 X (Ends [eH] (bR op a b,())) (c37 f b a 0):=by
  refine pS (λ(x:List Int×Int)=>c37 f b x.1 x.2) (λx=>I37 op a b x.1 x.2) (λx=>(16 - x.2).toNat) ?_ (a,0) ⟨by omega,by omega,ha,λj hj=>by rw[if_neg (by simp only[];omega)]⟩;rintro⟨s,i⟩ hI ih;have h0:0<=i:=hI.1;refine run _ _ (hl s i) ⟨λh=> ?_,λh=> ?_⟩;have hi:i<16:=by simpa using h
  exact⟨h0,hi,h0,hi,h0,hi,⟨by omega,by omega⟩,ih (_,i+1) (anp hI hi) (by simp only[];omega)⟩;have hi:¬i<16:=by simpa using h
  exact bd (s,()) (by rw[<-aqJ ha hb hI hi]) (by kernel_rfl)
 rcases hf with rfl|rfl|rfl;exact run _ _ (aqC a b) (loop .andNot 53 (λs i=>aqD b s i));exact run _ _ (aqE a b) (loop .and 70 (λs i=>aqF b s i));exact run _ _ (aqG a b) (loop .or 99 (λs i=>aqH b s i))
abbrev s37:=sumOf [eH,eH,.b .fn] [eH] (λ(_,_,f,())=>[f=53\/f=70\/f=99]) (λ(a,b,f,())=>(bR (aer f) a b,()))
def ava:aK:=[(52,s37)]
def axG:List (Nat×Norm):=[(3,⟨[],[0,2,3,6],0,[]⟩)]
def c13(n:Int)(s:List Int)(i:Int):bP:=⟨sl 24 [(0,.s (.int .i64 n)),(2,.ptr 0 0),(3,.ptr 1 0),(6,.s (.int .i64 i))],[.aq [.ah .u64 16 (replicate 16 0)] 67,.aq [.ah .u64 16 s] 67],hd f30 3,{}⟩
theorem avb(a b:List Int):run P ava.sum f31 [] (start f31 [.ah .u64 16 a,.ah .u64 16 b] [])=
 Tree.ab ((53:Nat)=(53:(Ty.b B.fn).V)\/(53:Nat)=(70:(Ty.b B.fn).V)\/(53:Nat)=(99:(Ty.b B.fn).V)) (.ret [.aq [.ah .u64 16 a] 67,.aq [.ah .u64 16 b] 67,.aq [.ah .u64 16 (bR (aer 53) a b)] 67] (.ah .u64 16 (bR (aer 53) a b))):=by kernel_rfl
theorem avc(a b:List Int):run P ava.sum f46 [] (start f46 [.ah .u64 16 a,.ah .u64 16 b] [])=
 Tree.ab ((70:Nat)=(53:(Ty.b B.fn).V)\/(70:Nat)=(70:(Ty.b B.fn).V)\/(70:Nat)=(99:(Ty.b B.fn).V)) (.ret [.aq [.ah .u64 16 a] 67,.aq [.ah .u64 16 b] 67,.aq [.ah .u64 16 (bR (aer 70) a b)] 67] (.ah .u64 16 (bR (aer 70) a b))):=by kernel_rfl
theorem avd(a b:List Int):run P ava.sum f80 [] (start f80 [.ah .u64 16 a,.ah .u64 16 b] [])=
 Tree.ab ((99:Nat)=(53:(Ty.b B.fn).V)\/(99:Nat)=(70:(Ty.b B.fn).V)\/(99:Nat)=(99:(Ty.b B.fn).V)) (.ret [.aq [.ah .u64 16 a] 67,.aq [.ah .u64 16 b] 67,.aq [.ah .u64 16 (bR (aer 99) a b)] 67] (.ah .u64 16 (bR (aer 99) a b))):=by kernel_rfl
theorem ave(n:Int):run P ij.sum f30 axG (start f30 [.s (.int .i64 n)] [])=
 Tree.at (c13 n (replicate 16 0) 0):=by kernel_rfl
theorem avf(n:Int)(s:List Int)(i:Int):run P ij.sum f30 axG (c13 n s i)=
 Tree.ite (decide (i<(16:Int))) (Tree.ab (aA (i*(64:Int))) (Tree.ab (aA (qO (imax n (0:Int)) (1024:Int) - i*(64:Int))) (Tree.ab ((0:Int)≤qO (imax (qO (imax n (0:Int)) (1024:Int) - i*(64:Int)) (0:Int)) (64:Int)) (Tree.ab ((0:Int)≤i) (Tree.ab (i<(↑(16:Nat):Int)) (Tree.ab (aA (i+(1:Int))) (Tree.at (c13 n (s.set i.toNat (u64.wrap (u64.wrap ((1:Int)*(2:Int)^min (qO (imax (qO (imax n (0:Int)) (1024:Int) - i*(64:Int)) (0:Int)) (64:Int)).toNat u64.bits) - (1:Int)))) (i+(1:Int)))))))))) (Tree.ret [ak.aq [AV.ah u64 (16:Nat) s] (67:Nat),ak.aq [AV.ah u64 (16:Nat) s] (67:Nat)] (AV.ah u64 (16:Nat) s)):=by kernel_rfl
theorem wC{Z:bh}:dF P Z 31 [eH,eH] [eH] (λ_=>[]) (λ(a,b,())=>(bR .andNot a b,())):=by
 refine aH func31 (by kernel_rfl) (by kernel_rfl) ?_;rintro⟨(a:List Int),(b:List Int),⟨⟩⟩ _ _ X hX hz;exact go hz hX (aK.Ok.cons aco.sum aK.Ok.nil) func31 (avb a b) ⟨.inl rfl,bd _ rfl (by kernel_rfl)⟩
theorem aiw{Z:bh}:dF P Z 46 [eH,eH] [eH] (λ_=>[]) (λ(a,b,())=>(bR .and a b,())):=by
 refine aH func46 (by kernel_rfl) (by kernel_rfl) ?_;rintro⟨(a:List Int),(b:List Int),⟨⟩⟩ _ _ X hX hz;exact go hz hX (aK.Ok.cons aco.sum aK.Ok.nil) func46 (avc a b) ⟨.inr (.inl rfl),bd _ rfl (by kernel_rfl)⟩
theorem anq{Z:bh}:dF P Z 80 [eH,eH] [eH] (λ_=>[]) (λ(a,b,())=>(bR .or a b,())):=by
 refine aH func80 (by kernel_rfl) (by kernel_rfl) ?_;rintro⟨(a:List Int),(b:List Int),⟨⟩⟩ _ _ X hX hz;exact go hz hX (aK.Ok.cons aco.sum aK.Ok.nil) func80 (avd a b) ⟨.inr (.inr rfl),bd _ rfl (by kernel_rfl)⟩
def aG:List Int:=replicate 16 0
theorem getD_take{α:Type}(l:List α)(i:Nat)(d:α)(h:i<l.length):l.take (i+1)=l.take i++[l.getD i d]:=by
 rw[List.take_add_one];simp[List.getD,h]
def akx(n i:Int):Int:=qO (imax (qO (imax n 0) 1024 - i*64) 0) 64
def uD(n i:Int):Int:=u64.wrap (u64.wrap (1*2^min (akx n i).toNat u64.bits) - 1)
def bk(n:Int):List Int:=(List.range 16).map λ(i:Nat)=>uD n i
theorem yB(n i:Int):0<=akx n i/\akx n i<=64:=by
 unfold akx;generalize qO (imax n 0) 1024 - i*64=x;unfold qO imax;split<;>split at * <;>omega
theorem aky(n:Int):0<=qO (imax n 0) 1024/\qO (imax n 0) 1024<=1024:=by
 unfold qO imax;split<;>split at * <;>omega
theorem sW{Z:bh}:dF P Z 30 [bI] [eH] (λ_=>[]) (λ(n,())=>(bk n,())):=by
 refine aH func30 (by kernel_rfl) (by kernel_rfl) ?_;rintro⟨(n:Int),⟨⟩⟩ _ _ X hX hz;refine go hz hX aK.Ok.nil func30 (ave n) ?_;refine pS (λ(x:List Int×Int)=>c13 n x.1 x.2) (λx=>0<=x.2/\x.2<=16/\x.1.length=16/\∀j:Nat,j<16->(j:Int)<x.2->x.1.getD j 0=uD n j) (λx=>(16 - x.2).toNat) ?_ (aG,0) ⟨by simp only[];omega,by simp only[];omega,rfl,λj _ h=>by simp only[]at h;omega⟩;rintro⟨s,i⟩ ⟨(h0:0<=i),(h1:i<=16),(h2:s.length=16),h3⟩ ih;simp only[]at h3;have hr:=yB n i;have hc:=aky n;refine go hz hX aK.Ok.nil func30 (avf n s i) ⟨λh=> ?_,λh=> ?_⟩;have hi:i<(16:Int):=of_decide_eq_true h;refine⟨⟨by omega,by omega⟩,⟨by omega,by omega⟩,hr.1,h0,hi,⟨by omega,by omega⟩,ih (s.set i.toNat (uD n i),i+1) ⟨by simp only[];omega,by simp only[];omega,by simpa using h2,λj hj hji=> ?_⟩ (by simp only[];omega)⟩;simp only[]at hji ⊢;rw[sV];by_cases wj:j=i.toNat;rw[if_pos ⟨wj,by omega⟩,show(j:Int)=i from by omega];rw[if_neg (λh=>wj h.1)];exact h3 j hj (by omega);have hi:¬i<(16:Int):=of_decide_eq_false h;refine bd (s,()) ?_ (by kernel_rfl);rw[yA (a:=s) (b:=bk n) h2 (by simp[bk]) (λj hj=> ?_)];rw[h3 j hj (by omega)];simp[bk,List.getD,hj]
def agM(n:Int):Int:=u64.wrap n
def ub(a b:Int):Int:=bE .and .u64 a b
def sh(x k:Int):Int:=x.fdiv ((2:Int)^min (Int.toNat k) u64.bits)
def oc1(x:Int):Int:=agM (ub (sh x 1) 6148914691236517205+ub x 6148914691236517205)
def oc2(x:Int):Int:=agM (ub (sh x 2) 3689348814741910323+ub x 3689348814741910323)
def oc3(x:Int):Int:=ub (agM (sh x 4+x)) 1085102592571150095
def oc4(x:Int):Int:=agM (x+sh x 8)
def oc5(x:Int):Int:=agM (x+sh x 16)
def oc6(x:Int):Int:=agM (x+sh x 32)
def ocF(x:Int):Int:=bE .and .i64 (oc6 (oc5 (oc4 (oc3 (oc2 (oc1 x)))))) 127
def ocG(x:Int):Int:=bE .and .i64 (i64.wrap (oc6 (oc5 (oc4 (oc3 (oc2 (oc1 x))))))) 127
theorem avg(x:Int):run P ij.sum f54 [] (start f54 [.s (.int .u64 x)] [])=
 Tree.ab ((0:Int)<=1) (.ab ((0:Int)<=2) (.ab ((0:Int)<=4) (.ab ((0:Int)<=8) (.ab ((0:Int)<=16) (.ab ((0:Int)<=32) (.ret [] (.s (.int .i64 (ocG x))))))))):=by kernel_rfl
def pc:Nat->Nat->Nat
 |0,_=>0|n+1,x=>x%2+pc n (x / 2)
theorem uE(a b:Nat)(ha:a<18446744073709551616)(hb:b<18446744073709551616):ub (a:Int) (b:Int)=((a &&& b:Nat):Int):=by
 have hx:a &&& b<2^64:=Nat.and_lt_two_pow _ (by omega)
 have h1:(BitVec.ofInt 64 (a:Int)).toNat=a:=by
  rw[BitVec.ofInt_natCast,BitVec.toNat_ofNat];exact Nat.mod_eq_of_lt (by omega)
 have h2:(BitVec.ofInt 64 (b:Int)).toNat=b:=by
  rw[BitVec.ofInt_natCast,BitVec.toNat_ofNat];exact Nat.mod_eq_of_lt (by omega)
 show((BitVec.ofInt 64 (a:Int) &&& BitVec.ofInt 64 (b:Int)).toNat:Int)%18446744073709551616=_;rw[BitVec.toNat_and,h1,h2];omega
theorem pZ(n:Int):agM n=n%18446744073709551616:=rfl
theorem uF(x k:Nat)(hk:k<=64):sh (x:Int) (k:Int)=((x / 2^k:Nat):Int):=by
 unfold sh;rw[show u64.bits=64 from rfl,toNat_natCast,Nat.min_eq_left hk,Int.fdiv_eq_ediv_of_nonneg _ (Int.pow_nonneg (by omega))];simp
def msk(b c:Nat):Nat->Nat
 |0=>0|n+1=>(2^b - 1)+2^c*msk b c n
theorem sX(b c n x:Nat)(hbc:b<=c):x &&& msk b c (n+1)=x%2^b+2^c*((x / 2^c) &&& msk b c n):=by
 have agN:x%2^b<2^c:=Nat.lt_of_lt_of_le (Nat.mod_lt _ (Nat.two_pow_pos _)) (Nat.pow_le_pow_right (by omega) hbc);have hm:2^b - 1<2^c:=Nat.lt_of_lt_of_le (by have:=Nat.two_pow_pos b;omega) (Nat.pow_le_pow_right (by omega) hbc);apply Nat.eq_of_testBit_eq;intro i;rw[Nat.testBit_and,msk,Nat.add_comm (2^b - 1),Nat.add_comm (x%2^b)];rw[Nat.testBit_two_pow_mul_add _ hm,Nat.testBit_two_pow_mul_add _ agN];by_cases hi:i<c;rw[if_pos hi,if_pos hi,Nat.testBit_two_pow_sub_one,Nat.testBit_mod_two_pow,Bool.and_comm];rw[if_neg hi,if_neg hi,Nat.testBit_and,Nat.testBit_div_two_pow];congr 2;omega
def st1(n x:Nat):Nat:=((x / 2) &&& msk 1 2 n)+(x &&& msk 1 2 n)
theorem aes(n x:Nat):st1 (n+1) x=(x%2+x / 2%2)+4*st1 n (x / 4):=by
 unfold st1;rw[sX 1 2 n x (by omega),sX 1 2 n (x / 2) (by omega)];rw[show x / 2 / 2^2=x / 4 / 2 from by omega,show x / 2^2=x / 4 from rfl];omega
def st2(n y:Nat):Nat:=((y / 4) &&& msk 2 4 n)+(y &&& msk 2 4 n)
theorem anr(n y:Nat):st2 (n+1) y=(y%4+y / 4%4)+16*st2 n (y / 16):=by
 unfold st2;rw[sX 2 4 n y (by omega),sX 2 4 n (y / 4) (by omega)];rw[show y / 4 / 2^4=y / 16 / 4 from by omega,show y / 2^4=y / 16 from rfl];omega
theorem ans(n x:Nat):st1 (n+2) x%16=x%2+x / 2%2+4*(x / 4%2+x / 4 / 2%2)/\st1 (n+2) x / 16=st1 n (x / 16):=by
 rw[aes,aes,show x / 16=x / 4 / 4 from by omega];constructor<;>omega
theorem auc:∀(n x:Nat),st2 (n+1) (st1 (2*(n+1)) x)=pc 4 x+16*st2 n (st1 (2*n) (x / 16)):=by
 intro n x;rw[anr,show 2*(n+1)=2*n+2 from by omega];have⟨h1,h2⟩:=ans (2*n) x;rw[h2];have hp:pc 4 x=x%2+(x / 2%2+(x / 2 / 2%2+(x / 2 / 2 / 2%2+0))):=rfl;rw[show x / 2 / 2=x / 4 from by omega]at hp;rw[hp];generalize st1 (2*n+2) x=y at *;generalize x / 4 / 2%2=b3 at *;have:x%2<2/\x / 2%2<2/\x / 4%2<2:=by omega
 generalize x%2=b0 at *;generalize x / 2%2=b1 at *;generalize x / 4%2=b2 at *;omega
def st3(n z:Nat):Nat:=(z / 16+z) &&& msk 4 8 n
theorem lr:∀(n x:Nat),pc n x<=n
 |0,x=>le_refl _|n+1,x=>by have:=lr n (x / 2);simp only[pc];omega
theorem nB:∀(m n x:Nat),pc (m+n) x=pc m x+pc n (x / 2^m)
 |0,n,x=>by simp[pc]
 |m+1,n,x=>by
  rw[show m+1+n=(m+n)+1 from by omega];simp only[pc];rw[nB m n (x / 2),Nat.div_div_eq_div_mul,Nat.pow_succ,Nat.mul_comm 2];omega
def z4(n x:Nat):Nat:=st2 n (st1 (2*n) x)
theorem acp(n x:Nat):z4 (n+1) x=pc 4 x+16*z4 n (x / 16):=auc n x
theorem aqK(x:Nat):z4 0 x=0:=by simp[z4,st2,msk]
theorem ant(n x:Nat):st3 (n+1) (z4 (2*n+2) x)=pc 8 x+256*st3 n (z4 (2*n) (x / 256)):=by
 unfold st3;rw[sX 4 8 n _ (by omega)];have e1:=acp (2*n+1) x;have e2:=acp (2*n) (x / 16);rw[Nat.div_div_eq_div_mul]at e2;have e0:pc 8 x=pc 4 x+pc 4 (x / 16):=nB 4 4 x;have b1:=lr 4 x;have b2:=lr 4 (x / 16)
 have b3:z4 (2*n) (x / (16*16))%16<=4:=by
  cases n with
  |zero=>rw[aqK];omega|succ n=>
   rw[show 2*(n+1)=(2*n+1)+1 from by omega,acp];have:=lr 4 (x / (16*16));omega
 rw[show x / 256=x / (16*16)from rfl];generalize z4 (2*n) (x / (16*16))=q at *;generalize z4 (2*n+1) (x / 16)=r at *;generalize z4 (2*n+2) x=t at *;have ht:(t / 16+t) / 2^8=q / 16+q:=by omega
 rw[ht];have:(t / 16+t)%2^4=pc 4 x+pc 4 (x / 16):=by omega
 omega
theorem bytes(x:Nat):st3 8 (z4 16 x)=pc 8 x+256*(pc 8 (x / 2^8)+256*(pc 8 (x / 2^16)+256*(pc 8 (x / 2^24)+256*(pc 8 (x / 2^32)+256*(pc 8 (x / 2^40)+256*(pc 8 (x / 2^48)+256*pc 8 (x / 2^56))))))):=by
 have h (n x:Nat):=ant n x;have h0:∀x,st3 0 (z4 0 x)=0:=λx=>by simp[st3,msk]
 rw[h 7,h 6,h 5,h 4,h 3,h 2,h 1,h 0,h0];simp only[Nat.div_div_eq_div_mul]
 try rfl
theorem azO(x:Nat):pc 64 x=pc 8 x+(pc 8 (x / 2^8)+(pc 8 (x / 2^16)+(pc 8 (x / 2^24)+(pc 8 (x / 2^32)+(pc 8 (x / 2^40)+(pc 8 (x / 2^48)+pc 8 (x / 2^56))))))):=by
 rw[nB 8 56 x,nB 8 48,nB 8 40,nB 8 32,nB 8 24,nB 8 16,nB 8 8];simp only[Nat.div_div_eq_div_mul]
 try rfl
theorem aqL(x:Nat)(hx:x<18446744073709551616):oc1 (x:Int)=(st1 32 x:Nat):=by
 have hm:msk 1 2 32=6148914691236517205:=by decide
 unfold oc1 st1;rw[show(1:Int)=((1:Nat):Int)from rfl,uF x 1 (by omega),show(6148914691236517205:Int)=((6148914691236517205:Nat):Int)from rfl,uE _ _ (by omega) (by omega),uE _ _ hx (by omega),pZ,hm];have h1:x / 2^1 &&& 6148914691236517205<=6148914691236517205:=Nat.and_le_right;have h2:x &&& 6148914691236517205<=6148914691236517205:=Nat.and_le_right;rw[show x / 2^1=x / 2 from rfl]at *;omega
theorem avh(x:Nat):st1 32 x<18446744073709551616:=by
 have hm:msk 1 2 32=6148914691236517205:=by decide
 unfold st1;rw[hm];have h1:x / 2 &&& 6148914691236517205<=6148914691236517205:=Nat.and_le_right;have h2:x &&& 6148914691236517205<=6148914691236517205:=Nat.and_le_right;omega
theorem aqM(x:Nat)(hx:x<18446744073709551616):oc2 (x:Int)=(st2 16 x:Nat):=by
 have hm:msk 2 4 16=3689348814741910323:=by decide
 unfold oc2 st2;rw[show(2:Int)=((2:Nat):Int)from rfl,uF x 2 (by omega),show(3689348814741910323:Int)=((3689348814741910323:Nat):Int)from rfl,uE _ _ (by omega) (by omega),uE _ _ hx (by omega),pZ,hm];have h1:x / 2^2 &&& 3689348814741910323<=3689348814741910323:=Nat.and_le_right;have h2:x &&& 3689348814741910323<=3689348814741910323:=Nat.and_le_right;rw[show x / 2^2=x / 4 from rfl]at *;omega
theorem avi(x:Nat):st2 16 x<=7378697629483820646:=by
 have hm:msk 2 4 16=3689348814741910323:=by decide
 unfold st2;rw[hm];have h1:x / 4 &&& 3689348814741910323<=3689348814741910323:=Nat.and_le_right;have h2:x &&& 3689348814741910323<=3689348814741910323:=Nat.and_le_right;omega
theorem aqN(x:Nat)(hx:x<=7378697629483820646):oc3 (x:Int)=(st3 8 x:Nat):=by
 have hm:msk 4 8 8=1085102592571150095:=by decide
 unfold oc3 st3;rw[show(4:Int)=((4:Nat):Int)from rfl,uF x 4 (by omega),pZ,hm];rw[show(((x / 2^4:Nat):Int)+(x:Int))%18446744073709551616=((x / 16+x:Nat):Int)from by omega,show(1085102592571150095:Int)=((1085102592571150095:Nat):Int)from rfl,uE _ _ (by omega) (by omega)]
theorem anu(x:Nat)(hx:x<18446744073709551616):∃t:Nat,oc6 (oc5 (oc4 (oc3 (oc2 (oc1 (x:Int))))))=(t:Int)/\t<9223372036854775808/\t%256=pc 64 x:=by
 rw[aqL x hx,aqM _ (avh x),aqN _ (avi _)];have hb:=bytes x;rw[show z4 16 x=st2 16 (st1 32 x)from rfl]at hb;have hp:=azO x;generalize st3 8 (st2 16 (st1 32 x))=y at *;have b0:=lr 8 x;have b1:=lr 8 (x / 2^8);have b2:=lr 8 (x / 2^16);have b3:=lr 8 (x / 2^24);have b4:=lr 8 (x / 2^32);have b5:=lr 8 (x / 2^40);have b6:=lr 8 (x / 2^48);have b7:=lr 8 (x / 2^56);generalize pc 8 x=c0 at *;generalize pc 8 (x / 2^8)=c1 at *;generalize pc 8 (x / 2^16)=c2 at *;generalize pc 8 (x / 2^24)=c3 at *;generalize pc 8 (x / 2^32)=c4 at *;generalize pc 8 (x / 2^40)=c5 at *;generalize pc 8 (x / 2^48)=c6 at *;generalize pc 8 (x / 2^56)=c7 at *;generalize pc 64 x=p at *
 have e4:oc4 (y:Int)=((y+y / 256:Nat):Int):=by
  unfold oc4;rw[show(8:Int)=((8:Nat):Int)from rfl,uF y 8 (by omega),pZ,show(2:Nat)^8=256 from rfl];omega
 have h8:y / 256=c1+256*(c2+256*(c3+256*(c4+256*(c5+256*(c6+256*c7))))):=by omega
 rw[e4];have hu:y+y / 256=(c0+c1)+256*((c1+c2)+256*((c2+c3)+256*((c3+c4)+256*((c4+c5)+256*((c5+c6)+256*((c6+c7)+256*c7)))))):=by omega
 generalize y+y / 256=u at *;clear h8 hb e4
 have e5:oc5 (u:Int)=((u+u / 65536:Nat):Int):=by
  unfold oc5;rw[show(16:Int)=((16:Nat):Int)from rfl,uF u 16 (by omega),pZ,show(2:Nat)^16=65536 from rfl];omega
 have h16:u / 65536=(c2+c3)+256*((c3+c4)+256*((c4+c5)+256*((c5+c6)+256*((c6+c7)+256*c7)))):=by omega
 rw[e5]
 have hv:∃a1 a2 a3 a5 a6 a7:Nat,a1<=64/\a2<=64/\a3<=64/\a5<=64/\a6<=64/\a7<=64/\u+u / 65536=(c0+c1+c2+c3)+256*(a1+256*(a2+256*(a3+256*((c4+c5+c6+c7)+256*(a5+256*(a6+256*a7)))))):=
  ⟨c1+c2+c3+c4,c2+c3+c4+c5,c3+c4+c5+c6,c5+c6+c7,c6+c7,c7,by omega,by omega,by omega,by omega,by omega,by omega,by omega⟩
 have⟨a1,a2,a3,a5,a6,a7,g1,g2,g3,g5,g6,g7,hv⟩:=hv;generalize u+u / 65536=v at *;clear hu h16 e5
 have e6:oc6 (v:Int)=((v+v / 4294967296:Nat):Int):=by
  unfold oc6;rw[show(32:Int)=((32:Nat):Int)from rfl,uF v 32 (by omega),pZ,show(2:Nat)^32=4294967296 from rfl];omega
 rw[e6];refine⟨v+v / 4294967296,rfl,by omega, ?_⟩;have:v / 4294967296=(c4+c5+c6+c7)+256*(a5+256*(a6+256*a7)):=by omega
 omega
theorem avj(t:Nat)(ht:t<9223372036854775808):bE .and .i64 (t:Int) 127=((t%128:Nat):Int):=by
 have h1:(BitVec.ofInt 64 (t:Int)).toNat=t:=by
  rw[BitVec.ofInt_natCast,BitVec.toNat_ofNat];exact Nat.mod_eq_of_lt (by omega)
 have h2:(BitVec.ofInt 64 (127:Int)).toNat=127:=by decide
 show i64.wrap ((BitVec.ofInt 64 (t:Int) &&& BitVec.ofInt 64 (127:Int)).toNat:Int)=_;rw[BitVec.toNat_and,h1,h2,show(127:Nat)=2^7 - 1 from rfl,Nat.and_two_pow_sub_one_eq_mod];generalize hm:t%2^7=m;have:m<128:=by omega
 simp only[IntKind.wrap,IntKind.signed,IntKind.bits];simp;omega
theorem aqO(x:Nat)(hx:x<18446744073709551616):ocF (x:Int)=(pc 64 x:Nat):=by
 have⟨t,h1,h2,h3⟩:=anu x hx;unfold ocF;rw[h1,avj t h2];have:=lr 64 x;omega
theorem aqP{Z:bh}:dF P Z 54 [tU] [bI] (λ(x,())=>[(0:Int)<=x/\x<(18446744073709551616:Int)]) (λ(x,())=>(((pc 64 (Int.toNat x):Nat):Int),())):=by
 refine aH func54 (by kernel_rfl) (by kernel_rfl) ?_;rintro⟨(x:Int),⟨⟩⟩ _ ⟨(hx:0<=x/\x<18446744073709551616),_⟩ X hX hz;obtain⟨n,rfl⟩:=Int.eq_ofNat_of_zero_le hx.1;have⟨t,h1,h2,h3⟩:=anu n (by omega);refine go hz hX aK.Ok.nil func54 (avg n) ⟨by omega,by omega,by omega,by omega,by omega,by omega,bd (ocG n,()) ?_ (by kernel_rfl)⟩
 have e:ocG n=ocF n:=by
  unfold ocG ocF;rw[cq (by rw[h1];exact⟨by omega,by omega⟩)]
 rw[e];clear e;revert h1;intro _;rw[aqO n (by omega)];rfl
def okW(ws:List Int):Prop:=ws.length=16/\∀w∈ws,0<=w/\w<18446744073709551616
def wd(ws:List Int)(i:Nat):Nat:=(ws.getD i 0).toNat
def bit(ws:List Int)(k:Nat):Bool:=(wd ws (k / 64)).testBit (k%64)
def opb:BinOp->Bool->Bool->Bool
 |.or,x,y=>x||y|.andNot,x,y=>x&& !y|_,x,y=>x&&y
theorem sY{ws:List Int}(h:okW ws)(i:Nat):wd ws i<18446744073709551616/\(ws.getD i 0)=(wd ws i:Int):=by
 unfold wd;by_cases hi:i<ws.length;have:=h.2 (ws.getD i 0) (by rw[List.getD,getElem?_eq_getElem hi];exact getElem_mem hi);omega;have:ws.getD i 0=0:=by simp[List.getD,getElem?_eq_none (Nat.le_of_not_lt hi)]
 rw[this];simp
theorem aaJ(op:BinOp)(zk:op=.or\/op=.and\/op=.andNot)(a b:Nat)(ha:a<18446744073709551616)(hb:b<18446744073709551616):
 ∃r:Nat,bE op .u64 (a:Int) (b:Int)=(r:Int)/\r<18446744073709551616/\∀i,i<64->r.testBit i=opb op (a.testBit i) (b.testBit i):=by
 have h1:BitVec.ofInt 64 (a:Int)=BitVec.ofNat 64 a:=BitVec.ofInt_natCast 64 a;have h2:BitVec.ofInt 64 (b:Int)=BitVec.ofNat 64 b:=BitVec.ofInt_natCast 64 b
 have key:∀v:BitVec 64,u64.wrap (v.toNat:Int)=(v.toNat:Int):=λv=>by
  have:=v.isLt;show(v.toNat:Int)%18446744073709551616=_;omega
 rcases zk with rfl|rfl|rfl;refine⟨(BitVec.ofNat 64 a ||| BitVec.ofNat 64 b).toNat, ?_,(BitVec.ofNat 64 a ||| BitVec.ofNat 64 b).isLt,λi hi=> ?_⟩;show u64.wrap ((BitVec.ofInt 64 (a:Int) ||| BitVec.ofInt 64 (b:Int)).toNat:Int)=_;rw[h1,h2,key];rw[BitVec.testBit_toNat,BitVec.getLsbD_or,BitVec.getLsbD_ofNat,BitVec.getLsbD_ofNat];simp[opb,hi];refine⟨(BitVec.ofNat 64 a &&& BitVec.ofNat 64 b).toNat, ?_,(BitVec.ofNat 64 a &&& BitVec.ofNat 64 b).isLt,λi hi=> ?_⟩;show u64.wrap ((BitVec.ofInt 64 (a:Int) &&& BitVec.ofInt 64 (b:Int)).toNat:Int)=_;rw[h1,h2,key];rw[BitVec.testBit_toNat,BitVec.getLsbD_and,BitVec.getLsbD_ofNat,BitVec.getLsbD_ofNat];simp[opb,hi];refine⟨(BitVec.ofNat 64 a &&& ~~~ BitVec.ofNat 64 b).toNat, ?_,(BitVec.ofNat 64 a &&& ~~~ BitVec.ofNat 64 b).isLt,λi hi=> ?_⟩;show u64.wrap ((BitVec.ofInt 64 (a:Int) &&& ~~~ BitVec.ofInt 64 (b:Int)).toNat:Int)=_;rw[h1,h2,key];rw[BitVec.testBit_toNat,BitVec.getLsbD_and,BitVec.getLsbD_not,BitVec.getLsbD_ofNat,BitVec.getLsbD_ofNat];simp[opb,hi]
theorem yC{ws:List Int}(hl:ws.length=16)(h:∀i,i<16->0<=ws.getD i 0/\ws.getD i 0<18446744073709551616):okW ws:=by
 refine⟨hl,λw hw=> ?_⟩;obtain⟨i,hi,rfl⟩:=List.getElem_of_mem hw;have:=h i (by omega);rwa[List.getD,getElem?_eq_getElem hi]at this
theorem anv{op:BinOp}{a b:List Int}(ha:a.length=16)(hb:b.length=16){i:Nat}(hi:i<16):(bR op a b).getD i 0=bE op .u64 (a.getD i 0) (b.getD i 0):=by
 have h1:i<a.length:=by omega
 have h2:i<b.length:=by omega
 simp[bR,List.getD,List.getElem?_zipWith,h1,h2]
theorem iL{op:BinOp}(zk:op=.or\/op=.and\/op=.andNot){a b:List Int}(ha:okW a)(hb:okW b):okW (bR op a b)/\∀k,k<1024->bit (bR op a b) k=opb op (bit a k) (bit b k):=by
 have key:∀i,i<16->∃r:Nat,(bR op a b).getD i 0=(r:Int)/\r<18446744073709551616/\∀j,j<64->r.testBit j=opb op ((wd a i).testBit j) ((wd b i).testBit j):=λi hi=>by
  rw[anv ha.1 hb.1 hi,(sY ha i).2,(sY hb i).2];exact aaJ op zk _ _ (sY ha i).1 (sY hb i).1
 refine⟨yC (by simp[bR,ha.1,hb.1]) λi hi=> ?_,λk hk=> ?_⟩;have⟨r,h1,h2,_⟩:=key i hi;rw[h1];omega;have⟨r,h1,h2,h3⟩:=key (k / 64) (by omega);unfold bit;rw[show wd (bR op a b) (k / 64)=r from by unfold wd;rw[h1];rfl];exact h3 _ (by omega)
theorem eV:okW aG/\∀k,bit aG k=false:=by
 refine⟨⟨rfl,λw hw=> ?_⟩,λk=> ?_⟩;have:=List.eq_of_mem_replicate hw;omega
 have:wd aG (k / 64)=0:=by
  unfold wd aG;rw[List.getD,List.getElem?_replicate];split<;>rfl
 simp[bit,this]
theorem wD{j i:Nat}:(2^j).testBit i=decide (j=i):=by
 rw[Nat.testBit_two_pow]
theorem aet{n:Int}(h:0<=n/\n<1024):mU n=((2^(n.toNat%64):Nat):Int)/\2^(n.toNat%64)<18446744073709551616/\eY n=((n.toNat / 64:Nat):Int):=by
 unfold mU eY;rw[if_pos h,if_pos h];have e:(n%64).toNat=n.toNat%64:=by omega
 rw[e];have h2:(2:Nat)^(n.toNat%64)<2^64:=Nat.pow_lt_pow_right (by omega) (by omega);refine⟨by simp,h2,by omega⟩
theorem mW{n:Int}:iY n=true↔0<=n/\n<1024:=by simp[iY]
theorem anw(op:BinOp)(zk:op=.or\/op=.andNot){ws:List Int}(hw:okW ws){n:Int}(h:0<=n/\n<1024):
 okW (ws.set (eY n).toNat (bE op .u64 (ws.getD (eY n).toNat 0) (mU n)))/\∀k,k<1024->bit (ws.set (eY n).toNat (bE op .u64 (ws.getD (eY n).toNat 0) (mU n))) k=opb op (bit ws k) (decide (n=(k:Int))):=by
 have⟨e1,e2,e3⟩:=aet h;rw[e1,e3,toNat_natCast];obtain⟨m,rfl⟩:=Int.eq_ofNat_of_zero_le h.1;simp only[toNat_natCast]at *;have hb:=sY hw (m / 64);rw[hb.2];have⟨r,h1,h2,h3⟩:=aaJ op (by rcases zk with h|h<;>simp[h]) _ _ hb.1 e2;rw[h1];have hm:m / 64<ws.length:=by rw[hw.1];omega
 refine⟨yC (by simpa using hw.1) λi hi=> ?_,λk hk=> ?_⟩;rw[sV];split;omega;have:=sY hw i;omega;unfold bit wd;rw[sV];by_cases vg:k / 64=m / 64;rw[if_pos ⟨vg,hm⟩,toNat_natCast,h3 _ (by omega),wD]
 have:decide (m%64=k%64)=decide ((m:Int)=(k:Int)):=by
  apply decide_eq_decide.2;omega
 rw[this,vg];rfl;rw[if_neg (λh=>vg h.1)];have:decide ((m:Int)=(k:Int))=false:=decide_eq_false (by omega);rw[this];rcases zk with rfl|rfl<;>simp[opb]
theorem gH{ws:List Int}(hw:okW ws)(n:Int):okW (dk ws n)/\∀k,k<1024->bit (dk ws n) k=(bit ws k||decide (n=(k:Int))):=by
 unfold dk;by_cases h:0<=n/\n<1024;rw[if_pos (mW.2 h)];exact anw .or (.inl rfl) hw h;rw[if_neg (λh2=>h (mW.1 h2))];refine⟨hw,λk hk=> ?_⟩;rw[decide_eq_false (by omega),Bool.or_false]
theorem lZ{ws:List Int}(hw:okW ws)(n:Int):okW (dm ws n)/\∀k,k<1024->bit (dm ws n) k=(bit ws k&& !decide (n=(k:Int))):=by
 unfold dm;by_cases h:0<=n/\n<1024;rw[if_pos (mW.2 h)];exact anw .andNot (.inr rfl) hw h;rw[if_neg (λh2=>h (mW.1 h2))];refine⟨hw,λk hk=> ?_⟩;rw[decide_eq_false (by omega)];simp
theorem aqQ(w j:Nat):w &&& 2^j=if w.testBit j=true then 2^j else 0:=by
 apply Nat.eq_of_testBit_eq;intro i;rw[Nat.testBit_and,wD];by_cases h:j=i;subst h;cases h2:w.testBit j;simp;simp[wD];cases h2:w.testBit j;simp[h];simp[wD,h]
theorem aix{ws:List Int}(hw:okW ws)(n:Int):mV ws n=(decide (0<=n/\n<1024)&&bit ws n.toNat):=by
 unfold mV;by_cases h:0<=n/\n<1024;rw[show iY n=true from mW.2 h,decide_eq_true h];have⟨e1,e2,e3⟩:=aet h;rw[e1,e3,toNat_natCast];have hb:=sY hw (n.toNat / 64);rw[hb.2];have:=uE _ _ hb.1 e2;unfold ub at this;rw[this,aqQ];unfold bit;have hp:(0:Nat)<2^(n.toNat%64):=Nat.two_pow_pos _;generalize (2:Nat)^(n.toNat%64)=p at *;cases(wd ws (n.toNat / 64)).testBit (n.toNat%64);rfl;rw[if_pos rfl];simp;omega;rw[show iY n=false from by simp[iY];omega,decide_eq_false h];rfl
theorem aqR{a b:List Int}(ha:okW a)(hb:okW b)(h:∀k,k<1024->bit a k=bit b k):a=b:=by
 refine yA ha.1 hb.1 λi hi=> ?_;have h1:=sY ha i;have h2:=sY hb i;rw[h1.2,h2.2];congr 1;apply Nat.eq_of_testBit_eq;intro j;by_cases hj:j<64;have:=h (64*i+j) (by omega);unfold bit at this;rwa[show(64*i+j) / 64=i from by omega,show(64*i+j)%64=j from by omega]at this;rw[Nat.testBit_lt_two_pow (Nat.lt_of_lt_of_le h1.1 (Nat.pow_le_pow_right (by omega) (Nat.le_of_not_lt hj):2^64<=2^j)),Nat.testBit_lt_two_pow (Nat.lt_of_lt_of_le h2.1 (Nat.pow_le_pow_right (by omega) (Nat.le_of_not_lt hj):2^64<=2^j))]
theorem yD(n i:Int):∃m:Nat,m<=64/\akx n i=m/\uD n i=((2^m - 1:Nat):Int):=by
 have⟨h0,h1⟩:=yB n i;have⟨m,hm⟩:=Int.eq_ofNat_of_zero_le h0;refine⟨m,by omega,hm, ?_⟩;unfold uD;rw[hm,toNat_natCast,show u64.bits=64 from rfl,Nat.min_eq_left (by omega),Int.one_mul];show((2:Int)^m%18446744073709551616 - 1)%18446744073709551616=_;have hp:=Nat.two_pow_pos m;by_cases h64:m=64;subst h64;decide;have h2:(2:Nat)^m<2^64:=Nat.pow_lt_pow_right (by omega) (by omega);rw[show(2:Int)^m=((2^m:Nat):Int)from by simp];generalize (2:Nat)^m=p at *;omega
theorem bV(n:Int):okW (bk n)/\∀k,k<1024->bit (bk n) k=decide ((k:Int)<n):=by
 have hg:∀i:Nat,i<16->(bk n).getD i 0=uD n i:=λi hi=>by simp[bk,List.getD,hi]
 refine⟨yC (by simp[bk]) λi hi=> ?_,λk hk=> ?_⟩;rw[hg i hi];have⟨m,h1,_,h2⟩:=yD n i;rw[h2];have:(2:Nat)^m<=2^64:=Nat.pow_le_pow_right (by omega) h1;omega;unfold bit wd;rw[hg _ (by omega)];have⟨m,h1,h3,h2⟩:=yD n ((k / 64:Nat):Int);rw[h2,toNat_natCast,Nat.testBit_two_pow_sub_one];apply decide_eq_decide.2;unfold akx qO imax at h3;split at h3<;>(split at h3<;>(split at h3<;>split at h3<;>omega))
abbrev s35:=sumOf [tU] [bI] (λ(x,())=>[(0:Int)<=x/\x<(18446744073709551616:Int)]) (λ(x,())=>(((pc 64 (Int.toNat x):Nat):Int),()))
def avk:aK:=[(54,s35)]
def axH:List (Nat×Norm):=[(3,⟨[],[3,6,7],0,[]⟩)]
def c14(ws:List Int)(n i:Int):bP:=⟨sl 16 [(3,.s (.int .i64 n)),(6,.ah .u64 16 ws),(7,.s (.int .i64 i))],[],hd f32 3,{}⟩
def aeu(x:Int):Int:=(Lib.ctz 64 x.toNat:Nat)
abbrev s34:=sumOf [tU] [bI] (λ(x,())=>[(0:Int)<=x/\x<(18446744073709551616:Int)]) (λ(x,())=>(aeu x,()))
abbrev s13:=sumOf [bI] [eH] (λ_=>[]) (λ(n,())=>(bk n,()))
abbrev s21:=sumOf [eH,eH] [eH] (λ_=>[]) (λ(a,b,())=>(bR .andNot a b,()))
def avl:aK:=[(30,s13),(31,s21),(139,s34)]
def axI:List (Nat×Norm):=[(6,⟨[],[17,18],0,[]⟩)]
def c12(ws:List Int)(i:Int):bP:=⟨sl 30 [(17,.ah .u64 16 ws),(18,.s (.int .i64 i))],[],hd f123 6,{}⟩
def l5:List Int->Int->Option Int
 |[],_=>none|w::ws,i=>if w≠0 then some (i*64+aeu w)else l5 ws (i+1)
def py(ws:List Int)(n:Int):Option Int:=if imax n 0>=1024 then none else l5 (bR .andNot ws (bk (imax n 0))) 0
def bK(ws:List Int)(n:Int):Int:=(py ws n).getD 0
def eZ(ws:List Int)(n:Int):Bool:=(py ws n).isSome
abbrev s12:=sumOf [eH,bI] [bI,dg] (λ(ws,_,())=>[okW ws]) (λ(ws,n,())=>(bK ws n,eZ ws n,()))
theorem avm(ws:List Int):run P avk.sum f32 axH (start f32 [.ah .u64 16 ws] [])=
 Tree.at (c14 ws 0 0):=by kernel_rfl
theorem avn(ws:List Int)(n i:Int):run P avk.sum f32 axH (c14 ws n i)=
 Tree.ite (decide (i<16)) (.ab ((0:Int)<=i) (.ab (i<(↑(16:Nat):Int)) (.ab ((0:Int)<=ws.getD i.toNat (0:Int)/\ws.getD i.toNat (0:Int)<18446744073709551616) (.ab (aA (n+(↑(pc 64 (ws.getD i.toNat 0).toNat):Int))) (.ab (aA (i+1)) (.at (c14 ws (n+(↑(pc 64 (ws.getD i.toNat 0).toNat):Int)) (i+1)))))))) (.ret [] (.s (.int .i64 n))):=by kernel_rfl
theorem avo(ws:List Int)(n:Int):run P avl.sum f123 axI (start f123 [.ah .u64 16 ws,.s (.int .i64 n)] [])=
 Tree.ite (decide (imax n (0:Int)>=1024)) (.ret [.aq [.ah .u64 16 ws] 67] (.bq [.s (.aR .i64 0),.s (.aI false)])) (.at (c12 (bR BinOp.andNot ws (bk (imax n 0))) 0)):=by kernel_rfl
theorem avp(ws:List Int)(i:Int):run P avl.sum f123 axI (c12 ws i)=
 Tree.ite (decide (i<16)) (.ab ((0:Int)<=i) (.ab (i<(↑(16:Nat):Int)) (.ite (ws.getD i.toNat (0:Int) !=0) (.ab (aA (i*64)) (.ab ((0:Int)<=ws.getD i.toNat (0:Int)/\ws.getD i.toNat (0:Int)<18446744073709551616) (.ab (aA (i*64+aeu (ws.getD i.toNat 0))) (.ret [] (.bq [.s (.int .i64 (i*64+aeu (ws.getD i.toNat 0))),.s (.aI true)]))))) (.ab (aA (i+1)) (.at (c12 ws (i+1))))))) (.ret [] (.bq [.s (.aR .i64 0),.s (.aI false)])):=by kernel_rfl
def fr(b:Nat->Bool)(m:Nat):List Nat:=(List.range m).filter b
def agO(ws:List Int):List Nat:=fr (bit ws) 1024
theorem sZ(b:Nat->Bool)(m:Nat):fr b (m+1)=fr b m++(if b m=true then [m]else []):=by
 unfold fr;rw[List.range_succ,List.filter_append];cases h:b m<;>simp[h]
theorem akz(b:Nat->Bool)(m:Nat):(fr b m).length<=m:=by
 have:=List.length_filter_le b (List.range m);rwa[List.length_range]at this
theorem aev{x:Nat}(h0:x≠0)(h:x<18446744073709551616):Lib.ctz 64 x<64/\x.testBit (Lib.ctz 64 x)=true/\∀c,c<Lib.ctz 64 x->x.testBit c=false:=by
 unfold Lib.ctz;rw[if_neg h0];have⟨m,h1,h2⟩:=Lib.ctzFrom_spec 64 x (by omega) h;generalize Lib.ctzFrom 64 x=e at *;refine⟨h2, ?_,λc hc=> ?_⟩;rw[h1,Nat.testBit_two_pow_mul];simp;rw[h1,Nat.testBit_two_pow_mul];simp;omega
theorem nC : ∀ (l : List Int) (i : Int), (∀ w ∈ l, 0 ≤ w ∧ w < 18446744073709551616) →
    match l5 l i with
    | some v => ∃ j c : Nat, j < l.length ∧ c < 64 ∧ v = (i + j) * 64 + c ∧ (l.getD j 0).toNat.testBit c = true ∧ (∀ c', c' < c → (l.getD j 0).toNat.testBit c' = false) ∧ ∀ j', j' < j → l.getD j' 0 = 0
    | none => ∀ j, l.getD j 0 = 0
  | [], i, _ => fun j => by simp
  | w :: l, i, h => by
    unfold l5;have hw := h w (by simp);by_cases h0 : w ≠ 0
    · rw [if_pos h0];obtain ⟨h1, h2, h3⟩ := aev (x := w.toNat) (by omega) (by omega);exact ⟨0, Lib.ctz 64 w.toNat, by simp, h1, by simp [aeu], by simpa using h2, by simpa using h3, fun j' hj => by omega⟩
    · rw [if_neg h0];have ih := nC l (i + 1) (fun x hx => h x (by simp [hx]));split
      · rename_i v hv;rw [hv] at ih;obtain ⟨j, c, h1, h2, h3, h4, h5, h6⟩ := ih;refine ⟨j + 1, c, by simp; omega, h2, by rw [h3]; simp; omega, by simpa using h4, by simpa using h5, fun j' hj => ?_⟩;cases j' with
        | zero => simp; omega
        | succ j' => simpa using h6 j' (by omega)
      · rename_i hv;rw [hv] at ih;intro j;cases j with
        | zero => simp; omega
        | succ j => simpa using ih j
theorem yE{ws:List Int}(hw:okW ws){n v:Int}(h:py ws n=some v):∃p:Nat,v=(p:Int)/\p<1024/\bit ws p=true/\n<=(p:Int)/\∀k:Nat,k<p->n<=(k:Int)->bit ws k=false:=by
 unfold py at h;split at h;cases h;rename_i h0;have⟨h1,h2⟩:=iL (.inr (.inr rfl)) hw (bV (imax n 0)).1;have hs:=nC _ 0 h1.2;rw[h]at hs;have⟨j,c,g1,g2,g3,g4,g5,g6⟩:=hs;rw[h1.1]at g1
 have hm:∀k,k<1024->bit (bR .andNot ws (bk (imax n 0))) k=(bit ws k&& !decide ((k:Int)<imax n 0)):=λk hk=>by
  rw[h2 k hk,(bV (imax n 0)).2 k hk];rfl
 have hp:bit (bR .andNot ws (bk (imax n 0))) (64*j+c)=true:=by
  unfold bit wd;rw[show(64*j+c) / 64=j from by omega,show(64*j+c)%64=c from by omega];exact g4
 have agN:∀k,k<64*j+c->bit (bR .andNot ws (bk (imax n 0))) k=false:=λk hk=>by
  unfold bit wd;by_cases hkj:k / 64=j;rw[hkj];exact g5 _ (by omega);rw[g6 (k / 64) (by omega)];simp
 have axJ:imax n 0=n/\0<=n\/imax n 0=0/\n<0:=by unfold imax;split<;>omega
 have hp2:=hp;rw[hm _ (by omega)]at hp2;simp only[and_eq_true,not_eq_true',decide_eq_false_iff_not]at hp2;refine⟨64*j+c,by rw[g3];simp;omega,by omega,hp2.1,by omega,λk hk hn=> ?_⟩;have:=agN k hk;rw[hm k (by omega)]at this;simp only[Bool.and_eq_false_iff,Bool.not_eq_false',decide_eq_true_eq]at this;rcases this with h|h;exact h;omega
theorem agP{ws:List Int}(hw:okW ws){n:Int}(h:py ws n=none):∀k:Nat,k<1024->n<=(k:Int)->bit ws k=false:=by
 intro k hk hn;unfold py at h;have axJ:imax n 0=n/\0<=n\/imax n 0=0/\n<0:=by unfold imax;split<;>omega
 split at h;omega;rename_i h0;have⟨h1,h2⟩:=iL (.inr (.inr rfl)) hw (bV (imax n 0)).1;have hs:=nC _ 0 h1.2;rw[h]at hs
 have hb:bit (bR .andNot ws (bk (imax n 0))) k=false:=by
  unfold bit wd;rw[hs];simp
 rw[h2 k hk,(bV (imax n 0)).2 k hk,decide_eq_false (by omega)]at hb;simpa[opb]using hb
def lN(ws:List Int):Int:=((ws.map λw=>pc 64 w.toNat).sum:Nat)
theorem anx{Z:bh}:dF P Z 32 [eH] [bI] (λ(ws,())=>[okW ws]) (λ(ws,())=>(lN ws,())):=by
 refine aH func32 (by kernel_rfl) (by kernel_rfl) ?_;rintro⟨(ws:List Int),⟨⟩⟩ _ ⟨(hw:okW ws),_⟩ X hX hz;have hT:avk.Ok P Z:=aK.Ok.cons aqP.sum aK.Ok.nil;refine go hz hX hT func32 (avm ws) ?_
 have bound:∀l:List Int,(l.map λw=>pc 64 w.toNat).sum<=64*l.length:=λl=>by
  induction l with
  |nil=>simp|cons a l ih=>have:=lr 64 a.toNat;simp only[map_cons,sum_cons,length_cons];omega
 refine pS (λ(i:Int)=>c14 ws (((ws.take i.toNat).map λw=>pc 64 w.toNat).sum:Nat) i) (λi=>0<=i/\i<=16) (λi=>(16 - i).toNat) ?_ 0 ⟨by omega,by omega⟩;rintro i ⟨(h0:0<=i),(h1:i<=16)⟩ ih;have hl:=hw.1;have hb:=bound (ws.take i.toNat);rw[length_take]at hb;refine go hz hX hT func32 (avn ws _ i) ⟨λh=> ?_,λh=> ?_⟩;have hi:i<(16:Int):=of_decide_eq_true h;have hm:=hw.2 (ws.getD i.toNat 0) (by rw[List.getD,getElem?_eq_getElem (by omega)];exact getElem_mem (by omega));have hp:=lr 64 (ws.getD i.toNat 0).toNat;refine⟨h0,hi,hm,⟨by omega,by omega⟩,⟨by omega,by omega⟩, ?_⟩;have:=ih (i+1) ⟨by omega,by omega⟩ (by omega);rw[show(i+1).toNat=i.toNat+1 from by omega,getD_take ws i.toNat 0 (by omega)]at this;rw[map_append,List.sum_append]at this;simp only[map_cons,map_nil,sum_cons,List.sum_nil,add_zero]at this;rw[Int.natCast_add]at this;exact this;have hi:¬i<(16:Int):=of_decide_eq_false h;rw[take_of_length_le (by omega)];exact bd (lN ws,()) rfl (by kernel_rfl)
theorem aaK:∀(n x:Nat),pc n x=((List.range n).filter x.testBit).length
 |0,x=>rfl|n+1,x=>by
  rw[pc,aaK n (x / 2),List.range_succ_eq_map,List.filter_cons,List.filter_map];have e:(x.testBit∘Nat.succ)=(x / 2).testBit:=by funext i;simp[Nat.testBit_succ]
  rw[e,Nat.testBit_zero];rcases Nat.mod_two_eq_zero_or_one x with h|h;rw[h];simp;rw[h];simp;omega
theorem aqS{ws:List Int}(hl:ws.length=16):lN ws=((agO ws).length:Nat):=by
 have:∀j,j<=16->(fr (bit ws) (64*j)).length=((ws.take j).map λw=>pc 64 w.toNat).sum:=by
  intro j
  induction j with
  |zero=>intro _;rfl
  |succ j ih=>
   intro hj;rw[getD_take ws j 0 (by omega),map_append,List.sum_append,<-ih (by omega)];unfold fr;rw[show 64*(j+1)=64*j+64 from by omega,List.range_add,List.filter_append,length_append,List.filter_map,length_map];simp only[map_cons,map_nil,sum_cons,List.sum_nil,add_zero];rw[aaK];congr 2;apply List.filter_congr;intro i hi;have hi:=mem_range.1 hi;simp only[Function.comp,bit,wd];rw[show(64*j+i) / 64=j from by omega,show(64*j+i)%64=i from by omega]
 unfold lN agO;have h:=this 16 (by omega);rw[show 64*16=1024 from rfl]at h;rw[h,take_of_length_le (by omega)]
theorem aqT{Z:bh}(h34:re P Z 139 s34):dF P Z 123 [eH,bI] [bI,dg] (λ(ws,_,())=>[okW ws]) (λ(ws,n,())=>(bK ws n,eZ ws n,())):=by
 refine aH func123 (by kernel_rfl) (by kernel_rfl) ?_;rintro⟨(ws:List Int),(n:Int),⟨⟩⟩ _ ⟨(hw:okW ws),_⟩ X hX hz;have hT:avl.Ok P Z:=aK.Ok.cons sW.sum (aK.Ok.cons wC.sum (aK.Ok.cons h34 aK.Ok.nil));refine go hz hX hT func123 (avo ws n) ⟨λh=> ?_,λh=> ?_⟩;have h:imax n 0>=1024:=of_decide_eq_true h;refine bd (0,false,()) ?_ (by kernel_rfl);simp only[bK,eZ,py,if_pos h];rfl;have h:¬imax n 0>=1024:=of_decide_eq_false h;have e:py ws n=l5 (bR .andNot ws (bk (imax n 0))) 0:=by unfold py;rw[if_neg h]
 have hr:=(iL (.inr (.inr rfl)) hw (bV (imax n 0)).1).1;simp only[bK,eZ,e];generalize bR BinOp.andNot ws (bk (imax n 0))=rest at *;refine pS (λ(i:Int)=>c12 rest i) (λi=>0<=i/\i<=16/\l5 rest 0=l5 (rest.drop i.toNat) i) (λi=>(16 - i).toNat) ?_ 0 ⟨by omega,by omega,rfl⟩;rintro i ⟨(h0:0<=i),(h1:i<=16),h2⟩ ih;have hl:=hr.1;refine go hz hX hT func123 (avp rest i) ⟨λh=> ?_,λh=> ?_⟩;have hi:i<(16:Int):=of_decide_eq_true h
 have hd:rest.drop i.toNat=rest.getD i.toNat 0::rest.drop (i.toNat+1):=by
  rw[List.drop_eq_getElem_cons (by omega),List.getD,getElem?_eq_getElem (by omega)];rfl
 have hm:=hr.2 (rest.getD i.toNat 0) (by rw[List.getD,getElem?_eq_getElem (by omega)];exact getElem_mem (by omega));rw[hd,l5]at h2;refine⟨h0,hi,λh3=> ?_,λh3=>⟨⟨by omega,by omega⟩,ih (i+1) ⟨by omega,by omega, ?_⟩ (by omega)⟩⟩;have h3:rest.getD i.toNat 0≠0:=by simpa using h3
 rw[if_pos h3]at h2;have hc:=(aev (x:=(rest.getD i.toNat 0).toNat) (by omega) (by omega)).1;refine⟨⟨by omega,by omega⟩,hm,⟨by unfold aeu;omega,by unfold aeu;omega⟩, ?_⟩;rw[h2];exact bd _ rfl (by kernel_rfl);have h3:¬rest.getD i.toNat 0≠0:=by simpa using h3
 rw[if_neg h3]at h2;rw[h2,show(i+1).toNat=i.toNat+1 from by omega];have hi:¬i<(16:Int):=of_decide_eq_false h;rw[List.drop_eq_nil_of_le (by omega)]at h2;rw[h2];exact bd (0,false,()) rfl (by kernel_rfl)
end Bx
namespace Ts
open Go Go.Sx Go.Proofs Lf
abbrev Th:=Ds.Th
abbrev As:=Ds.As
abbrev Ws:=List Int
def gy(th:Th)(m:As)(n ad:Int):Int:=if ad>16 then 4 else if Ds.gM th m n=0 then uA (Ds.fJ th m n)else Ds.gM th m n
def uG(th:Th)(m:As)(n ad:Int):Bool:=decide (ad<=16)&&decide (Ds.gM th m n=0)
def lH(th:Th)(m:As)(n ad:Int):Bool:=uG th m n ad&&ka (Ds.fJ th m n)
def bZ(th:Th)(m:As)(n ad:Int):List En:=if uG th m n ad=true then pt (Ds.fJ th m n)else []
def aX(th:Th)(m:As)(n ad:Int):List Br:=if uG th m n ad=true then nX (Ds.fJ th m n)else []
def du(l:Bool)(es:List En)(bs:List Br):ByteArray:=if l=true then(es.getD 0 dE).1 else(bs.getD 0 dB).1
def ae:List Br->List Br
 |[]=>[]|b::r=>(empty,b.2.1,())::r
abbrev Wr:Type:=As×Int×Ws×Ws×Br×Int
def bW(th:Th)(m:As)(fu:Int)(fr fs:Ws)(l:Bool)(es:List En)(bs:List Br):Wr:=
 if Bx.eZ fr 0=false then(m,fu,fr,fs,dB,41)
 else if iJ l es (ae bs)≠0 then(m,fu,fr,fs,dB,iJ l es (ae bs))
 else if(Ds.kr th m fu (Bx.bK fr 0) (encS l es (ae bs))).2.2≠0 then
  ((Ds.kr th m fu (Bx.bK fr 0) (encS l es (ae bs))).1,(Ds.kr th m fu (Bx.bK fr 0) (encS l es (ae bs))).2.1,fr,fs,dB,(Ds.kr th m fu (Bx.bK fr 0) (encS l es (ae bs))).2.2)
 else((Ds.kr th m fu (Bx.bK fr 0) (encS l es (ae bs))).1,(Ds.kr th m fu (Bx.bK fr 0) (encS l es (ae bs))).2.1,Bx.dm fr (Bx.bK fr 0),Bx.dk fs (Bx.bK fr 0),(du l es bs,Bx.bK fr 0,()),0)
abbrev Wrs:Type:=As×Int×Ws×Ws×List Br×Int
def two(a:Wr)(b:Wr):Wrs:=(b.1,b.2.1,b.2.2.1,b.2.2.2.1,[a.2.2.2.2.1,b.2.2.2.2.1],b.2.2.2.2.2)
def bH(th:Th)(m:As)(fu:Int)(fr fs:Ws)(l:Bool)(es:List En)(bs:List Br):Wrs:=
 if es.length+bs.length=0 then(m,fu,fr,fs,[],0)
 else if bC es (ae bs)<=254 then
  let a:=bW th m fu fr fs l es (ae bs)
  (a.1,a.2.1,a.2.2.1,a.2.2.2.1,[a.2.2.2.2.1],a.2.2.2.2.2)
 else if spC l es (ae bs)≠0 then(m,fu,fr,fs,[],spC l es (ae bs))
 else
  let a:=bW th m fu fr fs (b8 l es (ae bs)) (bu l es (ae bs)) (bA l es (ae bs))
  if a.2.2.2.2.2≠0 then(a.1,a.2.1,a.2.2.1,a.2.2.2.1,[],a.2.2.2.2.2)
  else two a (bW th a.1 a.2.1 a.2.2.1 a.2.2.2.1 (b8 l es (ae bs)) (dj l es (ae bs)) (dw l es (ae bs)))
def doE(key:ByteArray)(op:Option ByteArray)(l:List En):List En:=match op with
 |some val=>bN l key val|none=>if iT l key=true then cH l key else []
def tC(key:ByteArray)(op:Option ByteArray)(l:List En):Int:=match op with
 |some _=>0|none=>if iT l key=true then 0 else 5
def jV(fs:Ws)(n:Int):Ws:=if Bx.mV fs n=true then Bx.dm fs n else fs
def rj(fs gn:Ws)(n:Int):Ws:=if Bx.mV fs n=true then Bx.dk gn n else gn
abbrev Chg:Type:=As×Int×Ws×Ws×Ws×List Br×Int
def iM(gn:Ws)(w:Wrs):Chg:=(w.1,w.2.1,w.2.2.1,w.2.2.2.1,gn,w.2.2.2.2.1,w.2.2.2.2.2)
def mi(k:ByteArray):List Br->List Br
 |[]=>[]|b::r=>(k,b.2.1,())::r
def yF(th:Th)(key:ByteArray)(op:Option ByteArray):Nat->As->Int->Ws->Ws->Ws->Int->Int->Chg
 |0,m,fu,fr,fs,gn,_,_=>(m,fu,fr,fs,gn,[],4)|f+1,m,fu,fr,fs,gn,n,ad=>
  if gy th m n ad≠0 then(m,fu,fr,fs,gn,[],gy th m n ad)
  else if lH th m n ad=true then
   if tC key op (bZ th m n ad)≠0 then(m,fu,fr,fs,gn,[],tC key op (bZ th m n ad))
   else iM (rj fs gn n) (bH th m fu fr (jV fs n) true (doE key op (bZ th m n ad)) (aX th m n ad))
  else if aX th m n ad=[]then(m,fu,fr,fs,gn,[],4)
  else
   let k:=(bg (aX th m n ad) key).toNat;let r:=yF th key op f m fu fr fs gn ((aX th m n ad).getD k dB).2.1 (ad+1)
   if r.2.2.2.2.2.2≠0 then(r.1,r.2.1,r.2.2.1,r.2.2.2.1,r.2.2.2.2.1,[],r.2.2.2.2.2.2)
   else iM (rj r.2.2.2.1 r.2.2.2.2.1 n) (bH th r.1 r.2.1 r.2.2.1 (jV r.2.2.2.1 n) false (bZ th m n ad)
    ((aX th m n ad).take k++mi ((aX th m n ad).getD k dB).1 r.2.2.2.2.2.1++(aX th m n ad).drop (k+1)))
end Ts
namespace Bx
open Go Go.Sx Go.Proofs Go.RowKit
set_option maxHeartbeats 1000000 in
theorem aqU(x k idx:Nat)(w:World)(hx0:((x:Int)==0)=false)
 (key:u64.wrap (bits BinOp.and u64 (x:Int) (u64.wrap (-(x:Int)))*285870213051353865) / 288230376151711744=(idx:Int))
 (hi:idx<64) (hk:k<64) (oG:w.cell? ⟨1,idx,none⟩=some (.int .u8 k)):
 Calls Tryz.prog 139 #[.int .u64 x] w λe w'=>e=.returned (.int .i64 k)/\w'=w:=by
 go_enter func139,Tryz.ntmps139
 go_wp2_with (simp only[key])
 go_ret
 exact⟨rfl,rfl⟩
set_option maxHeartbeats 1000000 in
theorem aqV(w:World):
 Calls Tryz.prog 139 #[.int .u64 0] w λe w'=>e=.returned (.int .i64 64)/\w'=w:=by
 go_enter func139,Tryz.ntmps139
 go_wp2
 go_ret
 exact⟨rfl,rfl⟩
theorem avq(w:World)(h:TabAt 1 Lib.deBruijn64tab w):1<w.heap.size:=by
 have h0:=h 0 (by decide);rcases lt_or_ge 1 w.heap.size with h1|h1;exact h1;simp[World.cell?,Array.getElem?_eq_none h1]at h0
def bO:bh:=⟨[1],TabAt 1 Lib.deBruijn64tab,λw h b hb=>by rw[mem_singleton.1 hb];exact avq w h,λw w' h k j hj=>by rw[m9 (k 1 (by simp))];exact h j hj⟩
theorem avr(x:Nat)(hx:x<18446744073709551616)(w:World)(hT:TabAt 1 Lib.deBruijn64tab w):
 Calls Tryz.prog 139 #[.int .u64 x] w λe w'=>e=.returned (.int .i64 (Lib.ctz 64 x))/\w'=w:=by
 by_cases hx0:x=0;subst hx0;exact aqV w;have⟨agN,hk⟩:=Lib.lowest_bit 64 x hx0 hx;have⟨hi,azP⟩:=Lib.deBruijn64_at _ hk;have oG:=hT _ hi;rw[azP]at oG;exact aqU x _ _ w (by simp;omega) (tz64_key x _ hx hx0 agN) hi hk oG
theorem axK:dF P bO 139 [tU] [bI] (λ(x,())=>[(0:Int)<=x/\x<(18446744073709551616:Int)]) (λ(x,())=>(aeu x,())):=by
 rintro⟨(x:Int),⟨⟩⟩ _ ⟨(hx:0<=x/\x<18446744073709551616),_⟩ G w vs hG hz hd;obtain⟨n,rfl⟩:=Int.eq_ofNat_of_zero_le hx.1;obtain⟨v,rest,rfl,h1,h2⟩:=aD.1 hd;obtain rfl:=a8.1 h2
 have h3:v=.int .u64 n:=by
  have:=ax (x:=.int .u64 n) (by simp) h1;cases this;rfl
 subst h3;refine(avr n (by omega) w hz).mono ?_;rintro e w' ⟨rfl,rfl⟩;refine⟨_,rfl,Good.val ⟨λid o ho=>by simp at ho,λi j oi oj b hi=>by simp at hi,λb hb=> ?_,hG⟩ ?_⟩;have⟨id,o,ho,_⟩:=hb;cases ho;exact aE (.int .i64 _)
end Bx
namespace Lf
open Go Go.Sx Go.Proofs
abbrev iN:Ty:=.st [.bool,.mL (.au cE) eE,.mL (.au cB) eB]
abbrev as4(l:Bool)(r:Int×List En×List Br):AL [iN,bI]:=((decide (r.1=0)&&l,r.2.1,r.2.2,()),r.1,())
abbrev vI(s:ByteArray):AL [iN,bI]:=((ka s,pt s,nX s,()),uA s,())
theorem aqW{Z:bh}:dF P Z 85 [eU] [iN,bI] (λ_=>[]) (λ(s,())=>((ka s,pt s,nX s,()),uA s,())):=by
 refine aH func85 (by kernel_rfl) (by kernel_rfl) ?_;rintro⟨(s0:ByteArray),⟨⟩⟩ _ _ X hX hz;show Safe P 85 X (Ends [iN,bI] (vI s0)) _;have loop:∀(l:Bool) (n:Nat) (s:ByteArray) (es:List En) (bs:List Br),s.size<=n->es.length+bs.length+s.size<=254->as4 l (jh l n s es bs)=vI s0->
  Safe P 85 X (Ends [iN,bI] (vI s0)) (aqe s l es bs):=by
  intro l n
  induction n with
  |zero=>
   intro s es bs hn hb hy;obtain rfl:=mM (Nat.le_zero.1 hn);refine go hz hX kG func85 (aik empty l es bs) ⟨λh=>absurd h (by simp),λ_=>⟨λh=> ?_,λh=> ?_⟩⟩;refine bd ((false,[],[],()),4,()) ?_ (by kernel_rfl);rw[<-hy,jh,if_neg (by simpa using h)];rfl;refine bd ((l,es,bs,()),0,()) ?_ (by kernel_rfl);rw[<-hy,jh,if_pos (by simpa using h)];rfl
  |succ n ih=>
   intro s es bs hn hb hy;refine go hz hX kG func85 (aik s l es bs) ⟨λh=> ?_,λh=> ?_⟩;have h:s≠empty:=by simpa using h
   have bad:jh l (n+1) s es bs=(8,[],[])->∀(s':ByteArray) (mE:List En) (qD:List Br),Safe P 85 X (Ends [iN,bI] (vI s0)) (qC s' l mE qD false):=λe s' mE qD=>by
    refine go hz hX kG func85 (aee s' l mE qD false) ⟨λ_=> ?_,λh=>by cases h⟩;refine bd ((false,[],[],()),8,()) ?_ (by kernel_rfl);rw[<-hy,e];rfl
   have cont:∀(s':ByteArray) (mE:List En) (qD:List Br),s'.size<=n->mE.length+qD.length+s'.size<=254->as4 l (jh l n s' mE qD)=vI s0->Safe P 85 X (Ends [iN,bI] (vI s0)) (qC s' l mE qD true):=λs' mE qD h1 h2 h3=>by
    refine go hz hX kG func85 (aee s' l mE qD true) ⟨λh=>(by cases h),λ_=>ih s' mE qD h1 h2 h3⟩
   have hr:=λhB=>lq (s:=s) hB;refine⟨rfl,rfl,λhl=>⟨λhB=>⟨rfl,rfl,by omega, ?_⟩,λhB=> ?_⟩,λhl=>⟨λhB=>⟨rfl,rfl,by decide,λh2=> ?_,λh2=> ?_⟩,λhB=> ?_⟩⟩;subst hl;have hr:=hr hB;cases h2:zJ (iR s);exact bad (by rw[jh,if_neg h,if_neg (by simp[hB]),if_pos rfl,if_neg (by simp[h2])]) _ _ _;have:=lq h2;exact cont _ _ _ (by omega) (by simp only[length_append,length_cons,length_nil];omega) (by rw[<-hy,jh,if_neg h,if_neg (by simp[hB]),if_pos rfl,if_pos h2]);exact⟨λh=>(by rw[hB]at h;cases h),λ_=>by rw[hB];exact bad (by rw[jh,if_neg h,if_pos hB]) _ _ _⟩;subst hl;have hr:=hr hB;have e1:=yt (by decide) h2;have e2:=aef (by decide) h2;have b0:=c8 (lG 2 (iR s)) 0;have b1:=c8 (lG 2 (iR s)) 1;refine⟨by decide,by omega,⟨by show _<=aJ _ 0;omega,by show aJ _ 0<=_;omega⟩,by decide,by decide,by omega,⟨by show _<=aJ _ 1;omega,by show aJ _ 1<=_;omega⟩,by omega, ?_⟩;rw[h2];exact cont _ _ _ (by omega) (by simp only[length_append,length_cons,length_nil];omega) (by rw[<-hy,jh,if_neg h,if_neg (by simp[hB]),if_neg (by simp),if_pos h2];rfl);subst hl;rw[h2];exact bad (by rw[jh,if_neg h,if_neg (by simp[hB]),if_neg (by simp),if_neg (by simp[h2])]) _ _ _;rw[hB];exact bad (by rw[jh,if_neg h,if_pos hB]) _ _ _;have h:s=empty:=by simpa using h
   refine⟨λh2=> ?_,λh2=> ?_⟩;refine bd ((false,[],[],()),4,()) ?_ (by kernel_rfl);rw[<-hy,jh,if_pos h,if_neg (by simpa using h2)];rfl;refine bd ((l,es,bs,()),0,()) ?_ (by kernel_rfl);rw[<-hy,jh,if_pos h,if_pos (by simpa using h2)];rfl
 have first:(s0.size:Int)<=254->s0≠empty->¬(aJ s0 0≠1/\aJ s0 0≠2)->Safe P 85 X (Ends [iN,bI] (vI s0)) (aij s0):=λh1 h2 h3=>by
  have hp:0<s0.size:=Nat.pos_of_ne_zero λe=>h2 (mM e);refine go hz hX kG func85 (am4 s0) ⟨by omega,by omega,by omega,by omega,by omega, ?_⟩;have e:qi s0=jh (aJ s0 0==1) s0.size (s0.extract 1 s0.size) [] []:=by rw[qi,if_neg (by omega),if_neg h2,if_neg h3]
  refine loop (aJ s0 0==1) s0.size (s0.extract 1 s0.size) [] [] (by rw[dV];omega) (by rw[dV];simp only[length_nil];omega) ?_;rw[<-e];rfl
 have err:∀(c:Int) (hc:decide (c=0)=false),qi s0=(c,[],[])->vI s0=((false,[],[],()),c,()):=λc hc e=>by
  show((decide ((qi s0).1=0)&&(aJ s0 0==1),(qi s0).2.1,(qi s0).2.2,()),(qi s0).1,())=_;rw[e,hc];rfl
 refine go hz hX kG func85 (aqf s0) ⟨λh=>bd ((false,[],[],()),40,()) (err 40 rfl ?_) (by kernel_rfl),λh=>⟨λh2=>bd ((false,[],[],()),8,()) (err 8 rfl ?_) (by kernel_rfl),λh2=> ?_⟩⟩;rw[qi,if_pos (of_decide_eq_true h)];rw[qi,if_neg (of_decide_eq_false h),if_pos (of_decide_eq_true h2)];have h:=of_decide_eq_false h;have h2:=of_decide_eq_false h2;have hp:0<s0.size:=Nat.pos_of_ne_zero λe=>h2 (mM e);refine⟨by omega,by omega,λh3=>⟨by omega,by omega,λh4=>bd ((false,[],[],()),4,()) (err 4 rfl ?_) (by kernel_rfl),λh4=>first (by omega) h2 ?_⟩,λh3=>first (by omega) h2 ?_⟩;have h3:aJ s0 0≠1:=by simpa using h3
 have h4:aJ s0 0≠2:=by simpa using h4
 rw[qi,if_neg h,if_neg h2,if_pos ⟨h3,h4⟩];have h4:aJ s0 0=2:=by simpa using h4
 exact λe=>e.2 h4;have h3:aJ s0 0=1:=by simpa using h3
 exact λe=>e.1 h3
end Lf
namespace Go.Sx
open Go
inductive Wk1:AV->AV->Prop
 |refl (a:AV):Wk1 a a|bl (b:Bool):Wk1 (.s (.aI b)) (.s (.bool b))|il (k:IntKind) (n:Int):Wk1 (.s (.aR k n)) (.s (.int k n))|em (c:aU):c.n=0->Wk1 .emp (.s (.ro c))
inductive WkL:List AV->List AV->Prop
 |nil:WkL [] []|cons {a b:AV} {l m:List AV}:Wk1 a b->WkL l m->WkL (a::l) (b::m)
inductive Wk2:AV->AV->Prop
 |one {a b:AV}:Wk1 a b->Wk2 a b|agg {l m:List AV}:WkL l m->Wk2 (.agg l) (.agg m)
inductive qE:List AV->List AV->Prop
 |nil:qE [] []|cons {a b:AV} {l m:List AV}:Wk2 a b->qE l m->qE (a::l) (b::m)
inductive Wk:AV->AV->Prop
 |two {a b:AV}:Wk2 a b->Wk a b|bq {l m:List AV}:qE l m->Wk (.bq l) (.bq m)
section
variable{ρ:Nat->Value}{H:aS}{O:Nat->Prop}{w:World}
theorem Wk1.den{a b:AV}(h:Wk1 a b){v:Value}(hd:af ρ H O w a v):af ρ H O w b v:=by
 cases h with
 |refl=>exact hd|bl b=>
  have:=ax (by simp) hd;cases this;exact aE (.bool _)
 |il k n=>
  have:=ax (by simp) hd;cases this;exact aE (.int _ _)
 |em c hc=>
  unfold af at hd;obtain⟨a,rfl⟩:=hd;exact aE (sf hc a)
theorem Wk1.agf{a b:AV}(h:Wk1 a b){cs:List Value}(hd:aQ ρ H O w a cs):aQ ρ H O w b cs:=by
 cases h with
 |refl=>exact hd|bl b=>
  unfold aQ at hd ⊢;obtain⟨u,rfl,h⟩:=hd;cases h;exact⟨_,rfl,.bool _⟩
 |il k n=>
  unfold aQ at hd ⊢;obtain⟨u,rfl,h⟩:=hd;cases h;exact⟨_,rfl,.int _ _⟩
 |em c hc=>
  unfold aQ at hd ⊢;obtain⟨u,rfl,a,rfl⟩:=hd;exact⟨_,rfl,sf hc a⟩
theorem WkL.den{l m:List AV}(h:WkL l m):∀{cs:List Value},az ρ H O w l cs->az ρ H O w m cs:=by
 induction h with
 |nil=>exact λhd=>hd|cons h1 _ ih=>
  intro cs hd;unfold az at hd ⊢;have⟨c1,c2,e,g1,g2⟩:=hd;exact⟨c1,c2,e,h1.agf g1,ih g2⟩
theorem Wk2.den{a b:AV}(h:Wk2 a b){v:Value}(hd:af ρ H O w a v):af ρ H O w b v:=by
 cases h with
 |one h=>exact h.den hd|agg h=>
  unfold af at hd ⊢;have⟨cs,e,g⟩:=hd;exact⟨cs,e,h.den g⟩
theorem qE.den{l m:List AV}(h:qE l m):∀{vs:List Value},bL ρ H O w l vs->bL ρ H O w m vs:=by
 induction h with
 |nil=>exact λhd=>hd|cons h1 _ ih=>
  intro vs hd;have⟨v,rest,e,g1,g2⟩:=aD.1 hd;exact aD.2 ⟨v,rest,e,h1.den g1,ih g2⟩
theorem Wk.den{a b:AV}(h:Wk a b){v:Value}(hd:af ρ H O w a v):af ρ H O w b v:=by
 cases h with
 |two h=>exact h.den hd|bq h=>
  unfold af at hd ⊢;have⟨us,e,g⟩:=hd;exact⟨us,e,h.den g⟩
end
theorem avs{X:Type}{S:Spec X}{x:X}{L:List ak}{r:AV}{o o':AV}{h:List ak}(m:Nat)(e:Norm.run ⟨[],[0],m,[]⟩ ⟨[r],L,[],{}⟩=some ⟨[o],h,[],{}⟩)(hm:(S.heap x).length<=m)(hw:Wk o o')(ho:S.out x=o')(hh:S.dN x=h):akf S x L r:=
 ⟨⟨[],[0],m,[]⟩,o,hm,by rw[hh];exact e,λρ H O w v hd=>by rw[ho];exact hw.den hd⟩
end Go.Sx
namespace Ts
open Go Go.Sx Go.Proofs Lf
abbrev P:Program:=Tryz.prog
abbrev eT:TypeId:=109
abbrev fL(i:Nat)(aa:Int)(fr fs gn:Ws):ak:=.aq [.ptr i 0,.s (.int .i64 aa),.ah .u64 16 fr,.ah .u64 16 fs,.ah .u64 16 gn] eT
abbrev hT(th:Th)(m:As)(fu aa:Int)(fr fs gn:Ws):List ak:=[fL 1 aa fr fs gn,Ds.jI 2 3 fu,.vec (.au Ds.cS th) Ds.eS,.map Ds.kS m]
abbrev aM(n:Int):AV:=.s (.int .i64 n)
abbrev axL:=bY Ds.sGR Ds.mRd
abbrev axM:=bY Ds.sGW Ds.mWr
abbrev avt:=xR [eU] [iN,bI] (λ_=>[]) (λ(s,())=>((ka s,pt s,nX s,()),uA s,()))
def as5:aK:=[(84,axL),(85,avt)]
abbrev XT:Type:=Th×As×Int×Int×Ws×Ws×Ws
abbrev sNo:Spec (XT×Int×Int):=⟨λ(_,n,ad)=>[.ptr 0 0,aM n,aM ad],λ((th,m,fu,aa,fr,fs,gn),_,_)=>hT th m fu aa fr fs gn,λ((th,m,fu,_),n,_)=>[Ds.bm th m fu,aA n],λ((th,m,fu,aa,fr,fs,gn),_,_)=>hT th m fu aa fr fs gn,
 λ((th,m,_),n,ad)=>.bq [.agg [.s (.bool (lH th m n ad)),.s (.ro (.au cE (bZ th m n ad))),.s (.ro (.au cB (aX th m n ad)))],aM (gy th m n ad)]⟩
theorem azQ(th:Th)(m:As)(fu aa:Int)(fr fs gn:Ws)(n ad:Int):run P as5.sum f61 [] (start f61 [.ptr 0 0,aM n,aM ad] (hT th m fu aa fr fs gn))=
 Tree.ite (decide (ad>16)) (.ret (hT th m fu aa fr fs gn++[.aq [.s (.aI false),.emp,.emp] 100]) (.bq [.agg [.s (.aI false),.emp,.emp],.s (.aR .i64 4)])) (.ab (bp (some [AV.ptr 0 0,aM n])) (.ab (bp (some (Ds.hD th m fu))) (.ab (Ds.bm th m fu) (.ab (aA n) (.ite (Ds.gM th m n !=0) (.ret (hT th m fu aa fr fs gn++[.aq [.s (.aI false),.emp,.emp] 100]) (.bq [.agg [.s (.aI false),.emp,.emp],aM (Ds.gM th m n)])) (.ret (hT th m fu aa fr fs gn++[.aq [.s (.bool (ka (Ds.fJ th m n))),.s (.ro (.au cE (pt (Ds.fJ th m n)))),.s (.ro (.au cB (nX (Ds.fJ th m n))))] 100]) (.bq [.agg [.s (.bool (ka (Ds.fJ th m n))),.s (.ro (.au cE (pt (Ds.fJ th m n)))),.s (.ro (.au cB (nX (Ds.fJ th m n))))],aM (uA (Ds.fJ th m n))]))))))):=by kernel_rfl
theorem anz{Z:bh}:as5.Ok P Z:=aK.Ok.cons (Ds.axj.sum Ds.mRd) (aK.Ok.cons aqW.xR aK.Ok.nil)
theorem agQ{l l':AV}{es bs mE qD:AV}{e e':AV}(h1:Wk1 l l')(h2:Wk1 es mE)(h3:Wk1 bs qD)(h4:Wk1 e e'):Wk (.bq [.agg [l,es,bs],e]) (.bq [.agg [l',mE,qD],e']):=
 .bq (.cons (.agg (.cons h1 (.cons h2 (.cons h3 .nil)))) (.cons (.one h4) .nil))
theorem p6{Z:bh}:fI P Z 61 sNo:=by
 refine sF func61 (by kernel_rfl) (λx=>le_of_ble_eq_true (by kernel_rfl)) ?_;rintro⟨⟨th,m,fu,aa,fr,fs,gn⟩,n,ad⟩ ⟨(hd:Ds.bm th m fu),(hn:aA n),_⟩ X hX hz;refine Ds.cF hz hX (by intro y hy;cases hy) anz func61 (azQ th m fu aa fr fs gn n ad) ⟨λh=> ?_,λh=>⟨rfl,rfl,hd,hn,λh2=> ?_,λh2=> ?_⟩⟩;have h:=of_decide_eq_true h;have e0:uG th m n ad=false:=by unfold uG;rw[decide_eq_false (by omega),Bool.false_and]
 refine avs 4 (by kernel_rfl) (le_refl _) (agQ (.refl (.s (.bool false))) (.em (.au cE []) rfl) (.em (.au cB []) rfl) (.refl (.s (.int .i64 4)))) ?_ rfl;show AV.bq [.agg [.s (.bool (lH th m n ad)),.s (.ro (.au cE (bZ th m n ad))),.s (.ro (.au cB (aX th m n ad)))],aM (gy th m n ad)]=_;unfold lH bZ aX gy;rw[e0,if_pos h];rfl;have h:=of_decide_eq_false h;have h2:Ds.gM th m n≠0:=by simpa using h2
 have e0:uG th m n ad=false:=by unfold uG;rw[decide_eq_false h2,Bool.and_false]
 refine avs 4 (by kernel_rfl) (le_refl _) (agQ (.refl (.s (.bool false))) (.em (.au cE []) rfl) (.em (.au cB []) rfl) (.refl (aM (Ds.gM th m n)))) ?_ rfl;show AV.bq [.agg [.s (.bool (lH th m n ad)),.s (.ro (.au cE (bZ th m n ad))),.s (.ro (.au cB (aX th m n ad)))],aM (gy th m n ad)]=_;unfold lH bZ aX gy;rw[e0,if_neg h,if_neg h2];rfl;have h:=of_decide_eq_false h;have h2:Ds.gM th m n=0:=by simpa using h2
 have e0:uG th m n ad=true:=by unfold uG;rw[decide_eq_true h2,decide_eq_true (by omega)];rfl
 refine avs 4 (by kernel_rfl) (le_refl _) (agQ (.refl (.s (.bool (ka (Ds.fJ th m n))))) (.refl (.s (.ro (.au cE (pt (Ds.fJ th m n)))))) (.refl (.s (.ro (.au cB (nX (Ds.fJ th m n)))))) (.refl (aM (uA (Ds.fJ th m n))))) ?_ rfl;show AV.bq [.agg [.s (.bool (lH th m n ad)),.s (.ro (.au cE (bZ th m n ad))),.s (.ro (.au cB (aX th m n ad)))],aM (gy th m n ad)]=_;unfold lH bZ aX gy;rw[e0,if_neg h,if_pos h2];rfl
abbrev avu:=sumOf [Bx.eH,Bx.bI] [Bx.dg] (λ_=>[]) (λ(ws,n,())=>(Bx.mV ws n,()))
abbrev aew:=sumOf [Bx.eH,Bx.bI] [Bx.eH] (λ_=>[]) (λ(ws,n,())=>(Bx.dk ws n,()))
abbrev as6:=sumOf [Bx.eH,Bx.bI] [Bx.eH] (λ_=>[]) (λ(ws,n,())=>(Bx.dm ws n,()))
def as7:aK:=[(75,avu),(51,aew),(126,as6)]
abbrev sLv:Spec (XT×Int):=⟨λ(_,n)=>[.ptr 0 0,aM n],λ((th,m,fu,aa,fr,fs,gn),_)=>hT th m fu aa fr fs gn,λ_=>[],λ((th,m,fu,aa,fr,fs,gn),n)=>hT th m fu aa fr (jV fs n) (rj fs gn n),λ_=>.bq []⟩
theorem azR(th:Th)(m:As)(fu aa:Int)(fr fs gn:Ws)(n:Int):run P as7.sum f98 [] (start f98 [.ptr 0 0,aM n] (hT th m fu aa fr fs gn))=
 Tree.ite (Bx.mV fs n) (.ret (hT th m fu aa fr (Bx.dm fs n) (Bx.dk gn n)) (.bq [])) (.ret (hT th m fu aa fr fs gn) (.bq [])):=by kernel_rfl
theorem anA{Z:bh}:as7.Ok P Z:=aK.Ok.cons Bx.agL.sum (aK.Ok.cons Bx.sU.sum (aK.Ok.cons Bx.yz.sum aK.Ok.nil))
theorem yG{Z:bh}:fI P Z 98 sLv:=by
 refine fS func98 ?_;rintro⟨⟨th,m,fu,aa,fr,fs,gn⟩,n⟩ _ X hX hz;refine Ds.cF hz hX (by intro y hy;cases hy) anA func98 (azR th m fu aa fr fs gn n) ⟨λh=> ?_,λh=> ?_⟩;have e1:jV fs n=Bx.dm fs n:=if_pos h;have e2:rj fs gn n=Bx.dk gn n:=if_pos h;exact bD (h:=hT th m fu aa fr (Bx.dm fs n) (Bx.dk gn n)) 4 rfl (le_refl _) rfl (by show hT th m fu aa fr (jV fs n) (rj fs gn n)=_;rw[e1,e2]);have e1:jV fs n=fs:=if_neg (by rw[h];simp);have e2:rj fs gn n=gn:=if_neg (by rw[h];simp);exact bD (h:=hT th m fu aa fr fs gn) 4 rfl (le_refl _) rfl (by show hT th m fu aa fr (jV fs n) (rj fs gn n)=_;rw[e1,e2])
abbrev aBr:=sumOf [fo] [eU] (λ((l,es,bs,()),())=>[((l:Bool)=true->0<(es:List En).length)/\(l=false->0<(bs:List Br).length)]) (λ((l,es,bs,()),())=>(du l es bs,()))
theorem azS(l:Bool)(es:List En)(bs:List Br):run P (aK.sum []) f122 [] (start f122 [avN l es bs] [])=
 Tree.ite l (.ab ((0:Int)<=0) (.ab ((0:Int)<(↑es.length:Int)) (.ret [.aq [.s (.bool l),.s (.ro (.au cE es)),.s (.ro (.au cB bs))] 100] (.s (.str (es.getD 0 (CL.d cE)).fst))))) (.ab ((0:Int)<=0) (.ab ((0:Int)<(↑bs.length:Int)) (.ret [.aq [.s (.bool l),.s (.ro (.au cE es)),.s (.ro (.au cB bs))] 100] (.s (.str (bs.getD 0 (CL.d cB)).fst))))):=by kernel_rfl
theorem anB{Z:bh}:dF P Z 122 [fo] [eU] (λ((l,es,bs,()),())=>[((l:Bool)=true->0<(es:List En).length)/\(l=false->0<(bs:List Br).length)]) (λ((l,es,bs,()),())=>(du l es bs,())):=by
 refine aH func122 (by kernel_rfl) (by kernel_rfl) ?_;rintro⟨⟨(l:Bool),(es:List En),(bs:List Br),⟨⟩⟩,⟨⟩⟩ _ ⟨⟨h1,h2⟩,_⟩ X hX hz;refine Lf.go hz hX aK.Ok.nil func122 (azS l es bs) ⟨λh=>⟨by omega,Int.ofNat_lt.2 (h1 h), ?_⟩,λh=>⟨by omega,Int.ofNat_lt.2 (h2 h), ?_⟩⟩;show Ends [eU] (du l es bs,()) _ _;unfold du;rw[if_pos h];exact amk;show Ends [eU] (du l es bs,()) _ _;unfold du;rw[if_neg (by rw[h];simp)];exact amk
abbrev cBs:List CK:=[.rows cB]
abbrev eBs:TypeId:=98
abbrev Rows:Type:=List (List Br×Unit)
abbrev axN:Ty:=.b (.row (.au cBs) eBs)
abbrev rwB(x:CL cBs):List Br:=x.1
def nsJ:List (Nat×Norm):=[(3,⟨[(3,.au cB [],eB)],[3,6,7,8],0,[]⟩)]
def cJ(ls:List (CL cBs))(acc:List Br)(i:Int):bP:=⟨sl 17 [(3,.vec 0),(6,.s (.ro (.au cBs ls))),(7,aM (ls.length:Int)),(8,aM i)],[.vec (.au cB acc) eB],hd f120 3,{}⟩
def cI(ls:List (CL cBs)):List Br:=ls.flatMap λx=>rwB x
abbrev sJ:=sumOf [axN] [zH] (λ(ls,())=>[(ls:List (CL cBs)).length<=100,(cI ls).length<=100000]) (λ(ls,())=>(cI ls,()))
def as8:aK:=[(120,sJ)]
theorem trJ(ls:List (CL cBs)):run P (aK.sum []) f120 nsJ (start f120 [.s (.ro (.au cBs ls))] [])=
 Tree.at (cJ ls [] 0):=by kernel_rfl
theorem as9(ls:List (CL cBs))(acc:List Br)(i:Int):run P (aK.sum []) f120 nsJ (cJ ls acc i)=
 Tree.ite (decide (i<ls.length)) (.ab ((0:Int)<=i) (.ab (i<ls.length) (.ab ((acc.length+(rwB (el ls i)).length)*(24:Nat)<=140737488355328) (.ab (aA (i+1)) (.at (cJ ls (acc++rwB (el ls i)) (i+1))))))) (.ret [.vec (.au cB acc) 116] (.vec 0)):=by kernel_rfl
theorem azT(l:Bool)(es:List En)(bs:List Br):run P as8.sum f94 [] (start f94 [avN l es bs] [])=
 Tree.ite (decide ((↑bs.length:Int)>0)) (.ab ((0:Int)<=0) (.ab ((0:Int)<(↑bs.length:Int)) (.ab ((0:Int)<=1) (.ab ((1:Int)<=(↑bs.length:Int)) (.ab ((↑bs.length:Int)<=(↑bs.length:Int)) (.ab ([([(empty,(bs.getD 0 (CL.d cB)).snd.fst,())],()),(List.drop (Int.toNat 1) (List.take (↑bs.length:Int).toNat bs),())].length<=100) (.ab ((cI [([(empty,(bs.getD 0 (CL.d cB)).snd.fst,())],()),(List.drop (Int.toNat 1) (List.take (↑bs.length:Int).toNat bs),())]).length<=100000) (.ret [.aq [.s (.bool l),.s (.ro (.au cE es)),.vec 4] 100,.aq [.s (.bool l),.s (.ro (.au cE es)),.vec 4] 100,.aw,.vec (.au cBs [([(empty,(bs.getD 0 (CL.d cB)).snd.fst,())],()),(List.drop (Int.toNat 1) (List.take (↑bs.length:Int).toNat bs),())]) 98,.vec (.au cB (cI [([(empty,(bs.getD 0 (CL.d cB)).snd.fst,())],()),(List.drop (Int.toNat 1) (List.take (↑bs.length:Int).toNat bs),())])) 116] (.agg [.s (.bool l),.s (.ro (.au cE es)),.vec 4]))))))))) (.ret [.aq [.s (.bool l),.s (.ro (.au cE es)),.s (.ro (.au cB bs))] 100,.aq [.s (.bool l),.s (.ro (.au cE es)),.s (.ro (.au cB bs))] 100] (.agg [.s (.bool l),.s (.ro (.au cE es)),.s (.ro (.au cB bs))])):=by kernel_rfl
theorem agR{ls:List (CL cBs)}(k:Nat)(h:k<ls.length):cI (ls.take (k+1))=cI (ls.take k)++rwB (ls.getD k (CL.d cBs)):=by
 rw[<-ic (d:=CL.d cBs) h];simp[cI]
theorem anC{ls:List (CL cBs)}(k:Nat):(cI (ls.take k)).length<=(cI ls).length:=by
 have e:cI ls=cI (ls.take k)++cI (ls.drop k):=by
  unfold cI;exact(congrArg (List.flatMap λx=>rwB x) (List.take_append_drop k ls).symm).trans List.flatMap_append
 rw[e,length_append];omega
theorem uH{Z:bh}:dF P Z 120 [axN] [zH] (λ(ls,())=>[(ls:List (CL cBs)).length<=100,(cI ls).length<=100000]) (λ(ls,())=>(cI ls,())):=by
 refine aH func120 (by kernel_rfl) (by kernel_rfl) ?_;rintro⟨(ls:List (CL cBs)),⟨⟩⟩ _ ⟨(hl:ls.length<=100),(hj:(cI ls).length<=100000),_⟩ X hX hz
 have first:∀(n k:Nat),k+n=ls.length->Safe P 120 X (Ends [zH] (cI ls,())) (cJ ls (cI (ls.take k)) (k:Int)):=by
  intro n
  induction n with
  |zero=>
   intro k hk;refine Lf.go hz hX aK.Ok.nil func120 (as9 ls _ k) ⟨λh=>absurd (of_decide_eq_true h) (by omega),λh=> ?_⟩;rw[take_of_length_le (by omega)];exact bd (cI ls,()) rfl (by kernel_rfl)
  |succ n ih=>
   intro k hk;have e:=agR (ls:=ls) k (by omega);have l1:=anC (ls:=ls) (k+1);rw[e,length_append]at l1;refine Lf.go hz hX aK.Ok.nil func120 (as9 ls _ k) ⟨λh=>⟨by omega,by omega, ?_,⟨by omega,by omega⟩, ?_⟩,λh=>absurd (of_decide_eq_false h) (by omega)⟩;show((cI (ls.take k)).length+(rwB (ls.getD k (CL.d cBs))).length)*24<=140737488355328;omega;have:=ih (k+1) (by omega);rw[e]at this;exact this
 exact Lf.go hz hX aK.Ok.nil func120 (trJ ls) (first ls.length 0 (by omega))
theorem anD{Z:bh}:as8.Ok P Z:=aK.Ok.cons uH.sum aK.Ok.nil
theorem aiy{Z:bh}:dF P Z 94 [fo] [iN] (λ((_,_,bs,()),())=>[(bs:List Br).length<=1000]) (λ((l,es,bs,()),())=>((l,es,ae bs,()),())):=by
 refine aH func94 (by kernel_rfl) (by kernel_rfl) ?_;rintro⟨⟨(l:Bool),(es:List En),(bs:List Br),⟨⟩⟩,⟨⟩⟩ _ ⟨(hl:bs.length<=1000),_⟩ X hX hz;show Safe P 94 X (Ends [iN] ((l,es,ae bs,()),())) _;refine Lf.go hz hX anD func94 (azT l es bs) ⟨λh=> ?_,λh=> ?_⟩;have h:=of_decide_eq_true h
 obtain⟨b,r,rfl⟩:∃b r,bs=b::r:=by
  cases bs with
  |nil=>simp at h|cons b r=>exact⟨b,r,rfl⟩
 simp only[length_cons]at h hl
 have e:cI [([(empty,((b::r).getD (0:Nat) (CL.d [CK.str,CK.int i64])).snd.fst,())],()),(List.drop (Int.toNat (1:Int)) (List.take (↑(b::r).length:Int).toNat (b::r)),())]=ae (b::r):=by
  show [(empty,b.2.1,())]++(List.drop 1 (List.take (r.length+1) (b::r))++[])=(empty,b.2.1,())::r;rw[take_of_length_le (by simp)];simp
 refine⟨by omega,by simp only[length_cons];omega,by omega,by simp only[length_cons];omega,by simp only[length_cons];omega,by show 2<=100;decide, ?_, ?_⟩;refine le_trans (Nat.le_of_eq (congrArg List.length e)) ?_;show r.length+1<=100000;omega;exact bd (rs:=[iN]) ((l,es,cI [([(empty,((b::r).getD (0:Nat) (CL.d [CK.str,CK.int i64])).snd.fst,())],()),(List.drop (Int.toNat (1:Int)) (List.take (↑(b::r).length:Int).toNat (b::r)),())],()),()) (by rw[e]) (by kernel_rfl);have h:=of_decide_eq_false h;obtain rfl:bs=[]:=List.eq_nil_of_length_eq_zero (by omega);exact bd (rs:=[iN]) ((l,es,[],()),()) rfl (by kernel_rfl)
end Ts
namespace Lf
open Go Go.Sx Go.Proofs
theorem p7{es:List En}{k:Nat}:okE es k=true↔(1<=(es.getD k dE).1.size/\(es.getD k dE).1.size<=24/\(es.getD k dE).2.1.size<=100/\(0<k->slt (es.getD (k - 1) dE).1 (es.getD k dE).1=true)):=by
 simp only[okE,not_eq_true',Bool.or_eq_false_iff,Bool.and_eq_false_iff,decide_eq_false_iff_not,Bool.not_eq_false'];constructor;rintro⟨⟨⟨h1,h2⟩,h3⟩,h4⟩;exact⟨Nat.pos_of_ne_zero λe=>h1 (mM e),by omega,by omega,λh=>h4.resolve_left (λg=>g h)⟩;rintro⟨h1,h2,h3,h4⟩;exact⟨⟨⟨λe=>(by rw[e]at h1;simp at h1),by omega⟩,by omega⟩,(Decidable.em (0<k)).elim (λh=>.inr (h4 h)) .inl⟩
theorem s5{bs:List Br}{k:Nat}:okB bs k=true↔((bs.getD k dB).1.size<=24/\2<=(bs.getD k dB).2.1/\(bs.getD k dB).2.1<=1023/\(0<k->slt (bs.getD (k - 1) dB).1 (bs.getD k dB).1=true)):=by
 simp only[okB,not_eq_true',Bool.or_eq_false_iff,Bool.and_eq_false_iff,decide_eq_false_iff_not,Bool.not_eq_false'];constructor;rintro⟨⟨⟨h1,h2⟩,h3⟩,h4⟩;exact⟨by omega,by omega,by omega,λh=>h4.resolve_left (λg=>g h)⟩;rintro⟨h1,h2,h3,h4⟩;exact⟨⟨⟨by omega,by omega⟩,by omega⟩,(Decidable.em (0<k)).elim (λh=>.inr (h4 h)) .inl⟩
theorem akA(l:Bool)(es:List En)(bs:List Br):am5 l es bs l es bs=true:=by simp[am5,axo,axp]
theorem s7{l:Bool}{es:List En}{bs:List Br}(h:dD l es bs=true):jt (bS es)/\jt (nN bs):=by
 simp only[dD,and_eq_true]at h;exact⟨axn h.1.2,auR h.2⟩
theorem avv{l:List En}{key val:ByteArray}(h:l.length<=200):(bN l key val).length<=201:=by rw[aci];split<;>omega
theorem nD{α:Type}{l:List α}{k i:Nat}{d:α}(h:i<k):(l.take k).getD i d=l.getD i d:=by simp[List.getD,getElem?_take,h]
theorem lu{α:Type}{l:List α}{k i:Nat}{d:α}:(l.drop k).getD i d=l.getD (k+i) d:=by simp[List.getD,List.getElem?_drop]
theorem aaL{es:List En}(h:kv es=true)(k:Nat):kv (es.take k)=true:=dt.2 λi hi=>by
 rw[length_take]at hi;have:=p7.1 (dt.1 h i (by omega));rw[p7,nD (by omega),nD (by omega)];exact this
theorem aaM{es:List Br}(h:ik es=true)(k:Nat):ik (es.take k)=true:=dt.2 λi hi=>by
 rw[length_take]at hi;have:=s5.1 (dt.1 h i (by omega));rw[s5,nD (by omega),nD (by omega)];exact this
theorem aaN{es:List En}(h:kv es=true)(k:Nat):kv (es.drop k)=true:=dt.2 λi hi=>by
 rw[length_drop]at hi;have⟨h1,h2,h3,h4⟩:=p7.1 (dt.1 h (k+i) (by omega));rw[p7,lu,lu];exact⟨h1,h2,h3,λh0=>by have:=h4 (by omega);rw[show k+i - 1=k+(i - 1)from by omega]at this;exact this⟩
theorem aaO{es:List Br}(h:ik es=true)(k:Nat):ik (es.drop k)=true:=dt.2 λi hi=>by
 rw[length_drop]at hi;have⟨h1,h2,h3,h4⟩:=s5.1 (dt.1 h (k+i) (by omega));rw[s5,lu,lu];exact⟨h1,h2,h3,λh0=>by have:=h4 (by omega);rw[show k+i - 1=k+(i - 1)from by omega]at this;exact this⟩
theorem wF{l:Bool}{es:List En}{bs:List Br}(m1:l=true->bs=[])(m2:l=false->es=[])(m3:kv es=true)(m4:ik bs=true):dD l es bs=true:=by
 simp only[dD,m3,m4,Bool.and_true];cases l;rw[m2 rfl];rfl;rw[m1 rfl];rfl
theorem aex{l:Bool}{es:List En}{bs:List Br}(h:dD l es bs=true)(k:Nat):dD l (es.take k) (bs.take k)=true:=by
 have⟨m1,m2,m3,m4⟩:=ew h;exact wF (λe=>by rw[m1 e,List.take_nil]) (λe=>by rw[m2 e,List.take_nil]) (aaL m3 k) (aaM m4 k)
theorem aey{l:Bool}{es:List En}{bs:List Br}(h:dD l es bs=true)(k:Nat):dD l (es.drop k) (bs.drop k)=true:=by
 have⟨m1,m2,m3,m4⟩:=ew h;exact wF (λe=>by rw[m1 e,List.drop_nil]) (λe=>by rw[m2 e,List.drop_nil]) (aaN m3 k) (aaO m4 k)
theorem wG:∀{l:List Int} {m:Int},(∀x∈l,m<=x)->m*l.length<=l.sum
 |[],m,_=>by simp
 |a::r,m,h=>by
  have h1:=wG (l:=r) (m:=m) λx hx=>h x (mem_cons_of_mem _ hx);have h2:=h a mem_cons_self;rw[sum_cons,length_cons];have:m*((r.length+1:Nat):Int)=m*(r.length:Int)+m:=by rw[Int.natCast_add,Int.mul_add];simp
  omega
theorem aqX(es:List En)(bs:List Br):∀x∈aT es bs,2<=x:=λx hx=>by
 simp only[aT,mem_append,mem_map]at hx;rcases hx with⟨e,_,rfl⟩|⟨b,_,rfl⟩;simp only[rG];omega;simp only[rh];omega
theorem anE{zs:List Int}(h:∀x∈zs,2<=x){k:Nat}(h1:0<k)(h2:k<zs.length):2<=(zs.take k).sum/\(zs.take k).sum+2<=zs.sum:=by
 have a1:=wG (l:=zs.take k) (m:=2) λx hx=>h x (List.mem_of_mem_take hx);have a2:=wG (l:=zs.drop k) (m:=2) λx hx=>h x (List.mem_of_mem_drop hx);rw[aeo]at a2;rw[length_take]at a1;rw[length_drop]at a2;omega
theorem yH(zs:List Int):∀k,0<k->(iK zs k).2=kb zs (iK zs k).1
 |0,h=>absurd h (by omega)
 |k+1,_=>by
  rw[iK];split;rfl;rename_i h;have hk:0<k:=Nat.pos_of_ne_zero λe=>h (.inl (by rw[e];rfl));exact yH zs k hk
theorem s8(zs:List Int):∀k j,0<j->j<=k->(iK zs k).2<=kb zs j
 |0,j,h,h2=>absurd h (by omega)
 |k+1,j,h,h2=>by
  rw[iK];split;rename_i hc;by_cases e:j=k+1;rw[e];exact Int.le_refl _;have:=s8 zs k j h (by omega);rcases hc with hc|hc;have:=pw zs k (by omega);omega;show kb zs (k+1)<=_;omega;rename_i hc;by_cases e:j=k+1;rw[e];have:¬kb zs (k+1)<(iK zs k).2:=λh=>hc (.inr h);omega;exact s8 zs k j h (by omega)
theorem rk{p:Nat->Int}{c:Int}:∀n:Nat,p 0<c->c<=p n->∃k,k<n/\p k<c/\c<=p (k+1)
 |0,h1,h2=>absurd h2 (by omega)
 |n+1,h1,h2=>by
  by_cases h:c<=p n;have⟨k,a,b,d⟩:=rk n h1 h;exact⟨k,by omega,b,d⟩;exact⟨n,by omega,by omega,h2⟩
theorem akB{zs:List Int}(h2:∀x∈zs,2<=x/\x<=126)(hs:253<zs.sum)(hs2:zs.sum<=379):2<=zs.length/\kb zs (iK zs (zs.length - 1)).1<=253:=by
 have hb:=(pW (l:=zs) (m:=126) (λx hx=>⟨by have:=(h2 x hx).1;omega,(h2 x hx).2⟩) (by omega)).2;have hl:2<=zs.length:=by omega
 refine⟨hl, ?_⟩;have⟨k,hk,k1,k2⟩:=rk (p:=λk=>(zs.take k).sum) (c:=zs.sum - 253) zs.length (by simp;omega) (by simp only[List.take_length];omega);have k1:(zs.take k).sum<zs.sum - 253:=k1;have k2:zs.sum - 253<=(zs.take (k+1)).sum:=k2;have k3:=ju hk;have k4:zs.getD k 0<=126:=by rw[ba hk];exact(h2 _ (getElem_mem _)).2
 have k5:k+1<zs.length:=by
  rcases lt_or_ge (k+1) zs.length with h|h;exact h;rw[take_of_length_le h]at k3;omega
 have m:=s8 zs (zs.length - 1) (k+1) (by omega) (by omega);rw[yH _ _ (by omega)]at m;refine Int.le_trans m ?_;unfold kb imax;split<;>omega
theorem anF(l:List En)(key val:ByteArray):((bN l key val).map rG).sum<=(l.map rG).sum+rG (key,val,()):=by
 have agN:∀l:List En,0<=(l.map rG).sum:=λl=>by
  have:=wG (l:=l.map rG) (m:=0) λx hx=>by
   obtain⟨e,_,rfl⟩:=mem_map.1 hx;simp only[rG];omega
  omega
 have hd:∀(p q:Nat),p<=q->((l.drop q).map rG).sum<=((l.drop p).map rG).sum:=λp q h=>by
  have e:l.drop p=(l.drop p).take (q - p)++l.drop q:=by
   have:=List.take_append_drop (q - p) (l.drop p);rw[List.drop_drop,show p+(q - p)=q from by omega]at this;exact this.symm
  rw[e,map_append,List.sum_append];have:=agN ((l.drop p).take (q - p));omega
 have h1:(l.map rG).sum=((l.take (cW (bS l) key)).map rG).sum+((l.drop (cW (bS l) key)).map rG).sum:=by
  rw[<-List.sum_append,<-map_append,List.take_append_drop]
 have h2:=hd (cW (bS l) key) (if j9 (bS l) key=true then cW (bS l) key+1 else cW (bS l) key) (by split<;>omega);rw[bN,map_append,List.sum_append,map_cons,sum_cons];omega
theorem aqY(l:List En)(key val:ByteArray):(key,val,())∈bN l key val:=by
 rw[bN];exact mem_append_right _ mem_cons_self
theorem uI{l:Bool}{es:List En}{bs:List Br}(h:dW l es bs=true)(he:bx es)(hb:bz bs):
 bx (bu l es bs)/\bz (bA l es bs)/\bx (dj l es bs)/\bz (dw l es bs)/\am5 (b8 l es bs) ([]++bu l es bs++dj l es bs) ([]++bA l es bs++dw l es bs) l es bs=true/\
 dD (b8 l es bs) (bu l es bs) (bA l es bs)=true/\dD (b8 l es bs) (dj l es bs) (dw l es bs)=true/\
 bC (bu l es bs) (bA l es bs)<bC es bs/\bC (dj l es bs) (dw l es bs)<bC es bs/\bC (bu l es bs) (bA l es bs)+bC (dj l es bs) (dw l es bs)=bC es bs+1/\
 imax (bC (bu l es bs) (bA l es bs)) (bC (dj l es bs) (dw l es bs))=1+kb (aT es bs) (eI es bs):=by
 have h':=h;simp only[dW,and_eq_true,decide_eq_true_eq]at h';have⟨hm,h2⟩:=h';have⟨m1,m2,_,_⟩:=ew hm;have⟨_,_,_,_,c5,c6⟩:=ako m1 m2 (eI es bs);have b1:=pw (aT es bs) (es.length+bs.length - 1) (by omega);have b2:=pX (aT es bs) (es.length+bs.length - 1);have p:=anE (aqX es bs) (k:=eI es bs) b1 (by rw[yw];rw[eI];omega);have bU:=pj es bs;simp only[bu,dj,bA,dw,b8,h,if_true,Bool.true_and];refine⟨aek he _,ael hb _,aem he _,aen hb _, ?_,aex hm _,aey hm _,by omega,by omega,by omega, ?_⟩;rw[nil_append,nil_append,List.take_append_drop,List.take_append_drop];exact akA _ _ _;rw[c5,c6,ana];rfl
theorem avw{l:Bool}{es:List En}{bs:List Br}(h:(spC l es bs==0)=true):dW l es bs=true:=by
 unfold spC at h;split at h;assumption;exact absurd h (by decide)
theorem agS{l:List En}{key val:ByteArray}(h:l.length<=200)(hm:dD true (bN l key val) []=true):bx (bN l key val):=by
 have⟨_,_,m3,_⟩:=ew hm;exact⟨le_trans (avv h) (by omega),λx hx=>by have:=agF m3 hx;omega⟩
theorem akC{es:List En}{key val:ByteArray}(hl:es.length<=200)(hs:bC es []<=254)(hm:dD true (bN es key val) []=true)(hn:¬bC (bN es key val) []<=254):
 dW true (bN es key val) []=true/\bC (bu true (bN es key val) []) (bA true (bN es key val) [])<=254/\bC (dj true (bN es key val) []) (dw true (bN es key val) [])<=254:=by
 have⟨_,_,m3,_⟩:=ew hm;have e0:∀l:List En,aT l []=l.map rG:=λl=>by simp[aT]
 have e1:=pj es [];have e2:=pj (bN es key val) [];rw[e0]at e1 e2;have k1:=anF es key val;have k2:=agF m3 (aqY es key val);have k3:rG (key,val,())<=126:=by simp only[rG];simp only[]at k2;omega
 have hz:∀x∈(bN es key val).map rG,2<=x/\x<=126:=λx hx=>by
  obtain⟨y,hy,rfl⟩:=mem_map.1 hx;have:=agF m3 hy;simp only[rG];omega
 have⟨b1,b2⟩:=akB hz (by omega) (by omega);rw[length_map]at b1 b2
 have ok:dW true (bN es key val) []=true:=by
  simp only[dW,hm,Bool.true_and,decide_eq_true_eq,length_nil];omega
 have⟨_,_,_,_,_,_,_,_,_,_,f⟩:=uI ok (agS hl hm) yx;rw[e0]at f;have f2:kb ((bN es key val).map rG) (eI (bN es key val) [])<=253:=by rw[eI,e0,length_nil,add_zero];exact b2
 unfold imax at f;refine⟨ok, ?_, ?_⟩<;>split at f<;>omega
end Lf
namespace Ds
open Go Go.Sx Go.Proofs Lf
theorem aiz{th:Th}{n:Int}{ws:List Int}(hp:wv th n=true)(hw:ws.length=256):∀(j k:Nat) (m:As) (f:Int),k+j=4->bm th m f->
 (((zE th n ws j k m f).2.2=0/\∀i:Nat,k<=i->i<4->cG th (zE th n ws j k m f).1 (n*4+(i:Int))=iI ws i)\/((zE th n ws j k m f).2.2=42/\(zE th n ws j k m f).2.1=0))/\
   ∀x,(∀i:Nat,k<=i->i<4->x≠n*4+(i:Int))->cG th (zE th n ws j k m f).1 x=cG th m x
 |0,k,m,f,hk,hd=>⟨.inl ⟨rfl,λi h1 h2=>by omega⟩,λx _=>rfl⟩|j+1,k,m,f,hk,hd=>by
  have cO:=ab4 hp (show k<4 by omega);have hs:=aaD hw (show k<4 by omega);have hd':=ye (n:=n*4+(k:Int)) (s:=iI ws k) hd;have hr:=λx=>amx (n:=n*4+(k:Int)) (x:=x) (s:=iI ws k) hd;unfold zE;by_cases hf:f=0;have he:pb th f (n*4+(k:Int)) (iI ws k)=42:=by unfold pb;rw[if_pos cO,if_pos hs,if_pos hf]
  rw[if_neg (by rw[he];decide)];refine⟨.inr ⟨he, ?_⟩,λx hx=> ?_⟩;show ur th f (n*4+(k:Int)) (iI ws k)=0;unfold ur dC;rw[if_pos ⟨cO,hs⟩,if_pos hf];show cG th (uq th m f (n*4+(k:Int)) (iI ws k)) x=_;rw[hr,if_neg];rintro⟨h,_⟩;rw[he]at h;cases h;have he:pb th f (n*4+(k:Int)) (iI ws k)=0:=pd.2 ⟨cO,hs,hf⟩;rw[if_pos he];have⟨h1,h3⟩:=aiz hp hw j (k+1) _ _ (by omega) hd';refine⟨h1.elim (λhh=>.inl ⟨hh.1,λi hi hi4=> ?_⟩) .inr,λx hx=> ?_⟩;by_cases e:i=k;subst e;rw[h3 _ (λi' a b=>by omega),hr,if_pos ⟨he,rfl⟩];exact hh.2 i (by omega) hi4;rw[h3 x (λi a b=>hx i (by omega) b),hr,if_neg (λh=>hx k (le_refl _) (by omega) h.2)]
theorem anG{th:Th}{m:As}{fu n x:Int}{s:ByteArray}(h:bm th m fu)(hx:x≠n):cp (uq th m fu n s) x=cp m x:=by
 unfold uq;split;have e:=sH (m:=m) h.m.1 (n:=n) (x:=x) (v:=bw s);rw[if_neg hx]at e;exact e;rfl
theorem aiA{th:Th}{n x:Int}{ws:List Int}:∀(j k:Nat) (m:As) (f:Int),k+j=4->bm th m f->x / 4≠n->cp (zE th n ws j k m f).1 x=cp m x
 |0,k,m,f,_,_,_=>rfl|j+1,k,m,f,hk,hd,hx=>by
  have e:x≠n*4+(k:Int):=by omega
  unfold zE;split;exact(aiA j (k+1) _ _ (by omega) (ye hd) hx).trans (anG hd e);exact anG hd e
theorem avx{th:Th}{m:As}{fu n x:Int}{s:ByteArray}(hd:bm th m fu)(hx:x / 4≠n):cp (kr th m fu n s).1 x=cp m x:=by
 unfold kr;split;exact aiA 4 0 m fu rfl hd hx;rfl
theorem avy{th:Th}{m:As}{fu n:Int}{s:ByteArray}(hd:bm th m fu)(hp:wv th n=true)(hs:s.size<=254):
 (((kr th m fu n s).2.2=0/\gM th (kr th m fu n s).1 n=0/\fJ th (kr th m fu n s).1 n=s)\/((kr th m fu n s).2.2=42/\(kr th m fu n s).2.1=0))/\
   (fu= -1->(kr th m fu n s).2.1= -1)/\
   ∀p,p≠n->gM th (kr th m fu n s).1 p=gM th m p/\fJ th (kr th m fu n s).1 p=fJ th m p:=by
 have hl:=ah4 hs;have⟨h1,h3⟩:=aiz hp hl 4 0 m fu rfl hd;have ec:gwC th n s=0:=by unfold gwC;rw[if_pos hp,if_neg (by omega)]
 unfold kr;rw[ec,if_pos rfl];refine⟨h1.imp (λ⟨a,h2⟩=> ?_) id,λe=>by subst e;rw[(amM hp hl 4 0 m rfl hd).1],λp hpn=>adZ rfl λi hi=>(h3 _ λi' _ fq=>by omega).symm⟩
 have e:pgA th (zE th n (pgB s) 4 0 m fu).1 n=pgB s:=by
  show pgL _ _ _ 4=_;simp only[pgL,nil_append];rw[h2 0 (by omega) (by omega),h2 1 (by omega) (by omega),h2 2 (by omega) (by omega),h2 3 (by omega) (by omega)];exact amN hl (λx hx=>amz x hx hs)
 exact⟨a,auM hp hs e⟩
end Ds
namespace Ts
open Go Go.Sx Go.Proofs Lf
def In(ws:Ws)(k:Int):Prop:=Bx.mV ws k=true
instance (ws:Ws) (k:Int):Decidable (In ws k):=inferInstanceAs (Decidable (_=true))
theorem eJ{ws:Ws}(hw:Bx.okW ws){k:Int}:In ws k↔(0<=k/\k<1024)/\Bx.bit ws k.toNat=true:=by
 unfold In;rw[Bx.aix hw,and_eq_true,decide_eq_true_eq]
theorem mX{ws:Ws}(hw:Bx.okW ws){k:Int}(h:In ws k):0<=k/\k<1024:=((eJ hw).1 h).1
theorem p8{ws:Ws}(hw:Bx.okW ws){n:Int}(hn:0<=n/\n<1024){k:Int}:In (Bx.dk ws n) k↔In ws k\/k=n:=by
 have⟨h1,h2⟩:=Bx.gH hw n;rw[eJ h1,eJ hw];constructor;rintro⟨a,b⟩;rw[h2 k.toNat (by omega),Bool.or_eq_true,decide_eq_true_eq]at b;rcases b with b|b;exact .inl ⟨a,b⟩;right;omega;rintro(⟨a,b⟩|rfl);exact⟨a,by rw[h2 _ (by omega),b];rfl⟩;refine⟨hn, ?_⟩;rw[h2 _ (by omega),Bool.or_eq_true,decide_eq_true_eq];right;omega
theorem rl{ws:Ws}(hw:Bx.okW ws){n k:Int}:In (Bx.dm ws n) k↔In ws k/\k≠n:=by
 have⟨h1,h2⟩:=Bx.lZ hw n;rw[eJ h1,eJ hw];constructor;rintro⟨a,b⟩;rw[h2 k.toNat (by omega),and_eq_true,not_eq_true',decide_eq_false_iff_not]at b;exact⟨⟨a,b.1⟩,by omega⟩;rintro⟨⟨a,b⟩,c⟩;refine⟨a, ?_⟩;rw[h2 _ (by omega),and_eq_true,not_eq_true',decide_eq_false_iff_not];exact⟨b,by omega⟩
theorem agT{op:BinOp}(zk:op=.or\/op=.and\/op=.andNot){a b:Ws}(ha:Bx.okW a)(hb:Bx.okW b){k:Int}:
 In (Bx.bR op a b) k↔(0<=k/\k<1024)/\Bx.opb op (Bx.bit a k.toNat) (Bx.bit b k.toNat)=true:=by
 have⟨h1,h2⟩:=Bx.iL zk ha hb;rw[eJ h1];constructor;rintro⟨c,d⟩;rw[h2 _ (by omega)]at d;exact⟨c,d⟩;rintro⟨c,d⟩;exact⟨c,by rw[h2 _ (by omega)];exact d⟩
theorem axO{a b:Ws}(ha:Bx.okW a)(hb:Bx.okW b){k:Int}:In (Bx.bR .or a b) k↔In a k\/In b k:=by
 rw[agT (.inl rfl) ha hb,eJ ha,eJ hb];simp only[Bx.opb,Bool.or_eq_true];exact⟨λ⟨c,d⟩=>d.imp (λx=>⟨c,x⟩) (λx=>⟨c,x⟩),λh=>h.elim (λx=>⟨x.1,.inl x.2⟩) (λx=>⟨x.1,.inr x.2⟩)⟩
theorem anH{a b:Ws}(ha:Bx.okW a)(hb:Bx.okW b){k:Int}:In (Bx.bR .and a b) k↔In a k/\In b k:=by
 rw[agT (.inr (.inl rfl)) ha hb,eJ ha,eJ hb];simp only[Bx.opb,and_eq_true];exact⟨λ⟨c,d⟩=>⟨⟨c,d.1⟩,c,d.2⟩,λ⟨x,y⟩=>⟨x.1,x.2,y.2⟩⟩
theorem s9{a b:Ws}(ha:Bx.okW a)(hb:Bx.okW b){k:Int}:In (Bx.bR .andNot a b) k↔In a k/\¬In b k:=by
 rw[agT (.inr (.inr rfl)) ha hb,eJ ha,eJ hb];simp only[Bx.opb,and_eq_true,not_eq_true'];constructor;rintro⟨c,d,e⟩;exact⟨⟨c,d⟩,λh=>by rw[h.2]at e;cases e⟩;rintro⟨⟨c,d⟩,e⟩;refine⟨c,d, ?_⟩;cases hh:Bx.bit b k.toNat;rfl;exact absurd ⟨c,hh⟩ e
theorem mY{n k:Int}:In (Bx.bk n) k↔(0<=k/\k<1024)/\k<n:=by
 have⟨h1,h2⟩:=Bx.bV n;rw[eJ h1];constructor;rintro⟨c,d⟩;rw[h2 _ (by omega),decide_eq_true_eq]at d;exact⟨c,by omega⟩;rintro⟨c,d⟩;exact⟨c,by rw[h2 _ (by omega),decide_eq_true_eq];omega⟩
theorem eK{k:Int}:¬In Bx.aG k:=λh=>by
 have:=((eJ Bx.eV.1).1 h).2;rw[Bx.eV.2]at this;cases this
theorem agU{a b:Ws}(ha:Bx.okW a)(hb:Bx.okW b)(h:∀k,In a k↔In b k):a=b:=Bx.aqR ha hb λk hk=>by
 have h1:=h (k:Int);rw[eJ ha,eJ hb,toNat_natCast]at h1;have hr:(0:Int)<=(k:Int)/\(k:Int)<1024:=⟨by omega,by omega⟩;have h2:Bx.bit a k=true↔Bx.bit b k=true:=⟨λh=>(h1.1 ⟨hr,h⟩).2,λh=>(h1.2 ⟨hr,h⟩).2⟩;cases e1:Bx.bit a k<;>cases e2:Bx.bit b k<;>simp[e1,e2]at h2 ⊢
theorem aez{ws:Ws}(hw:Bx.okW ws)(h:Bx.eZ ws 0=true):In ws (Bx.bK ws 0):=by
 unfold Bx.eZ at h;have⟨v,hv⟩:=isSome_iff_exists.1 h;obtain⟨p,rfl,hp,hb,_,_⟩:=Bx.yE hw hv;have e:Bx.bK ws 0=(p:Int):=by unfold Bx.bK;rw[hv];rfl
 rw[e,eJ hw];exact⟨⟨by omega,by omega⟩,by rw[toNat_natCast];exact hb⟩
theorem anI{ws:Ws}(hw:Bx.okW ws)(h:Bx.eZ ws 0=true){q:Int}(hq:In ws q):Bx.bK ws 0<=q:=by
 unfold Bx.eZ at h;have⟨v,hv⟩:=isSome_iff_exists.1 h;obtain⟨p,rfl,hp,hb,_,aud⟩:=Bx.yE hw hv;have e:Bx.bK ws 0=(p:Int):=by unfold Bx.bK;rw[hv];rfl
 rw[e];have⟨hr,hq⟩:=(eJ hw).1 hq;refine Int.not_lt.1 λbo=> ?_;rw[aud q.toNat (by omega) (by omega)]at hq;cases hq
theorem aqZ{ws:Ws}(hw:Bx.okW ws)(h:Bx.eZ ws 0=false)(k:Int):¬In ws k:=by
 unfold Bx.eZ at h
 have hv:Bx.py ws 0=none:=by
  cases e:Bx.py ws 0 with
  |none=>rfl|some v=>rw[e]at h;cases h
 intro hk;have⟨hr,hb⟩:=(eJ hw).1 hk;rw[Bx.agP hw hv k.toNat (by omega) (by omega)]at hb;cases hb
structure Rd (th:Th) (m:As) (p:Int) (l:Bool) (es:List En) (bs:List Br):Prop where
 e:Ds.gM th m p=0
 c:uA (Ds.fJ th m p)=0
 l:ka (Ds.fJ th m p)=l
 es:pt (Ds.fJ th m p)=es
 bs:nX (Ds.fJ th m p)=bs
theorem Rd.same{th:Th}{m m':As}{p:Int}{l:Bool}{es:List En}{bs:List Br}(h:Rd th m p l es bs)(h1:Ds.gM th m' p=Ds.gM th m p/\Ds.fJ th m' p=Ds.fJ th m p):Rd th m' p l es bs:=by
 have⟨a,b,c,d,e⟩:=h;exact⟨by rw[h1.1];exact a,by rw[h1.2];exact b,by rw[h1.2];exact c,by rw[h1.2];exact d,by rw[h1.2];exact e⟩
theorem Rd.nd{th:Th}{m:As}{p:Int}{l:Bool}{es:List En}{bs:List Br}(h:Rd th m p l es bs){ad:Int}(hd:ad<=16):gy th m p ad=0/\lH th m p ad=l/\bZ th m p ad=es/\aX th m p ad=bs:=by
 have e0:uG th m p ad=true:=by unfold uG;rw[decide_eq_true hd,decide_eq_true h.e];rfl
 refine⟨?_, ?_, ?_, ?_⟩;unfold gy;rw[if_neg (by omega),if_pos h.e];exact h.c;unfold lH;rw[e0,Bool.true_and];exact h.l;unfold bZ;rw[if_pos e0];exact h.es;unfold aX;rw[if_pos e0];exact h.bs
abbrev axP:=sumOf [fo] [eU] (λ((l,es,bs,()),())=>[((l:Bool)=true->0<(es:List En).length)/\(l=false->0<(bs:List Br).length)]) (λ((l,es,bs,()),())=>(du l es bs,()))
abbrev ata:=xR [fo] [iN] (λ((_,_,bs,()),())=>[(bs:List Br).length<=1000]) (λ((l,es,bs,()),())=>((l,es,ae bs,()),()))
abbrev azU:=sumOf [Bx.eH,Bx.bI] [Bx.bI,Bx.dg] (λ(ws,_,())=>[Bx.okW ws]) (λ(ws,n,())=>(Bx.bK ws n,Bx.eZ ws n,()))
abbrev axQ:=sumOf [fo] [eU,bI] (λ((_,es,bs,()),())=>[bx es,bz bs]) (λ((l,es,bs,()),())=>(encS l es bs,iJ l es bs,()))
def atb:aK:=[(122,axP),(94,ata),(123,azU),(124,axQ),(125,axM),(126,as6),(51,aew)]
abbrev axR:Spec (XT×Bool×List En×List Br):=⟨λ(_,l,es,bs)=>[.ptr 0 0,avN l es bs],λ((th,m,fu,aa,fr,fs,gn),_)=>hT th m fu aa fr fs gn,
 λ((th,m,fu,_,fr,_,_),l,es,bs)=>[Ds.bm th m fu,Bx.okW fr,((l:Bool)=true->0<(es:List En).length)/\(l=false->0<(bs:List Br).length),bx es,bz bs],
 λ((th,m,fu,aa,fr,fs,gn),l,es,bs)=>hT th (bW th m fu fr fs l es bs).1 (bW th m fu fr fs l es bs).2.1 aa (bW th m fu fr fs l es bs).2.2.1 (bW th m fu fr fs l es bs).2.2.2.1 gn,
 λ((th,m,fu,_,fr,fs,_),l,es,bs)=>.bq [.agg [.s (.str (bW th m fu fr fs l es bs).2.2.2.2.1.1),aM (bW th m fu fr fs l es bs).2.2.2.2.1.2.1],aM (bW th m fu fr fs l es bs).2.2.2.2.2]⟩
theorem azV(th:Th)(m:As)(fu aa:Int)(fr fs gn:Ws)(l:Bool)(es:List En)(bs:List Br):run P atb.sum f96 [] (start f96 [.ptr 0 0,avN l es bs] (hT th m fu aa fr fs gn))=
 Tree.ab ((l=true->(0:Nat)<es.length)/\(l=false->(0:Nat)<bs.length)) (.ab (bs.length<=1000) (.ab (Bx.okW fr) (.ite (!Bx.eZ fr 0) (.ret (hT th m fu aa fr fs gn++[.aq [.s (.bool l),.s (.ro (.au cE es)),.s (.ro (.au cB (ae bs)))] 100,.aq [.s (.str empty),.s (.aR .i64 0)] 116]) (.bq [.agg [.s (.str empty),.s (.aR .i64 0)],.s (.aR .i64 41)])) (.ab (bx es) (.ab (bz (ae bs)) (.ite (iJ l es (ae bs) !=0) (.ret (hT th m fu aa fr fs gn++[.aq [.s (.bool l),.s (.ro (.au cE es)),.s (.ro (.au cB (ae bs)))] 100,.aq [.s (.str empty),.s (.aR .i64 0)] 116]) (.bq [.agg [.s (.str empty),.s (.aR .i64 0)],aM (iJ l es (ae bs))])) (.ab (bp (some [AV.ptr 0 0,aM (Bx.bK fr 0),.s (.str (encS l es (ae bs)))])) (.ab (bp (some (Ds.hD th m fu))) (.ab (Ds.bm th m fu) (.ab (aA (Bx.bK fr 0)) (.ite ((Ds.kr th m fu (Bx.bK fr 0) (encS l es (ae bs))).snd.snd !=0) (.ret (hT th (Ds.kr th m fu (Bx.bK fr 0) (encS l es (ae bs))).fst (Ds.kr th m fu (Bx.bK fr 0) (encS l es (ae bs))).snd.fst aa fr fs gn++[.aq [.s (.bool l),.s (.ro (.au cE es)),.s (.ro (.au cB (ae bs)))] 100,.aq [.s (.str empty),.s (.aR .i64 0)] 116]) (.bq [.agg [.s (.str empty),.s (.aR .i64 0)],aM ((Ds.kr th m fu (Bx.bK fr 0) (encS l es (ae bs))).snd.snd)])) (.ret (hT th (Ds.kr th m fu (Bx.bK fr 0) (encS l es (ae bs))).fst (Ds.kr th m fu (Bx.bK fr 0) (encS l es (ae bs))).snd.fst aa (Bx.dm fr (Bx.bK fr 0)) (Bx.dk fs (Bx.bK fr 0)) gn++[.aq [.s (.bool l),.s (.ro (.au cE es)),.s (.ro (.au cB (ae bs)))] 100,.aq [.s (.str (du l es bs)),aM (Bx.bK fr 0)] 116]) (.bq [.agg [.s (.str (du l es bs)),aM (Bx.bK fr 0)],.s (.aR .i64 0)]))))))))))))):=by kernel_rfl
theorem vJ{bs:List Br}(h:bz bs):bz (ae bs):=by
 cases bs with
 |nil=>exact h|cons b r=>
  refine⟨h.1,λx hx=> ?_⟩;rcases mem_cons.1 hx with rfl|hx;exact zero_le _;exact h.2 x (mem_cons_of_mem _ hx)
theorem yI{ws:Ws}(hw:Bx.okW ws)(h:Bx.eZ ws 0=true):0<=Bx.bK ws 0/\Bx.bK ws 0<1024:=mX hw (aez hw h)
theorem anJ:atb.Ok P Bx.bO:=aK.Ok.cons anB.sum (aK.Ok.cons aiy.xR (aK.Ok.cons (Bx.aqT Bx.axK.sum).sum (aK.Ok.cons akl.sum (aK.Ok.cons (Ds.axk.sum Ds.mWr) (aK.Ok.cons Bx.yz.sum (aK.Ok.cons Bx.sU.sum aK.Ok.nil))))))
theorem yc:fI P Bx.bO 96 axR:=by
 refine fS func96 ?_;rintro⟨⟨th,m,fu,aa,fr,fs,gn⟩,l,es,bs⟩ ⟨(hd:Ds.bm th m fu),(hf:Bx.okW fr),(cP:((l:Bool)=true->0<(es:List En).length)/\(l=false->0<(bs:List Br).length)),(he:bx es),(hb:bz bs),_⟩ X hX hz;refine Ds.cF hz hX (by intro y hy;cases hy) anJ func96 (azV th m fu aa fr fs gn l es bs) ⟨cP,hb.1,hf,λh=> ?_,λh=>⟨he,vJ hb,λh2=> ?_,λh2=>⟨rfl,rfl,hd, ?_,λh3=> ?_,λh3=> ?_⟩⟩⟩;have h:Bx.eZ fr 0=false:=by simpa using h
 have e:bW th m fu fr fs l es bs=(m,fu,fr,fs,dB,41):=by unfold bW;rw[if_pos h]
 refine bD (h:=hT th m fu aa fr fs gn) 4 rfl (le_refl _) ?_ ?_;show AV.bq [.agg [.s (.str (bW th m fu fr fs l es bs).2.2.2.2.1.1),aM (bW th m fu fr fs l es bs).2.2.2.2.1.2.1],aM (bW th m fu fr fs l es bs).2.2.2.2.2]=_;rw[e];rfl;show hT th (bW th m fu fr fs l es bs).1 (bW th m fu fr fs l es bs).2.1 aa (bW th m fu fr fs l es bs).2.2.1 (bW th m fu fr fs l es bs).2.2.2.1 gn=_;rw[e];have h:¬Bx.eZ fr 0=false:=by simpa using h
 have h2:iJ l es (ae bs)≠0:=by simpa using h2
 have e:bW th m fu fr fs l es bs=(m,fu,fr,fs,dB,iJ l es (ae bs)):=by unfold bW;rw[if_neg h,if_pos h2]
 refine bD (h:=hT th m fu aa fr fs gn) 4 rfl (le_refl _) ?_ ?_;show AV.bq [.agg [.s (.str (bW th m fu fr fs l es bs).2.2.2.2.1.1),aM (bW th m fu fr fs l es bs).2.2.2.2.1.2.1],aM (bW th m fu fr fs l es bs).2.2.2.2.2]=_;rw[e];rfl;show hT th (bW th m fu fr fs l es bs).1 (bW th m fu fr fs l es bs).2.1 aa (bW th m fu fr fs l es bs).2.2.1 (bW th m fu fr fs l es bs).2.2.2.1 gn=_;rw[e];have h:Bx.eZ fr 0=true:=by simpa using h
 have:=yI hf h;exact⟨by omega,by omega⟩;have h:¬Bx.eZ fr 0=false:=by simpa using h
 have h2:¬iJ l es (ae bs)≠0:=by simpa using h2
 have h3:(Ds.kr th m fu (Bx.bK fr 0) (encS l es (ae bs))).2.2≠0:=by simpa using h3
 have e:bW th m fu fr fs l es bs=((Ds.kr th m fu (Bx.bK fr 0) (encS l es (ae bs))).1,(Ds.kr th m fu (Bx.bK fr 0) (encS l es (ae bs))).2.1,fr,fs,dB,(Ds.kr th m fu (Bx.bK fr 0) (encS l es (ae bs))).2.2):=by unfold bW;rw[if_neg h,if_neg h2,if_pos h3]
 refine bD (h:=hT th (Ds.kr th m fu (Bx.bK fr 0) (encS l es (ae bs))).1 (Ds.kr th m fu (Bx.bK fr 0) (encS l es (ae bs))).2.1 aa fr fs gn) 4 rfl (le_refl _) ?_ ?_;show AV.bq [.agg [.s (.str (bW th m fu fr fs l es bs).2.2.2.2.1.1),aM (bW th m fu fr fs l es bs).2.2.2.2.1.2.1],aM (bW th m fu fr fs l es bs).2.2.2.2.2]=_;rw[e];rfl;show hT th (bW th m fu fr fs l es bs).1 (bW th m fu fr fs l es bs).2.1 aa (bW th m fu fr fs l es bs).2.2.1 (bW th m fu fr fs l es bs).2.2.2.1 gn=_;rw[e];have h:¬Bx.eZ fr 0=false:=by simpa using h
 have h2:¬iJ l es (ae bs)≠0:=by simpa using h2
 have h3:¬(Ds.kr th m fu (Bx.bK fr 0) (encS l es (ae bs))).2.2≠0:=by simpa using h3
 have e:bW th m fu fr fs l es bs=((Ds.kr th m fu (Bx.bK fr 0) (encS l es (ae bs))).1,(Ds.kr th m fu (Bx.bK fr 0) (encS l es (ae bs))).2.1,Bx.dm fr (Bx.bK fr 0),Bx.dk fs (Bx.bK fr 0),(du l es bs,Bx.bK fr 0,()),0):=by unfold bW;rw[if_neg h,if_neg h2,if_neg h3]
 refine bD (h:=hT th (Ds.kr th m fu (Bx.bK fr 0) (encS l es (ae bs))).1 (Ds.kr th m fu (Bx.bK fr 0) (encS l es (ae bs))).2.1 aa (Bx.dm fr (Bx.bK fr 0)) (Bx.dk fs (Bx.bK fr 0)) gn) 4 rfl (le_refl _) ?_ ?_;show AV.bq [.agg [.s (.str (bW th m fu fr fs l es bs).2.2.2.2.1.1),aM (bW th m fu fr fs l es bs).2.2.2.2.1.2.1],aM (bW th m fu fr fs l es bs).2.2.2.2.2]=_;rw[e];rfl;show hT th (bW th m fu fr fs l es bs).1 (bW th m fu fr fs l es bs).2.1 aa (bW th m fu fr fs l es bs).2.2.1 (bW th m fu fr fs l es bs).2.2.2.1 gn=_;rw[e]
end Ts
namespace Go.Sx
open Go
def aiB:List Nat->List AV->(List AV->RM bQ)->RM bQ
 |[],args,k=>k args|id::ids,args,k=>.look id λo=>match o with
  |some (.vec c _)=>((aiB ids (args.map (oO id c)) k).afP id).nc id|_=>.fail ""
def anK(i:Nat)(s:Nat->List AV->RM bQ):Nat->List AV->RM bQ:=λbase args=>aiB (af5 (args.getD i (.s .aY))) args (s base)
def aiC(cs:List (Nat×aU)):Nat->List AV->List AV
 |_,[]=>[]|j,.emp::r=>(match cs.find? (λp=>p.1.beq j)with
  |some (_,c)=>bif c.n.beq 0 then .s (.ro c)else .emp|none=>.emp)::aiC cs (j+1) r
 |j,a::r=>a::aiC cs (j+1) r
def atc(cs:List (Nat×aU)):AV->AV
 |.agg ay=>.agg (aiC cs 0 ay)|a=>a
def acq(i:Nat)(cs:List (Nat×aU))(s:Nat->List AV->RM bQ):Nat->List AV->RM bQ:=λbase args=>s base (match args[i]? with
 |some a=>args.set i (atc cs a)|none=>args)
section
variable{ρ aL:Nat->Value}{H H':aS}{G O O':Nat->Prop}{w w':World}{P:Program}{Z:bh}{X:Type}{S:Spec X}
theorem aaP{cs:List (Nat×aU)}:∀(l:List AV) (j:Nat) {vs:List Value},az ρ H O w l vs->az ρ H O w (aiC cs j l) vs
 |[],_,vs,h=>h|a::l,j,vs,h=>by
  obtain⟨c1,c2,rfl,h1,h2⟩:=ag.1 h;have ih:=aaP (cs:=cs) l (j+1) h2;cases a with
  |emp=>
   refine ag.2 ⟨c1,c2,rfl, ?_,ih⟩;split;rw[cond_eq_ite];split;rename_i c _ hc;have hc:c.n=0:=by simpa using hc
   unfold aQ at h1 ⊢;obtain⟨u,rfl,a,rfl⟩:=h1;exact⟨_,rfl,sf hc a⟩;exact h1;exact h1
  |_=>exact ag.2 ⟨c1,c2,rfl,h1,ih⟩
theorem akD{cs:List (Nat×aU)}{a:AV}{v:Value}(h:af ρ H O w a v):af ρ H O w (atc cs a) v:=by
 cases a with
 |agg ay=>
  unfold af at h;obtain⟨vs,rfl,h1⟩:=h;show af _ _ _ _ (.agg _) _;unfold af;exact⟨vs,rfl,aaP _ _ h1⟩
 |_=>exact h
theorem gT{f:FuncId}{s:Nat->List AV->RM bQ}(h:re P Z f s)(i:Nat)(cs:List (Nat×aU)):re P Z f (acq i cs s):=by
 intro base args H q hq hn ρ G w vs dA hz hs hd;unfold acq at hq;split at hq;rename_i a ha;exact h base _ H q hq hn ρ G w vs dA hz hs (adU hd ha λv hv=>akD hv);exact h base _ H q hq hn ρ G w vs dA hz hs hd
theorem akE(hs:Sat ρ H G w){id:Nat}{c:aU}{e:TypeId}(ho:H id=some (.vec c e)){x:AV}{v:Value}(hx:af ρ H (aV ρ H G) w x v):
 af ρ (aB H id .aw) (aV ρ (aB H id .aw) G) w (oO id c x) v:=by
 have st:=fi (ρ:=ρ) (G:=G) (w:=w) ho;have gone:=rX hs ho
 have agf:∀x cs,aQ ρ H (aV ρ H G) w x cs→aQ ρ (aB H id .aw) (aV ρ (aB H id .aw) G) w (oN id c x) cs:=by
  intro x cs hx;have ni:=aQ.step st x cs hx;cases x<;>try exact ni
  rename_i j;simp only[oN,cond_eq_ite];split;rename_i hj;have hj:j=id:=by simpa using hj
  subst hj;unfold aQ at hx ⊢;obtain⟨u,rfl,hu⟩:=hx;obtain⟨a,cap,hv,hr,_⟩:=iz hs ho (by unfold af;exact hu);exact⟨u,rfl,by rw[←hr];exact gone⟩;exact ni
 have np:∀(xs:List AV) cs,az ρ H (aV ρ H G) w xs cs→az ρ (aB H id .aw) (aV ρ (aB H id .aw) G) w (xs.map (oN id c)) cs:=by
  intro xs
  induction xs with
  |nil=>intro cs hx;exact aC.2 (aC.1 hx)
  |cons x xs ih=>
   intro cs hx;obtain⟨c1,c2,rfl,h1,h2⟩:=ag.1 hx;exact ag.2 ⟨c1,c2,rfl,agf _ _ h1,ih _ h2⟩
 have ni:=af.step st x v hx;cases x with
 |agg ay=>
  unfold af at hx;obtain⟨cs,rfl,h1⟩:=hx;show af _ _ _ _ (.agg _) _;unfold af;exact⟨cs,rfl,np _ _ h1⟩
 |vec j=>
  simp only[oO,cond_eq_ite];split;rename_i hj;have hj:j=id:=by simpa using hj
  subst hj;obtain⟨a,cap,hv,hr,_⟩:=iz hs ho hx;rw[←hr];exact aE gone;exact ni
 |_=>exact ni
theorem aeA{f:FuncId}{s:Nat->List AV->RM bQ}(h:re P Z f s){base:Nat}:∀(ids:List Nat) {args:List AV} {H:aS} {q:bQ},(aiB ids args (s base)).eval H=some q->bJ q.ab->
 ∀(ρ:Nat->Value) (G:Nat->Prop) (w:World) (vs:List Value),(∀j,j<q.new.length->H (base+j)=none)->ZAt Z ρ H w->Sat ρ H G w->bL ρ H (aV ρ H G) w args vs->
 Calls P f vs.toArray w λe w'=>∃v,e=.returned v/\Good ρ H G w (cY H q.up base q.new) (q.r base) v w'
 |[],args,H,q,hq,hn,ρ,G,w,vs,dA,hz,hs,hd=>h base args H q hq hn ρ G w vs dA hz hs hd|id::ids,args,H,q,hq,hn,ρ,G,w,vs,dA,hz,hs,hd=>by
  simp only[aiB,RM.eval]at hq;split at hq;rename_i c el ho;obtain⟨q',h1,rfl⟩:=RM.nk _ hq;rw[RM.mH]at h1;have st:=fi (ρ:=ρ) (G:=G) (w:=w) ho;have hz1:ZAt Z ρ (aB H id .aw) w:=⟨hz.1,λb hb hO=>hz.2 b hb (fj hO)⟩
  have abY:∀j,j<q'.new.length->aB H id .aw (base+j)=none:=λj hj=>by
   have:=dA j hj;simp only[aB];split;rename_i e1;rw[e1,ho]at this;cases this;exact this
  have hd1:bL ρ (aB H id .aw) (aV ρ (aB H id .aw) G) w (args.map (oO id c)) vs:=by
   clear h1 hq
   induction args generalizing vs with
   |nil=>exact(show bL _ _ _ _ [] vs by rw[a8.1 hd];unfold bL;rfl)
   |cons a args ih=>
    obtain⟨v,rest,rfl,g1,g2⟩:=aD.1 hd;exact aD.2 ⟨v,rest,rfl,akE hs ho g1,ih _ g2⟩
  refine(aeA h ids h1 hn ρ G w vs abY hz1 (hs.kill ho) hd1).mono ?_;rintro en w' ⟨v,he,hg⟩;refine⟨v,he, ?_⟩
  have af4:cY H ((id,.aw)::q'.up) base q'.new=cY (aB H id .aw) q'.up base q'.new:=by
   funext j;simp only[cY,cw,aB];cases cw q'.up j with
   |some x=>rfl|none=>
    simp only[];by_cases hj:j=id;subst hj
    have uc:¬(base<=j/\j<base+q'.new.length):=by
     rintro⟨k1,k2⟩;have:=dA (j - base) (by simp only[];omega);rw[show base+(j - base)=j from by omega,ho]at this;cases this
    simp[uc];simp[hj]
  simp only[];rw[af4];exact Good.after st (λb hb=>fj hb) hg;simp[RM.eval]at hq
theorem jj{f:FuncId}{s:Nat->List AV->RM bQ}(h:re P Z f s)(i:Nat):re P Z f (anK i s):=by
 intro base args H q hq hn ρ G w vs dA hz hs hd;exact aeA h _ hq hn ρ G w vs dA hz hs hd
theorem zL{f:FuncId}{fn:Func}{aP:List AV}{L:List ak}{K:List ak->AV->Prop}(hf:P.funcs[f]? =some fn)(hb:fn.body.isSome=true)(hn:aP.length<=fn.ntmps)
 (h:∀X:Ctx,X.H=lk L->dZ Z X->Safe P f X K (start fn aP L)) (ρ:Nat->Value) (G:Nat->Prop) (w:World) (vs:List Value) (hz:ZAt Z ρ (lk L) w) (hs:Sat ρ (lk L) G w)
 (hd:bL ρ (lk L) (aV ρ (lk L) G) w aP vs):Calls P f vs.toArray w (kp ⟨ρ,lk L,G,w,[]⟩ K):=by
 have⟨c,hb⟩:=isSome_iff_exists.1 hb
 have pa:vs.length=aP.length:=by
  have:∀{aP:List AV} {vs:List Value},bL ρ (lk L) (aV ρ (lk L) G) w aP vs->vs.length=aP.length:=by
   intro aP
   induction aP with
   |nil=>intro vs h;rw[a8.1 h];rfl
   |cons a aP ih=>intro vs h;obtain⟨v,rest,rfl,_,h2⟩:=aD.1 h;simp[ih h2]
  exact this hd
 refine jq (R:=kp ⟨ρ,lk L,G,w,[]⟩ K) hf hb ?_;have:=(h ⟨ρ,lk L,G,w,[]⟩ rfl hz).goes rfl rfl (ρ:=ρ) (a:={tmps:=vs.toArray++Array.replicate (fn.ntmps - vs.toArray.size) undef,defers:=[]}) (w:=w);simp only[start,hb,getD_some]at this;refine this ⟨hs, ?_,λt=> ?_,rfl,Step.refl _ _ _ _,⟨rfl,rfl,rfl,λ_ _ _=>rfl⟩,λx hx=>by cases hx⟩;simp[pa]
 have e1:∀(aP:List AV) (vs:List Value),bL ρ (lk L) (aV ρ (lk L) G) w aP vs->∀t,af ρ (lk L) (aV ρ (lk L) G) w (aP.getD t (.bq [])) (vs.getD t undef):=by
  intro aP
  induction aP with
  |nil=>intro vs h t;rw[a8.1 h];simp only[List.getD,List.getElem?_nil,Option.getD_none];exact cz
  |cons a aP ih=>
   intro vs h t;obtain⟨v,rest,rfl,h1,h2⟩:=aD.1 h;cases t with
   |zero=>simpa using h1|succ t=>simpa using ih rest h2 t
 have h1:=e1 _ _ hd t;simp only[List.getD_eq_getElem?_getD,List.getElem?_append,List.getElem?_replicate,getD_eq_getD_getElem?,Array.getElem?_append,List.getElem?_toArray,Array.getElem?_replicate,List.size_toArray]at h1 ⊢;rw[pa];split;rename_i ht;have hv:vs[t]? =some vs[t]:=getElem?_eq_getElem (by omega);have ha:aP[t]? =some aP[t]:=getElem?_eq_getElem ht;rw[hv,ha]at h1 ⊢;exact h1;split;exact cz;unfold af;trivial
def zM{X:Type}(S:Spec X)(x:X)(L:List ak)(r:AV):Prop:=
 ∃(N:Norm) (vs os:List AV),r=.bq vs/\(S.heap x).length<=N.m/\N.run ⟨vs,L,[],{}⟩=some ⟨os,S.dN x,[],{}⟩/\∀(ρ:Nat->Value) (H:aS) (O:Nat->Prop) (w:World) (us:List Value),bL ρ H O w os us->af ρ H O w (S.out x) (.tuple us.toArray)
theorem aiD:∀{os:List AV} {us:List Value},os.length=us.length->(∀t,af ρ H O w (os.getD t (.s .aY)) (us.getD t undef))->bL ρ H O w os us
 |[],[],_,_=>by unfold bL;rfl
 |[],_::_,h,_=>by simp at h
 |_::_,[],h,_=>by simp at h
 |a::os,u::us,hl,h=>aD.2 ⟨u,us,rfl,h 0,aiD (by simpa using hl) λt=>h (t+1)⟩
theorem gm{f:FuncId}{fn:Func}(hf:P.funcs[f]? =some fn)(hb:fn.body.isSome=true)(hn:∀x,(S.args x).length<=fn.ntmps)
 (h:∀x,bJ (S.pre x)->∀X:Ctx,X.H=lk (S.heap x)->dZ Z X->Safe P f X (zM S x) (start fn (S.args x) (S.heap x))):fI P Z f S:=by
 intro x mK ρ G w vs hz hs hd;refine(zL hf hb (hn x) (h x mK) ρ G w vs hz hs hd).mono ?_;rintro e w' ⟨v,rfl,L,r,⟨N,ts,os,rfl,hm,hN,hwk⟩,jG,g1,g2,g3,g4⟩;refine⟨v,rfl, ?_⟩;unfold af at g2;obtain⟨us,rfl,g2⟩:=g2
 have bB:us.length=ts.length:=by
  have:∀{aP:List AV} {vs:List Value},bL jG (λid=>L[id]?) (aV jG (λid=>L[id]?) G) w' aP vs->vs.length=aP.length:=by
   intro aP
   induction aP with
   |nil=>intro vs h;rw[a8.1 h];rfl
   |cons a aP ih=>intro vs h;obtain⟨v,rest,rfl,_,h2⟩:=aD.1 h;simp[ih h2]
  exact this g2
 have r0:cg ⟨ρ,lk (S.heap x),G,w,[]⟩ jG ⟨ts,L⟩ {tmps:=us.toArray,defers:=[]} w':=by
  refine⟨g1,by simp[bB],λt=> ?_,rfl,g3,g4,λx hx=>by cases hx⟩;clear bB hN;have g2':bL jG (St.look ⟨ts,L⟩) (aV jG (St.look ⟨ts,L⟩) G) w' ts us:=g2;show af jG (St.look ⟨ts,L⟩) (aV jG (St.look ⟨ts,L⟩) G) w' (ts.getD t (.s .aY)) (us.toArray.getD t undef);generalize St.look ⟨ts,L⟩=H1 at g2' ⊢;clear g2 hwk
  induction ts generalizing us t with
  |nil=>simp only[List.getD,List.getElem?_nil,Option.getD_none];unfold af;trivial|cons a ts ih=>
   obtain⟨u,rest,rfl,k1,k2⟩:=aD.1 g2';cases t with
   |zero=>simpa using k1|succ t=>simpa[getD_eq_getD_getElem?]using ih _ t k2
 have h0:∀id,N.m<=id->(⟨ρ,lk (S.heap x),G,w,[]⟩:Ctx).H id=none:=λid dq=>by simp[lk];omega
 have fin:∃ρ4,cg ⟨ρ,lk (S.heap x),G,w,[]⟩ ρ4 ⟨os,S.dN x⟩ {tmps:=us.toArray,defers:=[]} w':=by
  unfold Norm.run at hN;split at hN;rename_i t1 L1 h1;simp only[]at hN;split at hN;rename_i t2 L2 h2;simp only[Option.some.injEq,bP.mk.injEq,and_true]at hN;obtain⟨rfl,rfl⟩:=hN;have⟨jG,r1⟩:=cg.gi h0 h1 (cg.eR N.keep r0);have⟨gw,r2⟩:=cg.gF N.qI r1;have⟨ρ3,r3⟩:=cg.gG N.cells r2;have⟨ρ4,r4⟩:=cg.gi h0 h2 r3;exact⟨ρ4,r4⟩;cases hN;cases hN
 have⟨ρ4,r4⟩:=fin;refine⟨ρ4,r4.sat,hwk _ _ _ _ _ (aiD ?_ λt=> ?_),r4.ao,r4.jF⟩;have:=r4.size;simpa using this;have:=r4.den t;have e:(us.toArray.getD t undef)=us.getD t undef:=by simp[getD_eq_getD_getElem?,List.getD_eq_getElem?_getD]
 rw[<-e];exact this
theorem lO{S:Spec X}{x:X}{L:List ak}{vs os:List AV}{h:List ak}(N:Norm)(e:N.run ⟨vs,L,[],{}⟩=some ⟨os,h,[],{}⟩)(hm:(S.heap x).length<=N.m){os':List AV}(hw:qE os os')(ho:S.out x=.bq os')(hh:S.dN x=h):zM S x L (.bq vs):=
 ⟨N,vs,os,rfl,hm,by rw[hh];exact e,λρ H O w us hd=>by rw[ho];unfold af;exact⟨us,rfl,hw.den hd⟩⟩
theorem qE.same:∀(os:List AV),qE os os
 |[]=>.nil|a::os=>.cons (.one (.refl a)) (qE.same os)
end
end Go.Sx
namespace Ts
open Go Go.Sx Go.Proofs Lf
def mT:List AV->RM (XT×List Nat)
 |[.ptr id 0]=>.look id λo=>match o with
  |some (.aq [.ptr d 0,rt,.ah .u64 16 fr,.ah .u64 16 fs,.ah .u64 16 gn] _)=>(Ds.sG [.ptr d 0]).bind λ((th,m,fu),σ)=>match rt.cC with
   |some (_,_,aa)=>.ret ((th,m,fu,aa,fr,fs,gn),id::σ)|none=>.fail ""
  |_=>.fail ""
 |_=>.fail ""
def avz:AV->Option (Bool×List En×List Br)
 |.agg [l,.s (.ro (.au [.str,.str] es)),.s (.ro (.au [.str,.int .i64] bs))]=>match l.fM with
  |some (_,b)=>some (b,es,bs)|none=>none
 |_=>none
def mTN:List AV->RM ((XT×Bool×List En×List Br)×List Nat)
 |[t,x]=>(mT [t]).bind λ(X,σ)=>match avz x with
  |some (l,es,bs)=>.ret ((X,l,es,bs),σ)|none=>.fail ""
 |_=>.fail ""
abbrev atd(s:Nat->List AV->RM bQ):=anK 1 (acq 1 [(1,.au cE []),(2,.au cB [])] s)
abbrev avA:=atd (bY axR mTN)
abbrev azW:=sumOf [fo] [fo,fo,bI] (λ((_,es,bs,()),())=>[bx es,bz bs]) (λ((l,es,bs,()),())=>((b8 l es bs,bu l es bs,bA l es bs,()),(b8 l es bs,dj l es bs,dw l es bs,()),spC l es bs,()))
def ate:aK:=[(94,ata),(95,asW),(96,avA),(97,azW)]
abbrev acr(l:Bool)(es:List En)(bs:List Br):Prop:=(l=true->bs=[])/\(l=false->es=[])
abbrev sWs:Spec (XT×Bool×List En×List Br):=⟨λ(_,l,es,bs)=>[.ptr 0 0,avN l es bs],λ((th,m,fu,aa,fr,fs,gn),_)=>hT th m fu aa fr fs gn,
 λ((th,m,fu,_,fr,_,_),l,es,bs)=>[Ds.bm th m fu,Bx.okW fr,acr l es bs,bx es,bz bs],
 λ((th,m,fu,aa,fr,fs,gn),l,es,bs)=>hT th (bH th m fu fr fs l es bs).1 (bH th m fu fr fs l es bs).2.1 aa (bH th m fu fr fs l es bs).2.2.1 (bH th m fu fr fs l es bs).2.2.2.1 gn++[.vec (.au cB (bH th m fu fr fs l es bs).2.2.2.2.1) Lf.eB],
 λ((th,m,fu,_,fr,fs,_),l,es,bs)=>.bq [.vec 4,aM (bH th m fu fr fs l es bs).2.2.2.2.2]⟩
theorem azX(th:Th)(m:As)(fu aa:Int)(fr fs gn:Ws)(l:Bool)(es:List En)(bs:List Br):run P ate.sum f78 [] (start f78 [.ptr 0 0,avN l es bs] (hT th m fu aa fr fs gn))=
 Tree.ab (aA ((↑es.length:Int)+(↑bs.length:Int)))
 (.ite ((↑es.length:Int)+(↑bs.length:Int)==0) (.ret (hT th m fu aa fr fs gn++[.aq [.s (.bool l),.s (.ro (.au cE es)),.s (.ro (.au cB bs))] 100]) (.bq [.emp,.s (.aR .i64 0)]))
   (.ab (bs.length<=1000)
     (.ab (bx es)
       (.ab (bz (ae bs))
         (.ite (decide (bC es (ae bs)<=254)) (.ab (bp (some [AV.ptr 0 0,.agg [.s (.bool l),.s (.ro (.au cE es)),.s (.ro (.au cB (ae bs)))]])) (.ab (bp (some (hT th m fu aa fr fs gn))) (.ab (Ds.bm th m fu) (.ab (Bx.okW fr) (.ab ((l=true->(0:Nat)<es.length)/\(l=false->(0:Nat)<(ae bs).length)) (.ab (bx es) (.ab (bz (ae bs)) (.ret (hT th (bW th m fu fr fs l es (ae bs)).fst (bW th m fu fr fs l es (ae bs)).snd.fst aa (bW th m fu fr fs l es (ae bs)).snd.snd.fst (bW th m fu fr fs l es (ae bs)).snd.snd.snd.fst gn++[.aq [.s (.bool l),.s (.ro (.au cE es)),.s (.ro (.au cB (ae bs)))] 100,.aq [.s (.str (bW th m fu fr fs l es (ae bs)).snd.snd.snd.snd.fst.fst),aM ((bW th m fu fr fs l es (ae bs)).snd.snd.snd.snd.fst.snd.fst)] 116,.vec (.au cB [((bW th m fu fr fs l es (ae bs)).snd.snd.snd.snd.fst.fst,(bW th m fu fr fs l es (ae bs)).snd.snd.snd.snd.fst.snd.fst,())]) 116]) (.bq [.vec 6,aM ((bW th m fu fr fs l es (ae bs)).snd.snd.snd.snd.snd)])))))))))
           (.ab (bx es)
             (.ab (bz (ae bs))
               (.ite (spC l es (ae bs) !=0) (.ret (hT th m fu aa fr fs gn++[.aq [.s (.bool l),.s (.ro (.au cE es)),.s (.ro (.au cB (ae bs)))] 100,.vec (.au cE (bu l es (ae bs))) 76,.vec (.au cB (bA l es (ae bs))) 116,.vec (.au cE (dj l es (ae bs))) 76,.vec (.au cB (dw l es (ae bs))) 116,.aq [.s (.bool (b8 l es (ae bs))),.vec 5,.vec 6] 100,.aq [.s (.bool (b8 l es (ae bs))),.vec 7,.vec 8] 100]) (.bq [.emp,aM (spC l es (ae bs))]))
                 (.ab (bp (some [AV.ptr 0 0,.agg [.s (.bool (b8 l es (ae bs))),.s (.ro (.au cE (bu l es (ae bs)))),.s (.ro (.au cB (bA l es (ae bs))))]]))
                   (.ab (bp (some (hT th m fu aa fr fs gn)))
                     (.ab (Ds.bm th m fu)
                       (.ab (Bx.okW fr)
                         (.ab ((b8 l es (ae bs)=true->(0:Nat)<(bu l es (ae bs)).length)/\(b8 l es (ae bs)=false->(0:Nat)<(bA l es (ae bs)).length))
                           (.ab (bx (bu l es (ae bs)))
                             (.ab (bz (bA l es (ae bs)))
                               (.ite ((bW th m fu fr fs (b8 l es (ae bs)) (bu l es (ae bs)) (bA l es (ae bs))).snd.snd.snd.snd.snd !=0) (.ret (hT th (bW th m fu fr fs (b8 l es (ae bs)) (bu l es (ae bs)) (bA l es (ae bs))).fst (bW th m fu fr fs (b8 l es (ae bs)) (bu l es (ae bs)) (bA l es (ae bs))).snd.fst aa (bW th m fu fr fs (b8 l es (ae bs)) (bu l es (ae bs)) (bA l es (ae bs))).snd.snd.fst (bW th m fu fr fs (b8 l es (ae bs)) (bu l es (ae bs)) (bA l es (ae bs))).snd.snd.snd.fst gn++[.aq [.s (.bool l),.s (.ro (.au cE es)),.s (.ro (.au cB (ae bs)))] 100,.aw,.aw,.vec (.au cE (dj l es (ae bs))) 76,.vec (.au cB (dw l es (ae bs))) 116,.aq [.s (.bool (b8 l es (ae bs))),.vec 5,.vec 6] 100,.aq [.s (.bool (b8 l es (ae bs))),.vec 7,.vec 8] 100,.aq [.s (.str (bW th m fu fr fs (b8 l es (ae bs)) (bu l es (ae bs)) (bA l es (ae bs))).snd.snd.snd.snd.fst.fst),aM ((bW th m fu fr fs (b8 l es (ae bs)) (bu l es (ae bs)) (bA l es (ae bs))).snd.snd.snd.snd.fst.snd.fst)] 116]) (.bq [.emp,aM ((bW th m fu fr fs (b8 l es (ae bs)) (bu l es (ae bs)) (bA l es (ae bs))).snd.snd.snd.snd.snd)]))
                                 (.ab (bp (some [AV.ptr 0 0,.agg [.s (.bool (b8 l es (ae bs))),.s (.ro (.au cE (dj l es (ae bs)))),.s (.ro (.au cB (dw l es (ae bs))))]]))
                                   (.ab (bp (some (hT th (bW th m fu fr fs (b8 l es (ae bs)) (bu l es (ae bs)) (bA l es (ae bs))).fst (bW th m fu fr fs (b8 l es (ae bs)) (bu l es (ae bs)) (bA l es (ae bs))).snd.fst aa (bW th m fu fr fs (b8 l es (ae bs)) (bu l es (ae bs)) (bA l es (ae bs))).snd.snd.fst (bW th m fu fr fs (b8 l es (ae bs)) (bu l es (ae bs)) (bA l es (ae bs))).snd.snd.snd.fst gn)))
                                     (.ab (Ds.bm th (bW th m fu fr fs (b8 l es (ae bs)) (bu l es (ae bs)) (bA l es (ae bs))).fst (bW th m fu fr fs (b8 l es (ae bs)) (bu l es (ae bs)) (bA l es (ae bs))).snd.fst)
                                       (.ab (Bx.okW (bW th m fu fr fs (b8 l es (ae bs)) (bu l es (ae bs)) (bA l es (ae bs))).snd.snd.fst)
                                         (.ab ((b8 l es (ae bs)=true->(0:Nat)<(dj l es (ae bs)).length)/\(b8 l es (ae bs)=false->(0:Nat)<(dw l es (ae bs)).length))
                                           (.ab (bx (dj l es (ae bs)))
                                             (.ab (bz (dw l es (ae bs)))
                                               (.ret
                                                 (hT th (bW th (bW th m fu fr fs (b8 l es (ae bs)) (bu l es (ae bs)) (bA l es (ae bs))).fst (bW th m fu fr fs (b8 l es (ae bs)) (bu l es (ae bs)) (bA l es (ae bs))).snd.fst (bW th m fu fr fs (b8 l es (ae bs)) (bu l es (ae bs)) (bA l es (ae bs))).snd.snd.fst (bW th m fu fr fs (b8 l es (ae bs)) (bu l es (ae bs)) (bA l es (ae bs))).snd.snd.snd.fst (b8 l es (ae bs)) (dj l es (ae bs)) (dw l es (ae bs))).fst (bW th (bW th m fu fr fs (b8 l es (ae bs)) (bu l es (ae bs)) (bA l es (ae bs))).fst (bW th m fu fr fs (b8 l es (ae bs)) (bu l es (ae bs)) (bA l es (ae bs))).snd.fst (bW th m fu fr fs (b8 l es (ae bs)) (bu l es (ae bs)) (bA l es (ae bs))).snd.snd.fst (bW th m fu fr fs (b8 l es (ae bs)) (bu l es (ae bs)) (bA l es (ae bs))).snd.snd.snd.fst (b8 l es (ae bs)) (dj l es (ae bs)) (dw l es (ae bs))).snd.fst aa (bW th (bW th m fu fr fs (b8 l es (ae bs)) (bu l es (ae bs)) (bA l es (ae bs))).fst (bW th m fu fr fs (b8 l es (ae bs)) (bu l es (ae bs)) (bA l es (ae bs))).snd.fst (bW th m fu fr fs (b8 l es (ae bs)) (bu l es (ae bs)) (bA l es (ae bs))).snd.snd.fst (bW th m fu fr fs (b8 l es (ae bs)) (bu l es (ae bs)) (bA l es (ae bs))).snd.snd.snd.fst (b8 l es (ae bs)) (dj l es (ae bs)) (dw l es (ae bs))).snd.snd.fst (bW th (bW th m fu fr fs (b8 l es (ae bs)) (bu l es (ae bs)) (bA l es (ae bs))).fst (bW th m fu fr fs (b8 l es (ae bs)) (bu l es (ae bs)) (bA l es (ae bs))).snd.fst (bW th m fu fr fs (b8 l es (ae bs)) (bu l es (ae bs)) (bA l es (ae bs))).snd.snd.fst (bW th m fu fr fs (b8 l es (ae bs)) (bu l es (ae bs)) (bA l es (ae bs))).snd.snd.snd.fst (b8 l es (ae bs)) (dj l es (ae bs)) (dw l es (ae bs))).snd.snd.snd.fst gn++
                                                   [.aq [.s (.bool l),.s (.ro (.au cE es)),.s (.ro (.au cB (ae bs)))] 100,.aw,.aw,.aw,.aw,.aq [.s (.bool (b8 l es (ae bs))),.vec 5,.vec 6] 100,.aq [.s (.bool (b8 l es (ae bs))),.vec 7,.vec 8] 100,.aq [.s (.str (bW th m fu fr fs (b8 l es (ae bs)) (bu l es (ae bs)) (bA l es (ae bs))).snd.snd.snd.snd.fst.fst),aM ((bW th m fu fr fs (b8 l es (ae bs)) (bu l es (ae bs)) (bA l es (ae bs))).snd.snd.snd.snd.fst.snd.fst)] 116,.aq [.s (.str (bW th (bW th m fu fr fs (b8 l es (ae bs)) (bu l es (ae bs)) (bA l es (ae bs))).fst (bW th m fu fr fs (b8 l es (ae bs)) (bu l es (ae bs)) (bA l es (ae bs))).snd.fst (bW th m fu fr fs (b8 l es (ae bs)) (bu l es (ae bs)) (bA l es (ae bs))).snd.snd.fst (bW th m fu fr fs (b8 l es (ae bs)) (bu l es (ae bs)) (bA l es (ae bs))).snd.snd.snd.fst (b8 l es (ae bs)) (dj l es (ae bs)) (dw l es (ae bs))).snd.snd.snd.snd.fst.fst),aM ((bW th (bW th m fu fr fs (b8 l es (ae bs)) (bu l es (ae bs)) (bA l es (ae bs))).fst (bW th m fu fr fs (b8 l es (ae bs)) (bu l es (ae bs)) (bA l es (ae bs))).snd.fst (bW th m fu fr fs (b8 l es (ae bs)) (bu l es (ae bs)) (bA l es (ae bs))).snd.snd.fst (bW th m fu fr fs (b8 l es (ae bs)) (bu l es (ae bs)) (bA l es (ae bs))).snd.snd.snd.fst (b8 l es (ae bs)) (dj l es (ae bs)) (dw l es (ae bs))).snd.snd.snd.snd.fst.snd.fst)] 116,.vec (.au cB [((bW th m fu fr fs (b8 l es (ae bs)) (bu l es (ae bs)) (bA l es (ae bs))).snd.snd.snd.snd.fst.fst,(bW th m fu fr fs (b8 l es (ae bs)) (bu l es (ae bs)) (bA l es (ae bs))).snd.snd.snd.snd.fst.snd.fst,()),((bW th (bW th m fu fr fs (b8 l es (ae bs)) (bu l es (ae bs)) (bA l es (ae bs))).fst (bW th m fu fr fs (b8 l es (ae bs)) (bu l es (ae bs)) (bA l es (ae bs))).snd.fst (bW th m fu fr fs (b8 l es (ae bs)) (bu l es (ae bs)) (bA l es (ae bs))).snd.snd.fst (bW th m fu fr fs (b8 l es (ae bs)) (bu l es (ae bs)) (bA l es (ae bs))).snd.snd.snd.fst (b8 l es (ae bs)) (dj l es (ae bs)) (dw l es (ae bs))).snd.snd.snd.snd.fst.fst,(bW th (bW th m fu fr fs (b8 l es (ae bs)) (bu l es (ae bs)) (bA l es (ae bs))).fst (bW th m fu fr fs (b8 l es (ae bs)) (bu l es (ae bs)) (bA l es (ae bs))).snd.fst (bW th m fu fr fs (b8 l es (ae bs)) (bu l es (ae bs)) (bA l es (ae bs))).snd.snd.fst (bW th m fu fr fs (b8 l es (ae bs)) (bu l es (ae bs)) (bA l es (ae bs))).snd.snd.snd.fst (b8 l es (ae bs)) (dj l es (ae bs)) (dw l es (ae bs))).snd.snd.snd.snd.fst.snd.fst,())]) 116])
                                                 (.bq [.vec 13,aM ((bW th (bW th m fu fr fs (b8 l es (ae bs)) (bu l es (ae bs)) (bA l es (ae bs))).fst (bW th m fu fr fs (b8 l es (ae bs)) (bu l es (ae bs)) (bA l es (ae bs))).snd.fst (bW th m fu fr fs (b8 l es (ae bs)) (bu l es (ae bs)) (bA l es (ae bs))).snd.snd.fst (bW th m fu fr fs (b8 l es (ae bs)) (bu l es (ae bs)) (bA l es (ae bs))).snd.snd.snd.fst (b8 l es (ae bs)) (dj l es (ae bs)) (dw l es (ae bs))).snd.snd.snd.snd.snd)]))))))))))))))))))))))))):=by kernel_rfl
theorem acs{th:Th}{m:As}{fu:Int}{fr fs:Ws}{l:Bool}{es:List En}{bs:List Br}(hd:Ds.bm th m fu)(hf:Bx.okW fr):Ds.bm th (bW th m fu fr fs l es bs).1 (bW th m fu fr fs l es bs).2.1/\Bx.okW (bW th m fu fr fs l es bs).2.2.1:=by
 have gd:=Ds.asQ (n:=Bx.bK fr 0) (s:=encS l es (ae bs)) hd;unfold bW;split;exact⟨hd,hf⟩;split;exact⟨hd,hf⟩;split;exact⟨gd,hf⟩;exact⟨gd,(Bx.lZ hf _).1⟩
theorem aaQ(bs:List Br):(ae bs).length=bs.length:=by cases bs<;>rfl
theorem aq0{l:Bool}{es:List En}{bs:List Br}(ok:dW l es bs=true):(b8 l es bs=true->0<(bu l es bs).length/\0<(dj l es bs).length)/\(b8 l es bs=false->0<(bA l es bs).length/\0<(dw l es bs).length):=by
 have ok':=ok;simp only[dW,and_eq_true,decide_eq_true_eq]at ok';have⟨hm,h2⟩:=ok';have⟨m1,m2,_,_⟩:=ew hm;have b1:=pw (aT es bs) (es.length+bs.length - 1) (by omega);have b2:=pX (aT es bs) (es.length+bs.length - 1);have c:0<eI es bs/\eI es bs<=es.length+bs.length - 1:=⟨b1,b2⟩;simp only[b8,bu,dj,bA,dw,ok,if_true,Bool.true_and,length_take,length_drop];refine⟨λe=> ?_,λe=> ?_⟩;have:=m1 e;subst this;simp only[length_nil]at *;omega;have:=m2 e;subst this;simp only[length_nil]at *;omega
theorem anL:ate.Ok P Bx.bO:=aK.Ok.cons aiy.xR (aK.Ok.cons aia.sum (aK.Ok.cons (jj (gT (yc.sum mTN) 1 _) 1) (aK.Ok.cons am9.sum aK.Ok.nil)))
theorem kI:fI P Bx.bO 78 sWs:=by
 refine gm func78 (by kernel_rfl) (λx=>le_of_ble_eq_true (by kernel_rfl)) ?_;rintro⟨⟨th,m,fu,aa,fr,fs,gn⟩,l,es,bs⟩ ⟨(hd:Ds.bm th m fu),(hf:Bx.okW fr),⟨(hl1:l=true->bs=[]),(hl2:l=false->es=[])⟩,(he:bx es),(hb:bz bs),_⟩ X hX hz;have fin:∀{w:Wrs},bH th m fu fr fs l es bs=w->hT th (bH th m fu fr fs l es bs).1 (bH th m fu fr fs l es bs).2.1 aa (bH th m fu fr fs l es bs).2.2.1 (bH th m fu fr fs l es bs).2.2.2.1 gn++[.vec (.au cB (bH th m fu fr fs l es bs).2.2.2.2.1) Lf.eB]=hT th w.1 w.2.1 aa w.2.2.1 w.2.2.2.1 gn++[.vec (.au cB w.2.2.2.2.1) Lf.eB]/\
  AV.bq [.vec 4,aM (bH th m fu fr fs l es bs).2.2.2.2.2]=.bq [.vec 4,aM w.2.2.2.2.2]:=λe=>by rw[e];exact⟨rfl,rfl⟩
 have hbb:=vJ hb;refine Ds.cF hz hX (by intro y hy;cases hy) anL func78 (azX th m fu aa fr fs gn l es bs) ⟨?_,λh=> ?_,λh=>⟨hb.1,he,hbb,λh2=>⟨rfl,rfl,hd,hf, ?_,he,hbb, ?_⟩,λh2=>⟨he,hbb,λh3=> ?_,λh3=> ?_⟩⟩⟩;have:=he.1;have:=hb.1;exact⟨by omega,by omega⟩;have h:(es.length:Int)+bs.length=0:=by simpa using h
 have⟨f1,f2⟩:=fin (w:=(m,fu,fr,fs,[],0)) (by unfold bH;rw[if_pos (by omega)]);exact lO ⟨[(0,.au cB [],Lf.eB)],[0,1],4,[]⟩ rfl (le_refl _) (qE.same _) f2 f1;have h:¬((es.length:Int)+bs.length=0):=by simpa using h
 rw[aaQ];refine⟨λe=>Nat.pos_of_ne_zero λh0=>h ?_,λe=>Nat.pos_of_ne_zero λh0=>h ?_⟩;rw[hl1 e,h0];rfl;rw[hl2 e,h0];rfl;have h:¬((es.length:Int)+bs.length=0):=by simpa using h
 have h2:=of_decide_eq_true h2;have⟨f1,f2⟩:=fin (w:=((bW th m fu fr fs l es (ae bs)).1,(bW th m fu fr fs l es (ae bs)).2.1,(bW th m fu fr fs l es (ae bs)).2.2.1,(bW th m fu fr fs l es (ae bs)).2.2.2.1,[(bW th m fu fr fs l es (ae bs)).2.2.2.2.1],(bW th m fu fr fs l es (ae bs)).2.2.2.2.2)) (by unfold bH;rw[if_neg (by omega),if_pos h2]);exact lO ⟨[],[0,1],4,[]⟩ rfl (le_refl _) (qE.same _) f2 f1;have h:¬((es.length:Int)+bs.length=0):=by simpa using h
 have h2:=of_decide_eq_false h2;have h3:spC l es (ae bs)≠0:=by simpa using h3
 have⟨f1,f2⟩:=fin (w:=(m,fu,fr,fs,[],spC l es (ae bs))) (by unfold bH;rw[if_neg (by omega),if_neg h2,if_pos h3]);exact lO ⟨[(0,.au cB [],Lf.eB)],[0,1],4,[]⟩ rfl (le_refl _) (qE.same _) f2 f1;have h:¬((es.length:Int)+bs.length=0):=by simpa using h
 have h2:=of_decide_eq_false h2;have h3:spC l es (ae bs)=0:=by simpa using h3
 have ok:=avw (l:=l) (es:=es) (bs:=ae bs) (by rw[h3];rfl);have⟨q1,q2,q3,q4,_,_,_,q5,q6,_,_⟩:=uI ok he hbb
 have hmn:dD l es (ae bs)=true:=by
  simp only[dW,and_eq_true]at ok;exact ok.1
 have hsp:b8 l es (ae bs)=l:=by unfold b8;rw[ok,Bool.true_and]
 have⟨p1,p2⟩:=aq0 ok;have n1:(b8 l es (ae bs)=true->0<(bu l es (ae bs)).length)/\(b8 l es (ae bs)=false->0<(bA l es (ae bs)).length):=⟨λe=>(p1 e).1,λe=>(p2 e).1⟩;have n2:(b8 l es (ae bs)=true->0<(dj l es (ae bs)).length)/\(b8 l es (ae bs)=false->0<(dw l es (ae bs)).length):=⟨λe=>(p1 e).2,λe=>(p2 e).2⟩;have⟨w1,w2⟩:=acs (fs:=fs) (l:=b8 l es (ae bs)) (es:=bu l es (ae bs)) (bs:=bA l es (ae bs)) hd hf;refine⟨rfl,rfl,hd,hf,n1,q1,q2,λh4=> ?_,λh4=>⟨rfl,rfl,w1,w2,n2,q3,q4, ?_⟩⟩;have h4:(bW th m fu fr fs (b8 l es (ae bs)) (bu l es (ae bs)) (bA l es (ae bs))).2.2.2.2.2≠0:=by simpa using h4
 have⟨f1,f2⟩:=fin (w:=((bW th m fu fr fs (b8 l es (ae bs)) (bu l es (ae bs)) (bA l es (ae bs))).1,(bW th m fu fr fs (b8 l es (ae bs)) (bu l es (ae bs)) (bA l es (ae bs))).2.1,(bW th m fu fr fs (b8 l es (ae bs)) (bu l es (ae bs)) (bA l es (ae bs))).2.2.1,(bW th m fu fr fs (b8 l es (ae bs)) (bu l es (ae bs)) (bA l es (ae bs))).2.2.2.1,[],(bW th m fu fr fs (b8 l es (ae bs)) (bu l es (ae bs)) (bA l es (ae bs))).2.2.2.2.2)) (by unfold bH;rw[if_neg (by omega),if_neg h2,if_neg (by rw[h3];simp),if_pos h4]);exact lO ⟨[(0,.au cB [],Lf.eB)],[0,1],4,[]⟩ rfl (le_refl _) (qE.same _) f2 f1;have h4:¬(bW th m fu fr fs (b8 l es (ae bs)) (bu l es (ae bs)) (bA l es (ae bs))).2.2.2.2.2≠0:=by simpa using h4
 have⟨f1,f2⟩:=fin (w:=two (bW th m fu fr fs (b8 l es (ae bs)) (bu l es (ae bs)) (bA l es (ae bs))) (bW th (bW th m fu fr fs (b8 l es (ae bs)) (bu l es (ae bs)) (bA l es (ae bs))).1 (bW th m fu fr fs (b8 l es (ae bs)) (bu l es (ae bs)) (bA l es (ae bs))).2.1 (bW th m fu fr fs (b8 l es (ae bs)) (bu l es (ae bs)) (bA l es (ae bs))).2.2.1 (bW th m fu fr fs (b8 l es (ae bs)) (bu l es (ae bs)) (bA l es (ae bs))).2.2.2.1 (b8 l es (ae bs)) (dj l es (ae bs)) (dw l es (ae bs)))) (by unfold bH;rw[if_neg (by omega),if_neg h2,if_neg (by rw[h3];simp),if_neg h4]);exact lO ⟨[],[0,1],4,[]⟩ rfl (le_refl _) (qE.same _) f2 f1
abbrev XC:Type:=XT×Int×Int×ByteArray×ByteArray
abbrev fP1:FuncId:=57
abbrev fD1:FuncId:=72
abbrev vW(s:ByteArray):ak:=.aq [.s (.str s)] 9
abbrev lz(th:Th)(m:As)(fu aa:Int)(fr fs gn:Ws)(key val:ByteArray):List ak:=hT th m fu aa fr fs gn++[vW key,vW val]
abbrev jK(th:Th)(m:As)(fu aa:Int)(fr fs gn:Ws)(key:ByteArray):List ak:=hT th m fu aa fr fs gn++[vW key]
def atf(f:Nat)(th:Th)(m:As)(fu:Int)(fr:Ws)(n ad:Int)(key val:ByteArray):List Prop:=[Ds.bm th m fu,Bx.okW fr,0<=n/\n<=65536,1<=ad/\ad<=17,18<=ad+(f:Int),1<=key.size/\key.size<=24,val.size<=100]
def rp(th:Th)(key:ByteArray)(op:Option ByteArray)(f:Nat)(m:As)(fu:Int)(fr fs gn:Ws)(n ad:Int):As:=(yF th key op f m fu fr fs gn n ad).1
def rq(th:Th)(key:ByteArray)(op:Option ByteArray)(f:Nat)(m:As)(fu:Int)(fr fs gn:Ws)(n ad:Int):Int:=(yF th key op f m fu fr fs gn n ad).2.1
def rr(th:Th)(key:ByteArray)(op:Option ByteArray)(f:Nat)(m:As)(fu:Int)(fr fs gn:Ws)(n ad:Int):Ws:=(yF th key op f m fu fr fs gn n ad).2.2.1
def ta(th:Th)(key:ByteArray)(op:Option ByteArray)(f:Nat)(m:As)(fu:Int)(fr fs gn:Ws)(n ad:Int):Ws:=(yF th key op f m fu fr fs gn n ad).2.2.2.1
def uJ(th:Th)(key:ByteArray)(op:Option ByteArray)(f:Nat)(m:As)(fu:Int)(fr fs gn:Ws)(n ad:Int):Ws:=(yF th key op f m fu fr fs gn n ad).2.2.2.2.1
def vX(th:Th)(key:ByteArray)(op:Option ByteArray)(f:Nat)(m:As)(fu:Int)(fr fs gn:Ws)(n ad:Int):List Br:=(yF th key op f m fu fr fs gn n ad).2.2.2.2.2.1
def uK(th:Th)(key:ByteArray)(op:Option ByteArray)(f:Nat)(m:As)(fu:Int)(fr fs gn:Ws)(n ad:Int):Int:=(yF th key op f m fu fr fs gn n ad).2.2.2.2.2.2
abbrev zN(f:Nat):Spec XC:=⟨λ(_,n,ad,key,_)=>[.ptr 0 0,aM n,aM ad,.s (.str key),.fn fP1 [.ptr 4 0,.ptr 5 0]],λ((th,m,fu,aa,fr,fs,gn),_,_,key,val)=>lz th m fu aa fr fs gn key val,
 λ((th,m,fu,_,fr,_,_),n,ad,key,val)=>atf f th m fu fr n ad key val,
 λ((th,m,fu,aa,fr,fs,gn),n,ad,key,val)=>lz th (rp th key (some val) f m fu fr fs gn n ad) (rq th key (some val) f m fu fr fs gn n ad) aa (rr th key (some val) f m fu fr fs gn n ad) (ta th key (some val) f m fu fr fs gn n ad) (uJ th key (some val) f m fu fr fs gn n ad) key val++[.vec (.au cB (vX th key (some val) f m fu fr fs gn n ad)) Lf.eB],
 λ((th,m,fu,_,fr,fs,gn),n,ad,key,val)=>.bq [.vec 6,aM (uK th key (some val) f m fu fr fs gn n ad)]⟩
abbrev zO(f:Nat):Spec XC:=⟨λ(_,n,ad,key,_)=>[.ptr 0 0,aM n,aM ad,.s (.str key),.fn fD1 [.ptr 4 0]],λ((th,m,fu,aa,fr,fs,gn),_,_,key,_)=>jK th m fu aa fr fs gn key,
 λ((th,m,fu,_,fr,_,_),n,ad,key,val)=>atf f th m fu fr n ad key val,
 λ((th,m,fu,aa,fr,fs,gn),n,ad,key,_)=>jK th (rp th key none f m fu fr fs gn n ad) (rq th key none f m fu fr fs gn n ad) aa (rr th key none f m fu fr fs gn n ad) (ta th key none f m fu fr fs gn n ad) (uJ th key none f m fu fr fs gn n ad) key++[.vec (.au cB (vX th key none f m fu fr fs gn n ad)) Lf.eB],
 λ((th,m,fu,_,fr,fs,gn),n,ad,key,_)=>.bq [.vec 5,aM (uK th key none f m fu fr fs gn n ad)]⟩
def anM(i:Nat):(ByteArray->RM (XC×List Nat))->RM (XC×List Nat):=λk=>.look i λo=>match o with
 |some (.aq [.s (.str s)] _)=>k s|_=>.fail ""
def aq1:List AV->RM (XC×List Nat)
 |[t,n,d,.s (.str _),.fn _ [.ptr i 0,.ptr j 0]]=>(mT [t]).bind λ(X,σ)=>match n.cC,d.cC with
  |some (_,_,n),some (_,_,d)=>anM i λkey=>anM j λval=>.ret ((X,n,d,key,val),σ++[i,j])|_,_=>.fail ""
 |_=>.fail ""
def aq2:List AV->RM (XC×List Nat)
 |[t,n,d,.s (.str _),.fn _ [.ptr i 0]]=>(mT [t]).bind λ(X,σ)=>match n.cC,d.cC with
  |some (_,_,n),some (_,_,d)=>anM i λkey=>.ret ((X,n,d,key,empty),σ++[i])|_,_=>.fail ""
 |_=>.fail ""
def mNo:List AV->RM ((XT×Int×Int)×List Nat)
 |[t,n,d]=>(mT [t]).bind λ(X,σ)=>match n.cC,d.cC with
  |some (_,_,n),some (_,_,d)=>.ret ((X,n,d),σ)|_,_=>.fail ""
 |_=>.fail ""
def mLv:List AV->RM ((XT×Int)×List Nat)
 |[t,n]=>(mT [t]).bind λ(X,σ)=>match n.cC with
  |some (_,_,n)=>.ret ((X,n),σ)|_=>.fail ""
 |_=>.fail ""
abbrev aaR:=bY sNo mNo
abbrev anN:=bY sLv mLv
abbrev aaS:=atd (bY sWs mTN)
abbrev atg:=xR [sP,eU,eU] [sP] (λ(l,_,_,())=>[(l:List En).length<=100000,jt (bS l)]) (λ(l,key,val,())=>(bN l key val,()))
abbrev ath:=sumOf [sP,eU] [sP,dg] (λ(l,_,())=>[(l:List En).length<=100000,jt (bS l)]) (λ(l,key,())=>(cH l key,iT l key,()))
abbrev avC:=sumOf [zH,eU] [bI] (λ(l,_,())=>[(l:List Br).length<=1000000,jt (nN l)]) (λ(l,key,())=>(bg l key,()))
def qF(f:Nat):aK:=[(61,aaR),(98,anN),(78,aaS),(58,atg),(63,avC),(120,sJ),(93,bY (zN f) aq1)]
def qG(f:Nat):aK:=[(61,aaR),(98,anN),(78,aaS),(73,ath),(63,avC),(120,sJ),(93,bY (zO f) aq2)]
abbrev eN:TypeId:=100
def agV:List (Nat×Norm):=[(5,⟨[],[0,1,4,12],6,[]⟩),(10,⟨[],[0,1,2,3,4,12],6,[]⟩),(14,⟨[],[0,1,12,13,14,15],6,[]⟩),(18,⟨[],[0,1,12,14,15],6,[]⟩)]
def axS(th:Th)(m:As)(fu aa:Int)(fr fs gn:Ws)(n:Int)(key val:ByteArray)(es:List En)(bs:List Br):bP:=
 ⟨sl 106 [(0,.ptr 0 0),(1,aM n),(4,.fn fP1 [.ptr 4 0,.ptr 5 0]),(12,.ptr 6 0)],lz th m fu aa fr fs gn key val++[obN true es bs eN],hr f93 5,{}⟩
def anO(th:Th)(m:As)(fu aa:Int)(fr fs gn:Ws)(n ad:Int)(key val:ByteArray)(l:Bool)(es:List En)(bs:List Br):bP:=
 ⟨sl 106 [(0,.ptr 0 0),(1,aM n),(2,aM ad),(3,.s (.str key)),(4,.fn fP1 [.ptr 4 0,.ptr 5 0]),(12,.ptr 6 0)],lz th m fu aa fr fs gn key val++[obN l es bs eN],hr f93 10,{}⟩
def anP(th:Th)(m:As)(fu aa:Int)(fr fs gn:Ws)(n:Int)(key val:ByteArray)(l:Bool)(es:List En)(bs:List Br)(k e:Int)(r:List Br):bP:=
 ⟨sl 106 [(0,.ptr 0 0),(1,aM n),(12,.ptr 6 0),(13,aM e),(14,aM k),(15,.vec 7)],lz th m fu aa fr fs gn key val++[obN l es bs eN,.vec (.au cB r) Lf.eB],hr f93 14,{}⟩
def aiE(th:Th)(m:As)(fu aa:Int)(fr fs gn:Ws)(n:Int)(key val:ByteArray)(l:Bool)(es:List En)(bs:List Br)(k:Int)(r:List Br):bP:=
 ⟨sl 106 [(0,.ptr 0 0),(1,aM n),(12,.ptr 6 0),(14,aM k),(15,.vec 7)],lz th m fu aa fr fs gn key val++[obN l es bs eN,.vec (.au cB r) Lf.eB],hr f93 18,{}⟩
def agW:List (Nat×Norm):=[(5,⟨[],[0,1,4,12],5,[]⟩),(10,⟨[],[0,1,2,3,4,12],5,[]⟩),(14,⟨[],[0,1,12,13,14,15],5,[]⟩),(18,⟨[],[0,1,12,14,15],5,[]⟩)]
def axT(th:Th)(m:As)(fu aa:Int)(fr fs gn:Ws)(n:Int)(key:ByteArray)(es:List En)(bs:List Br):bP:=
 ⟨sl 106 [(0,.ptr 0 0),(1,aM n),(4,.fn fD1 [.ptr 4 0]),(12,.ptr 5 0)],jK th m fu aa fr fs gn key++[obN true es bs eN],hr f93 5,{}⟩
def anQ(th:Th)(m:As)(fu aa:Int)(fr fs gn:Ws)(n ad:Int)(key:ByteArray)(l:Bool)(es:List En)(bs:List Br):bP:=
 ⟨sl 106 [(0,.ptr 0 0),(1,aM n),(2,aM ad),(3,.s (.str key)),(4,.fn fD1 [.ptr 4 0]),(12,.ptr 5 0)],jK th m fu aa fr fs gn key++[obN l es bs eN],hr f93 10,{}⟩
def anR(th:Th)(m:As)(fu aa:Int)(fr fs gn:Ws)(n:Int)(key:ByteArray)(l:Bool)(es:List En)(bs:List Br)(k e:Int)(r:List Br):bP:=
 ⟨sl 106 [(0,.ptr 0 0),(1,aM n),(12,.ptr 5 0),(13,aM e),(14,aM k),(15,.vec 6)],jK th m fu aa fr fs gn key++[obN l es bs eN,.vec (.au cB r) Lf.eB],hr f93 14,{}⟩
def aiF(th:Th)(m:As)(fu aa:Int)(fr fs gn:Ws)(n:Int)(key:ByteArray)(l:Bool)(es:List En)(bs:List Br)(k:Int)(r:List Br):bP:=
 ⟨sl 106 [(0,.ptr 0 0),(1,aM n),(12,.ptr 5 0),(14,aM k),(15,.vec 6)],jK th m fu aa fr fs gn key++[obN l es bs eN,.vec (.au cB r) Lf.eB],hr f93 18,{}⟩
theorem azY(f:Nat)(th:Th)(m:As)(fu aa:Int)(fr fs gn:Ws)(n ad:Int)(key val:ByteArray):run P (qF f).sum f93 agV (start f93 [.ptr 0 0,aM n,aM ad,.s (.str key),.fn fP1 [.ptr 4 0,.ptr 5 0]] (lz th m fu aa fr fs gn key val)) (inl:=[fP1])=
 Tree.ab (bp (some [AV.ptr 0 0,aM n,aM ad])) (.ab (bp (some (hT th m fu aa fr fs gn))) (.ab (Ds.bm th m fu) (.ab (aA n) (.ite (gy th m n ad !=0) (.ret (lz th m fu aa fr fs gn key val++[.aq [.s (.bool (lH th m n ad)),.s (.ro (.au cE (bZ th m n ad))),.s (.ro (.au cB (aX th m n ad)))] 100]) (.bq [.emp,aM (gy th m n ad)])) (.ite (lH th m n ad) (.at (.mk (sl 106 [(0,.ptr 0 0),(1,aM n),(4,.fn 57 [.ptr 4 0,.ptr 5 0]),(12,.ptr 6 0)]) (lz th m fu aa fr fs gn key val++[.aq [.s (.bool (lH th m n ad)),.s (.ro (.au cE (bZ th m n ad))),.s (.ro (.au cB (aX th m n ad)))] 100]) (hr f93 5) (.mk none false 0 [] 0))) (.at (anO th m fu aa fr fs gn n ad key val (lH th m n ad) (bZ th m n ad) (aX th m n ad)))))))):=by kernel_rfl
theorem axU(f:Nat)(th:Th)(m:As)(fu aa:Int)(fr fs gn:Ws)(n:Int)(key val:ByteArray)(es:List En)(bs:List Br):run P (qF f).sum f93 agV (axS th m fu aa fr fs gn n key val es bs) (inl:=[fP1])=
 Tree.ab (es.length<=100000) (.ab (jt (bS es)) (.ab (bp (some [AV.ptr 0 0,aM n])) (.ab (bp (some (hT th m fu aa fr fs gn))) (.ab (bp (some [AV.ptr 0 0,.agg [.s (.bool true),.s (.ro (.au cE (bN es key val))),.s (.ro (.au cB bs))]])) (.ab (bp (some (hT th m fu aa fr (jV fs n) (rj fs gn n)))) (.ab (Ds.bm th m fu) (.ab (Bx.okW fr) (.ab (acr true (bN es key val) bs) (.ab (bx (bN es key val)) (.ab (bz bs) (.ret (lz th (bH th m fu fr (jV fs n) true (bN es key val) bs).fst (bH th m fu fr (jV fs n) true (bN es key val) bs).snd.fst aa (bH th m fu fr (jV fs n) true (bN es key val) bs).snd.snd.fst (bH th m fu fr (jV fs n) true (bN es key val) bs).snd.snd.snd.fst (rj fs gn n) key val++[.aq [.s (.bool true),.vec 7,.s (.ro (.au cB bs))] 100,.aw,.vec (.au cB (bH th m fu fr (jV fs n) true (bN es key val) bs).snd.snd.snd.snd.fst) 116]) (.bq [.vec 8,aM ((bH th m fu fr (jV fs n) true (bN es key val) bs).snd.snd.snd.snd.snd)])))))))))))):=by kernel_rfl
theorem avD(f:Nat)(th:Th)(m:As)(fu aa:Int)(fr fs gn:Ws)(n ad:Int)(key val:ByteArray)(l:Bool)(es:List En)(bs:List Br):run P (qF f).sum f93 agV (anO th m fu aa fr fs gn n ad key val l es bs) (inl:=[fP1])=
 Tree.ite ((↑bs.length:Int)==0) (.ret (lz th m fu aa fr fs gn key val++[.aq [.s (.bool l),.s (.ro (.au cE es)),.s (.ro (.au cB bs))] 100]) (.bq [.emp,.s (.aR .i64 4)])) (.ab (bs.length<=1000000) (.ab (jt (nN bs)) (.ab ((0:Int)<=bg bs key) (.ab (bg bs key<bs.length) (.ab (aA (ad+1)) (.ab (bp (some [AV.ptr 0 0,aM ((bs.getD (bg bs key).toNat (CL.d cB)).snd.fst),aM (ad+1),.s (.str key),.fn 57 [.ptr 4 0,.ptr 5 0]])) (.ab (bp (some (lz th m fu aa fr fs gn key val))) (.ab (Ds.bm th m fu) (.ab (Bx.okW fr) (.ab ((0:Int)<=(bs.getD (bg bs key).toNat (CL.d cB)).snd.fst/\(bs.getD (bg bs key).toNat (CL.d cB)).snd.fst<=65536) (.ab ((1:Int)<=ad+1/\ad+1<=17) (.ab ((18:Int)<=ad+1+(↑f:Int)) (.ab ((1:Nat)<=key.size/\key.size<=24) (.ab (val.size<=100) (.at (anP th (rp th key (some val) f m fu fr fs gn (bs.getD (bg bs key).toNat (CL.d cB)).snd.fst (ad+1)) (rq th key (some val) f m fu fr fs gn (bs.getD (bg bs key).toNat (CL.d cB)).snd.fst (ad+1)) aa (rr th key (some val) f m fu fr fs gn (bs.getD (bg bs key).toNat (CL.d cB)).snd.fst (ad+1)) (ta th key (some val) f m fu fr fs gn (bs.getD (bg bs key).toNat (CL.d cB)).snd.fst (ad+1)) (uJ th key (some val) f m fu fr fs gn (bs.getD (bg bs key).toNat (CL.d cB)).snd.fst (ad+1)) n key val l es bs (bg bs key) (uK th key (some val) f m fu fr fs gn (bs.getD (bg bs key).toNat (CL.d cB)).snd.fst (ad+1)) (vX th key (some val) f m fu fr fs gn (bs.getD (bg bs key).toNat (CL.d cB)).snd.fst (ad+1)))))))))))))))))):=by kernel_rfl
theorem avF(f:Nat)(th:Th)(m:As)(fu aa:Int)(fr fs gn:Ws)(n:Int)(key val:ByteArray)(l:Bool)(es:List En)(bs:List Br)(k e:Int)(r:List Br):run P (qF f).sum f93 agV (anP th m fu aa fr fs gn n key val l es bs k e r) (inl:=[fP1])=
 Tree.ite (e !=0) (.ret (lz th m fu aa fr fs gn key val++[.aq [.s (.bool l),.s (.ro (.au cE es)),.s (.ro (.au cB bs))] 100,.vec (.au cB r) 116]) (.bq [.emp,aM e])) (.ite (decide ((↑r.length:Int)>0)) (.ab ((0:Int)<=k) (.ab (k<bs.length) (.ab ((0:Int)<=0) (.ab ((0:Int)<(↑r.length:Int)) (.at (aiE th m fu aa fr fs gn n key val l es bs k (r.set 0 ((bs.getD k.toNat (CL.d cB)).fst,(r.getD 0 (CL.d cB)).snd)))))))) (.at (aiE th m fu aa fr fs gn n key val l es bs k r))):=by kernel_rfl
theorem avG(f:Nat)(th:Th)(m:As)(fu aa:Int)(fr fs gn:Ws)(n:Int)(key val:ByteArray)(l:Bool)(es:List En)(bs:List Br)(k:Int)(r:List Br):run P (qF f).sum f93 agV (aiE th m fu aa fr fs gn n key val l es bs k r) (inl:=[fP1])=
 Tree.ab ((0:Int)<=0) (.ab ((0:Int)<=k) (.ab (k<=bs.length) (.ab (aA (k+1)) (.ab ((0:Int)<=k+1) (.ab (k+1<=(↑bs.length:Int)) (.ab ((↑bs.length:Int)<=(↑bs.length:Int)) (.ab ([(List.drop (Int.toNat 0) (List.take k.toNat bs),()),(r,()),(List.drop (k+1).toNat (List.take (↑bs.length:Int).toNat bs),())].length<=100) (.ab ((cI [(List.drop (Int.toNat 0) (List.take k.toNat bs),()),(r,()),(List.drop (k+1).toNat (List.take (↑bs.length:Int).toNat bs),())]).length<=100000) (.ab (bp (some [AV.ptr 0 0,aM n])) (.ab (bp (some (hT th m fu aa fr fs gn))) (.ab (bp (some [AV.ptr 0 0,.agg [.s (.bool l),.s (.ro (.au cE es)),.s (.ro (.au cB (cI [(List.drop (Int.toNat 0) (List.take k.toNat bs),()),(r,()),(List.drop (k+1).toNat (List.take (↑bs.length:Int).toNat bs),())])))]])) (.ab (bp (some (hT th m fu aa fr (jV fs n) (rj fs gn n)))) (.ab (Ds.bm th m fu) (.ab (Bx.okW fr) (.ab (acr l es (cI [(List.drop (Int.toNat 0) (List.take k.toNat bs),()),(r,()),(List.drop (k+1).toNat (List.take (↑bs.length:Int).toNat bs),())])) (.ab (bx es) (.ab (bz (cI [(List.drop (Int.toNat 0) (List.take k.toNat bs),()),(r,()),(List.drop (k+1).toNat (List.take (↑bs.length:Int).toNat bs),())])) (.ret (lz th (bH th m fu fr (jV fs n) l es (cI [(List.drop (Int.toNat 0) (List.take k.toNat bs),()),(r,()),(List.drop (k+1).toNat (List.take (↑bs.length:Int).toNat bs),())])).fst (bH th m fu fr (jV fs n) l es (cI [(List.drop (Int.toNat 0) (List.take k.toNat bs),()),(r,()),(List.drop (k+1).toNat (List.take (↑bs.length:Int).toNat bs),())])).snd.fst aa (bH th m fu fr (jV fs n) l es (cI [(List.drop (Int.toNat 0) (List.take k.toNat bs),()),(r,()),(List.drop (k+1).toNat (List.take (↑bs.length:Int).toNat bs),())])).snd.snd.fst (bH th m fu fr (jV fs n) l es (cI [(List.drop (Int.toNat 0) (List.take k.toNat bs),()),(r,()),(List.drop (k+1).toNat (List.take (↑bs.length:Int).toNat bs),())])).snd.snd.snd.fst (rj fs gn n) key val++[.aq [.s (.bool l),.s (.ro (.au cE es)),.vec 9] 100,.aw,.vec (.au cBs [(List.drop (Int.toNat 0) (List.take k.toNat bs),()),(r,()),(List.drop (k+1).toNat (List.take (↑bs.length:Int).toNat bs),())]) 98,.aw,.vec (.au cB (bH th m fu fr (jV fs n) l es (cI [(List.drop (Int.toNat 0) (List.take k.toNat bs),()),(r,()),(List.drop (k+1).toNat (List.take (↑bs.length:Int).toNat bs),())])).snd.snd.snd.snd.fst) 116]) (.bq [.vec 10,aM ((bH th m fu fr (jV fs n) l es (cI [(List.drop (Int.toNat 0) (List.take k.toNat bs),()),(r,()),(List.drop (k+1).toNat (List.take (↑bs.length:Int).toNat bs),())])).snd.snd.snd.snd.snd)]))))))))))))))))))):=by kernel_rfl
theorem azZ(f:Nat)(th:Th)(m:As)(fu aa:Int)(fr fs gn:Ws)(n ad:Int)(key:ByteArray):run P (qG f).sum f93 agW (start f93 [.ptr 0 0,aM n,aM ad,.s (.str key),.fn fD1 [.ptr 4 0]] (jK th m fu aa fr fs gn key)) (inl:=[fD1])=
 Tree.ab (bp (some [AV.ptr 0 0,aM n,aM ad])) (.ab (bp (some (hT th m fu aa fr fs gn))) (.ab (Ds.bm th m fu) (.ab (aA n) (.ite (gy th m n ad !=0) (.ret (jK th m fu aa fr fs gn key++[.aq [.s (.bool (lH th m n ad)),.s (.ro (.au cE (bZ th m n ad))),.s (.ro (.au cB (aX th m n ad)))] 100]) (.bq [.emp,aM (gy th m n ad)])) (.ite (lH th m n ad) (.at (.mk (sl 106 [(0,.ptr 0 0),(1,aM n),(4,.fn 72 [.ptr 4 0]),(12,.ptr 5 0)]) (jK th m fu aa fr fs gn key++[.aq [.s (.bool (lH th m n ad)),.s (.ro (.au cE (bZ th m n ad))),.s (.ro (.au cB (aX th m n ad)))] 100]) (hr f93 5) (.mk none false 0 [] 0))) (.at (anQ th m fu aa fr fs gn n ad key (lH th m n ad) (bZ th m n ad) (aX th m n ad)))))))):=by kernel_rfl
theorem axV(f:Nat)(th:Th)(m:As)(fu aa:Int)(fr fs gn:Ws)(n:Int)(key:ByteArray)(es:List En)(bs:List Br):run P (qG f).sum f93 agW (axT th m fu aa fr fs gn n key es bs) (inl:=[fD1])=
 Tree.ab (es.length<=100000) (.ab (jt (bS es)) (.ite (!iT es key) (.ret (jK th m fu aa fr fs gn key++[.aq [.s (.bool true),.emp,.s (.ro (.au cB bs))] 100,.vec (.au cE (cH es key)) 76]) (.bq [.emp,.s (.aR .i64 5)])) (.ab (bp (some [AV.ptr 0 0,aM n])) (.ab (bp (some (hT th m fu aa fr fs gn))) (.ab (bp (some [AV.ptr 0 0,.agg [.s (.bool true),.s (.ro (.au cE (cH es key))),.s (.ro (.au cB bs))]])) (.ab (bp (some (hT th m fu aa fr (jV fs n) (rj fs gn n)))) (.ab (Ds.bm th m fu) (.ab (Bx.okW fr) (.ab (acr true (cH es key) bs) (.ab (bx (cH es key)) (.ab (bz bs) (.ret (jK th (bH th m fu fr (jV fs n) true (cH es key) bs).fst (bH th m fu fr (jV fs n) true (cH es key) bs).snd.fst aa (bH th m fu fr (jV fs n) true (cH es key) bs).snd.snd.fst (bH th m fu fr (jV fs n) true (cH es key) bs).snd.snd.snd.fst (rj fs gn n) key++[.aq [.s (.bool true),.vec 6,.s (.ro (.au cB bs))] 100,.aw,.vec (.au cB (bH th m fu fr (jV fs n) true (cH es key) bs).snd.snd.snd.snd.fst) 116]) (.bq [.vec 7,aM ((bH th m fu fr (jV fs n) true (cH es key) bs).snd.snd.snd.snd.snd)]))))))))))))):=by kernel_rfl
theorem avH(f:Nat)(th:Th)(m:As)(fu aa:Int)(fr fs gn:Ws)(n ad:Int)(key:ByteArray)(l:Bool)(es:List En)(bs:List Br):run P (qG f).sum f93 agW (anQ th m fu aa fr fs gn n ad key l es bs) (inl:=[fD1])=
 Tree.ite ((↑bs.length:Int)==0) (.ret (jK th m fu aa fr fs gn key++[.aq [.s (.bool l),.s (.ro (.au cE es)),.s (.ro (.au cB bs))] 100]) (.bq [.emp,.s (.aR .i64 4)])) (.ab (bs.length<=1000000) (.ab (jt (nN bs)) (.ab ((0:Int)<=bg bs key) (.ab (bg bs key<bs.length) (.ab (aA (ad+1)) (.ab (bp (some [AV.ptr 0 0,aM ((bs.getD (bg bs key).toNat (CL.d cB)).snd.fst),aM (ad+1),.s (.str key),.fn 72 [.ptr 4 0]])) (.ab (bp (some (jK th m fu aa fr fs gn key))) (.ab (Ds.bm th m fu) (.ab (Bx.okW fr) (.ab ((0:Int)<=(bs.getD (bg bs key).toNat (CL.d cB)).snd.fst/\(bs.getD (bg bs key).toNat (CL.d cB)).snd.fst<=65536) (.ab ((1:Int)<=ad+1/\ad+1<=17) (.ab ((18:Int)<=ad+1+(↑f:Int)) (.ab ((1:Nat)<=key.size/\key.size<=24) (.ab (empty.size<=100) (.at (anR th (rp th key none f m fu fr fs gn (bs.getD (bg bs key).toNat (CL.d cB)).snd.fst (ad+1)) (rq th key none f m fu fr fs gn (bs.getD (bg bs key).toNat (CL.d cB)).snd.fst (ad+1)) aa (rr th key none f m fu fr fs gn (bs.getD (bg bs key).toNat (CL.d cB)).snd.fst (ad+1)) (ta th key none f m fu fr fs gn (bs.getD (bg bs key).toNat (CL.d cB)).snd.fst (ad+1)) (uJ th key none f m fu fr fs gn (bs.getD (bg bs key).toNat (CL.d cB)).snd.fst (ad+1)) n key l es bs (bg bs key) (uK th key none f m fu fr fs gn (bs.getD (bg bs key).toNat (CL.d cB)).snd.fst (ad+1)) (vX th key none f m fu fr fs gn (bs.getD (bg bs key).toNat (CL.d cB)).snd.fst (ad+1)))))))))))))))))):=by kernel_rfl
theorem avJ(f:Nat)(th:Th)(m:As)(fu aa:Int)(fr fs gn:Ws)(n:Int)(key:ByteArray)(l:Bool)(es:List En)(bs:List Br)(k e:Int)(r:List Br):run P (qG f).sum f93 agW (anR th m fu aa fr fs gn n key l es bs k e r) (inl:=[fD1])=
 Tree.ite (e !=0) (.ret (jK th m fu aa fr fs gn key++[.aq [.s (.bool l),.s (.ro (.au cE es)),.s (.ro (.au cB bs))] 100,.vec (.au cB r) 116]) (.bq [.emp,aM e])) (.ite (decide ((↑r.length:Int)>0)) (.ab ((0:Int)<=k) (.ab (k<bs.length) (.ab ((0:Int)<=0) (.ab ((0:Int)<(↑r.length:Int)) (.at (aiF th m fu aa fr fs gn n key l es bs k (r.set 0 ((bs.getD k.toNat (CL.d cB)).fst,(r.getD 0 (CL.d cB)).snd)))))))) (.at (aiF th m fu aa fr fs gn n key l es bs k r))):=by kernel_rfl
theorem avK(f:Nat)(th:Th)(m:As)(fu aa:Int)(fr fs gn:Ws)(n:Int)(key:ByteArray)(l:Bool)(es:List En)(bs:List Br)(k:Int)(r:List Br):run P (qG f).sum f93 agW (aiF th m fu aa fr fs gn n key l es bs k r) (inl:=[fD1])=
 Tree.ab ((0:Int)<=0) (.ab ((0:Int)<=k) (.ab (k<=bs.length) (.ab (aA (k+1)) (.ab ((0:Int)<=k+1) (.ab (k+1<=(↑bs.length:Int)) (.ab ((↑bs.length:Int)<=(↑bs.length:Int)) (.ab ([(List.drop (Int.toNat 0) (List.take k.toNat bs),()),(r,()),(List.drop (k+1).toNat (List.take (↑bs.length:Int).toNat bs),())].length<=100) (.ab ((cI [(List.drop (Int.toNat 0) (List.take k.toNat bs),()),(r,()),(List.drop (k+1).toNat (List.take (↑bs.length:Int).toNat bs),())]).length<=100000) (.ab (bp (some [AV.ptr 0 0,aM n])) (.ab (bp (some (hT th m fu aa fr fs gn))) (.ab (bp (some [AV.ptr 0 0,.agg [.s (.bool l),.s (.ro (.au cE es)),.s (.ro (.au cB (cI [(List.drop (Int.toNat 0) (List.take k.toNat bs),()),(r,()),(List.drop (k+1).toNat (List.take (↑bs.length:Int).toNat bs),())])))]])) (.ab (bp (some (hT th m fu aa fr (jV fs n) (rj fs gn n)))) (.ab (Ds.bm th m fu) (.ab (Bx.okW fr) (.ab (acr l es (cI [(List.drop (Int.toNat 0) (List.take k.toNat bs),()),(r,()),(List.drop (k+1).toNat (List.take (↑bs.length:Int).toNat bs),())])) (.ab (bx es) (.ab (bz (cI [(List.drop (Int.toNat 0) (List.take k.toNat bs),()),(r,()),(List.drop (k+1).toNat (List.take (↑bs.length:Int).toNat bs),())])) (.ret (jK th (bH th m fu fr (jV fs n) l es (cI [(List.drop (Int.toNat 0) (List.take k.toNat bs),()),(r,()),(List.drop (k+1).toNat (List.take (↑bs.length:Int).toNat bs),())])).fst (bH th m fu fr (jV fs n) l es (cI [(List.drop (Int.toNat 0) (List.take k.toNat bs),()),(r,()),(List.drop (k+1).toNat (List.take (↑bs.length:Int).toNat bs),())])).snd.fst aa (bH th m fu fr (jV fs n) l es (cI [(List.drop (Int.toNat 0) (List.take k.toNat bs),()),(r,()),(List.drop (k+1).toNat (List.take (↑bs.length:Int).toNat bs),())])).snd.snd.fst (bH th m fu fr (jV fs n) l es (cI [(List.drop (Int.toNat 0) (List.take k.toNat bs),()),(r,()),(List.drop (k+1).toNat (List.take (↑bs.length:Int).toNat bs),())])).snd.snd.snd.fst (rj fs gn n) key++[.aq [.s (.bool l),.s (.ro (.au cE es)),.vec 8] 100,.aw,.vec (.au cBs [(List.drop (Int.toNat 0) (List.take k.toNat bs),()),(r,()),(List.drop (k+1).toNat (List.take (↑bs.length:Int).toNat bs),())]) 98,.aw,.vec (.au cB (bH th m fu fr (jV fs n) l es (cI [(List.drop (Int.toNat 0) (List.take k.toNat bs),()),(r,()),(List.drop (k+1).toNat (List.take (↑bs.length:Int).toNat bs),())])).snd.snd.snd.snd.fst) 116]) (.bq [.vec 9,aM ((bH th m fu fr (jV fs n) l es (cI [(List.drop (Int.toNat 0) (List.take k.toNat bs),()),(r,()),(List.drop (k+1).toNat (List.take (↑bs.length:Int).toNat bs),())])).snd.snd.snd.snd.snd)]))))))))))))))))))):=by kernel_rfl
def TN:Nat->Type
 |0=>Int×List En|h+1=>Int×List (ByteArray×TN h)
abbrev Kd(h:Nat):Type:=ByteArray×TN h
def pg:(h:Nat)->TN h->Int
 |0,t=>t.1|_+1,t=>t.1
def fc:(h:Nat)->TN h->List En
 |0,t=>t.2|h+1,t=>t.2.flatMap λk=>fc h k.2
def oc:(h:Nat)->TN h->List Int
 |0,t=>[t.1]|h+1,t=>t.1::t.2.flatMap λk=>oc h k.2
def dh(h:Nat)(k:Kd h):Br:=(k.1,pg h k.2,())
def cu(h:Nat)(ks:List (Kd h)):List En:=ks.flatMap λk=>fc h k.2
def cf(h:Nat)(ks:List (Kd h)):List Int:=ks.flatMap λk=>oc h k.2
def rep(th:Th)(m:As):(h:Nat)->TN h->Prop
 |0,t=>Rd th m t.1 true t.2 []|h+1,t=>Rd th m t.1 false [] (t.2.map (dh h))/\∀k∈t.2,rep th m h k.2
def aeB(h:Nat)(ks:List (Kd h)):Prop:=ks.Pairwise (λa b=>∀e∈fc h a.2,slt e.1 b.1=true)/\∀k∈ks,∀e∈fc h k.2,slt e.1 k.1=false
def cv{h:Nat}:List (Kd h)->List (Kd h)
 |[]=>[]|k::r=>(empty,k.2)::r
def cK{h:Nat}(s:ByteArray):List (Kd h)->List (Kd h)
 |[]=>[]|k::r=>(s,k.2)::r
def od(h:Nat)(ks:List (Kd h)):Int:=bC [] (ks.map (dh h))
def nM:(h:Nat)->TN h->Prop
 |0,t=>t.2≠[]/\kv t.2=true/\bC t.2 []<=254|h+1,t=>t.2≠[]/\cv t.2=t.2/\ik (t.2.map (dh h))=true/\od h t.2<=254/\aeB h t.2/\∀k∈t.2,nM h k.2
def ovr(n:Int):Nat:=(n - 155).toNat
def wH:(h:Nat)->TN h->Nat
 |0,_=>0|h+1,t=>3^(h+1)*(19+ovr (od h t.2))+(t.2.map λk=>wH h k.2).sum
def fE(h:Nat)(ks:List (Kd h)):Nat:=(ks.map λk=>wH h k.2).sum
theorem akF{h:Nat}(t:TN (h+1)):fc (h+1) t=cu h t.2:=rfl
theorem anS{h:Nat}(t:TN (h+1)):wH (h+1) t=3^(h+1)*(19+ovr (od h t.2))+fE h t.2:=rfl
theorem ru:∀(h:Nat) (t:TN h),pg h t∈oc h t
 |0,t=>mem_singleton.2 rfl|h+1,t=>mem_cons_self
theorem tc:∀(h:Nat) {t:TN h},nM h t->fc h t≠[]
 |0,t,ok=>ok.1|h+1,t,ok=>by
  have⟨h1,_,_,_,_,h6⟩:=ok;have⟨k,r,e⟩:=List.exists_cons_of_ne_nil h1;have:=tc h (h6 k (by rw[e];exact mem_cons_self));rw[akF,e];show fc h k.2++_≠[];intro hn;exact this (List.append_eq_nil_iff.1 hn).1
theorem kJ{h:Nat}(a b:List (Kd h)):cu h (a++b)=cu h a++cu h b:=List.flatMap_append
theorem te{h:Nat}(a b:List (Kd h)):cf h (a++b)=cf h a++cf h b:=List.flatMap_append
theorem tg{h:Nat}(a b:List (Kd h)):fE h (a++b)=fE h a+fE h b:=by simp[fE]
theorem lA{h:Nat}(k:Kd h)(r:List (Kd h)):cu h (k::r)=fc h k.2++cu h r:=rfl
theorem kL{h:Nat}(k:Kd h)(r:List (Kd h)):cf h (k::r)=oc h k.2++cf h r:=rfl
theorem jk{h:Nat}(k:Kd h)(r:List (Kd h)):fE h (k::r)=wH h k.2+fE h r:=by simp[fE]
theorem kM{h:Nat}(ks:List (Kd h)):ae (ks.map (dh h))=(cv ks).map (dh h):=by cases ks<;>rfl
theorem aeC{h:Nat}(s:ByteArray)(ks:List (Kd h)):mi s (ks.map (dh h))=(cK s ks).map (dh h):=by cases ks<;>rfl
theorem akG(s s':ByteArray)(l:List Br):mi s (mi s' l)=mi s l:=by cases l<;>rfl
theorem yJ{h:Nat}(ks:List (Kd h)):cv (cv ks)=cv ks:=by cases ks<;>rfl
theorem akH{h:Nat}(s:ByteArray)(ks:List (Kd h)):cv (cK s ks)=cv ks:=by cases ks<;>rfl
theorem ry{h:Nat}(ks:List (Kd h)):cu h (cv ks)=cu h ks:=by cases ks<;>rfl
theorem aaT{h:Nat}(ks:List (Kd h)):cf h (cv ks)=cf h ks:=by cases ks<;>rfl
theorem aaU{h:Nat}(ks:List (Kd h)):fE h (cv ks)=fE h ks:=by cases ks<;>rfl
theorem akI{h:Nat}(s:ByteArray)(ks:List (Kd h)):cu h (cK s ks)=cu h ks:=by cases ks<;>rfl
theorem anT{h:Nat}(s:ByteArray)(ks:List (Kd h)):cf h (cK s ks)=cf h ks:=by cases ks<;>rfl
theorem anU{h:Nat}(s:ByteArray)(ks:List (Kd h)):fE h (cK s ks)=fE h ks:=by cases ks<;>rfl
theorem ie{h:Nat}{ks:List (Kd h)}{k:Kd h}(hk:k∈cv ks):∃k'∈ks,k'.2=k.2/\(k.1=empty\/k=k'):=by
 cases ks with
 |nil=>cases hk
 |cons a r=>
  rcases mem_cons.1 hk with rfl|h;exact⟨a,mem_cons_self,rfl,.inl rfl⟩;exact⟨k,mem_cons_of_mem _ h,rfl,.inr rfl⟩
theorem yK(x:Br):3<=rh x:=by unfold rh;omega
theorem anV(x:En):2<=rG x:=by unfold rG;omega
def iU(bs:List Br):Int:=(bs.map rh).sum
theorem pz:iU []=0:=rfl
theorem dL(b:Br)(r:List Br):iU (b::r)=rh b+iU r:=by simp[iU]
theorem yL(a b:List Br):iU (a++b)=iU a+iU b:=by simp[iU]
theorem aq3(bs:List Br):0<=iU bs:=by
 induction bs with
 |nil=>simp[pz]|cons b r ih=>rw[dL];have:=yK b;omega
theorem agX{h:Nat}(ks:List (Kd h)):od h ks=1+iU (ks.map (dh h)):=by
 unfold od bC iU;simp
theorem uL(bs:List Br):iU (ae bs)<=iU bs:=by
 cases bs with
 |nil=>exact Int.le_refl _|cons b r=>
  rw[ae,dL,dL];have:rh (empty,b.2.1,())=3:=rfl;have:=yK b;omega
theorem gI{bs:List Br}:ik bs=true↔(∀b∈bs,b.1.size<=24/\2<=b.2.1/\b.2.1<1024)/\bs.Pairwise λa b=>slt a.1 b.1=true:=by
 constructor;intro h;refine⟨λb hb=>aei h hb, ?_⟩;have hs:=auR h;rw[List.pairwise_iff_getElem];intro i j hi hj ma;have:=hs i j ma (by simpa using hj);rw[c9 bs aki dB i,c9 bs aki dB j,ba hi,ba hj]at this;exact this;rintro⟨h1,h2⟩;refine dt.2 λi hi=>s5.2 ?_;have⟨a,b,c⟩:=h1 (bs.getD i dB) (by rw[ba hi];exact getElem_mem hi);refine⟨by omega,by omega,by omega,λh0=> ?_⟩;rw[List.pairwise_iff_getElem]at h2;have:=h2 (i - 1) i (by omega) hi (by omega);rw[ba (by omega),ba hi];exact this
theorem aq4{a b:ByteArray}(h:slt a b=true):slt empty b=true:=by
 rcases jf empty b with h1|h1|h1;exact h1;subst h1;rw[ib]at h;cases h;rw[ib]at h1;cases h1
theorem aaV{bs:List Br}(h:ik bs=true):ik (ae bs)=true:=by
 rw[gI]at h ⊢;cases bs with
 |nil=>exact h|cons b r=>
  have⟨h1,h2⟩:=h;rw[pairwise_cons]at h2;refine⟨λx hx=> ?_, ?_⟩;rcases mem_cons.1 hx with rfl|hx;have:=h1 b mem_cons_self;exact⟨zero_le 24,this.2⟩;exact h1 x (mem_cons_of_mem _ hx);rw[ae,pairwise_cons];exact⟨λx hx=>aq4 (h2.1 x hx),h2.2⟩
theorem aeD{es:List En}:kv es=true↔(∀e∈es,1<=e.1.size/\e.1.size<=24/\e.2.1.size<=100)/\jt (bS es):=by
 constructor;intro h;refine⟨λe he=> ?_,axn h⟩;obtain⟨i,hi,rfl⟩:=List.getElem_of_mem he;have⟨a,b,c,_⟩:=p7.1 (dt.1 h i hi);rw[ba hi]at a b c;exact⟨by omega,by omega,by omega⟩;rintro⟨h1,h2⟩;refine dt.2 λi hi=>p7.2 ?_;have⟨a,b,c⟩:=h1 (es.getD i dE) (by rw[ba hi];exact getElem_mem hi);refine⟨by omega,by omega,by omega,λh0=> ?_⟩;have:=h2 (i - 1) i (by omega) (by simpa using hi);rw[c9 es rf dE,c9 es rf dE]at this;exact this
structure S5 where
 m:As
 fu:Int
 fr:Ws
 fs:Ws
 gn:Ws
structure okS (th:Th) (s:S5):Prop where
 d:Ds.bm th s.m s.fu
 fr:Bx.okW s.fr
 fs:Bx.okW s.fs
 gn:Bx.okW s.gn
 pg:∀p,In s.fr p->2<=p/\Ds.wv th p=true
structure tj (th:Th) (s t:S5) (N V:List Int):Prop where
 ok:okS th t
 nd:N.Nodup
 sub:∀p∈N,In s.fr p
 fr:∀p,In t.fr p↔In s.fr p/\p ∉ N
 fs:∀p,In t.fs p↔(In s.fs p/\p ∉ V)\/p∈N
 gn:∀p,In t.gn p↔In s.gn p\/(In s.fs p/\p∈V)
 rd:∀p,¬In s.fr p->Ds.gM th t.m p=Ds.gM th s.m p/\Ds.fJ th t.m p=Ds.fJ th s.m p
 fu:s.fu= -1->t.fu= -1
 lo:s.fu= -1->(∀p∈N,∀q,In s.fr q->q<p->q∈N)/\∀p,p ∉ N->Ds.gM th t.m p=Ds.gM th s.m p/\Ds.fJ th t.m p=Ds.fJ th s.m p
 sec:∀x:Int,¬In s.fr (x / 4)->cp t.m x=cp s.m x
def wS(th:Th)(s:S5)(l:Bool)(es:List En)(bs:List Br):S5:=
 ⟨(bW th s.m s.fu s.fr s.fs l es bs).1,(bW th s.m s.fu s.fr s.fs l es bs).2.1,(bW th s.m s.fu s.fr s.fs l es bs).2.2.1,(bW th s.m s.fu s.fr s.fs l es bs).2.2.2.1,s.gn⟩
def wE(th:Th)(s:S5)(l:Bool)(es:List En)(bs:List Br):Int:=(bW th s.m s.fu s.fr s.fs l es bs).2.2.2.2.2
def wB(th:Th)(s:S5)(l:Bool)(es:List En)(bs:List Br):Br:=(bW th s.m s.fu s.fr s.fs l es bs).2.2.2.2.1
theorem akJ{zs:List Int}(h:∀x∈zs,3<=x/\x<=27)(h1:253<zs.sum)(h2:zs.sum<=280):2<=zs.length/\kb zs (iK zs (zs.length - 1)).1<=153:=by
 have hb:=(pW (l:=zs) (m:=27) (λx hx=>⟨by have:=(h x hx).1;omega,(h x hx).2⟩) (by omega)).2;have hl:2<=zs.length:=by omega
 refine⟨hl, ?_⟩;have⟨k,hk,k1,k2⟩:=rk (p:=λk=>(zs.take k).sum) (c:=127) zs.length (by simp) (by simp only[List.take_length];omega);have k1:(zs.take k).sum<127:=k1;have k2:127<=(zs.take (k+1)).sum:=k2;have k3:=ju hk;have k4:zs.getD k 0<=27:=by rw[ba hk];exact(h _ (getElem_mem _)).2
 have k5:k+1<zs.length:=by
  rcases lt_or_ge (k+1) zs.length with h|h;exact h;rw[take_of_length_le h]at k3;omega
 have m:=s8 zs (zs.length - 1) (k+1) (by omega) (by omega);rw[yH _ _ (by omega)]at m;refine Int.le_trans m ?_;unfold kb imax;split<;>omega
theorem aiG{bs:List Br}:3*(bs.length:Int)<=iU bs:=by
 induction bs with
 |nil=>simp[pz]|cons b r ih=>rw[dL,length_cons];have:=yK b;omega
theorem tl(bs:List Br):bC [] bs=1+iU bs:=by simp[bC,iU]
theorem yM(es:List En):bC es []=1+(es.map rG).sum:=by simp[bC]
theorem aq5{bs:List Br}(h:ik bs=true):dD false [] bs=true:=wF (λe=>by cases e) (λ_=>rfl) rfl h
theorem axW{es:List En}(h:kv es=true):dD true es []=true:=wF (λ_=>rfl) (λe=>by cases e) h rfl
theorem anW{bs:List Br}(jU:ik bs=true)(h1:254<bC [] bs)(h2:bC [] bs<=281):
 dW false [] bs=true/\bC [] (bA false [] bs)<=154/\bC [] (dw false [] bs)<=154/\
  ∃k,0<k/\k<bs.length/\bA false [] bs=bs.take k/\dw false [] bs=bs.drop k/\bu false [] bs=[]/\dj false [] bs=[]/\b8 false [] bs=false:=by
 rw[tl]at h1 h2;have e0:aT [] bs=bs.map rh:=by simp[aT]
 have hz:∀x∈bs.map rh,3<=x/\x<=27:=λx hx=>by
  obtain⟨y,hy,rfl⟩:=mem_map.1 hx;have:=aei jU hy;unfold rh;omega
 have⟨b1,b2⟩:=akJ hz (by unfold iU at h1;omega) (by unfold iU at h2;omega);rw[length_map]at b1 b2
 have ok:dW false [] bs=true:=by
  simp only[dW,aq5 jU,Bool.true_and,decide_eq_true_eq,length_nil];omega
 have hsm:bz bs:=⟨by have:=aiG (bs:=bs);omega,λx hx=>by have:=aei jU hx;omega⟩;have⟨_,_,_,_,_,_,_,_,_,f0,f⟩:=uI ok ji hsm;rw[e0]at f;have f2:kb (bs.map rh) (eI [] bs)<=153:=by rw[eI,e0,length_nil,zero_add];exact b2
 have p1:=pw (aT [] bs) (([]:List En).length+bs.length - 1) (by simp;omega);have p2:=pX (aT [] bs) (([]:List En).length+bs.length - 1);simp only[length_nil,zero_add]at p1 p2;have e1:bu false [] bs=[]:=by unfold bu;rw[if_pos ok,List.take_nil]
 have e2:dj false [] bs=[]:=by unfold dj;rw[if_pos ok,List.drop_nil]
 rw[e1,e2]at f;unfold imax at f;refine⟨ok, ?_, ?_,eI [] bs,by unfold eI;simp only[length_nil,zero_add];exact p1,by unfold eI;simp only[length_nil,zero_add];omega,by unfold bA;rw[if_pos ok],by unfold dw;rw[if_pos ok],e1,e2,by unfold b8;rw[ok];rfl⟩;split at f<;>omega;split at f<;>omega
theorem aiH{es:List En}:2*(es.length:Int)<=(es.map rG).sum:=by
 induction es with
 |nil=>simp|cons b r ih=>rw[map_cons,sum_cons,length_cons];have:=anV b;omega
theorem anX{es:List En}{key val:ByteArray}(jU:kv (bN es key val)=true)(h0:bC es []<=254)(h1:¬bC (bN es key val) []<=254):
 dW true (bN es key val) []=true/\bC (bu true (bN es key val) []) []<=254/\bC (dj true (bN es key val) []) []<=254/\
  ∃k,0<k/\k<(bN es key val).length/\bu true (bN es key val) []=(bN es key val).take k/\dj true (bN es key val) []=(bN es key val).drop k/\bA true (bN es key val) []=[]/\dw true (bN es key val) []=[]/\b8 true (bN es key val) []=true:=by
 have hl:es.length<=200:=by
  have:=aiH (es:=es);rw[yM]at h0;omega
 have⟨ok,f1,f2⟩:=akC hl h0 (axW jU) h1;generalize bN es key val=xs at jU h1 ok f1 f2 ⊢;have e1:bA true xs []=[]:=by unfold bA;rw[if_pos ok,List.take_nil]
 have e2:dw true xs []=[]:=by unfold dw;rw[if_pos ok,List.drop_nil]
 rw[e1]at f1;rw[e2]at f2
 have h2:2<=xs.length:=by
  simp only[dW,and_eq_true,decide_eq_true_eq,length_nil]at ok;omega
 have p1:=pw (aT xs []) (xs.length+([]:List Br).length - 1) (by simp;omega);have p2:=pX (aT xs []) (xs.length+([]:List Br).length - 1);simp only[length_nil,add_zero]at p1 p2;exact⟨ok,f1,f2,eI xs [],by unfold eI;simp only[length_nil,add_zero];exact p1,by unfold eI;simp only[length_nil,add_zero];omega,by unfold bu;rw[if_pos ok],by unfold dj;rw[if_pos ok],e1,e2,by unfold b8;rw[ok];rfl⟩
theorem iP{th:Th}{s:S5}(h:okS th s):tj th s s [] []:=
 ⟨h,List.nodup_nil,λp hp=>(by cases hp),λp=>⟨λx=>⟨x,List.not_mem_nil⟩,λx=>x.1⟩,λp=>⟨λx=>.inl ⟨x,List.not_mem_nil⟩,λx=>x.elim (λy=>y.1) (λy=>by cases y)⟩,
   λp=>⟨.inl,λx=>x.elim id (λy=>by cases y.2)⟩,λp _=>⟨rfl,rfl⟩,id,λ_=>⟨λp hp=>(by cases hp),λp _=>⟨rfl,rfl⟩⟩,λ_ _=>rfl⟩
theorem fC{th:Th}{s t u:S5}{N1 N2 V1 V2:List Int}(h1:tj th s t N1 V1)(h2:tj th t u N2 V2)(hd:∀p∈V2,p ∉ N1):tj th s u (N1++N2) (V1++V2)where
 ok:=h2.ok
 nd:=nodup_append.2 ⟨h1.nd,h2.nd,λa ha b hb e=>by subst e;exact((h1.fr a).1 (h2.sub a hb)).2 ha⟩
 sub:=λp hp=>(mem_append.1 hp).elim (h1.sub p) (λh=>((h1.fr p).1 (h2.sub p h)).1)
 fr:=λp=>by rw[h2.fr,h1.fr,mem_append,not_or,and_assoc]
 fs:=λp=>by
  rw[h2.fs,h1.fs,mem_append,mem_append,not_or];constructor;rintro(⟨⟨a,b⟩|a,c⟩|a);exact .inl ⟨a,b,c⟩;exact .inr (.inl a);exact .inr (.inr a);rintro(⟨a,b,c⟩|a|a);exact .inl ⟨.inl ⟨a,b⟩,c⟩;exact .inl ⟨.inr a,λh=>hd p h a⟩;exact .inr a
 gn:=λp=>by
  rw[h2.gn,h1.gn,h1.fs,mem_append];constructor;rintro((a|⟨a,b⟩)|⟨⟨a,b⟩|a,c⟩);exact .inl a;exact .inr ⟨a,.inl b⟩;exact .inr ⟨a,.inr c⟩;exact absurd a (hd p c);rintro(a|⟨a,b|b⟩);exact .inl (.inl a);exact .inl (.inr ⟨a,b⟩);by_cases hv:p∈V1;exact .inl (.inr ⟨a,hv⟩);exact .inr ⟨.inl ⟨a,hv⟩,b⟩
 rd:=λp hp=>by
  have a:=h1.rd p hp;have b:=h2.rd p (λh=>hp ((h1.fr p).1 h).1);exact⟨b.1.trans a.1,b.2.trans a.2⟩
 fu:=λh=>h2.fu (h1.fu h)
 lo:=λh=>by
  have⟨a1,b1⟩:=h1.lo h;have⟨a2,b2⟩:=h2.lo (h1.fu h);refine⟨λp hp q hq bo=> ?_,λp hp=> ?_⟩;rcases mem_append.1 hp with hp|hp;exact List.mem_append_left _ (a1 p hp q hq bo);by_cases hn:q∈N1;exact List.mem_append_left _ hn;exact mem_append_right _ (a2 p hp q ((h1.fr q).2 ⟨hq,hn⟩) bo);have x:=b1 p λy=>hp (List.mem_append_left _ y);have y:=b2 p λy=>hp (mem_append_right _ y);exact⟨y.1.trans x.1,y.2.trans x.2⟩
 sec:=λx hx=>(h2.sec x λh=>hx ((h1.fr _).1 h).1).trans (h1.sec x hx)
theorem tj.rep{th:Th}{s t:S5}{N V:List Int}(h:tj th s t N V):∀(k:Nat) {x:TN k},Ts.rep th s.m k x->(∀p∈oc k x,¬In s.fr p)->Ts.rep th t.m k x
 |0,x,hr,hp=>Rd.same hr (h.rd _ (hp _ (ru 0 x)))|k+1,x,hr,hp=>⟨Rd.same hr.1 (h.rd _ (hp _ (ru (k+1) x))),λy hy=>h.rep k (hr.2 y hy) λp ky=>hp p (mem_cons_of_mem _ (mem_flatMap.2 ⟨y,hy,ky⟩))⟩
theorem agY{th:Th}{s:S5}(h:okS th s)(n:Int):tj th s ⟨s.m,s.fu,s.fr,jV s.fs n,rj s.fs s.gn n⟩ [] [n]:=by
 have r:In s.fs n->0<=n/\n<1024:=λhn=>mX h.fs hn;by_cases hn:In s.fs n;have e1:jV s.fs n=Bx.dm s.fs n:=if_pos hn;have e2:rj s.fs s.gn n=Bx.dk s.gn n:=if_pos hn;rw[e1,e2];refine⟨⟨h.d,h.fr,(Bx.lZ h.fs n).1,(Bx.gH h.gn n).1,h.pg⟩,List.nodup_nil,λp hp=>(by cases hp),λp=>⟨λx=>⟨x,List.not_mem_nil⟩,λx=>x.1⟩,λp=> ?_,λp=> ?_,λp _=>⟨rfl,rfl⟩,id,λ_=>⟨λp hp=>(by cases hp),λp _=>⟨rfl,rfl⟩⟩,λ_ _=>rfl⟩;simp only[];rw[rl h.fs,mem_singleton];exact⟨.inl,λx=>x.elim id (λy=>by cases y)⟩;simp only[];rw[p8 h.gn (r hn),mem_singleton];exact⟨λx=>x.imp id (λy=>⟨by rw[y];exact hn,y⟩),λx=>x.imp id (λy=>y.2)⟩;have e1:jV s.fs n=s.fs:=if_neg hn;have e2:rj s.fs s.gn n=s.gn:=if_neg hn;rw[e1,e2];refine⟨h,List.nodup_nil,λp hp=>(by cases hp),λp=>⟨λx=>⟨x,List.not_mem_nil⟩,λx=>x.1⟩,λp=> ?_,λp=> ?_,λp _=>⟨rfl,rfl⟩,id,λ_=>⟨λp hp=>(by cases hp),λp _=>⟨rfl,rfl⟩⟩,λ_ _=>rfl⟩;rw[mem_singleton];exact⟨λx=>.inl ⟨x,λe=>hn (by rw[<-e];exact x)⟩,λx=>x.elim (λy=>y.1) (λy=>by cases y)⟩;rw[mem_singleton];exact⟨.inl,λx=>x.elim id (λy=>absurd (by rw[<-y.2];exact y.1) hn)⟩
theorem avL{th:Th}{s:S5}{l:Bool}{es:List En}{bs:List Br}(ho:okS th s)(hm:dD l es (ae bs)=true)(hz:bC es (ae bs)<=254):
 (wE th s l es bs=0/\∃n,tj th s (wS th s l es bs) [n] []/\wB th s l es bs=(du l es bs,n,())/\Rd th (wS th s l es bs).m n l es (ae bs))\/
 (wE th s l es bs=41/\wS th s l es bs=s/\∀k,¬In s.fr k)\/(wE th s l es bs=42/\tj th s (wS th s l es bs) [] []/\(wS th s l es bs).fu=0):=by
 have he:iJ l es (ae bs)=0:=mR.2 ⟨hm,hz⟩;have⟨d1,d2,d3,d4,d5⟩:=aqi he;by_cases hx:Bx.eZ s.fr 0=false;have e:bW th s.m s.fu s.fr s.fs l es bs=(s.m,s.fu,s.fr,s.fs,dB,41):=by unfold bW;rw[if_pos hx]
 right;left;refine⟨by unfold wE;rw[e],by unfold wS;rw[e],λk=>aqZ ho.fr hx k⟩;have hx1:Bx.eZ s.fr 0=true:=by simpa using hx
 have hn:=aez ho.fr hx1;have⟨tA,hnp⟩:=ho.pg _ hn;have hnr:=mX ho.fr hn;have⟨g1,g2,g3⟩:=Ds.avy (th:=th) (m:=s.m) (fu:=s.fu) (n:=Bx.bK s.fr 0) (s:=encS l es (ae bs)) ho.d hnp (by omega);have gd:=Ds.asQ (n:=Bx.bK s.fr 0) (s:=encS l es (ae bs)) ho.d;have gs:∀x:Int,¬In s.fr (x / 4)->cp (Ds.kr th s.m s.fu (Bx.bK s.fr 0) (encS l es (ae bs))).1 x=cp s.m x:=λx hx=>Ds.avx ho.d λe=>hx (by rw[e];exact hn);rcases g1 with⟨a,b,c⟩|⟨a,b⟩;left
 have e:bW th s.m s.fu s.fr s.fs l es bs=((Ds.kr th s.m s.fu (Bx.bK s.fr 0) (encS l es (ae bs))).1,(Ds.kr th s.m s.fu (Bx.bK s.fr 0) (encS l es (ae bs))).2.1,Bx.dm s.fr (Bx.bK s.fr 0),Bx.dk s.fs (Bx.bK s.fr 0),(du l es bs,Bx.bK s.fr 0,()),0):=by
  unfold bW;rw[if_neg hx,if_neg (by rw[he];simp),if_neg (by rw[a];simp)]
 refine⟨by unfold wE;rw[e],Bx.bK s.fr 0, ?_,by unfold wB;rw[e], ?_⟩;unfold wS;rw[e];refine⟨⟨gd,(Bx.lZ ho.fr _).1,(Bx.gH ho.fs _).1,ho.gn,λp hp=>ho.pg p ((rl ho.fr).1 hp).1⟩,by simp,λp hp=>by rw[mem_singleton.1 hp];exact hn,λp=> ?_,λp=> ?_,λp=> ?_,λp hp=>g3 p (λe=>hp (by rw[e];exact hn)),g2,λ_=>⟨λp hp q hq bo=> ?_,λp hp=>g3 p λe=>hp (mem_singleton.2 e)⟩,gs⟩;simp only[];rw[rl ho.fr,mem_singleton];simp only[];rw[p8 ho.fs hnr,mem_singleton];exact⟨λx=>x.imp (λy=>⟨y,List.not_mem_nil⟩) id,λx=>x.imp (λy=>y.1) id⟩;exact⟨.inl,λx=>x.elim id (λy=>by cases y.2)⟩;have:=anI ho.fr hx1 hq;rw[mem_singleton.1 hp]at bo;omega;unfold wS;rw[e];exact⟨b,by rw[c];exact d1,by rw[c];exact d2,by rw[c];exact d3,by rw[c];exact d4⟩;right;right
 have e:bW th s.m s.fu s.fr s.fs l es bs=((Ds.kr th s.m s.fu (Bx.bK s.fr 0) (encS l es (ae bs))).1,(Ds.kr th s.m s.fu (Bx.bK s.fr 0) (encS l es (ae bs))).2.1,s.fr,s.fs,dB,42):=by
  unfold bW;rw[if_neg hx,if_neg (by rw[he];simp),if_pos (by rw[a];simp),a]
 refine⟨by unfold wE;rw[e], ?_,by unfold wS;rw[e];exact b⟩;unfold wS;rw[e];have r:=iP ho;refine⟨⟨gd,ho.fr,ho.fs,ho.gn,ho.pg⟩,r.nd,r.sub,r.fr,r.fs,r.gn,λp hp=>g3 p (λe=>hp (by rw[e];exact hn)),g2,λh=>absurd (g2 h) (by rw[b];decide),gs⟩
theorem fp{th:Th}{m:As}{n ad:Int}(h:gy th m n ad=0):dD (lH th m n ad) (bZ th m n ad) (aX th m n ad)=true/\(bZ th m n ad).length<=126/\(aX th m n ad).length<=84/\bx (bZ th m n ad)/\bz (aX th m n ad)/\
 ad<=16/\bC (bZ th m n ad) (aX th m n ad)<=254:=by
 unfold gy at h;split at h;cases h;rename_i hd;split at h;rename_i hg;have e0:uG th m n ad=true:=by unfold uG;rw[decide_eq_true hg,decide_eq_true (by omega)];rfl
 have⟨a,b,c,_,e⟩:=aqj h;have sz:=(mR.1 c).2;have e1:bZ th m n ad=pt (Ds.fJ th m n):=by unfold bZ;rw[if_pos e0]
 have e2:aX th m n ad=nX (Ds.fJ th m n):=by unfold aX;rw[if_pos e0]
 have e3:lH th m n ad=ka (Ds.fJ th m n):=by unfold lH;rw[e0,Bool.true_and]
 rw[e1,e2,e3];have s1:=aiH (es:=pt (Ds.fJ th m n));have s2:=aiG (bs:=nX (Ds.fJ th m n));have s3:=aq3 (nX (Ds.fJ th m n));unfold bC at sz;unfold iU at s2 s3;refine⟨e,by omega,by omega,a,b,by omega, ?_⟩;unfold bC;exact sz;rename_i hg;exact absurd h hg
abbrev yN(es:List En):Prop:=∀x∈es,x.1.size<=24
abbrev lB(bs:List Br):Prop:=∀x∈bs,x.1.size<=24
theorem aeE{l:Bool}{es:List En}{bs:List Br}(he:yN es)(hb:lB bs):(du l es bs).size<=24:=by
 unfold du;split;cases es with
 |nil=>exact zero_le _|cons e r=>exact he e mem_cons_self
 cases bs with
 |nil=>exact zero_le _|cons e r=>exact hb e mem_cons_self
theorem acu{th:Th}{m:As}{fu:Int}{fr fs:Ws}{l:Bool}{es:List En}{bs:List Br}(he:yN es)(hb:lB bs):(bW th m fu fr fs l es bs).2.2.2.2.1.1.size<=24:=by
 unfold bW;split;exact zero_le _;split;exact zero_le _;split;exact zero_le _;exact aeE he hb
theorem anY{bs:List Br}(h:lB bs):lB (ae bs):=by
 cases bs with
 |nil=>exact h|cons b r=>
  intro x hx;rcases mem_cons.1 hx with rfl|hx;exact zero_le _;exact h x (mem_cons_of_mem _ hx)
theorem aq6{l:Bool}{es:List En}{bs:List Br}(he:yN es):yN (bu l es bs)/\yN (dj l es bs):=by
 unfold bu dj;split;exact⟨λx hx=>he x (List.mem_of_mem_take hx),λx hx=>he x (List.mem_of_mem_drop hx)⟩;exact⟨λx hx=>(by cases hx),λx hx=>(by cases hx)⟩
theorem aq7{l:Bool}{es:List En}{bs:List Br}(he:lB bs):lB (bA l es bs)/\lB (dw l es bs):=by
 unfold bA dw;split;exact⟨λx hx=>he x (List.mem_of_mem_take hx),λx hx=>he x (List.mem_of_mem_drop hx)⟩;exact⟨λx hx=>(by cases hx),λx hx=>(by cases hx)⟩
theorem agZ{th:Th}{m:As}{fu:Int}{fr fs:Ws}{l:Bool}{es:List En}{bs:List Br}(hf:Bx.okW fr):0<=(bW th m fu fr fs l es bs).2.2.2.2.1.2.1/\(bW th m fu fr fs l es bs).2.2.2.2.1.2.1<=65536:=by
 have z:0<=dB.2.1/\dB.2.1<=65536:=⟨Int.le_refl 0,by show(0:Int)<=65536;omega⟩;unfold bW;split;exact z;rename_i h;have:=yI hf (by simpa using h);split;exact z;split;exact z;exact⟨by show 0<=Bx.bK fr 0;omega,by show Bx.bK fr 0<=65536;omega⟩
theorem noE{q:En->Prop}:∀b∈([]:List En),q b:=λb hb=>by cases hb
theorem noB{q:Br->Prop}:∀b∈([]:List Br),q b:=λb hb=>by cases hb
structure anZ (th:Th) (m:As) (fu:Int) (fr:Ws) (l:List Br):Prop where
 d:Ds.bm th m fu
 fr:Bx.okW fr
 two:l.length<=2
 key:lB l
 pg:∀b∈l,0<=b.2.1/\b.2.1<=65536
theorem pA{th:Th}{m:As}{fu:Int}{fr fs:Ws}{l:Bool}{es:List En}{bs:List Br}(hd:Ds.bm th m fu)(hf:Bx.okW fr)(he:yN es)(hb:lB bs):
 anZ th (bH th m fu fr fs l es bs).1 (bH th m fu fr fs l es bs).2.1 (bH th m fu fr fs l es bs).2.2.1 (bH th m fu fr fs l es bs).2.2.2.2.1:=by
 have hbb:=anY hb;have nil:lB ([]:List Br):=λb hb=>by cases hb
 unfold bH;split;exact⟨hd,hf,zero_le _,nil,noB⟩;split;have⟨a,b⟩:=acs (fs:=fs) (l:=l) (es:=es) (bs:=ae bs) hd hf;refine⟨a,b,by show 1<=2;omega,λx hx=> ?_,λx hx=> ?_⟩;rw[mem_singleton.1 hx];exact acu he hbb;rw[mem_singleton.1 hx];exact agZ hf;split;exact⟨hd,hf,zero_le _,nil,noB⟩;have⟨s1,s2⟩:=aq6 (l:=l) (bs:=ae bs) he;have⟨s3,s4⟩:=aq7 (l:=l) (es:=es) hbb;have⟨a,b⟩:=acs (fs:=fs) (l:=b8 l es (ae bs)) (es:=bu l es (ae bs)) (bs:=bA l es (ae bs)) hd hf;simp only[];split;exact⟨a,b,zero_le _,nil,noB⟩;have⟨c,d⟩:=acs (fs:=(bW th m fu fr fs (b8 l es (ae bs)) (bu l es (ae bs)) (bA l es (ae bs))).2.2.2.1) (l:=b8 l es (ae bs)) (es:=dj l es (ae bs)) (bs:=dw l es (ae bs)) a b;refine⟨c,d,le_refl 2,λx hx=> ?_,λx hx=> ?_⟩;rcases mem_cons.1 hx with rfl|hx;exact acu s1 s3;rw[mem_singleton.1 hx];exact acu s2 s4;rcases mem_cons.1 hx with rfl|hx;exact agZ hf;rw[mem_singleton.1 hx];exact agZ b
theorem an0{key:ByteArray}{op:Option ByteArray}{es:List En}(hk:key.size<=24)(he:yN es):yN (doE key op es):=by
 cases op with
 |some v=>
  show yN (bN es key v);intro x hx;unfold bN at hx;rcases mem_append.1 hx with hx|hx;exact he x (List.mem_of_mem_take hx);rcases mem_cons.1 hx with rfl|hx;exact hk;exact he x (List.mem_of_mem_drop hx)
 |none=>
  show yN (if iT es key=true then cH es key else []);split;exact λx hx=>he x (List.mem_filter.1 hx).1;exact λx hx=>by cases hx
theorem p9{key:ByteArray}{op:Option ByteArray}{es:List En}(hk:key.size<=24)(hv:∀v,op=some v->v.size<=100)(hl:es.length<=126)(he:bx es):bx (doE key op es):=by
 cases op with
 |some v=>
  have hv:=hv v rfl;show bx (bN es key v);refine⟨by rw[aci];split<;>omega,λx hx=> ?_⟩;unfold bN at hx;rcases mem_append.1 hx with hx|hx;exact he.2 x (List.mem_of_mem_take hx);rcases mem_cons.1 hx with rfl|hx;exact⟨by show key.size<=1000;omega,by show v.size<=1000;omega⟩;exact he.2 x (List.mem_of_mem_drop hx)
 |none=>
  show bx (if iT es key=true then cH es key else []);split;exact⟨le_trans (List.length_filter_le _ _) he.1,λx hx=>he.2 x ((List.mem_filter.1 hx).1)⟩;exact ji
theorem ag0{k:ByteArray}{r:List Br}(hk:k.size<=24)(h:lB r):lB (mi k r):=by
 cases r with
 |nil=>exact h|cons b r=>
  intro x hx;rcases mem_cons.1 hx with rfl|hx;exact hk;exact h x (mem_cons_of_mem _ hx)
theorem yO(k:ByteArray)(r:List Br):(mi k r).length=r.length:=by cases r<;>rfl
theorem rz{bs:List Br}(hb:lB bs)(k:Nat):(bs.getD k dB).1.size<=24:=by
 rcases lt_or_ge k bs.length with h|h;rw[ba h];exact hb _ (getElem_mem h);rw[List.getD,getElem?_eq_none h];exact zero_le _
theorem aiI{bs r:List Br}{k:Nat}{s:ByteArray}(hb:lB bs)(hk:lB r)(hs:s.size<=24):lB (bs.take k++mi s r++bs.drop (k+1)):=λx hx=>by
 rcases mem_append.1 hx with hx|hx;rcases mem_append.1 hx with hx|hx;exact hb x (List.mem_of_mem_take hx);exact ag0 hs hk x hx;exact hb x (List.mem_of_mem_drop hx)
theorem yP{bs r:List Br}{k:Nat}{s:ByteArray}(hb:lB bs)(hl:bs.length<=84)(hr:r.length<=2)(hk:lB r)(hs:s.size<=24):bz (bs.take k++mi s r++bs.drop (k+1)):=by
 refine⟨?_,λx hx=>le_trans (aiI hb hk hs x hx) (by omega)⟩;rw[length_append,length_append,yO,length_take,length_drop];omega
theorem aeF{l:Bool}{es:List En}{bs:List Br}(h:dD l es bs=true):yN es/\lB bs:=by
 have⟨_,_,h1,h2⟩:=ew h;exact⟨λx hx=>(agF h1 hx).1,λx hx=>(aei h2 hx).1⟩
theorem tm{th:Th}{key:ByteArray}{op:Option ByteArray}(hk:key.size≤24):∀(f:Nat) {m:As} {fu:Int} {fr fs gn:Ws} {n ad:Int},Ds.bm th m fu→Bx.okW fr→
 anZ th (rp th key op f m fu fr fs gn n ad) (rq th key op f m fu fr fs gn n ad) (rr th key op f m fu fr fs gn n ad) (vX th key op f m fu fr fs gn n ad)
 |0,m,fu,fr,fs,gn,n,ad,hd,hf=>⟨hd,hf,zero_le _,noB,noB⟩
 |f+1,m,fu,fr,fs,gn,n,ad,hd,hf=>by
  have nil:lB ([]:List Br):=fun b hb=>by cases hb
  unfold rp rq rr vX yF;split;exact⟨hd,hf,zero_le _,nil,noB⟩;rename_i h0;obtain⟨hm,_⟩:=fp (by simpa using h0);obtain⟨n3,n4⟩:=aeF hm;split;split;exact⟨hd,hf,zero_le _,nil,noB⟩;exact pA hd hf (an0 hk n3) n4;split;exact⟨hd,hf,zero_le _,nil,noB⟩;simp only[];have r:=tm (op:=op) hk f (fs:=fs) (gn:=gn) (n:=((aX th m n ad).getD (bg (aX th m n ad) key).toNat dB).2.1) (ad:=ad+1) hd hf;split;exact⟨r.d,r.fr,zero_le _,nil,noB⟩;exact pA r.d r.fr n3 (aiI n4 r.key (rz n4 _))
theorem gN{th:Th}{key:ByteArray}{op:Option ByteArray}{f:Nat}{m:As}{fu:Int}{fr fs gn:Ws}{n ad:Int}:yF th key op (f+1) m fu fr fs gn n ad=
 if gy th m n ad≠0 then(m,fu,fr,fs,gn,[],gy th m n ad)
 else if lH th m n ad=true then
  if tC key op (bZ th m n ad)≠0 then(m,fu,fr,fs,gn,[],tC key op (bZ th m n ad))
  else iM (rj fs gn n) (bH th m fu fr (jV fs n) true (doE key op (bZ th m n ad)) (aX th m n ad))
 else if aX th m n ad=[]then(m,fu,fr,fs,gn,[],4)
 else if uK th key op f m fu fr fs gn ((aX th m n ad).getD (bg (aX th m n ad) key).toNat dB).2.1 (ad+1)≠0 then
  (rp th key op f m fu fr fs gn ((aX th m n ad).getD (bg (aX th m n ad) key).toNat dB).2.1 (ad+1),rq th key op f m fu fr fs gn ((aX th m n ad).getD (bg (aX th m n ad) key).toNat dB).2.1 (ad+1),
   rr th key op f m fu fr fs gn ((aX th m n ad).getD (bg (aX th m n ad) key).toNat dB).2.1 (ad+1),ta th key op f m fu fr fs gn ((aX th m n ad).getD (bg (aX th m n ad) key).toNat dB).2.1 (ad+1),
   uJ th key op f m fu fr fs gn ((aX th m n ad).getD (bg (aX th m n ad) key).toNat dB).2.1 (ad+1),[],uK th key op f m fu fr fs gn ((aX th m n ad).getD (bg (aX th m n ad) key).toNat dB).2.1 (ad+1))
 else iM (rj (ta th key op f m fu fr fs gn ((aX th m n ad).getD (bg (aX th m n ad) key).toNat dB).2.1 (ad+1)) (uJ th key op f m fu fr fs gn ((aX th m n ad).getD (bg (aX th m n ad) key).toNat dB).2.1 (ad+1)) n)
  (bH th (rp th key op f m fu fr fs gn ((aX th m n ad).getD (bg (aX th m n ad) key).toNat dB).2.1 (ad+1)) (rq th key op f m fu fr fs gn ((aX th m n ad).getD (bg (aX th m n ad) key).toNat dB).2.1 (ad+1))
    (rr th key op f m fu fr fs gn ((aX th m n ad).getD (bg (aX th m n ad) key).toNat dB).2.1 (ad+1)) (jV (ta th key op f m fu fr fs gn ((aX th m n ad).getD (bg (aX th m n ad) key).toNat dB).2.1 (ad+1)) n) false (bZ th m n ad)
    ((aX th m n ad).take (bg (aX th m n ad) key).toNat++mi ((aX th m n ad).getD (bg (aX th m n ad) key).toNat dB).1 (vX th key op f m fu fr fs gn ((aX th m n ad).getD (bg (aX th m n ad) key).toNat dB).2.1 (ad+1))++(aX th m n ad).drop ((bg (aX th m n ad) key).toNat+1))):=rfl
def axX(bs r:List Br)(k:Int):List Br:=cI [(List.drop (Int.toNat 0) (List.take k.toNat bs),()),(r,()),(List.drop (k+1).toNat (List.take (bs.length:Int).toNat bs),())]
theorem aeG{bs r:List Br}{k:Int}(h0:0<=k):axX bs r k=bs.take k.toNat++r++bs.drop (k.toNat+1):=by
 show List.drop 0 (List.take k.toNat bs)++(r++(List.drop (k+1).toNat (List.take (bs.length:Int).toNat bs)++[]))=_;rw[append_nil,List.drop_zero,append_assoc,show(bs.length:Int).toNat=bs.length from rfl,List.take_length,show(k+1).toNat=k.toNat+1 from by omega]
theorem an1{th:Th}{m:As}{fu aa:Int}{fr fs gn:Ws}{n ad:Int}{key val:ByteArray}{f:Nat}{c:Chg}(e:yF th key (some val) f m fu fr fs gn n ad=c):
 (zN f).dN ((th,m,fu,aa,fr,fs,gn),n,ad,key,val)=lz th c.1 c.2.1 aa c.2.2.1 c.2.2.2.1 c.2.2.2.2.1 key val++[.vec (.au cB c.2.2.2.2.2.1) Lf.eB]/\(zN f).out ((th,m,fu,aa,fr,fs,gn),n,ad,key,val)=.bq [.vec 6,aM c.2.2.2.2.2.2]:=by
 subst e;exact⟨rfl,rfl⟩
theorem akK{th:Th}{m:As}{fu aa:Int}{fr fs gn:Ws}{n ad:Int}{key val:ByteArray}{f:Nat}{c:Chg}(e:yF th key none f m fu fr fs gn n ad=c):
 (zO f).dN ((th,m,fu,aa,fr,fs,gn),n,ad,key,val)=jK th c.1 c.2.1 aa c.2.2.1 c.2.2.2.1 c.2.2.2.2.1 key++[.vec (.au cB c.2.2.2.2.2.1) Lf.eB]/\(zO f).out ((th,m,fu,aa,fr,fs,gn),n,ad,key,val)=.bq [.vec 5,aM c.2.2.2.2.2.2]:=by
 subst e;exact⟨rfl,rfl⟩
theorem uM{bs:List Br}{key:ByteArray}(hs:jt (nN bs))(h:bs≠[]):0<=bg bs key/\bg bs key<(bs.length:Int):=by
 have⟨p,e,hp,_⟩:=yp (ks:=nN bs) (key:=key) hs (by cases bs with|nil=>exact absurd rfl h|cons b r=>simp);unfold bg;rw[e];rw[length_map]at hp;exact⟨by omega,by omega⟩
theorem aeH{r:List Br}{k:ByteArray}(h:0<r.length):(r.set 0 (k,(r.getD 0 (CL.d [CK.str,CK.int i64])).snd):List Br)=mi k r:=by
 cases r with
 |nil=>simp at h|cons b r=>rfl
theorem rA{n:Int}(h0: -65537<=n)(h1:n<=65537):aA n:=⟨by omega,by omega⟩
theorem uN{th:Th}{m:As}{n ad:Int}(h:gy th m n ad=0)(k:Nat):0<=((aX th m n ad).getD k dB).2.1/\((aX th m n ad).getD k dB).2.1<=65536:=by
 have⟨hm,_⟩:=fp h;rcases lt_or_ge k (aX th m n ad).length with hk|hk;have:=aei (ew hm).2.2.2 (getElem_mem hk);rw[ba hk];omega;rw[List.getD,getElem?_eq_none hk];exact⟨Int.le_refl 0,by show(0:Int)<=65536;omega⟩
theorem an2{f:Nat}(h:fI P Bx.bO 93 (zN f)):(qF f).Ok P Bx.bO:=aK.Ok.cons (p6.sum mNo) (aK.Ok.cons (yG.sum mLv) (aK.Ok.cons (jj (gT (kI.sum mTN) 1 _) 1) (aK.Ok.cons ano.xR (aK.Ok.cons yl.sum (aK.Ok.cons uH.sum (aK.Ok.cons (h.sum aq1) aK.Ok.nil))))))
section
variable{th:Th}{m:As}{fu aa:Int}{fr fs gn:Ws}{n ad:Int}{key val:ByteArray}{f:Nat}{X:Ctx}
theorem aeI{th:Th}{m:As}{fu aa:Int}{fr fs gn:Ws}{key val:ByteArray}:∀y∈agV,(lz th m fu aa fr fs gn key val).length<=y.2.m:=λy hy=>by
 simp only[agV,mem_cons,List.not_mem_nil,or_false]at hy;rcases hy with rfl|rfl|rfl|rfl<;>exact le_refl _
theorem aiJ(hz:dZ Bx.bO X)(hX:X.H=lk (lz th m fu aa fr fs gn key val))(T:(qF f).Ok P Bx.bO){m':As}{ft:Int}{zP rE gn':Ws}{l:Bool}{es:List En}{bs:List Br}{k:Int}{r:List Br}(hd:Ds.bm th m' ft)(hf:Bx.okW zP)(hl:l=false/\es=[])(he:bx es)
 (hb:bz (bs.take k.toNat++r++bs.drop (k.toNat+1))) (hk0:0<=k) (vR:k<(bs.length:Int)) (hbl:bs.length<=84)
 (e:yF th key (some val) (f+1) m fu fr fs gn n ad=iM (rj rE gn' n) (bH th m' ft zP (jV rE n) l es (bs.take k.toNat++r++bs.drop (k.toNat+1)))):
 Safe P 93 X (zM (zN (f+1)) ((th,m,fu,aa,fr,fs,gn),n,ad,key,val)) (aiE th m' ft aa zP rE gn' n key val l es bs k r):=by
 rw[<-aeG hk0]at hb e;have hjl:=hb.1;have⟨f1,f2⟩:=an1 (aa:=aa) (val:=val) e;refine Ds.cF hz hX aeI T func93 (avG f th m' ft aa zP rE gn' n key val l es bs k r) ⟨by omega,hk0,by omega,⟨by omega,by omega⟩,by omega,by omega,by omega,by show 3<=100;omega, ?_,rfl,rfl,rfl,rfl,hd,hf,⟨λh=>(by rw[hl.1]at h;cases h),λ_=>hl.2⟩,he,hb, ?_⟩;exact le_trans hjl (by omega);exact lO ⟨[],[0,1],6,[]⟩ rfl (le_refl _) (qE.same _) f2 f1
theorem aq8(hz:dZ Bx.bO X)(hX:X.H=lk (lz th m fu aa fr fs gn key val))(T:(qF f).Ok P Bx.bO){m':As}{ft:Int}{zP rE gn':Ws}{l:Bool}{es:List En}{bs:List Br}{k e:Int}{r:List Br}(hd:Ds.bm th m' ft)(hf:Bx.okW zP)(hl:l=false/\es=[])(he:bx es)
 (hb:bz (bs.take k.toNat++mi (bs.getD k.toNat dB).1 r++bs.drop (k.toNat+1))) (hk0:0<=k) (vR:k<(bs.length:Int)) (hbl:bs.length<=84)
 (ee:yF th key (some val) (f+1) m fu fr fs gn n ad=if e≠0 then(m',ft,zP,rE,gn',[],e)else iM (rj rE gn' n) (bH th m' ft zP (jV rE n) l es (bs.take k.toNat++mi (bs.getD k.toNat dB).1 r++bs.drop (k.toNat+1)))):
 Safe P 93 X (zM (zN (f+1)) ((th,m,fu,aa,fr,fs,gn),n,ad,key,val)) (anP th m' ft aa zP rE gn' n key val l es bs k e r):=by
 refine Ds.cF hz hX aeI T func93 (avF f th m' ft aa zP rE gn' n key val l es bs k e r) ⟨λh=> ?_,λh=>⟨λh5=> ?_,λh5=> ?_⟩⟩;have h:e≠0:=by simpa using h
 rw[if_pos h]at ee;have⟨f1,f2⟩:=an1 (aa:=aa) (val:=val) ee;exact lO ⟨[(0,.au cB [],Lf.eB)],[0,1],6,[]⟩ rfl (le_refl _) (qE.same _) f2 f1;have h:¬e≠0:=by simpa using h
 rw[if_neg h]at ee;have h5:=of_decide_eq_true h5;have e5:=aeH (r:=r) (k:=(bs.getD k.toNat dB).1) (by omega);rw[<-e5]at hb ee;exact⟨hk0,vR,by omega,h5,aiJ hz hX T hd hf hl he hb hk0 vR hbl ee⟩;have h:¬e≠0:=by simpa using h
 rw[if_neg h]at ee;have h5:=of_decide_eq_false h5;have e5:r=[]:=List.eq_nil_of_length_eq_zero (by omega);subst e5;exact aiJ hz hX T hd hf hl he hb hk0 vR hbl ee
theorem aq9(hz:dZ Bx.bO X)(hX:X.H=lk (lz th m fu aa fr fs gn key val))(T:(qF f).Ok P Bx.bO)(hd:Ds.bm th m fu)(hf:Bx.okW fr)(h1:1<=ad/\ad<=17)(h2:18<=ad+((f+1:Nat):Int))(hk:1<=key.size/\key.size<=24)(hv:val.size<=100)
 (h:gy th m n ad=0) (hl:lH th m n ad=false):
 Safe P 93 X (zM (zN (f+1)) ((th,m,fu,aa,fr,fs,gn),n,ad,key,val)) (anO th m fu aa fr fs gn n ad key val (lH th m n ad) (bZ th m n ad) (aX th m n ad)):=by
 have⟨hm,n1,n2,n3,n4,n5,_⟩:=fp h;have⟨m1,m2,_,_⟩:=ew hm;have⟨s1,s2⟩:=s7 hm;have hkk:∀v:ByteArray,(some val)=some v->v.size<=100:=λv e=>by cases e;exact hv
 refine Ds.cF hz hX aeI T func93 (avD f th m fu aa fr fs gn n ad key val (lH th m n ad) (bZ th m n ad) (aX th m n ad)) ⟨λh3=> ?_,λh3=> ?_⟩
 have h3:aX th m n ad=[]:=List.eq_nil_of_length_eq_zero (by have:((aX th m n ad).length:Int)=0:=by simpa using h3
                                                            omega)
 have⟨f1,f2⟩:=an1 (val:=val) (aa:=aa) (th:=th) (m:=m) (fu:=fu) (fr:=fr) (fs:=fs) (gn:=gn) (key:=key) (f:=f+1) (n:=n) (ad:=ad) (c:=(m,fu,fr,fs,gn,[],4)) (by rw[gN,if_neg (by rw[h];simp),if_neg (by rw[hl];simp),if_pos h3]);exact lO ⟨[(0,.au cB [],Lf.eB)],[0,1],6,[]⟩ rfl (le_refl _) (qE.same _) f2 f1;have h3:aX th m n ad≠[]:=λe=>by rw[e]at h3;simp at h3
 have⟨p0,p1⟩:=uM (key:=key) s2 h3;have pg:=uN h (bg (aX th m n ad) key).toNat;have acv:=tm (th:=th) (key:=key) (op:=(some val)) hk.2 f (m:=m) (fu:=fu) (fr:=fr) (fs:=fs) (gn:=gn) (n:=((aX th m n ad).getD (bg (aX th m n ad) key).toNat dB).2.1) (ad:=ad+1) hd hf;have hb:=yP (bs:=aX th m n ad) (k:=(bg (aX th m n ad) key).toNat) (aeF hm).2 n2 acv.two acv.key (rz (aeF hm).2 (bg (aX th m n ad) key).toNat);refine⟨by omega,s2,p0,p1,rA (by omega) (by omega),rfl,rfl,hd,hf,pg,⟨by omega,by omega⟩,by omega,hk,hv,aq8 hz hX T acv.d acv.fr ⟨hl,m2 hl⟩ n3 hb p0 p1 n2 ?_⟩;rw[gN,if_neg (by rw[h];simp),if_neg (by rw[hl];simp),if_neg h3,hl];rfl
theorem avO(hz:dZ Bx.bO X)(hX:X.H=lk (lz th m fu aa fr fs gn key val))(T:(qF f).Ok P Bx.bO)(hd:Ds.bm th m fu)(hf:Bx.okW fr)(hk:1<=key.size/\key.size<=24)(hv:val.size<=100)
 (h:gy th m n ad=0) (hl:lH th m n ad=true):
 Safe P 93 X (zM (zN (f+1)) ((th,m,fu,aa,fr,fs,gn),n,ad,key,val)) (axS th m fu aa fr fs gn n key val (bZ th m n ad) (aX th m n ad)):=by
 have⟨hm,n1,n2,n3,n4,n5,_⟩:=fp h;have⟨m1,m2,_,_⟩:=ew hm;have⟨s1,s2⟩:=s7 hm;have hkk:∀v:ByteArray,(some val)=some v->v.size<=100:=λv e=>by cases e;exact hv
 have⟨f1,f2⟩:=an1 (val:=val) (aa:=aa) (th:=th) (m:=m) (fu:=fu) (fr:=fr) (fs:=fs) (gn:=gn) (key:=key) (f:=f+1) (n:=n) (ad:=ad) (c:=iM (rj fs gn n) (bH th m fu fr (jV fs n) true (bN (bZ th m n ad) key val) (aX th m n ad))) (by rw[gN,if_neg (by rw[h];simp),if_pos hl,if_neg (by show¬(0:Int)≠0;simp)];rfl);refine Ds.cF hz hX aeI T func93 (axU f th m fu aa fr fs gn n key val (bZ th m n ad) (aX th m n ad)) ⟨by omega,s1,rfl,rfl,rfl,rfl,hd,hf,⟨λ_=>m1 hl,λe=>by cases e⟩,p9 (op:=some val) hk.2 hkk n1 n3,n4, ?_⟩;exact lO ⟨[],[0,1],6,[]⟩ rfl (le_refl _) (qE.same _) f2 f1
theorem yQ:∀f,fI P Bx.bO 93 (zN f)
 |0=>by
  rintro⟨⟨(th:Th),(m:As),(fu:Int),(aa:Int),(fr:Ws),(fs:Ws),(gn:Ws)⟩,(n:Int),(ad:Int),(key:ByteArray),(val:ByteArray)⟩ ⟨_,_,_,(h1:1<=ad/\ad<=17),(h2:18<=ad+((0:Nat):Int)),_⟩;omega
 |f+1=>by
  have T:=an2 (yQ f);refine gm func93 (by kernel_rfl) (λx=>le_of_ble_eq_true (by kernel_rfl)) ?_;rintro⟨⟨th,m,fu,aa,fr,fs,gn⟩,n,ad,key,val⟩ ⟨(hd:Ds.bm th m fu),(hf:Bx.okW fr),(hn:0<=n/\n<=65536),(h1:1<=ad/\ad<=17),(h2:18<=ad+((f+1:Nat):Int)),(hk:1<=key.size/\key.size<=24),(hv:val.size<=100),_⟩ X hX hz;refine Ds.cF hz hX aeI T func93 (azY f th m fu aa fr fs gn n ad key val) ⟨rfl,rfl,hd,rA (by omega) (by omega),λh=> ?_,λh=>⟨λhl=> ?_,λhl=> ?_⟩⟩;have h:gy th m n ad≠0:=by simpa using h
  have⟨f1,f2⟩:=an1 (val:=val) (aa:=aa) (th:=th) (m:=m) (fu:=fu) (fr:=fr) (fs:=fs) (gn:=gn) (key:=key) (f:=f+1) (n:=n) (ad:=ad) (c:=(m,fu,fr,fs,gn,[],gy th m n ad)) (by rw[gN,if_pos h]);exact lO ⟨[(0,.au cB [],Lf.eB)],[0,1],6,[]⟩ rfl (le_refl _) (qE.same _) f2 f1;have h:gy th m n ad=0:=by simpa using h
  have e:=avO (aa:=aa) (val:=val) (gn:=gn) (fs:=fs) hz hX T hd hf hk hv h hl;rw[hl];exact e;have h:gy th m n ad=0:=by simpa using h
  exact aq9 hz hX T hd hf h1 h2 hk hv h hl
end
end Ts
