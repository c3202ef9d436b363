/- Lemmas: S11, S12, D3, D4, D5c, E1c, P4, P5, P6, S16, S17, S11p, S11q, S12p, F_crash, S15, E_crash. -/
import Derived.Shelf.SortM.Plain
import Derived.Shelf.SortM.SortNone
import Derived.Ground.SlgmProg
import Derived.Test.YtgookenhmddbfaaGreatDoorPE
open Go.Proofs.Tryz
open Go.IntKind (i64 u64 u8)
open Array (length_toList)
open Bool (and_eq_true)
open ByteArray (empty)
open Int (toNat_natCast)
open List (append_assoc append_nil getElem?_eq_none getElem_mem length_append length_cons length_drop length_map length_nil length_set length_take mem_cons mem_cons_of_mem mem_cons_self mem_map mem_range mem_singleton nil_append pairwise_cons replicate take_of_length_le)
open Nat (add_zero le_of_ble_eq_true le_refl zero_add zero_le)
open Option (map_eq_some_iff)
noncomputable section
namespace Ts
open Go Go.Sx Go.Proofs Lf
abbrev iZ:List CK:=[.int .u8,.str,.str,.int .i64,.bF,.int .i64,.int .i64]
abbrev xK(x:CL iZ):Int:=x.1
abbrev xA(x:CL iZ):ByteArray:=x.2.1
abbrev xV(x:CL iZ):ByteArray:=x.2.2.1
abbrev xN(x:CL iZ):Int:=x.2.2.2.1
abbrev xB(x:CL iZ):List Bool:=x.2.2.2.2.1
abbrev xT(x:CL iZ):Int:=x.2.2.2.2.2.1
abbrev xC(x:CL iZ):Int:=x.2.2.2.2.2.2.1
abbrev av8(l:List (CL iZ)):AV:=.s (.ro (.au iZ l))
def asf:List (Nat×Norm):=[(3,⟨[(7,.au cE [],Lf.eE)],[0,1,2,7,8],0,[]⟩)]
def cPu(l:List En)(key val:ByteArray)(i:Int):bP:=⟨sl 54 [(0,.s (.ro (.au cE l))),(1,.s (.str key)),(2,.s (.str val)),(7,.vec 0),(8,aM i)],[.vec (.au cE []) Lf.eE],hd f26 3,{}⟩
def ash:List (Nat×Norm):=[(3,⟨[(5,.au cE [],Lf.eE)],[0,1,5,6],0,[]⟩)]
def cDe(l out:List En)(key:ByteArray)(i:Int):bP:=⟨sl 28 [(0,.s (.ro (.au cE l))),(1,.s (.str key)),(5,.vec 0),(6,aM i)],[.vec (.au cE out) Lf.eE],hd f28 3,{}⟩
def asi:List (Nat×Norm):=[(4,⟨[],[0,3],0,[]⟩)]
def cL8(l:List (CL iZ))(i:Int):bP:=⟨sl 38 [(0,av8 l),(3,aM i)],[],hd f4 4,{}⟩
abbrev sL8:Spec (List (CL iZ)):=⟨λl=>[av8 l],λ_=>[],λl=>[l.length<=9223372036854775807],λ_=>[],λl=>.s (.lI (l.length - 120) false)⟩
abbrev ayM:Type:=Sd×List En
abbrev ahe:Spec ayM:=⟨λ(_,w)=>[.ptr 0 0,.s (.ro (.au cE w))],λ(s,_)=>wO s,λ(s,w)=>[Ds.bm s.th s.m s.fu,0<=s.aa/\s.aa<=65536,vZ s.th s.m s.aa empty=0,(m8 s.th s.m s.aa empty).length<=1000,w.length<=1000],λ(s,_)=>wO s,λ(s,w)=>.s (.bool (decide (m8 s.th s.m s.aa empty=w)))⟩
def ahf:aK:=[(25,bY ayA mSK)]
def ajj:List (Nat×Norm):=[(5,⟨[],[1,5,7],5,[]⟩)]
def asj(th:Th)(m:As)(fu wh ep pg:Int)(br:Ws)(aa:Int)(fr fs gn:Ws)(w zn:List En)(i:Int):bP:=⟨sl 37 [(1,.s (.ro (.au cE w))),(5,.vec 5),(7,aM i)],jM th m fu wh true ep pg br aa fr fs gn++[.vec (.au cE zn) Lf.eE],hd f11 5,{}⟩
def aoY:aK:=[(20,bY sFo mFo),(10,bY uT Ds.sG)]
def awh:List (Nat×Norm):=[(4,⟨[],[4],0,[]⟩)]
def cBg(th:Th)(m:As)(fu:Int):bP:=⟨sl 29 [(4,.ptr 0 0)],Ds.hD th m fu,hr f6 4,{}⟩
abbrev sPu:Spec (List En×ByteArray×ByteArray):=⟨λ(l,key,val)=>[.s (.ro (.au cE l)),.s (.str key),.s (.str val)],λ_=>[],λ(l,_,_)=>[l.length<=1000],λ(l,key,val)=>[.vec (.au cE (bN l key val)) Lf.eE],λ_=>.vec 0⟩
abbrev sDe:Spec (List En×ByteArray):=⟨λ(l,key)=>[.s (.ro (.au cE l)),.s (.str key)],λ_=>[],λ(l,_)=>[l.length<=1000],λ(l,key)=>[.vec (.au cE (cH l key)) Lf.eE],λ_=>.vec 0⟩
def mPu:List AV->RM ((List En×ByteArray×ByteArray)×List Nat)
 |[.s (.ro (.au [.str,.str] l)),.s (.str key),.s (.str val)]=>.ret ((l,key,val),[])|_=>.fail ""
def mDe:List AV->RM ((List En×ByteArray)×List Nat)
 |[.s (.ro (.au [.str,.str] l)),.s (.str key)]=>.ret ((l,key),[])|_=>.fail ""
def mL8:List AV->RM (List (CL iZ)×List Nat)
 |[.s (.ro (.au [.int .u8,.str,.str,.int .i64,.bF,.int .i64,.int .i64] l))]=>.ret (l,[])|_=>.fail ""
def ayN:List AV->RM (ayM×List Nat)
 |[s,.s (.ro (.au [.str,.str] w))]=>(mSs [s]).bind λ(X,σ)=>.ret ((X,w),σ)|_=>.fail ""
abbrev hBg(s:Sd):List ak:=[Ds.jI 2 3 s.fu,fy 0 s.wh true s.ep s.pg s.br (.ptr 4 0),.vec (.au Ds.cS s.th) Ds.eS,.map Ds.kS s.m,fL 0 s.aa s.fr s.fs s.gn]
abbrev sBg:Spec Int:=⟨λn=>[aM n],λ_=>[],λn=>[3<=n/\n<=1000],λn=>hBg (fmS n),λ_=>.bq [.ptr 0 0,.ptr 1 0]⟩
def mBg:List AV->RM (Int×List Nat)
 |[n]=>match n.cC with
  |some (_,_,n)=>.ret (n,[])|_=>.fail ""
 |_=>.fail ""
abbrev ayO:=sumOf [] [dg] (λ_=>[]) (λ_=>(true,()))
theorem aAL(l:List En)(key val:ByteArray):run P (aK.sum []) f26 asf (start f26 [.s (.ro (.au cE l)),.s (.str key),.s (.str val)] [])=
 Tree.at (cPu l key val 0):=by kernel_rfl
theorem ayP(l:List En)(key val:ByteArray)(i:Int):run P (aK.sum []) f26 asf (cPu l key val i)=
 Tree.ite (decide (i<l.length)) (.ab ((0:Int)<=i) (.ab (i<l.length) (.ite (slt (l.getD i.toNat (CL.d cE)).fst key) (.ab (aA (i+1)) (.at (cPu l key val (i+1)))) (.ab ((0:Int)<=0) (.ab ((0:Int)<=i) (.ab (i<=l.length) (.ab (((0:Nat)+(List.drop (Int.toNat 0) (List.take i.toNat l)).length)*(32:Nat)<=140737488355328) (.ab ((([]++List.drop (Int.toNat 0) (List.take i.toNat l)).length+1)*(32:Nat)<=140737488355328) (.ite (decide (i<l.length)) (.ab ((0:Int)<=i) (.ab (i<l.length) (.ite (decide ((l.getD i.toNat (CL.d cE)).fst=key)) (.ab (aA (i+1)) (.ab ((0:Int)<=i+1) (.ab (i+1<=(↑l.length:Int)) (.ab ((↑l.length:Int)<=(↑l.length:Int)) (.ab ((([]++List.drop (Int.toNat 0) (List.take i.toNat l)++[(key,val,())]).length+(List.drop (i+1).toNat (List.take (↑l.length:Int).toNat l)).length)*(32:Nat)<=140737488355328) (.ret [.aw,.aw,.vec (.au cE [(key,val,())]) 76,.aw,.vec (.au cE ([]++List.drop (Int.toNat 0) (List.take i.toNat l)++[(key,val,())]++List.drop (i+1).toNat (List.take (↑l.length:Int).toNat l))) 76] (.vec 4))))))) (.ab ((0:Int)<=i) (.ab (i<=l.length) (.ab ((↑l.length:Int)<=(↑l.length:Int)) (.ab ((([]++List.drop (Int.toNat 0) (List.take i.toNat l)++[(key,val,())]).length+(List.drop i.toNat (List.take (↑l.length:Int).toNat l)).length)*(32:Nat)<=140737488355328) (.ret [.aw,.aw,.vec (.au cE [(key,val,())]) 76,.aw,.vec (.au cE ([]++List.drop (Int.toNat 0) (List.take i.toNat l)++[(key,val,())]++List.drop i.toNat (List.take (↑l.length:Int).toNat l))) 76] (.vec 4))))))))) (.ab ((0:Int)<=i) (.ab (i<=l.length) (.ab ((↑l.length:Int)<=(↑l.length:Int)) (.ab ((([]++List.drop (Int.toNat 0) (List.take i.toNat l)++[(key,val,())]).length+(List.drop i.toNat (List.take (↑l.length:Int).toNat l)).length)*(32:Nat)<=140737488355328) (.ret [.aw,.aw,.vec (.au cE [(key,val,())]) 76,.aw,.vec (.au cE ([]++List.drop (Int.toNat 0) (List.take i.toNat l)++[(key,val,())]++List.drop i.toNat (List.take (↑l.length:Int).toNat l))) 76] (.vec 4)))))))))))))))
 (.ab ((0:Int)<=0) (.ab ((0:Int)<=i) (.ab (i<=l.length) (.ab (((0:Nat)+(List.drop (Int.toNat 0) (List.take i.toNat l)).length)*(32:Nat)<=140737488355328) (.ab ((([]++List.drop (Int.toNat 0) (List.take i.toNat l)).length+1)*(32:Nat)<=140737488355328) (.ite (decide (i<l.length)) (.ab ((0:Int)<=i) (.ab (i<l.length) (.ite (decide ((l.getD i.toNat (CL.d cE)).fst=key)) (.ab (aA (i+1)) (.ab ((0:Int)<=i+1) (.ab (i+1<=(↑l.length:Int)) (.ab ((↑l.length:Int)<=(↑l.length:Int)) (.ab ((([]++List.drop (Int.toNat 0) (List.take i.toNat l)++[(key,val,())]).length+(List.drop (i+1).toNat (List.take (↑l.length:Int).toNat l)).length)*(32:Nat)<=140737488355328) (.ret [.aw,.aw,.vec (.au cE [(key,val,())]) 76,.aw,.vec (.au cE ([]++List.drop (Int.toNat 0) (List.take i.toNat l)++[(key,val,())]++List.drop (i+1).toNat (List.take (↑l.length:Int).toNat l))) 76] (.vec 4))))))) (.ab ((0:Int)<=i) (.ab (i<=l.length) (.ab ((↑l.length:Int)<=(↑l.length:Int)) (.ab ((([]++List.drop (Int.toNat 0) (List.take i.toNat l)++[(key,val,())]).length+(List.drop i.toNat (List.take (↑l.length:Int).toNat l)).length)*(32:Nat)<=140737488355328) (.ret [.aw,.aw,.vec (.au cE [(key,val,())]) 76,.aw,.vec (.au cE ([]++List.drop (Int.toNat 0) (List.take i.toNat l)++[(key,val,())]++List.drop i.toNat (List.take (↑l.length:Int).toNat l))) 76] (.vec 4))))))))) (.ab ((0:Int)<=i) (.ab (i<=l.length) (.ab ((↑l.length:Int)<=(↑l.length:Int)) (.ab ((([]++List.drop (Int.toNat 0) (List.take i.toNat l)++[(key,val,())]).length+(List.drop i.toNat (List.take (↑l.length:Int).toNat l)).length)*(32:Nat)<=140737488355328) (.ret [.aw,.aw,.vec (.au cE [(key,val,())]) 76,.aw,.vec (.au cE ([]++List.drop (Int.toNat 0) (List.take i.toNat l)++[(key,val,())]++List.drop i.toNat (List.take (↑l.length:Int).toNat l))) 76] (.vec 4)))))))))))):=by kernel_rfl
theorem aAM(l:List En)(key:ByteArray):run P (aK.sum []) f28 ash (start f28 [.s (.ro (.au cE l)),.s (.str key)] [])=
 Tree.at (cDe l [] key 0):=by kernel_rfl
theorem ayQ(l out:List En)(key:ByteArray)(i:Int):run P (aK.sum []) f28 ash (cDe l out key i)=
 Tree.ite (decide (i<l.length)) (.ab ((0:Int)<=i) (.ab (i<l.length) (.ite (!decide ((l.getD i.toNat (CL.d cE)).fst=key)) (.ab ((0:Int)<=i) (.ab (i<l.length) (.ab ((out.length+1)*(32:Nat)<=140737488355328) (.ab (aA (i+1)) (.at (cDe l (out++[((l.getD i.toNat (CL.d cE)).fst,(l.getD i.toNat (CL.d cE)).snd.fst,())]) key (i+1))))))) (.ab (aA (i+1)) (.at (cDe l out key (i+1))))))) (.ret [.vec (.au cE out) 76] (.vec 0)):=by kernel_rfl
theorem aAN(l:List (CL iZ)):run P (aK.sum []) f4 asi (start f4 [av8 l] [])=
 Tree.ite (decide ((↑l.length:Int)>120)) (.ret [] (.s (.aI true))) (.at (cL8 l 0)):=by kernel_rfl
theorem ayR(l:List (CL iZ))(i:Int):run P (aK.sum []) f4 asi (cL8 l i)=
 Tree.ite (decide (i<l.length)) (.ab ((0:Int)<=i) (.ab (i<l.length) (.ite (decide ((↑(xA (el l i)).size:Int)>100)) (.ret [] (.s (.aI true))) (.ab ((0:Int)<=i) (.ab (i<l.length) (.ite (decide ((↑(xV (el l i)).size:Int)>300)) (.ret [] (.s (.aI true))) (.ab ((0:Int)<=i) (.ab (i<l.length) (.ite (decide ((↑(xB (el l i)).length:Int)>400)) (.ret [] (.s (.aI true))) (.ab (aA (i+1)) (.at (cL8 l (i+1))))))))))))) (.ret [] (.s (.aI false))):=by kernel_rfl
theorem ayS(th:Th)(m:As)(fu wh ep pg:Int)(br:Ws)(aa:Int)(fr fs gn:Ws)(w:List En):run P ahf.sum f11 ajj (start f11 [.ptr 0 0,.s (.ro (.au cE w))] (jM th m fu wh true ep pg br aa fr fs gn))=
 Tree.ab (bp (some [AV.ptr 0 0,.s (.str empty)])) (.ab (bp (some (jM th m fu wh true ep pg br aa fr fs gn))) (.ab (Ds.bm th m fu) (.ab ((0:Int)<=aa/\aa<=65536) (.ite (vZ th m aa empty !=0) (.ret (jM th m fu wh true ep pg br aa fr fs gn++[.vec (.au cE (m8 th m aa empty)) 76]) (.s (.aI false))) (.ite ((↑(m8 th m aa empty).length:Int) !=(↑w.length:Int)) (.ret (jM th m fu wh true ep pg br aa fr fs gn++[.vec (.au cE (m8 th m aa empty)) 76]) (.s (.aI false))) (.at (asj th m fu wh ep pg br aa fr fs gn w (m8 th m aa empty) 0))))))):=by kernel_rfl
theorem atA(th:Th)(m:As)(fu wh ep pg:Int)(br:Ws)(aa:Int)(fr fs gn:Ws)(w zn:List En)(i:Int):run P ahf.sum f11 ajj (asj th m fu wh ep pg br aa fr fs gn w zn i)=
 Tree.ite (decide (i<zn.length)) (.ab ((0:Int)<=i) (.ab (i<zn.length) (.ab ((0:Int)<=i) (.ab (i<w.length) (.ite (!(decide ((zn.getD i.toNat (CL.d cE)).fst=(w.getD i.toNat (CL.d cE)).fst)&&(decide ((zn.getD i.toNat (CL.d cE)).snd.fst=(w.getD i.toNat (CL.d cE)).snd.fst)&&true))) (.ret (jM th m fu wh true ep pg br aa fr fs gn++[.vec (.au cE zn) 76]) (.s (.aI false))) (.ab (aA (i+1)) (.at (asj th m fu wh ep pg br aa fr fs gn w zn (i+1))))))))) (.ret (jM th m fu wh true ep pg br aa fr fs gn++[.vec (.au cE zn) 76]) (.s (.aI true))):=by kernel_rfl
theorem aAO(n:Int):run P aoY.sum f6 awh (start f6 [aM n] []) (inl:=[19])=
 Tree.ab (aA ((4:Int)*n)) (.ite (decide ((4:Int)*n<1)) (.ret [] (.bq [.s .jv,.s .jv])) (.ite (decide ((4:Int)*n>4096)) (.ret [] (.bq [.s .jv,.s .jv])) (.ab ((0:Int)<=4*n) (.ab ((4:Int)*n<=4*n) (.ab ((4:Int)*n<=1073741824) (.ab (bp (some [AV.ptr 0 0])) (.ab (bp (some (Ds.hD (replicate ((4:Int)*n).toNat (CL.d [.arr .u8 64])) [] (-1)))) (.ab (Ds.bm (replicate ((4:Int)*n).toNat (CL.d [.arr .u8 64])) [] (-1)) (.ab (marks=marks) (.ite ((tD (replicate ((4:Int)*n).toNat (CL.d [.arr .u8 64])) [] (-1) marks).snd.snd.snd !=0) (.ret [.vec (.au [.arr .u8 64] (tD (replicate ((4:Int)*n).toNat (CL.d [.arr .u8 64])) [] (-1) marks).fst) 60,.map Ds.kS (tD (replicate ((4:Int)*n).toNat (CL.d [.arr .u8 64])) [] (-1) marks).snd.fst,Ds.jI 0 1 ((tD (replicate ((4:Int)*n).toNat (CL.d [.arr .u8 64])) [] (-1) marks).snd.snd.fst)] (.bq [.s .jv,.s .jv])) (.at (cBg (tD (replicate ((4:Int)*n).toNat (CL.d [.arr .u8 64])) [] (-1) marks).fst (tD (replicate ((4:Int)*n).toNat (CL.d [.arr .u8 64])) [] (-1) marks).snd.fst (tD (replicate ((4:Int)*n).toNat (CL.d [.arr .u8 64])) [] (-1) marks).snd.snd.fst)))))))))))):=by kernel_rfl
theorem aAP(th:Th)(m:As)(fu:Int):run P aoY.sum f6 awh (cBg th m fu) (inl:=[19])=
 Tree.ab (bp (some [AV.ptr 0 0])) (.ab (bp (some (Ds.hD th m fu))) (.ab (Ds.bm th m fu) (.ab ((3:Int)<=Ds.eF th) (.ab ((dG th m).snd.fst=true) (.ab (nF th m (dG th m).snd.snd.snd) (.ite false (.ret (Ds.hD th m fu++[.aq [.ptr 0 0,aM ((dG th m).fst),.s (.bool true),aM ((dG th m).snd.snd.fst),aM ((dG th m).snd.snd.snd),.ah .u64 16 (dR th m (dG th m).snd.snd.snd),.ptr 4 0] 70,fL 0 ((dG th m).snd.snd.snd) (nQ th (dR th m (dG th m).snd.snd.snd)) Bx.aG Bx.aG]) (.bq [.s .jv,.s .jv])) (.ret (Ds.hD th m fu++[.aq [.ptr 0 0,aM ((dG th m).fst),.s (.bool true),aM ((dG th m).snd.snd.fst),aM ((dG th m).snd.snd.snd),.ah .u64 16 (dR th m (dG th m).snd.snd.snd),.ptr 4 0] 70,fL 0 ((dG th m).snd.snd.snd) (nQ th (dR th m (dG th m).snd.snd.snd)) Bx.aG Bx.aG]) (.bq [.ptr 0 0,.ptr 3 0])))))))):=by kernel_rfl
abbrev eBk:TypeId:=31
abbrev obB(now kept:List En):ak:=.aq [.s (.ro (.au cE now)),.s (.ro (.au cE kept))] eBk
abbrev fDo:FuncId:=12
def kDo(i:Nat):Nat:=(fDo+1)*100000+i
def atB:aK:=[(4,bY sL8 mL8),(5,ayO),(14,bY awb mSt),(13,bY awa mSt),(15,bY awg ayJ),(27,bY ayI ayK),(17,bY av9 mSK),(16,bY ql mSs),(18,bY awf mSs),(10,bY uT Ds.sG),(26,bY sPu mPu),(28,bY sDe mDe),(11,abX 1 (.au cE []) (bY ahe ayN)),(6,bY sBg mBg)]
abbrev hP(s:Sd)(now kept:List En):List ak:=[Ds.jI 3 4 s.fu,fy 0 s.wh true s.ep s.pg s.br (.ptr 5 0),obB now kept,.vec (.au Ds.cS s.th) Ds.eS,.map Ds.kS s.m,fL 0 s.aa s.fr s.fs s.gn]
def roB:List (Nat×Nat×Bool×aU×TypeId):=[(2,0,true,.au cE [],Lf.eE),(2,1,true,.au cE [],Lf.eE)]
def aAQ:List (Nat×Nat×Bool×aU×TypeId):=[(0,0,true,.au cE [],Lf.eE),(0,1,true,.au cE [],Lf.eE)]
abbrev hQ(s:Sd)(now kept:List En):List ak:=[fy 2 s.wh true s.ep s.pg s.br (.ptr 3 0),obB now kept,Ds.jI 4 5 s.fu,fL 2 s.aa s.fr s.fs s.gn,.vec (.au Ds.cS s.th) Ds.eS,.map Ds.kS s.m]
end Ts
namespace Go.Proofs
open Go.RowKit Go.Maps Go.Sort Go.Shelf
def Tryz.akW:Go.Shelf.Ren:=⟨λ|5=>65|8=>91|7=>90|19=>118|20=>119|10=>109|11=>110|12=>111|13=>112|14=>113|15=>114|16=>115|17=>116|18=>117|30=>133|31=>134|32=>135|33=>136|34=>137|35=>138|40=>143|n=>n,λ|23=>57|25=>3|3=>3|32=>37|22=>57|0=>0|44=>172|46=>65|4=>4|36=>165|35=>164|41=>131|5=>5|9=>9|53=>184|57=>188|63=>194|64=>195|n=>n,λ|n=>n⟩
theorem Tryz.atC:Go.Proofs.SlLaysM.n5 Tryz.prog Tryz.akW:={
 mixed:=by kernel_rfl
 f5:=⟨f65.name,by decide,func65.trans (congrArg some (by kernel_rfl))⟩
 f7:=⟨f90.name,by decide,func90.trans (congrArg some (by kernel_rfl))⟩
 f8:=func91.trans (congrArg some (by kernel_rfl))
 f10:=⟨f109.name,by decide,func109.trans (congrArg some (by kernel_rfl))⟩
 f11:=⟨f110.name,by decide,func110.trans (congrArg some (by kernel_rfl))⟩
 f12:=⟨f111.name,by decide,func111.trans (congrArg some (by kernel_rfl))⟩
 f13:=⟨f112.name,by decide,func112.trans (congrArg some (by kernel_rfl))⟩
 f14:=⟨f113.name,by decide,func113.trans (congrArg some (by kernel_rfl))⟩
 f15:=⟨f114.name,by decide,func114.trans (congrArg some (by kernel_rfl))⟩
 f16:=⟨f115.name,by decide,func115.trans (congrArg some (by kernel_rfl))⟩
 f17:=⟨f116.name,by decide,func116.trans (congrArg some (by kernel_rfl))⟩
 f18:=⟨f117.name,by decide,func117.trans (congrArg some (by kernel_rfl))⟩
 f19:=func118.trans (congrArg some (by kernel_rfl))
 f20:=func119.trans (congrArg some (by kernel_rfl))
 f30:=⟨f133.name,by decide,func133.trans (congrArg some (by kernel_rfl))⟩
 f31:=func134.trans (congrArg some (by kernel_rfl))
 f32:=func135.trans (congrArg some (by kernel_rfl))
 f33:=⟨f136.name,by decide,func136.trans (congrArg some (by kernel_rfl))⟩
 f34:=⟨f137.name,by decide,func137.trans (congrArg some (by kernel_rfl))⟩
 f35:=⟨f138.name,by decide,func138.trans (congrArg some (by kernel_rfl))⟩
 f40:=⟨f143.name,by decide,func143.trans (congrArg some (by kernel_rfl))⟩
 t0:=Tryz.underlying0
 a0:=Tryz.isAgg0
 z0:=Tryz.sizeOf0
 v0:=Tryz.zeroValue0
 t3:=Tryz.underlying3
 a3:=Tryz.isAgg3
 z3:=Tryz.sizeOf3
 v3:=Tryz.zeroValue3
 t4:=Tryz.underlying4
 a4:=Tryz.isAgg4
 z4:=Tryz.sizeOf4
 v4:=Tryz.zeroValue4
 t5:=Tryz.underlying5
 a5:=Tryz.isAgg5
 z5:=Tryz.sizeOf5
 v5:=Tryz.zeroValue5
 t9:=Tryz.underlying9
 a9:=Tryz.isAgg9
 z9:=Tryz.sizeOf9
 v9:=Tryz.zeroValue9
 t22:=Tryz.underlying57
 a22:=Tryz.isAgg57
 z22:=Tryz.sizeOf57
 v22:=Tryz.zeroValue57
 t23:=Tryz.underlying57
 a23:=Tryz.isAgg57
 z23:=Tryz.sizeOf57
 v23:=Tryz.zeroValue57
 t25:=Tryz.underlying3
 a25:=Tryz.isAgg3
 z25:=Tryz.sizeOf3
 v25:=Tryz.zeroValue3
 t32:=Tryz.underlying37
 a32:=Tryz.isAgg37
 z32:=Tryz.sizeOf37
 v32:=Tryz.zeroValue37
 t35:=Tryz.underlying164
 a35:=Tryz.isAgg164
 z35:=Tryz.sizeOf164
 v35:=Tryz.zeroValue164
 t36:=Tryz.underlying165
 a36:=Tryz.isAgg165
 z36:=Tryz.sizeOf165
 v36:=Tryz.zeroValue165
 t41:=Tryz.underlying131
 a41:=Tryz.isAgg131
 z41:=Tryz.sizeOf131
 v41:=Tryz.zeroValue131
 t44:=Tryz.underlying172
 a44:=Tryz.isAgg172
 z44:=Tryz.sizeOf172
 v44:=Tryz.zeroValue172
 t46:=Tryz.underlying65
 a46:=Tryz.isAgg65
 z46:=Tryz.sizeOf65
 v46:=Tryz.zeroValue65
 t53:=Tryz.underlying184
 a53:=Tryz.isAgg184
 z53:=Tryz.sizeOf184
 v53:=Tryz.zeroValue184
 t57:=Tryz.underlying188
 a57:=Tryz.isAgg188
 z57:=Tryz.sizeOf188
 v57:=Tryz.zeroValue188
 t63:=Tryz.underlying194
 a63:=Tryz.isAgg194
 z63:=Tryz.sizeOf194
 v63:=Tryz.zeroValue194
 t64:=Tryz.underlying195
 a64:=Tryz.isAgg195
 z64:=Tryz.sizeOf195
 v64:=Tryz.zeroValue195}
end Go.Proofs
namespace Ds
open Go Go.Sx Go.Proofs Lf
section
variable{ρ:Nat->Value}{H H':aS}{G:Nat->Prop}{w w1 w2:World}
theorem akX{r:AV}{v:Value}(h:Good ρ H G w H' r v w1)(os:Array Obj)(hh:w2.heap=w1.heap++os)(ht:w2.tape=w1.tape)(ho:w2.os=w1.os)(hu:w2.output=w1.output):Good ρ H G w H' r v w2:=by
 have⟨aL,s,d,t,f⟩:=h;have bU:w1.heap.size<=w2.heap.size:=by rw[hh,Array.size_append];omega
 have hold:∀i,i<w1.heap.size->w2.heap[i]? =w1.heap[i]? :=λi hi=>by rw[hh,Array.getElem?_append_left hi]
 have st:Step aL H' (aV aL H' G) w1 aL H' (aV aL H' G) w2:=
  ⟨λ_ _ _=>rfl,λ_ o ho=>⟨o,ho,λc' e' e=>⟨c',e',e,rfl,rfl⟩⟩,λb hb=>.inl hb,λb hb _=>hold b hb,bU⟩
 exact⟨aL,⟨λj x hx=>(s.obj j x hx).step st (λb ha hb=>hold b (gQ s ⟨j,x,hx,ha,hb⟩)),s.inj,s.apart,λb hb=>Nat.lt_of_lt_of_le (s.low b hb) bU⟩,af.step st _ _ d,t.trans st,
  ⟨ho.trans f.os,ht.trans f.tape,hu.trans f.output,λb hb hO=>by rw[hold b (Nat.lt_of_lt_of_le hb t.size),f.heap b hb hO]⟩⟩
end
def lC(zs:List Int):List Int:=zs.mergeSort λx y=>decide (x<=y)
abbrev aoZ:Spec (List Int):=⟨λ_=>[.vec 0],λzs=>[.vec (.ah .i64 zs) 3],λzs=>[zs.length<=1000000],λzs=>[.vec (.ah .i64 (lC zs)) 3],λ_=>.bq []⟩
theorem lD(zs:List Int):(lC zs).length=zs.length:=List.length_mergeSort _
theorem asl{Z:bh}:fI P Z 65 aoZ:=by
 rintro(zs:List Int) ⟨(hl:zs.length<=1000000),_⟩ ρ G w vs hz hs hd;obtain⟨v,rest,rfl,hv,h0⟩:=aD.1 hd;obtain rfl:=a8.1 h0;obtain⟨a,cap,rfl,dK,hle,ac0⟩:=iz hs (show lk [.vec (.ah .i64 zs) 3] 0=some _ from rfl) hv;have dT:=hs.obj 0 _ (show lk [.vec (.ah .i64 zs) 3] 0=some _ from rfl);rw[dK]at dT;have⟨a2,qT,g1,g2,g3,g4⟩:=dT;cases g1;have hn:(aU.ah .i64 zs).n=zs.length:=rfl
 have hH:lk (aoZ.dN zs)=aB (lk [.vec (.ah .i64 zs) 3]) 0 (.vec (.ah .i64 (lC zs)) 3):=by
  funext j;cases j with
  |zero=>rfl|succ j=>rfl
 by_cases hc0:cap=0;have hz0:zs=[]:=List.eq_nil_of_length_eq_zero (by rw[hn]at g2;omega);subst hz0;refine(AnyM.slices_Sort_int_none Tryz.atC a cap w).mono ?_;rintro e w' ⟨rfl,rfl⟩;have e0:lC []=[]:=by simp[lC]
 refine⟨_,rfl, ?_⟩;show Sx.Good ρ (lk [.vec (.ah .i64 []) 3]) G w' (lk [.vec (.ah .i64 (lC [])) 3]) (.bq []) undef w';rw[e0];exact Good.val hs cz;obtain⟨b,o,cells,fr,us,rfl,g5,g6,g7,g8⟩:=g4.resolve_left hc0
 have oG:∀j,j<zs.length->cells[o+j]? =some (Value.int .i64 (zs.getD j 0)):=λj hj=>by
  have⟨k1,k2⟩:=g8 j 0 hj Nat.one_pos;simp only[aU.size,Nat.mul_one,add_zero,aU.cell]at k1 k2;rw[k1];generalize us j 0=u at k2 ⊢;cases k2;rfl
 have as2:o+zs.length<=cells.length:=by
  simp only[aU.size,Nat.mul_one]at g7;rw[hn]at g2;omega
 have awi:Sort.Holds (Value.int .i64) w b o zs.toArray:=λj hj=>by
  have hj:j<zs.length:=by simpa using hj
  refine⟨?_,xa g5 (by simpa using g6.unm) (by simp;omega)⟩;rw[de g5,oG j hj];simp[ba hj,hj]
 refine(AnyM.slices_Sort_int Tryz.atC b o cap zs w awi (Array.getElem?_eq_some_iff.1 g5).1 (by omega)).mono ?_;rintro e w' ⟨rfl,n,os,rfl⟩;refine⟨_,rfl, ?_⟩;rw[hH];have afV:(Sort.putCells (Value.int .i64) o (lC zs).toArray cells.toArray).toList.toArray=Sort.putCells (Value.int .i64) o (lC zs).toArray cells.toArray:=by simp
 have iB:(Sort.putRow (Value.int .i64) (Sort.ahead w n) b o (lC zs).toArray).heap=(World.cD w b (.cells (Sort.putCells (Value.int .i64) o (lC zs).toArray cells.toArray).toList.toArray 3 fr)).heap:=by
  rw[afV];show w.heap.modify b _=w.heap.setIfInBounds b _;apply Array.ext_getElem?;intro i;rw[Array.getElem?_modify,Array.getElem?_setIfInBounds];by_cases hi:b=i;subst hi;have bo:=(Array.getElem?_eq_some_iff.1 g5).1;rw[if_pos rfl,if_pos rfl,if_pos bo,g5];rfl;rw[if_neg hi,if_neg hi]
 have mj:eW (ρ 0)=some b:=by
  rw[dK];simp only[eW];rw[if_neg hc0]
 refine akX (w1:=World.cD w b (.cells (Sort.putCells (Value.int .i64) o (lC zs).toArray cells.toArray).toList.toArray 3 fr)) (Good.write hs (show lk [.vec (.ah .i64 zs) 3] 0=some _ from rfl) rfl rfl mj (λc' e' hc=>by cases hc;exact⟨_,_,rfl,lD zs,rfl⟩) ?_ cz) os (by rw[<-iB];rfl) rfl rfl rfl;refine⟨some ⟨b,o,none⟩,cap,by rw[dK];show Value.slice _ zs.length cap=.slice _ (lC zs).length cap;rw[lD],by show(lC zs).length<=cap;rw[lD];exact g2,g3,.inr ⟨b,o,_,fr,λi _=>.int .i64 ((lC zs).getD i 0),rfl,eh g5, ?_, ?_, ?_⟩⟩;refine⟨λoff ho=>g6.1 off (by simpa[Sort.putCells]using ho),λu hu=> ?_⟩;simp only[Sort.putCells,List.mem_iff_getElem?,Array.toList_mapIdx,List.getElem?_mapIdx]at hu;have⟨k,hk⟩:=hu;rw[map_eq_some_iff]at hk;obtain⟨x,hx,rfl⟩:=hk;split;rfl;exact g6.2 _ (List.mem_of_getElem? hx);show o+cap*1<=_;simp only[Sort.putCells,length_toList,Array.size_mapIdx,List.size_toArray];exact g7;intro i j hi hj;have hi:i<zs.length:=by have hi:i<(lC zs).length:=hi;rwa[lD]at hi
 simp only[aU.size]at hj;obtain rfl:j=0:=by omega
 refine⟨?_,.int _ _⟩;have bo:o+i<cells.length:=by omega
 have hi2:i<(lC zs).length:=by rw[lD];exact hi
 simp[Sort.putCells,aU.size,bo,lD,hi,ba hi2,hi2]
def atD:List AV->RM (List Int×List Nat)
 |[.vec id]=>.look id λo=>match o with
  |some (.vec (.ah .i64 zs) _)=>.ret (zs,[id])|_=>.fail ""
 |_=>.fail ""
abbrev asm:=bY aoZ atD
abbrev inA:List FuncId:=[41,40,64,89,66]
def zg:aK:=[(65,asm)]
abbrev fK:FuncId:=66
def kK(i:Nat):Nat:=(fK+1)*100000+i
def afm:List (Nat×Norm):=[(kK 0,⟨[],[0,1,16,27,28],3,[]⟩),(kK 1,⟨[],[0,5,16,27,28],3,[(5,0,false,.ah .i64 [],3)]⟩)]
abbrev frA:List tB:=[sk f89 (some 89) 3 1,k9 f64 (some 64) 1 1 false 0,k9 f40 (some 40) 1 1 false 0,k9 f21 none 3 5 false 0]
def cA0(th:Th)(m:As)(fu:Int):bP:=⟨sl 54 [(0,.tag 3),(1,.ptr 4 0),(16,.ptr 5 0),(27,.tag 6),(28,.tag 3)],[jI 1 2 fu,.vec (.au cS th) eS,.map kS m,.aw,.aq [.fv 2] 54,.aq [.emp] 57,.aw],hr f66 0,⟨some fK,false,0,frA,0⟩⟩
def aAR(th:Th)(m:As)(fu:Int):bP:=⟨sl 54 [(0,.tag 3),(1,.ptr 4 0),(4,.fv 2),(5,.ptr 8 0),(16,.ptr 5 0),(27,.tag 6),(28,.tag 3)],[jI 1 2 fu,.vec (.au cS th) eS,.ig kS m 7,.aw,.aq [.fv 2] 54,.aq [.emp] 57,.aw,.aw,.iter 2 7 kS m none],
 sj f66 0 2,⟨some fK,false,0,frA,0⟩⟩
def cA1(th:Th)(m left:As)(cur:Option (Int×kS.V))(zs:List Int)(fu:Int):bP:=⟨sl 54 [(0,.tag 3),(5,.ptr 4 0),(16,.ptr 5 0),(27,.tag 6),(28,.tag 3)],[jI 1 2 fu,.vec (.au cS th) eS,.ig kS m 7,.aw,.iter 2 7 kS left cur,.aq [.vec 8] 57,.aw,.aw,.vec (.ah .i64 zs) 3],
 hd f66 1,⟨some fK,false,0,frA,0⟩⟩
def aAS(th:Th)(m:As)(zs:List Int)(fu:Int):bP:=⟨sl 54 [(0,.tag 3),(5,.ptr 4 0),(6,.bq [.s (.aI false)]),(16,.ptr 5 0),(27,.tag 6),(28,.tag 3)],[jI 1 2 fu,.vec (.au cS th) eS,.map kS m,.aw,.aw,.aq [.vec 8] 57,.aw,.aw,.vec (.ah .i64 zs) 3],
 sj f66 1 1,⟨some fK,false,0,frA,1⟩⟩
def aAT(th:Th)(m left:As)(p:Int×kS.V)(zs:List Int)(fu:Int):bP:=⟨sl 54 [(0,.tag 3),(5,.ptr 4 0),(6,.bq [.s (.aI true),.s (.int .i64 p.1),kS.av p.2]),(16,.ptr 5 0),(27,.tag 6),(28,.tag 3)],[jI 1 2 fu,.vec (.au cS th) eS,.ig kS m 7,.aw,.iter 2 7 kS left (some p),.aq [.vec 8] 57,.aw,.aw,.vec (.ah .i64 zs) 3],
 sj f66 1 1,⟨some fK,false,0,frA,1⟩⟩
def ahg(x:Int):List Int->List Int
 |[]=>[x]|y::l=>bif decide (x<=y)then x::y::l else y::ahg x l
def akY:List Int->List Int
 |[]=>[]|x::l=>ahg x (akY l)
def qm(m:As):List Int:=akY (m.map (·.1))
abbrev sAs:Spec (Th×As×Int):=⟨λ_=>[.ptr 0 0],λ(th,m,fu)=>hD th m fu,λ(th,m,fu)=>[bm th m fu],λ(th,m,fu)=>hD th m fu++[.vec (.ah .i64 (qm m)) 3],λ_=>.vec 3⟩
theorem akZ(th:Th)(m:As)(fu:Int):run P zg.sum f21 afm (start f21 [.ptr 0 0] (hD th m fu)) inA=
 Tree.at (cA0 th m fu):=by kernel_rfl
theorem awj(th:Th)(m:As)(fu:Int):run P zg.sum f21 afm (cA0 th m fu) inA=
 Tree.at (.mk (sl 54 [(0,.tag 3),(1,.ptr 4 0),(4,.fv 2),(16,.ptr 5 0),(27,.tag 6),(28,.tag 3)]) (hD th m fu++[.aw,.aq [.fv 2] 54,.aq [.emp] 57,.aw]) (sj f66 0 1) (.mk (some 66) false 0 [sk f89 (some 89) 3 1,k9 f64 (some 64) 1 1 false 0,k9 f40 (some 40) 1 1 false 0,k9 f21 none 3 5 false 0] 0)):=by kernel_rfl
theorem asn(th:Th)(m:As)(fu:Int):run P zg.sum f21 afm (aAR th m fu) inA=
 Tree.at (cA1 th m m none [] fu):=by kernel_rfl
theorem ao0(th:Th)(m left:As)(cur:Option (Int×kS.V))(zs:List Int)(fu:Int):run P zg.sum f21 afm (cA1 th m left cur zs fu) inA=
 Tree.at (.mk (sl 54 [(0,.tag 3),(5,.ptr 4 0),(16,.ptr 5 0),(27,.tag 6),(28,.tag 3)]) [Ds.jI 1 2 fu,.vec (.au Ds.cS th) Ds.eS,.ig (.arr .u8 64) m 7,.aw,.iter 2 7 (.arr .u8 64) left cur,.aq [.vec 8] 57,.aw,.aw,.vec (.ah .i64 zs) 3] (sj f66 1 0) (.mk (some 66) false 0 [sk f89 (some 89) 3 1,k9 f64 (some 64) 1 1 false 0,k9 f40 (some 40) 1 1 false 0,k9 f21 none 3 5 false 0] 1)):=by kernel_rfl
theorem aso(th:Th)(m:As)(zs:List Int)(fu:Int):run P zg.sum f21 afm (aAS th m zs fu) inA=
 Tree.ab (bp (some [AV.vec 0])) (.ab (bp (some [ak.vec (.ah .i64 zs) 3])) (.ab (zs.length<=1000000) (.ret (hD th m fu++[.aw,.aw,.aq [.vec 8] 57,.aw,.aw,.vec (.ah .i64 (lC zs)) 3]) (.vec 8)))):=by kernel_rfl
theorem asp(th:Th)(m left:As)(p:Int×kS.V)(zs:List Int)(fu:Int):run P zg.sum f21 afm (aAT th m left p zs fu) inA=
 Tree.ab ((zs.length+1)*(8:Nat)<=140737488355328) (.at (cA1 th m left (some p) (zs++[p.fst]) fu)):=by kernel_rfl
theorem uV:∀{a b:List Int},a.Pairwise (λx y=>decide (x<=y)=true)->b.Pairwise (λx y=>decide (x<=y)=true)->a.Perm b->a=b
 |[],b,_,_,h=>(List.Perm.nil_eq h)|x::a,[],_,_,h=>absurd (List.Perm.length_eq h) (by simp)
 |x::a,y::b,ha,hb,h=>by
  have hx:x=y:=by
   have h1:x∈y::b:=h.mem_iff.1 mem_cons_self;have h2:y∈x::a:=h.mem_iff.2 mem_cons_self;rcases mem_cons.1 h1 with e|e;exact e;rcases mem_cons.1 h2 with e2|e2;exact e2.symm;have g1:=of_decide_eq_true ((pairwise_cons.1 hb).1 x e);have g2:=of_decide_eq_true ((pairwise_cons.1 ha).1 y e2);omega
  subst hx;rw[uV (pairwise_cons.1 ha).2 (pairwise_cons.1 hb).2 (List.Perm.cons_inv h)]
theorem pF(zs:List Int):(lC zs).Pairwise (λx y=>decide (x<=y)=true):=
 List.pairwise_mergeSort (λa b c h1 h2=>by simp at *;omega) (λa b=>by simp;omega) zs
theorem m7(zs:List Int):(lC zs).Perm zs:=List.mergeSort_perm _ _
theorem asq{a b:List Int}(h:a.Perm b):lC a=lC b:=uV (pF a) (pF b) ((m7 a).trans (h.trans (m7 b).symm))
theorem uW(x:Int):∀l,(ahg x l).Perm (x::l)
 |[]=>List.Perm.refl _|y::l=>by
  unfold ahg;cases decide (x<=y);exact(List.Perm.cons y (uW x l)).trans (List.Perm.swap _ _ _);exact List.Perm.refl _
theorem vL(x:Int):∀l:List Int,l.Pairwise (λx y=>decide (x<=y)=true)->(ahg x l).Pairwise (λx y=>decide (x<=y)=true)
 |[],_=>by simp[ahg]
 |y::l,h=>by
  have⟨h1,h2⟩:=pairwise_cons.1 h;unfold ahg;cases hxy:decide (x<=y);have hyx:y<=x:=by have:=of_decide_eq_false hxy;omega
  refine pairwise_cons.2 ⟨λz hz=> ?_,vL x l h2⟩;rcases mem_cons.1 ((uW x l).mem_iff.1 hz)with rfl|hz;exact decide_eq_true hyx;exact h1 z hz;refine pairwise_cons.2 ⟨λz hz=> ?_,h⟩;rcases mem_cons.1 hz with rfl|hz;exact hxy;have:=of_decide_eq_true hxy;have:=of_decide_eq_true (h1 z hz);exact decide_eq_true (by omega)
theorem wP(l:List Int):akY l=lC l:=by
 have hp:(akY l).Perm l/\(akY l).Pairwise (λx y=>decide (x<=y)=true):=by
  induction l with
  |nil=>exact⟨List.Perm.refl _,List.Pairwise.nil⟩|cons x l ih=>exact⟨(uW x _).trans (List.Perm.cons x ih.1),vL x _ ih.2⟩
 exact uV hp.2 (pF l) (hp.1.trans (m7 l).symm)
theorem lF{Z:bh}:zg.Ok P Z:=aK.Ok.cons (asl.sum atD) aK.Ok.nil
theorem zh{α:Type}:∀{l:List α} {j:Nat} (h:j<l.length),(l[j]::l.eraseIdx j).Perm l
 |[],j,h=>absurd h (Nat.not_lt_zero _)|x::l,0,_=>List.Perm.refl _|x::l,j+1,h=>by
  simp only[List.getElem_cons_succ,List.eraseIdx_cons_succ];exact(List.Perm.swap _ _ _).trans (List.Perm.cons x (zh (by simpa using h)))
theorem afn:∀(n:Nat) (l:List Nat),l.Nodup->(∀x∈l,x<n)->l.length<=n
 |0,l,_,h=>by
  cases l with
  |nil=>exact le_refl _|cons x l=>exact absurd (h x mem_cons_self) (Nat.not_lt_zero _)
 |n+1,l,hn,h=>by
  have h1:=afn n (l.erase n) (hn.erase n) λx hx=>by
   have:=(hn.mem_erase_iff).1 hx;have:=h x this.2;omega
  by_cases hm:n∈l;rw[List.length_erase_of_mem hm]at h1;omega;rw[List.erase_of_not_mem hm]at h1;omega
theorem afo{n:Nat}{m:As}(h:okM n m)(hn:n<=4096):m.length<=4096:=by
 have h1:((m.map (·.1)).map Int.toNat).Nodup:=by
  refine List.Pairwise.map _ (S:=λa b=>a≠b) (R:=λa b=>a≠b/\0<=a/\0<=b) (λa b hab=>by omega) ?_;refine List.Pairwise.imp_of_mem ?_ h.1;intro a b ha hb hab;obtain⟨p,hp,rfl⟩:=mem_map.1 ha;obtain⟨q,hq,rfl⟩:=mem_map.1 hb;exact⟨hab,(h.2 p hp).1,(h.2 q hq).1⟩
 have h3:=afn n _ h1 λx hx=>by
  obtain⟨y,hy,rfl⟩:=mem_map.1 hx;obtain⟨p,hp,rfl⟩:=mem_map.1 hy;have:=h.2 p hp;omega
 simp only[length_map]at h3;omega
theorem ao1{Z:bh}:fI P Z 21 sAs:=by
 refine fS func21 ?_;rintro⟨th,m,fu⟩ ⟨(hd:bm th m fu),_⟩ X hX hz;have gx:∀x∈afm,(hD th m fu).length<=x.2.m:=by intro y hy;simp[afm]at hy;rcases hy with rfl|rfl<;>exact le_refl _
 have hml:=afo hd.m hd.t.1;have loop:∀(k:Nat) (left:As) (cur:Option (Int×kS.V)) (zs:List Int),left.length=k->(zs++left.map (·.1)).Perm (m.map (·.1))->
  Safe P 21 X (dO sAs (th,m,fu)) (cA1 th m left cur zs fu):=by
  intro k
  induction k with
  |zero=>
   intro left cur zs hl hp;obtain rfl:=List.eq_nil_of_length_eq_zero hl;refine cF hz hX gx lF func21 (ao0 th m [] cur zs fu) ?_;refine pU (x:=5) (d:=6) (by kernel_rfl) (by kernel_rfl) (id:=4) (mid:=2) (gid:=7) (ck:=kS) (ck':=kS) rfl rfl rfl rfl (λ_=> ?_) (λj hj=>absurd hj (Nat.not_lt_zero _));have hp:zs.Perm (m.map (·.1)):=by simpa using hp
   have bB:=hp.length_eq;rw[length_map]at bB;refine cF hz hX gx lF func21 (aso th m zs fu) ⟨rfl,rfl,by omega, ?_⟩;refine bD 3 (h:=hD th m fu++[.vec (.ah .i64 (lC zs)) 3]) (by kernel_rfl) (le_refl _) rfl ?_;show hD th m fu++[.vec (.ah .i64 (akY (m.map (·.1)))) 3]=_;rw[wP,asq hp]
  |succ k ih=>
   intro left cur zs hl hp;have bB:=hp.length_eq;rw[length_append,length_map,length_map]at bB;refine cF hz hX gx lF func21 (ao0 th m left cur zs fu) ?_;refine pU (x:=5) (d:=6) (by kernel_rfl) (by kernel_rfl) (id:=4) (mid:=2) (gid:=7) (ck:=kS) (ck':=kS) rfl rfl rfl rfl (λh0=> ?_) (λj hj=> ?_);subst h0;simp at hl;refine cF hz hX gx lF func21 (asp th m (left.eraseIdx j) (left.getD j (0,kS.d)) zs fu) ⟨by omega, ?_⟩;refine ih (left.eraseIdx j) (some (left.getD j (0,kS.d))) (zs++[(left.getD j (0,kS.d)).1]) (by rw[List.length_eraseIdx,if_pos hj];omega) ?_;rw[ba hj,append_assoc];refine List.Perm.trans (List.Perm.append_left zs ?_) hp;show((left[j]::left.eraseIdx j).map (·.1)).Perm (left.map (·.1));exact List.Perm.map _ (zh hj)
 refine cF hz hX gx lF func21 (akZ th m fu) ?_;refine cF hz hX gx lF func21 (awj th m fu) ?_;refine ya (t:=54) (x:=4) (d:=5) (by kernel_rfl) (by kernel_rfl) (by kernel_rfl) (id:=2) (ck:=kS) rfl rfl ?_;refine cF hz hX gx lF func21 (asn th m fu) ?_;exact loop m.length m none [] rfl (by simp)
abbrev ayT:=bY sAs sG
def afp:aK:=[(21,ayT)]
def ak0:List (Nat×Norm):=[(6,⟨[],[0,1,2,3,23,24,25],3,[]⟩),(9,⟨[],[0,1,2,3,9,10,11,23,24,25],3,[]⟩),(13,⟨[],[0,1,2,3,23,24,25],3,[]⟩)]
def cCr(th:Th)(m:As)(fu:Int)(keep:List Bool)(torn cut:Int)(l:List Int)(k:Int):bP:=⟨sl 77 [(0,.ptr 0 0),(1,.s (.ro (.bF keep))),(2,.s (.int .i64 torn)),(3,.s (.int .i64 cut)),(23,.vec 3),(24,.s (.int .i64 (l.length:Int))),(25,.s (.int .i64 k))],hD th m fu++[.vec (.ah .i64 l) 3],hd f9 6,{}⟩
def awk(th:Th)(m:As)(fu:Int)(keep:List Bool)(torn cut:Int)(l:List Int)(k n:Int)(s:List Int):bP:=⟨sl 77 [(0,.ptr 0 0),(1,.s (.ro (.bF keep))),(2,.s (.int .i64 torn)),(3,.s (.int .i64 cut)),(9,.s (.int .i64 k)),(10,.s (.int .i64 n)),(11,.ptr 3 0),(23,.vec 4),(24,.s (.int .i64 (l.length:Int))),(25,.s (.int .i64 k))],hD th m fu++[.aq [.ah .u8 64 s] eS,.vec (.ah .i64 l) 3],hr f9 9,{}⟩
def aa7(th:Th)(m:As)(fu:Int)(keep:List Bool)(torn cut:Int)(l:List Int)(k:Int):bP:=⟨sl 77 [(0,.ptr 0 0),(1,.s (.ro (.bF keep))),(2,.s (.int .i64 torn)),(3,.s (.int .i64 cut)),(23,.vec 3),(24,.s (.int .i64 (l.length:Int))),(25,.s (.int .i64 k))],hD th m fu++[.vec (.ah .i64 l) 3],hr f9 13,{}⟩
def uX(m:As)(n:Int):List Int:=(cp m n).getD kS.d
def jm(keep:List Bool)(torn cut:Int)(m:As)(th:Th)(k:Nat)(n:Int):Th:=
 if(k:Int)=torn then th.set n.toNat (qp (over (fF (th.getD n.toNat (CL.d cS))) 0 cut.toNat (uX m n)))else if keep.getD k false=true then th.set n.toNat (qp (uX m n))else th
def crT(keep:List Bool)(torn cut:Int)(m:As):List Int->Nat->Th->Th
 |[],_,th=>th|n::l,k,th=>crT keep torn cut m l (k+1) (jm keep torn cut m th k n)
def vA(cut:Int):Bool:=decide (0<=cut)&&decide (cut<=64)
def crH(th:Th)(m:As)(keep:List Bool)(torn cut:Int):Th:=if vA cut=true then crT keep torn cut m (qm m) 0 th else th
def crM(m:As)(cut:Int):As:=if vA cut=true then []else m
def crF(fu cut:Int):Int:=if vA cut=true then -1 else fu
def crE(cut:Int):Int:=if vA cut=true then 0 else 1
abbrev sCr:Spec (Th×As×Int×List Bool×Int×Int):=⟨λ(_,_,_,keep,torn,cut)=>[.ptr 0 0,.s (.ro (.bF keep)),.s (.int .i64 torn),.s (.int .i64 cut)],λ(th,m,fu,_)=>hD th m fu,λ(th,m,fu,_)=>[bm th m fu],
 λ(th,m,fu,keep,torn,cut)=>hD (crH th m keep torn cut) (crM m cut) (crF fu cut),λ(_,_,_,_,_,cut)=>.s (.int .i64 (crE cut))⟩
theorem awl(th:Th)(m:As)(fu:Int)(keep:List Bool)(torn cut:Int):run P afp.sum f9 ak0 (start f9 [.ptr 0 0,.s (.ro (.bF keep)),.s (.int .i64 torn),.s (.int .i64 cut)] (hD th m fu))=
 Tree.ite (decide (cut<0)) (.ret (hD th m fu) (.s (.aR .i64 1))) (.ite (decide (cut>64)) (.ret (hD th m fu) (.s (.aR .i64 1))) (.ab (bp (some [AV.ptr 0 0])) (.ab (bp (some (hD th m fu))) (.ab (bm th m fu) (.at (cCr th m fu keep torn cut (qm m) 0)))))):=by kernel_rfl
theorem ao2(th:Th)(m:As)(fu:Int)(keep:List Bool)(torn cut:Int)(l:List Int)(k:Int):run P afp.sum f9 ak0 (cCr th m fu keep torn cut l k)=
 Tree.ite (decide (k<(↑l.length:Int))) (Tree.ab ((0:Int)≤k) (Tree.ab (k<(↑l.length:Int)) (Tree.at (awk th m fu keep torn cut l k (l.getD k.toNat (0:Int)) ((cp m (l.getD k.toNat (0:Int))).getD (CK.arr u8 (64:Nat)).d))))) (Tree.ret [ak.aq [AV.vec (1:Nat),AV.fv (2:Nat),AV.s (SV.aR i64 (-1:Int))] (56:Nat),ak.vec (aU.au [CK.arr u8 (64:Nat)] th) (60:Nat),ak.map (CK.arr u8 (64:Nat)) [],ak.vec (aU.ah i64 l) (3:Nat)] (AV.s (SV.aR i64 (0:Int)))):=by kernel_rfl
theorem asr(th:Th)(m:As)(fu:Int)(keep:List Bool)(torn cut:Int)(l:List Int)(k n:Int)(s:List Int):run P afp.sum f9 ak0 (awk th m fu keep torn cut l k n s)=
 Tree.ite (k==torn) (.ab ((0:Int)<=n) (.ab (n<(↑(List.length th):Int)) (.ab ((0:Int)<=0) (.ab ((0:Int)<=cut) (.ab (cut<=(↑(64:Nat):Int)) (.ab ((0:Int)<=0) (.ab ((0:Int)<=cut) (.ab (cut<=(↑(64:Nat):Int)) (.ab ((0:Nat)+(cut.toNat - Int.toNat 0)<=64) (.ab ((fF (List.getD th n.toNat (CL.d [.arr .u8 64]))).length=64) (.at (aa7 (List.set th n.toNat (qp (over (fF (List.getD th n.toNat (CL.d [.arr .u8 64]))) 0 (min (List.take (cut.toNat - Int.toNat 0) (List.drop 0 s)).length (cut.toNat - Int.toNat 0)) (List.take (cut.toNat - Int.toNat 0) (List.drop 0 s))))) m fu keep torn cut l k)))))))))))) (.ite (decide (k<keep.length)) (.ab ((0:Int)<=k) (.ab (k<keep.length) (.ite (keep.getD k.toNat false) (.ab ((0:Int)<=n) (.ab (n<(↑(List.length th):Int)) (.at (aa7 (List.set th n.toNat (s,())) m fu keep torn cut l k)))) (.at (aa7 th m fu keep torn cut l k))))) (.at (aa7 th m fu keep torn cut l k))):=by kernel_rfl
theorem ao3(th:Th)(m:As)(fu:Int)(keep:List Bool)(torn cut:Int)(l:List Int)(k:Int):run P afp.sum f9 ak0 (aa7 th m fu keep torn cut l k)=
 Tree.ab (aA (k+1)) (.at (cCr th m fu keep torn cut l (k+1))):=by kernel_rfl
theorem pG{Z:bh}:afp.Ok P Z:=aK.Ok.cons (ao1.sum sG) aK.Ok.nil
theorem nH{keep:List Bool}{torn cut:Int}{m:As}{th:Th}{k:Nat}{n:Int}:(jm keep torn cut m th k n).length=th.length:=by
 unfold jm;split;exact length_set;split;exact length_set;rfl
theorem ajk{m:As}{n:Int}(h:n∈qm m):∃p∈m,p.1=n:=by
 have:=(m7 (m.map (·.1))).mem_iff.1 (by rw[<-wP];exact h);exact mem_map.1 this
theorem zi{n:Nat}{m:As}(h:okM n m){x:Int}(hx:x∈qm m):(uX m x).length=64/\0<=x/\x<(n:Int):=by
 obtain⟨p,hp,rfl⟩:=ajk hx;have⟨h1,h2,h3⟩:=h.2 p hp;refine⟨?_,h1,h2⟩;unfold uX;rw[ny h.1 hp];exact h3
theorem ajl{th:Th}(h:nM th){i:Nat}{ws:List Int}(hw:ws.length=64):nM (th.set i (qp ws)):=by
 refine⟨by rw[length_set];exact h.1,λj hj=> ?_⟩;rw[length_set]at hj;by_cases e:j=i;subst e;rw[gf hj];exact hw;rw[kV e];exact h.2 j hj
theorem aa8{keep:List Bool}{torn cut:Int}{m:As}{th:Th}{k:Nat}{n:Int}(h:nM th)(hn:0<=n)(tA:n<(th.length:Int))(hc:0<=cut)(hc2:cut<=64)(hl:(uX m n).length=64):nM (jm keep torn cut m th k n):=by
 unfold jm;split;refine ajl h ?_;rw[eO _ _ (by rw[h.2 _ (by omega)];omega) (by omega)];exact h.2 _ (by omega);split;exact ajl h hl;exact h
theorem ao4{Z:bh}:fI P Z 9 sCr:=by
 refine fS func9 ?_;rintro⟨th,m,fu,keep,torn,cut⟩ ⟨(hd:bm th m fu),_⟩ X hX hz;have gx:∀x∈ak0,(hD th m fu).length<=x.2.m:=by intro y hy;simp[ak0]at hy;rcases hy with rfl|rfl|rfl<;>exact le_refl _
 have bad:vA cut=false->(sCr.out (th,m,fu,keep,torn,cut)=.s (.int .i64 1))/\sCr.dN (th,m,fu,keep,torn,cut)=hD th m fu:=λh=>
  ⟨by show AV.s (.int .i64 (crE cut))=_;simp[crE,h],by show hD (crH th m keep torn cut) (crM m cut) (crF fu cut)=_;simp[crH,crM,crF,h]⟩
 have zz:∀dU,vA cut=true->crT keep torn cut m (qm m) 0 th=dU->(sCr.out (th,m,fu,keep,torn,cut)=.s (.int .i64 0))/\sCr.dN (th,m,fu,keep,torn,cut)=hD dU [] (-1):=λdU h e=>
  ⟨by show AV.s (.int .i64 (crE cut))=_;simp[crE,h],by show hD (crH th m keep torn cut) (crM m cut) (crF fu cut)=_;simp[crH,crM,crF,h,e]⟩
 have hml:=afo hd.m hd.t.1;have hkl:(qm m).length=m.length:=by rw[qm,wP,lD,length_map]
 have loop:0<=cut->cut<=64->∀(j k:Nat) (dU:Th),k+j=(qm m).length->dU.length=th.length->nM dU->crT keep torn cut m ((qm m).drop k) k dU=crT keep torn cut m (qm m) 0 th->
  Safe P 9 X (dO sCr (th,m,fu,keep,torn,cut)) (cCr dU m fu keep torn cut (qm m) (k:Int)):=by
  intro hc0 hc1 j;have jU:vA cut=true:=by simp[vA,hc0,hc1]
  induction j with
  |zero=>
   intro k dU hk bB hT hcr;refine cF hz hX gx pG func9 (ao2 dU m fu keep torn cut (qm m) k) ⟨λh=>absurd (of_decide_eq_true h) (by omega),λ_=> ?_⟩;rw[List.drop_of_length_le (by omega)]at hcr;have⟨e1,e2⟩:=zz dU jU hcr.symm;exact bD 3 (by kernel_rfl) (le_refl _) e1 e2
  |succ j ih=>
   intro k dU hk bB hT hcr;have bo:k<(qm m).length:=by omega
   have⟨nl,n0,n1⟩:=zi hd.m (getElem_mem bo);have hgd:(qm m).getD (k:Int).toNat 0=(qm m)[k]:=by rw[toNat_natCast];exact ba bo
   refine cF hz hX gx pG func9 (ao2 dU m fu keep torn cut (qm m) k) ⟨λ_=>⟨by omega,by omega, ?_⟩,λh=>absurd (of_decide_eq_false h) (by omega)⟩;rw[hgd];show Safe P 9 X _ (awk dU m fu keep torn cut (qm m) (k:Int) (qm m)[k] (uX m (qm m)[k]));generalize hn:(qm m)[k]=n at *;generalize hs:uX m n=s at *;rw[List.drop_eq_getElem_cons bo,hn]at hcr
   have next:∀ao5,jm keep torn cut m dU k n=ao5->Safe P 9 X (dO sCr (th,m,fu,keep,torn,cut)) (aa7 ao5 m fu keep torn cut (qm m) (k:Int)):=λao5 e=>by
    refine cF hz hX gx pG func9 (ao3 ao5 m fu keep torn cut (qm m) k) ⟨⟨by omega,by omega⟩, ?_⟩;have:=ih (k+1) ao5 (by omega) (by rw[<-e,nH,bB]) (by rw[<-e];exact aa8 hT n0 (by omega) hc0 hc1 (by rw[hs];exact nl)) (by rw[<-e];exact hcr);exact this
   have aAU:=hT.2 n.toNat (by omega);refine cF hz hX gx pG func9 (asr dU m fu keep torn cut (qm m) k n s) ⟨λh=>⟨n0,by omega,by omega,hc0,hc1,by omega,hc0,hc1,by omega,aAU, ?_⟩,λh=>⟨λh2=>⟨by omega,of_decide_eq_true h2,λh3=>⟨n0,by omega, ?_⟩,λh3=> ?_⟩,λh2=> ?_⟩⟩;have h:(k:Int)=torn:=by simpa using h
   refine next _ ?_
   unfold jm;rw[if_pos h,hs];have e1:cut.toNat - Int.toNat 0=cut.toNat:=by omega
   have e2:(List.take cut.toNat (List.drop 0 s)).length=cut.toNat:=by rw[List.drop_zero,length_take];omega
   rw[e1,e2,Nat.min_self,List.drop_zero];congr 2;unfold over;rw[List.take_take,Nat.min_self];have h:¬(k:Int)=torn:=by simpa using h
   refine next _ ?_
   unfold jm;rw[toNat_natCast]at h3;rw[if_neg h,if_pos h3,hs];rfl;have h:¬(k:Int)=torn:=by simpa using h
   refine next _ ?_
   unfold jm;rw[toNat_natCast]at h3;rw[if_neg h,if_neg (by rw[h3];simp)];have h:¬(k:Int)=torn:=by simpa using h
   have h2:=of_decide_eq_false h2;refine next _ ?_
   unfold jm;rw[if_neg h,if_neg (by simp[List.getD,getElem?_eq_none (show keep.length<=k by omega)])]
 refine cF hz hX gx pG func9 (awl th m fu keep torn cut) ⟨λh=> ?_,λh=>⟨λh2=> ?_,λh2=>⟨rfl,rfl,hd, ?_⟩⟩⟩;have h:=of_decide_eq_true h;have⟨e1,e2⟩:=bad (by simp[vA];omega);exact bD 3 (by kernel_rfl) (le_refl _) e1 e2;have h2:=of_decide_eq_true h2;have⟨e1,e2⟩:=bad (by simp[vA];omega);exact bD 3 (by kernel_rfl) (le_refl _) e1 e2;have h:=of_decide_eq_false h;have h2:=of_decide_eq_false h2;exact loop (by omega) (by omega) (qm m).length 0 th (by omega) rfl hd.t rfl
def mCr:List AV->RM ((Th×As×Int×List Bool×Int×Int)×List Nat)
 |[.ptr id 0,.s (.ro (.bF ks)),t,c]=>(sG [.ptr id 0]).bind λ((th,m,fu),σ)=>match t.cC,c.cC with
  |some (_,_,t),some (_,_,c)=>.ret ((th,m,fu,ks,t,c),σ)|_,_=>.fail ""
 |_=>.fail ""
abbrev aot:=bY sFl sG
abbrev ayU:=abX 1 (.bF []) (bY sCr mCr)
theorem acH{keep:List Bool}{torn cut:Int}{m:As}:∀(l:List Int) (k:Nat) (th:Th),(crT keep torn cut m l k th).length=th.length
 |[],k,th=>rfl|n::l,k,th=>(acH l (k+1) _).trans nH
theorem ao6{keep:List Bool}{torn cut:Int}{m:As}(hc:0<=cut)(hc2:cut<=64):∀(l:List Int) (k:Nat) (th:Th),nM th->(∀x∈l,(uX m x).length=64/\0<=x/\x<(th.length:Int))->nM (crT keep torn cut m l k th)
 |[],k,th,h,_=>h|n::l,k,th,h,hl=>by
  have⟨h1,h2,h3⟩:=hl n mem_cons_self;refine ao6 hc hc2 l (k+1) _ (aa8 h h2 h3 hc hc2 h1) λx hx=> ?_;rw[nH];exact hl x (mem_cons_of_mem _ hx)
theorem tz{cut:Int}:vA cut=true↔0<=cut/\cut<=64:=by simp[vA]
theorem atE{th:Th}{m:As}{fu torn cut:Int}{keep:List Bool}(h:bm th m fu):bm (crH th m keep torn cut) (crM m cut) (crF fu cut):=by
 unfold crH crM crF;split;rename_i hc;have⟨h0,h1⟩:=tz.1 hc;exact⟨ao6 h0 h1 _ _ _ h.t λx hx=>zi h.m hx,⟨by simp,λp hp=>by cases hp⟩,by omega,by omega⟩;exact h
def crS(keep:List Bool)(torn cut:Int)(old new:List Int)(k:Nat):List Int:=if(k:Int)=torn then over old 0 cut.toNat new else if keep.getD k false=true then new else old
abbrev sec(th:Th)(i:Nat):List Int:=fF (th.getD i (CL.d cS))
theorem ahh{keep:List Bool}{torn cut:Int}{m:As}{th:Th}{k:Nat}{n:Int}(hn:0<=n){i:Nat}(hi:i<th.length):
 sec (jm keep torn cut m th k n) i=if(i:Int)=n then crS keep torn cut (sec th i) (uX m n) k else sec th i:=by
 unfold jm crS;by_cases e:(i:Int)=n;have e':n.toNat=i:=by omega
 rw[if_pos e,e'];split;exact congrArg fF (gf hi);split;exact congrArg fF (gf hi);rfl;have e':i≠n.toNat:=by omega
 rw[if_neg e];split;exact congrArg fF (kV e');split;exact congrArg fF (kV e');rfl
theorem ajm{keep:List Bool}{torn cut:Int}{m:As}:∀(l:List Int) (k:Nat) (th:Th),l.Nodup->(∀x∈l,0<=x)->∀i,i<th.length->
 sec (crT keep torn cut m l k th) i=if(i:Int)∈l then crS keep torn cut (sec th i) (uX m (i:Int)) (k+l.idxOf (i:Int))else sec th i
 |[],k,th,_,_,i,hi=>rfl|n::l,k,th,hn,h0,i,hi=>by
  have⟨hn1,tA⟩:=List.nodup_cons.1 hn;show sec (crT keep torn cut m l (k+1) (jm keep torn cut m th k n)) i=_;rw[ajm l (k+1) _ tA (λx hx=>h0 x (mem_cons_of_mem _ hx)) i (by rw[nH];exact hi),ahh (h0 n mem_cons_self) hi];by_cases e:(i:Int)=n;rw[if_neg (by rw[e];exact hn1),if_pos e,if_pos (by rw[e];exact mem_cons_self),e,List.idxOf_cons_self,add_zero];rw[if_neg e];by_cases hm:(i:Int)∈l;rw[if_pos hm,if_pos (mem_cons_of_mem _ hm),List.idxOf_cons,show(n==(i:Int))=false from by simpa using λh=>e h.symm,cond_false,show k+1+l.idxOf (i:Int)=k+(l.idxOf (i:Int)+1)from by omega];rw[if_neg hm,if_neg (λh=>(mem_cons.1 h).elim e hm)]
theorem ao7(m:As):(qm m).Perm (m.map (·.1)):=by unfold qm;rw[wP];exact m7 _
theorem ak1{n:Nat}{m:As}(h:okM n m):(qm m).Nodup:=(ao7 m).nodup_iff.2 h.1
theorem ao8{th:Th}{m:As}{fu:Int}{keep:List Bool}{torn cut:Int}(h:bm th m fu)(hc:vA cut=true){n:Nat}(hn:n<th.length):
 cG (crH th m keep torn cut) (crM m cut) (n:Int)=aF (if(n:Int)∈qm m then crS keep torn cut (sec th n) (uX m (n:Int)) ((qm m).idxOf (n:Int))else sec th n):=by
 unfold crH crM cG;rw[if_pos hc,if_pos hc,if_pos (fm.2 ⟨by omega,by rw[acH];omega⟩)];have:=ajm (keep:=keep) (torn:=torn) (cut:=cut) (m:=m) (qm m) 0 th (ak1 h.m) (λx hx=>(zi h.m hx).2.1) n hn;rw[zero_add]at this;rw[<-this];rfl
theorem zj{old new:List Int}(ho:old.length=64)(hn:new.length=64){cut:Nat}(hc:cut<=64):aF (over old 0 cut new)=(aF new).extract 0 cut++(aF old).extract cut 64:=by
 rw[qy,qy,<-ab0];congr 1;simp only[over,List.take_zero,nil_append,List.drop_zero,zero_add];rw[take_of_length_le (l:=old) (by omega)]
end Ds
namespace Ts
open Go Go.Sx Go.Proofs Lf
def nY(s:D3)(keep:List Bool)(torn cut:Int):D3:=(Ds.crH s.1 s.2.1 keep torn cut,Ds.crM s.2.1 cut,Ds.crF s.2.2 cut)
def uY(s:D3):Sd:=⟨s.1,s.2.1,s.2.2,0,0,0,[],0,[],[],[]⟩
theorem uZ{s:D3}{keep:List Bool}{torn cut:Int}:(nY s keep torn cut).1.length=s.1.length:=by
 show(Ds.crH _ _ _ _ _).length=_;unfold Ds.crH;split;exact Ds.acH _ _ _;rfl
theorem ayV{s:D3}{keep:List Bool}{torn cut:Int}(hc:Ds.vA cut=true):(nY s keep torn cut).2=([], -1):=by
 show(Ds.crM _ _,Ds.crF _ _)=_;unfold Ds.crM Ds.crF;rw[if_pos hc,if_pos hc]
theorem ass{m:As}{n:Int}(h:n∈Ds.qm m):cp m n≠none:=λe=>by
 have⟨p,hp,hpn⟩:=Ds.ajk h
 have a:oe m n=true:=by
  simp only[oe,List.any_eq_true,beq_iff_eq];exact⟨p,hp,hpn⟩
 rw[Ds.sw,e]at a;cases a
theorem wQ{s:D3}{keep:List Bool}{torn cut:Int}(hd:tx s)(hc:Ds.vA cut=true){x:Int}(hx:cp s.2.1 x=none):Ds.cG (nY s keep torn cut).1 (nY s keep torn cut).2.1 x=Ds.cG s.1 s.2.1 x:=by
 by_cases cO:Ds.jg s.1 x=true;have⟨x0,x1⟩:=Ds.fm.1 cO;obtain⟨n,rfl⟩:=Int.eq_ofNat_of_zero_le x0;have e:=Ds.ao8 (keep:=keep) (torn:=torn) hd hc (n:=n) (by omega);rw[if_neg (λh=>ass h hx)]at e;refine Eq.trans (show Ds.cG (nY s keep torn cut).1 (nY s keep torn cut).2.1 (n:Int)=_ from e) ?_;unfold Ds.cG Ds.lg;rw[if_pos cO,hx];rfl;have e:=Ds.yf (uZ (s:=s) (keep:=keep) (torn:=torn) (cut:=cut)) x;unfold Ds.cG;rw[e,if_neg cO,if_neg cO]
theorem afq{α:Type}(a b:List α):over a 0 0 b=a:=by simp[over]
theorem ao9{keep:List Bool}{torn cut:Int}(hc:Ds.vA cut=true){ws:List Int}(hw:ws.length=64)(ep pg:Int):
 Ds.crS keep torn cut ws (Ds.mkB false ep pg) 0=ws\/Ds.zF (aF (Ds.crS keep torn cut ws (Ds.mkB false ep pg) 0))=false:=by
 have⟨c0,c1⟩:=Ds.tz.1 hc
 have zero:∀us:List Int,0<us.length->us.getD 0 0=0->Ds.zF (aF us)=false:=λus h h0=>by
  unfold Ds.zF;rw[Ds.sO h (by rw[h0];omega),h0];rfl
 unfold Ds.crS;split;by_cases h:cut.toNat=0;rw[h,afq];exact .inl rfl;refine .inr (zero _ ?_ ?_);rw[eO _ _ (by rw[hw];omega) (by rw[Ds.sN];omega),hw];decide;obtain⟨k,hk⟩:∃k,cut.toNat=k+1:=⟨cut.toNat - 1,by omega⟩;rw[hk];rfl;split;exact .inr (zero _ (by rw[Ds.sN];decide) rfl);exact .inl rfl
theorem ast{keep:List Bool}{torn cut:Int}(hc:Ds.vA cut=true)(ep pg:Int):∃b:Bool,Ds.crS keep torn cut (Ds.mkB false ep pg) (Ds.mkB true ep pg) 0=Ds.mkB b ep pg:=by
 have⟨c0,c1⟩:=Ds.tz.1 hc;obtain⟨t,e1,e2,e4⟩:∃t,Ds.mkB true ep pg=1::t/\Ds.mkB false ep pg=0::t/\t.length=63:=⟨_,rfl,rfl,rfl⟩;unfold Ds.crS;split;by_cases h:cut.toNat=0;rw[h,afq];exact⟨false,rfl⟩;obtain⟨k,hk⟩:∃k,cut.toNat=k+1:=⟨cut.toNat - 1,by omega⟩;refine⟨true, ?_⟩;rw[hk,e1,e2];simp[over,List.take_append_drop];split;exact⟨true,rfl⟩;exact⟨false,rfl⟩
theorem ak2{keep:List Bool}{torn cut:Int}(hc:Ds.vA cut=true){a b new:List Int}(ha:a.length=64)(hb:b.length=64)(hn:new.length=64)(e:aF a=aF b):aF (Ds.crS keep torn cut a new 0)=aF (Ds.crS keep torn cut b new 0):=by
 have⟨c0,c1⟩:=Ds.tz.1 hc;unfold Ds.crS;split;rw[Ds.zj ha hn (by omega),Ds.zj hb hn (by omega),e];split;rfl;exact e
theorem ayW{th:Th}{fu x:Int}{ws:ByteArray}(hd:Ds.bm th (v7 x ws) fu)(hx:Ds.jg th x=true)(keep:List Bool)(torn:Int){cut:Int}(hc:Ds.vA cut=true):
 Ds.cG (nY (th,v7 x ws,fu) keep torn cut).1 [] x=aF (Ds.crS keep torn cut (Ds.lg th [] x) (bw ws) 0):=by
 have⟨x0,x1⟩:=Ds.fm.1 hx;obtain⟨n,rfl⟩:=Int.eq_ofNat_of_zero_le x0;have e:=Ds.ao8 (keep:=keep) (torn:=torn) hd hc (n:=n) (by omega);have hk:Ds.qm (v7 (n:Int) ws)=[(n:Int)]:=rfl
 have hn:Ds.uX (v7 (n:Int) ws) (n:Int)=bw ws:=by
  have e:=Ds.sH (m:=([]:As)) (by simp) (n:=(n:Int)) (x:=(n:Int)) (v:=bw ws);rw[if_pos rfl]at e;have e:cp (v7 (n:Int) ws) (n:Int)=some (bw ws):=e;unfold Ds.uX;rw[e];rfl
 rw[hk,if_pos (mem_singleton.2 rfl),hn]at e;have c:Ds.crM (v7 (n:Int) ws) cut=[]:=if_pos hc;rw[c]at e;have i:List.idxOf (n:Int) [(n:Int)]=0:=by simp
 rw[i]at e;exact e
section
variable{s:Sd}{E K:List En}{n h:Nat}{ps:List Int}{po h0:Nat}{jP:List Int}{kc:Nat}
theorem SI.again(S:SI s E K n h ps po h0 jP kc)(hn:n<=1000){D:D3}(hd:tx D)(hl:D.1.length=s.th.length)(hm:D.2.1=[])(M:ze D.1 D.2.1 s.wh s.ep s.pg)(hr:∀x:Int,8<=x->¬Fr s (x / 4)->Ds.cG D.1 D.2.1 x=Ds.cG s.th s.m x):
 SI (l6 (uY D) s.wh s.ep s.pg) K K n h0 jP kc h0 jP kc:=by
 have⟨b1,b2,b3,b4⟩:=S.b;refine SI.make (s:=uY D) M hd (S.k.alike λp hp=>qd hl λx hx=>hr x ?_ (by rw[hx];exact S.out hp)) S.nd (λp hp=> ?_) hm b2 b4 hn S.e0;have:=S.rg0 p hp;omega;show 2<=p/\p<Ds.eF D.1;rw[gO hl];exact S.rg0 p hp
theorem SI.ajn(S:SI s E K n h ps po h0 jP kc)(hn:n<=1000)(keep:List Bool)(torn:Int){cut:Int}(hc:Ds.vA cut=true):
 SI (l6 (uY (nY (s.th,s.m,s.fu) keep torn cut)) s.wh s.ep s.pg) K K n h0 jP kc h0 jP kc:=by
 have hd:=S.t.ok.d;have hd':tx (nY (s.th,s.m,s.fu) keep torn cut):=Ds.atE hd;have hr:∀x:Int,¬Fr s (x / 4)->Ds.cG (nY (s.th,s.m,s.fu) keep torn cut).1 (nY (s.th,s.m,s.fu) keep torn cut).2.1 x=Ds.cG s.th s.m x:=λx hx=>wQ (s:=(s.th,s.m,s.fu)) hd hc (S.q x hx);refine S.again hn hd' uZ ?_ (S.mr.same uZ (hr 0 (S.low (by decide))) (hr 4 (S.low (by decide)))) λx _ hx=>hr x hx;rw[ayV hc]
theorem ze.off{th dU:Th}{m m':As}{wh ep pg:Int}(M:ze th m wh ep pg)(hl:dU.length=th.length)(h0:Ds.cG dU m' (wh*4)=Ds.cG th m (wh*4))(h1:Ds.zF (Ds.cG dU m' ((1 - wh)*4))=false):ze dU m' wh ep pg:=by
 have⟨k,n,a,b,c,d⟩:=M;have⟨z1,z2,z3⟩:=wN hl h0;refine⟨k,by rw[gO hl];exact n,by rw[z1];exact a,by rw[z2];exact b,by rw[z3];exact c,λh=> ?_⟩;unfold Ds.iS at h;rw[h1,Bool.and_false]at h;cases h
theorem ze.as{th dU:Th}{m m':As}{wh ep pg:Int}(M:ze th m wh ep pg)(hl:dU.length=th.length)(h0:Ds.cG dU m' (wh*4)=Ds.cG th m (wh*4))(h1:Ds.cG dU m' ((1 - wh)*4)=Ds.cG th m ((1 - wh)*4)):ze dU m' wh ep pg:=by
 rcases M.k with rfl|rfl;exact M.same hl h0 h1;exact M.same hl h1 h0
theorem SI.aAV(S:SI s E K n h ps po h0 jP kc)(hn:n<=1000)(he:s.ep<1099511627776){D:D3}(C:aoS (s.th,s.m,s.fu) D (1 - s.wh) (s.ep+1) s.aa)(keep:List Bool)(torn:Int){cut:Int}(hc:Ds.vA cut=true):
 SI (l6 (uY (nY D keep torn cut)) s.wh s.ep s.pg) K K n h0 jP kc h0 jP kc\/SI (l6 (uY (nY D keep torn cut)) (1 - s.wh) (s.ep+1) s.aa) E E n h ps po h ps po:=by
 have hw:=S.mr.k;have hd':tx (nY D keep torn cut):=Ds.atE C.d;have hl:(nY D keep torn cut).1.length=s.th.length:=uZ.trans C.len;have hm:(nY D keep torn cut).2.1=[]:=by rw[ayV hc]
 rcases C.how with⟨a,b⟩|⟨b,a,c⟩;left
 have hD:∀x:Int,¬Fr s (x / 4)->Ds.cG (nY D keep torn cut).1 (nY D keep torn cut).2.1 x=Ds.cG s.th s.m x:=λx hx=>by
  have e:=wQ (keep:=keep) (torn:=torn) C.d hc (x:=x) (by rw[b];exact S.q x hx);rw[e,a,b]
 exact S.again hn hd' hl hm (S.mr.same hl (hD 0 (S.low (by decide))) (hD 4 (S.low (by decide)))) λx _ hx=>hD x hx
 have far:∀x:Int,x≠(1 - s.wh)*4->Ds.cG (nY D keep torn cut).1 (nY D keep torn cut).2.1 x=Ds.cG s.th s.m x:=λx hx=>by
  have hg:cp D.2.1 x=none:=by
   rcases c with c|c;rw[c];rfl;rw[c];exact afk _ hx
  rw[wQ C.d hc hg];exact C.seen hx
 have cO:Ds.jg D.1 ((1 - s.wh)*4)=true:=by rw[Ds.yf C.len];exact Ds.uy S.key
 have old:ze (nY D keep torn cut).1 (nY D keep torn cut).2.1 s.wh s.ep s.pg->SI (l6 (uY (nY D keep torn cut)) s.wh s.ep s.pg) K K n h0 jP kc h0 jP kc:=λM=>S.again hn hd' hl hm M λx hx _=>far x (by omega);have awm:Ds.zF (Ds.cG (nY D keep torn cut).1 (nY D keep torn cut).2.1 ((1 - s.wh)*4))=false->ze (nY D keep torn cut).1 (nY D keep torn cut).2.1 s.wh s.ep s.pg:=λe=>S.mr.off hl (far _ (by omega)) e;have asM:Ds.cG (nY D keep torn cut).1 (nY D keep torn cut).2.1 ((1 - s.wh)*4)=Ds.cG s.th s.m ((1 - s.wh)*4)->ze (nY D keep torn cut).1 (nY D keep torn cut).2.1 s.wh s.ep s.pg:=λe=>S.mr.as hl (far _ (by omega)) e
 have ok:Ds.vU (s.ep+1) s.aa:=by
  have:=S.e0;have:=S.rt;exact⟨by omega,by omega,by omega,by omega⟩
 rcases c with c|c;have e:=wQ (keep:=keep) (torn:=torn) C.d hc (x:=(1 - s.wh)*4) (by rw[c];rfl);rw[c,a]at e;cases b with
 |false=>
  rw[if_neg (λh=>by cases h.1)]at e;exact .inl (old (asM e))
 |true=>
  rw[if_pos ⟨rfl,rfl⟩]at e;refine .inl (old (awm ?_));rw[e];exact(Ds.adY ok).1
 have⟨th,m,fu⟩:=D;have c:m=v7 ((1 - s.wh)*4) (Ds.pe b (s.ep+1) s.aa):=c;subst c;have a:=a ((1 - s.wh)*4);have e:=ayW C.d cO keep torn hc;have sI:bw (Ds.pe b (s.ep+1) s.aa)=Ds.mkB b (s.ep+1) s.aa:=Ds.qz (Ds.adX b (s.ep+1) s.aa);have a:Ds.cG th [] ((1 - s.wh)*4)=_:=a;have cO:Ds.jg th ((1 - s.wh)*4)=true:=cO;have ayX:Ds.cG th [] ((1 - s.wh)*4)=aF (Ds.lg th [] ((1 - s.wh)*4)):=by unfold Ds.cG;rw[if_pos cO]
 have hT:Ds.bm th [] fu:=⟨C.d.t,⟨by simp,λp hp=>by cases hp⟩,C.d.f⟩;have bB:=Ds.sC hT cO;rw[sI]at e;cases b with
 |false=>
  rw[if_neg (λh=>by cases h.1)]at a;rcases ao9 (keep:=keep) (torn:=torn) hc bB (s.ep+1) s.aa with x|x;rw[x,<-ayX,a]at e;exact .inl (old (asM (by rw[hm];exact e)));exact .inl (old (awm (by rw[hm,e];exact x)))
 |true=>
  rw[if_pos ⟨rfl,rfl⟩]at a;rw[ak2 hc bB (Ds.sN false (s.ep+1) s.aa) (Ds.sN true (s.ep+1) s.aa) (ayX.symm.trans a)]at e;have⟨b,x⟩:=ast (keep:=keep) (torn:=torn) hc (s.ep+1) s.aa;rw[x]at e;cases b with
  |false=>
   refine .inl (old (awm ?_));rw[hm,e];exact(Ds.adY (on:=false) ok).1
  |true=>
   have⟨b1,b2,b3,b4⟩:=S.b
   have rd:∀x,Ds.cG (nY (th,v7 ((1 - s.wh)*4) (Ds.pe true (s.ep+1) s.aa),fu) keep torn cut).1 (nY (th,v7 ((1 - s.wh)*4) (Ds.pe true (s.ep+1) s.aa),fu) keep torn cut).2.1 x=if x=(1 - s.wh)*4 then Ds.pe true (s.ep+1) s.aa else Ds.cG s.th s.m x:=λx=>by
    by_cases hx:x=(1 - s.wh)*4;rw[if_pos hx,hx,hm];exact e;rw[if_neg hx];exact far x hx
   refine .inr (SI.make (s:=uY _) (S.mr.ayH hl ⟨S.e0,he⟩ S.rt rd) hd' (S.t.holds.alike λp hp=>qd hl λx hx=> ?_) S.t.inv.nd (λp hp=> ?_) hm b1 b3 hn (by have:=S.e0;omega));have:=S.rg p hp;exact far x (by omega);show 2<=p/\p<Ds.eF (nY _ keep torn cut).1;rw[gO hl];exact S.rg p hp
end
structure Gc (s:Sd) (E K:List En) (n:Nat) (N:Int):Prop where
 ep:s.ep<=(n:Int)+1
 pn:Ds.eF s.th=N
 i:∃h ps po h0 jP kc,SI s E K n h ps po h0 jP kc
structure Gd (s:Sd) (E K:List En) (n:Nat) (N:Int):Prop extends Gc s E K n N where
 fu:s.fu= -1
theorem afr{fr:Ws}(hw:Bx.okW fr){N:Int}(hN:2<=N)(h:∀p,In fr p->2<=p/\p<N):(im fr:Int)<=N - 2:=by
 have l:((List.range (N - 2).toNat).map λk:Nat=>(k:Int)+2).length=(N - 2).toNat:=by simp
 have:=wM hw (N:=(List.range (N - 2).toNat).map λk:Nat=>(k:Int)+2) λp hp=>by
  have:=h p hp;exact mem_map.2 ⟨(p - 2).toNat,mem_range.2 (by omega),by omega⟩
 omega
theorem apa{fr:Ws}(hw:Bx.okW fr){N:Int}(hN:2<=N)(h:∀p,In fr p↔2<=p/\p<N):(im fr:Int)=N - 2:=by
 have l:((List.range (N - 2).toNat).map λk:Nat=>(k:Int)+2).length=(N - 2).toNat:=by simp
 have a:=afr hw hN λp hp=>(h p).1 hp
 have b:=ar1 hw (N:=(List.range (N - 2).toNat).map λk:Nat=>(k:Int)+2) (by
  unfold List.Nodup;rw[List.pairwise_map]
  exact List.nodup_range.imp λh e=>h (by omega)) λp hp=>by
   obtain⟨k,hk,rfl⟩:=mem_map.1 hp;have:=mem_range.1 hk;exact(h _).2 (by omega)
 omega
theorem Gd.start{n:Int}(h:3<=n/\n<=1024):Gd (fmS n) [] [] 0 n:=by
 have⟨a,b,c,d,e,f⟩:=aoX h;exact⟨⟨by show(1:Int)<=_;omega,e,_,_,_,_,_,_,atz h⟩,b⟩
section
variable{s:Sd}{E K:List En}{n:Nat}{N:Int}
structure Fx (s:Sd) (E:List En) (n:Nat):Prop where
 d:Ds.bm s.th s.m s.fu
 fr:Bx.okW s.fr
 r:0<=s.aa/\s.aa<=65536
 w:s.wh=0\/s.wh=1
 e0:0<=s.ep
 l0:vZ s.th s.m s.aa empty=0
 l:m8 s.th s.m s.aa empty=E
 p0:zm s.th s.m s.aa=0
 fw:Bx.okW (jN s.th s.m s.br s.aa)
 ff:jN s.th s.m s.br s.aa=s.fr
 R:nF s.th s.m s.pg
 Rw:dR s.th s.m s.pg=s.br
 mk':dG s.th s.m=(s.wh,true,s.ep,s.pg)
 n3:3<=Ds.eF s.th
 len:E.length<=n
theorem Gc.fx(G:Gc s E K n N)(hn:n<=1000):Fx s E n:=by
 have⟨h,ps,po,h0,jP,kc,S⟩:=G.i;have⟨a,b⟩:=S.list hn;have⟨c,d,e⟩:=S.free hn;have⟨f,g⟩:=S.aa hn;have r:=S.rt;exact⟨S.t.ok.d,S.t.ok.fr,⟨r.1,by omega⟩,S.mr.k,S.e0,a,b,c,d,e,f,g,S.mr.dG,S.mr.n,S.b.2.2.1⟩
theorem Gc.aAW(G:Gc s E K n N):K.length<=n:=by
 have⟨h,ps,po,h0,jP,kc,S⟩:=G.i;exact S.b.2.2.2
theorem Gc.more(G:Gc s E K n N){n':Nat}(h:n<=n'):Gc s E K n' N:=by
 have⟨_,_,_,_,_,_,S⟩:=G.i;exact⟨by have:=G.ep;omega,G.pn,_,_,_,_,_,_,S.more h⟩
theorem Gc.op(G:Gc s E K n N)(hn:n<=1000)(key:ByteArray)(op:Option ByteArray):Gc (cM s key op) (if lR s key op=0 then lQ key op E else E) K (n+1) N/\(s.fu= -1->(cM s key op).fu= -1):=by
 have⟨_,_,_,_,_,_,S⟩:=G.i;have⟨f,r⟩:=S.op hn key op;refine⟨⟨by have:=G.ep;show s.ep<=_;omega,G.pn, ?_⟩,f⟩;rcases r with⟨a,h',ps',po',b⟩|⟨a,b⟩;rw[if_pos a];exact⟨_,_,_,_,_,_,b⟩;rw[if_neg a];exact⟨_,_,_,_,_,_,b⟩
theorem Gc.back(G:Gc s E K n N)(hn:n<=1000):Gc (l6 s s.wh s.ep s.pg) K K n N:=by
 have⟨_,_,_,_,_,_,S⟩:=G.i;exact⟨G.ep,G.pn,_,_,_,_,_,_,S.back hn⟩
theorem Gd.more(G:Gd s E K n N){n':Nat}(h:n<=n'):Gd s E K n' N:=⟨G.toGc.more h,G.fu⟩
theorem Gd.op(G:Gd s E K n N)(hn:n<=1000)(key:ByteArray)(op:Option ByteArray):Gd (cM s key op) (if lR s key op=0 then lQ key op E else E) K (n+1) N:=⟨(G.toGc.op hn key op).1,(G.toGc.op hn key op).2 G.fu⟩
theorem Gd.back(G:Gd s E K n N)(hn:n<=1000):Gd (l6 s s.wh s.ep s.pg) K K n N:=⟨G.toGc.back hn,G.fu⟩
theorem Gd.uU(G:Gd s E K n N)(hn:n<=1000):coE s=0/\(ml s).pg=(ml s).aa/\Gd (ml s) E E (n+1) N:=by
 have⟨h,ps,po,h0,jP,kc,S⟩:=G.i;have he:s.ep<1099511627776:=by have:=G.ep;omega
 have ok:Ds.vU (s.ep+1) s.aa:=by
  have:=S.e0;have:=S.rt;exact⟨by omega,by omega,by omega,by omega⟩
 rcases ajg (s:=(s.th,s.m,s.fu)) (k:=1 - s.wh) S.t.ok.d S.key ok with⟨e,C⟩|⟨_,C⟩;have e:(coX s).2=0:=e;have c1:ml s=l6 (coT s) (1 - s.wh) (s.ep+1) s.aa:=if_pos e;have I:=S.uU hn he C (t:=coT s) rfl rfl rfl;rw[c1];refine⟨e,rfl,⟨by have:=G.ep;show s.ep+1<=_;omega,(gO C.len).trans G.pn,_,_,_,_,_,_,I.more (Nat.le_succ n)⟩,C.fu G.fu⟩;exact absurd G.fu C.ft
theorem Gd.free(G:Gd s E K n N)(hn:n<=1000):0<=Bx.lN (jN s.th s.m s.br s.aa)/\Bx.lN (jN s.th s.m s.br s.aa)<=N - 2:=by
 have F:=G.fx hn;have⟨h,ps,po,h0,jP,kc,S⟩:=G.i;rw[F.ff,acE F.fr];have n3:=F.n3;rw[G.pn]at n3;refine⟨by omega,afr F.fr (by omega) λp hp=> ?_⟩;have:=((pE S.w).1 ((S.t.inv.cov p).2 (.inl hp))).1;rw[G.pn]at this;omega
theorem Gd.bare(G:Gd s [] [] n N)(hn:n<=1000):Bx.lN (jN s.th s.m s.br s.aa)=N - 2:=by
 have F:=G.fx hn;have⟨h,ps,po,h0,jP,kc,S⟩:=G.i;rw[F.ff,acE F.fr];have n3:=F.n3;rw[G.pn]at n3;have e0:=S.k.zero.2 rfl;have e1:=S.t.holds.zero.2 rfl;subst e0 e1;have lim:=ar6 F.d;rw[G.pn]at lim;refine apa F.fr (by omega) λp=> ?_;have f:=pE (th:=s.th) S.w (p:=p);rw[G.pn]at f;constructor;intro hp;have:=(f.1 ((S.t.inv.cov p).2 (.inl hp))).1;omega;intro hp;have:Fr s p:=f.2 ⟨by omega,λx=>by have:=(S.wi p).1 x;cases this⟩;exact((S.t.inv.cov p).1 this).resolve_right λx=>by have:=S.t.inv.sub p x;cases this
end
structure Bs (t:Sd) (K U:List En) (n:Nat) (N:Int):Prop where
 fu:t.fu=0
 d:Ds.bm t.th t.m t.fu
 k:K.length<=n
 u:U.length<=n
 cr:∀(keep:List Bool) (torn cut:Int),Ds.vA cut=true->∃wh ep pg L,(L=K\/L=U)/\Gc (l6 (uY (nY (t.th,t.m,t.fu) keep torn cut)) wh ep pg) L L n N
structure Fw (t:Sd) (K:List En):Prop where
 R:nF t.th t.m t.pg
 r:0<=t.aa/\t.aa<=65536
 l0:vZ t.th t.m t.aa empty=0
 l:m8 t.th t.m t.aa empty=K
section
variable{s:Sd}{E K:List En}{n:Nat}{N:Int}
theorem Gc.uU(G:Gc s E K n N)(hn:n<=1000):(coE s=0/\Gc (ml s) E E (n+1) N)\/(coE s=42/\Fw (ml s) K/\Bs (ml s) K E (n+1) N):=by
 have⟨h,ps,po,h0,jP,kc,S⟩:=G.i;have⟨b1,b2,b3,b4⟩:=S.b;have he:s.ep<1099511627776:=by have:=G.ep;omega
 have ok:Ds.vU (s.ep+1) s.aa:=by
  have:=S.e0;have:=S.rt;exact⟨by omega,by omega,by omega,by omega⟩
 rcases ajg (s:=(s.th,s.m,s.fu)) (k:=1 - s.wh) S.t.ok.d S.key ok with⟨e,C⟩|⟨e,C⟩;have e:(coX s).2=0:=e;have c1:ml s=l6 (coT s) (1 - s.wh) (s.ep+1) s.aa:=if_pos e;have I:=S.uU hn he C (t:=coT s) rfl rfl rfl;rw[c1];exact .inl ⟨e,⟨by have:=G.ep;show s.ep+1<=_;omega,(gO C.len).trans G.pn,_,_,_,_,_,_,I.more (Nat.le_succ n)⟩⟩;have e:(coX s).2=42:=e;have c1:ml s=l6 (coT s) s.wh s.ep s.pg:=if_neg (by rw[e];decide);have⟨H,_⟩:=S.aAK C;have hh:=(S.small hn).2;have hl:(coT s).th.length=s.th.length:=C.len;have R:nF (coT s).th (coT s).m s.pg:=asd H S.nd (λp hp=>by rw[gO hl];exact S.rg0 p hp) (by omega);have⟨l0,l1⟩:=aa2 H S.nd (by omega) empty;rw[filter_all]at l1;rw[c1];refine .inr ⟨e,⟨R,R.rg,l0,l1⟩,C.fu,C.d,by omega,by omega,λkeep torn cut hc=> ?_⟩;have pn:Ds.eF (nY ((coT s).th,(coT s).m,(coT s).fu) keep torn cut).1=N:=(gO (uZ (s:=((coT s).th,(coT s).m,(coT s).fu)).trans hl)).trans G.pn;rcases S.aAV hn he C keep torn hc with I|I;exact⟨_,_,_,K,.inl rfl,by have:=G.ep;show s.ep<=_;omega,pn,_,_,_,_,_,_,I.more (Nat.le_succ n)⟩;exact⟨_,_,_,E,.inr rfl,by have:=G.ep;show s.ep+1<=_;omega,pn,_,_,_,_,_,_,I.more (Nat.le_succ n)⟩
theorem Gc.ajn(G:Gc s E K n N)(hn:n<=1000)(keep:List Bool)(torn:Int){cut:Int}(hc:Ds.vA cut=true):Gc (l6 (uY (nY (s.th,s.m,s.fu) keep torn cut)) s.wh s.ep s.pg) K K n N:=by
 have⟨h,ps,po,h0,jP,kc,S⟩:=G.i;exact⟨G.ep,(gO uZ).trans G.pn,_,_,_,_,_,_,S.ajn hn keep torn hc⟩
theorem Gc.aAX(G:Gc s E K n N){f:Int}(hf:Ds.okF f):Gc ⟨s.th,s.m,f,s.wh,s.ep,s.pg,s.br,s.aa,s.fr,s.fs,s.gn⟩ E K n N:=by
 have⟨h,ps,po,h0,jP,kc,S⟩:=G.i;have t:=S.t;exact⟨G.ep,G.pn,_,_,_,_,_,_,⟨S.mr,⟨⟨⟨t.ok.d.t,t.ok.d.m,hf⟩,t.ok.fr,t.ok.fs,t.ok.gn,t.ok.pg⟩,t.gz,t.f0,t.holds,t.inv⟩,S.k,S.nd,S.w,S.wi,S.rg0,S.rg,S.q,S.b,S.e0⟩⟩
end
def vM:aK:=(7,bY Ds.sDe Ds.sG)::(8,bY Ds.sFu Ds.mFu)::(9,Ds.ayU)::atB
def ak3:List (Nat×Norm):=[(10,⟨[],[1,5,6,7,8,9,10],0,roB⟩),(25,⟨[],[1,5,7,8,9,10],0,[(1,0,true,.au cE [],Lf.eE),(1,1,true,.au cE [],Lf.eE)]⟩),(kDo 18,⟨[],[0,1,6,95,99,100,101,103,104,105,108],0,aAQ⟩)]
abbrev eS8:TypeId:=34
abbrev obX(x:CL iZ):ak:=.aq [.s (.int .u8 (xK x)),.s (.str (xA x)),.s (.str (xV x)),aM (xN x),.s (.ro (.bF (xB x))),aM (xT x),aM (xC x)] eS8
def cCa(l:List (CL iZ))(i:Int)(s:Sd)(now kept:List En):bP:=⟨sl 127 [(1,av8 l),(5,.ptr 0 0),(6,.ptr 1 0),(7,.ptr 2 0),(9,.s (.aI false)),(10,aM i)],hP s now kept,hd f3 10,{}⟩
def cCb(l:List (CL iZ))(i:Int)(s:Sd)(now kept U:List En):bP:=⟨sl 127 [(1,av8 l),(5,.ptr 0 0),(6,.ptr 1 0),(7,.ptr 2 0),(8,.s (.ro (.au cE U))),(9,.s (.aI true)),(10,aM i)],hP s now kept,hd f3 10,{}⟩
abbrev hC5(th:Th)(m:As)(fu:Int)(now kept:List En):List ak:=[Ds.jI 2 3 fu,obB now kept,.vec (.au Ds.cS th) Ds.eS,.map Ds.kS m]
def awn(l:List (CL iZ))(i:Int)(th:Th)(m:As)(fu:Int)(now kept:List En):bP:=⟨sl 127 [(1,av8 l),(5,.ptr 0 0),(7,.ptr 1 0),(9,.s (.aI false)),(10,aM i)],hC5 th m fu now kept,hr f3 25,{}⟩
def awo(l:List (CL iZ))(i:Int)(th:Th)(m:As)(fu:Int)(now kept U:List En):bP:=⟨sl 127 [(1,av8 l),(5,.ptr 0 0),(7,.ptr 1 0),(8,.s (.ro (.au cE U))),(9,.s (.aI true)),(10,aM i)],hC5 th m fu now kept,hr f3 25,{}⟩
abbrev fuQ(n:Int):Int:=i64.wrap ((u64.wrap n).tmod 40)
abbrev cuQ(n:Int):Int:=i64.wrap ((u64.wrap n).tmod 65)
abbrev hDc(s:Sd)(x:CL iZ)(now kept old:List En):List ak:=[obB now kept,fy 2 s.wh true s.ep s.pg s.br (.ptr 5 0),Ds.jI 6 7 s.fu,obX x,.vec (.au cE old) Lf.eE,fL 2 s.aa s.fr s.fs s.gn,.vec (.au Ds.cS s.th) Ds.eS,.map Ds.kS s.m]
def cDc(l:List (CL iZ))(i e:Int)(s:Sd)(x:CL iZ)(now kept old:List En):bP:=⟨sl 221 [(0,.ptr 0 0),(1,.ptr 1 0),(6,aM e),(95,av8 l),(99,.ptr 2 0),(100,.ptr 1 0),(101,.ptr 0 0),(103,.s (.aI false)),(104,aM i),(105,.ptr 3 0),(108,.vec 4)],hDc s x now kept old,hr f12 18,⟨some fDo,false,0,[k9 f3 none 14 2 false 0],0⟩⟩
def cCx(x:AV)(l:List (CL iZ))(i:Int)(s:Sd)(now kept:List En):bP:=⟨sl 127 [(1,av8 l),(5,.ptr 0 0),(6,.ptr 1 0),(7,.ptr 2 0),(8,x),(9,.s (.bool false)),(10,aM i)],hP s now kept,hd f3 10,{}⟩
def cCj(l:List (CL iZ))(i:Int)(s:Sd)(now kept:List En):bP:=⟨sl 127 [(1,av8 l),(5,.ptr 0 0),(6,.ptr 1 0),(7,.ptr 2 0),(9,.s (.bool false)),(10,aM i)],hP s now kept,hd f3 10,{}⟩
def cCy(l:List (CL iZ))(i:Int)(s:Sd)(now kept U:List En):bP:=⟨sl 127 [(1,av8 l),(5,.ptr 0 0),(6,.ptr 1 0),(7,.ptr 2 0),(8,.s (.ro (.au cE U))),(9,.s (.bool true)),(10,aM i)],hP s now kept,hd f3 10,{}⟩
abbrev hB(s:Sd)(now kept U:List En):List ak:=[Ds.jI 4 5 s.fu,fy 0 s.wh true s.ep s.pg s.br (.ptr 6 0),obB now kept,.vec (.au cE U) Lf.eE,.vec (.au Ds.cS s.th) Ds.eS,.map Ds.kS s.m,fL 0 s.aa s.fr s.fs s.gn]
def cCv(l:List (CL iZ))(i:Int)(s:Sd)(now kept U:List En):bP:=⟨sl 127 [(1,av8 l),(5,.ptr 0 0),(6,.ptr 1 0),(7,.ptr 2 0),(8,.vec 3),(9,.s (.bool true)),(10,aM i)],hB s now kept U,hd f3 10,{}⟩
def ayY(l:List (CL iZ))(i:Int)(th:Th)(m:As)(fu:Int)(now kept:List En):bP:=⟨sl 127 [(1,av8 l),(5,.ptr 0 0),(7,.ptr 1 0),(9,.s (.bool false)),(10,aM i)],hC5 th m fu now kept,hr f3 25,{}⟩
def ayZ(l:List (CL iZ))(i:Int)(th:Th)(m:As)(fu:Int)(now kept U:List En):bP:=⟨sl 127 [(1,av8 l),(5,.ptr 0 0),(7,.ptr 1 0),(8,.s (.ro (.au cE U))),(9,.s (.bool true)),(10,aM i)],hC5 th m fu now kept,hr f3 25,{}⟩
def cDj(l:List (CL iZ))(i e:Int)(s:Sd)(x:CL iZ)(now kept old:List En):bP:=⟨sl 221 [(0,.ptr 0 0),(1,.ptr 1 0),(6,aM e),(95,av8 l),(99,.ptr 2 0),(100,.ptr 1 0),(101,.ptr 0 0),(103,.s (.bool false)),(104,aM i),(105,.ptr 3 0),(108,.vec 4)],hDc s x now kept old,hr f12 18,⟨some fDo,false,0,[k9 f3 none 14 2 false 0],0⟩⟩
theorem aAY(p:Int)(l:List (CL iZ)):jQ (run P vM.sum f3 ak3 (start f3 [.s (.int .u8 p),av8 l] []) (inl:=[12]))=
 Tree.ab (bp (some [AV.s (.ro (.au iZ l))])) (.ab adI (.ab (l.length<=9223372036854775807) (.both True (l.length - (120:Nat)=0) (.ret [] (.s (.bool true))) (.ite false (.ret [] (.s (.bool true))) (.ab ((60:Int)≠0) (.ab (aA (p.tmod 60)) (.ab (aA ((3:Int)+p.tmod 60)) (.ab (bp (some [AV.s (.int .i64 ((3:Int)+p.tmod 60))])) (.ab adI (.ab ((3:Int)<=3+p.tmod (60:Int)/\(3:Int)+p.tmod (60:Int)<=1000) (.at (cCx .emp l 0 (fmS ((3:Int)+p.tmod 60)) [] [])))))))))))):=by kernel_rfl
theorem ay0(l:List (CL iZ))(i:Int)(s:Sd)(now kept:List En):jQ (run P vM.sum f3 ak3 (cCa l i s now kept) (inl:=[12]))=
 Tree.ite (decide (i<(↑l.length:Int)))
 (Tree.ab ((0:Int)≤i)
   (Tree.ab (i<(↑l.length:Int))
     (Tree.ite (xK (el l i)==(6:Int)) (Tree.ab (bp (some [AV.ptr (0:Nat) (0:Nat)])) (Tree.ab (bp (some (Ds.hD s.th s.m s.fu))) (Tree.ite (!s.fu==(0:Int)) (Tree.ab ((40:Int)≠(0:Int)) (Tree.ab (bp (some [AV.ptr (0:Nat) (0:Nat),AV.s (SV.int i64 (fuQ (xN (el l i))))])) (Tree.ab (bp (some (Ds.hD s.th s.m s.fu))) (Tree.ite (Ds.fuE s.fu (fuQ (xN (el l i))) !=(0:Int)) (Tree.ret [] (AV.s (SV.aI false))) (Tree.ab (aA (i+(1:Int))) (Tree.at (bP.mk (sl (127:Nat) [((1:Nat),AV.s (SV.ro (aU.au iZ l))),((5:Nat),AV.ptr (0:Nat) (0:Nat)),((6:Nat),AV.ptr (1:Nat) (0:Nat)),((7:Nat),AV.ptr (2:Nat) (0:Nat)),((9:Nat),AV.s (SV.bool false)),((10:Nat),AV.s (SV.int i64 (i+(1:Int))))]) [ak.aq [AV.vec (3:Nat),AV.fv (4:Nat),AV.s (SV.int i64 (Ds.fuF s.fu (fuQ (xN (el l i)))))] (56:Nat),ak.aq [AV.ptr (0:Nat) (0:Nat),AV.s (SV.int i64 s.wh),AV.s (SV.bool true),AV.s (SV.int i64 s.ep),AV.s (SV.int i64 s.pg),AV.ah u64 (16:Nat) s.br,AV.ptr (5:Nat) (0:Nat)] (70:Nat),ak.aq [AV.s (SV.ro (aU.au [CK.str,CK.str] now)),AV.s (SV.ro (aU.au [CK.str,CK.str] kept))] (31:Nat),ak.vec (aU.au [CK.arr u8 (64:Nat)] s.th) (60:Nat),ak.map (CK.arr u8 (64:Nat)) s.m,ak.aq [AV.ptr (0:Nat) (0:Nat),AV.s (SV.int i64 s.aa),AV.ah u64 (16:Nat) s.fr,AV.ah u64 (16:Nat) s.fs,AV.ah u64 (16:Nat) s.gn] (109:Nat)] (hd f3 (10:Nat)) (uf.mk none false (0:Nat) [] (0:Nat))))))))) (Tree.ab (aA (i+(1:Int))) (Tree.at (cCj l (i+(1:Int)) s now kept))))))
       (Tree.ite (xK (el l i)==(7:Int)) (Tree.ab ((65:Int)≠(0:Int)) (Tree.ab (bp (some [AV.ptr (0:Nat) (0:Nat),AV.s (SV.ro (aU.bF (xB (el l i)))),AV.s (SV.int i64 (xT (el l i))),AV.s (SV.int i64 (cuQ (xC (el l i))))])) (Tree.ab (bp (some (Ds.hD s.th s.m s.fu))) (Tree.ab (Ds.bm s.th s.m s.fu) (Tree.ite (Ds.crE (cuQ (xC (el l i))) !=(0:Int)) (Tree.ret [] (AV.s (SV.aI false))) (Tree.at (ayY l i (Ds.crH s.th s.m (xB (el l i)) (xT (el l i)) (i64.wrap ((u64.wrap (xC (el l i))).tmod (65:Int)))) (Ds.crM s.m (i64.wrap ((u64.wrap (xC (el l i))).tmod (65:Int)))) (Ds.crF s.fu (i64.wrap ((u64.wrap (xC (el l i))).tmod (65:Int)))) now kept))))))) (Tree.ab (((0:Nat)+now.length)*(32:Nat)≤(140737488355328:Nat)) (Tree.ite (xK (el l i)==(0:Int)) (Tree.ab (bp (some [AV.ptr (0:Nat) (0:Nat),AV.s (SV.str (xA (el l i))),AV.s (SV.str (xV (el l i)))])) (Tree.ab (bp (some (wO s))) (Tree.ab (Ds.bm s.th s.m s.fu) (Tree.ab (Bx.okW s.fr) (Tree.ab ((0:Int)≤s.aa∧s.aa≤(65536:Int)) (Tree.ite (lR s (xA (el l i)) (some (xV (el l i)))==(0:Int)) (Tree.ab (bp (some [AV.s (SV.ro (aU.au [CK.str,CK.str] now)),AV.s (SV.str (xA (el l i))),AV.s (SV.str (xV (el l i)))])) (Tree.ab adI (Tree.ab (now.length≤(1000:Nat)) (Tree.at (cDj l i (lR s (xA (el l i)) (some (xV (el l i)))) (cM s (xA (el l i)) (some (xV (el l i)))) (el l i) (bN now (xA (el l i)) (xV (el l i))) kept ([]++now)))))) (Tree.at (cDj l i (lR s (xA (el l i)) (some (xV (el l i)))) (cM s (xA (el l i)) (some (xV (el l i)))) (el l i) now kept ([]++now))))))))) (Tree.ite (xK (el l i)==(1:Int)) (Tree.ab (bp (some [AV.ptr (0:Nat) (0:Nat),AV.s (SV.str (xA (el l i)))])) (Tree.ab (bp (some (wO s))) (Tree.ab (Ds.bm s.th s.m s.fu) (Tree.ab (Bx.okW s.fr) (Tree.ab ((0:Int)≤s.aa∧s.aa≤(65536:Int)) (Tree.ite (lR s (xA (el l i)) none==(0:Int)) (Tree.ab (bp (some [AV.s (SV.ro (aU.au [CK.str,CK.str] now)),AV.s (SV.str (xA (el l i)))])) (Tree.ab adI (Tree.ab (now.length≤(1000:Nat)) (Tree.at (cDj l i (lR s (xA (el l i)) none) (cM s (xA (el l i)) none) (el l i) (cH now (xA (el l i))) kept ([]++now)))))) (Tree.at (cDj l i (lR s (xA (el l i)) none) (cM s (xA (el l i)) none) (el l i) now kept ([]++now))))))))) (Tree.ite (xK (el l i)==(4:Int)) (Tree.ab (bp (some [AV.ptr (0:Nat) (0:Nat)])) (Tree.ab (bp (some (wO s))) (Tree.ab (Ds.bm s.th s.m s.fu) (Tree.ab ((0:Int)≤s.ep∧s.ep<(1099511627776:Int)) (Tree.ab (s.wh=(0:Int)∨s.wh=(1:Int)) (Tree.ab (nF (ml s).th (ml s).m (ml s).pg) (Tree.ite (coE s==(0:Int)) (Tree.ab (((0:Nat)+now.length)*(32:Nat)≤(140737488355328:Nat)) (Tree.at (cDj l i (coE s) (ml s) (el l i) now ([]++now) ([]++now)))) (Tree.ab (((0:Nat)+kept.length)*(32:Nat)≤(140737488355328:Nat)) (Tree.at (cDj l i (coE s) (ml s) (el l i) ([]++kept) kept ([]++now))))))))))) (Tree.ite (xK (el l i)==(5:Int)) (Tree.ab (bp (some [AV.ptr (0:Nat) (0:Nat)])) (Tree.ab (bp (some (wO s))) (Tree.ab (Ds.bm s.th s.m s.fu) (Tree.ab (nF s.th s.m s.pg) (Tree.ab (((0:Nat)+kept.length)*(32:Nat)≤(140737488355328:Nat)) (Tree.at (cDj l i (0:Int) (l6 s s.wh s.ep s.pg) (el l i) ([]++kept) kept ([]++now)))))))) (Tree.at (cDj l i (0:Int) s (el l i) now kept ([]++now))))))))))))
 (Tree.ret [] (AV.s (SV.aI true))):=by kernel_rfl
theorem ay1(l:List (CL iZ))(i:Int)(s:Sd)(now kept U:List En):jQ (run P vM.sum f3 ak3 (cCb l i s now kept U) (inl:=[12]))=
 Tree.ite (decide (i<(↑l.length:Int))) (Tree.ab ((0:Int)≤i) (Tree.ab (i<(↑l.length:Int)) (Tree.ite (xK (el l i)==(6:Int)) (Tree.ab (bp (some [AV.ptr (0:Nat) (0:Nat)])) (Tree.ab (bp (some (Ds.hD s.th s.m s.fu))) (Tree.ite (!s.fu==(0:Int)) (Tree.ab ((40:Int)≠(0:Int)) (Tree.ab (bp (some [AV.ptr (0:Nat) (0:Nat),AV.s (SV.int i64 (fuQ (xN (el l i))))])) (Tree.ab (bp (some (Ds.hD s.th s.m s.fu))) (Tree.ite (Ds.fuE s.fu (fuQ (xN (el l i))) !=(0:Int)) (Tree.ret [] (AV.s (SV.aI false))) (Tree.ab (aA (i+(1:Int))) (Tree.at (bP.mk (sl (127:Nat) [((1:Nat),AV.s (SV.ro (aU.au iZ l))),((5:Nat),AV.ptr (0:Nat) (0:Nat)),((6:Nat),AV.ptr (1:Nat) (0:Nat)),((7:Nat),AV.ptr (2:Nat) (0:Nat)),((8:Nat),AV.s (SV.ro (aU.au [CK.str,CK.str] U))),((9:Nat),AV.s (SV.bool true)),((10:Nat),AV.s (SV.int i64 (i+(1:Int))))]) [ak.aq [AV.vec (3:Nat),AV.fv (4:Nat),AV.s (SV.int i64 (Ds.fuF s.fu (fuQ (xN (el l i)))))] (56:Nat),ak.aq [AV.ptr (0:Nat) (0:Nat),AV.s (SV.int i64 s.wh),AV.s (SV.bool true),AV.s (SV.int i64 s.ep),AV.s (SV.int i64 s.pg),AV.ah u64 (16:Nat) s.br,AV.ptr (5:Nat) (0:Nat)] (70:Nat),ak.aq [AV.s (SV.ro (aU.au [CK.str,CK.str] now)),AV.s (SV.ro (aU.au [CK.str,CK.str] kept))] (31:Nat),ak.vec (aU.au [CK.arr u8 (64:Nat)] s.th) (60:Nat),ak.map (CK.arr u8 (64:Nat)) s.m,ak.aq [AV.ptr (0:Nat) (0:Nat),AV.s (SV.int i64 s.aa),AV.ah u64 (16:Nat) s.fr,AV.ah u64 (16:Nat) s.fs,AV.ah u64 (16:Nat) s.gn] (109:Nat)] (hd f3 (10:Nat)) (uf.mk none false (0:Nat) [] (0:Nat))))))))) (Tree.ab (aA (i+(1:Int))) (Tree.at (cCy l (i+(1:Int)) s now kept U)))))) (Tree.ite (xK (el l i)==(7:Int)) (Tree.ab ((65:Int)≠(0:Int)) (Tree.ab (bp (some [AV.ptr (0:Nat) (0:Nat),AV.s (SV.ro (aU.bF (xB (el l i)))),AV.s (SV.int i64 (xT (el l i))),AV.s (SV.int i64 (cuQ (xC (el l i))))])) (Tree.ab (bp (some (Ds.hD s.th s.m s.fu))) (Tree.ab (Ds.bm s.th s.m s.fu) (Tree.ite (Ds.crE (cuQ (xC (el l i))) !=(0:Int)) (Tree.ret [] (AV.s (SV.aI false))) (Tree.at (ayZ l i (Ds.crH s.th s.m (xB (el l i)) (xT (el l i)) (i64.wrap ((u64.wrap (xC (el l i))).tmod (65:Int)))) (Ds.crM s.m (i64.wrap ((u64.wrap (xC (el l i))).tmod (65:Int)))) (Ds.crF s.fu (i64.wrap ((u64.wrap (xC (el l i))).tmod (65:Int)))) now kept U))))))) (Tree.ab (aA (i+(1:Int))) (Tree.at (cCy l (i+(1:Int)) s now kept U))))))) (Tree.ret [] (AV.s (SV.aI true))):=by kernel_rfl
theorem ay2(l:List (CL iZ))(i:Int)(th:Th)(m:As)(fu:Int)(now kept:List En):jQ (run P vM.sum f3 ak3 (awn l i th m fu now kept) (inl:=[12]))=
 Tree.ab (bp (some [AV.ptr 0 0])) (.ab (bp (some (Ds.hD th m fu))) (.ab (Ds.bm th m fu) (.ab ((3:Int)<=Ds.eF th) (.ab ((dG th m).snd.fst=true) (.ab (nF th m (dG th m).snd.snd.snd) (.ite false (.ret [] (.s (.aI false))) (.ab (bp (some [AV.ptr 0 0,.s (.ro (.au cE kept))])) (.ab (bp (some (jM th m fu (dG th m).fst true (dG th m).snd.snd.fst (dG th m).snd.snd.snd (dR th m (dG th m).snd.snd.snd) (dG th m).snd.snd.snd (nQ th (dR th m (dG th m).snd.snd.snd)) Bx.aG Bx.aG))) (.ab (Ds.bm th m fu) (.ab ((0:Int)<=(dG th m).snd.snd.snd/\(dG th m).snd.snd.snd<=65536) (.ab (vZ th m (dG th m).snd.snd.snd empty=0) (.ab ((m8 th m (dG th m).snd.snd.snd empty).length<=1000) (.ab (kept.length<=1000) (.ite (!decide (m8 th m (dG th m).snd.snd.snd empty=kept)) (.ret [] (.s (.aI false))) (.ab (((0:Nat)+kept.length)*(32:Nat)<=140737488355328) (.ab (aA (i+1)) (.at (.mk (sl 127 [(1,.s (.ro (.au iZ l))),(5,.ptr 0 0),(6,.ptr 1 0),(7,.ptr 2 0),(9,.s (.bool false)),(10,aM (i+1))]) [Ds.jI 3 4 fu,fy 0 ((dG th m).fst) true ((dG th m).snd.snd.fst) ((dG th m).snd.snd.snd) (dR th m (dG th m).snd.snd.snd) (.ptr 5 0),.aq [.s (.ro (.au cE ([]++kept))),.s (.ro (.au cE kept))] 31,.vec (.au Ds.cS th) Ds.eS,.map Ds.kS m,fL 0 ((dG th m).snd.snd.snd) (nQ th (dR th m (dG th m).snd.snd.snd)) Bx.aG Bx.aG] (hd f3 10) (.mk none false 0 [] 0))))))))))))))))))):=by kernel_rfl
theorem ay3(l:List (CL iZ))(i:Int)(th:Th)(m:As)(fu:Int)(now kept U:List En):jQ (run P vM.sum f3 ak3 (awo l i th m fu now kept U) (inl:=[12]))=
 Tree.ab (bp (some [AV.ptr 0 0]))
 (.ab (bp (some (Ds.hD th m fu)))
   (.ab (Ds.bm th m fu)
     (.ab ((3:Int)<=Ds.eF th)
       (.ab ((dG th m).snd.fst=true)
         (.ab (nF th m (dG th m).snd.snd.snd)
           (.ite false (.ret [] (.s (.aI false)))
             (.ab (bp (some [AV.ptr 0 0,.s (.ro (.au cE kept))]))
               (.ab (bp (some (jM th m fu (dG th m).fst true (dG th m).snd.snd.fst (dG th m).snd.snd.snd (dR th m (dG th m).snd.snd.snd) (dG th m).snd.snd.snd (nQ th (dR th m (dG th m).snd.snd.snd)) Bx.aG Bx.aG)))
                 (.ab (Ds.bm th m fu) (.ab ((0:Int)<=(dG th m).snd.snd.snd/\(dG th m).snd.snd.snd<=65536) (.ab (vZ th m (dG th m).snd.snd.snd empty=0) (.ab ((m8 th m (dG th m).snd.snd.snd empty).length<=1000) (.ab (kept.length<=1000) (.ite (!decide (m8 th m (dG th m).snd.snd.snd empty=kept)) (.ab (bp (some [AV.ptr 0 0,.s (.ro (.au cE U))])) (.ab (bp (some (jM th m fu (dG th m).fst true (dG th m).snd.snd.fst (dG th m).snd.snd.snd (dR th m (dG th m).snd.snd.snd) (dG th m).snd.snd.snd (nQ th (dR th m (dG th m).snd.snd.snd)) Bx.aG Bx.aG))) (.ab (Ds.bm th m fu) (.ab ((0:Int)<=(dG th m).snd.snd.snd/\(dG th m).snd.snd.snd<=65536) (.ab (vZ th m (dG th m).snd.snd.snd empty=0) (.ab ((m8 th m (dG th m).snd.snd.snd empty).length<=1000) (.ab (U.length<=1000) (.ite (!decide (m8 th m (dG th m).snd.snd.snd empty=U)) (.ret [] (.s (.aI false))) (.ab (((0:Nat)+U.length)*(32:Nat)<=140737488355328) (.ab (aA (i+1)) (.at (.mk (sl 127 [(1,.s (.ro (.au iZ l))),(5,.ptr 0 0),(6,.ptr 1 0),(7,.ptr 2 0),(8,.s (.ro (.au cE U))),(9,.s (.bool false)),(10,aM (i+1))]) [Ds.jI 3 4 fu,fy 0 ((dG th m).fst) true ((dG th m).snd.snd.fst) ((dG th m).snd.snd.snd) (dR th m (dG th m).snd.snd.snd) (.ptr 5 0),.aq [.s (.ro (.au cE ([]++U))),.s (.ro (.au cE U))] 31,.vec (.au Ds.cS th) Ds.eS,.map Ds.kS m,fL 0 ((dG th m).snd.snd.snd) (nQ th (dR th m (dG th m).snd.snd.snd)) Bx.aG Bx.aG] (hd f3 10) (.mk none false 0 [] 0))))))))))))) (.ab (((0:Nat)+kept.length)*(32:Nat)<=140737488355328) (.ab (aA (i+1)) (.at (.mk (sl 127 [(1,.s (.ro (.au iZ l))),(5,.ptr 0 0),(6,.ptr 1 0),(7,.ptr 2 0),(8,.s (.ro (.au cE U))),(9,.s (.bool false)),(10,aM (i+1))]) [Ds.jI 3 4 fu,fy 0 ((dG th m).fst) true ((dG th m).snd.snd.fst) ((dG th m).snd.snd.snd) (dR th m (dG th m).snd.snd.snd) (.ptr 5 0),.aq [.s (.ro (.au cE ([]++kept))),.s (.ro (.au cE kept))] 31,.vec (.au Ds.cS th) Ds.eS,.map Ds.kS m,fL 0 ((dG th m).snd.snd.snd) (nQ th (dR th m (dG th m).snd.snd.snd)) Bx.aG Bx.aG] (hd f3 10) (.mk none false 0 [] 0))))))))))))))))))):=by kernel_rfl
theorem aAZ(l:List (CL iZ))(i e:Int)(s:Sd)(x:CL iZ)(now kept old:List En):jQ (run P vM.sum f3 ak3 (cDc l i e s x now kept old) (inl:=[12]))=
 Tree.ab (bp (some [AV.ptr 0 0,.s (.ro (.au cE now))])) (.ab (bp (some (wO s))) (.ab (Ds.bm s.th s.m s.fu) (.ab ((0:Int)<=s.aa/\s.aa<=65536) (.ab (vZ s.th s.m s.aa empty=0) (.ab ((m8 s.th s.m s.aa empty).length<=1000) (.ab (now.length<=1000) (.ite (!decide (m8 s.th s.m s.aa empty=now)) (.ret [] (.s (.aI false))) (.ite (xK x==4) (.ite (e !=0) (.ab (aA (i+1)) (.at (.mk (sl 127 [(1,.s (.ro (.au iZ l))),(5,.ptr 0 0),(6,.ptr 1 0),(7,.ptr 2 0),(8,.vec 3),(9,.s (.bool true)),(10,aM (i+1))]) (hB s now kept old) (hd f3 10) (.mk none false 0 [] 0)))) (.ab (aA (i+1)) (.at (.mk (sl 127 [(1,.s (.ro (.au iZ l))),(5,.ptr 0 0),(6,.ptr 1 0),(7,.ptr 2 0),(9,.s (.bool false)),(10,aM (i+1))]) (hP s now kept) (hd f3 10) (.mk none false 0 [] 0))))) (.ab (aA (i+1)) (.at (.mk (sl 127 [(1,.s (.ro (.au iZ l))),(5,.ptr 0 0),(6,.ptr 1 0),(7,.ptr 2 0),(9,.s (.bool false)),(10,aM (i+1))]) (hP s now kept) (hd f3 10) (.mk none false 0 [] 0)))))))))))):=by kernel_rfl
theorem nt0{b:Bool}(h:(!b)=false):b=true:=by cases b<;>simp_all
theorem apb{l r:List En}{key val:ByteArray}(e:r=bN l key val):sPu.dN (l,key,val)=[.vec (.au cE r) Lf.eE]/\sPu.out (l,key,val)=.vec 0:=by subst e;exact⟨rfl,rfl⟩
theorem ay4{l r:List En}{key:ByteArray}(e:r=cH l key):sDe.dN (l,key)=[.vec (.au cE r) Lf.eE]/\sDe.out (l,key)=.vec 0:=by subst e;exact⟨rfl,rfl⟩
theorem awp{Z:bh}:fI P Z 26 sPu:=by
 refine fS func26 ?_;rintro⟨l,key,val⟩ ⟨(hl:l.length<=1000),_⟩ X hX hz;have gx:∀x∈asf,(sPu.heap (l,key,val)).length<=x.2.m:=by intro y hy;simp only[asf,mem_singleton]at hy;subst hy;exact le_refl _
 have tk:∀k:Nat,([]:List En)++List.drop (Int.toNat 0) (List.take (k:Int).toNat l)=l.take k:=λk=>by rw[nil_append,toNat_natCast];rfl
 have dr:∀k:Nat,List.drop (k:Int).toNat (List.take (l.length:Int).toNat l)=l.drop k:=λk=>by rw[toNat_natCast,toNat_natCast,List.take_length]
 have dr1:∀k:Nat,List.drop ((k:Int)+1).toNat (List.take (l.length:Int).toNat l)=l.drop (k+1):=λk=>dr (k+1)
 have loop:∀(j k:Nat),k+j=l.length->l.take k++bN (l.drop k) key val=bN l key val->Safe P 26 X (dO sPu (l,key,val)) (cPu l key val (k:Int)):=by
  intro j
  induction j with
  |zero=>
   intro k hk he;have hk':k=l.length:=by omega
   rw[List.drop_of_length_le (by omega)]at he;have e0:bN [] key val=[(key,val,())]:=rfl;refine Ds.cF hz hX gx aK.Ok.nil func26 (ayP l key val k) ⟨λh=>absurd (of_decide_eq_true h) (by omega),λ_=> ?_⟩;have ln:(l.take k).length=k:=by rw[length_take];omega
   have lt:List.drop (Int.toNat 0) (List.take (k:Int).toNat l)=l.take k:=by rw[toNat_natCast];rfl
   have l0:l.drop k=[]:=List.drop_of_length_le (by omega);rw[tk,dr,lt];refine⟨by omega,by omega,by omega,by rw[ln];omega,by rw[ln];omega,λh=>absurd (of_decide_eq_true h) (by omega),λ_=>⟨by omega,by omega,by omega, ?_, ?_⟩⟩;rw[length_append,ln,l0,length_nil,List.length_singleton];omega;have⟨f1,f2⟩:=apb (l:=l) (key:=key) (val:=val) (r:=l.take k++[(key,val,())]++l.drop k) (by rw[<-he,l0,append_nil];rfl);exact bD 0 (by kernel_rfl) (le_refl _) f2 f1
  |succ j ih=>
   intro k hk he;have d:l.drop k=l.getD k dE::l.drop (k+1):=drop_cons dE (by omega);have ln:(l.take k).length=k:=by rw[length_take];omega
   have lt:List.drop (Int.toNat 0) (List.take (k:Int).toNat l)=l.take k:=by rw[toNat_natCast];rfl
   have ld:(l.drop k).length=l.length - k:=length_drop;have ld1:(l.drop (k+1)).length=l.length - (k+1):=length_drop;refine Ds.cF hz hX gx aK.Ok.nil func26 (ayP l key val k) ⟨λ_=>⟨by omega,by omega,λh1=>⟨⟨by omega,by omega⟩, ?_⟩,λh1=> ?_⟩,λh=>absurd (of_decide_eq_false h) (by omega)⟩;refine ih (k+1) (by omega) ?_;have h1:slt (l.getD k dE).1 key=true:=h1;rw[d,wK h1]at he;rw[<-he,<-ic (d:=dE) (by omega),append_assoc];rfl;have h1:slt (l.getD k dE).1 key=false:=h1;rw[d,wL h1]at he;rw[tk,dr,dr1,lt];refine⟨by omega,by omega,by omega,by rw[ln];omega,by rw[ln];omega,λ_=>⟨by omega,by omega,λh2=>⟨⟨by omega,by omega⟩,by omega,by omega,by omega, ?_, ?_⟩,λh2=>⟨by omega,by omega,by omega, ?_, ?_⟩⟩,λh=>absurd (of_decide_eq_false h) (by omega)⟩;rw[length_append,ln,ld1,List.length_singleton];omega;have h2:(l.getD k dE).1=key:=of_decide_eq_true h2;rw[if_pos h2]at he;have⟨f1,f2⟩:=apb (l:=l) (key:=key) (val:=val) (r:=l.take k++[(key,val,())]++l.drop (k+1)) (by rw[<-he,append_assoc];rfl);exact bD 0 (by kernel_rfl) (le_refl _) f2 f1;rw[length_append,ln,ld,List.length_singleton];omega;have h2:¬(l.getD k dE).1=key:=of_decide_eq_false h2;rw[if_neg h2,<-d]at he;have⟨f1,f2⟩:=apb (l:=l) (key:=key) (val:=val) (r:=l.take k++[(key,val,())]++l.drop k) (by rw[<-he,append_assoc];rfl);exact bD 0 (by kernel_rfl) (le_refl _) f2 f1
 exact Ds.cF hz hX gx aK.Ok.nil func26 (aAL l key val) (loop l.length 0 (by omega) rfl)
theorem awq{Z:bh}:fI P Z 28 sDe:=by
 refine fS func28 ?_;rintro⟨l,key⟩ ⟨(hl:l.length<=1000),_⟩ X hX hz;have gx:∀x∈ash,(sDe.heap (l,key)).length<=x.2.m:=by intro y hy;simp only[ash,mem_singleton]at hy;subst hy;exact le_refl _
 have loop:∀(j k:Nat) (out:List En),k+j=l.length->out.length<=k->out++cH (l.drop k) key=cH l key->Safe P 28 X (dO sDe (l,key)) (cDe l out key (k:Int)):=by
  intro j
  induction j with
  |zero=>
   intro k out hk ho he;rw[List.drop_of_length_le (by omega)]at he;refine Ds.cF hz hX gx aK.Ok.nil func28 (ayQ l out key k) ⟨λh=>absurd (of_decide_eq_true h) (by omega),λ_=> ?_⟩;have⟨f1,f2⟩:=ay4 ((append_nil out).symm.trans he);exact bD 0 (by kernel_rfl) (le_refl _) f2 f1
  |succ j ih=>
   intro k out hk ho he;have d:l.drop k=l.getD k dE::l.drop (k+1):=drop_cons dE (by omega);rw[d,aaI]at he;have next:∀(apc:List En),apc.length<=k+1->apc++cH (l.drop (k+1)) key=cH l key->Safe P 28 X (dO sDe (l,key)) (cDe l apc key ((k:Int)+1)):=λapc a e=>ih (k+1) apc (by omega) a e
   refine Ds.cF hz hX gx aK.Ok.nil func28 (ayQ l out key k) ⟨λ_=>⟨by omega,by omega,λh3=>⟨by omega,by omega,by omega,⟨by omega,by omega⟩, ?_⟩,λh3=>⟨⟨by omega,by omega⟩, ?_⟩⟩,λh=>absurd (of_decide_eq_false h) (by omega)⟩;have hk3:¬(l.getD k dE).1=key:=of_decide_eq_false (nf0 h3);rw[if_pos (by rw[show isK key (l.getD k dE)=false from decide_eq_false hk3];rfl)]at he;refine next _ ?_ ?_
   simp only[length_append,length_cons,length_nil];omega;simp only[append_assoc];exact he;have hk3:(l.getD k dE).1=key:=of_decide_eq_true (nt0 h3);rw[if_neg (by rw[show isK key (l.getD k dE)=true from decide_eq_true hk3];decide)]at he;exact next _ (by omega) he
 exact Ds.cF hz hX gx aK.Ok.nil func28 (aAM l key) (loop l.length 0 [] (by omega) (le_refl _) rfl)
theorem awr{Z:bh}:fI P Z 4 sL8:=by
 refine sF func4 (by kernel_rfl) (λx=>le_of_ble_eq_true (by kernel_rfl)) ?_;rintro(l:List (CL iZ)) ⟨(hl:l.length<=9223372036854775807),_⟩ X hX hz;have gx:∀x∈asi,(sL8.heap l).length<=x.2.m:=by intro y hy;simp only[asi,mem_singleton]at hy;subst hy;exact le_refl _
 have yes:akf sL8 l [] (.s (.aI true)):=⟨⟨[],[0],0,[]⟩,.s (.bool true),le_refl _,by kernel_rfl,λρ H O w v hv=>by
  have:=ax (by simp) hv;cases this;exact aE (.lI _ _ _ (λh=>by cases h))⟩
 have no:l.length<=120->akf sL8 l [] (.s (.aI false)):=λh=>⟨⟨[],[0],0,[]⟩,.s (.bool false),le_refl _,by kernel_rfl,λρ H O w v hv=>by
  have:=ax (by simp) hv;cases this;exact aE (.lI _ _ _ (λ_=>by omega))⟩
 have loop:l.length<=120->∀(j k:Nat),k+j=l.length->Safe P 4 X (akf sL8 l) (cL8 l (k:Int)):=by
  intro aA0 j
  induction j with
  |zero=>
   intro k hk;exact Ds.cF hz hX gx aK.Ok.nil func4 (ayR l k) ⟨λh=>absurd (of_decide_eq_true h) (by omega),λ_=>no aA0⟩
  |succ j ih=>
   intro k hk;exact Ds.cF hz hX gx aK.Ok.nil func4 (ayR l k) ⟨λ_=>⟨by omega,by omega,λ_=>yes,λ_=>⟨by omega,by omega,λ_=>yes,λ_=>⟨by omega,by omega,λ_=>yes,λ_=>⟨⟨by omega,by omega⟩,ih (k+1) (by omega)⟩⟩⟩⟩,λh=>absurd (of_decide_eq_false h) (by omega)⟩
 exact Ds.cF hz hX gx aK.Ok.nil func4 (aAN l) ⟨λ_=>yes,λh=>loop (by have:=of_decide_eq_false h;omega) l.length 0 (by omega)⟩
theorem aws{a b:En}(h1:a.1=b.1)(h2:a.2.1=b.2.1):a=b:=Prod.ext h1 (Prod.ext h2 rfl)
theorem asu:fI P Bx.bO 11 ahe:=by
 refine fS func11 ?_;rintro⟨⟨th,m,fu,wh,ep,pg,br,aa,fr,fs,gn⟩,w⟩ ⟨(hd:Ds.bm th m fu),(hr:0<=aa/\aa<=65536),(h0:vZ th m aa empty=0),(hg:(m8 th m aa empty).length<=1000),(hw:w.length<=1000),_⟩ X hX hz;have gx:∀x∈ajj,(5:Nat)<=x.2.m:=by intro y hy;simp only[ajj,mem_singleton]at hy;subst hy;exact le_refl _
 have T:ahf.Ok P Bx.bO:=aK.Ok.cons (aoR.sum mSK) aK.Ok.nil;generalize hs:((⟨th,m,fu,wh,ep,pg,br,aa,fr,fs,gn⟩:Sd),w)=x;have hX:X.H=lk (jM th m fu wh true ep pg br aa fr fs gn):=by subst hs;exact hX
 have fin:∀b:Bool,decide (m8 th m aa empty=w)=b->ahe.dN x=jM th m fu wh true ep pg br aa fr fs gn/\ahe.out x=.s (.bool b):=λb h=>by
  subst hs h;exact⟨rfl,rfl⟩
 have aA1:∀b:Bool,decide (m8 th m aa empty=w)=b->ahe.dN x=jM th m fu wh true ep pg br aa fr fs gn/\ahe.out x=.s (.bool b):=fin
 have loop:(m8 th m aa empty).length=w.length->∀(j k:Nat),k+j=w.length->(m8 th m aa empty).take k=w.take k->Safe P 11 X (dO ahe x) (asj th m fu wh ep pg br aa fr fs gn w (m8 th m aa empty) (k:Int)):=by
  generalize m8 th m aa empty=zn at hg fin;intro bB j
  induction j with
  |zero=>
   intro k hk he;rw[take_of_length_le (by omega),take_of_length_le (by omega)]at he;have⟨f1,f2⟩:=fin true (decide_eq_true he);refine Ds.cF hz hX gx T func11 (atA th m fu wh ep pg br aa fr fs gn w zn k) ⟨λh=>absurd (of_decide_eq_true h) (by omega),λ_=> ?_⟩;exact bD 5 (by kernel_rfl) (le_refl _) f2 f1
  |succ j ih=>
   intro k hk he;have e1:zn.getD k dE=zn[k]:=ba (by omega);have e2:w.getD k dE=w[k]:=ba (by omega);refine Ds.cF hz hX gx T func11 (atA th m fu wh ep pg br aa fr fs gn w zn k) ⟨λ_=>⟨by omega,by omega,by omega,by omega,λh=> ?_,λh=>⟨⟨by omega,by omega⟩,ih (k+1) (by omega) ?_⟩⟩,λh=>absurd (of_decide_eq_false h) (by omega)⟩
   have ne:¬zn=w:=λe=>by
    subst e;have h:=nf0 h;rw[decide_eq_true rfl,decide_eq_true rfl]at h;cases h
   have⟨f1,f2⟩:=fin false (decide_eq_false ne);exact bD 5 (by kernel_rfl) (le_refl _) f2 f1
   have h:(decide ((zn.getD k dE).1=(w.getD k dE).1)&&(decide ((zn.getD k dE).2.1=(w.getD k dE).2.1)&&true))=true:=by
    cases hb:(decide ((zn.getD k dE).1=(w.getD k dE).1)&&(decide ((zn.getD k dE).2.1=(w.getD k dE).2.1)&&true))with
    |true=>rfl|false=>
     have h:(!(decide ((zn.getD k dE).1=(w.getD k dE).1)&&(decide ((zn.getD k dE).2.1=(w.getD k dE).2.1)&&true)))=false:=h;rw[hb]at h;cases h
   simp only[Bool.and_true,and_eq_true,decide_eq_true_eq]at h;have e:=aws h.1 h.2;rw[<-ic (d:=dE) (by omega),<-ic (l:=w) (d:=dE) (by omega),he,e]
 subst hs;refine Ds.cF hz hX gx T func11 (ayS th m fu wh ep pg br aa fr fs gn w) ⟨rfl,rfl,hd,hr,λh=> ?_,λ_=>⟨λh=> ?_,λh=> ?_⟩⟩;rw[h0]at h;cases h
 have ne:¬m8 th m aa empty=w:=λe=>by
  exact(bne_iff_ne.1 h) (by rw[e])
 have⟨f1,f2⟩:=aA1 false (decide_eq_false ne);exact bD 5 (by kernel_rfl) (le_refl _) f2 f1;have h:¬((m8 th m aa empty).length:Int)≠(w.length:Int):=λx=>Bool.false_ne_true (h.symm.trans (bne_iff_ne.2 x));exact loop (by omega) w.length 0 (by omega) rfl
theorem ay5{n:Int}{a:Th×As×Int×Int}(e:a=tE n){k:Mk}(hk:k=(0,true,1,0)):
 sBg.dN n=[Ds.jI 2 3 a.2.2.1,fy 0 k.1 true k.2.2.1 k.2.2.2 (dR a.1 a.2.1 k.2.2.2) (.ptr 4 0),.vec (.au Ds.cS a.1) Ds.eS,.map Ds.kS a.2.1,fL 0 k.2.2.2 (nQ a.1 (dR a.1 a.2.1 k.2.2.2)) Bx.aG Bx.aG]:=by
 subst e hk;rfl
theorem afs:fI P Bx.bO 6 sBg:=by
 refine fS func6 ?_;rintro(n:Int) ⟨(hn:3<=n/\n<=1000),_⟩ X hX hz;have⟨a,b,c,d,e,f⟩:=aoX (n:=n) (by omega);have R:nF (tE n).1 (tE n).2.1 0:=((atz (n:=n) (by omega)).aa (by decide)).1;have mk:=f.dG;have out:=ay5 (n:=n) rfl mk;have rb:Ds.bm (th0 (4*n)) [] (-1):=Ds.amu (by omega);have k1:(dG (tE n).1 (tE n).2.1).2.1=true:=by rw[mk]
 have k2:nF (tE n).1 (tE n).2.1 (dG (tE n).1 (tE n).2.1).2.2.2:=by rw[mk];exact R
 have gx:∀x∈awh,0<=x.2.m:=λx _=>zero_le _;have T:aoY.Ok P Bx.bO:=aK.Ok.cons (akV.sum mFo) (aK.Ok.cons (y8.sum Ds.sG) aK.Ok.nil);refine Ds.cF hz hX gx T func6 (aAO n) ⟨⟨by omega,by omega⟩,λh=>absurd (of_decide_eq_true h) (by omega),λ_=>⟨λh=>absurd (of_decide_eq_true h) (by omega),λ_=>⟨by omega,Int.le_refl _,by omega,rfl,rfl,rb,rfl,λh=>absurd a (bne_iff_ne.1 h),λ_=> ?_⟩⟩⟩;have n3:3<=Ds.eF (tE n).1:=by rw[e];exact hn.1
 show Safe P 6 X _ (cBg (tE n).1 (tE n).2.1 (tE n).2.2.1);exact Ds.cF hz hX gx T func6 (aAP (tE n).1 (tE n).2.1 (tE n).2.2.1) ⟨rfl,rfl,d,n3,k1,k2,λh=>(by cases h),λ_=>bD 0 (by kernel_rfl) (le_refl _) rfl out⟩
abbrev tS8:Ty:=.b (.row (.au iZ) 22)
abbrev apd(ts:List Ty):AL ts->List Prop:=λx=>[AL.wf ts x]
theorem ape(hA:dF P Bx.bO 5 [] [dg] (λ_=>[]) (λ_=>(true,()))):atB.Ok P Bx.bO:=
 aK.Ok.cons (awr.sum mL8) (aK.Ok.cons hA.sum (aK.Ok.cons (afj.sum mSt) (aK.Ok.cons (aa5.sum mSt) (aK.Ok.cons (ajh.sum ayJ) (aK.Ok.cons (ase.sum ayK) (aK.Ok.cons (aja.sum mSK) (aK.Ok.cons (zf.sum mSs) (aK.Ok.cons (afl.sum mSs) (aK.Ok.cons (y8.sum Ds.sG) (aK.Ok.cons (awp.sum mPu) (aK.Ok.cons (awq.sum mDe) (aK.Ok.cons (aaC (asu.sum ayN) 1 (.au cE [])) (aK.Ok.cons (afs.sum mBg) aK.Ok.nil)))))))))))))
theorem m6{X:Ctx}{K:List ak->AV->Prop}{f:FuncId}{c c':bP}(t:Nat)(b:Bool)(ht:c.tmps.getD t (.s .aY)=.s (.bool b))(e:(⟨c.tmps.set t (.s (.aI b)),c.H,c.todo,c.stk⟩:bP)=c')(h:Safe P f X K c'):Safe P f X K c:=by
 subst e;intro G E ρ a w gL hZ hr b' t' fs hw;refine h G E ρ a w gL hZ (hr.refine (d:=t) (x:=.s (.bool b)) ht λv hv=> ?_) b' t' fs hw;have:=ax (by simp) hv;cases this;exact aE (.aI _)
theorem ak4{X:Ctx}{K:List ak->AV->Prop}{f:FuncId}{c c':bP}(hX:∀id,X.H id=none)(id:Nat)(N:Norm)(e:N.run ⟨(xr ⟨c.tmps,c.H⟩ id).tmps,(xr ⟨c.tmps,c.H⟩ id).H,c.todo,c.stk⟩=some c')(h:Safe P f X K c'):Safe P f X K c:=by
 have h:=Norm.safe (X:=X) (K:=K) (f:=f) (λi _=>hX i) e h;intro G E ρ a w gL hZ hr b t fs hw;exact h G E ρ a w gL hZ (hr.age id) b t fs hw
theorem ay6{n c:Int}(hc:0<c)(hc2:c<=1000):i64.wrap ((u64.wrap n).tmod c)=(u64.wrap n).tmod c/\0<=(u64.wrap n).tmod c/\(u64.wrap n).tmod c<c:=by
 have h0:0<=u64.wrap n:=by show 0<=n%18446744073709551616;omega
 rw[Int.tmod_eq_emod_of_nonneg h0];have h1:=Int.emod_nonneg (u64.wrap n) (show c≠0 by omega);have h2:=Int.emod_lt_of_pos (u64.wrap n) hc;exact⟨cq ⟨by omega,by omega⟩,h1,h2⟩
theorem apf(n:Int):0<=fuQ n/\fuQ n<40:=by
 have⟨a,b,c⟩:=ay6 (n:=n) (c:=40) (by decide) (by decide);unfold fuQ;rw[a];exact⟨b,c⟩
theorem acI(n:Int):Ds.vA (cuQ n)=true:=by
 have⟨a,b,c⟩:=ay6 (n:=n) (c:=65) (by decide) (by decide);unfold cuQ;rw[a,Ds.tz];exact⟨b,by omega⟩
section
variable{X:Ctx}{l:List (CL iZ)}{i:Int}{s:Sd}{now kept U:List En}
theorem toA(h:Safe P 3 X K8 (cCa l i s now kept)):Safe P 3 X K8 (cCj l i s now kept):=m6 9 false (by kernel_rfl) (by kernel_rfl) h
theorem toB(h:Safe P 3 X K8 (cCb l i s now kept U)):Safe P 3 X K8 (cCy l i s now kept U):=m6 9 true (by kernel_rfl) (by kernel_rfl) h
theorem aA2{th:Th}{m:As}{fu:Int}(h:Safe P 3 X K8 (awn l i th m fu now kept)):Safe P 3 X K8 (ayY l i th m fu now kept):=m6 9 false (by kernel_rfl) (by kernel_rfl) h
theorem aA3{th:Th}{m:As}{fu:Int}(h:Safe P 3 X K8 (awo l i th m fu now kept U)):Safe P 3 X K8 (ayZ l i th m fu now kept U):=m6 9 true (by kernel_rfl) (by kernel_rfl) h
theorem toD{e:Int}{x:CL iZ}{old:List En}(h:Safe P 3 X K8 (cDc l i e s x now kept old)):Safe P 3 X K8 (cDj l i e s x now kept old):=m6 103 false (by kernel_rfl) (by kernel_rfl) h
variable(hX:∀id,X.H id=none)
include hX
theorem aA4(h:Safe P 3 X K8 (cCa l i s now kept)):Safe P 3 X K8 (cCx .emp l i s now kept):=Norm.safe (N:=⟨[],[1,5,6,7,9,10],0,[]⟩) (λi _=>hX i) (by kernel_rfl) (toA h)
theorem ay7(h:Safe P 3 X K8 (cCa l i s now kept)):Safe P 3 X K8 (cCx (.s (.ro (.au cE U))) l i s now kept):=Norm.safe (N:=⟨[],[1,5,6,7,9,10],0,[]⟩) (λi _=>hX i) (by kernel_rfl) (toA h)
theorem aA5(h:Safe P 3 X K8 (cCb l i s now kept U)):Safe P 3 X K8 (cCv l i s now kept U):=ak4 hX 3 ⟨[],[1,5,6,7,8,9,10],0,[]⟩ (by kernel_rfl) (toB h)
end
section
variable{X:Ctx}(hX:∀id,X.H id=none)(hz:dZ Bx.bO X)(hT:vM.Ok P Bx.bO)
include hX hz hT
theorem aA6{l:List (CL iZ)}{i n:Nat}(hi:i<1000)(hn:n<=900){N:Int}{th:Th}{m:As}{fu wh ep pg:Int}{now kept:List En}(G:Gc (l6 (uY (th,m,fu)) wh ep pg) kept kept n N)
 (next:Safe P 3 X K8 (cCa l ((i:Int)+1) (l6 (uY (th,m,fu)) wh ep pg) kept kept)):Safe P 3 X K8 (awn l (i:Int) th m fu now kept):=by
 have F:=G.fx (by omega);have mk:dG th m=(wh,true,ep,pg):=F.mk';have hl:=F.len;have lf:m8 th m pg empty=kept:=F.l;refine goB hz hX hT func3 (ay2 l i th m fu now kept) ?_;rw[mk];refine⟨rfl,rfl,F.d,F.n3,rfl,F.R,λh=>(by cases h),λ_=>⟨rfl,rfl,F.d,F.r,F.l0, ?_,by omega,λh=> ?_,λ_=>⟨by omega,rA (by omega) (by omega),toA next⟩⟩⟩;show(m8 th m pg empty).length<=1000;rw[lf];omega;exact absurd lf (of_decide_eq_false (nf0 h))
theorem aA7{l:List (CL iZ)}{i n:Nat}(hi:i<1000)(hn:n<=900){N:Int}{th:Th}{m:As}{fu wh ep pg:Int}{now kept U L:List En}(hL:L=kept\/L=U)(hk:kept.length<=1000)(hU:U.length<=1000)(G:Gc (l6 (uY (th,m,fu)) wh ep pg) L L n N)
 (next:Safe P 3 X K8 (cCa l ((i:Int)+1) (l6 (uY (th,m,fu)) wh ep pg) L L)):Safe P 3 X K8 (awo l (i:Int) th m fu now kept U):=by
 have F:=G.fx (by omega);have mk:dG th m=(wh,true,ep,pg):=F.mk';have hl:=F.len;have lf:m8 th m pg empty=L:=F.l;have ll:(m8 th m pg empty).length<=1000:=by rw[lf];omega
 refine goB hz hX hT func3 (ay3 l i th m fu now kept U) ?_;rw[mk];refine⟨rfl,rfl,F.d,F.n3,rfl,F.R,λh=>(by cases h),λ_=>⟨rfl,rfl,F.d,F.r,F.l0,ll,hk,λh=>⟨rfl,rfl,F.d,F.r,F.l0,ll,hU,λh2=> ?_,λh2=>⟨by omega,rA (by omega) (by omega), ?_⟩⟩,λh=>⟨by omega,rA (by omega) (by omega), ?_⟩⟩⟩;have a:¬L=kept:=λe=>of_decide_eq_false (nf0 h) (lf.trans e);exact absurd (lf.trans (hL.resolve_left a)) (of_decide_eq_false (nf0 h2));have a:L=U:=lf.symm.trans (of_decide_eq_true (nt0 h2));subst a;exact ay7 hX next
 have a:L=kept:=lf.symm.trans (of_decide_eq_true (nt0 h));subst a;exact ay7 hX next
theorem scD{l:List (CL iZ)}{i:Nat}(hi:i<1000){s:Sd}{x:CL iZ}{now kept old:List En}{e:Int}(d:Ds.bm s.th s.m s.fu)(r:0<=s.aa/\s.aa<=65536)(l0:vZ s.th s.m s.aa empty=0)(lf:m8 s.th s.m s.aa empty=now)(hl:now.length<=1000)
 (nb:xK x=4->e≠0->Safe P 3 X K8 (cCb l ((i:Int)+1) s now kept old)) (na:(xK x=4->e=0)->Safe P 3 X K8 (cCa l ((i:Int)+1) s now kept)):Safe P 3 X K8 (cDj l (i:Int) e s x now kept old):=by
 refine toD (goB hz hX hT func3 (aAZ l i e s x now kept old) ⟨rfl,rfl,d,r,l0,by rw[lf];exact hl,hl,λh=> ?_,λ_=>⟨λk4=>⟨λh=>⟨rA (by omega) (by omega), ?_⟩,λh=>⟨rA (by omega) (by omega), ?_⟩⟩,λk4=>⟨rA (by omega) (by omega), ?_⟩⟩⟩);exact absurd lf (of_decide_eq_false (nf0 h));exact aA5 hX (nb (beq_iff_eq.1 k4) (bne_iff_ne.1 h));exact toA (na λ_=>Decidable.byContradiction λy=>Bool.false_ne_true (h.symm.trans (bne_iff_ne.2 y)));exact toA (na λy=>absurd y (beq_eq_false_iff_ne.1 k4))
theorem ay8{l:List (CL iZ)}(hl:l.length≤120){N:Int}:∀(j k:Nat),k+j=l.length→
 (∀{s:Sd} {now kept:List En},Gc s now kept k N→Safe P 3 X K8 (cCa l (k:Int) s now kept))∧
 (∀{s:Sd} {now kept U:List En},Bs s kept U k N→Safe P 3 X K8 (cCb l (k:Int) s now kept U))
 |0,k,hk=>by
  refine⟨fun{s now kept} G=> ?_,fun{s now kept U} B=> ?_⟩;exact goB hz hX hT func3 (ay0 l k s now kept) ⟨fun h=>absurd (of_decide_eq_true h) (by omega),fun _=>ayL⟩;exact goB hz hX hT func3 (ay1 l k s now kept U) ⟨fun h=>absurd (of_decide_eq_true h) (by omega),fun _=>ayL⟩
 |j+1,k,hk=>by
  obtain⟨ihA,ihB⟩:=ay8 hl j (k+1) (by omega);have hI:aA ((k:Int)+1):=rA (by omega) (by omega);have cE0:Ds.crE (cuQ (xC (el l k)))=0:=if_pos (acI _);refine⟨fun{s now kept} G=> ?_,fun{s now kept U} B=> ?_⟩;have F:=G.fx (by omega);have hK:=G.aAW;have hN:=F.len;have he:s.ep<1099511627776:=by have:=G.ep;omega
  have C:=G.uU (by omega);have CR:nF (ml s).th (ml s).m (ml s).pg:=C.elim (fun x=>(x.2.fx (by omega)).R) fun x=>x.2.1.R
  have go:∀{s:Sd} {now kept old:List En} {e:Int},Gc s now kept (k+1) N→(xK (el l k)=4→e=0)→Safe P 3 X K8 (cDj l (k:Int) e s (el l k) now kept old):=fun{s now kept old e} G h4=>by
   have F:=G.fx (by omega);have hN:=F.len;exact scD hX hz hT (by omega) F.d F.r F.l0 F.l (by omega) (fun a b=>absurd (h4 a) b) fun _=>ihA G
  have op:∀(o:Option ByteArray),¬xK (el l k)=4→lR s (xA (el l k)) o=0→Safe P 3 X K8 (cDj l (k:Int) (lR s (xA (el l k)) o) (cM s (xA (el l k)) o) (el l k) (lQ (xA (el l k)) o now) kept ([]++now)):=fun o a b=>by
   have g:=(G.op (by omega) (xA (el l k)) o).1;rw[if_pos b]at g;exact go g fun x=>absurd x a
  have no:∀(o:Option ByteArray),¬xK (el l k)=4→¬lR s (xA (el l k)) o=0→Safe P 3 X K8 (cDj l (k:Int) (lR s (xA (el l k)) o) (cM s (xA (el l k)) o) (el l k) now kept ([]++now)):=fun o a b=>by
   have g:=(G.op (by omega) (xA (el l k)) o).1;rw[if_neg b]at g;exact go g fun x=>absurd x a
  refine goB hz hX hT func3 (ay0 l k s now kept) ⟨fun _=>⟨by omega,by omega,fun k6=>⟨rfl,rfl,fun nd=>⟨by decide,rfl,rfl,fun h=> ?_,fun _=>⟨hI, ?_⟩⟩,fun _=>⟨hI,toA (ihA (G.more (Nat.le_succ k)))⟩⟩,fun k6=>⟨fun k7=>⟨by decide,rfl,rfl,F.d,fun h=>absurd cE0 (bne_iff_ne.1 h),fun _=> ?_⟩,fun k7=>⟨by omega,fun k0=>⟨rfl,rfl,F.d,F.fr,F.r,fun b=>⟨rfl,rfl,by omega, ?_⟩,fun b=> ?_⟩,fun k0=>⟨fun k1=>⟨rfl,rfl,F.d,F.fr,F.r,fun b=>⟨rfl,rfl,by omega, ?_⟩,fun b=> ?_⟩,fun k1=>⟨fun k4=>⟨rfl,rfl,F.d,⟨F.e0,he⟩,F.w,CR,fun b=>⟨by omega, ?_⟩,fun b=>⟨by omega, ?_⟩⟩,fun k4=>⟨fun k5=>⟨rfl,rfl,F.d,F.R,by omega, ?_⟩,fun _=> ?_⟩⟩⟩⟩⟩⟩,fun h=>absurd (of_decide_eq_false h) (by omega)⟩;have q:=apf (xN (el l k));have nd:¬s.fu=0:=beq_eq_false_iff_ne.1 (nf0 nd);refine absurd ?_ (bne_iff_ne.1 h);show Ds.fuE s.fu (fuQ (xN (el l k)))=0;unfold Ds.fuE;rw[if_neg (by omega),if_neg nd];have q:=apf (xN (el l k));have nd:¬s.fu=0:=beq_eq_false_iff_ne.1 (nf0 nd)
  have e:Ds.fuF s.fu (fuQ (xN (el l k)))=fuQ (xN (el l k)):=by
   unfold Ds.fuF;rw[if_neg (by omega),if_neg nd]
  have g:=(G.aAX (f:=Ds.fuF s.fu (fuQ (xN (el l k)))) (by rw[e];exact⟨by omega,by omega⟩)).more (Nat.le_succ k);exact toA (ihA g);exact aA2 (aA6 hX hz hT (by omega) (by omega) (G.ajn (by omega) (xB (el l k)) (xT (el l k)) (acI (xC (el l k)))) (ihA ((G.ajn (by omega) (xB (el l k)) (xT (el l k)) (acI (xC (el l k)))).more (Nat.le_succ k))));have k0:=beq_iff_eq.1 k0;exact op (some (xV (el l k))) (by omega) (beq_iff_eq.1 b);have k0:=beq_iff_eq.1 k0;exact no (some (xV (el l k))) (by omega) (beq_eq_false_iff_ne.1 b);have k1:=beq_iff_eq.1 k1;exact op none (by omega) (beq_iff_eq.1 b);have k1:=beq_iff_eq.1 k1;exact no none (by omega) (beq_eq_false_iff_ne.1 b);rcases C with⟨c0,c1⟩|⟨c0,_⟩;exact go (e:=coE s) c1 fun _=>c0;rw[beq_iff_eq.1 b]at c0;cases c0;rcases C with⟨c0,_⟩|⟨c0,W,B⟩;exact absurd c0 (beq_eq_false_iff_ne.1 b);exact scD hX hz hT (by omega) B.d W.r W.l0 W.l (show kept.length≤1000 by omega) (fun _ _=>ihB B) fun h=>absurd (h (beq_iff_eq.1 k4)) (beq_eq_false_iff_ne.1 b);exact go (s:=l6 s s.wh s.ep s.pg) (e:=0) ((G.back (by omega)).more (Nat.le_succ k)) fun _=>rfl;exact go (e:=0) (G.more (Nat.le_succ k)) fun x=>absurd x (beq_eq_false_iff_ne.1 k4);have hk:=B.k;have hu:=B.u
  have B1:Bs s kept U (k+1) N:=⟨B.fu,B.d,by omega,by omega,fun keep torn cut hc=>by
   obtain⟨wh,ep,pg,L,hL,g⟩:=B.cr keep torn cut hc;exact⟨wh,ep,pg,L,hL,g.more (Nat.le_succ k)⟩⟩
  obtain⟨wh,ep,pg,L,hL,g⟩:=B.cr (xB (el l k)) (xT (el l k)) (cuQ (xC (el l k))) (acI _);refine goB hz hX hT func3 (ay1 l k s now kept U) ⟨fun _=>⟨by omega,by omega,fun k6=>⟨rfl,rfl,fun nd=> ?_,fun _=>⟨hI,toB (ihB B1)⟩⟩,fun k6=>⟨fun k7=>⟨by decide,rfl,rfl,B.d,fun h=>absurd cE0 (bne_iff_ne.1 h),fun _=> ?_⟩,fun k7=>⟨hI,toB (ihB B1)⟩⟩⟩,fun h=>absurd (of_decide_eq_false h) (by omega)⟩;exact absurd B.fu (beq_eq_false_iff_ne.1 (nf0 nd));exact aA3 (aA7 hX hz hT (by omega) (by omega) hL (by omega) (by omega) g (ihA (g.more (Nat.le_succ k))))
end
theorem zX(hA:dF P Bx.bO 5 [] [dg] (λ_=>[]) (λ_=>(true,()))):dF P Bx.bO 3 [.b (.int .u8),tS8] [dg] (apd _) (λ_=>(true,())):=by
 refine aH func3 (by kernel_rfl) (by kernel_rfl) ?_;rintro⟨(p:Int),(l:List (CL iZ)),⟨⟩⟩ ⟨_,(hl0:l.length<=maxLen),_⟩ ⟨⟨hp,_⟩,_⟩ X hX hz;have hp:=Ds.axi hp;show Safe P 3 X K8 _;have hT:vM.Ok P Bx.bO:=aK.Ok.cons (Ds.ap0.sum Ds.sG) (aK.Ok.cons (Ds.ap1.sum Ds.mFu) (aK.Ok.cons (aaC (Ds.ao4.sum Ds.mCr) 1 (.bF [])) (ape hA)));have bB:l.length<=9223372036854775807:=by unfold maxLen at hl0;omega
 have hr:0<=p.tmod 60/\p.tmod 60<60:=by rw[Int.tmod_eq_emod_of_nonneg hp.1];omega
 have G:=Gd.start (n:=3+p.tmod 60) (by omega);refine goB hz hX hT func3 (aAY p l) ⟨rfl,rfl,bB,λ_=>eb8,λhl=>⟨λh=>(by cases h),λ_=>⟨by decide,⟨by omega,by omega⟩,⟨by omega,by omega⟩,rfl,rfl,by omega, ?_⟩⟩⟩;exact aA4 hX ((ay8 hX hz hT (by omega) l.length 0 (by omega)).1 G.toGc)
def kA:ByteArray:=⟨#[97]⟩
def v1:ByteArray:=⟨#[49]⟩
def v2:ByteArray:=⟨#[50]⟩
def mP8:List AV->RM ((Sd×ByteArray×ByteArray)×List Nat)
 |[s,_,.s (.str v)]=>(mSs [s]).bind λ(X,σ)=>bif ((v.data.toList.getD 0 0).toNat).beq 49 then .ret ((X,kA,v1),σ)else .ret ((X,kA,v2),σ)|_=>.fail ""
def mG8:List AV->RM (XSK×List Nat)
 |[s,_]=>(mSt [s]).bind λ(X,σ)=>.ret ((X,kA),σ)|_=>.fail ""
def aft:aK:=[(14,bY awb mSt),(13,bY awa mSt),(15,bY awg mP8),(17,bY av9 mG8),(16,bY ql mSs),(18,bY awf mSs),(10,bY uT Ds.sG),(6,bY sBg mBg)]
def asv:List (Nat×Norm):=[(2,⟨[],[1,2],0,[]⟩),(4,⟨[],[1],0,[]⟩),(7,⟨[],[3],0,[]⟩)]
def cA2(s:Sd):bP:=⟨sl 92 [(1,.ptr 0 0),(2,.ptr 1 0)],hBg s,hr f5 2,{}⟩
def cA4(th:Th)(m:As)(fu:Int):bP:=⟨sl 92 [(1,.ptr 0 0)],Ds.hD th m fu,hr f5 4,{}⟩
def cA7(s:Sd):bP:=⟨sl 92 [(3,.ptr 0 0)],wO s,hr f5 7,{}⟩
theorem aA8:jQ (run P aft.sum f5 asv (start f5 [] []))=
 Tree.ab (bp (some [AV.s (.int .i64 10)])) (.ab adI (.ab ((3:Int)<=10/\(10:Int)<=1000) (.at (cA2 (fmS 10))))):=by kernel_rfl
theorem aA9(s:Sd):jQ (run P aft.sum f5 asv (cA2 s))=
 Tree.ab (bp (some [AV.ptr 0 0])) (.ab (bp (some (wO s))) (.ite (s.ep !=1) (.ret [] (.s (.aI false))) (.ab (bp (some [AV.ptr 0 0])) (.ab (bp (some (wO s))) (.ab (Ds.bm s.th s.m s.fu) (.ab ((0:Int)<=s.aa/\s.aa<=65536) (.ab (zm s.th s.m s.aa=0) (.ab (Bx.okW (jN s.th s.m s.br s.aa)) (.ite (Bx.lN (jN s.th s.m s.br s.aa) !=8) (.ret [] (.s (.aI false))) (.ab (some [AV.ptr 0 0,.s (.str (ByteArray.mk #[(97:UInt8)])),.s (.str (ByteArray.mk #[(49:UInt8)]))]=some [AV.ptr 0 0,.s (.str kA),.s (.str v1)]) (.ab (bp (some (wO s))) (.ab (Ds.bm s.th s.m s.fu) (.ab (Bx.okW s.fr) (.ab ((0:Int)<=s.aa/\s.aa<=65536) (.ite (lR s kA (some v1) !=0) (.ret [] (.s (.aI false))) (.ab (bp (some [AV.ptr 0 0])) (.ab (bp (some (wO (cM s kA (some v1))))) (.ab (Ds.bm (cM s kA (some v1)).th (cM s kA (some v1)).m (cM s kA (some v1)).fu) (.ab ((0:Int)<=(cM s kA (some v1)).aa/\(cM s kA (some v1)).aa<=65536) (.ab (zm (cM s kA (some v1)).th (cM s kA (some v1)).m (cM s kA (some v1)).aa=0) (.ab (Bx.okW (jN (cM s kA (some v1)).th (cM s kA (some v1)).m (cM s kA (some v1)).br (cM s kA (some v1)).aa)) (.ite (Bx.lN (jN (cM s kA (some v1)).th (cM s kA (some v1)).m (cM s kA (some v1)).br (cM s kA (some v1)).aa) !=7) (.ret [] (.s (.aI false))) (.ab (bp (some [AV.ptr 0 0])) (.ab (bp (some (wO (cM s kA (some v1))))) (.ab (Ds.bm (cM s kA (some v1)).th (cM s kA (some v1)).m (cM s kA (some v1)).fu) (.ab ((0:Int)<=(cM s kA (some v1)).ep/\(cM s kA (some v1)).ep<1099511627776) (.ab ((cM s kA (some v1)).wh=0\/(cM s kA (some v1)).wh=1) (.ab (nF (ml (cM s kA (some v1))).th (ml (cM s kA (some v1))).m (ml (cM s kA (some v1))).pg) (.ite (coE (cM s kA (some v1)) !=0) (.ret [] (.s (.aI false))) (.ab (bp (some [AV.ptr 0 0])) (.ab (bp (some (wO (ml (cM s kA (some v1)))))) (.ite ((ml (cM s kA (some v1))).ep !=2) (.ret [] (.s (.aI false))) (.at (cA4 (ml (cM s kA (some v1))).th (ml (cM s kA (some v1))).m (ml (cM s kA (some v1))).fu)))))))))))))))))))))))))))))))))):=by kernel_rfl
theorem aBa(th:Th)(m:As)(fu:Int):jQ (run P aft.sum f5 asv (cA4 th m fu))=
 Tree.ab (bp (some [AV.ptr 0 0])) (.ab (bp (some (Ds.hD th m fu))) (.ab (Ds.bm th m fu) (.ab ((3:Int)<=Ds.eF th) (.ab ((dG th m).snd.fst=true) (.ab (nF th m (dG th m).snd.snd.snd) (.ite false (.ret [] (.s (.aI false))) (.at (.mk (sl 92 [(3,.ptr 0 0)]) (jM th m fu (dG th m).fst true (dG th m).snd.snd.fst (dG th m).snd.snd.snd (dR th m (dG th m).snd.snd.snd) (dG th m).snd.snd.snd (nQ th (dR th m (dG th m).snd.snd.snd)) Bx.aG Bx.aG) (hr f5 7) (.mk none false 0 [] 0))))))))):=by kernel_rfl
theorem aBb(s:Sd):jQ (run P aft.sum f5 asv (cA7 s))=
 Tree.ab (some [AV.ptr 0 0,.s (.str (ByteArray.mk #[(97:UInt8)]))]=some [AV.ptr 0 0,.s (.str kA)]) (.ab (bp (some (wO s))) (.ab (Ds.bm s.th s.m s.fu) (.ab ((0:Int)<=s.aa/\s.aa<=65536) (.ite (gtE s.th s.m s.aa kA !=0) (.ret [] (.s (.aI false))) (.ite (!gtB s.th s.m s.aa kA) (.ret [] (.s (.aI false))) (.ite (!decide (gtV s.th s.m s.aa kA=ByteArray.mk #[(49:UInt8)])) (.ret [] (.s (.aI false))) (.ab (some [AV.ptr 0 0,.s (.str (ByteArray.mk #[(97:UInt8)])),.s (.str (ByteArray.mk #[(50:UInt8)]))]=some [AV.ptr 0 0,.s (.str kA),.s (.str v2)]) (.ab (bp (some (wO s))) (.ab (Ds.bm s.th s.m s.fu) (.ab (Bx.okW s.fr) (.ab ((0:Int)<=s.aa/\s.aa<=65536) (.ite (lR s kA (some v2) !=0) (.ret [] (.s (.aI false))) (.ab (bp (some [AV.ptr 0 0])) (.ab (bp (some (wO (cM s kA (some v2))))) (.ab (Ds.bm (cM s kA (some v2)).th (cM s kA (some v2)).m (cM s kA (some v2)).fu) (.ab (nF (cM s kA (some v2)).th (cM s kA (some v2)).m (cM s kA (some v2)).pg) (.ite false (.ret [] (.s (.aI false))) (.ab (some [AV.ptr 0 0,.s (.str (ByteArray.mk #[(97:UInt8)]))]=some [AV.ptr 0 0,.s (.str kA)]) (.ab (bp (some (wO (l6 (cM s kA (some v2)) (cM s kA (some v2)).wh (cM s kA (some v2)).ep (cM s kA (some v2)).pg)))) (.ab (Ds.bm (l6 (cM s kA (some v2)) (cM s kA (some v2)).wh (cM s kA (some v2)).ep (cM s kA (some v2)).pg).th (l6 (cM s kA (some v2)) (cM s kA (some v2)).wh (cM s kA (some v2)).ep (cM s kA (some v2)).pg).m (l6 (cM s kA (some v2)) (cM s kA (some v2)).wh (cM s kA (some v2)).ep (cM s kA (some v2)).pg).fu) (.ab ((0:Int)<=(l6 (cM s kA (some v2)) (cM s kA (some v2)).wh (cM s kA (some v2)).ep (cM s kA (some v2)).pg).aa/\(l6 (cM s kA (some v2)) (cM s kA (some v2)).wh (cM s kA (some v2)).ep (cM s kA (some v2)).pg).aa<=65536) (.ite (gtE (l6 (cM s kA (some v2)) (cM s kA (some v2)).wh (cM s kA (some v2)).ep (cM s kA (some v2)).pg).th (l6 (cM s kA (some v2)) (cM s kA (some v2)).wh (cM s kA (some v2)).ep (cM s kA (some v2)).pg).m (l6 (cM s kA (some v2)) (cM s kA (some v2)).wh (cM s kA (some v2)).ep (cM s kA (some v2)).pg).aa kA==0) (.ite (gtB (l6 (cM s kA (some v2)) (cM s kA (some v2)).wh (cM s kA (some v2)).ep (cM s kA (some v2)).pg).th (l6 (cM s kA (some v2)) (cM s kA (some v2)).wh (cM s kA (some v2)).ep (cM s kA (some v2)).pg).m (l6 (cM s kA (some v2)) (cM s kA (some v2)).wh (cM s kA (some v2)).ep (cM s kA (some v2)).pg).aa kA) (.ret [] (.s (.bool (decide (gtV (l6 (cM s kA (some v2)) (cM s kA (some v2)).wh (cM s kA (some v2)).ep (cM s kA (some v2)).pg).th (l6 (cM s kA (some v2)) (cM s kA (some v2)).wh (cM s kA (some v2)).ep (cM s kA (some v2)).pg).m (l6 (cM s kA (some v2)) (cM s kA (some v2)).wh (cM s kA (some v2)).ep (cM s kA (some v2)).pg).aa kA=ByteArray.mk #[(49:UInt8)]))))) (.ret [] (.s (.aI false)))) (.ret [] (.s (.aI false))))))))))))))))))))))))):=by kernel_rfl
theorem apg:aft.Ok P Bx.bO:=aK.Ok.cons (afj.sum mSt) (aK.Ok.cons (aa5.sum mSt) (aK.Ok.cons (ajh.sum mP8) (aK.Ok.cons (aja.sum mG8) (aK.Ok.cons (zf.sum mSs) (aK.Ok.cons (afl.sum mSs) (aK.Ok.cons (y8.sum Ds.sG) (aK.Ok.cons (afs.sum mBg) aK.Ok.nil)))))))
theorem Gd.ay9{s:Sd}{E K:List En}{n:Nat}{N:Int}(G:Gd s E K n N)(hn:n<=1000){key:ByteArray}(hk:iQ key none=true):gtE s.th s.m s.aa key=0/\gtV s.th s.m s.aa key=px E key/\gtB s.th s.m s.aa key=nA E key:=by
 have⟨h,ps,po,h0,jP,kc,S⟩:=G.i;have e:=ar0 (key:=key) S.t.holds (by have:=(S.small hn).1;omega);rw[if_neg (by rw[hk];decide)]at e;unfold gtE gtV gtB;rw[e];exact⟨rfl,rfl,rfl⟩
theorem aBc:lR (fmS 10) kA (some v1)=0:=by kernel_rfl
theorem aza:Bx.lN (jN (cM (fmS 10) kA (some v1)).th (cM (fmS 10) kA (some v1)).m (cM (fmS 10) kA (some v1)).br (cM (fmS 10) kA (some v1)).aa)=7:=by kernel_rfl
def s2A:Sd:=ml (cM (fmS 10) kA (some v1))
theorem aBd:lR (l6 s2A s2A.wh s2A.ep s2A.pg) kA (some v2)=0:=by kernel_rfl
theorem ak5:dF P Bx.bO 5 [] [dg] (λ_=>[]) (λ_=>(true,())):=by
 refine aH func5 (by kernel_rfl) (by kernel_rfl) ?_;rintro⟨⟩ _ _ X hX hz;show Safe P 5 X K8 _;have hT:=apg;have hk:iQ kA none=true:=by kernel_rfl
 have G0:Gd (fmS 10) [] [] 0 10:=Gd.start (by decide);have F0:=G0.fx (by decide);have f8:Bx.lN (jN (fmS 10).th (fmS 10).m (fmS 10).br (fmS 10).aa)=8:=G0.bare (by decide);have p1:=aBc;have p2:=aBd;have f7:=aza;have ep:(fmS 10).ep=1:=rfl;refine goB hz hX hT func5 aA8 ⟨rfl,rfl,by decide, ?_⟩;show Safe P 5 X _ (cA2 (fmS 10));unfold s2A at p2;generalize fmS 10=s at *;have G1:=G0.op (by decide) kA (some v1);rw[if_pos p1]at G1;have e1:(cM s kA (some v1)).ep=1:=ep;have F1:=G1.fx (by decide);have⟨c0,c1,G2⟩:=G1.uU (by decide)
 have e2:(ml (cM s kA (some v1))).ep=2:=by
  have x:(coX (cM s kA (some v1))).2=0:=c0;unfold ml;rw[if_pos x];show(cM s kA (some v1)).ep+1=2;rw[e1];rfl
 have F2:=G2.fx (by decide);have hE:lQ kA (some v1) []=[(kA,v1,())]:=rfl;rw[hE]at G1 G2 F1 F2;have fe:px [(kA,v1,())] kA=v1:=by kernel_rfl
 have fb:nA [(kA,v1,())] kA=true:=by kernel_rfl
 refine goB hz hX hT func5 (aA9 s) ⟨rfl,rfl,λh=>absurd ep (bne_iff_ne.1 h),λ_=>⟨rfl,rfl,F0.d,F0.r,F0.p0,F0.fw,λh=>absurd f8 (bne_iff_ne.1 h),λ_=>⟨rfl,rfl,F0.d,F0.fr,F0.r,λh=>absurd p1 (bne_iff_ne.1 h),λ_=>⟨rfl,rfl,F1.d,F1.r,F1.p0,F1.fw,λh=>absurd f7 (bne_iff_ne.1 h),λ_=>⟨rfl,rfl,F1.d,⟨by rw[e1];decide,by rw[e1];decide⟩,F1.w,F2.R,λh=>absurd c0 (bne_iff_ne.1 h),λ_=>⟨rfl,rfl,λh=>absurd e2 (bne_iff_ne.1 h),λ_=> ?_⟩⟩⟩⟩⟩⟩;show Safe P 5 X _ (cA4 (ml (cM s kA (some v1))).th (ml (cM s kA (some v1))).m (ml (cM s kA (some v1))).fu);generalize ml (cM s kA (some v1))=s2 at *;refine goB hz hX hT func5 (aBa s2.th s2.m s2.fu) ?_;rw[F2.mk'];refine⟨rfl,rfl,F2.d,F2.n3,rfl,F2.R,λh=>(by cases h),λ_=> ?_⟩;show Safe P 5 X _ (cA7 (l6 s2 s2.wh s2.ep s2.pg));have G3:=G2.back (by decide);generalize l6 s2 s2.wh s2.ep s2.pg=t at *;have F3:=G3.fx (by decide);have⟨g0,g1,g2⟩:=G3.ay9 (by decide) hk;have G4:=G3.op (by decide) kA (some v2);have F4:=G4.fx (by decide);have G5:=G4.back (by decide);have F5:=G5.fx (by decide);have⟨h0,h1,h2⟩:=G5.ay9 (by decide) hk;refine goB hz hX hT func5 (aBb t) ⟨rfl,rfl,F3.d,F3.r,λh=>absurd g0 (bne_iff_ne.1 h),λ_=>⟨λh=> ?_,λ_=>⟨λh=> ?_,λ_=>⟨rfl,rfl,F3.d,F3.fr,F3.r,λh=>absurd p2 (bne_iff_ne.1 h),λ_=>⟨rfl,rfl,F4.d,F4.R,λh=>(by cases h),λ_=>⟨rfl,rfl,F5.d,F5.r,λ_=>⟨λ_=> ?_,λh=> ?_⟩,λh=>absurd h0 (beq_eq_false_iff_ne.1 h)⟩⟩⟩⟩⟩⟩;have h:=nf0 h;rw[g2,fb]at h;cases h;exact absurd (g1.trans fe) (of_decide_eq_false (nf0 h));have h1:=h1.trans fe;show K9 _ (.s (.bool (decide (_=v1))));rw[decide_eq_true h1];exact eb8;have h:gtB _ _ _ kA=false:=h;rw[h2,fb]at h;cases h
theorem zY:dF P Bx.bO 3 [.b (.int .u8),tS8] [dg] (apd _) (λ_=>(true,())):=zX ak5
end Ts
