/- Lemmas: S11, S12, S13, S14, S11p, S11q, S12p, P5, F_model, S15, E_model. -/
import Derived.Test.YthhcofcdkdknoaaGreatDoorPE
open Go.Proofs.Tryz
open Go.IntKind (i64 u64 u8)
open Bool (and_eq_true)
open ByteArray (empty)
open Int (toNat_natCast)
open List (append_assoc append_nil length_append length_cons length_drop length_nil length_take mem_map mem_range mem_singleton nil_append replicate take_of_length_le)
open Nat (le_of_ble_eq_true le_refl zero_le)
namespace Ts
open Go Go.Sx Go.Proofs Lf
abbrev iv:List CK:=[.int .u8,.str,.str,.int .i64,.bG,.int .i64,.int .i64]
abbrev xK(x:CL iv):Int:=x.1
abbrev xA(x:CL iv):ByteArray:=x.2.1
abbrev xV(x:CL iv):ByteArray:=x.2.2.1
abbrev xN(x:CL iv):Int:=x.2.2.2.1
abbrev xB(x:CL iv):List Bool:=x.2.2.2.2.1
abbrev xT(x:CL iv):Int:=x.2.2.2.2.2.1
abbrev xC(x:CL iv):Int:=x.2.2.2.2.2.2.1
abbrev av8(l:List (CL iv)):AV:=.s (.ro (.au iv l))
def asp:List (Nat×Norm):=[(3,⟨[(7,.au cE [],Lf.eE)],[0,1,2,7,8],0,[]⟩)]
noncomputable def cPu(l:List En)(key val:ByteArray)(i:Int):bP:=⟨sl 54 [(0,.s (.ro (.au cE l))),(1,.s (.str key)),(2,.s (.str val)),(7,.vec 0),(8,aJ i)],[.vec (.au cE []) Lf.eE],hd f94 3,{}⟩
def asq:List (Nat×Norm):=[(3,⟨[(5,.au cE [],Lf.eE)],[0,1,5,6],0,[]⟩)]
noncomputable def cDe(l out:List En)(key:ByteArray)(i:Int):bP:=⟨sl 28 [(0,.s (.ro (.au cE l))),(1,.s (.str key)),(5,.vec 0),(6,aJ i)],[.vec (.au cE out) Lf.eE],hd f95 3,{}⟩
def asr:List (Nat×Norm):=[(4,⟨[],[0,3],0,[]⟩)]
noncomputable def cL8(l:List (CL iv))(i:Int):bP:=⟨sl 38 [(0,av8 l),(3,aJ i)],[],hd f46 4,{}⟩
abbrev sL8:Spec (List (CL iv)):=⟨λl=>[av8 l],λ_=>[],λl=>[l.length<=9223372036854775807],λ_=>[],λl=>.s (.lN (l.length - 120) false)⟩
abbrev ayU:Type:=Sd×List En
abbrev ahj:Spec ayU:=⟨λ(_,w)=>[.ptr 0 0,.s (.ro (.au cE w))],λ(s,_)=>tE s,λ(s,w)=>[Ds.bo s.th s.m s.fu,0<=s.aa/\s.aa<=65536,wj s.th s.m s.aa empty=0,(nh s.th s.m s.aa empty).length<=1000,w.length<=1000],λ(s,_)=>tE s,λ(s,w)=>.s (.bool (decide (nh s.th s.m s.aa empty=w)))⟩
def ahk:aM:=[(36,bZ ayH mSK)]
def ajp:List (Nat×Norm):=[(5,⟨[],[1,5,7],5,[]⟩)]
noncomputable def ass(th:Th)(m:As)(fu wh ep pg:Int)(br:Ws)(aa:Int)(fr fs gn:Ws)(w zu:List En)(i:Int):bP:=⟨sl 37 [(1,.s (.ro (.au cE w))),(5,.vec 5),(7,aJ i)],jT th m fu wh true ep pg br aa fr fs gn++[.vec (.au cE zu) Lf.eE],hd f50 5,{}⟩
def ao6:aM:=[(38,bZ sFo mFo),(37,bZ u5 Ds.sO)]
def awo:List (Nat×Norm):=[(4,⟨[],[4],0,[]⟩)]
noncomputable def cBg(th:Th)(m:As)(fu:Int):bP:=⟨sl 29 [(4,.ptr 0 0)],Ds.hD th m fu,hr f47 4,{}⟩
abbrev sPu:Spec (List En×ByteArray×ByteArray):=⟨λ(l,key,val)=>[.s (.ro (.au cE l)),.s (.str key),.s (.str val)],λ_=>[],λ(l,_,_)=>[l.length<=1000],λ(l,key,val)=>[.vec (.au cE (bO l key val)) Lf.eE],λ_=>.vec 0⟩
abbrev sDe:Spec (List En×ByteArray):=⟨λ(l,key)=>[.s (.ro (.au cE l)),.s (.str key)],λ_=>[],λ(l,_)=>[l.length<=1000],λ(l,key)=>[.vec (.au cE (cG l key)) Lf.eE],λ_=>.vec 0⟩
def mPu:List AV->RM ((List En×ByteArray×ByteArray)×List Nat)
 |[.s (.ro (.au [.str,.str] l)),.s (.str key),.s (.str val)]=>.ret ((l,key,val),[])|_=>.fail "no row"
def mDe:List AV->RM ((List En×ByteArray)×List Nat)
 |[.s (.ro (.au [.str,.str] l)),.s (.str key)]=>.ret ((l,key),[])|_=>.fail "no row"
def mL8:List AV->RM (List (CL iv)×List Nat)
 |[.s (.ro (.au [.int .u8,.str,.str,.int .i64,.bG,.int .i64,.int .i64] l))]=>.ret (l,[])|_=>.fail "no steps"
def ayV:List AV->RM (ayU×List Nat)
 |[s,.s (.ro (.au [.str,.str] w))]=>(mSs [s]).bind λ(X,σ)=>.ret ((X,w),σ)|_=>.fail "no row"
abbrev hBg(s:Sd):List ak:=[Ds.jl 2 3 s.fu,fv 0 s.wh true s.ep s.pg s.br (.ptr 4 0),.vec (.au Ds.cS s.th) Ds.eS,.map Ds.kS s.m,fL 0 s.aa s.fr s.fs s.gn]
abbrev sBg:Spec Int:=⟨λn=>[aJ n],λ_=>[],λn=>[3<=n/\n<=1000],λn=>hBg (oa n),λ_=>.bt [.ptr 0 0,.ptr 1 0]⟩
def mBg:List AV->RM (Int×List Nat)
 |[n]=>match n.cD with
  |some (_,_,n)=>.ret (n,[])|_=>.fail "no number"
 |_=>.fail "no number"
abbrev ayW:=sumOf [] [dh] (λ_=>[]) (λ_=>(true,()))
theorem aAV(l:List En)(key val:ByteArray):run P (aM.sum []) f94 asp (start f94 [.s (.ro (.au cE l)),.s (.str key),.s (.str val)] [])=
 Tree.at (cPu l key val 0):=by kernel_rfl
theorem ayX(l:List En)(key val:ByteArray)(i:Int):run P (aM.sum []) f94 asp (cPu l key val i)=
 Tree.ite (decide (i<l.length)) (.ab ((0:Int)<=i) (.ab (i<l.length) (.ite (slt (l.getD i.toNat (CL.d cE)).fst key) (.ab (aB (i+1)) (.at (cPu l key val (i+1)))) (.ab ((0:Int)<=0) (.ab ((0:Int)<=i) (.ab (i<=l.length) (.ab (((0:Nat)+(List.drop (Int.toNat 0) (List.take i.toNat l)).length)*(32:Nat)<=140737488355328) (.ab ((([]++List.drop (Int.toNat 0) (List.take i.toNat l)).length+1)*(32:Nat)<=140737488355328) (.ite (decide (i<l.length)) (.ab ((0:Int)<=i) (.ab (i<l.length) (.ite (decide ((l.getD i.toNat (CL.d cE)).fst=key)) (.ab (aB (i+1)) (.ab ((0:Int)<=i+1) (.ab (i+1<=(↑l.length:Int)) (.ab ((↑l.length:Int)<=(↑l.length:Int)) (.ab ((([]++List.drop (Int.toNat 0) (List.take i.toNat l)++[(key,val,())]).length+(List.drop (i+1).toNat (List.take (↑l.length:Int).toNat l)).length)*(32:Nat)<=140737488355328) (.ret [.ax,.ax,.vec (.au cE [(key,val,())]) 66,.ax,.vec (.au cE ([]++List.drop (Int.toNat 0) (List.take i.toNat l)++[(key,val,())]++List.drop (i+1).toNat (List.take (↑l.length:Int).toNat l))) 66] (.vec 4))))))) (.ab ((0:Int)<=i) (.ab (i<=l.length) (.ab ((↑l.length:Int)<=(↑l.length:Int)) (.ab ((([]++List.drop (Int.toNat 0) (List.take i.toNat l)++[(key,val,())]).length+(List.drop i.toNat (List.take (↑l.length:Int).toNat l)).length)*(32:Nat)<=140737488355328) (.ret [.ax,.ax,.vec (.au cE [(key,val,())]) 66,.ax,.vec (.au cE ([]++List.drop (Int.toNat 0) (List.take i.toNat l)++[(key,val,())]++List.drop i.toNat (List.take (↑l.length:Int).toNat l))) 66] (.vec 4))))))))) (.ab ((0:Int)<=i) (.ab (i<=l.length) (.ab ((↑l.length:Int)<=(↑l.length:Int)) (.ab ((([]++List.drop (Int.toNat 0) (List.take i.toNat l)++[(key,val,())]).length+(List.drop i.toNat (List.take (↑l.length:Int).toNat l)).length)*(32:Nat)<=140737488355328) (.ret [.ax,.ax,.vec (.au cE [(key,val,())]) 66,.ax,.vec (.au cE ([]++List.drop (Int.toNat 0) (List.take i.toNat l)++[(key,val,())]++List.drop i.toNat (List.take (↑l.length:Int).toNat l))) 66] (.vec 4)))))))))))))))
 (.ab ((0:Int)<=0) (.ab ((0:Int)<=i) (.ab (i<=l.length) (.ab (((0:Nat)+(List.drop (Int.toNat 0) (List.take i.toNat l)).length)*(32:Nat)<=140737488355328) (.ab ((([]++List.drop (Int.toNat 0) (List.take i.toNat l)).length+1)*(32:Nat)<=140737488355328) (.ite (decide (i<l.length)) (.ab ((0:Int)<=i) (.ab (i<l.length) (.ite (decide ((l.getD i.toNat (CL.d cE)).fst=key)) (.ab (aB (i+1)) (.ab ((0:Int)<=i+1) (.ab (i+1<=(↑l.length:Int)) (.ab ((↑l.length:Int)<=(↑l.length:Int)) (.ab ((([]++List.drop (Int.toNat 0) (List.take i.toNat l)++[(key,val,())]).length+(List.drop (i+1).toNat (List.take (↑l.length:Int).toNat l)).length)*(32:Nat)<=140737488355328) (.ret [.ax,.ax,.vec (.au cE [(key,val,())]) 66,.ax,.vec (.au cE ([]++List.drop (Int.toNat 0) (List.take i.toNat l)++[(key,val,())]++List.drop (i+1).toNat (List.take (↑l.length:Int).toNat l))) 66] (.vec 4))))))) (.ab ((0:Int)<=i) (.ab (i<=l.length) (.ab ((↑l.length:Int)<=(↑l.length:Int)) (.ab ((([]++List.drop (Int.toNat 0) (List.take i.toNat l)++[(key,val,())]).length+(List.drop i.toNat (List.take (↑l.length:Int).toNat l)).length)*(32:Nat)<=140737488355328) (.ret [.ax,.ax,.vec (.au cE [(key,val,())]) 66,.ax,.vec (.au cE ([]++List.drop (Int.toNat 0) (List.take i.toNat l)++[(key,val,())]++List.drop i.toNat (List.take (↑l.length:Int).toNat l))) 66] (.vec 4))))))))) (.ab ((0:Int)<=i) (.ab (i<=l.length) (.ab ((↑l.length:Int)<=(↑l.length:Int)) (.ab ((([]++List.drop (Int.toNat 0) (List.take i.toNat l)++[(key,val,())]).length+(List.drop i.toNat (List.take (↑l.length:Int).toNat l)).length)*(32:Nat)<=140737488355328) (.ret [.ax,.ax,.vec (.au cE [(key,val,())]) 66,.ax,.vec (.au cE ([]++List.drop (Int.toNat 0) (List.take i.toNat l)++[(key,val,())]++List.drop i.toNat (List.take (↑l.length:Int).toNat l))) 66] (.vec 4)))))))))))):=by kernel_rfl
theorem aAW(l:List En)(key:ByteArray):run P (aM.sum []) f95 asq (start f95 [.s (.ro (.au cE l)),.s (.str key)] [])=
 Tree.at (cDe l [] key 0):=by kernel_rfl
theorem ayY(l out:List En)(key:ByteArray)(i:Int):run P (aM.sum []) f95 asq (cDe l out key i)=
 Tree.ite (decide (i<l.length)) (.ab ((0:Int)<=i) (.ab (i<l.length) (.ite (!decide ((l.getD i.toNat (CL.d cE)).fst=key)) (.ab ((0:Int)<=i) (.ab (i<l.length) (.ab ((out.length+1)*(32:Nat)<=140737488355328) (.ab (aB (i+1)) (.at (cDe l (out++[((l.getD i.toNat (CL.d cE)).fst,(l.getD i.toNat (CL.d cE)).snd.fst,())]) key (i+1))))))) (.ab (aB (i+1)) (.at (cDe l out key (i+1))))))) (.ret [.vec (.au cE out) 66] (.vec 0)):=by kernel_rfl
theorem aAX(l:List (CL iv)):run P (aM.sum []) f46 asr (start f46 [av8 l] [])=
 Tree.ite (decide ((↑l.length:Int)>120)) (.ret [] (.s (.aK true))) (.at (cL8 l 0)):=by kernel_rfl
theorem ayZ(l:List (CL iv))(i:Int):run P (aM.sum []) f46 asr (cL8 l i)=
 Tree.ite (decide (i<l.length)) (.ab ((0:Int)<=i) (.ab (i<l.length) (.ite (decide ((↑(xA (el l i)).size:Int)>100)) (.ret [] (.s (.aK true))) (.ab ((0:Int)<=i) (.ab (i<l.length) (.ite (decide ((↑(xV (el l i)).size:Int)>300)) (.ret [] (.s (.aK true))) (.ab ((0:Int)<=i) (.ab (i<l.length) (.ite (decide ((↑(xB (el l i)).length:Int)>400)) (.ret [] (.s (.aK true))) (.ab (aB (i+1)) (.at (cL8 l (i+1))))))))))))) (.ret [] (.s (.aK false))):=by kernel_rfl
theorem ay0(th:Th)(m:As)(fu wh ep pg:Int)(br:Ws)(aa:Int)(fr fs gn:Ws)(w:List En):run P ahk.sum f50 ajp (start f50 [.ptr 0 0,.s (.ro (.au cE w))] (jT th m fu wh true ep pg br aa fr fs gn))=
 Tree.ab (bk (some [AV.ptr 0 0,.s (.str empty)])) (.ab (bk (some (jT th m fu wh true ep pg br aa fr fs gn))) (.ab (Ds.bo th m fu) (.ab ((0:Int)<=aa/\aa<=65536) (.ite (wj th m aa empty !=0) (.ret (jT th m fu wh true ep pg br aa fr fs gn++[.vec (.au cE (nh th m aa empty)) 66]) (.s (.aK false))) (.ite ((↑(nh th m aa empty).length:Int) !=(↑w.length:Int)) (.ret (jT th m fu wh true ep pg br aa fr fs gn++[.vec (.au cE (nh th m aa empty)) 66]) (.s (.aK false))) (.at (ass th m fu wh ep pg br aa fr fs gn w (nh th m aa empty) 0))))))):=by kernel_rfl
theorem atI(th:Th)(m:As)(fu wh ep pg:Int)(br:Ws)(aa:Int)(fr fs gn:Ws)(w zu:List En)(i:Int):run P ahk.sum f50 ajp (ass th m fu wh ep pg br aa fr fs gn w zu i)=
 Tree.ite (decide (i<zu.length)) (.ab ((0:Int)<=i) (.ab (i<zu.length) (.ab ((0:Int)<=i) (.ab (i<w.length) (.ite (!(decide ((zu.getD i.toNat (CL.d cE)).fst=(w.getD i.toNat (CL.d cE)).fst)&&(decide ((zu.getD i.toNat (CL.d cE)).snd.fst=(w.getD i.toNat (CL.d cE)).snd.fst)&&true))) (.ret (jT th m fu wh true ep pg br aa fr fs gn++[.vec (.au cE zu) 66]) (.s (.aK false))) (.ab (aB (i+1)) (.at (ass th m fu wh ep pg br aa fr fs gn w zu (i+1))))))))) (.ret (jT th m fu wh true ep pg br aa fr fs gn++[.vec (.au cE zu) 66]) (.s (.aK true))):=by kernel_rfl
theorem aAY(n:Int):run P ao6.sum f47 awo (start f47 [aJ n] []) (inl:=[11])=
 Tree.ab (aB ((4:Int)*n)) (.ite (decide ((4:Int)*n<1)) (.ret [] (.bt [.s .jD,.s .jD])) (.ite (decide ((4:Int)*n>4096)) (.ret [] (.bt [.s .jD,.s .jD])) (.ab ((0:Int)<=4*n) (.ab ((4:Int)*n<=4*n) (.ab ((4:Int)*n<=1073741824) (.ab (bk (some [AV.ptr 0 0])) (.ab (bk (some (Ds.hD (replicate ((4:Int)*n).toNat (CL.d [.arr .u8 64])) [] (-1)))) (.ab (Ds.bo (replicate ((4:Int)*n).toNat (CL.d [.arr .u8 64])) [] (-1)) (.ab (marks=marks) (.ite ((tJ (replicate ((4:Int)*n).toNat (CL.d [.arr .u8 64])) [] (-1) marks).snd.snd.snd !=0) (.ret [.vec (.au [.arr .u8 64] (tJ (replicate ((4:Int)*n).toNat (CL.d [.arr .u8 64])) [] (-1) marks).fst) 165,.map Ds.kS (tJ (replicate ((4:Int)*n).toNat (CL.d [.arr .u8 64])) [] (-1) marks).snd.fst,Ds.jl 0 1 ((tJ (replicate ((4:Int)*n).toNat (CL.d [.arr .u8 64])) [] (-1) marks).snd.snd.fst)] (.bt [.s .jD,.s .jD])) (.at (cBg (tJ (replicate ((4:Int)*n).toNat (CL.d [.arr .u8 64])) [] (-1) marks).fst (tJ (replicate ((4:Int)*n).toNat (CL.d [.arr .u8 64])) [] (-1) marks).snd.fst (tJ (replicate ((4:Int)*n).toNat (CL.d [.arr .u8 64])) [] (-1) marks).snd.snd.fst)))))))))))):=by kernel_rfl
theorem aAZ(th:Th)(m:As)(fu:Int):run P ao6.sum f47 awo (cBg th m fu) (inl:=[11])=
 Tree.ab (bk (some [AV.ptr 0 0])) (.ab (bk (some (Ds.hD th m fu))) (.ab (Ds.bo th m fu) (.ab ((3:Int)<=Ds.eH th) (.ab ((dH th m).snd.fst=true) (.ab (m9 th m (dH th m).snd.snd.snd) (.ite false (.ret (Ds.hD th m fu++[.aq [.ptr 0 0,aJ ((dH th m).fst),.s (.bool true),aJ ((dH th m).snd.snd.fst),aJ ((dH th m).snd.snd.snd),.ah .u64 16 (dS th m (dH th m).snd.snd.snd),.ptr 4 0] 155,fL 0 ((dH th m).snd.snd.snd) (nT th (dS th m (dH th m).snd.snd.snd)) Bx.aH Bx.aH]) (.bt [.s .jD,.s .jD])) (.ret (Ds.hD th m fu++[.aq [.ptr 0 0,aJ ((dH th m).fst),.s (.bool true),aJ ((dH th m).snd.snd.fst),aJ ((dH th m).snd.snd.snd),.ah .u64 16 (dS th m (dH th m).snd.snd.snd),.ptr 4 0] 155,fL 0 ((dH th m).snd.snd.snd) (nT th (dS th m (dH th m).snd.snd.snd)) Bx.aH Bx.aH]) (.bt [.ptr 0 0,.ptr 3 0])))))))):=by kernel_rfl
abbrev eBk:TypeId:=80
abbrev obB(now kept:List En):ak:=.aq [.s (.ro (.au cE now)),.s (.ro (.au cE kept))] eBk
abbrev fDo:FuncId:=48
def kDo(i:Nat):Nat:=(fDo+1)*100000+i
def ajq:aM:=[(46,bZ sL8 mL8),(45,ayW),(44,bZ awh mSt),(43,bZ awg mSt),(39,bZ awn ayR),(40,bZ ayQ ayS),(35,bZ awf mSK),(41,bZ qo mSs),(42,bZ awm mSs),(37,bZ u5 Ds.sO),(94,bZ sPu mPu),(95,bZ sDe mDe),(50,ab3 1 (.au cE []) (bZ ahj ayV)),(47,bZ sBg mBg)]
abbrev hP(s:Sd)(now kept:List En):List ak:=[Ds.jl 3 4 s.fu,fv 0 s.wh true s.ep s.pg s.br (.ptr 5 0),obB now kept,.vec (.au Ds.cS s.th) Ds.eS,.map Ds.kS s.m,fL 0 s.aa s.fr s.fs s.gn]
def roB:List (Nat×Nat×Bool×aV×TypeId):=[(2,0,true,.au cE [],Lf.eE),(2,1,true,.au cE [],Lf.eE)]
def ay1:List (Nat×Nat×Bool×aV×TypeId):=[(0,0,true,.au cE [],Lf.eE),(0,1,true,.au cE [],Lf.eE)]
def ay2:List (Nat×Norm):=[(9,⟨[],[1,5,6,7,8,9],0,roB⟩),(kDo 18,⟨[],[0,1,6,95,99,100,101,102,103],0,ay1⟩),(18,⟨[],[6,7,8],0,[]⟩),(21,⟨[],[6,7,8,14],0,[]⟩),(25,⟨[],[6,7],0,[]⟩)]
noncomputable def cSp(l:List (CL iv))(all i:Int)(s:Sd)(now kept:List En):bP:=⟨sl 126 [(1,av8 l),(5,.ptr 0 0),(6,.ptr 1 0),(7,aJ all),(8,.ptr 2 0),(9,aJ i)],hP s now kept,hd f6 9,{}⟩
abbrev hDp(s:Sd)(now kept:List En):List ak:=[obB now kept,fv 2 s.wh true s.ep s.pg s.br (.ptr 3 0),Ds.jl 4 5 s.fu,fL 2 s.aa s.fr s.fs s.gn,.vec (.au Ds.cS s.th) Ds.eS,.map Ds.kS s.m]
abbrev hQ(s:Sd)(now kept:List En):List ak:=[fv 2 s.wh true s.ep s.pg s.br (.ptr 3 0),obB now kept,Ds.jl 4 5 s.fu,fL 2 s.aa s.fr s.fs s.gn,.vec (.au Ds.cS s.th) Ds.eS,.map Ds.kS s.m]
noncomputable def cDp(l:List (CL iv))(all i e:Int)(s:Sd)(now kept:List En):bP:=⟨sl 220 [(0,.ptr 0 0),(1,.ptr 1 0),(6,aJ e),(95,av8 l),(99,.ptr 2 0),(100,.ptr 1 0),(101,aJ all),(102,.ptr 0 0),(103,aJ i)],hDp s now kept,hr f48 18,⟨some fDo,false,0,[jZ f6 none 11 5 false 0],0⟩⟩
noncomputable def aA0(all:Int)(s:Sd)(now kept:List En):bP:=⟨sl 126 [(6,.ptr 0 0),(7,aJ all),(8,.ptr 1 0)],hQ s now kept,hr f6 18,{}⟩
noncomputable def aBC(all i:Int)(s:Sd)(now kept:List En):bP:=⟨sl 126 [(6,.ptr 0 0),(7,aJ all),(8,.ptr 1 0),(14,aJ i)],hQ s now kept,hd f6 21,{}⟩
abbrev hQ5(s:Sd):List ak:=[fv 1 s.wh true s.ep s.pg s.br (.ptr 2 0),Ds.jl 3 4 s.fu,fL 1 s.aa s.fr s.fs s.gn,.vec (.au Ds.cS s.th) Ds.eS,.map Ds.kS s.m]
noncomputable def aBD(all:Int)(s:Sd):bP:=⟨sl 126 [(6,.ptr 0 0),(7,aJ all)],hQ5 s,hr f6 25,{}⟩
theorem aBE(p:Int)(l:List (CL iv)):iW (run P ajq.sum f6 ay2 (start f6 [.s (.int .u8 p),av8 l] []) (inl:=[48]))=
 Tree.ab (bk (some [AV.s (.ro (.au iv l))])) (.ab sF (.ab (l.length<=9223372036854775807) (.both True (l.length - (120:Nat)=0) (.ret [] (.s (.bool true))) (.ite false (.ret [] (.s (.bool true))) (.ab ((60:Int)≠0) (.ab (aB (p.tmod 60)) (.ab (aB ((8:Int)+p.tmod 60)) (.ab (bk (some [aJ ((8:Int)+p.tmod 60)])) (.ab sF (.ab ((3:Int)<=8+p.tmod (60:Int)/\(8:Int)+p.tmod (60:Int)<=1000) (.ab (bk (some [AV.ptr 0 0])) (.ab (bk (some (tE (oa ((8:Int)+p.tmod 60))))) (.ab (Ds.bo (oa ((8:Int)+p.tmod 60)).th (oa ((8:Int)+p.tmod 60)).m (oa ((8:Int)+p.tmod 60)).fu) (.ab ((0:Int)<=(oa ((8:Int)+p.tmod 60)).aa/\(oa ((8:Int)+p.tmod 60)).aa<=65536) (.ab (y9 (oa ((8:Int)+p.tmod 60)).th (oa ((8:Int)+p.tmod 60)).m (oa ((8:Int)+p.tmod 60)).aa=0) (.ab (Bx.okW (iV (oa ((8:Int)+p.tmod 60)).th (oa ((8:Int)+p.tmod 60)).m (oa ((8:Int)+p.tmod 60)).br (oa ((8:Int)+p.tmod 60)).aa)) (.at (cSp l (Bx.lC (iV (oa ((8:Int)+p.tmod 60)).th (oa ((8:Int)+p.tmod 60)).m (oa ((8:Int)+p.tmod 60)).br (oa ((8:Int)+p.tmod 60)).aa)) 0 (oa ((8:Int)+p.tmod 60)) [] [])))))))))))))))))):=by kernel_rfl
theorem aBF(l:List (CL iv))(all i:Int)(s:Sd)(now kept:List En):iW (run P ajq.sum f6 ay2 (cSp l all i s now kept) (inl:=[48]))=
 Tree.ite (decide (i<l.length)) (.ab ((0:Int)<=i) (.ab (i<l.length) (.ite (xK (el l i)==0) (.ab (bk (some [AV.ptr 0 0,.s (.str (xA (el l i))),.s (.str (xV (el l i)))])) (.ab (bk (some (tE s))) (.ab (Ds.bo s.th s.m s.fu) (.ab (Bx.okW s.fr) (.ab ((0:Int)<=s.aa/\s.aa<=65536) (.ite (jc s (xA (el l i)) (some (xV (el l i)))==0) (.ab (bk (some [AV.s (.ro (.au cE now)),.s (.str (xA (el l i))),.s (.str (xV (el l i)))])) (.ab sF (.ab (now.length<=1000) (.at (cDp l all i (jc s (xA (el l i)) (some (xV (el l i)))) (cK s (xA (el l i)) (some (xV (el l i)))) (bO now (xA (el l i)) (xV (el l i))) kept))))) (.at (cDp l all i (jc s (xA (el l i)) (some (xV (el l i)))) (cK s (xA (el l i)) (some (xV (el l i)))) now kept)))))))) (.ite (xK (el l i)==1) (.ab (bk (some [AV.ptr 0 0,.s (.str (xA (el l i)))])) (.ab (bk (some (tE s))) (.ab (Ds.bo s.th s.m s.fu) (.ab (Bx.okW s.fr) (.ab ((0:Int)<=s.aa/\s.aa<=65536) (.ite (jc s (xA (el l i)) none==0) (.ab (bk (some [AV.s (.ro (.au cE now)),.s (.str (xA (el l i)))])) (.ab sF (.ab (now.length<=1000) (.at (cDp l all i (jc s (xA (el l i)) none) (cK s (xA (el l i)) none) (cG now (xA (el l i))) kept))))) (.at (cDp l all i (jc s (xA (el l i)) none) (cK s (xA (el l i)) none) now kept)))))))) (.ite (xK (el l i)==4) (.ab (bk (some [AV.ptr 0 0])) (.ab (bk (some (tE s))) (.ab (Ds.bo s.th s.m s.fu) (.ab ((0:Int)<=s.ep/\s.ep<1099511627776) (.ab (s.wh=0\/s.wh=1) (.ab (m9 (lH s).th (lH s).m (lH s).pg) (.ite (coE s==0) (.ab (((0:Nat)+now.length)*(32:Nat)<=140737488355328) (.at (cDp l all i (coE s) (lH s) now ([]++now)))) (.ab (((0:Nat)+kept.length)*(32:Nat)<=140737488355328) (.at (cDp l all i (coE s) (lH s) ([]++kept) kept)))))))))) (.ite (xK (el l i)==5) (.ab (bk (some [AV.ptr 0 0])) (.ab (bk (some (tE s))) (.ab (Ds.bo s.th s.m s.fu) (.ab (m9 s.th s.m s.pg) (.ab (((0:Nat)+kept.length)*(32:Nat)<=140737488355328) (.at (cDp l all i 0 (lW s s.wh s.ep s.pg) ([]++kept) kept))))))) (.at (cDp l all i 0 s now kept)))))))) (.at (aA0 all s now kept)):=by kernel_rfl
theorem aBX(l:List (CL iv))(all i e:Int)(s:Sd)(now kept:List En):iW (run P ajq.sum f6 ay2 (cDp l all i e s now kept) (inl:=[48]))=
 Tree.ab (bk (some [AV.ptr 0 0,.s (.ro (.au cE now))]))
 (.ab (bk (some (tE s)))
   (.ab (Ds.bo s.th s.m s.fu) (.ab ((0:Int)<=s.aa/\s.aa<=65536) (.ab (wj s.th s.m s.aa empty=0) (.ab ((nh s.th s.m s.aa empty).length<=1000) (.ab (now.length<=1000) (.ite (!decide (nh s.th s.m s.aa empty=now)) (.ret [] (.s (.aK false))) (.ab (bk (some [AV.ptr 0 0])) (.ab (bk (some (tE s))) (.ab (Ds.bo s.th s.m s.fu) (.ab ((0:Int)<=s.aa/\s.aa<=65536) (.ab (y9 s.th s.m s.aa=0) (.ab (Bx.okW (iV s.th s.m s.br s.aa)) (.ite (decide (Bx.lC (iV s.th s.m s.br s.aa)<0)) (.ret [] (.s (.aK false))) (.ab (bk (some [AV.ptr 0 0])) (.ab (bk (some (tE s))) (.ab (Ds.bo s.th s.m s.fu) (.ab ((0:Int)<=s.aa/\s.aa<=65536) (.ab (y9 s.th s.m s.aa=0) (.ab (Bx.okW (iV s.th s.m s.br s.aa)) (.ite (decide (Bx.lC (iV s.th s.m s.br s.aa)>all)) (.ret [] (.s (.aK false))) (.ab ((0:Int)<=i) (.ab (i<l.length) (.ite (xK (el l i)==4) (.ab (bk (some [AV.ptr 0 0])) (.ab (bk (some (Ds.hD s.th s.m s.fu))) (.ab (Ds.bo s.th s.m s.fu) (.ab ((3:Int)<=Ds.eH s.th) (.ab ((dH s.th s.m).snd.fst=true) (.ab (m9 s.th s.m (dH s.th s.m).snd.snd.snd) (.ite false (.ret [] (.s (.aK false))) (.ab (bk (some [AV.ptr 0 0])) (.ab (bk (some (jT s.th s.m s.fu (dH s.th s.m).fst true (dH s.th s.m).snd.snd.fst (dH s.th s.m).snd.snd.snd (dS s.th s.m (dH s.th s.m).snd.snd.snd) (dH s.th s.m).snd.snd.snd (nT s.th (dS s.th s.m (dH s.th s.m).snd.snd.snd)) Bx.aH Bx.aH))) (.ab (Ds.bo s.th s.m s.fu) (.ab ((0:Int)<=(dH s.th s.m).snd.snd.snd/\(dH s.th s.m).snd.snd.snd<=65536) (.ab (y9 s.th s.m (dH s.th s.m).snd.snd.snd=0) (.ab (Bx.okW (iV s.th s.m (dS s.th s.m (dH s.th s.m).snd.snd.snd) (dH s.th s.m).snd.snd.snd)) (.ab (bk (some [AV.ptr 0 0])) (.ab (bk (some (tE s))) (.ab (Ds.bo s.th s.m s.fu) (.ab ((0:Int)<=s.aa/\s.aa<=65536) (.ab (y9 s.th s.m s.aa=0) (.ab (Bx.okW (iV s.th s.m s.br s.aa)) (.ite (Bx.lC (iV s.th s.m (dS s.th s.m (dH s.th s.m).snd.snd.snd) (dH s.th s.m).snd.snd.snd) !=Bx.lC (iV s.th s.m s.br s.aa)) (.ret [] (.s (.aK false))) (.ab (bk (some [AV.ptr 0 0])) (.ab (bk (some (jT s.th s.m s.fu (dH s.th s.m).fst true (dH s.th s.m).snd.snd.fst (dH s.th s.m).snd.snd.snd (dS s.th s.m (dH s.th s.m).snd.snd.snd) (dH s.th s.m).snd.snd.snd (nT s.th (dS s.th s.m (dH s.th s.m).snd.snd.snd)) Bx.aH Bx.aH))) (.ab (bk (some [AV.ptr 0 0])) (.ab (bk (some (tE s))) (.ite ((dH s.th s.m).snd.snd.fst !=s.ep) (.ret [] (.s (.aK false))) (.ab (aB (i+1)) (.at (.mk (sl 126 [(1,.s (.ro (.au iv l))),(5,.ptr 0 0),(6,.ptr 1 0),(7,aJ all),(8,.ptr 2 0),(9,aJ (i+1))]) (hP s now kept) (hd f6 9) (.mk none false 0 [] 0))))))))))))))))))))))))))))) (.ab (aB (i+1)) (.at (.mk (sl 126 [(1,.s (.ro (.au iv l))),(5,.ptr 0 0),(6,.ptr 1 0),(7,aJ all),(8,.ptr 2 0),(9,aJ (i+1))]) (hP s now kept) (hd f6 9) (.mk none false 0 [] 0)))))))))))))))))))))))))))):=by kernel_rfl
theorem aBU(all:Int)(s:Sd)(now kept:List En):iW (run P ajq.sum f6 ay2 (aA0 all s now kept) (inl:=[48]))=
 Tree.ab (bk (some [AV.ptr 0 0])) (.ab (bk (some (tE s))) (.ab (Ds.bo s.th s.m s.fu) (.ab (m9 s.th s.m s.pg) (.ite false (.ret [] (.s (.aK false))) (.at (.mk (sl 126 [(6,.ptr 0 0),(7,aJ all),(8,.ptr 1 0),(14,aJ 0)]) (hQ (lW s s.wh s.ep s.pg) now kept) (hd f6 21) (.mk none false 0 [] 0))))))):=by kernel_rfl
theorem aBV(all i:Int)(s:Sd)(now kept:List En):iW (run P ajq.sum f6 ay2 (aBC all i s now kept) (inl:=[48]))=
 Tree.ite (decide (i<kept.length)) (.ab ((0:Int)<=i) (.ab (i<kept.length) (.ab (bk (some [AV.ptr 0 0,.s (.str (kept.getD i.toNat (CL.d cE)).fst)])) (.ab (bk (some (tE s))) (.ab (Ds.bo s.th s.m s.fu) (.ab (Bx.okW s.fr) (.ab ((0:Int)<=s.aa/\s.aa<=65536) (.ite (jc s (kept.getD i.toNat (CL.d cE)).fst none !=0) (.ret [] (.s (.aK true))) (.ab (bk (some [AV.ptr 0 0])) (.ab (bk (some (tE (cK s (kept.getD i.toNat (CL.d cE)).fst none)))) (.ab (Ds.bo (cK s (kept.getD i.toNat (CL.d cE)).fst none).th (cK s (kept.getD i.toNat (CL.d cE)).fst none).m (cK s (kept.getD i.toNat (CL.d cE)).fst none).fu) (.ab ((0:Int)<=(cK s (kept.getD i.toNat (CL.d cE)).fst none).ep/\(cK s (kept.getD i.toNat (CL.d cE)).fst none).ep<1099511627776) (.ab ((cK s (kept.getD i.toNat (CL.d cE)).fst none).wh=0\/(cK s (kept.getD i.toNat (CL.d cE)).fst none).wh=1) (.ab (m9 (lH (cK s (kept.getD i.toNat (CL.d cE)).fst none)).th (lH (cK s (kept.getD i.toNat (CL.d cE)).fst none)).m (lH (cK s (kept.getD i.toNat (CL.d cE)).fst none)).pg) (.ite (coE (cK s (kept.getD i.toNat (CL.d cE)).fst none) !=0) (.ret [] (.s (.aK true))) (.ab (aB (i+1)) (.at (.mk (sl 126 [(6,.ptr 0 0),(7,aJ all),(8,.ptr 1 0),(14,aJ (i+1))]) (hQ (lH (cK s (kept.getD i.toNat (CL.d cE)).fst none)) now kept) (hd f6 21) (.mk none false 0 [] 0))))))))))))))))))) (.at (.mk (sl 126 [(6,.ptr 0 0),(7,aJ all)]) (tE s) (hr f6 25) (.mk none false 0 [] 0))):=by kernel_rfl
theorem aBW(all:Int)(s:Sd):iW (run P ajq.sum f6 ay2 (aBD all s) (inl:=[48]))=
 Tree.ab (bk (some [AV.ptr 0 0])) (.ab (bk (some (tE s))) (.ab (Ds.bo s.th s.m s.fu) (.ab ((0:Int)<=s.ep/\s.ep<1099511627776) (.ab (s.wh=0\/s.wh=1) (.ab (m9 (lH s).th (lH s).m (lH s).pg) (.ite (coE s==0) (.ab (bk (some [AV.ptr 0 0])) (.ab (bk (some (tE (lH s)))) (.ab (Ds.bo (lH s).th (lH s).m (lH s).fu) (.ab ((0:Int)<=(lH s).aa/\(lH s).aa<=65536) (.ab (y9 (lH s).th (lH s).m (lH s).aa=0) (.ab (Bx.okW (iV (lH s).th (lH s).m (lH s).br (lH s).aa)) (.ite (Bx.lC (iV (lH s).th (lH s).m (lH s).br (lH s).aa)==all) (.ab (bk (some [AV.ptr 0 0,.s (.ro (.au cE []))])) (.ab (bk (some (tE (lH s)))) (.ab (Ds.bo (lH s).th (lH s).m (lH s).fu) (.ab ((0:Int)<=(lH s).aa/\(lH s).aa<=65536) (.ab (wj (lH s).th (lH s).m (lH s).aa empty=0) (.ab ((nh (lH s).th (lH s).m (lH s).aa empty).length<=1000) (.ab ((0:Nat)<=1000) (.ret [] (.s (.bool (decide (nh (lH s).th (lH s).m (lH s).aa empty=[])))))))))))) (.ret [] (.s (.aK false)))))))))) (.ret [] (.s (.aK false))))))))):=by kernel_rfl
def aBH:aM:=(49,aoA)::ajq
def aBK:List (Nat×Norm):=[(8,⟨[],[1,5,6,7,8],0,roB⟩),(kDo 18,⟨[],[0,1,6,95,99,100,101,102],0,ay1⟩),(17,⟨[],[1,5,6,7,8,11,12,13,14,15,16],0,[]⟩),(23,⟨[],[5,6,7],0,[]⟩)]
noncomputable def cSm(l:List (CL iv))(i:Int)(s:Sd)(now kept:List En):bP:=⟨sl 124 [(1,av8 l),(5,.ptr 0 0),(6,.ptr 1 0),(7,.ptr 2 0),(8,aJ i)],hP s now kept,hd f5 8,{}⟩
noncomputable def cDm(l:List (CL iv))(i e:Int)(s:Sd)(now kept:List En):bP:=⟨sl 218 [(0,.ptr 0 0),(1,.ptr 1 0),(6,aJ e),(95,av8 l),(99,.ptr 2 0),(100,.ptr 1 0),(101,.ptr 0 0),(102,aJ i)],hDp s now kept,hr f48 18,⟨some fDo,false,0,[jZ f5 none 10 5 false 0],0⟩⟩
noncomputable def aBL(l:List (CL iv))(i:Int)(s:Sd)(now kept:List En)(v:ByteArray)(is:Bool)(e:Int)(want:ByteArray)(there:Bool)(k:Int):bP:=⟨sl 124 [(1,av8 l),(5,.ptr 0 0),(6,.ptr 1 0),(7,.ptr 2 0),(8,aJ i),(11,.s (.str v)),(12,.s (.bool is)),(13,aJ e),(14,.s (.str want)),(15,.s (.bool there)),(16,aJ k)],hP s now kept,hd f5 17,{}⟩
noncomputable def aBP(s:Sd)(now kept:List En):bP:=⟨sl 124 [(5,.ptr 0 0),(6,.ptr 1 0),(7,.ptr 2 0)],hP s now kept,hr f5 23,{}⟩
theorem aBS(p:Int)(l:List (CL iv)):iW (run P aBH.sum f5 aBK (start f5 [.s (.int .u8 p),av8 l] []) (inl:=[48]))=
 Tree.ab (bk (some [AV.s (.ro (.au iv l))])) (.ab sF (.ab (l.length<=9223372036854775807) (.both True (l.length - (120:Nat)=0) (.ret [] (.s (.bool true))) (.ite false (.ret [] (.s (.bool true))) (.ab ((60:Int)≠0) (.ab (aB (p.tmod 60)) (.ab (aB ((3:Int)+p.tmod 60)) (.ab (bk (some [AV.s (.int .i64 ((3:Int)+p.tmod 60))])) (.ab sF (.ab ((3:Int)<=3+p.tmod (60:Int)/\(3:Int)+p.tmod (60:Int)<=1000) (.at (cSm l 0 (oa ((3:Int)+p.tmod 60)) [] [])))))))))))):=by kernel_rfl
theorem aBQ(l:List (CL iv))(i:Int)(s:Sd)(now kept:List En):iW (run P aBH.sum f5 aBK (cSm l i s now kept) (inl:=[48]))=
 Tree.ite (decide (i<l.length)) (.ab ((0:Int)<=i) (.ab (i<l.length) (.ite (xK (el l i)==0) (.ab (bk (some [AV.ptr 0 0,.s (.str (xA (el l i))),.s (.str (xV (el l i)))])) (.ab (bk (some (tE s))) (.ab (Ds.bo s.th s.m s.fu) (.ab (Bx.okW s.fr) (.ab ((0:Int)<=s.aa/\s.aa<=65536) (.ite (jc s (xA (el l i)) (some (xV (el l i)))==0) (.ab (bk (some [AV.s (.ro (.au cE now)),.s (.str (xA (el l i))),.s (.str (xV (el l i)))])) (.ab sF (.ab (now.length<=1000) (.at (cDm l i (jc s (xA (el l i)) (some (xV (el l i)))) (cK s (xA (el l i)) (some (xV (el l i)))) (bO now (xA (el l i)) (xV (el l i))) kept))))) (.at (cDm l i (jc s (xA (el l i)) (some (xV (el l i)))) (cK s (xA (el l i)) (some (xV (el l i)))) now kept)))))))) (.ite (xK (el l i)==1) (.ab (bk (some [AV.ptr 0 0,.s (.str (xA (el l i)))])) (.ab (bk (some (tE s))) (.ab (Ds.bo s.th s.m s.fu) (.ab (Bx.okW s.fr) (.ab ((0:Int)<=s.aa/\s.aa<=65536) (.ite (jc s (xA (el l i)) none==0) (.ab (bk (some [AV.s (.ro (.au cE now)),.s (.str (xA (el l i)))])) (.ab sF (.ab (now.length<=1000) (.at (cDm l i (jc s (xA (el l i)) none) (cK s (xA (el l i)) none) (cG now (xA (el l i))) kept))))) (.at (cDm l i (jc s (xA (el l i)) none) (cK s (xA (el l i)) none) now kept)))))))) (.ite (xK (el l i)==4) (.ab (bk (some [AV.ptr 0 0])) (.ab (bk (some (tE s))) (.ab (Ds.bo s.th s.m s.fu) (.ab ((0:Int)<=s.ep/\s.ep<1099511627776) (.ab (s.wh=0\/s.wh=1) (.ab (m9 (lH s).th (lH s).m (lH s).pg) (.ite (coE s==0) (.ab (((0:Nat)+now.length)*(32:Nat)<=140737488355328) (.at (cDm l i (coE s) (lH s) now ([]++now)))) (.ab (((0:Nat)+kept.length)*(32:Nat)<=140737488355328) (.at (cDm l i (coE s) (lH s) ([]++kept) kept)))))))))) (.ite (xK (el l i)==5) (.ab (bk (some [AV.ptr 0 0])) (.ab (bk (some (tE s))) (.ab (Ds.bo s.th s.m s.fu) (.ab (m9 s.th s.m s.pg) (.ab (((0:Nat)+kept.length)*(32:Nat)<=140737488355328) (.at (cDm l i 0 (lW s s.wh s.ep s.pg) ([]++kept) kept))))))) (.at (cDm l i 0 s now kept)))))))) (.at (aBP s now kept)):=by kernel_rfl
theorem aBT(l:List (CL iv))(i e:Int)(s:Sd)(now kept:List En):iW (run P aBH.sum f5 aBK (cDm l i e s now kept) (inl:=[48]))=
 Tree.ab (bk (some [AV.ptr 0 0,.s (.ro (.au cE now))])) (.ab (bk (some (tE s))) (.ab (Ds.bo s.th s.m s.fu) (.ab ((0:Int)<=s.aa/\s.aa<=65536) (.ab (wj s.th s.m s.aa empty=0) (.ab ((nh s.th s.m s.aa empty).length<=1000) (.ab (now.length<=1000) (.ite (!decide (nh s.th s.m s.aa empty=now)) (.ret [] (.s (.aK false))) (.ab ((0:Int)<=i) (.ab (i<l.length) (.ab (bk (some [AV.ptr 0 0,.s (.str (xA (el l i)))])) (.ab (bk (some (tE s))) (.ab (Ds.bo s.th s.m s.fu) (.ab ((0:Int)<=s.aa/\s.aa<=65536) (.at (aBL l i s now kept (gtV s.th s.m s.aa (xA (el l i))) (gtB s.th s.m s.aa (xA (el l i))) (gtE s.th s.m s.aa (xA (el l i))) empty false 0))))))))))))))):=by kernel_rfl
theorem aBN(l:List (CL iv))(i:Int)(s:Sd)(now kept:List En)(v:ByteArray)(is:Bool)(e:Int)(want:ByteArray)(there:Bool)(k:Int):iW (run P aBH.sum f5 aBK (aBL l i s now kept v is e want there k) (inl:=[48]))=
 Tree.ite (decide (k<now.length)) (.ab ((0:Int)<=k) (.ab (k<now.length) (.ab ((0:Int)<=i) (.ab (i<l.length) (.ite (decide ((now.getD k.toNat (CL.d cE)).fst=xA (el l i))) (.ab ((0:Int)<=k) (.ab (k<now.length) (.ab (aB (k+1)) (.at (aBL l i s now kept v is e (now.getD k.toNat (CL.d cE)).snd.fst true (k+1)))))) (.ab (aB (k+1)) (.at (aBL l i s now kept v is e want there (k+1))))))))) (.ite (e==0) (.ite (!decide (v=want)) (.ret [] (.s (.aK false))) (.ite (!is==there) (.ret [] (.s (.aK false))) (.ab (aB (i+1)) (.at (cSm l (i+1) s now kept))))) (.ab (aB (i+1)) (.at (cSm l (i+1) s now kept)))):=by kernel_rfl
theorem aBR(s:Sd)(now kept:List En):iW (run P aBH.sum f5 aBK (aBP s now kept) (inl:=[48]))=
 Tree.ab (bk (some [AV.ptr 0 0])) (.ab (bk (some (Ds.hD s.th s.m s.fu))) (.ab (Ds.bo s.th s.m s.fu) (.ite (Ds.zJ s.fu !=0) (.ret [] (.s (.aK false))) (.ab (bk (some [AV.ptr 0 0])) (.ab (bk (some (Ds.hD (Ds.lS s.th s.m s.fu) (Ds.oe s.m s.fu) (Ds.dD s.fu)))) (.ab (Ds.bo (Ds.lS s.th s.m s.fu) (Ds.oe s.m s.fu) (Ds.dD s.fu)) (.ab ((3:Int)<=Ds.eH (Ds.lS s.th s.m s.fu)) (.ab ((dH (Ds.lS s.th s.m s.fu) (Ds.oe s.m s.fu)).snd.fst=true) (.ab (m9 (Ds.lS s.th s.m s.fu) (Ds.oe s.m s.fu) (dH (Ds.lS s.th s.m s.fu) (Ds.oe s.m s.fu)).snd.snd.snd) (.ite true (.ab (bk (some [AV.ptr 0 0,.s (.ro (.au cE kept))])) (.ab (bk (some (jT (Ds.lS s.th s.m s.fu) (Ds.oe s.m s.fu) (Ds.dD s.fu) (dH (Ds.lS s.th s.m s.fu) (Ds.oe s.m s.fu)).fst true (dH (Ds.lS s.th s.m s.fu) (Ds.oe s.m s.fu)).snd.snd.fst (dH (Ds.lS s.th s.m s.fu) (Ds.oe s.m s.fu)).snd.snd.snd (dS (Ds.lS s.th s.m s.fu) (Ds.oe s.m s.fu) (dH (Ds.lS s.th s.m s.fu) (Ds.oe s.m s.fu)).snd.snd.snd) (dH (Ds.lS s.th s.m s.fu) (Ds.oe s.m s.fu)).snd.snd.snd (nT (Ds.lS s.th s.m s.fu) (dS (Ds.lS s.th s.m s.fu) (Ds.oe s.m s.fu) (dH (Ds.lS s.th s.m s.fu) (Ds.oe s.m s.fu)).snd.snd.snd)) Bx.aH Bx.aH))) (.ab (Ds.bo (Ds.lS s.th s.m s.fu) (Ds.oe s.m s.fu) (Ds.dD s.fu)) (.ab ((0:Int)<=(dH (Ds.lS s.th s.m s.fu) (Ds.oe s.m s.fu)).snd.snd.snd/\(dH (Ds.lS s.th s.m s.fu) (Ds.oe s.m s.fu)).snd.snd.snd<=65536) (.ab (wj (Ds.lS s.th s.m s.fu) (Ds.oe s.m s.fu) (dH (Ds.lS s.th s.m s.fu) (Ds.oe s.m s.fu)).snd.snd.snd empty=0) (.ab ((nh (Ds.lS s.th s.m s.fu) (Ds.oe s.m s.fu) (dH (Ds.lS s.th s.m s.fu) (Ds.oe s.m s.fu)).snd.snd.snd empty).length<=1000) (.ab (kept.length<=1000) (.ite (decide (nh (Ds.lS s.th s.m s.fu) (Ds.oe s.m s.fu) (dH (Ds.lS s.th s.m s.fu) (Ds.oe s.m s.fu)).snd.snd.snd empty=kept)) (.ab (bk (some [AV.ptr 0 0])) (.ab (bk (some (jT (Ds.lS s.th s.m s.fu) (Ds.oe s.m s.fu) (Ds.dD s.fu) (dH (Ds.lS s.th s.m s.fu) (Ds.oe s.m s.fu)).fst true (dH (Ds.lS s.th s.m s.fu) (Ds.oe s.m s.fu)).snd.snd.fst (dH (Ds.lS s.th s.m s.fu) (Ds.oe s.m s.fu)).snd.snd.snd (dS (Ds.lS s.th s.m s.fu) (Ds.oe s.m s.fu) (dH (Ds.lS s.th s.m s.fu) (Ds.oe s.m s.fu)).snd.snd.snd) (dH (Ds.lS s.th s.m s.fu) (Ds.oe s.m s.fu)).snd.snd.snd (nT (Ds.lS s.th s.m s.fu) (dS (Ds.lS s.th s.m s.fu) (Ds.oe s.m s.fu) (dH (Ds.lS s.th s.m s.fu) (Ds.oe s.m s.fu)).snd.snd.snd)) Bx.aH Bx.aH))) (.ab (bk (some [AV.ptr 0 0])) (.ab (bk (some (jT (Ds.lS s.th s.m s.fu) (Ds.oe s.m s.fu) (Ds.dD s.fu) s.wh true s.ep s.pg s.br s.aa s.fr s.fs s.gn))) (.ret [] (.s (.bool ((dH (Ds.lS s.th s.m s.fu) (Ds.oe s.m s.fu)).snd.snd.fst==s.ep)))))))) (.ret [] (.s (.aK false))))))))))) (.ret [] (.s (.aK false))))))))))))):=by kernel_rfl
theorem nt0{b:Bool}(h:(!b)=false):b=true:=by cases b<;>simp_all
theorem apj{l r:List En}{key val:ByteArray}(e:r=bO l key val):sPu.dO (l,key,val)=[.vec (.au cE r) Lf.eE]/\sPu.out (l,key,val)=.vec 0:=by subst e;exact⟨rfl,rfl⟩
theorem aze{l r:List En}{key:ByteArray}(e:r=cG l key):sDe.dO (l,key)=[.vec (.au cE r) Lf.eE]/\sDe.out (l,key)=.vec 0:=by subst e;exact⟨rfl,rfl⟩
theorem aww{Z:bm}:fM P Z 94 sPu:=by
 refine fS func94 ?_;rintro⟨l,key,val⟩ ⟨(hl:l.length<=1000),_⟩ X hX hz;have gA:∀x∈asp,(sPu.heap (l,key,val)).length<=x.2.m:=by intro y hy;simp only[asp,mem_singleton]at hy;subst hy;exact le_refl _
 have tk:∀k:Nat,([]:List En)++List.drop (Int.toNat 0) (List.take (k:Int).toNat l)=l.take k:=λk=>by rw[nil_append,toNat_natCast];rfl
 have dr:∀k:Nat,List.drop (k:Int).toNat (List.take (l.length:Int).toNat l)=l.drop k:=λk=>by rw[toNat_natCast,toNat_natCast,List.take_length]
 have dr1:∀k:Nat,List.drop ((k:Int)+1).toNat (List.take (l.length:Int).toNat l)=l.drop (k+1):=λk=>dr (k+1)
 have loop:∀(j k:Nat),k+j=l.length->l.take k++bO (l.drop k) key val=bO l key val->Safe P 94 X (dP sPu (l,key,val)) (cPu l key val (k:Int)):=by
  intro j
  induction j with
  |zero=>
   intro k hk he;have hk':k=l.length:=by omega
   rw[List.drop_of_length_le (by omega)]at he;have e0:bO [] key val=[(key,val,())]:=rfl;refine Ds.cH hz hX gA aM.Ok.nil func94 (ayX l key val k) ⟨λh=>absurd (of_decide_eq_true h) (by omega),λ_=> ?_⟩;have ln:(l.take k).length=k:=by rw[length_take];omega
   have lt:List.drop (Int.toNat 0) (List.take (k:Int).toNat l)=l.take k:=by rw[toNat_natCast];rfl
   have l0:l.drop k=[]:=List.drop_of_length_le (by omega);rw[tk,dr,lt];refine⟨by omega,by omega,by omega,by rw[ln];omega,by rw[ln];omega,λh=>absurd (of_decide_eq_true h) (by omega),λ_=>⟨by omega,by omega,by omega, ?_, ?_⟩⟩;rw[length_append,ln,l0,length_nil,List.length_singleton];omega;have⟨f1,f2⟩:=apj (l:=l) (key:=key) (val:=val) (r:=l.take k++[(key,val,())]++l.drop k) (by rw[<-he,l0,append_nil];rfl);exact bE 0 (by kernel_rfl) (le_refl _) f2 f1
  |succ j ih=>
   intro k hk he;have d:l.drop k=l.getD k dE::l.drop (k+1):=drop_cons dE (by omega);have ln:(l.take k).length=k:=by rw[length_take];omega
   have lt:List.drop (Int.toNat 0) (List.take (k:Int).toNat l)=l.take k:=by rw[toNat_natCast];rfl
   have ld:(l.drop k).length=l.length - k:=length_drop;have ld1:(l.drop (k+1)).length=l.length - (k+1):=length_drop;refine Ds.cH hz hX gA aM.Ok.nil func94 (ayX l key val k) ⟨λ_=>⟨by omega,by omega,λh1=>⟨⟨by omega,by omega⟩, ?_⟩,λh1=> ?_⟩,λh=>absurd (of_decide_eq_false h) (by omega)⟩;refine ih (k+1) (by omega) ?_;have h1:slt (l.getD k dE).1 key=true:=h1;rw[d,wQ h1]at he;rw[<-he,<-ij (d:=dE) (by omega),append_assoc];rfl;have h1:slt (l.getD k dE).1 key=false:=h1;rw[d,wR h1]at he;rw[tk,dr,dr1,lt];refine⟨by omega,by omega,by omega,by rw[ln];omega,by rw[ln];omega,λ_=>⟨by omega,by omega,λh2=>⟨⟨by omega,by omega⟩,by omega,by omega,by omega, ?_, ?_⟩,λh2=>⟨by omega,by omega,by omega, ?_, ?_⟩⟩,λh=>absurd (of_decide_eq_false h) (by omega)⟩;rw[length_append,ln,ld1,List.length_singleton];omega;have h2:(l.getD k dE).1=key:=of_decide_eq_true h2;rw[if_pos h2]at he;have⟨f1,f2⟩:=apj (l:=l) (key:=key) (val:=val) (r:=l.take k++[(key,val,())]++l.drop (k+1)) (by rw[<-he,append_assoc];rfl);exact bE 0 (by kernel_rfl) (le_refl _) f2 f1;rw[length_append,ln,ld,List.length_singleton];omega;have h2:¬(l.getD k dE).1=key:=of_decide_eq_false h2;rw[if_neg h2,<-d]at he;have⟨f1,f2⟩:=apj (l:=l) (key:=key) (val:=val) (r:=l.take k++[(key,val,())]++l.drop k) (by rw[<-he,append_assoc];rfl);exact bE 0 (by kernel_rfl) (le_refl _) f2 f1
 exact Ds.cH hz hX gA aM.Ok.nil func94 (aAV l key val) (loop l.length 0 (by omega) rfl)
theorem awx{Z:bm}:fM P Z 95 sDe:=by
 refine fS func95 ?_;rintro⟨l,key⟩ ⟨(hl:l.length<=1000),_⟩ X hX hz;have gA:∀x∈asq,(sDe.heap (l,key)).length<=x.2.m:=by intro y hy;simp only[asq,mem_singleton]at hy;subst hy;exact le_refl _
 have loop:∀(j k:Nat) (out:List En),k+j=l.length->out.length<=k->out++cG (l.drop k) key=cG l key->Safe P 95 X (dP sDe (l,key)) (cDe l out key (k:Int)):=by
  intro j
  induction j with
  |zero=>
   intro k out hk ho he;rw[List.drop_of_length_le (by omega)]at he;refine Ds.cH hz hX gA aM.Ok.nil func95 (ayY l out key k) ⟨λh=>absurd (of_decide_eq_true h) (by omega),λ_=> ?_⟩;have⟨f1,f2⟩:=aze ((append_nil out).symm.trans he);exact bE 0 (by kernel_rfl) (le_refl _) f2 f1
  |succ j ih=>
   intro k out hk ho he;have d:l.drop k=l.getD k dE::l.drop (k+1):=drop_cons dE (by omega);rw[d,uI]at he;have next:∀(apk:List En),apk.length<=k+1->apk++cG (l.drop (k+1)) key=cG l key->Safe P 95 X (dP sDe (l,key)) (cDe l apk key ((k:Int)+1)):=λapk a e=>ih (k+1) apk (by omega) a e
   refine Ds.cH hz hX gA aM.Ok.nil func95 (ayY l out key k) ⟨λ_=>⟨by omega,by omega,λh3=>⟨by omega,by omega,by omega,⟨by omega,by omega⟩, ?_⟩,λh3=>⟨⟨by omega,by omega⟩, ?_⟩⟩,λh=>absurd (of_decide_eq_false h) (by omega)⟩;have hk3:¬(l.getD k dE).1=key:=of_decide_eq_false (nf0 h3);rw[if_pos (by rw[show zQ key (l.getD k dE)=false from decide_eq_false hk3];rfl)]at he;refine next _ ?_ ?_
   simp only[length_append,length_cons,length_nil];omega;simp only[append_assoc];exact he;have hk3:(l.getD k dE).1=key:=of_decide_eq_true (nt0 h3);rw[if_neg (by rw[show zQ key (l.getD k dE)=true from decide_eq_true hk3];decide)]at he;exact next _ (by omega) he
 exact Ds.cH hz hX gA aM.Ok.nil func95 (aAW l key) (loop l.length 0 [] (by omega) (le_refl _) rfl)
theorem awy{Z:bm}:fM P Z 46 sL8:=by
 refine sN func46 (by kernel_rfl) (λx=>le_of_ble_eq_true (by kernel_rfl)) ?_;rintro(l:List (CL iv)) ⟨(hl:l.length<=9223372036854775807),_⟩ X hX hz;have gA:∀x∈asr,(sL8.heap l).length<=x.2.m:=by intro y hy;simp only[asr,mem_singleton]at hy;subst hy;exact le_refl _
 have yes:akm sL8 l [] (.s (.aK true)):=⟨⟨[],[0],0,[]⟩,.s (.bool true),le_refl _,by kernel_rfl,λρ H O w v hv=>by
  have:=ay (by simp) hv;cases this;exact aF (.lN _ _ _ (λh=>by cases h))⟩
 have no:l.length<=120->akm sL8 l [] (.s (.aK false)):=λh=>⟨⟨[],[0],0,[]⟩,.s (.bool false),le_refl _,by kernel_rfl,λρ H O w v hv=>by
  have:=ay (by simp) hv;cases this;exact aF (.lN _ _ _ (λ_=>by omega))⟩
 have loop:l.length<=120->∀(j k:Nat),k+j=l.length->Safe P 46 X (akm sL8 l) (cL8 l (k:Int)):=by
  intro aBa j
  induction j with
  |zero=>
   intro k hk;exact Ds.cH hz hX gA aM.Ok.nil func46 (ayZ l k) ⟨λh=>absurd (of_decide_eq_true h) (by omega),λ_=>no aBa⟩
  |succ j ih=>
   intro k hk;exact Ds.cH hz hX gA aM.Ok.nil func46 (ayZ l k) ⟨λ_=>⟨by omega,by omega,λ_=>yes,λ_=>⟨by omega,by omega,λ_=>yes,λ_=>⟨by omega,by omega,λ_=>yes,λ_=>⟨⟨by omega,by omega⟩,ih (k+1) (by omega)⟩⟩⟩⟩,λh=>absurd (of_decide_eq_false h) (by omega)⟩
 exact Ds.cH hz hX gA aM.Ok.nil func46 (aAX l) ⟨λ_=>yes,λh=>loop (by have:=of_decide_eq_false h;omega) l.length 0 (by omega)⟩
theorem awz{a b:En}(h1:a.1=b.1)(h2:a.2.1=b.2.1):a=b:=Prod.ext h1 (Prod.ext h2 rfl)
theorem asC:fM P Bx.bQ 50 ahj:=by
 refine fS func50 ?_;rintro⟨⟨th,m,fu,wh,ep,pg,br,aa,fr,fs,gn⟩,w⟩ ⟨(hd:Ds.bo th m fu),(hr:0<=aa/\aa<=65536),(h0:wj th m aa empty=0),(hg:(nh th m aa empty).length<=1000),(hw:w.length<=1000),_⟩ X hX hz;have gA:∀x∈ajp,(5:Nat)<=x.2.m:=by intro y hy;simp only[ajp,mem_singleton]at hy;subst hy;exact le_refl _
 have T:ahk.Ok P Bx.bQ:=aM.Ok.cons (aoY.sum mSK) aM.Ok.nil;generalize hs:((⟨th,m,fu,wh,ep,pg,br,aa,fr,fs,gn⟩:Sd),w)=x;have hX:X.H=lk (jT th m fu wh true ep pg br aa fr fs gn):=by subst hs;exact hX
 have fin:∀b:Bool,decide (nh th m aa empty=w)=b->ahj.dO x=jT th m fu wh true ep pg br aa fr fs gn/\ahj.out x=.s (.bool b):=λb h=>by
  subst hs h;exact⟨rfl,rfl⟩
 have aBb:∀b:Bool,decide (nh th m aa empty=w)=b->ahj.dO x=jT th m fu wh true ep pg br aa fr fs gn/\ahj.out x=.s (.bool b):=fin
 have loop:(nh th m aa empty).length=w.length->∀(j k:Nat),k+j=w.length->(nh th m aa empty).take k=w.take k->Safe P 50 X (dP ahj x) (ass th m fu wh ep pg br aa fr fs gn w (nh th m aa empty) (k:Int)):=by
  generalize nh th m aa empty=zu at hg fin;intro bC j
  induction j with
  |zero=>
   intro k hk he;rw[take_of_length_le (by omega),take_of_length_le (by omega)]at he;have⟨f1,f2⟩:=fin true (decide_eq_true he);refine Ds.cH hz hX gA T func50 (atI th m fu wh ep pg br aa fr fs gn w zu k) ⟨λh=>absurd (of_decide_eq_true h) (by omega),λ_=> ?_⟩;exact bE 5 (by kernel_rfl) (le_refl _) f2 f1
  |succ j ih=>
   intro k hk he;have e1:zu.getD k dE=zu[k]:=bc (by omega);have e2:w.getD k dE=w[k]:=bc (by omega);refine Ds.cH hz hX gA T func50 (atI th m fu wh ep pg br aa fr fs gn w zu k) ⟨λ_=>⟨by omega,by omega,by omega,by omega,λh=> ?_,λh=>⟨⟨by omega,by omega⟩,ih (k+1) (by omega) ?_⟩⟩,λh=>absurd (of_decide_eq_false h) (by omega)⟩
   have ne:¬zu=w:=λe=>by
    subst e;have h:=nf0 h;rw[decide_eq_true rfl,decide_eq_true rfl]at h;cases h
   have⟨f1,f2⟩:=fin false (decide_eq_false ne);exact bE 5 (by kernel_rfl) (le_refl _) f2 f1
   have h:(decide ((zu.getD k dE).1=(w.getD k dE).1)&&(decide ((zu.getD k dE).2.1=(w.getD k dE).2.1)&&true))=true:=by
    cases hb:(decide ((zu.getD k dE).1=(w.getD k dE).1)&&(decide ((zu.getD k dE).2.1=(w.getD k dE).2.1)&&true))with
    |true=>rfl|false=>
     have h:(!(decide ((zu.getD k dE).1=(w.getD k dE).1)&&(decide ((zu.getD k dE).2.1=(w.getD k dE).2.1)&&true)))=false:=h;rw[hb]at h;cases h
   simp only[Bool.and_true,and_eq_true,decide_eq_true_eq]at h;have e:=awz h.1 h.2;rw[<-ij (d:=dE) (by omega),<-ij (l:=w) (d:=dE) (by omega),he,e]
 subst hs;refine Ds.cH hz hX gA T func50 (ay0 th m fu wh ep pg br aa fr fs gn w) ⟨rfl,rfl,hd,hr,λh=> ?_,λ_=>⟨λh=> ?_,λh=> ?_⟩⟩;rw[h0]at h;cases h
 have ne:¬nh th m aa empty=w:=λe=>by
  exact(bne_iff_ne.1 h) (by rw[e])
 have⟨f1,f2⟩:=aBb false (decide_eq_false ne);exact bE 5 (by kernel_rfl) (le_refl _) f2 f1;have h:¬((nh th m aa empty).length:Int)≠(w.length:Int):=λx=>Bool.false_ne_true (h.symm.trans (bne_iff_ne.2 x));exact loop (by omega) w.length 0 (by omega) rfl
theorem azf{n:Int}{a:Th×As×Int×Int}(e:a=tK n){k:Mk}(hk:k=(0,true,1,0)):
 sBg.dO n=[Ds.jl 2 3 a.2.2.1,fv 0 k.1 true k.2.2.1 k.2.2.2 (dS a.1 a.2.1 k.2.2.2) (.ptr 4 0),.vec (.au Ds.cS a.1) Ds.eS,.map Ds.kS a.2.1,fL 0 k.2.2.2 (nT a.1 (dS a.1 a.2.1 k.2.2.2)) Bx.aH Bx.aH]:=by
 subst e hk;rfl
theorem afx:fM P Bx.bQ 47 sBg:=by
 refine fS func47 ?_;rintro(n:Int) ⟨(hn:3<=n/\n<=1000),_⟩ X hX hz;have⟨a,b,c,d,e,f⟩:=ao5 (n:=n) (by omega);have R:m9 (tK n).1 (tK n).2.1 0:=((atH (n:=n) (by omega)).aa (by decide)).1;have mk:=f.dH;have out:=azf (n:=n) rfl mk;have rh:Ds.bo (th0 (4*n)) [] (-1):=Ds.amB (by omega);have k1:(dH (tK n).1 (tK n).2.1).2.1=true:=by rw[mk]
 have k2:m9 (tK n).1 (tK n).2.1 (dH (tK n).1 (tK n).2.1).2.2.2:=by rw[mk];exact R
 have gA:∀x∈awo,0<=x.2.m:=λx _=>zero_le _;have T:ao6.Ok P Bx.bQ:=aM.Ok.cons (ak1.sum mFo) (aM.Ok.cons (zh.sum Ds.sO) aM.Ok.nil);refine Ds.cH hz hX gA T func47 (aAY n) ⟨⟨by omega,by omega⟩,λh=>absurd (of_decide_eq_true h) (by omega),λ_=>⟨λh=>absurd (of_decide_eq_true h) (by omega),λ_=>⟨by omega,Int.le_refl _,by omega,rfl,rfl,rh,rfl,λh=>absurd a (bne_iff_ne.1 h),λ_=> ?_⟩⟩⟩;have n3:3<=Ds.eH (tK n).1:=by rw[e];exact hn.1
 show Safe P 47 X _ (cBg (tK n).1 (tK n).2.1 (tK n).2.2.1);exact Ds.cH hz hX gA T func47 (aAZ (tK n).1 (tK n).2.1 (tK n).2.2.1) ⟨rfl,rfl,d,n3,k1,k2,λh=>(by cases h),λ_=>bE 0 (by kernel_rfl) (le_refl _) rfl out⟩
abbrev tS8:Ty:=.b (.row (.au iv) 75)
abbrev apl(ts:List Ty):AL ts->List Prop:=λx=>[AL.wf ts x]
theorem apm(hA:dG P Bx.bQ 45 [] [dh] (λ_=>[]) (λ_=>(true,()))):ajq.Ok P Bx.bQ:=
 aM.Ok.cons (awy.sum mL8) (aM.Ok.cons hA.sum (aM.Ok.cons (afo.sum mSt) (aM.Ok.cons (abb.sum mSt) (aM.Ok.cons (ajn.sum ayR) (aM.Ok.cons (aso.sum ayS) (aM.Ok.cons (ajf.sum mSK) (aM.Ok.cons (zm.sum mSs) (aM.Ok.cons (afq.sum mSs) (aM.Ok.cons (zh.sum Ds.sO) (aM.Ok.cons (aww.sum mPu) (aM.Ok.cons (awx.sum mDe) (aM.Ok.cons (aaI (asC.sum ayV) 1 (.au cE [])) (aM.Ok.cons (afx.sum mBg) aM.Ok.nil)))))))))))))
structure Gc (s:Sd) (E K:List En) (n:Nat) (N:Int):Prop where
 ep:s.ep<=(n:Int)+1
 pn:Ds.eH s.th=N
 i:∃h ps po h0 jC j9,SI s E K n h ps po h0 jC j9
structure Gd (s:Sd) (E K:List En) (n:Nat) (N:Int):Prop extends Gc s E K n N where
 fu:s.fu= -1
theorem afw{fr:Ws}(hw:Bx.okW fr){N:Int}(hN:2<=N)(h:∀p,In fr p->2<=p/\p<N):(iu fr:Int)<=N - 2:=by
 have l:((List.range (N - 2).toNat).map λk:Nat=>(k:Int)+2).length=(N - 2).toNat:=by simp
 have:=wT hw (N:=(List.range (N - 2).toNat).map λk:Nat=>(k:Int)+2) λp hp=>by
  have:=h p hp;exact mem_map.2 ⟨(p - 2).toNat,mem_range.2 (by omega),by omega⟩
 omega
theorem api{fr:Ws}(hw:Bx.okW fr){N:Int}(hN:2<=N)(h:∀p,In fr p↔2<=p/\p<N):(iu fr:Int)=N - 2:=by
 have l:((List.range (N - 2).toNat).map λk:Nat=>(k:Int)+2).length=(N - 2).toNat:=by simp
 have a:=afw hw hN λp hp=>(h p).1 hp
 have b:=ar9 hw (N:=(List.range (N - 2).toNat).map λk:Nat=>(k:Int)+2) (by
  unfold List.Nodup;rw[List.pairwise_map]
  exact List.nodup_range.imp λh e=>h (by omega)) λp hp=>by
   obtain⟨k,hk,rfl⟩:=mem_map.1 hp;have:=mem_range.1 hk;exact(h _).2 (by omega)
 omega
theorem Gd.start{n:Int}(h:3<=n/\n<=1024):Gd (oa n) [] [] 0 n:=by
 have⟨a,b,c,d,e,f⟩:=ao5 h;exact⟨⟨by show(1:Int)<=_;omega,e,_,_,_,_,_,_,atH h⟩,b⟩
section
variable{s:Sd}{E K:List En}{n:Nat}{N:Int}
structure Fx (s:Sd) (E:List En) (n:Nat):Prop where
 d:Ds.bo s.th s.m s.fu
 fr:Bx.okW s.fr
 r:0<=s.aa/\s.aa<=65536
 w:s.wh=0\/s.wh=1
 e0:0<=s.ep
 l0:wj s.th s.m s.aa empty=0
 l:nh s.th s.m s.aa empty=E
 p0:y9 s.th s.m s.aa=0
 fw:Bx.okW (iV s.th s.m s.br s.aa)
 ff:iV s.th s.m s.br s.aa=s.fr
 R:m9 s.th s.m s.pg
 Rw:dS s.th s.m s.pg=s.br
 mk':dH s.th s.m=(s.wh,true,s.ep,s.pg)
 n3:3<=Ds.eH s.th
 len:E.length<=n
theorem Gc.fx(G:Gc s E K n N)(hn:n<=1000):Fx s E n:=by
 have⟨h,ps,po,h0,jC,j9,S⟩:=G.i;have⟨a,b⟩:=S.list hn;have⟨c,d,e⟩:=S.free hn;have⟨f,g⟩:=S.aa hn;have r:=S.rt;exact⟨S.t.ok.d,S.t.ok.fr,⟨r.1,by omega⟩,S.mr.k,S.e0,a,b,c,d,e,f,g,S.mr.dH,S.mr.n,S.b.2.2.1⟩
theorem Gc.aA6(G:Gc s E K n N):K.length<=n:=by
 have⟨h,ps,po,h0,jC,j9,S⟩:=G.i;exact S.b.2.2.2
theorem Gc.acL(G:Gc s E K n N):(∀e∈E,okK e)/\Ts.acL E:=by
 have⟨h,ps,po,h0,jC,j9,S⟩:=G.i;exact S.t.holds.acL
theorem Gc.more(G:Gc s E K n N){n':Nat}(h:n<=n'):Gc s E K n' N:=by
 have⟨_,_,_,_,_,_,S⟩:=G.i;exact⟨by have:=G.ep;omega,G.pn,_,_,_,_,_,_,S.more h⟩
theorem Gc.op(G:Gc s E K n N)(hn:n<=1000)(key:ByteArray)(op:Option ByteArray):Gc (cK s key op) (if jc s key op=0 then lV key op E else E) K (n+1) N/\(s.fu= -1->(cK s key op).fu= -1):=by
 have⟨_,_,_,_,_,_,S⟩:=G.i;have⟨f,r⟩:=S.op hn key op;refine⟨⟨by have:=G.ep;show s.ep<=_;omega,G.pn, ?_⟩,f⟩;rcases r with⟨a,h',ps',po',b⟩|⟨a,b⟩;rw[if_pos a];exact⟨_,_,_,_,_,_,b⟩;rw[if_neg a];exact⟨_,_,_,_,_,_,b⟩
theorem Gc.back(G:Gc s E K n N)(hn:n<=1000):Gc (lW s s.wh s.ep s.pg) K K n N:=by
 have⟨_,_,_,_,_,_,S⟩:=G.i;exact⟨G.ep,G.pn,_,_,_,_,_,_,S.back hn⟩
theorem Gd.more(G:Gd s E K n N){n':Nat}(h:n<=n'):Gd s E K n' N:=⟨G.toGc.more h,G.fu⟩
theorem Gd.op(G:Gd s E K n N)(hn:n<=1000)(key:ByteArray)(op:Option ByteArray):Gd (cK s key op) (if jc s key op=0 then lV key op E else E) K (n+1) N:=⟨(G.toGc.op hn key op).1,(G.toGc.op hn key op).2 G.fu⟩
theorem Gd.back(G:Gd s E K n N)(hn:n<=1000):Gd (lW s s.wh s.ep s.pg) K K n N:=⟨G.toGc.back hn,G.fu⟩
theorem Gd.u6(G:Gd s E K n N)(hn:n<=1000):coE s=0/\(lH s).pg=(lH s).aa/\Gd (lH s) E E (n+1) N:=by
 have⟨h,ps,po,h0,jC,j9,S⟩:=G.i;have he:s.ep<1099511627776:=by have:=G.ep;omega
 have ok:Ds.v7 (s.ep+1) s.aa:=by
  have:=S.e0;have:=S.rt;exact⟨by omega,by omega,by omega,by omega⟩
 rcases ajm (s:=(s.th,s.m,s.fu)) (k:=1 - s.wh) S.t.ok.d S.key ok with⟨e,C⟩|⟨_,C⟩;have e:(coX s).2=0:=e;have c1:lH s=lW (coT s) (1 - s.wh) (s.ep+1) s.aa:=if_pos e;have I:=S.u6 hn he C (t:=coT s) rfl rfl rfl;rw[c1];refine⟨e,rfl,⟨by have:=G.ep;show s.ep+1<=_;omega,(gQ C.len).trans G.pn,_,_,_,_,_,_,I.more (Nat.le_succ n)⟩,C.fu G.fu⟩;exact absurd G.fu C.fz
theorem Gd.free(G:Gd s E K n N)(hn:n<=1000):0<=Bx.lC (iV s.th s.m s.br s.aa)/\Bx.lC (iV s.th s.m s.br s.aa)<=N - 2:=by
 have F:=G.fx hn;have⟨h,ps,po,h0,jC,j9,S⟩:=G.i;rw[F.ff,acK F.fr];have n3:=F.n3;rw[G.pn]at n3;refine⟨by omega,afw F.fr (by omega) λp hp=> ?_⟩;have:=((pH S.w).1 ((S.t.inv.cov p).2 (.inl hp))).1;rw[G.pn]at this;omega
theorem Gd.bare(G:Gd s [] [] n N)(hn:n<=1000):Bx.lC (iV s.th s.m s.br s.aa)=N - 2:=by
 have F:=G.fx hn;have⟨h,ps,po,h0,jC,j9,S⟩:=G.i;rw[F.ff,acK F.fr];have n3:=F.n3;rw[G.pn]at n3;have e0:=S.k.zero.2 rfl;have e1:=S.t.holds.zero.2 rfl;subst e0 e1;have lim:=ase F.d;rw[G.pn]at lim;refine api F.fr (by omega) λp=> ?_;have f:=pH (th:=s.th) S.w (p:=p);rw[G.pn]at f;constructor;intro hp;have:=(f.1 ((S.t.inv.cov p).2 (.inl hp))).1;omega;intro hp;have:Fr s p:=f.2 ⟨by omega,λx=>by have:=(S.wi p).1 x;cases this⟩;exact((S.t.inv.cov p).1 this).resolve_right λx=>by have:=S.t.inv.sub p x;cases this
end
def flS(s:Sd):Sd:=⟨Ds.lS s.th s.m s.fu,Ds.oe s.m s.fu,Ds.dD s.fu,s.wh,s.ep,s.pg,s.br,s.aa,s.fr,s.fs,s.gn⟩
theorem Gd.flush{s:Sd}{E K:List En}{n:Nat}{N:Int}(G:Gd s E K n N)(hn:n<=1000):Gd (lW (flS s) s.wh s.ep s.pg) K K n N:=by
 have⟨h,ps,po,h0,jC,j9,S⟩:=G.i;have⟨b1,b2,b3,b4⟩:=S.b;have hl:=ajk s.th s.m s.fu;have f0:s.fu≠0:=by rw[G.fu];decide
 refine⟨⟨G.ep,(gQ hl).trans G.pn,_,_,_,_,_,_,SI.make (s:=flS s) (S.mr.same hl Ds.asX Ds.asX) (Ds.asW S.t.ok.d) (S.k.alike λp hp=>qi hl λx hx=>Ds.asX) S.nd (λp hp=> ?_) (if_neg f0) b2 b4 hn S.e0⟩,nJ G.fu⟩;show 2<=p/\p<Ds.eH (Ds.lS s.th s.m s.fu);rw[gQ hl];exact S.rg0 p hp
theorem Gd.get{s:Sd}{E K:List En}{n:Nat}{N:Int}(G:Gd s E K n N)(hn:n<=1000)(key:ByteArray):gtE s.th s.m s.aa key=0->gtV s.th s.m s.aa key=pA E key/\gtB s.th s.m s.aa key=nE E key:=by
 have⟨h,ps,po,h0,jC,j9,S⟩:=G.i;have e:=ar8 (key:=key) S.t.holds (by have:=(S.small hn).1;omega);intro h;unfold gtE at h;unfold gtV gtB;rw[e]at h ⊢;split at h;cases h;rename_i x;rw[if_neg x];exact⟨rfl,rfl⟩
theorem aBM{l:List En}{x:En}{key:ByteArray}(h:∀y∈l,slt y.1 x.1=true):pA (l++[x]) key=(if x.1=key then x.2.1 else pA l key)/\nE (l++[x]) key=(if x.1=key then true else nE l key):=by
 unfold pA nE;rw[List.find?_append];by_cases e:x.1=key
 have n:l.find? (zQ key)=none:=afg λy hy ey=>by
  have:=h y hy;rw[ey,<-e,ew]at this;cases this
 have s:[x].find? (zQ key)=some x:=by simp[zQ,e]
 rw[n,s,if_pos e,if_pos e];exact⟨rfl,rfl⟩;have s:[x].find? (zQ key)=none:=by simp[zQ,e]
 rw[s,if_neg e,if_neg e];cases l.find? (zQ key)<;>exact⟨rfl,rfl⟩
section
variable{X:Ctx}(hX:∀id,X.H id=none)(hz:eb Bx.bQ X)(hT:aBH.Ok P Bx.bQ)
include hX hz hT
theorem aBO{l:List (CL iv)}{s:Sd}{now kept:List En}{n i:Nat}(hi:i<l.length)(hl:l.length<=120){N:Int}(hn:n<=500)(G:Gd s now kept n N)
 (next:Safe P 5 X K8 (cSm l ((i:Int)+1) s now kept)):
 ∀(j k:Nat),k+j=now.length->∀{want:ByteArray} {there:Bool},want=pA (now.take k) (xA (el l i))->there=nE (now.take k) (xA (el l i))->
 Safe P 5 X K8 (aBL l (i:Int) s now kept (gtV s.th s.m s.aa (xA (el l i))) (gtB s.th s.m s.aa (xA (el l i))) (gtE s.th s.m s.aa (xA (el l i))) want there (k:Int))
 |0,k,hk,want,there,hw,ht=>by
  rw[take_of_length_le (by omega)]at hw ht;have hI:aB ((i:Int)+1):=rD (by omega) (by omega);have g:=G.get (by omega) (xA (el l i));refine goB hz hX hT func5 (aBN l i s now kept _ _ _ want there k) ⟨λh=>absurd (of_decide_eq_true h) (by omega),λ_=>⟨λh=> ?_,λ_=>⟨hI,next⟩⟩⟩;have⟨g1,g2⟩:=g (beq_iff_eq.1 h);refine⟨λh=> ?_,λ_=>⟨λh=> ?_,λ_=>⟨hI,next⟩⟩⟩;exact absurd (g1.trans hw.symm) (of_decide_eq_false (nf0 h));rw[g2,ht]at h;have h:=nf0 h;simp at h
 |j+1,k,hk,want,there,hw,ht=>by
  have F:=G.fx (by omega);have bC:=F.len;have hr:=G.acL.2;have hI:aB ((k:Int)+1):=rD (by omega) (by omega);have e1:now.getD k dE=now[k]:=bc (by omega)
  have⟨f1,f2⟩:=aBM (l:=now.take k) (x:=now.getD k dE) (key:=xA (el l i)) λy hy=>by
   obtain⟨m,hm,rfl⟩:=List.mem_iff_getElem.1 hy;rw[length_take]at hm;rw[e1,List.getElem_take];exact List.pairwise_iff_getElem.1 hr m k (by omega) (by omega) (by omega)
  rw[ij (d:=dE) (by omega)]at f1 f2;refine goB hz hX hT func5 (aBN l i s now kept _ _ _ want there k) ⟨λ_=>⟨by omega,by omega,by omega,by omega,λh=>⟨by omega,by omega,hI,aBO hi hl hn G next j (k+1) (by omega) ?_ ?_⟩,λh=>⟨hI,aBO hi hl hn G next j (k+1) (by omega) ?_ ?_⟩⟩,λh=>absurd (of_decide_eq_false h) (by omega)⟩;have h:(now.getD k dE).1=xA (el l i):=of_decide_eq_true h;rw[f1,if_pos h];rfl;have h:(now.getD k dE).1=xA (el l i):=of_decide_eq_true h;rw[f2,if_pos h];have h:¬(now.getD k dE).1=xA (el l i):=of_decide_eq_false h;rw[f1,if_neg h];exact hw;have h:¬(now.getD k dE).1=xA (el l i):=of_decide_eq_false h;rw[f2,if_neg h];exact ht
theorem smD{l:List (CL iv)}(hl:l.length<=120){s:Sd}{now kept:List En}{n i:Nat}(hi:i<l.length){N e:Int}(hn:n<=500)(G:Gd s now kept n N)
 (next:Safe P 5 X K8 (cSm l ((i:Int)+1) s now kept)):Safe P 5 X K8 (cDm l (i:Int) e s now kept):=by
 have F:=G.fx (by omega);have bC:=F.len;refine goB hz hX hT func5 (aBT l i e s now kept) ⟨rfl,rfl,F.d,F.r,F.l0,by rw[F.l];omega,by omega,λh=> ?_,λ_=>⟨by omega,by omega,rfl,rfl,F.d,F.r,aBO hX hz hT hi hl hn G next now.length 0 (by omega) rfl rfl⟩⟩;rw[F.l]at h;exact absurd rfl (of_decide_eq_false (nf0 h))
theorem sm8{l:List (CL iv)}(hl:l.length<=120){N:Int}:∀(j k:Nat),k+j=l.length->∀{s:Sd} {now kept:List En},Gd s now kept k N->Safe P 5 X K8 (cSm l (k:Int) s now kept)
 |0,k,hk,s,now,kept,G=>by
  have F:=G.fx (by omega);have hK:=G.aA6;have F2:=(G.flush (by omega)).fx (by omega);have e0:Ds.zJ s.fu=0:=by rw[G.fu];rfl
  have mk:dH (Ds.lS s.th s.m s.fu) (Ds.oe s.m s.fu)=(s.wh,true,s.ep,s.pg):=F2.mk';refine goB hz hX hT func5 (aBQ l k s now kept) ⟨λh=>absurd (of_decide_eq_true h) (by omega),λ_=> ?_⟩;refine goB hz hX hT func5 (aBR s now kept) ?_;rw[mk];refine⟨rfl,rfl,F.d,λh=>absurd e0 (bne_iff_ne.1 h),λ_=>⟨rfl,rfl,F2.d,F2.n3,rfl,F2.R,λ_=>⟨rfl,rfl,F2.d,F2.r,F2.l0, ?_,by omega,λ_=>⟨rfl,rfl,rfl,rfl, ?_⟩,λh=> ?_⟩,λh=>(by cases h)⟩⟩;have e:=F2.l;have e:nh (Ds.lS s.th s.m s.fu) (Ds.oe s.m s.fu) s.pg empty=kept:=e;show(nh (Ds.lS s.th s.m s.fu) (Ds.oe s.m s.fu) s.pg empty).length<=1000;rw[e];omega;show K9 _ (.s (.bool (s.ep==s.ep)));rw[beq_self_eq_true];exact eb8;exact absurd F2.l (of_decide_eq_false h)
 |j+1,k,hk,s,now,kept,G=>by
  have F:=G.fx (by omega);have hK:=G.aA6;have hN:=F.len;have he:s.ep<1099511627776:=by have:=G.ep;omega
  have⟨c0,c1,G2⟩:=G.u6 (by omega);have F2:=G2.fx (by omega);have go:∀{s:Sd} {now kept:List En} {e:Int},Gd s now kept (k+1) N->Safe P 5 X K8 (cDm l (k:Int) e s now kept):=λG=>smD hX hz hT hl (by omega) (by omega) G (sm8 hl j (k+1) (by omega) G)
  have op:∀(o:Option ByteArray),jc s (xA (el l k)) o=0->Safe P 5 X K8 (cDm l (k:Int) (jc s (xA (el l k)) o) (cK s (xA (el l k)) o) (lV (xA (el l k)) o now) kept):=λo b=>by
   have g:=G.op (by omega) (xA (el l k)) o;rw[if_pos b]at g;exact go g
  have no:∀(o:Option ByteArray),¬jc s (xA (el l k)) o=0->Safe P 5 X K8 (cDm l (k:Int) (jc s (xA (el l k)) o) (cK s (xA (el l k)) o) now kept):=λo b=>by
   have g:=G.op (by omega) (xA (el l k)) o;rw[if_neg b]at g;exact go g
  refine goB hz hX hT func5 (aBQ l k s now kept) ⟨λ_=>⟨by omega,by omega,λk0=>⟨rfl,rfl,F.d,F.fr,F.r,λb=>⟨rfl,rfl,by omega, ?_⟩,λb=> ?_⟩,λk0=>⟨λk1=>⟨rfl,rfl,F.d,F.fr,F.r,λb=>⟨rfl,rfl,by omega, ?_⟩,λb=> ?_⟩,λk1=>⟨λk4=>⟨rfl,rfl,F.d,⟨F.e0,he⟩,F.w,F2.R,λ_=>⟨by omega, ?_⟩,λb=> ?_⟩,λk4=>⟨λk5=>⟨rfl,rfl,F.d,F.R,by omega, ?_⟩,λ_=> ?_⟩⟩⟩⟩,λh=>absurd (of_decide_eq_false h) (by omega)⟩;exact op (some (xV (el l k))) (beq_iff_eq.1 b);exact no (some (xV (el l k))) (beq_eq_false_iff_ne.1 b);exact op none (beq_iff_eq.1 b);exact no none (beq_eq_false_iff_ne.1 b);exact go (e:=coE s) G2;exact absurd c0 (beq_eq_false_iff_ne.1 b);exact go (s:=lW s s.wh s.ep s.pg) (e:=0) ((G.back (by omega)).more (Nat.le_succ k));exact go (e:=0) (G.more (Nat.le_succ k))
end
theorem aBI(hA:dG P Bx.bQ 45 [] [dh] (λ_=>[]) (λ_=>(true,()))):dG P Bx.bQ 5 [.b (.int .u8),tS8] [dh] (apl _) (λ_=>(true,())):=by
 refine aI func5 (by kernel_rfl) (by kernel_rfl) ?_;rintro⟨(p:Int),(l:List (CL iv)),⟨⟩⟩ ⟨_,(hl0:l.length<=maxLen),_⟩ ⟨⟨hp,_⟩,_⟩ X hX hz;have hp:=Ds.axp hp;show Safe P 5 X K8 _;have hT:aBH.Ok P Bx.bQ:=aM.Ok.cons (Ds.adZ.sum Ds.sO) (apm hA);have bC:l.length<=9223372036854775807:=by unfold maxLen at hl0;omega
 have hr:0<=p.tmod 60/\p.tmod 60<60:=by rw[Int.tmod_eq_emod_of_nonneg hp.1];omega
 have G:=Gd.start (n:=3+p.tmod 60) (by omega);have F:=G.fx (by omega);refine goB hz hX hT func5 (aBS p l) ⟨rfl,rfl,bC,λ_=>eb8,λhl=>⟨λh=>(by cases h),λ_=>⟨by decide,⟨by omega,by omega⟩,⟨by omega,by omega⟩,rfl,rfl,by omega, ?_⟩⟩⟩;exact sm8 hX hz hT (by omega) l.length 0 (by omega) G
def kA:ByteArray:=⟨#[97]⟩
def v1:ByteArray:=⟨#[49]⟩
def v2:ByteArray:=⟨#[50]⟩
def mP8:List AV->RM ((Sd×ByteArray×ByteArray)×List Nat)
 |[s,_,.s (.str v)]=>(mSs [s]).bind λ(X,σ)=>bif ((v.data.toList.getD 0 0).toNat).beq 49 then .ret ((X,kA,v1),σ)else .ret ((X,kA,v2),σ)|_=>.fail "no key"
def mG8:List AV->RM (XSK×List Nat)
 |[s,_]=>(mSt [s]).bind λ(X,σ)=>.ret ((X,kA),σ)|_=>.fail "no key"
def afy:aM:=[(44,bZ awh mSt),(43,bZ awg mSt),(39,bZ awn mP8),(35,bZ awf mG8),(41,bZ qo mSs),(42,bZ awm mSs),(37,bZ u5 Ds.sO),(47,bZ sBg mBg)]
def asD:List (Nat×Norm):=[(2,⟨[],[1,2],0,[]⟩),(4,⟨[],[1],0,[]⟩),(7,⟨[],[3],0,[]⟩)]
noncomputable def cA2(s:Sd):bP:=⟨sl 92 [(1,.ptr 0 0),(2,.ptr 1 0)],hBg s,hr f45 2,{}⟩
noncomputable def cA4(th:Th)(m:As)(fu:Int):bP:=⟨sl 92 [(1,.ptr 0 0)],Ds.hD th m fu,hr f45 4,{}⟩
noncomputable def cA7(s:Sd):bP:=⟨sl 92 [(3,.ptr 0 0)],tE s,hr f45 7,{}⟩
theorem aBi:iW (run P afy.sum f45 asD (start f45 [] []))=
 Tree.ab (bk (some [AV.s (.int .i64 10)])) (.ab sF (.ab ((3:Int)<=10/\(10:Int)<=1000) (.at (cA2 (oa 10))))):=by kernel_rfl
theorem aBj(s:Sd):iW (run P afy.sum f45 asD (cA2 s))=
 Tree.ab (bk (some [AV.ptr 0 0])) (.ab (bk (some (tE s))) (.ite (s.ep !=1) (.ret [] (.s (.aK false))) (.ab (bk (some [AV.ptr 0 0])) (.ab (bk (some (tE s))) (.ab (Ds.bo s.th s.m s.fu) (.ab ((0:Int)<=s.aa/\s.aa<=65536) (.ab (y9 s.th s.m s.aa=0) (.ab (Bx.okW (iV s.th s.m s.br s.aa)) (.ite (Bx.lC (iV s.th s.m s.br s.aa) !=8) (.ret [] (.s (.aK false))) (.ab (some [AV.ptr 0 0,.s (.str (ByteArray.mk #[(97:UInt8)])),.s (.str (ByteArray.mk #[(49:UInt8)]))]=some [AV.ptr 0 0,.s (.str kA),.s (.str v1)]) (.ab (bk (some (tE s))) (.ab (Ds.bo s.th s.m s.fu) (.ab (Bx.okW s.fr) (.ab ((0:Int)<=s.aa/\s.aa<=65536) (.ite (jc s kA (some v1) !=0) (.ret [] (.s (.aK false))) (.ab (bk (some [AV.ptr 0 0])) (.ab (bk (some (tE (cK s kA (some v1))))) (.ab (Ds.bo (cK s kA (some v1)).th (cK s kA (some v1)).m (cK s kA (some v1)).fu) (.ab ((0:Int)<=(cK s kA (some v1)).aa/\(cK s kA (some v1)).aa<=65536) (.ab (y9 (cK s kA (some v1)).th (cK s kA (some v1)).m (cK s kA (some v1)).aa=0) (.ab (Bx.okW (iV (cK s kA (some v1)).th (cK s kA (some v1)).m (cK s kA (some v1)).br (cK s kA (some v1)).aa)) (.ite (Bx.lC (iV (cK s kA (some v1)).th (cK s kA (some v1)).m (cK s kA (some v1)).br (cK s kA (some v1)).aa) !=7) (.ret [] (.s (.aK false))) (.ab (bk (some [AV.ptr 0 0])) (.ab (bk (some (tE (cK s kA (some v1))))) (.ab (Ds.bo (cK s kA (some v1)).th (cK s kA (some v1)).m (cK s kA (some v1)).fu) (.ab ((0:Int)<=(cK s kA (some v1)).ep/\(cK s kA (some v1)).ep<1099511627776) (.ab ((cK s kA (some v1)).wh=0\/(cK s kA (some v1)).wh=1) (.ab (m9 (lH (cK s kA (some v1))).th (lH (cK s kA (some v1))).m (lH (cK s kA (some v1))).pg) (.ite (coE (cK s kA (some v1)) !=0) (.ret [] (.s (.aK false))) (.ab (bk (some [AV.ptr 0 0])) (.ab (bk (some (tE (lH (cK s kA (some v1)))))) (.ite ((lH (cK s kA (some v1))).ep !=2) (.ret [] (.s (.aK false))) (.at (cA4 (lH (cK s kA (some v1))).th (lH (cK s kA (some v1))).m (lH (cK s kA (some v1))).fu)))))))))))))))))))))))))))))))))):=by kernel_rfl
theorem aBk(th:Th)(m:As)(fu:Int):iW (run P afy.sum f45 asD (cA4 th m fu))=
 Tree.ab (bk (some [AV.ptr 0 0])) (.ab (bk (some (Ds.hD th m fu))) (.ab (Ds.bo th m fu) (.ab ((3:Int)<=Ds.eH th) (.ab ((dH th m).snd.fst=true) (.ab (m9 th m (dH th m).snd.snd.snd) (.ite false (.ret [] (.s (.aK false))) (.at (.mk (sl 92 [(3,.ptr 0 0)]) (jT th m fu (dH th m).fst true (dH th m).snd.snd.fst (dH th m).snd.snd.snd (dS th m (dH th m).snd.snd.snd) (dH th m).snd.snd.snd (nT th (dS th m (dH th m).snd.snd.snd)) Bx.aH Bx.aH) (hr f45 7) (.mk none false 0 [] 0))))))))):=by kernel_rfl
theorem aBl(s:Sd):iW (run P afy.sum f45 asD (cA7 s))=
 Tree.ab (some [AV.ptr 0 0,.s (.str (ByteArray.mk #[(97:UInt8)]))]=some [AV.ptr 0 0,.s (.str kA)]) (.ab (bk (some (tE s))) (.ab (Ds.bo s.th s.m s.fu) (.ab ((0:Int)<=s.aa/\s.aa<=65536) (.ite (gtE s.th s.m s.aa kA !=0) (.ret [] (.s (.aK false))) (.ite (!gtB s.th s.m s.aa kA) (.ret [] (.s (.aK false))) (.ite (!decide (gtV s.th s.m s.aa kA=ByteArray.mk #[(49:UInt8)])) (.ret [] (.s (.aK false))) (.ab (some [AV.ptr 0 0,.s (.str (ByteArray.mk #[(97:UInt8)])),.s (.str (ByteArray.mk #[(50:UInt8)]))]=some [AV.ptr 0 0,.s (.str kA),.s (.str v2)]) (.ab (bk (some (tE s))) (.ab (Ds.bo s.th s.m s.fu) (.ab (Bx.okW s.fr) (.ab ((0:Int)<=s.aa/\s.aa<=65536) (.ite (jc s kA (some v2) !=0) (.ret [] (.s (.aK false))) (.ab (bk (some [AV.ptr 0 0])) (.ab (bk (some (tE (cK s kA (some v2))))) (.ab (Ds.bo (cK s kA (some v2)).th (cK s kA (some v2)).m (cK s kA (some v2)).fu) (.ab (m9 (cK s kA (some v2)).th (cK s kA (some v2)).m (cK s kA (some v2)).pg) (.ite false (.ret [] (.s (.aK false))) (.ab (some [AV.ptr 0 0,.s (.str (ByteArray.mk #[(97:UInt8)]))]=some [AV.ptr 0 0,.s (.str kA)]) (.ab (bk (some (tE (lW (cK s kA (some v2)) (cK s kA (some v2)).wh (cK s kA (some v2)).ep (cK s kA (some v2)).pg)))) (.ab (Ds.bo (lW (cK s kA (some v2)) (cK s kA (some v2)).wh (cK s kA (some v2)).ep (cK s kA (some v2)).pg).th (lW (cK s kA (some v2)) (cK s kA (some v2)).wh (cK s kA (some v2)).ep (cK s kA (some v2)).pg).m (lW (cK s kA (some v2)) (cK s kA (some v2)).wh (cK s kA (some v2)).ep (cK s kA (some v2)).pg).fu) (.ab ((0:Int)<=(lW (cK s kA (some v2)) (cK s kA (some v2)).wh (cK s kA (some v2)).ep (cK s kA (some v2)).pg).aa/\(lW (cK s kA (some v2)) (cK s kA (some v2)).wh (cK s kA (some v2)).ep (cK s kA (some v2)).pg).aa<=65536) (.ite (gtE (lW (cK s kA (some v2)) (cK s kA (some v2)).wh (cK s kA (some v2)).ep (cK s kA (some v2)).pg).th (lW (cK s kA (some v2)) (cK s kA (some v2)).wh (cK s kA (some v2)).ep (cK s kA (some v2)).pg).m (lW (cK s kA (some v2)) (cK s kA (some v2)).wh (cK s kA (some v2)).ep (cK s kA (some v2)).pg).aa kA==0) (.ite (gtB (lW (cK s kA (some v2)) (cK s kA (some v2)).wh (cK s kA (some v2)).ep (cK s kA (some v2)).pg).th (lW (cK s kA (some v2)) (cK s kA (some v2)).wh (cK s kA (some v2)).ep (cK s kA (some v2)).pg).m (lW (cK s kA (some v2)) (cK s kA (some v2)).wh (cK s kA (some v2)).ep (cK s kA (some v2)).pg).aa kA) (.ret [] (.s (.bool (decide (gtV (lW (cK s kA (some v2)) (cK s kA (some v2)).wh (cK s kA (some v2)).ep (cK s kA (some v2)).pg).th (lW (cK s kA (some v2)) (cK s kA (some v2)).wh (cK s kA (some v2)).ep (cK s kA (some v2)).pg).m (lW (cK s kA (some v2)) (cK s kA (some v2)).wh (cK s kA (some v2)).ep (cK s kA (some v2)).pg).aa kA=ByteArray.mk #[(49:UInt8)]))))) (.ret [] (.s (.aK false)))) (.ret [] (.s (.aK false))))))))))))))))))))))))):=by kernel_rfl
theorem apo:afy.Ok P Bx.bQ:=aM.Ok.cons (afo.sum mSt) (aM.Ok.cons (abb.sum mSt) (aM.Ok.cons (ajn.sum mP8) (aM.Ok.cons (ajf.sum mG8) (aM.Ok.cons (zm.sum mSs) (aM.Ok.cons (afq.sum mSs) (aM.Ok.cons (zh.sum Ds.sO) (aM.Ok.cons (afx.sum mBg) aM.Ok.nil)))))))
theorem Gd.azj{s:Sd}{E K:List En}{n:Nat}{N:Int}(G:Gd s E K n N)(hn:n<=1000){key:ByteArray}(hk:iU key none=true):gtE s.th s.m s.aa key=0/\gtV s.th s.m s.aa key=pA E key/\gtB s.th s.m s.aa key=nE E key:=by
 have⟨h,ps,po,h0,jC,j9,S⟩:=G.i;have e:=ar8 (key:=key) S.t.holds (by have:=(S.small hn).1;omega);rw[if_neg (by rw[hk];decide)]at e;unfold gtE gtV gtB;rw[e];exact⟨rfl,rfl,rfl⟩
theorem aBm:jc (oa 10) kA (some v1)=0:=by kernel_rfl
theorem azk:Bx.lC (iV (cK (oa 10) kA (some v1)).th (cK (oa 10) kA (some v1)).m (cK (oa 10) kA (some v1)).br (cK (oa 10) kA (some v1)).aa)=7:=by kernel_rfl
def s2A:Sd:=lH (cK (oa 10) kA (some v1))
theorem aBn:jc (lW s2A s2A.wh s2A.ep s2A.pg) kA (some v2)=0:=by kernel_rfl
theorem alb:dG P Bx.bQ 45 [] [dh] (λ_=>[]) (λ_=>(true,())):=by
 refine aI func45 (by kernel_rfl) (by kernel_rfl) ?_;rintro⟨⟩ _ _ X hX hz;show Safe P 45 X K8 _;have hT:=apo;have hk:iU kA none=true:=by kernel_rfl
 have G0:Gd (oa 10) [] [] 0 10:=Gd.start (by decide);have F0:=G0.fx (by decide);have f8:Bx.lC (iV (oa 10).th (oa 10).m (oa 10).br (oa 10).aa)=8:=G0.bare (by decide);have p1:=aBm;have p2:=aBn;have f7:=azk;have ep:(oa 10).ep=1:=rfl;refine goB hz hX hT func45 aBi ⟨rfl,rfl,by decide, ?_⟩;show Safe P 45 X _ (cA2 (oa 10));unfold s2A at p2;generalize oa 10=s at *;have G1:=G0.op (by decide) kA (some v1);rw[if_pos p1]at G1;have e1:(cK s kA (some v1)).ep=1:=ep;have F1:=G1.fx (by decide);have⟨c0,c1,G2⟩:=G1.u6 (by decide)
 have e2:(lH (cK s kA (some v1))).ep=2:=by
  have x:(coX (cK s kA (some v1))).2=0:=c0;unfold lH;rw[if_pos x];show(cK s kA (some v1)).ep+1=2;rw[e1];rfl
 have F2:=G2.fx (by decide);have hE:lV kA (some v1) []=[(kA,v1,())]:=rfl;rw[hE]at G1 G2 F1 F2;have fe:pA [(kA,v1,())] kA=v1:=by kernel_rfl
 have fb:nE [(kA,v1,())] kA=true:=by kernel_rfl
 refine goB hz hX hT func45 (aBj s) ⟨rfl,rfl,λh=>absurd ep (bne_iff_ne.1 h),λ_=>⟨rfl,rfl,F0.d,F0.r,F0.p0,F0.fw,λh=>absurd f8 (bne_iff_ne.1 h),λ_=>⟨rfl,rfl,F0.d,F0.fr,F0.r,λh=>absurd p1 (bne_iff_ne.1 h),λ_=>⟨rfl,rfl,F1.d,F1.r,F1.p0,F1.fw,λh=>absurd f7 (bne_iff_ne.1 h),λ_=>⟨rfl,rfl,F1.d,⟨by rw[e1];decide,by rw[e1];decide⟩,F1.w,F2.R,λh=>absurd c0 (bne_iff_ne.1 h),λ_=>⟨rfl,rfl,λh=>absurd e2 (bne_iff_ne.1 h),λ_=> ?_⟩⟩⟩⟩⟩⟩;show Safe P 45 X _ (cA4 (lH (cK s kA (some v1))).th (lH (cK s kA (some v1))).m (lH (cK s kA (some v1))).fu);generalize lH (cK s kA (some v1))=s2 at *;refine goB hz hX hT func45 (aBk s2.th s2.m s2.fu) ?_;rw[F2.mk'];refine⟨rfl,rfl,F2.d,F2.n3,rfl,F2.R,λh=>(by cases h),λ_=> ?_⟩;show Safe P 45 X _ (cA7 (lW s2 s2.wh s2.ep s2.pg));have G3:=G2.back (by decide);generalize lW s2 s2.wh s2.ep s2.pg=t at *;have F3:=G3.fx (by decide);have⟨g0,g1,g2⟩:=G3.azj (by decide) hk;have G4:=G3.op (by decide) kA (some v2);have F4:=G4.fx (by decide);have G5:=G4.back (by decide);have F5:=G5.fx (by decide);have⟨h0,h1,h2⟩:=G5.azj (by decide) hk;refine goB hz hX hT func45 (aBl t) ⟨rfl,rfl,F3.d,F3.r,λh=>absurd g0 (bne_iff_ne.1 h),λ_=>⟨λh=> ?_,λ_=>⟨λh=> ?_,λ_=>⟨rfl,rfl,F3.d,F3.fr,F3.r,λh=>absurd p2 (bne_iff_ne.1 h),λ_=>⟨rfl,rfl,F4.d,F4.R,λh=>(by cases h),λ_=>⟨rfl,rfl,F5.d,F5.r,λ_=>⟨λ_=> ?_,λh=> ?_⟩,λh=>absurd h0 (beq_eq_false_iff_ne.1 h)⟩⟩⟩⟩⟩⟩;have h:=nf0 h;rw[g2,fb]at h;cases h;exact absurd (g1.trans fe) (of_decide_eq_false (nf0 h));have h1:=h1.trans fe;show K9 _ (.s (.bool (decide (_=v1))));rw[decide_eq_true h1];exact eb8;have h:gtB _ _ _ kA=false:=h;rw[h2,fb]at h;cases h
theorem aBJ:dG P Bx.bQ 5 [.b (.int .u8),tS8] [dh] (apl _) (λ_=>(true,())):=aBI alb
end Ts
