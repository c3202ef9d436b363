/- Lemmas: N7, M2, M3, N8, N9, N10, N11, N12, N13, N14, N15, SxLit, SxRenew, N16, N17, N18, N19, S1, S2, M4, M5, M6, M7, M8, M9, M10, M11, M12, M13, M14, S1p, S2p, S3, S3p, S4, SxStill, S5, S6. -/
import Derived.Test.YtjmdfmafnenjnaaGreatDoorPD
namespace Ts
open Go Go.Sx Go.Proofs Lf
abbrev XC:Type:=XT×Int×Int×ByteArray×ByteArray
abbrev fP1:FuncId:=72
abbrev fD1:FuncId:=75
abbrev rU(s:ByteArray):ab:=.own [.s (.str s)] 9
abbrev pG(th:Th)(m:As)(fu root:Int)(fr fs gn:Ws)(key val:ByteArray):List ab:=hT th m fu root fr fs gn++[rU key,rU val]
abbrev pH(th:Th)(m:As)(fu root:Int)(fr fs gn:Ws)(key:ByteArray):List ab:=hT th m fu root fr fs gn++[rU key]
def amf(f:Nat)(th:Th)(m:As)(fu:Int)(fr:Ws)(n deep:Int)(key val:ByteArray):List Prop:=[Ds.bx th m fu,Bx.okW fr,0≤n∧n≤65536,1≤deep∧deep≤17,18≤deep+(f:Int),1≤key.size∧key.size≤24,val.size≤100]
def uf(th:Th)(key:ByteArray)(op:Option ByteArray)(f:Nat)(m:As)(fu:Int)(fr fs gn:Ws)(n deep:Int):As:=(x6 th key op f m fu fr fs gn n deep).1
def ug(th:Th)(key:ByteArray)(op:Option ByteArray)(f:Nat)(m:As)(fu:Int)(fr fs gn:Ws)(n deep:Int):Int:=(x6 th key op f m fu fr fs gn n deep).2.1
def uh(th:Th)(key:ByteArray)(op:Option ByteArray)(f:Nat)(m:As)(fu:Int)(fr fs gn:Ws)(n deep:Int):Ws:=(x6 th key op f m fu fr fs gn n deep).2.2.1
def uZ(th:Th)(key:ByteArray)(op:Option ByteArray)(f:Nat)(m:As)(fu:Int)(fr fs gn:Ws)(n deep:Int):Ws:=(x6 th key op f m fu fr fs gn n deep).2.2.2.1
def yb(th:Th)(key:ByteArray)(op:Option ByteArray)(f:Nat)(m:As)(fu:Int)(fr fs gn:Ws)(n deep:Int):Ws:=(x6 th key op f m fu fr fs gn n deep).2.2.2.2.1
def yc(th:Th)(key:ByteArray)(op:Option ByteArray)(f:Nat)(m:As)(fu:Int)(fr fs gn:Ws)(n deep:Int):List Br:=(x6 th key op f m fu fr fs gn n deep).2.2.2.2.2.1
def aap(th:Th)(key:ByteArray)(op:Option ByteArray)(f:Nat)(m:As)(fu:Int)(fr fs gn:Ws)(n deep:Int):Int:=(x6 th key op f m fu fr fs gn n deep).2.2.2.2.2.2
abbrev u4(f:Nat):Spec XC:=⟨fun(_,n,deep,key,_)=>[.ptr 0 0,bE n,bE deep,.s (.str key),.fn fP1 [.ptr 4 0,.ptr 5 0]],fun((th,m,fu,root,fr,fs,gn),_,_,key,val)=>pG th m fu root fr fs gn key val,
 fun((th,m,fu,_,fr,_,_),n,deep,key,val)=>amf f th m fu fr n deep key val,
 fun((th,m,fu,root,fr,fs,gn),n,deep,key,val)=>pG th (uf th key (some val) f m fu fr fs gn n deep) (ug th key (some val) f m fu fr fs gn n deep) root (uh th key (some val) f m fu fr fs gn n deep) (uZ th key (some val) f m fu fr fs gn n deep) (yb th key (some val) f m fu fr fs gn n deep) key val++[.vec (.ad cB (yc th key (some val) f m fu fr fs gn n deep)) Lf.eB],
 fun((th,m,fu,_,fr,fs,gn),n,deep,key,val)=>.bg [.vec 6,bE (aap th key (some val) f m fu fr fs gn n deep)]⟩
abbrev u5(f:Nat):Spec XC:=⟨fun(_,n,deep,key,_)=>[.ptr 0 0,bE n,bE deep,.s (.str key),.fn fD1 [.ptr 4 0]],fun((th,m,fu,root,fr,fs,gn),_,_,key,_)=>pH th m fu root fr fs gn key,
 fun((th,m,fu,_,fr,_,_),n,deep,key,val)=>amf f th m fu fr n deep key val,
 fun((th,m,fu,root,fr,fs,gn),n,deep,key,_)=>pH th (uf th key none f m fu fr fs gn n deep) (ug th key none f m fu fr fs gn n deep) root (uh th key none f m fu fr fs gn n deep) (uZ th key none f m fu fr fs gn n deep) (yb th key none f m fu fr fs gn n deep) key++[.vec (.ad cB (yc th key none f m fu fr fs gn n deep)) Lf.eB],
 fun((th,m,fu,_,fr,fs,gn),n,deep,key,_)=>.bg [.vec 5,bE (aap th key none f m fu fr fs gn n deep)]⟩
def ah2(i:Nat):(ByteArray→RM (XC×List Nat))→RM (XC×List Nat):=fun k=>.look i fun o=>match o with
 |some (.own [.s (.str s)] _)=>k s
 |_=>.fail "no text"
def aky:List AV→RM (XC×List Nat)
 |[t,n,d,.s (.str _),.fn _ [.ptr i 0,.ptr j 0]]=>(mT [t]).bind fun(X,σ)=>match n.cu,d.cu with
  |some (_,_,n),some (_,_,d)=>ah2 i fun key=>ah2 j fun val=>.ret ((X,n,d,key,val),σ++[i,j])
  |_,_=>.fail "no numbers"
 |_=>.fail "change: arguments"
def akz:List AV→RM (XC×List Nat)
 |[t,n,d,.s (.str _),.fn _ [.ptr i 0]]=>(mT [t]).bind fun(X,σ)=>match n.cu,d.cu with
  |some (_,_,n),some (_,_,d)=>ah2 i fun key=>.ret ((X,n,d,key,ByteArray.empty),σ++[i])
  |_,_=>.fail "no numbers"
 |_=>.fail "change: arguments"
def mNo:List AV→RM ((XT×Int×Int)×List Nat)
 |[t,n,d]=>(mT [t]).bind fun(X,σ)=>match n.cu,d.cu with
  |some (_,_,n),some (_,_,d)=>.ret ((X,n,d),σ)
  |_,_=>.fail "no numbers"
 |_=>.fail "node: arguments"
def mLv:List AV→RM ((XT×Int)×List Nat)
 |[t,n]=>(mT [t]).bind fun(X,σ)=>match n.cu with
  |some (_,_,n)=>.ret ((X,n),σ)
  |_=>.fail "no numbers"
 |_=>.fail "leave: arguments"
abbrev wo:=bZ sNo mNo
abbrev ah3:=bZ sLv mLv
abbrev wq:=amd (bZ sWs mTN)
abbrev amg:=tg [ph,dI,dI] [ph] (fun(l,_,_,())=>[(l:List En).length≤100000,iU (cg l)]) (fun(l,key,val,())=>(fx l key val,()))
abbrev amh:=cp [ph,dI] [ph,c9] (fun(l,_,())=>[(l:List En).length≤100000,iU (cg l)]) (fun(l,key,())=>(dY l key,lr l key,()))
abbrev aoy:=cp [uD,dI] [bB] (fun(l,_,())=>[(l:List Br).length≤1000000,iU (mJ l)]) (fun(l,key,())=>(aX l key,()))
def nF(f:Nat):aH:=[(77,wo),(149,ah3),(112,wq),(73,amg),(79,aoy),(174,sJ),(144,bZ (u4 f) aky)]
def nG(f:Nat):aH:=[(77,wo),(149,ah3),(112,wq),(76,amh),(79,aoy),(174,sJ),(144,bZ (u5 f) akz)]
abbrev eN:TypeId:=131
def aci:List (Nat×Norm):=[(5,⟨[],[0,1,4,12],6,[]⟩),(10,⟨[],[0,1,2,3,4,12],6,[]⟩),(14,⟨[],[0,1,12,13,14,15],6,[]⟩),(18,⟨[],[0,1,12,14,15],6,[]⟩)]
noncomputable def aqM(th:Th)(m:As)(fu root:Int)(fr fs gn:Ws)(n:Int)(key val:ByteArray)(es:List En)(bs:List Br):bw:=
 ⟨sl 106 [(0,.ptr 0 0),(1,bE n),(4,.fn fP1 [.ptr 4 0,.ptr 5 0]),(12,.ptr 6 0)],pG th m fu root fr fs gn key val++[obN true es bs eN],hr Tryz.f144 5,{}⟩
noncomputable def ami(th:Th)(m:As)(fu root:Int)(fr fs gn:Ws)(n deep:Int)(key val:ByteArray)(l:Bool)(es:List En)(bs:List Br):bw:=
 ⟨sl 106 [(0,.ptr 0 0),(1,bE n),(2,bE deep),(3,.s (.str key)),(4,.fn fP1 [.ptr 4 0,.ptr 5 0]),(12,.ptr 6 0)],pG th m fu root fr fs gn key val++[obN l es bs eN],hr Tryz.f144 10,{}⟩
noncomputable def amj(th:Th)(m:As)(fu root:Int)(fr fs gn:Ws)(n:Int)(key val:ByteArray)(l:Bool)(es:List En)(bs:List Br)(k e:Int)(r:List Br):bw:=
 ⟨sl 106 [(0,.ptr 0 0),(1,bE n),(12,.ptr 6 0),(13,bE e),(14,bE k),(15,.vec 7)],pG th m fu root fr fs gn key val++[obN l es bs eN,.vec (.ad cB r) Lf.eB],hr Tryz.f144 14,{}⟩
noncomputable def amk(th:Th)(m:As)(fu root:Int)(fr fs gn:Ws)(n:Int)(key val:ByteArray)(l:Bool)(es:List En)(bs:List Br)(k:Int)(r:List Br):bw:=
 ⟨sl 106 [(0,.ptr 0 0),(1,bE n),(12,.ptr 6 0),(14,bE k),(15,.vec 7)],pG th m fu root fr fs gn key val++[obN l es bs eN,.vec (.ad cB r) Lf.eB],hr Tryz.f144 18,{}⟩
theorem atf(f:Nat)(th:Th)(m:As)(fu root:Int)(fr fs gn:Ws)(n deep:Int)(key val:ByteArray):run P (nF f).sum Tryz.f144 aci (start Tryz.f144 [.ptr 0 0,bE n,bE deep,.s (.str key),.fn fP1 [.ptr 4 0,.ptr 5 0]] (pG th m fu root fr fs gn key val)) (inl:=[fP1])=
 Tree.need (bn (some [AV.ptr 0 0,.s (.int .i64 n),.s (.int .i64 deep)])) (.need (bn (some [ab.own [.ptr 1 0,.s (.int .i64 root),.ints .u64 16 fr,.ints .u64 16 fs,.ints .u64 16 gn] 115,.own [.vec 2,.ag 3,.s (.int .i64 fu)] 105,.vec (.ad [.arr .u8 64] th) 165,.map (.arr .u8 64) m])) (.need (Ds.bx th m fu) (.need (ay n) (.ite (fF th m n deep !=0) (.ret [.own [.ptr 1 0,.s (.int .i64 root),.ints .u64 16 fr,.ints .u64 16 fs,.ints .u64 16 gn] 115,.own [.vec 2,.ag 3,.s (.int .i64 fu)] 105,.vec (.ad [.arr .u8 64] th) 165,.map (.arr .u8 64) m,.own [.s (.str key)] 9,.own [.s (.str val)] 9,.own [.s (.bool (jy th m n deep)),.s (.ro (.ad [.str,.str] (bT th m n deep))),.s (.ro (.ad [.str,.int .i64] (aQ th m n deep)))] 131] (.bg [.emp,.s (.int .i64 (fF th m n deep))])) (.ite (jy th m n deep) (.at (.mk (sl 106 [(0,.ptr 0 0),(1,.s (.int .i64 n)),(4,.fn 72 [.ptr 4 0,.ptr 5 0]),(12,.ptr 6 0)]) [.own [.ptr 1 0,.s (.int .i64 root),.ints .u64 16 fr,.ints .u64 16 fs,.ints .u64 16 gn] 115,.own [.vec 2,.ag 3,.s (.int .i64 fu)] 105,.vec (.ad [.arr .u8 64] th) 165,.map (.arr .u8 64) m,.own [.s (.str key)] 9,.own [.s (.str val)] 9,.own [.s (.bool (jy th m n deep)),.s (.ro (.ad [.str,.str] (bT th m n deep))),.s (.ro (.ad [.str,.int .i64] (aQ th m n deep)))] 131] (hr Tryz.f144 5) (.mk none false 0 [] 0))) (.at (.mk (sl 106 [(0,.ptr 0 0),(1,.s (.int .i64 n)),(2,.s (.int .i64 deep)),(3,.s (.str key)),(4,.fn 72 [.ptr 4 0,.ptr 5 0]),(12,.ptr 6 0)]) [.own [.ptr 1 0,.s (.int .i64 root),.ints .u64 16 fr,.ints .u64 16 fs,.ints .u64 16 gn] 115,.own [.vec 2,.ag 3,.s (.int .i64 fu)] 105,.vec (.ad [.arr .u8 64] th) 165,.map (.arr .u8 64) m,.own [.s (.str key)] 9,.own [.s (.str val)] 9,.own [.s (.bool (jy th m n deep)),.s (.ro (.ad [.str,.str] (bT th m n deep))),.s (.ro (.ad [.str,.int .i64] (aQ th m n deep)))] 131] (hr Tryz.f144 10) (.mk none false 0 [] 0)))))))):=by kernel_rfl
theorem aqN(f:Nat)(th:Th)(m:As)(fu root:Int)(fr fs gn:Ws)(n:Int)(key val:ByteArray)(es:List En)(bs:List Br):run P (nF f).sum Tryz.f144 aci (aqM th m fu root fr fs gn n key val es bs) (inl:=[fP1])=
 Tree.need (es.length≤100000) (.need (iU (cg es)) (.need (bn (some [AV.ptr 0 0,.s (.int .i64 n)])) (.need (bn (some [ab.own [.ptr 1 0,.s (.int .i64 root),.ints .u64 16 fr,.ints .u64 16 fs,.ints .u64 16 gn] 115,.own [.vec 2,.ag 3,.s (.int .i64 fu)] 105,.vec (.ad [.arr .u8 64] th) 165,.map (.arr .u8 64) m])) (.need (bn (some [AV.ptr 0 0,.agg [.s (.bool true),.s (.ro (.ad [.str,.str] (fx es key val))),.s (.ro (.ad [.str,.int .i64] bs))]])) (.need (bn (some [ab.own [.ptr 1 0,.s (.int .i64 root),.ints .u64 16 fr,.ints .u64 16 (jB fs n),.ints .u64 16 (ry fs gn n)] 115,.own [.vec 2,.ag 3,.s (.int .i64 fu)] 105,.vec (.ad [.arr .u8 64] th) 165,.map (.arr .u8 64) m])) (.need (Ds.bx th m fu) (.need (Bx.okW fr) (.need (x9 true (fx es key val) bs) (.need (bh (fx es key val)) (.need (bk bs) (.ret [.own [.ptr 1 0,.s (.int .i64 root),.ints .u64 16 (bJ th m fu fr (jB fs n) true (fx es key val) bs).snd.snd.fst,.ints .u64 16 (bJ th m fu fr (jB fs n) true (fx es key val) bs).snd.snd.snd.fst,.ints .u64 16 (ry fs gn n)] 115,.own [.vec 2,.ag 3,.s (.int .i64 (bJ th m fu fr (jB fs n) true (fx es key val) bs).snd.fst)] 105,.vec (.ad [.arr .u8 64] th) 165,.map (.arr .u8 64) (bJ th m fu fr (jB fs n) true (fx es key val) bs).fst,.own [.s (.str key)] 9,.own [.s (.str val)] 9,.own [.s (.bool true),.vec 7,.s (.ro (.ad [.str,.int .i64] bs))] 131,.dead,.vec (.ad [.str,.int .i64] (bJ th m fu fr (jB fs n) true (fx es key val) bs).snd.snd.snd.snd.fst) 137] (.bg [.vec 8,.s (.int .i64 (bJ th m fu fr (jB fs n) true (fx es key val) bs).snd.snd.snd.snd.snd)])))))))))))):=by kernel_rfl
theorem aoz(f:Nat)(th:Th)(m:As)(fu root:Int)(fr fs gn:Ws)(n deep:Int)(key val:ByteArray)(l:Bool)(es:List En)(bs:List Br):run P (nF f).sum Tryz.f144 aci (ami th m fu root fr fs gn n deep key val l es bs) (inl:=[fP1])=
 Tree.ite ((↑bs.length:Int)==0) (.ret [.own [.ptr 1 0,.s (.int .i64 root),.ints .u64 16 fr,.ints .u64 16 fs,.ints .u64 16 gn] 115,.own [.vec 2,.ag 3,.s (.int .i64 fu)] 105,.vec (.ad [.arr .u8 64] th) 165,.map (.arr .u8 64) m,.own [.s (.str key)] 9,.own [.s (.str val)] 9,.own [.s (.bool l),.s (.ro (.ad [.str,.str] es)),.s (.ro (.ad [.str,.int .i64] bs))] 131] (.bg [.emp,.s (.aK .i64 4)]))
 (.need (bs.length≤1000000) (.need (iU (mJ bs)) (.need ((0:Int)≤aX bs key) (.need (aX bs key<(↑bs.length:Int)) (.need (ay (deep+1)) (.need (bn (some [AV.ptr 0 0,.s (.int .i64 (bs.getD (aX bs key).toNat (CL.d [.str,.int .i64])).snd.fst),.s (.int .i64 (deep+1)),.s (.str key),.fn 72 [.ptr 4 0,.ptr 5 0]])) (.need (bn (some [ab.own [.ptr 1 0,.s (.int .i64 root),.ints .u64 16 fr,.ints .u64 16 fs,.ints .u64 16 gn] 115,.own [.vec 2,.ag 3,.s (.int .i64 fu)] 105,.vec (.ad [.arr .u8 64] th) 165,.map (.arr .u8 64) m,.own [.s (.str key)] 9,.own [.s (.str val)] 9])) (.need (Ds.bx th m fu) (.need (Bx.okW fr) (.need ((0:Int)≤(bs.getD (aX bs key).toNat (CL.d [.str,.int .i64])).snd.fst∧(bs.getD (aX bs key).toNat (CL.d [.str,.int .i64])).snd.fst≤65536) (.need ((1:Int)≤deep+1∧deep+1≤17) (.need ((18:Int)≤deep+1+(↑f:Int)) (.need ((1:Nat)≤key.size∧key.size≤24) (.need (val.size≤100) (.at (.mk (sl 106 [(0,.ptr 0 0),(1,.s (.int .i64 n)),(12,.ptr 6 0),(13,.s (.int .i64 (aap th key (some val) f m fu fr fs gn (bs.getD (aX bs key).toNat (CL.d [.str,.int .i64])).snd.fst (deep+1)))),(14,.s (.int .i64 (aX bs key))),(15,.vec 7)]) [.own [.ptr 1 0,.s (.int .i64 root),.ints .u64 16 (uh th key (some val) f m fu fr fs gn (bs.getD (aX bs key).toNat (CL.d [.str,.int .i64])).snd.fst (deep+1)),.ints .u64 16 (uZ th key (some val) f m fu fr fs gn (bs.getD (aX bs key).toNat (CL.d [.str,.int .i64])).snd.fst (deep+1)),.ints .u64 16 (yb th key (some val) f m fu fr fs gn (bs.getD (aX bs key).toNat (CL.d [.str,.int .i64])).snd.fst (deep+1))] 115,.own [.vec 2,.ag 3,.s (.int .i64 (ug th key (some val) f m fu fr fs gn (bs.getD (aX bs key).toNat (CL.d [.str,.int .i64])).snd.fst (deep+1)))] 105,.vec (.ad [.arr .u8 64] th) 165,.map (.arr .u8 64) (uf th key (some val) f m fu fr fs gn (bs.getD (aX bs key).toNat (CL.d [.str,.int .i64])).snd.fst (deep+1)),.own [.s (.str key)] 9,.own [.s (.str val)] 9,.own [.s (.bool l),.s (.ro (.ad [.str,.str] es)),.s (.ro (.ad [.str,.int .i64] bs))] 131,.vec (.ad [.str,.int .i64] (yc th key (some val) f m fu fr fs gn (bs.getD (aX bs key).toNat (CL.d [.str,.int .i64])).snd.fst (deep+1))) 137] (hr Tryz.f144 14) (.mk none false 0 [] 0))))))))))))))))):=by kernel_rfl
theorem aoA(f:Nat)(th:Th)(m:As)(fu root:Int)(fr fs gn:Ws)(n:Int)(key val:ByteArray)(l:Bool)(es:List En)(bs:List Br)(k e:Int)(r:List Br):run P (nF f).sum Tryz.f144 aci (amj th m fu root fr fs gn n key val l es bs k e r) (inl:=[fP1])=
 Tree.ite (e !=0) (.ret [.own [.ptr 1 0,.s (.int .i64 root),.ints .u64 16 fr,.ints .u64 16 fs,.ints .u64 16 gn] 115,.own [.vec 2,.ag 3,.s (.int .i64 fu)] 105,.vec (.ad [.arr .u8 64] th) 165,.map (.arr .u8 64) m,.own [.s (.str key)] 9,.own [.s (.str val)] 9,.own [.s (.bool l),.s (.ro (.ad [.str,.str] es)),.s (.ro (.ad [.str,.int .i64] bs))] 131,.vec (.ad [.str,.int .i64] r) 137] (.bg [.emp,.s (.int .i64 e)])) (.ite (decide ((↑r.length:Int)>0)) (.need ((0:Int)≤k) (.need (k<(↑bs.length:Int)) (.need ((0:Int)≤0) (.need ((0:Int)<(↑r.length:Int)) (.at (.mk (sl 106 [(0,.ptr 0 0),(1,.s (.int .i64 n)),(12,.ptr 6 0),(14,.s (.int .i64 k)),(15,.vec 7)]) [.own [.ptr 1 0,.s (.int .i64 root),.ints .u64 16 fr,.ints .u64 16 fs,.ints .u64 16 gn] 115,.own [.vec 2,.ag 3,.s (.int .i64 fu)] 105,.vec (.ad [.arr .u8 64] th) 165,.map (.arr .u8 64) m,.own [.s (.str key)] 9,.own [.s (.str val)] 9,.own [.s (.bool l),.s (.ro (.ad [.str,.str] es)),.s (.ro (.ad [.str,.int .i64] bs))] 131,.vec (.ad [.str,.int .i64] (r.set 0 ((bs.getD k.toNat (CL.d [.str,.int .i64])).fst,(r.getD 0 (CL.d [.str,.int .i64])).snd))) 137] (hr Tryz.f144 18) (.mk none false 0 [] 0))))))) (.at (.mk (sl 106 [(0,.ptr 0 0),(1,.s (.int .i64 n)),(12,.ptr 6 0),(14,.s (.int .i64 k)),(15,.vec 7)]) [.own [.ptr 1 0,.s (.int .i64 root),.ints .u64 16 fr,.ints .u64 16 fs,.ints .u64 16 gn] 115,.own [.vec 2,.ag 3,.s (.int .i64 fu)] 105,.vec (.ad [.arr .u8 64] th) 165,.map (.arr .u8 64) m,.own [.s (.str key)] 9,.own [.s (.str val)] 9,.own [.s (.bool l),.s (.ro (.ad [.str,.str] es)),.s (.ro (.ad [.str,.int .i64] bs))] 131,.vec (.ad [.str,.int .i64] r) 137] (hr Tryz.f144 18) (.mk none false 0 [] 0)))):=by kernel_rfl
theorem aoB(f:Nat)(th:Th)(m:As)(fu root:Int)(fr fs gn:Ws)(n:Int)(key val:ByteArray)(l:Bool)(es:List En)(bs:List Br)(k:Int)(r:List Br):run P (nF f).sum Tryz.f144 aci (amk th m fu root fr fs gn n key val l es bs k r) (inl:=[fP1])=
 Tree.need ((0:Int)≤0)
 (.need ((0:Int)≤k)
   (.need (k≤(↑bs.length:Int))
     (.need (ay (k+1))
       (.need ((0:Int)≤k+1)
         (.need (k+1≤(↑bs.length:Int))
           (.need ((↑bs.length:Int)≤(↑bs.length:Int))
             (.need ([(List.drop (Int.toNat 0) (List.take k.toNat bs),()),(r,()),(List.drop (k+1).toNat (List.take (↑bs.length:Int).toNat bs),())].length≤100)
               (.need ((ct [(List.drop (Int.toNat 0) (List.take k.toNat bs),()),(r,()),(List.drop (k+1).toNat (List.take (↑bs.length:Int).toNat bs),())]).length≤100000)
                 (.need (bn (some [AV.ptr 0 0,.s (.int .i64 n)])) (.need (bn (some [ab.own [.ptr 1 0,.s (.int .i64 root),.ints .u64 16 fr,.ints .u64 16 fs,.ints .u64 16 gn] 115,.own [.vec 2,.ag 3,.s (.int .i64 fu)] 105,.vec (.ad [.arr .u8 64] th) 165,.map (.arr .u8 64) m])) (.need (bn (some [AV.ptr 0 0,.agg [.s (.bool l),.s (.ro (.ad [.str,.str] es)),.s (.ro (.ad [.str,.int .i64] (ct [(List.drop (Int.toNat 0) (List.take k.toNat bs),()),(r,()),(List.drop (k+1).toNat (List.take (↑bs.length:Int).toNat bs),())])))]])) (.need (bn (some [ab.own [.ptr 1 0,.s (.int .i64 root),.ints .u64 16 fr,.ints .u64 16 (jB fs n),.ints .u64 16 (ry fs gn n)] 115,.own [.vec 2,.ag 3,.s (.int .i64 fu)] 105,.vec (.ad [.arr .u8 64] th) 165,.map (.arr .u8 64) m])) (.need (Ds.bx th m fu) (.need (Bx.okW fr) (.need (x9 l es (ct [(List.drop (Int.toNat 0) (List.take k.toNat bs),()),(r,()),(List.drop (k+1).toNat (List.take (↑bs.length:Int).toNat bs),())])) (.need (bh es) (.need (bk (ct [(List.drop (Int.toNat 0) (List.take k.toNat bs),()),(r,()),(List.drop (k+1).toNat (List.take (↑bs.length:Int).toNat bs),())])) (.ret [.own [.ptr 1 0,.s (.int .i64 root),.ints .u64 16 (bJ th m fu fr (jB fs n) l es (ct [(List.drop (Int.toNat 0) (List.take k.toNat bs),()),(r,()),(List.drop (k+1).toNat (List.take (↑bs.length:Int).toNat bs),())])).snd.snd.fst,.ints .u64 16 (bJ th m fu fr (jB fs n) l es (ct [(List.drop (Int.toNat 0) (List.take k.toNat bs),()),(r,()),(List.drop (k+1).toNat (List.take (↑bs.length:Int).toNat bs),())])).snd.snd.snd.fst,.ints .u64 16 (ry fs gn n)] 115,.own [.vec 2,.ag 3,.s (.int .i64 (bJ th m fu fr (jB fs n) l es (ct [(List.drop (Int.toNat 0) (List.take k.toNat bs),()),(r,()),(List.drop (k+1).toNat (List.take (↑bs.length:Int).toNat bs),())])).snd.fst)] 105,.vec (.ad [.arr .u8 64] th) 165,.map (.arr .u8 64) (bJ th m fu fr (jB fs n) l es (ct [(List.drop (Int.toNat 0) (List.take k.toNat bs),()),(r,()),(List.drop (k+1).toNat (List.take (↑bs.length:Int).toNat bs),())])).fst,.own [.s (.str key)] 9,.own [.s (.str val)] 9,.own [.s (.bool l),.s (.ro (.ad [.str,.str] es)),.vec 9] 131,.dead,.vec (.ad uW [(List.drop (Int.toNat 0) (List.take k.toNat bs),()),(r,()),(List.drop (k+1).toNat (List.take (↑bs.length:Int).toNat bs),())]) 129,.dead,.vec (.ad [.str,.int .i64] (bJ th m fu fr (jB fs n) l es (ct [(List.drop (Int.toNat 0) (List.take k.toNat bs),()),(r,()),(List.drop (k+1).toNat (List.take (↑bs.length:Int).toNat bs),())])).snd.snd.snd.snd.fst) 137] (.bg [.vec 10,.s (.int .i64 (bJ th m fu fr (jB fs n) l es (ct [(List.drop (Int.toNat 0) (List.take k.toNat bs),()),(r,()),(List.drop (k+1).toNat (List.take (↑bs.length:Int).toNat bs),())])).snd.snd.snd.snd.snd)]))))))))))))))))))):=by kernel_rfl
def acj:List (Nat×Norm):=[(5,⟨[],[0,1,4,12],5,[]⟩),(10,⟨[],[0,1,2,3,4,12],5,[]⟩),(14,⟨[],[0,1,12,13,14,15],5,[]⟩),(18,⟨[],[0,1,12,14,15],5,[]⟩)]
noncomputable def aqO(th:Th)(m:As)(fu root:Int)(fr fs gn:Ws)(n:Int)(key:ByteArray)(es:List En)(bs:List Br):bw:=
 ⟨sl 106 [(0,.ptr 0 0),(1,bE n),(4,.fn fD1 [.ptr 4 0]),(12,.ptr 5 0)],pH th m fu root fr fs gn key++[obN true es bs eN],hr Tryz.f144 5,{}⟩
noncomputable def aml(th:Th)(m:As)(fu root:Int)(fr fs gn:Ws)(n deep:Int)(key:ByteArray)(l:Bool)(es:List En)(bs:List Br):bw:=
 ⟨sl 106 [(0,.ptr 0 0),(1,bE n),(2,bE deep),(3,.s (.str key)),(4,.fn fD1 [.ptr 4 0]),(12,.ptr 5 0)],pH th m fu root fr fs gn key++[obN l es bs eN],hr Tryz.f144 10,{}⟩
noncomputable def amm(th:Th)(m:As)(fu root:Int)(fr fs gn:Ws)(n:Int)(key:ByteArray)(l:Bool)(es:List En)(bs:List Br)(k e:Int)(r:List Br):bw:=
 ⟨sl 106 [(0,.ptr 0 0),(1,bE n),(12,.ptr 5 0),(13,bE e),(14,bE k),(15,.vec 6)],pH th m fu root fr fs gn key++[obN l es bs eN,.vec (.ad cB r) Lf.eB],hr Tryz.f144 14,{}⟩
noncomputable def amn(th:Th)(m:As)(fu root:Int)(fr fs gn:Ws)(n:Int)(key:ByteArray)(l:Bool)(es:List En)(bs:List Br)(k:Int)(r:List Br):bw:=
 ⟨sl 106 [(0,.ptr 0 0),(1,bE n),(12,.ptr 5 0),(14,bE k),(15,.vec 6)],pH th m fu root fr fs gn key++[obN l es bs eN,.vec (.ad cB r) Lf.eB],hr Tryz.f144 18,{}⟩
theorem atg(f:Nat)(th:Th)(m:As)(fu root:Int)(fr fs gn:Ws)(n deep:Int)(key:ByteArray):run P (nG f).sum Tryz.f144 acj (start Tryz.f144 [.ptr 0 0,bE n,bE deep,.s (.str key),.fn fD1 [.ptr 4 0]] (pH th m fu root fr fs gn key)) (inl:=[fD1])=
 Tree.need (bn (some [AV.ptr 0 0,.s (.int .i64 n),.s (.int .i64 deep)])) (.need (bn (some [ab.own [.ptr 1 0,.s (.int .i64 root),.ints .u64 16 fr,.ints .u64 16 fs,.ints .u64 16 gn] 115,.own [.vec 2,.ag 3,.s (.int .i64 fu)] 105,.vec (.ad [.arr .u8 64] th) 165,.map (.arr .u8 64) m])) (.need (Ds.bx th m fu) (.need (ay n) (.ite (fF th m n deep !=0) (.ret [.own [.ptr 1 0,.s (.int .i64 root),.ints .u64 16 fr,.ints .u64 16 fs,.ints .u64 16 gn] 115,.own [.vec 2,.ag 3,.s (.int .i64 fu)] 105,.vec (.ad [.arr .u8 64] th) 165,.map (.arr .u8 64) m,.own [.s (.str key)] 9,.own [.s (.bool (jy th m n deep)),.s (.ro (.ad [.str,.str] (bT th m n deep))),.s (.ro (.ad [.str,.int .i64] (aQ th m n deep)))] 131] (.bg [.emp,.s (.int .i64 (fF th m n deep))])) (.ite (jy th m n deep) (.at (.mk (sl 106 [(0,.ptr 0 0),(1,.s (.int .i64 n)),(4,.fn 75 [.ptr 4 0]),(12,.ptr 5 0)]) [.own [.ptr 1 0,.s (.int .i64 root),.ints .u64 16 fr,.ints .u64 16 fs,.ints .u64 16 gn] 115,.own [.vec 2,.ag 3,.s (.int .i64 fu)] 105,.vec (.ad [.arr .u8 64] th) 165,.map (.arr .u8 64) m,.own [.s (.str key)] 9,.own [.s (.bool (jy th m n deep)),.s (.ro (.ad [.str,.str] (bT th m n deep))),.s (.ro (.ad [.str,.int .i64] (aQ th m n deep)))] 131] (hr Tryz.f144 5) (.mk none false 0 [] 0))) (.at (.mk (sl 106 [(0,.ptr 0 0),(1,.s (.int .i64 n)),(2,.s (.int .i64 deep)),(3,.s (.str key)),(4,.fn 75 [.ptr 4 0]),(12,.ptr 5 0)]) [.own [.ptr 1 0,.s (.int .i64 root),.ints .u64 16 fr,.ints .u64 16 fs,.ints .u64 16 gn] 115,.own [.vec 2,.ag 3,.s (.int .i64 fu)] 105,.vec (.ad [.arr .u8 64] th) 165,.map (.arr .u8 64) m,.own [.s (.str key)] 9,.own [.s (.bool (jy th m n deep)),.s (.ro (.ad [.str,.str] (bT th m n deep))),.s (.ro (.ad [.str,.int .i64] (aQ th m n deep)))] 131] (hr Tryz.f144 10) (.mk none false 0 [] 0)))))))):=by kernel_rfl
theorem aqP(f:Nat)(th:Th)(m:As)(fu root:Int)(fr fs gn:Ws)(n:Int)(key:ByteArray)(es:List En)(bs:List Br):run P (nG f).sum Tryz.f144 acj (aqO th m fu root fr fs gn n key es bs) (inl:=[fD1])=
 Tree.need (es.length≤100000) (.need (iU (cg es)) (.ite (!lr es key) (.ret [.own [.ptr 1 0,.s (.int .i64 root),.ints .u64 16 fr,.ints .u64 16 fs,.ints .u64 16 gn] 115,.own [.vec 2,.ag 3,.s (.int .i64 fu)] 105,.vec (.ad [.arr .u8 64] th) 165,.map (.arr .u8 64) m,.own [.s (.str key)] 9,.own [.s (.bool true),.emp,.s (.ro (.ad [.str,.int .i64] bs))] 131,.vec (.ad [.str,.str] (dY es key)) 66] (.bg [.emp,.s (.aK .i64 5)])) (.need (bn (some [AV.ptr 0 0,.s (.int .i64 n)])) (.need (bn (some [ab.own [.ptr 1 0,.s (.int .i64 root),.ints .u64 16 fr,.ints .u64 16 fs,.ints .u64 16 gn] 115,.own [.vec 2,.ag 3,.s (.int .i64 fu)] 105,.vec (.ad [.arr .u8 64] th) 165,.map (.arr .u8 64) m])) (.need (bn (some [AV.ptr 0 0,.agg [.s (.bool true),.s (.ro (.ad [.str,.str] (dY es key))),.s (.ro (.ad [.str,.int .i64] bs))]])) (.need (bn (some [ab.own [.ptr 1 0,.s (.int .i64 root),.ints .u64 16 fr,.ints .u64 16 (jB fs n),.ints .u64 16 (ry fs gn n)] 115,.own [.vec 2,.ag 3,.s (.int .i64 fu)] 105,.vec (.ad [.arr .u8 64] th) 165,.map (.arr .u8 64) m])) (.need (Ds.bx th m fu) (.need (Bx.okW fr) (.need (x9 true (dY es key) bs) (.need (bh (dY es key)) (.need (bk bs) (.ret [.own [.ptr 1 0,.s (.int .i64 root),.ints .u64 16 (bJ th m fu fr (jB fs n) true (dY es key) bs).snd.snd.fst,.ints .u64 16 (bJ th m fu fr (jB fs n) true (dY es key) bs).snd.snd.snd.fst,.ints .u64 16 (ry fs gn n)] 115,.own [.vec 2,.ag 3,.s (.int .i64 (bJ th m fu fr (jB fs n) true (dY es key) bs).snd.fst)] 105,.vec (.ad [.arr .u8 64] th) 165,.map (.arr .u8 64) (bJ th m fu fr (jB fs n) true (dY es key) bs).fst,.own [.s (.str key)] 9,.own [.s (.bool true),.vec 6,.s (.ro (.ad [.str,.int .i64] bs))] 131,.dead,.vec (.ad [.str,.int .i64] (bJ th m fu fr (jB fs n) true (dY es key) bs).snd.snd.snd.snd.fst) 137] (.bg [.vec 7,.s (.int .i64 (bJ th m fu fr (jB fs n) true (dY es key) bs).snd.snd.snd.snd.snd)]))))))))))))):=by kernel_rfl
theorem aoC(f:Nat)(th:Th)(m:As)(fu root:Int)(fr fs gn:Ws)(n deep:Int)(key:ByteArray)(l:Bool)(es:List En)(bs:List Br):run P (nG f).sum Tryz.f144 acj (aml th m fu root fr fs gn n deep key l es bs) (inl:=[fD1])=
 Tree.ite ((↑bs.length:Int)==0) (.ret [.own [.ptr 1 0,.s (.int .i64 root),.ints .u64 16 fr,.ints .u64 16 fs,.ints .u64 16 gn] 115,.own [.vec 2,.ag 3,.s (.int .i64 fu)] 105,.vec (.ad [.arr .u8 64] th) 165,.map (.arr .u8 64) m,.own [.s (.str key)] 9,.own [.s (.bool l),.s (.ro (.ad [.str,.str] es)),.s (.ro (.ad [.str,.int .i64] bs))] 131] (.bg [.emp,.s (.aK .i64 4)])) (.need (bs.length≤1000000) (.need (iU (mJ bs)) (.need ((0:Int)≤aX bs key) (.need (aX bs key<(↑bs.length:Int)) (.need (ay (deep+1)) (.need (bn (some [AV.ptr 0 0,.s (.int .i64 (bs.getD (aX bs key).toNat (CL.d [.str,.int .i64])).snd.fst),.s (.int .i64 (deep+1)),.s (.str key),.fn 75 [.ptr 4 0]])) (.need (bn (some [ab.own [.ptr 1 0,.s (.int .i64 root),.ints .u64 16 fr,.ints .u64 16 fs,.ints .u64 16 gn] 115,.own [.vec 2,.ag 3,.s (.int .i64 fu)] 105,.vec (.ad [.arr .u8 64] th) 165,.map (.arr .u8 64) m,.own [.s (.str key)] 9])) (.need (Ds.bx th m fu) (.need (Bx.okW fr) (.need ((0:Int)≤(bs.getD (aX bs key).toNat (CL.d [.str,.int .i64])).snd.fst∧(bs.getD (aX bs key).toNat (CL.d [.str,.int .i64])).snd.fst≤65536) (.need ((1:Int)≤deep+1∧deep+1≤17) (.need ((18:Int)≤deep+1+(↑f:Int)) (.need ((1:Nat)≤key.size∧key.size≤24) (.need (ByteArray.empty.size≤100) (.at (.mk (sl 106 [(0,.ptr 0 0),(1,.s (.int .i64 n)),(12,.ptr 5 0),(13,.s (.int .i64 (aap th key none f m fu fr fs gn (bs.getD (aX bs key).toNat (CL.d [.str,.int .i64])).snd.fst (deep+1)))),(14,.s (.int .i64 (aX bs key))),(15,.vec 6)]) [.own [.ptr 1 0,.s (.int .i64 root),.ints .u64 16 (uh th key none f m fu fr fs gn (bs.getD (aX bs key).toNat (CL.d [.str,.int .i64])).snd.fst (deep+1)),.ints .u64 16 (uZ th key none f m fu fr fs gn (bs.getD (aX bs key).toNat (CL.d [.str,.int .i64])).snd.fst (deep+1)),.ints .u64 16 (yb th key none f m fu fr fs gn (bs.getD (aX bs key).toNat (CL.d [.str,.int .i64])).snd.fst (deep+1))] 115,.own [.vec 2,.ag 3,.s (.int .i64 (ug th key none f m fu fr fs gn (bs.getD (aX bs key).toNat (CL.d [.str,.int .i64])).snd.fst (deep+1)))] 105,.vec (.ad [.arr .u8 64] th) 165,.map (.arr .u8 64) (uf th key none f m fu fr fs gn (bs.getD (aX bs key).toNat (CL.d [.str,.int .i64])).snd.fst (deep+1)),.own [.s (.str key)] 9,.own [.s (.bool l),.s (.ro (.ad [.str,.str] es)),.s (.ro (.ad [.str,.int .i64] bs))] 131,.vec (.ad [.str,.int .i64] (yc th key none f m fu fr fs gn (bs.getD (aX bs key).toNat (CL.d [.str,.int .i64])).snd.fst (deep+1))) 137] (hr Tryz.f144 14) (.mk none false 0 [] 0))))))))))))))))):=by kernel_rfl
theorem aoD(f:Nat)(th:Th)(m:As)(fu root:Int)(fr fs gn:Ws)(n:Int)(key:ByteArray)(l:Bool)(es:List En)(bs:List Br)(k e:Int)(r:List Br):run P (nG f).sum Tryz.f144 acj (amm th m fu root fr fs gn n key l es bs k e r) (inl:=[fD1])=
 Tree.ite (e !=0) (.ret [.own [.ptr 1 0,.s (.int .i64 root),.ints .u64 16 fr,.ints .u64 16 fs,.ints .u64 16 gn] 115,.own [.vec 2,.ag 3,.s (.int .i64 fu)] 105,.vec (.ad [.arr .u8 64] th) 165,.map (.arr .u8 64) m,.own [.s (.str key)] 9,.own [.s (.bool l),.s (.ro (.ad [.str,.str] es)),.s (.ro (.ad [.str,.int .i64] bs))] 131,.vec (.ad [.str,.int .i64] r) 137] (.bg [.emp,.s (.int .i64 e)])) (.ite (decide ((↑r.length:Int)>0)) (.need ((0:Int)≤k) (.need (k<(↑bs.length:Int)) (.need ((0:Int)≤0) (.need ((0:Int)<(↑r.length:Int)) (.at (.mk (sl 106 [(0,.ptr 0 0),(1,.s (.int .i64 n)),(12,.ptr 5 0),(14,.s (.int .i64 k)),(15,.vec 6)]) [.own [.ptr 1 0,.s (.int .i64 root),.ints .u64 16 fr,.ints .u64 16 fs,.ints .u64 16 gn] 115,.own [.vec 2,.ag 3,.s (.int .i64 fu)] 105,.vec (.ad [.arr .u8 64] th) 165,.map (.arr .u8 64) m,.own [.s (.str key)] 9,.own [.s (.bool l),.s (.ro (.ad [.str,.str] es)),.s (.ro (.ad [.str,.int .i64] bs))] 131,.vec (.ad [.str,.int .i64] (r.set 0 ((bs.getD k.toNat (CL.d [.str,.int .i64])).fst,(r.getD 0 (CL.d [.str,.int .i64])).snd))) 137] (hr Tryz.f144 18) (.mk none false 0 [] 0))))))) (.at (.mk (sl 106 [(0,.ptr 0 0),(1,.s (.int .i64 n)),(12,.ptr 5 0),(14,.s (.int .i64 k)),(15,.vec 6)]) [.own [.ptr 1 0,.s (.int .i64 root),.ints .u64 16 fr,.ints .u64 16 fs,.ints .u64 16 gn] 115,.own [.vec 2,.ag 3,.s (.int .i64 fu)] 105,.vec (.ad [.arr .u8 64] th) 165,.map (.arr .u8 64) m,.own [.s (.str key)] 9,.own [.s (.bool l),.s (.ro (.ad [.str,.str] es)),.s (.ro (.ad [.str,.int .i64] bs))] 131,.vec (.ad [.str,.int .i64] r) 137] (hr Tryz.f144 18) (.mk none false 0 [] 0)))):=by kernel_rfl
theorem aoE(f:Nat)(th:Th)(m:As)(fu root:Int)(fr fs gn:Ws)(n:Int)(key:ByteArray)(l:Bool)(es:List En)(bs:List Br)(k:Int)(r:List Br):run P (nG f).sum Tryz.f144 acj (amn th m fu root fr fs gn n key l es bs k r) (inl:=[fD1])=
 Tree.need ((0:Int)≤0)
 (.need ((0:Int)≤k)
   (.need (k≤(↑bs.length:Int))
     (.need (ay (k+1))
       (.need ((0:Int)≤k+1)
         (.need (k+1≤(↑bs.length:Int))
           (.need ((↑bs.length:Int)≤(↑bs.length:Int))
             (.need ([(List.drop (Int.toNat 0) (List.take k.toNat bs),()),(r,()),(List.drop (k+1).toNat (List.take (↑bs.length:Int).toNat bs),())].length≤100)
               (.need ((ct [(List.drop (Int.toNat 0) (List.take k.toNat bs),()),(r,()),(List.drop (k+1).toNat (List.take (↑bs.length:Int).toNat bs),())]).length≤100000)
                 (.need (bn (some [AV.ptr 0 0,.s (.int .i64 n)])) (.need (bn (some [ab.own [.ptr 1 0,.s (.int .i64 root),.ints .u64 16 fr,.ints .u64 16 fs,.ints .u64 16 gn] 115,.own [.vec 2,.ag 3,.s (.int .i64 fu)] 105,.vec (.ad [.arr .u8 64] th) 165,.map (.arr .u8 64) m])) (.need (bn (some [AV.ptr 0 0,.agg [.s (.bool l),.s (.ro (.ad [.str,.str] es)),.s (.ro (.ad [.str,.int .i64] (ct [(List.drop (Int.toNat 0) (List.take k.toNat bs),()),(r,()),(List.drop (k+1).toNat (List.take (↑bs.length:Int).toNat bs),())])))]])) (.need (bn (some [ab.own [.ptr 1 0,.s (.int .i64 root),.ints .u64 16 fr,.ints .u64 16 (jB fs n),.ints .u64 16 (ry fs gn n)] 115,.own [.vec 2,.ag 3,.s (.int .i64 fu)] 105,.vec (.ad [.arr .u8 64] th) 165,.map (.arr .u8 64) m])) (.need (Ds.bx th m fu) (.need (Bx.okW fr) (.need (x9 l es (ct [(List.drop (Int.toNat 0) (List.take k.toNat bs),()),(r,()),(List.drop (k+1).toNat (List.take (↑bs.length:Int).toNat bs),())])) (.need (bh es) (.need (bk (ct [(List.drop (Int.toNat 0) (List.take k.toNat bs),()),(r,()),(List.drop (k+1).toNat (List.take (↑bs.length:Int).toNat bs),())])) (.ret [.own [.ptr 1 0,.s (.int .i64 root),.ints .u64 16 (bJ th m fu fr (jB fs n) l es (ct [(List.drop (Int.toNat 0) (List.take k.toNat bs),()),(r,()),(List.drop (k+1).toNat (List.take (↑bs.length:Int).toNat bs),())])).snd.snd.fst,.ints .u64 16 (bJ th m fu fr (jB fs n) l es (ct [(List.drop (Int.toNat 0) (List.take k.toNat bs),()),(r,()),(List.drop (k+1).toNat (List.take (↑bs.length:Int).toNat bs),())])).snd.snd.snd.fst,.ints .u64 16 (ry fs gn n)] 115,.own [.vec 2,.ag 3,.s (.int .i64 (bJ th m fu fr (jB fs n) l es (ct [(List.drop (Int.toNat 0) (List.take k.toNat bs),()),(r,()),(List.drop (k+1).toNat (List.take (↑bs.length:Int).toNat bs),())])).snd.fst)] 105,.vec (.ad [.arr .u8 64] th) 165,.map (.arr .u8 64) (bJ th m fu fr (jB fs n) l es (ct [(List.drop (Int.toNat 0) (List.take k.toNat bs),()),(r,()),(List.drop (k+1).toNat (List.take (↑bs.length:Int).toNat bs),())])).fst,.own [.s (.str key)] 9,.own [.s (.bool l),.s (.ro (.ad [.str,.str] es)),.vec 8] 131,.dead,.vec (.ad uW [(List.drop (Int.toNat 0) (List.take k.toNat bs),()),(r,()),(List.drop (k+1).toNat (List.take (↑bs.length:Int).toNat bs),())]) 129,.dead,.vec (.ad [.str,.int .i64] (bJ th m fu fr (jB fs n) l es (ct [(List.drop (Int.toNat 0) (List.take k.toNat bs),()),(r,()),(List.drop (k+1).toNat (List.take (↑bs.length:Int).toNat bs),())])).snd.snd.snd.snd.fst) 137] (.bg [.vec 9,.s (.int .i64 (bJ th m fu fr (jB fs n) l es (ct [(List.drop (Int.toNat 0) (List.take k.toNat bs),()),(r,()),(List.drop (k+1).toNat (List.take (↑bs.length:Int).toNat bs),())])).snd.snd.snd.snd.snd)]))))))))))))))))))):=by kernel_rfl
end Ts
namespace Ts
open Go Go.Sx Go.Proofs Lf
def TN:Nat→Type
 |0=>Int×List En
 |h+1=>Int×List (ByteArray×TN h)
abbrev Kd(h:Nat):Type:=ByteArray×TN h
def pg:(h:Nat)→TN h→Int
 |0,t=>t.1
 |_+1,t=>t.1
def aaq:(h:Nat)→TN h→List En
 |0,t=>t.2
 |h+1,t=>t.2.flatMap fun k=>aaq h k.2
def pgs:(h:Nat)→TN h→List Int
 |0,t=>[t.1]
 |h+1,t=>t.1::t.2.flatMap fun k=>pgs h k.2
def brK(h:Nat)(k:Kd h):Br:=(k.1,pg h k.2,())
def aqQ(h:Nat)(ks:List (Kd h)):List En:=ks.flatMap fun k=>aaq h k.2
def ath(h:Nat)(ks:List (Kd h)):List Int:=ks.flatMap fun k=>pgs h k.2
def rep(th:Th)(m:As):(h:Nat)→TN h→Prop
 |0,t=>Rd th m t.1 true t.2 []
 |h+1,t=>Rd th m t.1 false [] (t.2.map (brK h))∧∀k∈t.2,rep th m h k.2
def aqR(h:Nat)(ks:List (Kd h)):Prop:=ks.Pairwise (fun a b=>∀e∈aaq h a.2,slt e.1 b.1=true)∧∀k∈ks,∀e∈aaq h k.2,slt e.1 k.1=false
def amo{h:Nat}:List (Kd h)→List (Kd h)
 |[]=>[]
 |k::r=>(ByteArray.empty,k.2)::r
def szK(h:Nat)(ks:List (Kd h)):Int:=cH [] (ks.map (brK h))
def okT:(h:Nat)→TN h→Prop
 |0,t=>t.2≠[]∧nn t.2=true∧cH t.2 []≤254
 |h+1,t=>t.2≠[]∧amo t.2=t.2∧np (t.2.map (brK h))=true∧szK h t.2≤254∧aqR h t.2∧∀k∈t.2,okT h k.2
def ovr(n:Int):Nat:=(n - 155).toNat
def pot:(h:Nat)→TN h→Nat
 |0,_=>0
 |h+1,t=>3^(h+1)*(19+ovr (szK h t.2))+(t.2.map fun k=>pot h k.2).sum
theorem afn{h:Nat}(t:TN (h+1)):aaq (h+1) t=aqQ h t.2:=rfl
theorem yd:∀(h:Nat) (t:TN h),pg h t∈pgs h t
 |0,t=>List.mem_singleton.2 rfl
 |h+1,t=>List.mem_cons_self
theorem adH:∀(h:Nat) {t:TN h},okT h t→aaq h t≠[]
 |0,t,ok=>ok.1
 |h+1,t,ok=>by
  obtain⟨h1,_,_,_,_,h6⟩:=ok;obtain⟨k,r,e⟩:=List.exists_cons_of_ne_nil h1;have:=adH h (h6 k (by rw[e];exact List.mem_cons_self));rw[afn,e];show aaq h k.2++_≠[];intro hn;exact this (List.append_eq_nil_iff.1 hn).1
theorem ack(x:Br):3≤szB x:=by unfold szB;omega
theorem aoF(x:En):2≤szE x:=by unfold szE;omega
def rz(bs:List Br):Int:=(bs.map szB).sum
theorem mN:rz []=0:=rfl
theorem hH(b:Br)(r:List Br):rz (b::r)=szB b+rz r:=by simp[rz]
theorem akA(bs:List Br):0≤rz bs:=by
 induction bs with
 |nil=>simp[mN]
 |cons b r ih=>rw[hH];have:=ack b;omega
theorem afo(bs:List Br):rz (aa bs)≤rz bs:=by
 cases bs with
 |nil=>exact Int.le_refl _
 |cons b r=>
  rw[aa,hH,hH];have:szB (ByteArray.empty,b.2.1,())=3:=rfl;have:=ack b;omega
theorem ah4{bs:List Br}:np bs=true↔(∀b∈bs,b.1.size≤24∧2≤b.2.1∧b.2.1<1024)∧bs.Pairwise fun a b=>slt a.1 b.1=true:=by
 constructor
 ·intro h;refine⟨fun b hb=>ahm h hb, ?_⟩;have hs:=aqd h;rw[List.pairwise_iff_getElem];intro i j hi hj kP;have:=hs i j kP (by simpa using hj);rw[eH bs aeX dB i,eH bs aeX dB j,bM hi,bM hj]at this;exact this
 ·rintro⟨h1,h2⟩;refine dw.2 fun i hi=>pD.2 ?_;obtain⟨a,b,c⟩:=h1 (bs.getD i dB) (by rw[bM hi];exact List.getElem_mem hi);refine⟨by omega,by omega,by omega,fun h0=> ?_⟩;rw[List.pairwise_iff_getElem]at h2;have:=h2 (i - 1) i (by omega) hi (by omega);rw[bM (by omega),bM hi];exact this
end Ts
namespace Ts
open Go Go.Sx Go.Proofs Lf
structure S5 where
 m:As
 fu:Int
 fr:Ws
 fs:Ws
 gn:Ws
structure okS (th:Th) (s:S5):Prop where
 d:Ds.bx th s.m s.fu
 fr:Bx.okW s.fr
 fs:Bx.okW s.fs
 gn:Bx.okW s.gn
 pg:∀p,In s.fr p→2≤p∧Ds.pOk th p=true
structure Eff (th:Th) (s t:S5) (N V:List Int):Prop where
 ok:okS th t
 nd:N.Nodup
 sub:∀p∈N,In s.fr p
 fr:∀p,In t.fr p↔In s.fr p∧p ∉ N
 fs:∀p,In t.fs p↔(In s.fs p∧p ∉ V)∨p∈N
 gn:∀p,In t.gn p↔In s.gn p∨(In s.fs p∧p∈V)
 rd:∀p,¬In s.fr p→Ds.n9 th t.m p=Ds.n9 th s.m p∧Ds.j6 th t.m p=Ds.j6 th s.m p
 fu:s.fu= -1→t.fu= -1
 lo:s.fu= -1→(∀p∈N,∀q,In s.fr q→q<p→q∈N)∧∀p,p ∉ N→Ds.n9 th t.m p=Ds.n9 th s.m p∧Ds.j6 th t.m p=Ds.j6 th s.m p
theorem akB{bs:List Br}:3*(bs.length:Int)≤rz bs:=by
 induction bs with
 |nil=>simp[mN]
 |cons b r ih=>rw[hH,List.length_cons];have:=ack b;omega
theorem ah5(bs:List Br):cH [] bs=1+rz bs:=by simp[cH,rz]
theorem akC{es:List En}:2*(es.length:Int)≤(es.map szE).sum:=by
 induction es with
 |nil=>simp
 |cons b r ih=>rw[List.map_cons,List.sum_cons,List.length_cons];have:=aoF b;omega
theorem Eff.rep{th:Th}{s t:S5}{N V:List Int}(h:Eff th s t N V):∀(k:Nat) {x:TN k},Ts.rep th s.m k x→(∀p∈pgs k x,¬In s.fr p)→Ts.rep th t.m k x
 |0,x,hr,hp=>Rd.same hr (h.rd _ (hp _ (yd 0 x)))
 |k+1,x,hr,hp=>⟨Rd.same hr.1 (h.rd _ (hp _ (yd (k+1) x))),fun y hy=>h.rep k (hr.2 y hy) fun p hpp=>hp p (List.mem_cons_of_mem _ (List.mem_flatMap.2 ⟨y,hy,hpp⟩))⟩
end Ts
namespace Ts
open Go Go.Sx Go.Proofs Lf
theorem ey{th:Th}{m:As}{n deep:Int}(h:fF th m n deep=0):eu (jy th m n deep) (bT th m n deep) (aQ th m n deep)=true∧(bT th m n deep).length≤126∧(aQ th m n deep).length≤84∧bh (bT th m n deep)∧bk (aQ th m n deep)∧
 deep≤16∧cH (bT th m n deep) (aQ th m n deep)≤254:=by
 unfold fF at h;split at h
 ·cases h
 ·rename_i hd;split at h
  ·rename_i hg;have e0:qD th m n deep=true:=by unfold qD;rw[decide_eq_true hg,decide_eq_true (by omega)];rfl
   obtain⟨a,b,c,_,e⟩:=ajT h;have sz:=(qx.1 c).2;have e1:bT th m n deep=oa (Ds.j6 th m n):=by unfold bT;rw[if_pos e0]
   have e2:aQ th m n deep=nq (Ds.j6 th m n):=by unfold aQ;rw[if_pos e0]
   have e3:jy th m n deep=jL (Ds.j6 th m n):=by unfold jy;rw[e0,Bool.true_and]
   rw[e1,e2,e3];have s1:=akC (es:=oa (Ds.j6 th m n));have s2:=akB (bs:=nq (Ds.j6 th m n));have s3:=akA (nq (Ds.j6 th m n));unfold cH at sz;unfold rz at s2 s3;refine⟨e,by omega,by omega,a,b,by omega, ?_⟩;unfold cH;exact sz
  ·rename_i hg;exact absurd h hg
abbrev ui(es:List En):Prop:=∀x∈es,x.1.size≤24
abbrev jv(bs:List Br):Prop:=∀x∈bs,x.1.size≤24
theorem aar{l:Bool}{es:List En}{bs:List Br}(he:ui es)(hb:jv bs):(gX l es bs).size≤24:=by
 unfold gX;split
 ·cases es with
  |nil=>exact Nat.zero_le _
  |cons e r=>exact he e List.mem_cons_self
 ·cases bs with
  |nil=>exact Nat.zero_le _
  |cons e r=>exact hb e List.mem_cons_self
theorem ye{th:Th}{m:As}{fu:Int}{fr fs:Ws}{l:Bool}{es:List En}{bs:List Br}(he:ui es)(hb:jv bs):(bU th m fu fr fs l es bs).2.2.2.2.1.1.size≤24:=by
 unfold bU;split
 ·exact Nat.zero_le _
 ·split
  ·exact Nat.zero_le _
  ·split
   ·exact Nat.zero_le _
   ·exact aar he hb
theorem ah6{bs:List Br}(h:jv bs):jv (aa bs):=by
 cases bs with
 |nil=>exact h
 |cons b r=>
  intro x hx;rcases List.mem_cons.1 hx with rfl|hx
  ·exact Nat.zero_le _
  ·exact h x (List.mem_cons_of_mem _ hx)
theorem akD{l:Bool}{es:List En}{bs:List Br}(he:ui es):ui (bF l es bs)∧ui (fv l es bs):=by
 unfold bF fv;split
 ·exact⟨fun x hx=>he x (List.mem_of_mem_take hx),fun x hx=>he x (List.mem_of_mem_drop hx)⟩
 ·exact⟨fun x hx=>(by cases hx),fun x hx=>(by cases hx)⟩
theorem akE{l:Bool}{es:List En}{bs:List Br}(he:jv bs):jv (bG l es bs)∧jv (fw l es bs):=by
 unfold bG fw;split
 ·exact⟨fun x hx=>he x (List.mem_of_mem_take hx),fun x hx=>he x (List.mem_of_mem_drop hx)⟩
 ·exact⟨fun x hx=>(by cases hx),fun x hx=>(by cases hx)⟩
theorem acm{th:Th}{m:As}{fu:Int}{fr fs:Ws}{l:Bool}{es:List En}{bs:List Br}(hf:Bx.okW fr):0≤(bU th m fu fr fs l es bs).2.2.2.2.1.2.1∧(bU th m fu fr fs l es bs).2.2.2.2.1.2.1≤65536:=by
 have z:0≤dB.2.1∧dB.2.1≤65536:=⟨Int.le_refl 0,by show(0:Int)≤65536;omega⟩;unfold bU;split
 ·exact z
 ·rename_i h;have:=ue hf (by simpa using h);split
  ·exact z
  ·split
   ·exact z
   ·exact⟨by show 0≤Bx.bS fr 0;omega,by show Bx.bS fr 0≤65536;omega⟩
theorem noE{q:En→Prop}:∀b∈([]:List En),q b:=fun b hb=>by cases hb
theorem noB{q:Br→Prop}:∀b∈([]:List Br),q b:=fun b hb=>by cases hb
structure ah7 (th:Th) (m:As) (fu:Int) (fr:Ws) (l:List Br):Prop where
 d:Ds.bx th m fu
 fr:Bx.okW fr
 two:l.length≤2
 key:jv l
 pg:∀b∈l,0≤b.2.1∧b.2.1≤65536
theorem mO{th:Th}{m:As}{fu:Int}{fr fs:Ws}{l:Bool}{es:List En}{bs:List Br}(hd:Ds.bx th m fu)(hf:Bx.okW fr)(he:ui es)(hb:jv bs):
 ah7 th (bJ th m fu fr fs l es bs).1 (bJ th m fu fr fs l es bs).2.1 (bJ th m fu fr fs l es bs).2.2.1 (bJ th m fu fr fs l es bs).2.2.2.2.1:=by
 have hbb:=ah6 hb;have nil:jv ([]:List Br):=fun b hb=>by cases hb
 unfold bJ;split
 ·exact⟨hd,hf,Nat.zero_le _,nil,noB⟩
 ·split
  ·obtain⟨a,b⟩:=ya (fs:=fs) (l:=l) (es:=es) (bs:=aa bs) hd hf;refine⟨a,b,by show 1≤2;omega,fun x hx=> ?_,fun x hx=> ?_⟩
   ·rw[List.mem_singleton.1 hx];exact ye he hbb
   ·rw[List.mem_singleton.1 hx];exact acm hf
  ·split
   ·exact⟨hd,hf,Nat.zero_le _,nil,noB⟩
   ·obtain⟨s1,s2⟩:=akD (l:=l) (bs:=aa bs) he;obtain⟨s3,s4⟩:=akE (l:=l) (es:=es) hbb;obtain⟨a,b⟩:=ya (fs:=fs) (l:=cU l es (aa bs)) (es:=bF l es (aa bs)) (bs:=bG l es (aa bs)) hd hf;simp only[];split
    ·exact⟨a,b,Nat.zero_le _,nil,noB⟩
    ·obtain⟨c,d⟩:=ya (fs:=(bU th m fu fr fs (cU l es (aa bs)) (bF l es (aa bs)) (bG l es (aa bs))).2.2.2.1) (l:=cU l es (aa bs)) (es:=fv l es (aa bs)) (bs:=fw l es (aa bs)) a b;refine⟨c,d,Nat.le_refl 2,fun x hx=> ?_,fun x hx=> ?_⟩
     ·rcases List.mem_cons.1 hx with rfl|hx
      ·exact ye s1 s3
      ·rw[List.mem_singleton.1 hx];exact ye s2 s4
     ·rcases List.mem_cons.1 hx with rfl|hx
      ·exact acm hf
      ·rw[List.mem_singleton.1 hx];exact acm b
theorem ah8{key:ByteArray}{op:Option ByteArray}{es:List En}(hk:key.size≤24)(he:ui es):ui (doE key op es):=by
 cases op with
 |some v=>
  show ui (fx es key v);intro x hx;unfold fx at hx;rcases List.mem_append.1 hx with hx|hx
  ·exact he x (List.mem_of_mem_take hx)
  ·rcases List.mem_cons.1 hx with rfl|hx
   ·exact hk
   ·exact he x (List.mem_of_mem_drop hx)
 |none=>
  show ui (if lr es key=true then dY es key else []);split
  ·exact fun x hx=>he x (List.mem_filter.1 hx).1
  ·exact fun x hx=>by cases hx
theorem ni{key:ByteArray}{op:Option ByteArray}{es:List En}(hk:key.size≤24)(hv:∀v,op=some v→v.size≤100)(hl:es.length≤126)(he:bh es):bh (doE key op es):=by
 cases op with
 |some v=>
  have hv:=hv v rfl;show bh (fx es key v);refine⟨by rw[aj6];split<;>omega,fun x hx=> ?_⟩;unfold fx at hx;rcases List.mem_append.1 hx with hx|hx
  ·exact he.2 x (List.mem_of_mem_take hx)
  ·rcases List.mem_cons.1 hx with rfl|hx
   ·exact⟨by show key.size≤1000;omega,by show v.size≤1000;omega⟩
   ·exact he.2 x (List.mem_of_mem_drop hx)
 |none=>
  show bh (if lr es key=true then dY es key else []);split
  ·exact⟨Nat.le_trans (List.length_filter_le _ _) he.1,fun x hx=>he.2 x ((List.mem_filter.1 hx).1)⟩
  ·exact js
theorem acn{k:ByteArray}{r:List Br}(hk:k.size≤24)(h:jv r):jv (uc k r):=by
 cases r with
 |nil=>exact h
 |cons b r=>
  intro x hx;rcases List.mem_cons.1 hx with rfl|hx
  ·exact hk
  ·exact h x (List.mem_cons_of_mem _ hx)
theorem ah9(k:ByteArray)(r:List Br):(uc k r).length=r.length:=by cases r<;>rfl
theorem od{bs:List Br}(hb:jv bs)(k:Nat):(bs.getD k dB).1.size≤24:=by
 rcases Nat.lt_or_ge k bs.length with h|h
 ·rw[bM h];exact hb _ (List.getElem_mem h)
 ·rw[List.getD,List.getElem?_eq_none h];exact Nat.zero_le _
theorem adI{bs r:List Br}{k:Nat}{s:ByteArray}(hb:jv bs)(hk:jv r)(hs:s.size≤24):jv (bs.take k++uc s r++bs.drop (k+1)):=fun x hx=>by
 rcases List.mem_append.1 hx with hx|hx
 ·rcases List.mem_append.1 hx with hx|hx
  ·exact hb x (List.mem_of_mem_take hx)
  ·exact acn hs hk x hx
 ·exact hb x (List.mem_of_mem_drop hx)
theorem uj{bs r:List Br}{k:Nat}{s:ByteArray}(hb:jv bs)(hl:bs.length≤84)(hr:r.length≤2)(hk:jv r)(hs:s.size≤24):bk (bs.take k++uc s r++bs.drop (k+1)):=by
 refine⟨?_,fun x hx=>Nat.le_trans (adI hb hk hs x hx) (by omega)⟩;rw[List.length_append,List.length_append,ah9,List.length_take,List.length_drop];omega
theorem aas{l:Bool}{es:List En}{bs:List Br}(h:eu l es bs=true):ui es∧jv bs:=by
 obtain⟨_,_,h1,h2⟩:=eI h;exact⟨fun x hx=>(anS h1 hx).1,fun x hx=>(ahm h2 hx).1⟩
theorem pI{th:Th}{key:ByteArray}{op:Option ByteArray}(hk:key.size≤24):∀(f:Nat) {m:As} {fu:Int} {fr fs gn:Ws} {n deep:Int},Ds.bx th m fu→Bx.okW fr→
 ah7 th (uf th key op f m fu fr fs gn n deep) (ug th key op f m fu fr fs gn n deep) (uh th key op f m fu fr fs gn n deep) (yc th key op f m fu fr fs gn n deep)
 |0,m,fu,fr,fs,gn,n,deep,hd,hf=>⟨hd,hf,Nat.zero_le _,noB,noB⟩
 |f+1,m,fu,fr,fs,gn,n,deep,hd,hf=>by
  have nil:jv ([]:List Br):=fun b hb=>by cases hb
  unfold uf ug uh yc x6;split
  ·exact⟨hd,hf,Nat.zero_le _,nil,noB⟩
  ·rename_i h0;obtain⟨hm,_⟩:=ey (by simpa using h0);obtain⟨n3,n4⟩:=aas hm;split
   ·split
    ·exact⟨hd,hf,Nat.zero_le _,nil,noB⟩
    ·exact mO hd hf (ah8 hk n3) n4
   ·split
    ·exact⟨hd,hf,Nat.zero_le _,nil,noB⟩
    ·simp only[];have r:=pI (op:=op) hk f (fs:=fs) (gn:=gn) (n:=((aQ th m n deep).getD (aX (aQ th m n deep) key).toNat dB).2.1) (deep:=deep+1) hd hf;split
     ·exact⟨r.d,r.fr,Nat.zero_le _,nil,noB⟩
     ·exact mO r.d r.fr n3 (adI n4 r.key (od n4 _))
end Ts
namespace Ts
open Go Go.Sx Go.Proofs Lf
theorem iW{th:Th}{key:ByteArray}{op:Option ByteArray}{f:Nat}{m:As}{fu:Int}{fr fs gn:Ws}{n deep:Int}:x6 th key op (f+1) m fu fr fs gn n deep=
 if fF th m n deep≠0 then(m,fu,fr,fs,gn,[],fF th m n deep)
 else if jy th m n deep=true then
  if doC key op (bT th m n deep)≠0 then(m,fu,fr,fs,gn,[],doC key op (bT th m n deep))
  else ju (ry fs gn n) (bJ th m fu fr (jB fs n) true (doE key op (bT th m n deep)) (aQ th m n deep))
 else if aQ th m n deep=[]then(m,fu,fr,fs,gn,[],4)
 else if aap th key op f m fu fr fs gn ((aQ th m n deep).getD (aX (aQ th m n deep) key).toNat dB).2.1 (deep+1)≠0 then
  (uf th key op f m fu fr fs gn ((aQ th m n deep).getD (aX (aQ th m n deep) key).toNat dB).2.1 (deep+1),ug th key op f m fu fr fs gn ((aQ th m n deep).getD (aX (aQ th m n deep) key).toNat dB).2.1 (deep+1),
   uh th key op f m fu fr fs gn ((aQ th m n deep).getD (aX (aQ th m n deep) key).toNat dB).2.1 (deep+1),uZ th key op f m fu fr fs gn ((aQ th m n deep).getD (aX (aQ th m n deep) key).toNat dB).2.1 (deep+1),
   yb th key op f m fu fr fs gn ((aQ th m n deep).getD (aX (aQ th m n deep) key).toNat dB).2.1 (deep+1),[],aap th key op f m fu fr fs gn ((aQ th m n deep).getD (aX (aQ th m n deep) key).toNat dB).2.1 (deep+1))
 else ju (ry (uZ th key op f m fu fr fs gn ((aQ th m n deep).getD (aX (aQ th m n deep) key).toNat dB).2.1 (deep+1)) (yb th key op f m fu fr fs gn ((aQ th m n deep).getD (aX (aQ th m n deep) key).toNat dB).2.1 (deep+1)) n)
  (bJ th (uf th key op f m fu fr fs gn ((aQ th m n deep).getD (aX (aQ th m n deep) key).toNat dB).2.1 (deep+1)) (ug th key op f m fu fr fs gn ((aQ th m n deep).getD (aX (aQ th m n deep) key).toNat dB).2.1 (deep+1))
    (uh th key op f m fu fr fs gn ((aQ th m n deep).getD (aX (aQ th m n deep) key).toNat dB).2.1 (deep+1)) (jB (uZ th key op f m fu fr fs gn ((aQ th m n deep).getD (aX (aQ th m n deep) key).toNat dB).2.1 (deep+1)) n) false (bT th m n deep)
    ((aQ th m n deep).take (aX (aQ th m n deep) key).toNat++uc ((aQ th m n deep).getD (aX (aQ th m n deep) key).toNat dB).1 (yc th key op f m fu fr fs gn ((aQ th m n deep).getD (aX (aQ th m n deep) key).toNat dB).2.1 (deep+1))++(aQ th m n deep).drop ((aX (aQ th m n deep) key).toNat+1))):=rfl
def aqS(bs r:List Br)(k:Int):List Br:=ct [(List.drop (Int.toNat 0) (List.take k.toNat bs),()),(r,()),(List.drop (k+1).toNat (List.take (bs.length:Int).toNat bs),())]
theorem aat{bs r:List Br}{k:Int}(h0:0≤k):aqS bs r k=bs.take k.toNat++r++bs.drop (k.toNat+1):=by
 show List.drop 0 (List.take k.toNat bs)++(r++(List.drop (k+1).toNat (List.take (bs.length:Int).toNat bs)++[]))=_;rw[List.append_nil,List.drop_zero,List.append_assoc,show(bs.length:Int).toNat=bs.length from rfl,List.take_length,show(k+1).toNat=k.toNat+1 from by omega]
theorem aia{th:Th}{m:As}{fu root:Int}{fr fs gn:Ws}{n deep:Int}{key val:ByteArray}{f:Nat}{c:Chg}(e:x6 th key (some val) f m fu fr fs gn n deep=c):
 (u4 f).ez ((th,m,fu,root,fr,fs,gn),n,deep,key,val)=pG th c.1 c.2.1 root c.2.2.1 c.2.2.2.1 c.2.2.2.2.1 key val++[.vec (.ad cB c.2.2.2.2.2.1) Lf.eB]∧(u4 f).out ((th,m,fu,root,fr,fs,gn),n,deep,key,val)=.bg [.vec 6,bE c.2.2.2.2.2.2]:=by
 subst e;exact⟨rfl,rfl⟩
theorem afp{th:Th}{m:As}{fu root:Int}{fr fs gn:Ws}{n deep:Int}{key val:ByteArray}{f:Nat}{c:Chg}(e:x6 th key none f m fu fr fs gn n deep=c):
 (u5 f).ez ((th,m,fu,root,fr,fs,gn),n,deep,key,val)=pH th c.1 c.2.1 root c.2.2.1 c.2.2.2.1 c.2.2.2.2.1 key++[.vec (.ad cB c.2.2.2.2.2.1) Lf.eB]∧(u5 f).out ((th,m,fu,root,fr,fs,gn),n,deep,key,val)=.bg [.vec 5,bE c.2.2.2.2.2.2]:=by
 subst e;exact⟨rfl,rfl⟩
theorem qF{bs:List Br}{key:ByteArray}(hs:iU (mJ bs))(h:bs≠[]):0≤aX bs key∧aX bs key<(bs.length:Int):=by
 obtain⟨p,e,hp,_⟩:=ab4 (ks:=mJ bs) (key:=key) hs (by cases bs with|nil=>exact absurd rfl h|cons b r=>simp);unfold aX;rw[e];rw[List.length_map]at hp;exact⟨by omega,by omega⟩
theorem aau{r:List Br}{k:ByteArray}(h:0<r.length):(r.set 0 (k,(r.getD 0 (CL.d [CK.str,CK.int IntKind.i64])).snd):List Br)=uc k r:=by
 cases r with
 |nil=>simp at h
 |cons b r=>rfl
theorem ri{n:Int}(h0: -65537≤n)(h1:n≤65537):ay n:=⟨by omega,by omega⟩
theorem qG{th:Th}{m:As}{n deep:Int}(h:fF th m n deep=0)(k:Nat):0≤((aQ th m n deep).getD k dB).2.1∧((aQ th m n deep).getD k dB).2.1≤65536:=by
 obtain⟨hm,_⟩:=ey h;rcases Nat.lt_or_ge k (aQ th m n deep).length with hk|hk
 ·have:=ahm (eI hm).2.2.2 (List.getElem_mem hk);rw[bM hk];omega
 ·rw[List.getD,List.getElem?_eq_none hk];exact⟨Int.le_refl 0,by show(0:Int)≤65536;omega⟩
theorem aib{f:Nat}(h:fC P Bx.bO 144 (u4 f)):(nF f).Ok P Bx.bO:=aH.Ok.cons (ng.sum mNo) (aH.Ok.cons (ud.sum mLv) (aH.Ok.cons (gZ (fW (jc.sum mTN) 1 _) 1) (aH.Ok.cons ahD.tg (aH.Ok.cons pj.sum (aH.Ok.cons qE.sum (aH.Ok.cons (h.sum aky) aH.Ok.nil))))))
section
variable{th:Th}{m:As}{fu root:Int}{fr fs gn:Ws}{n deep:Int}{key val:ByteArray}{f:Nat}{X:Ctx}
theorem aav{th:Th}{m:As}{fu root:Int}{fr fs gn:Ws}{key val:ByteArray}:∀y∈aci,(pG th m fu root fr fs gn key val).length≤y.2.m:=fun y hy=>by
 simp only[aci,List.mem_cons,List.not_mem_nil,or_false]at hy;rcases hy with rfl|rfl|rfl|rfl<;>exact Nat.le_refl _
theorem adJ(hz:dP Bx.bO X)(hX:X.H=lk (pG th m fu root fr fs gn key val))(T:(nF f).Ok P Bx.bO){m':As}{iB:Int}{u6 oq gn':Ws}{l:Bool}{es:List En}{bs:List Br}{k:Int}{r:List Br}(hd:Ds.bx th m' iB)(hf:Bx.okW u6)(hl:l=false∧es=[])(he:bh es)
 (hb:bk (bs.take k.toNat++r++bs.drop (k.toNat+1))) (hk0:0≤k) (hk1:k<(bs.length:Int)) (hbl:bs.length≤84)
 (e:x6 th key (some val) (f+1) m fu fr fs gn n deep=ju (ry oq gn' n) (bJ th m' iB u6 (jB oq n) l es (bs.take k.toNat++r++bs.drop (k.toNat+1)))):
 Safe P 144 X (uY (u4 (f+1)) ((th,m,fu,root,fr,fs,gn),n,deep,key,val)) (amk th m' iB root u6 oq gn' n key val l es bs k r):=by
 rw[←aat hk0]at hb e;have hjl:=hb.1;obtain⟨f1,f2⟩:=aia (root:=root) (val:=val) e;refine Ds.cR hz hX aav T Tryz.func144 (aoB f th m' iB root u6 oq gn' n key val l es bs k r) ⟨by omega,hk0,by omega,⟨by omega,by omega⟩,by omega,by omega,by omega,by show 3≤100;omega, ?_,rfl,rfl,rfl,rfl,hd,hf,⟨fun h=>(by rw[hl.1]at h;cases h),fun _=>hl.2⟩,he,hb, ?_⟩
 ·exact Nat.le_trans hjl (by omega)
 ·exact jC ⟨[],[0,1],6,[]⟩ rfl (Nat.le_refl _) (nE.same _) f2 f1
theorem akF(hz:dP Bx.bO X)(hX:X.H=lk (pG th m fu root fr fs gn key val))(T:(nF f).Ok P Bx.bO){m':As}{iB:Int}{u6 oq gn':Ws}{l:Bool}{es:List En}{bs:List Br}{k e:Int}{r:List Br}(hd:Ds.bx th m' iB)(hf:Bx.okW u6)(hl:l=false∧es=[])(he:bh es)
 (hb:bk (bs.take k.toNat++uc (bs.getD k.toNat dB).1 r++bs.drop (k.toNat+1))) (hk0:0≤k) (hk1:k<(bs.length:Int)) (hbl:bs.length≤84)
 (ee:x6 th key (some val) (f+1) m fu fr fs gn n deep=if e≠0 then(m',iB,u6,oq,gn',[],e)else ju (ry oq gn' n) (bJ th m' iB u6 (jB oq n) l es (bs.take k.toNat++uc (bs.getD k.toNat dB).1 r++bs.drop (k.toNat+1)))):
 Safe P 144 X (uY (u4 (f+1)) ((th,m,fu,root,fr,fs,gn),n,deep,key,val)) (amj th m' iB root u6 oq gn' n key val l es bs k e r):=by
 refine Ds.cR hz hX aav T Tryz.func144 (aoA f th m' iB root u6 oq gn' n key val l es bs k e r) ⟨fun h=> ?_,fun h=>⟨fun h5=> ?_,fun h5=> ?_⟩⟩
 ·have h:e≠0:=by simpa using h
  rw[if_pos h]at ee;obtain⟨f1,f2⟩:=aia (root:=root) (val:=val) ee;exact jC ⟨[(0,.ad cB [],Lf.eB)],[0,1],6,[]⟩ rfl (Nat.le_refl _) (nE.same _) f2 f1
 ·have h:¬e≠0:=by simpa using h
  rw[if_neg h]at ee;have h5:=of_decide_eq_true h5;have e5:=aau (r:=r) (k:=(bs.getD k.toNat dB).1) (by omega);rw[←e5]at hb ee;exact⟨hk0,hk1,by omega,h5,adJ hz hX T hd hf hl he hb hk0 hk1 hbl ee⟩
 ·have h:¬e≠0:=by simpa using h
  rw[if_neg h]at ee;have h5:=of_decide_eq_false h5;have e5:r=[]:=List.eq_nil_of_length_eq_zero (by omega);subst e5;exact adJ hz hX T hd hf hl he hb hk0 hk1 hbl ee
theorem akG(hz:dP Bx.bO X)(hX:X.H=lk (pG th m fu root fr fs gn key val))(T:(nF f).Ok P Bx.bO)(hd:Ds.bx th m fu)(hf:Bx.okW fr)(h1:1≤deep∧deep≤17)(h2:18≤deep+((f+1:Nat):Int))(hk:1≤key.size∧key.size≤24)(hv:val.size≤100)
 (h:fF th m n deep=0) (hl:jy th m n deep=false):
 Safe P 144 X (uY (u4 (f+1)) ((th,m,fu,root,fr,fs,gn),n,deep,key,val)) (ami th m fu root fr fs gn n deep key val (jy th m n deep) (bT th m n deep) (aQ th m n deep)):=by
 obtain⟨hm,n1,n2,n3,n4,n5,_⟩:=ey h;obtain⟨m1,m2,_,_⟩:=eI hm;obtain⟨s1,s2⟩:=pE hm;have hkk:∀v:ByteArray,(some val)=some v→v.size≤100:=fun v e=>by cases e;exact hv
 refine Ds.cR hz hX aav T Tryz.func144 (aoz f th m fu root fr fs gn n deep key val (jy th m n deep) (bT th m n deep) (aQ th m n deep)) ⟨fun h3=> ?_,fun h3=> ?_⟩
 ·have h3:aQ th m n deep=[]:=List.eq_nil_of_length_eq_zero (by have:((aQ th m n deep).length:Int)=0:=by simpa using h3
                                                               omega)
  obtain⟨f1,f2⟩:=aia (val:=val) (root:=root) (th:=th) (m:=m) (fu:=fu) (fr:=fr) (fs:=fs) (gn:=gn) (key:=key) (f:=f+1) (n:=n) (deep:=deep) (c:=(m,fu,fr,fs,gn,[],4)) (by rw[iW,if_neg (by rw[h];simp),if_neg (by rw[hl];simp),if_pos h3]);exact jC ⟨[(0,.ad cB [],Lf.eB)],[0,1],6,[]⟩ rfl (Nat.le_refl _) (nE.same _) f2 f1
 ·have h3:aQ th m n deep≠[]:=fun e=>by rw[e]at h3;simp at h3
  obtain⟨p0,p1⟩:=qF (key:=key) s2 h3;have pg:=qG h (aX (aQ th m n deep) key).toNat;have yf:=pI (th:=th) (key:=key) (op:=(some val)) hk.2 f (m:=m) (fu:=fu) (fr:=fr) (fs:=fs) (gn:=gn) (n:=((aQ th m n deep).getD (aX (aQ th m n deep) key).toNat dB).2.1) (deep:=deep+1) hd hf;have hb:=uj (bs:=aQ th m n deep) (k:=(aX (aQ th m n deep) key).toNat) (aas hm).2 n2 yf.two yf.key (od (aas hm).2 (aX (aQ th m n deep) key).toNat);refine⟨by omega,s2,p0,p1,ri (by omega) (by omega),rfl,rfl,hd,hf,pg,⟨by omega,by omega⟩,by omega,hk,hv,akF hz hX T yf.d yf.fr ⟨hl,m2 hl⟩ n3 hb p0 p1 n2 ?_⟩;rw[iW,if_neg (by rw[h];simp),if_neg (by rw[hl];simp),if_neg h3,hl];rfl
theorem aoG(hz:dP Bx.bO X)(hX:X.H=lk (pG th m fu root fr fs gn key val))(T:(nF f).Ok P Bx.bO)(hd:Ds.bx th m fu)(hf:Bx.okW fr)(hk:1≤key.size∧key.size≤24)(hv:val.size≤100)
 (h:fF th m n deep=0) (hl:jy th m n deep=true):
 Safe P 144 X (uY (u4 (f+1)) ((th,m,fu,root,fr,fs,gn),n,deep,key,val)) (aqM th m fu root fr fs gn n key val (bT th m n deep) (aQ th m n deep)):=by
 obtain⟨hm,n1,n2,n3,n4,n5,_⟩:=ey h;obtain⟨m1,m2,_,_⟩:=eI hm;obtain⟨s1,s2⟩:=pE hm;have hkk:∀v:ByteArray,(some val)=some v→v.size≤100:=fun v e=>by cases e;exact hv
 obtain⟨f1,f2⟩:=aia (val:=val) (root:=root) (th:=th) (m:=m) (fu:=fu) (fr:=fr) (fs:=fs) (gn:=gn) (key:=key) (f:=f+1) (n:=n) (deep:=deep) (c:=ju (ry fs gn n) (bJ th m fu fr (jB fs n) true (fx (bT th m n deep) key val) (aQ th m n deep))) (by rw[iW,if_neg (by rw[h];simp),if_pos hl,if_neg (by show¬(0:Int)≠0;simp)];rfl);refine Ds.cR hz hX aav T Tryz.func144 (aqN f th m fu root fr fs gn n key val (bT th m n deep) (aQ th m n deep)) ⟨by omega,s1,rfl,rfl,rfl,rfl,hd,hf,⟨fun _=>m1 hl,fun e=>by cases e⟩,ni (op:=some val) hk.2 hkk n1 n3,n4, ?_⟩;exact jC ⟨[],[0,1],6,[]⟩ rfl (Nat.le_refl _) (nE.same _) f2 f1
theorem uk:∀f,fC P Bx.bO 144 (u4 f)
 |0=>by
  rintro⟨⟨(th:Th),(m:As),(fu:Int),(root:Int),(fr:Ws),(fs:Ws),(gn:Ws)⟩,(n:Int),(deep:Int),(key:ByteArray),(val:ByteArray)⟩ ⟨_,_,_,(h1:1≤deep∧deep≤17),(h2:18≤deep+((0:Nat):Int)),_⟩;omega
 |f+1=>by
  have T:=aib (uk f);refine fy Tryz.func144 (by kernel_rfl) (fun x=>Nat.le_of_ble_eq_true (by kernel_rfl)) ?_;rintro⟨⟨(th:Th),(m:As),(fu:Int),(root:Int),(fr:Ws),(fs:Ws),(gn:Ws)⟩,(n:Int),(deep:Int),(key:ByteArray),(val:ByteArray)⟩ ⟨(hd:Ds.bx th m fu),(hf:Bx.okW fr),(hn:0≤n∧n≤65536),(h1:1≤deep∧deep≤17),(h2:18≤deep+((f+1:Nat):Int)),(hk:1≤key.size∧key.size≤24),(hv:val.size≤100),_⟩ X hX hz;refine Ds.cR hz hX aav T Tryz.func144 (atf f th m fu root fr fs gn n deep key val) ⟨rfl,rfl,hd,ri (by omega) (by omega),fun h=> ?_,fun h=>⟨fun hl=> ?_,fun hl=> ?_⟩⟩
  ·have h:fF th m n deep≠0:=by simpa using h
   obtain⟨f1,f2⟩:=aia (val:=val) (root:=root) (th:=th) (m:=m) (fu:=fu) (fr:=fr) (fs:=fs) (gn:=gn) (key:=key) (f:=f+1) (n:=n) (deep:=deep) (c:=(m,fu,fr,fs,gn,[],fF th m n deep)) (by rw[iW,if_pos h]);exact jC ⟨[(0,.ad cB [],Lf.eB)],[0,1],6,[]⟩ rfl (Nat.le_refl _) (nE.same _) f2 f1
  ·have h:fF th m n deep=0:=by simpa using h
   have e:=aoG (root:=root) (val:=val) (gn:=gn) (fs:=fs) hz hX T hd hf hk hv h hl;rw[hl];exact e
  ·have h:fF th m n deep=0:=by simpa using h
   exact akG hz hX T hd hf h1 h2 hk hv h hl
end
end Ts
namespace Ts
open Go Go.Sx Go.Proofs Lf
theorem aic{f:Nat}(h:fC P Bx.bO 144 (u5 f)):(nG f).Ok P Bx.bO:=aH.Ok.cons (ng.sum mNo) (aH.Ok.cons (ud.sum mLv) (aH.Ok.cons (gZ (fW (jc.sum mTN) 1 _) 1) (aH.Ok.cons ahv.sum (aH.Ok.cons pj.sum (aH.Ok.cons qE.sum (aH.Ok.cons (h.sum akz) aH.Ok.nil))))))
section
variable{th:Th}{m:As}{fu root:Int}{fr fs gn:Ws}{n deep:Int}{key val:ByteArray}{f:Nat}{X:Ctx}
theorem aaw{th:Th}{m:As}{fu root:Int}{fr fs gn:Ws}{key:ByteArray}:∀y∈acj,(pH th m fu root fr fs gn key).length≤y.2.m:=fun y hy=>by
 simp only[acj,List.mem_cons,List.not_mem_nil,or_false]at hy;rcases hy with rfl|rfl|rfl|rfl<;>exact Nat.le_refl _
theorem adK(hz:dP Bx.bO X)(hX:X.H=lk (pH th m fu root fr fs gn key))(T:(nG f).Ok P Bx.bO){m':As}{iB:Int}{u6 oq gn':Ws}{l:Bool}{es:List En}{bs:List Br}{k:Int}{r:List Br}(hd:Ds.bx th m' iB)(hf:Bx.okW u6)(hl:l=false∧es=[])(he:bh es)
 (hb:bk (bs.take k.toNat++r++bs.drop (k.toNat+1))) (hk0:0≤k) (hk1:k<(bs.length:Int)) (hbl:bs.length≤84)
 (e:x6 th key none (f+1) m fu fr fs gn n deep=ju (ry oq gn' n) (bJ th m' iB u6 (jB oq n) l es (bs.take k.toNat++r++bs.drop (k.toNat+1)))):
 Safe P 144 X (uY (u5 (f+1)) ((th,m,fu,root,fr,fs,gn),n,deep,key,val)) (amn th m' iB root u6 oq gn' n key l es bs k r):=by
 rw[←aat hk0]at hb e;have hjl:=hb.1;obtain⟨f1,f2⟩:=afp (root:=root) (val:=val) e;refine Ds.cR hz hX aaw T Tryz.func144 (aoE f th m' iB root u6 oq gn' n key l es bs k r) ⟨by omega,hk0,by omega,⟨by omega,by omega⟩,by omega,by omega,by omega,by show 3≤100;omega, ?_,rfl,rfl,rfl,rfl,hd,hf,⟨fun h=>(by rw[hl.1]at h;cases h),fun _=>hl.2⟩,he,hb, ?_⟩
 ·exact Nat.le_trans hjl (by omega)
 ·exact jC ⟨[],[0,1],5,[]⟩ rfl (Nat.le_refl _) (nE.same _) f2 f1
theorem akH(hz:dP Bx.bO X)(hX:X.H=lk (pH th m fu root fr fs gn key))(T:(nG f).Ok P Bx.bO){m':As}{iB:Int}{u6 oq gn':Ws}{l:Bool}{es:List En}{bs:List Br}{k e:Int}{r:List Br}(hd:Ds.bx th m' iB)(hf:Bx.okW u6)(hl:l=false∧es=[])(he:bh es)
 (hb:bk (bs.take k.toNat++uc (bs.getD k.toNat dB).1 r++bs.drop (k.toNat+1))) (hk0:0≤k) (hk1:k<(bs.length:Int)) (hbl:bs.length≤84)
 (ee:x6 th key none (f+1) m fu fr fs gn n deep=if e≠0 then(m',iB,u6,oq,gn',[],e)else ju (ry oq gn' n) (bJ th m' iB u6 (jB oq n) l es (bs.take k.toNat++uc (bs.getD k.toNat dB).1 r++bs.drop (k.toNat+1)))):
 Safe P 144 X (uY (u5 (f+1)) ((th,m,fu,root,fr,fs,gn),n,deep,key,val)) (amm th m' iB root u6 oq gn' n key l es bs k e r):=by
 refine Ds.cR hz hX aaw T Tryz.func144 (aoD f th m' iB root u6 oq gn' n key l es bs k e r) ⟨fun h=> ?_,fun h=>⟨fun h5=> ?_,fun h5=> ?_⟩⟩
 ·have h:e≠0:=by simpa using h
  rw[if_pos h]at ee;obtain⟨f1,f2⟩:=afp (root:=root) (val:=val) ee;exact jC ⟨[(0,.ad cB [],Lf.eB)],[0,1],5,[]⟩ rfl (Nat.le_refl _) (nE.same _) f2 f1
 ·have h:¬e≠0:=by simpa using h
  rw[if_neg h]at ee;have h5:=of_decide_eq_true h5;have e5:=aau (r:=r) (k:=(bs.getD k.toNat dB).1) (by omega);rw[←e5]at hb ee;exact⟨hk0,hk1,by omega,h5,adK hz hX T hd hf hl he hb hk0 hk1 hbl ee⟩
 ·have h:¬e≠0:=by simpa using h
  rw[if_neg h]at ee;have h5:=of_decide_eq_false h5;have e5:r=[]:=List.eq_nil_of_length_eq_zero (by omega);subst e5;exact adK hz hX T hd hf hl he hb hk0 hk1 hbl ee
theorem akI(hz:dP Bx.bO X)(hX:X.H=lk (pH th m fu root fr fs gn key))(T:(nG f).Ok P Bx.bO)(hd:Ds.bx th m fu)(hf:Bx.okW fr)(h1:1≤deep∧deep≤17)(h2:18≤deep+((f+1:Nat):Int))(hk:1≤key.size∧key.size≤24)
 (h:fF th m n deep=0) (hl:jy th m n deep=false):
 Safe P 144 X (uY (u5 (f+1)) ((th,m,fu,root,fr,fs,gn),n,deep,key,val)) (aml th m fu root fr fs gn n deep key (jy th m n deep) (bT th m n deep) (aQ th m n deep)):=by
 obtain⟨hm,n1,n2,n3,n4,n5,_⟩:=ey h;obtain⟨m1,m2,_,_⟩:=eI hm;obtain⟨s1,s2⟩:=pE hm;have hkk:∀v:ByteArray,none=some v→v.size≤100:=fun v e=>by cases e
 refine Ds.cR hz hX aaw T Tryz.func144 (aoC f th m fu root fr fs gn n deep key (jy th m n deep) (bT th m n deep) (aQ th m n deep)) ⟨fun h3=> ?_,fun h3=> ?_⟩
 ·have h3:aQ th m n deep=[]:=List.eq_nil_of_length_eq_zero (by have:((aQ th m n deep).length:Int)=0:=by simpa using h3
                                                               omega)
  obtain⟨f1,f2⟩:=afp (val:=val) (root:=root) (th:=th) (m:=m) (fu:=fu) (fr:=fr) (fs:=fs) (gn:=gn) (key:=key) (f:=f+1) (n:=n) (deep:=deep) (c:=(m,fu,fr,fs,gn,[],4)) (by rw[iW,if_neg (by rw[h];simp),if_neg (by rw[hl];simp),if_pos h3]);exact jC ⟨[(0,.ad cB [],Lf.eB)],[0,1],5,[]⟩ rfl (Nat.le_refl _) (nE.same _) f2 f1
 ·have h3:aQ th m n deep≠[]:=fun e=>by rw[e]at h3;simp at h3
  obtain⟨p0,p1⟩:=qF (key:=key) s2 h3;have pg:=qG h (aX (aQ th m n deep) key).toNat;have yf:=pI (th:=th) (key:=key) (op:=none) hk.2 f (m:=m) (fu:=fu) (fr:=fr) (fs:=fs) (gn:=gn) (n:=((aQ th m n deep).getD (aX (aQ th m n deep) key).toNat dB).2.1) (deep:=deep+1) hd hf;have hb:=uj (bs:=aQ th m n deep) (k:=(aX (aQ th m n deep) key).toNat) (aas hm).2 n2 yf.two yf.key (od (aas hm).2 (aX (aQ th m n deep) key).toNat);refine⟨by omega,s2,p0,p1,ri (by omega) (by omega),rfl,rfl,hd,hf,pg,⟨by omega,by omega⟩,by omega,hk,(Nat.zero_le 100),akH hz hX T yf.d yf.fr ⟨hl,m2 hl⟩ n3 hb p0 p1 n2 ?_⟩;rw[iW,if_neg (by rw[h];simp),if_neg (by rw[hl];simp),if_neg h3,hl];rfl
theorem aoH(hz:dP Bx.bO X)(hX:X.H=lk (pH th m fu root fr fs gn key))(T:(nG f).Ok P Bx.bO)(hd:Ds.bx th m fu)(hf:Bx.okW fr)(hk:1≤key.size∧key.size≤24)
 (h:fF th m n deep=0) (hl:jy th m n deep=true):
 Safe P 144 X (uY (u5 (f+1)) ((th,m,fu,root,fr,fs,gn),n,deep,key,val)) (aqO th m fu root fr fs gn n key (bT th m n deep) (aQ th m n deep)):=by
 obtain⟨hm,n1,n2,n3,n4,n5,_⟩:=ey h;obtain⟨m1,m2,_,_⟩:=eI hm;obtain⟨s1,s2⟩:=pE hm;have hkk:∀v:ByteArray,none=some v→v.size≤100:=fun v e=>by cases e
 refine Ds.cR hz hX aaw T Tryz.func144 (aqP f th m fu root fr fs gn n key (bT th m n deep) (aQ th m n deep)) ⟨by omega,s1,fun hb=> ?_,fun hb=> ?_⟩
 ·have hb:lr (bT th m n deep) key=false:=by simpa using hb
  have hc:doC key none (bT th m n deep)=5:=by show(if lr (bT th m n deep) key=true then(0:Int)else 5)=5;rw[if_neg (by rw[hb];simp)]
  obtain⟨f1,f2⟩:=afp (val:=val) (root:=root) (th:=th) (m:=m) (fu:=fu) (fr:=fr) (fs:=fs) (gn:=gn) (key:=key) (f:=f+1) (n:=n) (deep:=deep) (c:=(m,fu,fr,fs,gn,[],5)) (by rw[iW,if_neg (by rw[h];simp),if_pos hl,if_pos (by rw[hc];simp),hc]);exact jC ⟨[(0,.ad cB [],Lf.eB)],[0,1],5,[]⟩ rfl (Nat.le_refl _) (nE.same _) f2 f1
 ·have hb:lr (bT th m n deep) key=true:=by simpa using hb
  have hc:doC key none (bT th m n deep)=0:=by show(if lr (bT th m n deep) key=true then(0:Int)else 5)=0;rw[if_pos hb]
  have ee:doE key none (bT th m n deep)=dY (bT th m n deep) key:=by show(if lr (bT th m n deep) key=true then _ else _)=_;rw[if_pos hb]
  have sm:=ni (key:=key) (op:=none) (es:=bT th m n deep) hk.2 hkk n1 n3;obtain⟨f1,f2⟩:=afp (val:=val) (root:=root) (th:=th) (m:=m) (fu:=fu) (fr:=fr) (fs:=fs) (gn:=gn) (key:=key) (f:=f+1) (n:=n) (deep:=deep) (c:=ju (ry fs gn n) (bJ th m fu fr (jB fs n) true (dY (bT th m n deep) key) (aQ th m n deep))) (by rw[iW,if_neg (by rw[h];simp),if_pos hl,if_neg (by rw[hc];simp),ee]);rw[ee]at sm;exact⟨rfl,rfl,rfl,rfl,hd,hf,⟨fun _=>m1 hl,fun e=>by cases e⟩,sm,n4,jC ⟨[],[0,1],5,[]⟩ rfl (Nat.le_refl _) (nE.same _) f2 f1⟩
theorem um:∀f,fC P Bx.bO 144 (u5 f)
 |0=>by
  rintro⟨⟨(th:Th),(m:As),(fu:Int),(root:Int),(fr:Ws),(fs:Ws),(gn:Ws)⟩,(n:Int),(deep:Int),(key:ByteArray),(val:ByteArray)⟩ ⟨_,_,_,(h1:1≤deep∧deep≤17),(h2:18≤deep+((0:Nat):Int)),_⟩;omega
 |f+1=>by
  have T:=aic (um f);refine fy Tryz.func144 (by kernel_rfl) (fun x=>Nat.le_of_ble_eq_true (by kernel_rfl)) ?_;rintro⟨⟨(th:Th),(m:As),(fu:Int),(root:Int),(fr:Ws),(fs:Ws),(gn:Ws)⟩,(n:Int),(deep:Int),(key:ByteArray),(val:ByteArray)⟩ ⟨(hd:Ds.bx th m fu),(hf:Bx.okW fr),(hn:0≤n∧n≤65536),(h1:1≤deep∧deep≤17),(h2:18≤deep+((f+1:Nat):Int)),(hk:1≤key.size∧key.size≤24),(hv:val.size≤100),_⟩ X hX hz;refine Ds.cR hz hX aaw T Tryz.func144 (atg f th m fu root fr fs gn n deep key) ⟨rfl,rfl,hd,ri (by omega) (by omega),fun h=> ?_,fun h=>⟨fun hl=> ?_,fun hl=> ?_⟩⟩
  ·have h:fF th m n deep≠0:=by simpa using h
   obtain⟨f1,f2⟩:=afp (val:=val) (root:=root) (th:=th) (m:=m) (fu:=fu) (fr:=fr) (fs:=fs) (gn:=gn) (key:=key) (f:=f+1) (n:=n) (deep:=deep) (c:=(m,fu,fr,fs,gn,[],fF th m n deep)) (by rw[iW,if_pos h]);exact jC ⟨[(0,.ad cB [],Lf.eB)],[0,1],5,[]⟩ rfl (Nat.le_refl _) (nE.same _) f2 f1
  ·have h:fF th m n deep=0:=by simpa using h
   have e:=aoH (root:=root) (val:=val) (gn:=gn) (fs:=fs) hz hX T hd hf hk h hl;rw[hl];exact e
  ·have h:fF th m n deep=0:=by simpa using h
   exact akI hz hX T hd hf h1 h2 hk h hl
end
end Ts
namespace Ts
open Go Go.Sx Go.Proofs Lf
def yg(th:Th)(m:As):Nat→Ws→Ws→Int→Int→Ws×Ws×Int×Int
 |0,fs,gn,_,_=>(fs,gn,0,4)
 |f+1,fs,gn,n,deep=>
  if fF th m n deep≠0 then(fs,gn,0,fF th m n deep)
  else if jy th m n deep=true∨(aQ th m n deep).length≠1 then(fs,gn,n,0)
  else yg th m f (jB fs n) (ry fs gn n) ((aQ th m n deep).getD 0 dB).2.1 (deep+1)
def akJ(th:Th)(m:As)(f:Nat)(fs gn:Ws)(n deep:Int):Ws:=(yg th m f fs gn n deep).1
def akK(th:Th)(m:As)(f:Nat)(fs gn:Ws)(n deep:Int):Ws:=(yg th m f fs gn n deep).2.1
def akL(th:Th)(m:As)(f:Nat)(fs gn:Ws)(n deep:Int):Int:=(yg th m f fs gn n deep).2.2.1
def akM(th:Th)(m:As)(f:Nat)(fs gn:Ws)(n deep:Int):Int:=(yg th m f fs gn n deep).2.2.2
abbrev sLo:Spec (XT×Int):=⟨fun(_,n)=>[.ptr 0 0,bE n],fun((th,m,fu,root,fr,fs,gn),_)=>hT th m fu root fr fs gn,fun((th,m,fu,_),n)=>[Ds.bx th m fu,0≤n∧n≤65536],
 fun((th,m,fu,root,fr,fs,gn),n)=>hT th m fu root fr (akJ th m 17 fs gn n 1) (akK th m 17 fs gn n 1),fun((th,m,_,_,_,fs,gn),n)=>.bg [bE (akL th m 17 fs gn n 1),bE (akM th m 17 fs gn n 1)]⟩
def aid:aH:=[(77,wo),(149,ah3)]
def akN:List (Nat×Norm):=[(3,⟨[],[0,1,6],4,[]⟩)]
noncomputable def cLo(th:Th)(m:As)(fu root:Int)(fr fs gn:Ws)(n deep:Int):bw:=⟨sl 38 [(0,.ptr 0 0),(1,bE n),(6,bE deep)],hT th m fu root fr fs gn,hd Tryz.f113 3,{}⟩
theorem ati(th:Th)(m:As)(fu root:Int)(fr fs gn:Ws)(n:Int):run P aid.sum Tryz.f113 akN (start Tryz.f113 [.ptr 0 0,bE n] (hT th m fu root fr fs gn))=
 Tree.at (.mk (sl 38 [(0,.ptr 0 0),(1,.s (.int .i64 n)),(6,.s (.int .i64 1))]) [.own [.ptr 1 0,.s (.int .i64 root),.ints .u64 16 fr,.ints .u64 16 fs,.ints .u64 16 gn] 115,.own [.vec 2,.ag 3,.s (.int .i64 fu)] 105,.vec (.ad [.arr .u8 64] th) 165,.map (.arr .u8 64) m] (hd Tryz.f113 3) (.mk none false 0 [] 0)):=by kernel_rfl
theorem atj(th:Th)(m:As)(fu root:Int)(fr fs gn:Ws)(n deep:Int):run P aid.sum Tryz.f113 akN (cLo th m fu root fr fs gn n deep)=
 Tree.need (bn (some [AV.ptr 0 0,.s (.int .i64 n),.s (.int .i64 deep)]))
 (.need (bn (some [ab.own [.ptr 1 0,.s (.int .i64 root),.ints .u64 16 fr,.ints .u64 16 fs,.ints .u64 16 gn] 115,.own [.vec 2,.ag 3,.s (.int .i64 fu)] 105,.vec (.ad [.arr .u8 64] th) 165,.map (.arr .u8 64) m])) (.need (Ds.bx th m fu) (.need (ay n) (.ite (fF th m n deep !=0) (.ret [.own [.ptr 1 0,.s (.int .i64 root),.ints .u64 16 fr,.ints .u64 16 fs,.ints .u64 16 gn] 115,.own [.vec 2,.ag 3,.s (.int .i64 fu)] 105,.vec (.ad [.arr .u8 64] th) 165,.map (.arr .u8 64) m,.own [.s (.bool (jy th m n deep)),.s (.ro (.ad [.str,.str] (bT th m n deep))),.s (.ro (.ad [.str,.int .i64] (aQ th m n deep)))] 131] (.bg [.s (.aK .i64 0),.s (.int .i64 (fF th m n deep))])) (.ite (jy th m n deep) (.ret [.own [.ptr 1 0,.s (.int .i64 root),.ints .u64 16 fr,.ints .u64 16 fs,.ints .u64 16 gn] 115,.own [.vec 2,.ag 3,.s (.int .i64 fu)] 105,.vec (.ad [.arr .u8 64] th) 165,.map (.arr .u8 64) m,.own [.s (.bool (jy th m n deep)),.s (.ro (.ad [.str,.str] (bT th m n deep))),.s (.ro (.ad [.str,.int .i64] (aQ th m n deep)))] 131] (.bg [.s (.int .i64 n),.s (.aK .i64 0)])) (.ite ((↑(aQ th m n deep).length:Int) !=1) (.ret [.own [.ptr 1 0,.s (.int .i64 root),.ints .u64 16 fr,.ints .u64 16 fs,.ints .u64 16 gn] 115,.own [.vec 2,.ag 3,.s (.int .i64 fu)] 105,.vec (.ad [.arr .u8 64] th) 165,.map (.arr .u8 64) m,.own [.s (.bool (jy th m n deep)),.s (.ro (.ad [.str,.str] (bT th m n deep))),.s (.ro (.ad [.str,.int .i64] (aQ th m n deep)))] 131] (.bg [.s (.int .i64 n),.s (.aK .i64 0)])) (.need (bn (some [AV.ptr 0 0,.s (.int .i64 n)])) (.need (bn (some [ab.own [.ptr 1 0,.s (.int .i64 root),.ints .u64 16 fr,.ints .u64 16 fs,.ints .u64 16 gn] 115,.own [.vec 2,.ag 3,.s (.int .i64 fu)] 105,.vec (.ad [.arr .u8 64] th) 165,.map (.arr .u8 64) m])) (.need ((0:Int)≤0) (.need ((0:Int)<(↑(aQ th m n deep).length:Int)) (.need (ay (deep+1)) (.at (.mk (sl 38 [(0,.ptr 0 0),(1,.s (.int .i64 ((aQ th m n deep).getD 0 (CL.d [.str,.int .i64])).snd.fst)),(6,.s (.int .i64 (deep+1)))]) [.own [.ptr 1 0,.s (.int .i64 root),.ints .u64 16 fr,.ints .u64 16 (jB fs n),.ints .u64 16 (ry fs gn n)] 115,.own [.vec 2,.ag 3,.s (.int .i64 fu)] 105,.vec (.ad [.arr .u8 64] th) 165,.map (.arr .u8 64) m] (hd Tryz.f113 3) (.mk none false 0 [] 0)))))))))))))):=by kernel_rfl
theorem aax{Z:aW}:aid.Ok P Z:=aH.Ok.cons (ng.sum mNo) (aH.Ok.cons (ud.sum mLv) aH.Ok.nil)
theorem aie{th:Th}{m:As}{fu root:Int}{fr fs gn:Ws}{n:Int}{c:Ws×Ws×Int×Int}(e:c=yg th m 17 fs gn n 1):
 sLo.ez ((th,m,fu,root,fr,fs,gn),n)=hT th m fu root fr c.1 c.2.1∧sLo.out ((th,m,fu,root,fr,fs,gn),n)=.bg [bE c.2.2.1,bE c.2.2.2]:=by
 subst e;exact⟨rfl,rfl⟩
theorem aay{Z:aW}:fC P Z 113 sLo:=by
 refine au Tryz.func113 (by kernel_rfl) (fun x=>Nat.le_of_ble_eq_true (by kernel_rfl)) ?_;rintro⟨⟨(th:Th),(m:As),(fu:Int),(root:Int),(fr:Ws),(dm:Ws),(dn:Ws)⟩,(n0:Int)⟩ ⟨(hd:Ds.bx th m fu),(hn0:0≤n0∧n0≤65536),_⟩ X hX hz
 have hm:∀y∈akN,(hT th m fu root fr dm dn).length≤y.2.m:=fun y hy=>by
  simp only[akN,List.mem_singleton]at hy;subst hy;exact Nat.le_refl _
 have loop:∀(f:Nat) (fs gn:Ws) (n deep:Int),1≤deep∧deep≤17→18≤deep+(f:Int)→0≤n∧n≤65536→yg th m f fs gn n deep=yg th m 17 dm dn n0 1→
  Safe P 113 X (cX sLo ((th,m,fu,root,fr,dm,dn),n0)) (cLo th m fu root fr fs gn n deep):=by
  intro f
  induction f with
  |zero=>intro fs gn n deep h1 h2;omega
  |succ f ih=>
   intro fs gn n deep h1 h2 hn e;rw[yg]at e;refine Ds.cR hz hX hm aax Tryz.func113 (atj th m fu root fr fs gn n deep) ⟨rfl,rfl,hd,ri (by omega) (by omega),fun h=> ?_,fun h=>⟨fun hl=> ?_,fun hl=>⟨fun h3=> ?_,fun h3=> ?_⟩⟩⟩
   ·have h:fF th m n deep≠0:=by simpa using h
    rw[if_pos h]at e;obtain⟨f1,f2⟩:=aie (fu:=fu) (root:=root) (fr:=fr) e;exact bC 4 rfl (Nat.le_refl _) f2 f1
   ·have h:fF th m n deep=0:=by simpa using h
    rw[if_neg (by rw[h];simp),if_pos (.inl hl)]at e;obtain⟨f1,f2⟩:=aie (fu:=fu) (root:=root) (fr:=fr) e;exact bC 4 rfl (Nat.le_refl _) f2 f1
   ·have h:fF th m n deep=0:=by simpa using h
    have h3:¬((aQ th m n deep).length:Int)=1:=by simpa using h3
    rw[if_neg (by rw[h];simp),if_pos (.inr (by omega))]at e;obtain⟨f1,f2⟩:=aie (fu:=fu) (root:=root) (fr:=fr) e;exact bC 4 rfl (Nat.le_refl _) f2 f1
   ·have h:fF th m n deep=0:=by simpa using h
    have h3:((aQ th m n deep).length:Int)=1:=by simpa using h3
    rw[if_neg (by rw[h];simp),if_neg (by rintro(a|a);rw[hl]at a;cases a;omega)]at e;have pg:=qG h 0;obtain⟨_,_,_,_,_,n5,_⟩:=ey h;exact⟨rfl,rfl,by omega,by omega,ri (by omega) (by omega),ih _ _ _ _ ⟨by omega,by omega⟩ (by omega) pg e⟩
 exact Ds.cR hz hX hm aax Tryz.func113 (ati th m fu root fr dm dn n0) (loop 17 dm dn n0 1 ⟨by omega,by omega⟩ (by omega) hn0 rfl)
end Ts
namespace Ts
open Go Go.Sx Go.Proofs Lf
def lC(th:Th)(key:ByteArray)(op:Option ByteArray)(m:As)(fu root:Int)(fr fs gn:Ws):Chg:=
 if root≠0 then x6 th key op 17 m fu fr fs gn root 1
 else if doC key op []≠0 then(m,fu,fr,fs,gn,[],doC key op [])
 else ju gn (bJ th m fu fr fs true (doE key op []) [])
abbrev XK:Type:=XT×ByteArray×ByteArray
def afq(th:Th)(key:ByteArray)(op:Option ByteArray)(m:As)(fu root:Int)(fr fs gn:Ws):As:=(lC th key op m fu root fr fs gn).1
def afr(th:Th)(key:ByteArray)(op:Option ByteArray)(m:As)(fu root:Int)(fr fs gn:Ws):Int:=(lC th key op m fu root fr fs gn).2.1
def afs(th:Th)(key:ByteArray)(op:Option ByteArray)(m:As)(fu root:Int)(fr fs gn:Ws):Ws:=(lC th key op m fu root fr fs gn).2.2.1
def akO(th:Th)(key:ByteArray)(op:Option ByteArray)(m:As)(fu root:Int)(fr fs gn:Ws):Ws:=(lC th key op m fu root fr fs gn).2.2.2.1
def akP(th:Th)(key:ByteArray)(op:Option ByteArray)(m:As)(fu root:Int)(fr fs gn:Ws):Ws:=(lC th key op m fu root fr fs gn).2.2.2.2.1
def aft(th:Th)(key:ByteArray)(op:Option ByteArray)(m:As)(fu root:Int)(fr fs gn:Ws):List Br:=(lC th key op m fu root fr fs gn).2.2.2.2.2.1
def akQ(th:Th)(key:ByteArray)(op:Option ByteArray)(m:As)(fu root:Int)(fr fs gn:Ws):Int:=(lC th key op m fu root fr fs gn).2.2.2.2.2.2
def adL(th:Th)(m:As)(fu root:Int)(fr:Ws)(key val:ByteArray):List Prop:=[Ds.bx th m fu,Bx.okW fr,0≤root∧root≤65536,1≤key.size∧key.size≤24,val.size≤100]
abbrev akR:Spec XK:=⟨fun(_,key,_)=>[.ptr 0 0,.s (.str key),.fn fP1 [.ptr 4 0,.ptr 5 0]],fun((th,m,fu,root,fr,fs,gn),key,val)=>pG th m fu root fr fs gn key val,fun((th,m,fu,root,fr,_,_),key,val)=>adL th m fu root fr key val,
 fun((th,m,fu,root,fr,fs,gn),key,val)=>pG th (afq th key (some val) m fu root fr fs gn) (afr th key (some val) m fu root fr fs gn) root (afs th key (some val) m fu root fr fs gn) (akO th key (some val) m fu root fr fs gn) (akP th key (some val) m fu root fr fs gn) key val++[.vec (.ad cB (aft th key (some val) m fu root fr fs gn)) Lf.eB],
 fun((th,m,fu,root,fr,fs,gn),key,val)=>.bg [.vec 6,bE (akQ th key (some val) m fu root fr fs gn)]⟩
abbrev akS:Spec XK:=⟨fun(_,key,_)=>[.ptr 0 0,.s (.str key),.fn fD1 [.ptr 4 0]],fun((th,m,fu,root,fr,fs,gn),key,_)=>pH th m fu root fr fs gn key,fun((th,m,fu,root,fr,_,_),key,val)=>adL th m fu root fr key val,
 fun((th,m,fu,root,fr,fs,gn),key,_)=>pH th (afq th key none m fu root fr fs gn) (afr th key none m fu root fr fs gn) root (afs th key none m fu root fr fs gn) (akO th key none m fu root fr fs gn) (akP th key none m fu root fr fs gn) key++[.vec (.ad cB (aft th key none m fu root fr fs gn)) Lf.eB],
 fun((th,m,fu,root,fr,fs,gn),key,_)=>.bg [.vec 5,bE (akQ th key none m fu root fr fs gn)]⟩
def akT:List AV→RM (XK×List Nat)
 |[t,.s (.str _),.fn _ [.ptr i 0,.ptr j 0]]=>(mT [t]).bind fun(X,σ)=>.look i fun o=>match o with
  |some (.own [.s (.str key)] _)=>.look j fun o=>match o with
   |some (.own [.s (.str val)] _)=>.ret ((X,key,val),σ++[i,j])
   |_=>.fail "no text"
  |_=>.fail "no text"
 |_=>.fail "top: arguments"
def akU:List AV→RM (XK×List Nat)
 |[t,.s (.str _),.fn _ [.ptr i 0]]=>(mT [t]).bind fun(X,σ)=>.look i fun o=>match o with
  |some (.own [.s (.str key)] _)=>.ret ((X,key,ByteArray.empty),σ++[i])
  |_=>.fail "no text"
 |_=>.fail "top: arguments"
def amp:aH:=[(144,bZ (u4 17) aky),(73,amg),(112,wq)]
def amq:aH:=[(144,bZ (u5 17) akz),(76,amh),(112,wq)]
theorem atk(th:Th)(m:As)(fu root:Int)(fr fs gn:Ws)(key val:ByteArray):run P amp.sum Tryz.f111 [] (start Tryz.f111 [.ptr 0 0,.s (.str key),.fn fP1 [.ptr 4 0,.ptr 5 0]] (pG th m fu root fr fs gn key val)) (inl:=[fP1])=
 Tree.ite (root !=0) (.need (bn (some [AV.ptr 0 0,.s (.int .i64 root),.s (.int .i64 1),.s (.str key),.fn 72 [.ptr 4 0,.ptr 5 0]])) (.need (bn (some [ab.own [.ptr 1 0,.s (.int .i64 root),.ints .u64 16 fr,.ints .u64 16 fs,.ints .u64 16 gn] 115,.own [.vec 2,.ag 3,.s (.int .i64 fu)] 105,.vec (.ad [.arr .u8 64] th) 165,.map (.arr .u8 64) m,.own [.s (.str key)] 9,.own [.s (.str val)] 9])) (.need (Ds.bx th m fu) (.need (Bx.okW fr) (.need ((0:Int)≤root∧root≤65536) (.need ((1:Int)≤1∧(1:Int)≤17) (.need ((18:Int)≤1+(↑(17:Nat):Int)) (.need ((1:Nat)≤key.size∧key.size≤24) (.need (val.size≤100) (.ret [.own [.ptr 1 0,.s (.int .i64 root),.ints .u64 16 (uh th key (some val) 17 m fu fr fs gn root 1),.ints .u64 16 (uZ th key (some val) 17 m fu fr fs gn root 1),.ints .u64 16 (yb th key (some val) 17 m fu fr fs gn root 1)] 115,.own [.vec 2,.ag 3,.s (.int .i64 (ug th key (some val) 17 m fu fr fs gn root 1))] 105,.vec (.ad [.arr .u8 64] th) 165,.map (.arr .u8 64) (uf th key (some val) 17 m fu fr fs gn root 1),.own [.s (.str key)] 9,.own [.s (.str val)] 9,.vec (.ad [.str,.int .i64] (yc th key (some val) 17 m fu fr fs gn root 1)) 137] (.bg [.vec 6,.s (.int .i64 (aap th key (some val) 17 m fu fr fs gn root 1))]))))))))))) (.need ((0:Nat)≤100000) (.need (iU (cg [])) (.need (bn (some [AV.ptr 0 0,.agg [.s (.bool true),.s (.ro (.ad [.str,.str] (fx [] key val))),.s (.ro (.ad [.str,.int .i64] []))]])) (.need (bn (some [ab.own [.ptr 1 0,.s (.int .i64 root),.ints .u64 16 fr,.ints .u64 16 fs,.ints .u64 16 gn] 115,.own [.vec 2,.ag 3,.s (.int .i64 fu)] 105,.vec (.ad [.arr .u8 64] th) 165,.map (.arr .u8 64) m])) (.need (Ds.bx th m fu) (.need (Bx.okW fr) (.need (x9 true (fx [] key val) []) (.need (bh (fx [] key val)) (.need (bk []) (.ret [.own [.ptr 1 0,.s (.int .i64 root),.ints .u64 16 (bJ th m fu fr fs true (fx [] key val) []).snd.snd.fst,.ints .u64 16 (bJ th m fu fr fs true (fx [] key val) []).snd.snd.snd.fst,.ints .u64 16 gn] 115,.own [.vec 2,.ag 3,.s (.int .i64 (bJ th m fu fr fs true (fx [] key val) []).snd.fst)] 105,.vec (.ad [.arr .u8 64] th) 165,.map (.arr .u8 64) (bJ th m fu fr fs true (fx [] key val) []).fst,.own [.s (.str key)] 9,.own [.s (.str val)] 9,.dead,.vec (.ad [.str,.int .i64] (bJ th m fu fr fs true (fx [] key val) []).snd.snd.snd.snd.fst) 137] (.bg [.vec 7,.s (.int .i64 (bJ th m fu fr fs true (fx [] key val) []).snd.snd.snd.snd.snd)]))))))))))):=by kernel_rfl
theorem atl(th:Th)(m:As)(fu root:Int)(fr fs gn:Ws)(key:ByteArray):run P amq.sum Tryz.f111 [] (start Tryz.f111 [.ptr 0 0,.s (.str key),.fn fD1 [.ptr 4 0]] (pH th m fu root fr fs gn key)) (inl:=[fD1])=
 Tree.ite (root !=0) (.need (bn (some [AV.ptr 0 0,.s (.int .i64 root),.s (.int .i64 1),.s (.str key),.fn 75 [.ptr 4 0]])) (.need (bn (some [ab.own [.ptr 1 0,.s (.int .i64 root),.ints .u64 16 fr,.ints .u64 16 fs,.ints .u64 16 gn] 115,.own [.vec 2,.ag 3,.s (.int .i64 fu)] 105,.vec (.ad [.arr .u8 64] th) 165,.map (.arr .u8 64) m,.own [.s (.str key)] 9])) (.need (Ds.bx th m fu) (.need (Bx.okW fr) (.need ((0:Int)≤root∧root≤65536) (.need ((1:Int)≤1∧(1:Int)≤17) (.need ((18:Int)≤1+(↑(17:Nat):Int)) (.need ((1:Nat)≤key.size∧key.size≤24) (.need (ByteArray.empty.size≤100) (.ret [.own [.ptr 1 0,.s (.int .i64 root),.ints .u64 16 (uh th key none 17 m fu fr fs gn root 1),.ints .u64 16 (uZ th key none 17 m fu fr fs gn root 1),.ints .u64 16 (yb th key none 17 m fu fr fs gn root 1)] 115,.own [.vec 2,.ag 3,.s (.int .i64 (ug th key none 17 m fu fr fs gn root 1))] 105,.vec (.ad [.arr .u8 64] th) 165,.map (.arr .u8 64) (uf th key none 17 m fu fr fs gn root 1),.own [.s (.str key)] 9,.vec (.ad [.str,.int .i64] (yc th key none 17 m fu fr fs gn root 1)) 137] (.bg [.vec 5,.s (.int .i64 (aap th key none 17 m fu fr fs gn root 1))])))))))))))
 (.need ((0:Nat)≤100000) (.need (iU (cg [])) (.ite (!lr [] key) (.ret [.own [.ptr 1 0,.s (.int .i64 root),.ints .u64 16 fr,.ints .u64 16 fs,.ints .u64 16 gn] 115,.own [.vec 2,.ag 3,.s (.int .i64 fu)] 105,.vec (.ad [.arr .u8 64] th) 165,.map (.arr .u8 64) m,.own [.s (.str key)] 9,.vec (.ad [.str,.str] (dY [] key)) 66] (.bg [.emp,.s (.aK .i64 5)])) (.need (bn (some [AV.ptr 0 0,.agg [.s (.bool true),.s (.ro (.ad [.str,.str] (dY [] key))),.s (.ro (.ad [.str,.int .i64] []))]])) (.need (bn (some [ab.own [.ptr 1 0,.s (.int .i64 root),.ints .u64 16 fr,.ints .u64 16 fs,.ints .u64 16 gn] 115,.own [.vec 2,.ag 3,.s (.int .i64 fu)] 105,.vec (.ad [.arr .u8 64] th) 165,.map (.arr .u8 64) m])) (.need (Ds.bx th m fu) (.need (Bx.okW fr) (.need (x9 true (dY [] key) []) (.need (bh (dY [] key)) (.need (bk []) (.ret [.own [.ptr 1 0,.s (.int .i64 root),.ints .u64 16 (bJ th m fu fr fs true (dY [] key) []).snd.snd.fst,.ints .u64 16 (bJ th m fu fr fs true (dY [] key) []).snd.snd.snd.fst,.ints .u64 16 gn] 115,.own [.vec 2,.ag 3,.s (.int .i64 (bJ th m fu fr fs true (dY [] key) []).snd.fst)] 105,.vec (.ad [.arr .u8 64] th) 165,.map (.arr .u8 64) (bJ th m fu fr fs true (dY [] key) []).fst,.own [.s (.str key)] 9,.dead,.vec (.ad [.str,.int .i64] (bJ th m fu fr fs true (dY [] key) []).snd.snd.snd.snd.fst) 137] (.bg [.vec 6,.s (.int .i64 (bJ th m fu fr fs true (dY [] key) []).snd.snd.snd.snd.snd)])))))))))))):=by kernel_rfl
theorem amr{th:Th}{m:As}{fu root:Int}{fr fs gn:Ws}{key val:ByteArray}{c:Chg}(e:lC th key (some val) m fu root fr fs gn=c):
 akR.ez ((th,m,fu,root,fr,fs,gn),key,val)=pG th c.1 c.2.1 root c.2.2.1 c.2.2.2.1 c.2.2.2.2.1 key val++[.vec (.ad cB c.2.2.2.2.2.1) Lf.eB]∧akR.out ((th,m,fu,root,fr,fs,gn),key,val)=.bg [.vec 6,bE c.2.2.2.2.2.2]:=by
 subst e;exact⟨rfl,rfl⟩
theorem aif:amp.Ok P Bx.bO:=aH.Ok.cons ((uk 17).sum aky) (aH.Ok.cons ahD.tg (aH.Ok.cons (gZ (fW (jc.sum mTN) 1 _) 1) aH.Ok.nil))
theorem akV:fC P Bx.bO 111 akR:=by
 refine fy Tryz.func111 (by kernel_rfl) (fun x=>Nat.le_of_ble_eq_true (by kernel_rfl)) ?_;rintro⟨⟨(th:Th),(m:As),(fu:Int),(root:Int),(fr:Ws),(fs:Ws),(gn:Ws)⟩,(key:ByteArray),(val:ByteArray)⟩ ⟨(hd:Ds.bx th m fu),(hf:Bx.okW fr),(hr:0≤root∧root≤65536),(hk:1≤key.size∧key.size≤24),(hv:val.size≤100),_⟩ X hX hz;have hkk:∀v:ByteArray,(some val)=some v→v.size≤100:=fun v e=>by cases e;exact hv
 have sm:=ni (key:=key) (op:=(some val)) (es:=[]) hk.2 hkk (Nat.zero_le _) js;refine Ds.cR hz hX (by intro y hy;cases hy) aif Tryz.func111 (atk th m fu root fr fs gn key val) ⟨fun h=>⟨rfl,rfl,hd,hf,hr,⟨by omega,by omega⟩,by omega,hk,hv, ?_⟩,fun h=>⟨by omega,by unfold iU;intro i j _ hj;simp at hj,rfl,rfl,hd,hf,⟨fun _=>rfl,fun e=>by cases e⟩,sm,ab9, ?_⟩⟩
 ·have h:root≠0:=by simpa using h
  obtain⟨f1,f2⟩:=amr (val:=val) (show lC th key (some val) m fu root fr fs gn=x6 th key (some val) 17 m fu fr fs gn root 1 by unfold lC;rw[if_pos h]);exact jC ⟨[],[0,1],6,[]⟩ rfl (Nat.le_refl _) (nE.same _) f2 f1
 ·have h:¬root≠0:=by simpa using h
  obtain⟨f1,f2⟩:=amr (val:=val) (show lC th key (some val) m fu root fr fs gn=ju gn (bJ th m fu fr fs true (fx [] key val) [])by unfold lC;rw[if_neg h,if_neg (by show¬(0:Int)≠0;simp)];rfl);exact jC ⟨[],[0,1],6,[]⟩ rfl (Nat.le_refl _) (nE.same _) f2 f1
theorem ams{th:Th}{m:As}{fu root:Int}{fr fs gn:Ws}{key val:ByteArray}{c:Chg}(e:lC th key none m fu root fr fs gn=c):
 akS.ez ((th,m,fu,root,fr,fs,gn),key,val)=pH th c.1 c.2.1 root c.2.2.1 c.2.2.2.1 c.2.2.2.2.1 key++[.vec (.ad cB c.2.2.2.2.2.1) Lf.eB]∧akS.out ((th,m,fu,root,fr,fs,gn),key,val)=.bg [.vec 5,bE c.2.2.2.2.2.2]:=by
 subst e;exact⟨rfl,rfl⟩
theorem aih:amq.Ok P Bx.bO:=aH.Ok.cons ((um 17).sum akz) (aH.Ok.cons ahv.sum (aH.Ok.cons (gZ (fW (jc.sum mTN) 1 _) 1) aH.Ok.nil))
theorem akW:fC P Bx.bO 111 akS:=by
 refine fy Tryz.func111 (by kernel_rfl) (fun x=>Nat.le_of_ble_eq_true (by kernel_rfl)) ?_;rintro⟨⟨(th:Th),(m:As),(fu:Int),(root:Int),(fr:Ws),(fs:Ws),(gn:Ws)⟩,(key:ByteArray),(val:ByteArray)⟩ ⟨(hd:Ds.bx th m fu),(hf:Bx.okW fr),(hr:0≤root∧root≤65536),(hk:1≤key.size∧key.size≤24),(hv:val.size≤100),_⟩ X hX hz;have hkk:∀v:ByteArray,none=some v→v.size≤100:=fun v e=>by cases e
 have sm:=ni (key:=key) (op:=none) (es:=[]) hk.2 hkk (Nat.zero_le _) js;refine Ds.cR hz hX (by intro y hy;cases hy) aih Tryz.func111 (atl th m fu root fr fs gn key) ⟨fun h=>⟨rfl,rfl,hd,hf,hr,⟨by omega,by omega⟩,by omega,hk,(Nat.zero_le 100), ?_⟩,fun h=>⟨by omega,by unfold iU;intro i j _ hj;simp at hj,fun hb=> ?_,fun hb=> ?_⟩⟩
 ·have h:root≠0:=by simpa using h
  obtain⟨f1,f2⟩:=ams (val:=val) (show lC th key none m fu root fr fs gn=x6 th key none 17 m fu fr fs gn root 1 by unfold lC;rw[if_pos h]);exact jC ⟨[],[0,1],5,[]⟩ rfl (Nat.le_refl _) (nE.same _) f2 f1
 ·have h:¬root≠0:=by simpa using h
  obtain⟨f1,f2⟩:=ams (val:=val) (show lC th key none m fu root fr fs gn=(m,fu,fr,fs,gn,[],5)by unfold lC;rw[if_neg h,if_pos (by show(5:Int)≠0;simp)];rfl);exact jC ⟨[(0,.ad cB [],Lf.eB)],[0,1],5,[]⟩ rfl (Nat.le_refl _) (nE.same _) f2 f1
 ·exact absurd hb (by show¬(!lr [] key)=false;simp[lr,dY])
end Ts
namespace Ts
open Go Go.Sx Go.Proofs Lf
def upT(th:Th)(c:Chg):Chg:=if c.2.2.2.2.2.2=0∧1<c.2.2.2.2.2.1.length then ju c.2.2.2.2.1 (bJ th c.1 c.2.1 c.2.2.1 c.2.2.2.1 false [] c.2.2.2.2.2.1)else c
abbrev Chs:Type:=As×Int×Int×Ws×Ws×Ws×Int
def rj(th:Th)(aS:Int)(dA dm dn:Ws)(m:As)(fu root:Int)(fr fs gn:Ws)(e:Int):Chs:=
 if e≠0 then(m,fu,aS,dA,dm,dn,e)else(m,fu,root,Bx.bN .or fr gn,fs,Bx.ae,0)
def qH(th:Th)(aS:Int)(dA dm dn:Ws)(c:Chg):Chs:=
 if c.2.2.2.2.2.2=0∧c.2.2.2.2.2.1.length=1 then
  rj th aS dA dm dn c.1 c.2.1 (akL th c.1 17 c.2.2.2.1 c.2.2.2.2.1 (c.2.2.2.2.2.1.getD 0 dB).2.1 1) c.2.2.1 (akJ th c.1 17 c.2.2.2.1 c.2.2.2.2.1 (c.2.2.2.2.2.1.getD 0 dB).2.1 1) (akK th c.1 17 c.2.2.2.1 c.2.2.2.2.1 (c.2.2.2.2.2.1.getD 0 dB).2.1 1) (akM th c.1 17 c.2.2.2.1 c.2.2.2.2.1 (c.2.2.2.2.2.1.getD 0 dB).2.1 1)
 else rj th aS dA dm dn c.1 c.2.1 0 c.2.2.1 c.2.2.2.1 c.2.2.2.2.1 c.2.2.2.2.2.2
def lD(th:Th)(key:ByteArray)(op:Option ByteArray)(m:As)(fu root:Int)(fr fs gn:Ws):Chs:=qH th root fr fs gn (upT th (lC th key op m fu root fr fs gn))
def akX(th:Th)(key:ByteArray)(op:Option ByteArray)(m:As)(fu root:Int)(fr fs gn:Ws):As:=(lD th key op m fu root fr fs gn).1
def akY(th:Th)(key:ByteArray)(op:Option ByteArray)(m:As)(fu root:Int)(fr fs gn:Ws):Int:=(lD th key op m fu root fr fs gn).2.1
def akZ(th:Th)(key:ByteArray)(op:Option ByteArray)(m:As)(fu root:Int)(fr fs gn:Ws):Int:=(lD th key op m fu root fr fs gn).2.2.1
def ak0(th:Th)(key:ByteArray)(op:Option ByteArray)(m:As)(fu root:Int)(fr fs gn:Ws):Ws:=(lD th key op m fu root fr fs gn).2.2.2.1
def ak1(th:Th)(key:ByteArray)(op:Option ByteArray)(m:As)(fu root:Int)(fr fs gn:Ws):Ws:=(lD th key op m fu root fr fs gn).2.2.2.2.1
def ak2(th:Th)(key:ByteArray)(op:Option ByteArray)(m:As)(fu root:Int)(fr fs gn:Ws):Ws:=(lD th key op m fu root fr fs gn).2.2.2.2.2.1
def ak3(th:Th)(key:ByteArray)(op:Option ByteArray)(m:As)(fu root:Int)(fr fs gn:Ws):Int:=(lD th key op m fu root fr fs gn).2.2.2.2.2.2
abbrev sOr:=cp [Bx.dJ,Bx.dJ] [Bx.dJ] (fun _=>[]) (fun(a,b,())=>(Bx.bN .or a b,()))
abbrev aaz:Spec XK:=⟨fun(_,key,_)=>[.ptr 0 0,.s (.str key),.fn fP1 [.ptr 4 0,.ptr 5 0]],fun((th,m,fu,root,fr,fs,gn),key,val)=>pG th m fu root fr fs gn key val,fun((th,m,fu,root,fr,_,_),key,val)=>adL th m fu root fr key val,
 fun((th,m,fu,root,fr,fs,gn),key,val)=>pG th (akX th key (some val) m fu root fr fs gn) (akY th key (some val) m fu root fr fs gn) (akZ th key (some val) m fu root fr fs gn) (ak0 th key (some val) m fu root fr fs gn) (ak1 th key (some val) m fu root fr fs gn) (ak2 th key (some val) m fu root fr fs gn) key val,
 fun((th,m,fu,root,fr,fs,gn),key,val)=>bE (ak3 th key (some val) m fu root fr fs gn)⟩
def uo:aH:=[(111,bZ akR akT),(112,wq),(113,bZ sLo mLv),(114,sOr)]
def wu:List (Nat×Norm):=[(3,⟨[],[0,7,8,9],6,[]⟩),(5,⟨[],[0,7,8,9],6,[]⟩),(8,⟨[],[0,7,9],6,[]⟩)]
noncomputable def aii(th:Th)(aS:Int)(dA dm dn:Ws)(m:As)(fu root:Int)(fr fs gn:Ws)(key val:ByteArray)(l:List Br)(e:Int):bw:=⟨sl 78 [(0,.ptr 0 0),(7,.ptr 6 0),(8,.vec 7),(9,bE e)],pG th m fu root fr fs gn key val++[rR 1 aS dA dm dn,.vec (.ad cB l) Lf.eB],hd Tryz.f71 3,{}⟩
noncomputable def amt(th:Th)(aS:Int)(dA dm dn:Ws)(m:As)(fu root:Int)(fr fs gn:Ws)(key val:ByteArray)(l:List Br)(e:Int):bw:=⟨sl 78 [(0,.ptr 0 0),(7,.ptr 6 0),(8,.vec 7),(9,bE e)],pG th m fu root fr fs gn key val++[rR 1 aS dA dm dn,.vec (.ad cB l) Lf.eB],hr Tryz.f71 5,{}⟩
noncomputable def amu(th:Th)(aS:Int)(dA dm dn:Ws)(m:As)(fu root:Int)(fr fs gn:Ws)(key val:ByteArray)(e:Int):bw:=⟨sl 78 [(0,.ptr 0 0),(7,.ptr 6 0),(9,bE e)],pG th m fu root fr fs gn key val++[rR 1 aS dA dm dn],hr Tryz.f71 8,{}⟩
theorem aqT(th:Th)(m:As)(fu root:Int)(fr fs gn:Ws)(key val:ByteArray):run P uo.sum Tryz.f71 wu (start Tryz.f71 [.ptr 0 0,.s (.str key),.fn fP1 [.ptr 4 0,.ptr 5 0]] (pG th m fu root fr fs gn key val))=
 Tree.need (bn (some [AV.ptr 0 0,.s (.str key),.fn 72 [.ptr 4 0,.ptr 5 0]])) (.need (bn (some [ab.own [.ptr 1 0,.s (.int .i64 root),.ints .u64 16 fr,.ints .u64 16 fs,.ints .u64 16 gn] 115,.own [.vec 2,.ag 3,.s (.int .i64 fu)] 105,.vec (.ad [.arr .u8 64] th) 165,.map (.arr .u8 64) m,.own [.s (.str key)] 9,.own [.s (.str val)] 9])) (.need (Ds.bx th m fu) (.need (Bx.okW fr) (.need ((0:Int)≤root∧root≤65536) (.need ((1:Nat)≤key.size∧key.size≤24) (.need (val.size≤100) (.at (.mk (sl 78 [(0,.ptr 0 0),(7,.ptr 6 0),(8,.vec 7),(9,.s (.int .i64 (akQ th key (some val) m fu root fr fs gn)))]) [.own [.ptr 1 0,.s (.int .i64 root),.ints .u64 16 (afs th key (some val) m fu root fr fs gn),.ints .u64 16 (akO th key (some val) m fu root fr fs gn),.ints .u64 16 (akP th key (some val) m fu root fr fs gn)] 115,.own [.vec 2,.ag 3,.s (.int .i64 (afr th key (some val) m fu root fr fs gn))] 105,.vec (.ad [.arr .u8 64] th) 165,.map (.arr .u8 64) (afq th key (some val) m fu root fr fs gn),.own [.s (.str key)] 9,.own [.s (.str val)] 9,.own [.ptr 1 0,.s (.int .i64 root),.ints .u64 16 fr,.ints .u64 16 fs,.ints .u64 16 gn] 115,.vec (.ad [.str,.int .i64] (aft th key (some val) m fu root fr fs gn)) 137] (hd Tryz.f71 3) (.mk none false 0 [] 0))))))))):=by kernel_rfl
theorem aij(th:Th)(aS:Int)(dA dm dn:Ws)(m:As)(fu root:Int)(fr fs gn:Ws)(key val:ByteArray)(l:List Br)(e:Int):run P uo.sum Tryz.f71 wu (aii th aS dA dm dn m fu root fr fs gn key val l e)=
 Tree.ite (e==0) (.ite (decide ((↑l.length:Int)>1)) (.need (bn (some [AV.ptr 0 0,.agg [.s (.bool false),.s (.ro (.ad [.str,.str] [])),.s (.ro (.ad [.str,.int .i64] l))]])) (.need (bn (some [ab.own [.ptr 1 0,.s (.int .i64 root),.ints .u64 16 fr,.ints .u64 16 fs,.ints .u64 16 gn] 115,.own [.vec 2,.ag 3,.s (.int .i64 fu)] 105,.vec (.ad [.arr .u8 64] th) 165,.map (.arr .u8 64) m])) (.need (Ds.bx th m fu) (.need (Bx.okW fr) (.need (x9 false [] l) (.need (bh []) (.need (bk l) (.at (.mk (sl 78 [(0,.ptr 0 0),(7,.ptr 6 0),(8,.vec 7),(9,.s (.int .i64 (bJ th m fu fr fs false [] l).snd.snd.snd.snd.snd))]) [.own [.ptr 1 0,.s (.int .i64 root),.ints .u64 16 (bJ th m fu fr fs false [] l).snd.snd.fst,.ints .u64 16 (bJ th m fu fr fs false [] l).snd.snd.snd.fst,.ints .u64 16 gn] 115,.own [.vec 2,.ag 3,.s (.int .i64 (bJ th m fu fr fs false [] l).snd.fst)] 105,.vec (.ad [.arr .u8 64] th) 165,.map (.arr .u8 64) (bJ th m fu fr fs false [] l).fst,.own [.s (.str key)] 9,.own [.s (.str val)] 9,.own [.ptr 1 0,.s (.int .i64 aS),.ints .u64 16 dA,.ints .u64 16 dm,.ints .u64 16 dn] 115,.vec (.ad [.str,.int .i64] (bJ th m fu fr fs false [] l).snd.snd.snd.snd.fst) 137] (hd Tryz.f71 3) (.mk none false 0 [] 0)))))))))) (.at (.mk (sl 78 [(0,.ptr 0 0),(7,.ptr 6 0),(8,.vec 7),(9,.s (.int .i64 e))]) [.own [.ptr 1 0,.s (.int .i64 root),.ints .u64 16 fr,.ints .u64 16 fs,.ints .u64 16 gn] 115,.own [.vec 2,.ag 3,.s (.int .i64 fu)] 105,.vec (.ad [.arr .u8 64] th) 165,.map (.arr .u8 64) m,.own [.s (.str key)] 9,.own [.s (.str val)] 9,.own [.ptr 1 0,.s (.int .i64 aS),.ints .u64 16 dA,.ints .u64 16 dm,.ints .u64 16 dn] 115,.vec (.ad [.str,.int .i64] l) 137] (hr Tryz.f71 5) (.mk none false 0 [] 0))))
 (.at (.mk (sl 78 [(0,.ptr 0 0),(7,.ptr 6 0),(8,.vec 7),(9,.s (.int .i64 e))]) [.own [.ptr 1 0,.s (.int .i64 root),.ints .u64 16 fr,.ints .u64 16 fs,.ints .u64 16 gn] 115,.own [.vec 2,.ag 3,.s (.int .i64 fu)] 105,.vec (.ad [.arr .u8 64] th) 165,.map (.arr .u8 64) m,.own [.s (.str key)] 9,.own [.s (.str val)] 9,.own [.ptr 1 0,.s (.int .i64 aS),.ints .u64 16 dA,.ints .u64 16 dm,.ints .u64 16 dn] 115,.vec (.ad [.str,.int .i64] l) 137] (hr Tryz.f71 5) (.mk none false 0 [] 0))):=by kernel_rfl
theorem aoI(th:Th)(aS:Int)(dA dm dn:Ws)(m:As)(fu root:Int)(fr fs gn:Ws)(key val:ByteArray)(l:List Br)(e:Int):run P uo.sum Tryz.f71 wu (amt th aS dA dm dn m fu root fr fs gn key val l e)=
 Tree.ite (e==0) (.ite ((↑l.length:Int)==1) (.need ((0:Int)≤0) (.need ((0:Int)<(↑l.length:Int)) (.need (bn (some [AV.ptr 0 0,.s (.int .i64 (l.getD 0 (CL.d [.str,.int .i64])).snd.fst)])) (.need (bn (some [ab.own [.ptr 1 0,.s (.int .i64 0),.ints .u64 16 fr,.ints .u64 16 fs,.ints .u64 16 gn] 115,.own [.vec 2,.ag 3,.s (.int .i64 fu)] 105,.vec (.ad [.arr .u8 64] th) 165,.map (.arr .u8 64) m])) (.need (Ds.bx th m fu) (.need ((0:Int)≤(l.getD 0 (CL.d [.str,.int .i64])).snd.fst∧(l.getD 0 (CL.d [.str,.int .i64])).snd.fst≤65536) (.at (.mk (sl 78 [(0,.ptr 0 0),(7,.ptr 6 0),(9,.s (.int .i64 (akM th m 17 fs gn (l.getD 0 (CL.d [.str,.int .i64])).snd.fst 1)))]) [.own [.ptr 1 0,.s (.int .i64 (akL th m 17 fs gn (l.getD 0 (CL.d [.str,.int .i64])).snd.fst 1)),.ints .u64 16 fr,.ints .u64 16 (akJ th m 17 fs gn (l.getD 0 (CL.d [.str,.int .i64])).snd.fst 1),.ints .u64 16 (akK th m 17 fs gn (l.getD 0 (CL.d [.str,.int .i64])).snd.fst 1)] 115,.own [.vec 2,.ag 3,.s (.int .i64 fu)] 105,.vec (.ad [.arr .u8 64] th) 165,.map (.arr .u8 64) m,.own [.s (.str key)] 9,.own [.s (.str val)] 9,.own [.ptr 1 0,.s (.int .i64 aS),.ints .u64 16 dA,.ints .u64 16 dm,.ints .u64 16 dn] 115] (hr Tryz.f71 8) (.mk none false 0 [] 0))))))))) (.at (.mk (sl 78 [(0,.ptr 0 0),(7,.ptr 6 0),(9,.s (.int .i64 e))]) [.own [.ptr 1 0,.s (.int .i64 0),.ints .u64 16 fr,.ints .u64 16 fs,.ints .u64 16 gn] 115,.own [.vec 2,.ag 3,.s (.int .i64 fu)] 105,.vec (.ad [.arr .u8 64] th) 165,.map (.arr .u8 64) m,.own [.s (.str key)] 9,.own [.s (.str val)] 9,.own [.ptr 1 0,.s (.int .i64 aS),.ints .u64 16 dA,.ints .u64 16 dm,.ints .u64 16 dn] 115] (hr Tryz.f71 8) (.mk none false 0 [] 0)))) (.at (.mk (sl 78 [(0,.ptr 0 0),(7,.ptr 6 0),(9,.s (.int .i64 e))]) [.own [.ptr 1 0,.s (.int .i64 0),.ints .u64 16 fr,.ints .u64 16 fs,.ints .u64 16 gn] 115,.own [.vec 2,.ag 3,.s (.int .i64 fu)] 105,.vec (.ad [.arr .u8 64] th) 165,.map (.arr .u8 64) m,.own [.s (.str key)] 9,.own [.s (.str val)] 9,.own [.ptr 1 0,.s (.int .i64 aS),.ints .u64 16 dA,.ints .u64 16 dm,.ints .u64 16 dn] 115] (hr Tryz.f71 8) (.mk none false 0 [] 0))):=by kernel_rfl
theorem aoJ(th:Th)(aS:Int)(dA dm dn:Ws)(m:As)(fu root:Int)(fr fs gn:Ws)(key val:ByteArray)(e:Int):run P uo.sum Tryz.f71 wu (amu th aS dA dm dn m fu root fr fs gn key val e)=
 Tree.ite (e !=0) (.ret [.own [.ptr 1 0,.s (.int .i64 aS),.ints .u64 16 dA,.ints .u64 16 dm,.ints .u64 16 dn] 115,.own [.vec 2,.ag 3,.s (.int .i64 fu)] 105,.vec (.ad [.arr .u8 64] th) 165,.map (.arr .u8 64) m,.own [.s (.str key)] 9,.own [.s (.str val)] 9,.own [.ptr 1 0,.s (.int .i64 aS),.ints .u64 16 dA,.ints .u64 16 dm,.ints .u64 16 dn] 115] (.s (.int .i64 e))) (.ret [.own [.ptr 1 0,.s (.int .i64 root),.ints .u64 16 (Bx.bN BinOp.or fr gn),.ints .u64 16 fs,.ints .u64 16 (List.replicate 16 0)] 115,.own [.vec 2,.ag 3,.s (.int .i64 fu)] 105,.vec (.ad [.arr .u8 64] th) 165,.map (.arr .u8 64) m,.own [.s (.str key)] 9,.own [.s (.str val)] 9,.own [.ptr 1 0,.s (.int .i64 aS),.ints .u64 16 dA,.ints .u64 16 dm,.ints .u64 16 dn] 115] (.s (.aK .i64 0))):=by kernel_rfl
abbrev aaA:Spec XK:=⟨fun(_,key,_)=>[.ptr 0 0,.s (.str key),.fn fD1 [.ptr 4 0]],fun((th,m,fu,root,fr,fs,gn),key,_)=>pH th m fu root fr fs gn key,fun((th,m,fu,root,fr,_,_),key,val)=>adL th m fu root fr key val,
 fun((th,m,fu,root,fr,fs,gn),key,_)=>pH th (akX th key none m fu root fr fs gn) (akY th key none m fu root fr fs gn) (akZ th key none m fu root fr fs gn) (ak0 th key none m fu root fr fs gn) (ak1 th key none m fu root fr fs gn) (ak2 th key none m fu root fr fs gn) key,
 fun((th,m,fu,root,fr,fs,gn),key,_)=>bE (ak3 th key none m fu root fr fs gn)⟩
def uq:aH:=[(111,bZ akS akU),(112,wq),(113,bZ sLo mLv),(114,sOr)]
def wv:List (Nat×Norm):=[(3,⟨[],[0,7,8,9],5,[]⟩),(5,⟨[],[0,7,8,9],5,[]⟩),(8,⟨[],[0,7,9],5,[]⟩)]
noncomputable def aik(th:Th)(aS:Int)(dA dm dn:Ws)(m:As)(fu root:Int)(fr fs gn:Ws)(key:ByteArray)(l:List Br)(e:Int):bw:=⟨sl 78 [(0,.ptr 0 0),(7,.ptr 5 0),(8,.vec 6),(9,bE e)],pH th m fu root fr fs gn key++[rR 1 aS dA dm dn,.vec (.ad cB l) Lf.eB],hd Tryz.f71 3,{}⟩
noncomputable def amv(th:Th)(aS:Int)(dA dm dn:Ws)(m:As)(fu root:Int)(fr fs gn:Ws)(key:ByteArray)(l:List Br)(e:Int):bw:=⟨sl 78 [(0,.ptr 0 0),(7,.ptr 5 0),(8,.vec 6),(9,bE e)],pH th m fu root fr fs gn key++[rR 1 aS dA dm dn,.vec (.ad cB l) Lf.eB],hr Tryz.f71 5,{}⟩
noncomputable def amw(th:Th)(aS:Int)(dA dm dn:Ws)(m:As)(fu root:Int)(fr fs gn:Ws)(key:ByteArray)(e:Int):bw:=⟨sl 78 [(0,.ptr 0 0),(7,.ptr 5 0),(9,bE e)],pH th m fu root fr fs gn key++[rR 1 aS dA dm dn],hr Tryz.f71 8,{}⟩
theorem aqU(th:Th)(m:As)(fu root:Int)(fr fs gn:Ws)(key:ByteArray):run P uq.sum Tryz.f71 wv (start Tryz.f71 [.ptr 0 0,.s (.str key),.fn fD1 [.ptr 4 0]] (pH th m fu root fr fs gn key))=
 Tree.need (bn (some [AV.ptr 0 0,.s (.str key),.fn 75 [.ptr 4 0]])) (.need (bn (some [ab.own [.ptr 1 0,.s (.int .i64 root),.ints .u64 16 fr,.ints .u64 16 fs,.ints .u64 16 gn] 115,.own [.vec 2,.ag 3,.s (.int .i64 fu)] 105,.vec (.ad [.arr .u8 64] th) 165,.map (.arr .u8 64) m,.own [.s (.str key)] 9])) (.need (Ds.bx th m fu) (.need (Bx.okW fr) (.need ((0:Int)≤root∧root≤65536) (.need ((1:Nat)≤key.size∧key.size≤24) (.need (ByteArray.empty.size≤100) (.at (.mk (sl 78 [(0,.ptr 0 0),(7,.ptr 5 0),(8,.vec 6),(9,.s (.int .i64 (akQ th key none m fu root fr fs gn)))]) [.own [.ptr 1 0,.s (.int .i64 root),.ints .u64 16 (afs th key none m fu root fr fs gn),.ints .u64 16 (akO th key none m fu root fr fs gn),.ints .u64 16 (akP th key none m fu root fr fs gn)] 115,.own [.vec 2,.ag 3,.s (.int .i64 (afr th key none m fu root fr fs gn))] 105,.vec (.ad [.arr .u8 64] th) 165,.map (.arr .u8 64) (afq th key none m fu root fr fs gn),.own [.s (.str key)] 9,.own [.ptr 1 0,.s (.int .i64 root),.ints .u64 16 fr,.ints .u64 16 fs,.ints .u64 16 gn] 115,.vec (.ad [.str,.int .i64] (aft th key none m fu root fr fs gn)) 137] (hd Tryz.f71 3) (.mk none false 0 [] 0))))))))):=by kernel_rfl
theorem ail(th:Th)(aS:Int)(dA dm dn:Ws)(m:As)(fu root:Int)(fr fs gn:Ws)(key:ByteArray)(l:List Br)(e:Int):run P uq.sum Tryz.f71 wv (aik th aS dA dm dn m fu root fr fs gn key l e)=
 Tree.ite (e==0) (.ite (decide ((↑l.length:Int)>1)) (.need (bn (some [AV.ptr 0 0,.agg [.s (.bool false),.s (.ro (.ad [.str,.str] [])),.s (.ro (.ad [.str,.int .i64] l))]])) (.need (bn (some [ab.own [.ptr 1 0,.s (.int .i64 root),.ints .u64 16 fr,.ints .u64 16 fs,.ints .u64 16 gn] 115,.own [.vec 2,.ag 3,.s (.int .i64 fu)] 105,.vec (.ad [.arr .u8 64] th) 165,.map (.arr .u8 64) m])) (.need (Ds.bx th m fu) (.need (Bx.okW fr) (.need (x9 false [] l) (.need (bh []) (.need (bk l) (.at (.mk (sl 78 [(0,.ptr 0 0),(7,.ptr 5 0),(8,.vec 6),(9,.s (.int .i64 (bJ th m fu fr fs false [] l).snd.snd.snd.snd.snd))]) [.own [.ptr 1 0,.s (.int .i64 root),.ints .u64 16 (bJ th m fu fr fs false [] l).snd.snd.fst,.ints .u64 16 (bJ th m fu fr fs false [] l).snd.snd.snd.fst,.ints .u64 16 gn] 115,.own [.vec 2,.ag 3,.s (.int .i64 (bJ th m fu fr fs false [] l).snd.fst)] 105,.vec (.ad [.arr .u8 64] th) 165,.map (.arr .u8 64) (bJ th m fu fr fs false [] l).fst,.own [.s (.str key)] 9,.own [.ptr 1 0,.s (.int .i64 aS),.ints .u64 16 dA,.ints .u64 16 dm,.ints .u64 16 dn] 115,.vec (.ad [.str,.int .i64] (bJ th m fu fr fs false [] l).snd.snd.snd.snd.fst) 137] (hd Tryz.f71 3) (.mk none false 0 [] 0)))))))))) (.at (.mk (sl 78 [(0,.ptr 0 0),(7,.ptr 5 0),(8,.vec 6),(9,.s (.int .i64 e))]) [.own [.ptr 1 0,.s (.int .i64 root),.ints .u64 16 fr,.ints .u64 16 fs,.ints .u64 16 gn] 115,.own [.vec 2,.ag 3,.s (.int .i64 fu)] 105,.vec (.ad [.arr .u8 64] th) 165,.map (.arr .u8 64) m,.own [.s (.str key)] 9,.own [.ptr 1 0,.s (.int .i64 aS),.ints .u64 16 dA,.ints .u64 16 dm,.ints .u64 16 dn] 115,.vec (.ad [.str,.int .i64] l) 137] (hr Tryz.f71 5) (.mk none false 0 [] 0)))) (.at (.mk (sl 78 [(0,.ptr 0 0),(7,.ptr 5 0),(8,.vec 6),(9,.s (.int .i64 e))]) [.own [.ptr 1 0,.s (.int .i64 root),.ints .u64 16 fr,.ints .u64 16 fs,.ints .u64 16 gn] 115,.own [.vec 2,.ag 3,.s (.int .i64 fu)] 105,.vec (.ad [.arr .u8 64] th) 165,.map (.arr .u8 64) m,.own [.s (.str key)] 9,.own [.ptr 1 0,.s (.int .i64 aS),.ints .u64 16 dA,.ints .u64 16 dm,.ints .u64 16 dn] 115,.vec (.ad [.str,.int .i64] l) 137] (hr Tryz.f71 5) (.mk none false 0 [] 0))):=by kernel_rfl
theorem aoK(th:Th)(aS:Int)(dA dm dn:Ws)(m:As)(fu root:Int)(fr fs gn:Ws)(key:ByteArray)(l:List Br)(e:Int):run P uq.sum Tryz.f71 wv (amv th aS dA dm dn m fu root fr fs gn key l e)=
 Tree.ite (e==0) (.ite ((↑l.length:Int)==1) (.need ((0:Int)≤0) (.need ((0:Int)<(↑l.length:Int)) (.need (bn (some [AV.ptr 0 0,.s (.int .i64 (l.getD 0 (CL.d [.str,.int .i64])).snd.fst)])) (.need (bn (some [ab.own [.ptr 1 0,.s (.int .i64 0),.ints .u64 16 fr,.ints .u64 16 fs,.ints .u64 16 gn] 115,.own [.vec 2,.ag 3,.s (.int .i64 fu)] 105,.vec (.ad [.arr .u8 64] th) 165,.map (.arr .u8 64) m])) (.need (Ds.bx th m fu) (.need ((0:Int)≤(l.getD 0 (CL.d [.str,.int .i64])).snd.fst∧(l.getD 0 (CL.d [.str,.int .i64])).snd.fst≤65536) (.at (.mk (sl 78 [(0,.ptr 0 0),(7,.ptr 5 0),(9,.s (.int .i64 (akM th m 17 fs gn (l.getD 0 (CL.d [.str,.int .i64])).snd.fst 1)))]) [.own [.ptr 1 0,.s (.int .i64 (akL th m 17 fs gn (l.getD 0 (CL.d [.str,.int .i64])).snd.fst 1)),.ints .u64 16 fr,.ints .u64 16 (akJ th m 17 fs gn (l.getD 0 (CL.d [.str,.int .i64])).snd.fst 1),.ints .u64 16 (akK th m 17 fs gn (l.getD 0 (CL.d [.str,.int .i64])).snd.fst 1)] 115,.own [.vec 2,.ag 3,.s (.int .i64 fu)] 105,.vec (.ad [.arr .u8 64] th) 165,.map (.arr .u8 64) m,.own [.s (.str key)] 9,.own [.ptr 1 0,.s (.int .i64 aS),.ints .u64 16 dA,.ints .u64 16 dm,.ints .u64 16 dn] 115] (hr Tryz.f71 8) (.mk none false 0 [] 0))))))))) (.at (.mk (sl 78 [(0,.ptr 0 0),(7,.ptr 5 0),(9,.s (.int .i64 e))]) [.own [.ptr 1 0,.s (.int .i64 0),.ints .u64 16 fr,.ints .u64 16 fs,.ints .u64 16 gn] 115,.own [.vec 2,.ag 3,.s (.int .i64 fu)] 105,.vec (.ad [.arr .u8 64] th) 165,.map (.arr .u8 64) m,.own [.s (.str key)] 9,.own [.ptr 1 0,.s (.int .i64 aS),.ints .u64 16 dA,.ints .u64 16 dm,.ints .u64 16 dn] 115] (hr Tryz.f71 8) (.mk none false 0 [] 0)))) (.at (.mk (sl 78 [(0,.ptr 0 0),(7,.ptr 5 0),(9,.s (.int .i64 e))]) [.own [.ptr 1 0,.s (.int .i64 0),.ints .u64 16 fr,.ints .u64 16 fs,.ints .u64 16 gn] 115,.own [.vec 2,.ag 3,.s (.int .i64 fu)] 105,.vec (.ad [.arr .u8 64] th) 165,.map (.arr .u8 64) m,.own [.s (.str key)] 9,.own [.ptr 1 0,.s (.int .i64 aS),.ints .u64 16 dA,.ints .u64 16 dm,.ints .u64 16 dn] 115] (hr Tryz.f71 8) (.mk none false 0 [] 0))):=by kernel_rfl
theorem aoL(th:Th)(aS:Int)(dA dm dn:Ws)(m:As)(fu root:Int)(fr fs gn:Ws)(key:ByteArray)(e:Int):run P uq.sum Tryz.f71 wv (amw th aS dA dm dn m fu root fr fs gn key e)=
 Tree.ite (e !=0) (.ret [.own [.ptr 1 0,.s (.int .i64 aS),.ints .u64 16 dA,.ints .u64 16 dm,.ints .u64 16 dn] 115,.own [.vec 2,.ag 3,.s (.int .i64 fu)] 105,.vec (.ad [.arr .u8 64] th) 165,.map (.arr .u8 64) m,.own [.s (.str key)] 9,.own [.ptr 1 0,.s (.int .i64 aS),.ints .u64 16 dA,.ints .u64 16 dm,.ints .u64 16 dn] 115] (.s (.int .i64 e))) (.ret [.own [.ptr 1 0,.s (.int .i64 root),.ints .u64 16 (Bx.bN BinOp.or fr gn),.ints .u64 16 fs,.ints .u64 16 (List.replicate 16 0)] 115,.own [.vec 2,.ag 3,.s (.int .i64 fu)] 105,.vec (.ad [.arr .u8 64] th) 165,.map (.arr .u8 64) m,.own [.s (.str key)] 9,.own [.ptr 1 0,.s (.int .i64 aS),.ints .u64 16 dA,.ints .u64 16 dm,.ints .u64 16 dn] 115] (.s (.aK .i64 0))):=by kernel_rfl
theorem aaB{th:Th}{key:ByteArray}{op:Option ByteArray}(hk:key.size≤24){m:As}{fu root:Int}{fr fs gn:Ws}(hd:Ds.bx th m fu)(hf:Bx.okW fr):
 ah7 th (afq th key op m fu root fr fs gn) (afr th key op m fu root fr fs gn) (afs th key op m fu root fr fs gn) (aft th key op m fu root fr fs gn):=by
 unfold afq afr afs aft lC;split
 ·exact pI hk 17 hd hf
 ·split
  ·exact⟨hd,hf,Nat.zero_le _,noB,noB⟩
  ·exact mO hd hf (ah8 hk noE) noB
theorem atm{l:List Br}(h2:l.length≤2)(h:jv l):cH [] (aa l)≤254:=by
 have e:=ah5 (aa l);have e2:=afo l
 have e3:rz l≤54:=by
  cases l with
  |nil=>simp[mN]
  |cons a r=>
   have ha:=h a List.mem_cons_self;cases r with
   |nil=>rw[hH,mN];unfold szB;omega
   |cons b r=>
    have hb:=h b (List.mem_cons_of_mem _ List.mem_cons_self);cases r with
    |nil=>rw[hH,hH,mN];unfold szB;omega
    |cons c r=>simp only[List.length_cons]at h2;omega
 omega
theorem aim{th:Th}{m:As}{fu:Int}{fr fs:Ws}{l:List Br}(h0:1<l.length)(h2:l.length≤2)(h:jv l):(bJ th m fu fr fs false [] l).2.2.2.2.1.length=1:=by
 unfold bJ;rw[if_neg (by simp only[List.length_nil];omega),if_pos (atm h2 h)];rfl
theorem adM{l:List Br}(h:∀b∈l,0≤b.2.1∧b.2.1≤65536)(k:Nat):0≤(l.getD k dB).2.1∧(l.getD k dB).2.1≤65536:=by
 rcases Nat.lt_or_ge k l.length with hk|hk
 ·rw[bM hk];exact h _ (List.getElem_mem hk)
 ·rw[List.getD,List.getElem?_eq_none hk];exact⟨Int.le_refl 0,by show(0:Int)≤65536;omega⟩
theorem wx{l:List Br}(h2:l.length≤2)(h:jv l):bk l:=⟨by omega,fun x hx=>Nat.le_trans (h x hx) (by omega)⟩
theorem yh{th:Th}{c:Chg}(h:¬(c.2.2.2.2.2.2=0∧1<c.2.2.2.2.2.1.length)):upT th c=c:=if_neg h
theorem amx{th:Th}{m:As}{fu root:Int}{fr fs gn:Ws}{key val:ByteArray}{c:Chs}(e:lD th key (some val) m fu root fr fs gn=c):
 aaz.ez ((th,m,fu,root,fr,fs,gn),key,val)=pG th c.1 c.2.1 c.2.2.1 c.2.2.2.1 c.2.2.2.2.1 c.2.2.2.2.2.1 key val∧aaz.out ((th,m,fu,root,fr,fs,gn),key,val)=bE c.2.2.2.2.2.2:=by
 subst e;exact⟨rfl,rfl⟩
theorem kG:uo.Ok P Bx.bO:=aH.Ok.cons (akV.sum akT) (aH.Ok.cons (gZ (fW (jc.sum mTN) 1 _) 1) (aH.Ok.cons (aay.sum mLv) (aH.Ok.cons Bx.ahF.sum aH.Ok.nil)))
section
variable{th:Th}{m0:As}{rA aS:Int}{dA dm dn:Ws}{key val:ByteArray}{X:Ctx}
theorem pJ{th:Th}{m:As}{fu root:Int}{fr fs gn:Ws}{key val:ByteArray}:∀y∈wu,(pG th m fu root fr fs gn key val).length≤y.2.m:=fun y hy=>by
 simp only[wu,List.mem_cons,List.not_mem_nil,or_false]at hy;rcases hy with rfl|rfl|rfl<;>exact Nat.le_refl _
theorem yi(hz:dP Bx.bO X)(hX:X.H=lk (pG th m0 rA aS dA dm dn key val)){m:As}{fu root:Int}{fr fs gn:Ws}{e:Int}(ee:lD th key (some val) m0 rA aS dA dm dn=rj th aS dA dm dn m fu root fr fs gn e):
 Safe P 71 X (cX aaz ((th,m0,rA,aS,dA,dm,dn),key,val)) (amu th aS dA dm dn m fu root fr fs gn key val e):=by
 refine Ds.cR hz hX pJ kG Tryz.func71 (aoJ th aS dA dm dn m fu root fr fs gn key val e) ⟨fun h=> ?_,fun h=> ?_⟩
 ·have h:e≠0:=by simpa using h
  unfold rj at ee;rw[if_pos h]at ee;obtain⟨f1,f2⟩:=amx (val:=val) ee;exact bC 6 rfl (Nat.le_refl _) f2 f1
 ·have h:¬e≠0:=by simpa using h
  unfold rj at ee;rw[if_neg h]at ee;obtain⟨f1,f2⟩:=amx (val:=val) ee;exact bC 6 rfl (Nat.le_refl _) f2 f1
theorem rV(hz:dP Bx.bO X)(hX:X.H=lk (pG th m0 rA aS dA dm dn key val)){m:As}{fu root:Int}{fr fs gn:Ws}{l:List Br}{e:Int}(hd:Ds.bx th m fu)(hp:∀b∈l,0≤b.2.1∧b.2.1≤65536)
 (ee:lD th key (some val) m0 rA aS dA dm dn=qH th aS dA dm dn (m,fu,fr,fs,gn,l,e)):
 Safe P 71 X (cX aaz ((th,m0,rA,aS,dA,dm,dn),key,val)) (amt th aS dA dm dn m fu root fr fs gn key val l e):=by
 refine Ds.cR hz hX pJ kG Tryz.func71 (aoI th aS dA dm dn m fu root fr fs gn key val l e) ⟨fun h=>⟨fun h2=> ?_,fun h2=> ?_⟩,fun h=> ?_⟩
 ·have h:e=0:=by simpa using h
  have h2:(l.length:Int)=1:=by simpa using h2
  unfold qH at ee;rw[if_pos ⟨h,by simp only[];omega⟩]at ee;exact⟨by omega,by omega,rfl,rfl,hd,adM hp 0,yi hz hX ee⟩
 ·have h2:¬(l.length:Int)=1:=by simpa using h2
  unfold qH at ee;rw[if_neg (fun a=>h2 (by have:=a.2;simp only[]at this;omega))]at ee;exact yi hz hX ee
 ·have h:¬e=0:=by simpa using h
  unfold qH at ee;rw[if_neg (fun a=>h a.1)]at ee;exact yi hz hX ee
theorem ak4(hz:dP Bx.bO X)(hX:X.H=lk (pG th m0 rA aS dA dm dn key val)){m:As}{fu root:Int}{fr fs gn:Ws}{l:List Br}{e:Int}(hd:Ds.bx th m fu)(hp:∀b∈l,0≤b.2.1∧b.2.1≤65536)(rm:¬(e=0∧1<l.length))
 (ee:lD th key (some val) m0 rA aS dA dm dn=qH th aS dA dm dn (m,fu,fr,fs,gn,l,e)):
 Safe P 71 X (cX aaz ((th,m0,rA,aS,dA,dm,dn),key,val)) (aii th aS dA dm dn m fu root fr fs gn key val l e):=by
 refine Ds.cR hz hX pJ kG Tryz.func71 (aij th aS dA dm dn m fu root fr fs gn key val l e) ⟨fun h=>⟨fun h2=> ?_,fun h2=> ?_⟩,fun h=> ?_⟩
 ·have h:e=0:=by simpa using h
  have h2:=of_decide_eq_true h2;exact absurd ⟨h,by omega⟩ rm
 ·exact rV hz hX hd hp ee
 ·exact rV hz hX hd hp ee
theorem ak5(hz:dP Bx.bO X)(hX:X.H=lk (pG th m0 rA aS dA dm dn key val)){m:As}{fu root:Int}{fr fs gn:Ws}{l:List Br}{e:Int}(F:ah7 th m fu fr l)
 (ee:lD th key (some val) m0 rA aS dA dm dn=qH th aS dA dm dn (upT th (m,fu,fr,fs,gn,l,e))):
 Safe P 71 X (cX aaz ((th,m0,rA,aS,dA,dm,dn),key,val)) (aii th aS dA dm dn m fu root fr fs gn key val l e):=by
 refine Ds.cR hz hX pJ kG Tryz.func71 (aij th aS dA dm dn m fu root fr fs gn key val l e) ⟨fun h=>⟨fun h2=> ?_,fun h2=> ?_⟩,fun h=> ?_⟩
 ·have h:e=0:=by simpa using h
  have h2:=of_decide_eq_true h2;have hu:upT th (m,fu,fr,fs,gn,l,e)=ju gn (bJ th m fu fr fs false [] l):=if_pos ⟨h,by show 1<l.length;omega⟩;rw[hu]at ee;have F2:=mO (fs:=fs) (l:=false) (es:=[]) F.d F.fr noE F.key;have hl:=aim (th:=th) (m:=m) (fu:=fu) (fr:=fr) (fs:=fs) (l:=l) (by omega) F.two F.key;exact⟨rfl,rfl,F.d,F.fr,⟨fun a=>(by cases a),fun _=>rfl⟩,js,wx F.two F.key,ak4 hz hX F2.d F2.pg (fun a=>by rw[hl]at a;omega) ee⟩
 ·have h2:=of_decide_eq_false h2;rw[yh (fun a=>h2 (by have:=a.2;simp only[]at this;omega))]at ee;exact rV hz hX F.d F.pg ee
 ·have h:¬e=0:=by simpa using h
  rw[yh (fun a=>h a.1)]at ee;exact rV hz hX F.d F.pg ee
end
theorem aaC:fC P Bx.bO 71 aaz:=by
 refine au Tryz.func71 (by kernel_rfl) (fun x=>Nat.le_of_ble_eq_true (by kernel_rfl)) ?_;rintro⟨⟨(th:Th),(m:As),(fu:Int),(root:Int),(fr:Ws),(fs:Ws),(gn:Ws)⟩,(key:ByteArray),(val:ByteArray)⟩ ⟨(hd:Ds.bx th m fu),(hf:Bx.okW fr),(hr:0≤root∧root≤65536),(hk:1≤key.size∧key.size≤24),(hv:val.size≤100),_⟩ X hX hz;exact Ds.cR hz hX pJ kG Tryz.func71 (aqT th m fu root fr fs gn key val) ⟨rfl,rfl,hd,hf,hr,hk,hv,ak5 hz hX (aaB (op:=(some val)) hk.2 hd hf) rfl⟩
theorem amy{th:Th}{m:As}{fu root:Int}{fr fs gn:Ws}{key val:ByteArray}{c:Chs}(e:lD th key none m fu root fr fs gn=c):
 aaA.ez ((th,m,fu,root,fr,fs,gn),key,val)=pH th c.1 c.2.1 c.2.2.1 c.2.2.2.1 c.2.2.2.2.1 c.2.2.2.2.2.1 key∧aaA.out ((th,m,fu,root,fr,fs,gn),key,val)=bE c.2.2.2.2.2.2:=by
 subst e;exact⟨rfl,rfl⟩
theorem kH:uq.Ok P Bx.bO:=aH.Ok.cons (akW.sum akU) (aH.Ok.cons (gZ (fW (jc.sum mTN) 1 _) 1) (aH.Ok.cons (aay.sum mLv) (aH.Ok.cons Bx.ahF.sum aH.Ok.nil)))
section
variable{th:Th}{m0:As}{rA aS:Int}{dA dm dn:Ws}{key val:ByteArray}{X:Ctx}
theorem pK{th:Th}{m:As}{fu root:Int}{fr fs gn:Ws}{key:ByteArray}:∀y∈wv,(pH th m fu root fr fs gn key).length≤y.2.m:=fun y hy=>by
 simp only[wv,List.mem_cons,List.not_mem_nil,or_false]at hy;rcases hy with rfl|rfl|rfl<;>exact Nat.le_refl _
theorem yj(hz:dP Bx.bO X)(hX:X.H=lk (pH th m0 rA aS dA dm dn key)){m:As}{fu root:Int}{fr fs gn:Ws}{e:Int}(ee:lD th key none m0 rA aS dA dm dn=rj th aS dA dm dn m fu root fr fs gn e):
 Safe P 71 X (cX aaA ((th,m0,rA,aS,dA,dm,dn),key,val)) (amw th aS dA dm dn m fu root fr fs gn key e):=by
 refine Ds.cR hz hX pK kH Tryz.func71 (aoL th aS dA dm dn m fu root fr fs gn key e) ⟨fun h=> ?_,fun h=> ?_⟩
 ·have h:e≠0:=by simpa using h
  unfold rj at ee;rw[if_pos h]at ee;obtain⟨f1,f2⟩:=amy (val:=val) ee;exact bC 5 rfl (Nat.le_refl _) f2 f1
 ·have h:¬e≠0:=by simpa using h
  unfold rj at ee;rw[if_neg h]at ee;obtain⟨f1,f2⟩:=amy (val:=val) ee;exact bC 5 rfl (Nat.le_refl _) f2 f1
theorem rW(hz:dP Bx.bO X)(hX:X.H=lk (pH th m0 rA aS dA dm dn key)){m:As}{fu root:Int}{fr fs gn:Ws}{l:List Br}{e:Int}(hd:Ds.bx th m fu)(hp:∀b∈l,0≤b.2.1∧b.2.1≤65536)
 (ee:lD th key none m0 rA aS dA dm dn=qH th aS dA dm dn (m,fu,fr,fs,gn,l,e)):
 Safe P 71 X (cX aaA ((th,m0,rA,aS,dA,dm,dn),key,val)) (amv th aS dA dm dn m fu root fr fs gn key l e):=by
 refine Ds.cR hz hX pK kH Tryz.func71 (aoK th aS dA dm dn m fu root fr fs gn key l e) ⟨fun h=>⟨fun h2=> ?_,fun h2=> ?_⟩,fun h=> ?_⟩
 ·have h:e=0:=by simpa using h
  have h2:(l.length:Int)=1:=by simpa using h2
  unfold qH at ee;rw[if_pos ⟨h,by simp only[];omega⟩]at ee;exact⟨by omega,by omega,rfl,rfl,hd,adM hp 0,yj hz hX ee⟩
 ·have h2:¬(l.length:Int)=1:=by simpa using h2
  unfold qH at ee;rw[if_neg (fun a=>h2 (by have:=a.2;simp only[]at this;omega))]at ee;exact yj hz hX ee
 ·have h:¬e=0:=by simpa using h
  unfold qH at ee;rw[if_neg (fun a=>h a.1)]at ee;exact yj hz hX ee
theorem ak6(hz:dP Bx.bO X)(hX:X.H=lk (pH th m0 rA aS dA dm dn key)){m:As}{fu root:Int}{fr fs gn:Ws}{l:List Br}{e:Int}(hd:Ds.bx th m fu)(hp:∀b∈l,0≤b.2.1∧b.2.1≤65536)(rm:¬(e=0∧1<l.length))
 (ee:lD th key none m0 rA aS dA dm dn=qH th aS dA dm dn (m,fu,fr,fs,gn,l,e)):
 Safe P 71 X (cX aaA ((th,m0,rA,aS,dA,dm,dn),key,val)) (aik th aS dA dm dn m fu root fr fs gn key l e):=by
 refine Ds.cR hz hX pK kH Tryz.func71 (ail th aS dA dm dn m fu root fr fs gn key l e) ⟨fun h=>⟨fun h2=> ?_,fun h2=> ?_⟩,fun h=> ?_⟩
 ·have h:e=0:=by simpa using h
  have h2:=of_decide_eq_true h2;exact absurd ⟨h,by omega⟩ rm
 ·exact rW hz hX hd hp ee
 ·exact rW hz hX hd hp ee
theorem ak7(hz:dP Bx.bO X)(hX:X.H=lk (pH th m0 rA aS dA dm dn key)){m:As}{fu root:Int}{fr fs gn:Ws}{l:List Br}{e:Int}(F:ah7 th m fu fr l)
 (ee:lD th key none m0 rA aS dA dm dn=qH th aS dA dm dn (upT th (m,fu,fr,fs,gn,l,e))):
 Safe P 71 X (cX aaA ((th,m0,rA,aS,dA,dm,dn),key,val)) (aik th aS dA dm dn m fu root fr fs gn key l e):=by
 refine Ds.cR hz hX pK kH Tryz.func71 (ail th aS dA dm dn m fu root fr fs gn key l e) ⟨fun h=>⟨fun h2=> ?_,fun h2=> ?_⟩,fun h=> ?_⟩
 ·have h:e=0:=by simpa using h
  have h2:=of_decide_eq_true h2;have hu:upT th (m,fu,fr,fs,gn,l,e)=ju gn (bJ th m fu fr fs false [] l):=if_pos ⟨h,by show 1<l.length;omega⟩;rw[hu]at ee;have F2:=mO (fs:=fs) (l:=false) (es:=[]) F.d F.fr noE F.key;have hl:=aim (th:=th) (m:=m) (fu:=fu) (fr:=fr) (fs:=fs) (l:=l) (by omega) F.two F.key;exact⟨rfl,rfl,F.d,F.fr,⟨fun a=>(by cases a),fun _=>rfl⟩,js,wx F.two F.key,ak6 hz hX F2.d F2.pg (fun a=>by rw[hl]at a;omega) ee⟩
 ·have h2:=of_decide_eq_false h2;rw[yh (fun a=>h2 (by have:=a.2;simp only[]at this;omega))]at ee;exact rW hz hX F.d F.pg ee
 ·have h:¬e=0:=by simpa using h
  rw[yh (fun a=>h a.1)]at ee;exact rW hz hX F.d F.pg ee
end
theorem aaD:fC P Bx.bO 71 aaA:=by
 refine au Tryz.func71 (by kernel_rfl) (fun x=>Nat.le_of_ble_eq_true (by kernel_rfl)) ?_;rintro⟨⟨(th:Th),(m:As),(fu:Int),(root:Int),(fr:Ws),(fs:Ws),(gn:Ws)⟩,(key:ByteArray),(val:ByteArray)⟩ ⟨(hd:Ds.bx th m fu),(hf:Bx.okW fr),(hr:0≤root∧root≤65536),(hk:1≤key.size∧key.size≤24),(hv:val.size≤100),_⟩ X hX hz;exact Ds.cR hz hX pK kH Tryz.func71 (aqU th m fu root fr fs gn key) ⟨rfl,rfl,hd,hf,hr,hk,(Nat.zero_le 100),ak7 hz hX (aaB (op:=none) hk.2 hd hf) rfl⟩
end Ts
namespace Ts
open Go Go.Sx Go.Proofs Lf
def lQ(key:ByteArray):Option ByteArray→Bool
 |some v=>decide (1≤key.size)&&decide (key.size≤24)&&decide (v.size≤100)
 |none=>decide (1≤key.size)&&decide (key.size≤24)
def opT(th:Th)(key:ByteArray)(op:Option ByteArray)(m:As)(fu root:Int)(fr fs gn:Ws):Chs:=if lQ key op=true then lD th key op m fu root fr fs gn else(m,fu,root,fr,fs,gn,1)
def op0(th:Th)(key:ByteArray)(op:Option ByteArray)(m:As)(fu root:Int)(fr fs gn:Ws):As:=(opT th key op m fu root fr fs gn).1
def op1(th:Th)(key:ByteArray)(op:Option ByteArray)(m:As)(fu root:Int)(fr fs gn:Ws):Int:=(opT th key op m fu root fr fs gn).2.1
def uF(th:Th)(key:ByteArray)(op:Option ByteArray)(m:As)(fu root:Int)(fr fs gn:Ws):Int:=(opT th key op m fu root fr fs gn).2.2.1
def op2(th:Th)(key:ByteArray)(op:Option ByteArray)(m:As)(fu root:Int)(fr fs gn:Ws):Ws:=(opT th key op m fu root fr fs gn).2.2.2.1
def op3(th:Th)(key:ByteArray)(op:Option ByteArray)(m:As)(fu root:Int)(fr fs gn:Ws):Ws:=(opT th key op m fu root fr fs gn).2.2.2.2.1
def op4(th:Th)(key:ByteArray)(op:Option ByteArray)(m:As)(fu root:Int)(fr fs gn:Ws):Ws:=(opT th key op m fu root fr fs gn).2.2.2.2.2.1
def opE(th:Th)(key:ByteArray)(op:Option ByteArray)(m:As)(fu root:Int)(fr fs gn:Ws):Int:=(opT th key op m fu root fr fs gn).2.2.2.2.2.2
def aqV(th:Th)(m:As)(fu root:Int)(fr:Ws):List Prop:=[Ds.bx th m fu,Bx.okW fr,0≤root∧root≤65536]
abbrev ain:Spec XK:=⟨fun(_,key,val)=>[.ptr 0 0,.s (.str key),.s (.str val)],fun((th,m,fu,root,fr,fs,gn),_,_)=>hT th m fu root fr fs gn,fun((th,m,fu,root,fr,_,_),_,_)=>aqV th m fu root fr,
 fun((th,m,fu,root,fr,fs,gn),key,val)=>hT th (op0 th key (some val) m fu root fr fs gn) (op1 th key (some val) m fu root fr fs gn) (uF th key (some val) m fu root fr fs gn) (op2 th key (some val) m fu root fr fs gn) (op3 th key (some val) m fu root fr fs gn) (op4 th key (some val) m fu root fr fs gn),
 fun((th,m,fu,root,fr,fs,gn),key,val)=>bE (opE th key (some val) m fu root fr fs gn)⟩
abbrev XD:Type:=XT×ByteArray
abbrev aio:Spec XD:=⟨fun(_,key)=>[.ptr 0 0,.s (.str key)],fun((th,m,fu,root,fr,fs,gn),_)=>hT th m fu root fr fs gn,fun((th,m,fu,root,fr,_,_),_)=>aqV th m fu root fr,
 fun((th,m,fu,root,fr,fs,gn),key)=>hT th (op0 th key none m fu root fr fs gn) (op1 th key none m fu root fr fs gn) (uF th key none m fu root fr fs gn) (op2 th key none m fu root fr fs gn) (op3 th key none m fu root fr fs gn) (op4 th key none m fu root fr fs gn),
 fun((th,m,fu,root,fr,fs,gn),key)=>bE (opE th key none m fu root fr fs gn)⟩
def aqW:aH:=[(71,bZ aaz akT)]
def aqX:aH:=[(71,bZ aaA akU)]
theorem atn(th:Th)(m:As)(fu root:Int)(fr fs gn:Ws)(key val:ByteArray):run P aqW.sum Tryz.f17 [] (start Tryz.f17 [.ptr 0 0,.s (.str key),.s (.str val)] (hT th m fu root fr fs gn)) (inl:=[70])=
 Tree.ite (decide ((↑key.size:Int)≥1)) (.ite (!decide ((↑key.size:Int)≤24)) (.ret [.own [.ptr 1 0,.s (.int .i64 root),.ints .u64 16 fr,.ints .u64 16 fs,.ints .u64 16 gn] 115,.own [.vec 2,.ag 3,.s (.int .i64 fu)] 105,.vec (.ad [.arr .u8 64] th) 165,.map (.arr .u8 64) m,.own [.s (.str key)] 9,.own [.s (.str val)] 9] (.s (.aK .i64 1))) (.ite (decide ((↑val.size:Int)>100)) (.ret [.own [.ptr 1 0,.s (.int .i64 root),.ints .u64 16 fr,.ints .u64 16 fs,.ints .u64 16 gn] 115,.own [.vec 2,.ag 3,.s (.int .i64 fu)] 105,.vec (.ad [.arr .u8 64] th) 165,.map (.arr .u8 64) m,.own [.s (.str key)] 9,.own [.s (.str val)] 9] (.s (.aK .i64 1))) (.need (bn (some [AV.ptr 0 0,.s (.str key),.fn 72 [.ptr 4 0,.ptr 5 0]])) (.need (bn (some [ab.own [.ptr 1 0,.s (.int .i64 root),.ints .u64 16 fr,.ints .u64 16 fs,.ints .u64 16 gn] 115,.own [.vec 2,.ag 3,.s (.int .i64 fu)] 105,.vec (.ad [.arr .u8 64] th) 165,.map (.arr .u8 64) m,.own [.s (.str key)] 9,.own [.s (.str val)] 9])) (.need (Ds.bx th m fu) (.need (Bx.okW fr) (.need ((0:Int)≤root∧root≤65536) (.need ((1:Nat)≤key.size∧key.size≤24) (.need (val.size≤100) (.ret [.own [.ptr 1 0,.s (.int .i64 (akZ th key (some val) m fu root fr fs gn)),.ints .u64 16 (ak0 th key (some val) m fu root fr fs gn),.ints .u64 16 (ak1 th key (some val) m fu root fr fs gn),.ints .u64 16 (ak2 th key (some val) m fu root fr fs gn)] 115,.own [.vec 2,.ag 3,.s (.int .i64 (akY th key (some val) m fu root fr fs gn))] 105,.vec (.ad [.arr .u8 64] th) 165,.map (.arr .u8 64) (akX th key (some val) m fu root fr fs gn),.own [.s (.str key)] 9,.own [.s (.str val)] 9] (.s (.int .i64 (ak3 th key (some val) m fu root fr fs gn))))))))))))) (.ret [.own [.ptr 1 0,.s (.int .i64 root),.ints .u64 16 fr,.ints .u64 16 fs,.ints .u64 16 gn] 115,.own [.vec 2,.ag 3,.s (.int .i64 fu)] 105,.vec (.ad [.arr .u8 64] th) 165,.map (.arr .u8 64) m,.own [.s (.str key)] 9,.own [.s (.str val)] 9] (.s (.aK .i64 1))):=by kernel_rfl
theorem ato(th:Th)(m:As)(fu root:Int)(fr fs gn:Ws)(key:ByteArray):run P aqX.sum Tryz.f19 [] (start Tryz.f19 [.ptr 0 0,.s (.str key)] (hT th m fu root fr fs gn)) (inl:=[70])=
 Tree.ite (decide ((↑key.size:Int)≥1)) (.ite (!decide ((↑key.size:Int)≤24)) (.ret [.own [.ptr 1 0,.s (.int .i64 root),.ints .u64 16 fr,.ints .u64 16 fs,.ints .u64 16 gn] 115,.own [.vec 2,.ag 3,.s (.int .i64 fu)] 105,.vec (.ad [.arr .u8 64] th) 165,.map (.arr .u8 64) m,.own [.s (.str key)] 9] (.s (.aK .i64 1))) (.need (bn (some [AV.ptr 0 0,.s (.str key),.fn 75 [.ptr 4 0]])) (.need (bn (some [ab.own [.ptr 1 0,.s (.int .i64 root),.ints .u64 16 fr,.ints .u64 16 fs,.ints .u64 16 gn] 115,.own [.vec 2,.ag 3,.s (.int .i64 fu)] 105,.vec (.ad [.arr .u8 64] th) 165,.map (.arr .u8 64) m,.own [.s (.str key)] 9])) (.need (Ds.bx th m fu) (.need (Bx.okW fr) (.need ((0:Int)≤root∧root≤65536) (.need ((1:Nat)≤key.size∧key.size≤24) (.need (ByteArray.empty.size≤100) (.ret [.own [.ptr 1 0,.s (.int .i64 (akZ th key none m fu root fr fs gn)),.ints .u64 16 (ak0 th key none m fu root fr fs gn),.ints .u64 16 (ak1 th key none m fu root fr fs gn),.ints .u64 16 (ak2 th key none m fu root fr fs gn)] 115,.own [.vec 2,.ag 3,.s (.int .i64 (akY th key none m fu root fr fs gn))] 105,.vec (.ad [.arr .u8 64] th) 165,.map (.arr .u8 64) (akX th key none m fu root fr fs gn),.own [.s (.str key)] 9] (.s (.int .i64 (ak3 th key none m fu root fr fs gn)))))))))))) (.ret [.own [.ptr 1 0,.s (.int .i64 root),.ints .u64 16 fr,.ints .u64 16 fs,.ints .u64 16 gn] 115,.own [.vec 2,.ag 3,.s (.int .i64 fu)] 105,.vec (.ad [.arr .u8 64] th) 165,.map (.arr .u8 64) m,.own [.s (.str key)] 9] (.s (.aK .i64 1))):=by kernel_rfl
theorem adN{th:Th}{key:ByteArray}{op:Option ByteArray}{m:As}{fu root:Int}{fr fs gn:Ws}(h:lQ key op=true):opT th key op m fu root fr fs gn=lD th key op m fu root fr fs gn:=if_pos h
theorem aip{th:Th}{key:ByteArray}{op:Option ByteArray}{m:As}{fu root:Int}{fr fs gn:Ws}(h:lQ key op=false):opT th key op m fu root fr fs gn=(m,fu,root,fr,fs,gn,1):=if_neg (by rw[h];simp)
theorem amz{th:Th}{m:As}{fu root:Int}{fr fs gn:Ws}{key val:ByteArray}{c:Chs}(e:opT th key (some val) m fu root fr fs gn=c):
 ain.ez ((th,m,fu,root,fr,fs,gn),key,val)=hT th c.1 c.2.1 c.2.2.1 c.2.2.2.1 c.2.2.2.2.1 c.2.2.2.2.2.1∧ain.out ((th,m,fu,root,fr,fs,gn),key,val)=bE c.2.2.2.2.2.2:=by
 subst e;exact⟨rfl,rfl⟩
theorem amA{th:Th}{m:As}{fu root:Int}{fr fs gn:Ws}{key:ByteArray}{c:Chs}(e:opT th key none m fu root fr fs gn=c):
 aio.ez ((th,m,fu,root,fr,fs,gn),key)=hT th c.1 c.2.1 c.2.2.1 c.2.2.2.1 c.2.2.2.2.1 c.2.2.2.2.2.1∧aio.out ((th,m,fu,root,fr,fs,gn),key)=bE c.2.2.2.2.2.2:=by
 subst e;exact⟨rfl,rfl⟩
theorem aaE:fC P Bx.bO 17 ain:=by
 refine au Tryz.func17 (by kernel_rfl) (fun x=>Nat.le_of_ble_eq_true (by kernel_rfl)) ?_;rintro⟨⟨(th:Th),(m:As),(fu:Int),(root:Int),(fr:Ws),(fs:Ws),(gn:Ws)⟩,(key:ByteArray),(val:ByteArray)⟩ ⟨(hd:Ds.bx th m fu),(hf:Bx.okW fr),(hr:0≤root∧root≤65536),_⟩ X hX hz
 have no:lQ key (some val)=false→cX ain ((th,m,fu,root,fr,fs,gn),key,val) (hT th m fu root fr fs gn++[rU key,rU val]) (.s (.aK .i64 1)):=fun h=>by
  obtain⟨f1,f2⟩:=amz (aip (th:=th) (m:=m) (fu:=fu) (root:=root) (fr:=fr) (fs:=fs) (gn:=gn) h);exact bC 4 rfl (Nat.le_refl _) f2 f1
 refine Ds.cR hz hX (by intro y hy;cases hy) (aH.Ok.cons (aaC.sum akT) aH.Ok.nil) Tryz.func17 (atn th m fu root fr fs gn key val) ⟨fun h=>⟨fun h2=> ?_,fun h2=>⟨fun h3=> ?_,fun h3=>⟨rfl,rfl,hd,hf,hr, ?_, ?_, ?_⟩⟩⟩,fun h=> ?_⟩
 ·have h2:¬(key.size:Int)≤24:=by simpa using h2
  exact no (by simp only[lQ,Bool.and_eq_false_iff,decide_eq_false_iff_not];omega)
 ·have h3:=of_decide_eq_true h3;exact no (by simp only[lQ,Bool.and_eq_false_iff,decide_eq_false_iff_not];omega)
 ·have h:=of_decide_eq_true h;have h2:(key.size:Int)≤24:=by simpa using h2
  omega
 ·have h3:=of_decide_eq_false h3;omega
 ·have h:=of_decide_eq_true h;have h2:(key.size:Int)≤24:=by simpa using h2
  have h3:=of_decide_eq_false h3;obtain⟨f1,f2⟩:=amz (adN (th:=th) (key:=key) (op:=some val) (m:=m) (fu:=fu) (root:=root) (fr:=fr) (fs:=fs) (gn:=gn) (by simp only[lQ,Bool.and_eq_true,decide_eq_true_eq];omega));exact bC 4 rfl (Nat.le_refl _) f2 f1
 ·have h:=of_decide_eq_false h;exact no (by simp only[lQ,Bool.and_eq_false_iff,decide_eq_false_iff_not];omega)
theorem aaF:fC P Bx.bO 19 aio:=by
 refine au Tryz.func19 (by kernel_rfl) (fun x=>Nat.le_of_ble_eq_true (by kernel_rfl)) ?_;rintro⟨⟨(th:Th),(m:As),(fu:Int),(root:Int),(fr:Ws),(fs:Ws),(gn:Ws)⟩,(key:ByteArray)⟩ ⟨(hd:Ds.bx th m fu),(hf:Bx.okW fr),(hr:0≤root∧root≤65536),_⟩ X hX hz
 have no:lQ key none=false→cX aio ((th,m,fu,root,fr,fs,gn),key) (hT th m fu root fr fs gn++[rU key]) (.s (.aK .i64 1)):=fun h=>by
  obtain⟨f1,f2⟩:=amA (aip (th:=th) (m:=m) (fu:=fu) (root:=root) (fr:=fr) (fs:=fs) (gn:=gn) h);exact bC 4 rfl (Nat.le_refl _) f2 f1
 refine Ds.cR hz hX (by intro y hy;cases hy) (aH.Ok.cons (aaD.sum akU) aH.Ok.nil) Tryz.func19 (ato th m fu root fr fs gn key) ⟨fun h=>⟨fun h2=> ?_,fun h2=>⟨rfl,rfl,hd,hf,hr, ?_,Nat.zero_le 100, ?_⟩⟩,fun h=> ?_⟩
 ·have h2:¬(key.size:Int)≤24:=by simpa using h2
  exact no (by simp only[lQ,Bool.and_eq_false_iff,decide_eq_false_iff_not];omega)
 ·have h:=of_decide_eq_true h;have h2:(key.size:Int)≤24:=by simpa using h2
  omega
 ·have h:=of_decide_eq_true h;have h2:(key.size:Int)≤24:=by simpa using h2
  obtain⟨f1,f2⟩:=amA (adN (th:=th) (key:=key) (op:=none) (m:=m) (fu:=fu) (root:=root) (fr:=fr) (fs:=fs) (gn:=gn) (by simp only[lQ,Bool.and_eq_true,decide_eq_true_eq];omega));exact bC 4 rfl (Nat.le_refl _) f2 f1
 ·have h:=of_decide_eq_false h;exact no (by simp only[lQ,Bool.and_eq_false_iff,decide_eq_false_iff_not];omega)
end Ts
namespace Ts
open Go Go.Sx Go.Proofs Lf
def ak8(th:Th)(m:As)(key:ByteArray):Nat→Int→Int→ByteArray×Bool×Int
 |0,_,_=>(ByteArray.empty,false,4)
 |f+1,n,deep=>
  if fF th m n deep≠0 then(ByteArray.empty,false,fF th m n deep)
  else if jy th m n deep=true then(xT (bT th m n deep) key,tT (bT th m n deep) key,0)
  else if aQ th m n deep=[]then(ByteArray.empty,false,4)
  else ak8 th m key f ((aQ th m n deep).getD (aX (aQ th m n deep) key).toNat dB).2.1 (deep+1)
def gtT(th:Th)(m:As)(root:Int)(key:ByteArray):ByteArray×Bool×Int:=
 if lQ key none=false then(ByteArray.empty,false,1)else if root=0 then(ByteArray.empty,false,0)else ak8 th m key 17 root 1
def gtV(th:Th)(m:As)(root:Int)(key:ByteArray):ByteArray:=(gtT th m root key).1
def gtB(th:Th)(m:As)(root:Int)(key:ByteArray):Bool:=(gtT th m root key).2.1
def gtE(th:Th)(m:As)(root:Int)(key:ByteArray):Int:=(gtT th m root key).2.2
abbrev aiq:Spec XD:=⟨fun(_,key)=>[.ptr 0 0,.s (.str key)],fun((th,m,fu,root,fr,fs,gn),_)=>hT th m fu root fr fs gn,fun((th,m,fu,root,_),_)=>[Ds.bx th m fu,0≤root∧root≤65536],
 fun((th,m,fu,root,fr,fs,gn),_)=>hT th m fu root fr fs gn,fun((th,m,_,root,_),key)=>.bg [.s (.str (gtV th m root key)),.s (.bool (gtB th m root key)),bE (gtE th m root key)]⟩
abbrev aqY:=cp [ph,dI] [dI,c9] (fun(l,_,())=>[(l:List En).length≤1000000,iU (cg l)]) (fun(l,key,())=>(xT l key,tT l key,()))
def air:aH:=[(77,wo),(78,aqY),(79,aoy)]
def ak9:List (Nat×Norm):=[(10,⟨[],[0,1,7,8],4,[]⟩)]
noncomputable def cGt(th:Th)(m:As)(fu root:Int)(fr fs gn:Ws)(key:ByteArray)(n deep:Int):bw:=⟨sl 66 [(0,.ptr 0 0),(1,.s (.str key)),(7,bE n),(8,bE deep)],hT th m fu root fr fs gn,hd Tryz.f21 10,{}⟩
theorem atp(th:Th)(m:As)(fu root:Int)(fr fs gn:Ws)(key:ByteArray):run P air.sum Tryz.f21 ak9 (start Tryz.f21 [.ptr 0 0,.s (.str key)] (hT th m fu root fr fs gn)) (inl:=[70])=
 Tree.ite (decide ((↑key.size:Int)≥1)) (.ite (!decide ((↑key.size:Int)≤24)) (.ret [.own [.ptr 1 0,.s (.int .i64 root),.ints .u64 16 fr,.ints .u64 16 fs,.ints .u64 16 gn] 115,.own [.vec 2,.ag 3,.s (.int .i64 fu)] 105,.vec (.ad [.arr .u8 64] th) 165,.map (.arr .u8 64) m] (.bg [.s (.str ByteArray.empty),.s (.aC false),.s (.aK .i64 1)])) (.ite (root==0) (.ret [.own [.ptr 1 0,.s (.int .i64 root),.ints .u64 16 fr,.ints .u64 16 fs,.ints .u64 16 gn] 115,.own [.vec 2,.ag 3,.s (.int .i64 fu)] 105,.vec (.ad [.arr .u8 64] th) 165,.map (.arr .u8 64) m] (.bg [.s (.str ByteArray.empty),.s (.aC false),.s (.aK .i64 0)])) (.at (.mk (sl 66 [(0,.ptr 0 0),(1,.s (.str key)),(7,.s (.int .i64 root)),(8,.s (.int .i64 1))]) [.own [.ptr 1 0,.s (.int .i64 root),.ints .u64 16 fr,.ints .u64 16 fs,.ints .u64 16 gn] 115,.own [.vec 2,.ag 3,.s (.int .i64 fu)] 105,.vec (.ad [.arr .u8 64] th) 165,.map (.arr .u8 64) m] (hd Tryz.f21 10) (.mk none false 0 [] 0))))) (.ret [.own [.ptr 1 0,.s (.int .i64 root),.ints .u64 16 fr,.ints .u64 16 fs,.ints .u64 16 gn] 115,.own [.vec 2,.ag 3,.s (.int .i64 fu)] 105,.vec (.ad [.arr .u8 64] th) 165,.map (.arr .u8 64) m] (.bg [.s (.str ByteArray.empty),.s (.aC false),.s (.aK .i64 1)])):=by kernel_rfl
theorem atq(th:Th)(m:As)(fu root:Int)(fr fs gn:Ws)(key:ByteArray)(n deep:Int):run P air.sum Tryz.f21 ak9 (cGt th m fu root fr fs gn key n deep) (inl:=[70])=
 Tree.need (bn (some [AV.ptr 0 0,.s (.int .i64 n),.s (.int .i64 deep)])) (.need (bn (some [ab.own [.ptr 1 0,.s (.int .i64 root),.ints .u64 16 fr,.ints .u64 16 fs,.ints .u64 16 gn] 115,.own [.vec 2,.ag 3,.s (.int .i64 fu)] 105,.vec (.ad [.arr .u8 64] th) 165,.map (.arr .u8 64) m])) (.need (Ds.bx th m fu) (.need (ay n) (.ite (fF th m n deep !=0) (.ret [.own [.ptr 1 0,.s (.int .i64 root),.ints .u64 16 fr,.ints .u64 16 fs,.ints .u64 16 gn] 115,.own [.vec 2,.ag 3,.s (.int .i64 fu)] 105,.vec (.ad [.arr .u8 64] th) 165,.map (.arr .u8 64) m,.own [.s (.bool (jy th m n deep)),.s (.ro (.ad [.str,.str] (bT th m n deep))),.s (.ro (.ad [.str,.int .i64] (aQ th m n deep)))] 131] (.bg [.s (.str ByteArray.empty),.s (.aC false),.s (.int .i64 (fF th m n deep))])) (.ite (jy th m n deep) (.need ((bT th m n deep).length≤1000000) (.need (iU (cg (bT th m n deep))) (.ret [.own [.ptr 1 0,.s (.int .i64 root),.ints .u64 16 fr,.ints .u64 16 fs,.ints .u64 16 gn] 115,.own [.vec 2,.ag 3,.s (.int .i64 fu)] 105,.vec (.ad [.arr .u8 64] th) 165,.map (.arr .u8 64) m,.own [.s (.bool (jy th m n deep)),.s (.ro (.ad [.str,.str] (bT th m n deep))),.s (.ro (.ad [.str,.int .i64] (aQ th m n deep)))] 131] (.bg [.s (.str (xT (bT th m n deep) key)),.s (.bool (tT (bT th m n deep) key)),.s (.aK .i64 0)])))) (.ite ((↑(aQ th m n deep).length:Int)==0) (.ret [.own [.ptr 1 0,.s (.int .i64 root),.ints .u64 16 fr,.ints .u64 16 fs,.ints .u64 16 gn] 115,.own [.vec 2,.ag 3,.s (.int .i64 fu)] 105,.vec (.ad [.arr .u8 64] th) 165,.map (.arr .u8 64) m,.own [.s (.bool (jy th m n deep)),.s (.ro (.ad [.str,.str] (bT th m n deep))),.s (.ro (.ad [.str,.int .i64] (aQ th m n deep)))] 131] (.bg [.s (.str ByteArray.empty),.s (.aC false),.s (.aK .i64 4)])) (.need ((aQ th m n deep).length≤1000000) (.need (iU (mJ (aQ th m n deep))) (.need ((0:Int)≤aX (aQ th m n deep) key) (.need (aX (aQ th m n deep) key<(↑(aQ th m n deep).length:Int)) (.need (ay (deep+1)) (.at (.mk (sl 66 [(0,.ptr 0 0),(1,.s (.str key)),(7,.s (.int .i64 ((aQ th m n deep).getD (aX (aQ th m n deep) key).toNat (CL.d [.str,.int .i64])).snd.fst)),(8,.s (.int .i64 (deep+1)))]) [.own [.ptr 1 0,.s (.int .i64 root),.ints .u64 16 fr,.ints .u64 16 fs,.ints .u64 16 gn] 115,.own [.vec 2,.ag 3,.s (.int .i64 fu)] 105,.vec (.ad [.arr .u8 64] th) 165,.map (.arr .u8 64) m] (hd Tryz.f21 10) (.mk none false 0 [] 0)))))))))))))):=by kernel_rfl
theorem aaG{Z:aW}:air.Ok P Z:=aH.Ok.cons (ng.sum mNo) (aH.Ok.cons aj3.sum (aH.Ok.cons pj.sum aH.Ok.nil))
theorem aaH{th:Th}{m:As}{fu root:Int}{fr fs gn:Ws}{key:ByteArray}{c:ByteArray×Bool×Int}(e:c=gtT th m root key):
 aiq.out ((th,m,fu,root,fr,fs,gn),key)=.bg [.s (.str c.1),.s (.bool c.2.1),bE c.2.2]:=by
 subst e;rfl
theorem aoM{Z:aW}:fC P Z 21 aiq:=by
 refine au Tryz.func21 (by kernel_rfl) (fun x=>Nat.le_of_ble_eq_true (by kernel_rfl)) ?_;rintro⟨⟨(th:Th),(m:As),(fu:Int),(root:Int),(fr:Ws),(fs:Ws),(gn:Ws)⟩,(key:ByteArray)⟩ ⟨(hd:Ds.bx th m fu),(hr:0≤root∧root≤65536),_⟩ X hX hz
 have hm:∀y∈ak9,(hT th m fu root fr fs gn).length≤y.2.m:=fun y hy=>by
  simp only[ak9,List.mem_singleton]at hy;subst hy;exact Nat.le_refl _
 have loop:∀(f:Nat) (n deep:Int),1≤deep∧deep≤17→18≤deep+(f:Int)→0≤n∧n≤65536→ak8 th m key f n deep=gtT th m root key→
  Safe P 21 X (cX aiq ((th,m,fu,root,fr,fs,gn),key)) (cGt th m fu root fr fs gn key n deep):=by
  intro f
  induction f with
  |zero=>intro n deep h1 h2;omega
  |succ f ih=>
   intro n deep h1 h2 hn e;rw[ak8]at e;refine Ds.cR hz hX hm aaG Tryz.func21 (atq th m fu root fr fs gn key n deep) ⟨rfl,rfl,hd,ri (by omega) (by omega),fun h=> ?_,fun h=> ?_⟩
   ·have h:fF th m n deep≠0:=by simpa using h
    rw[if_pos h]at e;exact bC 4 rfl (Nat.le_refl _) (aaH e) rfl
   have h:fF th m n deep=0:=by simpa using h
   obtain⟨atr,n1,n2,_,_,n5,_⟩:=ey h;obtain⟨s1,s2⟩:=pE atr;rw[if_neg (by rw[h];simp)]at e;refine⟨fun hl=>⟨by omega,s1, ?_⟩,fun hl=>⟨fun h3=> ?_,fun h3=> ?_⟩⟩
   ·rw[if_pos hl]at e;exact bC 4 rfl (Nat.le_refl _) (aaH e) rfl
   ·have h3:aQ th m n deep=[]:=List.eq_nil_of_length_eq_zero (by have:((aQ th m n deep).length:Int)=0:=by simpa using h3
                                                                 omega)
    rw[if_neg (by rw[hl];simp),if_pos h3]at e;exact bC 4 rfl (Nat.le_refl _) (aaH e) rfl
   ·have h3:aQ th m n deep≠[]:=fun e=>by rw[e]at h3;simp at h3
    rw[if_neg (by rw[hl];simp),if_neg h3]at e;obtain⟨p0,p1⟩:=qF (key:=key) s2 h3;exact⟨by omega,s2,p0,p1,ri (by omega) (by omega),ih _ _ ⟨by omega,by omega⟩ (by omega) (qG h _) e⟩
 have no:lQ key none=false→cX aiq ((th,m,fu,root,fr,fs,gn),key) (hT th m fu root fr fs gn) (.bg [.s (.str ByteArray.empty),.s (.aC false),.s (.aK .i64 1)]):=fun h=>
  bC 4 rfl (Nat.le_refl _) (aaH (c:=(ByteArray.empty,false,1)) (by unfold gtT;rw[if_pos h])) rfl
 refine Ds.cR hz hX hm aaG Tryz.func21 (atp th m fu root fr fs gn key) ⟨fun h=>⟨fun h2=> ?_,fun h2=> ?_⟩,fun h=> ?_⟩
 ·have h2:¬(key.size:Int)≤24:=by simpa using h2
  exact no (by simp only[lQ,Bool.and_eq_false_iff,decide_eq_false_iff_not];omega)
 ·have h:=of_decide_eq_true h;have h2:(key.size:Int)≤24:=by simpa using h2
  have ok:lQ key none=true:=by simp only[lQ,Bool.and_eq_true,decide_eq_true_eq];omega
  refine⟨fun h3=> ?_,fun h3=> ?_⟩
  ·have h3:root=0:=by simpa using h3
   exact bC 4 rfl (Nat.le_refl _) (aaH (c:=(ByteArray.empty,false,0)) (by unfold gtT;rw[if_neg (by rw[ok];simp),if_pos h3])) rfl
  ·have h3:root≠0:=by simpa using h3
   exact loop 17 root 1 ⟨by omega,by omega⟩ (by omega) hr (by unfold gtT;rw[if_neg (by rw[ok];simp),if_neg h3])
 ·have h:=of_decide_eq_false h;exact no (by simp only[lQ,Bool.and_eq_false_iff,decide_eq_false_iff_not];omega)
end Ts
namespace Go.Sx
open Go
section
variable{P:Program}{X:Ctx}{K:List ab→AV→Prop}{L:List ab}
end
end Go.Sx
namespace Go.Sx
open Go
def aaI(id n:Nat):AV→AV
 |.vec j=>bif j.beq id then .vec n else .vec j
 |a=>a
def aco(id n:Nat):AV→AV
 |.agg ao=>.agg (ao.map (aaI id n))
 |.vec j=>bif j.beq id then .vec n else .vec j
 |a=>a
def mvO(id n:Nat):ab→ab
 |.own ao e=>.own (ao.map (aaI id n)) e
 |o=>o
def ala(s:St)(id:Nat):St:=
 match s.H[id]? with
 |some (.vec c e)=>⟨s.tmps.map (aco id s.H.length),(s.H.map (mvO id s.H.length)).set id .dead++[.vec c e]⟩
 |_=>s
section
variable{ρ aF:Nat→Value}{H H':aM}{G O O':Nat→Prop}{w w':World}{P:Program}{Z:aW}{X:Ctx}{s:St}{a:Act}
theorem afu{id n:Nat}{o:ab}:(mvO id n o).alive=o.alive:=by cases o<;>rfl
theorem alb{id n:Nat}{o:ab}{c':aL}{e':TypeId}(h:mvO id n o=.vec c' e'):o=.vec c' e':=by
 cases o<;>simp[mvO]at h ⊢;exact h
theorem bY.mv(h:bY X ρ s a w)(id:Nat):∃aF,bY X aF (ala s id) a w:=by
 unfold ala;split
 ·rename_i c e ho;have hs:=h.sat;have bm:id<s.H.length:=(List.getElem?_eq_some_iff.1 ho).1;let n:=s.H.length;let aF:Nat→Value:=fun j=>if j=n then ρ id else ρ j
  let s':St:=⟨s.tmps.map (aco id n),(s.H.map (mvO id n)).set id .dead++[.vec c e]⟩
  have look:∀j,s'.look j=if j=n then some (.vec c e)else if j=id then some .dead else(s.look j).map (mvO id n):=by
   intro j;show((s.H.map (mvO id n)).set id .dead++[.vec c e])[j]? =_;by_cases hj:j=n
   ·subst hj;rw[if_pos rfl,List.getElem?_append_right (by simp[n])];simp[n]
   ·rw[if_neg hj];by_cases hl:j<n
    ·rw[List.getElem?_append_left (by simpa[n]using hl),List.getElem?_set];by_cases hi:id=j
     ·subst hi;simp[bm]
     ·rw[if_neg hi,if_neg (Ne.symm hi),List.getElem?_map];rfl
    ·rw[List.getElem?_eq_none (by simp only[List.length_append,List.length_set,List.length_map,List.length_singleton];show n+1≤j;omega),if_neg (by omega)];have:s.look j=none:=List.getElem?_eq_none (by show n≤j;omega);rw[this];rfl
  have amB:∀{j:Nat} {o:ab},s.look j=some o→j<n:=fun hj=>(List.getElem?_eq_some_iff.1 hj).1
  have back:∀j o,s'.look j=some o→o.alive=true→∃x,s.look (if j=n then id else j)=some x∧x.alive=true∧aF j=ρ (if j=n then id else j)∧(j≠n→j≠id):=by
   intro j o hj ha;rw[look]at hj;by_cases e1:j=n
   ·rw[if_pos e1];exact⟨.vec c e,ho,rfl,by simp[aF,e1],fun h=>absurd e1 h⟩
   ·rw[if_neg e1]at hj ⊢;by_cases e2:j=id
    ·rw[if_pos e2]at hj;cases hj;cases ha
    ·rw[if_neg e2]at hj;obtain⟨o0,h3,rfl⟩:=Option.map_eq_some_iff.1 hj;exact⟨o0,h3,by rw[afu]at ha;exact ha,by simp[aF,e1],fun _=>e2⟩
  have own:∀b,Own aF s'.look b→Own ρ s.look b:=by
   rintro b ⟨j,o,hj,h1,h2⟩;obtain⟨x,g1,g2,g3,_⟩:=back j o hj h1;exact⟨_,x,g1,g2,by rw[←g3];exact h2⟩
  have st:Step ρ s.look (aP ρ s.look X.G) w aF s'.look (aP aF s'.look X.G) w:=by
   refine⟨fun j o hj=> ?_,fun j o hj=> ?_,fun b hb=>.inl (hb.imp (own b) (fun x=>x)),fun _ _ _=>rfl,Nat.le_refl _⟩
   ·have:=amB hj;simp only[aF];rw[if_neg (by omega)]
   ·have hjn:j≠n:=Nat.ne_of_lt (amB hj);by_cases e1:j=id
    ·exact⟨.dead,by rw[look,if_neg hjn,if_pos e1],fun c' e' he=>by cases he⟩
    ·refine⟨mvO id n o,by rw[look,if_neg hjn,if_neg e1,hj];rfl,fun c' e' he=> ?_⟩;exact⟨c',e',alb he,rfl,rfl⟩
  have aqZ:s'.look n=some (.vec c e):=by rw[look,if_pos rfl]
  have aq0:aF n=ρ id:=by simp[aF]
  have hi:s.look id=some (.vec c e):=ho
  have aq1:∀{v:Value},aD ρ s.look (aP ρ s.look X.G) w (.vec id) v→aD aF s'.look (aP aF s'.look X.G) w (.vec n) v:=by
   intro v hv;unfold aD at hv ⊢;obtain⟨h0,o,h1,h2⟩:=hv;rw[hi]at h1;cases h1;exact⟨h0,.vec c e,aqZ,fun c' e' _=>by rw[aq0];exact h2 c e rfl⟩
  have abF:∀x cs,aN ρ s.look (aP ρ s.look X.G) w x cs→aN aF s'.look (aP aF s'.look X.G) w (aaI id n x) cs:=by
   intro x cs hx;have kO:=aN.step st x cs hx;cases x<;>try exact kO
   rename_i j;simp only[aaI,Bool.cond_eq_ite];split
   ·rename_i hj;have hj:j=id:=by simpa using hj
    subst hj;unfold aN at hx ⊢;obtain⟨u,rfl,hu⟩:=hx;exact⟨u,rfl,aq1 hu⟩
   ·exact kO
  have kW:∀(xs:List AV) cs,aq ρ s.look (aP ρ s.look X.G) w xs cs→aq aF s'.look (aP aF s'.look X.G) w (xs.map (aaI id n)) cs:=by
   intro xs
   induction xs with
   |nil=>intro cs hx;exact aw.2 (aw.1 hx)
   |cons x xs ih=>
    intro cs hx;obtain⟨c1,c2,rfl,h1,h2⟩:=ah.1 hx;exact ah.2 ⟨c1,c2,rfl,abF _ _ h1,ih _ h2⟩
  have ane:∀x v,af ρ s.look (aP ρ s.look X.G) w x v→af aF s'.look (aP aF s'.look X.G) w (aco id n x) v:=by
   intro x v hx;have kO:=af.step st x v hx;cases x with
   |agg ao=>
    unfold af at hx;obtain⟨cs,rfl,h1⟩:=hx;show af _ _ _ _ (.agg _) _;unfold af;exact⟨cs,rfl,kW _ _ h1⟩
   |vec j=>
    simp only[aco,Bool.cond_eq_ite];split
    ·rename_i hj;have hj:j=id:=by simpa using hj
     subst hj;unfold af at hx ⊢;exact aq1 hx
    ·exact kO
   |_=>exact kO
  refine⟨aF,⟨fun j o hj=> ?_,fun i j oi oj b h1 h2 h3 h4 h5 h6=> ?_,fun b hb=>hs.apart b (own b hb),hs.low⟩,by rw[←h.size];exact List.length_map _,fun t=> ?_,h.defers,h.from_.trans st,h.ix,h.kept⟩
  ·have hj:s'.look j=some o:=hj;rw[look]at hj;by_cases e0:j=n
   ·rw[if_pos e0]at hj;cases hj;subst e0;rw[aq0];exact(hs.obj id _ hi).step st (fun _ _ _=>rfl)
   ·rw[if_neg e0]at hj;have hr:aF j=ρ j:=by simp[aF,e0]
    rw[hr];by_cases e1:j=id
    ·rw[if_pos e1]at hj;cases hj;trivial
    ·rw[if_neg e1]at hj;obtain⟨o0,h3,rfl⟩:=Option.map_eq_some_iff.1 hj;have dQ:=hs.obj j o0 h3;cases o0 with
     |own ao e1=>
      obtain⟨b,cells,fr,g1,g2,g3,g4⟩:=dQ;exact⟨b,cells,fr,g1,g2,g3,kW _ _ g4⟩
     |_=>exact dQ.step st (fun _ _ _=>rfl)
  ·obtain⟨x,hx,hxa,hxr,hxi⟩:=back i oi h1 h3;obtain⟨y,hy,hya,hyr,hyi⟩:=back j oj h2 h4;have:=hs.inj _ _ x y b hx hy hxa hya (by rw[←hxr];exact h5) (by rw[←hyr];exact h6);by_cases e1:i=n
   ·by_cases e2:j=n
    ·omega
    ·rw[if_pos e1,if_neg e2]at this;exact absurd this.symm (hyi e2)
   ·by_cases e2:j=n
    ·rw[if_neg e1,if_pos e2]at this;exact absurd this (hxi e1)
    ·rw[if_neg e1,if_neg e2]at this;exact this
  ·have e1:(s.tmps.map (aco id n)).getD t (.s .aR)=aco id n (s.tmps.getD t (.s .aR)):=by
    rw[List.getD_eq_getElem?_getD,List.getD_eq_getElem?_getD,List.getElem?_map];cases s.tmps[t]? <;>rfl
   show af aF s'.look _ w ((s.tmps.map (aco id n)).getD t (.s .aR)) _;rw[e1];exact ane _ _ (h.den t)
 ·exact⟨ρ,h⟩
variable{K:List ab→AV→Prop}
theorem oe{f:FuncId}{tmps:List AV}{L:List ab}{todo:List Item}{stk:kU}(id:Nat){c:bw}(e:(⟨(ala ⟨tmps,L⟩ id).tmps,(ala ⟨tmps,L⟩ id).H,todo,stk⟩:bw)=c)(h:Safe P f X K c):Safe P f X K ⟨tmps,L,todo,stk⟩:=by
 subst e;intro G E ρ a w gI gO hr b t fs hw;obtain⟨aF,r'⟩:=hr.mv id;exact h G E aF a w gI gO r' b t fs hw
end
end Go.Sx
namespace Ts
open Go Go.Sx Go.Proofs Lf
abbrev fL1:FuncId:=87
abbrev fG1:FuncId:=85
abbrev fW1:FuncId:=132
def geE(k:ByteArray)(e:En):Bool:= !slt e.1 k
abbrev sL1:Spec (Int×(Bool×List En×List Br)×ByteArray×List En):=⟨fun(n,(l,es,bs),_,_)=>[bE n,avN l es bs,.ptr 0 0,.ptr 1 0],fun(_,_,from_,out)=>[rU from_,.own [.vec 2] 59,.vec (.ad cE out) Lf.eE],
 fun(_,(_,es,_),_,out)=>[(es:List En).length≤1000,(out:List En).length≤100000000],fun(_,(_,es,_),from_,out)=>[rU from_,.own [.vec 3] 59,.dead,.vec (.ad cE (out++es.filter (geE from_))) Lf.eE],fun _=>.bg []⟩
def ais:List (Nat×Norm):=[(1,⟨[],[2,3,5],3,[]⟩),(2,⟨[],[2,3,9,10,11],3,[]⟩)]
noncomputable def aq2(l:Bool)(es:List En)(bs:List Br)(from_:ByteArray)(out:List En):bw:=⟨sl 24 [(2,.ptr 0 0),(3,.ptr 1 0),(5,.ptr 3 0)],[rU from_,.own [.vec 4] 59,.dead,obN l es bs eN,.vec (.ad cE out) Lf.eE],hr Tryz.f87 1,{}⟩
noncomputable def cL1(es:List En)(from_:ByteArray)(out:List En)(i:Int):bw:=⟨sl 24 [(2,.ptr 0 0),(3,.ptr 1 0),(9,.s (.ro (.ad cE es))),(10,bE (es.length:Int)),(11,bE i)],[rU from_,.own [.vec 3] 59,.dead,.vec (.ad cE out) Lf.eE],hd Tryz.f87 2,{}⟩
theorem ats(n:Int)(l:Bool)(es:List En)(bs:List Br)(from_:ByteArray)(out:List En):run P (aH.sum []) Tryz.f87 ais (start Tryz.f87 [bE n,avN l es bs,.ptr 0 0,.ptr 1 0] [rU from_,.own [.vec 2] 59,.vec (.ad cE out) Lf.eE])=
 Tree.at (.mk (sl 24 [(2,.ptr 0 0),(3,.ptr 1 0),(5,.ptr 3 0)]) [.own [.s (.str from_)] 9,.own [.vec 2] 59,.vec (.ad [.str,.str] out) 66,.own [.s (.bool l),.s (.ro (.ad [.str,.str] es)),.s (.ro (.ad [.str,.int .i64] bs))] 131] (hr Tryz.f87 1) (.mk none false 0 [] 0)):=by kernel_rfl
theorem att(l:Bool)(es:List En)(bs:List Br)(from_:ByteArray)(out:List En):run P (aH.sum []) Tryz.f87 ais (aq2 l es bs from_ out)=
 Tree.at (.mk (sl 24 [(2,.ptr 0 0),(3,.ptr 1 0),(9,.s (.ro (.ad [.str,.str] es))),(10,.s (.int .i64 (↑es.length:Int))),(11,.s (.int .i64 0))]) [.own [.s (.str from_)] 9,.own [.vec 3] 59,.dead,.vec (.ad [.str,.str] out) 66] (hd Tryz.f87 2) (.mk none false 0 [] 0)):=by kernel_rfl
theorem aq3(es:List En)(from_:ByteArray)(out:List En)(i:Int):run P (aH.sum []) Tryz.f87 ais (cL1 es from_ out i)=
 Tree.ite (decide (i<(↑es.length:Int))) (.need ((0:Int)≤i) (.need (i<(↑es.length:Int)) (.ite (!slt (es.getD i.toNat (CL.d [.str,.str])).fst from_) (.need ((out.length+1)*(32:Nat)≤140737488355328) (.need (ay (i+1)) (.at (.mk (sl 24 [(2,.ptr 0 0),(3,.ptr 1 0),(9,.s (.ro (.ad [.str,.str] es))),(10,.s (.int .i64 (↑es.length:Int))),(11,.s (.int .i64 (i+1)))]) [.own [.s (.str from_)] 9,.own [.vec 3] 59,.dead,.vec (.ad [.str,.str] (out++[((es.getD i.toNat (CL.d [.str,.str])).fst,(es.getD i.toNat (CL.d [.str,.str])).snd.fst,())])) 66] (hd Tryz.f87 2) (.mk none false 0 [] 0))))) (.need (ay (i+1)) (.at (.mk (sl 24 [(2,.ptr 0 0),(3,.ptr 1 0),(9,.s (.ro (.ad [.str,.str] es))),(10,.s (.int .i64 (↑es.length:Int))),(11,.s (.int .i64 (i+1)))]) [.own [.s (.str from_)] 9,.own [.vec 3] 59,.dead,.vec (.ad [.str,.str] out) 66] (hd Tryz.f87 2) (.mk none false 0 [] 0))))))) (.ret [.own [.s (.str from_)] 9,.own [.vec 3] 59,.dead,.vec (.ad [.str,.str] out) 66] (.bg [])):=by kernel_rfl
theorem aaJ{α:Type}{p:α→Bool}{l:List α}{k:Nat}{d:α}(h:k<l.length):(l.take (k+1)).filter p=(l.take k).filter p++(if p (l.getD k d)=true then [l.getD k d]else []):=by
 rw[←kz (d:=d) h,List.filter_append];congr 1;cases h2:p (l.getD k d)
 ·rw[List.filter_cons_of_neg (by rw[h2];simp)];rfl
 ·rw[List.filter_cons_of_pos h2];rfl
theorem filter_le{α:Type}(p:α→Bool)(l:List α):(l.filter p).length≤l.length:=List.length_filter_le _ _
theorem ait{Z:aW}:fC P Z 87 sL1:=by
 refine au Tryz.func87 (by kernel_rfl) (fun x=>Nat.le_of_ble_eq_true (by kernel_rfl)) ?_;rintro⟨(n:Int),⟨(l:Bool),(es:List En),(bs:List Br)⟩,(from_:ByteArray),(out:List En)⟩ ⟨(he:es.length≤1000),(ho:out.length≤100000000),_⟩ X hX hz
 have hm:∀y∈ais,([rU from_,.own [.vec 2] 59,.vec (.ad cE out) Lf.eE]:List ab).length≤y.2.m:=fun y hy=>by
  simp only[ais,List.mem_cons,List.not_mem_nil,or_false]at hy;rcases hy with rfl|rfl<;>exact Nat.le_refl _
 have loop:∀(j k:Nat),k+j=es.length→Safe P 87 X (cX sL1 (n,(l,es,bs),from_,out)) (cL1 es from_ (out++(es.take k).filter (geE from_)) (k:Int)):=by
  intro j
  induction j with
  |zero=>
   intro k hk;refine Ds.cR hz hX hm aH.Ok.nil Tryz.func87 (aq3 es from_ _ k) ⟨fun h=>absurd (of_decide_eq_true h) (by omega),fun h=> ?_⟩;rw[List.take_of_length_le (by omega)];exact bC 3 rfl (Nat.le_refl _) rfl rfl
  |succ j ih=>
   intro k hk;have e:=aaJ (p:=geE from_) (l:=es) (k:=k) (d:=dE) (by omega);have hl:=filter_le (geE from_) (es.take k);rw[List.length_take]at hl;refine Ds.cR hz hX hm aH.Ok.nil Tryz.func87 (aq3 es from_ _ k) ⟨fun h=>⟨by omega,by omega,fun hg=>⟨?_,⟨by omega,by omega⟩, ?_⟩,fun hg=>⟨⟨by omega,by omega⟩, ?_⟩⟩,fun h=>absurd (of_decide_eq_false h) (by omega)⟩
   ·show(_+1)*32≤140737488355328;rw[List.length_append];omega
   ·have hg:geE from_ (es.getD k dE)=true:=hg;rw[if_pos hg]at e;have:=ih (k+1) (by omega);rw[e,←List.append_assoc]at this;exact this
   ·have hg:geE from_ (es.getD k dE)=false:=hg;rw[if_neg (by rw[hg];simp),List.append_nil]at e;have:=ih (k+1) (by omega);rw[e]at this;exact this
 refine Ds.cR hz hX hm aH.Ok.nil Tryz.func87 (ats n l es bs from_ out) ?_;refine oe 2 (c:=aq2 l es bs from_ out) rfl ?_;refine Ds.cR hz hX hm aH.Ok.nil Tryz.func87 (att l es bs from_ out) ?_;have:=loop es.length 0 (by omega);rw[List.take_zero,List.filter_nil,List.append_nil]at this;exact this
end Ts
namespace Ts
open Go Go.Sx Go.Proofs Lf
def ur{σ:Type}(g:Ws→σ→Int→Ws×σ×Int):List Br→Ws→σ→Ws×σ×Int
 |[],met,out=>(met,out,0)
 |b::r,met,out=>if(g met out b.2.1).2.2≠0 then g met out b.2.1 else ur g r (g met out b.2.1).1 (g met out b.2.1).2.1
def eb{σ:Type}(on:σ→Int→List En→σ)(th:Th)(m:As):Nat→Int→Ws→σ→Int→Ws×σ×Int
 |0,_,met,out,_=>(met,out,4)
 |f+1,deep,met,out,n=>
  if fF th m n deep≠0 then(met,out,fF th m n deep)
  else if Bx.lP met n=true then(met,out,4)
  else ur (eb on th m f (deep+1)) (aQ th m n deep) (Bx.dM met n) (on out n (bT th m n deep))
def rB(from_:ByteArray)(out:List En)(_:Int)(es:List En):List En:=out++es.filter (geE from_)
def u7(out:Ws)(n:Int)(_:List En):Ws:=Bx.dM out n
def jw(ws:Ws):Nat:=(Bx.ace ws).length
abbrev tT1:TypeId:=33
abbrev tOn:TypeId:=150
abbrev tVi:TypeId:=203
abbrev eSt:TypeId:=37
abbrev eLE:TypeId:=59
abbrev sG1:Spec (Int×(Bool×List En×List Br)×Ws):=⟨fun(n,(l,es,bs),_)=>[bE n,avN l es bs,.ptr 0 0],fun(_,_,out)=>[.own [.ints .u64 16 out] eSt],fun _=>[],fun(n,_,out)=>[.own [.ints .u64 16 (Bx.dM out n)] eSt],fun _=>.bg []⟩
theorem atu(n:Int)(l:Bool)(es:List En)(bs:List Br)(out:Ws):run P (aH.sum [(67,aan)]) Tryz.f85 [] (start Tryz.f85 [bE n,avN l es bs,.ptr 0 0] [.own [.ints .u64 16 out] eSt])=
 Tree.ret [.own [.ints .u64 16 (Bx.dM out n)] 37,.own [.s (.bool l),.s (.ro (.ad [.str,.str] es)),.s (.ro (.ad [.str,.int .i64] bs))] 131] (.bg []):=by kernel_rfl
def mL1:List AV→RM ((Int×(Bool×List En×List Br)×ByteArray×List En)×List Nat)
 |[n,x,.ptr a 0,.ptr b 0]=>match n.cu,aow x with
  |some (_,_,n),some nd=>.look a fun o=>match o with
   |some (.own [.s (.str from_)] _)=>.look b fun o=>match o with
    |some (.own [.vec r] _)=>.look r fun o=>match o with
     |some (.vec (.ad [.str,.str] out) _)=>.ret ((n,nd,from_,out),[a,b,r])
     |_=>.fail "no row"
    |_=>.fail "no row's box"
   |_=>.fail "no text"
  |_,_=>.fail "no node"
 |_=>.fail "List$1"
def mG1:List AV→RM ((Int×(Bool×List En×List Br)×Ws)×List Nat)
 |[n,x,.ptr a 0]=>match n.cu,aow x with
  |some (_,_,n),some nd=>.look a fun o=>match o with
   |some (.own [.ints .u64 16 out] _)=>.ret ((n,nd,out),[a])
   |_=>.fail "no set"
  |_,_=>.fail "no node"
 |_=>.fail "Pages$1"
def alc(th:Th)(m:As)(f:Nat)(deep:Int)(met:Ws)(from_:ByteArray)(out:List En)(n:Int):Ws:=(eb (rB from_) th m f deep met out n).1
def ald(th:Th)(m:As)(f:Nat)(deep:Int)(met:Ws)(from_:ByteArray)(out:List En)(n:Int):List En:=(eb (rB from_) th m f deep met out n).2.1
def ale(th:Th)(m:As)(f:Nat)(deep:Int)(met:Ws)(from_:ByteArray)(out:List En)(n:Int):Int:=(eb (rB from_) th m f deep met out n).2.2
abbrev XVL:Type:=XT×Int×Int×Ws×ByteArray×List En
abbrev hVL(th:Th)(m:As)(fu root:Int)(fr fs gn met:Ws):List ab:=hT th m fu root fr fs gn++[.own [.ptr 0 0] tT1,.own [.ints .u64 16 met] eSt,.own [.fn fL1 [.ptr 8 0,.ptr 9 0]] tOn,.own [.fn fW1 [.ptr 4 0,.ptr 5 0,.ptr 6 0,.ptr 7 0]] tVi]
abbrev aaK(f:Nat):Spec XVL:=⟨fun(_,n,deep,_)=>[bE n,bE deep,.ptr 4 0,.ptr 5 0,.ptr 6 0,.ptr 7 0],fun((th,m,fu,root,fr,fs,gn),_,_,met,from_,out)=>hVL th m fu root fr fs gn met++[rU from_,.own [.vec 10] eLE,.vec (.ad cE out) Lf.eE],
 fun((th,m,fu,_),n,deep,met,_,out)=>[Ds.bx th m fu,0≤n∧n≤65536,1≤deep∧deep≤17,18≤deep+(f:Int),Bx.okW met,List.length (α:=En) out≤126*jw met],
 fun((th,m,fu,root,fr,fs,gn),n,deep,met,from_,out)=>hVL th m fu root fr fs gn (alc th m f deep met from_ out n)++[rU from_,.own [.vec 11] eLE,.dead,.vec (.ad cE (ald th m f deep met from_ out n)) Lf.eE],
 fun((th,m,_),n,deep,met,from_,out)=>bE (ale th m f deep met from_ out n)⟩
def alf:List AV→RM (XVL×List Nat)
 |[n,d,.ptr a 0,.ptr b 0,.ptr c 0,.ptr v 0]=>match n.cu,d.cu with
  |some (_,_,n),some (_,_,d)=>.look a fun o=>match o with
   |some (.own [.ptr t 0] _)=>(mT [.ptr t 0]).bind fun(X,σ)=>.look b fun o=>match o with
    |some (.own [.ints .u64 16 met] _)=>.look c fun o=>match o with
     |some (.own [.fn _ [.ptr p 0,.ptr q 0]] _)=>.look p fun o=>match o with
      |some (.own [.s (.str from_)] _)=>.look q fun o=>match o with
       |some (.own [.vec r] _)=>.look r fun o=>match o with
        |some (.vec (.ad [.str,.str] out) _)=>.ret ((X,n,d,met,from_,out),σ++[a,b,c,v,p,q,r])
        |_=>.fail "visit: no row"
       |_=>.fail "visit: no row's box"
      |_=>.fail "visit: no text"
     |_=>.fail "visit: no on"
    |_=>.fail "visit: no set"
   |_=>.fail "visit: no tree"
  |_,_=>.fail "visit: no numbers"
 |_=>.fail "visit: arguments"
def yk(f:Nat):aH:=[(77,wo),(133,aou),(67,aan),(fL1,bZ sL1 mL1),(fW1,bZ (aaK f) alf)]
def adO:List (Nat×Norm):=[(9,⟨[],[1,5,35,36,37],11,[]⟩)]
noncomputable def aq4(th:Th)(m:As)(fu root:Int)(fr fs gn met:Ws)(from_:ByteArray)(out:List En)(bs:List Br)(deep i:Int):bw:=⟨sl 51 [(1,bE deep),(5,.ptr 7 0),(35,.s (.ro (.ad cB bs))),(36,bE (bs.length:Int)),(37,bE i)],hVL th m fu root fr fs gn met++[rU from_,.own [.vec 11] eLE,.dead,.vec (.ad cE out) Lf.eE],hd Tryz.f132 9,{}⟩
theorem aq5(f:Nat)(th:Th)(m:As)(fu root:Int)(fr fs gn met:Ws)(from_:ByteArray)(out:List En)(n deep:Int):run P (yk f).sum Tryz.f132 adO (start Tryz.f132 [bE n,bE deep,.ptr 4 0,.ptr 5 0,.ptr 6 0,.ptr 7 0] (hVL th m fu root fr fs gn met++[rU from_,.own [.vec 11] eLE,.dead,.vec (.ad cE out) Lf.eE]))=
 Tree.need (bn (some [AV.ptr 0 0,.s (.int .i64 n),.s (.int .i64 deep)]))
 (.need (bn (some [ab.own [.ptr 1 0,.s (.int .i64 root),.ints .u64 16 fr,.ints .u64 16 fs,.ints .u64 16 gn] 115,.own [.vec 2,.ag 3,.s (.int .i64 fu)] 105,.vec (.ad [.arr .u8 64] th) 165,.map (.arr .u8 64) m]))
   (.need (Ds.bx th m fu)
     (.need (ay n)
       (.ite (fF th m n deep !=0) (.ret [.own [.ptr 1 0,.s (.int .i64 root),.ints .u64 16 fr,.ints .u64 16 fs,.ints .u64 16 gn] 115,.own [.vec 2,.ag 3,.s (.int .i64 fu)] 105,.vec (.ad [.arr .u8 64] th) 165,.map (.arr .u8 64) m,.own [.ptr 0 0] 33,.own [.ints .u64 16 met] 37,.own [.fn 87 [.ptr 8 0,.ptr 9 0]] 150,.own [.fn 132 [.ptr 4 0,.ptr 5 0,.ptr 6 0,.ptr 7 0]] 203,.own [.s (.str from_)] 9,.own [.vec 11] 59,.dead,.vec (.ad [.str,.str] out) 66,.own [.s (.bool (jy th m n deep)),.s (.ro (.ad [.str,.str] (bT th m n deep))),.s (.ro (.ad [.str,.int .i64] (aQ th m n deep)))] 131] (.s (.int .i64 (fF th m n deep))))
         (.ite (Bx.lP met n) (.ret [.own [.ptr 1 0,.s (.int .i64 root),.ints .u64 16 fr,.ints .u64 16 fs,.ints .u64 16 gn] 115,.own [.vec 2,.ag 3,.s (.int .i64 fu)] 105,.vec (.ad [.arr .u8 64] th) 165,.map (.arr .u8 64) m,.own [.ptr 0 0] 33,.own [.ints .u64 16 met] 37,.own [.fn 87 [.ptr 8 0,.ptr 9 0]] 150,.own [.fn 132 [.ptr 4 0,.ptr 5 0,.ptr 6 0,.ptr 7 0]] 203,.own [.s (.str from_)] 9,.own [.vec 11] 59,.dead,.vec (.ad [.str,.str] out) 66,.own [.s (.bool (jy th m n deep)),.s (.ro (.ad [.str,.str] (bT th m n deep))),.s (.ro (.ad [.str,.int .i64] (aQ th m n deep)))] 131] (.s (.aK .i64 4))) (.need (bn (some [AV.s (.int .i64 n),.agg [.s (.bool (jy th m n deep)),.s (.ro (.ad [.str,.str] (bT th m n deep))),.s (.ro (.ad [.str,.int .i64] (aQ th m n deep)))],.ptr 0 0,.ptr 1 0])) (.need (bn (some [ab.own [.s (.str from_)] 9,.own [.vec 2] 59,.vec (.ad [.str,.str] out) 66])) (.need ((bT th m n deep).length≤1000) (.need (out.length≤100000000) (.at (.mk (sl 51 [(1,.s (.int .i64 deep)),(5,.ptr 7 0),(35,.s (.ro (.ad [.str,.int .i64] (aQ th m n deep)))),(36,.s (.int .i64 (↑(aQ th m n deep).length:Int))),(37,.s (.int .i64 0))]) [.own [.ptr 1 0,.s (.int .i64 root),.ints .u64 16 fr,.ints .u64 16 fs,.ints .u64 16 gn] 115,.own [.vec 2,.ag 3,.s (.int .i64 fu)] 105,.vec (.ad [.arr .u8 64] th) 165,.map (.arr .u8 64) m,.own [.ptr 0 0] 33,.own [.ints .u64 16 (Bx.dM met n)] 37,.own [.fn 87 [.ptr 8 0,.ptr 9 0]] 150,.own [.fn 132 [.ptr 4 0,.ptr 5 0,.ptr 6 0,.ptr 7 0]] 203,.own [.s (.str from_)] 9,.own [.vec 11] 59,.dead,.vec (.ad [.str,.str] (out++List.filter (geE from_) (bT th m n deep))) 66] (hd Tryz.f132 9) (.mk none false 0 [] 0)))))))))))):=by kernel_rfl
theorem amC(f:Nat)(th:Th)(m:As)(fu root:Int)(fr fs gn met:Ws)(from_:ByteArray)(out:List En)(bs:List Br)(deep i:Int):run P (yk f).sum Tryz.f132 adO (aq4 th m fu root fr fs gn met from_ out bs deep i)=
 Tree.ite (decide (i<(↑bs.length:Int)))
 (.need ((0:Int)≤i)
   (.need (i<(↑bs.length:Int))
     (.need (ay (deep+1))
       (.need (bn (some [AV.s (.int .i64 (bs.getD i.toNat (CL.d [.str,.int .i64])).snd.fst),.s (.int .i64 (deep+1)),.ptr 4 0,.ptr 5 0,.ptr 6 0,.ptr 7 0]))
         (.need (bn (some [ab.own [.ptr 1 0,.s (.int .i64 root),.ints .u64 16 fr,.ints .u64 16 fs,.ints .u64 16 gn] 115,.own [.vec 2,.ag 3,.s (.int .i64 fu)] 105,.vec (.ad [.arr .u8 64] th) 165,.map (.arr .u8 64) m,.own [.ptr 0 0] 33,.own [.ints .u64 16 met] 37,.own [.fn 87 [.ptr 8 0,.ptr 9 0]] 150,.own [.fn 132 [.ptr 4 0,.ptr 5 0,.ptr 6 0,.ptr 7 0]] 203,.own [.s (.str from_)] 9,.own [.vec 10] 59,.vec (.ad [.str,.str] out) 66]))
           (.need (Ds.bx th m fu) (.need ((0:Int)≤(bs.getD i.toNat (CL.d [.str,.int .i64])).snd.fst∧(bs.getD i.toNat (CL.d [.str,.int .i64])).snd.fst≤65536) (.need ((1:Int)≤deep+1∧deep+1≤17) (.need ((18:Int)≤deep+1+(↑f:Int)) (.need (Bx.okW met) (.need (out.length≤(126:Nat)*jw met) (.ite (ale th m f (deep+1) met from_ out (bs.getD i.toNat (CL.d [.str,.int .i64])).snd.fst !=0) (.ret [.own [.ptr 1 0,.s (.int .i64 root),.ints .u64 16 fr,.ints .u64 16 fs,.ints .u64 16 gn] 115,.own [.vec 2,.ag 3,.s (.int .i64 fu)] 105,.vec (.ad [.arr .u8 64] th) 165,.map (.arr .u8 64) m,.own [.ptr 0 0] 33,.own [.ints .u64 16 (alc th m f (deep+1) met from_ out (bs.getD i.toNat (CL.d [.str,.int .i64])).snd.fst)] 37,.own [.fn 87 [.ptr 8 0,.ptr 9 0]] 150,.own [.fn 132 [.ptr 4 0,.ptr 5 0,.ptr 6 0,.ptr 7 0]] 203,.own [.s (.str from_)] 9,.own [.vec 13] 59,.dead,.dead,.own [.s (.str (bs.getD i.toNat (CL.d [.str,.int .i64])).fst),.s (.int .i64 (bs.getD i.toNat (CL.d [.str,.int .i64])).snd.fst)] 137,.vec (.ad [.str,.str] (ald th m f (deep+1) met from_ out (bs.getD i.toNat (CL.d [.str,.int .i64])).snd.fst)) 66] (.s (.int .i64 (ale th m f (deep+1) met from_ out (bs.getD i.toNat (CL.d [.str,.int .i64])).snd.fst)))) (.need (ay (i+1)) (.at (.mk (sl 51 [(1,.s (.int .i64 deep)),(5,.ptr 7 0),(35,.s (.ro (.ad [.str,.int .i64] bs))),(36,.s (.int .i64 (↑bs.length:Int))),(37,.s (.int .i64 (i+1)))]) [.own [.ptr 1 0,.s (.int .i64 root),.ints .u64 16 fr,.ints .u64 16 fs,.ints .u64 16 gn] 115,.own [.vec 2,.ag 3,.s (.int .i64 fu)] 105,.vec (.ad [.arr .u8 64] th) 165,.map (.arr .u8 64) m,.own [.ptr 0 0] 33,.own [.ints .u64 16 (alc th m f (deep+1) met from_ out (bs.getD i.toNat (CL.d [.str,.int .i64])).snd.fst)] 37,.own [.fn 87 [.ptr 8 0,.ptr 9 0]] 150,.own [.fn 132 [.ptr 4 0,.ptr 5 0,.ptr 6 0,.ptr 7 0]] 203,.own [.s (.str from_)] 9,.own [.vec 11] 59,.dead,.vec (.ad [.str,.str] (ald th m f (deep+1) met from_ out (bs.getD i.toNat (CL.d [.str,.int .i64])).snd.fst)) 66] (hd Tryz.f132 9) (.mk none false 0 [] 0))))))))))))))))
 (.ret [.own [.ptr 1 0,.s (.int .i64 root),.ints .u64 16 fr,.ints .u64 16 fs,.ints .u64 16 gn] 115,.own [.vec 2,.ag 3,.s (.int .i64 fu)] 105,.vec (.ad [.arr .u8 64] th) 165,.map (.arr .u8 64) m,.own [.ptr 0 0] 33,.own [.ints .u64 16 met] 37,.own [.fn 87 [.ptr 8 0,.ptr 9 0]] 150,.own [.fn 132 [.ptr 4 0,.ptr 5 0,.ptr 6 0,.ptr 7 0]] 203,.own [.s (.str from_)] 9,.own [.vec 11] 59,.dead,.vec (.ad [.str,.str] out) 66] (.s (.aK .i64 0))):=by kernel_rfl
def alg(th:Th)(m:As)(f:Nat)(deep:Int)(met:Ws)(out:Ws)(n:Int):Ws:=(eb u7 th m f deep met out n).1
def alh(th:Th)(m:As)(f:Nat)(deep:Int)(met:Ws)(out:Ws)(n:Int):Ws:=(eb u7 th m f deep met out n).2.1
def ali(th:Th)(m:As)(f:Nat)(deep:Int)(met:Ws)(out:Ws)(n:Int):Int:=(eb u7 th m f deep met out n).2.2
abbrev XVG:Type:=XT×Int×Int×Ws×Ws
abbrev hVG(th:Th)(m:As)(fu root:Int)(fr fs gn met:Ws):List ab:=hT th m fu root fr fs gn++[.own [.ptr 0 0] tT1,.own [.ints .u64 16 met] eSt,.own [.fn fG1 [.ptr 8 0]] tOn,.own [.fn fW1 [.ptr 4 0,.ptr 5 0,.ptr 6 0,.ptr 7 0]] tVi]
abbrev aaL(f:Nat):Spec XVG:=⟨fun(_,n,deep,_)=>[bE n,bE deep,.ptr 4 0,.ptr 5 0,.ptr 6 0,.ptr 7 0],fun((th,m,fu,root,fr,fs,gn),_,_,met,out)=>hVG th m fu root fr fs gn met++[.own [.ints .u64 16 out] eSt],
 fun((th,m,fu,_),n,deep,met,out)=>[Ds.bx th m fu,0≤n∧n≤65536,1≤deep∧deep≤17,18≤deep+(f:Int),Bx.okW met,0≤0],
 fun((th,m,fu,root,fr,fs,gn),n,deep,met,out)=>hVG th m fu root fr fs gn (alg th m f deep met out n)++[.own [.ints .u64 16 (alh th m f deep met out n)] eSt],
 fun((th,m,_),n,deep,met,out)=>bE (ali th m f deep met out n)⟩
def alj:List AV→RM (XVG×List Nat)
 |[n,d,.ptr a 0,.ptr b 0,.ptr c 0,.ptr v 0]=>match n.cu,d.cu with
  |some (_,_,n),some (_,_,d)=>.look a fun o=>match o with
   |some (.own [.ptr t 0] _)=>(mT [.ptr t 0]).bind fun(X,σ)=>.look b fun o=>match o with
    |some (.own [.ints .u64 16 met] _)=>.look c fun o=>match o with
     |some (.own [.fn _ [.ptr p 0]] _)=>.look p fun o=>match o with
      |some (.own [.ints .u64 16 out] _)=>.ret ((X,n,d,met,out),σ++[a,b,c,v,p])
      |_=>.fail "visit: no set"
     |_=>.fail "visit: no on"
    |_=>.fail "visit: no set"
   |_=>.fail "visit: no tree"
  |_,_=>.fail "visit: no numbers"
 |_=>.fail "visit: arguments"
def yl(f:Nat):aH:=[(77,wo),(133,aou),(67,aan),(fG1,bZ sG1 mG1),(fW1,bZ (aaL f) alj)]
def adP:List (Nat×Norm):=[(9,⟨[],[1,5,35,36,37],9,[]⟩)]
noncomputable def aq6(th:Th)(m:As)(fu root:Int)(fr fs gn met:Ws)(out:Ws)(bs:List Br)(deep i:Int):bw:=⟨sl 51 [(1,bE deep),(5,.ptr 7 0),(35,.s (.ro (.ad cB bs))),(36,bE (bs.length:Int)),(37,bE i)],hVG th m fu root fr fs gn met++[.own [.ints .u64 16 out] eSt],hd Tryz.f132 9,{}⟩
theorem aq7(f:Nat)(th:Th)(m:As)(fu root:Int)(fr fs gn met:Ws)(out:Ws)(n deep:Int):run P (yl f).sum Tryz.f132 adP (start Tryz.f132 [bE n,bE deep,.ptr 4 0,.ptr 5 0,.ptr 6 0,.ptr 7 0] (hVG th m fu root fr fs gn met++[.own [.ints .u64 16 out] eSt]))=
 Tree.need (bn (some [AV.ptr 0 0,.s (.int .i64 n),.s (.int .i64 deep)]))
 (.need (bn (some [ab.own [.ptr 1 0,.s (.int .i64 root),.ints .u64 16 fr,.ints .u64 16 fs,.ints .u64 16 gn] 115,.own [.vec 2,.ag 3,.s (.int .i64 fu)] 105,.vec (.ad [.arr .u8 64] th) 165,.map (.arr .u8 64) m]))
   (.need (Ds.bx th m fu) (.need (ay n) (.ite (fF th m n deep !=0) (.ret [.own [.ptr 1 0,.s (.int .i64 root),.ints .u64 16 fr,.ints .u64 16 fs,.ints .u64 16 gn] 115,.own [.vec 2,.ag 3,.s (.int .i64 fu)] 105,.vec (.ad [.arr .u8 64] th) 165,.map (.arr .u8 64) m,.own [.ptr 0 0] 33,.own [.ints .u64 16 met] 37,.own [.fn 85 [.ptr 8 0]] 150,.own [.fn 132 [.ptr 4 0,.ptr 5 0,.ptr 6 0,.ptr 7 0]] 203,.own [.ints .u64 16 out] 37,.own [.s (.bool (jy th m n deep)),.s (.ro (.ad [.str,.str] (bT th m n deep))),.s (.ro (.ad [.str,.int .i64] (aQ th m n deep)))] 131] (.s (.int .i64 (fF th m n deep)))) (.ite (Bx.lP met n) (.ret [.own [.ptr 1 0,.s (.int .i64 root),.ints .u64 16 fr,.ints .u64 16 fs,.ints .u64 16 gn] 115,.own [.vec 2,.ag 3,.s (.int .i64 fu)] 105,.vec (.ad [.arr .u8 64] th) 165,.map (.arr .u8 64) m,.own [.ptr 0 0] 33,.own [.ints .u64 16 met] 37,.own [.fn 85 [.ptr 8 0]] 150,.own [.fn 132 [.ptr 4 0,.ptr 5 0,.ptr 6 0,.ptr 7 0]] 203,.own [.ints .u64 16 out] 37,.own [.s (.bool (jy th m n deep)),.s (.ro (.ad [.str,.str] (bT th m n deep))),.s (.ro (.ad [.str,.int .i64] (aQ th m n deep)))] 131] (.s (.aK .i64 4))) (.need (bn (some [AV.s (.int .i64 n),.agg [.s (.bool (jy th m n deep)),.s (.ro (.ad [.str,.str] (bT th m n deep))),.s (.ro (.ad [.str,.int .i64] (aQ th m n deep)))],.ptr 0 0])) (.need (bn (some [ab.own [.ints .u64 16 out] 37])) (.at (.mk (sl 51 [(1,.s (.int .i64 deep)),(5,.ptr 7 0),(35,.s (.ro (.ad [.str,.int .i64] (aQ th m n deep)))),(36,.s (.int .i64 (↑(aQ th m n deep).length:Int))),(37,.s (.int .i64 0))]) [.own [.ptr 1 0,.s (.int .i64 root),.ints .u64 16 fr,.ints .u64 16 fs,.ints .u64 16 gn] 115,.own [.vec 2,.ag 3,.s (.int .i64 fu)] 105,.vec (.ad [.arr .u8 64] th) 165,.map (.arr .u8 64) m,.own [.ptr 0 0] 33,.own [.ints .u64 16 (Bx.dM met n)] 37,.own [.fn 85 [.ptr 8 0]] 150,.own [.fn 132 [.ptr 4 0,.ptr 5 0,.ptr 6 0,.ptr 7 0]] 203,.own [.ints .u64 16 (Bx.dM out n)] 37] (hd Tryz.f132 9) (.mk none false 0 [] 0)))))))))):=by kernel_rfl
theorem amD(f:Nat)(th:Th)(m:As)(fu root:Int)(fr fs gn met:Ws)(out:Ws)(bs:List Br)(deep i:Int):run P (yl f).sum Tryz.f132 adP (aq6 th m fu root fr fs gn met out bs deep i)=
 Tree.ite (decide (i<(↑bs.length:Int)))
 (.need ((0:Int)≤i)
   (.need (i<(↑bs.length:Int))
     (.need (ay (deep+1))
       (.need (bn (some [AV.s (.int .i64 (bs.getD i.toNat (CL.d [.str,.int .i64])).snd.fst),.s (.int .i64 (deep+1)),.ptr 4 0,.ptr 5 0,.ptr 6 0,.ptr 7 0]))
         (.need (bn (some [ab.own [.ptr 1 0,.s (.int .i64 root),.ints .u64 16 fr,.ints .u64 16 fs,.ints .u64 16 gn] 115,.own [.vec 2,.ag 3,.s (.int .i64 fu)] 105,.vec (.ad [.arr .u8 64] th) 165,.map (.arr .u8 64) m,.own [.ptr 0 0] 33,.own [.ints .u64 16 met] 37,.own [.fn 85 [.ptr 8 0]] 150,.own [.fn 132 [.ptr 4 0,.ptr 5 0,.ptr 6 0,.ptr 7 0]] 203,.own [.ints .u64 16 out] 37]))
           (.need (Ds.bx th m fu) (.need ((0:Int)≤(bs.getD i.toNat (CL.d [.str,.int .i64])).snd.fst∧(bs.getD i.toNat (CL.d [.str,.int .i64])).snd.fst≤65536) (.need ((1:Int)≤deep+1∧deep+1≤17) (.need ((18:Int)≤deep+1+(↑f:Int)) (.need (Bx.okW met) (.need ((0:Nat)≤0) (.ite (ali th m f (deep+1) met out (bs.getD i.toNat (CL.d [.str,.int .i64])).snd.fst !=0) (.ret [.own [.ptr 1 0,.s (.int .i64 root),.ints .u64 16 fr,.ints .u64 16 fs,.ints .u64 16 gn] 115,.own [.vec 2,.ag 3,.s (.int .i64 fu)] 105,.vec (.ad [.arr .u8 64] th) 165,.map (.arr .u8 64) m,.own [.ptr 0 0] 33,.own [.ints .u64 16 (alg th m f (deep+1) met out (bs.getD i.toNat (CL.d [.str,.int .i64])).snd.fst)] 37,.own [.fn 85 [.ptr 8 0]] 150,.own [.fn 132 [.ptr 4 0,.ptr 5 0,.ptr 6 0,.ptr 7 0]] 203,.own [.ints .u64 16 (alh th m f (deep+1) met out (bs.getD i.toNat (CL.d [.str,.int .i64])).snd.fst)] 37,.own [.s (.str (bs.getD i.toNat (CL.d [.str,.int .i64])).fst),.s (.int .i64 (bs.getD i.toNat (CL.d [.str,.int .i64])).snd.fst)] 137] (.s (.int .i64 (ali th m f (deep+1) met out (bs.getD i.toNat (CL.d [.str,.int .i64])).snd.fst)))) (.need (ay (i+1)) (.at (.mk (sl 51 [(1,.s (.int .i64 deep)),(5,.ptr 7 0),(35,.s (.ro (.ad [.str,.int .i64] bs))),(36,.s (.int .i64 (↑bs.length:Int))),(37,.s (.int .i64 (i+1)))]) [.own [.ptr 1 0,.s (.int .i64 root),.ints .u64 16 fr,.ints .u64 16 fs,.ints .u64 16 gn] 115,.own [.vec 2,.ag 3,.s (.int .i64 fu)] 105,.vec (.ad [.arr .u8 64] th) 165,.map (.arr .u8 64) m,.own [.ptr 0 0] 33,.own [.ints .u64 16 (alg th m f (deep+1) met out (bs.getD i.toNat (CL.d [.str,.int .i64])).snd.fst)] 37,.own [.fn 85 [.ptr 8 0]] 150,.own [.fn 132 [.ptr 4 0,.ptr 5 0,.ptr 6 0,.ptr 7 0]] 203,.own [.ints .u64 16 (alh th m f (deep+1) met out (bs.getD i.toNat (CL.d [.str,.int .i64])).snd.fst)] 37] (hd Tryz.f132 9) (.mk none false 0 [] 0))))))))))))))))
 (.ret [.own [.ptr 1 0,.s (.int .i64 root),.ints .u64 16 fr,.ints .u64 16 fs,.ints .u64 16 gn] 115,.own [.vec 2,.ag 3,.s (.int .i64 fu)] 105,.vec (.ad [.arr .u8 64] th) 165,.map (.arr .u8 64) m,.own [.ptr 0 0] 33,.own [.ints .u64 16 met] 37,.own [.fn 85 [.ptr 8 0]] 150,.own [.fn 132 [.ptr 4 0,.ptr 5 0,.ptr 6 0,.ptr 7 0]] 203,.own [.ints .u64 16 out] 37] (.s (.aK .i64 0))):=by kernel_rfl
theorem aiu{ws:Ws}(hw:Bx.okW ws){n:Int}(hn:0≤n∧n<1024)(h:Bx.lP ws n=false):jw (Bx.dM ws n)=jw ws+1:=by
 have hb:Bx.bit ws n.toNat=false:=by
  rw[Bx.adB hw,decide_eq_true hn,Bool.true_and]at h;exact h
 obtain⟨_,h2⟩:=Bx.pA hw n;unfold jw Bx.ace
 have key:∀m,m≤1024→(Bx.fr (Bx.bit (Bx.dM ws n)) m).length=(Bx.fr (Bx.bit ws) m).length+(if n.toNat<m then 1 else 0):=by
  intro m
  induction m with
  |zero=>intro _;rfl
  |succ m ih=>
   intro hm;rw[Bx.pB,Bx.pB,List.length_append,List.length_append,ih (by omega),h2 m (by omega)]
   have hd:decide (n=(m:Int))=decide (n.toNat=m):=by
    by_cases e:n.toNat=m
    ·rw[decide_eq_true e,decide_eq_true (by omega)]
    ·rw[decide_eq_false e,decide_eq_false (by omega)]
   rw[hd];by_cases e:n.toNat=m
   ·subst e;have c1:¬n.toNat<n.toNat:=by omega
    have c2:n.toNat<n.toNat+1:=by omega
    rw[hb,decide_eq_true rfl,if_neg c1,if_pos c2];rfl
   ·rw[decide_eq_false e,Bool.or_false];by_cases e2:n.toNat<m
    ·have c2:n.toNat<m+1:=by omega
     rw[if_pos e2,if_pos c2];omega
    ·have c2:¬n.toNat<m+1:=by omega
     rw[if_neg e2,if_neg c2];omega
 have:=key 1024 (Nat.le_refl _);have c:n.toNat<1024:=by omega
 rw[this,if_pos c]
theorem aoN(ws:Ws):jw ws≤1024:=Bx.afd _ _
theorem aiv{th:Th}{m:As}{fu n deep:Int}(hd:Ds.bx th m fu)(h:fF th m n deep=0):0≤n∧n<1024:=by
 have hp:Ds.pOk th n=true:=by
  unfold fF at h;split at h
  ·cases h
  ·split at h
   ·rename_i hg;unfold Ds.n9 at hg;split at hg
    ·assumption
    ·cases hg
   ·rename_i hg;exact absurd h hg
 obtain⟨a,b⟩:=Ds.fQ.1 hp;have:=hd.1.1;unfold Ds.fk at b;have e:((th.length:Int)).tdiv 4=(th.length:Int) / 4:=Int.tdiv_eq_ediv_of_nonneg (by omega);rw[e]at b;omega
theorem uu{σ:Type}{g:Ws→σ→Int→Ws×σ×Int}{I:Ws→σ→Prop}(hg:∀met out n,I met out→I (g met out n).1 (g met out n).2.1):∀(l:List Br) (met:Ws) (out:σ),I met out→I (ur g l met out).1 (ur g l met out).2.1
 |[],met,out,h=>h
 |b::r,met,out,h=>by
  rw[ur];split
  ·exact hg _ _ _ h
  ·exact uu hg r _ _ (hg _ _ _ h)
theorem adQ(from_:ByteArray){th:Th}{m:As}{fu n deep:Int}{met:Ws}{out:List En}(hd:Ds.bx th m fu)(h:fF th m n deep=0)(hw:Bx.okW met)(h3:Bx.lP met n=false)(ho:List.length (α:=En) out≤126*jw met):
 Bx.okW (Bx.dM met n)∧List.length (α:=En) (rB from_ out n (bT th m n deep))≤126*jw (Bx.dM met n):=by
 refine⟨(Bx.pA hw n).1, ?_⟩;rw[aiu hw (aiv hd h) h3];unfold rB;rw[List.length_append];have:=filter_le (geE from_) (bT th m n deep);obtain⟨_,n1,_⟩:=ey h;omega
theorem adR(from_:ByteArray){th:Th}{m:As}{fu:Int}(hd:Ds.bx th m fu):∀(f:Nat) (deep:Int) (met:Ws) (out:List En) (n:Int),Bx.okW met→List.length (α:=En) out≤126*jw met→
 Bx.okW (eb (rB from_) th m f deep met out n).1∧List.length (α:=En) (eb (rB from_) th m f deep met out n).2.1≤126*jw (eb (rB from_) th m f deep met out n).1
 |0,deep,met,out,n,hw,ho=>⟨hw,ho⟩
 |f+1,deep,met,out,n,hw,ho=>by
  rw[eb];split
  ·exact⟨hw,ho⟩
  ·rename_i h;split
   ·exact⟨hw,ho⟩
   ·rename_i h3;have h3:Bx.lP met n=false:=by simpa using h3
    exact uu (I:=fun met out=>Bx.okW met∧List.length (α:=En) out≤126*jw met) (fun met out n hi=>adR from_ hd f (deep+1) met out n hi.1 hi.2) _ _ _ (adQ from_ hd (by simpa using h) hw h3 ho)
theorem adS{th:Th}{m:As}{fu n deep:Int}{met:Ws}(hd:Ds.bx th m fu)(h:fF th m n deep=0)(hw:Bx.okW met)(h3:Bx.lP met n=false)(ho:0≤0):Bx.okW (Bx.dM met n)∧0≤0:=⟨(Bx.pA hw n).1,ho⟩
theorem adT{th:Th}{m:As}{fu:Int}(hd:Ds.bx th m fu):∀(f:Nat) (deep:Int) (met:Ws) (out:Ws) (n:Int),Bx.okW met→0≤0→Bx.okW (eb u7 th m f deep met out n).1∧0≤0
 |0,deep,met,out,n,hw,ho=>⟨hw,ho⟩
 |f+1,deep,met,out,n,hw,ho=>by
  rw[eb];split
  ·exact⟨hw,ho⟩
  ·rename_i h;split
   ·exact⟨hw,ho⟩
   ·rename_i h3;have h3:Bx.lP met n=false:=by simpa using h3
    exact uu (I:=fun met out=>Bx.okW met∧0≤0) (fun met out n hi=>adT hd f (deep+1) met out n hi.1 hi.2) _ _ _ (adS hd (by simpa using h) hw h3 ho)
theorem afv{Z:aW}:fC P Z 85 sG1:=by
 refine au Tryz.func85 (by kernel_rfl) (fun x=>Nat.le_of_ble_eq_true (by kernel_rfl)) ?_;rintro⟨(n:Int),⟨(l:Bool),(es:List En),(bs:List Br)⟩,(out:Ws)⟩ _ X hX hz;exact Ds.cR hz hX (by intro y hy;cases hy) (aH.Ok.cons Bx.pw.sum aH.Ok.nil) Tryz.func85 (atu n l es bs out) (bC 1 rfl (Nat.le_refl _) rfl rfl)
theorem fvL{th:Th}{m:As}{fu root:Int}{fr fs gn met:Ws}{from_:ByteArray}{out:List En}{n deep:Int}{f:Nat}{c:Ws×List En×Int}(e:eb (rB from_) th m f deep met out n=c):
 (aaK f).ez ((th,m,fu,root,fr,fs,gn),n,deep,met,from_,out)=hVL th m fu root fr fs gn c.1++[rU from_,.own [.vec 11] eLE,.dead,.vec (.ad cE c.2.1) Lf.eE]∧(aaK f).out ((th,m,fu,root,fr,fs,gn),n,deep,met,from_,out)=bE c.2.2:=by
 subst e;exact⟨rfl,rfl⟩
theorem afw{f:Nat}(h:fC P Bx.bO fW1 (aaK f)):(yk f).Ok P Bx.bO:=aH.Ok.cons (ng.sum mNo) (aH.Ok.cons Bx.acb.sum (aH.Ok.cons Bx.pw.sum (aH.Ok.cons (ait.sum mL1) (aH.Ok.cons (h.sum alf) aH.Ok.nil))))
theorem aiw{L:List ab}(h:L.length=11):∀y∈adO,L.length≤y.2.m:=fun y hy=>by
 simp only[adO,List.mem_singleton]at hy;subst hy;exact Nat.le_of_eq h
theorem amE{f:Nat}(T:(yk f).Ok P Bx.bO){th:Th}{m:As}{fu root:Int}{fr fs gn:Ws}{n deep:Int}{gN:Ws}{from_:ByteArray}{iC:List En}(hd:Ds.bx th m fu)(h1:1≤deep∧deep≤17)(h2:18≤deep+((f+1:Nat):Int))
 {X:Ctx} (hX:X.H=lk ((aaK (f+1)).heap ((th,m,fu,root,fr,fs,gn),n,deep,gN,from_,iC))) (hz:dP Bx.bO X) (h:fF th m n deep=0):
 ∀(j k:Nat) (met:Ws) (out:List En),k+j=(aQ th m n deep).length→Bx.okW met→List.length (α:=En) out≤126*jw met→eb (rB from_) th m (f+1) deep gN iC n=ur (eb (rB from_) th m f (deep+1)) ((aQ th m n deep).drop k) met out→
    Safe P fW1 X (cX (aaK (f+1)) ((th,m,fu,root,fr,fs,gn),n,deep,gN,from_,iC)) (aq4 th m fu root fr fs gn met from_ out (aQ th m n deep) deep (k:Int))
 |0,k,met,out,hk,hw,ho,e=>by
  rw[List.drop_of_length_le (by omega)]at e;obtain⟨f1,f2⟩:=fvL (fu:=fu) (root:=root) (fr:=fr) (fs:=fs) (gn:=gn) e;exact Ds.cR hz hX (aiw rfl) T Tryz.func132 (amC f th m fu root fr fs gn met from_ out (aQ th m n deep) deep k) ⟨fun h=>absurd (of_decide_eq_true h) (by omega),fun _=>bC 11 rfl (Nat.le_refl _) f2 f1⟩
 |j+1,k,met,out,hk,hw,ho,e=>by
  obtain⟨_,_,n2,_,_,n5,_⟩:=ey h;rw[drop_cons dB (by omega),ur]at e;have pg:=qG h k;obtain⟨i1,i2⟩:=adR from_ hd f (deep+1) met out ((aQ th m n deep).getD k dB).2.1 hw ho;refine Ds.cR hz hX (aiw rfl) T Tryz.func132 (amC f th m fu root fr fs gn met from_ out (aQ th m n deep) deep k) ⟨fun _=>⟨by omega,by omega,ri (by omega) (by omega),rfl,rfl,hd,pg,⟨by omega,by omega⟩,by omega,hw,ho,fun h4=> ?_,fun h4=>⟨⟨by omega,by omega⟩, ?_⟩⟩,fun h=>absurd (of_decide_eq_false h) (by omega)⟩
  ·have h4:(eb (rB from_) th m f (deep+1) met out ((aQ th m n deep).getD k dB).2.1).2.2≠0:=bne_iff_ne.1 h4;rw[if_pos h4]at e;obtain⟨f1,f2⟩:=fvL (fu:=fu) (root:=root) (fr:=fr) (fs:=fs) (gn:=gn) e;exact bC 11 rfl (Nat.le_refl _) f2 f1
  ·have h4:¬(eb (rB from_) th m f (deep+1) met out ((aQ th m n deep).getD k dB).2.1).2.2≠0:=fun hh=>Bool.false_ne_true (h4.symm.trans (bne_iff_ne.2 hh));rw[if_neg h4]at e;exact amE T hd h1 h2 hX hz h j (k+1) _ _ (by omega) i1 i2 e
theorem wy:∀f,fC P Bx.bO fW1 (aaK f)
 |0=>by
  rintro⟨⟨(th:Th),(m:As),(fu:Int),(root:Int),(fr:Ws),(fs:Ws),(gn:Ws)⟩,(n:Int),(deep:Int),(met:Ws),(from_:ByteArray),(out:List En)⟩ ⟨_,_,(h1:1≤deep∧deep≤17),(h2:18≤deep+((0:Nat):Int)),_⟩;omega
 |f+1=>by
  have T:=afw (wy f);refine au Tryz.func132 (by kernel_rfl) (fun x=>Nat.le_of_ble_eq_true (by kernel_rfl)) ?_;rintro⟨⟨(th:Th),(m:As),(fu:Int),(root:Int),(fr:Ws),(fs:Ws),(gn:Ws)⟩,(n:Int),(deep:Int),(gN:Ws),(from_:ByteArray),(iC:List En)⟩ ⟨(hd:Ds.bx th m fu),(hn:0≤n∧n≤65536),(h1:1≤deep∧deep≤17),(h2:18≤deep+((f+1:Nat):Int)),(hw:Bx.okW gN),(ho:List.length (α:=En) iC≤126*jw gN),_⟩ X hX hz;refine oe 10 (c:=start Tryz.f132 [bE n,bE deep,.ptr 4 0,.ptr 5 0,.ptr 6 0,.ptr 7 0] (hVL th m fu root fr fs gn gN++[rU from_,.own [.vec 11] eLE,.dead,.vec (.ad cE iC) Lf.eE])) rfl ?_;refine Ds.cR hz hX (aiw rfl) T Tryz.func132 (aq5 f th m fu root fr fs gn gN from_ iC n deep) ⟨rfl,rfl,hd,ri (by omega) (by omega),fun h=> ?_,fun h=>⟨fun h3=> ?_,fun h3=> ?_⟩⟩
  ·have h:fF th m n deep≠0:=by simpa using h
   obtain⟨f1,f2⟩:=fvL (fu:=fu) (root:=root) (fr:=fr) (fs:=fs) (gn:=gn) (show eb (rB from_) th m (f+1) deep gN iC n=(gN,iC,fF th m n deep)by rw[eb,if_pos h]);exact bC 11 rfl (Nat.le_refl _) f2 f1
  ·have h:fF th m n deep=0:=by simpa using h
   obtain⟨f1,f2⟩:=fvL (fu:=fu) (root:=root) (fr:=fr) (fs:=fs) (gn:=gn) (show eb (rB from_) th m (f+1) deep gN iC n=(gN,iC,4)by rw[eb,if_neg (by rw[h];simp),if_pos h3]);exact bC 11 rfl (Nat.le_refl _) f2 f1
  ·have h:fF th m n deep=0:=by simpa using h
   obtain⟨_,n1,n2,_,_,_,_⟩:=ey h;have e:eb (rB from_) th m (f+1) deep gN iC n=ur (eb (rB from_) th m f (deep+1)) (aQ th m n deep) (Bx.dM gN n) ((rB from_) iC n (bT th m n deep)):=by rw[eb,if_neg (by rw[h];simp),if_neg (by rw[h3];simp)]
   obtain⟨i1,i2⟩:=adQ from_ hd h hw h3 ho;exact⟨rfl,rfl,by omega,by have:=aoN gN;omega,amE T hd h1 h2 hX hz h _ 0 _ _ (Nat.zero_add _) i1 i2 (by rw[List.drop_zero];exact e)⟩
theorem fvG{th:Th}{m:As}{fu root:Int}{fr fs gn met:Ws}{out:Ws}{n deep:Int}{f:Nat}{c:Ws×Ws×Int}(e:eb u7 th m f deep met out n=c):
 (aaL f).ez ((th,m,fu,root,fr,fs,gn),n,deep,met,out)=hVG th m fu root fr fs gn c.1++[.own [.ints .u64 16 c.2.1] eSt]∧(aaL f).out ((th,m,fu,root,fr,fs,gn),n,deep,met,out)=bE c.2.2:=by
 subst e;exact⟨rfl,rfl⟩
theorem afx{f:Nat}(h:fC P Bx.bO fW1 (aaL f)):(yl f).Ok P Bx.bO:=aH.Ok.cons (ng.sum mNo) (aH.Ok.cons Bx.acb.sum (aH.Ok.cons Bx.pw.sum (aH.Ok.cons (afv.sum mG1) (aH.Ok.cons (h.sum alj) aH.Ok.nil))))
theorem aix{L:List ab}(h:L.length=9):∀y∈adP,L.length≤y.2.m:=fun y hy=>by
 simp only[adP,List.mem_singleton]at hy;subst hy;exact Nat.le_of_eq h
theorem amF{f:Nat}(T:(yl f).Ok P Bx.bO){th:Th}{m:As}{fu root:Int}{fr fs gn:Ws}{n deep:Int}{gN:Ws}{iC:Ws}(hd:Ds.bx th m fu)(h1:1≤deep∧deep≤17)(h2:18≤deep+((f+1:Nat):Int))
 {X:Ctx} (hX:X.H=lk ((aaL (f+1)).heap ((th,m,fu,root,fr,fs,gn),n,deep,gN,iC))) (hz:dP Bx.bO X) (h:fF th m n deep=0):
 ∀(j k:Nat) (met:Ws) (out:Ws),k+j=(aQ th m n deep).length→Bx.okW met→0≤0→eb u7 th m (f+1) deep gN iC n=ur (eb u7 th m f (deep+1)) ((aQ th m n deep).drop k) met out→
    Safe P fW1 X (cX (aaL (f+1)) ((th,m,fu,root,fr,fs,gn),n,deep,gN,iC)) (aq6 th m fu root fr fs gn met out (aQ th m n deep) deep (k:Int))
 |0,k,met,out,hk,hw,ho,e=>by
  rw[List.drop_of_length_le (by omega)]at e;obtain⟨f1,f2⟩:=fvG (fu:=fu) (root:=root) (fr:=fr) (fs:=fs) (gn:=gn) e;exact Ds.cR hz hX (aix rfl) T Tryz.func132 (amD f th m fu root fr fs gn met out (aQ th m n deep) deep k) ⟨fun h=>absurd (of_decide_eq_true h) (by omega),fun _=>bC 9 rfl (Nat.le_refl _) f2 f1⟩
 |j+1,k,met,out,hk,hw,ho,e=>by
  obtain⟨_,_,n2,_,_,n5,_⟩:=ey h;rw[drop_cons dB (by omega),ur]at e;have pg:=qG h k;obtain⟨i1,i2⟩:=adT hd f (deep+1) met out ((aQ th m n deep).getD k dB).2.1 hw ho;refine Ds.cR hz hX (aix rfl) T Tryz.func132 (amD f th m fu root fr fs gn met out (aQ th m n deep) deep k) ⟨fun _=>⟨by omega,by omega,ri (by omega) (by omega),rfl,rfl,hd,pg,⟨by omega,by omega⟩,by omega,hw,ho,fun h4=> ?_,fun h4=>⟨⟨by omega,by omega⟩, ?_⟩⟩,fun h=>absurd (of_decide_eq_false h) (by omega)⟩
  ·have h4:(eb u7 th m f (deep+1) met out ((aQ th m n deep).getD k dB).2.1).2.2≠0:=bne_iff_ne.1 h4;rw[if_pos h4]at e;obtain⟨f1,f2⟩:=fvG (fu:=fu) (root:=root) (fr:=fr) (fs:=fs) (gn:=gn) e;exact bC 9 rfl (Nat.le_refl _) f2 f1
  ·have h4:¬(eb u7 th m f (deep+1) met out ((aQ th m n deep).getD k dB).2.1).2.2≠0:=fun hh=>Bool.false_ne_true (h4.symm.trans (bne_iff_ne.2 hh));rw[if_neg h4]at e;exact amF T hd h1 h2 hX hz h j (k+1) _ _ (by omega) i1 i2 e
theorem wz:∀f,fC P Bx.bO fW1 (aaL f)
 |0=>by
  rintro⟨⟨(th:Th),(m:As),(fu:Int),(root:Int),(fr:Ws),(fs:Ws),(gn:Ws)⟩,(n:Int),(deep:Int),(met:Ws),(out:Ws)⟩ ⟨_,_,(h1:1≤deep∧deep≤17),(h2:18≤deep+((0:Nat):Int)),_⟩;omega
 |f+1=>by
  have T:=afx (wz f);refine au Tryz.func132 (by kernel_rfl) (fun x=>Nat.le_of_ble_eq_true (by kernel_rfl)) ?_;rintro⟨⟨(th:Th),(m:As),(fu:Int),(root:Int),(fr:Ws),(fs:Ws),(gn:Ws)⟩,(n:Int),(deep:Int),(gN:Ws),(iC:Ws)⟩ ⟨(hd:Ds.bx th m fu),(hn:0≤n∧n≤65536),(h1:1≤deep∧deep≤17),(h2:18≤deep+((f+1:Nat):Int)),(hw:Bx.okW gN),(ho:0≤0),_⟩ X hX hz;refine Ds.cR hz hX (aix rfl) T Tryz.func132 (aq7 f th m fu root fr fs gn gN iC n deep) ⟨rfl,rfl,hd,ri (by omega) (by omega),fun h=> ?_,fun h=>⟨fun h3=> ?_,fun h3=> ?_⟩⟩
  ·have h:fF th m n deep≠0:=by simpa using h
   obtain⟨f1,f2⟩:=fvG (fu:=fu) (root:=root) (fr:=fr) (fs:=fs) (gn:=gn) (show eb u7 th m (f+1) deep gN iC n=(gN,iC,fF th m n deep)by rw[eb,if_pos h]);exact bC 9 rfl (Nat.le_refl _) f2 f1
  ·have h:fF th m n deep=0:=by simpa using h
   obtain⟨f1,f2⟩:=fvG (fu:=fu) (root:=root) (fr:=fr) (fs:=fs) (gn:=gn) (show eb u7 th m (f+1) deep gN iC n=(gN,iC,4)by rw[eb,if_neg (by rw[h];simp),if_pos h3]);exact bC 9 rfl (Nat.le_refl _) f2 f1
  ·have h:fF th m n deep=0:=by simpa using h
   obtain⟨_,n1,n2,_,_,_,_⟩:=ey h;have e:eb u7 th m (f+1) deep gN iC n=ur (eb u7 th m f (deep+1)) (aQ th m n deep) (Bx.dM gN n) (u7 iC n (bT th m n deep)):=by rw[eb,if_neg (by rw[h];simp),if_neg (by rw[h3];simp)]
   obtain⟨i1,i2⟩:=adS hd h hw h3 ho;exact⟨rfl,rfl,amF T hd h1 h2 hX hz h _ 0 _ _ (Nat.zero_add _) i1 i2 (by rw[List.drop_zero];exact e)⟩
end Ts
namespace Ts
open Go Go.Sx Go.Proofs Lf
def wkT{σ:Type}(on:σ→Int→List En→σ)(th:Th)(m:As)(root:Int)(out:σ):σ×Int:=if root=0 then(out,0)else((eb on th m 17 1 Bx.ae out root).2.1,(eb on th m 17 1 Bx.ae out root).2.2)
def lsT(th:Th)(m:As)(root:Int)(from_:ByteArray):List En:=(wkT (rB from_) th m root []).1
def lsE(th:Th)(m:As)(root:Int)(from_:ByteArray):Int:=(wkT (rB from_) th m root []).2
def pgT(th:Th)(m:As)(root:Int):Ws:=(wkT u7 th m root Bx.ae).1
def wA(th:Th)(m:As)(root:Int):Int:=(wkT u7 th m root Bx.ae).2
def lsF(th:Th)(m:As)(root:Int)(from_:ByteArray):List En:=if lsE th m root from_≠0 then []else lsT th m root from_
def cT(th:Th)(m:As)(root:Int):Ws:=if wA th m root≠0 then Bx.ae else pgT th m root
abbrev alk:Spec XD:=⟨fun _=>[.ptr 0 0,.fn fL1 [.ptr 4 0,.ptr 5 0]],fun((th,m,fu,root,fr,fs,gn),from_)=>hT th m fu root fr fs gn++[rU from_,.own [.vec 6] eLE,.vec (.ad cE []) Lf.eE],
 fun((th,m,fu,root,_),_)=>[Ds.bx th m fu,0≤root∧root≤65536],fun((th,m,fu,root,fr,fs,gn),from_)=>hT th m fu root fr fs gn++[rU from_,.own [.vec 7] eLE,.dead,.vec (.ad cE (lsT th m root from_)) Lf.eE],fun((th,m,_,root,_),from_)=>bE (lsE th m root from_)⟩
abbrev alm:Spec XT:=⟨fun _=>[.ptr 0 0,.fn fG1 [.ptr 4 0]],fun(th,m,fu,root,fr,fs,gn)=>hT th m fu root fr fs gn++[.own [.ints .u64 16 Bx.ae] eSt],
 fun(th,m,fu,root,_)=>[Ds.bx th m fu,0≤root∧root≤65536],fun(th,m,fu,root,fr,fs,gn)=>hT th m fu root fr fs gn++[.own [.ints .u64 16 (pgT th m root)] eSt],fun(th,m,_,root,_)=>bE (wA th m root)⟩
def aoO:aH:=[(fW1,bZ (aaK 17) alf)]
def aoP:aH:=[(fW1,bZ (aaL 17) alj)]
theorem aq8(th:Th)(m:As)(fu root:Int)(fr fs gn:Ws)(from_:ByteArray):run P aoO.sum Tryz.f84 [] (start Tryz.f84 [.ptr 0 0,.fn fL1 [.ptr 4 0,.ptr 5 0]] (hT th m fu root fr fs gn++[rU from_,.own [.vec 7] eLE,.dead,.vec (.ad cE []) Lf.eE]))=
 Tree.ite (root==0) (.ret [.own [.ptr 1 0,.s (.int .i64 root),.ints .u64 16 fr,.ints .u64 16 fs,.ints .u64 16 gn] 115,.own [.vec 2,.ag 3,.s (.int .i64 fu)] 105,.vec (.ad [.arr .u8 64] th) 165,.map (.arr .u8 64) m,.own [.s (.str from_)] 9,.own [.vec 7] 59,.dead,.vec (.ad [.str,.str] []) 66,.own [.ptr 0 0] 33,.own [.fn 87 [.ptr 4 0,.ptr 5 0]] 150,.own [.ints .u64 16 (List.replicate 16 0)] 37,.own [.fn 132 [.ptr 8 0,.ptr 10 0,.ptr 9 0,.ptr 11 0]] 203] (.s (.aK .i64 0))) (.need (bn (some [AV.s (.int .i64 root),.s (.int .i64 1),.ptr 4 0,.ptr 5 0,.ptr 6 0,.ptr 7 0])) (.need (bn (some [ab.own [.ptr 1 0,.s (.int .i64 root),.ints .u64 16 fr,.ints .u64 16 fs,.ints .u64 16 gn] 115,.own [.vec 2,.ag 3,.s (.int .i64 fu)] 105,.vec (.ad [.arr .u8 64] th) 165,.map (.arr .u8 64) m,.own [.ptr 0 0] 33,.own [.ints .u64 16 (List.replicate 16 0)] 37,.own [.fn 87 [.ptr 8 0,.ptr 9 0]] 150,.own [.fn 132 [.ptr 4 0,.ptr 5 0,.ptr 6 0,.ptr 7 0]] 203,.own [.s (.str from_)] 9,.own [.vec 10] 59,.vec (.ad [.str,.str] []) 66])) (.need (Ds.bx th m fu) (.need ((0:Int)≤root∧root≤65536) (.need ((1:Int)≤1∧(1:Int)≤17) (.need ((18:Int)≤1+(↑(17:Nat):Int)) (.need (Bx.okW (List.replicate 16 0)) (.need ((0:Nat)≤(126:Nat)*0) (.ret [.own [.ptr 1 0,.s (.int .i64 root),.ints .u64 16 fr,.ints .u64 16 fs,.ints .u64 16 gn] 115,.own [.vec 2,.ag 3,.s (.int .i64 fu)] 105,.vec (.ad [.arr .u8 64] th) 165,.map (.arr .u8 64) m,.own [.s (.str from_)] 9,.own [.vec 12] 59,.dead,.dead,.own [.ptr 0 0] 33,.own [.fn 87 [.ptr 4 0,.ptr 5 0]] 150,.own [.ints .u64 16 (alc th m 17 1 (List.replicate 16 0) from_ [] root)] 37,.own [.fn 132 [.ptr 8 0,.ptr 10 0,.ptr 9 0,.ptr 11 0]] 203,.vec (.ad [.str,.str] (ald th m 17 1 (List.replicate 16 0) from_ [] root)) 66] (.s (.int .i64 (ale th m 17 1 (List.replicate 16 0) from_ [] root)))))))))))):=by kernel_rfl
theorem aq9(th:Th)(m:As)(fu root:Int)(fr fs gn:Ws):run P aoP.sum Tryz.f84 [] (start Tryz.f84 [.ptr 0 0,.fn fG1 [.ptr 4 0]] (hT th m fu root fr fs gn++[.own [.ints .u64 16 Bx.ae] eSt]))=
 Tree.ite (root==0) (.ret [.own [.ptr 1 0,.s (.int .i64 root),.ints .u64 16 fr,.ints .u64 16 fs,.ints .u64 16 gn] 115,.own [.vec 2,.ag 3,.s (.int .i64 fu)] 105,.vec (.ad [.arr .u8 64] th) 165,.map (.arr .u8 64) m,.own [.ints .u64 16 Bx.ae] 37,.own [.ptr 0 0] 33,.own [.fn 85 [.ptr 4 0]] 150,.own [.ints .u64 16 (List.replicate 16 0)] 37,.own [.fn 132 [.ptr 5 0,.ptr 7 0,.ptr 6 0,.ptr 8 0]] 203] (.s (.aK .i64 0))) (.need (bn (some [AV.s (.int .i64 root),.s (.int .i64 1),.ptr 4 0,.ptr 5 0,.ptr 6 0,.ptr 7 0])) (.need (bn (some [ab.own [.ptr 1 0,.s (.int .i64 root),.ints .u64 16 fr,.ints .u64 16 fs,.ints .u64 16 gn] 115,.own [.vec 2,.ag 3,.s (.int .i64 fu)] 105,.vec (.ad [.arr .u8 64] th) 165,.map (.arr .u8 64) m,.own [.ptr 0 0] 33,.own [.ints .u64 16 (List.replicate 16 0)] 37,.own [.fn 85 [.ptr 8 0]] 150,.own [.fn 132 [.ptr 4 0,.ptr 5 0,.ptr 6 0,.ptr 7 0]] 203,.own [.ints .u64 16 Bx.ae] 37])) (.need (Ds.bx th m fu) (.need ((0:Int)≤root∧root≤65536) (.need ((1:Int)≤1∧(1:Int)≤17) (.need ((18:Int)≤1+(↑(17:Nat):Int)) (.need (Bx.okW (List.replicate 16 0)) (.need ((0:Nat)≤0) (.ret [.own [.ptr 1 0,.s (.int .i64 root),.ints .u64 16 fr,.ints .u64 16 fs,.ints .u64 16 gn] 115,.own [.vec 2,.ag 3,.s (.int .i64 fu)] 105,.vec (.ad [.arr .u8 64] th) 165,.map (.arr .u8 64) m,.own [.ints .u64 16 (alh th m 17 1 (List.replicate 16 0) Bx.ae root)] 37,.own [.ptr 0 0] 33,.own [.fn 85 [.ptr 4 0]] 150,.own [.ints .u64 16 (alg th m 17 1 (List.replicate 16 0) Bx.ae root)] 37,.own [.fn 132 [.ptr 5 0,.ptr 7 0,.ptr 6 0,.ptr 8 0]] 203] (.s (.int .i64 (ali th m 17 1 (List.replicate 16 0) Bx.ae root)))))))))))):=by kernel_rfl
abbrev sLs:Spec XD:=⟨fun(_,from_)=>[.ptr 0 0,.s (.str from_)],fun((th,m,fu,root,fr,fs,gn),_)=>hT th m fu root fr fs gn,fun((th,m,fu,root,_),_)=>[Ds.bx th m fu,0≤root∧root≤65536],
 fun((th,m,fu,root,fr,fs,gn),from_)=>hT th m fu root fr fs gn++[.vec (.ad cE (lsF th m root from_)) Lf.eE],fun((th,m,_,root,_),from_)=>.bg [.vec 4,bE (lsE th m root from_)]⟩
abbrev sPg:Spec XT:=⟨fun _=>[.ptr 0 0],fun(th,m,fu,root,fr,fs,gn)=>hT th m fu root fr fs gn,fun(th,m,fu,root,_)=>[Ds.bx th m fu,0≤root∧root≤65536],
 fun(th,m,fu,root,fr,fs,gn)=>hT th m fu root fr fs gn,fun(th,m,_,root,_)=>.bg [.ints .u64 16 (cT th m root),bE (wA th m root)]⟩
def ara:List AV→RM (XD×List Nat)
 |[t,.fn _ [.ptr p 0,.ptr q 0]]=>(mT [t]).bind fun(X,σ)=>.look p fun o=>match o with
  |some (.own [.s (.str from_)] _)=>.look q fun o=>match o with
   |some (.own [.vec r] _)=>.ret ((X,from_),σ++[p,q,r])
   |_=>.fail "no row"
  |_=>.fail "no text"
 |_=>.fail "walk"
def arb:List AV→RM (XT×List Nat)
 |[t,.fn _ [.ptr p 0]]=>(mT [t]).bind fun(X,σ)=>.ret (X,σ++[p])
 |_=>.fail "walk"
def aiy:aH:=[(84,bZ alk ara)]
def arc:aH:=[(84,bZ alm arb)]
def aln:List (Nat×Norm):=[(4,⟨[],[0,3,6],4,[(5,0,false,.ad cE [],Lf.eE)]⟩)]
noncomputable def cLs(th:Th)(m:As)(fu root:Int)(fr fs gn:Ws)(from_:ByteArray):bw:=⟨sl 17 [(0,.ptr 0 0),(3,.ptr 4 0),(6,.ptr 5 0)],hT th m fu root fr fs gn++[rU from_,.own [.vec 6] eLE,.vec (.ad cE []) Lf.eE],hr Tryz.f33 4,{}⟩
theorem atv(th:Th)(m:As)(fu root:Int)(fr fs gn:Ws)(from_:ByteArray):run P aiy.sum Tryz.f33 aln (start Tryz.f33 [.ptr 0 0,.s (.str from_)] (hT th m fu root fr fs gn))=
 Tree.at (.mk (sl 17 [(0,.ptr 0 0),(3,.ptr 4 0),(6,.ptr 5 0)]) [.own [.ptr 1 0,.s (.int .i64 root),.ints .u64 16 fr,.ints .u64 16 fs,.ints .u64 16 gn] 115,.own [.vec 2,.ag 3,.s (.int .i64 fu)] 105,.vec (.ad [.arr .u8 64] th) 165,.map (.arr .u8 64) m,.own [.s (.str from_)] 9,.own [.vec 6] 59,.vec (.ad [.str,.str] []) 66] (hr Tryz.f33 4) (.mk none false 0 [] 0)):=by kernel_rfl
theorem atw(th:Th)(m:As)(fu root:Int)(fr fs gn:Ws)(from_:ByteArray):run P aiy.sum Tryz.f33 aln (cLs th m fu root fr fs gn from_)=
 Tree.need (bn (some [AV.ptr 0 0,.fn 87 [.ptr 4 0,.ptr 5 0]])) (.need (bn (some [ab.own [.ptr 1 0,.s (.int .i64 root),.ints .u64 16 fr,.ints .u64 16 fs,.ints .u64 16 gn] 115,.own [.vec 2,.ag 3,.s (.int .i64 fu)] 105,.vec (.ad [.arr .u8 64] th) 165,.map (.arr .u8 64) m,.own [.s (.str from_)] 9,.own [.vec 6] 59,.vec (.ad [.str,.str] []) 66])) (.need (Ds.bx th m fu) (.need ((0:Int)≤root∧root≤65536) (.ite (lsE th m root from_ !=0) (.ret [.own [.ptr 1 0,.s (.int .i64 root),.ints .u64 16 fr,.ints .u64 16 fs,.ints .u64 16 gn] 115,.own [.vec 2,.ag 3,.s (.int .i64 fu)] 105,.vec (.ad [.arr .u8 64] th) 165,.map (.arr .u8 64) m,.own [.s (.str from_)] 9,.own [.vec 7] 59,.dead,.vec (.ad [.str,.str] (lsT th m root from_)) 66] (.bg [.emp,.s (.int .i64 (lsE th m root from_))])) (.ret [.own [.ptr 1 0,.s (.int .i64 root),.ints .u64 16 fr,.ints .u64 16 fs,.ints .u64 16 gn] 115,.own [.vec 2,.ag 3,.s (.int .i64 fu)] 105,.vec (.ad [.arr .u8 64] th) 165,.map (.arr .u8 64) m,.own [.s (.str from_)] 9,.own [.vec 7] 59,.dead,.vec (.ad [.str,.str] (lsT th m root from_)) 66] (.bg [.vec 7,.s (.aK .i64 0)])))))):=by kernel_rfl
theorem atx(th:Th)(m:As)(fu root:Int)(fr fs gn:Ws):run P arc.sum Tryz.f31 [] (start Tryz.f31 [.ptr 0 0] (hT th m fu root fr fs gn))=
 Tree.need (bn (some [AV.ptr 0 0,.fn 85 [.ptr 4 0]])) (.need (some [ab.own [.ptr 1 0,.s (.int .i64 root),.ints .u64 16 fr,.ints .u64 16 fs,.ints .u64 16 gn] 115,.own [.vec 2,.ag 3,.s (.int .i64 fu)] 105,.vec (.ad [.arr .u8 64] th) 165,.map (.arr .u8 64) m,.own [.ints .u64 16 (List.replicate 16 0)] 37]=some [ab.own [.ptr 1 0,.s (.int .i64 root),.ints .u64 16 fr,.ints .u64 16 fs,.ints .u64 16 gn] 115,.own [.vec 2,.ag 3,.s (.int .i64 fu)] 105,.vec (.ad [.arr .u8 64] th) 165,.map (.arr .u8 64) m,.own [.ints .u64 16 Bx.ae] 37]) (.need (Ds.bx th m fu) (.need ((0:Int)≤root∧root≤65536) (.ite (wA th m root !=0) (.ret [.own [.ptr 1 0,.s (.int .i64 root),.ints .u64 16 fr,.ints .u64 16 fs,.ints .u64 16 gn] 115,.own [.vec 2,.ag 3,.s (.int .i64 fu)] 105,.vec (.ad [.arr .u8 64] th) 165,.map (.arr .u8 64) m,.own [.ints .u64 16 (List.replicate 16 0)] 37,.own [.ints .u64 16 (pgT th m root)] 37] (.bg [.ints .u64 16 (List.replicate 16 0),.s (.int .i64 (wA th m root))])) (.ret [.own [.ptr 1 0,.s (.int .i64 root),.ints .u64 16 fr,.ints .u64 16 fs,.ints .u64 16 gn] 115,.own [.vec 2,.ag 3,.s (.int .i64 fu)] 105,.vec (.ad [.arr .u8 64] th) 165,.map (.arr .u8 64) m,.own [.ints .u64 16 (pgT th m root)] 37,.own [.ints .u64 16 (pgT th m root)] 37] (.bg [.ints .u64 16 (pgT th m root),.s (.aK .i64 0)])))))):=by kernel_rfl
theorem aiz{th:Th}{m:As}{fu root:Int}{fr fs gn:Ws}{from_:ByteArray}{c:List En×Int}(e:c=wkT (rB from_) th m root []):
 alk.ez ((th,m,fu,root,fr,fs,gn),from_)=hT th m fu root fr fs gn++[rU from_,.own [.vec 7] eLE,.dead,.vec (.ad cE c.1) Lf.eE]∧alk.out ((th,m,fu,root,fr,fs,gn),from_)=bE c.2:=by
 subst e;exact⟨rfl,rfl⟩
theorem aiA{th:Th}{m:As}{fu root:Int}{fr fs gn:Ws}{c:Ws×Int}(e:c=wkT u7 th m root Bx.ae):
 alm.ez (th,m,fu,root,fr,fs,gn)=hT th m fu root fr fs gn++[.own [.ints .u64 16 c.1] eSt]∧alm.out (th,m,fu,root,fr,fs,gn)=bE c.2:=by
 subst e;exact⟨rfl,rfl⟩
theorem aiB:fC P Bx.bO 84 alk:=by
 refine au Tryz.func84 (by kernel_rfl) (fun x=>Nat.le_of_ble_eq_true (by kernel_rfl)) ?_;rintro⟨⟨(th:Th),(m:As),(fu:Int),(root:Int),(fr:Ws),(fs:Ws),(gn:Ws)⟩,(from_:ByteArray)⟩ ⟨(hd:Ds.bx th m fu),(hr:0≤root∧root≤65536),_⟩ X hX hz;refine oe 6 (c:=start Tryz.f84 [.ptr 0 0,.fn fL1 [.ptr 4 0,.ptr 5 0]] (hT th m fu root fr fs gn++[rU from_,.own [.vec 7] eLE,.dead,.vec (.ad cE []) Lf.eE])) rfl ?_;refine Ds.cR hz hX (by intro y hy;cases hy) (aH.Ok.cons ((wy 17).sum alf) aH.Ok.nil) Tryz.func84 (aq8 th m fu root fr fs gn from_) ⟨fun h=> ?_,fun h=>⟨rfl,rfl,hd,hr,⟨by omega,by omega⟩,by omega,Bx.kD.1,Nat.le_refl _, ?_⟩⟩
 ·have h:root=0:=by simpa using h
  obtain⟨f1,f2⟩:=aiz (fu:=fu) (fr:=fr) (fs:=fs) (gn:=gn) (c:=([],0)) (show _=wkT (rB from_) th m root []by unfold wkT;rw[if_pos h]);exact bC 7 rfl (Nat.le_refl _) f2 f1
 ·have h:¬root=0:=by simpa using h
  obtain⟨f1,f2⟩:=aiz (fu:=fu) (fr:=fr) (fs:=fs) (gn:=gn) (c:=((eb (rB from_) th m 17 1 Bx.ae [] root).2.1,(eb (rB from_) th m 17 1 Bx.ae [] root).2.2)) (show _=wkT (rB from_) th m root []by unfold wkT;rw[if_neg h]);exact bC 7 rfl (Nat.le_refl _) f2 f1
theorem aiC:fC P Bx.bO 84 alm:=by
 refine au Tryz.func84 (by kernel_rfl) (fun x=>Nat.le_of_ble_eq_true (by kernel_rfl)) ?_;rintro⟨(th:Th),(m:As),(fu:Int),(root:Int),(fr:Ws),(fs:Ws),(gn:Ws)⟩ ⟨(hd:Ds.bx th m fu),(hr:0≤root∧root≤65536),_⟩ X hX hz;refine Ds.cR hz hX (by intro y hy;cases hy) (aH.Ok.cons ((wz 17).sum alj) aH.Ok.nil) Tryz.func84 (aq9 th m fu root fr fs gn) ⟨fun h=> ?_,fun h=>⟨rfl,rfl,hd,hr,⟨by omega,by omega⟩,by omega,Bx.kD.1,Nat.le_refl _, ?_⟩⟩
 ·have h:root=0:=by simpa using h
  obtain⟨f1,f2⟩:=aiA (fu:=fu) (fr:=fr) (fs:=fs) (gn:=gn) (c:=(Bx.ae,0)) (show _=wkT u7 th m root Bx.ae by unfold wkT;rw[if_pos h]);exact bC 5 rfl (Nat.le_refl _) f2 f1
 ·have h:¬root=0:=by simpa using h
  obtain⟨f1,f2⟩:=aiA (fu:=fu) (fr:=fr) (fs:=fs) (gn:=gn) (c:=((eb u7 th m 17 1 Bx.ae Bx.ae root).2.1,(eb u7 th m 17 1 Bx.ae Bx.ae root).2.2)) (show _=wkT u7 th m root Bx.ae by unfold wkT;rw[if_neg h]);exact bC 5 rfl (Nat.le_refl _) f2 f1
theorem alo:fC P Bx.bO 33 sLs:=by
 refine fy Tryz.func33 (by kernel_rfl) (fun x=>Nat.le_of_ble_eq_true (by kernel_rfl)) ?_;rintro⟨⟨(th:Th),(m:As),(fu:Int),(root:Int),(fr:Ws),(fs:Ws),(gn:Ws)⟩,(from_:ByteArray)⟩ ⟨(hd:Ds.bx th m fu),(hr:0≤root∧root≤65536),_⟩ X hX hz
 have hm:∀y∈aln,(hT th m fu root fr fs gn).length≤y.2.m:=fun y hy=>by
  simp only[aln,List.mem_singleton]at hy;subst hy;exact Nat.le_refl _
 have T:aiy.Ok P Bx.bO:=aH.Ok.cons (aiB.sum ara) aH.Ok.nil;refine Ds.cR hz hX hm T Tryz.func33 (atv th m fu root fr fs gn from_) ?_;refine Ds.cR hz hX hm T Tryz.func33 (atw th m fu root fr fs gn from_) ⟨rfl,rfl,hd,hr,fun h=> ?_,fun h=> ?_⟩
 ·have h:lsE th m root from_≠0:=bne_iff_ne.1 h;refine jC (h:=hT th m fu root fr fs gn++[.vec (.ad cE []) Lf.eE]) ⟨[(0,.ad cE [],Lf.eE)],[0,1],4,[]⟩ rfl (Nat.le_refl _) (nE.same _) rfl ?_;show hT th m fu root fr fs gn++[.vec (.ad cE (lsF th m root from_)) Lf.eE]=_;unfold lsF;rw[if_pos h];rfl
 ·have h:¬lsE th m root from_≠0:=fun hh=>Bool.false_ne_true (h.symm.trans (bne_iff_ne.2 hh));refine jC (h:=hT th m fu root fr fs gn++[.vec (.ad cE (lsT th m root from_)) Lf.eE]) ⟨[],[0,1],4,[]⟩ rfl (Nat.le_refl _) (nE.same _) ?_ ?_
  ·show AV.bg [.vec 4,bE (lsE th m root from_)]=_;rw[show lsE th m root from_=0 from Decidable.byContradiction h];rfl
  ·show hT th m fu root fr fs gn++[.vec (.ad cE (lsF th m root from_)) Lf.eE]=_;unfold lsF;rw[if_neg h]
theorem aaM:fC P Bx.bO 31 sPg:=by
 refine au Tryz.func31 (by kernel_rfl) (fun x=>Nat.le_of_ble_eq_true (by kernel_rfl)) ?_;rintro⟨(th:Th),(m:As),(fu:Int),(root:Int),(fr:Ws),(fs:Ws),(gn:Ws)⟩ ⟨(hd:Ds.bx th m fu),(hr:0≤root∧root≤65536),_⟩ X hX hz;refine Ds.cR hz hX (by intro y hy;cases hy) (aH.Ok.cons (aiC.sum arb) aH.Ok.nil) Tryz.func31 (atx th m fu root fr fs gn) ⟨rfl,rfl,hd,hr,fun h=> ?_,fun h=> ?_⟩
 ·have h:wA th m root≠0:=bne_iff_ne.1 h;refine bC (h:=hT th m fu root fr fs gn) 4 rfl (Nat.le_refl _) ?_ rfl;show AV.bg [.ints .u64 16 (cT th m root),bE (wA th m root)]=_;unfold cT;rw[if_pos h];rfl
 ·have h:¬wA th m root≠0:=fun hh=>Bool.false_ne_true (h.symm.trans (bne_iff_ne.2 hh));refine bC (h:=hT th m fu root fr fs gn) 4 rfl (Nat.le_refl _) ?_ rfl;show AV.bg [.ints .u64 16 (cT th m root),bE (wA th m root)]=_;unfold cT;rw[if_neg h,show wA th m root=0 from Decidable.byContradiction h];rfl
end Ts
namespace Ts
open Go Go.Sx Go.Proofs Lf
def wB(th:Th)(free:Ws):Ws:=Bx.bN .and free (Bx.bN .andNot (Bx.aY (Ds.fk th)) (Bx.aY 2))
abbrev XO:Type:=Th×As×Int×Int×Ws
abbrev sOp:Spec XO:=⟨fun(_,_,_,root,free)=>[.ptr 0 0,bE root,.ints .u64 16 free],fun(th,m,fu,_)=>Ds.hD th m fu,fun(th,m,fu,_)=>[Ds.bx th m fu],fun(th,m,fu,root,free)=>Ds.hD th m fu++[rR 0 root (wB th free) Bx.ae Bx.ae],fun _=>.ptr 3 0⟩
def mOp:List AV→RM (XO×List Nat)
 |[d,r,.ints .u64 16 free]=>(Ds.xG [d]).bind fun((th,m,fu),σ)=>match r.cu with
  |some (_,_,root)=>.ret ((th,m,fu,root,free),σ)
  |none=>.fail "no root"
 |_=>.fail "open"
abbrev ard:=bZ sOp mOp
abbrev aaN:=bZ Ds.sPn Ds.xG
abbrev aoQ:=cp [Bx.bB] [Bx.dJ] (fun _=>[]) (fun(n,())=>(Bx.aY n,()))
abbrev aiD:=cp [Bx.dJ,Bx.dJ] [Bx.dJ] (fun _=>[]) (fun(a,b,())=>(Bx.bN .andNot a b,()))
abbrev are:=cp [Bx.dJ,Bx.dJ] [Bx.dJ] (fun _=>[]) (fun(a,b,())=>(Bx.bN .and a b,()))
def arf:aH:=[(65,aaN),(64,aoQ),(66,aiD),(63,are)]
theorem aty(th:Th)(m:As)(fu root:Int)(free:Ws):run P arf.sum Tryz.f13 [] (start Tryz.f13 [.ptr 0 0,bE root,.ints .u64 16 free] (Ds.hD th m fu))=
 Tree.need (bn (some [AV.ptr 0 0])) (.need (bn (some [ab.own [.vec 1,.ag 2,.s (.int .i64 fu)] 105,.vec (.ad [.arr .u8 64] th) 165,.map (.arr .u8 64) m])) (.need (Ds.bx th m fu) (.ret [.own [.vec 1,.ag 2,.s (.int .i64 fu)] 105,.vec (.ad [.arr .u8 64] th) 165,.map (.arr .u8 64) m,.own [.ints .u64 16 free] 37,.own [.ptr 0 0,.s (.int .i64 root),.ints .u64 16 (Bx.bN BinOp.and free (Bx.bN BinOp.andNot (Bx.aY (Ds.fk th)) (Bx.aY 2))),.ints .u64 16 (List.replicate 16 0),.ints .u64 16 (List.replicate 16 0)] 115] (.ptr 4 0)))):=by kernel_rfl
abbrev sRt:Spec XT:=⟨fun _=>[.ptr 0 0],fun(th,m,fu,root,fr,fs,gn)=>hT th m fu root fr fs gn,fun _=>[],fun(th,m,fu,root,fr,fs,gn)=>hT th m fu root fr fs gn,fun(_,_,_,root,_)=>bE root⟩
theorem atz(th:Th)(m:As)(fu root:Int)(fr fs gn:Ws):run P (aH.sum []) Tryz.f23 [] (start Tryz.f23 [.ptr 0 0] (hT th m fu root fr fs gn))=
 Tree.ret [.own [.ptr 1 0,.s (.int .i64 root),.ints .u64 16 fr,.ints .u64 16 fs,.ints .u64 16 gn] 115,.own [.vec 2,.ag 3,.s (.int .i64 fu)] 105,.vec (.ad [.arr .u8 64] th) 165,.map (.arr .u8 64) m] (.s (.int .i64 root)):=by kernel_rfl
def mGt:List AV→RM (XD×List Nat)
 |[t,.s (.str key)]=>(mT [t]).bind fun(X,σ)=>.ret ((X,key),σ)
 |_=>.fail "get"
theorem alp{Z:aW}:fC P Z 13 sOp:=by
 refine au Tryz.func13 (by kernel_rfl) (fun x=>Nat.le_of_ble_eq_true (by kernel_rfl)) ?_;rintro⟨(th:Th),(m:As),(fu:Int),(root:Int),(free:Ws)⟩ ⟨(hd:Ds.bx th m fu),_⟩ X hX hz;exact Ds.cR hz hX (by intro y hy;cases hy) (aH.Ok.cons (Ds.zK.sum Ds.xG) (aH.Ok.cons Bx.py.sum (aH.Ok.cons Bx.rP.sum (aH.Ok.cons Bx.adA.sum aH.Ok.nil)))) Tryz.func13 (aty th m fu root free) ⟨rfl,rfl,hd,bC 3 rfl (Nat.le_refl _) rfl rfl⟩
theorem alq{Z:aW}:fC P Z 23 sRt:=by
 refine au Tryz.func23 (by kernel_rfl) (fun x=>Nat.le_of_ble_eq_true (by kernel_rfl)) ?_;rintro⟨(th:Th),(m:As),(fu:Int),(root:Int),(fr:Ws),(fs:Ws),(gn:Ws)⟩ _ X hX hz;exact Ds.cR hz hX (by intro y hy;cases hy) aH.Ok.nil Tryz.func23 (atz th m fu root fr fs gn) (bC 4 rfl (Nat.le_refl _) rfl rfl)
end Ts
namespace Ts
open Go Go.Sx Go.Proofs Lf
abbrev aoR:TypeId:=155
abbrev pL(i:Nat)(wh:Int)(on:Bool)(ep pg:Int)(was:Ws)(t:AV):ab:=.own [.ptr i 0,bE wh,.s (.bool on),bE ep,bE pg,.ints .u64 16 was,t] aoR
abbrev hS0(th:Th)(m:As)(fu wh:Int)(on:Bool)(ep pg:Int)(was:Ws):List ab:=[pL 1 wh on ep pg was (.s .bV),Ds.uB 2 3 fu,.vec (.ad Ds.cS th) Ds.eS,.map Ds.kS m]
abbrev hSt(th:Th)(m:As)(fu wh:Int)(on:Bool)(ep pg:Int)(was:Ws)(root:Int)(fr fs gn:Ws):List ab:=[pL 1 wh on ep pg was (.ptr 2 0),Ds.uB 3 4 fu,rR 1 root fr fs gn,.vec (.ad Ds.cS th) Ds.eS,.map Ds.kS m]
abbrev amG:=bZ sPg mT
abbrev arh:=cp [Bx.dJ] [bB] (fun(ws,())=>[Bx.okW ws]) (fun(ws,())=>(Bx.oc ws,()))
def aiE:aH:=[(65,aaN),(64,aoQ),(66,aiD),(63,are),(13,ard),(31,amG),(93,arh)]
theorem atA(th:Th)(m:As)(fu wh:Int)(on:Bool)(ep pg:Int)(was:Ws):run P aiE.sum Tryz.f89 [] (start Tryz.f89 [.ptr 0 0] (hS0 th m fu wh on ep pg was))=
 Tree.need (bn (some [AV.ptr 0 0]))
 (.need (bn (some [ab.own [.vec 1,.ag 2,.s (.int .i64 fu)] 105,.vec (.ad [.arr .u8 64] th) 165,.map (.arr .u8 64) m]))
   (.need (Ds.bx th m fu)
     (.need (bn (some [AV.ptr 0 0,.s (.int .i64 pg),.ints .u64 16 (List.replicate 16 0)]))
       (.need (bn (some [ab.own [.vec 1,.ag 2,.s (.int .i64 fu)] 105,.vec (.ad [.arr .u8 64] th) 165,.map (.arr .u8 64) m]))
         (.need (Ds.bx th m fu)
           (.need (bn (some [AV.ptr 0 0]))
             (.need (bn (some [ab.own [.ptr 1 0,.s (.int .i64 pg),.ints .u64 16 (wB th (List.replicate 16 0)),.ints .u64 16 Bx.ae,.ints .u64 16 Bx.ae] 115,.own [.vec 2,.ag 3,.s (.int .i64 fu)] 105,.vec (.ad [.arr .u8 64] th) 165,.map (.arr .u8 64) m]))
               (.need (Ds.bx th m fu)
                 (.need ((0:Int)≤pg∧pg≤65536)
                   (.ite (wA th m pg !=0) (.ret [.own [.ptr 1 0,.s (.int .i64 wh),.s (.bool on),.s (.int .i64 ep),.s (.int .i64 pg),.ints .u64 16 was,.s .bV] 155,.own [.vec 2,.ag 3,.s (.int .i64 fu)] 105,.vec (.ad [.arr .u8 64] th) 165,.map (.arr .u8 64) m,.own [.ints .u64 16 (Bx.aY (Ds.fk th))] 37,.own [.ptr 1 0,.s (.int .i64 pg),.ints .u64 16 (wB th (List.replicate 16 0)),.ints .u64 16 Bx.ae,.ints .u64 16 Bx.ae] 115,.own [.ints .u64 16 (cT th m pg)] 37] (.s (.aC false)))
                     (.need (Bx.okW (Bx.bN BinOp.and (cT th m pg) (Bx.aY 2))) (.ite (decide (Bx.oc (Bx.bN BinOp.and (cT th m pg) (Bx.aY 2))>0)) (.ret [.own [.ptr 1 0,.s (.int .i64 wh),.s (.bool on),.s (.int .i64 ep),.s (.int .i64 pg),.ints .u64 16 was,.s .bV] 155,.own [.vec 2,.ag 3,.s (.int .i64 fu)] 105,.vec (.ad [.arr .u8 64] th) 165,.map (.arr .u8 64) m,.own [.ints .u64 16 (Bx.aY (Ds.fk th))] 37,.own [.ptr 1 0,.s (.int .i64 pg),.ints .u64 16 (wB th (List.replicate 16 0)),.ints .u64 16 Bx.ae,.ints .u64 16 Bx.ae] 115,.own [.ints .u64 16 (cT th m pg)] 37] (.s (.aC false))) (.need (Bx.okW (Bx.bN BinOp.andNot (cT th m pg) (Bx.aY (Ds.fk th)))) (.ite (decide (Bx.oc (Bx.bN BinOp.andNot (cT th m pg) (Bx.aY (Ds.fk th)))>0)) (.ret [.own [.ptr 1 0,.s (.int .i64 wh),.s (.bool on),.s (.int .i64 ep),.s (.int .i64 pg),.ints .u64 16 was,.s .bV] 155,.own [.vec 2,.ag 3,.s (.int .i64 fu)] 105,.vec (.ad [.arr .u8 64] th) 165,.map (.arr .u8 64) m,.own [.ints .u64 16 (Bx.aY (Ds.fk th))] 37,.own [.ptr 1 0,.s (.int .i64 pg),.ints .u64 16 (wB th (List.replicate 16 0)),.ints .u64 16 Bx.ae,.ints .u64 16 Bx.ae] 115,.own [.ints .u64 16 (cT th m pg)] 37] (.s (.aC false))) (.need (bn (some [AV.ptr 0 0,.s (.int .i64 pg),.ints .u64 16 (Bx.bN BinOp.andNot (Bx.bN BinOp.andNot (Bx.aY (Ds.fk th)) (Bx.aY 2)) (cT th m pg))])) (.need (bn (some [ab.own [.vec 1,.ag 2,.s (.int .i64 fu)] 105,.vec (.ad [.arr .u8 64] th) 165,.map (.arr .u8 64) m])) (.need (Ds.bx th m fu) (.ret [.own [.ptr 1 0,.s (.int .i64 wh),.s (.bool on),.s (.int .i64 ep),.s (.int .i64 pg),.ints .u64 16 (cT th m pg),.ptr 7 0] 155,.own [.vec 2,.ag 3,.s (.int .i64 fu)] 105,.vec (.ad [.arr .u8 64] th) 165,.map (.arr .u8 64) m,.own [.ints .u64 16 (Bx.aY (Ds.fk th))] 37,.own [.ptr 1 0,.s (.int .i64 pg),.ints .u64 16 (wB th (List.replicate 16 0)),.ints .u64 16 Bx.ae,.ints .u64 16 Bx.ae] 115,.own [.ints .u64 16 (cT th m pg)] 37,.own [.ptr 1 0,.s (.int .i64 pg),.ints .u64 16 (wB th (Bx.bN BinOp.andNot (Bx.bN BinOp.andNot (Bx.aY (Ds.fk th)) (Bx.aY 2)) (cT th m pg))),.ints .u64 16 Bx.ae,.ints .u64 16 Bx.ae] 115] (.s (.aC true)))))))))))))))))))):=by kernel_rfl
theorem atB(th:Th)(m:As)(fu wh:Int)(on:Bool)(ep pg:Int)(was:Ws)(root:Int)(fr fs gn:Ws):run P aiE.sum Tryz.f89 [] (start Tryz.f89 [.ptr 0 0] (hSt th m fu wh on ep pg was root fr fs gn))=
 Tree.need (bn (some [AV.ptr 0 0]))
 (.need (bn (some [ab.own [.vec 1,.ag 2,.s (.int .i64 fu)] 105,.vec (.ad [.arr .u8 64] th) 165,.map (.arr .u8 64) m]))
   (.need (Ds.bx th m fu)
     (.need (bn (some [AV.ptr 0 0,.s (.int .i64 pg),.ints .u64 16 (List.replicate 16 0)]))
       (.need (bn (some [ab.own [.vec 1,.ag 2,.s (.int .i64 fu)] 105,.vec (.ad [.arr .u8 64] th) 165,.map (.arr .u8 64) m]))
         (.need (Ds.bx th m fu)
           (.need (bn (some [AV.ptr 0 0]))
             (.need (bn (some [ab.own [.ptr 1 0,.s (.int .i64 pg),.ints .u64 16 (wB th (List.replicate 16 0)),.ints .u64 16 Bx.ae,.ints .u64 16 Bx.ae] 115,.own [.vec 2,.ag 3,.s (.int .i64 fu)] 105,.vec (.ad [.arr .u8 64] th) 165,.map (.arr .u8 64) m]))
               (.need (Ds.bx th m fu)
                 (.need ((0:Int)≤pg∧pg≤65536)
                   (.ite (wA th m pg !=0) (.ret [.own [.ptr 1 0,.s (.int .i64 wh),.s (.bool on),.s (.int .i64 ep),.s (.int .i64 pg),.ints .u64 16 was,.ptr 2 0] 155,.own [.vec 3,.ag 4,.s (.int .i64 fu)] 105,.own [.ptr 1 0,.s (.int .i64 root),.ints .u64 16 fr,.ints .u64 16 fs,.ints .u64 16 gn] 115,.vec (.ad [.arr .u8 64] th) 165,.map (.arr .u8 64) m,.own [.ints .u64 16 (Bx.aY (Ds.fk th))] 37,.own [.ptr 1 0,.s (.int .i64 pg),.ints .u64 16 (wB th (List.replicate 16 0)),.ints .u64 16 Bx.ae,.ints .u64 16 Bx.ae] 115,.own [.ints .u64 16 (cT th m pg)] 37] (.s (.aC false)))
                     (.need (Bx.okW (Bx.bN BinOp.and (cT th m pg) (Bx.aY 2)))
                       (.ite (decide (Bx.oc (Bx.bN BinOp.and (cT th m pg) (Bx.aY 2))>0)) (.ret [.own [.ptr 1 0,.s (.int .i64 wh),.s (.bool on),.s (.int .i64 ep),.s (.int .i64 pg),.ints .u64 16 was,.ptr 2 0] 155,.own [.vec 3,.ag 4,.s (.int .i64 fu)] 105,.own [.ptr 1 0,.s (.int .i64 root),.ints .u64 16 fr,.ints .u64 16 fs,.ints .u64 16 gn] 115,.vec (.ad [.arr .u8 64] th) 165,.map (.arr .u8 64) m,.own [.ints .u64 16 (Bx.aY (Ds.fk th))] 37,.own [.ptr 1 0,.s (.int .i64 pg),.ints .u64 16 (wB th (List.replicate 16 0)),.ints .u64 16 Bx.ae,.ints .u64 16 Bx.ae] 115,.own [.ints .u64 16 (cT th m pg)] 37] (.s (.aC false)))
                         (.need (Bx.okW (Bx.bN BinOp.andNot (cT th m pg) (Bx.aY (Ds.fk th)))) (.ite (decide (Bx.oc (Bx.bN BinOp.andNot (cT th m pg) (Bx.aY (Ds.fk th)))>0)) (.ret [.own [.ptr 1 0,.s (.int .i64 wh),.s (.bool on),.s (.int .i64 ep),.s (.int .i64 pg),.ints .u64 16 was,.ptr 2 0] 155,.own [.vec 3,.ag 4,.s (.int .i64 fu)] 105,.own [.ptr 1 0,.s (.int .i64 root),.ints .u64 16 fr,.ints .u64 16 fs,.ints .u64 16 gn] 115,.vec (.ad [.arr .u8 64] th) 165,.map (.arr .u8 64) m,.own [.ints .u64 16 (Bx.aY (Ds.fk th))] 37,.own [.ptr 1 0,.s (.int .i64 pg),.ints .u64 16 (wB th (List.replicate 16 0)),.ints .u64 16 Bx.ae,.ints .u64 16 Bx.ae] 115,.own [.ints .u64 16 (cT th m pg)] 37] (.s (.aC false))) (.need (bn (some [AV.ptr 0 0,.s (.int .i64 pg),.ints .u64 16 (Bx.bN BinOp.andNot (Bx.bN BinOp.andNot (Bx.aY (Ds.fk th)) (Bx.aY 2)) (cT th m pg))])) (.need (bn (some [ab.own [.vec 1,.ag 2,.s (.int .i64 fu)] 105,.vec (.ad [.arr .u8 64] th) 165,.map (.arr .u8 64) m])) (.need (Ds.bx th m fu) (.ret [.own [.ptr 1 0,.s (.int .i64 wh),.s (.bool on),.s (.int .i64 ep),.s (.int .i64 pg),.ints .u64 16 (cT th m pg),.ptr 8 0] 155,.own [.vec 3,.ag 4,.s (.int .i64 fu)] 105,.own [.ptr 1 0,.s (.int .i64 root),.ints .u64 16 fr,.ints .u64 16 fs,.ints .u64 16 gn] 115,.vec (.ad [.arr .u8 64] th) 165,.map (.arr .u8 64) m,.own [.ints .u64 16 (Bx.aY (Ds.fk th))] 37,.own [.ptr 1 0,.s (.int .i64 pg),.ints .u64 16 (wB th (List.replicate 16 0)),.ints .u64 16 Bx.ae,.ints .u64 16 Bx.ae] 115,.own [.ints .u64 16 (cT th m pg)] 37,.own [.ptr 1 0,.s (.int .i64 pg),.ints .u64 16 (wB th (Bx.bN BinOp.andNot (Bx.bN BinOp.andNot (Bx.aY (Ds.fk th)) (Bx.aY 2)) (cT th m pg))),.ints .u64 16 Bx.ae,.ints .u64 16 Bx.ae] 115] (.s (.aC true)))))))))))))))))))):=by kernel_rfl
end Ts
namespace Ts
open Go Go.Sx Go.Proofs Lf
def mGs:List AV→RM ((Th×As×Int×Int×Bool×Int×Int)×List Nat)
 |[.ptr id 0,n,.agg [on,ep,pg]]=>(Ds.xG [.ptr id 0]).bind fun((th,m,fu),σ)=>match n.cu,on.eW,ep.cu,pg.cu with
  |some (_,_,n),some (_,on),some (_,_,ep),some (_,_,pg)=>.ret ((th,m,fu,n,on,ep,pg),σ)
  |_,_,_,_=>.fail "no number"
 |_=>.fail "no disk"
abbrev amH:=bZ Ds.sGs mGs
abbrev amI:=bZ Ds.sFl Ds.xG
abbrev ari:=bZ Ds.sGo Ds.mRd
def aiF:aH:=[(65,aaN),(90,amH),(49,amI)]
def alr:List (Nat×Norm):=[(eO+6,⟨[],[],3,[]⟩),(cN+8003,⟨[],[0,15,16,17,22,23,24],3,[]⟩)]
theorem arj(th:Th)(m:As)(fu:Int):run P aiF.sum Tryz.f38 alr (start Tryz.f38 [.ptr 0 0] (Ds.hD th m fu))=
 Tree.need (bn (some [AV.ptr 0 0])) (.need (bn (some [ab.own [.vec 1,.ag 2,.s (.int .i64 fu)] 105,.vec (.ad [.arr .u8 64] th) 165,.map (.arr .u8 64) m])) (.need (Ds.bx th m fu) (.ite (decide (Ds.fk th<3)) (.ret [.own [.vec 1,.ag 2,.s (.int .i64 fu)] 105,.vec (.ad [.arr .u8 64] th) 165,.map (.arr .u8 64) m] (.s (.aK .i64 1))) (.ite true (.need ((0:Int)≤0) (.need ((0:Int)<(↑(2:Nat):Int)) (.at (.mk (sl 32 [(0,.ptr 0 0),(15,.vec 3),(16,.s (.int .i64 2)),(17,.s (.int .i64 0)),(22,.ptr 0 0),(23,.s (.int .i64 0)),(24,.agg [.s (.bool true),.s (.int .i64 1),.s (.int .i64 0)])]) [.own [.vec 1,.ag 2,.s (.int .i64 fu)] 105,.vec (.ad [.arr .u8 64] th) 165,.map (.arr .u8 64) m,.vec (.ad [.bool,.int .i64,.int .i64] [(true,(1:Int),(0:Int),()),(false,(0:Int),(0:Int),())]) 153] (eh Tryz.f38 8 3) (.mk none false 0 [] 8))))) (.need (bn (some [AV.ptr 0 0])) (.need (bn (some [ab.own [.vec 1,.ag 2,.s (.int .i64 fu)] 105,.vec (.ad [.arr .u8 64] th) 165,.map (.arr .u8 64) m])) (.need (Ds.bx th m fu) (.ret [.own [.vec 1,.ag 2,.s (.int .i64 (Ds.dL fu))] 105,.vec (.ad [.arr .u8 64] (Ds.lO th m fu)) 165,.map (.arr .u8 64) (Ds.nc m fu),.vec (.ad [.bool,.int .i64,.int .i64] [(true,(1:Int),(0:Int),()),(false,(0:Int),(0:Int),())]) 153] (.s (.int .i64 (Ds.tv fu))))))))))):=by kernel_rfl
abbrev cMk:List CK:=[.bool,.int .i64,.int .i64]
abbrev mkO(x:CL cMk):Bool:=x.1
abbrev mkE(x:CL cMk):Int:=x.2.1
abbrev mkP(x:CL cMk):Int:=x.2.2.1
noncomputable def cFo(th:Th)(m:As)(fu i k:Int)(on:Bool)(ep pg:Int)(l:List (CL cMk)):bw:=⟨sl 32 [(0,.ptr 0 0),(15,.vec 3),(16,bE 2),(17,bE i),(22,.ptr 0 0),(23,bE k),(24,.agg [.s (.bool on),bE ep,bE pg])],Ds.hD th m fu++[.vec (.ad cMk l) 153],eh Tryz.f38 8 3,⟨none,false,0,[],8⟩⟩
theorem ark(th:Th)(m:As)(fu i k:Int)(on:Bool)(ep pg:Int)(l:List (CL cMk)):run P aiF.sum Tryz.f38 alr (cFo th m fu i k on ep pg l)=
 Tree.need (bn (some [AV.ptr 0 0,.s (.int .i64 k),.agg [.s (.bool on),.s (.int .i64 ep),.s (.int .i64 pg)]])) (.need (bn (some [ab.own [.vec 1,.ag 2,.s (.int .i64 fu)] 105,.vec (.ad [.arr .u8 64] th) 165,.map (.arr .u8 64) m])) (.need (Ds.bx th m fu) (.need (ay k) (.ite (Ds.zJ th fu k on ep pg !=0) (.ret [.own [.vec 1,.ag 2,.s (.int .i64 (Ds.ra th fu k on ep pg))] 105,.vec (.ad [.arr .u8 64] th) 165,.map (.arr .u8 64) (Ds.ov th m fu k on ep pg),.vec (.ad cMk l) 153] (.s (.int .i64 (Ds.zJ th fu k on ep pg)))) (.need (ay (i+1)) (.ite (decide (i+1<2)) (.need ((0:Int)≤i+1) (.need (i+1<(↑l.length:Int)) (.at (.mk (sl 32 [(0,.ptr 0 0),(15,.vec 3),(16,.s (.int .i64 2)),(17,.s (.int .i64 (i+1))),(22,.ptr 0 0),(23,.s (.int .i64 (i+1))),(24,.agg [.s (.bool (mkO (el l (i+1)))),.s (.int .i64 (mkE (el l (i+1)))),.s (.int .i64 (mkP (el l (i+1))))])]) [.own [.vec 1,.ag 2,.s (.int .i64 (Ds.ra th fu k on ep pg))] 105,.vec (.ad [.arr .u8 64] th) 165,.map (.arr .u8 64) (Ds.ov th m fu k on ep pg),.vec (.ad cMk l) 153] (eh Tryz.f38 8 3) (.mk none false 0 [] 8))))) (.need (bn (some [AV.ptr 0 0])) (.need (bn (some [ab.own [.vec 1,.ag 2,.s (.int .i64 (Ds.ra th fu k on ep pg))] 105,.vec (.ad [.arr .u8 64] th) 165,.map (.arr .u8 64) (Ds.ov th m fu k on ep pg)])) (.need (Ds.bx th (Ds.ov th m fu k on ep pg) (Ds.ra th fu k on ep pg)) (.ret [.own [.vec 1,.ag 2,.s (.int .i64 (Ds.dL (Ds.ra th fu k on ep pg)))] 105,.vec (.ad [.arr .u8 64] (Ds.lO th (Ds.ov th m fu k on ep pg) (Ds.ra th fu k on ep pg))) 165,.map (.arr .u8 64) (Ds.nc (Ds.ov th m fu k on ep pg) (Ds.ra th fu k on ep pg)),.vec (.ad cMk l) 153] (.s (.int .i64 (Ds.tv (Ds.ra th fu k on ep pg)))))))))))))):=by kernel_rfl
end Ts
namespace Ts
open Go Go.Sx Go.Proofs Lf
end Ts
namespace Ts
open Go Go.Sx Go.Proofs Lf
structure For (th:Th) (m:As) (h:Nat) (F:List (Kd h)):Prop where
 bare:amo F=F
 rep:∀k∈F,rep th m h k.2
 ok:∀k∈F,okT h k.2
 sep:aqR h F
 key:∀k∈F,k.1.size≤24
 pg:∀k∈F,2≤pg h k.2∧pg h k.2<1024
theorem For.same{th:Th}{s t:S5}{N V:List Int}(e:Eff th s t N V){h:Nat}{F:List (Kd h)}(f:For th s.m h F)(hp:∀p∈ath h F,¬In s.fr p):For th t.m h F:=
 ⟨f.bare,fun k hk=>e.rep h (f.rep k hk) fun p hpp=>hp p (List.mem_flatMap.2 ⟨k,hk,hpp⟩),f.ok,f.sep,f.key,f.pg⟩
end Ts
namespace Ts
open Go Go.Sx Go.Proofs Lf
end Ts
namespace Ts
open Go Go.Sx Go.Proofs Lf
def cS(th:Th)(key:ByteArray)(op:Option ByteArray)(f:Nat)(s:S5)(n deep:Int):S5:=
 ⟨uf th key op f s.m s.fu s.fr s.fs s.gn n deep,ug th key op f s.m s.fu s.fr s.fs s.gn n deep,uh th key op f s.m s.fu s.fr s.fs s.gn n deep,uZ th key op f s.m s.fu s.fr s.fs s.gn n deep,yb th key op f s.m s.fu s.fr s.fs s.gn n deep⟩
end Ts
namespace Ts
open Go Go.Sx Go.Proofs Lf
end Ts
namespace Ts
open Go Go.Sx Go.Proofs Lf
end Ts
namespace Ts
open Go Go.Sx Go.Proofs Lf
def aZ(th:Th)(m:As)(root:Int)(h:Nat)(E:List En)(ps:List Int)(po:Nat):Prop:=
 (root=0∧h=0∧E=[]∧ps=[]∧po=0)∨∃t:TN h,root=pg h t∧2≤root∧root<1024∧rep th m h t∧okT h t∧E=aaq h t∧ps=pgs h t∧po=pot h t
theorem For.okB{th:Th}{m:As}{h:Nat}{F:List (Kd h)}(f:For th m h F):np (F.map (brK h))=true:=by
 rw[ah4];refine⟨fun b hb=> ?_, ?_⟩
 ·obtain⟨x,hx,rfl⟩:=List.mem_map.1 hb;exact⟨f.key x hx,f.pg x hx⟩
 ·rw[List.pairwise_map];refine List.Pairwise.imp_of_mem (fun{a b} ha hb hab=> ?_) f.sep.1;obtain⟨e,he⟩:=List.exists_mem_of_ne_nil _ (adH h (f.ok a ha));have a1:=hab e he;have a2:=f.sep.2 a ha e he;show slt a.1 b.1=true;rcases vW a.1 e.1 with h1|h1|h1
  ·exact gk h1 a1
  ·rw[h1];exact a1
  ·rw[a2]at h1;cases h1
end Ts
namespace Ts
open Go Go.Sx Go.Proofs Lf
structure Inv (F0:Int→Prop) (fr fs:Ws) (ps:List Int):Prop where
 nd:ps.Nodup
 cov:∀p,F0 p↔In fr p∨In fs p
 dis:∀p,In fr p→¬In fs p
 sub:∀p,In fs p→p∈ps
 top:∀p∈ps,F0 p→In fs p
structure TI (th:Th) (F0:Int→Prop) (m:As) (fu root:Int) (fr fs gn:Ws) (h:Nat) (E:List En) (ps:List Int) (po:Nat):Prop where
 ok:okS th ⟨m,fu,fr,fs,gn⟩
 gz:gn=Bx.ae
 f0:∀p,F0 p→2≤p∧Ds.pOk th p=true
 holds:aZ th m root h E ps po
 inv:Inv F0 fr fs ps
theorem TI.free{th:Th}{F0:Int→Prop}{m:As}{fu root:Int}{fr fs gn:Ws}{h:Nat}{E:List En}{ps:List Int}{po:Nat}(T:TI th F0 m fu root fr fs gn h E ps po):∀p∈ps,¬In fr p:=fun p hp hf=>T.inv.dis p hf (T.inv.top p hp ((T.inv.cov p).2 (.inl hf)))
end Ts
namespace Ts
open Go Go.Sx Go.Proofs Lf
end Ts
namespace Ts
open Go Go.Sx Go.Proofs Lf
theorem wC{α:Type}[DecidableEq α]:∀{l m:List α},l.Nodup→(∀x∈l,x∈m)→l.length≤m.length
 |[],m,_,_=>Nat.zero_le _
 |a::l,m,hn,hs=>by
  obtain⟨h1,h2⟩:=List.nodup_cons.1 hn;have ha:=hs a List.mem_cons_self;have:=wC (l:=l) (m:=m.erase a) h2 fun x hx=>(List.mem_erase_of_ne (fun e=>h1 (by rw[←e];exact hx))).2 (hs x (List.mem_cons_of_mem _ hx));rw[List.length_erase_of_mem ha]at this;have:=List.length_pos_of_mem ha;rw[List.length_cons];omega
theorem aiG{ws:Ws}{k:Nat}:k∈Bx.ace ws↔k<1024∧Bx.bit ws k=true:=by
 unfold Bx.ace Bx.fr;rw[List.mem_filter,List.mem_range]
theorem acp(ws:Ws):(Bx.ace ws).Nodup:=List.Pairwise.filter _ List.nodup_range
theorem adU{ws:Ws}(hw:Bx.okW ws){N:List Int}(h:∀p,In ws p→p∈N):jw ws≤N.length:=by
 unfold jw;rw[←List.length_map (f:=fun(k:Nat)=>(k:Int))];refine wC ?_ fun x hx=> ?_
 ·unfold List.Nodup;rw[List.pairwise_map];exact(acp ws).imp fun h e=>h (by omega)
 ·obtain⟨k,hk,rfl⟩:=List.mem_map.1 hx;obtain⟨a,b⟩:=aiG.1 hk;exact h _ ((gY hw).2 ⟨⟨by omega,by omega⟩,by rw[Int.toNat_natCast];exact b⟩)
theorem afy{a b c:Ws}(ha:Bx.okW a)(hb:Bx.okW b)(hc:Bx.okW c)(h:∀p,In c p↔In a p∨In b p)(hd:∀p,In a p→¬In b p):jw c=jw a+jw b:=by
 have bits:∀k,k<1024→Bx.bit c k=(Bx.bit a k||Bx.bit b k)∧¬(Bx.bit a k=true∧Bx.bit b k=true):=fun k hk=>by
  have hr:(0:Int)≤(k:Int)∧(k:Int)<1024:=⟨by omega,by omega⟩
  have e:∀{ws:Ws},Bx.okW ws→(In ws (k:Int)↔Bx.bit ws k=true):=fun hw=>by
   rw[gY hw,Int.toNat_natCast];exact⟨fun x=>x.2,fun x=>⟨hr,x⟩⟩
  have h1:=h (k:Int);have h2:=hd (k:Int);rw[e ha,e hb]at h1;rw[e hc]at h1;rw[e ha,e hb]at h2;refine⟨?_,fun x=>h2 x.1 x.2⟩;cases e1:Bx.bit a k<;>cases e2:Bx.bit b k<;>cases e3:Bx.bit c k<;>simp[e1,e2,e3]at h1 ⊢
 have key:∀m,m≤1024→(Bx.fr (Bx.bit c) m).length=(Bx.fr (Bx.bit a) m).length+(Bx.fr (Bx.bit b) m).length:=by
  intro m
  induction m with
  |zero=>intro _;rfl
  |succ m ih=>
   intro hm;obtain⟨b1,b2⟩:=bits m (by omega);have:=ih (by omega);rw[Bx.pB,Bx.pB,Bx.pB,List.length_append,List.length_append,List.length_append,b1];cases e1:Bx.bit a m<;>cases e2:Bx.bit b m<;>simp[e1,e2]at b2 ⊢ <;>omega
 exact key 1024 (Nat.le_refl _)
theorem als{ws:Ws}(hw:Bx.okW ws):Bx.oc ws=(jw ws:Int):=Bx.akq hw.1
theorem TI.cnt{th:Th}{F0:Int→Prop}{m:As}{fu root:Int}{fr fs gn:Ws}{h:Nat}{E:List En}{ps:List Int}{po:Nat}(T:TI th F0 m fu root fr fs gn h E ps po){f0:Ws}(hw:Bx.okW f0)(hf:∀p,In f0 p↔F0 p):jw f0=jw fr+jw fs∧jw fs≤ps.length:=
 ⟨afy T.ok.fr T.ok.fs hw (fun p=>by rw[hf,T.inv.cov]) T.inv.dis,adU T.ok.fs T.inv.sub⟩
end Ts
namespace Ts
open Go Go.Sx Go.Proofs Lf
theorem aaO{th:Th}{m m':As}:∀(h:Nat) {t:TN h},rep th m h t→(∀p∈pgs h t,Ds.n9 th m' p=Ds.n9 th m p∧Ds.j6 th m' p=Ds.j6 th m p)→rep th m' h t
 |0,t,hr,hp=>Rd.same hr (hp _ (yd 0 t))
 |h+1,t,hr,hp=>⟨Rd.same hr.1 (hp _ (yd (h+1) t)),fun k hk=>aaO h (hr.2 k hk) fun p hpp=>hp p (List.mem_cons_of_mem _ (List.mem_flatMap.2 ⟨k,hk,hpp⟩))⟩
theorem aZ.same{th:Th}{m m':As}{root:Int}{h:Nat}{E:List En}{ps:List Int}{po:Nat}(H:aZ th m root h E ps po)(hp:∀p∈ps,Ds.n9 th m' p=Ds.n9 th m p∧Ds.j6 th m' p=Ds.j6 th m p):aZ th m' root h E ps po:=by
 rcases H with H|⟨t,h1,h2,h22,h3,h4,h5,h6,h7⟩
 ·exact .inl H
 ·subst h6;exact .inr ⟨t,h1,h2,h22,aaO h h3 hp,h4,h5,rfl,h7⟩
theorem TI.dO{th:Th}{F0:Int→Prop}{m m':As}{fu iB root:Int}{fr fs gn:Ws}{h:Nat}{E:List En}{ps:List Int}{po:Nat}(T:TI th F0 m fu root fr fs gn h E ps po)(hd:Ds.bx th m' iB)(hr:∀p,¬In fr p→Ds.n9 th m' p=Ds.n9 th m p∧Ds.j6 th m' p=Ds.j6 th m p):
 TI th F0 m' iB root fr fs gn h E ps po:=⟨⟨hd,T.ok.fr,T.ok.fs,T.ok.gn,T.ok.pg⟩,T.gz,T.f0,T.holds.same fun p hp=>hr p (T.free p hp),T.inv⟩
theorem aoS{th:Th}{free:Ws}(hw:Bx.okW free):Bx.okW (wB th free):=(Bx.lz (.inr (.inl rfl)) hw (Bx.lz (.inr (.inr rfl)) (Bx.cq _).1 (Bx.cq _).1).1).1
theorem aoT{th:Th}{free:Ws}(hw:Bx.okW free){p:Int}:In (wB th free) p↔In free p∧2≤p∧p<Ds.fk th:=by
 unfold wB;rw[ahX hw (Bx.lz (.inr (.inr rfl)) (Bx.cq _).1 (Bx.cq _).1).1,rT (Bx.cq _).1 (Bx.cq _).1,kF,kF];constructor
 ·rintro⟨a,⟨b,c⟩,d⟩;exact⟨a,by omega,c⟩
 ·rintro⟨a,b,c⟩;have:=pF hw a;exact⟨a,⟨by omega,c⟩,by omega⟩
theorem TI.start{th:Th}{m:As}{fu:Int}{free:Ws}(hd:Ds.bx th m fu)(hw:Bx.okW free):TI th (In (wB th free)) m fu 0 (wB th free) Bx.ae Bx.ae 0 [] [] 0:=by
 have f0:∀p,In (wB th free) p→2≤p∧Ds.pOk th p=true:=fun p hp=>by
  obtain⟨_,a,b⟩:=(aoT hw).1 hp;exact⟨a,Ds.fQ.2 ⟨by omega,b⟩⟩
 exact⟨⟨hd,aoS hw,Bx.kD.1,Bx.kD.1,f0⟩,rfl,f0,.inl ⟨rfl,rfl,rfl,rfl,rfl⟩,⟨List.nodup_nil,fun p=>⟨.inl,fun x=>x.elim id (fun y=>absurd y nh)⟩,fun p _=>nh,fun p hp=>absurd hp nh,fun p hp=>by cases hp⟩⟩
end Ts
namespace Ts
open Go Go.Sx Go.Proofs Lf
def j7(th:Th)(P:Ws):Ws:=wB th (Bx.bN .andNot (Bx.bN .andNot (Bx.aY (Ds.fk th)) (Bx.aY 2)) P)
structure uv (th:Th) (m:As) (pg:Int):Prop where
 rg:0≤pg∧pg≤65536
 e:wA th m pg=0
 w:Bx.okW (cT th m pg)
 i:∀p,In (cT th m pg) p→2≤p∧p<Ds.fk th
abbrev XA:Type:=Th×As×Int×Int×Bool×Int×Int×Ws
abbrev sA0:Spec XA:=⟨fun _=>[.ptr 0 0],fun(th,m,fu,wh,on,ep,pg,was)=>hS0 th m fu wh on ep pg was,fun(th,m,fu,_,_,_,pg,_)=>[Ds.bx th m fu,uv th m pg],
 fun(th,m,fu,wh,on,ep,pg,_)=>[pL 1 wh on ep pg (cT th m pg) (.ptr 4 0),Ds.uB 2 3 fu,.vec (.ad Ds.cS th) Ds.eS,.map Ds.kS m,rR 1 pg (j7 th (cT th m pg)) Bx.ae Bx.ae],fun _=>.s (.bool true)⟩
abbrev XA1:Type:=Th×As×Int×Int×Bool×Int×Int×Ws×Int×Ws×Ws×Ws
abbrev sA1:Spec XA1:=⟨fun _=>[.ptr 0 0],fun(th,m,fu,wh,on,ep,pg,was,root,fr,fs,gn)=>hSt th m fu wh on ep pg was root fr fs gn,fun(th,m,fu,_,_,_,pg,_)=>[Ds.bx th m fu,uv th m pg],
 fun(th,m,fu,wh,on,ep,pg,_,root,fr,fs,gn)=>[pL 1 wh on ep pg (cT th m pg) (.ptr 5 0),Ds.uB 3 4 fu,rR 1 root fr fs gn,.vec (.ad Ds.cS th) Ds.eS,.map Ds.kS m,rR 1 pg (j7 th (cT th m pg)) Bx.ae Bx.ae],fun _=>.s (.bool true)⟩
theorem aaP{ws:Ws}(hw:Bx.okW ws)(h:∀p,¬In ws p):Bx.oc ws=0:=by
 rw[als hw];have:=adU hw (N:=[]) fun p hp=>absurd hp (h p);simp only[List.length_nil]at this;omega
theorem arl{th:Th}{m:As}{fu wh:Int}{on:Bool}{ep pg:Int}{was P f:Ws}(e:P=cT th m pg)(e2:f=j7 th P):
 sA0.ez (th,m,fu,wh,on,ep,pg,was)=[pL 1 wh on ep pg P (.ptr 4 0),Ds.uB 2 3 fu,.vec (.ad Ds.cS th) Ds.eS,.map Ds.kS m,rR 1 pg f Bx.ae Bx.ae]:=by
 subst e e2;rfl
theorem arn{th:Th}{m:As}{fu wh:Int}{on:Bool}{ep pg:Int}{was P f:Ws}{root:Int}{fr fs gn:Ws}(e:P=cT th m pg)(e2:f=j7 th P):
 sA1.ez (th,m,fu,wh,on,ep,pg,was,root,fr,fs,gn)=[pL 1 wh on ep pg P (.ptr 5 0),Ds.uB 3 4 fu,rR 1 root fr fs gn,.vec (.ad Ds.cS th) Ds.eS,.map Ds.kS m,rR 1 pg f Bx.ae Bx.ae]:=by
 subst e e2;rfl
theorem aaQ:aiE.Ok P Bx.bO:=aH.Ok.cons (Ds.zK.sum Ds.xG) (aH.Ok.cons Bx.py.sum (aH.Ok.cons Bx.rP.sum (aH.Ok.cons Bx.adA.sum (aH.Ok.cons (alp.sum mOp) (aH.Ok.cons (aaM.sum mT) (aH.Ok.cons Bx.ahN.sum aH.Ok.nil))))))
theorem wD{th:Th}{m:As}{pg:Int}(R:uv th m pg):Bx.okW (Bx.bN .and (cT th m pg) (Bx.aY 2))∧Bx.oc (Bx.bN .and (cT th m pg) (Bx.aY 2))=0∧Bx.okW (Bx.bN .andNot (cT th m pg) (Bx.aY (Ds.fk th)))∧Bx.oc (Bx.bN .andNot (cT th m pg) (Bx.aY (Ds.fk th)))=0:=by
 have a:=(Bx.lz (.inr (.inl rfl)) R.w (Bx.cq 2).1).1;have b:=(Bx.lz (.inr (.inr rfl)) R.w (Bx.cq (Ds.fk th)).1).1;refine⟨a,aaP a fun p hp=> ?_,b,aaP b fun p hp=> ?_⟩
 ·rw[ahX R.w (Bx.cq 2).1,kF]at hp;have:=R.i p hp.1;omega
 ·rw[rT R.w (Bx.cq _).1,kF]at hp;have:=R.i p hp.1;have:=pF R.w hp.1;omega
theorem aoU:fC P Bx.bO 89 sA0:=by
 refine au Tryz.func89 (by kernel_rfl) (fun x=>Nat.le_of_ble_eq_true (by kernel_rfl)) ?_;rintro⟨(th:Th),(m:As),(fu:Int),(wh:Int),(on:Bool),(ep:Int),(pg:Int),(was:Ws)⟩ ⟨(hd:Ds.bx th m fu),(R:uv th m pg),_⟩ X hX hz;obtain⟨r1,r2,r3,r4⟩:=wD R;refine Ds.cR hz hX (by intro y hy;cases hy) aaQ Tryz.func89 (atA th m fu wh on ep pg was) ⟨rfl,rfl,hd,rfl,rfl,hd,rfl,rfl,hd,R.rg,fun h=> ?_,fun _=>⟨r1,fun h=> ?_,fun _=>⟨r3,fun h=> ?_,fun _=>⟨rfl,rfl,hd, ?_⟩⟩⟩⟩
 ·rw[R.e]at h;cases h
 ·rw[r2]at h;cases h
 ·rw[r4]at h;cases h
 ·have f:=arl (th:=th) (m:=m) (fu:=fu) (wh:=wh) (on:=on) (ep:=ep) (pg:=pg) (was:=was) rfl rfl;unfold j7 at f;exact bC 4 rfl (Nat.le_refl _) rfl f
theorem aiH:fC P Bx.bO 89 sA1:=by
 refine au Tryz.func89 (by kernel_rfl) (fun x=>Nat.le_of_ble_eq_true (by kernel_rfl)) ?_;rintro⟨(th:Th),(m:As),(fu:Int),(wh:Int),(on:Bool),(ep:Int),(pg:Int),(was:Ws),(root:Int),(fr:Ws),(fs:Ws),(gn:Ws)⟩ ⟨(hd:Ds.bx th m fu),(R:uv th m pg),_⟩ X hX hz;obtain⟨r1,r2,r3,r4⟩:=wD R;refine Ds.cR hz hX (by intro y hy;cases hy) aaQ Tryz.func89 (atB th m fu wh on ep pg was root fr fs gn) ⟨rfl,rfl,hd,rfl,rfl,hd,rfl,rfl,hd,R.rg,fun h=> ?_,fun _=>⟨r1,fun h=> ?_,fun _=>⟨r3,fun h=> ?_,fun _=>⟨rfl,rfl,hd, ?_⟩⟩⟩⟩
 ·rw[R.e]at h;cases h
 ·rw[r2]at h;cases h
 ·rw[r4]at h;cases h
 ·have f:=arn (th:=th) (m:=m) (fu:=fu) (wh:=wh) (on:=on) (ep:=ep) (pg:=pg) (was:=was) (root:=root) (fr:=fr) (fs:=fs) (gn:=gn) rfl rfl;unfold j7 at f;exact bC 5 rfl (Nat.le_refl _) rfl f
end Ts
namespace Ts
open Go Go.Sx Go.Proofs Lf
abbrev marks:List (CL cMk):=[(true,(1:Int),(0:Int),()),(false,(0:Int),(0:Int),())]
def fo1(th:Th)(m:As)(fu:Int)(x:CL cMk)(k:Int):As×Int×Int:=(Ds.ov th m fu k (mkO x) (mkE x) (mkP x),Ds.ra th fu k (mkO x) (mkE x) (mkP x),Ds.zJ th fu k (mkO x) (mkE x) (mkP x))
def fo2(th:Th)(a:As×Int×Int):Th×As×Int×Int:=if a.2.2≠0 then(th,a.1,a.2.1,a.2.2)else(Ds.lO th a.1 a.2.1,Ds.nc a.1 a.2.1,Ds.dL a.2.1,Ds.tv a.2.1)
def fo3(th:Th)(a:As×Int×Int)(x:CL cMk):Th×As×Int×Int:=if a.2.2≠0 then(th,a.1,a.2.1,a.2.2)else fo2 th (fo1 th a.1 a.2.1 x 1)
def bo(th:Th)(m:As)(fu:Int)(l:List (CL cMk)):Th×As×Int×Int:=if Ds.fk th<3 then(th,m,fu,1)else fo3 th (fo1 th m fu (el l 0) 0) (el l 1)
abbrev XFo:Type:=Th×As×Int×List (CL cMk)
abbrev sFo:Spec XFo:=⟨fun _=>[.ptr 0 0],fun(th,m,fu,_)=>Ds.hD th m fu,fun(th,m,fu,l)=>[Ds.bx th m fu,l=marks],fun(th,m,fu,l)=>Ds.hD (bo th m fu l).1 (bo th m fu l).2.1 (bo th m fu l).2.2.1,fun(th,m,fu,l)=>bE (bo th m fu l).2.2.2⟩
def mFo:List AV→RM (XFo×List Nat)
 |[d]=>(Ds.xG [d]).bind fun((th,m,fu),σ)=>.ret ((th,m,fu,marks),σ)
 |_=>.fail "no disk"
theorem adV{th:Th}{m:As}{fu:Int}{l:List (CL cMk)}{c:Th×As×Int×Int}(e:bo th m fu l=c):sFo.ez (th,m,fu,l)=Ds.hD c.1 c.2.1 c.2.2.1∧sFo.out (th,m,fu,l)=bE c.2.2.2:=by
 subst e;exact⟨rfl,rfl⟩
theorem wE{Z:aW}:fC P Z 38 sFo:=by
 refine au Tryz.func38 (by kernel_rfl) (fun x=>Nat.le_of_ble_eq_true (by kernel_rfl)) ?_;rintro⟨(th:Th),(m:As),(fu:Int),(l:List (CL cMk))⟩ ⟨(hd:Ds.bx th m fu),(hl:l=marks),_⟩ X hX hz;have n8:∀x∈alr,(sFo.heap (th,m,fu,l)).length≤x.2.m:=by intro y hy;simp[alr]at hy;rcases hy with rfl|rfl<;>exact Nat.le_refl _
 have T:aiF.Ok P Z:=aH.Ok.cons (Ds.zK.sum Ds.xG) (aH.Ok.cons (Ds.alP.sum mGs) (aH.Ok.cons (Ds.zH.sum Ds.xG) aH.Ok.nil));have hlen:l.length=2:=by rw[hl];rfl
 by_cases h3:Ds.fk th<3
 ·obtain⟨f1,f2⟩:=adV (m:=m) (fu:=fu) (l:=l) (c:=(th,m,fu,1)) (by unfold bo;rw[if_pos h3]);refine Ds.cR hz hX n8 T Tryz.func38 (arj th m fu) ⟨rfl,rfl,hd,fun _=>bC 3 rfl (Nat.le_refl _) f2 f1,fun h=>absurd h3 (of_decide_eq_false h)⟩
 have e0:bo th m fu l=fo3 th (fo1 th m fu (el l 0) 0) (el l 1):=by unfold bo;rw[if_neg h3]
 have last:∀{m1:As} {f1:Int},Ds.bx th m1 f1→bo th m fu l=fo2 th (fo1 th m1 f1 (el l 1) 1)→Safe P 38 X (cX sFo (th,m,fu,l)) (cFo th m1 f1 1 1 (mkO (el l 1)) (mkE (el l 1)) (mkP (el l 1)) l):=by
  intro m1 f1 hd1 e;have hd2:=Ds.agU (k:=1) (on:=mkO (el l 1)) (ep:=mkE (el l 1)) (pg:=mkP (el l 1)) hd1;refine Ds.cR hz hX n8 T Tryz.func38 (ark th m1 f1 1 1 (mkO (el l 1)) (mkE (el l 1)) (mkP (el l 1)) l) ⟨rfl,rfl,hd1,ri (by omega) (by omega),fun h=> ?_,fun h=>⟨ri (by omega) (by omega),fun h=>absurd (of_decide_eq_true h) (by omega),fun _=>⟨rfl,rfl,hd2, ?_⟩⟩⟩
  ·obtain⟨g1,g2⟩:=adV (e.trans (if_pos (bne_iff_ne.1 h)));exact bC 3 rfl (Nat.le_refl _) g2 g1
  ·obtain⟨g1,g2⟩:=adV (e.trans (if_neg (fun x=>Bool.false_ne_true (h.symm.trans (bne_iff_ne.2 x)))));exact bC 3 rfl (Nat.le_refl _) g2 g1
 have first:Safe P 38 X (cX sFo (th,m,fu,l)) (cFo th m fu 0 0 (mkO (el l 0)) (mkE (el l 0)) (mkP (el l 0)) l):=by
  have hd2:=Ds.agU (k:=0) (on:=mkO (el l 0)) (ep:=mkE (el l 0)) (pg:=mkP (el l 0)) hd;refine Ds.cR hz hX n8 T Tryz.func38 (ark th m fu 0 0 (mkO (el l 0)) (mkE (el l 0)) (mkP (el l 0)) l) ⟨rfl,rfl,hd,ri (by omega) (by omega),fun h=> ?_,fun h=>⟨ri (by omega) (by omega),fun _=>⟨by omega,by omega,last hd2 (e0.trans (if_neg (fun x=>Bool.false_ne_true (h.symm.trans (bne_iff_ne.2 x)))))⟩,fun h=>absurd (of_decide_eq_false h) (by omega)⟩⟩;obtain⟨g1,g2⟩:=adV (e0.trans (if_pos (bne_iff_ne.1 h)));exact bC 3 rfl (Nat.le_refl _) g2 g1
 refine Ds.cR hz hX n8 T Tryz.func38 (arj th m fu) ⟨rfl,rfl,hd,fun h=>absurd (of_decide_eq_true h) h3,fun _=>⟨fun _=>⟨by omega,by omega, ?_⟩,fun h=>(by cases h)⟩⟩;subst hl;exact first
end Ts
namespace Ts
open Go Go.Sx Go.Proofs Lf
abbrev aro:=bZ sA0 (fun a=>match a with
 |[.ptr p 0]=>.look p fun o=>match o with
  |some (.own [.ptr d 0,wh,.s on,ep,pg,.ints .u64 16 was,_] _)=>(Ds.xG [.ptr d 0]).bind fun((th,m,fu),σ)=>match wh.cu,(AV.s on).eW,ep.cu,pg.cu with
   |some (_,_,wh),some (_,on),some (_,_,ep),some (_,_,pg)=>.ret ((th,m,fu,wh,on,ep,pg,was),p::σ)
   |_,_,_,_=>.fail "no store"
  |_=>.fail "no store"
 |_=>.fail "no store")
def adW:aH:=[(65,aaN),(88,ari),(89,aro)]
def aiI:List (Nat×Norm):=[(eO+7,⟨[],[],3,[]⟩),(cN+9002,⟨[],[0,4,5,18,22,23],3,[]⟩),(13,⟨[],[0,4],3,[]⟩)]
noncomputable def cSo(th:Th)(m:As)(fu i wh:Int)(on:Bool)(ep pg:Int)(was:Ws):bw:=⟨sl 72 [(0,.ptr 0 0),(4,.ptr 3 0),(5,bE i),(18,bE i),(22,.ptr 0 0),(23,bE i)],Ds.hD th m fu++[pL 0 wh on ep pg was (.s .bV)],eh Tryz.f37 9 2,⟨none,false,0,[],9⟩⟩
noncomputable def pM(th:Th)(m:As)(fu wh:Int)(on:Bool)(ep pg:Int)(was:Ws):bw:=⟨sl 72 [(0,.ptr 0 0),(4,.ptr 3 0)],Ds.hD th m fu++[pL 0 wh on ep pg was (.s .bV)],hr Tryz.f37 13,{}⟩
theorem aoV(th:Th)(m:As)(fu:Int):run P adW.sum Tryz.f37 aiI (start Tryz.f37 [.ptr 0 0] (Ds.hD th m fu))=
 Tree.need (bn (some [AV.ptr 0 0])) (.need (bn (some [ab.own [.vec 1,.ag 2,.s (.int .i64 fu)] 105,.vec (.ad [.arr .u8 64] th) 165,.map (.arr .u8 64) m])) (.need (Ds.bx th m fu) (.ite (decide (Ds.fk th<3)) (.ret [.own [.vec 1,.ag 2,.s (.int .i64 fu)] 105,.vec (.ad [.arr .u8 64] th) 165,.map (.arr .u8 64) m] (.bg [.s .bV,.s (.aK .i64 43)])) (.at (.mk (sl 72 [(0,.ptr 0 0),(4,.ptr 3 0),(5,.s (.int .i64 0)),(18,.s (.int .i64 0)),(22,.ptr 0 0),(23,.s (.int .i64 0))]) [.own [.vec 1,.ag 2,.s (.int .i64 fu)] 105,.vec (.ad [.arr .u8 64] th) 165,.map (.arr .u8 64) m,.own [.ptr 0 0,.s (.int .i64 0),.s (.bool false),.s (.int .i64 0),.s (.int .i64 0),.ints .u64 16 (List.replicate 16 0),.s .bV] 155] (eh Tryz.f37 9 2) (.mk none false 0 [] 9)))))):=by kernel_rfl
theorem arp(th:Th)(m:As)(fu i wh:Int)(on:Bool)(ep pg:Int)(was:Ws):run P adW.sum Tryz.f37 aiI (cSo th m fu i wh on ep pg was)=
 Tree.need (bn (some [AV.ptr 0 0,.s (.int .i64 i)]))
 (.need (bn (some [ab.own [.vec 1,.ag 2,.s (.int .i64 fu)] 105,.vec (.ad [.arr .u8 64] th) 165,.map (.arr .u8 64) m]))
   (.need (Ds.bx th m fu)
     (.need (ay i)
       (.ite (Ds.zI th i==0)
         (.ite (Ds.lj th m i)
           (.ite (!on) (.need (ay (i+1)) (.ite (decide (i+1<2)) (.at (.mk (sl 72 [(0,.ptr 0 0),(4,.ptr 3 0),(5,.s (.int .i64 (i+1))),(18,.s (.int .i64 (i+1))),(22,.ptr 0 0),(23,.s (.int .i64 (i+1)))]) [.own [.vec 1,.ag 2,.s (.int .i64 fu)] 105,.vec (.ad [.arr .u8 64] th) 165,.map (.arr .u8 64) m,.own [.ptr 0 0,.s (.int .i64 i),.s (.bool (Ds.lj th m i)),.s (.int .i64 (Ds.jV th m i)),.s (.int .i64 (Ds.mH th m i)),.ints .u64 16 was,.s .bV] 155] (eh Tryz.f37 9 2) (.mk none false 0 [] 9))) (.at (.mk (sl 72 [(0,.ptr 0 0),(4,.ptr 3 0)]) [.own [.vec 1,.ag 2,.s (.int .i64 fu)] 105,.vec (.ad [.arr .u8 64] th) 165,.map (.arr .u8 64) m,.own [.ptr 0 0,.s (.int .i64 i),.s (.bool (Ds.lj th m i)),.s (.int .i64 (Ds.jV th m i)),.s (.int .i64 (Ds.mH th m i)),.ints .u64 16 was,.s .bV] 155] (hr Tryz.f37 13) (.mk none false 0 [] 0)))))
             (.ite (decide (Ds.jV th m i>ep)) (.need (ay (i+1)) (.ite (decide (i+1<2)) (.at (.mk (sl 72 [(0,.ptr 0 0),(4,.ptr 3 0),(5,.s (.int .i64 (i+1))),(18,.s (.int .i64 (i+1))),(22,.ptr 0 0),(23,.s (.int .i64 (i+1)))]) [.own [.vec 1,.ag 2,.s (.int .i64 fu)] 105,.vec (.ad [.arr .u8 64] th) 165,.map (.arr .u8 64) m,.own [.ptr 0 0,.s (.int .i64 i),.s (.bool (Ds.lj th m i)),.s (.int .i64 (Ds.jV th m i)),.s (.int .i64 (Ds.mH th m i)),.ints .u64 16 was,.s .bV] 155] (eh Tryz.f37 9 2) (.mk none false 0 [] 9))) (.at (.mk (sl 72 [(0,.ptr 0 0),(4,.ptr 3 0)]) [.own [.vec 1,.ag 2,.s (.int .i64 fu)] 105,.vec (.ad [.arr .u8 64] th) 165,.map (.arr .u8 64) m,.own [.ptr 0 0,.s (.int .i64 i),.s (.bool (Ds.lj th m i)),.s (.int .i64 (Ds.jV th m i)),.s (.int .i64 (Ds.mH th m i)),.ints .u64 16 was,.s .bV] 155] (hr Tryz.f37 13) (.mk none false 0 [] 0))))) (.need (ay (i+1)) (.ite (decide (i+1<2)) (.at (.mk (sl 72 [(0,.ptr 0 0),(4,.ptr 3 0),(5,.s (.int .i64 (i+1))),(18,.s (.int .i64 (i+1))),(22,.ptr 0 0),(23,.s (.int .i64 (i+1)))]) [.own [.vec 1,.ag 2,.s (.int .i64 fu)] 105,.vec (.ad [.arr .u8 64] th) 165,.map (.arr .u8 64) m,.own [.ptr 0 0,.s (.int .i64 wh),.s (.bool on),.s (.int .i64 ep),.s (.int .i64 pg),.ints .u64 16 was,.s .bV] 155] (eh Tryz.f37 9 2) (.mk none false 0 [] 9))) (.at (.mk (sl 72 [(0,.ptr 0 0),(4,.ptr 3 0)]) [.own [.vec 1,.ag 2,.s (.int .i64 fu)] 105,.vec (.ad [.arr .u8 64] th) 165,.map (.arr .u8 64) m,.own [.ptr 0 0,.s (.int .i64 wh),.s (.bool on),.s (.int .i64 ep),.s (.int .i64 pg),.ints .u64 16 was,.s .bV] 155] (hr Tryz.f37 13) (.mk none false 0 [] 0)))))))
           (.need (ay (i+1)) (.ite (decide (i+1<2)) (.at (.mk (sl 72 [(0,.ptr 0 0),(4,.ptr 3 0),(5,.s (.int .i64 (i+1))),(18,.s (.int .i64 (i+1))),(22,.ptr 0 0),(23,.s (.int .i64 (i+1)))]) [.own [.vec 1,.ag 2,.s (.int .i64 fu)] 105,.vec (.ad [.arr .u8 64] th) 165,.map (.arr .u8 64) m,.own [.ptr 0 0,.s (.int .i64 wh),.s (.bool on),.s (.int .i64 ep),.s (.int .i64 pg),.ints .u64 16 was,.s .bV] 155] (eh Tryz.f37 9 2) (.mk none false 0 [] 9))) (.at (.mk (sl 72 [(0,.ptr 0 0),(4,.ptr 3 0)]) [.own [.vec 1,.ag 2,.s (.int .i64 fu)] 105,.vec (.ad [.arr .u8 64] th) 165,.map (.arr .u8 64) m,.own [.ptr 0 0,.s (.int .i64 wh),.s (.bool on),.s (.int .i64 ep),.s (.int .i64 pg),.ints .u64 16 was,.s .bV] 155] (hr Tryz.f37 13) (.mk none false 0 [] 0))))))
         (.need (ay (i+1)) (.ite (decide (i+1<2)) (.at (.mk (sl 72 [(0,.ptr 0 0),(4,.ptr 3 0),(5,.s (.int .i64 (i+1))),(18,.s (.int .i64 (i+1))),(22,.ptr 0 0),(23,.s (.int .i64 (i+1)))]) [.own [.vec 1,.ag 2,.s (.int .i64 fu)] 105,.vec (.ad [.arr .u8 64] th) 165,.map (.arr .u8 64) m,.own [.ptr 0 0,.s (.int .i64 wh),.s (.bool on),.s (.int .i64 ep),.s (.int .i64 pg),.ints .u64 16 was,.s .bV] 155] (eh Tryz.f37 9 2) (.mk none false 0 [] 9))) (.at (.mk (sl 72 [(0,.ptr 0 0),(4,.ptr 3 0)]) [.own [.vec 1,.ag 2,.s (.int .i64 fu)] 105,.vec (.ad [.arr .u8 64] th) 165,.map (.arr .u8 64) m,.own [.ptr 0 0,.s (.int .i64 wh),.s (.bool on),.s (.int .i64 ep),.s (.int .i64 pg),.ints .u64 16 was,.s .bV] 155] (hr Tryz.f37 13) (.mk none false 0 [] 0))))))))):=by kernel_rfl
theorem aiJ(th:Th)(m:As)(fu wh:Int)(on:Bool)(ep pg:Int)(was:Ws):run P adW.sum Tryz.f37 aiI (pM th m fu wh on ep pg was)=
 Tree.ite (!on) (.ret [.own [.vec 1,.ag 2,.s (.int .i64 fu)] 105,.vec (.ad [.arr .u8 64] th) 165,.map (.arr .u8 64) m,.own [.ptr 0 0,.s (.int .i64 wh),.s (.bool on),.s (.int .i64 ep),.s (.int .i64 pg),.ints .u64 16 was,.s .bV] 155] (.bg [.s .bV,.s (.aK .i64 43)])) (.need (bn (some [AV.ptr 0 0])) (.need (bn (some [ab.own [.ptr 1 0,.s (.int .i64 wh),.s (.bool on),.s (.int .i64 ep),.s (.int .i64 pg),.ints .u64 16 was,.s .bV] 155,.own [.vec 2,.ag 3,.s (.int .i64 fu)] 105,.vec (.ad [.arr .u8 64] th) 165,.map (.arr .u8 64) m])) (.need (Ds.bx th m fu) (.need (uv th m pg) (.ite false (.ret [.own [.vec 1,.ag 2,.s (.int .i64 fu)] 105,.vec (.ad [.arr .u8 64] th) 165,.map (.arr .u8 64) m,.own [.ptr 0 0,.s (.int .i64 wh),.s (.bool on),.s (.int .i64 ep),.s (.int .i64 pg),.ints .u64 16 (cT th m pg),.ptr 4 0] 155,.own [.ptr 0 0,.s (.int .i64 pg),.ints .u64 16 (j7 th (cT th m pg)),.ints .u64 16 Bx.ae,.ints .u64 16 Bx.ae] 115] (.bg [.s .bV,.s (.aK .i64 43)])) (.ret [.own [.vec 1,.ag 2,.s (.int .i64 fu)] 105,.vec (.ad [.arr .u8 64] th) 165,.map (.arr .u8 64) m,.own [.ptr 0 0,.s (.int .i64 wh),.s (.bool on),.s (.int .i64 ep),.s (.int .i64 pg),.ints .u64 16 (cT th m pg),.ptr 4 0] 155,.own [.ptr 0 0,.s (.int .i64 pg),.ints .u64 16 (j7 th (cT th m pg)),.ints .u64 16 Bx.ae,.ints .u64 16 Bx.ae] 115] (.bg [.ptr 3 0,.s (.aK .i64 0)]))))))):=by kernel_rfl
end Ts
namespace Ts
open Go Go.Sx Go.Proofs Lf
abbrev Mk:Type:=Int×Bool×Int×Int
def rX(th:Th)(m:As)(s:Mk)(k:Int):Mk:=if Ds.zI th k=0∧Ds.lj th m k=true∧(s.2.1=false∨Ds.jV th m k>s.2.2.1)then(k,true,Ds.jV th m k,Ds.mH th m k)else s
def gJ(th:Th)(m:As):Mk:=rX th m (rX th m (0,false,0,0) 0) 1
abbrev X3:Type:=Th×As×Int
abbrev rC:Spec X3:=⟨fun _=>[.ptr 0 0],fun(th,m,fu)=>Ds.hD th m fu,fun(th,m,fu)=>[Ds.bx th m fu,3≤Ds.fk th,(gJ th m).2.1=true,uv th m (gJ th m).2.2.2],
 fun(th,m,fu)=>Ds.hD th m fu++[pL 0 (gJ th m).1 true (gJ th m).2.2.1 (gJ th m).2.2.2 (cT th m (gJ th m).2.2.2) (.ptr 4 0),rR 0 (gJ th m).2.2.2 (j7 th (cT th m (gJ th m).2.2.2)) Bx.ae Bx.ae],fun _=>.bg [.ptr 3 0,bE 0]⟩
abbrev vd:Spec X3:=⟨fun _=>[.ptr 0 0],fun(th,m,fu)=>Ds.hD th m fu,fun(th,m,fu)=>[Ds.bx th m fu,Ds.fk th<3∨(gJ th m).2.1=false],fun(th,m,fu)=>Ds.hD th m fu,fun _=>.bg [.s .bV,bE 43]⟩
theorem jx:adW.Ok P Bx.bO:=aH.Ok.cons (Ds.zK.sum Ds.xG) (aH.Ok.cons (Ds.go_ok.sum Ds.mRd) (aH.Ok.cons (aoU.sum _) aH.Ok.nil))
theorem nf0{b:Bool}(h:(!b)=true):b=false:=by cases b<;>simp_all
theorem og:∀x∈aiI,3≤x.2.m:=by intro y hy;simp[aiI]at hy;rcases hy with rfl|rfl|rfl<;>exact Nat.le_refl _
theorem rY{th:Th}{m:As}{s:Mk}{k:Int}(h1:Ds.zI th k=0)(h2:Ds.lj th m k=true)(h3:s.2.1=false∨Ds.jV th m k>s.2.2.1):rX th m s k=(k,true,Ds.jV th m k,Ds.mH th m k):=if_pos ⟨h1,h2,h3⟩
theorem qI{th:Th}{m:As}{s:Mk}{k:Int}(h:¬(Ds.zI th k=0∧Ds.lj th m k=true∧(s.2.1=false∨Ds.jV th m k>s.2.2.1))):rX th m s k=s:=if_neg h
theorem aoW{th:Th}{m:As}{fu:Int}{a:Mk}(e:a=gJ th m):
 rC.ez (th,m,fu)=Ds.hD th m fu++[pL 0 a.1 true a.2.2.1 a.2.2.2 (cT th m a.2.2.2) (.ptr 4 0),rR 0 a.2.2.2 (j7 th (cT th m a.2.2.2)) Bx.ae Bx.ae]:=by subst e;rfl
theorem aaR:fC P Bx.bO 37 rC:=by
 refine au Tryz.func37 (by kernel_rfl) (fun x=>Nat.le_of_ble_eq_true (by kernel_rfl)) ?_;rintro⟨(th:Th),(m:As),(fu:Int)⟩ ⟨(hd:Ds.bx th m fu),(hp:3≤Ds.fk th),(h1:(gJ th m).2.1=true),(R:uv th m (gJ th m).2.2.2),_⟩ X hX hz
 have fin:Safe P 37 X (cX rC (th,m,fu)) (pM th m fu (gJ th m).1 (gJ th m).2.1 (gJ th m).2.2.1 (gJ th m).2.2.2 Bx.ae):=by
  have f:=aoW (fu:=fu) (rfl:gJ th m=gJ th m);generalize gJ th m=a at h1 R f;obtain⟨wh,on,ep,pg⟩:=a;have h1:on=true:=h1;subst h1;refine Ds.cR hz hX og jx Tryz.func37 (aiJ th m fu wh true ep pg Bx.ae) ⟨fun h=>(by cases h),fun _=>⟨rfl,rfl,hd,R,fun h=>(by cases h),fun _=> ?_⟩⟩;exact bC 3 rfl (Nat.le_refl _) rfl f
 have step:∀(i:Int) (s:Mk),i=0∨i=1→(i=0→Safe P 37 X (cX rC (th,m,fu)) (cSo th m fu 1 (rX th m s i).1 (rX th m s i).2.1 (rX th m s i).2.2.1 (rX th m s i).2.2.2 Bx.ae))→(i=1→Safe P 37 X (cX rC (th,m,fu)) (pM th m fu (rX th m s i).1 (rX th m s i).2.1 (rX th m s i).2.2.1 (rX th m s i).2.2.2 Bx.ae))→
  Safe P 37 X (cX rC (th,m,fu)) (cSo th m fu i s.1 s.2.1 s.2.2.1 s.2.2.2 Bx.ae):=by
  rintro i ⟨wh,on,ep,pg⟩ hi H0 H1;have hI:ay i:=ri (by omega) (by omega);have hI1:ay (i+1):=ri (by omega) (by omega)
  have dO:rX th m (wh,on,ep,pg) i=(wh,on,ep,pg)→(decide (i+1<2)=true→Safe P 37 X (cX rC (th,m,fu)) (cSo th m fu (i+1) wh on ep pg Bx.ae))∧(decide (i+1<2)=false→Safe P 37 X (cX rC (th,m,fu)) (pM th m fu wh on ep pg Bx.ae)):=fun e=>by
   rw[e]at H0 H1;refine⟨fun h=> ?_,fun h=> ?_⟩
   ·have:i=0:=by have:=of_decide_eq_true h;omega
    subst this;exact H0 rfl
   ·have:i=1:=by have:=of_decide_eq_false h;omega
    subst this;exact H1 rfl
  have take:rX th m (wh,on,ep,pg) i=(i,true,Ds.jV th m i,Ds.mH th m i)→Ds.lj th m i=true→(decide (i+1<2)=true→Safe P 37 X (cX rC (th,m,fu)) (cSo th m fu (i+1) i (Ds.lj th m i) (Ds.jV th m i) (Ds.mH th m i) Bx.ae))∧(decide (i+1<2)=false→Safe P 37 X (cX rC (th,m,fu)) (pM th m fu i (Ds.lj th m i) (Ds.jV th m i) (Ds.mH th m i) Bx.ae)):=fun e e2=>by
   rw[e]at H0 H1;rw[e2];refine⟨fun h=> ?_,fun h=> ?_⟩
   ·have:i=0:=by have:=of_decide_eq_true h;omega
    subst this;exact H0 rfl
   ·have:i=1:=by have:=of_decide_eq_false h;omega
    subst this;exact H1 rfl
  refine Ds.cR hz hX og jx Tryz.func37 (arp th m fu i wh on ep pg Bx.ae) ⟨rfl,rfl,hd,hI,fun a=>⟨fun b=>⟨fun c=>⟨hI1,take (rY (beq_iff_eq.1 a) b (.inl (nf0 c))) b⟩,fun c=>⟨fun d=>⟨hI1,take (rY (beq_iff_eq.1 a) b (.inr (of_decide_eq_true d))) b⟩,fun d=>⟨hI1,dO (qI ?_)⟩⟩⟩,fun b=>⟨hI1,dO (qI ?_)⟩⟩,fun a=>⟨hI1,dO (qI ?_)⟩⟩
  ·rintro⟨_,_,x|x⟩
   ·have x:on=false:=x;rw[x]at c;cases c
   ·exact of_decide_eq_false d x
  ·rintro⟨_,x,_⟩;rw[x]at b;cases b
  ·rintro⟨x,_⟩;exact beq_eq_false_iff_ne.1 a x
 refine Ds.cR hz hX og jx Tryz.func37 (aoV th m fu) ⟨rfl,rfl,hd,fun h=>absurd (of_decide_eq_true h) (by omega),fun _=> ?_⟩;exact step 0 (0,false,0,0) (.inl rfl) (fun _=>step 1 _ (.inr rfl) (fun h=>by omega) (fun _=>fin)) (fun h=>by omega)
end Ts
namespace Ts
open Go Go.Sx Go.Proofs Lf
def mSt:List AV→RM (XA1×List Nat)
 |[.ptr p 0]=>.look p fun o=>match o with
  |some (.own [.ptr d 0,wh,on,ep,pg,.ints .u64 16 was,.ptr t 0] _)=>.look t fun o=>match o with
   |some (.own [.ptr _ 0,root,.ints .u64 16 fr,.ints .u64 16 fs,.ints .u64 16 gn] _)=>(Ds.xG [.ptr d 0]).bind fun((th,m,fu),σ)=>match wh.cu,on.eW,ep.cu,pg.cu,root.cu,σ with
    |some (_,_,wh),some (_,on),some (_,_,ep),some (_,_,pg),some (_,_,root),d::σ=>.ret ((th,m,fu,wh,on,ep,pg,was,root,fr,fs,gn),p::d::t::σ)
    |_,_,_,_,_,_=>.fail "no store"
   |_=>.fail "no tree"
  |_=>.fail "no store"
 |_=>.fail "no store"
abbrev XSK:Type:=XA1×ByteArray
abbrev XSV:Type:=XA1×ByteArray×ByteArray
def mSK:List AV→RM (XSK×List Nat)
 |[s,.s (.str k)]=>(mSt [s]).bind fun(X,σ)=>.ret ((X,k),σ)
 |_=>.fail "no key"
def mSV:List AV→RM (XSV×List Nat)
 |[s,.s (.str k),.s (.str v)]=>(mSt [s]).bind fun(X,σ)=>.ret ((X,k,v),σ)
 |_=>.fail "no key"
abbrev hX:XA1→List ab:=fun(th,m,fu,wh,on,ep,pg,was,root,fr,fs,gn)=>hSt th m fu wh on ep pg was root fr fs gn
abbrev arq:Spec XSK:=⟨fun(_,k)=>[.ptr 0 0,.s (.str k)],fun(x,_)=>hX x,fun((th,m,fu,_,_,_,_,_,root,_),_)=>[Ds.bx th m fu,0≤root∧root≤65536],fun(x,_)=>hX x,
 fun((th,m,_,_,_,_,_,_,root,_),k)=>.bg [.s (.str (gtV th m root k)),.s (.bool (gtB th m root k)),bE (gtE th m root k)]⟩
abbrev ars:Spec XSV:=⟨fun(_,k,v)=>[.ptr 0 0,.s (.str k),.s (.str v)],fun(x,_)=>hX x,fun((th,m,fu,_,_,_,_,_,root,fr,_),_)=>[Ds.bx th m fu,Bx.okW fr,0≤root∧root≤65536],
 fun((th,m,fu,wh,on,ep,pg,was,root,fr,fs,gn),k,v)=>hSt th (op0 th k (some v) m fu root fr fs gn) (op1 th k (some v) m fu root fr fs gn) wh on ep pg was (uF th k (some v) m fu root fr fs gn) (op2 th k (some v) m fu root fr fs gn) (op3 th k (some v) m fu root fr fs gn) (op4 th k (some v) m fu root fr fs gn),
 fun((th,m,fu,_,_,_,_,_,root,fr,fs,gn),k,v)=>bE (opE th k (some v) m fu root fr fs gn)⟩
abbrev aoX:Spec XA1:=⟨fun _=>[.ptr 0 0],hX,fun _=>[],hX,fun(_,_,_,_,_,ep,_)=>bE ep⟩
def wF(th:Th)(m:As)(was:Ws)(root:Int):Ws:=Bx.bN .andNot (Bx.bN .andNot (Bx.bN .andNot (Bx.aY (Ds.fk th)) (Bx.aY 2)) was) (cT th m root)
abbrev aoY:Spec XA1:=⟨fun _=>[.ptr 0 0],hX,fun(th,m,fu,_,_,_,_,was,root,_)=>[Ds.bx th m fu,0≤root∧root≤65536,wA th m root=0,Bx.okW (wF th m was root)],hX,fun(th,m,_,_,_,_,_,was,root,_)=>bE (Bx.oc (wF th m was root))⟩
def mPt:List AV→RM (XK×List Nat)
 |[t,.s (.str key),.s (.str val)]=>(mT [t]).bind fun(X,σ)=>.ret ((X,key,val),σ)
 |_=>.fail "put"
def aiK:aH:=[(21,bZ aiq mGt),(33,bZ sLs mGt),(17,bZ ain mPt),(19,bZ aio mGt),(31,amG),(65,aaN),(64,aoQ),(66,aiD),(93,arh)]
theorem atC(th:Th)(m:As)(fu wh:Int)(on:Bool)(ep pg:Int)(was:Ws)(root:Int)(fr fs gn:Ws)(k:ByteArray):run P aiK.sum Tryz.f35 [] (start Tryz.f35 [.ptr 0 0,.s (.str k)] (hSt th m fu wh on ep pg was root fr fs gn))=
 Tree.need (bn (some [AV.ptr 0 0,.s (.str k)])) (.need (bn (some [ab.own [.ptr 1 0,.s (.int .i64 root),.ints .u64 16 fr,.ints .u64 16 fs,.ints .u64 16 gn] 115,.own [.vec 2,.ag 3,.s (.int .i64 fu)] 105,.vec (.ad [.arr .u8 64] th) 165,.map (.arr .u8 64) m])) (.need (Ds.bx th m fu) (.need ((0:Int)≤root∧root≤65536) (.ret [.own [.ptr 1 0,.s (.int .i64 wh),.s (.bool on),.s (.int .i64 ep),.s (.int .i64 pg),.ints .u64 16 was,.ptr 2 0] 155,.own [.vec 3,.ag 4,.s (.int .i64 fu)] 105,.own [.ptr 1 0,.s (.int .i64 root),.ints .u64 16 fr,.ints .u64 16 fs,.ints .u64 16 gn] 115,.vec (.ad [.arr .u8 64] th) 165,.map (.arr .u8 64) m] (.bg [.s (.str (gtV th m root k)),.s (.bool (gtB th m root k)),.s (.int .i64 (gtE th m root k))]))))):=by kernel_rfl
theorem atD(th:Th)(m:As)(fu wh:Int)(on:Bool)(ep pg:Int)(was:Ws)(root:Int)(fr fs gn:Ws)(k v:ByteArray):run P aiK.sum Tryz.f39 [] (start Tryz.f39 [.ptr 0 0,.s (.str k),.s (.str v)] (hSt th m fu wh on ep pg was root fr fs gn))=
 Tree.need (bn (some [AV.ptr 0 0,.s (.str k),.s (.str v)])) (.need (bn (some [ab.own [.ptr 1 0,.s (.int .i64 root),.ints .u64 16 fr,.ints .u64 16 fs,.ints .u64 16 gn] 115,.own [.vec 2,.ag 3,.s (.int .i64 fu)] 105,.vec (.ad [.arr .u8 64] th) 165,.map (.arr .u8 64) m])) (.need (Ds.bx th m fu) (.need (Bx.okW fr) (.need ((0:Int)≤root∧root≤65536) (.ret [.own [.ptr 1 0,.s (.int .i64 wh),.s (.bool on),.s (.int .i64 ep),.s (.int .i64 pg),.ints .u64 16 was,.ptr 2 0] 155,.own [.vec 3,.ag 4,.s (.int .i64 (op1 th k (some v) m fu root fr fs gn))] 105,.own [.ptr 1 0,.s (.int .i64 (uF th k (some v) m fu root fr fs gn)),.ints .u64 16 (op2 th k (some v) m fu root fr fs gn),.ints .u64 16 (op3 th k (some v) m fu root fr fs gn),.ints .u64 16 (op4 th k (some v) m fu root fr fs gn)] 115,.vec (.ad [.arr .u8 64] th) 165,.map (.arr .u8 64) (op0 th k (some v) m fu root fr fs gn)] (.s (.int .i64 (opE th k (some v) m fu root fr fs gn)))))))):=by kernel_rfl
theorem atE(th:Th)(m:As)(fu wh:Int)(on:Bool)(ep pg:Int)(was:Ws)(root:Int)(fr fs gn:Ws):run P aiK.sum Tryz.f43 [] (start Tryz.f43 [.ptr 0 0] (hSt th m fu wh on ep pg was root fr fs gn))=
 Tree.ret [.own [.ptr 1 0,.s (.int .i64 wh),.s (.bool on),.s (.int .i64 ep),.s (.int .i64 pg),.ints .u64 16 was,.ptr 2 0] 155,.own [.vec 3,.ag 4,.s (.int .i64 fu)] 105,.own [.ptr 1 0,.s (.int .i64 root),.ints .u64 16 fr,.ints .u64 16 fs,.ints .u64 16 gn] 115,.vec (.ad [.arr .u8 64] th) 165,.map (.arr .u8 64) m] (.s (.int .i64 ep)):=by kernel_rfl
theorem atF(th:Th)(m:As)(fu wh:Int)(on:Bool)(ep pg:Int)(was:Ws)(root:Int)(fr fs gn:Ws):run P aiK.sum Tryz.f44 [] (start Tryz.f44 [.ptr 0 0] (hSt th m fu wh on ep pg was root fr fs gn))=
 Tree.need (bn (some [AV.ptr 0 0])) (.need (bn (some [ab.own [.ptr 1 0,.s (.int .i64 root),.ints .u64 16 fr,.ints .u64 16 fs,.ints .u64 16 gn] 115,.own [.vec 2,.ag 3,.s (.int .i64 fu)] 105,.vec (.ad [.arr .u8 64] th) 165,.map (.arr .u8 64) m])) (.need (Ds.bx th m fu) (.need ((0:Int)≤root∧root≤65536) (.ite (wA th m root !=0) (.ret [.own [.ptr 1 0,.s (.int .i64 wh),.s (.bool on),.s (.int .i64 ep),.s (.int .i64 pg),.ints .u64 16 was,.ptr 2 0] 155,.own [.vec 3,.ag 4,.s (.int .i64 fu)] 105,.own [.ptr 1 0,.s (.int .i64 root),.ints .u64 16 fr,.ints .u64 16 fs,.ints .u64 16 gn] 115,.vec (.ad [.arr .u8 64] th) 165,.map (.arr .u8 64) m,.own [.ints .u64 16 (cT th m root)] 37] (.s (.aK .i64 0))) (.need (bn (some [AV.ptr 0 0])) (.need (bn (some [ab.own [.vec 1,.ag 2,.s (.int .i64 fu)] 105,.vec (.ad [.arr .u8 64] th) 165,.map (.arr .u8 64) m])) (.need (Ds.bx th m fu) (.need (Bx.okW (Bx.bN BinOp.andNot (Bx.bN BinOp.andNot (Bx.bN BinOp.andNot (Bx.aY (Ds.fk th)) (Bx.aY 2)) was) (cT th m root))) (.ret [.own [.ptr 1 0,.s (.int .i64 wh),.s (.bool on),.s (.int .i64 ep),.s (.int .i64 pg),.ints .u64 16 was,.ptr 2 0] 155,.own [.vec 3,.ag 4,.s (.int .i64 fu)] 105,.own [.ptr 1 0,.s (.int .i64 root),.ints .u64 16 fr,.ints .u64 16 fs,.ints .u64 16 gn] 115,.vec (.ad [.arr .u8 64] th) 165,.map (.arr .u8 64) m,.own [.ints .u64 16 (cT th m root)] 37] (.s (.int .i64 (Bx.oc (Bx.bN BinOp.andNot (Bx.bN BinOp.andNot (Bx.bN BinOp.andNot (Bx.aY (Ds.fk th)) (Bx.aY 2)) was) (cT th m root)))))))))))))):=by kernel_rfl
end Ts
namespace Go.Sx
open Go
def uw(s:Nat→List AV→RM bH):Nat→List AV→RM bH:=fun base args=>(s base args).bind fun q=>pa (q.up.map (·.1)) fun os=>.ret ⟨(some os=some (q.up.map (·.2)))::q.need,[],q.new,q.r⟩
section
variable{ρ:Nat→Value}{H:aM}{G:Nat→Prop}{w:World}{P:Program}{Z:aW}
theorem ux:∀{up:List (Nat×ab)} {j:Nat} {o:ab},cr up j=some o→∃k:Nat,up[k]? =some (j,o)
 |[],j,o,h=>by simp[cr]at h
 |(i,x)::r,j,o,h=>by
  unfold cr at h;split at h
  ·rename_i y hy;cases h;obtain⟨k,hk⟩:=ux hy;exact⟨k+1,by simpa using hk⟩
  ·split at h
   ·rename_i e;cases h;exact⟨0,by rw[e];rfl⟩
   ·cases h
theorem aaS{f:FuncId}{s:Nat→List AV→RM bH}(h:kZ P Z f s):kZ P Z f (uw s):=by
 intro base args H q hq hn ρ G w vs dV hz hs hd;unfold uw at hq;obtain⟨q0,h1,h2⟩:=RM.nb hq;obtain⟨os,h3,h4,h5⟩:=ld h2;simp only[RM.eval,Option.some.injEq]at h3;subst h3;obtain⟨hos,hn0⟩:=hn
 have same:cW H q0.up base q0.new=cW H [] base q0.new:=by
  funext j;unfold cW;cases hu:cr q0.up j with
  |none=>rfl
  |some o=>
   obtain⟨k,hk⟩:=ux hu;obtain⟨g1,g2⟩:=h5 k j (by rw[List.getElem?_map,hk];rfl);have g3:H j=some o:=by rw[g1,hos,List.getElem?_map,hk];rfl
   have g4:¬(base≤j∧j<base+q0.new.length):=fun hr=>by
    have:=dV (j - base) (by show j - base<q0.new.length;omega);rw[show base+(j - base)=j by omega,g3]at this;cases this
   show some o=if base≤j∧j<base+q0.new.length then _ else H j
   rw[if_neg g4,g3]
 have:=h base args H q0 h1 hn0 ρ G w vs dV hz hs hd;rw[same]at this;exact this
end
end Go.Sx
namespace Ts
open Go Go.Sx Go.Proofs Lf
abbrev eMk:TypeId:=153
abbrev ePS:TypeId:=69
abbrev hC(mo:Bool)(me mp other:Int):XA1→List ab:=fun(th,m,fu,wh,on,ep,pg,was,root,fr,fs,gn)=>
 [.own [.s (.bool mo),bE me,bE mp] eMk,.own [.ptr 3 0] ePS,.own [bE other] 3,pL 4 wh on ep pg was (.ptr 5 0),Ds.uB 6 7 fu,rR 4 root fr fs gn,.vec (.ad Ds.cS th) Ds.eS,.map Ds.kS m]
abbrev XC1:Type:=Bool×Bool×Int×Int×Int×XA1
abbrev sC1:Spec XC1:=⟨fun(b,_)=>[.s (.bool b),.ptr 0 0,.ptr 1 0,.ptr 2 0],fun(_,mo,me,mp,other,x)=>hC mo me mp other x,fun _=>[],fun(b,mo,me,mp,other,x)=>hC mo me mp other x++[.own [.s (.bool b)] 4],fun _=>.fn 92 [.ptr 8 0,.ptr 0 0,.ptr 1 0,.ptr 2 0]⟩
def mC1:List AV→RM (XC1×List Nat)
 |[b,.ptr m 0,.ptr s 0,.ptr o 0]=>.look m fun x=>match x with
  |some (.own [mo,me,mp] _)=>.look s fun x=>match x with
   |some (.own [.ptr st 0] _)=>.look o fun x=>match x with
    |some (.own [ot] _)=>(mSt [.ptr st 0]).bind fun(X,σ)=>match b.eW,mo.eW,me.cu,mp.cu,ot.cu with
     |some (_,b),some (_,mo),some (_,_,me),some (_,_,mp),some (_,_,ot)=>.ret ((b,mo,me,mp,ot,X),m::s::o::σ)
     |_,_,_,_,_=>.fail "tell"
    |_=>.fail "tell"
   |_=>.fail "tell"
  |_=>.fail "tell"
 |_=>.fail "tell"
theorem atG(b mo:Bool)(me mp other:Int)(th:Th)(m:As)(fu wh:Int)(on:Bool)(ep pg:Int)(was:Ws)(root:Int)(fr fs gn:Ws):run P (aH.sum []) Tryz.f91 [] (start Tryz.f91 [.s (.bool b),.ptr 0 0,.ptr 1 0,.ptr 2 0] (hC mo me mp other (th,m,fu,wh,on,ep,pg,was,root,fr,fs,gn)))=
 Tree.ret [.own [.s (.bool mo),.s (.int .i64 me),.s (.int .i64 mp)] 153,.own [.ptr 3 0] 69,.own [.s (.int .i64 other)] 3,.own [.ptr 4 0,.s (.int .i64 wh),.s (.bool on),.s (.int .i64 ep),.s (.int .i64 pg),.ints .u64 16 was,.ptr 5 0] 155,.own [.vec 6,.ag 7,.s (.int .i64 fu)] 105,.own [.ptr 4 0,.s (.int .i64 root),.ints .u64 16 fr,.ints .u64 16 fs,.ints .u64 16 gn] 115,.vec (.ad [.arr .u8 64] th) 165,.map (.arr .u8 64) m,.own [.s (.bool b)] 4] (.fn 92 [.ptr 8 0,.ptr 0 0,.ptr 1 0,.ptr 2 0]):=by kernel_rfl
def mA1:List AV→RM (XA1×List Nat):=mSt
def pN:aH:=[(23,bZ sRt mT),(91,uw (bZ sC1 mC1)),(49,amI),(90,amH),(89,bZ sA1 mA1)]
def ve:List (Nat×Norm):=[(eO+8,⟨[],[],5,[]⟩),(cN+10001,⟨[],[1,3,4,56,57,60],5,[]⟩),(15,⟨[],[1,3,4],5,[]⟩),(6,⟨[],[1,3,4],5,[]⟩)]
theorem atH(th:Th)(m:As)(fu wh:Int)(on:Bool)(ep pg:Int)(was:Ws)(root:Int)(fr fs gn:Ws):run P pN.sum Tryz.f41 ve (start Tryz.f41 [.ptr 0 0] (hSt th m fu wh on ep pg was root fr fs gn)) (inl:=[92])=
 Tree.ite (decide (ep≥1099511627776)) (.ret [.own [.ptr 1 0,.s (.int .i64 wh),.s (.bool on),.s (.int .i64 ep),.s (.int .i64 pg),.ints .u64 16 was,.ptr 2 0] 155,.own [.vec 3,.ag 4,.s (.int .i64 fu)] 105,.own [.ptr 1 0,.s (.int .i64 root),.ints .u64 16 fr,.ints .u64 16 fs,.ints .u64 16 gn] 115,.vec (.ad [.arr .u8 64] th) 165,.map (.arr .u8 64) m,.own [.ptr 0 0] 69] (.s (.aK .i64 40))) (.need (ay (ep+1)) (.need (bn (some [AV.ptr 0 0])) (.need (bn (some [ab.own [.ptr 1 0,.s (.int .i64 root),.ints .u64 16 fr,.ints .u64 16 fs,.ints .u64 16 gn] 115,.own [.vec 2,.ag 3,.s (.int .i64 fu)] 105,.vec (.ad [.arr .u8 64] th) 165,.map (.arr .u8 64) m])) (.need (ay ((1:Int) - wh)) (.at (.mk (sl 78 [(1,.ptr 5 0),(3,.ptr 6 0),(4,.ptr 7 0)]) [.own [.ptr 1 0,.s (.int .i64 wh),.s (.bool on),.s (.int .i64 ep),.s (.int .i64 pg),.ints .u64 16 was,.ptr 2 0] 155,.own [.vec 3,.ag 4,.s (.int .i64 fu)] 105,.own [.ptr 1 0,.s (.int .i64 root),.ints .u64 16 fr,.ints .u64 16 fs,.ints .u64 16 gn] 115,.vec (.ad [.arr .u8 64] th) 165,.map (.arr .u8 64) m,.own [.ptr 0 0] 69,.own [.s (.bool false),.s (.int .i64 (ep+1)),.s (.int .i64 root)] 153,.own [.s (.int .i64 ((1:Int) - wh))] 3] (hr Tryz.f41 6) (.mk none false 0 [] 0))))))):=by kernel_rfl
noncomputable def art(th:Th)(m:As)(fu wh:Int)(on:Bool)(ep pg:Int)(was:Ws)(root:Int)(fr fs gn:Ws)(mo:Bool)(me mp other:Int):bw:=⟨sl 78 [(1,.ptr 5 0),(3,.ptr 6 0),(4,.ptr 7 0)],hSt th m fu wh on ep pg was root fr fs gn++[.own [.ptr 0 0] ePS,.own [.s (.bool mo),bE me,bE mp] eMk,.own [bE other] 3],hr Tryz.f41 6,{}⟩
theorem aru(th:Th)(m:As)(fu wh:Int)(on:Bool)(ep pg:Int)(was:Ws)(root:Int)(fr fs gn:Ws)(mo:Bool)(me mp other:Int):run P pN.sum Tryz.f41 ve (art th m fu wh on ep pg was root fr fs gn mo me mp other) (inl:=[92])=
 Tree.need (bn (some [ab.own [.s (.bool mo),.s (.int .i64 me),.s (.int .i64 mp)] 153,.own [.ptr 0 0] 69,.own [.s (.int .i64 other)] 3,.own [.ptr 1 0,.s (.int .i64 wh),.s (.bool on),.s (.int .i64 ep),.s (.int .i64 pg),.ints .u64 16 was,.ptr 2 0] 155,.own [.vec 3,.ag 4,.s (.int .i64 fu)] 105,.own [.ptr 1 0,.s (.int .i64 root),.ints .u64 16 fr,.ints .u64 16 fs,.ints .u64 16 gn] 115,.vec (.ad [.arr .u8 64] th) 165,.map (.arr .u8 64) m]))
 (.need (bn (some [AV.s (.bool false),.ptr 0 0,.ptr 1 0,.ptr 2 0]))
   (.need (bn (some [ab.own [.s (.bool mo),.s (.int .i64 me),.s (.int .i64 mp)] 153,.own [.ptr 3 0] 69,.own [.s (.int .i64 other)] 3,.own [.ptr 4 0,.s (.int .i64 wh),.s (.bool on),.s (.int .i64 ep),.s (.int .i64 pg),.ints .u64 16 was,.ptr 5 0] 155,.own [.vec 6,.ag 7,.s (.int .i64 fu)] 105,.own [.ptr 4 0,.s (.int .i64 root),.ints .u64 16 fr,.ints .u64 16 fs,.ints .u64 16 gn] 115,.vec (.ad [.arr .u8 64] th) 165,.map (.arr .u8 64) m]))
     (.need (bn (some [ab.own [.s (.bool mo),.s (.int .i64 me),.s (.int .i64 mp)] 153,.own [.ptr 0 0] 69,.own [.s (.int .i64 other)] 3,.own [.ptr 1 0,.s (.int .i64 wh),.s (.bool on),.s (.int .i64 ep),.s (.int .i64 pg),.ints .u64 16 was,.ptr 2 0] 155,.own [.vec 3,.ag 4,.s (.int .i64 fu)] 105,.own [.ptr 1 0,.s (.int .i64 root),.ints .u64 16 fr,.ints .u64 16 fs,.ints .u64 16 gn] 115,.vec (.ad [.arr .u8 64] th) 165,.map (.arr .u8 64) m])) (.need (bn (some [AV.s (.bool true),.ptr 0 0,.ptr 1 0,.ptr 2 0])) (.need (bn (some [ab.own [.s (.bool mo),.s (.int .i64 me),.s (.int .i64 mp)] 153,.own [.ptr 3 0] 69,.own [.s (.int .i64 other)] 3,.own [.ptr 4 0,.s (.int .i64 wh),.s (.bool on),.s (.int .i64 ep),.s (.int .i64 pg),.ints .u64 16 was,.ptr 5 0] 155,.own [.vec 6,.ag 7,.s (.int .i64 fu)] 105,.own [.ptr 4 0,.s (.int .i64 root),.ints .u64 16 fr,.ints .u64 16 fs,.ints .u64 16 gn] 115,.vec (.ad [.arr .u8 64] th) 165,.map (.arr .u8 64) m])) (.need ((0:Int)≤0) (.need ((0:Int)<(↑(5:Nat):Int)) (.at (.mk (sl 78 [(1,.ptr 5 0),(3,.ptr 6 0),(4,.ptr 7 0),(56,.agg [.mQ 49 [.ptr 1 0],.fn 92 [.ptr 8 0,.ptr 6 0,.ptr 5 0,.ptr 7 0],.mQ 49 [.ptr 1 0],.fn 92 [.ptr 9 0,.ptr 6 0,.ptr 5 0,.ptr 7 0],.mQ 49 [.ptr 1 0]]),(57,.s (.int .i64 0)),(60,.mQ 49 [.ptr 1 0])]) [.own [.ptr 1 0,.s (.int .i64 wh),.s (.bool on),.s (.int .i64 ep),.s (.int .i64 pg),.ints .u64 16 was,.ptr 2 0] 155,.own [.vec 3,.ag 4,.s (.int .i64 fu)] 105,.own [.ptr 1 0,.s (.int .i64 root),.ints .u64 16 fr,.ints .u64 16 fs,.ints .u64 16 gn] 115,.vec (.ad [.arr .u8 64] th) 165,.map (.arr .u8 64) m,.own [.ptr 0 0] 69,.own [.s (.bool mo),.s (.int .i64 me),.s (.int .i64 mp)] 153,.own [.s (.int .i64 other)] 3,.own [.s (.bool false)] 4,.own [.s (.bool true)] 4] (eh Tryz.f41 10 1) (.mk none false 0 [] 10)))))))))):=by kernel_rfl
end Ts
namespace Ts
open Go Go.Sx Go.Proofs Lf
abbrev yv:AV:=.mQ 49 [.ptr 1 0]
abbrev fTl(i:Nat):AV:=.fn 92 [.ptr i 0,.ptr 6 0,.ptr 5 0,.ptr 7 0]
abbrev hCo(th:Th)(m:As)(fu wh:Int)(on:Bool)(ep pg:Int)(was:Ws)(root:Int)(fr fs gn:Ws)(mo:Bool)(me mp other:Int):List ab:=hSt th m fu wh on ep pg was root fr fs gn++[.own [.ptr 0 0] ePS,.own [.s (.bool mo),bE me,bE mp] eMk,.own [bE other] 3]
noncomputable def amJ(th:Th)(m:As)(fu wh:Int)(on:Bool)(ep pg:Int)(was:Ws)(root:Int)(fr fs gn:Ws)(mo:Bool)(me mp other:Int):bw:=⟨sl 78 [(1,.ptr 5 0),(3,.ptr 6 0),(4,.ptr 7 0),(56,.agg [yv,fTl 8,yv,fTl 9,yv]),(57,bE 0),(60,yv)],hCo th m fu wh on ep pg was root fr fs gn mo me mp other++[.own [.s (.bool false)] 4,.own [.s (.bool true)] 4],eh Tryz.f41 10 1,⟨none,false,0,[],10⟩⟩
noncomputable def aiL(th:Th)(m:As)(fu wh:Int)(on:Bool)(ep pg:Int)(was:Ws)(root:Int)(fr fs gn:Ws)(mo:Bool)(me mp other:Int):bw:=⟨sl 78 [(1,.ptr 5 0),(3,.ptr 6 0),(4,.ptr 7 0),(56,.agg [yv,fTl 8,yv,fTl 9,yv]),(57,bE 1),(60,fTl 8)],hCo th m fu wh on ep pg was root fr fs gn mo me mp other++[.own [.s (.bool false)] 4,.own [.s (.bool true)] 4],eh Tryz.f41 10 1,⟨none,false,0,[],10⟩⟩
noncomputable def aiM(th:Th)(m:As)(fu wh:Int)(on:Bool)(ep pg:Int)(was:Ws)(root:Int)(fr fs gn:Ws)(mo:Bool)(me mp other:Int):bw:=⟨sl 78 [(1,.ptr 5 0),(3,.ptr 6 0),(4,.ptr 7 0),(56,.agg [yv,fTl 8,yv,fTl 9,yv]),(57,bE 2),(60,yv)],hCo th m fu wh on ep pg was root fr fs gn mo me mp other++[.own [.s (.bool false)] 4,.own [.s (.bool true)] 4],eh Tryz.f41 10 1,⟨none,false,0,[],10⟩⟩
noncomputable def aiN(th:Th)(m:As)(fu wh:Int)(on:Bool)(ep pg:Int)(was:Ws)(root:Int)(fr fs gn:Ws)(mo:Bool)(me mp other:Int):bw:=⟨sl 78 [(1,.ptr 5 0),(3,.ptr 6 0),(4,.ptr 7 0),(56,.agg [yv,fTl 8,yv,fTl 9,yv]),(57,bE 3),(60,fTl 9)],hCo th m fu wh on ep pg was root fr fs gn mo me mp other++[.own [.s (.bool false)] 4,.own [.s (.bool true)] 4],eh Tryz.f41 10 1,⟨none,false,0,[],10⟩⟩
noncomputable def aiO(th:Th)(m:As)(fu wh:Int)(on:Bool)(ep pg:Int)(was:Ws)(root:Int)(fr fs gn:Ws)(mo:Bool)(me mp other:Int):bw:=⟨sl 78 [(1,.ptr 5 0),(3,.ptr 6 0),(4,.ptr 7 0),(56,.agg [yv,fTl 8,yv,fTl 9,yv]),(57,bE 4),(60,yv)],hCo th m fu wh on ep pg was root fr fs gn mo me mp other++[.own [.s (.bool false)] 4,.own [.s (.bool true)] 4],eh Tryz.f41 10 1,⟨none,false,0,[],10⟩⟩
noncomputable def aiP(th:Th)(m:As)(fu wh:Int)(on:Bool)(ep pg:Int)(was:Ws)(root:Int)(fr fs gn:Ws)(mo:Bool)(me mp other:Int):bw:=⟨sl 78 [(1,.ptr 5 0),(3,.ptr 6 0),(4,.ptr 7 0)],hCo th m fu wh on ep pg was root fr fs gn mo me mp other,hr Tryz.f41 15,{}⟩
theorem atI(th:Th)(m:As)(fu wh:Int)(on:Bool)(ep pg:Int)(was:Ws)(root:Int)(fr fs gn:Ws)(mo:Bool)(me mp other:Int):run P pN.sum Tryz.f41 ve (amJ th m fu wh on ep pg was root fr fs gn mo me mp other) (inl:=[92])=
 Tree.need (bn (some [AV.ptr 0 0]))
 (.need (bn (some [ab.own [.vec 1,.ag 2,.s (.int .i64 fu)] 105,.vec (.ad [.arr .u8 64] th) 165,.map (.arr .u8 64) m]))
   (.need (Ds.bx th m fu)
     (.ite (Ds.tv fu !=0) (.need (bn (some [AV.ptr 0 0])) (.need (bn (some [ab.own [.ptr 1 0,.s (.int .i64 wh),.s (.bool on),.s (.int .i64 ep),.s (.int .i64 pg),.ints .u64 16 was,.ptr 2 0] 155,.own [.vec 3,.ag 4,.s (.int .i64 (Ds.dL fu))] 105,.own [.ptr 1 0,.s (.int .i64 root),.ints .u64 16 fr,.ints .u64 16 fs,.ints .u64 16 gn] 115,.vec (.ad [.arr .u8 64] (Ds.lO th m fu)) 165,.map (.arr .u8 64) (Ds.nc m fu)])) (.need (Ds.bx (Ds.lO th m fu) (Ds.nc m fu) (Ds.dL fu)) (.need (uv (Ds.lO th m fu) (Ds.nc m fu) pg) (.ret [.own [.ptr 1 0,.s (.int .i64 wh),.s (.bool on),.s (.int .i64 ep),.s (.int .i64 pg),.ints .u64 16 (cT (Ds.lO th m fu) (Ds.nc m fu) pg),.ptr 10 0] 155,.own [.vec 3,.ag 4,.s (.int .i64 (Ds.dL fu))] 105,.own [.ptr 1 0,.s (.int .i64 root),.ints .u64 16 fr,.ints .u64 16 fs,.ints .u64 16 gn] 115,.vec (.ad [.arr .u8 64] (Ds.lO th m fu)) 165,.map (.arr .u8 64) (Ds.nc m fu),.own [.ptr 0 0] 69,.own [.s (.bool mo),.s (.int .i64 me),.s (.int .i64 mp)] 153,.own [.s (.int .i64 other)] 3,.own [.s (.bool false)] 4,.own [.s (.bool true)] 4,.own [.ptr 1 0,.s (.int .i64 pg),.ints .u64 16 (j7 (Ds.lO th m fu) (cT (Ds.lO th m fu) (Ds.nc m fu) pg)),.ints .u64 16 Bx.ae,.ints .u64 16 Bx.ae] 115] (.s (.int .i64 (Ds.tv fu))))))))
       (.need (ay ((0:Int)+1)) (.ite true (.need ((0:Int)≤1) (.need ((1:Int)<(↑(5:Nat):Int)) (.at (.mk (sl 78 [(1,.ptr 5 0),(3,.ptr 6 0),(4,.ptr 7 0),(56,.agg [.mQ 49 [.ptr 1 0],.fn 92 [.ptr 8 0,.ptr 6 0,.ptr 5 0,.ptr 7 0],.mQ 49 [.ptr 1 0],.fn 92 [.ptr 9 0,.ptr 6 0,.ptr 5 0,.ptr 7 0],.mQ 49 [.ptr 1 0]]),(57,.s (.int .i64 1)),(60,.fn 92 [.ptr 8 0,.ptr 6 0,.ptr 5 0,.ptr 7 0])]) [.own [.ptr 1 0,.s (.int .i64 wh),.s (.bool on),.s (.int .i64 ep),.s (.int .i64 pg),.ints .u64 16 was,.ptr 2 0] 155,.own [.vec 3,.ag 4,.s (.int .i64 (Ds.dL fu))] 105,.own [.ptr 1 0,.s (.int .i64 root),.ints .u64 16 fr,.ints .u64 16 fs,.ints .u64 16 gn] 115,.vec (.ad [.arr .u8 64] (Ds.lO th m fu)) 165,.map (.arr .u8 64) (Ds.nc m fu),.own [.ptr 0 0] 69,.own [.s (.bool mo),.s (.int .i64 me),.s (.int .i64 mp)] 153,.own [.s (.int .i64 other)] 3,.own [.s (.bool false)] 4,.own [.s (.bool true)] 4] (eh Tryz.f41 10 1) (.mk none false 0 [] 10))))) (.at (.mk (sl 78 [(1,.ptr 5 0),(3,.ptr 6 0),(4,.ptr 7 0)]) [.own [.ptr 1 0,.s (.int .i64 wh),.s (.bool on),.s (.int .i64 ep),.s (.int .i64 pg),.ints .u64 16 was,.ptr 2 0] 155,.own [.vec 3,.ag 4,.s (.int .i64 (Ds.dL fu))] 105,.own [.ptr 1 0,.s (.int .i64 root),.ints .u64 16 fr,.ints .u64 16 fs,.ints .u64 16 gn] 115,.vec (.ad [.arr .u8 64] (Ds.lO th m fu)) 165,.map (.arr .u8 64) (Ds.nc m fu),.own [.ptr 0 0] 69,.own [.s (.bool mo),.s (.int .i64 me),.s (.int .i64 mp)] 153,.own [.s (.int .i64 other)] 3] (hr Tryz.f41 15) (.mk none false 0 [] 0)))))))):=by kernel_rfl
theorem atJ(th:Th)(m:As)(fu wh:Int)(on:Bool)(ep pg:Int)(was:Ws)(root:Int)(fr fs gn:Ws)(mo:Bool)(me mp other:Int):run P pN.sum Tryz.f41 ve (aiL th m fu wh on ep pg was root fr fs gn mo me mp other) (inl:=[92])=
 Tree.need (bn (some [AV.ptr 0 0,.s (.int .i64 other),.agg [.s (.bool false),.s (.int .i64 me),.s (.int .i64 mp)]]))
 (.need (bn (some [ab.own [.vec 1,.ag 2,.s (.int .i64 fu)] 105,.vec (.ad [.arr .u8 64] th) 165,.map (.arr .u8 64) m]))
   (.need (Ds.bx th m fu)
     (.need (ay other)
       (.ite (Ds.zJ th fu other false me mp !=0) (.need (bn (some [AV.ptr 0 0])) (.need (bn (some [ab.own [.ptr 1 0,.s (.int .i64 wh),.s (.bool on),.s (.int .i64 ep),.s (.int .i64 pg),.ints .u64 16 was,.ptr 2 0] 155,.own [.vec 3,.ag 4,.s (.int .i64 (Ds.ra th fu other false me mp))] 105,.own [.ptr 1 0,.s (.int .i64 root),.ints .u64 16 fr,.ints .u64 16 fs,.ints .u64 16 gn] 115,.vec (.ad [.arr .u8 64] th) 165,.map (.arr .u8 64) (Ds.ov th m fu other false me mp)])) (.need (Ds.bx th (Ds.ov th m fu other false me mp) (Ds.ra th fu other false me mp)) (.need (uv th (Ds.ov th m fu other false me mp) pg) (.ret [.own [.ptr 1 0,.s (.int .i64 wh),.s (.bool on),.s (.int .i64 ep),.s (.int .i64 pg),.ints .u64 16 (cT th (Ds.ov th m fu other false me mp) pg),.ptr 10 0] 155,.own [.vec 3,.ag 4,.s (.int .i64 (Ds.ra th fu other false me mp))] 105,.own [.ptr 1 0,.s (.int .i64 root),.ints .u64 16 fr,.ints .u64 16 fs,.ints .u64 16 gn] 115,.vec (.ad [.arr .u8 64] th) 165,.map (.arr .u8 64) (Ds.ov th m fu other false me mp),.own [.ptr 0 0] 69,.own [.s (.bool false),.s (.int .i64 me),.s (.int .i64 mp)] 153,.own [.s (.int .i64 other)] 3,.own [.s (.bool false)] 4,.own [.s (.bool true)] 4,.own [.ptr 1 0,.s (.int .i64 pg),.ints .u64 16 (j7 th (cT th (Ds.ov th m fu other false me mp) pg)),.ints .u64 16 Bx.ae,.ints .u64 16 Bx.ae] 115] (.s (.int .i64 (Ds.zJ th fu other false me mp))))))))
         (.need (ay ((1:Int)+1)) (.ite true (.need ((0:Int)≤2) (.need ((2:Int)<(↑(5:Nat):Int)) (.at (.mk (sl 78 [(1,.ptr 5 0),(3,.ptr 6 0),(4,.ptr 7 0),(56,.agg [.mQ 49 [.ptr 1 0],.fn 92 [.ptr 8 0,.ptr 6 0,.ptr 5 0,.ptr 7 0],.mQ 49 [.ptr 1 0],.fn 92 [.ptr 9 0,.ptr 6 0,.ptr 5 0,.ptr 7 0],.mQ 49 [.ptr 1 0]]),(57,.s (.int .i64 2)),(60,.mQ 49 [.ptr 1 0])]) [.own [.ptr 1 0,.s (.int .i64 wh),.s (.bool on),.s (.int .i64 ep),.s (.int .i64 pg),.ints .u64 16 was,.ptr 2 0] 155,.own [.vec 3,.ag 4,.s (.int .i64 (Ds.ra th fu other false me mp))] 105,.own [.ptr 1 0,.s (.int .i64 root),.ints .u64 16 fr,.ints .u64 16 fs,.ints .u64 16 gn] 115,.vec (.ad [.arr .u8 64] th) 165,.map (.arr .u8 64) (Ds.ov th m fu other false me mp),.own [.ptr 0 0] 69,.own [.s (.bool false),.s (.int .i64 me),.s (.int .i64 mp)] 153,.own [.s (.int .i64 other)] 3,.own [.s (.bool false)] 4,.own [.s (.bool true)] 4] (eh Tryz.f41 10 1) (.mk none false 0 [] 10))))) (.at (.mk (sl 78 [(1,.ptr 5 0),(3,.ptr 6 0),(4,.ptr 7 0)]) [.own [.ptr 1 0,.s (.int .i64 wh),.s (.bool on),.s (.int .i64 ep),.s (.int .i64 pg),.ints .u64 16 was,.ptr 2 0] 155,.own [.vec 3,.ag 4,.s (.int .i64 (Ds.ra th fu other false me mp))] 105,.own [.ptr 1 0,.s (.int .i64 root),.ints .u64 16 fr,.ints .u64 16 fs,.ints .u64 16 gn] 115,.vec (.ad [.arr .u8 64] th) 165,.map (.arr .u8 64) (Ds.ov th m fu other false me mp),.own [.ptr 0 0] 69,.own [.s (.bool false),.s (.int .i64 me),.s (.int .i64 mp)] 153,.own [.s (.int .i64 other)] 3] (hr Tryz.f41 15) (.mk none false 0 [] 0))))))))):=by kernel_rfl
theorem atL(th:Th)(m:As)(fu wh:Int)(on:Bool)(ep pg:Int)(was:Ws)(root:Int)(fr fs gn:Ws)(mo:Bool)(me mp other:Int):run P pN.sum Tryz.f41 ve (aiM th m fu wh on ep pg was root fr fs gn mo me mp other) (inl:=[92])=
 Tree.need (bn (some [AV.ptr 0 0]))
 (.need (bn (some [ab.own [.vec 1,.ag 2,.s (.int .i64 fu)] 105,.vec (.ad [.arr .u8 64] th) 165,.map (.arr .u8 64) m]))
   (.need (Ds.bx th m fu)
     (.ite (Ds.tv fu !=0) (.need (bn (some [AV.ptr 0 0])) (.need (bn (some [ab.own [.ptr 1 0,.s (.int .i64 wh),.s (.bool on),.s (.int .i64 ep),.s (.int .i64 pg),.ints .u64 16 was,.ptr 2 0] 155,.own [.vec 3,.ag 4,.s (.int .i64 (Ds.dL fu))] 105,.own [.ptr 1 0,.s (.int .i64 root),.ints .u64 16 fr,.ints .u64 16 fs,.ints .u64 16 gn] 115,.vec (.ad [.arr .u8 64] (Ds.lO th m fu)) 165,.map (.arr .u8 64) (Ds.nc m fu)])) (.need (Ds.bx (Ds.lO th m fu) (Ds.nc m fu) (Ds.dL fu)) (.need (uv (Ds.lO th m fu) (Ds.nc m fu) pg) (.ret [.own [.ptr 1 0,.s (.int .i64 wh),.s (.bool on),.s (.int .i64 ep),.s (.int .i64 pg),.ints .u64 16 (cT (Ds.lO th m fu) (Ds.nc m fu) pg),.ptr 10 0] 155,.own [.vec 3,.ag 4,.s (.int .i64 (Ds.dL fu))] 105,.own [.ptr 1 0,.s (.int .i64 root),.ints .u64 16 fr,.ints .u64 16 fs,.ints .u64 16 gn] 115,.vec (.ad [.arr .u8 64] (Ds.lO th m fu)) 165,.map (.arr .u8 64) (Ds.nc m fu),.own [.ptr 0 0] 69,.own [.s (.bool mo),.s (.int .i64 me),.s (.int .i64 mp)] 153,.own [.s (.int .i64 other)] 3,.own [.s (.bool false)] 4,.own [.s (.bool true)] 4,.own [.ptr 1 0,.s (.int .i64 pg),.ints .u64 16 (j7 (Ds.lO th m fu) (cT (Ds.lO th m fu) (Ds.nc m fu) pg)),.ints .u64 16 Bx.ae,.ints .u64 16 Bx.ae] 115] (.s (.int .i64 (Ds.tv fu))))))))
       (.need (ay ((2:Int)+1)) (.ite true (.need ((0:Int)≤3) (.need ((3:Int)<(↑(5:Nat):Int)) (.at (.mk (sl 78 [(1,.ptr 5 0),(3,.ptr 6 0),(4,.ptr 7 0),(56,.agg [.mQ 49 [.ptr 1 0],.fn 92 [.ptr 8 0,.ptr 6 0,.ptr 5 0,.ptr 7 0],.mQ 49 [.ptr 1 0],.fn 92 [.ptr 9 0,.ptr 6 0,.ptr 5 0,.ptr 7 0],.mQ 49 [.ptr 1 0]]),(57,.s (.int .i64 3)),(60,.fn 92 [.ptr 9 0,.ptr 6 0,.ptr 5 0,.ptr 7 0])]) [.own [.ptr 1 0,.s (.int .i64 wh),.s (.bool on),.s (.int .i64 ep),.s (.int .i64 pg),.ints .u64 16 was,.ptr 2 0] 155,.own [.vec 3,.ag 4,.s (.int .i64 (Ds.dL fu))] 105,.own [.ptr 1 0,.s (.int .i64 root),.ints .u64 16 fr,.ints .u64 16 fs,.ints .u64 16 gn] 115,.vec (.ad [.arr .u8 64] (Ds.lO th m fu)) 165,.map (.arr .u8 64) (Ds.nc m fu),.own [.ptr 0 0] 69,.own [.s (.bool mo),.s (.int .i64 me),.s (.int .i64 mp)] 153,.own [.s (.int .i64 other)] 3,.own [.s (.bool false)] 4,.own [.s (.bool true)] 4] (eh Tryz.f41 10 1) (.mk none false 0 [] 10))))) (.at (.mk (sl 78 [(1,.ptr 5 0),(3,.ptr 6 0),(4,.ptr 7 0)]) [.own [.ptr 1 0,.s (.int .i64 wh),.s (.bool on),.s (.int .i64 ep),.s (.int .i64 pg),.ints .u64 16 was,.ptr 2 0] 155,.own [.vec 3,.ag 4,.s (.int .i64 (Ds.dL fu))] 105,.own [.ptr 1 0,.s (.int .i64 root),.ints .u64 16 fr,.ints .u64 16 fs,.ints .u64 16 gn] 115,.vec (.ad [.arr .u8 64] (Ds.lO th m fu)) 165,.map (.arr .u8 64) (Ds.nc m fu),.own [.ptr 0 0] 69,.own [.s (.bool mo),.s (.int .i64 me),.s (.int .i64 mp)] 153,.own [.s (.int .i64 other)] 3] (hr Tryz.f41 15) (.mk none false 0 [] 0)))))))):=by kernel_rfl
theorem atM(th:Th)(m:As)(fu wh:Int)(on:Bool)(ep pg:Int)(was:Ws)(root:Int)(fr fs gn:Ws)(mo:Bool)(me mp other:Int):run P pN.sum Tryz.f41 ve (aiN th m fu wh on ep pg was root fr fs gn mo me mp other) (inl:=[92])=
 Tree.need (bn (some [AV.ptr 0 0,.s (.int .i64 other),.agg [.s (.bool true),.s (.int .i64 me),.s (.int .i64 mp)]]))
 (.need (bn (some [ab.own [.vec 1,.ag 2,.s (.int .i64 fu)] 105,.vec (.ad [.arr .u8 64] th) 165,.map (.arr .u8 64) m]))
   (.need (Ds.bx th m fu)
     (.need (ay other)
       (.ite (Ds.zJ th fu other true me mp !=0) (.need (bn (some [AV.ptr 0 0])) (.need (bn (some [ab.own [.ptr 1 0,.s (.int .i64 wh),.s (.bool on),.s (.int .i64 ep),.s (.int .i64 pg),.ints .u64 16 was,.ptr 2 0] 155,.own [.vec 3,.ag 4,.s (.int .i64 (Ds.ra th fu other true me mp))] 105,.own [.ptr 1 0,.s (.int .i64 root),.ints .u64 16 fr,.ints .u64 16 fs,.ints .u64 16 gn] 115,.vec (.ad [.arr .u8 64] th) 165,.map (.arr .u8 64) (Ds.ov th m fu other true me mp)])) (.need (Ds.bx th (Ds.ov th m fu other true me mp) (Ds.ra th fu other true me mp)) (.need (uv th (Ds.ov th m fu other true me mp) pg) (.ret [.own [.ptr 1 0,.s (.int .i64 wh),.s (.bool on),.s (.int .i64 ep),.s (.int .i64 pg),.ints .u64 16 (cT th (Ds.ov th m fu other true me mp) pg),.ptr 10 0] 155,.own [.vec 3,.ag 4,.s (.int .i64 (Ds.ra th fu other true me mp))] 105,.own [.ptr 1 0,.s (.int .i64 root),.ints .u64 16 fr,.ints .u64 16 fs,.ints .u64 16 gn] 115,.vec (.ad [.arr .u8 64] th) 165,.map (.arr .u8 64) (Ds.ov th m fu other true me mp),.own [.ptr 0 0] 69,.own [.s (.bool true),.s (.int .i64 me),.s (.int .i64 mp)] 153,.own [.s (.int .i64 other)] 3,.own [.s (.bool false)] 4,.own [.s (.bool true)] 4,.own [.ptr 1 0,.s (.int .i64 pg),.ints .u64 16 (j7 th (cT th (Ds.ov th m fu other true me mp) pg)),.ints .u64 16 Bx.ae,.ints .u64 16 Bx.ae] 115] (.s (.int .i64 (Ds.zJ th fu other true me mp))))))))
         (.need (ay ((3:Int)+1)) (.ite true (.need ((0:Int)≤4) (.need ((4:Int)<(↑(5:Nat):Int)) (.at (.mk (sl 78 [(1,.ptr 5 0),(3,.ptr 6 0),(4,.ptr 7 0),(56,.agg [.mQ 49 [.ptr 1 0],.fn 92 [.ptr 8 0,.ptr 6 0,.ptr 5 0,.ptr 7 0],.mQ 49 [.ptr 1 0],.fn 92 [.ptr 9 0,.ptr 6 0,.ptr 5 0,.ptr 7 0],.mQ 49 [.ptr 1 0]]),(57,.s (.int .i64 4)),(60,.mQ 49 [.ptr 1 0])]) [.own [.ptr 1 0,.s (.int .i64 wh),.s (.bool on),.s (.int .i64 ep),.s (.int .i64 pg),.ints .u64 16 was,.ptr 2 0] 155,.own [.vec 3,.ag 4,.s (.int .i64 (Ds.ra th fu other true me mp))] 105,.own [.ptr 1 0,.s (.int .i64 root),.ints .u64 16 fr,.ints .u64 16 fs,.ints .u64 16 gn] 115,.vec (.ad [.arr .u8 64] th) 165,.map (.arr .u8 64) (Ds.ov th m fu other true me mp),.own [.ptr 0 0] 69,.own [.s (.bool true),.s (.int .i64 me),.s (.int .i64 mp)] 153,.own [.s (.int .i64 other)] 3,.own [.s (.bool false)] 4,.own [.s (.bool true)] 4] (eh Tryz.f41 10 1) (.mk none false 0 [] 10))))) (.at (.mk (sl 78 [(1,.ptr 5 0),(3,.ptr 6 0),(4,.ptr 7 0)]) [.own [.ptr 1 0,.s (.int .i64 wh),.s (.bool on),.s (.int .i64 ep),.s (.int .i64 pg),.ints .u64 16 was,.ptr 2 0] 155,.own [.vec 3,.ag 4,.s (.int .i64 (Ds.ra th fu other true me mp))] 105,.own [.ptr 1 0,.s (.int .i64 root),.ints .u64 16 fr,.ints .u64 16 fs,.ints .u64 16 gn] 115,.vec (.ad [.arr .u8 64] th) 165,.map (.arr .u8 64) (Ds.ov th m fu other true me mp),.own [.ptr 0 0] 69,.own [.s (.bool true),.s (.int .i64 me),.s (.int .i64 mp)] 153,.own [.s (.int .i64 other)] 3] (hr Tryz.f41 15) (.mk none false 0 [] 0))))))))):=by kernel_rfl
theorem atN(th:Th)(m:As)(fu wh:Int)(on:Bool)(ep pg:Int)(was:Ws)(root:Int)(fr fs gn:Ws)(mo:Bool)(me mp other:Int):run P pN.sum Tryz.f41 ve (aiO th m fu wh on ep pg was root fr fs gn mo me mp other) (inl:=[92])=
 Tree.need (bn (some [AV.ptr 0 0])) (.need (bn (some [ab.own [.vec 1,.ag 2,.s (.int .i64 fu)] 105,.vec (.ad [.arr .u8 64] th) 165,.map (.arr .u8 64) m])) (.need (Ds.bx th m fu) (.ite (Ds.tv fu !=0) (.need (bn (some [AV.ptr 0 0])) (.need (bn (some [ab.own [.ptr 1 0,.s (.int .i64 wh),.s (.bool on),.s (.int .i64 ep),.s (.int .i64 pg),.ints .u64 16 was,.ptr 2 0] 155,.own [.vec 3,.ag 4,.s (.int .i64 (Ds.dL fu))] 105,.own [.ptr 1 0,.s (.int .i64 root),.ints .u64 16 fr,.ints .u64 16 fs,.ints .u64 16 gn] 115,.vec (.ad [.arr .u8 64] (Ds.lO th m fu)) 165,.map (.arr .u8 64) (Ds.nc m fu)])) (.need (Ds.bx (Ds.lO th m fu) (Ds.nc m fu) (Ds.dL fu)) (.need (uv (Ds.lO th m fu) (Ds.nc m fu) pg) (.ret [.own [.ptr 1 0,.s (.int .i64 wh),.s (.bool on),.s (.int .i64 ep),.s (.int .i64 pg),.ints .u64 16 (cT (Ds.lO th m fu) (Ds.nc m fu) pg),.ptr 10 0] 155,.own [.vec 3,.ag 4,.s (.int .i64 (Ds.dL fu))] 105,.own [.ptr 1 0,.s (.int .i64 root),.ints .u64 16 fr,.ints .u64 16 fs,.ints .u64 16 gn] 115,.vec (.ad [.arr .u8 64] (Ds.lO th m fu)) 165,.map (.arr .u8 64) (Ds.nc m fu),.own [.ptr 0 0] 69,.own [.s (.bool mo),.s (.int .i64 me),.s (.int .i64 mp)] 153,.own [.s (.int .i64 other)] 3,.own [.s (.bool false)] 4,.own [.s (.bool true)] 4,.own [.ptr 1 0,.s (.int .i64 pg),.ints .u64 16 (j7 (Ds.lO th m fu) (cT (Ds.lO th m fu) (Ds.nc m fu) pg)),.ints .u64 16 Bx.ae,.ints .u64 16 Bx.ae] 115] (.s (.int .i64 (Ds.tv fu)))))))) (.need (ay ((4:Int)+1)) (.ite false (.stuck ("store.go:121" ++ " " ++ "index: no cell")) (.at (.mk (sl 78 [(1,.ptr 5 0),(3,.ptr 6 0),(4,.ptr 7 0)]) [.own [.ptr 1 0,.s (.int .i64 wh),.s (.bool on),.s (.int .i64 ep),.s (.int .i64 pg),.ints .u64 16 was,.ptr 2 0] 155,.own [.vec 3,.ag 4,.s (.int .i64 (Ds.dL fu))] 105,.own [.ptr 1 0,.s (.int .i64 root),.ints .u64 16 fr,.ints .u64 16 fs,.ints .u64 16 gn] 115,.vec (.ad [.arr .u8 64] (Ds.lO th m fu)) 165,.map (.arr .u8 64) (Ds.nc m fu),.own [.ptr 0 0] 69,.own [.s (.bool mo),.s (.int .i64 me),.s (.int .i64 mp)] 153,.own [.s (.int .i64 other)] 3] (hr Tryz.f41 15) (.mk none false 0 [] 0)))))))):=by kernel_rfl
theorem arv(th:Th)(m:As)(fu wh:Int)(on:Bool)(ep pg:Int)(was:Ws)(root:Int)(fr fs gn:Ws)(mo:Bool)(me mp other:Int):run P pN.sum Tryz.f41 ve (aiP th m fu wh on ep pg was root fr fs gn mo me mp other) (inl:=[92])=
 Tree.need (bn (some [AV.ptr 0 0])) (.need (bn (some [ab.own [.ptr 1 0,.s (.int .i64 other),.s (.bool mo),.s (.int .i64 me),.s (.int .i64 mp),.ints .u64 16 was,.ptr 2 0] 155,.own [.vec 3,.ag 4,.s (.int .i64 fu)] 105,.own [.ptr 1 0,.s (.int .i64 root),.ints .u64 16 fr,.ints .u64 16 fs,.ints .u64 16 gn] 115,.vec (.ad [.arr .u8 64] th) 165,.map (.arr .u8 64) m])) (.need (Ds.bx th m fu) (.need (uv th m mp) (.ret [.own [.ptr 1 0,.s (.int .i64 other),.s (.bool mo),.s (.int .i64 me),.s (.int .i64 mp),.ints .u64 16 (cT th m mp),.ptr 8 0] 155,.own [.vec 3,.ag 4,.s (.int .i64 fu)] 105,.own [.ptr 1 0,.s (.int .i64 root),.ints .u64 16 fr,.ints .u64 16 fs,.ints .u64 16 gn] 115,.vec (.ad [.arr .u8 64] th) 165,.map (.arr .u8 64) m,.own [.ptr 0 0] 69,.own [.s (.bool mo),.s (.int .i64 me),.s (.int .i64 mp)] 153,.own [.s (.int .i64 other)] 3,.own [.ptr 1 0,.s (.int .i64 mp),.ints .u64 16 (j7 th (cT th m mp)),.ints .u64 16 Bx.ae,.ints .u64 16 Bx.ae] 115] (.s (.aK .i64 0)))))):=by kernel_rfl
end Ts
