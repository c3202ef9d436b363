/- Lemmas: N7, M2, M3, N8, N9, N10, N11, N12, N13, N14, N15, SxLit, SxRenew, N16, N17, N18, N19, N20, N21, M4, M5, M6, M7, M8. -/
import Derived.Test.YtcjldfgkonfocaaDoorPD
namespace Ts
open Go Go.Sx Go.Proofs Lf
abbrev XC:Type:=XT×Int×Int×ByteArray×ByteArray
abbrev fP1:FuncId:=49
abbrev fD1:FuncId:=51
abbrev tp(s:ByteArray):ae:=.own [.s (.str s)] 9
abbrev qx(th:Th)(m:As)(fu root:Int)(fr fs gn:Ws)(key val:ByteArray):List ae:=hT th m fu root fr fs gn++[tp key,tp val]
abbrev qy(th:Th)(m:As)(fu root:Int)(fr fs gn:Ws)(key:ByteArray):List ae:=hT th m fu root fr fs gn++[tp key]
def anZ(f:Nat)(th:Th)(m:As)(fu:Int)(fr:Ws)(n deep:Int)(key val:ByteArray):List Prop:=[Ds.bU th m fu,Bx.okW fr,0≤n∧n≤65536,1≤deep∧deep≤17,18≤deep+(f:Int),1≤key.size∧key.size≤24,val.size≤100]
def pj(th:Th)(key:ByteArray)(op:Option ByteArray)(f:Nat)(m:As)(fu:Int)(fr fs gn:Ws)(n deep:Int):As:=(vC th key op f m fu fr fs gn n deep).1
def pn(th:Th)(key:ByteArray)(op:Option ByteArray)(f:Nat)(m:As)(fu:Int)(fr fs gn:Ws)(n deep:Int):Int:=(vC th key op f m fu fr fs gn n deep).2.1
def pq(th:Th)(key:ByteArray)(op:Option ByteArray)(f:Nat)(m:As)(fu:Int)(fr fs gn:Ws)(n deep:Int):Ws:=(vC th key op f m fu fr fs gn n deep).2.2.1
def qz(th:Th)(key:ByteArray)(op:Option ByteArray)(f:Nat)(m:As)(fu:Int)(fr fs gn:Ws)(n deep:Int):Ws:=(vC th key op f m fu fr fs gn n deep).2.2.2.1
def rI(th:Th)(key:ByteArray)(op:Option ByteArray)(f:Nat)(m:As)(fu:Int)(fr fs gn:Ws)(n deep:Int):Ws:=(vC th key op f m fu fr fs gn n deep).2.2.2.2.1
def sQ(th:Th)(key:ByteArray)(op:Option ByteArray)(f:Nat)(m:As)(fu:Int)(fr fs gn:Ws)(n deep:Int):List Br:=(vC th key op f m fu fr fs gn n deep).2.2.2.2.2.1
def rJ(th:Th)(key:ByteArray)(op:Option ByteArray)(f:Nat)(m:As)(fu:Int)(fr fs gn:Ws)(n deep:Int):Int:=(vC th key op f m fu fr fs gn n deep).2.2.2.2.2.2
abbrev wJ(f:Nat):Spec XC:=⟨fun(_,n,deep,key,_)=>[.ptr 0 0,bO n,bO deep,.s (.str key),.fn fP1 [.ptr 4 0,.ptr 5 0]],fun((th,m,fu,root,fr,fs,gn),_,_,key,val)=>qx th m fu root fr fs gn key val,
 fun((th,m,fu,_,fr,_,_),n,deep,key,val)=>anZ f th m fu fr n deep key val,
 fun((th,m,fu,root,fr,fs,gn),n,deep,key,val)=>qx th (pj th key (some val) f m fu fr fs gn n deep) (pn th key (some val) f m fu fr fs gn n deep) root (pq th key (some val) f m fu fr fs gn n deep) (qz th key (some val) f m fu fr fs gn n deep) (rI th key (some val) f m fu fr fs gn n deep) key val++[.vec (.ad cB (sQ th key (some val) f m fu fr fs gn n deep)) Lf.eB],
 fun((th,m,fu,_,fr,fs,gn),n,deep,key,val)=>.bp [.vec 6,bO (rJ th key (some val) f m fu fr fs gn n deep)]⟩
abbrev wK(f:Nat):Spec XC:=⟨fun(_,n,deep,key,_)=>[.ptr 0 0,bO n,bO deep,.s (.str key),.fn fD1 [.ptr 4 0]],fun((th,m,fu,root,fr,fs,gn),_,_,key,_)=>qy th m fu root fr fs gn key,
 fun((th,m,fu,_,fr,_,_),n,deep,key,val)=>anZ f th m fu fr n deep key val,
 fun((th,m,fu,root,fr,fs,gn),n,deep,key,_)=>qy th (pj th key none f m fu fr fs gn n deep) (pn th key none f m fu fr fs gn n deep) root (pq th key none f m fu fr fs gn n deep) (qz th key none f m fu fr fs gn n deep) (rI th key none f m fu fr fs gn n deep) key++[.vec (.ad cB (sQ th key none f m fu fr fs gn n deep)) Lf.eB],
 fun((th,m,fu,_,fr,fs,gn),n,deep,key,_)=>.bp [.vec 5,bO (rJ th key none f m fu fr fs gn n deep)]⟩
def ajy(i:Nat):(ByteArray→RM (XC×List Nat))→RM (XC×List Nat):=fun k=>.look i fun o=>match o with
 |some (.own [.s (.str s)] _)=>k s
 |_=>.fail "no text"
def amf:List AV→RM (XC×List Nat)
 |[t,n,d,.s (.str _),.fn _ [.ptr i 0,.ptr j 0]]=>(mT [t]).bind fun(X,σ)=>match n.dk,d.dk with
  |some (_,_,n),some (_,_,d)=>ajy i fun key=>ajy j fun val=>.ret ((X,n,d,key,val),σ++[i,j])
  |_,_=>.fail "no numbers"
 |_=>.fail "change: arguments"
def amg:List AV→RM (XC×List Nat)
 |[t,n,d,.s (.str _),.fn _ [.ptr i 0]]=>(mT [t]).bind fun(X,σ)=>match n.dk,d.dk with
  |some (_,_,n),some (_,_,d)=>ajy i fun key=>.ret ((X,n,d,key,ByteArray.empty),σ++[i])
  |_,_=>.fail "no numbers"
 |_=>.fail "change: arguments"
def mNo:List AV→RM ((XT×Int×Int)×List Nat)
 |[t,n,d]=>(mT [t]).bind fun(X,σ)=>match n.dk,d.dk with
  |some (_,_,n),some (_,_,d)=>.ret ((X,n,d),σ)
  |_,_=>.fail "no numbers"
 |_=>.fail "node: arguments"
def mLv:List AV→RM ((XT×Int)×List Nat)
 |[t,n]=>(mT [t]).bind fun(X,σ)=>match n.dk with
  |some (_,_,n)=>.ret ((X,n),σ)
  |_=>.fail "no numbers"
 |_=>.fail "leave: arguments"
abbrev abC:=dI sNo mNo
abbrev ajz:=dI sLv mLv
abbrev xX:=anX (dI sWs mTN)
abbrev an0:=uH [n9,dL,dL] [n9] (fun(l,_,_,())=>[(l:List En).length≤100000,iz (bC l)]) (fun(l,key,val,())=>(bw l key val,()))
abbrev an1:=bS [n9,dL] [n9,cv] (fun(l,_,())=>[(l:List En).length≤100000,iz (bC l)]) (fun(l,key,())=>(cI l key,gV l key,()))
abbrev aqf:=bS [wA,dL] [bm] (fun(l,_,())=>[(l:List Br).length≤1000000,iz (mg l)]) (fun(l,key,())=>(aT l key,()))
def oC(f:Nat):aH:=[(37,abC),(85,ajz),(66,xX),(50,an0),(39,aqf),(92,sJ),(80,dI (wJ f) amf)]
def oD(f:Nat):aH:=[(37,abC),(85,ajz),(66,xX),(52,an1),(39,aqf),(92,sJ),(80,dI (wK f) amg)]
abbrev eN:TypeId:=73
def adE:List (Nat×Norm):=[(5,⟨[],[0,1,4,12],6,[]⟩),(10,⟨[],[0,1,2,3,4,12],6,[]⟩),(14,⟨[],[0,1,12,13,14,15],6,[]⟩),(18,⟨[],[0,1,12,14,15],6,[]⟩)]
noncomputable def asl(th:Th)(m:As)(fu root:Int)(fr fs gn:Ws)(n:Int)(key val:ByteArray)(es:List En)(bs:List Br):bB:=
 ⟨sl 106 [(0,.ptr 0 0),(1,bO n),(4,.fn fP1 [.ptr 4 0,.ptr 5 0]),(12,.ptr 6 0)],qx th m fu root fr fs gn key val++[obN true es bs eN],hr Tryd.f80 5,{}⟩
noncomputable def an2(th:Th)(m:As)(fu root:Int)(fr fs gn:Ws)(n deep:Int)(key val:ByteArray)(l:Bool)(es:List En)(bs:List Br):bB:=
 ⟨sl 106 [(0,.ptr 0 0),(1,bO n),(2,bO deep),(3,.s (.str key)),(4,.fn fP1 [.ptr 4 0,.ptr 5 0]),(12,.ptr 6 0)],qx th m fu root fr fs gn key val++[obN l es bs eN],hr Tryd.f80 10,{}⟩
noncomputable def an3(th:Th)(m:As)(fu root:Int)(fr fs gn:Ws)(n:Int)(key val:ByteArray)(l:Bool)(es:List En)(bs:List Br)(k e:Int)(r:List Br):bB:=
 ⟨sl 106 [(0,.ptr 0 0),(1,bO n),(12,.ptr 6 0),(13,bO e),(14,bO k),(15,.vec 7)],qx th m fu root fr fs gn key val++[obN l es bs eN,.vec (.ad cB r) Lf.eB],hr Tryd.f80 14,{}⟩
noncomputable def an4(th:Th)(m:As)(fu root:Int)(fr fs gn:Ws)(n:Int)(key val:ByteArray)(l:Bool)(es:List En)(bs:List Br)(k:Int)(r:List Br):bB:=
 ⟨sl 106 [(0,.ptr 0 0),(1,bO n),(12,.ptr 6 0),(14,bO k),(15,.vec 7)],qx th m fu root fr fs gn key val++[obN l es bs eN,.vec (.ad cB r) Lf.eB],hr Tryd.f80 18,{}⟩
theorem aum(f:Nat)(th:Th)(m:As)(fu root:Int)(fr fs gn:Ws)(n deep:Int)(key val:ByteArray):run P (oC f).sum Tryd.f80 adE (start Tryd.f80 [.ptr 0 0,bO n,bO deep,.s (.str key),.fn fP1 [.ptr 4 0,.ptr 5 0]] (qx th m fu root fr fs gn key val)) (inl:=[fP1])=
 Tree.need (bJ (some [AV.ptr 0 0,.s (.int .i64 n),.s (.int .i64 deep)])) (.need (bJ (some [ae.own [.ptr 1 0,.s (.int .i64 root),.ints .u64 16 fr,.ints .u64 16 fs,.ints .u64 16 gn] 70,.own [.vec 2,.ag 3,.s (.int .i64 fu)] 96,.vec (.ad [.arr .u8 64] th) 138,.map (.arr .u8 64) m])) (.need (Ds.bU th m fu) (.need (aD n) (.ite (gU th m n deep !=0) (.ret [.own [.ptr 1 0,.s (.int .i64 root),.ints .u64 16 fr,.ints .u64 16 fs,.ints .u64 16 gn] 70,.own [.vec 2,.ag 3,.s (.int .i64 fu)] 96,.vec (.ad [.arr .u8 64] th) 138,.map (.arr .u8 64) m,.own [.s (.str key)] 9,.own [.s (.str val)] 9,.own [.s (.bool (kJ th m n deep)),.s (.ro (.ad [.str,.str] (bR th m n deep))),.s (.ro (.ad [.str,.int .i64] (aR th m n deep)))] 73] (.bp [.emp,.s (.int .i64 (gU th m n deep))])) (.ite (kJ th m n deep) (.at (.mk (sl 106 [(0,.ptr 0 0),(1,.s (.int .i64 n)),(4,.fn 49 [.ptr 4 0,.ptr 5 0]),(12,.ptr 6 0)]) [.own [.ptr 1 0,.s (.int .i64 root),.ints .u64 16 fr,.ints .u64 16 fs,.ints .u64 16 gn] 70,.own [.vec 2,.ag 3,.s (.int .i64 fu)] 96,.vec (.ad [.arr .u8 64] th) 138,.map (.arr .u8 64) m,.own [.s (.str key)] 9,.own [.s (.str val)] 9,.own [.s (.bool (kJ th m n deep)),.s (.ro (.ad [.str,.str] (bR th m n deep))),.s (.ro (.ad [.str,.int .i64] (aR th m n deep)))] 73] (hr Tryd.f80 5) (.mk none false 0 [] 0))) (.at (.mk (sl 106 [(0,.ptr 0 0),(1,.s (.int .i64 n)),(2,.s (.int .i64 deep)),(3,.s (.str key)),(4,.fn 49 [.ptr 4 0,.ptr 5 0]),(12,.ptr 6 0)]) [.own [.ptr 1 0,.s (.int .i64 root),.ints .u64 16 fr,.ints .u64 16 fs,.ints .u64 16 gn] 70,.own [.vec 2,.ag 3,.s (.int .i64 fu)] 96,.vec (.ad [.arr .u8 64] th) 138,.map (.arr .u8 64) m,.own [.s (.str key)] 9,.own [.s (.str val)] 9,.own [.s (.bool (kJ th m n deep)),.s (.ro (.ad [.str,.str] (bR th m n deep))),.s (.ro (.ad [.str,.int .i64] (aR th m n deep)))] 73] (hr Tryd.f80 10) (.mk none false 0 [] 0)))))))):=by kernel_rfl
theorem asm(f:Nat)(th:Th)(m:As)(fu root:Int)(fr fs gn:Ws)(n:Int)(key val:ByteArray)(es:List En)(bs:List Br):run P (oC f).sum Tryd.f80 adE (asl th m fu root fr fs gn n key val es bs) (inl:=[fP1])=
 Tree.need (es.length≤100000) (.need (iz (bC es)) (.need (bJ (some [AV.ptr 0 0,.s (.int .i64 n)])) (.need (bJ (some [ae.own [.ptr 1 0,.s (.int .i64 root),.ints .u64 16 fr,.ints .u64 16 fs,.ints .u64 16 gn] 70,.own [.vec 2,.ag 3,.s (.int .i64 fu)] 96,.vec (.ad [.arr .u8 64] th) 138,.map (.arr .u8 64) m])) (.need (bJ (some [AV.ptr 0 0,.agg [.s (.bool true),.s (.ro (.ad [.str,.str] (bw es key val))),.s (.ro (.ad [.str,.int .i64] bs))]])) (.need (bJ (some [ae.own [.ptr 1 0,.s (.int .i64 root),.ints .u64 16 fr,.ints .u64 16 (iZ fs n),.ints .u64 16 (pe fs gn n)] 70,.own [.vec 2,.ag 3,.s (.int .i64 fu)] 96,.vec (.ad [.arr .u8 64] th) 138,.map (.arr .u8 64) m])) (.need (Ds.bU th m fu) (.need (Bx.okW fr) (.need (zC true (bw es key val) bs) (.need (a8 (bw es key val)) (.need (ba bs) (.ret [.own [.ptr 1 0,.s (.int .i64 root),.ints .u64 16 (bo th m fu fr (iZ fs n) true (bw es key val) bs).snd.snd.fst,.ints .u64 16 (bo th m fu fr (iZ fs n) true (bw es key val) bs).snd.snd.snd.fst,.ints .u64 16 (pe fs gn n)] 70,.own [.vec 2,.ag 3,.s (.int .i64 (bo th m fu fr (iZ fs n) true (bw es key val) bs).snd.fst)] 96,.vec (.ad [.arr .u8 64] th) 138,.map (.arr .u8 64) (bo th m fu fr (iZ fs n) true (bw es key val) bs).fst,.own [.s (.str key)] 9,.own [.s (.str val)] 9,.own [.s (.bool true),.vec 7,.s (.ro (.ad [.str,.int .i64] bs))] 73,.dead,.vec (.ad [.str,.int .i64] (bo th m fu fr (iZ fs n) true (bw es key val) bs).snd.snd.snd.snd.fst) 79] (.bp [.vec 8,.s (.int .i64 (bo th m fu fr (iZ fs n) true (bw es key val) bs).snd.snd.snd.snd.snd)])))))))))))):=by kernel_rfl
theorem aqg(f:Nat)(th:Th)(m:As)(fu root:Int)(fr fs gn:Ws)(n deep:Int)(key val:ByteArray)(l:Bool)(es:List En)(bs:List Br):run P (oC f).sum Tryd.f80 adE (an2 th m fu root fr fs gn n deep key val l es bs) (inl:=[fP1])=
 Tree.ite ((↑bs.length:Int)==0) (.ret [.own [.ptr 1 0,.s (.int .i64 root),.ints .u64 16 fr,.ints .u64 16 fs,.ints .u64 16 gn] 70,.own [.vec 2,.ag 3,.s (.int .i64 fu)] 96,.vec (.ad [.arr .u8 64] th) 138,.map (.arr .u8 64) m,.own [.s (.str key)] 9,.own [.s (.str val)] 9,.own [.s (.bool l),.s (.ro (.ad [.str,.str] es)),.s (.ro (.ad [.str,.int .i64] bs))] 73] (.bp [.emp,.s (.aW .i64 4)]))
 (.need (bs.length≤1000000) (.need (iz (mg bs)) (.need ((0:Int)≤aT bs key) (.need (aT bs key<(↑bs.length:Int)) (.need (aD (deep+1)) (.need (bJ (some [AV.ptr 0 0,.s (.int .i64 (bs.getD (aT bs key).toNat (CL.d [.str,.int .i64])).snd.fst),.s (.int .i64 (deep+1)),.s (.str key),.fn 49 [.ptr 4 0,.ptr 5 0]])) (.need (bJ (some [ae.own [.ptr 1 0,.s (.int .i64 root),.ints .u64 16 fr,.ints .u64 16 fs,.ints .u64 16 gn] 70,.own [.vec 2,.ag 3,.s (.int .i64 fu)] 96,.vec (.ad [.arr .u8 64] th) 138,.map (.arr .u8 64) m,.own [.s (.str key)] 9,.own [.s (.str val)] 9])) (.need (Ds.bU th m fu) (.need (Bx.okW fr) (.need ((0:Int)≤(bs.getD (aT bs key).toNat (CL.d [.str,.int .i64])).snd.fst∧(bs.getD (aT bs key).toNat (CL.d [.str,.int .i64])).snd.fst≤65536) (.need ((1:Int)≤deep+1∧deep+1≤17) (.need ((18:Int)≤deep+1+(↑f:Int)) (.need ((1:Nat)≤key.size∧key.size≤24) (.need (val.size≤100) (.at (.mk (sl 106 [(0,.ptr 0 0),(1,.s (.int .i64 n)),(12,.ptr 6 0),(13,.s (.int .i64 (rJ th key (some val) f m fu fr fs gn (bs.getD (aT bs key).toNat (CL.d [.str,.int .i64])).snd.fst (deep+1)))),(14,.s (.int .i64 (aT bs key))),(15,.vec 7)]) [.own [.ptr 1 0,.s (.int .i64 root),.ints .u64 16 (pq th key (some val) f m fu fr fs gn (bs.getD (aT bs key).toNat (CL.d [.str,.int .i64])).snd.fst (deep+1)),.ints .u64 16 (qz th key (some val) f m fu fr fs gn (bs.getD (aT bs key).toNat (CL.d [.str,.int .i64])).snd.fst (deep+1)),.ints .u64 16 (rI th key (some val) f m fu fr fs gn (bs.getD (aT bs key).toNat (CL.d [.str,.int .i64])).snd.fst (deep+1))] 70,.own [.vec 2,.ag 3,.s (.int .i64 (pn th key (some val) f m fu fr fs gn (bs.getD (aT bs key).toNat (CL.d [.str,.int .i64])).snd.fst (deep+1)))] 96,.vec (.ad [.arr .u8 64] th) 138,.map (.arr .u8 64) (pj th key (some val) f m fu fr fs gn (bs.getD (aT bs key).toNat (CL.d [.str,.int .i64])).snd.fst (deep+1)),.own [.s (.str key)] 9,.own [.s (.str val)] 9,.own [.s (.bool l),.s (.ro (.ad [.str,.str] es)),.s (.ro (.ad [.str,.int .i64] bs))] 73,.vec (.ad [.str,.int .i64] (sQ th key (some val) f m fu fr fs gn (bs.getD (aT bs key).toNat (CL.d [.str,.int .i64])).snd.fst (deep+1))) 79] (hr Tryd.f80 14) (.mk none false 0 [] 0))))))))))))))))):=by kernel_rfl
theorem aqh(f:Nat)(th:Th)(m:As)(fu root:Int)(fr fs gn:Ws)(n:Int)(key val:ByteArray)(l:Bool)(es:List En)(bs:List Br)(k e:Int)(r:List Br):run P (oC f).sum Tryd.f80 adE (an3 th m fu root fr fs gn n key val l es bs k e r) (inl:=[fP1])=
 Tree.ite (e !=0) (.ret [.own [.ptr 1 0,.s (.int .i64 root),.ints .u64 16 fr,.ints .u64 16 fs,.ints .u64 16 gn] 70,.own [.vec 2,.ag 3,.s (.int .i64 fu)] 96,.vec (.ad [.arr .u8 64] th) 138,.map (.arr .u8 64) m,.own [.s (.str key)] 9,.own [.s (.str val)] 9,.own [.s (.bool l),.s (.ro (.ad [.str,.str] es)),.s (.ro (.ad [.str,.int .i64] bs))] 73,.vec (.ad [.str,.int .i64] r) 79] (.bp [.emp,.s (.int .i64 e)])) (.ite (decide ((↑r.length:Int)>0)) (.need ((0:Int)≤k) (.need (k<(↑bs.length:Int)) (.need ((0:Int)≤0) (.need ((0:Int)<(↑r.length:Int)) (.at (.mk (sl 106 [(0,.ptr 0 0),(1,.s (.int .i64 n)),(12,.ptr 6 0),(14,.s (.int .i64 k)),(15,.vec 7)]) [.own [.ptr 1 0,.s (.int .i64 root),.ints .u64 16 fr,.ints .u64 16 fs,.ints .u64 16 gn] 70,.own [.vec 2,.ag 3,.s (.int .i64 fu)] 96,.vec (.ad [.arr .u8 64] th) 138,.map (.arr .u8 64) m,.own [.s (.str key)] 9,.own [.s (.str val)] 9,.own [.s (.bool l),.s (.ro (.ad [.str,.str] es)),.s (.ro (.ad [.str,.int .i64] bs))] 73,.vec (.ad [.str,.int .i64] (r.set 0 ((bs.getD k.toNat (CL.d [.str,.int .i64])).fst,(r.getD 0 (CL.d [.str,.int .i64])).snd))) 79] (hr Tryd.f80 18) (.mk none false 0 [] 0))))))) (.at (.mk (sl 106 [(0,.ptr 0 0),(1,.s (.int .i64 n)),(12,.ptr 6 0),(14,.s (.int .i64 k)),(15,.vec 7)]) [.own [.ptr 1 0,.s (.int .i64 root),.ints .u64 16 fr,.ints .u64 16 fs,.ints .u64 16 gn] 70,.own [.vec 2,.ag 3,.s (.int .i64 fu)] 96,.vec (.ad [.arr .u8 64] th) 138,.map (.arr .u8 64) m,.own [.s (.str key)] 9,.own [.s (.str val)] 9,.own [.s (.bool l),.s (.ro (.ad [.str,.str] es)),.s (.ro (.ad [.str,.int .i64] bs))] 73,.vec (.ad [.str,.int .i64] r) 79] (hr Tryd.f80 18) (.mk none false 0 [] 0)))):=by kernel_rfl
theorem aqi(f:Nat)(th:Th)(m:As)(fu root:Int)(fr fs gn:Ws)(n:Int)(key val:ByteArray)(l:Bool)(es:List En)(bs:List Br)(k:Int)(r:List Br):run P (oC f).sum Tryd.f80 adE (an4 th m fu root fr fs gn n key val l es bs k r) (inl:=[fP1])=
 Tree.need ((0:Int)≤0)
 (.need ((0:Int)≤k)
   (.need (k≤(↑bs.length:Int))
     (.need (aD (k+1))
       (.need ((0:Int)≤k+1)
         (.need (k+1≤(↑bs.length:Int))
           (.need ((↑bs.length:Int)≤(↑bs.length:Int))
             (.need ([(List.drop (Int.toNat 0) (List.take k.toNat bs),()),(r,()),(List.drop (k+1).toNat (List.take (↑bs.length:Int).toNat bs),())].length≤100)
               (.need ((bW [(List.drop (Int.toNat 0) (List.take k.toNat bs),()),(r,()),(List.drop (k+1).toNat (List.take (↑bs.length:Int).toNat bs),())]).length≤100000)
                 (.need (bJ (some [AV.ptr 0 0,.s (.int .i64 n)])) (.need (bJ (some [ae.own [.ptr 1 0,.s (.int .i64 root),.ints .u64 16 fr,.ints .u64 16 fs,.ints .u64 16 gn] 70,.own [.vec 2,.ag 3,.s (.int .i64 fu)] 96,.vec (.ad [.arr .u8 64] th) 138,.map (.arr .u8 64) m])) (.need (bJ (some [AV.ptr 0 0,.agg [.s (.bool l),.s (.ro (.ad [.str,.str] es)),.s (.ro (.ad [.str,.int .i64] (bW [(List.drop (Int.toNat 0) (List.take k.toNat bs),()),(r,()),(List.drop (k+1).toNat (List.take (↑bs.length:Int).toNat bs),())])))]])) (.need (bJ (some [ae.own [.ptr 1 0,.s (.int .i64 root),.ints .u64 16 fr,.ints .u64 16 (iZ fs n),.ints .u64 16 (pe fs gn n)] 70,.own [.vec 2,.ag 3,.s (.int .i64 fu)] 96,.vec (.ad [.arr .u8 64] th) 138,.map (.arr .u8 64) m])) (.need (Ds.bU th m fu) (.need (Bx.okW fr) (.need (zC l es (bW [(List.drop (Int.toNat 0) (List.take k.toNat bs),()),(r,()),(List.drop (k+1).toNat (List.take (↑bs.length:Int).toNat bs),())])) (.need (a8 es) (.need (ba (bW [(List.drop (Int.toNat 0) (List.take k.toNat bs),()),(r,()),(List.drop (k+1).toNat (List.take (↑bs.length:Int).toNat bs),())])) (.ret [.own [.ptr 1 0,.s (.int .i64 root),.ints .u64 16 (bo th m fu fr (iZ fs n) l es (bW [(List.drop (Int.toNat 0) (List.take k.toNat bs),()),(r,()),(List.drop (k+1).toNat (List.take (↑bs.length:Int).toNat bs),())])).snd.snd.fst,.ints .u64 16 (bo th m fu fr (iZ fs n) l es (bW [(List.drop (Int.toNat 0) (List.take k.toNat bs),()),(r,()),(List.drop (k+1).toNat (List.take (↑bs.length:Int).toNat bs),())])).snd.snd.snd.fst,.ints .u64 16 (pe fs gn n)] 70,.own [.vec 2,.ag 3,.s (.int .i64 (bo th m fu fr (iZ fs n) l es (bW [(List.drop (Int.toNat 0) (List.take k.toNat bs),()),(r,()),(List.drop (k+1).toNat (List.take (↑bs.length:Int).toNat bs),())])).snd.fst)] 96,.vec (.ad [.arr .u8 64] th) 138,.map (.arr .u8 64) (bo th m fu fr (iZ fs n) l es (bW [(List.drop (Int.toNat 0) (List.take k.toNat bs),()),(r,()),(List.drop (k+1).toNat (List.take (↑bs.length:Int).toNat bs),())])).fst,.own [.s (.str key)] 9,.own [.s (.str val)] 9,.own [.s (.bool l),.s (.ro (.ad [.str,.str] es)),.vec 9] 73,.dead,.vec (.ad wG [(List.drop (Int.toNat 0) (List.take k.toNat bs),()),(r,()),(List.drop (k+1).toNat (List.take (↑bs.length:Int).toNat bs),())]) 71,.dead,.vec (.ad [.str,.int .i64] (bo th m fu fr (iZ fs n) l es (bW [(List.drop (Int.toNat 0) (List.take k.toNat bs),()),(r,()),(List.drop (k+1).toNat (List.take (↑bs.length:Int).toNat bs),())])).snd.snd.snd.snd.fst) 79] (.bp [.vec 10,.s (.int .i64 (bo th m fu fr (iZ fs n) l es (bW [(List.drop (Int.toNat 0) (List.take k.toNat bs),()),(r,()),(List.drop (k+1).toNat (List.take (↑bs.length:Int).toNat bs),())])).snd.snd.snd.snd.snd)]))))))))))))))))))):=by kernel_rfl
def adF:List (Nat×Norm):=[(5,⟨[],[0,1,4,12],5,[]⟩),(10,⟨[],[0,1,2,3,4,12],5,[]⟩),(14,⟨[],[0,1,12,13,14,15],5,[]⟩),(18,⟨[],[0,1,12,14,15],5,[]⟩)]
noncomputable def asn(th:Th)(m:As)(fu root:Int)(fr fs gn:Ws)(n:Int)(key:ByteArray)(es:List En)(bs:List Br):bB:=
 ⟨sl 106 [(0,.ptr 0 0),(1,bO n),(4,.fn fD1 [.ptr 4 0]),(12,.ptr 5 0)],qy th m fu root fr fs gn key++[obN true es bs eN],hr Tryd.f80 5,{}⟩
noncomputable def an5(th:Th)(m:As)(fu root:Int)(fr fs gn:Ws)(n deep:Int)(key:ByteArray)(l:Bool)(es:List En)(bs:List Br):bB:=
 ⟨sl 106 [(0,.ptr 0 0),(1,bO n),(2,bO deep),(3,.s (.str key)),(4,.fn fD1 [.ptr 4 0]),(12,.ptr 5 0)],qy th m fu root fr fs gn key++[obN l es bs eN],hr Tryd.f80 10,{}⟩
noncomputable def an6(th:Th)(m:As)(fu root:Int)(fr fs gn:Ws)(n:Int)(key:ByteArray)(l:Bool)(es:List En)(bs:List Br)(k e:Int)(r:List Br):bB:=
 ⟨sl 106 [(0,.ptr 0 0),(1,bO n),(12,.ptr 5 0),(13,bO e),(14,bO k),(15,.vec 6)],qy th m fu root fr fs gn key++[obN l es bs eN,.vec (.ad cB r) Lf.eB],hr Tryd.f80 14,{}⟩
noncomputable def an7(th:Th)(m:As)(fu root:Int)(fr fs gn:Ws)(n:Int)(key:ByteArray)(l:Bool)(es:List En)(bs:List Br)(k:Int)(r:List Br):bB:=
 ⟨sl 106 [(0,.ptr 0 0),(1,bO n),(12,.ptr 5 0),(14,bO k),(15,.vec 6)],qy th m fu root fr fs gn key++[obN l es bs eN,.vec (.ad cB r) Lf.eB],hr Tryd.f80 18,{}⟩
theorem aun(f:Nat)(th:Th)(m:As)(fu root:Int)(fr fs gn:Ws)(n deep:Int)(key:ByteArray):run P (oD f).sum Tryd.f80 adF (start Tryd.f80 [.ptr 0 0,bO n,bO deep,.s (.str key),.fn fD1 [.ptr 4 0]] (qy th m fu root fr fs gn key)) (inl:=[fD1])=
 Tree.need (bJ (some [AV.ptr 0 0,.s (.int .i64 n),.s (.int .i64 deep)])) (.need (bJ (some [ae.own [.ptr 1 0,.s (.int .i64 root),.ints .u64 16 fr,.ints .u64 16 fs,.ints .u64 16 gn] 70,.own [.vec 2,.ag 3,.s (.int .i64 fu)] 96,.vec (.ad [.arr .u8 64] th) 138,.map (.arr .u8 64) m])) (.need (Ds.bU th m fu) (.need (aD n) (.ite (gU th m n deep !=0) (.ret [.own [.ptr 1 0,.s (.int .i64 root),.ints .u64 16 fr,.ints .u64 16 fs,.ints .u64 16 gn] 70,.own [.vec 2,.ag 3,.s (.int .i64 fu)] 96,.vec (.ad [.arr .u8 64] th) 138,.map (.arr .u8 64) m,.own [.s (.str key)] 9,.own [.s (.bool (kJ th m n deep)),.s (.ro (.ad [.str,.str] (bR th m n deep))),.s (.ro (.ad [.str,.int .i64] (aR th m n deep)))] 73] (.bp [.emp,.s (.int .i64 (gU th m n deep))])) (.ite (kJ th m n deep) (.at (.mk (sl 106 [(0,.ptr 0 0),(1,.s (.int .i64 n)),(4,.fn 51 [.ptr 4 0]),(12,.ptr 5 0)]) [.own [.ptr 1 0,.s (.int .i64 root),.ints .u64 16 fr,.ints .u64 16 fs,.ints .u64 16 gn] 70,.own [.vec 2,.ag 3,.s (.int .i64 fu)] 96,.vec (.ad [.arr .u8 64] th) 138,.map (.arr .u8 64) m,.own [.s (.str key)] 9,.own [.s (.bool (kJ th m n deep)),.s (.ro (.ad [.str,.str] (bR th m n deep))),.s (.ro (.ad [.str,.int .i64] (aR th m n deep)))] 73] (hr Tryd.f80 5) (.mk none false 0 [] 0))) (.at (.mk (sl 106 [(0,.ptr 0 0),(1,.s (.int .i64 n)),(2,.s (.int .i64 deep)),(3,.s (.str key)),(4,.fn 51 [.ptr 4 0]),(12,.ptr 5 0)]) [.own [.ptr 1 0,.s (.int .i64 root),.ints .u64 16 fr,.ints .u64 16 fs,.ints .u64 16 gn] 70,.own [.vec 2,.ag 3,.s (.int .i64 fu)] 96,.vec (.ad [.arr .u8 64] th) 138,.map (.arr .u8 64) m,.own [.s (.str key)] 9,.own [.s (.bool (kJ th m n deep)),.s (.ro (.ad [.str,.str] (bR th m n deep))),.s (.ro (.ad [.str,.int .i64] (aR th m n deep)))] 73] (hr Tryd.f80 10) (.mk none false 0 [] 0)))))))):=by kernel_rfl
theorem aso(f:Nat)(th:Th)(m:As)(fu root:Int)(fr fs gn:Ws)(n:Int)(key:ByteArray)(es:List En)(bs:List Br):run P (oD f).sum Tryd.f80 adF (asn th m fu root fr fs gn n key es bs) (inl:=[fD1])=
 Tree.need (es.length≤100000) (.need (iz (bC es)) (.ite (!gV es key) (.ret [.own [.ptr 1 0,.s (.int .i64 root),.ints .u64 16 fr,.ints .u64 16 fs,.ints .u64 16 gn] 70,.own [.vec 2,.ag 3,.s (.int .i64 fu)] 96,.vec (.ad [.arr .u8 64] th) 138,.map (.arr .u8 64) m,.own [.s (.str key)] 9,.own [.s (.bool true),.emp,.s (.ro (.ad [.str,.int .i64] bs))] 73,.vec (.ad [.str,.str] (cI es key)) 34] (.bp [.emp,.s (.aW .i64 5)])) (.need (bJ (some [AV.ptr 0 0,.s (.int .i64 n)])) (.need (bJ (some [ae.own [.ptr 1 0,.s (.int .i64 root),.ints .u64 16 fr,.ints .u64 16 fs,.ints .u64 16 gn] 70,.own [.vec 2,.ag 3,.s (.int .i64 fu)] 96,.vec (.ad [.arr .u8 64] th) 138,.map (.arr .u8 64) m])) (.need (bJ (some [AV.ptr 0 0,.agg [.s (.bool true),.s (.ro (.ad [.str,.str] (cI es key))),.s (.ro (.ad [.str,.int .i64] bs))]])) (.need (bJ (some [ae.own [.ptr 1 0,.s (.int .i64 root),.ints .u64 16 fr,.ints .u64 16 (iZ fs n),.ints .u64 16 (pe fs gn n)] 70,.own [.vec 2,.ag 3,.s (.int .i64 fu)] 96,.vec (.ad [.arr .u8 64] th) 138,.map (.arr .u8 64) m])) (.need (Ds.bU th m fu) (.need (Bx.okW fr) (.need (zC true (cI es key) bs) (.need (a8 (cI es key)) (.need (ba bs) (.ret [.own [.ptr 1 0,.s (.int .i64 root),.ints .u64 16 (bo th m fu fr (iZ fs n) true (cI es key) bs).snd.snd.fst,.ints .u64 16 (bo th m fu fr (iZ fs n) true (cI es key) bs).snd.snd.snd.fst,.ints .u64 16 (pe fs gn n)] 70,.own [.vec 2,.ag 3,.s (.int .i64 (bo th m fu fr (iZ fs n) true (cI es key) bs).snd.fst)] 96,.vec (.ad [.arr .u8 64] th) 138,.map (.arr .u8 64) (bo th m fu fr (iZ fs n) true (cI es key) bs).fst,.own [.s (.str key)] 9,.own [.s (.bool true),.vec 6,.s (.ro (.ad [.str,.int .i64] bs))] 73,.dead,.vec (.ad [.str,.int .i64] (bo th m fu fr (iZ fs n) true (cI es key) bs).snd.snd.snd.snd.fst) 79] (.bp [.vec 7,.s (.int .i64 (bo th m fu fr (iZ fs n) true (cI es key) bs).snd.snd.snd.snd.snd)]))))))))))))):=by kernel_rfl
theorem aqj(f:Nat)(th:Th)(m:As)(fu root:Int)(fr fs gn:Ws)(n deep:Int)(key:ByteArray)(l:Bool)(es:List En)(bs:List Br):run P (oD f).sum Tryd.f80 adF (an5 th m fu root fr fs gn n deep key l es bs) (inl:=[fD1])=
 Tree.ite ((↑bs.length:Int)==0) (.ret [.own [.ptr 1 0,.s (.int .i64 root),.ints .u64 16 fr,.ints .u64 16 fs,.ints .u64 16 gn] 70,.own [.vec 2,.ag 3,.s (.int .i64 fu)] 96,.vec (.ad [.arr .u8 64] th) 138,.map (.arr .u8 64) m,.own [.s (.str key)] 9,.own [.s (.bool l),.s (.ro (.ad [.str,.str] es)),.s (.ro (.ad [.str,.int .i64] bs))] 73] (.bp [.emp,.s (.aW .i64 4)])) (.need (bs.length≤1000000) (.need (iz (mg bs)) (.need ((0:Int)≤aT bs key) (.need (aT bs key<(↑bs.length:Int)) (.need (aD (deep+1)) (.need (bJ (some [AV.ptr 0 0,.s (.int .i64 (bs.getD (aT bs key).toNat (CL.d [.str,.int .i64])).snd.fst),.s (.int .i64 (deep+1)),.s (.str key),.fn 51 [.ptr 4 0]])) (.need (bJ (some [ae.own [.ptr 1 0,.s (.int .i64 root),.ints .u64 16 fr,.ints .u64 16 fs,.ints .u64 16 gn] 70,.own [.vec 2,.ag 3,.s (.int .i64 fu)] 96,.vec (.ad [.arr .u8 64] th) 138,.map (.arr .u8 64) m,.own [.s (.str key)] 9])) (.need (Ds.bU th m fu) (.need (Bx.okW fr) (.need ((0:Int)≤(bs.getD (aT bs key).toNat (CL.d [.str,.int .i64])).snd.fst∧(bs.getD (aT bs key).toNat (CL.d [.str,.int .i64])).snd.fst≤65536) (.need ((1:Int)≤deep+1∧deep+1≤17) (.need ((18:Int)≤deep+1+(↑f:Int)) (.need ((1:Nat)≤key.size∧key.size≤24) (.need (ByteArray.empty.size≤100) (.at (.mk (sl 106 [(0,.ptr 0 0),(1,.s (.int .i64 n)),(12,.ptr 5 0),(13,.s (.int .i64 (rJ th key none f m fu fr fs gn (bs.getD (aT bs key).toNat (CL.d [.str,.int .i64])).snd.fst (deep+1)))),(14,.s (.int .i64 (aT bs key))),(15,.vec 6)]) [.own [.ptr 1 0,.s (.int .i64 root),.ints .u64 16 (pq th key none f m fu fr fs gn (bs.getD (aT bs key).toNat (CL.d [.str,.int .i64])).snd.fst (deep+1)),.ints .u64 16 (qz th key none f m fu fr fs gn (bs.getD (aT bs key).toNat (CL.d [.str,.int .i64])).snd.fst (deep+1)),.ints .u64 16 (rI th key none f m fu fr fs gn (bs.getD (aT bs key).toNat (CL.d [.str,.int .i64])).snd.fst (deep+1))] 70,.own [.vec 2,.ag 3,.s (.int .i64 (pn th key none f m fu fr fs gn (bs.getD (aT bs key).toNat (CL.d [.str,.int .i64])).snd.fst (deep+1)))] 96,.vec (.ad [.arr .u8 64] th) 138,.map (.arr .u8 64) (pj th key none f m fu fr fs gn (bs.getD (aT bs key).toNat (CL.d [.str,.int .i64])).snd.fst (deep+1)),.own [.s (.str key)] 9,.own [.s (.bool l),.s (.ro (.ad [.str,.str] es)),.s (.ro (.ad [.str,.int .i64] bs))] 73,.vec (.ad [.str,.int .i64] (sQ th key none f m fu fr fs gn (bs.getD (aT bs key).toNat (CL.d [.str,.int .i64])).snd.fst (deep+1))) 79] (hr Tryd.f80 14) (.mk none false 0 [] 0))))))))))))))))):=by kernel_rfl
theorem aqk(f:Nat)(th:Th)(m:As)(fu root:Int)(fr fs gn:Ws)(n:Int)(key:ByteArray)(l:Bool)(es:List En)(bs:List Br)(k e:Int)(r:List Br):run P (oD f).sum Tryd.f80 adF (an6 th m fu root fr fs gn n key l es bs k e r) (inl:=[fD1])=
 Tree.ite (e !=0) (.ret [.own [.ptr 1 0,.s (.int .i64 root),.ints .u64 16 fr,.ints .u64 16 fs,.ints .u64 16 gn] 70,.own [.vec 2,.ag 3,.s (.int .i64 fu)] 96,.vec (.ad [.arr .u8 64] th) 138,.map (.arr .u8 64) m,.own [.s (.str key)] 9,.own [.s (.bool l),.s (.ro (.ad [.str,.str] es)),.s (.ro (.ad [.str,.int .i64] bs))] 73,.vec (.ad [.str,.int .i64] r) 79] (.bp [.emp,.s (.int .i64 e)])) (.ite (decide ((↑r.length:Int)>0)) (.need ((0:Int)≤k) (.need (k<(↑bs.length:Int)) (.need ((0:Int)≤0) (.need ((0:Int)<(↑r.length:Int)) (.at (.mk (sl 106 [(0,.ptr 0 0),(1,.s (.int .i64 n)),(12,.ptr 5 0),(14,.s (.int .i64 k)),(15,.vec 6)]) [.own [.ptr 1 0,.s (.int .i64 root),.ints .u64 16 fr,.ints .u64 16 fs,.ints .u64 16 gn] 70,.own [.vec 2,.ag 3,.s (.int .i64 fu)] 96,.vec (.ad [.arr .u8 64] th) 138,.map (.arr .u8 64) m,.own [.s (.str key)] 9,.own [.s (.bool l),.s (.ro (.ad [.str,.str] es)),.s (.ro (.ad [.str,.int .i64] bs))] 73,.vec (.ad [.str,.int .i64] (r.set 0 ((bs.getD k.toNat (CL.d [.str,.int .i64])).fst,(r.getD 0 (CL.d [.str,.int .i64])).snd))) 79] (hr Tryd.f80 18) (.mk none false 0 [] 0))))))) (.at (.mk (sl 106 [(0,.ptr 0 0),(1,.s (.int .i64 n)),(12,.ptr 5 0),(14,.s (.int .i64 k)),(15,.vec 6)]) [.own [.ptr 1 0,.s (.int .i64 root),.ints .u64 16 fr,.ints .u64 16 fs,.ints .u64 16 gn] 70,.own [.vec 2,.ag 3,.s (.int .i64 fu)] 96,.vec (.ad [.arr .u8 64] th) 138,.map (.arr .u8 64) m,.own [.s (.str key)] 9,.own [.s (.bool l),.s (.ro (.ad [.str,.str] es)),.s (.ro (.ad [.str,.int .i64] bs))] 73,.vec (.ad [.str,.int .i64] r) 79] (hr Tryd.f80 18) (.mk none false 0 [] 0)))):=by kernel_rfl
theorem aql(f:Nat)(th:Th)(m:As)(fu root:Int)(fr fs gn:Ws)(n:Int)(key:ByteArray)(l:Bool)(es:List En)(bs:List Br)(k:Int)(r:List Br):run P (oD f).sum Tryd.f80 adF (an7 th m fu root fr fs gn n key l es bs k r) (inl:=[fD1])=
 Tree.need ((0:Int)≤0)
 (.need ((0:Int)≤k)
   (.need (k≤(↑bs.length:Int))
     (.need (aD (k+1))
       (.need ((0:Int)≤k+1)
         (.need (k+1≤(↑bs.length:Int))
           (.need ((↑bs.length:Int)≤(↑bs.length:Int))
             (.need ([(List.drop (Int.toNat 0) (List.take k.toNat bs),()),(r,()),(List.drop (k+1).toNat (List.take (↑bs.length:Int).toNat bs),())].length≤100)
               (.need ((bW [(List.drop (Int.toNat 0) (List.take k.toNat bs),()),(r,()),(List.drop (k+1).toNat (List.take (↑bs.length:Int).toNat bs),())]).length≤100000)
                 (.need (bJ (some [AV.ptr 0 0,.s (.int .i64 n)])) (.need (bJ (some [ae.own [.ptr 1 0,.s (.int .i64 root),.ints .u64 16 fr,.ints .u64 16 fs,.ints .u64 16 gn] 70,.own [.vec 2,.ag 3,.s (.int .i64 fu)] 96,.vec (.ad [.arr .u8 64] th) 138,.map (.arr .u8 64) m])) (.need (bJ (some [AV.ptr 0 0,.agg [.s (.bool l),.s (.ro (.ad [.str,.str] es)),.s (.ro (.ad [.str,.int .i64] (bW [(List.drop (Int.toNat 0) (List.take k.toNat bs),()),(r,()),(List.drop (k+1).toNat (List.take (↑bs.length:Int).toNat bs),())])))]])) (.need (bJ (some [ae.own [.ptr 1 0,.s (.int .i64 root),.ints .u64 16 fr,.ints .u64 16 (iZ fs n),.ints .u64 16 (pe fs gn n)] 70,.own [.vec 2,.ag 3,.s (.int .i64 fu)] 96,.vec (.ad [.arr .u8 64] th) 138,.map (.arr .u8 64) m])) (.need (Ds.bU th m fu) (.need (Bx.okW fr) (.need (zC l es (bW [(List.drop (Int.toNat 0) (List.take k.toNat bs),()),(r,()),(List.drop (k+1).toNat (List.take (↑bs.length:Int).toNat bs),())])) (.need (a8 es) (.need (ba (bW [(List.drop (Int.toNat 0) (List.take k.toNat bs),()),(r,()),(List.drop (k+1).toNat (List.take (↑bs.length:Int).toNat bs),())])) (.ret [.own [.ptr 1 0,.s (.int .i64 root),.ints .u64 16 (bo th m fu fr (iZ fs n) l es (bW [(List.drop (Int.toNat 0) (List.take k.toNat bs),()),(r,()),(List.drop (k+1).toNat (List.take (↑bs.length:Int).toNat bs),())])).snd.snd.fst,.ints .u64 16 (bo th m fu fr (iZ fs n) l es (bW [(List.drop (Int.toNat 0) (List.take k.toNat bs),()),(r,()),(List.drop (k+1).toNat (List.take (↑bs.length:Int).toNat bs),())])).snd.snd.snd.fst,.ints .u64 16 (pe fs gn n)] 70,.own [.vec 2,.ag 3,.s (.int .i64 (bo th m fu fr (iZ fs n) l es (bW [(List.drop (Int.toNat 0) (List.take k.toNat bs),()),(r,()),(List.drop (k+1).toNat (List.take (↑bs.length:Int).toNat bs),())])).snd.fst)] 96,.vec (.ad [.arr .u8 64] th) 138,.map (.arr .u8 64) (bo th m fu fr (iZ fs n) l es (bW [(List.drop (Int.toNat 0) (List.take k.toNat bs),()),(r,()),(List.drop (k+1).toNat (List.take (↑bs.length:Int).toNat bs),())])).fst,.own [.s (.str key)] 9,.own [.s (.bool l),.s (.ro (.ad [.str,.str] es)),.vec 8] 73,.dead,.vec (.ad wG [(List.drop (Int.toNat 0) (List.take k.toNat bs),()),(r,()),(List.drop (k+1).toNat (List.take (↑bs.length:Int).toNat bs),())]) 71,.dead,.vec (.ad [.str,.int .i64] (bo th m fu fr (iZ fs n) l es (bW [(List.drop (Int.toNat 0) (List.take k.toNat bs),()),(r,()),(List.drop (k+1).toNat (List.take (↑bs.length:Int).toNat bs),())])).snd.snd.snd.snd.fst) 79] (.bp [.vec 9,.s (.int .i64 (bo th m fu fr (iZ fs n) l es (bW [(List.drop (Int.toNat 0) (List.take k.toNat bs),()),(r,()),(List.drop (k+1).toNat (List.take (↑bs.length:Int).toNat bs),())])).snd.snd.snd.snd.snd)]))))))))))))))))))):=by kernel_rfl
end Ts
namespace Ts
open Go Go.Sx Go.Proofs Lf
def TN:Nat→Type
 |0=>Int×List En
 |h+1=>Int×List (ByteArray×TN h)
abbrev Kd(h:Nat):Type:=ByteArray×TN h
def pg:(h:Nat)→TN h→Int
 |0,t=>t.1
 |_+1,t=>t.1
def eb:(h:Nat)→TN h→List En
 |0,t=>t.2
 |h+1,t=>t.2.flatMap fun k=>eb h k.2
def oE:(h:Nat)→TN h→List Int
 |0,t=>[t.1]
 |h+1,t=>t.1::t.2.flatMap fun k=>oE h k.2
def cT(h:Nat)(k:Kd h):Br:=(k.1,pg h k.2,())
def bP(h:Nat)(ks:List (Kd h)):List En:=ks.flatMap fun k=>eb h k.2
def bQ(h:Nat)(ks:List (Kd h)):List Int:=ks.flatMap fun k=>oE h k.2
def rep(th:Th)(m:As):(h:Nat)→TN h→Prop
 |0,t=>Rd th m t.1 true t.2 []
 |h+1,t=>Rd th m t.1 false [] (t.2.map (cT h))∧∀k∈t.2,rep th m h k.2
def adG(h:Nat)(ks:List (Kd h)):Prop:=ks.Pairwise (fun a b=>∀e∈eb h a.2,slt e.1 b.1=true)∧∀k∈ks,∀e∈eb h k.2,slt e.1 k.1=false
def bT{h:Nat}:List (Kd h)→List (Kd h)
 |[]=>[]
 |k::r=>(ByteArray.empty,k.2)::r
def bX{h:Nat}(s:ByteArray):List (Kd h)→List (Kd h)
 |[]=>[]
 |k::r=>(s,k.2)::r
def nv(h:Nat)(ks:List (Kd h)):Int:=bg [] (ks.map (cT h))
def sO:(h:Nat)→TN h→Prop
 |0,t=>t.2≠[]∧jw t.2=true∧bg t.2 []≤254
 |h+1,t=>t.2≠[]∧bT t.2=t.2∧gH (t.2.map (cT h))=true∧nv h t.2≤254∧adG h t.2∧∀k∈t.2,sO h k.2
def zU(n:Int):Nat:=(n - 155).toNat
def tq:(h:Nat)→TN h→Nat
 |0,_=>0
 |h+1,t=>3^(h+1)*(19+zU (nv h t.2))+(t.2.map fun k=>tq h k.2).sum
def eX(h:Nat)(ks:List (Kd h)):Nat:=(ks.map fun k=>tq h k.2).sum
theorem agU{h:Nat}(t:TN (h+1)):eb (h+1) t=bP h t.2:=rfl
theorem ajA{h:Nat}(t:TN (h+1)):tq (h+1) t=3^(h+1)*(19+zU (nv h t.2))+eX h t.2:=rfl
theorem vG:∀(h:Nat) (t:TN h),pg h t∈oE h t
 |0,t=>List.mem_singleton.2 rfl
 |h+1,t=>List.mem_cons_self
theorem tu:∀(h:Nat) {t:TN h},sO h t→eb h t≠[]
 |0,t,ok=>ok.1
 |h+1,t,ok=>by
  obtain⟨h1,_,_,_,_,h6⟩:=ok
  obtain⟨k,r,e⟩:=List.exists_cons_of_ne_nil h1
  have:=tu h (h6 k (by rw[e];exact List.mem_cons_self))
  rw[agU,e]
  show eb h k.2++_≠[]
  intro hn
  exact this (List.append_eq_nil_iff.1 hn).1
theorem jF{h:Nat}(a b:List (Kd h)):bP h (a++b)=bP h a++bP h b:=List.flatMap_append
theorem qA{h:Nat}(a b:List (Kd h)):bQ h (a++b)=bQ h a++bQ h b:=List.flatMap_append
theorem qB{h:Nat}(a b:List (Kd h)):eX h (a++b)=eX h a+eX h b:=by simp[eX]
theorem jY{h:Nat}(k:Kd h)(r:List (Kd h)):bP h (k::r)=eb h k.2++bP h r:=rfl
theorem lI{h:Nat}(k:Kd h)(r:List (Kd h)):bQ h (k::r)=oE h k.2++bQ h r:=rfl
theorem ij{h:Nat}(k:Kd h)(r:List (Kd h)):eX h (k::r)=tq h k.2+eX h r:=by simp[eX]
theorem jG{h:Nat}(ks:List (Kd h)):aa (ks.map (cT h))=(bT ks).map (cT h):=by cases ks<;>rfl
theorem abD{h:Nat}(s:ByteArray)(ks:List (Kd h)):kK s (ks.map (cT h))=(bX s ks).map (cT h):=by cases ks<;>rfl
theorem agV(s s':ByteArray)(l:List Br):kK s (kK s' l)=kK s l:=by cases l<;>rfl
theorem vH{h:Nat}(ks:List (Kd h)):bT (bT ks)=bT ks:=by cases ks<;>rfl
theorem agW{h:Nat}(s:ByteArray)(ks:List (Kd h)):bT (bX s ks)=bT ks:=by cases ks<;>rfl
theorem pr{h:Nat}(ks:List (Kd h)):bP h (bT ks)=bP h ks:=by cases ks<;>rfl
theorem xY{h:Nat}(ks:List (Kd h)):bQ h (bT ks)=bQ h ks:=by cases ks<;>rfl
theorem xZ{h:Nat}(ks:List (Kd h)):eX h (bT ks)=eX h ks:=by cases ks<;>rfl
theorem agX{h:Nat}(s:ByteArray)(ks:List (Kd h)):bP h (bX s ks)=bP h ks:=by cases ks<;>rfl
theorem ajB{h:Nat}(s:ByteArray)(ks:List (Kd h)):bQ h (bX s ks)=bQ h ks:=by cases ks<;>rfl
theorem ajC{h:Nat}(s:ByteArray)(ks:List (Kd h)):eX h (bX s ks)=eX h ks:=by cases ks<;>rfl
theorem gr{h:Nat}{ks:List (Kd h)}{k:Kd h}(hk:k∈bT ks):∃k'∈ks,k'.2=k.2∧(k.1=ByteArray.empty∨k=k'):=by
 cases ks with
 |nil=>cases hk
 |cons a r=>
  rcases List.mem_cons.1 hk with rfl|h
  ·exact⟨a,List.mem_cons_self,rfl,.inl rfl⟩
  ·exact⟨k,List.mem_cons_of_mem _ h,rfl,.inr rfl⟩
theorem vI(x:Br):3≤pa x:=by unfold pa;omega
theorem ajD(x:En):2≤pB x:=by unfold pB;omega
def gW(bs:List Br):Int:=(bs.map pa).sum
theorem nw:gW []=0:=rfl
theorem dj(b:Br)(r:List Br):gW (b::r)=pa b+gW r:=by simp[gW]
theorem vJ(a b:List Br):gW (a++b)=gW a+gW b:=by simp[gW]
theorem amh(bs:List Br):0≤gW bs:=by
 induction bs with
 |nil=>simp[nw]
 |cons b r ih=>rw[dj];have:=vI b;omega
theorem adH{h:Nat}(ks:List (Kd h)):nv h ks=1+gW (ks.map (cT h)):=by
 unfold nv bg gW
 simp
theorem rK(bs:List Br):gW (aa bs)≤gW bs:=by
 cases bs with
 |nil=>exact Int.le_refl _
 |cons b r=>
  rw[aa,dj,dj]
  have:pa (ByteArray.empty,b.2.1,())=3:=rfl
  have:=vI b
  omega
theorem gN{bs:List Br}:gH bs=true↔(∀b∈bs,b.1.size≤24∧2≤b.2.1∧b.2.1<1024)∧bs.Pairwise fun a b=>slt a.1 b.1=true:=by
 constructor
 ·intro h
  refine⟨fun b hb=>abh h hb, ?_⟩
  have hs:=apr h
  rw[List.pairwise_iff_getElem]
  intro i j hi hj kX
  have:=hs i j kX (by simpa using hj)
  rw[cA bs agw dB i,cA bs agw dB j,bh hi,bh hj]at this
  exact this
 ·rintro⟨h1,h2⟩
  refine cU.2 fun i hi=>qu.2 ?_
  obtain⟨a,b,c⟩:=h1 (bs.getD i dB) (by rw[bh hi];exact List.getElem_mem hi)
  refine⟨by omega,by omega,by omega,fun h0=> ?_⟩
  rw[List.pairwise_iff_getElem]at h2
  have:=h2 (i - 1) i (by omega) hi (by omega)
  rw[bh (by omega),bh hi]
  exact this
theorem ami{a b:ByteArray}(h:slt a b=true):slt ByteArray.empty b=true:=by
 rcases ib ByteArray.empty b with h1|h1|h1
 ·exact h1
 ·subst h1;rw[gq]at h;cases h
 ·rw[gq]at h1;cases h1
theorem x6{bs:List Br}(h:gH bs=true):gH (aa bs)=true:=by
 rw[gN]at h ⊢
 cases bs with
 |nil=>exact h
 |cons b r=>
  obtain⟨h1,h2⟩:=h
  rw[List.pairwise_cons]at h2
  refine⟨fun x hx=> ?_, ?_⟩
  ·rcases List.mem_cons.1 hx with rfl|hx
   ·have:=h1 b List.mem_cons_self
    exact⟨Nat.zero_le 24,this.2⟩
   ·exact h1 x (List.mem_cons_of_mem _ hx)
  ·rw[aa,List.pairwise_cons]
   exact⟨fun x hx=>ami (h2.1 x hx),h2.2⟩
theorem abE{es:List En}:jw es=true↔(∀e∈es,1≤e.1.size∧e.1.size≤24∧e.2.1.size≤100)∧iz (bC es):=by
 constructor
 ·intro h
  refine⟨fun e he=> ?_,arJ h⟩
  obtain⟨i,hi,rfl⟩:=List.getElem_of_mem he
  obtain⟨a,b,c,_⟩:=nU.1 (cU.1 h i hi)
  rw[bh hi]at a b c
  exact⟨by omega,by omega,by omega⟩
 ·rintro⟨h1,h2⟩
  refine cU.2 fun i hi=>nU.2 ?_
  obtain⟨a,b,c⟩:=h1 (es.getD i dE) (by rw[bh hi];exact List.getElem_mem hi)
  refine⟨by omega,by omega,by omega,fun h0=> ?_⟩
  have:=h2 (i - 1) i (by omega) (by simpa using hi)
  rw[cA es o9 dE,cA es o9 dE]at this
  exact this
end Ts
namespace Ts
open Go Go.Sx Go.Proofs Lf
structure S5 where
 m:As
 fu:Int
 fr:Ws
 fs:Ws
 gn:Ws
structure xt (th:Th) (s:S5):Prop where
 d:Ds.bU th s.m s.fu
 fr:Bx.okW s.fr
 fs:Bx.okW s.fs
 gn:Bx.okW s.gn
 pg:∀p,In s.fr p→2≤p∧Ds.uU th p=true
structure qC (th:Th) (s t:S5) (N V:List Int):Prop where
 ok:xt th t
 nd:N.Nodup
 sub:∀p∈N,In s.fr p
 fr:∀p,In t.fr p↔In s.fr p∧p ∉ N
 fs:∀p,In t.fs p↔(In s.fs p∧p ∉ V)∨p∈N
 gn:∀p,In t.gn p↔In s.gn p∨(In s.fs p∧p∈V)
 rd:∀p,¬In s.fr p→Ds.ji th t.m p=Ds.ji th s.m p∧Ds.gS th t.m p=Ds.gS th s.m p
 fu:s.fu= -1→t.fu= -1
def wS(th:Th)(s:S5)(l:Bool)(es:List En)(bs:List Br):S5:=
 ⟨(bG th s.m s.fu s.fr s.fs l es bs).1,(bG th s.m s.fu s.fr s.fs l es bs).2.1,(bG th s.m s.fu s.fr s.fs l es bs).2.2.1,(bG th s.m s.fu s.fr s.fs l es bs).2.2.2.1,s.gn⟩
def wE(th:Th)(s:S5)(l:Bool)(es:List En)(bs:List Br):Int:=(bG th s.m s.fu s.fr s.fs l es bs).2.2.2.2.2
def wB(th:Th)(s:S5)(l:Bool)(es:List En)(bs:List Br):Br:=(bG th s.m s.fu s.fr s.fs l es bs).2.2.2.2.1
theorem agY{zs:List Int}(h:∀x∈zs,3≤x∧x≤27)(h1:253<zs.sum)(h2:zs.sum≤280):2≤zs.length∧jl zs (gJ zs (zs.length - 1)).1≤153:=by
 have hb:=(nO (l:=zs) (m:=27) (fun x hx=>⟨by have:=(h x hx).1;omega,(h x hx).2⟩) (by omega)).2
 have hl:2≤zs.length:=by omega
 refine⟨hl, ?_⟩
 obtain⟨k,hk,k1,k2⟩:=pf (p:=fun k=>(zs.take k).sum) (c:=127) zs.length (by simp) (by simp only[List.take_length];omega)
 have k1:(zs.take k).sum<127:=k1
 have k2:127≤(zs.take (k+1)).sum:=k2
 have k3:=iA hk
 have k4:zs.getD k 0≤27:=by rw[bh hk];exact(h _ (List.getElem_mem _)).2
 have k5:k+1<zs.length:=by
  rcases Nat.lt_or_ge (k+1) zs.length with h|h
  ·exact h
  ·rw[List.take_of_length_le h]at k3;omega
 have m:=qw zs (zs.length - 1) (k+1) (by omega) (by omega)
 rw[vE _ _ (by omega)]at m
 refine Int.le_trans m ?_
 unfold jl imax
 split<;>omega
theorem afc{bs:List Br}:3*(bs.length:Int)≤gW bs:=by
 induction bs with
 |nil=>simp[nw]
 |cons b r ih=>rw[dj,List.length_cons];have:=vI b;omega
theorem qD(bs:List Br):bg [] bs=1+gW bs:=by simp[bg,gW]
theorem vK(es:List En):bg es []=1+(es.map pB).sum:=by simp[bg]
theorem amj{bs:List Br}(h:gH bs=true):c9 false [] bs=true:=tl (fun e=>by cases e) (fun _=>rfl) rfl h
theorem asp{es:List En}(h:jw es=true):c9 true es []=true:=tl (fun _=>rfl) (fun e=>by cases e) h rfl
theorem ajE{bs:List Br}(jP:gH bs=true)(h1:254<bg [] bs)(h2:bg [] bs≤281):
 dz false [] bs=true∧bg [] (bc false [] bs)≤154∧bg [] (cW false [] bs)≤154∧
  ∃k,0<k∧k<bs.length∧bc false [] bs=bs.take k∧cW false [] bs=bs.drop k∧aZ false [] bs=[]∧cP false [] bs=[]∧bK false [] bs=false:=by
 rw[qD]at h1 h2
 have e0:aE [] bs=bs.map pa:=by simp[aE]
 have hz:∀x∈bs.map pa,3≤x∧x≤27:=fun x hx=>by
  obtain⟨y,hy,rfl⟩:=List.mem_map.1 hx
  have:=abh jP hy
  unfold pa;omega
 obtain⟨b1,b2⟩:=agY hz (by unfold gW at h1;omega) (by unfold gW at h2;omega)
 rw[List.length_map]at b1 b2
 have ok:dz false [] bs=true:=by
  simp only[dz,amj jP,Bool.true_and,decide_eq_true_eq,List.length_nil];omega
 have hsm:ba bs:=⟨by have:=afc (bs:=bs);omega,fun x hx=>by have:=abh jP hx;omega⟩
 obtain⟨_,_,_,_,_,_,_,_,_,f0,f⟩:=rH ok ie hsm
 rw[e0]at f
 have f2:jl (bs.map pa) (dN [] bs)≤153:=by rw[dN,e0,List.length_nil,Nat.zero_add];exact b2
 have p1:=nn (aE [] bs) (([]:List En).length+bs.length - 1) (by simp;omega)
 have p2:=nQ (aE [] bs) (([]:List En).length+bs.length - 1)
 simp only[List.length_nil,Nat.zero_add]at p1 p2
 have e1:aZ false [] bs=[]:=by unfold aZ;rw[if_pos ok,List.take_nil]
 have e2:cP false [] bs=[]:=by unfold cP;rw[if_pos ok,List.drop_nil]
 rw[e1,e2]at f
 unfold imax at f
 refine⟨ok, ?_, ?_,dN [] bs,by unfold dN;simp only[List.length_nil,Nat.zero_add];exact p1,by unfold dN;simp only[List.length_nil,Nat.zero_add];omega,by unfold bc;rw[if_pos ok],by unfold cW;rw[if_pos ok],e1,e2,by unfold bK;rw[ok];rfl⟩
 ·split at f<;>omega
 ·split at f<;>omega
theorem afd{es:List En}:2*(es.length:Int)≤(es.map pB).sum:=by
 induction es with
 |nil=>simp
 |cons b r ih=>rw[List.map_cons,List.sum_cons,List.length_cons];have:=ajD b;omega
theorem ajF{es:List En}{key val:ByteArray}(jP:jw (bw es key val)=true)(h0:bg es []≤254)(h1:¬bg (bw es key val) []≤254):
 dz true (bw es key val) []=true∧bg (aZ true (bw es key val) []) []≤254∧bg (cP true (bw es key val) []) []≤254∧
  ∃k,0<k∧k<(bw es key val).length∧aZ true (bw es key val) []=(bw es key val).take k∧cP true (bw es key val) []=(bw es key val).drop k∧bc true (bw es key val) []=[]∧cW true (bw es key val) []=[]∧bK true (bw es key val) []=true:=by
 have hl:es.length≤200:=by
  have:=afd (es:=es)
  rw[vK]at h0
  omega
 obtain⟨ok,f1,f2⟩:=agR hl h0 (asp jP) h1
 generalize bw es key val=xs at jP h1 ok f1 f2 ⊢
 have e1:bc true xs []=[]:=by unfold bc;rw[if_pos ok,List.take_nil]
 have e2:cW true xs []=[]:=by unfold cW;rw[if_pos ok,List.drop_nil]
 rw[e1]at f1
 rw[e2]at f2
 have h2:2≤xs.length:=by
  simp only[dz,Bool.and_eq_true,decide_eq_true_eq,List.length_nil]at ok
  omega
 have p1:=nn (aE xs []) (xs.length+([]:List Br).length - 1) (by simp;omega)
 have p2:=nQ (aE xs []) (xs.length+([]:List Br).length - 1)
 simp only[List.length_nil,Nat.add_zero]at p1 p2
 exact⟨ok,f1,f2,dN xs [],by unfold dN;simp only[List.length_nil,Nat.add_zero];exact p1,by unfold dN;simp only[List.length_nil,Nat.add_zero];omega,by unfold aZ;rw[if_pos ok],by unfold cP;rw[if_pos ok],e1,e2,by unfold bK;rw[ok];rfl⟩
theorem gO{th:Th}{s:S5}(h:xt th s):qC th s s [] []:=
 ⟨h,List.nodup_nil,fun p hp=>(by cases hp),fun p=>⟨fun x=>⟨x,List.not_mem_nil⟩,fun x=>x.1⟩,fun p=>⟨fun x=>.inl ⟨x,List.not_mem_nil⟩,fun x=>x.elim (fun y=>y.1) (fun y=>by cases y)⟩,
   fun p=>⟨.inl,fun x=>x.elim id (fun y=>by cases y.2)⟩,fun p _=>⟨rfl,rfl⟩,id⟩
theorem eO{th:Th}{s t u:S5}{N1 N2 V1 V2:List Int}(h1:qC th s t N1 V1)(h2:qC th t u N2 V2)(hd:∀p∈V2,p ∉ N1):qC th s u (N1++N2) (V1++V2)where
 ok:=h2.ok
 nd:=List.nodup_append.2 ⟨h1.nd,h2.nd,fun a ha b hb e=>by subst e;exact((h1.fr a).1 (h2.sub a hb)).2 ha⟩
 sub:=fun p hp=>(List.mem_append.1 hp).elim (h1.sub p) (fun h=>((h1.fr p).1 (h2.sub p h)).1)
 fr:=fun p=>by rw[h2.fr,h1.fr,List.mem_append,not_or,and_assoc]
 fs:=fun p=>by
  rw[h2.fs,h1.fs,List.mem_append,List.mem_append,not_or]
  constructor
  ·rintro(⟨⟨a,b⟩|a,c⟩|a)
   ·exact .inl ⟨a,b,c⟩
   ·exact .inr (.inl a)
   ·exact .inr (.inr a)
  ·rintro(⟨a,b,c⟩|a|a)
   ·exact .inl ⟨.inl ⟨a,b⟩,c⟩
   ·exact .inl ⟨.inr a,fun h=>hd p h a⟩
   ·exact .inr a
 gn:=fun p=>by
  rw[h2.gn,h1.gn,h1.fs,List.mem_append]
  constructor
  ·rintro((a|⟨a,b⟩)|⟨⟨a,b⟩|a,c⟩)
   ·exact .inl a
   ·exact .inr ⟨a,.inl b⟩
   ·exact .inr ⟨a,.inr c⟩
   ·exact absurd a (hd p c)
  ·rintro(a|⟨a,b|b⟩)
   ·exact .inl (.inl a)
   ·exact .inl (.inr ⟨a,b⟩)
   ·by_cases hv:p∈V1
    ·exact .inl (.inr ⟨a,hv⟩)
    ·exact .inr ⟨.inl ⟨a,hv⟩,b⟩
 rd:=fun p hp=>by
  have a:=h1.rd p hp
  have b:=h2.rd p (fun h=>hp ((h1.fr p).1 h).1)
  exact⟨b.1.trans a.1,b.2.trans a.2⟩
 fu:=fun h=>h2.fu (h1.fu h)
theorem qC.rep{th:Th}{s t:S5}{N V:List Int}(h:qC th s t N V):∀(k:Nat) {x:TN k},Ts.rep th s.m k x→(∀p∈oE k x,¬In s.fr p)→Ts.rep th t.m k x
 |0,x,hr,hp=>Rd.same hr (h.rd _ (hp _ (vG 0 x)))
 |k+1,x,hr,hp=>⟨Rd.same hr.1 (h.rd _ (hp _ (vG (k+1) x))),fun y hy=>h.rep k (hr.2 y hy) fun p jZ=>hp p (List.mem_cons_of_mem _ (List.mem_flatMap.2 ⟨y,hy,jZ⟩))⟩
theorem adI{th:Th}{s:S5}(h:xt th s)(n:Int):qC th s ⟨s.m,s.fu,s.fr,iZ s.fs n,pe s.fs s.gn n⟩ [] [n]:=by
 have r:In s.fs n→0≤n∧n<1024:=fun hn=>nu h.fs hn
 by_cases hn:In s.fs n
 ·have e1:iZ s.fs n=Bx.cQ s.fs n:=if_pos hn
  have e2:pe s.fs s.gn n=Bx.di s.gn n:=if_pos hn
  rw[e1,e2]
  refine⟨⟨h.d,h.fr,(Bx.kx h.fs n).1,(Bx.iN h.gn n).1,h.pg⟩,List.nodup_nil,fun p hp=>(by cases hp),fun p=>⟨fun x=>⟨x,List.not_mem_nil⟩,fun x=>x.1⟩,fun p=> ?_,fun p=> ?_,fun p _=>⟨rfl,rfl⟩,id⟩
  ·simp only[]
   rw[ph h.fs,List.mem_singleton]
   exact⟨.inl,fun x=>x.elim id (fun y=>by cases y)⟩
  ·simp only[]
   rw[tn h.gn (r hn),List.mem_singleton]
   exact⟨fun x=>x.imp id (fun y=>⟨by rw[y];exact hn,y⟩),fun x=>x.imp id (fun y=>y.2)⟩
 ·have e1:iZ s.fs n=s.fs:=if_neg hn
  have e2:pe s.fs s.gn n=s.gn:=if_neg hn
  rw[e1,e2]
  refine⟨h,List.nodup_nil,fun p hp=>(by cases hp),fun p=>⟨fun x=>⟨x,List.not_mem_nil⟩,fun x=>x.1⟩,fun p=> ?_,fun p=> ?_,fun p _=>⟨rfl,rfl⟩,id⟩
  ·rw[List.mem_singleton]
   exact⟨fun x=>.inl ⟨x,fun e=>hn (by rw[←e];exact x)⟩,fun x=>x.elim (fun y=>y.1) (fun y=>by cases y)⟩
  ·rw[List.mem_singleton]
   exact⟨.inl,fun x=>x.elim id (fun y=>absurd (by rw[←y.2];exact y.1) hn)⟩
theorem aqm{th:Th}{s:S5}{l:Bool}{es:List En}{bs:List Br}(ho:xt th s)(hm:c9 l es (aa bs)=true)(hz:bg es (aa bs)≤254):
 (wE th s l es bs=0∧∃n,qC th s (wS th s l es bs) [n] []∧wB th s l es bs=(cV l es bs,n,())∧Rd th (wS th s l es bs).m n l es (aa bs))∨
 (wE th s l es bs=41∧wS th s l es bs=s∧∀k,¬In s.fr k)∨(wE th s l es bs=42∧qC th s (wS th s l es bs) [] []∧(wS th s l es bs).fu=0):=by
 have he:gI l es (aa bs)=0:=lC.2 ⟨hm,hz⟩
 obtain⟨d1,d2,d3,d4,d5⟩:=alu he
 by_cases hx:Bx.eI s.fr 0=false
 ·have e:bG th s.m s.fu s.fr s.fs l es bs=(s.m,s.fu,s.fr,s.fs,dB,41):=by unfold bG;rw[if_pos hx]
  right;left
  refine⟨by unfold wE;rw[e],by unfold wS;rw[e],fun k=>amc ho.fr hx k⟩
 ·have hx1:Bx.eI s.fr 0=true:=by simpa using hx
  have hn:=abA ho.fr hx1
  obtain⟨tM,hnp⟩:=ho.pg _ hn
  have hnr:=nu ho.fr hn
  obtain⟨g1,g2,g3⟩:=Ds.aqb (th:=th) (m:=s.m) (fu:=s.fu) (n:=Bx.bu s.fr 0) (s:=db l es (aa bs)) ho.d hnp (by omega)
  have gd:=Ds.ant (n:=Bx.bu s.fr 0) (s:=db l es (aa bs)) ho.d
  rcases g1 with⟨a,b,c⟩|⟨a,b⟩
  ·left
   have e:bG th s.m s.fu s.fr s.fs l es bs=((Ds.j8 th s.m s.fu (Bx.bu s.fr 0) (db l es (aa bs))).1,(Ds.j8 th s.m s.fu (Bx.bu s.fr 0) (db l es (aa bs))).2.1,Bx.cQ s.fr (Bx.bu s.fr 0),Bx.di s.fs (Bx.bu s.fr 0),(cV l es bs,Bx.bu s.fr 0,()),0):=by
    unfold bG
    rw[if_neg hx,if_neg (by rw[he];simp),if_neg (by rw[a];simp)]
   refine⟨by unfold wE;rw[e],Bx.bu s.fr 0, ?_,by unfold wB;rw[e], ?_⟩
   ·unfold wS
    rw[e]
    refine⟨⟨gd,(Bx.kx ho.fr _).1,(Bx.iN ho.fs _).1,ho.gn,fun p hp=>ho.pg p ((ph ho.fr).1 hp).1⟩,by simp,fun p hp=>by rw[List.mem_singleton.1 hp];exact hn,fun p=> ?_,fun p=> ?_,fun p=> ?_,fun p hp=>g3 p (fun e=>hp (by rw[e];exact hn)),g2⟩
    ·simp only[]
     rw[ph ho.fr,List.mem_singleton]
    ·simp only[]
     rw[tn ho.fs hnr,List.mem_singleton]
     exact⟨fun x=>x.imp (fun y=>⟨y,List.not_mem_nil⟩) id,fun x=>x.imp (fun y=>y.1) id⟩
    ·exact⟨.inl,fun x=>x.elim id (fun y=>by cases y.2)⟩
   ·unfold wS
    rw[e]
    exact⟨b,by rw[c];exact d1,by rw[c];exact d2,by rw[c];exact d3,by rw[c];exact d4⟩
  ·right;right
   have e:bG th s.m s.fu s.fr s.fs l es bs=((Ds.j8 th s.m s.fu (Bx.bu s.fr 0) (db l es (aa bs))).1,(Ds.j8 th s.m s.fu (Bx.bu s.fr 0) (db l es (aa bs))).2.1,s.fr,s.fs,dB,42):=by
    unfold bG
    rw[if_neg hx,if_neg (by rw[he];simp),if_pos (by rw[a];simp),a]
   refine⟨by unfold wE;rw[e], ?_,by unfold wS;rw[e];exact b⟩
   unfold wS
   rw[e]
   have r:=gO ho
   refine⟨⟨gd,ho.fr,ho.fs,ho.gn,ho.pg⟩,r.nd,r.sub,r.fr,r.fs,r.gn,fun p hp=>g3 p (fun e=>hp (by rw[e];exact hn)),g2⟩
end Ts
namespace Ts
open Go Go.Sx Go.Proofs Lf
theorem ft{th:Th}{m:As}{n deep:Int}(h:gU th m n deep=0):c9 (kJ th m n deep) (bR th m n deep) (aR th m n deep)=true∧(bR th m n deep).length≤126∧(aR th m n deep).length≤84∧a8 (bR th m n deep)∧ba (aR th m n deep)∧
 deep≤16∧bg (bR th m n deep) (aR th m n deep)≤254:=by
 unfold gU at h
 split at h
 ·cases h
 ·rename_i hd
  split at h
  ·rename_i hg
   have e0:rF th m n deep=true:=by unfold rF;rw[decide_eq_true hg,decide_eq_true (by omega)];rfl
   obtain⟨a,b,c,_,e⟩:=alv h
   have sz:=(lC.1 c).2
   have e1:bR th m n deep=nk (Ds.gS th m n):=by unfold bR;rw[if_pos e0]
   have e2:aR th m n deep=mr (Ds.gS th m n):=by unfold aR;rw[if_pos e0]
   have e3:kJ th m n deep=jk (Ds.gS th m n):=by unfold kJ;rw[e0,Bool.true_and]
   rw[e1,e2,e3]
   have s1:=afd (es:=nk (Ds.gS th m n))
   have s2:=afc (bs:=mr (Ds.gS th m n))
   have s3:=amh (mr (Ds.gS th m n))
   unfold bg at sz
   unfold gW at s2 s3
   refine⟨e,by omega,by omega,a,b,by omega, ?_⟩
   unfold bg;exact sz
  ·rename_i hg
   exact absurd h hg
abbrev vL(es:List En):Prop:=∀x∈es,x.1.size≤24
abbrev j7(bs:List Br):Prop:=∀x∈bs,x.1.size≤24
theorem abF{l:Bool}{es:List En}{bs:List Br}(he:vL es)(hb:j7 bs):(cV l es bs).size≤24:=by
 unfold cV
 split
 ·cases es with
  |nil=>exact Nat.zero_le _
  |cons e r=>exact he e List.mem_cons_self
 ·cases bs with
  |nil=>exact Nat.zero_le _
  |cons e r=>exact hb e List.mem_cons_self
theorem zE{th:Th}{m:As}{fu:Int}{fr fs:Ws}{l:Bool}{es:List En}{bs:List Br}(he:vL es)(hb:j7 bs):(bG th m fu fr fs l es bs).2.2.2.2.1.1.size≤24:=by
 unfold bG
 split
 ·exact Nat.zero_le _
 ·split
  ·exact Nat.zero_le _
  ·split
   ·exact Nat.zero_le _
   ·exact abF he hb
theorem ajG{bs:List Br}(h:j7 bs):j7 (aa bs):=by
 cases bs with
 |nil=>exact h
 |cons b r=>
  intro x hx
  rcases List.mem_cons.1 hx with rfl|hx
  ·exact Nat.zero_le _
  ·exact h x (List.mem_cons_of_mem _ hx)
theorem amk{l:Bool}{es:List En}{bs:List Br}(he:vL es):vL (aZ l es bs)∧vL (cP l es bs):=by
 unfold aZ cP
 split
 ·exact⟨fun x hx=>he x (List.mem_of_mem_take hx),fun x hx=>he x (List.mem_of_mem_drop hx)⟩
 ·exact⟨fun x hx=>(by cases hx),fun x hx=>(by cases hx)⟩
theorem aml{l:Bool}{es:List En}{bs:List Br}(he:j7 bs):j7 (bc l es bs)∧j7 (cW l es bs):=by
 unfold bc cW
 split
 ·exact⟨fun x hx=>he x (List.mem_of_mem_take hx),fun x hx=>he x (List.mem_of_mem_drop hx)⟩
 ·exact⟨fun x hx=>(by cases hx),fun x hx=>(by cases hx)⟩
theorem adJ{th:Th}{m:As}{fu:Int}{fr fs:Ws}{l:Bool}{es:List En}{bs:List Br}(hf:Bx.okW fr):0≤(bG th m fu fr fs l es bs).2.2.2.2.1.2.1∧(bG th m fu fr fs l es bs).2.2.2.2.1.2.1≤65536:=by
 have z:0≤dB.2.1∧dB.2.1≤65536:=⟨Int.le_refl 0,by show(0:Int)≤65536;omega⟩
 unfold bG
 split
 ·exact z
 ·rename_i h
  have:=vF hf (by simpa using h)
  split
  ·exact z
  ·split
   ·exact z
   ·exact⟨by show 0≤Bx.bu fr 0;omega,by show Bx.bu fr 0≤65536;omega⟩
theorem noE{q:En→Prop}:∀b∈([]:List En),q b:=fun b hb=>by cases hb
theorem noB{q:Br→Prop}:∀b∈([]:List Br),q b:=fun b hb=>by cases hb
structure ajH (th:Th) (m:As) (fu:Int) (fr:Ws) (l:List Br):Prop where
 d:Ds.bU th m fu
 fr:Bx.okW fr
 two:l.length≤2
 key:j7 l
 pg:∀b∈l,0≤b.2.1∧b.2.1≤65536
theorem nx{th:Th}{m:As}{fu:Int}{fr fs:Ws}{l:Bool}{es:List En}{bs:List Br}(hd:Ds.bU th m fu)(hf:Bx.okW fr)(he:vL es)(hb:j7 bs):
 ajH th (bo th m fu fr fs l es bs).1 (bo th m fu fr fs l es bs).2.1 (bo th m fu fr fs l es bs).2.2.1 (bo th m fu fr fs l es bs).2.2.2.2.1:=by
 have hbb:=ajG hb
 have nil:j7 ([]:List Br):=fun b hb=>by cases hb
 unfold bo
 split
 ·exact⟨hd,hf,Nat.zero_le _,nil,noB⟩
 ·split
  ·obtain⟨a,b⟩:=zD (fs:=fs) (l:=l) (es:=es) (bs:=aa bs) hd hf
   refine⟨a,b,by show 1≤2;omega,fun x hx=> ?_,fun x hx=> ?_⟩
   ·rw[List.mem_singleton.1 hx]
    exact zE he hbb
   ·rw[List.mem_singleton.1 hx]
    exact adJ hf
  ·split
   ·exact⟨hd,hf,Nat.zero_le _,nil,noB⟩
   ·obtain⟨s1,s2⟩:=amk (l:=l) (bs:=aa bs) he
    obtain⟨s3,s4⟩:=aml (l:=l) (es:=es) hbb
    obtain⟨a,b⟩:=zD (fs:=fs) (l:=bK l es (aa bs)) (es:=aZ l es (aa bs)) (bs:=bc l es (aa bs)) hd hf
    simp only[]
    split
    ·exact⟨a,b,Nat.zero_le _,nil,noB⟩
    ·obtain⟨c,d⟩:=zD (fs:=(bG th m fu fr fs (bK l es (aa bs)) (aZ l es (aa bs)) (bc l es (aa bs))).2.2.2.1) (l:=bK l es (aa bs)) (es:=cP l es (aa bs)) (bs:=cW l es (aa bs)) a b
     refine⟨c,d,Nat.le_refl 2,fun x hx=> ?_,fun x hx=> ?_⟩
     ·rcases List.mem_cons.1 hx with rfl|hx
      ·exact zE s1 s3
      ·rw[List.mem_singleton.1 hx]
       exact zE s2 s4
     ·rcases List.mem_cons.1 hx with rfl|hx
      ·exact adJ hf
      ·rw[List.mem_singleton.1 hx]
       exact adJ b
theorem ajI{key:ByteArray}{op:Option ByteArray}{es:List En}(hk:key.size≤24)(he:vL es):vL (doE key op es):=by
 cases op with
 |some v=>
  show vL (bw es key v)
  intro x hx
  unfold bw at hx
  rcases List.mem_append.1 hx with hx|hx
  ·exact he x (List.mem_of_mem_take hx)
  ·rcases List.mem_cons.1 hx with rfl|hx
   ·exact hk
   ·exact he x (List.mem_of_mem_drop hx)
 |none=>
  show vL (if gV es key=true then cI es key else [])
  split
  ·exact fun x hx=>he x (List.mem_filter.1 hx).1
  ·exact fun x hx=>by cases hx
theorem nX{key:ByteArray}{op:Option ByteArray}{es:List En}(hk:key.size≤24)(hv:∀v,op=some v→v.size≤100)(hl:es.length≤126)(he:a8 es):a8 (doE key op es):=by
 cases op with
 |some v=>
  have hv:=hv v rfl
  show a8 (bw es key v)
  refine⟨by rw[zu];split<;>omega,fun x hx=> ?_⟩
  unfold bw at hx
  rcases List.mem_append.1 hx with hx|hx
  ·exact he.2 x (List.mem_of_mem_take hx)
  ·rcases List.mem_cons.1 hx with rfl|hx
   ·exact⟨by show key.size≤1000;omega,by show v.size≤1000;omega⟩
   ·exact he.2 x (List.mem_of_mem_drop hx)
 |none=>
  show a8 (if gV es key=true then cI es key else [])
  split
  ·exact⟨Nat.le_trans (List.length_filter_le _ _) he.1,fun x hx=>he.2 x ((List.mem_filter.1 hx).1)⟩
  ·exact ie
theorem adK{k:ByteArray}{r:List Br}(hk:k.size≤24)(h:j7 r):j7 (kK k r):=by
 cases r with
 |nil=>exact h
 |cons b r=>
  intro x hx
  rcases List.mem_cons.1 hx with rfl|hx
  ·exact hk
  ·exact h x (List.mem_cons_of_mem _ hx)
theorem vM(k:ByteArray)(r:List Br):(kK k r).length=r.length:=by cases r<;>rfl
theorem pt{bs:List Br}(hb:j7 bs)(k:Nat):(bs.getD k dB).1.size≤24:=by
 rcases Nat.lt_or_ge k bs.length with h|h
 ·rw[bh h];exact hb _ (List.getElem_mem h)
 ·rw[List.getD,List.getElem?_eq_none h];exact Nat.zero_le _
theorem afe{bs r:List Br}{k:Nat}{s:ByteArray}(hb:j7 bs)(hk:j7 r)(hs:s.size≤24):j7 (bs.take k++kK s r++bs.drop (k+1)):=fun x hx=>by
 rcases List.mem_append.1 hx with hx|hx
 ·rcases List.mem_append.1 hx with hx|hx
  ·exact hb x (List.mem_of_mem_take hx)
  ·exact adK hs hk x hx
 ·exact hb x (List.mem_of_mem_drop hx)
theorem vN{bs r:List Br}{k:Nat}{s:ByteArray}(hb:j7 bs)(hl:bs.length≤84)(hr:r.length≤2)(hk:j7 r)(hs:s.size≤24):ba (bs.take k++kK s r++bs.drop (k+1)):=by
 refine⟨?_,fun x hx=>Nat.le_trans (afe hb hk hs x hx) (by omega)⟩
 rw[List.length_append,List.length_append,vM,List.length_take,List.length_drop];omega
theorem abG{l:Bool}{es:List En}{bs:List Br}(h:c9 l es bs=true):vL es∧j7 bs:=by
 obtain⟨_,_,h1,h2⟩:=dK h
 exact⟨fun x hx=>(adn h1 hx).1,fun x hx=>(abh h2 hx).1⟩
theorem qE{th:Th}{key:ByteArray}{op:Option ByteArray}(hk:key.size≤24):∀(f:Nat) {m:As} {fu:Int} {fr fs gn:Ws} {n deep:Int},Ds.bU th m fu→Bx.okW fr→
 ajH th (pj th key op f m fu fr fs gn n deep) (pn th key op f m fu fr fs gn n deep) (pq th key op f m fu fr fs gn n deep) (sQ th key op f m fu fr fs gn n deep)
 |0,m,fu,fr,fs,gn,n,deep,hd,hf=>⟨hd,hf,Nat.zero_le _,noB,noB⟩
 |f+1,m,fu,fr,fs,gn,n,deep,hd,hf=>by
  have nil:j7 ([]:List Br):=fun b hb=>by cases hb
  unfold pj pn pq sQ vC
  split
  ·exact⟨hd,hf,Nat.zero_le _,nil,noB⟩
  ·rename_i h0
   obtain⟨hm,_⟩:=ft (by simpa using h0)
   obtain⟨n3,n4⟩:=abG hm
   split
   ·split
    ·exact⟨hd,hf,Nat.zero_le _,nil,noB⟩
    ·exact nx hd hf (ajI hk n3) n4
   ·split
    ·exact⟨hd,hf,Nat.zero_le _,nil,noB⟩
    ·simp only[]
     have r:=qE (op:=op) hk f (fs:=fs) (gn:=gn) (n:=((aR th m n deep).getD (aT (aR th m n deep) key).toNat dB).2.1) (deep:=deep+1) hd hf
     split
     ·exact⟨r.d,r.fr,Nat.zero_le _,nil,noB⟩
     ·exact nx r.d r.fr n3 (afe n4 r.key (pt n4 _))
end Ts
namespace Ts
open Go Go.Sx Go.Proofs Lf
theorem fV{th:Th}{key:ByteArray}{op:Option ByteArray}{f:Nat}{m:As}{fu:Int}{fr fs gn:Ws}{n deep:Int}:vC th key op (f+1) m fu fr fs gn n deep=
 if gU th m n deep≠0 then(m,fu,fr,fs,gn,[],gU th m n deep)
 else if kJ th m n deep=true then
  if qJ key op (bR th m n deep)≠0 then(m,fu,fr,fs,gn,[],qJ key op (bR th m n deep))
  else gL (pe fs gn n) (bo th m fu fr (iZ fs n) true (doE key op (bR th m n deep)) (aR th m n deep))
 else if aR th m n deep=[]then(m,fu,fr,fs,gn,[],4)
 else if rJ th key op f m fu fr fs gn ((aR th m n deep).getD (aT (aR th m n deep) key).toNat dB).2.1 (deep+1)≠0 then
  (pj th key op f m fu fr fs gn ((aR th m n deep).getD (aT (aR th m n deep) key).toNat dB).2.1 (deep+1),pn th key op f m fu fr fs gn ((aR th m n deep).getD (aT (aR th m n deep) key).toNat dB).2.1 (deep+1),
   pq th key op f m fu fr fs gn ((aR th m n deep).getD (aT (aR th m n deep) key).toNat dB).2.1 (deep+1),qz th key op f m fu fr fs gn ((aR th m n deep).getD (aT (aR th m n deep) key).toNat dB).2.1 (deep+1),
   rI th key op f m fu fr fs gn ((aR th m n deep).getD (aT (aR th m n deep) key).toNat dB).2.1 (deep+1),[],rJ th key op f m fu fr fs gn ((aR th m n deep).getD (aT (aR th m n deep) key).toNat dB).2.1 (deep+1))
 else gL (pe (qz th key op f m fu fr fs gn ((aR th m n deep).getD (aT (aR th m n deep) key).toNat dB).2.1 (deep+1)) (rI th key op f m fu fr fs gn ((aR th m n deep).getD (aT (aR th m n deep) key).toNat dB).2.1 (deep+1)) n)
  (bo th (pj th key op f m fu fr fs gn ((aR th m n deep).getD (aT (aR th m n deep) key).toNat dB).2.1 (deep+1)) (pn th key op f m fu fr fs gn ((aR th m n deep).getD (aT (aR th m n deep) key).toNat dB).2.1 (deep+1))
    (pq th key op f m fu fr fs gn ((aR th m n deep).getD (aT (aR th m n deep) key).toNat dB).2.1 (deep+1)) (iZ (qz th key op f m fu fr fs gn ((aR th m n deep).getD (aT (aR th m n deep) key).toNat dB).2.1 (deep+1)) n) false (bR th m n deep)
    ((aR th m n deep).take (aT (aR th m n deep) key).toNat++kK ((aR th m n deep).getD (aT (aR th m n deep) key).toNat dB).1 (sQ th key op f m fu fr fs gn ((aR th m n deep).getD (aT (aR th m n deep) key).toNat dB).2.1 (deep+1))++(aR th m n deep).drop ((aT (aR th m n deep) key).toNat+1))):=rfl
def asq(bs r:List Br)(k:Int):List Br:=bW [(List.drop (Int.toNat 0) (List.take k.toNat bs),()),(r,()),(List.drop (k+1).toNat (List.take (bs.length:Int).toNat bs),())]
theorem abH{bs r:List Br}{k:Int}(h0:0≤k):asq bs r k=bs.take k.toNat++r++bs.drop (k.toNat+1):=by
 show List.drop 0 (List.take k.toNat bs)++(r++(List.drop (k+1).toNat (List.take (bs.length:Int).toNat bs)++[]))=_
 rw[List.append_nil,List.drop_zero,List.append_assoc,show(bs.length:Int).toNat=bs.length from rfl,List.take_length,show(k+1).toNat=k.toNat+1 from by omega]
theorem ajJ{th:Th}{m:As}{fu root:Int}{fr fs gn:Ws}{n deep:Int}{key val:ByteArray}{f:Nat}{c:Chg}(e:vC th key (some val) f m fu fr fs gn n deep=c):
 (wJ f).fC ((th,m,fu,root,fr,fs,gn),n,deep,key,val)=qx th c.1 c.2.1 root c.2.2.1 c.2.2.2.1 c.2.2.2.2.1 key val++[.vec (.ad cB c.2.2.2.2.2.1) Lf.eB]∧(wJ f).out ((th,m,fu,root,fr,fs,gn),n,deep,key,val)=.bp [.vec 6,bO c.2.2.2.2.2.2]:=by
 subst e;exact⟨rfl,rfl⟩
theorem agZ{th:Th}{m:As}{fu root:Int}{fr fs gn:Ws}{n deep:Int}{key val:ByteArray}{f:Nat}{c:Chg}(e:vC th key none f m fu fr fs gn n deep=c):
 (wK f).fC ((th,m,fu,root,fr,fs,gn),n,deep,key,val)=qy th c.1 c.2.1 root c.2.2.1 c.2.2.2.1 c.2.2.2.2.1 key++[.vec (.ad cB c.2.2.2.2.2.1) Lf.eB]∧(wK f).out ((th,m,fu,root,fr,fs,gn),n,deep,key,val)=.bp [.vec 5,bO c.2.2.2.2.2.2]:=by
 subst e;exact⟨rfl,rfl⟩
theorem rL{bs:List Br}{key:ByteArray}(hs:iz (mg bs))(h:bs≠[]):0≤aT bs key∧aT bs key<(bs.length:Int):=by
 obtain⟨p,e,hp,_⟩:=ve (ks:=mg bs) (key:=key) hs (by cases bs with|nil=>exact absurd rfl h|cons b r=>simp)
 unfold aT
 rw[e]
 rw[List.length_map]at hp
 exact⟨by omega,by omega⟩
theorem abI{r:List Br}{k:ByteArray}(h:0<r.length):(r.set 0 (k,(r.getD 0 (CL.d [CK.str,CK.int IntKind.i64])).snd):List Br)=kK k r:=by
 cases r with
 |nil=>simp at h
 |cons b r=>rfl
theorem inI{n:Int}(h0: -65537≤n)(h1:n≤65537):aD n:=⟨by omega,by omega⟩
theorem vO{th:Th}{m:As}{n deep:Int}(h:gU th m n deep=0)(k:Nat):0≤((aR th m n deep).getD k dB).2.1∧((aR th m n deep).getD k dB).2.1≤65536:=by
 obtain⟨hm,_⟩:=ft h
 rcases Nat.lt_or_ge k (aR th m n deep).length with hk|hk
 ·have:=abh (dK hm).2.2.2 (List.getElem_mem hk)
  rw[bh hk];omega
 ·rw[List.getD,List.getElem?_eq_none hk];exact⟨Int.le_refl 0,by show(0:Int)≤65536;omega⟩
theorem ajK{f:Nat}(h:jU P Bx.ct 80 (wJ f)):(oC f).Ok P Bx.ct:=aH.Ok.cons (qt.sum mNo) (aH.Ok.cons (vD.sum mLv) (aH.Ok.cons (ig (ga (jE.sum mTN) 1 _) 1) (aH.Ok.cons ajd.uH (aH.Ok.cons u5.sum (aH.Ok.cons rG.sum (aH.Ok.cons (h.sum amf) aH.Ok.nil))))))
section
variable{th:Th}{m:As}{fu root:Int}{fr fs gn:Ws}{n deep:Int}{key val:ByteArray}{f:Nat}{X:Ctx}
theorem abJ{th:Th}{m:As}{fu root:Int}{fr fs gn:Ws}{key val:ByteArray}:∀y∈adE,(qx th m fu root fr fs gn key val).length≤y.2.m:=fun y hy=>by
 simp only[adE,List.mem_cons,List.not_mem_nil,or_false]at hy
 rcases hy with rfl|rfl|rfl|rfl<;>exact Nat.le_refl _
theorem aff(hz:dS Bx.ct X)(hX:X.H=lk (qx th m fu root fr fs gn key val))(T:(oC f).Ok P Bx.ct){m':As}{fK:Int}{wL pz gn':Ws}{l:Bool}{es:List En}{bs:List Br}{k:Int}{r:List Br}(hd:Ds.bU th m' fK)(hf:Bx.okW wL)(hl:l=false∧es=[])(he:a8 es)
 (hb:ba (bs.take k.toNat++r++bs.drop (k.toNat+1))) (hk0:0≤k) (yJ:k<(bs.length:Int)) (hbl:bs.length≤84)
 (e:vC th key (some val) (f+1) m fu fr fs gn n deep=gL (pe pz gn' n) (bo th m' fK wL (iZ pz n) l es (bs.take k.toNat++r++bs.drop (k.toNat+1)))):
 Safe P 80 X (wI (wJ (f+1)) ((th,m,fu,root,fr,fs,gn),n,deep,key,val)) (an4 th m' fK root wL pz gn' n key val l es bs k r):=by
 rw[←abH hk0]at hb e
 have hjl:=hb.1
 obtain⟨f1,f2⟩:=ajJ (root:=root) (val:=val) e
 refine Ds.eV hz hX abJ T Tryd.func80 (aqi f th m' fK root wL pz gn' n key val l es bs k r) ⟨by omega,hk0,by omega,⟨by omega,by omega⟩,by omega,by omega,by omega,by show 3≤100;omega, ?_,rfl,rfl,rfl,rfl,hd,hf,⟨fun h=>(by rw[hl.1]at h;cases h),fun _=>hl.2⟩,he,hb, ?_⟩
 ·exact Nat.le_trans hjl (by omega)
 ·exact kf ⟨[],[0,1],6,[]⟩ rfl (Nat.le_refl _) (oz.same _) f2 f1
theorem amm(hz:dS Bx.ct X)(hX:X.H=lk (qx th m fu root fr fs gn key val))(T:(oC f).Ok P Bx.ct){m':As}{fK:Int}{wL pz gn':Ws}{l:Bool}{es:List En}{bs:List Br}{k e:Int}{r:List Br}(hd:Ds.bU th m' fK)(hf:Bx.okW wL)(hl:l=false∧es=[])(he:a8 es)
 (hb:ba (bs.take k.toNat++kK (bs.getD k.toNat dB).1 r++bs.drop (k.toNat+1))) (hk0:0≤k) (yJ:k<(bs.length:Int)) (hbl:bs.length≤84)
 (ee:vC th key (some val) (f+1) m fu fr fs gn n deep=if e≠0 then(m',fK,wL,pz,gn',[],e)else gL (pe pz gn' n) (bo th m' fK wL (iZ pz n) l es (bs.take k.toNat++kK (bs.getD k.toNat dB).1 r++bs.drop (k.toNat+1)))):
 Safe P 80 X (wI (wJ (f+1)) ((th,m,fu,root,fr,fs,gn),n,deep,key,val)) (an3 th m' fK root wL pz gn' n key val l es bs k e r):=by
 refine Ds.eV hz hX abJ T Tryd.func80 (aqh f th m' fK root wL pz gn' n key val l es bs k e r) ⟨fun h=> ?_,fun h=>⟨fun h5=> ?_,fun h5=> ?_⟩⟩
 ·have h:e≠0:=by simpa using h
  rw[if_pos h]at ee
  obtain⟨f1,f2⟩:=ajJ (root:=root) (val:=val) ee
  exact kf ⟨[(0,.ad cB [],Lf.eB)],[0,1],6,[]⟩ rfl (Nat.le_refl _) (oz.same _) f2 f1
 ·have h:¬e≠0:=by simpa using h
  rw[if_neg h]at ee
  have h5:=of_decide_eq_true h5
  have e5:=abI (r:=r) (k:=(bs.getD k.toNat dB).1) (by omega)
  rw[←e5]at hb ee
  exact⟨hk0,yJ,by omega,h5,aff hz hX T hd hf hl he hb hk0 yJ hbl ee⟩
 ·have h:¬e≠0:=by simpa using h
  rw[if_neg h]at ee
  have h5:=of_decide_eq_false h5
  have e5:r=[]:=List.eq_nil_of_length_eq_zero (by omega)
  subst e5
  exact aff hz hX T hd hf hl he hb hk0 yJ hbl ee
theorem amn(hz:dS Bx.ct X)(hX:X.H=lk (qx th m fu root fr fs gn key val))(T:(oC f).Ok P Bx.ct)(hd:Ds.bU th m fu)(hf:Bx.okW fr)(h1:1≤deep∧deep≤17)(h2:18≤deep+((f+1:Nat):Int))(hk:1≤key.size∧key.size≤24)(hv:val.size≤100)
 (h:gU th m n deep=0) (hl:kJ th m n deep=false):
 Safe P 80 X (wI (wJ (f+1)) ((th,m,fu,root,fr,fs,gn),n,deep,key,val)) (an2 th m fu root fr fs gn n deep key val (kJ th m n deep) (bR th m n deep) (aR th m n deep)):=by
 obtain⟨hm,n1,n2,n3,n4,n5,_⟩:=ft h
 obtain⟨m1,m2,_,_⟩:=dK hm
 obtain⟨s1,s2⟩:=qv hm
 have hkk:∀v:ByteArray,(some val)=some v→v.size≤100:=fun v e=>by cases e;exact hv
 refine Ds.eV hz hX abJ T Tryd.func80 (aqg f th m fu root fr fs gn n deep key val (kJ th m n deep) (bR th m n deep) (aR th m n deep)) ⟨fun h3=> ?_,fun h3=> ?_⟩
 ·have h3:aR th m n deep=[]:=List.eq_nil_of_length_eq_zero (by have:((aR th m n deep).length:Int)=0:=by simpa using h3
                                                               omega)
  obtain⟨f1,f2⟩:=ajJ (val:=val) (root:=root) (th:=th) (m:=m) (fu:=fu) (fr:=fr) (fs:=fs) (gn:=gn) (key:=key) (f:=f+1) (n:=n) (deep:=deep) (c:=(m,fu,fr,fs,gn,[],4)) (by rw[fV,if_neg (by rw[h];simp),if_neg (by rw[hl];simp),if_pos h3])
  exact kf ⟨[(0,.ad cB [],Lf.eB)],[0,1],6,[]⟩ rfl (Nat.le_refl _) (oz.same _) f2 f1
 ·have h3:aR th m n deep≠[]:=fun e=>by rw[e]at h3;simp at h3
  obtain⟨p0,p1⟩:=rL (key:=key) s2 h3
  have pg:=vO h (aT (aR th m n deep) key).toNat
  have zF:=qE (th:=th) (key:=key) (op:=(some val)) hk.2 f (m:=m) (fu:=fu) (fr:=fr) (fs:=fs) (gn:=gn) (n:=((aR th m n deep).getD (aT (aR th m n deep) key).toNat dB).2.1) (deep:=deep+1) hd hf
  have hb:=vN (bs:=aR th m n deep) (k:=(aT (aR th m n deep) key).toNat) (abG hm).2 n2 zF.two zF.key (pt (abG hm).2 (aT (aR th m n deep) key).toNat)
  refine⟨by omega,s2,p0,p1,inI (by omega) (by omega),rfl,rfl,hd,hf,pg,⟨by omega,by omega⟩,by omega,hk,hv,amm hz hX T zF.d zF.fr ⟨hl,m2 hl⟩ n3 hb p0 p1 n2 ?_⟩
  rw[fV,if_neg (by rw[h];simp),if_neg (by rw[hl];simp),if_neg h3,hl]
  rfl
theorem aqn(hz:dS Bx.ct X)(hX:X.H=lk (qx th m fu root fr fs gn key val))(T:(oC f).Ok P Bx.ct)(hd:Ds.bU th m fu)(hf:Bx.okW fr)(hk:1≤key.size∧key.size≤24)(hv:val.size≤100)
 (h:gU th m n deep=0) (hl:kJ th m n deep=true):
 Safe P 80 X (wI (wJ (f+1)) ((th,m,fu,root,fr,fs,gn),n,deep,key,val)) (asl th m fu root fr fs gn n key val (bR th m n deep) (aR th m n deep)):=by
 obtain⟨hm,n1,n2,n3,n4,n5,_⟩:=ft h
 obtain⟨m1,m2,_,_⟩:=dK hm
 obtain⟨s1,s2⟩:=qv hm
 have hkk:∀v:ByteArray,(some val)=some v→v.size≤100:=fun v e=>by cases e;exact hv
 obtain⟨f1,f2⟩:=ajJ (val:=val) (root:=root) (th:=th) (m:=m) (fu:=fu) (fr:=fr) (fs:=fs) (gn:=gn) (key:=key) (f:=f+1) (n:=n) (deep:=deep) (c:=gL (pe fs gn n) (bo th m fu fr (iZ fs n) true (bw (bR th m n deep) key val) (aR th m n deep))) (by rw[fV,if_neg (by rw[h];simp),if_pos hl,if_neg (by show¬(0:Int)≠0;simp)];rfl)
 refine Ds.eV hz hX abJ T Tryd.func80 (asm f th m fu root fr fs gn n key val (bR th m n deep) (aR th m n deep)) ⟨by omega,s1,rfl,rfl,rfl,rfl,hd,hf,⟨fun _=>m1 hl,fun e=>by cases e⟩,nX (op:=some val) hk.2 hkk n1 n3,n4, ?_⟩
 exact kf ⟨[],[0,1],6,[]⟩ rfl (Nat.le_refl _) (oz.same _) f2 f1
theorem vP:∀f,jU P Bx.ct 80 (wJ f)
 |0=>by
  rintro⟨⟨(th:Th),(m:As),(fu:Int),(root:Int),(fr:Ws),(fs:Ws),(gn:Ws)⟩,(n:Int),(deep:Int),(key:ByteArray),(val:ByteArray)⟩ ⟨_,_,_,(h1:1≤deep∧deep≤17),(h2:18≤deep+((0:Nat):Int)),_⟩
  omega
 |f+1=>by
  have T:=ajK (vP f)
  refine fE Tryd.func80 (by kernel_rfl) (fun x=>Nat.le_of_ble_eq_true (by kernel_rfl)) ?_
  rintro⟨⟨(th:Th),(m:As),(fu:Int),(root:Int),(fr:Ws),(fs:Ws),(gn:Ws)⟩,(n:Int),(deep:Int),(key:ByteArray),(val:ByteArray)⟩ ⟨(hd:Ds.bU th m fu),(hf:Bx.okW fr),(hn:0≤n∧n≤65536),(h1:1≤deep∧deep≤17),(h2:18≤deep+((f+1:Nat):Int)),(hk:1≤key.size∧key.size≤24),(hv:val.size≤100),_⟩ X hX hz
  refine Ds.eV hz hX abJ T Tryd.func80 (aum f th m fu root fr fs gn n deep key val) ⟨rfl,rfl,hd,inI (by omega) (by omega),fun h=> ?_,fun h=>⟨fun hl=> ?_,fun hl=> ?_⟩⟩
  ·have h:gU th m n deep≠0:=by simpa using h
   obtain⟨f1,f2⟩:=ajJ (val:=val) (root:=root) (th:=th) (m:=m) (fu:=fu) (fr:=fr) (fs:=fs) (gn:=gn) (key:=key) (f:=f+1) (n:=n) (deep:=deep) (c:=(m,fu,fr,fs,gn,[],gU th m n deep)) (by rw[fV,if_pos h])
   exact kf ⟨[(0,.ad cB [],Lf.eB)],[0,1],6,[]⟩ rfl (Nat.le_refl _) (oz.same _) f2 f1
  ·have h:gU th m n deep=0:=by simpa using h
   have e:=aqn (root:=root) (val:=val) (gn:=gn) (fs:=fs) hz hX T hd hf hk hv h hl
   rw[hl]
   exact e
  ·have h:gU th m n deep=0:=by simpa using h
   exact amn hz hX T hd hf h1 h2 hk hv h hl
end
end Ts
namespace Ts
open Go Go.Sx Go.Proofs Lf
theorem ajL{f:Nat}(h:jU P Bx.ct 80 (wK f)):(oD f).Ok P Bx.ct:=aH.Ok.cons (qt.sum mNo) (aH.Ok.cons (vD.sum mLv) (aH.Ok.cons (ig (ga (jE.sum mTN) 1 _) 1) (aH.Ok.cons ai4.sum (aH.Ok.cons u5.sum (aH.Ok.cons rG.sum (aH.Ok.cons (h.sum amg) aH.Ok.nil))))))
section
variable{th:Th}{m:As}{fu root:Int}{fr fs gn:Ws}{n deep:Int}{key val:ByteArray}{f:Nat}{X:Ctx}
theorem abK{th:Th}{m:As}{fu root:Int}{fr fs gn:Ws}{key:ByteArray}:∀y∈adF,(qy th m fu root fr fs gn key).length≤y.2.m:=fun y hy=>by
 simp only[adF,List.mem_cons,List.not_mem_nil,or_false]at hy
 rcases hy with rfl|rfl|rfl|rfl<;>exact Nat.le_refl _
theorem afg(hz:dS Bx.ct X)(hX:X.H=lk (qy th m fu root fr fs gn key))(T:(oD f).Ok P Bx.ct){m':As}{fK:Int}{wL pz gn':Ws}{l:Bool}{es:List En}{bs:List Br}{k:Int}{r:List Br}(hd:Ds.bU th m' fK)(hf:Bx.okW wL)(hl:l=false∧es=[])(he:a8 es)
 (hb:ba (bs.take k.toNat++r++bs.drop (k.toNat+1))) (hk0:0≤k) (yJ:k<(bs.length:Int)) (hbl:bs.length≤84)
 (e:vC th key none (f+1) m fu fr fs gn n deep=gL (pe pz gn' n) (bo th m' fK wL (iZ pz n) l es (bs.take k.toNat++r++bs.drop (k.toNat+1)))):
 Safe P 80 X (wI (wK (f+1)) ((th,m,fu,root,fr,fs,gn),n,deep,key,val)) (an7 th m' fK root wL pz gn' n key l es bs k r):=by
 rw[←abH hk0]at hb e
 have hjl:=hb.1
 obtain⟨f1,f2⟩:=agZ (root:=root) (val:=val) e
 refine Ds.eV hz hX abK T Tryd.func80 (aql f th m' fK root wL pz gn' n key l es bs k r) ⟨by omega,hk0,by omega,⟨by omega,by omega⟩,by omega,by omega,by omega,by show 3≤100;omega, ?_,rfl,rfl,rfl,rfl,hd,hf,⟨fun h=>(by rw[hl.1]at h;cases h),fun _=>hl.2⟩,he,hb, ?_⟩
 ·exact Nat.le_trans hjl (by omega)
 ·exact kf ⟨[],[0,1],5,[]⟩ rfl (Nat.le_refl _) (oz.same _) f2 f1
theorem amo(hz:dS Bx.ct X)(hX:X.H=lk (qy th m fu root fr fs gn key))(T:(oD f).Ok P Bx.ct){m':As}{fK:Int}{wL pz gn':Ws}{l:Bool}{es:List En}{bs:List Br}{k e:Int}{r:List Br}(hd:Ds.bU th m' fK)(hf:Bx.okW wL)(hl:l=false∧es=[])(he:a8 es)
 (hb:ba (bs.take k.toNat++kK (bs.getD k.toNat dB).1 r++bs.drop (k.toNat+1))) (hk0:0≤k) (yJ:k<(bs.length:Int)) (hbl:bs.length≤84)
 (ee:vC th key none (f+1) m fu fr fs gn n deep=if e≠0 then(m',fK,wL,pz,gn',[],e)else gL (pe pz gn' n) (bo th m' fK wL (iZ pz n) l es (bs.take k.toNat++kK (bs.getD k.toNat dB).1 r++bs.drop (k.toNat+1)))):
 Safe P 80 X (wI (wK (f+1)) ((th,m,fu,root,fr,fs,gn),n,deep,key,val)) (an6 th m' fK root wL pz gn' n key l es bs k e r):=by
 refine Ds.eV hz hX abK T Tryd.func80 (aqk f th m' fK root wL pz gn' n key l es bs k e r) ⟨fun h=> ?_,fun h=>⟨fun h5=> ?_,fun h5=> ?_⟩⟩
 ·have h:e≠0:=by simpa using h
  rw[if_pos h]at ee
  obtain⟨f1,f2⟩:=agZ (root:=root) (val:=val) ee
  exact kf ⟨[(0,.ad cB [],Lf.eB)],[0,1],5,[]⟩ rfl (Nat.le_refl _) (oz.same _) f2 f1
 ·have h:¬e≠0:=by simpa using h
  rw[if_neg h]at ee
  have h5:=of_decide_eq_true h5
  have e5:=abI (r:=r) (k:=(bs.getD k.toNat dB).1) (by omega)
  rw[←e5]at hb ee
  exact⟨hk0,yJ,by omega,h5,afg hz hX T hd hf hl he hb hk0 yJ hbl ee⟩
 ·have h:¬e≠0:=by simpa using h
  rw[if_neg h]at ee
  have h5:=of_decide_eq_false h5
  have e5:r=[]:=List.eq_nil_of_length_eq_zero (by omega)
  subst e5
  exact afg hz hX T hd hf hl he hb hk0 yJ hbl ee
theorem amp(hz:dS Bx.ct X)(hX:X.H=lk (qy th m fu root fr fs gn key))(T:(oD f).Ok P Bx.ct)(hd:Ds.bU th m fu)(hf:Bx.okW fr)(h1:1≤deep∧deep≤17)(h2:18≤deep+((f+1:Nat):Int))(hk:1≤key.size∧key.size≤24)
 (h:gU th m n deep=0) (hl:kJ th m n deep=false):
 Safe P 80 X (wI (wK (f+1)) ((th,m,fu,root,fr,fs,gn),n,deep,key,val)) (an5 th m fu root fr fs gn n deep key (kJ th m n deep) (bR th m n deep) (aR th m n deep)):=by
 obtain⟨hm,n1,n2,n3,n4,n5,_⟩:=ft h
 obtain⟨m1,m2,_,_⟩:=dK hm
 obtain⟨s1,s2⟩:=qv hm
 have hkk:∀v:ByteArray,none=some v→v.size≤100:=fun v e=>by cases e
 refine Ds.eV hz hX abK T Tryd.func80 (aqj f th m fu root fr fs gn n deep key (kJ th m n deep) (bR th m n deep) (aR th m n deep)) ⟨fun h3=> ?_,fun h3=> ?_⟩
 ·have h3:aR th m n deep=[]:=List.eq_nil_of_length_eq_zero (by have:((aR th m n deep).length:Int)=0:=by simpa using h3
                                                               omega)
  obtain⟨f1,f2⟩:=agZ (val:=val) (root:=root) (th:=th) (m:=m) (fu:=fu) (fr:=fr) (fs:=fs) (gn:=gn) (key:=key) (f:=f+1) (n:=n) (deep:=deep) (c:=(m,fu,fr,fs,gn,[],4)) (by rw[fV,if_neg (by rw[h];simp),if_neg (by rw[hl];simp),if_pos h3])
  exact kf ⟨[(0,.ad cB [],Lf.eB)],[0,1],5,[]⟩ rfl (Nat.le_refl _) (oz.same _) f2 f1
 ·have h3:aR th m n deep≠[]:=fun e=>by rw[e]at h3;simp at h3
  obtain⟨p0,p1⟩:=rL (key:=key) s2 h3
  have pg:=vO h (aT (aR th m n deep) key).toNat
  have zF:=qE (th:=th) (key:=key) (op:=none) hk.2 f (m:=m) (fu:=fu) (fr:=fr) (fs:=fs) (gn:=gn) (n:=((aR th m n deep).getD (aT (aR th m n deep) key).toNat dB).2.1) (deep:=deep+1) hd hf
  have hb:=vN (bs:=aR th m n deep) (k:=(aT (aR th m n deep) key).toNat) (abG hm).2 n2 zF.two zF.key (pt (abG hm).2 (aT (aR th m n deep) key).toNat)
  refine⟨by omega,s2,p0,p1,inI (by omega) (by omega),rfl,rfl,hd,hf,pg,⟨by omega,by omega⟩,by omega,hk,(Nat.zero_le 100),amo hz hX T zF.d zF.fr ⟨hl,m2 hl⟩ n3 hb p0 p1 n2 ?_⟩
  rw[fV,if_neg (by rw[h];simp),if_neg (by rw[hl];simp),if_neg h3,hl]
  rfl
theorem aqo(hz:dS Bx.ct X)(hX:X.H=lk (qy th m fu root fr fs gn key))(T:(oD f).Ok P Bx.ct)(hd:Ds.bU th m fu)(hf:Bx.okW fr)(hk:1≤key.size∧key.size≤24)
 (h:gU th m n deep=0) (hl:kJ th m n deep=true):
 Safe P 80 X (wI (wK (f+1)) ((th,m,fu,root,fr,fs,gn),n,deep,key,val)) (asn th m fu root fr fs gn n key (bR th m n deep) (aR th m n deep)):=by
 obtain⟨hm,n1,n2,n3,n4,n5,_⟩:=ft h
 obtain⟨m1,m2,_,_⟩:=dK hm
 obtain⟨s1,s2⟩:=qv hm
 have hkk:∀v:ByteArray,none=some v→v.size≤100:=fun v e=>by cases e
 refine Ds.eV hz hX abK T Tryd.func80 (aso f th m fu root fr fs gn n key (bR th m n deep) (aR th m n deep)) ⟨by omega,s1,fun hb=> ?_,fun hb=> ?_⟩
 ·have hb:gV (bR th m n deep) key=false:=by simpa using hb
  have hc:qJ key none (bR th m n deep)=5:=by show(if gV (bR th m n deep) key=true then(0:Int)else 5)=5;rw[if_neg (by rw[hb];simp)]
  obtain⟨f1,f2⟩:=agZ (val:=val) (root:=root) (th:=th) (m:=m) (fu:=fu) (fr:=fr) (fs:=fs) (gn:=gn) (key:=key) (f:=f+1) (n:=n) (deep:=deep) (c:=(m,fu,fr,fs,gn,[],5)) (by rw[fV,if_neg (by rw[h];simp),if_pos hl,if_pos (by rw[hc];simp),hc])
  exact kf ⟨[(0,.ad cB [],Lf.eB)],[0,1],5,[]⟩ rfl (Nat.le_refl _) (oz.same _) f2 f1
 ·have hb:gV (bR th m n deep) key=true:=by simpa using hb
  have hc:qJ key none (bR th m n deep)=0:=by show(if gV (bR th m n deep) key=true then(0:Int)else 5)=0;rw[if_pos hb]
  have ee:doE key none (bR th m n deep)=cI (bR th m n deep) key:=by show(if gV (bR th m n deep) key=true then _ else _)=_;rw[if_pos hb]
  have sm:=nX (key:=key) (op:=none) (es:=bR th m n deep) hk.2 hkk n1 n3
  obtain⟨f1,f2⟩:=agZ (val:=val) (root:=root) (th:=th) (m:=m) (fu:=fu) (fr:=fr) (fs:=fs) (gn:=gn) (key:=key) (f:=f+1) (n:=n) (deep:=deep) (c:=gL (pe fs gn n) (bo th m fu fr (iZ fs n) true (cI (bR th m n deep) key) (aR th m n deep))) (by rw[fV,if_neg (by rw[h];simp),if_pos hl,if_neg (by rw[hc];simp),ee])
  rw[ee]at sm
  exact⟨rfl,rfl,rfl,rfl,hd,hf,⟨fun _=>m1 hl,fun e=>by cases e⟩,sm,n4,kf ⟨[],[0,1],5,[]⟩ rfl (Nat.le_refl _) (oz.same _) f2 f1⟩
theorem vQ:∀f,jU P Bx.ct 80 (wK f)
 |0=>by
  rintro⟨⟨(th:Th),(m:As),(fu:Int),(root:Int),(fr:Ws),(fs:Ws),(gn:Ws)⟩,(n:Int),(deep:Int),(key:ByteArray),(val:ByteArray)⟩ ⟨_,_,_,(h1:1≤deep∧deep≤17),(h2:18≤deep+((0:Nat):Int)),_⟩
  omega
 |f+1=>by
  have T:=ajL (vQ f)
  refine fE Tryd.func80 (by kernel_rfl) (fun x=>Nat.le_of_ble_eq_true (by kernel_rfl)) ?_
  rintro⟨⟨(th:Th),(m:As),(fu:Int),(root:Int),(fr:Ws),(fs:Ws),(gn:Ws)⟩,(n:Int),(deep:Int),(key:ByteArray),(val:ByteArray)⟩ ⟨(hd:Ds.bU th m fu),(hf:Bx.okW fr),(hn:0≤n∧n≤65536),(h1:1≤deep∧deep≤17),(h2:18≤deep+((f+1:Nat):Int)),(hk:1≤key.size∧key.size≤24),(hv:val.size≤100),_⟩ X hX hz
  refine Ds.eV hz hX abK T Tryd.func80 (aun f th m fu root fr fs gn n deep key) ⟨rfl,rfl,hd,inI (by omega) (by omega),fun h=> ?_,fun h=>⟨fun hl=> ?_,fun hl=> ?_⟩⟩
  ·have h:gU th m n deep≠0:=by simpa using h
   obtain⟨f1,f2⟩:=agZ (val:=val) (root:=root) (th:=th) (m:=m) (fu:=fu) (fr:=fr) (fs:=fs) (gn:=gn) (key:=key) (f:=f+1) (n:=n) (deep:=deep) (c:=(m,fu,fr,fs,gn,[],gU th m n deep)) (by rw[fV,if_pos h])
   exact kf ⟨[(0,.ad cB [],Lf.eB)],[0,1],5,[]⟩ rfl (Nat.le_refl _) (oz.same _) f2 f1
  ·have h:gU th m n deep=0:=by simpa using h
   have e:=aqo (root:=root) (val:=val) (gn:=gn) (fs:=fs) hz hX T hd hf hk h hl
   rw[hl]
   exact e
  ·have h:gU th m n deep=0:=by simpa using h
   exact amp hz hX T hd hf h1 h2 hk h hl
end
end Ts
namespace Ts
open Go Go.Sx Go.Proofs Lf
def ob(th:Th)(m:As):Nat→Ws→Ws→Int→Int→Ws×Ws×Int×Int
 |0,fs,gn,_,_=>(fs,gn,0,4)
 |f+1,fs,gn,n,deep=>
  if gU th m n deep≠0 then(fs,gn,0,gU th m n deep)
  else if kJ th m n deep=true∨(aR th m n deep).length≠1 then(fs,gn,n,0)
  else ob th m f (iZ fs n) (pe fs gn n) ((aR th m n deep).getD 0 dB).2.1 (deep+1)
def vR(th:Th)(m:As)(f:Nat)(fs gn:Ws)(n deep:Int):Ws:=(ob th m f fs gn n deep).1
def vS(th:Th)(m:As)(f:Nat)(fs gn:Ws)(n deep:Int):Ws:=(ob th m f fs gn n deep).2.1
def wM(th:Th)(m:As)(f:Nat)(fs gn:Ws)(n deep:Int):Int:=(ob th m f fs gn n deep).2.2.1
def wN(th:Th)(m:As)(f:Nat)(fs gn:Ws)(n deep:Int):Int:=(ob th m f fs gn n deep).2.2.2
abbrev sLo:Spec (XT×Int):=⟨fun(_,n)=>[.ptr 0 0,bO n],fun((th,m,fu,root,fr,fs,gn),_)=>hT th m fu root fr fs gn,fun((th,m,fu,_),n)=>[Ds.bU th m fu,0≤n∧n≤65536],
 fun((th,m,fu,root,fr,fs,gn),n)=>hT th m fu root fr (vR th m 17 fs gn n 1) (vS th m 17 fs gn n 1),fun((th,m,_,_,_,fs,gn),n)=>.bp [bO (wM th m 17 fs gn n 1),bO (wN th m 17 fs gn n 1)]⟩
def ajM:aH:=[(37,abC),(85,ajz)]
def amq:List (Nat×Norm):=[(3,⟨[],[0,1,6],4,[]⟩)]
noncomputable def cLo(th:Th)(m:As)(fu root:Int)(fr fs gn:Ws)(n deep:Int):bB:=⟨sl 38 [(0,.ptr 0 0),(1,bO n),(6,bO deep)],hT th m fu root fr fs gn,hd Tryd.f67 3,{}⟩
theorem auo(th:Th)(m:As)(fu root:Int)(fr fs gn:Ws)(n:Int):run P ajM.sum Tryd.f67 amq (start Tryd.f67 [.ptr 0 0,bO n] (hT th m fu root fr fs gn))=
 Tree.at (.mk (sl 38 [(0,.ptr 0 0),(1,.s (.int .i64 n)),(6,.s (.int .i64 1))]) [.own [.ptr 1 0,.s (.int .i64 root),.ints .u64 16 fr,.ints .u64 16 fs,.ints .u64 16 gn] 70,.own [.vec 2,.ag 3,.s (.int .i64 fu)] 96,.vec (.ad [.arr .u8 64] th) 138,.map (.arr .u8 64) m] (hd Tryd.f67 3) (.mk none false 0 [] 0)):=by kernel_rfl
theorem aup(th:Th)(m:As)(fu root:Int)(fr fs gn:Ws)(n deep:Int):run P ajM.sum Tryd.f67 amq (cLo th m fu root fr fs gn n deep)=
 Tree.need (bJ (some [AV.ptr 0 0,.s (.int .i64 n),.s (.int .i64 deep)]))
 (.need (bJ (some [ae.own [.ptr 1 0,.s (.int .i64 root),.ints .u64 16 fr,.ints .u64 16 fs,.ints .u64 16 gn] 70,.own [.vec 2,.ag 3,.s (.int .i64 fu)] 96,.vec (.ad [.arr .u8 64] th) 138,.map (.arr .u8 64) m])) (.need (Ds.bU th m fu) (.need (aD n) (.ite (gU th m n deep !=0) (.ret [.own [.ptr 1 0,.s (.int .i64 root),.ints .u64 16 fr,.ints .u64 16 fs,.ints .u64 16 gn] 70,.own [.vec 2,.ag 3,.s (.int .i64 fu)] 96,.vec (.ad [.arr .u8 64] th) 138,.map (.arr .u8 64) m,.own [.s (.bool (kJ th m n deep)),.s (.ro (.ad [.str,.str] (bR th m n deep))),.s (.ro (.ad [.str,.int .i64] (aR th m n deep)))] 73] (.bp [.s (.aW .i64 0),.s (.int .i64 (gU th m n deep))])) (.ite (kJ th m n deep) (.ret [.own [.ptr 1 0,.s (.int .i64 root),.ints .u64 16 fr,.ints .u64 16 fs,.ints .u64 16 gn] 70,.own [.vec 2,.ag 3,.s (.int .i64 fu)] 96,.vec (.ad [.arr .u8 64] th) 138,.map (.arr .u8 64) m,.own [.s (.bool (kJ th m n deep)),.s (.ro (.ad [.str,.str] (bR th m n deep))),.s (.ro (.ad [.str,.int .i64] (aR th m n deep)))] 73] (.bp [.s (.int .i64 n),.s (.aW .i64 0)])) (.ite ((↑(aR th m n deep).length:Int) !=1) (.ret [.own [.ptr 1 0,.s (.int .i64 root),.ints .u64 16 fr,.ints .u64 16 fs,.ints .u64 16 gn] 70,.own [.vec 2,.ag 3,.s (.int .i64 fu)] 96,.vec (.ad [.arr .u8 64] th) 138,.map (.arr .u8 64) m,.own [.s (.bool (kJ th m n deep)),.s (.ro (.ad [.str,.str] (bR th m n deep))),.s (.ro (.ad [.str,.int .i64] (aR th m n deep)))] 73] (.bp [.s (.int .i64 n),.s (.aW .i64 0)])) (.need (bJ (some [AV.ptr 0 0,.s (.int .i64 n)])) (.need (bJ (some [ae.own [.ptr 1 0,.s (.int .i64 root),.ints .u64 16 fr,.ints .u64 16 fs,.ints .u64 16 gn] 70,.own [.vec 2,.ag 3,.s (.int .i64 fu)] 96,.vec (.ad [.arr .u8 64] th) 138,.map (.arr .u8 64) m])) (.need ((0:Int)≤0) (.need ((0:Int)<(↑(aR th m n deep).length:Int)) (.need (aD (deep+1)) (.at (.mk (sl 38 [(0,.ptr 0 0),(1,.s (.int .i64 ((aR th m n deep).getD 0 (CL.d [.str,.int .i64])).snd.fst)),(6,.s (.int .i64 (deep+1)))]) [.own [.ptr 1 0,.s (.int .i64 root),.ints .u64 16 fr,.ints .u64 16 (iZ fs n),.ints .u64 16 (pe fs gn n)] 70,.own [.vec 2,.ag 3,.s (.int .i64 fu)] 96,.vec (.ad [.arr .u8 64] th) 138,.map (.arr .u8 64) m] (hd Tryd.f67 3) (.mk none false 0 [] 0)))))))))))))):=by kernel_rfl
theorem abL{Z:aX}:ajM.Ok P Z:=aH.Ok.cons (qt.sum mNo) (aH.Ok.cons (vD.sum mLv) aH.Ok.nil)
theorem ajN{th:Th}{m:As}{fu root:Int}{fr fs gn:Ws}{n:Int}{c:Ws×Ws×Int×Int}(e:c=ob th m 17 fs gn n 1):
 sLo.fC ((th,m,fu,root,fr,fs,gn),n)=hT th m fu root fr c.1 c.2.1∧sLo.out ((th,m,fu,root,fr,fs,gn),n)=.bp [bO c.2.2.1,bO c.2.2.2]:=by
 subst e;exact⟨rfl,rfl⟩
theorem abM{Z:aX}:jU P Z 67 sLo:=by
 refine aO Tryd.func67 (by kernel_rfl) (fun x=>Nat.le_of_ble_eq_true (by kernel_rfl)) ?_
 rintro⟨⟨(th:Th),(m:As),(fu:Int),(root:Int),(fr:Ws),(bY:Ws),(dr:Ws)⟩,(n0:Int)⟩ ⟨(hd:Ds.bU th m fu),(hn0:0≤n0∧n0≤65536),_⟩ X hX hz
 have hm:∀y∈amq,(hT th m fu root fr bY dr).length≤y.2.m:=fun y hy=>by
  simp only[amq,List.mem_singleton]at hy;subst hy;exact Nat.le_refl _
 have loop:∀(f:Nat) (fs gn:Ws) (n deep:Int),1≤deep∧deep≤17→18≤deep+(f:Int)→0≤n∧n≤65536→ob th m f fs gn n deep=ob th m 17 bY dr n0 1→
  Safe P 67 X (kI sLo ((th,m,fu,root,fr,bY,dr),n0)) (cLo th m fu root fr fs gn n deep):=by
  intro f
  induction f with
  |zero=>intro fs gn n deep h1 h2;omega
  |succ f ih=>
   intro fs gn n deep h1 h2 hn e
   rw[ob]at e
   refine Ds.eV hz hX hm abL Tryd.func67 (aup th m fu root fr fs gn n deep) ⟨rfl,rfl,hd,inI (by omega) (by omega),fun h=> ?_,fun h=>⟨fun hl=> ?_,fun hl=>⟨fun h3=> ?_,fun h3=> ?_⟩⟩⟩
   ·have h:gU th m n deep≠0:=by simpa using h
    rw[if_pos h]at e
    obtain⟨f1,f2⟩:=ajN (fu:=fu) (root:=root) (fr:=fr) e
    exact b9 4 rfl (Nat.le_refl _) f2 f1
   ·have h:gU th m n deep=0:=by simpa using h
    rw[if_neg (by rw[h];simp),if_pos (.inl hl)]at e
    obtain⟨f1,f2⟩:=ajN (fu:=fu) (root:=root) (fr:=fr) e
    exact b9 4 rfl (Nat.le_refl _) f2 f1
   ·have h:gU th m n deep=0:=by simpa using h
    have h3:¬((aR th m n deep).length:Int)=1:=by simpa using h3
    rw[if_neg (by rw[h];simp),if_pos (.inr (by omega))]at e
    obtain⟨f1,f2⟩:=ajN (fu:=fu) (root:=root) (fr:=fr) e
    exact b9 4 rfl (Nat.le_refl _) f2 f1
   ·have h:gU th m n deep=0:=by simpa using h
    have h3:((aR th m n deep).length:Int)=1:=by simpa using h3
    rw[if_neg (by rw[h];simp),if_neg (by rintro(a|a);rw[hl]at a;cases a;omega)]at e
    have pg:=vO h 0
    obtain⟨_,_,_,_,_,n5,_⟩:=ft h
    exact⟨rfl,rfl,by omega,by omega,inI (by omega) (by omega),ih _ _ _ _ ⟨by omega,by omega⟩ (by omega) pg e⟩
 exact Ds.eV hz hX hm abL Tryd.func67 (auo th m fu root fr bY dr n0) (loop 17 bY dr n0 1 ⟨by omega,by omega⟩ (by omega) hn0 rfl)
end Ts
namespace Ts
open Go Go.Sx Go.Proofs Lf
def iP(th:Th)(key:ByteArray)(op:Option ByteArray)(m:As)(fu root:Int)(fr fs gn:Ws):Chg:=
 if root≠0 then vC th key op 17 m fu fr fs gn root 1
 else if qJ key op []≠0 then(m,fu,fr,fs,gn,[],qJ key op [])
 else gL gn (bo th m fu fr fs true (doE key op []) [])
abbrev XK:Type:=XT×ByteArray×ByteArray
def wO(th:Th)(key:ByteArray)(op:Option ByteArray)(m:As)(fu root:Int)(fr fs gn:Ws):As:=(iP th key op m fu root fr fs gn).1
def wP(th:Th)(key:ByteArray)(op:Option ByteArray)(m:As)(fu root:Int)(fr fs gn:Ws):Int:=(iP th key op m fu root fr fs gn).2.1
def wQ(th:Th)(key:ByteArray)(op:Option ByteArray)(m:As)(fu root:Int)(fr fs gn:Ws):Ws:=(iP th key op m fu root fr fs gn).2.2.1
def abN(th:Th)(key:ByteArray)(op:Option ByteArray)(m:As)(fu root:Int)(fr fs gn:Ws):Ws:=(iP th key op m fu root fr fs gn).2.2.2.1
def abO(th:Th)(key:ByteArray)(op:Option ByteArray)(m:As)(fu root:Int)(fr fs gn:Ws):Ws:=(iP th key op m fu root fr fs gn).2.2.2.2.1
def vT(th:Th)(key:ByteArray)(op:Option ByteArray)(m:As)(fu root:Int)(fr fs gn:Ws):List Br:=(iP th key op m fu root fr fs gn).2.2.2.2.2.1
def vU(th:Th)(key:ByteArray)(op:Option ByteArray)(m:As)(fu root:Int)(fr fs gn:Ws):Int:=(iP th key op m fu root fr fs gn).2.2.2.2.2.2
def afh(th:Th)(m:As)(fu root:Int)(fr:Ws)(key val:ByteArray):List Prop:=[Ds.bU th m fu,Bx.okW fr,0≤root∧root≤65536,1≤key.size∧key.size≤24,val.size≤100]
abbrev amr:Spec XK:=⟨fun(_,key,_)=>[.ptr 0 0,.s (.str key),.fn fP1 [.ptr 4 0,.ptr 5 0]],fun((th,m,fu,root,fr,fs,gn),key,val)=>qx th m fu root fr fs gn key val,fun((th,m,fu,root,fr,_,_),key,val)=>afh th m fu root fr key val,
 fun((th,m,fu,root,fr,fs,gn),key,val)=>qx th (wO th key (some val) m fu root fr fs gn) (wP th key (some val) m fu root fr fs gn) root (wQ th key (some val) m fu root fr fs gn) (abN th key (some val) m fu root fr fs gn) (abO th key (some val) m fu root fr fs gn) key val++[.vec (.ad cB (vT th key (some val) m fu root fr fs gn)) Lf.eB],
 fun((th,m,fu,root,fr,fs,gn),key,val)=>.bp [.vec 6,bO (vU th key (some val) m fu root fr fs gn)]⟩
abbrev ams:Spec XK:=⟨fun(_,key,_)=>[.ptr 0 0,.s (.str key),.fn fD1 [.ptr 4 0]],fun((th,m,fu,root,fr,fs,gn),key,_)=>qy th m fu root fr fs gn key,fun((th,m,fu,root,fr,_,_),key,val)=>afh th m fu root fr key val,
 fun((th,m,fu,root,fr,fs,gn),key,_)=>qy th (wO th key none m fu root fr fs gn) (wP th key none m fu root fr fs gn) root (wQ th key none m fu root fr fs gn) (abN th key none m fu root fr fs gn) (abO th key none m fu root fr fs gn) key++[.vec (.ad cB (vT th key none m fu root fr fs gn)) Lf.eB],
 fun((th,m,fu,root,fr,fs,gn),key,_)=>.bp [.vec 5,bO (vU th key none m fu root fr fs gn)]⟩
def amt:List AV→RM (XK×List Nat)
 |[t,.s (.str _),.fn _ [.ptr i 0,.ptr j 0]]=>(mT [t]).bind fun(X,σ)=>.look i fun o=>match o with
  |some (.own [.s (.str key)] _)=>.look j fun o=>match o with
   |some (.own [.s (.str val)] _)=>.ret ((X,key,val),σ++[i,j])
   |_=>.fail "no text"
  |_=>.fail "no text"
 |_=>.fail "top: arguments"
def amu:List AV→RM (XK×List Nat)
 |[t,.s (.str _),.fn _ [.ptr i 0]]=>(mT [t]).bind fun(X,σ)=>.look i fun o=>match o with
  |some (.own [.s (.str key)] _)=>.ret ((X,key,ByteArray.empty),σ++[i])
  |_=>.fail "no text"
 |_=>.fail "top: arguments"
def an8:aH:=[(80,dI (wJ 17) amf),(50,an0),(66,xX)]
def an9:aH:=[(80,dI (wK 17) amg),(52,an1),(66,xX)]
theorem auq(th:Th)(m:As)(fu root:Int)(fr fs gn:Ws)(key val:ByteArray):run P an8.sum Tryd.f65 [] (start Tryd.f65 [.ptr 0 0,.s (.str key),.fn fP1 [.ptr 4 0,.ptr 5 0]] (qx th m fu root fr fs gn key val)) (inl:=[fP1])=
 Tree.ite (root !=0) (.need (bJ (some [AV.ptr 0 0,.s (.int .i64 root),.s (.int .i64 1),.s (.str key),.fn 49 [.ptr 4 0,.ptr 5 0]])) (.need (bJ (some [ae.own [.ptr 1 0,.s (.int .i64 root),.ints .u64 16 fr,.ints .u64 16 fs,.ints .u64 16 gn] 70,.own [.vec 2,.ag 3,.s (.int .i64 fu)] 96,.vec (.ad [.arr .u8 64] th) 138,.map (.arr .u8 64) m,.own [.s (.str key)] 9,.own [.s (.str val)] 9])) (.need (Ds.bU th m fu) (.need (Bx.okW fr) (.need ((0:Int)≤root∧root≤65536) (.need ((1:Int)≤1∧(1:Int)≤17) (.need ((18:Int)≤1+(↑(17:Nat):Int)) (.need ((1:Nat)≤key.size∧key.size≤24) (.need (val.size≤100) (.ret [.own [.ptr 1 0,.s (.int .i64 root),.ints .u64 16 (pq th key (some val) 17 m fu fr fs gn root 1),.ints .u64 16 (qz th key (some val) 17 m fu fr fs gn root 1),.ints .u64 16 (rI th key (some val) 17 m fu fr fs gn root 1)] 70,.own [.vec 2,.ag 3,.s (.int .i64 (pn th key (some val) 17 m fu fr fs gn root 1))] 96,.vec (.ad [.arr .u8 64] th) 138,.map (.arr .u8 64) (pj th key (some val) 17 m fu fr fs gn root 1),.own [.s (.str key)] 9,.own [.s (.str val)] 9,.vec (.ad [.str,.int .i64] (sQ th key (some val) 17 m fu fr fs gn root 1)) 79] (.bp [.vec 6,.s (.int .i64 (rJ th key (some val) 17 m fu fr fs gn root 1))]))))))))))) (.need ((0:Nat)≤100000) (.need (iz (bC [])) (.need (bJ (some [AV.ptr 0 0,.agg [.s (.bool true),.s (.ro (.ad [.str,.str] (bw [] key val))),.s (.ro (.ad [.str,.int .i64] []))]])) (.need (bJ (some [ae.own [.ptr 1 0,.s (.int .i64 root),.ints .u64 16 fr,.ints .u64 16 fs,.ints .u64 16 gn] 70,.own [.vec 2,.ag 3,.s (.int .i64 fu)] 96,.vec (.ad [.arr .u8 64] th) 138,.map (.arr .u8 64) m])) (.need (Ds.bU th m fu) (.need (Bx.okW fr) (.need (zC true (bw [] key val) []) (.need (a8 (bw [] key val)) (.need (ba []) (.ret [.own [.ptr 1 0,.s (.int .i64 root),.ints .u64 16 (bo th m fu fr fs true (bw [] key val) []).snd.snd.fst,.ints .u64 16 (bo th m fu fr fs true (bw [] key val) []).snd.snd.snd.fst,.ints .u64 16 gn] 70,.own [.vec 2,.ag 3,.s (.int .i64 (bo th m fu fr fs true (bw [] key val) []).snd.fst)] 96,.vec (.ad [.arr .u8 64] th) 138,.map (.arr .u8 64) (bo th m fu fr fs true (bw [] key val) []).fst,.own [.s (.str key)] 9,.own [.s (.str val)] 9,.dead,.vec (.ad [.str,.int .i64] (bo th m fu fr fs true (bw [] key val) []).snd.snd.snd.snd.fst) 79] (.bp [.vec 7,.s (.int .i64 (bo th m fu fr fs true (bw [] key val) []).snd.snd.snd.snd.snd)]))))))))))):=by kernel_rfl
theorem aur(th:Th)(m:As)(fu root:Int)(fr fs gn:Ws)(key:ByteArray):run P an9.sum Tryd.f65 [] (start Tryd.f65 [.ptr 0 0,.s (.str key),.fn fD1 [.ptr 4 0]] (qy th m fu root fr fs gn key)) (inl:=[fD1])=
 Tree.ite (root !=0) (.need (bJ (some [AV.ptr 0 0,.s (.int .i64 root),.s (.int .i64 1),.s (.str key),.fn 51 [.ptr 4 0]])) (.need (bJ (some [ae.own [.ptr 1 0,.s (.int .i64 root),.ints .u64 16 fr,.ints .u64 16 fs,.ints .u64 16 gn] 70,.own [.vec 2,.ag 3,.s (.int .i64 fu)] 96,.vec (.ad [.arr .u8 64] th) 138,.map (.arr .u8 64) m,.own [.s (.str key)] 9])) (.need (Ds.bU th m fu) (.need (Bx.okW fr) (.need ((0:Int)≤root∧root≤65536) (.need ((1:Int)≤1∧(1:Int)≤17) (.need ((18:Int)≤1+(↑(17:Nat):Int)) (.need ((1:Nat)≤key.size∧key.size≤24) (.need (ByteArray.empty.size≤100) (.ret [.own [.ptr 1 0,.s (.int .i64 root),.ints .u64 16 (pq th key none 17 m fu fr fs gn root 1),.ints .u64 16 (qz th key none 17 m fu fr fs gn root 1),.ints .u64 16 (rI th key none 17 m fu fr fs gn root 1)] 70,.own [.vec 2,.ag 3,.s (.int .i64 (pn th key none 17 m fu fr fs gn root 1))] 96,.vec (.ad [.arr .u8 64] th) 138,.map (.arr .u8 64) (pj th key none 17 m fu fr fs gn root 1),.own [.s (.str key)] 9,.vec (.ad [.str,.int .i64] (sQ th key none 17 m fu fr fs gn root 1)) 79] (.bp [.vec 5,.s (.int .i64 (rJ th key none 17 m fu fr fs gn root 1))])))))))))))
 (.need ((0:Nat)≤100000) (.need (iz (bC [])) (.ite (!gV [] key) (.ret [.own [.ptr 1 0,.s (.int .i64 root),.ints .u64 16 fr,.ints .u64 16 fs,.ints .u64 16 gn] 70,.own [.vec 2,.ag 3,.s (.int .i64 fu)] 96,.vec (.ad [.arr .u8 64] th) 138,.map (.arr .u8 64) m,.own [.s (.str key)] 9,.vec (.ad [.str,.str] (cI [] key)) 34] (.bp [.emp,.s (.aW .i64 5)])) (.need (bJ (some [AV.ptr 0 0,.agg [.s (.bool true),.s (.ro (.ad [.str,.str] (cI [] key))),.s (.ro (.ad [.str,.int .i64] []))]])) (.need (bJ (some [ae.own [.ptr 1 0,.s (.int .i64 root),.ints .u64 16 fr,.ints .u64 16 fs,.ints .u64 16 gn] 70,.own [.vec 2,.ag 3,.s (.int .i64 fu)] 96,.vec (.ad [.arr .u8 64] th) 138,.map (.arr .u8 64) m])) (.need (Ds.bU th m fu) (.need (Bx.okW fr) (.need (zC true (cI [] key) []) (.need (a8 (cI [] key)) (.need (ba []) (.ret [.own [.ptr 1 0,.s (.int .i64 root),.ints .u64 16 (bo th m fu fr fs true (cI [] key) []).snd.snd.fst,.ints .u64 16 (bo th m fu fr fs true (cI [] key) []).snd.snd.snd.fst,.ints .u64 16 gn] 70,.own [.vec 2,.ag 3,.s (.int .i64 (bo th m fu fr fs true (cI [] key) []).snd.fst)] 96,.vec (.ad [.arr .u8 64] th) 138,.map (.arr .u8 64) (bo th m fu fr fs true (cI [] key) []).fst,.own [.s (.str key)] 9,.dead,.vec (.ad [.str,.int .i64] (bo th m fu fr fs true (cI [] key) []).snd.snd.snd.snd.fst) 79] (.bp [.vec 6,.s (.int .i64 (bo th m fu fr fs true (cI [] key) []).snd.snd.snd.snd.snd)])))))))))))):=by kernel_rfl
theorem aoa{th:Th}{m:As}{fu root:Int}{fr fs gn:Ws}{key val:ByteArray}{c:Chg}(e:iP th key (some val) m fu root fr fs gn=c):
 amr.fC ((th,m,fu,root,fr,fs,gn),key,val)=qx th c.1 c.2.1 root c.2.2.1 c.2.2.2.1 c.2.2.2.2.1 key val++[.vec (.ad cB c.2.2.2.2.2.1) Lf.eB]∧amr.out ((th,m,fu,root,fr,fs,gn),key,val)=.bp [.vec 6,bO c.2.2.2.2.2.2]:=by
 subst e;exact⟨rfl,rfl⟩
theorem ajO:an8.Ok P Bx.ct:=aH.Ok.cons ((vP 17).sum amf) (aH.Ok.cons ajd.uH (aH.Ok.cons (ig (ga (jE.sum mTN) 1 _) 1) aH.Ok.nil))
theorem amv:jU P Bx.ct 65 amr:=by
 refine fE Tryd.func65 (by kernel_rfl) (fun x=>Nat.le_of_ble_eq_true (by kernel_rfl)) ?_
 rintro⟨⟨(th:Th),(m:As),(fu:Int),(root:Int),(fr:Ws),(fs:Ws),(gn:Ws)⟩,(key:ByteArray),(val:ByteArray)⟩ ⟨(hd:Ds.bU th m fu),(hf:Bx.okW fr),(hr:0≤root∧root≤65536),(hk:1≤key.size∧key.size≤24),(hv:val.size≤100),_⟩ X hX hz
 have hkk:∀v:ByteArray,(some val)=some v→v.size≤100:=fun v e=>by cases e;exact hv
 have sm:=nX (key:=key) (op:=(some val)) (es:=[]) hk.2 hkk (Nat.zero_le _) ie
 refine Ds.eV hz hX (by intro y hy;cases hy) ajO Tryd.func65 (auq th m fu root fr fs gn key val) ⟨fun h=>⟨rfl,rfl,hd,hf,hr,⟨by omega,by omega⟩,by omega,hk,hv, ?_⟩,fun h=>⟨by omega,by unfold iz;intro i j _ hj;simp at hj,rfl,rfl,hd,hf,⟨fun _=>rfl,fun e=>by cases e⟩,sm,vr, ?_⟩⟩
 ·have h:root≠0:=by simpa using h
  obtain⟨f1,f2⟩:=aoa (val:=val) (show iP th key (some val) m fu root fr fs gn=vC th key (some val) 17 m fu fr fs gn root 1 by unfold iP;rw[if_pos h])
  exact kf ⟨[],[0,1],6,[]⟩ rfl (Nat.le_refl _) (oz.same _) f2 f1
 ·have h:¬root≠0:=by simpa using h
  obtain⟨f1,f2⟩:=aoa (val:=val) (show iP th key (some val) m fu root fr fs gn=gL gn (bo th m fu fr fs true (bw [] key val) [])by unfold iP;rw[if_neg h,if_neg (by show¬(0:Int)≠0;simp)];rfl)
  exact kf ⟨[],[0,1],6,[]⟩ rfl (Nat.le_refl _) (oz.same _) f2 f1
theorem aob{th:Th}{m:As}{fu root:Int}{fr fs gn:Ws}{key val:ByteArray}{c:Chg}(e:iP th key none m fu root fr fs gn=c):
 ams.fC ((th,m,fu,root,fr,fs,gn),key,val)=qy th c.1 c.2.1 root c.2.2.1 c.2.2.2.1 c.2.2.2.2.1 key++[.vec (.ad cB c.2.2.2.2.2.1) Lf.eB]∧ams.out ((th,m,fu,root,fr,fs,gn),key,val)=.bp [.vec 5,bO c.2.2.2.2.2.2]:=by
 subst e;exact⟨rfl,rfl⟩
theorem ajP:an9.Ok P Bx.ct:=aH.Ok.cons ((vQ 17).sum amg) (aH.Ok.cons ai4.sum (aH.Ok.cons (ig (ga (jE.sum mTN) 1 _) 1) aH.Ok.nil))
theorem amw:jU P Bx.ct 65 ams:=by
 refine fE Tryd.func65 (by kernel_rfl) (fun x=>Nat.le_of_ble_eq_true (by kernel_rfl)) ?_
 rintro⟨⟨(th:Th),(m:As),(fu:Int),(root:Int),(fr:Ws),(fs:Ws),(gn:Ws)⟩,(key:ByteArray),(val:ByteArray)⟩ ⟨(hd:Ds.bU th m fu),(hf:Bx.okW fr),(hr:0≤root∧root≤65536),(hk:1≤key.size∧key.size≤24),(hv:val.size≤100),_⟩ X hX hz
 have hkk:∀v:ByteArray,none=some v→v.size≤100:=fun v e=>by cases e
 have sm:=nX (key:=key) (op:=none) (es:=[]) hk.2 hkk (Nat.zero_le _) ie
 refine Ds.eV hz hX (by intro y hy;cases hy) ajP Tryd.func65 (aur th m fu root fr fs gn key) ⟨fun h=>⟨rfl,rfl,hd,hf,hr,⟨by omega,by omega⟩,by omega,hk,(Nat.zero_le 100), ?_⟩,fun h=>⟨by omega,by unfold iz;intro i j _ hj;simp at hj,fun hb=> ?_,fun hb=> ?_⟩⟩
 ·have h:root≠0:=by simpa using h
  obtain⟨f1,f2⟩:=aob (val:=val) (show iP th key none m fu root fr fs gn=vC th key none 17 m fu fr fs gn root 1 by unfold iP;rw[if_pos h])
  exact kf ⟨[],[0,1],5,[]⟩ rfl (Nat.le_refl _) (oz.same _) f2 f1
 ·have h:¬root≠0:=by simpa using h
  obtain⟨f1,f2⟩:=aob (val:=val) (show iP th key none m fu root fr fs gn=(m,fu,fr,fs,gn,[],5)by unfold iP;rw[if_neg h,if_pos (by show(5:Int)≠0;simp)];rfl)
  exact kf ⟨[(0,.ad cB [],Lf.eB)],[0,1],5,[]⟩ rfl (Nat.le_refl _) (oz.same _) f2 f1
 ·exact absurd hb (by show¬(!gV [] key)=false;simp[gV,cI])
end Ts
namespace Ts
open Go Go.Sx Go.Proofs Lf
def zV(th:Th)(c:Chg):Chg:=if c.2.2.2.2.2.2=0∧1<c.2.2.2.2.2.1.length then gL c.2.2.2.2.1 (bo th c.1 c.2.1 c.2.2.1 c.2.2.2.1 false [] c.2.2.2.2.2.1)else c
abbrev Chs:Type:=As×Int×Int×Ws×Ws×Ws×Int
def ny(th:Th)(aI:Int)(bZ bY dr:Ws)(m:As)(fu root:Int)(fr fs gn:Ws)(e:Int):Chs:=
 if e≠0 then(m,fu,aI,bZ,bY,dr,e)else(m,fu,root,Bx.dc .or fr gn,fs,Bx.bk,0)
def jy(th:Th)(aI:Int)(bZ bY dr:Ws)(c:Chg):Chs:=
 if c.2.2.2.2.2.2=0∧c.2.2.2.2.2.1.length=1 then
  ny th aI bZ bY dr c.1 c.2.1 (wM th c.1 17 c.2.2.2.1 c.2.2.2.2.1 (c.2.2.2.2.2.1.getD 0 dB).2.1 1) c.2.2.1 (vR th c.1 17 c.2.2.2.1 c.2.2.2.2.1 (c.2.2.2.2.2.1.getD 0 dB).2.1 1) (vS th c.1 17 c.2.2.2.1 c.2.2.2.2.1 (c.2.2.2.2.2.1.getD 0 dB).2.1 1) (wN th c.1 17 c.2.2.2.1 c.2.2.2.2.1 (c.2.2.2.2.2.1.getD 0 dB).2.1 1)
 else ny th aI bZ bY dr c.1 c.2.1 0 c.2.2.1 c.2.2.2.1 c.2.2.2.2.1 c.2.2.2.2.2.2
def kg(th:Th)(key:ByteArray)(op:Option ByteArray)(m:As)(fu root:Int)(fr fs gn:Ws):Chs:=jy th root fr fs gn (zV th (iP th key op m fu root fr fs gn))
def amx(th:Th)(key:ByteArray)(op:Option ByteArray)(m:As)(fu root:Int)(fr fs gn:Ws):As:=(kg th key op m fu root fr fs gn).1
def amy(th:Th)(key:ByteArray)(op:Option ByteArray)(m:As)(fu root:Int)(fr fs gn:Ws):Int:=(kg th key op m fu root fr fs gn).2.1
def amz(th:Th)(key:ByteArray)(op:Option ByteArray)(m:As)(fu root:Int)(fr fs gn:Ws):Int:=(kg th key op m fu root fr fs gn).2.2.1
def amA(th:Th)(key:ByteArray)(op:Option ByteArray)(m:As)(fu root:Int)(fr fs gn:Ws):Ws:=(kg th key op m fu root fr fs gn).2.2.2.1
def amB(th:Th)(key:ByteArray)(op:Option ByteArray)(m:As)(fu root:Int)(fr fs gn:Ws):Ws:=(kg th key op m fu root fr fs gn).2.2.2.2.1
def amC(th:Th)(key:ByteArray)(op:Option ByteArray)(m:As)(fu root:Int)(fr fs gn:Ws):Ws:=(kg th key op m fu root fr fs gn).2.2.2.2.2.1
def amD(th:Th)(key:ByteArray)(op:Option ByteArray)(m:As)(fu root:Int)(fr fs gn:Ws):Int:=(kg th key op m fu root fr fs gn).2.2.2.2.2.2
abbrev sOr:=bS [Bx.dt,Bx.dt] [Bx.dt] (fun _=>[]) (fun(a,b,())=>(Bx.dc .or a b,()))
abbrev abP:Spec XK:=⟨fun(_,key,_)=>[.ptr 0 0,.s (.str key),.fn fP1 [.ptr 4 0,.ptr 5 0]],fun((th,m,fu,root,fr,fs,gn),key,val)=>qx th m fu root fr fs gn key val,fun((th,m,fu,root,fr,_,_),key,val)=>afh th m fu root fr key val,
 fun((th,m,fu,root,fr,fs,gn),key,val)=>qx th (amx th key (some val) m fu root fr fs gn) (amy th key (some val) m fu root fr fs gn) (amz th key (some val) m fu root fr fs gn) (amA th key (some val) m fu root fr fs gn) (amB th key (some val) m fu root fr fs gn) (amC th key (some val) m fu root fr fs gn) key val,
 fun((th,m,fu,root,fr,fs,gn),key,val)=>bO (amD th key (some val) m fu root fr fs gn)⟩
def vV:aH:=[(65,dI amr amt),(66,xX),(67,dI sLo mLv),(28,sOr)]
def x7:List (Nat×Norm):=[(3,⟨[],[0,7,8,9],6,[]⟩),(5,⟨[],[0,7,8,9],6,[]⟩),(8,⟨[],[0,7,9],6,[]⟩)]
noncomputable def ajQ(th:Th)(aI:Int)(bZ bY dr:Ws)(m:As)(fu root:Int)(fr fs gn:Ws)(key val:ByteArray)(l:List Br)(e:Int):bB:=⟨sl 78 [(0,.ptr 0 0),(7,.ptr 6 0),(8,.vec 7),(9,bO e)],qx th m fu root fr fs gn key val++[obT 1 aI bZ bY dr,.vec (.ad cB l) Lf.eB],hd Tryd.f48 3,{}⟩
noncomputable def aoc(th:Th)(aI:Int)(bZ bY dr:Ws)(m:As)(fu root:Int)(fr fs gn:Ws)(key val:ByteArray)(l:List Br)(e:Int):bB:=⟨sl 78 [(0,.ptr 0 0),(7,.ptr 6 0),(8,.vec 7),(9,bO e)],qx th m fu root fr fs gn key val++[obT 1 aI bZ bY dr,.vec (.ad cB l) Lf.eB],hr Tryd.f48 5,{}⟩
noncomputable def aod(th:Th)(aI:Int)(bZ bY dr:Ws)(m:As)(fu root:Int)(fr fs gn:Ws)(key val:ByteArray)(e:Int):bB:=⟨sl 78 [(0,.ptr 0 0),(7,.ptr 6 0),(9,bO e)],qx th m fu root fr fs gn key val++[obT 1 aI bZ bY dr],hr Tryd.f48 8,{}⟩
theorem asr(th:Th)(m:As)(fu root:Int)(fr fs gn:Ws)(key val:ByteArray):run P vV.sum Tryd.f48 x7 (start Tryd.f48 [.ptr 0 0,.s (.str key),.fn fP1 [.ptr 4 0,.ptr 5 0]] (qx th m fu root fr fs gn key val))=
 Tree.need (bJ (some [AV.ptr 0 0,.s (.str key),.fn 49 [.ptr 4 0,.ptr 5 0]])) (.need (bJ (some [ae.own [.ptr 1 0,.s (.int .i64 root),.ints .u64 16 fr,.ints .u64 16 fs,.ints .u64 16 gn] 70,.own [.vec 2,.ag 3,.s (.int .i64 fu)] 96,.vec (.ad [.arr .u8 64] th) 138,.map (.arr .u8 64) m,.own [.s (.str key)] 9,.own [.s (.str val)] 9])) (.need (Ds.bU th m fu) (.need (Bx.okW fr) (.need ((0:Int)≤root∧root≤65536) (.need ((1:Nat)≤key.size∧key.size≤24) (.need (val.size≤100) (.at (.mk (sl 78 [(0,.ptr 0 0),(7,.ptr 6 0),(8,.vec 7),(9,.s (.int .i64 (vU th key (some val) m fu root fr fs gn)))]) [.own [.ptr 1 0,.s (.int .i64 root),.ints .u64 16 (wQ th key (some val) m fu root fr fs gn),.ints .u64 16 (abN th key (some val) m fu root fr fs gn),.ints .u64 16 (abO th key (some val) m fu root fr fs gn)] 70,.own [.vec 2,.ag 3,.s (.int .i64 (wP th key (some val) m fu root fr fs gn))] 96,.vec (.ad [.arr .u8 64] th) 138,.map (.arr .u8 64) (wO th key (some val) m fu root fr fs gn),.own [.s (.str key)] 9,.own [.s (.str val)] 9,.own [.ptr 1 0,.s (.int .i64 root),.ints .u64 16 fr,.ints .u64 16 fs,.ints .u64 16 gn] 70,.vec (.ad [.str,.int .i64] (vT th key (some val) m fu root fr fs gn)) 79] (hd Tryd.f48 3) (.mk none false 0 [] 0))))))))):=by kernel_rfl
theorem ajR(th:Th)(aI:Int)(bZ bY dr:Ws)(m:As)(fu root:Int)(fr fs gn:Ws)(key val:ByteArray)(l:List Br)(e:Int):run P vV.sum Tryd.f48 x7 (ajQ th aI bZ bY dr m fu root fr fs gn key val l e)=
 Tree.ite (e==0) (.ite (decide ((↑l.length:Int)>1)) (.need (bJ (some [AV.ptr 0 0,.agg [.s (.bool false),.s (.ro (.ad [.str,.str] [])),.s (.ro (.ad [.str,.int .i64] l))]])) (.need (bJ (some [ae.own [.ptr 1 0,.s (.int .i64 root),.ints .u64 16 fr,.ints .u64 16 fs,.ints .u64 16 gn] 70,.own [.vec 2,.ag 3,.s (.int .i64 fu)] 96,.vec (.ad [.arr .u8 64] th) 138,.map (.arr .u8 64) m])) (.need (Ds.bU th m fu) (.need (Bx.okW fr) (.need (zC false [] l) (.need (a8 []) (.need (ba l) (.at (.mk (sl 78 [(0,.ptr 0 0),(7,.ptr 6 0),(8,.vec 7),(9,.s (.int .i64 (bo th m fu fr fs false [] l).snd.snd.snd.snd.snd))]) [.own [.ptr 1 0,.s (.int .i64 root),.ints .u64 16 (bo th m fu fr fs false [] l).snd.snd.fst,.ints .u64 16 (bo th m fu fr fs false [] l).snd.snd.snd.fst,.ints .u64 16 gn] 70,.own [.vec 2,.ag 3,.s (.int .i64 (bo th m fu fr fs false [] l).snd.fst)] 96,.vec (.ad [.arr .u8 64] th) 138,.map (.arr .u8 64) (bo th m fu fr fs false [] l).fst,.own [.s (.str key)] 9,.own [.s (.str val)] 9,.own [.ptr 1 0,.s (.int .i64 aI),.ints .u64 16 bZ,.ints .u64 16 bY,.ints .u64 16 dr] 70,.vec (.ad [.str,.int .i64] (bo th m fu fr fs false [] l).snd.snd.snd.snd.fst) 79] (hd Tryd.f48 3) (.mk none false 0 [] 0)))))))))) (.at (.mk (sl 78 [(0,.ptr 0 0),(7,.ptr 6 0),(8,.vec 7),(9,.s (.int .i64 e))]) [.own [.ptr 1 0,.s (.int .i64 root),.ints .u64 16 fr,.ints .u64 16 fs,.ints .u64 16 gn] 70,.own [.vec 2,.ag 3,.s (.int .i64 fu)] 96,.vec (.ad [.arr .u8 64] th) 138,.map (.arr .u8 64) m,.own [.s (.str key)] 9,.own [.s (.str val)] 9,.own [.ptr 1 0,.s (.int .i64 aI),.ints .u64 16 bZ,.ints .u64 16 bY,.ints .u64 16 dr] 70,.vec (.ad [.str,.int .i64] l) 79] (hr Tryd.f48 5) (.mk none false 0 [] 0)))) (.at (.mk (sl 78 [(0,.ptr 0 0),(7,.ptr 6 0),(8,.vec 7),(9,.s (.int .i64 e))]) [.own [.ptr 1 0,.s (.int .i64 root),.ints .u64 16 fr,.ints .u64 16 fs,.ints .u64 16 gn] 70,.own [.vec 2,.ag 3,.s (.int .i64 fu)] 96,.vec (.ad [.arr .u8 64] th) 138,.map (.arr .u8 64) m,.own [.s (.str key)] 9,.own [.s (.str val)] 9,.own [.ptr 1 0,.s (.int .i64 aI),.ints .u64 16 bZ,.ints .u64 16 bY,.ints .u64 16 dr] 70,.vec (.ad [.str,.int .i64] l) 79] (hr Tryd.f48 5) (.mk none false 0 [] 0))):=by kernel_rfl
theorem aqp(th:Th)(aI:Int)(bZ bY dr:Ws)(m:As)(fu root:Int)(fr fs gn:Ws)(key val:ByteArray)(l:List Br)(e:Int):run P vV.sum Tryd.f48 x7 (aoc th aI bZ bY dr m fu root fr fs gn key val l e)=
 Tree.ite (e==0) (.ite ((↑l.length:Int)==1) (.need ((0:Int)≤0) (.need ((0:Int)<(↑l.length:Int)) (.need (bJ (some [AV.ptr 0 0,.s (.int .i64 (l.getD 0 (CL.d [.str,.int .i64])).snd.fst)])) (.need (bJ (some [ae.own [.ptr 1 0,.s (.int .i64 0),.ints .u64 16 fr,.ints .u64 16 fs,.ints .u64 16 gn] 70,.own [.vec 2,.ag 3,.s (.int .i64 fu)] 96,.vec (.ad [.arr .u8 64] th) 138,.map (.arr .u8 64) m])) (.need (Ds.bU th m fu) (.need ((0:Int)≤(l.getD 0 (CL.d [.str,.int .i64])).snd.fst∧(l.getD 0 (CL.d [.str,.int .i64])).snd.fst≤65536) (.at (.mk (sl 78 [(0,.ptr 0 0),(7,.ptr 6 0),(9,.s (.int .i64 (wN th m 17 fs gn (l.getD 0 (CL.d [.str,.int .i64])).snd.fst 1)))]) [.own [.ptr 1 0,.s (.int .i64 (wM th m 17 fs gn (l.getD 0 (CL.d [.str,.int .i64])).snd.fst 1)),.ints .u64 16 fr,.ints .u64 16 (vR th m 17 fs gn (l.getD 0 (CL.d [.str,.int .i64])).snd.fst 1),.ints .u64 16 (vS th m 17 fs gn (l.getD 0 (CL.d [.str,.int .i64])).snd.fst 1)] 70,.own [.vec 2,.ag 3,.s (.int .i64 fu)] 96,.vec (.ad [.arr .u8 64] th) 138,.map (.arr .u8 64) m,.own [.s (.str key)] 9,.own [.s (.str val)] 9,.own [.ptr 1 0,.s (.int .i64 aI),.ints .u64 16 bZ,.ints .u64 16 bY,.ints .u64 16 dr] 70] (hr Tryd.f48 8) (.mk none false 0 [] 0))))))))) (.at (.mk (sl 78 [(0,.ptr 0 0),(7,.ptr 6 0),(9,.s (.int .i64 e))]) [.own [.ptr 1 0,.s (.int .i64 0),.ints .u64 16 fr,.ints .u64 16 fs,.ints .u64 16 gn] 70,.own [.vec 2,.ag 3,.s (.int .i64 fu)] 96,.vec (.ad [.arr .u8 64] th) 138,.map (.arr .u8 64) m,.own [.s (.str key)] 9,.own [.s (.str val)] 9,.own [.ptr 1 0,.s (.int .i64 aI),.ints .u64 16 bZ,.ints .u64 16 bY,.ints .u64 16 dr] 70] (hr Tryd.f48 8) (.mk none false 0 [] 0)))) (.at (.mk (sl 78 [(0,.ptr 0 0),(7,.ptr 6 0),(9,.s (.int .i64 e))]) [.own [.ptr 1 0,.s (.int .i64 0),.ints .u64 16 fr,.ints .u64 16 fs,.ints .u64 16 gn] 70,.own [.vec 2,.ag 3,.s (.int .i64 fu)] 96,.vec (.ad [.arr .u8 64] th) 138,.map (.arr .u8 64) m,.own [.s (.str key)] 9,.own [.s (.str val)] 9,.own [.ptr 1 0,.s (.int .i64 aI),.ints .u64 16 bZ,.ints .u64 16 bY,.ints .u64 16 dr] 70] (hr Tryd.f48 8) (.mk none false 0 [] 0))):=by kernel_rfl
theorem aqq(th:Th)(aI:Int)(bZ bY dr:Ws)(m:As)(fu root:Int)(fr fs gn:Ws)(key val:ByteArray)(e:Int):run P vV.sum Tryd.f48 x7 (aod th aI bZ bY dr m fu root fr fs gn key val e)=
 Tree.ite (e !=0) (.ret [.own [.ptr 1 0,.s (.int .i64 aI),.ints .u64 16 bZ,.ints .u64 16 bY,.ints .u64 16 dr] 70,.own [.vec 2,.ag 3,.s (.int .i64 fu)] 96,.vec (.ad [.arr .u8 64] th) 138,.map (.arr .u8 64) m,.own [.s (.str key)] 9,.own [.s (.str val)] 9,.own [.ptr 1 0,.s (.int .i64 aI),.ints .u64 16 bZ,.ints .u64 16 bY,.ints .u64 16 dr] 70] (.s (.int .i64 e))) (.ret [.own [.ptr 1 0,.s (.int .i64 root),.ints .u64 16 (Bx.dc BinOp.or fr gn),.ints .u64 16 fs,.ints .u64 16 (List.replicate 16 0)] 70,.own [.vec 2,.ag 3,.s (.int .i64 fu)] 96,.vec (.ad [.arr .u8 64] th) 138,.map (.arr .u8 64) m,.own [.s (.str key)] 9,.own [.s (.str val)] 9,.own [.ptr 1 0,.s (.int .i64 aI),.ints .u64 16 bZ,.ints .u64 16 bY,.ints .u64 16 dr] 70] (.s (.aW .i64 0))):=by kernel_rfl
abbrev abQ:Spec XK:=⟨fun(_,key,_)=>[.ptr 0 0,.s (.str key),.fn fD1 [.ptr 4 0]],fun((th,m,fu,root,fr,fs,gn),key,_)=>qy th m fu root fr fs gn key,fun((th,m,fu,root,fr,_,_),key,val)=>afh th m fu root fr key val,
 fun((th,m,fu,root,fr,fs,gn),key,_)=>qy th (amx th key none m fu root fr fs gn) (amy th key none m fu root fr fs gn) (amz th key none m fu root fr fs gn) (amA th key none m fu root fr fs gn) (amB th key none m fu root fr fs gn) (amC th key none m fu root fr fs gn) key,
 fun((th,m,fu,root,fr,fs,gn),key,_)=>bO (amD th key none m fu root fr fs gn)⟩
def vW:aH:=[(65,dI ams amu),(66,xX),(67,dI sLo mLv),(28,sOr)]
def x8:List (Nat×Norm):=[(3,⟨[],[0,7,8,9],5,[]⟩),(5,⟨[],[0,7,8,9],5,[]⟩),(8,⟨[],[0,7,9],5,[]⟩)]
noncomputable def ajS(th:Th)(aI:Int)(bZ bY dr:Ws)(m:As)(fu root:Int)(fr fs gn:Ws)(key:ByteArray)(l:List Br)(e:Int):bB:=⟨sl 78 [(0,.ptr 0 0),(7,.ptr 5 0),(8,.vec 6),(9,bO e)],qy th m fu root fr fs gn key++[obT 1 aI bZ bY dr,.vec (.ad cB l) Lf.eB],hd Tryd.f48 3,{}⟩
noncomputable def aoe(th:Th)(aI:Int)(bZ bY dr:Ws)(m:As)(fu root:Int)(fr fs gn:Ws)(key:ByteArray)(l:List Br)(e:Int):bB:=⟨sl 78 [(0,.ptr 0 0),(7,.ptr 5 0),(8,.vec 6),(9,bO e)],qy th m fu root fr fs gn key++[obT 1 aI bZ bY dr,.vec (.ad cB l) Lf.eB],hr Tryd.f48 5,{}⟩
noncomputable def aof(th:Th)(aI:Int)(bZ bY dr:Ws)(m:As)(fu root:Int)(fr fs gn:Ws)(key:ByteArray)(e:Int):bB:=⟨sl 78 [(0,.ptr 0 0),(7,.ptr 5 0),(9,bO e)],qy th m fu root fr fs gn key++[obT 1 aI bZ bY dr],hr Tryd.f48 8,{}⟩
theorem ass(th:Th)(m:As)(fu root:Int)(fr fs gn:Ws)(key:ByteArray):run P vW.sum Tryd.f48 x8 (start Tryd.f48 [.ptr 0 0,.s (.str key),.fn fD1 [.ptr 4 0]] (qy th m fu root fr fs gn key))=
 Tree.need (bJ (some [AV.ptr 0 0,.s (.str key),.fn 51 [.ptr 4 0]])) (.need (bJ (some [ae.own [.ptr 1 0,.s (.int .i64 root),.ints .u64 16 fr,.ints .u64 16 fs,.ints .u64 16 gn] 70,.own [.vec 2,.ag 3,.s (.int .i64 fu)] 96,.vec (.ad [.arr .u8 64] th) 138,.map (.arr .u8 64) m,.own [.s (.str key)] 9])) (.need (Ds.bU th m fu) (.need (Bx.okW fr) (.need ((0:Int)≤root∧root≤65536) (.need ((1:Nat)≤key.size∧key.size≤24) (.need (ByteArray.empty.size≤100) (.at (.mk (sl 78 [(0,.ptr 0 0),(7,.ptr 5 0),(8,.vec 6),(9,.s (.int .i64 (vU th key none m fu root fr fs gn)))]) [.own [.ptr 1 0,.s (.int .i64 root),.ints .u64 16 (wQ th key none m fu root fr fs gn),.ints .u64 16 (abN th key none m fu root fr fs gn),.ints .u64 16 (abO th key none m fu root fr fs gn)] 70,.own [.vec 2,.ag 3,.s (.int .i64 (wP th key none m fu root fr fs gn))] 96,.vec (.ad [.arr .u8 64] th) 138,.map (.arr .u8 64) (wO th key none m fu root fr fs gn),.own [.s (.str key)] 9,.own [.ptr 1 0,.s (.int .i64 root),.ints .u64 16 fr,.ints .u64 16 fs,.ints .u64 16 gn] 70,.vec (.ad [.str,.int .i64] (vT th key none m fu root fr fs gn)) 79] (hd Tryd.f48 3) (.mk none false 0 [] 0))))))))):=by kernel_rfl
theorem ajT(th:Th)(aI:Int)(bZ bY dr:Ws)(m:As)(fu root:Int)(fr fs gn:Ws)(key:ByteArray)(l:List Br)(e:Int):run P vW.sum Tryd.f48 x8 (ajS th aI bZ bY dr m fu root fr fs gn key l e)=
 Tree.ite (e==0) (.ite (decide ((↑l.length:Int)>1)) (.need (bJ (some [AV.ptr 0 0,.agg [.s (.bool false),.s (.ro (.ad [.str,.str] [])),.s (.ro (.ad [.str,.int .i64] l))]])) (.need (bJ (some [ae.own [.ptr 1 0,.s (.int .i64 root),.ints .u64 16 fr,.ints .u64 16 fs,.ints .u64 16 gn] 70,.own [.vec 2,.ag 3,.s (.int .i64 fu)] 96,.vec (.ad [.arr .u8 64] th) 138,.map (.arr .u8 64) m])) (.need (Ds.bU th m fu) (.need (Bx.okW fr) (.need (zC false [] l) (.need (a8 []) (.need (ba l) (.at (.mk (sl 78 [(0,.ptr 0 0),(7,.ptr 5 0),(8,.vec 6),(9,.s (.int .i64 (bo th m fu fr fs false [] l).snd.snd.snd.snd.snd))]) [.own [.ptr 1 0,.s (.int .i64 root),.ints .u64 16 (bo th m fu fr fs false [] l).snd.snd.fst,.ints .u64 16 (bo th m fu fr fs false [] l).snd.snd.snd.fst,.ints .u64 16 gn] 70,.own [.vec 2,.ag 3,.s (.int .i64 (bo th m fu fr fs false [] l).snd.fst)] 96,.vec (.ad [.arr .u8 64] th) 138,.map (.arr .u8 64) (bo th m fu fr fs false [] l).fst,.own [.s (.str key)] 9,.own [.ptr 1 0,.s (.int .i64 aI),.ints .u64 16 bZ,.ints .u64 16 bY,.ints .u64 16 dr] 70,.vec (.ad [.str,.int .i64] (bo th m fu fr fs false [] l).snd.snd.snd.snd.fst) 79] (hd Tryd.f48 3) (.mk none false 0 [] 0)))))))))) (.at (.mk (sl 78 [(0,.ptr 0 0),(7,.ptr 5 0),(8,.vec 6),(9,.s (.int .i64 e))]) [.own [.ptr 1 0,.s (.int .i64 root),.ints .u64 16 fr,.ints .u64 16 fs,.ints .u64 16 gn] 70,.own [.vec 2,.ag 3,.s (.int .i64 fu)] 96,.vec (.ad [.arr .u8 64] th) 138,.map (.arr .u8 64) m,.own [.s (.str key)] 9,.own [.ptr 1 0,.s (.int .i64 aI),.ints .u64 16 bZ,.ints .u64 16 bY,.ints .u64 16 dr] 70,.vec (.ad [.str,.int .i64] l) 79] (hr Tryd.f48 5) (.mk none false 0 [] 0)))) (.at (.mk (sl 78 [(0,.ptr 0 0),(7,.ptr 5 0),(8,.vec 6),(9,.s (.int .i64 e))]) [.own [.ptr 1 0,.s (.int .i64 root),.ints .u64 16 fr,.ints .u64 16 fs,.ints .u64 16 gn] 70,.own [.vec 2,.ag 3,.s (.int .i64 fu)] 96,.vec (.ad [.arr .u8 64] th) 138,.map (.arr .u8 64) m,.own [.s (.str key)] 9,.own [.ptr 1 0,.s (.int .i64 aI),.ints .u64 16 bZ,.ints .u64 16 bY,.ints .u64 16 dr] 70,.vec (.ad [.str,.int .i64] l) 79] (hr Tryd.f48 5) (.mk none false 0 [] 0))):=by kernel_rfl
theorem aqr(th:Th)(aI:Int)(bZ bY dr:Ws)(m:As)(fu root:Int)(fr fs gn:Ws)(key:ByteArray)(l:List Br)(e:Int):run P vW.sum Tryd.f48 x8 (aoe th aI bZ bY dr m fu root fr fs gn key l e)=
 Tree.ite (e==0) (.ite ((↑l.length:Int)==1) (.need ((0:Int)≤0) (.need ((0:Int)<(↑l.length:Int)) (.need (bJ (some [AV.ptr 0 0,.s (.int .i64 (l.getD 0 (CL.d [.str,.int .i64])).snd.fst)])) (.need (bJ (some [ae.own [.ptr 1 0,.s (.int .i64 0),.ints .u64 16 fr,.ints .u64 16 fs,.ints .u64 16 gn] 70,.own [.vec 2,.ag 3,.s (.int .i64 fu)] 96,.vec (.ad [.arr .u8 64] th) 138,.map (.arr .u8 64) m])) (.need (Ds.bU th m fu) (.need ((0:Int)≤(l.getD 0 (CL.d [.str,.int .i64])).snd.fst∧(l.getD 0 (CL.d [.str,.int .i64])).snd.fst≤65536) (.at (.mk (sl 78 [(0,.ptr 0 0),(7,.ptr 5 0),(9,.s (.int .i64 (wN th m 17 fs gn (l.getD 0 (CL.d [.str,.int .i64])).snd.fst 1)))]) [.own [.ptr 1 0,.s (.int .i64 (wM th m 17 fs gn (l.getD 0 (CL.d [.str,.int .i64])).snd.fst 1)),.ints .u64 16 fr,.ints .u64 16 (vR th m 17 fs gn (l.getD 0 (CL.d [.str,.int .i64])).snd.fst 1),.ints .u64 16 (vS th m 17 fs gn (l.getD 0 (CL.d [.str,.int .i64])).snd.fst 1)] 70,.own [.vec 2,.ag 3,.s (.int .i64 fu)] 96,.vec (.ad [.arr .u8 64] th) 138,.map (.arr .u8 64) m,.own [.s (.str key)] 9,.own [.ptr 1 0,.s (.int .i64 aI),.ints .u64 16 bZ,.ints .u64 16 bY,.ints .u64 16 dr] 70] (hr Tryd.f48 8) (.mk none false 0 [] 0))))))))) (.at (.mk (sl 78 [(0,.ptr 0 0),(7,.ptr 5 0),(9,.s (.int .i64 e))]) [.own [.ptr 1 0,.s (.int .i64 0),.ints .u64 16 fr,.ints .u64 16 fs,.ints .u64 16 gn] 70,.own [.vec 2,.ag 3,.s (.int .i64 fu)] 96,.vec (.ad [.arr .u8 64] th) 138,.map (.arr .u8 64) m,.own [.s (.str key)] 9,.own [.ptr 1 0,.s (.int .i64 aI),.ints .u64 16 bZ,.ints .u64 16 bY,.ints .u64 16 dr] 70] (hr Tryd.f48 8) (.mk none false 0 [] 0)))) (.at (.mk (sl 78 [(0,.ptr 0 0),(7,.ptr 5 0),(9,.s (.int .i64 e))]) [.own [.ptr 1 0,.s (.int .i64 0),.ints .u64 16 fr,.ints .u64 16 fs,.ints .u64 16 gn] 70,.own [.vec 2,.ag 3,.s (.int .i64 fu)] 96,.vec (.ad [.arr .u8 64] th) 138,.map (.arr .u8 64) m,.own [.s (.str key)] 9,.own [.ptr 1 0,.s (.int .i64 aI),.ints .u64 16 bZ,.ints .u64 16 bY,.ints .u64 16 dr] 70] (hr Tryd.f48 8) (.mk none false 0 [] 0))):=by kernel_rfl
theorem aqs(th:Th)(aI:Int)(bZ bY dr:Ws)(m:As)(fu root:Int)(fr fs gn:Ws)(key:ByteArray)(e:Int):run P vW.sum Tryd.f48 x8 (aof th aI bZ bY dr m fu root fr fs gn key e)=
 Tree.ite (e !=0) (.ret [.own [.ptr 1 0,.s (.int .i64 aI),.ints .u64 16 bZ,.ints .u64 16 bY,.ints .u64 16 dr] 70,.own [.vec 2,.ag 3,.s (.int .i64 fu)] 96,.vec (.ad [.arr .u8 64] th) 138,.map (.arr .u8 64) m,.own [.s (.str key)] 9,.own [.ptr 1 0,.s (.int .i64 aI),.ints .u64 16 bZ,.ints .u64 16 bY,.ints .u64 16 dr] 70] (.s (.int .i64 e))) (.ret [.own [.ptr 1 0,.s (.int .i64 root),.ints .u64 16 (Bx.dc BinOp.or fr gn),.ints .u64 16 fs,.ints .u64 16 (List.replicate 16 0)] 70,.own [.vec 2,.ag 3,.s (.int .i64 fu)] 96,.vec (.ad [.arr .u8 64] th) 138,.map (.arr .u8 64) m,.own [.s (.str key)] 9,.own [.ptr 1 0,.s (.int .i64 aI),.ints .u64 16 bZ,.ints .u64 16 bY,.ints .u64 16 dr] 70] (.s (.aW .i64 0))):=by kernel_rfl
theorem abR{th:Th}{key:ByteArray}{op:Option ByteArray}(hk:key.size≤24){m:As}{fu root:Int}{fr fs gn:Ws}(hd:Ds.bU th m fu)(hf:Bx.okW fr):
 ajH th (wO th key op m fu root fr fs gn) (wP th key op m fu root fr fs gn) (wQ th key op m fu root fr fs gn) (vT th key op m fu root fr fs gn):=by
 unfold wO wP wQ vT iP
 split
 ·exact qE hk 17 hd hf
 ·split
  ·exact⟨hd,hf,Nat.zero_le _,noB,noB⟩
  ·exact nx hd hf (ajI hk noE) noB
theorem aus{l:List Br}(h2:l.length≤2)(h:j7 l):bg [] (aa l)≤254:=by
 have e:=qD (aa l)
 have e2:=rK l
 have e3:gW l≤54:=by
  cases l with
  |nil=>simp[nw]
  |cons a r=>
   have ha:=h a List.mem_cons_self
   cases r with
   |nil=>rw[dj,nw];unfold pa;omega
   |cons b r=>
    have hb:=h b (List.mem_cons_of_mem _ List.mem_cons_self)
    cases r with
    |nil=>rw[dj,dj,nw];unfold pa;omega
    |cons c r=>simp only[List.length_cons]at h2;omega
 omega
theorem ajU{th:Th}{m:As}{fu:Int}{fr fs:Ws}{l:List Br}(h0:1<l.length)(h2:l.length≤2)(h:j7 l):(bo th m fu fr fs false [] l).2.2.2.2.1.length=1:=by
 unfold bo
 rw[if_neg (by simp only[List.length_nil];omega),if_pos (aus h2 h)]
 rfl
theorem afi{l:List Br}(h:∀b∈l,0≤b.2.1∧b.2.1≤65536)(k:Nat):0≤(l.getD k dB).2.1∧(l.getD k dB).2.1≤65536:=by
 rcases Nat.lt_or_ge k l.length with hk|hk
 ·rw[bh hk];exact h _ (List.getElem_mem hk)
 ·rw[List.getD,List.getElem?_eq_none hk];exact⟨Int.le_refl 0,by show(0:Int)≤65536;omega⟩
theorem x9{l:List Br}(h2:l.length≤2)(h:j7 l):ba l:=⟨by omega,fun x hx=>Nat.le_trans (h x hx) (by omega)⟩
theorem rM{th:Th}{c:Chg}(h:¬(c.2.2.2.2.2.2=0∧1<c.2.2.2.2.2.1.length)):zV th c=c:=if_neg h
theorem aog{th:Th}{m:As}{fu root:Int}{fr fs gn:Ws}{key val:ByteArray}{c:Chs}(e:kg th key (some val) m fu root fr fs gn=c):
 abP.fC ((th,m,fu,root,fr,fs,gn),key,val)=qx th c.1 c.2.1 c.2.2.1 c.2.2.2.1 c.2.2.2.2.1 c.2.2.2.2.2.1 key val∧abP.out ((th,m,fu,root,fr,fs,gn),key,val)=bO c.2.2.2.2.2.2:=by
 subst e;exact⟨rfl,rfl⟩
theorem lJ:vV.Ok P Bx.ct:=aH.Ok.cons (amv.sum amt) (aH.Ok.cons (ig (ga (jE.sum mTN) 1 _) 1) (aH.Ok.cons (abM.sum mLv) (aH.Ok.cons Bx.ajf.sum aH.Ok.nil)))
section
variable{th:Th}{m0:As}{sR aI:Int}{bZ bY dr:Ws}{key val:ByteArray}{X:Ctx}
theorem qF{th:Th}{m:As}{fu root:Int}{fr fs gn:Ws}{key val:ByteArray}:∀y∈x7,(qx th m fu root fr fs gn key val).length≤y.2.m:=fun y hy=>by
 simp only[x7,List.mem_cons,List.not_mem_nil,or_false]at hy
 rcases hy with rfl|rfl|rfl<;>exact Nat.le_refl _
theorem zG(hz:dS Bx.ct X)(hX:X.H=lk (qx th m0 sR aI bZ bY dr key val)){m:As}{fu root:Int}{fr fs gn:Ws}{e:Int}(ee:kg th key (some val) m0 sR aI bZ bY dr=ny th aI bZ bY dr m fu root fr fs gn e):
 Safe P 48 X (kI abP ((th,m0,sR,aI,bZ,bY,dr),key,val)) (aod th aI bZ bY dr m fu root fr fs gn key val e):=by
 refine Ds.eV hz hX qF lJ Tryd.func48 (aqq th aI bZ bY dr m fu root fr fs gn key val e) ⟨fun h=> ?_,fun h=> ?_⟩
 ·have h:e≠0:=by simpa using h
  unfold ny at ee
  rw[if_pos h]at ee
  obtain⟨f1,f2⟩:=aog (val:=val) ee
  exact b9 6 rfl (Nat.le_refl _) f2 f1
 ·have h:¬e≠0:=by simpa using h
  unfold ny at ee
  rw[if_neg h]at ee
  obtain⟨f1,f2⟩:=aog (val:=val) ee
  exact b9 6 rfl (Nat.le_refl _) f2 f1
theorem tv(hz:dS Bx.ct X)(hX:X.H=lk (qx th m0 sR aI bZ bY dr key val)){m:As}{fu root:Int}{fr fs gn:Ws}{l:List Br}{e:Int}(hd:Ds.bU th m fu)(hp:∀b∈l,0≤b.2.1∧b.2.1≤65536)
 (ee:kg th key (some val) m0 sR aI bZ bY dr=jy th aI bZ bY dr (m,fu,fr,fs,gn,l,e)):
 Safe P 48 X (kI abP ((th,m0,sR,aI,bZ,bY,dr),key,val)) (aoc th aI bZ bY dr m fu root fr fs gn key val l e):=by
 refine Ds.eV hz hX qF lJ Tryd.func48 (aqp th aI bZ bY dr m fu root fr fs gn key val l e) ⟨fun h=>⟨fun h2=> ?_,fun h2=> ?_⟩,fun h=> ?_⟩
 ·have h:e=0:=by simpa using h
  have h2:(l.length:Int)=1:=by simpa using h2
  unfold jy at ee
  rw[if_pos ⟨h,by simp only[];omega⟩]at ee
  exact⟨by omega,by omega,rfl,rfl,hd,afi hp 0,zG hz hX ee⟩
 ·have h2:¬(l.length:Int)=1:=by simpa using h2
  unfold jy at ee
  rw[if_neg (fun a=>h2 (by have:=a.2;simp only[]at this;omega))]at ee
  exact zG hz hX ee
 ·have h:¬e=0:=by simpa using h
  unfold jy at ee
  rw[if_neg (fun a=>h a.1)]at ee
  exact zG hz hX ee
theorem amE(hz:dS Bx.ct X)(hX:X.H=lk (qx th m0 sR aI bZ bY dr key val)){m:As}{fu root:Int}{fr fs gn:Ws}{l:List Br}{e:Int}(hd:Ds.bU th m fu)(hp:∀b∈l,0≤b.2.1∧b.2.1≤65536)(tZ:¬(e=0∧1<l.length))
 (ee:kg th key (some val) m0 sR aI bZ bY dr=jy th aI bZ bY dr (m,fu,fr,fs,gn,l,e)):
 Safe P 48 X (kI abP ((th,m0,sR,aI,bZ,bY,dr),key,val)) (ajQ th aI bZ bY dr m fu root fr fs gn key val l e):=by
 refine Ds.eV hz hX qF lJ Tryd.func48 (ajR th aI bZ bY dr m fu root fr fs gn key val l e) ⟨fun h=>⟨fun h2=> ?_,fun h2=> ?_⟩,fun h=> ?_⟩
 ·have h:e=0:=by simpa using h
  have h2:=of_decide_eq_true h2
  exact absurd ⟨h,by omega⟩ tZ
 ·exact tv hz hX hd hp ee
 ·exact tv hz hX hd hp ee
theorem amF(hz:dS Bx.ct X)(hX:X.H=lk (qx th m0 sR aI bZ bY dr key val)){m:As}{fu root:Int}{fr fs gn:Ws}{l:List Br}{e:Int}(F:ajH th m fu fr l)
 (ee:kg th key (some val) m0 sR aI bZ bY dr=jy th aI bZ bY dr (zV th (m,fu,fr,fs,gn,l,e))):
 Safe P 48 X (kI abP ((th,m0,sR,aI,bZ,bY,dr),key,val)) (ajQ th aI bZ bY dr m fu root fr fs gn key val l e):=by
 refine Ds.eV hz hX qF lJ Tryd.func48 (ajR th aI bZ bY dr m fu root fr fs gn key val l e) ⟨fun h=>⟨fun h2=> ?_,fun h2=> ?_⟩,fun h=> ?_⟩
 ·have h:e=0:=by simpa using h
  have h2:=of_decide_eq_true h2
  have hu:zV th (m,fu,fr,fs,gn,l,e)=gL gn (bo th m fu fr fs false [] l):=if_pos ⟨h,by show 1<l.length;omega⟩
  rw[hu]at ee
  have F2:=nx (fs:=fs) (l:=false) (es:=[]) F.d F.fr noE F.key
  have hl:=ajU (th:=th) (m:=m) (fu:=fu) (fr:=fr) (fs:=fs) (l:=l) (by omega) F.two F.key
  exact⟨rfl,rfl,F.d,F.fr,⟨fun a=>(by cases a),fun _=>rfl⟩,ie,x9 F.two F.key,amE hz hX F2.d F2.pg (fun a=>by rw[hl]at a;omega) ee⟩
 ·have h2:=of_decide_eq_false h2
  rw[rM (fun a=>h2 (by have:=a.2;simp only[]at this;omega))]at ee
  exact tv hz hX F.d F.pg ee
 ·have h:¬e=0:=by simpa using h
  rw[rM (fun a=>h a.1)]at ee
  exact tv hz hX F.d F.pg ee
end
theorem abS:jU P Bx.ct 48 abP:=by
 refine aO Tryd.func48 (by kernel_rfl) (fun x=>Nat.le_of_ble_eq_true (by kernel_rfl)) ?_
 rintro⟨⟨(th:Th),(m:As),(fu:Int),(root:Int),(fr:Ws),(fs:Ws),(gn:Ws)⟩,(key:ByteArray),(val:ByteArray)⟩ ⟨(hd:Ds.bU th m fu),(hf:Bx.okW fr),(hr:0≤root∧root≤65536),(hk:1≤key.size∧key.size≤24),(hv:val.size≤100),_⟩ X hX hz
 exact Ds.eV hz hX qF lJ Tryd.func48 (asr th m fu root fr fs gn key val) ⟨rfl,rfl,hd,hf,hr,hk,hv,amF hz hX (abR (op:=(some val)) hk.2 hd hf) rfl⟩
theorem aoh{th:Th}{m:As}{fu root:Int}{fr fs gn:Ws}{key val:ByteArray}{c:Chs}(e:kg th key none m fu root fr fs gn=c):
 abQ.fC ((th,m,fu,root,fr,fs,gn),key,val)=qy th c.1 c.2.1 c.2.2.1 c.2.2.2.1 c.2.2.2.2.1 c.2.2.2.2.2.1 key∧abQ.out ((th,m,fu,root,fr,fs,gn),key,val)=bO c.2.2.2.2.2.2:=by
 subst e;exact⟨rfl,rfl⟩
theorem lK:vW.Ok P Bx.ct:=aH.Ok.cons (amw.sum amu) (aH.Ok.cons (ig (ga (jE.sum mTN) 1 _) 1) (aH.Ok.cons (abM.sum mLv) (aH.Ok.cons Bx.ajf.sum aH.Ok.nil)))
section
variable{th:Th}{m0:As}{sR aI:Int}{bZ bY dr:Ws}{key val:ByteArray}{X:Ctx}
theorem qG{th:Th}{m:As}{fu root:Int}{fr fs gn:Ws}{key:ByteArray}:∀y∈x8,(qy th m fu root fr fs gn key).length≤y.2.m:=fun y hy=>by
 simp only[x8,List.mem_cons,List.not_mem_nil,or_false]at hy
 rcases hy with rfl|rfl|rfl<;>exact Nat.le_refl _
theorem zH(hz:dS Bx.ct X)(hX:X.H=lk (qy th m0 sR aI bZ bY dr key)){m:As}{fu root:Int}{fr fs gn:Ws}{e:Int}(ee:kg th key none m0 sR aI bZ bY dr=ny th aI bZ bY dr m fu root fr fs gn e):
 Safe P 48 X (kI abQ ((th,m0,sR,aI,bZ,bY,dr),key,val)) (aof th aI bZ bY dr m fu root fr fs gn key e):=by
 refine Ds.eV hz hX qG lK Tryd.func48 (aqs th aI bZ bY dr m fu root fr fs gn key e) ⟨fun h=> ?_,fun h=> ?_⟩
 ·have h:e≠0:=by simpa using h
  unfold ny at ee
  rw[if_pos h]at ee
  obtain⟨f1,f2⟩:=aoh (val:=val) ee
  exact b9 5 rfl (Nat.le_refl _) f2 f1
 ·have h:¬e≠0:=by simpa using h
  unfold ny at ee
  rw[if_neg h]at ee
  obtain⟨f1,f2⟩:=aoh (val:=val) ee
  exact b9 5 rfl (Nat.le_refl _) f2 f1
theorem tw(hz:dS Bx.ct X)(hX:X.H=lk (qy th m0 sR aI bZ bY dr key)){m:As}{fu root:Int}{fr fs gn:Ws}{l:List Br}{e:Int}(hd:Ds.bU th m fu)(hp:∀b∈l,0≤b.2.1∧b.2.1≤65536)
 (ee:kg th key none m0 sR aI bZ bY dr=jy th aI bZ bY dr (m,fu,fr,fs,gn,l,e)):
 Safe P 48 X (kI abQ ((th,m0,sR,aI,bZ,bY,dr),key,val)) (aoe th aI bZ bY dr m fu root fr fs gn key l e):=by
 refine Ds.eV hz hX qG lK Tryd.func48 (aqr th aI bZ bY dr m fu root fr fs gn key l e) ⟨fun h=>⟨fun h2=> ?_,fun h2=> ?_⟩,fun h=> ?_⟩
 ·have h:e=0:=by simpa using h
  have h2:(l.length:Int)=1:=by simpa using h2
  unfold jy at ee
  rw[if_pos ⟨h,by simp only[];omega⟩]at ee
  exact⟨by omega,by omega,rfl,rfl,hd,afi hp 0,zH hz hX ee⟩
 ·have h2:¬(l.length:Int)=1:=by simpa using h2
  unfold jy at ee
  rw[if_neg (fun a=>h2 (by have:=a.2;simp only[]at this;omega))]at ee
  exact zH hz hX ee
 ·have h:¬e=0:=by simpa using h
  unfold jy at ee
  rw[if_neg (fun a=>h a.1)]at ee
  exact zH hz hX ee
theorem amG(hz:dS Bx.ct X)(hX:X.H=lk (qy th m0 sR aI bZ bY dr key)){m:As}{fu root:Int}{fr fs gn:Ws}{l:List Br}{e:Int}(hd:Ds.bU th m fu)(hp:∀b∈l,0≤b.2.1∧b.2.1≤65536)(tZ:¬(e=0∧1<l.length))
 (ee:kg th key none m0 sR aI bZ bY dr=jy th aI bZ bY dr (m,fu,fr,fs,gn,l,e)):
 Safe P 48 X (kI abQ ((th,m0,sR,aI,bZ,bY,dr),key,val)) (ajS th aI bZ bY dr m fu root fr fs gn key l e):=by
 refine Ds.eV hz hX qG lK Tryd.func48 (ajT th aI bZ bY dr m fu root fr fs gn key l e) ⟨fun h=>⟨fun h2=> ?_,fun h2=> ?_⟩,fun h=> ?_⟩
 ·have h:e=0:=by simpa using h
  have h2:=of_decide_eq_true h2
  exact absurd ⟨h,by omega⟩ tZ
 ·exact tw hz hX hd hp ee
 ·exact tw hz hX hd hp ee
theorem amH(hz:dS Bx.ct X)(hX:X.H=lk (qy th m0 sR aI bZ bY dr key)){m:As}{fu root:Int}{fr fs gn:Ws}{l:List Br}{e:Int}(F:ajH th m fu fr l)
 (ee:kg th key none m0 sR aI bZ bY dr=jy th aI bZ bY dr (zV th (m,fu,fr,fs,gn,l,e))):
 Safe P 48 X (kI abQ ((th,m0,sR,aI,bZ,bY,dr),key,val)) (ajS th aI bZ bY dr m fu root fr fs gn key l e):=by
 refine Ds.eV hz hX qG lK Tryd.func48 (ajT th aI bZ bY dr m fu root fr fs gn key l e) ⟨fun h=>⟨fun h2=> ?_,fun h2=> ?_⟩,fun h=> ?_⟩
 ·have h:e=0:=by simpa using h
  have h2:=of_decide_eq_true h2
  have hu:zV th (m,fu,fr,fs,gn,l,e)=gL gn (bo th m fu fr fs false [] l):=if_pos ⟨h,by show 1<l.length;omega⟩
  rw[hu]at ee
  have F2:=nx (fs:=fs) (l:=false) (es:=[]) F.d F.fr noE F.key
  have hl:=ajU (th:=th) (m:=m) (fu:=fu) (fr:=fr) (fs:=fs) (l:=l) (by omega) F.two F.key
  exact⟨rfl,rfl,F.d,F.fr,⟨fun a=>(by cases a),fun _=>rfl⟩,ie,x9 F.two F.key,amG hz hX F2.d F2.pg (fun a=>by rw[hl]at a;omega) ee⟩
 ·have h2:=of_decide_eq_false h2
  rw[rM (fun a=>h2 (by have:=a.2;simp only[]at this;omega))]at ee
  exact tw hz hX F.d F.pg ee
 ·have h:¬e=0:=by simpa using h
  rw[rM (fun a=>h a.1)]at ee
  exact tw hz hX F.d F.pg ee
end
theorem abT:jU P Bx.ct 48 abQ:=by
 refine aO Tryd.func48 (by kernel_rfl) (fun x=>Nat.le_of_ble_eq_true (by kernel_rfl)) ?_
 rintro⟨⟨(th:Th),(m:As),(fu:Int),(root:Int),(fr:Ws),(fs:Ws),(gn:Ws)⟩,(key:ByteArray),(val:ByteArray)⟩ ⟨(hd:Ds.bU th m fu),(hf:Bx.okW fr),(hr:0≤root∧root≤65536),(hk:1≤key.size∧key.size≤24),(hv:val.size≤100),_⟩ X hX hz
 exact Ds.eV hz hX qG lK Tryd.func48 (ass th m fu root fr fs gn key) ⟨rfl,rfl,hd,hf,hr,hk,(Nat.zero_le 100),amH hz hX (abR (op:=none) hk.2 hd hf) rfl⟩
end Ts
namespace Ts
open Go Go.Sx Go.Proofs Lf
def ik(key:ByteArray):Option ByteArray→Bool
 |some v=>decide (1≤key.size)&&decide (key.size≤24)&&decide (v.size≤100)
 |none=>decide (1≤key.size)&&decide (key.size≤24)
def wR(th:Th)(key:ByteArray)(op:Option ByteArray)(m:As)(fu root:Int)(fr fs gn:Ws):Chs:=if ik key op=true then kg th key op m fu root fr fs gn else(m,fu,root,fr,fs,gn,1)
def op0(th:Th)(key:ByteArray)(op:Option ByteArray)(m:As)(fu root:Int)(fr fs gn:Ws):As:=(wR th key op m fu root fr fs gn).1
def op1(th:Th)(key:ByteArray)(op:Option ByteArray)(m:As)(fu root:Int)(fr fs gn:Ws):Int:=(wR th key op m fu root fr fs gn).2.1
def v7(th:Th)(key:ByteArray)(op:Option ByteArray)(m:As)(fu root:Int)(fr fs gn:Ws):Int:=(wR th key op m fu root fr fs gn).2.2.1
def op2(th:Th)(key:ByteArray)(op:Option ByteArray)(m:As)(fu root:Int)(fr fs gn:Ws):Ws:=(wR th key op m fu root fr fs gn).2.2.2.1
def op3(th:Th)(key:ByteArray)(op:Option ByteArray)(m:As)(fu root:Int)(fr fs gn:Ws):Ws:=(wR th key op m fu root fr fs gn).2.2.2.2.1
def op4(th:Th)(key:ByteArray)(op:Option ByteArray)(m:As)(fu root:Int)(fr fs gn:Ws):Ws:=(wR th key op m fu root fr fs gn).2.2.2.2.2.1
def opE(th:Th)(key:ByteArray)(op:Option ByteArray)(m:As)(fu root:Int)(fr fs gn:Ws):Int:=(wR th key op m fu root fr fs gn).2.2.2.2.2.2
def aqt(th:Th)(m:As)(fu root:Int)(fr:Ws):List Prop:=[Ds.bU th m fu,Bx.okW fr,0≤root∧root≤65536]
abbrev ajV:Spec XK:=⟨fun(_,key,val)=>[.ptr 0 0,.s (.str key),.s (.str val)],fun((th,m,fu,root,fr,fs,gn),_,_)=>hT th m fu root fr fs gn,fun((th,m,fu,root,fr,_,_),_,_)=>aqt th m fu root fr,
 fun((th,m,fu,root,fr,fs,gn),key,val)=>hT th (op0 th key (some val) m fu root fr fs gn) (op1 th key (some val) m fu root fr fs gn) (v7 th key (some val) m fu root fr fs gn) (op2 th key (some val) m fu root fr fs gn) (op3 th key (some val) m fu root fr fs gn) (op4 th key (some val) m fu root fr fs gn),
 fun((th,m,fu,root,fr,fs,gn),key,val)=>bO (opE th key (some val) m fu root fr fs gn)⟩
abbrev XD:Type:=XT×ByteArray
abbrev ajW:Spec XD:=⟨fun(_,key)=>[.ptr 0 0,.s (.str key)],fun((th,m,fu,root,fr,fs,gn),_)=>hT th m fu root fr fs gn,fun((th,m,fu,root,fr,_,_),_)=>aqt th m fu root fr,
 fun((th,m,fu,root,fr,fs,gn),key)=>hT th (op0 th key none m fu root fr fs gn) (op1 th key none m fu root fr fs gn) (v7 th key none m fu root fr fs gn) (op2 th key none m fu root fr fs gn) (op3 th key none m fu root fr fs gn) (op4 th key none m fu root fr fs gn),
 fun((th,m,fu,root,fr,fs,gn),key)=>bO (opE th key none m fu root fr fs gn)⟩
def ast:aH:=[(48,dI abP amt)]
def asu:aH:=[(48,dI abQ amu)]
theorem aut(th:Th)(m:As)(fu root:Int)(fr fs gn:Ws)(key val:ByteArray):run P ast.sum Tryd.f24 [] (start Tryd.f24 [.ptr 0 0,.s (.str key),.s (.str val)] (hT th m fu root fr fs gn)) (inl:=[36])=
 Tree.ite (decide ((↑key.size:Int)≥1)) (.ite (!decide ((↑key.size:Int)≤24)) (.ret [.own [.ptr 1 0,.s (.int .i64 root),.ints .u64 16 fr,.ints .u64 16 fs,.ints .u64 16 gn] 70,.own [.vec 2,.ag 3,.s (.int .i64 fu)] 96,.vec (.ad [.arr .u8 64] th) 138,.map (.arr .u8 64) m,.own [.s (.str key)] 9,.own [.s (.str val)] 9] (.s (.aW .i64 1))) (.ite (decide ((↑val.size:Int)>100)) (.ret [.own [.ptr 1 0,.s (.int .i64 root),.ints .u64 16 fr,.ints .u64 16 fs,.ints .u64 16 gn] 70,.own [.vec 2,.ag 3,.s (.int .i64 fu)] 96,.vec (.ad [.arr .u8 64] th) 138,.map (.arr .u8 64) m,.own [.s (.str key)] 9,.own [.s (.str val)] 9] (.s (.aW .i64 1))) (.need (bJ (some [AV.ptr 0 0,.s (.str key),.fn 49 [.ptr 4 0,.ptr 5 0]])) (.need (bJ (some [ae.own [.ptr 1 0,.s (.int .i64 root),.ints .u64 16 fr,.ints .u64 16 fs,.ints .u64 16 gn] 70,.own [.vec 2,.ag 3,.s (.int .i64 fu)] 96,.vec (.ad [.arr .u8 64] th) 138,.map (.arr .u8 64) m,.own [.s (.str key)] 9,.own [.s (.str val)] 9])) (.need (Ds.bU th m fu) (.need (Bx.okW fr) (.need ((0:Int)≤root∧root≤65536) (.need ((1:Nat)≤key.size∧key.size≤24) (.need (val.size≤100) (.ret [.own [.ptr 1 0,.s (.int .i64 (amz th key (some val) m fu root fr fs gn)),.ints .u64 16 (amA th key (some val) m fu root fr fs gn),.ints .u64 16 (amB th key (some val) m fu root fr fs gn),.ints .u64 16 (amC th key (some val) m fu root fr fs gn)] 70,.own [.vec 2,.ag 3,.s (.int .i64 (amy th key (some val) m fu root fr fs gn))] 96,.vec (.ad [.arr .u8 64] th) 138,.map (.arr .u8 64) (amx th key (some val) m fu root fr fs gn),.own [.s (.str key)] 9,.own [.s (.str val)] 9] (.s (.int .i64 (amD th key (some val) m fu root fr fs gn))))))))))))) (.ret [.own [.ptr 1 0,.s (.int .i64 root),.ints .u64 16 fr,.ints .u64 16 fs,.ints .u64 16 gn] 70,.own [.vec 2,.ag 3,.s (.int .i64 fu)] 96,.vec (.ad [.arr .u8 64] th) 138,.map (.arr .u8 64) m,.own [.s (.str key)] 9,.own [.s (.str val)] 9] (.s (.aW .i64 1))):=by kernel_rfl
theorem auu(th:Th)(m:As)(fu root:Int)(fr fs gn:Ws)(key:ByteArray):run P asu.sum Tryd.f25 [] (start Tryd.f25 [.ptr 0 0,.s (.str key)] (hT th m fu root fr fs gn)) (inl:=[36])=
 Tree.ite (decide ((↑key.size:Int)≥1)) (.ite (!decide ((↑key.size:Int)≤24)) (.ret [.own [.ptr 1 0,.s (.int .i64 root),.ints .u64 16 fr,.ints .u64 16 fs,.ints .u64 16 gn] 70,.own [.vec 2,.ag 3,.s (.int .i64 fu)] 96,.vec (.ad [.arr .u8 64] th) 138,.map (.arr .u8 64) m,.own [.s (.str key)] 9] (.s (.aW .i64 1))) (.need (bJ (some [AV.ptr 0 0,.s (.str key),.fn 51 [.ptr 4 0]])) (.need (bJ (some [ae.own [.ptr 1 0,.s (.int .i64 root),.ints .u64 16 fr,.ints .u64 16 fs,.ints .u64 16 gn] 70,.own [.vec 2,.ag 3,.s (.int .i64 fu)] 96,.vec (.ad [.arr .u8 64] th) 138,.map (.arr .u8 64) m,.own [.s (.str key)] 9])) (.need (Ds.bU th m fu) (.need (Bx.okW fr) (.need ((0:Int)≤root∧root≤65536) (.need ((1:Nat)≤key.size∧key.size≤24) (.need (ByteArray.empty.size≤100) (.ret [.own [.ptr 1 0,.s (.int .i64 (amz th key none m fu root fr fs gn)),.ints .u64 16 (amA th key none m fu root fr fs gn),.ints .u64 16 (amB th key none m fu root fr fs gn),.ints .u64 16 (amC th key none m fu root fr fs gn)] 70,.own [.vec 2,.ag 3,.s (.int .i64 (amy th key none m fu root fr fs gn))] 96,.vec (.ad [.arr .u8 64] th) 138,.map (.arr .u8 64) (amx th key none m fu root fr fs gn),.own [.s (.str key)] 9] (.s (.int .i64 (amD th key none m fu root fr fs gn)))))))))))) (.ret [.own [.ptr 1 0,.s (.int .i64 root),.ints .u64 16 fr,.ints .u64 16 fs,.ints .u64 16 gn] 70,.own [.vec 2,.ag 3,.s (.int .i64 fu)] 96,.vec (.ad [.arr .u8 64] th) 138,.map (.arr .u8 64) m,.own [.s (.str key)] 9] (.s (.aW .i64 1))):=by kernel_rfl
theorem zI{th:Th}{key:ByteArray}{op:Option ByteArray}{m:As}{fu root:Int}{fr fs gn:Ws}(h:ik key op=true):wR th key op m fu root fr fs gn=kg th key op m fu root fr fs gn:=if_pos h
theorem adL{th:Th}{key:ByteArray}{op:Option ByteArray}{m:As}{fu root:Int}{fr fs gn:Ws}(h:ik key op=false):wR th key op m fu root fr fs gn=(m,fu,root,fr,fs,gn,1):=if_neg (by rw[h];simp)
theorem aoi{th:Th}{m:As}{fu root:Int}{fr fs gn:Ws}{key val:ByteArray}{c:Chs}(e:wR th key (some val) m fu root fr fs gn=c):
 ajV.fC ((th,m,fu,root,fr,fs,gn),key,val)=hT th c.1 c.2.1 c.2.2.1 c.2.2.2.1 c.2.2.2.2.1 c.2.2.2.2.2.1∧ajV.out ((th,m,fu,root,fr,fs,gn),key,val)=bO c.2.2.2.2.2.2:=by
 subst e;exact⟨rfl,rfl⟩
theorem aoj{th:Th}{m:As}{fu root:Int}{fr fs gn:Ws}{key:ByteArray}{c:Chs}(e:wR th key none m fu root fr fs gn=c):
 ajW.fC ((th,m,fu,root,fr,fs,gn),key)=hT th c.1 c.2.1 c.2.2.1 c.2.2.2.1 c.2.2.2.2.1 c.2.2.2.2.2.1∧ajW.out ((th,m,fu,root,fr,fs,gn),key)=bO c.2.2.2.2.2.2:=by
 subst e;exact⟨rfl,rfl⟩
theorem sw:jU P Bx.ct 24 ajV:=by
 refine aO Tryd.func24 (by kernel_rfl) (fun x=>Nat.le_of_ble_eq_true (by kernel_rfl)) ?_
 rintro⟨⟨(th:Th),(m:As),(fu:Int),(root:Int),(fr:Ws),(fs:Ws),(gn:Ws)⟩,(key:ByteArray),(val:ByteArray)⟩ ⟨(hd:Ds.bU th m fu),(hf:Bx.okW fr),(hr:0≤root∧root≤65536),_⟩ X hX hz
 have no:ik key (some val)=false→kI ajV ((th,m,fu,root,fr,fs,gn),key,val) (hT th m fu root fr fs gn++[tp key,tp val]) (.s (.aW .i64 1)):=fun h=>by
  obtain⟨f1,f2⟩:=aoi (adL (th:=th) (m:=m) (fu:=fu) (root:=root) (fr:=fr) (fs:=fs) (gn:=gn) h)
  exact b9 4 rfl (Nat.le_refl _) f2 f1
 refine Ds.eV hz hX (by intro y hy;cases hy) (aH.Ok.cons (abS.sum amt) aH.Ok.nil) Tryd.func24 (aut th m fu root fr fs gn key val) ⟨fun h=>⟨fun h2=> ?_,fun h2=>⟨fun h3=> ?_,fun h3=>⟨rfl,rfl,hd,hf,hr, ?_, ?_, ?_⟩⟩⟩,fun h=> ?_⟩
 ·have h2:¬(key.size:Int)≤24:=by simpa using h2
  exact no (by simp only[ik,Bool.and_eq_false_iff,decide_eq_false_iff_not];omega)
 ·have h3:=of_decide_eq_true h3
  exact no (by simp only[ik,Bool.and_eq_false_iff,decide_eq_false_iff_not];omega)
 ·have h:=of_decide_eq_true h
  have h2:(key.size:Int)≤24:=by simpa using h2
  omega
 ·have h3:=of_decide_eq_false h3
  omega
 ·have h:=of_decide_eq_true h
  have h2:(key.size:Int)≤24:=by simpa using h2
  have h3:=of_decide_eq_false h3
  obtain⟨f1,f2⟩:=aoi (zI (th:=th) (key:=key) (op:=some val) (m:=m) (fu:=fu) (root:=root) (fr:=fr) (fs:=fs) (gn:=gn) (by simp only[ik,Bool.and_eq_true,decide_eq_true_eq];omega))
  exact b9 4 rfl (Nat.le_refl _) f2 f1
 ·have h:=of_decide_eq_false h
  exact no (by simp only[ik,Bool.and_eq_false_iff,decide_eq_false_iff_not];omega)
theorem sC:jU P Bx.ct 25 ajW:=by
 refine aO Tryd.func25 (by kernel_rfl) (fun x=>Nat.le_of_ble_eq_true (by kernel_rfl)) ?_
 rintro⟨⟨(th:Th),(m:As),(fu:Int),(root:Int),(fr:Ws),(fs:Ws),(gn:Ws)⟩,(key:ByteArray)⟩ ⟨(hd:Ds.bU th m fu),(hf:Bx.okW fr),(hr:0≤root∧root≤65536),_⟩ X hX hz
 have no:ik key none=false→kI ajW ((th,m,fu,root,fr,fs,gn),key) (hT th m fu root fr fs gn++[tp key]) (.s (.aW .i64 1)):=fun h=>by
  obtain⟨f1,f2⟩:=aoj (adL (th:=th) (m:=m) (fu:=fu) (root:=root) (fr:=fr) (fs:=fs) (gn:=gn) h)
  exact b9 4 rfl (Nat.le_refl _) f2 f1
 refine Ds.eV hz hX (by intro y hy;cases hy) (aH.Ok.cons (abT.sum amu) aH.Ok.nil) Tryd.func25 (auu th m fu root fr fs gn key) ⟨fun h=>⟨fun h2=> ?_,fun h2=>⟨rfl,rfl,hd,hf,hr, ?_,Nat.zero_le 100, ?_⟩⟩,fun h=> ?_⟩
 ·have h2:¬(key.size:Int)≤24:=by simpa using h2
  exact no (by simp only[ik,Bool.and_eq_false_iff,decide_eq_false_iff_not];omega)
 ·have h:=of_decide_eq_true h
  have h2:(key.size:Int)≤24:=by simpa using h2
  omega
 ·have h:=of_decide_eq_true h
  have h2:(key.size:Int)≤24:=by simpa using h2
  obtain⟨f1,f2⟩:=aoj (zI (th:=th) (key:=key) (op:=none) (m:=m) (fu:=fu) (root:=root) (fr:=fr) (fs:=fs) (gn:=gn) (by simp only[ik,Bool.and_eq_true,decide_eq_true_eq];omega))
  exact b9 4 rfl (Nat.le_refl _) f2 f1
 ·have h:=of_decide_eq_false h
  exact no (by simp only[ik,Bool.and_eq_false_iff,decide_eq_false_iff_not];omega)
end Ts
namespace Ts
open Go Go.Sx Go.Proofs Lf
def zJ(th:Th)(m:As)(key:ByteArray):Nat→Int→Int→ByteArray×Bool×Int
 |0,_,_=>(ByteArray.empty,false,4)
 |f+1,n,deep=>
  if gU th m n deep≠0 then(ByteArray.empty,false,gU th m n deep)
  else if kJ th m n deep=true then(pb (bR th m n deep) key,np (bR th m n deep) key,0)
  else if aR th m n deep=[]then(ByteArray.empty,false,4)
  else zJ th m key f ((aR th m n deep).getD (aT (aR th m n deep) key).toNat dB).2.1 (deep+1)
def gtT(th:Th)(m:As)(root:Int)(key:ByteArray):ByteArray×Bool×Int:=
 if ik key none=false then(ByteArray.empty,false,1)else if root=0 then(ByteArray.empty,false,0)else zJ th m key 17 root 1
def gtV(th:Th)(m:As)(root:Int)(key:ByteArray):ByteArray:=(gtT th m root key).1
def gtB(th:Th)(m:As)(root:Int)(key:ByteArray):Bool:=(gtT th m root key).2.1
def gtE(th:Th)(m:As)(root:Int)(key:ByteArray):Int:=(gtT th m root key).2.2
abbrev ajX:Spec XD:=⟨fun(_,key)=>[.ptr 0 0,.s (.str key)],fun((th,m,fu,root,fr,fs,gn),_)=>hT th m fu root fr fs gn,fun((th,m,fu,root,_),_)=>[Ds.bU th m fu,0≤root∧root≤65536],
 fun((th,m,fu,root,fr,fs,gn),_)=>hT th m fu root fr fs gn,fun((th,m,_,root,_),key)=>.bp [.s (.str (gtV th m root key)),.s (.bool (gtB th m root key)),bO (gtE th m root key)]⟩
abbrev asv:=bS [n9,dL] [dL,cv] (fun(l,_,())=>[(l:List En).length≤1000000,iz (bC l)]) (fun(l,key,())=>(pb l key,np l key,()))
def ajY:aH:=[(37,abC),(38,asv),(39,aqf)]
def amI:List (Nat×Norm):=[(10,⟨[],[0,1,7,8],4,[]⟩)]
noncomputable def cGt(th:Th)(m:As)(fu root:Int)(fr fs gn:Ws)(key:ByteArray)(n deep:Int):bB:=⟨sl 66 [(0,.ptr 0 0),(1,.s (.str key)),(7,bO n),(8,bO deep)],hT th m fu root fr fs gn,hd Tryd.f11 10,{}⟩
theorem auv(th:Th)(m:As)(fu root:Int)(fr fs gn:Ws)(key:ByteArray):run P ajY.sum Tryd.f11 amI (start Tryd.f11 [.ptr 0 0,.s (.str key)] (hT th m fu root fr fs gn)) (inl:=[36])=
 Tree.ite (decide ((↑key.size:Int)≥1)) (.ite (!decide ((↑key.size:Int)≤24)) (.ret [.own [.ptr 1 0,.s (.int .i64 root),.ints .u64 16 fr,.ints .u64 16 fs,.ints .u64 16 gn] 70,.own [.vec 2,.ag 3,.s (.int .i64 fu)] 96,.vec (.ad [.arr .u8 64] th) 138,.map (.arr .u8 64) m] (.bp [.s (.str ByteArray.empty),.s (.aJ false),.s (.aW .i64 1)])) (.ite (root==0) (.ret [.own [.ptr 1 0,.s (.int .i64 root),.ints .u64 16 fr,.ints .u64 16 fs,.ints .u64 16 gn] 70,.own [.vec 2,.ag 3,.s (.int .i64 fu)] 96,.vec (.ad [.arr .u8 64] th) 138,.map (.arr .u8 64) m] (.bp [.s (.str ByteArray.empty),.s (.aJ false),.s (.aW .i64 0)])) (.at (.mk (sl 66 [(0,.ptr 0 0),(1,.s (.str key)),(7,.s (.int .i64 root)),(8,.s (.int .i64 1))]) [.own [.ptr 1 0,.s (.int .i64 root),.ints .u64 16 fr,.ints .u64 16 fs,.ints .u64 16 gn] 70,.own [.vec 2,.ag 3,.s (.int .i64 fu)] 96,.vec (.ad [.arr .u8 64] th) 138,.map (.arr .u8 64) m] (hd Tryd.f11 10) (.mk none false 0 [] 0))))) (.ret [.own [.ptr 1 0,.s (.int .i64 root),.ints .u64 16 fr,.ints .u64 16 fs,.ints .u64 16 gn] 70,.own [.vec 2,.ag 3,.s (.int .i64 fu)] 96,.vec (.ad [.arr .u8 64] th) 138,.map (.arr .u8 64) m] (.bp [.s (.str ByteArray.empty),.s (.aJ false),.s (.aW .i64 1)])):=by kernel_rfl
theorem auw(th:Th)(m:As)(fu root:Int)(fr fs gn:Ws)(key:ByteArray)(n deep:Int):run P ajY.sum Tryd.f11 amI (cGt th m fu root fr fs gn key n deep) (inl:=[36])=
 Tree.need (bJ (some [AV.ptr 0 0,.s (.int .i64 n),.s (.int .i64 deep)])) (.need (bJ (some [ae.own [.ptr 1 0,.s (.int .i64 root),.ints .u64 16 fr,.ints .u64 16 fs,.ints .u64 16 gn] 70,.own [.vec 2,.ag 3,.s (.int .i64 fu)] 96,.vec (.ad [.arr .u8 64] th) 138,.map (.arr .u8 64) m])) (.need (Ds.bU th m fu) (.need (aD n) (.ite (gU th m n deep !=0) (.ret [.own [.ptr 1 0,.s (.int .i64 root),.ints .u64 16 fr,.ints .u64 16 fs,.ints .u64 16 gn] 70,.own [.vec 2,.ag 3,.s (.int .i64 fu)] 96,.vec (.ad [.arr .u8 64] th) 138,.map (.arr .u8 64) m,.own [.s (.bool (kJ th m n deep)),.s (.ro (.ad [.str,.str] (bR th m n deep))),.s (.ro (.ad [.str,.int .i64] (aR th m n deep)))] 73] (.bp [.s (.str ByteArray.empty),.s (.aJ false),.s (.int .i64 (gU th m n deep))])) (.ite (kJ th m n deep) (.need ((bR th m n deep).length≤1000000) (.need (iz (bC (bR th m n deep))) (.ret [.own [.ptr 1 0,.s (.int .i64 root),.ints .u64 16 fr,.ints .u64 16 fs,.ints .u64 16 gn] 70,.own [.vec 2,.ag 3,.s (.int .i64 fu)] 96,.vec (.ad [.arr .u8 64] th) 138,.map (.arr .u8 64) m,.own [.s (.bool (kJ th m n deep)),.s (.ro (.ad [.str,.str] (bR th m n deep))),.s (.ro (.ad [.str,.int .i64] (aR th m n deep)))] 73] (.bp [.s (.str (pb (bR th m n deep) key)),.s (.bool (np (bR th m n deep) key)),.s (.aW .i64 0)])))) (.ite ((↑(aR th m n deep).length:Int)==0) (.ret [.own [.ptr 1 0,.s (.int .i64 root),.ints .u64 16 fr,.ints .u64 16 fs,.ints .u64 16 gn] 70,.own [.vec 2,.ag 3,.s (.int .i64 fu)] 96,.vec (.ad [.arr .u8 64] th) 138,.map (.arr .u8 64) m,.own [.s (.bool (kJ th m n deep)),.s (.ro (.ad [.str,.str] (bR th m n deep))),.s (.ro (.ad [.str,.int .i64] (aR th m n deep)))] 73] (.bp [.s (.str ByteArray.empty),.s (.aJ false),.s (.aW .i64 4)])) (.need ((aR th m n deep).length≤1000000) (.need (iz (mg (aR th m n deep))) (.need ((0:Int)≤aT (aR th m n deep) key) (.need (aT (aR th m n deep) key<(↑(aR th m n deep).length:Int)) (.need (aD (deep+1)) (.at (.mk (sl 66 [(0,.ptr 0 0),(1,.s (.str key)),(7,.s (.int .i64 ((aR th m n deep).getD (aT (aR th m n deep) key).toNat (CL.d [.str,.int .i64])).snd.fst)),(8,.s (.int .i64 (deep+1)))]) [.own [.ptr 1 0,.s (.int .i64 root),.ints .u64 16 fr,.ints .u64 16 fs,.ints .u64 16 gn] 70,.own [.vec 2,.ag 3,.s (.int .i64 fu)] 96,.vec (.ad [.arr .u8 64] th) 138,.map (.arr .u8 64) m] (hd Tryd.f11 10) (.mk none false 0 [] 0)))))))))))))):=by kernel_rfl
theorem abU{Z:aX}:ajY.Ok P Z:=aH.Ok.cons (qt.sum mNo) (aH.Ok.cons alF.sum (aH.Ok.cons u5.sum aH.Ok.nil))
theorem abV{th:Th}{m:As}{fu root:Int}{fr fs gn:Ws}{key:ByteArray}{c:ByteArray×Bool×Int}(e:c=gtT th m root key):
 ajX.out ((th,m,fu,root,fr,fs,gn),key)=.bp [.s (.str c.1),.s (.bool c.2.1),bO c.2.2]:=by
 subst e;rfl
theorem aqu{Z:aX}:jU P Z 11 ajX:=by
 refine aO Tryd.func11 (by kernel_rfl) (fun x=>Nat.le_of_ble_eq_true (by kernel_rfl)) ?_
 rintro⟨⟨(th:Th),(m:As),(fu:Int),(root:Int),(fr:Ws),(fs:Ws),(gn:Ws)⟩,(key:ByteArray)⟩ ⟨(hd:Ds.bU th m fu),(hr:0≤root∧root≤65536),_⟩ X hX hz
 have hm:∀y∈amI,(hT th m fu root fr fs gn).length≤y.2.m:=fun y hy=>by
  simp only[amI,List.mem_singleton]at hy;subst hy;exact Nat.le_refl _
 have loop:∀(f:Nat) (n deep:Int),1≤deep∧deep≤17→18≤deep+(f:Int)→0≤n∧n≤65536→zJ th m key f n deep=gtT th m root key→
  Safe P 11 X (kI ajX ((th,m,fu,root,fr,fs,gn),key)) (cGt th m fu root fr fs gn key n deep):=by
  intro f
  induction f with
  |zero=>intro n deep h1 h2;omega
  |succ f ih=>
   intro n deep h1 h2 hn e
   rw[zJ]at e
   refine Ds.eV hz hX hm abU Tryd.func11 (auw th m fu root fr fs gn key n deep) ⟨rfl,rfl,hd,inI (by omega) (by omega),fun h=> ?_,fun h=> ?_⟩
   ·have h:gU th m n deep≠0:=by simpa using h
    rw[if_pos h]at e
    exact b9 4 rfl (Nat.le_refl _) (abV e) rfl
   have h:gU th m n deep=0:=by simpa using h
   obtain⟨auy,n1,n2,_,_,n5,_⟩:=ft h
   obtain⟨s1,s2⟩:=qv auy
   rw[if_neg (by rw[h];simp)]at e
   refine⟨fun hl=>⟨by omega,s1, ?_⟩,fun hl=>⟨fun h3=> ?_,fun h3=> ?_⟩⟩
   ·rw[if_pos hl]at e
    exact b9 4 rfl (Nat.le_refl _) (abV e) rfl
   ·have h3:aR th m n deep=[]:=List.eq_nil_of_length_eq_zero (by have:((aR th m n deep).length:Int)=0:=by simpa using h3
                                                                 omega)
    rw[if_neg (by rw[hl];simp),if_pos h3]at e
    exact b9 4 rfl (Nat.le_refl _) (abV e) rfl
   ·have h3:aR th m n deep≠[]:=fun e=>by rw[e]at h3;simp at h3
    rw[if_neg (by rw[hl];simp),if_neg h3]at e
    obtain⟨p0,p1⟩:=rL (key:=key) s2 h3
    exact⟨by omega,s2,p0,p1,inI (by omega) (by omega),ih _ _ ⟨by omega,by omega⟩ (by omega) (vO h _) e⟩
 have no:ik key none=false→kI ajX ((th,m,fu,root,fr,fs,gn),key) (hT th m fu root fr fs gn) (.bp [.s (.str ByteArray.empty),.s (.aJ false),.s (.aW .i64 1)]):=fun h=>
  b9 4 rfl (Nat.le_refl _) (abV (c:=(ByteArray.empty,false,1)) (by unfold gtT;rw[if_pos h])) rfl
 refine Ds.eV hz hX hm abU Tryd.func11 (auv th m fu root fr fs gn key) ⟨fun h=>⟨fun h2=> ?_,fun h2=> ?_⟩,fun h=> ?_⟩
 ·have h2:¬(key.size:Int)≤24:=by simpa using h2
  exact no (by simp only[ik,Bool.and_eq_false_iff,decide_eq_false_iff_not];omega)
 ·have h:=of_decide_eq_true h
  have h2:(key.size:Int)≤24:=by simpa using h2
  have ok:ik key none=true:=by simp only[ik,Bool.and_eq_true,decide_eq_true_eq];omega
  refine⟨fun h3=> ?_,fun h3=> ?_⟩
  ·have h3:root=0:=by simpa using h3
   exact b9 4 rfl (Nat.le_refl _) (abV (c:=(ByteArray.empty,false,0)) (by unfold gtT;rw[if_neg (by rw[ok];simp),if_pos h3])) rfl
  ·have h3:root≠0:=by simpa using h3
   exact loop 17 root 1 ⟨by omega,by omega⟩ (by omega) hr (by unfold gtT;rw[if_neg (by rw[ok];simp),if_neg h3])
 ·have h:=of_decide_eq_false h
  exact no (by simp only[ik,Bool.and_eq_false_iff,decide_eq_false_iff_not];omega)
end Ts
namespace Go.Sx
open Go
section
variable{P:Program}{X:Ctx}{K:List ae→AV→Prop}{L:List ae}
end
end Go.Sx
namespace Go.Sx
open Go
def abW(id n:Nat):AV→AV
 |.vec j=>bif j.beq id then .vec n else .vec j
 |a=>a
def adM(id n:Nat):AV→AV
 |.agg ak=>.agg (ak.map (abW id n))
 |.vec j=>bif j.beq id then .vec n else .vec j
 |a=>a
def mvO(id n:Nat):ae→ae
 |.own ak e=>.own (ak.map (abW id n)) e
 |o=>o
def amJ(s:St)(id:Nat):St:=
 match s.H[id]? with
 |some (.vec c e)=>⟨s.tmps.map (adM id s.H.length),(s.H.map (mvO id s.H.length)).set id .dead++[.vec c e]⟩
 |_=>s
section
variable{ρ az:Nat→Value}{H H':aG}{G O O':Nat→Prop}{w w':World}{P:Program}{Z:aX}{X:Ctx}{s:St}{a:Act}
theorem ag0{id n:Nat}{o:ae}:(mvO id n o).alive=o.alive:=by cases o<;>rfl
theorem amK{id n:Nat}{o:ae}{c':aF}{e':TypeId}(h:mvO id n o=.vec c' e'):o=.vec c' e':=by
 cases o<;>simp[mvO]at h ⊢
 exact h
theorem bM.mv(h:bM X ρ s a w)(id:Nat):∃az,bM X az (amJ s id) a w:=by
 unfold amJ
 split
 ·rename_i c e ho
  have hs:=h.sat
  have bd:id<s.H.length:=(List.getElem?_eq_some_iff.1 ho).1
  let n:=s.H.length
  let az:Nat→Value:=fun j=>if j=n then ρ id else ρ j
  let s':St:=⟨s.tmps.map (adM id n),(s.H.map (mvO id n)).set id .dead++[.vec c e]⟩
  have look:∀j,s'.look j=if j=n then some (.vec c e)else if j=id then some .dead else(s.look j).map (mvO id n):=by
   intro j
   show((s.H.map (mvO id n)).set id .dead++[.vec c e])[j]? =_
   by_cases hj:j=n
   ·subst hj
    rw[if_pos rfl,List.getElem?_append_right (by simp[n])]
    simp[n]
   ·rw[if_neg hj]
    by_cases hl:j<n
    ·rw[List.getElem?_append_left (by simpa[n]using hl),List.getElem?_set]
     by_cases hi:id=j
     ·subst hi;simp[bd]
     ·rw[if_neg hi,if_neg (Ne.symm hi),List.getElem?_map];rfl
    ·rw[List.getElem?_eq_none (by simp only[List.length_append,List.length_set,List.length_map,List.length_singleton];show n+1≤j;omega),if_neg (by omega)]
     have:s.look j=none:=List.getElem?_eq_none (by show n≤j;omega)
     rw[this];rfl
  have aok:∀{j:Nat} {o:ae},s.look j=some o→j<n:=fun hj=>(List.getElem?_eq_some_iff.1 hj).1
  have back:∀j o,s'.look j=some o→o.alive=true→∃x,s.look (if j=n then id else j)=some x∧x.alive=true∧az j=ρ (if j=n then id else j)∧(j≠n→j≠id):=by
   intro j o hj ha
   rw[look]at hj
   by_cases e1:j=n
   ·rw[if_pos e1]
    exact⟨.vec c e,ho,rfl,by simp[az,e1],fun h=>absurd e1 h⟩
   ·rw[if_neg e1]at hj ⊢
    by_cases e2:j=id
    ·rw[if_pos e2]at hj;cases hj;cases ha
    ·rw[if_neg e2]at hj
     obtain⟨o0,h3,rfl⟩:=Option.map_eq_some_iff.1 hj
     exact⟨o0,h3,by rw[ag0]at ha;exact ha,by simp[az,e1],fun _=>e2⟩
  have own:∀b,Own az s'.look b→Own ρ s.look b:=by
   rintro b ⟨j,o,hj,h1,h2⟩
   obtain⟨x,g1,g2,g3,_⟩:=back j o hj h1
   exact⟨_,x,g1,g2,by rw[←g3];exact h2⟩
  have st:Step ρ s.look (aL ρ s.look X.G) w az s'.look (aL az s'.look X.G) w:=by
   refine⟨fun j o hj=> ?_,fun j o hj=> ?_,fun b hb=>.inl (hb.imp (own b) (fun x=>x)),fun _ _ _=>rfl,Nat.le_refl _⟩
   ·have:=aok hj
    simp only[az]
    rw[if_neg (by omega)]
   ·have hjn:j≠n:=Nat.ne_of_lt (aok hj)
    by_cases e1:j=id
    ·exact⟨.dead,by rw[look,if_neg hjn,if_pos e1],fun c' e' he=>by cases he⟩
    ·refine⟨mvO id n o,by rw[look,if_neg hjn,if_neg e1,hj];rfl,fun c' e' he=> ?_⟩
     exact⟨c',e',amK he,rfl,rfl⟩
  have asw:s'.look n=some (.vec c e):=by rw[look,if_pos rfl]
  have asx:az n=ρ id:=by simp[az]
  have hi:s.look id=some (.vec c e):=ho
  have asy:∀{v:Value},ay ρ s.look (aL ρ s.look X.G) w (.vec id) v→ay az s'.look (aL az s'.look X.G) w (.vec n) v:=by
   intro v hv
   unfold ay at hv ⊢
   obtain⟨h0,o,h1,h2⟩:=hv
   rw[hi]at h1
   cases h1
   exact⟨h0,.vec c e,asw,fun c' e' _=>by rw[asx];exact h2 c e rfl⟩
  have ac0:∀x cs,aC ρ s.look (aL ρ s.look X.G) w x cs→aC az s'.look (aL az s'.look X.G) w (abW id n x) cs:=by
   intro x cs hx
   have mm:=aC.step st x cs hx
   cases x<;>try exact mm
   rename_i j
   simp only[abW,Bool.cond_eq_ite]
   split
   ·rename_i hj
    have hj:j=id:=by simpa using hj
    subst hj
    unfold aC at hx ⊢
    obtain⟨u,rfl,hu⟩:=hx
    exact⟨u,rfl,asy hu⟩
   ·exact mm
  have lW:∀(xs:List AV) cs,an ρ s.look (aL ρ s.look X.G) w xs cs→an az s'.look (aL az s'.look X.G) w (xs.map (abW id n)) cs:=by
   intro xs
   induction xs with
   |nil=>intro cs hx;exact ao.2 (ao.1 hx)
   |cons x xs ih=>
    intro cs hx
    obtain⟨c1,c2,rfl,h1,h2⟩:=af.1 hx
    exact af.2 ⟨c1,c2,rfl,ac0 _ _ h1,ih _ h2⟩
  have aoW:∀x v,ab ρ s.look (aL ρ s.look X.G) w x v→ab az s'.look (aL az s'.look X.G) w (adM id n x) v:=by
   intro x v hx
   have mm:=ab.step st x v hx
   cases x with
   |agg ak=>
    unfold ab at hx
    obtain⟨cs,rfl,h1⟩:=hx
    show ab _ _ _ _ (.agg _) _
    unfold ab
    exact⟨cs,rfl,lW _ _ h1⟩
   |vec j=>
    simp only[adM,Bool.cond_eq_ite]
    split
    ·rename_i hj
     have hj:j=id:=by simpa using hj
     subst hj
     unfold ab at hx ⊢
     exact asy hx
    ·exact mm
   |_=>exact mm
  refine⟨az,⟨fun j o hj=> ?_,fun i j oi oj b h1 h2 h3 h4 h5 h6=> ?_,fun b hb=>hs.apart b (own b hb),hs.low⟩,by rw[←h.size];exact List.length_map _,fun t=> ?_,h.defers,h.from_.trans st,h.iR,h.kept⟩
  ·have hj:s'.look j=some o:=hj
   rw[look]at hj
   by_cases e0:j=n
   ·rw[if_pos e0]at hj
    cases hj
    subst e0
    rw[asx]
    exact(hs.obj id _ hi).step st (fun _ _ _=>rfl)
   ·rw[if_neg e0]at hj
    have hr:az j=ρ j:=by simp[az,e0]
    rw[hr]
    by_cases e1:j=id
    ·rw[if_pos e1]at hj;cases hj;trivial
    ·rw[if_neg e1]at hj
     obtain⟨o0,h3,rfl⟩:=Option.map_eq_some_iff.1 hj
     have dR:=hs.obj j o0 h3
     cases o0 with
     |own ak e1=>
      obtain⟨b,cells,fr,g1,g2,g3,g4⟩:=dR
      exact⟨b,cells,fr,g1,g2,g3,lW _ _ g4⟩
     |_=>exact dR.step st (fun _ _ _=>rfl)
  ·obtain⟨x,hx,hxa,hxr,hxi⟩:=back i oi h1 h3
   obtain⟨y,hy,hya,hyr,hyi⟩:=back j oj h2 h4
   have:=hs.inj _ _ x y b hx hy hxa hya (by rw[←hxr];exact h5) (by rw[←hyr];exact h6)
   by_cases e1:i=n
   ·by_cases e2:j=n
    ·omega
    ·rw[if_pos e1,if_neg e2]at this
     exact absurd this.symm (hyi e2)
   ·by_cases e2:j=n
    ·rw[if_neg e1,if_pos e2]at this
     exact absurd this (hxi e1)
    ·rw[if_neg e1,if_neg e2]at this
     exact this
  ·have e1:(s.tmps.map (adM id n)).getD t (.s .aN)=adM id n (s.tmps.getD t (.s .aN)):=by
    rw[List.getD_eq_getElem?_getD,List.getD_eq_getElem?_getD,List.getElem?_map]
    cases s.tmps[t]? <;>rfl
   show ab az s'.look _ w ((s.tmps.map (adM id n)).getD t (.s .aN)) _
   rw[e1]
   exact aoW _ _ (h.den t)
 ·exact⟨ρ,h⟩
variable{K:List ae→AV→Prop}
theorem pv{f:FuncId}{tmps:List AV}{L:List ae}{todo:List Item}{stk:nI}(id:Nat){c:bB}(e:(⟨(amJ ⟨tmps,L⟩ id).tmps,(amJ ⟨tmps,L⟩ id).H,todo,stk⟩:bB)=c)(h:Safe P f X K c):Safe P f X K ⟨tmps,L,todo,stk⟩:=by
 subst e
 intro G E ρ a w gR gY hr b t fs hw
 obtain⟨az,r'⟩:=hr.mv id
 exact h G E az a w gR gY r' b t fs hw
end
end Go.Sx
namespace Ts
open Go Go.Sx Go.Proofs Lf
abbrev fL1:FuncId:=41
abbrev fW1:FuncId:=62
def oF(k:ByteArray)(e:En):Bool:= !slt e.1 k
abbrev sL1:Spec (Int×(Bool×List En×List Br)×ByteArray×List En):=⟨fun(n,(l,es,bs),_,_)=>[bO n,avN l es bs,.ptr 0 0,.ptr 1 0],fun(_,_,from_,out)=>[tp from_,.own [.vec 2] 29,.vec (.ad cE out) Lf.eE],
 fun(_,(_,es,_),_,out)=>[(es:List En).length≤1000,(out:List En).length≤100000000],fun(_,(_,es,_),from_,out)=>[tp from_,.own [.vec 3] 29,.dead,.vec (.ad cE (out++es.filter (oF from_))) Lf.eE],fun _=>.bp []⟩
def ajZ:List (Nat×Norm):=[(1,⟨[],[2,3,5],3,[]⟩),(2,⟨[],[2,3,9,10,11],3,[]⟩)]
noncomputable def asz(l:Bool)(es:List En)(bs:List Br)(from_:ByteArray)(out:List En):bB:=⟨sl 24 [(2,.ptr 0 0),(3,.ptr 1 0),(5,.ptr 3 0)],[tp from_,.own [.vec 4] 29,.dead,obN l es bs eN,.vec (.ad cE out) Lf.eE],hr Tryd.f41 1,{}⟩
noncomputable def cL1(es:List En)(from_:ByteArray)(out:List En)(i:Int):bB:=⟨sl 24 [(2,.ptr 0 0),(3,.ptr 1 0),(9,.s (.ro (.ad cE es))),(10,bO (es.length:Int)),(11,bO i)],[tp from_,.own [.vec 3] 29,.dead,.vec (.ad cE out) Lf.eE],hd Tryd.f41 2,{}⟩
theorem auz(n:Int)(l:Bool)(es:List En)(bs:List Br)(from_:ByteArray)(out:List En):run P (aH.sum []) Tryd.f41 ajZ (start Tryd.f41 [bO n,avN l es bs,.ptr 0 0,.ptr 1 0] [tp from_,.own [.vec 2] 29,.vec (.ad cE out) Lf.eE])=
 Tree.at (.mk (sl 24 [(2,.ptr 0 0),(3,.ptr 1 0),(5,.ptr 3 0)]) [.own [.s (.str from_)] 9,.own [.vec 2] 29,.vec (.ad [.str,.str] out) 34,.own [.s (.bool l),.s (.ro (.ad [.str,.str] es)),.s (.ro (.ad [.str,.int .i64] bs))] 73] (hr Tryd.f41 1) (.mk none false 0 [] 0)):=by kernel_rfl
theorem auA(l:Bool)(es:List En)(bs:List Br)(from_:ByteArray)(out:List En):run P (aH.sum []) Tryd.f41 ajZ (asz l es bs from_ out)=
 Tree.at (.mk (sl 24 [(2,.ptr 0 0),(3,.ptr 1 0),(9,.s (.ro (.ad [.str,.str] es))),(10,.s (.int .i64 (↑es.length:Int))),(11,.s (.int .i64 0))]) [.own [.s (.str from_)] 9,.own [.vec 3] 29,.dead,.vec (.ad [.str,.str] out) 34] (hd Tryd.f41 2) (.mk none false 0 [] 0)):=by kernel_rfl
theorem asA(es:List En)(from_:ByteArray)(out:List En)(i:Int):run P (aH.sum []) Tryd.f41 ajZ (cL1 es from_ out i)=
 Tree.ite (decide (i<(↑es.length:Int))) (.need ((0:Int)≤i) (.need (i<(↑es.length:Int)) (.ite (!slt (es.getD i.toNat (CL.d [.str,.str])).fst from_) (.need ((out.length+1)*(32:Nat)≤140737488355328) (.need (aD (i+1)) (.at (.mk (sl 24 [(2,.ptr 0 0),(3,.ptr 1 0),(9,.s (.ro (.ad [.str,.str] es))),(10,.s (.int .i64 (↑es.length:Int))),(11,.s (.int .i64 (i+1)))]) [.own [.s (.str from_)] 9,.own [.vec 3] 29,.dead,.vec (.ad [.str,.str] (out++[((es.getD i.toNat (CL.d [.str,.str])).fst,(es.getD i.toNat (CL.d [.str,.str])).snd.fst,())])) 34] (hd Tryd.f41 2) (.mk none false 0 [] 0))))) (.need (aD (i+1)) (.at (.mk (sl 24 [(2,.ptr 0 0),(3,.ptr 1 0),(9,.s (.ro (.ad [.str,.str] es))),(10,.s (.int .i64 (↑es.length:Int))),(11,.s (.int .i64 (i+1)))]) [.own [.s (.str from_)] 9,.own [.vec 3] 29,.dead,.vec (.ad [.str,.str] out) 34] (hd Tryd.f41 2) (.mk none false 0 [] 0))))))) (.ret [.own [.s (.str from_)] 9,.own [.vec 3] 29,.dead,.vec (.ad [.str,.str] out) 34] (.bp [])):=by kernel_rfl
theorem sD{α:Type}{p:α→Bool}{l:List α}{k:Nat}{d:α}(h:k<l.length):(l.take (k+1)).filter p=(l.take k).filter p++(if p (l.getD k d)=true then [l.getD k d]else []):=by
 rw[←lA (d:=d) h,List.filter_append]
 congr 1
 cases h2:p (l.getD k d)
 ·rw[List.filter_cons_of_neg (by rw[h2];simp)];rfl
 ·rw[List.filter_cons_of_pos h2];rfl
theorem filter_le{α:Type}(p:α→Bool)(l:List α):(l.filter p).length≤l.length:=List.length_filter_le _ _
theorem aj0{Z:aX}:jU P Z 41 sL1:=by
 refine aO Tryd.func41 (by kernel_rfl) (fun x=>Nat.le_of_ble_eq_true (by kernel_rfl)) ?_
 rintro⟨(n:Int),⟨(l:Bool),(es:List En),(bs:List Br)⟩,(from_:ByteArray),(out:List En)⟩ ⟨(he:es.length≤1000),(ho:out.length≤100000000),_⟩ X hX hz
 have hm:∀y∈ajZ,([tp from_,.own [.vec 2] 29,.vec (.ad cE out) Lf.eE]:List ae).length≤y.2.m:=fun y hy=>by
  simp only[ajZ,List.mem_cons,List.not_mem_nil,or_false]at hy
  rcases hy with rfl|rfl<;>exact Nat.le_refl _
 have loop:∀(j k:Nat),k+j=es.length→Safe P 41 X (kI sL1 (n,(l,es,bs),from_,out)) (cL1 es from_ (out++(es.take k).filter (oF from_)) (k:Int)):=by
  intro j
  induction j with
  |zero=>
   intro k hk
   refine Ds.eV hz hX hm aH.Ok.nil Tryd.func41 (asA es from_ _ k) ⟨fun h=>absurd (of_decide_eq_true h) (by omega),fun h=> ?_⟩
   rw[List.take_of_length_le (by omega)]
   exact b9 3 rfl (Nat.le_refl _) rfl rfl
  |succ j ih=>
   intro k hk
   have e:=sD (p:=oF from_) (l:=es) (k:=k) (d:=dE) (by omega)
   have hl:=filter_le (oF from_) (es.take k)
   rw[List.length_take]at hl
   refine Ds.eV hz hX hm aH.Ok.nil Tryd.func41 (asA es from_ _ k) ⟨fun h=>⟨by omega,by omega,fun hg=>⟨?_,⟨by omega,by omega⟩, ?_⟩,fun hg=>⟨⟨by omega,by omega⟩, ?_⟩⟩,fun h=>absurd (of_decide_eq_false h) (by omega)⟩
   ·show(_+1)*32≤140737488355328
    rw[List.length_append];omega
   ·have hg:oF from_ (es.getD k dE)=true:=hg
    rw[if_pos hg]at e
    have:=ih (k+1) (by omega)
    rw[e,←List.append_assoc]at this
    exact this
   ·have hg:oF from_ (es.getD k dE)=false:=hg
    rw[if_neg (by rw[hg];simp),List.append_nil]at e
    have:=ih (k+1) (by omega)
    rw[e]at this
    exact this
 refine Ds.eV hz hX hm aH.Ok.nil Tryd.func41 (auz n l es bs from_ out) ?_
 refine pv 2 (c:=asz l es bs from_ out) rfl ?_
 refine Ds.eV hz hX hm aH.Ok.nil Tryd.func41 (auA l es bs from_ out) ?_
 have:=loop es.length 0 (by omega)
 rw[List.take_zero,List.filter_nil,List.append_nil]at this
 exact this
end Ts
namespace Ts
open Go Go.Sx Go.Proofs Lf
def vX{σ:Type}(g:Ws→σ→Int→Ws×σ×Int):List Br→Ws→σ→Ws×σ×Int
 |[],met,out=>(met,out,0)
 |b::r,met,out=>if(g met out b.2.1).2.2≠0 then g met out b.2.1 else vX g r (g met out b.2.1).1 (g met out b.2.1).2.1
def gP{σ:Type}(on:σ→Int→List En→σ)(th:Th)(m:As):Nat→Int→Ws→σ→Int→Ws×σ×Int
 |0,_,met,out,_=>(met,out,4)
 |f+1,deep,met,out,n=>
  if gU th m n deep≠0 then(met,out,gU th m n deep)
  else if Bx.nq met n=true then(met,out,4)
  else vX (gP on th m f (deep+1)) (aR th m n deep) (Bx.di met n) (on out n (bR th m n deep))
def qH(from_:ByteArray)(out:List En)(_:Int)(es:List En):List En:=out++es.filter (oF from_)
def ja(ws:Ws):Nat:=(Bx.adw ws).length
abbrev tT1:TypeId:=26
abbrev tOn:TypeId:=82
abbrev tVi:TypeId:=107
abbrev eSt:TypeId:=47
abbrev eLE:TypeId:=29
def mL1:List AV→RM ((Int×(Bool×List En×List Br)×ByteArray×List En)×List Nat)
 |[n,x,.ptr a 0,.ptr b 0]=>match n.dk,aqd x with
  |some (_,_,n),some nd=>.look a fun o=>match o with
   |some (.own [.s (.str from_)] _)=>.look b fun o=>match o with
    |some (.own [.vec r] _)=>.look r fun o=>match o with
     |some (.vec (.ad [.str,.str] out) _)=>.ret ((n,nd,from_,out),[a,b,r])
     |_=>.fail "no row"
    |_=>.fail "no row's box"
   |_=>.fail "no text"
  |_,_=>.fail "no node"
 |_=>.fail "List$1"
def mG1:List AV→RM ((Int×(Bool×List En×List Br)×Ws)×List Nat)
 |[n,x,.ptr a 0]=>match n.dk,aqd x with
  |some (_,_,n),some nd=>.look a fun o=>match o with
   |some (.own [.ints .u64 16 out] _)=>.ret ((n,nd,out),[a])
   |_=>.fail "no set"
  |_,_=>.fail "no node"
 |_=>.fail "Pages$1"
def amL(th:Th)(m:As)(f:Nat)(deep:Int)(met:Ws)(from_:ByteArray)(out:List En)(n:Int):Ws:=(gP (qH from_) th m f deep met out n).1
def amM(th:Th)(m:As)(f:Nat)(deep:Int)(met:Ws)(from_:ByteArray)(out:List En)(n:Int):List En:=(gP (qH from_) th m f deep met out n).2.1
def amN(th:Th)(m:As)(f:Nat)(deep:Int)(met:Ws)(from_:ByteArray)(out:List En)(n:Int):Int:=(gP (qH from_) th m f deep met out n).2.2
abbrev XVL:Type:=XT×Int×Int×Ws×ByteArray×List En
abbrev hVL(th:Th)(m:As)(fu root:Int)(fr fs gn met:Ws):List ae:=hT th m fu root fr fs gn++[.own [.ptr 0 0] tT1,.own [.ints .u64 16 met] eSt,.own [.fn fL1 [.ptr 8 0,.ptr 9 0]] tOn,.own [.fn fW1 [.ptr 4 0,.ptr 5 0,.ptr 6 0,.ptr 7 0]] tVi]
abbrev abX(f:Nat):Spec XVL:=⟨fun(_,n,deep,_)=>[bO n,bO deep,.ptr 4 0,.ptr 5 0,.ptr 6 0,.ptr 7 0],fun((th,m,fu,root,fr,fs,gn),_,_,met,from_,out)=>hVL th m fu root fr fs gn met++[tp from_,.own [.vec 10] eLE,.vec (.ad cE out) Lf.eE],
 fun((th,m,fu,_),n,deep,met,_,out)=>[Ds.bU th m fu,0≤n∧n≤65536,1≤deep∧deep≤17,18≤deep+(f:Int),Bx.okW met,List.length (α:=En) out≤126*ja met],
 fun((th,m,fu,root,fr,fs,gn),n,deep,met,from_,out)=>hVL th m fu root fr fs gn (amL th m f deep met from_ out n)++[tp from_,.own [.vec 11] eLE,.dead,.vec (.ad cE (amM th m f deep met from_ out n)) Lf.eE],
 fun((th,m,_),n,deep,met,from_,out)=>bO (amN th m f deep met from_ out n)⟩
def amO:List AV→RM (XVL×List Nat)
 |[n,d,.ptr a 0,.ptr b 0,.ptr c 0,.ptr v 0]=>match n.dk,d.dk with
  |some (_,_,n),some (_,_,d)=>.look a fun o=>match o with
   |some (.own [.ptr t 0] _)=>(mT [.ptr t 0]).bind fun(X,σ)=>.look b fun o=>match o with
    |some (.own [.ints .u64 16 met] _)=>.look c fun o=>match o with
     |some (.own [.fn _ [.ptr p 0,.ptr q 0]] _)=>.look p fun o=>match o with
      |some (.own [.s (.str from_)] _)=>.look q fun o=>match o with
       |some (.own [.vec r] _)=>.look r fun o=>match o with
        |some (.vec (.ad [.str,.str] out) _)=>.ret ((X,n,d,met,from_,out),σ++[a,b,c,v,p,q,r])
        |_=>.fail "visit: no row"
       |_=>.fail "visit: no row's box"
      |_=>.fail "visit: no text"
     |_=>.fail "visit: no on"
    |_=>.fail "visit: no set"
   |_=>.fail "visit: no tree"
  |_,_=>.fail "visit: no numbers"
 |_=>.fail "visit: arguments"
def zK(f:Nat):aH:=[(37,abC),(35,ap8),(43,ajo),(fL1,dI sL1 mL1),(fW1,dI (abX f) amO)]
def afj:List (Nat×Norm):=[(9,⟨[],[1,5,35,36,37],11,[]⟩)]
noncomputable def asB(th:Th)(m:As)(fu root:Int)(fr fs gn met:Ws)(from_:ByteArray)(out:List En)(bs:List Br)(deep i:Int):bB:=⟨sl 51 [(1,bO deep),(5,.ptr 7 0),(35,.s (.ro (.ad cB bs))),(36,bO (bs.length:Int)),(37,bO i)],hVL th m fu root fr fs gn met++[tp from_,.own [.vec 11] eLE,.dead,.vec (.ad cE out) Lf.eE],hd Tryd.f62 9,{}⟩
theorem asC(f:Nat)(th:Th)(m:As)(fu root:Int)(fr fs gn met:Ws)(from_:ByteArray)(out:List En)(n deep:Int):run P (zK f).sum Tryd.f62 afj (start Tryd.f62 [bO n,bO deep,.ptr 4 0,.ptr 5 0,.ptr 6 0,.ptr 7 0] (hVL th m fu root fr fs gn met++[tp from_,.own [.vec 11] eLE,.dead,.vec (.ad cE out) Lf.eE]))=
 Tree.need (bJ (some [AV.ptr 0 0,.s (.int .i64 n),.s (.int .i64 deep)]))
 (.need (bJ (some [ae.own [.ptr 1 0,.s (.int .i64 root),.ints .u64 16 fr,.ints .u64 16 fs,.ints .u64 16 gn] 70,.own [.vec 2,.ag 3,.s (.int .i64 fu)] 96,.vec (.ad [.arr .u8 64] th) 138,.map (.arr .u8 64) m]))
   (.need (Ds.bU th m fu)
     (.need (aD n)
       (.ite (gU th m n deep !=0) (.ret [.own [.ptr 1 0,.s (.int .i64 root),.ints .u64 16 fr,.ints .u64 16 fs,.ints .u64 16 gn] 70,.own [.vec 2,.ag 3,.s (.int .i64 fu)] 96,.vec (.ad [.arr .u8 64] th) 138,.map (.arr .u8 64) m,.own [.ptr 0 0] 26,.own [.ints .u64 16 met] 47,.own [.fn 41 [.ptr 8 0,.ptr 9 0]] 82,.own [.fn 62 [.ptr 4 0,.ptr 5 0,.ptr 6 0,.ptr 7 0]] 107,.own [.s (.str from_)] 9,.own [.vec 11] 29,.dead,.vec (.ad [.str,.str] out) 34,.own [.s (.bool (kJ th m n deep)),.s (.ro (.ad [.str,.str] (bR th m n deep))),.s (.ro (.ad [.str,.int .i64] (aR th m n deep)))] 73] (.s (.int .i64 (gU th m n deep))))
         (.ite (Bx.nq met n) (.ret [.own [.ptr 1 0,.s (.int .i64 root),.ints .u64 16 fr,.ints .u64 16 fs,.ints .u64 16 gn] 70,.own [.vec 2,.ag 3,.s (.int .i64 fu)] 96,.vec (.ad [.arr .u8 64] th) 138,.map (.arr .u8 64) m,.own [.ptr 0 0] 26,.own [.ints .u64 16 met] 47,.own [.fn 41 [.ptr 8 0,.ptr 9 0]] 82,.own [.fn 62 [.ptr 4 0,.ptr 5 0,.ptr 6 0,.ptr 7 0]] 107,.own [.s (.str from_)] 9,.own [.vec 11] 29,.dead,.vec (.ad [.str,.str] out) 34,.own [.s (.bool (kJ th m n deep)),.s (.ro (.ad [.str,.str] (bR th m n deep))),.s (.ro (.ad [.str,.int .i64] (aR th m n deep)))] 73] (.s (.aW .i64 4))) (.need (bJ (some [AV.s (.int .i64 n),.agg [.s (.bool (kJ th m n deep)),.s (.ro (.ad [.str,.str] (bR th m n deep))),.s (.ro (.ad [.str,.int .i64] (aR th m n deep)))],.ptr 0 0,.ptr 1 0])) (.need (bJ (some [ae.own [.s (.str from_)] 9,.own [.vec 2] 29,.vec (.ad [.str,.str] out) 34])) (.need ((bR th m n deep).length≤1000) (.need (out.length≤100000000) (.at (.mk (sl 51 [(1,.s (.int .i64 deep)),(5,.ptr 7 0),(35,.s (.ro (.ad [.str,.int .i64] (aR th m n deep)))),(36,.s (.int .i64 (↑(aR th m n deep).length:Int))),(37,.s (.int .i64 0))]) [.own [.ptr 1 0,.s (.int .i64 root),.ints .u64 16 fr,.ints .u64 16 fs,.ints .u64 16 gn] 70,.own [.vec 2,.ag 3,.s (.int .i64 fu)] 96,.vec (.ad [.arr .u8 64] th) 138,.map (.arr .u8 64) m,.own [.ptr 0 0] 26,.own [.ints .u64 16 (Bx.di met n)] 47,.own [.fn 41 [.ptr 8 0,.ptr 9 0]] 82,.own [.fn 62 [.ptr 4 0,.ptr 5 0,.ptr 6 0,.ptr 7 0]] 107,.own [.s (.str from_)] 9,.own [.vec 11] 29,.dead,.vec (.ad [.str,.str] (out++List.filter (oF from_) (bR th m n deep))) 34] (hd Tryd.f62 9) (.mk none false 0 [] 0)))))))))))):=by kernel_rfl
theorem aol(f:Nat)(th:Th)(m:As)(fu root:Int)(fr fs gn met:Ws)(from_:ByteArray)(out:List En)(bs:List Br)(deep i:Int):run P (zK f).sum Tryd.f62 afj (asB th m fu root fr fs gn met from_ out bs deep i)=
 Tree.ite (decide (i<(↑bs.length:Int)))
 (.need ((0:Int)≤i)
   (.need (i<(↑bs.length:Int))
     (.need (aD (deep+1))
       (.need (bJ (some [AV.s (.int .i64 (bs.getD i.toNat (CL.d [.str,.int .i64])).snd.fst),.s (.int .i64 (deep+1)),.ptr 4 0,.ptr 5 0,.ptr 6 0,.ptr 7 0]))
         (.need (bJ (some [ae.own [.ptr 1 0,.s (.int .i64 root),.ints .u64 16 fr,.ints .u64 16 fs,.ints .u64 16 gn] 70,.own [.vec 2,.ag 3,.s (.int .i64 fu)] 96,.vec (.ad [.arr .u8 64] th) 138,.map (.arr .u8 64) m,.own [.ptr 0 0] 26,.own [.ints .u64 16 met] 47,.own [.fn 41 [.ptr 8 0,.ptr 9 0]] 82,.own [.fn 62 [.ptr 4 0,.ptr 5 0,.ptr 6 0,.ptr 7 0]] 107,.own [.s (.str from_)] 9,.own [.vec 10] 29,.vec (.ad [.str,.str] out) 34]))
           (.need (Ds.bU th m fu) (.need ((0:Int)≤(bs.getD i.toNat (CL.d [.str,.int .i64])).snd.fst∧(bs.getD i.toNat (CL.d [.str,.int .i64])).snd.fst≤65536) (.need ((1:Int)≤deep+1∧deep+1≤17) (.need ((18:Int)≤deep+1+(↑f:Int)) (.need (Bx.okW met) (.need (out.length≤(126:Nat)*ja met) (.ite (amN th m f (deep+1) met from_ out (bs.getD i.toNat (CL.d [.str,.int .i64])).snd.fst !=0) (.ret [.own [.ptr 1 0,.s (.int .i64 root),.ints .u64 16 fr,.ints .u64 16 fs,.ints .u64 16 gn] 70,.own [.vec 2,.ag 3,.s (.int .i64 fu)] 96,.vec (.ad [.arr .u8 64] th) 138,.map (.arr .u8 64) m,.own [.ptr 0 0] 26,.own [.ints .u64 16 (amL th m f (deep+1) met from_ out (bs.getD i.toNat (CL.d [.str,.int .i64])).snd.fst)] 47,.own [.fn 41 [.ptr 8 0,.ptr 9 0]] 82,.own [.fn 62 [.ptr 4 0,.ptr 5 0,.ptr 6 0,.ptr 7 0]] 107,.own [.s (.str from_)] 9,.own [.vec 13] 29,.dead,.dead,.own [.s (.str (bs.getD i.toNat (CL.d [.str,.int .i64])).fst),.s (.int .i64 (bs.getD i.toNat (CL.d [.str,.int .i64])).snd.fst)] 79,.vec (.ad [.str,.str] (amM th m f (deep+1) met from_ out (bs.getD i.toNat (CL.d [.str,.int .i64])).snd.fst)) 34] (.s (.int .i64 (amN th m f (deep+1) met from_ out (bs.getD i.toNat (CL.d [.str,.int .i64])).snd.fst)))) (.need (aD (i+1)) (.at (.mk (sl 51 [(1,.s (.int .i64 deep)),(5,.ptr 7 0),(35,.s (.ro (.ad [.str,.int .i64] bs))),(36,.s (.int .i64 (↑bs.length:Int))),(37,.s (.int .i64 (i+1)))]) [.own [.ptr 1 0,.s (.int .i64 root),.ints .u64 16 fr,.ints .u64 16 fs,.ints .u64 16 gn] 70,.own [.vec 2,.ag 3,.s (.int .i64 fu)] 96,.vec (.ad [.arr .u8 64] th) 138,.map (.arr .u8 64) m,.own [.ptr 0 0] 26,.own [.ints .u64 16 (amL th m f (deep+1) met from_ out (bs.getD i.toNat (CL.d [.str,.int .i64])).snd.fst)] 47,.own [.fn 41 [.ptr 8 0,.ptr 9 0]] 82,.own [.fn 62 [.ptr 4 0,.ptr 5 0,.ptr 6 0,.ptr 7 0]] 107,.own [.s (.str from_)] 9,.own [.vec 11] 29,.dead,.vec (.ad [.str,.str] (amM th m f (deep+1) met from_ out (bs.getD i.toNat (CL.d [.str,.int .i64])).snd.fst)) 34] (hd Tryd.f62 9) (.mk none false 0 [] 0))))))))))))))))
 (.ret [.own [.ptr 1 0,.s (.int .i64 root),.ints .u64 16 fr,.ints .u64 16 fs,.ints .u64 16 gn] 70,.own [.vec 2,.ag 3,.s (.int .i64 fu)] 96,.vec (.ad [.arr .u8 64] th) 138,.map (.arr .u8 64) m,.own [.ptr 0 0] 26,.own [.ints .u64 16 met] 47,.own [.fn 41 [.ptr 8 0,.ptr 9 0]] 82,.own [.fn 62 [.ptr 4 0,.ptr 5 0,.ptr 6 0,.ptr 7 0]] 107,.own [.s (.str from_)] 9,.own [.vec 11] 29,.dead,.vec (.ad [.str,.str] out) 34] (.s (.aW .i64 0))):=by kernel_rfl
theorem aj1{ws:Ws}(hw:Bx.okW ws){n:Int}(hn:0≤n∧n<1024)(h:Bx.nq ws n=false):ja (Bx.di ws n)=ja ws+1:=by
 have hb:Bx.bit ws n.toNat=false:=by
  rw[Bx.ae6 hw,decide_eq_true hn,Bool.true_and]at h;exact h
 obtain⟨_,h2⟩:=Bx.iN hw n
 unfold ja Bx.adw
 have key:∀m,m≤1024→(Bx.fr (Bx.bit (Bx.di ws n)) m).length=(Bx.fr (Bx.bit ws) m).length+(if n.toNat<m then 1 else 0):=by
  intro m
  induction m with
  |zero=>intro _;rfl
  |succ m ih=>
   intro hm
   rw[Bx.qs,Bx.qs,List.length_append,List.length_append,ih (by omega),h2 m (by omega)]
   have hd:decide (n=(m:Int))=decide (n.toNat=m):=by
    by_cases e:n.toNat=m
    ·rw[decide_eq_true e,decide_eq_true (by omega)]
    ·rw[decide_eq_false e,decide_eq_false (by omega)]
   rw[hd]
   by_cases e:n.toNat=m
   ·subst e
    have c1:¬n.toNat<n.toNat:=by omega
    have c2:n.toNat<n.toNat+1:=by omega
    rw[hb,decide_eq_true rfl,if_neg c1,if_pos c2]
    rfl
   ·rw[decide_eq_false e,Bool.or_false]
    by_cases e2:n.toNat<m
    ·have c2:n.toNat<m+1:=by omega
     rw[if_pos e2,if_pos c2];omega
    ·have c2:¬n.toNat<m+1:=by omega
     rw[if_neg e2,if_neg c2];omega
 have:=key 1024 (Nat.le_refl _)
 have c:n.toNat<1024:=by omega
 rw[this,if_pos c]
theorem aqv(ws:Ws):ja ws≤1024:=Bx.agO _ _
theorem aj2{th:Th}{m:As}{fu n deep:Int}(hd:Ds.bU th m fu)(h:gU th m n deep=0):0≤n∧n<1024:=by
 have hp:Ds.uU th n=true:=by
  unfold gU at h
  split at h
  ·cases h
  ·split at h
   ·rename_i hg
    unfold Ds.ji at hg
    split at hg
    ·assumption
    ·cases hg
   ·rename_i hg;exact absurd h hg
 obtain⟨a,b⟩:=Ds.fU.1 hp
 have:=hd.1.1
 unfold Ds.xF at b
 have e:((th.length:Int)).tdiv 4=(th.length:Int) / 4:=Int.tdiv_eq_ediv_of_nonneg (by omega)
 rw[e]at b
 omega
theorem abY{σ:Type}{g:Ws→σ→Int→Ws×σ×Int}{I:Ws→σ→Prop}(hg:∀met out n,I met out→I (g met out n).1 (g met out n).2.1):∀(l:List Br) (met:Ws) (out:σ),I met out→I (vX g l met out).1 (vX g l met out).2.1
 |[],met,out,h=>h
 |b::r,met,out,h=>by
  rw[vX]
  split
  ·exact hg _ _ _ h
  ·exact abY hg r _ _ (hg _ _ _ h)
theorem afk(from_:ByteArray){th:Th}{m:As}{fu n deep:Int}{met:Ws}{out:List En}(hd:Ds.bU th m fu)(h:gU th m n deep=0)(hw:Bx.okW met)(h3:Bx.nq met n=false)(ho:List.length (α:=En) out≤126*ja met):
 Bx.okW (Bx.di met n)∧List.length (α:=En) (qH from_ out n (bR th m n deep))≤126*ja (Bx.di met n):=by
 refine⟨(Bx.iN hw n).1, ?_⟩
 rw[aj1 hw (aj2 hd h) h3]
 unfold qH
 rw[List.length_append]
 have:=filter_le (oF from_) (bR th m n deep)
 obtain⟨_,n1,_⟩:=ft h
 omega
theorem afl(from_:ByteArray){th:Th}{m:As}{fu:Int}(hd:Ds.bU th m fu):∀(f:Nat) (deep:Int) (met:Ws) (out:List En) (n:Int),Bx.okW met→List.length (α:=En) out≤126*ja met→
 Bx.okW (gP (qH from_) th m f deep met out n).1∧List.length (α:=En) (gP (qH from_) th m f deep met out n).2.1≤126*ja (gP (qH from_) th m f deep met out n).1
 |0,deep,met,out,n,hw,ho=>⟨hw,ho⟩
 |f+1,deep,met,out,n,hw,ho=>by
  rw[gP]
  split
  ·exact⟨hw,ho⟩
  ·rename_i h
   split
   ·exact⟨hw,ho⟩
   ·rename_i h3
    have h3:Bx.nq met n=false:=by simpa using h3
    exact abY (I:=fun met out=>Bx.okW met∧List.length (α:=En) out≤126*ja met) (fun met out n hi=>afl from_ hd f (deep+1) met out n hi.1 hi.2) _ _ _ (afk from_ hd (by simpa using h) hw h3 ho)
theorem fvL{th:Th}{m:As}{fu root:Int}{fr fs gn met:Ws}{from_:ByteArray}{out:List En}{n deep:Int}{f:Nat}{c:Ws×List En×Int}(e:gP (qH from_) th m f deep met out n=c):
 (abX f).fC ((th,m,fu,root,fr,fs,gn),n,deep,met,from_,out)=hVL th m fu root fr fs gn c.1++[tp from_,.own [.vec 11] eLE,.dead,.vec (.ad cE c.2.1) Lf.eE]∧(abX f).out ((th,m,fu,root,fr,fs,gn),n,deep,met,from_,out)=bO c.2.2:=by
 subst e;exact⟨rfl,rfl⟩
theorem ag1{f:Nat}(h:jU P Bx.ct fW1 (abX f)):(zK f).Ok P Bx.ct:=aH.Ok.cons (qt.sum mNo) (aH.Ok.cons Bx.adt.sum (aH.Ok.cons Bx.tj.sum (aH.Ok.cons (aj0.sum mL1) (aH.Ok.cons (h.sum amO) aH.Ok.nil))))
theorem aj3{L:List ae}(h:L.length=11):∀y∈afj,L.length≤y.2.m:=fun y hy=>by
 simp only[afj,List.mem_singleton]at hy;subst hy;exact Nat.le_of_eq h
theorem aom{f:Nat}(T:(zK f).Ok P Bx.ct){th:Th}{m:As}{fu root:Int}{fr fs gn:Ws}{n deep:Int}{pw:Ws}{from_:ByteArray}{rN:List En}(hd:Ds.bU th m fu)(h1:1≤deep∧deep≤17)(h2:18≤deep+((f+1:Nat):Int))
 {X:Ctx} (hX:X.H=lk ((abX (f+1)).heap ((th,m,fu,root,fr,fs,gn),n,deep,pw,from_,rN))) (hz:dS Bx.ct X) (h:gU th m n deep=0):
 ∀(j k:Nat) (met:Ws) (out:List En),k+j=(aR th m n deep).length→Bx.okW met→List.length (α:=En) out≤126*ja met→gP (qH from_) th m (f+1) deep pw rN n=vX (gP (qH from_) th m f (deep+1)) ((aR th m n deep).drop k) met out→
    Safe P fW1 X (kI (abX (f+1)) ((th,m,fu,root,fr,fs,gn),n,deep,pw,from_,rN)) (asB th m fu root fr fs gn met from_ out (aR th m n deep) deep (k:Int))
 |0,k,met,out,hk,hw,ho,e=>by
  rw[List.drop_of_length_le (by omega)]at e
  obtain⟨f1,f2⟩:=fvL (fu:=fu) (root:=root) (fr:=fr) (fs:=fs) (gn:=gn) e
  exact Ds.eV hz hX (aj3 rfl) T Tryd.func62 (aol f th m fu root fr fs gn met from_ out (aR th m n deep) deep k) ⟨fun h=>absurd (of_decide_eq_true h) (by omega),fun _=>b9 11 rfl (Nat.le_refl _) f2 f1⟩
 |j+1,k,met,out,hk,hw,ho,e=>by
  obtain⟨_,_,n2,_,_,n5,_⟩:=ft h
  rw[drop_cons dB (by omega),vX]at e
  have pg:=vO h k
  obtain⟨i1,i2⟩:=afl from_ hd f (deep+1) met out ((aR th m n deep).getD k dB).2.1 hw ho
  refine Ds.eV hz hX (aj3 rfl) T Tryd.func62 (aol f th m fu root fr fs gn met from_ out (aR th m n deep) deep k) ⟨fun _=>⟨by omega,by omega,inI (by omega) (by omega),rfl,rfl,hd,pg,⟨by omega,by omega⟩,by omega,hw,ho,fun h4=> ?_,fun h4=>⟨⟨by omega,by omega⟩, ?_⟩⟩,fun h=>absurd (of_decide_eq_false h) (by omega)⟩
  ·have h4:(gP (qH from_) th m f (deep+1) met out ((aR th m n deep).getD k dB).2.1).2.2≠0:=bne_iff_ne.1 h4
   rw[if_pos h4]at e
   obtain⟨f1,f2⟩:=fvL (fu:=fu) (root:=root) (fr:=fr) (fs:=fs) (gn:=gn) e
   exact b9 11 rfl (Nat.le_refl _) f2 f1
  ·have h4:¬(gP (qH from_) th m f (deep+1) met out ((aR th m n deep).getD k dB).2.1).2.2≠0:=fun hh=>Bool.false_ne_true (h4.symm.trans (bne_iff_ne.2 hh))
   rw[if_neg h4]at e
   exact aom T hd h1 h2 hX hz h j (k+1) _ _ (by omega) i1 i2 e
theorem ya:∀f,jU P Bx.ct fW1 (abX f)
 |0=>by
  rintro⟨⟨(th:Th),(m:As),(fu:Int),(root:Int),(fr:Ws),(fs:Ws),(gn:Ws)⟩,(n:Int),(deep:Int),(met:Ws),(from_:ByteArray),(out:List En)⟩ ⟨_,_,(h1:1≤deep∧deep≤17),(h2:18≤deep+((0:Nat):Int)),_⟩
  omega
 |f+1=>by
  have T:=ag1 (ya f)
  refine aO Tryd.func62 (by kernel_rfl) (fun x=>Nat.le_of_ble_eq_true (by kernel_rfl)) ?_
  rintro⟨⟨(th:Th),(m:As),(fu:Int),(root:Int),(fr:Ws),(fs:Ws),(gn:Ws)⟩,(n:Int),(deep:Int),(pw:Ws),(from_:ByteArray),(rN:List En)⟩ ⟨(hd:Ds.bU th m fu),(hn:0≤n∧n≤65536),(h1:1≤deep∧deep≤17),(h2:18≤deep+((f+1:Nat):Int)),(hw:Bx.okW pw),(ho:List.length (α:=En) rN≤126*ja pw),_⟩ X hX hz
  refine pv 10 (c:=start Tryd.f62 [bO n,bO deep,.ptr 4 0,.ptr 5 0,.ptr 6 0,.ptr 7 0] (hVL th m fu root fr fs gn pw++[tp from_,.own [.vec 11] eLE,.dead,.vec (.ad cE rN) Lf.eE])) rfl ?_
  refine Ds.eV hz hX (aj3 rfl) T Tryd.func62 (asC f th m fu root fr fs gn pw from_ rN n deep) ⟨rfl,rfl,hd,inI (by omega) (by omega),fun h=> ?_,fun h=>⟨fun h3=> ?_,fun h3=> ?_⟩⟩
  ·have h:gU th m n deep≠0:=by simpa using h
   obtain⟨f1,f2⟩:=fvL (fu:=fu) (root:=root) (fr:=fr) (fs:=fs) (gn:=gn) (show gP (qH from_) th m (f+1) deep pw rN n=(pw,rN,gU th m n deep)by rw[gP,if_pos h])
   exact b9 11 rfl (Nat.le_refl _) f2 f1
  ·have h:gU th m n deep=0:=by simpa using h
   obtain⟨f1,f2⟩:=fvL (fu:=fu) (root:=root) (fr:=fr) (fs:=fs) (gn:=gn) (show gP (qH from_) th m (f+1) deep pw rN n=(pw,rN,4)by rw[gP,if_neg (by rw[h];simp),if_pos h3])
   exact b9 11 rfl (Nat.le_refl _) f2 f1
  ·have h:gU th m n deep=0:=by simpa using h
   obtain⟨_,n1,n2,_,_,_,_⟩:=ft h
   have e:gP (qH from_) th m (f+1) deep pw rN n=vX (gP (qH from_) th m f (deep+1)) (aR th m n deep) (Bx.di pw n) ((qH from_) rN n (bR th m n deep)):=by rw[gP,if_neg (by rw[h];simp),if_neg (by rw[h3];simp)]
   obtain⟨i1,i2⟩:=afk from_ hd h hw h3 ho
   exact⟨rfl,rfl,by omega,by have:=aqv pw;omega,aom T hd h1 h2 hX hz h _ 0 _ _ (Nat.zero_add _) i1 i2 (by rw[List.drop_zero];exact e)⟩
end Ts
namespace Ts
open Go Go.Sx Go.Proofs Lf
def wkT{σ:Type}(on:σ→Int→List En→σ)(th:Th)(m:As)(root:Int)(out:σ):σ×Int:=if root=0 then(out,0)else((gP on th m 17 1 Bx.bk out root).2.1,(gP on th m 17 1 Bx.bk out root).2.2)
def lsT(th:Th)(m:As)(root:Int)(from_:ByteArray):List En:=(wkT (qH from_) th m root []).1
def lsE(th:Th)(m:As)(root:Int)(from_:ByteArray):Int:=(wkT (qH from_) th m root []).2
def lsF(th:Th)(m:As)(root:Int)(from_:ByteArray):List En:=if lsE th m root from_≠0 then []else lsT th m root from_
abbrev amP:Spec XD:=⟨fun _=>[.ptr 0 0,.fn fL1 [.ptr 4 0,.ptr 5 0]],fun((th,m,fu,root,fr,fs,gn),from_)=>hT th m fu root fr fs gn++[tp from_,.own [.vec 6] eLE,.vec (.ad cE []) Lf.eE],
 fun((th,m,fu,root,_),_)=>[Ds.bU th m fu,0≤root∧root≤65536],fun((th,m,fu,root,fr,fs,gn),from_)=>hT th m fu root fr fs gn++[tp from_,.own [.vec 7] eLE,.dead,.vec (.ad cE (lsT th m root from_)) Lf.eE],fun((th,m,_,root,_),from_)=>bO (lsE th m root from_)⟩
def aqw:aH:=[(fW1,dI (abX 17) amO)]
theorem asD(th:Th)(m:As)(fu root:Int)(fr fs gn:Ws)(from_:ByteArray):run P aqw.sum Tryd.f40 [] (start Tryd.f40 [.ptr 0 0,.fn fL1 [.ptr 4 0,.ptr 5 0]] (hT th m fu root fr fs gn++[tp from_,.own [.vec 7] eLE,.dead,.vec (.ad cE []) Lf.eE]))=
 Tree.ite (root==0) (.ret [.own [.ptr 1 0,.s (.int .i64 root),.ints .u64 16 fr,.ints .u64 16 fs,.ints .u64 16 gn] 70,.own [.vec 2,.ag 3,.s (.int .i64 fu)] 96,.vec (.ad [.arr .u8 64] th) 138,.map (.arr .u8 64) m,.own [.s (.str from_)] 9,.own [.vec 7] 29,.dead,.vec (.ad [.str,.str] []) 34,.own [.ptr 0 0] 26,.own [.fn 41 [.ptr 4 0,.ptr 5 0]] 82,.own [.ints .u64 16 (List.replicate 16 0)] 47,.own [.fn 62 [.ptr 8 0,.ptr 10 0,.ptr 9 0,.ptr 11 0]] 107] (.s (.aW .i64 0))) (.need (bJ (some [AV.s (.int .i64 root),.s (.int .i64 1),.ptr 4 0,.ptr 5 0,.ptr 6 0,.ptr 7 0])) (.need (bJ (some [ae.own [.ptr 1 0,.s (.int .i64 root),.ints .u64 16 fr,.ints .u64 16 fs,.ints .u64 16 gn] 70,.own [.vec 2,.ag 3,.s (.int .i64 fu)] 96,.vec (.ad [.arr .u8 64] th) 138,.map (.arr .u8 64) m,.own [.ptr 0 0] 26,.own [.ints .u64 16 (List.replicate 16 0)] 47,.own [.fn 41 [.ptr 8 0,.ptr 9 0]] 82,.own [.fn 62 [.ptr 4 0,.ptr 5 0,.ptr 6 0,.ptr 7 0]] 107,.own [.s (.str from_)] 9,.own [.vec 10] 29,.vec (.ad [.str,.str] []) 34])) (.need (Ds.bU th m fu) (.need ((0:Int)≤root∧root≤65536) (.need ((1:Int)≤1∧(1:Int)≤17) (.need ((18:Int)≤1+(↑(17:Nat):Int)) (.need (Bx.okW (List.replicate 16 0)) (.need ((0:Nat)≤(126:Nat)*0) (.ret [.own [.ptr 1 0,.s (.int .i64 root),.ints .u64 16 fr,.ints .u64 16 fs,.ints .u64 16 gn] 70,.own [.vec 2,.ag 3,.s (.int .i64 fu)] 96,.vec (.ad [.arr .u8 64] th) 138,.map (.arr .u8 64) m,.own [.s (.str from_)] 9,.own [.vec 12] 29,.dead,.dead,.own [.ptr 0 0] 26,.own [.fn 41 [.ptr 4 0,.ptr 5 0]] 82,.own [.ints .u64 16 (amL th m 17 1 (List.replicate 16 0) from_ [] root)] 47,.own [.fn 62 [.ptr 8 0,.ptr 10 0,.ptr 9 0,.ptr 11 0]] 107,.vec (.ad [.str,.str] (amM th m 17 1 (List.replicate 16 0) from_ [] root)) 34] (.s (.int .i64 (amN th m 17 1 (List.replicate 16 0) from_ [] root)))))))))))):=by kernel_rfl
abbrev sLs:Spec XD:=⟨fun(_,from_)=>[.ptr 0 0,.s (.str from_)],fun((th,m,fu,root,fr,fs,gn),_)=>hT th m fu root fr fs gn,fun((th,m,fu,root,_),_)=>[Ds.bU th m fu,0≤root∧root≤65536],
 fun((th,m,fu,root,fr,fs,gn),from_)=>hT th m fu root fr fs gn++[.vec (.ad cE (lsF th m root from_)) Lf.eE],fun((th,m,_,root,_),from_)=>.bp [.vec 4,bO (lsE th m root from_)]⟩
def asE:List AV→RM (XD×List Nat)
 |[t,.fn _ [.ptr p 0,.ptr q 0]]=>(mT [t]).bind fun(X,σ)=>.look p fun o=>match o with
  |some (.own [.s (.str from_)] _)=>.look q fun o=>match o with
   |some (.own [.vec r] _)=>.ret ((X,from_),σ++[p,q,r])
   |_=>.fail "no row"
  |_=>.fail "no text"
 |_=>.fail "walk"
def aj4:aH:=[(40,dI amP asE)]
def amQ:List (Nat×Norm):=[(4,⟨[],[0,3,6],4,[(5,0,false,.ad cE [],Lf.eE)]⟩)]
noncomputable def cLs(th:Th)(m:As)(fu root:Int)(fr fs gn:Ws)(from_:ByteArray):bB:=⟨sl 17 [(0,.ptr 0 0),(3,.ptr 4 0),(6,.ptr 5 0)],hT th m fu root fr fs gn++[tp from_,.own [.vec 6] eLE,.vec (.ad cE []) Lf.eE],hr Tryd.f12 4,{}⟩
theorem auB(th:Th)(m:As)(fu root:Int)(fr fs gn:Ws)(from_:ByteArray):run P aj4.sum Tryd.f12 amQ (start Tryd.f12 [.ptr 0 0,.s (.str from_)] (hT th m fu root fr fs gn))=
 Tree.at (.mk (sl 17 [(0,.ptr 0 0),(3,.ptr 4 0),(6,.ptr 5 0)]) [.own [.ptr 1 0,.s (.int .i64 root),.ints .u64 16 fr,.ints .u64 16 fs,.ints .u64 16 gn] 70,.own [.vec 2,.ag 3,.s (.int .i64 fu)] 96,.vec (.ad [.arr .u8 64] th) 138,.map (.arr .u8 64) m,.own [.s (.str from_)] 9,.own [.vec 6] 29,.vec (.ad [.str,.str] []) 34] (hr Tryd.f12 4) (.mk none false 0 [] 0)):=by kernel_rfl
theorem auC(th:Th)(m:As)(fu root:Int)(fr fs gn:Ws)(from_:ByteArray):run P aj4.sum Tryd.f12 amQ (cLs th m fu root fr fs gn from_)=
 Tree.need (bJ (some [AV.ptr 0 0,.fn 41 [.ptr 4 0,.ptr 5 0]])) (.need (bJ (some [ae.own [.ptr 1 0,.s (.int .i64 root),.ints .u64 16 fr,.ints .u64 16 fs,.ints .u64 16 gn] 70,.own [.vec 2,.ag 3,.s (.int .i64 fu)] 96,.vec (.ad [.arr .u8 64] th) 138,.map (.arr .u8 64) m,.own [.s (.str from_)] 9,.own [.vec 6] 29,.vec (.ad [.str,.str] []) 34])) (.need (Ds.bU th m fu) (.need ((0:Int)≤root∧root≤65536) (.ite (lsE th m root from_ !=0) (.ret [.own [.ptr 1 0,.s (.int .i64 root),.ints .u64 16 fr,.ints .u64 16 fs,.ints .u64 16 gn] 70,.own [.vec 2,.ag 3,.s (.int .i64 fu)] 96,.vec (.ad [.arr .u8 64] th) 138,.map (.arr .u8 64) m,.own [.s (.str from_)] 9,.own [.vec 7] 29,.dead,.vec (.ad [.str,.str] (lsT th m root from_)) 34] (.bp [.emp,.s (.int .i64 (lsE th m root from_))])) (.ret [.own [.ptr 1 0,.s (.int .i64 root),.ints .u64 16 fr,.ints .u64 16 fs,.ints .u64 16 gn] 70,.own [.vec 2,.ag 3,.s (.int .i64 fu)] 96,.vec (.ad [.arr .u8 64] th) 138,.map (.arr .u8 64) m,.own [.s (.str from_)] 9,.own [.vec 7] 29,.dead,.vec (.ad [.str,.str] (lsT th m root from_)) 34] (.bp [.vec 7,.s (.aW .i64 0)])))))):=by kernel_rfl
theorem aj5{th:Th}{m:As}{fu root:Int}{fr fs gn:Ws}{from_:ByteArray}{c:List En×Int}(e:c=wkT (qH from_) th m root []):
 amP.fC ((th,m,fu,root,fr,fs,gn),from_)=hT th m fu root fr fs gn++[tp from_,.own [.vec 7] eLE,.dead,.vec (.ad cE c.1) Lf.eE]∧amP.out ((th,m,fu,root,fr,fs,gn),from_)=bO c.2:=by
 subst e;exact⟨rfl,rfl⟩
theorem aj6:jU P Bx.ct 40 amP:=by
 refine aO Tryd.func40 (by kernel_rfl) (fun x=>Nat.le_of_ble_eq_true (by kernel_rfl)) ?_
 rintro⟨⟨(th:Th),(m:As),(fu:Int),(root:Int),(fr:Ws),(fs:Ws),(gn:Ws)⟩,(from_:ByteArray)⟩ ⟨(hd:Ds.bU th m fu),(hr:0≤root∧root≤65536),_⟩ X hX hz
 refine pv 6 (c:=start Tryd.f40 [.ptr 0 0,.fn fL1 [.ptr 4 0,.ptr 5 0]] (hT th m fu root fr fs gn++[tp from_,.own [.vec 7] eLE,.dead,.vec (.ad cE []) Lf.eE])) rfl ?_
 refine Ds.eV hz hX (by intro y hy;cases hy) (aH.Ok.cons ((ya 17).sum amO) aH.Ok.nil) Tryd.func40 (asD th m fu root fr fs gn from_) ⟨fun h=> ?_,fun h=>⟨rfl,rfl,hd,hr,⟨by omega,by omega⟩,by omega,Bx.gK.1,Nat.le_refl _, ?_⟩⟩
 ·have h:root=0:=by simpa using h
  obtain⟨f1,f2⟩:=aj5 (fu:=fu) (fr:=fr) (fs:=fs) (gn:=gn) (c:=([],0)) (show _=wkT (qH from_) th m root []by unfold wkT;rw[if_pos h])
  exact b9 7 rfl (Nat.le_refl _) f2 f1
 ·have h:¬root=0:=by simpa using h
  obtain⟨f1,f2⟩:=aj5 (fu:=fu) (fr:=fr) (fs:=fs) (gn:=gn) (c:=((gP (qH from_) th m 17 1 Bx.bk [] root).2.1,(gP (qH from_) th m 17 1 Bx.bk [] root).2.2)) (show _=wkT (qH from_) th m root []by unfold wkT;rw[if_neg h])
  exact b9 7 rfl (Nat.le_refl _) f2 f1
theorem amR:jU P Bx.ct 12 sLs:=by
 refine fE Tryd.func12 (by kernel_rfl) (fun x=>Nat.le_of_ble_eq_true (by kernel_rfl)) ?_
 rintro⟨⟨(th:Th),(m:As),(fu:Int),(root:Int),(fr:Ws),(fs:Ws),(gn:Ws)⟩,(from_:ByteArray)⟩ ⟨(hd:Ds.bU th m fu),(hr:0≤root∧root≤65536),_⟩ X hX hz
 have hm:∀y∈amQ,(hT th m fu root fr fs gn).length≤y.2.m:=fun y hy=>by
  simp only[amQ,List.mem_singleton]at hy;subst hy;exact Nat.le_refl _
 have T:aj4.Ok P Bx.ct:=aH.Ok.cons (aj6.sum asE) aH.Ok.nil
 refine Ds.eV hz hX hm T Tryd.func12 (auB th m fu root fr fs gn from_) ?_
 refine Ds.eV hz hX hm T Tryd.func12 (auC th m fu root fr fs gn from_) ⟨rfl,rfl,hd,hr,fun h=> ?_,fun h=> ?_⟩
 ·have h:lsE th m root from_≠0:=bne_iff_ne.1 h
  refine kf (h:=hT th m fu root fr fs gn++[.vec (.ad cE []) Lf.eE]) ⟨[(0,.ad cE [],Lf.eE)],[0,1],4,[]⟩ rfl (Nat.le_refl _) (oz.same _) rfl ?_
  show hT th m fu root fr fs gn++[.vec (.ad cE (lsF th m root from_)) Lf.eE]=_
  unfold lsF
  rw[if_pos h];rfl
 ·have h:¬lsE th m root from_≠0:=fun hh=>Bool.false_ne_true (h.symm.trans (bne_iff_ne.2 hh))
  refine kf (h:=hT th m fu root fr fs gn++[.vec (.ad cE (lsT th m root from_)) Lf.eE]) ⟨[],[0,1],4,[]⟩ rfl (Nat.le_refl _) (oz.same _) ?_ ?_
  ·show AV.bp [.vec 4,bO (lsE th m root from_)]=_
   rw[show lsE th m root from_=0 from Decidable.byContradiction h];rfl
  ·show hT th m fu root fr fs gn++[.vec (.ad cE (lsF th m root from_)) Lf.eE]=_
   unfold lsF
   rw[if_neg h]
end Ts
namespace Ts
open Go Go.Sx Go.Proofs Lf
def opF(th:Th)(free:Ws):Ws:=Bx.dc .and free (Bx.dc .andNot (Bx.cC (Ds.xF th)) (Bx.cC 2))
abbrev XO:Type:=Th×As×Int×Int×Ws
abbrev sOp:Spec XO:=⟨fun(_,_,_,root,free)=>[.ptr 0 0,bO root,.ints .u64 16 free],fun(th,m,fu,_)=>Ds.hD th m fu,fun(th,m,fu,_)=>[Ds.bU th m fu],fun(th,m,fu,root,free)=>Ds.hD th m fu++[obT 0 root (opF th free) Bx.bk Bx.bk],fun _=>.ptr 3 0⟩
def mOp:List AV→RM (XO×List Nat)
 |[d,r,.ints .u64 16 free]=>(Ds.mAs [d]).bind fun((th,m,fu),σ)=>match r.dk with
  |some (_,_,root)=>.ret ((th,m,fu,root,free),σ)
  |none=>.fail "no root"
 |_=>.fail "open"
abbrev aon:=dI sOp mOp
abbrev asF:=dI Ds.sPn Ds.mAs
abbrev asG:=bS [Bx.bm] [Bx.dt] (fun _=>[]) (fun(n,())=>(Bx.cC n,()))
abbrev asH:=bS [Bx.dt,Bx.dt] [Bx.dt] (fun _=>[]) (fun(a,b,())=>(Bx.dc .andNot a b,()))
abbrev auD:=bS [Bx.dt,Bx.dt] [Bx.dt] (fun _=>[]) (fun(a,b,())=>(Bx.dc .and a b,()))
def asI:aH:=[(45,asF),(29,asG),(23,asH),(44,auD)]
theorem auE(th:Th)(m:As)(fu root:Int)(free:Ws):run P asI.sum Tryd.f21 [] (start Tryd.f21 [.ptr 0 0,bO root,.ints .u64 16 free] (Ds.hD th m fu))=
 Tree.need (bJ (some [AV.ptr 0 0])) (.need (bJ (some [ae.own [.vec 1,.ag 2,.s (.int .i64 fu)] 96,.vec (.ad [.arr .u8 64] th) 138,.map (.arr .u8 64) m])) (.need (Ds.bU th m fu) (.ret [.own [.vec 1,.ag 2,.s (.int .i64 fu)] 96,.vec (.ad [.arr .u8 64] th) 138,.map (.arr .u8 64) m,.own [.ints .u64 16 free] 47,.own [.ptr 0 0,.s (.int .i64 root),.ints .u64 16 (Bx.dc BinOp.and free (Bx.dc BinOp.andNot (Bx.cC (Ds.xF th)) (Bx.cC 2))),.ints .u64 16 (List.replicate 16 0),.ints .u64 16 (List.replicate 16 0)] 70] (.ptr 4 0)))):=by kernel_rfl
abbrev sRt:Spec XT:=⟨fun _=>[.ptr 0 0],fun(th,m,fu,root,fr,fs,gn)=>hT th m fu root fr fs gn,fun _=>[],fun(th,m,fu,root,fr,fs,gn)=>hT th m fu root fr fs gn,fun(_,_,_,root,_)=>bO root⟩
abbrev sFs:Spec XT:=⟨fun _=>[.ptr 0 0],fun(th,m,fu,root,fr,fs,gn)=>hT th m fu root fr fs gn,fun _=>[],fun(th,m,fu,root,fr,fs,gn)=>hT th m fu root fr fs gn,fun(_,_,_,_,_,fs,_)=>.ints .u64 16 fs⟩
abbrev sFr:Spec XT:=⟨fun _=>[.ptr 0 0],fun(th,m,fu,root,fr,fs,gn)=>hT th m fu root fr fs gn,fun _=>[],fun(th,m,fu,root,fr,fs,gn)=>hT th m fu root fr fs gn,fun(_,_,_,_,fr,_)=>.ints .u64 16 fr⟩
theorem auF(th:Th)(m:As)(fu root:Int)(fr fs gn:Ws):run P (aH.sum []) Tryd.f22 [] (start Tryd.f22 [.ptr 0 0] (hT th m fu root fr fs gn))=
 Tree.ret [.own [.ptr 1 0,.s (.int .i64 root),.ints .u64 16 fr,.ints .u64 16 fs,.ints .u64 16 gn] 70,.own [.vec 2,.ag 3,.s (.int .i64 fu)] 96,.vec (.ad [.arr .u8 64] th) 138,.map (.arr .u8 64) m] (.s (.int .i64 root)):=by kernel_rfl
theorem auG(th:Th)(m:As)(fu root:Int)(fr fs gn:Ws):run P (aH.sum []) Tryd.f19 [] (start Tryd.f19 [.ptr 0 0] (hT th m fu root fr fs gn))=
 Tree.ret [.own [.ptr 1 0,.s (.int .i64 root),.ints .u64 16 fr,.ints .u64 16 fs,.ints .u64 16 gn] 70,.own [.vec 2,.ag 3,.s (.int .i64 fu)] 96,.vec (.ad [.arr .u8 64] th) 138,.map (.arr .u8 64) m,.own [.ints .u64 16 fs] 47] (.ints .u64 16 fs):=by kernel_rfl
theorem auH(th:Th)(m:As)(fu root:Int)(fr fs gn:Ws):run P (aH.sum []) Tryd.f20 [] (start Tryd.f20 [.ptr 0 0] (hT th m fu root fr fs gn))=
 Tree.ret [.own [.ptr 1 0,.s (.int .i64 root),.ints .u64 16 fr,.ints .u64 16 fs,.ints .u64 16 gn] 70,.own [.vec 2,.ag 3,.s (.int .i64 fu)] 96,.vec (.ad [.arr .u8 64] th) 138,.map (.arr .u8 64) m,.own [.ints .u64 16 fr] 47] (.ints .u64 16 fr):=by kernel_rfl
def cq(n:Int):Th:=List.replicate n.toNat (CL.d Ds.cS)
def asJ:aH:=[(21,aon),(29,asG)]
theorem auI(p:Int):run P asJ.sum Tryd.f10 [] (start Tryd.f10 [bO p] []) (inl:=[31])=
 Tree.need (aD ((4:Int)*p)) (.ite (decide ((4:Int)*p<1)) (.ret [] (.bp [.s .mw,.s .mw])) (.ite (decide ((4:Int)*p>4096)) (.ret [] (.bp [.s .mw,.s .mw])) (.need ((0:Int)≤4*p) (.need ((4:Int)*p≤4*p) (.need ((4:Int)*p≤1073741824) (.need (bJ (some [AV.ptr 0 0,.s (.int .i64 0),.ints .u64 16 (Bx.cC p)])) (.need (bJ (some [ae.own [.vec 1,.ag 2,.s (.int .i64 (-1))] 96,.vec (.ad [.arr .u8 64] (List.replicate ((4:Int)*p).toNat (CL.d [.arr .u8 64]))) 138,.map (.arr .u8 64) []])) (.need (Ds.bU (List.replicate ((4:Int)*p).toNat (CL.d [.arr .u8 64])) [] (-1)) (.ret [.vec (.ad [.arr .u8 64] (List.replicate ((4:Int)*p).toNat (CL.d [.arr .u8 64]))) 138,.map (.arr .u8 64) [],.own [.vec 0,.ag 1,.s (.int .i64 (-1))] 96,.own [.ptr 2 0,.s (.int .i64 0),.ints .u64 16 (opF (List.replicate ((4:Int)*p).toNat (CL.d [.arr .u8 64])) (Bx.cC p)),.ints .u64 16 Bx.bk,.ints .u64 16 Bx.bk] 70] (.bp [.ptr 2 0,.ptr 3 0])))))))))):=by kernel_rfl
abbrev XH:Type:=XT×ByteArray×ByteArray
def aj7(th:Th)(m:As)(root:Int)(key want:ByteArray):Bool:=(gtE th m root key==0)&&(gtB th m root key&&decide (gtV th m root key=want))
abbrev sHs:Spec XH:=⟨fun(_,key,want)=>[.ptr 0 0,.s (.str key),.s (.str want)],fun((th,m,fu,root,fr,fs,gn),_)=>hT th m fu root fr fs gn,fun((th,m,fu,root,_),_)=>[Ds.bU th m fu,0≤root∧root≤65536],fun((th,m,fu,root,fr,fs,gn),_)=>hT th m fu root fr fs gn,
 fun((th,m,_,root,_),key,want)=>.s (.bool (aj7 th m root key want))⟩
def mGt:List AV→RM (XD×List Nat)
 |[t,.s (.str key)]=>(mT [t]).bind fun(X,σ)=>.ret ((X,key),σ)
 |_=>.fail "get"
def mHs:List AV→RM (XH×List Nat)
 |[t,.s (.str key),.s (.str want)]=>(mT [t]).bind fun(X,σ)=>.ret ((X,key,want),σ)
 |_=>.fail "has"
def asK:aH:=[(11,dI ajX mGt)]
theorem auJ(th:Th)(m:As)(fu root:Int)(fr fs gn:Ws)(key want:ByteArray):run P asK.sum Tryd.f30 [] (start Tryd.f30 [.ptr 0 0,.s (.str key),.s (.str want)] (hT th m fu root fr fs gn))=
 Tree.need (bJ (some [AV.ptr 0 0,.s (.str key)])) (.need (bJ (some [ae.own [.ptr 1 0,.s (.int .i64 root),.ints .u64 16 fr,.ints .u64 16 fs,.ints .u64 16 gn] 70,.own [.vec 2,.ag 3,.s (.int .i64 fu)] 96,.vec (.ad [.arr .u8 64] th) 138,.map (.arr .u8 64) m])) (.need (Ds.bU th m fu) (.need ((0:Int)≤root∧root≤65536) (.ite (gtE th m root key==0) (.ite (gtB th m root key) (.ret [.own [.ptr 1 0,.s (.int .i64 root),.ints .u64 16 fr,.ints .u64 16 fs,.ints .u64 16 gn] 70,.own [.vec 2,.ag 3,.s (.int .i64 fu)] 96,.vec (.ad [.arr .u8 64] th) 138,.map (.arr .u8 64) m] (.s (.bool (decide (gtV th m root key=want))))) (.ret [.own [.ptr 1 0,.s (.int .i64 root),.ints .u64 16 fr,.ints .u64 16 fs,.ints .u64 16 gn] 70,.own [.vec 2,.ag 3,.s (.int .i64 fu)] 96,.vec (.ad [.arr .u8 64] th) 138,.map (.arr .u8 64) m] (.s (.aJ false)))) (.ret [.own [.ptr 1 0,.s (.int .i64 root),.ints .u64 16 fr,.ints .u64 16 fs,.ints .u64 16 gn] 70,.own [.vec 2,.ag 3,.s (.int .i64 fu)] 96,.vec (.ad [.arr .u8 64] th) 138,.map (.arr .u8 64) m] (.s (.aJ false))))))):=by kernel_rfl
abbrev sMd:Spec Int:=⟨fun p=>[bO p],fun _=>[],fun p=>[3≤p∧p≤250],fun p=>[Ds.obD 2 3 (-1),obT 0 0 (opF (cq (4*p)) (Bx.cC p)) Bx.bk Bx.bk,.vec (.ad Ds.cS (cq (4*p))) Ds.eS,.map Ds.kS []],fun _=>.bp [.ptr 0 0,.ptr 1 0]⟩
theorem afm{Z:aX}:jU P Z 21 sOp:=by
 refine aO Tryd.func21 (by kernel_rfl) (fun x=>Nat.le_of_ble_eq_true (by kernel_rfl)) ?_
 rintro⟨(th:Th),(m:As),(fu:Int),(root:Int),(free:Ws)⟩ ⟨(hd:Ds.bU th m fu),_⟩ X hX hz
 exact Ds.eV hz hX (by intro y hy;cases hy) (aH.Ok.cons (Ds.arC.sum Ds.mAs) (aH.Ok.cons Bx.vw.sum (aH.Ok.cons Bx.ae5.sum (aH.Ok.cons Bx.alW.sum aH.Ok.nil)))) Tryd.func21 (auE th m fu root free) ⟨rfl,rfl,hd,b9 3 rfl (Nat.le_refl _) rfl rfl⟩
theorem afn{Z:aX}:jU P Z 22 sRt:=by
 refine aO Tryd.func22 (by kernel_rfl) (fun x=>Nat.le_of_ble_eq_true (by kernel_rfl)) ?_
 rintro⟨(th:Th),(m:As),(fu:Int),(root:Int),(fr:Ws),(fs:Ws),(gn:Ws)⟩ _ X hX hz
 exact Ds.eV hz hX (by intro y hy;cases hy) aH.Ok.nil Tryd.func22 (auF th m fu root fr fs gn) (b9 4 rfl (Nat.le_refl _) rfl rfl)
theorem aj8{Z:aX}:jU P Z 19 sFs:=by
 refine aO Tryd.func19 (by kernel_rfl) (fun x=>Nat.le_of_ble_eq_true (by kernel_rfl)) ?_
 rintro⟨(th:Th),(m:As),(fu:Int),(root:Int),(fr:Ws),(fs:Ws),(gn:Ws)⟩ _ X hX hz
 exact Ds.eV hz hX (by intro y hy;cases hy) aH.Ok.nil Tryd.func19 (auG th m fu root fr fs gn) (b9 4 rfl (Nat.le_refl _) rfl rfl)
theorem afo{Z:aX}:jU P Z 20 sFr:=by
 refine aO Tryd.func20 (by kernel_rfl) (fun x=>Nat.le_of_ble_eq_true (by kernel_rfl)) ?_
 rintro⟨(th:Th),(m:As),(fu:Int),(root:Int),(fr:Ws),(fs:Ws),(gn:Ws)⟩ _ X hX hz
 exact Ds.eV hz hX (by intro y hy;cases hy) aH.Ok.nil Tryd.func20 (auH th m fu root fr fs gn) (b9 4 rfl (Nat.le_refl _) rfl rfl)
theorem amS{Z:aX}:jU P Z 10 sMd:=by
 refine aO Tryd.func10 (by kernel_rfl) (fun x=>Nat.le_of_ble_eq_true (by kernel_rfl)) ?_
 rintro(p:Int) ⟨(hp:3≤p∧p≤250),_⟩ X hX hz
 refine Ds.eV hz hX (by intro y hy;cases hy) (aH.Ok.cons (afm.sum mOp) (aH.Ok.cons Bx.vw.sum aH.Ok.nil)) Tryd.func10 (auI p) ⟨inI (by omega) (by omega),fun h=> ?_,fun h=>⟨fun h2=> ?_,fun h2=>⟨by omega,by omega,by omega,rfl,rfl, ?_, ?_⟩⟩⟩
 ·have:=of_decide_eq_true h;omega
 ·have:=of_decide_eq_true h2;omega
 ·exact Ds.ais (by omega)
 ·exact b9 0 rfl (Nat.le_refl _) rfl rfl
theorem abZ{Z:aX}:jU P Z 30 sHs:=by
 refine aO Tryd.func30 (by kernel_rfl) (fun x=>Nat.le_of_ble_eq_true (by kernel_rfl)) ?_
 rintro⟨⟨(th:Th),(m:As),(fu:Int),(root:Int),(fr:Ws),(fs:Ws),(gn:Ws)⟩,(key:ByteArray),(want:ByteArray)⟩ ⟨(hd:Ds.bU th m fu),(hr:0≤root∧root≤65536),_⟩ X hX hz
 have fin:∀b,aj7 th m root key want=b→sHs.out ((th,m,fu,root,fr,fs,gn),key,want)=.s (.bool b):=fun b e=>by subst e;rfl
 refine Ds.eV hz hX (by intro y hy;cases hy) (aH.Ok.cons (aqu.sum mGt) aH.Ok.nil) Tryd.func30 (auJ th m fu root fr fs gn key want) ⟨rfl,rfl,hd,hr,fun h=>⟨fun h2=> ?_,fun h2=> ?_⟩,fun h=> ?_⟩
 ·exact b9 4 rfl (Nat.le_refl _) (fin _ (by unfold aj7;rw[h,h2];rfl)) rfl
 ·exact b9 4 rfl (Nat.le_refl _) (fin _ (by unfold aj7;rw[h,h2];rfl)) rfl
 ·exact b9 4 rfl (Nat.le_refl _) (fin _ (by unfold aj7;rw[h];rfl)) rfl
end Ts
namespace Ts
open Go Go.Sx Go.Proofs Lf
def mPt:List AV→RM (XK×List Nat)
 |[t,.s (.str key),.s (.str val)]=>(mT [t]).bind fun(X,σ)=>.ret ((X,key,val),σ)
 |_=>.fail "put"
abbrev aj9:=dI ajV mPt
abbrev aka:=dI ajW mGt
abbrev asL:=dI sHs mHs
abbrev aoo:=dI sRt mT
abbrev asM:=dI sFs mT
abbrev aop:=dI sFr mT
def mMd:List AV→RM (Int×List Nat)
 |[p]=>match p.dk with
  |some (_,_,p)=>.ret (p,[])
  |none=>.fail "made"
 |_=>.fail "made"
abbrev asN:=dI sMd mMd
def lL:aH:=[(10,asN),(24,aj9),(25,aka),(30,asL),(22,aoo),(20,aop),(35,ap8)]
def sT:List (Nat×Norm):=[(iY+2004,⟨[],[0,2,9,10],0,[]⟩),(iY+2009,⟨[],[0,2,14,15],0,[]⟩),(iY+2014,⟨[],[0,2,19,20],0,[]⟩),(iY+2019,⟨[],[0,2,24,25],0,[]⟩),(iY+2024,⟨[],[0,2,29,30],0,[]⟩),(iY+2029,⟨[],[0,2,34,35],0,[]⟩),(iY+2035,⟨[],[0,2,40,41],0,[]⟩),(iY+2040,⟨[],[0,2,45,46],0,[]⟩),(iY+2045,⟨[],[0,2,50,51],0,[]⟩),(iY+2050,⟨[],[0,2,55,56],0,[]⟩),(iY+4001,⟨[],[0,60],0,[]⟩)]
noncomputable def asO:bB:=Sx.start Tryd.f8 [] []
theorem asP:run (P) (lL.sum) (Tryd.f8) (sT) asO ([])=
 Tree.need (bJ (some [AV.s (.int .i64 8)])) (.need aii (.need ((3:Int)≤8∧(8:Int)≤250) (.at (.mk (sl 63 [(0,.s (.bool false)),(2,.ptr 0 0),(9,.s (.bool false)),(10,.ptr 0 0)]) [.own [.ptr 1 0,.s (.int .i64 0),.ints .u64 16 (opF (cq ((4:Int)*8)) (Bx.cC 8)),.ints .u64 16 Bx.bk,.ints .u64 16 Bx.bk] 70,.own [.vec 2,.ag 3,.s (.int .i64 (-1))] 96,.vec (.ad [.arr .u8 64] (cq ((4:Int)*8))) 138,.map (.arr .u8 64) []] (wa Tryd.f8 2 4) (.mk none false 0 [] 2))))):=by kernel_rfl
noncomputable def gQ:Ws:=opF (cq ((4:Int)*(8:Int))) (Bx.cC (8:Int))
noncomputable def asQ:bB:=bB.mk (sl 63 [(0,.s (.bool false)),(2,.ptr 0 0),(9,.s (.bool false)),(10,.ptr 0 0)]) [.own [.ptr 1 0,.s (.int .i64 0),.ints .u64 16 gQ,.ints .u64 16 Bx.bk,.ints .u64 16 Bx.bk] 70,.own [.vec 2,.ag 3,.s (.int .i64 (-1))] 96,.vec (.ad [.arr .u8 64] (cq ((4:Int)*8))) 138,.map (.arr .u8 64) []] (wa Tryd.f8 2 4) (.mk none false 0 [] 2)
theorem asR:run (P) (lL.sum) (Tryd.f8) (sT) asQ ([])=
 Tree.ite false (.ret [.own [.ptr 1 0,.s (.int .i64 0),.ints .u64 16 gQ,.ints .u64 16 Bx.bk,.ints .u64 16 Bx.bk] 70,.own [.vec 2,.ag 3,.s (.int .i64 (-1))] 96,.vec (.ad [.arr .u8 64] (cq ((4:Int)*8))) 138,.map (.arr .u8 64) []] (.s (.aJ false))) (.need (bJ (some [AV.ptr 0 0,.s (.str (ByteArray.mk #[(97:UInt8)])),.s (.str (ByteArray.mk #[(49:UInt8)]))])) (.need (bJ (some [ae.own [.ptr 1 0,.s (.int .i64 0),.ints .u64 16 gQ,.ints .u64 16 Bx.bk,.ints .u64 16 Bx.bk] 70,.own [.vec 2,.ag 3,.s (.int .i64 (-1))] 96,.vec (.ad [.arr .u8 64] (cq ((4:Int)*8))) 138,.map (.arr .u8 64) []])) (.need (Ds.bU (cq ((4:Int)*8)) [] (-1)) (.need (Bx.okW gQ) (.need ((0:Int)≤0∧(0:Int)≤65536) (.ite false (.ret [.own [.ptr 1 0,.s (.int .i64 2),.ints .u64 16 (op2 (cq ((4:Int)*8)) (ByteArray.mk #[(97:UInt8)]) (some (ByteArray.mk #[(49:UInt8)])) [] (-1) 0 gQ Bx.bk Bx.bk),.ints .u64 16 (op3 (cq ((4:Int)*8)) (ByteArray.mk #[(97:UInt8)]) (some (ByteArray.mk #[(49:UInt8)])) [] (-1) 0 gQ Bx.bk Bx.bk),.ints .u64 16 (op4 (cq ((4:Int)*8)) (ByteArray.mk #[(97:UInt8)]) (some (ByteArray.mk #[(49:UInt8)])) [] (-1) 0 gQ Bx.bk Bx.bk)] 70,.own [.vec 2,.ag 3,.s (.int .i64 (op1 (cq ((4:Int)*8)) (ByteArray.mk #[(97:UInt8)]) (some (ByteArray.mk #[(49:UInt8)])) [] (-1) 0 gQ Bx.bk Bx.bk))] 96,.vec (.ad [.arr .u8 64] (cq ((4:Int)*8))) 138,.map (.arr .u8 64) (op0 (cq ((4:Int)*8)) (ByteArray.mk #[(97:UInt8)]) (some (ByteArray.mk #[(49:UInt8)])) [] (-1) 0 gQ Bx.bk Bx.bk)] (.s (.aJ false))) (.at (.mk (sl 63 [(0,.s (.bool false)),(2,.ptr 0 0),(14,.s (.bool false)),(15,.ptr 0 0)]) [.own [.ptr 1 0,.s (.int .i64 2),.ints .u64 16 (op2 (cq ((4:Int)*8)) (ByteArray.mk #[(97:UInt8)]) (some (ByteArray.mk #[(49:UInt8)])) [] (-1) 0 gQ Bx.bk Bx.bk),.ints .u64 16 (op3 (cq ((4:Int)*8)) (ByteArray.mk #[(97:UInt8)]) (some (ByteArray.mk #[(49:UInt8)])) [] (-1) 0 gQ Bx.bk Bx.bk),.ints .u64 16 (op4 (cq ((4:Int)*8)) (ByteArray.mk #[(97:UInt8)]) (some (ByteArray.mk #[(49:UInt8)])) [] (-1) 0 gQ Bx.bk Bx.bk)] 70,.own [.vec 2,.ag 3,.s (.int .i64 (op1 (cq ((4:Int)*8)) (ByteArray.mk #[(97:UInt8)]) (some (ByteArray.mk #[(49:UInt8)])) [] (-1) 0 gQ Bx.bk Bx.bk))] 96,.vec (.ad [.arr .u8 64] (cq ((4:Int)*8))) 138,.map (.arr .u8 64) (op0 (cq ((4:Int)*8)) (ByteArray.mk #[(97:UInt8)]) (some (ByteArray.mk #[(49:UInt8)])) [] (-1) 0 gQ Bx.bk Bx.bk)] (wa Tryd.f8 2 9) (.mk none false 0 [] 2))))))))):=by kernel_rfl
noncomputable def dU:Ws:=op2 (cq ((4:Int)*(8:Int))) (ByteArray.mk #[(97:UInt8)]) (some (ByteArray.mk #[(49:UInt8)])) [] (-1:Int) (0:Int) gQ Bx.bk Bx.bk
noncomputable def dX:Ws:=op3 (cq ((4:Int)*(8:Int))) (ByteArray.mk #[(97:UInt8)]) (some (ByteArray.mk #[(49:UInt8)])) [] (-1:Int) (0:Int) gQ Bx.bk Bx.bk
noncomputable def dY:Ws:=op4 (cq ((4:Int)*(8:Int))) (ByteArray.mk #[(97:UInt8)]) (some (ByteArray.mk #[(49:UInt8)])) [] (-1:Int) (0:Int) gQ Bx.bk Bx.bk
noncomputable def dO:Int:=op1 (cq ((4:Int)*(8:Int))) (ByteArray.mk #[(97:UInt8)]) (some (ByteArray.mk #[(49:UInt8)])) [] (-1:Int) (0:Int) gQ Bx.bk Bx.bk
noncomputable def dP:As:=op0 (cq ((4:Int)*(8:Int))) (ByteArray.mk #[(97:UInt8)]) (some (ByteArray.mk #[(49:UInt8)])) [] (-1:Int) (0:Int) gQ Bx.bk Bx.bk
noncomputable def asS:bB:=bB.mk (sl 63 [(0,.s (.bool false)),(2,.ptr 0 0),(14,.s (.bool false)),(15,.ptr 0 0)]) [.own [.ptr 1 0,.s (.int .i64 2),.ints .u64 16 dU,.ints .u64 16 dX,.ints .u64 16 dY] 70,.own [.vec 2,.ag 3,.s (.int .i64 dO)] 96,.vec (.ad [.arr .u8 64] (cq ((4:Int)*8))) 138,.map (.arr .u8 64) dP] (wa Tryd.f8 2 9) (.mk none false 0 [] 2)
theorem asT:run (P) (lL.sum) (Tryd.f8) (sT) asS ([])=
 Tree.ite false (.ret [.own [.ptr 1 0,.s (.int .i64 2),.ints .u64 16 dU,.ints .u64 16 dX,.ints .u64 16 dY] 70,.own [.vec 2,.ag 3,.s (.int .i64 dO)] 96,.vec (.ad [.arr .u8 64] (cq ((4:Int)*8))) 138,.map (.arr .u8 64) dP] (.s (.aJ false))) (.need (bJ (some [AV.ptr 0 0])) (.need (bJ (some [ae.own [.ptr 1 0,.s (.int .i64 2),.ints .u64 16 dU,.ints .u64 16 dX,.ints .u64 16 dY] 70,.own [.vec 2,.ag 3,.s (.int .i64 dO)] 96,.vec (.ad [.arr .u8 64] (cq ((4:Int)*8))) 138,.map (.arr .u8 64) dP])) (.ite false (.ret [.own [.ptr 1 0,.s (.int .i64 2),.ints .u64 16 dU,.ints .u64 16 dX,.ints .u64 16 dY] 70,.own [.vec 2,.ag 3,.s (.int .i64 dO)] 96,.vec (.ad [.arr .u8 64] (cq ((4:Int)*8))) 138,.map (.arr .u8 64) dP] (.s (.aJ false))) (.at (.mk (sl 63 [(0,.s (.bool false)),(2,.ptr 0 0),(19,.s (.bool false)),(20,.ptr 0 0)]) [.own [.ptr 1 0,.s (.int .i64 2),.ints .u64 16 dU,.ints .u64 16 dX,.ints .u64 16 dY] 70,.own [.vec 2,.ag 3,.s (.int .i64 dO)] 96,.vec (.ad [.arr .u8 64] (cq ((4:Int)*8))) 138,.map (.arr .u8 64) dP] (wa Tryd.f8 2 14) (.mk none false 0 [] 2)))))):=by kernel_rfl
noncomputable def asU:bB:=bB.mk (sl 63 [(0,.s (.bool false)),(2,.ptr 0 0),(19,.s (.bool false)),(20,.ptr 0 0)]) [.own [.ptr 1 0,.s (.int .i64 2),.ints .u64 16 dU,.ints .u64 16 dX,.ints .u64 16 dY] 70,.own [.vec 2,.ag 3,.s (.int .i64 dO)] 96,.vec (.ad [.arr .u8 64] (cq ((4:Int)*8))) 138,.map (.arr .u8 64) dP] (wa Tryd.f8 2 14) (.mk none false 0 [] 2)
theorem asV:run (P) (lL.sum) (Tryd.f8) (sT) asU ([])=
 Tree.ite false (.ret [.own [.ptr 1 0,.s (.int .i64 2),.ints .u64 16 dU,.ints .u64 16 dX,.ints .u64 16 dY] 70,.own [.vec 2,.ag 3,.s (.int .i64 dO)] 96,.vec (.ad [.arr .u8 64] (cq ((4:Int)*8))) 138,.map (.arr .u8 64) dP] (.s (.aJ false))) (.need (bJ (some [AV.ptr 0 0,.s (.str (ByteArray.mk #[(97:UInt8)])),.s (.str (ByteArray.mk #[(49:UInt8)]))])) (.need (bJ (some [ae.own [.ptr 1 0,.s (.int .i64 2),.ints .u64 16 dU,.ints .u64 16 dX,.ints .u64 16 dY] 70,.own [.vec 2,.ag 3,.s (.int .i64 dO)] 96,.vec (.ad [.arr .u8 64] (cq ((4:Int)*8))) 138,.map (.arr .u8 64) dP])) (.need (Ds.bU (cq ((4:Int)*8)) dP dO) (.need ((0:Int)≤2∧(2:Int)≤65536) (.ite false (.ret [.own [.ptr 1 0,.s (.int .i64 2),.ints .u64 16 dU,.ints .u64 16 dX,.ints .u64 16 dY] 70,.own [.vec 2,.ag 3,.s (.int .i64 dO)] 96,.vec (.ad [.arr .u8 64] (cq ((4:Int)*8))) 138,.map (.arr .u8 64) dP] (.s (.aJ false))) (.at (.mk (sl 63 [(0,.s (.bool false)),(2,.ptr 0 0),(24,.s (.bool false)),(25,.ptr 0 0)]) [.own [.ptr 1 0,.s (.int .i64 2),.ints .u64 16 dU,.ints .u64 16 dX,.ints .u64 16 dY] 70,.own [.vec 2,.ag 3,.s (.int .i64 dO)] 96,.vec (.ad [.arr .u8 64] (cq ((4:Int)*8))) 138,.map (.arr .u8 64) dP] (wa Tryd.f8 2 19) (.mk none false 0 [] 2)))))))):=by kernel_rfl
noncomputable def asW:bB:=bB.mk (sl 63 [(0,.s (.bool false)),(2,.ptr 0 0),(24,.s (.bool false)),(25,.ptr 0 0)]) [.own [.ptr 1 0,.s (.int .i64 2),.ints .u64 16 dU,.ints .u64 16 dX,.ints .u64 16 dY] 70,.own [.vec 2,.ag 3,.s (.int .i64 dO)] 96,.vec (.ad [.arr .u8 64] (cq ((4:Int)*8))) 138,.map (.arr .u8 64) dP] (wa Tryd.f8 2 19) (.mk none false 0 [] 2)
theorem asX:run (P) (lL.sum) (Tryd.f8) (sT) asW ([])=
 Tree.ite false (.ret [.own [.ptr 1 0,.s (.int .i64 2),.ints .u64 16 dU,.ints .u64 16 dX,.ints .u64 16 dY] 70,.own [.vec 2,.ag 3,.s (.int .i64 dO)] 96,.vec (.ad [.arr .u8 64] (cq ((4:Int)*8))) 138,.map (.arr .u8 64) dP] (.s (.aJ false))) (.need (bJ (some [AV.ptr 0 0,.s (.str (ByteArray.mk #[(97:UInt8)])),.s (.str (ByteArray.mk #[(50:UInt8)]))])) (.need (bJ (some [ae.own [.ptr 1 0,.s (.int .i64 2),.ints .u64 16 dU,.ints .u64 16 dX,.ints .u64 16 dY] 70,.own [.vec 2,.ag 3,.s (.int .i64 dO)] 96,.vec (.ad [.arr .u8 64] (cq ((4:Int)*8))) 138,.map (.arr .u8 64) dP])) (.need (Ds.bU (cq ((4:Int)*8)) dP dO) (.need (Bx.okW dU) (.need ((0:Int)≤2∧(2:Int)≤65536) (.ite false (.ret [.own [.ptr 1 0,.s (.int .i64 3),.ints .u64 16 (op2 (cq ((4:Int)*8)) (ByteArray.mk #[(97:UInt8)]) (some (ByteArray.mk #[(50:UInt8)])) dP dO 2 dU dX dY),.ints .u64 16 (op3 (cq ((4:Int)*8)) (ByteArray.mk #[(97:UInt8)]) (some (ByteArray.mk #[(50:UInt8)])) dP dO 2 dU dX dY),.ints .u64 16 (op4 (cq ((4:Int)*8)) (ByteArray.mk #[(97:UInt8)]) (some (ByteArray.mk #[(50:UInt8)])) dP dO 2 dU dX dY)] 70,.own [.vec 2,.ag 3,.s (.int .i64 (op1 (cq ((4:Int)*8)) (ByteArray.mk #[(97:UInt8)]) (some (ByteArray.mk #[(50:UInt8)])) dP dO 2 dU dX dY))] 96,.vec (.ad [.arr .u8 64] (cq ((4:Int)*8))) 138,.map (.arr .u8 64) (op0 (cq ((4:Int)*8)) (ByteArray.mk #[(97:UInt8)]) (some (ByteArray.mk #[(50:UInt8)])) dP dO 2 dU dX dY)] (.s (.aJ false))) (.at (.mk (sl 63 [(0,.s (.bool false)),(2,.ptr 0 0),(29,.s (.bool false)),(30,.ptr 0 0)]) [.own [.ptr 1 0,.s (.int .i64 3),.ints .u64 16 (op2 (cq ((4:Int)*8)) (ByteArray.mk #[(97:UInt8)]) (some (ByteArray.mk #[(50:UInt8)])) dP dO 2 dU dX dY),.ints .u64 16 (op3 (cq ((4:Int)*8)) (ByteArray.mk #[(97:UInt8)]) (some (ByteArray.mk #[(50:UInt8)])) dP dO 2 dU dX dY),.ints .u64 16 (op4 (cq ((4:Int)*8)) (ByteArray.mk #[(97:UInt8)]) (some (ByteArray.mk #[(50:UInt8)])) dP dO 2 dU dX dY)] 70,.own [.vec 2,.ag 3,.s (.int .i64 (op1 (cq ((4:Int)*8)) (ByteArray.mk #[(97:UInt8)]) (some (ByteArray.mk #[(50:UInt8)])) dP dO 2 dU dX dY))] 96,.vec (.ad [.arr .u8 64] (cq ((4:Int)*8))) 138,.map (.arr .u8 64) (op0 (cq ((4:Int)*8)) (ByteArray.mk #[(97:UInt8)]) (some (ByteArray.mk #[(50:UInt8)])) dP dO 2 dU dX dY)] (wa Tryd.f8 2 24) (.mk none false 0 [] 2))))))))):=by kernel_rfl
noncomputable def cD:Ws:=op2 (cq ((4:Int)*(8:Int))) (ByteArray.mk #[(97:UInt8)]) (some (ByteArray.mk #[(50:UInt8)])) dP dO (2:Int) dU dX dY
noncomputable def cK:Ws:=op3 (cq ((4:Int)*(8:Int))) (ByteArray.mk #[(97:UInt8)]) (some (ByteArray.mk #[(50:UInt8)])) dP dO (2:Int) dU dX dY
noncomputable def cM:Ws:=op4 (cq ((4:Int)*(8:Int))) (ByteArray.mk #[(97:UInt8)]) (some (ByteArray.mk #[(50:UInt8)])) dP dO (2:Int) dU dX dY
noncomputable def cw:Int:=op1 (cq ((4:Int)*(8:Int))) (ByteArray.mk #[(97:UInt8)]) (some (ByteArray.mk #[(50:UInt8)])) dP dO (2:Int) dU dX dY
noncomputable def bF:As:=op0 (cq ((4:Int)*(8:Int))) (ByteArray.mk #[(97:UInt8)]) (some (ByteArray.mk #[(50:UInt8)])) dP dO (2:Int) dU dX dY
noncomputable def asY:bB:=bB.mk (sl 63 [(0,.s (.bool false)),(2,.ptr 0 0),(29,.s (.bool false)),(30,.ptr 0 0)]) [.own [.ptr 1 0,.s (.int .i64 3),.ints .u64 16 cD,.ints .u64 16 cK,.ints .u64 16 cM] 70,.own [.vec 2,.ag 3,.s (.int .i64 cw)] 96,.vec (.ad [.arr .u8 64] (cq ((4:Int)*8))) 138,.map (.arr .u8 64) bF] (wa Tryd.f8 2 24) (.mk none false 0 [] 2)
theorem asZ:run (P) (lL.sum) (Tryd.f8) (sT) asY ([])=
 Tree.ite false (.ret [.own [.ptr 1 0,.s (.int .i64 3),.ints .u64 16 cD,.ints .u64 16 cK,.ints .u64 16 cM] 70,.own [.vec 2,.ag 3,.s (.int .i64 cw)] 96,.vec (.ad [.arr .u8 64] (cq ((4:Int)*8))) 138,.map (.arr .u8 64) bF] (.s (.aJ false))) (.need (bJ (some [AV.ptr 0 0])) (.need (bJ (some [ae.own [.ptr 1 0,.s (.int .i64 3),.ints .u64 16 cD,.ints .u64 16 cK,.ints .u64 16 cM] 70,.own [.vec 2,.ag 3,.s (.int .i64 cw)] 96,.vec (.ad [.arr .u8 64] (cq ((4:Int)*8))) 138,.map (.arr .u8 64) bF])) (.ite false (.ret [.own [.ptr 1 0,.s (.int .i64 3),.ints .u64 16 cD,.ints .u64 16 cK,.ints .u64 16 cM] 70,.own [.vec 2,.ag 3,.s (.int .i64 cw)] 96,.vec (.ad [.arr .u8 64] (cq ((4:Int)*8))) 138,.map (.arr .u8 64) bF] (.s (.aJ false))) (.at (.mk (sl 63 [(0,.s (.bool false)),(2,.ptr 0 0),(34,.s (.bool false)),(35,.ptr 0 0)]) [.own [.ptr 1 0,.s (.int .i64 3),.ints .u64 16 cD,.ints .u64 16 cK,.ints .u64 16 cM] 70,.own [.vec 2,.ag 3,.s (.int .i64 cw)] 96,.vec (.ad [.arr .u8 64] (cq ((4:Int)*8))) 138,.map (.arr .u8 64) bF] (wa Tryd.f8 2 29) (.mk none false 0 [] 2)))))):=by kernel_rfl
noncomputable def as0:bB:=bB.mk (sl 63 [(0,.s (.bool false)),(2,.ptr 0 0),(34,.s (.bool false)),(35,.ptr 0 0)]) [.own [.ptr 1 0,.s (.int .i64 3),.ints .u64 16 cD,.ints .u64 16 cK,.ints .u64 16 cM] 70,.own [.vec 2,.ag 3,.s (.int .i64 cw)] 96,.vec (.ad [.arr .u8 64] (cq ((4:Int)*8))) 138,.map (.arr .u8 64) bF] (wa Tryd.f8 2 29) (.mk none false 0 [] 2)
theorem as1:run (P) (lL.sum) (Tryd.f8) (sT) as0 ([])=
 Tree.ite false (.ret [.own [.ptr 1 0,.s (.int .i64 3),.ints .u64 16 cD,.ints .u64 16 cK,.ints .u64 16 cM] 70,.own [.vec 2,.ag 3,.s (.int .i64 cw)] 96,.vec (.ad [.arr .u8 64] (cq ((4:Int)*8))) 138,.map (.arr .u8 64) bF] (.s (.aJ false))) (.need (bJ (some [AV.ptr 0 0])) (.need (bJ (some [ae.own [.ptr 1 0,.s (.int .i64 3),.ints .u64 16 cD,.ints .u64 16 cK,.ints .u64 16 cM] 70,.own [.vec 2,.ag 3,.s (.int .i64 cw)] 96,.vec (.ad [.arr .u8 64] (cq ((4:Int)*8))) 138,.map (.arr .u8 64) bF])) (.ite false (.ret [.own [.ptr 1 0,.s (.int .i64 3),.ints .u64 16 cD,.ints .u64 16 cK,.ints .u64 16 cM] 70,.own [.vec 2,.ag 3,.s (.int .i64 cw)] 96,.vec (.ad [.arr .u8 64] (cq ((4:Int)*8))) 138,.map (.arr .u8 64) bF] (.s (.aJ false))) (.at (.mk (sl 63 [(0,.s (.bool false)),(2,.ptr 0 0),(40,.s (.bool false)),(41,.ptr 0 0)]) [.own [.ptr 1 0,.s (.int .i64 3),.ints .u64 16 cD,.ints .u64 16 cK,.ints .u64 16 cM] 70,.own [.vec 2,.ag 3,.s (.int .i64 cw)] 96,.vec (.ad [.arr .u8 64] (cq ((4:Int)*8))) 138,.map (.arr .u8 64) bF] (wa Tryd.f8 2 35) (.mk none false 0 [] 2)))))):=by kernel_rfl
noncomputable def as2:bB:=bB.mk (sl 63 [(0,.s (.bool false)),(2,.ptr 0 0),(40,.s (.bool false)),(41,.ptr 0 0)]) [.own [.ptr 1 0,.s (.int .i64 3),.ints .u64 16 cD,.ints .u64 16 cK,.ints .u64 16 cM] 70,.own [.vec 2,.ag 3,.s (.int .i64 cw)] 96,.vec (.ad [.arr .u8 64] (cq ((4:Int)*8))) 138,.map (.arr .u8 64) bF] (wa Tryd.f8 2 35) (.mk none false 0 [] 2)
theorem as3:run (P) (lL.sum) (Tryd.f8) (sT) as2 ([])=
 Tree.ite false (.ret [.own [.ptr 1 0,.s (.int .i64 3),.ints .u64 16 cD,.ints .u64 16 cK,.ints .u64 16 cM] 70,.own [.vec 2,.ag 3,.s (.int .i64 cw)] 96,.vec (.ad [.arr .u8 64] (cq ((4:Int)*8))) 138,.map (.arr .u8 64) bF] (.s (.aJ false))) (.need (bJ (some [AV.ptr 0 0])) (.need (bJ (some [ae.own [.ptr 1 0,.s (.int .i64 3),.ints .u64 16 cD,.ints .u64 16 cK,.ints .u64 16 cM] 70,.own [.vec 2,.ag 3,.s (.int .i64 cw)] 96,.vec (.ad [.arr .u8 64] (cq ((4:Int)*8))) 138,.map (.arr .u8 64) bF])) (.ite false (.ret [.own [.ptr 1 0,.s (.int .i64 3),.ints .u64 16 cD,.ints .u64 16 cK,.ints .u64 16 cM] 70,.own [.vec 2,.ag 3,.s (.int .i64 cw)] 96,.vec (.ad [.arr .u8 64] (cq ((4:Int)*8))) 138,.map (.arr .u8 64) bF] (.s (.aJ false))) (.at (.mk (sl 63 [(0,.s (.bool false)),(2,.ptr 0 0),(45,.s (.bool false)),(46,.ptr 0 0)]) [.own [.ptr 1 0,.s (.int .i64 3),.ints .u64 16 cD,.ints .u64 16 cK,.ints .u64 16 cM] 70,.own [.vec 2,.ag 3,.s (.int .i64 cw)] 96,.vec (.ad [.arr .u8 64] (cq ((4:Int)*8))) 138,.map (.arr .u8 64) bF] (wa Tryd.f8 2 40) (.mk none false 0 [] 2)))))):=by kernel_rfl
noncomputable def as4:bB:=bB.mk (sl 63 [(0,.s (.bool false)),(2,.ptr 0 0),(45,.s (.bool false)),(46,.ptr 0 0)]) [.own [.ptr 1 0,.s (.int .i64 3),.ints .u64 16 cD,.ints .u64 16 cK,.ints .u64 16 cM] 70,.own [.vec 2,.ag 3,.s (.int .i64 cw)] 96,.vec (.ad [.arr .u8 64] (cq ((4:Int)*8))) 138,.map (.arr .u8 64) bF] (wa Tryd.f8 2 40) (.mk none false 0 [] 2)
theorem as5:run (P) (lL.sum) (Tryd.f8) (sT) as4 ([])=
 Tree.ite false (.ret [.own [.ptr 1 0,.s (.int .i64 3),.ints .u64 16 cD,.ints .u64 16 cK,.ints .u64 16 cM] 70,.own [.vec 2,.ag 3,.s (.int .i64 cw)] 96,.vec (.ad [.arr .u8 64] (cq ((4:Int)*8))) 138,.map (.arr .u8 64) bF] (.s (.aJ false))) (.need (bJ (some [AV.ptr 0 0,.s (.str (ByteArray.mk #[(97:UInt8)])),.s (.str (ByteArray.mk #[(50:UInt8)]))])) (.need (bJ (some [ae.own [.ptr 1 0,.s (.int .i64 3),.ints .u64 16 cD,.ints .u64 16 cK,.ints .u64 16 cM] 70,.own [.vec 2,.ag 3,.s (.int .i64 cw)] 96,.vec (.ad [.arr .u8 64] (cq ((4:Int)*8))) 138,.map (.arr .u8 64) bF])) (.need (Ds.bU (cq ((4:Int)*8)) bF cw) (.need ((0:Int)≤3∧(3:Int)≤65536) (.ite false (.ret [.own [.ptr 1 0,.s (.int .i64 3),.ints .u64 16 cD,.ints .u64 16 cK,.ints .u64 16 cM] 70,.own [.vec 2,.ag 3,.s (.int .i64 cw)] 96,.vec (.ad [.arr .u8 64] (cq ((4:Int)*8))) 138,.map (.arr .u8 64) bF] (.s (.aJ false))) (.at (.mk (sl 63 [(0,.s (.bool false)),(2,.ptr 0 0),(50,.s (.bool false)),(51,.ptr 0 0)]) [.own [.ptr 1 0,.s (.int .i64 3),.ints .u64 16 cD,.ints .u64 16 cK,.ints .u64 16 cM] 70,.own [.vec 2,.ag 3,.s (.int .i64 cw)] 96,.vec (.ad [.arr .u8 64] (cq ((4:Int)*8))) 138,.map (.arr .u8 64) bF] (wa Tryd.f8 2 45) (.mk none false 0 [] 2)))))))):=by kernel_rfl
noncomputable def as6:bB:=bB.mk (sl 63 [(0,.s (.bool false)),(2,.ptr 0 0),(50,.s (.bool false)),(51,.ptr 0 0)]) [.own [.ptr 1 0,.s (.int .i64 3),.ints .u64 16 cD,.ints .u64 16 cK,.ints .u64 16 cM] 70,.own [.vec 2,.ag 3,.s (.int .i64 cw)] 96,.vec (.ad [.arr .u8 64] (cq ((4:Int)*8))) 138,.map (.arr .u8 64) bF] (wa Tryd.f8 2 45) (.mk none false 0 [] 2)
theorem as7:run (P) (lL.sum) (Tryd.f8) (sT) as6 ([])=
 Tree.ite false (.ret [.own [.ptr 1 0,.s (.int .i64 3),.ints .u64 16 cD,.ints .u64 16 cK,.ints .u64 16 cM] 70,.own [.vec 2,.ag 3,.s (.int .i64 cw)] 96,.vec (.ad [.arr .u8 64] (cq ((4:Int)*8))) 138,.map (.arr .u8 64) bF] (.s (.aJ false))) (.need (bJ (some [AV.ptr 0 0,.s (.str (ByteArray.mk #[(97:UInt8)]))])) (.need (bJ (some [ae.own [.ptr 1 0,.s (.int .i64 3),.ints .u64 16 cD,.ints .u64 16 cK,.ints .u64 16 cM] 70,.own [.vec 2,.ag 3,.s (.int .i64 cw)] 96,.vec (.ad [.arr .u8 64] (cq ((4:Int)*8))) 138,.map (.arr .u8 64) bF])) (.need (Ds.bU (cq ((4:Int)*8)) bF cw) (.need (Bx.okW cD) (.need ((0:Int)≤3∧(3:Int)≤65536) (.ite false (.ret [.own [.ptr 1 0,.s (.int .i64 0),.ints .u64 16 (op2 (cq ((4:Int)*8)) (ByteArray.mk #[(97:UInt8)]) none bF cw 3 cD cK cM),.ints .u64 16 (op3 (cq ((4:Int)*8)) (ByteArray.mk #[(97:UInt8)]) none bF cw 3 cD cK cM),.ints .u64 16 (op4 (cq ((4:Int)*8)) (ByteArray.mk #[(97:UInt8)]) none bF cw 3 cD cK cM)] 70,.own [.vec 2,.ag 3,.s (.int .i64 (op1 (cq ((4:Int)*8)) (ByteArray.mk #[(97:UInt8)]) none bF cw 3 cD cK cM))] 96,.vec (.ad [.arr .u8 64] (cq ((4:Int)*8))) 138,.map (.arr .u8 64) (op0 (cq ((4:Int)*8)) (ByteArray.mk #[(97:UInt8)]) none bF cw 3 cD cK cM)] (.s (.aJ false))) (.at (.mk (sl 63 [(0,.s (.bool false)),(2,.ptr 0 0),(55,.s (.bool false)),(56,.ptr 0 0)]) [.own [.ptr 1 0,.s (.int .i64 0),.ints .u64 16 (op2 (cq ((4:Int)*8)) (ByteArray.mk #[(97:UInt8)]) none bF cw 3 cD cK cM),.ints .u64 16 (op3 (cq ((4:Int)*8)) (ByteArray.mk #[(97:UInt8)]) none bF cw 3 cD cK cM),.ints .u64 16 (op4 (cq ((4:Int)*8)) (ByteArray.mk #[(97:UInt8)]) none bF cw 3 cD cK cM)] 70,.own [.vec 2,.ag 3,.s (.int .i64 (op1 (cq ((4:Int)*8)) (ByteArray.mk #[(97:UInt8)]) none bF cw 3 cD cK cM))] 96,.vec (.ad [.arr .u8 64] (cq ((4:Int)*8))) 138,.map (.arr .u8 64) (op0 (cq ((4:Int)*8)) (ByteArray.mk #[(97:UInt8)]) none bF cw 3 cD cK cM)] (wa Tryd.f8 2 50) (.mk none false 0 [] 2))))))))):=by kernel_rfl
noncomputable def im:Ws:=op2 (cq ((4:Int)*(8:Int))) (ByteArray.mk #[(97:UInt8)]) none bF cw (3:Int) cD cK cM
noncomputable def jb:Ws:=op3 (cq ((4:Int)*(8:Int))) (ByteArray.mk #[(97:UInt8)]) none bF cw (3:Int) cD cK cM
noncomputable def jc:Ws:=op4 (cq ((4:Int)*(8:Int))) (ByteArray.mk #[(97:UInt8)]) none bF cw (3:Int) cD cK cM
noncomputable def iq:Int:=op1 (cq ((4:Int)*(8:Int))) (ByteArray.mk #[(97:UInt8)]) none bF cw (3:Int) cD cK cM
noncomputable def ir:As:=op0 (cq ((4:Int)*(8:Int))) (ByteArray.mk #[(97:UInt8)]) none bF cw (3:Int) cD cK cM
noncomputable def aqx:bB:=bB.mk (sl 63 [(0,.s (.bool false)),(2,.ptr 0 0),(55,.s (.bool false)),(56,.ptr 0 0)]) [.own [.ptr 1 0,.s (.int .i64 0),.ints .u64 16 im,.ints .u64 16 jb,.ints .u64 16 jc] 70,.own [.vec 2,.ag 3,.s (.int .i64 iq)] 96,.vec (.ad [.arr .u8 64] (cq ((4:Int)*8))) 138,.map (.arr .u8 64) ir] (wa Tryd.f8 2 50) (.mk none false 0 [] 2)
theorem aqy:run (P) (lL.sum) (Tryd.f8) (sT) aqx ([])=
 Tree.ite false (.ret [.own [.ptr 1 0,.s (.int .i64 0),.ints .u64 16 im,.ints .u64 16 jb,.ints .u64 16 jc] 70,.own [.vec 2,.ag 3,.s (.int .i64 iq)] 96,.vec (.ad [.arr .u8 64] (cq ((4:Int)*8))) 138,.map (.arr .u8 64) ir] (.s (.aJ false))) (.need (bJ (some [AV.ptr 0 0])) (.need (bJ (some [ae.own [.ptr 1 0,.s (.int .i64 0),.ints .u64 16 im,.ints .u64 16 jb,.ints .u64 16 jc] 70,.own [.vec 2,.ag 3,.s (.int .i64 iq)] 96,.vec (.ad [.arr .u8 64] (cq ((4:Int)*8))) 138,.map (.arr .u8 64) ir])) (.ite false (.ret [.own [.ptr 1 0,.s (.int .i64 0),.ints .u64 16 im,.ints .u64 16 jb,.ints .u64 16 jc] 70,.own [.vec 2,.ag 3,.s (.int .i64 iq)] 96,.vec (.ad [.arr .u8 64] (cq ((4:Int)*8))) 138,.map (.arr .u8 64) ir] (.s (.aJ false))) (.at (.mk (sl 63 [(0,.s (.bool false)),(60,.ptr 0 0)]) [.own [.ptr 1 0,.s (.int .i64 0),.ints .u64 16 im,.ints .u64 16 jb,.ints .u64 16 jc] 70,.own [.vec 2,.ag 3,.s (.int .i64 iq)] 96,.vec (.ad [.arr .u8 64] (cq ((4:Int)*8))) 138,.map (.arr .u8 64) ir] (wa Tryd.f8 4 1) (.mk none false 0 [] 4)))))):=by kernel_rfl
noncomputable def aqz:bB:=bB.mk (sl 63 [(0,.s (.bool false)),(60,.ptr 0 0)]) [.own [.ptr 1 0,.s (.int .i64 0),.ints .u64 16 im,.ints .u64 16 jb,.ints .u64 16 jc] 70,.own [.vec 2,.ag 3,.s (.int .i64 iq)] 96,.vec (.ad [.arr .u8 64] (cq ((4:Int)*8))) 138,.map (.arr .u8 64) ir] (wa Tryd.f8 4 1) (.mk none false 0 [] 4)
theorem aqA:run (P) (lL.sum) (Tryd.f8) (sT) aqz ([])=
 Tree.need (bJ (some [AV.ptr 0 0,.s (.str ByteArray.empty),.s (.str (ByteArray.mk #[(120:UInt8)]))])) (.need (bJ (some [ae.own [.ptr 1 0,.s (.int .i64 0),.ints .u64 16 im,.ints .u64 16 jb,.ints .u64 16 jc] 70,.own [.vec 2,.ag 3,.s (.int .i64 iq)] 96,.vec (.ad [.arr .u8 64] (cq ((4:Int)*8))) 138,.map (.arr .u8 64) ir])) (.need (Ds.bU (cq ((4:Int)*8)) ir iq) (.need (Bx.okW im) (.need ((0:Int)≤0∧(0:Int)≤65536) (.ret [.own [.ptr 1 0,.s (.int .i64 0),.ints .u64 16 (op2 (cq ((4:Int)*8)) ByteArray.empty (some (ByteArray.mk #[(120:UInt8)])) ir iq 0 im jb jc),.ints .u64 16 (op3 (cq ((4:Int)*8)) ByteArray.empty (some (ByteArray.mk #[(120:UInt8)])) ir iq 0 im jb jc),.ints .u64 16 (op4 (cq ((4:Int)*8)) ByteArray.empty (some (ByteArray.mk #[(120:UInt8)])) ir iq 0 im jb jc)] 70,.own [.vec 2,.ag 3,.s (.int .i64 (op1 (cq ((4:Int)*8)) ByteArray.empty (some (ByteArray.mk #[(120:UInt8)])) ir iq 0 im jb jc))] 96,.vec (.ad [.arr .u8 64] (cq ((4:Int)*8))) 138,.map (.arr .u8 64) (op0 (cq ((4:Int)*8)) ByteArray.empty (some (ByteArray.mk #[(120:UInt8)])) ir iq 0 im jb jc)] (.s (.bool true))))))):=by kernel_rfl
def as8(ws:Ws):Bool:=ws.length.beq 16&&ws.all fun w=>decide (0≤w)&&decide (w<18446744073709551616)
theorem fv{ws:Ws}(h:as8 ws=true):Bx.okW ws:=by
 simp only[as8,Bool.and_eq_true,List.all_eq_true,decide_eq_true_eq]at h
 exact⟨Nat.eq_of_beq_eq_true h.1,fun w hw=>h.2 w hw⟩
theorem eM:lL.Ok P Bx.ct:=aH.Ok.cons (amS.sum mMd) (aH.Ok.cons (sw.sum mPt) (aH.Ok.cons (sC.sum mGt) (aH.Ok.cons (abZ.sum mHs) (aH.Ok.cons (afn.sum mT) (aH.Ok.cons (afo.sum mT) (aH.Ok.cons Bx.adt.sum aH.Ok.nil))))))
theorem akb:dd P Bx.ct 8 [] [cv] (fun _=>[]) (fun _=>(true,())):=by
 refine aq Tryd.func8 (by kernel_rfl) (by kernel_rfl) ?_
 rintro⟨⟩ _ _ X hX hz
 show Safe P 8 X (Ends [cv] (true,())) _
 refine Lf.go hz hX eM Tryd.func8 asP ?_
 refine iL ?_
 refine iL ?_
 refine eH (by first|exact Ds.fq (by kernel_rfl)|exact fv (by kernel_rfl)|decide|exact⟨by decide,by decide⟩) ?_
 refine rm ?_
 refine Lf.go hz hX eM Tryd.func8 asR ?_
 refine ke ?_
 refine iL ?_
 refine iL ?_
 refine eH (by first|exact Ds.fq (by kernel_rfl)|exact fv (by kernel_rfl)|decide|exact⟨by decide,by decide⟩) ?_
 refine eH (by first|exact Ds.fq (by kernel_rfl)|exact fv (by kernel_rfl)|decide|exact⟨by decide,by decide⟩) ?_
 refine eH (by first|exact Ds.fq (by kernel_rfl)|exact fv (by kernel_rfl)|decide|exact⟨by decide,by decide⟩) ?_
 refine ke ?_
 refine rm ?_
 refine Lf.go hz hX eM Tryd.func8 asT ?_
 refine ke ?_
 refine iL ?_
 refine iL ?_
 refine ke ?_
 refine rm ?_
 refine Lf.go hz hX eM Tryd.func8 asV ?_
 refine ke ?_
 refine iL ?_
 refine iL ?_
 refine eH (by first|exact Ds.fq (by kernel_rfl)|exact fv (by kernel_rfl)|decide|exact⟨by decide,by decide⟩) ?_
 refine eH (by first|exact Ds.fq (by kernel_rfl)|exact fv (by kernel_rfl)|decide|exact⟨by decide,by decide⟩) ?_
 refine ke ?_
 refine rm ?_
 refine Lf.go hz hX eM Tryd.func8 asX ?_
 refine ke ?_
 refine iL ?_
 refine iL ?_
 refine eH (by first|exact Ds.fq (by kernel_rfl)|exact fv (by kernel_rfl)|decide|exact⟨by decide,by decide⟩) ?_
 refine eH (by first|exact Ds.fq (by kernel_rfl)|exact fv (by kernel_rfl)|decide|exact⟨by decide,by decide⟩) ?_
 refine eH (by first|exact Ds.fq (by kernel_rfl)|exact fv (by kernel_rfl)|decide|exact⟨by decide,by decide⟩) ?_
 refine ke ?_
 refine rm ?_
 refine Lf.go hz hX eM Tryd.func8 asZ ?_
 refine ke ?_
 refine iL ?_
 refine iL ?_
 refine ke ?_
 refine rm ?_
 refine Lf.go hz hX eM Tryd.func8 as1 ?_
 refine ke ?_
 refine iL ?_
 refine iL ?_
 refine ke ?_
 refine rm ?_
 refine Lf.go hz hX eM Tryd.func8 as3 ?_
 refine ke ?_
 refine iL ?_
 refine iL ?_
 refine ke ?_
 refine rm ?_
 refine Lf.go hz hX eM Tryd.func8 as5 ?_
 refine ke ?_
 refine iL ?_
 refine iL ?_
 refine eH (by first|exact Ds.fq (by kernel_rfl)|exact fv (by kernel_rfl)|decide|exact⟨by decide,by decide⟩) ?_
 refine eH (by first|exact Ds.fq (by kernel_rfl)|exact fv (by kernel_rfl)|decide|exact⟨by decide,by decide⟩) ?_
 refine ke ?_
 refine rm ?_
 refine Lf.go hz hX eM Tryd.func8 as7 ?_
 refine ke ?_
 refine iL ?_
 refine iL ?_
 refine eH (by first|exact Ds.fq (by kernel_rfl)|exact fv (by kernel_rfl)|decide|exact⟨by decide,by decide⟩) ?_
 refine eH (by first|exact Ds.fq (by kernel_rfl)|exact fv (by kernel_rfl)|decide|exact⟨by decide,by decide⟩) ?_
 refine eH (by first|exact Ds.fq (by kernel_rfl)|exact fv (by kernel_rfl)|decide|exact⟨by decide,by decide⟩) ?_
 refine ke ?_
 refine rm ?_
 refine Lf.go hz hX eM Tryd.func8 aqy ?_
 refine ke ?_
 refine iL ?_
 refine iL ?_
 refine ke ?_
 refine rm ?_
 refine Lf.go hz hX eM Tryd.func8 aqA ?_
 refine iL ?_
 refine iL ?_
 refine eH (by first|exact Ds.fq (by kernel_rfl)|exact fv (by kernel_rfl)|decide|exact⟨by decide,by decide⟩) ?_
 refine eH (by first|exact Ds.fq (by kernel_rfl)|exact fv (by kernel_rfl)|decide|exact⟨by decide,by decide⟩) ?_
 refine eH (by first|exact Ds.fq (by kernel_rfl)|exact fv (by kernel_rfl)|decide|exact⟨by decide,by decide⟩) ?_
 refine aik ?_
 exact aQ (true,()) rfl (by kernel_rfl)
abbrev auK:=bS [] [cv] (fun _=>[]) (fun _=>(true,()))
end Ts
namespace Ts
open Go Go.Sx Go.Proofs Lf
abbrev mi:List CK:=[.int .u8,.str,.str]
abbrev sF(x:CL mi):Int:=x.1
abbrev sU(x:CL mi):ByteArray:=x.2.1
abbrev sG(x:CL mi):ByteArray:=x.2.2.1
abbrev kz(l:List (CL mi)):AV:=.s (.ro (.ad mi l))
def akc:List (Nat×Norm):=[(3,⟨[],[0,3,4],0,[]⟩),(6,⟨[],[0,3],0,[]⟩)]
noncomputable def cLg(l:List (CL mi))(i:Int):bB:=⟨sl 38 [(0,kz l),(3,.s (.nZ .i64)),(4,bO i)],[],hd Tryd.f9 3,{}⟩
noncomputable def as9(l:List (CL mi)):bB:=⟨sl 38 [(0,kz l),(3,.s (.nZ .i64))],[],hr Tryd.f9 6,{}⟩
theorem aqB(l:List (CL mi)):run P (aH.sum []) Tryd.f9 akc (start Tryd.f9 [kz l] [])=
 Tree.at (.mk (sl 38 [(0,.s (.ro (.ad mi l))),(3,.s (.int .i64 0)),(4,.s (.int .i64 0))]) [] (hd Tryd.f9 3) (.mk none false 0 [] 0)):=by kernel_rfl
theorem akd(l:List (CL mi))(i:Int):run P (aH.sum []) Tryd.f9 akc (cLg l i)=
 Tree.ite (decide (i<(↑l.length:Int))) (.both ((0:Nat)=0) True (.need ((0:Int)≤i) (.need (i<(↑l.length:Int)) (.need ((0:Int)≤i) (.need (i<(↑l.length:Int)) (.need (aD (i+1)) (.at (.mk (sl 38 [(0,.s (.ro (.ad mi l))),(3,.s (.nZ .i64)),(4,.s (.int .i64 (i+1)))]) [] (hd Tryd.f9 3) (.mk none false 0 [] 0)))))))) (.at (.mk (sl 38 [(0,.s (.ro (.ad mi l))),(3,.s (.nZ .i64))]) [] (hr Tryd.f9 6) (.mk none false 0 [] 0)))) (.at (.mk (sl 38 [(0,.s (.ro (.ad mi l))),(3,.s (.nZ .i64))]) [] (hr Tryd.f9 6) (.mk none false 0 [] 0))):=by kernel_rfl
theorem amT(l:List (CL mi)):run P (aH.sum []) Tryd.f9 akc (as9 l)=
 Tree.both ((0:Nat)=0) True (.ret [] (.s (.aJ true))) (.ret [] (.s (.bool (decide ((↑l.length:Int)>90))))):=by kernel_rfl
abbrev sLg:Spec (List (CL mi)):=⟨fun l=>[kz l],fun _=>[],fun l=>[l.length≤9223372036854775807],fun _=>[],fun l=>.s (.ka (l.length - 90) false)⟩
def lM(p:Int):Int:=4*(3+IntKind.i64.wrap ((IntKind.u64.wrap p).tmod 248))
theorem auL(p:Int):run P (aH.sum []) Tryd.f17 [] (start Tryd.f17 [bO p] [])=
 Tree.need ((248:Int)≠(0:Int)) (Tree.need (aD ((3:Int)+IntKind.i64.wrap ((IntKind.u64.wrap p).tmod (248:Int)))) (Tree.need (aD ((4:Int)*((3:Int)+IntKind.i64.wrap ((IntKind.u64.wrap p).tmod (248:Int))))) (Tree.ret [] (AV.s (SV.int IntKind.i64 ((4:Int)*((3:Int)+IntKind.i64.wrap ((IntKind.u64.wrap p).tmod (248:Int))))))))):=by kernel_rfl
theorem auM(n:Int):run P (aH.sum []) Tryd.f31 [] (start Tryd.f31 [bO n] [])=
 Tree.ite (decide (n<1)) (.ret [] (.bp [.s .mw,.s (.aW .i64 1)])) (.ite (decide (n>4096)) (.ret [] (.bp [.s .mw,.s (.aW .i64 1)])) (.need ((0:Int)≤n) (.need (n≤n) (.need (n≤1073741824) (.ret [.vec (.ad [.arr .u8 64] (List.replicate n.toNat (CL.d [.arr .u8 64]))) 138,.map (.arr .u8 64) [],.own [.vec 0,.ag 1,.s (.aW .i64 (-1))] 96] (.bp [.ptr 2 0,.s (.aW .i64 0)])))))):=by kernel_rfl
abbrev sNw:Spec Int:=⟨fun n=>[bO n],fun _=>[],fun n=>[1≤n∧n≤4096],fun n=>Ds.hD (cq n) [] (-1),fun _=>.bp [.ptr 0 0,bO 0]⟩
def stOp(k:Int)(v:ByteArray):Option ByteArray:=if k=2 then none else some v
def do0(th:Th)(k:Int)(key val:ByteArray)(m:As)(fu root:Int)(fr fs gn:Ws):As:=(wR th key (stOp k val) m fu root fr fs gn).1
def do1(th:Th)(k:Int)(key val:ByteArray)(m:As)(fu root:Int)(fr fs gn:Ws):Int:=(wR th key (stOp k val) m fu root fr fs gn).2.1
def doR(th:Th)(k:Int)(key val:ByteArray)(m:As)(fu root:Int)(fr fs gn:Ws):Int:=(wR th key (stOp k val) m fu root fr fs gn).2.2.1
def do2(th:Th)(k:Int)(key val:ByteArray)(m:As)(fu root:Int)(fr fs gn:Ws):Ws:=(wR th key (stOp k val) m fu root fr fs gn).2.2.2.1
def do3(th:Th)(k:Int)(key val:ByteArray)(m:As)(fu root:Int)(fr fs gn:Ws):Ws:=(wR th key (stOp k val) m fu root fr fs gn).2.2.2.2.1
def do4(th:Th)(k:Int)(key val:ByteArray)(m:As)(fu root:Int)(fr fs gn:Ws):Ws:=(wR th key (stOp k val) m fu root fr fs gn).2.2.2.2.2.1
def doX(th:Th)(k:Int)(key val:ByteArray)(m:As)(fu root:Int)(fr fs gn:Ws):Int:=(wR th key (stOp k val) m fu root fr fs gn).2.2.2.2.2.2
abbrev XS:Type:=XT×Int×ByteArray×ByteArray
abbrev sDo:Spec XS:=⟨fun(_,k,key,val)=>[.agg [.s (.int .u8 k),.s (.str key),.s (.str val)],.ptr 0 0],fun((th,m,fu,root,fr,fs,gn),_)=>hT th m fu root fr fs gn,fun((th,m,fu,root,fr,_,_),_)=>aqt th m fu root fr,
 fun((th,m,fu,root,fr,fs,gn),k,key,val)=>hT th (do0 th k key val m fu root fr fs gn) (do1 th k key val m fu root fr fs gn) (doR th k key val m fu root fr fs gn) (do2 th k key val m fu root fr fs gn) (do3 th k key val m fu root fr fs gn) (do4 th k key val m fu root fr fs gn),
 fun((th,m,fu,root,fr,fs,gn),k,key,val)=>bO (doX th k key val m fu root fr fs gn)⟩
def ata:aH:=[(24,aj9),(25,aka)]
theorem auN(th:Th)(m:As)(fu root:Int)(fr fs gn:Ws)(k:Int)(key val:ByteArray):run P ata.sum Tryd.f14 [] (start Tryd.f14 [.agg [.s (.int .u8 k),.s (.str key),.s (.str val)],.ptr 0 0] (hT th m fu root fr fs gn))=
 Tree.ite (k==2) (.need (bJ (some [AV.ptr 0 0,.s (.str key)])) (.need (bJ (some [ae.own [.ptr 1 0,.s (.int .i64 root),.ints .u64 16 fr,.ints .u64 16 fs,.ints .u64 16 gn] 70,.own [.vec 2,.ag 3,.s (.int .i64 fu)] 96,.vec (.ad [.arr .u8 64] th) 138,.map (.arr .u8 64) m])) (.need (Ds.bU th m fu) (.need (Bx.okW fr) (.need ((0:Int)≤root∧root≤65536) (.ret [.own [.ptr 1 0,.s (.int .i64 (v7 th key none m fu root fr fs gn)),.ints .u64 16 (op2 th key none m fu root fr fs gn),.ints .u64 16 (op3 th key none m fu root fr fs gn),.ints .u64 16 (op4 th key none m fu root fr fs gn)] 70,.own [.vec 2,.ag 3,.s (.int .i64 (op1 th key none m fu root fr fs gn))] 96,.vec (.ad [.arr .u8 64] th) 138,.map (.arr .u8 64) (op0 th key none m fu root fr fs gn),.own [.s (.int .u8 k),.s (.str key),.s (.str val)] 32] (.s (.int .i64 (opE th key none m fu root fr fs gn))))))))) (.need (bJ (some [AV.ptr 0 0,.s (.str key),.s (.str val)])) (.need (bJ (some [ae.own [.ptr 1 0,.s (.int .i64 root),.ints .u64 16 fr,.ints .u64 16 fs,.ints .u64 16 gn] 70,.own [.vec 2,.ag 3,.s (.int .i64 fu)] 96,.vec (.ad [.arr .u8 64] th) 138,.map (.arr .u8 64) m])) (.need (Ds.bU th m fu) (.need (Bx.okW fr) (.need ((0:Int)≤root∧root≤65536) (.ret [.own [.ptr 1 0,.s (.int .i64 (v7 th key (some val) m fu root fr fs gn)),.ints .u64 16 (op2 th key (some val) m fu root fr fs gn),.ints .u64 16 (op3 th key (some val) m fu root fr fs gn),.ints .u64 16 (op4 th key (some val) m fu root fr fs gn)] 70,.own [.vec 2,.ag 3,.s (.int .i64 (op1 th key (some val) m fu root fr fs gn))] 96,.vec (.ad [.arr .u8 64] th) 138,.map (.arr .u8 64) (op0 th key (some val) m fu root fr fs gn),.own [.s (.int .u8 k),.s (.str key),.s (.str val)] 32] (.s (.int .i64 (opE th key (some val) m fu root fr fs gn))))))))):=by kernel_rfl
def atb:List (Nat×Norm):=[(3,⟨[],[0,1,2,7,8],0,[]⟩)]
noncomputable def cIs(l qK:List En)(from_:ByteArray)(n i:Int):bB:=⟨sl 43 [(0,.s (.ro (.ad cE l))),(1,.s (.ro (.ad cE qK))),(2,.s (.str from_)),(7,bO n),(8,bO i)],[],hd Tryd.f13 3,{}⟩
theorem auO(l qK:List En)(from_:ByteArray):run P (aH.sum []) Tryd.f13 atb (start Tryd.f13 [.s (.ro (.ad cE l)),.s (.ro (.ad cE qK)),.s (.str from_)] [])=
 Tree.at (.mk (sl 43 [(0,.s (.ro (.ad [.str,.str] l))),(1,.s (.ro (.ad [.str,.str] qK))),(2,.s (.str from_)),(7,.s (.int .i64 0)),(8,.s (.int .i64 0))]) [] (hd Tryd.f13 3) (.mk none false 0 [] 0)):=by kernel_rfl
theorem atc(l qK:List En)(from_:ByteArray)(n i:Int):run P (aH.sum []) Tryd.f13 atb (cIs l qK from_ n i)=
 Tree.ite (decide (i<(↑l.length:Int))) (.need ((0:Int)≤i) (.need (i<(↑l.length:Int)) (.ite (slt (l.getD i.toNat (CL.d [.str,.str])).fst from_) (.need (aD (i+1)) (.at (.mk (sl 43 [(0,.s (.ro (.ad [.str,.str] l))),(1,.s (.ro (.ad [.str,.str] qK))),(2,.s (.str from_)),(7,.s (.int .i64 n)),(8,.s (.int .i64 (i+1)))]) [] (hd Tryd.f13 3) (.mk none false 0 [] 0)))) (.ite (decide (n≥(↑qK.length:Int))) (.ret [] (.s (.aJ false))) (.need ((0:Int)≤n) (.need (n<(↑qK.length:Int)) (.need ((0:Int)≤i) (.need (i<(↑l.length:Int)) (.ite (!(decide ((qK.getD n.toNat (CL.d [.str,.str])).fst=(l.getD i.toNat (CL.d [.str,.str])).fst)&&(decide ((qK.getD n.toNat (CL.d [.str,.str])).snd.fst=(l.getD i.toNat (CL.d [.str,.str])).snd.fst)&&true))) (.ret [] (.s (.aJ false))) (.need (aD (n+1)) (.need (aD (i+1)) (.at (.mk (sl 43 [(0,.s (.ro (.ad [.str,.str] l))),(1,.s (.ro (.ad [.str,.str] qK))),(2,.s (.str from_)),(7,.s (.int .i64 (n+1))),(8,.s (.int .i64 (i+1)))]) [] (hd Tryd.f13 3) (.mk none false 0 [] 0)))))))))))))) (.ret [] (.s (.bool (n==(↑qK.length:Int))))):=by kernel_rfl
theorem atd{Z:aX}:jU P Z 9 sLg:=by
 refine qk Tryd.func9 (by kernel_rfl) (fun x=>Nat.le_of_ble_eq_true (by kernel_rfl)) ?_
 rintro(l:List (CL mi)) ⟨(hl:l.length≤9223372036854775807),_⟩ X hX hz
 have hns:∀x∈akc,(sLg.heap l).length≤x.2.m:=by intro y hy;simp[akc]at hy;rcases hy with rfl|rfl<;>exact Nat.le_refl _
 have fin:Safe P 9 X (air sLg l) (as9 l):=by
  refine Ds.eV hz hX hns aH.Ok.nil Tryd.func9 (amT l) ⟨fun _=> ?_,fun _=> ?_⟩
  ·exact⟨⟨[],[0],0,[]⟩,.s (.bool true),Nat.le_refl _,by kernel_rfl,fun ρ H O w v hv=>by
    have:=ah (by simp) hv
    cases this
    exact au (.ka _ _ _ (fun h=>by cases h))⟩
  ·exact⟨⟨[],[0],0,[]⟩,.s (.bool (decide ((l.length:Int)>90))),Nat.le_refl _,by kernel_rfl,fun ρ H O w v hv=>by
    have:=ah (by simp) hv
    cases this
    exact au (.ka _ _ _ (fun h=>by have:=of_decide_eq_false h;omega))⟩
 have loop:∀(j k:Nat),k+j=l.length→Safe P 9 X (air sLg l) (cLg l (k:Int)):=by
  intro j
  induction j with
  |zero=>
   intro k hk
   exact Ds.eV hz hX hns aH.Ok.nil Tryd.func9 (akd l k) ⟨fun h=>absurd (of_decide_eq_true h) (by omega),fun _=>fin⟩
  |succ j ih=>
   intro k hk
   exact Ds.eV hz hX hns aH.Ok.nil Tryd.func9 (akd l k) ⟨fun _=>⟨fun _=>⟨by omega,by omega,by omega,by omega,⟨by omega,by omega⟩,ih (k+1) (by omega)⟩,fun _=>fin⟩,fun _=>fin⟩
 refine Ds.eV hz hX hns aH.Ok.nil Tryd.func9 (aqB l) ?_
 exact aaV (t:=3) (k:=.i64) (n:=0) rfl (loop l.length 0 (by omega))
theorem yb(p:Int):12≤lM p∧lM p≤1000∧lM p=4*(3+(IntKind.u64.wrap p)%248):=by
 have h0:0≤IntKind.u64.wrap p:=by show 0≤p%18446744073709551616;omega
 have e:(IntKind.u64.wrap p).tmod 248=(IntKind.u64.wrap p)%248:=Int.tmod_eq_emod_of_nonneg h0
 have e2:IntKind.i64.wrap ((IntKind.u64.wrap p)%248)=(IntKind.u64.wrap p)%248:=bV ⟨by omega,by omega⟩
 unfold lM
 rw[e,e2]
 exact⟨by omega,by omega,rfl⟩
theorem aqC{Z:aX}:dd P Z 17 [bm] [bm] (fun _=>[]) (fun(p,())=>(lM p,())):=by
 refine aq Tryd.func17 (by kernel_rfl) (by kernel_rfl) ?_
 rintro⟨(p:Int),⟨⟩⟩ _ _ X hX hz
 have:=yb p
 unfold lM at this
 exact Lf.go hz hX aH.Ok.nil Tryd.func17 (auL p) ⟨by omega,inI (by omega) (by omega),inI (by omega) (by omega),uN⟩
theorem aqD{Z:aX}:jU P Z 31 sNw:=by
 refine aO Tryd.func31 (by kernel_rfl) (fun x=>Nat.le_of_ble_eq_true (by kernel_rfl)) ?_
 rintro(n:Int) ⟨(hn:1≤n∧n≤4096),_⟩ X hX hz
 refine Ds.eV hz hX (by intro y hy;cases hy) aH.Ok.nil Tryd.func31 (auM n) ⟨fun h=> ?_,fun h=>⟨fun h2=> ?_,fun h2=>⟨by omega,by omega,by omega,b9 0 rfl (Nat.le_refl _) rfl rfl⟩⟩⟩
 ·have:=of_decide_eq_true h;omega
 ·have:=of_decide_eq_true h2;omega
theorem aoq{th:Th}{m:As}{fu root:Int}{fr fs gn:Ws}{k:Int}{key val:ByteArray}{op:Option ByteArray}(e:stOp k val=op):
 sDo.fC ((th,m,fu,root,fr,fs,gn),k,key,val)=hT th (op0 th key op m fu root fr fs gn) (op1 th key op m fu root fr fs gn) (v7 th key op m fu root fr fs gn) (op2 th key op m fu root fr fs gn) (op3 th key op m fu root fr fs gn) (op4 th key op m fu root fr fs gn)∧
 sDo.out ((th,m,fu,root,fr,fs,gn),k,key,val)=bO (opE th key op m fu root fr fs gn):=by
 subst e;exact⟨rfl,rfl⟩
theorem ate:jU P Bx.ct 14 sDo:=by
 refine aO Tryd.func14 (by kernel_rfl) (fun x=>Nat.le_of_ble_eq_true (by kernel_rfl)) ?_
 rintro⟨⟨(th:Th),(m:As),(fu:Int),(root:Int),(fr:Ws),(fs:Ws),(gn:Ws)⟩,(k:Int),(key:ByteArray),(val:ByteArray)⟩ ⟨(hd:Ds.bU th m fu),(hf:Bx.okW fr),(hr:0≤root∧root≤65536),_⟩ X hX hz
 refine Ds.eV hz hX (by intro y hy;cases hy) (aH.Ok.cons (sw.sum mPt) (aH.Ok.cons (sC.sum mGt) aH.Ok.nil)) Tryd.func14 (auN th m fu root fr fs gn k key val) ⟨fun h=>⟨rfl,rfl,hd,hf,hr, ?_⟩,fun h=>⟨rfl,rfl,hd,hf,hr, ?_⟩⟩
 ·obtain⟨f1,f2⟩:=aoq (th:=th) (m:=m) (fu:=fu) (root:=root) (fr:=fr) (fs:=fs) (gn:=gn) (key:=key) (show stOp k val=none from if_pos (by simpa using h))
  exact b9 4 rfl (Nat.le_refl _) f2 f1
 ·obtain⟨f1,f2⟩:=aoq (th:=th) (m:=m) (fu:=fu) (root:=root) (fr:=fr) (fs:=fs) (gn:=gn) (key:=key) (show stOp k val=some val from if_neg (by simpa using h))
  exact b9 4 rfl (Nat.le_refl _) f2 f1
theorem atf{Z:aX}:dd P Z 13 [n9,n9,dL] [cv] (fun(l,qK,from_,())=>[(qK:List En)=List.filter (oF from_) l,(l:List En).length≤100000]) (fun _=>(true,())):=by
 refine aq Tryd.func13 (by kernel_rfl) (by kernel_rfl) ?_
 rintro⟨(l:List En),(qK:List En),(from_:ByteArray),⟨⟩⟩ _ ⟨(hg:qK=l.filter (oF from_)),(hl:l.length≤100000),_⟩ X hX hz
 show Safe P 13 X (Ends [cv] (true,())) _
 have split:∀k,qK=(l.take k).filter (oF from_)++(l.drop k).filter (oF from_):=fun k=>by rw[hg,←List.filter_append,List.take_append_drop]
 have loop:∀(j k:Nat),k+j=l.length→Safe P 13 X (Ends [cv] (true,())) (cIs l qK from_ (((l.take k).filter (oF from_)).length:Int) (k:Int)):=by
  intro j
  induction j with
  |zero=>
   intro k hk
   refine Lf.go hz hX aH.Ok.nil Tryd.func13 (atc l qK from_ _ k) ⟨fun h=>absurd (of_decide_eq_true h) (by omega),fun _=> ?_⟩
   have e:((((l.take k).filter (oF from_)).length:Int)==(qK.length:Int))=true:=by
    rw[List.take_of_length_le (by omega),←hg];simp
   rw[e]
   exact y9
  |succ j ih=>
   intro k hk
   have s1:=sD (p:=oF from_) (l:=l) (k:=k) (d:=dE) (by omega)
   have s2:=split k
   rw[drop_cons dE (by omega)]at s2
   have hle:=filter_le (oF from_) (l.take k)
   rw[List.length_take]at hle
   have hlg:=congrArg List.length s2
   refine Lf.go hz hX aH.Ok.nil Tryd.func13 (atc l qK from_ _ k) ⟨fun _=>⟨by omega,by omega,fun h2=>⟨⟨by omega,by omega⟩, ?_⟩,fun h2=> ?_⟩,fun h=>absurd (of_decide_eq_false h) (by omega)⟩
   ·have h2:slt (l.getD k dE).1 from_=true:=h2
    rw[if_neg (by unfold oF;rw[h2];simp),List.append_nil]at s1
    have:=ih (k+1) (by omega)
    rw[s1]at this
    exact this
   ·have h2:slt (l.getD k dE).1 from_=false:=h2
    have hge:oF from_ (l.getD k dE)=true:=by unfold oF;rw[h2];rfl
    rw[List.filter_cons_of_pos hge]at s2 hlg
    rw[List.length_append,List.length_cons]at hlg
    rw[if_pos hge]at s1
    have hat:qK.getD ((l.take k).filter (oF from_)).length dE=l.getD k dE:=by
     rw[s2,List.getD,List.getElem?_append_right (Nat.le_refl _),Nat.sub_self];rfl
    refine⟨fun h3=>absurd (of_decide_eq_true h3) (by omega),fun _=>⟨by omega,by omega,by omega,by omega,fun h4=> ?_,fun _=>⟨⟨by omega,by omega⟩,⟨by omega,by omega⟩, ?_⟩⟩⟩
    ·exfalso
     have h4:(!(decide ((qK.getD ((l.take k).filter (oF from_)).length dE).1=(l.getD k dE).1)&&(decide ((qK.getD ((l.take k).filter (oF from_)).length dE).2.1=(l.getD k dE).2.1)&&true)))=true:=h4
     rw[hat,decide_eq_true rfl,decide_eq_true rfl]at h4
     cases h4
    ·have:=ih (k+1) (by omega)
     rw[s1,List.length_append]at this
     exact this
 exact Lf.go hz hX aH.Ok.nil Tryd.func13 (auO l qK from_) (loop l.length 0 (by omega))
end Ts
namespace Ts
open Go Go.Sx Go.Proofs Lf
def sS(th:Th)(s:S5)(l:Bool)(es:List En)(bs:List Br):S5:=
 ⟨(bo th s.m s.fu s.fr s.fs l es bs).1,(bo th s.m s.fu s.fr s.fs l es bs).2.1,(bo th s.m s.fu s.fr s.fs l es bs).2.2.1,(bo th s.m s.fu s.fr s.fs l es bs).2.2.2.1,s.gn⟩
def sL(th:Th)(s:S5)(l:Bool)(es:List En)(bs:List Br):List Br:=(bo th s.m s.fu s.fr s.fs l es bs).2.2.2.2.1
def sE(th:Th)(s:S5)(l:Bool)(es:List En)(bs:List Br):Int:=(bo th s.m s.fu s.fr s.fs l es bs).2.2.2.2.2
def Bad(th:Th)(s t:S5)(k:Nat)(e:Int):Prop:=∃N,qC th s t N []∧N.length≤k∧((e=41∧∀p,In s.fr p→p∈N)∨(e=42∧t.fu=0))
theorem nz(bs:List Br):aa (aa bs)=aa bs:=by cases bs<;>rfl
theorem adN{bs:List Br}{k:Nat}(h:aa bs=bs):aa (bs.take k)=bs.take k:=by
 cases bs with
 |nil=>simp[aa]
 |cons b r=>
  cases k with
  |zero=>rfl
  |succ k=>
   simp only[aa,List.cons.injEq]at h
   simp[aa,h.1]
theorem zL{th:Th}{s:S5}{l:Bool}{es:List En}{bs:List Br}(ho:xt th s)(hm:c9 l es (aa bs)=true)(hz:bg es (aa bs)≤254):
 (wE th s l es bs=0∧∃n,qC th s (wS th s l es bs) [n] []∧wB th s l es bs=(cV l es bs,n,())∧Rd th (wS th s l es bs).m n l es (aa bs))∨(wE th s l es bs≠0∧Bad th s (wS th s l es bs) 0 (wE th s l es bs)):=by
 rcases aqm ho hm hz with h|⟨h1,h2,h3⟩|⟨h1,h2,h3⟩
 ·exact .inl h
 ·exact .inr ⟨by rw[h1];decide,[],by rw[h2];exact gO ho,Nat.le_refl _,.inl ⟨h1,fun p hp=>absurd hp (h3 p)⟩⟩
 ·exact .inr ⟨by rw[h1];decide,[],h2,Nat.le_refl _,.inr ⟨h1,h3⟩⟩
theorem afp{th:Th}{s:S5}{l:Bool}{es:List En}{bs:List Br}(ho:xt th s)(h:es.length+bs.length=0):sE th s l es bs=0∧sL th s l es bs=[]∧qC th s (sS th s l es bs) [] []:=by
 have e:bo th s.m s.fu s.fr s.fs l es bs=(s.m,s.fu,s.fr,s.fs,[],0):=by unfold bo;rw[if_pos h]
 refine⟨by unfold sE;rw[e],by unfold sL;rw[e], ?_⟩
 have:sS th s l es bs=s:=by unfold sS;rw[e]
 rw[this];exact gO ho
theorem ake{th:Th}{s:S5}{l:Bool}{es:List En}{bs:List Br}(ho:xt th s)(h:0<es.length+bs.length)(hm:c9 l es (aa bs)=true)(hz:bg es (aa bs)≤254):
 (sE th s l es bs=0∧∃n,qC th s (sS th s l es bs) [n] []∧sL th s l es bs=[(cV l es (aa bs),n,())]∧Rd th (sS th s l es bs).m n l es (aa bs))∨(sE th s l es bs≠0∧Bad th s (sS th s l es bs) 1 (sE th s l es bs)):=by
 have e1:sE th s l es bs=wE th s l es (aa bs):=by unfold sE wE bo;rw[if_neg (by omega),if_pos hz]
 have e2:sS th s l es bs=wS th s l es (aa bs):=by unfold sS wS bo;rw[if_neg (by omega),if_pos hz]
 have e3:sL th s l es bs=[wB th s l es (aa bs)]:=by unfold sL wB bo;rw[if_neg (by omega),if_pos hz]
 rw[e1,e2,e3]
 have:=zL (bs:=aa bs) ho (by rw[nz];exact hm) (by rw[nz];exact hz)
 rw[nz]at this
 rcases this with⟨a,n,b,c,d⟩|⟨a,N,b,c,d⟩
 ·exact .inl ⟨a,n,b,by rw[c],d⟩
 ·exact .inr ⟨a,N,b,Nat.le_succ_of_le c,d⟩
theorem akf{th:Th}{s:S5}{l:Bool}{es:List En}{bs:List Br}(ho:xt th s)(h:0<es.length+bs.length)(hz:¬bg es (aa bs)≤254)(ok:dz l es (aa bs)=true)
 (z1:bg (aZ l es (aa bs)) (aa (bc l es (aa bs)))≤254) (z2:bg (cP l es (aa bs)) (aa (cW l es (aa bs)))≤254)
 (m1:c9 (bK l es (aa bs)) (aZ l es (aa bs)) (aa (bc l es (aa bs)))=true) (m2:c9 (bK l es (aa bs)) (cP l es (aa bs)) (aa (cW l es (aa bs)))=true):
 (sE th s l es bs=0∧∃a b,qC th s (sS th s l es bs) [a,b] []∧sL th s l es bs=[(cV (bK l es (aa bs)) (aZ l es (aa bs)) (bc l es (aa bs)),a,()),(cV (bK l es (aa bs)) (cP l es (aa bs)) (cW l es (aa bs)),b,())]∧
   Rd th (sS th s l es bs).m a (bK l es (aa bs)) (aZ l es (aa bs)) (aa (bc l es (aa bs)))∧Rd th (sS th s l es bs).m b (bK l es (aa bs)) (cP l es (aa bs)) (aa (cW l es (aa bs))))∨(sE th s l es bs≠0∧Bad th s (sS th s l es bs) 1 (sE th s l es bs)):=by
 have zR:¬spC l es (aa bs)≠0:=by unfold spC;rw[if_pos ok];simp
 have ed:bo th s.m s.fu s.fr s.fs l es bs=if wE th s (bK l es (aa bs)) (aZ l es (aa bs)) (bc l es (aa bs))≠0 then
  ((wS th s (bK l es (aa bs)) (aZ l es (aa bs)) (bc l es (aa bs))).m,(wS th s (bK l es (aa bs)) (aZ l es (aa bs)) (bc l es (aa bs))).fu,(wS th s (bK l es (aa bs)) (aZ l es (aa bs)) (bc l es (aa bs))).fr,(wS th s (bK l es (aa bs)) (aZ l es (aa bs)) (bc l es (aa bs))).fs,[],wE th s (bK l es (aa bs)) (aZ l es (aa bs)) (bc l es (aa bs)))
  else((wS th (wS th s (bK l es (aa bs)) (aZ l es (aa bs)) (bc l es (aa bs))) (bK l es (aa bs)) (cP l es (aa bs)) (cW l es (aa bs))).m,(wS th (wS th s (bK l es (aa bs)) (aZ l es (aa bs)) (bc l es (aa bs))) (bK l es (aa bs)) (cP l es (aa bs)) (cW l es (aa bs))).fu,
   (wS th (wS th s (bK l es (aa bs)) (aZ l es (aa bs)) (bc l es (aa bs))) (bK l es (aa bs)) (cP l es (aa bs)) (cW l es (aa bs))).fr,(wS th (wS th s (bK l es (aa bs)) (aZ l es (aa bs)) (bc l es (aa bs))) (bK l es (aa bs)) (cP l es (aa bs)) (cW l es (aa bs))).fs,
   [wB th s (bK l es (aa bs)) (aZ l es (aa bs)) (bc l es (aa bs)),wB th (wS th s (bK l es (aa bs)) (aZ l es (aa bs)) (bc l es (aa bs))) (bK l es (aa bs)) (cP l es (aa bs)) (cW l es (aa bs))],wE th (wS th s (bK l es (aa bs)) (aZ l es (aa bs)) (bc l es (aa bs))) (bK l es (aa bs)) (cP l es (aa bs)) (cW l es (aa bs))):=by
  unfold bo
  rw[if_neg (by omega),if_neg hz,if_neg zR]
  rfl
 generalize bK l es (aa bs)=L at *
 generalize aZ l es (aa bs)=E1 at *
 generalize cP l es (aa bs)=E2 at *
 generalize bc l es (aa bs)=B1 at *
 generalize cW l es (aa bs)=B2 at *
 rcases zL ho m1 z1 with⟨a,n,b,c,d⟩|⟨a,N,b,c,d⟩
 ·rw[if_neg (by rw[a];simp)]at ed
  have ho2:=b.ok
  have e2:sS th s l es bs=wS th (wS th s L E1 B1) L E2 B2:=by unfold sS;rw[ed];rfl
  have e3:sL th s l es bs=[wB th s L E1 B1,wB th (wS th s L E1 B1) L E2 B2]:=by unfold sL;rw[ed]
  have e4:sE th s l es bs=wE th (wS th s L E1 B1) L E2 B2:=by unfold sE;rw[ed]
  rw[e2,e3,e4]
  rcases zL ho2 m2 z2 with⟨a2,n2,b2,c2,d2⟩|⟨a2,N2,b2,c2,d2⟩
  ·refine .inl ⟨a2,n,n2,eO b b2 (fun p hp=>by cases hp),by rw[c,c2], ?_,d2⟩
   exact Rd.same d (b2.rd n (fun hh=>((b.fr n).1 hh).2 List.mem_cons_self))
  ·refine .inr ⟨a2,[n]++N2,eO b b2 (fun p hp=>by cases hp),by rw[List.length_append,List.length_singleton];omega,d2.imp (fun h=>⟨h.1,fun p hp=> ?_⟩) id⟩
   by_cases hpn:p∈[n]
   ·exact List.mem_append_left _ hpn
   ·exact List.mem_append_right _ (h.2 p ((b.fr p).2 ⟨hp,hpn⟩))
 ·rw[if_pos a]at ed
  have e2:sS th s l es bs=wS th s L E1 B1:=by unfold sS;rw[ed];rfl
  have e4:sE th s l es bs=wE th s L E1 B1:=by unfold sE;rw[ed]
  rw[e2,e4]
  exact .inr ⟨a,N,b,Nat.le_succ_of_le c,d⟩
end Ts
namespace Ts
open Go Go.Sx Go.Proofs Lf
structure For (th:Th) (m:As) (h:Nat) (F:List (Kd h)):Prop where
 bare:bT F=F
 rep:∀k∈F,rep th m h k.2
 ok:∀k∈F,sO h k.2
 sep:adG h F
 key:∀k∈F,k.1.size≤24
 pg:∀k∈F,2≤pg h k.2∧pg h k.2<1024
theorem afq{th:Th}{m:As}{h:Nat}:For th m h []:=⟨rfl,fun k hk=>(by cases hk),fun k hk=>(by cases hk),⟨List.Pairwise.nil,fun k hk=>(by cases hk)⟩,fun k hk=>(by cases hk),fun k hk=>(by cases hk)⟩
theorem afr{th:Th}{m:As}{h:Nat}{t:TN h}(h1:rep th m h t)(h2:sO h t)(h3:2≤pg h t∧pg h t<1024):For th m h [(ByteArray.empty,t)]:=
 ⟨rfl,fun k hk=>by rw[List.mem_singleton.1 hk];exact h1,fun k hk=>by rw[List.mem_singleton.1 hk];exact h2,⟨List.pairwise_singleton _ _,fun k hk e _=>by rw[List.mem_singleton.1 hk];exact gq _⟩,
   fun k hk=>by rw[List.mem_singleton.1 hk];exact Nat.zero_le _,fun k hk=>by rw[List.mem_singleton.1 hk];exact h3⟩
theorem afs{th:Th}{m:As}{h:Nat}{t u:TN h}{s:ByteArray}(h1:rep th m h t)(h2:sO h t)(h3:2≤pg h t∧pg h t<1024)(g1:rep th m h u)(g2:sO h u)(g3:2≤pg h u∧pg h u<1024)
 (hs:s.size≤24) (a:∀e∈eb h t,slt e.1 s=true) (b:∀e∈eb h u,slt e.1 s=false):For th m h [(ByteArray.empty,t),(s,u)]:=by
 have two:∀{p:Kd h→Prop},p (ByteArray.empty,t)→p (s,u)→∀k∈[((ByteArray.empty,t):Kd h),(s,u)],p k:=fun hp hq k hk=>by
  rcases List.mem_cons.1 hk with rfl|hk
  ·exact hp
  ·rw[List.mem_singleton.1 hk];exact hq
 refine⟨rfl,two h1 g1,two h2 g2,⟨?_,two (p:=fun k=>∀e∈eb h k.2,slt e.1 k.1=false) (fun e _=>gq _) b⟩,two (Nat.zero_le _) hs,two h3 g3⟩
 rw[List.pairwise_cons]
 exact⟨fun k hk e he=>by rw[List.mem_singleton.1 hk];exact a e he,List.pairwise_singleton _ _⟩
theorem For.same{th:Th}{s t:S5}{N V:List Int}(e:qC th s t N V){h:Nat}{F:List (Kd h)}(f:For th s.m h F)(hp:∀p∈bQ h F,¬In s.fr p):For th t.m h F:=
 ⟨f.bare,fun k hk=>e.rep h (f.rep k hk) fun p jZ=>hp p (List.mem_flatMap.2 ⟨k,hk,jZ⟩),f.ok,f.sep,f.key,f.pg⟩
theorem rO{th:Th}{s:S5}(ho:xt th s){n:Int}(h:In s.fr n):2≤n∧n<1024:=⟨(ho.pg n h).1,(nu ho.fr h).2⟩
theorem amU{th:Th}{s:S5}{es:List En}(ho:xt th s)(jP:jw es=true)(zR:¬bg es []≤254→dz true es []=true∧bg (aZ true es []) []≤254∧bg (cP true es []) []≤254∧
 ∃k,0<k∧k<es.length∧aZ true es []=es.take k∧cP true es []=es.drop k∧bc true es []=[]∧cW true es []=[]∧bK true es []=true):
 (sE th s true es []=0∧∃(N:List Int) (k0:ByteArray) (F:List (Kd 0)),qC th s (sS th s true es []) N []∧N.length≤2∧sL th s true es []=kK k0 (F.map (cT 0))∧For th (sS th s true es []).m 0 F∧bP 0 F=es∧bQ 0 F=N∧F.length≤2∧(bg es []≤254→F.length≤1))∨
 (sE th s true es []≠0∧Bad th s (sS th s true es []) 1 (sE th s true es [])):=by
 have hm:=asp jP
 by_cases h0:es.length=0
 ·obtain⟨a,b,c⟩:=afp (l:=true) (es:=es) (bs:=[]) ho (by rw[h0];rfl)
  obtain rfl:es=[]:=List.eq_nil_of_length_eq_zero h0
  exact .inl ⟨a,[],ByteArray.empty,[],c,Nat.zero_le _,b,afq,rfl,rfl,Nat.zero_le _,fun _=>Nat.zero_le _⟩
 by_cases hz:bg es []≤254
 ·rcases ake (l:=true) (es:=es) (bs:=[]) ho (by simp only[List.length_nil];omega) hm hz with⟨a,n,b,c,d⟩|h
  ·refine .inl ⟨a,[n],cV true es [],[(ByteArray.empty,(n,es))],b,by simp,c,afr d ⟨fun e=>h0 (by show es.length=0;rw[show es=[]from e];rfl),jP,hz⟩ (rO ho (b.sub n List.mem_cons_self)), ?_,rfl,by simp,fun _=>by simp⟩
   show es++[]=es
   rw[List.append_nil]
  ·exact .inr h
 ·obtain⟨ok,z1,z2,k,k0,k1,e1,e2,e3,e4,e5⟩:=zR hz
  have bn:aa ([]:List Br)=[]:=rfl
  have hmt:=abx hm k
  have hmd:=aby hm k
  rw[List.take_nil]at hmt
  rw[List.drop_nil]at hmd
  have key:=akf (l:=true) (es:=es) (bs:=[]) ho (by simp only[List.length_nil];omega) hz ok (by rw[bn,e3];exact z1) (by rw[bn,e4];exact z2) (by rw[bn,e3,e1,e5];exact hmt) (by rw[bn,e4,e2,e5];exact hmd)
  rw[bn,e1,e2,e3,e4,e5]at key
  rw[e1]at z1
  rw[e2]at z2
  rcases key with⟨a,n,n2,b,c,d1,d2⟩|h
  ·obtain⟨m1,m2⟩:=abE.1 jP
   have auP:es.drop k≠[]:=fun e=>by have:=congrArg List.length e;rw[List.length_drop,List.length_nil]at this;omega
   have aqE:es.take k≠[]:=fun e=>by have:=congrArg List.length e;rw[List.length_take,List.length_nil]at this;omega
   have hk:cV true (es.drop k) []=(es.getD k dE).1:=by
    unfold cV
    rw[if_pos rfl,jX,Nat.add_zero]
   have yV:es.getD k dE=es[k]:=bh k1
   have low:∀i,i<k→slt (es.getD i dE).1 (es.getD k dE).1=true:=fun i hi=>by
    have:=m2 i k hi (by simpa using k1)
    rw[cA es o9 dE i,cA es o9 dE k]at this
    exact this
   have high:∀i,k≤i→i<es.length→slt (es.getD i dE).1 (es.getD k dE).1=false:=fun i hi hl=>by
    by_cases e:i=k
    ·rw[e];exact dJ _
    ·have:=m2 k i (by omega) (by simpa using hl)
     rw[cA es o9 dE i,cA es o9 dE k]at this
     exact rq this
   refine .inl ⟨a,[n,n2],cV true (es.take k) [],[(ByteArray.empty,(n,es.take k)),(cV true (es.drop k) [],(n2,es.drop k))],b,by simp,c, ?_, ?_,rfl,by simp,fun h=>absurd h hz⟩
   ·refine afs (h:=0) d1 ⟨aqE,xR jP k,z1⟩ (rO ho (b.sub n List.mem_cons_self)) d2 ⟨auP,xT jP k,z2⟩ (rO ho (b.sub n2 (List.mem_cons_of_mem _ List.mem_cons_self))) ?_ (fun e he=> ?_) (fun e he=> ?_)
    ·rw[hk,yV];exact(m1 _ (List.getElem_mem k1)).2.1
    ·obtain⟨i,hi,rfl⟩:=List.getElem_of_mem (show e∈es.take k from he)
     rw[List.length_take]at hi
     rw[hk,List.getElem_take]
     have:=low i (by omega)
     rw[bh (by omega)]at this
     exact this
    ·obtain⟨i,hi,rfl⟩:=List.getElem_of_mem (show e∈es.drop k from he)
     rw[List.length_drop]at hi
     rw[hk,List.getElem_drop]
     have:=high (k+i) (by omega) (by omega)
     rw[bh (by omega)]at this
     exact this
   ·show es.take k++(es.drop k++[])=es
    rw[List.append_nil,List.take_append_drop]
  ·exact .inr h
theorem aft{th:Th}{s:S5}{h:Nat}{Q:List (Kd h)}{bs:List Br}(ho:xt th s)(hb:aa bs=Q.map (cT h))(hQ:Q≠[])(f:For th s.m h Q)(hp:∀p∈bQ h Q,¬In s.fr p)(jP:gH (Q.map (cT h))=true)(bI:nv h Q≤281):
 (sE th s false [] bs=0∧∃(N:List Int) (k0:ByteArray) (F:List (Kd (h+1))),qC th s (sS th s false [] bs) N []∧N.length≤2∧sL th s false [] bs=kK k0 (F.map (cT (h+1)))∧For th (sS th s false [] bs).m (h+1) F∧bP (h+1) F=bP h Q∧
   (bQ (h+1) F).Perm (N++bQ h Q)∧((nv h Q≤254∧F.length=1∧eX (h+1) F=3^(h+1)*(19+zU (nv h Q))+eX h Q)∨(254<nv h Q∧F.length=2∧eX (h+1) F=3^(h+1)*38+eX h Q)))∨
 (sE th s false [] bs≠0∧Bad th s (sS th s false [] bs) 1 (sE th s false [] bs)):=by
 have hl:0<bs.length:=by
  have e:(aa bs).length=bs.length:=xW bs
  rw[hb,List.length_map]at e
  have:=List.length_pos_iff.2 hQ
  omega
 have hm:=amj jP
 have hs0:nv h Q=bg [] (Q.map (cT h)):=rfl
 have stay:∀{t:S5} {N:List Int},qC th s t N []→∀k∈Q,rep th t.m h k.2:=fun e k hk=>e.rep h (f.rep k hk) fun p jZ=>hp p (List.mem_flatMap.2 ⟨k,hk,jZ⟩)
 by_cases hz:nv h Q≤254
 ·rcases ake (l:=false) (es:=[]) (bs:=bs) ho (by simp only[List.length_nil];omega) (by rw[hb];exact hm) (by rw[hb];exact hz)with⟨a,n,b,c,d⟩|h
  ·rw[hb]at c d
   refine .inl ⟨a,[n],cV false [] (Q.map (cT h)),[(ByteArray.empty,(n,Q))],b,by simp,c,afr (h:=h+1) ⟨d,stay b⟩ ⟨hQ,f.bare,jP,hz,f.sep,f.ok⟩ (rO ho (b.sub n List.mem_cons_self)), ?_, ?_,.inl ⟨hz,rfl, ?_⟩⟩
   ·show bP h Q++[]=_
    rw[List.append_nil]
   ·show(n::bQ h Q++[]).Perm (n::bQ h Q)
    rw[List.append_nil]
   ·rw[ij]
    rfl
  ·exact .inr h
 ·obtain⟨ok,z1,z2,k,k0,k1,e1,e2,e3,e4,e5⟩:=ajE jP (by rw[←hs0];omega) (by rw[←hs0];exact bI)
  have hbt:aa ((Q.map (cT h)).take k)=(Q.map (cT h)).take k:=adN (by rw[jG,f.bare])
  have akg:=xS jP k
  have akh:=x6 (xU jP k)
  have zd:bg [] (aa ((Q.map (cT h)).drop k))≤154:=by
   have s1:=qD (aa ((Q.map (cT h)).drop k))
   have s2:=qD ((Q.map (cT h)).drop k)
   have s3:=rK ((Q.map (cT h)).drop k)
   rw[e2]at z2
   omega
  have key:=akf (l:=false) (es:=[]) (bs:=bs) ho (by simp only[List.length_nil];omega) (by rw[hb];exact hz) (by rw[hb];exact ok)
  rw[hb,e1,e2,e3,e4,e5,hbt]at key
  rw[e1]at z1
  have key:=key (by omega) (by omega) (amj akg) (amj akh)
  rcases key with⟨a,n,n2,b,c,d1,d2⟩|h
  ·have eT:(Q.map (cT h)).take k=(Q.take k).map (cT h):=by rw[List.map_take]
   have eD:aa ((Q.map (cT h)).drop k)=(bT (Q.drop k)).map (cT h):=by rw[←List.map_drop,jG]
   rw[List.length_map]at k1
   have eQ:Q=Q.take k++Q.drop k:=(List.take_append_drop k Q).symm
   obtain⟨q,r,eqd⟩:∃q r,Q.drop k=q::r:=List.exists_cons_of_ne_nil (fun e=>by have:=congrArg List.length e;rw[List.length_drop,List.length_nil]at this;omega)
   have aqE:Q.take k≠[]:=fun e=>by have:=congrArg List.length e;rw[List.length_take,List.length_nil]at this;omega
   have hqm:q∈Q:=by rw[eQ,eqd];exact List.mem_append_right _ List.mem_cons_self
   have hk:cV false [] ((Q.map (cT h)).drop k)=q.1:=by
    unfold cV
    rw[if_neg (by simp),←List.map_drop,eqd]
    rfl
   have sp:=f.sep
   have sp1:=sp.1
   rw[eQ,List.pairwise_append]at sp1
   have up:=(gN.1 jP).2
   rw[eQ,List.map_append,List.pairwise_append]at up
   have mT:∀x∈Q.take k,x∈Q:=fun x hx=>List.mem_of_mem_take hx
   have mD:∀x∈Q.drop k,x∈Q:=fun x hx=>List.mem_of_mem_drop hx
   have okA:sO (h+1) (n,Q.take k):=by
    refine⟨aqE, ?_,by rw[←eT];exact akg,by rw[nv,←eT];omega,⟨sp1.1,fun x hx=>sp.2 x (mT x hx)⟩,fun x hx=>f.ok x (mT x hx)⟩
    show bT (Q.take k)=Q.take k
    have:=f.bare
    cases Q with
    |nil=>exact absurd rfl hQ
    |cons x y=>
     cases k with
     |zero=>omega
     |succ k=>simp only[bT,List.cons.injEq]at this;simp[bT,this.1]
   have okB:sO (h+1) (n2,bT (Q.drop k)):=by
    refine⟨by rw[eqd];exact List.cons_ne_nil _ _,vH _,by rw[←eD];exact akh,by rw[nv,←eD];omega,⟨?_,fun x hx e he=> ?_⟩,fun x hx=> ?_⟩
    ·have p2:=sp1.2.1
     rw[eqd]at p2 ⊢
     rw[List.pairwise_cons]at p2
     rw[bT,List.pairwise_cons]
     exact p2
    ·obtain⟨x',w5,e2,e3⟩:=gr hx
     rcases e3 with e3|e3
     ·rw[e3];exact gq _
     ·subst e3;exact sp.2 x (mD x w5) e he
    ·obtain⟨x',w5,e2,_⟩:=gr hx
     rw[←e2]
     exact f.ok x' (mD x' w5)
   have auQ:rep th (sS th s false [] bs).m (h+1) (n,Q.take k):=⟨by rw[←eT];exact d1,fun x hx=>stay b x (mT x hx)⟩
   have auR:rep th (sS th s false [] bs).m (h+1) (n2,bT (Q.drop k)):=⟨by rw[←eD];exact d2,fun x hx=>by
    obtain⟨x',w5,e2,_⟩:=gr hx
    rw[←e2]
    exact stay b x' (mD x' w5)⟩
   refine .inl ⟨a,[n,n2],_,[(ByteArray.empty,(n,Q.take k)),(q.1,(n2,bT (Q.drop k)))],b,by simp,by rw[c,hk];rfl,afs auQ okA (rO ho (b.sub n List.mem_cons_self)) auR okB (rO ho (b.sub n2 (List.mem_cons_of_mem _ List.mem_cons_self))) (f.key q hqm) (fun e he=> ?_) (fun e he=> ?_), ?_, ?_,.inr ⟨by omega,rfl, ?_⟩⟩
   ·have he:e∈bP h (Q.take k):=he
    obtain⟨x,hx,hxe⟩:=List.mem_flatMap.1 he
    exact sp1.2.2 x hx q (by rw[eqd];exact List.mem_cons_self) e hxe
   ·have he:e∈bP h (bT (Q.drop k)):=he
    rw[pr]at he
    obtain⟨x,hx,hxe⟩:=List.mem_flatMap.1 he
    have h1:=sp.2 x (mD x hx) e hxe
    rw[eqd]at hx
    rcases List.mem_cons.1 hx with rfl|hx
    ·exact h1
    ·have u:=up.2.1
     rw[eqd,List.map_cons,List.pairwise_cons]at u
     have u:=u.1 (cT h x) (List.mem_map_of_mem hx)
     cases hh:slt e.1 q.1
     ·rfl
     ·have h2:slt e.1 x.1=true:=cH hh u
      rw[h2]at h1;cases h1
   ·show bP h (Q.take k)++(bP h (bT (Q.drop k))++[])=_
    rw[List.append_nil,pr,←jF,←eQ]
   ·show(n::bQ h (Q.take k)++(n2::bQ h (bT (Q.drop k))++[])).Perm (n::n2::bQ h Q)
    rw[List.append_nil,xY]
    have e:bQ h Q=bQ h (Q.take k)++bQ h (Q.drop k):=by rw[←qA,←eQ]
    rw[e]
    refine List.Perm.cons n ?_
    exact List.perm_middle
   ·rw[ij,ij]
    show 3^(h+1)*(19+zU (nv h (Q.take k)))+eX h (Q.take k)+(3^(h+1)*(19+zU (nv h (bT (Q.drop k))))+eX h (bT (Q.drop k))+0)=_
    have o1:zU (nv h (Q.take k))=0:=by unfold zU;rw[nv,←eT];omega
    have o2:zU (nv h (bT (Q.drop k)))=0:=by unfold zU;rw[nv,←eD];omega
    have e:eX h Q=eX h (Q.take k)+eX h (Q.drop k):=by rw[←qB,←eQ]
    rw[o1,o2,xZ,e]
    omega
  ·exact .inr h
end Ts
namespace Ts
open Go Go.Sx Go.Proofs Lf
def lP(key:ByteArray):Option ByteArray→List En→List En
 |some v,l=>bw l key v
 |none,l=>cI l key
theorem zM{x:En}{r:List En}{key v:ByteArray}(h:slt x.1 key=true):bw (x::r) key v=x::bw r key v:=by
 unfold bw
 rw[zt h,ae2 h]
 split<;>simp
theorem zN{x:En}{r:List En}{key v:ByteArray}(h:slt x.1 key=false):bw (x::r) key v=(key,v,())::(if x.1=key then r else x::r):=by
 unfold bw
 rw[ads h,ai5 h]
 by_cases e:x.1=key
 ·rw[decide_eq_true e,if_pos rfl,if_pos e];rfl
 ·rw[decide_eq_false e,if_neg (by simp),if_neg e];rfl
theorem aki{key v:ByteArray}:bw [] key v=[(key,v,())]:=rfl
theorem ag2{X W:List En}{key v:ByteArray}(h:∀x∈X,slt x.1 key=true):bw (X++W) key v=X++bw W key v:=by
 induction X with
 |nil=>rfl
 |cons x r ih=>rw[List.cons_append,zM (h x List.mem_cons_self),ih fun y hy=>h y (List.mem_cons_of_mem _ hy)];rfl
theorem adO{Y Z:List En}{key v:ByteArray}(h:∀z∈Z,slt key z.1=true):bw (Y++Z) key v=bw Y key v++Z:=by
 induction Y with
 |nil=>
  rw[List.nil_append,aki]
  cases Z with
  |nil=>rfl
  |cons z r=>
   have hz:=h z List.mem_cons_self
   rw[zN (rq hz),if_neg (fun e=>ape hz e.symm)];rfl
 |cons y r ih=>
  cases hy:slt y.1 key
  ·rw[List.cons_append,zN hy,zN hy]
   by_cases e:y.1=key
   ·rw[if_pos e,if_pos e];rfl
   ·rw[if_neg e,if_neg e];rfl
  ·rw[List.cons_append,zM hy,zM hy,ih];rfl
theorem yc{X:List En}{key:ByteArray}(h:∀x∈X,x.1≠key):cI X key=X:=by
 unfold cI
 rw[List.filter_eq_self]
 intro x hx
 simp only[zT,decide_eq_false (h x hx),Bool.not_false]
theorem afu{X Y Z:List En}{key:ByteArray}{op:Option ByteArray}(h1:∀x∈X,slt x.1 key=true)(h2:∀z∈Z,slt key z.1=true):lP key op (X++Y++Z)=X++lP key op Y++Z:=by
 cases op with
 |some v=>
  show bw (X++Y++Z) key v=X++bw Y key v++Z
  rw[adO h2,ag2 h1]
 |none=>
  have e1:=yc (X:=X) (key:=key) fun x hx e=>by have:=h1 x hx;rw[e,dJ]at this;cases this
  have e2:=yc (X:=Z) (key:=key) fun x hx e=>by have:=h2 x hx;rw[e,dJ]at this;cases this
  show cI (X++Y++Z) key=X++cI Y key++Z
  unfold cI at e1 e2 ⊢
  rw[List.filter_append,List.filter_append,e1,e2]
theorem akj{X Y Z:List En}{key:ByteArray}(h1:∀x∈X,slt x.1 key=true)(h2:∀z∈Z,slt key z.1=true):gV (X++Y++Z) key=gV Y key:=by
 have e:=afu (op:=none) h1 h2 (Y:=Y)
 have e:cI (X++Y++Z) key=X++cI Y key++Z:=e
 unfold gV
 rw[e]
 simp only[List.length_append]
 by_cases c:(cI Y key).length<Y.length
 ·rw[decide_eq_true (by omega),decide_eq_true (by omega)]
 ·rw[decide_eq_false (by omega),decide_eq_false (by omega)]
theorem afv{X Y Z:List En}{key:ByteArray}{op:Option ByteArray}(h1:∀x∈X,slt x.1 key=true)(h2:∀z∈Z,slt key z.1=true):qJ key op (X++Y++Z)=qJ key op Y:=by
 cases op with
 |some v=>rfl
 |none=>
  show(if gV (X++Y++Z) key=true then(0:Int)else 5)=if gV Y key=true then 0 else 5
  rw[akj h1 h2]
theorem afw(key:ByteArray)(op:Option ByteArray)(l:List En):qJ key op l=0∨qJ key op l=5:=by
 cases op with
 |some v=>exact .inl rfl
 |none=>
  show(if gV l key=true then(0:Int)else 5)=0∨(if gV l key=true then(0:Int)else 5)=5
  split
  ·exact .inl rfl
  ·exact .inr rfl
theorem akk{key:ByteArray}{op:Option ByteArray}{l:List En}(h:qJ key op l=0):doE key op l=lP key op l:=by
 cases op with
 |some v=>rfl
 |none=>
  have h:(if gV l key=true then(0:Int)else 5)=0:=h
  show(if gV l key=true then cI l key else [])=cI l key
  split at h
  ·rename_i hb;rw[if_pos hb]
  ·cases h
theorem zO{key:ByteArray}{op:Option ByteArray}{l:List En}{e:En}(h:e∈lP key op l):e∈l∨(e.1=key∧∃v,op=some v∧e.2.1=v):=by
 cases op with
 |some v=>
  have h:e∈bw l key v:=h
  unfold bw at h
  rcases List.mem_append.1 h with h|h
  ·exact .inl (List.mem_of_mem_take h)
  ·rcases List.mem_cons.1 h with rfl|h
   ·exact .inr ⟨rfl,v,rfl,rfl⟩
   ·exact .inl (List.mem_of_mem_drop h)
 |none=>exact .inl (List.mem_filter.1 (show e∈cI l key from h)).1
theorem amV{key:ByteArray}{op:Option ByteArray}{l:List En}(hk:1≤key.size∧key.size≤24)(hv:∀v,op=some v→v.size≤100)(h:jw l=true):jw (lP key op l)=true:=by
 rw[abE]at h ⊢
 refine⟨fun e he=> ?_, ?_⟩
 ·rcases zO he with h1|⟨h1,v,h2,h3⟩
  ·exact h.1 e h1
  ·rw[h1,h3];exact⟨hk.1,hk.2,hv v h2⟩
 ·cases op with
  |some v=>exact alI key v h.2
  |none=>exact alJ key h.2
theorem vY{es:List En}{key:ByteArray}:bg (cI es key) []≤bg es []:=by
 rw[vK,vK]
 unfold cI
 induction es with
 |nil=>simp
 |cons x r ih=>
  rw[List.filter_cons]
  have:=ajD x
  split
  ·rw[List.map_cons,List.sum_cons,List.map_cons,List.sum_cons];omega
  ·rw[List.map_cons,List.sum_cons];omega
end Ts
namespace Ts
open Go Go.Sx Go.Proofs Lf
def cS(th:Th)(key:ByteArray)(op:Option ByteArray)(f:Nat)(s:S5)(n deep:Int):S5:=
 ⟨pj th key op f s.m s.fu s.fr s.fs s.gn n deep,pn th key op f s.m s.fu s.fr s.fs s.gn n deep,pq th key op f s.m s.fu s.fr s.fs s.gn n deep,qz th key op f s.m s.fu s.fr s.fs s.gn n deep,rI th key op f s.m s.fu s.fr s.fs s.gn n deep⟩
def cL(th:Th)(key:ByteArray)(op:Option ByteArray)(f:Nat)(s:S5)(n deep:Int):List Br:=sQ th key op f s.m s.fu s.fr s.fs s.gn n deep
def cE'(th:Th)(key:ByteArray)(op:Option ByteArray)(f:Nat)(s:S5)(n deep:Int):Int:=rJ th key op f s.m s.fu s.fr s.fs s.gn n deep
def lvT(s:S5)(n:Int):S5:=⟨s.m,s.fu,s.fr,iZ s.fs n,pe s.fs s.gn n⟩
def opP(op:Option ByteArray):Nat:=match op with|some _=>81|none=>0
structure atg (th:Th) (key:ByteArray) (op:Option ByteArray) (s t:S5) (h:Nat) (old:List En) (ps:List Int) (po:Nat) (l:List Br) (N V rest:List Int) (k0:ByteArray) (F:List (Kd h)):Prop where
 qL:qC th s t N V
 len:N.length≤2*(h+1)
 l:l=kK k0 (F.map (cT h))
 fr:For th t.m h F
 eb:bP h F=lP key op old
 old:ps.Perm (V++rest)
 new:(bQ h F).Perm (N++rest)
 two:F.length≤2
 del:op=none→F.length≤1
 tq:eX h F+(F.length - 1)*(81*3^h)≤po+opP op
structure ath (th:Th) (key:ByteArray) (op:Option ByteArray) (s t:S5) (h:Nat) (old:List En) (ps:List Int) (e:Int) (N V:List Int):Prop where
 qL:qC th s t N V
 len:N.length≤2*h+1
 sub:∀p∈V,p∈ps
 how:(e=5∧qJ key op old=5)∨(e=41∧∀p,In s.fr p→p∈N)∨(e=42∧t.fu=0)
def adP(th:Th)(key:ByteArray)(op:Option ByteArray)(s t:S5)(h:Nat)(old:List En)(ps:List Int)(po:Nat)(l:List Br)(e:Int):Prop:=
 (e=0∧qJ key op old=0∧∃N V rest k0 F,atg th key op s t h old ps po l N V rest k0 F)∨(e≠0∧∃N V,ath th key op s t h old ps e N V)
theorem akl{th:Th}{key:ByteArray}{op:Option ByteArray}{s s1 t:S5}{h:Nat}{old:List En}{ps N V:List Int}{e:Int}{k:Nat}(h1:qC th s s1 N V)(hN:N.length+k≤2*h+1)(hV:∀p∈V,p∈ps)(hb:Bad th s1 t k e):∃N V,ath th key op s t h old ps e N V:=by
 obtain⟨N2,b1,b2,b3⟩:=hb
 refine⟨N++N2,V++[],eO h1 b1 (fun p hp=>by cases hp),by rw[List.length_append];omega,fun p hp=>hV p (by simpa using hp),.inr (b3.imp (fun x=>⟨x.1,fun p hp=> ?_⟩) id)⟩
 by_cases hpn:p∈N
 ·exact List.mem_append_left _ hpn
 ·exact List.mem_append_right _ (x.2 p ((h1.fr p).2 ⟨hp,hpn⟩))
theorem afx{th:Th}{key:ByteArray}{op:Option ByteArray}{es:List En}(hk:1≤key.size∧key.size≤24)(hv:∀v,op=some v→v.size≤100)(jP:jw es=true)(hz:bg es []≤254){s s1:S5}{V ps:List Int}(h1:qC th s s1 [] V)(hV:ps.Perm V)(hc:qJ key op es=0){h:Nat}:
 adP th key op s (sS th s1 true (lP key op es) []) 0 es ps h (sL th s1 true (lP key op es) []) (sE th s1 true (lP key op es) []):=by
 have ho:=h1.ok
 have ati:=amV (op:=op) hk hv jP
 have zR:¬bg (lP key op es) []≤254→dz true (lP key op es) []=true∧bg (aZ true (lP key op es) []) []≤254∧bg (cP true (lP key op es) []) []≤254∧
  ∃k,0<k∧k<(lP key op es).length∧aZ true (lP key op es) []=(lP key op es).take k∧cP true (lP key op es) []=(lP key op es).drop k∧bc true (lP key op es) []=[]∧cW true (lP key op es) []=[]∧bK true (lP key op es) []=true:=fun hn=>by
  cases op with
  |some v=>exact ajF ati hz hn
  |none=>exact absurd (Int.le_trans vY hz) hn
 rcases amU ho ati zR with⟨a,N,k0,F,b,c,d,e,g,i,j,k⟩|⟨a,b⟩
 ·refine .inl ⟨a,hc,[]++N,V++[],[],k0,F,eO h1 b (fun p hp=>by cases hp),by simp;omega,d,e,g, ?_, ?_,j,fun hn=>k ?_, ?_⟩
  ·rw[List.append_nil,List.append_nil];exact hV
  ·rw[i,List.nil_append,List.append_nil]
  ·subst hn;exact Int.le_trans vY hz
  ·have p0:eX 0 F=0:=by
    have:∀F:List (Kd 0),eX 0 F=0:=fun F=>by
     induction F with
     |nil=>rfl
     |cons x r ih=>rw[ij,ih];rfl
    exact this F
   rw[p0]
   cases op with
   |some v=>show 0+(F.length - 1)*(81*3^0)≤h+81;rw[Nat.pow_zero];omega
   |none=>
    have:=k (Int.le_trans vY hz)
    show 0+(F.length - 1)*(81*3^0)≤h+0
    rw[show F.length - 1=0 from by omega];omega
 ·exact .inr ⟨a,akl h1 (by simp) (fun p hp=>(hV.mem_iff).2 hp) b⟩
theorem akm{th:Th}{key:ByteArray}{op:Option ByteArray}(hk:1≤key.size∧key.size≤24)(hv:∀v,op=some v→v.size≤100){s:S5}{t:TN 0}{f:Nat}{deep:Int}(ho:xt th s)(hr:rep th s.m 0 t)(ht:sO 0 t)(hd:deep≤16):
 adP th key op s (cS th key op (f+1) s (pg 0 t) deep) 0 (eb 0 t) (oE 0 t) (tq 0 t) (cL th key op (f+1) s (pg 0 t) deep) (cE' th key op (f+1) s (pg 0 t) deep):=by
 obtain⟨n,es⟩:=t
 have hr:Rd th s.m n true es []:=hr
 obtain⟨e1,e2,e3,e4⟩:=hr.nd hd
 obtain⟨_,jP,hz⟩:=(show es≠[]∧jw es=true∧bg es []≤254 from ht)
 show adP th key op s (cS th key op (f+1) s n deep) 0 es [n] 0 (cL th key op (f+1) s n deep) (cE' th key op (f+1) s n deep)
 have h1:=adI ho n
 by_cases hc:qJ key op es=0
 ·have e:vC th key op (f+1) s.m s.fu s.fr s.fs s.gn n deep=gL (pe s.fs s.gn n) (bo th s.m s.fu s.fr (iZ s.fs n) true (lP key op es) []):=by
   rw[fV,if_neg (by rw[e1];simp),if_pos e2,e3,e4,if_neg (by rw[hc];simp),akk hc]
  have g:=afx (op:=op) (s1:=lvT s n) (h:=0) hk hv jP hz h1 (List.Perm.refl [n]) hc
  have c1:cS th key op (f+1) s n deep=sS th (lvT s n) true (lP key op es) []:=by unfold cS pj pn pq qz rI;rw[e];rfl
  have c2:cL th key op (f+1) s n deep=sL th (lvT s n) true (lP key op es) []:=by unfold cL sQ;rw[e];rfl
  have c3:cE' th key op (f+1) s n deep=sE th (lvT s n) true (lP key op es) []:=by unfold cE' rJ;rw[e];rfl
  rw[c1,c2,c3]
  exact g
 ·have h5:qJ key op es=5:=(afw key op es).resolve_left hc
  have e:vC th key op (f+1) s.m s.fu s.fr s.fs s.gn n deep=(s.m,s.fu,s.fr,s.fs,s.gn,[],5):=by
   rw[fV,if_neg (by rw[e1];simp),if_pos e2,e3,if_pos hc,h5]
  have c1:cS th key op (f+1) s n deep=s:=by unfold cS pj pn pq qz rI;rw[e]
  have c3:cE' th key op (f+1) s n deep=5:=by unfold cE' rJ;rw[e]
  rw[c1,c3]
  exact .inr ⟨by decide,[],[],gO ho,by simp,fun p hp=>(by cases hp),.inl ⟨rfl,h5⟩⟩
end Ts
namespace Ts
open Go Go.Sx Go.Proofs Lf
theorem ag3{th:Th}{m:As}{h:Nat}{A B F:List (Kd h)}{k:Kd h}{key:ByteArray}{op:Option ByteArray}(hQ:bT (A++k::B)=A++k::B)(jP:gH ((A++k::B).map (cT h))=true)(hs:adG h (A++k::B))(hT:∀x∈A++k::B,sO h x.2)
 (hA:∀x∈A,rep th m h x.2) (hB:∀x∈B,rep th m h x.2) (f:For th m h F) (fe:bP h F=lP key op (eb h k.2)) (yJ:slt key k.1=false) (sK:∀b∈B,slt key b.1=true):
 For th m h (bT (A++bX k.1 F++B))∧gH ((bT (A++bX k.1 F++B)).map (cT h))=true∧bP h (bT (A++bX k.1 F++B))=lP key op (bP h (A++k::B))∧qJ key op (bP h (A++k::B))=qJ key op (eb h k.2)∧
  (F.length≤1→nv h (bT (A++bX k.1 F++B))≤nv h (A++k::B))∧(F.length≤2→nv h (bT (A++bX k.1 F++B))≤nv h (A++k::B)+27):=by
 obtain⟨o1,o2⟩:=gN.1 jP
 have mk:∀x∈A++k::B,(cT h x)∈(A++k::B).map (cT h):=fun x hx=>List.mem_map_of_mem hx
 have inA:∀x∈A,x∈A++k::B:=fun x hx=>List.mem_append_left _ hx
 have ink:k∈A++k::B:=List.mem_append_right _ List.mem_cons_self
 have inB:∀x∈B,x∈A++k::B:=fun x hx=>List.mem_append_right _ (List.mem_cons_of_mem _ hx)
 rw[List.map_append,List.map_cons,List.pairwise_append,List.pairwise_cons]at o2
 obtain⟨oA,⟨okB,oB⟩,oAB⟩:=o2
 obtain⟨s1,s2⟩:=hs
 rw[List.pairwise_append,List.pairwise_cons]at s1
 obtain⟨sA,⟨skB,sB⟩,sAB⟩:=s1
 have eA:∀x∈bP h A,slt x.1 k.1=true:=fun x hx=>by
  obtain⟨a,ha,hxa⟩:=List.mem_flatMap.1 hx
  exact sAB a ha k List.mem_cons_self x hxa
 have eAk:∀x∈bP h A,slt x.1 key=true:=fun x hx=>ey (eA x hx) yJ
 have eBk:∀x∈bP h B,slt key x.1=true:=fun x hx=>by
  obtain⟨b,hb,hxb⟩:=List.mem_flatMap.1 hx
  exact ey (sK b hb) (s2 b (inB b hb) x hxb)
 have kF:∀e∈bP h F,slt e.1 k.1=false:=fun e he=>by
  rw[fe]at he
  rcases zO he with h1|⟨h1,_⟩
  ·exact s2 k ink e h1
  ·rw[h1];exact yJ
 have fB:∀e∈bP h F,∀b∈B,slt e.1 b.1=true:=fun e he b hb=>by
  rw[fe]at he
  rcases zO he with h1|⟨h1,_⟩
  ·exact skB b hb e h1
  ·rw[h1];exact sK b hb
 have inF:∀{x:Kd h},x∈F→∀e∈eb h x.2,e∈bP h F:=fun hx e he=>List.mem_flatMap.2 ⟨_,hx,he⟩
 have some_:∀{x:Kd h},x∈F→∃e,e∈eb h x.2:=fun hx=>List.exists_mem_of_ne_nil _ (tu h (f.ok _ hx))
 have wT:∀x∈bX k.1 F,(x.1=k.1∨slt k.1 x.1=true)∧x.1.size≤24∧(2≤pg h x.2∧pg h x.2<1024)∧rep th m h x.2∧sO h x.2∧(∀e∈eb h x.2,slt e.1 x.1=false)∧(∀e∈eb h x.2,e∈bP h F):=fun x hx=>by
  cases F with
  |nil=>cases hx
  |cons y r=>
   rcases List.mem_cons.1 hx with rfl|hx
   ·have y0:y∈y::r:=List.mem_cons_self
    exact⟨.inl rfl,(o1 _ (mk k ink)).1,f.pg y y0,f.rep y y0,f.ok y y0,fun e he=>kF e (inF (x:=y) y0 e he),fun e he=>inF (x:=y) y0 e he⟩
   ·have x0:x∈y::r:=List.mem_cons_of_mem _ hx
    refine⟨.inr ?_,f.key x x0,f.pg x x0,f.rep x x0,f.ok x x0,f.sep.2 x x0,inF x0⟩
    have p:=f.sep.1
    rw[List.pairwise_cons]at p
    obtain⟨e,he⟩:=some_ (x:=y) List.mem_cons_self
    have a1:=p.1 x hx e he
    have a2:=kF e (inF List.mem_cons_self e he)
    rcases ib k.1 e.1 with h1|h1|h1
    ·exact cH h1 a1
    ·rw[h1];exact a1
    ·rw[h1]at a2;cases a2
 have auS:∀x∈bX k.1 F,∀b∈B,slt x.1 b.1=true:=fun x hx b hb=>by
  obtain⟨_,_,_,_,ok,g1,g2⟩:=wT x hx
  obtain⟨e,he⟩:=List.exists_mem_of_ne_nil _ (tu h ok)
  have a1:=fB e (g2 e he) b hb
  rcases ib x.1 e.1 with h1|h1|h1
  ·exact cH h1 a1
  ·rw[h1];exact a1
  ·rw[g1 e he]at h1;cases h1
 have up2:(bX k.1 F).Pairwise fun a b=>slt a.1 b.1=true:=by
  cases F with
  |nil=>exact List.Pairwise.nil
  |cons y r=>
   have p:=f.sep.1
   rw[List.pairwise_cons]at p
   rw[bX,List.pairwise_cons]
   refine⟨fun x hx=>((wT x (List.mem_cons_of_mem _ hx)).1.resolve_left fun e=> ?_), ?_⟩
   ·
    obtain⟨e',he⟩:=some_ (x:=y) List.mem_cons_self
    have a1:=p.1 x hx e' he
    rw[e,kF e' (inF List.mem_cons_self e' he)]at a1
    cases a1
   ·refine List.Pairwise.imp_of_mem (fun{a b} ha hb hab=> ?_) p.2
    obtain⟨e',he⟩:=some_ (x:=a) (List.mem_cons_of_mem _ ha)
    have a1:=hab e' he
    have a2:=f.sep.2 a (List.mem_cons_of_mem _ ha) e' he
    rcases ib a.1 e'.1 with h1|h1|h1
    ·exact cH h1 a1
    ·rw[h1];exact a1
    ·rw[a2]at h1;cases h1
 have sp2:(bX k.1 F).Pairwise fun a b=>∀e∈eb h a.2,slt e.1 b.1=true:=by
  cases F with
  |nil=>exact List.Pairwise.nil
  |cons y r=>
   have p:=f.sep.1
   rw[List.pairwise_cons]at p
   rw[bX,List.pairwise_cons]
   exact p
 have amW:∀{p:Kd h→Prop},(∀x∈A,p x)→(∀x∈bX k.1 F,p x)→(∀x∈B,p x)→∀x∈A++bX k.1 F++B,p x:=fun h1 h2 h3 x hx=>by
  rcases List.mem_append.1 hx with hx|hx
  ·rcases List.mem_append.1 hx with hx|hx
   ·exact h1 x hx
   ·exact h2 x hx
  ·exact h3 x hx
 have okJ:gH ((A++bX k.1 F++B).map (cT h))=true:=by
  rw[gN]
  constructor
  ·intro b hb
   obtain⟨x,hx,rfl⟩:=List.mem_map.1 hb
   exact amW (p:=fun x=>(cT h x).1.size≤24∧2≤(cT h x).2.1∧(cT h x).2.1<1024) (fun x hx=>o1 _ (mk x (inA x hx))) (fun x hx=>⟨(wT x hx).2.1,(wT x hx).2.2.1⟩) (fun x hx=>o1 _ (mk x (inB x hx))) x hx
  ·rw[List.map_append,List.map_append,List.pairwise_append,List.pairwise_append]
   refine⟨⟨oA, ?_,fun a ha b hb=> ?_⟩,oB,fun a ha b hb=> ?_⟩
   ·rw[List.pairwise_map];exact up2
   ·obtain⟨x,hx,rfl⟩:=List.mem_map.1 hb
    have a1:=oAB a ha (cT h k) List.mem_cons_self
    rcases(wT x hx).1 with e|e
    ·show slt a.1 x.1=true
     rw[e];exact a1
    ·exact cH a1 e
   ·obtain⟨y,hy,rfl⟩:=List.mem_map.1 hb
    rcases List.mem_append.1 ha with ha|ha
    ·exact oAB a ha (cT h y) (List.mem_cons_of_mem _ (List.mem_map_of_mem hy))
    ·obtain⟨x,hx,rfl⟩:=List.mem_map.1 ha
     exact auS x hx y hy
 have spJ:(A++bX k.1 F++B).Pairwise fun a b=>∀e∈eb h a.2,slt e.1 b.1=true:=by
  rw[List.pairwise_append,List.pairwise_append]
  refine⟨⟨sA,sp2,fun a ha b hb e he=> ?_⟩,sB,fun a ha b hb e he=> ?_⟩
  ·have a1:=sAB a ha k List.mem_cons_self e he
   rcases(wT b hb).1 with e1|e1
   ·rw[e1];exact a1
   ·exact cH a1 e1
  ·rcases List.mem_append.1 ha with ha|ha
   ·exact sAB a ha b (List.mem_cons_of_mem _ hb) e he
   ·exact fB e ((wT a ha).2.2.2.2.2.2 e he) b hb
 have auT:∀x∈A++bX k.1 F++B,∀e∈eb h x.2,slt e.1 x.1=false:=amW (fun x hx=>s2 x (inA x hx)) (fun x hx=>(wT x hx).2.2.2.2.2.1) (fun x hx=>s2 x (inB x hx))
 have eE:bP h (A++k::B)=bP h A++eb h k.2++bP h B:=by rw[jF,jY,List.append_assoc]
 have szs:nv h (bT (A++bX k.1 F++B))≤1+(gW (A.map (cT h))+gW ((bX k.1 F).map (cT h))+gW (B.map (cT h)))∧nv h (A++k::B)=1+(gW (A.map (cT h))+(pa (cT h k)+gW (B.map (cT h)))):=by
  rw[adH,adH,←jG]
  have a1:=rK ((A++bX k.1 F++B).map (cT h))
  rw[List.map_append,List.map_append,vJ,vJ]at a1
  rw[List.map_append (l₁:=A),List.map_cons,vJ (A.map (cT h)),dj]
  refine⟨?_,rfl⟩
  rw[List.map_append,List.map_append]
  omega
 refine⟨⟨vH _,fun x hx=> ?_,fun x hx=> ?_,⟨?_,fun x hx e he=> ?_⟩,fun x hx=> ?_,fun x hx=> ?_⟩, ?_, ?_, ?_,fun hl=> ?_,fun hl=> ?_⟩
 ·obtain⟨y,hy,e,_⟩:=gr hx
  rw[←e]
  exact amW (p:=fun x=>rep th m h x.2) hA (fun x hx=>(wT x hx).2.2.2.1) hB y hy
 ·obtain⟨y,hy,e,_⟩:=gr hx
  rw[←e]
  exact amW (p:=fun x=>sO h x.2) (fun x hx=>hT x (inA x hx)) (fun x hx=>(wT x hx).2.2.2.2.1) (fun x hx=>hT x (inB x hx)) y hy
 ·generalize A++bX k.1 F++B=J at spJ
  cases J with
  |nil=>exact List.Pairwise.nil
  |cons x r=>
   rw[List.pairwise_cons]at spJ
   rw[bT,List.pairwise_cons]
   exact spJ
 ·obtain⟨y,hy,e1,e2⟩:=gr hx
  rcases e2 with e2|e2
  ·rw[e2];exact gq _
  ·subst e2;exact auT x hy e he
 ·obtain⟨y,hy,e1,e2⟩:=gr hx
  rcases e2 with e2|e2
  ·rw[e2];exact Nat.zero_le _
  ·subst e2;exact((gN.1 okJ).1 _ (List.mem_map_of_mem hy)).1
 ·obtain⟨y,hy,e,_⟩:=gr hx
  rw[←e]
  exact((gN.1 okJ).1 _ (List.mem_map_of_mem hy)).2
 ·rw[←jG];exact x6 okJ
 ·rw[pr,jF,jF,agX,fe,eE,afu eAk eBk]
 ·rw[eE,afv eAk eBk]
 ·obtain⟨z1,z2⟩:=szs
  rw[z2]
  refine Int.le_trans z1 ?_
  have:gW ((bX k.1 F).map (cT h))≤pa (cT h k):=by
   cases F with
   |nil=>show(0:Int)≤_;have:=vI (cT h k);omega
   |cons y r=>
    cases r with
    |nil=>rw[bX,List.map_cons,dj];show pa (cT h (k.1,y.2))+0≤_;rw[Int.add_zero];exact Int.le_refl _
    |cons z r=>simp only[List.length_cons]at hl;omega
  omega
 ·obtain⟨z1,z2⟩:=szs
  rw[z2]
  refine Int.le_trans z1 ?_
  have:gW ((bX k.1 F).map (cT h))≤pa (cT h k)+27:=by
   cases F with
   |nil=>show(0:Int)≤_;have:=vI (cT h k);omega
   |cons y r=>
    cases r with
    |nil=>rw[bX,List.map_cons,dj];show pa (cT h k)+0≤_;omega
    |cons z r=>
     cases r with
     |nil=>
      have:=f.key z (List.mem_cons_of_mem _ List.mem_cons_self)
      rw[bX,List.map_cons,List.map_cons,dj,dj]
      show pa (cT h k)+(pa (cT h z)+0)≤_
      have:pa (cT h z)=3+(z.1.size:Int):=rfl
      omega
     |cons w r=>simp only[List.length_cons]at hl;omega
  omega
end Ts
