/- Lemmas: N7, M2, M3, N8, N9, N10, N11, N12, N13, N14, N15, SxLit, SxRenew, N16, N17, N18, N19, N20, N21, M4, M5, M6. -/
import Derived.Test.YtcjldfgkonfocaaDoorPD
namespace Ts
open Go Go.Sx Go.Proofs Lf
abbrev XC:Type:=XT×Int×Int×ByteArray×ByteArray
abbrev fP1:FuncId:=49
abbrev fD1:FuncId:=51
abbrev tG(s:ByteArray):ad:=.own [.s (.str s)] 9
abbrev qJ(th:Th)(m:As)(fu root:Int)(fr fs gn:Ws)(key val:ByteArray):List ad:=hT th m fu root fr fs gn++[tG key,tG val]
abbrev qK(th:Th)(m:As)(fu root:Int)(fr fs gn:Ws)(key:ByteArray):List ad:=hT th m fu root fr fs gn++[tG key]
def aox(f:Nat)(th:Th)(m:As)(fu:Int)(fr:Ws)(n deep:Int)(key val:ByteArray):List Prop:=[Ds.bM th m fu,Bx.okW fr,0≤n∧n≤65536,1≤deep∧deep≤17,18≤deep+(f:Int),1≤key.size∧key.size≤24,val.size≤100]
def pC(th:Th)(key:ByteArray)(op:Option ByteArray)(f:Nat)(m:As)(fu:Int)(fr fs gn:Ws)(n deep:Int):As:=(vO th key op f m fu fr fs gn n deep).1
def pD(th:Th)(key:ByteArray)(op:Option ByteArray)(f:Nat)(m:As)(fu:Int)(fr fs gn:Ws)(n deep:Int):Int:=(vO th key op f m fu fr fs gn n deep).2.1
def pE(th:Th)(key:ByteArray)(op:Option ByteArray)(f:Nat)(m:As)(fu:Int)(fr fs gn:Ws)(n deep:Int):Ws:=(vO th key op f m fu fr fs gn n deep).2.2.1
def qL(th:Th)(key:ByteArray)(op:Option ByteArray)(f:Nat)(m:As)(fu:Int)(fr fs gn:Ws)(n deep:Int):Ws:=(vO th key op f m fu fr fs gn n deep).2.2.2.1
def rV(th:Th)(key:ByteArray)(op:Option ByteArray)(f:Nat)(m:As)(fu:Int)(fr fs gn:Ws)(n deep:Int):Ws:=(vO th key op f m fu fr fs gn n deep).2.2.2.2.1
def tc(th:Th)(key:ByteArray)(op:Option ByteArray)(f:Nat)(m:As)(fu:Int)(fr fs gn:Ws)(n deep:Int):List Br:=(vO th key op f m fu fr fs gn n deep).2.2.2.2.2.1
def rW(th:Th)(key:ByteArray)(op:Option ByteArray)(f:Nat)(m:As)(fu:Int)(fr fs gn:Ws)(n deep:Int):Int:=(vO th key op f m fu fr fs gn n deep).2.2.2.2.2.2
abbrev w5(f:Nat):Spec XC:=⟨fun(_,n,deep,key,_)=>[.ptr 0 0,bP n,bP deep,.s (.str key),.fn fP1 [.ptr 4 0,.ptr 5 0]],fun((th,m,fu,root,fr,fs,gn),_,_,key,val)=>qJ th m fu root fr fs gn key val,
 fun((th,m,fu,_,fr,_,_),n,deep,key,val)=>aox f th m fu fr n deep key val,
 fun((th,m,fu,root,fr,fs,gn),n,deep,key,val)=>qJ th (pC th key (some val) f m fu fr fs gn n deep) (pD th key (some val) f m fu fr fs gn n deep) root (pE th key (some val) f m fu fr fs gn n deep) (qL th key (some val) f m fu fr fs gn n deep) (rV th key (some val) f m fu fr fs gn n deep) key val++[.vec (.ae cB (tc th key (some val) f m fu fr fs gn n deep)) Lf.eB],
 fun((th,m,fu,_,fr,fs,gn),n,deep,key,val)=>.bm [.vec 6,bP (rW th key (some val) f m fu fr fs gn n deep)]⟩
abbrev w6(f:Nat):Spec XC:=⟨fun(_,n,deep,key,_)=>[.ptr 0 0,bP n,bP deep,.s (.str key),.fn fD1 [.ptr 4 0]],fun((th,m,fu,root,fr,fs,gn),_,_,key,_)=>qK th m fu root fr fs gn key,
 fun((th,m,fu,_,fr,_,_),n,deep,key,val)=>aox f th m fu fr n deep key val,
 fun((th,m,fu,root,fr,fs,gn),n,deep,key,_)=>qK th (pC th key none f m fu fr fs gn n deep) (pD th key none f m fu fr fs gn n deep) root (pE th key none f m fu fr fs gn n deep) (qL th key none f m fu fr fs gn n deep) (rV th key none f m fu fr fs gn n deep) key++[.vec (.ae cB (tc th key none f m fu fr fs gn n deep)) Lf.eB],
 fun((th,m,fu,_,fr,fs,gn),n,deep,key,_)=>.bm [.vec 5,bP (rW th key none f m fu fr fs gn n deep)]⟩
def ajX(i:Nat):(ByteArray→RM (XC×List Nat))→RM (XC×List Nat):=fun k=>.look i fun o=>match o with
 |some (.own [.s (.str s)] _)=>k s
 |_=>.fail "no text"
def amH:List AV→RM (XC×List Nat)
 |[t,n,d,.s (.str _),.fn _ [.ptr i 0,.ptr j 0]]=>(mT [t]).bind fun(X,σ)=>match n.dc,d.dc with
  |some (_,_,n),some (_,_,d)=>ajX i fun key=>ajX j fun val=>.ret ((X,n,d,key,val),σ++[i,j])
  |_,_=>.fail "no numbers"
 |_=>.fail "change: arguments"
def amI:List AV→RM (XC×List Nat)
 |[t,n,d,.s (.str _),.fn _ [.ptr i 0]]=>(mT [t]).bind fun(X,σ)=>match n.dc,d.dc with
  |some (_,_,n),some (_,_,d)=>ajX i fun key=>.ret ((X,n,d,key,ByteArray.empty),σ++[i])
  |_,_=>.fail "no numbers"
 |_=>.fail "change: arguments"
def mNo:List AV→RM ((XT×Int×Int)×List Nat)
 |[t,n,d]=>(mT [t]).bind fun(X,σ)=>match n.dc,d.dc with
  |some (_,_,n),some (_,_,d)=>.ret ((X,n,d),σ)
  |_,_=>.fail "no numbers"
 |_=>.fail "node: arguments"
def mLv:List AV→RM ((XT×Int)×List Nat)
 |[t,n]=>(mT [t]).bind fun(X,σ)=>match n.dc with
  |some (_,_,n)=>.ret ((X,n),σ)
  |_=>.fail "no numbers"
 |_=>.fail "leave: arguments"
abbrev yj:=dA sNo mNo
abbrev ajY:=dA sLv mLv
abbrev yk:=aov (dA sWs mTN)
abbrev aoy:=uT [qx,dU,dU] [qx] (fun(l,_,_,())=>[(l:List En).length≤100000,ir (bA l)]) (fun(l,key,val,())=>(bw l key val,()))
abbrev aoz:=bY [qx,dU] [qx,cV] (fun(l,_,())=>[(l:List En).length≤100000,ir (bA l)]) (fun(l,key,())=>(cz l key,gF l key,()))
abbrev aqL:=bY [wU,dU] [bq] (fun(l,_,())=>[(l:List Br).length≤1000000,ir (mo l)]) (fun(l,key,())=>(aU l key,()))
def oM(f:Nat):aH:=[(37,yj),(85,ajY),(66,yk),(50,aoy),(39,aqL),(92,sJ),(80,dA (w5 f) amH)]
def oN(f:Nat):aH:=[(37,yj),(85,ajY),(66,yk),(52,aoz),(39,aqL),(92,sJ),(80,dA (w6 f) amI)]
abbrev eN:TypeId:=73
def adX:List (Nat×Norm):=[(5,⟨[],[0,1,4,12],6,[]⟩),(10,⟨[],[0,1,2,3,4,12],6,[]⟩),(14,⟨[],[0,1,12,13,14,15],6,[]⟩),(18,⟨[],[0,1,12,14,15],6,[]⟩)]
noncomputable def asQ(th:Th)(m:As)(fu root:Int)(fr fs gn:Ws)(n:Int)(key val:ByteArray)(es:List En)(bs:List Br):bC:=
 ⟨sl 106 [(0,.ptr 0 0),(1,bP n),(4,.fn fP1 [.ptr 4 0,.ptr 5 0]),(12,.ptr 6 0)],qJ th m fu root fr fs gn key val++[obN true es bs eN],hr Tryd.f80 5,{}⟩
noncomputable def aoA(th:Th)(m:As)(fu root:Int)(fr fs gn:Ws)(n deep:Int)(key val:ByteArray)(l:Bool)(es:List En)(bs:List Br):bC:=
 ⟨sl 106 [(0,.ptr 0 0),(1,bP n),(2,bP deep),(3,.s (.str key)),(4,.fn fP1 [.ptr 4 0,.ptr 5 0]),(12,.ptr 6 0)],qJ th m fu root fr fs gn key val++[obN l es bs eN],hr Tryd.f80 10,{}⟩
noncomputable def aoB(th:Th)(m:As)(fu root:Int)(fr fs gn:Ws)(n:Int)(key val:ByteArray)(l:Bool)(es:List En)(bs:List Br)(k e:Int)(r:List Br):bC:=
 ⟨sl 106 [(0,.ptr 0 0),(1,bP n),(12,.ptr 6 0),(13,bP e),(14,bP k),(15,.vec 7)],qJ th m fu root fr fs gn key val++[obN l es bs eN,.vec (.ae cB r) Lf.eB],hr Tryd.f80 14,{}⟩
noncomputable def aoC(th:Th)(m:As)(fu root:Int)(fr fs gn:Ws)(n:Int)(key val:ByteArray)(l:Bool)(es:List En)(bs:List Br)(k:Int)(r:List Br):bC:=
 ⟨sl 106 [(0,.ptr 0 0),(1,bP n),(12,.ptr 6 0),(14,bP k),(15,.vec 7)],qJ th m fu root fr fs gn key val++[obN l es bs eN,.vec (.ae cB r) Lf.eB],hr Tryd.f80 18,{}⟩
theorem auS(f:Nat)(th:Th)(m:As)(fu root:Int)(fr fs gn:Ws)(n deep:Int)(key val:ByteArray):run P (oM f).sum Tryd.f80 adX (start Tryd.f80 [.ptr 0 0,bP n,bP deep,.s (.str key),.fn fP1 [.ptr 4 0,.ptr 5 0]] (qJ th m fu root fr fs gn key val)) (inl:=[fP1])=
 Tree.need (bE (some [AV.ptr 0 0,.s (.int .i64 n),.s (.int .i64 deep)])) (.need (bE (some [ad.own [.ptr 1 0,.s (.int .i64 root),.ints .u64 16 fr,.ints .u64 16 fs,.ints .u64 16 gn] 70,.own [.vec 2,.ag 3,.s (.int .i64 fu)] 96,.vec (.ae [.arr .u8 64] th) 138,.map (.arr .u8 64) m])) (.need (Ds.bM th m fu) (.need (aD n) (.ite (fM th m n deep !=0) (.ret [.own [.ptr 1 0,.s (.int .i64 root),.ints .u64 16 fr,.ints .u64 16 fs,.ints .u64 16 gn] 70,.own [.vec 2,.ag 3,.s (.int .i64 fu)] 96,.vec (.ae [.arr .u8 64] th) 138,.map (.arr .u8 64) m,.own [.s (.str key)] 9,.own [.s (.str val)] 9,.own [.s (.bool (ke th m n deep)),.s (.ro (.ae [.str,.str] (bN th m n deep))),.s (.ro (.ae [.str,.int .i64] (aL th m n deep)))] 73] (.bm [.emp,.s (.int .i64 (fM th m n deep))])) (.ite (ke th m n deep) (.at (.mk (sl 106 [(0,.ptr 0 0),(1,.s (.int .i64 n)),(4,.fn 49 [.ptr 4 0,.ptr 5 0]),(12,.ptr 6 0)]) [.own [.ptr 1 0,.s (.int .i64 root),.ints .u64 16 fr,.ints .u64 16 fs,.ints .u64 16 gn] 70,.own [.vec 2,.ag 3,.s (.int .i64 fu)] 96,.vec (.ae [.arr .u8 64] th) 138,.map (.arr .u8 64) m,.own [.s (.str key)] 9,.own [.s (.str val)] 9,.own [.s (.bool (ke th m n deep)),.s (.ro (.ae [.str,.str] (bN th m n deep))),.s (.ro (.ae [.str,.int .i64] (aL th m n deep)))] 73] (hr Tryd.f80 5) (.mk none false 0 [] 0))) (.at (.mk (sl 106 [(0,.ptr 0 0),(1,.s (.int .i64 n)),(2,.s (.int .i64 deep)),(3,.s (.str key)),(4,.fn 49 [.ptr 4 0,.ptr 5 0]),(12,.ptr 6 0)]) [.own [.ptr 1 0,.s (.int .i64 root),.ints .u64 16 fr,.ints .u64 16 fs,.ints .u64 16 gn] 70,.own [.vec 2,.ag 3,.s (.int .i64 fu)] 96,.vec (.ae [.arr .u8 64] th) 138,.map (.arr .u8 64) m,.own [.s (.str key)] 9,.own [.s (.str val)] 9,.own [.s (.bool (ke th m n deep)),.s (.ro (.ae [.str,.str] (bN th m n deep))),.s (.ro (.ae [.str,.int .i64] (aL th m n deep)))] 73] (hr Tryd.f80 10) (.mk none false 0 [] 0)))))))):=by kernel_rfl
theorem asR(f:Nat)(th:Th)(m:As)(fu root:Int)(fr fs gn:Ws)(n:Int)(key val:ByteArray)(es:List En)(bs:List Br):run P (oM f).sum Tryd.f80 adX (asQ th m fu root fr fs gn n key val es bs) (inl:=[fP1])=
 Tree.need (es.length≤100000) (.need (ir (bA es)) (.need (bE (some [AV.ptr 0 0,.s (.int .i64 n)])) (.need (bE (some [ad.own [.ptr 1 0,.s (.int .i64 root),.ints .u64 16 fr,.ints .u64 16 fs,.ints .u64 16 gn] 70,.own [.vec 2,.ag 3,.s (.int .i64 fu)] 96,.vec (.ae [.arr .u8 64] th) 138,.map (.arr .u8 64) m])) (.need (bE (some [AV.ptr 0 0,.agg [.s (.bool true),.s (.ro (.ae [.str,.str] (bw es key val))),.s (.ro (.ae [.str,.int .i64] bs))]])) (.need (bE (some [ad.own [.ptr 1 0,.s (.int .i64 root),.ints .u64 16 fr,.ints .u64 16 (je fs n),.ints .u64 16 (pz fs gn n)] 70,.own [.vec 2,.ag 3,.s (.int .i64 fu)] 96,.vec (.ae [.arr .u8 64] th) 138,.map (.arr .u8 64) m])) (.need (Ds.bM th m fu) (.need (Bx.okW fr) (.need (zX true (bw es key val) bs) (.need (a8 (bw es key val)) (.need (ba bs) (.ret [.own [.ptr 1 0,.s (.int .i64 root),.ints .u64 16 (bo th m fu fr (je fs n) true (bw es key val) bs).snd.snd.fst,.ints .u64 16 (bo th m fu fr (je fs n) true (bw es key val) bs).snd.snd.snd.fst,.ints .u64 16 (pz fs gn n)] 70,.own [.vec 2,.ag 3,.s (.int .i64 (bo th m fu fr (je fs n) true (bw es key val) bs).snd.fst)] 96,.vec (.ae [.arr .u8 64] th) 138,.map (.arr .u8 64) (bo th m fu fr (je fs n) true (bw es key val) bs).fst,.own [.s (.str key)] 9,.own [.s (.str val)] 9,.own [.s (.bool true),.vec 7,.s (.ro (.ae [.str,.int .i64] bs))] 73,.dead,.vec (.ae [.str,.int .i64] (bo th m fu fr (je fs n) true (bw es key val) bs).snd.snd.snd.snd.fst) 79] (.bm [.vec 8,.s (.int .i64 (bo th m fu fr (je fs n) true (bw es key val) bs).snd.snd.snd.snd.snd)])))))))))))):=by kernel_rfl
theorem aqM(f:Nat)(th:Th)(m:As)(fu root:Int)(fr fs gn:Ws)(n deep:Int)(key val:ByteArray)(l:Bool)(es:List En)(bs:List Br):run P (oM f).sum Tryd.f80 adX (aoA th m fu root fr fs gn n deep key val l es bs) (inl:=[fP1])=
 Tree.ite ((↑bs.length:Int)==0) (.ret [.own [.ptr 1 0,.s (.int .i64 root),.ints .u64 16 fr,.ints .u64 16 fs,.ints .u64 16 gn] 70,.own [.vec 2,.ag 3,.s (.int .i64 fu)] 96,.vec (.ae [.arr .u8 64] th) 138,.map (.arr .u8 64) m,.own [.s (.str key)] 9,.own [.s (.str val)] 9,.own [.s (.bool l),.s (.ro (.ae [.str,.str] es)),.s (.ro (.ae [.str,.int .i64] bs))] 73] (.bm [.emp,.s (.aZ .i64 4)]))
 (.need (bs.length≤1000000) (.need (ir (mo bs)) (.need ((0:Int)≤aU bs key) (.need (aU bs key<(↑bs.length:Int)) (.need (aD (deep+1)) (.need (bE (some [AV.ptr 0 0,.s (.int .i64 (bs.getD (aU bs key).toNat (CL.d [.str,.int .i64])).snd.fst),.s (.int .i64 (deep+1)),.s (.str key),.fn 49 [.ptr 4 0,.ptr 5 0]])) (.need (bE (some [ad.own [.ptr 1 0,.s (.int .i64 root),.ints .u64 16 fr,.ints .u64 16 fs,.ints .u64 16 gn] 70,.own [.vec 2,.ag 3,.s (.int .i64 fu)] 96,.vec (.ae [.arr .u8 64] th) 138,.map (.arr .u8 64) m,.own [.s (.str key)] 9,.own [.s (.str val)] 9])) (.need (Ds.bM th m fu) (.need (Bx.okW fr) (.need ((0:Int)≤(bs.getD (aU bs key).toNat (CL.d [.str,.int .i64])).snd.fst∧(bs.getD (aU bs key).toNat (CL.d [.str,.int .i64])).snd.fst≤65536) (.need ((1:Int)≤deep+1∧deep+1≤17) (.need ((18:Int)≤deep+1+(↑f:Int)) (.need ((1:Nat)≤key.size∧key.size≤24) (.need (val.size≤100) (.at (.mk (sl 106 [(0,.ptr 0 0),(1,.s (.int .i64 n)),(12,.ptr 6 0),(13,.s (.int .i64 (rW th key (some val) f m fu fr fs gn (bs.getD (aU bs key).toNat (CL.d [.str,.int .i64])).snd.fst (deep+1)))),(14,.s (.int .i64 (aU bs key))),(15,.vec 7)]) [.own [.ptr 1 0,.s (.int .i64 root),.ints .u64 16 (pE th key (some val) f m fu fr fs gn (bs.getD (aU bs key).toNat (CL.d [.str,.int .i64])).snd.fst (deep+1)),.ints .u64 16 (qL th key (some val) f m fu fr fs gn (bs.getD (aU bs key).toNat (CL.d [.str,.int .i64])).snd.fst (deep+1)),.ints .u64 16 (rV th key (some val) f m fu fr fs gn (bs.getD (aU bs key).toNat (CL.d [.str,.int .i64])).snd.fst (deep+1))] 70,.own [.vec 2,.ag 3,.s (.int .i64 (pD th key (some val) f m fu fr fs gn (bs.getD (aU bs key).toNat (CL.d [.str,.int .i64])).snd.fst (deep+1)))] 96,.vec (.ae [.arr .u8 64] th) 138,.map (.arr .u8 64) (pC th key (some val) f m fu fr fs gn (bs.getD (aU bs key).toNat (CL.d [.str,.int .i64])).snd.fst (deep+1)),.own [.s (.str key)] 9,.own [.s (.str val)] 9,.own [.s (.bool l),.s (.ro (.ae [.str,.str] es)),.s (.ro (.ae [.str,.int .i64] bs))] 73,.vec (.ae [.str,.int .i64] (tc th key (some val) f m fu fr fs gn (bs.getD (aU bs key).toNat (CL.d [.str,.int .i64])).snd.fst (deep+1))) 79] (hr Tryd.f80 14) (.mk none false 0 [] 0))))))))))))))))):=by kernel_rfl
theorem aqN(f:Nat)(th:Th)(m:As)(fu root:Int)(fr fs gn:Ws)(n:Int)(key val:ByteArray)(l:Bool)(es:List En)(bs:List Br)(k e:Int)(r:List Br):run P (oM f).sum Tryd.f80 adX (aoB th m fu root fr fs gn n key val l es bs k e r) (inl:=[fP1])=
 Tree.ite (e !=0) (.ret [.own [.ptr 1 0,.s (.int .i64 root),.ints .u64 16 fr,.ints .u64 16 fs,.ints .u64 16 gn] 70,.own [.vec 2,.ag 3,.s (.int .i64 fu)] 96,.vec (.ae [.arr .u8 64] th) 138,.map (.arr .u8 64) m,.own [.s (.str key)] 9,.own [.s (.str val)] 9,.own [.s (.bool l),.s (.ro (.ae [.str,.str] es)),.s (.ro (.ae [.str,.int .i64] bs))] 73,.vec (.ae [.str,.int .i64] r) 79] (.bm [.emp,.s (.int .i64 e)])) (.ite (decide ((↑r.length:Int)>0)) (.need ((0:Int)≤k) (.need (k<(↑bs.length:Int)) (.need ((0:Int)≤0) (.need ((0:Int)<(↑r.length:Int)) (.at (.mk (sl 106 [(0,.ptr 0 0),(1,.s (.int .i64 n)),(12,.ptr 6 0),(14,.s (.int .i64 k)),(15,.vec 7)]) [.own [.ptr 1 0,.s (.int .i64 root),.ints .u64 16 fr,.ints .u64 16 fs,.ints .u64 16 gn] 70,.own [.vec 2,.ag 3,.s (.int .i64 fu)] 96,.vec (.ae [.arr .u8 64] th) 138,.map (.arr .u8 64) m,.own [.s (.str key)] 9,.own [.s (.str val)] 9,.own [.s (.bool l),.s (.ro (.ae [.str,.str] es)),.s (.ro (.ae [.str,.int .i64] bs))] 73,.vec (.ae [.str,.int .i64] (r.set 0 ((bs.getD k.toNat (CL.d [.str,.int .i64])).fst,(r.getD 0 (CL.d [.str,.int .i64])).snd))) 79] (hr Tryd.f80 18) (.mk none false 0 [] 0))))))) (.at (.mk (sl 106 [(0,.ptr 0 0),(1,.s (.int .i64 n)),(12,.ptr 6 0),(14,.s (.int .i64 k)),(15,.vec 7)]) [.own [.ptr 1 0,.s (.int .i64 root),.ints .u64 16 fr,.ints .u64 16 fs,.ints .u64 16 gn] 70,.own [.vec 2,.ag 3,.s (.int .i64 fu)] 96,.vec (.ae [.arr .u8 64] th) 138,.map (.arr .u8 64) m,.own [.s (.str key)] 9,.own [.s (.str val)] 9,.own [.s (.bool l),.s (.ro (.ae [.str,.str] es)),.s (.ro (.ae [.str,.int .i64] bs))] 73,.vec (.ae [.str,.int .i64] r) 79] (hr Tryd.f80 18) (.mk none false 0 [] 0)))):=by kernel_rfl
theorem aqO(f:Nat)(th:Th)(m:As)(fu root:Int)(fr fs gn:Ws)(n:Int)(key val:ByteArray)(l:Bool)(es:List En)(bs:List Br)(k:Int)(r:List Br):run P (oM f).sum Tryd.f80 adX (aoC th m fu root fr fs gn n key val l es bs k r) (inl:=[fP1])=
 Tree.need ((0:Int)≤0)
 (.need ((0:Int)≤k)
   (.need (k≤(↑bs.length:Int))
     (.need (aD (k+1))
       (.need ((0:Int)≤k+1)
         (.need (k+1≤(↑bs.length:Int))
           (.need ((↑bs.length:Int)≤(↑bs.length:Int))
             (.need ([(List.drop (Int.toNat 0) (List.take k.toNat bs),()),(r,()),(List.drop (k+1).toNat (List.take (↑bs.length:Int).toNat bs),())].length≤100)
               (.need ((bW [(List.drop (Int.toNat 0) (List.take k.toNat bs),()),(r,()),(List.drop (k+1).toNat (List.take (↑bs.length:Int).toNat bs),())]).length≤100000)
                 (.need (bE (some [AV.ptr 0 0,.s (.int .i64 n)])) (.need (bE (some [ad.own [.ptr 1 0,.s (.int .i64 root),.ints .u64 16 fr,.ints .u64 16 fs,.ints .u64 16 gn] 70,.own [.vec 2,.ag 3,.s (.int .i64 fu)] 96,.vec (.ae [.arr .u8 64] th) 138,.map (.arr .u8 64) m])) (.need (bE (some [AV.ptr 0 0,.agg [.s (.bool l),.s (.ro (.ae [.str,.str] es)),.s (.ro (.ae [.str,.int .i64] (bW [(List.drop (Int.toNat 0) (List.take k.toNat bs),()),(r,()),(List.drop (k+1).toNat (List.take (↑bs.length:Int).toNat bs),())])))]])) (.need (bE (some [ad.own [.ptr 1 0,.s (.int .i64 root),.ints .u64 16 fr,.ints .u64 16 (je fs n),.ints .u64 16 (pz fs gn n)] 70,.own [.vec 2,.ag 3,.s (.int .i64 fu)] 96,.vec (.ae [.arr .u8 64] th) 138,.map (.arr .u8 64) m])) (.need (Ds.bM th m fu) (.need (Bx.okW fr) (.need (zX l es (bW [(List.drop (Int.toNat 0) (List.take k.toNat bs),()),(r,()),(List.drop (k+1).toNat (List.take (↑bs.length:Int).toNat bs),())])) (.need (a8 es) (.need (ba (bW [(List.drop (Int.toNat 0) (List.take k.toNat bs),()),(r,()),(List.drop (k+1).toNat (List.take (↑bs.length:Int).toNat bs),())])) (.ret [.own [.ptr 1 0,.s (.int .i64 root),.ints .u64 16 (bo th m fu fr (je fs n) l es (bW [(List.drop (Int.toNat 0) (List.take k.toNat bs),()),(r,()),(List.drop (k+1).toNat (List.take (↑bs.length:Int).toNat bs),())])).snd.snd.fst,.ints .u64 16 (bo th m fu fr (je fs n) l es (bW [(List.drop (Int.toNat 0) (List.take k.toNat bs),()),(r,()),(List.drop (k+1).toNat (List.take (↑bs.length:Int).toNat bs),())])).snd.snd.snd.fst,.ints .u64 16 (pz fs gn n)] 70,.own [.vec 2,.ag 3,.s (.int .i64 (bo th m fu fr (je fs n) l es (bW [(List.drop (Int.toNat 0) (List.take k.toNat bs),()),(r,()),(List.drop (k+1).toNat (List.take (↑bs.length:Int).toNat bs),())])).snd.fst)] 96,.vec (.ae [.arr .u8 64] th) 138,.map (.arr .u8 64) (bo th m fu fr (je fs n) l es (bW [(List.drop (Int.toNat 0) (List.take k.toNat bs),()),(r,()),(List.drop (k+1).toNat (List.take (↑bs.length:Int).toNat bs),())])).fst,.own [.s (.str key)] 9,.own [.s (.str val)] 9,.own [.s (.bool l),.s (.ro (.ae [.str,.str] es)),.vec 9] 73,.dead,.vec (.ae wY [(List.drop (Int.toNat 0) (List.take k.toNat bs),()),(r,()),(List.drop (k+1).toNat (List.take (↑bs.length:Int).toNat bs),())]) 71,.dead,.vec (.ae [.str,.int .i64] (bo th m fu fr (je fs n) l es (bW [(List.drop (Int.toNat 0) (List.take k.toNat bs),()),(r,()),(List.drop (k+1).toNat (List.take (↑bs.length:Int).toNat bs),())])).snd.snd.snd.snd.fst) 79] (.bm [.vec 10,.s (.int .i64 (bo th m fu fr (je fs n) l es (bW [(List.drop (Int.toNat 0) (List.take k.toNat bs),()),(r,()),(List.drop (k+1).toNat (List.take (↑bs.length:Int).toNat bs),())])).snd.snd.snd.snd.snd)]))))))))))))))))))):=by kernel_rfl
def adY:List (Nat×Norm):=[(5,⟨[],[0,1,4,12],5,[]⟩),(10,⟨[],[0,1,2,3,4,12],5,[]⟩),(14,⟨[],[0,1,12,13,14,15],5,[]⟩),(18,⟨[],[0,1,12,14,15],5,[]⟩)]
noncomputable def asS(th:Th)(m:As)(fu root:Int)(fr fs gn:Ws)(n:Int)(key:ByteArray)(es:List En)(bs:List Br):bC:=
 ⟨sl 106 [(0,.ptr 0 0),(1,bP n),(4,.fn fD1 [.ptr 4 0]),(12,.ptr 5 0)],qK th m fu root fr fs gn key++[obN true es bs eN],hr Tryd.f80 5,{}⟩
noncomputable def aoD(th:Th)(m:As)(fu root:Int)(fr fs gn:Ws)(n deep:Int)(key:ByteArray)(l:Bool)(es:List En)(bs:List Br):bC:=
 ⟨sl 106 [(0,.ptr 0 0),(1,bP n),(2,bP deep),(3,.s (.str key)),(4,.fn fD1 [.ptr 4 0]),(12,.ptr 5 0)],qK th m fu root fr fs gn key++[obN l es bs eN],hr Tryd.f80 10,{}⟩
noncomputable def aoE(th:Th)(m:As)(fu root:Int)(fr fs gn:Ws)(n:Int)(key:ByteArray)(l:Bool)(es:List En)(bs:List Br)(k e:Int)(r:List Br):bC:=
 ⟨sl 106 [(0,.ptr 0 0),(1,bP n),(12,.ptr 5 0),(13,bP e),(14,bP k),(15,.vec 6)],qK th m fu root fr fs gn key++[obN l es bs eN,.vec (.ae cB r) Lf.eB],hr Tryd.f80 14,{}⟩
noncomputable def aoF(th:Th)(m:As)(fu root:Int)(fr fs gn:Ws)(n:Int)(key:ByteArray)(l:Bool)(es:List En)(bs:List Br)(k:Int)(r:List Br):bC:=
 ⟨sl 106 [(0,.ptr 0 0),(1,bP n),(12,.ptr 5 0),(14,bP k),(15,.vec 6)],qK th m fu root fr fs gn key++[obN l es bs eN,.vec (.ae cB r) Lf.eB],hr Tryd.f80 18,{}⟩
theorem auT(f:Nat)(th:Th)(m:As)(fu root:Int)(fr fs gn:Ws)(n deep:Int)(key:ByteArray):run P (oN f).sum Tryd.f80 adY (start Tryd.f80 [.ptr 0 0,bP n,bP deep,.s (.str key),.fn fD1 [.ptr 4 0]] (qK th m fu root fr fs gn key)) (inl:=[fD1])=
 Tree.need (bE (some [AV.ptr 0 0,.s (.int .i64 n),.s (.int .i64 deep)])) (.need (bE (some [ad.own [.ptr 1 0,.s (.int .i64 root),.ints .u64 16 fr,.ints .u64 16 fs,.ints .u64 16 gn] 70,.own [.vec 2,.ag 3,.s (.int .i64 fu)] 96,.vec (.ae [.arr .u8 64] th) 138,.map (.arr .u8 64) m])) (.need (Ds.bM th m fu) (.need (aD n) (.ite (fM th m n deep !=0) (.ret [.own [.ptr 1 0,.s (.int .i64 root),.ints .u64 16 fr,.ints .u64 16 fs,.ints .u64 16 gn] 70,.own [.vec 2,.ag 3,.s (.int .i64 fu)] 96,.vec (.ae [.arr .u8 64] th) 138,.map (.arr .u8 64) m,.own [.s (.str key)] 9,.own [.s (.bool (ke th m n deep)),.s (.ro (.ae [.str,.str] (bN th m n deep))),.s (.ro (.ae [.str,.int .i64] (aL th m n deep)))] 73] (.bm [.emp,.s (.int .i64 (fM th m n deep))])) (.ite (ke th m n deep) (.at (.mk (sl 106 [(0,.ptr 0 0),(1,.s (.int .i64 n)),(4,.fn 51 [.ptr 4 0]),(12,.ptr 5 0)]) [.own [.ptr 1 0,.s (.int .i64 root),.ints .u64 16 fr,.ints .u64 16 fs,.ints .u64 16 gn] 70,.own [.vec 2,.ag 3,.s (.int .i64 fu)] 96,.vec (.ae [.arr .u8 64] th) 138,.map (.arr .u8 64) m,.own [.s (.str key)] 9,.own [.s (.bool (ke th m n deep)),.s (.ro (.ae [.str,.str] (bN th m n deep))),.s (.ro (.ae [.str,.int .i64] (aL th m n deep)))] 73] (hr Tryd.f80 5) (.mk none false 0 [] 0))) (.at (.mk (sl 106 [(0,.ptr 0 0),(1,.s (.int .i64 n)),(2,.s (.int .i64 deep)),(3,.s (.str key)),(4,.fn 51 [.ptr 4 0]),(12,.ptr 5 0)]) [.own [.ptr 1 0,.s (.int .i64 root),.ints .u64 16 fr,.ints .u64 16 fs,.ints .u64 16 gn] 70,.own [.vec 2,.ag 3,.s (.int .i64 fu)] 96,.vec (.ae [.arr .u8 64] th) 138,.map (.arr .u8 64) m,.own [.s (.str key)] 9,.own [.s (.bool (ke th m n deep)),.s (.ro (.ae [.str,.str] (bN th m n deep))),.s (.ro (.ae [.str,.int .i64] (aL th m n deep)))] 73] (hr Tryd.f80 10) (.mk none false 0 [] 0)))))))):=by kernel_rfl
theorem asT(f:Nat)(th:Th)(m:As)(fu root:Int)(fr fs gn:Ws)(n:Int)(key:ByteArray)(es:List En)(bs:List Br):run P (oN f).sum Tryd.f80 adY (asS th m fu root fr fs gn n key es bs) (inl:=[fD1])=
 Tree.need (es.length≤100000) (.need (ir (bA es)) (.ite (!gF es key) (.ret [.own [.ptr 1 0,.s (.int .i64 root),.ints .u64 16 fr,.ints .u64 16 fs,.ints .u64 16 gn] 70,.own [.vec 2,.ag 3,.s (.int .i64 fu)] 96,.vec (.ae [.arr .u8 64] th) 138,.map (.arr .u8 64) m,.own [.s (.str key)] 9,.own [.s (.bool true),.emp,.s (.ro (.ae [.str,.int .i64] bs))] 73,.vec (.ae [.str,.str] (cz es key)) 34] (.bm [.emp,.s (.aZ .i64 5)])) (.need (bE (some [AV.ptr 0 0,.s (.int .i64 n)])) (.need (bE (some [ad.own [.ptr 1 0,.s (.int .i64 root),.ints .u64 16 fr,.ints .u64 16 fs,.ints .u64 16 gn] 70,.own [.vec 2,.ag 3,.s (.int .i64 fu)] 96,.vec (.ae [.arr .u8 64] th) 138,.map (.arr .u8 64) m])) (.need (bE (some [AV.ptr 0 0,.agg [.s (.bool true),.s (.ro (.ae [.str,.str] (cz es key))),.s (.ro (.ae [.str,.int .i64] bs))]])) (.need (bE (some [ad.own [.ptr 1 0,.s (.int .i64 root),.ints .u64 16 fr,.ints .u64 16 (je fs n),.ints .u64 16 (pz fs gn n)] 70,.own [.vec 2,.ag 3,.s (.int .i64 fu)] 96,.vec (.ae [.arr .u8 64] th) 138,.map (.arr .u8 64) m])) (.need (Ds.bM th m fu) (.need (Bx.okW fr) (.need (zX true (cz es key) bs) (.need (a8 (cz es key)) (.need (ba bs) (.ret [.own [.ptr 1 0,.s (.int .i64 root),.ints .u64 16 (bo th m fu fr (je fs n) true (cz es key) bs).snd.snd.fst,.ints .u64 16 (bo th m fu fr (je fs n) true (cz es key) bs).snd.snd.snd.fst,.ints .u64 16 (pz fs gn n)] 70,.own [.vec 2,.ag 3,.s (.int .i64 (bo th m fu fr (je fs n) true (cz es key) bs).snd.fst)] 96,.vec (.ae [.arr .u8 64] th) 138,.map (.arr .u8 64) (bo th m fu fr (je fs n) true (cz es key) bs).fst,.own [.s (.str key)] 9,.own [.s (.bool true),.vec 6,.s (.ro (.ae [.str,.int .i64] bs))] 73,.dead,.vec (.ae [.str,.int .i64] (bo th m fu fr (je fs n) true (cz es key) bs).snd.snd.snd.snd.fst) 79] (.bm [.vec 7,.s (.int .i64 (bo th m fu fr (je fs n) true (cz es key) bs).snd.snd.snd.snd.snd)]))))))))))))):=by kernel_rfl
theorem aqP(f:Nat)(th:Th)(m:As)(fu root:Int)(fr fs gn:Ws)(n deep:Int)(key:ByteArray)(l:Bool)(es:List En)(bs:List Br):run P (oN f).sum Tryd.f80 adY (aoD th m fu root fr fs gn n deep key l es bs) (inl:=[fD1])=
 Tree.ite ((↑bs.length:Int)==0) (.ret [.own [.ptr 1 0,.s (.int .i64 root),.ints .u64 16 fr,.ints .u64 16 fs,.ints .u64 16 gn] 70,.own [.vec 2,.ag 3,.s (.int .i64 fu)] 96,.vec (.ae [.arr .u8 64] th) 138,.map (.arr .u8 64) m,.own [.s (.str key)] 9,.own [.s (.bool l),.s (.ro (.ae [.str,.str] es)),.s (.ro (.ae [.str,.int .i64] bs))] 73] (.bm [.emp,.s (.aZ .i64 4)])) (.need (bs.length≤1000000) (.need (ir (mo bs)) (.need ((0:Int)≤aU bs key) (.need (aU bs key<(↑bs.length:Int)) (.need (aD (deep+1)) (.need (bE (some [AV.ptr 0 0,.s (.int .i64 (bs.getD (aU bs key).toNat (CL.d [.str,.int .i64])).snd.fst),.s (.int .i64 (deep+1)),.s (.str key),.fn 51 [.ptr 4 0]])) (.need (bE (some [ad.own [.ptr 1 0,.s (.int .i64 root),.ints .u64 16 fr,.ints .u64 16 fs,.ints .u64 16 gn] 70,.own [.vec 2,.ag 3,.s (.int .i64 fu)] 96,.vec (.ae [.arr .u8 64] th) 138,.map (.arr .u8 64) m,.own [.s (.str key)] 9])) (.need (Ds.bM th m fu) (.need (Bx.okW fr) (.need ((0:Int)≤(bs.getD (aU bs key).toNat (CL.d [.str,.int .i64])).snd.fst∧(bs.getD (aU bs key).toNat (CL.d [.str,.int .i64])).snd.fst≤65536) (.need ((1:Int)≤deep+1∧deep+1≤17) (.need ((18:Int)≤deep+1+(↑f:Int)) (.need ((1:Nat)≤key.size∧key.size≤24) (.need (ByteArray.empty.size≤100) (.at (.mk (sl 106 [(0,.ptr 0 0),(1,.s (.int .i64 n)),(12,.ptr 5 0),(13,.s (.int .i64 (rW th key none f m fu fr fs gn (bs.getD (aU bs key).toNat (CL.d [.str,.int .i64])).snd.fst (deep+1)))),(14,.s (.int .i64 (aU bs key))),(15,.vec 6)]) [.own [.ptr 1 0,.s (.int .i64 root),.ints .u64 16 (pE th key none f m fu fr fs gn (bs.getD (aU bs key).toNat (CL.d [.str,.int .i64])).snd.fst (deep+1)),.ints .u64 16 (qL th key none f m fu fr fs gn (bs.getD (aU bs key).toNat (CL.d [.str,.int .i64])).snd.fst (deep+1)),.ints .u64 16 (rV th key none f m fu fr fs gn (bs.getD (aU bs key).toNat (CL.d [.str,.int .i64])).snd.fst (deep+1))] 70,.own [.vec 2,.ag 3,.s (.int .i64 (pD th key none f m fu fr fs gn (bs.getD (aU bs key).toNat (CL.d [.str,.int .i64])).snd.fst (deep+1)))] 96,.vec (.ae [.arr .u8 64] th) 138,.map (.arr .u8 64) (pC th key none f m fu fr fs gn (bs.getD (aU bs key).toNat (CL.d [.str,.int .i64])).snd.fst (deep+1)),.own [.s (.str key)] 9,.own [.s (.bool l),.s (.ro (.ae [.str,.str] es)),.s (.ro (.ae [.str,.int .i64] bs))] 73,.vec (.ae [.str,.int .i64] (tc th key none f m fu fr fs gn (bs.getD (aU bs key).toNat (CL.d [.str,.int .i64])).snd.fst (deep+1))) 79] (hr Tryd.f80 14) (.mk none false 0 [] 0))))))))))))))))):=by kernel_rfl
theorem aqQ(f:Nat)(th:Th)(m:As)(fu root:Int)(fr fs gn:Ws)(n:Int)(key:ByteArray)(l:Bool)(es:List En)(bs:List Br)(k e:Int)(r:List Br):run P (oN f).sum Tryd.f80 adY (aoE th m fu root fr fs gn n key l es bs k e r) (inl:=[fD1])=
 Tree.ite (e !=0) (.ret [.own [.ptr 1 0,.s (.int .i64 root),.ints .u64 16 fr,.ints .u64 16 fs,.ints .u64 16 gn] 70,.own [.vec 2,.ag 3,.s (.int .i64 fu)] 96,.vec (.ae [.arr .u8 64] th) 138,.map (.arr .u8 64) m,.own [.s (.str key)] 9,.own [.s (.bool l),.s (.ro (.ae [.str,.str] es)),.s (.ro (.ae [.str,.int .i64] bs))] 73,.vec (.ae [.str,.int .i64] r) 79] (.bm [.emp,.s (.int .i64 e)])) (.ite (decide ((↑r.length:Int)>0)) (.need ((0:Int)≤k) (.need (k<(↑bs.length:Int)) (.need ((0:Int)≤0) (.need ((0:Int)<(↑r.length:Int)) (.at (.mk (sl 106 [(0,.ptr 0 0),(1,.s (.int .i64 n)),(12,.ptr 5 0),(14,.s (.int .i64 k)),(15,.vec 6)]) [.own [.ptr 1 0,.s (.int .i64 root),.ints .u64 16 fr,.ints .u64 16 fs,.ints .u64 16 gn] 70,.own [.vec 2,.ag 3,.s (.int .i64 fu)] 96,.vec (.ae [.arr .u8 64] th) 138,.map (.arr .u8 64) m,.own [.s (.str key)] 9,.own [.s (.bool l),.s (.ro (.ae [.str,.str] es)),.s (.ro (.ae [.str,.int .i64] bs))] 73,.vec (.ae [.str,.int .i64] (r.set 0 ((bs.getD k.toNat (CL.d [.str,.int .i64])).fst,(r.getD 0 (CL.d [.str,.int .i64])).snd))) 79] (hr Tryd.f80 18) (.mk none false 0 [] 0))))))) (.at (.mk (sl 106 [(0,.ptr 0 0),(1,.s (.int .i64 n)),(12,.ptr 5 0),(14,.s (.int .i64 k)),(15,.vec 6)]) [.own [.ptr 1 0,.s (.int .i64 root),.ints .u64 16 fr,.ints .u64 16 fs,.ints .u64 16 gn] 70,.own [.vec 2,.ag 3,.s (.int .i64 fu)] 96,.vec (.ae [.arr .u8 64] th) 138,.map (.arr .u8 64) m,.own [.s (.str key)] 9,.own [.s (.bool l),.s (.ro (.ae [.str,.str] es)),.s (.ro (.ae [.str,.int .i64] bs))] 73,.vec (.ae [.str,.int .i64] r) 79] (hr Tryd.f80 18) (.mk none false 0 [] 0)))):=by kernel_rfl
theorem aqR(f:Nat)(th:Th)(m:As)(fu root:Int)(fr fs gn:Ws)(n:Int)(key:ByteArray)(l:Bool)(es:List En)(bs:List Br)(k:Int)(r:List Br):run P (oN f).sum Tryd.f80 adY (aoF th m fu root fr fs gn n key l es bs k r) (inl:=[fD1])=
 Tree.need ((0:Int)≤0)
 (.need ((0:Int)≤k)
   (.need (k≤(↑bs.length:Int))
     (.need (aD (k+1))
       (.need ((0:Int)≤k+1)
         (.need (k+1≤(↑bs.length:Int))
           (.need ((↑bs.length:Int)≤(↑bs.length:Int))
             (.need ([(List.drop (Int.toNat 0) (List.take k.toNat bs),()),(r,()),(List.drop (k+1).toNat (List.take (↑bs.length:Int).toNat bs),())].length≤100)
               (.need ((bW [(List.drop (Int.toNat 0) (List.take k.toNat bs),()),(r,()),(List.drop (k+1).toNat (List.take (↑bs.length:Int).toNat bs),())]).length≤100000)
                 (.need (bE (some [AV.ptr 0 0,.s (.int .i64 n)])) (.need (bE (some [ad.own [.ptr 1 0,.s (.int .i64 root),.ints .u64 16 fr,.ints .u64 16 fs,.ints .u64 16 gn] 70,.own [.vec 2,.ag 3,.s (.int .i64 fu)] 96,.vec (.ae [.arr .u8 64] th) 138,.map (.arr .u8 64) m])) (.need (bE (some [AV.ptr 0 0,.agg [.s (.bool l),.s (.ro (.ae [.str,.str] es)),.s (.ro (.ae [.str,.int .i64] (bW [(List.drop (Int.toNat 0) (List.take k.toNat bs),()),(r,()),(List.drop (k+1).toNat (List.take (↑bs.length:Int).toNat bs),())])))]])) (.need (bE (some [ad.own [.ptr 1 0,.s (.int .i64 root),.ints .u64 16 fr,.ints .u64 16 (je fs n),.ints .u64 16 (pz fs gn n)] 70,.own [.vec 2,.ag 3,.s (.int .i64 fu)] 96,.vec (.ae [.arr .u8 64] th) 138,.map (.arr .u8 64) m])) (.need (Ds.bM th m fu) (.need (Bx.okW fr) (.need (zX l es (bW [(List.drop (Int.toNat 0) (List.take k.toNat bs),()),(r,()),(List.drop (k+1).toNat (List.take (↑bs.length:Int).toNat bs),())])) (.need (a8 es) (.need (ba (bW [(List.drop (Int.toNat 0) (List.take k.toNat bs),()),(r,()),(List.drop (k+1).toNat (List.take (↑bs.length:Int).toNat bs),())])) (.ret [.own [.ptr 1 0,.s (.int .i64 root),.ints .u64 16 (bo th m fu fr (je fs n) l es (bW [(List.drop (Int.toNat 0) (List.take k.toNat bs),()),(r,()),(List.drop (k+1).toNat (List.take (↑bs.length:Int).toNat bs),())])).snd.snd.fst,.ints .u64 16 (bo th m fu fr (je fs n) l es (bW [(List.drop (Int.toNat 0) (List.take k.toNat bs),()),(r,()),(List.drop (k+1).toNat (List.take (↑bs.length:Int).toNat bs),())])).snd.snd.snd.fst,.ints .u64 16 (pz fs gn n)] 70,.own [.vec 2,.ag 3,.s (.int .i64 (bo th m fu fr (je fs n) l es (bW [(List.drop (Int.toNat 0) (List.take k.toNat bs),()),(r,()),(List.drop (k+1).toNat (List.take (↑bs.length:Int).toNat bs),())])).snd.fst)] 96,.vec (.ae [.arr .u8 64] th) 138,.map (.arr .u8 64) (bo th m fu fr (je fs n) l es (bW [(List.drop (Int.toNat 0) (List.take k.toNat bs),()),(r,()),(List.drop (k+1).toNat (List.take (↑bs.length:Int).toNat bs),())])).fst,.own [.s (.str key)] 9,.own [.s (.bool l),.s (.ro (.ae [.str,.str] es)),.vec 8] 73,.dead,.vec (.ae wY [(List.drop (Int.toNat 0) (List.take k.toNat bs),()),(r,()),(List.drop (k+1).toNat (List.take (↑bs.length:Int).toNat bs),())]) 71,.dead,.vec (.ae [.str,.int .i64] (bo th m fu fr (je fs n) l es (bW [(List.drop (Int.toNat 0) (List.take k.toNat bs),()),(r,()),(List.drop (k+1).toNat (List.take (↑bs.length:Int).toNat bs),())])).snd.snd.snd.snd.fst) 79] (.bm [.vec 9,.s (.int .i64 (bo th m fu fr (je fs n) l es (bW [(List.drop (Int.toNat 0) (List.take k.toNat bs),()),(r,()),(List.drop (k+1).toNat (List.take (↑bs.length:Int).toNat bs),())])).snd.snd.snd.snd.snd)]))))))))))))))))))):=by kernel_rfl
end Ts
namespace Ts
open Go Go.Sx Go.Proofs Lf
def TN:Nat→Type
 |0=>Int×List En
 |h+1=>Int×List (ByteArray×TN h)
abbrev Kd(h:Nat):Type:=ByteArray×TN h
def pg:(h:Nat)→TN h→Int
 |0,t=>t.1
 |_+1,t=>t.1
def dL:(h:Nat)→TN h→List En
 |0,t=>t.2
 |h+1,t=>t.2.flatMap fun k=>dL h k.2
def mC:(h:Nat)→TN h→List Int
 |0,t=>[t.1]
 |h+1,t=>t.1::t.2.flatMap fun k=>mC h k.2
def cK(h:Nat)(k:Kd h):Br:=(k.1,pg h k.2,())
def bK(h:Nat)(ks:List (Kd h)):List En:=ks.flatMap fun k=>dL h k.2
def bL(h:Nat)(ks:List (Kd h)):List Int:=ks.flatMap fun k=>mC h k.2
def rep(th:Th)(m:As):(h:Nat)→TN h→Prop
 |0,t=>Rd th m t.1 true t.2 []
 |h+1,t=>Rd th m t.1 false [] (t.2.map (cK h))∧∀k∈t.2,rep th m h k.2
def zZ(h:Nat)(ks:List (Kd h)):Prop:=ks.Pairwise (fun a b=>∀e∈dL h a.2,slt e.1 b.1=true)∧∀k∈ks,∀e∈dL h k.2,slt e.1 k.1=false
def bQ{h:Nat}:List (Kd h)→List (Kd h)
 |[]=>[]
 |k::r=>(ByteArray.empty,k.2)::r
def bX{h:Nat}(s:ByteArray):List (Kd h)→List (Kd h)
 |[]=>[]
 |k::r=>(s,k.2)::r
def lU(h:Nat)(ks:List (Kd h)):Int:=bh [] (ks.map (cK h))
def nY:(h:Nat)→TN h→Prop
 |0,t=>t.2≠[]∧jB t.2=true∧bh t.2 []≤254
 |h+1,t=>t.2≠[]∧bQ t.2=t.2∧gh (t.2.map (cK h))=true∧lU h t.2≤254∧zZ h t.2∧∀k∈t.2,nY h k.2
def w7(n:Int):Nat:=(n - 155).toNat
def te:(h:Nat)→TN h→Nat
 |0,_=>0
 |h+1,t=>3^(h+1)*(19+w7 (lU h t.2))+(t.2.map fun k=>te h k.2).sum
def eO(h:Nat)(ks:List (Kd h)):Nat:=(ks.map fun k=>te h k.2).sum
theorem yl{h:Nat}(t:TN (h+1)):dL (h+1) t=bK h t.2:=rfl
theorem ajZ{h:Nat}(t:TN (h+1)):te (h+1) t=3^(h+1)*(19+w7 (lU h t.2))+eO h t.2:=rfl
theorem vT:∀(h:Nat) (t:TN h),pg h t∈mC h t
 |0,t=>List.mem_singleton.2 rfl
 |h+1,t=>List.mem_cons_self
theorem qM:∀(h:Nat) {t:TN h},nY h t→dL h t≠[]
 |0,t,ok=>ok.1
 |h+1,t,ok=>by
  obtain⟨h1,_,_,_,_,h6⟩:=ok
  obtain⟨k,r,e⟩:=List.exists_cons_of_ne_nil h1
  have:=qM h (h6 k (by rw[e];exact List.mem_cons_self))
  rw[yl,e]
  show dL h k.2++_≠[]
  intro hn
  exact this (List.append_eq_nil_iff.1 hn).1
theorem jK{h:Nat}(a b:List (Kd h)):bK h (a++b)=bK h a++bK h b:=List.flatMap_append
theorem qN{h:Nat}(a b:List (Kd h)):bL h (a++b)=bL h a++bL h b:=List.flatMap_append
theorem qO{h:Nat}(a b:List (Kd h)):eO h (a++b)=eO h a+eO h b:=by simp[eO]
theorem gj{h:Nat}(k:Kd h)(r:List (Kd h)):bK h (k::r)=dL h k.2++bK h r:=rfl
theorem iy{h:Nat}(k:Kd h)(r:List (Kd h)):bL h (k::r)=mC h k.2++bL h r:=rfl
theorem gD{h:Nat}(k:Kd h)(r:List (Kd h)):eO h (k::r)=te h k.2+eO h r:=by simp[eO]
theorem jL{h:Nat}(ks:List (Kd h)):aa (ks.map (cK h))=(bQ ks).map (cK h):=by cases ks<;>rfl
theorem abX{h:Nat}(s:ByteArray)(ks:List (Kd h)):kT s (ks.map (cK h))=(bX s ks).map (cK h):=by cases ks<;>rfl
theorem ahj(s s':ByteArray)(l:List Br):kT s (kT s' l)=kT s l:=by cases l<;>rfl
theorem vU{h:Nat}(ks:List (Kd h)):bQ (bQ ks)=bQ ks:=by cases ks<;>rfl
theorem ahk{h:Nat}(s:ByteArray)(ks:List (Kd h)):bQ (bX s ks)=bQ ks:=by cases ks<;>rfl
theorem pF{h:Nat}(ks:List (Kd h)):bK h (bQ ks)=bK h ks:=by cases ks<;>rfl
theorem ym{h:Nat}(ks:List (Kd h)):bL h (bQ ks)=bL h ks:=by cases ks<;>rfl
theorem yn{h:Nat}(ks:List (Kd h)):eO h (bQ ks)=eO h ks:=by cases ks<;>rfl
theorem ahl{h:Nat}(s:ByteArray)(ks:List (Kd h)):bK h (bX s ks)=bK h ks:=by cases ks<;>rfl
theorem aj0{h:Nat}(s:ByteArray)(ks:List (Kd h)):bL h (bX s ks)=bL h ks:=by cases ks<;>rfl
theorem aj1{h:Nat}(s:ByteArray)(ks:List (Kd h)):eO h (bX s ks)=eO h ks:=by cases ks<;>rfl
theorem gE{h:Nat}{ks:List (Kd h)}{k:Kd h}(hk:k∈bQ ks):∃k'∈ks,k'.2=k.2∧(k.1=ByteArray.empty∨k=k'):=by
 cases ks with
 |nil=>cases hk
 |cons a r=>
  rcases List.mem_cons.1 hk with rfl|h
  ·exact⟨a,List.mem_cons_self,rfl,.inl rfl⟩
  ·exact⟨k,List.mem_cons_of_mem _ h,rfl,.inr rfl⟩
theorem vV(x:Br):3≤pv x:=by unfold pv;omega
theorem aj2(x:En):2≤pM x:=by unfold pM;omega
def hU(bs:List Br):Int:=(bs.map pv).sum
theorem nA:hU []=0:=rfl
theorem dh(b:Br)(r:List Br):hU (b::r)=pv b+hU r:=by simp[hU]
theorem vW(a b:List Br):hU (a++b)=hU a+hU b:=by simp[hU]
theorem amJ(bs:List Br):0≤hU bs:=by
 induction bs with
 |nil=>simp[nA]
 |cons b r ih=>rw[dh];have:=vV b;omega
theorem adZ{h:Nat}(ks:List (Kd h)):lU h ks=1+hU (ks.map (cK h)):=by
 unfold lU bh hU
 simp
theorem rX(bs:List Br):hU (aa bs)≤hU bs:=by
 cases bs with
 |nil=>exact Int.le_refl _
 |cons b r=>
  rw[aa,dh,dh]
  have:pv (ByteArray.empty,b.2.1,())=3:=rfl
  have:=vV b
  omega
theorem fV{bs:List Br}:gh bs=true↔(∀b∈bs,b.1.size≤24∧2≤b.2.1∧b.2.1<1024)∧bs.Pairwise fun a b=>slt a.1 b.1=true:=by
 constructor
 ·intro h
  refine⟨fun b hb=>abD h hb, ?_⟩
  have hs:=ap1 h
  rw[List.pairwise_iff_getElem]
  intro i j hi hj kN
  have:=hs i j kN (by simpa using hj)
  rw[cw bs agX dB i,cw bs agX dB j,bk hi,bk hj]at this
  exact this
 ·rintro⟨h1,h2⟩
  refine cQ.2 fun i hi=>qG.2 ?_
  obtain⟨a,b,c⟩:=h1 (bs.getD i dB) (by rw[bk hi];exact List.getElem_mem hi)
  refine⟨by omega,by omega,by omega,fun h0=> ?_⟩
  rw[List.pairwise_iff_getElem]at h2
  have:=h2 (i - 1) i (by omega) hi (by omega)
  rw[bk (by omega),bk hi]
  exact this
theorem amK{a b:ByteArray}(h:slt a b=true):slt ByteArray.empty b=true:=by
 rcases gA ByteArray.empty b with h1|h1|h1
 ·exact h1
 ·subst h1;rw[gB]at h;cases h
 ·rw[gB]at h1;cases h1
theorem yo{bs:List Br}(h:gh bs=true):gh (aa bs)=true:=by
 rw[fV]at h ⊢
 cases bs with
 |nil=>exact h
 |cons b r=>
  obtain⟨h1,h2⟩:=h
  rw[List.pairwise_cons]at h2
  refine⟨fun x hx=> ?_, ?_⟩
  ·rcases List.mem_cons.1 hx with rfl|hx
   ·have:=h1 b List.mem_cons_self
    exact⟨Nat.zero_le 24,this.2⟩
   ·exact h1 x (List.mem_cons_of_mem _ hx)
  ·rw[aa,List.pairwise_cons]
   exact⟨fun x hx=>amK (h2.1 x hx),h2.2⟩
theorem vX{es:List En}:jB es=true↔(∀e∈es,1≤e.1.size∧e.1.size≤24∧e.2.1.size≤100)∧ir (bA es):=by
 constructor
 ·intro h
  refine⟨fun e he=> ?_,ash h⟩
  obtain⟨i,hi,rfl⟩:=List.getElem_of_mem he
  obtain⟨a,b,c,_⟩:=oa.1 (cQ.1 h i hi)
  rw[bk hi]at a b c
  exact⟨by omega,by omega,by omega⟩
 ·rintro⟨h1,h2⟩
  refine cQ.2 fun i hi=>oa.2 ?_
  obtain⟨a,b,c⟩:=h1 (es.getD i dE) (by rw[bk hi];exact List.getElem_mem hi)
  refine⟨by omega,by omega,by omega,fun h0=> ?_⟩
  have:=h2 (i - 1) i (by omega) (by simpa using hi)
  rw[cw es pt dE,cw es pt dE]at this
  exact this
end Ts
namespace Ts
open Go Go.Sx Go.Proofs Lf
structure S5 where
 m:As
 fu:Int
 fr:Ws
 fs:Ws
 gn:Ws
structure xI (th:Th) (s:S5):Prop where
 d:Ds.bM th s.m s.fu
 fr:Bx.okW s.fr
 fs:Bx.okW s.fs
 gn:Bx.okW s.gn
 pg:∀p,In s.fr p→2≤p∧Ds.vg th p=true
structure qP (th:Th) (s t:S5) (N V:List Int):Prop where
 ok:xI th t
 nd:N.Nodup
 sub:∀p∈N,In s.fr p
 fr:∀p,In t.fr p↔In s.fr p∧p ∉ N
 fs:∀p,In t.fs p↔(In s.fs p∧p ∉ V)∨p∈N
 gn:∀p,In t.gn p↔In s.gn p∨(In s.fs p∧p∈V)
 rd:∀p,¬In s.fr p→Ds.jo th t.m p=Ds.jo th s.m p∧Ds.hC th t.m p=Ds.hC th s.m p
 fu:s.fu= -1→t.fu= -1
def wS(th:Th)(s:S5)(l:Bool)(es:List En)(bs:List Br):S5:=
 ⟨(bI th s.m s.fu s.fr s.fs l es bs).1,(bI th s.m s.fu s.fr s.fs l es bs).2.1,(bI th s.m s.fu s.fr s.fs l es bs).2.2.1,(bI th s.m s.fu s.fr s.fs l es bs).2.2.2.1,s.gn⟩
def wE(th:Th)(s:S5)(l:Bool)(es:List En)(bs:List Br):Int:=(bI th s.m s.fu s.fr s.fs l es bs).2.2.2.2.2
def wB(th:Th)(s:S5)(l:Bool)(es:List En)(bs:List Br):Br:=(bI th s.m s.fu s.fr s.fs l es bs).2.2.2.2.1
theorem ahm{zs:List Int}(h:∀x∈zs,3≤x∧x≤27)(h1:253<zs.sum)(h2:zs.sum≤280):2≤zs.length∧js zs (gU zs (zs.length - 1)).1≤153:=by
 have hb:=(nZ (l:=zs) (m:=27) (fun x hx=>⟨by have:=(h x hx).1;omega,(h x hx).2⟩) (by omega)).2
 have hl:2≤zs.length:=by omega
 refine⟨hl, ?_⟩
 obtain⟨k,hk,k1,k2⟩:=pA (p:=fun k=>(zs.take k).sum) (c:=127) zs.length (by simp) (by simp only[List.take_length];omega)
 have k1:(zs.take k).sum<127:=k1
 have k2:127≤(zs.take (k+1)).sum:=k2
 have k3:=iG hk
 have k4:zs.getD k 0≤27:=by rw[bk hk];exact(h _ (List.getElem_mem _)).2
 have k5:k+1<zs.length:=by
  rcases Nat.lt_or_ge (k+1) zs.length with h|h
  ·exact h
  ·rw[List.take_of_length_le h]at k3;omega
 have m:=qI zs (zs.length - 1) (k+1) (by omega) (by omega)
 rw[vQ _ _ (by omega)]at m
 refine Int.le_trans m ?_
 unfold js imax
 split<;>omega
theorem afw{bs:List Br}:3*(bs.length:Int)≤hU bs:=by
 induction bs with
 |nil=>simp[nA]
 |cons b r ih=>rw[dh,List.length_cons];have:=vV b;omega
theorem qQ(bs:List Br):bh [] bs=1+hU bs:=by simp[bh,hU]
theorem vY(es:List En):bh es []=1+(es.map pM).sum:=by simp[bh]
theorem amL{bs:List Br}(h:gh bs=true):c8 false [] bs=true:=tE (fun e=>by cases e) (fun _=>rfl) rfl h
theorem asU{es:List En}(h:jB es=true):c8 true es []=true:=tE (fun _=>rfl) (fun e=>by cases e) h rfl
theorem aj3{bs:List Br}(iX:gh bs=true)(h1:254<bh [] bs)(h2:bh [] bs≤281):
 dv false [] bs=true∧bh [] (bc false [] bs)≤154∧bh [] (cW false [] bs)≤154∧
  ∃k,0<k∧k<bs.length∧bc false [] bs=bs.take k∧cW false [] bs=bs.drop k∧aY false [] bs=[]∧cN false [] bs=[]∧bO false [] bs=false:=by
 rw[qQ]at h1 h2
 have e0:aE [] bs=bs.map pv:=by simp[aE]
 have hz:∀x∈bs.map pv,3≤x∧x≤27:=fun x hx=>by
  obtain⟨y,hy,rfl⟩:=List.mem_map.1 hx
  have:=abD iX hy
  unfold pv;omega
 obtain⟨b1,b2⟩:=ahm hz (by unfold hU at h1;omega) (by unfold hU at h2;omega)
 rw[List.length_map]at b1 b2
 have ok:dv false [] bs=true:=by
  simp only[dv,amL iX,Bool.true_and,decide_eq_true_eq,List.length_nil];omega
 have hsm:ba bs:=⟨by have:=afw (bs:=bs);omega,fun x hx=>by have:=abD iX hx;omega⟩
 obtain⟨_,_,_,_,_,_,_,_,_,f0,f⟩:=rU ok iv hsm
 rw[e0]at f
 have f2:js (bs.map pv) (dO [] bs)≤153:=by rw[dO,e0,List.length_nil,Nat.zero_add];exact b2
 have p1:=nu (aE [] bs) (([]:List En).length+bs.length - 1) (by simp;omega)
 have p2:=n6 (aE [] bs) (([]:List En).length+bs.length - 1)
 simp only[List.length_nil,Nat.zero_add]at p1 p2
 have e1:aY false [] bs=[]:=by unfold aY;rw[if_pos ok,List.take_nil]
 have e2:cN false [] bs=[]:=by unfold cN;rw[if_pos ok,List.drop_nil]
 rw[e1,e2]at f
 unfold imax at f
 refine⟨ok, ?_, ?_,dO [] bs,by unfold dO;simp only[List.length_nil,Nat.zero_add];exact p1,by unfold dO;simp only[List.length_nil,Nat.zero_add];omega,by unfold bc;rw[if_pos ok],by unfold cW;rw[if_pos ok],e1,e2,by unfold bO;rw[ok];rfl⟩
 ·split at f<;>omega
 ·split at f<;>omega
theorem afx{es:List En}:2*(es.length:Int)≤(es.map pM).sum:=by
 induction es with
 |nil=>simp
 |cons b r ih=>rw[List.map_cons,List.sum_cons,List.length_cons];have:=aj2 b;omega
theorem aj4{es:List En}{key val:ByteArray}(iX:jB (bw es key val)=true)(h0:bh es []≤254)(h1:¬bh (bw es key val) []≤254):
 dv true (bw es key val) []=true∧bh (aY true (bw es key val) []) []≤254∧bh (cN true (bw es key val) []) []≤254∧
  ∃k,0<k∧k<(bw es key val).length∧aY true (bw es key val) []=(bw es key val).take k∧cN true (bw es key val) []=(bw es key val).drop k∧bc true (bw es key val) []=[]∧cW true (bw es key val) []=[]∧bO true (bw es key val) []=true:=by
 have hl:es.length≤200:=by
  have:=afx (es:=es)
  rw[vY]at h0
  omega
 obtain⟨ok,f1,f2⟩:=ahg hl h0 (asU iX) h1
 generalize bw es key val=xs at iX h1 ok f1 f2 ⊢
 have e1:bc true xs []=[]:=by unfold bc;rw[if_pos ok,List.take_nil]
 have e2:cW true xs []=[]:=by unfold cW;rw[if_pos ok,List.drop_nil]
 rw[e1]at f1
 rw[e2]at f2
 have h2:2≤xs.length:=by
  simp only[dv,Bool.and_eq_true,decide_eq_true_eq,List.length_nil]at ok
  omega
 have p1:=nu (aE xs []) (xs.length+([]:List Br).length - 1) (by simp;omega)
 have p2:=n6 (aE xs []) (xs.length+([]:List Br).length - 1)
 simp only[List.length_nil,Nat.add_zero]at p1 p2
 exact⟨ok,f1,f2,dO xs [],by unfold dO;simp only[List.length_nil,Nat.add_zero];exact p1,by unfold dO;simp only[List.length_nil,Nat.add_zero];omega,by unfold aY;rw[if_pos ok],by unfold cN;rw[if_pos ok],e1,e2,by unfold bO;rw[ok];rfl⟩
theorem gX{th:Th}{s:S5}(h:xI th s):qP th s s [] []:=
 ⟨h,List.nodup_nil,fun p hp=>(by cases hp),fun p=>⟨fun x=>⟨x,List.not_mem_nil⟩,fun x=>x.1⟩,fun p=>⟨fun x=>.inl ⟨x,List.not_mem_nil⟩,fun x=>x.elim (fun y=>y.1) (fun y=>by cases y)⟩,
   fun p=>⟨.inl,fun x=>x.elim id (fun y=>by cases y.2)⟩,fun p _=>⟨rfl,rfl⟩,id⟩
theorem eY{th:Th}{s t u:S5}{N1 N2 V1 V2:List Int}(h1:qP th s t N1 V1)(h2:qP th t u N2 V2)(hd:∀p∈V2,p ∉ N1):qP th s u (N1++N2) (V1++V2)where
 ok:=h2.ok
 nd:=List.nodup_append.2 ⟨h1.nd,h2.nd,fun a ha b hb e=>by subst e;exact((h1.fr a).1 (h2.sub a hb)).2 ha⟩
 sub:=fun p hp=>(List.mem_append.1 hp).elim (h1.sub p) (fun h=>((h1.fr p).1 (h2.sub p h)).1)
 fr:=fun p=>by rw[h2.fr,h1.fr,List.mem_append,not_or,and_assoc]
 fs:=fun p=>by
  rw[h2.fs,h1.fs,List.mem_append,List.mem_append,not_or]
  constructor
  ·rintro(⟨⟨a,b⟩|a,c⟩|a)
   ·exact .inl ⟨a,b,c⟩
   ·exact .inr (.inl a)
   ·exact .inr (.inr a)
  ·rintro(⟨a,b,c⟩|a|a)
   ·exact .inl ⟨.inl ⟨a,b⟩,c⟩
   ·exact .inl ⟨.inr a,fun h=>hd p h a⟩
   ·exact .inr a
 gn:=fun p=>by
  rw[h2.gn,h1.gn,h1.fs,List.mem_append]
  constructor
  ·rintro((a|⟨a,b⟩)|⟨⟨a,b⟩|a,c⟩)
   ·exact .inl a
   ·exact .inr ⟨a,.inl b⟩
   ·exact .inr ⟨a,.inr c⟩
   ·exact absurd a (hd p c)
  ·rintro(a|⟨a,b|b⟩)
   ·exact .inl (.inl a)
   ·exact .inl (.inr ⟨a,b⟩)
   ·by_cases hv:p∈V1
    ·exact .inl (.inr ⟨a,hv⟩)
    ·exact .inr ⟨.inl ⟨a,hv⟩,b⟩
 rd:=fun p hp=>by
  have a:=h1.rd p hp
  have b:=h2.rd p (fun h=>hp ((h1.fr p).1 h).1)
  exact⟨b.1.trans a.1,b.2.trans a.2⟩
 fu:=fun h=>h2.fu (h1.fu h)
theorem qP.rep{th:Th}{s t:S5}{N V:List Int}(h:qP th s t N V):∀(k:Nat) {x:TN k},Ts.rep th s.m k x→(∀p∈mC k x,¬In s.fr p)→Ts.rep th t.m k x
 |0,x,hr,hp=>Rd.same hr (h.rd _ (hp _ (vT 0 x)))
 |k+1,x,hr,hp=>⟨Rd.same hr.1 (h.rd _ (hp _ (vT (k+1) x))),fun y hy=>h.rep k (hr.2 y hy) fun p j8=>hp p (List.mem_cons_of_mem _ (List.mem_flatMap.2 ⟨y,hy,j8⟩))⟩
theorem ad0{th:Th}{s:S5}(h:xI th s)(n:Int):qP th s ⟨s.m,s.fu,s.fr,je s.fs n,pz s.fs s.gn n⟩ [] [n]:=by
 have r:In s.fs n→0≤n∧n<1024:=fun hn=>nz h.fs hn
 by_cases hn:In s.fs n
 ·have e1:je s.fs n=Bx.cP s.fs n:=if_pos hn
  have e2:pz s.fs s.gn n=Bx.cO s.gn n:=if_pos hn
  rw[e1,e2]
  refine⟨⟨h.d,h.fr,(Bx.kI h.fs n).1,(Bx.fU h.gn n).1,h.pg⟩,List.nodup_nil,fun p hp=>(by cases hp),fun p=>⟨fun x=>⟨x,List.not_mem_nil⟩,fun x=>x.1⟩,fun p=> ?_,fun p=> ?_,fun p _=>⟨rfl,rfl⟩,id⟩
  ·simp only[]
   rw[pB h.fs,List.mem_singleton]
   exact⟨.inl,fun x=>x.elim id (fun y=>by cases y)⟩
  ·simp only[]
   rw[ob h.gn (r hn),List.mem_singleton]
   exact⟨fun x=>x.imp id (fun y=>⟨by rw[y];exact hn,y⟩),fun x=>x.imp id (fun y=>y.2)⟩
 ·have e1:je s.fs n=s.fs:=if_neg hn
  have e2:pz s.fs s.gn n=s.gn:=if_neg hn
  rw[e1,e2]
  refine⟨h,List.nodup_nil,fun p hp=>(by cases hp),fun p=>⟨fun x=>⟨x,List.not_mem_nil⟩,fun x=>x.1⟩,fun p=> ?_,fun p=> ?_,fun p _=>⟨rfl,rfl⟩,id⟩
  ·rw[List.mem_singleton]
   exact⟨fun x=>.inl ⟨x,fun e=>hn (by rw[←e];exact x)⟩,fun x=>x.elim (fun y=>y.1) (fun y=>by cases y)⟩
  ·rw[List.mem_singleton]
   exact⟨.inl,fun x=>x.elim id (fun y=>absurd (by rw[←y.2];exact y.1) hn)⟩
theorem aqS{th:Th}{s:S5}{l:Bool}{es:List En}{bs:List Br}(ho:xI th s)(hm:c8 l es (aa bs)=true)(hz:bh es (aa bs)≤254):
 (wE th s l es bs=0∧∃n,qP th s (wS th s l es bs) [n] []∧wB th s l es bs=(cU l es bs,n,())∧Rd th (wS th s l es bs).m n l es (aa bs))∨
 (wE th s l es bs=41∧wS th s l es bs=s∧∀k,¬In s.fr k)∨(wE th s l es bs=42∧qP th s (wS th s l es bs) [] []∧(wS th s l es bs).fu=0):=by
 have he:gT l es (aa bs)=0:=lL.2 ⟨hm,hz⟩
 obtain⟨d1,d2,d3,d4,d5⟩:=alU he
 by_cases hx:Bx.eM s.fr 0=false
 ·have e:bI th s.m s.fu s.fr s.fs l es bs=(s.m,s.fu,s.fr,s.fs,dB,41):=by unfold bI;rw[if_pos hx]
  right;left
  refine⟨by unfold wE;rw[e],by unfold wS;rw[e],fun k=>amE ho.fr hx k⟩
 ·have hx1:Bx.eM s.fr 0=true:=by simpa using hx
  have hn:=abV ho.fr hx1
  obtain⟨uc,hnp⟩:=ho.pg _ hn
  have hnr:=nz ho.fr hn
  obtain⟨g1,g2,g3⟩:=Ds.aqH (th:=th) (m:=s.m) (fu:=s.fu) (n:=Bx.bu s.fr 0) (s:=c9 l es (aa bs)) ho.d hnp (by omega)
  have gd:=Ds.an2 (n:=Bx.bu s.fr 0) (s:=c9 l es (aa bs)) ho.d
  rcases g1 with⟨a,b,c⟩|⟨a,b⟩
  ·left
   have e:bI th s.m s.fu s.fr s.fs l es bs=((Ds.kb th s.m s.fu (Bx.bu s.fr 0) (c9 l es (aa bs))).1,(Ds.kb th s.m s.fu (Bx.bu s.fr 0) (c9 l es (aa bs))).2.1,Bx.cP s.fr (Bx.bu s.fr 0),Bx.cO s.fs (Bx.bu s.fr 0),(cU l es bs,Bx.bu s.fr 0,()),0):=by
    unfold bI
    rw[if_neg hx,if_neg (by rw[he];simp),if_neg (by rw[a];simp)]
   refine⟨by unfold wE;rw[e],Bx.bu s.fr 0, ?_,by unfold wB;rw[e], ?_⟩
   ·unfold wS
    rw[e]
    refine⟨⟨gd,(Bx.kI ho.fr _).1,(Bx.fU ho.fs _).1,ho.gn,fun p hp=>ho.pg p ((pB ho.fr).1 hp).1⟩,by simp,fun p hp=>by rw[List.mem_singleton.1 hp];exact hn,fun p=> ?_,fun p=> ?_,fun p=> ?_,fun p hp=>g3 p (fun e=>hp (by rw[e];exact hn)),g2⟩
    ·simp only[]
     rw[pB ho.fr,List.mem_singleton]
    ·simp only[]
     rw[ob ho.fs hnr,List.mem_singleton]
     exact⟨fun x=>x.imp (fun y=>⟨y,List.not_mem_nil⟩) id,fun x=>x.imp (fun y=>y.1) id⟩
    ·exact⟨.inl,fun x=>x.elim id (fun y=>by cases y.2)⟩
   ·unfold wS
    rw[e]
    exact⟨b,by rw[c];exact d1,by rw[c];exact d2,by rw[c];exact d3,by rw[c];exact d4⟩
  ·right;right
   have e:bI th s.m s.fu s.fr s.fs l es bs=((Ds.kb th s.m s.fu (Bx.bu s.fr 0) (c9 l es (aa bs))).1,(Ds.kb th s.m s.fu (Bx.bu s.fr 0) (c9 l es (aa bs))).2.1,s.fr,s.fs,dB,42):=by
    unfold bI
    rw[if_neg hx,if_neg (by rw[he];simp),if_pos (by rw[a];simp),a]
   refine⟨by unfold wE;rw[e], ?_,by unfold wS;rw[e];exact b⟩
   unfold wS
   rw[e]
   have r:=gX ho
   refine⟨⟨gd,ho.fr,ho.fs,ho.gn,ho.pg⟩,r.nd,r.sub,r.fr,r.fs,r.gn,fun p hp=>g3 p (fun e=>hp (by rw[e];exact hn)),g2⟩
end Ts
namespace Ts
open Go Go.Sx Go.Proofs Lf
theorem eH{th:Th}{m:As}{n deep:Int}(h:fM th m n deep=0):c8 (ke th m n deep) (bN th m n deep) (aL th m n deep)=true∧(bN th m n deep).length≤126∧(aL th m n deep).length≤84∧a8 (bN th m n deep)∧ba (aL th m n deep)∧
 deep≤16∧bh (bN th m n deep) (aL th m n deep)≤254:=by
 unfold fM at h
 split at h
 ·cases h
 ·rename_i hd
  split at h
  ·rename_i hg
   have e0:rS th m n deep=true:=by unfold rS;rw[decide_eq_true hg,decide_eq_true (by omega)];rfl
   obtain⟨a,b,c,_,e⟩:=alV h
   have sz:=(lL.1 c).2
   have e1:bN th m n deep=nr (Ds.hC th m n):=by unfold bN;rw[if_pos e0]
   have e2:aL th m n deep=mA (Ds.hC th m n):=by unfold aL;rw[if_pos e0]
   have e3:ke th m n deep=jr (Ds.hC th m n):=by unfold ke;rw[e0,Bool.true_and]
   rw[e1,e2,e3]
   have s1:=afx (es:=nr (Ds.hC th m n))
   have s2:=afw (bs:=mA (Ds.hC th m n))
   have s3:=amJ (mA (Ds.hC th m n))
   unfold bh at sz
   unfold hU at s2 s3
   refine⟨e,by omega,by omega,a,b,by omega, ?_⟩
   unfold bh;exact sz
  ·rename_i hg
   exact absurd h hg
abbrev vZ(es:List En):Prop:=∀x∈es,x.1.size≤24
abbrev j9(bs:List Br):Prop:=∀x∈bs,x.1.size≤24
theorem abY{l:Bool}{es:List En}{bs:List Br}(he:vZ es)(hb:j9 bs):(cU l es bs).size≤24:=by
 unfold cU
 split
 ·cases es with
  |nil=>exact Nat.zero_le _
  |cons e r=>exact he e List.mem_cons_self
 ·cases bs with
  |nil=>exact Nat.zero_le _
  |cons e r=>exact hb e List.mem_cons_self
theorem z6{th:Th}{m:As}{fu:Int}{fr fs:Ws}{l:Bool}{es:List En}{bs:List Br}(he:vZ es)(hb:j9 bs):(bI th m fu fr fs l es bs).2.2.2.2.1.1.size≤24:=by
 unfold bI
 split
 ·exact Nat.zero_le _
 ·split
  ·exact Nat.zero_le _
  ·split
   ·exact Nat.zero_le _
   ·exact abY he hb
theorem aj5{bs:List Br}(h:j9 bs):j9 (aa bs):=by
 cases bs with
 |nil=>exact h
 |cons b r=>
  intro x hx
  rcases List.mem_cons.1 hx with rfl|hx
  ·exact Nat.zero_le _
  ·exact h x (List.mem_cons_of_mem _ hx)
theorem amM{l:Bool}{es:List En}{bs:List Br}(he:vZ es):vZ (aY l es bs)∧vZ (cN l es bs):=by
 unfold aY cN
 split
 ·exact⟨fun x hx=>he x (List.mem_of_mem_take hx),fun x hx=>he x (List.mem_of_mem_drop hx)⟩
 ·exact⟨fun x hx=>(by cases hx),fun x hx=>(by cases hx)⟩
theorem amN{l:Bool}{es:List En}{bs:List Br}(he:j9 bs):j9 (bc l es bs)∧j9 (cW l es bs):=by
 unfold bc cW
 split
 ·exact⟨fun x hx=>he x (List.mem_of_mem_take hx),fun x hx=>he x (List.mem_of_mem_drop hx)⟩
 ·exact⟨fun x hx=>(by cases hx),fun x hx=>(by cases hx)⟩
theorem ad1{th:Th}{m:As}{fu:Int}{fr fs:Ws}{l:Bool}{es:List En}{bs:List Br}(hf:Bx.okW fr):0≤(bI th m fu fr fs l es bs).2.2.2.2.1.2.1∧(bI th m fu fr fs l es bs).2.2.2.2.1.2.1≤65536:=by
 have z:0≤dB.2.1∧dB.2.1≤65536:=⟨Int.le_refl 0,by show(0:Int)≤65536;omega⟩
 unfold bI
 split
 ·exact z
 ·rename_i h
  have:=vS hf (by simpa using h)
  split
  ·exact z
  ·split
   ·exact z
   ·exact⟨by show 0≤Bx.bu fr 0;omega,by show Bx.bu fr 0≤65536;omega⟩
theorem noE{q:En→Prop}:∀b∈([]:List En),q b:=fun b hb=>by cases hb
theorem noB{q:Br→Prop}:∀b∈([]:List Br),q b:=fun b hb=>by cases hb
structure aj6 (th:Th) (m:As) (fu:Int) (fr:Ws) (l:List Br):Prop where
 d:Ds.bM th m fu
 fr:Bx.okW fr
 two:l.length≤2
 key:j9 l
 pg:∀b∈l,0≤b.2.1∧b.2.1≤65536
theorem nB{th:Th}{m:As}{fu:Int}{fr fs:Ws}{l:Bool}{es:List En}{bs:List Br}(hd:Ds.bM th m fu)(hf:Bx.okW fr)(he:vZ es)(hb:j9 bs):
 aj6 th (bo th m fu fr fs l es bs).1 (bo th m fu fr fs l es bs).2.1 (bo th m fu fr fs l es bs).2.2.1 (bo th m fu fr fs l es bs).2.2.2.2.1:=by
 have hbb:=aj5 hb
 have nil:j9 ([]:List Br):=fun b hb=>by cases hb
 unfold bo
 split
 ·exact⟨hd,hf,Nat.zero_le _,nil,noB⟩
 ·split
  ·obtain⟨a,b⟩:=zY (fs:=fs) (l:=l) (es:=es) (bs:=aa bs) hd hf
   refine⟨a,b,by show 1≤2;omega,fun x hx=> ?_,fun x hx=> ?_⟩
   ·rw[List.mem_singleton.1 hx]
    exact z6 he hbb
   ·rw[List.mem_singleton.1 hx]
    exact ad1 hf
  ·split
   ·exact⟨hd,hf,Nat.zero_le _,nil,noB⟩
   ·obtain⟨s1,s2⟩:=amM (l:=l) (bs:=aa bs) he
    obtain⟨s3,s4⟩:=amN (l:=l) (es:=es) hbb
    obtain⟨a,b⟩:=zY (fs:=fs) (l:=bO l es (aa bs)) (es:=aY l es (aa bs)) (bs:=bc l es (aa bs)) hd hf
    simp only[]
    split
    ·exact⟨a,b,Nat.zero_le _,nil,noB⟩
    ·obtain⟨c,d⟩:=zY (fs:=(bI th m fu fr fs (bO l es (aa bs)) (aY l es (aa bs)) (bc l es (aa bs))).2.2.2.1) (l:=bO l es (aa bs)) (es:=cN l es (aa bs)) (bs:=cW l es (aa bs)) a b
     refine⟨c,d,Nat.le_refl 2,fun x hx=> ?_,fun x hx=> ?_⟩
     ·rcases List.mem_cons.1 hx with rfl|hx
      ·exact z6 s1 s3
      ·rw[List.mem_singleton.1 hx]
       exact z6 s2 s4
     ·rcases List.mem_cons.1 hx with rfl|hx
      ·exact ad1 hf
      ·rw[List.mem_singleton.1 hx]
       exact ad1 b
theorem aj7{key:ByteArray}{op:Option ByteArray}{es:List En}(hk:key.size≤24)(he:vZ es):vZ (doE key op es):=by
 cases op with
 |some v=>
  show vZ (bw es key v)
  intro x hx
  unfold bw at hx
  rcases List.mem_append.1 hx with hx|hx
  ·exact he x (List.mem_of_mem_take hx)
  ·rcases List.mem_cons.1 hx with rfl|hx
   ·exact hk
   ·exact he x (List.mem_of_mem_drop hx)
 |none=>
  show vZ (if gF es key=true then cz es key else [])
  split
  ·exact fun x hx=>he x (List.mem_filter.1 hx).1
  ·exact fun x hx=>by cases hx
theorem oc{key:ByteArray}{op:Option ByteArray}{es:List En}(hk:key.size≤24)(hv:∀v,op=some v→v.size≤100)(hl:es.length≤126)(he:a8 es):a8 (doE key op es):=by
 cases op with
 |some v=>
  have hv:=hv v rfl
  show a8 (bw es key v)
  refine⟨by rw[zO];split<;>omega,fun x hx=> ?_⟩
  unfold bw at hx
  rcases List.mem_append.1 hx with hx|hx
  ·exact he.2 x (List.mem_of_mem_take hx)
  ·rcases List.mem_cons.1 hx with rfl|hx
   ·exact⟨by show key.size≤1000;omega,by show v.size≤1000;omega⟩
   ·exact he.2 x (List.mem_of_mem_drop hx)
 |none=>
  show a8 (if gF es key=true then cz es key else [])
  split
  ·exact⟨Nat.le_trans (List.length_filter_le _ _) he.1,fun x hx=>he.2 x ((List.mem_filter.1 hx).1)⟩
  ·exact iv
theorem ad2{k:ByteArray}{r:List Br}(hk:k.size≤24)(h:j9 r):j9 (kT k r):=by
 cases r with
 |nil=>exact h
 |cons b r=>
  intro x hx
  rcases List.mem_cons.1 hx with rfl|hx
  ·exact hk
  ·exact h x (List.mem_cons_of_mem _ hx)
theorem v7(k:ByteArray)(r:List Br):(kT k r).length=r.length:=by cases r<;>rfl
theorem pG{bs:List Br}(hb:j9 bs)(k:Nat):(bs.getD k dB).1.size≤24:=by
 rcases Nat.lt_or_ge k bs.length with h|h
 ·rw[bk h];exact hb _ (List.getElem_mem h)
 ·rw[List.getD,List.getElem?_eq_none h];exact Nat.zero_le _
theorem afy{bs r:List Br}{k:Nat}{s:ByteArray}(hb:j9 bs)(hk:j9 r)(hs:s.size≤24):j9 (bs.take k++kT s r++bs.drop (k+1)):=fun x hx=>by
 rcases List.mem_append.1 hx with hx|hx
 ·rcases List.mem_append.1 hx with hx|hx
  ·exact hb x (List.mem_of_mem_take hx)
  ·exact ad2 hs hk x hx
 ·exact hb x (List.mem_of_mem_drop hx)
theorem v8{bs r:List Br}{k:Nat}{s:ByteArray}(hb:j9 bs)(hl:bs.length≤84)(hr:r.length≤2)(hk:j9 r)(hs:s.size≤24):ba (bs.take k++kT s r++bs.drop (k+1)):=by
 refine⟨?_,fun x hx=>Nat.le_trans (afy hb hk hs x hx) (by omega)⟩
 rw[List.length_append,List.length_append,v7,List.length_take,List.length_drop];omega
theorem abZ{l:Bool}{es:List En}{bs:List Br}(h:c8 l es bs=true):vZ es∧j9 bs:=by
 obtain⟨_,_,h1,h2⟩:=dK h
 exact⟨fun x hx=>(adI h1 hx).1,fun x hx=>(abD h2 hx).1⟩
theorem qR{th:Th}{key:ByteArray}{op:Option ByteArray}(hk:key.size≤24):∀(f:Nat) {m:As} {fu:Int} {fr fs gn:Ws} {n deep:Int},Ds.bM th m fu→Bx.okW fr→
 aj6 th (pC th key op f m fu fr fs gn n deep) (pD th key op f m fu fr fs gn n deep) (pE th key op f m fu fr fs gn n deep) (tc th key op f m fu fr fs gn n deep)
 |0,m,fu,fr,fs,gn,n,deep,hd,hf=>⟨hd,hf,Nat.zero_le _,noB,noB⟩
 |f+1,m,fu,fr,fs,gn,n,deep,hd,hf=>by
  have nil:j9 ([]:List Br):=fun b hb=>by cases hb
  unfold pC pD pE tc vO
  split
  ·exact⟨hd,hf,Nat.zero_le _,nil,noB⟩
  ·rename_i h0
   obtain⟨hm,_⟩:=eH (by simpa using h0)
   obtain⟨n3,n4⟩:=abZ hm
   split
   ·split
    ·exact⟨hd,hf,Nat.zero_le _,nil,noB⟩
    ·exact nB hd hf (aj7 hk n3) n4
   ·split
    ·exact⟨hd,hf,Nat.zero_le _,nil,noB⟩
    ·simp only[]
     have r:=qR (op:=op) hk f (fs:=fs) (gn:=gn) (n:=((aL th m n deep).getD (aU (aL th m n deep) key).toNat dB).2.1) (deep:=deep+1) hd hf
     split
     ·exact⟨r.d,r.fr,Nat.zero_le _,nil,noB⟩
     ·exact nB r.d r.fr n3 (afy n4 r.key (pG n4 _))
end Ts
namespace Ts
open Go Go.Sx Go.Proofs Lf
theorem fZ{th:Th}{key:ByteArray}{op:Option ByteArray}{f:Nat}{m:As}{fu:Int}{fr fs gn:Ws}{n deep:Int}:vO th key op (f+1) m fu fr fs gn n deep=
 if fM th m n deep≠0 then(m,fu,fr,fs,gn,[],fM th m n deep)
 else if ke th m n deep=true then
  if py key op (bN th m n deep)≠0 then(m,fu,fr,fs,gn,[],py key op (bN th m n deep))
  else gV (pz fs gn n) (bo th m fu fr (je fs n) true (doE key op (bN th m n deep)) (aL th m n deep))
 else if aL th m n deep=[]then(m,fu,fr,fs,gn,[],4)
 else if rW th key op f m fu fr fs gn ((aL th m n deep).getD (aU (aL th m n deep) key).toNat dB).2.1 (deep+1)≠0 then
  (pC th key op f m fu fr fs gn ((aL th m n deep).getD (aU (aL th m n deep) key).toNat dB).2.1 (deep+1),pD th key op f m fu fr fs gn ((aL th m n deep).getD (aU (aL th m n deep) key).toNat dB).2.1 (deep+1),
   pE th key op f m fu fr fs gn ((aL th m n deep).getD (aU (aL th m n deep) key).toNat dB).2.1 (deep+1),qL th key op f m fu fr fs gn ((aL th m n deep).getD (aU (aL th m n deep) key).toNat dB).2.1 (deep+1),
   rV th key op f m fu fr fs gn ((aL th m n deep).getD (aU (aL th m n deep) key).toNat dB).2.1 (deep+1),[],rW th key op f m fu fr fs gn ((aL th m n deep).getD (aU (aL th m n deep) key).toNat dB).2.1 (deep+1))
 else gV (pz (qL th key op f m fu fr fs gn ((aL th m n deep).getD (aU (aL th m n deep) key).toNat dB).2.1 (deep+1)) (rV th key op f m fu fr fs gn ((aL th m n deep).getD (aU (aL th m n deep) key).toNat dB).2.1 (deep+1)) n)
  (bo th (pC th key op f m fu fr fs gn ((aL th m n deep).getD (aU (aL th m n deep) key).toNat dB).2.1 (deep+1)) (pD th key op f m fu fr fs gn ((aL th m n deep).getD (aU (aL th m n deep) key).toNat dB).2.1 (deep+1))
    (pE th key op f m fu fr fs gn ((aL th m n deep).getD (aU (aL th m n deep) key).toNat dB).2.1 (deep+1)) (je (qL th key op f m fu fr fs gn ((aL th m n deep).getD (aU (aL th m n deep) key).toNat dB).2.1 (deep+1)) n) false (bN th m n deep)
    ((aL th m n deep).take (aU (aL th m n deep) key).toNat++kT ((aL th m n deep).getD (aU (aL th m n deep) key).toNat dB).1 (tc th key op f m fu fr fs gn ((aL th m n deep).getD (aU (aL th m n deep) key).toNat dB).2.1 (deep+1))++(aL th m n deep).drop ((aU (aL th m n deep) key).toNat+1))):=rfl
def asV(bs r:List Br)(k:Int):List Br:=bW [(List.drop (Int.toNat 0) (List.take k.toNat bs),()),(r,()),(List.drop (k+1).toNat (List.take (bs.length:Int).toNat bs),())]
theorem ab0{bs r:List Br}{k:Int}(h0:0≤k):asV bs r k=bs.take k.toNat++r++bs.drop (k.toNat+1):=by
 show List.drop 0 (List.take k.toNat bs)++(r++(List.drop (k+1).toNat (List.take (bs.length:Int).toNat bs)++[]))=_
 rw[List.append_nil,List.drop_zero,List.append_assoc,show(bs.length:Int).toNat=bs.length from rfl,List.take_length,show(k+1).toNat=k.toNat+1 from by omega]
theorem aj8{th:Th}{m:As}{fu root:Int}{fr fs gn:Ws}{n deep:Int}{key val:ByteArray}{f:Nat}{c:Chg}(e:vO th key (some val) f m fu fr fs gn n deep=c):
 (w5 f).fv ((th,m,fu,root,fr,fs,gn),n,deep,key,val)=qJ th c.1 c.2.1 root c.2.2.1 c.2.2.2.1 c.2.2.2.2.1 key val++[.vec (.ae cB c.2.2.2.2.2.1) Lf.eB]∧(w5 f).out ((th,m,fu,root,fr,fs,gn),n,deep,key,val)=.bm [.vec 6,bP c.2.2.2.2.2.2]:=by
 subst e;exact⟨rfl,rfl⟩
theorem ahn{th:Th}{m:As}{fu root:Int}{fr fs gn:Ws}{n deep:Int}{key val:ByteArray}{f:Nat}{c:Chg}(e:vO th key none f m fu fr fs gn n deep=c):
 (w6 f).fv ((th,m,fu,root,fr,fs,gn),n,deep,key,val)=qK th c.1 c.2.1 root c.2.2.1 c.2.2.2.1 c.2.2.2.2.1 key++[.vec (.ae cB c.2.2.2.2.2.1) Lf.eB]∧(w6 f).out ((th,m,fu,root,fr,fs,gn),n,deep,key,val)=.bm [.vec 5,bP c.2.2.2.2.2.2]:=by
 subst e;exact⟨rfl,rfl⟩
theorem rY{bs:List Br}{key:ByteArray}(hs:ir (mo bs))(h:bs≠[]):0≤aU bs key∧aU bs key<(bs.length:Int):=by
 obtain⟨p,e,hp,_⟩:=vz (ks:=mo bs) (key:=key) hs (by cases bs with|nil=>exact absurd rfl h|cons b r=>simp)
 unfold aU
 rw[e]
 rw[List.length_map]at hp
 exact⟨by omega,by omega⟩
theorem ab1{r:List Br}{k:ByteArray}(h:0<r.length):(r.set 0 (k,(r.getD 0 (CL.d [CK.str,CK.int IntKind.i64])).snd):List Br)=kT k r:=by
 cases r with
 |nil=>simp at h
 |cons b r=>rfl
theorem z7{n:Int}(h0: -65537≤n)(h1:n≤65537):aD n:=⟨by omega,by omega⟩
theorem rZ{th:Th}{m:As}{n deep:Int}(h:fM th m n deep=0)(k:Nat):0≤((aL th m n deep).getD k dB).2.1∧((aL th m n deep).getD k dB).2.1≤65536:=by
 obtain⟨hm,_⟩:=eH h
 rcases Nat.lt_or_ge k (aL th m n deep).length with hk|hk
 ·have:=abD (dK hm).2.2.2 (List.getElem_mem hk)
  rw[bk hk];omega
 ·rw[List.getD,List.getElem?_eq_none hk];exact⟨Int.le_refl 0,by show(0:Int)≤65536;omega⟩
theorem aj9{f:Nat}(h:jA P Bx.bV 80 (w5 f)):(oM f).Ok P Bx.bV:=aH.Ok.cons (n9.sum mNo) (aH.Ok.cons (vP.sum mLv) (aH.Ok.cons (ix (gi (jJ.sum mTN) 1 _) 1) (aH.Ok.cons ajD.uT (aH.Ok.cons vt.sum (aH.Ok.cons rT.sum (aH.Ok.cons (h.sum amH) aH.Ok.nil))))))
section
variable{th:Th}{m:As}{fu root:Int}{fr fs gn:Ws}{n deep:Int}{key val:ByteArray}{f:Nat}{X:Ctx}
theorem ab2{th:Th}{m:As}{fu root:Int}{fr fs gn:Ws}{key val:ByteArray}:∀y∈adX,(qJ th m fu root fr fs gn key val).length≤y.2.m:=fun y hy=>by
 simp only[adX,List.mem_cons,List.not_mem_nil,or_false]at hy
 rcases hy with rfl|rfl|rfl|rfl<;>exact Nat.le_refl _
theorem afz(hz:dS Bx.bV X)(hX:X.H=lk (qJ th m fu root fr fs gn key val))(T:(oM f).Ok P Bx.bV){m':As}{gC:Int}{oO lB qX:Ws}{l:Bool}{es:List En}{bs:List Br}{k:Int}{r:List Br}(hd:Ds.bM th m' gC)(hf:Bx.okW oO)(hl:l=false∧es=[])(he:a8 es)
 (hb:ba (bs.take k.toNat++r++bs.drop (k.toNat+1))) (hk0:0≤k) (y5:k<(bs.length:Int)) (hbl:bs.length≤84)
 (e:vO th key (some val) (f+1) m fu fr fs gn n deep=gV (pz lB qX n) (bo th m' gC oO (je lB n) l es (bs.take k.toNat++r++bs.drop (k.toNat+1)))):
 Safe P 80 X (w4 (w5 (f+1)) ((th,m,fu,root,fr,fs,gn),n,deep,key,val)) (aoC th m' gC root oO lB qX n key val l es bs k r):=by
 rw[←ab0 hk0]at hb e
 have hjl:=hb.1
 obtain⟨f1,f2⟩:=aj8 (root:=root) (val:=val) e
 refine Ds.eR hz hX ab2 T Tryd.func80 (aqO f th m' gC root oO lB qX n key val l es bs k r) ⟨by omega,hk0,by omega,⟨by omega,by omega⟩,by omega,by omega,by omega,by show 3≤100;omega, ?_,rfl,rfl,rfl,rfl,hd,hf,⟨fun h=>(by rw[hl.1]at h;cases h),fun _=>hl.2⟩,he,hb, ?_⟩
 ·exact Nat.le_trans hjl (by omega)
 ·exact kr ⟨[],[0,1],6,[]⟩ rfl (Nat.le_refl _) (oL.same _) f2 f1
theorem amO(hz:dS Bx.bV X)(hX:X.H=lk (qJ th m fu root fr fs gn key val))(T:(oM f).Ok P Bx.bV){m':As}{gC:Int}{oO lB qX:Ws}{l:Bool}{es:List En}{bs:List Br}{k e:Int}{r:List Br}(hd:Ds.bM th m' gC)(hf:Bx.okW oO)(hl:l=false∧es=[])(he:a8 es)
 (hb:ba (bs.take k.toNat++kT (bs.getD k.toNat dB).1 r++bs.drop (k.toNat+1))) (hk0:0≤k) (y5:k<(bs.length:Int)) (hbl:bs.length≤84)
 (ee:vO th key (some val) (f+1) m fu fr fs gn n deep=if e≠0 then(m',gC,oO,lB,qX,[],e)else gV (pz lB qX n) (bo th m' gC oO (je lB n) l es (bs.take k.toNat++kT (bs.getD k.toNat dB).1 r++bs.drop (k.toNat+1)))):
 Safe P 80 X (w4 (w5 (f+1)) ((th,m,fu,root,fr,fs,gn),n,deep,key,val)) (aoB th m' gC root oO lB qX n key val l es bs k e r):=by
 refine Ds.eR hz hX ab2 T Tryd.func80 (aqN f th m' gC root oO lB qX n key val l es bs k e r) ⟨fun h=> ?_,fun h=>⟨fun h5=> ?_,fun h5=> ?_⟩⟩
 ·have h:e≠0:=by simpa using h
  rw[if_pos h]at ee
  obtain⟨f1,f2⟩:=aj8 (root:=root) (val:=val) ee
  exact kr ⟨[(0,.ae cB [],Lf.eB)],[0,1],6,[]⟩ rfl (Nat.le_refl _) (oL.same _) f2 f1
 ·have h:¬e≠0:=by simpa using h
  rw[if_neg h]at ee
  have h5:=of_decide_eq_true h5
  have e5:=ab1 (r:=r) (k:=(bs.getD k.toNat dB).1) (by omega)
  rw[←e5]at hb ee
  exact⟨hk0,y5,by omega,h5,afz hz hX T hd hf hl he hb hk0 y5 hbl ee⟩
 ·have h:¬e≠0:=by simpa using h
  rw[if_neg h]at ee
  have h5:=of_decide_eq_false h5
  have e5:r=[]:=List.eq_nil_of_length_eq_zero (by omega)
  subst e5
  exact afz hz hX T hd hf hl he hb hk0 y5 hbl ee
theorem amP(hz:dS Bx.bV X)(hX:X.H=lk (qJ th m fu root fr fs gn key val))(T:(oM f).Ok P Bx.bV)(hd:Ds.bM th m fu)(hf:Bx.okW fr)(h1:1≤deep∧deep≤17)(h2:18≤deep+((f+1:Nat):Int))(hk:1≤key.size∧key.size≤24)(hv:val.size≤100)
 (h:fM th m n deep=0) (hl:ke th m n deep=false):
 Safe P 80 X (w4 (w5 (f+1)) ((th,m,fu,root,fr,fs,gn),n,deep,key,val)) (aoA th m fu root fr fs gn n deep key val (ke th m n deep) (bN th m n deep) (aL th m n deep)):=by
 obtain⟨hm,n1,n2,n3,n4,n5,_⟩:=eH h
 obtain⟨m1,m2,_,_⟩:=dK hm
 obtain⟨s1,s2⟩:=qH hm
 have hkk:∀v:ByteArray,(some val)=some v→v.size≤100:=fun v e=>by cases e;exact hv
 refine Ds.eR hz hX ab2 T Tryd.func80 (aqM f th m fu root fr fs gn n deep key val (ke th m n deep) (bN th m n deep) (aL th m n deep)) ⟨fun h3=> ?_,fun h3=> ?_⟩
 ·have h3:aL th m n deep=[]:=List.eq_nil_of_length_eq_zero (by have:((aL th m n deep).length:Int)=0:=by simpa using h3
                                                               omega)
  obtain⟨f1,f2⟩:=aj8 (val:=val) (root:=root) (th:=th) (m:=m) (fu:=fu) (fr:=fr) (fs:=fs) (gn:=gn) (key:=key) (f:=f+1) (n:=n) (deep:=deep) (c:=(m,fu,fr,fs,gn,[],4)) (by rw[fZ,if_neg (by rw[h];simp),if_neg (by rw[hl];simp),if_pos h3])
  exact kr ⟨[(0,.ae cB [],Lf.eB)],[0,1],6,[]⟩ rfl (Nat.le_refl _) (oL.same _) f2 f1
 ·have h3:aL th m n deep≠[]:=fun e=>by rw[e]at h3;simp at h3
  obtain⟨p0,p1⟩:=rY (key:=key) s2 h3
  have pg:=rZ h (aU (aL th m n deep) key).toNat
  have z8:=qR (th:=th) (key:=key) (op:=(some val)) hk.2 f (m:=m) (fu:=fu) (fr:=fr) (fs:=fs) (gn:=gn) (n:=((aL th m n deep).getD (aU (aL th m n deep) key).toNat dB).2.1) (deep:=deep+1) hd hf
  have hb:=v8 (bs:=aL th m n deep) (k:=(aU (aL th m n deep) key).toNat) (abZ hm).2 n2 z8.two z8.key (pG (abZ hm).2 (aU (aL th m n deep) key).toNat)
  refine⟨by omega,s2,p0,p1,z7 (by omega) (by omega),rfl,rfl,hd,hf,pg,⟨by omega,by omega⟩,by omega,hk,hv,amO hz hX T z8.d z8.fr ⟨hl,m2 hl⟩ n3 hb p0 p1 n2 ?_⟩
  rw[fZ,if_neg (by rw[h];simp),if_neg (by rw[hl];simp),if_neg h3,hl]
  rfl
theorem aqT(hz:dS Bx.bV X)(hX:X.H=lk (qJ th m fu root fr fs gn key val))(T:(oM f).Ok P Bx.bV)(hd:Ds.bM th m fu)(hf:Bx.okW fr)(hk:1≤key.size∧key.size≤24)(hv:val.size≤100)
 (h:fM th m n deep=0) (hl:ke th m n deep=true):
 Safe P 80 X (w4 (w5 (f+1)) ((th,m,fu,root,fr,fs,gn),n,deep,key,val)) (asQ th m fu root fr fs gn n key val (bN th m n deep) (aL th m n deep)):=by
 obtain⟨hm,n1,n2,n3,n4,n5,_⟩:=eH h
 obtain⟨m1,m2,_,_⟩:=dK hm
 obtain⟨s1,s2⟩:=qH hm
 have hkk:∀v:ByteArray,(some val)=some v→v.size≤100:=fun v e=>by cases e;exact hv
 obtain⟨f1,f2⟩:=aj8 (val:=val) (root:=root) (th:=th) (m:=m) (fu:=fu) (fr:=fr) (fs:=fs) (gn:=gn) (key:=key) (f:=f+1) (n:=n) (deep:=deep) (c:=gV (pz fs gn n) (bo th m fu fr (je fs n) true (bw (bN th m n deep) key val) (aL th m n deep))) (by rw[fZ,if_neg (by rw[h];simp),if_pos hl,if_neg (by show¬(0:Int)≠0;simp)];rfl)
 refine Ds.eR hz hX ab2 T Tryd.func80 (asR f th m fu root fr fs gn n key val (bN th m n deep) (aL th m n deep)) ⟨by omega,s1,rfl,rfl,rfl,rfl,hd,hf,⟨fun _=>m1 hl,fun e=>by cases e⟩,oc (op:=some val) hk.2 hkk n1 n3,n4, ?_⟩
 exact kr ⟨[],[0,1],6,[]⟩ rfl (Nat.le_refl _) (oL.same _) f2 f1
theorem wa:∀f,jA P Bx.bV 80 (w5 f)
 |0=>by
  rintro⟨⟨(th:Th),(m:As),(fu:Int),(root:Int),(fr:Ws),(fs:Ws),(gn:Ws)⟩,(n:Int),(deep:Int),(key:ByteArray),(val:ByteArray)⟩ ⟨_,_,_,(h1:1≤deep∧deep≤17),(h2:18≤deep+((0:Nat):Int)),_⟩
  omega
 |f+1=>by
  have T:=aj9 (wa f)
  refine fG Tryd.func80 (by kernel_rfl) (fun x=>Nat.le_of_ble_eq_true (by kernel_rfl)) ?_
  rintro⟨⟨(th:Th),(m:As),(fu:Int),(root:Int),(fr:Ws),(fs:Ws),(gn:Ws)⟩,(n:Int),(deep:Int),(key:ByteArray),(val:ByteArray)⟩ ⟨(hd:Ds.bM th m fu),(hf:Bx.okW fr),(hn:0≤n∧n≤65536),(h1:1≤deep∧deep≤17),(h2:18≤deep+((f+1:Nat):Int)),(hk:1≤key.size∧key.size≤24),(hv:val.size≤100),_⟩ X hX hz
  refine Ds.eR hz hX ab2 T Tryd.func80 (auS f th m fu root fr fs gn n deep key val) ⟨rfl,rfl,hd,z7 (by omega) (by omega),fun h=> ?_,fun h=>⟨fun hl=> ?_,fun hl=> ?_⟩⟩
  ·have h:fM th m n deep≠0:=by simpa using h
   obtain⟨f1,f2⟩:=aj8 (val:=val) (root:=root) (th:=th) (m:=m) (fu:=fu) (fr:=fr) (fs:=fs) (gn:=gn) (key:=key) (f:=f+1) (n:=n) (deep:=deep) (c:=(m,fu,fr,fs,gn,[],fM th m n deep)) (by rw[fZ,if_pos h])
   exact kr ⟨[(0,.ae cB [],Lf.eB)],[0,1],6,[]⟩ rfl (Nat.le_refl _) (oL.same _) f2 f1
  ·have h:fM th m n deep=0:=by simpa using h
   have e:=aqT (root:=root) (val:=val) (gn:=gn) (fs:=fs) hz hX T hd hf hk hv h hl
   rw[hl]
   exact e
  ·have h:fM th m n deep=0:=by simpa using h
   exact amP hz hX T hd hf h1 h2 hk hv h hl
end
end Ts
namespace Ts
open Go Go.Sx Go.Proofs Lf
theorem aka{f:Nat}(h:jA P Bx.bV 80 (w6 f)):(oN f).Ok P Bx.bV:=aH.Ok.cons (n9.sum mNo) (aH.Ok.cons (vP.sum mLv) (aH.Ok.cons (ix (gi (jJ.sum mTN) 1 _) 1) (aH.Ok.cons aju.sum (aH.Ok.cons vt.sum (aH.Ok.cons rT.sum (aH.Ok.cons (h.sum amI) aH.Ok.nil))))))
section
variable{th:Th}{m:As}{fu root:Int}{fr fs gn:Ws}{n deep:Int}{key val:ByteArray}{f:Nat}{X:Ctx}
theorem ab3{th:Th}{m:As}{fu root:Int}{fr fs gn:Ws}{key:ByteArray}:∀y∈adY,(qK th m fu root fr fs gn key).length≤y.2.m:=fun y hy=>by
 simp only[adY,List.mem_cons,List.not_mem_nil,or_false]at hy
 rcases hy with rfl|rfl|rfl|rfl<;>exact Nat.le_refl _
theorem afA(hz:dS Bx.bV X)(hX:X.H=lk (qK th m fu root fr fs gn key))(T:(oN f).Ok P Bx.bV){m':As}{gC:Int}{oO lB qX:Ws}{l:Bool}{es:List En}{bs:List Br}{k:Int}{r:List Br}(hd:Ds.bM th m' gC)(hf:Bx.okW oO)(hl:l=false∧es=[])(he:a8 es)
 (hb:ba (bs.take k.toNat++r++bs.drop (k.toNat+1))) (hk0:0≤k) (y5:k<(bs.length:Int)) (hbl:bs.length≤84)
 (e:vO th key none (f+1) m fu fr fs gn n deep=gV (pz lB qX n) (bo th m' gC oO (je lB n) l es (bs.take k.toNat++r++bs.drop (k.toNat+1)))):
 Safe P 80 X (w4 (w6 (f+1)) ((th,m,fu,root,fr,fs,gn),n,deep,key,val)) (aoF th m' gC root oO lB qX n key l es bs k r):=by
 rw[←ab0 hk0]at hb e
 have hjl:=hb.1
 obtain⟨f1,f2⟩:=ahn (root:=root) (val:=val) e
 refine Ds.eR hz hX ab3 T Tryd.func80 (aqR f th m' gC root oO lB qX n key l es bs k r) ⟨by omega,hk0,by omega,⟨by omega,by omega⟩,by omega,by omega,by omega,by show 3≤100;omega, ?_,rfl,rfl,rfl,rfl,hd,hf,⟨fun h=>(by rw[hl.1]at h;cases h),fun _=>hl.2⟩,he,hb, ?_⟩
 ·exact Nat.le_trans hjl (by omega)
 ·exact kr ⟨[],[0,1],5,[]⟩ rfl (Nat.le_refl _) (oL.same _) f2 f1
theorem amQ(hz:dS Bx.bV X)(hX:X.H=lk (qK th m fu root fr fs gn key))(T:(oN f).Ok P Bx.bV){m':As}{gC:Int}{oO lB qX:Ws}{l:Bool}{es:List En}{bs:List Br}{k e:Int}{r:List Br}(hd:Ds.bM th m' gC)(hf:Bx.okW oO)(hl:l=false∧es=[])(he:a8 es)
 (hb:ba (bs.take k.toNat++kT (bs.getD k.toNat dB).1 r++bs.drop (k.toNat+1))) (hk0:0≤k) (y5:k<(bs.length:Int)) (hbl:bs.length≤84)
 (ee:vO th key none (f+1) m fu fr fs gn n deep=if e≠0 then(m',gC,oO,lB,qX,[],e)else gV (pz lB qX n) (bo th m' gC oO (je lB n) l es (bs.take k.toNat++kT (bs.getD k.toNat dB).1 r++bs.drop (k.toNat+1)))):
 Safe P 80 X (w4 (w6 (f+1)) ((th,m,fu,root,fr,fs,gn),n,deep,key,val)) (aoE th m' gC root oO lB qX n key l es bs k e r):=by
 refine Ds.eR hz hX ab3 T Tryd.func80 (aqQ f th m' gC root oO lB qX n key l es bs k e r) ⟨fun h=> ?_,fun h=>⟨fun h5=> ?_,fun h5=> ?_⟩⟩
 ·have h:e≠0:=by simpa using h
  rw[if_pos h]at ee
  obtain⟨f1,f2⟩:=ahn (root:=root) (val:=val) ee
  exact kr ⟨[(0,.ae cB [],Lf.eB)],[0,1],5,[]⟩ rfl (Nat.le_refl _) (oL.same _) f2 f1
 ·have h:¬e≠0:=by simpa using h
  rw[if_neg h]at ee
  have h5:=of_decide_eq_true h5
  have e5:=ab1 (r:=r) (k:=(bs.getD k.toNat dB).1) (by omega)
  rw[←e5]at hb ee
  exact⟨hk0,y5,by omega,h5,afA hz hX T hd hf hl he hb hk0 y5 hbl ee⟩
 ·have h:¬e≠0:=by simpa using h
  rw[if_neg h]at ee
  have h5:=of_decide_eq_false h5
  have e5:r=[]:=List.eq_nil_of_length_eq_zero (by omega)
  subst e5
  exact afA hz hX T hd hf hl he hb hk0 y5 hbl ee
theorem amR(hz:dS Bx.bV X)(hX:X.H=lk (qK th m fu root fr fs gn key))(T:(oN f).Ok P Bx.bV)(hd:Ds.bM th m fu)(hf:Bx.okW fr)(h1:1≤deep∧deep≤17)(h2:18≤deep+((f+1:Nat):Int))(hk:1≤key.size∧key.size≤24)
 (h:fM th m n deep=0) (hl:ke th m n deep=false):
 Safe P 80 X (w4 (w6 (f+1)) ((th,m,fu,root,fr,fs,gn),n,deep,key,val)) (aoD th m fu root fr fs gn n deep key (ke th m n deep) (bN th m n deep) (aL th m n deep)):=by
 obtain⟨hm,n1,n2,n3,n4,n5,_⟩:=eH h
 obtain⟨m1,m2,_,_⟩:=dK hm
 obtain⟨s1,s2⟩:=qH hm
 have hkk:∀v:ByteArray,none=some v→v.size≤100:=fun v e=>by cases e
 refine Ds.eR hz hX ab3 T Tryd.func80 (aqP f th m fu root fr fs gn n deep key (ke th m n deep) (bN th m n deep) (aL th m n deep)) ⟨fun h3=> ?_,fun h3=> ?_⟩
 ·have h3:aL th m n deep=[]:=List.eq_nil_of_length_eq_zero (by have:((aL th m n deep).length:Int)=0:=by simpa using h3
                                                               omega)
  obtain⟨f1,f2⟩:=ahn (val:=val) (root:=root) (th:=th) (m:=m) (fu:=fu) (fr:=fr) (fs:=fs) (gn:=gn) (key:=key) (f:=f+1) (n:=n) (deep:=deep) (c:=(m,fu,fr,fs,gn,[],4)) (by rw[fZ,if_neg (by rw[h];simp),if_neg (by rw[hl];simp),if_pos h3])
  exact kr ⟨[(0,.ae cB [],Lf.eB)],[0,1],5,[]⟩ rfl (Nat.le_refl _) (oL.same _) f2 f1
 ·have h3:aL th m n deep≠[]:=fun e=>by rw[e]at h3;simp at h3
  obtain⟨p0,p1⟩:=rY (key:=key) s2 h3
  have pg:=rZ h (aU (aL th m n deep) key).toNat
  have z8:=qR (th:=th) (key:=key) (op:=none) hk.2 f (m:=m) (fu:=fu) (fr:=fr) (fs:=fs) (gn:=gn) (n:=((aL th m n deep).getD (aU (aL th m n deep) key).toNat dB).2.1) (deep:=deep+1) hd hf
  have hb:=v8 (bs:=aL th m n deep) (k:=(aU (aL th m n deep) key).toNat) (abZ hm).2 n2 z8.two z8.key (pG (abZ hm).2 (aU (aL th m n deep) key).toNat)
  refine⟨by omega,s2,p0,p1,z7 (by omega) (by omega),rfl,rfl,hd,hf,pg,⟨by omega,by omega⟩,by omega,hk,(Nat.zero_le 100),amQ hz hX T z8.d z8.fr ⟨hl,m2 hl⟩ n3 hb p0 p1 n2 ?_⟩
  rw[fZ,if_neg (by rw[h];simp),if_neg (by rw[hl];simp),if_neg h3,hl]
  rfl
theorem aqU(hz:dS Bx.bV X)(hX:X.H=lk (qK th m fu root fr fs gn key))(T:(oN f).Ok P Bx.bV)(hd:Ds.bM th m fu)(hf:Bx.okW fr)(hk:1≤key.size∧key.size≤24)
 (h:fM th m n deep=0) (hl:ke th m n deep=true):
 Safe P 80 X (w4 (w6 (f+1)) ((th,m,fu,root,fr,fs,gn),n,deep,key,val)) (asS th m fu root fr fs gn n key (bN th m n deep) (aL th m n deep)):=by
 obtain⟨hm,n1,n2,n3,n4,n5,_⟩:=eH h
 obtain⟨m1,m2,_,_⟩:=dK hm
 obtain⟨s1,s2⟩:=qH hm
 have hkk:∀v:ByteArray,none=some v→v.size≤100:=fun v e=>by cases e
 refine Ds.eR hz hX ab3 T Tryd.func80 (asT f th m fu root fr fs gn n key (bN th m n deep) (aL th m n deep)) ⟨by omega,s1,fun hb=> ?_,fun hb=> ?_⟩
 ·have hb:gF (bN th m n deep) key=false:=by simpa using hb
  have hc:py key none (bN th m n deep)=5:=by show(if gF (bN th m n deep) key=true then(0:Int)else 5)=5;rw[if_neg (by rw[hb];simp)]
  obtain⟨f1,f2⟩:=ahn (val:=val) (root:=root) (th:=th) (m:=m) (fu:=fu) (fr:=fr) (fs:=fs) (gn:=gn) (key:=key) (f:=f+1) (n:=n) (deep:=deep) (c:=(m,fu,fr,fs,gn,[],5)) (by rw[fZ,if_neg (by rw[h];simp),if_pos hl,if_pos (by rw[hc];simp),hc])
  exact kr ⟨[(0,.ae cB [],Lf.eB)],[0,1],5,[]⟩ rfl (Nat.le_refl _) (oL.same _) f2 f1
 ·have hb:gF (bN th m n deep) key=true:=by simpa using hb
  have hc:py key none (bN th m n deep)=0:=by show(if gF (bN th m n deep) key=true then(0:Int)else 5)=0;rw[if_pos hb]
  have ee:doE key none (bN th m n deep)=cz (bN th m n deep) key:=by show(if gF (bN th m n deep) key=true then _ else _)=_;rw[if_pos hb]
  have sm:=oc (key:=key) (op:=none) (es:=bN th m n deep) hk.2 hkk n1 n3
  obtain⟨f1,f2⟩:=ahn (val:=val) (root:=root) (th:=th) (m:=m) (fu:=fu) (fr:=fr) (fs:=fs) (gn:=gn) (key:=key) (f:=f+1) (n:=n) (deep:=deep) (c:=gV (pz fs gn n) (bo th m fu fr (je fs n) true (cz (bN th m n deep) key) (aL th m n deep))) (by rw[fZ,if_neg (by rw[h];simp),if_pos hl,if_neg (by rw[hc];simp),ee])
  rw[ee]at sm
  exact⟨rfl,rfl,rfl,rfl,hd,hf,⟨fun _=>m1 hl,fun e=>by cases e⟩,sm,n4,kr ⟨[],[0,1],5,[]⟩ rfl (Nat.le_refl _) (oL.same _) f2 f1⟩
theorem wb:∀f,jA P Bx.bV 80 (w6 f)
 |0=>by
  rintro⟨⟨(th:Th),(m:As),(fu:Int),(root:Int),(fr:Ws),(fs:Ws),(gn:Ws)⟩,(n:Int),(deep:Int),(key:ByteArray),(val:ByteArray)⟩ ⟨_,_,_,(h1:1≤deep∧deep≤17),(h2:18≤deep+((0:Nat):Int)),_⟩
  omega
 |f+1=>by
  have T:=aka (wb f)
  refine fG Tryd.func80 (by kernel_rfl) (fun x=>Nat.le_of_ble_eq_true (by kernel_rfl)) ?_
  rintro⟨⟨(th:Th),(m:As),(fu:Int),(root:Int),(fr:Ws),(fs:Ws),(gn:Ws)⟩,(n:Int),(deep:Int),(key:ByteArray),(val:ByteArray)⟩ ⟨(hd:Ds.bM th m fu),(hf:Bx.okW fr),(hn:0≤n∧n≤65536),(h1:1≤deep∧deep≤17),(h2:18≤deep+((f+1:Nat):Int)),(hk:1≤key.size∧key.size≤24),(hv:val.size≤100),_⟩ X hX hz
  refine Ds.eR hz hX ab3 T Tryd.func80 (auT f th m fu root fr fs gn n deep key) ⟨rfl,rfl,hd,z7 (by omega) (by omega),fun h=> ?_,fun h=>⟨fun hl=> ?_,fun hl=> ?_⟩⟩
  ·have h:fM th m n deep≠0:=by simpa using h
   obtain⟨f1,f2⟩:=ahn (val:=val) (root:=root) (th:=th) (m:=m) (fu:=fu) (fr:=fr) (fs:=fs) (gn:=gn) (key:=key) (f:=f+1) (n:=n) (deep:=deep) (c:=(m,fu,fr,fs,gn,[],fM th m n deep)) (by rw[fZ,if_pos h])
   exact kr ⟨[(0,.ae cB [],Lf.eB)],[0,1],5,[]⟩ rfl (Nat.le_refl _) (oL.same _) f2 f1
  ·have h:fM th m n deep=0:=by simpa using h
   have e:=aqU (root:=root) (val:=val) (gn:=gn) (fs:=fs) hz hX T hd hf hk h hl
   rw[hl]
   exact e
  ·have h:fM th m n deep=0:=by simpa using h
   exact amR hz hX T hd hf h1 h2 hk h hl
end
end Ts
namespace Ts
open Go Go.Sx Go.Proofs Lf
def ot(th:Th)(m:As):Nat→Ws→Ws→Int→Int→Ws×Ws×Int×Int
 |0,fs,gn,_,_=>(fs,gn,0,4)
 |f+1,fs,gn,n,deep=>
  if fM th m n deep≠0 then(fs,gn,0,fM th m n deep)
  else if ke th m n deep=true∨(aL th m n deep).length≠1 then(fs,gn,n,0)
  else ot th m f (je fs n) (pz fs gn n) ((aL th m n deep).getD 0 dB).2.1 (deep+1)
def wc(th:Th)(m:As)(f:Nat)(fs gn:Ws)(n deep:Int):Ws:=(ot th m f fs gn n deep).1
def we(th:Th)(m:As)(f:Nat)(fs gn:Ws)(n deep:Int):Ws:=(ot th m f fs gn n deep).2.1
def w8(th:Th)(m:As)(f:Nat)(fs gn:Ws)(n deep:Int):Int:=(ot th m f fs gn n deep).2.2.1
def w9(th:Th)(m:As)(f:Nat)(fs gn:Ws)(n deep:Int):Int:=(ot th m f fs gn n deep).2.2.2
abbrev sLo:Spec (XT×Int):=⟨fun(_,n)=>[.ptr 0 0,bP n],fun((th,m,fu,root,fr,fs,gn),_)=>hT th m fu root fr fs gn,fun((th,m,fu,_),n)=>[Ds.bM th m fu,0≤n∧n≤65536],
 fun((th,m,fu,root,fr,fs,gn),n)=>hT th m fu root fr (wc th m 17 fs gn n 1) (we th m 17 fs gn n 1),fun((th,m,_,_,_,fs,gn),n)=>.bm [bP (w8 th m 17 fs gn n 1),bP (w9 th m 17 fs gn n 1)]⟩
def akb:aH:=[(37,yj),(85,ajY)]
def amS:List (Nat×Norm):=[(3,⟨[],[0,1,6],4,[]⟩)]
noncomputable def cLo(th:Th)(m:As)(fu root:Int)(fr fs gn:Ws)(n deep:Int):bC:=⟨sl 38 [(0,.ptr 0 0),(1,bP n),(6,bP deep)],hT th m fu root fr fs gn,hd Tryd.f67 3,{}⟩
theorem auU(th:Th)(m:As)(fu root:Int)(fr fs gn:Ws)(n:Int):run P akb.sum Tryd.f67 amS (start Tryd.f67 [.ptr 0 0,bP n] (hT th m fu root fr fs gn))=
 Tree.at (.mk (sl 38 [(0,.ptr 0 0),(1,.s (.int .i64 n)),(6,.s (.int .i64 1))]) [.own [.ptr 1 0,.s (.int .i64 root),.ints .u64 16 fr,.ints .u64 16 fs,.ints .u64 16 gn] 70,.own [.vec 2,.ag 3,.s (.int .i64 fu)] 96,.vec (.ae [.arr .u8 64] th) 138,.map (.arr .u8 64) m] (hd Tryd.f67 3) (.mk none false 0 [] 0)):=by kernel_rfl
theorem auV(th:Th)(m:As)(fu root:Int)(fr fs gn:Ws)(n deep:Int):run P akb.sum Tryd.f67 amS (cLo th m fu root fr fs gn n deep)=
 Tree.need (bE (some [AV.ptr 0 0,.s (.int .i64 n),.s (.int .i64 deep)]))
 (.need (bE (some [ad.own [.ptr 1 0,.s (.int .i64 root),.ints .u64 16 fr,.ints .u64 16 fs,.ints .u64 16 gn] 70,.own [.vec 2,.ag 3,.s (.int .i64 fu)] 96,.vec (.ae [.arr .u8 64] th) 138,.map (.arr .u8 64) m])) (.need (Ds.bM th m fu) (.need (aD n) (.ite (fM th m n deep !=0) (.ret [.own [.ptr 1 0,.s (.int .i64 root),.ints .u64 16 fr,.ints .u64 16 fs,.ints .u64 16 gn] 70,.own [.vec 2,.ag 3,.s (.int .i64 fu)] 96,.vec (.ae [.arr .u8 64] th) 138,.map (.arr .u8 64) m,.own [.s (.bool (ke th m n deep)),.s (.ro (.ae [.str,.str] (bN th m n deep))),.s (.ro (.ae [.str,.int .i64] (aL th m n deep)))] 73] (.bm [.s (.aZ .i64 0),.s (.int .i64 (fM th m n deep))])) (.ite (ke th m n deep) (.ret [.own [.ptr 1 0,.s (.int .i64 root),.ints .u64 16 fr,.ints .u64 16 fs,.ints .u64 16 gn] 70,.own [.vec 2,.ag 3,.s (.int .i64 fu)] 96,.vec (.ae [.arr .u8 64] th) 138,.map (.arr .u8 64) m,.own [.s (.bool (ke th m n deep)),.s (.ro (.ae [.str,.str] (bN th m n deep))),.s (.ro (.ae [.str,.int .i64] (aL th m n deep)))] 73] (.bm [.s (.int .i64 n),.s (.aZ .i64 0)])) (.ite ((↑(aL th m n deep).length:Int) !=1) (.ret [.own [.ptr 1 0,.s (.int .i64 root),.ints .u64 16 fr,.ints .u64 16 fs,.ints .u64 16 gn] 70,.own [.vec 2,.ag 3,.s (.int .i64 fu)] 96,.vec (.ae [.arr .u8 64] th) 138,.map (.arr .u8 64) m,.own [.s (.bool (ke th m n deep)),.s (.ro (.ae [.str,.str] (bN th m n deep))),.s (.ro (.ae [.str,.int .i64] (aL th m n deep)))] 73] (.bm [.s (.int .i64 n),.s (.aZ .i64 0)])) (.need (bE (some [AV.ptr 0 0,.s (.int .i64 n)])) (.need (bE (some [ad.own [.ptr 1 0,.s (.int .i64 root),.ints .u64 16 fr,.ints .u64 16 fs,.ints .u64 16 gn] 70,.own [.vec 2,.ag 3,.s (.int .i64 fu)] 96,.vec (.ae [.arr .u8 64] th) 138,.map (.arr .u8 64) m])) (.need ((0:Int)≤0) (.need ((0:Int)<(↑(aL th m n deep).length:Int)) (.need (aD (deep+1)) (.at (.mk (sl 38 [(0,.ptr 0 0),(1,.s (.int .i64 ((aL th m n deep).getD 0 (CL.d [.str,.int .i64])).snd.fst)),(6,.s (.int .i64 (deep+1)))]) [.own [.ptr 1 0,.s (.int .i64 root),.ints .u64 16 fr,.ints .u64 16 (je fs n),.ints .u64 16 (pz fs gn n)] 70,.own [.vec 2,.ag 3,.s (.int .i64 fu)] 96,.vec (.ae [.arr .u8 64] th) 138,.map (.arr .u8 64) m] (hd Tryd.f67 3) (.mk none false 0 [] 0)))))))))))))):=by kernel_rfl
theorem ab4{Z:bd}:akb.Ok P Z:=aH.Ok.cons (n9.sum mNo) (aH.Ok.cons (vP.sum mLv) aH.Ok.nil)
theorem akc{th:Th}{m:As}{fu root:Int}{fr fs gn:Ws}{n:Int}{c:Ws×Ws×Int×Int}(e:c=ot th m 17 fs gn n 1):
 sLo.fv ((th,m,fu,root,fr,fs,gn),n)=hT th m fu root fr c.1 c.2.1∧sLo.out ((th,m,fu,root,fr,fs,gn),n)=.bm [bP c.2.2.1,bP c.2.2.2]:=by
 subst e;exact⟨rfl,rfl⟩
theorem ab5{Z:bd}:jA P Z 67 sLo:=by
 refine aO Tryd.func67 (by kernel_rfl) (fun x=>Nat.le_of_ble_eq_true (by kernel_rfl)) ?_
 rintro⟨⟨(th:Th),(m:As),(fu:Int),(root:Int),(fr:Ws),(dk:Ws),(dm:Ws)⟩,(n0:Int)⟩ ⟨(hd:Ds.bM th m fu),(hn0:0≤n0∧n0≤65536),_⟩ X hX hz
 have hm:∀y∈amS,(hT th m fu root fr dk dm).length≤y.2.m:=fun y hy=>by
  simp only[amS,List.mem_singleton]at hy;subst hy;exact Nat.le_refl _
 have loop:∀(f:Nat) (fs gn:Ws) (n deep:Int),1≤deep∧deep≤17→18≤deep+(f:Int)→0≤n∧n≤65536→ot th m f fs gn n deep=ot th m 17 dk dm n0 1→
  Safe P 67 X (ko sLo ((th,m,fu,root,fr,dk,dm),n0)) (cLo th m fu root fr fs gn n deep):=by
  intro f
  induction f with
  |zero=>intro fs gn n deep h1 h2;omega
  |succ f ih=>
   intro fs gn n deep h1 h2 hn e
   rw[ot]at e
   refine Ds.eR hz hX hm ab4 Tryd.func67 (auV th m fu root fr fs gn n deep) ⟨rfl,rfl,hd,z7 (by omega) (by omega),fun h=> ?_,fun h=>⟨fun hl=> ?_,fun hl=>⟨fun h3=> ?_,fun h3=> ?_⟩⟩⟩
   ·have h:fM th m n deep≠0:=by simpa using h
    rw[if_pos h]at e
    obtain⟨f1,f2⟩:=akc (fu:=fu) (root:=root) (fr:=fr) e
    exact bU 4 rfl (Nat.le_refl _) f2 f1
   ·have h:fM th m n deep=0:=by simpa using h
    rw[if_neg (by rw[h];simp),if_pos (.inl hl)]at e
    obtain⟨f1,f2⟩:=akc (fu:=fu) (root:=root) (fr:=fr) e
    exact bU 4 rfl (Nat.le_refl _) f2 f1
   ·have h:fM th m n deep=0:=by simpa using h
    have h3:¬((aL th m n deep).length:Int)=1:=by simpa using h3
    rw[if_neg (by rw[h];simp),if_pos (.inr (by omega))]at e
    obtain⟨f1,f2⟩:=akc (fu:=fu) (root:=root) (fr:=fr) e
    exact bU 4 rfl (Nat.le_refl _) f2 f1
   ·have h:fM th m n deep=0:=by simpa using h
    have h3:((aL th m n deep).length:Int)=1:=by simpa using h3
    rw[if_neg (by rw[h];simp),if_neg (by rintro(a|a);rw[hl]at a;cases a;omega)]at e
    have pg:=rZ h 0
    obtain⟨_,_,_,_,_,n5,_⟩:=eH h
    exact⟨rfl,rfl,by omega,by omega,z7 (by omega) (by omega),ih _ _ _ _ ⟨by omega,by omega⟩ (by omega) pg e⟩
 exact Ds.eR hz hX hm ab4 Tryd.func67 (auU th m fu root fr dk dm n0) (loop 17 dk dm n0 1 ⟨by omega,by omega⟩ (by omega) hn0 rfl)
end Ts
namespace Ts
open Go Go.Sx Go.Proofs Lf
def iV(th:Th)(key:ByteArray)(op:Option ByteArray)(m:As)(fu root:Int)(fr fs gn:Ws):Chg:=
 if root≠0 then vO th key op 17 m fu fr fs gn root 1
 else if py key op []≠0 then(m,fu,fr,fs,gn,[],py key op [])
 else gV gn (bo th m fu fr fs true (doE key op []) [])
abbrev XK:Type:=XT×ByteArray×ByteArray
def xa(th:Th)(key:ByteArray)(op:Option ByteArray)(m:As)(fu root:Int)(fr fs gn:Ws):As:=(iV th key op m fu root fr fs gn).1
def xb(th:Th)(key:ByteArray)(op:Option ByteArray)(m:As)(fu root:Int)(fr fs gn:Ws):Int:=(iV th key op m fu root fr fs gn).2.1
def xc(th:Th)(key:ByteArray)(op:Option ByteArray)(m:As)(fu root:Int)(fr fs gn:Ws):Ws:=(iV th key op m fu root fr fs gn).2.2.1
def ab6(th:Th)(key:ByteArray)(op:Option ByteArray)(m:As)(fu root:Int)(fr fs gn:Ws):Ws:=(iV th key op m fu root fr fs gn).2.2.2.1
def ab7(th:Th)(key:ByteArray)(op:Option ByteArray)(m:As)(fu root:Int)(fr fs gn:Ws):Ws:=(iV th key op m fu root fr fs gn).2.2.2.2.1
def wg(th:Th)(key:ByteArray)(op:Option ByteArray)(m:As)(fu root:Int)(fr fs gn:Ws):List Br:=(iV th key op m fu root fr fs gn).2.2.2.2.2.1
def wh(th:Th)(key:ByteArray)(op:Option ByteArray)(m:As)(fu root:Int)(fr fs gn:Ws):Int:=(iV th key op m fu root fr fs gn).2.2.2.2.2.2
def afB(th:Th)(m:As)(fu root:Int)(fr:Ws)(key val:ByteArray):List Prop:=[Ds.bM th m fu,Bx.okW fr,0≤root∧root≤65536,1≤key.size∧key.size≤24,val.size≤100]
abbrev amT:Spec XK:=⟨fun(_,key,_)=>[.ptr 0 0,.s (.str key),.fn fP1 [.ptr 4 0,.ptr 5 0]],fun((th,m,fu,root,fr,fs,gn),key,val)=>qJ th m fu root fr fs gn key val,fun((th,m,fu,root,fr,_,_),key,val)=>afB th m fu root fr key val,
 fun((th,m,fu,root,fr,fs,gn),key,val)=>qJ th (xa th key (some val) m fu root fr fs gn) (xb th key (some val) m fu root fr fs gn) root (xc th key (some val) m fu root fr fs gn) (ab6 th key (some val) m fu root fr fs gn) (ab7 th key (some val) m fu root fr fs gn) key val++[.vec (.ae cB (wg th key (some val) m fu root fr fs gn)) Lf.eB],
 fun((th,m,fu,root,fr,fs,gn),key,val)=>.bm [.vec 6,bP (wh th key (some val) m fu root fr fs gn)]⟩
abbrev amU:Spec XK:=⟨fun(_,key,_)=>[.ptr 0 0,.s (.str key),.fn fD1 [.ptr 4 0]],fun((th,m,fu,root,fr,fs,gn),key,_)=>qK th m fu root fr fs gn key,fun((th,m,fu,root,fr,_,_),key,val)=>afB th m fu root fr key val,
 fun((th,m,fu,root,fr,fs,gn),key,_)=>qK th (xa th key none m fu root fr fs gn) (xb th key none m fu root fr fs gn) root (xc th key none m fu root fr fs gn) (ab6 th key none m fu root fr fs gn) (ab7 th key none m fu root fr fs gn) key++[.vec (.ae cB (wg th key none m fu root fr fs gn)) Lf.eB],
 fun((th,m,fu,root,fr,fs,gn),key,_)=>.bm [.vec 5,bP (wh th key none m fu root fr fs gn)]⟩
def amV:List AV→RM (XK×List Nat)
 |[t,.s (.str _),.fn _ [.ptr i 0,.ptr j 0]]=>(mT [t]).bind fun(X,σ)=>.look i fun o=>match o with
  |some (.own [.s (.str key)] _)=>.look j fun o=>match o with
   |some (.own [.s (.str val)] _)=>.ret ((X,key,val),σ++[i,j])
   |_=>.fail "no text"
  |_=>.fail "no text"
 |_=>.fail "top: arguments"
def amW:List AV→RM (XK×List Nat)
 |[t,.s (.str _),.fn _ [.ptr i 0]]=>(mT [t]).bind fun(X,σ)=>.look i fun o=>match o with
  |some (.own [.s (.str key)] _)=>.ret ((X,key,ByteArray.empty),σ++[i])
  |_=>.fail "no text"
 |_=>.fail "top: arguments"
def aoG:aH:=[(80,dA (w5 17) amH),(50,aoy),(66,yk)]
def aoH:aH:=[(80,dA (w6 17) amI),(52,aoz),(66,yk)]
theorem auW(th:Th)(m:As)(fu root:Int)(fr fs gn:Ws)(key val:ByteArray):run P aoG.sum Tryd.f65 [] (start Tryd.f65 [.ptr 0 0,.s (.str key),.fn fP1 [.ptr 4 0,.ptr 5 0]] (qJ th m fu root fr fs gn key val)) (inl:=[fP1])=
 Tree.ite (root !=0) (.need (bE (some [AV.ptr 0 0,.s (.int .i64 root),.s (.int .i64 1),.s (.str key),.fn 49 [.ptr 4 0,.ptr 5 0]])) (.need (bE (some [ad.own [.ptr 1 0,.s (.int .i64 root),.ints .u64 16 fr,.ints .u64 16 fs,.ints .u64 16 gn] 70,.own [.vec 2,.ag 3,.s (.int .i64 fu)] 96,.vec (.ae [.arr .u8 64] th) 138,.map (.arr .u8 64) m,.own [.s (.str key)] 9,.own [.s (.str val)] 9])) (.need (Ds.bM th m fu) (.need (Bx.okW fr) (.need ((0:Int)≤root∧root≤65536) (.need ((1:Int)≤1∧(1:Int)≤17) (.need ((18:Int)≤1+(↑(17:Nat):Int)) (.need ((1:Nat)≤key.size∧key.size≤24) (.need (val.size≤100) (.ret [.own [.ptr 1 0,.s (.int .i64 root),.ints .u64 16 (pE th key (some val) 17 m fu fr fs gn root 1),.ints .u64 16 (qL th key (some val) 17 m fu fr fs gn root 1),.ints .u64 16 (rV th key (some val) 17 m fu fr fs gn root 1)] 70,.own [.vec 2,.ag 3,.s (.int .i64 (pD th key (some val) 17 m fu fr fs gn root 1))] 96,.vec (.ae [.arr .u8 64] th) 138,.map (.arr .u8 64) (pC th key (some val) 17 m fu fr fs gn root 1),.own [.s (.str key)] 9,.own [.s (.str val)] 9,.vec (.ae [.str,.int .i64] (tc th key (some val) 17 m fu fr fs gn root 1)) 79] (.bm [.vec 6,.s (.int .i64 (rW th key (some val) 17 m fu fr fs gn root 1))]))))))))))) (.need ((0:Nat)≤100000) (.need (ir (bA [])) (.need (bE (some [AV.ptr 0 0,.agg [.s (.bool true),.s (.ro (.ae [.str,.str] (bw [] key val))),.s (.ro (.ae [.str,.int .i64] []))]])) (.need (bE (some [ad.own [.ptr 1 0,.s (.int .i64 root),.ints .u64 16 fr,.ints .u64 16 fs,.ints .u64 16 gn] 70,.own [.vec 2,.ag 3,.s (.int .i64 fu)] 96,.vec (.ae [.arr .u8 64] th) 138,.map (.arr .u8 64) m])) (.need (Ds.bM th m fu) (.need (Bx.okW fr) (.need (zX true (bw [] key val) []) (.need (a8 (bw [] key val)) (.need (ba []) (.ret [.own [.ptr 1 0,.s (.int .i64 root),.ints .u64 16 (bo th m fu fr fs true (bw [] key val) []).snd.snd.fst,.ints .u64 16 (bo th m fu fr fs true (bw [] key val) []).snd.snd.snd.fst,.ints .u64 16 gn] 70,.own [.vec 2,.ag 3,.s (.int .i64 (bo th m fu fr fs true (bw [] key val) []).snd.fst)] 96,.vec (.ae [.arr .u8 64] th) 138,.map (.arr .u8 64) (bo th m fu fr fs true (bw [] key val) []).fst,.own [.s (.str key)] 9,.own [.s (.str val)] 9,.dead,.vec (.ae [.str,.int .i64] (bo th m fu fr fs true (bw [] key val) []).snd.snd.snd.snd.fst) 79] (.bm [.vec 7,.s (.int .i64 (bo th m fu fr fs true (bw [] key val) []).snd.snd.snd.snd.snd)]))))))))))):=by kernel_rfl
theorem auX(th:Th)(m:As)(fu root:Int)(fr fs gn:Ws)(key:ByteArray):run P aoH.sum Tryd.f65 [] (start Tryd.f65 [.ptr 0 0,.s (.str key),.fn fD1 [.ptr 4 0]] (qK th m fu root fr fs gn key)) (inl:=[fD1])=
 Tree.ite (root !=0) (.need (bE (some [AV.ptr 0 0,.s (.int .i64 root),.s (.int .i64 1),.s (.str key),.fn 51 [.ptr 4 0]])) (.need (bE (some [ad.own [.ptr 1 0,.s (.int .i64 root),.ints .u64 16 fr,.ints .u64 16 fs,.ints .u64 16 gn] 70,.own [.vec 2,.ag 3,.s (.int .i64 fu)] 96,.vec (.ae [.arr .u8 64] th) 138,.map (.arr .u8 64) m,.own [.s (.str key)] 9])) (.need (Ds.bM th m fu) (.need (Bx.okW fr) (.need ((0:Int)≤root∧root≤65536) (.need ((1:Int)≤1∧(1:Int)≤17) (.need ((18:Int)≤1+(↑(17:Nat):Int)) (.need ((1:Nat)≤key.size∧key.size≤24) (.need (ByteArray.empty.size≤100) (.ret [.own [.ptr 1 0,.s (.int .i64 root),.ints .u64 16 (pE th key none 17 m fu fr fs gn root 1),.ints .u64 16 (qL th key none 17 m fu fr fs gn root 1),.ints .u64 16 (rV th key none 17 m fu fr fs gn root 1)] 70,.own [.vec 2,.ag 3,.s (.int .i64 (pD th key none 17 m fu fr fs gn root 1))] 96,.vec (.ae [.arr .u8 64] th) 138,.map (.arr .u8 64) (pC th key none 17 m fu fr fs gn root 1),.own [.s (.str key)] 9,.vec (.ae [.str,.int .i64] (tc th key none 17 m fu fr fs gn root 1)) 79] (.bm [.vec 5,.s (.int .i64 (rW th key none 17 m fu fr fs gn root 1))])))))))))))
 (.need ((0:Nat)≤100000) (.need (ir (bA [])) (.ite (!gF [] key) (.ret [.own [.ptr 1 0,.s (.int .i64 root),.ints .u64 16 fr,.ints .u64 16 fs,.ints .u64 16 gn] 70,.own [.vec 2,.ag 3,.s (.int .i64 fu)] 96,.vec (.ae [.arr .u8 64] th) 138,.map (.arr .u8 64) m,.own [.s (.str key)] 9,.vec (.ae [.str,.str] (cz [] key)) 34] (.bm [.emp,.s (.aZ .i64 5)])) (.need (bE (some [AV.ptr 0 0,.agg [.s (.bool true),.s (.ro (.ae [.str,.str] (cz [] key))),.s (.ro (.ae [.str,.int .i64] []))]])) (.need (bE (some [ad.own [.ptr 1 0,.s (.int .i64 root),.ints .u64 16 fr,.ints .u64 16 fs,.ints .u64 16 gn] 70,.own [.vec 2,.ag 3,.s (.int .i64 fu)] 96,.vec (.ae [.arr .u8 64] th) 138,.map (.arr .u8 64) m])) (.need (Ds.bM th m fu) (.need (Bx.okW fr) (.need (zX true (cz [] key) []) (.need (a8 (cz [] key)) (.need (ba []) (.ret [.own [.ptr 1 0,.s (.int .i64 root),.ints .u64 16 (bo th m fu fr fs true (cz [] key) []).snd.snd.fst,.ints .u64 16 (bo th m fu fr fs true (cz [] key) []).snd.snd.snd.fst,.ints .u64 16 gn] 70,.own [.vec 2,.ag 3,.s (.int .i64 (bo th m fu fr fs true (cz [] key) []).snd.fst)] 96,.vec (.ae [.arr .u8 64] th) 138,.map (.arr .u8 64) (bo th m fu fr fs true (cz [] key) []).fst,.own [.s (.str key)] 9,.dead,.vec (.ae [.str,.int .i64] (bo th m fu fr fs true (cz [] key) []).snd.snd.snd.snd.fst) 79] (.bm [.vec 6,.s (.int .i64 (bo th m fu fr fs true (cz [] key) []).snd.snd.snd.snd.snd)])))))))))))):=by kernel_rfl
theorem aoI{th:Th}{m:As}{fu root:Int}{fr fs gn:Ws}{key val:ByteArray}{c:Chg}(e:iV th key (some val) m fu root fr fs gn=c):
 amT.fv ((th,m,fu,root,fr,fs,gn),key,val)=qJ th c.1 c.2.1 root c.2.2.1 c.2.2.2.1 c.2.2.2.2.1 key val++[.vec (.ae cB c.2.2.2.2.2.1) Lf.eB]∧amT.out ((th,m,fu,root,fr,fs,gn),key,val)=.bm [.vec 6,bP c.2.2.2.2.2.2]:=by
 subst e;exact⟨rfl,rfl⟩
theorem akd:aoG.Ok P Bx.bV:=aH.Ok.cons ((wa 17).sum amH) (aH.Ok.cons ajD.uT (aH.Ok.cons (ix (gi (jJ.sum mTN) 1 _) 1) aH.Ok.nil))
theorem amX:jA P Bx.bV 65 amT:=by
 refine fG Tryd.func65 (by kernel_rfl) (fun x=>Nat.le_of_ble_eq_true (by kernel_rfl)) ?_
 rintro⟨⟨(th:Th),(m:As),(fu:Int),(root:Int),(fr:Ws),(fs:Ws),(gn:Ws)⟩,(key:ByteArray),(val:ByteArray)⟩ ⟨(hd:Ds.bM th m fu),(hf:Bx.okW fr),(hr:0≤root∧root≤65536),(hk:1≤key.size∧key.size≤24),(hv:val.size≤100),_⟩ X hX hz
 have hkk:∀v:ByteArray,(some val)=some v→v.size≤100:=fun v e=>by cases e;exact hv
 have sm:=oc (key:=key) (op:=(some val)) (es:=[]) hk.2 hkk (Nat.zero_le _) iv
 refine Ds.eR hz hX (by intro y hy;cases hy) akd Tryd.func65 (auW th m fu root fr fs gn key val) ⟨fun h=>⟨rfl,rfl,hd,hf,hr,⟨by omega,by omega⟩,by omega,hk,hv, ?_⟩,fun h=>⟨by omega,by unfold ir;intro i j _ hj;simp at hj,rfl,rfl,hd,hf,⟨fun _=>rfl,fun e=>by cases e⟩,sm,vG, ?_⟩⟩
 ·have h:root≠0:=by simpa using h
  obtain⟨f1,f2⟩:=aoI (val:=val) (show iV th key (some val) m fu root fr fs gn=vO th key (some val) 17 m fu fr fs gn root 1 by unfold iV;rw[if_pos h])
  exact kr ⟨[],[0,1],6,[]⟩ rfl (Nat.le_refl _) (oL.same _) f2 f1
 ·have h:¬root≠0:=by simpa using h
  obtain⟨f1,f2⟩:=aoI (val:=val) (show iV th key (some val) m fu root fr fs gn=gV gn (bo th m fu fr fs true (bw [] key val) [])by unfold iV;rw[if_neg h,if_neg (by show¬(0:Int)≠0;simp)];rfl)
  exact kr ⟨[],[0,1],6,[]⟩ rfl (Nat.le_refl _) (oL.same _) f2 f1
theorem aoJ{th:Th}{m:As}{fu root:Int}{fr fs gn:Ws}{key val:ByteArray}{c:Chg}(e:iV th key none m fu root fr fs gn=c):
 amU.fv ((th,m,fu,root,fr,fs,gn),key,val)=qK th c.1 c.2.1 root c.2.2.1 c.2.2.2.1 c.2.2.2.2.1 key++[.vec (.ae cB c.2.2.2.2.2.1) Lf.eB]∧amU.out ((th,m,fu,root,fr,fs,gn),key,val)=.bm [.vec 5,bP c.2.2.2.2.2.2]:=by
 subst e;exact⟨rfl,rfl⟩
theorem ake:aoH.Ok P Bx.bV:=aH.Ok.cons ((wb 17).sum amI) (aH.Ok.cons aju.sum (aH.Ok.cons (ix (gi (jJ.sum mTN) 1 _) 1) aH.Ok.nil))
theorem amY:jA P Bx.bV 65 amU:=by
 refine fG Tryd.func65 (by kernel_rfl) (fun x=>Nat.le_of_ble_eq_true (by kernel_rfl)) ?_
 rintro⟨⟨(th:Th),(m:As),(fu:Int),(root:Int),(fr:Ws),(fs:Ws),(gn:Ws)⟩,(key:ByteArray),(val:ByteArray)⟩ ⟨(hd:Ds.bM th m fu),(hf:Bx.okW fr),(hr:0≤root∧root≤65536),(hk:1≤key.size∧key.size≤24),(hv:val.size≤100),_⟩ X hX hz
 have hkk:∀v:ByteArray,none=some v→v.size≤100:=fun v e=>by cases e
 have sm:=oc (key:=key) (op:=none) (es:=[]) hk.2 hkk (Nat.zero_le _) iv
 refine Ds.eR hz hX (by intro y hy;cases hy) ake Tryd.func65 (auX th m fu root fr fs gn key) ⟨fun h=>⟨rfl,rfl,hd,hf,hr,⟨by omega,by omega⟩,by omega,hk,(Nat.zero_le 100), ?_⟩,fun h=>⟨by omega,by unfold ir;intro i j _ hj;simp at hj,fun hb=> ?_,fun hb=> ?_⟩⟩
 ·have h:root≠0:=by simpa using h
  obtain⟨f1,f2⟩:=aoJ (val:=val) (show iV th key none m fu root fr fs gn=vO th key none 17 m fu fr fs gn root 1 by unfold iV;rw[if_pos h])
  exact kr ⟨[],[0,1],5,[]⟩ rfl (Nat.le_refl _) (oL.same _) f2 f1
 ·have h:¬root≠0:=by simpa using h
  obtain⟨f1,f2⟩:=aoJ (val:=val) (show iV th key none m fu root fr fs gn=(m,fu,fr,fs,gn,[],5)by unfold iV;rw[if_neg h,if_pos (by show(5:Int)≠0;simp)];rfl)
  exact kr ⟨[(0,.ae cB [],Lf.eB)],[0,1],5,[]⟩ rfl (Nat.le_refl _) (oL.same _) f2 f1
 ·exact absurd hb (by show¬(!gF [] key)=false;simp[gF,cz])
end Ts
namespace Ts
open Go Go.Sx Go.Proofs Lf
def upT(th:Th)(c:Chg):Chg:=if c.2.2.2.2.2.2=0∧1<c.2.2.2.2.2.1.length then gV c.2.2.2.2.1 (bo th c.1 c.2.1 c.2.2.1 c.2.2.2.1 false [] c.2.2.2.2.2.1)else c
abbrev Chs:Type:=As×Int×Int×Ws×Ws×Ws×Int
def nC(th:Th)(aR:Int)(dD dk dm:Ws)(m:As)(fu root:Int)(fr fs gn:Ws)(e:Int):Chs:=
 if e≠0 then(m,fu,aR,dD,dk,dm,e)else(m,fu,root,Bx.db .or fr gn,fs,Bx.aP,0)
def jD(th:Th)(aR:Int)(dD dk dm:Ws)(c:Chg):Chs:=
 if c.2.2.2.2.2.2=0∧c.2.2.2.2.2.1.length=1 then
  nC th aR dD dk dm c.1 c.2.1 (w8 th c.1 17 c.2.2.2.1 c.2.2.2.2.1 (c.2.2.2.2.2.1.getD 0 dB).2.1 1) c.2.2.1 (wc th c.1 17 c.2.2.2.1 c.2.2.2.2.1 (c.2.2.2.2.2.1.getD 0 dB).2.1 1) (we th c.1 17 c.2.2.2.1 c.2.2.2.2.1 (c.2.2.2.2.2.1.getD 0 dB).2.1 1) (w9 th c.1 17 c.2.2.2.1 c.2.2.2.2.1 (c.2.2.2.2.2.1.getD 0 dB).2.1 1)
 else nC th aR dD dk dm c.1 c.2.1 0 c.2.2.1 c.2.2.2.1 c.2.2.2.2.1 c.2.2.2.2.2.2
def ku(th:Th)(key:ByteArray)(op:Option ByteArray)(m:As)(fu root:Int)(fr fs gn:Ws):Chs:=jD th root fr fs gn (upT th (iV th key op m fu root fr fs gn))
def amZ(th:Th)(key:ByteArray)(op:Option ByteArray)(m:As)(fu root:Int)(fr fs gn:Ws):As:=(ku th key op m fu root fr fs gn).1
def am0(th:Th)(key:ByteArray)(op:Option ByteArray)(m:As)(fu root:Int)(fr fs gn:Ws):Int:=(ku th key op m fu root fr fs gn).2.1
def am1(th:Th)(key:ByteArray)(op:Option ByteArray)(m:As)(fu root:Int)(fr fs gn:Ws):Int:=(ku th key op m fu root fr fs gn).2.2.1
def am2(th:Th)(key:ByteArray)(op:Option ByteArray)(m:As)(fu root:Int)(fr fs gn:Ws):Ws:=(ku th key op m fu root fr fs gn).2.2.2.1
def am3(th:Th)(key:ByteArray)(op:Option ByteArray)(m:As)(fu root:Int)(fr fs gn:Ws):Ws:=(ku th key op m fu root fr fs gn).2.2.2.2.1
def am4(th:Th)(key:ByteArray)(op:Option ByteArray)(m:As)(fu root:Int)(fr fs gn:Ws):Ws:=(ku th key op m fu root fr fs gn).2.2.2.2.2.1
def am5(th:Th)(key:ByteArray)(op:Option ByteArray)(m:As)(fu root:Int)(fr fs gn:Ws):Int:=(ku th key op m fu root fr fs gn).2.2.2.2.2.2
abbrev sOr:=bY [Bx.dM,Bx.dM] [Bx.dM] (fun _=>[]) (fun(a,b,())=>(Bx.db .or a b,()))
abbrev ab8:Spec XK:=⟨fun(_,key,_)=>[.ptr 0 0,.s (.str key),.fn fP1 [.ptr 4 0,.ptr 5 0]],fun((th,m,fu,root,fr,fs,gn),key,val)=>qJ th m fu root fr fs gn key val,fun((th,m,fu,root,fr,_,_),key,val)=>afB th m fu root fr key val,
 fun((th,m,fu,root,fr,fs,gn),key,val)=>qJ th (amZ th key (some val) m fu root fr fs gn) (am0 th key (some val) m fu root fr fs gn) (am1 th key (some val) m fu root fr fs gn) (am2 th key (some val) m fu root fr fs gn) (am3 th key (some val) m fu root fr fs gn) (am4 th key (some val) m fu root fr fs gn) key val,
 fun((th,m,fu,root,fr,fs,gn),key,val)=>bP (am5 th key (some val) m fu root fr fs gn)⟩
def wi:aH:=[(65,dA amT amV),(66,yk),(67,dA sLo mLv),(28,sOr)]
def yp:List (Nat×Norm):=[(3,⟨[],[0,7,8,9],6,[]⟩),(5,⟨[],[0,7,8,9],6,[]⟩),(8,⟨[],[0,7,9],6,[]⟩)]
noncomputable def akf(th:Th)(aR:Int)(dD dk dm:Ws)(m:As)(fu root:Int)(fr fs gn:Ws)(key val:ByteArray)(l:List Br)(e:Int):bC:=⟨sl 78 [(0,.ptr 0 0),(7,.ptr 6 0),(8,.vec 7),(9,bP e)],qJ th m fu root fr fs gn key val++[obT 1 aR dD dk dm,.vec (.ae cB l) Lf.eB],hd Tryd.f48 3,{}⟩
noncomputable def aoK(th:Th)(aR:Int)(dD dk dm:Ws)(m:As)(fu root:Int)(fr fs gn:Ws)(key val:ByteArray)(l:List Br)(e:Int):bC:=⟨sl 78 [(0,.ptr 0 0),(7,.ptr 6 0),(8,.vec 7),(9,bP e)],qJ th m fu root fr fs gn key val++[obT 1 aR dD dk dm,.vec (.ae cB l) Lf.eB],hr Tryd.f48 5,{}⟩
noncomputable def aoL(th:Th)(aR:Int)(dD dk dm:Ws)(m:As)(fu root:Int)(fr fs gn:Ws)(key val:ByteArray)(e:Int):bC:=⟨sl 78 [(0,.ptr 0 0),(7,.ptr 6 0),(9,bP e)],qJ th m fu root fr fs gn key val++[obT 1 aR dD dk dm],hr Tryd.f48 8,{}⟩
theorem asW(th:Th)(m:As)(fu root:Int)(fr fs gn:Ws)(key val:ByteArray):run P wi.sum Tryd.f48 yp (start Tryd.f48 [.ptr 0 0,.s (.str key),.fn fP1 [.ptr 4 0,.ptr 5 0]] (qJ th m fu root fr fs gn key val))=
 Tree.need (bE (some [AV.ptr 0 0,.s (.str key),.fn 49 [.ptr 4 0,.ptr 5 0]])) (.need (bE (some [ad.own [.ptr 1 0,.s (.int .i64 root),.ints .u64 16 fr,.ints .u64 16 fs,.ints .u64 16 gn] 70,.own [.vec 2,.ag 3,.s (.int .i64 fu)] 96,.vec (.ae [.arr .u8 64] th) 138,.map (.arr .u8 64) m,.own [.s (.str key)] 9,.own [.s (.str val)] 9])) (.need (Ds.bM th m fu) (.need (Bx.okW fr) (.need ((0:Int)≤root∧root≤65536) (.need ((1:Nat)≤key.size∧key.size≤24) (.need (val.size≤100) (.at (.mk (sl 78 [(0,.ptr 0 0),(7,.ptr 6 0),(8,.vec 7),(9,.s (.int .i64 (wh th key (some val) m fu root fr fs gn)))]) [.own [.ptr 1 0,.s (.int .i64 root),.ints .u64 16 (xc th key (some val) m fu root fr fs gn),.ints .u64 16 (ab6 th key (some val) m fu root fr fs gn),.ints .u64 16 (ab7 th key (some val) m fu root fr fs gn)] 70,.own [.vec 2,.ag 3,.s (.int .i64 (xb th key (some val) m fu root fr fs gn))] 96,.vec (.ae [.arr .u8 64] th) 138,.map (.arr .u8 64) (xa th key (some val) m fu root fr fs gn),.own [.s (.str key)] 9,.own [.s (.str val)] 9,.own [.ptr 1 0,.s (.int .i64 root),.ints .u64 16 fr,.ints .u64 16 fs,.ints .u64 16 gn] 70,.vec (.ae [.str,.int .i64] (wg th key (some val) m fu root fr fs gn)) 79] (hd Tryd.f48 3) (.mk none false 0 [] 0))))))))):=by kernel_rfl
theorem akg(th:Th)(aR:Int)(dD dk dm:Ws)(m:As)(fu root:Int)(fr fs gn:Ws)(key val:ByteArray)(l:List Br)(e:Int):run P wi.sum Tryd.f48 yp (akf th aR dD dk dm m fu root fr fs gn key val l e)=
 Tree.ite (e==0) (.ite (decide ((↑l.length:Int)>1)) (.need (bE (some [AV.ptr 0 0,.agg [.s (.bool false),.s (.ro (.ae [.str,.str] [])),.s (.ro (.ae [.str,.int .i64] l))]])) (.need (bE (some [ad.own [.ptr 1 0,.s (.int .i64 root),.ints .u64 16 fr,.ints .u64 16 fs,.ints .u64 16 gn] 70,.own [.vec 2,.ag 3,.s (.int .i64 fu)] 96,.vec (.ae [.arr .u8 64] th) 138,.map (.arr .u8 64) m])) (.need (Ds.bM th m fu) (.need (Bx.okW fr) (.need (zX false [] l) (.need (a8 []) (.need (ba l) (.at (.mk (sl 78 [(0,.ptr 0 0),(7,.ptr 6 0),(8,.vec 7),(9,.s (.int .i64 (bo th m fu fr fs false [] l).snd.snd.snd.snd.snd))]) [.own [.ptr 1 0,.s (.int .i64 root),.ints .u64 16 (bo th m fu fr fs false [] l).snd.snd.fst,.ints .u64 16 (bo th m fu fr fs false [] l).snd.snd.snd.fst,.ints .u64 16 gn] 70,.own [.vec 2,.ag 3,.s (.int .i64 (bo th m fu fr fs false [] l).snd.fst)] 96,.vec (.ae [.arr .u8 64] th) 138,.map (.arr .u8 64) (bo th m fu fr fs false [] l).fst,.own [.s (.str key)] 9,.own [.s (.str val)] 9,.own [.ptr 1 0,.s (.int .i64 aR),.ints .u64 16 dD,.ints .u64 16 dk,.ints .u64 16 dm] 70,.vec (.ae [.str,.int .i64] (bo th m fu fr fs false [] l).snd.snd.snd.snd.fst) 79] (hd Tryd.f48 3) (.mk none false 0 [] 0)))))))))) (.at (.mk (sl 78 [(0,.ptr 0 0),(7,.ptr 6 0),(8,.vec 7),(9,.s (.int .i64 e))]) [.own [.ptr 1 0,.s (.int .i64 root),.ints .u64 16 fr,.ints .u64 16 fs,.ints .u64 16 gn] 70,.own [.vec 2,.ag 3,.s (.int .i64 fu)] 96,.vec (.ae [.arr .u8 64] th) 138,.map (.arr .u8 64) m,.own [.s (.str key)] 9,.own [.s (.str val)] 9,.own [.ptr 1 0,.s (.int .i64 aR),.ints .u64 16 dD,.ints .u64 16 dk,.ints .u64 16 dm] 70,.vec (.ae [.str,.int .i64] l) 79] (hr Tryd.f48 5) (.mk none false 0 [] 0)))) (.at (.mk (sl 78 [(0,.ptr 0 0),(7,.ptr 6 0),(8,.vec 7),(9,.s (.int .i64 e))]) [.own [.ptr 1 0,.s (.int .i64 root),.ints .u64 16 fr,.ints .u64 16 fs,.ints .u64 16 gn] 70,.own [.vec 2,.ag 3,.s (.int .i64 fu)] 96,.vec (.ae [.arr .u8 64] th) 138,.map (.arr .u8 64) m,.own [.s (.str key)] 9,.own [.s (.str val)] 9,.own [.ptr 1 0,.s (.int .i64 aR),.ints .u64 16 dD,.ints .u64 16 dk,.ints .u64 16 dm] 70,.vec (.ae [.str,.int .i64] l) 79] (hr Tryd.f48 5) (.mk none false 0 [] 0))):=by kernel_rfl
theorem aqV(th:Th)(aR:Int)(dD dk dm:Ws)(m:As)(fu root:Int)(fr fs gn:Ws)(key val:ByteArray)(l:List Br)(e:Int):run P wi.sum Tryd.f48 yp (aoK th aR dD dk dm m fu root fr fs gn key val l e)=
 Tree.ite (e==0) (.ite ((↑l.length:Int)==1) (.need ((0:Int)≤0) (.need ((0:Int)<(↑l.length:Int)) (.need (bE (some [AV.ptr 0 0,.s (.int .i64 (l.getD 0 (CL.d [.str,.int .i64])).snd.fst)])) (.need (bE (some [ad.own [.ptr 1 0,.s (.int .i64 0),.ints .u64 16 fr,.ints .u64 16 fs,.ints .u64 16 gn] 70,.own [.vec 2,.ag 3,.s (.int .i64 fu)] 96,.vec (.ae [.arr .u8 64] th) 138,.map (.arr .u8 64) m])) (.need (Ds.bM th m fu) (.need ((0:Int)≤(l.getD 0 (CL.d [.str,.int .i64])).snd.fst∧(l.getD 0 (CL.d [.str,.int .i64])).snd.fst≤65536) (.at (.mk (sl 78 [(0,.ptr 0 0),(7,.ptr 6 0),(9,.s (.int .i64 (w9 th m 17 fs gn (l.getD 0 (CL.d [.str,.int .i64])).snd.fst 1)))]) [.own [.ptr 1 0,.s (.int .i64 (w8 th m 17 fs gn (l.getD 0 (CL.d [.str,.int .i64])).snd.fst 1)),.ints .u64 16 fr,.ints .u64 16 (wc th m 17 fs gn (l.getD 0 (CL.d [.str,.int .i64])).snd.fst 1),.ints .u64 16 (we th m 17 fs gn (l.getD 0 (CL.d [.str,.int .i64])).snd.fst 1)] 70,.own [.vec 2,.ag 3,.s (.int .i64 fu)] 96,.vec (.ae [.arr .u8 64] th) 138,.map (.arr .u8 64) m,.own [.s (.str key)] 9,.own [.s (.str val)] 9,.own [.ptr 1 0,.s (.int .i64 aR),.ints .u64 16 dD,.ints .u64 16 dk,.ints .u64 16 dm] 70] (hr Tryd.f48 8) (.mk none false 0 [] 0))))))))) (.at (.mk (sl 78 [(0,.ptr 0 0),(7,.ptr 6 0),(9,.s (.int .i64 e))]) [.own [.ptr 1 0,.s (.int .i64 0),.ints .u64 16 fr,.ints .u64 16 fs,.ints .u64 16 gn] 70,.own [.vec 2,.ag 3,.s (.int .i64 fu)] 96,.vec (.ae [.arr .u8 64] th) 138,.map (.arr .u8 64) m,.own [.s (.str key)] 9,.own [.s (.str val)] 9,.own [.ptr 1 0,.s (.int .i64 aR),.ints .u64 16 dD,.ints .u64 16 dk,.ints .u64 16 dm] 70] (hr Tryd.f48 8) (.mk none false 0 [] 0)))) (.at (.mk (sl 78 [(0,.ptr 0 0),(7,.ptr 6 0),(9,.s (.int .i64 e))]) [.own [.ptr 1 0,.s (.int .i64 0),.ints .u64 16 fr,.ints .u64 16 fs,.ints .u64 16 gn] 70,.own [.vec 2,.ag 3,.s (.int .i64 fu)] 96,.vec (.ae [.arr .u8 64] th) 138,.map (.arr .u8 64) m,.own [.s (.str key)] 9,.own [.s (.str val)] 9,.own [.ptr 1 0,.s (.int .i64 aR),.ints .u64 16 dD,.ints .u64 16 dk,.ints .u64 16 dm] 70] (hr Tryd.f48 8) (.mk none false 0 [] 0))):=by kernel_rfl
theorem aqW(th:Th)(aR:Int)(dD dk dm:Ws)(m:As)(fu root:Int)(fr fs gn:Ws)(key val:ByteArray)(e:Int):run P wi.sum Tryd.f48 yp (aoL th aR dD dk dm m fu root fr fs gn key val e)=
 Tree.ite (e !=0) (.ret [.own [.ptr 1 0,.s (.int .i64 aR),.ints .u64 16 dD,.ints .u64 16 dk,.ints .u64 16 dm] 70,.own [.vec 2,.ag 3,.s (.int .i64 fu)] 96,.vec (.ae [.arr .u8 64] th) 138,.map (.arr .u8 64) m,.own [.s (.str key)] 9,.own [.s (.str val)] 9,.own [.ptr 1 0,.s (.int .i64 aR),.ints .u64 16 dD,.ints .u64 16 dk,.ints .u64 16 dm] 70] (.s (.int .i64 e))) (.ret [.own [.ptr 1 0,.s (.int .i64 root),.ints .u64 16 (Bx.db BinOp.or fr gn),.ints .u64 16 fs,.ints .u64 16 (List.replicate 16 0)] 70,.own [.vec 2,.ag 3,.s (.int .i64 fu)] 96,.vec (.ae [.arr .u8 64] th) 138,.map (.arr .u8 64) m,.own [.s (.str key)] 9,.own [.s (.str val)] 9,.own [.ptr 1 0,.s (.int .i64 aR),.ints .u64 16 dD,.ints .u64 16 dk,.ints .u64 16 dm] 70] (.s (.aZ .i64 0))):=by kernel_rfl
abbrev ab9:Spec XK:=⟨fun(_,key,_)=>[.ptr 0 0,.s (.str key),.fn fD1 [.ptr 4 0]],fun((th,m,fu,root,fr,fs,gn),key,_)=>qK th m fu root fr fs gn key,fun((th,m,fu,root,fr,_,_),key,val)=>afB th m fu root fr key val,
 fun((th,m,fu,root,fr,fs,gn),key,_)=>qK th (amZ th key none m fu root fr fs gn) (am0 th key none m fu root fr fs gn) (am1 th key none m fu root fr fs gn) (am2 th key none m fu root fr fs gn) (am3 th key none m fu root fr fs gn) (am4 th key none m fu root fr fs gn) key,
 fun((th,m,fu,root,fr,fs,gn),key,_)=>bP (am5 th key none m fu root fr fs gn)⟩
def wj:aH:=[(65,dA amU amW),(66,yk),(67,dA sLo mLv),(28,sOr)]
def yq:List (Nat×Norm):=[(3,⟨[],[0,7,8,9],5,[]⟩),(5,⟨[],[0,7,8,9],5,[]⟩),(8,⟨[],[0,7,9],5,[]⟩)]
noncomputable def akh(th:Th)(aR:Int)(dD dk dm:Ws)(m:As)(fu root:Int)(fr fs gn:Ws)(key:ByteArray)(l:List Br)(e:Int):bC:=⟨sl 78 [(0,.ptr 0 0),(7,.ptr 5 0),(8,.vec 6),(9,bP e)],qK th m fu root fr fs gn key++[obT 1 aR dD dk dm,.vec (.ae cB l) Lf.eB],hd Tryd.f48 3,{}⟩
noncomputable def aoM(th:Th)(aR:Int)(dD dk dm:Ws)(m:As)(fu root:Int)(fr fs gn:Ws)(key:ByteArray)(l:List Br)(e:Int):bC:=⟨sl 78 [(0,.ptr 0 0),(7,.ptr 5 0),(8,.vec 6),(9,bP e)],qK th m fu root fr fs gn key++[obT 1 aR dD dk dm,.vec (.ae cB l) Lf.eB],hr Tryd.f48 5,{}⟩
noncomputable def aoN(th:Th)(aR:Int)(dD dk dm:Ws)(m:As)(fu root:Int)(fr fs gn:Ws)(key:ByteArray)(e:Int):bC:=⟨sl 78 [(0,.ptr 0 0),(7,.ptr 5 0),(9,bP e)],qK th m fu root fr fs gn key++[obT 1 aR dD dk dm],hr Tryd.f48 8,{}⟩
theorem asX(th:Th)(m:As)(fu root:Int)(fr fs gn:Ws)(key:ByteArray):run P wj.sum Tryd.f48 yq (start Tryd.f48 [.ptr 0 0,.s (.str key),.fn fD1 [.ptr 4 0]] (qK th m fu root fr fs gn key))=
 Tree.need (bE (some [AV.ptr 0 0,.s (.str key),.fn 51 [.ptr 4 0]])) (.need (bE (some [ad.own [.ptr 1 0,.s (.int .i64 root),.ints .u64 16 fr,.ints .u64 16 fs,.ints .u64 16 gn] 70,.own [.vec 2,.ag 3,.s (.int .i64 fu)] 96,.vec (.ae [.arr .u8 64] th) 138,.map (.arr .u8 64) m,.own [.s (.str key)] 9])) (.need (Ds.bM th m fu) (.need (Bx.okW fr) (.need ((0:Int)≤root∧root≤65536) (.need ((1:Nat)≤key.size∧key.size≤24) (.need (ByteArray.empty.size≤100) (.at (.mk (sl 78 [(0,.ptr 0 0),(7,.ptr 5 0),(8,.vec 6),(9,.s (.int .i64 (wh th key none m fu root fr fs gn)))]) [.own [.ptr 1 0,.s (.int .i64 root),.ints .u64 16 (xc th key none m fu root fr fs gn),.ints .u64 16 (ab6 th key none m fu root fr fs gn),.ints .u64 16 (ab7 th key none m fu root fr fs gn)] 70,.own [.vec 2,.ag 3,.s (.int .i64 (xb th key none m fu root fr fs gn))] 96,.vec (.ae [.arr .u8 64] th) 138,.map (.arr .u8 64) (xa th key none m fu root fr fs gn),.own [.s (.str key)] 9,.own [.ptr 1 0,.s (.int .i64 root),.ints .u64 16 fr,.ints .u64 16 fs,.ints .u64 16 gn] 70,.vec (.ae [.str,.int .i64] (wg th key none m fu root fr fs gn)) 79] (hd Tryd.f48 3) (.mk none false 0 [] 0))))))))):=by kernel_rfl
theorem aki(th:Th)(aR:Int)(dD dk dm:Ws)(m:As)(fu root:Int)(fr fs gn:Ws)(key:ByteArray)(l:List Br)(e:Int):run P wj.sum Tryd.f48 yq (akh th aR dD dk dm m fu root fr fs gn key l e)=
 Tree.ite (e==0) (.ite (decide ((↑l.length:Int)>1)) (.need (bE (some [AV.ptr 0 0,.agg [.s (.bool false),.s (.ro (.ae [.str,.str] [])),.s (.ro (.ae [.str,.int .i64] l))]])) (.need (bE (some [ad.own [.ptr 1 0,.s (.int .i64 root),.ints .u64 16 fr,.ints .u64 16 fs,.ints .u64 16 gn] 70,.own [.vec 2,.ag 3,.s (.int .i64 fu)] 96,.vec (.ae [.arr .u8 64] th) 138,.map (.arr .u8 64) m])) (.need (Ds.bM th m fu) (.need (Bx.okW fr) (.need (zX false [] l) (.need (a8 []) (.need (ba l) (.at (.mk (sl 78 [(0,.ptr 0 0),(7,.ptr 5 0),(8,.vec 6),(9,.s (.int .i64 (bo th m fu fr fs false [] l).snd.snd.snd.snd.snd))]) [.own [.ptr 1 0,.s (.int .i64 root),.ints .u64 16 (bo th m fu fr fs false [] l).snd.snd.fst,.ints .u64 16 (bo th m fu fr fs false [] l).snd.snd.snd.fst,.ints .u64 16 gn] 70,.own [.vec 2,.ag 3,.s (.int .i64 (bo th m fu fr fs false [] l).snd.fst)] 96,.vec (.ae [.arr .u8 64] th) 138,.map (.arr .u8 64) (bo th m fu fr fs false [] l).fst,.own [.s (.str key)] 9,.own [.ptr 1 0,.s (.int .i64 aR),.ints .u64 16 dD,.ints .u64 16 dk,.ints .u64 16 dm] 70,.vec (.ae [.str,.int .i64] (bo th m fu fr fs false [] l).snd.snd.snd.snd.fst) 79] (hd Tryd.f48 3) (.mk none false 0 [] 0)))))))))) (.at (.mk (sl 78 [(0,.ptr 0 0),(7,.ptr 5 0),(8,.vec 6),(9,.s (.int .i64 e))]) [.own [.ptr 1 0,.s (.int .i64 root),.ints .u64 16 fr,.ints .u64 16 fs,.ints .u64 16 gn] 70,.own [.vec 2,.ag 3,.s (.int .i64 fu)] 96,.vec (.ae [.arr .u8 64] th) 138,.map (.arr .u8 64) m,.own [.s (.str key)] 9,.own [.ptr 1 0,.s (.int .i64 aR),.ints .u64 16 dD,.ints .u64 16 dk,.ints .u64 16 dm] 70,.vec (.ae [.str,.int .i64] l) 79] (hr Tryd.f48 5) (.mk none false 0 [] 0)))) (.at (.mk (sl 78 [(0,.ptr 0 0),(7,.ptr 5 0),(8,.vec 6),(9,.s (.int .i64 e))]) [.own [.ptr 1 0,.s (.int .i64 root),.ints .u64 16 fr,.ints .u64 16 fs,.ints .u64 16 gn] 70,.own [.vec 2,.ag 3,.s (.int .i64 fu)] 96,.vec (.ae [.arr .u8 64] th) 138,.map (.arr .u8 64) m,.own [.s (.str key)] 9,.own [.ptr 1 0,.s (.int .i64 aR),.ints .u64 16 dD,.ints .u64 16 dk,.ints .u64 16 dm] 70,.vec (.ae [.str,.int .i64] l) 79] (hr Tryd.f48 5) (.mk none false 0 [] 0))):=by kernel_rfl
theorem aqX(th:Th)(aR:Int)(dD dk dm:Ws)(m:As)(fu root:Int)(fr fs gn:Ws)(key:ByteArray)(l:List Br)(e:Int):run P wj.sum Tryd.f48 yq (aoM th aR dD dk dm m fu root fr fs gn key l e)=
 Tree.ite (e==0) (.ite ((↑l.length:Int)==1) (.need ((0:Int)≤0) (.need ((0:Int)<(↑l.length:Int)) (.need (bE (some [AV.ptr 0 0,.s (.int .i64 (l.getD 0 (CL.d [.str,.int .i64])).snd.fst)])) (.need (bE (some [ad.own [.ptr 1 0,.s (.int .i64 0),.ints .u64 16 fr,.ints .u64 16 fs,.ints .u64 16 gn] 70,.own [.vec 2,.ag 3,.s (.int .i64 fu)] 96,.vec (.ae [.arr .u8 64] th) 138,.map (.arr .u8 64) m])) (.need (Ds.bM th m fu) (.need ((0:Int)≤(l.getD 0 (CL.d [.str,.int .i64])).snd.fst∧(l.getD 0 (CL.d [.str,.int .i64])).snd.fst≤65536) (.at (.mk (sl 78 [(0,.ptr 0 0),(7,.ptr 5 0),(9,.s (.int .i64 (w9 th m 17 fs gn (l.getD 0 (CL.d [.str,.int .i64])).snd.fst 1)))]) [.own [.ptr 1 0,.s (.int .i64 (w8 th m 17 fs gn (l.getD 0 (CL.d [.str,.int .i64])).snd.fst 1)),.ints .u64 16 fr,.ints .u64 16 (wc th m 17 fs gn (l.getD 0 (CL.d [.str,.int .i64])).snd.fst 1),.ints .u64 16 (we th m 17 fs gn (l.getD 0 (CL.d [.str,.int .i64])).snd.fst 1)] 70,.own [.vec 2,.ag 3,.s (.int .i64 fu)] 96,.vec (.ae [.arr .u8 64] th) 138,.map (.arr .u8 64) m,.own [.s (.str key)] 9,.own [.ptr 1 0,.s (.int .i64 aR),.ints .u64 16 dD,.ints .u64 16 dk,.ints .u64 16 dm] 70] (hr Tryd.f48 8) (.mk none false 0 [] 0))))))))) (.at (.mk (sl 78 [(0,.ptr 0 0),(7,.ptr 5 0),(9,.s (.int .i64 e))]) [.own [.ptr 1 0,.s (.int .i64 0),.ints .u64 16 fr,.ints .u64 16 fs,.ints .u64 16 gn] 70,.own [.vec 2,.ag 3,.s (.int .i64 fu)] 96,.vec (.ae [.arr .u8 64] th) 138,.map (.arr .u8 64) m,.own [.s (.str key)] 9,.own [.ptr 1 0,.s (.int .i64 aR),.ints .u64 16 dD,.ints .u64 16 dk,.ints .u64 16 dm] 70] (hr Tryd.f48 8) (.mk none false 0 [] 0)))) (.at (.mk (sl 78 [(0,.ptr 0 0),(7,.ptr 5 0),(9,.s (.int .i64 e))]) [.own [.ptr 1 0,.s (.int .i64 0),.ints .u64 16 fr,.ints .u64 16 fs,.ints .u64 16 gn] 70,.own [.vec 2,.ag 3,.s (.int .i64 fu)] 96,.vec (.ae [.arr .u8 64] th) 138,.map (.arr .u8 64) m,.own [.s (.str key)] 9,.own [.ptr 1 0,.s (.int .i64 aR),.ints .u64 16 dD,.ints .u64 16 dk,.ints .u64 16 dm] 70] (hr Tryd.f48 8) (.mk none false 0 [] 0))):=by kernel_rfl
theorem aqY(th:Th)(aR:Int)(dD dk dm:Ws)(m:As)(fu root:Int)(fr fs gn:Ws)(key:ByteArray)(e:Int):run P wj.sum Tryd.f48 yq (aoN th aR dD dk dm m fu root fr fs gn key e)=
 Tree.ite (e !=0) (.ret [.own [.ptr 1 0,.s (.int .i64 aR),.ints .u64 16 dD,.ints .u64 16 dk,.ints .u64 16 dm] 70,.own [.vec 2,.ag 3,.s (.int .i64 fu)] 96,.vec (.ae [.arr .u8 64] th) 138,.map (.arr .u8 64) m,.own [.s (.str key)] 9,.own [.ptr 1 0,.s (.int .i64 aR),.ints .u64 16 dD,.ints .u64 16 dk,.ints .u64 16 dm] 70] (.s (.int .i64 e))) (.ret [.own [.ptr 1 0,.s (.int .i64 root),.ints .u64 16 (Bx.db BinOp.or fr gn),.ints .u64 16 fs,.ints .u64 16 (List.replicate 16 0)] 70,.own [.vec 2,.ag 3,.s (.int .i64 fu)] 96,.vec (.ae [.arr .u8 64] th) 138,.map (.arr .u8 64) m,.own [.s (.str key)] 9,.own [.ptr 1 0,.s (.int .i64 aR),.ints .u64 16 dD,.ints .u64 16 dk,.ints .u64 16 dm] 70] (.s (.aZ .i64 0))):=by kernel_rfl
theorem aca{th:Th}{key:ByteArray}{op:Option ByteArray}(hk:key.size≤24){m:As}{fu root:Int}{fr fs gn:Ws}(hd:Ds.bM th m fu)(hf:Bx.okW fr):
 aj6 th (xa th key op m fu root fr fs gn) (xb th key op m fu root fr fs gn) (xc th key op m fu root fr fs gn) (wg th key op m fu root fr fs gn):=by
 unfold xa xb xc wg iV
 split
 ·exact qR hk 17 hd hf
 ·split
  ·exact⟨hd,hf,Nat.zero_le _,noB,noB⟩
  ·exact nB hd hf (aj7 hk noE) noB
theorem auY{l:List Br}(h2:l.length≤2)(h:j9 l):bh [] (aa l)≤254:=by
 have e:=qQ (aa l)
 have e2:=rX l
 have e3:hU l≤54:=by
  cases l with
  |nil=>simp[nA]
  |cons a r=>
   have ha:=h a List.mem_cons_self
   cases r with
   |nil=>rw[dh,nA];unfold pv;omega
   |cons b r=>
    have hb:=h b (List.mem_cons_of_mem _ List.mem_cons_self)
    cases r with
    |nil=>rw[dh,dh,nA];unfold pv;omega
    |cons c r=>simp only[List.length_cons]at h2;omega
 omega
theorem akj{th:Th}{m:As}{fu:Int}{fr fs:Ws}{l:List Br}(h0:1<l.length)(h2:l.length≤2)(h:j9 l):(bo th m fu fr fs false [] l).2.2.2.2.1.length=1:=by
 unfold bo
 rw[if_neg (by simp only[List.length_nil];omega),if_pos (auY h2 h)]
 rfl
theorem afC{l:List Br}(h:∀b∈l,0≤b.2.1∧b.2.1≤65536)(k:Nat):0≤(l.getD k dB).2.1∧(l.getD k dB).2.1≤65536:=by
 rcases Nat.lt_or_ge k l.length with hk|hk
 ·rw[bk hk];exact h _ (List.getElem_mem hk)
 ·rw[List.getD,List.getElem?_eq_none hk];exact⟨Int.le_refl 0,by show(0:Int)≤65536;omega⟩
theorem yr{l:List Br}(h2:l.length≤2)(h:j9 l):ba l:=⟨by omega,fun x hx=>Nat.le_trans (h x hx) (by omega)⟩
theorem r5{th:Th}{c:Chg}(h:¬(c.2.2.2.2.2.2=0∧1<c.2.2.2.2.2.1.length)):upT th c=c:=if_neg h
theorem aoO{th:Th}{m:As}{fu root:Int}{fr fs gn:Ws}{key val:ByteArray}{c:Chs}(e:ku th key (some val) m fu root fr fs gn=c):
 ab8.fv ((th,m,fu,root,fr,fs,gn),key,val)=qJ th c.1 c.2.1 c.2.2.1 c.2.2.2.1 c.2.2.2.2.1 c.2.2.2.2.2.1 key val∧ab8.out ((th,m,fu,root,fr,fs,gn),key,val)=bP c.2.2.2.2.2.2:=by
 subst e;exact⟨rfl,rfl⟩
theorem lQ:wi.Ok P Bx.bV:=aH.Ok.cons (amX.sum amV) (aH.Ok.cons (ix (gi (jJ.sum mTN) 1 _) 1) (aH.Ok.cons (ab5.sum mLv) (aH.Ok.cons Bx.ajF.sum aH.Ok.nil)))
section
variable{th:Th}{m0:As}{tg aR:Int}{dD dk dm:Ws}{key val:ByteArray}{X:Ctx}
theorem qS{th:Th}{m:As}{fu root:Int}{fr fs gn:Ws}{key val:ByteArray}:∀y∈yp,(qJ th m fu root fr fs gn key val).length≤y.2.m:=fun y hy=>by
 simp only[yp,List.mem_cons,List.not_mem_nil,or_false]at hy
 rcases hy with rfl|rfl|rfl<;>exact Nat.le_refl _
theorem aaa(hz:dS Bx.bV X)(hX:X.H=lk (qJ th m0 tg aR dD dk dm key val)){m:As}{fu root:Int}{fr fs gn:Ws}{e:Int}(ee:ku th key (some val) m0 tg aR dD dk dm=nC th aR dD dk dm m fu root fr fs gn e):
 Safe P 48 X (ko ab8 ((th,m0,tg,aR,dD,dk,dm),key,val)) (aoL th aR dD dk dm m fu root fr fs gn key val e):=by
 refine Ds.eR hz hX qS lQ Tryd.func48 (aqW th aR dD dk dm m fu root fr fs gn key val e) ⟨fun h=> ?_,fun h=> ?_⟩
 ·have h:e≠0:=by simpa using h
  unfold nC at ee
  rw[if_pos h]at ee
  obtain⟨f1,f2⟩:=aoO (val:=val) ee
  exact bU 6 rfl (Nat.le_refl _) f2 f1
 ·have h:¬e≠0:=by simpa using h
  unfold nC at ee
  rw[if_neg h]at ee
  obtain⟨f1,f2⟩:=aoO (val:=val) ee
  exact bU 6 rfl (Nat.le_refl _) f2 f1
theorem tH(hz:dS Bx.bV X)(hX:X.H=lk (qJ th m0 tg aR dD dk dm key val)){m:As}{fu root:Int}{fr fs gn:Ws}{l:List Br}{e:Int}(hd:Ds.bM th m fu)(hp:∀b∈l,0≤b.2.1∧b.2.1≤65536)
 (ee:ku th key (some val) m0 tg aR dD dk dm=jD th aR dD dk dm (m,fu,fr,fs,gn,l,e)):
 Safe P 48 X (ko ab8 ((th,m0,tg,aR,dD,dk,dm),key,val)) (aoK th aR dD dk dm m fu root fr fs gn key val l e):=by
 refine Ds.eR hz hX qS lQ Tryd.func48 (aqV th aR dD dk dm m fu root fr fs gn key val l e) ⟨fun h=>⟨fun h2=> ?_,fun h2=> ?_⟩,fun h=> ?_⟩
 ·have h:e=0:=by simpa using h
  have h2:(l.length:Int)=1:=by simpa using h2
  unfold jD at ee
  rw[if_pos ⟨h,by simp only[];omega⟩]at ee
  exact⟨by omega,by omega,rfl,rfl,hd,afC hp 0,aaa hz hX ee⟩
 ·have h2:¬(l.length:Int)=1:=by simpa using h2
  unfold jD at ee
  rw[if_neg (fun a=>h2 (by have:=a.2;simp only[]at this;omega))]at ee
  exact aaa hz hX ee
 ·have h:¬e=0:=by simpa using h
  unfold jD at ee
  rw[if_neg (fun a=>h a.1)]at ee
  exact aaa hz hX ee
theorem am6(hz:dS Bx.bV X)(hX:X.H=lk (qJ th m0 tg aR dD dk dm key val)){m:As}{fu root:Int}{fr fs gn:Ws}{l:List Br}{e:Int}(hd:Ds.bM th m fu)(hp:∀b∈l,0≤b.2.1∧b.2.1≤65536)(uo:¬(e=0∧1<l.length))
 (ee:ku th key (some val) m0 tg aR dD dk dm=jD th aR dD dk dm (m,fu,fr,fs,gn,l,e)):
 Safe P 48 X (ko ab8 ((th,m0,tg,aR,dD,dk,dm),key,val)) (akf th aR dD dk dm m fu root fr fs gn key val l e):=by
 refine Ds.eR hz hX qS lQ Tryd.func48 (akg th aR dD dk dm m fu root fr fs gn key val l e) ⟨fun h=>⟨fun h2=> ?_,fun h2=> ?_⟩,fun h=> ?_⟩
 ·have h:e=0:=by simpa using h
  have h2:=of_decide_eq_true h2
  exact absurd ⟨h,by omega⟩ uo
 ·exact tH hz hX hd hp ee
 ·exact tH hz hX hd hp ee
theorem am7(hz:dS Bx.bV X)(hX:X.H=lk (qJ th m0 tg aR dD dk dm key val)){m:As}{fu root:Int}{fr fs gn:Ws}{l:List Br}{e:Int}(F:aj6 th m fu fr l)
 (ee:ku th key (some val) m0 tg aR dD dk dm=jD th aR dD dk dm (upT th (m,fu,fr,fs,gn,l,e))):
 Safe P 48 X (ko ab8 ((th,m0,tg,aR,dD,dk,dm),key,val)) (akf th aR dD dk dm m fu root fr fs gn key val l e):=by
 refine Ds.eR hz hX qS lQ Tryd.func48 (akg th aR dD dk dm m fu root fr fs gn key val l e) ⟨fun h=>⟨fun h2=> ?_,fun h2=> ?_⟩,fun h=> ?_⟩
 ·have h:e=0:=by simpa using h
  have h2:=of_decide_eq_true h2
  have hu:upT th (m,fu,fr,fs,gn,l,e)=gV gn (bo th m fu fr fs false [] l):=if_pos ⟨h,by show 1<l.length;omega⟩
  rw[hu]at ee
  have F2:=nB (fs:=fs) (l:=false) (es:=[]) F.d F.fr noE F.key
  have hl:=akj (th:=th) (m:=m) (fu:=fu) (fr:=fr) (fs:=fs) (l:=l) (by omega) F.two F.key
  exact⟨rfl,rfl,F.d,F.fr,⟨fun a=>(by cases a),fun _=>rfl⟩,iv,yr F.two F.key,am6 hz hX F2.d F2.pg (fun a=>by rw[hl]at a;omega) ee⟩
 ·have h2:=of_decide_eq_false h2
  rw[r5 (fun a=>h2 (by have:=a.2;simp only[]at this;omega))]at ee
  exact tH hz hX F.d F.pg ee
 ·have h:¬e=0:=by simpa using h
  rw[r5 (fun a=>h a.1)]at ee
  exact tH hz hX F.d F.pg ee
end
theorem acb:jA P Bx.bV 48 ab8:=by
 refine aO Tryd.func48 (by kernel_rfl) (fun x=>Nat.le_of_ble_eq_true (by kernel_rfl)) ?_
 rintro⟨⟨(th:Th),(m:As),(fu:Int),(root:Int),(fr:Ws),(fs:Ws),(gn:Ws)⟩,(key:ByteArray),(val:ByteArray)⟩ ⟨(hd:Ds.bM th m fu),(hf:Bx.okW fr),(hr:0≤root∧root≤65536),(hk:1≤key.size∧key.size≤24),(hv:val.size≤100),_⟩ X hX hz
 exact Ds.eR hz hX qS lQ Tryd.func48 (asW th m fu root fr fs gn key val) ⟨rfl,rfl,hd,hf,hr,hk,hv,am7 hz hX (aca (op:=(some val)) hk.2 hd hf) rfl⟩
theorem aoP{th:Th}{m:As}{fu root:Int}{fr fs gn:Ws}{key val:ByteArray}{c:Chs}(e:ku th key none m fu root fr fs gn=c):
 ab9.fv ((th,m,fu,root,fr,fs,gn),key,val)=qK th c.1 c.2.1 c.2.2.1 c.2.2.2.1 c.2.2.2.2.1 c.2.2.2.2.2.1 key∧ab9.out ((th,m,fu,root,fr,fs,gn),key,val)=bP c.2.2.2.2.2.2:=by
 subst e;exact⟨rfl,rfl⟩
theorem lR:wj.Ok P Bx.bV:=aH.Ok.cons (amY.sum amW) (aH.Ok.cons (ix (gi (jJ.sum mTN) 1 _) 1) (aH.Ok.cons (ab5.sum mLv) (aH.Ok.cons Bx.ajF.sum aH.Ok.nil)))
section
variable{th:Th}{m0:As}{tg aR:Int}{dD dk dm:Ws}{key val:ByteArray}{X:Ctx}
theorem qT{th:Th}{m:As}{fu root:Int}{fr fs gn:Ws}{key:ByteArray}:∀y∈yq,(qK th m fu root fr fs gn key).length≤y.2.m:=fun y hy=>by
 simp only[yq,List.mem_cons,List.not_mem_nil,or_false]at hy
 rcases hy with rfl|rfl|rfl<;>exact Nat.le_refl _
theorem aab(hz:dS Bx.bV X)(hX:X.H=lk (qK th m0 tg aR dD dk dm key)){m:As}{fu root:Int}{fr fs gn:Ws}{e:Int}(ee:ku th key none m0 tg aR dD dk dm=nC th aR dD dk dm m fu root fr fs gn e):
 Safe P 48 X (ko ab9 ((th,m0,tg,aR,dD,dk,dm),key,val)) (aoN th aR dD dk dm m fu root fr fs gn key e):=by
 refine Ds.eR hz hX qT lR Tryd.func48 (aqY th aR dD dk dm m fu root fr fs gn key e) ⟨fun h=> ?_,fun h=> ?_⟩
 ·have h:e≠0:=by simpa using h
  unfold nC at ee
  rw[if_pos h]at ee
  obtain⟨f1,f2⟩:=aoP (val:=val) ee
  exact bU 5 rfl (Nat.le_refl _) f2 f1
 ·have h:¬e≠0:=by simpa using h
  unfold nC at ee
  rw[if_neg h]at ee
  obtain⟨f1,f2⟩:=aoP (val:=val) ee
  exact bU 5 rfl (Nat.le_refl _) f2 f1
theorem tI(hz:dS Bx.bV X)(hX:X.H=lk (qK th m0 tg aR dD dk dm key)){m:As}{fu root:Int}{fr fs gn:Ws}{l:List Br}{e:Int}(hd:Ds.bM th m fu)(hp:∀b∈l,0≤b.2.1∧b.2.1≤65536)
 (ee:ku th key none m0 tg aR dD dk dm=jD th aR dD dk dm (m,fu,fr,fs,gn,l,e)):
 Safe P 48 X (ko ab9 ((th,m0,tg,aR,dD,dk,dm),key,val)) (aoM th aR dD dk dm m fu root fr fs gn key l e):=by
 refine Ds.eR hz hX qT lR Tryd.func48 (aqX th aR dD dk dm m fu root fr fs gn key l e) ⟨fun h=>⟨fun h2=> ?_,fun h2=> ?_⟩,fun h=> ?_⟩
 ·have h:e=0:=by simpa using h
  have h2:(l.length:Int)=1:=by simpa using h2
  unfold jD at ee
  rw[if_pos ⟨h,by simp only[];omega⟩]at ee
  exact⟨by omega,by omega,rfl,rfl,hd,afC hp 0,aab hz hX ee⟩
 ·have h2:¬(l.length:Int)=1:=by simpa using h2
  unfold jD at ee
  rw[if_neg (fun a=>h2 (by have:=a.2;simp only[]at this;omega))]at ee
  exact aab hz hX ee
 ·have h:¬e=0:=by simpa using h
  unfold jD at ee
  rw[if_neg (fun a=>h a.1)]at ee
  exact aab hz hX ee
theorem am8(hz:dS Bx.bV X)(hX:X.H=lk (qK th m0 tg aR dD dk dm key)){m:As}{fu root:Int}{fr fs gn:Ws}{l:List Br}{e:Int}(hd:Ds.bM th m fu)(hp:∀b∈l,0≤b.2.1∧b.2.1≤65536)(uo:¬(e=0∧1<l.length))
 (ee:ku th key none m0 tg aR dD dk dm=jD th aR dD dk dm (m,fu,fr,fs,gn,l,e)):
 Safe P 48 X (ko ab9 ((th,m0,tg,aR,dD,dk,dm),key,val)) (akh th aR dD dk dm m fu root fr fs gn key l e):=by
 refine Ds.eR hz hX qT lR Tryd.func48 (aki th aR dD dk dm m fu root fr fs gn key l e) ⟨fun h=>⟨fun h2=> ?_,fun h2=> ?_⟩,fun h=> ?_⟩
 ·have h:e=0:=by simpa using h
  have h2:=of_decide_eq_true h2
  exact absurd ⟨h,by omega⟩ uo
 ·exact tI hz hX hd hp ee
 ·exact tI hz hX hd hp ee
theorem am9(hz:dS Bx.bV X)(hX:X.H=lk (qK th m0 tg aR dD dk dm key)){m:As}{fu root:Int}{fr fs gn:Ws}{l:List Br}{e:Int}(F:aj6 th m fu fr l)
 (ee:ku th key none m0 tg aR dD dk dm=jD th aR dD dk dm (upT th (m,fu,fr,fs,gn,l,e))):
 Safe P 48 X (ko ab9 ((th,m0,tg,aR,dD,dk,dm),key,val)) (akh th aR dD dk dm m fu root fr fs gn key l e):=by
 refine Ds.eR hz hX qT lR Tryd.func48 (aki th aR dD dk dm m fu root fr fs gn key l e) ⟨fun h=>⟨fun h2=> ?_,fun h2=> ?_⟩,fun h=> ?_⟩
 ·have h:e=0:=by simpa using h
  have h2:=of_decide_eq_true h2
  have hu:upT th (m,fu,fr,fs,gn,l,e)=gV gn (bo th m fu fr fs false [] l):=if_pos ⟨h,by show 1<l.length;omega⟩
  rw[hu]at ee
  have F2:=nB (fs:=fs) (l:=false) (es:=[]) F.d F.fr noE F.key
  have hl:=akj (th:=th) (m:=m) (fu:=fu) (fr:=fr) (fs:=fs) (l:=l) (by omega) F.two F.key
  exact⟨rfl,rfl,F.d,F.fr,⟨fun a=>(by cases a),fun _=>rfl⟩,iv,yr F.two F.key,am8 hz hX F2.d F2.pg (fun a=>by rw[hl]at a;omega) ee⟩
 ·have h2:=of_decide_eq_false h2
  rw[r5 (fun a=>h2 (by have:=a.2;simp only[]at this;omega))]at ee
  exact tI hz hX F.d F.pg ee
 ·have h:¬e=0:=by simpa using h
  rw[r5 (fun a=>h a.1)]at ee
  exact tI hz hX F.d F.pg ee
end
theorem acd:jA P Bx.bV 48 ab9:=by
 refine aO Tryd.func48 (by kernel_rfl) (fun x=>Nat.le_of_ble_eq_true (by kernel_rfl)) ?_
 rintro⟨⟨(th:Th),(m:As),(fu:Int),(root:Int),(fr:Ws),(fs:Ws),(gn:Ws)⟩,(key:ByteArray),(val:ByteArray)⟩ ⟨(hd:Ds.bM th m fu),(hf:Bx.okW fr),(hr:0≤root∧root≤65536),(hk:1≤key.size∧key.size≤24),(hv:val.size≤100),_⟩ X hX hz
 exact Ds.eR hz hX qT lR Tryd.func48 (asX th m fu root fr fs gn key) ⟨rfl,rfl,hd,hf,hr,hk,(Nat.zero_le 100),am9 hz hX (aca (op:=none) hk.2 hd hf) rfl⟩
end Ts
namespace Ts
open Go Go.Sx Go.Proofs Lf
def gk(key:ByteArray):Option ByteArray→Bool
 |some v=>decide (1≤key.size)&&decide (key.size≤24)&&decide (v.size≤100)
 |none=>decide (1≤key.size)&&decide (key.size≤24)
def sT(th:Th)(key:ByteArray)(op:Option ByteArray)(m:As)(fu root:Int)(fr fs gn:Ws):Chs:=if gk key op=true then ku th key op m fu root fr fs gn else(m,fu,root,fr,fs,gn,1)
def sU(th:Th)(key:ByteArray)(op:Option ByteArray)(m:As)(fu root:Int)(fr fs gn:Ws):As:=(sT th key op m fu root fr fs gn).1
def sV(th:Th)(key:ByteArray)(op:Option ByteArray)(m:As)(fu root:Int)(fr fs gn:Ws):Int:=(sT th key op m fu root fr fs gn).2.1
def og(th:Th)(key:ByteArray)(op:Option ByteArray)(m:As)(fu root:Int)(fr fs gn:Ws):Int:=(sT th key op m fu root fr fs gn).2.2.1
def sW(th:Th)(key:ByteArray)(op:Option ByteArray)(m:As)(fu root:Int)(fr fs gn:Ws):Ws:=(sT th key op m fu root fr fs gn).2.2.2.1
def sX(th:Th)(key:ByteArray)(op:Option ByteArray)(m:As)(fu root:Int)(fr fs gn:Ws):Ws:=(sT th key op m fu root fr fs gn).2.2.2.2.1
def sY(th:Th)(key:ByteArray)(op:Option ByteArray)(m:As)(fu root:Int)(fr fs gn:Ws):Ws:=(sT th key op m fu root fr fs gn).2.2.2.2.2.1
def opE(th:Th)(key:ByteArray)(op:Option ByteArray)(m:As)(fu root:Int)(fr fs gn:Ws):Int:=(sT th key op m fu root fr fs gn).2.2.2.2.2.2
def aqZ(th:Th)(m:As)(fu root:Int)(fr:Ws):List Prop:=[Ds.bM th m fu,Bx.okW fr,0≤root∧root≤65536]
abbrev akk:Spec XK:=⟨fun(_,key,val)=>[.ptr 0 0,.s (.str key),.s (.str val)],fun((th,m,fu,root,fr,fs,gn),_,_)=>hT th m fu root fr fs gn,fun((th,m,fu,root,fr,_,_),_,_)=>aqZ th m fu root fr,
 fun((th,m,fu,root,fr,fs,gn),key,val)=>hT th (sU th key (some val) m fu root fr fs gn) (sV th key (some val) m fu root fr fs gn) (og th key (some val) m fu root fr fs gn) (sW th key (some val) m fu root fr fs gn) (sX th key (some val) m fu root fr fs gn) (sY th key (some val) m fu root fr fs gn),
 fun((th,m,fu,root,fr,fs,gn),key,val)=>bP (opE th key (some val) m fu root fr fs gn)⟩
abbrev XD:Type:=XT×ByteArray
abbrev akl:Spec XD:=⟨fun(_,key)=>[.ptr 0 0,.s (.str key)],fun((th,m,fu,root,fr,fs,gn),_)=>hT th m fu root fr fs gn,fun((th,m,fu,root,fr,_,_),_)=>aqZ th m fu root fr,
 fun((th,m,fu,root,fr,fs,gn),key)=>hT th (sU th key none m fu root fr fs gn) (sV th key none m fu root fr fs gn) (og th key none m fu root fr fs gn) (sW th key none m fu root fr fs gn) (sX th key none m fu root fr fs gn) (sY th key none m fu root fr fs gn),
 fun((th,m,fu,root,fr,fs,gn),key)=>bP (opE th key none m fu root fr fs gn)⟩
def asY:aH:=[(48,dA ab8 amV)]
def asZ:aH:=[(48,dA ab9 amW)]
theorem auZ(th:Th)(m:As)(fu root:Int)(fr fs gn:Ws)(key val:ByteArray):run P asY.sum Tryd.f24 [] (start Tryd.f24 [.ptr 0 0,.s (.str key),.s (.str val)] (hT th m fu root fr fs gn)) (inl:=[36])=
 Tree.ite (decide ((↑key.size:Int)≥1)) (.ite (!decide ((↑key.size:Int)≤24)) (.ret [.own [.ptr 1 0,.s (.int .i64 root),.ints .u64 16 fr,.ints .u64 16 fs,.ints .u64 16 gn] 70,.own [.vec 2,.ag 3,.s (.int .i64 fu)] 96,.vec (.ae [.arr .u8 64] th) 138,.map (.arr .u8 64) m,.own [.s (.str key)] 9,.own [.s (.str val)] 9] (.s (.aZ .i64 1))) (.ite (decide ((↑val.size:Int)>100)) (.ret [.own [.ptr 1 0,.s (.int .i64 root),.ints .u64 16 fr,.ints .u64 16 fs,.ints .u64 16 gn] 70,.own [.vec 2,.ag 3,.s (.int .i64 fu)] 96,.vec (.ae [.arr .u8 64] th) 138,.map (.arr .u8 64) m,.own [.s (.str key)] 9,.own [.s (.str val)] 9] (.s (.aZ .i64 1))) (.need (bE (some [AV.ptr 0 0,.s (.str key),.fn 49 [.ptr 4 0,.ptr 5 0]])) (.need (bE (some [ad.own [.ptr 1 0,.s (.int .i64 root),.ints .u64 16 fr,.ints .u64 16 fs,.ints .u64 16 gn] 70,.own [.vec 2,.ag 3,.s (.int .i64 fu)] 96,.vec (.ae [.arr .u8 64] th) 138,.map (.arr .u8 64) m,.own [.s (.str key)] 9,.own [.s (.str val)] 9])) (.need (Ds.bM th m fu) (.need (Bx.okW fr) (.need ((0:Int)≤root∧root≤65536) (.need ((1:Nat)≤key.size∧key.size≤24) (.need (val.size≤100) (.ret [.own [.ptr 1 0,.s (.int .i64 (am1 th key (some val) m fu root fr fs gn)),.ints .u64 16 (am2 th key (some val) m fu root fr fs gn),.ints .u64 16 (am3 th key (some val) m fu root fr fs gn),.ints .u64 16 (am4 th key (some val) m fu root fr fs gn)] 70,.own [.vec 2,.ag 3,.s (.int .i64 (am0 th key (some val) m fu root fr fs gn))] 96,.vec (.ae [.arr .u8 64] th) 138,.map (.arr .u8 64) (amZ th key (some val) m fu root fr fs gn),.own [.s (.str key)] 9,.own [.s (.str val)] 9] (.s (.int .i64 (am5 th key (some val) m fu root fr fs gn))))))))))))) (.ret [.own [.ptr 1 0,.s (.int .i64 root),.ints .u64 16 fr,.ints .u64 16 fs,.ints .u64 16 gn] 70,.own [.vec 2,.ag 3,.s (.int .i64 fu)] 96,.vec (.ae [.arr .u8 64] th) 138,.map (.arr .u8 64) m,.own [.s (.str key)] 9,.own [.s (.str val)] 9] (.s (.aZ .i64 1))):=by kernel_rfl
theorem au0(th:Th)(m:As)(fu root:Int)(fr fs gn:Ws)(key:ByteArray):run P asZ.sum Tryd.f25 [] (start Tryd.f25 [.ptr 0 0,.s (.str key)] (hT th m fu root fr fs gn)) (inl:=[36])=
 Tree.ite (decide ((↑key.size:Int)≥1)) (.ite (!decide ((↑key.size:Int)≤24)) (.ret [.own [.ptr 1 0,.s (.int .i64 root),.ints .u64 16 fr,.ints .u64 16 fs,.ints .u64 16 gn] 70,.own [.vec 2,.ag 3,.s (.int .i64 fu)] 96,.vec (.ae [.arr .u8 64] th) 138,.map (.arr .u8 64) m,.own [.s (.str key)] 9] (.s (.aZ .i64 1))) (.need (bE (some [AV.ptr 0 0,.s (.str key),.fn 51 [.ptr 4 0]])) (.need (bE (some [ad.own [.ptr 1 0,.s (.int .i64 root),.ints .u64 16 fr,.ints .u64 16 fs,.ints .u64 16 gn] 70,.own [.vec 2,.ag 3,.s (.int .i64 fu)] 96,.vec (.ae [.arr .u8 64] th) 138,.map (.arr .u8 64) m,.own [.s (.str key)] 9])) (.need (Ds.bM th m fu) (.need (Bx.okW fr) (.need ((0:Int)≤root∧root≤65536) (.need ((1:Nat)≤key.size∧key.size≤24) (.need (ByteArray.empty.size≤100) (.ret [.own [.ptr 1 0,.s (.int .i64 (am1 th key none m fu root fr fs gn)),.ints .u64 16 (am2 th key none m fu root fr fs gn),.ints .u64 16 (am3 th key none m fu root fr fs gn),.ints .u64 16 (am4 th key none m fu root fr fs gn)] 70,.own [.vec 2,.ag 3,.s (.int .i64 (am0 th key none m fu root fr fs gn))] 96,.vec (.ae [.arr .u8 64] th) 138,.map (.arr .u8 64) (amZ th key none m fu root fr fs gn),.own [.s (.str key)] 9] (.s (.int .i64 (am5 th key none m fu root fr fs gn)))))))))))) (.ret [.own [.ptr 1 0,.s (.int .i64 root),.ints .u64 16 fr,.ints .u64 16 fs,.ints .u64 16 gn] 70,.own [.vec 2,.ag 3,.s (.int .i64 fu)] 96,.vec (.ae [.arr .u8 64] th) 138,.map (.arr .u8 64) m,.own [.s (.str key)] 9] (.s (.aZ .i64 1))):=by kernel_rfl
theorem aac{th:Th}{key:ByteArray}{op:Option ByteArray}{m:As}{fu root:Int}{fr fs gn:Ws}(h:gk key op=true):sT th key op m fu root fr fs gn=ku th key op m fu root fr fs gn:=if_pos h
theorem ad3{th:Th}{key:ByteArray}{op:Option ByteArray}{m:As}{fu root:Int}{fr fs gn:Ws}(h:gk key op=false):sT th key op m fu root fr fs gn=(m,fu,root,fr,fs,gn,1):=if_neg (by rw[h];simp)
theorem aoQ{th:Th}{m:As}{fu root:Int}{fr fs gn:Ws}{key val:ByteArray}{c:Chs}(e:sT th key (some val) m fu root fr fs gn=c):
 akk.fv ((th,m,fu,root,fr,fs,gn),key,val)=hT th c.1 c.2.1 c.2.2.1 c.2.2.2.1 c.2.2.2.2.1 c.2.2.2.2.2.1∧akk.out ((th,m,fu,root,fr,fs,gn),key,val)=bP c.2.2.2.2.2.2:=by
 subst e;exact⟨rfl,rfl⟩
theorem aoR{th:Th}{m:As}{fu root:Int}{fr fs gn:Ws}{key:ByteArray}{c:Chs}(e:sT th key none m fu root fr fs gn=c):
 akl.fv ((th,m,fu,root,fr,fs,gn),key)=hT th c.1 c.2.1 c.2.2.1 c.2.2.2.1 c.2.2.2.2.1 c.2.2.2.2.2.1∧akl.out ((th,m,fu,root,fr,fs,gn),key)=bP c.2.2.2.2.2.2:=by
 subst e;exact⟨rfl,rfl⟩
theorem sZ:jA P Bx.bV 24 akk:=by
 refine aO Tryd.func24 (by kernel_rfl) (fun x=>Nat.le_of_ble_eq_true (by kernel_rfl)) ?_
 rintro⟨⟨(th:Th),(m:As),(fu:Int),(root:Int),(fr:Ws),(fs:Ws),(gn:Ws)⟩,(key:ByteArray),(val:ByteArray)⟩ ⟨(hd:Ds.bM th m fu),(hf:Bx.okW fr),(hr:0≤root∧root≤65536),_⟩ X hX hz
 have no:gk key (some val)=false→ko akk ((th,m,fu,root,fr,fs,gn),key,val) (hT th m fu root fr fs gn++[tG key,tG val]) (.s (.aZ .i64 1)):=fun h=>by
  obtain⟨f1,f2⟩:=aoQ (ad3 (th:=th) (m:=m) (fu:=fu) (root:=root) (fr:=fr) (fs:=fs) (gn:=gn) h)
  exact bU 4 rfl (Nat.le_refl _) f2 f1
 refine Ds.eR hz hX (by intro y hy;cases hy) (aH.Ok.cons (acb.sum amV) aH.Ok.nil) Tryd.func24 (auZ th m fu root fr fs gn key val) ⟨fun h=>⟨fun h2=> ?_,fun h2=>⟨fun h3=> ?_,fun h3=>⟨rfl,rfl,hd,hf,hr, ?_, ?_, ?_⟩⟩⟩,fun h=> ?_⟩
 ·have h2:¬(key.size:Int)≤24:=by simpa using h2
  exact no (by simp only[gk,Bool.and_eq_false_iff,decide_eq_false_iff_not];omega)
 ·have h3:=of_decide_eq_true h3
  exact no (by simp only[gk,Bool.and_eq_false_iff,decide_eq_false_iff_not];omega)
 ·have h:=of_decide_eq_true h
  have h2:(key.size:Int)≤24:=by simpa using h2
  omega
 ·have h3:=of_decide_eq_false h3
  omega
 ·have h:=of_decide_eq_true h
  have h2:(key.size:Int)≤24:=by simpa using h2
  have h3:=of_decide_eq_false h3
  obtain⟨f1,f2⟩:=aoQ (aac (th:=th) (key:=key) (op:=some val) (m:=m) (fu:=fu) (root:=root) (fr:=fr) (fs:=fs) (gn:=gn) (by simp only[gk,Bool.and_eq_true,decide_eq_true_eq];omega))
  exact bU 4 rfl (Nat.le_refl _) f2 f1
 ·have h:=of_decide_eq_false h
  exact no (by simp only[gk,Bool.and_eq_false_iff,decide_eq_false_iff_not];omega)
theorem nD:jA P Bx.bV 25 akl:=by
 refine aO Tryd.func25 (by kernel_rfl) (fun x=>Nat.le_of_ble_eq_true (by kernel_rfl)) ?_
 rintro⟨⟨(th:Th),(m:As),(fu:Int),(root:Int),(fr:Ws),(fs:Ws),(gn:Ws)⟩,(key:ByteArray)⟩ ⟨(hd:Ds.bM th m fu),(hf:Bx.okW fr),(hr:0≤root∧root≤65536),_⟩ X hX hz
 have no:gk key none=false→ko akl ((th,m,fu,root,fr,fs,gn),key) (hT th m fu root fr fs gn++[tG key]) (.s (.aZ .i64 1)):=fun h=>by
  obtain⟨f1,f2⟩:=aoR (ad3 (th:=th) (m:=m) (fu:=fu) (root:=root) (fr:=fr) (fs:=fs) (gn:=gn) h)
  exact bU 4 rfl (Nat.le_refl _) f2 f1
 refine Ds.eR hz hX (by intro y hy;cases hy) (aH.Ok.cons (acd.sum amW) aH.Ok.nil) Tryd.func25 (au0 th m fu root fr fs gn key) ⟨fun h=>⟨fun h2=> ?_,fun h2=>⟨rfl,rfl,hd,hf,hr, ?_,Nat.zero_le 100, ?_⟩⟩,fun h=> ?_⟩
 ·have h2:¬(key.size:Int)≤24:=by simpa using h2
  exact no (by simp only[gk,Bool.and_eq_false_iff,decide_eq_false_iff_not];omega)
 ·have h:=of_decide_eq_true h
  have h2:(key.size:Int)≤24:=by simpa using h2
  omega
 ·have h:=of_decide_eq_true h
  have h2:(key.size:Int)≤24:=by simpa using h2
  obtain⟨f1,f2⟩:=aoR (aac (th:=th) (key:=key) (op:=none) (m:=m) (fu:=fu) (root:=root) (fr:=fr) (fs:=fs) (gn:=gn) (by simp only[gk,Bool.and_eq_true,decide_eq_true_eq];omega))
  exact bU 4 rfl (Nat.le_refl _) f2 f1
 ·have h:=of_decide_eq_false h
  exact no (by simp only[gk,Bool.and_eq_false_iff,decide_eq_false_iff_not];omega)
end Ts
namespace Ts
open Go Go.Sx Go.Proofs Lf
def aad(th:Th)(m:As)(key:ByteArray):Nat→Int→Int→ByteArray×Bool×Int
 |0,_,_=>(ByteArray.empty,false,4)
 |f+1,n,deep=>
  if fM th m n deep≠0 then(ByteArray.empty,false,fM th m n deep)
  else if ke th m n deep=true then(pw (bN th m n deep) key,nv (bN th m n deep) key,0)
  else if aL th m n deep=[]then(ByteArray.empty,false,4)
  else aad th m key f ((aL th m n deep).getD (aU (aL th m n deep) key).toNat dB).2.1 (deep+1)
def gtT(th:Th)(m:As)(root:Int)(key:ByteArray):ByteArray×Bool×Int:=
 if gk key none=false then(ByteArray.empty,false,1)else if root=0 then(ByteArray.empty,false,0)else aad th m key 17 root 1
def gtV(th:Th)(m:As)(root:Int)(key:ByteArray):ByteArray:=(gtT th m root key).1
def gtB(th:Th)(m:As)(root:Int)(key:ByteArray):Bool:=(gtT th m root key).2.1
def gtE(th:Th)(m:As)(root:Int)(key:ByteArray):Int:=(gtT th m root key).2.2
abbrev akm:Spec XD:=⟨fun(_,key)=>[.ptr 0 0,.s (.str key)],fun((th,m,fu,root,fr,fs,gn),_)=>hT th m fu root fr fs gn,fun((th,m,fu,root,_),_)=>[Ds.bM th m fu,0≤root∧root≤65536],
 fun((th,m,fu,root,fr,fs,gn),_)=>hT th m fu root fr fs gn,fun((th,m,_,root,_),key)=>.bm [.s (.str (gtV th m root key)),.s (.bool (gtB th m root key)),bP (gtE th m root key)]⟩
abbrev as0:=bY [qx,dU] [dU,cV] (fun(l,_,())=>[(l:List En).length≤1000000,ir (bA l)]) (fun(l,key,())=>(pw l key,nv l key,()))
def akn:aH:=[(37,yj),(38,as0),(39,aqL)]
def ana:List (Nat×Norm):=[(10,⟨[],[0,1,7,8],4,[]⟩)]
noncomputable def cGt(th:Th)(m:As)(fu root:Int)(fr fs gn:Ws)(key:ByteArray)(n deep:Int):bC:=⟨sl 66 [(0,.ptr 0 0),(1,.s (.str key)),(7,bP n),(8,bP deep)],hT th m fu root fr fs gn,hd Tryd.f11 10,{}⟩
theorem au1(th:Th)(m:As)(fu root:Int)(fr fs gn:Ws)(key:ByteArray):run P akn.sum Tryd.f11 ana (start Tryd.f11 [.ptr 0 0,.s (.str key)] (hT th m fu root fr fs gn)) (inl:=[36])=
 Tree.ite (decide ((↑key.size:Int)≥1)) (.ite (!decide ((↑key.size:Int)≤24)) (.ret [.own [.ptr 1 0,.s (.int .i64 root),.ints .u64 16 fr,.ints .u64 16 fs,.ints .u64 16 gn] 70,.own [.vec 2,.ag 3,.s (.int .i64 fu)] 96,.vec (.ae [.arr .u8 64] th) 138,.map (.arr .u8 64) m] (.bm [.s (.str ByteArray.empty),.s (.aI false),.s (.aZ .i64 1)])) (.ite (root==0) (.ret [.own [.ptr 1 0,.s (.int .i64 root),.ints .u64 16 fr,.ints .u64 16 fs,.ints .u64 16 gn] 70,.own [.vec 2,.ag 3,.s (.int .i64 fu)] 96,.vec (.ae [.arr .u8 64] th) 138,.map (.arr .u8 64) m] (.bm [.s (.str ByteArray.empty),.s (.aI false),.s (.aZ .i64 0)])) (.at (.mk (sl 66 [(0,.ptr 0 0),(1,.s (.str key)),(7,.s (.int .i64 root)),(8,.s (.int .i64 1))]) [.own [.ptr 1 0,.s (.int .i64 root),.ints .u64 16 fr,.ints .u64 16 fs,.ints .u64 16 gn] 70,.own [.vec 2,.ag 3,.s (.int .i64 fu)] 96,.vec (.ae [.arr .u8 64] th) 138,.map (.arr .u8 64) m] (hd Tryd.f11 10) (.mk none false 0 [] 0))))) (.ret [.own [.ptr 1 0,.s (.int .i64 root),.ints .u64 16 fr,.ints .u64 16 fs,.ints .u64 16 gn] 70,.own [.vec 2,.ag 3,.s (.int .i64 fu)] 96,.vec (.ae [.arr .u8 64] th) 138,.map (.arr .u8 64) m] (.bm [.s (.str ByteArray.empty),.s (.aI false),.s (.aZ .i64 1)])):=by kernel_rfl
theorem au2(th:Th)(m:As)(fu root:Int)(fr fs gn:Ws)(key:ByteArray)(n deep:Int):run P akn.sum Tryd.f11 ana (cGt th m fu root fr fs gn key n deep) (inl:=[36])=
 Tree.need (bE (some [AV.ptr 0 0,.s (.int .i64 n),.s (.int .i64 deep)])) (.need (bE (some [ad.own [.ptr 1 0,.s (.int .i64 root),.ints .u64 16 fr,.ints .u64 16 fs,.ints .u64 16 gn] 70,.own [.vec 2,.ag 3,.s (.int .i64 fu)] 96,.vec (.ae [.arr .u8 64] th) 138,.map (.arr .u8 64) m])) (.need (Ds.bM th m fu) (.need (aD n) (.ite (fM th m n deep !=0) (.ret [.own [.ptr 1 0,.s (.int .i64 root),.ints .u64 16 fr,.ints .u64 16 fs,.ints .u64 16 gn] 70,.own [.vec 2,.ag 3,.s (.int .i64 fu)] 96,.vec (.ae [.arr .u8 64] th) 138,.map (.arr .u8 64) m,.own [.s (.bool (ke th m n deep)),.s (.ro (.ae [.str,.str] (bN th m n deep))),.s (.ro (.ae [.str,.int .i64] (aL th m n deep)))] 73] (.bm [.s (.str ByteArray.empty),.s (.aI false),.s (.int .i64 (fM th m n deep))])) (.ite (ke th m n deep) (.need ((bN th m n deep).length≤1000000) (.need (ir (bA (bN th m n deep))) (.ret [.own [.ptr 1 0,.s (.int .i64 root),.ints .u64 16 fr,.ints .u64 16 fs,.ints .u64 16 gn] 70,.own [.vec 2,.ag 3,.s (.int .i64 fu)] 96,.vec (.ae [.arr .u8 64] th) 138,.map (.arr .u8 64) m,.own [.s (.bool (ke th m n deep)),.s (.ro (.ae [.str,.str] (bN th m n deep))),.s (.ro (.ae [.str,.int .i64] (aL th m n deep)))] 73] (.bm [.s (.str (pw (bN th m n deep) key)),.s (.bool (nv (bN th m n deep) key)),.s (.aZ .i64 0)])))) (.ite ((↑(aL th m n deep).length:Int)==0) (.ret [.own [.ptr 1 0,.s (.int .i64 root),.ints .u64 16 fr,.ints .u64 16 fs,.ints .u64 16 gn] 70,.own [.vec 2,.ag 3,.s (.int .i64 fu)] 96,.vec (.ae [.arr .u8 64] th) 138,.map (.arr .u8 64) m,.own [.s (.bool (ke th m n deep)),.s (.ro (.ae [.str,.str] (bN th m n deep))),.s (.ro (.ae [.str,.int .i64] (aL th m n deep)))] 73] (.bm [.s (.str ByteArray.empty),.s (.aI false),.s (.aZ .i64 4)])) (.need ((aL th m n deep).length≤1000000) (.need (ir (mo (aL th m n deep))) (.need ((0:Int)≤aU (aL th m n deep) key) (.need (aU (aL th m n deep) key<(↑(aL th m n deep).length:Int)) (.need (aD (deep+1)) (.at (.mk (sl 66 [(0,.ptr 0 0),(1,.s (.str key)),(7,.s (.int .i64 ((aL th m n deep).getD (aU (aL th m n deep) key).toNat (CL.d [.str,.int .i64])).snd.fst)),(8,.s (.int .i64 (deep+1)))]) [.own [.ptr 1 0,.s (.int .i64 root),.ints .u64 16 fr,.ints .u64 16 fs,.ints .u64 16 gn] 70,.own [.vec 2,.ag 3,.s (.int .i64 fu)] 96,.vec (.ae [.arr .u8 64] th) 138,.map (.arr .u8 64) m] (hd Tryd.f11 10) (.mk none false 0 [] 0)))))))))))))):=by kernel_rfl
theorem ace{Z:bd}:akn.Ok P Z:=aH.Ok.cons (n9.sum mNo) (aH.Ok.cons al5.sum (aH.Ok.cons vt.sum aH.Ok.nil))
theorem acf{th:Th}{m:As}{fu root:Int}{fr fs gn:Ws}{key:ByteArray}{c:ByteArray×Bool×Int}(e:c=gtT th m root key):
 akm.out ((th,m,fu,root,fr,fs,gn),key)=.bm [.s (.str c.1),.s (.bool c.2.1),bP c.2.2]:=by
 subst e;rfl
theorem aq0{Z:bd}:jA P Z 11 akm:=by
 refine aO Tryd.func11 (by kernel_rfl) (fun x=>Nat.le_of_ble_eq_true (by kernel_rfl)) ?_
 rintro⟨⟨(th:Th),(m:As),(fu:Int),(root:Int),(fr:Ws),(fs:Ws),(gn:Ws)⟩,(key:ByteArray)⟩ ⟨(hd:Ds.bM th m fu),(hr:0≤root∧root≤65536),_⟩ X hX hz
 have hm:∀y∈ana,(hT th m fu root fr fs gn).length≤y.2.m:=fun y hy=>by
  simp only[ana,List.mem_singleton]at hy;subst hy;exact Nat.le_refl _
 have loop:∀(f:Nat) (n deep:Int),1≤deep∧deep≤17→18≤deep+(f:Int)→0≤n∧n≤65536→aad th m key f n deep=gtT th m root key→
  Safe P 11 X (ko akm ((th,m,fu,root,fr,fs,gn),key)) (cGt th m fu root fr fs gn key n deep):=by
  intro f
  induction f with
  |zero=>intro n deep h1 h2;omega
  |succ f ih=>
   intro n deep h1 h2 hn e
   rw[aad]at e
   refine Ds.eR hz hX hm ace Tryd.func11 (au2 th m fu root fr fs gn key n deep) ⟨rfl,rfl,hd,z7 (by omega) (by omega),fun h=> ?_,fun h=> ?_⟩
   ·have h:fM th m n deep≠0:=by simpa using h
    rw[if_pos h]at e
    exact bU 4 rfl (Nat.le_refl _) (acf e) rfl
   have h:fM th m n deep=0:=by simpa using h
   obtain⟨au3,n1,n2,_,_,n5,_⟩:=eH h
   obtain⟨s1,s2⟩:=qH au3
   rw[if_neg (by rw[h];simp)]at e
   refine⟨fun hl=>⟨by omega,s1, ?_⟩,fun hl=>⟨fun h3=> ?_,fun h3=> ?_⟩⟩
   ·rw[if_pos hl]at e
    exact bU 4 rfl (Nat.le_refl _) (acf e) rfl
   ·have h3:aL th m n deep=[]:=List.eq_nil_of_length_eq_zero (by have:((aL th m n deep).length:Int)=0:=by simpa using h3
                                                                 omega)
    rw[if_neg (by rw[hl];simp),if_pos h3]at e
    exact bU 4 rfl (Nat.le_refl _) (acf e) rfl
   ·have h3:aL th m n deep≠[]:=fun e=>by rw[e]at h3;simp at h3
    rw[if_neg (by rw[hl];simp),if_neg h3]at e
    obtain⟨p0,p1⟩:=rY (key:=key) s2 h3
    exact⟨by omega,s2,p0,p1,z7 (by omega) (by omega),ih _ _ ⟨by omega,by omega⟩ (by omega) (rZ h _) e⟩
 have no:gk key none=false→ko akm ((th,m,fu,root,fr,fs,gn),key) (hT th m fu root fr fs gn) (.bm [.s (.str ByteArray.empty),.s (.aI false),.s (.aZ .i64 1)]):=fun h=>
  bU 4 rfl (Nat.le_refl _) (acf (c:=(ByteArray.empty,false,1)) (by unfold gtT;rw[if_pos h])) rfl
 refine Ds.eR hz hX hm ace Tryd.func11 (au1 th m fu root fr fs gn key) ⟨fun h=>⟨fun h2=> ?_,fun h2=> ?_⟩,fun h=> ?_⟩
 ·have h2:¬(key.size:Int)≤24:=by simpa using h2
  exact no (by simp only[gk,Bool.and_eq_false_iff,decide_eq_false_iff_not];omega)
 ·have h:=of_decide_eq_true h
  have h2:(key.size:Int)≤24:=by simpa using h2
  have ok:gk key none=true:=by simp only[gk,Bool.and_eq_true,decide_eq_true_eq];omega
  refine⟨fun h3=> ?_,fun h3=> ?_⟩
  ·have h3:root=0:=by simpa using h3
   exact bU 4 rfl (Nat.le_refl _) (acf (c:=(ByteArray.empty,false,0)) (by unfold gtT;rw[if_neg (by rw[ok];simp),if_pos h3])) rfl
  ·have h3:root≠0:=by simpa using h3
   exact loop 17 root 1 ⟨by omega,by omega⟩ (by omega) hr (by unfold gtT;rw[if_neg (by rw[ok];simp),if_neg h3])
 ·have h:=of_decide_eq_false h
  exact no (by simp only[gk,Bool.and_eq_false_iff,decide_eq_false_iff_not];omega)
end Ts
namespace Go.Sx
open Go
section
variable{P:Program}{X:Ctx}{K:List ad→AV→Prop}{L:List ad}
end
end Go.Sx
namespace Go.Sx
open Go
def acg(id n:Nat):AV→AV
 |.vec j=>bif j.beq id then .vec n else .vec j
 |a=>a
def ad4(id n:Nat):AV→AV
 |.agg ak=>.agg (ak.map (acg id n))
 |.vec j=>bif j.beq id then .vec n else .vec j
 |a=>a
def mvO(id n:Nat):ad→ad
 |.own ak e=>.own (ak.map (acg id n)) e
 |o=>o
def anb(s:St)(id:Nat):St:=
 match s.H[id]? with
 |some (.vec c e)=>⟨s.tmps.map (ad4 id s.H.length),(s.H.map (mvO id s.H.length)).set id .dead++[.vec c e]⟩
 |_=>s
section
variable{ρ az:Nat→Value}{H H':aG}{G O O':Nat→Prop}{w w':World}{P:Program}{Z:bd}{X:Ctx}{s:St}{a:Act}
theorem aho{id n:Nat}{o:ad}:(mvO id n o).alive=o.alive:=by cases o<;>rfl
theorem anc{id n:Nat}{o:ad}{c':aF}{e':TypeId}(h:mvO id n o=.vec c' e'):o=.vec c' e':=by
 cases o<;>simp[mvO]at h ⊢
 exact h
theorem bS.mv(h:bS X ρ s a w)(id:Nat):∃az,bS X az (anb s id) a w:=by
 unfold anb
 split
 ·rename_i c e ho
  have hs:=h.sat
  have bg:id<s.H.length:=(List.getElem?_eq_some_iff.1 ho).1
  let n:=s.H.length
  let az:Nat→Value:=fun j=>if j=n then ρ id else ρ j
  let s':St:=⟨s.tmps.map (ad4 id n),(s.H.map (mvO id n)).set id .dead++[.vec c e]⟩
  have look:∀j,s'.look j=if j=n then some (.vec c e)else if j=id then some .dead else(s.look j).map (mvO id n):=by
   intro j
   show((s.H.map (mvO id n)).set id .dead++[.vec c e])[j]? =_
   by_cases hj:j=n
   ·subst hj
    rw[if_pos rfl,List.getElem?_append_right (by simp[n])]
    simp[n]
   ·rw[if_neg hj]
    by_cases hl:j<n
    ·rw[List.getElem?_append_left (by simpa[n]using hl),List.getElem?_set]
     by_cases hi:id=j
     ·subst hi;simp[bg]
     ·rw[if_neg hi,if_neg (Ne.symm hi),List.getElem?_map];rfl
    ·rw[List.getElem?_eq_none (by simp only[List.length_append,List.length_set,List.length_map,List.length_singleton];show n+1≤j;omega),if_neg (by omega)]
     have:s.look j=none:=List.getElem?_eq_none (by show n≤j;omega)
     rw[this];rfl
  have aoS:∀{j:Nat} {o:ad},s.look j=some o→j<n:=fun hj=>(List.getElem?_eq_some_iff.1 hj).1
  have back:∀j o,s'.look j=some o→o.alive=true→∃x,s.look (if j=n then id else j)=some x∧x.alive=true∧az j=ρ (if j=n then id else j)∧(j≠n→j≠id):=by
   intro j o hj ha
   rw[look]at hj
   by_cases e1:j=n
   ·rw[if_pos e1]
    exact⟨.vec c e,ho,rfl,by simp[az,e1],fun h=>absurd e1 h⟩
   ·rw[if_neg e1]at hj ⊢
    by_cases e2:j=id
    ·rw[if_pos e2]at hj;cases hj;cases ha
    ·rw[if_neg e2]at hj
     obtain⟨o0,h3,rfl⟩:=Option.map_eq_some_iff.1 hj
     exact⟨o0,h3,by rw[aho]at ha;exact ha,by simp[az,e1],fun _=>e2⟩
  have own:∀b,Own az s'.look b→Own ρ s.look b:=by
   rintro b ⟨j,o,hj,h1,h2⟩
   obtain⟨x,g1,g2,g3,_⟩:=back j o hj h1
   exact⟨_,x,g1,g2,by rw[←g3];exact h2⟩
  have st:Step ρ s.look (aK ρ s.look X.G) w az s'.look (aK az s'.look X.G) w:=by
   refine⟨fun j o hj=> ?_,fun j o hj=> ?_,fun b hb=>.inl (hb.imp (own b) (fun x=>x)),fun _ _ _=>rfl,Nat.le_refl _⟩
   ·have:=aoS hj
    simp only[az]
    rw[if_neg (by omega)]
   ·have hjn:j≠n:=Nat.ne_of_lt (aoS hj)
    by_cases e1:j=id
    ·exact⟨.dead,by rw[look,if_neg hjn,if_pos e1],fun c' e' he=>by cases he⟩
    ·refine⟨mvO id n o,by rw[look,if_neg hjn,if_neg e1,hj];rfl,fun c' e' he=> ?_⟩
     exact⟨c',e',anc he,rfl,rfl⟩
  have as1:s'.look n=some (.vec c e):=by rw[look,if_pos rfl]
  have as2:az n=ρ id:=by simp[az]
  have hi:s.look id=some (.vec c e):=ho
  have as3:∀{v:Value},ay ρ s.look (aK ρ s.look X.G) w (.vec id) v→ay az s'.look (aK az s'.look X.G) w (.vec n) v:=by
   intro v hv
   unfold ay at hv ⊢
   obtain⟨h0,o,h1,h2⟩:=hv
   rw[hi]at h1
   cases h1
   exact⟨h0,.vec c e,as1,fun c' e' _=>by rw[as2];exact h2 c e rfl⟩
  have adm:∀x cs,aC ρ s.look (aK ρ s.look X.G) w x cs→aC az s'.look (aK az s'.look X.G) w (acg id n x) cs:=by
   intro x cs hx
   have mw:=aC.step st x cs hx
   cases x<;>try exact mw
   rename_i j
   simp only[acg,Bool.cond_eq_ite]
   split
   ·rename_i hj
    have hj:j=id:=by simpa using hj
    subst hj
    unfold aC at hx ⊢
    obtain⟨u,rfl,hu⟩:=hx
    exact⟨u,rfl,as3 hu⟩
   ·exact mw
  have l5:∀(xs:List AV) cs,an ρ s.look (aK ρ s.look X.G) w xs cs→an az s'.look (aK az s'.look X.G) w (xs.map (acg id n)) cs:=by
   intro xs
   induction xs with
   |nil=>intro cs hx;exact ao.2 (ao.1 hx)
   |cons x xs ih=>
    intro cs hx
    obtain⟨c1,c2,rfl,h1,h2⟩:=af.1 hx
    exact af.2 ⟨c1,c2,rfl,adm _ _ h1,ih _ h2⟩
  have apx:∀x v,ab ρ s.look (aK ρ s.look X.G) w x v→ab az s'.look (aK az s'.look X.G) w (ad4 id n x) v:=by
   intro x v hx
   have mw:=ab.step st x v hx
   cases x with
   |agg ak=>
    unfold ab at hx
    obtain⟨cs,rfl,h1⟩:=hx
    show ab _ _ _ _ (.agg _) _
    unfold ab
    exact⟨cs,rfl,l5 _ _ h1⟩
   |vec j=>
    simp only[ad4,Bool.cond_eq_ite]
    split
    ·rename_i hj
     have hj:j=id:=by simpa using hj
     subst hj
     unfold ab at hx ⊢
     exact as3 hx
    ·exact mw
   |_=>exact mw
  refine⟨az,⟨fun j o hj=> ?_,fun i j oi oj b h1 h2 h3 h4 h5 h6=> ?_,fun b hb=>hs.apart b (own b hb),hs.low⟩,by rw[←h.size];exact List.length_map _,fun t=> ?_,h.defers,h.from_.trans st,h.iW,h.kept⟩
  ·have hj:s'.look j=some o:=hj
   rw[look]at hj
   by_cases e0:j=n
   ·rw[if_pos e0]at hj
    cases hj
    subst e0
    rw[as2]
    exact(hs.obj id _ hi).step st (fun _ _ _=>rfl)
   ·rw[if_neg e0]at hj
    have hr:az j=ρ j:=by simp[az,e0]
    rw[hr]
    by_cases e1:j=id
    ·rw[if_pos e1]at hj;cases hj;trivial
    ·rw[if_neg e1]at hj
     obtain⟨o0,h3,rfl⟩:=Option.map_eq_some_iff.1 hj
     have dR:=hs.obj j o0 h3
     cases o0 with
     |own ak e1=>
      obtain⟨b,cells,fr,g1,g2,g3,g4⟩:=dR
      exact⟨b,cells,fr,g1,g2,g3,l5 _ _ g4⟩
     |_=>exact dR.step st (fun _ _ _=>rfl)
  ·obtain⟨x,hx,hxa,hxr,hxi⟩:=back i oi h1 h3
   obtain⟨y,hy,hya,hyr,hyi⟩:=back j oj h2 h4
   have:=hs.inj _ _ x y b hx hy hxa hya (by rw[←hxr];exact h5) (by rw[←hyr];exact h6)
   by_cases e1:i=n
   ·by_cases e2:j=n
    ·omega
    ·rw[if_pos e1,if_neg e2]at this
     exact absurd this.symm (hyi e2)
   ·by_cases e2:j=n
    ·rw[if_neg e1,if_pos e2]at this
     exact absurd this (hxi e1)
    ·rw[if_neg e1,if_neg e2]at this
     exact this
  ·have e1:(s.tmps.map (ad4 id n)).getD t (.s .aQ)=ad4 id n (s.tmps.getD t (.s .aQ)):=by
    rw[List.getD_eq_getElem?_getD,List.getD_eq_getElem?_getD,List.getElem?_map]
    cases s.tmps[t]? <;>rfl
   show ab az s'.look _ w ((s.tmps.map (ad4 id n)).getD t (.s .aQ)) _
   rw[e1]
   exact apx _ _ (h.den t)
 ·exact⟨ρ,h⟩
variable{K:List ad→AV→Prop}
theorem pH{f:FuncId}{tmps:List AV}{L:List ad}{todo:List Item}{stk:nN}(id:Nat){c:bC}(e:(⟨(anb ⟨tmps,L⟩ id).tmps,(anb ⟨tmps,L⟩ id).H,todo,stk⟩:bC)=c)(h:Safe P f X K c):Safe P f X K ⟨tmps,L,todo,stk⟩:=by
 subst e
 intro G E ρ a w gZ ia hr b t fs hw
 obtain⟨az,r'⟩:=hr.mv id
 exact h G E az a w gZ ia r' b t fs hw
end
end Go.Sx
namespace Ts
open Go Go.Sx Go.Proofs Lf
abbrev fL1:FuncId:=41
abbrev fG1:FuncId:=42
abbrev fW1:FuncId:=62
def geE(k:ByteArray)(e:En):Bool:= !slt e.1 k
abbrev sL1:Spec (Int×(Bool×List En×List Br)×ByteArray×List En):=⟨fun(n,(l,es,bs),_,_)=>[bP n,avN l es bs,.ptr 0 0,.ptr 1 0],fun(_,_,from_,out)=>[tG from_,.own [.vec 2] 29,.vec (.ae cE out) Lf.eE],
 fun(_,(_,es,_),_,out)=>[(es:List En).length≤1000,(out:List En).length≤100000000],fun(_,(_,es,_),from_,out)=>[tG from_,.own [.vec 3] 29,.dead,.vec (.ae cE (out++es.filter (geE from_))) Lf.eE],fun _=>.bm []⟩
def ako:List (Nat×Norm):=[(1,⟨[],[2,3,5],3,[]⟩),(2,⟨[],[2,3,9,10,11],3,[]⟩)]
noncomputable def as4(l:Bool)(es:List En)(bs:List Br)(from_:ByteArray)(out:List En):bC:=⟨sl 24 [(2,.ptr 0 0),(3,.ptr 1 0),(5,.ptr 3 0)],[tG from_,.own [.vec 4] 29,.dead,obN l es bs eN,.vec (.ae cE out) Lf.eE],hr Tryd.f41 1,{}⟩
noncomputable def cL1(es:List En)(from_:ByteArray)(out:List En)(i:Int):bC:=⟨sl 24 [(2,.ptr 0 0),(3,.ptr 1 0),(9,.s (.ro (.ae cE es))),(10,bP (es.length:Int)),(11,bP i)],[tG from_,.own [.vec 3] 29,.dead,.vec (.ae cE out) Lf.eE],hd Tryd.f41 2,{}⟩
theorem au4(n:Int)(l:Bool)(es:List En)(bs:List Br)(from_:ByteArray)(out:List En):run P (aH.sum []) Tryd.f41 ako (start Tryd.f41 [bP n,avN l es bs,.ptr 0 0,.ptr 1 0] [tG from_,.own [.vec 2] 29,.vec (.ae cE out) Lf.eE])=
 Tree.at (.mk (sl 24 [(2,.ptr 0 0),(3,.ptr 1 0),(5,.ptr 3 0)]) [.own [.s (.str from_)] 9,.own [.vec 2] 29,.vec (.ae [.str,.str] out) 34,.own [.s (.bool l),.s (.ro (.ae [.str,.str] es)),.s (.ro (.ae [.str,.int .i64] bs))] 73] (hr Tryd.f41 1) (.mk none false 0 [] 0)):=by kernel_rfl
theorem au5(l:Bool)(es:List En)(bs:List Br)(from_:ByteArray)(out:List En):run P (aH.sum []) Tryd.f41 ako (as4 l es bs from_ out)=
 Tree.at (.mk (sl 24 [(2,.ptr 0 0),(3,.ptr 1 0),(9,.s (.ro (.ae [.str,.str] es))),(10,.s (.int .i64 (↑es.length:Int))),(11,.s (.int .i64 0))]) [.own [.s (.str from_)] 9,.own [.vec 3] 29,.dead,.vec (.ae [.str,.str] out) 34] (hd Tryd.f41 2) (.mk none false 0 [] 0)):=by kernel_rfl
theorem as5(es:List En)(from_:ByteArray)(out:List En)(i:Int):run P (aH.sum []) Tryd.f41 ako (cL1 es from_ out i)=
 Tree.ite (decide (i<(↑es.length:Int))) (.need ((0:Int)≤i) (.need (i<(↑es.length:Int)) (.ite (!slt (es.getD i.toNat (CL.d [.str,.str])).fst from_) (.need ((out.length+1)*(32:Nat)≤140737488355328) (.need (aD (i+1)) (.at (.mk (sl 24 [(2,.ptr 0 0),(3,.ptr 1 0),(9,.s (.ro (.ae [.str,.str] es))),(10,.s (.int .i64 (↑es.length:Int))),(11,.s (.int .i64 (i+1)))]) [.own [.s (.str from_)] 9,.own [.vec 3] 29,.dead,.vec (.ae [.str,.str] (out++[((es.getD i.toNat (CL.d [.str,.str])).fst,(es.getD i.toNat (CL.d [.str,.str])).snd.fst,())])) 34] (hd Tryd.f41 2) (.mk none false 0 [] 0))))) (.need (aD (i+1)) (.at (.mk (sl 24 [(2,.ptr 0 0),(3,.ptr 1 0),(9,.s (.ro (.ae [.str,.str] es))),(10,.s (.int .i64 (↑es.length:Int))),(11,.s (.int .i64 (i+1)))]) [.own [.s (.str from_)] 9,.own [.vec 3] 29,.dead,.vec (.ae [.str,.str] out) 34] (hd Tryd.f41 2) (.mk none false 0 [] 0))))))) (.ret [.own [.s (.str from_)] 9,.own [.vec 3] 29,.dead,.vec (.ae [.str,.str] out) 34] (.bm [])):=by kernel_rfl
theorem ach{α:Type}{p:α→Bool}{l:List α}{k:Nat}{d:α}(h:k<l.length):(l.take (k+1)).filter p=(l.take k).filter p++(if p (l.getD k d)=true then [l.getD k d]else []):=by
 rw[←lJ (d:=d) h,List.filter_append]
 congr 1
 cases h2:p (l.getD k d)
 ·rw[List.filter_cons_of_neg (by rw[h2];simp)];rfl
 ·rw[List.filter_cons_of_pos h2];rfl
theorem filter_le{α:Type}(p:α→Bool)(l:List α):(l.filter p).length≤l.length:=List.length_filter_le _ _
theorem akp{Z:bd}:jA P Z 41 sL1:=by
 refine aO Tryd.func41 (by kernel_rfl) (fun x=>Nat.le_of_ble_eq_true (by kernel_rfl)) ?_
 rintro⟨(n:Int),⟨(l:Bool),(es:List En),(bs:List Br)⟩,(from_:ByteArray),(out:List En)⟩ ⟨(he:es.length≤1000),(ho:out.length≤100000000),_⟩ X hX hz
 have hm:∀y∈ako,([tG from_,.own [.vec 2] 29,.vec (.ae cE out) Lf.eE]:List ad).length≤y.2.m:=fun y hy=>by
  simp only[ako,List.mem_cons,List.not_mem_nil,or_false]at hy
  rcases hy with rfl|rfl<;>exact Nat.le_refl _
 have loop:∀(j k:Nat),k+j=es.length→Safe P 41 X (ko sL1 (n,(l,es,bs),from_,out)) (cL1 es from_ (out++(es.take k).filter (geE from_)) (k:Int)):=by
  intro j
  induction j with
  |zero=>
   intro k hk
   refine Ds.eR hz hX hm aH.Ok.nil Tryd.func41 (as5 es from_ _ k) ⟨fun h=>absurd (of_decide_eq_true h) (by omega),fun h=> ?_⟩
   rw[List.take_of_length_le (by omega)]
   exact bU 3 rfl (Nat.le_refl _) rfl rfl
  |succ j ih=>
   intro k hk
   have e:=ach (p:=geE from_) (l:=es) (k:=k) (d:=dE) (by omega)
   have hl:=filter_le (geE from_) (es.take k)
   rw[List.length_take]at hl
   refine Ds.eR hz hX hm aH.Ok.nil Tryd.func41 (as5 es from_ _ k) ⟨fun h=>⟨by omega,by omega,fun hg=>⟨?_,⟨by omega,by omega⟩, ?_⟩,fun hg=>⟨⟨by omega,by omega⟩, ?_⟩⟩,fun h=>absurd (of_decide_eq_false h) (by omega)⟩
   ·show(_+1)*32≤140737488355328
    rw[List.length_append];omega
   ·have hg:geE from_ (es.getD k dE)=true:=hg
    rw[if_pos hg]at e
    have:=ih (k+1) (by omega)
    rw[e,←List.append_assoc]at this
    exact this
   ·have hg:geE from_ (es.getD k dE)=false:=hg
    rw[if_neg (by rw[hg];simp),List.append_nil]at e
    have:=ih (k+1) (by omega)
    rw[e]at this
    exact this
 refine Ds.eR hz hX hm aH.Ok.nil Tryd.func41 (au4 n l es bs from_ out) ?_
 refine pH 2 (c:=as4 l es bs from_ out) rfl ?_
 refine Ds.eR hz hX hm aH.Ok.nil Tryd.func41 (au5 l es bs from_ out) ?_
 have:=loop es.length 0 (by omega)
 rw[List.take_zero,List.filter_nil,List.append_nil]at this
 exact this
end Ts
namespace Ts
open Go Go.Sx Go.Proofs Lf
def qU{σ:Type}(g:Ws→σ→Int→Ws×σ×Int):List Br→Ws→σ→Ws×σ×Int
 |[],met,out=>(met,out,0)
 |b::r,met,out=>if(g met out b.2.1).2.2≠0 then g met out b.2.1 else qU g r (g met out b.2.1).1 (g met out b.2.1).2.1
def dC{σ:Type}(on:σ→Int→List En→σ)(th:Th)(m:As):Nat→Int→Ws→σ→Int→Ws×σ×Int
 |0,_,met,out,_=>(met,out,4)
 |f+1,deep,met,out,n=>
  if fM th m n deep≠0 then(met,out,fM th m n deep)
  else if Bx.lO met n=true then(met,out,4)
  else qU (dC on th m f (deep+1)) (aL th m n deep) (Bx.cO met n) (on out n (bN th m n deep))
def qV(from_:ByteArray)(out:List En)(_:Int)(es:List En):List En:=out++es.filter (geE from_)
def ou(out:Ws)(n:Int)(_:List En):Ws:=Bx.cO out n
def gG(ws:Ws):Nat:=(Bx.adQ ws).length
abbrev tT1:TypeId:=26
abbrev tOn:TypeId:=82
abbrev tVi:TypeId:=107
abbrev eSt:TypeId:=47
abbrev eLE:TypeId:=29
abbrev sG1:Spec (Int×(Bool×List En×List Br)×Ws):=⟨fun(n,(l,es,bs),_)=>[bP n,avN l es bs,.ptr 0 0],fun(_,_,out)=>[.own [.ints .u64 16 out] eSt],fun _=>[],fun(n,_,out)=>[.own [.ints .u64 16 (Bx.cO out n)] eSt],fun _=>.bm []⟩
theorem au6(n:Int)(l:Bool)(es:List En)(bs:List Br)(out:Ws):run P (aH.sum [(43,abS)]) Tryd.f42 [] (start Tryd.f42 [bP n,avN l es bs,.ptr 0 0] [.own [.ints .u64 16 out] eSt])=
 Tree.ret [.own [.ints .u64 16 (Bx.cO out n)] 47,.own [.s (.bool l),.s (.ro (.ae [.str,.str] es)),.s (.ro (.ae [.str,.int .i64] bs))] 73] (.bm []):=by kernel_rfl
def mL1:List AV→RM ((Int×(Bool×List En×List Br)×ByteArray×List En)×List Nat)
 |[n,x,.ptr a 0,.ptr b 0]=>match n.dc,aqJ x with
  |some (_,_,n),some nd=>.look a fun o=>match o with
   |some (.own [.s (.str from_)] _)=>.look b fun o=>match o with
    |some (.own [.vec r] _)=>.look r fun o=>match o with
     |some (.vec (.ae [.str,.str] out) _)=>.ret ((n,nd,from_,out),[a,b,r])
     |_=>.fail "no row"
    |_=>.fail "no row's box"
   |_=>.fail "no text"
  |_,_=>.fail "no node"
 |_=>.fail "List$1"
def mG1:List AV→RM ((Int×(Bool×List En×List Br)×Ws)×List Nat)
 |[n,x,.ptr a 0]=>match n.dc,aqJ x with
  |some (_,_,n),some nd=>.look a fun o=>match o with
   |some (.own [.ints .u64 16 out] _)=>.ret ((n,nd,out),[a])
   |_=>.fail "no set"
  |_,_=>.fail "no node"
 |_=>.fail "Pages$1"
def ane(th:Th)(m:As)(f:Nat)(deep:Int)(met:Ws)(from_:ByteArray)(out:List En)(n:Int):Ws:=(dC (qV from_) th m f deep met out n).1
def anf(th:Th)(m:As)(f:Nat)(deep:Int)(met:Ws)(from_:ByteArray)(out:List En)(n:Int):List En:=(dC (qV from_) th m f deep met out n).2.1
def ang(th:Th)(m:As)(f:Nat)(deep:Int)(met:Ws)(from_:ByteArray)(out:List En)(n:Int):Int:=(dC (qV from_) th m f deep met out n).2.2
abbrev XVL:Type:=XT×Int×Int×Ws×ByteArray×List En
abbrev hVL(th:Th)(m:As)(fu root:Int)(fr fs gn met:Ws):List ad:=hT th m fu root fr fs gn++[.own [.ptr 0 0] tT1,.own [.ints .u64 16 met] eSt,.own [.fn fL1 [.ptr 8 0,.ptr 9 0]] tOn,.own [.fn fW1 [.ptr 4 0,.ptr 5 0,.ptr 6 0,.ptr 7 0]] tVi]
abbrev aci(f:Nat):Spec XVL:=⟨fun(_,n,deep,_)=>[bP n,bP deep,.ptr 4 0,.ptr 5 0,.ptr 6 0,.ptr 7 0],fun((th,m,fu,root,fr,fs,gn),_,_,met,from_,out)=>hVL th m fu root fr fs gn met++[tG from_,.own [.vec 10] eLE,.vec (.ae cE out) Lf.eE],
 fun((th,m,fu,_),n,deep,met,_,out)=>[Ds.bM th m fu,0≤n∧n≤65536,1≤deep∧deep≤17,18≤deep+(f:Int),Bx.okW met,List.length (α:=En) out≤126*gG met],
 fun((th,m,fu,root,fr,fs,gn),n,deep,met,from_,out)=>hVL th m fu root fr fs gn (ane th m f deep met from_ out n)++[tG from_,.own [.vec 11] eLE,.dead,.vec (.ae cE (anf th m f deep met from_ out n)) Lf.eE],
 fun((th,m,_),n,deep,met,from_,out)=>bP (ang th m f deep met from_ out n)⟩
def anh:List AV→RM (XVL×List Nat)
 |[n,d,.ptr a 0,.ptr b 0,.ptr c 0,.ptr v 0]=>match n.dc,d.dc with
  |some (_,_,n),some (_,_,d)=>.look a fun o=>match o with
   |some (.own [.ptr t 0] _)=>(mT [.ptr t 0]).bind fun(X,σ)=>.look b fun o=>match o with
    |some (.own [.ints .u64 16 met] _)=>.look c fun o=>match o with
     |some (.own [.fn _ [.ptr p 0,.ptr q 0]] _)=>.look p fun o=>match o with
      |some (.own [.s (.str from_)] _)=>.look q fun o=>match o with
       |some (.own [.vec r] _)=>.look r fun o=>match o with
        |some (.vec (.ae [.str,.str] out) _)=>.ret ((X,n,d,met,from_,out),σ++[a,b,c,v,p,q,r])
        |_=>.fail "visit: no row"
       |_=>.fail "visit: no row's box"
      |_=>.fail "visit: no text"
     |_=>.fail "visit: no on"
    |_=>.fail "visit: no set"
   |_=>.fail "visit: no tree"
  |_,_=>.fail "visit: no numbers"
 |_=>.fail "visit: arguments"
def aae(f:Nat):aH:=[(37,yj),(35,amA),(43,abS),(fL1,dA sL1 mL1),(fW1,dA (aci f) anh)]
def afD:List (Nat×Norm):=[(9,⟨[],[1,5,35,36,37],11,[]⟩)]
noncomputable def as6(th:Th)(m:As)(fu root:Int)(fr fs gn met:Ws)(from_:ByteArray)(out:List En)(bs:List Br)(deep i:Int):bC:=⟨sl 51 [(1,bP deep),(5,.ptr 7 0),(35,.s (.ro (.ae cB bs))),(36,bP (bs.length:Int)),(37,bP i)],hVL th m fu root fr fs gn met++[tG from_,.own [.vec 11] eLE,.dead,.vec (.ae cE out) Lf.eE],hd Tryd.f62 9,{}⟩
theorem as7(f:Nat)(th:Th)(m:As)(fu root:Int)(fr fs gn met:Ws)(from_:ByteArray)(out:List En)(n deep:Int):run P (aae f).sum Tryd.f62 afD (start Tryd.f62 [bP n,bP deep,.ptr 4 0,.ptr 5 0,.ptr 6 0,.ptr 7 0] (hVL th m fu root fr fs gn met++[tG from_,.own [.vec 11] eLE,.dead,.vec (.ae cE out) Lf.eE]))=
 Tree.need (bE (some [AV.ptr 0 0,.s (.int .i64 n),.s (.int .i64 deep)]))
 (.need (bE (some [ad.own [.ptr 1 0,.s (.int .i64 root),.ints .u64 16 fr,.ints .u64 16 fs,.ints .u64 16 gn] 70,.own [.vec 2,.ag 3,.s (.int .i64 fu)] 96,.vec (.ae [.arr .u8 64] th) 138,.map (.arr .u8 64) m]))
   (.need (Ds.bM th m fu)
     (.need (aD n)
       (.ite (fM th m n deep !=0) (.ret [.own [.ptr 1 0,.s (.int .i64 root),.ints .u64 16 fr,.ints .u64 16 fs,.ints .u64 16 gn] 70,.own [.vec 2,.ag 3,.s (.int .i64 fu)] 96,.vec (.ae [.arr .u8 64] th) 138,.map (.arr .u8 64) m,.own [.ptr 0 0] 26,.own [.ints .u64 16 met] 47,.own [.fn 41 [.ptr 8 0,.ptr 9 0]] 82,.own [.fn 62 [.ptr 4 0,.ptr 5 0,.ptr 6 0,.ptr 7 0]] 107,.own [.s (.str from_)] 9,.own [.vec 11] 29,.dead,.vec (.ae [.str,.str] out) 34,.own [.s (.bool (ke th m n deep)),.s (.ro (.ae [.str,.str] (bN th m n deep))),.s (.ro (.ae [.str,.int .i64] (aL th m n deep)))] 73] (.s (.int .i64 (fM th m n deep))))
         (.ite (Bx.lO met n) (.ret [.own [.ptr 1 0,.s (.int .i64 root),.ints .u64 16 fr,.ints .u64 16 fs,.ints .u64 16 gn] 70,.own [.vec 2,.ag 3,.s (.int .i64 fu)] 96,.vec (.ae [.arr .u8 64] th) 138,.map (.arr .u8 64) m,.own [.ptr 0 0] 26,.own [.ints .u64 16 met] 47,.own [.fn 41 [.ptr 8 0,.ptr 9 0]] 82,.own [.fn 62 [.ptr 4 0,.ptr 5 0,.ptr 6 0,.ptr 7 0]] 107,.own [.s (.str from_)] 9,.own [.vec 11] 29,.dead,.vec (.ae [.str,.str] out) 34,.own [.s (.bool (ke th m n deep)),.s (.ro (.ae [.str,.str] (bN th m n deep))),.s (.ro (.ae [.str,.int .i64] (aL th m n deep)))] 73] (.s (.aZ .i64 4))) (.need (bE (some [AV.s (.int .i64 n),.agg [.s (.bool (ke th m n deep)),.s (.ro (.ae [.str,.str] (bN th m n deep))),.s (.ro (.ae [.str,.int .i64] (aL th m n deep)))],.ptr 0 0,.ptr 1 0])) (.need (bE (some [ad.own [.s (.str from_)] 9,.own [.vec 2] 29,.vec (.ae [.str,.str] out) 34])) (.need ((bN th m n deep).length≤1000) (.need (out.length≤100000000) (.at (.mk (sl 51 [(1,.s (.int .i64 deep)),(5,.ptr 7 0),(35,.s (.ro (.ae [.str,.int .i64] (aL th m n deep)))),(36,.s (.int .i64 (↑(aL th m n deep).length:Int))),(37,.s (.int .i64 0))]) [.own [.ptr 1 0,.s (.int .i64 root),.ints .u64 16 fr,.ints .u64 16 fs,.ints .u64 16 gn] 70,.own [.vec 2,.ag 3,.s (.int .i64 fu)] 96,.vec (.ae [.arr .u8 64] th) 138,.map (.arr .u8 64) m,.own [.ptr 0 0] 26,.own [.ints .u64 16 (Bx.cO met n)] 47,.own [.fn 41 [.ptr 8 0,.ptr 9 0]] 82,.own [.fn 62 [.ptr 4 0,.ptr 5 0,.ptr 6 0,.ptr 7 0]] 107,.own [.s (.str from_)] 9,.own [.vec 11] 29,.dead,.vec (.ae [.str,.str] (out++List.filter (geE from_) (bN th m n deep))) 34] (hd Tryd.f62 9) (.mk none false 0 [] 0)))))))))))):=by kernel_rfl
theorem aoT(f:Nat)(th:Th)(m:As)(fu root:Int)(fr fs gn met:Ws)(from_:ByteArray)(out:List En)(bs:List Br)(deep i:Int):run P (aae f).sum Tryd.f62 afD (as6 th m fu root fr fs gn met from_ out bs deep i)=
 Tree.ite (decide (i<(↑bs.length:Int)))
 (.need ((0:Int)≤i)
   (.need (i<(↑bs.length:Int))
     (.need (aD (deep+1))
       (.need (bE (some [AV.s (.int .i64 (bs.getD i.toNat (CL.d [.str,.int .i64])).snd.fst),.s (.int .i64 (deep+1)),.ptr 4 0,.ptr 5 0,.ptr 6 0,.ptr 7 0]))
         (.need (bE (some [ad.own [.ptr 1 0,.s (.int .i64 root),.ints .u64 16 fr,.ints .u64 16 fs,.ints .u64 16 gn] 70,.own [.vec 2,.ag 3,.s (.int .i64 fu)] 96,.vec (.ae [.arr .u8 64] th) 138,.map (.arr .u8 64) m,.own [.ptr 0 0] 26,.own [.ints .u64 16 met] 47,.own [.fn 41 [.ptr 8 0,.ptr 9 0]] 82,.own [.fn 62 [.ptr 4 0,.ptr 5 0,.ptr 6 0,.ptr 7 0]] 107,.own [.s (.str from_)] 9,.own [.vec 10] 29,.vec (.ae [.str,.str] out) 34]))
           (.need (Ds.bM th m fu) (.need ((0:Int)≤(bs.getD i.toNat (CL.d [.str,.int .i64])).snd.fst∧(bs.getD i.toNat (CL.d [.str,.int .i64])).snd.fst≤65536) (.need ((1:Int)≤deep+1∧deep+1≤17) (.need ((18:Int)≤deep+1+(↑f:Int)) (.need (Bx.okW met) (.need (out.length≤(126:Nat)*gG met) (.ite (ang th m f (deep+1) met from_ out (bs.getD i.toNat (CL.d [.str,.int .i64])).snd.fst !=0) (.ret [.own [.ptr 1 0,.s (.int .i64 root),.ints .u64 16 fr,.ints .u64 16 fs,.ints .u64 16 gn] 70,.own [.vec 2,.ag 3,.s (.int .i64 fu)] 96,.vec (.ae [.arr .u8 64] th) 138,.map (.arr .u8 64) m,.own [.ptr 0 0] 26,.own [.ints .u64 16 (ane th m f (deep+1) met from_ out (bs.getD i.toNat (CL.d [.str,.int .i64])).snd.fst)] 47,.own [.fn 41 [.ptr 8 0,.ptr 9 0]] 82,.own [.fn 62 [.ptr 4 0,.ptr 5 0,.ptr 6 0,.ptr 7 0]] 107,.own [.s (.str from_)] 9,.own [.vec 13] 29,.dead,.dead,.own [.s (.str (bs.getD i.toNat (CL.d [.str,.int .i64])).fst),.s (.int .i64 (bs.getD i.toNat (CL.d [.str,.int .i64])).snd.fst)] 79,.vec (.ae [.str,.str] (anf th m f (deep+1) met from_ out (bs.getD i.toNat (CL.d [.str,.int .i64])).snd.fst)) 34] (.s (.int .i64 (ang th m f (deep+1) met from_ out (bs.getD i.toNat (CL.d [.str,.int .i64])).snd.fst)))) (.need (aD (i+1)) (.at (.mk (sl 51 [(1,.s (.int .i64 deep)),(5,.ptr 7 0),(35,.s (.ro (.ae [.str,.int .i64] bs))),(36,.s (.int .i64 (↑bs.length:Int))),(37,.s (.int .i64 (i+1)))]) [.own [.ptr 1 0,.s (.int .i64 root),.ints .u64 16 fr,.ints .u64 16 fs,.ints .u64 16 gn] 70,.own [.vec 2,.ag 3,.s (.int .i64 fu)] 96,.vec (.ae [.arr .u8 64] th) 138,.map (.arr .u8 64) m,.own [.ptr 0 0] 26,.own [.ints .u64 16 (ane th m f (deep+1) met from_ out (bs.getD i.toNat (CL.d [.str,.int .i64])).snd.fst)] 47,.own [.fn 41 [.ptr 8 0,.ptr 9 0]] 82,.own [.fn 62 [.ptr 4 0,.ptr 5 0,.ptr 6 0,.ptr 7 0]] 107,.own [.s (.str from_)] 9,.own [.vec 11] 29,.dead,.vec (.ae [.str,.str] (anf th m f (deep+1) met from_ out (bs.getD i.toNat (CL.d [.str,.int .i64])).snd.fst)) 34] (hd Tryd.f62 9) (.mk none false 0 [] 0))))))))))))))))
 (.ret [.own [.ptr 1 0,.s (.int .i64 root),.ints .u64 16 fr,.ints .u64 16 fs,.ints .u64 16 gn] 70,.own [.vec 2,.ag 3,.s (.int .i64 fu)] 96,.vec (.ae [.arr .u8 64] th) 138,.map (.arr .u8 64) m,.own [.ptr 0 0] 26,.own [.ints .u64 16 met] 47,.own [.fn 41 [.ptr 8 0,.ptr 9 0]] 82,.own [.fn 62 [.ptr 4 0,.ptr 5 0,.ptr 6 0,.ptr 7 0]] 107,.own [.s (.str from_)] 9,.own [.vec 11] 29,.dead,.vec (.ae [.str,.str] out) 34] (.s (.aZ .i64 0))):=by kernel_rfl
def ani(th:Th)(m:As)(f:Nat)(deep:Int)(met:Ws)(out:Ws)(n:Int):Ws:=(dC ou th m f deep met out n).1
def anj(th:Th)(m:As)(f:Nat)(deep:Int)(met:Ws)(out:Ws)(n:Int):Ws:=(dC ou th m f deep met out n).2.1
def ank(th:Th)(m:As)(f:Nat)(deep:Int)(met:Ws)(out:Ws)(n:Int):Int:=(dC ou th m f deep met out n).2.2
abbrev XVG:Type:=XT×Int×Int×Ws×Ws
abbrev hVG(th:Th)(m:As)(fu root:Int)(fr fs gn met:Ws):List ad:=hT th m fu root fr fs gn++[.own [.ptr 0 0] tT1,.own [.ints .u64 16 met] eSt,.own [.fn fG1 [.ptr 8 0]] tOn,.own [.fn fW1 [.ptr 4 0,.ptr 5 0,.ptr 6 0,.ptr 7 0]] tVi]
abbrev acj(f:Nat):Spec XVG:=⟨fun(_,n,deep,_)=>[bP n,bP deep,.ptr 4 0,.ptr 5 0,.ptr 6 0,.ptr 7 0],fun((th,m,fu,root,fr,fs,gn),_,_,met,out)=>hVG th m fu root fr fs gn met++[.own [.ints .u64 16 out] eSt],
 fun((th,m,fu,_),n,deep,met,out)=>[Ds.bM th m fu,0≤n∧n≤65536,1≤deep∧deep≤17,18≤deep+(f:Int),Bx.okW met,0≤0],
 fun((th,m,fu,root,fr,fs,gn),n,deep,met,out)=>hVG th m fu root fr fs gn (ani th m f deep met out n)++[.own [.ints .u64 16 (anj th m f deep met out n)] eSt],
 fun((th,m,_),n,deep,met,out)=>bP (ank th m f deep met out n)⟩
def anl:List AV→RM (XVG×List Nat)
 |[n,d,.ptr a 0,.ptr b 0,.ptr c 0,.ptr v 0]=>match n.dc,d.dc with
  |some (_,_,n),some (_,_,d)=>.look a fun o=>match o with
   |some (.own [.ptr t 0] _)=>(mT [.ptr t 0]).bind fun(X,σ)=>.look b fun o=>match o with
    |some (.own [.ints .u64 16 met] _)=>.look c fun o=>match o with
     |some (.own [.fn _ [.ptr p 0]] _)=>.look p fun o=>match o with
      |some (.own [.ints .u64 16 out] _)=>.ret ((X,n,d,met,out),σ++[a,b,c,v,p])
      |_=>.fail "visit: no set"
     |_=>.fail "visit: no on"
    |_=>.fail "visit: no set"
   |_=>.fail "visit: no tree"
  |_,_=>.fail "visit: no numbers"
 |_=>.fail "visit: arguments"
def aaf(f:Nat):aH:=[(37,yj),(35,amA),(43,abS),(fG1,dA sG1 mG1),(fW1,dA (acj f) anl)]
def afE:List (Nat×Norm):=[(9,⟨[],[1,5,35,36,37],9,[]⟩)]
noncomputable def as8(th:Th)(m:As)(fu root:Int)(fr fs gn met:Ws)(out:Ws)(bs:List Br)(deep i:Int):bC:=⟨sl 51 [(1,bP deep),(5,.ptr 7 0),(35,.s (.ro (.ae cB bs))),(36,bP (bs.length:Int)),(37,bP i)],hVG th m fu root fr fs gn met++[.own [.ints .u64 16 out] eSt],hd Tryd.f62 9,{}⟩
theorem as9(f:Nat)(th:Th)(m:As)(fu root:Int)(fr fs gn met:Ws)(out:Ws)(n deep:Int):run P (aaf f).sum Tryd.f62 afE (start Tryd.f62 [bP n,bP deep,.ptr 4 0,.ptr 5 0,.ptr 6 0,.ptr 7 0] (hVG th m fu root fr fs gn met++[.own [.ints .u64 16 out] eSt]))=
 Tree.need (bE (some [AV.ptr 0 0,.s (.int .i64 n),.s (.int .i64 deep)]))
 (.need (bE (some [ad.own [.ptr 1 0,.s (.int .i64 root),.ints .u64 16 fr,.ints .u64 16 fs,.ints .u64 16 gn] 70,.own [.vec 2,.ag 3,.s (.int .i64 fu)] 96,.vec (.ae [.arr .u8 64] th) 138,.map (.arr .u8 64) m]))
   (.need (Ds.bM th m fu) (.need (aD n) (.ite (fM th m n deep !=0) (.ret [.own [.ptr 1 0,.s (.int .i64 root),.ints .u64 16 fr,.ints .u64 16 fs,.ints .u64 16 gn] 70,.own [.vec 2,.ag 3,.s (.int .i64 fu)] 96,.vec (.ae [.arr .u8 64] th) 138,.map (.arr .u8 64) m,.own [.ptr 0 0] 26,.own [.ints .u64 16 met] 47,.own [.fn 42 [.ptr 8 0]] 82,.own [.fn 62 [.ptr 4 0,.ptr 5 0,.ptr 6 0,.ptr 7 0]] 107,.own [.ints .u64 16 out] 47,.own [.s (.bool (ke th m n deep)),.s (.ro (.ae [.str,.str] (bN th m n deep))),.s (.ro (.ae [.str,.int .i64] (aL th m n deep)))] 73] (.s (.int .i64 (fM th m n deep)))) (.ite (Bx.lO met n) (.ret [.own [.ptr 1 0,.s (.int .i64 root),.ints .u64 16 fr,.ints .u64 16 fs,.ints .u64 16 gn] 70,.own [.vec 2,.ag 3,.s (.int .i64 fu)] 96,.vec (.ae [.arr .u8 64] th) 138,.map (.arr .u8 64) m,.own [.ptr 0 0] 26,.own [.ints .u64 16 met] 47,.own [.fn 42 [.ptr 8 0]] 82,.own [.fn 62 [.ptr 4 0,.ptr 5 0,.ptr 6 0,.ptr 7 0]] 107,.own [.ints .u64 16 out] 47,.own [.s (.bool (ke th m n deep)),.s (.ro (.ae [.str,.str] (bN th m n deep))),.s (.ro (.ae [.str,.int .i64] (aL th m n deep)))] 73] (.s (.aZ .i64 4))) (.need (bE (some [AV.s (.int .i64 n),.agg [.s (.bool (ke th m n deep)),.s (.ro (.ae [.str,.str] (bN th m n deep))),.s (.ro (.ae [.str,.int .i64] (aL th m n deep)))],.ptr 0 0])) (.need (bE (some [ad.own [.ints .u64 16 out] 47])) (.at (.mk (sl 51 [(1,.s (.int .i64 deep)),(5,.ptr 7 0),(35,.s (.ro (.ae [.str,.int .i64] (aL th m n deep)))),(36,.s (.int .i64 (↑(aL th m n deep).length:Int))),(37,.s (.int .i64 0))]) [.own [.ptr 1 0,.s (.int .i64 root),.ints .u64 16 fr,.ints .u64 16 fs,.ints .u64 16 gn] 70,.own [.vec 2,.ag 3,.s (.int .i64 fu)] 96,.vec (.ae [.arr .u8 64] th) 138,.map (.arr .u8 64) m,.own [.ptr 0 0] 26,.own [.ints .u64 16 (Bx.cO met n)] 47,.own [.fn 42 [.ptr 8 0]] 82,.own [.fn 62 [.ptr 4 0,.ptr 5 0,.ptr 6 0,.ptr 7 0]] 107,.own [.ints .u64 16 (Bx.cO out n)] 47] (hd Tryd.f62 9) (.mk none false 0 [] 0)))))))))):=by kernel_rfl
theorem aoU(f:Nat)(th:Th)(m:As)(fu root:Int)(fr fs gn met:Ws)(out:Ws)(bs:List Br)(deep i:Int):run P (aaf f).sum Tryd.f62 afE (as8 th m fu root fr fs gn met out bs deep i)=
 Tree.ite (decide (i<(↑bs.length:Int)))
 (.need ((0:Int)≤i)
   (.need (i<(↑bs.length:Int))
     (.need (aD (deep+1))
       (.need (bE (some [AV.s (.int .i64 (bs.getD i.toNat (CL.d [.str,.int .i64])).snd.fst),.s (.int .i64 (deep+1)),.ptr 4 0,.ptr 5 0,.ptr 6 0,.ptr 7 0]))
         (.need (bE (some [ad.own [.ptr 1 0,.s (.int .i64 root),.ints .u64 16 fr,.ints .u64 16 fs,.ints .u64 16 gn] 70,.own [.vec 2,.ag 3,.s (.int .i64 fu)] 96,.vec (.ae [.arr .u8 64] th) 138,.map (.arr .u8 64) m,.own [.ptr 0 0] 26,.own [.ints .u64 16 met] 47,.own [.fn 42 [.ptr 8 0]] 82,.own [.fn 62 [.ptr 4 0,.ptr 5 0,.ptr 6 0,.ptr 7 0]] 107,.own [.ints .u64 16 out] 47]))
           (.need (Ds.bM th m fu) (.need ((0:Int)≤(bs.getD i.toNat (CL.d [.str,.int .i64])).snd.fst∧(bs.getD i.toNat (CL.d [.str,.int .i64])).snd.fst≤65536) (.need ((1:Int)≤deep+1∧deep+1≤17) (.need ((18:Int)≤deep+1+(↑f:Int)) (.need (Bx.okW met) (.need ((0:Nat)≤0) (.ite (ank th m f (deep+1) met out (bs.getD i.toNat (CL.d [.str,.int .i64])).snd.fst !=0) (.ret [.own [.ptr 1 0,.s (.int .i64 root),.ints .u64 16 fr,.ints .u64 16 fs,.ints .u64 16 gn] 70,.own [.vec 2,.ag 3,.s (.int .i64 fu)] 96,.vec (.ae [.arr .u8 64] th) 138,.map (.arr .u8 64) m,.own [.ptr 0 0] 26,.own [.ints .u64 16 (ani th m f (deep+1) met out (bs.getD i.toNat (CL.d [.str,.int .i64])).snd.fst)] 47,.own [.fn 42 [.ptr 8 0]] 82,.own [.fn 62 [.ptr 4 0,.ptr 5 0,.ptr 6 0,.ptr 7 0]] 107,.own [.ints .u64 16 (anj th m f (deep+1) met out (bs.getD i.toNat (CL.d [.str,.int .i64])).snd.fst)] 47,.own [.s (.str (bs.getD i.toNat (CL.d [.str,.int .i64])).fst),.s (.int .i64 (bs.getD i.toNat (CL.d [.str,.int .i64])).snd.fst)] 79] (.s (.int .i64 (ank th m f (deep+1) met out (bs.getD i.toNat (CL.d [.str,.int .i64])).snd.fst)))) (.need (aD (i+1)) (.at (.mk (sl 51 [(1,.s (.int .i64 deep)),(5,.ptr 7 0),(35,.s (.ro (.ae [.str,.int .i64] bs))),(36,.s (.int .i64 (↑bs.length:Int))),(37,.s (.int .i64 (i+1)))]) [.own [.ptr 1 0,.s (.int .i64 root),.ints .u64 16 fr,.ints .u64 16 fs,.ints .u64 16 gn] 70,.own [.vec 2,.ag 3,.s (.int .i64 fu)] 96,.vec (.ae [.arr .u8 64] th) 138,.map (.arr .u8 64) m,.own [.ptr 0 0] 26,.own [.ints .u64 16 (ani th m f (deep+1) met out (bs.getD i.toNat (CL.d [.str,.int .i64])).snd.fst)] 47,.own [.fn 42 [.ptr 8 0]] 82,.own [.fn 62 [.ptr 4 0,.ptr 5 0,.ptr 6 0,.ptr 7 0]] 107,.own [.ints .u64 16 (anj th m f (deep+1) met out (bs.getD i.toNat (CL.d [.str,.int .i64])).snd.fst)] 47] (hd Tryd.f62 9) (.mk none false 0 [] 0))))))))))))))))
 (.ret [.own [.ptr 1 0,.s (.int .i64 root),.ints .u64 16 fr,.ints .u64 16 fs,.ints .u64 16 gn] 70,.own [.vec 2,.ag 3,.s (.int .i64 fu)] 96,.vec (.ae [.arr .u8 64] th) 138,.map (.arr .u8 64) m,.own [.ptr 0 0] 26,.own [.ints .u64 16 met] 47,.own [.fn 42 [.ptr 8 0]] 82,.own [.fn 62 [.ptr 4 0,.ptr 5 0,.ptr 6 0,.ptr 7 0]] 107,.own [.ints .u64 16 out] 47] (.s (.aZ .i64 0))):=by kernel_rfl
theorem akq{ws:Ws}(hw:Bx.okW ws){n:Int}(hn:0≤n∧n<1024)(h:Bx.lO ws n=false):gG (Bx.cO ws n)=gG ws+1:=by
 have hb:Bx.bit ws n.toNat=false:=by
  rw[Bx.afq hw,decide_eq_true hn,Bool.true_and]at h;exact h
 obtain⟨_,h2⟩:=Bx.fU hw n
 unfold gG Bx.adQ
 have key:∀m,m≤1024→(Bx.fr (Bx.bit (Bx.cO ws n)) m).length=(Bx.fr (Bx.bit ws) m).length+(if n.toNat<m then 1 else 0):=by
  intro m
  induction m with
  |zero=>intro _;rfl
  |succ m ih=>
   intro hm
   rw[Bx.qF,Bx.qF,List.length_append,List.length_append,ih (by omega),h2 m (by omega)]
   have hd:decide (n=(m:Int))=decide (n.toNat=m):=by
    by_cases e:n.toNat=m
    ·rw[decide_eq_true e,decide_eq_true (by omega)]
    ·rw[decide_eq_false e,decide_eq_false (by omega)]
   rw[hd]
   by_cases e:n.toNat=m
   ·subst e
    have c1:¬n.toNat<n.toNat:=by omega
    have c2:n.toNat<n.toNat+1:=by omega
    rw[hb,decide_eq_true rfl,if_neg c1,if_pos c2]
    rfl
   ·rw[decide_eq_false e,Bool.or_false]
    by_cases e2:n.toNat<m
    ·have c2:n.toNat<m+1:=by omega
     rw[if_pos e2,if_pos c2];omega
    ·have c2:¬n.toNat<m+1:=by omega
     rw[if_neg e2,if_neg c2];omega
 have:=key 1024 (Nat.le_refl _)
 have c:n.toNat<1024:=by omega
 rw[this,if_pos c]
theorem aq1(ws:Ws):gG ws≤1024:=Bx.ahd _ _
theorem akr{th:Th}{m:As}{fu n deep:Int}(hd:Ds.bM th m fu)(h:fM th m n deep=0):0≤n∧n<1024:=by
 have hp:Ds.vg th n=true:=by
  unfold fM at h
  split at h
  ·cases h
  ·split at h
   ·rename_i hg
    unfold Ds.jo at hg
    split at hg
    ·assumption
    ·cases hg
   ·rename_i hg;exact absurd h hg
 obtain⟨a,b⟩:=Ds.fY.1 hp
 have:=hd.1.1
 unfold Ds.wz at b
 have e:((th.length:Int)).tdiv 4=(th.length:Int) / 4:=Int.tdiv_eq_ediv_of_nonneg (by omega)
 rw[e]at b
 omega
theorem wk{σ:Type}{g:Ws→σ→Int→Ws×σ×Int}{I:Ws→σ→Prop}(hg:∀met out n,I met out→I (g met out n).1 (g met out n).2.1):∀(l:List Br) (met:Ws) (out:σ),I met out→I (qU g l met out).1 (qU g l met out).2.1
 |[],met,out,h=>h
 |b::r,met,out,h=>by
  rw[qU]
  split
  ·exact hg _ _ _ h
  ·exact wk hg r _ _ (hg _ _ _ h)
theorem afF(from_:ByteArray){th:Th}{m:As}{fu n deep:Int}{met:Ws}{out:List En}(hd:Ds.bM th m fu)(h:fM th m n deep=0)(hw:Bx.okW met)(h3:Bx.lO met n=false)(ho:List.length (α:=En) out≤126*gG met):
 Bx.okW (Bx.cO met n)∧List.length (α:=En) (qV from_ out n (bN th m n deep))≤126*gG (Bx.cO met n):=by
 refine⟨(Bx.fU hw n).1, ?_⟩
 rw[akq hw (akr hd h) h3]
 unfold qV
 rw[List.length_append]
 have:=filter_le (geE from_) (bN th m n deep)
 obtain⟨_,n1,_⟩:=eH h
 omega
theorem afG(from_:ByteArray){th:Th}{m:As}{fu:Int}(hd:Ds.bM th m fu):∀(f:Nat) (deep:Int) (met:Ws) (out:List En) (n:Int),Bx.okW met→List.length (α:=En) out≤126*gG met→
 Bx.okW (dC (qV from_) th m f deep met out n).1∧List.length (α:=En) (dC (qV from_) th m f deep met out n).2.1≤126*gG (dC (qV from_) th m f deep met out n).1
 |0,deep,met,out,n,hw,ho=>⟨hw,ho⟩
 |f+1,deep,met,out,n,hw,ho=>by
  rw[dC]
  split
  ·exact⟨hw,ho⟩
  ·rename_i h
   split
   ·exact⟨hw,ho⟩
   ·rename_i h3
    have h3:Bx.lO met n=false:=by simpa using h3
    exact wk (I:=fun met out=>Bx.okW met∧List.length (α:=En) out≤126*gG met) (fun met out n hi=>afG from_ hd f (deep+1) met out n hi.1 hi.2) _ _ _ (afF from_ hd (by simpa using h) hw h3 ho)
theorem afH{th:Th}{m:As}{fu n deep:Int}{met:Ws}(hd:Ds.bM th m fu)(h:fM th m n deep=0)(hw:Bx.okW met)(h3:Bx.lO met n=false)(ho:0≤0):Bx.okW (Bx.cO met n)∧0≤0:=⟨(Bx.fU hw n).1,ho⟩
theorem afI{th:Th}{m:As}{fu:Int}(hd:Ds.bM th m fu):∀(f:Nat) (deep:Int) (met:Ws) (out:Ws) (n:Int),Bx.okW met→0≤0→Bx.okW (dC ou th m f deep met out n).1∧0≤0
 |0,deep,met,out,n,hw,ho=>⟨hw,ho⟩
 |f+1,deep,met,out,n,hw,ho=>by
  rw[dC]
  split
  ·exact⟨hw,ho⟩
  ·rename_i h
   split
   ·exact⟨hw,ho⟩
   ·rename_i h3
    have h3:Bx.lO met n=false:=by simpa using h3
    exact wk (I:=fun met out=>Bx.okW met∧0≤0) (fun met out n hi=>afI hd f (deep+1) met out n hi.1 hi.2) _ _ _ (afH hd (by simpa using h) hw h3 ho)
theorem ahp{Z:bd}:jA P Z 42 sG1:=by
 refine aO Tryd.func42 (by kernel_rfl) (fun x=>Nat.le_of_ble_eq_true (by kernel_rfl)) ?_
 rintro⟨(n:Int),⟨(l:Bool),(es:List En),(bs:List Br)⟩,(out:Ws)⟩ _ X hX hz
 exact Ds.eR hz hX (by intro y hy;cases hy) (aH.Ok.cons Bx.qB.sum aH.Ok.nil) Tryd.func42 (au6 n l es bs out) (bU 1 rfl (Nat.le_refl _) rfl rfl)
theorem fvL{th:Th}{m:As}{fu root:Int}{fr fs gn met:Ws}{from_:ByteArray}{out:List En}{n deep:Int}{f:Nat}{c:Ws×List En×Int}(e:dC (qV from_) th m f deep met out n=c):
 (aci f).fv ((th,m,fu,root,fr,fs,gn),n,deep,met,from_,out)=hVL th m fu root fr fs gn c.1++[tG from_,.own [.vec 11] eLE,.dead,.vec (.ae cE c.2.1) Lf.eE]∧(aci f).out ((th,m,fu,root,fr,fs,gn),n,deep,met,from_,out)=bP c.2.2:=by
 subst e;exact⟨rfl,rfl⟩
theorem ahq{f:Nat}(h:jA P Bx.bV fW1 (aci f)):(aae f).Ok P Bx.bV:=aH.Ok.cons (n9.sum mNo) (aH.Ok.cons Bx.zS.sum (aH.Ok.cons Bx.qB.sum (aH.Ok.cons (akp.sum mL1) (aH.Ok.cons (h.sum anh) aH.Ok.nil))))
theorem aks{L:List ad}(h:L.length=11):∀y∈afD,L.length≤y.2.m:=fun y hy=>by
 simp only[afD,List.mem_singleton]at hy;subst hy;exact Nat.le_of_eq h
theorem aoV{f:Nat}(T:(aae f).Ok P Bx.bV){th:Th}{m:As}{fu root:Int}{fr fs gn:Ws}{n deep:Int}{hY:Ws}{from_:ByteArray}{jf:List En}(hd:Ds.bM th m fu)(h1:1≤deep∧deep≤17)(h2:18≤deep+((f+1:Nat):Int))
 {X:Ctx} (hX:X.H=lk ((aci (f+1)).heap ((th,m,fu,root,fr,fs,gn),n,deep,hY,from_,jf))) (hz:dS Bx.bV X) (h:fM th m n deep=0):
 ∀(j k:Nat) (met:Ws) (out:List En),k+j=(aL th m n deep).length→Bx.okW met→List.length (α:=En) out≤126*gG met→dC (qV from_) th m (f+1) deep hY jf n=qU (dC (qV from_) th m f (deep+1)) ((aL th m n deep).drop k) met out→
    Safe P fW1 X (ko (aci (f+1)) ((th,m,fu,root,fr,fs,gn),n,deep,hY,from_,jf)) (as6 th m fu root fr fs gn met from_ out (aL th m n deep) deep (k:Int))
 |0,k,met,out,hk,hw,ho,e=>by
  rw[List.drop_of_length_le (by omega)]at e
  obtain⟨f1,f2⟩:=fvL (fu:=fu) (root:=root) (fr:=fr) (fs:=fs) (gn:=gn) e
  exact Ds.eR hz hX (aks rfl) T Tryd.func62 (aoT f th m fu root fr fs gn met from_ out (aL th m n deep) deep k) ⟨fun h=>absurd (of_decide_eq_true h) (by omega),fun _=>bU 11 rfl (Nat.le_refl _) f2 f1⟩
 |j+1,k,met,out,hk,hw,ho,e=>by
  obtain⟨_,_,n2,_,_,n5,_⟩:=eH h
  rw[drop_cons dB (by omega),qU]at e
  have pg:=rZ h k
  obtain⟨i1,i2⟩:=afG from_ hd f (deep+1) met out ((aL th m n deep).getD k dB).2.1 hw ho
  refine Ds.eR hz hX (aks rfl) T Tryd.func62 (aoT f th m fu root fr fs gn met from_ out (aL th m n deep) deep k) ⟨fun _=>⟨by omega,by omega,z7 (by omega) (by omega),rfl,rfl,hd,pg,⟨by omega,by omega⟩,by omega,hw,ho,fun h4=> ?_,fun h4=>⟨⟨by omega,by omega⟩, ?_⟩⟩,fun h=>absurd (of_decide_eq_false h) (by omega)⟩
  ·have h4:(dC (qV from_) th m f (deep+1) met out ((aL th m n deep).getD k dB).2.1).2.2≠0:=bne_iff_ne.1 h4
   rw[if_pos h4]at e
   obtain⟨f1,f2⟩:=fvL (fu:=fu) (root:=root) (fr:=fr) (fs:=fs) (gn:=gn) e
   exact bU 11 rfl (Nat.le_refl _) f2 f1
  ·have h4:¬(dC (qV from_) th m f (deep+1) met out ((aL th m n deep).getD k dB).2.1).2.2≠0:=fun hh=>Bool.false_ne_true (h4.symm.trans (bne_iff_ne.2 hh))
   rw[if_neg h4]at e
   exact aoV T hd h1 h2 hX hz h j (k+1) _ _ (by omega) i1 i2 e
theorem yt:∀f,jA P Bx.bV fW1 (aci f)
 |0=>by
  rintro⟨⟨(th:Th),(m:As),(fu:Int),(root:Int),(fr:Ws),(fs:Ws),(gn:Ws)⟩,(n:Int),(deep:Int),(met:Ws),(from_:ByteArray),(out:List En)⟩ ⟨_,_,(h1:1≤deep∧deep≤17),(h2:18≤deep+((0:Nat):Int)),_⟩
  omega
 |f+1=>by
  have T:=ahq (yt f)
  refine aO Tryd.func62 (by kernel_rfl) (fun x=>Nat.le_of_ble_eq_true (by kernel_rfl)) ?_
  rintro⟨⟨(th:Th),(m:As),(fu:Int),(root:Int),(fr:Ws),(fs:Ws),(gn:Ws)⟩,(n:Int),(deep:Int),(hY:Ws),(from_:ByteArray),(jf:List En)⟩ ⟨(hd:Ds.bM th m fu),(hn:0≤n∧n≤65536),(h1:1≤deep∧deep≤17),(h2:18≤deep+((f+1:Nat):Int)),(hw:Bx.okW hY),(ho:List.length (α:=En) jf≤126*gG hY),_⟩ X hX hz
  refine pH 10 (c:=start Tryd.f62 [bP n,bP deep,.ptr 4 0,.ptr 5 0,.ptr 6 0,.ptr 7 0] (hVL th m fu root fr fs gn hY++[tG from_,.own [.vec 11] eLE,.dead,.vec (.ae cE jf) Lf.eE])) rfl ?_
  refine Ds.eR hz hX (aks rfl) T Tryd.func62 (as7 f th m fu root fr fs gn hY from_ jf n deep) ⟨rfl,rfl,hd,z7 (by omega) (by omega),fun h=> ?_,fun h=>⟨fun h3=> ?_,fun h3=> ?_⟩⟩
  ·have h:fM th m n deep≠0:=by simpa using h
   obtain⟨f1,f2⟩:=fvL (fu:=fu) (root:=root) (fr:=fr) (fs:=fs) (gn:=gn) (show dC (qV from_) th m (f+1) deep hY jf n=(hY,jf,fM th m n deep)by rw[dC,if_pos h])
   exact bU 11 rfl (Nat.le_refl _) f2 f1
  ·have h:fM th m n deep=0:=by simpa using h
   obtain⟨f1,f2⟩:=fvL (fu:=fu) (root:=root) (fr:=fr) (fs:=fs) (gn:=gn) (show dC (qV from_) th m (f+1) deep hY jf n=(hY,jf,4)by rw[dC,if_neg (by rw[h];simp),if_pos h3])
   exact bU 11 rfl (Nat.le_refl _) f2 f1
  ·have h:fM th m n deep=0:=by simpa using h
   obtain⟨_,n1,n2,_,_,_,_⟩:=eH h
   have e:dC (qV from_) th m (f+1) deep hY jf n=qU (dC (qV from_) th m f (deep+1)) (aL th m n deep) (Bx.cO hY n) ((qV from_) jf n (bN th m n deep)):=by rw[dC,if_neg (by rw[h];simp),if_neg (by rw[h3];simp)]
   obtain⟨i1,i2⟩:=afF from_ hd h hw h3 ho
   exact⟨rfl,rfl,by omega,by have:=aq1 hY;omega,aoV T hd h1 h2 hX hz h _ 0 _ _ (Nat.zero_add _) i1 i2 (by rw[List.drop_zero];exact e)⟩
theorem fvG{th:Th}{m:As}{fu root:Int}{fr fs gn met:Ws}{out:Ws}{n deep:Int}{f:Nat}{c:Ws×Ws×Int}(e:dC ou th m f deep met out n=c):
 (acj f).fv ((th,m,fu,root,fr,fs,gn),n,deep,met,out)=hVG th m fu root fr fs gn c.1++[.own [.ints .u64 16 c.2.1] eSt]∧(acj f).out ((th,m,fu,root,fr,fs,gn),n,deep,met,out)=bP c.2.2:=by
 subst e;exact⟨rfl,rfl⟩
theorem ahr{f:Nat}(h:jA P Bx.bV fW1 (acj f)):(aaf f).Ok P Bx.bV:=aH.Ok.cons (n9.sum mNo) (aH.Ok.cons Bx.zS.sum (aH.Ok.cons Bx.qB.sum (aH.Ok.cons (ahp.sum mG1) (aH.Ok.cons (h.sum anl) aH.Ok.nil))))
theorem akt{L:List ad}(h:L.length=9):∀y∈afE,L.length≤y.2.m:=fun y hy=>by
 simp only[afE,List.mem_singleton]at hy;subst hy;exact Nat.le_of_eq h
theorem aoW{f:Nat}(T:(aaf f).Ok P Bx.bV){th:Th}{m:As}{fu root:Int}{fr fs gn:Ws}{n deep:Int}{hY:Ws}{jf:Ws}(hd:Ds.bM th m fu)(h1:1≤deep∧deep≤17)(h2:18≤deep+((f+1:Nat):Int))
 {X:Ctx} (hX:X.H=lk ((acj (f+1)).heap ((th,m,fu,root,fr,fs,gn),n,deep,hY,jf))) (hz:dS Bx.bV X) (h:fM th m n deep=0):
 ∀(j k:Nat) (met:Ws) (out:Ws),k+j=(aL th m n deep).length→Bx.okW met→0≤0→dC ou th m (f+1) deep hY jf n=qU (dC ou th m f (deep+1)) ((aL th m n deep).drop k) met out→
    Safe P fW1 X (ko (acj (f+1)) ((th,m,fu,root,fr,fs,gn),n,deep,hY,jf)) (as8 th m fu root fr fs gn met out (aL th m n deep) deep (k:Int))
 |0,k,met,out,hk,hw,ho,e=>by
  rw[List.drop_of_length_le (by omega)]at e
  obtain⟨f1,f2⟩:=fvG (fu:=fu) (root:=root) (fr:=fr) (fs:=fs) (gn:=gn) e
  exact Ds.eR hz hX (akt rfl) T Tryd.func62 (aoU f th m fu root fr fs gn met out (aL th m n deep) deep k) ⟨fun h=>absurd (of_decide_eq_true h) (by omega),fun _=>bU 9 rfl (Nat.le_refl _) f2 f1⟩
 |j+1,k,met,out,hk,hw,ho,e=>by
  obtain⟨_,_,n2,_,_,n5,_⟩:=eH h
  rw[drop_cons dB (by omega),qU]at e
  have pg:=rZ h k
  obtain⟨i1,i2⟩:=afI hd f (deep+1) met out ((aL th m n deep).getD k dB).2.1 hw ho
  refine Ds.eR hz hX (akt rfl) T Tryd.func62 (aoU f th m fu root fr fs gn met out (aL th m n deep) deep k) ⟨fun _=>⟨by omega,by omega,z7 (by omega) (by omega),rfl,rfl,hd,pg,⟨by omega,by omega⟩,by omega,hw,ho,fun h4=> ?_,fun h4=>⟨⟨by omega,by omega⟩, ?_⟩⟩,fun h=>absurd (of_decide_eq_false h) (by omega)⟩
  ·have h4:(dC ou th m f (deep+1) met out ((aL th m n deep).getD k dB).2.1).2.2≠0:=bne_iff_ne.1 h4
   rw[if_pos h4]at e
   obtain⟨f1,f2⟩:=fvG (fu:=fu) (root:=root) (fr:=fr) (fs:=fs) (gn:=gn) e
   exact bU 9 rfl (Nat.le_refl _) f2 f1
  ·have h4:¬(dC ou th m f (deep+1) met out ((aL th m n deep).getD k dB).2.1).2.2≠0:=fun hh=>Bool.false_ne_true (h4.symm.trans (bne_iff_ne.2 hh))
   rw[if_neg h4]at e
   exact aoW T hd h1 h2 hX hz h j (k+1) _ _ (by omega) i1 i2 e
theorem yu:∀f,jA P Bx.bV fW1 (acj f)
 |0=>by
  rintro⟨⟨(th:Th),(m:As),(fu:Int),(root:Int),(fr:Ws),(fs:Ws),(gn:Ws)⟩,(n:Int),(deep:Int),(met:Ws),(out:Ws)⟩ ⟨_,_,(h1:1≤deep∧deep≤17),(h2:18≤deep+((0:Nat):Int)),_⟩
  omega
 |f+1=>by
  have T:=ahr (yu f)
  refine aO Tryd.func62 (by kernel_rfl) (fun x=>Nat.le_of_ble_eq_true (by kernel_rfl)) ?_
  rintro⟨⟨(th:Th),(m:As),(fu:Int),(root:Int),(fr:Ws),(fs:Ws),(gn:Ws)⟩,(n:Int),(deep:Int),(hY:Ws),(jf:Ws)⟩ ⟨(hd:Ds.bM th m fu),(hn:0≤n∧n≤65536),(h1:1≤deep∧deep≤17),(h2:18≤deep+((f+1:Nat):Int)),(hw:Bx.okW hY),(ho:0≤0),_⟩ X hX hz
  refine Ds.eR hz hX (akt rfl) T Tryd.func62 (as9 f th m fu root fr fs gn hY jf n deep) ⟨rfl,rfl,hd,z7 (by omega) (by omega),fun h=> ?_,fun h=>⟨fun h3=> ?_,fun h3=> ?_⟩⟩
  ·have h:fM th m n deep≠0:=by simpa using h
   obtain⟨f1,f2⟩:=fvG (fu:=fu) (root:=root) (fr:=fr) (fs:=fs) (gn:=gn) (show dC ou th m (f+1) deep hY jf n=(hY,jf,fM th m n deep)by rw[dC,if_pos h])
   exact bU 9 rfl (Nat.le_refl _) f2 f1
  ·have h:fM th m n deep=0:=by simpa using h
   obtain⟨f1,f2⟩:=fvG (fu:=fu) (root:=root) (fr:=fr) (fs:=fs) (gn:=gn) (show dC ou th m (f+1) deep hY jf n=(hY,jf,4)by rw[dC,if_neg (by rw[h];simp),if_pos h3])
   exact bU 9 rfl (Nat.le_refl _) f2 f1
  ·have h:fM th m n deep=0:=by simpa using h
   obtain⟨_,n1,n2,_,_,_,_⟩:=eH h
   have e:dC ou th m (f+1) deep hY jf n=qU (dC ou th m f (deep+1)) (aL th m n deep) (Bx.cO hY n) (ou jf n (bN th m n deep)):=by rw[dC,if_neg (by rw[h];simp),if_neg (by rw[h3];simp)]
   obtain⟨i1,i2⟩:=afH hd h hw h3 ho
   exact⟨rfl,rfl,aoW T hd h1 h2 hX hz h _ 0 _ _ (Nat.zero_add _) i1 i2 (by rw[List.drop_zero];exact e)⟩
end Ts
namespace Ts
open Go Go.Sx Go.Proofs Lf
def yv{σ:Type}(on:σ→Int→List En→σ)(th:Th)(m:As)(root:Int)(out:σ):σ×Int:=if root=0 then(out,0)else((dC on th m 17 1 Bx.aP out root).2.1,(dC on th m 17 1 Bx.aP out root).2.2)
def lsT(th:Th)(m:As)(root:Int)(from_:ByteArray):List En:=(yv (qV from_) th m root []).1
def lsE(th:Th)(m:As)(root:Int)(from_:ByteArray):Int:=(yv (qV from_) th m root []).2
def pgT(th:Th)(m:As)(root:Int):Ws:=(yv ou th m root Bx.aP).1
def pgE(th:Th)(m:As)(root:Int):Int:=(yv ou th m root Bx.aP).2
def lsF(th:Th)(m:As)(root:Int)(from_:ByteArray):List En:=if lsE th m root from_≠0 then []else lsT th m root from_
def pgF(th:Th)(m:As)(root:Int):Ws:=if pgE th m root≠0 then Bx.aP else pgT th m root
abbrev anm:Spec XD:=⟨fun _=>[.ptr 0 0,.fn fL1 [.ptr 4 0,.ptr 5 0]],fun((th,m,fu,root,fr,fs,gn),from_)=>hT th m fu root fr fs gn++[tG from_,.own [.vec 6] eLE,.vec (.ae cE []) Lf.eE],
 fun((th,m,fu,root,_),_)=>[Ds.bM th m fu,0≤root∧root≤65536],fun((th,m,fu,root,fr,fs,gn),from_)=>hT th m fu root fr fs gn++[tG from_,.own [.vec 7] eLE,.dead,.vec (.ae cE (lsT th m root from_)) Lf.eE],fun((th,m,_,root,_),from_)=>bP (lsE th m root from_)⟩
abbrev ann:Spec XT:=⟨fun _=>[.ptr 0 0,.fn fG1 [.ptr 4 0]],fun(th,m,fu,root,fr,fs,gn)=>hT th m fu root fr fs gn++[.own [.ints .u64 16 Bx.aP] eSt],
 fun(th,m,fu,root,_)=>[Ds.bM th m fu,0≤root∧root≤65536],fun(th,m,fu,root,fr,fs,gn)=>hT th m fu root fr fs gn++[.own [.ints .u64 16 (pgT th m root)] eSt],fun(th,m,_,root,_)=>bP (pgE th m root)⟩
def aq2:aH:=[(fW1,dA (aci 17) anh)]
def aq3:aH:=[(fW1,dA (acj 17) anl)]
theorem ata(th:Th)(m:As)(fu root:Int)(fr fs gn:Ws)(from_:ByteArray):run P aq2.sum Tryd.f40 [] (start Tryd.f40 [.ptr 0 0,.fn fL1 [.ptr 4 0,.ptr 5 0]] (hT th m fu root fr fs gn++[tG from_,.own [.vec 7] eLE,.dead,.vec (.ae cE []) Lf.eE]))=
 Tree.ite (root==0) (.ret [.own [.ptr 1 0,.s (.int .i64 root),.ints .u64 16 fr,.ints .u64 16 fs,.ints .u64 16 gn] 70,.own [.vec 2,.ag 3,.s (.int .i64 fu)] 96,.vec (.ae [.arr .u8 64] th) 138,.map (.arr .u8 64) m,.own [.s (.str from_)] 9,.own [.vec 7] 29,.dead,.vec (.ae [.str,.str] []) 34,.own [.ptr 0 0] 26,.own [.fn 41 [.ptr 4 0,.ptr 5 0]] 82,.own [.ints .u64 16 (List.replicate 16 0)] 47,.own [.fn 62 [.ptr 8 0,.ptr 10 0,.ptr 9 0,.ptr 11 0]] 107] (.s (.aZ .i64 0))) (.need (bE (some [AV.s (.int .i64 root),.s (.int .i64 1),.ptr 4 0,.ptr 5 0,.ptr 6 0,.ptr 7 0])) (.need (bE (some [ad.own [.ptr 1 0,.s (.int .i64 root),.ints .u64 16 fr,.ints .u64 16 fs,.ints .u64 16 gn] 70,.own [.vec 2,.ag 3,.s (.int .i64 fu)] 96,.vec (.ae [.arr .u8 64] th) 138,.map (.arr .u8 64) m,.own [.ptr 0 0] 26,.own [.ints .u64 16 (List.replicate 16 0)] 47,.own [.fn 41 [.ptr 8 0,.ptr 9 0]] 82,.own [.fn 62 [.ptr 4 0,.ptr 5 0,.ptr 6 0,.ptr 7 0]] 107,.own [.s (.str from_)] 9,.own [.vec 10] 29,.vec (.ae [.str,.str] []) 34])) (.need (Ds.bM th m fu) (.need ((0:Int)≤root∧root≤65536) (.need ((1:Int)≤1∧(1:Int)≤17) (.need ((18:Int)≤1+(↑(17:Nat):Int)) (.need (Bx.okW (List.replicate 16 0)) (.need ((0:Nat)≤(126:Nat)*0) (.ret [.own [.ptr 1 0,.s (.int .i64 root),.ints .u64 16 fr,.ints .u64 16 fs,.ints .u64 16 gn] 70,.own [.vec 2,.ag 3,.s (.int .i64 fu)] 96,.vec (.ae [.arr .u8 64] th) 138,.map (.arr .u8 64) m,.own [.s (.str from_)] 9,.own [.vec 12] 29,.dead,.dead,.own [.ptr 0 0] 26,.own [.fn 41 [.ptr 4 0,.ptr 5 0]] 82,.own [.ints .u64 16 (ane th m 17 1 (List.replicate 16 0) from_ [] root)] 47,.own [.fn 62 [.ptr 8 0,.ptr 10 0,.ptr 9 0,.ptr 11 0]] 107,.vec (.ae [.str,.str] (anf th m 17 1 (List.replicate 16 0) from_ [] root)) 34] (.s (.int .i64 (ang th m 17 1 (List.replicate 16 0) from_ [] root)))))))))))):=by kernel_rfl
theorem atb(th:Th)(m:As)(fu root:Int)(fr fs gn:Ws):run P aq3.sum Tryd.f40 [] (start Tryd.f40 [.ptr 0 0,.fn fG1 [.ptr 4 0]] (hT th m fu root fr fs gn++[.own [.ints .u64 16 Bx.aP] eSt]))=
 Tree.ite (root==0) (.ret [.own [.ptr 1 0,.s (.int .i64 root),.ints .u64 16 fr,.ints .u64 16 fs,.ints .u64 16 gn] 70,.own [.vec 2,.ag 3,.s (.int .i64 fu)] 96,.vec (.ae [.arr .u8 64] th) 138,.map (.arr .u8 64) m,.own [.ints .u64 16 Bx.aP] 47,.own [.ptr 0 0] 26,.own [.fn 42 [.ptr 4 0]] 82,.own [.ints .u64 16 (List.replicate 16 0)] 47,.own [.fn 62 [.ptr 5 0,.ptr 7 0,.ptr 6 0,.ptr 8 0]] 107] (.s (.aZ .i64 0))) (.need (bE (some [AV.s (.int .i64 root),.s (.int .i64 1),.ptr 4 0,.ptr 5 0,.ptr 6 0,.ptr 7 0])) (.need (bE (some [ad.own [.ptr 1 0,.s (.int .i64 root),.ints .u64 16 fr,.ints .u64 16 fs,.ints .u64 16 gn] 70,.own [.vec 2,.ag 3,.s (.int .i64 fu)] 96,.vec (.ae [.arr .u8 64] th) 138,.map (.arr .u8 64) m,.own [.ptr 0 0] 26,.own [.ints .u64 16 (List.replicate 16 0)] 47,.own [.fn 42 [.ptr 8 0]] 82,.own [.fn 62 [.ptr 4 0,.ptr 5 0,.ptr 6 0,.ptr 7 0]] 107,.own [.ints .u64 16 Bx.aP] 47])) (.need (Ds.bM th m fu) (.need ((0:Int)≤root∧root≤65536) (.need ((1:Int)≤1∧(1:Int)≤17) (.need ((18:Int)≤1+(↑(17:Nat):Int)) (.need (Bx.okW (List.replicate 16 0)) (.need ((0:Nat)≤0) (.ret [.own [.ptr 1 0,.s (.int .i64 root),.ints .u64 16 fr,.ints .u64 16 fs,.ints .u64 16 gn] 70,.own [.vec 2,.ag 3,.s (.int .i64 fu)] 96,.vec (.ae [.arr .u8 64] th) 138,.map (.arr .u8 64) m,.own [.ints .u64 16 (anj th m 17 1 (List.replicate 16 0) Bx.aP root)] 47,.own [.ptr 0 0] 26,.own [.fn 42 [.ptr 4 0]] 82,.own [.ints .u64 16 (ani th m 17 1 (List.replicate 16 0) Bx.aP root)] 47,.own [.fn 62 [.ptr 5 0,.ptr 7 0,.ptr 6 0,.ptr 8 0]] 107] (.s (.int .i64 (ank th m 17 1 (List.replicate 16 0) Bx.aP root)))))))))))):=by kernel_rfl
abbrev sLs:Spec XD:=⟨fun(_,from_)=>[.ptr 0 0,.s (.str from_)],fun((th,m,fu,root,fr,fs,gn),_)=>hT th m fu root fr fs gn,fun((th,m,fu,root,_),_)=>[Ds.bM th m fu,0≤root∧root≤65536],
 fun((th,m,fu,root,fr,fs,gn),from_)=>hT th m fu root fr fs gn++[.vec (.ae cE (lsF th m root from_)) Lf.eE],fun((th,m,_,root,_),from_)=>.bm [.vec 4,bP (lsE th m root from_)]⟩
abbrev sPg:Spec XT:=⟨fun _=>[.ptr 0 0],fun(th,m,fu,root,fr,fs,gn)=>hT th m fu root fr fs gn,fun(th,m,fu,root,_)=>[Ds.bM th m fu,0≤root∧root≤65536],
 fun(th,m,fu,root,fr,fs,gn)=>hT th m fu root fr fs gn,fun(th,m,_,root,_)=>.bm [.ints .u64 16 (pgF th m root),bP (pgE th m root)]⟩
def atc:List AV→RM (XD×List Nat)
 |[t,.fn _ [.ptr p 0,.ptr q 0]]=>(mT [t]).bind fun(X,σ)=>.look p fun o=>match o with
  |some (.own [.s (.str from_)] _)=>.look q fun o=>match o with
   |some (.own [.vec r] _)=>.ret ((X,from_),σ++[p,q,r])
   |_=>.fail "no row"
  |_=>.fail "no text"
 |_=>.fail "walk"
def atd:List AV→RM (XT×List Nat)
 |[t,.fn _ [.ptr p 0]]=>(mT [t]).bind fun(X,σ)=>.ret (X,σ++[p])
 |_=>.fail "walk"
def aku:aH:=[(40,dA anm atc)]
def ate:aH:=[(40,dA ann atd)]
def ano:List (Nat×Norm):=[(4,⟨[],[0,3,6],4,[(5,0,false,.ae cE [],Lf.eE)]⟩)]
noncomputable def cLs(th:Th)(m:As)(fu root:Int)(fr fs gn:Ws)(from_:ByteArray):bC:=⟨sl 17 [(0,.ptr 0 0),(3,.ptr 4 0),(6,.ptr 5 0)],hT th m fu root fr fs gn++[tG from_,.own [.vec 6] eLE,.vec (.ae cE []) Lf.eE],hr Tryd.f12 4,{}⟩
theorem au7(th:Th)(m:As)(fu root:Int)(fr fs gn:Ws)(from_:ByteArray):run P aku.sum Tryd.f12 ano (start Tryd.f12 [.ptr 0 0,.s (.str from_)] (hT th m fu root fr fs gn))=
 Tree.at (.mk (sl 17 [(0,.ptr 0 0),(3,.ptr 4 0),(6,.ptr 5 0)]) [.own [.ptr 1 0,.s (.int .i64 root),.ints .u64 16 fr,.ints .u64 16 fs,.ints .u64 16 gn] 70,.own [.vec 2,.ag 3,.s (.int .i64 fu)] 96,.vec (.ae [.arr .u8 64] th) 138,.map (.arr .u8 64) m,.own [.s (.str from_)] 9,.own [.vec 6] 29,.vec (.ae [.str,.str] []) 34] (hr Tryd.f12 4) (.mk none false 0 [] 0)):=by kernel_rfl
theorem au8(th:Th)(m:As)(fu root:Int)(fr fs gn:Ws)(from_:ByteArray):run P aku.sum Tryd.f12 ano (cLs th m fu root fr fs gn from_)=
 Tree.need (bE (some [AV.ptr 0 0,.fn 41 [.ptr 4 0,.ptr 5 0]])) (.need (bE (some [ad.own [.ptr 1 0,.s (.int .i64 root),.ints .u64 16 fr,.ints .u64 16 fs,.ints .u64 16 gn] 70,.own [.vec 2,.ag 3,.s (.int .i64 fu)] 96,.vec (.ae [.arr .u8 64] th) 138,.map (.arr .u8 64) m,.own [.s (.str from_)] 9,.own [.vec 6] 29,.vec (.ae [.str,.str] []) 34])) (.need (Ds.bM th m fu) (.need ((0:Int)≤root∧root≤65536) (.ite (lsE th m root from_ !=0) (.ret [.own [.ptr 1 0,.s (.int .i64 root),.ints .u64 16 fr,.ints .u64 16 fs,.ints .u64 16 gn] 70,.own [.vec 2,.ag 3,.s (.int .i64 fu)] 96,.vec (.ae [.arr .u8 64] th) 138,.map (.arr .u8 64) m,.own [.s (.str from_)] 9,.own [.vec 7] 29,.dead,.vec (.ae [.str,.str] (lsT th m root from_)) 34] (.bm [.emp,.s (.int .i64 (lsE th m root from_))])) (.ret [.own [.ptr 1 0,.s (.int .i64 root),.ints .u64 16 fr,.ints .u64 16 fs,.ints .u64 16 gn] 70,.own [.vec 2,.ag 3,.s (.int .i64 fu)] 96,.vec (.ae [.arr .u8 64] th) 138,.map (.arr .u8 64) m,.own [.s (.str from_)] 9,.own [.vec 7] 29,.dead,.vec (.ae [.str,.str] (lsT th m root from_)) 34] (.bm [.vec 7,.s (.aZ .i64 0)])))))):=by kernel_rfl
theorem au9(th:Th)(m:As)(fu root:Int)(fr fs gn:Ws):run P ate.sum Tryd.f18 [] (start Tryd.f18 [.ptr 0 0] (hT th m fu root fr fs gn))=
 Tree.need (bE (some [AV.ptr 0 0,.fn 42 [.ptr 4 0]])) (.need (some [ad.own [.ptr 1 0,.s (.int .i64 root),.ints .u64 16 fr,.ints .u64 16 fs,.ints .u64 16 gn] 70,.own [.vec 2,.ag 3,.s (.int .i64 fu)] 96,.vec (.ae [.arr .u8 64] th) 138,.map (.arr .u8 64) m,.own [.ints .u64 16 (List.replicate 16 0)] 47]=some [ad.own [.ptr 1 0,.s (.int .i64 root),.ints .u64 16 fr,.ints .u64 16 fs,.ints .u64 16 gn] 70,.own [.vec 2,.ag 3,.s (.int .i64 fu)] 96,.vec (.ae [.arr .u8 64] th) 138,.map (.arr .u8 64) m,.own [.ints .u64 16 Bx.aP] 47]) (.need (Ds.bM th m fu) (.need ((0:Int)≤root∧root≤65536) (.ite (pgE th m root !=0) (.ret [.own [.ptr 1 0,.s (.int .i64 root),.ints .u64 16 fr,.ints .u64 16 fs,.ints .u64 16 gn] 70,.own [.vec 2,.ag 3,.s (.int .i64 fu)] 96,.vec (.ae [.arr .u8 64] th) 138,.map (.arr .u8 64) m,.own [.ints .u64 16 (List.replicate 16 0)] 47,.own [.ints .u64 16 (pgT th m root)] 47] (.bm [.ints .u64 16 (List.replicate 16 0),.s (.int .i64 (pgE th m root))])) (.ret [.own [.ptr 1 0,.s (.int .i64 root),.ints .u64 16 fr,.ints .u64 16 fs,.ints .u64 16 gn] 70,.own [.vec 2,.ag 3,.s (.int .i64 fu)] 96,.vec (.ae [.arr .u8 64] th) 138,.map (.arr .u8 64) m,.own [.ints .u64 16 (pgT th m root)] 47,.own [.ints .u64 16 (pgT th m root)] 47] (.bm [.ints .u64 16 (pgT th m root),.s (.aZ .i64 0)])))))):=by kernel_rfl
theorem akv{th:Th}{m:As}{fu root:Int}{fr fs gn:Ws}{from_:ByteArray}{c:List En×Int}(e:c=yv (qV from_) th m root []):
 anm.fv ((th,m,fu,root,fr,fs,gn),from_)=hT th m fu root fr fs gn++[tG from_,.own [.vec 7] eLE,.dead,.vec (.ae cE c.1) Lf.eE]∧anm.out ((th,m,fu,root,fr,fs,gn),from_)=bP c.2:=by
 subst e;exact⟨rfl,rfl⟩
theorem akw{th:Th}{m:As}{fu root:Int}{fr fs gn:Ws}{c:Ws×Int}(e:c=yv ou th m root Bx.aP):
 ann.fv (th,m,fu,root,fr,fs,gn)=hT th m fu root fr fs gn++[.own [.ints .u64 16 c.1] eSt]∧ann.out (th,m,fu,root,fr,fs,gn)=bP c.2:=by
 subst e;exact⟨rfl,rfl⟩
theorem akx:jA P Bx.bV 40 anm:=by
 refine aO Tryd.func40 (by kernel_rfl) (fun x=>Nat.le_of_ble_eq_true (by kernel_rfl)) ?_
 rintro⟨⟨(th:Th),(m:As),(fu:Int),(root:Int),(fr:Ws),(fs:Ws),(gn:Ws)⟩,(from_:ByteArray)⟩ ⟨(hd:Ds.bM th m fu),(hr:0≤root∧root≤65536),_⟩ X hX hz
 refine pH 6 (c:=start Tryd.f40 [.ptr 0 0,.fn fL1 [.ptr 4 0,.ptr 5 0]] (hT th m fu root fr fs gn++[tG from_,.own [.vec 7] eLE,.dead,.vec (.ae cE []) Lf.eE])) rfl ?_
 refine Ds.eR hz hX (by intro y hy;cases hy) (aH.Ok.cons ((yt 17).sum anh) aH.Ok.nil) Tryd.func40 (ata th m fu root fr fs gn from_) ⟨fun h=> ?_,fun h=>⟨rfl,rfl,hd,hr,⟨by omega,by omega⟩,by omega,Bx.eG.1,Nat.le_refl _, ?_⟩⟩
 ·have h:root=0:=by simpa using h
  obtain⟨f1,f2⟩:=akv (fu:=fu) (fr:=fr) (fs:=fs) (gn:=gn) (c:=([],0)) (show _=yv (qV from_) th m root []by unfold yv;rw[if_pos h])
  exact bU 7 rfl (Nat.le_refl _) f2 f1
 ·have h:¬root=0:=by simpa using h
  obtain⟨f1,f2⟩:=akv (fu:=fu) (fr:=fr) (fs:=fs) (gn:=gn) (c:=((dC (qV from_) th m 17 1 Bx.aP [] root).2.1,(dC (qV from_) th m 17 1 Bx.aP [] root).2.2)) (show _=yv (qV from_) th m root []by unfold yv;rw[if_neg h])
  exact bU 7 rfl (Nat.le_refl _) f2 f1
theorem aky:jA P Bx.bV 40 ann:=by
 refine aO Tryd.func40 (by kernel_rfl) (fun x=>Nat.le_of_ble_eq_true (by kernel_rfl)) ?_
 rintro⟨(th:Th),(m:As),(fu:Int),(root:Int),(fr:Ws),(fs:Ws),(gn:Ws)⟩ ⟨(hd:Ds.bM th m fu),(hr:0≤root∧root≤65536),_⟩ X hX hz
 refine Ds.eR hz hX (by intro y hy;cases hy) (aH.Ok.cons ((yu 17).sum anl) aH.Ok.nil) Tryd.func40 (atb th m fu root fr fs gn) ⟨fun h=> ?_,fun h=>⟨rfl,rfl,hd,hr,⟨by omega,by omega⟩,by omega,Bx.eG.1,Nat.le_refl _, ?_⟩⟩
 ·have h:root=0:=by simpa using h
  obtain⟨f1,f2⟩:=akw (fu:=fu) (fr:=fr) (fs:=fs) (gn:=gn) (c:=(Bx.aP,0)) (show _=yv ou th m root Bx.aP by unfold yv;rw[if_pos h])
  exact bU 5 rfl (Nat.le_refl _) f2 f1
 ·have h:¬root=0:=by simpa using h
  obtain⟨f1,f2⟩:=akw (fu:=fu) (fr:=fr) (fs:=fs) (gn:=gn) (c:=((dC ou th m 17 1 Bx.aP Bx.aP root).2.1,(dC ou th m 17 1 Bx.aP Bx.aP root).2.2)) (show _=yv ou th m root Bx.aP by unfold yv;rw[if_neg h])
  exact bU 5 rfl (Nat.le_refl _) f2 f1
theorem anp:jA P Bx.bV 12 sLs:=by
 refine fG Tryd.func12 (by kernel_rfl) (fun x=>Nat.le_of_ble_eq_true (by kernel_rfl)) ?_
 rintro⟨⟨(th:Th),(m:As),(fu:Int),(root:Int),(fr:Ws),(fs:Ws),(gn:Ws)⟩,(from_:ByteArray)⟩ ⟨(hd:Ds.bM th m fu),(hr:0≤root∧root≤65536),_⟩ X hX hz
 have hm:∀y∈ano,(hT th m fu root fr fs gn).length≤y.2.m:=fun y hy=>by
  simp only[ano,List.mem_singleton]at hy;subst hy;exact Nat.le_refl _
 have T:aku.Ok P Bx.bV:=aH.Ok.cons (akx.sum atc) aH.Ok.nil
 refine Ds.eR hz hX hm T Tryd.func12 (au7 th m fu root fr fs gn from_) ?_
 refine Ds.eR hz hX hm T Tryd.func12 (au8 th m fu root fr fs gn from_) ⟨rfl,rfl,hd,hr,fun h=> ?_,fun h=> ?_⟩
 ·have h:lsE th m root from_≠0:=bne_iff_ne.1 h
  refine kr (h:=hT th m fu root fr fs gn++[.vec (.ae cE []) Lf.eE]) ⟨[(0,.ae cE [],Lf.eE)],[0,1],4,[]⟩ rfl (Nat.le_refl _) (oL.same _) rfl ?_
  show hT th m fu root fr fs gn++[.vec (.ae cE (lsF th m root from_)) Lf.eE]=_
  unfold lsF
  rw[if_pos h];rfl
 ·have h:¬lsE th m root from_≠0:=fun hh=>Bool.false_ne_true (h.symm.trans (bne_iff_ne.2 hh))
  refine kr (h:=hT th m fu root fr fs gn++[.vec (.ae cE (lsT th m root from_)) Lf.eE]) ⟨[],[0,1],4,[]⟩ rfl (Nat.le_refl _) (oL.same _) ?_ ?_
  ·show AV.bm [.vec 4,bP (lsE th m root from_)]=_
   rw[show lsE th m root from_=0 from Decidable.byContradiction h];rfl
  ·show hT th m fu root fr fs gn++[.vec (.ae cE (lsF th m root from_)) Lf.eE]=_
   unfold lsF
   rw[if_neg h]
theorem akz:jA P Bx.bV 18 sPg:=by
 refine aO Tryd.func18 (by kernel_rfl) (fun x=>Nat.le_of_ble_eq_true (by kernel_rfl)) ?_
 rintro⟨(th:Th),(m:As),(fu:Int),(root:Int),(fr:Ws),(fs:Ws),(gn:Ws)⟩ ⟨(hd:Ds.bM th m fu),(hr:0≤root∧root≤65536),_⟩ X hX hz
 refine Ds.eR hz hX (by intro y hy;cases hy) (aH.Ok.cons (aky.sum atd) aH.Ok.nil) Tryd.func18 (au9 th m fu root fr fs gn) ⟨rfl,rfl,hd,hr,fun h=> ?_,fun h=> ?_⟩
 ·have h:pgE th m root≠0:=bne_iff_ne.1 h
  refine bU (h:=hT th m fu root fr fs gn) 4 rfl (Nat.le_refl _) ?_ rfl
  show AV.bm [.ints .u64 16 (pgF th m root),bP (pgE th m root)]=_
  unfold pgF
  rw[if_pos h];rfl
 ·have h:¬pgE th m root≠0:=fun hh=>Bool.false_ne_true (h.symm.trans (bne_iff_ne.2 hh))
  refine bU (h:=hT th m fu root fr fs gn) 4 rfl (Nat.le_refl _) ?_ rfl
  show AV.bm [.ints .u64 16 (pgF th m root),bP (pgE th m root)]=_
  unfold pgF
  rw[if_neg h,show pgE th m root=0 from Decidable.byContradiction h];rfl
end Ts
namespace Ts
open Go Go.Sx Go.Proofs Lf
def opF(th:Th)(free:Ws):Ws:=Bx.db .and free (Bx.db .andNot (Bx.b8 (Ds.wz th)) (Bx.b8 2))
abbrev XO:Type:=Th×As×Int×Int×Ws
abbrev sOp:Spec XO:=⟨fun(_,_,_,root,free)=>[.ptr 0 0,bP root,.ints .u64 16 free],fun(th,m,fu,_)=>Ds.hD th m fu,fun(th,m,fu,_)=>[Ds.bM th m fu],fun(th,m,fu,root,free)=>Ds.hD th m fu++[obT 0 root (opF th free) Bx.aP Bx.aP],fun _=>.ptr 3 0⟩
def mOp:List AV→RM (XO×List Nat)
 |[d,r,.ints .u64 16 free]=>(Ds.mAs [d]).bind fun((th,m,fu),σ)=>match r.dc with
  |some (_,_,root)=>.ret ((th,m,fu,root,free),σ)
  |none=>.fail "no root"
 |_=>.fail "open"
abbrev atf:=dA sOp mOp
abbrev atg:=dA Ds.sPn Ds.mAs
abbrev ath:=bY [Bx.bq] [Bx.dM] (fun _=>[]) (fun(n,())=>(Bx.b8 n,()))
abbrev ati:=bY [Bx.dM,Bx.dM] [Bx.dM] (fun _=>[]) (fun(a,b,())=>(Bx.db .andNot a b,()))
abbrev ava:=bY [Bx.dM,Bx.dM] [Bx.dM] (fun _=>[]) (fun(a,b,())=>(Bx.db .and a b,()))
def atj:aH:=[(45,atg),(29,ath),(23,ati),(44,ava)]
theorem avb(th:Th)(m:As)(fu root:Int)(free:Ws):run P atj.sum Tryd.f21 [] (start Tryd.f21 [.ptr 0 0,bP root,.ints .u64 16 free] (Ds.hD th m fu))=
 Tree.need (bE (some [AV.ptr 0 0])) (.need (bE (some [ad.own [.vec 1,.ag 2,.s (.int .i64 fu)] 96,.vec (.ae [.arr .u8 64] th) 138,.map (.arr .u8 64) m])) (.need (Ds.bM th m fu) (.ret [.own [.vec 1,.ag 2,.s (.int .i64 fu)] 96,.vec (.ae [.arr .u8 64] th) 138,.map (.arr .u8 64) m,.own [.ints .u64 16 free] 47,.own [.ptr 0 0,.s (.int .i64 root),.ints .u64 16 (Bx.db BinOp.and free (Bx.db BinOp.andNot (Bx.b8 (Ds.wz th)) (Bx.b8 2))),.ints .u64 16 (List.replicate 16 0),.ints .u64 16 (List.replicate 16 0)] 70] (.ptr 4 0)))):=by kernel_rfl
abbrev sRt:Spec XT:=⟨fun _=>[.ptr 0 0],fun(th,m,fu,root,fr,fs,gn)=>hT th m fu root fr fs gn,fun _=>[],fun(th,m,fu,root,fr,fs,gn)=>hT th m fu root fr fs gn,fun(_,_,_,root,_)=>bP root⟩
abbrev sFs:Spec XT:=⟨fun _=>[.ptr 0 0],fun(th,m,fu,root,fr,fs,gn)=>hT th m fu root fr fs gn,fun _=>[],fun(th,m,fu,root,fr,fs,gn)=>hT th m fu root fr fs gn,fun(_,_,_,_,_,fs,_)=>.ints .u64 16 fs⟩
abbrev sFr:Spec XT:=⟨fun _=>[.ptr 0 0],fun(th,m,fu,root,fr,fs,gn)=>hT th m fu root fr fs gn,fun _=>[],fun(th,m,fu,root,fr,fs,gn)=>hT th m fu root fr fs gn,fun(_,_,_,_,fr,_)=>.ints .u64 16 fr⟩
theorem avc(th:Th)(m:As)(fu root:Int)(fr fs gn:Ws):run P (aH.sum []) Tryd.f22 [] (start Tryd.f22 [.ptr 0 0] (hT th m fu root fr fs gn))=
 Tree.ret [.own [.ptr 1 0,.s (.int .i64 root),.ints .u64 16 fr,.ints .u64 16 fs,.ints .u64 16 gn] 70,.own [.vec 2,.ag 3,.s (.int .i64 fu)] 96,.vec (.ae [.arr .u8 64] th) 138,.map (.arr .u8 64) m] (.s (.int .i64 root)):=by kernel_rfl
theorem avd(th:Th)(m:As)(fu root:Int)(fr fs gn:Ws):run P (aH.sum []) Tryd.f19 [] (start Tryd.f19 [.ptr 0 0] (hT th m fu root fr fs gn))=
 Tree.ret [.own [.ptr 1 0,.s (.int .i64 root),.ints .u64 16 fr,.ints .u64 16 fs,.ints .u64 16 gn] 70,.own [.vec 2,.ag 3,.s (.int .i64 fu)] 96,.vec (.ae [.arr .u8 64] th) 138,.map (.arr .u8 64) m,.own [.ints .u64 16 fs] 47] (.ints .u64 16 fs):=by kernel_rfl
theorem ave(th:Th)(m:As)(fu root:Int)(fr fs gn:Ws):run P (aH.sum []) Tryd.f20 [] (start Tryd.f20 [.ptr 0 0] (hT th m fu root fr fs gn))=
 Tree.ret [.own [.ptr 1 0,.s (.int .i64 root),.ints .u64 16 fr,.ints .u64 16 fs,.ints .u64 16 gn] 70,.own [.vec 2,.ag 3,.s (.int .i64 fu)] 96,.vec (.ae [.arr .u8 64] th) 138,.map (.arr .u8 64) m,.own [.ints .u64 16 fr] 47] (.ints .u64 16 fr):=by kernel_rfl
def cF(n:Int):Th:=List.replicate n.toNat (CL.d Ds.cS)
def atk:aH:=[(21,atf),(29,ath)]
theorem avf(p:Int):run P atk.sum Tryd.f10 [] (start Tryd.f10 [bP p] []) (inl:=[31])=
 Tree.need (aD ((4:Int)*p)) (.ite (decide ((4:Int)*p<1)) (.ret [] (.bm [.s .oR,.s .oR])) (.ite (decide ((4:Int)*p>4096)) (.ret [] (.bm [.s .oR,.s .oR])) (.need ((0:Int)≤4*p) (.need ((4:Int)*p≤4*p) (.need ((4:Int)*p≤1073741824) (.need (bE (some [AV.ptr 0 0,.s (.int .i64 0),.ints .u64 16 (Bx.b8 p)])) (.need (bE (some [ad.own [.vec 1,.ag 2,.s (.int .i64 (-1))] 96,.vec (.ae [.arr .u8 64] (List.replicate ((4:Int)*p).toNat (CL.d [.arr .u8 64]))) 138,.map (.arr .u8 64) []])) (.need (Ds.bM (List.replicate ((4:Int)*p).toNat (CL.d [.arr .u8 64])) [] (-1)) (.ret [.vec (.ae [.arr .u8 64] (List.replicate ((4:Int)*p).toNat (CL.d [.arr .u8 64]))) 138,.map (.arr .u8 64) [],.own [.vec 0,.ag 1,.s (.int .i64 (-1))] 96,.own [.ptr 2 0,.s (.int .i64 0),.ints .u64 16 (opF (List.replicate ((4:Int)*p).toNat (CL.d [.arr .u8 64])) (Bx.b8 p)),.ints .u64 16 Bx.aP,.ints .u64 16 Bx.aP] 70] (.bm [.ptr 2 0,.ptr 3 0])))))))))):=by kernel_rfl
abbrev XH:Type:=XT×ByteArray×ByteArray
def akA(th:Th)(m:As)(root:Int)(key want:ByteArray):Bool:=(gtE th m root key==0)&&(gtB th m root key&&decide (gtV th m root key=want))
abbrev sHs:Spec XH:=⟨fun(_,key,want)=>[.ptr 0 0,.s (.str key),.s (.str want)],fun((th,m,fu,root,fr,fs,gn),_)=>hT th m fu root fr fs gn,fun((th,m,fu,root,_),_)=>[Ds.bM th m fu,0≤root∧root≤65536],fun((th,m,fu,root,fr,fs,gn),_)=>hT th m fu root fr fs gn,
 fun((th,m,_,root,_),key,want)=>.s (.bool (akA th m root key want))⟩
def mGt:List AV→RM (XD×List Nat)
 |[t,.s (.str key)]=>(mT [t]).bind fun(X,σ)=>.ret ((X,key),σ)
 |_=>.fail "get"
def mHs:List AV→RM (XH×List Nat)
 |[t,.s (.str key),.s (.str want)]=>(mT [t]).bind fun(X,σ)=>.ret ((X,key,want),σ)
 |_=>.fail "has"
def atl:aH:=[(11,dA akm mGt)]
theorem avg(th:Th)(m:As)(fu root:Int)(fr fs gn:Ws)(key want:ByteArray):run P atl.sum Tryd.f30 [] (start Tryd.f30 [.ptr 0 0,.s (.str key),.s (.str want)] (hT th m fu root fr fs gn))=
 Tree.need (bE (some [AV.ptr 0 0,.s (.str key)])) (.need (bE (some [ad.own [.ptr 1 0,.s (.int .i64 root),.ints .u64 16 fr,.ints .u64 16 fs,.ints .u64 16 gn] 70,.own [.vec 2,.ag 3,.s (.int .i64 fu)] 96,.vec (.ae [.arr .u8 64] th) 138,.map (.arr .u8 64) m])) (.need (Ds.bM th m fu) (.need ((0:Int)≤root∧root≤65536) (.ite (gtE th m root key==0) (.ite (gtB th m root key) (.ret [.own [.ptr 1 0,.s (.int .i64 root),.ints .u64 16 fr,.ints .u64 16 fs,.ints .u64 16 gn] 70,.own [.vec 2,.ag 3,.s (.int .i64 fu)] 96,.vec (.ae [.arr .u8 64] th) 138,.map (.arr .u8 64) m] (.s (.bool (decide (gtV th m root key=want))))) (.ret [.own [.ptr 1 0,.s (.int .i64 root),.ints .u64 16 fr,.ints .u64 16 fs,.ints .u64 16 gn] 70,.own [.vec 2,.ag 3,.s (.int .i64 fu)] 96,.vec (.ae [.arr .u8 64] th) 138,.map (.arr .u8 64) m] (.s (.aI false)))) (.ret [.own [.ptr 1 0,.s (.int .i64 root),.ints .u64 16 fr,.ints .u64 16 fs,.ints .u64 16 gn] 70,.own [.vec 2,.ag 3,.s (.int .i64 fu)] 96,.vec (.ae [.arr .u8 64] th) 138,.map (.arr .u8 64) m] (.s (.aI false))))))):=by kernel_rfl
abbrev sMd:Spec Int:=⟨fun p=>[bP p],fun _=>[],fun p=>[3≤p∧p≤250],fun p=>[Ds.obD 2 3 (-1),obT 0 0 (opF (cF (4*p)) (Bx.b8 p)) Bx.aP Bx.aP,.vec (.ae Ds.cS (cF (4*p))) Ds.eS,.map Ds.kS []],fun _=>.bm [.ptr 0 0,.ptr 1 0]⟩
theorem anq{Z:bd}:jA P Z 21 sOp:=by
 refine aO Tryd.func21 (by kernel_rfl) (fun x=>Nat.le_of_ble_eq_true (by kernel_rfl)) ?_
 rintro⟨(th:Th),(m:As),(fu:Int),(root:Int),(free:Ws)⟩ ⟨(hd:Ds.bM th m fu),_⟩ X hX hz
 exact Ds.eR hz hX (by intro y hy;cases hy) (aH.Ok.cons (Ds.ar9.sum Ds.mAs) (aH.Ok.cons Bx.vL.sum (aH.Ok.cons Bx.afp.sum (aH.Ok.cons Bx.amm.sum aH.Ok.nil)))) Tryd.func21 (avb th m fu root free) ⟨rfl,rfl,hd,bU 3 rfl (Nat.le_refl _) rfl rfl⟩
theorem afJ{Z:bd}:jA P Z 22 sRt:=by
 refine aO Tryd.func22 (by kernel_rfl) (fun x=>Nat.le_of_ble_eq_true (by kernel_rfl)) ?_
 rintro⟨(th:Th),(m:As),(fu:Int),(root:Int),(fr:Ws),(fs:Ws),(gn:Ws)⟩ _ X hX hz
 exact Ds.eR hz hX (by intro y hy;cases hy) aH.Ok.nil Tryd.func22 (avc th m fu root fr fs gn) (bU 4 rfl (Nat.le_refl _) rfl rfl)
theorem akB{Z:bd}:jA P Z 19 sFs:=by
 refine aO Tryd.func19 (by kernel_rfl) (fun x=>Nat.le_of_ble_eq_true (by kernel_rfl)) ?_
 rintro⟨(th:Th),(m:As),(fu:Int),(root:Int),(fr:Ws),(fs:Ws),(gn:Ws)⟩ _ X hX hz
 exact Ds.eR hz hX (by intro y hy;cases hy) aH.Ok.nil Tryd.func19 (avd th m fu root fr fs gn) (bU 4 rfl (Nat.le_refl _) rfl rfl)
theorem afK{Z:bd}:jA P Z 20 sFr:=by
 refine aO Tryd.func20 (by kernel_rfl) (fun x=>Nat.le_of_ble_eq_true (by kernel_rfl)) ?_
 rintro⟨(th:Th),(m:As),(fu:Int),(root:Int),(fr:Ws),(fs:Ws),(gn:Ws)⟩ _ X hX hz
 exact Ds.eR hz hX (by intro y hy;cases hy) aH.Ok.nil Tryd.func20 (ave th m fu root fr fs gn) (bU 4 rfl (Nat.le_refl _) rfl rfl)
theorem afL{Z:bd}:jA P Z 10 sMd:=by
 refine aO Tryd.func10 (by kernel_rfl) (fun x=>Nat.le_of_ble_eq_true (by kernel_rfl)) ?_
 rintro(p:Int) ⟨(hp:3≤p∧p≤250),_⟩ X hX hz
 refine Ds.eR hz hX (by intro y hy;cases hy) (aH.Ok.cons (anq.sum mOp) (aH.Ok.cons Bx.vL.sum aH.Ok.nil)) Tryd.func10 (avf p) ⟨z7 (by omega) (by omega),fun h=> ?_,fun h=>⟨fun h2=> ?_,fun h2=>⟨by omega,by omega,by omega,rfl,rfl, ?_, ?_⟩⟩⟩
 ·have:=of_decide_eq_true h;omega
 ·have:=of_decide_eq_true h2;omega
 ·exact Ds.aiS (by omega)
 ·exact bU 0 rfl (Nat.le_refl _) rfl rfl
theorem ack{Z:bd}:jA P Z 30 sHs:=by
 refine aO Tryd.func30 (by kernel_rfl) (fun x=>Nat.le_of_ble_eq_true (by kernel_rfl)) ?_
 rintro⟨⟨(th:Th),(m:As),(fu:Int),(root:Int),(fr:Ws),(fs:Ws),(gn:Ws)⟩,(key:ByteArray),(want:ByteArray)⟩ ⟨(hd:Ds.bM th m fu),(hr:0≤root∧root≤65536),_⟩ X hX hz
 have fin:∀b,akA th m root key want=b→sHs.out ((th,m,fu,root,fr,fs,gn),key,want)=.s (.bool b):=fun b e=>by subst e;rfl
 refine Ds.eR hz hX (by intro y hy;cases hy) (aH.Ok.cons (aq0.sum mGt) aH.Ok.nil) Tryd.func30 (avg th m fu root fr fs gn key want) ⟨rfl,rfl,hd,hr,fun h=>⟨fun h2=> ?_,fun h2=> ?_⟩,fun h=> ?_⟩
 ·exact bU 4 rfl (Nat.le_refl _) (fin _ (by unfold akA;rw[h,h2];rfl)) rfl
 ·exact bU 4 rfl (Nat.le_refl _) (fin _ (by unfold akA;rw[h,h2];rfl)) rfl
 ·exact bU 4 rfl (Nat.le_refl _) (fin _ (by unfold akA;rw[h];rfl)) rfl
end Ts
namespace Ts
open Go Go.Sx Go.Proofs Lf
def mPt:List AV→RM (XK×List Nat)
 |[t,.s (.str key),.s (.str val)]=>(mT [t]).bind fun(X,σ)=>.ret ((X,key,val),σ)
 |_=>.fail "put"
abbrev akC:=dA akk mPt
abbrev ad5:=dA akl mGt
abbrev atm:=dA sHs mHs
abbrev aoX:=dA sRt mT
abbrev atn:=dA sFs mT
abbrev aoY:=dA sFr mT
def mMd:List AV→RM (Int×List Nat)
 |[p]=>match p.dc with
  |some (_,_,p)=>.ret (p,[])
  |none=>.fail "made"
 |_=>.fail "made"
abbrev aoZ:=dA sMd mMd
def lS:aH:=[(10,aoZ),(24,akC),(25,ad5),(30,atm),(22,aoX),(20,aoY),(35,amA)]
def tj:List (Nat×Norm):=[(jd+2004,⟨[],[0,2,9,10],0,[]⟩),(jd+2009,⟨[],[0,2,14,15],0,[]⟩),(jd+2014,⟨[],[0,2,19,20],0,[]⟩),(jd+2019,⟨[],[0,2,24,25],0,[]⟩),(jd+2024,⟨[],[0,2,29,30],0,[]⟩),(jd+2029,⟨[],[0,2,34,35],0,[]⟩),(jd+2035,⟨[],[0,2,40,41],0,[]⟩),(jd+2040,⟨[],[0,2,45,46],0,[]⟩),(jd+2045,⟨[],[0,2,50,51],0,[]⟩),(jd+2050,⟨[],[0,2,55,56],0,[]⟩),(jd+4001,⟨[],[0,60],0,[]⟩)]
noncomputable def ato:bC:=Sx.start Tryd.f8 [] []
theorem atp:run (P) (lS.sum) (Tryd.f8) (tj) ato ([])=
 Tree.need (bE (some [AV.s (.int .i64 8)])) (.need aiJ (.need ((3:Int)≤8∧(8:Int)≤250) (.at (.mk (sl 63 [(0,.s (.bool false)),(2,.ptr 0 0),(9,.s (.bool false)),(10,.ptr 0 0)]) [.own [.ptr 1 0,.s (.int .i64 0),.ints .u64 16 (opF (cF ((4:Int)*8)) (Bx.b8 8)),.ints .u64 16 Bx.aP,.ints .u64 16 Bx.aP] 70,.own [.vec 2,.ag 3,.s (.int .i64 (-1))] 96,.vec (.ae [.arr .u8 64] (cF ((4:Int)*8))) 138,.map (.arr .u8 64) []] (wy Tryd.f8 2 4) (.mk none false 0 [] 2))))):=by kernel_rfl
noncomputable def gY:Ws:=opF (cF ((4:Int)*(8:Int))) (Bx.b8 (8:Int))
noncomputable def atq:bC:=bC.mk (sl 63 [(0,.s (.bool false)),(2,.ptr 0 0),(9,.s (.bool false)),(10,.ptr 0 0)]) [.own [.ptr 1 0,.s (.int .i64 0),.ints .u64 16 gY,.ints .u64 16 Bx.aP,.ints .u64 16 Bx.aP] 70,.own [.vec 2,.ag 3,.s (.int .i64 (-1))] 96,.vec (.ae [.arr .u8 64] (cF ((4:Int)*8))) 138,.map (.arr .u8 64) []] (wy Tryd.f8 2 4) (.mk none false 0 [] 2)
theorem atr:run (P) (lS.sum) (Tryd.f8) (tj) atq ([])=
 Tree.ite false (.ret [.own [.ptr 1 0,.s (.int .i64 0),.ints .u64 16 gY,.ints .u64 16 Bx.aP,.ints .u64 16 Bx.aP] 70,.own [.vec 2,.ag 3,.s (.int .i64 (-1))] 96,.vec (.ae [.arr .u8 64] (cF ((4:Int)*8))) 138,.map (.arr .u8 64) []] (.s (.aI false))) (.need (bE (some [AV.ptr 0 0,.s (.str (ByteArray.mk #[(97:UInt8)])),.s (.str (ByteArray.mk #[(49:UInt8)]))])) (.need (bE (some [ad.own [.ptr 1 0,.s (.int .i64 0),.ints .u64 16 gY,.ints .u64 16 Bx.aP,.ints .u64 16 Bx.aP] 70,.own [.vec 2,.ag 3,.s (.int .i64 (-1))] 96,.vec (.ae [.arr .u8 64] (cF ((4:Int)*8))) 138,.map (.arr .u8 64) []])) (.need (Ds.bM (cF ((4:Int)*8)) [] (-1)) (.need (Bx.okW gY) (.need ((0:Int)≤0∧(0:Int)≤65536) (.ite false (.ret [.own [.ptr 1 0,.s (.int .i64 2),.ints .u64 16 (sW (cF ((4:Int)*8)) (ByteArray.mk #[(97:UInt8)]) (some (ByteArray.mk #[(49:UInt8)])) [] (-1) 0 gY Bx.aP Bx.aP),.ints .u64 16 (sX (cF ((4:Int)*8)) (ByteArray.mk #[(97:UInt8)]) (some (ByteArray.mk #[(49:UInt8)])) [] (-1) 0 gY Bx.aP Bx.aP),.ints .u64 16 (sY (cF ((4:Int)*8)) (ByteArray.mk #[(97:UInt8)]) (some (ByteArray.mk #[(49:UInt8)])) [] (-1) 0 gY Bx.aP Bx.aP)] 70,.own [.vec 2,.ag 3,.s (.int .i64 (sV (cF ((4:Int)*8)) (ByteArray.mk #[(97:UInt8)]) (some (ByteArray.mk #[(49:UInt8)])) [] (-1) 0 gY Bx.aP Bx.aP))] 96,.vec (.ae [.arr .u8 64] (cF ((4:Int)*8))) 138,.map (.arr .u8 64) (sU (cF ((4:Int)*8)) (ByteArray.mk #[(97:UInt8)]) (some (ByteArray.mk #[(49:UInt8)])) [] (-1) 0 gY Bx.aP Bx.aP)] (.s (.aI false))) (.at (.mk (sl 63 [(0,.s (.bool false)),(2,.ptr 0 0),(14,.s (.bool false)),(15,.ptr 0 0)]) [.own [.ptr 1 0,.s (.int .i64 2),.ints .u64 16 (sW (cF ((4:Int)*8)) (ByteArray.mk #[(97:UInt8)]) (some (ByteArray.mk #[(49:UInt8)])) [] (-1) 0 gY Bx.aP Bx.aP),.ints .u64 16 (sX (cF ((4:Int)*8)) (ByteArray.mk #[(97:UInt8)]) (some (ByteArray.mk #[(49:UInt8)])) [] (-1) 0 gY Bx.aP Bx.aP),.ints .u64 16 (sY (cF ((4:Int)*8)) (ByteArray.mk #[(97:UInt8)]) (some (ByteArray.mk #[(49:UInt8)])) [] (-1) 0 gY Bx.aP Bx.aP)] 70,.own [.vec 2,.ag 3,.s (.int .i64 (sV (cF ((4:Int)*8)) (ByteArray.mk #[(97:UInt8)]) (some (ByteArray.mk #[(49:UInt8)])) [] (-1) 0 gY Bx.aP Bx.aP))] 96,.vec (.ae [.arr .u8 64] (cF ((4:Int)*8))) 138,.map (.arr .u8 64) (sU (cF ((4:Int)*8)) (ByteArray.mk #[(97:UInt8)]) (some (ByteArray.mk #[(49:UInt8)])) [] (-1) 0 gY Bx.aP Bx.aP)] (wy Tryd.f8 2 9) (.mk none false 0 [] 2))))))))):=by kernel_rfl
noncomputable def dV:Ws:=sW (cF ((4:Int)*(8:Int))) (ByteArray.mk #[(97:UInt8)]) (some (ByteArray.mk #[(49:UInt8)])) [] (-1:Int) (0:Int) gY Bx.aP Bx.aP
noncomputable def dZ:Ws:=sX (cF ((4:Int)*(8:Int))) (ByteArray.mk #[(97:UInt8)]) (some (ByteArray.mk #[(49:UInt8)])) [] (-1:Int) (0:Int) gY Bx.aP Bx.aP
noncomputable def eb:Ws:=sY (cF ((4:Int)*(8:Int))) (ByteArray.mk #[(97:UInt8)]) (some (ByteArray.mk #[(49:UInt8)])) [] (-1:Int) (0:Int) gY Bx.aP Bx.aP
noncomputable def dP:Int:=sV (cF ((4:Int)*(8:Int))) (ByteArray.mk #[(97:UInt8)]) (some (ByteArray.mk #[(49:UInt8)])) [] (-1:Int) (0:Int) gY Bx.aP Bx.aP
noncomputable def dQ:As:=sU (cF ((4:Int)*(8:Int))) (ByteArray.mk #[(97:UInt8)]) (some (ByteArray.mk #[(49:UInt8)])) [] (-1:Int) (0:Int) gY Bx.aP Bx.aP
noncomputable def ats:bC:=bC.mk (sl 63 [(0,.s (.bool false)),(2,.ptr 0 0),(14,.s (.bool false)),(15,.ptr 0 0)]) [.own [.ptr 1 0,.s (.int .i64 2),.ints .u64 16 dV,.ints .u64 16 dZ,.ints .u64 16 eb] 70,.own [.vec 2,.ag 3,.s (.int .i64 dP)] 96,.vec (.ae [.arr .u8 64] (cF ((4:Int)*8))) 138,.map (.arr .u8 64) dQ] (wy Tryd.f8 2 9) (.mk none false 0 [] 2)
theorem att:run (P) (lS.sum) (Tryd.f8) (tj) ats ([])=
 Tree.ite false (.ret [.own [.ptr 1 0,.s (.int .i64 2),.ints .u64 16 dV,.ints .u64 16 dZ,.ints .u64 16 eb] 70,.own [.vec 2,.ag 3,.s (.int .i64 dP)] 96,.vec (.ae [.arr .u8 64] (cF ((4:Int)*8))) 138,.map (.arr .u8 64) dQ] (.s (.aI false))) (.need (bE (some [AV.ptr 0 0])) (.need (bE (some [ad.own [.ptr 1 0,.s (.int .i64 2),.ints .u64 16 dV,.ints .u64 16 dZ,.ints .u64 16 eb] 70,.own [.vec 2,.ag 3,.s (.int .i64 dP)] 96,.vec (.ae [.arr .u8 64] (cF ((4:Int)*8))) 138,.map (.arr .u8 64) dQ])) (.ite false (.ret [.own [.ptr 1 0,.s (.int .i64 2),.ints .u64 16 dV,.ints .u64 16 dZ,.ints .u64 16 eb] 70,.own [.vec 2,.ag 3,.s (.int .i64 dP)] 96,.vec (.ae [.arr .u8 64] (cF ((4:Int)*8))) 138,.map (.arr .u8 64) dQ] (.s (.aI false))) (.at (.mk (sl 63 [(0,.s (.bool false)),(2,.ptr 0 0),(19,.s (.bool false)),(20,.ptr 0 0)]) [.own [.ptr 1 0,.s (.int .i64 2),.ints .u64 16 dV,.ints .u64 16 dZ,.ints .u64 16 eb] 70,.own [.vec 2,.ag 3,.s (.int .i64 dP)] 96,.vec (.ae [.arr .u8 64] (cF ((4:Int)*8))) 138,.map (.arr .u8 64) dQ] (wy Tryd.f8 2 14) (.mk none false 0 [] 2)))))):=by kernel_rfl
noncomputable def atu:bC:=bC.mk (sl 63 [(0,.s (.bool false)),(2,.ptr 0 0),(19,.s (.bool false)),(20,.ptr 0 0)]) [.own [.ptr 1 0,.s (.int .i64 2),.ints .u64 16 dV,.ints .u64 16 dZ,.ints .u64 16 eb] 70,.own [.vec 2,.ag 3,.s (.int .i64 dP)] 96,.vec (.ae [.arr .u8 64] (cF ((4:Int)*8))) 138,.map (.arr .u8 64) dQ] (wy Tryd.f8 2 14) (.mk none false 0 [] 2)
theorem atv:run (P) (lS.sum) (Tryd.f8) (tj) atu ([])=
 Tree.ite false (.ret [.own [.ptr 1 0,.s (.int .i64 2),.ints .u64 16 dV,.ints .u64 16 dZ,.ints .u64 16 eb] 70,.own [.vec 2,.ag 3,.s (.int .i64 dP)] 96,.vec (.ae [.arr .u8 64] (cF ((4:Int)*8))) 138,.map (.arr .u8 64) dQ] (.s (.aI false))) (.need (bE (some [AV.ptr 0 0,.s (.str (ByteArray.mk #[(97:UInt8)])),.s (.str (ByteArray.mk #[(49:UInt8)]))])) (.need (bE (some [ad.own [.ptr 1 0,.s (.int .i64 2),.ints .u64 16 dV,.ints .u64 16 dZ,.ints .u64 16 eb] 70,.own [.vec 2,.ag 3,.s (.int .i64 dP)] 96,.vec (.ae [.arr .u8 64] (cF ((4:Int)*8))) 138,.map (.arr .u8 64) dQ])) (.need (Ds.bM (cF ((4:Int)*8)) dQ dP) (.need ((0:Int)≤2∧(2:Int)≤65536) (.ite false (.ret [.own [.ptr 1 0,.s (.int .i64 2),.ints .u64 16 dV,.ints .u64 16 dZ,.ints .u64 16 eb] 70,.own [.vec 2,.ag 3,.s (.int .i64 dP)] 96,.vec (.ae [.arr .u8 64] (cF ((4:Int)*8))) 138,.map (.arr .u8 64) dQ] (.s (.aI false))) (.at (.mk (sl 63 [(0,.s (.bool false)),(2,.ptr 0 0),(24,.s (.bool false)),(25,.ptr 0 0)]) [.own [.ptr 1 0,.s (.int .i64 2),.ints .u64 16 dV,.ints .u64 16 dZ,.ints .u64 16 eb] 70,.own [.vec 2,.ag 3,.s (.int .i64 dP)] 96,.vec (.ae [.arr .u8 64] (cF ((4:Int)*8))) 138,.map (.arr .u8 64) dQ] (wy Tryd.f8 2 19) (.mk none false 0 [] 2)))))))):=by kernel_rfl
noncomputable def atw:bC:=bC.mk (sl 63 [(0,.s (.bool false)),(2,.ptr 0 0),(24,.s (.bool false)),(25,.ptr 0 0)]) [.own [.ptr 1 0,.s (.int .i64 2),.ints .u64 16 dV,.ints .u64 16 dZ,.ints .u64 16 eb] 70,.own [.vec 2,.ag 3,.s (.int .i64 dP)] 96,.vec (.ae [.arr .u8 64] (cF ((4:Int)*8))) 138,.map (.arr .u8 64) dQ] (wy Tryd.f8 2 19) (.mk none false 0 [] 2)
theorem atx:run (P) (lS.sum) (Tryd.f8) (tj) atw ([])=
 Tree.ite false (.ret [.own [.ptr 1 0,.s (.int .i64 2),.ints .u64 16 dV,.ints .u64 16 dZ,.ints .u64 16 eb] 70,.own [.vec 2,.ag 3,.s (.int .i64 dP)] 96,.vec (.ae [.arr .u8 64] (cF ((4:Int)*8))) 138,.map (.arr .u8 64) dQ] (.s (.aI false))) (.need (bE (some [AV.ptr 0 0,.s (.str (ByteArray.mk #[(97:UInt8)])),.s (.str (ByteArray.mk #[(50:UInt8)]))])) (.need (bE (some [ad.own [.ptr 1 0,.s (.int .i64 2),.ints .u64 16 dV,.ints .u64 16 dZ,.ints .u64 16 eb] 70,.own [.vec 2,.ag 3,.s (.int .i64 dP)] 96,.vec (.ae [.arr .u8 64] (cF ((4:Int)*8))) 138,.map (.arr .u8 64) dQ])) (.need (Ds.bM (cF ((4:Int)*8)) dQ dP) (.need (Bx.okW dV) (.need ((0:Int)≤2∧(2:Int)≤65536) (.ite false (.ret [.own [.ptr 1 0,.s (.int .i64 3),.ints .u64 16 (sW (cF ((4:Int)*8)) (ByteArray.mk #[(97:UInt8)]) (some (ByteArray.mk #[(50:UInt8)])) dQ dP 2 dV dZ eb),.ints .u64 16 (sX (cF ((4:Int)*8)) (ByteArray.mk #[(97:UInt8)]) (some (ByteArray.mk #[(50:UInt8)])) dQ dP 2 dV dZ eb),.ints .u64 16 (sY (cF ((4:Int)*8)) (ByteArray.mk #[(97:UInt8)]) (some (ByteArray.mk #[(50:UInt8)])) dQ dP 2 dV dZ eb)] 70,.own [.vec 2,.ag 3,.s (.int .i64 (sV (cF ((4:Int)*8)) (ByteArray.mk #[(97:UInt8)]) (some (ByteArray.mk #[(50:UInt8)])) dQ dP 2 dV dZ eb))] 96,.vec (.ae [.arr .u8 64] (cF ((4:Int)*8))) 138,.map (.arr .u8 64) (sU (cF ((4:Int)*8)) (ByteArray.mk #[(97:UInt8)]) (some (ByteArray.mk #[(50:UInt8)])) dQ dP 2 dV dZ eb)] (.s (.aI false))) (.at (.mk (sl 63 [(0,.s (.bool false)),(2,.ptr 0 0),(29,.s (.bool false)),(30,.ptr 0 0)]) [.own [.ptr 1 0,.s (.int .i64 3),.ints .u64 16 (sW (cF ((4:Int)*8)) (ByteArray.mk #[(97:UInt8)]) (some (ByteArray.mk #[(50:UInt8)])) dQ dP 2 dV dZ eb),.ints .u64 16 (sX (cF ((4:Int)*8)) (ByteArray.mk #[(97:UInt8)]) (some (ByteArray.mk #[(50:UInt8)])) dQ dP 2 dV dZ eb),.ints .u64 16 (sY (cF ((4:Int)*8)) (ByteArray.mk #[(97:UInt8)]) (some (ByteArray.mk #[(50:UInt8)])) dQ dP 2 dV dZ eb)] 70,.own [.vec 2,.ag 3,.s (.int .i64 (sV (cF ((4:Int)*8)) (ByteArray.mk #[(97:UInt8)]) (some (ByteArray.mk #[(50:UInt8)])) dQ dP 2 dV dZ eb))] 96,.vec (.ae [.arr .u8 64] (cF ((4:Int)*8))) 138,.map (.arr .u8 64) (sU (cF ((4:Int)*8)) (ByteArray.mk #[(97:UInt8)]) (some (ByteArray.mk #[(50:UInt8)])) dQ dP 2 dV dZ eb)] (wy Tryd.f8 2 24) (.mk none false 0 [] 2))))))))):=by kernel_rfl
noncomputable def cA:Ws:=sW (cF ((4:Int)*(8:Int))) (ByteArray.mk #[(97:UInt8)]) (some (ByteArray.mk #[(50:UInt8)])) dQ dP (2:Int) dV dZ eb
noncomputable def cG:Ws:=sX (cF ((4:Int)*(8:Int))) (ByteArray.mk #[(97:UInt8)]) (some (ByteArray.mk #[(50:UInt8)])) dQ dP (2:Int) dV dZ eb
noncomputable def cH:Ws:=sY (cF ((4:Int)*(8:Int))) (ByteArray.mk #[(97:UInt8)]) (some (ByteArray.mk #[(50:UInt8)])) dQ dP (2:Int) dV dZ eb
noncomputable def cu:Int:=sV (cF ((4:Int)*(8:Int))) (ByteArray.mk #[(97:UInt8)]) (some (ByteArray.mk #[(50:UInt8)])) dQ dP (2:Int) dV dZ eb
noncomputable def bG:As:=sU (cF ((4:Int)*(8:Int))) (ByteArray.mk #[(97:UInt8)]) (some (ByteArray.mk #[(50:UInt8)])) dQ dP (2:Int) dV dZ eb
noncomputable def aty:bC:=bC.mk (sl 63 [(0,.s (.bool false)),(2,.ptr 0 0),(29,.s (.bool false)),(30,.ptr 0 0)]) [.own [.ptr 1 0,.s (.int .i64 3),.ints .u64 16 cA,.ints .u64 16 cG,.ints .u64 16 cH] 70,.own [.vec 2,.ag 3,.s (.int .i64 cu)] 96,.vec (.ae [.arr .u8 64] (cF ((4:Int)*8))) 138,.map (.arr .u8 64) bG] (wy Tryd.f8 2 24) (.mk none false 0 [] 2)
theorem atz:run (P) (lS.sum) (Tryd.f8) (tj) aty ([])=
 Tree.ite false (.ret [.own [.ptr 1 0,.s (.int .i64 3),.ints .u64 16 cA,.ints .u64 16 cG,.ints .u64 16 cH] 70,.own [.vec 2,.ag 3,.s (.int .i64 cu)] 96,.vec (.ae [.arr .u8 64] (cF ((4:Int)*8))) 138,.map (.arr .u8 64) bG] (.s (.aI false))) (.need (bE (some [AV.ptr 0 0])) (.need (bE (some [ad.own [.ptr 1 0,.s (.int .i64 3),.ints .u64 16 cA,.ints .u64 16 cG,.ints .u64 16 cH] 70,.own [.vec 2,.ag 3,.s (.int .i64 cu)] 96,.vec (.ae [.arr .u8 64] (cF ((4:Int)*8))) 138,.map (.arr .u8 64) bG])) (.ite false (.ret [.own [.ptr 1 0,.s (.int .i64 3),.ints .u64 16 cA,.ints .u64 16 cG,.ints .u64 16 cH] 70,.own [.vec 2,.ag 3,.s (.int .i64 cu)] 96,.vec (.ae [.arr .u8 64] (cF ((4:Int)*8))) 138,.map (.arr .u8 64) bG] (.s (.aI false))) (.at (.mk (sl 63 [(0,.s (.bool false)),(2,.ptr 0 0),(34,.s (.bool false)),(35,.ptr 0 0)]) [.own [.ptr 1 0,.s (.int .i64 3),.ints .u64 16 cA,.ints .u64 16 cG,.ints .u64 16 cH] 70,.own [.vec 2,.ag 3,.s (.int .i64 cu)] 96,.vec (.ae [.arr .u8 64] (cF ((4:Int)*8))) 138,.map (.arr .u8 64) bG] (wy Tryd.f8 2 29) (.mk none false 0 [] 2)))))):=by kernel_rfl
noncomputable def atA:bC:=bC.mk (sl 63 [(0,.s (.bool false)),(2,.ptr 0 0),(34,.s (.bool false)),(35,.ptr 0 0)]) [.own [.ptr 1 0,.s (.int .i64 3),.ints .u64 16 cA,.ints .u64 16 cG,.ints .u64 16 cH] 70,.own [.vec 2,.ag 3,.s (.int .i64 cu)] 96,.vec (.ae [.arr .u8 64] (cF ((4:Int)*8))) 138,.map (.arr .u8 64) bG] (wy Tryd.f8 2 29) (.mk none false 0 [] 2)
theorem atB:run (P) (lS.sum) (Tryd.f8) (tj) atA ([])=
 Tree.ite false (.ret [.own [.ptr 1 0,.s (.int .i64 3),.ints .u64 16 cA,.ints .u64 16 cG,.ints .u64 16 cH] 70,.own [.vec 2,.ag 3,.s (.int .i64 cu)] 96,.vec (.ae [.arr .u8 64] (cF ((4:Int)*8))) 138,.map (.arr .u8 64) bG] (.s (.aI false))) (.need (bE (some [AV.ptr 0 0])) (.need (bE (some [ad.own [.ptr 1 0,.s (.int .i64 3),.ints .u64 16 cA,.ints .u64 16 cG,.ints .u64 16 cH] 70,.own [.vec 2,.ag 3,.s (.int .i64 cu)] 96,.vec (.ae [.arr .u8 64] (cF ((4:Int)*8))) 138,.map (.arr .u8 64) bG])) (.ite false (.ret [.own [.ptr 1 0,.s (.int .i64 3),.ints .u64 16 cA,.ints .u64 16 cG,.ints .u64 16 cH] 70,.own [.vec 2,.ag 3,.s (.int .i64 cu)] 96,.vec (.ae [.arr .u8 64] (cF ((4:Int)*8))) 138,.map (.arr .u8 64) bG] (.s (.aI false))) (.at (.mk (sl 63 [(0,.s (.bool false)),(2,.ptr 0 0),(40,.s (.bool false)),(41,.ptr 0 0)]) [.own [.ptr 1 0,.s (.int .i64 3),.ints .u64 16 cA,.ints .u64 16 cG,.ints .u64 16 cH] 70,.own [.vec 2,.ag 3,.s (.int .i64 cu)] 96,.vec (.ae [.arr .u8 64] (cF ((4:Int)*8))) 138,.map (.arr .u8 64) bG] (wy Tryd.f8 2 35) (.mk none false 0 [] 2)))))):=by kernel_rfl
noncomputable def atC:bC:=bC.mk (sl 63 [(0,.s (.bool false)),(2,.ptr 0 0),(40,.s (.bool false)),(41,.ptr 0 0)]) [.own [.ptr 1 0,.s (.int .i64 3),.ints .u64 16 cA,.ints .u64 16 cG,.ints .u64 16 cH] 70,.own [.vec 2,.ag 3,.s (.int .i64 cu)] 96,.vec (.ae [.arr .u8 64] (cF ((4:Int)*8))) 138,.map (.arr .u8 64) bG] (wy Tryd.f8 2 35) (.mk none false 0 [] 2)
theorem atD:run (P) (lS.sum) (Tryd.f8) (tj) atC ([])=
 Tree.ite false (.ret [.own [.ptr 1 0,.s (.int .i64 3),.ints .u64 16 cA,.ints .u64 16 cG,.ints .u64 16 cH] 70,.own [.vec 2,.ag 3,.s (.int .i64 cu)] 96,.vec (.ae [.arr .u8 64] (cF ((4:Int)*8))) 138,.map (.arr .u8 64) bG] (.s (.aI false))) (.need (bE (some [AV.ptr 0 0])) (.need (bE (some [ad.own [.ptr 1 0,.s (.int .i64 3),.ints .u64 16 cA,.ints .u64 16 cG,.ints .u64 16 cH] 70,.own [.vec 2,.ag 3,.s (.int .i64 cu)] 96,.vec (.ae [.arr .u8 64] (cF ((4:Int)*8))) 138,.map (.arr .u8 64) bG])) (.ite false (.ret [.own [.ptr 1 0,.s (.int .i64 3),.ints .u64 16 cA,.ints .u64 16 cG,.ints .u64 16 cH] 70,.own [.vec 2,.ag 3,.s (.int .i64 cu)] 96,.vec (.ae [.arr .u8 64] (cF ((4:Int)*8))) 138,.map (.arr .u8 64) bG] (.s (.aI false))) (.at (.mk (sl 63 [(0,.s (.bool false)),(2,.ptr 0 0),(45,.s (.bool false)),(46,.ptr 0 0)]) [.own [.ptr 1 0,.s (.int .i64 3),.ints .u64 16 cA,.ints .u64 16 cG,.ints .u64 16 cH] 70,.own [.vec 2,.ag 3,.s (.int .i64 cu)] 96,.vec (.ae [.arr .u8 64] (cF ((4:Int)*8))) 138,.map (.arr .u8 64) bG] (wy Tryd.f8 2 40) (.mk none false 0 [] 2)))))):=by kernel_rfl
noncomputable def atE:bC:=bC.mk (sl 63 [(0,.s (.bool false)),(2,.ptr 0 0),(45,.s (.bool false)),(46,.ptr 0 0)]) [.own [.ptr 1 0,.s (.int .i64 3),.ints .u64 16 cA,.ints .u64 16 cG,.ints .u64 16 cH] 70,.own [.vec 2,.ag 3,.s (.int .i64 cu)] 96,.vec (.ae [.arr .u8 64] (cF ((4:Int)*8))) 138,.map (.arr .u8 64) bG] (wy Tryd.f8 2 40) (.mk none false 0 [] 2)
theorem atF:run (P) (lS.sum) (Tryd.f8) (tj) atE ([])=
 Tree.ite false (.ret [.own [.ptr 1 0,.s (.int .i64 3),.ints .u64 16 cA,.ints .u64 16 cG,.ints .u64 16 cH] 70,.own [.vec 2,.ag 3,.s (.int .i64 cu)] 96,.vec (.ae [.arr .u8 64] (cF ((4:Int)*8))) 138,.map (.arr .u8 64) bG] (.s (.aI false))) (.need (bE (some [AV.ptr 0 0,.s (.str (ByteArray.mk #[(97:UInt8)])),.s (.str (ByteArray.mk #[(50:UInt8)]))])) (.need (bE (some [ad.own [.ptr 1 0,.s (.int .i64 3),.ints .u64 16 cA,.ints .u64 16 cG,.ints .u64 16 cH] 70,.own [.vec 2,.ag 3,.s (.int .i64 cu)] 96,.vec (.ae [.arr .u8 64] (cF ((4:Int)*8))) 138,.map (.arr .u8 64) bG])) (.need (Ds.bM (cF ((4:Int)*8)) bG cu) (.need ((0:Int)≤3∧(3:Int)≤65536) (.ite false (.ret [.own [.ptr 1 0,.s (.int .i64 3),.ints .u64 16 cA,.ints .u64 16 cG,.ints .u64 16 cH] 70,.own [.vec 2,.ag 3,.s (.int .i64 cu)] 96,.vec (.ae [.arr .u8 64] (cF ((4:Int)*8))) 138,.map (.arr .u8 64) bG] (.s (.aI false))) (.at (.mk (sl 63 [(0,.s (.bool false)),(2,.ptr 0 0),(50,.s (.bool false)),(51,.ptr 0 0)]) [.own [.ptr 1 0,.s (.int .i64 3),.ints .u64 16 cA,.ints .u64 16 cG,.ints .u64 16 cH] 70,.own [.vec 2,.ag 3,.s (.int .i64 cu)] 96,.vec (.ae [.arr .u8 64] (cF ((4:Int)*8))) 138,.map (.arr .u8 64) bG] (wy Tryd.f8 2 45) (.mk none false 0 [] 2)))))))):=by kernel_rfl
noncomputable def atG:bC:=bC.mk (sl 63 [(0,.s (.bool false)),(2,.ptr 0 0),(50,.s (.bool false)),(51,.ptr 0 0)]) [.own [.ptr 1 0,.s (.int .i64 3),.ints .u64 16 cA,.ints .u64 16 cG,.ints .u64 16 cH] 70,.own [.vec 2,.ag 3,.s (.int .i64 cu)] 96,.vec (.ae [.arr .u8 64] (cF ((4:Int)*8))) 138,.map (.arr .u8 64) bG] (wy Tryd.f8 2 45) (.mk none false 0 [] 2)
theorem atH:run (P) (lS.sum) (Tryd.f8) (tj) atG ([])=
 Tree.ite false (.ret [.own [.ptr 1 0,.s (.int .i64 3),.ints .u64 16 cA,.ints .u64 16 cG,.ints .u64 16 cH] 70,.own [.vec 2,.ag 3,.s (.int .i64 cu)] 96,.vec (.ae [.arr .u8 64] (cF ((4:Int)*8))) 138,.map (.arr .u8 64) bG] (.s (.aI false))) (.need (bE (some [AV.ptr 0 0,.s (.str (ByteArray.mk #[(97:UInt8)]))])) (.need (bE (some [ad.own [.ptr 1 0,.s (.int .i64 3),.ints .u64 16 cA,.ints .u64 16 cG,.ints .u64 16 cH] 70,.own [.vec 2,.ag 3,.s (.int .i64 cu)] 96,.vec (.ae [.arr .u8 64] (cF ((4:Int)*8))) 138,.map (.arr .u8 64) bG])) (.need (Ds.bM (cF ((4:Int)*8)) bG cu) (.need (Bx.okW cA) (.need ((0:Int)≤3∧(3:Int)≤65536) (.ite false (.ret [.own [.ptr 1 0,.s (.int .i64 0),.ints .u64 16 (sW (cF ((4:Int)*8)) (ByteArray.mk #[(97:UInt8)]) none bG cu 3 cA cG cH),.ints .u64 16 (sX (cF ((4:Int)*8)) (ByteArray.mk #[(97:UInt8)]) none bG cu 3 cA cG cH),.ints .u64 16 (sY (cF ((4:Int)*8)) (ByteArray.mk #[(97:UInt8)]) none bG cu 3 cA cG cH)] 70,.own [.vec 2,.ag 3,.s (.int .i64 (sV (cF ((4:Int)*8)) (ByteArray.mk #[(97:UInt8)]) none bG cu 3 cA cG cH))] 96,.vec (.ae [.arr .u8 64] (cF ((4:Int)*8))) 138,.map (.arr .u8 64) (sU (cF ((4:Int)*8)) (ByteArray.mk #[(97:UInt8)]) none bG cu 3 cA cG cH)] (.s (.aI false))) (.at (.mk (sl 63 [(0,.s (.bool false)),(2,.ptr 0 0),(55,.s (.bool false)),(56,.ptr 0 0)]) [.own [.ptr 1 0,.s (.int .i64 0),.ints .u64 16 (sW (cF ((4:Int)*8)) (ByteArray.mk #[(97:UInt8)]) none bG cu 3 cA cG cH),.ints .u64 16 (sX (cF ((4:Int)*8)) (ByteArray.mk #[(97:UInt8)]) none bG cu 3 cA cG cH),.ints .u64 16 (sY (cF ((4:Int)*8)) (ByteArray.mk #[(97:UInt8)]) none bG cu 3 cA cG cH)] 70,.own [.vec 2,.ag 3,.s (.int .i64 (sV (cF ((4:Int)*8)) (ByteArray.mk #[(97:UInt8)]) none bG cu 3 cA cG cH))] 96,.vec (.ae [.arr .u8 64] (cF ((4:Int)*8))) 138,.map (.arr .u8 64) (sU (cF ((4:Int)*8)) (ByteArray.mk #[(97:UInt8)]) none bG cu 3 cA cG cH)] (wy Tryd.f8 2 50) (.mk none false 0 [] 2))))))))):=by kernel_rfl
noncomputable def iz:Ws:=sW (cF ((4:Int)*(8:Int))) (ByteArray.mk #[(97:UInt8)]) none bG cu (3:Int) cA cG cH
noncomputable def jg:Ws:=sX (cF ((4:Int)*(8:Int))) (ByteArray.mk #[(97:UInt8)]) none bG cu (3:Int) cA cG cH
noncomputable def jh:Ws:=sY (cF ((4:Int)*(8:Int))) (ByteArray.mk #[(97:UInt8)]) none bG cu (3:Int) cA cG cH
noncomputable def iA:Int:=sV (cF ((4:Int)*(8:Int))) (ByteArray.mk #[(97:UInt8)]) none bG cu (3:Int) cA cG cH
noncomputable def iB:As:=sU (cF ((4:Int)*(8:Int))) (ByteArray.mk #[(97:UInt8)]) none bG cu (3:Int) cA cG cH
noncomputable def aq4:bC:=bC.mk (sl 63 [(0,.s (.bool false)),(2,.ptr 0 0),(55,.s (.bool false)),(56,.ptr 0 0)]) [.own [.ptr 1 0,.s (.int .i64 0),.ints .u64 16 iz,.ints .u64 16 jg,.ints .u64 16 jh] 70,.own [.vec 2,.ag 3,.s (.int .i64 iA)] 96,.vec (.ae [.arr .u8 64] (cF ((4:Int)*8))) 138,.map (.arr .u8 64) iB] (wy Tryd.f8 2 50) (.mk none false 0 [] 2)
theorem aq5:run (P) (lS.sum) (Tryd.f8) (tj) aq4 ([])=
 Tree.ite false (.ret [.own [.ptr 1 0,.s (.int .i64 0),.ints .u64 16 iz,.ints .u64 16 jg,.ints .u64 16 jh] 70,.own [.vec 2,.ag 3,.s (.int .i64 iA)] 96,.vec (.ae [.arr .u8 64] (cF ((4:Int)*8))) 138,.map (.arr .u8 64) iB] (.s (.aI false))) (.need (bE (some [AV.ptr 0 0])) (.need (bE (some [ad.own [.ptr 1 0,.s (.int .i64 0),.ints .u64 16 iz,.ints .u64 16 jg,.ints .u64 16 jh] 70,.own [.vec 2,.ag 3,.s (.int .i64 iA)] 96,.vec (.ae [.arr .u8 64] (cF ((4:Int)*8))) 138,.map (.arr .u8 64) iB])) (.ite false (.ret [.own [.ptr 1 0,.s (.int .i64 0),.ints .u64 16 iz,.ints .u64 16 jg,.ints .u64 16 jh] 70,.own [.vec 2,.ag 3,.s (.int .i64 iA)] 96,.vec (.ae [.arr .u8 64] (cF ((4:Int)*8))) 138,.map (.arr .u8 64) iB] (.s (.aI false))) (.at (.mk (sl 63 [(0,.s (.bool false)),(60,.ptr 0 0)]) [.own [.ptr 1 0,.s (.int .i64 0),.ints .u64 16 iz,.ints .u64 16 jg,.ints .u64 16 jh] 70,.own [.vec 2,.ag 3,.s (.int .i64 iA)] 96,.vec (.ae [.arr .u8 64] (cF ((4:Int)*8))) 138,.map (.arr .u8 64) iB] (wy Tryd.f8 4 1) (.mk none false 0 [] 4)))))):=by kernel_rfl
noncomputable def aq6:bC:=bC.mk (sl 63 [(0,.s (.bool false)),(60,.ptr 0 0)]) [.own [.ptr 1 0,.s (.int .i64 0),.ints .u64 16 iz,.ints .u64 16 jg,.ints .u64 16 jh] 70,.own [.vec 2,.ag 3,.s (.int .i64 iA)] 96,.vec (.ae [.arr .u8 64] (cF ((4:Int)*8))) 138,.map (.arr .u8 64) iB] (wy Tryd.f8 4 1) (.mk none false 0 [] 4)
theorem aq7:run (P) (lS.sum) (Tryd.f8) (tj) aq6 ([])=
 Tree.need (bE (some [AV.ptr 0 0,.s (.str ByteArray.empty),.s (.str (ByteArray.mk #[(120:UInt8)]))])) (.need (bE (some [ad.own [.ptr 1 0,.s (.int .i64 0),.ints .u64 16 iz,.ints .u64 16 jg,.ints .u64 16 jh] 70,.own [.vec 2,.ag 3,.s (.int .i64 iA)] 96,.vec (.ae [.arr .u8 64] (cF ((4:Int)*8))) 138,.map (.arr .u8 64) iB])) (.need (Ds.bM (cF ((4:Int)*8)) iB iA) (.need (Bx.okW iz) (.need ((0:Int)≤0∧(0:Int)≤65536) (.ret [.own [.ptr 1 0,.s (.int .i64 0),.ints .u64 16 (sW (cF ((4:Int)*8)) ByteArray.empty (some (ByteArray.mk #[(120:UInt8)])) iB iA 0 iz jg jh),.ints .u64 16 (sX (cF ((4:Int)*8)) ByteArray.empty (some (ByteArray.mk #[(120:UInt8)])) iB iA 0 iz jg jh),.ints .u64 16 (sY (cF ((4:Int)*8)) ByteArray.empty (some (ByteArray.mk #[(120:UInt8)])) iB iA 0 iz jg jh)] 70,.own [.vec 2,.ag 3,.s (.int .i64 (sV (cF ((4:Int)*8)) ByteArray.empty (some (ByteArray.mk #[(120:UInt8)])) iB iA 0 iz jg jh))] 96,.vec (.ae [.arr .u8 64] (cF ((4:Int)*8))) 138,.map (.arr .u8 64) (sU (cF ((4:Int)*8)) ByteArray.empty (some (ByteArray.mk #[(120:UInt8)])) iB iA 0 iz jg jh)] (.s (.bool true))))))):=by kernel_rfl
def atI(ws:Ws):Bool:=ws.length.beq 16&&ws.all fun w=>decide (0≤w)&&decide (w<18446744073709551616)
theorem fy{ws:Ws}(h:atI ws=true):Bx.okW ws:=by
 simp only[atI,Bool.and_eq_true,List.all_eq_true,decide_eq_true_eq]at h
 exact⟨Nat.eq_of_beq_eq_true h.1,fun w hw=>h.2 w hw⟩
theorem eW:lS.Ok P Bx.bV:=aH.Ok.cons (afL.sum mMd) (aH.Ok.cons (sZ.sum mPt) (aH.Ok.cons (nD.sum mGt) (aH.Ok.cons (ack.sum mHs) (aH.Ok.cons (afJ.sum mT) (aH.Ok.cons (afK.sum mT) (aH.Ok.cons Bx.zS.sum aH.Ok.nil))))))
theorem akD:dt P Bx.bV 8 [] [cV] (fun _=>[]) (fun _=>(true,())):=by
 refine au Tryd.func8 (by kernel_rfl) (by kernel_rfl) ?_
 rintro⟨⟩ _ _ X hX hz
 show Safe P 8 X (Ends [cV] (true,())) _
 refine Lf.go hz hX eW Tryd.func8 atp ?_
 refine iT ?_
 refine iT ?_
 refine eK (by first|exact Ds.fx (by kernel_rfl)|exact fy (by kernel_rfl)|decide|exact⟨by decide,by decide⟩) ?_
 refine rG ?_
 refine Lf.go hz hX eW Tryd.func8 atr ?_
 refine kp ?_
 refine iT ?_
 refine iT ?_
 refine eK (by first|exact Ds.fx (by kernel_rfl)|exact fy (by kernel_rfl)|decide|exact⟨by decide,by decide⟩) ?_
 refine eK (by first|exact Ds.fx (by kernel_rfl)|exact fy (by kernel_rfl)|decide|exact⟨by decide,by decide⟩) ?_
 refine eK (by first|exact Ds.fx (by kernel_rfl)|exact fy (by kernel_rfl)|decide|exact⟨by decide,by decide⟩) ?_
 refine kp ?_
 refine rG ?_
 refine Lf.go hz hX eW Tryd.func8 att ?_
 refine kp ?_
 refine iT ?_
 refine iT ?_
 refine kp ?_
 refine rG ?_
 refine Lf.go hz hX eW Tryd.func8 atv ?_
 refine kp ?_
 refine iT ?_
 refine iT ?_
 refine eK (by first|exact Ds.fx (by kernel_rfl)|exact fy (by kernel_rfl)|decide|exact⟨by decide,by decide⟩) ?_
 refine eK (by first|exact Ds.fx (by kernel_rfl)|exact fy (by kernel_rfl)|decide|exact⟨by decide,by decide⟩) ?_
 refine kp ?_
 refine rG ?_
 refine Lf.go hz hX eW Tryd.func8 atx ?_
 refine kp ?_
 refine iT ?_
 refine iT ?_
 refine eK (by first|exact Ds.fx (by kernel_rfl)|exact fy (by kernel_rfl)|decide|exact⟨by decide,by decide⟩) ?_
 refine eK (by first|exact Ds.fx (by kernel_rfl)|exact fy (by kernel_rfl)|decide|exact⟨by decide,by decide⟩) ?_
 refine eK (by first|exact Ds.fx (by kernel_rfl)|exact fy (by kernel_rfl)|decide|exact⟨by decide,by decide⟩) ?_
 refine kp ?_
 refine rG ?_
 refine Lf.go hz hX eW Tryd.func8 atz ?_
 refine kp ?_
 refine iT ?_
 refine iT ?_
 refine kp ?_
 refine rG ?_
 refine Lf.go hz hX eW Tryd.func8 atB ?_
 refine kp ?_
 refine iT ?_
 refine iT ?_
 refine kp ?_
 refine rG ?_
 refine Lf.go hz hX eW Tryd.func8 atD ?_
 refine kp ?_
 refine iT ?_
 refine iT ?_
 refine kp ?_
 refine rG ?_
 refine Lf.go hz hX eW Tryd.func8 atF ?_
 refine kp ?_
 refine iT ?_
 refine iT ?_
 refine eK (by first|exact Ds.fx (by kernel_rfl)|exact fy (by kernel_rfl)|decide|exact⟨by decide,by decide⟩) ?_
 refine eK (by first|exact Ds.fx (by kernel_rfl)|exact fy (by kernel_rfl)|decide|exact⟨by decide,by decide⟩) ?_
 refine kp ?_
 refine rG ?_
 refine Lf.go hz hX eW Tryd.func8 atH ?_
 refine kp ?_
 refine iT ?_
 refine iT ?_
 refine eK (by first|exact Ds.fx (by kernel_rfl)|exact fy (by kernel_rfl)|decide|exact⟨by decide,by decide⟩) ?_
 refine eK (by first|exact Ds.fx (by kernel_rfl)|exact fy (by kernel_rfl)|decide|exact⟨by decide,by decide⟩) ?_
 refine eK (by first|exact Ds.fx (by kernel_rfl)|exact fy (by kernel_rfl)|decide|exact⟨by decide,by decide⟩) ?_
 refine kp ?_
 refine rG ?_
 refine Lf.go hz hX eW Tryd.func8 aq5 ?_
 refine kp ?_
 refine iT ?_
 refine iT ?_
 refine kp ?_
 refine rG ?_
 refine Lf.go hz hX eW Tryd.func8 aq7 ?_
 refine iT ?_
 refine iT ?_
 refine eK (by first|exact Ds.fx (by kernel_rfl)|exact fy (by kernel_rfl)|decide|exact⟨by decide,by decide⟩) ?_
 refine eK (by first|exact Ds.fx (by kernel_rfl)|exact fy (by kernel_rfl)|decide|exact⟨by decide,by decide⟩) ?_
 refine eK (by first|exact Ds.fx (by kernel_rfl)|exact fy (by kernel_rfl)|decide|exact⟨by decide,by decide⟩) ?_
 refine aiL ?_
 exact aT (true,()) rfl (by kernel_rfl)
abbrev avh:=bY [] [cV] (fun _=>[]) (fun _=>(true,()))
end Ts
namespace Ts
open Go Go.Sx Go.Proofs Lf
abbrev s5:List CK:=[.int .u8,.str,.str]
abbrev kv(x:CL s5):Int:=x.1
abbrev kx(x:CL s5):ByteArray:=x.2.1
abbrev ky(x:CL s5):ByteArray:=x.2.2.1
abbrev od(l:List (CL s5)):AV:=.s (.ro (.ae s5 l))
def akE:List (Nat×Norm):=[(3,⟨[],[0,3,4],0,[]⟩),(6,⟨[],[0,3],0,[]⟩)]
noncomputable def cLg(l:List (CL s5))(i:Int):bC:=⟨sl 38 [(0,od l),(3,.s (.oe .i64)),(4,bP i)],[],hd Tryd.f9 3,{}⟩
noncomputable def atJ(l:List (CL s5)):bC:=⟨sl 38 [(0,od l),(3,.s (.oe .i64))],[],hr Tryd.f9 6,{}⟩
theorem aq8(l:List (CL s5)):run P (aH.sum []) Tryd.f9 akE (start Tryd.f9 [od l] [])=
 Tree.at (.mk (sl 38 [(0,.s (.ro (.ae s5 l))),(3,.s (.int .i64 0)),(4,.s (.int .i64 0))]) [] (hd Tryd.f9 3) (.mk none false 0 [] 0)):=by kernel_rfl
theorem akF(l:List (CL s5))(i:Int):run P (aH.sum []) Tryd.f9 akE (cLg l i)=
 Tree.ite (decide (i<(↑l.length:Int))) (.both ((0:Nat)=0) True (.need ((0:Int)≤i) (.need (i<(↑l.length:Int)) (.need ((0:Int)≤i) (.need (i<(↑l.length:Int)) (.need (aD (i+1)) (.at (.mk (sl 38 [(0,.s (.ro (.ae s5 l))),(3,.s (.oe .i64)),(4,.s (.int .i64 (i+1)))]) [] (hd Tryd.f9 3) (.mk none false 0 [] 0)))))))) (.at (.mk (sl 38 [(0,.s (.ro (.ae s5 l))),(3,.s (.oe .i64))]) [] (hr Tryd.f9 6) (.mk none false 0 [] 0)))) (.at (.mk (sl 38 [(0,.s (.ro (.ae s5 l))),(3,.s (.oe .i64))]) [] (hr Tryd.f9 6) (.mk none false 0 [] 0))):=by kernel_rfl
theorem anr(l:List (CL s5)):run P (aH.sum []) Tryd.f9 akE (atJ l)=
 Tree.both ((0:Nat)=0) True (.ret [] (.s (.aI true))) (.ret [] (.s (.bool (decide ((↑l.length:Int)>90))))):=by kernel_rfl
abbrev sLg:Spec (List (CL s5)):=⟨fun l=>[od l],fun _=>[],fun l=>[l.length≤9223372036854775807],fun _=>[],fun l=>.s (.kf (l.length - 90) false)⟩
def stOp(k:Int)(v:ByteArray):Option ByteArray:=if k=2 then none else some v
def do0(th:Th)(k:Int)(key val:ByteArray)(m:As)(fu root:Int)(fr fs gn:Ws):As:=(sT th key (stOp k val) m fu root fr fs gn).1
def do1(th:Th)(k:Int)(key val:ByteArray)(m:As)(fu root:Int)(fr fs gn:Ws):Int:=(sT th key (stOp k val) m fu root fr fs gn).2.1
def doR(th:Th)(k:Int)(key val:ByteArray)(m:As)(fu root:Int)(fr fs gn:Ws):Int:=(sT th key (stOp k val) m fu root fr fs gn).2.2.1
def do2(th:Th)(k:Int)(key val:ByteArray)(m:As)(fu root:Int)(fr fs gn:Ws):Ws:=(sT th key (stOp k val) m fu root fr fs gn).2.2.2.1
def do3(th:Th)(k:Int)(key val:ByteArray)(m:As)(fu root:Int)(fr fs gn:Ws):Ws:=(sT th key (stOp k val) m fu root fr fs gn).2.2.2.2.1
def do4(th:Th)(k:Int)(key val:ByteArray)(m:As)(fu root:Int)(fr fs gn:Ws):Ws:=(sT th key (stOp k val) m fu root fr fs gn).2.2.2.2.2.1
def doX(th:Th)(k:Int)(key val:ByteArray)(m:As)(fu root:Int)(fr fs gn:Ws):Int:=(sT th key (stOp k val) m fu root fr fs gn).2.2.2.2.2.2
abbrev XS:Type:=XT×Int×ByteArray×ByteArray
abbrev sDo:Spec XS:=⟨fun(_,k,key,val)=>[.agg [.s (.int .u8 k),.s (.str key),.s (.str val)],.ptr 0 0],fun((th,m,fu,root,fr,fs,gn),_)=>hT th m fu root fr fs gn,fun((th,m,fu,root,fr,_,_),_)=>aqZ th m fu root fr,
 fun((th,m,fu,root,fr,fs,gn),k,key,val)=>hT th (do0 th k key val m fu root fr fs gn) (do1 th k key val m fu root fr fs gn) (doR th k key val m fu root fr fs gn) (do2 th k key val m fu root fr fs gn) (do3 th k key val m fu root fr fs gn) (do4 th k key val m fu root fr fs gn),
 fun((th,m,fu,root,fr,fs,gn),k,key,val)=>bP (doX th k key val m fu root fr fs gn)⟩
def atL:aH:=[(24,akC),(25,ad5)]
theorem avi(th:Th)(m:As)(fu root:Int)(fr fs gn:Ws)(k:Int)(key val:ByteArray):run P atL.sum Tryd.f14 [] (start Tryd.f14 [.agg [.s (.int .u8 k),.s (.str key),.s (.str val)],.ptr 0 0] (hT th m fu root fr fs gn))=
 Tree.ite (k==2) (.need (bE (some [AV.ptr 0 0,.s (.str key)])) (.need (bE (some [ad.own [.ptr 1 0,.s (.int .i64 root),.ints .u64 16 fr,.ints .u64 16 fs,.ints .u64 16 gn] 70,.own [.vec 2,.ag 3,.s (.int .i64 fu)] 96,.vec (.ae [.arr .u8 64] th) 138,.map (.arr .u8 64) m])) (.need (Ds.bM th m fu) (.need (Bx.okW fr) (.need ((0:Int)≤root∧root≤65536) (.ret [.own [.ptr 1 0,.s (.int .i64 (og th key none m fu root fr fs gn)),.ints .u64 16 (sW th key none m fu root fr fs gn),.ints .u64 16 (sX th key none m fu root fr fs gn),.ints .u64 16 (sY th key none m fu root fr fs gn)] 70,.own [.vec 2,.ag 3,.s (.int .i64 (sV th key none m fu root fr fs gn))] 96,.vec (.ae [.arr .u8 64] th) 138,.map (.arr .u8 64) (sU th key none m fu root fr fs gn),.own [.s (.int .u8 k),.s (.str key),.s (.str val)] 32] (.s (.int .i64 (opE th key none m fu root fr fs gn))))))))) (.need (bE (some [AV.ptr 0 0,.s (.str key),.s (.str val)])) (.need (bE (some [ad.own [.ptr 1 0,.s (.int .i64 root),.ints .u64 16 fr,.ints .u64 16 fs,.ints .u64 16 gn] 70,.own [.vec 2,.ag 3,.s (.int .i64 fu)] 96,.vec (.ae [.arr .u8 64] th) 138,.map (.arr .u8 64) m])) (.need (Ds.bM th m fu) (.need (Bx.okW fr) (.need ((0:Int)≤root∧root≤65536) (.ret [.own [.ptr 1 0,.s (.int .i64 (og th key (some val) m fu root fr fs gn)),.ints .u64 16 (sW th key (some val) m fu root fr fs gn),.ints .u64 16 (sX th key (some val) m fu root fr fs gn),.ints .u64 16 (sY th key (some val) m fu root fr fs gn)] 70,.own [.vec 2,.ag 3,.s (.int .i64 (sV th key (some val) m fu root fr fs gn))] 96,.vec (.ae [.arr .u8 64] th) 138,.map (.arr .u8 64) (sU th key (some val) m fu root fr fs gn),.own [.s (.int .u8 k),.s (.str key),.s (.str val)] 32] (.s (.int .i64 (opE th key (some val) m fu root fr fs gn))))))))):=by kernel_rfl
theorem atM{Z:bd}:jA P Z 9 sLg:=by
 refine qv Tryd.func9 (by kernel_rfl) (fun x=>Nat.le_of_ble_eq_true (by kernel_rfl)) ?_
 rintro(l:List (CL s5)) ⟨(hl:l.length≤9223372036854775807),_⟩ X hX hz
 have hns:∀x∈akE,(sLg.heap l).length≤x.2.m:=by intro y hy;simp[akE]at hy;rcases hy with rfl|rfl<;>exact Nat.le_refl _
 have fin:Safe P 9 X (aiR sLg l) (atJ l):=by
  refine Ds.eR hz hX hns aH.Ok.nil Tryd.func9 (anr l) ⟨fun _=> ?_,fun _=> ?_⟩
  ·exact⟨⟨[],[0],0,[]⟩,.s (.bool true),Nat.le_refl _,by kernel_rfl,fun ρ H O w v hv=>by
    have:=ah (by simp) hv
    cases this
    exact aq (.kf _ _ _ (fun h=>by cases h))⟩
  ·exact⟨⟨[],[0],0,[]⟩,.s (.bool (decide ((l.length:Int)>90))),Nat.le_refl _,by kernel_rfl,fun ρ H O w v hv=>by
    have:=ah (by simp) hv
    cases this
    exact aq (.kf _ _ _ (fun h=>by have:=of_decide_eq_false h;omega))⟩
 have loop:∀(j k:Nat),k+j=l.length→Safe P 9 X (aiR sLg l) (cLg l (k:Int)):=by
  intro j
  induction j with
  |zero=>
   intro k hk
   exact Ds.eR hz hX hns aH.Ok.nil Tryd.func9 (akF l k) ⟨fun h=>absurd (of_decide_eq_true h) (by omega),fun _=>fin⟩
  |succ j ih=>
   intro k hk
   exact Ds.eR hz hX hns aH.Ok.nil Tryd.func9 (akF l k) ⟨fun _=>⟨fun _=>⟨by omega,by omega,by omega,by omega,⟨by omega,by omega⟩,ih (k+1) (by omega)⟩,fun _=>fin⟩,fun _=>fin⟩
 refine Ds.eR hz hX hns aH.Ok.nil Tryd.func9 (aq8 l) ?_
 exact abf (t:=3) (k:=.i64) (n:=0) rfl (loop l.length 0 (by omega))
theorem ao0{th:Th}{m:As}{fu root:Int}{fr fs gn:Ws}{k:Int}{key val:ByteArray}{op:Option ByteArray}(e:stOp k val=op):
 sDo.fv ((th,m,fu,root,fr,fs,gn),k,key,val)=hT th (sU th key op m fu root fr fs gn) (sV th key op m fu root fr fs gn) (og th key op m fu root fr fs gn) (sW th key op m fu root fr fs gn) (sX th key op m fu root fr fs gn) (sY th key op m fu root fr fs gn)∧
 sDo.out ((th,m,fu,root,fr,fs,gn),k,key,val)=bP (opE th key op m fu root fr fs gn):=by
 subst e;exact⟨rfl,rfl⟩
theorem atN:jA P Bx.bV 14 sDo:=by
 refine aO Tryd.func14 (by kernel_rfl) (fun x=>Nat.le_of_ble_eq_true (by kernel_rfl)) ?_
 rintro⟨⟨(th:Th),(m:As),(fu:Int),(root:Int),(fr:Ws),(fs:Ws),(gn:Ws)⟩,(k:Int),(key:ByteArray),(val:ByteArray)⟩ ⟨(hd:Ds.bM th m fu),(hf:Bx.okW fr),(hr:0≤root∧root≤65536),_⟩ X hX hz
 refine Ds.eR hz hX (by intro y hy;cases hy) (aH.Ok.cons (sZ.sum mPt) (aH.Ok.cons (nD.sum mGt) aH.Ok.nil)) Tryd.func14 (avi th m fu root fr fs gn k key val) ⟨fun h=>⟨rfl,rfl,hd,hf,hr, ?_⟩,fun h=>⟨rfl,rfl,hd,hf,hr, ?_⟩⟩
 ·obtain⟨f1,f2⟩:=ao0 (th:=th) (m:=m) (fu:=fu) (root:=root) (fr:=fr) (fs:=fs) (gn:=gn) (key:=key) (show stOp k val=none from if_pos (by simpa using h))
  exact bU 4 rfl (Nat.le_refl _) f2 f1
 ·obtain⟨f1,f2⟩:=ao0 (th:=th) (m:=m) (fu:=fu) (root:=root) (fr:=fr) (fs:=fs) (gn:=gn) (key:=key) (show stOp k val=some val from if_neg (by simpa using h))
  exact bU 4 rfl (Nat.le_refl _) f2 f1
end Ts
namespace Ts
open Go Go.Sx Go.Proofs Lf
def sS(th:Th)(s:S5)(l:Bool)(es:List En)(bs:List Br):S5:=
 ⟨(bo th s.m s.fu s.fr s.fs l es bs).1,(bo th s.m s.fu s.fr s.fs l es bs).2.1,(bo th s.m s.fu s.fr s.fs l es bs).2.2.1,(bo th s.m s.fu s.fr s.fs l es bs).2.2.2.1,s.gn⟩
def sL(th:Th)(s:S5)(l:Bool)(es:List En)(bs:List Br):List Br:=(bo th s.m s.fu s.fr s.fs l es bs).2.2.2.2.1
def sE(th:Th)(s:S5)(l:Bool)(es:List En)(bs:List Br):Int:=(bo th s.m s.fu s.fr s.fs l es bs).2.2.2.2.2
def Bad(th:Th)(s t:S5)(k:Nat)(e:Int):Prop:=∃N,qP th s t N []∧N.length≤k∧((e=41∧∀p,In s.fr p→p∈N)∨(e=42∧t.fu=0))
theorem nE(bs:List Br):aa (aa bs)=aa bs:=by cases bs<;>rfl
theorem ad6{bs:List Br}{k:Nat}(h:aa bs=bs):aa (bs.take k)=bs.take k:=by
 cases bs with
 |nil=>simp[aa]
 |cons b r=>
  cases k with
  |zero=>rfl
  |succ k=>
   simp only[aa,List.cons.injEq]at h
   simp[aa,h.1]
theorem aag{th:Th}{s:S5}{l:Bool}{es:List En}{bs:List Br}(ho:xI th s)(hm:c8 l es (aa bs)=true)(hz:bh es (aa bs)≤254):
 (wE th s l es bs=0∧∃n,qP th s (wS th s l es bs) [n] []∧wB th s l es bs=(cU l es bs,n,())∧Rd th (wS th s l es bs).m n l es (aa bs))∨(wE th s l es bs≠0∧Bad th s (wS th s l es bs) 0 (wE th s l es bs)):=by
 rcases aqS ho hm hz with h|⟨h1,h2,h3⟩|⟨h1,h2,h3⟩
 ·exact .inl h
 ·exact .inr ⟨by rw[h1];decide,[],by rw[h2];exact gX ho,Nat.le_refl _,.inl ⟨h1,fun p hp=>absurd hp (h3 p)⟩⟩
 ·exact .inr ⟨by rw[h1];decide,[],h2,Nat.le_refl _,.inr ⟨h1,h3⟩⟩
theorem afM{th:Th}{s:S5}{l:Bool}{es:List En}{bs:List Br}(ho:xI th s)(h:es.length+bs.length=0):sE th s l es bs=0∧sL th s l es bs=[]∧qP th s (sS th s l es bs) [] []:=by
 have e:bo th s.m s.fu s.fr s.fs l es bs=(s.m,s.fu,s.fr,s.fs,[],0):=by unfold bo;rw[if_pos h]
 refine⟨by unfold sE;rw[e],by unfold sL;rw[e], ?_⟩
 have:sS th s l es bs=s:=by unfold sS;rw[e]
 rw[this];exact gX ho
theorem akG{th:Th}{s:S5}{l:Bool}{es:List En}{bs:List Br}(ho:xI th s)(h:0<es.length+bs.length)(hm:c8 l es (aa bs)=true)(hz:bh es (aa bs)≤254):
 (sE th s l es bs=0∧∃n,qP th s (sS th s l es bs) [n] []∧sL th s l es bs=[(cU l es (aa bs),n,())]∧Rd th (sS th s l es bs).m n l es (aa bs))∨(sE th s l es bs≠0∧Bad th s (sS th s l es bs) 1 (sE th s l es bs)):=by
 have e1:sE th s l es bs=wE th s l es (aa bs):=by unfold sE wE bo;rw[if_neg (by omega),if_pos hz]
 have e2:sS th s l es bs=wS th s l es (aa bs):=by unfold sS wS bo;rw[if_neg (by omega),if_pos hz]
 have e3:sL th s l es bs=[wB th s l es (aa bs)]:=by unfold sL wB bo;rw[if_neg (by omega),if_pos hz]
 rw[e1,e2,e3]
 have:=aag (bs:=aa bs) ho (by rw[nE];exact hm) (by rw[nE];exact hz)
 rw[nE]at this
 rcases this with⟨a,n,b,c,d⟩|⟨a,N,b,c,d⟩
 ·exact .inl ⟨a,n,b,by rw[c],d⟩
 ·exact .inr ⟨a,N,b,Nat.le_succ_of_le c,d⟩
theorem akH{th:Th}{s:S5}{l:Bool}{es:List En}{bs:List Br}(ho:xI th s)(h:0<es.length+bs.length)(hz:¬bh es (aa bs)≤254)(ok:dv l es (aa bs)=true)
 (z1:bh (aY l es (aa bs)) (aa (bc l es (aa bs)))≤254) (z2:bh (cN l es (aa bs)) (aa (cW l es (aa bs)))≤254)
 (m1:c8 (bO l es (aa bs)) (aY l es (aa bs)) (aa (bc l es (aa bs)))=true) (m2:c8 (bO l es (aa bs)) (cN l es (aa bs)) (aa (cW l es (aa bs)))=true):
 (sE th s l es bs=0∧∃a b,qP th s (sS th s l es bs) [a,b] []∧sL th s l es bs=[(cU (bO l es (aa bs)) (aY l es (aa bs)) (bc l es (aa bs)),a,()),(cU (bO l es (aa bs)) (cN l es (aa bs)) (cW l es (aa bs)),b,())]∧
   Rd th (sS th s l es bs).m a (bO l es (aa bs)) (aY l es (aa bs)) (aa (bc l es (aa bs)))∧Rd th (sS th s l es bs).m b (bO l es (aa bs)) (cN l es (aa bs)) (aa (cW l es (aa bs))))∨(sE th s l es bs≠0∧Bad th s (sS th s l es bs) 1 (sE th s l es bs)):=by
 have zt:¬spC l es (aa bs)≠0:=by unfold spC;rw[if_pos ok];simp
 have ed:bo th s.m s.fu s.fr s.fs l es bs=if wE th s (bO l es (aa bs)) (aY l es (aa bs)) (bc l es (aa bs))≠0 then
  ((wS th s (bO l es (aa bs)) (aY l es (aa bs)) (bc l es (aa bs))).m,(wS th s (bO l es (aa bs)) (aY l es (aa bs)) (bc l es (aa bs))).fu,(wS th s (bO l es (aa bs)) (aY l es (aa bs)) (bc l es (aa bs))).fr,(wS th s (bO l es (aa bs)) (aY l es (aa bs)) (bc l es (aa bs))).fs,[],wE th s (bO l es (aa bs)) (aY l es (aa bs)) (bc l es (aa bs)))
  else((wS th (wS th s (bO l es (aa bs)) (aY l es (aa bs)) (bc l es (aa bs))) (bO l es (aa bs)) (cN l es (aa bs)) (cW l es (aa bs))).m,(wS th (wS th s (bO l es (aa bs)) (aY l es (aa bs)) (bc l es (aa bs))) (bO l es (aa bs)) (cN l es (aa bs)) (cW l es (aa bs))).fu,
   (wS th (wS th s (bO l es (aa bs)) (aY l es (aa bs)) (bc l es (aa bs))) (bO l es (aa bs)) (cN l es (aa bs)) (cW l es (aa bs))).fr,(wS th (wS th s (bO l es (aa bs)) (aY l es (aa bs)) (bc l es (aa bs))) (bO l es (aa bs)) (cN l es (aa bs)) (cW l es (aa bs))).fs,
   [wB th s (bO l es (aa bs)) (aY l es (aa bs)) (bc l es (aa bs)),wB th (wS th s (bO l es (aa bs)) (aY l es (aa bs)) (bc l es (aa bs))) (bO l es (aa bs)) (cN l es (aa bs)) (cW l es (aa bs))],wE th (wS th s (bO l es (aa bs)) (aY l es (aa bs)) (bc l es (aa bs))) (bO l es (aa bs)) (cN l es (aa bs)) (cW l es (aa bs))):=by
  unfold bo
  rw[if_neg (by omega),if_neg hz,if_neg zt]
  rfl
 generalize bO l es (aa bs)=L at *
 generalize aY l es (aa bs)=E1 at *
 generalize cN l es (aa bs)=E2 at *
 generalize bc l es (aa bs)=B1 at *
 generalize cW l es (aa bs)=B2 at *
 rcases aag ho m1 z1 with⟨a,n,b,c,d⟩|⟨a,N,b,c,d⟩
 ·rw[if_neg (by rw[a];simp)]at ed
  have ho2:=b.ok
  have e2:sS th s l es bs=wS th (wS th s L E1 B1) L E2 B2:=by unfold sS;rw[ed];rfl
  have e3:sL th s l es bs=[wB th s L E1 B1,wB th (wS th s L E1 B1) L E2 B2]:=by unfold sL;rw[ed]
  have e4:sE th s l es bs=wE th (wS th s L E1 B1) L E2 B2:=by unfold sE;rw[ed]
  rw[e2,e3,e4]
  rcases aag ho2 m2 z2 with⟨a2,n2,b2,c2,d2⟩|⟨a2,N2,b2,c2,d2⟩
  ·refine .inl ⟨a2,n,n2,eY b b2 (fun p hp=>by cases hp),by rw[c,c2], ?_,d2⟩
   exact Rd.same d (b2.rd n (fun hh=>((b.fr n).1 hh).2 List.mem_cons_self))
  ·refine .inr ⟨a2,[n]++N2,eY b b2 (fun p hp=>by cases hp),by rw[List.length_append,List.length_singleton];omega,d2.imp (fun h=>⟨h.1,fun p hp=> ?_⟩) id⟩
   by_cases hpn:p∈[n]
   ·exact List.mem_append_left _ hpn
   ·exact List.mem_append_right _ (h.2 p ((b.fr p).2 ⟨hp,hpn⟩))
 ·rw[if_pos a]at ed
  have e2:sS th s l es bs=wS th s L E1 B1:=by unfold sS;rw[ed];rfl
  have e4:sE th s l es bs=wE th s L E1 B1:=by unfold sE;rw[ed]
  rw[e2,e4]
  exact .inr ⟨a,N,b,Nat.le_succ_of_le c,d⟩
end Ts
namespace Ts
open Go Go.Sx Go.Proofs Lf
structure For (th:Th) (m:As) (h:Nat) (F:List (Kd h)):Prop where
 bare:bQ F=F
 rep:∀k∈F,rep th m h k.2
 ok:∀k∈F,nY h k.2
 sep:zZ h F
 key:∀k∈F,k.1.size≤24
 pg:∀k∈F,2≤pg h k.2∧pg h k.2<1024
theorem afN{th:Th}{m:As}{h:Nat}:For th m h []:=⟨rfl,fun k hk=>(by cases hk),fun k hk=>(by cases hk),⟨List.Pairwise.nil,fun k hk=>(by cases hk)⟩,fun k hk=>(by cases hk),fun k hk=>(by cases hk)⟩
theorem afO{th:Th}{m:As}{h:Nat}{t:TN h}(h1:rep th m h t)(h2:nY h t)(h3:2≤pg h t∧pg h t<1024):For th m h [(ByteArray.empty,t)]:=
 ⟨rfl,fun k hk=>by rw[List.mem_singleton.1 hk];exact h1,fun k hk=>by rw[List.mem_singleton.1 hk];exact h2,⟨List.pairwise_singleton _ _,fun k hk e _=>by rw[List.mem_singleton.1 hk];exact gB _⟩,
   fun k hk=>by rw[List.mem_singleton.1 hk];exact Nat.zero_le _,fun k hk=>by rw[List.mem_singleton.1 hk];exact h3⟩
theorem afP{th:Th}{m:As}{h:Nat}{t u:TN h}{s:ByteArray}(h1:rep th m h t)(h2:nY h t)(h3:2≤pg h t∧pg h t<1024)(g1:rep th m h u)(g2:nY h u)(g3:2≤pg h u∧pg h u<1024)
 (hs:s.size≤24) (a:∀e∈dL h t,slt e.1 s=true) (b:∀e∈dL h u,slt e.1 s=false):For th m h [(ByteArray.empty,t),(s,u)]:=by
 have two:∀{p:Kd h→Prop},p (ByteArray.empty,t)→p (s,u)→∀k∈[((ByteArray.empty,t):Kd h),(s,u)],p k:=fun hp hq k hk=>by
  rcases List.mem_cons.1 hk with rfl|hk
  ·exact hp
  ·rw[List.mem_singleton.1 hk];exact hq
 refine⟨rfl,two h1 g1,two h2 g2,⟨?_,two (p:=fun k=>∀e∈dL h k.2,slt e.1 k.1=false) (fun e _=>gB _) b⟩,two (Nat.zero_le _) hs,two h3 g3⟩
 rw[List.pairwise_cons]
 exact⟨fun k hk e he=>by rw[List.mem_singleton.1 hk];exact a e he,List.pairwise_singleton _ _⟩
theorem For.same{th:Th}{s t:S5}{N V:List Int}(e:qP th s t N V){h:Nat}{F:List (Kd h)}(f:For th s.m h F)(hp:∀p∈bL h F,¬In s.fr p):For th t.m h F:=
 ⟨f.bare,fun k hk=>e.rep h (f.rep k hk) fun p j8=>hp p (List.mem_flatMap.2 ⟨k,hk,j8⟩),f.ok,f.sep,f.key,f.pg⟩
theorem r6{th:Th}{s:S5}(ho:xI th s){n:Int}(h:In s.fr n):2≤n∧n<1024:=⟨(ho.pg n h).1,(nz ho.fr h).2⟩
theorem ans{th:Th}{s:S5}{es:List En}(ho:xI th s)(iX:jB es=true)(zt:¬bh es []≤254→dv true es []=true∧bh (aY true es []) []≤254∧bh (cN true es []) []≤254∧
 ∃k,0<k∧k<es.length∧aY true es []=es.take k∧cN true es []=es.drop k∧bc true es []=[]∧cW true es []=[]∧bO true es []=true):
 (sE th s true es []=0∧∃(N:List Int) (k0:ByteArray) (F:List (Kd 0)),qP th s (sS th s true es []) N []∧N.length≤2∧sL th s true es []=kT k0 (F.map (cK 0))∧For th (sS th s true es []).m 0 F∧bK 0 F=es∧bL 0 F=N∧F.length≤2∧(bh es []≤254→F.length≤1))∨
 (sE th s true es []≠0∧Bad th s (sS th s true es []) 1 (sE th s true es [])):=by
 have hm:=asU iX
 by_cases h0:es.length=0
 ·obtain⟨a,b,c⟩:=afM (l:=true) (es:=es) (bs:=[]) ho (by rw[h0];rfl)
  obtain rfl:es=[]:=List.eq_nil_of_length_eq_zero h0
  exact .inl ⟨a,[],ByteArray.empty,[],c,Nat.zero_le _,b,afN,rfl,rfl,Nat.zero_le _,fun _=>Nat.zero_le _⟩
 by_cases hz:bh es []≤254
 ·rcases akG (l:=true) (es:=es) (bs:=[]) ho (by simp only[List.length_nil];omega) hm hz with⟨a,n,b,c,d⟩|h
  ·refine .inl ⟨a,[n],cU true es [],[(ByteArray.empty,(n,es))],b,by simp,c,afO d ⟨fun e=>h0 (by show es.length=0;rw[show es=[]from e];rfl),iX,hz⟩ (r6 ho (b.sub n List.mem_cons_self)), ?_,rfl,by simp,fun _=>by simp⟩
   show es++[]=es
   rw[List.append_nil]
  ·exact .inr h
 ·obtain⟨ok,z1,z2,k,k0,k1,e1,e2,e3,e4,e5⟩:=zt hz
  have bn:aa ([]:List Br)=[]:=rfl
  have hmt:=abT hm k
  have hmd:=abU hm k
  rw[List.take_nil]at hmt
  rw[List.drop_nil]at hmd
  have key:=akH (l:=true) (es:=es) (bs:=[]) ho (by simp only[List.length_nil];omega) hz ok (by rw[bn,e3];exact z1) (by rw[bn,e4];exact z2) (by rw[bn,e3,e1,e5];exact hmt) (by rw[bn,e4,e2,e5];exact hmd)
  rw[bn,e1,e2,e3,e4,e5]at key
  rw[e1]at z1
  rw[e2]at z2
  rcases key with⟨a,n,n2,b,c,d1,d2⟩|h
  ·obtain⟨m1,m2⟩:=vX.1 iX
   have avj:es.drop k≠[]:=fun e=>by have:=congrArg List.length e;rw[List.length_drop,List.length_nil]at this;omega
   have aq9:es.take k≠[]:=fun e=>by have:=congrArg List.length e;rw[List.length_take,List.length_nil]at this;omega
   have hk:cU true (es.drop k) []=(es.getD k dE).1:=by
    unfold cU
    rw[if_pos rfl,j7,Nat.add_zero]
   have zk:es.getD k dE=es[k]:=bk k1
   have low:∀i,i<k→slt (es.getD i dE).1 (es.getD k dE).1=true:=fun i hi=>by
    have:=m2 i k hi (by simpa using k1)
    rw[cw es pt dE i,cw es pt dE k]at this
    exact this
   have high:∀i,k≤i→i<es.length→slt (es.getD i dE).1 (es.getD k dE).1=false:=fun i hi hl=>by
    by_cases e:i=k
    ·rw[e];exact dJ _
    ·have:=m2 k i (by omega) (by simpa using hl)
     rw[cw es pt dE i,cw es pt dE k]at this
     exact rI this
   refine .inl ⟨a,[n,n2],cU true (es.take k) [],[(ByteArray.empty,(n,es.take k)),(cU true (es.drop k) [],(n2,es.drop k))],b,by simp,c, ?_, ?_,rfl,by simp,fun h=>absurd h hz⟩
   ·refine afP (h:=0) d1 ⟨aq9,yd iX k,z1⟩ (r6 ho (b.sub n List.mem_cons_self)) d2 ⟨avj,yf iX k,z2⟩ (r6 ho (b.sub n2 (List.mem_cons_of_mem _ List.mem_cons_self))) ?_ (fun e he=> ?_) (fun e he=> ?_)
    ·rw[hk,zk];exact(m1 _ (List.getElem_mem k1)).2.1
    ·obtain⟨i,hi,rfl⟩:=List.getElem_of_mem (show e∈es.take k from he)
     rw[List.length_take]at hi
     rw[hk,List.getElem_take]
     have:=low i (by omega)
     rw[bk (by omega)]at this
     exact this
    ·obtain⟨i,hi,rfl⟩:=List.getElem_of_mem (show e∈es.drop k from he)
     rw[List.length_drop]at hi
     rw[hk,List.getElem_drop]
     have:=high (k+i) (by omega) (by omega)
     rw[bk (by omega)]at this
     exact this
   ·show es.take k++(es.drop k++[])=es
    rw[List.append_nil,List.take_append_drop]
  ·exact .inr h
theorem afQ{th:Th}{s:S5}{h:Nat}{Q:List (Kd h)}{bs:List Br}(ho:xI th s)(hb:aa bs=Q.map (cK h))(hQ:Q≠[])(f:For th s.m h Q)(hp:∀p∈bL h Q,¬In s.fr p)(iX:gh (Q.map (cK h))=true)(bH:lU h Q≤281):
 (sE th s false [] bs=0∧∃(N:List Int) (k0:ByteArray) (F:List (Kd (h+1))),qP th s (sS th s false [] bs) N []∧N.length≤2∧sL th s false [] bs=kT k0 (F.map (cK (h+1)))∧For th (sS th s false [] bs).m (h+1) F∧bK (h+1) F=bK h Q∧
   (bL (h+1) F).Perm (N++bL h Q)∧((lU h Q≤254∧F.length=1∧eO (h+1) F=3^(h+1)*(19+w7 (lU h Q))+eO h Q)∨(254<lU h Q∧F.length=2∧eO (h+1) F=3^(h+1)*38+eO h Q)))∨
 (sE th s false [] bs≠0∧Bad th s (sS th s false [] bs) 1 (sE th s false [] bs)):=by
 have hl:0<bs.length:=by
  have e:(aa bs).length=bs.length:=yi bs
  rw[hb,List.length_map]at e
  have:=List.length_pos_iff.2 hQ
  omega
 have hm:=amL iX
 have hs0:lU h Q=bh [] (Q.map (cK h)):=rfl
 have stay:∀{t:S5} {N:List Int},qP th s t N []→∀k∈Q,rep th t.m h k.2:=fun e k hk=>e.rep h (f.rep k hk) fun p j8=>hp p (List.mem_flatMap.2 ⟨k,hk,j8⟩)
 by_cases hz:lU h Q≤254
 ·rcases akG (l:=false) (es:=[]) (bs:=bs) ho (by simp only[List.length_nil];omega) (by rw[hb];exact hm) (by rw[hb];exact hz)with⟨a,n,b,c,d⟩|h
  ·rw[hb]at c d
   refine .inl ⟨a,[n],cU false [] (Q.map (cK h)),[(ByteArray.empty,(n,Q))],b,by simp,c,afO (h:=h+1) ⟨d,stay b⟩ ⟨hQ,f.bare,iX,hz,f.sep,f.ok⟩ (r6 ho (b.sub n List.mem_cons_self)), ?_, ?_,.inl ⟨hz,rfl, ?_⟩⟩
   ·show bK h Q++[]=_
    rw[List.append_nil]
   ·show(n::bL h Q++[]).Perm (n::bL h Q)
    rw[List.append_nil]
   ·rw[gD]
    rfl
  ·exact .inr h
 ·obtain⟨ok,z1,z2,k,k0,k1,e1,e2,e3,e4,e5⟩:=aj3 iX (by rw[←hs0];omega) (by rw[←hs0];exact bH)
  have hbt:aa ((Q.map (cK h)).take k)=(Q.map (cK h)).take k:=ad6 (by rw[jL,f.bare])
  have akI:=ye iX k
  have akJ:=yo (yg iX k)
  have zd:bh [] (aa ((Q.map (cK h)).drop k))≤154:=by
   have s1:=qQ (aa ((Q.map (cK h)).drop k))
   have s2:=qQ ((Q.map (cK h)).drop k)
   have s3:=rX ((Q.map (cK h)).drop k)
   rw[e2]at z2
   omega
  have key:=akH (l:=false) (es:=[]) (bs:=bs) ho (by simp only[List.length_nil];omega) (by rw[hb];exact hz) (by rw[hb];exact ok)
  rw[hb,e1,e2,e3,e4,e5,hbt]at key
  rw[e1]at z1
  have key:=key (by omega) (by omega) (amL akI) (amL akJ)
  rcases key with⟨a,n,n2,b,c,d1,d2⟩|h
  ·have eT:(Q.map (cK h)).take k=(Q.take k).map (cK h):=by rw[List.map_take]
   have eD:aa ((Q.map (cK h)).drop k)=(bQ (Q.drop k)).map (cK h):=by rw[←List.map_drop,jL]
   rw[List.length_map]at k1
   have eQ:Q=Q.take k++Q.drop k:=(List.take_append_drop k Q).symm
   obtain⟨q,r,eqd⟩:∃q r,Q.drop k=q::r:=List.exists_cons_of_ne_nil (fun e=>by have:=congrArg List.length e;rw[List.length_drop,List.length_nil]at this;omega)
   have aq9:Q.take k≠[]:=fun e=>by have:=congrArg List.length e;rw[List.length_take,List.length_nil]at this;omega
   have hqm:q∈Q:=by rw[eQ,eqd];exact List.mem_append_right _ List.mem_cons_self
   have hk:cU false [] ((Q.map (cK h)).drop k)=q.1:=by
    unfold cU
    rw[if_neg (by simp),←List.map_drop,eqd]
    rfl
   have sp:=f.sep
   have sp1:=sp.1
   rw[eQ,List.pairwise_append]at sp1
   have up:=(fV.1 iX).2
   rw[eQ,List.map_append,List.pairwise_append]at up
   have mT:∀x∈Q.take k,x∈Q:=fun x hx=>List.mem_of_mem_take hx
   have mD:∀x∈Q.drop k,x∈Q:=fun x hx=>List.mem_of_mem_drop hx
   have okA:nY (h+1) (n,Q.take k):=by
    refine⟨aq9, ?_,by rw[←eT];exact akI,by rw[lU,←eT];omega,⟨sp1.1,fun x hx=>sp.2 x (mT x hx)⟩,fun x hx=>f.ok x (mT x hx)⟩
    show bQ (Q.take k)=Q.take k
    have:=f.bare
    cases Q with
    |nil=>exact absurd rfl hQ
    |cons x y=>
     cases k with
     |zero=>omega
     |succ k=>simp only[bQ,List.cons.injEq]at this;simp[bQ,this.1]
   have okB:nY (h+1) (n2,bQ (Q.drop k)):=by
    refine⟨by rw[eqd];exact List.cons_ne_nil _ _,vU _,by rw[←eD];exact akJ,by rw[lU,←eD];omega,⟨?_,fun x hx e he=> ?_⟩,fun x hx=> ?_⟩
    ·have p2:=sp1.2.1
     rw[eqd]at p2 ⊢
     rw[List.pairwise_cons]at p2
     rw[bQ,List.pairwise_cons]
     exact p2
    ·obtain⟨x',xk,e2,e3⟩:=gE hx
     rcases e3 with e3|e3
     ·rw[e3];exact gB _
     ·subst e3;exact sp.2 x (mD x xk) e he
    ·obtain⟨x',xk,e2,_⟩:=gE hx
     rw[←e2]
     exact f.ok x' (mD x' xk)
   have avk:rep th (sS th s false [] bs).m (h+1) (n,Q.take k):=⟨by rw[←eT];exact d1,fun x hx=>stay b x (mT x hx)⟩
   have avl:rep th (sS th s false [] bs).m (h+1) (n2,bQ (Q.drop k)):=⟨by rw[←eD];exact d2,fun x hx=>by
    obtain⟨x',xk,e2,_⟩:=gE hx
    rw[←e2]
    exact stay b x' (mD x' xk)⟩
   refine .inl ⟨a,[n,n2],_,[(ByteArray.empty,(n,Q.take k)),(q.1,(n2,bQ (Q.drop k)))],b,by simp,by rw[c,hk];rfl,afP avk okA (r6 ho (b.sub n List.mem_cons_self)) avl okB (r6 ho (b.sub n2 (List.mem_cons_of_mem _ List.mem_cons_self))) (f.key q hqm) (fun e he=> ?_) (fun e he=> ?_), ?_, ?_,.inr ⟨by omega,rfl, ?_⟩⟩
   ·have he:e∈bK h (Q.take k):=he
    obtain⟨x,hx,hxe⟩:=List.mem_flatMap.1 he
    exact sp1.2.2 x hx q (by rw[eqd];exact List.mem_cons_self) e hxe
   ·have he:e∈bK h (bQ (Q.drop k)):=he
    rw[pF]at he
    obtain⟨x,hx,hxe⟩:=List.mem_flatMap.1 he
    have h1:=sp.2 x (mD x hx) e hxe
    rw[eqd]at hx
    rcases List.mem_cons.1 hx with rfl|hx
    ·exact h1
    ·have u:=up.2.1
     rw[eqd,List.map_cons,List.pairwise_cons]at u
     have u:=u.1 (cK h x) (List.mem_map_of_mem hx)
     cases hh:slt e.1 q.1
     ·rfl
     ·have h2:slt e.1 x.1=true:=cq hh u
      rw[h2]at h1;cases h1
   ·show bK h (Q.take k)++(bK h (bQ (Q.drop k))++[])=_
    rw[List.append_nil,pF,←jK,←eQ]
   ·show(n::bL h (Q.take k)++(n2::bL h (bQ (Q.drop k))++[])).Perm (n::n2::bL h Q)
    rw[List.append_nil,ym]
    have e:bL h Q=bL h (Q.take k)++bL h (Q.drop k):=by rw[←qN,←eQ]
    rw[e]
    refine List.Perm.cons n ?_
    exact List.perm_middle
   ·rw[gD,gD]
    show 3^(h+1)*(19+w7 (lU h (Q.take k)))+eO h (Q.take k)+(3^(h+1)*(19+w7 (lU h (bQ (Q.drop k))))+eO h (bQ (Q.drop k))+0)=_
    have o1:w7 (lU h (Q.take k))=0:=by unfold w7;rw[lU,←eT];omega
    have o2:w7 (lU h (bQ (Q.drop k)))=0:=by unfold w7;rw[lU,←eD];omega
    have e:eO h Q=eO h (Q.take k)+eO h (Q.drop k):=by rw[←qO,←eQ]
    rw[o1,o2,yn,e]
    omega
  ·exact .inr h
end Ts
namespace Ts
open Go Go.Sx Go.Proofs Lf
def kU(key:ByteArray):Option ByteArray→List En→List En
 |some v,l=>bw l key v
 |none,l=>cz l key
theorem aah{x:En}{r:List En}{key v:ByteArray}(h:slt x.1 key=true):bw (x::r) key v=x::bw r key v:=by
 unfold bw
 rw[zN h,afm h]
 split<;>simp
theorem aai{x:En}{r:List En}{key v:ByteArray}(h:slt x.1 key=false):bw (x::r) key v=(key,v,())::(if x.1=key then r else x::r):=by
 unfold bw
 rw[adN h,ajv h]
 by_cases e:x.1=key
 ·rw[decide_eq_true e,if_pos rfl,if_pos e];rfl
 ·rw[decide_eq_false e,if_neg (by simp),if_neg e];rfl
theorem akK{key v:ByteArray}:bw [] key v=[(key,v,())]:=rfl
theorem ahs{X W:List En}{key v:ByteArray}(h:∀x∈X,slt x.1 key=true):bw (X++W) key v=X++bw W key v:=by
 induction X with
 |nil=>rfl
 |cons x r ih=>rw[List.cons_append,aah (h x List.mem_cons_self),ih fun y hy=>h y (List.mem_cons_of_mem _ hy)];rfl
theorem ad7{Y Z:List En}{key v:ByteArray}(h:∀z∈Z,slt key z.1=true):bw (Y++Z) key v=bw Y key v++Z:=by
 induction Y with
 |nil=>
  rw[List.nil_append,akK]
  cases Z with
  |nil=>rfl
  |cons z r=>
   have hz:=h z List.mem_cons_self
   rw[aai (rI hz),if_neg (fun e=>aiO hz e.symm)];rfl
 |cons y r ih=>
  cases hy:slt y.1 key
  ·rw[List.cons_append,aai hy,aai hy]
   by_cases e:y.1=key
   ·rw[if_pos e,if_pos e];rfl
   ·rw[if_neg e,if_neg e];rfl
  ·rw[List.cons_append,aah hy,aah hy,ih];rfl
theorem yw{X:List En}{key:ByteArray}(h:∀x∈X,x.1≠key):cz X key=X:=by
 unfold cz
 rw[List.filter_eq_self]
 intro x hx
 simp only[zM,decide_eq_false (h x hx),Bool.not_false]
theorem afR{X Y Z:List En}{key:ByteArray}{op:Option ByteArray}(h1:∀x∈X,slt x.1 key=true)(h2:∀z∈Z,slt key z.1=true):kU key op (X++Y++Z)=X++kU key op Y++Z:=by
 cases op with
 |some v=>
  show bw (X++Y++Z) key v=X++bw Y key v++Z
  rw[ad7 h2,ahs h1]
 |none=>
  have e1:=yw (X:=X) (key:=key) fun x hx e=>by have:=h1 x hx;rw[e,dJ]at this;cases this
  have e2:=yw (X:=Z) (key:=key) fun x hx e=>by have:=h2 x hx;rw[e,dJ]at this;cases this
  show cz (X++Y++Z) key=X++cz Y key++Z
  unfold cz at e1 e2 ⊢
  rw[List.filter_append,List.filter_append,e1,e2]
theorem akL{X Y Z:List En}{key:ByteArray}(h1:∀x∈X,slt x.1 key=true)(h2:∀z∈Z,slt key z.1=true):gF (X++Y++Z) key=gF Y key:=by
 have e:=afR (op:=none) h1 h2 (Y:=Y)
 have e:cz (X++Y++Z) key=X++cz Y key++Z:=e
 unfold gF
 rw[e]
 simp only[List.length_append]
 by_cases c:(cz Y key).length<Y.length
 ·rw[decide_eq_true (by omega),decide_eq_true (by omega)]
 ·rw[decide_eq_false (by omega),decide_eq_false (by omega)]
theorem afS{X Y Z:List En}{key:ByteArray}{op:Option ByteArray}(h1:∀x∈X,slt x.1 key=true)(h2:∀z∈Z,slt key z.1=true):py key op (X++Y++Z)=py key op Y:=by
 cases op with
 |some v=>rfl
 |none=>
  show(if gF (X++Y++Z) key=true then(0:Int)else 5)=if gF Y key=true then 0 else 5
  rw[akL h1 h2]
theorem afT(key:ByteArray)(op:Option ByteArray)(l:List En):py key op l=0∨py key op l=5:=by
 cases op with
 |some v=>exact .inl rfl
 |none=>
  show(if gF l key=true then(0:Int)else 5)=0∨(if gF l key=true then(0:Int)else 5)=5
  split
  ·exact .inl rfl
  ·exact .inr rfl
theorem akM{key:ByteArray}{op:Option ByteArray}{l:List En}(h:py key op l=0):doE key op l=kU key op l:=by
 cases op with
 |some v=>rfl
 |none=>
  have h:(if gF l key=true then(0:Int)else 5)=0:=h
  show(if gF l key=true then cz l key else [])=cz l key
  split at h
  ·rename_i hb;rw[if_pos hb]
  ·cases h
theorem aaj{key:ByteArray}{op:Option ByteArray}{l:List En}{e:En}(h:e∈kU key op l):e∈l∨(e.1=key∧∃v,op=some v∧e.2.1=v):=by
 cases op with
 |some v=>
  have h:e∈bw l key v:=h
  unfold bw at h
  rcases List.mem_append.1 h with h|h
  ·exact .inl (List.mem_of_mem_take h)
  ·rcases List.mem_cons.1 h with rfl|h
   ·exact .inr ⟨rfl,v,rfl,rfl⟩
   ·exact .inl (List.mem_of_mem_drop h)
 |none=>exact .inl (List.mem_filter.1 (show e∈cz l key from h)).1
theorem ant{key:ByteArray}{op:Option ByteArray}{l:List En}(hk:1≤key.size∧key.size≤24)(hv:∀v,op=some v→v.size≤100)(h:jB l=true):jB (kU key op l)=true:=by
 rw[vX]at h ⊢
 refine⟨fun e he=> ?_, ?_⟩
 ·rcases aaj he with h1|⟨h1,v,h2,h3⟩
  ·exact h.1 e h1
  ·rw[h1,h3];exact⟨hk.1,hk.2,hv v h2⟩
 ·cases op with
  |some v=>exact al8 key v h.2
  |none=>exact al9 key h.2
theorem wm{es:List En}{key:ByteArray}:bh (cz es key) []≤bh es []:=by
 rw[vY,vY]
 unfold cz
 induction es with
 |nil=>simp
 |cons x r ih=>
  rw[List.filter_cons]
  have:=aj2 x
  split
  ·rw[List.map_cons,List.sum_cons,List.map_cons,List.sum_cons];omega
  ·rw[List.map_cons,List.sum_cons];omega
end Ts
