/- Lemmas: N7, M2, M3, N8, N9, N10, N11, N12, N13, N14, N15, SxLit, SxRenew, N16, N17, N18, N19, N20, N21, M4, M5. -/
import Derived.Test.YtcjldfgkonfocaaDoorPD
namespace Ts
open Go Go.Sx Go.Proofs Lf
abbrev XC:Type:=XT×Int×Int×ByteArray×ByteArray
abbrev fP1:FuncId:=49
abbrev fD1:FuncId:=51
abbrev tl(s:ByteArray):ad:=.own [.s (.str s)] 9
abbrev qu(th:Th)(m:As)(fu root:Int)(fr fs gn:Ws)(key val:ByteArray):List ad:=hT th m fu root fr fs gn++[tl key,tl val]
abbrev qv(th:Th)(m:As)(fu root:Int)(fr fs gn:Ws)(key:ByteArray):List ad:=hT th m fu root fr fs gn++[tl key]
def an3(f:Nat)(th:Th)(m:As)(fu:Int)(fr:Ws)(n deep:Int)(key val:ByteArray):List Prop:=[Ds.bI th m fu,Bx.okW fr,0≤n∧n≤65536,1≤deep∧deep≤17,18≤deep+(f:Int),1≤key.size∧key.size≤24,val.size≤100]
def pf(th:Th)(key:ByteArray)(op:Option ByteArray)(f:Nat)(m:As)(fu:Int)(fr fs gn:Ws)(n deep:Int):As:=(vz th key op f m fu fr fs gn n deep).1
def ph(th:Th)(key:ByteArray)(op:Option ByteArray)(f:Nat)(m:As)(fu:Int)(fr fs gn:Ws)(n deep:Int):Int:=(vz th key op f m fu fr fs gn n deep).2.1
def pj(th:Th)(key:ByteArray)(op:Option ByteArray)(f:Nat)(m:As)(fu:Int)(fr fs gn:Ws)(n deep:Int):Ws:=(vz th key op f m fu fr fs gn n deep).2.2.1
def qw(th:Th)(key:ByteArray)(op:Option ByteArray)(f:Nat)(m:As)(fu:Int)(fr fs gn:Ws)(n deep:Int):Ws:=(vz th key op f m fu fr fs gn n deep).2.2.2.1
def rI(th:Th)(key:ByteArray)(op:Option ByteArray)(f:Nat)(m:As)(fu:Int)(fr fs gn:Ws)(n deep:Int):Ws:=(vz th key op f m fu fr fs gn n deep).2.2.2.2.1
def sN(th:Th)(key:ByteArray)(op:Option ByteArray)(f:Nat)(m:As)(fu:Int)(fr fs gn:Ws)(n deep:Int):List Br:=(vz th key op f m fu fr fs gn n deep).2.2.2.2.2.1
def rJ(th:Th)(key:ByteArray)(op:Option ByteArray)(f:Nat)(m:As)(fu:Int)(fr fs gn:Ws)(n deep:Int):Int:=(vz th key op f m fu fr fs gn n deep).2.2.2.2.2.2
abbrev wL(f:Nat):Spec XC:=⟨fun(_,n,deep,key,_)=>[.ptr 0 0,bJ n,bJ deep,.s (.str key),.fn fP1 [.ptr 4 0,.ptr 5 0]],fun((th,m,fu,root,fr,fs,gn),_,_,key,val)=>qu th m fu root fr fs gn key val,
 fun((th,m,fu,_,fr,_,_),n,deep,key,val)=>an3 f th m fu fr n deep key val,
 fun((th,m,fu,root,fr,fs,gn),n,deep,key,val)=>qu th (pf th key (some val) f m fu fr fs gn n deep) (ph th key (some val) f m fu fr fs gn n deep) root (pj th key (some val) f m fu fr fs gn n deep) (qw th key (some val) f m fu fr fs gn n deep) (rI th key (some val) f m fu fr fs gn n deep) key val++[.vec (.ae cB (sN th key (some val) f m fu fr fs gn n deep)) Lf.eB],
 fun((th,m,fu,_,fr,fs,gn),n,deep,key,val)=>.bh [.vec 6,bJ (rJ th key (some val) f m fu fr fs gn n deep)]⟩
abbrev wM(f:Nat):Spec XC:=⟨fun(_,n,deep,key,_)=>[.ptr 0 0,bJ n,bJ deep,.s (.str key),.fn fD1 [.ptr 4 0]],fun((th,m,fu,root,fr,fs,gn),_,_,key,_)=>qv th m fu root fr fs gn key,
 fun((th,m,fu,_,fr,_,_),n,deep,key,val)=>an3 f th m fu fr n deep key val,
 fun((th,m,fu,root,fr,fs,gn),n,deep,key,_)=>qv th (pf th key none f m fu fr fs gn n deep) (ph th key none f m fu fr fs gn n deep) root (pj th key none f m fu fr fs gn n deep) (qw th key none f m fu fr fs gn n deep) (rI th key none f m fu fr fs gn n deep) key++[.vec (.ae cB (sN th key none f m fu fr fs gn n deep)) Lf.eB],
 fun((th,m,fu,_,fr,fs,gn),n,deep,key,_)=>.bh [.vec 5,bJ (rJ th key none f m fu fr fs gn n deep)]⟩
def ajA(i:Nat):(ByteArray→RM (XC×List Nat))→RM (XC×List Nat):=fun k=>.look i fun o=>match o with
 |some (.own [.s (.str s)] _)=>k s
 |_=>.fail "no text"
def ami:List AV→RM (XC×List Nat)
 |[t,n,d,.s (.str _),.fn _ [.ptr i 0,.ptr j 0]]=>(mT [t]).bind fun(X,σ)=>match n.cY,d.cY with
  |some (_,_,n),some (_,_,d)=>ajA i fun key=>ajA j fun val=>.ret ((X,n,d,key,val),σ++[i,j])
  |_,_=>.fail "no numbers"
 |_=>.fail "change: arguments"
def amj:List AV→RM (XC×List Nat)
 |[t,n,d,.s (.str _),.fn _ [.ptr i 0]]=>(mT [t]).bind fun(X,σ)=>match n.cY,d.cY with
  |some (_,_,n),some (_,_,d)=>ajA i fun key=>.ret ((X,n,d,key,ByteArray.empty),σ++[i])
  |_,_=>.fail "no numbers"
 |_=>.fail "change: arguments"
def mNo:List AV→RM ((XT×Int×Int)×List Nat)
 |[t,n,d]=>(mT [t]).bind fun(X,σ)=>match n.cY,d.cY with
  |some (_,_,n),some (_,_,d)=>.ret ((X,n,d),σ)
  |_,_=>.fail "no numbers"
 |_=>.fail "node: arguments"
def mLv:List AV→RM ((XT×Int)×List Nat)
 |[t,n]=>(mT [t]).bind fun(X,σ)=>match n.cY with
  |some (_,_,n)=>.ret ((X,n),σ)
  |_=>.fail "no numbers"
 |_=>.fail "leave: arguments"
abbrev xV:=dm sNo mNo
abbrev ajB:=dm sLv mLv
abbrev xW:=an1 (dm sWs mTN)
abbrev an4:=uD [nU,dG,dG] [nU] (fun(l,_,_,())=>[(l:List En).length≤100000,iv (bA l)]) (fun(l,key,val,())=>(bt l key val,()))
abbrev an5:=bU [nU,dG] [nU,ch] (fun(l,_,())=>[(l:List En).length≤100000,iv (bA l)]) (fun(l,key,())=>(cw l key,gR l key,()))
abbrev aqb:=bU [wD,dG] [bo] (fun(l,_,())=>[(l:List Br).length≤1000000,iv (mc l)]) (fun(l,key,())=>(aT l key,()))
def ot(f:Nat):aG:=[(37,xV),(85,ajB),(66,xW),(50,an4),(39,aqb),(92,sJ),(80,dm (wL f) ami)]
def ou(f:Nat):aG:=[(37,xV),(85,ajB),(66,xW),(52,an5),(39,aqb),(92,sJ),(80,dm (wM f) amj)]
abbrev eN:TypeId:=73
def adC:List (Nat×Norm):=[(5,⟨[],[0,1,4,12],6,[]⟩),(10,⟨[],[0,1,2,3,4,12],6,[]⟩),(14,⟨[],[0,1,12,13,14,15],6,[]⟩),(18,⟨[],[0,1,12,14,15],6,[]⟩)]
noncomputable def asa(th:Th)(m:As)(fu root:Int)(fr fs gn:Ws)(n:Int)(key val:ByteArray)(es:List En)(bs:List Br):bz:=
 ⟨sl 106 [(0,.ptr 0 0),(1,bJ n),(4,.fn fP1 [.ptr 4 0,.ptr 5 0]),(12,.ptr 6 0)],qu th m fu root fr fs gn key val++[obN true es bs eN],hr Tryd.f80 5,{}⟩
noncomputable def an6(th:Th)(m:As)(fu root:Int)(fr fs gn:Ws)(n deep:Int)(key val:ByteArray)(l:Bool)(es:List En)(bs:List Br):bz:=
 ⟨sl 106 [(0,.ptr 0 0),(1,bJ n),(2,bJ deep),(3,.s (.str key)),(4,.fn fP1 [.ptr 4 0,.ptr 5 0]),(12,.ptr 6 0)],qu th m fu root fr fs gn key val++[obN l es bs eN],hr Tryd.f80 10,{}⟩
noncomputable def an7(th:Th)(m:As)(fu root:Int)(fr fs gn:Ws)(n:Int)(key val:ByteArray)(l:Bool)(es:List En)(bs:List Br)(k e:Int)(r:List Br):bz:=
 ⟨sl 106 [(0,.ptr 0 0),(1,bJ n),(12,.ptr 6 0),(13,bJ e),(14,bJ k),(15,.vec 7)],qu th m fu root fr fs gn key val++[obN l es bs eN,.vec (.ae cB r) Lf.eB],hr Tryd.f80 14,{}⟩
noncomputable def an8(th:Th)(m:As)(fu root:Int)(fr fs gn:Ws)(n:Int)(key val:ByteArray)(l:Bool)(es:List En)(bs:List Br)(k:Int)(r:List Br):bz:=
 ⟨sl 106 [(0,.ptr 0 0),(1,bJ n),(12,.ptr 6 0),(14,bJ k),(15,.vec 7)],qu th m fu root fr fs gn key val++[obN l es bs eN,.vec (.ae cB r) Lf.eB],hr Tryd.f80 18,{}⟩
theorem auh(f:Nat)(th:Th)(m:As)(fu root:Int)(fr fs gn:Ws)(n deep:Int)(key val:ByteArray):run P (ot f).sum Tryd.f80 adC (start Tryd.f80 [.ptr 0 0,bJ n,bJ deep,.s (.str key),.fn fP1 [.ptr 4 0,.ptr 5 0]] (qu th m fu root fr fs gn key val)) (inl:=[fP1])=
 Tree.need (bu (some [AV.ptr 0 0,.s (.int .i64 n),.s (.int .i64 deep)])) (.need (bu (some [ad.own [.ptr 1 0,.s (.int .i64 root),.ints .u64 16 fr,.ints .u64 16 fs,.ints .u64 16 gn] 70,.own [.vec 2,.ag 3,.s (.int .i64 fu)] 96,.vec (.ae [.arr .u8 64] th) 138,.map (.arr .u8 64) m])) (.need (Ds.bI th m fu) (.need (aD n) (.ite (fG th m n deep !=0) (.ret [.own [.ptr 1 0,.s (.int .i64 root),.ints .u64 16 fr,.ints .u64 16 fs,.ints .u64 16 gn] 70,.own [.vec 2,.ag 3,.s (.int .i64 fu)] 96,.vec (.ae [.arr .u8 64] th) 138,.map (.arr .u8 64) m,.own [.s (.str key)] 9,.own [.s (.str val)] 9,.own [.s (.bool (j7 th m n deep)),.s (.ro (.ae [.str,.str] (bK th m n deep))),.s (.ro (.ae [.str,.int .i64] (aN th m n deep)))] 73] (.bh [.emp,.s (.int .i64 (fG th m n deep))])) (.ite (j7 th m n deep) (.at (.mk (sl 106 [(0,.ptr 0 0),(1,.s (.int .i64 n)),(4,.fn 49 [.ptr 4 0,.ptr 5 0]),(12,.ptr 6 0)]) [.own [.ptr 1 0,.s (.int .i64 root),.ints .u64 16 fr,.ints .u64 16 fs,.ints .u64 16 gn] 70,.own [.vec 2,.ag 3,.s (.int .i64 fu)] 96,.vec (.ae [.arr .u8 64] th) 138,.map (.arr .u8 64) m,.own [.s (.str key)] 9,.own [.s (.str val)] 9,.own [.s (.bool (j7 th m n deep)),.s (.ro (.ae [.str,.str] (bK th m n deep))),.s (.ro (.ae [.str,.int .i64] (aN th m n deep)))] 73] (hr Tryd.f80 5) (.mk none false 0 [] 0))) (.at (.mk (sl 106 [(0,.ptr 0 0),(1,.s (.int .i64 n)),(2,.s (.int .i64 deep)),(3,.s (.str key)),(4,.fn 49 [.ptr 4 0,.ptr 5 0]),(12,.ptr 6 0)]) [.own [.ptr 1 0,.s (.int .i64 root),.ints .u64 16 fr,.ints .u64 16 fs,.ints .u64 16 gn] 70,.own [.vec 2,.ag 3,.s (.int .i64 fu)] 96,.vec (.ae [.arr .u8 64] th) 138,.map (.arr .u8 64) m,.own [.s (.str key)] 9,.own [.s (.str val)] 9,.own [.s (.bool (j7 th m n deep)),.s (.ro (.ae [.str,.str] (bK th m n deep))),.s (.ro (.ae [.str,.int .i64] (aN th m n deep)))] 73] (hr Tryd.f80 10) (.mk none false 0 [] 0)))))))):=by kernel_rfl
theorem asb(f:Nat)(th:Th)(m:As)(fu root:Int)(fr fs gn:Ws)(n:Int)(key val:ByteArray)(es:List En)(bs:List Br):run P (ot f).sum Tryd.f80 adC (asa th m fu root fr fs gn n key val es bs) (inl:=[fP1])=
 Tree.need (es.length≤100000) (.need (iv (bA es)) (.need (bu (some [AV.ptr 0 0,.s (.int .i64 n)])) (.need (bu (some [ad.own [.ptr 1 0,.s (.int .i64 root),.ints .u64 16 fr,.ints .u64 16 fs,.ints .u64 16 gn] 70,.own [.vec 2,.ag 3,.s (.int .i64 fu)] 96,.vec (.ae [.arr .u8 64] th) 138,.map (.arr .u8 64) m])) (.need (bu (some [AV.ptr 0 0,.agg [.s (.bool true),.s (.ro (.ae [.str,.str] (bt es key val))),.s (.ro (.ae [.str,.int .i64] bs))]])) (.need (bu (some [ad.own [.ptr 1 0,.s (.int .i64 root),.ints .u64 16 fr,.ints .u64 16 (iU fs n),.ints .u64 16 (pb fs gn n)] 70,.own [.vec 2,.ag 3,.s (.int .i64 fu)] 96,.vec (.ae [.arr .u8 64] th) 138,.map (.arr .u8 64) m])) (.need (Ds.bI th m fu) (.need (Bx.okW fr) (.need (zF true (bt es key val) bs) (.need (a6 (bt es key val)) (.need (a7 bs) (.ret [.own [.ptr 1 0,.s (.int .i64 root),.ints .u64 16 (bk th m fu fr (iU fs n) true (bt es key val) bs).snd.snd.fst,.ints .u64 16 (bk th m fu fr (iU fs n) true (bt es key val) bs).snd.snd.snd.fst,.ints .u64 16 (pb fs gn n)] 70,.own [.vec 2,.ag 3,.s (.int .i64 (bk th m fu fr (iU fs n) true (bt es key val) bs).snd.fst)] 96,.vec (.ae [.arr .u8 64] th) 138,.map (.arr .u8 64) (bk th m fu fr (iU fs n) true (bt es key val) bs).fst,.own [.s (.str key)] 9,.own [.s (.str val)] 9,.own [.s (.bool true),.vec 7,.s (.ro (.ae [.str,.int .i64] bs))] 73,.dead,.vec (.ae [.str,.int .i64] (bk th m fu fr (iU fs n) true (bt es key val) bs).snd.snd.snd.snd.fst) 79] (.bh [.vec 8,.s (.int .i64 (bk th m fu fr (iU fs n) true (bt es key val) bs).snd.snd.snd.snd.snd)])))))))))))):=by kernel_rfl
theorem aqc(f:Nat)(th:Th)(m:As)(fu root:Int)(fr fs gn:Ws)(n deep:Int)(key val:ByteArray)(l:Bool)(es:List En)(bs:List Br):run P (ot f).sum Tryd.f80 adC (an6 th m fu root fr fs gn n deep key val l es bs) (inl:=[fP1])=
 Tree.ite ((↑bs.length:Int)==0) (.ret [.own [.ptr 1 0,.s (.int .i64 root),.ints .u64 16 fr,.ints .u64 16 fs,.ints .u64 16 gn] 70,.own [.vec 2,.ag 3,.s (.int .i64 fu)] 96,.vec (.ae [.arr .u8 64] th) 138,.map (.arr .u8 64) m,.own [.s (.str key)] 9,.own [.s (.str val)] 9,.own [.s (.bool l),.s (.ro (.ae [.str,.str] es)),.s (.ro (.ae [.str,.int .i64] bs))] 73] (.bh [.emp,.s (.aZ .i64 4)]))
 (.need (bs.length≤1000000) (.need (iv (mc bs)) (.need ((0:Int)≤aT bs key) (.need (aT bs key<(↑bs.length:Int)) (.need (aD (deep+1)) (.need (bu (some [AV.ptr 0 0,.s (.int .i64 (bs.getD (aT bs key).toNat (CL.d [.str,.int .i64])).snd.fst),.s (.int .i64 (deep+1)),.s (.str key),.fn 49 [.ptr 4 0,.ptr 5 0]])) (.need (bu (some [ad.own [.ptr 1 0,.s (.int .i64 root),.ints .u64 16 fr,.ints .u64 16 fs,.ints .u64 16 gn] 70,.own [.vec 2,.ag 3,.s (.int .i64 fu)] 96,.vec (.ae [.arr .u8 64] th) 138,.map (.arr .u8 64) m,.own [.s (.str key)] 9,.own [.s (.str val)] 9])) (.need (Ds.bI th m fu) (.need (Bx.okW fr) (.need ((0:Int)≤(bs.getD (aT bs key).toNat (CL.d [.str,.int .i64])).snd.fst∧(bs.getD (aT bs key).toNat (CL.d [.str,.int .i64])).snd.fst≤65536) (.need ((1:Int)≤deep+1∧deep+1≤17) (.need ((18:Int)≤deep+1+(↑f:Int)) (.need ((1:Nat)≤key.size∧key.size≤24) (.need (val.size≤100) (.at (.mk (sl 106 [(0,.ptr 0 0),(1,.s (.int .i64 n)),(12,.ptr 6 0),(13,.s (.int .i64 (rJ th key (some val) f m fu fr fs gn (bs.getD (aT bs key).toNat (CL.d [.str,.int .i64])).snd.fst (deep+1)))),(14,.s (.int .i64 (aT bs key))),(15,.vec 7)]) [.own [.ptr 1 0,.s (.int .i64 root),.ints .u64 16 (pj th key (some val) f m fu fr fs gn (bs.getD (aT bs key).toNat (CL.d [.str,.int .i64])).snd.fst (deep+1)),.ints .u64 16 (qw th key (some val) f m fu fr fs gn (bs.getD (aT bs key).toNat (CL.d [.str,.int .i64])).snd.fst (deep+1)),.ints .u64 16 (rI th key (some val) f m fu fr fs gn (bs.getD (aT bs key).toNat (CL.d [.str,.int .i64])).snd.fst (deep+1))] 70,.own [.vec 2,.ag 3,.s (.int .i64 (ph th key (some val) f m fu fr fs gn (bs.getD (aT bs key).toNat (CL.d [.str,.int .i64])).snd.fst (deep+1)))] 96,.vec (.ae [.arr .u8 64] th) 138,.map (.arr .u8 64) (pf th key (some val) f m fu fr fs gn (bs.getD (aT bs key).toNat (CL.d [.str,.int .i64])).snd.fst (deep+1)),.own [.s (.str key)] 9,.own [.s (.str val)] 9,.own [.s (.bool l),.s (.ro (.ae [.str,.str] es)),.s (.ro (.ae [.str,.int .i64] bs))] 73,.vec (.ae [.str,.int .i64] (sN th key (some val) f m fu fr fs gn (bs.getD (aT bs key).toNat (CL.d [.str,.int .i64])).snd.fst (deep+1))) 79] (hr Tryd.f80 14) (.mk none false 0 [] 0))))))))))))))))):=by kernel_rfl
theorem aqd(f:Nat)(th:Th)(m:As)(fu root:Int)(fr fs gn:Ws)(n:Int)(key val:ByteArray)(l:Bool)(es:List En)(bs:List Br)(k e:Int)(r:List Br):run P (ot f).sum Tryd.f80 adC (an7 th m fu root fr fs gn n key val l es bs k e r) (inl:=[fP1])=
 Tree.ite (e !=0) (.ret [.own [.ptr 1 0,.s (.int .i64 root),.ints .u64 16 fr,.ints .u64 16 fs,.ints .u64 16 gn] 70,.own [.vec 2,.ag 3,.s (.int .i64 fu)] 96,.vec (.ae [.arr .u8 64] th) 138,.map (.arr .u8 64) m,.own [.s (.str key)] 9,.own [.s (.str val)] 9,.own [.s (.bool l),.s (.ro (.ae [.str,.str] es)),.s (.ro (.ae [.str,.int .i64] bs))] 73,.vec (.ae [.str,.int .i64] r) 79] (.bh [.emp,.s (.int .i64 e)])) (.ite (decide ((↑r.length:Int)>0)) (.need ((0:Int)≤k) (.need (k<(↑bs.length:Int)) (.need ((0:Int)≤0) (.need ((0:Int)<(↑r.length:Int)) (.at (.mk (sl 106 [(0,.ptr 0 0),(1,.s (.int .i64 n)),(12,.ptr 6 0),(14,.s (.int .i64 k)),(15,.vec 7)]) [.own [.ptr 1 0,.s (.int .i64 root),.ints .u64 16 fr,.ints .u64 16 fs,.ints .u64 16 gn] 70,.own [.vec 2,.ag 3,.s (.int .i64 fu)] 96,.vec (.ae [.arr .u8 64] th) 138,.map (.arr .u8 64) m,.own [.s (.str key)] 9,.own [.s (.str val)] 9,.own [.s (.bool l),.s (.ro (.ae [.str,.str] es)),.s (.ro (.ae [.str,.int .i64] bs))] 73,.vec (.ae [.str,.int .i64] (r.set 0 ((bs.getD k.toNat (CL.d [.str,.int .i64])).fst,(r.getD 0 (CL.d [.str,.int .i64])).snd))) 79] (hr Tryd.f80 18) (.mk none false 0 [] 0))))))) (.at (.mk (sl 106 [(0,.ptr 0 0),(1,.s (.int .i64 n)),(12,.ptr 6 0),(14,.s (.int .i64 k)),(15,.vec 7)]) [.own [.ptr 1 0,.s (.int .i64 root),.ints .u64 16 fr,.ints .u64 16 fs,.ints .u64 16 gn] 70,.own [.vec 2,.ag 3,.s (.int .i64 fu)] 96,.vec (.ae [.arr .u8 64] th) 138,.map (.arr .u8 64) m,.own [.s (.str key)] 9,.own [.s (.str val)] 9,.own [.s (.bool l),.s (.ro (.ae [.str,.str] es)),.s (.ro (.ae [.str,.int .i64] bs))] 73,.vec (.ae [.str,.int .i64] r) 79] (hr Tryd.f80 18) (.mk none false 0 [] 0)))):=by kernel_rfl
theorem aqe(f:Nat)(th:Th)(m:As)(fu root:Int)(fr fs gn:Ws)(n:Int)(key val:ByteArray)(l:Bool)(es:List En)(bs:List Br)(k:Int)(r:List Br):run P (ot f).sum Tryd.f80 adC (an8 th m fu root fr fs gn n key val l es bs k r) (inl:=[fP1])=
 Tree.need ((0:Int)≤0)
 (.need ((0:Int)≤k)
   (.need (k≤(↑bs.length:Int))
     (.need (aD (k+1))
       (.need ((0:Int)≤k+1)
         (.need (k+1≤(↑bs.length:Int))
           (.need ((↑bs.length:Int)≤(↑bs.length:Int))
             (.need ([(List.drop (Int.toNat 0) (List.take k.toNat bs),()),(r,()),(List.drop (k+1).toNat (List.take (↑bs.length:Int).toNat bs),())].length≤100)
               (.need ((bV [(List.drop (Int.toNat 0) (List.take k.toNat bs),()),(r,()),(List.drop (k+1).toNat (List.take (↑bs.length:Int).toNat bs),())]).length≤100000)
                 (.need (bu (some [AV.ptr 0 0,.s (.int .i64 n)])) (.need (bu (some [ad.own [.ptr 1 0,.s (.int .i64 root),.ints .u64 16 fr,.ints .u64 16 fs,.ints .u64 16 gn] 70,.own [.vec 2,.ag 3,.s (.int .i64 fu)] 96,.vec (.ae [.arr .u8 64] th) 138,.map (.arr .u8 64) m])) (.need (bu (some [AV.ptr 0 0,.agg [.s (.bool l),.s (.ro (.ae [.str,.str] es)),.s (.ro (.ae [.str,.int .i64] (bV [(List.drop (Int.toNat 0) (List.take k.toNat bs),()),(r,()),(List.drop (k+1).toNat (List.take (↑bs.length:Int).toNat bs),())])))]])) (.need (bu (some [ad.own [.ptr 1 0,.s (.int .i64 root),.ints .u64 16 fr,.ints .u64 16 (iU fs n),.ints .u64 16 (pb fs gn n)] 70,.own [.vec 2,.ag 3,.s (.int .i64 fu)] 96,.vec (.ae [.arr .u8 64] th) 138,.map (.arr .u8 64) m])) (.need (Ds.bI th m fu) (.need (Bx.okW fr) (.need (zF l es (bV [(List.drop (Int.toNat 0) (List.take k.toNat bs),()),(r,()),(List.drop (k+1).toNat (List.take (↑bs.length:Int).toNat bs),())])) (.need (a6 es) (.need (a7 (bV [(List.drop (Int.toNat 0) (List.take k.toNat bs),()),(r,()),(List.drop (k+1).toNat (List.take (↑bs.length:Int).toNat bs),())])) (.ret [.own [.ptr 1 0,.s (.int .i64 root),.ints .u64 16 (bk th m fu fr (iU fs n) l es (bV [(List.drop (Int.toNat 0) (List.take k.toNat bs),()),(r,()),(List.drop (k+1).toNat (List.take (↑bs.length:Int).toNat bs),())])).snd.snd.fst,.ints .u64 16 (bk th m fu fr (iU fs n) l es (bV [(List.drop (Int.toNat 0) (List.take k.toNat bs),()),(r,()),(List.drop (k+1).toNat (List.take (↑bs.length:Int).toNat bs),())])).snd.snd.snd.fst,.ints .u64 16 (pb fs gn n)] 70,.own [.vec 2,.ag 3,.s (.int .i64 (bk th m fu fr (iU fs n) l es (bV [(List.drop (Int.toNat 0) (List.take k.toNat bs),()),(r,()),(List.drop (k+1).toNat (List.take (↑bs.length:Int).toNat bs),())])).snd.fst)] 96,.vec (.ae [.arr .u8 64] th) 138,.map (.arr .u8 64) (bk th m fu fr (iU fs n) l es (bV [(List.drop (Int.toNat 0) (List.take k.toNat bs),()),(r,()),(List.drop (k+1).toNat (List.take (↑bs.length:Int).toNat bs),())])).fst,.own [.s (.str key)] 9,.own [.s (.str val)] 9,.own [.s (.bool l),.s (.ro (.ae [.str,.str] es)),.vec 9] 73,.dead,.vec (.ae wI [(List.drop (Int.toNat 0) (List.take k.toNat bs),()),(r,()),(List.drop (k+1).toNat (List.take (↑bs.length:Int).toNat bs),())]) 71,.dead,.vec (.ae [.str,.int .i64] (bk th m fu fr (iU fs n) l es (bV [(List.drop (Int.toNat 0) (List.take k.toNat bs),()),(r,()),(List.drop (k+1).toNat (List.take (↑bs.length:Int).toNat bs),())])).snd.snd.snd.snd.fst) 79] (.bh [.vec 10,.s (.int .i64 (bk th m fu fr (iU fs n) l es (bV [(List.drop (Int.toNat 0) (List.take k.toNat bs),()),(r,()),(List.drop (k+1).toNat (List.take (↑bs.length:Int).toNat bs),())])).snd.snd.snd.snd.snd)]))))))))))))))))))):=by kernel_rfl
def adD:List (Nat×Norm):=[(5,⟨[],[0,1,4,12],5,[]⟩),(10,⟨[],[0,1,2,3,4,12],5,[]⟩),(14,⟨[],[0,1,12,13,14,15],5,[]⟩),(18,⟨[],[0,1,12,14,15],5,[]⟩)]
noncomputable def asc(th:Th)(m:As)(fu root:Int)(fr fs gn:Ws)(n:Int)(key:ByteArray)(es:List En)(bs:List Br):bz:=
 ⟨sl 106 [(0,.ptr 0 0),(1,bJ n),(4,.fn fD1 [.ptr 4 0]),(12,.ptr 5 0)],qv th m fu root fr fs gn key++[obN true es bs eN],hr Tryd.f80 5,{}⟩
noncomputable def an9(th:Th)(m:As)(fu root:Int)(fr fs gn:Ws)(n deep:Int)(key:ByteArray)(l:Bool)(es:List En)(bs:List Br):bz:=
 ⟨sl 106 [(0,.ptr 0 0),(1,bJ n),(2,bJ deep),(3,.s (.str key)),(4,.fn fD1 [.ptr 4 0]),(12,.ptr 5 0)],qv th m fu root fr fs gn key++[obN l es bs eN],hr Tryd.f80 10,{}⟩
noncomputable def aoa(th:Th)(m:As)(fu root:Int)(fr fs gn:Ws)(n:Int)(key:ByteArray)(l:Bool)(es:List En)(bs:List Br)(k e:Int)(r:List Br):bz:=
 ⟨sl 106 [(0,.ptr 0 0),(1,bJ n),(12,.ptr 5 0),(13,bJ e),(14,bJ k),(15,.vec 6)],qv th m fu root fr fs gn key++[obN l es bs eN,.vec (.ae cB r) Lf.eB],hr Tryd.f80 14,{}⟩
noncomputable def aob(th:Th)(m:As)(fu root:Int)(fr fs gn:Ws)(n:Int)(key:ByteArray)(l:Bool)(es:List En)(bs:List Br)(k:Int)(r:List Br):bz:=
 ⟨sl 106 [(0,.ptr 0 0),(1,bJ n),(12,.ptr 5 0),(14,bJ k),(15,.vec 6)],qv th m fu root fr fs gn key++[obN l es bs eN,.vec (.ae cB r) Lf.eB],hr Tryd.f80 18,{}⟩
theorem aui(f:Nat)(th:Th)(m:As)(fu root:Int)(fr fs gn:Ws)(n deep:Int)(key:ByteArray):run P (ou f).sum Tryd.f80 adD (start Tryd.f80 [.ptr 0 0,bJ n,bJ deep,.s (.str key),.fn fD1 [.ptr 4 0]] (qv th m fu root fr fs gn key)) (inl:=[fD1])=
 Tree.need (bu (some [AV.ptr 0 0,.s (.int .i64 n),.s (.int .i64 deep)])) (.need (bu (some [ad.own [.ptr 1 0,.s (.int .i64 root),.ints .u64 16 fr,.ints .u64 16 fs,.ints .u64 16 gn] 70,.own [.vec 2,.ag 3,.s (.int .i64 fu)] 96,.vec (.ae [.arr .u8 64] th) 138,.map (.arr .u8 64) m])) (.need (Ds.bI th m fu) (.need (aD n) (.ite (fG th m n deep !=0) (.ret [.own [.ptr 1 0,.s (.int .i64 root),.ints .u64 16 fr,.ints .u64 16 fs,.ints .u64 16 gn] 70,.own [.vec 2,.ag 3,.s (.int .i64 fu)] 96,.vec (.ae [.arr .u8 64] th) 138,.map (.arr .u8 64) m,.own [.s (.str key)] 9,.own [.s (.bool (j7 th m n deep)),.s (.ro (.ae [.str,.str] (bK th m n deep))),.s (.ro (.ae [.str,.int .i64] (aN th m n deep)))] 73] (.bh [.emp,.s (.int .i64 (fG th m n deep))])) (.ite (j7 th m n deep) (.at (.mk (sl 106 [(0,.ptr 0 0),(1,.s (.int .i64 n)),(4,.fn 51 [.ptr 4 0]),(12,.ptr 5 0)]) [.own [.ptr 1 0,.s (.int .i64 root),.ints .u64 16 fr,.ints .u64 16 fs,.ints .u64 16 gn] 70,.own [.vec 2,.ag 3,.s (.int .i64 fu)] 96,.vec (.ae [.arr .u8 64] th) 138,.map (.arr .u8 64) m,.own [.s (.str key)] 9,.own [.s (.bool (j7 th m n deep)),.s (.ro (.ae [.str,.str] (bK th m n deep))),.s (.ro (.ae [.str,.int .i64] (aN th m n deep)))] 73] (hr Tryd.f80 5) (.mk none false 0 [] 0))) (.at (.mk (sl 106 [(0,.ptr 0 0),(1,.s (.int .i64 n)),(2,.s (.int .i64 deep)),(3,.s (.str key)),(4,.fn 51 [.ptr 4 0]),(12,.ptr 5 0)]) [.own [.ptr 1 0,.s (.int .i64 root),.ints .u64 16 fr,.ints .u64 16 fs,.ints .u64 16 gn] 70,.own [.vec 2,.ag 3,.s (.int .i64 fu)] 96,.vec (.ae [.arr .u8 64] th) 138,.map (.arr .u8 64) m,.own [.s (.str key)] 9,.own [.s (.bool (j7 th m n deep)),.s (.ro (.ae [.str,.str] (bK th m n deep))),.s (.ro (.ae [.str,.int .i64] (aN th m n deep)))] 73] (hr Tryd.f80 10) (.mk none false 0 [] 0)))))))):=by kernel_rfl
theorem asd(f:Nat)(th:Th)(m:As)(fu root:Int)(fr fs gn:Ws)(n:Int)(key:ByteArray)(es:List En)(bs:List Br):run P (ou f).sum Tryd.f80 adD (asc th m fu root fr fs gn n key es bs) (inl:=[fD1])=
 Tree.need (es.length≤100000) (.need (iv (bA es)) (.ite (!gR es key) (.ret [.own [.ptr 1 0,.s (.int .i64 root),.ints .u64 16 fr,.ints .u64 16 fs,.ints .u64 16 gn] 70,.own [.vec 2,.ag 3,.s (.int .i64 fu)] 96,.vec (.ae [.arr .u8 64] th) 138,.map (.arr .u8 64) m,.own [.s (.str key)] 9,.own [.s (.bool true),.emp,.s (.ro (.ae [.str,.int .i64] bs))] 73,.vec (.ae [.str,.str] (cw es key)) 34] (.bh [.emp,.s (.aZ .i64 5)])) (.need (bu (some [AV.ptr 0 0,.s (.int .i64 n)])) (.need (bu (some [ad.own [.ptr 1 0,.s (.int .i64 root),.ints .u64 16 fr,.ints .u64 16 fs,.ints .u64 16 gn] 70,.own [.vec 2,.ag 3,.s (.int .i64 fu)] 96,.vec (.ae [.arr .u8 64] th) 138,.map (.arr .u8 64) m])) (.need (bu (some [AV.ptr 0 0,.agg [.s (.bool true),.s (.ro (.ae [.str,.str] (cw es key))),.s (.ro (.ae [.str,.int .i64] bs))]])) (.need (bu (some [ad.own [.ptr 1 0,.s (.int .i64 root),.ints .u64 16 fr,.ints .u64 16 (iU fs n),.ints .u64 16 (pb fs gn n)] 70,.own [.vec 2,.ag 3,.s (.int .i64 fu)] 96,.vec (.ae [.arr .u8 64] th) 138,.map (.arr .u8 64) m])) (.need (Ds.bI th m fu) (.need (Bx.okW fr) (.need (zF true (cw es key) bs) (.need (a6 (cw es key)) (.need (a7 bs) (.ret [.own [.ptr 1 0,.s (.int .i64 root),.ints .u64 16 (bk th m fu fr (iU fs n) true (cw es key) bs).snd.snd.fst,.ints .u64 16 (bk th m fu fr (iU fs n) true (cw es key) bs).snd.snd.snd.fst,.ints .u64 16 (pb fs gn n)] 70,.own [.vec 2,.ag 3,.s (.int .i64 (bk th m fu fr (iU fs n) true (cw es key) bs).snd.fst)] 96,.vec (.ae [.arr .u8 64] th) 138,.map (.arr .u8 64) (bk th m fu fr (iU fs n) true (cw es key) bs).fst,.own [.s (.str key)] 9,.own [.s (.bool true),.vec 6,.s (.ro (.ae [.str,.int .i64] bs))] 73,.dead,.vec (.ae [.str,.int .i64] (bk th m fu fr (iU fs n) true (cw es key) bs).snd.snd.snd.snd.fst) 79] (.bh [.vec 7,.s (.int .i64 (bk th m fu fr (iU fs n) true (cw es key) bs).snd.snd.snd.snd.snd)]))))))))))))):=by kernel_rfl
theorem aqf(f:Nat)(th:Th)(m:As)(fu root:Int)(fr fs gn:Ws)(n deep:Int)(key:ByteArray)(l:Bool)(es:List En)(bs:List Br):run P (ou f).sum Tryd.f80 adD (an9 th m fu root fr fs gn n deep key l es bs) (inl:=[fD1])=
 Tree.ite ((↑bs.length:Int)==0) (.ret [.own [.ptr 1 0,.s (.int .i64 root),.ints .u64 16 fr,.ints .u64 16 fs,.ints .u64 16 gn] 70,.own [.vec 2,.ag 3,.s (.int .i64 fu)] 96,.vec (.ae [.arr .u8 64] th) 138,.map (.arr .u8 64) m,.own [.s (.str key)] 9,.own [.s (.bool l),.s (.ro (.ae [.str,.str] es)),.s (.ro (.ae [.str,.int .i64] bs))] 73] (.bh [.emp,.s (.aZ .i64 4)])) (.need (bs.length≤1000000) (.need (iv (mc bs)) (.need ((0:Int)≤aT bs key) (.need (aT bs key<(↑bs.length:Int)) (.need (aD (deep+1)) (.need (bu (some [AV.ptr 0 0,.s (.int .i64 (bs.getD (aT bs key).toNat (CL.d [.str,.int .i64])).snd.fst),.s (.int .i64 (deep+1)),.s (.str key),.fn 51 [.ptr 4 0]])) (.need (bu (some [ad.own [.ptr 1 0,.s (.int .i64 root),.ints .u64 16 fr,.ints .u64 16 fs,.ints .u64 16 gn] 70,.own [.vec 2,.ag 3,.s (.int .i64 fu)] 96,.vec (.ae [.arr .u8 64] th) 138,.map (.arr .u8 64) m,.own [.s (.str key)] 9])) (.need (Ds.bI th m fu) (.need (Bx.okW fr) (.need ((0:Int)≤(bs.getD (aT bs key).toNat (CL.d [.str,.int .i64])).snd.fst∧(bs.getD (aT bs key).toNat (CL.d [.str,.int .i64])).snd.fst≤65536) (.need ((1:Int)≤deep+1∧deep+1≤17) (.need ((18:Int)≤deep+1+(↑f:Int)) (.need ((1:Nat)≤key.size∧key.size≤24) (.need (ByteArray.empty.size≤100) (.at (.mk (sl 106 [(0,.ptr 0 0),(1,.s (.int .i64 n)),(12,.ptr 5 0),(13,.s (.int .i64 (rJ th key none f m fu fr fs gn (bs.getD (aT bs key).toNat (CL.d [.str,.int .i64])).snd.fst (deep+1)))),(14,.s (.int .i64 (aT bs key))),(15,.vec 6)]) [.own [.ptr 1 0,.s (.int .i64 root),.ints .u64 16 (pj th key none f m fu fr fs gn (bs.getD (aT bs key).toNat (CL.d [.str,.int .i64])).snd.fst (deep+1)),.ints .u64 16 (qw th key none f m fu fr fs gn (bs.getD (aT bs key).toNat (CL.d [.str,.int .i64])).snd.fst (deep+1)),.ints .u64 16 (rI th key none f m fu fr fs gn (bs.getD (aT bs key).toNat (CL.d [.str,.int .i64])).snd.fst (deep+1))] 70,.own [.vec 2,.ag 3,.s (.int .i64 (ph th key none f m fu fr fs gn (bs.getD (aT bs key).toNat (CL.d [.str,.int .i64])).snd.fst (deep+1)))] 96,.vec (.ae [.arr .u8 64] th) 138,.map (.arr .u8 64) (pf th key none f m fu fr fs gn (bs.getD (aT bs key).toNat (CL.d [.str,.int .i64])).snd.fst (deep+1)),.own [.s (.str key)] 9,.own [.s (.bool l),.s (.ro (.ae [.str,.str] es)),.s (.ro (.ae [.str,.int .i64] bs))] 73,.vec (.ae [.str,.int .i64] (sN th key none f m fu fr fs gn (bs.getD (aT bs key).toNat (CL.d [.str,.int .i64])).snd.fst (deep+1))) 79] (hr Tryd.f80 14) (.mk none false 0 [] 0))))))))))))))))):=by kernel_rfl
theorem aqg(f:Nat)(th:Th)(m:As)(fu root:Int)(fr fs gn:Ws)(n:Int)(key:ByteArray)(l:Bool)(es:List En)(bs:List Br)(k e:Int)(r:List Br):run P (ou f).sum Tryd.f80 adD (aoa th m fu root fr fs gn n key l es bs k e r) (inl:=[fD1])=
 Tree.ite (e !=0) (.ret [.own [.ptr 1 0,.s (.int .i64 root),.ints .u64 16 fr,.ints .u64 16 fs,.ints .u64 16 gn] 70,.own [.vec 2,.ag 3,.s (.int .i64 fu)] 96,.vec (.ae [.arr .u8 64] th) 138,.map (.arr .u8 64) m,.own [.s (.str key)] 9,.own [.s (.bool l),.s (.ro (.ae [.str,.str] es)),.s (.ro (.ae [.str,.int .i64] bs))] 73,.vec (.ae [.str,.int .i64] r) 79] (.bh [.emp,.s (.int .i64 e)])) (.ite (decide ((↑r.length:Int)>0)) (.need ((0:Int)≤k) (.need (k<(↑bs.length:Int)) (.need ((0:Int)≤0) (.need ((0:Int)<(↑r.length:Int)) (.at (.mk (sl 106 [(0,.ptr 0 0),(1,.s (.int .i64 n)),(12,.ptr 5 0),(14,.s (.int .i64 k)),(15,.vec 6)]) [.own [.ptr 1 0,.s (.int .i64 root),.ints .u64 16 fr,.ints .u64 16 fs,.ints .u64 16 gn] 70,.own [.vec 2,.ag 3,.s (.int .i64 fu)] 96,.vec (.ae [.arr .u8 64] th) 138,.map (.arr .u8 64) m,.own [.s (.str key)] 9,.own [.s (.bool l),.s (.ro (.ae [.str,.str] es)),.s (.ro (.ae [.str,.int .i64] bs))] 73,.vec (.ae [.str,.int .i64] (r.set 0 ((bs.getD k.toNat (CL.d [.str,.int .i64])).fst,(r.getD 0 (CL.d [.str,.int .i64])).snd))) 79] (hr Tryd.f80 18) (.mk none false 0 [] 0))))))) (.at (.mk (sl 106 [(0,.ptr 0 0),(1,.s (.int .i64 n)),(12,.ptr 5 0),(14,.s (.int .i64 k)),(15,.vec 6)]) [.own [.ptr 1 0,.s (.int .i64 root),.ints .u64 16 fr,.ints .u64 16 fs,.ints .u64 16 gn] 70,.own [.vec 2,.ag 3,.s (.int .i64 fu)] 96,.vec (.ae [.arr .u8 64] th) 138,.map (.arr .u8 64) m,.own [.s (.str key)] 9,.own [.s (.bool l),.s (.ro (.ae [.str,.str] es)),.s (.ro (.ae [.str,.int .i64] bs))] 73,.vec (.ae [.str,.int .i64] r) 79] (hr Tryd.f80 18) (.mk none false 0 [] 0)))):=by kernel_rfl
theorem aqh(f:Nat)(th:Th)(m:As)(fu root:Int)(fr fs gn:Ws)(n:Int)(key:ByteArray)(l:Bool)(es:List En)(bs:List Br)(k:Int)(r:List Br):run P (ou f).sum Tryd.f80 adD (aob th m fu root fr fs gn n key l es bs k r) (inl:=[fD1])=
 Tree.need ((0:Int)≤0)
 (.need ((0:Int)≤k)
   (.need (k≤(↑bs.length:Int))
     (.need (aD (k+1))
       (.need ((0:Int)≤k+1)
         (.need (k+1≤(↑bs.length:Int))
           (.need ((↑bs.length:Int)≤(↑bs.length:Int))
             (.need ([(List.drop (Int.toNat 0) (List.take k.toNat bs),()),(r,()),(List.drop (k+1).toNat (List.take (↑bs.length:Int).toNat bs),())].length≤100)
               (.need ((bV [(List.drop (Int.toNat 0) (List.take k.toNat bs),()),(r,()),(List.drop (k+1).toNat (List.take (↑bs.length:Int).toNat bs),())]).length≤100000)
                 (.need (bu (some [AV.ptr 0 0,.s (.int .i64 n)])) (.need (bu (some [ad.own [.ptr 1 0,.s (.int .i64 root),.ints .u64 16 fr,.ints .u64 16 fs,.ints .u64 16 gn] 70,.own [.vec 2,.ag 3,.s (.int .i64 fu)] 96,.vec (.ae [.arr .u8 64] th) 138,.map (.arr .u8 64) m])) (.need (bu (some [AV.ptr 0 0,.agg [.s (.bool l),.s (.ro (.ae [.str,.str] es)),.s (.ro (.ae [.str,.int .i64] (bV [(List.drop (Int.toNat 0) (List.take k.toNat bs),()),(r,()),(List.drop (k+1).toNat (List.take (↑bs.length:Int).toNat bs),())])))]])) (.need (bu (some [ad.own [.ptr 1 0,.s (.int .i64 root),.ints .u64 16 fr,.ints .u64 16 (iU fs n),.ints .u64 16 (pb fs gn n)] 70,.own [.vec 2,.ag 3,.s (.int .i64 fu)] 96,.vec (.ae [.arr .u8 64] th) 138,.map (.arr .u8 64) m])) (.need (Ds.bI th m fu) (.need (Bx.okW fr) (.need (zF l es (bV [(List.drop (Int.toNat 0) (List.take k.toNat bs),()),(r,()),(List.drop (k+1).toNat (List.take (↑bs.length:Int).toNat bs),())])) (.need (a6 es) (.need (a7 (bV [(List.drop (Int.toNat 0) (List.take k.toNat bs),()),(r,()),(List.drop (k+1).toNat (List.take (↑bs.length:Int).toNat bs),())])) (.ret [.own [.ptr 1 0,.s (.int .i64 root),.ints .u64 16 (bk th m fu fr (iU fs n) l es (bV [(List.drop (Int.toNat 0) (List.take k.toNat bs),()),(r,()),(List.drop (k+1).toNat (List.take (↑bs.length:Int).toNat bs),())])).snd.snd.fst,.ints .u64 16 (bk th m fu fr (iU fs n) l es (bV [(List.drop (Int.toNat 0) (List.take k.toNat bs),()),(r,()),(List.drop (k+1).toNat (List.take (↑bs.length:Int).toNat bs),())])).snd.snd.snd.fst,.ints .u64 16 (pb fs gn n)] 70,.own [.vec 2,.ag 3,.s (.int .i64 (bk th m fu fr (iU fs n) l es (bV [(List.drop (Int.toNat 0) (List.take k.toNat bs),()),(r,()),(List.drop (k+1).toNat (List.take (↑bs.length:Int).toNat bs),())])).snd.fst)] 96,.vec (.ae [.arr .u8 64] th) 138,.map (.arr .u8 64) (bk th m fu fr (iU fs n) l es (bV [(List.drop (Int.toNat 0) (List.take k.toNat bs),()),(r,()),(List.drop (k+1).toNat (List.take (↑bs.length:Int).toNat bs),())])).fst,.own [.s (.str key)] 9,.own [.s (.bool l),.s (.ro (.ae [.str,.str] es)),.vec 8] 73,.dead,.vec (.ae wI [(List.drop (Int.toNat 0) (List.take k.toNat bs),()),(r,()),(List.drop (k+1).toNat (List.take (↑bs.length:Int).toNat bs),())]) 71,.dead,.vec (.ae [.str,.int .i64] (bk th m fu fr (iU fs n) l es (bV [(List.drop (Int.toNat 0) (List.take k.toNat bs),()),(r,()),(List.drop (k+1).toNat (List.take (↑bs.length:Int).toNat bs),())])).snd.snd.snd.snd.fst) 79] (.bh [.vec 9,.s (.int .i64 (bk th m fu fr (iU fs n) l es (bV [(List.drop (Int.toNat 0) (List.take k.toNat bs),()),(r,()),(List.drop (k+1).toNat (List.take (↑bs.length:Int).toNat bs),())])).snd.snd.snd.snd.snd)]))))))))))))))))))):=by kernel_rfl
end Ts
namespace Ts
open Go Go.Sx Go.Proofs Lf
def TN:Nat→Type
 |0=>Int×List En
 |h+1=>Int×List (ByteArray×TN h)
abbrev Kd(h:Nat):Type:=ByteArray×TN h
def pg:(h:Nat)→TN h→Int
 |0,t=>t.1
 |_+1,t=>t.1
def dV:(h:Nat)→TN h→List En
 |0,t=>t.2
 |h+1,t=>t.2.flatMap fun k=>dV h k.2
def nm:(h:Nat)→TN h→List Int
 |0,t=>[t.1]
 |h+1,t=>t.1::t.2.flatMap fun k=>nm h k.2
def cH(h:Nat)(k:Kd h):Br:=(k.1,pg h k.2,())
def bQ(h:Nat)(ks:List (Kd h)):List En:=ks.flatMap fun k=>dV h k.2
def bM(h:Nat)(ks:List (Kd h)):List Int:=ks.flatMap fun k=>nm h k.2
def rep(th:Th)(m:As):(h:Nat)→TN h→Prop
 |0,t=>Rd th m t.1 true t.2 []
 |h+1,t=>Rd th m t.1 false [] (t.2.map (cH h))∧∀k∈t.2,rep th m h k.2
def abH(h:Nat)(ks:List (Kd h)):Prop:=ks.Pairwise (fun a b=>∀e∈dV h a.2,slt e.1 b.1=true)∧∀k∈ks,∀e∈dV h k.2,slt e.1 k.1=false
def bR{h:Nat}:List (Kd h)→List (Kd h)
 |[]=>[]
 |k::r=>(ByteArray.empty,k.2)::r
def bW{h:Nat}(s:ByteArray):List (Kd h)→List (Kd h)
 |[]=>[]
 |k::r=>(s,k.2)::r
def mm(h:Nat)(ks:List (Kd h)):Int:=bd [] (ks.map (cH h))
def qc:(h:Nat)→TN h→Prop
 |0,t=>t.2≠[]∧jt t.2=true∧bd t.2 []≤254
 |h+1,t=>t.2≠[]∧bR t.2=t.2∧gq (t.2.map (cH h))=true∧mm h t.2≤254∧abH h t.2∧∀k∈t.2,qc h k.2
def zW(n:Int):Nat:=(n - 155).toNat
def tm:(h:Nat)→TN h→Nat
 |0,_=>0
 |h+1,t=>3^(h+1)*(19+zW (mm h t.2))+(t.2.map fun k=>tm h k.2).sum
def eR(h:Nat)(ks:List (Kd h)):Nat:=(ks.map fun k=>tm h k.2).sum
theorem agW{h:Nat}(t:TN (h+1)):dV (h+1) t=bQ h t.2:=rfl
theorem ajC{h:Nat}(t:TN (h+1)):tm (h+1) t=3^(h+1)*(19+zW (mm h t.2))+eR h t.2:=rfl
theorem vD:∀(h:Nat) (t:TN h),pg h t∈nm h t
 |0,t=>List.mem_singleton.2 rfl
 |h+1,t=>List.mem_cons_self
theorem qx:∀(h:Nat) {t:TN h},qc h t→dV h t≠[]
 |0,t,ok=>ok.1
 |h+1,t,ok=>by
  obtain⟨h1,_,_,_,_,h6⟩:=ok
  obtain⟨k,r,e⟩:=List.exists_cons_of_ne_nil h1
  have:=qx h (h6 k (by rw[e];exact List.mem_cons_self))
  rw[agW,e]
  show dV h k.2++_≠[]
  intro hn
  exact this (List.append_eq_nil_iff.1 hn).1
theorem jC{h:Nat}(a b:List (Kd h)):bQ h (a++b)=bQ h a++bQ h b:=List.flatMap_append
theorem qy{h:Nat}(a b:List (Kd h)):bM h (a++b)=bM h a++bM h b:=List.flatMap_append
theorem qz{h:Nat}(a b:List (Kd h)):eR h (a++b)=eR h a+eR h b:=by simp[eR]
theorem jU{h:Nat}(k:Kd h)(r:List (Kd h)):bQ h (k::r)=dV h k.2++bQ h r:=rfl
theorem jD{h:Nat}(k:Kd h)(r:List (Kd h)):bM h (k::r)=nm h k.2++bM h r:=rfl
theorem ic{h:Nat}(k:Kd h)(r:List (Kd h)):eR h (k::r)=tm h k.2+eR h r:=by simp[eR]
theorem jE{h:Nat}(ks:List (Kd h)):aa (ks.map (cH h))=(bR ks).map (cH h):=by cases ks<;>rfl
theorem abI{h:Nat}(s:ByteArray)(ks:List (Kd h)):kK s (ks.map (cH h))=(bW s ks).map (cH h):=by cases ks<;>rfl
theorem agX(s s':ByteArray)(l:List Br):kK s (kK s' l)=kK s l:=by cases l<;>rfl
theorem vE{h:Nat}(ks:List (Kd h)):bR (bR ks)=bR ks:=by cases ks<;>rfl
theorem agY{h:Nat}(s:ByteArray)(ks:List (Kd h)):bR (bW s ks)=bR ks:=by cases ks<;>rfl
theorem pn{h:Nat}(ks:List (Kd h)):bQ h (bR ks)=bQ h ks:=by cases ks<;>rfl
theorem xX{h:Nat}(ks:List (Kd h)):bM h (bR ks)=bM h ks:=by cases ks<;>rfl
theorem xY{h:Nat}(ks:List (Kd h)):eR h (bR ks)=eR h ks:=by cases ks<;>rfl
theorem agZ{h:Nat}(s:ByteArray)(ks:List (Kd h)):bQ h (bW s ks)=bQ h ks:=by cases ks<;>rfl
theorem ajD{h:Nat}(s:ByteArray)(ks:List (Kd h)):bM h (bW s ks)=bM h ks:=by cases ks<;>rfl
theorem ajE{h:Nat}(s:ByteArray)(ks:List (Kd h)):eR h (bW s ks)=eR h ks:=by cases ks<;>rfl
theorem gm{h:Nat}{ks:List (Kd h)}{k:Kd h}(hk:k∈bR ks):∃k'∈ks,k'.2=k.2∧(k.1=ByteArray.empty∨k=k'):=by
 cases ks with
 |nil=>cases hk
 |cons a r=>
  rcases List.mem_cons.1 hk with rfl|h
  ·exact⟨a,List.mem_cons_self,rfl,.inl rfl⟩
  ·exact⟨k,List.mem_cons_of_mem _ h,rfl,.inr rfl⟩
theorem vF(x:Br):3≤o8 x:=by unfold o8;omega
theorem ajF(x:En):2≤px x:=by unfold px;omega
def gS(bs:List Br):Int:=(bs.map o8).sum
theorem nn:gS []=0:=rfl
theorem c8(b:Br)(r:List Br):gS (b::r)=o8 b+gS r:=by simp[gS]
theorem vG(a b:List Br):gS (a++b)=gS a+gS b:=by simp[gS]
theorem amk(bs:List Br):0≤gS bs:=by
 induction bs with
 |nil=>simp[nn]
 |cons b r ih=>rw[c8];have:=vF b;omega
theorem adE{h:Nat}(ks:List (Kd h)):mm h ks=1+gS (ks.map (cH h)):=by
 unfold mm bd gS
 simp
theorem rK(bs:List Br):gS (aa bs)≤gS bs:=by
 cases bs with
 |nil=>exact Int.le_refl _
 |cons b r=>
  rw[aa,c8,c8]
  have:o8 (ByteArray.empty,b.2.1,())=3:=rfl
  have:=vF b
  omega
theorem fO{bs:List Br}:gq bs=true↔(∀b∈bs,b.1.size≤24∧2≤b.2.1∧b.2.1<1024)∧bs.Pairwise fun a b=>slt a.1 b.1=true:=by
 constructor
 ·intro h
  refine⟨fun b hb=>abm h hb, ?_⟩
  have hs:=apy h
  rw[List.pairwise_iff_getElem]
  intro i j hi hj kY
  have:=hs i j kY (by simpa using hj)
  rw[cq bs agz dB i,cq bs agz dB j,bg hi,bg hj]at this
  exact this
 ·rintro⟨h1,h2⟩
  refine cN.2 fun i hi=>qq.2 ?_
  obtain⟨a,b,c⟩:=h1 (bs.getD i dB) (by rw[bg hi];exact List.getElem_mem hi)
  refine⟨by omega,by omega,by omega,fun h0=> ?_⟩
  rw[List.pairwise_iff_getElem]at h2
  have:=h2 (i - 1) i (by omega) hi (by omega)
  rw[bg (by omega),bg hi]
  exact this
theorem aml{a b:ByteArray}(h:slt a b=true):slt ByteArray.empty b=true:=by
 rcases hY ByteArray.empty b with h1|h1|h1
 ·exact h1
 ·subst h1;rw[gk]at h;cases h
 ·rw[gk]at h1;cases h1
theorem xZ{bs:List Br}(h:gq bs=true):gq (aa bs)=true:=by
 rw[fO]at h ⊢
 cases bs with
 |nil=>exact h
 |cons b r=>
  obtain⟨h1,h2⟩:=h
  rw[List.pairwise_cons]at h2
  refine⟨fun x hx=> ?_, ?_⟩
  ·rcases List.mem_cons.1 hx with rfl|hx
   ·have:=h1 b List.mem_cons_self
    exact⟨Nat.zero_le 24,this.2⟩
   ·exact h1 x (List.mem_cons_of_mem _ hx)
  ·rw[aa,List.pairwise_cons]
   exact⟨fun x hx=>aml (h2.1 x hx),h2.2⟩
theorem abJ{es:List En}:jt es=true↔(∀e∈es,1≤e.1.size∧e.1.size≤24∧e.2.1.size≤100)∧iv (bA es):=by
 constructor
 ·intro h
  refine⟨fun e he=> ?_,arD h⟩
  obtain⟨i,hi,rfl⟩:=List.getElem_of_mem he
  obtain⟨a,b,c,_⟩:=nL.1 (cN.1 h i hi)
  rw[bg hi]at a b c
  exact⟨by omega,by omega,by omega⟩
 ·rintro⟨h1,h2⟩
  refine cN.2 fun i hi=>nL.2 ?_
  obtain⟨a,b,c⟩:=h1 (es.getD i dE) (by rw[bg hi];exact List.getElem_mem hi)
  refine⟨by omega,by omega,by omega,fun h0=> ?_⟩
  have:=h2 (i - 1) i (by omega) (by simpa using hi)
  rw[cq es oZ dE,cq es oZ dE]at this
  exact this
end Ts
namespace Ts
open Go Go.Sx Go.Proofs Lf
structure S5 where
 m:As
 fu:Int
 fr:Ws
 fs:Ws
 gn:Ws
structure xr (th:Th) (s:S5):Prop where
 d:Ds.bI th s.m s.fu
 fr:Bx.okW s.fr
 fs:Bx.okW s.fs
 gn:Bx.okW s.gn
 pg:∀p,In s.fr p→2≤p∧Ds.s9 th p=true
structure qA (th:Th) (s t:S5) (N V:List Int):Prop where
 ok:xr th t
 nd:N.Nodup
 sub:∀p∈N,In s.fr p
 fr:∀p,In t.fr p↔In s.fr p∧p ∉ N
 fs:∀p,In t.fs p↔(In s.fs p∧p ∉ V)∨p∈N
 gn:∀p,In t.gn p↔In s.gn p∨(In s.fs p∧p∈V)
 rd:∀p,¬In s.fr p→Ds.iM th t.m p=Ds.iM th s.m p∧Ds.gu th t.m p=Ds.gu th s.m p
 fu:s.fu= -1→t.fu= -1
def wS(th:Th)(s:S5)(l:Bool)(es:List En)(bs:List Br):S5:=
 ⟨(bF th s.m s.fu s.fr s.fs l es bs).1,(bF th s.m s.fu s.fr s.fs l es bs).2.1,(bF th s.m s.fu s.fr s.fs l es bs).2.2.1,(bF th s.m s.fu s.fr s.fs l es bs).2.2.2.1,s.gn⟩
def wE(th:Th)(s:S5)(l:Bool)(es:List En)(bs:List Br):Int:=(bF th s.m s.fu s.fr s.fs l es bs).2.2.2.2.2
def wB(th:Th)(s:S5)(l:Bool)(es:List En)(bs:List Br):Br:=(bF th s.m s.fu s.fr s.fs l es bs).2.2.2.2.1
theorem ag0{zs:List Int}(h:∀x∈zs,3≤x∧x≤27)(h1:253<zs.sum)(h2:zs.sum≤280):2≤zs.length∧jg zs (gJ zs (zs.length - 1)).1≤153:=by
 have hb:=(nH (l:=zs) (m:=27) (fun x hx=>⟨by have:=(h x hx).1;omega,(h x hx).2⟩) (by omega)).2
 have hl:2≤zs.length:=by omega
 refine⟨hl, ?_⟩
 obtain⟨k,hk,k1,k2⟩:=pd (p:=fun k=>(zs.take k).sum) (c:=127) zs.length (by simp) (by simp only[List.take_length];omega)
 have k1:(zs.take k).sum<127:=k1
 have k2:127≤(zs.take (k+1)).sum:=k2
 have k3:=ix hk
 have k4:zs.getD k 0≤27:=by rw[bg hk];exact(h _ (List.getElem_mem _)).2
 have k5:k+1<zs.length:=by
  rcases Nat.lt_or_ge (k+1) zs.length with h|h
  ·exact h
  ·rw[List.take_of_length_le h]at k3;omega
 have m:=qt zs (zs.length - 1) (k+1) (by omega) (by omega)
 rw[vB _ _ (by omega)]at m
 refine Int.le_trans m ?_
 unfold jg imax
 split<;>omega
theorem afa{bs:List Br}:3*(bs.length:Int)≤gS bs:=by
 induction bs with
 |nil=>simp[nn]
 |cons b r ih=>rw[c8,List.length_cons];have:=vF b;omega
theorem qB(bs:List Br):bd [] bs=1+gS bs:=by simp[bd,gS]
theorem vH(es:List En):bd es []=1+(es.map px).sum:=by simp[bd]
theorem amm{bs:List Br}(h:gq bs=true):cW false [] bs=true:=tg (fun e=>by cases e) (fun _=>rfl) rfl h
theorem ase{es:List En}(h:jt es=true):cW true es []=true:=tg (fun _=>rfl) (fun e=>by cases e) h rfl
theorem ajG{bs:List Br}(jr:gq bs=true)(h1:254<bd [] bs)(h2:bd [] bs≤281):
 di false [] bs=true∧bd [] (a8 false [] bs)≤154∧bd [] (cQ false [] bs)≤154∧
  ∃k,0<k∧k<bs.length∧a8 false [] bs=bs.take k∧cQ false [] bs=bs.drop k∧aY false [] bs=[]∧cI false [] bs=[]∧bL false [] bs=false:=by
 rw[qB]at h1 h2
 have e0:aE [] bs=bs.map o8:=by simp[aE]
 have hz:∀x∈bs.map o8,3≤x∧x≤27:=fun x hx=>by
  obtain⟨y,hy,rfl⟩:=List.mem_map.1 hx
  have:=abm jr hy
  unfold o8;omega
 obtain⟨b1,b2⟩:=ag0 hz (by unfold gS at h1;omega) (by unfold gS at h2;omega)
 rw[List.length_map]at b1 b2
 have ok:di false [] bs=true:=by
  simp only[di,amm jr,Bool.true_and,decide_eq_true_eq,List.length_nil];omega
 have hsm:a7 bs:=⟨by have:=afa (bs:=bs);omega,fun x hx=>by have:=abm jr hx;omega⟩
 obtain⟨_,_,_,_,_,_,_,_,_,f0,f⟩:=rG ok ia hsm
 rw[e0]at f
 have f2:jg (bs.map o8) (dI [] bs)≤153:=by rw[dI,e0,List.length_nil,Nat.zero_add];exact b2
 have p1:=nh (aE [] bs) (([]:List En).length+bs.length - 1) (by simp;omega)
 have p2:=nI (aE [] bs) (([]:List En).length+bs.length - 1)
 simp only[List.length_nil,Nat.zero_add]at p1 p2
 have e1:aY false [] bs=[]:=by unfold aY;rw[if_pos ok,List.take_nil]
 have e2:cI false [] bs=[]:=by unfold cI;rw[if_pos ok,List.drop_nil]
 rw[e1,e2]at f
 unfold imax at f
 refine⟨ok, ?_, ?_,dI [] bs,by unfold dI;simp only[List.length_nil,Nat.zero_add];exact p1,by unfold dI;simp only[List.length_nil,Nat.zero_add];omega,by unfold a8;rw[if_pos ok],by unfold cQ;rw[if_pos ok],e1,e2,by unfold bL;rw[ok];rfl⟩
 ·split at f<;>omega
 ·split at f<;>omega
theorem afb{es:List En}:2*(es.length:Int)≤(es.map px).sum:=by
 induction es with
 |nil=>simp
 |cons b r ih=>rw[List.map_cons,List.sum_cons,List.length_cons];have:=ajF b;omega
theorem ajH{es:List En}{key val:ByteArray}(jr:jt (bt es key val)=true)(h0:bd es []≤254)(h1:¬bd (bt es key val) []≤254):
 di true (bt es key val) []=true∧bd (aY true (bt es key val) []) []≤254∧bd (cI true (bt es key val) []) []≤254∧
  ∃k,0<k∧k<(bt es key val).length∧aY true (bt es key val) []=(bt es key val).take k∧cI true (bt es key val) []=(bt es key val).drop k∧a8 true (bt es key val) []=[]∧cQ true (bt es key val) []=[]∧bL true (bt es key val) []=true:=by
 have hl:es.length≤200:=by
  have:=afb (es:=es)
  rw[vH]at h0
  omega
 obtain⟨ok,f1,f2⟩:=agT hl h0 (ase jr) h1
 generalize bt es key val=xs at jr h1 ok f1 f2 ⊢
 have e1:a8 true xs []=[]:=by unfold a8;rw[if_pos ok,List.take_nil]
 have e2:cQ true xs []=[]:=by unfold cQ;rw[if_pos ok,List.drop_nil]
 rw[e1]at f1
 rw[e2]at f2
 have h2:2≤xs.length:=by
  simp only[di,Bool.and_eq_true,decide_eq_true_eq,List.length_nil]at ok
  omega
 have p1:=nh (aE xs []) (xs.length+([]:List Br).length - 1) (by simp;omega)
 have p2:=nI (aE xs []) (xs.length+([]:List Br).length - 1)
 simp only[List.length_nil,Nat.add_zero]at p1 p2
 exact⟨ok,f1,f2,dI xs [],by unfold dI;simp only[List.length_nil,Nat.add_zero];exact p1,by unfold dI;simp only[List.length_nil,Nat.add_zero];omega,by unfold aY;rw[if_pos ok],by unfold cI;rw[if_pos ok],e1,e2,by unfold bL;rw[ok];rfl⟩
theorem gM{th:Th}{s:S5}(h:xr th s):qA th s s [] []:=
 ⟨h,List.nodup_nil,fun p hp=>(by cases hp),fun p=>⟨fun x=>⟨x,List.not_mem_nil⟩,fun x=>x.1⟩,fun p=>⟨fun x=>.inl ⟨x,List.not_mem_nil⟩,fun x=>x.elim (fun y=>y.1) (fun y=>by cases y)⟩,
   fun p=>⟨.inl,fun x=>x.elim id (fun y=>by cases y.2)⟩,fun p _=>⟨rfl,rfl⟩,id⟩
theorem eK{th:Th}{s t u:S5}{N1 N2 V1 V2:List Int}(h1:qA th s t N1 V1)(h2:qA th t u N2 V2)(hd:∀p∈V2,p ∉ N1):qA th s u (N1++N2) (V1++V2)where
 ok:=h2.ok
 nd:=List.nodup_append.2 ⟨h1.nd,h2.nd,fun a ha b hb e=>by subst e;exact((h1.fr a).1 (h2.sub a hb)).2 ha⟩
 sub:=fun p hp=>(List.mem_append.1 hp).elim (h1.sub p) (fun h=>((h1.fr p).1 (h2.sub p h)).1)
 fr:=fun p=>by rw[h2.fr,h1.fr,List.mem_append,not_or,and_assoc]
 fs:=fun p=>by
  rw[h2.fs,h1.fs,List.mem_append,List.mem_append,not_or]
  constructor
  ·rintro(⟨⟨a,b⟩|a,c⟩|a)
   ·exact .inl ⟨a,b,c⟩
   ·exact .inr (.inl a)
   ·exact .inr (.inr a)
  ·rintro(⟨a,b,c⟩|a|a)
   ·exact .inl ⟨.inl ⟨a,b⟩,c⟩
   ·exact .inl ⟨.inr a,fun h=>hd p h a⟩
   ·exact .inr a
 gn:=fun p=>by
  rw[h2.gn,h1.gn,h1.fs,List.mem_append]
  constructor
  ·rintro((a|⟨a,b⟩)|⟨⟨a,b⟩|a,c⟩)
   ·exact .inl a
   ·exact .inr ⟨a,.inl b⟩
   ·exact .inr ⟨a,.inr c⟩
   ·exact absurd a (hd p c)
  ·rintro(a|⟨a,b|b⟩)
   ·exact .inl (.inl a)
   ·exact .inl (.inr ⟨a,b⟩)
   ·by_cases hv:p∈V1
    ·exact .inl (.inr ⟨a,hv⟩)
    ·exact .inr ⟨.inl ⟨a,hv⟩,b⟩
 rd:=fun p hp=>by
  have a:=h1.rd p hp
  have b:=h2.rd p (fun h=>hp ((h1.fr p).1 h).1)
  exact⟨b.1.trans a.1,b.2.trans a.2⟩
 fu:=fun h=>h2.fu (h1.fu h)
theorem qA.rep{th:Th}{s t:S5}{N V:List Int}(h:qA th s t N V):∀(k:Nat) {x:TN k},Ts.rep th s.m k x→(∀p∈nm k x,¬In s.fr p)→Ts.rep th t.m k x
 |0,x,hr,hp=>Rd.same hr (h.rd _ (hp _ (vD 0 x)))
 |k+1,x,hr,hp=>⟨Rd.same hr.1 (h.rd _ (hp _ (vD (k+1) x))),fun y hy=>h.rep k (hr.2 y hy) fun p jV=>hp p (List.mem_cons_of_mem _ (List.mem_flatMap.2 ⟨y,hy,jV⟩))⟩
theorem adF{th:Th}{s:S5}(h:xr th s)(n:Int):qA th s ⟨s.m,s.fu,s.fr,iU s.fs n,pb s.fs s.gn n⟩ [] [n]:=by
 have r:In s.fs n→0≤n∧n<1024:=fun hn=>nk h.fs hn
 by_cases hn:In s.fs n
 ·have e1:iU s.fs n=Bx.cM s.fs n:=if_pos hn
  have e2:pb s.fs s.gn n=Bx.cK s.gn n:=if_pos hn
  rw[e1,e2]
  refine⟨⟨h.d,h.fr,(Bx.ky h.fs n).1,(Bx.fN h.gn n).1,h.pg⟩,List.nodup_nil,fun p hp=>(by cases hp),fun p=>⟨fun x=>⟨x,List.not_mem_nil⟩,fun x=>x.1⟩,fun p=> ?_,fun p=> ?_,fun p _=>⟨rfl,rfl⟩,id⟩
  ·simp only[]
   rw[pe h.fs,List.mem_singleton]
   exact⟨.inl,fun x=>x.elim id (fun y=>by cases y)⟩
  ·simp only[]
   rw[nM h.gn (r hn),List.mem_singleton]
   exact⟨fun x=>x.imp id (fun y=>⟨by rw[y];exact hn,y⟩),fun x=>x.imp id (fun y=>y.2)⟩
 ·have e1:iU s.fs n=s.fs:=if_neg hn
  have e2:pb s.fs s.gn n=s.gn:=if_neg hn
  rw[e1,e2]
  refine⟨h,List.nodup_nil,fun p hp=>(by cases hp),fun p=>⟨fun x=>⟨x,List.not_mem_nil⟩,fun x=>x.1⟩,fun p=> ?_,fun p=> ?_,fun p _=>⟨rfl,rfl⟩,id⟩
  ·rw[List.mem_singleton]
   exact⟨fun x=>.inl ⟨x,fun e=>hn (by rw[←e];exact x)⟩,fun x=>x.elim (fun y=>y.1) (fun y=>by cases y)⟩
  ·rw[List.mem_singleton]
   exact⟨.inl,fun x=>x.elim id (fun y=>absurd (by rw[←y.2];exact y.1) hn)⟩
theorem aqi{th:Th}{s:S5}{l:Bool}{es:List En}{bs:List Br}(ho:xr th s)(hm:cW l es (aa bs)=true)(hz:bd es (aa bs)≤254):
 (wE th s l es bs=0∧∃n,qA th s (wS th s l es bs) [n] []∧wB th s l es bs=(cO l es bs,n,())∧Rd th (wS th s l es bs).m n l es (aa bs))∨
 (wE th s l es bs=41∧wS th s l es bs=s∧∀k,¬In s.fr k)∨(wE th s l es bs=42∧qA th s (wS th s l es bs) [] []∧(wS th s l es bs).fu=0):=by
 have he:gI l es (aa bs)=0:=lC.2 ⟨hm,hz⟩
 obtain⟨d1,d2,d3,d4,d5⟩:=alC he
 by_cases hx:Bx.eF s.fr 0=false
 ·have e:bF th s.m s.fu s.fr s.fs l es bs=(s.m,s.fu,s.fr,s.fs,dB,41):=by unfold bF;rw[if_pos hx]
  right;left
  refine⟨by unfold wE;rw[e],by unfold wS;rw[e],fun k=>amf ho.fr hx k⟩
 ·have hx1:Bx.eF s.fr 0=true:=by simpa using hx
  have hn:=abF ho.fr hx1
  obtain⟨tI,hnp⟩:=ho.pg _ hn
  have hnr:=nk ho.fr hn
  obtain⟨g1,g2,g3⟩:=Ds.ap7 (th:=th) (m:=s.m) (fu:=s.fu) (n:=Bx.br s.fr 0) (s:=cX l es (aa bs)) ho.d hnp (by omega)
  have gd:=Ds.anx (n:=Bx.br s.fr 0) (s:=cX l es (aa bs)) ho.d
  rcases g1 with⟨a,b,c⟩|⟨a,b⟩
  ·left
   have e:bF th s.m s.fu s.fr s.fs l es bs=((Ds.jY th s.m s.fu (Bx.br s.fr 0) (cX l es (aa bs))).1,(Ds.jY th s.m s.fu (Bx.br s.fr 0) (cX l es (aa bs))).2.1,Bx.cM s.fr (Bx.br s.fr 0),Bx.cK s.fs (Bx.br s.fr 0),(cO l es bs,Bx.br s.fr 0,()),0):=by
    unfold bF
    rw[if_neg hx,if_neg (by rw[he];simp),if_neg (by rw[a];simp)]
   refine⟨by unfold wE;rw[e],Bx.br s.fr 0, ?_,by unfold wB;rw[e], ?_⟩
   ·unfold wS
    rw[e]
    refine⟨⟨gd,(Bx.ky ho.fr _).1,(Bx.fN ho.fs _).1,ho.gn,fun p hp=>ho.pg p ((pe ho.fr).1 hp).1⟩,by simp,fun p hp=>by rw[List.mem_singleton.1 hp];exact hn,fun p=> ?_,fun p=> ?_,fun p=> ?_,fun p hp=>g3 p (fun e=>hp (by rw[e];exact hn)),g2⟩
    ·simp only[]
     rw[pe ho.fr,List.mem_singleton]
    ·simp only[]
     rw[nM ho.fs hnr,List.mem_singleton]
     exact⟨fun x=>x.imp (fun y=>⟨y,List.not_mem_nil⟩) id,fun x=>x.imp (fun y=>y.1) id⟩
    ·exact⟨.inl,fun x=>x.elim id (fun y=>by cases y.2)⟩
   ·unfold wS
    rw[e]
    exact⟨b,by rw[c];exact d1,by rw[c];exact d2,by rw[c];exact d3,by rw[c];exact d4⟩
  ·right;right
   have e:bF th s.m s.fu s.fr s.fs l es bs=((Ds.jY th s.m s.fu (Bx.br s.fr 0) (cX l es (aa bs))).1,(Ds.jY th s.m s.fu (Bx.br s.fr 0) (cX l es (aa bs))).2.1,s.fr,s.fs,dB,42):=by
    unfold bF
    rw[if_neg hx,if_neg (by rw[he];simp),if_pos (by rw[a];simp),a]
   refine⟨by unfold wE;rw[e], ?_,by unfold wS;rw[e];exact b⟩
   unfold wS
   rw[e]
   have r:=gM ho
   refine⟨⟨gd,ho.fr,ho.fs,ho.gn,ho.pg⟩,r.nd,r.sub,r.fr,r.fs,r.gn,fun p hp=>g3 p (fun e=>hp (by rw[e];exact hn)),g2⟩
end Ts
namespace Ts
open Go Go.Sx Go.Proofs Lf
theorem eu{th:Th}{m:As}{n deep:Int}(h:fG th m n deep=0):cW (j7 th m n deep) (bK th m n deep) (aN th m n deep)=true∧(bK th m n deep).length≤126∧(aN th m n deep).length≤84∧a6 (bK th m n deep)∧a7 (aN th m n deep)∧
 deep≤16∧bd (bK th m n deep) (aN th m n deep)≤254:=by
 unfold fG at h
 split at h
 ·cases h
 ·rename_i hd
  split at h
  ·rename_i hg
   have e0:rE th m n deep=true:=by unfold rE;rw[decide_eq_true hg,decide_eq_true (by omega)];rfl
   obtain⟨a,b,c,_,e⟩:=alD h
   have sz:=(lC.1 c).2
   have e1:bK th m n deep=nf (Ds.gu th m n):=by unfold bK;rw[if_pos e0]
   have e2:aN th m n deep=mj (Ds.gu th m n):=by unfold aN;rw[if_pos e0]
   have e3:j7 th m n deep=jf (Ds.gu th m n):=by unfold j7;rw[e0,Bool.true_and]
   rw[e1,e2,e3]
   have s1:=afb (es:=nf (Ds.gu th m n))
   have s2:=afa (bs:=mj (Ds.gu th m n))
   have s3:=amk (mj (Ds.gu th m n))
   unfold bd at sz
   unfold gS at s2 s3
   refine⟨e,by omega,by omega,a,b,by omega, ?_⟩
   unfold bd;exact sz
  ·rename_i hg
   exact absurd h hg
abbrev vI(es:List En):Prop:=∀x∈es,x.1.size≤24
abbrev jW(bs:List Br):Prop:=∀x∈bs,x.1.size≤24
theorem abK{l:Bool}{es:List En}{bs:List Br}(he:vI es)(hb:jW bs):(cO l es bs).size≤24:=by
 unfold cO
 split
 ·cases es with
  |nil=>exact Nat.zero_le _
  |cons e r=>exact he e List.mem_cons_self
 ·cases bs with
  |nil=>exact Nat.zero_le _
  |cons e r=>exact hb e List.mem_cons_self
theorem zH{th:Th}{m:As}{fu:Int}{fr fs:Ws}{l:Bool}{es:List En}{bs:List Br}(he:vI es)(hb:jW bs):(bF th m fu fr fs l es bs).2.2.2.2.1.1.size≤24:=by
 unfold bF
 split
 ·exact Nat.zero_le _
 ·split
  ·exact Nat.zero_le _
  ·split
   ·exact Nat.zero_le _
   ·exact abK he hb
theorem ajI{bs:List Br}(h:jW bs):jW (aa bs):=by
 cases bs with
 |nil=>exact h
 |cons b r=>
  intro x hx
  rcases List.mem_cons.1 hx with rfl|hx
  ·exact Nat.zero_le _
  ·exact h x (List.mem_cons_of_mem _ hx)
theorem amn{l:Bool}{es:List En}{bs:List Br}(he:vI es):vI (aY l es bs)∧vI (cI l es bs):=by
 unfold aY cI
 split
 ·exact⟨fun x hx=>he x (List.mem_of_mem_take hx),fun x hx=>he x (List.mem_of_mem_drop hx)⟩
 ·exact⟨fun x hx=>(by cases hx),fun x hx=>(by cases hx)⟩
theorem amo{l:Bool}{es:List En}{bs:List Br}(he:jW bs):jW (a8 l es bs)∧jW (cQ l es bs):=by
 unfold a8 cQ
 split
 ·exact⟨fun x hx=>he x (List.mem_of_mem_take hx),fun x hx=>he x (List.mem_of_mem_drop hx)⟩
 ·exact⟨fun x hx=>(by cases hx),fun x hx=>(by cases hx)⟩
theorem adG{th:Th}{m:As}{fu:Int}{fr fs:Ws}{l:Bool}{es:List En}{bs:List Br}(hf:Bx.okW fr):0≤(bF th m fu fr fs l es bs).2.2.2.2.1.2.1∧(bF th m fu fr fs l es bs).2.2.2.2.1.2.1≤65536:=by
 have z:0≤dB.2.1∧dB.2.1≤65536:=⟨Int.le_refl 0,by show(0:Int)≤65536;omega⟩
 unfold bF
 split
 ·exact z
 ·rename_i h
  have:=vC hf (by simpa using h)
  split
  ·exact z
  ·split
   ·exact z
   ·exact⟨by show 0≤Bx.br fr 0;omega,by show Bx.br fr 0≤65536;omega⟩
theorem noE{q:En→Prop}:∀b∈([]:List En),q b:=fun b hb=>by cases hb
theorem noB{q:Br→Prop}:∀b∈([]:List Br),q b:=fun b hb=>by cases hb
structure ajJ (th:Th) (m:As) (fu:Int) (fr:Ws) (l:List Br):Prop where
 d:Ds.bI th m fu
 fr:Bx.okW fr
 two:l.length≤2
 key:jW l
 pg:∀b∈l,0≤b.2.1∧b.2.1≤65536
theorem np{th:Th}{m:As}{fu:Int}{fr fs:Ws}{l:Bool}{es:List En}{bs:List Br}(hd:Ds.bI th m fu)(hf:Bx.okW fr)(he:vI es)(hb:jW bs):
 ajJ th (bk th m fu fr fs l es bs).1 (bk th m fu fr fs l es bs).2.1 (bk th m fu fr fs l es bs).2.2.1 (bk th m fu fr fs l es bs).2.2.2.2.1:=by
 have hbb:=ajI hb
 have nil:jW ([]:List Br):=fun b hb=>by cases hb
 unfold bk
 split
 ·exact⟨hd,hf,Nat.zero_le _,nil,noB⟩
 ·split
  ·obtain⟨a,b⟩:=zG (fs:=fs) (l:=l) (es:=es) (bs:=aa bs) hd hf
   refine⟨a,b,by show 1≤2;omega,fun x hx=> ?_,fun x hx=> ?_⟩
   ·rw[List.mem_singleton.1 hx]
    exact zH he hbb
   ·rw[List.mem_singleton.1 hx]
    exact adG hf
  ·split
   ·exact⟨hd,hf,Nat.zero_le _,nil,noB⟩
   ·obtain⟨s1,s2⟩:=amn (l:=l) (bs:=aa bs) he
    obtain⟨s3,s4⟩:=amo (l:=l) (es:=es) hbb
    obtain⟨a,b⟩:=zG (fs:=fs) (l:=bL l es (aa bs)) (es:=aY l es (aa bs)) (bs:=a8 l es (aa bs)) hd hf
    simp only[]
    split
    ·exact⟨a,b,Nat.zero_le _,nil,noB⟩
    ·obtain⟨c,d⟩:=zG (fs:=(bF th m fu fr fs (bL l es (aa bs)) (aY l es (aa bs)) (a8 l es (aa bs))).2.2.2.1) (l:=bL l es (aa bs)) (es:=cI l es (aa bs)) (bs:=cQ l es (aa bs)) a b
     refine⟨c,d,Nat.le_refl 2,fun x hx=> ?_,fun x hx=> ?_⟩
     ·rcases List.mem_cons.1 hx with rfl|hx
      ·exact zH s1 s3
      ·rw[List.mem_singleton.1 hx]
       exact zH s2 s4
     ·rcases List.mem_cons.1 hx with rfl|hx
      ·exact adG hf
      ·rw[List.mem_singleton.1 hx]
       exact adG b
theorem ajK{key:ByteArray}{op:Option ByteArray}{es:List En}(hk:key.size≤24)(he:vI es):vI (doE key op es):=by
 cases op with
 |some v=>
  show vI (bt es key v)
  intro x hx
  unfold bt at hx
  rcases List.mem_append.1 hx with hx|hx
  ·exact he x (List.mem_of_mem_take hx)
  ·rcases List.mem_cons.1 hx with rfl|hx
   ·exact hk
   ·exact he x (List.mem_of_mem_drop hx)
 |none=>
  show vI (if gR es key=true then cw es key else [])
  split
  ·exact fun x hx=>he x (List.mem_filter.1 hx).1
  ·exact fun x hx=>by cases hx
theorem nN{key:ByteArray}{op:Option ByteArray}{es:List En}(hk:key.size≤24)(hv:∀v,op=some v→v.size≤100)(hl:es.length≤126)(he:a6 es):a6 (doE key op es):=by
 cases op with
 |some v=>
  have hv:=hv v rfl
  show a6 (bt es key v)
  refine⟨by rw[zv];split<;>omega,fun x hx=> ?_⟩
  unfold bt at hx
  rcases List.mem_append.1 hx with hx|hx
  ·exact he.2 x (List.mem_of_mem_take hx)
  ·rcases List.mem_cons.1 hx with rfl|hx
   ·exact⟨by show key.size≤1000;omega,by show v.size≤1000;omega⟩
   ·exact he.2 x (List.mem_of_mem_drop hx)
 |none=>
  show a6 (if gR es key=true then cw es key else [])
  split
  ·exact⟨Nat.le_trans (List.length_filter_le _ _) he.1,fun x hx=>he.2 x ((List.mem_filter.1 hx).1)⟩
  ·exact ia
theorem adH{k:ByteArray}{r:List Br}(hk:k.size≤24)(h:jW r):jW (kK k r):=by
 cases r with
 |nil=>exact h
 |cons b r=>
  intro x hx
  rcases List.mem_cons.1 hx with rfl|hx
  ·exact hk
  ·exact h x (List.mem_cons_of_mem _ hx)
theorem vJ(k:ByteArray)(r:List Br):(kK k r).length=r.length:=by cases r<;>rfl
theorem pq{bs:List Br}(hb:jW bs)(k:Nat):(bs.getD k dB).1.size≤24:=by
 rcases Nat.lt_or_ge k bs.length with h|h
 ·rw[bg h];exact hb _ (List.getElem_mem h)
 ·rw[List.getD,List.getElem?_eq_none h];exact Nat.zero_le _
theorem afc{bs r:List Br}{k:Nat}{s:ByteArray}(hb:jW bs)(hk:jW r)(hs:s.size≤24):jW (bs.take k++kK s r++bs.drop (k+1)):=fun x hx=>by
 rcases List.mem_append.1 hx with hx|hx
 ·rcases List.mem_append.1 hx with hx|hx
  ·exact hb x (List.mem_of_mem_take hx)
  ·exact adH hs hk x hx
 ·exact hb x (List.mem_of_mem_drop hx)
theorem vK{bs r:List Br}{k:Nat}{s:ByteArray}(hb:jW bs)(hl:bs.length≤84)(hr:r.length≤2)(hk:jW r)(hs:s.size≤24):a7 (bs.take k++kK s r++bs.drop (k+1)):=by
 refine⟨?_,fun x hx=>Nat.le_trans (afc hb hk hs x hx) (by omega)⟩
 rw[List.length_append,List.length_append,vJ,List.length_take,List.length_drop];omega
theorem abL{l:Bool}{es:List En}{bs:List Br}(h:cW l es bs=true):vI es∧jW bs:=by
 obtain⟨_,_,h1,h2⟩:=dD h
 exact⟨fun x hx=>(adp h1 hx).1,fun x hx=>(abm h2 hx).1⟩
theorem qC{th:Th}{key:ByteArray}{op:Option ByteArray}(hk:key.size≤24):∀(f:Nat) {m:As} {fu:Int} {fr fs gn:Ws} {n deep:Int},Ds.bI th m fu→Bx.okW fr→
 ajJ th (pf th key op f m fu fr fs gn n deep) (ph th key op f m fu fr fs gn n deep) (pj th key op f m fu fr fs gn n deep) (sN th key op f m fu fr fs gn n deep)
 |0,m,fu,fr,fs,gn,n,deep,hd,hf=>⟨hd,hf,Nat.zero_le _,noB,noB⟩
 |f+1,m,fu,fr,fs,gn,n,deep,hd,hf=>by
  have nil:jW ([]:List Br):=fun b hb=>by cases hb
  unfold pf ph pj sN vz
  split
  ·exact⟨hd,hf,Nat.zero_le _,nil,noB⟩
  ·rename_i h0
   obtain⟨hm,_⟩:=eu (by simpa using h0)
   obtain⟨n3,n4⟩:=abL hm
   split
   ·split
    ·exact⟨hd,hf,Nat.zero_le _,nil,noB⟩
    ·exact np hd hf (ajK hk n3) n4
   ·split
    ·exact⟨hd,hf,Nat.zero_le _,nil,noB⟩
    ·simp only[]
     have r:=qC (op:=op) hk f (fs:=fs) (gn:=gn) (n:=((aN th m n deep).getD (aT (aN th m n deep) key).toNat dB).2.1) (deep:=deep+1) hd hf
     split
     ·exact⟨r.d,r.fr,Nat.zero_le _,nil,noB⟩
     ·exact np r.d r.fr n3 (afc n4 r.key (pq n4 _))
end Ts
namespace Ts
open Go Go.Sx Go.Proofs Lf
theorem fR{th:Th}{key:ByteArray}{op:Option ByteArray}{f:Nat}{m:As}{fu:Int}{fr fs gn:Ws}{n deep:Int}:vz th key op (f+1) m fu fr fs gn n deep=
 if fG th m n deep≠0 then(m,fu,fr,fs,gn,[],fG th m n deep)
 else if j7 th m n deep=true then
  if qI key op (bK th m n deep)≠0 then(m,fu,fr,fs,gn,[],qI key op (bK th m n deep))
  else gK (pb fs gn n) (bk th m fu fr (iU fs n) true (doE key op (bK th m n deep)) (aN th m n deep))
 else if aN th m n deep=[]then(m,fu,fr,fs,gn,[],4)
 else if rJ th key op f m fu fr fs gn ((aN th m n deep).getD (aT (aN th m n deep) key).toNat dB).2.1 (deep+1)≠0 then
  (pf th key op f m fu fr fs gn ((aN th m n deep).getD (aT (aN th m n deep) key).toNat dB).2.1 (deep+1),ph th key op f m fu fr fs gn ((aN th m n deep).getD (aT (aN th m n deep) key).toNat dB).2.1 (deep+1),
   pj th key op f m fu fr fs gn ((aN th m n deep).getD (aT (aN th m n deep) key).toNat dB).2.1 (deep+1),qw th key op f m fu fr fs gn ((aN th m n deep).getD (aT (aN th m n deep) key).toNat dB).2.1 (deep+1),
   rI th key op f m fu fr fs gn ((aN th m n deep).getD (aT (aN th m n deep) key).toNat dB).2.1 (deep+1),[],rJ th key op f m fu fr fs gn ((aN th m n deep).getD (aT (aN th m n deep) key).toNat dB).2.1 (deep+1))
 else gK (pb (qw th key op f m fu fr fs gn ((aN th m n deep).getD (aT (aN th m n deep) key).toNat dB).2.1 (deep+1)) (rI th key op f m fu fr fs gn ((aN th m n deep).getD (aT (aN th m n deep) key).toNat dB).2.1 (deep+1)) n)
  (bk th (pf th key op f m fu fr fs gn ((aN th m n deep).getD (aT (aN th m n deep) key).toNat dB).2.1 (deep+1)) (ph th key op f m fu fr fs gn ((aN th m n deep).getD (aT (aN th m n deep) key).toNat dB).2.1 (deep+1))
    (pj th key op f m fu fr fs gn ((aN th m n deep).getD (aT (aN th m n deep) key).toNat dB).2.1 (deep+1)) (iU (qw th key op f m fu fr fs gn ((aN th m n deep).getD (aT (aN th m n deep) key).toNat dB).2.1 (deep+1)) n) false (bK th m n deep)
    ((aN th m n deep).take (aT (aN th m n deep) key).toNat++kK ((aN th m n deep).getD (aT (aN th m n deep) key).toNat dB).1 (sN th key op f m fu fr fs gn ((aN th m n deep).getD (aT (aN th m n deep) key).toNat dB).2.1 (deep+1))++(aN th m n deep).drop ((aT (aN th m n deep) key).toNat+1))):=rfl
def asf(bs r:List Br)(k:Int):List Br:=bV [(List.drop (Int.toNat 0) (List.take k.toNat bs),()),(r,()),(List.drop (k+1).toNat (List.take (bs.length:Int).toNat bs),())]
theorem abM{bs r:List Br}{k:Int}(h0:0≤k):asf bs r k=bs.take k.toNat++r++bs.drop (k.toNat+1):=by
 show List.drop 0 (List.take k.toNat bs)++(r++(List.drop (k+1).toNat (List.take (bs.length:Int).toNat bs)++[]))=_
 rw[List.append_nil,List.drop_zero,List.append_assoc,show(bs.length:Int).toNat=bs.length from rfl,List.take_length,show(k+1).toNat=k.toNat+1 from by omega]
theorem ajL{th:Th}{m:As}{fu root:Int}{fr fs gn:Ws}{n deep:Int}{key val:ByteArray}{f:Nat}{c:Chg}(e:vz th key (some val) f m fu fr fs gn n deep=c):
 (wL f).fk ((th,m,fu,root,fr,fs,gn),n,deep,key,val)=qu th c.1 c.2.1 root c.2.2.1 c.2.2.2.1 c.2.2.2.2.1 key val++[.vec (.ae cB c.2.2.2.2.2.1) Lf.eB]∧(wL f).out ((th,m,fu,root,fr,fs,gn),n,deep,key,val)=.bh [.vec 6,bJ c.2.2.2.2.2.2]:=by
 subst e;exact⟨rfl,rfl⟩
theorem ag1{th:Th}{m:As}{fu root:Int}{fr fs gn:Ws}{n deep:Int}{key val:ByteArray}{f:Nat}{c:Chg}(e:vz th key none f m fu fr fs gn n deep=c):
 (wM f).fk ((th,m,fu,root,fr,fs,gn),n,deep,key,val)=qv th c.1 c.2.1 root c.2.2.1 c.2.2.2.1 c.2.2.2.2.1 key++[.vec (.ae cB c.2.2.2.2.2.1) Lf.eB]∧(wM f).out ((th,m,fu,root,fr,fs,gn),n,deep,key,val)=.bh [.vec 5,bJ c.2.2.2.2.2.2]:=by
 subst e;exact⟨rfl,rfl⟩
theorem rL{bs:List Br}{key:ByteArray}(hs:iv (mc bs))(h:bs≠[]):0≤aT bs key∧aT bs key<(bs.length:Int):=by
 obtain⟨p,e,hp,_⟩:=u6 (ks:=mc bs) (key:=key) hs (by cases bs with|nil=>exact absurd rfl h|cons b r=>simp)
 unfold aT
 rw[e]
 rw[List.length_map]at hp
 exact⟨by omega,by omega⟩
theorem abN{r:List Br}{k:ByteArray}(h:0<r.length):(r.set 0 (k,(r.getD 0 (CL.d [CK.str,CK.int IntKind.i64])).snd):List Br)=kK k r:=by
 cases r with
 |nil=>simp at h
 |cons b r=>rfl
theorem zX{n:Int}(h0: -65537≤n)(h1:n≤65537):aD n:=⟨by omega,by omega⟩
theorem rM{th:Th}{m:As}{n deep:Int}(h:fG th m n deep=0)(k:Nat):0≤((aN th m n deep).getD k dB).2.1∧((aN th m n deep).getD k dB).2.1≤65536:=by
 obtain⟨hm,_⟩:=eu h
 rcases Nat.lt_or_ge k (aN th m n deep).length with hk|hk
 ·have:=abm (dD hm).2.2.2 (List.getElem_mem hk)
  rw[bg hk];omega
 ·rw[List.getD,List.getElem?_eq_none hk];exact⟨Int.le_refl 0,by show(0:Int)≤65536;omega⟩
theorem ajM{f:Nat}(h:js P Bx.bT 80 (wL f)):(ot f).Ok P Bx.bT:=aG.Ok.cons (nK.sum mNo) (aG.Ok.cons (vA.sum mLv) (aG.Ok.cons (ib (fX (jB.sum mTN) 1 _) 1) (aG.Ok.cons ajg.uD (aG.Ok.cons uY.sum (aG.Ok.cons rF.sum (aG.Ok.cons (h.sum ami) aG.Ok.nil))))))
section
variable{th:Th}{m:As}{fu root:Int}{fr fs gn:Ws}{n deep:Int}{key val:ByteArray}{f:Nat}{X:Ctx}
theorem abO{th:Th}{m:As}{fu root:Int}{fr fs gn:Ws}{key val:ByteArray}:∀y∈adC,(qu th m fu root fr fs gn key val).length≤y.2.m:=fun y hy=>by
 simp only[adC,List.mem_cons,List.not_mem_nil,or_false]at hy
 rcases hy with rfl|rfl|rfl|rfl<;>exact Nat.le_refl _
theorem afd(hz:dM Bx.bT X)(hX:X.H=lk (qu th m fu root fr fs gn key val))(T:(ot f).Ok P Bx.bT){m':As}{gl:Int}{ov kp rN:Ws}{l:Bool}{es:List En}{bs:List Br}{k:Int}{r:List Br}(hd:Ds.bI th m' gl)(hf:Bx.okW ov)(hl:l=false∧es=[])(he:a6 es)
 (hb:a7 (bs.take k.toNat++r++bs.drop (k.toNat+1))) (hk0:0≤k) (yM:k<(bs.length:Int)) (hbl:bs.length≤84)
 (e:vz th key (some val) (f+1) m fu fr fs gn n deep=gK (pb kp rN n) (bk th m' gl ov (iU kp n) l es (bs.take k.toNat++r++bs.drop (k.toNat+1)))):
 Safe P 80 X (wK (wL (f+1)) ((th,m,fu,root,fr,fs,gn),n,deep,key,val)) (an8 th m' gl root ov kp rN n key val l es bs k r):=by
 rw[←abM hk0]at hb e
 have hjl:=hb.1
 obtain⟨f1,f2⟩:=ajL (root:=root) (val:=val) e
 refine Ds.eG hz hX abO T Tryd.func80 (aqe f th m' gl root ov kp rN n key val l es bs k r) ⟨by omega,hk0,by omega,⟨by omega,by omega⟩,by omega,by omega,by omega,by show 3≤100;omega, ?_,rfl,rfl,rfl,rfl,hd,hf,⟨fun h=>(by rw[hl.1]at h;cases h),fun _=>hl.2⟩,he,hb, ?_⟩
 ·exact Nat.le_trans hjl (by omega)
 ·exact ke ⟨[],[0,1],6,[]⟩ rfl (Nat.le_refl _) (oq.same _) f2 f1
theorem amp(hz:dM Bx.bT X)(hX:X.H=lk (qu th m fu root fr fs gn key val))(T:(ot f).Ok P Bx.bT){m':As}{gl:Int}{ov kp rN:Ws}{l:Bool}{es:List En}{bs:List Br}{k e:Int}{r:List Br}(hd:Ds.bI th m' gl)(hf:Bx.okW ov)(hl:l=false∧es=[])(he:a6 es)
 (hb:a7 (bs.take k.toNat++kK (bs.getD k.toNat dB).1 r++bs.drop (k.toNat+1))) (hk0:0≤k) (yM:k<(bs.length:Int)) (hbl:bs.length≤84)
 (ee:vz th key (some val) (f+1) m fu fr fs gn n deep=if e≠0 then(m',gl,ov,kp,rN,[],e)else gK (pb kp rN n) (bk th m' gl ov (iU kp n) l es (bs.take k.toNat++kK (bs.getD k.toNat dB).1 r++bs.drop (k.toNat+1)))):
 Safe P 80 X (wK (wL (f+1)) ((th,m,fu,root,fr,fs,gn),n,deep,key,val)) (an7 th m' gl root ov kp rN n key val l es bs k e r):=by
 refine Ds.eG hz hX abO T Tryd.func80 (aqd f th m' gl root ov kp rN n key val l es bs k e r) ⟨fun h=> ?_,fun h=>⟨fun h5=> ?_,fun h5=> ?_⟩⟩
 ·have h:e≠0:=by simpa using h
  rw[if_pos h]at ee
  obtain⟨f1,f2⟩:=ajL (root:=root) (val:=val) ee
  exact ke ⟨[(0,.ae cB [],Lf.eB)],[0,1],6,[]⟩ rfl (Nat.le_refl _) (oq.same _) f2 f1
 ·have h:¬e≠0:=by simpa using h
  rw[if_neg h]at ee
  have h5:=of_decide_eq_true h5
  have e5:=abN (r:=r) (k:=(bs.getD k.toNat dB).1) (by omega)
  rw[←e5]at hb ee
  exact⟨hk0,yM,by omega,h5,afd hz hX T hd hf hl he hb hk0 yM hbl ee⟩
 ·have h:¬e≠0:=by simpa using h
  rw[if_neg h]at ee
  have h5:=of_decide_eq_false h5
  have e5:r=[]:=List.eq_nil_of_length_eq_zero (by omega)
  subst e5
  exact afd hz hX T hd hf hl he hb hk0 yM hbl ee
theorem amq(hz:dM Bx.bT X)(hX:X.H=lk (qu th m fu root fr fs gn key val))(T:(ot f).Ok P Bx.bT)(hd:Ds.bI th m fu)(hf:Bx.okW fr)(h1:1≤deep∧deep≤17)(h2:18≤deep+((f+1:Nat):Int))(hk:1≤key.size∧key.size≤24)(hv:val.size≤100)
 (h:fG th m n deep=0) (hl:j7 th m n deep=false):
 Safe P 80 X (wK (wL (f+1)) ((th,m,fu,root,fr,fs,gn),n,deep,key,val)) (an6 th m fu root fr fs gn n deep key val (j7 th m n deep) (bK th m n deep) (aN th m n deep)):=by
 obtain⟨hm,n1,n2,n3,n4,n5,_⟩:=eu h
 obtain⟨m1,m2,_,_⟩:=dD hm
 obtain⟨s1,s2⟩:=qs hm
 have hkk:∀v:ByteArray,(some val)=some v→v.size≤100:=fun v e=>by cases e;exact hv
 refine Ds.eG hz hX abO T Tryd.func80 (aqc f th m fu root fr fs gn n deep key val (j7 th m n deep) (bK th m n deep) (aN th m n deep)) ⟨fun h3=> ?_,fun h3=> ?_⟩
 ·have h3:aN th m n deep=[]:=List.eq_nil_of_length_eq_zero (by have:((aN th m n deep).length:Int)=0:=by simpa using h3
                                                               omega)
  obtain⟨f1,f2⟩:=ajL (val:=val) (root:=root) (th:=th) (m:=m) (fu:=fu) (fr:=fr) (fs:=fs) (gn:=gn) (key:=key) (f:=f+1) (n:=n) (deep:=deep) (c:=(m,fu,fr,fs,gn,[],4)) (by rw[fR,if_neg (by rw[h];simp),if_neg (by rw[hl];simp),if_pos h3])
  exact ke ⟨[(0,.ae cB [],Lf.eB)],[0,1],6,[]⟩ rfl (Nat.le_refl _) (oq.same _) f2 f1
 ·have h3:aN th m n deep≠[]:=fun e=>by rw[e]at h3;simp at h3
  obtain⟨p0,p1⟩:=rL (key:=key) s2 h3
  have pg:=rM h (aT (aN th m n deep) key).toNat
  have zI:=qC (th:=th) (key:=key) (op:=(some val)) hk.2 f (m:=m) (fu:=fu) (fr:=fr) (fs:=fs) (gn:=gn) (n:=((aN th m n deep).getD (aT (aN th m n deep) key).toNat dB).2.1) (deep:=deep+1) hd hf
  have hb:=vK (bs:=aN th m n deep) (k:=(aT (aN th m n deep) key).toNat) (abL hm).2 n2 zI.two zI.key (pq (abL hm).2 (aT (aN th m n deep) key).toNat)
  refine⟨by omega,s2,p0,p1,zX (by omega) (by omega),rfl,rfl,hd,hf,pg,⟨by omega,by omega⟩,by omega,hk,hv,amp hz hX T zI.d zI.fr ⟨hl,m2 hl⟩ n3 hb p0 p1 n2 ?_⟩
  rw[fR,if_neg (by rw[h];simp),if_neg (by rw[hl];simp),if_neg h3,hl]
  rfl
theorem aqj(hz:dM Bx.bT X)(hX:X.H=lk (qu th m fu root fr fs gn key val))(T:(ot f).Ok P Bx.bT)(hd:Ds.bI th m fu)(hf:Bx.okW fr)(hk:1≤key.size∧key.size≤24)(hv:val.size≤100)
 (h:fG th m n deep=0) (hl:j7 th m n deep=true):
 Safe P 80 X (wK (wL (f+1)) ((th,m,fu,root,fr,fs,gn),n,deep,key,val)) (asa th m fu root fr fs gn n key val (bK th m n deep) (aN th m n deep)):=by
 obtain⟨hm,n1,n2,n3,n4,n5,_⟩:=eu h
 obtain⟨m1,m2,_,_⟩:=dD hm
 obtain⟨s1,s2⟩:=qs hm
 have hkk:∀v:ByteArray,(some val)=some v→v.size≤100:=fun v e=>by cases e;exact hv
 obtain⟨f1,f2⟩:=ajL (val:=val) (root:=root) (th:=th) (m:=m) (fu:=fu) (fr:=fr) (fs:=fs) (gn:=gn) (key:=key) (f:=f+1) (n:=n) (deep:=deep) (c:=gK (pb fs gn n) (bk th m fu fr (iU fs n) true (bt (bK th m n deep) key val) (aN th m n deep))) (by rw[fR,if_neg (by rw[h];simp),if_pos hl,if_neg (by show¬(0:Int)≠0;simp)];rfl)
 refine Ds.eG hz hX abO T Tryd.func80 (asb f th m fu root fr fs gn n key val (bK th m n deep) (aN th m n deep)) ⟨by omega,s1,rfl,rfl,rfl,rfl,hd,hf,⟨fun _=>m1 hl,fun e=>by cases e⟩,nN (op:=some val) hk.2 hkk n1 n3,n4, ?_⟩
 exact ke ⟨[],[0,1],6,[]⟩ rfl (Nat.le_refl _) (oq.same _) f2 f1
theorem vL:∀f,js P Bx.bT 80 (wL f)
 |0=>by
  rintro⟨⟨(th:Th),(m:As),(fu:Int),(root:Int),(fr:Ws),(fs:Ws),(gn:Ws)⟩,(n:Int),(deep:Int),(key:ByteArray),(val:ByteArray)⟩ ⟨_,_,_,(h1:1≤deep∧deep≤17),(h2:18≤deep+((0:Nat):Int)),_⟩
  omega
 |f+1=>by
  have T:=ajM (vL f)
  refine fz Tryd.func80 (by kernel_rfl) (fun x=>Nat.le_of_ble_eq_true (by kernel_rfl)) ?_
  rintro⟨⟨(th:Th),(m:As),(fu:Int),(root:Int),(fr:Ws),(fs:Ws),(gn:Ws)⟩,(n:Int),(deep:Int),(key:ByteArray),(val:ByteArray)⟩ ⟨(hd:Ds.bI th m fu),(hf:Bx.okW fr),(hn:0≤n∧n≤65536),(h1:1≤deep∧deep≤17),(h2:18≤deep+((f+1:Nat):Int)),(hk:1≤key.size∧key.size≤24),(hv:val.size≤100),_⟩ X hX hz
  refine Ds.eG hz hX abO T Tryd.func80 (auh f th m fu root fr fs gn n deep key val) ⟨rfl,rfl,hd,zX (by omega) (by omega),fun h=> ?_,fun h=>⟨fun hl=> ?_,fun hl=> ?_⟩⟩
  ·have h:fG th m n deep≠0:=by simpa using h
   obtain⟨f1,f2⟩:=ajL (val:=val) (root:=root) (th:=th) (m:=m) (fu:=fu) (fr:=fr) (fs:=fs) (gn:=gn) (key:=key) (f:=f+1) (n:=n) (deep:=deep) (c:=(m,fu,fr,fs,gn,[],fG th m n deep)) (by rw[fR,if_pos h])
   exact ke ⟨[(0,.ae cB [],Lf.eB)],[0,1],6,[]⟩ rfl (Nat.le_refl _) (oq.same _) f2 f1
  ·have h:fG th m n deep=0:=by simpa using h
   have e:=aqj (root:=root) (val:=val) (gn:=gn) (fs:=fs) hz hX T hd hf hk hv h hl
   rw[hl]
   exact e
  ·have h:fG th m n deep=0:=by simpa using h
   exact amq hz hX T hd hf h1 h2 hk hv h hl
end
end Ts
namespace Ts
open Go Go.Sx Go.Proofs Lf
theorem ajN{f:Nat}(h:js P Bx.bT 80 (wM f)):(ou f).Ok P Bx.bT:=aG.Ok.cons (nK.sum mNo) (aG.Ok.cons (vA.sum mLv) (aG.Ok.cons (ib (fX (jB.sum mTN) 1 _) 1) (aG.Ok.cons ai7.sum (aG.Ok.cons uY.sum (aG.Ok.cons rF.sum (aG.Ok.cons (h.sum amj) aG.Ok.nil))))))
section
variable{th:Th}{m:As}{fu root:Int}{fr fs gn:Ws}{n deep:Int}{key val:ByteArray}{f:Nat}{X:Ctx}
theorem abP{th:Th}{m:As}{fu root:Int}{fr fs gn:Ws}{key:ByteArray}:∀y∈adD,(qv th m fu root fr fs gn key).length≤y.2.m:=fun y hy=>by
 simp only[adD,List.mem_cons,List.not_mem_nil,or_false]at hy
 rcases hy with rfl|rfl|rfl|rfl<;>exact Nat.le_refl _
theorem afe(hz:dM Bx.bT X)(hX:X.H=lk (qv th m fu root fr fs gn key))(T:(ou f).Ok P Bx.bT){m':As}{gl:Int}{ov kp rN:Ws}{l:Bool}{es:List En}{bs:List Br}{k:Int}{r:List Br}(hd:Ds.bI th m' gl)(hf:Bx.okW ov)(hl:l=false∧es=[])(he:a6 es)
 (hb:a7 (bs.take k.toNat++r++bs.drop (k.toNat+1))) (hk0:0≤k) (yM:k<(bs.length:Int)) (hbl:bs.length≤84)
 (e:vz th key none (f+1) m fu fr fs gn n deep=gK (pb kp rN n) (bk th m' gl ov (iU kp n) l es (bs.take k.toNat++r++bs.drop (k.toNat+1)))):
 Safe P 80 X (wK (wM (f+1)) ((th,m,fu,root,fr,fs,gn),n,deep,key,val)) (aob th m' gl root ov kp rN n key l es bs k r):=by
 rw[←abM hk0]at hb e
 have hjl:=hb.1
 obtain⟨f1,f2⟩:=ag1 (root:=root) (val:=val) e
 refine Ds.eG hz hX abP T Tryd.func80 (aqh f th m' gl root ov kp rN n key l es bs k r) ⟨by omega,hk0,by omega,⟨by omega,by omega⟩,by omega,by omega,by omega,by show 3≤100;omega, ?_,rfl,rfl,rfl,rfl,hd,hf,⟨fun h=>(by rw[hl.1]at h;cases h),fun _=>hl.2⟩,he,hb, ?_⟩
 ·exact Nat.le_trans hjl (by omega)
 ·exact ke ⟨[],[0,1],5,[]⟩ rfl (Nat.le_refl _) (oq.same _) f2 f1
theorem amr(hz:dM Bx.bT X)(hX:X.H=lk (qv th m fu root fr fs gn key))(T:(ou f).Ok P Bx.bT){m':As}{gl:Int}{ov kp rN:Ws}{l:Bool}{es:List En}{bs:List Br}{k e:Int}{r:List Br}(hd:Ds.bI th m' gl)(hf:Bx.okW ov)(hl:l=false∧es=[])(he:a6 es)
 (hb:a7 (bs.take k.toNat++kK (bs.getD k.toNat dB).1 r++bs.drop (k.toNat+1))) (hk0:0≤k) (yM:k<(bs.length:Int)) (hbl:bs.length≤84)
 (ee:vz th key none (f+1) m fu fr fs gn n deep=if e≠0 then(m',gl,ov,kp,rN,[],e)else gK (pb kp rN n) (bk th m' gl ov (iU kp n) l es (bs.take k.toNat++kK (bs.getD k.toNat dB).1 r++bs.drop (k.toNat+1)))):
 Safe P 80 X (wK (wM (f+1)) ((th,m,fu,root,fr,fs,gn),n,deep,key,val)) (aoa th m' gl root ov kp rN n key l es bs k e r):=by
 refine Ds.eG hz hX abP T Tryd.func80 (aqg f th m' gl root ov kp rN n key l es bs k e r) ⟨fun h=> ?_,fun h=>⟨fun h5=> ?_,fun h5=> ?_⟩⟩
 ·have h:e≠0:=by simpa using h
  rw[if_pos h]at ee
  obtain⟨f1,f2⟩:=ag1 (root:=root) (val:=val) ee
  exact ke ⟨[(0,.ae cB [],Lf.eB)],[0,1],5,[]⟩ rfl (Nat.le_refl _) (oq.same _) f2 f1
 ·have h:¬e≠0:=by simpa using h
  rw[if_neg h]at ee
  have h5:=of_decide_eq_true h5
  have e5:=abN (r:=r) (k:=(bs.getD k.toNat dB).1) (by omega)
  rw[←e5]at hb ee
  exact⟨hk0,yM,by omega,h5,afe hz hX T hd hf hl he hb hk0 yM hbl ee⟩
 ·have h:¬e≠0:=by simpa using h
  rw[if_neg h]at ee
  have h5:=of_decide_eq_false h5
  have e5:r=[]:=List.eq_nil_of_length_eq_zero (by omega)
  subst e5
  exact afe hz hX T hd hf hl he hb hk0 yM hbl ee
theorem ams(hz:dM Bx.bT X)(hX:X.H=lk (qv th m fu root fr fs gn key))(T:(ou f).Ok P Bx.bT)(hd:Ds.bI th m fu)(hf:Bx.okW fr)(h1:1≤deep∧deep≤17)(h2:18≤deep+((f+1:Nat):Int))(hk:1≤key.size∧key.size≤24)
 (h:fG th m n deep=0) (hl:j7 th m n deep=false):
 Safe P 80 X (wK (wM (f+1)) ((th,m,fu,root,fr,fs,gn),n,deep,key,val)) (an9 th m fu root fr fs gn n deep key (j7 th m n deep) (bK th m n deep) (aN th m n deep)):=by
 obtain⟨hm,n1,n2,n3,n4,n5,_⟩:=eu h
 obtain⟨m1,m2,_,_⟩:=dD hm
 obtain⟨s1,s2⟩:=qs hm
 have hkk:∀v:ByteArray,none=some v→v.size≤100:=fun v e=>by cases e
 refine Ds.eG hz hX abP T Tryd.func80 (aqf f th m fu root fr fs gn n deep key (j7 th m n deep) (bK th m n deep) (aN th m n deep)) ⟨fun h3=> ?_,fun h3=> ?_⟩
 ·have h3:aN th m n deep=[]:=List.eq_nil_of_length_eq_zero (by have:((aN th m n deep).length:Int)=0:=by simpa using h3
                                                               omega)
  obtain⟨f1,f2⟩:=ag1 (val:=val) (root:=root) (th:=th) (m:=m) (fu:=fu) (fr:=fr) (fs:=fs) (gn:=gn) (key:=key) (f:=f+1) (n:=n) (deep:=deep) (c:=(m,fu,fr,fs,gn,[],4)) (by rw[fR,if_neg (by rw[h];simp),if_neg (by rw[hl];simp),if_pos h3])
  exact ke ⟨[(0,.ae cB [],Lf.eB)],[0,1],5,[]⟩ rfl (Nat.le_refl _) (oq.same _) f2 f1
 ·have h3:aN th m n deep≠[]:=fun e=>by rw[e]at h3;simp at h3
  obtain⟨p0,p1⟩:=rL (key:=key) s2 h3
  have pg:=rM h (aT (aN th m n deep) key).toNat
  have zI:=qC (th:=th) (key:=key) (op:=none) hk.2 f (m:=m) (fu:=fu) (fr:=fr) (fs:=fs) (gn:=gn) (n:=((aN th m n deep).getD (aT (aN th m n deep) key).toNat dB).2.1) (deep:=deep+1) hd hf
  have hb:=vK (bs:=aN th m n deep) (k:=(aT (aN th m n deep) key).toNat) (abL hm).2 n2 zI.two zI.key (pq (abL hm).2 (aT (aN th m n deep) key).toNat)
  refine⟨by omega,s2,p0,p1,zX (by omega) (by omega),rfl,rfl,hd,hf,pg,⟨by omega,by omega⟩,by omega,hk,(Nat.zero_le 100),amr hz hX T zI.d zI.fr ⟨hl,m2 hl⟩ n3 hb p0 p1 n2 ?_⟩
  rw[fR,if_neg (by rw[h];simp),if_neg (by rw[hl];simp),if_neg h3,hl]
  rfl
theorem aqk(hz:dM Bx.bT X)(hX:X.H=lk (qv th m fu root fr fs gn key))(T:(ou f).Ok P Bx.bT)(hd:Ds.bI th m fu)(hf:Bx.okW fr)(hk:1≤key.size∧key.size≤24)
 (h:fG th m n deep=0) (hl:j7 th m n deep=true):
 Safe P 80 X (wK (wM (f+1)) ((th,m,fu,root,fr,fs,gn),n,deep,key,val)) (asc th m fu root fr fs gn n key (bK th m n deep) (aN th m n deep)):=by
 obtain⟨hm,n1,n2,n3,n4,n5,_⟩:=eu h
 obtain⟨m1,m2,_,_⟩:=dD hm
 obtain⟨s1,s2⟩:=qs hm
 have hkk:∀v:ByteArray,none=some v→v.size≤100:=fun v e=>by cases e
 refine Ds.eG hz hX abP T Tryd.func80 (asd f th m fu root fr fs gn n key (bK th m n deep) (aN th m n deep)) ⟨by omega,s1,fun hb=> ?_,fun hb=> ?_⟩
 ·have hb:gR (bK th m n deep) key=false:=by simpa using hb
  have hc:qI key none (bK th m n deep)=5:=by show(if gR (bK th m n deep) key=true then(0:Int)else 5)=5;rw[if_neg (by rw[hb];simp)]
  obtain⟨f1,f2⟩:=ag1 (val:=val) (root:=root) (th:=th) (m:=m) (fu:=fu) (fr:=fr) (fs:=fs) (gn:=gn) (key:=key) (f:=f+1) (n:=n) (deep:=deep) (c:=(m,fu,fr,fs,gn,[],5)) (by rw[fR,if_neg (by rw[h];simp),if_pos hl,if_pos (by rw[hc];simp),hc])
  exact ke ⟨[(0,.ae cB [],Lf.eB)],[0,1],5,[]⟩ rfl (Nat.le_refl _) (oq.same _) f2 f1
 ·have hb:gR (bK th m n deep) key=true:=by simpa using hb
  have hc:qI key none (bK th m n deep)=0:=by show(if gR (bK th m n deep) key=true then(0:Int)else 5)=0;rw[if_pos hb]
  have ee:doE key none (bK th m n deep)=cw (bK th m n deep) key:=by show(if gR (bK th m n deep) key=true then _ else _)=_;rw[if_pos hb]
  have sm:=nN (key:=key) (op:=none) (es:=bK th m n deep) hk.2 hkk n1 n3
  obtain⟨f1,f2⟩:=ag1 (val:=val) (root:=root) (th:=th) (m:=m) (fu:=fu) (fr:=fr) (fs:=fs) (gn:=gn) (key:=key) (f:=f+1) (n:=n) (deep:=deep) (c:=gK (pb fs gn n) (bk th m fu fr (iU fs n) true (cw (bK th m n deep) key) (aN th m n deep))) (by rw[fR,if_neg (by rw[h];simp),if_pos hl,if_neg (by rw[hc];simp),ee])
  rw[ee]at sm
  exact⟨rfl,rfl,rfl,rfl,hd,hf,⟨fun _=>m1 hl,fun e=>by cases e⟩,sm,n4,ke ⟨[],[0,1],5,[]⟩ rfl (Nat.le_refl _) (oq.same _) f2 f1⟩
theorem vM:∀f,js P Bx.bT 80 (wM f)
 |0=>by
  rintro⟨⟨(th:Th),(m:As),(fu:Int),(root:Int),(fr:Ws),(fs:Ws),(gn:Ws)⟩,(n:Int),(deep:Int),(key:ByteArray),(val:ByteArray)⟩ ⟨_,_,_,(h1:1≤deep∧deep≤17),(h2:18≤deep+((0:Nat):Int)),_⟩
  omega
 |f+1=>by
  have T:=ajN (vM f)
  refine fz Tryd.func80 (by kernel_rfl) (fun x=>Nat.le_of_ble_eq_true (by kernel_rfl)) ?_
  rintro⟨⟨(th:Th),(m:As),(fu:Int),(root:Int),(fr:Ws),(fs:Ws),(gn:Ws)⟩,(n:Int),(deep:Int),(key:ByteArray),(val:ByteArray)⟩ ⟨(hd:Ds.bI th m fu),(hf:Bx.okW fr),(hn:0≤n∧n≤65536),(h1:1≤deep∧deep≤17),(h2:18≤deep+((f+1:Nat):Int)),(hk:1≤key.size∧key.size≤24),(hv:val.size≤100),_⟩ X hX hz
  refine Ds.eG hz hX abP T Tryd.func80 (aui f th m fu root fr fs gn n deep key) ⟨rfl,rfl,hd,zX (by omega) (by omega),fun h=> ?_,fun h=>⟨fun hl=> ?_,fun hl=> ?_⟩⟩
  ·have h:fG th m n deep≠0:=by simpa using h
   obtain⟨f1,f2⟩:=ag1 (val:=val) (root:=root) (th:=th) (m:=m) (fu:=fu) (fr:=fr) (fs:=fs) (gn:=gn) (key:=key) (f:=f+1) (n:=n) (deep:=deep) (c:=(m,fu,fr,fs,gn,[],fG th m n deep)) (by rw[fR,if_pos h])
   exact ke ⟨[(0,.ae cB [],Lf.eB)],[0,1],5,[]⟩ rfl (Nat.le_refl _) (oq.same _) f2 f1
  ·have h:fG th m n deep=0:=by simpa using h
   have e:=aqk (root:=root) (val:=val) (gn:=gn) (fs:=fs) hz hX T hd hf hk h hl
   rw[hl]
   exact e
  ·have h:fG th m n deep=0:=by simpa using h
   exact ams hz hX T hd hf h1 h2 hk h hl
end
end Ts
namespace Ts
open Go Go.Sx Go.Proofs Lf
def nY(th:Th)(m:As):Nat→Ws→Ws→Int→Int→Ws×Ws×Int×Int
 |0,fs,gn,_,_=>(fs,gn,0,4)
 |f+1,fs,gn,n,deep=>
  if fG th m n deep≠0 then(fs,gn,0,fG th m n deep)
  else if j7 th m n deep=true∨(aN th m n deep).length≠1 then(fs,gn,n,0)
  else nY th m f (iU fs n) (pb fs gn n) ((aN th m n deep).getD 0 dB).2.1 (deep+1)
def vN(th:Th)(m:As)(f:Nat)(fs gn:Ws)(n deep:Int):Ws:=(nY th m f fs gn n deep).1
def vO(th:Th)(m:As)(f:Nat)(fs gn:Ws)(n deep:Int):Ws:=(nY th m f fs gn n deep).2.1
def wN(th:Th)(m:As)(f:Nat)(fs gn:Ws)(n deep:Int):Int:=(nY th m f fs gn n deep).2.2.1
def wO(th:Th)(m:As)(f:Nat)(fs gn:Ws)(n deep:Int):Int:=(nY th m f fs gn n deep).2.2.2
abbrev sLo:Spec (XT×Int):=⟨fun(_,n)=>[.ptr 0 0,bJ n],fun((th,m,fu,root,fr,fs,gn),_)=>hT th m fu root fr fs gn,fun((th,m,fu,_),n)=>[Ds.bI th m fu,0≤n∧n≤65536],
 fun((th,m,fu,root,fr,fs,gn),n)=>hT th m fu root fr (vN th m 17 fs gn n 1) (vO th m 17 fs gn n 1),fun((th,m,_,_,_,fs,gn),n)=>.bh [bJ (wN th m 17 fs gn n 1),bJ (wO th m 17 fs gn n 1)]⟩
def ajO:aG:=[(37,xV),(85,ajB)]
def amt:List (Nat×Norm):=[(3,⟨[],[0,1,6],4,[]⟩)]
noncomputable def cLo(th:Th)(m:As)(fu root:Int)(fr fs gn:Ws)(n deep:Int):bz:=⟨sl 38 [(0,.ptr 0 0),(1,bJ n),(6,bJ deep)],hT th m fu root fr fs gn,hd Tryd.f67 3,{}⟩
theorem auj(th:Th)(m:As)(fu root:Int)(fr fs gn:Ws)(n:Int):run P ajO.sum Tryd.f67 amt (start Tryd.f67 [.ptr 0 0,bJ n] (hT th m fu root fr fs gn))=
 Tree.at (.mk (sl 38 [(0,.ptr 0 0),(1,.s (.int .i64 n)),(6,.s (.int .i64 1))]) [.own [.ptr 1 0,.s (.int .i64 root),.ints .u64 16 fr,.ints .u64 16 fs,.ints .u64 16 gn] 70,.own [.vec 2,.ag 3,.s (.int .i64 fu)] 96,.vec (.ae [.arr .u8 64] th) 138,.map (.arr .u8 64) m] (hd Tryd.f67 3) (.mk none false 0 [] 0)):=by kernel_rfl
theorem auk(th:Th)(m:As)(fu root:Int)(fr fs gn:Ws)(n deep:Int):run P ajO.sum Tryd.f67 amt (cLo th m fu root fr fs gn n deep)=
 Tree.need (bu (some [AV.ptr 0 0,.s (.int .i64 n),.s (.int .i64 deep)]))
 (.need (bu (some [ad.own [.ptr 1 0,.s (.int .i64 root),.ints .u64 16 fr,.ints .u64 16 fs,.ints .u64 16 gn] 70,.own [.vec 2,.ag 3,.s (.int .i64 fu)] 96,.vec (.ae [.arr .u8 64] th) 138,.map (.arr .u8 64) m])) (.need (Ds.bI th m fu) (.need (aD n) (.ite (fG th m n deep !=0) (.ret [.own [.ptr 1 0,.s (.int .i64 root),.ints .u64 16 fr,.ints .u64 16 fs,.ints .u64 16 gn] 70,.own [.vec 2,.ag 3,.s (.int .i64 fu)] 96,.vec (.ae [.arr .u8 64] th) 138,.map (.arr .u8 64) m,.own [.s (.bool (j7 th m n deep)),.s (.ro (.ae [.str,.str] (bK th m n deep))),.s (.ro (.ae [.str,.int .i64] (aN th m n deep)))] 73] (.bh [.s (.aZ .i64 0),.s (.int .i64 (fG th m n deep))])) (.ite (j7 th m n deep) (.ret [.own [.ptr 1 0,.s (.int .i64 root),.ints .u64 16 fr,.ints .u64 16 fs,.ints .u64 16 gn] 70,.own [.vec 2,.ag 3,.s (.int .i64 fu)] 96,.vec (.ae [.arr .u8 64] th) 138,.map (.arr .u8 64) m,.own [.s (.bool (j7 th m n deep)),.s (.ro (.ae [.str,.str] (bK th m n deep))),.s (.ro (.ae [.str,.int .i64] (aN th m n deep)))] 73] (.bh [.s (.int .i64 n),.s (.aZ .i64 0)])) (.ite ((↑(aN th m n deep).length:Int) !=1) (.ret [.own [.ptr 1 0,.s (.int .i64 root),.ints .u64 16 fr,.ints .u64 16 fs,.ints .u64 16 gn] 70,.own [.vec 2,.ag 3,.s (.int .i64 fu)] 96,.vec (.ae [.arr .u8 64] th) 138,.map (.arr .u8 64) m,.own [.s (.bool (j7 th m n deep)),.s (.ro (.ae [.str,.str] (bK th m n deep))),.s (.ro (.ae [.str,.int .i64] (aN th m n deep)))] 73] (.bh [.s (.int .i64 n),.s (.aZ .i64 0)])) (.need (bu (some [AV.ptr 0 0,.s (.int .i64 n)])) (.need (bu (some [ad.own [.ptr 1 0,.s (.int .i64 root),.ints .u64 16 fr,.ints .u64 16 fs,.ints .u64 16 gn] 70,.own [.vec 2,.ag 3,.s (.int .i64 fu)] 96,.vec (.ae [.arr .u8 64] th) 138,.map (.arr .u8 64) m])) (.need ((0:Int)≤0) (.need ((0:Int)<(↑(aN th m n deep).length:Int)) (.need (aD (deep+1)) (.at (.mk (sl 38 [(0,.ptr 0 0),(1,.s (.int .i64 ((aN th m n deep).getD 0 (CL.d [.str,.int .i64])).snd.fst)),(6,.s (.int .i64 (deep+1)))]) [.own [.ptr 1 0,.s (.int .i64 root),.ints .u64 16 fr,.ints .u64 16 (iU fs n),.ints .u64 16 (pb fs gn n)] 70,.own [.vec 2,.ag 3,.s (.int .i64 fu)] 96,.vec (.ae [.arr .u8 64] th) 138,.map (.arr .u8 64) m] (hd Tryd.f67 3) (.mk none false 0 [] 0)))))))))))))):=by kernel_rfl
theorem abQ{Z:ba}:ajO.Ok P Z:=aG.Ok.cons (nK.sum mNo) (aG.Ok.cons (vA.sum mLv) aG.Ok.nil)
theorem ajP{th:Th}{m:As}{fu root:Int}{fr fs gn:Ws}{n:Int}{c:Ws×Ws×Int×Int}(e:c=nY th m 17 fs gn n 1):
 sLo.fk ((th,m,fu,root,fr,fs,gn),n)=hT th m fu root fr c.1 c.2.1∧sLo.out ((th,m,fu,root,fr,fs,gn),n)=.bh [bJ c.2.2.1,bJ c.2.2.2]:=by
 subst e;exact⟨rfl,rfl⟩
theorem abR{Z:ba}:js P Z 67 sLo:=by
 refine aP Tryd.func67 (by kernel_rfl) (fun x=>Nat.le_of_ble_eq_true (by kernel_rfl)) ?_
 rintro⟨⟨(th:Th),(m:As),(fu:Int),(root:Int),(fr:Ws),(dc:Ws),(gn0:Ws)⟩,(n0:Int)⟩ ⟨(hd:Ds.bI th m fu),(hn0:0≤n0∧n0≤65536),_⟩ X hX hz
 have hm:∀y∈amt,(hT th m fu root fr dc gn0).length≤y.2.m:=fun y hy=>by
  simp only[amt,List.mem_singleton]at hy;subst hy;exact Nat.le_refl _
 have loop:∀(f:Nat) (fs gn:Ws) (n deep:Int),1≤deep∧deep≤17→18≤deep+(f:Int)→0≤n∧n≤65536→nY th m f fs gn n deep=nY th m 17 dc gn0 n0 1→
  Safe P 67 X (kb sLo ((th,m,fu,root,fr,dc,gn0),n0)) (cLo th m fu root fr fs gn n deep):=by
  intro f
  induction f with
  |zero=>intro fs gn n deep h1 h2;omega
  |succ f ih=>
   intro fs gn n deep h1 h2 hn e
   rw[nY]at e
   refine Ds.eG hz hX hm abQ Tryd.func67 (auk th m fu root fr fs gn n deep) ⟨rfl,rfl,hd,zX (by omega) (by omega),fun h=> ?_,fun h=>⟨fun hl=> ?_,fun hl=>⟨fun h3=> ?_,fun h3=> ?_⟩⟩⟩
   ·have h:fG th m n deep≠0:=by simpa using h
    rw[if_pos h]at e
    obtain⟨f1,f2⟩:=ajP (fu:=fu) (root:=root) (fr:=fr) e
    exact bS 4 rfl (Nat.le_refl _) f2 f1
   ·have h:fG th m n deep=0:=by simpa using h
    rw[if_neg (by rw[h];simp),if_pos (.inl hl)]at e
    obtain⟨f1,f2⟩:=ajP (fu:=fu) (root:=root) (fr:=fr) e
    exact bS 4 rfl (Nat.le_refl _) f2 f1
   ·have h:fG th m n deep=0:=by simpa using h
    have h3:¬((aN th m n deep).length:Int)=1:=by simpa using h3
    rw[if_neg (by rw[h];simp),if_pos (.inr (by omega))]at e
    obtain⟨f1,f2⟩:=ajP (fu:=fu) (root:=root) (fr:=fr) e
    exact bS 4 rfl (Nat.le_refl _) f2 f1
   ·have h:fG th m n deep=0:=by simpa using h
    have h3:((aN th m n deep).length:Int)=1:=by simpa using h3
    rw[if_neg (by rw[h];simp),if_neg (by rintro(a|a);rw[hl]at a;cases a;omega)]at e
    have pg:=rM h 0
    obtain⟨_,_,_,_,_,n5,_⟩:=eu h
    exact⟨rfl,rfl,by omega,by omega,zX (by omega) (by omega),ih _ _ _ _ ⟨by omega,by omega⟩ (by omega) pg e⟩
 exact Ds.eG hz hX hm abQ Tryd.func67 (auj th m fu root fr dc gn0 n0) (loop 17 dc gn0 n0 1 ⟨by omega,by omega⟩ (by omega) hn0 rfl)
end Ts
namespace Ts
open Go Go.Sx Go.Proofs Lf
def iK(th:Th)(key:ByteArray)(op:Option ByteArray)(m:As)(fu root:Int)(fr fs gn:Ws):Chg:=
 if root≠0 then vz th key op 17 m fu fr fs gn root 1
 else if qI key op []≠0 then(m,fu,fr,fs,gn,[],qI key op [])
 else gK gn (bk th m fu fr fs true (doE key op []) [])
abbrev XK:Type:=XT×ByteArray×ByteArray
def wP(th:Th)(key:ByteArray)(op:Option ByteArray)(m:As)(fu root:Int)(fr fs gn:Ws):As:=(iK th key op m fu root fr fs gn).1
def wQ(th:Th)(key:ByteArray)(op:Option ByteArray)(m:As)(fu root:Int)(fr fs gn:Ws):Int:=(iK th key op m fu root fr fs gn).2.1
def wR(th:Th)(key:ByteArray)(op:Option ByteArray)(m:As)(fu root:Int)(fr fs gn:Ws):Ws:=(iK th key op m fu root fr fs gn).2.2.1
def abS(th:Th)(key:ByteArray)(op:Option ByteArray)(m:As)(fu root:Int)(fr fs gn:Ws):Ws:=(iK th key op m fu root fr fs gn).2.2.2.1
def abT(th:Th)(key:ByteArray)(op:Option ByteArray)(m:As)(fu root:Int)(fr fs gn:Ws):Ws:=(iK th key op m fu root fr fs gn).2.2.2.2.1
def vP(th:Th)(key:ByteArray)(op:Option ByteArray)(m:As)(fu root:Int)(fr fs gn:Ws):List Br:=(iK th key op m fu root fr fs gn).2.2.2.2.2.1
def vQ(th:Th)(key:ByteArray)(op:Option ByteArray)(m:As)(fu root:Int)(fr fs gn:Ws):Int:=(iK th key op m fu root fr fs gn).2.2.2.2.2.2
def aff(th:Th)(m:As)(fu root:Int)(fr:Ws)(key val:ByteArray):List Prop:=[Ds.bI th m fu,Bx.okW fr,0≤root∧root≤65536,1≤key.size∧key.size≤24,val.size≤100]
abbrev amu:Spec XK:=⟨fun(_,key,_)=>[.ptr 0 0,.s (.str key),.fn fP1 [.ptr 4 0,.ptr 5 0]],fun((th,m,fu,root,fr,fs,gn),key,val)=>qu th m fu root fr fs gn key val,fun((th,m,fu,root,fr,_,_),key,val)=>aff th m fu root fr key val,
 fun((th,m,fu,root,fr,fs,gn),key,val)=>qu th (wP th key (some val) m fu root fr fs gn) (wQ th key (some val) m fu root fr fs gn) root (wR th key (some val) m fu root fr fs gn) (abS th key (some val) m fu root fr fs gn) (abT th key (some val) m fu root fr fs gn) key val++[.vec (.ae cB (vP th key (some val) m fu root fr fs gn)) Lf.eB],
 fun((th,m,fu,root,fr,fs,gn),key,val)=>.bh [.vec 6,bJ (vQ th key (some val) m fu root fr fs gn)]⟩
abbrev amv:Spec XK:=⟨fun(_,key,_)=>[.ptr 0 0,.s (.str key),.fn fD1 [.ptr 4 0]],fun((th,m,fu,root,fr,fs,gn),key,_)=>qv th m fu root fr fs gn key,fun((th,m,fu,root,fr,_,_),key,val)=>aff th m fu root fr key val,
 fun((th,m,fu,root,fr,fs,gn),key,_)=>qv th (wP th key none m fu root fr fs gn) (wQ th key none m fu root fr fs gn) root (wR th key none m fu root fr fs gn) (abS th key none m fu root fr fs gn) (abT th key none m fu root fr fs gn) key++[.vec (.ae cB (vP th key none m fu root fr fs gn)) Lf.eB],
 fun((th,m,fu,root,fr,fs,gn),key,_)=>.bh [.vec 5,bJ (vQ th key none m fu root fr fs gn)]⟩
def amw:List AV→RM (XK×List Nat)
 |[t,.s (.str _),.fn _ [.ptr i 0,.ptr j 0]]=>(mT [t]).bind fun(X,σ)=>.look i fun o=>match o with
  |some (.own [.s (.str key)] _)=>.look j fun o=>match o with
   |some (.own [.s (.str val)] _)=>.ret ((X,key,val),σ++[i,j])
   |_=>.fail "no text"
  |_=>.fail "no text"
 |_=>.fail "top: arguments"
def amx:List AV→RM (XK×List Nat)
 |[t,.s (.str _),.fn _ [.ptr i 0]]=>(mT [t]).bind fun(X,σ)=>.look i fun o=>match o with
  |some (.own [.s (.str key)] _)=>.ret ((X,key,ByteArray.empty),σ++[i])
  |_=>.fail "no text"
 |_=>.fail "top: arguments"
def aoc:aG:=[(80,dm (wL 17) ami),(50,an4),(66,xW)]
def aod:aG:=[(80,dm (wM 17) amj),(52,an5),(66,xW)]
theorem aul(th:Th)(m:As)(fu root:Int)(fr fs gn:Ws)(key val:ByteArray):run P aoc.sum Tryd.f65 [] (start Tryd.f65 [.ptr 0 0,.s (.str key),.fn fP1 [.ptr 4 0,.ptr 5 0]] (qu th m fu root fr fs gn key val)) (inl:=[fP1])=
 Tree.ite (root !=0) (.need (bu (some [AV.ptr 0 0,.s (.int .i64 root),.s (.int .i64 1),.s (.str key),.fn 49 [.ptr 4 0,.ptr 5 0]])) (.need (bu (some [ad.own [.ptr 1 0,.s (.int .i64 root),.ints .u64 16 fr,.ints .u64 16 fs,.ints .u64 16 gn] 70,.own [.vec 2,.ag 3,.s (.int .i64 fu)] 96,.vec (.ae [.arr .u8 64] th) 138,.map (.arr .u8 64) m,.own [.s (.str key)] 9,.own [.s (.str val)] 9])) (.need (Ds.bI th m fu) (.need (Bx.okW fr) (.need ((0:Int)≤root∧root≤65536) (.need ((1:Int)≤1∧(1:Int)≤17) (.need ((18:Int)≤1+(↑(17:Nat):Int)) (.need ((1:Nat)≤key.size∧key.size≤24) (.need (val.size≤100) (.ret [.own [.ptr 1 0,.s (.int .i64 root),.ints .u64 16 (pj th key (some val) 17 m fu fr fs gn root 1),.ints .u64 16 (qw th key (some val) 17 m fu fr fs gn root 1),.ints .u64 16 (rI th key (some val) 17 m fu fr fs gn root 1)] 70,.own [.vec 2,.ag 3,.s (.int .i64 (ph th key (some val) 17 m fu fr fs gn root 1))] 96,.vec (.ae [.arr .u8 64] th) 138,.map (.arr .u8 64) (pf th key (some val) 17 m fu fr fs gn root 1),.own [.s (.str key)] 9,.own [.s (.str val)] 9,.vec (.ae [.str,.int .i64] (sN th key (some val) 17 m fu fr fs gn root 1)) 79] (.bh [.vec 6,.s (.int .i64 (rJ th key (some val) 17 m fu fr fs gn root 1))]))))))))))) (.need ((0:Nat)≤100000) (.need (iv (bA [])) (.need (bu (some [AV.ptr 0 0,.agg [.s (.bool true),.s (.ro (.ae [.str,.str] (bt [] key val))),.s (.ro (.ae [.str,.int .i64] []))]])) (.need (bu (some [ad.own [.ptr 1 0,.s (.int .i64 root),.ints .u64 16 fr,.ints .u64 16 fs,.ints .u64 16 gn] 70,.own [.vec 2,.ag 3,.s (.int .i64 fu)] 96,.vec (.ae [.arr .u8 64] th) 138,.map (.arr .u8 64) m])) (.need (Ds.bI th m fu) (.need (Bx.okW fr) (.need (zF true (bt [] key val) []) (.need (a6 (bt [] key val)) (.need (a7 []) (.ret [.own [.ptr 1 0,.s (.int .i64 root),.ints .u64 16 (bk th m fu fr fs true (bt [] key val) []).snd.snd.fst,.ints .u64 16 (bk th m fu fr fs true (bt [] key val) []).snd.snd.snd.fst,.ints .u64 16 gn] 70,.own [.vec 2,.ag 3,.s (.int .i64 (bk th m fu fr fs true (bt [] key val) []).snd.fst)] 96,.vec (.ae [.arr .u8 64] th) 138,.map (.arr .u8 64) (bk th m fu fr fs true (bt [] key val) []).fst,.own [.s (.str key)] 9,.own [.s (.str val)] 9,.dead,.vec (.ae [.str,.int .i64] (bk th m fu fr fs true (bt [] key val) []).snd.snd.snd.snd.fst) 79] (.bh [.vec 7,.s (.int .i64 (bk th m fu fr fs true (bt [] key val) []).snd.snd.snd.snd.snd)]))))))))))):=by kernel_rfl
theorem aum(th:Th)(m:As)(fu root:Int)(fr fs gn:Ws)(key:ByteArray):run P aod.sum Tryd.f65 [] (start Tryd.f65 [.ptr 0 0,.s (.str key),.fn fD1 [.ptr 4 0]] (qv th m fu root fr fs gn key)) (inl:=[fD1])=
 Tree.ite (root !=0) (.need (bu (some [AV.ptr 0 0,.s (.int .i64 root),.s (.int .i64 1),.s (.str key),.fn 51 [.ptr 4 0]])) (.need (bu (some [ad.own [.ptr 1 0,.s (.int .i64 root),.ints .u64 16 fr,.ints .u64 16 fs,.ints .u64 16 gn] 70,.own [.vec 2,.ag 3,.s (.int .i64 fu)] 96,.vec (.ae [.arr .u8 64] th) 138,.map (.arr .u8 64) m,.own [.s (.str key)] 9])) (.need (Ds.bI th m fu) (.need (Bx.okW fr) (.need ((0:Int)≤root∧root≤65536) (.need ((1:Int)≤1∧(1:Int)≤17) (.need ((18:Int)≤1+(↑(17:Nat):Int)) (.need ((1:Nat)≤key.size∧key.size≤24) (.need (ByteArray.empty.size≤100) (.ret [.own [.ptr 1 0,.s (.int .i64 root),.ints .u64 16 (pj th key none 17 m fu fr fs gn root 1),.ints .u64 16 (qw th key none 17 m fu fr fs gn root 1),.ints .u64 16 (rI th key none 17 m fu fr fs gn root 1)] 70,.own [.vec 2,.ag 3,.s (.int .i64 (ph th key none 17 m fu fr fs gn root 1))] 96,.vec (.ae [.arr .u8 64] th) 138,.map (.arr .u8 64) (pf th key none 17 m fu fr fs gn root 1),.own [.s (.str key)] 9,.vec (.ae [.str,.int .i64] (sN th key none 17 m fu fr fs gn root 1)) 79] (.bh [.vec 5,.s (.int .i64 (rJ th key none 17 m fu fr fs gn root 1))])))))))))))
 (.need ((0:Nat)≤100000) (.need (iv (bA [])) (.ite (!gR [] key) (.ret [.own [.ptr 1 0,.s (.int .i64 root),.ints .u64 16 fr,.ints .u64 16 fs,.ints .u64 16 gn] 70,.own [.vec 2,.ag 3,.s (.int .i64 fu)] 96,.vec (.ae [.arr .u8 64] th) 138,.map (.arr .u8 64) m,.own [.s (.str key)] 9,.vec (.ae [.str,.str] (cw [] key)) 34] (.bh [.emp,.s (.aZ .i64 5)])) (.need (bu (some [AV.ptr 0 0,.agg [.s (.bool true),.s (.ro (.ae [.str,.str] (cw [] key))),.s (.ro (.ae [.str,.int .i64] []))]])) (.need (bu (some [ad.own [.ptr 1 0,.s (.int .i64 root),.ints .u64 16 fr,.ints .u64 16 fs,.ints .u64 16 gn] 70,.own [.vec 2,.ag 3,.s (.int .i64 fu)] 96,.vec (.ae [.arr .u8 64] th) 138,.map (.arr .u8 64) m])) (.need (Ds.bI th m fu) (.need (Bx.okW fr) (.need (zF true (cw [] key) []) (.need (a6 (cw [] key)) (.need (a7 []) (.ret [.own [.ptr 1 0,.s (.int .i64 root),.ints .u64 16 (bk th m fu fr fs true (cw [] key) []).snd.snd.fst,.ints .u64 16 (bk th m fu fr fs true (cw [] key) []).snd.snd.snd.fst,.ints .u64 16 gn] 70,.own [.vec 2,.ag 3,.s (.int .i64 (bk th m fu fr fs true (cw [] key) []).snd.fst)] 96,.vec (.ae [.arr .u8 64] th) 138,.map (.arr .u8 64) (bk th m fu fr fs true (cw [] key) []).fst,.own [.s (.str key)] 9,.dead,.vec (.ae [.str,.int .i64] (bk th m fu fr fs true (cw [] key) []).snd.snd.snd.snd.fst) 79] (.bh [.vec 6,.s (.int .i64 (bk th m fu fr fs true (cw [] key) []).snd.snd.snd.snd.snd)])))))))))))):=by kernel_rfl
theorem aoe{th:Th}{m:As}{fu root:Int}{fr fs gn:Ws}{key val:ByteArray}{c:Chg}(e:iK th key (some val) m fu root fr fs gn=c):
 amu.fk ((th,m,fu,root,fr,fs,gn),key,val)=qu th c.1 c.2.1 root c.2.2.1 c.2.2.2.1 c.2.2.2.2.1 key val++[.vec (.ae cB c.2.2.2.2.2.1) Lf.eB]∧amu.out ((th,m,fu,root,fr,fs,gn),key,val)=.bh [.vec 6,bJ c.2.2.2.2.2.2]:=by
 subst e;exact⟨rfl,rfl⟩
theorem ajQ:aoc.Ok P Bx.bT:=aG.Ok.cons ((vL 17).sum ami) (aG.Ok.cons ajg.uD (aG.Ok.cons (ib (fX (jB.sum mTN) 1 _) 1) aG.Ok.nil))
theorem amy:js P Bx.bT 65 amu:=by
 refine fz Tryd.func65 (by kernel_rfl) (fun x=>Nat.le_of_ble_eq_true (by kernel_rfl)) ?_
 rintro⟨⟨(th:Th),(m:As),(fu:Int),(root:Int),(fr:Ws),(fs:Ws),(gn:Ws)⟩,(key:ByteArray),(val:ByteArray)⟩ ⟨(hd:Ds.bI th m fu),(hf:Bx.okW fr),(hr:0≤root∧root≤65536),(hk:1≤key.size∧key.size≤24),(hv:val.size≤100),_⟩ X hX hz
 have hkk:∀v:ByteArray,(some val)=some v→v.size≤100:=fun v e=>by cases e;exact hv
 have sm:=nN (key:=key) (op:=(some val)) (es:=[]) hk.2 hkk (Nat.zero_le _) ia
 refine Ds.eG hz hX (by intro y hy;cases hy) ajQ Tryd.func65 (aul th m fu root fr fs gn key val) ⟨fun h=>⟨rfl,rfl,hd,hf,hr,⟨by omega,by omega⟩,by omega,hk,hv, ?_⟩,fun h=>⟨by omega,by unfold iv;intro i j _ hj;simp at hj,rfl,rfl,hd,hf,⟨fun _=>rfl,fun e=>by cases e⟩,sm,vn, ?_⟩⟩
 ·have h:root≠0:=by simpa using h
  obtain⟨f1,f2⟩:=aoe (val:=val) (show iK th key (some val) m fu root fr fs gn=vz th key (some val) 17 m fu fr fs gn root 1 by unfold iK;rw[if_pos h])
  exact ke ⟨[],[0,1],6,[]⟩ rfl (Nat.le_refl _) (oq.same _) f2 f1
 ·have h:¬root≠0:=by simpa using h
  obtain⟨f1,f2⟩:=aoe (val:=val) (show iK th key (some val) m fu root fr fs gn=gK gn (bk th m fu fr fs true (bt [] key val) [])by unfold iK;rw[if_neg h,if_neg (by show¬(0:Int)≠0;simp)];rfl)
  exact ke ⟨[],[0,1],6,[]⟩ rfl (Nat.le_refl _) (oq.same _) f2 f1
theorem aof{th:Th}{m:As}{fu root:Int}{fr fs gn:Ws}{key val:ByteArray}{c:Chg}(e:iK th key none m fu root fr fs gn=c):
 amv.fk ((th,m,fu,root,fr,fs,gn),key,val)=qv th c.1 c.2.1 root c.2.2.1 c.2.2.2.1 c.2.2.2.2.1 key++[.vec (.ae cB c.2.2.2.2.2.1) Lf.eB]∧amv.out ((th,m,fu,root,fr,fs,gn),key,val)=.bh [.vec 5,bJ c.2.2.2.2.2.2]:=by
 subst e;exact⟨rfl,rfl⟩
theorem ajR:aod.Ok P Bx.bT:=aG.Ok.cons ((vM 17).sum amj) (aG.Ok.cons ai7.sum (aG.Ok.cons (ib (fX (jB.sum mTN) 1 _) 1) aG.Ok.nil))
theorem amz:js P Bx.bT 65 amv:=by
 refine fz Tryd.func65 (by kernel_rfl) (fun x=>Nat.le_of_ble_eq_true (by kernel_rfl)) ?_
 rintro⟨⟨(th:Th),(m:As),(fu:Int),(root:Int),(fr:Ws),(fs:Ws),(gn:Ws)⟩,(key:ByteArray),(val:ByteArray)⟩ ⟨(hd:Ds.bI th m fu),(hf:Bx.okW fr),(hr:0≤root∧root≤65536),(hk:1≤key.size∧key.size≤24),(hv:val.size≤100),_⟩ X hX hz
 have hkk:∀v:ByteArray,none=some v→v.size≤100:=fun v e=>by cases e
 have sm:=nN (key:=key) (op:=none) (es:=[]) hk.2 hkk (Nat.zero_le _) ia
 refine Ds.eG hz hX (by intro y hy;cases hy) ajR Tryd.func65 (aum th m fu root fr fs gn key) ⟨fun h=>⟨rfl,rfl,hd,hf,hr,⟨by omega,by omega⟩,by omega,hk,(Nat.zero_le 100), ?_⟩,fun h=>⟨by omega,by unfold iv;intro i j _ hj;simp at hj,fun hb=> ?_,fun hb=> ?_⟩⟩
 ·have h:root≠0:=by simpa using h
  obtain⟨f1,f2⟩:=aof (val:=val) (show iK th key none m fu root fr fs gn=vz th key none 17 m fu fr fs gn root 1 by unfold iK;rw[if_pos h])
  exact ke ⟨[],[0,1],5,[]⟩ rfl (Nat.le_refl _) (oq.same _) f2 f1
 ·have h:¬root≠0:=by simpa using h
  obtain⟨f1,f2⟩:=aof (val:=val) (show iK th key none m fu root fr fs gn=(m,fu,fr,fs,gn,[],5)by unfold iK;rw[if_neg h,if_pos (by show(5:Int)≠0;simp)];rfl)
  exact ke ⟨[(0,.ae cB [],Lf.eB)],[0,1],5,[]⟩ rfl (Nat.le_refl _) (oq.same _) f2 f1
 ·exact absurd hb (by show¬(!gR [] key)=false;simp[gR,cw])
end Ts
namespace Ts
open Go Go.Sx Go.Proofs Lf
def zY(th:Th)(c:Chg):Chg:=if c.2.2.2.2.2.2=0∧1<c.2.2.2.2.2.1.length then gK c.2.2.2.2.1 (bk th c.1 c.2.1 c.2.2.1 c.2.2.2.1 false [] c.2.2.2.2.2.1)else c
abbrev Chs:Type:=As×Int×Int×Ws×Ws×Ws×Int
def nq(th:Th)(aK:Int)(du dc gn0:Ws)(m:As)(fu root:Int)(fr fs gn:Ws)(e:Int):Chs:=
 if e≠0 then(m,fu,aK,du,dc,gn0,e)else(m,fu,root,Bx.bY .or fr gn,fs,Bx.aJ,0)
def jv(th:Th)(aK:Int)(du dc gn0:Ws)(c:Chg):Chs:=
 if c.2.2.2.2.2.2=0∧c.2.2.2.2.2.1.length=1 then
  nq th aK du dc gn0 c.1 c.2.1 (wN th c.1 17 c.2.2.2.1 c.2.2.2.2.1 (c.2.2.2.2.2.1.getD 0 dB).2.1 1) c.2.2.1 (vN th c.1 17 c.2.2.2.1 c.2.2.2.2.1 (c.2.2.2.2.2.1.getD 0 dB).2.1 1) (vO th c.1 17 c.2.2.2.1 c.2.2.2.2.1 (c.2.2.2.2.2.1.getD 0 dB).2.1 1) (wO th c.1 17 c.2.2.2.1 c.2.2.2.2.1 (c.2.2.2.2.2.1.getD 0 dB).2.1 1)
 else nq th aK du dc gn0 c.1 c.2.1 0 c.2.2.1 c.2.2.2.1 c.2.2.2.2.1 c.2.2.2.2.2.2
def kf(th:Th)(key:ByteArray)(op:Option ByteArray)(m:As)(fu root:Int)(fr fs gn:Ws):Chs:=jv th root fr fs gn (zY th (iK th key op m fu root fr fs gn))
def amA(th:Th)(key:ByteArray)(op:Option ByteArray)(m:As)(fu root:Int)(fr fs gn:Ws):As:=(kf th key op m fu root fr fs gn).1
def amB(th:Th)(key:ByteArray)(op:Option ByteArray)(m:As)(fu root:Int)(fr fs gn:Ws):Int:=(kf th key op m fu root fr fs gn).2.1
def amC(th:Th)(key:ByteArray)(op:Option ByteArray)(m:As)(fu root:Int)(fr fs gn:Ws):Int:=(kf th key op m fu root fr fs gn).2.2.1
def amD(th:Th)(key:ByteArray)(op:Option ByteArray)(m:As)(fu root:Int)(fr fs gn:Ws):Ws:=(kf th key op m fu root fr fs gn).2.2.2.1
def amE(th:Th)(key:ByteArray)(op:Option ByteArray)(m:As)(fu root:Int)(fr fs gn:Ws):Ws:=(kf th key op m fu root fr fs gn).2.2.2.2.1
def amF(th:Th)(key:ByteArray)(op:Option ByteArray)(m:As)(fu root:Int)(fr fs gn:Ws):Ws:=(kf th key op m fu root fr fs gn).2.2.2.2.2.1
def amG(th:Th)(key:ByteArray)(op:Option ByteArray)(m:As)(fu root:Int)(fr fs gn:Ws):Int:=(kf th key op m fu root fr fs gn).2.2.2.2.2.2
abbrev sOr:=bU [Bx.dO,Bx.dO] [Bx.dO] (fun _=>[]) (fun(a,b,())=>(Bx.bY .or a b,()))
abbrev abU:Spec XK:=⟨fun(_,key,_)=>[.ptr 0 0,.s (.str key),.fn fP1 [.ptr 4 0,.ptr 5 0]],fun((th,m,fu,root,fr,fs,gn),key,val)=>qu th m fu root fr fs gn key val,fun((th,m,fu,root,fr,_,_),key,val)=>aff th m fu root fr key val,
 fun((th,m,fu,root,fr,fs,gn),key,val)=>qu th (amA th key (some val) m fu root fr fs gn) (amB th key (some val) m fu root fr fs gn) (amC th key (some val) m fu root fr fs gn) (amD th key (some val) m fu root fr fs gn) (amE th key (some val) m fu root fr fs gn) (amF th key (some val) m fu root fr fs gn) key val,
 fun((th,m,fu,root,fr,fs,gn),key,val)=>bJ (amG th key (some val) m fu root fr fs gn)⟩
def vR:aG:=[(65,dm amu amw),(66,xW),(67,dm sLo mLv),(28,sOr)]
def x6:List (Nat×Norm):=[(3,⟨[],[0,7,8,9],6,[]⟩),(5,⟨[],[0,7,8,9],6,[]⟩),(8,⟨[],[0,7,9],6,[]⟩)]
noncomputable def ajS(th:Th)(aK:Int)(du dc gn0:Ws)(m:As)(fu root:Int)(fr fs gn:Ws)(key val:ByteArray)(l:List Br)(e:Int):bz:=⟨sl 78 [(0,.ptr 0 0),(7,.ptr 6 0),(8,.vec 7),(9,bJ e)],qu th m fu root fr fs gn key val++[obT 1 aK du dc gn0,.vec (.ae cB l) Lf.eB],hd Tryd.f48 3,{}⟩
noncomputable def aog(th:Th)(aK:Int)(du dc gn0:Ws)(m:As)(fu root:Int)(fr fs gn:Ws)(key val:ByteArray)(l:List Br)(e:Int):bz:=⟨sl 78 [(0,.ptr 0 0),(7,.ptr 6 0),(8,.vec 7),(9,bJ e)],qu th m fu root fr fs gn key val++[obT 1 aK du dc gn0,.vec (.ae cB l) Lf.eB],hr Tryd.f48 5,{}⟩
noncomputable def aoh(th:Th)(aK:Int)(du dc gn0:Ws)(m:As)(fu root:Int)(fr fs gn:Ws)(key val:ByteArray)(e:Int):bz:=⟨sl 78 [(0,.ptr 0 0),(7,.ptr 6 0),(9,bJ e)],qu th m fu root fr fs gn key val++[obT 1 aK du dc gn0],hr Tryd.f48 8,{}⟩
theorem ash(th:Th)(m:As)(fu root:Int)(fr fs gn:Ws)(key val:ByteArray):run P vR.sum Tryd.f48 x6 (start Tryd.f48 [.ptr 0 0,.s (.str key),.fn fP1 [.ptr 4 0,.ptr 5 0]] (qu th m fu root fr fs gn key val))=
 Tree.need (bu (some [AV.ptr 0 0,.s (.str key),.fn 49 [.ptr 4 0,.ptr 5 0]])) (.need (bu (some [ad.own [.ptr 1 0,.s (.int .i64 root),.ints .u64 16 fr,.ints .u64 16 fs,.ints .u64 16 gn] 70,.own [.vec 2,.ag 3,.s (.int .i64 fu)] 96,.vec (.ae [.arr .u8 64] th) 138,.map (.arr .u8 64) m,.own [.s (.str key)] 9,.own [.s (.str val)] 9])) (.need (Ds.bI th m fu) (.need (Bx.okW fr) (.need ((0:Int)≤root∧root≤65536) (.need ((1:Nat)≤key.size∧key.size≤24) (.need (val.size≤100) (.at (.mk (sl 78 [(0,.ptr 0 0),(7,.ptr 6 0),(8,.vec 7),(9,.s (.int .i64 (vQ th key (some val) m fu root fr fs gn)))]) [.own [.ptr 1 0,.s (.int .i64 root),.ints .u64 16 (wR th key (some val) m fu root fr fs gn),.ints .u64 16 (abS th key (some val) m fu root fr fs gn),.ints .u64 16 (abT th key (some val) m fu root fr fs gn)] 70,.own [.vec 2,.ag 3,.s (.int .i64 (wQ th key (some val) m fu root fr fs gn))] 96,.vec (.ae [.arr .u8 64] th) 138,.map (.arr .u8 64) (wP th key (some val) m fu root fr fs gn),.own [.s (.str key)] 9,.own [.s (.str val)] 9,.own [.ptr 1 0,.s (.int .i64 root),.ints .u64 16 fr,.ints .u64 16 fs,.ints .u64 16 gn] 70,.vec (.ae [.str,.int .i64] (vP th key (some val) m fu root fr fs gn)) 79] (hd Tryd.f48 3) (.mk none false 0 [] 0))))))))):=by kernel_rfl
theorem ajT(th:Th)(aK:Int)(du dc gn0:Ws)(m:As)(fu root:Int)(fr fs gn:Ws)(key val:ByteArray)(l:List Br)(e:Int):run P vR.sum Tryd.f48 x6 (ajS th aK du dc gn0 m fu root fr fs gn key val l e)=
 Tree.ite (e==0) (.ite (decide ((↑l.length:Int)>1)) (.need (bu (some [AV.ptr 0 0,.agg [.s (.bool false),.s (.ro (.ae [.str,.str] [])),.s (.ro (.ae [.str,.int .i64] l))]])) (.need (bu (some [ad.own [.ptr 1 0,.s (.int .i64 root),.ints .u64 16 fr,.ints .u64 16 fs,.ints .u64 16 gn] 70,.own [.vec 2,.ag 3,.s (.int .i64 fu)] 96,.vec (.ae [.arr .u8 64] th) 138,.map (.arr .u8 64) m])) (.need (Ds.bI th m fu) (.need (Bx.okW fr) (.need (zF false [] l) (.need (a6 []) (.need (a7 l) (.at (.mk (sl 78 [(0,.ptr 0 0),(7,.ptr 6 0),(8,.vec 7),(9,.s (.int .i64 (bk th m fu fr fs false [] l).snd.snd.snd.snd.snd))]) [.own [.ptr 1 0,.s (.int .i64 root),.ints .u64 16 (bk th m fu fr fs false [] l).snd.snd.fst,.ints .u64 16 (bk th m fu fr fs false [] l).snd.snd.snd.fst,.ints .u64 16 gn] 70,.own [.vec 2,.ag 3,.s (.int .i64 (bk th m fu fr fs false [] l).snd.fst)] 96,.vec (.ae [.arr .u8 64] th) 138,.map (.arr .u8 64) (bk th m fu fr fs false [] l).fst,.own [.s (.str key)] 9,.own [.s (.str val)] 9,.own [.ptr 1 0,.s (.int .i64 aK),.ints .u64 16 du,.ints .u64 16 dc,.ints .u64 16 gn0] 70,.vec (.ae [.str,.int .i64] (bk th m fu fr fs false [] l).snd.snd.snd.snd.fst) 79] (hd Tryd.f48 3) (.mk none false 0 [] 0)))))))))) (.at (.mk (sl 78 [(0,.ptr 0 0),(7,.ptr 6 0),(8,.vec 7),(9,.s (.int .i64 e))]) [.own [.ptr 1 0,.s (.int .i64 root),.ints .u64 16 fr,.ints .u64 16 fs,.ints .u64 16 gn] 70,.own [.vec 2,.ag 3,.s (.int .i64 fu)] 96,.vec (.ae [.arr .u8 64] th) 138,.map (.arr .u8 64) m,.own [.s (.str key)] 9,.own [.s (.str val)] 9,.own [.ptr 1 0,.s (.int .i64 aK),.ints .u64 16 du,.ints .u64 16 dc,.ints .u64 16 gn0] 70,.vec (.ae [.str,.int .i64] l) 79] (hr Tryd.f48 5) (.mk none false 0 [] 0)))) (.at (.mk (sl 78 [(0,.ptr 0 0),(7,.ptr 6 0),(8,.vec 7),(9,.s (.int .i64 e))]) [.own [.ptr 1 0,.s (.int .i64 root),.ints .u64 16 fr,.ints .u64 16 fs,.ints .u64 16 gn] 70,.own [.vec 2,.ag 3,.s (.int .i64 fu)] 96,.vec (.ae [.arr .u8 64] th) 138,.map (.arr .u8 64) m,.own [.s (.str key)] 9,.own [.s (.str val)] 9,.own [.ptr 1 0,.s (.int .i64 aK),.ints .u64 16 du,.ints .u64 16 dc,.ints .u64 16 gn0] 70,.vec (.ae [.str,.int .i64] l) 79] (hr Tryd.f48 5) (.mk none false 0 [] 0))):=by kernel_rfl
theorem aql(th:Th)(aK:Int)(du dc gn0:Ws)(m:As)(fu root:Int)(fr fs gn:Ws)(key val:ByteArray)(l:List Br)(e:Int):run P vR.sum Tryd.f48 x6 (aog th aK du dc gn0 m fu root fr fs gn key val l e)=
 Tree.ite (e==0) (.ite ((↑l.length:Int)==1) (.need ((0:Int)≤0) (.need ((0:Int)<(↑l.length:Int)) (.need (bu (some [AV.ptr 0 0,.s (.int .i64 (l.getD 0 (CL.d [.str,.int .i64])).snd.fst)])) (.need (bu (some [ad.own [.ptr 1 0,.s (.int .i64 0),.ints .u64 16 fr,.ints .u64 16 fs,.ints .u64 16 gn] 70,.own [.vec 2,.ag 3,.s (.int .i64 fu)] 96,.vec (.ae [.arr .u8 64] th) 138,.map (.arr .u8 64) m])) (.need (Ds.bI th m fu) (.need ((0:Int)≤(l.getD 0 (CL.d [.str,.int .i64])).snd.fst∧(l.getD 0 (CL.d [.str,.int .i64])).snd.fst≤65536) (.at (.mk (sl 78 [(0,.ptr 0 0),(7,.ptr 6 0),(9,.s (.int .i64 (wO th m 17 fs gn (l.getD 0 (CL.d [.str,.int .i64])).snd.fst 1)))]) [.own [.ptr 1 0,.s (.int .i64 (wN th m 17 fs gn (l.getD 0 (CL.d [.str,.int .i64])).snd.fst 1)),.ints .u64 16 fr,.ints .u64 16 (vN th m 17 fs gn (l.getD 0 (CL.d [.str,.int .i64])).snd.fst 1),.ints .u64 16 (vO th m 17 fs gn (l.getD 0 (CL.d [.str,.int .i64])).snd.fst 1)] 70,.own [.vec 2,.ag 3,.s (.int .i64 fu)] 96,.vec (.ae [.arr .u8 64] th) 138,.map (.arr .u8 64) m,.own [.s (.str key)] 9,.own [.s (.str val)] 9,.own [.ptr 1 0,.s (.int .i64 aK),.ints .u64 16 du,.ints .u64 16 dc,.ints .u64 16 gn0] 70] (hr Tryd.f48 8) (.mk none false 0 [] 0))))))))) (.at (.mk (sl 78 [(0,.ptr 0 0),(7,.ptr 6 0),(9,.s (.int .i64 e))]) [.own [.ptr 1 0,.s (.int .i64 0),.ints .u64 16 fr,.ints .u64 16 fs,.ints .u64 16 gn] 70,.own [.vec 2,.ag 3,.s (.int .i64 fu)] 96,.vec (.ae [.arr .u8 64] th) 138,.map (.arr .u8 64) m,.own [.s (.str key)] 9,.own [.s (.str val)] 9,.own [.ptr 1 0,.s (.int .i64 aK),.ints .u64 16 du,.ints .u64 16 dc,.ints .u64 16 gn0] 70] (hr Tryd.f48 8) (.mk none false 0 [] 0)))) (.at (.mk (sl 78 [(0,.ptr 0 0),(7,.ptr 6 0),(9,.s (.int .i64 e))]) [.own [.ptr 1 0,.s (.int .i64 0),.ints .u64 16 fr,.ints .u64 16 fs,.ints .u64 16 gn] 70,.own [.vec 2,.ag 3,.s (.int .i64 fu)] 96,.vec (.ae [.arr .u8 64] th) 138,.map (.arr .u8 64) m,.own [.s (.str key)] 9,.own [.s (.str val)] 9,.own [.ptr 1 0,.s (.int .i64 aK),.ints .u64 16 du,.ints .u64 16 dc,.ints .u64 16 gn0] 70] (hr Tryd.f48 8) (.mk none false 0 [] 0))):=by kernel_rfl
theorem aqm(th:Th)(aK:Int)(du dc gn0:Ws)(m:As)(fu root:Int)(fr fs gn:Ws)(key val:ByteArray)(e:Int):run P vR.sum Tryd.f48 x6 (aoh th aK du dc gn0 m fu root fr fs gn key val e)=
 Tree.ite (e !=0) (.ret [.own [.ptr 1 0,.s (.int .i64 aK),.ints .u64 16 du,.ints .u64 16 dc,.ints .u64 16 gn0] 70,.own [.vec 2,.ag 3,.s (.int .i64 fu)] 96,.vec (.ae [.arr .u8 64] th) 138,.map (.arr .u8 64) m,.own [.s (.str key)] 9,.own [.s (.str val)] 9,.own [.ptr 1 0,.s (.int .i64 aK),.ints .u64 16 du,.ints .u64 16 dc,.ints .u64 16 gn0] 70] (.s (.int .i64 e))) (.ret [.own [.ptr 1 0,.s (.int .i64 root),.ints .u64 16 (Bx.bY BinOp.or fr gn),.ints .u64 16 fs,.ints .u64 16 (List.replicate 16 0)] 70,.own [.vec 2,.ag 3,.s (.int .i64 fu)] 96,.vec (.ae [.arr .u8 64] th) 138,.map (.arr .u8 64) m,.own [.s (.str key)] 9,.own [.s (.str val)] 9,.own [.ptr 1 0,.s (.int .i64 aK),.ints .u64 16 du,.ints .u64 16 dc,.ints .u64 16 gn0] 70] (.s (.aZ .i64 0))):=by kernel_rfl
abbrev abV:Spec XK:=⟨fun(_,key,_)=>[.ptr 0 0,.s (.str key),.fn fD1 [.ptr 4 0]],fun((th,m,fu,root,fr,fs,gn),key,_)=>qv th m fu root fr fs gn key,fun((th,m,fu,root,fr,_,_),key,val)=>aff th m fu root fr key val,
 fun((th,m,fu,root,fr,fs,gn),key,_)=>qv th (amA th key none m fu root fr fs gn) (amB th key none m fu root fr fs gn) (amC th key none m fu root fr fs gn) (amD th key none m fu root fr fs gn) (amE th key none m fu root fr fs gn) (amF th key none m fu root fr fs gn) key,
 fun((th,m,fu,root,fr,fs,gn),key,_)=>bJ (amG th key none m fu root fr fs gn)⟩
def vS:aG:=[(65,dm amv amx),(66,xW),(67,dm sLo mLv),(28,sOr)]
def x7:List (Nat×Norm):=[(3,⟨[],[0,7,8,9],5,[]⟩),(5,⟨[],[0,7,8,9],5,[]⟩),(8,⟨[],[0,7,9],5,[]⟩)]
noncomputable def ajU(th:Th)(aK:Int)(du dc gn0:Ws)(m:As)(fu root:Int)(fr fs gn:Ws)(key:ByteArray)(l:List Br)(e:Int):bz:=⟨sl 78 [(0,.ptr 0 0),(7,.ptr 5 0),(8,.vec 6),(9,bJ e)],qv th m fu root fr fs gn key++[obT 1 aK du dc gn0,.vec (.ae cB l) Lf.eB],hd Tryd.f48 3,{}⟩
noncomputable def aoi(th:Th)(aK:Int)(du dc gn0:Ws)(m:As)(fu root:Int)(fr fs gn:Ws)(key:ByteArray)(l:List Br)(e:Int):bz:=⟨sl 78 [(0,.ptr 0 0),(7,.ptr 5 0),(8,.vec 6),(9,bJ e)],qv th m fu root fr fs gn key++[obT 1 aK du dc gn0,.vec (.ae cB l) Lf.eB],hr Tryd.f48 5,{}⟩
noncomputable def aoj(th:Th)(aK:Int)(du dc gn0:Ws)(m:As)(fu root:Int)(fr fs gn:Ws)(key:ByteArray)(e:Int):bz:=⟨sl 78 [(0,.ptr 0 0),(7,.ptr 5 0),(9,bJ e)],qv th m fu root fr fs gn key++[obT 1 aK du dc gn0],hr Tryd.f48 8,{}⟩
theorem asi(th:Th)(m:As)(fu root:Int)(fr fs gn:Ws)(key:ByteArray):run P vS.sum Tryd.f48 x7 (start Tryd.f48 [.ptr 0 0,.s (.str key),.fn fD1 [.ptr 4 0]] (qv th m fu root fr fs gn key))=
 Tree.need (bu (some [AV.ptr 0 0,.s (.str key),.fn 51 [.ptr 4 0]])) (.need (bu (some [ad.own [.ptr 1 0,.s (.int .i64 root),.ints .u64 16 fr,.ints .u64 16 fs,.ints .u64 16 gn] 70,.own [.vec 2,.ag 3,.s (.int .i64 fu)] 96,.vec (.ae [.arr .u8 64] th) 138,.map (.arr .u8 64) m,.own [.s (.str key)] 9])) (.need (Ds.bI th m fu) (.need (Bx.okW fr) (.need ((0:Int)≤root∧root≤65536) (.need ((1:Nat)≤key.size∧key.size≤24) (.need (ByteArray.empty.size≤100) (.at (.mk (sl 78 [(0,.ptr 0 0),(7,.ptr 5 0),(8,.vec 6),(9,.s (.int .i64 (vQ th key none m fu root fr fs gn)))]) [.own [.ptr 1 0,.s (.int .i64 root),.ints .u64 16 (wR th key none m fu root fr fs gn),.ints .u64 16 (abS th key none m fu root fr fs gn),.ints .u64 16 (abT th key none m fu root fr fs gn)] 70,.own [.vec 2,.ag 3,.s (.int .i64 (wQ th key none m fu root fr fs gn))] 96,.vec (.ae [.arr .u8 64] th) 138,.map (.arr .u8 64) (wP th key none m fu root fr fs gn),.own [.s (.str key)] 9,.own [.ptr 1 0,.s (.int .i64 root),.ints .u64 16 fr,.ints .u64 16 fs,.ints .u64 16 gn] 70,.vec (.ae [.str,.int .i64] (vP th key none m fu root fr fs gn)) 79] (hd Tryd.f48 3) (.mk none false 0 [] 0))))))))):=by kernel_rfl
theorem ajV(th:Th)(aK:Int)(du dc gn0:Ws)(m:As)(fu root:Int)(fr fs gn:Ws)(key:ByteArray)(l:List Br)(e:Int):run P vS.sum Tryd.f48 x7 (ajU th aK du dc gn0 m fu root fr fs gn key l e)=
 Tree.ite (e==0) (.ite (decide ((↑l.length:Int)>1)) (.need (bu (some [AV.ptr 0 0,.agg [.s (.bool false),.s (.ro (.ae [.str,.str] [])),.s (.ro (.ae [.str,.int .i64] l))]])) (.need (bu (some [ad.own [.ptr 1 0,.s (.int .i64 root),.ints .u64 16 fr,.ints .u64 16 fs,.ints .u64 16 gn] 70,.own [.vec 2,.ag 3,.s (.int .i64 fu)] 96,.vec (.ae [.arr .u8 64] th) 138,.map (.arr .u8 64) m])) (.need (Ds.bI th m fu) (.need (Bx.okW fr) (.need (zF false [] l) (.need (a6 []) (.need (a7 l) (.at (.mk (sl 78 [(0,.ptr 0 0),(7,.ptr 5 0),(8,.vec 6),(9,.s (.int .i64 (bk th m fu fr fs false [] l).snd.snd.snd.snd.snd))]) [.own [.ptr 1 0,.s (.int .i64 root),.ints .u64 16 (bk th m fu fr fs false [] l).snd.snd.fst,.ints .u64 16 (bk th m fu fr fs false [] l).snd.snd.snd.fst,.ints .u64 16 gn] 70,.own [.vec 2,.ag 3,.s (.int .i64 (bk th m fu fr fs false [] l).snd.fst)] 96,.vec (.ae [.arr .u8 64] th) 138,.map (.arr .u8 64) (bk th m fu fr fs false [] l).fst,.own [.s (.str key)] 9,.own [.ptr 1 0,.s (.int .i64 aK),.ints .u64 16 du,.ints .u64 16 dc,.ints .u64 16 gn0] 70,.vec (.ae [.str,.int .i64] (bk th m fu fr fs false [] l).snd.snd.snd.snd.fst) 79] (hd Tryd.f48 3) (.mk none false 0 [] 0)))))))))) (.at (.mk (sl 78 [(0,.ptr 0 0),(7,.ptr 5 0),(8,.vec 6),(9,.s (.int .i64 e))]) [.own [.ptr 1 0,.s (.int .i64 root),.ints .u64 16 fr,.ints .u64 16 fs,.ints .u64 16 gn] 70,.own [.vec 2,.ag 3,.s (.int .i64 fu)] 96,.vec (.ae [.arr .u8 64] th) 138,.map (.arr .u8 64) m,.own [.s (.str key)] 9,.own [.ptr 1 0,.s (.int .i64 aK),.ints .u64 16 du,.ints .u64 16 dc,.ints .u64 16 gn0] 70,.vec (.ae [.str,.int .i64] l) 79] (hr Tryd.f48 5) (.mk none false 0 [] 0)))) (.at (.mk (sl 78 [(0,.ptr 0 0),(7,.ptr 5 0),(8,.vec 6),(9,.s (.int .i64 e))]) [.own [.ptr 1 0,.s (.int .i64 root),.ints .u64 16 fr,.ints .u64 16 fs,.ints .u64 16 gn] 70,.own [.vec 2,.ag 3,.s (.int .i64 fu)] 96,.vec (.ae [.arr .u8 64] th) 138,.map (.arr .u8 64) m,.own [.s (.str key)] 9,.own [.ptr 1 0,.s (.int .i64 aK),.ints .u64 16 du,.ints .u64 16 dc,.ints .u64 16 gn0] 70,.vec (.ae [.str,.int .i64] l) 79] (hr Tryd.f48 5) (.mk none false 0 [] 0))):=by kernel_rfl
theorem aqn(th:Th)(aK:Int)(du dc gn0:Ws)(m:As)(fu root:Int)(fr fs gn:Ws)(key:ByteArray)(l:List Br)(e:Int):run P vS.sum Tryd.f48 x7 (aoi th aK du dc gn0 m fu root fr fs gn key l e)=
 Tree.ite (e==0) (.ite ((↑l.length:Int)==1) (.need ((0:Int)≤0) (.need ((0:Int)<(↑l.length:Int)) (.need (bu (some [AV.ptr 0 0,.s (.int .i64 (l.getD 0 (CL.d [.str,.int .i64])).snd.fst)])) (.need (bu (some [ad.own [.ptr 1 0,.s (.int .i64 0),.ints .u64 16 fr,.ints .u64 16 fs,.ints .u64 16 gn] 70,.own [.vec 2,.ag 3,.s (.int .i64 fu)] 96,.vec (.ae [.arr .u8 64] th) 138,.map (.arr .u8 64) m])) (.need (Ds.bI th m fu) (.need ((0:Int)≤(l.getD 0 (CL.d [.str,.int .i64])).snd.fst∧(l.getD 0 (CL.d [.str,.int .i64])).snd.fst≤65536) (.at (.mk (sl 78 [(0,.ptr 0 0),(7,.ptr 5 0),(9,.s (.int .i64 (wO th m 17 fs gn (l.getD 0 (CL.d [.str,.int .i64])).snd.fst 1)))]) [.own [.ptr 1 0,.s (.int .i64 (wN th m 17 fs gn (l.getD 0 (CL.d [.str,.int .i64])).snd.fst 1)),.ints .u64 16 fr,.ints .u64 16 (vN th m 17 fs gn (l.getD 0 (CL.d [.str,.int .i64])).snd.fst 1),.ints .u64 16 (vO th m 17 fs gn (l.getD 0 (CL.d [.str,.int .i64])).snd.fst 1)] 70,.own [.vec 2,.ag 3,.s (.int .i64 fu)] 96,.vec (.ae [.arr .u8 64] th) 138,.map (.arr .u8 64) m,.own [.s (.str key)] 9,.own [.ptr 1 0,.s (.int .i64 aK),.ints .u64 16 du,.ints .u64 16 dc,.ints .u64 16 gn0] 70] (hr Tryd.f48 8) (.mk none false 0 [] 0))))))))) (.at (.mk (sl 78 [(0,.ptr 0 0),(7,.ptr 5 0),(9,.s (.int .i64 e))]) [.own [.ptr 1 0,.s (.int .i64 0),.ints .u64 16 fr,.ints .u64 16 fs,.ints .u64 16 gn] 70,.own [.vec 2,.ag 3,.s (.int .i64 fu)] 96,.vec (.ae [.arr .u8 64] th) 138,.map (.arr .u8 64) m,.own [.s (.str key)] 9,.own [.ptr 1 0,.s (.int .i64 aK),.ints .u64 16 du,.ints .u64 16 dc,.ints .u64 16 gn0] 70] (hr Tryd.f48 8) (.mk none false 0 [] 0)))) (.at (.mk (sl 78 [(0,.ptr 0 0),(7,.ptr 5 0),(9,.s (.int .i64 e))]) [.own [.ptr 1 0,.s (.int .i64 0),.ints .u64 16 fr,.ints .u64 16 fs,.ints .u64 16 gn] 70,.own [.vec 2,.ag 3,.s (.int .i64 fu)] 96,.vec (.ae [.arr .u8 64] th) 138,.map (.arr .u8 64) m,.own [.s (.str key)] 9,.own [.ptr 1 0,.s (.int .i64 aK),.ints .u64 16 du,.ints .u64 16 dc,.ints .u64 16 gn0] 70] (hr Tryd.f48 8) (.mk none false 0 [] 0))):=by kernel_rfl
theorem aqo(th:Th)(aK:Int)(du dc gn0:Ws)(m:As)(fu root:Int)(fr fs gn:Ws)(key:ByteArray)(e:Int):run P vS.sum Tryd.f48 x7 (aoj th aK du dc gn0 m fu root fr fs gn key e)=
 Tree.ite (e !=0) (.ret [.own [.ptr 1 0,.s (.int .i64 aK),.ints .u64 16 du,.ints .u64 16 dc,.ints .u64 16 gn0] 70,.own [.vec 2,.ag 3,.s (.int .i64 fu)] 96,.vec (.ae [.arr .u8 64] th) 138,.map (.arr .u8 64) m,.own [.s (.str key)] 9,.own [.ptr 1 0,.s (.int .i64 aK),.ints .u64 16 du,.ints .u64 16 dc,.ints .u64 16 gn0] 70] (.s (.int .i64 e))) (.ret [.own [.ptr 1 0,.s (.int .i64 root),.ints .u64 16 (Bx.bY BinOp.or fr gn),.ints .u64 16 fs,.ints .u64 16 (List.replicate 16 0)] 70,.own [.vec 2,.ag 3,.s (.int .i64 fu)] 96,.vec (.ae [.arr .u8 64] th) 138,.map (.arr .u8 64) m,.own [.s (.str key)] 9,.own [.ptr 1 0,.s (.int .i64 aK),.ints .u64 16 du,.ints .u64 16 dc,.ints .u64 16 gn0] 70] (.s (.aZ .i64 0))):=by kernel_rfl
theorem abW{th:Th}{key:ByteArray}{op:Option ByteArray}(hk:key.size≤24){m:As}{fu root:Int}{fr fs gn:Ws}(hd:Ds.bI th m fu)(hf:Bx.okW fr):
 ajJ th (wP th key op m fu root fr fs gn) (wQ th key op m fu root fr fs gn) (wR th key op m fu root fr fs gn) (vP th key op m fu root fr fs gn):=by
 unfold wP wQ wR vP iK
 split
 ·exact qC hk 17 hd hf
 ·split
  ·exact⟨hd,hf,Nat.zero_le _,noB,noB⟩
  ·exact np hd hf (ajK hk noE) noB
theorem aun{l:List Br}(h2:l.length≤2)(h:jW l):bd [] (aa l)≤254:=by
 have e:=qB (aa l)
 have e2:=rK l
 have e3:gS l≤54:=by
  cases l with
  |nil=>simp[nn]
  |cons a r=>
   have ha:=h a List.mem_cons_self
   cases r with
   |nil=>rw[c8,nn];unfold o8;omega
   |cons b r=>
    have hb:=h b (List.mem_cons_of_mem _ List.mem_cons_self)
    cases r with
    |nil=>rw[c8,c8,nn];unfold o8;omega
    |cons c r=>simp only[List.length_cons]at h2;omega
 omega
theorem ajW{th:Th}{m:As}{fu:Int}{fr fs:Ws}{l:List Br}(h0:1<l.length)(h2:l.length≤2)(h:jW l):(bk th m fu fr fs false [] l).2.2.2.2.1.length=1:=by
 unfold bk
 rw[if_neg (by simp only[List.length_nil];omega),if_pos (aun h2 h)]
 rfl
theorem afg{l:List Br}(h:∀b∈l,0≤b.2.1∧b.2.1≤65536)(k:Nat):0≤(l.getD k dB).2.1∧(l.getD k dB).2.1≤65536:=by
 rcases Nat.lt_or_ge k l.length with hk|hk
 ·rw[bg hk];exact h _ (List.getElem_mem hk)
 ·rw[List.getD,List.getElem?_eq_none hk];exact⟨Int.le_refl 0,by show(0:Int)≤65536;omega⟩
theorem x8{l:List Br}(h2:l.length≤2)(h:jW l):a7 l:=⟨by omega,fun x hx=>Nat.le_trans (h x hx) (by omega)⟩
theorem rO{th:Th}{c:Chg}(h:¬(c.2.2.2.2.2.2=0∧1<c.2.2.2.2.2.1.length)):zY th c=c:=if_neg h
theorem aok{th:Th}{m:As}{fu root:Int}{fr fs gn:Ws}{key val:ByteArray}{c:Chs}(e:kf th key (some val) m fu root fr fs gn=c):
 abU.fk ((th,m,fu,root,fr,fs,gn),key,val)=qu th c.1 c.2.1 c.2.2.1 c.2.2.2.1 c.2.2.2.2.1 c.2.2.2.2.2.1 key val∧abU.out ((th,m,fu,root,fr,fs,gn),key,val)=bJ c.2.2.2.2.2.2:=by
 subst e;exact⟨rfl,rfl⟩
theorem lI:vR.Ok P Bx.bT:=aG.Ok.cons (amy.sum amw) (aG.Ok.cons (ib (fX (jB.sum mTN) 1 _) 1) (aG.Ok.cons (abR.sum mLv) (aG.Ok.cons Bx.aji.sum aG.Ok.nil)))
section
variable{th:Th}{m0:As}{sO aK:Int}{du dc gn0:Ws}{key val:ByteArray}{X:Ctx}
theorem qD{th:Th}{m:As}{fu root:Int}{fr fs gn:Ws}{key val:ByteArray}:∀y∈x6,(qu th m fu root fr fs gn key val).length≤y.2.m:=fun y hy=>by
 simp only[x6,List.mem_cons,List.not_mem_nil,or_false]at hy
 rcases hy with rfl|rfl|rfl<;>exact Nat.le_refl _
theorem zJ(hz:dM Bx.bT X)(hX:X.H=lk (qu th m0 sO aK du dc gn0 key val)){m:As}{fu root:Int}{fr fs gn:Ws}{e:Int}(ee:kf th key (some val) m0 sO aK du dc gn0=nq th aK du dc gn0 m fu root fr fs gn e):
 Safe P 48 X (kb abU ((th,m0,sO,aK,du,dc,gn0),key,val)) (aoh th aK du dc gn0 m fu root fr fs gn key val e):=by
 refine Ds.eG hz hX qD lI Tryd.func48 (aqm th aK du dc gn0 m fu root fr fs gn key val e) ⟨fun h=> ?_,fun h=> ?_⟩
 ·have h:e≠0:=by simpa using h
  unfold nq at ee
  rw[if_pos h]at ee
  obtain⟨f1,f2⟩:=aok (val:=val) ee
  exact bS 6 rfl (Nat.le_refl _) f2 f1
 ·have h:¬e≠0:=by simpa using h
  unfold nq at ee
  rw[if_neg h]at ee
  obtain⟨f1,f2⟩:=aok (val:=val) ee
  exact bS 6 rfl (Nat.le_refl _) f2 f1
theorem tn(hz:dM Bx.bT X)(hX:X.H=lk (qu th m0 sO aK du dc gn0 key val)){m:As}{fu root:Int}{fr fs gn:Ws}{l:List Br}{e:Int}(hd:Ds.bI th m fu)(hp:∀b∈l,0≤b.2.1∧b.2.1≤65536)
 (ee:kf th key (some val) m0 sO aK du dc gn0=jv th aK du dc gn0 (m,fu,fr,fs,gn,l,e)):
 Safe P 48 X (kb abU ((th,m0,sO,aK,du,dc,gn0),key,val)) (aog th aK du dc gn0 m fu root fr fs gn key val l e):=by
 refine Ds.eG hz hX qD lI Tryd.func48 (aql th aK du dc gn0 m fu root fr fs gn key val l e) ⟨fun h=>⟨fun h2=> ?_,fun h2=> ?_⟩,fun h=> ?_⟩
 ·have h:e=0:=by simpa using h
  have h2:(l.length:Int)=1:=by simpa using h2
  unfold jv at ee
  rw[if_pos ⟨h,by simp only[];omega⟩]at ee
  exact⟨by omega,by omega,rfl,rfl,hd,afg hp 0,zJ hz hX ee⟩
 ·have h2:¬(l.length:Int)=1:=by simpa using h2
  unfold jv at ee
  rw[if_neg (fun a=>h2 (by have:=a.2;simp only[]at this;omega))]at ee
  exact zJ hz hX ee
 ·have h:¬e=0:=by simpa using h
  unfold jv at ee
  rw[if_neg (fun a=>h a.1)]at ee
  exact zJ hz hX ee
theorem amH(hz:dM Bx.bT X)(hX:X.H=lk (qu th m0 sO aK du dc gn0 key val)){m:As}{fu root:Int}{fr fs gn:Ws}{l:List Br}{e:Int}(hd:Ds.bI th m fu)(hp:∀b∈l,0≤b.2.1∧b.2.1≤65536)(tV:¬(e=0∧1<l.length))
 (ee:kf th key (some val) m0 sO aK du dc gn0=jv th aK du dc gn0 (m,fu,fr,fs,gn,l,e)):
 Safe P 48 X (kb abU ((th,m0,sO,aK,du,dc,gn0),key,val)) (ajS th aK du dc gn0 m fu root fr fs gn key val l e):=by
 refine Ds.eG hz hX qD lI Tryd.func48 (ajT th aK du dc gn0 m fu root fr fs gn key val l e) ⟨fun h=>⟨fun h2=> ?_,fun h2=> ?_⟩,fun h=> ?_⟩
 ·have h:e=0:=by simpa using h
  have h2:=of_decide_eq_true h2
  exact absurd ⟨h,by omega⟩ tV
 ·exact tn hz hX hd hp ee
 ·exact tn hz hX hd hp ee
theorem amI(hz:dM Bx.bT X)(hX:X.H=lk (qu th m0 sO aK du dc gn0 key val)){m:As}{fu root:Int}{fr fs gn:Ws}{l:List Br}{e:Int}(F:ajJ th m fu fr l)
 (ee:kf th key (some val) m0 sO aK du dc gn0=jv th aK du dc gn0 (zY th (m,fu,fr,fs,gn,l,e))):
 Safe P 48 X (kb abU ((th,m0,sO,aK,du,dc,gn0),key,val)) (ajS th aK du dc gn0 m fu root fr fs gn key val l e):=by
 refine Ds.eG hz hX qD lI Tryd.func48 (ajT th aK du dc gn0 m fu root fr fs gn key val l e) ⟨fun h=>⟨fun h2=> ?_,fun h2=> ?_⟩,fun h=> ?_⟩
 ·have h:e=0:=by simpa using h
  have h2:=of_decide_eq_true h2
  have hu:zY th (m,fu,fr,fs,gn,l,e)=gK gn (bk th m fu fr fs false [] l):=if_pos ⟨h,by show 1<l.length;omega⟩
  rw[hu]at ee
  have F2:=np (fs:=fs) (l:=false) (es:=[]) F.d F.fr noE F.key
  have hl:=ajW (th:=th) (m:=m) (fu:=fu) (fr:=fr) (fs:=fs) (l:=l) (by omega) F.two F.key
  exact⟨rfl,rfl,F.d,F.fr,⟨fun a=>(by cases a),fun _=>rfl⟩,ia,x8 F.two F.key,amH hz hX F2.d F2.pg (fun a=>by rw[hl]at a;omega) ee⟩
 ·have h2:=of_decide_eq_false h2
  rw[rO (fun a=>h2 (by have:=a.2;simp only[]at this;omega))]at ee
  exact tn hz hX F.d F.pg ee
 ·have h:¬e=0:=by simpa using h
  rw[rO (fun a=>h a.1)]at ee
  exact tn hz hX F.d F.pg ee
end
theorem abX:js P Bx.bT 48 abU:=by
 refine aP Tryd.func48 (by kernel_rfl) (fun x=>Nat.le_of_ble_eq_true (by kernel_rfl)) ?_
 rintro⟨⟨(th:Th),(m:As),(fu:Int),(root:Int),(fr:Ws),(fs:Ws),(gn:Ws)⟩,(key:ByteArray),(val:ByteArray)⟩ ⟨(hd:Ds.bI th m fu),(hf:Bx.okW fr),(hr:0≤root∧root≤65536),(hk:1≤key.size∧key.size≤24),(hv:val.size≤100),_⟩ X hX hz
 exact Ds.eG hz hX qD lI Tryd.func48 (ash th m fu root fr fs gn key val) ⟨rfl,rfl,hd,hf,hr,hk,hv,amI hz hX (abW (op:=(some val)) hk.2 hd hf) rfl⟩
theorem aol{th:Th}{m:As}{fu root:Int}{fr fs gn:Ws}{key val:ByteArray}{c:Chs}(e:kf th key none m fu root fr fs gn=c):
 abV.fk ((th,m,fu,root,fr,fs,gn),key,val)=qv th c.1 c.2.1 c.2.2.1 c.2.2.2.1 c.2.2.2.2.1 c.2.2.2.2.2.1 key∧abV.out ((th,m,fu,root,fr,fs,gn),key,val)=bJ c.2.2.2.2.2.2:=by
 subst e;exact⟨rfl,rfl⟩
theorem lJ:vS.Ok P Bx.bT:=aG.Ok.cons (amz.sum amx) (aG.Ok.cons (ib (fX (jB.sum mTN) 1 _) 1) (aG.Ok.cons (abR.sum mLv) (aG.Ok.cons Bx.aji.sum aG.Ok.nil)))
section
variable{th:Th}{m0:As}{sO aK:Int}{du dc gn0:Ws}{key val:ByteArray}{X:Ctx}
theorem qE{th:Th}{m:As}{fu root:Int}{fr fs gn:Ws}{key:ByteArray}:∀y∈x7,(qv th m fu root fr fs gn key).length≤y.2.m:=fun y hy=>by
 simp only[x7,List.mem_cons,List.not_mem_nil,or_false]at hy
 rcases hy with rfl|rfl|rfl<;>exact Nat.le_refl _
theorem zK(hz:dM Bx.bT X)(hX:X.H=lk (qv th m0 sO aK du dc gn0 key)){m:As}{fu root:Int}{fr fs gn:Ws}{e:Int}(ee:kf th key none m0 sO aK du dc gn0=nq th aK du dc gn0 m fu root fr fs gn e):
 Safe P 48 X (kb abV ((th,m0,sO,aK,du,dc,gn0),key,val)) (aoj th aK du dc gn0 m fu root fr fs gn key e):=by
 refine Ds.eG hz hX qE lJ Tryd.func48 (aqo th aK du dc gn0 m fu root fr fs gn key e) ⟨fun h=> ?_,fun h=> ?_⟩
 ·have h:e≠0:=by simpa using h
  unfold nq at ee
  rw[if_pos h]at ee
  obtain⟨f1,f2⟩:=aol (val:=val) ee
  exact bS 5 rfl (Nat.le_refl _) f2 f1
 ·have h:¬e≠0:=by simpa using h
  unfold nq at ee
  rw[if_neg h]at ee
  obtain⟨f1,f2⟩:=aol (val:=val) ee
  exact bS 5 rfl (Nat.le_refl _) f2 f1
theorem tp(hz:dM Bx.bT X)(hX:X.H=lk (qv th m0 sO aK du dc gn0 key)){m:As}{fu root:Int}{fr fs gn:Ws}{l:List Br}{e:Int}(hd:Ds.bI th m fu)(hp:∀b∈l,0≤b.2.1∧b.2.1≤65536)
 (ee:kf th key none m0 sO aK du dc gn0=jv th aK du dc gn0 (m,fu,fr,fs,gn,l,e)):
 Safe P 48 X (kb abV ((th,m0,sO,aK,du,dc,gn0),key,val)) (aoi th aK du dc gn0 m fu root fr fs gn key l e):=by
 refine Ds.eG hz hX qE lJ Tryd.func48 (aqn th aK du dc gn0 m fu root fr fs gn key l e) ⟨fun h=>⟨fun h2=> ?_,fun h2=> ?_⟩,fun h=> ?_⟩
 ·have h:e=0:=by simpa using h
  have h2:(l.length:Int)=1:=by simpa using h2
  unfold jv at ee
  rw[if_pos ⟨h,by simp only[];omega⟩]at ee
  exact⟨by omega,by omega,rfl,rfl,hd,afg hp 0,zK hz hX ee⟩
 ·have h2:¬(l.length:Int)=1:=by simpa using h2
  unfold jv at ee
  rw[if_neg (fun a=>h2 (by have:=a.2;simp only[]at this;omega))]at ee
  exact zK hz hX ee
 ·have h:¬e=0:=by simpa using h
  unfold jv at ee
  rw[if_neg (fun a=>h a.1)]at ee
  exact zK hz hX ee
theorem amJ(hz:dM Bx.bT X)(hX:X.H=lk (qv th m0 sO aK du dc gn0 key)){m:As}{fu root:Int}{fr fs gn:Ws}{l:List Br}{e:Int}(hd:Ds.bI th m fu)(hp:∀b∈l,0≤b.2.1∧b.2.1≤65536)(tV:¬(e=0∧1<l.length))
 (ee:kf th key none m0 sO aK du dc gn0=jv th aK du dc gn0 (m,fu,fr,fs,gn,l,e)):
 Safe P 48 X (kb abV ((th,m0,sO,aK,du,dc,gn0),key,val)) (ajU th aK du dc gn0 m fu root fr fs gn key l e):=by
 refine Ds.eG hz hX qE lJ Tryd.func48 (ajV th aK du dc gn0 m fu root fr fs gn key l e) ⟨fun h=>⟨fun h2=> ?_,fun h2=> ?_⟩,fun h=> ?_⟩
 ·have h:e=0:=by simpa using h
  have h2:=of_decide_eq_true h2
  exact absurd ⟨h,by omega⟩ tV
 ·exact tp hz hX hd hp ee
 ·exact tp hz hX hd hp ee
theorem amK(hz:dM Bx.bT X)(hX:X.H=lk (qv th m0 sO aK du dc gn0 key)){m:As}{fu root:Int}{fr fs gn:Ws}{l:List Br}{e:Int}(F:ajJ th m fu fr l)
 (ee:kf th key none m0 sO aK du dc gn0=jv th aK du dc gn0 (zY th (m,fu,fr,fs,gn,l,e))):
 Safe P 48 X (kb abV ((th,m0,sO,aK,du,dc,gn0),key,val)) (ajU th aK du dc gn0 m fu root fr fs gn key l e):=by
 refine Ds.eG hz hX qE lJ Tryd.func48 (ajV th aK du dc gn0 m fu root fr fs gn key l e) ⟨fun h=>⟨fun h2=> ?_,fun h2=> ?_⟩,fun h=> ?_⟩
 ·have h:e=0:=by simpa using h
  have h2:=of_decide_eq_true h2
  have hu:zY th (m,fu,fr,fs,gn,l,e)=gK gn (bk th m fu fr fs false [] l):=if_pos ⟨h,by show 1<l.length;omega⟩
  rw[hu]at ee
  have F2:=np (fs:=fs) (l:=false) (es:=[]) F.d F.fr noE F.key
  have hl:=ajW (th:=th) (m:=m) (fu:=fu) (fr:=fr) (fs:=fs) (l:=l) (by omega) F.two F.key
  exact⟨rfl,rfl,F.d,F.fr,⟨fun a=>(by cases a),fun _=>rfl⟩,ia,x8 F.two F.key,amJ hz hX F2.d F2.pg (fun a=>by rw[hl]at a;omega) ee⟩
 ·have h2:=of_decide_eq_false h2
  rw[rO (fun a=>h2 (by have:=a.2;simp only[]at this;omega))]at ee
  exact tp hz hX F.d F.pg ee
 ·have h:¬e=0:=by simpa using h
  rw[rO (fun a=>h a.1)]at ee
  exact tp hz hX F.d F.pg ee
end
theorem abY:js P Bx.bT 48 abV:=by
 refine aP Tryd.func48 (by kernel_rfl) (fun x=>Nat.le_of_ble_eq_true (by kernel_rfl)) ?_
 rintro⟨⟨(th:Th),(m:As),(fu:Int),(root:Int),(fr:Ws),(fs:Ws),(gn:Ws)⟩,(key:ByteArray),(val:ByteArray)⟩ ⟨(hd:Ds.bI th m fu),(hf:Bx.okW fr),(hr:0≤root∧root≤65536),(hk:1≤key.size∧key.size≤24),(hv:val.size≤100),_⟩ X hX hz
 exact Ds.eG hz hX qE lJ Tryd.func48 (asi th m fu root fr fs gn key) ⟨rfl,rfl,hd,hf,hr,hk,(Nat.zero_le 100),amK hz hX (abW (op:=none) hk.2 hd hf) rfl⟩
end Ts
namespace Ts
open Go Go.Sx Go.Proofs Lf
def ie(key:ByteArray):Option ByteArray→Bool
 |some v=>decide (1≤key.size)&&decide (key.size≤24)&&decide (v.size≤100)
 |none=>decide (1≤key.size)&&decide (key.size≤24)
def vT(th:Th)(key:ByteArray)(op:Option ByteArray)(m:As)(fu root:Int)(fr fs gn:Ws):Chs:=if ie key op=true then kf th key op m fu root fr fs gn else(m,fu,root,fr,fs,gn,1)
def op0(th:Th)(key:ByteArray)(op:Option ByteArray)(m:As)(fu root:Int)(fr fs gn:Ws):As:=(vT th key op m fu root fr fs gn).1
def op1(th:Th)(key:ByteArray)(op:Option ByteArray)(m:As)(fu root:Int)(fr fs gn:Ws):Int:=(vT th key op m fu root fr fs gn).2.1
def v7(th:Th)(key:ByteArray)(op:Option ByteArray)(m:As)(fu root:Int)(fr fs gn:Ws):Int:=(vT th key op m fu root fr fs gn).2.2.1
def op2(th:Th)(key:ByteArray)(op:Option ByteArray)(m:As)(fu root:Int)(fr fs gn:Ws):Ws:=(vT th key op m fu root fr fs gn).2.2.2.1
def op3(th:Th)(key:ByteArray)(op:Option ByteArray)(m:As)(fu root:Int)(fr fs gn:Ws):Ws:=(vT th key op m fu root fr fs gn).2.2.2.2.1
def op4(th:Th)(key:ByteArray)(op:Option ByteArray)(m:As)(fu root:Int)(fr fs gn:Ws):Ws:=(vT th key op m fu root fr fs gn).2.2.2.2.2.1
def opE(th:Th)(key:ByteArray)(op:Option ByteArray)(m:As)(fu root:Int)(fr fs gn:Ws):Int:=(vT th key op m fu root fr fs gn).2.2.2.2.2.2
def aqp(th:Th)(m:As)(fu root:Int)(fr:Ws):List Prop:=[Ds.bI th m fu,Bx.okW fr,0≤root∧root≤65536]
abbrev ajX:Spec XK:=⟨fun(_,key,val)=>[.ptr 0 0,.s (.str key),.s (.str val)],fun((th,m,fu,root,fr,fs,gn),_,_)=>hT th m fu root fr fs gn,fun((th,m,fu,root,fr,_,_),_,_)=>aqp th m fu root fr,
 fun((th,m,fu,root,fr,fs,gn),key,val)=>hT th (op0 th key (some val) m fu root fr fs gn) (op1 th key (some val) m fu root fr fs gn) (v7 th key (some val) m fu root fr fs gn) (op2 th key (some val) m fu root fr fs gn) (op3 th key (some val) m fu root fr fs gn) (op4 th key (some val) m fu root fr fs gn),
 fun((th,m,fu,root,fr,fs,gn),key,val)=>bJ (opE th key (some val) m fu root fr fs gn)⟩
abbrev XD:Type:=XT×ByteArray
abbrev ajY:Spec XD:=⟨fun(_,key)=>[.ptr 0 0,.s (.str key)],fun((th,m,fu,root,fr,fs,gn),_)=>hT th m fu root fr fs gn,fun((th,m,fu,root,fr,_,_),_)=>aqp th m fu root fr,
 fun((th,m,fu,root,fr,fs,gn),key)=>hT th (op0 th key none m fu root fr fs gn) (op1 th key none m fu root fr fs gn) (v7 th key none m fu root fr fs gn) (op2 th key none m fu root fr fs gn) (op3 th key none m fu root fr fs gn) (op4 th key none m fu root fr fs gn),
 fun((th,m,fu,root,fr,fs,gn),key)=>bJ (opE th key none m fu root fr fs gn)⟩
def asj:aG:=[(48,dm abU amw)]
def asl:aG:=[(48,dm abV amx)]
theorem auo(th:Th)(m:As)(fu root:Int)(fr fs gn:Ws)(key val:ByteArray):run P asj.sum Tryd.f24 [] (start Tryd.f24 [.ptr 0 0,.s (.str key),.s (.str val)] (hT th m fu root fr fs gn)) (inl:=[36])=
 Tree.ite (decide ((↑key.size:Int)≥1)) (.ite (!decide ((↑key.size:Int)≤24)) (.ret [.own [.ptr 1 0,.s (.int .i64 root),.ints .u64 16 fr,.ints .u64 16 fs,.ints .u64 16 gn] 70,.own [.vec 2,.ag 3,.s (.int .i64 fu)] 96,.vec (.ae [.arr .u8 64] th) 138,.map (.arr .u8 64) m,.own [.s (.str key)] 9,.own [.s (.str val)] 9] (.s (.aZ .i64 1))) (.ite (decide ((↑val.size:Int)>100)) (.ret [.own [.ptr 1 0,.s (.int .i64 root),.ints .u64 16 fr,.ints .u64 16 fs,.ints .u64 16 gn] 70,.own [.vec 2,.ag 3,.s (.int .i64 fu)] 96,.vec (.ae [.arr .u8 64] th) 138,.map (.arr .u8 64) m,.own [.s (.str key)] 9,.own [.s (.str val)] 9] (.s (.aZ .i64 1))) (.need (bu (some [AV.ptr 0 0,.s (.str key),.fn 49 [.ptr 4 0,.ptr 5 0]])) (.need (bu (some [ad.own [.ptr 1 0,.s (.int .i64 root),.ints .u64 16 fr,.ints .u64 16 fs,.ints .u64 16 gn] 70,.own [.vec 2,.ag 3,.s (.int .i64 fu)] 96,.vec (.ae [.arr .u8 64] th) 138,.map (.arr .u8 64) m,.own [.s (.str key)] 9,.own [.s (.str val)] 9])) (.need (Ds.bI th m fu) (.need (Bx.okW fr) (.need ((0:Int)≤root∧root≤65536) (.need ((1:Nat)≤key.size∧key.size≤24) (.need (val.size≤100) (.ret [.own [.ptr 1 0,.s (.int .i64 (amC th key (some val) m fu root fr fs gn)),.ints .u64 16 (amD th key (some val) m fu root fr fs gn),.ints .u64 16 (amE th key (some val) m fu root fr fs gn),.ints .u64 16 (amF th key (some val) m fu root fr fs gn)] 70,.own [.vec 2,.ag 3,.s (.int .i64 (amB th key (some val) m fu root fr fs gn))] 96,.vec (.ae [.arr .u8 64] th) 138,.map (.arr .u8 64) (amA th key (some val) m fu root fr fs gn),.own [.s (.str key)] 9,.own [.s (.str val)] 9] (.s (.int .i64 (amG th key (some val) m fu root fr fs gn))))))))))))) (.ret [.own [.ptr 1 0,.s (.int .i64 root),.ints .u64 16 fr,.ints .u64 16 fs,.ints .u64 16 gn] 70,.own [.vec 2,.ag 3,.s (.int .i64 fu)] 96,.vec (.ae [.arr .u8 64] th) 138,.map (.arr .u8 64) m,.own [.s (.str key)] 9,.own [.s (.str val)] 9] (.s (.aZ .i64 1))):=by kernel_rfl
theorem aup(th:Th)(m:As)(fu root:Int)(fr fs gn:Ws)(key:ByteArray):run P asl.sum Tryd.f25 [] (start Tryd.f25 [.ptr 0 0,.s (.str key)] (hT th m fu root fr fs gn)) (inl:=[36])=
 Tree.ite (decide ((↑key.size:Int)≥1)) (.ite (!decide ((↑key.size:Int)≤24)) (.ret [.own [.ptr 1 0,.s (.int .i64 root),.ints .u64 16 fr,.ints .u64 16 fs,.ints .u64 16 gn] 70,.own [.vec 2,.ag 3,.s (.int .i64 fu)] 96,.vec (.ae [.arr .u8 64] th) 138,.map (.arr .u8 64) m,.own [.s (.str key)] 9] (.s (.aZ .i64 1))) (.need (bu (some [AV.ptr 0 0,.s (.str key),.fn 51 [.ptr 4 0]])) (.need (bu (some [ad.own [.ptr 1 0,.s (.int .i64 root),.ints .u64 16 fr,.ints .u64 16 fs,.ints .u64 16 gn] 70,.own [.vec 2,.ag 3,.s (.int .i64 fu)] 96,.vec (.ae [.arr .u8 64] th) 138,.map (.arr .u8 64) m,.own [.s (.str key)] 9])) (.need (Ds.bI th m fu) (.need (Bx.okW fr) (.need ((0:Int)≤root∧root≤65536) (.need ((1:Nat)≤key.size∧key.size≤24) (.need (ByteArray.empty.size≤100) (.ret [.own [.ptr 1 0,.s (.int .i64 (amC th key none m fu root fr fs gn)),.ints .u64 16 (amD th key none m fu root fr fs gn),.ints .u64 16 (amE th key none m fu root fr fs gn),.ints .u64 16 (amF th key none m fu root fr fs gn)] 70,.own [.vec 2,.ag 3,.s (.int .i64 (amB th key none m fu root fr fs gn))] 96,.vec (.ae [.arr .u8 64] th) 138,.map (.arr .u8 64) (amA th key none m fu root fr fs gn),.own [.s (.str key)] 9] (.s (.int .i64 (amG th key none m fu root fr fs gn)))))))))))) (.ret [.own [.ptr 1 0,.s (.int .i64 root),.ints .u64 16 fr,.ints .u64 16 fs,.ints .u64 16 gn] 70,.own [.vec 2,.ag 3,.s (.int .i64 fu)] 96,.vec (.ae [.arr .u8 64] th) 138,.map (.arr .u8 64) m,.own [.s (.str key)] 9] (.s (.aZ .i64 1))):=by kernel_rfl
theorem zL{th:Th}{key:ByteArray}{op:Option ByteArray}{m:As}{fu root:Int}{fr fs gn:Ws}(h:ie key op=true):vT th key op m fu root fr fs gn=kf th key op m fu root fr fs gn:=if_pos h
theorem adI{th:Th}{key:ByteArray}{op:Option ByteArray}{m:As}{fu root:Int}{fr fs gn:Ws}(h:ie key op=false):vT th key op m fu root fr fs gn=(m,fu,root,fr,fs,gn,1):=if_neg (by rw[h];simp)
theorem aom{th:Th}{m:As}{fu root:Int}{fr fs gn:Ws}{key val:ByteArray}{c:Chs}(e:vT th key (some val) m fu root fr fs gn=c):
 ajX.fk ((th,m,fu,root,fr,fs,gn),key,val)=hT th c.1 c.2.1 c.2.2.1 c.2.2.2.1 c.2.2.2.2.1 c.2.2.2.2.2.1∧ajX.out ((th,m,fu,root,fr,fs,gn),key,val)=bJ c.2.2.2.2.2.2:=by
 subst e;exact⟨rfl,rfl⟩
theorem aon{th:Th}{m:As}{fu root:Int}{fr fs gn:Ws}{key:ByteArray}{c:Chs}(e:vT th key none m fu root fr fs gn=c):
 ajY.fk ((th,m,fu,root,fr,fs,gn),key)=hT th c.1 c.2.1 c.2.2.1 c.2.2.2.1 c.2.2.2.2.1 c.2.2.2.2.2.1∧ajY.out ((th,m,fu,root,fr,fs,gn),key)=bJ c.2.2.2.2.2.2:=by
 subst e;exact⟨rfl,rfl⟩
theorem sw:js P Bx.bT 24 ajX:=by
 refine aP Tryd.func24 (by kernel_rfl) (fun x=>Nat.le_of_ble_eq_true (by kernel_rfl)) ?_
 rintro⟨⟨(th:Th),(m:As),(fu:Int),(root:Int),(fr:Ws),(fs:Ws),(gn:Ws)⟩,(key:ByteArray),(val:ByteArray)⟩ ⟨(hd:Ds.bI th m fu),(hf:Bx.okW fr),(hr:0≤root∧root≤65536),_⟩ X hX hz
 have no:ie key (some val)=false→kb ajX ((th,m,fu,root,fr,fs,gn),key,val) (hT th m fu root fr fs gn++[tl key,tl val]) (.s (.aZ .i64 1)):=fun h=>by
  obtain⟨f1,f2⟩:=aom (adI (th:=th) (m:=m) (fu:=fu) (root:=root) (fr:=fr) (fs:=fs) (gn:=gn) h)
  exact bS 4 rfl (Nat.le_refl _) f2 f1
 refine Ds.eG hz hX (by intro y hy;cases hy) (aG.Ok.cons (abX.sum amw) aG.Ok.nil) Tryd.func24 (auo th m fu root fr fs gn key val) ⟨fun h=>⟨fun h2=> ?_,fun h2=>⟨fun h3=> ?_,fun h3=>⟨rfl,rfl,hd,hf,hr, ?_, ?_, ?_⟩⟩⟩,fun h=> ?_⟩
 ·have h2:¬(key.size:Int)≤24:=by simpa using h2
  exact no (by simp only[ie,Bool.and_eq_false_iff,decide_eq_false_iff_not];omega)
 ·have h3:=of_decide_eq_true h3
  exact no (by simp only[ie,Bool.and_eq_false_iff,decide_eq_false_iff_not];omega)
 ·have h:=of_decide_eq_true h
  have h2:(key.size:Int)≤24:=by simpa using h2
  omega
 ·have h3:=of_decide_eq_false h3
  omega
 ·have h:=of_decide_eq_true h
  have h2:(key.size:Int)≤24:=by simpa using h2
  have h3:=of_decide_eq_false h3
  obtain⟨f1,f2⟩:=aom (zL (th:=th) (key:=key) (op:=some val) (m:=m) (fu:=fu) (root:=root) (fr:=fr) (fs:=fs) (gn:=gn) (by simp only[ie,Bool.and_eq_true,decide_eq_true_eq];omega))
  exact bS 4 rfl (Nat.le_refl _) f2 f1
 ·have h:=of_decide_eq_false h
  exact no (by simp only[ie,Bool.and_eq_false_iff,decide_eq_false_iff_not];omega)
theorem sC:js P Bx.bT 25 ajY:=by
 refine aP Tryd.func25 (by kernel_rfl) (fun x=>Nat.le_of_ble_eq_true (by kernel_rfl)) ?_
 rintro⟨⟨(th:Th),(m:As),(fu:Int),(root:Int),(fr:Ws),(fs:Ws),(gn:Ws)⟩,(key:ByteArray)⟩ ⟨(hd:Ds.bI th m fu),(hf:Bx.okW fr),(hr:0≤root∧root≤65536),_⟩ X hX hz
 have no:ie key none=false→kb ajY ((th,m,fu,root,fr,fs,gn),key) (hT th m fu root fr fs gn++[tl key]) (.s (.aZ .i64 1)):=fun h=>by
  obtain⟨f1,f2⟩:=aon (adI (th:=th) (m:=m) (fu:=fu) (root:=root) (fr:=fr) (fs:=fs) (gn:=gn) h)
  exact bS 4 rfl (Nat.le_refl _) f2 f1
 refine Ds.eG hz hX (by intro y hy;cases hy) (aG.Ok.cons (abY.sum amx) aG.Ok.nil) Tryd.func25 (aup th m fu root fr fs gn key) ⟨fun h=>⟨fun h2=> ?_,fun h2=>⟨rfl,rfl,hd,hf,hr, ?_,Nat.zero_le 100, ?_⟩⟩,fun h=> ?_⟩
 ·have h2:¬(key.size:Int)≤24:=by simpa using h2
  exact no (by simp only[ie,Bool.and_eq_false_iff,decide_eq_false_iff_not];omega)
 ·have h:=of_decide_eq_true h
  have h2:(key.size:Int)≤24:=by simpa using h2
  omega
 ·have h:=of_decide_eq_true h
  have h2:(key.size:Int)≤24:=by simpa using h2
  obtain⟨f1,f2⟩:=aon (zL (th:=th) (key:=key) (op:=none) (m:=m) (fu:=fu) (root:=root) (fr:=fr) (fs:=fs) (gn:=gn) (by simp only[ie,Bool.and_eq_true,decide_eq_true_eq];omega))
  exact bS 4 rfl (Nat.le_refl _) f2 f1
 ·have h:=of_decide_eq_false h
  exact no (by simp only[ie,Bool.and_eq_false_iff,decide_eq_false_iff_not];omega)
end Ts
namespace Ts
open Go Go.Sx Go.Proofs Lf
def zM(th:Th)(m:As)(key:ByteArray):Nat→Int→Int→ByteArray×Bool×Int
 |0,_,_=>(ByteArray.empty,false,4)
 |f+1,n,deep=>
  if fG th m n deep≠0 then(ByteArray.empty,false,fG th m n deep)
  else if j7 th m n deep=true then(o9 (bK th m n deep) key,ni (bK th m n deep) key,0)
  else if aN th m n deep=[]then(ByteArray.empty,false,4)
  else zM th m key f ((aN th m n deep).getD (aT (aN th m n deep) key).toNat dB).2.1 (deep+1)
def gtT(th:Th)(m:As)(root:Int)(key:ByteArray):ByteArray×Bool×Int:=
 if ie key none=false then(ByteArray.empty,false,1)else if root=0 then(ByteArray.empty,false,0)else zM th m key 17 root 1
def gtV(th:Th)(m:As)(root:Int)(key:ByteArray):ByteArray:=(gtT th m root key).1
def gtB(th:Th)(m:As)(root:Int)(key:ByteArray):Bool:=(gtT th m root key).2.1
def gtE(th:Th)(m:As)(root:Int)(key:ByteArray):Int:=(gtT th m root key).2.2
abbrev ajZ:Spec XD:=⟨fun(_,key)=>[.ptr 0 0,.s (.str key)],fun((th,m,fu,root,fr,fs,gn),_)=>hT th m fu root fr fs gn,fun((th,m,fu,root,_),_)=>[Ds.bI th m fu,0≤root∧root≤65536],
 fun((th,m,fu,root,fr,fs,gn),_)=>hT th m fu root fr fs gn,fun((th,m,_,root,_),key)=>.bh [.s (.str (gtV th m root key)),.s (.bool (gtB th m root key)),bJ (gtE th m root key)]⟩
abbrev asm:=bU [nU,dG] [dG,ch] (fun(l,_,())=>[(l:List En).length≤1000000,iv (bA l)]) (fun(l,key,())=>(o9 l key,ni l key,()))
def aj0:aG:=[(37,xV),(38,asm),(39,aqb)]
def amL:List (Nat×Norm):=[(10,⟨[],[0,1,7,8],4,[]⟩)]
noncomputable def cGt(th:Th)(m:As)(fu root:Int)(fr fs gn:Ws)(key:ByteArray)(n deep:Int):bz:=⟨sl 66 [(0,.ptr 0 0),(1,.s (.str key)),(7,bJ n),(8,bJ deep)],hT th m fu root fr fs gn,hd Tryd.f11 10,{}⟩
theorem auq(th:Th)(m:As)(fu root:Int)(fr fs gn:Ws)(key:ByteArray):run P aj0.sum Tryd.f11 amL (start Tryd.f11 [.ptr 0 0,.s (.str key)] (hT th m fu root fr fs gn)) (inl:=[36])=
 Tree.ite (decide ((↑key.size:Int)≥1)) (.ite (!decide ((↑key.size:Int)≤24)) (.ret [.own [.ptr 1 0,.s (.int .i64 root),.ints .u64 16 fr,.ints .u64 16 fs,.ints .u64 16 gn] 70,.own [.vec 2,.ag 3,.s (.int .i64 fu)] 96,.vec (.ae [.arr .u8 64] th) 138,.map (.arr .u8 64) m] (.bh [.s (.str ByteArray.empty),.s (.aI false),.s (.aZ .i64 1)])) (.ite (root==0) (.ret [.own [.ptr 1 0,.s (.int .i64 root),.ints .u64 16 fr,.ints .u64 16 fs,.ints .u64 16 gn] 70,.own [.vec 2,.ag 3,.s (.int .i64 fu)] 96,.vec (.ae [.arr .u8 64] th) 138,.map (.arr .u8 64) m] (.bh [.s (.str ByteArray.empty),.s (.aI false),.s (.aZ .i64 0)])) (.at (.mk (sl 66 [(0,.ptr 0 0),(1,.s (.str key)),(7,.s (.int .i64 root)),(8,.s (.int .i64 1))]) [.own [.ptr 1 0,.s (.int .i64 root),.ints .u64 16 fr,.ints .u64 16 fs,.ints .u64 16 gn] 70,.own [.vec 2,.ag 3,.s (.int .i64 fu)] 96,.vec (.ae [.arr .u8 64] th) 138,.map (.arr .u8 64) m] (hd Tryd.f11 10) (.mk none false 0 [] 0))))) (.ret [.own [.ptr 1 0,.s (.int .i64 root),.ints .u64 16 fr,.ints .u64 16 fs,.ints .u64 16 gn] 70,.own [.vec 2,.ag 3,.s (.int .i64 fu)] 96,.vec (.ae [.arr .u8 64] th) 138,.map (.arr .u8 64) m] (.bh [.s (.str ByteArray.empty),.s (.aI false),.s (.aZ .i64 1)])):=by kernel_rfl
theorem aur(th:Th)(m:As)(fu root:Int)(fr fs gn:Ws)(key:ByteArray)(n deep:Int):run P aj0.sum Tryd.f11 amL (cGt th m fu root fr fs gn key n deep) (inl:=[36])=
 Tree.need (bu (some [AV.ptr 0 0,.s (.int .i64 n),.s (.int .i64 deep)])) (.need (bu (some [ad.own [.ptr 1 0,.s (.int .i64 root),.ints .u64 16 fr,.ints .u64 16 fs,.ints .u64 16 gn] 70,.own [.vec 2,.ag 3,.s (.int .i64 fu)] 96,.vec (.ae [.arr .u8 64] th) 138,.map (.arr .u8 64) m])) (.need (Ds.bI th m fu) (.need (aD n) (.ite (fG th m n deep !=0) (.ret [.own [.ptr 1 0,.s (.int .i64 root),.ints .u64 16 fr,.ints .u64 16 fs,.ints .u64 16 gn] 70,.own [.vec 2,.ag 3,.s (.int .i64 fu)] 96,.vec (.ae [.arr .u8 64] th) 138,.map (.arr .u8 64) m,.own [.s (.bool (j7 th m n deep)),.s (.ro (.ae [.str,.str] (bK th m n deep))),.s (.ro (.ae [.str,.int .i64] (aN th m n deep)))] 73] (.bh [.s (.str ByteArray.empty),.s (.aI false),.s (.int .i64 (fG th m n deep))])) (.ite (j7 th m n deep) (.need ((bK th m n deep).length≤1000000) (.need (iv (bA (bK th m n deep))) (.ret [.own [.ptr 1 0,.s (.int .i64 root),.ints .u64 16 fr,.ints .u64 16 fs,.ints .u64 16 gn] 70,.own [.vec 2,.ag 3,.s (.int .i64 fu)] 96,.vec (.ae [.arr .u8 64] th) 138,.map (.arr .u8 64) m,.own [.s (.bool (j7 th m n deep)),.s (.ro (.ae [.str,.str] (bK th m n deep))),.s (.ro (.ae [.str,.int .i64] (aN th m n deep)))] 73] (.bh [.s (.str (o9 (bK th m n deep) key)),.s (.bool (ni (bK th m n deep) key)),.s (.aZ .i64 0)])))) (.ite ((↑(aN th m n deep).length:Int)==0) (.ret [.own [.ptr 1 0,.s (.int .i64 root),.ints .u64 16 fr,.ints .u64 16 fs,.ints .u64 16 gn] 70,.own [.vec 2,.ag 3,.s (.int .i64 fu)] 96,.vec (.ae [.arr .u8 64] th) 138,.map (.arr .u8 64) m,.own [.s (.bool (j7 th m n deep)),.s (.ro (.ae [.str,.str] (bK th m n deep))),.s (.ro (.ae [.str,.int .i64] (aN th m n deep)))] 73] (.bh [.s (.str ByteArray.empty),.s (.aI false),.s (.aZ .i64 4)])) (.need ((aN th m n deep).length≤1000000) (.need (iv (mc (aN th m n deep))) (.need ((0:Int)≤aT (aN th m n deep) key) (.need (aT (aN th m n deep) key<(↑(aN th m n deep).length:Int)) (.need (aD (deep+1)) (.at (.mk (sl 66 [(0,.ptr 0 0),(1,.s (.str key)),(7,.s (.int .i64 ((aN th m n deep).getD (aT (aN th m n deep) key).toNat (CL.d [.str,.int .i64])).snd.fst)),(8,.s (.int .i64 (deep+1)))]) [.own [.ptr 1 0,.s (.int .i64 root),.ints .u64 16 fr,.ints .u64 16 fs,.ints .u64 16 gn] 70,.own [.vec 2,.ag 3,.s (.int .i64 fu)] 96,.vec (.ae [.arr .u8 64] th) 138,.map (.arr .u8 64) m] (hd Tryd.f11 10) (.mk none false 0 [] 0)))))))))))))):=by kernel_rfl
theorem abZ{Z:ba}:aj0.Ok P Z:=aG.Ok.cons (nK.sum mNo) (aG.Ok.cons alN.sum (aG.Ok.cons uY.sum aG.Ok.nil))
theorem ab0{th:Th}{m:As}{fu root:Int}{fr fs gn:Ws}{key:ByteArray}{c:ByteArray×Bool×Int}(e:c=gtT th m root key):
 ajZ.out ((th,m,fu,root,fr,fs,gn),key)=.bh [.s (.str c.1),.s (.bool c.2.1),bJ c.2.2]:=by
 subst e;rfl
theorem aqq{Z:ba}:js P Z 11 ajZ:=by
 refine aP Tryd.func11 (by kernel_rfl) (fun x=>Nat.le_of_ble_eq_true (by kernel_rfl)) ?_
 rintro⟨⟨(th:Th),(m:As),(fu:Int),(root:Int),(fr:Ws),(fs:Ws),(gn:Ws)⟩,(key:ByteArray)⟩ ⟨(hd:Ds.bI th m fu),(hr:0≤root∧root≤65536),_⟩ X hX hz
 have hm:∀y∈amL,(hT th m fu root fr fs gn).length≤y.2.m:=fun y hy=>by
  simp only[amL,List.mem_singleton]at hy;subst hy;exact Nat.le_refl _
 have loop:∀(f:Nat) (n deep:Int),1≤deep∧deep≤17→18≤deep+(f:Int)→0≤n∧n≤65536→zM th m key f n deep=gtT th m root key→
  Safe P 11 X (kb ajZ ((th,m,fu,root,fr,fs,gn),key)) (cGt th m fu root fr fs gn key n deep):=by
  intro f
  induction f with
  |zero=>intro n deep h1 h2;omega
  |succ f ih=>
   intro n deep h1 h2 hn e
   rw[zM]at e
   refine Ds.eG hz hX hm abZ Tryd.func11 (aur th m fu root fr fs gn key n deep) ⟨rfl,rfl,hd,zX (by omega) (by omega),fun h=> ?_,fun h=> ?_⟩
   ·have h:fG th m n deep≠0:=by simpa using h
    rw[if_pos h]at e
    exact bS 4 rfl (Nat.le_refl _) (ab0 e) rfl
   have h:fG th m n deep=0:=by simpa using h
   obtain⟨aus,n1,n2,_,_,n5,_⟩:=eu h
   obtain⟨s1,s2⟩:=qs aus
   rw[if_neg (by rw[h];simp)]at e
   refine⟨fun hl=>⟨by omega,s1, ?_⟩,fun hl=>⟨fun h3=> ?_,fun h3=> ?_⟩⟩
   ·rw[if_pos hl]at e
    exact bS 4 rfl (Nat.le_refl _) (ab0 e) rfl
   ·have h3:aN th m n deep=[]:=List.eq_nil_of_length_eq_zero (by have:((aN th m n deep).length:Int)=0:=by simpa using h3
                                                                 omega)
    rw[if_neg (by rw[hl];simp),if_pos h3]at e
    exact bS 4 rfl (Nat.le_refl _) (ab0 e) rfl
   ·have h3:aN th m n deep≠[]:=fun e=>by rw[e]at h3;simp at h3
    rw[if_neg (by rw[hl];simp),if_neg h3]at e
    obtain⟨p0,p1⟩:=rL (key:=key) s2 h3
    exact⟨by omega,s2,p0,p1,zX (by omega) (by omega),ih _ _ ⟨by omega,by omega⟩ (by omega) (rM h _) e⟩
 have no:ie key none=false→kb ajZ ((th,m,fu,root,fr,fs,gn),key) (hT th m fu root fr fs gn) (.bh [.s (.str ByteArray.empty),.s (.aI false),.s (.aZ .i64 1)]):=fun h=>
  bS 4 rfl (Nat.le_refl _) (ab0 (c:=(ByteArray.empty,false,1)) (by unfold gtT;rw[if_pos h])) rfl
 refine Ds.eG hz hX hm abZ Tryd.func11 (auq th m fu root fr fs gn key) ⟨fun h=>⟨fun h2=> ?_,fun h2=> ?_⟩,fun h=> ?_⟩
 ·have h2:¬(key.size:Int)≤24:=by simpa using h2
  exact no (by simp only[ie,Bool.and_eq_false_iff,decide_eq_false_iff_not];omega)
 ·have h:=of_decide_eq_true h
  have h2:(key.size:Int)≤24:=by simpa using h2
  have ok:ie key none=true:=by simp only[ie,Bool.and_eq_true,decide_eq_true_eq];omega
  refine⟨fun h3=> ?_,fun h3=> ?_⟩
  ·have h3:root=0:=by simpa using h3
   exact bS 4 rfl (Nat.le_refl _) (ab0 (c:=(ByteArray.empty,false,0)) (by unfold gtT;rw[if_neg (by rw[ok];simp),if_pos h3])) rfl
  ·have h3:root≠0:=by simpa using h3
   exact loop 17 root 1 ⟨by omega,by omega⟩ (by omega) hr (by unfold gtT;rw[if_neg (by rw[ok];simp),if_neg h3])
 ·have h:=of_decide_eq_false h
  exact no (by simp only[ie,Bool.and_eq_false_iff,decide_eq_false_iff_not];omega)
end Ts
namespace Go.Sx
open Go
section
variable{P:Program}{X:Ctx}{K:List ad→AV→Prop}{L:List ad}
end
end Go.Sx
namespace Go.Sx
open Go
def ab1(id n:Nat):AV→AV
 |.vec j=>bif j.beq id then .vec n else .vec j
 |a=>a
def adJ(id n:Nat):AV→AV
 |.agg ak=>.agg (ak.map (ab1 id n))
 |.vec j=>bif j.beq id then .vec n else .vec j
 |a=>a
def mvO(id n:Nat):ad→ad
 |.own ak e=>.own (ak.map (ab1 id n)) e
 |o=>o
def amM(s:St)(id:Nat):St:=
 match s.H[id]? with
 |some (.vec c e)=>⟨s.tmps.map (adJ id s.H.length),(s.H.map (mvO id s.H.length)).set id .dead++[.vec c e]⟩
 |_=>s
section
variable{ρ az:Nat→Value}{H H':aH}{G O O':Nat→Prop}{w w':World}{P:Program}{Z:ba}{X:Ctx}{s:St}{a:Act}
theorem ag2{id n:Nat}{o:ad}:(mvO id n o).alive=o.alive:=by cases o<;>rfl
theorem amN{id n:Nat}{o:ad}{c':aF}{e':TypeId}(h:mvO id n o=.vec c' e'):o=.vec c' e':=by
 cases o<;>simp[mvO]at h ⊢
 exact h
theorem bO.mv(h:bO X ρ s a w)(id:Nat):∃az,bO X az (amM s id) a w:=by
 unfold amM
 split
 ·rename_i c e ho
  have hs:=h.sat
  have bc:id<s.H.length:=(List.getElem?_eq_some_iff.1 ho).1
  let n:=s.H.length
  let az:Nat→Value:=fun j=>if j=n then ρ id else ρ j
  let s':St:=⟨s.tmps.map (adJ id n),(s.H.map (mvO id n)).set id .dead++[.vec c e]⟩
  have look:∀j,s'.look j=if j=n then some (.vec c e)else if j=id then some .dead else(s.look j).map (mvO id n):=by
   intro j
   show((s.H.map (mvO id n)).set id .dead++[.vec c e])[j]? =_
   by_cases hj:j=n
   ·subst hj
    rw[if_pos rfl,List.getElem?_append_right (by simp[n])]
    simp[n]
   ·rw[if_neg hj]
    by_cases hl:j<n
    ·rw[List.getElem?_append_left (by simpa[n]using hl),List.getElem?_set]
     by_cases hi:id=j
     ·subst hi;simp[bc]
     ·rw[if_neg hi,if_neg (Ne.symm hi),List.getElem?_map];rfl
    ·rw[List.getElem?_eq_none (by simp only[List.length_append,List.length_set,List.length_map,List.length_singleton];show n+1≤j;omega),if_neg (by omega)]
     have:s.look j=none:=List.getElem?_eq_none (by show n≤j;omega)
     rw[this];rfl
  have aoo:∀{j:Nat} {o:ad},s.look j=some o→j<n:=fun hj=>(List.getElem?_eq_some_iff.1 hj).1
  have back:∀j o,s'.look j=some o→o.alive=true→∃x,s.look (if j=n then id else j)=some x∧x.alive=true∧az j=ρ (if j=n then id else j)∧(j≠n→j≠id):=by
   intro j o hj ha
   rw[look]at hj
   by_cases e1:j=n
   ·rw[if_pos e1]
    exact⟨.vec c e,ho,rfl,by simp[az,e1],fun h=>absurd e1 h⟩
   ·rw[if_neg e1]at hj ⊢
    by_cases e2:j=id
    ·rw[if_pos e2]at hj;cases hj;cases ha
    ·rw[if_neg e2]at hj
     obtain⟨o0,h3,rfl⟩:=Option.map_eq_some_iff.1 hj
     exact⟨o0,h3,by rw[ag2]at ha;exact ha,by simp[az,e1],fun _=>e2⟩
  have own:∀b,Own az s'.look b→Own ρ s.look b:=by
   rintro b ⟨j,o,hj,h1,h2⟩
   obtain⟨x,g1,g2,g3,_⟩:=back j o hj h1
   exact⟨_,x,g1,g2,by rw[←g3];exact h2⟩
  have st:Step ρ s.look (aM ρ s.look X.G) w az s'.look (aM az s'.look X.G) w:=by
   refine⟨fun j o hj=> ?_,fun j o hj=> ?_,fun b hb=>.inl (hb.imp (own b) (fun x=>x)),fun _ _ _=>rfl,Nat.le_refl _⟩
   ·have:=aoo hj
    simp only[az]
    rw[if_neg (by omega)]
   ·have hjn:j≠n:=Nat.ne_of_lt (aoo hj)
    by_cases e1:j=id
    ·exact⟨.dead,by rw[look,if_neg hjn,if_pos e1],fun c' e' he=>by cases he⟩
    ·refine⟨mvO id n o,by rw[look,if_neg hjn,if_neg e1,hj];rfl,fun c' e' he=> ?_⟩
     exact⟨c',e',amN he,rfl,rfl⟩
  have asn:s'.look n=some (.vec c e):=by rw[look,if_pos rfl]
  have aso:az n=ρ id:=by simp[az]
  have hi:s.look id=some (.vec c e):=ho
  have asp:∀{v:Value},ay ρ s.look (aM ρ s.look X.G) w (.vec id) v→ay az s'.look (aM az s'.look X.G) w (.vec n) v:=by
   intro v hv
   unfold ay at hv ⊢
   obtain⟨h0,o,h1,h2⟩:=hv
   rw[hi]at h1
   cases h1
   exact⟨h0,.vec c e,asn,fun c' e' _=>by rw[aso];exact h2 c e rfl⟩
  have ac1:∀x cs,aC ρ s.look (aM ρ s.look X.G) w x cs→aC az s'.look (aM az s'.look X.G) w (ab1 id n x) cs:=by
   intro x cs hx
   have kD:=aC.step st x cs hx
   cases x<;>try exact kD
   rename_i j
   simp only[ab1,Bool.cond_eq_ite]
   split
   ·rename_i hj
    have hj:j=id:=by simpa using hj
    subst hj
    unfold aC at hx ⊢
    obtain⟨u,rfl,hu⟩:=hx
    exact⟨u,rfl,asp hu⟩
   ·exact kD
  have lU:∀(xs:List AV) cs,an ρ s.look (aM ρ s.look X.G) w xs cs→an az s'.look (aM az s'.look X.G) w (xs.map (ab1 id n)) cs:=by
   intro xs
   induction xs with
   |nil=>intro cs hx;exact ao.2 (ao.1 hx)
   |cons x xs ih=>
    intro cs hx
    obtain⟨c1,c2,rfl,h1,h2⟩:=af.1 hx
    exact af.2 ⟨c1,c2,rfl,ac1 _ _ h1,ih _ h2⟩
  have ao3:∀x v,ab ρ s.look (aM ρ s.look X.G) w x v→ab az s'.look (aM az s'.look X.G) w (adJ id n x) v:=by
   intro x v hx
   have kD:=ab.step st x v hx
   cases x with
   |agg ak=>
    unfold ab at hx
    obtain⟨cs,rfl,h1⟩:=hx
    show ab _ _ _ _ (.agg _) _
    unfold ab
    exact⟨cs,rfl,lU _ _ h1⟩
   |vec j=>
    simp only[adJ,Bool.cond_eq_ite]
    split
    ·rename_i hj
     have hj:j=id:=by simpa using hj
     subst hj
     unfold ab at hx ⊢
     exact asp hx
    ·exact kD
   |_=>exact kD
  refine⟨az,⟨fun j o hj=> ?_,fun i j oi oj b h1 h2 h3 h4 h5 h6=> ?_,fun b hb=>hs.apart b (own b hb),hs.low⟩,by rw[←h.size];exact List.length_map _,fun t=> ?_,h.defers,h.from_.trans st,h.iL,h.kept⟩
  ·have hj:s'.look j=some o:=hj
   rw[look]at hj
   by_cases e0:j=n
   ·rw[if_pos e0]at hj
    cases hj
    subst e0
    rw[aso]
    exact(hs.obj id _ hi).step st (fun _ _ _=>rfl)
   ·rw[if_neg e0]at hj
    have hr:az j=ρ j:=by simp[az,e0]
    rw[hr]
    by_cases e1:j=id
    ·rw[if_pos e1]at hj;cases hj;trivial
    ·rw[if_neg e1]at hj
     obtain⟨o0,h3,rfl⟩:=Option.map_eq_some_iff.1 hj
     have dL:=hs.obj j o0 h3
     cases o0 with
     |own ak e1=>
      obtain⟨b,cells,fr,g1,g2,g3,g4⟩:=dL
      exact⟨b,cells,fr,g1,g2,g3,lU _ _ g4⟩
     |_=>exact dL.step st (fun _ _ _=>rfl)
  ·obtain⟨x,hx,hxa,hxr,hxi⟩:=back i oi h1 h3
   obtain⟨y,hy,hya,hyr,hyi⟩:=back j oj h2 h4
   have:=hs.inj _ _ x y b hx hy hxa hya (by rw[←hxr];exact h5) (by rw[←hyr];exact h6)
   by_cases e1:i=n
   ·by_cases e2:j=n
    ·omega
    ·rw[if_pos e1,if_neg e2]at this
     exact absurd this.symm (hyi e2)
   ·by_cases e2:j=n
    ·rw[if_neg e1,if_pos e2]at this
     exact absurd this (hxi e1)
    ·rw[if_neg e1,if_neg e2]at this
     exact this
  ·have e1:(s.tmps.map (adJ id n)).getD t (.s .aR)=adJ id n (s.tmps.getD t (.s .aR)):=by
    rw[List.getD_eq_getElem?_getD,List.getD_eq_getElem?_getD,List.getElem?_map]
    cases s.tmps[t]? <;>rfl
   show ab az s'.look _ w ((s.tmps.map (adJ id n)).getD t (.s .aR)) _
   rw[e1]
   exact ao3 _ _ (h.den t)
 ·exact⟨ρ,h⟩
variable{K:List ad→AV→Prop}
theorem pr{f:FuncId}{tmps:List AV}{L:List ad}{todo:List Item}{stk:nB}(id:Nat){c:bz}(e:(⟨(amM ⟨tmps,L⟩ id).tmps,(amM ⟨tmps,L⟩ id).H,todo,stk⟩:bz)=c)(h:Safe P f X K c):Safe P f X K ⟨tmps,L,todo,stk⟩:=by
 subst e
 intro G E ρ a w gP gV hr b t fs hw
 obtain⟨az,r'⟩:=hr.mv id
 exact h G E az a w gP gV r' b t fs hw
end
end Go.Sx
namespace Ts
open Go Go.Sx Go.Proofs Lf
abbrev fL1:FuncId:=41
abbrev fG1:FuncId:=42
abbrev fW1:FuncId:=62
def ow(k:ByteArray)(e:En):Bool:= !slt e.1 k
abbrev sL1:Spec (Int×(Bool×List En×List Br)×ByteArray×List En):=⟨fun(n,(l,es,bs),_,_)=>[bJ n,avN l es bs,.ptr 0 0,.ptr 1 0],fun(_,_,from_,out)=>[tl from_,.own [.vec 2] 29,.vec (.ae cE out) Lf.eE],
 fun(_,(_,es,_),_,out)=>[(es:List En).length≤1000,(out:List En).length≤100000000],fun(_,(_,es,_),from_,out)=>[tl from_,.own [.vec 3] 29,.dead,.vec (.ae cE (out++es.filter (ow from_))) Lf.eE],fun _=>.bh []⟩
def aj1:List (Nat×Norm):=[(1,⟨[],[2,3,5],3,[]⟩),(2,⟨[],[2,3,9,10,11],3,[]⟩)]
noncomputable def asq(l:Bool)(es:List En)(bs:List Br)(from_:ByteArray)(out:List En):bz:=⟨sl 24 [(2,.ptr 0 0),(3,.ptr 1 0),(5,.ptr 3 0)],[tl from_,.own [.vec 4] 29,.dead,obN l es bs eN,.vec (.ae cE out) Lf.eE],hr Tryd.f41 1,{}⟩
noncomputable def cL1(es:List En)(from_:ByteArray)(out:List En)(i:Int):bz:=⟨sl 24 [(2,.ptr 0 0),(3,.ptr 1 0),(9,.s (.ro (.ae cE es))),(10,bJ (es.length:Int)),(11,bJ i)],[tl from_,.own [.vec 3] 29,.dead,.vec (.ae cE out) Lf.eE],hd Tryd.f41 2,{}⟩
theorem aut(n:Int)(l:Bool)(es:List En)(bs:List Br)(from_:ByteArray)(out:List En):run P (aG.sum []) Tryd.f41 aj1 (start Tryd.f41 [bJ n,avN l es bs,.ptr 0 0,.ptr 1 0] [tl from_,.own [.vec 2] 29,.vec (.ae cE out) Lf.eE])=
 Tree.at (.mk (sl 24 [(2,.ptr 0 0),(3,.ptr 1 0),(5,.ptr 3 0)]) [.own [.s (.str from_)] 9,.own [.vec 2] 29,.vec (.ae [.str,.str] out) 34,.own [.s (.bool l),.s (.ro (.ae [.str,.str] es)),.s (.ro (.ae [.str,.int .i64] bs))] 73] (hr Tryd.f41 1) (.mk none false 0 [] 0)):=by kernel_rfl
theorem auu(l:Bool)(es:List En)(bs:List Br)(from_:ByteArray)(out:List En):run P (aG.sum []) Tryd.f41 aj1 (asq l es bs from_ out)=
 Tree.at (.mk (sl 24 [(2,.ptr 0 0),(3,.ptr 1 0),(9,.s (.ro (.ae [.str,.str] es))),(10,.s (.int .i64 (↑es.length:Int))),(11,.s (.int .i64 0))]) [.own [.s (.str from_)] 9,.own [.vec 3] 29,.dead,.vec (.ae [.str,.str] out) 34] (hd Tryd.f41 2) (.mk none false 0 [] 0)):=by kernel_rfl
theorem asr(es:List En)(from_:ByteArray)(out:List En)(i:Int):run P (aG.sum []) Tryd.f41 aj1 (cL1 es from_ out i)=
 Tree.ite (decide (i<(↑es.length:Int))) (.need ((0:Int)≤i) (.need (i<(↑es.length:Int)) (.ite (!slt (es.getD i.toNat (CL.d [.str,.str])).fst from_) (.need ((out.length+1)*(32:Nat)≤140737488355328) (.need (aD (i+1)) (.at (.mk (sl 24 [(2,.ptr 0 0),(3,.ptr 1 0),(9,.s (.ro (.ae [.str,.str] es))),(10,.s (.int .i64 (↑es.length:Int))),(11,.s (.int .i64 (i+1)))]) [.own [.s (.str from_)] 9,.own [.vec 3] 29,.dead,.vec (.ae [.str,.str] (out++[((es.getD i.toNat (CL.d [.str,.str])).fst,(es.getD i.toNat (CL.d [.str,.str])).snd.fst,())])) 34] (hd Tryd.f41 2) (.mk none false 0 [] 0))))) (.need (aD (i+1)) (.at (.mk (sl 24 [(2,.ptr 0 0),(3,.ptr 1 0),(9,.s (.ro (.ae [.str,.str] es))),(10,.s (.int .i64 (↑es.length:Int))),(11,.s (.int .i64 (i+1)))]) [.own [.s (.str from_)] 9,.own [.vec 3] 29,.dead,.vec (.ae [.str,.str] out) 34] (hd Tryd.f41 2) (.mk none false 0 [] 0))))))) (.ret [.own [.s (.str from_)] 9,.own [.vec 3] 29,.dead,.vec (.ae [.str,.str] out) 34] (.bh [])):=by kernel_rfl
theorem sD{α:Type}{p:α→Bool}{l:List α}{k:Nat}{d:α}(h:k<l.length):(l.take (k+1)).filter p=(l.take k).filter p++(if p (l.getD k d)=true then [l.getD k d]else []):=by
 rw[←lA (d:=d) h,List.filter_append]
 congr 1
 cases h2:p (l.getD k d)
 ·rw[List.filter_cons_of_neg (by rw[h2];simp)];rfl
 ·rw[List.filter_cons_of_pos h2];rfl
theorem filter_le{α:Type}(p:α→Bool)(l:List α):(l.filter p).length≤l.length:=List.length_filter_le _ _
theorem aj2{Z:ba}:js P Z 41 sL1:=by
 refine aP Tryd.func41 (by kernel_rfl) (fun x=>Nat.le_of_ble_eq_true (by kernel_rfl)) ?_
 rintro⟨(n:Int),⟨(l:Bool),(es:List En),(bs:List Br)⟩,(from_:ByteArray),(out:List En)⟩ ⟨(he:es.length≤1000),(ho:out.length≤100000000),_⟩ X hX hz
 have hm:∀y∈aj1,([tl from_,.own [.vec 2] 29,.vec (.ae cE out) Lf.eE]:List ad).length≤y.2.m:=fun y hy=>by
  simp only[aj1,List.mem_cons,List.not_mem_nil,or_false]at hy
  rcases hy with rfl|rfl<;>exact Nat.le_refl _
 have loop:∀(j k:Nat),k+j=es.length→Safe P 41 X (kb sL1 (n,(l,es,bs),from_,out)) (cL1 es from_ (out++(es.take k).filter (ow from_)) (k:Int)):=by
  intro j
  induction j with
  |zero=>
   intro k hk
   refine Ds.eG hz hX hm aG.Ok.nil Tryd.func41 (asr es from_ _ k) ⟨fun h=>absurd (of_decide_eq_true h) (by omega),fun h=> ?_⟩
   rw[List.take_of_length_le (by omega)]
   exact bS 3 rfl (Nat.le_refl _) rfl rfl
  |succ j ih=>
   intro k hk
   have e:=sD (p:=ow from_) (l:=es) (k:=k) (d:=dE) (by omega)
   have hl:=filter_le (ow from_) (es.take k)
   rw[List.length_take]at hl
   refine Ds.eG hz hX hm aG.Ok.nil Tryd.func41 (asr es from_ _ k) ⟨fun h=>⟨by omega,by omega,fun hg=>⟨?_,⟨by omega,by omega⟩, ?_⟩,fun hg=>⟨⟨by omega,by omega⟩, ?_⟩⟩,fun h=>absurd (of_decide_eq_false h) (by omega)⟩
   ·show(_+1)*32≤140737488355328
    rw[List.length_append];omega
   ·have hg:ow from_ (es.getD k dE)=true:=hg
    rw[if_pos hg]at e
    have:=ih (k+1) (by omega)
    rw[e,←List.append_assoc]at this
    exact this
   ·have hg:ow from_ (es.getD k dE)=false:=hg
    rw[if_neg (by rw[hg];simp),List.append_nil]at e
    have:=ih (k+1) (by omega)
    rw[e]at this
    exact this
 refine Ds.eG hz hX hm aG.Ok.nil Tryd.func41 (aut n l es bs from_ out) ?_
 refine pr 2 (c:=asq l es bs from_ out) rfl ?_
 refine Ds.eG hz hX hm aG.Ok.nil Tryd.func41 (auu l es bs from_ out) ?_
 have:=loop es.length 0 (by omega)
 rw[List.take_zero,List.filter_nil,List.append_nil]at this
 exact this
end Ts
namespace Ts
open Go Go.Sx Go.Proofs Lf
def qF{σ:Type}(g:Ws→σ→Int→Ws×σ×Int):List Br→Ws→σ→Ws×σ×Int
 |[],met,out=>(met,out,0)
 |b::r,met,out=>if(g met out b.2.1).2.2≠0 then g met out b.2.1 else qF g r (g met out b.2.1).1 (g met out b.2.1).2.1
def dt{σ:Type}(on:σ→Int→List En→σ)(th:Th)(m:As):Nat→Int→Ws→σ→Int→Ws×σ×Int
 |0,_,met,out,_=>(met,out,4)
 |f+1,deep,met,out,n=>
  if fG th m n deep≠0 then(met,out,fG th m n deep)
  else if Bx.lG met n=true then(met,out,4)
  else qF (dt on th m f (deep+1)) (aN th m n deep) (Bx.cK met n) (on out n (bK th m n deep))
def qG(from_:ByteArray)(out:List En)(_:Int)(es:List En):List En:=out++es.filter (ow from_)
def nZ(out:Ws)(n:Int)(_:List En):Ws:=Bx.cK out n
def iV(ws:Ws):Nat:=(Bx.ajp ws).length
abbrev tT1:TypeId:=26
abbrev tOn:TypeId:=82
abbrev tVi:TypeId:=107
abbrev eSt:TypeId:=47
abbrev eLE:TypeId:=29
abbrev sG1:Spec (Int×(Bool×List En×List Br)×Ws):=⟨fun(n,(l,es,bs),_)=>[bJ n,avN l es bs,.ptr 0 0],fun(_,_,out)=>[.own [.ints .u64 16 out] eSt],fun _=>[],fun(n,_,out)=>[.own [.ints .u64 16 (Bx.cK out n)] eSt],fun _=>.bh []⟩
theorem auv(n:Int)(l:Bool)(es:List En)(bs:List Br)(out:Ws):run P (aG.sum [(43,abB)]) Tryd.f42 [] (start Tryd.f42 [bJ n,avN l es bs,.ptr 0 0] [.own [.ints .u64 16 out] eSt])=
 Tree.ret [.own [.ints .u64 16 (Bx.cK out n)] 47,.own [.s (.bool l),.s (.ro (.ae [.str,.str] es)),.s (.ro (.ae [.str,.int .i64] bs))] 73] (.bh []):=by kernel_rfl
def mL1:List AV→RM ((Int×(Bool×List En×List Br)×ByteArray×List En)×List Nat)
 |[n,x,.ptr a 0,.ptr b 0]=>match n.cY,ap9 x with
  |some (_,_,n),some nd=>.look a fun o=>match o with
   |some (.own [.s (.str from_)] _)=>.look b fun o=>match o with
    |some (.own [.vec r] _)=>.look r fun o=>match o with
     |some (.vec (.ae [.str,.str] out) _)=>.ret ((n,nd,from_,out),[a,b,r])
     |_=>.fail "no row"
    |_=>.fail "no row's box"
   |_=>.fail "no text"
  |_,_=>.fail "no node"
 |_=>.fail "List$1"
def mG1:List AV→RM ((Int×(Bool×List En×List Br)×Ws)×List Nat)
 |[n,x,.ptr a 0]=>match n.cY,ap9 x with
  |some (_,_,n),some nd=>.look a fun o=>match o with
   |some (.own [.ints .u64 16 out] _)=>.ret ((n,nd,out),[a])
   |_=>.fail "no set"
  |_,_=>.fail "no node"
 |_=>.fail "Pages$1"
def amO(th:Th)(m:As)(f:Nat)(deep:Int)(met:Ws)(from_:ByteArray)(out:List En)(n:Int):Ws:=(dt (qG from_) th m f deep met out n).1
def amP(th:Th)(m:As)(f:Nat)(deep:Int)(met:Ws)(from_:ByteArray)(out:List En)(n:Int):List En:=(dt (qG from_) th m f deep met out n).2.1
def amQ(th:Th)(m:As)(f:Nat)(deep:Int)(met:Ws)(from_:ByteArray)(out:List En)(n:Int):Int:=(dt (qG from_) th m f deep met out n).2.2
abbrev XVL:Type:=XT×Int×Int×Ws×ByteArray×List En
abbrev hVL(th:Th)(m:As)(fu root:Int)(fr fs gn met:Ws):List ad:=hT th m fu root fr fs gn++[.own [.ptr 0 0] tT1,.own [.ints .u64 16 met] eSt,.own [.fn fL1 [.ptr 8 0,.ptr 9 0]] tOn,.own [.fn fW1 [.ptr 4 0,.ptr 5 0,.ptr 6 0,.ptr 7 0]] tVi]
abbrev ab2(f:Nat):Spec XVL:=⟨fun(_,n,deep,_)=>[bJ n,bJ deep,.ptr 4 0,.ptr 5 0,.ptr 6 0,.ptr 7 0],fun((th,m,fu,root,fr,fs,gn),_,_,met,from_,out)=>hVL th m fu root fr fs gn met++[tl from_,.own [.vec 10] eLE,.vec (.ae cE out) Lf.eE],
 fun((th,m,fu,_),n,deep,met,_,out)=>[Ds.bI th m fu,0≤n∧n≤65536,1≤deep∧deep≤17,18≤deep+(f:Int),Bx.okW met,List.length (α:=En) out≤126*iV met],
 fun((th,m,fu,root,fr,fs,gn),n,deep,met,from_,out)=>hVL th m fu root fr fs gn (amO th m f deep met from_ out n)++[tl from_,.own [.vec 11] eLE,.dead,.vec (.ae cE (amP th m f deep met from_ out n)) Lf.eE],
 fun((th,m,_),n,deep,met,from_,out)=>bJ (amQ th m f deep met from_ out n)⟩
def amR:List AV→RM (XVL×List Nat)
 |[n,d,.ptr a 0,.ptr b 0,.ptr c 0,.ptr v 0]=>match n.cY,d.cY with
  |some (_,_,n),some (_,_,d)=>.look a fun o=>match o with
   |some (.own [.ptr t 0] _)=>(mT [.ptr t 0]).bind fun(X,σ)=>.look b fun o=>match o with
    |some (.own [.ints .u64 16 met] _)=>.look c fun o=>match o with
     |some (.own [.fn _ [.ptr p 0,.ptr q 0]] _)=>.look p fun o=>match o with
      |some (.own [.s (.str from_)] _)=>.look q fun o=>match o with
       |some (.own [.vec r] _)=>.look r fun o=>match o with
        |some (.vec (.ae [.str,.str] out) _)=>.ret ((X,n,d,met,from_,out),σ++[a,b,c,v,p,q,r])
        |_=>.fail "visit: no row"
       |_=>.fail "visit: no row's box"
      |_=>.fail "visit: no text"
     |_=>.fail "visit: no on"
    |_=>.fail "visit: no set"
   |_=>.fail "visit: no tree"
  |_,_=>.fail "visit: no numbers"
 |_=>.fail "visit: arguments"
def zN(f:Nat):aG:=[(37,xV),(35,amc),(43,abB),(fL1,dm sL1 mL1),(fW1,dm (ab2 f) amR)]
def afh:List (Nat×Norm):=[(9,⟨[],[1,5,35,36,37],11,[]⟩)]
noncomputable def ass(th:Th)(m:As)(fu root:Int)(fr fs gn met:Ws)(from_:ByteArray)(out:List En)(bs:List Br)(deep i:Int):bz:=⟨sl 51 [(1,bJ deep),(5,.ptr 7 0),(35,.s (.ro (.ae cB bs))),(36,bJ (bs.length:Int)),(37,bJ i)],hVL th m fu root fr fs gn met++[tl from_,.own [.vec 11] eLE,.dead,.vec (.ae cE out) Lf.eE],hd Tryd.f62 9,{}⟩
theorem ast(f:Nat)(th:Th)(m:As)(fu root:Int)(fr fs gn met:Ws)(from_:ByteArray)(out:List En)(n deep:Int):run P (zN f).sum Tryd.f62 afh (start Tryd.f62 [bJ n,bJ deep,.ptr 4 0,.ptr 5 0,.ptr 6 0,.ptr 7 0] (hVL th m fu root fr fs gn met++[tl from_,.own [.vec 11] eLE,.dead,.vec (.ae cE out) Lf.eE]))=
 Tree.need (bu (some [AV.ptr 0 0,.s (.int .i64 n),.s (.int .i64 deep)]))
 (.need (bu (some [ad.own [.ptr 1 0,.s (.int .i64 root),.ints .u64 16 fr,.ints .u64 16 fs,.ints .u64 16 gn] 70,.own [.vec 2,.ag 3,.s (.int .i64 fu)] 96,.vec (.ae [.arr .u8 64] th) 138,.map (.arr .u8 64) m]))
   (.need (Ds.bI th m fu)
     (.need (aD n)
       (.ite (fG th m n deep !=0) (.ret [.own [.ptr 1 0,.s (.int .i64 root),.ints .u64 16 fr,.ints .u64 16 fs,.ints .u64 16 gn] 70,.own [.vec 2,.ag 3,.s (.int .i64 fu)] 96,.vec (.ae [.arr .u8 64] th) 138,.map (.arr .u8 64) m,.own [.ptr 0 0] 26,.own [.ints .u64 16 met] 47,.own [.fn 41 [.ptr 8 0,.ptr 9 0]] 82,.own [.fn 62 [.ptr 4 0,.ptr 5 0,.ptr 6 0,.ptr 7 0]] 107,.own [.s (.str from_)] 9,.own [.vec 11] 29,.dead,.vec (.ae [.str,.str] out) 34,.own [.s (.bool (j7 th m n deep)),.s (.ro (.ae [.str,.str] (bK th m n deep))),.s (.ro (.ae [.str,.int .i64] (aN th m n deep)))] 73] (.s (.int .i64 (fG th m n deep))))
         (.ite (Bx.lG met n) (.ret [.own [.ptr 1 0,.s (.int .i64 root),.ints .u64 16 fr,.ints .u64 16 fs,.ints .u64 16 gn] 70,.own [.vec 2,.ag 3,.s (.int .i64 fu)] 96,.vec (.ae [.arr .u8 64] th) 138,.map (.arr .u8 64) m,.own [.ptr 0 0] 26,.own [.ints .u64 16 met] 47,.own [.fn 41 [.ptr 8 0,.ptr 9 0]] 82,.own [.fn 62 [.ptr 4 0,.ptr 5 0,.ptr 6 0,.ptr 7 0]] 107,.own [.s (.str from_)] 9,.own [.vec 11] 29,.dead,.vec (.ae [.str,.str] out) 34,.own [.s (.bool (j7 th m n deep)),.s (.ro (.ae [.str,.str] (bK th m n deep))),.s (.ro (.ae [.str,.int .i64] (aN th m n deep)))] 73] (.s (.aZ .i64 4))) (.need (bu (some [AV.s (.int .i64 n),.agg [.s (.bool (j7 th m n deep)),.s (.ro (.ae [.str,.str] (bK th m n deep))),.s (.ro (.ae [.str,.int .i64] (aN th m n deep)))],.ptr 0 0,.ptr 1 0])) (.need (bu (some [ad.own [.s (.str from_)] 9,.own [.vec 2] 29,.vec (.ae [.str,.str] out) 34])) (.need ((bK th m n deep).length≤1000) (.need (out.length≤100000000) (.at (.mk (sl 51 [(1,.s (.int .i64 deep)),(5,.ptr 7 0),(35,.s (.ro (.ae [.str,.int .i64] (aN th m n deep)))),(36,.s (.int .i64 (↑(aN th m n deep).length:Int))),(37,.s (.int .i64 0))]) [.own [.ptr 1 0,.s (.int .i64 root),.ints .u64 16 fr,.ints .u64 16 fs,.ints .u64 16 gn] 70,.own [.vec 2,.ag 3,.s (.int .i64 fu)] 96,.vec (.ae [.arr .u8 64] th) 138,.map (.arr .u8 64) m,.own [.ptr 0 0] 26,.own [.ints .u64 16 (Bx.cK met n)] 47,.own [.fn 41 [.ptr 8 0,.ptr 9 0]] 82,.own [.fn 62 [.ptr 4 0,.ptr 5 0,.ptr 6 0,.ptr 7 0]] 107,.own [.s (.str from_)] 9,.own [.vec 11] 29,.dead,.vec (.ae [.str,.str] (out++List.filter (ow from_) (bK th m n deep))) 34] (hd Tryd.f62 9) (.mk none false 0 [] 0)))))))))))):=by kernel_rfl
theorem aop(f:Nat)(th:Th)(m:As)(fu root:Int)(fr fs gn met:Ws)(from_:ByteArray)(out:List En)(bs:List Br)(deep i:Int):run P (zN f).sum Tryd.f62 afh (ass th m fu root fr fs gn met from_ out bs deep i)=
 Tree.ite (decide (i<(↑bs.length:Int)))
 (.need ((0:Int)≤i)
   (.need (i<(↑bs.length:Int))
     (.need (aD (deep+1))
       (.need (bu (some [AV.s (.int .i64 (bs.getD i.toNat (CL.d [.str,.int .i64])).snd.fst),.s (.int .i64 (deep+1)),.ptr 4 0,.ptr 5 0,.ptr 6 0,.ptr 7 0]))
         (.need (bu (some [ad.own [.ptr 1 0,.s (.int .i64 root),.ints .u64 16 fr,.ints .u64 16 fs,.ints .u64 16 gn] 70,.own [.vec 2,.ag 3,.s (.int .i64 fu)] 96,.vec (.ae [.arr .u8 64] th) 138,.map (.arr .u8 64) m,.own [.ptr 0 0] 26,.own [.ints .u64 16 met] 47,.own [.fn 41 [.ptr 8 0,.ptr 9 0]] 82,.own [.fn 62 [.ptr 4 0,.ptr 5 0,.ptr 6 0,.ptr 7 0]] 107,.own [.s (.str from_)] 9,.own [.vec 10] 29,.vec (.ae [.str,.str] out) 34]))
           (.need (Ds.bI th m fu) (.need ((0:Int)≤(bs.getD i.toNat (CL.d [.str,.int .i64])).snd.fst∧(bs.getD i.toNat (CL.d [.str,.int .i64])).snd.fst≤65536) (.need ((1:Int)≤deep+1∧deep+1≤17) (.need ((18:Int)≤deep+1+(↑f:Int)) (.need (Bx.okW met) (.need (out.length≤(126:Nat)*iV met) (.ite (amQ th m f (deep+1) met from_ out (bs.getD i.toNat (CL.d [.str,.int .i64])).snd.fst !=0) (.ret [.own [.ptr 1 0,.s (.int .i64 root),.ints .u64 16 fr,.ints .u64 16 fs,.ints .u64 16 gn] 70,.own [.vec 2,.ag 3,.s (.int .i64 fu)] 96,.vec (.ae [.arr .u8 64] th) 138,.map (.arr .u8 64) m,.own [.ptr 0 0] 26,.own [.ints .u64 16 (amO th m f (deep+1) met from_ out (bs.getD i.toNat (CL.d [.str,.int .i64])).snd.fst)] 47,.own [.fn 41 [.ptr 8 0,.ptr 9 0]] 82,.own [.fn 62 [.ptr 4 0,.ptr 5 0,.ptr 6 0,.ptr 7 0]] 107,.own [.s (.str from_)] 9,.own [.vec 13] 29,.dead,.dead,.own [.s (.str (bs.getD i.toNat (CL.d [.str,.int .i64])).fst),.s (.int .i64 (bs.getD i.toNat (CL.d [.str,.int .i64])).snd.fst)] 79,.vec (.ae [.str,.str] (amP th m f (deep+1) met from_ out (bs.getD i.toNat (CL.d [.str,.int .i64])).snd.fst)) 34] (.s (.int .i64 (amQ th m f (deep+1) met from_ out (bs.getD i.toNat (CL.d [.str,.int .i64])).snd.fst)))) (.need (aD (i+1)) (.at (.mk (sl 51 [(1,.s (.int .i64 deep)),(5,.ptr 7 0),(35,.s (.ro (.ae [.str,.int .i64] bs))),(36,.s (.int .i64 (↑bs.length:Int))),(37,.s (.int .i64 (i+1)))]) [.own [.ptr 1 0,.s (.int .i64 root),.ints .u64 16 fr,.ints .u64 16 fs,.ints .u64 16 gn] 70,.own [.vec 2,.ag 3,.s (.int .i64 fu)] 96,.vec (.ae [.arr .u8 64] th) 138,.map (.arr .u8 64) m,.own [.ptr 0 0] 26,.own [.ints .u64 16 (amO th m f (deep+1) met from_ out (bs.getD i.toNat (CL.d [.str,.int .i64])).snd.fst)] 47,.own [.fn 41 [.ptr 8 0,.ptr 9 0]] 82,.own [.fn 62 [.ptr 4 0,.ptr 5 0,.ptr 6 0,.ptr 7 0]] 107,.own [.s (.str from_)] 9,.own [.vec 11] 29,.dead,.vec (.ae [.str,.str] (amP th m f (deep+1) met from_ out (bs.getD i.toNat (CL.d [.str,.int .i64])).snd.fst)) 34] (hd Tryd.f62 9) (.mk none false 0 [] 0))))))))))))))))
 (.ret [.own [.ptr 1 0,.s (.int .i64 root),.ints .u64 16 fr,.ints .u64 16 fs,.ints .u64 16 gn] 70,.own [.vec 2,.ag 3,.s (.int .i64 fu)] 96,.vec (.ae [.arr .u8 64] th) 138,.map (.arr .u8 64) m,.own [.ptr 0 0] 26,.own [.ints .u64 16 met] 47,.own [.fn 41 [.ptr 8 0,.ptr 9 0]] 82,.own [.fn 62 [.ptr 4 0,.ptr 5 0,.ptr 6 0,.ptr 7 0]] 107,.own [.s (.str from_)] 9,.own [.vec 11] 29,.dead,.vec (.ae [.str,.str] out) 34] (.s (.aZ .i64 0))):=by kernel_rfl
def amS(th:Th)(m:As)(f:Nat)(deep:Int)(met:Ws)(out:Ws)(n:Int):Ws:=(dt nZ th m f deep met out n).1
def amT(th:Th)(m:As)(f:Nat)(deep:Int)(met:Ws)(out:Ws)(n:Int):Ws:=(dt nZ th m f deep met out n).2.1
def amU(th:Th)(m:As)(f:Nat)(deep:Int)(met:Ws)(out:Ws)(n:Int):Int:=(dt nZ th m f deep met out n).2.2
abbrev XVG:Type:=XT×Int×Int×Ws×Ws
abbrev hVG(th:Th)(m:As)(fu root:Int)(fr fs gn met:Ws):List ad:=hT th m fu root fr fs gn++[.own [.ptr 0 0] tT1,.own [.ints .u64 16 met] eSt,.own [.fn fG1 [.ptr 8 0]] tOn,.own [.fn fW1 [.ptr 4 0,.ptr 5 0,.ptr 6 0,.ptr 7 0]] tVi]
abbrev ab3(f:Nat):Spec XVG:=⟨fun(_,n,deep,_)=>[bJ n,bJ deep,.ptr 4 0,.ptr 5 0,.ptr 6 0,.ptr 7 0],fun((th,m,fu,root,fr,fs,gn),_,_,met,out)=>hVG th m fu root fr fs gn met++[.own [.ints .u64 16 out] eSt],
 fun((th,m,fu,_),n,deep,met,out)=>[Ds.bI th m fu,0≤n∧n≤65536,1≤deep∧deep≤17,18≤deep+(f:Int),Bx.okW met,0≤0],
 fun((th,m,fu,root,fr,fs,gn),n,deep,met,out)=>hVG th m fu root fr fs gn (amS th m f deep met out n)++[.own [.ints .u64 16 (amT th m f deep met out n)] eSt],
 fun((th,m,_),n,deep,met,out)=>bJ (amU th m f deep met out n)⟩
def amV:List AV→RM (XVG×List Nat)
 |[n,d,.ptr a 0,.ptr b 0,.ptr c 0,.ptr v 0]=>match n.cY,d.cY with
  |some (_,_,n),some (_,_,d)=>.look a fun o=>match o with
   |some (.own [.ptr t 0] _)=>(mT [.ptr t 0]).bind fun(X,σ)=>.look b fun o=>match o with
    |some (.own [.ints .u64 16 met] _)=>.look c fun o=>match o with
     |some (.own [.fn _ [.ptr p 0]] _)=>.look p fun o=>match o with
      |some (.own [.ints .u64 16 out] _)=>.ret ((X,n,d,met,out),σ++[a,b,c,v,p])
      |_=>.fail "visit: no set"
     |_=>.fail "visit: no on"
    |_=>.fail "visit: no set"
   |_=>.fail "visit: no tree"
  |_,_=>.fail "visit: no numbers"
 |_=>.fail "visit: arguments"
def zO(f:Nat):aG:=[(37,xV),(35,amc),(43,abB),(fG1,dm sG1 mG1),(fW1,dm (ab3 f) amV)]
def afi:List (Nat×Norm):=[(9,⟨[],[1,5,35,36,37],9,[]⟩)]
noncomputable def asu(th:Th)(m:As)(fu root:Int)(fr fs gn met:Ws)(out:Ws)(bs:List Br)(deep i:Int):bz:=⟨sl 51 [(1,bJ deep),(5,.ptr 7 0),(35,.s (.ro (.ae cB bs))),(36,bJ (bs.length:Int)),(37,bJ i)],hVG th m fu root fr fs gn met++[.own [.ints .u64 16 out] eSt],hd Tryd.f62 9,{}⟩
theorem asv(f:Nat)(th:Th)(m:As)(fu root:Int)(fr fs gn met:Ws)(out:Ws)(n deep:Int):run P (zO f).sum Tryd.f62 afi (start Tryd.f62 [bJ n,bJ deep,.ptr 4 0,.ptr 5 0,.ptr 6 0,.ptr 7 0] (hVG th m fu root fr fs gn met++[.own [.ints .u64 16 out] eSt]))=
 Tree.need (bu (some [AV.ptr 0 0,.s (.int .i64 n),.s (.int .i64 deep)]))
 (.need (bu (some [ad.own [.ptr 1 0,.s (.int .i64 root),.ints .u64 16 fr,.ints .u64 16 fs,.ints .u64 16 gn] 70,.own [.vec 2,.ag 3,.s (.int .i64 fu)] 96,.vec (.ae [.arr .u8 64] th) 138,.map (.arr .u8 64) m]))
   (.need (Ds.bI th m fu) (.need (aD n) (.ite (fG th m n deep !=0) (.ret [.own [.ptr 1 0,.s (.int .i64 root),.ints .u64 16 fr,.ints .u64 16 fs,.ints .u64 16 gn] 70,.own [.vec 2,.ag 3,.s (.int .i64 fu)] 96,.vec (.ae [.arr .u8 64] th) 138,.map (.arr .u8 64) m,.own [.ptr 0 0] 26,.own [.ints .u64 16 met] 47,.own [.fn 42 [.ptr 8 0]] 82,.own [.fn 62 [.ptr 4 0,.ptr 5 0,.ptr 6 0,.ptr 7 0]] 107,.own [.ints .u64 16 out] 47,.own [.s (.bool (j7 th m n deep)),.s (.ro (.ae [.str,.str] (bK th m n deep))),.s (.ro (.ae [.str,.int .i64] (aN th m n deep)))] 73] (.s (.int .i64 (fG th m n deep)))) (.ite (Bx.lG met n) (.ret [.own [.ptr 1 0,.s (.int .i64 root),.ints .u64 16 fr,.ints .u64 16 fs,.ints .u64 16 gn] 70,.own [.vec 2,.ag 3,.s (.int .i64 fu)] 96,.vec (.ae [.arr .u8 64] th) 138,.map (.arr .u8 64) m,.own [.ptr 0 0] 26,.own [.ints .u64 16 met] 47,.own [.fn 42 [.ptr 8 0]] 82,.own [.fn 62 [.ptr 4 0,.ptr 5 0,.ptr 6 0,.ptr 7 0]] 107,.own [.ints .u64 16 out] 47,.own [.s (.bool (j7 th m n deep)),.s (.ro (.ae [.str,.str] (bK th m n deep))),.s (.ro (.ae [.str,.int .i64] (aN th m n deep)))] 73] (.s (.aZ .i64 4))) (.need (bu (some [AV.s (.int .i64 n),.agg [.s (.bool (j7 th m n deep)),.s (.ro (.ae [.str,.str] (bK th m n deep))),.s (.ro (.ae [.str,.int .i64] (aN th m n deep)))],.ptr 0 0])) (.need (bu (some [ad.own [.ints .u64 16 out] 47])) (.at (.mk (sl 51 [(1,.s (.int .i64 deep)),(5,.ptr 7 0),(35,.s (.ro (.ae [.str,.int .i64] (aN th m n deep)))),(36,.s (.int .i64 (↑(aN th m n deep).length:Int))),(37,.s (.int .i64 0))]) [.own [.ptr 1 0,.s (.int .i64 root),.ints .u64 16 fr,.ints .u64 16 fs,.ints .u64 16 gn] 70,.own [.vec 2,.ag 3,.s (.int .i64 fu)] 96,.vec (.ae [.arr .u8 64] th) 138,.map (.arr .u8 64) m,.own [.ptr 0 0] 26,.own [.ints .u64 16 (Bx.cK met n)] 47,.own [.fn 42 [.ptr 8 0]] 82,.own [.fn 62 [.ptr 4 0,.ptr 5 0,.ptr 6 0,.ptr 7 0]] 107,.own [.ints .u64 16 (Bx.cK out n)] 47] (hd Tryd.f62 9) (.mk none false 0 [] 0)))))))))):=by kernel_rfl
theorem aoq(f:Nat)(th:Th)(m:As)(fu root:Int)(fr fs gn met:Ws)(out:Ws)(bs:List Br)(deep i:Int):run P (zO f).sum Tryd.f62 afi (asu th m fu root fr fs gn met out bs deep i)=
 Tree.ite (decide (i<(↑bs.length:Int)))
 (.need ((0:Int)≤i)
   (.need (i<(↑bs.length:Int))
     (.need (aD (deep+1))
       (.need (bu (some [AV.s (.int .i64 (bs.getD i.toNat (CL.d [.str,.int .i64])).snd.fst),.s (.int .i64 (deep+1)),.ptr 4 0,.ptr 5 0,.ptr 6 0,.ptr 7 0]))
         (.need (bu (some [ad.own [.ptr 1 0,.s (.int .i64 root),.ints .u64 16 fr,.ints .u64 16 fs,.ints .u64 16 gn] 70,.own [.vec 2,.ag 3,.s (.int .i64 fu)] 96,.vec (.ae [.arr .u8 64] th) 138,.map (.arr .u8 64) m,.own [.ptr 0 0] 26,.own [.ints .u64 16 met] 47,.own [.fn 42 [.ptr 8 0]] 82,.own [.fn 62 [.ptr 4 0,.ptr 5 0,.ptr 6 0,.ptr 7 0]] 107,.own [.ints .u64 16 out] 47]))
           (.need (Ds.bI th m fu) (.need ((0:Int)≤(bs.getD i.toNat (CL.d [.str,.int .i64])).snd.fst∧(bs.getD i.toNat (CL.d [.str,.int .i64])).snd.fst≤65536) (.need ((1:Int)≤deep+1∧deep+1≤17) (.need ((18:Int)≤deep+1+(↑f:Int)) (.need (Bx.okW met) (.need ((0:Nat)≤0) (.ite (amU th m f (deep+1) met out (bs.getD i.toNat (CL.d [.str,.int .i64])).snd.fst !=0) (.ret [.own [.ptr 1 0,.s (.int .i64 root),.ints .u64 16 fr,.ints .u64 16 fs,.ints .u64 16 gn] 70,.own [.vec 2,.ag 3,.s (.int .i64 fu)] 96,.vec (.ae [.arr .u8 64] th) 138,.map (.arr .u8 64) m,.own [.ptr 0 0] 26,.own [.ints .u64 16 (amS th m f (deep+1) met out (bs.getD i.toNat (CL.d [.str,.int .i64])).snd.fst)] 47,.own [.fn 42 [.ptr 8 0]] 82,.own [.fn 62 [.ptr 4 0,.ptr 5 0,.ptr 6 0,.ptr 7 0]] 107,.own [.ints .u64 16 (amT th m f (deep+1) met out (bs.getD i.toNat (CL.d [.str,.int .i64])).snd.fst)] 47,.own [.s (.str (bs.getD i.toNat (CL.d [.str,.int .i64])).fst),.s (.int .i64 (bs.getD i.toNat (CL.d [.str,.int .i64])).snd.fst)] 79] (.s (.int .i64 (amU th m f (deep+1) met out (bs.getD i.toNat (CL.d [.str,.int .i64])).snd.fst)))) (.need (aD (i+1)) (.at (.mk (sl 51 [(1,.s (.int .i64 deep)),(5,.ptr 7 0),(35,.s (.ro (.ae [.str,.int .i64] bs))),(36,.s (.int .i64 (↑bs.length:Int))),(37,.s (.int .i64 (i+1)))]) [.own [.ptr 1 0,.s (.int .i64 root),.ints .u64 16 fr,.ints .u64 16 fs,.ints .u64 16 gn] 70,.own [.vec 2,.ag 3,.s (.int .i64 fu)] 96,.vec (.ae [.arr .u8 64] th) 138,.map (.arr .u8 64) m,.own [.ptr 0 0] 26,.own [.ints .u64 16 (amS th m f (deep+1) met out (bs.getD i.toNat (CL.d [.str,.int .i64])).snd.fst)] 47,.own [.fn 42 [.ptr 8 0]] 82,.own [.fn 62 [.ptr 4 0,.ptr 5 0,.ptr 6 0,.ptr 7 0]] 107,.own [.ints .u64 16 (amT th m f (deep+1) met out (bs.getD i.toNat (CL.d [.str,.int .i64])).snd.fst)] 47] (hd Tryd.f62 9) (.mk none false 0 [] 0))))))))))))))))
 (.ret [.own [.ptr 1 0,.s (.int .i64 root),.ints .u64 16 fr,.ints .u64 16 fs,.ints .u64 16 gn] 70,.own [.vec 2,.ag 3,.s (.int .i64 fu)] 96,.vec (.ae [.arr .u8 64] th) 138,.map (.arr .u8 64) m,.own [.ptr 0 0] 26,.own [.ints .u64 16 met] 47,.own [.fn 42 [.ptr 8 0]] 82,.own [.fn 62 [.ptr 4 0,.ptr 5 0,.ptr 6 0,.ptr 7 0]] 107,.own [.ints .u64 16 out] 47] (.s (.aZ .i64 0))):=by kernel_rfl
theorem aj3{ws:Ws}(hw:Bx.okW ws){n:Int}(hn:0≤n∧n<1024)(h:Bx.lG ws n=false):iV (Bx.cK ws n)=iV ws+1:=by
 have hb:Bx.bit ws n.toNat=false:=by
  rw[Bx.ae4 hw,decide_eq_true hn,Bool.true_and]at h;exact h
 obtain⟨_,h2⟩:=Bx.fN hw n
 unfold iV Bx.ajp
 have key:∀m,m≤1024→(Bx.fr (Bx.bit (Bx.cK ws n)) m).length=(Bx.fr (Bx.bit ws) m).length+(if n.toNat<m then 1 else 0):=by
  intro m
  induction m with
  |zero=>intro _;rfl
  |succ m ih=>
   intro hm
   rw[Bx.qp,Bx.qp,List.length_append,List.length_append,ih (by omega),h2 m (by omega)]
   have hd:decide (n=(m:Int))=decide (n.toNat=m):=by
    by_cases e:n.toNat=m
    ·rw[decide_eq_true e,decide_eq_true (by omega)]
    ·rw[decide_eq_false e,decide_eq_false (by omega)]
   rw[hd]
   by_cases e:n.toNat=m
   ·subst e
    have c1:¬n.toNat<n.toNat:=by omega
    have c2:n.toNat<n.toNat+1:=by omega
    rw[hb,decide_eq_true rfl,if_neg c1,if_pos c2]
    rfl
   ·rw[decide_eq_false e,Bool.or_false]
    by_cases e2:n.toNat<m
    ·have c2:n.toNat<m+1:=by omega
     rw[if_pos e2,if_pos c2];omega
    ·have c2:¬n.toNat<m+1:=by omega
     rw[if_neg e2,if_neg c2];omega
 have:=key 1024 (Nat.le_refl _)
 have c:n.toNat<1024:=by omega
 rw[this,if_pos c]
theorem aqr(ws:Ws):iV ws≤1024:=Bx.agQ _ _
theorem aj4{th:Th}{m:As}{fu n deep:Int}(hd:Ds.bI th m fu)(h:fG th m n deep=0):0≤n∧n<1024:=by
 have hp:Ds.s9 th n=true:=by
  unfold fG at h
  split at h
  ·cases h
  ·split at h
   ·rename_i hg
    unfold Ds.iM at hg
    split at hg
    ·assumption
    ·cases hg
   ·rename_i hg;exact absurd h hg
 obtain⟨a,b⟩:=Ds.fy.1 hp
 have:=hd.1.1
 unfold Ds.wb at b
 have e:((th.length:Int)).tdiv 4=(th.length:Int) / 4:=Int.tdiv_eq_ediv_of_nonneg (by omega)
 rw[e]at b
 omega
theorem vU{σ:Type}{g:Ws→σ→Int→Ws×σ×Int}{I:Ws→σ→Prop}(hg:∀met out n,I met out→I (g met out n).1 (g met out n).2.1):∀(l:List Br) (met:Ws) (out:σ),I met out→I (qF g l met out).1 (qF g l met out).2.1
 |[],met,out,h=>h
 |b::r,met,out,h=>by
  rw[qF]
  split
  ·exact hg _ _ _ h
  ·exact vU hg r _ _ (hg _ _ _ h)
theorem afj(from_:ByteArray){th:Th}{m:As}{fu n deep:Int}{met:Ws}{out:List En}(hd:Ds.bI th m fu)(h:fG th m n deep=0)(hw:Bx.okW met)(h3:Bx.lG met n=false)(ho:List.length (α:=En) out≤126*iV met):
 Bx.okW (Bx.cK met n)∧List.length (α:=En) (qG from_ out n (bK th m n deep))≤126*iV (Bx.cK met n):=by
 refine⟨(Bx.fN hw n).1, ?_⟩
 rw[aj3 hw (aj4 hd h) h3]
 unfold qG
 rw[List.length_append]
 have:=filter_le (ow from_) (bK th m n deep)
 obtain⟨_,n1,_⟩:=eu h
 omega
theorem afk(from_:ByteArray){th:Th}{m:As}{fu:Int}(hd:Ds.bI th m fu):∀(f:Nat) (deep:Int) (met:Ws) (out:List En) (n:Int),Bx.okW met→List.length (α:=En) out≤126*iV met→
 Bx.okW (dt (qG from_) th m f deep met out n).1∧List.length (α:=En) (dt (qG from_) th m f deep met out n).2.1≤126*iV (dt (qG from_) th m f deep met out n).1
 |0,deep,met,out,n,hw,ho=>⟨hw,ho⟩
 |f+1,deep,met,out,n,hw,ho=>by
  rw[dt]
  split
  ·exact⟨hw,ho⟩
  ·rename_i h
   split
   ·exact⟨hw,ho⟩
   ·rename_i h3
    have h3:Bx.lG met n=false:=by simpa using h3
    exact vU (I:=fun met out=>Bx.okW met∧List.length (α:=En) out≤126*iV met) (fun met out n hi=>afk from_ hd f (deep+1) met out n hi.1 hi.2) _ _ _ (afj from_ hd (by simpa using h) hw h3 ho)
theorem afl{th:Th}{m:As}{fu n deep:Int}{met:Ws}(hd:Ds.bI th m fu)(h:fG th m n deep=0)(hw:Bx.okW met)(h3:Bx.lG met n=false)(ho:0≤0):Bx.okW (Bx.cK met n)∧0≤0:=⟨(Bx.fN hw n).1,ho⟩
theorem afm{th:Th}{m:As}{fu:Int}(hd:Ds.bI th m fu):∀(f:Nat) (deep:Int) (met:Ws) (out:Ws) (n:Int),Bx.okW met→0≤0→Bx.okW (dt nZ th m f deep met out n).1∧0≤0
 |0,deep,met,out,n,hw,ho=>⟨hw,ho⟩
 |f+1,deep,met,out,n,hw,ho=>by
  rw[dt]
  split
  ·exact⟨hw,ho⟩
  ·rename_i h
   split
   ·exact⟨hw,ho⟩
   ·rename_i h3
    have h3:Bx.lG met n=false:=by simpa using h3
    exact vU (I:=fun met out=>Bx.okW met∧0≤0) (fun met out n hi=>afm hd f (deep+1) met out n hi.1 hi.2) _ _ _ (afl hd (by simpa using h) hw h3 ho)
theorem ag3{Z:ba}:js P Z 42 sG1:=by
 refine aP Tryd.func42 (by kernel_rfl) (fun x=>Nat.le_of_ble_eq_true (by kernel_rfl)) ?_
 rintro⟨(n:Int),⟨(l:Bool),(es:List En),(bs:List Br)⟩,(out:Ws)⟩ _ X hX hz
 exact Ds.eG hz hX (by intro y hy;cases hy) (aG.Ok.cons Bx.ql.sum aG.Ok.nil) Tryd.func42 (auv n l es bs out) (bS 1 rfl (Nat.le_refl _) rfl rfl)
theorem fvL{th:Th}{m:As}{fu root:Int}{fr fs gn met:Ws}{from_:ByteArray}{out:List En}{n deep:Int}{f:Nat}{c:Ws×List En×Int}(e:dt (qG from_) th m f deep met out n=c):
 (ab2 f).fk ((th,m,fu,root,fr,fs,gn),n,deep,met,from_,out)=hVL th m fu root fr fs gn c.1++[tl from_,.own [.vec 11] eLE,.dead,.vec (.ae cE c.2.1) Lf.eE]∧(ab2 f).out ((th,m,fu,root,fr,fs,gn),n,deep,met,from_,out)=bJ c.2.2:=by
 subst e;exact⟨rfl,rfl⟩
theorem ag4{f:Nat}(h:js P Bx.bT fW1 (ab2 f)):(zN f).Ok P Bx.bT:=aG.Ok.cons (nK.sum mNo) (aG.Ok.cons Bx.zz.sum (aG.Ok.cons Bx.ql.sum (aG.Ok.cons (aj2.sum mL1) (aG.Ok.cons (h.sum amR) aG.Ok.nil))))
theorem aj5{L:List ad}(h:L.length=11):∀y∈afh,L.length≤y.2.m:=fun y hy=>by
 simp only[afh,List.mem_singleton]at hy;subst hy;exact Nat.le_of_eq h
theorem aor{f:Nat}(T:(zN f).Ok P Bx.bT){th:Th}{m:As}{fu root:Int}{fr fs gn:Ws}{n deep:Int}{gT:Ws}{from_:ByteArray}{iW:List En}(hd:Ds.bI th m fu)(h1:1≤deep∧deep≤17)(h2:18≤deep+((f+1:Nat):Int))
 {X:Ctx} (hX:X.H=lk ((ab2 (f+1)).heap ((th,m,fu,root,fr,fs,gn),n,deep,gT,from_,iW))) (hz:dM Bx.bT X) (h:fG th m n deep=0):
 ∀(j k:Nat) (met:Ws) (out:List En),k+j=(aN th m n deep).length→Bx.okW met→List.length (α:=En) out≤126*iV met→dt (qG from_) th m (f+1) deep gT iW n=qF (dt (qG from_) th m f (deep+1)) ((aN th m n deep).drop k) met out→
    Safe P fW1 X (kb (ab2 (f+1)) ((th,m,fu,root,fr,fs,gn),n,deep,gT,from_,iW)) (ass th m fu root fr fs gn met from_ out (aN th m n deep) deep (k:Int))
 |0,k,met,out,hk,hw,ho,e=>by
  rw[List.drop_of_length_le (by omega)]at e
  obtain⟨f1,f2⟩:=fvL (fu:=fu) (root:=root) (fr:=fr) (fs:=fs) (gn:=gn) e
  exact Ds.eG hz hX (aj5 rfl) T Tryd.func62 (aop f th m fu root fr fs gn met from_ out (aN th m n deep) deep k) ⟨fun h=>absurd (of_decide_eq_true h) (by omega),fun _=>bS 11 rfl (Nat.le_refl _) f2 f1⟩
 |j+1,k,met,out,hk,hw,ho,e=>by
  obtain⟨_,_,n2,_,_,n5,_⟩:=eu h
  rw[drop_cons dB (by omega),qF]at e
  have pg:=rM h k
  obtain⟨i1,i2⟩:=afk from_ hd f (deep+1) met out ((aN th m n deep).getD k dB).2.1 hw ho
  refine Ds.eG hz hX (aj5 rfl) T Tryd.func62 (aop f th m fu root fr fs gn met from_ out (aN th m n deep) deep k) ⟨fun _=>⟨by omega,by omega,zX (by omega) (by omega),rfl,rfl,hd,pg,⟨by omega,by omega⟩,by omega,hw,ho,fun h4=> ?_,fun h4=>⟨⟨by omega,by omega⟩, ?_⟩⟩,fun h=>absurd (of_decide_eq_false h) (by omega)⟩
  ·have h4:(dt (qG from_) th m f (deep+1) met out ((aN th m n deep).getD k dB).2.1).2.2≠0:=bne_iff_ne.1 h4
   rw[if_pos h4]at e
   obtain⟨f1,f2⟩:=fvL (fu:=fu) (root:=root) (fr:=fr) (fs:=fs) (gn:=gn) e
   exact bS 11 rfl (Nat.le_refl _) f2 f1
  ·have h4:¬(dt (qG from_) th m f (deep+1) met out ((aN th m n deep).getD k dB).2.1).2.2≠0:=fun hh=>Bool.false_ne_true (h4.symm.trans (bne_iff_ne.2 hh))
   rw[if_neg h4]at e
   exact aor T hd h1 h2 hX hz h j (k+1) _ _ (by omega) i1 i2 e
theorem x9:∀f,js P Bx.bT fW1 (ab2 f)
 |0=>by
  rintro⟨⟨(th:Th),(m:As),(fu:Int),(root:Int),(fr:Ws),(fs:Ws),(gn:Ws)⟩,(n:Int),(deep:Int),(met:Ws),(from_:ByteArray),(out:List En)⟩ ⟨_,_,(h1:1≤deep∧deep≤17),(h2:18≤deep+((0:Nat):Int)),_⟩
  omega
 |f+1=>by
  have T:=ag4 (x9 f)
  refine aP Tryd.func62 (by kernel_rfl) (fun x=>Nat.le_of_ble_eq_true (by kernel_rfl)) ?_
  rintro⟨⟨(th:Th),(m:As),(fu:Int),(root:Int),(fr:Ws),(fs:Ws),(gn:Ws)⟩,(n:Int),(deep:Int),(gT:Ws),(from_:ByteArray),(iW:List En)⟩ ⟨(hd:Ds.bI th m fu),(hn:0≤n∧n≤65536),(h1:1≤deep∧deep≤17),(h2:18≤deep+((f+1:Nat):Int)),(hw:Bx.okW gT),(ho:List.length (α:=En) iW≤126*iV gT),_⟩ X hX hz
  refine pr 10 (c:=start Tryd.f62 [bJ n,bJ deep,.ptr 4 0,.ptr 5 0,.ptr 6 0,.ptr 7 0] (hVL th m fu root fr fs gn gT++[tl from_,.own [.vec 11] eLE,.dead,.vec (.ae cE iW) Lf.eE])) rfl ?_
  refine Ds.eG hz hX (aj5 rfl) T Tryd.func62 (ast f th m fu root fr fs gn gT from_ iW n deep) ⟨rfl,rfl,hd,zX (by omega) (by omega),fun h=> ?_,fun h=>⟨fun h3=> ?_,fun h3=> ?_⟩⟩
  ·have h:fG th m n deep≠0:=by simpa using h
   obtain⟨f1,f2⟩:=fvL (fu:=fu) (root:=root) (fr:=fr) (fs:=fs) (gn:=gn) (show dt (qG from_) th m (f+1) deep gT iW n=(gT,iW,fG th m n deep)by rw[dt,if_pos h])
   exact bS 11 rfl (Nat.le_refl _) f2 f1
  ·have h:fG th m n deep=0:=by simpa using h
   obtain⟨f1,f2⟩:=fvL (fu:=fu) (root:=root) (fr:=fr) (fs:=fs) (gn:=gn) (show dt (qG from_) th m (f+1) deep gT iW n=(gT,iW,4)by rw[dt,if_neg (by rw[h];simp),if_pos h3])
   exact bS 11 rfl (Nat.le_refl _) f2 f1
  ·have h:fG th m n deep=0:=by simpa using h
   obtain⟨_,n1,n2,_,_,_,_⟩:=eu h
   have e:dt (qG from_) th m (f+1) deep gT iW n=qF (dt (qG from_) th m f (deep+1)) (aN th m n deep) (Bx.cK gT n) ((qG from_) iW n (bK th m n deep)):=by rw[dt,if_neg (by rw[h];simp),if_neg (by rw[h3];simp)]
   obtain⟨i1,i2⟩:=afj from_ hd h hw h3 ho
   exact⟨rfl,rfl,by omega,by have:=aqr gT;omega,aor T hd h1 h2 hX hz h _ 0 _ _ (Nat.zero_add _) i1 i2 (by rw[List.drop_zero];exact e)⟩
theorem fvG{th:Th}{m:As}{fu root:Int}{fr fs gn met:Ws}{out:Ws}{n deep:Int}{f:Nat}{c:Ws×Ws×Int}(e:dt nZ th m f deep met out n=c):
 (ab3 f).fk ((th,m,fu,root,fr,fs,gn),n,deep,met,out)=hVG th m fu root fr fs gn c.1++[.own [.ints .u64 16 c.2.1] eSt]∧(ab3 f).out ((th,m,fu,root,fr,fs,gn),n,deep,met,out)=bJ c.2.2:=by
 subst e;exact⟨rfl,rfl⟩
theorem ag5{f:Nat}(h:js P Bx.bT fW1 (ab3 f)):(zO f).Ok P Bx.bT:=aG.Ok.cons (nK.sum mNo) (aG.Ok.cons Bx.zz.sum (aG.Ok.cons Bx.ql.sum (aG.Ok.cons (ag3.sum mG1) (aG.Ok.cons (h.sum amV) aG.Ok.nil))))
theorem aj6{L:List ad}(h:L.length=9):∀y∈afi,L.length≤y.2.m:=fun y hy=>by
 simp only[afi,List.mem_singleton]at hy;subst hy;exact Nat.le_of_eq h
theorem aos{f:Nat}(T:(zO f).Ok P Bx.bT){th:Th}{m:As}{fu root:Int}{fr fs gn:Ws}{n deep:Int}{gT:Ws}{iW:Ws}(hd:Ds.bI th m fu)(h1:1≤deep∧deep≤17)(h2:18≤deep+((f+1:Nat):Int))
 {X:Ctx} (hX:X.H=lk ((ab3 (f+1)).heap ((th,m,fu,root,fr,fs,gn),n,deep,gT,iW))) (hz:dM Bx.bT X) (h:fG th m n deep=0):
 ∀(j k:Nat) (met:Ws) (out:Ws),k+j=(aN th m n deep).length→Bx.okW met→0≤0→dt nZ th m (f+1) deep gT iW n=qF (dt nZ th m f (deep+1)) ((aN th m n deep).drop k) met out→
    Safe P fW1 X (kb (ab3 (f+1)) ((th,m,fu,root,fr,fs,gn),n,deep,gT,iW)) (asu th m fu root fr fs gn met out (aN th m n deep) deep (k:Int))
 |0,k,met,out,hk,hw,ho,e=>by
  rw[List.drop_of_length_le (by omega)]at e
  obtain⟨f1,f2⟩:=fvG (fu:=fu) (root:=root) (fr:=fr) (fs:=fs) (gn:=gn) e
  exact Ds.eG hz hX (aj6 rfl) T Tryd.func62 (aoq f th m fu root fr fs gn met out (aN th m n deep) deep k) ⟨fun h=>absurd (of_decide_eq_true h) (by omega),fun _=>bS 9 rfl (Nat.le_refl _) f2 f1⟩
 |j+1,k,met,out,hk,hw,ho,e=>by
  obtain⟨_,_,n2,_,_,n5,_⟩:=eu h
  rw[drop_cons dB (by omega),qF]at e
  have pg:=rM h k
  obtain⟨i1,i2⟩:=afm hd f (deep+1) met out ((aN th m n deep).getD k dB).2.1 hw ho
  refine Ds.eG hz hX (aj6 rfl) T Tryd.func62 (aoq f th m fu root fr fs gn met out (aN th m n deep) deep k) ⟨fun _=>⟨by omega,by omega,zX (by omega) (by omega),rfl,rfl,hd,pg,⟨by omega,by omega⟩,by omega,hw,ho,fun h4=> ?_,fun h4=>⟨⟨by omega,by omega⟩, ?_⟩⟩,fun h=>absurd (of_decide_eq_false h) (by omega)⟩
  ·have h4:(dt nZ th m f (deep+1) met out ((aN th m n deep).getD k dB).2.1).2.2≠0:=bne_iff_ne.1 h4
   rw[if_pos h4]at e
   obtain⟨f1,f2⟩:=fvG (fu:=fu) (root:=root) (fr:=fr) (fs:=fs) (gn:=gn) e
   exact bS 9 rfl (Nat.le_refl _) f2 f1
  ·have h4:¬(dt nZ th m f (deep+1) met out ((aN th m n deep).getD k dB).2.1).2.2≠0:=fun hh=>Bool.false_ne_true (h4.symm.trans (bne_iff_ne.2 hh))
   rw[if_neg h4]at e
   exact aos T hd h1 h2 hX hz h j (k+1) _ _ (by omega) i1 i2 e
theorem ya:∀f,js P Bx.bT fW1 (ab3 f)
 |0=>by
  rintro⟨⟨(th:Th),(m:As),(fu:Int),(root:Int),(fr:Ws),(fs:Ws),(gn:Ws)⟩,(n:Int),(deep:Int),(met:Ws),(out:Ws)⟩ ⟨_,_,(h1:1≤deep∧deep≤17),(h2:18≤deep+((0:Nat):Int)),_⟩
  omega
 |f+1=>by
  have T:=ag5 (ya f)
  refine aP Tryd.func62 (by kernel_rfl) (fun x=>Nat.le_of_ble_eq_true (by kernel_rfl)) ?_
  rintro⟨⟨(th:Th),(m:As),(fu:Int),(root:Int),(fr:Ws),(fs:Ws),(gn:Ws)⟩,(n:Int),(deep:Int),(gT:Ws),(iW:Ws)⟩ ⟨(hd:Ds.bI th m fu),(hn:0≤n∧n≤65536),(h1:1≤deep∧deep≤17),(h2:18≤deep+((f+1:Nat):Int)),(hw:Bx.okW gT),(ho:0≤0),_⟩ X hX hz
  refine Ds.eG hz hX (aj6 rfl) T Tryd.func62 (asv f th m fu root fr fs gn gT iW n deep) ⟨rfl,rfl,hd,zX (by omega) (by omega),fun h=> ?_,fun h=>⟨fun h3=> ?_,fun h3=> ?_⟩⟩
  ·have h:fG th m n deep≠0:=by simpa using h
   obtain⟨f1,f2⟩:=fvG (fu:=fu) (root:=root) (fr:=fr) (fs:=fs) (gn:=gn) (show dt nZ th m (f+1) deep gT iW n=(gT,iW,fG th m n deep)by rw[dt,if_pos h])
   exact bS 9 rfl (Nat.le_refl _) f2 f1
  ·have h:fG th m n deep=0:=by simpa using h
   obtain⟨f1,f2⟩:=fvG (fu:=fu) (root:=root) (fr:=fr) (fs:=fs) (gn:=gn) (show dt nZ th m (f+1) deep gT iW n=(gT,iW,4)by rw[dt,if_neg (by rw[h];simp),if_pos h3])
   exact bS 9 rfl (Nat.le_refl _) f2 f1
  ·have h:fG th m n deep=0:=by simpa using h
   obtain⟨_,n1,n2,_,_,_,_⟩:=eu h
   have e:dt nZ th m (f+1) deep gT iW n=qF (dt nZ th m f (deep+1)) (aN th m n deep) (Bx.cK gT n) (nZ iW n (bK th m n deep)):=by rw[dt,if_neg (by rw[h];simp),if_neg (by rw[h3];simp)]
   obtain⟨i1,i2⟩:=afl hd h hw h3 ho
   exact⟨rfl,rfl,aos T hd h1 h2 hX hz h _ 0 _ _ (Nat.zero_add _) i1 i2 (by rw[List.drop_zero];exact e)⟩
end Ts
namespace Ts
open Go Go.Sx Go.Proofs Lf
def yb{σ:Type}(on:σ→Int→List En→σ)(th:Th)(m:As)(root:Int)(out:σ):σ×Int:=if root=0 then(out,0)else((dt on th m 17 1 Bx.aJ out root).2.1,(dt on th m 17 1 Bx.aJ out root).2.2)
def lsT(th:Th)(m:As)(root:Int)(from_:ByteArray):List En:=(yb (qG from_) th m root []).1
def lsE(th:Th)(m:As)(root:Int)(from_:ByteArray):Int:=(yb (qG from_) th m root []).2
def pgT(th:Th)(m:As)(root:Int):Ws:=(yb nZ th m root Bx.aJ).1
def pgE(th:Th)(m:As)(root:Int):Int:=(yb nZ th m root Bx.aJ).2
def lsF(th:Th)(m:As)(root:Int)(from_:ByteArray):List En:=if lsE th m root from_≠0 then []else lsT th m root from_
def vV(th:Th)(m:As)(root:Int):Ws:=if pgE th m root≠0 then Bx.aJ else pgT th m root
abbrev amW:Spec XD:=⟨fun _=>[.ptr 0 0,.fn fL1 [.ptr 4 0,.ptr 5 0]],fun((th,m,fu,root,fr,fs,gn),from_)=>hT th m fu root fr fs gn++[tl from_,.own [.vec 6] eLE,.vec (.ae cE []) Lf.eE],
 fun((th,m,fu,root,_),_)=>[Ds.bI th m fu,0≤root∧root≤65536],fun((th,m,fu,root,fr,fs,gn),from_)=>hT th m fu root fr fs gn++[tl from_,.own [.vec 7] eLE,.dead,.vec (.ae cE (lsT th m root from_)) Lf.eE],fun((th,m,_,root,_),from_)=>bJ (lsE th m root from_)⟩
abbrev amX:Spec XT:=⟨fun _=>[.ptr 0 0,.fn fG1 [.ptr 4 0]],fun(th,m,fu,root,fr,fs,gn)=>hT th m fu root fr fs gn++[.own [.ints .u64 16 Bx.aJ] eSt],
 fun(th,m,fu,root,_)=>[Ds.bI th m fu,0≤root∧root≤65536],fun(th,m,fu,root,fr,fs,gn)=>hT th m fu root fr fs gn++[.own [.ints .u64 16 (pgT th m root)] eSt],fun(th,m,_,root,_)=>bJ (pgE th m root)⟩
def aqs:aG:=[(fW1,dm (ab2 17) amR)]
def aqt:aG:=[(fW1,dm (ab3 17) amV)]
theorem asw(th:Th)(m:As)(fu root:Int)(fr fs gn:Ws)(from_:ByteArray):run P aqs.sum Tryd.f40 [] (start Tryd.f40 [.ptr 0 0,.fn fL1 [.ptr 4 0,.ptr 5 0]] (hT th m fu root fr fs gn++[tl from_,.own [.vec 7] eLE,.dead,.vec (.ae cE []) Lf.eE]))=
 Tree.ite (root==0) (.ret [.own [.ptr 1 0,.s (.int .i64 root),.ints .u64 16 fr,.ints .u64 16 fs,.ints .u64 16 gn] 70,.own [.vec 2,.ag 3,.s (.int .i64 fu)] 96,.vec (.ae [.arr .u8 64] th) 138,.map (.arr .u8 64) m,.own [.s (.str from_)] 9,.own [.vec 7] 29,.dead,.vec (.ae [.str,.str] []) 34,.own [.ptr 0 0] 26,.own [.fn 41 [.ptr 4 0,.ptr 5 0]] 82,.own [.ints .u64 16 (List.replicate 16 0)] 47,.own [.fn 62 [.ptr 8 0,.ptr 10 0,.ptr 9 0,.ptr 11 0]] 107] (.s (.aZ .i64 0))) (.need (bu (some [AV.s (.int .i64 root),.s (.int .i64 1),.ptr 4 0,.ptr 5 0,.ptr 6 0,.ptr 7 0])) (.need (bu (some [ad.own [.ptr 1 0,.s (.int .i64 root),.ints .u64 16 fr,.ints .u64 16 fs,.ints .u64 16 gn] 70,.own [.vec 2,.ag 3,.s (.int .i64 fu)] 96,.vec (.ae [.arr .u8 64] th) 138,.map (.arr .u8 64) m,.own [.ptr 0 0] 26,.own [.ints .u64 16 (List.replicate 16 0)] 47,.own [.fn 41 [.ptr 8 0,.ptr 9 0]] 82,.own [.fn 62 [.ptr 4 0,.ptr 5 0,.ptr 6 0,.ptr 7 0]] 107,.own [.s (.str from_)] 9,.own [.vec 10] 29,.vec (.ae [.str,.str] []) 34])) (.need (Ds.bI th m fu) (.need ((0:Int)≤root∧root≤65536) (.need ((1:Int)≤1∧(1:Int)≤17) (.need ((18:Int)≤1+(↑(17:Nat):Int)) (.need (Bx.okW (List.replicate 16 0)) (.need ((0:Nat)≤(126:Nat)*0) (.ret [.own [.ptr 1 0,.s (.int .i64 root),.ints .u64 16 fr,.ints .u64 16 fs,.ints .u64 16 gn] 70,.own [.vec 2,.ag 3,.s (.int .i64 fu)] 96,.vec (.ae [.arr .u8 64] th) 138,.map (.arr .u8 64) m,.own [.s (.str from_)] 9,.own [.vec 12] 29,.dead,.dead,.own [.ptr 0 0] 26,.own [.fn 41 [.ptr 4 0,.ptr 5 0]] 82,.own [.ints .u64 16 (amO th m 17 1 (List.replicate 16 0) from_ [] root)] 47,.own [.fn 62 [.ptr 8 0,.ptr 10 0,.ptr 9 0,.ptr 11 0]] 107,.vec (.ae [.str,.str] (amP th m 17 1 (List.replicate 16 0) from_ [] root)) 34] (.s (.int .i64 (amQ th m 17 1 (List.replicate 16 0) from_ [] root)))))))))))):=by kernel_rfl
theorem asx(th:Th)(m:As)(fu root:Int)(fr fs gn:Ws):run P aqt.sum Tryd.f40 [] (start Tryd.f40 [.ptr 0 0,.fn fG1 [.ptr 4 0]] (hT th m fu root fr fs gn++[.own [.ints .u64 16 Bx.aJ] eSt]))=
 Tree.ite (root==0) (.ret [.own [.ptr 1 0,.s (.int .i64 root),.ints .u64 16 fr,.ints .u64 16 fs,.ints .u64 16 gn] 70,.own [.vec 2,.ag 3,.s (.int .i64 fu)] 96,.vec (.ae [.arr .u8 64] th) 138,.map (.arr .u8 64) m,.own [.ints .u64 16 Bx.aJ] 47,.own [.ptr 0 0] 26,.own [.fn 42 [.ptr 4 0]] 82,.own [.ints .u64 16 (List.replicate 16 0)] 47,.own [.fn 62 [.ptr 5 0,.ptr 7 0,.ptr 6 0,.ptr 8 0]] 107] (.s (.aZ .i64 0))) (.need (bu (some [AV.s (.int .i64 root),.s (.int .i64 1),.ptr 4 0,.ptr 5 0,.ptr 6 0,.ptr 7 0])) (.need (bu (some [ad.own [.ptr 1 0,.s (.int .i64 root),.ints .u64 16 fr,.ints .u64 16 fs,.ints .u64 16 gn] 70,.own [.vec 2,.ag 3,.s (.int .i64 fu)] 96,.vec (.ae [.arr .u8 64] th) 138,.map (.arr .u8 64) m,.own [.ptr 0 0] 26,.own [.ints .u64 16 (List.replicate 16 0)] 47,.own [.fn 42 [.ptr 8 0]] 82,.own [.fn 62 [.ptr 4 0,.ptr 5 0,.ptr 6 0,.ptr 7 0]] 107,.own [.ints .u64 16 Bx.aJ] 47])) (.need (Ds.bI th m fu) (.need ((0:Int)≤root∧root≤65536) (.need ((1:Int)≤1∧(1:Int)≤17) (.need ((18:Int)≤1+(↑(17:Nat):Int)) (.need (Bx.okW (List.replicate 16 0)) (.need ((0:Nat)≤0) (.ret [.own [.ptr 1 0,.s (.int .i64 root),.ints .u64 16 fr,.ints .u64 16 fs,.ints .u64 16 gn] 70,.own [.vec 2,.ag 3,.s (.int .i64 fu)] 96,.vec (.ae [.arr .u8 64] th) 138,.map (.arr .u8 64) m,.own [.ints .u64 16 (amT th m 17 1 (List.replicate 16 0) Bx.aJ root)] 47,.own [.ptr 0 0] 26,.own [.fn 42 [.ptr 4 0]] 82,.own [.ints .u64 16 (amS th m 17 1 (List.replicate 16 0) Bx.aJ root)] 47,.own [.fn 62 [.ptr 5 0,.ptr 7 0,.ptr 6 0,.ptr 8 0]] 107] (.s (.int .i64 (amU th m 17 1 (List.replicate 16 0) Bx.aJ root)))))))))))):=by kernel_rfl
abbrev sLs:Spec XD:=⟨fun(_,from_)=>[.ptr 0 0,.s (.str from_)],fun((th,m,fu,root,fr,fs,gn),_)=>hT th m fu root fr fs gn,fun((th,m,fu,root,_),_)=>[Ds.bI th m fu,0≤root∧root≤65536],
 fun((th,m,fu,root,fr,fs,gn),from_)=>hT th m fu root fr fs gn++[.vec (.ae cE (lsF th m root from_)) Lf.eE],fun((th,m,_,root,_),from_)=>.bh [.vec 4,bJ (lsE th m root from_)]⟩
abbrev sPg:Spec XT:=⟨fun _=>[.ptr 0 0],fun(th,m,fu,root,fr,fs,gn)=>hT th m fu root fr fs gn,fun(th,m,fu,root,_)=>[Ds.bI th m fu,0≤root∧root≤65536],
 fun(th,m,fu,root,fr,fs,gn)=>hT th m fu root fr fs gn,fun(th,m,_,root,_)=>.bh [.ints .u64 16 (vV th m root),bJ (pgE th m root)]⟩
def asy:List AV→RM (XD×List Nat)
 |[t,.fn _ [.ptr p 0,.ptr q 0]]=>(mT [t]).bind fun(X,σ)=>.look p fun o=>match o with
  |some (.own [.s (.str from_)] _)=>.look q fun o=>match o with
   |some (.own [.vec r] _)=>.ret ((X,from_),σ++[p,q,r])
   |_=>.fail "no row"
  |_=>.fail "no text"
 |_=>.fail "walk"
def asz:List AV→RM (XT×List Nat)
 |[t,.fn _ [.ptr p 0]]=>(mT [t]).bind fun(X,σ)=>.ret (X,σ++[p])
 |_=>.fail "walk"
def aj7:aG:=[(40,dm amW asy)]
def asA:aG:=[(40,dm amX asz)]
def amY:List (Nat×Norm):=[(4,⟨[],[0,3,6],4,[(5,0,false,.ae cE [],Lf.eE)]⟩)]
noncomputable def cLs(th:Th)(m:As)(fu root:Int)(fr fs gn:Ws)(from_:ByteArray):bz:=⟨sl 17 [(0,.ptr 0 0),(3,.ptr 4 0),(6,.ptr 5 0)],hT th m fu root fr fs gn++[tl from_,.own [.vec 6] eLE,.vec (.ae cE []) Lf.eE],hr Tryd.f12 4,{}⟩
theorem auw(th:Th)(m:As)(fu root:Int)(fr fs gn:Ws)(from_:ByteArray):run P aj7.sum Tryd.f12 amY (start Tryd.f12 [.ptr 0 0,.s (.str from_)] (hT th m fu root fr fs gn))=
 Tree.at (.mk (sl 17 [(0,.ptr 0 0),(3,.ptr 4 0),(6,.ptr 5 0)]) [.own [.ptr 1 0,.s (.int .i64 root),.ints .u64 16 fr,.ints .u64 16 fs,.ints .u64 16 gn] 70,.own [.vec 2,.ag 3,.s (.int .i64 fu)] 96,.vec (.ae [.arr .u8 64] th) 138,.map (.arr .u8 64) m,.own [.s (.str from_)] 9,.own [.vec 6] 29,.vec (.ae [.str,.str] []) 34] (hr Tryd.f12 4) (.mk none false 0 [] 0)):=by kernel_rfl
theorem auy(th:Th)(m:As)(fu root:Int)(fr fs gn:Ws)(from_:ByteArray):run P aj7.sum Tryd.f12 amY (cLs th m fu root fr fs gn from_)=
 Tree.need (bu (some [AV.ptr 0 0,.fn 41 [.ptr 4 0,.ptr 5 0]])) (.need (bu (some [ad.own [.ptr 1 0,.s (.int .i64 root),.ints .u64 16 fr,.ints .u64 16 fs,.ints .u64 16 gn] 70,.own [.vec 2,.ag 3,.s (.int .i64 fu)] 96,.vec (.ae [.arr .u8 64] th) 138,.map (.arr .u8 64) m,.own [.s (.str from_)] 9,.own [.vec 6] 29,.vec (.ae [.str,.str] []) 34])) (.need (Ds.bI th m fu) (.need ((0:Int)≤root∧root≤65536) (.ite (lsE th m root from_ !=0) (.ret [.own [.ptr 1 0,.s (.int .i64 root),.ints .u64 16 fr,.ints .u64 16 fs,.ints .u64 16 gn] 70,.own [.vec 2,.ag 3,.s (.int .i64 fu)] 96,.vec (.ae [.arr .u8 64] th) 138,.map (.arr .u8 64) m,.own [.s (.str from_)] 9,.own [.vec 7] 29,.dead,.vec (.ae [.str,.str] (lsT th m root from_)) 34] (.bh [.emp,.s (.int .i64 (lsE th m root from_))])) (.ret [.own [.ptr 1 0,.s (.int .i64 root),.ints .u64 16 fr,.ints .u64 16 fs,.ints .u64 16 gn] 70,.own [.vec 2,.ag 3,.s (.int .i64 fu)] 96,.vec (.ae [.arr .u8 64] th) 138,.map (.arr .u8 64) m,.own [.s (.str from_)] 9,.own [.vec 7] 29,.dead,.vec (.ae [.str,.str] (lsT th m root from_)) 34] (.bh [.vec 7,.s (.aZ .i64 0)])))))):=by kernel_rfl
theorem auz(th:Th)(m:As)(fu root:Int)(fr fs gn:Ws):run P asA.sum Tryd.f18 [] (start Tryd.f18 [.ptr 0 0] (hT th m fu root fr fs gn))=
 Tree.need (bu (some [AV.ptr 0 0,.fn 42 [.ptr 4 0]])) (.need (some [ad.own [.ptr 1 0,.s (.int .i64 root),.ints .u64 16 fr,.ints .u64 16 fs,.ints .u64 16 gn] 70,.own [.vec 2,.ag 3,.s (.int .i64 fu)] 96,.vec (.ae [.arr .u8 64] th) 138,.map (.arr .u8 64) m,.own [.ints .u64 16 (List.replicate 16 0)] 47]=some [ad.own [.ptr 1 0,.s (.int .i64 root),.ints .u64 16 fr,.ints .u64 16 fs,.ints .u64 16 gn] 70,.own [.vec 2,.ag 3,.s (.int .i64 fu)] 96,.vec (.ae [.arr .u8 64] th) 138,.map (.arr .u8 64) m,.own [.ints .u64 16 Bx.aJ] 47]) (.need (Ds.bI th m fu) (.need ((0:Int)≤root∧root≤65536) (.ite (pgE th m root !=0) (.ret [.own [.ptr 1 0,.s (.int .i64 root),.ints .u64 16 fr,.ints .u64 16 fs,.ints .u64 16 gn] 70,.own [.vec 2,.ag 3,.s (.int .i64 fu)] 96,.vec (.ae [.arr .u8 64] th) 138,.map (.arr .u8 64) m,.own [.ints .u64 16 (List.replicate 16 0)] 47,.own [.ints .u64 16 (pgT th m root)] 47] (.bh [.ints .u64 16 (List.replicate 16 0),.s (.int .i64 (pgE th m root))])) (.ret [.own [.ptr 1 0,.s (.int .i64 root),.ints .u64 16 fr,.ints .u64 16 fs,.ints .u64 16 gn] 70,.own [.vec 2,.ag 3,.s (.int .i64 fu)] 96,.vec (.ae [.arr .u8 64] th) 138,.map (.arr .u8 64) m,.own [.ints .u64 16 (pgT th m root)] 47,.own [.ints .u64 16 (pgT th m root)] 47] (.bh [.ints .u64 16 (pgT th m root),.s (.aZ .i64 0)])))))):=by kernel_rfl
theorem aj8{th:Th}{m:As}{fu root:Int}{fr fs gn:Ws}{from_:ByteArray}{c:List En×Int}(e:c=yb (qG from_) th m root []):
 amW.fk ((th,m,fu,root,fr,fs,gn),from_)=hT th m fu root fr fs gn++[tl from_,.own [.vec 7] eLE,.dead,.vec (.ae cE c.1) Lf.eE]∧amW.out ((th,m,fu,root,fr,fs,gn),from_)=bJ c.2:=by
 subst e;exact⟨rfl,rfl⟩
theorem aj9{th:Th}{m:As}{fu root:Int}{fr fs gn:Ws}{c:Ws×Int}(e:c=yb nZ th m root Bx.aJ):
 amX.fk (th,m,fu,root,fr,fs,gn)=hT th m fu root fr fs gn++[.own [.ints .u64 16 c.1] eSt]∧amX.out (th,m,fu,root,fr,fs,gn)=bJ c.2:=by
 subst e;exact⟨rfl,rfl⟩
theorem aka:js P Bx.bT 40 amW:=by
 refine aP Tryd.func40 (by kernel_rfl) (fun x=>Nat.le_of_ble_eq_true (by kernel_rfl)) ?_
 rintro⟨⟨(th:Th),(m:As),(fu:Int),(root:Int),(fr:Ws),(fs:Ws),(gn:Ws)⟩,(from_:ByteArray)⟩ ⟨(hd:Ds.bI th m fu),(hr:0≤root∧root≤65536),_⟩ X hX hz
 refine pr 6 (c:=start Tryd.f40 [.ptr 0 0,.fn fL1 [.ptr 4 0,.ptr 5 0]] (hT th m fu root fr fs gn++[tl from_,.own [.vec 7] eLE,.dead,.vec (.ae cE []) Lf.eE])) rfl ?_
 refine Ds.eG hz hX (by intro y hy;cases hy) (aG.Ok.cons ((x9 17).sum amR) aG.Ok.nil) Tryd.func40 (asw th m fu root fr fs gn from_) ⟨fun h=> ?_,fun h=>⟨rfl,rfl,hd,hr,⟨by omega,by omega⟩,by omega,Bx.dF.1,Nat.le_refl _, ?_⟩⟩
 ·have h:root=0:=by simpa using h
  obtain⟨f1,f2⟩:=aj8 (fu:=fu) (fr:=fr) (fs:=fs) (gn:=gn) (c:=([],0)) (show _=yb (qG from_) th m root []by unfold yb;rw[if_pos h])
  exact bS 7 rfl (Nat.le_refl _) f2 f1
 ·have h:¬root=0:=by simpa using h
  obtain⟨f1,f2⟩:=aj8 (fu:=fu) (fr:=fr) (fs:=fs) (gn:=gn) (c:=((dt (qG from_) th m 17 1 Bx.aJ [] root).2.1,(dt (qG from_) th m 17 1 Bx.aJ [] root).2.2)) (show _=yb (qG from_) th m root []by unfold yb;rw[if_neg h])
  exact bS 7 rfl (Nat.le_refl _) f2 f1
theorem akb:js P Bx.bT 40 amX:=by
 refine aP Tryd.func40 (by kernel_rfl) (fun x=>Nat.le_of_ble_eq_true (by kernel_rfl)) ?_
 rintro⟨(th:Th),(m:As),(fu:Int),(root:Int),(fr:Ws),(fs:Ws),(gn:Ws)⟩ ⟨(hd:Ds.bI th m fu),(hr:0≤root∧root≤65536),_⟩ X hX hz
 refine Ds.eG hz hX (by intro y hy;cases hy) (aG.Ok.cons ((ya 17).sum amV) aG.Ok.nil) Tryd.func40 (asx th m fu root fr fs gn) ⟨fun h=> ?_,fun h=>⟨rfl,rfl,hd,hr,⟨by omega,by omega⟩,by omega,Bx.dF.1,Nat.le_refl _, ?_⟩⟩
 ·have h:root=0:=by simpa using h
  obtain⟨f1,f2⟩:=aj9 (fu:=fu) (fr:=fr) (fs:=fs) (gn:=gn) (c:=(Bx.aJ,0)) (show _=yb nZ th m root Bx.aJ by unfold yb;rw[if_pos h])
  exact bS 5 rfl (Nat.le_refl _) f2 f1
 ·have h:¬root=0:=by simpa using h
  obtain⟨f1,f2⟩:=aj9 (fu:=fu) (fr:=fr) (fs:=fs) (gn:=gn) (c:=((dt nZ th m 17 1 Bx.aJ Bx.aJ root).2.1,(dt nZ th m 17 1 Bx.aJ Bx.aJ root).2.2)) (show _=yb nZ th m root Bx.aJ by unfold yb;rw[if_neg h])
  exact bS 5 rfl (Nat.le_refl _) f2 f1
theorem amZ:js P Bx.bT 12 sLs:=by
 refine fz Tryd.func12 (by kernel_rfl) (fun x=>Nat.le_of_ble_eq_true (by kernel_rfl)) ?_
 rintro⟨⟨(th:Th),(m:As),(fu:Int),(root:Int),(fr:Ws),(fs:Ws),(gn:Ws)⟩,(from_:ByteArray)⟩ ⟨(hd:Ds.bI th m fu),(hr:0≤root∧root≤65536),_⟩ X hX hz
 have hm:∀y∈amY,(hT th m fu root fr fs gn).length≤y.2.m:=fun y hy=>by
  simp only[amY,List.mem_singleton]at hy;subst hy;exact Nat.le_refl _
 have T:aj7.Ok P Bx.bT:=aG.Ok.cons (aka.sum asy) aG.Ok.nil
 refine Ds.eG hz hX hm T Tryd.func12 (auw th m fu root fr fs gn from_) ?_
 refine Ds.eG hz hX hm T Tryd.func12 (auy th m fu root fr fs gn from_) ⟨rfl,rfl,hd,hr,fun h=> ?_,fun h=> ?_⟩
 ·have h:lsE th m root from_≠0:=bne_iff_ne.1 h
  refine ke (h:=hT th m fu root fr fs gn++[.vec (.ae cE []) Lf.eE]) ⟨[(0,.ae cE [],Lf.eE)],[0,1],4,[]⟩ rfl (Nat.le_refl _) (oq.same _) rfl ?_
  show hT th m fu root fr fs gn++[.vec (.ae cE (lsF th m root from_)) Lf.eE]=_
  unfold lsF
  rw[if_pos h];rfl
 ·have h:¬lsE th m root from_≠0:=fun hh=>Bool.false_ne_true (h.symm.trans (bne_iff_ne.2 hh))
  refine ke (h:=hT th m fu root fr fs gn++[.vec (.ae cE (lsT th m root from_)) Lf.eE]) ⟨[],[0,1],4,[]⟩ rfl (Nat.le_refl _) (oq.same _) ?_ ?_
  ·show AV.bh [.vec 4,bJ (lsE th m root from_)]=_
   rw[show lsE th m root from_=0 from Decidable.byContradiction h];rfl
  ·show hT th m fu root fr fs gn++[.vec (.ae cE (lsF th m root from_)) Lf.eE]=_
   unfold lsF
   rw[if_neg h]
theorem akc:js P Bx.bT 18 sPg:=by
 refine aP Tryd.func18 (by kernel_rfl) (fun x=>Nat.le_of_ble_eq_true (by kernel_rfl)) ?_
 rintro⟨(th:Th),(m:As),(fu:Int),(root:Int),(fr:Ws),(fs:Ws),(gn:Ws)⟩ ⟨(hd:Ds.bI th m fu),(hr:0≤root∧root≤65536),_⟩ X hX hz
 refine Ds.eG hz hX (by intro y hy;cases hy) (aG.Ok.cons (akb.sum asz) aG.Ok.nil) Tryd.func18 (auz th m fu root fr fs gn) ⟨rfl,rfl,hd,hr,fun h=> ?_,fun h=> ?_⟩
 ·have h:pgE th m root≠0:=bne_iff_ne.1 h
  refine bS (h:=hT th m fu root fr fs gn) 4 rfl (Nat.le_refl _) ?_ rfl
  show AV.bh [.ints .u64 16 (vV th m root),bJ (pgE th m root)]=_
  unfold vV
  rw[if_pos h];rfl
 ·have h:¬pgE th m root≠0:=fun hh=>Bool.false_ne_true (h.symm.trans (bne_iff_ne.2 hh))
  refine bS (h:=hT th m fu root fr fs gn) 4 rfl (Nat.le_refl _) ?_ rfl
  show AV.bh [.ints .u64 16 (vV th m root),bJ (pgE th m root)]=_
  unfold vV
  rw[if_neg h,show pgE th m root=0 from Decidable.byContradiction h];rfl
end Ts
namespace Ts
open Go Go.Sx Go.Proofs Lf
def zZ(th:Th)(free:Ws):Ws:=Bx.bY .and free (Bx.bY .andNot (Bx.cf (Ds.wb th)) (Bx.cf 2))
abbrev XO:Type:=Th×As×Int×Int×Ws
abbrev sOp:Spec XO:=⟨fun(_,_,_,root,free)=>[.ptr 0 0,bJ root,.ints .u64 16 free],fun(th,m,fu,_)=>Ds.hD th m fu,fun(th,m,fu,_)=>[Ds.bI th m fu],fun(th,m,fu,root,free)=>Ds.hD th m fu++[obT 0 root (zZ th free) Bx.aJ Bx.aJ],fun _=>.ptr 3 0⟩
def mOp:List AV→RM (XO×List Nat)
 |[d,r,.ints .u64 16 free]=>(Ds.mAs [d]).bind fun((th,m,fu),σ)=>match r.cY with
  |some (_,_,root)=>.ret ((th,m,fu,root,free),σ)
  |none=>.fail "no root"
 |_=>.fail "open"
abbrev aot:=dm sOp mOp
abbrev asB:=dm Ds.sPn Ds.mAs
abbrev asC:=bU [Bx.bo] [Bx.dO] (fun _=>[]) (fun(n,())=>(Bx.cf n,()))
abbrev aou:=bU [Bx.dO,Bx.dO] [Bx.dO] (fun _=>[]) (fun(a,b,())=>(Bx.bY .andNot a b,()))
abbrev auA:=bU [Bx.dO,Bx.dO] [Bx.dO] (fun _=>[]) (fun(a,b,())=>(Bx.bY .and a b,()))
def asD:aG:=[(45,asB),(29,asC),(23,aou),(44,auA)]
theorem auB(th:Th)(m:As)(fu root:Int)(free:Ws):run P asD.sum Tryd.f21 [] (start Tryd.f21 [.ptr 0 0,bJ root,.ints .u64 16 free] (Ds.hD th m fu))=
 Tree.need (bu (some [AV.ptr 0 0])) (.need (bu (some [ad.own [.vec 1,.ag 2,.s (.int .i64 fu)] 96,.vec (.ae [.arr .u8 64] th) 138,.map (.arr .u8 64) m])) (.need (Ds.bI th m fu) (.ret [.own [.vec 1,.ag 2,.s (.int .i64 fu)] 96,.vec (.ae [.arr .u8 64] th) 138,.map (.arr .u8 64) m,.own [.ints .u64 16 free] 47,.own [.ptr 0 0,.s (.int .i64 root),.ints .u64 16 (Bx.bY BinOp.and free (Bx.bY BinOp.andNot (Bx.cf (Ds.wb th)) (Bx.cf 2))),.ints .u64 16 (List.replicate 16 0),.ints .u64 16 (List.replicate 16 0)] 70] (.ptr 4 0)))):=by kernel_rfl
abbrev sRt:Spec XT:=⟨fun _=>[.ptr 0 0],fun(th,m,fu,root,fr,fs,gn)=>hT th m fu root fr fs gn,fun _=>[],fun(th,m,fu,root,fr,fs,gn)=>hT th m fu root fr fs gn,fun(_,_,_,root,_)=>bJ root⟩
abbrev sFs:Spec XT:=⟨fun _=>[.ptr 0 0],fun(th,m,fu,root,fr,fs,gn)=>hT th m fu root fr fs gn,fun _=>[],fun(th,m,fu,root,fr,fs,gn)=>hT th m fu root fr fs gn,fun(_,_,_,_,_,fs,_)=>.ints .u64 16 fs⟩
abbrev sFr:Spec XT:=⟨fun _=>[.ptr 0 0],fun(th,m,fu,root,fr,fs,gn)=>hT th m fu root fr fs gn,fun _=>[],fun(th,m,fu,root,fr,fs,gn)=>hT th m fu root fr fs gn,fun(_,_,_,_,fr,_)=>.ints .u64 16 fr⟩
theorem auC(th:Th)(m:As)(fu root:Int)(fr fs gn:Ws):run P (aG.sum []) Tryd.f22 [] (start Tryd.f22 [.ptr 0 0] (hT th m fu root fr fs gn))=
 Tree.ret [.own [.ptr 1 0,.s (.int .i64 root),.ints .u64 16 fr,.ints .u64 16 fs,.ints .u64 16 gn] 70,.own [.vec 2,.ag 3,.s (.int .i64 fu)] 96,.vec (.ae [.arr .u8 64] th) 138,.map (.arr .u8 64) m] (.s (.int .i64 root)):=by kernel_rfl
theorem auD(th:Th)(m:As)(fu root:Int)(fr fs gn:Ws):run P (aG.sum []) Tryd.f19 [] (start Tryd.f19 [.ptr 0 0] (hT th m fu root fr fs gn))=
 Tree.ret [.own [.ptr 1 0,.s (.int .i64 root),.ints .u64 16 fr,.ints .u64 16 fs,.ints .u64 16 gn] 70,.own [.vec 2,.ag 3,.s (.int .i64 fu)] 96,.vec (.ae [.arr .u8 64] th) 138,.map (.arr .u8 64) m,.own [.ints .u64 16 fs] 47] (.ints .u64 16 fs):=by kernel_rfl
theorem auE(th:Th)(m:As)(fu root:Int)(fr fs gn:Ws):run P (aG.sum []) Tryd.f20 [] (start Tryd.f20 [.ptr 0 0] (hT th m fu root fr fs gn))=
 Tree.ret [.own [.ptr 1 0,.s (.int .i64 root),.ints .u64 16 fr,.ints .u64 16 fs,.ints .u64 16 gn] 70,.own [.vec 2,.ag 3,.s (.int .i64 fu)] 96,.vec (.ae [.arr .u8 64] th) 138,.map (.arr .u8 64) m,.own [.ints .u64 16 fr] 47] (.ints .u64 16 fr):=by kernel_rfl
def cz(n:Int):Th:=List.replicate n.toNat (CL.d Ds.cS)
def asE:aG:=[(21,aot),(29,asC)]
theorem auF(p:Int):run P asE.sum Tryd.f10 [] (start Tryd.f10 [bJ p] []) (inl:=[31])=
 Tree.need (aD ((4:Int)*p)) (.ite (decide ((4:Int)*p<1)) (.ret [] (.bh [.s .oD,.s .oD])) (.ite (decide ((4:Int)*p>4096)) (.ret [] (.bh [.s .oD,.s .oD])) (.need ((0:Int)≤4*p) (.need ((4:Int)*p≤4*p) (.need ((4:Int)*p≤1073741824) (.need (bu (some [AV.ptr 0 0,.s (.int .i64 0),.ints .u64 16 (Bx.cf p)])) (.need (bu (some [ad.own [.vec 1,.ag 2,.s (.int .i64 (-1))] 96,.vec (.ae [.arr .u8 64] (List.replicate ((4:Int)*p).toNat (CL.d [.arr .u8 64]))) 138,.map (.arr .u8 64) []])) (.need (Ds.bI (List.replicate ((4:Int)*p).toNat (CL.d [.arr .u8 64])) [] (-1)) (.ret [.vec (.ae [.arr .u8 64] (List.replicate ((4:Int)*p).toNat (CL.d [.arr .u8 64]))) 138,.map (.arr .u8 64) [],.own [.vec 0,.ag 1,.s (.int .i64 (-1))] 96,.own [.ptr 2 0,.s (.int .i64 0),.ints .u64 16 (zZ (List.replicate ((4:Int)*p).toNat (CL.d [.arr .u8 64])) (Bx.cf p)),.ints .u64 16 Bx.aJ,.ints .u64 16 Bx.aJ] 70] (.bh [.ptr 2 0,.ptr 3 0])))))))))):=by kernel_rfl
abbrev XH:Type:=XT×ByteArray×ByteArray
def akd(th:Th)(m:As)(root:Int)(key want:ByteArray):Bool:=(gtE th m root key==0)&&(gtB th m root key&&decide (gtV th m root key=want))
abbrev sHs:Spec XH:=⟨fun(_,key,want)=>[.ptr 0 0,.s (.str key),.s (.str want)],fun((th,m,fu,root,fr,fs,gn),_)=>hT th m fu root fr fs gn,fun((th,m,fu,root,_),_)=>[Ds.bI th m fu,0≤root∧root≤65536],fun((th,m,fu,root,fr,fs,gn),_)=>hT th m fu root fr fs gn,
 fun((th,m,_,root,_),key,want)=>.s (.bool (akd th m root key want))⟩
def mGt:List AV→RM (XD×List Nat)
 |[t,.s (.str key)]=>(mT [t]).bind fun(X,σ)=>.ret ((X,key),σ)
 |_=>.fail "get"
def mHs:List AV→RM (XH×List Nat)
 |[t,.s (.str key),.s (.str want)]=>(mT [t]).bind fun(X,σ)=>.ret ((X,key,want),σ)
 |_=>.fail "has"
def asF:aG:=[(11,dm ajZ mGt)]
theorem auG(th:Th)(m:As)(fu root:Int)(fr fs gn:Ws)(key want:ByteArray):run P asF.sum Tryd.f30 [] (start Tryd.f30 [.ptr 0 0,.s (.str key),.s (.str want)] (hT th m fu root fr fs gn))=
 Tree.need (bu (some [AV.ptr 0 0,.s (.str key)])) (.need (bu (some [ad.own [.ptr 1 0,.s (.int .i64 root),.ints .u64 16 fr,.ints .u64 16 fs,.ints .u64 16 gn] 70,.own [.vec 2,.ag 3,.s (.int .i64 fu)] 96,.vec (.ae [.arr .u8 64] th) 138,.map (.arr .u8 64) m])) (.need (Ds.bI th m fu) (.need ((0:Int)≤root∧root≤65536) (.ite (gtE th m root key==0) (.ite (gtB th m root key) (.ret [.own [.ptr 1 0,.s (.int .i64 root),.ints .u64 16 fr,.ints .u64 16 fs,.ints .u64 16 gn] 70,.own [.vec 2,.ag 3,.s (.int .i64 fu)] 96,.vec (.ae [.arr .u8 64] th) 138,.map (.arr .u8 64) m] (.s (.bool (decide (gtV th m root key=want))))) (.ret [.own [.ptr 1 0,.s (.int .i64 root),.ints .u64 16 fr,.ints .u64 16 fs,.ints .u64 16 gn] 70,.own [.vec 2,.ag 3,.s (.int .i64 fu)] 96,.vec (.ae [.arr .u8 64] th) 138,.map (.arr .u8 64) m] (.s (.aI false)))) (.ret [.own [.ptr 1 0,.s (.int .i64 root),.ints .u64 16 fr,.ints .u64 16 fs,.ints .u64 16 gn] 70,.own [.vec 2,.ag 3,.s (.int .i64 fu)] 96,.vec (.ae [.arr .u8 64] th) 138,.map (.arr .u8 64) m] (.s (.aI false))))))):=by kernel_rfl
abbrev sMd:Spec Int:=⟨fun p=>[bJ p],fun _=>[],fun p=>[3≤p∧p≤250],fun p=>[Ds.obD 2 3 (-1),obT 0 0 (zZ (cz (4*p)) (Bx.cf p)) Bx.aJ Bx.aJ,.vec (.ae Ds.cS (cz (4*p))) Ds.eS,.map Ds.kS []],fun _=>.bh [.ptr 0 0,.ptr 1 0]⟩
theorem afn{Z:ba}:js P Z 21 sOp:=by
 refine aP Tryd.func21 (by kernel_rfl) (fun x=>Nat.le_of_ble_eq_true (by kernel_rfl)) ?_
 rintro⟨(th:Th),(m:As),(fu:Int),(root:Int),(free:Ws)⟩ ⟨(hd:Ds.bI th m fu),_⟩ X hX hz
 exact Ds.eG hz hX (by intro y hy;cases hy) (aG.Ok.cons (Ds.arw.sum Ds.mAs) (aG.Ok.cons Bx.vu.sum (aG.Ok.cons Bx.zC.sum (aG.Ok.cons Bx.al4.sum aG.Ok.nil)))) Tryd.func21 (auB th m fu root free) ⟨rfl,rfl,hd,bS 3 rfl (Nat.le_refl _) rfl rfl⟩
theorem afo{Z:ba}:js P Z 22 sRt:=by
 refine aP Tryd.func22 (by kernel_rfl) (fun x=>Nat.le_of_ble_eq_true (by kernel_rfl)) ?_
 rintro⟨(th:Th),(m:As),(fu:Int),(root:Int),(fr:Ws),(fs:Ws),(gn:Ws)⟩ _ X hX hz
 exact Ds.eG hz hX (by intro y hy;cases hy) aG.Ok.nil Tryd.func22 (auC th m fu root fr fs gn) (bS 4 rfl (Nat.le_refl _) rfl rfl)
theorem ake{Z:ba}:js P Z 19 sFs:=by
 refine aP Tryd.func19 (by kernel_rfl) (fun x=>Nat.le_of_ble_eq_true (by kernel_rfl)) ?_
 rintro⟨(th:Th),(m:As),(fu:Int),(root:Int),(fr:Ws),(fs:Ws),(gn:Ws)⟩ _ X hX hz
 exact Ds.eG hz hX (by intro y hy;cases hy) aG.Ok.nil Tryd.func19 (auD th m fu root fr fs gn) (bS 4 rfl (Nat.le_refl _) rfl rfl)
theorem afp{Z:ba}:js P Z 20 sFr:=by
 refine aP Tryd.func20 (by kernel_rfl) (fun x=>Nat.le_of_ble_eq_true (by kernel_rfl)) ?_
 rintro⟨(th:Th),(m:As),(fu:Int),(root:Int),(fr:Ws),(fs:Ws),(gn:Ws)⟩ _ X hX hz
 exact Ds.eG hz hX (by intro y hy;cases hy) aG.Ok.nil Tryd.func20 (auE th m fu root fr fs gn) (bS 4 rfl (Nat.le_refl _) rfl rfl)
theorem afq{Z:ba}:js P Z 10 sMd:=by
 refine aP Tryd.func10 (by kernel_rfl) (fun x=>Nat.le_of_ble_eq_true (by kernel_rfl)) ?_
 rintro(p:Int) ⟨(hp:3≤p∧p≤250),_⟩ X hX hz
 refine Ds.eG hz hX (by intro y hy;cases hy) (aG.Ok.cons (afn.sum mOp) (aG.Ok.cons Bx.vu.sum aG.Ok.nil)) Tryd.func10 (auF p) ⟨zX (by omega) (by omega),fun h=> ?_,fun h=>⟨fun h2=> ?_,fun h2=>⟨by omega,by omega,by omega,rfl,rfl, ?_, ?_⟩⟩⟩
 ·have:=of_decide_eq_true h;omega
 ·have:=of_decide_eq_true h2;omega
 ·exact Ds.aiv (by omega)
 ·exact bS 0 rfl (Nat.le_refl _) rfl rfl
theorem ab4{Z:ba}:js P Z 30 sHs:=by
 refine aP Tryd.func30 (by kernel_rfl) (fun x=>Nat.le_of_ble_eq_true (by kernel_rfl)) ?_
 rintro⟨⟨(th:Th),(m:As),(fu:Int),(root:Int),(fr:Ws),(fs:Ws),(gn:Ws)⟩,(key:ByteArray),(want:ByteArray)⟩ ⟨(hd:Ds.bI th m fu),(hr:0≤root∧root≤65536),_⟩ X hX hz
 have fin:∀b,akd th m root key want=b→sHs.out ((th,m,fu,root,fr,fs,gn),key,want)=.s (.bool b):=fun b e=>by subst e;rfl
 refine Ds.eG hz hX (by intro y hy;cases hy) (aG.Ok.cons (aqq.sum mGt) aG.Ok.nil) Tryd.func30 (auG th m fu root fr fs gn key want) ⟨rfl,rfl,hd,hr,fun h=>⟨fun h2=> ?_,fun h2=> ?_⟩,fun h=> ?_⟩
 ·exact bS 4 rfl (Nat.le_refl _) (fin _ (by unfold akd;rw[h,h2];rfl)) rfl
 ·exact bS 4 rfl (Nat.le_refl _) (fin _ (by unfold akd;rw[h,h2];rfl)) rfl
 ·exact bS 4 rfl (Nat.le_refl _) (fin _ (by unfold akd;rw[h];rfl)) rfl
end Ts
namespace Ts
open Go Go.Sx Go.Proofs Lf
def mPt:List AV→RM (XK×List Nat)
 |[t,.s (.str key),.s (.str val)]=>(mT [t]).bind fun(X,σ)=>.ret ((X,key,val),σ)
 |_=>.fail "put"
abbrev akf:=dm ajX mPt
abbrev akg:=dm ajY mGt
abbrev asG:=dm sHs mHs
abbrev aov:=dm sRt mT
abbrev asH:=dm sFs mT
abbrev aow:=dm sFr mT
def mMd:List AV→RM (Int×List Nat)
 |[p]=>match p.cY with
  |some (_,_,p)=>.ret (p,[])
  |none=>.fail "made"
 |_=>.fail "made"
abbrev aox:=dm sMd mMd
def lK:aG:=[(10,aox),(24,akf),(25,akg),(30,asG),(22,aov),(20,aow),(35,amc)]
def sP:List (Nat×Norm):=[(iT+2004,⟨[],[0,2,9,10],0,[]⟩),(iT+2009,⟨[],[0,2,14,15],0,[]⟩),(iT+2014,⟨[],[0,2,19,20],0,[]⟩),(iT+2019,⟨[],[0,2,24,25],0,[]⟩),(iT+2024,⟨[],[0,2,29,30],0,[]⟩),(iT+2029,⟨[],[0,2,34,35],0,[]⟩),(iT+2035,⟨[],[0,2,40,41],0,[]⟩),(iT+2040,⟨[],[0,2,45,46],0,[]⟩),(iT+2045,⟨[],[0,2,50,51],0,[]⟩),(iT+2050,⟨[],[0,2,55,56],0,[]⟩),(iT+4001,⟨[],[0,60],0,[]⟩)]
noncomputable def asI:bz:=Sx.start Tryd.f8 [] []
theorem asJ:run (P) (lK.sum) (Tryd.f8) (sP) asI ([])=
 Tree.need (bu (some [AV.s (.int .i64 8)])) (.need aez (.need ((3:Int)≤8∧(8:Int)≤250) (.at (.mk (sl 63 [(0,.s (.bool false)),(2,.ptr 0 0),(9,.s (.bool false)),(10,.ptr 0 0)]) [.own [.ptr 1 0,.s (.int .i64 0),.ints .u64 16 (zZ (cz ((4:Int)*8)) (Bx.cf 8)),.ints .u64 16 Bx.aJ,.ints .u64 16 Bx.aJ] 70,.own [.vec 2,.ag 3,.s (.int .i64 (-1))] 96,.vec (.ae [.arr .u8 64] (cz ((4:Int)*8))) 138,.map (.arr .u8 64) []] (wa Tryd.f8 2 4) (.mk none false 0 [] 2))))):=by kernel_rfl
noncomputable def gN:Ws:=zZ (cz ((4:Int)*(8:Int))) (Bx.cf (8:Int))
noncomputable def asK:bz:=bz.mk (sl 63 [(0,.s (.bool false)),(2,.ptr 0 0),(9,.s (.bool false)),(10,.ptr 0 0)]) [.own [.ptr 1 0,.s (.int .i64 0),.ints .u64 16 gN,.ints .u64 16 Bx.aJ,.ints .u64 16 Bx.aJ] 70,.own [.vec 2,.ag 3,.s (.int .i64 (-1))] 96,.vec (.ae [.arr .u8 64] (cz ((4:Int)*8))) 138,.map (.arr .u8 64) []] (wa Tryd.f8 2 4) (.mk none false 0 [] 2)
theorem asL:run (P) (lK.sum) (Tryd.f8) (sP) asK ([])=
 Tree.ite false (.ret [.own [.ptr 1 0,.s (.int .i64 0),.ints .u64 16 gN,.ints .u64 16 Bx.aJ,.ints .u64 16 Bx.aJ] 70,.own [.vec 2,.ag 3,.s (.int .i64 (-1))] 96,.vec (.ae [.arr .u8 64] (cz ((4:Int)*8))) 138,.map (.arr .u8 64) []] (.s (.aI false))) (.need (bu (some [AV.ptr 0 0,.s (.str (ByteArray.mk #[(97:UInt8)])),.s (.str (ByteArray.mk #[(49:UInt8)]))])) (.need (bu (some [ad.own [.ptr 1 0,.s (.int .i64 0),.ints .u64 16 gN,.ints .u64 16 Bx.aJ,.ints .u64 16 Bx.aJ] 70,.own [.vec 2,.ag 3,.s (.int .i64 (-1))] 96,.vec (.ae [.arr .u8 64] (cz ((4:Int)*8))) 138,.map (.arr .u8 64) []])) (.need (Ds.bI (cz ((4:Int)*8)) [] (-1)) (.need (Bx.okW gN) (.need ((0:Int)≤0∧(0:Int)≤65536) (.ite false (.ret [.own [.ptr 1 0,.s (.int .i64 2),.ints .u64 16 (op2 (cz ((4:Int)*8)) (ByteArray.mk #[(97:UInt8)]) (some (ByteArray.mk #[(49:UInt8)])) [] (-1) 0 gN Bx.aJ Bx.aJ),.ints .u64 16 (op3 (cz ((4:Int)*8)) (ByteArray.mk #[(97:UInt8)]) (some (ByteArray.mk #[(49:UInt8)])) [] (-1) 0 gN Bx.aJ Bx.aJ),.ints .u64 16 (op4 (cz ((4:Int)*8)) (ByteArray.mk #[(97:UInt8)]) (some (ByteArray.mk #[(49:UInt8)])) [] (-1) 0 gN Bx.aJ Bx.aJ)] 70,.own [.vec 2,.ag 3,.s (.int .i64 (op1 (cz ((4:Int)*8)) (ByteArray.mk #[(97:UInt8)]) (some (ByteArray.mk #[(49:UInt8)])) [] (-1) 0 gN Bx.aJ Bx.aJ))] 96,.vec (.ae [.arr .u8 64] (cz ((4:Int)*8))) 138,.map (.arr .u8 64) (op0 (cz ((4:Int)*8)) (ByteArray.mk #[(97:UInt8)]) (some (ByteArray.mk #[(49:UInt8)])) [] (-1) 0 gN Bx.aJ Bx.aJ)] (.s (.aI false))) (.at (.mk (sl 63 [(0,.s (.bool false)),(2,.ptr 0 0),(14,.s (.bool false)),(15,.ptr 0 0)]) [.own [.ptr 1 0,.s (.int .i64 2),.ints .u64 16 (op2 (cz ((4:Int)*8)) (ByteArray.mk #[(97:UInt8)]) (some (ByteArray.mk #[(49:UInt8)])) [] (-1) 0 gN Bx.aJ Bx.aJ),.ints .u64 16 (op3 (cz ((4:Int)*8)) (ByteArray.mk #[(97:UInt8)]) (some (ByteArray.mk #[(49:UInt8)])) [] (-1) 0 gN Bx.aJ Bx.aJ),.ints .u64 16 (op4 (cz ((4:Int)*8)) (ByteArray.mk #[(97:UInt8)]) (some (ByteArray.mk #[(49:UInt8)])) [] (-1) 0 gN Bx.aJ Bx.aJ)] 70,.own [.vec 2,.ag 3,.s (.int .i64 (op1 (cz ((4:Int)*8)) (ByteArray.mk #[(97:UInt8)]) (some (ByteArray.mk #[(49:UInt8)])) [] (-1) 0 gN Bx.aJ Bx.aJ))] 96,.vec (.ae [.arr .u8 64] (cz ((4:Int)*8))) 138,.map (.arr .u8 64) (op0 (cz ((4:Int)*8)) (ByteArray.mk #[(97:UInt8)]) (some (ByteArray.mk #[(49:UInt8)])) [] (-1) 0 gN Bx.aJ Bx.aJ)] (wa Tryd.f8 2 9) (.mk none false 0 [] 2))))))))):=by kernel_rfl
noncomputable def dP:Ws:=op2 (cz ((4:Int)*(8:Int))) (ByteArray.mk #[(97:UInt8)]) (some (ByteArray.mk #[(49:UInt8)])) [] (-1:Int) (0:Int) gN Bx.aJ Bx.aJ
noncomputable def dS:Ws:=op3 (cz ((4:Int)*(8:Int))) (ByteArray.mk #[(97:UInt8)]) (some (ByteArray.mk #[(49:UInt8)])) [] (-1:Int) (0:Int) gN Bx.aJ Bx.aJ
noncomputable def dT:Ws:=op4 (cz ((4:Int)*(8:Int))) (ByteArray.mk #[(97:UInt8)]) (some (ByteArray.mk #[(49:UInt8)])) [] (-1:Int) (0:Int) gN Bx.aJ Bx.aJ
noncomputable def dJ:Int:=op1 (cz ((4:Int)*(8:Int))) (ByteArray.mk #[(97:UInt8)]) (some (ByteArray.mk #[(49:UInt8)])) [] (-1:Int) (0:Int) gN Bx.aJ Bx.aJ
noncomputable def dK:As:=op0 (cz ((4:Int)*(8:Int))) (ByteArray.mk #[(97:UInt8)]) (some (ByteArray.mk #[(49:UInt8)])) [] (-1:Int) (0:Int) gN Bx.aJ Bx.aJ
noncomputable def asM:bz:=bz.mk (sl 63 [(0,.s (.bool false)),(2,.ptr 0 0),(14,.s (.bool false)),(15,.ptr 0 0)]) [.own [.ptr 1 0,.s (.int .i64 2),.ints .u64 16 dP,.ints .u64 16 dS,.ints .u64 16 dT] 70,.own [.vec 2,.ag 3,.s (.int .i64 dJ)] 96,.vec (.ae [.arr .u8 64] (cz ((4:Int)*8))) 138,.map (.arr .u8 64) dK] (wa Tryd.f8 2 9) (.mk none false 0 [] 2)
theorem asN:run (P) (lK.sum) (Tryd.f8) (sP) asM ([])=
 Tree.ite false (.ret [.own [.ptr 1 0,.s (.int .i64 2),.ints .u64 16 dP,.ints .u64 16 dS,.ints .u64 16 dT] 70,.own [.vec 2,.ag 3,.s (.int .i64 dJ)] 96,.vec (.ae [.arr .u8 64] (cz ((4:Int)*8))) 138,.map (.arr .u8 64) dK] (.s (.aI false))) (.need (bu (some [AV.ptr 0 0])) (.need (bu (some [ad.own [.ptr 1 0,.s (.int .i64 2),.ints .u64 16 dP,.ints .u64 16 dS,.ints .u64 16 dT] 70,.own [.vec 2,.ag 3,.s (.int .i64 dJ)] 96,.vec (.ae [.arr .u8 64] (cz ((4:Int)*8))) 138,.map (.arr .u8 64) dK])) (.ite false (.ret [.own [.ptr 1 0,.s (.int .i64 2),.ints .u64 16 dP,.ints .u64 16 dS,.ints .u64 16 dT] 70,.own [.vec 2,.ag 3,.s (.int .i64 dJ)] 96,.vec (.ae [.arr .u8 64] (cz ((4:Int)*8))) 138,.map (.arr .u8 64) dK] (.s (.aI false))) (.at (.mk (sl 63 [(0,.s (.bool false)),(2,.ptr 0 0),(19,.s (.bool false)),(20,.ptr 0 0)]) [.own [.ptr 1 0,.s (.int .i64 2),.ints .u64 16 dP,.ints .u64 16 dS,.ints .u64 16 dT] 70,.own [.vec 2,.ag 3,.s (.int .i64 dJ)] 96,.vec (.ae [.arr .u8 64] (cz ((4:Int)*8))) 138,.map (.arr .u8 64) dK] (wa Tryd.f8 2 14) (.mk none false 0 [] 2)))))):=by kernel_rfl
noncomputable def asO:bz:=bz.mk (sl 63 [(0,.s (.bool false)),(2,.ptr 0 0),(19,.s (.bool false)),(20,.ptr 0 0)]) [.own [.ptr 1 0,.s (.int .i64 2),.ints .u64 16 dP,.ints .u64 16 dS,.ints .u64 16 dT] 70,.own [.vec 2,.ag 3,.s (.int .i64 dJ)] 96,.vec (.ae [.arr .u8 64] (cz ((4:Int)*8))) 138,.map (.arr .u8 64) dK] (wa Tryd.f8 2 14) (.mk none false 0 [] 2)
theorem asP:run (P) (lK.sum) (Tryd.f8) (sP) asO ([])=
 Tree.ite false (.ret [.own [.ptr 1 0,.s (.int .i64 2),.ints .u64 16 dP,.ints .u64 16 dS,.ints .u64 16 dT] 70,.own [.vec 2,.ag 3,.s (.int .i64 dJ)] 96,.vec (.ae [.arr .u8 64] (cz ((4:Int)*8))) 138,.map (.arr .u8 64) dK] (.s (.aI false))) (.need (bu (some [AV.ptr 0 0,.s (.str (ByteArray.mk #[(97:UInt8)])),.s (.str (ByteArray.mk #[(49:UInt8)]))])) (.need (bu (some [ad.own [.ptr 1 0,.s (.int .i64 2),.ints .u64 16 dP,.ints .u64 16 dS,.ints .u64 16 dT] 70,.own [.vec 2,.ag 3,.s (.int .i64 dJ)] 96,.vec (.ae [.arr .u8 64] (cz ((4:Int)*8))) 138,.map (.arr .u8 64) dK])) (.need (Ds.bI (cz ((4:Int)*8)) dK dJ) (.need ((0:Int)≤2∧(2:Int)≤65536) (.ite false (.ret [.own [.ptr 1 0,.s (.int .i64 2),.ints .u64 16 dP,.ints .u64 16 dS,.ints .u64 16 dT] 70,.own [.vec 2,.ag 3,.s (.int .i64 dJ)] 96,.vec (.ae [.arr .u8 64] (cz ((4:Int)*8))) 138,.map (.arr .u8 64) dK] (.s (.aI false))) (.at (.mk (sl 63 [(0,.s (.bool false)),(2,.ptr 0 0),(24,.s (.bool false)),(25,.ptr 0 0)]) [.own [.ptr 1 0,.s (.int .i64 2),.ints .u64 16 dP,.ints .u64 16 dS,.ints .u64 16 dT] 70,.own [.vec 2,.ag 3,.s (.int .i64 dJ)] 96,.vec (.ae [.arr .u8 64] (cz ((4:Int)*8))) 138,.map (.arr .u8 64) dK] (wa Tryd.f8 2 19) (.mk none false 0 [] 2)))))))):=by kernel_rfl
noncomputable def asQ:bz:=bz.mk (sl 63 [(0,.s (.bool false)),(2,.ptr 0 0),(24,.s (.bool false)),(25,.ptr 0 0)]) [.own [.ptr 1 0,.s (.int .i64 2),.ints .u64 16 dP,.ints .u64 16 dS,.ints .u64 16 dT] 70,.own [.vec 2,.ag 3,.s (.int .i64 dJ)] 96,.vec (.ae [.arr .u8 64] (cz ((4:Int)*8))) 138,.map (.arr .u8 64) dK] (wa Tryd.f8 2 19) (.mk none false 0 [] 2)
theorem asR:run (P) (lK.sum) (Tryd.f8) (sP) asQ ([])=
 Tree.ite false (.ret [.own [.ptr 1 0,.s (.int .i64 2),.ints .u64 16 dP,.ints .u64 16 dS,.ints .u64 16 dT] 70,.own [.vec 2,.ag 3,.s (.int .i64 dJ)] 96,.vec (.ae [.arr .u8 64] (cz ((4:Int)*8))) 138,.map (.arr .u8 64) dK] (.s (.aI false))) (.need (bu (some [AV.ptr 0 0,.s (.str (ByteArray.mk #[(97:UInt8)])),.s (.str (ByteArray.mk #[(50:UInt8)]))])) (.need (bu (some [ad.own [.ptr 1 0,.s (.int .i64 2),.ints .u64 16 dP,.ints .u64 16 dS,.ints .u64 16 dT] 70,.own [.vec 2,.ag 3,.s (.int .i64 dJ)] 96,.vec (.ae [.arr .u8 64] (cz ((4:Int)*8))) 138,.map (.arr .u8 64) dK])) (.need (Ds.bI (cz ((4:Int)*8)) dK dJ) (.need (Bx.okW dP) (.need ((0:Int)≤2∧(2:Int)≤65536) (.ite false (.ret [.own [.ptr 1 0,.s (.int .i64 3),.ints .u64 16 (op2 (cz ((4:Int)*8)) (ByteArray.mk #[(97:UInt8)]) (some (ByteArray.mk #[(50:UInt8)])) dK dJ 2 dP dS dT),.ints .u64 16 (op3 (cz ((4:Int)*8)) (ByteArray.mk #[(97:UInt8)]) (some (ByteArray.mk #[(50:UInt8)])) dK dJ 2 dP dS dT),.ints .u64 16 (op4 (cz ((4:Int)*8)) (ByteArray.mk #[(97:UInt8)]) (some (ByteArray.mk #[(50:UInt8)])) dK dJ 2 dP dS dT)] 70,.own [.vec 2,.ag 3,.s (.int .i64 (op1 (cz ((4:Int)*8)) (ByteArray.mk #[(97:UInt8)]) (some (ByteArray.mk #[(50:UInt8)])) dK dJ 2 dP dS dT))] 96,.vec (.ae [.arr .u8 64] (cz ((4:Int)*8))) 138,.map (.arr .u8 64) (op0 (cz ((4:Int)*8)) (ByteArray.mk #[(97:UInt8)]) (some (ByteArray.mk #[(50:UInt8)])) dK dJ 2 dP dS dT)] (.s (.aI false))) (.at (.mk (sl 63 [(0,.s (.bool false)),(2,.ptr 0 0),(29,.s (.bool false)),(30,.ptr 0 0)]) [.own [.ptr 1 0,.s (.int .i64 3),.ints .u64 16 (op2 (cz ((4:Int)*8)) (ByteArray.mk #[(97:UInt8)]) (some (ByteArray.mk #[(50:UInt8)])) dK dJ 2 dP dS dT),.ints .u64 16 (op3 (cz ((4:Int)*8)) (ByteArray.mk #[(97:UInt8)]) (some (ByteArray.mk #[(50:UInt8)])) dK dJ 2 dP dS dT),.ints .u64 16 (op4 (cz ((4:Int)*8)) (ByteArray.mk #[(97:UInt8)]) (some (ByteArray.mk #[(50:UInt8)])) dK dJ 2 dP dS dT)] 70,.own [.vec 2,.ag 3,.s (.int .i64 (op1 (cz ((4:Int)*8)) (ByteArray.mk #[(97:UInt8)]) (some (ByteArray.mk #[(50:UInt8)])) dK dJ 2 dP dS dT))] 96,.vec (.ae [.arr .u8 64] (cz ((4:Int)*8))) 138,.map (.arr .u8 64) (op0 (cz ((4:Int)*8)) (ByteArray.mk #[(97:UInt8)]) (some (ByteArray.mk #[(50:UInt8)])) dK dJ 2 dP dS dT)] (wa Tryd.f8 2 24) (.mk none false 0 [] 2))))))))):=by kernel_rfl
noncomputable def cr:Ws:=op2 (cz ((4:Int)*(8:Int))) (ByteArray.mk #[(97:UInt8)]) (some (ByteArray.mk #[(50:UInt8)])) dK dJ (2:Int) dP dS dT
noncomputable def cA:Ws:=op3 (cz ((4:Int)*(8:Int))) (ByteArray.mk #[(97:UInt8)]) (some (ByteArray.mk #[(50:UInt8)])) dK dJ (2:Int) dP dS dT
noncomputable def cC:Ws:=op4 (cz ((4:Int)*(8:Int))) (ByteArray.mk #[(97:UInt8)]) (some (ByteArray.mk #[(50:UInt8)])) dK dJ (2:Int) dP dS dT
noncomputable def cn:Int:=op1 (cz ((4:Int)*(8:Int))) (ByteArray.mk #[(97:UInt8)]) (some (ByteArray.mk #[(50:UInt8)])) dK dJ (2:Int) dP dS dT
noncomputable def bD:As:=op0 (cz ((4:Int)*(8:Int))) (ByteArray.mk #[(97:UInt8)]) (some (ByteArray.mk #[(50:UInt8)])) dK dJ (2:Int) dP dS dT
noncomputable def asS:bz:=bz.mk (sl 63 [(0,.s (.bool false)),(2,.ptr 0 0),(29,.s (.bool false)),(30,.ptr 0 0)]) [.own [.ptr 1 0,.s (.int .i64 3),.ints .u64 16 cr,.ints .u64 16 cA,.ints .u64 16 cC] 70,.own [.vec 2,.ag 3,.s (.int .i64 cn)] 96,.vec (.ae [.arr .u8 64] (cz ((4:Int)*8))) 138,.map (.arr .u8 64) bD] (wa Tryd.f8 2 24) (.mk none false 0 [] 2)
theorem asT:run (P) (lK.sum) (Tryd.f8) (sP) asS ([])=
 Tree.ite false (.ret [.own [.ptr 1 0,.s (.int .i64 3),.ints .u64 16 cr,.ints .u64 16 cA,.ints .u64 16 cC] 70,.own [.vec 2,.ag 3,.s (.int .i64 cn)] 96,.vec (.ae [.arr .u8 64] (cz ((4:Int)*8))) 138,.map (.arr .u8 64) bD] (.s (.aI false))) (.need (bu (some [AV.ptr 0 0])) (.need (bu (some [ad.own [.ptr 1 0,.s (.int .i64 3),.ints .u64 16 cr,.ints .u64 16 cA,.ints .u64 16 cC] 70,.own [.vec 2,.ag 3,.s (.int .i64 cn)] 96,.vec (.ae [.arr .u8 64] (cz ((4:Int)*8))) 138,.map (.arr .u8 64) bD])) (.ite false (.ret [.own [.ptr 1 0,.s (.int .i64 3),.ints .u64 16 cr,.ints .u64 16 cA,.ints .u64 16 cC] 70,.own [.vec 2,.ag 3,.s (.int .i64 cn)] 96,.vec (.ae [.arr .u8 64] (cz ((4:Int)*8))) 138,.map (.arr .u8 64) bD] (.s (.aI false))) (.at (.mk (sl 63 [(0,.s (.bool false)),(2,.ptr 0 0),(34,.s (.bool false)),(35,.ptr 0 0)]) [.own [.ptr 1 0,.s (.int .i64 3),.ints .u64 16 cr,.ints .u64 16 cA,.ints .u64 16 cC] 70,.own [.vec 2,.ag 3,.s (.int .i64 cn)] 96,.vec (.ae [.arr .u8 64] (cz ((4:Int)*8))) 138,.map (.arr .u8 64) bD] (wa Tryd.f8 2 29) (.mk none false 0 [] 2)))))):=by kernel_rfl
noncomputable def asU:bz:=bz.mk (sl 63 [(0,.s (.bool false)),(2,.ptr 0 0),(34,.s (.bool false)),(35,.ptr 0 0)]) [.own [.ptr 1 0,.s (.int .i64 3),.ints .u64 16 cr,.ints .u64 16 cA,.ints .u64 16 cC] 70,.own [.vec 2,.ag 3,.s (.int .i64 cn)] 96,.vec (.ae [.arr .u8 64] (cz ((4:Int)*8))) 138,.map (.arr .u8 64) bD] (wa Tryd.f8 2 29) (.mk none false 0 [] 2)
theorem asV:run (P) (lK.sum) (Tryd.f8) (sP) asU ([])=
 Tree.ite false (.ret [.own [.ptr 1 0,.s (.int .i64 3),.ints .u64 16 cr,.ints .u64 16 cA,.ints .u64 16 cC] 70,.own [.vec 2,.ag 3,.s (.int .i64 cn)] 96,.vec (.ae [.arr .u8 64] (cz ((4:Int)*8))) 138,.map (.arr .u8 64) bD] (.s (.aI false))) (.need (bu (some [AV.ptr 0 0])) (.need (bu (some [ad.own [.ptr 1 0,.s (.int .i64 3),.ints .u64 16 cr,.ints .u64 16 cA,.ints .u64 16 cC] 70,.own [.vec 2,.ag 3,.s (.int .i64 cn)] 96,.vec (.ae [.arr .u8 64] (cz ((4:Int)*8))) 138,.map (.arr .u8 64) bD])) (.ite false (.ret [.own [.ptr 1 0,.s (.int .i64 3),.ints .u64 16 cr,.ints .u64 16 cA,.ints .u64 16 cC] 70,.own [.vec 2,.ag 3,.s (.int .i64 cn)] 96,.vec (.ae [.arr .u8 64] (cz ((4:Int)*8))) 138,.map (.arr .u8 64) bD] (.s (.aI false))) (.at (.mk (sl 63 [(0,.s (.bool false)),(2,.ptr 0 0),(40,.s (.bool false)),(41,.ptr 0 0)]) [.own [.ptr 1 0,.s (.int .i64 3),.ints .u64 16 cr,.ints .u64 16 cA,.ints .u64 16 cC] 70,.own [.vec 2,.ag 3,.s (.int .i64 cn)] 96,.vec (.ae [.arr .u8 64] (cz ((4:Int)*8))) 138,.map (.arr .u8 64) bD] (wa Tryd.f8 2 35) (.mk none false 0 [] 2)))))):=by kernel_rfl
noncomputable def asW:bz:=bz.mk (sl 63 [(0,.s (.bool false)),(2,.ptr 0 0),(40,.s (.bool false)),(41,.ptr 0 0)]) [.own [.ptr 1 0,.s (.int .i64 3),.ints .u64 16 cr,.ints .u64 16 cA,.ints .u64 16 cC] 70,.own [.vec 2,.ag 3,.s (.int .i64 cn)] 96,.vec (.ae [.arr .u8 64] (cz ((4:Int)*8))) 138,.map (.arr .u8 64) bD] (wa Tryd.f8 2 35) (.mk none false 0 [] 2)
theorem asX:run (P) (lK.sum) (Tryd.f8) (sP) asW ([])=
 Tree.ite false (.ret [.own [.ptr 1 0,.s (.int .i64 3),.ints .u64 16 cr,.ints .u64 16 cA,.ints .u64 16 cC] 70,.own [.vec 2,.ag 3,.s (.int .i64 cn)] 96,.vec (.ae [.arr .u8 64] (cz ((4:Int)*8))) 138,.map (.arr .u8 64) bD] (.s (.aI false))) (.need (bu (some [AV.ptr 0 0])) (.need (bu (some [ad.own [.ptr 1 0,.s (.int .i64 3),.ints .u64 16 cr,.ints .u64 16 cA,.ints .u64 16 cC] 70,.own [.vec 2,.ag 3,.s (.int .i64 cn)] 96,.vec (.ae [.arr .u8 64] (cz ((4:Int)*8))) 138,.map (.arr .u8 64) bD])) (.ite false (.ret [.own [.ptr 1 0,.s (.int .i64 3),.ints .u64 16 cr,.ints .u64 16 cA,.ints .u64 16 cC] 70,.own [.vec 2,.ag 3,.s (.int .i64 cn)] 96,.vec (.ae [.arr .u8 64] (cz ((4:Int)*8))) 138,.map (.arr .u8 64) bD] (.s (.aI false))) (.at (.mk (sl 63 [(0,.s (.bool false)),(2,.ptr 0 0),(45,.s (.bool false)),(46,.ptr 0 0)]) [.own [.ptr 1 0,.s (.int .i64 3),.ints .u64 16 cr,.ints .u64 16 cA,.ints .u64 16 cC] 70,.own [.vec 2,.ag 3,.s (.int .i64 cn)] 96,.vec (.ae [.arr .u8 64] (cz ((4:Int)*8))) 138,.map (.arr .u8 64) bD] (wa Tryd.f8 2 40) (.mk none false 0 [] 2)))))):=by kernel_rfl
noncomputable def asY:bz:=bz.mk (sl 63 [(0,.s (.bool false)),(2,.ptr 0 0),(45,.s (.bool false)),(46,.ptr 0 0)]) [.own [.ptr 1 0,.s (.int .i64 3),.ints .u64 16 cr,.ints .u64 16 cA,.ints .u64 16 cC] 70,.own [.vec 2,.ag 3,.s (.int .i64 cn)] 96,.vec (.ae [.arr .u8 64] (cz ((4:Int)*8))) 138,.map (.arr .u8 64) bD] (wa Tryd.f8 2 40) (.mk none false 0 [] 2)
theorem asZ:run (P) (lK.sum) (Tryd.f8) (sP) asY ([])=
 Tree.ite false (.ret [.own [.ptr 1 0,.s (.int .i64 3),.ints .u64 16 cr,.ints .u64 16 cA,.ints .u64 16 cC] 70,.own [.vec 2,.ag 3,.s (.int .i64 cn)] 96,.vec (.ae [.arr .u8 64] (cz ((4:Int)*8))) 138,.map (.arr .u8 64) bD] (.s (.aI false))) (.need (bu (some [AV.ptr 0 0,.s (.str (ByteArray.mk #[(97:UInt8)])),.s (.str (ByteArray.mk #[(50:UInt8)]))])) (.need (bu (some [ad.own [.ptr 1 0,.s (.int .i64 3),.ints .u64 16 cr,.ints .u64 16 cA,.ints .u64 16 cC] 70,.own [.vec 2,.ag 3,.s (.int .i64 cn)] 96,.vec (.ae [.arr .u8 64] (cz ((4:Int)*8))) 138,.map (.arr .u8 64) bD])) (.need (Ds.bI (cz ((4:Int)*8)) bD cn) (.need ((0:Int)≤3∧(3:Int)≤65536) (.ite false (.ret [.own [.ptr 1 0,.s (.int .i64 3),.ints .u64 16 cr,.ints .u64 16 cA,.ints .u64 16 cC] 70,.own [.vec 2,.ag 3,.s (.int .i64 cn)] 96,.vec (.ae [.arr .u8 64] (cz ((4:Int)*8))) 138,.map (.arr .u8 64) bD] (.s (.aI false))) (.at (.mk (sl 63 [(0,.s (.bool false)),(2,.ptr 0 0),(50,.s (.bool false)),(51,.ptr 0 0)]) [.own [.ptr 1 0,.s (.int .i64 3),.ints .u64 16 cr,.ints .u64 16 cA,.ints .u64 16 cC] 70,.own [.vec 2,.ag 3,.s (.int .i64 cn)] 96,.vec (.ae [.arr .u8 64] (cz ((4:Int)*8))) 138,.map (.arr .u8 64) bD] (wa Tryd.f8 2 45) (.mk none false 0 [] 2)))))))):=by kernel_rfl
noncomputable def as0:bz:=bz.mk (sl 63 [(0,.s (.bool false)),(2,.ptr 0 0),(50,.s (.bool false)),(51,.ptr 0 0)]) [.own [.ptr 1 0,.s (.int .i64 3),.ints .u64 16 cr,.ints .u64 16 cA,.ints .u64 16 cC] 70,.own [.vec 2,.ag 3,.s (.int .i64 cn)] 96,.vec (.ae [.arr .u8 64] (cz ((4:Int)*8))) 138,.map (.arr .u8 64) bD] (wa Tryd.f8 2 45) (.mk none false 0 [] 2)
theorem as1:run (P) (lK.sum) (Tryd.f8) (sP) as0 ([])=
 Tree.ite false (.ret [.own [.ptr 1 0,.s (.int .i64 3),.ints .u64 16 cr,.ints .u64 16 cA,.ints .u64 16 cC] 70,.own [.vec 2,.ag 3,.s (.int .i64 cn)] 96,.vec (.ae [.arr .u8 64] (cz ((4:Int)*8))) 138,.map (.arr .u8 64) bD] (.s (.aI false))) (.need (bu (some [AV.ptr 0 0,.s (.str (ByteArray.mk #[(97:UInt8)]))])) (.need (bu (some [ad.own [.ptr 1 0,.s (.int .i64 3),.ints .u64 16 cr,.ints .u64 16 cA,.ints .u64 16 cC] 70,.own [.vec 2,.ag 3,.s (.int .i64 cn)] 96,.vec (.ae [.arr .u8 64] (cz ((4:Int)*8))) 138,.map (.arr .u8 64) bD])) (.need (Ds.bI (cz ((4:Int)*8)) bD cn) (.need (Bx.okW cr) (.need ((0:Int)≤3∧(3:Int)≤65536) (.ite false (.ret [.own [.ptr 1 0,.s (.int .i64 0),.ints .u64 16 (op2 (cz ((4:Int)*8)) (ByteArray.mk #[(97:UInt8)]) none bD cn 3 cr cA cC),.ints .u64 16 (op3 (cz ((4:Int)*8)) (ByteArray.mk #[(97:UInt8)]) none bD cn 3 cr cA cC),.ints .u64 16 (op4 (cz ((4:Int)*8)) (ByteArray.mk #[(97:UInt8)]) none bD cn 3 cr cA cC)] 70,.own [.vec 2,.ag 3,.s (.int .i64 (op1 (cz ((4:Int)*8)) (ByteArray.mk #[(97:UInt8)]) none bD cn 3 cr cA cC))] 96,.vec (.ae [.arr .u8 64] (cz ((4:Int)*8))) 138,.map (.arr .u8 64) (op0 (cz ((4:Int)*8)) (ByteArray.mk #[(97:UInt8)]) none bD cn 3 cr cA cC)] (.s (.aI false))) (.at (.mk (sl 63 [(0,.s (.bool false)),(2,.ptr 0 0),(55,.s (.bool false)),(56,.ptr 0 0)]) [.own [.ptr 1 0,.s (.int .i64 0),.ints .u64 16 (op2 (cz ((4:Int)*8)) (ByteArray.mk #[(97:UInt8)]) none bD cn 3 cr cA cC),.ints .u64 16 (op3 (cz ((4:Int)*8)) (ByteArray.mk #[(97:UInt8)]) none bD cn 3 cr cA cC),.ints .u64 16 (op4 (cz ((4:Int)*8)) (ByteArray.mk #[(97:UInt8)]) none bD cn 3 cr cA cC)] 70,.own [.vec 2,.ag 3,.s (.int .i64 (op1 (cz ((4:Int)*8)) (ByteArray.mk #[(97:UInt8)]) none bD cn 3 cr cA cC))] 96,.vec (.ae [.arr .u8 64] (cz ((4:Int)*8))) 138,.map (.arr .u8 64) (op0 (cz ((4:Int)*8)) (ByteArray.mk #[(97:UInt8)]) none bD cn 3 cr cA cC)] (wa Tryd.f8 2 50) (.mk none false 0 [] 2))))))))):=by kernel_rfl
noncomputable def ig:Ws:=op2 (cz ((4:Int)*(8:Int))) (ByteArray.mk #[(97:UInt8)]) none bD cn (3:Int) cr cA cC
noncomputable def iX:Ws:=op3 (cz ((4:Int)*(8:Int))) (ByteArray.mk #[(97:UInt8)]) none bD cn (3:Int) cr cA cC
noncomputable def iY:Ws:=op4 (cz ((4:Int)*(8:Int))) (ByteArray.mk #[(97:UInt8)]) none bD cn (3:Int) cr cA cC
noncomputable def ij:Int:=op1 (cz ((4:Int)*(8:Int))) (ByteArray.mk #[(97:UInt8)]) none bD cn (3:Int) cr cA cC
noncomputable def ik:As:=op0 (cz ((4:Int)*(8:Int))) (ByteArray.mk #[(97:UInt8)]) none bD cn (3:Int) cr cA cC
noncomputable def aqu:bz:=bz.mk (sl 63 [(0,.s (.bool false)),(2,.ptr 0 0),(55,.s (.bool false)),(56,.ptr 0 0)]) [.own [.ptr 1 0,.s (.int .i64 0),.ints .u64 16 ig,.ints .u64 16 iX,.ints .u64 16 iY] 70,.own [.vec 2,.ag 3,.s (.int .i64 ij)] 96,.vec (.ae [.arr .u8 64] (cz ((4:Int)*8))) 138,.map (.arr .u8 64) ik] (wa Tryd.f8 2 50) (.mk none false 0 [] 2)
theorem aqv:run (P) (lK.sum) (Tryd.f8) (sP) aqu ([])=
 Tree.ite false (.ret [.own [.ptr 1 0,.s (.int .i64 0),.ints .u64 16 ig,.ints .u64 16 iX,.ints .u64 16 iY] 70,.own [.vec 2,.ag 3,.s (.int .i64 ij)] 96,.vec (.ae [.arr .u8 64] (cz ((4:Int)*8))) 138,.map (.arr .u8 64) ik] (.s (.aI false))) (.need (bu (some [AV.ptr 0 0])) (.need (bu (some [ad.own [.ptr 1 0,.s (.int .i64 0),.ints .u64 16 ig,.ints .u64 16 iX,.ints .u64 16 iY] 70,.own [.vec 2,.ag 3,.s (.int .i64 ij)] 96,.vec (.ae [.arr .u8 64] (cz ((4:Int)*8))) 138,.map (.arr .u8 64) ik])) (.ite false (.ret [.own [.ptr 1 0,.s (.int .i64 0),.ints .u64 16 ig,.ints .u64 16 iX,.ints .u64 16 iY] 70,.own [.vec 2,.ag 3,.s (.int .i64 ij)] 96,.vec (.ae [.arr .u8 64] (cz ((4:Int)*8))) 138,.map (.arr .u8 64) ik] (.s (.aI false))) (.at (.mk (sl 63 [(0,.s (.bool false)),(60,.ptr 0 0)]) [.own [.ptr 1 0,.s (.int .i64 0),.ints .u64 16 ig,.ints .u64 16 iX,.ints .u64 16 iY] 70,.own [.vec 2,.ag 3,.s (.int .i64 ij)] 96,.vec (.ae [.arr .u8 64] (cz ((4:Int)*8))) 138,.map (.arr .u8 64) ik] (wa Tryd.f8 4 1) (.mk none false 0 [] 4)))))):=by kernel_rfl
noncomputable def aqw:bz:=bz.mk (sl 63 [(0,.s (.bool false)),(60,.ptr 0 0)]) [.own [.ptr 1 0,.s (.int .i64 0),.ints .u64 16 ig,.ints .u64 16 iX,.ints .u64 16 iY] 70,.own [.vec 2,.ag 3,.s (.int .i64 ij)] 96,.vec (.ae [.arr .u8 64] (cz ((4:Int)*8))) 138,.map (.arr .u8 64) ik] (wa Tryd.f8 4 1) (.mk none false 0 [] 4)
theorem aqx:run (P) (lK.sum) (Tryd.f8) (sP) aqw ([])=
 Tree.need (bu (some [AV.ptr 0 0,.s (.str ByteArray.empty),.s (.str (ByteArray.mk #[(120:UInt8)]))])) (.need (bu (some [ad.own [.ptr 1 0,.s (.int .i64 0),.ints .u64 16 ig,.ints .u64 16 iX,.ints .u64 16 iY] 70,.own [.vec 2,.ag 3,.s (.int .i64 ij)] 96,.vec (.ae [.arr .u8 64] (cz ((4:Int)*8))) 138,.map (.arr .u8 64) ik])) (.need (Ds.bI (cz ((4:Int)*8)) ik ij) (.need (Bx.okW ig) (.need ((0:Int)≤0∧(0:Int)≤65536) (.ret [.own [.ptr 1 0,.s (.int .i64 0),.ints .u64 16 (op2 (cz ((4:Int)*8)) ByteArray.empty (some (ByteArray.mk #[(120:UInt8)])) ik ij 0 ig iX iY),.ints .u64 16 (op3 (cz ((4:Int)*8)) ByteArray.empty (some (ByteArray.mk #[(120:UInt8)])) ik ij 0 ig iX iY),.ints .u64 16 (op4 (cz ((4:Int)*8)) ByteArray.empty (some (ByteArray.mk #[(120:UInt8)])) ik ij 0 ig iX iY)] 70,.own [.vec 2,.ag 3,.s (.int .i64 (op1 (cz ((4:Int)*8)) ByteArray.empty (some (ByteArray.mk #[(120:UInt8)])) ik ij 0 ig iX iY))] 96,.vec (.ae [.arr .u8 64] (cz ((4:Int)*8))) 138,.map (.arr .u8 64) (op0 (cz ((4:Int)*8)) ByteArray.empty (some (ByteArray.mk #[(120:UInt8)])) ik ij 0 ig iX iY)] (.s (.bool true))))))):=by kernel_rfl
def as2(ws:Ws):Bool:=ws.length.beq 16&&ws.all fun w=>decide (0≤w)&&decide (w<18446744073709551616)
theorem fo{ws:Ws}(h:as2 ws=true):Bx.okW ws:=by
 simp only[as2,Bool.and_eq_true,List.all_eq_true,decide_eq_true_eq]at h
 exact⟨Nat.eq_of_beq_eq_true h.1,fun w hw=>h.2 w hw⟩
theorem eJ:lK.Ok P Bx.bT:=aG.Ok.cons (afq.sum mMd) (aG.Ok.cons (sw.sum mPt) (aG.Ok.cons (sC.sum mGt) (aG.Ok.cons (ab4.sum mHs) (aG.Ok.cons (afo.sum mT) (aG.Ok.cons (afp.sum mT) (aG.Ok.cons Bx.zz.sum aG.Ok.nil))))))
theorem akh:dg P Bx.bT 8 [] [ch] (fun _=>[]) (fun _=>(true,())):=by
 refine aw Tryd.func8 (by kernel_rfl) (by kernel_rfl) ?_
 rintro⟨⟩ _ _ X hX hz
 show Safe P 8 X (Ends [ch] (true,())) _
 refine Lf.go hz hX eJ Tryd.func8 asJ ?_
 refine iI ?_
 refine iI ?_
 refine ez (by first|exact Ds.fm (by kernel_rfl)|exact fo (by kernel_rfl)|decide|exact⟨by decide,by decide⟩) ?_
 refine rp ?_
 refine Lf.go hz hX eJ Tryd.func8 asL ?_
 refine kc ?_
 refine iI ?_
 refine iI ?_
 refine ez (by first|exact Ds.fm (by kernel_rfl)|exact fo (by kernel_rfl)|decide|exact⟨by decide,by decide⟩) ?_
 refine ez (by first|exact Ds.fm (by kernel_rfl)|exact fo (by kernel_rfl)|decide|exact⟨by decide,by decide⟩) ?_
 refine ez (by first|exact Ds.fm (by kernel_rfl)|exact fo (by kernel_rfl)|decide|exact⟨by decide,by decide⟩) ?_
 refine kc ?_
 refine rp ?_
 refine Lf.go hz hX eJ Tryd.func8 asN ?_
 refine kc ?_
 refine iI ?_
 refine iI ?_
 refine kc ?_
 refine rp ?_
 refine Lf.go hz hX eJ Tryd.func8 asP ?_
 refine kc ?_
 refine iI ?_
 refine iI ?_
 refine ez (by first|exact Ds.fm (by kernel_rfl)|exact fo (by kernel_rfl)|decide|exact⟨by decide,by decide⟩) ?_
 refine ez (by first|exact Ds.fm (by kernel_rfl)|exact fo (by kernel_rfl)|decide|exact⟨by decide,by decide⟩) ?_
 refine kc ?_
 refine rp ?_
 refine Lf.go hz hX eJ Tryd.func8 asR ?_
 refine kc ?_
 refine iI ?_
 refine iI ?_
 refine ez (by first|exact Ds.fm (by kernel_rfl)|exact fo (by kernel_rfl)|decide|exact⟨by decide,by decide⟩) ?_
 refine ez (by first|exact Ds.fm (by kernel_rfl)|exact fo (by kernel_rfl)|decide|exact⟨by decide,by decide⟩) ?_
 refine ez (by first|exact Ds.fm (by kernel_rfl)|exact fo (by kernel_rfl)|decide|exact⟨by decide,by decide⟩) ?_
 refine kc ?_
 refine rp ?_
 refine Lf.go hz hX eJ Tryd.func8 asT ?_
 refine kc ?_
 refine iI ?_
 refine iI ?_
 refine kc ?_
 refine rp ?_
 refine Lf.go hz hX eJ Tryd.func8 asV ?_
 refine kc ?_
 refine iI ?_
 refine iI ?_
 refine kc ?_
 refine rp ?_
 refine Lf.go hz hX eJ Tryd.func8 asX ?_
 refine kc ?_
 refine iI ?_
 refine iI ?_
 refine kc ?_
 refine rp ?_
 refine Lf.go hz hX eJ Tryd.func8 asZ ?_
 refine kc ?_
 refine iI ?_
 refine iI ?_
 refine ez (by first|exact Ds.fm (by kernel_rfl)|exact fo (by kernel_rfl)|decide|exact⟨by decide,by decide⟩) ?_
 refine ez (by first|exact Ds.fm (by kernel_rfl)|exact fo (by kernel_rfl)|decide|exact⟨by decide,by decide⟩) ?_
 refine kc ?_
 refine rp ?_
 refine Lf.go hz hX eJ Tryd.func8 as1 ?_
 refine kc ?_
 refine iI ?_
 refine iI ?_
 refine ez (by first|exact Ds.fm (by kernel_rfl)|exact fo (by kernel_rfl)|decide|exact⟨by decide,by decide⟩) ?_
 refine ez (by first|exact Ds.fm (by kernel_rfl)|exact fo (by kernel_rfl)|decide|exact⟨by decide,by decide⟩) ?_
 refine ez (by first|exact Ds.fm (by kernel_rfl)|exact fo (by kernel_rfl)|decide|exact⟨by decide,by decide⟩) ?_
 refine kc ?_
 refine rp ?_
 refine Lf.go hz hX eJ Tryd.func8 aqv ?_
 refine kc ?_
 refine iI ?_
 refine iI ?_
 refine kc ?_
 refine rp ?_
 refine Lf.go hz hX eJ Tryd.func8 aqx ?_
 refine iI ?_
 refine iI ?_
 refine ez (by first|exact Ds.fm (by kernel_rfl)|exact fo (by kernel_rfl)|decide|exact⟨by decide,by decide⟩) ?_
 refine ez (by first|exact Ds.fm (by kernel_rfl)|exact fo (by kernel_rfl)|decide|exact⟨by decide,by decide⟩) ?_
 refine ez (by first|exact Ds.fm (by kernel_rfl)|exact fo (by kernel_rfl)|decide|exact⟨by decide,by decide⟩) ?_
 refine aip ?_
 exact aU (true,()) rfl (by kernel_rfl)
abbrev auH:=bU [] [ch] (fun _=>[]) (fun _=>(true,()))
end Ts
namespace Ts
open Go Go.Sx Go.Proofs Lf
abbrev kL:List CK:=[.int .u8,.str,.str]
abbrev stK(x:CL kL):Int:=x.1
abbrev stA(x:CL kL):ByteArray:=x.2.1
abbrev stV(x:CL kL):ByteArray:=x.2.2.1
abbrev gO(l:List (CL kL)):AV:=.s (.ro (.ae kL l))
def aki:List (Nat×Norm):=[(3,⟨[],[0,3,4],0,[]⟩),(6,⟨[],[0,3],0,[]⟩)]
noncomputable def cLg(l:List (CL kL))(i:Int):bz:=⟨sl 38 [(0,gO l),(3,.s (.nO .i64)),(4,bJ i)],[],hd Tryd.f9 3,{}⟩
noncomputable def as3(l:List (CL kL)):bz:=⟨sl 38 [(0,gO l),(3,.s (.nO .i64))],[],hr Tryd.f9 6,{}⟩
theorem aqy(l:List (CL kL)):run P (aG.sum []) Tryd.f9 aki (start Tryd.f9 [gO l] [])=
 Tree.at (.mk (sl 38 [(0,.s (.ro (.ae kL l))),(3,.s (.int .i64 0)),(4,.s (.int .i64 0))]) [] (hd Tryd.f9 3) (.mk none false 0 [] 0)):=by kernel_rfl
theorem akj(l:List (CL kL))(i:Int):run P (aG.sum []) Tryd.f9 aki (cLg l i)=
 Tree.ite (decide (i<(↑l.length:Int))) (.both ((0:Nat)=0) True (.need ((0:Int)≤i) (.need (i<(↑l.length:Int)) (.need ((0:Int)≤i) (.need (i<(↑l.length:Int)) (.need (aD (i+1)) (.at (.mk (sl 38 [(0,.s (.ro (.ae kL l))),(3,.s (.nO .i64)),(4,.s (.int .i64 (i+1)))]) [] (hd Tryd.f9 3) (.mk none false 0 [] 0)))))))) (.at (.mk (sl 38 [(0,.s (.ro (.ae kL l))),(3,.s (.nO .i64))]) [] (hr Tryd.f9 6) (.mk none false 0 [] 0)))) (.at (.mk (sl 38 [(0,.s (.ro (.ae kL l))),(3,.s (.nO .i64))]) [] (hr Tryd.f9 6) (.mk none false 0 [] 0))):=by kernel_rfl
theorem am0(l:List (CL kL)):run P (aG.sum []) Tryd.f9 aki (as3 l)=
 Tree.both ((0:Nat)=0) True (.ret [] (.s (.aI true))) (.ret [] (.s (.bool (decide ((↑l.length:Int)>90))))):=by kernel_rfl
abbrev sLg:Spec (List (CL kL)):=⟨fun l=>[gO l],fun _=>[],fun l=>[l.length≤9223372036854775807],fun _=>[],fun l=>.s (.j8 (l.length - 90) false)⟩
def n6(p:Int):Int:=4*(3+IntKind.i64.wrap ((IntKind.u64.wrap p).tmod 248))
theorem auI(p:Int):run P (aG.sum []) Tryd.f17 [] (start Tryd.f17 [bJ p] [])=
 Tree.need ((248:Int)≠(0:Int)) (Tree.need (aD ((3:Int)+IntKind.i64.wrap ((IntKind.u64.wrap p).tmod (248:Int)))) (Tree.need (aD ((4:Int)*((3:Int)+IntKind.i64.wrap ((IntKind.u64.wrap p).tmod (248:Int))))) (Tree.ret [] (AV.s (SV.int IntKind.i64 ((4:Int)*((3:Int)+IntKind.i64.wrap ((IntKind.u64.wrap p).tmod (248:Int))))))))):=by kernel_rfl
def stOp(k:Int)(v:ByteArray):Option ByteArray:=if k=2 then none else some v
def do0(th:Th)(k:Int)(key val:ByteArray)(m:As)(fu root:Int)(fr fs gn:Ws):As:=(vT th key (stOp k val) m fu root fr fs gn).1
def do1(th:Th)(k:Int)(key val:ByteArray)(m:As)(fu root:Int)(fr fs gn:Ws):Int:=(vT th key (stOp k val) m fu root fr fs gn).2.1
def doR(th:Th)(k:Int)(key val:ByteArray)(m:As)(fu root:Int)(fr fs gn:Ws):Int:=(vT th key (stOp k val) m fu root fr fs gn).2.2.1
def do2(th:Th)(k:Int)(key val:ByteArray)(m:As)(fu root:Int)(fr fs gn:Ws):Ws:=(vT th key (stOp k val) m fu root fr fs gn).2.2.2.1
def do3(th:Th)(k:Int)(key val:ByteArray)(m:As)(fu root:Int)(fr fs gn:Ws):Ws:=(vT th key (stOp k val) m fu root fr fs gn).2.2.2.2.1
def do4(th:Th)(k:Int)(key val:ByteArray)(m:As)(fu root:Int)(fr fs gn:Ws):Ws:=(vT th key (stOp k val) m fu root fr fs gn).2.2.2.2.2.1
def doX(th:Th)(k:Int)(key val:ByteArray)(m:As)(fu root:Int)(fr fs gn:Ws):Int:=(vT th key (stOp k val) m fu root fr fs gn).2.2.2.2.2.2
abbrev XS:Type:=XT×Int×ByteArray×ByteArray
abbrev sDo:Spec XS:=⟨fun(_,k,key,val)=>[.agg [.s (.int .u8 k),.s (.str key),.s (.str val)],.ptr 0 0],fun((th,m,fu,root,fr,fs,gn),_)=>hT th m fu root fr fs gn,fun((th,m,fu,root,fr,_,_),_)=>aqp th m fu root fr,
 fun((th,m,fu,root,fr,fs,gn),k,key,val)=>hT th (do0 th k key val m fu root fr fs gn) (do1 th k key val m fu root fr fs gn) (doR th k key val m fu root fr fs gn) (do2 th k key val m fu root fr fs gn) (do3 th k key val m fu root fr fs gn) (do4 th k key val m fu root fr fs gn),
 fun((th,m,fu,root,fr,fs,gn),k,key,val)=>bJ (doX th k key val m fu root fr fs gn)⟩
def as4:aG:=[(24,akf),(25,akg)]
theorem auJ(th:Th)(m:As)(fu root:Int)(fr fs gn:Ws)(k:Int)(key val:ByteArray):run P as4.sum Tryd.f14 [] (start Tryd.f14 [.agg [.s (.int .u8 k),.s (.str key),.s (.str val)],.ptr 0 0] (hT th m fu root fr fs gn))=
 Tree.ite (k==2) (.need (bu (some [AV.ptr 0 0,.s (.str key)])) (.need (bu (some [ad.own [.ptr 1 0,.s (.int .i64 root),.ints .u64 16 fr,.ints .u64 16 fs,.ints .u64 16 gn] 70,.own [.vec 2,.ag 3,.s (.int .i64 fu)] 96,.vec (.ae [.arr .u8 64] th) 138,.map (.arr .u8 64) m])) (.need (Ds.bI th m fu) (.need (Bx.okW fr) (.need ((0:Int)≤root∧root≤65536) (.ret [.own [.ptr 1 0,.s (.int .i64 (v7 th key none m fu root fr fs gn)),.ints .u64 16 (op2 th key none m fu root fr fs gn),.ints .u64 16 (op3 th key none m fu root fr fs gn),.ints .u64 16 (op4 th key none m fu root fr fs gn)] 70,.own [.vec 2,.ag 3,.s (.int .i64 (op1 th key none m fu root fr fs gn))] 96,.vec (.ae [.arr .u8 64] th) 138,.map (.arr .u8 64) (op0 th key none m fu root fr fs gn),.own [.s (.int .u8 k),.s (.str key),.s (.str val)] 32] (.s (.int .i64 (opE th key none m fu root fr fs gn))))))))) (.need (bu (some [AV.ptr 0 0,.s (.str key),.s (.str val)])) (.need (bu (some [ad.own [.ptr 1 0,.s (.int .i64 root),.ints .u64 16 fr,.ints .u64 16 fs,.ints .u64 16 gn] 70,.own [.vec 2,.ag 3,.s (.int .i64 fu)] 96,.vec (.ae [.arr .u8 64] th) 138,.map (.arr .u8 64) m])) (.need (Ds.bI th m fu) (.need (Bx.okW fr) (.need ((0:Int)≤root∧root≤65536) (.ret [.own [.ptr 1 0,.s (.int .i64 (v7 th key (some val) m fu root fr fs gn)),.ints .u64 16 (op2 th key (some val) m fu root fr fs gn),.ints .u64 16 (op3 th key (some val) m fu root fr fs gn),.ints .u64 16 (op4 th key (some val) m fu root fr fs gn)] 70,.own [.vec 2,.ag 3,.s (.int .i64 (op1 th key (some val) m fu root fr fs gn))] 96,.vec (.ae [.arr .u8 64] th) 138,.map (.arr .u8 64) (op0 th key (some val) m fu root fr fs gn),.own [.s (.int .u8 k),.s (.str key),.s (.str val)] 32] (.s (.int .i64 (opE th key (some val) m fu root fr fs gn))))))))):=by kernel_rfl
def as5:List (Nat×Norm):=[(3,⟨[],[0,1,2,7,8],0,[]⟩)]
noncomputable def cIs(l qJ:List En)(from_:ByteArray)(n i:Int):bz:=⟨sl 43 [(0,.s (.ro (.ae cE l))),(1,.s (.ro (.ae cE qJ))),(2,.s (.str from_)),(7,bJ n),(8,bJ i)],[],hd Tryd.f13 3,{}⟩
theorem auK(l qJ:List En)(from_:ByteArray):run P (aG.sum []) Tryd.f13 as5 (start Tryd.f13 [.s (.ro (.ae cE l)),.s (.ro (.ae cE qJ)),.s (.str from_)] [])=
 Tree.at (.mk (sl 43 [(0,.s (.ro (.ae [.str,.str] l))),(1,.s (.ro (.ae [.str,.str] qJ))),(2,.s (.str from_)),(7,.s (.int .i64 0)),(8,.s (.int .i64 0))]) [] (hd Tryd.f13 3) (.mk none false 0 [] 0)):=by kernel_rfl
theorem as6(l qJ:List En)(from_:ByteArray)(n i:Int):run P (aG.sum []) Tryd.f13 as5 (cIs l qJ from_ n i)=
 Tree.ite (decide (i<(↑l.length:Int))) (.need ((0:Int)≤i) (.need (i<(↑l.length:Int)) (.ite (slt (l.getD i.toNat (CL.d [.str,.str])).fst from_) (.need (aD (i+1)) (.at (.mk (sl 43 [(0,.s (.ro (.ae [.str,.str] l))),(1,.s (.ro (.ae [.str,.str] qJ))),(2,.s (.str from_)),(7,.s (.int .i64 n)),(8,.s (.int .i64 (i+1)))]) [] (hd Tryd.f13 3) (.mk none false 0 [] 0)))) (.ite (decide (n≥(↑qJ.length:Int))) (.ret [] (.s (.aI false))) (.need ((0:Int)≤n) (.need (n<(↑qJ.length:Int)) (.need ((0:Int)≤i) (.need (i<(↑l.length:Int)) (.ite (!(decide ((qJ.getD n.toNat (CL.d [.str,.str])).fst=(l.getD i.toNat (CL.d [.str,.str])).fst)&&(decide ((qJ.getD n.toNat (CL.d [.str,.str])).snd.fst=(l.getD i.toNat (CL.d [.str,.str])).snd.fst)&&true))) (.ret [] (.s (.aI false))) (.need (aD (n+1)) (.need (aD (i+1)) (.at (.mk (sl 43 [(0,.s (.ro (.ae [.str,.str] l))),(1,.s (.ro (.ae [.str,.str] qJ))),(2,.s (.str from_)),(7,.s (.int .i64 (n+1))),(8,.s (.int .i64 (i+1)))]) [] (hd Tryd.f13 3) (.mk none false 0 [] 0)))))))))))))) (.ret [] (.s (.bool (n==(↑qJ.length:Int))))):=by kernel_rfl
theorem as7{Z:ba}:js P Z 9 sLg:=by
 refine qg Tryd.func9 (by kernel_rfl) (fun x=>Nat.le_of_ble_eq_true (by kernel_rfl)) ?_
 rintro(l:List (CL kL)) ⟨(hl:l.length≤9223372036854775807),_⟩ X hX hz
 have hns:∀x∈aki,(sLg.heap l).length≤x.2.m:=by intro y hy;simp[aki]at hy;rcases hy with rfl|rfl<;>exact Nat.le_refl _
 have fin:Safe P 9 X (aiu sLg l) (as3 l):=by
  refine Ds.eG hz hX hns aG.Ok.nil Tryd.func9 (am0 l) ⟨fun _=> ?_,fun _=> ?_⟩
  ·exact⟨⟨[],[0],0,[]⟩,.s (.bool true),Nat.le_refl _,by kernel_rfl,fun ρ H O w v hv=>by
    have:=ah (by simp) hv
    cases this
    exact aq (.j8 _ _ _ (fun h=>by cases h))⟩
  ·exact⟨⟨[],[0],0,[]⟩,.s (.bool (decide ((l.length:Int)>90))),Nat.le_refl _,by kernel_rfl,fun ρ H O w v hv=>by
    have:=ah (by simp) hv
    cases this
    exact aq (.j8 _ _ _ (fun h=>by have:=of_decide_eq_false h;omega))⟩
 have loop:∀(j k:Nat),k+j=l.length→Safe P 9 X (aiu sLg l) (cLg l (k:Int)):=by
  intro j
  induction j with
  |zero=>
   intro k hk
   exact Ds.eG hz hX hns aG.Ok.nil Tryd.func9 (akj l k) ⟨fun h=>absurd (of_decide_eq_true h) (by omega),fun _=>fin⟩
  |succ j ih=>
   intro k hk
   exact Ds.eG hz hX hns aG.Ok.nil Tryd.func9 (akj l k) ⟨fun _=>⟨fun _=>⟨by omega,by omega,by omega,by omega,⟨by omega,by omega⟩,ih (k+1) (by omega)⟩,fun _=>fin⟩,fun _=>fin⟩
 refine Ds.eG hz hX hns aG.Ok.nil Tryd.func9 (aqy l) ?_
 exact aaZ (t:=3) (k:=.i64) (n:=0) rfl (loop l.length 0 (by omega))
theorem yc(p:Int):12≤n6 p∧n6 p≤1000∧n6 p=4*(3+(IntKind.u64.wrap p)%248):=by
 have h0:0≤IntKind.u64.wrap p:=by show 0≤p%18446744073709551616;omega
 have e:(IntKind.u64.wrap p).tmod 248=(IntKind.u64.wrap p)%248:=Int.tmod_eq_emod_of_nonneg h0
 have e2:IntKind.i64.wrap ((IntKind.u64.wrap p)%248)=(IntKind.u64.wrap p)%248:=bZ ⟨by omega,by omega⟩
 unfold n6
 rw[e,e2]
 exact⟨by omega,by omega,rfl⟩
theorem aqz{Z:ba}:dg P Z 17 [bo] [bo] (fun _=>[]) (fun(p,())=>(n6 p,())):=by
 refine aw Tryd.func17 (by kernel_rfl) (by kernel_rfl) ?_
 rintro⟨(p:Int),⟨⟩⟩ _ _ X hX hz
 have:=yc p
 unfold n6 at this
 exact Lf.go hz hX aG.Ok.nil Tryd.func17 (auI p) ⟨by omega,zX (by omega) (by omega),zX (by omega) (by omega),uK⟩
theorem aoy{th:Th}{m:As}{fu root:Int}{fr fs gn:Ws}{k:Int}{key val:ByteArray}{op:Option ByteArray}(e:stOp k val=op):
 sDo.fk ((th,m,fu,root,fr,fs,gn),k,key,val)=hT th (op0 th key op m fu root fr fs gn) (op1 th key op m fu root fr fs gn) (v7 th key op m fu root fr fs gn) (op2 th key op m fu root fr fs gn) (op3 th key op m fu root fr fs gn) (op4 th key op m fu root fr fs gn)∧
 sDo.out ((th,m,fu,root,fr,fs,gn),k,key,val)=bJ (opE th key op m fu root fr fs gn):=by
 subst e;exact⟨rfl,rfl⟩
theorem as8:js P Bx.bT 14 sDo:=by
 refine aP Tryd.func14 (by kernel_rfl) (fun x=>Nat.le_of_ble_eq_true (by kernel_rfl)) ?_
 rintro⟨⟨(th:Th),(m:As),(fu:Int),(root:Int),(fr:Ws),(fs:Ws),(gn:Ws)⟩,(k:Int),(key:ByteArray),(val:ByteArray)⟩ ⟨(hd:Ds.bI th m fu),(hf:Bx.okW fr),(hr:0≤root∧root≤65536),_⟩ X hX hz
 refine Ds.eG hz hX (by intro y hy;cases hy) (aG.Ok.cons (sw.sum mPt) (aG.Ok.cons (sC.sum mGt) aG.Ok.nil)) Tryd.func14 (auJ th m fu root fr fs gn k key val) ⟨fun h=>⟨rfl,rfl,hd,hf,hr, ?_⟩,fun h=>⟨rfl,rfl,hd,hf,hr, ?_⟩⟩
 ·obtain⟨f1,f2⟩:=aoy (th:=th) (m:=m) (fu:=fu) (root:=root) (fr:=fr) (fs:=fs) (gn:=gn) (key:=key) (show stOp k val=none from if_pos (by simpa using h))
  exact bS 4 rfl (Nat.le_refl _) f2 f1
 ·obtain⟨f1,f2⟩:=aoy (th:=th) (m:=m) (fu:=fu) (root:=root) (fr:=fr) (fs:=fs) (gn:=gn) (key:=key) (show stOp k val=some val from if_neg (by simpa using h))
  exact bS 4 rfl (Nat.le_refl _) f2 f1
theorem as9{Z:ba}:dg P Z 13 [nU,nU,dG] [ch] (fun(l,qJ,from_,())=>[(qJ:List En)=List.filter (ow from_) l,(l:List En).length≤100000]) (fun _=>(true,())):=by
 refine aw Tryd.func13 (by kernel_rfl) (by kernel_rfl) ?_
 rintro⟨(l:List En),(qJ:List En),(from_:ByteArray),⟨⟩⟩ _ ⟨(hg:qJ=l.filter (ow from_)),(hl:l.length≤100000),_⟩ X hX hz
 show Safe P 13 X (Ends [ch] (true,())) _
 have split:∀k,qJ=(l.take k).filter (ow from_)++(l.drop k).filter (ow from_):=fun k=>by rw[hg,←List.filter_append,List.take_append_drop]
 have loop:∀(j k:Nat),k+j=l.length→Safe P 13 X (Ends [ch] (true,())) (cIs l qJ from_ (((l.take k).filter (ow from_)).length:Int) (k:Int)):=by
  intro j
  induction j with
  |zero=>
   intro k hk
   refine Lf.go hz hX aG.Ok.nil Tryd.func13 (as6 l qJ from_ _ k) ⟨fun h=>absurd (of_decide_eq_true h) (by omega),fun _=> ?_⟩
   have e:((((l.take k).filter (ow from_)).length:Int)==(qJ.length:Int))=true:=by
    rw[List.take_of_length_le (by omega),←hg];simp
   rw[e]
   exact uJ
  |succ j ih=>
   intro k hk
   have s1:=sD (p:=ow from_) (l:=l) (k:=k) (d:=dE) (by omega)
   have s2:=split k
   rw[drop_cons dE (by omega)]at s2
   have hle:=filter_le (ow from_) (l.take k)
   rw[List.length_take]at hle
   have hlg:=congrArg List.length s2
   refine Lf.go hz hX aG.Ok.nil Tryd.func13 (as6 l qJ from_ _ k) ⟨fun _=>⟨by omega,by omega,fun h2=>⟨⟨by omega,by omega⟩, ?_⟩,fun h2=> ?_⟩,fun h=>absurd (of_decide_eq_false h) (by omega)⟩
   ·have h2:slt (l.getD k dE).1 from_=true:=h2
    rw[if_neg (by unfold ow;rw[h2];simp),List.append_nil]at s1
    have:=ih (k+1) (by omega)
    rw[s1]at this
    exact this
   ·have h2:slt (l.getD k dE).1 from_=false:=h2
    have hge:ow from_ (l.getD k dE)=true:=by unfold ow;rw[h2];rfl
    rw[List.filter_cons_of_pos hge]at s2 hlg
    rw[List.length_append,List.length_cons]at hlg
    rw[if_pos hge]at s1
    have hat:qJ.getD ((l.take k).filter (ow from_)).length dE=l.getD k dE:=by
     rw[s2,List.getD,List.getElem?_append_right (Nat.le_refl _),Nat.sub_self];rfl
    refine⟨fun h3=>absurd (of_decide_eq_true h3) (by omega),fun _=>⟨by omega,by omega,by omega,by omega,fun h4=> ?_,fun _=>⟨⟨by omega,by omega⟩,⟨by omega,by omega⟩, ?_⟩⟩⟩
    ·exfalso
     have h4:(!(decide ((qJ.getD ((l.take k).filter (ow from_)).length dE).1=(l.getD k dE).1)&&(decide ((qJ.getD ((l.take k).filter (ow from_)).length dE).2.1=(l.getD k dE).2.1)&&true)))=true:=h4
     rw[hat,decide_eq_true rfl,decide_eq_true rfl]at h4
     cases h4
    ·have:=ih (k+1) (by omega)
     rw[s1,List.length_append]at this
     exact this
 exact Lf.go hz hX aG.Ok.nil Tryd.func13 (auK l qJ from_) (loop l.length 0 (by omega))
end Ts
namespace Ts
open Go Go.Sx Go.Proofs Lf
def sS(th:Th)(s:S5)(l:Bool)(es:List En)(bs:List Br):S5:=
 ⟨(bk th s.m s.fu s.fr s.fs l es bs).1,(bk th s.m s.fu s.fr s.fs l es bs).2.1,(bk th s.m s.fu s.fr s.fs l es bs).2.2.1,(bk th s.m s.fu s.fr s.fs l es bs).2.2.2.1,s.gn⟩
def sL(th:Th)(s:S5)(l:Bool)(es:List En)(bs:List Br):List Br:=(bk th s.m s.fu s.fr s.fs l es bs).2.2.2.2.1
def sE(th:Th)(s:S5)(l:Bool)(es:List En)(bs:List Br):Int:=(bk th s.m s.fu s.fr s.fs l es bs).2.2.2.2.2
def Bad(th:Th)(s t:S5)(k:Nat)(e:Int):Prop:=∃N,qA th s t N []∧N.length≤k∧((e=41∧∀p,In s.fr p→p∈N)∨(e=42∧t.fu=0))
theorem nr(bs:List Br):aa (aa bs)=aa bs:=by cases bs<;>rfl
theorem adK{bs:List Br}{k:Nat}(h:aa bs=bs):aa (bs.take k)=bs.take k:=by
 cases bs with
 |nil=>simp[aa]
 |cons b r=>
  cases k with
  |zero=>rfl
  |succ k=>
   simp only[aa,List.cons.injEq]at h
   simp[aa,h.1]
theorem zP{th:Th}{s:S5}{l:Bool}{es:List En}{bs:List Br}(ho:xr th s)(hm:cW l es (aa bs)=true)(hz:bd es (aa bs)≤254):
 (wE th s l es bs=0∧∃n,qA th s (wS th s l es bs) [n] []∧wB th s l es bs=(cO l es bs,n,())∧Rd th (wS th s l es bs).m n l es (aa bs))∨(wE th s l es bs≠0∧Bad th s (wS th s l es bs) 0 (wE th s l es bs)):=by
 rcases aqi ho hm hz with h|⟨h1,h2,h3⟩|⟨h1,h2,h3⟩
 ·exact .inl h
 ·exact .inr ⟨by rw[h1];decide,[],by rw[h2];exact gM ho,Nat.le_refl _,.inl ⟨h1,fun p hp=>absurd hp (h3 p)⟩⟩
 ·exact .inr ⟨by rw[h1];decide,[],h2,Nat.le_refl _,.inr ⟨h1,h3⟩⟩
theorem afr{th:Th}{s:S5}{l:Bool}{es:List En}{bs:List Br}(ho:xr th s)(h:es.length+bs.length=0):sE th s l es bs=0∧sL th s l es bs=[]∧qA th s (sS th s l es bs) [] []:=by
 have e:bk th s.m s.fu s.fr s.fs l es bs=(s.m,s.fu,s.fr,s.fs,[],0):=by unfold bk;rw[if_pos h]
 refine⟨by unfold sE;rw[e],by unfold sL;rw[e], ?_⟩
 have:sS th s l es bs=s:=by unfold sS;rw[e]
 rw[this];exact gM ho
theorem akk{th:Th}{s:S5}{l:Bool}{es:List En}{bs:List Br}(ho:xr th s)(h:0<es.length+bs.length)(hm:cW l es (aa bs)=true)(hz:bd es (aa bs)≤254):
 (sE th s l es bs=0∧∃n,qA th s (sS th s l es bs) [n] []∧sL th s l es bs=[(cO l es (aa bs),n,())]∧Rd th (sS th s l es bs).m n l es (aa bs))∨(sE th s l es bs≠0∧Bad th s (sS th s l es bs) 1 (sE th s l es bs)):=by
 have e1:sE th s l es bs=wE th s l es (aa bs):=by unfold sE wE bk;rw[if_neg (by omega),if_pos hz]
 have e2:sS th s l es bs=wS th s l es (aa bs):=by unfold sS wS bk;rw[if_neg (by omega),if_pos hz]
 have e3:sL th s l es bs=[wB th s l es (aa bs)]:=by unfold sL wB bk;rw[if_neg (by omega),if_pos hz]
 rw[e1,e2,e3]
 have:=zP (bs:=aa bs) ho (by rw[nr];exact hm) (by rw[nr];exact hz)
 rw[nr]at this
 rcases this with⟨a,n,b,c,d⟩|⟨a,N,b,c,d⟩
 ·exact .inl ⟨a,n,b,by rw[c],d⟩
 ·exact .inr ⟨a,N,b,Nat.le_succ_of_le c,d⟩
theorem akl{th:Th}{s:S5}{l:Bool}{es:List En}{bs:List Br}(ho:xr th s)(h:0<es.length+bs.length)(hz:¬bd es (aa bs)≤254)(ok:di l es (aa bs)=true)
 (z1:bd (aY l es (aa bs)) (aa (a8 l es (aa bs)))≤254) (z2:bd (cI l es (aa bs)) (aa (cQ l es (aa bs)))≤254)
 (m1:cW (bL l es (aa bs)) (aY l es (aa bs)) (aa (a8 l es (aa bs)))=true) (m2:cW (bL l es (aa bs)) (cI l es (aa bs)) (aa (cQ l es (aa bs)))=true):
 (sE th s l es bs=0∧∃a b,qA th s (sS th s l es bs) [a,b] []∧sL th s l es bs=[(cO (bL l es (aa bs)) (aY l es (aa bs)) (a8 l es (aa bs)),a,()),(cO (bL l es (aa bs)) (cI l es (aa bs)) (cQ l es (aa bs)),b,())]∧
   Rd th (sS th s l es bs).m a (bL l es (aa bs)) (aY l es (aa bs)) (aa (a8 l es (aa bs)))∧Rd th (sS th s l es bs).m b (bL l es (aa bs)) (cI l es (aa bs)) (aa (cQ l es (aa bs))))∨(sE th s l es bs≠0∧Bad th s (sS th s l es bs) 1 (sE th s l es bs)):=by
 have y9:¬spC l es (aa bs)≠0:=by unfold spC;rw[if_pos ok];simp
 have ed:bk th s.m s.fu s.fr s.fs l es bs=if wE th s (bL l es (aa bs)) (aY l es (aa bs)) (a8 l es (aa bs))≠0 then
  ((wS th s (bL l es (aa bs)) (aY l es (aa bs)) (a8 l es (aa bs))).m,(wS th s (bL l es (aa bs)) (aY l es (aa bs)) (a8 l es (aa bs))).fu,(wS th s (bL l es (aa bs)) (aY l es (aa bs)) (a8 l es (aa bs))).fr,(wS th s (bL l es (aa bs)) (aY l es (aa bs)) (a8 l es (aa bs))).fs,[],wE th s (bL l es (aa bs)) (aY l es (aa bs)) (a8 l es (aa bs)))
  else((wS th (wS th s (bL l es (aa bs)) (aY l es (aa bs)) (a8 l es (aa bs))) (bL l es (aa bs)) (cI l es (aa bs)) (cQ l es (aa bs))).m,(wS th (wS th s (bL l es (aa bs)) (aY l es (aa bs)) (a8 l es (aa bs))) (bL l es (aa bs)) (cI l es (aa bs)) (cQ l es (aa bs))).fu,
   (wS th (wS th s (bL l es (aa bs)) (aY l es (aa bs)) (a8 l es (aa bs))) (bL l es (aa bs)) (cI l es (aa bs)) (cQ l es (aa bs))).fr,(wS th (wS th s (bL l es (aa bs)) (aY l es (aa bs)) (a8 l es (aa bs))) (bL l es (aa bs)) (cI l es (aa bs)) (cQ l es (aa bs))).fs,
   [wB th s (bL l es (aa bs)) (aY l es (aa bs)) (a8 l es (aa bs)),wB th (wS th s (bL l es (aa bs)) (aY l es (aa bs)) (a8 l es (aa bs))) (bL l es (aa bs)) (cI l es (aa bs)) (cQ l es (aa bs))],wE th (wS th s (bL l es (aa bs)) (aY l es (aa bs)) (a8 l es (aa bs))) (bL l es (aa bs)) (cI l es (aa bs)) (cQ l es (aa bs))):=by
  unfold bk
  rw[if_neg (by omega),if_neg hz,if_neg y9]
  rfl
 generalize bL l es (aa bs)=L at *
 generalize aY l es (aa bs)=E1 at *
 generalize cI l es (aa bs)=E2 at *
 generalize a8 l es (aa bs)=B1 at *
 generalize cQ l es (aa bs)=B2 at *
 rcases zP ho m1 z1 with⟨a,n,b,c,d⟩|⟨a,N,b,c,d⟩
 ·rw[if_neg (by rw[a];simp)]at ed
  have ho2:=b.ok
  have e2:sS th s l es bs=wS th (wS th s L E1 B1) L E2 B2:=by unfold sS;rw[ed];rfl
  have e3:sL th s l es bs=[wB th s L E1 B1,wB th (wS th s L E1 B1) L E2 B2]:=by unfold sL;rw[ed]
  have e4:sE th s l es bs=wE th (wS th s L E1 B1) L E2 B2:=by unfold sE;rw[ed]
  rw[e2,e3,e4]
  rcases zP ho2 m2 z2 with⟨a2,n2,b2,c2,d2⟩|⟨a2,N2,b2,c2,d2⟩
  ·refine .inl ⟨a2,n,n2,eK b b2 (fun p hp=>by cases hp),by rw[c,c2], ?_,d2⟩
   exact Rd.same d (b2.rd n (fun hh=>((b.fr n).1 hh).2 List.mem_cons_self))
  ·refine .inr ⟨a2,[n]++N2,eK b b2 (fun p hp=>by cases hp),by rw[List.length_append,List.length_singleton];omega,d2.imp (fun h=>⟨h.1,fun p hp=> ?_⟩) id⟩
   by_cases hpn:p∈[n]
   ·exact List.mem_append_left _ hpn
   ·exact List.mem_append_right _ (h.2 p ((b.fr p).2 ⟨hp,hpn⟩))
 ·rw[if_pos a]at ed
  have e2:sS th s l es bs=wS th s L E1 B1:=by unfold sS;rw[ed];rfl
  have e4:sE th s l es bs=wE th s L E1 B1:=by unfold sE;rw[ed]
  rw[e2,e4]
  exact .inr ⟨a,N,b,Nat.le_succ_of_le c,d⟩
end Ts
namespace Ts
open Go Go.Sx Go.Proofs Lf
structure For (th:Th) (m:As) (h:Nat) (F:List (Kd h)):Prop where
 bare:bR F=F
 rep:∀k∈F,rep th m h k.2
 ok:∀k∈F,qc h k.2
 sep:abH h F
 key:∀k∈F,k.1.size≤24
 pg:∀k∈F,2≤pg h k.2∧pg h k.2<1024
theorem afs{th:Th}{m:As}{h:Nat}:For th m h []:=⟨rfl,fun k hk=>(by cases hk),fun k hk=>(by cases hk),⟨List.Pairwise.nil,fun k hk=>(by cases hk)⟩,fun k hk=>(by cases hk),fun k hk=>(by cases hk)⟩
theorem aft{th:Th}{m:As}{h:Nat}{t:TN h}(h1:rep th m h t)(h2:qc h t)(h3:2≤pg h t∧pg h t<1024):For th m h [(ByteArray.empty,t)]:=
 ⟨rfl,fun k hk=>by rw[List.mem_singleton.1 hk];exact h1,fun k hk=>by rw[List.mem_singleton.1 hk];exact h2,⟨List.pairwise_singleton _ _,fun k hk e _=>by rw[List.mem_singleton.1 hk];exact gk _⟩,
   fun k hk=>by rw[List.mem_singleton.1 hk];exact Nat.zero_le _,fun k hk=>by rw[List.mem_singleton.1 hk];exact h3⟩
theorem afu{th:Th}{m:As}{h:Nat}{t u:TN h}{s:ByteArray}(h1:rep th m h t)(h2:qc h t)(h3:2≤pg h t∧pg h t<1024)(g1:rep th m h u)(g2:qc h u)(g3:2≤pg h u∧pg h u<1024)
 (hs:s.size≤24) (a:∀e∈dV h t,slt e.1 s=true) (b:∀e∈dV h u,slt e.1 s=false):For th m h [(ByteArray.empty,t),(s,u)]:=by
 have two:∀{p:Kd h→Prop},p (ByteArray.empty,t)→p (s,u)→∀k∈[((ByteArray.empty,t):Kd h),(s,u)],p k:=fun hp hq k hk=>by
  rcases List.mem_cons.1 hk with rfl|hk
  ·exact hp
  ·rw[List.mem_singleton.1 hk];exact hq
 refine⟨rfl,two h1 g1,two h2 g2,⟨?_,two (p:=fun k=>∀e∈dV h k.2,slt e.1 k.1=false) (fun e _=>gk _) b⟩,two (Nat.zero_le _) hs,two h3 g3⟩
 rw[List.pairwise_cons]
 exact⟨fun k hk e he=>by rw[List.mem_singleton.1 hk];exact a e he,List.pairwise_singleton _ _⟩
theorem For.same{th:Th}{s t:S5}{N V:List Int}(e:qA th s t N V){h:Nat}{F:List (Kd h)}(f:For th s.m h F)(hp:∀p∈bM h F,¬In s.fr p):For th t.m h F:=
 ⟨f.bare,fun k hk=>e.rep h (f.rep k hk) fun p jV=>hp p (List.mem_flatMap.2 ⟨k,hk,jV⟩),f.ok,f.sep,f.key,f.pg⟩
theorem rP{th:Th}{s:S5}(ho:xr th s){n:Int}(h:In s.fr n):2≤n∧n<1024:=⟨(ho.pg n h).1,(nk ho.fr h).2⟩
theorem am1{th:Th}{s:S5}{es:List En}(ho:xr th s)(jr:jt es=true)(y9:¬bd es []≤254→di true es []=true∧bd (aY true es []) []≤254∧bd (cI true es []) []≤254∧
 ∃k,0<k∧k<es.length∧aY true es []=es.take k∧cI true es []=es.drop k∧a8 true es []=[]∧cQ true es []=[]∧bL true es []=true):
 (sE th s true es []=0∧∃(N:List Int) (k0:ByteArray) (F:List (Kd 0)),qA th s (sS th s true es []) N []∧N.length≤2∧sL th s true es []=kK k0 (F.map (cH 0))∧For th (sS th s true es []).m 0 F∧bQ 0 F=es∧bM 0 F=N∧F.length≤2∧(bd es []≤254→F.length≤1))∨
 (sE th s true es []≠0∧Bad th s (sS th s true es []) 1 (sE th s true es [])):=by
 have hm:=ase jr
 by_cases h0:es.length=0
 ·obtain⟨a,b,c⟩:=afr (l:=true) (es:=es) (bs:=[]) ho (by rw[h0];rfl)
  obtain rfl:es=[]:=List.eq_nil_of_length_eq_zero h0
  exact .inl ⟨a,[],ByteArray.empty,[],c,Nat.zero_le _,b,afs,rfl,rfl,Nat.zero_le _,fun _=>Nat.zero_le _⟩
 by_cases hz:bd es []≤254
 ·rcases akk (l:=true) (es:=es) (bs:=[]) ho (by simp only[List.length_nil];omega) hm hz with⟨a,n,b,c,d⟩|h
  ·refine .inl ⟨a,[n],cO true es [],[(ByteArray.empty,(n,es))],b,by simp,c,aft d ⟨fun e=>h0 (by show es.length=0;rw[show es=[]from e];rfl),jr,hz⟩ (rP ho (b.sub n List.mem_cons_self)), ?_,rfl,by simp,fun _=>by simp⟩
   show es++[]=es
   rw[List.append_nil]
  ·exact .inr h
 ·obtain⟨ok,z1,z2,k,k0,k1,e1,e2,e3,e4,e5⟩:=y9 hz
  have bn:aa ([]:List Br)=[]:=rfl
  have hmt:=abC hm k
  have hmd:=abD hm k
  rw[List.take_nil]at hmt
  rw[List.drop_nil]at hmd
  have key:=akl (l:=true) (es:=es) (bs:=[]) ho (by simp only[List.length_nil];omega) hz ok (by rw[bn,e3];exact z1) (by rw[bn,e4];exact z2) (by rw[bn,e3,e1,e5];exact hmt) (by rw[bn,e4,e2,e5];exact hmd)
  rw[bn,e1,e2,e3,e4,e5]at key
  rw[e1]at z1
  rw[e2]at z2
  rcases key with⟨a,n,n2,b,c,d1,d2⟩|h
  ·obtain⟨m1,m2⟩:=abJ.1 jr
   have auL:es.drop k≠[]:=fun e=>by have:=congrArg List.length e;rw[List.length_drop,List.length_nil]at this;omega
   have aqA:es.take k≠[]:=fun e=>by have:=congrArg List.length e;rw[List.length_take,List.length_nil]at this;omega
   have hk:cO true (es.drop k) []=(es.getD k dE).1:=by
    unfold cO
    rw[if_pos rfl,jT,Nat.add_zero]
   have yY:es.getD k dE=es[k]:=bg k1
   have low:∀i,i<k→slt (es.getD i dE).1 (es.getD k dE).1=true:=fun i hi=>by
    have:=m2 i k hi (by simpa using k1)
    rw[cq es oZ dE i,cq es oZ dE k]at this
    exact this
   have high:∀i,k≤i→i<es.length→slt (es.getD i dE).1 (es.getD k dE).1=false:=fun i hi hl=>by
    by_cases e:i=k
    ·rw[e];exact dC _
    ·have:=m2 k i (by omega) (by simpa using hl)
     rw[cq es oZ dE i,cq es oZ dE k]at this
     exact rr this
   refine .inl ⟨a,[n,n2],cO true (es.take k) [],[(ByteArray.empty,(n,es.take k)),(cO true (es.drop k) [],(n2,es.drop k))],b,by simp,c, ?_, ?_,rfl,by simp,fun h=>absurd h hz⟩
   ·refine afu (h:=0) d1 ⟨aqA,xP jr k,z1⟩ (rP ho (b.sub n List.mem_cons_self)) d2 ⟨auL,xR jr k,z2⟩ (rP ho (b.sub n2 (List.mem_cons_of_mem _ List.mem_cons_self))) ?_ (fun e he=> ?_) (fun e he=> ?_)
    ·rw[hk,yY];exact(m1 _ (List.getElem_mem k1)).2.1
    ·obtain⟨i,hi,rfl⟩:=List.getElem_of_mem (show e∈es.take k from he)
     rw[List.length_take]at hi
     rw[hk,List.getElem_take]
     have:=low i (by omega)
     rw[bg (by omega)]at this
     exact this
    ·obtain⟨i,hi,rfl⟩:=List.getElem_of_mem (show e∈es.drop k from he)
     rw[List.length_drop]at hi
     rw[hk,List.getElem_drop]
     have:=high (k+i) (by omega) (by omega)
     rw[bg (by omega)]at this
     exact this
   ·show es.take k++(es.drop k++[])=es
    rw[List.append_nil,List.take_append_drop]
  ·exact .inr h
theorem afv{th:Th}{s:S5}{h:Nat}{Q:List (Kd h)}{bs:List Br}(ho:xr th s)(hb:aa bs=Q.map (cH h))(hQ:Q≠[])(f:For th s.m h Q)(hp:∀p∈bM h Q,¬In s.fr p)(jr:gq (Q.map (cH h))=true)(bE:mm h Q≤281):
 (sE th s false [] bs=0∧∃(N:List Int) (k0:ByteArray) (F:List (Kd (h+1))),qA th s (sS th s false [] bs) N []∧N.length≤2∧sL th s false [] bs=kK k0 (F.map (cH (h+1)))∧For th (sS th s false [] bs).m (h+1) F∧bQ (h+1) F=bQ h Q∧
   (bM (h+1) F).Perm (N++bM h Q)∧((mm h Q≤254∧F.length=1∧eR (h+1) F=3^(h+1)*(19+zW (mm h Q))+eR h Q)∨(254<mm h Q∧F.length=2∧eR (h+1) F=3^(h+1)*38+eR h Q)))∨
 (sE th s false [] bs≠0∧Bad th s (sS th s false [] bs) 1 (sE th s false [] bs)):=by
 have hl:0<bs.length:=by
  have e:(aa bs).length=bs.length:=xU bs
  rw[hb,List.length_map]at e
  have:=List.length_pos_iff.2 hQ
  omega
 have hm:=amm jr
 have hs0:mm h Q=bd [] (Q.map (cH h)):=rfl
 have stay:∀{t:S5} {N:List Int},qA th s t N []→∀k∈Q,rep th t.m h k.2:=fun e k hk=>e.rep h (f.rep k hk) fun p jV=>hp p (List.mem_flatMap.2 ⟨k,hk,jV⟩)
 by_cases hz:mm h Q≤254
 ·rcases akk (l:=false) (es:=[]) (bs:=bs) ho (by simp only[List.length_nil];omega) (by rw[hb];exact hm) (by rw[hb];exact hz)with⟨a,n,b,c,d⟩|h
  ·rw[hb]at c d
   refine .inl ⟨a,[n],cO false [] (Q.map (cH h)),[(ByteArray.empty,(n,Q))],b,by simp,c,aft (h:=h+1) ⟨d,stay b⟩ ⟨hQ,f.bare,jr,hz,f.sep,f.ok⟩ (rP ho (b.sub n List.mem_cons_self)), ?_, ?_,.inl ⟨hz,rfl, ?_⟩⟩
   ·show bQ h Q++[]=_
    rw[List.append_nil]
   ·show(n::bM h Q++[]).Perm (n::bM h Q)
    rw[List.append_nil]
   ·rw[ic]
    rfl
  ·exact .inr h
 ·obtain⟨ok,z1,z2,k,k0,k1,e1,e2,e3,e4,e5⟩:=ajG jr (by rw[←hs0];omega) (by rw[←hs0];exact bE)
  have hbt:aa ((Q.map (cH h)).take k)=(Q.map (cH h)).take k:=adK (by rw[jE,f.bare])
  have akm:=xQ jr k
  have akn:=xZ (xS jr k)
  have zd:bd [] (aa ((Q.map (cH h)).drop k))≤154:=by
   have s1:=qB (aa ((Q.map (cH h)).drop k))
   have s2:=qB ((Q.map (cH h)).drop k)
   have s3:=rK ((Q.map (cH h)).drop k)
   rw[e2]at z2
   omega
  have key:=akl (l:=false) (es:=[]) (bs:=bs) ho (by simp only[List.length_nil];omega) (by rw[hb];exact hz) (by rw[hb];exact ok)
  rw[hb,e1,e2,e3,e4,e5,hbt]at key
  rw[e1]at z1
  have key:=key (by omega) (by omega) (amm akm) (amm akn)
  rcases key with⟨a,n,n2,b,c,d1,d2⟩|h
  ·have eT:(Q.map (cH h)).take k=(Q.take k).map (cH h):=by rw[List.map_take]
   have eD:aa ((Q.map (cH h)).drop k)=(bR (Q.drop k)).map (cH h):=by rw[←List.map_drop,jE]
   rw[List.length_map]at k1
   have eQ:Q=Q.take k++Q.drop k:=(List.take_append_drop k Q).symm
   obtain⟨q,r,eqd⟩:∃q r,Q.drop k=q::r:=List.exists_cons_of_ne_nil (fun e=>by have:=congrArg List.length e;rw[List.length_drop,List.length_nil]at this;omega)
   have aqA:Q.take k≠[]:=fun e=>by have:=congrArg List.length e;rw[List.length_take,List.length_nil]at this;omega
   have hqm:q∈Q:=by rw[eQ,eqd];exact List.mem_append_right _ List.mem_cons_self
   have hk:cO false [] ((Q.map (cH h)).drop k)=q.1:=by
    unfold cO
    rw[if_neg (by simp),←List.map_drop,eqd]
    rfl
   have sp:=f.sep
   have sp1:=sp.1
   rw[eQ,List.pairwise_append]at sp1
   have up:=(fO.1 jr).2
   rw[eQ,List.map_append,List.pairwise_append]at up
   have mT:∀x∈Q.take k,x∈Q:=fun x hx=>List.mem_of_mem_take hx
   have mD:∀x∈Q.drop k,x∈Q:=fun x hx=>List.mem_of_mem_drop hx
   have okA:qc (h+1) (n,Q.take k):=by
    refine⟨aqA, ?_,by rw[←eT];exact akm,by rw[mm,←eT];omega,⟨sp1.1,fun x hx=>sp.2 x (mT x hx)⟩,fun x hx=>f.ok x (mT x hx)⟩
    show bR (Q.take k)=Q.take k
    have:=f.bare
    cases Q with
    |nil=>exact absurd rfl hQ
    |cons x y=>
     cases k with
     |zero=>omega
     |succ k=>simp only[bR,List.cons.injEq]at this;simp[bR,this.1]
   have okB:qc (h+1) (n2,bR (Q.drop k)):=by
    refine⟨by rw[eqd];exact List.cons_ne_nil _ _,vE _,by rw[←eD];exact akn,by rw[mm,←eD];omega,⟨?_,fun x hx e he=> ?_⟩,fun x hx=> ?_⟩
    ·have p2:=sp1.2.1
     rw[eqd]at p2 ⊢
     rw[List.pairwise_cons]at p2
     rw[bR,List.pairwise_cons]
     exact p2
    ·obtain⟨x',w5,e2,e3⟩:=gm hx
     rcases e3 with e3|e3
     ·rw[e3];exact gk _
     ·subst e3;exact sp.2 x (mD x w5) e he
    ·obtain⟨x',w5,e2,_⟩:=gm hx
     rw[←e2]
     exact f.ok x' (mD x' w5)
   have auM:rep th (sS th s false [] bs).m (h+1) (n,Q.take k):=⟨by rw[←eT];exact d1,fun x hx=>stay b x (mT x hx)⟩
   have auN:rep th (sS th s false [] bs).m (h+1) (n2,bR (Q.drop k)):=⟨by rw[←eD];exact d2,fun x hx=>by
    obtain⟨x',w5,e2,_⟩:=gm hx
    rw[←e2]
    exact stay b x' (mD x' w5)⟩
   refine .inl ⟨a,[n,n2],_,[(ByteArray.empty,(n,Q.take k)),(q.1,(n2,bR (Q.drop k)))],b,by simp,by rw[c,hk];rfl,afu auM okA (rP ho (b.sub n List.mem_cons_self)) auN okB (rP ho (b.sub n2 (List.mem_cons_of_mem _ List.mem_cons_self))) (f.key q hqm) (fun e he=> ?_) (fun e he=> ?_), ?_, ?_,.inr ⟨by omega,rfl, ?_⟩⟩
   ·have he:e∈bQ h (Q.take k):=he
    obtain⟨x,hx,hxe⟩:=List.mem_flatMap.1 he
    exact sp1.2.2 x hx q (by rw[eqd];exact List.mem_cons_self) e hxe
   ·have he:e∈bQ h (bR (Q.drop k)):=he
    rw[pn]at he
    obtain⟨x,hx,hxe⟩:=List.mem_flatMap.1 he
    have h1:=sp.2 x (mD x hx) e hxe
    rw[eqd]at hx
    rcases List.mem_cons.1 hx with rfl|hx
    ·exact h1
    ·have u:=up.2.1
     rw[eqd,List.map_cons,List.pairwise_cons]at u
     have u:=u.1 (cH h x) (List.mem_map_of_mem hx)
     cases hh:slt e.1 q.1
     ·rfl
     ·have h2:slt e.1 x.1=true:=cv hh u
      rw[h2]at h1;cases h1
   ·show bQ h (Q.take k)++(bQ h (bR (Q.drop k))++[])=_
    rw[List.append_nil,pn,←jC,←eQ]
   ·show(n::bM h (Q.take k)++(n2::bM h (bR (Q.drop k))++[])).Perm (n::n2::bM h Q)
    rw[List.append_nil,xX]
    have e:bM h Q=bM h (Q.take k)++bM h (Q.drop k):=by rw[←qy,←eQ]
    rw[e]
    refine List.Perm.cons n ?_
    exact List.perm_middle
   ·rw[ic,ic]
    show 3^(h+1)*(19+zW (mm h (Q.take k)))+eR h (Q.take k)+(3^(h+1)*(19+zW (mm h (bR (Q.drop k))))+eR h (bR (Q.drop k))+0)=_
    have o1:zW (mm h (Q.take k))=0:=by unfold zW;rw[mm,←eT];omega
    have o2:zW (mm h (bR (Q.drop k)))=0:=by unfold zW;rw[mm,←eD];omega
    have e:eR h Q=eR h (Q.take k)+eR h (Q.drop k):=by rw[←qz,←eQ]
    rw[o1,o2,xY,e]
    omega
  ·exact .inr h
end Ts
