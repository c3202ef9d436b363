/- Lemmas: N7, M2, M3, N8, N9, N10, N11, N12, N13, N14, N15, SxLit, SxRenew, N16, N17, N18, N19, N20, N21, M4, M5, M6, M7, M8. -/
import Derived.Test.YtcjldfgkonfocaaDoorPD
namespace Ts
open Go Go.Sx Go.Proofs Lf
abbrev XC:Type:=XT×Int×Int×ByteArray×ByteArray
abbrev fP1:FuncId:=49
abbrev fD1:FuncId:=51
abbrev tm(s:ByteArray):ae:=.own [.s (.str s)] 9
abbrev qw(th:Th)(m:As)(fu root:Int)(fr fs gn:Ws)(key val:ByteArray):List ae:=hT th m fu root fr fs gn++[tm key,tm val]
abbrev qx(th:Th)(m:As)(fu root:Int)(fr fs gn:Ws)(key:ByteArray):List ae:=hT th m fu root fr fs gn++[tm key]
def an8(f:Nat)(th:Th)(m:As)(fu:Int)(fr:Ws)(n deep:Int)(key val:ByteArray):List Prop:=[Ds.bR th m fu,Bx.okW fr,0≤n∧n≤65536,1≤deep∧deep≤17,18≤deep+(f:Int),1≤key.size∧key.size≤24,val.size≤100]
def pd(th:Th)(key:ByteArray)(op:Option ByteArray)(f:Nat)(m:As)(fu:Int)(fr fs gn:Ws)(n deep:Int):As:=(vA th key op f m fu fr fs gn n deep).1
def pe(th:Th)(key:ByteArray)(op:Option ByteArray)(f:Nat)(m:As)(fu:Int)(fr fs gn:Ws)(n deep:Int):Int:=(vA th key op f m fu fr fs gn n deep).2.1
def pf(th:Th)(key:ByteArray)(op:Option ByteArray)(f:Nat)(m:As)(fu:Int)(fr fs gn:Ws)(n deep:Int):Ws:=(vA th key op f m fu fr fs gn n deep).2.2.1
def qy(th:Th)(key:ByteArray)(op:Option ByteArray)(f:Nat)(m:As)(fu:Int)(fr fs gn:Ws)(n deep:Int):Ws:=(vA th key op f m fu fr fs gn n deep).2.2.2.1
def rJ(th:Th)(key:ByteArray)(op:Option ByteArray)(f:Nat)(m:As)(fu:Int)(fr fs gn:Ws)(n deep:Int):Ws:=(vA th key op f m fu fr fs gn n deep).2.2.2.2.1
def sP(th:Th)(key:ByteArray)(op:Option ByteArray)(f:Nat)(m:As)(fu:Int)(fr fs gn:Ws)(n deep:Int):List Br:=(vA th key op f m fu fr fs gn n deep).2.2.2.2.2.1
def rK(th:Th)(key:ByteArray)(op:Option ByteArray)(f:Nat)(m:As)(fu:Int)(fr fs gn:Ws)(n deep:Int):Int:=(vA th key op f m fu fr fs gn n deep).2.2.2.2.2.2
abbrev wO(f:Nat):Spec XC:=⟨fun(_,n,deep,key,_)=>[.ptr 0 0,bQ n,bQ deep,.s (.str key),.fn fP1 [.ptr 4 0,.ptr 5 0]],fun((th,m,fu,root,fr,fs,gn),_,_,key,val)=>qw th m fu root fr fs gn key val,
 fun((th,m,fu,_,fr,_,_),n,deep,key,val)=>an8 f th m fu fr n deep key val,
 fun((th,m,fu,root,fr,fs,gn),n,deep,key,val)=>qw th (pd th key (some val) f m fu fr fs gn n deep) (pe th key (some val) f m fu fr fs gn n deep) root (pf th key (some val) f m fu fr fs gn n deep) (qy th key (some val) f m fu fr fs gn n deep) (rJ th key (some val) f m fu fr fs gn n deep) key val++[.vec (.ad cB (sP th key (some val) f m fu fr fs gn n deep)) Lf.eB],
 fun((th,m,fu,_,fr,fs,gn),n,deep,key,val)=>.bm [.vec 6,bQ (rK th key (some val) f m fu fr fs gn n deep)]⟩
abbrev wP(f:Nat):Spec XC:=⟨fun(_,n,deep,key,_)=>[.ptr 0 0,bQ n,bQ deep,.s (.str key),.fn fD1 [.ptr 4 0]],fun((th,m,fu,root,fr,fs,gn),_,_,key,_)=>qx th m fu root fr fs gn key,
 fun((th,m,fu,_,fr,_,_),n,deep,key,val)=>an8 f th m fu fr n deep key val,
 fun((th,m,fu,root,fr,fs,gn),n,deep,key,_)=>qx th (pd th key none f m fu fr fs gn n deep) (pe th key none f m fu fr fs gn n deep) root (pf th key none f m fu fr fs gn n deep) (qy th key none f m fu fr fs gn n deep) (rJ th key none f m fu fr fs gn n deep) key++[.vec (.ad cB (sP th key none f m fu fr fs gn n deep)) Lf.eB],
 fun((th,m,fu,_,fr,fs,gn),n,deep,key,_)=>.bm [.vec 5,bQ (rK th key none f m fu fr fs gn n deep)]⟩
def ajz(i:Nat):(ByteArray→RM (XC×List Nat))→RM (XC×List Nat):=fun k=>.look i fun o=>match o with
 |some (.own [.s (.str s)] _)=>k s
 |_=>.fail "no text"
def ame:List AV→RM (XC×List Nat)
 |[t,n,d,.s (.str _),.fn _ [.ptr i 0,.ptr j 0]]=>(mT [t]).bind fun(X,σ)=>match n.dd,d.dd with
  |some (_,_,n),some (_,_,d)=>ajz i fun key=>ajz j fun val=>.ret ((X,n,d,key,val),σ++[i,j])
  |_,_=>.fail "no numbers"
 |_=>.fail "change: arguments"
def amf:List AV→RM (XC×List Nat)
 |[t,n,d,.s (.str _),.fn _ [.ptr i 0]]=>(mT [t]).bind fun(X,σ)=>match n.dd,d.dd with
  |some (_,_,n),some (_,_,d)=>ajz i fun key=>.ret ((X,n,d,key,ByteArray.empty),σ++[i])
  |_,_=>.fail "no numbers"
 |_=>.fail "change: arguments"
def mNo:List AV→RM ((XT×Int×Int)×List Nat)
 |[t,n,d]=>(mT [t]).bind fun(X,σ)=>match n.dd,d.dd with
  |some (_,_,n),some (_,_,d)=>.ret ((X,n,d),σ)
  |_,_=>.fail "no numbers"
 |_=>.fail "node: arguments"
def mLv:List AV→RM ((XT×Int)×List Nat)
 |[t,n]=>(mT [t]).bind fun(X,σ)=>match n.dd with
  |some (_,_,n)=>.ret ((X,n),σ)
  |_=>.fail "no numbers"
 |_=>.fail "leave: arguments"
abbrev abG:=dJ sNo mNo
abbrev ajA:=dJ sLv mLv
abbrev x7:=an6 (dJ sWs mTN)
abbrev an9:=uF [nX,dD,dD] [nX] (fun(l,_,_,())=>[(l:List En).length≤100000,gW (bu l)]) (fun(l,key,val,())=>(bt l key val,()))
abbrev aoa:=bW [nX,dD] [nX,cf] (fun(l,_,())=>[(l:List En).length≤100000,gW (bu l)]) (fun(l,key,())=>(bS l key,fL l key,()))
abbrev aqe:=bW [wH,dD] [bo] (fun(l,_,())=>[(l:List Br).length≤1000000,gW (l9 l)]) (fun(l,key,())=>(aS l key,()))
def ow(f:Nat):aH:=[(37,abG),(85,ajA),(66,x7),(50,an9),(39,aqe),(92,sJ),(80,dJ (wO f) ame)]
def oz(f:Nat):aH:=[(37,abG),(85,ajA),(66,x7),(52,aoa),(39,aqe),(92,sJ),(80,dJ (wP f) amf)]
abbrev eN:TypeId:=73
def adH:List (Nat×Norm):=[(5,⟨[],[0,1,4,12],6,[]⟩),(10,⟨[],[0,1,2,3,4,12],6,[]⟩),(14,⟨[],[0,1,12,13,14,15],6,[]⟩),(18,⟨[],[0,1,12,14,15],6,[]⟩)]
noncomputable def asd(th:Th)(m:As)(fu root:Int)(fr fs gn:Ws)(n:Int)(key val:ByteArray)(es:List En)(bs:List Br):bx:=
 ⟨sl 106 [(0,.ptr 0 0),(1,bQ n),(4,.fn fP1 [.ptr 4 0,.ptr 5 0]),(12,.ptr 6 0)],qw th m fu root fr fs gn key val++[obN true es bs eN],hr Tryd.f80 5,{}⟩
noncomputable def aob(th:Th)(m:As)(fu root:Int)(fr fs gn:Ws)(n deep:Int)(key val:ByteArray)(l:Bool)(es:List En)(bs:List Br):bx:=
 ⟨sl 106 [(0,.ptr 0 0),(1,bQ n),(2,bQ deep),(3,.s (.str key)),(4,.fn fP1 [.ptr 4 0,.ptr 5 0]),(12,.ptr 6 0)],qw th m fu root fr fs gn key val++[obN l es bs eN],hr Tryd.f80 10,{}⟩
noncomputable def aoc(th:Th)(m:As)(fu root:Int)(fr fs gn:Ws)(n:Int)(key val:ByteArray)(l:Bool)(es:List En)(bs:List Br)(k e:Int)(r:List Br):bx:=
 ⟨sl 106 [(0,.ptr 0 0),(1,bQ n),(12,.ptr 6 0),(13,bQ e),(14,bQ k),(15,.vec 7)],qw th m fu root fr fs gn key val++[obN l es bs eN,.vec (.ad cB r) Lf.eB],hr Tryd.f80 14,{}⟩
noncomputable def aod(th:Th)(m:As)(fu root:Int)(fr fs gn:Ws)(n:Int)(key val:ByteArray)(l:Bool)(es:List En)(bs:List Br)(k:Int)(r:List Br):bx:=
 ⟨sl 106 [(0,.ptr 0 0),(1,bQ n),(12,.ptr 6 0),(14,bQ k),(15,.vec 7)],qw th m fu root fr fs gn key val++[obN l es bs eN,.vec (.ad cB r) Lf.eB],hr Tryd.f80 18,{}⟩
theorem auj(f:Nat)(th:Th)(m:As)(fu root:Int)(fr fs gn:Ws)(n deep:Int)(key val:ByteArray):run P (ow f).sum Tryd.f80 adH (start Tryd.f80 [.ptr 0 0,bQ n,bQ deep,.s (.str key),.fn fP1 [.ptr 4 0,.ptr 5 0]] (qw th m fu root fr fs gn key val)) (inl:=[fP1])=
 Tree.need (bK (some [AV.ptr 0 0,.s (.int .i64 n),.s (.int .i64 deep)])) (.need (bK (some [ae.own [.ptr 1 0,.s (.int .i64 root),.ints .u64 16 fr,.ints .u64 16 fs,.ints .u64 16 gn] 70,.own [.vec 2,.ag 3,.s (.int .i64 fu)] 96,.vec (.ad [.arr .u8 64] th) 138,.map (.arr .u8 64) m])) (.need (Ds.bR th m fu) (.need (ax n) (.ite (gU th m n deep !=0) (.ret [.own [.ptr 1 0,.s (.int .i64 root),.ints .u64 16 fr,.ints .u64 16 fs,.ints .u64 16 gn] 70,.own [.vec 2,.ag 3,.s (.int .i64 fu)] 96,.vec (.ad [.arr .u8 64] th) 138,.map (.arr .u8 64) m,.own [.s (.str key)] 9,.own [.s (.str val)] 9,.own [.s (.bool (kJ th m n deep)),.s (.ro (.ad [.str,.str] (bP th m n deep))),.s (.ro (.ad [.str,.int .i64] (aP th m n deep)))] 73] (.bm [.emp,.s (.int .i64 (gU th m n deep))])) (.ite (kJ th m n deep) (.at (.mk (sl 106 [(0,.ptr 0 0),(1,.s (.int .i64 n)),(4,.fn 49 [.ptr 4 0,.ptr 5 0]),(12,.ptr 6 0)]) [.own [.ptr 1 0,.s (.int .i64 root),.ints .u64 16 fr,.ints .u64 16 fs,.ints .u64 16 gn] 70,.own [.vec 2,.ag 3,.s (.int .i64 fu)] 96,.vec (.ad [.arr .u8 64] th) 138,.map (.arr .u8 64) m,.own [.s (.str key)] 9,.own [.s (.str val)] 9,.own [.s (.bool (kJ th m n deep)),.s (.ro (.ad [.str,.str] (bP th m n deep))),.s (.ro (.ad [.str,.int .i64] (aP th m n deep)))] 73] (hr Tryd.f80 5) (.mk none false 0 [] 0))) (.at (.mk (sl 106 [(0,.ptr 0 0),(1,.s (.int .i64 n)),(2,.s (.int .i64 deep)),(3,.s (.str key)),(4,.fn 49 [.ptr 4 0,.ptr 5 0]),(12,.ptr 6 0)]) [.own [.ptr 1 0,.s (.int .i64 root),.ints .u64 16 fr,.ints .u64 16 fs,.ints .u64 16 gn] 70,.own [.vec 2,.ag 3,.s (.int .i64 fu)] 96,.vec (.ad [.arr .u8 64] th) 138,.map (.arr .u8 64) m,.own [.s (.str key)] 9,.own [.s (.str val)] 9,.own [.s (.bool (kJ th m n deep)),.s (.ro (.ad [.str,.str] (bP th m n deep))),.s (.ro (.ad [.str,.int .i64] (aP th m n deep)))] 73] (hr Tryd.f80 10) (.mk none false 0 [] 0)))))))):=by kernel_rfl
theorem ase(f:Nat)(th:Th)(m:As)(fu root:Int)(fr fs gn:Ws)(n:Int)(key val:ByteArray)(es:List En)(bs:List Br):run P (ow f).sum Tryd.f80 adH (asd th m fu root fr fs gn n key val es bs) (inl:=[fP1])=
 Tree.need (es.length≤100000) (.need (gW (bu es)) (.need (bK (some [AV.ptr 0 0,.s (.int .i64 n)])) (.need (bK (some [ae.own [.ptr 1 0,.s (.int .i64 root),.ints .u64 16 fr,.ints .u64 16 fs,.ints .u64 16 gn] 70,.own [.vec 2,.ag 3,.s (.int .i64 fu)] 96,.vec (.ad [.arr .u8 64] th) 138,.map (.arr .u8 64) m])) (.need (bK (some [AV.ptr 0 0,.agg [.s (.bool true),.s (.ro (.ad [.str,.str] (bt es key val))),.s (.ro (.ad [.str,.int .i64] bs))]])) (.need (bK (some [ae.own [.ptr 1 0,.s (.int .i64 root),.ints .u64 16 fr,.ints .u64 16 (iW fs n),.ints .u64 16 (o9 fs gn n)] 70,.own [.vec 2,.ag 3,.s (.int .i64 fu)] 96,.vec (.ad [.arr .u8 64] th) 138,.map (.arr .u8 64) m])) (.need (Ds.bR th m fu) (.need (Bx.okW fr) (.need (zK true (bt es key val) bs) (.need (aY (bt es key val)) (.need (aZ bs) (.ret [.own [.ptr 1 0,.s (.int .i64 root),.ints .u64 16 (bh th m fu fr (iW fs n) true (bt es key val) bs).snd.snd.fst,.ints .u64 16 (bh th m fu fr (iW fs n) true (bt es key val) bs).snd.snd.snd.fst,.ints .u64 16 (o9 fs gn n)] 70,.own [.vec 2,.ag 3,.s (.int .i64 (bh th m fu fr (iW fs n) true (bt es key val) bs).snd.fst)] 96,.vec (.ad [.arr .u8 64] th) 138,.map (.arr .u8 64) (bh th m fu fr (iW fs n) true (bt es key val) bs).fst,.own [.s (.str key)] 9,.own [.s (.str val)] 9,.own [.s (.bool true),.vec 7,.s (.ro (.ad [.str,.int .i64] bs))] 73,.dead,.vec (.ad [.str,.int .i64] (bh th m fu fr (iW fs n) true (bt es key val) bs).snd.snd.snd.snd.fst) 79] (.bm [.vec 8,.s (.int .i64 (bh th m fu fr (iW fs n) true (bt es key val) bs).snd.snd.snd.snd.snd)])))))))))))):=by kernel_rfl
theorem aqf(f:Nat)(th:Th)(m:As)(fu root:Int)(fr fs gn:Ws)(n deep:Int)(key val:ByteArray)(l:Bool)(es:List En)(bs:List Br):run P (ow f).sum Tryd.f80 adH (aob th m fu root fr fs gn n deep key val l es bs) (inl:=[fP1])=
 Tree.ite ((↑bs.length:Int)==0) (.ret [.own [.ptr 1 0,.s (.int .i64 root),.ints .u64 16 fr,.ints .u64 16 fs,.ints .u64 16 gn] 70,.own [.vec 2,.ag 3,.s (.int .i64 fu)] 96,.vec (.ad [.arr .u8 64] th) 138,.map (.arr .u8 64) m,.own [.s (.str key)] 9,.own [.s (.str val)] 9,.own [.s (.bool l),.s (.ro (.ad [.str,.str] es)),.s (.ro (.ad [.str,.int .i64] bs))] 73] (.bm [.emp,.s (.bc .i64 4)]))
 (.need (bs.length≤1000000) (.need (gW (l9 bs)) (.need ((0:Int)≤aS bs key) (.need (aS bs key<(↑bs.length:Int)) (.need (ax (deep+1)) (.need (bK (some [AV.ptr 0 0,.s (.int .i64 (bs.getD (aS bs key).toNat (CL.d [.str,.int .i64])).snd.fst),.s (.int .i64 (deep+1)),.s (.str key),.fn 49 [.ptr 4 0,.ptr 5 0]])) (.need (bK (some [ae.own [.ptr 1 0,.s (.int .i64 root),.ints .u64 16 fr,.ints .u64 16 fs,.ints .u64 16 gn] 70,.own [.vec 2,.ag 3,.s (.int .i64 fu)] 96,.vec (.ad [.arr .u8 64] th) 138,.map (.arr .u8 64) m,.own [.s (.str key)] 9,.own [.s (.str val)] 9])) (.need (Ds.bR th m fu) (.need (Bx.okW fr) (.need ((0:Int)≤(bs.getD (aS bs key).toNat (CL.d [.str,.int .i64])).snd.fst∧(bs.getD (aS bs key).toNat (CL.d [.str,.int .i64])).snd.fst≤65536) (.need ((1:Int)≤deep+1∧deep+1≤17) (.need ((18:Int)≤deep+1+(↑f:Int)) (.need ((1:Nat)≤key.size∧key.size≤24) (.need (val.size≤100) (.at (.mk (sl 106 [(0,.ptr 0 0),(1,.s (.int .i64 n)),(12,.ptr 6 0),(13,.s (.int .i64 (rK th key (some val) f m fu fr fs gn (bs.getD (aS bs key).toNat (CL.d [.str,.int .i64])).snd.fst (deep+1)))),(14,.s (.int .i64 (aS bs key))),(15,.vec 7)]) [.own [.ptr 1 0,.s (.int .i64 root),.ints .u64 16 (pf th key (some val) f m fu fr fs gn (bs.getD (aS bs key).toNat (CL.d [.str,.int .i64])).snd.fst (deep+1)),.ints .u64 16 (qy th key (some val) f m fu fr fs gn (bs.getD (aS bs key).toNat (CL.d [.str,.int .i64])).snd.fst (deep+1)),.ints .u64 16 (rJ th key (some val) f m fu fr fs gn (bs.getD (aS bs key).toNat (CL.d [.str,.int .i64])).snd.fst (deep+1))] 70,.own [.vec 2,.ag 3,.s (.int .i64 (pe th key (some val) f m fu fr fs gn (bs.getD (aS bs key).toNat (CL.d [.str,.int .i64])).snd.fst (deep+1)))] 96,.vec (.ad [.arr .u8 64] th) 138,.map (.arr .u8 64) (pd th key (some val) f m fu fr fs gn (bs.getD (aS bs key).toNat (CL.d [.str,.int .i64])).snd.fst (deep+1)),.own [.s (.str key)] 9,.own [.s (.str val)] 9,.own [.s (.bool l),.s (.ro (.ad [.str,.str] es)),.s (.ro (.ad [.str,.int .i64] bs))] 73,.vec (.ad [.str,.int .i64] (sP th key (some val) f m fu fr fs gn (bs.getD (aS bs key).toNat (CL.d [.str,.int .i64])).snd.fst (deep+1))) 79] (hr Tryd.f80 14) (.mk none false 0 [] 0))))))))))))))))):=by kernel_rfl
theorem aqg(f:Nat)(th:Th)(m:As)(fu root:Int)(fr fs gn:Ws)(n:Int)(key val:ByteArray)(l:Bool)(es:List En)(bs:List Br)(k e:Int)(r:List Br):run P (ow f).sum Tryd.f80 adH (aoc th m fu root fr fs gn n key val l es bs k e r) (inl:=[fP1])=
 Tree.ite (e !=0) (.ret [.own [.ptr 1 0,.s (.int .i64 root),.ints .u64 16 fr,.ints .u64 16 fs,.ints .u64 16 gn] 70,.own [.vec 2,.ag 3,.s (.int .i64 fu)] 96,.vec (.ad [.arr .u8 64] th) 138,.map (.arr .u8 64) m,.own [.s (.str key)] 9,.own [.s (.str val)] 9,.own [.s (.bool l),.s (.ro (.ad [.str,.str] es)),.s (.ro (.ad [.str,.int .i64] bs))] 73,.vec (.ad [.str,.int .i64] r) 79] (.bm [.emp,.s (.int .i64 e)])) (.ite (decide ((↑r.length:Int)>0)) (.need ((0:Int)≤k) (.need (k<(↑bs.length:Int)) (.need ((0:Int)≤0) (.need ((0:Int)<(↑r.length:Int)) (.at (.mk (sl 106 [(0,.ptr 0 0),(1,.s (.int .i64 n)),(12,.ptr 6 0),(14,.s (.int .i64 k)),(15,.vec 7)]) [.own [.ptr 1 0,.s (.int .i64 root),.ints .u64 16 fr,.ints .u64 16 fs,.ints .u64 16 gn] 70,.own [.vec 2,.ag 3,.s (.int .i64 fu)] 96,.vec (.ad [.arr .u8 64] th) 138,.map (.arr .u8 64) m,.own [.s (.str key)] 9,.own [.s (.str val)] 9,.own [.s (.bool l),.s (.ro (.ad [.str,.str] es)),.s (.ro (.ad [.str,.int .i64] bs))] 73,.vec (.ad [.str,.int .i64] (r.set 0 ((bs.getD k.toNat (CL.d [.str,.int .i64])).fst,(r.getD 0 (CL.d [.str,.int .i64])).snd))) 79] (hr Tryd.f80 18) (.mk none false 0 [] 0))))))) (.at (.mk (sl 106 [(0,.ptr 0 0),(1,.s (.int .i64 n)),(12,.ptr 6 0),(14,.s (.int .i64 k)),(15,.vec 7)]) [.own [.ptr 1 0,.s (.int .i64 root),.ints .u64 16 fr,.ints .u64 16 fs,.ints .u64 16 gn] 70,.own [.vec 2,.ag 3,.s (.int .i64 fu)] 96,.vec (.ad [.arr .u8 64] th) 138,.map (.arr .u8 64) m,.own [.s (.str key)] 9,.own [.s (.str val)] 9,.own [.s (.bool l),.s (.ro (.ad [.str,.str] es)),.s (.ro (.ad [.str,.int .i64] bs))] 73,.vec (.ad [.str,.int .i64] r) 79] (hr Tryd.f80 18) (.mk none false 0 [] 0)))):=by kernel_rfl
theorem aqh(f:Nat)(th:Th)(m:As)(fu root:Int)(fr fs gn:Ws)(n:Int)(key val:ByteArray)(l:Bool)(es:List En)(bs:List Br)(k:Int)(r:List Br):run P (ow f).sum Tryd.f80 adH (aod th m fu root fr fs gn n key val l es bs k r) (inl:=[fP1])=
 Tree.need ((0:Int)≤0)
 (.need ((0:Int)≤k)
   (.need (k≤(↑bs.length:Int))
     (.need (ax (k+1))
       (.need ((0:Int)≤k+1)
         (.need (k+1≤(↑bs.length:Int))
           (.need ((↑bs.length:Int)≤(↑bs.length:Int))
             (.need ([(List.drop (Int.toNat 0) (List.take k.toNat bs),()),(r,()),(List.drop (k+1).toNat (List.take (↑bs.length:Int).toNat bs),())].length≤100)
               (.need ((bU [(List.drop (Int.toNat 0) (List.take k.toNat bs),()),(r,()),(List.drop (k+1).toNat (List.take (↑bs.length:Int).toNat bs),())]).length≤100000)
                 (.need (bK (some [AV.ptr 0 0,.s (.int .i64 n)])) (.need (bK (some [ae.own [.ptr 1 0,.s (.int .i64 root),.ints .u64 16 fr,.ints .u64 16 fs,.ints .u64 16 gn] 70,.own [.vec 2,.ag 3,.s (.int .i64 fu)] 96,.vec (.ad [.arr .u8 64] th) 138,.map (.arr .u8 64) m])) (.need (bK (some [AV.ptr 0 0,.agg [.s (.bool l),.s (.ro (.ad [.str,.str] es)),.s (.ro (.ad [.str,.int .i64] (bU [(List.drop (Int.toNat 0) (List.take k.toNat bs),()),(r,()),(List.drop (k+1).toNat (List.take (↑bs.length:Int).toNat bs),())])))]])) (.need (bK (some [ae.own [.ptr 1 0,.s (.int .i64 root),.ints .u64 16 fr,.ints .u64 16 (iW fs n),.ints .u64 16 (o9 fs gn n)] 70,.own [.vec 2,.ag 3,.s (.int .i64 fu)] 96,.vec (.ad [.arr .u8 64] th) 138,.map (.arr .u8 64) m])) (.need (Ds.bR th m fu) (.need (Bx.okW fr) (.need (zK l es (bU [(List.drop (Int.toNat 0) (List.take k.toNat bs),()),(r,()),(List.drop (k+1).toNat (List.take (↑bs.length:Int).toNat bs),())])) (.need (aY es) (.need (aZ (bU [(List.drop (Int.toNat 0) (List.take k.toNat bs),()),(r,()),(List.drop (k+1).toNat (List.take (↑bs.length:Int).toNat bs),())])) (.ret [.own [.ptr 1 0,.s (.int .i64 root),.ints .u64 16 (bh th m fu fr (iW fs n) l es (bU [(List.drop (Int.toNat 0) (List.take k.toNat bs),()),(r,()),(List.drop (k+1).toNat (List.take (↑bs.length:Int).toNat bs),())])).snd.snd.fst,.ints .u64 16 (bh th m fu fr (iW fs n) l es (bU [(List.drop (Int.toNat 0) (List.take k.toNat bs),()),(r,()),(List.drop (k+1).toNat (List.take (↑bs.length:Int).toNat bs),())])).snd.snd.snd.fst,.ints .u64 16 (o9 fs gn n)] 70,.own [.vec 2,.ag 3,.s (.int .i64 (bh th m fu fr (iW fs n) l es (bU [(List.drop (Int.toNat 0) (List.take k.toNat bs),()),(r,()),(List.drop (k+1).toNat (List.take (↑bs.length:Int).toNat bs),())])).snd.fst)] 96,.vec (.ad [.arr .u8 64] th) 138,.map (.arr .u8 64) (bh th m fu fr (iW fs n) l es (bU [(List.drop (Int.toNat 0) (List.take k.toNat bs),()),(r,()),(List.drop (k+1).toNat (List.take (↑bs.length:Int).toNat bs),())])).fst,.own [.s (.str key)] 9,.own [.s (.str val)] 9,.own [.s (.bool l),.s (.ro (.ad [.str,.str] es)),.vec 9] 73,.dead,.vec (.ad wL [(List.drop (Int.toNat 0) (List.take k.toNat bs),()),(r,()),(List.drop (k+1).toNat (List.take (↑bs.length:Int).toNat bs),())]) 71,.dead,.vec (.ad [.str,.int .i64] (bh th m fu fr (iW fs n) l es (bU [(List.drop (Int.toNat 0) (List.take k.toNat bs),()),(r,()),(List.drop (k+1).toNat (List.take (↑bs.length:Int).toNat bs),())])).snd.snd.snd.snd.fst) 79] (.bm [.vec 10,.s (.int .i64 (bh th m fu fr (iW fs n) l es (bU [(List.drop (Int.toNat 0) (List.take k.toNat bs),()),(r,()),(List.drop (k+1).toNat (List.take (↑bs.length:Int).toNat bs),())])).snd.snd.snd.snd.snd)]))))))))))))))))))):=by kernel_rfl
def adI:List (Nat×Norm):=[(5,⟨[],[0,1,4,12],5,[]⟩),(10,⟨[],[0,1,2,3,4,12],5,[]⟩),(14,⟨[],[0,1,12,13,14,15],5,[]⟩),(18,⟨[],[0,1,12,14,15],5,[]⟩)]
noncomputable def asf(th:Th)(m:As)(fu root:Int)(fr fs gn:Ws)(n:Int)(key:ByteArray)(es:List En)(bs:List Br):bx:=
 ⟨sl 106 [(0,.ptr 0 0),(1,bQ n),(4,.fn fD1 [.ptr 4 0]),(12,.ptr 5 0)],qx th m fu root fr fs gn key++[obN true es bs eN],hr Tryd.f80 5,{}⟩
noncomputable def aoe(th:Th)(m:As)(fu root:Int)(fr fs gn:Ws)(n deep:Int)(key:ByteArray)(l:Bool)(es:List En)(bs:List Br):bx:=
 ⟨sl 106 [(0,.ptr 0 0),(1,bQ n),(2,bQ deep),(3,.s (.str key)),(4,.fn fD1 [.ptr 4 0]),(12,.ptr 5 0)],qx th m fu root fr fs gn key++[obN l es bs eN],hr Tryd.f80 10,{}⟩
noncomputable def aof(th:Th)(m:As)(fu root:Int)(fr fs gn:Ws)(n:Int)(key:ByteArray)(l:Bool)(es:List En)(bs:List Br)(k e:Int)(r:List Br):bx:=
 ⟨sl 106 [(0,.ptr 0 0),(1,bQ n),(12,.ptr 5 0),(13,bQ e),(14,bQ k),(15,.vec 6)],qx th m fu root fr fs gn key++[obN l es bs eN,.vec (.ad cB r) Lf.eB],hr Tryd.f80 14,{}⟩
noncomputable def aog(th:Th)(m:As)(fu root:Int)(fr fs gn:Ws)(n:Int)(key:ByteArray)(l:Bool)(es:List En)(bs:List Br)(k:Int)(r:List Br):bx:=
 ⟨sl 106 [(0,.ptr 0 0),(1,bQ n),(12,.ptr 5 0),(14,bQ k),(15,.vec 6)],qx th m fu root fr fs gn key++[obN l es bs eN,.vec (.ad cB r) Lf.eB],hr Tryd.f80 18,{}⟩
theorem auk(f:Nat)(th:Th)(m:As)(fu root:Int)(fr fs gn:Ws)(n deep:Int)(key:ByteArray):run P (oz f).sum Tryd.f80 adI (start Tryd.f80 [.ptr 0 0,bQ n,bQ deep,.s (.str key),.fn fD1 [.ptr 4 0]] (qx th m fu root fr fs gn key)) (inl:=[fD1])=
 Tree.need (bK (some [AV.ptr 0 0,.s (.int .i64 n),.s (.int .i64 deep)])) (.need (bK (some [ae.own [.ptr 1 0,.s (.int .i64 root),.ints .u64 16 fr,.ints .u64 16 fs,.ints .u64 16 gn] 70,.own [.vec 2,.ag 3,.s (.int .i64 fu)] 96,.vec (.ad [.arr .u8 64] th) 138,.map (.arr .u8 64) m])) (.need (Ds.bR th m fu) (.need (ax n) (.ite (gU th m n deep !=0) (.ret [.own [.ptr 1 0,.s (.int .i64 root),.ints .u64 16 fr,.ints .u64 16 fs,.ints .u64 16 gn] 70,.own [.vec 2,.ag 3,.s (.int .i64 fu)] 96,.vec (.ad [.arr .u8 64] th) 138,.map (.arr .u8 64) m,.own [.s (.str key)] 9,.own [.s (.bool (kJ th m n deep)),.s (.ro (.ad [.str,.str] (bP th m n deep))),.s (.ro (.ad [.str,.int .i64] (aP th m n deep)))] 73] (.bm [.emp,.s (.int .i64 (gU th m n deep))])) (.ite (kJ th m n deep) (.at (.mk (sl 106 [(0,.ptr 0 0),(1,.s (.int .i64 n)),(4,.fn 51 [.ptr 4 0]),(12,.ptr 5 0)]) [.own [.ptr 1 0,.s (.int .i64 root),.ints .u64 16 fr,.ints .u64 16 fs,.ints .u64 16 gn] 70,.own [.vec 2,.ag 3,.s (.int .i64 fu)] 96,.vec (.ad [.arr .u8 64] th) 138,.map (.arr .u8 64) m,.own [.s (.str key)] 9,.own [.s (.bool (kJ th m n deep)),.s (.ro (.ad [.str,.str] (bP th m n deep))),.s (.ro (.ad [.str,.int .i64] (aP th m n deep)))] 73] (hr Tryd.f80 5) (.mk none false 0 [] 0))) (.at (.mk (sl 106 [(0,.ptr 0 0),(1,.s (.int .i64 n)),(2,.s (.int .i64 deep)),(3,.s (.str key)),(4,.fn 51 [.ptr 4 0]),(12,.ptr 5 0)]) [.own [.ptr 1 0,.s (.int .i64 root),.ints .u64 16 fr,.ints .u64 16 fs,.ints .u64 16 gn] 70,.own [.vec 2,.ag 3,.s (.int .i64 fu)] 96,.vec (.ad [.arr .u8 64] th) 138,.map (.arr .u8 64) m,.own [.s (.str key)] 9,.own [.s (.bool (kJ th m n deep)),.s (.ro (.ad [.str,.str] (bP th m n deep))),.s (.ro (.ad [.str,.int .i64] (aP th m n deep)))] 73] (hr Tryd.f80 10) (.mk none false 0 [] 0)))))))):=by kernel_rfl
theorem ash(f:Nat)(th:Th)(m:As)(fu root:Int)(fr fs gn:Ws)(n:Int)(key:ByteArray)(es:List En)(bs:List Br):run P (oz f).sum Tryd.f80 adI (asf th m fu root fr fs gn n key es bs) (inl:=[fD1])=
 Tree.need (es.length≤100000) (.need (gW (bu es)) (.ite (!fL es key) (.ret [.own [.ptr 1 0,.s (.int .i64 root),.ints .u64 16 fr,.ints .u64 16 fs,.ints .u64 16 gn] 70,.own [.vec 2,.ag 3,.s (.int .i64 fu)] 96,.vec (.ad [.arr .u8 64] th) 138,.map (.arr .u8 64) m,.own [.s (.str key)] 9,.own [.s (.bool true),.emp,.s (.ro (.ad [.str,.int .i64] bs))] 73,.vec (.ad [.str,.str] (bS es key)) 34] (.bm [.emp,.s (.bc .i64 5)])) (.need (bK (some [AV.ptr 0 0,.s (.int .i64 n)])) (.need (bK (some [ae.own [.ptr 1 0,.s (.int .i64 root),.ints .u64 16 fr,.ints .u64 16 fs,.ints .u64 16 gn] 70,.own [.vec 2,.ag 3,.s (.int .i64 fu)] 96,.vec (.ad [.arr .u8 64] th) 138,.map (.arr .u8 64) m])) (.need (bK (some [AV.ptr 0 0,.agg [.s (.bool true),.s (.ro (.ad [.str,.str] (bS es key))),.s (.ro (.ad [.str,.int .i64] bs))]])) (.need (bK (some [ae.own [.ptr 1 0,.s (.int .i64 root),.ints .u64 16 fr,.ints .u64 16 (iW fs n),.ints .u64 16 (o9 fs gn n)] 70,.own [.vec 2,.ag 3,.s (.int .i64 fu)] 96,.vec (.ad [.arr .u8 64] th) 138,.map (.arr .u8 64) m])) (.need (Ds.bR th m fu) (.need (Bx.okW fr) (.need (zK true (bS es key) bs) (.need (aY (bS es key)) (.need (aZ bs) (.ret [.own [.ptr 1 0,.s (.int .i64 root),.ints .u64 16 (bh th m fu fr (iW fs n) true (bS es key) bs).snd.snd.fst,.ints .u64 16 (bh th m fu fr (iW fs n) true (bS es key) bs).snd.snd.snd.fst,.ints .u64 16 (o9 fs gn n)] 70,.own [.vec 2,.ag 3,.s (.int .i64 (bh th m fu fr (iW fs n) true (bS es key) bs).snd.fst)] 96,.vec (.ad [.arr .u8 64] th) 138,.map (.arr .u8 64) (bh th m fu fr (iW fs n) true (bS es key) bs).fst,.own [.s (.str key)] 9,.own [.s (.bool true),.vec 6,.s (.ro (.ad [.str,.int .i64] bs))] 73,.dead,.vec (.ad [.str,.int .i64] (bh th m fu fr (iW fs n) true (bS es key) bs).snd.snd.snd.snd.fst) 79] (.bm [.vec 7,.s (.int .i64 (bh th m fu fr (iW fs n) true (bS es key) bs).snd.snd.snd.snd.snd)]))))))))))))):=by kernel_rfl
theorem aqi(f:Nat)(th:Th)(m:As)(fu root:Int)(fr fs gn:Ws)(n deep:Int)(key:ByteArray)(l:Bool)(es:List En)(bs:List Br):run P (oz f).sum Tryd.f80 adI (aoe th m fu root fr fs gn n deep key l es bs) (inl:=[fD1])=
 Tree.ite ((↑bs.length:Int)==0) (.ret [.own [.ptr 1 0,.s (.int .i64 root),.ints .u64 16 fr,.ints .u64 16 fs,.ints .u64 16 gn] 70,.own [.vec 2,.ag 3,.s (.int .i64 fu)] 96,.vec (.ad [.arr .u8 64] th) 138,.map (.arr .u8 64) m,.own [.s (.str key)] 9,.own [.s (.bool l),.s (.ro (.ad [.str,.str] es)),.s (.ro (.ad [.str,.int .i64] bs))] 73] (.bm [.emp,.s (.bc .i64 4)])) (.need (bs.length≤1000000) (.need (gW (l9 bs)) (.need ((0:Int)≤aS bs key) (.need (aS bs key<(↑bs.length:Int)) (.need (ax (deep+1)) (.need (bK (some [AV.ptr 0 0,.s (.int .i64 (bs.getD (aS bs key).toNat (CL.d [.str,.int .i64])).snd.fst),.s (.int .i64 (deep+1)),.s (.str key),.fn 51 [.ptr 4 0]])) (.need (bK (some [ae.own [.ptr 1 0,.s (.int .i64 root),.ints .u64 16 fr,.ints .u64 16 fs,.ints .u64 16 gn] 70,.own [.vec 2,.ag 3,.s (.int .i64 fu)] 96,.vec (.ad [.arr .u8 64] th) 138,.map (.arr .u8 64) m,.own [.s (.str key)] 9])) (.need (Ds.bR th m fu) (.need (Bx.okW fr) (.need ((0:Int)≤(bs.getD (aS bs key).toNat (CL.d [.str,.int .i64])).snd.fst∧(bs.getD (aS bs key).toNat (CL.d [.str,.int .i64])).snd.fst≤65536) (.need ((1:Int)≤deep+1∧deep+1≤17) (.need ((18:Int)≤deep+1+(↑f:Int)) (.need ((1:Nat)≤key.size∧key.size≤24) (.need (ByteArray.empty.size≤100) (.at (.mk (sl 106 [(0,.ptr 0 0),(1,.s (.int .i64 n)),(12,.ptr 5 0),(13,.s (.int .i64 (rK th key none f m fu fr fs gn (bs.getD (aS bs key).toNat (CL.d [.str,.int .i64])).snd.fst (deep+1)))),(14,.s (.int .i64 (aS bs key))),(15,.vec 6)]) [.own [.ptr 1 0,.s (.int .i64 root),.ints .u64 16 (pf th key none f m fu fr fs gn (bs.getD (aS bs key).toNat (CL.d [.str,.int .i64])).snd.fst (deep+1)),.ints .u64 16 (qy th key none f m fu fr fs gn (bs.getD (aS bs key).toNat (CL.d [.str,.int .i64])).snd.fst (deep+1)),.ints .u64 16 (rJ th key none f m fu fr fs gn (bs.getD (aS bs key).toNat (CL.d [.str,.int .i64])).snd.fst (deep+1))] 70,.own [.vec 2,.ag 3,.s (.int .i64 (pe th key none f m fu fr fs gn (bs.getD (aS bs key).toNat (CL.d [.str,.int .i64])).snd.fst (deep+1)))] 96,.vec (.ad [.arr .u8 64] th) 138,.map (.arr .u8 64) (pd th key none f m fu fr fs gn (bs.getD (aS bs key).toNat (CL.d [.str,.int .i64])).snd.fst (deep+1)),.own [.s (.str key)] 9,.own [.s (.bool l),.s (.ro (.ad [.str,.str] es)),.s (.ro (.ad [.str,.int .i64] bs))] 73,.vec (.ad [.str,.int .i64] (sP th key none f m fu fr fs gn (bs.getD (aS bs key).toNat (CL.d [.str,.int .i64])).snd.fst (deep+1))) 79] (hr Tryd.f80 14) (.mk none false 0 [] 0))))))))))))))))):=by kernel_rfl
theorem aqj(f:Nat)(th:Th)(m:As)(fu root:Int)(fr fs gn:Ws)(n:Int)(key:ByteArray)(l:Bool)(es:List En)(bs:List Br)(k e:Int)(r:List Br):run P (oz f).sum Tryd.f80 adI (aof th m fu root fr fs gn n key l es bs k e r) (inl:=[fD1])=
 Tree.ite (e !=0) (.ret [.own [.ptr 1 0,.s (.int .i64 root),.ints .u64 16 fr,.ints .u64 16 fs,.ints .u64 16 gn] 70,.own [.vec 2,.ag 3,.s (.int .i64 fu)] 96,.vec (.ad [.arr .u8 64] th) 138,.map (.arr .u8 64) m,.own [.s (.str key)] 9,.own [.s (.bool l),.s (.ro (.ad [.str,.str] es)),.s (.ro (.ad [.str,.int .i64] bs))] 73,.vec (.ad [.str,.int .i64] r) 79] (.bm [.emp,.s (.int .i64 e)])) (.ite (decide ((↑r.length:Int)>0)) (.need ((0:Int)≤k) (.need (k<(↑bs.length:Int)) (.need ((0:Int)≤0) (.need ((0:Int)<(↑r.length:Int)) (.at (.mk (sl 106 [(0,.ptr 0 0),(1,.s (.int .i64 n)),(12,.ptr 5 0),(14,.s (.int .i64 k)),(15,.vec 6)]) [.own [.ptr 1 0,.s (.int .i64 root),.ints .u64 16 fr,.ints .u64 16 fs,.ints .u64 16 gn] 70,.own [.vec 2,.ag 3,.s (.int .i64 fu)] 96,.vec (.ad [.arr .u8 64] th) 138,.map (.arr .u8 64) m,.own [.s (.str key)] 9,.own [.s (.bool l),.s (.ro (.ad [.str,.str] es)),.s (.ro (.ad [.str,.int .i64] bs))] 73,.vec (.ad [.str,.int .i64] (r.set 0 ((bs.getD k.toNat (CL.d [.str,.int .i64])).fst,(r.getD 0 (CL.d [.str,.int .i64])).snd))) 79] (hr Tryd.f80 18) (.mk none false 0 [] 0))))))) (.at (.mk (sl 106 [(0,.ptr 0 0),(1,.s (.int .i64 n)),(12,.ptr 5 0),(14,.s (.int .i64 k)),(15,.vec 6)]) [.own [.ptr 1 0,.s (.int .i64 root),.ints .u64 16 fr,.ints .u64 16 fs,.ints .u64 16 gn] 70,.own [.vec 2,.ag 3,.s (.int .i64 fu)] 96,.vec (.ad [.arr .u8 64] th) 138,.map (.arr .u8 64) m,.own [.s (.str key)] 9,.own [.s (.bool l),.s (.ro (.ad [.str,.str] es)),.s (.ro (.ad [.str,.int .i64] bs))] 73,.vec (.ad [.str,.int .i64] r) 79] (hr Tryd.f80 18) (.mk none false 0 [] 0)))):=by kernel_rfl
theorem aqk(f:Nat)(th:Th)(m:As)(fu root:Int)(fr fs gn:Ws)(n:Int)(key:ByteArray)(l:Bool)(es:List En)(bs:List Br)(k:Int)(r:List Br):run P (oz f).sum Tryd.f80 adI (aog th m fu root fr fs gn n key l es bs k r) (inl:=[fD1])=
 Tree.need ((0:Int)≤0)
 (.need ((0:Int)≤k)
   (.need (k≤(↑bs.length:Int))
     (.need (ax (k+1))
       (.need ((0:Int)≤k+1)
         (.need (k+1≤(↑bs.length:Int))
           (.need ((↑bs.length:Int)≤(↑bs.length:Int))
             (.need ([(List.drop (Int.toNat 0) (List.take k.toNat bs),()),(r,()),(List.drop (k+1).toNat (List.take (↑bs.length:Int).toNat bs),())].length≤100)
               (.need ((bU [(List.drop (Int.toNat 0) (List.take k.toNat bs),()),(r,()),(List.drop (k+1).toNat (List.take (↑bs.length:Int).toNat bs),())]).length≤100000)
                 (.need (bK (some [AV.ptr 0 0,.s (.int .i64 n)])) (.need (bK (some [ae.own [.ptr 1 0,.s (.int .i64 root),.ints .u64 16 fr,.ints .u64 16 fs,.ints .u64 16 gn] 70,.own [.vec 2,.ag 3,.s (.int .i64 fu)] 96,.vec (.ad [.arr .u8 64] th) 138,.map (.arr .u8 64) m])) (.need (bK (some [AV.ptr 0 0,.agg [.s (.bool l),.s (.ro (.ad [.str,.str] es)),.s (.ro (.ad [.str,.int .i64] (bU [(List.drop (Int.toNat 0) (List.take k.toNat bs),()),(r,()),(List.drop (k+1).toNat (List.take (↑bs.length:Int).toNat bs),())])))]])) (.need (bK (some [ae.own [.ptr 1 0,.s (.int .i64 root),.ints .u64 16 fr,.ints .u64 16 (iW fs n),.ints .u64 16 (o9 fs gn n)] 70,.own [.vec 2,.ag 3,.s (.int .i64 fu)] 96,.vec (.ad [.arr .u8 64] th) 138,.map (.arr .u8 64) m])) (.need (Ds.bR th m fu) (.need (Bx.okW fr) (.need (zK l es (bU [(List.drop (Int.toNat 0) (List.take k.toNat bs),()),(r,()),(List.drop (k+1).toNat (List.take (↑bs.length:Int).toNat bs),())])) (.need (aY es) (.need (aZ (bU [(List.drop (Int.toNat 0) (List.take k.toNat bs),()),(r,()),(List.drop (k+1).toNat (List.take (↑bs.length:Int).toNat bs),())])) (.ret [.own [.ptr 1 0,.s (.int .i64 root),.ints .u64 16 (bh th m fu fr (iW fs n) l es (bU [(List.drop (Int.toNat 0) (List.take k.toNat bs),()),(r,()),(List.drop (k+1).toNat (List.take (↑bs.length:Int).toNat bs),())])).snd.snd.fst,.ints .u64 16 (bh th m fu fr (iW fs n) l es (bU [(List.drop (Int.toNat 0) (List.take k.toNat bs),()),(r,()),(List.drop (k+1).toNat (List.take (↑bs.length:Int).toNat bs),())])).snd.snd.snd.fst,.ints .u64 16 (o9 fs gn n)] 70,.own [.vec 2,.ag 3,.s (.int .i64 (bh th m fu fr (iW fs n) l es (bU [(List.drop (Int.toNat 0) (List.take k.toNat bs),()),(r,()),(List.drop (k+1).toNat (List.take (↑bs.length:Int).toNat bs),())])).snd.fst)] 96,.vec (.ad [.arr .u8 64] th) 138,.map (.arr .u8 64) (bh th m fu fr (iW fs n) l es (bU [(List.drop (Int.toNat 0) (List.take k.toNat bs),()),(r,()),(List.drop (k+1).toNat (List.take (↑bs.length:Int).toNat bs),())])).fst,.own [.s (.str key)] 9,.own [.s (.bool l),.s (.ro (.ad [.str,.str] es)),.vec 8] 73,.dead,.vec (.ad wL [(List.drop (Int.toNat 0) (List.take k.toNat bs),()),(r,()),(List.drop (k+1).toNat (List.take (↑bs.length:Int).toNat bs),())]) 71,.dead,.vec (.ad [.str,.int .i64] (bh th m fu fr (iW fs n) l es (bU [(List.drop (Int.toNat 0) (List.take k.toNat bs),()),(r,()),(List.drop (k+1).toNat (List.take (↑bs.length:Int).toNat bs),())])).snd.snd.snd.snd.fst) 79] (.bm [.vec 9,.s (.int .i64 (bh th m fu fr (iW fs n) l es (bU [(List.drop (Int.toNat 0) (List.take k.toNat bs),()),(r,()),(List.drop (k+1).toNat (List.take (↑bs.length:Int).toNat bs),())])).snd.snd.snd.snd.snd)]))))))))))))))))))):=by kernel_rfl
end Ts
namespace Ts
open Go Go.Sx Go.Proofs Lf
def TN:Nat→Type
 |0=>Int×List En
 |h+1=>Int×List (ByteArray×TN h)
abbrev Kd(h:Nat):Type:=ByteArray×TN h
def pg:(h:Nat)→TN h→Int
 |0,t=>t.1
 |_+1,t=>t.1
def dC:(h:Nat)→TN h→List En
 |0,t=>t.2
 |h+1,t=>t.2.flatMap fun k=>dC h k.2
def nZ:(h:Nat)→TN h→List Int
 |0,t=>[t.1]
 |h+1,t=>t.1::t.2.flatMap fun k=>nZ h k.2
def cH(h:Nat)(k:Kd h):Br:=(k.1,pg h k.2,())
def bH(h:Nat)(ks:List (Kd h)):List En:=ks.flatMap fun k=>dC h k.2
def bJ(h:Nat)(ks:List (Kd h)):List Int:=ks.flatMap fun k=>nZ h k.2
def rep(th:Th)(m:As):(h:Nat)→TN h→Prop
 |0,t=>Rd th m t.1 true t.2 []
 |h+1,t=>Rd th m t.1 false [] (t.2.map (cH h))∧∀k∈t.2,rep th m h k.2
def abH(h:Nat)(ks:List (Kd h)):Prop:=ks.Pairwise (fun a b=>∀e∈dC h a.2,slt e.1 b.1=true)∧∀k∈ks,∀e∈dC h k.2,slt e.1 k.1=false
def bO{h:Nat}:List (Kd h)→List (Kd h)
 |[]=>[]
 |k::r=>(ByteArray.empty,k.2)::r
def bV{h:Nat}(s:ByteArray):List (Kd h)→List (Kd h)
 |[]=>[]
 |k::r=>(s,k.2)::r
def l4(h:Nat)(ks:List (Kd h)):Int:=ba [] (ks.map (cH h))
def py:(h:Nat)→TN h→Prop
 |0,t=>t.2≠[]∧jr t.2=true∧ba t.2 []≤254
 |h+1,t=>t.2≠[]∧bO t.2=t.2∧gm (t.2.map (cH h))=true∧l4 h t.2≤254∧abH h t.2∧∀k∈t.2,py h k.2
def wQ(n:Int):Nat:=(n - 155).toNat
def sQ:(h:Nat)→TN h→Nat
 |0,_=>0
 |h+1,t=>3^(h+1)*(19+wQ (l4 h t.2))+(t.2.map fun k=>sQ h k.2).sum
def eF(h:Nat)(ks:List (Kd h)):Nat:=(ks.map fun k=>sQ h k.2).sum
theorem x8{h:Nat}(t:TN (h+1)):dC (h+1) t=bH h t.2:=rfl
theorem ajB{h:Nat}(t:TN (h+1)):sQ (h+1) t=3^(h+1)*(19+wQ (l4 h t.2))+eF h t.2:=rfl
theorem vF:∀(h:Nat) (t:TN h),pg h t∈nZ h t
 |0,t=>List.mem_singleton.2 rfl
 |h+1,t=>List.mem_cons_self
theorem qz:∀(h:Nat) {t:TN h},py h t→dC h t≠[]
 |0,t,ok=>ok.1
 |h+1,t,ok=>by
  obtain⟨h1,_,_,_,_,h6⟩:=ok
  obtain⟨k,r,e⟩:=List.exists_cons_of_ne_nil h1
  have:=qz h (h6 k (by rw[e];exact List.mem_cons_self))
  rw[x8,e]
  show dC h k.2++_≠[]
  intro hn
  exact this (List.append_eq_nil_iff.1 hn).1
theorem jD{h:Nat}(a b:List (Kd h)):bH h (a++b)=bH h a++bH h b:=List.flatMap_append
theorem qA{h:Nat}(a b:List (Kd h)):bJ h (a++b)=bJ h a++bJ h b:=List.flatMap_append
theorem qB{h:Nat}(a b:List (Kd h)):eF h (a++b)=eF h a+eF h b:=by simp[eF]
theorem fW{h:Nat}(k:Kd h)(r:List (Kd h)):bH h (k::r)=dC h k.2++bH h r:=rfl
theorem jE{h:Nat}(k:Kd h)(r:List (Kd h)):bJ h (k::r)=nZ h k.2++bJ h r:=rfl
theorem gk{h:Nat}(k:Kd h)(r:List (Kd h)):eF h (k::r)=sQ h k.2+eF h r:=by simp[eF]
theorem jF{h:Nat}(ks:List (Kd h)):aa (ks.map (cH h))=(bO ks).map (cH h):=by cases ks<;>rfl
theorem abI{h:Nat}(s:ByteArray)(ks:List (Kd h)):kK s (ks.map (cH h))=(bV s ks).map (cH h):=by cases ks<;>rfl
theorem agW(s s':ByteArray)(l:List Br):kK s (kK s' l)=kK s l:=by cases l<;>rfl
theorem vG{h:Nat}(ks:List (Kd h)):bO (bO ks)=bO ks:=by cases ks<;>rfl
theorem agX{h:Nat}(s:ByteArray)(ks:List (Kd h)):bO (bV s ks)=bO ks:=by cases ks<;>rfl
theorem ph{h:Nat}(ks:List (Kd h)):bH h (bO ks)=bH h ks:=by cases ks<;>rfl
theorem x9{h:Nat}(ks:List (Kd h)):bJ h (bO ks)=bJ h ks:=by cases ks<;>rfl
theorem ya{h:Nat}(ks:List (Kd h)):eF h (bO ks)=eF h ks:=by cases ks<;>rfl
theorem agY{h:Nat}(s:ByteArray)(ks:List (Kd h)):bH h (bV s ks)=bH h ks:=by cases ks<;>rfl
theorem ajC{h:Nat}(s:ByteArray)(ks:List (Kd h)):bJ h (bV s ks)=bJ h ks:=by cases ks<;>rfl
theorem ajD{h:Nat}(s:ByteArray)(ks:List (Kd h)):eF h (bV s ks)=eF h ks:=by cases ks<;>rfl
theorem gl{h:Nat}{ks:List (Kd h)}{k:Kd h}(hk:k∈bO ks):∃k'∈ks,k'.2=k.2∧(k.1=ByteArray.empty∨k=k'):=by
 cases ks with
 |nil=>cases hk
 |cons a r=>
  rcases List.mem_cons.1 hk with rfl|h
  ·exact⟨a,List.mem_cons_self,rfl,.inl rfl⟩
  ·exact⟨k,List.mem_cons_of_mem _ h,rfl,.inr rfl⟩
theorem vH(x:Br):3≤oZ x:=by unfold oZ;omega
theorem ajE(x:En):2≤pz x:=by unfold pz;omega
def gX(bs:List Br):Int:=(bs.map oZ).sum
theorem nr:gX []=0:=rfl
theorem c7(b:Br)(r:List Br):gX (b::r)=oZ b+gX r:=by simp[gX]
theorem vI(a b:List Br):gX (a++b)=gX a+gX b:=by simp[gX]
theorem amg(bs:List Br):0≤gX bs:=by
 induction bs with
 |nil=>simp[nr]
 |cons b r ih=>rw[c7];have:=vH b;omega
theorem adJ{h:Nat}(ks:List (Kd h)):l4 h ks=1+gX (ks.map (cH h)):=by
 unfold l4 ba gX
 simp
theorem rL(bs:List Br):gX (aa bs)≤gX bs:=by
 cases bs with
 |nil=>exact Int.le_refl _
 |cons b r=>
  rw[aa,c7,c7]
  have:oZ (ByteArray.empty,b.2.1,())=3:=rfl
  have:=vH b
  omega
theorem gM{bs:List Br}:gm bs=true↔(∀b∈bs,b.1.size≤24∧2≤b.2.1∧b.2.1<1024)∧bs.Pairwise fun a b=>slt a.1 b.1=true:=by
 constructor
 ·intro h
  refine⟨fun b hb=>abn h hb, ?_⟩
  have hs:=apz h
  rw[List.pairwise_iff_getElem]
  intro i j hi hj kb
  have:=hs i j kb (by simpa using hj)
  rw[cq bs agA dB i,cq bs agA dB j,bd hi,bd hj]at this
  exact this
 ·rintro⟨h1,h2⟩
  refine cI.2 fun i hi=>qt.2 ?_
  obtain⟨a,b,c⟩:=h1 (bs.getD i dB) (by rw[bd hi];exact List.getElem_mem hi)
  refine⟨by omega,by omega,by omega,fun h0=> ?_⟩
  rw[List.pairwise_iff_getElem]at h2
  have:=h2 (i - 1) i (by omega) hi (by omega)
  rw[bd (by omega),bd hi]
  exact this
theorem amh{a b:ByteArray}(h:slt a b=true):slt ByteArray.empty b=true:=by
 rcases fw ByteArray.empty b with h1|h1|h1
 ·exact h1
 ·subst h1;rw[ib]at h;cases h
 ·rw[ib]at h1;cases h1
theorem yb{bs:List Br}(h:gm bs=true):gm (aa bs)=true:=by
 rw[gM]at h ⊢
 cases bs with
 |nil=>exact h
 |cons b r=>
  obtain⟨h1,h2⟩:=h
  rw[List.pairwise_cons]at h2
  refine⟨fun x hx=> ?_, ?_⟩
  ·rcases List.mem_cons.1 hx with rfl|hx
   ·have:=h1 b List.mem_cons_self
    exact⟨Nat.zero_le 24,this.2⟩
   ·exact h1 x (List.mem_cons_of_mem _ hx)
  ·rw[aa,List.pairwise_cons]
   exact⟨fun x hx=>amh (h2.1 x hx),h2.2⟩
theorem vJ{es:List En}:jr es=true↔(∀e∈es,1≤e.1.size∧e.1.size≤24∧e.2.1.size≤100)∧gW (bu es):=by
 constructor
 ·intro h
  refine⟨fun e he=> ?_,arG h⟩
  obtain⟨i,hi,rfl⟩:=List.getElem_of_mem he
  obtain⟨a,b,c,_⟩:=nN.1 (cI.1 h i hi)
  rw[bd hi]at a b c
  exact⟨by omega,by omega,by omega⟩
 ·rintro⟨h1,h2⟩
  refine cI.2 fun i hi=>nN.2 ?_
  obtain⟨a,b,c⟩:=h1 (es.getD i dE) (by rw[bd hi];exact List.getElem_mem hi)
  refine⟨by omega,by omega,by omega,fun h0=> ?_⟩
  have:=h2 (i - 1) i (by omega) (by simpa using hi)
  rw[cq es oY dE,cq es oY dE]at this
  exact this
end Ts
namespace Ts
open Go Go.Sx Go.Proofs Lf
structure S5 where
 m:As
 fu:Int
 fr:Ws
 fs:Ws
 gn:Ws
structure xx (th:Th) (s:S5):Prop where
 d:Ds.bR th s.m s.fu
 fr:Bx.okW s.fr
 fs:Bx.okW s.fs
 gn:Bx.okW s.gn
 pg:∀p,In s.fr p→2≤p∧Ds.uS th p=true
structure qC (th:Th) (s t:S5) (N V:List Int):Prop where
 ok:xx th t
 nd:N.Nodup
 sub:∀p∈N,In s.fr p
 fr:∀p,In t.fr p↔In s.fr p∧p ∉ N
 fs:∀p,In t.fs p↔(In s.fs p∧p ∉ V)∨p∈N
 gn:∀p,In t.gn p↔In s.gn p∨(In s.fs p∧p∈V)
 rd:∀p,¬In s.fr p→Ds.je th t.m p=Ds.je th s.m p∧Ds.gS th t.m p=Ds.gS th s.m p
 fu:s.fu= -1→t.fu= -1
def wS(th:Th)(s:S5)(l:Bool)(es:List En)(bs:List Br):S5:=
 ⟨(bD th s.m s.fu s.fr s.fs l es bs).1,(bD th s.m s.fu s.fr s.fs l es bs).2.1,(bD th s.m s.fu s.fr s.fs l es bs).2.2.1,(bD th s.m s.fu s.fr s.fs l es bs).2.2.2.1,s.gn⟩
def wE(th:Th)(s:S5)(l:Bool)(es:List En)(bs:List Br):Int:=(bD th s.m s.fu s.fr s.fs l es bs).2.2.2.2.2
def wB(th:Th)(s:S5)(l:Bool)(es:List En)(bs:List Br):Br:=(bD th s.m s.fu s.fr s.fs l es bs).2.2.2.2.1
theorem agZ{zs:List Int}(h:∀x∈zs,3≤x∧x≤27)(h1:253<zs.sum)(h2:zs.sum≤280):2≤zs.length∧jh zs (gJ zs (zs.length - 1)).1≤153:=by
 have hb:=(nK (l:=zs) (m:=27) (fun x hx=>⟨by have:=(h x hx).1;omega,(h x hx).2⟩) (by omega)).2
 have hl:2≤zs.length:=by omega
 refine⟨hl, ?_⟩
 obtain⟨k,hk,k1,k2⟩:=pa (p:=fun k=>(zs.take k).sum) (c:=127) zs.length (by simp) (by simp only[List.take_length];omega)
 have k1:(zs.take k).sum<127:=k1
 have k2:127≤(zs.take (k+1)).sum:=k2
 have k3:=ix hk
 have k4:zs.getD k 0≤27:=by rw[bd hk];exact(h _ (List.getElem_mem _)).2
 have k5:k+1<zs.length:=by
  rcases Nat.lt_or_ge (k+1) zs.length with h|h
  ·exact h
  ·rw[List.take_of_length_le h]at k3;omega
 have m:=qv zs (zs.length - 1) (k+1) (by omega) (by omega)
 rw[vC _ _ (by omega)]at m
 refine Int.le_trans m ?_
 unfold jh imax
 split<;>omega
theorem aff{bs:List Br}:3*(bs.length:Int)≤gX bs:=by
 induction bs with
 |nil=>simp[nr]
 |cons b r ih=>rw[c7,List.length_cons];have:=vH b;omega
theorem qD(bs:List Br):ba [] bs=1+gX bs:=by simp[ba,gX]
theorem vK(es:List En):ba es []=1+(es.map pz).sum:=by simp[ba]
theorem ami{bs:List Br}(h:gm bs=true):cT false [] bs=true:=tj (fun e=>by cases e) (fun _=>rfl) rfl h
theorem asi{es:List En}(h:jr es=true):cT true es []=true:=tj (fun _=>rfl) (fun e=>by cases e) h rfl
theorem ajF{bs:List Br}(jO:gm bs=true)(h1:254<ba [] bs)(h2:ba [] bs≤281):
 di false [] bs=true∧ba [] (a6 false [] bs)≤154∧ba [] (cN false [] bs)≤154∧
  ∃k,0<k∧k<bs.length∧a6 false [] bs=bs.take k∧cN false [] bs=bs.drop k∧aX false [] bs=[]∧cF false [] bs=[]∧bI false [] bs=false:=by
 rw[qD]at h1 h2
 have e0:aE [] bs=bs.map oZ:=by simp[aE]
 have hz:∀x∈bs.map oZ,3≤x∧x≤27:=fun x hx=>by
  obtain⟨y,hy,rfl⟩:=List.mem_map.1 hx
  have:=abn jO hy
  unfold oZ;omega
 obtain⟨b1,b2⟩:=agZ hz (by unfold gX at h1;omega) (by unfold gX at h2;omega)
 rw[List.length_map]at b1 b2
 have ok:di false [] bs=true:=by
  simp only[di,ami jO,Bool.true_and,decide_eq_true_eq,List.length_nil];omega
 have hsm:aZ bs:=⟨by have:=aff (bs:=bs);omega,fun x hx=>by have:=abn jO hx;omega⟩
 obtain⟨_,_,_,_,_,_,_,_,_,f0,f⟩:=rI ok ie hsm
 rw[e0]at f
 have f2:jh (bs.map oZ) (dG [] bs)≤153:=by rw[dG,e0,List.length_nil,Nat.zero_add];exact b2
 have p1:=ni (aE [] bs) (([]:List En).length+bs.length - 1) (by simp;omega)
 have p2:=nL (aE [] bs) (([]:List En).length+bs.length - 1)
 simp only[List.length_nil,Nat.zero_add]at p1 p2
 have e1:aX false [] bs=[]:=by unfold aX;rw[if_pos ok,List.take_nil]
 have e2:cF false [] bs=[]:=by unfold cF;rw[if_pos ok,List.drop_nil]
 rw[e1,e2]at f
 unfold imax at f
 refine⟨ok, ?_, ?_,dG [] bs,by unfold dG;simp only[List.length_nil,Nat.zero_add];exact p1,by unfold dG;simp only[List.length_nil,Nat.zero_add];omega,by unfold a6;rw[if_pos ok],by unfold cN;rw[if_pos ok],e1,e2,by unfold bI;rw[ok];rfl⟩
 ·split at f<;>omega
 ·split at f<;>omega
theorem afg{es:List En}:2*(es.length:Int)≤(es.map pz).sum:=by
 induction es with
 |nil=>simp
 |cons b r ih=>rw[List.map_cons,List.sum_cons,List.length_cons];have:=ajE b;omega
theorem ajG{es:List En}{key val:ByteArray}(jO:jr (bt es key val)=true)(h0:ba es []≤254)(h1:¬ba (bt es key val) []≤254):
 di true (bt es key val) []=true∧ba (aX true (bt es key val) []) []≤254∧ba (cF true (bt es key val) []) []≤254∧
  ∃k,0<k∧k<(bt es key val).length∧aX true (bt es key val) []=(bt es key val).take k∧cF true (bt es key val) []=(bt es key val).drop k∧a6 true (bt es key val) []=[]∧cN true (bt es key val) []=[]∧bI true (bt es key val) []=true:=by
 have hl:es.length≤200:=by
  have:=afg (es:=es)
  rw[vK]at h0
  omega
 obtain⟨ok,f1,f2⟩:=agT hl h0 (asi jO) h1
 generalize bt es key val=xs at jO h1 ok f1 f2 ⊢
 have e1:a6 true xs []=[]:=by unfold a6;rw[if_pos ok,List.take_nil]
 have e2:cN true xs []=[]:=by unfold cN;rw[if_pos ok,List.drop_nil]
 rw[e1]at f1
 rw[e2]at f2
 have h2:2≤xs.length:=by
  simp only[di,Bool.and_eq_true,decide_eq_true_eq,List.length_nil]at ok
  omega
 have p1:=ni (aE xs []) (xs.length+([]:List Br).length - 1) (by simp;omega)
 have p2:=nL (aE xs []) (xs.length+([]:List Br).length - 1)
 simp only[List.length_nil,Nat.add_zero]at p1 p2
 exact⟨ok,f1,f2,dG xs [],by unfold dG;simp only[List.length_nil,Nat.add_zero];exact p1,by unfold dG;simp only[List.length_nil,Nat.add_zero];omega,by unfold aX;rw[if_pos ok],by unfold cF;rw[if_pos ok],e1,e2,by unfold bI;rw[ok];rfl⟩
theorem gN{th:Th}{s:S5}(h:xx th s):qC th s s [] []:=
 ⟨h,List.nodup_nil,fun p hp=>(by cases hp),fun p=>⟨fun x=>⟨x,List.not_mem_nil⟩,fun x=>x.1⟩,fun p=>⟨fun x=>.inl ⟨x,List.not_mem_nil⟩,fun x=>x.elim (fun y=>y.1) (fun y=>by cases y)⟩,
   fun p=>⟨.inl,fun x=>x.elim id (fun y=>by cases y.2)⟩,fun p _=>⟨rfl,rfl⟩,id⟩
theorem eJ{th:Th}{s t u:S5}{N1 N2 V1 V2:List Int}(h1:qC th s t N1 V1)(h2:qC th t u N2 V2)(hd:∀p∈V2,p ∉ N1):qC th s u (N1++N2) (V1++V2)where
 ok:=h2.ok
 nd:=List.nodup_append.2 ⟨h1.nd,h2.nd,fun a ha b hb e=>by subst e;exact((h1.fr a).1 (h2.sub a hb)).2 ha⟩
 sub:=fun p hp=>(List.mem_append.1 hp).elim (h1.sub p) (fun h=>((h1.fr p).1 (h2.sub p h)).1)
 fr:=fun p=>by rw[h2.fr,h1.fr,List.mem_append,not_or,and_assoc]
 fs:=fun p=>by
  rw[h2.fs,h1.fs,List.mem_append,List.mem_append,not_or]
  constructor
  ·rintro(⟨⟨a,b⟩|a,c⟩|a)
   ·exact .inl ⟨a,b,c⟩
   ·exact .inr (.inl a)
   ·exact .inr (.inr a)
  ·rintro(⟨a,b,c⟩|a|a)
   ·exact .inl ⟨.inl ⟨a,b⟩,c⟩
   ·exact .inl ⟨.inr a,fun h=>hd p h a⟩
   ·exact .inr a
 gn:=fun p=>by
  rw[h2.gn,h1.gn,h1.fs,List.mem_append]
  constructor
  ·rintro((a|⟨a,b⟩)|⟨⟨a,b⟩|a,c⟩)
   ·exact .inl a
   ·exact .inr ⟨a,.inl b⟩
   ·exact .inr ⟨a,.inr c⟩
   ·exact absurd a (hd p c)
  ·rintro(a|⟨a,b|b⟩)
   ·exact .inl (.inl a)
   ·exact .inl (.inr ⟨a,b⟩)
   ·by_cases hv:p∈V1
    ·exact .inl (.inr ⟨a,hv⟩)
    ·exact .inr ⟨.inl ⟨a,hv⟩,b⟩
 rd:=fun p hp=>by
  have a:=h1.rd p hp
  have b:=h2.rd p (fun h=>hp ((h1.fr p).1 h).1)
  exact⟨b.1.trans a.1,b.2.trans a.2⟩
 fu:=fun h=>h2.fu (h1.fu h)
theorem qC.rep{th:Th}{s t:S5}{N V:List Int}(h:qC th s t N V):∀(k:Nat) {x:TN k},Ts.rep th s.m k x→(∀p∈nZ k x,¬In s.fr p)→Ts.rep th t.m k x
 |0,x,hr,hp=>Rd.same hr (h.rd _ (hp _ (vF 0 x)))
 |k+1,x,hr,hp=>⟨Rd.same hr.1 (h.rd _ (hp _ (vF (k+1) x))),fun y hy=>h.rep k (hr.2 y hy) fun p jW=>hp p (List.mem_cons_of_mem _ (List.mem_flatMap.2 ⟨y,hy,jW⟩))⟩
theorem adK{th:Th}{s:S5}(h:xx th s)(n:Int):qC th s ⟨s.m,s.fu,s.fr,iW s.fs n,o9 s.fs s.gn n⟩ [] [n]:=by
 have r:In s.fs n→0≤n∧n<1024:=fun hn=>nq h.fs hn
 by_cases hn:In s.fs n
 ·have e1:iW s.fs n=Bx.cG s.fs n:=if_pos hn
  have e2:o9 s.fs s.gn n=Bx.ej s.gn n:=if_pos hn
  rw[e1,e2]
  refine⟨⟨h.d,h.fr,(Bx.ky h.fs n).1,(Bx.jU h.gn n).1,h.pg⟩,List.nodup_nil,fun p hp=>(by cases hp),fun p=>⟨fun x=>⟨x,List.not_mem_nil⟩,fun x=>x.1⟩,fun p=> ?_,fun p=> ?_,fun p _=>⟨rfl,rfl⟩,id⟩
  ·simp only[]
   rw[pb h.fs,List.mem_singleton]
   exact⟨.inl,fun x=>x.elim id (fun y=>by cases y)⟩
  ·simp only[]
   rw[tl h.gn (r hn),List.mem_singleton]
   exact⟨fun x=>x.imp id (fun y=>⟨by rw[y];exact hn,y⟩),fun x=>x.imp id (fun y=>y.2)⟩
 ·have e1:iW s.fs n=s.fs:=if_neg hn
  have e2:o9 s.fs s.gn n=s.gn:=if_neg hn
  rw[e1,e2]
  refine⟨h,List.nodup_nil,fun p hp=>(by cases hp),fun p=>⟨fun x=>⟨x,List.not_mem_nil⟩,fun x=>x.1⟩,fun p=> ?_,fun p=> ?_,fun p _=>⟨rfl,rfl⟩,id⟩
  ·rw[List.mem_singleton]
   exact⟨fun x=>.inl ⟨x,fun e=>hn (by rw[←e];exact x)⟩,fun x=>x.elim (fun y=>y.1) (fun y=>by cases y)⟩
  ·rw[List.mem_singleton]
   exact⟨.inl,fun x=>x.elim id (fun y=>absurd (by rw[←y.2];exact y.1) hn)⟩
theorem aql{th:Th}{s:S5}{l:Bool}{es:List En}{bs:List Br}(ho:xx th s)(hm:cT l es (aa bs)=true)(hz:ba es (aa bs)≤254):
 (wE th s l es bs=0∧∃n,qC th s (wS th s l es bs) [n] []∧wB th s l es bs=(cM l es bs,n,())∧Rd th (wS th s l es bs).m n l es (aa bs))∨
 (wE th s l es bs=41∧wS th s l es bs=s∧∀k,¬In s.fr k)∨(wE th s l es bs=42∧qC th s (wS th s l es bs) [] []∧(wS th s l es bs).fu=0):=by
 have he:gI l es (aa bs)=0:=lA.2 ⟨hm,hz⟩
 obtain⟨d1,d2,d3,d4,d5⟩:=aly he
 by_cases hx:Bx.ez s.fr 0=false
 ·have e:bD th s.m s.fu s.fr s.fs l es bs=(s.m,s.fu,s.fr,s.fs,dB,41):=by unfold bD;rw[if_pos hx]
  right;left
  refine⟨by unfold wE;rw[e],by unfold wS;rw[e],fun k=>amb ho.fr hx k⟩
 ·have hx1:Bx.ez s.fr 0=true:=by simpa using hx
  have hn:=abE ho.fr hx1
  obtain⟨tJ,hnp⟩:=ho.pg _ hn
  have hnr:=nq ho.fr hn
  obtain⟨g1,g2,g3⟩:=Ds.ap9 (th:=th) (m:=s.m) (fu:=s.fu) (n:=Bx.br s.fr 0) (s:=cU l es (aa bs)) ho.d hnp (by omega)
  have gd:=Ds.anD (n:=Bx.br s.fr 0) (s:=cU l es (aa bs)) ho.d
  rcases g1 with⟨a,b,c⟩|⟨a,b⟩
  ·left
   have e:bD th s.m s.fu s.fr s.fs l es bs=((Ds.jZ th s.m s.fu (Bx.br s.fr 0) (cU l es (aa bs))).1,(Ds.jZ th s.m s.fu (Bx.br s.fr 0) (cU l es (aa bs))).2.1,Bx.cG s.fr (Bx.br s.fr 0),Bx.ej s.fs (Bx.br s.fr 0),(cM l es bs,Bx.br s.fr 0,()),0):=by
    unfold bD
    rw[if_neg hx,if_neg (by rw[he];simp),if_neg (by rw[a];simp)]
   refine⟨by unfold wE;rw[e],Bx.br s.fr 0, ?_,by unfold wB;rw[e], ?_⟩
   ·unfold wS
    rw[e]
    refine⟨⟨gd,(Bx.ky ho.fr _).1,(Bx.jU ho.fs _).1,ho.gn,fun p hp=>ho.pg p ((pb ho.fr).1 hp).1⟩,by simp,fun p hp=>by rw[List.mem_singleton.1 hp];exact hn,fun p=> ?_,fun p=> ?_,fun p=> ?_,fun p hp=>g3 p (fun e=>hp (by rw[e];exact hn)),g2⟩
    ·simp only[]
     rw[pb ho.fr,List.mem_singleton]
    ·simp only[]
     rw[tl ho.fs hnr,List.mem_singleton]
     exact⟨fun x=>x.imp (fun y=>⟨y,List.not_mem_nil⟩) id,fun x=>x.imp (fun y=>y.1) id⟩
    ·exact⟨.inl,fun x=>x.elim id (fun y=>by cases y.2)⟩
   ·unfold wS
    rw[e]
    exact⟨b,by rw[c];exact d1,by rw[c];exact d2,by rw[c];exact d3,by rw[c];exact d4⟩
  ·right;right
   have e:bD th s.m s.fu s.fr s.fs l es bs=((Ds.jZ th s.m s.fu (Bx.br s.fr 0) (cU l es (aa bs))).1,(Ds.jZ th s.m s.fu (Bx.br s.fr 0) (cU l es (aa bs))).2.1,s.fr,s.fs,dB,42):=by
    unfold bD
    rw[if_neg hx,if_neg (by rw[he];simp),if_pos (by rw[a];simp),a]
   refine⟨by unfold wE;rw[e], ?_,by unfold wS;rw[e];exact b⟩
   unfold wS
   rw[e]
   have r:=gN ho
   refine⟨⟨gd,ho.fr,ho.fs,ho.gn,ho.pg⟩,r.nd,r.sub,r.fr,r.fs,r.gn,fun p hp=>g3 p (fun e=>hp (by rw[e];exact hn)),g2⟩
end Ts
namespace Ts
open Go Go.Sx Go.Proofs Lf
theorem fl{th:Th}{m:As}{n deep:Int}(h:gU th m n deep=0):cT (kJ th m n deep) (bP th m n deep) (aP th m n deep)=true∧(bP th m n deep).length≤126∧(aP th m n deep).length≤84∧aY (bP th m n deep)∧aZ (aP th m n deep)∧
 deep≤16∧ba (bP th m n deep) (aP th m n deep)≤254:=by
 unfold gU at h
 split at h
 ·cases h
 ·rename_i hd
  split at h
  ·rename_i hg
   have e0:rG th m n deep=true:=by unfold rG;rw[decide_eq_true hg,decide_eq_true (by omega)];rfl
   obtain⟨a,b,c,_,e⟩:=alz h
   have sz:=(lA.1 c).2
   have e1:bP th m n deep=ng (Ds.gS th m n):=by unfold bP;rw[if_pos e0]
   have e2:aP th m n deep=mi (Ds.gS th m n):=by unfold aP;rw[if_pos e0]
   have e3:kJ th m n deep=jg (Ds.gS th m n):=by unfold kJ;rw[e0,Bool.true_and]
   rw[e1,e2,e3]
   have s1:=afg (es:=ng (Ds.gS th m n))
   have s2:=aff (bs:=mi (Ds.gS th m n))
   have s3:=amg (mi (Ds.gS th m n))
   unfold ba at sz
   unfold gX at s2 s3
   refine⟨e,by omega,by omega,a,b,by omega, ?_⟩
   unfold ba;exact sz
  ·rename_i hg
   exact absurd h hg
abbrev vL(es:List En):Prop:=∀x∈es,x.1.size≤24
abbrev jX(bs:List Br):Prop:=∀x∈bs,x.1.size≤24
theorem abJ{l:Bool}{es:List En}{bs:List Br}(he:vL es)(hb:jX bs):(cM l es bs).size≤24:=by
 unfold cM
 split
 ·cases es with
  |nil=>exact Nat.zero_le _
  |cons e r=>exact he e List.mem_cons_self
 ·cases bs with
  |nil=>exact Nat.zero_le _
  |cons e r=>exact hb e List.mem_cons_self
theorem zM{th:Th}{m:As}{fu:Int}{fr fs:Ws}{l:Bool}{es:List En}{bs:List Br}(he:vL es)(hb:jX bs):(bD th m fu fr fs l es bs).2.2.2.2.1.1.size≤24:=by
 unfold bD
 split
 ·exact Nat.zero_le _
 ·split
  ·exact Nat.zero_le _
  ·split
   ·exact Nat.zero_le _
   ·exact abJ he hb
theorem ajH{bs:List Br}(h:jX bs):jX (aa bs):=by
 cases bs with
 |nil=>exact h
 |cons b r=>
  intro x hx
  rcases List.mem_cons.1 hx with rfl|hx
  ·exact Nat.zero_le _
  ·exact h x (List.mem_cons_of_mem _ hx)
theorem amj{l:Bool}{es:List En}{bs:List Br}(he:vL es):vL (aX l es bs)∧vL (cF l es bs):=by
 unfold aX cF
 split
 ·exact⟨fun x hx=>he x (List.mem_of_mem_take hx),fun x hx=>he x (List.mem_of_mem_drop hx)⟩
 ·exact⟨fun x hx=>(by cases hx),fun x hx=>(by cases hx)⟩
theorem amk{l:Bool}{es:List En}{bs:List Br}(he:jX bs):jX (a6 l es bs)∧jX (cN l es bs):=by
 unfold a6 cN
 split
 ·exact⟨fun x hx=>he x (List.mem_of_mem_take hx),fun x hx=>he x (List.mem_of_mem_drop hx)⟩
 ·exact⟨fun x hx=>(by cases hx),fun x hx=>(by cases hx)⟩
theorem adL{th:Th}{m:As}{fu:Int}{fr fs:Ws}{l:Bool}{es:List En}{bs:List Br}(hf:Bx.okW fr):0≤(bD th m fu fr fs l es bs).2.2.2.2.1.2.1∧(bD th m fu fr fs l es bs).2.2.2.2.1.2.1≤65536:=by
 have z:0≤dB.2.1∧dB.2.1≤65536:=⟨Int.le_refl 0,by show(0:Int)≤65536;omega⟩
 unfold bD
 split
 ·exact z
 ·rename_i h
  have:=vE hf (by simpa using h)
  split
  ·exact z
  ·split
   ·exact z
   ·exact⟨by show 0≤Bx.br fr 0;omega,by show Bx.br fr 0≤65536;omega⟩
theorem noE{q:En→Prop}:∀b∈([]:List En),q b:=fun b hb=>by cases hb
theorem noB{q:Br→Prop}:∀b∈([]:List Br),q b:=fun b hb=>by cases hb
structure ajI (th:Th) (m:As) (fu:Int) (fr:Ws) (l:List Br):Prop where
 d:Ds.bR th m fu
 fr:Bx.okW fr
 two:l.length≤2
 key:jX l
 pg:∀b∈l,0≤b.2.1∧b.2.1≤65536
theorem nu{th:Th}{m:As}{fu:Int}{fr fs:Ws}{l:Bool}{es:List En}{bs:List Br}(hd:Ds.bR th m fu)(hf:Bx.okW fr)(he:vL es)(hb:jX bs):
 ajI th (bh th m fu fr fs l es bs).1 (bh th m fu fr fs l es bs).2.1 (bh th m fu fr fs l es bs).2.2.1 (bh th m fu fr fs l es bs).2.2.2.2.1:=by
 have hbb:=ajH hb
 have nil:jX ([]:List Br):=fun b hb=>by cases hb
 unfold bh
 split
 ·exact⟨hd,hf,Nat.zero_le _,nil,noB⟩
 ·split
  ·obtain⟨a,b⟩:=zL (fs:=fs) (l:=l) (es:=es) (bs:=aa bs) hd hf
   refine⟨a,b,by show 1≤2;omega,fun x hx=> ?_,fun x hx=> ?_⟩
   ·rw[List.mem_singleton.1 hx]
    exact zM he hbb
   ·rw[List.mem_singleton.1 hx]
    exact adL hf
  ·split
   ·exact⟨hd,hf,Nat.zero_le _,nil,noB⟩
   ·obtain⟨s1,s2⟩:=amj (l:=l) (bs:=aa bs) he
    obtain⟨s3,s4⟩:=amk (l:=l) (es:=es) hbb
    obtain⟨a,b⟩:=zL (fs:=fs) (l:=bI l es (aa bs)) (es:=aX l es (aa bs)) (bs:=a6 l es (aa bs)) hd hf
    simp only[]
    split
    ·exact⟨a,b,Nat.zero_le _,nil,noB⟩
    ·obtain⟨c,d⟩:=zL (fs:=(bD th m fu fr fs (bI l es (aa bs)) (aX l es (aa bs)) (a6 l es (aa bs))).2.2.2.1) (l:=bI l es (aa bs)) (es:=cF l es (aa bs)) (bs:=cN l es (aa bs)) a b
     refine⟨c,d,Nat.le_refl 2,fun x hx=> ?_,fun x hx=> ?_⟩
     ·rcases List.mem_cons.1 hx with rfl|hx
      ·exact zM s1 s3
      ·rw[List.mem_singleton.1 hx]
       exact zM s2 s4
     ·rcases List.mem_cons.1 hx with rfl|hx
      ·exact adL hf
      ·rw[List.mem_singleton.1 hx]
       exact adL b
theorem ajJ{key:ByteArray}{op:Option ByteArray}{es:List En}(hk:key.size≤24)(he:vL es):vL (doE key op es):=by
 cases op with
 |some v=>
  show vL (bt es key v)
  intro x hx
  unfold bt at hx
  rcases List.mem_append.1 hx with hx|hx
  ·exact he x (List.mem_of_mem_take hx)
  ·rcases List.mem_cons.1 hx with rfl|hx
   ·exact hk
   ·exact he x (List.mem_of_mem_drop hx)
 |none=>
  show vL (if fL es key=true then bS es key else [])
  split
  ·exact fun x hx=>he x (List.mem_filter.1 hx).1
  ·exact fun x hx=>by cases hx
theorem nO{key:ByteArray}{op:Option ByteArray}{es:List En}(hk:key.size≤24)(hv:∀v,op=some v→v.size≤100)(hl:es.length≤126)(he:aY es):aY (doE key op es):=by
 cases op with
 |some v=>
  have hv:=hv v rfl
  show aY (bt es key v)
  refine⟨by rw[zB];split<;>omega,fun x hx=> ?_⟩
  unfold bt at hx
  rcases List.mem_append.1 hx with hx|hx
  ·exact he.2 x (List.mem_of_mem_take hx)
  ·rcases List.mem_cons.1 hx with rfl|hx
   ·exact⟨by show key.size≤1000;omega,by show v.size≤1000;omega⟩
   ·exact he.2 x (List.mem_of_mem_drop hx)
 |none=>
  show aY (if fL es key=true then bS es key else [])
  split
  ·exact⟨Nat.le_trans (List.length_filter_le _ _) he.1,fun x hx=>he.2 x ((List.mem_filter.1 hx).1)⟩
  ·exact ie
theorem adM{k:ByteArray}{r:List Br}(hk:k.size≤24)(h:jX r):jX (kK k r):=by
 cases r with
 |nil=>exact h
 |cons b r=>
  intro x hx
  rcases List.mem_cons.1 hx with rfl|hx
  ·exact hk
  ·exact h x (List.mem_cons_of_mem _ hx)
theorem vM(k:ByteArray)(r:List Br):(kK k r).length=r.length:=by cases r<;>rfl
theorem pj{bs:List Br}(hb:jX bs)(k:Nat):(bs.getD k dB).1.size≤24:=by
 rcases Nat.lt_or_ge k bs.length with h|h
 ·rw[bd h];exact hb _ (List.getElem_mem h)
 ·rw[List.getD,List.getElem?_eq_none h];exact Nat.zero_le _
theorem afh{bs r:List Br}{k:Nat}{s:ByteArray}(hb:jX bs)(hk:jX r)(hs:s.size≤24):jX (bs.take k++kK s r++bs.drop (k+1)):=fun x hx=>by
 rcases List.mem_append.1 hx with hx|hx
 ·rcases List.mem_append.1 hx with hx|hx
  ·exact hb x (List.mem_of_mem_take hx)
  ·exact adM hs hk x hx
 ·exact hb x (List.mem_of_mem_drop hx)
theorem vN{bs r:List Br}{k:Nat}{s:ByteArray}(hb:jX bs)(hl:bs.length≤84)(hr:r.length≤2)(hk:jX r)(hs:s.size≤24):aZ (bs.take k++kK s r++bs.drop (k+1)):=by
 refine⟨?_,fun x hx=>Nat.le_trans (afh hb hk hs x hx) (by omega)⟩
 rw[List.length_append,List.length_append,vM,List.length_take,List.length_drop];omega
theorem abK{l:Bool}{es:List En}{bs:List Br}(h:cT l es bs=true):vL es∧jX bs:=by
 obtain⟨_,_,h1,h2⟩:=dA h
 exact⟨fun x hx=>(adt h1 hx).1,fun x hx=>(abn h2 hx).1⟩
theorem qE{th:Th}{key:ByteArray}{op:Option ByteArray}(hk:key.size≤24):∀(f:Nat) {m:As} {fu:Int} {fr fs gn:Ws} {n deep:Int},Ds.bR th m fu→Bx.okW fr→
 ajI th (pd th key op f m fu fr fs gn n deep) (pe th key op f m fu fr fs gn n deep) (pf th key op f m fu fr fs gn n deep) (sP th key op f m fu fr fs gn n deep)
 |0,m,fu,fr,fs,gn,n,deep,hd,hf=>⟨hd,hf,Nat.zero_le _,noB,noB⟩
 |f+1,m,fu,fr,fs,gn,n,deep,hd,hf=>by
  have nil:jX ([]:List Br):=fun b hb=>by cases hb
  unfold pd pe pf sP vA
  split
  ·exact⟨hd,hf,Nat.zero_le _,nil,noB⟩
  ·rename_i h0
   obtain⟨hm,_⟩:=fl (by simpa using h0)
   obtain⟨n3,n4⟩:=abK hm
   split
   ·split
    ·exact⟨hd,hf,Nat.zero_le _,nil,noB⟩
    ·exact nu hd hf (ajJ hk n3) n4
   ·split
    ·exact⟨hd,hf,Nat.zero_le _,nil,noB⟩
    ·simp only[]
     have r:=qE (op:=op) hk f (fs:=fs) (gn:=gn) (n:=((aP th m n deep).getD (aS (aP th m n deep) key).toNat dB).2.1) (deep:=deep+1) hd hf
     split
     ·exact⟨r.d,r.fr,Nat.zero_le _,nil,noB⟩
     ·exact nu r.d r.fr n3 (afh n4 r.key (pj n4 _))
end Ts
namespace Ts
open Go Go.Sx Go.Proofs Lf
theorem fP{th:Th}{key:ByteArray}{op:Option ByteArray}{f:Nat}{m:As}{fu:Int}{fr fs gn:Ws}{n deep:Int}:vA th key op (f+1) m fu fr fs gn n deep=
 if gU th m n deep≠0 then(m,fu,fr,fs,gn,[],gU th m n deep)
 else if kJ th m n deep=true then
  if ou key op (bP th m n deep)≠0 then(m,fu,fr,fs,gn,[],ou key op (bP th m n deep))
  else gK (o9 fs gn n) (bh th m fu fr (iW fs n) true (doE key op (bP th m n deep)) (aP th m n deep))
 else if aP th m n deep=[]then(m,fu,fr,fs,gn,[],4)
 else if rK th key op f m fu fr fs gn ((aP th m n deep).getD (aS (aP th m n deep) key).toNat dB).2.1 (deep+1)≠0 then
  (pd th key op f m fu fr fs gn ((aP th m n deep).getD (aS (aP th m n deep) key).toNat dB).2.1 (deep+1),pe th key op f m fu fr fs gn ((aP th m n deep).getD (aS (aP th m n deep) key).toNat dB).2.1 (deep+1),
   pf th key op f m fu fr fs gn ((aP th m n deep).getD (aS (aP th m n deep) key).toNat dB).2.1 (deep+1),qy th key op f m fu fr fs gn ((aP th m n deep).getD (aS (aP th m n deep) key).toNat dB).2.1 (deep+1),
   rJ th key op f m fu fr fs gn ((aP th m n deep).getD (aS (aP th m n deep) key).toNat dB).2.1 (deep+1),[],rK th key op f m fu fr fs gn ((aP th m n deep).getD (aS (aP th m n deep) key).toNat dB).2.1 (deep+1))
 else gK (o9 (qy th key op f m fu fr fs gn ((aP th m n deep).getD (aS (aP th m n deep) key).toNat dB).2.1 (deep+1)) (rJ th key op f m fu fr fs gn ((aP th m n deep).getD (aS (aP th m n deep) key).toNat dB).2.1 (deep+1)) n)
  (bh th (pd th key op f m fu fr fs gn ((aP th m n deep).getD (aS (aP th m n deep) key).toNat dB).2.1 (deep+1)) (pe th key op f m fu fr fs gn ((aP th m n deep).getD (aS (aP th m n deep) key).toNat dB).2.1 (deep+1))
    (pf th key op f m fu fr fs gn ((aP th m n deep).getD (aS (aP th m n deep) key).toNat dB).2.1 (deep+1)) (iW (qy th key op f m fu fr fs gn ((aP th m n deep).getD (aS (aP th m n deep) key).toNat dB).2.1 (deep+1)) n) false (bP th m n deep)
    ((aP th m n deep).take (aS (aP th m n deep) key).toNat++kK ((aP th m n deep).getD (aS (aP th m n deep) key).toNat dB).1 (sP th key op f m fu fr fs gn ((aP th m n deep).getD (aS (aP th m n deep) key).toNat dB).2.1 (deep+1))++(aP th m n deep).drop ((aS (aP th m n deep) key).toNat+1))):=rfl
def asj(bs r:List Br)(k:Int):List Br:=bU [(List.drop (Int.toNat 0) (List.take k.toNat bs),()),(r,()),(List.drop (k+1).toNat (List.take (bs.length:Int).toNat bs),())]
theorem abL{bs r:List Br}{k:Int}(h0:0≤k):asj bs r k=bs.take k.toNat++r++bs.drop (k.toNat+1):=by
 show List.drop 0 (List.take k.toNat bs)++(r++(List.drop (k+1).toNat (List.take (bs.length:Int).toNat bs)++[]))=_
 rw[List.append_nil,List.drop_zero,List.append_assoc,show(bs.length:Int).toNat=bs.length from rfl,List.take_length,show(k+1).toNat=k.toNat+1 from by omega]
theorem ajK{th:Th}{m:As}{fu root:Int}{fr fs gn:Ws}{n deep:Int}{key val:ByteArray}{f:Nat}{c:Chg}(e:vA th key (some val) f m fu fr fs gn n deep=c):
 (wO f).fi ((th,m,fu,root,fr,fs,gn),n,deep,key,val)=qw th c.1 c.2.1 root c.2.2.1 c.2.2.2.1 c.2.2.2.2.1 key val++[.vec (.ad cB c.2.2.2.2.2.1) Lf.eB]∧(wO f).out ((th,m,fu,root,fr,fs,gn),n,deep,key,val)=.bm [.vec 6,bQ c.2.2.2.2.2.2]:=by
 subst e;exact⟨rfl,rfl⟩
theorem ag0{th:Th}{m:As}{fu root:Int}{fr fs gn:Ws}{n deep:Int}{key val:ByteArray}{f:Nat}{c:Chg}(e:vA th key none f m fu fr fs gn n deep=c):
 (wP f).fi ((th,m,fu,root,fr,fs,gn),n,deep,key,val)=qx th c.1 c.2.1 root c.2.2.1 c.2.2.2.1 c.2.2.2.2.1 key++[.vec (.ad cB c.2.2.2.2.2.1) Lf.eB]∧(wP f).out ((th,m,fu,root,fr,fs,gn),n,deep,key,val)=.bm [.vec 5,bQ c.2.2.2.2.2.2]:=by
 subst e;exact⟨rfl,rfl⟩
theorem rM{bs:List Br}{key:ByteArray}(hs:gW (l9 bs))(h:bs≠[]):0≤aS bs key∧aS bs key<(bs.length:Int):=by
 obtain⟨p,e,hp,_⟩:=u7 (ks:=l9 bs) (key:=key) hs (by cases bs with|nil=>exact absurd rfl h|cons b r=>simp)
 unfold aS
 rw[e]
 rw[List.length_map]at hp
 exact⟨by omega,by omega⟩
theorem abM{r:List Br}{k:ByteArray}(h:0<r.length):(r.set 0 (k,(r.getD 0 (CL.d [CK.str,CK.int IntKind.i64])).snd):List Br)=kK k r:=by
 cases r with
 |nil=>simp at h
 |cons b r=>rfl
theorem inI{n:Int}(h0: -65537≤n)(h1:n≤65537):ax n:=⟨by omega,by omega⟩
theorem vO{th:Th}{m:As}{n deep:Int}(h:gU th m n deep=0)(k:Nat):0≤((aP th m n deep).getD k dB).2.1∧((aP th m n deep).getD k dB).2.1≤65536:=by
 obtain⟨hm,_⟩:=fl h
 rcases Nat.lt_or_ge k (aP th m n deep).length with hk|hk
 ·have:=abn (dA hm).2.2.2 (List.getElem_mem hk)
  rw[bd hk];omega
 ·rw[List.getD,List.getElem?_eq_none hk];exact⟨Int.le_refl 0,by show(0:Int)≤65536;omega⟩
theorem ajL{f:Nat}(h:ke P Bx.cn 80 (wO f)):(ow f).Ok P Bx.cn:=aH.Ok.cons (qs.sum mNo) (aH.Ok.cons (vB.sum mLv) (aH.Ok.cons (ig (fV (jC.sum mTN) 1 _) 1) (aH.Ok.cons aje.uF (aH.Ok.cons uZ.sum (aH.Ok.cons rH.sum (aH.Ok.cons (h.sum ame) aH.Ok.nil))))))
section
variable{th:Th}{m:As}{fu root:Int}{fr fs gn:Ws}{n deep:Int}{key val:ByteArray}{f:Nat}{X:Ctx}
theorem abN{th:Th}{m:As}{fu root:Int}{fr fs gn:Ws}{key val:ByteArray}:∀y∈adH,(qw th m fu root fr fs gn key val).length≤y.2.m:=fun y hy=>by
 simp only[adH,List.mem_cons,List.not_mem_nil,or_false]at hy
 rcases hy with rfl|rfl|rfl|rfl<;>exact Nat.le_refl _
theorem afi(hz:dP Bx.cn X)(hX:X.H=lk (qw th m fu root fr fs gn key val))(T:(ow f).Ok P Bx.cn){m':As}{gj:Int}{pn lK rN:Ws}{l:Bool}{es:List En}{bs:List Br}{k:Int}{r:List Br}(hd:Ds.bR th m' gj)(hf:Bx.okW pn)(hl:l=false∧es=[])(he:aY es)
 (hb:aZ (bs.take k.toNat++r++bs.drop (k.toNat+1))) (hk0:0≤k) (yQ:k<(bs.length:Int)) (hbl:bs.length≤84)
 (e:vA th key (some val) (f+1) m fu fr fs gn n deep=gK (o9 lK rN n) (bh th m' gj pn (iW lK n) l es (bs.take k.toNat++r++bs.drop (k.toNat+1)))):
 Safe P 80 X (wN (wO (f+1)) ((th,m,fu,root,fr,fs,gn),n,deep,key,val)) (aod th m' gj root pn lK rN n key val l es bs k r):=by
 rw[←abL hk0]at hb e
 have hjl:=hb.1
 obtain⟨f1,f2⟩:=ajK (root:=root) (val:=val) e
 refine Ds.eH hz hX abN T Tryd.func80 (aqh f th m' gj root pn lK rN n key val l es bs k r) ⟨by omega,hk0,by omega,⟨by omega,by omega⟩,by omega,by omega,by omega,by show 3≤100;omega, ?_,rfl,rfl,rfl,rfl,hd,hf,⟨fun h=>(by rw[hl.1]at h;cases h),fun _=>hl.2⟩,he,hb, ?_⟩
 ·exact Nat.le_trans hjl (by omega)
 ·exact kg ⟨[],[0,1],6,[]⟩ rfl (Nat.le_refl _) (ov.same _) f2 f1
theorem aml(hz:dP Bx.cn X)(hX:X.H=lk (qw th m fu root fr fs gn key val))(T:(ow f).Ok P Bx.cn){m':As}{gj:Int}{pn lK rN:Ws}{l:Bool}{es:List En}{bs:List Br}{k e:Int}{r:List Br}(hd:Ds.bR th m' gj)(hf:Bx.okW pn)(hl:l=false∧es=[])(he:aY es)
 (hb:aZ (bs.take k.toNat++kK (bs.getD k.toNat dB).1 r++bs.drop (k.toNat+1))) (hk0:0≤k) (yQ:k<(bs.length:Int)) (hbl:bs.length≤84)
 (ee:vA th key (some val) (f+1) m fu fr fs gn n deep=if e≠0 then(m',gj,pn,lK,rN,[],e)else gK (o9 lK rN n) (bh th m' gj pn (iW lK n) l es (bs.take k.toNat++kK (bs.getD k.toNat dB).1 r++bs.drop (k.toNat+1)))):
 Safe P 80 X (wN (wO (f+1)) ((th,m,fu,root,fr,fs,gn),n,deep,key,val)) (aoc th m' gj root pn lK rN n key val l es bs k e r):=by
 refine Ds.eH hz hX abN T Tryd.func80 (aqg f th m' gj root pn lK rN n key val l es bs k e r) ⟨fun h=> ?_,fun h=>⟨fun h5=> ?_,fun h5=> ?_⟩⟩
 ·have h:e≠0:=by simpa using h
  rw[if_pos h]at ee
  obtain⟨f1,f2⟩:=ajK (root:=root) (val:=val) ee
  exact kg ⟨[(0,.ad cB [],Lf.eB)],[0,1],6,[]⟩ rfl (Nat.le_refl _) (ov.same _) f2 f1
 ·have h:¬e≠0:=by simpa using h
  rw[if_neg h]at ee
  have h5:=of_decide_eq_true h5
  have e5:=abM (r:=r) (k:=(bs.getD k.toNat dB).1) (by omega)
  rw[←e5]at hb ee
  exact⟨hk0,yQ,by omega,h5,afi hz hX T hd hf hl he hb hk0 yQ hbl ee⟩
 ·have h:¬e≠0:=by simpa using h
  rw[if_neg h]at ee
  have h5:=of_decide_eq_false h5
  have e5:r=[]:=List.eq_nil_of_length_eq_zero (by omega)
  subst e5
  exact afi hz hX T hd hf hl he hb hk0 yQ hbl ee
theorem amm(hz:dP Bx.cn X)(hX:X.H=lk (qw th m fu root fr fs gn key val))(T:(ow f).Ok P Bx.cn)(hd:Ds.bR th m fu)(hf:Bx.okW fr)(h1:1≤deep∧deep≤17)(h2:18≤deep+((f+1:Nat):Int))(hk:1≤key.size∧key.size≤24)(hv:val.size≤100)
 (h:gU th m n deep=0) (hl:kJ th m n deep=false):
 Safe P 80 X (wN (wO (f+1)) ((th,m,fu,root,fr,fs,gn),n,deep,key,val)) (aob th m fu root fr fs gn n deep key val (kJ th m n deep) (bP th m n deep) (aP th m n deep)):=by
 obtain⟨hm,n1,n2,n3,n4,n5,_⟩:=fl h
 obtain⟨m1,m2,_,_⟩:=dA hm
 obtain⟨s1,s2⟩:=qu hm
 have hkk:∀v:ByteArray,(some val)=some v→v.size≤100:=fun v e=>by cases e;exact hv
 refine Ds.eH hz hX abN T Tryd.func80 (aqf f th m fu root fr fs gn n deep key val (kJ th m n deep) (bP th m n deep) (aP th m n deep)) ⟨fun h3=> ?_,fun h3=> ?_⟩
 ·have h3:aP th m n deep=[]:=List.eq_nil_of_length_eq_zero (by have:((aP th m n deep).length:Int)=0:=by simpa using h3
                                                               omega)
  obtain⟨f1,f2⟩:=ajK (val:=val) (root:=root) (th:=th) (m:=m) (fu:=fu) (fr:=fr) (fs:=fs) (gn:=gn) (key:=key) (f:=f+1) (n:=n) (deep:=deep) (c:=(m,fu,fr,fs,gn,[],4)) (by rw[fP,if_neg (by rw[h];simp),if_neg (by rw[hl];simp),if_pos h3])
  exact kg ⟨[(0,.ad cB [],Lf.eB)],[0,1],6,[]⟩ rfl (Nat.le_refl _) (ov.same _) f2 f1
 ·have h3:aP th m n deep≠[]:=fun e=>by rw[e]at h3;simp at h3
  obtain⟨p0,p1⟩:=rM (key:=key) s2 h3
  have pg:=vO h (aS (aP th m n deep) key).toNat
  have zN:=qE (th:=th) (key:=key) (op:=(some val)) hk.2 f (m:=m) (fu:=fu) (fr:=fr) (fs:=fs) (gn:=gn) (n:=((aP th m n deep).getD (aS (aP th m n deep) key).toNat dB).2.1) (deep:=deep+1) hd hf
  have hb:=vN (bs:=aP th m n deep) (k:=(aS (aP th m n deep) key).toNat) (abK hm).2 n2 zN.two zN.key (pj (abK hm).2 (aS (aP th m n deep) key).toNat)
  refine⟨by omega,s2,p0,p1,inI (by omega) (by omega),rfl,rfl,hd,hf,pg,⟨by omega,by omega⟩,by omega,hk,hv,aml hz hX T zN.d zN.fr ⟨hl,m2 hl⟩ n3 hb p0 p1 n2 ?_⟩
  rw[fP,if_neg (by rw[h];simp),if_neg (by rw[hl];simp),if_neg h3,hl]
  rfl
theorem aqm(hz:dP Bx.cn X)(hX:X.H=lk (qw th m fu root fr fs gn key val))(T:(ow f).Ok P Bx.cn)(hd:Ds.bR th m fu)(hf:Bx.okW fr)(hk:1≤key.size∧key.size≤24)(hv:val.size≤100)
 (h:gU th m n deep=0) (hl:kJ th m n deep=true):
 Safe P 80 X (wN (wO (f+1)) ((th,m,fu,root,fr,fs,gn),n,deep,key,val)) (asd th m fu root fr fs gn n key val (bP th m n deep) (aP th m n deep)):=by
 obtain⟨hm,n1,n2,n3,n4,n5,_⟩:=fl h
 obtain⟨m1,m2,_,_⟩:=dA hm
 obtain⟨s1,s2⟩:=qu hm
 have hkk:∀v:ByteArray,(some val)=some v→v.size≤100:=fun v e=>by cases e;exact hv
 obtain⟨f1,f2⟩:=ajK (val:=val) (root:=root) (th:=th) (m:=m) (fu:=fu) (fr:=fr) (fs:=fs) (gn:=gn) (key:=key) (f:=f+1) (n:=n) (deep:=deep) (c:=gK (o9 fs gn n) (bh th m fu fr (iW fs n) true (bt (bP th m n deep) key val) (aP th m n deep))) (by rw[fP,if_neg (by rw[h];simp),if_pos hl,if_neg (by show¬(0:Int)≠0;simp)];rfl)
 refine Ds.eH hz hX abN T Tryd.func80 (ase f th m fu root fr fs gn n key val (bP th m n deep) (aP th m n deep)) ⟨by omega,s1,rfl,rfl,rfl,rfl,hd,hf,⟨fun _=>m1 hl,fun e=>by cases e⟩,nO (op:=some val) hk.2 hkk n1 n3,n4, ?_⟩
 exact kg ⟨[],[0,1],6,[]⟩ rfl (Nat.le_refl _) (ov.same _) f2 f1
theorem vP:∀f,ke P Bx.cn 80 (wO f)
 |0=>by
  rintro⟨⟨(th:Th),(m:As),(fu:Int),(root:Int),(fr:Ws),(fs:Ws),(gn:Ws)⟩,(n:Int),(deep:Int),(key:ByteArray),(val:ByteArray)⟩ ⟨_,_,_,(h1:1≤deep∧deep≤17),(h2:18≤deep+((0:Nat):Int)),_⟩
  omega
 |f+1=>by
  have T:=ajL (vP f)
  refine fy Tryd.func80 (by kernel_rfl) (fun x=>Nat.le_of_ble_eq_true (by kernel_rfl)) ?_
  rintro⟨⟨(th:Th),(m:As),(fu:Int),(root:Int),(fr:Ws),(fs:Ws),(gn:Ws)⟩,(n:Int),(deep:Int),(key:ByteArray),(val:ByteArray)⟩ ⟨(hd:Ds.bR th m fu),(hf:Bx.okW fr),(hn:0≤n∧n≤65536),(h1:1≤deep∧deep≤17),(h2:18≤deep+((f+1:Nat):Int)),(hk:1≤key.size∧key.size≤24),(hv:val.size≤100),_⟩ X hX hz
  refine Ds.eH hz hX abN T Tryd.func80 (auj f th m fu root fr fs gn n deep key val) ⟨rfl,rfl,hd,inI (by omega) (by omega),fun h=> ?_,fun h=>⟨fun hl=> ?_,fun hl=> ?_⟩⟩
  ·have h:gU th m n deep≠0:=by simpa using h
   obtain⟨f1,f2⟩:=ajK (val:=val) (root:=root) (th:=th) (m:=m) (fu:=fu) (fr:=fr) (fs:=fs) (gn:=gn) (key:=key) (f:=f+1) (n:=n) (deep:=deep) (c:=(m,fu,fr,fs,gn,[],gU th m n deep)) (by rw[fP,if_pos h])
   exact kg ⟨[(0,.ad cB [],Lf.eB)],[0,1],6,[]⟩ rfl (Nat.le_refl _) (ov.same _) f2 f1
  ·have h:gU th m n deep=0:=by simpa using h
   have e:=aqm (root:=root) (val:=val) (gn:=gn) (fs:=fs) hz hX T hd hf hk hv h hl
   rw[hl]
   exact e
  ·have h:gU th m n deep=0:=by simpa using h
   exact amm hz hX T hd hf h1 h2 hk hv h hl
end
end Ts
namespace Ts
open Go Go.Sx Go.Proofs Lf
theorem ajM{f:Nat}(h:ke P Bx.cn 80 (wP f)):(oz f).Ok P Bx.cn:=aH.Ok.cons (qs.sum mNo) (aH.Ok.cons (vB.sum mLv) (aH.Ok.cons (ig (fV (jC.sum mTN) 1 _) 1) (aH.Ok.cons ai5.sum (aH.Ok.cons uZ.sum (aH.Ok.cons rH.sum (aH.Ok.cons (h.sum amf) aH.Ok.nil))))))
section
variable{th:Th}{m:As}{fu root:Int}{fr fs gn:Ws}{n deep:Int}{key val:ByteArray}{f:Nat}{X:Ctx}
theorem abO{th:Th}{m:As}{fu root:Int}{fr fs gn:Ws}{key:ByteArray}:∀y∈adI,(qx th m fu root fr fs gn key).length≤y.2.m:=fun y hy=>by
 simp only[adI,List.mem_cons,List.not_mem_nil,or_false]at hy
 rcases hy with rfl|rfl|rfl|rfl<;>exact Nat.le_refl _
theorem afj(hz:dP Bx.cn X)(hX:X.H=lk (qx th m fu root fr fs gn key))(T:(oz f).Ok P Bx.cn){m':As}{gj:Int}{pn lK rN:Ws}{l:Bool}{es:List En}{bs:List Br}{k:Int}{r:List Br}(hd:Ds.bR th m' gj)(hf:Bx.okW pn)(hl:l=false∧es=[])(he:aY es)
 (hb:aZ (bs.take k.toNat++r++bs.drop (k.toNat+1))) (hk0:0≤k) (yQ:k<(bs.length:Int)) (hbl:bs.length≤84)
 (e:vA th key none (f+1) m fu fr fs gn n deep=gK (o9 lK rN n) (bh th m' gj pn (iW lK n) l es (bs.take k.toNat++r++bs.drop (k.toNat+1)))):
 Safe P 80 X (wN (wP (f+1)) ((th,m,fu,root,fr,fs,gn),n,deep,key,val)) (aog th m' gj root pn lK rN n key l es bs k r):=by
 rw[←abL hk0]at hb e
 have hjl:=hb.1
 obtain⟨f1,f2⟩:=ag0 (root:=root) (val:=val) e
 refine Ds.eH hz hX abO T Tryd.func80 (aqk f th m' gj root pn lK rN n key l es bs k r) ⟨by omega,hk0,by omega,⟨by omega,by omega⟩,by omega,by omega,by omega,by show 3≤100;omega, ?_,rfl,rfl,rfl,rfl,hd,hf,⟨fun h=>(by rw[hl.1]at h;cases h),fun _=>hl.2⟩,he,hb, ?_⟩
 ·exact Nat.le_trans hjl (by omega)
 ·exact kg ⟨[],[0,1],5,[]⟩ rfl (Nat.le_refl _) (ov.same _) f2 f1
theorem amn(hz:dP Bx.cn X)(hX:X.H=lk (qx th m fu root fr fs gn key))(T:(oz f).Ok P Bx.cn){m':As}{gj:Int}{pn lK rN:Ws}{l:Bool}{es:List En}{bs:List Br}{k e:Int}{r:List Br}(hd:Ds.bR th m' gj)(hf:Bx.okW pn)(hl:l=false∧es=[])(he:aY es)
 (hb:aZ (bs.take k.toNat++kK (bs.getD k.toNat dB).1 r++bs.drop (k.toNat+1))) (hk0:0≤k) (yQ:k<(bs.length:Int)) (hbl:bs.length≤84)
 (ee:vA th key none (f+1) m fu fr fs gn n deep=if e≠0 then(m',gj,pn,lK,rN,[],e)else gK (o9 lK rN n) (bh th m' gj pn (iW lK n) l es (bs.take k.toNat++kK (bs.getD k.toNat dB).1 r++bs.drop (k.toNat+1)))):
 Safe P 80 X (wN (wP (f+1)) ((th,m,fu,root,fr,fs,gn),n,deep,key,val)) (aof th m' gj root pn lK rN n key l es bs k e r):=by
 refine Ds.eH hz hX abO T Tryd.func80 (aqj f th m' gj root pn lK rN n key l es bs k e r) ⟨fun h=> ?_,fun h=>⟨fun h5=> ?_,fun h5=> ?_⟩⟩
 ·have h:e≠0:=by simpa using h
  rw[if_pos h]at ee
  obtain⟨f1,f2⟩:=ag0 (root:=root) (val:=val) ee
  exact kg ⟨[(0,.ad cB [],Lf.eB)],[0,1],5,[]⟩ rfl (Nat.le_refl _) (ov.same _) f2 f1
 ·have h:¬e≠0:=by simpa using h
  rw[if_neg h]at ee
  have h5:=of_decide_eq_true h5
  have e5:=abM (r:=r) (k:=(bs.getD k.toNat dB).1) (by omega)
  rw[←e5]at hb ee
  exact⟨hk0,yQ,by omega,h5,afj hz hX T hd hf hl he hb hk0 yQ hbl ee⟩
 ·have h:¬e≠0:=by simpa using h
  rw[if_neg h]at ee
  have h5:=of_decide_eq_false h5
  have e5:r=[]:=List.eq_nil_of_length_eq_zero (by omega)
  subst e5
  exact afj hz hX T hd hf hl he hb hk0 yQ hbl ee
theorem amo(hz:dP Bx.cn X)(hX:X.H=lk (qx th m fu root fr fs gn key))(T:(oz f).Ok P Bx.cn)(hd:Ds.bR th m fu)(hf:Bx.okW fr)(h1:1≤deep∧deep≤17)(h2:18≤deep+((f+1:Nat):Int))(hk:1≤key.size∧key.size≤24)
 (h:gU th m n deep=0) (hl:kJ th m n deep=false):
 Safe P 80 X (wN (wP (f+1)) ((th,m,fu,root,fr,fs,gn),n,deep,key,val)) (aoe th m fu root fr fs gn n deep key (kJ th m n deep) (bP th m n deep) (aP th m n deep)):=by
 obtain⟨hm,n1,n2,n3,n4,n5,_⟩:=fl h
 obtain⟨m1,m2,_,_⟩:=dA hm
 obtain⟨s1,s2⟩:=qu hm
 have hkk:∀v:ByteArray,none=some v→v.size≤100:=fun v e=>by cases e
 refine Ds.eH hz hX abO T Tryd.func80 (aqi f th m fu root fr fs gn n deep key (kJ th m n deep) (bP th m n deep) (aP th m n deep)) ⟨fun h3=> ?_,fun h3=> ?_⟩
 ·have h3:aP th m n deep=[]:=List.eq_nil_of_length_eq_zero (by have:((aP th m n deep).length:Int)=0:=by simpa using h3
                                                               omega)
  obtain⟨f1,f2⟩:=ag0 (val:=val) (root:=root) (th:=th) (m:=m) (fu:=fu) (fr:=fr) (fs:=fs) (gn:=gn) (key:=key) (f:=f+1) (n:=n) (deep:=deep) (c:=(m,fu,fr,fs,gn,[],4)) (by rw[fP,if_neg (by rw[h];simp),if_neg (by rw[hl];simp),if_pos h3])
  exact kg ⟨[(0,.ad cB [],Lf.eB)],[0,1],5,[]⟩ rfl (Nat.le_refl _) (ov.same _) f2 f1
 ·have h3:aP th m n deep≠[]:=fun e=>by rw[e]at h3;simp at h3
  obtain⟨p0,p1⟩:=rM (key:=key) s2 h3
  have pg:=vO h (aS (aP th m n deep) key).toNat
  have zN:=qE (th:=th) (key:=key) (op:=none) hk.2 f (m:=m) (fu:=fu) (fr:=fr) (fs:=fs) (gn:=gn) (n:=((aP th m n deep).getD (aS (aP th m n deep) key).toNat dB).2.1) (deep:=deep+1) hd hf
  have hb:=vN (bs:=aP th m n deep) (k:=(aS (aP th m n deep) key).toNat) (abK hm).2 n2 zN.two zN.key (pj (abK hm).2 (aS (aP th m n deep) key).toNat)
  refine⟨by omega,s2,p0,p1,inI (by omega) (by omega),rfl,rfl,hd,hf,pg,⟨by omega,by omega⟩,by omega,hk,(Nat.zero_le 100),amn hz hX T zN.d zN.fr ⟨hl,m2 hl⟩ n3 hb p0 p1 n2 ?_⟩
  rw[fP,if_neg (by rw[h];simp),if_neg (by rw[hl];simp),if_neg h3,hl]
  rfl
theorem aqn(hz:dP Bx.cn X)(hX:X.H=lk (qx th m fu root fr fs gn key))(T:(oz f).Ok P Bx.cn)(hd:Ds.bR th m fu)(hf:Bx.okW fr)(hk:1≤key.size∧key.size≤24)
 (h:gU th m n deep=0) (hl:kJ th m n deep=true):
 Safe P 80 X (wN (wP (f+1)) ((th,m,fu,root,fr,fs,gn),n,deep,key,val)) (asf th m fu root fr fs gn n key (bP th m n deep) (aP th m n deep)):=by
 obtain⟨hm,n1,n2,n3,n4,n5,_⟩:=fl h
 obtain⟨m1,m2,_,_⟩:=dA hm
 obtain⟨s1,s2⟩:=qu hm
 have hkk:∀v:ByteArray,none=some v→v.size≤100:=fun v e=>by cases e
 refine Ds.eH hz hX abO T Tryd.func80 (ash f th m fu root fr fs gn n key (bP th m n deep) (aP th m n deep)) ⟨by omega,s1,fun hb=> ?_,fun hb=> ?_⟩
 ·have hb:fL (bP th m n deep) key=false:=by simpa using hb
  have hc:ou key none (bP th m n deep)=5:=by show(if fL (bP th m n deep) key=true then(0:Int)else 5)=5;rw[if_neg (by rw[hb];simp)]
  obtain⟨f1,f2⟩:=ag0 (val:=val) (root:=root) (th:=th) (m:=m) (fu:=fu) (fr:=fr) (fs:=fs) (gn:=gn) (key:=key) (f:=f+1) (n:=n) (deep:=deep) (c:=(m,fu,fr,fs,gn,[],5)) (by rw[fP,if_neg (by rw[h];simp),if_pos hl,if_pos (by rw[hc];simp),hc])
  exact kg ⟨[(0,.ad cB [],Lf.eB)],[0,1],5,[]⟩ rfl (Nat.le_refl _) (ov.same _) f2 f1
 ·have hb:fL (bP th m n deep) key=true:=by simpa using hb
  have hc:ou key none (bP th m n deep)=0:=by show(if fL (bP th m n deep) key=true then(0:Int)else 5)=0;rw[if_pos hb]
  have ee:doE key none (bP th m n deep)=bS (bP th m n deep) key:=by show(if fL (bP th m n deep) key=true then _ else _)=_;rw[if_pos hb]
  have sm:=nO (key:=key) (op:=none) (es:=bP th m n deep) hk.2 hkk n1 n3
  obtain⟨f1,f2⟩:=ag0 (val:=val) (root:=root) (th:=th) (m:=m) (fu:=fu) (fr:=fr) (fs:=fs) (gn:=gn) (key:=key) (f:=f+1) (n:=n) (deep:=deep) (c:=gK (o9 fs gn n) (bh th m fu fr (iW fs n) true (bS (bP th m n deep) key) (aP th m n deep))) (by rw[fP,if_neg (by rw[h];simp),if_pos hl,if_neg (by rw[hc];simp),ee])
  rw[ee]at sm
  exact⟨rfl,rfl,rfl,rfl,hd,hf,⟨fun _=>m1 hl,fun e=>by cases e⟩,sm,n4,kg ⟨[],[0,1],5,[]⟩ rfl (Nat.le_refl _) (ov.same _) f2 f1⟩
theorem vQ:∀f,ke P Bx.cn 80 (wP f)
 |0=>by
  rintro⟨⟨(th:Th),(m:As),(fu:Int),(root:Int),(fr:Ws),(fs:Ws),(gn:Ws)⟩,(n:Int),(deep:Int),(key:ByteArray),(val:ByteArray)⟩ ⟨_,_,_,(h1:1≤deep∧deep≤17),(h2:18≤deep+((0:Nat):Int)),_⟩
  omega
 |f+1=>by
  have T:=ajM (vQ f)
  refine fy Tryd.func80 (by kernel_rfl) (fun x=>Nat.le_of_ble_eq_true (by kernel_rfl)) ?_
  rintro⟨⟨(th:Th),(m:As),(fu:Int),(root:Int),(fr:Ws),(fs:Ws),(gn:Ws)⟩,(n:Int),(deep:Int),(key:ByteArray),(val:ByteArray)⟩ ⟨(hd:Ds.bR th m fu),(hf:Bx.okW fr),(hn:0≤n∧n≤65536),(h1:1≤deep∧deep≤17),(h2:18≤deep+((f+1:Nat):Int)),(hk:1≤key.size∧key.size≤24),(hv:val.size≤100),_⟩ X hX hz
  refine Ds.eH hz hX abO T Tryd.func80 (auk f th m fu root fr fs gn n deep key) ⟨rfl,rfl,hd,inI (by omega) (by omega),fun h=> ?_,fun h=>⟨fun hl=> ?_,fun hl=> ?_⟩⟩
  ·have h:gU th m n deep≠0:=by simpa using h
   obtain⟨f1,f2⟩:=ag0 (val:=val) (root:=root) (th:=th) (m:=m) (fu:=fu) (fr:=fr) (fs:=fs) (gn:=gn) (key:=key) (f:=f+1) (n:=n) (deep:=deep) (c:=(m,fu,fr,fs,gn,[],gU th m n deep)) (by rw[fP,if_pos h])
   exact kg ⟨[(0,.ad cB [],Lf.eB)],[0,1],5,[]⟩ rfl (Nat.le_refl _) (ov.same _) f2 f1
  ·have h:gU th m n deep=0:=by simpa using h
   have e:=aqn (root:=root) (val:=val) (gn:=gn) (fs:=fs) hz hX T hd hf hk h hl
   rw[hl]
   exact e
  ·have h:gU th m n deep=0:=by simpa using h
   exact amo hz hX T hd hf h1 h2 hk h hl
end
end Ts
namespace Ts
open Go Go.Sx Go.Proofs Lf
def n6(th:Th)(m:As):Nat→Ws→Ws→Int→Int→Ws×Ws×Int×Int
 |0,fs,gn,_,_=>(fs,gn,0,4)
 |f+1,fs,gn,n,deep=>
  if gU th m n deep≠0 then(fs,gn,0,gU th m n deep)
  else if kJ th m n deep=true∨(aP th m n deep).length≠1 then(fs,gn,n,0)
  else n6 th m f (iW fs n) (o9 fs gn n) ((aP th m n deep).getD 0 dB).2.1 (deep+1)
def vR(th:Th)(m:As)(f:Nat)(fs gn:Ws)(n deep:Int):Ws:=(n6 th m f fs gn n deep).1
def vS(th:Th)(m:As)(f:Nat)(fs gn:Ws)(n deep:Int):Ws:=(n6 th m f fs gn n deep).2.1
def wR(th:Th)(m:As)(f:Nat)(fs gn:Ws)(n deep:Int):Int:=(n6 th m f fs gn n deep).2.2.1
def wT(th:Th)(m:As)(f:Nat)(fs gn:Ws)(n deep:Int):Int:=(n6 th m f fs gn n deep).2.2.2
abbrev sLo:Spec (XT×Int):=⟨fun(_,n)=>[.ptr 0 0,bQ n],fun((th,m,fu,root,fr,fs,gn),_)=>hT th m fu root fr fs gn,fun((th,m,fu,_),n)=>[Ds.bR th m fu,0≤n∧n≤65536],
 fun((th,m,fu,root,fr,fs,gn),n)=>hT th m fu root fr (vR th m 17 fs gn n 1) (vS th m 17 fs gn n 1),fun((th,m,_,_,_,fs,gn),n)=>.bm [bQ (wR th m 17 fs gn n 1),bQ (wT th m 17 fs gn n 1)]⟩
def ajN:aH:=[(37,abG),(85,ajA)]
def amp:List (Nat×Norm):=[(3,⟨[],[0,1,6],4,[]⟩)]
noncomputable def cLo(th:Th)(m:As)(fu root:Int)(fr fs gn:Ws)(n deep:Int):bx:=⟨sl 38 [(0,.ptr 0 0),(1,bQ n),(6,bQ deep)],hT th m fu root fr fs gn,hd Tryd.f67 3,{}⟩
theorem aul(th:Th)(m:As)(fu root:Int)(fr fs gn:Ws)(n:Int):run P ajN.sum Tryd.f67 amp (start Tryd.f67 [.ptr 0 0,bQ n] (hT th m fu root fr fs gn))=
 Tree.at (.mk (sl 38 [(0,.ptr 0 0),(1,.s (.int .i64 n)),(6,.s (.int .i64 1))]) [.own [.ptr 1 0,.s (.int .i64 root),.ints .u64 16 fr,.ints .u64 16 fs,.ints .u64 16 gn] 70,.own [.vec 2,.ag 3,.s (.int .i64 fu)] 96,.vec (.ad [.arr .u8 64] th) 138,.map (.arr .u8 64) m] (hd Tryd.f67 3) (.mk none false 0 [] 0)):=by kernel_rfl
theorem aum(th:Th)(m:As)(fu root:Int)(fr fs gn:Ws)(n deep:Int):run P ajN.sum Tryd.f67 amp (cLo th m fu root fr fs gn n deep)=
 Tree.need (bK (some [AV.ptr 0 0,.s (.int .i64 n),.s (.int .i64 deep)]))
 (.need (bK (some [ae.own [.ptr 1 0,.s (.int .i64 root),.ints .u64 16 fr,.ints .u64 16 fs,.ints .u64 16 gn] 70,.own [.vec 2,.ag 3,.s (.int .i64 fu)] 96,.vec (.ad [.arr .u8 64] th) 138,.map (.arr .u8 64) m])) (.need (Ds.bR th m fu) (.need (ax n) (.ite (gU th m n deep !=0) (.ret [.own [.ptr 1 0,.s (.int .i64 root),.ints .u64 16 fr,.ints .u64 16 fs,.ints .u64 16 gn] 70,.own [.vec 2,.ag 3,.s (.int .i64 fu)] 96,.vec (.ad [.arr .u8 64] th) 138,.map (.arr .u8 64) m,.own [.s (.bool (kJ th m n deep)),.s (.ro (.ad [.str,.str] (bP th m n deep))),.s (.ro (.ad [.str,.int .i64] (aP th m n deep)))] 73] (.bm [.s (.bc .i64 0),.s (.int .i64 (gU th m n deep))])) (.ite (kJ th m n deep) (.ret [.own [.ptr 1 0,.s (.int .i64 root),.ints .u64 16 fr,.ints .u64 16 fs,.ints .u64 16 gn] 70,.own [.vec 2,.ag 3,.s (.int .i64 fu)] 96,.vec (.ad [.arr .u8 64] th) 138,.map (.arr .u8 64) m,.own [.s (.bool (kJ th m n deep)),.s (.ro (.ad [.str,.str] (bP th m n deep))),.s (.ro (.ad [.str,.int .i64] (aP th m n deep)))] 73] (.bm [.s (.int .i64 n),.s (.bc .i64 0)])) (.ite ((↑(aP th m n deep).length:Int) !=1) (.ret [.own [.ptr 1 0,.s (.int .i64 root),.ints .u64 16 fr,.ints .u64 16 fs,.ints .u64 16 gn] 70,.own [.vec 2,.ag 3,.s (.int .i64 fu)] 96,.vec (.ad [.arr .u8 64] th) 138,.map (.arr .u8 64) m,.own [.s (.bool (kJ th m n deep)),.s (.ro (.ad [.str,.str] (bP th m n deep))),.s (.ro (.ad [.str,.int .i64] (aP th m n deep)))] 73] (.bm [.s (.int .i64 n),.s (.bc .i64 0)])) (.need (bK (some [AV.ptr 0 0,.s (.int .i64 n)])) (.need (bK (some [ae.own [.ptr 1 0,.s (.int .i64 root),.ints .u64 16 fr,.ints .u64 16 fs,.ints .u64 16 gn] 70,.own [.vec 2,.ag 3,.s (.int .i64 fu)] 96,.vec (.ad [.arr .u8 64] th) 138,.map (.arr .u8 64) m])) (.need ((0:Int)≤0) (.need ((0:Int)<(↑(aP th m n deep).length:Int)) (.need (ax (deep+1)) (.at (.mk (sl 38 [(0,.ptr 0 0),(1,.s (.int .i64 ((aP th m n deep).getD 0 (CL.d [.str,.int .i64])).snd.fst)),(6,.s (.int .i64 (deep+1)))]) [.own [.ptr 1 0,.s (.int .i64 root),.ints .u64 16 fr,.ints .u64 16 (iW fs n),.ints .u64 16 (o9 fs gn n)] 70,.own [.vec 2,.ag 3,.s (.int .i64 fu)] 96,.vec (.ad [.arr .u8 64] th) 138,.map (.arr .u8 64) m] (hd Tryd.f67 3) (.mk none false 0 [] 0)))))))))))))):=by kernel_rfl
theorem abP{Z:a8}:ajN.Ok P Z:=aH.Ok.cons (qs.sum mNo) (aH.Ok.cons (vB.sum mLv) aH.Ok.nil)
theorem ajO{th:Th}{m:As}{fu root:Int}{fr fs gn:Ws}{n:Int}{c:Ws×Ws×Int×Int}(e:c=n6 th m 17 fs gn n 1):
 sLo.fi ((th,m,fu,root,fr,fs,gn),n)=hT th m fu root fr c.1 c.2.1∧sLo.out ((th,m,fu,root,fr,fs,gn),n)=.bm [bQ c.2.2.1,bQ c.2.2.2]:=by
 subst e;exact⟨rfl,rfl⟩
theorem abQ{Z:a8}:ke P Z 67 sLo:=by
 refine aR Tryd.func67 (by kernel_rfl) (fun x=>Nat.le_of_ble_eq_true (by kernel_rfl)) ?_
 rintro⟨⟨(th:Th),(m:As),(fu:Int),(root:Int),(fr:Ws),(db:Ws),(dc:Ws)⟩,(n0:Int)⟩ ⟨(hd:Ds.bR th m fu),(hn0:0≤n0∧n0≤65536),_⟩ X hX hz
 have hm:∀y∈amp,(hT th m fu root fr db dc).length≤y.2.m:=fun y hy=>by
  simp only[amp,List.mem_singleton]at hy;subst hy;exact Nat.le_refl _
 have loop:∀(f:Nat) (fs gn:Ws) (n deep:Int),1≤deep∧deep≤17→18≤deep+(f:Int)→0≤n∧n≤65536→n6 th m f fs gn n deep=n6 th m 17 db dc n0 1→
  Safe P 67 X (iV sLo ((th,m,fu,root,fr,db,dc),n0)) (cLo th m fu root fr fs gn n deep):=by
  intro f
  induction f with
  |zero=>intro fs gn n deep h1 h2;omega
  |succ f ih=>
   intro fs gn n deep h1 h2 hn e
   rw[n6]at e
   refine Ds.eH hz hX hm abP Tryd.func67 (aum th m fu root fr fs gn n deep) ⟨rfl,rfl,hd,inI (by omega) (by omega),fun h=> ?_,fun h=>⟨fun hl=> ?_,fun hl=>⟨fun h3=> ?_,fun h3=> ?_⟩⟩⟩
   ·have h:gU th m n deep≠0:=by simpa using h
    rw[if_pos h]at e
    obtain⟨f1,f2⟩:=ajO (fu:=fu) (root:=root) (fr:=fr) e
    exact ch 4 rfl (Nat.le_refl _) f2 f1
   ·have h:gU th m n deep=0:=by simpa using h
    rw[if_neg (by rw[h];simp),if_pos (.inl hl)]at e
    obtain⟨f1,f2⟩:=ajO (fu:=fu) (root:=root) (fr:=fr) e
    exact ch 4 rfl (Nat.le_refl _) f2 f1
   ·have h:gU th m n deep=0:=by simpa using h
    have h3:¬((aP th m n deep).length:Int)=1:=by simpa using h3
    rw[if_neg (by rw[h];simp),if_pos (.inr (by omega))]at e
    obtain⟨f1,f2⟩:=ajO (fu:=fu) (root:=root) (fr:=fr) e
    exact ch 4 rfl (Nat.le_refl _) f2 f1
   ·have h:gU th m n deep=0:=by simpa using h
    have h3:((aP th m n deep).length:Int)=1:=by simpa using h3
    rw[if_neg (by rw[h];simp),if_neg (by rintro(a|a);rw[hl]at a;cases a;omega)]at e
    have pg:=vO h 0
    obtain⟨_,_,_,_,_,n5,_⟩:=fl h
    exact⟨rfl,rfl,by omega,by omega,inI (by omega) (by omega),ih _ _ _ _ ⟨by omega,by omega⟩ (by omega) pg e⟩
 exact Ds.eH hz hX hm abP Tryd.func67 (aul th m fu root fr db dc n0) (loop 17 db dc n0 1 ⟨by omega,by omega⟩ (by omega) hn0 rfl)
end Ts
namespace Ts
open Go Go.Sx Go.Proofs Lf
def iL(th:Th)(key:ByteArray)(op:Option ByteArray)(m:As)(fu root:Int)(fr fs gn:Ws):Chg:=
 if root≠0 then vA th key op 17 m fu fr fs gn root 1
 else if ou key op []≠0 then(m,fu,fr,fs,gn,[],ou key op [])
 else gK gn (bh th m fu fr fs true (doE key op []) [])
abbrev XK:Type:=XT×ByteArray×ByteArray
def wU(th:Th)(key:ByteArray)(op:Option ByteArray)(m:As)(fu root:Int)(fr fs gn:Ws):As:=(iL th key op m fu root fr fs gn).1
def wV(th:Th)(key:ByteArray)(op:Option ByteArray)(m:As)(fu root:Int)(fr fs gn:Ws):Int:=(iL th key op m fu root fr fs gn).2.1
def wW(th:Th)(key:ByteArray)(op:Option ByteArray)(m:As)(fu root:Int)(fr fs gn:Ws):Ws:=(iL th key op m fu root fr fs gn).2.2.1
def abR(th:Th)(key:ByteArray)(op:Option ByteArray)(m:As)(fu root:Int)(fr fs gn:Ws):Ws:=(iL th key op m fu root fr fs gn).2.2.2.1
def abS(th:Th)(key:ByteArray)(op:Option ByteArray)(m:As)(fu root:Int)(fr fs gn:Ws):Ws:=(iL th key op m fu root fr fs gn).2.2.2.2.1
def vT(th:Th)(key:ByteArray)(op:Option ByteArray)(m:As)(fu root:Int)(fr fs gn:Ws):List Br:=(iL th key op m fu root fr fs gn).2.2.2.2.2.1
def vU(th:Th)(key:ByteArray)(op:Option ByteArray)(m:As)(fu root:Int)(fr fs gn:Ws):Int:=(iL th key op m fu root fr fs gn).2.2.2.2.2.2
def afk(th:Th)(m:As)(fu root:Int)(fr:Ws)(key val:ByteArray):List Prop:=[Ds.bR th m fu,Bx.okW fr,0≤root∧root≤65536,1≤key.size∧key.size≤24,val.size≤100]
abbrev amq:Spec XK:=⟨fun(_,key,_)=>[.ptr 0 0,.s (.str key),.fn fP1 [.ptr 4 0,.ptr 5 0]],fun((th,m,fu,root,fr,fs,gn),key,val)=>qw th m fu root fr fs gn key val,fun((th,m,fu,root,fr,_,_),key,val)=>afk th m fu root fr key val,
 fun((th,m,fu,root,fr,fs,gn),key,val)=>qw th (wU th key (some val) m fu root fr fs gn) (wV th key (some val) m fu root fr fs gn) root (wW th key (some val) m fu root fr fs gn) (abR th key (some val) m fu root fr fs gn) (abS th key (some val) m fu root fr fs gn) key val++[.vec (.ad cB (vT th key (some val) m fu root fr fs gn)) Lf.eB],
 fun((th,m,fu,root,fr,fs,gn),key,val)=>.bm [.vec 6,bQ (vU th key (some val) m fu root fr fs gn)]⟩
abbrev amr:Spec XK:=⟨fun(_,key,_)=>[.ptr 0 0,.s (.str key),.fn fD1 [.ptr 4 0]],fun((th,m,fu,root,fr,fs,gn),key,_)=>qx th m fu root fr fs gn key,fun((th,m,fu,root,fr,_,_),key,val)=>afk th m fu root fr key val,
 fun((th,m,fu,root,fr,fs,gn),key,_)=>qx th (wU th key none m fu root fr fs gn) (wV th key none m fu root fr fs gn) root (wW th key none m fu root fr fs gn) (abR th key none m fu root fr fs gn) (abS th key none m fu root fr fs gn) key++[.vec (.ad cB (vT th key none m fu root fr fs gn)) Lf.eB],
 fun((th,m,fu,root,fr,fs,gn),key,_)=>.bm [.vec 5,bQ (vU th key none m fu root fr fs gn)]⟩
def ams:List AV→RM (XK×List Nat)
 |[t,.s (.str _),.fn _ [.ptr i 0,.ptr j 0]]=>(mT [t]).bind fun(X,σ)=>.look i fun o=>match o with
  |some (.own [.s (.str key)] _)=>.look j fun o=>match o with
   |some (.own [.s (.str val)] _)=>.ret ((X,key,val),σ++[i,j])
   |_=>.fail "no text"
  |_=>.fail "no text"
 |_=>.fail "top: arguments"
def amt:List AV→RM (XK×List Nat)
 |[t,.s (.str _),.fn _ [.ptr i 0]]=>(mT [t]).bind fun(X,σ)=>.look i fun o=>match o with
  |some (.own [.s (.str key)] _)=>.ret ((X,key,ByteArray.empty),σ++[i])
  |_=>.fail "no text"
 |_=>.fail "top: arguments"
def aoh:aH:=[(80,dJ (wO 17) ame),(50,an9),(66,x7)]
def aoi:aH:=[(80,dJ (wP 17) amf),(52,aoa),(66,x7)]
theorem aun(th:Th)(m:As)(fu root:Int)(fr fs gn:Ws)(key val:ByteArray):run P aoh.sum Tryd.f65 [] (start Tryd.f65 [.ptr 0 0,.s (.str key),.fn fP1 [.ptr 4 0,.ptr 5 0]] (qw th m fu root fr fs gn key val)) (inl:=[fP1])=
 Tree.ite (root !=0) (.need (bK (some [AV.ptr 0 0,.s (.int .i64 root),.s (.int .i64 1),.s (.str key),.fn 49 [.ptr 4 0,.ptr 5 0]])) (.need (bK (some [ae.own [.ptr 1 0,.s (.int .i64 root),.ints .u64 16 fr,.ints .u64 16 fs,.ints .u64 16 gn] 70,.own [.vec 2,.ag 3,.s (.int .i64 fu)] 96,.vec (.ad [.arr .u8 64] th) 138,.map (.arr .u8 64) m,.own [.s (.str key)] 9,.own [.s (.str val)] 9])) (.need (Ds.bR th m fu) (.need (Bx.okW fr) (.need ((0:Int)≤root∧root≤65536) (.need ((1:Int)≤1∧(1:Int)≤17) (.need ((18:Int)≤1+(↑(17:Nat):Int)) (.need ((1:Nat)≤key.size∧key.size≤24) (.need (val.size≤100) (.ret [.own [.ptr 1 0,.s (.int .i64 root),.ints .u64 16 (pf th key (some val) 17 m fu fr fs gn root 1),.ints .u64 16 (qy th key (some val) 17 m fu fr fs gn root 1),.ints .u64 16 (rJ th key (some val) 17 m fu fr fs gn root 1)] 70,.own [.vec 2,.ag 3,.s (.int .i64 (pe th key (some val) 17 m fu fr fs gn root 1))] 96,.vec (.ad [.arr .u8 64] th) 138,.map (.arr .u8 64) (pd th key (some val) 17 m fu fr fs gn root 1),.own [.s (.str key)] 9,.own [.s (.str val)] 9,.vec (.ad [.str,.int .i64] (sP th key (some val) 17 m fu fr fs gn root 1)) 79] (.bm [.vec 6,.s (.int .i64 (rK th key (some val) 17 m fu fr fs gn root 1))]))))))))))) (.need ((0:Nat)≤100000) (.need (gW (bu [])) (.need (bK (some [AV.ptr 0 0,.agg [.s (.bool true),.s (.ro (.ad [.str,.str] (bt [] key val))),.s (.ro (.ad [.str,.int .i64] []))]])) (.need (bK (some [ae.own [.ptr 1 0,.s (.int .i64 root),.ints .u64 16 fr,.ints .u64 16 fs,.ints .u64 16 gn] 70,.own [.vec 2,.ag 3,.s (.int .i64 fu)] 96,.vec (.ad [.arr .u8 64] th) 138,.map (.arr .u8 64) m])) (.need (Ds.bR th m fu) (.need (Bx.okW fr) (.need (zK true (bt [] key val) []) (.need (aY (bt [] key val)) (.need (aZ []) (.ret [.own [.ptr 1 0,.s (.int .i64 root),.ints .u64 16 (bh th m fu fr fs true (bt [] key val) []).snd.snd.fst,.ints .u64 16 (bh th m fu fr fs true (bt [] key val) []).snd.snd.snd.fst,.ints .u64 16 gn] 70,.own [.vec 2,.ag 3,.s (.int .i64 (bh th m fu fr fs true (bt [] key val) []).snd.fst)] 96,.vec (.ad [.arr .u8 64] th) 138,.map (.arr .u8 64) (bh th m fu fr fs true (bt [] key val) []).fst,.own [.s (.str key)] 9,.own [.s (.str val)] 9,.dead,.vec (.ad [.str,.int .i64] (bh th m fu fr fs true (bt [] key val) []).snd.snd.snd.snd.fst) 79] (.bm [.vec 7,.s (.int .i64 (bh th m fu fr fs true (bt [] key val) []).snd.snd.snd.snd.snd)]))))))))))):=by kernel_rfl
theorem auo(th:Th)(m:As)(fu root:Int)(fr fs gn:Ws)(key:ByteArray):run P aoi.sum Tryd.f65 [] (start Tryd.f65 [.ptr 0 0,.s (.str key),.fn fD1 [.ptr 4 0]] (qx th m fu root fr fs gn key)) (inl:=[fD1])=
 Tree.ite (root !=0) (.need (bK (some [AV.ptr 0 0,.s (.int .i64 root),.s (.int .i64 1),.s (.str key),.fn 51 [.ptr 4 0]])) (.need (bK (some [ae.own [.ptr 1 0,.s (.int .i64 root),.ints .u64 16 fr,.ints .u64 16 fs,.ints .u64 16 gn] 70,.own [.vec 2,.ag 3,.s (.int .i64 fu)] 96,.vec (.ad [.arr .u8 64] th) 138,.map (.arr .u8 64) m,.own [.s (.str key)] 9])) (.need (Ds.bR th m fu) (.need (Bx.okW fr) (.need ((0:Int)≤root∧root≤65536) (.need ((1:Int)≤1∧(1:Int)≤17) (.need ((18:Int)≤1+(↑(17:Nat):Int)) (.need ((1:Nat)≤key.size∧key.size≤24) (.need (ByteArray.empty.size≤100) (.ret [.own [.ptr 1 0,.s (.int .i64 root),.ints .u64 16 (pf th key none 17 m fu fr fs gn root 1),.ints .u64 16 (qy th key none 17 m fu fr fs gn root 1),.ints .u64 16 (rJ th key none 17 m fu fr fs gn root 1)] 70,.own [.vec 2,.ag 3,.s (.int .i64 (pe th key none 17 m fu fr fs gn root 1))] 96,.vec (.ad [.arr .u8 64] th) 138,.map (.arr .u8 64) (pd th key none 17 m fu fr fs gn root 1),.own [.s (.str key)] 9,.vec (.ad [.str,.int .i64] (sP th key none 17 m fu fr fs gn root 1)) 79] (.bm [.vec 5,.s (.int .i64 (rK th key none 17 m fu fr fs gn root 1))])))))))))))
 (.need ((0:Nat)≤100000) (.need (gW (bu [])) (.ite (!fL [] key) (.ret [.own [.ptr 1 0,.s (.int .i64 root),.ints .u64 16 fr,.ints .u64 16 fs,.ints .u64 16 gn] 70,.own [.vec 2,.ag 3,.s (.int .i64 fu)] 96,.vec (.ad [.arr .u8 64] th) 138,.map (.arr .u8 64) m,.own [.s (.str key)] 9,.vec (.ad [.str,.str] (bS [] key)) 34] (.bm [.emp,.s (.bc .i64 5)])) (.need (bK (some [AV.ptr 0 0,.agg [.s (.bool true),.s (.ro (.ad [.str,.str] (bS [] key))),.s (.ro (.ad [.str,.int .i64] []))]])) (.need (bK (some [ae.own [.ptr 1 0,.s (.int .i64 root),.ints .u64 16 fr,.ints .u64 16 fs,.ints .u64 16 gn] 70,.own [.vec 2,.ag 3,.s (.int .i64 fu)] 96,.vec (.ad [.arr .u8 64] th) 138,.map (.arr .u8 64) m])) (.need (Ds.bR th m fu) (.need (Bx.okW fr) (.need (zK true (bS [] key) []) (.need (aY (bS [] key)) (.need (aZ []) (.ret [.own [.ptr 1 0,.s (.int .i64 root),.ints .u64 16 (bh th m fu fr fs true (bS [] key) []).snd.snd.fst,.ints .u64 16 (bh th m fu fr fs true (bS [] key) []).snd.snd.snd.fst,.ints .u64 16 gn] 70,.own [.vec 2,.ag 3,.s (.int .i64 (bh th m fu fr fs true (bS [] key) []).snd.fst)] 96,.vec (.ad [.arr .u8 64] th) 138,.map (.arr .u8 64) (bh th m fu fr fs true (bS [] key) []).fst,.own [.s (.str key)] 9,.dead,.vec (.ad [.str,.int .i64] (bh th m fu fr fs true (bS [] key) []).snd.snd.snd.snd.fst) 79] (.bm [.vec 6,.s (.int .i64 (bh th m fu fr fs true (bS [] key) []).snd.snd.snd.snd.snd)])))))))))))):=by kernel_rfl
theorem aoj{th:Th}{m:As}{fu root:Int}{fr fs gn:Ws}{key val:ByteArray}{c:Chg}(e:iL th key (some val) m fu root fr fs gn=c):
 amq.fi ((th,m,fu,root,fr,fs,gn),key,val)=qw th c.1 c.2.1 root c.2.2.1 c.2.2.2.1 c.2.2.2.2.1 key val++[.vec (.ad cB c.2.2.2.2.2.1) Lf.eB]∧amq.out ((th,m,fu,root,fr,fs,gn),key,val)=.bm [.vec 6,bQ c.2.2.2.2.2.2]:=by
 subst e;exact⟨rfl,rfl⟩
theorem ajP:aoh.Ok P Bx.cn:=aH.Ok.cons ((vP 17).sum ame) (aH.Ok.cons aje.uF (aH.Ok.cons (ig (fV (jC.sum mTN) 1 _) 1) aH.Ok.nil))
theorem amu:ke P Bx.cn 65 amq:=by
 refine fy Tryd.func65 (by kernel_rfl) (fun x=>Nat.le_of_ble_eq_true (by kernel_rfl)) ?_
 rintro⟨⟨(th:Th),(m:As),(fu:Int),(root:Int),(fr:Ws),(fs:Ws),(gn:Ws)⟩,(key:ByteArray),(val:ByteArray)⟩ ⟨(hd:Ds.bR th m fu),(hf:Bx.okW fr),(hr:0≤root∧root≤65536),(hk:1≤key.size∧key.size≤24),(hv:val.size≤100),_⟩ X hX hz
 have hkk:∀v:ByteArray,(some val)=some v→v.size≤100:=fun v e=>by cases e;exact hv
 have sm:=nO (key:=key) (op:=(some val)) (es:=[]) hk.2 hkk (Nat.zero_le _) ie
 refine Ds.eH hz hX (by intro y hy;cases hy) ajP Tryd.func65 (aun th m fu root fr fs gn key val) ⟨fun h=>⟨rfl,rfl,hd,hf,hr,⟨by omega,by omega⟩,by omega,hk,hv, ?_⟩,fun h=>⟨by omega,by unfold gW;intro i j _ hj;simp at hj,rfl,rfl,hd,hf,⟨fun _=>rfl,fun e=>by cases e⟩,sm,vp, ?_⟩⟩
 ·have h:root≠0:=by simpa using h
  obtain⟨f1,f2⟩:=aoj (val:=val) (show iL th key (some val) m fu root fr fs gn=vA th key (some val) 17 m fu fr fs gn root 1 by unfold iL;rw[if_pos h])
  exact kg ⟨[],[0,1],6,[]⟩ rfl (Nat.le_refl _) (ov.same _) f2 f1
 ·have h:¬root≠0:=by simpa using h
  obtain⟨f1,f2⟩:=aoj (val:=val) (show iL th key (some val) m fu root fr fs gn=gK gn (bh th m fu fr fs true (bt [] key val) [])by unfold iL;rw[if_neg h,if_neg (by show¬(0:Int)≠0;simp)];rfl)
  exact kg ⟨[],[0,1],6,[]⟩ rfl (Nat.le_refl _) (ov.same _) f2 f1
theorem aok{th:Th}{m:As}{fu root:Int}{fr fs gn:Ws}{key val:ByteArray}{c:Chg}(e:iL th key none m fu root fr fs gn=c):
 amr.fi ((th,m,fu,root,fr,fs,gn),key,val)=qx th c.1 c.2.1 root c.2.2.1 c.2.2.2.1 c.2.2.2.2.1 key++[.vec (.ad cB c.2.2.2.2.2.1) Lf.eB]∧amr.out ((th,m,fu,root,fr,fs,gn),key,val)=.bm [.vec 5,bQ c.2.2.2.2.2.2]:=by
 subst e;exact⟨rfl,rfl⟩
theorem ajQ:aoi.Ok P Bx.cn:=aH.Ok.cons ((vQ 17).sum amf) (aH.Ok.cons ai5.sum (aH.Ok.cons (ig (fV (jC.sum mTN) 1 _) 1) aH.Ok.nil))
theorem amv:ke P Bx.cn 65 amr:=by
 refine fy Tryd.func65 (by kernel_rfl) (fun x=>Nat.le_of_ble_eq_true (by kernel_rfl)) ?_
 rintro⟨⟨(th:Th),(m:As),(fu:Int),(root:Int),(fr:Ws),(fs:Ws),(gn:Ws)⟩,(key:ByteArray),(val:ByteArray)⟩ ⟨(hd:Ds.bR th m fu),(hf:Bx.okW fr),(hr:0≤root∧root≤65536),(hk:1≤key.size∧key.size≤24),(hv:val.size≤100),_⟩ X hX hz
 have hkk:∀v:ByteArray,none=some v→v.size≤100:=fun v e=>by cases e
 have sm:=nO (key:=key) (op:=none) (es:=[]) hk.2 hkk (Nat.zero_le _) ie
 refine Ds.eH hz hX (by intro y hy;cases hy) ajQ Tryd.func65 (auo th m fu root fr fs gn key) ⟨fun h=>⟨rfl,rfl,hd,hf,hr,⟨by omega,by omega⟩,by omega,hk,(Nat.zero_le 100), ?_⟩,fun h=>⟨by omega,by unfold gW;intro i j _ hj;simp at hj,fun hb=> ?_,fun hb=> ?_⟩⟩
 ·have h:root≠0:=by simpa using h
  obtain⟨f1,f2⟩:=aok (val:=val) (show iL th key none m fu root fr fs gn=vA th key none 17 m fu fr fs gn root 1 by unfold iL;rw[if_pos h])
  exact kg ⟨[],[0,1],5,[]⟩ rfl (Nat.le_refl _) (ov.same _) f2 f1
 ·have h:¬root≠0:=by simpa using h
  obtain⟨f1,f2⟩:=aok (val:=val) (show iL th key none m fu root fr fs gn=(m,fu,fr,fs,gn,[],5)by unfold iL;rw[if_neg h,if_pos (by show(5:Int)≠0;simp)];rfl)
  exact kg ⟨[(0,.ad cB [],Lf.eB)],[0,1],5,[]⟩ rfl (Nat.le_refl _) (ov.same _) f2 f1
 ·exact absurd hb (by show¬(!fL [] key)=false;simp[fL,bS])
end Ts
namespace Ts
open Go Go.Sx Go.Proofs Lf
def z7(th:Th)(c:Chg):Chg:=if c.2.2.2.2.2.2=0∧1<c.2.2.2.2.2.1.length then gK c.2.2.2.2.1 (bh th c.1 c.2.1 c.2.2.1 c.2.2.2.1 false [] c.2.2.2.2.2.1)else c
abbrev Chs:Type:=As×Int×Int×Ws×Ws×Ws×Int
def nv(th:Th)(aO:Int)(dr db dc:Ws)(m:As)(fu root:Int)(fr fs gn:Ws)(e:Int):Chs:=
 if e≠0 then(m,fu,aO,dr,db,dc,e)else(m,fu,root,Bx.cV .or fr gn,fs,Bx.bg,0)
def jt(th:Th)(aO:Int)(dr db dc:Ws)(c:Chg):Chs:=
 if c.2.2.2.2.2.2=0∧c.2.2.2.2.2.1.length=1 then
  nv th aO dr db dc c.1 c.2.1 (wR th c.1 17 c.2.2.2.1 c.2.2.2.2.1 (c.2.2.2.2.2.1.getD 0 dB).2.1 1) c.2.2.1 (vR th c.1 17 c.2.2.2.1 c.2.2.2.2.1 (c.2.2.2.2.2.1.getD 0 dB).2.1 1) (vS th c.1 17 c.2.2.2.1 c.2.2.2.2.1 (c.2.2.2.2.2.1.getD 0 dB).2.1 1) (wT th c.1 17 c.2.2.2.1 c.2.2.2.2.1 (c.2.2.2.2.2.1.getD 0 dB).2.1 1)
 else nv th aO dr db dc c.1 c.2.1 0 c.2.2.1 c.2.2.2.1 c.2.2.2.2.1 c.2.2.2.2.2.2
def ki(th:Th)(key:ByteArray)(op:Option ByteArray)(m:As)(fu root:Int)(fr fs gn:Ws):Chs:=jt th root fr fs gn (z7 th (iL th key op m fu root fr fs gn))
def amw(th:Th)(key:ByteArray)(op:Option ByteArray)(m:As)(fu root:Int)(fr fs gn:Ws):As:=(ki th key op m fu root fr fs gn).1
def amx(th:Th)(key:ByteArray)(op:Option ByteArray)(m:As)(fu root:Int)(fr fs gn:Ws):Int:=(ki th key op m fu root fr fs gn).2.1
def amy(th:Th)(key:ByteArray)(op:Option ByteArray)(m:As)(fu root:Int)(fr fs gn:Ws):Int:=(ki th key op m fu root fr fs gn).2.2.1
def amz(th:Th)(key:ByteArray)(op:Option ByteArray)(m:As)(fu root:Int)(fr fs gn:Ws):Ws:=(ki th key op m fu root fr fs gn).2.2.2.1
def amA(th:Th)(key:ByteArray)(op:Option ByteArray)(m:As)(fu root:Int)(fr fs gn:Ws):Ws:=(ki th key op m fu root fr fs gn).2.2.2.2.1
def amB(th:Th)(key:ByteArray)(op:Option ByteArray)(m:As)(fu root:Int)(fr fs gn:Ws):Ws:=(ki th key op m fu root fr fs gn).2.2.2.2.2.1
def amC(th:Th)(key:ByteArray)(op:Option ByteArray)(m:As)(fu root:Int)(fr fs gn:Ws):Int:=(ki th key op m fu root fr fs gn).2.2.2.2.2.2
abbrev sOr:=bW [Bx.dM,Bx.dM] [Bx.dM] (fun _=>[]) (fun(a,b,())=>(Bx.cV .or a b,()))
abbrev abT:Spec XK:=⟨fun(_,key,_)=>[.ptr 0 0,.s (.str key),.fn fP1 [.ptr 4 0,.ptr 5 0]],fun((th,m,fu,root,fr,fs,gn),key,val)=>qw th m fu root fr fs gn key val,fun((th,m,fu,root,fr,_,_),key,val)=>afk th m fu root fr key val,
 fun((th,m,fu,root,fr,fs,gn),key,val)=>qw th (amw th key (some val) m fu root fr fs gn) (amx th key (some val) m fu root fr fs gn) (amy th key (some val) m fu root fr fs gn) (amz th key (some val) m fu root fr fs gn) (amA th key (some val) m fu root fr fs gn) (amB th key (some val) m fu root fr fs gn) key val,
 fun((th,m,fu,root,fr,fs,gn),key,val)=>bQ (amC th key (some val) m fu root fr fs gn)⟩
def vV:aH:=[(65,dJ amq ams),(66,x7),(67,dJ sLo mLv),(28,sOr)]
def yc:List (Nat×Norm):=[(3,⟨[],[0,7,8,9],6,[]⟩),(5,⟨[],[0,7,8,9],6,[]⟩),(8,⟨[],[0,7,9],6,[]⟩)]
noncomputable def ajR(th:Th)(aO:Int)(dr db dc:Ws)(m:As)(fu root:Int)(fr fs gn:Ws)(key val:ByteArray)(l:List Br)(e:Int):bx:=⟨sl 78 [(0,.ptr 0 0),(7,.ptr 6 0),(8,.vec 7),(9,bQ e)],qw th m fu root fr fs gn key val++[obT 1 aO dr db dc,.vec (.ad cB l) Lf.eB],hd Tryd.f48 3,{}⟩
noncomputable def aol(th:Th)(aO:Int)(dr db dc:Ws)(m:As)(fu root:Int)(fr fs gn:Ws)(key val:ByteArray)(l:List Br)(e:Int):bx:=⟨sl 78 [(0,.ptr 0 0),(7,.ptr 6 0),(8,.vec 7),(9,bQ e)],qw th m fu root fr fs gn key val++[obT 1 aO dr db dc,.vec (.ad cB l) Lf.eB],hr Tryd.f48 5,{}⟩
noncomputable def aom(th:Th)(aO:Int)(dr db dc:Ws)(m:As)(fu root:Int)(fr fs gn:Ws)(key val:ByteArray)(e:Int):bx:=⟨sl 78 [(0,.ptr 0 0),(7,.ptr 6 0),(9,bQ e)],qw th m fu root fr fs gn key val++[obT 1 aO dr db dc],hr Tryd.f48 8,{}⟩
theorem asl(th:Th)(m:As)(fu root:Int)(fr fs gn:Ws)(key val:ByteArray):run P vV.sum Tryd.f48 yc (start Tryd.f48 [.ptr 0 0,.s (.str key),.fn fP1 [.ptr 4 0,.ptr 5 0]] (qw th m fu root fr fs gn key val))=
 Tree.need (bK (some [AV.ptr 0 0,.s (.str key),.fn 49 [.ptr 4 0,.ptr 5 0]])) (.need (bK (some [ae.own [.ptr 1 0,.s (.int .i64 root),.ints .u64 16 fr,.ints .u64 16 fs,.ints .u64 16 gn] 70,.own [.vec 2,.ag 3,.s (.int .i64 fu)] 96,.vec (.ad [.arr .u8 64] th) 138,.map (.arr .u8 64) m,.own [.s (.str key)] 9,.own [.s (.str val)] 9])) (.need (Ds.bR th m fu) (.need (Bx.okW fr) (.need ((0:Int)≤root∧root≤65536) (.need ((1:Nat)≤key.size∧key.size≤24) (.need (val.size≤100) (.at (.mk (sl 78 [(0,.ptr 0 0),(7,.ptr 6 0),(8,.vec 7),(9,.s (.int .i64 (vU th key (some val) m fu root fr fs gn)))]) [.own [.ptr 1 0,.s (.int .i64 root),.ints .u64 16 (wW th key (some val) m fu root fr fs gn),.ints .u64 16 (abR th key (some val) m fu root fr fs gn),.ints .u64 16 (abS th key (some val) m fu root fr fs gn)] 70,.own [.vec 2,.ag 3,.s (.int .i64 (wV th key (some val) m fu root fr fs gn))] 96,.vec (.ad [.arr .u8 64] th) 138,.map (.arr .u8 64) (wU th key (some val) m fu root fr fs gn),.own [.s (.str key)] 9,.own [.s (.str val)] 9,.own [.ptr 1 0,.s (.int .i64 root),.ints .u64 16 fr,.ints .u64 16 fs,.ints .u64 16 gn] 70,.vec (.ad [.str,.int .i64] (vT th key (some val) m fu root fr fs gn)) 79] (hd Tryd.f48 3) (.mk none false 0 [] 0))))))))):=by kernel_rfl
theorem ajS(th:Th)(aO:Int)(dr db dc:Ws)(m:As)(fu root:Int)(fr fs gn:Ws)(key val:ByteArray)(l:List Br)(e:Int):run P vV.sum Tryd.f48 yc (ajR th aO dr db dc m fu root fr fs gn key val l e)=
 Tree.ite (e==0) (.ite (decide ((↑l.length:Int)>1)) (.need (bK (some [AV.ptr 0 0,.agg [.s (.bool false),.s (.ro (.ad [.str,.str] [])),.s (.ro (.ad [.str,.int .i64] l))]])) (.need (bK (some [ae.own [.ptr 1 0,.s (.int .i64 root),.ints .u64 16 fr,.ints .u64 16 fs,.ints .u64 16 gn] 70,.own [.vec 2,.ag 3,.s (.int .i64 fu)] 96,.vec (.ad [.arr .u8 64] th) 138,.map (.arr .u8 64) m])) (.need (Ds.bR th m fu) (.need (Bx.okW fr) (.need (zK false [] l) (.need (aY []) (.need (aZ l) (.at (.mk (sl 78 [(0,.ptr 0 0),(7,.ptr 6 0),(8,.vec 7),(9,.s (.int .i64 (bh th m fu fr fs false [] l).snd.snd.snd.snd.snd))]) [.own [.ptr 1 0,.s (.int .i64 root),.ints .u64 16 (bh th m fu fr fs false [] l).snd.snd.fst,.ints .u64 16 (bh th m fu fr fs false [] l).snd.snd.snd.fst,.ints .u64 16 gn] 70,.own [.vec 2,.ag 3,.s (.int .i64 (bh th m fu fr fs false [] l).snd.fst)] 96,.vec (.ad [.arr .u8 64] th) 138,.map (.arr .u8 64) (bh th m fu fr fs false [] l).fst,.own [.s (.str key)] 9,.own [.s (.str val)] 9,.own [.ptr 1 0,.s (.int .i64 aO),.ints .u64 16 dr,.ints .u64 16 db,.ints .u64 16 dc] 70,.vec (.ad [.str,.int .i64] (bh th m fu fr fs false [] l).snd.snd.snd.snd.fst) 79] (hd Tryd.f48 3) (.mk none false 0 [] 0)))))))))) (.at (.mk (sl 78 [(0,.ptr 0 0),(7,.ptr 6 0),(8,.vec 7),(9,.s (.int .i64 e))]) [.own [.ptr 1 0,.s (.int .i64 root),.ints .u64 16 fr,.ints .u64 16 fs,.ints .u64 16 gn] 70,.own [.vec 2,.ag 3,.s (.int .i64 fu)] 96,.vec (.ad [.arr .u8 64] th) 138,.map (.arr .u8 64) m,.own [.s (.str key)] 9,.own [.s (.str val)] 9,.own [.ptr 1 0,.s (.int .i64 aO),.ints .u64 16 dr,.ints .u64 16 db,.ints .u64 16 dc] 70,.vec (.ad [.str,.int .i64] l) 79] (hr Tryd.f48 5) (.mk none false 0 [] 0)))) (.at (.mk (sl 78 [(0,.ptr 0 0),(7,.ptr 6 0),(8,.vec 7),(9,.s (.int .i64 e))]) [.own [.ptr 1 0,.s (.int .i64 root),.ints .u64 16 fr,.ints .u64 16 fs,.ints .u64 16 gn] 70,.own [.vec 2,.ag 3,.s (.int .i64 fu)] 96,.vec (.ad [.arr .u8 64] th) 138,.map (.arr .u8 64) m,.own [.s (.str key)] 9,.own [.s (.str val)] 9,.own [.ptr 1 0,.s (.int .i64 aO),.ints .u64 16 dr,.ints .u64 16 db,.ints .u64 16 dc] 70,.vec (.ad [.str,.int .i64] l) 79] (hr Tryd.f48 5) (.mk none false 0 [] 0))):=by kernel_rfl
theorem aqo(th:Th)(aO:Int)(dr db dc:Ws)(m:As)(fu root:Int)(fr fs gn:Ws)(key val:ByteArray)(l:List Br)(e:Int):run P vV.sum Tryd.f48 yc (aol th aO dr db dc m fu root fr fs gn key val l e)=
 Tree.ite (e==0) (.ite ((↑l.length:Int)==1) (.need ((0:Int)≤0) (.need ((0:Int)<(↑l.length:Int)) (.need (bK (some [AV.ptr 0 0,.s (.int .i64 (l.getD 0 (CL.d [.str,.int .i64])).snd.fst)])) (.need (bK (some [ae.own [.ptr 1 0,.s (.int .i64 0),.ints .u64 16 fr,.ints .u64 16 fs,.ints .u64 16 gn] 70,.own [.vec 2,.ag 3,.s (.int .i64 fu)] 96,.vec (.ad [.arr .u8 64] th) 138,.map (.arr .u8 64) m])) (.need (Ds.bR th m fu) (.need ((0:Int)≤(l.getD 0 (CL.d [.str,.int .i64])).snd.fst∧(l.getD 0 (CL.d [.str,.int .i64])).snd.fst≤65536) (.at (.mk (sl 78 [(0,.ptr 0 0),(7,.ptr 6 0),(9,.s (.int .i64 (wT th m 17 fs gn (l.getD 0 (CL.d [.str,.int .i64])).snd.fst 1)))]) [.own [.ptr 1 0,.s (.int .i64 (wR th m 17 fs gn (l.getD 0 (CL.d [.str,.int .i64])).snd.fst 1)),.ints .u64 16 fr,.ints .u64 16 (vR th m 17 fs gn (l.getD 0 (CL.d [.str,.int .i64])).snd.fst 1),.ints .u64 16 (vS th m 17 fs gn (l.getD 0 (CL.d [.str,.int .i64])).snd.fst 1)] 70,.own [.vec 2,.ag 3,.s (.int .i64 fu)] 96,.vec (.ad [.arr .u8 64] th) 138,.map (.arr .u8 64) m,.own [.s (.str key)] 9,.own [.s (.str val)] 9,.own [.ptr 1 0,.s (.int .i64 aO),.ints .u64 16 dr,.ints .u64 16 db,.ints .u64 16 dc] 70] (hr Tryd.f48 8) (.mk none false 0 [] 0))))))))) (.at (.mk (sl 78 [(0,.ptr 0 0),(7,.ptr 6 0),(9,.s (.int .i64 e))]) [.own [.ptr 1 0,.s (.int .i64 0),.ints .u64 16 fr,.ints .u64 16 fs,.ints .u64 16 gn] 70,.own [.vec 2,.ag 3,.s (.int .i64 fu)] 96,.vec (.ad [.arr .u8 64] th) 138,.map (.arr .u8 64) m,.own [.s (.str key)] 9,.own [.s (.str val)] 9,.own [.ptr 1 0,.s (.int .i64 aO),.ints .u64 16 dr,.ints .u64 16 db,.ints .u64 16 dc] 70] (hr Tryd.f48 8) (.mk none false 0 [] 0)))) (.at (.mk (sl 78 [(0,.ptr 0 0),(7,.ptr 6 0),(9,.s (.int .i64 e))]) [.own [.ptr 1 0,.s (.int .i64 0),.ints .u64 16 fr,.ints .u64 16 fs,.ints .u64 16 gn] 70,.own [.vec 2,.ag 3,.s (.int .i64 fu)] 96,.vec (.ad [.arr .u8 64] th) 138,.map (.arr .u8 64) m,.own [.s (.str key)] 9,.own [.s (.str val)] 9,.own [.ptr 1 0,.s (.int .i64 aO),.ints .u64 16 dr,.ints .u64 16 db,.ints .u64 16 dc] 70] (hr Tryd.f48 8) (.mk none false 0 [] 0))):=by kernel_rfl
theorem aqp(th:Th)(aO:Int)(dr db dc:Ws)(m:As)(fu root:Int)(fr fs gn:Ws)(key val:ByteArray)(e:Int):run P vV.sum Tryd.f48 yc (aom th aO dr db dc m fu root fr fs gn key val e)=
 Tree.ite (e !=0) (.ret [.own [.ptr 1 0,.s (.int .i64 aO),.ints .u64 16 dr,.ints .u64 16 db,.ints .u64 16 dc] 70,.own [.vec 2,.ag 3,.s (.int .i64 fu)] 96,.vec (.ad [.arr .u8 64] th) 138,.map (.arr .u8 64) m,.own [.s (.str key)] 9,.own [.s (.str val)] 9,.own [.ptr 1 0,.s (.int .i64 aO),.ints .u64 16 dr,.ints .u64 16 db,.ints .u64 16 dc] 70] (.s (.int .i64 e))) (.ret [.own [.ptr 1 0,.s (.int .i64 root),.ints .u64 16 (Bx.cV BinOp.or fr gn),.ints .u64 16 fs,.ints .u64 16 (List.replicate 16 0)] 70,.own [.vec 2,.ag 3,.s (.int .i64 fu)] 96,.vec (.ad [.arr .u8 64] th) 138,.map (.arr .u8 64) m,.own [.s (.str key)] 9,.own [.s (.str val)] 9,.own [.ptr 1 0,.s (.int .i64 aO),.ints .u64 16 dr,.ints .u64 16 db,.ints .u64 16 dc] 70] (.s (.bc .i64 0))):=by kernel_rfl
abbrev abU:Spec XK:=⟨fun(_,key,_)=>[.ptr 0 0,.s (.str key),.fn fD1 [.ptr 4 0]],fun((th,m,fu,root,fr,fs,gn),key,_)=>qx th m fu root fr fs gn key,fun((th,m,fu,root,fr,_,_),key,val)=>afk th m fu root fr key val,
 fun((th,m,fu,root,fr,fs,gn),key,_)=>qx th (amw th key none m fu root fr fs gn) (amx th key none m fu root fr fs gn) (amy th key none m fu root fr fs gn) (amz th key none m fu root fr fs gn) (amA th key none m fu root fr fs gn) (amB th key none m fu root fr fs gn) key,
 fun((th,m,fu,root,fr,fs,gn),key,_)=>bQ (amC th key none m fu root fr fs gn)⟩
def vW:aH:=[(65,dJ amr amt),(66,x7),(67,dJ sLo mLv),(28,sOr)]
def yd:List (Nat×Norm):=[(3,⟨[],[0,7,8,9],5,[]⟩),(5,⟨[],[0,7,8,9],5,[]⟩),(8,⟨[],[0,7,9],5,[]⟩)]
noncomputable def ajT(th:Th)(aO:Int)(dr db dc:Ws)(m:As)(fu root:Int)(fr fs gn:Ws)(key:ByteArray)(l:List Br)(e:Int):bx:=⟨sl 78 [(0,.ptr 0 0),(7,.ptr 5 0),(8,.vec 6),(9,bQ e)],qx th m fu root fr fs gn key++[obT 1 aO dr db dc,.vec (.ad cB l) Lf.eB],hd Tryd.f48 3,{}⟩
noncomputable def aon(th:Th)(aO:Int)(dr db dc:Ws)(m:As)(fu root:Int)(fr fs gn:Ws)(key:ByteArray)(l:List Br)(e:Int):bx:=⟨sl 78 [(0,.ptr 0 0),(7,.ptr 5 0),(8,.vec 6),(9,bQ e)],qx th m fu root fr fs gn key++[obT 1 aO dr db dc,.vec (.ad cB l) Lf.eB],hr Tryd.f48 5,{}⟩
noncomputable def aoo(th:Th)(aO:Int)(dr db dc:Ws)(m:As)(fu root:Int)(fr fs gn:Ws)(key:ByteArray)(e:Int):bx:=⟨sl 78 [(0,.ptr 0 0),(7,.ptr 5 0),(9,bQ e)],qx th m fu root fr fs gn key++[obT 1 aO dr db dc],hr Tryd.f48 8,{}⟩
theorem asm(th:Th)(m:As)(fu root:Int)(fr fs gn:Ws)(key:ByteArray):run P vW.sum Tryd.f48 yd (start Tryd.f48 [.ptr 0 0,.s (.str key),.fn fD1 [.ptr 4 0]] (qx th m fu root fr fs gn key))=
 Tree.need (bK (some [AV.ptr 0 0,.s (.str key),.fn 51 [.ptr 4 0]])) (.need (bK (some [ae.own [.ptr 1 0,.s (.int .i64 root),.ints .u64 16 fr,.ints .u64 16 fs,.ints .u64 16 gn] 70,.own [.vec 2,.ag 3,.s (.int .i64 fu)] 96,.vec (.ad [.arr .u8 64] th) 138,.map (.arr .u8 64) m,.own [.s (.str key)] 9])) (.need (Ds.bR th m fu) (.need (Bx.okW fr) (.need ((0:Int)≤root∧root≤65536) (.need ((1:Nat)≤key.size∧key.size≤24) (.need (ByteArray.empty.size≤100) (.at (.mk (sl 78 [(0,.ptr 0 0),(7,.ptr 5 0),(8,.vec 6),(9,.s (.int .i64 (vU th key none m fu root fr fs gn)))]) [.own [.ptr 1 0,.s (.int .i64 root),.ints .u64 16 (wW th key none m fu root fr fs gn),.ints .u64 16 (abR th key none m fu root fr fs gn),.ints .u64 16 (abS th key none m fu root fr fs gn)] 70,.own [.vec 2,.ag 3,.s (.int .i64 (wV th key none m fu root fr fs gn))] 96,.vec (.ad [.arr .u8 64] th) 138,.map (.arr .u8 64) (wU th key none m fu root fr fs gn),.own [.s (.str key)] 9,.own [.ptr 1 0,.s (.int .i64 root),.ints .u64 16 fr,.ints .u64 16 fs,.ints .u64 16 gn] 70,.vec (.ad [.str,.int .i64] (vT th key none m fu root fr fs gn)) 79] (hd Tryd.f48 3) (.mk none false 0 [] 0))))))))):=by kernel_rfl
theorem ajU(th:Th)(aO:Int)(dr db dc:Ws)(m:As)(fu root:Int)(fr fs gn:Ws)(key:ByteArray)(l:List Br)(e:Int):run P vW.sum Tryd.f48 yd (ajT th aO dr db dc m fu root fr fs gn key l e)=
 Tree.ite (e==0) (.ite (decide ((↑l.length:Int)>1)) (.need (bK (some [AV.ptr 0 0,.agg [.s (.bool false),.s (.ro (.ad [.str,.str] [])),.s (.ro (.ad [.str,.int .i64] l))]])) (.need (bK (some [ae.own [.ptr 1 0,.s (.int .i64 root),.ints .u64 16 fr,.ints .u64 16 fs,.ints .u64 16 gn] 70,.own [.vec 2,.ag 3,.s (.int .i64 fu)] 96,.vec (.ad [.arr .u8 64] th) 138,.map (.arr .u8 64) m])) (.need (Ds.bR th m fu) (.need (Bx.okW fr) (.need (zK false [] l) (.need (aY []) (.need (aZ l) (.at (.mk (sl 78 [(0,.ptr 0 0),(7,.ptr 5 0),(8,.vec 6),(9,.s (.int .i64 (bh th m fu fr fs false [] l).snd.snd.snd.snd.snd))]) [.own [.ptr 1 0,.s (.int .i64 root),.ints .u64 16 (bh th m fu fr fs false [] l).snd.snd.fst,.ints .u64 16 (bh th m fu fr fs false [] l).snd.snd.snd.fst,.ints .u64 16 gn] 70,.own [.vec 2,.ag 3,.s (.int .i64 (bh th m fu fr fs false [] l).snd.fst)] 96,.vec (.ad [.arr .u8 64] th) 138,.map (.arr .u8 64) (bh th m fu fr fs false [] l).fst,.own [.s (.str key)] 9,.own [.ptr 1 0,.s (.int .i64 aO),.ints .u64 16 dr,.ints .u64 16 db,.ints .u64 16 dc] 70,.vec (.ad [.str,.int .i64] (bh th m fu fr fs false [] l).snd.snd.snd.snd.fst) 79] (hd Tryd.f48 3) (.mk none false 0 [] 0)))))))))) (.at (.mk (sl 78 [(0,.ptr 0 0),(7,.ptr 5 0),(8,.vec 6),(9,.s (.int .i64 e))]) [.own [.ptr 1 0,.s (.int .i64 root),.ints .u64 16 fr,.ints .u64 16 fs,.ints .u64 16 gn] 70,.own [.vec 2,.ag 3,.s (.int .i64 fu)] 96,.vec (.ad [.arr .u8 64] th) 138,.map (.arr .u8 64) m,.own [.s (.str key)] 9,.own [.ptr 1 0,.s (.int .i64 aO),.ints .u64 16 dr,.ints .u64 16 db,.ints .u64 16 dc] 70,.vec (.ad [.str,.int .i64] l) 79] (hr Tryd.f48 5) (.mk none false 0 [] 0)))) (.at (.mk (sl 78 [(0,.ptr 0 0),(7,.ptr 5 0),(8,.vec 6),(9,.s (.int .i64 e))]) [.own [.ptr 1 0,.s (.int .i64 root),.ints .u64 16 fr,.ints .u64 16 fs,.ints .u64 16 gn] 70,.own [.vec 2,.ag 3,.s (.int .i64 fu)] 96,.vec (.ad [.arr .u8 64] th) 138,.map (.arr .u8 64) m,.own [.s (.str key)] 9,.own [.ptr 1 0,.s (.int .i64 aO),.ints .u64 16 dr,.ints .u64 16 db,.ints .u64 16 dc] 70,.vec (.ad [.str,.int .i64] l) 79] (hr Tryd.f48 5) (.mk none false 0 [] 0))):=by kernel_rfl
theorem aqq(th:Th)(aO:Int)(dr db dc:Ws)(m:As)(fu root:Int)(fr fs gn:Ws)(key:ByteArray)(l:List Br)(e:Int):run P vW.sum Tryd.f48 yd (aon th aO dr db dc m fu root fr fs gn key l e)=
 Tree.ite (e==0) (.ite ((↑l.length:Int)==1) (.need ((0:Int)≤0) (.need ((0:Int)<(↑l.length:Int)) (.need (bK (some [AV.ptr 0 0,.s (.int .i64 (l.getD 0 (CL.d [.str,.int .i64])).snd.fst)])) (.need (bK (some [ae.own [.ptr 1 0,.s (.int .i64 0),.ints .u64 16 fr,.ints .u64 16 fs,.ints .u64 16 gn] 70,.own [.vec 2,.ag 3,.s (.int .i64 fu)] 96,.vec (.ad [.arr .u8 64] th) 138,.map (.arr .u8 64) m])) (.need (Ds.bR th m fu) (.need ((0:Int)≤(l.getD 0 (CL.d [.str,.int .i64])).snd.fst∧(l.getD 0 (CL.d [.str,.int .i64])).snd.fst≤65536) (.at (.mk (sl 78 [(0,.ptr 0 0),(7,.ptr 5 0),(9,.s (.int .i64 (wT th m 17 fs gn (l.getD 0 (CL.d [.str,.int .i64])).snd.fst 1)))]) [.own [.ptr 1 0,.s (.int .i64 (wR th m 17 fs gn (l.getD 0 (CL.d [.str,.int .i64])).snd.fst 1)),.ints .u64 16 fr,.ints .u64 16 (vR th m 17 fs gn (l.getD 0 (CL.d [.str,.int .i64])).snd.fst 1),.ints .u64 16 (vS th m 17 fs gn (l.getD 0 (CL.d [.str,.int .i64])).snd.fst 1)] 70,.own [.vec 2,.ag 3,.s (.int .i64 fu)] 96,.vec (.ad [.arr .u8 64] th) 138,.map (.arr .u8 64) m,.own [.s (.str key)] 9,.own [.ptr 1 0,.s (.int .i64 aO),.ints .u64 16 dr,.ints .u64 16 db,.ints .u64 16 dc] 70] (hr Tryd.f48 8) (.mk none false 0 [] 0))))))))) (.at (.mk (sl 78 [(0,.ptr 0 0),(7,.ptr 5 0),(9,.s (.int .i64 e))]) [.own [.ptr 1 0,.s (.int .i64 0),.ints .u64 16 fr,.ints .u64 16 fs,.ints .u64 16 gn] 70,.own [.vec 2,.ag 3,.s (.int .i64 fu)] 96,.vec (.ad [.arr .u8 64] th) 138,.map (.arr .u8 64) m,.own [.s (.str key)] 9,.own [.ptr 1 0,.s (.int .i64 aO),.ints .u64 16 dr,.ints .u64 16 db,.ints .u64 16 dc] 70] (hr Tryd.f48 8) (.mk none false 0 [] 0)))) (.at (.mk (sl 78 [(0,.ptr 0 0),(7,.ptr 5 0),(9,.s (.int .i64 e))]) [.own [.ptr 1 0,.s (.int .i64 0),.ints .u64 16 fr,.ints .u64 16 fs,.ints .u64 16 gn] 70,.own [.vec 2,.ag 3,.s (.int .i64 fu)] 96,.vec (.ad [.arr .u8 64] th) 138,.map (.arr .u8 64) m,.own [.s (.str key)] 9,.own [.ptr 1 0,.s (.int .i64 aO),.ints .u64 16 dr,.ints .u64 16 db,.ints .u64 16 dc] 70] (hr Tryd.f48 8) (.mk none false 0 [] 0))):=by kernel_rfl
theorem aqr(th:Th)(aO:Int)(dr db dc:Ws)(m:As)(fu root:Int)(fr fs gn:Ws)(key:ByteArray)(e:Int):run P vW.sum Tryd.f48 yd (aoo th aO dr db dc m fu root fr fs gn key e)=
 Tree.ite (e !=0) (.ret [.own [.ptr 1 0,.s (.int .i64 aO),.ints .u64 16 dr,.ints .u64 16 db,.ints .u64 16 dc] 70,.own [.vec 2,.ag 3,.s (.int .i64 fu)] 96,.vec (.ad [.arr .u8 64] th) 138,.map (.arr .u8 64) m,.own [.s (.str key)] 9,.own [.ptr 1 0,.s (.int .i64 aO),.ints .u64 16 dr,.ints .u64 16 db,.ints .u64 16 dc] 70] (.s (.int .i64 e))) (.ret [.own [.ptr 1 0,.s (.int .i64 root),.ints .u64 16 (Bx.cV BinOp.or fr gn),.ints .u64 16 fs,.ints .u64 16 (List.replicate 16 0)] 70,.own [.vec 2,.ag 3,.s (.int .i64 fu)] 96,.vec (.ad [.arr .u8 64] th) 138,.map (.arr .u8 64) m,.own [.s (.str key)] 9,.own [.ptr 1 0,.s (.int .i64 aO),.ints .u64 16 dr,.ints .u64 16 db,.ints .u64 16 dc] 70] (.s (.bc .i64 0))):=by kernel_rfl
theorem abV{th:Th}{key:ByteArray}{op:Option ByteArray}(hk:key.size≤24){m:As}{fu root:Int}{fr fs gn:Ws}(hd:Ds.bR th m fu)(hf:Bx.okW fr):
 ajI th (wU th key op m fu root fr fs gn) (wV th key op m fu root fr fs gn) (wW th key op m fu root fr fs gn) (vT th key op m fu root fr fs gn):=by
 unfold wU wV wW vT iL
 split
 ·exact qE hk 17 hd hf
 ·split
  ·exact⟨hd,hf,Nat.zero_le _,noB,noB⟩
  ·exact nu hd hf (ajJ hk noE) noB
theorem aup{l:List Br}(h2:l.length≤2)(h:jX l):ba [] (aa l)≤254:=by
 have e:=qD (aa l)
 have e2:=rL l
 have e3:gX l≤54:=by
  cases l with
  |nil=>simp[nr]
  |cons a r=>
   have ha:=h a List.mem_cons_self
   cases r with
   |nil=>rw[c7,nr];unfold oZ;omega
   |cons b r=>
    have hb:=h b (List.mem_cons_of_mem _ List.mem_cons_self)
    cases r with
    |nil=>rw[c7,c7,nr];unfold oZ;omega
    |cons c r=>simp only[List.length_cons]at h2;omega
 omega
theorem ajV{th:Th}{m:As}{fu:Int}{fr fs:Ws}{l:List Br}(h0:1<l.length)(h2:l.length≤2)(h:jX l):(bh th m fu fr fs false [] l).2.2.2.2.1.length=1:=by
 unfold bh
 rw[if_neg (by simp only[List.length_nil];omega),if_pos (aup h2 h)]
 rfl
theorem afl{l:List Br}(h:∀b∈l,0≤b.2.1∧b.2.1≤65536)(k:Nat):0≤(l.getD k dB).2.1∧(l.getD k dB).2.1≤65536:=by
 rcases Nat.lt_or_ge k l.length with hk|hk
 ·rw[bd hk];exact h _ (List.getElem_mem hk)
 ·rw[List.getD,List.getElem?_eq_none hk];exact⟨Int.le_refl 0,by show(0:Int)≤65536;omega⟩
theorem ye{l:List Br}(h2:l.length≤2)(h:jX l):aZ l:=⟨by omega,fun x hx=>Nat.le_trans (h x hx) (by omega)⟩
theorem rO{th:Th}{c:Chg}(h:¬(c.2.2.2.2.2.2=0∧1<c.2.2.2.2.2.1.length)):z7 th c=c:=if_neg h
theorem aop{th:Th}{m:As}{fu root:Int}{fr fs gn:Ws}{key val:ByteArray}{c:Chs}(e:ki th key (some val) m fu root fr fs gn=c):
 abT.fi ((th,m,fu,root,fr,fs,gn),key,val)=qw th c.1 c.2.1 c.2.2.1 c.2.2.2.1 c.2.2.2.2.1 c.2.2.2.2.2.1 key val∧abT.out ((th,m,fu,root,fr,fs,gn),key,val)=bQ c.2.2.2.2.2.2:=by
 subst e;exact⟨rfl,rfl⟩
theorem lG:vV.Ok P Bx.cn:=aH.Ok.cons (amu.sum ams) (aH.Ok.cons (ig (fV (jC.sum mTN) 1 _) 1) (aH.Ok.cons (abQ.sum mLv) (aH.Ok.cons Bx.ajg.sum aH.Ok.nil)))
section
variable{th:Th}{m0:As}{sR aO:Int}{dr db dc:Ws}{key val:ByteArray}{X:Ctx}
theorem qF{th:Th}{m:As}{fu root:Int}{fr fs gn:Ws}{key val:ByteArray}:∀y∈yc,(qw th m fu root fr fs gn key val).length≤y.2.m:=fun y hy=>by
 simp only[yc,List.mem_cons,List.not_mem_nil,or_false]at hy
 rcases hy with rfl|rfl|rfl<;>exact Nat.le_refl _
theorem zO(hz:dP Bx.cn X)(hX:X.H=lk (qw th m0 sR aO dr db dc key val)){m:As}{fu root:Int}{fr fs gn:Ws}{e:Int}(ee:ki th key (some val) m0 sR aO dr db dc=nv th aO dr db dc m fu root fr fs gn e):
 Safe P 48 X (iV abT ((th,m0,sR,aO,dr,db,dc),key,val)) (aom th aO dr db dc m fu root fr fs gn key val e):=by
 refine Ds.eH hz hX qF lG Tryd.func48 (aqp th aO dr db dc m fu root fr fs gn key val e) ⟨fun h=> ?_,fun h=> ?_⟩
 ·have h:e≠0:=by simpa using h
  unfold nv at ee
  rw[if_pos h]at ee
  obtain⟨f1,f2⟩:=aop (val:=val) ee
  exact ch 6 rfl (Nat.le_refl _) f2 f1
 ·have h:¬e≠0:=by simpa using h
  unfold nv at ee
  rw[if_neg h]at ee
  obtain⟨f1,f2⟩:=aop (val:=val) ee
  exact ch 6 rfl (Nat.le_refl _) f2 f1
theorem tn(hz:dP Bx.cn X)(hX:X.H=lk (qw th m0 sR aO dr db dc key val)){m:As}{fu root:Int}{fr fs gn:Ws}{l:List Br}{e:Int}(hd:Ds.bR th m fu)(hp:∀b∈l,0≤b.2.1∧b.2.1≤65536)
 (ee:ki th key (some val) m0 sR aO dr db dc=jt th aO dr db dc (m,fu,fr,fs,gn,l,e)):
 Safe P 48 X (iV abT ((th,m0,sR,aO,dr,db,dc),key,val)) (aol th aO dr db dc m fu root fr fs gn key val l e):=by
 refine Ds.eH hz hX qF lG Tryd.func48 (aqo th aO dr db dc m fu root fr fs gn key val l e) ⟨fun h=>⟨fun h2=> ?_,fun h2=> ?_⟩,fun h=> ?_⟩
 ·have h:e=0:=by simpa using h
  have h2:(l.length:Int)=1:=by simpa using h2
  unfold jt at ee
  rw[if_pos ⟨h,by simp only[];omega⟩]at ee
  exact⟨by omega,by omega,rfl,rfl,hd,afl hp 0,zO hz hX ee⟩
 ·have h2:¬(l.length:Int)=1:=by simpa using h2
  unfold jt at ee
  rw[if_neg (fun a=>h2 (by have:=a.2;simp only[]at this;omega))]at ee
  exact zO hz hX ee
 ·have h:¬e=0:=by simpa using h
  unfold jt at ee
  rw[if_neg (fun a=>h a.1)]at ee
  exact zO hz hX ee
theorem amD(hz:dP Bx.cn X)(hX:X.H=lk (qw th m0 sR aO dr db dc key val)){m:As}{fu root:Int}{fr fs gn:Ws}{l:List Br}{e:Int}(hd:Ds.bR th m fu)(hp:∀b∈l,0≤b.2.1∧b.2.1≤65536)(tW:¬(e=0∧1<l.length))
 (ee:ki th key (some val) m0 sR aO dr db dc=jt th aO dr db dc (m,fu,fr,fs,gn,l,e)):
 Safe P 48 X (iV abT ((th,m0,sR,aO,dr,db,dc),key,val)) (ajR th aO dr db dc m fu root fr fs gn key val l e):=by
 refine Ds.eH hz hX qF lG Tryd.func48 (ajS th aO dr db dc m fu root fr fs gn key val l e) ⟨fun h=>⟨fun h2=> ?_,fun h2=> ?_⟩,fun h=> ?_⟩
 ·have h:e=0:=by simpa using h
  have h2:=of_decide_eq_true h2
  exact absurd ⟨h,by omega⟩ tW
 ·exact tn hz hX hd hp ee
 ·exact tn hz hX hd hp ee
theorem amE(hz:dP Bx.cn X)(hX:X.H=lk (qw th m0 sR aO dr db dc key val)){m:As}{fu root:Int}{fr fs gn:Ws}{l:List Br}{e:Int}(F:ajI th m fu fr l)
 (ee:ki th key (some val) m0 sR aO dr db dc=jt th aO dr db dc (z7 th (m,fu,fr,fs,gn,l,e))):
 Safe P 48 X (iV abT ((th,m0,sR,aO,dr,db,dc),key,val)) (ajR th aO dr db dc m fu root fr fs gn key val l e):=by
 refine Ds.eH hz hX qF lG Tryd.func48 (ajS th aO dr db dc m fu root fr fs gn key val l e) ⟨fun h=>⟨fun h2=> ?_,fun h2=> ?_⟩,fun h=> ?_⟩
 ·have h:e=0:=by simpa using h
  have h2:=of_decide_eq_true h2
  have hu:z7 th (m,fu,fr,fs,gn,l,e)=gK gn (bh th m fu fr fs false [] l):=if_pos ⟨h,by show 1<l.length;omega⟩
  rw[hu]at ee
  have F2:=nu (fs:=fs) (l:=false) (es:=[]) F.d F.fr noE F.key
  have hl:=ajV (th:=th) (m:=m) (fu:=fu) (fr:=fr) (fs:=fs) (l:=l) (by omega) F.two F.key
  exact⟨rfl,rfl,F.d,F.fr,⟨fun a=>(by cases a),fun _=>rfl⟩,ie,ye F.two F.key,amD hz hX F2.d F2.pg (fun a=>by rw[hl]at a;omega) ee⟩
 ·have h2:=of_decide_eq_false h2
  rw[rO (fun a=>h2 (by have:=a.2;simp only[]at this;omega))]at ee
  exact tn hz hX F.d F.pg ee
 ·have h:¬e=0:=by simpa using h
  rw[rO (fun a=>h a.1)]at ee
  exact tn hz hX F.d F.pg ee
end
theorem abW:ke P Bx.cn 48 abT:=by
 refine aR Tryd.func48 (by kernel_rfl) (fun x=>Nat.le_of_ble_eq_true (by kernel_rfl)) ?_
 rintro⟨⟨(th:Th),(m:As),(fu:Int),(root:Int),(fr:Ws),(fs:Ws),(gn:Ws)⟩,(key:ByteArray),(val:ByteArray)⟩ ⟨(hd:Ds.bR th m fu),(hf:Bx.okW fr),(hr:0≤root∧root≤65536),(hk:1≤key.size∧key.size≤24),(hv:val.size≤100),_⟩ X hX hz
 exact Ds.eH hz hX qF lG Tryd.func48 (asl th m fu root fr fs gn key val) ⟨rfl,rfl,hd,hf,hr,hk,hv,amE hz hX (abV (op:=(some val)) hk.2 hd hf) rfl⟩
theorem aoq{th:Th}{m:As}{fu root:Int}{fr fs gn:Ws}{key val:ByteArray}{c:Chs}(e:ki th key none m fu root fr fs gn=c):
 abU.fi ((th,m,fu,root,fr,fs,gn),key,val)=qx th c.1 c.2.1 c.2.2.1 c.2.2.2.1 c.2.2.2.2.1 c.2.2.2.2.2.1 key∧abU.out ((th,m,fu,root,fr,fs,gn),key,val)=bQ c.2.2.2.2.2.2:=by
 subst e;exact⟨rfl,rfl⟩
theorem lH:vW.Ok P Bx.cn:=aH.Ok.cons (amv.sum amt) (aH.Ok.cons (ig (fV (jC.sum mTN) 1 _) 1) (aH.Ok.cons (abQ.sum mLv) (aH.Ok.cons Bx.ajg.sum aH.Ok.nil)))
section
variable{th:Th}{m0:As}{sR aO:Int}{dr db dc:Ws}{key val:ByteArray}{X:Ctx}
theorem qG{th:Th}{m:As}{fu root:Int}{fr fs gn:Ws}{key:ByteArray}:∀y∈yd,(qx th m fu root fr fs gn key).length≤y.2.m:=fun y hy=>by
 simp only[yd,List.mem_cons,List.not_mem_nil,or_false]at hy
 rcases hy with rfl|rfl|rfl<;>exact Nat.le_refl _
theorem zP(hz:dP Bx.cn X)(hX:X.H=lk (qx th m0 sR aO dr db dc key)){m:As}{fu root:Int}{fr fs gn:Ws}{e:Int}(ee:ki th key none m0 sR aO dr db dc=nv th aO dr db dc m fu root fr fs gn e):
 Safe P 48 X (iV abU ((th,m0,sR,aO,dr,db,dc),key,val)) (aoo th aO dr db dc m fu root fr fs gn key e):=by
 refine Ds.eH hz hX qG lH Tryd.func48 (aqr th aO dr db dc m fu root fr fs gn key e) ⟨fun h=> ?_,fun h=> ?_⟩
 ·have h:e≠0:=by simpa using h
  unfold nv at ee
  rw[if_pos h]at ee
  obtain⟨f1,f2⟩:=aoq (val:=val) ee
  exact ch 5 rfl (Nat.le_refl _) f2 f1
 ·have h:¬e≠0:=by simpa using h
  unfold nv at ee
  rw[if_neg h]at ee
  obtain⟨f1,f2⟩:=aoq (val:=val) ee
  exact ch 5 rfl (Nat.le_refl _) f2 f1
theorem tp(hz:dP Bx.cn X)(hX:X.H=lk (qx th m0 sR aO dr db dc key)){m:As}{fu root:Int}{fr fs gn:Ws}{l:List Br}{e:Int}(hd:Ds.bR th m fu)(hp:∀b∈l,0≤b.2.1∧b.2.1≤65536)
 (ee:ki th key none m0 sR aO dr db dc=jt th aO dr db dc (m,fu,fr,fs,gn,l,e)):
 Safe P 48 X (iV abU ((th,m0,sR,aO,dr,db,dc),key,val)) (aon th aO dr db dc m fu root fr fs gn key l e):=by
 refine Ds.eH hz hX qG lH Tryd.func48 (aqq th aO dr db dc m fu root fr fs gn key l e) ⟨fun h=>⟨fun h2=> ?_,fun h2=> ?_⟩,fun h=> ?_⟩
 ·have h:e=0:=by simpa using h
  have h2:(l.length:Int)=1:=by simpa using h2
  unfold jt at ee
  rw[if_pos ⟨h,by simp only[];omega⟩]at ee
  exact⟨by omega,by omega,rfl,rfl,hd,afl hp 0,zP hz hX ee⟩
 ·have h2:¬(l.length:Int)=1:=by simpa using h2
  unfold jt at ee
  rw[if_neg (fun a=>h2 (by have:=a.2;simp only[]at this;omega))]at ee
  exact zP hz hX ee
 ·have h:¬e=0:=by simpa using h
  unfold jt at ee
  rw[if_neg (fun a=>h a.1)]at ee
  exact zP hz hX ee
theorem amF(hz:dP Bx.cn X)(hX:X.H=lk (qx th m0 sR aO dr db dc key)){m:As}{fu root:Int}{fr fs gn:Ws}{l:List Br}{e:Int}(hd:Ds.bR th m fu)(hp:∀b∈l,0≤b.2.1∧b.2.1≤65536)(tW:¬(e=0∧1<l.length))
 (ee:ki th key none m0 sR aO dr db dc=jt th aO dr db dc (m,fu,fr,fs,gn,l,e)):
 Safe P 48 X (iV abU ((th,m0,sR,aO,dr,db,dc),key,val)) (ajT th aO dr db dc m fu root fr fs gn key l e):=by
 refine Ds.eH hz hX qG lH Tryd.func48 (ajU th aO dr db dc m fu root fr fs gn key l e) ⟨fun h=>⟨fun h2=> ?_,fun h2=> ?_⟩,fun h=> ?_⟩
 ·have h:e=0:=by simpa using h
  have h2:=of_decide_eq_true h2
  exact absurd ⟨h,by omega⟩ tW
 ·exact tp hz hX hd hp ee
 ·exact tp hz hX hd hp ee
theorem amG(hz:dP Bx.cn X)(hX:X.H=lk (qx th m0 sR aO dr db dc key)){m:As}{fu root:Int}{fr fs gn:Ws}{l:List Br}{e:Int}(F:ajI th m fu fr l)
 (ee:ki th key none m0 sR aO dr db dc=jt th aO dr db dc (z7 th (m,fu,fr,fs,gn,l,e))):
 Safe P 48 X (iV abU ((th,m0,sR,aO,dr,db,dc),key,val)) (ajT th aO dr db dc m fu root fr fs gn key l e):=by
 refine Ds.eH hz hX qG lH Tryd.func48 (ajU th aO dr db dc m fu root fr fs gn key l e) ⟨fun h=>⟨fun h2=> ?_,fun h2=> ?_⟩,fun h=> ?_⟩
 ·have h:e=0:=by simpa using h
  have h2:=of_decide_eq_true h2
  have hu:z7 th (m,fu,fr,fs,gn,l,e)=gK gn (bh th m fu fr fs false [] l):=if_pos ⟨h,by show 1<l.length;omega⟩
  rw[hu]at ee
  have F2:=nu (fs:=fs) (l:=false) (es:=[]) F.d F.fr noE F.key
  have hl:=ajV (th:=th) (m:=m) (fu:=fu) (fr:=fr) (fs:=fs) (l:=l) (by omega) F.two F.key
  exact⟨rfl,rfl,F.d,F.fr,⟨fun a=>(by cases a),fun _=>rfl⟩,ie,ye F.two F.key,amF hz hX F2.d F2.pg (fun a=>by rw[hl]at a;omega) ee⟩
 ·have h2:=of_decide_eq_false h2
  rw[rO (fun a=>h2 (by have:=a.2;simp only[]at this;omega))]at ee
  exact tp hz hX F.d F.pg ee
 ·have h:¬e=0:=by simpa using h
  rw[rO (fun a=>h a.1)]at ee
  exact tp hz hX F.d F.pg ee
end
theorem abX:ke P Bx.cn 48 abU:=by
 refine aR Tryd.func48 (by kernel_rfl) (fun x=>Nat.le_of_ble_eq_true (by kernel_rfl)) ?_
 rintro⟨⟨(th:Th),(m:As),(fu:Int),(root:Int),(fr:Ws),(fs:Ws),(gn:Ws)⟩,(key:ByteArray),(val:ByteArray)⟩ ⟨(hd:Ds.bR th m fu),(hf:Bx.okW fr),(hr:0≤root∧root≤65536),(hk:1≤key.size∧key.size≤24),(hv:val.size≤100),_⟩ X hX hz
 exact Ds.eH hz hX qG lH Tryd.func48 (asm th m fu root fr fs gn key) ⟨rfl,rfl,hd,hf,hr,hk,(Nat.zero_le 100),amG hz hX (abV (op:=none) hk.2 hd hf) rfl⟩
end Ts
namespace Ts
open Go Go.Sx Go.Proofs Lf
def dq(key:ByteArray):Option ByteArray→Bool
 |some v=>decide (1≤key.size)&&decide (key.size≤24)&&decide (v.size≤100)
 |none=>decide (1≤key.size)&&decide (key.size≤24)
def sw(th:Th)(key:ByteArray)(op:Option ByteArray)(m:As)(fu root:Int)(fr fs gn:Ws):Chs:=if dq key op=true then ki th key op m fu root fr fs gn else(m,fu,root,fr,fs,gn,1)
def op0(th:Th)(key:ByteArray)(op:Option ByteArray)(m:As)(fu root:Int)(fr fs gn:Ws):As:=(sw th key op m fu root fr fs gn).1
def op1(th:Th)(key:ByteArray)(op:Option ByteArray)(m:As)(fu root:Int)(fr fs gn:Ws):Int:=(sw th key op m fu root fr fs gn).2.1
def wb(th:Th)(key:ByteArray)(op:Option ByteArray)(m:As)(fu root:Int)(fr fs gn:Ws):Int:=(sw th key op m fu root fr fs gn).2.2.1
def op2(th:Th)(key:ByteArray)(op:Option ByteArray)(m:As)(fu root:Int)(fr fs gn:Ws):Ws:=(sw th key op m fu root fr fs gn).2.2.2.1
def op3(th:Th)(key:ByteArray)(op:Option ByteArray)(m:As)(fu root:Int)(fr fs gn:Ws):Ws:=(sw th key op m fu root fr fs gn).2.2.2.2.1
def op4(th:Th)(key:ByteArray)(op:Option ByteArray)(m:As)(fu root:Int)(fr fs gn:Ws):Ws:=(sw th key op m fu root fr fs gn).2.2.2.2.2.1
def opE(th:Th)(key:ByteArray)(op:Option ByteArray)(m:As)(fu root:Int)(fr fs gn:Ws):Int:=(sw th key op m fu root fr fs gn).2.2.2.2.2.2
def aqs(th:Th)(m:As)(fu root:Int)(fr:Ws):List Prop:=[Ds.bR th m fu,Bx.okW fr,0≤root∧root≤65536]
abbrev ajW:Spec XK:=⟨fun(_,key,val)=>[.ptr 0 0,.s (.str key),.s (.str val)],fun((th,m,fu,root,fr,fs,gn),_,_)=>hT th m fu root fr fs gn,fun((th,m,fu,root,fr,_,_),_,_)=>aqs th m fu root fr,
 fun((th,m,fu,root,fr,fs,gn),key,val)=>hT th (op0 th key (some val) m fu root fr fs gn) (op1 th key (some val) m fu root fr fs gn) (wb th key (some val) m fu root fr fs gn) (op2 th key (some val) m fu root fr fs gn) (op3 th key (some val) m fu root fr fs gn) (op4 th key (some val) m fu root fr fs gn),
 fun((th,m,fu,root,fr,fs,gn),key,val)=>bQ (opE th key (some val) m fu root fr fs gn)⟩
abbrev XD:Type:=XT×ByteArray
abbrev ajX:Spec XD:=⟨fun(_,key)=>[.ptr 0 0,.s (.str key)],fun((th,m,fu,root,fr,fs,gn),_)=>hT th m fu root fr fs gn,fun((th,m,fu,root,fr,_,_),_)=>aqs th m fu root fr,
 fun((th,m,fu,root,fr,fs,gn),key)=>hT th (op0 th key none m fu root fr fs gn) (op1 th key none m fu root fr fs gn) (wb th key none m fu root fr fs gn) (op2 th key none m fu root fr fs gn) (op3 th key none m fu root fr fs gn) (op4 th key none m fu root fr fs gn),
 fun((th,m,fu,root,fr,fs,gn),key)=>bQ (opE th key none m fu root fr fs gn)⟩
def asn:aH:=[(48,dJ abT ams)]
def aso:aH:=[(48,dJ abU amt)]
theorem auq(th:Th)(m:As)(fu root:Int)(fr fs gn:Ws)(key val:ByteArray):run P asn.sum Tryd.f24 [] (start Tryd.f24 [.ptr 0 0,.s (.str key),.s (.str val)] (hT th m fu root fr fs gn)) (inl:=[36])=
 Tree.ite (decide ((↑key.size:Int)≥1)) (.ite (!decide ((↑key.size:Int)≤24)) (.ret [.own [.ptr 1 0,.s (.int .i64 root),.ints .u64 16 fr,.ints .u64 16 fs,.ints .u64 16 gn] 70,.own [.vec 2,.ag 3,.s (.int .i64 fu)] 96,.vec (.ad [.arr .u8 64] th) 138,.map (.arr .u8 64) m,.own [.s (.str key)] 9,.own [.s (.str val)] 9] (.s (.bc .i64 1))) (.ite (decide ((↑val.size:Int)>100)) (.ret [.own [.ptr 1 0,.s (.int .i64 root),.ints .u64 16 fr,.ints .u64 16 fs,.ints .u64 16 gn] 70,.own [.vec 2,.ag 3,.s (.int .i64 fu)] 96,.vec (.ad [.arr .u8 64] th) 138,.map (.arr .u8 64) m,.own [.s (.str key)] 9,.own [.s (.str val)] 9] (.s (.bc .i64 1))) (.need (bK (some [AV.ptr 0 0,.s (.str key),.fn 49 [.ptr 4 0,.ptr 5 0]])) (.need (bK (some [ae.own [.ptr 1 0,.s (.int .i64 root),.ints .u64 16 fr,.ints .u64 16 fs,.ints .u64 16 gn] 70,.own [.vec 2,.ag 3,.s (.int .i64 fu)] 96,.vec (.ad [.arr .u8 64] th) 138,.map (.arr .u8 64) m,.own [.s (.str key)] 9,.own [.s (.str val)] 9])) (.need (Ds.bR th m fu) (.need (Bx.okW fr) (.need ((0:Int)≤root∧root≤65536) (.need ((1:Nat)≤key.size∧key.size≤24) (.need (val.size≤100) (.ret [.own [.ptr 1 0,.s (.int .i64 (amy th key (some val) m fu root fr fs gn)),.ints .u64 16 (amz th key (some val) m fu root fr fs gn),.ints .u64 16 (amA th key (some val) m fu root fr fs gn),.ints .u64 16 (amB th key (some val) m fu root fr fs gn)] 70,.own [.vec 2,.ag 3,.s (.int .i64 (amx th key (some val) m fu root fr fs gn))] 96,.vec (.ad [.arr .u8 64] th) 138,.map (.arr .u8 64) (amw th key (some val) m fu root fr fs gn),.own [.s (.str key)] 9,.own [.s (.str val)] 9] (.s (.int .i64 (amC th key (some val) m fu root fr fs gn))))))))))))) (.ret [.own [.ptr 1 0,.s (.int .i64 root),.ints .u64 16 fr,.ints .u64 16 fs,.ints .u64 16 gn] 70,.own [.vec 2,.ag 3,.s (.int .i64 fu)] 96,.vec (.ad [.arr .u8 64] th) 138,.map (.arr .u8 64) m,.own [.s (.str key)] 9,.own [.s (.str val)] 9] (.s (.bc .i64 1))):=by kernel_rfl
theorem aur(th:Th)(m:As)(fu root:Int)(fr fs gn:Ws)(key:ByteArray):run P aso.sum Tryd.f25 [] (start Tryd.f25 [.ptr 0 0,.s (.str key)] (hT th m fu root fr fs gn)) (inl:=[36])=
 Tree.ite (decide ((↑key.size:Int)≥1)) (.ite (!decide ((↑key.size:Int)≤24)) (.ret [.own [.ptr 1 0,.s (.int .i64 root),.ints .u64 16 fr,.ints .u64 16 fs,.ints .u64 16 gn] 70,.own [.vec 2,.ag 3,.s (.int .i64 fu)] 96,.vec (.ad [.arr .u8 64] th) 138,.map (.arr .u8 64) m,.own [.s (.str key)] 9] (.s (.bc .i64 1))) (.need (bK (some [AV.ptr 0 0,.s (.str key),.fn 51 [.ptr 4 0]])) (.need (bK (some [ae.own [.ptr 1 0,.s (.int .i64 root),.ints .u64 16 fr,.ints .u64 16 fs,.ints .u64 16 gn] 70,.own [.vec 2,.ag 3,.s (.int .i64 fu)] 96,.vec (.ad [.arr .u8 64] th) 138,.map (.arr .u8 64) m,.own [.s (.str key)] 9])) (.need (Ds.bR th m fu) (.need (Bx.okW fr) (.need ((0:Int)≤root∧root≤65536) (.need ((1:Nat)≤key.size∧key.size≤24) (.need (ByteArray.empty.size≤100) (.ret [.own [.ptr 1 0,.s (.int .i64 (amy th key none m fu root fr fs gn)),.ints .u64 16 (amz th key none m fu root fr fs gn),.ints .u64 16 (amA th key none m fu root fr fs gn),.ints .u64 16 (amB th key none m fu root fr fs gn)] 70,.own [.vec 2,.ag 3,.s (.int .i64 (amx th key none m fu root fr fs gn))] 96,.vec (.ad [.arr .u8 64] th) 138,.map (.arr .u8 64) (amw th key none m fu root fr fs gn),.own [.s (.str key)] 9] (.s (.int .i64 (amC th key none m fu root fr fs gn)))))))))))) (.ret [.own [.ptr 1 0,.s (.int .i64 root),.ints .u64 16 fr,.ints .u64 16 fs,.ints .u64 16 gn] 70,.own [.vec 2,.ag 3,.s (.int .i64 fu)] 96,.vec (.ad [.arr .u8 64] th) 138,.map (.arr .u8 64) m,.own [.s (.str key)] 9] (.s (.bc .i64 1))):=by kernel_rfl
theorem zQ{th:Th}{key:ByteArray}{op:Option ByteArray}{m:As}{fu root:Int}{fr fs gn:Ws}(h:dq key op=true):sw th key op m fu root fr fs gn=ki th key op m fu root fr fs gn:=if_pos h
theorem adN{th:Th}{key:ByteArray}{op:Option ByteArray}{m:As}{fu root:Int}{fr fs gn:Ws}(h:dq key op=false):sw th key op m fu root fr fs gn=(m,fu,root,fr,fs,gn,1):=if_neg (by rw[h];simp)
theorem aor{th:Th}{m:As}{fu root:Int}{fr fs gn:Ws}{key val:ByteArray}{c:Chs}(e:sw th key (some val) m fu root fr fs gn=c):
 ajW.fi ((th,m,fu,root,fr,fs,gn),key,val)=hT th c.1 c.2.1 c.2.2.1 c.2.2.2.1 c.2.2.2.2.1 c.2.2.2.2.2.1∧ajW.out ((th,m,fu,root,fr,fs,gn),key,val)=bQ c.2.2.2.2.2.2:=by
 subst e;exact⟨rfl,rfl⟩
theorem aos{th:Th}{m:As}{fu root:Int}{fr fs gn:Ws}{key:ByteArray}{c:Chs}(e:sw th key none m fu root fr fs gn=c):
 ajX.fi ((th,m,fu,root,fr,fs,gn),key)=hT th c.1 c.2.1 c.2.2.1 c.2.2.2.1 c.2.2.2.2.1 c.2.2.2.2.2.1∧ajX.out ((th,m,fu,root,fr,fs,gn),key)=bQ c.2.2.2.2.2.2:=by
 subst e;exact⟨rfl,rfl⟩
theorem sC:ke P Bx.cn 24 ajW:=by
 refine aR Tryd.func24 (by kernel_rfl) (fun x=>Nat.le_of_ble_eq_true (by kernel_rfl)) ?_
 rintro⟨⟨(th:Th),(m:As),(fu:Int),(root:Int),(fr:Ws),(fs:Ws),(gn:Ws)⟩,(key:ByteArray),(val:ByteArray)⟩ ⟨(hd:Ds.bR th m fu),(hf:Bx.okW fr),(hr:0≤root∧root≤65536),_⟩ X hX hz
 have no:dq key (some val)=false→iV ajW ((th,m,fu,root,fr,fs,gn),key,val) (hT th m fu root fr fs gn++[tm key,tm val]) (.s (.bc .i64 1)):=fun h=>by
  obtain⟨f1,f2⟩:=aor (adN (th:=th) (m:=m) (fu:=fu) (root:=root) (fr:=fr) (fs:=fs) (gn:=gn) h)
  exact ch 4 rfl (Nat.le_refl _) f2 f1
 refine Ds.eH hz hX (by intro y hy;cases hy) (aH.Ok.cons (abW.sum ams) aH.Ok.nil) Tryd.func24 (auq th m fu root fr fs gn key val) ⟨fun h=>⟨fun h2=> ?_,fun h2=>⟨fun h3=> ?_,fun h3=>⟨rfl,rfl,hd,hf,hr, ?_, ?_, ?_⟩⟩⟩,fun h=> ?_⟩
 ·have h2:¬(key.size:Int)≤24:=by simpa using h2
  exact no (by simp only[dq,Bool.and_eq_false_iff,decide_eq_false_iff_not];omega)
 ·have h3:=of_decide_eq_true h3
  exact no (by simp only[dq,Bool.and_eq_false_iff,decide_eq_false_iff_not];omega)
 ·have h:=of_decide_eq_true h
  have h2:(key.size:Int)≤24:=by simpa using h2
  omega
 ·have h3:=of_decide_eq_false h3
  omega
 ·have h:=of_decide_eq_true h
  have h2:(key.size:Int)≤24:=by simpa using h2
  have h3:=of_decide_eq_false h3
  obtain⟨f1,f2⟩:=aor (zQ (th:=th) (key:=key) (op:=some val) (m:=m) (fu:=fu) (root:=root) (fr:=fr) (fs:=fs) (gn:=gn) (by simp only[dq,Bool.and_eq_true,decide_eq_true_eq];omega))
  exact ch 4 rfl (Nat.le_refl _) f2 f1
 ·have h:=of_decide_eq_false h
  exact no (by simp only[dq,Bool.and_eq_false_iff,decide_eq_false_iff_not];omega)
theorem sD:ke P Bx.cn 25 ajX:=by
 refine aR Tryd.func25 (by kernel_rfl) (fun x=>Nat.le_of_ble_eq_true (by kernel_rfl)) ?_
 rintro⟨⟨(th:Th),(m:As),(fu:Int),(root:Int),(fr:Ws),(fs:Ws),(gn:Ws)⟩,(key:ByteArray)⟩ ⟨(hd:Ds.bR th m fu),(hf:Bx.okW fr),(hr:0≤root∧root≤65536),_⟩ X hX hz
 have no:dq key none=false→iV ajX ((th,m,fu,root,fr,fs,gn),key) (hT th m fu root fr fs gn++[tm key]) (.s (.bc .i64 1)):=fun h=>by
  obtain⟨f1,f2⟩:=aos (adN (th:=th) (m:=m) (fu:=fu) (root:=root) (fr:=fr) (fs:=fs) (gn:=gn) h)
  exact ch 4 rfl (Nat.le_refl _) f2 f1
 refine Ds.eH hz hX (by intro y hy;cases hy) (aH.Ok.cons (abX.sum amt) aH.Ok.nil) Tryd.func25 (aur th m fu root fr fs gn key) ⟨fun h=>⟨fun h2=> ?_,fun h2=>⟨rfl,rfl,hd,hf,hr, ?_,Nat.zero_le 100, ?_⟩⟩,fun h=> ?_⟩
 ·have h2:¬(key.size:Int)≤24:=by simpa using h2
  exact no (by simp only[dq,Bool.and_eq_false_iff,decide_eq_false_iff_not];omega)
 ·have h:=of_decide_eq_true h
  have h2:(key.size:Int)≤24:=by simpa using h2
  omega
 ·have h:=of_decide_eq_true h
  have h2:(key.size:Int)≤24:=by simpa using h2
  obtain⟨f1,f2⟩:=aos (zQ (th:=th) (key:=key) (op:=none) (m:=m) (fu:=fu) (root:=root) (fr:=fr) (fs:=fs) (gn:=gn) (by simp only[dq,Bool.and_eq_true,decide_eq_true_eq];omega))
  exact ch 4 rfl (Nat.le_refl _) f2 f1
 ·have h:=of_decide_eq_false h
  exact no (by simp only[dq,Bool.and_eq_false_iff,decide_eq_false_iff_not];omega)
end Ts
namespace Ts
open Go Go.Sx Go.Proofs Lf
def zR(th:Th)(m:As)(key:ByteArray):Nat→Int→Int→ByteArray×Bool×Int
 |0,_,_=>(ByteArray.empty,false,4)
 |f+1,n,deep=>
  if gU th m n deep≠0 then(ByteArray.empty,false,gU th m n deep)
  else if kJ th m n deep=true then(nj (bP th m n deep) key,lB (bP th m n deep) key,0)
  else if aP th m n deep=[]then(ByteArray.empty,false,4)
  else zR th m key f ((aP th m n deep).getD (aS (aP th m n deep) key).toNat dB).2.1 (deep+1)
def gtT(th:Th)(m:As)(root:Int)(key:ByteArray):ByteArray×Bool×Int:=
 if dq key none=false then(ByteArray.empty,false,1)else if root=0 then(ByteArray.empty,false,0)else zR th m key 17 root 1
def gtV(th:Th)(m:As)(root:Int)(key:ByteArray):ByteArray:=(gtT th m root key).1
def gtB(th:Th)(m:As)(root:Int)(key:ByteArray):Bool:=(gtT th m root key).2.1
def gtE(th:Th)(m:As)(root:Int)(key:ByteArray):Int:=(gtT th m root key).2.2
abbrev ag1:Spec XD:=⟨fun(_,key)=>[.ptr 0 0,.s (.str key)],fun((th,m,fu,root,fr,fs,gn),_)=>hT th m fu root fr fs gn,fun((th,m,fu,root,_),_)=>[Ds.bR th m fu,0≤root∧root≤65536],
 fun((th,m,fu,root,fr,fs,gn),_)=>hT th m fu root fr fs gn,fun((th,m,_,root,_),key)=>.bm [.s (.str (gtV th m root key)),.s (.bool (gtB th m root key)),bQ (gtE th m root key)]⟩
abbrev asp:=bW [nX,dD] [dD,cf] (fun(l,_,())=>[(l:List En).length≤1000000,gW (bu l)]) (fun(l,key,())=>(nj l key,lB l key,()))
def ajY:aH:=[(37,abG),(38,asp),(39,aqe)]
def amH:List (Nat×Norm):=[(10,⟨[],[0,1,7,8],4,[]⟩)]
noncomputable def cGt(th:Th)(m:As)(fu root:Int)(fr fs gn:Ws)(key:ByteArray)(n deep:Int):bx:=⟨sl 66 [(0,.ptr 0 0),(1,.s (.str key)),(7,bQ n),(8,bQ deep)],hT th m fu root fr fs gn,hd Tryd.f11 10,{}⟩
theorem aus(th:Th)(m:As)(fu root:Int)(fr fs gn:Ws)(key:ByteArray):run P ajY.sum Tryd.f11 amH (start Tryd.f11 [.ptr 0 0,.s (.str key)] (hT th m fu root fr fs gn)) (inl:=[36])=
 Tree.ite (decide ((↑key.size:Int)≥1)) (.ite (!decide ((↑key.size:Int)≤24)) (.ret [.own [.ptr 1 0,.s (.int .i64 root),.ints .u64 16 fr,.ints .u64 16 fs,.ints .u64 16 gn] 70,.own [.vec 2,.ag 3,.s (.int .i64 fu)] 96,.vec (.ad [.arr .u8 64] th) 138,.map (.arr .u8 64) m] (.bm [.s (.str ByteArray.empty),.s (.aI false),.s (.bc .i64 1)])) (.ite (root==0) (.ret [.own [.ptr 1 0,.s (.int .i64 root),.ints .u64 16 fr,.ints .u64 16 fs,.ints .u64 16 gn] 70,.own [.vec 2,.ag 3,.s (.int .i64 fu)] 96,.vec (.ad [.arr .u8 64] th) 138,.map (.arr .u8 64) m] (.bm [.s (.str ByteArray.empty),.s (.aI false),.s (.bc .i64 0)])) (.at (.mk (sl 66 [(0,.ptr 0 0),(1,.s (.str key)),(7,.s (.int .i64 root)),(8,.s (.int .i64 1))]) [.own [.ptr 1 0,.s (.int .i64 root),.ints .u64 16 fr,.ints .u64 16 fs,.ints .u64 16 gn] 70,.own [.vec 2,.ag 3,.s (.int .i64 fu)] 96,.vec (.ad [.arr .u8 64] th) 138,.map (.arr .u8 64) m] (hd Tryd.f11 10) (.mk none false 0 [] 0))))) (.ret [.own [.ptr 1 0,.s (.int .i64 root),.ints .u64 16 fr,.ints .u64 16 fs,.ints .u64 16 gn] 70,.own [.vec 2,.ag 3,.s (.int .i64 fu)] 96,.vec (.ad [.arr .u8 64] th) 138,.map (.arr .u8 64) m] (.bm [.s (.str ByteArray.empty),.s (.aI false),.s (.bc .i64 1)])):=by kernel_rfl
theorem aut(th:Th)(m:As)(fu root:Int)(fr fs gn:Ws)(key:ByteArray)(n deep:Int):run P ajY.sum Tryd.f11 amH (cGt th m fu root fr fs gn key n deep) (inl:=[36])=
 Tree.need (bK (some [AV.ptr 0 0,.s (.int .i64 n),.s (.int .i64 deep)])) (.need (bK (some [ae.own [.ptr 1 0,.s (.int .i64 root),.ints .u64 16 fr,.ints .u64 16 fs,.ints .u64 16 gn] 70,.own [.vec 2,.ag 3,.s (.int .i64 fu)] 96,.vec (.ad [.arr .u8 64] th) 138,.map (.arr .u8 64) m])) (.need (Ds.bR th m fu) (.need (ax n) (.ite (gU th m n deep !=0) (.ret [.own [.ptr 1 0,.s (.int .i64 root),.ints .u64 16 fr,.ints .u64 16 fs,.ints .u64 16 gn] 70,.own [.vec 2,.ag 3,.s (.int .i64 fu)] 96,.vec (.ad [.arr .u8 64] th) 138,.map (.arr .u8 64) m,.own [.s (.bool (kJ th m n deep)),.s (.ro (.ad [.str,.str] (bP th m n deep))),.s (.ro (.ad [.str,.int .i64] (aP th m n deep)))] 73] (.bm [.s (.str ByteArray.empty),.s (.aI false),.s (.int .i64 (gU th m n deep))])) (.ite (kJ th m n deep) (.need ((bP th m n deep).length≤1000000) (.need (gW (bu (bP th m n deep))) (.ret [.own [.ptr 1 0,.s (.int .i64 root),.ints .u64 16 fr,.ints .u64 16 fs,.ints .u64 16 gn] 70,.own [.vec 2,.ag 3,.s (.int .i64 fu)] 96,.vec (.ad [.arr .u8 64] th) 138,.map (.arr .u8 64) m,.own [.s (.bool (kJ th m n deep)),.s (.ro (.ad [.str,.str] (bP th m n deep))),.s (.ro (.ad [.str,.int .i64] (aP th m n deep)))] 73] (.bm [.s (.str (nj (bP th m n deep) key)),.s (.bool (lB (bP th m n deep) key)),.s (.bc .i64 0)])))) (.ite ((↑(aP th m n deep).length:Int)==0) (.ret [.own [.ptr 1 0,.s (.int .i64 root),.ints .u64 16 fr,.ints .u64 16 fs,.ints .u64 16 gn] 70,.own [.vec 2,.ag 3,.s (.int .i64 fu)] 96,.vec (.ad [.arr .u8 64] th) 138,.map (.arr .u8 64) m,.own [.s (.bool (kJ th m n deep)),.s (.ro (.ad [.str,.str] (bP th m n deep))),.s (.ro (.ad [.str,.int .i64] (aP th m n deep)))] 73] (.bm [.s (.str ByteArray.empty),.s (.aI false),.s (.bc .i64 4)])) (.need ((aP th m n deep).length≤1000000) (.need (gW (l9 (aP th m n deep))) (.need ((0:Int)≤aS (aP th m n deep) key) (.need (aS (aP th m n deep) key<(↑(aP th m n deep).length:Int)) (.need (ax (deep+1)) (.at (.mk (sl 66 [(0,.ptr 0 0),(1,.s (.str key)),(7,.s (.int .i64 ((aP th m n deep).getD (aS (aP th m n deep) key).toNat (CL.d [.str,.int .i64])).snd.fst)),(8,.s (.int .i64 (deep+1)))]) [.own [.ptr 1 0,.s (.int .i64 root),.ints .u64 16 fr,.ints .u64 16 fs,.ints .u64 16 gn] 70,.own [.vec 2,.ag 3,.s (.int .i64 fu)] 96,.vec (.ad [.arr .u8 64] th) 138,.map (.arr .u8 64) m] (hd Tryd.f11 10) (.mk none false 0 [] 0)))))))))))))):=by kernel_rfl
theorem abY{Z:a8}:ajY.Ok P Z:=aH.Ok.cons (qs.sum mNo) (aH.Ok.cons alJ.sum (aH.Ok.cons uZ.sum aH.Ok.nil))
theorem abZ{th:Th}{m:As}{fu root:Int}{fr fs gn:Ws}{key:ByteArray}{c:ByteArray×Bool×Int}(e:c=gtT th m root key):
 ag1.out ((th,m,fu,root,fr,fs,gn),key)=.bm [.s (.str c.1),.s (.bool c.2.1),bQ c.2.2]:=by
 subst e;rfl
theorem ajZ{Z:a8}:ke P Z 11 ag1:=by
 refine aR Tryd.func11 (by kernel_rfl) (fun x=>Nat.le_of_ble_eq_true (by kernel_rfl)) ?_
 rintro⟨⟨(th:Th),(m:As),(fu:Int),(root:Int),(fr:Ws),(fs:Ws),(gn:Ws)⟩,(key:ByteArray)⟩ ⟨(hd:Ds.bR th m fu),(hr:0≤root∧root≤65536),_⟩ X hX hz
 have hm:∀y∈amH,(hT th m fu root fr fs gn).length≤y.2.m:=fun y hy=>by
  simp only[amH,List.mem_singleton]at hy;subst hy;exact Nat.le_refl _
 have loop:∀(f:Nat) (n deep:Int),1≤deep∧deep≤17→18≤deep+(f:Int)→0≤n∧n≤65536→zR th m key f n deep=gtT th m root key→
  Safe P 11 X (iV ag1 ((th,m,fu,root,fr,fs,gn),key)) (cGt th m fu root fr fs gn key n deep):=by
  intro f
  induction f with
  |zero=>intro n deep h1 h2;omega
  |succ f ih=>
   intro n deep h1 h2 hn e
   rw[zR]at e
   refine Ds.eH hz hX hm abY Tryd.func11 (aut th m fu root fr fs gn key n deep) ⟨rfl,rfl,hd,inI (by omega) (by omega),fun h=> ?_,fun h=> ?_⟩
   ·have h:gU th m n deep≠0:=by simpa using h
    rw[if_pos h]at e
    exact ch 4 rfl (Nat.le_refl _) (abZ e) rfl
   have h:gU th m n deep=0:=by simpa using h
   obtain⟨auu,n1,n2,_,_,n5,_⟩:=fl h
   obtain⟨s1,s2⟩:=qu auu
   rw[if_neg (by rw[h];simp)]at e
   refine⟨fun hl=>⟨by omega,s1, ?_⟩,fun hl=>⟨fun h3=> ?_,fun h3=> ?_⟩⟩
   ·rw[if_pos hl]at e
    exact ch 4 rfl (Nat.le_refl _) (abZ e) rfl
   ·have h3:aP th m n deep=[]:=List.eq_nil_of_length_eq_zero (by have:((aP th m n deep).length:Int)=0:=by simpa using h3
                                                                 omega)
    rw[if_neg (by rw[hl];simp),if_pos h3]at e
    exact ch 4 rfl (Nat.le_refl _) (abZ e) rfl
   ·have h3:aP th m n deep≠[]:=fun e=>by rw[e]at h3;simp at h3
    rw[if_neg (by rw[hl];simp),if_neg h3]at e
    obtain⟨p0,p1⟩:=rM (key:=key) s2 h3
    exact⟨by omega,s2,p0,p1,inI (by omega) (by omega),ih _ _ ⟨by omega,by omega⟩ (by omega) (vO h _) e⟩
 have no:dq key none=false→iV ag1 ((th,m,fu,root,fr,fs,gn),key) (hT th m fu root fr fs gn) (.bm [.s (.str ByteArray.empty),.s (.aI false),.s (.bc .i64 1)]):=fun h=>
  ch 4 rfl (Nat.le_refl _) (abZ (c:=(ByteArray.empty,false,1)) (by unfold gtT;rw[if_pos h])) rfl
 refine Ds.eH hz hX hm abY Tryd.func11 (aus th m fu root fr fs gn key) ⟨fun h=>⟨fun h2=> ?_,fun h2=> ?_⟩,fun h=> ?_⟩
 ·have h2:¬(key.size:Int)≤24:=by simpa using h2
  exact no (by simp only[dq,Bool.and_eq_false_iff,decide_eq_false_iff_not];omega)
 ·have h:=of_decide_eq_true h
  have h2:(key.size:Int)≤24:=by simpa using h2
  have ok:dq key none=true:=by simp only[dq,Bool.and_eq_true,decide_eq_true_eq];omega
  refine⟨fun h3=> ?_,fun h3=> ?_⟩
  ·have h3:root=0:=by simpa using h3
   exact ch 4 rfl (Nat.le_refl _) (abZ (c:=(ByteArray.empty,false,0)) (by unfold gtT;rw[if_neg (by rw[ok];simp),if_pos h3])) rfl
  ·have h3:root≠0:=by simpa using h3
   exact loop 17 root 1 ⟨by omega,by omega⟩ (by omega) hr (by unfold gtT;rw[if_neg (by rw[ok];simp),if_neg h3])
 ·have h:=of_decide_eq_false h
  exact no (by simp only[dq,Bool.and_eq_false_iff,decide_eq_false_iff_not];omega)
end Ts
namespace Go.Sx
open Go
section
variable{P:Program}{X:Ctx}{K:List ae→AV→Prop}{L:List ae}
end
end Go.Sx
namespace Go.Sx
open Go
def ab0(id n:Nat):AV→AV
 |.vec j=>bif j.beq id then .vec n else .vec j
 |a=>a
def adO(id n:Nat):AV→AV
 |.agg ak=>.agg (ak.map (ab0 id n))
 |.vec j=>bif j.beq id then .vec n else .vec j
 |a=>a
def mvO(id n:Nat):ae→ae
 |.own ak e=>.own (ak.map (ab0 id n)) e
 |o=>o
def amI(s:St)(id:Nat):St:=
 match s.H[id]? with
 |some (.vec c e)=>⟨s.tmps.map (adO id s.H.length),(s.H.map (mvO id s.H.length)).set id .dead++[.vec c e]⟩
 |_=>s
section
variable{ρ aA:Nat→Value}{H H':aG}{G O O':Nat→Prop}{w w':World}{P:Program}{Z:a8}{X:Ctx}{s:St}{a:Act}
theorem ag2{id n:Nat}{o:ae}:(mvO id n o).alive=o.alive:=by cases o<;>rfl
theorem amJ{id n:Nat}{o:ae}{c':aF}{e':TypeId}(h:mvO id n o=.vec c' e'):o=.vec c' e':=by
 cases o<;>simp[mvO]at h ⊢
 exact h
theorem bM.mv(h:bM X ρ s a w)(id:Nat):∃aA,bM X aA (amI s id) a w:=by
 unfold amI
 split
 ·rename_i c e ho
  have hs:=h.sat
  have a7:id<s.H.length:=(List.getElem?_eq_some_iff.1 ho).1
  let n:=s.H.length
  let aA:Nat→Value:=fun j=>if j=n then ρ id else ρ j
  let s':St:=⟨s.tmps.map (adO id n),(s.H.map (mvO id n)).set id .dead++[.vec c e]⟩
  have look:∀j,s'.look j=if j=n then some (.vec c e)else if j=id then some .dead else(s.look j).map (mvO id n):=by
   intro j
   show((s.H.map (mvO id n)).set id .dead++[.vec c e])[j]? =_
   by_cases hj:j=n
   ·subst hj
    rw[if_pos rfl,List.getElem?_append_right (by simp[n])]
    simp[n]
   ·rw[if_neg hj]
    by_cases hl:j<n
    ·rw[List.getElem?_append_left (by simpa[n]using hl),List.getElem?_set]
     by_cases hi:id=j
     ·subst hi;simp[a7]
     ·rw[if_neg hi,if_neg (Ne.symm hi),List.getElem?_map];rfl
    ·rw[List.getElem?_eq_none (by simp only[List.length_append,List.length_set,List.length_map,List.length_singleton];show n+1≤j;omega),if_neg (by omega)]
     have:s.look j=none:=List.getElem?_eq_none (by show n≤j;omega)
     rw[this];rfl
  have aot:∀{j:Nat} {o:ae},s.look j=some o→j<n:=fun hj=>(List.getElem?_eq_some_iff.1 hj).1
  have back:∀j o,s'.look j=some o→o.alive=true→∃x,s.look (if j=n then id else j)=some x∧x.alive=true∧aA j=ρ (if j=n then id else j)∧(j≠n→j≠id):=by
   intro j o hj ha
   rw[look]at hj
   by_cases e1:j=n
   ·rw[if_pos e1]
    exact⟨.vec c e,ho,rfl,by simp[aA,e1],fun h=>absurd e1 h⟩
   ·rw[if_neg e1]at hj ⊢
    by_cases e2:j=id
    ·rw[if_pos e2]at hj;cases hj;cases ha
    ·rw[if_neg e2]at hj
     obtain⟨o0,h3,rfl⟩:=Option.map_eq_some_iff.1 hj
     exact⟨o0,h3,by rw[ag2]at ha;exact ha,by simp[aA,e1],fun _=>e2⟩
  have own:∀b,Own aA s'.look b→Own ρ s.look b:=by
   rintro b ⟨j,o,hj,h1,h2⟩
   obtain⟨x,g1,g2,g3,_⟩:=back j o hj h1
   exact⟨_,x,g1,g2,by rw[←g3];exact h2⟩
  have st:Step ρ s.look (aK ρ s.look X.G) w aA s'.look (aK aA s'.look X.G) w:=by
   refine⟨fun j o hj=> ?_,fun j o hj=> ?_,fun b hb=>.inl (hb.imp (own b) (fun x=>x)),fun _ _ _=>rfl,Nat.le_refl _⟩
   ·have:=aot hj
    simp only[aA]
    rw[if_neg (by omega)]
   ·have hjn:j≠n:=Nat.ne_of_lt (aot hj)
    by_cases e1:j=id
    ·exact⟨.dead,by rw[look,if_neg hjn,if_pos e1],fun c' e' he=>by cases he⟩
    ·refine⟨mvO id n o,by rw[look,if_neg hjn,if_neg e1,hj];rfl,fun c' e' he=> ?_⟩
     exact⟨c',e',amJ he,rfl,rfl⟩
  have asq:s'.look n=some (.vec c e):=by rw[look,if_pos rfl]
  have asr:aA n=ρ id:=by simp[aA]
  have hi:s.look id=some (.vec c e):=ho
  have ass:∀{v:Value},az ρ s.look (aK ρ s.look X.G) w (.vec id) v→az aA s'.look (aK aA s'.look X.G) w (.vec n) v:=by
   intro v hv
   unfold az at hv ⊢
   obtain⟨h0,o,h1,h2⟩:=hv
   rw[hi]at h1
   cases h1
   exact⟨h0,.vec c e,asq,fun c' e' _=>by rw[asr];exact h2 c e rfl⟩
  have ac5:∀x cs,aD ρ s.look (aK ρ s.look X.G) w x cs→aD aA s'.look (aK aA s'.look X.G) w (ab0 id n x) cs:=by
   intro x cs hx
   have mf:=aD.step st x cs hx
   cases x<;>try exact mf
   rename_i j
   simp only[ab0,Bool.cond_eq_ite]
   split
   ·rename_i hj
    have hj:j=id:=by simpa using hj
    subst hj
    unfold aD at hx ⊢
    obtain⟨u,rfl,hu⟩:=hx
    exact⟨u,rfl,ass hu⟩
   ·exact mf
  have lR:∀(xs:List AV) cs,an ρ s.look (aK ρ s.look X.G) w xs cs→an aA s'.look (aK aA s'.look X.G) w (xs.map (ab0 id n)) cs:=by
   intro xs
   induction xs with
   |nil=>intro cs hx;exact ao.2 (ao.1 hx)
   |cons x xs ih=>
    intro cs hx
    obtain⟨c1,c2,rfl,h1,h2⟩:=af.1 hx
    exact af.2 ⟨c1,c2,rfl,ac5 _ _ h1,ih _ h2⟩
  have ao4:∀x v,ab ρ s.look (aK ρ s.look X.G) w x v→ab aA s'.look (aK aA s'.look X.G) w (adO id n x) v:=by
   intro x v hx
   have mf:=ab.step st x v hx
   cases x with
   |agg ak=>
    unfold ab at hx
    obtain⟨cs,rfl,h1⟩:=hx
    show ab _ _ _ _ (.agg _) _
    unfold ab
    exact⟨cs,rfl,lR _ _ h1⟩
   |vec j=>
    simp only[adO,Bool.cond_eq_ite]
    split
    ·rename_i hj
     have hj:j=id:=by simpa using hj
     subst hj
     unfold ab at hx ⊢
     exact ass hx
    ·exact mf
   |_=>exact mf
  refine⟨aA,⟨fun j o hj=> ?_,fun i j oi oj b h1 h2 h3 h4 h5 h6=> ?_,fun b hb=>hs.apart b (own b hb),hs.low⟩,by rw[←h.size];exact List.length_map _,fun t=> ?_,h.defers,h.from_.trans st,h.iM,h.kept⟩
  ·have hj:s'.look j=some o:=hj
   rw[look]at hj
   by_cases e0:j=n
   ·rw[if_pos e0]at hj
    cases hj
    subst e0
    rw[asr]
    exact(hs.obj id _ hi).step st (fun _ _ _=>rfl)
   ·rw[if_neg e0]at hj
    have hr:aA j=ρ j:=by simp[aA,e0]
    rw[hr]
    by_cases e1:j=id
    ·rw[if_pos e1]at hj;cases hj;trivial
    ·rw[if_neg e1]at hj
     obtain⟨o0,h3,rfl⟩:=Option.map_eq_some_iff.1 hj
     have dK:=hs.obj j o0 h3
     cases o0 with
     |own ak e1=>
      obtain⟨b,cells,fr,g1,g2,g3,g4⟩:=dK
      exact⟨b,cells,fr,g1,g2,g3,lR _ _ g4⟩
     |_=>exact dK.step st (fun _ _ _=>rfl)
  ·obtain⟨x,hx,hxa,hxr,hxi⟩:=back i oi h1 h3
   obtain⟨y,hy,hya,hyr,hyi⟩:=back j oj h2 h4
   have:=hs.inj _ _ x y b hx hy hxa hya (by rw[←hxr];exact h5) (by rw[←hyr];exact h6)
   by_cases e1:i=n
   ·by_cases e2:j=n
    ·omega
    ·rw[if_pos e1,if_neg e2]at this
     exact absurd this.symm (hyi e2)
   ·by_cases e2:j=n
    ·rw[if_neg e1,if_pos e2]at this
     exact absurd this (hxi e1)
    ·rw[if_neg e1,if_neg e2]at this
     exact this
  ·have e1:(s.tmps.map (adO id n)).getD t (.s .aN)=adO id n (s.tmps.getD t (.s .aN)):=by
    rw[List.getD_eq_getElem?_getD,List.getD_eq_getElem?_getD,List.getElem?_map]
    cases s.tmps[t]? <;>rfl
   show ab aA s'.look _ w ((s.tmps.map (adO id n)).getD t (.s .aN)) _
   rw[e1]
   exact ao4 _ _ (h.den t)
 ·exact⟨ρ,h⟩
variable{K:List ae→AV→Prop}
theorem pq{f:FuncId}{tmps:List AV}{L:List ae}{todo:List Item}{stk:mj}(id:Nat){c:bx}(e:(⟨(amI ⟨tmps,L⟩ id).tmps,(amI ⟨tmps,L⟩ id).H,todo,stk⟩:bx)=c)(h:Safe P f X K c):Safe P f X K ⟨tmps,L,todo,stk⟩:=by
 subst e
 intro G E ρ a w gq gR hr b t fs hw
 obtain⟨aA,r'⟩:=hr.mv id
 exact h G E aA a w gq gR r' b t fs hw
end
end Go.Sx
namespace Ts
open Go Go.Sx Go.Proofs Lf
abbrev fL1:FuncId:=41
abbrev fW1:FuncId:=62
def pr(k:ByteArray)(e:En):Bool:= !slt e.1 k
abbrev sL1:Spec (Int×(Bool×List En×List Br)×ByteArray×List En):=⟨fun(n,(l,es,bs),_,_)=>[bQ n,avN l es bs,.ptr 0 0,.ptr 1 0],fun(_,_,from_,out)=>[tm from_,.own [.vec 2] 29,.vec (.ad cE out) Lf.eE],
 fun(_,(_,es,_),_,out)=>[(es:List En).length≤1000,(out:List En).length≤100000000],fun(_,(_,es,_),from_,out)=>[tm from_,.own [.vec 3] 29,.dead,.vec (.ad cE (out++es.filter (pr from_))) Lf.eE],fun _=>.bm []⟩
def aj0:List (Nat×Norm):=[(1,⟨[],[2,3,5],3,[]⟩),(2,⟨[],[2,3,9,10,11],3,[]⟩)]
noncomputable def ast(l:Bool)(es:List En)(bs:List Br)(from_:ByteArray)(out:List En):bx:=⟨sl 24 [(2,.ptr 0 0),(3,.ptr 1 0),(5,.ptr 3 0)],[tm from_,.own [.vec 4] 29,.dead,obN l es bs eN,.vec (.ad cE out) Lf.eE],hr Tryd.f41 1,{}⟩
noncomputable def cL1(es:List En)(from_:ByteArray)(out:List En)(i:Int):bx:=⟨sl 24 [(2,.ptr 0 0),(3,.ptr 1 0),(9,.s (.ro (.ad cE es))),(10,bQ (es.length:Int)),(11,bQ i)],[tm from_,.own [.vec 3] 29,.dead,.vec (.ad cE out) Lf.eE],hd Tryd.f41 2,{}⟩
theorem auv(n:Int)(l:Bool)(es:List En)(bs:List Br)(from_:ByteArray)(out:List En):run P (aH.sum []) Tryd.f41 aj0 (start Tryd.f41 [bQ n,avN l es bs,.ptr 0 0,.ptr 1 0] [tm from_,.own [.vec 2] 29,.vec (.ad cE out) Lf.eE])=
 Tree.at (.mk (sl 24 [(2,.ptr 0 0),(3,.ptr 1 0),(5,.ptr 3 0)]) [.own [.s (.str from_)] 9,.own [.vec 2] 29,.vec (.ad [.str,.str] out) 34,.own [.s (.bool l),.s (.ro (.ad [.str,.str] es)),.s (.ro (.ad [.str,.int .i64] bs))] 73] (hr Tryd.f41 1) (.mk none false 0 [] 0)):=by kernel_rfl
theorem auw(l:Bool)(es:List En)(bs:List Br)(from_:ByteArray)(out:List En):run P (aH.sum []) Tryd.f41 aj0 (ast l es bs from_ out)=
 Tree.at (.mk (sl 24 [(2,.ptr 0 0),(3,.ptr 1 0),(9,.s (.ro (.ad [.str,.str] es))),(10,.s (.int .i64 (↑es.length:Int))),(11,.s (.int .i64 0))]) [.own [.s (.str from_)] 9,.own [.vec 3] 29,.dead,.vec (.ad [.str,.str] out) 34] (hd Tryd.f41 2) (.mk none false 0 [] 0)):=by kernel_rfl
theorem asu(es:List En)(from_:ByteArray)(out:List En)(i:Int):run P (aH.sum []) Tryd.f41 aj0 (cL1 es from_ out i)=
 Tree.ite (decide (i<(↑es.length:Int))) (.need ((0:Int)≤i) (.need (i<(↑es.length:Int)) (.ite (!slt (es.getD i.toNat (CL.d [.str,.str])).fst from_) (.need ((out.length+1)*(32:Nat)≤140737488355328) (.need (ax (i+1)) (.at (.mk (sl 24 [(2,.ptr 0 0),(3,.ptr 1 0),(9,.s (.ro (.ad [.str,.str] es))),(10,.s (.int .i64 (↑es.length:Int))),(11,.s (.int .i64 (i+1)))]) [.own [.s (.str from_)] 9,.own [.vec 3] 29,.dead,.vec (.ad [.str,.str] (out++[((es.getD i.toNat (CL.d [.str,.str])).fst,(es.getD i.toNat (CL.d [.str,.str])).snd.fst,())])) 34] (hd Tryd.f41 2) (.mk none false 0 [] 0))))) (.need (ax (i+1)) (.at (.mk (sl 24 [(2,.ptr 0 0),(3,.ptr 1 0),(9,.s (.ro (.ad [.str,.str] es))),(10,.s (.int .i64 (↑es.length:Int))),(11,.s (.int .i64 (i+1)))]) [.own [.s (.str from_)] 9,.own [.vec 3] 29,.dead,.vec (.ad [.str,.str] out) 34] (hd Tryd.f41 2) (.mk none false 0 [] 0))))))) (.ret [.own [.s (.str from_)] 9,.own [.vec 3] 29,.dead,.vec (.ad [.str,.str] out) 34] (.bm [])):=by kernel_rfl
theorem sF{α:Type}{p:α→Bool}{l:List α}{k:Nat}{d:α}(h:k<l.length):(l.take (k+1)).filter p=(l.take k).filter p++(if p (l.getD k d)=true then [l.getD k d]else []):=by
 rw[←jx (d:=d) h,List.filter_append]
 congr 1
 cases h2:p (l.getD k d)
 ·rw[List.filter_cons_of_neg (by rw[h2];simp)];rfl
 ·rw[List.filter_cons_of_pos h2];rfl
theorem filter_le{α:Type}(p:α→Bool)(l:List α):(l.filter p).length≤l.length:=List.length_filter_le _ _
theorem aj1{Z:a8}:ke P Z 41 sL1:=by
 refine aR Tryd.func41 (by kernel_rfl) (fun x=>Nat.le_of_ble_eq_true (by kernel_rfl)) ?_
 rintro⟨(n:Int),⟨(l:Bool),(es:List En),(bs:List Br)⟩,(from_:ByteArray),(out:List En)⟩ ⟨(he:es.length≤1000),(ho:out.length≤100000000),_⟩ X hX hz
 have hm:∀y∈aj0,([tm from_,.own [.vec 2] 29,.vec (.ad cE out) Lf.eE]:List ae).length≤y.2.m:=fun y hy=>by
  simp only[aj0,List.mem_cons,List.not_mem_nil,or_false]at hy
  rcases hy with rfl|rfl<;>exact Nat.le_refl _
 have loop:∀(j k:Nat),k+j=es.length→Safe P 41 X (iV sL1 (n,(l,es,bs),from_,out)) (cL1 es from_ (out++(es.take k).filter (pr from_)) (k:Int)):=by
  intro j
  induction j with
  |zero=>
   intro k hk
   refine Ds.eH hz hX hm aH.Ok.nil Tryd.func41 (asu es from_ _ k) ⟨fun h=>absurd (of_decide_eq_true h) (by omega),fun h=> ?_⟩
   rw[List.take_of_length_le (by omega)]
   exact ch 3 rfl (Nat.le_refl _) rfl rfl
  |succ j ih=>
   intro k hk
   have e:=sF (p:=pr from_) (l:=es) (k:=k) (d:=dE) (by omega)
   have hl:=filter_le (pr from_) (es.take k)
   rw[List.length_take]at hl
   refine Ds.eH hz hX hm aH.Ok.nil Tryd.func41 (asu es from_ _ k) ⟨fun h=>⟨by omega,by omega,fun hg=>⟨?_,⟨by omega,by omega⟩, ?_⟩,fun hg=>⟨⟨by omega,by omega⟩, ?_⟩⟩,fun h=>absurd (of_decide_eq_false h) (by omega)⟩
   ·show(_+1)*32≤140737488355328
    rw[List.length_append];omega
   ·have hg:pr from_ (es.getD k dE)=true:=hg
    rw[if_pos hg]at e
    have:=ih (k+1) (by omega)
    rw[e,←List.append_assoc]at this
    exact this
   ·have hg:pr from_ (es.getD k dE)=false:=hg
    rw[if_neg (by rw[hg];simp),List.append_nil]at e
    have:=ih (k+1) (by omega)
    rw[e]at this
    exact this
 refine Ds.eH hz hX hm aH.Ok.nil Tryd.func41 (auv n l es bs from_ out) ?_
 refine pq 2 (c:=ast l es bs from_ out) rfl ?_
 refine Ds.eH hz hX hm aH.Ok.nil Tryd.func41 (auw l es bs from_ out) ?_
 have:=loop es.length 0 (by omega)
 rw[List.take_zero,List.filter_nil,List.append_nil]at this
 exact this
end Ts
namespace Ts
open Go Go.Sx Go.Proofs Lf
def vX{σ:Type}(g:Ws→σ→Int→Ws×σ×Int):List Br→Ws→σ→Ws×σ×Int
 |[],met,out=>(met,out,0)
 |b::r,met,out=>if(g met out b.2.1).2.2≠0 then g met out b.2.1 else vX g r (g met out b.2.1).1 (g met out b.2.1).2.1
def gO{σ:Type}(on:σ→Int→List En→σ)(th:Th)(m:As):Nat→Int→Ws→σ→Int→Ws×σ×Int
 |0,_,met,out,_=>(met,out,4)
 |f+1,deep,met,out,n=>
  if gU th m n deep≠0 then(met,out,gU th m n deep)
  else if Bx.nk met n=true then(met,out,4)
  else vX (gO on th m f (deep+1)) (aP th m n deep) (Bx.ej met n) (on out n (bP th m n deep))
def qH(from_:ByteArray)(out:List En)(_:Int)(es:List En):List En:=out++es.filter (pr from_)
def gP(ws:Ws):Nat:=(Bx.ajn ws).length
abbrev tT1:TypeId:=26
abbrev tOn:TypeId:=82
abbrev tVi:TypeId:=107
abbrev eSt:TypeId:=47
abbrev eLE:TypeId:=29
def mL1:List AV→RM ((Int×(Bool×List En×List Br)×ByteArray×List En)×List Nat)
 |[n,x,.ptr a 0,.ptr b 0]=>match n.dd,aqc x with
  |some (_,_,n),some nd=>.look a fun o=>match o with
   |some (.own [.s (.str from_)] _)=>.look b fun o=>match o with
    |some (.own [.vec r] _)=>.look r fun o=>match o with
     |some (.vec (.ad [.str,.str] out) _)=>.ret ((n,nd,from_,out),[a,b,r])
     |_=>.fail "no row"
    |_=>.fail "no row's box"
   |_=>.fail "no text"
  |_,_=>.fail "no node"
 |_=>.fail "List$1"
def mG1:List AV→RM ((Int×(Bool×List En×List Br)×Ws)×List Nat)
 |[n,x,.ptr a 0]=>match n.dd,aqc x with
  |some (_,_,n),some nd=>.look a fun o=>match o with
   |some (.own [.ints .u64 16 out] _)=>.ret ((n,nd,out),[a])
   |_=>.fail "no set"
  |_,_=>.fail "no node"
 |_=>.fail "Pages$1"
def amK(th:Th)(m:As)(f:Nat)(deep:Int)(met:Ws)(from_:ByteArray)(out:List En)(n:Int):Ws:=(gO (qH from_) th m f deep met out n).1
def amL(th:Th)(m:As)(f:Nat)(deep:Int)(met:Ws)(from_:ByteArray)(out:List En)(n:Int):List En:=(gO (qH from_) th m f deep met out n).2.1
def amM(th:Th)(m:As)(f:Nat)(deep:Int)(met:Ws)(from_:ByteArray)(out:List En)(n:Int):Int:=(gO (qH from_) th m f deep met out n).2.2
abbrev XVL:Type:=XT×Int×Int×Ws×ByteArray×List En
abbrev hVL(th:Th)(m:As)(fu root:Int)(fr fs gn met:Ws):List ae:=hT th m fu root fr fs gn++[.own [.ptr 0 0] tT1,.own [.ints .u64 16 met] eSt,.own [.fn fL1 [.ptr 8 0,.ptr 9 0]] tOn,.own [.fn fW1 [.ptr 4 0,.ptr 5 0,.ptr 6 0,.ptr 7 0]] tVi]
abbrev ab1(f:Nat):Spec XVL:=⟨fun(_,n,deep,_)=>[bQ n,bQ deep,.ptr 4 0,.ptr 5 0,.ptr 6 0,.ptr 7 0],fun((th,m,fu,root,fr,fs,gn),_,_,met,from_,out)=>hVL th m fu root fr fs gn met++[tm from_,.own [.vec 10] eLE,.vec (.ad cE out) Lf.eE],
 fun((th,m,fu,_),n,deep,met,_,out)=>[Ds.bR th m fu,0≤n∧n≤65536,1≤deep∧deep≤17,18≤deep+(f:Int),Bx.okW met,List.length (α:=En) out≤126*gP met],
 fun((th,m,fu,root,fr,fs,gn),n,deep,met,from_,out)=>hVL th m fu root fr fs gn (amK th m f deep met from_ out n)++[tm from_,.own [.vec 11] eLE,.dead,.vec (.ad cE (amL th m f deep met from_ out n)) Lf.eE],
 fun((th,m,_),n,deep,met,from_,out)=>bQ (amM th m f deep met from_ out n)⟩
def amN:List AV→RM (XVL×List Nat)
 |[n,d,.ptr a 0,.ptr b 0,.ptr c 0,.ptr v 0]=>match n.dd,d.dd with
  |some (_,_,n),some (_,_,d)=>.look a fun o=>match o with
   |some (.own [.ptr t 0] _)=>(mT [.ptr t 0]).bind fun(X,σ)=>.look b fun o=>match o with
    |some (.own [.ints .u64 16 met] _)=>.look c fun o=>match o with
     |some (.own [.fn _ [.ptr p 0,.ptr q 0]] _)=>.look p fun o=>match o with
      |some (.own [.s (.str from_)] _)=>.look q fun o=>match o with
       |some (.own [.vec r] _)=>.look r fun o=>match o with
        |some (.vec (.ad [.str,.str] out) _)=>.ret ((X,n,d,met,from_,out),σ++[a,b,c,v,p,q,r])
        |_=>.fail "visit: no row"
       |_=>.fail "visit: no row's box"
      |_=>.fail "visit: no text"
     |_=>.fail "visit: no on"
    |_=>.fail "visit: no set"
   |_=>.fail "visit: no tree"
  |_,_=>.fail "visit: no numbers"
 |_=>.fail "visit: arguments"
def zS(f:Nat):aH:=[(37,abG),(35,ap6),(43,ajp),(fL1,dJ sL1 mL1),(fW1,dJ (ab1 f) amN)]
def afm:List (Nat×Norm):=[(9,⟨[],[1,5,35,36,37],11,[]⟩)]
noncomputable def asv(th:Th)(m:As)(fu root:Int)(fr fs gn met:Ws)(from_:ByteArray)(out:List En)(bs:List Br)(deep i:Int):bx:=⟨sl 51 [(1,bQ deep),(5,.ptr 7 0),(35,.s (.ro (.ad cB bs))),(36,bQ (bs.length:Int)),(37,bQ i)],hVL th m fu root fr fs gn met++[tm from_,.own [.vec 11] eLE,.dead,.vec (.ad cE out) Lf.eE],hd Tryd.f62 9,{}⟩
theorem asw(f:Nat)(th:Th)(m:As)(fu root:Int)(fr fs gn met:Ws)(from_:ByteArray)(out:List En)(n deep:Int):run P (zS f).sum Tryd.f62 afm (start Tryd.f62 [bQ n,bQ deep,.ptr 4 0,.ptr 5 0,.ptr 6 0,.ptr 7 0] (hVL th m fu root fr fs gn met++[tm from_,.own [.vec 11] eLE,.dead,.vec (.ad cE out) Lf.eE]))=
 Tree.need (bK (some [AV.ptr 0 0,.s (.int .i64 n),.s (.int .i64 deep)]))
 (.need (bK (some [ae.own [.ptr 1 0,.s (.int .i64 root),.ints .u64 16 fr,.ints .u64 16 fs,.ints .u64 16 gn] 70,.own [.vec 2,.ag 3,.s (.int .i64 fu)] 96,.vec (.ad [.arr .u8 64] th) 138,.map (.arr .u8 64) m]))
   (.need (Ds.bR th m fu)
     (.need (ax n)
       (.ite (gU th m n deep !=0) (.ret [.own [.ptr 1 0,.s (.int .i64 root),.ints .u64 16 fr,.ints .u64 16 fs,.ints .u64 16 gn] 70,.own [.vec 2,.ag 3,.s (.int .i64 fu)] 96,.vec (.ad [.arr .u8 64] th) 138,.map (.arr .u8 64) m,.own [.ptr 0 0] 26,.own [.ints .u64 16 met] 47,.own [.fn 41 [.ptr 8 0,.ptr 9 0]] 82,.own [.fn 62 [.ptr 4 0,.ptr 5 0,.ptr 6 0,.ptr 7 0]] 107,.own [.s (.str from_)] 9,.own [.vec 11] 29,.dead,.vec (.ad [.str,.str] out) 34,.own [.s (.bool (kJ th m n deep)),.s (.ro (.ad [.str,.str] (bP th m n deep))),.s (.ro (.ad [.str,.int .i64] (aP th m n deep)))] 73] (.s (.int .i64 (gU th m n deep))))
         (.ite (Bx.nk met n) (.ret [.own [.ptr 1 0,.s (.int .i64 root),.ints .u64 16 fr,.ints .u64 16 fs,.ints .u64 16 gn] 70,.own [.vec 2,.ag 3,.s (.int .i64 fu)] 96,.vec (.ad [.arr .u8 64] th) 138,.map (.arr .u8 64) m,.own [.ptr 0 0] 26,.own [.ints .u64 16 met] 47,.own [.fn 41 [.ptr 8 0,.ptr 9 0]] 82,.own [.fn 62 [.ptr 4 0,.ptr 5 0,.ptr 6 0,.ptr 7 0]] 107,.own [.s (.str from_)] 9,.own [.vec 11] 29,.dead,.vec (.ad [.str,.str] out) 34,.own [.s (.bool (kJ th m n deep)),.s (.ro (.ad [.str,.str] (bP th m n deep))),.s (.ro (.ad [.str,.int .i64] (aP th m n deep)))] 73] (.s (.bc .i64 4))) (.need (bK (some [AV.s (.int .i64 n),.agg [.s (.bool (kJ th m n deep)),.s (.ro (.ad [.str,.str] (bP th m n deep))),.s (.ro (.ad [.str,.int .i64] (aP th m n deep)))],.ptr 0 0,.ptr 1 0])) (.need (bK (some [ae.own [.s (.str from_)] 9,.own [.vec 2] 29,.vec (.ad [.str,.str] out) 34])) (.need ((bP th m n deep).length≤1000) (.need (out.length≤100000000) (.at (.mk (sl 51 [(1,.s (.int .i64 deep)),(5,.ptr 7 0),(35,.s (.ro (.ad [.str,.int .i64] (aP th m n deep)))),(36,.s (.int .i64 (↑(aP th m n deep).length:Int))),(37,.s (.int .i64 0))]) [.own [.ptr 1 0,.s (.int .i64 root),.ints .u64 16 fr,.ints .u64 16 fs,.ints .u64 16 gn] 70,.own [.vec 2,.ag 3,.s (.int .i64 fu)] 96,.vec (.ad [.arr .u8 64] th) 138,.map (.arr .u8 64) m,.own [.ptr 0 0] 26,.own [.ints .u64 16 (Bx.ej met n)] 47,.own [.fn 41 [.ptr 8 0,.ptr 9 0]] 82,.own [.fn 62 [.ptr 4 0,.ptr 5 0,.ptr 6 0,.ptr 7 0]] 107,.own [.s (.str from_)] 9,.own [.vec 11] 29,.dead,.vec (.ad [.str,.str] (out++List.filter (pr from_) (bP th m n deep))) 34] (hd Tryd.f62 9) (.mk none false 0 [] 0)))))))))))):=by kernel_rfl
theorem aou(f:Nat)(th:Th)(m:As)(fu root:Int)(fr fs gn met:Ws)(from_:ByteArray)(out:List En)(bs:List Br)(deep i:Int):run P (zS f).sum Tryd.f62 afm (asv th m fu root fr fs gn met from_ out bs deep i)=
 Tree.ite (decide (i<(↑bs.length:Int)))
 (.need ((0:Int)≤i)
   (.need (i<(↑bs.length:Int))
     (.need (ax (deep+1))
       (.need (bK (some [AV.s (.int .i64 (bs.getD i.toNat (CL.d [.str,.int .i64])).snd.fst),.s (.int .i64 (deep+1)),.ptr 4 0,.ptr 5 0,.ptr 6 0,.ptr 7 0]))
         (.need (bK (some [ae.own [.ptr 1 0,.s (.int .i64 root),.ints .u64 16 fr,.ints .u64 16 fs,.ints .u64 16 gn] 70,.own [.vec 2,.ag 3,.s (.int .i64 fu)] 96,.vec (.ad [.arr .u8 64] th) 138,.map (.arr .u8 64) m,.own [.ptr 0 0] 26,.own [.ints .u64 16 met] 47,.own [.fn 41 [.ptr 8 0,.ptr 9 0]] 82,.own [.fn 62 [.ptr 4 0,.ptr 5 0,.ptr 6 0,.ptr 7 0]] 107,.own [.s (.str from_)] 9,.own [.vec 10] 29,.vec (.ad [.str,.str] out) 34]))
           (.need (Ds.bR th m fu) (.need ((0:Int)≤(bs.getD i.toNat (CL.d [.str,.int .i64])).snd.fst∧(bs.getD i.toNat (CL.d [.str,.int .i64])).snd.fst≤65536) (.need ((1:Int)≤deep+1∧deep+1≤17) (.need ((18:Int)≤deep+1+(↑f:Int)) (.need (Bx.okW met) (.need (out.length≤(126:Nat)*gP met) (.ite (amM th m f (deep+1) met from_ out (bs.getD i.toNat (CL.d [.str,.int .i64])).snd.fst !=0) (.ret [.own [.ptr 1 0,.s (.int .i64 root),.ints .u64 16 fr,.ints .u64 16 fs,.ints .u64 16 gn] 70,.own [.vec 2,.ag 3,.s (.int .i64 fu)] 96,.vec (.ad [.arr .u8 64] th) 138,.map (.arr .u8 64) m,.own [.ptr 0 0] 26,.own [.ints .u64 16 (amK th m f (deep+1) met from_ out (bs.getD i.toNat (CL.d [.str,.int .i64])).snd.fst)] 47,.own [.fn 41 [.ptr 8 0,.ptr 9 0]] 82,.own [.fn 62 [.ptr 4 0,.ptr 5 0,.ptr 6 0,.ptr 7 0]] 107,.own [.s (.str from_)] 9,.own [.vec 13] 29,.dead,.dead,.own [.s (.str (bs.getD i.toNat (CL.d [.str,.int .i64])).fst),.s (.int .i64 (bs.getD i.toNat (CL.d [.str,.int .i64])).snd.fst)] 79,.vec (.ad [.str,.str] (amL th m f (deep+1) met from_ out (bs.getD i.toNat (CL.d [.str,.int .i64])).snd.fst)) 34] (.s (.int .i64 (amM th m f (deep+1) met from_ out (bs.getD i.toNat (CL.d [.str,.int .i64])).snd.fst)))) (.need (ax (i+1)) (.at (.mk (sl 51 [(1,.s (.int .i64 deep)),(5,.ptr 7 0),(35,.s (.ro (.ad [.str,.int .i64] bs))),(36,.s (.int .i64 (↑bs.length:Int))),(37,.s (.int .i64 (i+1)))]) [.own [.ptr 1 0,.s (.int .i64 root),.ints .u64 16 fr,.ints .u64 16 fs,.ints .u64 16 gn] 70,.own [.vec 2,.ag 3,.s (.int .i64 fu)] 96,.vec (.ad [.arr .u8 64] th) 138,.map (.arr .u8 64) m,.own [.ptr 0 0] 26,.own [.ints .u64 16 (amK th m f (deep+1) met from_ out (bs.getD i.toNat (CL.d [.str,.int .i64])).snd.fst)] 47,.own [.fn 41 [.ptr 8 0,.ptr 9 0]] 82,.own [.fn 62 [.ptr 4 0,.ptr 5 0,.ptr 6 0,.ptr 7 0]] 107,.own [.s (.str from_)] 9,.own [.vec 11] 29,.dead,.vec (.ad [.str,.str] (amL th m f (deep+1) met from_ out (bs.getD i.toNat (CL.d [.str,.int .i64])).snd.fst)) 34] (hd Tryd.f62 9) (.mk none false 0 [] 0))))))))))))))))
 (.ret [.own [.ptr 1 0,.s (.int .i64 root),.ints .u64 16 fr,.ints .u64 16 fs,.ints .u64 16 gn] 70,.own [.vec 2,.ag 3,.s (.int .i64 fu)] 96,.vec (.ad [.arr .u8 64] th) 138,.map (.arr .u8 64) m,.own [.ptr 0 0] 26,.own [.ints .u64 16 met] 47,.own [.fn 41 [.ptr 8 0,.ptr 9 0]] 82,.own [.fn 62 [.ptr 4 0,.ptr 5 0,.ptr 6 0,.ptr 7 0]] 107,.own [.s (.str from_)] 9,.own [.vec 11] 29,.dead,.vec (.ad [.str,.str] out) 34] (.s (.bc .i64 0))):=by kernel_rfl
theorem aj2{ws:Ws}(hw:Bx.okW ws){n:Int}(hn:0≤n∧n<1024)(h:Bx.nk ws n=false):gP (Bx.ej ws n)=gP ws+1:=by
 have hb:Bx.bit ws n.toNat=false:=by
  rw[Bx.ae9 hw,decide_eq_true hn,Bool.true_and]at h;exact h
 obtain⟨_,h2⟩:=Bx.jU hw n
 unfold gP Bx.ajn
 have key:∀m,m≤1024→(Bx.fr (Bx.bit (Bx.ej ws n)) m).length=(Bx.fr (Bx.bit ws) m).length+(if n.toNat<m then 1 else 0):=by
  intro m
  induction m with
  |zero=>intro _;rfl
  |succ m ih=>
   intro hm
   rw[Bx.qq,Bx.qq,List.length_append,List.length_append,ih (by omega),h2 m (by omega)]
   have hd:decide (n=(m:Int))=decide (n.toNat=m):=by
    by_cases e:n.toNat=m
    ·rw[decide_eq_true e,decide_eq_true (by omega)]
    ·rw[decide_eq_false e,decide_eq_false (by omega)]
   rw[hd]
   by_cases e:n.toNat=m
   ·subst e
    have c1:¬n.toNat<n.toNat:=by omega
    have c2:n.toNat<n.toNat+1:=by omega
    rw[hb,decide_eq_true rfl,if_neg c1,if_pos c2]
    rfl
   ·rw[decide_eq_false e,Bool.or_false]
    by_cases e2:n.toNat<m
    ·have c2:n.toNat<m+1:=by omega
     rw[if_pos e2,if_pos c2];omega
    ·have c2:¬n.toNat<m+1:=by omega
     rw[if_neg e2,if_neg c2];omega
 have:=key 1024 (Nat.le_refl _)
 have c:n.toNat<1024:=by omega
 rw[this,if_pos c]
theorem aqt(ws:Ws):gP ws≤1024:=Bx.agQ _ _
theorem aj3{th:Th}{m:As}{fu n deep:Int}(hd:Ds.bR th m fu)(h:gU th m n deep=0):0≤n∧n<1024:=by
 have hp:Ds.uS th n=true:=by
  unfold gU at h
  split at h
  ·cases h
  ·split at h
   ·rename_i hg
    unfold Ds.je at hg
    split at hg
    ·assumption
    ·cases hg
   ·rename_i hg;exact absurd h hg
 obtain⟨a,b⟩:=Ds.fO.1 hp
 have:=hd.1.1
 unfold Ds.wg at b
 have e:((th.length:Int)).tdiv 4=(th.length:Int) / 4:=Int.tdiv_eq_ediv_of_nonneg (by omega)
 rw[e]at b
 omega
theorem ab2{σ:Type}{g:Ws→σ→Int→Ws×σ×Int}{I:Ws→σ→Prop}(hg:∀met out n,I met out→I (g met out n).1 (g met out n).2.1):∀(l:List Br) (met:Ws) (out:σ),I met out→I (vX g l met out).1 (vX g l met out).2.1
 |[],met,out,h=>h
 |b::r,met,out,h=>by
  rw[vX]
  split
  ·exact hg _ _ _ h
  ·exact ab2 hg r _ _ (hg _ _ _ h)
theorem afn(from_:ByteArray){th:Th}{m:As}{fu n deep:Int}{met:Ws}{out:List En}(hd:Ds.bR th m fu)(h:gU th m n deep=0)(hw:Bx.okW met)(h3:Bx.nk met n=false)(ho:List.length (α:=En) out≤126*gP met):
 Bx.okW (Bx.ej met n)∧List.length (α:=En) (qH from_ out n (bP th m n deep))≤126*gP (Bx.ej met n):=by
 refine⟨(Bx.jU hw n).1, ?_⟩
 rw[aj2 hw (aj3 hd h) h3]
 unfold qH
 rw[List.length_append]
 have:=filter_le (pr from_) (bP th m n deep)
 obtain⟨_,n1,_⟩:=fl h
 omega
theorem afo(from_:ByteArray){th:Th}{m:As}{fu:Int}(hd:Ds.bR th m fu):∀(f:Nat) (deep:Int) (met:Ws) (out:List En) (n:Int),Bx.okW met→List.length (α:=En) out≤126*gP met→
 Bx.okW (gO (qH from_) th m f deep met out n).1∧List.length (α:=En) (gO (qH from_) th m f deep met out n).2.1≤126*gP (gO (qH from_) th m f deep met out n).1
 |0,deep,met,out,n,hw,ho=>⟨hw,ho⟩
 |f+1,deep,met,out,n,hw,ho=>by
  rw[gO]
  split
  ·exact⟨hw,ho⟩
  ·rename_i h
   split
   ·exact⟨hw,ho⟩
   ·rename_i h3
    have h3:Bx.nk met n=false:=by simpa using h3
    exact ab2 (I:=fun met out=>Bx.okW met∧List.length (α:=En) out≤126*gP met) (fun met out n hi=>afo from_ hd f (deep+1) met out n hi.1 hi.2) _ _ _ (afn from_ hd (by simpa using h) hw h3 ho)
theorem fvL{th:Th}{m:As}{fu root:Int}{fr fs gn met:Ws}{from_:ByteArray}{out:List En}{n deep:Int}{f:Nat}{c:Ws×List En×Int}(e:gO (qH from_) th m f deep met out n=c):
 (ab1 f).fi ((th,m,fu,root,fr,fs,gn),n,deep,met,from_,out)=hVL th m fu root fr fs gn c.1++[tm from_,.own [.vec 11] eLE,.dead,.vec (.ad cE c.2.1) Lf.eE]∧(ab1 f).out ((th,m,fu,root,fr,fs,gn),n,deep,met,from_,out)=bQ c.2.2:=by
 subst e;exact⟨rfl,rfl⟩
theorem ag3{f:Nat}(h:ke P Bx.cn fW1 (ab1 f)):(zS f).Ok P Bx.cn:=aH.Ok.cons (qs.sum mNo) (aH.Ok.cons Bx.adz.sum (aH.Ok.cons Bx.zF.sum (aH.Ok.cons (aj1.sum mL1) (aH.Ok.cons (h.sum amN) aH.Ok.nil))))
theorem aj4{L:List ae}(h:L.length=11):∀y∈afm,L.length≤y.2.m:=fun y hy=>by
 simp only[afm,List.mem_singleton]at hy;subst hy;exact Nat.le_of_eq h
theorem aov{f:Nat}(T:(zS f).Ok P Bx.cn){th:Th}{m:As}{fu root:Int}{fr fs gn:Ws}{n deep:Int}{pt:Ws}{from_:ByteArray}{rP:List En}(hd:Ds.bR th m fu)(h1:1≤deep∧deep≤17)(h2:18≤deep+((f+1:Nat):Int))
 {X:Ctx} (hX:X.H=lk ((ab1 (f+1)).heap ((th,m,fu,root,fr,fs,gn),n,deep,pt,from_,rP))) (hz:dP Bx.cn X) (h:gU th m n deep=0):
 ∀(j k:Nat) (met:Ws) (out:List En),k+j=(aP th m n deep).length→Bx.okW met→List.length (α:=En) out≤126*gP met→gO (qH from_) th m (f+1) deep pt rP n=vX (gO (qH from_) th m f (deep+1)) ((aP th m n deep).drop k) met out→
    Safe P fW1 X (iV (ab1 (f+1)) ((th,m,fu,root,fr,fs,gn),n,deep,pt,from_,rP)) (asv th m fu root fr fs gn met from_ out (aP th m n deep) deep (k:Int))
 |0,k,met,out,hk,hw,ho,e=>by
  rw[List.drop_of_length_le (by omega)]at e
  obtain⟨f1,f2⟩:=fvL (fu:=fu) (root:=root) (fr:=fr) (fs:=fs) (gn:=gn) e
  exact Ds.eH hz hX (aj4 rfl) T Tryd.func62 (aou f th m fu root fr fs gn met from_ out (aP th m n deep) deep k) ⟨fun h=>absurd (of_decide_eq_true h) (by omega),fun _=>ch 11 rfl (Nat.le_refl _) f2 f1⟩
 |j+1,k,met,out,hk,hw,ho,e=>by
  obtain⟨_,_,n2,_,_,n5,_⟩:=fl h
  rw[drop_cons dB (by omega),vX]at e
  have pg:=vO h k
  obtain⟨i1,i2⟩:=afo from_ hd f (deep+1) met out ((aP th m n deep).getD k dB).2.1 hw ho
  refine Ds.eH hz hX (aj4 rfl) T Tryd.func62 (aou f th m fu root fr fs gn met from_ out (aP th m n deep) deep k) ⟨fun _=>⟨by omega,by omega,inI (by omega) (by omega),rfl,rfl,hd,pg,⟨by omega,by omega⟩,by omega,hw,ho,fun h4=> ?_,fun h4=>⟨⟨by omega,by omega⟩, ?_⟩⟩,fun h=>absurd (of_decide_eq_false h) (by omega)⟩
  ·have h4:(gO (qH from_) th m f (deep+1) met out ((aP th m n deep).getD k dB).2.1).2.2≠0:=bne_iff_ne.1 h4
   rw[if_pos h4]at e
   obtain⟨f1,f2⟩:=fvL (fu:=fu) (root:=root) (fr:=fr) (fs:=fs) (gn:=gn) e
   exact ch 11 rfl (Nat.le_refl _) f2 f1
  ·have h4:¬(gO (qH from_) th m f (deep+1) met out ((aP th m n deep).getD k dB).2.1).2.2≠0:=fun hh=>Bool.false_ne_true (h4.symm.trans (bne_iff_ne.2 hh))
   rw[if_neg h4]at e
   exact aov T hd h1 h2 hX hz h j (k+1) _ _ (by omega) i1 i2 e
theorem yf:∀f,ke P Bx.cn fW1 (ab1 f)
 |0=>by
  rintro⟨⟨(th:Th),(m:As),(fu:Int),(root:Int),(fr:Ws),(fs:Ws),(gn:Ws)⟩,(n:Int),(deep:Int),(met:Ws),(from_:ByteArray),(out:List En)⟩ ⟨_,_,(h1:1≤deep∧deep≤17),(h2:18≤deep+((0:Nat):Int)),_⟩
  omega
 |f+1=>by
  have T:=ag3 (yf f)
  refine aR Tryd.func62 (by kernel_rfl) (fun x=>Nat.le_of_ble_eq_true (by kernel_rfl)) ?_
  rintro⟨⟨(th:Th),(m:As),(fu:Int),(root:Int),(fr:Ws),(fs:Ws),(gn:Ws)⟩,(n:Int),(deep:Int),(pt:Ws),(from_:ByteArray),(rP:List En)⟩ ⟨(hd:Ds.bR th m fu),(hn:0≤n∧n≤65536),(h1:1≤deep∧deep≤17),(h2:18≤deep+((f+1:Nat):Int)),(hw:Bx.okW pt),(ho:List.length (α:=En) rP≤126*gP pt),_⟩ X hX hz
  refine pq 10 (c:=start Tryd.f62 [bQ n,bQ deep,.ptr 4 0,.ptr 5 0,.ptr 6 0,.ptr 7 0] (hVL th m fu root fr fs gn pt++[tm from_,.own [.vec 11] eLE,.dead,.vec (.ad cE rP) Lf.eE])) rfl ?_
  refine Ds.eH hz hX (aj4 rfl) T Tryd.func62 (asw f th m fu root fr fs gn pt from_ rP n deep) ⟨rfl,rfl,hd,inI (by omega) (by omega),fun h=> ?_,fun h=>⟨fun h3=> ?_,fun h3=> ?_⟩⟩
  ·have h:gU th m n deep≠0:=by simpa using h
   obtain⟨f1,f2⟩:=fvL (fu:=fu) (root:=root) (fr:=fr) (fs:=fs) (gn:=gn) (show gO (qH from_) th m (f+1) deep pt rP n=(pt,rP,gU th m n deep)by rw[gO,if_pos h])
   exact ch 11 rfl (Nat.le_refl _) f2 f1
  ·have h:gU th m n deep=0:=by simpa using h
   obtain⟨f1,f2⟩:=fvL (fu:=fu) (root:=root) (fr:=fr) (fs:=fs) (gn:=gn) (show gO (qH from_) th m (f+1) deep pt rP n=(pt,rP,4)by rw[gO,if_neg (by rw[h];simp),if_pos h3])
   exact ch 11 rfl (Nat.le_refl _) f2 f1
  ·have h:gU th m n deep=0:=by simpa using h
   obtain⟨_,n1,n2,_,_,_,_⟩:=fl h
   have e:gO (qH from_) th m (f+1) deep pt rP n=vX (gO (qH from_) th m f (deep+1)) (aP th m n deep) (Bx.ej pt n) ((qH from_) rP n (bP th m n deep)):=by rw[gO,if_neg (by rw[h];simp),if_neg (by rw[h3];simp)]
   obtain⟨i1,i2⟩:=afn from_ hd h hw h3 ho
   exact⟨rfl,rfl,by omega,by have:=aqt pt;omega,aov T hd h1 h2 hX hz h _ 0 _ _ (Nat.zero_add _) i1 i2 (by rw[List.drop_zero];exact e)⟩
end Ts
namespace Ts
open Go Go.Sx Go.Proofs Lf
def wkT{σ:Type}(on:σ→Int→List En→σ)(th:Th)(m:As)(root:Int)(out:σ):σ×Int:=if root=0 then(out,0)else((gO on th m 17 1 Bx.bg out root).2.1,(gO on th m 17 1 Bx.bg out root).2.2)
def lsT(th:Th)(m:As)(root:Int)(from_:ByteArray):List En:=(wkT (qH from_) th m root []).1
def lsE(th:Th)(m:As)(root:Int)(from_:ByteArray):Int:=(wkT (qH from_) th m root []).2
def lsF(th:Th)(m:As)(root:Int)(from_:ByteArray):List En:=if lsE th m root from_≠0 then []else lsT th m root from_
abbrev amO:Spec XD:=⟨fun _=>[.ptr 0 0,.fn fL1 [.ptr 4 0,.ptr 5 0]],fun((th,m,fu,root,fr,fs,gn),from_)=>hT th m fu root fr fs gn++[tm from_,.own [.vec 6] eLE,.vec (.ad cE []) Lf.eE],
 fun((th,m,fu,root,_),_)=>[Ds.bR th m fu,0≤root∧root≤65536],fun((th,m,fu,root,fr,fs,gn),from_)=>hT th m fu root fr fs gn++[tm from_,.own [.vec 7] eLE,.dead,.vec (.ad cE (lsT th m root from_)) Lf.eE],fun((th,m,_,root,_),from_)=>bQ (lsE th m root from_)⟩
def aqu:aH:=[(fW1,dJ (ab1 17) amN)]
theorem asx(th:Th)(m:As)(fu root:Int)(fr fs gn:Ws)(from_:ByteArray):run P aqu.sum Tryd.f40 [] (start Tryd.f40 [.ptr 0 0,.fn fL1 [.ptr 4 0,.ptr 5 0]] (hT th m fu root fr fs gn++[tm from_,.own [.vec 7] eLE,.dead,.vec (.ad cE []) Lf.eE]))=
 Tree.ite (root==0) (.ret [.own [.ptr 1 0,.s (.int .i64 root),.ints .u64 16 fr,.ints .u64 16 fs,.ints .u64 16 gn] 70,.own [.vec 2,.ag 3,.s (.int .i64 fu)] 96,.vec (.ad [.arr .u8 64] th) 138,.map (.arr .u8 64) m,.own [.s (.str from_)] 9,.own [.vec 7] 29,.dead,.vec (.ad [.str,.str] []) 34,.own [.ptr 0 0] 26,.own [.fn 41 [.ptr 4 0,.ptr 5 0]] 82,.own [.ints .u64 16 (List.replicate 16 0)] 47,.own [.fn 62 [.ptr 8 0,.ptr 10 0,.ptr 9 0,.ptr 11 0]] 107] (.s (.bc .i64 0))) (.need (bK (some [AV.s (.int .i64 root),.s (.int .i64 1),.ptr 4 0,.ptr 5 0,.ptr 6 0,.ptr 7 0])) (.need (bK (some [ae.own [.ptr 1 0,.s (.int .i64 root),.ints .u64 16 fr,.ints .u64 16 fs,.ints .u64 16 gn] 70,.own [.vec 2,.ag 3,.s (.int .i64 fu)] 96,.vec (.ad [.arr .u8 64] th) 138,.map (.arr .u8 64) m,.own [.ptr 0 0] 26,.own [.ints .u64 16 (List.replicate 16 0)] 47,.own [.fn 41 [.ptr 8 0,.ptr 9 0]] 82,.own [.fn 62 [.ptr 4 0,.ptr 5 0,.ptr 6 0,.ptr 7 0]] 107,.own [.s (.str from_)] 9,.own [.vec 10] 29,.vec (.ad [.str,.str] []) 34])) (.need (Ds.bR th m fu) (.need ((0:Int)≤root∧root≤65536) (.need ((1:Int)≤1∧(1:Int)≤17) (.need ((18:Int)≤1+(↑(17:Nat):Int)) (.need (Bx.okW (List.replicate 16 0)) (.need ((0:Nat)≤(126:Nat)*0) (.ret [.own [.ptr 1 0,.s (.int .i64 root),.ints .u64 16 fr,.ints .u64 16 fs,.ints .u64 16 gn] 70,.own [.vec 2,.ag 3,.s (.int .i64 fu)] 96,.vec (.ad [.arr .u8 64] th) 138,.map (.arr .u8 64) m,.own [.s (.str from_)] 9,.own [.vec 12] 29,.dead,.dead,.own [.ptr 0 0] 26,.own [.fn 41 [.ptr 4 0,.ptr 5 0]] 82,.own [.ints .u64 16 (amK th m 17 1 (List.replicate 16 0) from_ [] root)] 47,.own [.fn 62 [.ptr 8 0,.ptr 10 0,.ptr 9 0,.ptr 11 0]] 107,.vec (.ad [.str,.str] (amL th m 17 1 (List.replicate 16 0) from_ [] root)) 34] (.s (.int .i64 (amM th m 17 1 (List.replicate 16 0) from_ [] root)))))))))))):=by kernel_rfl
abbrev sLs:Spec XD:=⟨fun(_,from_)=>[.ptr 0 0,.s (.str from_)],fun((th,m,fu,root,fr,fs,gn),_)=>hT th m fu root fr fs gn,fun((th,m,fu,root,_),_)=>[Ds.bR th m fu,0≤root∧root≤65536],
 fun((th,m,fu,root,fr,fs,gn),from_)=>hT th m fu root fr fs gn++[.vec (.ad cE (lsF th m root from_)) Lf.eE],fun((th,m,_,root,_),from_)=>.bm [.vec 4,bQ (lsE th m root from_)]⟩
def asy:List AV→RM (XD×List Nat)
 |[t,.fn _ [.ptr p 0,.ptr q 0]]=>(mT [t]).bind fun(X,σ)=>.look p fun o=>match o with
  |some (.own [.s (.str from_)] _)=>.look q fun o=>match o with
   |some (.own [.vec r] _)=>.ret ((X,from_),σ++[p,q,r])
   |_=>.fail "no row"
  |_=>.fail "no text"
 |_=>.fail "walk"
def aj5:aH:=[(40,dJ amO asy)]
def amP:List (Nat×Norm):=[(4,⟨[],[0,3,6],4,[(5,0,false,.ad cE [],Lf.eE)]⟩)]
noncomputable def cLs(th:Th)(m:As)(fu root:Int)(fr fs gn:Ws)(from_:ByteArray):bx:=⟨sl 17 [(0,.ptr 0 0),(3,.ptr 4 0),(6,.ptr 5 0)],hT th m fu root fr fs gn++[tm from_,.own [.vec 6] eLE,.vec (.ad cE []) Lf.eE],hr Tryd.f12 4,{}⟩
theorem auy(th:Th)(m:As)(fu root:Int)(fr fs gn:Ws)(from_:ByteArray):run P aj5.sum Tryd.f12 amP (start Tryd.f12 [.ptr 0 0,.s (.str from_)] (hT th m fu root fr fs gn))=
 Tree.at (.mk (sl 17 [(0,.ptr 0 0),(3,.ptr 4 0),(6,.ptr 5 0)]) [.own [.ptr 1 0,.s (.int .i64 root),.ints .u64 16 fr,.ints .u64 16 fs,.ints .u64 16 gn] 70,.own [.vec 2,.ag 3,.s (.int .i64 fu)] 96,.vec (.ad [.arr .u8 64] th) 138,.map (.arr .u8 64) m,.own [.s (.str from_)] 9,.own [.vec 6] 29,.vec (.ad [.str,.str] []) 34] (hr Tryd.f12 4) (.mk none false 0 [] 0)):=by kernel_rfl
theorem auz(th:Th)(m:As)(fu root:Int)(fr fs gn:Ws)(from_:ByteArray):run P aj5.sum Tryd.f12 amP (cLs th m fu root fr fs gn from_)=
 Tree.need (bK (some [AV.ptr 0 0,.fn 41 [.ptr 4 0,.ptr 5 0]])) (.need (bK (some [ae.own [.ptr 1 0,.s (.int .i64 root),.ints .u64 16 fr,.ints .u64 16 fs,.ints .u64 16 gn] 70,.own [.vec 2,.ag 3,.s (.int .i64 fu)] 96,.vec (.ad [.arr .u8 64] th) 138,.map (.arr .u8 64) m,.own [.s (.str from_)] 9,.own [.vec 6] 29,.vec (.ad [.str,.str] []) 34])) (.need (Ds.bR th m fu) (.need ((0:Int)≤root∧root≤65536) (.ite (lsE th m root from_ !=0) (.ret [.own [.ptr 1 0,.s (.int .i64 root),.ints .u64 16 fr,.ints .u64 16 fs,.ints .u64 16 gn] 70,.own [.vec 2,.ag 3,.s (.int .i64 fu)] 96,.vec (.ad [.arr .u8 64] th) 138,.map (.arr .u8 64) m,.own [.s (.str from_)] 9,.own [.vec 7] 29,.dead,.vec (.ad [.str,.str] (lsT th m root from_)) 34] (.bm [.emp,.s (.int .i64 (lsE th m root from_))])) (.ret [.own [.ptr 1 0,.s (.int .i64 root),.ints .u64 16 fr,.ints .u64 16 fs,.ints .u64 16 gn] 70,.own [.vec 2,.ag 3,.s (.int .i64 fu)] 96,.vec (.ad [.arr .u8 64] th) 138,.map (.arr .u8 64) m,.own [.s (.str from_)] 9,.own [.vec 7] 29,.dead,.vec (.ad [.str,.str] (lsT th m root from_)) 34] (.bm [.vec 7,.s (.bc .i64 0)])))))):=by kernel_rfl
theorem aj6{th:Th}{m:As}{fu root:Int}{fr fs gn:Ws}{from_:ByteArray}{c:List En×Int}(e:c=wkT (qH from_) th m root []):
 amO.fi ((th,m,fu,root,fr,fs,gn),from_)=hT th m fu root fr fs gn++[tm from_,.own [.vec 7] eLE,.dead,.vec (.ad cE c.1) Lf.eE]∧amO.out ((th,m,fu,root,fr,fs,gn),from_)=bQ c.2:=by
 subst e;exact⟨rfl,rfl⟩
theorem aj7:ke P Bx.cn 40 amO:=by
 refine aR Tryd.func40 (by kernel_rfl) (fun x=>Nat.le_of_ble_eq_true (by kernel_rfl)) ?_
 rintro⟨⟨(th:Th),(m:As),(fu:Int),(root:Int),(fr:Ws),(fs:Ws),(gn:Ws)⟩,(from_:ByteArray)⟩ ⟨(hd:Ds.bR th m fu),(hr:0≤root∧root≤65536),_⟩ X hX hz
 refine pq 6 (c:=start Tryd.f40 [.ptr 0 0,.fn fL1 [.ptr 4 0,.ptr 5 0]] (hT th m fu root fr fs gn++[tm from_,.own [.vec 7] eLE,.dead,.vec (.ad cE []) Lf.eE])) rfl ?_
 refine Ds.eH hz hX (by intro y hy;cases hy) (aH.Ok.cons ((yf 17).sum amN) aH.Ok.nil) Tryd.func40 (asx th m fu root fr fs gn from_) ⟨fun h=> ?_,fun h=>⟨rfl,rfl,hd,hr,⟨by omega,by omega⟩,by omega,Bx.iK.1,Nat.le_refl _, ?_⟩⟩
 ·have h:root=0:=by simpa using h
  obtain⟨f1,f2⟩:=aj6 (fu:=fu) (fr:=fr) (fs:=fs) (gn:=gn) (c:=([],0)) (show _=wkT (qH from_) th m root []by unfold wkT;rw[if_pos h])
  exact ch 7 rfl (Nat.le_refl _) f2 f1
 ·have h:¬root=0:=by simpa using h
  obtain⟨f1,f2⟩:=aj6 (fu:=fu) (fr:=fr) (fs:=fs) (gn:=gn) (c:=((gO (qH from_) th m 17 1 Bx.bg [] root).2.1,(gO (qH from_) th m 17 1 Bx.bg [] root).2.2)) (show _=wkT (qH from_) th m root []by unfold wkT;rw[if_neg h])
  exact ch 7 rfl (Nat.le_refl _) f2 f1
theorem amQ:ke P Bx.cn 12 sLs:=by
 refine fy Tryd.func12 (by kernel_rfl) (fun x=>Nat.le_of_ble_eq_true (by kernel_rfl)) ?_
 rintro⟨⟨(th:Th),(m:As),(fu:Int),(root:Int),(fr:Ws),(fs:Ws),(gn:Ws)⟩,(from_:ByteArray)⟩ ⟨(hd:Ds.bR th m fu),(hr:0≤root∧root≤65536),_⟩ X hX hz
 have hm:∀y∈amP,(hT th m fu root fr fs gn).length≤y.2.m:=fun y hy=>by
  simp only[amP,List.mem_singleton]at hy;subst hy;exact Nat.le_refl _
 have T:aj5.Ok P Bx.cn:=aH.Ok.cons (aj7.sum asy) aH.Ok.nil
 refine Ds.eH hz hX hm T Tryd.func12 (auy th m fu root fr fs gn from_) ?_
 refine Ds.eH hz hX hm T Tryd.func12 (auz th m fu root fr fs gn from_) ⟨rfl,rfl,hd,hr,fun h=> ?_,fun h=> ?_⟩
 ·have h:lsE th m root from_≠0:=bne_iff_ne.1 h
  refine kg (h:=hT th m fu root fr fs gn++[.vec (.ad cE []) Lf.eE]) ⟨[(0,.ad cE [],Lf.eE)],[0,1],4,[]⟩ rfl (Nat.le_refl _) (ov.same _) rfl ?_
  show hT th m fu root fr fs gn++[.vec (.ad cE (lsF th m root from_)) Lf.eE]=_
  unfold lsF
  rw[if_pos h];rfl
 ·have h:¬lsE th m root from_≠0:=fun hh=>Bool.false_ne_true (h.symm.trans (bne_iff_ne.2 hh))
  refine kg (h:=hT th m fu root fr fs gn++[.vec (.ad cE (lsT th m root from_)) Lf.eE]) ⟨[],[0,1],4,[]⟩ rfl (Nat.le_refl _) (ov.same _) ?_ ?_
  ·show AV.bm [.vec 4,bQ (lsE th m root from_)]=_
   rw[show lsE th m root from_=0 from Decidable.byContradiction h];rfl
  ·show hT th m fu root fr fs gn++[.vec (.ad cE (lsF th m root from_)) Lf.eE]=_
   unfold lsF
   rw[if_neg h]
end Ts
namespace Ts
open Go Go.Sx Go.Proofs Lf
def opF(th:Th)(free:Ws):Ws:=Bx.cV .and free (Bx.cV .andNot (Bx.bY (Ds.wg th)) (Bx.bY 2))
abbrev XO:Type:=Th×As×Int×Int×Ws
abbrev sOp:Spec XO:=⟨fun(_,_,_,root,free)=>[.ptr 0 0,bQ root,.ints .u64 16 free],fun(th,m,fu,_)=>Ds.hD th m fu,fun(th,m,fu,_)=>[Ds.bR th m fu],fun(th,m,fu,root,free)=>Ds.hD th m fu++[obT 0 root (opF th free) Bx.bg Bx.bg],fun _=>.ptr 3 0⟩
def mOp:List AV→RM (XO×List Nat)
 |[d,r,.ints .u64 16 free]=>(Ds.mAs [d]).bind fun((th,m,fu),σ)=>match r.dd with
  |some (_,_,root)=>.ret ((th,m,fu,root,free),σ)
  |none=>.fail "no root"
 |_=>.fail "open"
abbrev asz:=dJ sOp mOp
abbrev asA:=dJ Ds.sPn Ds.mAs
abbrev asB:=bW [Bx.bo] [Bx.dM] (fun _=>[]) (fun(n,())=>(Bx.bY n,()))
abbrev asC:=bW [Bx.dM,Bx.dM] [Bx.dM] (fun _=>[]) (fun(a,b,())=>(Bx.cV .andNot a b,()))
abbrev auA:=bW [Bx.dM,Bx.dM] [Bx.dM] (fun _=>[]) (fun(a,b,())=>(Bx.cV .and a b,()))
def asD:aH:=[(45,asA),(29,asB),(23,asC),(44,auA)]
theorem auB(th:Th)(m:As)(fu root:Int)(free:Ws):run P asD.sum Tryd.f21 [] (start Tryd.f21 [.ptr 0 0,bQ root,.ints .u64 16 free] (Ds.hD th m fu))=
 Tree.need (bK (some [AV.ptr 0 0])) (.need (bK (some [ae.own [.vec 1,.ag 2,.s (.int .i64 fu)] 96,.vec (.ad [.arr .u8 64] th) 138,.map (.arr .u8 64) m])) (.need (Ds.bR th m fu) (.ret [.own [.vec 1,.ag 2,.s (.int .i64 fu)] 96,.vec (.ad [.arr .u8 64] th) 138,.map (.arr .u8 64) m,.own [.ints .u64 16 free] 47,.own [.ptr 0 0,.s (.int .i64 root),.ints .u64 16 (Bx.cV BinOp.and free (Bx.cV BinOp.andNot (Bx.bY (Ds.wg th)) (Bx.bY 2))),.ints .u64 16 (List.replicate 16 0),.ints .u64 16 (List.replicate 16 0)] 70] (.ptr 4 0)))):=by kernel_rfl
abbrev sRt:Spec XT:=⟨fun _=>[.ptr 0 0],fun(th,m,fu,root,fr,fs,gn)=>hT th m fu root fr fs gn,fun _=>[],fun(th,m,fu,root,fr,fs,gn)=>hT th m fu root fr fs gn,fun(_,_,_,root,_)=>bQ root⟩
abbrev sFr:Spec XT:=⟨fun _=>[.ptr 0 0],fun(th,m,fu,root,fr,fs,gn)=>hT th m fu root fr fs gn,fun _=>[],fun(th,m,fu,root,fr,fs,gn)=>hT th m fu root fr fs gn,fun(_,_,_,_,fr,_)=>.ints .u64 16 fr⟩
theorem auC(th:Th)(m:As)(fu root:Int)(fr fs gn:Ws):run P (aH.sum []) Tryd.f22 [] (start Tryd.f22 [.ptr 0 0] (hT th m fu root fr fs gn))=
 Tree.ret [.own [.ptr 1 0,.s (.int .i64 root),.ints .u64 16 fr,.ints .u64 16 fs,.ints .u64 16 gn] 70,.own [.vec 2,.ag 3,.s (.int .i64 fu)] 96,.vec (.ad [.arr .u8 64] th) 138,.map (.arr .u8 64) m] (.s (.int .i64 root)):=by kernel_rfl
theorem auD(th:Th)(m:As)(fu root:Int)(fr fs gn:Ws):run P (aH.sum []) Tryd.f20 [] (start Tryd.f20 [.ptr 0 0] (hT th m fu root fr fs gn))=
 Tree.ret [.own [.ptr 1 0,.s (.int .i64 root),.ints .u64 16 fr,.ints .u64 16 fs,.ints .u64 16 gn] 70,.own [.vec 2,.ag 3,.s (.int .i64 fu)] 96,.vec (.ad [.arr .u8 64] th) 138,.map (.arr .u8 64) m,.own [.ints .u64 16 fr] 47] (.ints .u64 16 fr):=by kernel_rfl
def cv(n:Int):Th:=List.replicate n.toNat (CL.d Ds.cS)
def asE:aH:=[(21,asz),(29,asB)]
theorem auE(p:Int):run P asE.sum Tryd.f10 [] (start Tryd.f10 [bQ p] []) (inl:=[31])=
 Tree.need (ax ((4:Int)*p)) (.ite (decide ((4:Int)*p<1)) (.ret [] (.bm [.s .oD,.s .oD])) (.ite (decide ((4:Int)*p>4096)) (.ret [] (.bm [.s .oD,.s .oD])) (.need ((0:Int)≤4*p) (.need ((4:Int)*p≤4*p) (.need ((4:Int)*p≤1073741824) (.need (bK (some [AV.ptr 0 0,.s (.int .i64 0),.ints .u64 16 (Bx.bY p)])) (.need (bK (some [ae.own [.vec 1,.ag 2,.s (.int .i64 (-1))] 96,.vec (.ad [.arr .u8 64] (List.replicate ((4:Int)*p).toNat (CL.d [.arr .u8 64]))) 138,.map (.arr .u8 64) []])) (.need (Ds.bR (List.replicate ((4:Int)*p).toNat (CL.d [.arr .u8 64])) [] (-1)) (.ret [.vec (.ad [.arr .u8 64] (List.replicate ((4:Int)*p).toNat (CL.d [.arr .u8 64]))) 138,.map (.arr .u8 64) [],.own [.vec 0,.ag 1,.s (.int .i64 (-1))] 96,.own [.ptr 2 0,.s (.int .i64 0),.ints .u64 16 (opF (List.replicate ((4:Int)*p).toNat (CL.d [.arr .u8 64])) (Bx.bY p)),.ints .u64 16 Bx.bg,.ints .u64 16 Bx.bg] 70] (.bm [.ptr 2 0,.ptr 3 0])))))))))):=by kernel_rfl
abbrev XH:Type:=XT×ByteArray×ByteArray
def aj8(th:Th)(m:As)(root:Int)(key want:ByteArray):Bool:=(gtE th m root key==0)&&(gtB th m root key&&decide (gtV th m root key=want))
abbrev sHs:Spec XH:=⟨fun(_,key,want)=>[.ptr 0 0,.s (.str key),.s (.str want)],fun((th,m,fu,root,fr,fs,gn),_)=>hT th m fu root fr fs gn,fun((th,m,fu,root,_),_)=>[Ds.bR th m fu,0≤root∧root≤65536],fun((th,m,fu,root,fr,fs,gn),_)=>hT th m fu root fr fs gn,
 fun((th,m,_,root,_),key,want)=>.s (.bool (aj8 th m root key want))⟩
def mGt:List AV→RM (XD×List Nat)
 |[t,.s (.str key)]=>(mT [t]).bind fun(X,σ)=>.ret ((X,key),σ)
 |_=>.fail "get"
def mHs:List AV→RM (XH×List Nat)
 |[t,.s (.str key),.s (.str want)]=>(mT [t]).bind fun(X,σ)=>.ret ((X,key,want),σ)
 |_=>.fail "has"
def asF:aH:=[(11,dJ ag1 mGt)]
theorem auF(th:Th)(m:As)(fu root:Int)(fr fs gn:Ws)(key want:ByteArray):run P asF.sum Tryd.f30 [] (start Tryd.f30 [.ptr 0 0,.s (.str key),.s (.str want)] (hT th m fu root fr fs gn))=
 Tree.need (bK (some [AV.ptr 0 0,.s (.str key)])) (.need (bK (some [ae.own [.ptr 1 0,.s (.int .i64 root),.ints .u64 16 fr,.ints .u64 16 fs,.ints .u64 16 gn] 70,.own [.vec 2,.ag 3,.s (.int .i64 fu)] 96,.vec (.ad [.arr .u8 64] th) 138,.map (.arr .u8 64) m])) (.need (Ds.bR th m fu) (.need ((0:Int)≤root∧root≤65536) (.ite (gtE th m root key==0) (.ite (gtB th m root key) (.ret [.own [.ptr 1 0,.s (.int .i64 root),.ints .u64 16 fr,.ints .u64 16 fs,.ints .u64 16 gn] 70,.own [.vec 2,.ag 3,.s (.int .i64 fu)] 96,.vec (.ad [.arr .u8 64] th) 138,.map (.arr .u8 64) m] (.s (.bool (decide (gtV th m root key=want))))) (.ret [.own [.ptr 1 0,.s (.int .i64 root),.ints .u64 16 fr,.ints .u64 16 fs,.ints .u64 16 gn] 70,.own [.vec 2,.ag 3,.s (.int .i64 fu)] 96,.vec (.ad [.arr .u8 64] th) 138,.map (.arr .u8 64) m] (.s (.aI false)))) (.ret [.own [.ptr 1 0,.s (.int .i64 root),.ints .u64 16 fr,.ints .u64 16 fs,.ints .u64 16 gn] 70,.own [.vec 2,.ag 3,.s (.int .i64 fu)] 96,.vec (.ad [.arr .u8 64] th) 138,.map (.arr .u8 64) m] (.s (.aI false))))))):=by kernel_rfl
abbrev sMd:Spec Int:=⟨fun p=>[bQ p],fun _=>[],fun p=>[3≤p∧p≤250],fun p=>[Ds.obD 2 3 (-1),obT 0 0 (opF (cv (4*p)) (Bx.bY p)) Bx.bg Bx.bg,.vec (.ad Ds.cS (cv (4*p))) Ds.eS,.map Ds.kS []],fun _=>.bm [.ptr 0 0,.ptr 1 0]⟩
theorem amR{Z:a8}:ke P Z 21 sOp:=by
 refine aR Tryd.func21 (by kernel_rfl) (fun x=>Nat.le_of_ble_eq_true (by kernel_rfl)) ?_
 rintro⟨(th:Th),(m:As),(fu:Int),(root:Int),(free:Ws)⟩ ⟨(hd:Ds.bR th m fu),_⟩ X hX hz
 exact Ds.eH hz hX (by intro y hy;cases hy) (aH.Ok.cons (Ds.arz.sum Ds.mAs) (aH.Ok.cons Bx.vv.sum (aH.Ok.cons Bx.ae7.sum (aH.Ok.cons Bx.al0.sum aH.Ok.nil)))) Tryd.func21 (auB th m fu root free) ⟨rfl,rfl,hd,ch 3 rfl (Nat.le_refl _) rfl rfl⟩
theorem amS{Z:a8}:ke P Z 22 sRt:=by
 refine aR Tryd.func22 (by kernel_rfl) (fun x=>Nat.le_of_ble_eq_true (by kernel_rfl)) ?_
 rintro⟨(th:Th),(m:As),(fu:Int),(root:Int),(fr:Ws),(fs:Ws),(gn:Ws)⟩ _ X hX hz
 exact Ds.eH hz hX (by intro y hy;cases hy) aH.Ok.nil Tryd.func22 (auC th m fu root fr fs gn) (ch 4 rfl (Nat.le_refl _) rfl rfl)
theorem amT{Z:a8}:ke P Z 20 sFr:=by
 refine aR Tryd.func20 (by kernel_rfl) (fun x=>Nat.le_of_ble_eq_true (by kernel_rfl)) ?_
 rintro⟨(th:Th),(m:As),(fu:Int),(root:Int),(fr:Ws),(fs:Ws),(gn:Ws)⟩ _ X hX hz
 exact Ds.eH hz hX (by intro y hy;cases hy) aH.Ok.nil Tryd.func20 (auD th m fu root fr fs gn) (ch 4 rfl (Nat.le_refl _) rfl rfl)
theorem afp{Z:a8}:ke P Z 10 sMd:=by
 refine aR Tryd.func10 (by kernel_rfl) (fun x=>Nat.le_of_ble_eq_true (by kernel_rfl)) ?_
 rintro(p:Int) ⟨(hp:3≤p∧p≤250),_⟩ X hX hz
 refine Ds.eH hz hX (by intro y hy;cases hy) (aH.Ok.cons (amR.sum mOp) (aH.Ok.cons Bx.vv.sum aH.Ok.nil)) Tryd.func10 (auE p) ⟨inI (by omega) (by omega),fun h=> ?_,fun h=>⟨fun h2=> ?_,fun h2=>⟨by omega,by omega,by omega,rfl,rfl, ?_, ?_⟩⟩⟩
 ·have:=of_decide_eq_true h;omega
 ·have:=of_decide_eq_true h2;omega
 ·exact Ds.ait (by omega)
 ·exact ch 0 rfl (Nat.le_refl _) rfl rfl
theorem ab3{Z:a8}:ke P Z 30 sHs:=by
 refine aR Tryd.func30 (by kernel_rfl) (fun x=>Nat.le_of_ble_eq_true (by kernel_rfl)) ?_
 rintro⟨⟨(th:Th),(m:As),(fu:Int),(root:Int),(fr:Ws),(fs:Ws),(gn:Ws)⟩,(key:ByteArray),(want:ByteArray)⟩ ⟨(hd:Ds.bR th m fu),(hr:0≤root∧root≤65536),_⟩ X hX hz
 have fin:∀b,aj8 th m root key want=b→sHs.out ((th,m,fu,root,fr,fs,gn),key,want)=.s (.bool b):=fun b e=>by subst e;rfl
 refine Ds.eH hz hX (by intro y hy;cases hy) (aH.Ok.cons (ajZ.sum mGt) aH.Ok.nil) Tryd.func30 (auF th m fu root fr fs gn key want) ⟨rfl,rfl,hd,hr,fun h=>⟨fun h2=> ?_,fun h2=> ?_⟩,fun h=> ?_⟩
 ·exact ch 4 rfl (Nat.le_refl _) (fin _ (by unfold aj8;rw[h,h2];rfl)) rfl
 ·exact ch 4 rfl (Nat.le_refl _) (fin _ (by unfold aj8;rw[h,h2];rfl)) rfl
 ·exact ch 4 rfl (Nat.le_refl _) (fin _ (by unfold aj8;rw[h];rfl)) rfl
end Ts
namespace Ts
open Go Go.Sx Go.Proofs Lf
def mPt:List AV→RM (XK×List Nat)
 |[t,.s (.str key),.s (.str val)]=>(mT [t]).bind fun(X,σ)=>.ret ((X,key,val),σ)
 |_=>.fail "put"
abbrev aj9:=dJ ajW mPt
abbrev aka:=dJ ajX mGt
abbrev asG:=dJ sHs mHs
abbrev asH:=dJ sRt mT
abbrev asI:=dJ sFr mT
def mMd:List AV→RM (Int×List Nat)
 |[p]=>match p.dd with
  |some (_,_,p)=>.ret (p,[])
  |none=>.fail "made"
 |_=>.fail "made"
abbrev aow:=dJ sMd mMd
def lI:aH:=[(10,aow),(24,aj9),(25,aka),(30,asG),(22,asH),(20,asI),(35,ap6)]
def sT:List (Nat×Norm):=[(iU+2004,⟨[],[0,2,9,10],0,[]⟩),(iU+2009,⟨[],[0,2,14,15],0,[]⟩),(iU+2014,⟨[],[0,2,19,20],0,[]⟩),(iU+2019,⟨[],[0,2,24,25],0,[]⟩),(iU+2024,⟨[],[0,2,29,30],0,[]⟩),(iU+2029,⟨[],[0,2,34,35],0,[]⟩),(iU+2035,⟨[],[0,2,40,41],0,[]⟩),(iU+2040,⟨[],[0,2,45,46],0,[]⟩),(iU+2045,⟨[],[0,2,50,51],0,[]⟩),(iU+2050,⟨[],[0,2,55,56],0,[]⟩),(iU+4001,⟨[],[0,60],0,[]⟩)]
noncomputable def asJ:bx:=Sx.start Tryd.f8 [] []
theorem asK:run (P) (lI.sum) (Tryd.f8) (sT) asJ ([])=
 Tree.need (bK (some [AV.s (.int .i64 8)])) (.need xH (.need ((3:Int)≤8∧(8:Int)≤250) (.at (.mk (sl 63 [(0,.s (.bool false)),(2,.ptr 0 0),(9,.s (.bool false)),(10,.ptr 0 0)]) [.own [.ptr 1 0,.s (.int .i64 0),.ints .u64 16 (opF (cv ((4:Int)*8)) (Bx.bY 8)),.ints .u64 16 Bx.bg,.ints .u64 16 Bx.bg] 70,.own [.vec 2,.ag 3,.s (.int .i64 (-1))] 96,.vec (.ad [.arr .u8 64] (cv ((4:Int)*8))) 138,.map (.arr .u8 64) []] (we Tryd.f8 2 4) (.mk none false 0 [] 2))))):=by kernel_rfl
noncomputable def gQ:Ws:=opF (cv ((4:Int)*(8:Int))) (Bx.bY (8:Int))
noncomputable def asL:bx:=bx.mk (sl 63 [(0,.s (.bool false)),(2,.ptr 0 0),(9,.s (.bool false)),(10,.ptr 0 0)]) [.own [.ptr 1 0,.s (.int .i64 0),.ints .u64 16 gQ,.ints .u64 16 Bx.bg,.ints .u64 16 Bx.bg] 70,.own [.vec 2,.ag 3,.s (.int .i64 (-1))] 96,.vec (.ad [.arr .u8 64] (cv ((4:Int)*8))) 138,.map (.arr .u8 64) []] (we Tryd.f8 2 4) (.mk none false 0 [] 2)
theorem asM:run (P) (lI.sum) (Tryd.f8) (sT) asL ([])=
 Tree.ite false (.ret [.own [.ptr 1 0,.s (.int .i64 0),.ints .u64 16 gQ,.ints .u64 16 Bx.bg,.ints .u64 16 Bx.bg] 70,.own [.vec 2,.ag 3,.s (.int .i64 (-1))] 96,.vec (.ad [.arr .u8 64] (cv ((4:Int)*8))) 138,.map (.arr .u8 64) []] (.s (.aI false))) (.need (bK (some [AV.ptr 0 0,.s (.str (ByteArray.mk #[(97:UInt8)])),.s (.str (ByteArray.mk #[(49:UInt8)]))])) (.need (bK (some [ae.own [.ptr 1 0,.s (.int .i64 0),.ints .u64 16 gQ,.ints .u64 16 Bx.bg,.ints .u64 16 Bx.bg] 70,.own [.vec 2,.ag 3,.s (.int .i64 (-1))] 96,.vec (.ad [.arr .u8 64] (cv ((4:Int)*8))) 138,.map (.arr .u8 64) []])) (.need (Ds.bR (cv ((4:Int)*8)) [] (-1)) (.need (Bx.okW gQ) (.need ((0:Int)≤0∧(0:Int)≤65536) (.ite false (.ret [.own [.ptr 1 0,.s (.int .i64 2),.ints .u64 16 (op2 (cv ((4:Int)*8)) (ByteArray.mk #[(97:UInt8)]) (some (ByteArray.mk #[(49:UInt8)])) [] (-1) 0 gQ Bx.bg Bx.bg),.ints .u64 16 (op3 (cv ((4:Int)*8)) (ByteArray.mk #[(97:UInt8)]) (some (ByteArray.mk #[(49:UInt8)])) [] (-1) 0 gQ Bx.bg Bx.bg),.ints .u64 16 (op4 (cv ((4:Int)*8)) (ByteArray.mk #[(97:UInt8)]) (some (ByteArray.mk #[(49:UInt8)])) [] (-1) 0 gQ Bx.bg Bx.bg)] 70,.own [.vec 2,.ag 3,.s (.int .i64 (op1 (cv ((4:Int)*8)) (ByteArray.mk #[(97:UInt8)]) (some (ByteArray.mk #[(49:UInt8)])) [] (-1) 0 gQ Bx.bg Bx.bg))] 96,.vec (.ad [.arr .u8 64] (cv ((4:Int)*8))) 138,.map (.arr .u8 64) (op0 (cv ((4:Int)*8)) (ByteArray.mk #[(97:UInt8)]) (some (ByteArray.mk #[(49:UInt8)])) [] (-1) 0 gQ Bx.bg Bx.bg)] (.s (.aI false))) (.at (.mk (sl 63 [(0,.s (.bool false)),(2,.ptr 0 0),(14,.s (.bool false)),(15,.ptr 0 0)]) [.own [.ptr 1 0,.s (.int .i64 2),.ints .u64 16 (op2 (cv ((4:Int)*8)) (ByteArray.mk #[(97:UInt8)]) (some (ByteArray.mk #[(49:UInt8)])) [] (-1) 0 gQ Bx.bg Bx.bg),.ints .u64 16 (op3 (cv ((4:Int)*8)) (ByteArray.mk #[(97:UInt8)]) (some (ByteArray.mk #[(49:UInt8)])) [] (-1) 0 gQ Bx.bg Bx.bg),.ints .u64 16 (op4 (cv ((4:Int)*8)) (ByteArray.mk #[(97:UInt8)]) (some (ByteArray.mk #[(49:UInt8)])) [] (-1) 0 gQ Bx.bg Bx.bg)] 70,.own [.vec 2,.ag 3,.s (.int .i64 (op1 (cv ((4:Int)*8)) (ByteArray.mk #[(97:UInt8)]) (some (ByteArray.mk #[(49:UInt8)])) [] (-1) 0 gQ Bx.bg Bx.bg))] 96,.vec (.ad [.arr .u8 64] (cv ((4:Int)*8))) 138,.map (.arr .u8 64) (op0 (cv ((4:Int)*8)) (ByteArray.mk #[(97:UInt8)]) (some (ByteArray.mk #[(49:UInt8)])) [] (-1) 0 gQ Bx.bg Bx.bg)] (we Tryd.f8 2 9) (.mk none false 0 [] 2))))))))):=by kernel_rfl
noncomputable def dN:Ws:=op2 (cv ((4:Int)*(8:Int))) (ByteArray.mk #[(97:UInt8)]) (some (ByteArray.mk #[(49:UInt8)])) [] (-1:Int) (0:Int) gQ Bx.bg Bx.bg
noncomputable def dS:Ws:=op3 (cv ((4:Int)*(8:Int))) (ByteArray.mk #[(97:UInt8)]) (some (ByteArray.mk #[(49:UInt8)])) [] (-1:Int) (0:Int) gQ Bx.bg Bx.bg
noncomputable def dT:Ws:=op4 (cv ((4:Int)*(8:Int))) (ByteArray.mk #[(97:UInt8)]) (some (ByteArray.mk #[(49:UInt8)])) [] (-1:Int) (0:Int) gQ Bx.bg Bx.bg
noncomputable def dH:Int:=op1 (cv ((4:Int)*(8:Int))) (ByteArray.mk #[(97:UInt8)]) (some (ByteArray.mk #[(49:UInt8)])) [] (-1:Int) (0:Int) gQ Bx.bg Bx.bg
noncomputable def dI:As:=op0 (cv ((4:Int)*(8:Int))) (ByteArray.mk #[(97:UInt8)]) (some (ByteArray.mk #[(49:UInt8)])) [] (-1:Int) (0:Int) gQ Bx.bg Bx.bg
noncomputable def asN:bx:=bx.mk (sl 63 [(0,.s (.bool false)),(2,.ptr 0 0),(14,.s (.bool false)),(15,.ptr 0 0)]) [.own [.ptr 1 0,.s (.int .i64 2),.ints .u64 16 dN,.ints .u64 16 dS,.ints .u64 16 dT] 70,.own [.vec 2,.ag 3,.s (.int .i64 dH)] 96,.vec (.ad [.arr .u8 64] (cv ((4:Int)*8))) 138,.map (.arr .u8 64) dI] (we Tryd.f8 2 9) (.mk none false 0 [] 2)
theorem asO:run (P) (lI.sum) (Tryd.f8) (sT) asN ([])=
 Tree.ite false (.ret [.own [.ptr 1 0,.s (.int .i64 2),.ints .u64 16 dN,.ints .u64 16 dS,.ints .u64 16 dT] 70,.own [.vec 2,.ag 3,.s (.int .i64 dH)] 96,.vec (.ad [.arr .u8 64] (cv ((4:Int)*8))) 138,.map (.arr .u8 64) dI] (.s (.aI false))) (.need (bK (some [AV.ptr 0 0])) (.need (bK (some [ae.own [.ptr 1 0,.s (.int .i64 2),.ints .u64 16 dN,.ints .u64 16 dS,.ints .u64 16 dT] 70,.own [.vec 2,.ag 3,.s (.int .i64 dH)] 96,.vec (.ad [.arr .u8 64] (cv ((4:Int)*8))) 138,.map (.arr .u8 64) dI])) (.ite false (.ret [.own [.ptr 1 0,.s (.int .i64 2),.ints .u64 16 dN,.ints .u64 16 dS,.ints .u64 16 dT] 70,.own [.vec 2,.ag 3,.s (.int .i64 dH)] 96,.vec (.ad [.arr .u8 64] (cv ((4:Int)*8))) 138,.map (.arr .u8 64) dI] (.s (.aI false))) (.at (.mk (sl 63 [(0,.s (.bool false)),(2,.ptr 0 0),(19,.s (.bool false)),(20,.ptr 0 0)]) [.own [.ptr 1 0,.s (.int .i64 2),.ints .u64 16 dN,.ints .u64 16 dS,.ints .u64 16 dT] 70,.own [.vec 2,.ag 3,.s (.int .i64 dH)] 96,.vec (.ad [.arr .u8 64] (cv ((4:Int)*8))) 138,.map (.arr .u8 64) dI] (we Tryd.f8 2 14) (.mk none false 0 [] 2)))))):=by kernel_rfl
noncomputable def asP:bx:=bx.mk (sl 63 [(0,.s (.bool false)),(2,.ptr 0 0),(19,.s (.bool false)),(20,.ptr 0 0)]) [.own [.ptr 1 0,.s (.int .i64 2),.ints .u64 16 dN,.ints .u64 16 dS,.ints .u64 16 dT] 70,.own [.vec 2,.ag 3,.s (.int .i64 dH)] 96,.vec (.ad [.arr .u8 64] (cv ((4:Int)*8))) 138,.map (.arr .u8 64) dI] (we Tryd.f8 2 14) (.mk none false 0 [] 2)
theorem asQ:run (P) (lI.sum) (Tryd.f8) (sT) asP ([])=
 Tree.ite false (.ret [.own [.ptr 1 0,.s (.int .i64 2),.ints .u64 16 dN,.ints .u64 16 dS,.ints .u64 16 dT] 70,.own [.vec 2,.ag 3,.s (.int .i64 dH)] 96,.vec (.ad [.arr .u8 64] (cv ((4:Int)*8))) 138,.map (.arr .u8 64) dI] (.s (.aI false))) (.need (bK (some [AV.ptr 0 0,.s (.str (ByteArray.mk #[(97:UInt8)])),.s (.str (ByteArray.mk #[(49:UInt8)]))])) (.need (bK (some [ae.own [.ptr 1 0,.s (.int .i64 2),.ints .u64 16 dN,.ints .u64 16 dS,.ints .u64 16 dT] 70,.own [.vec 2,.ag 3,.s (.int .i64 dH)] 96,.vec (.ad [.arr .u8 64] (cv ((4:Int)*8))) 138,.map (.arr .u8 64) dI])) (.need (Ds.bR (cv ((4:Int)*8)) dI dH) (.need ((0:Int)≤2∧(2:Int)≤65536) (.ite false (.ret [.own [.ptr 1 0,.s (.int .i64 2),.ints .u64 16 dN,.ints .u64 16 dS,.ints .u64 16 dT] 70,.own [.vec 2,.ag 3,.s (.int .i64 dH)] 96,.vec (.ad [.arr .u8 64] (cv ((4:Int)*8))) 138,.map (.arr .u8 64) dI] (.s (.aI false))) (.at (.mk (sl 63 [(0,.s (.bool false)),(2,.ptr 0 0),(24,.s (.bool false)),(25,.ptr 0 0)]) [.own [.ptr 1 0,.s (.int .i64 2),.ints .u64 16 dN,.ints .u64 16 dS,.ints .u64 16 dT] 70,.own [.vec 2,.ag 3,.s (.int .i64 dH)] 96,.vec (.ad [.arr .u8 64] (cv ((4:Int)*8))) 138,.map (.arr .u8 64) dI] (we Tryd.f8 2 19) (.mk none false 0 [] 2)))))))):=by kernel_rfl
noncomputable def asR:bx:=bx.mk (sl 63 [(0,.s (.bool false)),(2,.ptr 0 0),(24,.s (.bool false)),(25,.ptr 0 0)]) [.own [.ptr 1 0,.s (.int .i64 2),.ints .u64 16 dN,.ints .u64 16 dS,.ints .u64 16 dT] 70,.own [.vec 2,.ag 3,.s (.int .i64 dH)] 96,.vec (.ad [.arr .u8 64] (cv ((4:Int)*8))) 138,.map (.arr .u8 64) dI] (we Tryd.f8 2 19) (.mk none false 0 [] 2)
theorem asS:run (P) (lI.sum) (Tryd.f8) (sT) asR ([])=
 Tree.ite false (.ret [.own [.ptr 1 0,.s (.int .i64 2),.ints .u64 16 dN,.ints .u64 16 dS,.ints .u64 16 dT] 70,.own [.vec 2,.ag 3,.s (.int .i64 dH)] 96,.vec (.ad [.arr .u8 64] (cv ((4:Int)*8))) 138,.map (.arr .u8 64) dI] (.s (.aI false))) (.need (bK (some [AV.ptr 0 0,.s (.str (ByteArray.mk #[(97:UInt8)])),.s (.str (ByteArray.mk #[(50:UInt8)]))])) (.need (bK (some [ae.own [.ptr 1 0,.s (.int .i64 2),.ints .u64 16 dN,.ints .u64 16 dS,.ints .u64 16 dT] 70,.own [.vec 2,.ag 3,.s (.int .i64 dH)] 96,.vec (.ad [.arr .u8 64] (cv ((4:Int)*8))) 138,.map (.arr .u8 64) dI])) (.need (Ds.bR (cv ((4:Int)*8)) dI dH) (.need (Bx.okW dN) (.need ((0:Int)≤2∧(2:Int)≤65536) (.ite false (.ret [.own [.ptr 1 0,.s (.int .i64 3),.ints .u64 16 (op2 (cv ((4:Int)*8)) (ByteArray.mk #[(97:UInt8)]) (some (ByteArray.mk #[(50:UInt8)])) dI dH 2 dN dS dT),.ints .u64 16 (op3 (cv ((4:Int)*8)) (ByteArray.mk #[(97:UInt8)]) (some (ByteArray.mk #[(50:UInt8)])) dI dH 2 dN dS dT),.ints .u64 16 (op4 (cv ((4:Int)*8)) (ByteArray.mk #[(97:UInt8)]) (some (ByteArray.mk #[(50:UInt8)])) dI dH 2 dN dS dT)] 70,.own [.vec 2,.ag 3,.s (.int .i64 (op1 (cv ((4:Int)*8)) (ByteArray.mk #[(97:UInt8)]) (some (ByteArray.mk #[(50:UInt8)])) dI dH 2 dN dS dT))] 96,.vec (.ad [.arr .u8 64] (cv ((4:Int)*8))) 138,.map (.arr .u8 64) (op0 (cv ((4:Int)*8)) (ByteArray.mk #[(97:UInt8)]) (some (ByteArray.mk #[(50:UInt8)])) dI dH 2 dN dS dT)] (.s (.aI false))) (.at (.mk (sl 63 [(0,.s (.bool false)),(2,.ptr 0 0),(29,.s (.bool false)),(30,.ptr 0 0)]) [.own [.ptr 1 0,.s (.int .i64 3),.ints .u64 16 (op2 (cv ((4:Int)*8)) (ByteArray.mk #[(97:UInt8)]) (some (ByteArray.mk #[(50:UInt8)])) dI dH 2 dN dS dT),.ints .u64 16 (op3 (cv ((4:Int)*8)) (ByteArray.mk #[(97:UInt8)]) (some (ByteArray.mk #[(50:UInt8)])) dI dH 2 dN dS dT),.ints .u64 16 (op4 (cv ((4:Int)*8)) (ByteArray.mk #[(97:UInt8)]) (some (ByteArray.mk #[(50:UInt8)])) dI dH 2 dN dS dT)] 70,.own [.vec 2,.ag 3,.s (.int .i64 (op1 (cv ((4:Int)*8)) (ByteArray.mk #[(97:UInt8)]) (some (ByteArray.mk #[(50:UInt8)])) dI dH 2 dN dS dT))] 96,.vec (.ad [.arr .u8 64] (cv ((4:Int)*8))) 138,.map (.arr .u8 64) (op0 (cv ((4:Int)*8)) (ByteArray.mk #[(97:UInt8)]) (some (ByteArray.mk #[(50:UInt8)])) dI dH 2 dN dS dT)] (we Tryd.f8 2 24) (.mk none false 0 [] 2))))))))):=by kernel_rfl
noncomputable def cr:Ws:=op2 (cv ((4:Int)*(8:Int))) (ByteArray.mk #[(97:UInt8)]) (some (ByteArray.mk #[(50:UInt8)])) dI dH (2:Int) dN dS dT
noncomputable def cz:Ws:=op3 (cv ((4:Int)*(8:Int))) (ByteArray.mk #[(97:UInt8)]) (some (ByteArray.mk #[(50:UInt8)])) dI dH (2:Int) dN dS dT
noncomputable def cA:Ws:=op4 (cv ((4:Int)*(8:Int))) (ByteArray.mk #[(97:UInt8)]) (some (ByteArray.mk #[(50:UInt8)])) dI dH (2:Int) dN dS dT
noncomputable def cg:Int:=op1 (cv ((4:Int)*(8:Int))) (ByteArray.mk #[(97:UInt8)]) (some (ByteArray.mk #[(50:UInt8)])) dI dH (2:Int) dN dS dT
noncomputable def bC:As:=op0 (cv ((4:Int)*(8:Int))) (ByteArray.mk #[(97:UInt8)]) (some (ByteArray.mk #[(50:UInt8)])) dI dH (2:Int) dN dS dT
noncomputable def asT:bx:=bx.mk (sl 63 [(0,.s (.bool false)),(2,.ptr 0 0),(29,.s (.bool false)),(30,.ptr 0 0)]) [.own [.ptr 1 0,.s (.int .i64 3),.ints .u64 16 cr,.ints .u64 16 cz,.ints .u64 16 cA] 70,.own [.vec 2,.ag 3,.s (.int .i64 cg)] 96,.vec (.ad [.arr .u8 64] (cv ((4:Int)*8))) 138,.map (.arr .u8 64) bC] (we Tryd.f8 2 24) (.mk none false 0 [] 2)
theorem asU:run (P) (lI.sum) (Tryd.f8) (sT) asT ([])=
 Tree.ite false (.ret [.own [.ptr 1 0,.s (.int .i64 3),.ints .u64 16 cr,.ints .u64 16 cz,.ints .u64 16 cA] 70,.own [.vec 2,.ag 3,.s (.int .i64 cg)] 96,.vec (.ad [.arr .u8 64] (cv ((4:Int)*8))) 138,.map (.arr .u8 64) bC] (.s (.aI false))) (.need (bK (some [AV.ptr 0 0])) (.need (bK (some [ae.own [.ptr 1 0,.s (.int .i64 3),.ints .u64 16 cr,.ints .u64 16 cz,.ints .u64 16 cA] 70,.own [.vec 2,.ag 3,.s (.int .i64 cg)] 96,.vec (.ad [.arr .u8 64] (cv ((4:Int)*8))) 138,.map (.arr .u8 64) bC])) (.ite false (.ret [.own [.ptr 1 0,.s (.int .i64 3),.ints .u64 16 cr,.ints .u64 16 cz,.ints .u64 16 cA] 70,.own [.vec 2,.ag 3,.s (.int .i64 cg)] 96,.vec (.ad [.arr .u8 64] (cv ((4:Int)*8))) 138,.map (.arr .u8 64) bC] (.s (.aI false))) (.at (.mk (sl 63 [(0,.s (.bool false)),(2,.ptr 0 0),(34,.s (.bool false)),(35,.ptr 0 0)]) [.own [.ptr 1 0,.s (.int .i64 3),.ints .u64 16 cr,.ints .u64 16 cz,.ints .u64 16 cA] 70,.own [.vec 2,.ag 3,.s (.int .i64 cg)] 96,.vec (.ad [.arr .u8 64] (cv ((4:Int)*8))) 138,.map (.arr .u8 64) bC] (we Tryd.f8 2 29) (.mk none false 0 [] 2)))))):=by kernel_rfl
noncomputable def asV:bx:=bx.mk (sl 63 [(0,.s (.bool false)),(2,.ptr 0 0),(34,.s (.bool false)),(35,.ptr 0 0)]) [.own [.ptr 1 0,.s (.int .i64 3),.ints .u64 16 cr,.ints .u64 16 cz,.ints .u64 16 cA] 70,.own [.vec 2,.ag 3,.s (.int .i64 cg)] 96,.vec (.ad [.arr .u8 64] (cv ((4:Int)*8))) 138,.map (.arr .u8 64) bC] (we Tryd.f8 2 29) (.mk none false 0 [] 2)
theorem asW:run (P) (lI.sum) (Tryd.f8) (sT) asV ([])=
 Tree.ite false (.ret [.own [.ptr 1 0,.s (.int .i64 3),.ints .u64 16 cr,.ints .u64 16 cz,.ints .u64 16 cA] 70,.own [.vec 2,.ag 3,.s (.int .i64 cg)] 96,.vec (.ad [.arr .u8 64] (cv ((4:Int)*8))) 138,.map (.arr .u8 64) bC] (.s (.aI false))) (.need (bK (some [AV.ptr 0 0])) (.need (bK (some [ae.own [.ptr 1 0,.s (.int .i64 3),.ints .u64 16 cr,.ints .u64 16 cz,.ints .u64 16 cA] 70,.own [.vec 2,.ag 3,.s (.int .i64 cg)] 96,.vec (.ad [.arr .u8 64] (cv ((4:Int)*8))) 138,.map (.arr .u8 64) bC])) (.ite false (.ret [.own [.ptr 1 0,.s (.int .i64 3),.ints .u64 16 cr,.ints .u64 16 cz,.ints .u64 16 cA] 70,.own [.vec 2,.ag 3,.s (.int .i64 cg)] 96,.vec (.ad [.arr .u8 64] (cv ((4:Int)*8))) 138,.map (.arr .u8 64) bC] (.s (.aI false))) (.at (.mk (sl 63 [(0,.s (.bool false)),(2,.ptr 0 0),(40,.s (.bool false)),(41,.ptr 0 0)]) [.own [.ptr 1 0,.s (.int .i64 3),.ints .u64 16 cr,.ints .u64 16 cz,.ints .u64 16 cA] 70,.own [.vec 2,.ag 3,.s (.int .i64 cg)] 96,.vec (.ad [.arr .u8 64] (cv ((4:Int)*8))) 138,.map (.arr .u8 64) bC] (we Tryd.f8 2 35) (.mk none false 0 [] 2)))))):=by kernel_rfl
noncomputable def asX:bx:=bx.mk (sl 63 [(0,.s (.bool false)),(2,.ptr 0 0),(40,.s (.bool false)),(41,.ptr 0 0)]) [.own [.ptr 1 0,.s (.int .i64 3),.ints .u64 16 cr,.ints .u64 16 cz,.ints .u64 16 cA] 70,.own [.vec 2,.ag 3,.s (.int .i64 cg)] 96,.vec (.ad [.arr .u8 64] (cv ((4:Int)*8))) 138,.map (.arr .u8 64) bC] (we Tryd.f8 2 35) (.mk none false 0 [] 2)
theorem asY:run (P) (lI.sum) (Tryd.f8) (sT) asX ([])=
 Tree.ite false (.ret [.own [.ptr 1 0,.s (.int .i64 3),.ints .u64 16 cr,.ints .u64 16 cz,.ints .u64 16 cA] 70,.own [.vec 2,.ag 3,.s (.int .i64 cg)] 96,.vec (.ad [.arr .u8 64] (cv ((4:Int)*8))) 138,.map (.arr .u8 64) bC] (.s (.aI false))) (.need (bK (some [AV.ptr 0 0])) (.need (bK (some [ae.own [.ptr 1 0,.s (.int .i64 3),.ints .u64 16 cr,.ints .u64 16 cz,.ints .u64 16 cA] 70,.own [.vec 2,.ag 3,.s (.int .i64 cg)] 96,.vec (.ad [.arr .u8 64] (cv ((4:Int)*8))) 138,.map (.arr .u8 64) bC])) (.ite false (.ret [.own [.ptr 1 0,.s (.int .i64 3),.ints .u64 16 cr,.ints .u64 16 cz,.ints .u64 16 cA] 70,.own [.vec 2,.ag 3,.s (.int .i64 cg)] 96,.vec (.ad [.arr .u8 64] (cv ((4:Int)*8))) 138,.map (.arr .u8 64) bC] (.s (.aI false))) (.at (.mk (sl 63 [(0,.s (.bool false)),(2,.ptr 0 0),(45,.s (.bool false)),(46,.ptr 0 0)]) [.own [.ptr 1 0,.s (.int .i64 3),.ints .u64 16 cr,.ints .u64 16 cz,.ints .u64 16 cA] 70,.own [.vec 2,.ag 3,.s (.int .i64 cg)] 96,.vec (.ad [.arr .u8 64] (cv ((4:Int)*8))) 138,.map (.arr .u8 64) bC] (we Tryd.f8 2 40) (.mk none false 0 [] 2)))))):=by kernel_rfl
noncomputable def asZ:bx:=bx.mk (sl 63 [(0,.s (.bool false)),(2,.ptr 0 0),(45,.s (.bool false)),(46,.ptr 0 0)]) [.own [.ptr 1 0,.s (.int .i64 3),.ints .u64 16 cr,.ints .u64 16 cz,.ints .u64 16 cA] 70,.own [.vec 2,.ag 3,.s (.int .i64 cg)] 96,.vec (.ad [.arr .u8 64] (cv ((4:Int)*8))) 138,.map (.arr .u8 64) bC] (we Tryd.f8 2 40) (.mk none false 0 [] 2)
theorem as0:run (P) (lI.sum) (Tryd.f8) (sT) asZ ([])=
 Tree.ite false (.ret [.own [.ptr 1 0,.s (.int .i64 3),.ints .u64 16 cr,.ints .u64 16 cz,.ints .u64 16 cA] 70,.own [.vec 2,.ag 3,.s (.int .i64 cg)] 96,.vec (.ad [.arr .u8 64] (cv ((4:Int)*8))) 138,.map (.arr .u8 64) bC] (.s (.aI false))) (.need (bK (some [AV.ptr 0 0,.s (.str (ByteArray.mk #[(97:UInt8)])),.s (.str (ByteArray.mk #[(50:UInt8)]))])) (.need (bK (some [ae.own [.ptr 1 0,.s (.int .i64 3),.ints .u64 16 cr,.ints .u64 16 cz,.ints .u64 16 cA] 70,.own [.vec 2,.ag 3,.s (.int .i64 cg)] 96,.vec (.ad [.arr .u8 64] (cv ((4:Int)*8))) 138,.map (.arr .u8 64) bC])) (.need (Ds.bR (cv ((4:Int)*8)) bC cg) (.need ((0:Int)≤3∧(3:Int)≤65536) (.ite false (.ret [.own [.ptr 1 0,.s (.int .i64 3),.ints .u64 16 cr,.ints .u64 16 cz,.ints .u64 16 cA] 70,.own [.vec 2,.ag 3,.s (.int .i64 cg)] 96,.vec (.ad [.arr .u8 64] (cv ((4:Int)*8))) 138,.map (.arr .u8 64) bC] (.s (.aI false))) (.at (.mk (sl 63 [(0,.s (.bool false)),(2,.ptr 0 0),(50,.s (.bool false)),(51,.ptr 0 0)]) [.own [.ptr 1 0,.s (.int .i64 3),.ints .u64 16 cr,.ints .u64 16 cz,.ints .u64 16 cA] 70,.own [.vec 2,.ag 3,.s (.int .i64 cg)] 96,.vec (.ad [.arr .u8 64] (cv ((4:Int)*8))) 138,.map (.arr .u8 64) bC] (we Tryd.f8 2 45) (.mk none false 0 [] 2)))))))):=by kernel_rfl
noncomputable def as1:bx:=bx.mk (sl 63 [(0,.s (.bool false)),(2,.ptr 0 0),(50,.s (.bool false)),(51,.ptr 0 0)]) [.own [.ptr 1 0,.s (.int .i64 3),.ints .u64 16 cr,.ints .u64 16 cz,.ints .u64 16 cA] 70,.own [.vec 2,.ag 3,.s (.int .i64 cg)] 96,.vec (.ad [.arr .u8 64] (cv ((4:Int)*8))) 138,.map (.arr .u8 64) bC] (we Tryd.f8 2 45) (.mk none false 0 [] 2)
theorem as2:run (P) (lI.sum) (Tryd.f8) (sT) as1 ([])=
 Tree.ite false (.ret [.own [.ptr 1 0,.s (.int .i64 3),.ints .u64 16 cr,.ints .u64 16 cz,.ints .u64 16 cA] 70,.own [.vec 2,.ag 3,.s (.int .i64 cg)] 96,.vec (.ad [.arr .u8 64] (cv ((4:Int)*8))) 138,.map (.arr .u8 64) bC] (.s (.aI false))) (.need (bK (some [AV.ptr 0 0,.s (.str (ByteArray.mk #[(97:UInt8)]))])) (.need (bK (some [ae.own [.ptr 1 0,.s (.int .i64 3),.ints .u64 16 cr,.ints .u64 16 cz,.ints .u64 16 cA] 70,.own [.vec 2,.ag 3,.s (.int .i64 cg)] 96,.vec (.ad [.arr .u8 64] (cv ((4:Int)*8))) 138,.map (.arr .u8 64) bC])) (.need (Ds.bR (cv ((4:Int)*8)) bC cg) (.need (Bx.okW cr) (.need ((0:Int)≤3∧(3:Int)≤65536) (.ite false (.ret [.own [.ptr 1 0,.s (.int .i64 0),.ints .u64 16 (op2 (cv ((4:Int)*8)) (ByteArray.mk #[(97:UInt8)]) none bC cg 3 cr cz cA),.ints .u64 16 (op3 (cv ((4:Int)*8)) (ByteArray.mk #[(97:UInt8)]) none bC cg 3 cr cz cA),.ints .u64 16 (op4 (cv ((4:Int)*8)) (ByteArray.mk #[(97:UInt8)]) none bC cg 3 cr cz cA)] 70,.own [.vec 2,.ag 3,.s (.int .i64 (op1 (cv ((4:Int)*8)) (ByteArray.mk #[(97:UInt8)]) none bC cg 3 cr cz cA))] 96,.vec (.ad [.arr .u8 64] (cv ((4:Int)*8))) 138,.map (.arr .u8 64) (op0 (cv ((4:Int)*8)) (ByteArray.mk #[(97:UInt8)]) none bC cg 3 cr cz cA)] (.s (.aI false))) (.at (.mk (sl 63 [(0,.s (.bool false)),(2,.ptr 0 0),(55,.s (.bool false)),(56,.ptr 0 0)]) [.own [.ptr 1 0,.s (.int .i64 0),.ints .u64 16 (op2 (cv ((4:Int)*8)) (ByteArray.mk #[(97:UInt8)]) none bC cg 3 cr cz cA),.ints .u64 16 (op3 (cv ((4:Int)*8)) (ByteArray.mk #[(97:UInt8)]) none bC cg 3 cr cz cA),.ints .u64 16 (op4 (cv ((4:Int)*8)) (ByteArray.mk #[(97:UInt8)]) none bC cg 3 cr cz cA)] 70,.own [.vec 2,.ag 3,.s (.int .i64 (op1 (cv ((4:Int)*8)) (ByteArray.mk #[(97:UInt8)]) none bC cg 3 cr cz cA))] 96,.vec (.ad [.arr .u8 64] (cv ((4:Int)*8))) 138,.map (.arr .u8 64) (op0 (cv ((4:Int)*8)) (ByteArray.mk #[(97:UInt8)]) none bC cg 3 cr cz cA)] (we Tryd.f8 2 50) (.mk none false 0 [] 2))))))))):=by kernel_rfl
noncomputable def ij:Ws:=op2 (cv ((4:Int)*(8:Int))) (ByteArray.mk #[(97:UInt8)]) none bC cg (3:Int) cr cz cA
noncomputable def iX:Ws:=op3 (cv ((4:Int)*(8:Int))) (ByteArray.mk #[(97:UInt8)]) none bC cg (3:Int) cr cz cA
noncomputable def iY:Ws:=op4 (cv ((4:Int)*(8:Int))) (ByteArray.mk #[(97:UInt8)]) none bC cg (3:Int) cr cz cA
noncomputable def ik:Int:=op1 (cv ((4:Int)*(8:Int))) (ByteArray.mk #[(97:UInt8)]) none bC cg (3:Int) cr cz cA
noncomputable def im:As:=op0 (cv ((4:Int)*(8:Int))) (ByteArray.mk #[(97:UInt8)]) none bC cg (3:Int) cr cz cA
noncomputable def aqv:bx:=bx.mk (sl 63 [(0,.s (.bool false)),(2,.ptr 0 0),(55,.s (.bool false)),(56,.ptr 0 0)]) [.own [.ptr 1 0,.s (.int .i64 0),.ints .u64 16 ij,.ints .u64 16 iX,.ints .u64 16 iY] 70,.own [.vec 2,.ag 3,.s (.int .i64 ik)] 96,.vec (.ad [.arr .u8 64] (cv ((4:Int)*8))) 138,.map (.arr .u8 64) im] (we Tryd.f8 2 50) (.mk none false 0 [] 2)
theorem aqw:run (P) (lI.sum) (Tryd.f8) (sT) aqv ([])=
 Tree.ite false (.ret [.own [.ptr 1 0,.s (.int .i64 0),.ints .u64 16 ij,.ints .u64 16 iX,.ints .u64 16 iY] 70,.own [.vec 2,.ag 3,.s (.int .i64 ik)] 96,.vec (.ad [.arr .u8 64] (cv ((4:Int)*8))) 138,.map (.arr .u8 64) im] (.s (.aI false))) (.need (bK (some [AV.ptr 0 0])) (.need (bK (some [ae.own [.ptr 1 0,.s (.int .i64 0),.ints .u64 16 ij,.ints .u64 16 iX,.ints .u64 16 iY] 70,.own [.vec 2,.ag 3,.s (.int .i64 ik)] 96,.vec (.ad [.arr .u8 64] (cv ((4:Int)*8))) 138,.map (.arr .u8 64) im])) (.ite false (.ret [.own [.ptr 1 0,.s (.int .i64 0),.ints .u64 16 ij,.ints .u64 16 iX,.ints .u64 16 iY] 70,.own [.vec 2,.ag 3,.s (.int .i64 ik)] 96,.vec (.ad [.arr .u8 64] (cv ((4:Int)*8))) 138,.map (.arr .u8 64) im] (.s (.aI false))) (.at (.mk (sl 63 [(0,.s (.bool false)),(60,.ptr 0 0)]) [.own [.ptr 1 0,.s (.int .i64 0),.ints .u64 16 ij,.ints .u64 16 iX,.ints .u64 16 iY] 70,.own [.vec 2,.ag 3,.s (.int .i64 ik)] 96,.vec (.ad [.arr .u8 64] (cv ((4:Int)*8))) 138,.map (.arr .u8 64) im] (we Tryd.f8 4 1) (.mk none false 0 [] 4)))))):=by kernel_rfl
noncomputable def aqx:bx:=bx.mk (sl 63 [(0,.s (.bool false)),(60,.ptr 0 0)]) [.own [.ptr 1 0,.s (.int .i64 0),.ints .u64 16 ij,.ints .u64 16 iX,.ints .u64 16 iY] 70,.own [.vec 2,.ag 3,.s (.int .i64 ik)] 96,.vec (.ad [.arr .u8 64] (cv ((4:Int)*8))) 138,.map (.arr .u8 64) im] (we Tryd.f8 4 1) (.mk none false 0 [] 4)
theorem aqy:run (P) (lI.sum) (Tryd.f8) (sT) aqx ([])=
 Tree.need (bK (some [AV.ptr 0 0,.s (.str ByteArray.empty),.s (.str (ByteArray.mk #[(120:UInt8)]))])) (.need (bK (some [ae.own [.ptr 1 0,.s (.int .i64 0),.ints .u64 16 ij,.ints .u64 16 iX,.ints .u64 16 iY] 70,.own [.vec 2,.ag 3,.s (.int .i64 ik)] 96,.vec (.ad [.arr .u8 64] (cv ((4:Int)*8))) 138,.map (.arr .u8 64) im])) (.need (Ds.bR (cv ((4:Int)*8)) im ik) (.need (Bx.okW ij) (.need ((0:Int)≤0∧(0:Int)≤65536) (.ret [.own [.ptr 1 0,.s (.int .i64 0),.ints .u64 16 (op2 (cv ((4:Int)*8)) ByteArray.empty (some (ByteArray.mk #[(120:UInt8)])) im ik 0 ij iX iY),.ints .u64 16 (op3 (cv ((4:Int)*8)) ByteArray.empty (some (ByteArray.mk #[(120:UInt8)])) im ik 0 ij iX iY),.ints .u64 16 (op4 (cv ((4:Int)*8)) ByteArray.empty (some (ByteArray.mk #[(120:UInt8)])) im ik 0 ij iX iY)] 70,.own [.vec 2,.ag 3,.s (.int .i64 (op1 (cv ((4:Int)*8)) ByteArray.empty (some (ByteArray.mk #[(120:UInt8)])) im ik 0 ij iX iY))] 96,.vec (.ad [.arr .u8 64] (cv ((4:Int)*8))) 138,.map (.arr .u8 64) (op0 (cv ((4:Int)*8)) ByteArray.empty (some (ByteArray.mk #[(120:UInt8)])) im ik 0 ij iX iY)] (.s (.bool true))))))):=by kernel_rfl
def as3(ws:Ws):Bool:=ws.length.beq 16&&ws.all fun w=>decide (0≤w)&&decide (w<18446744073709551616)
theorem fm{ws:Ws}(h:as3 ws=true):Bx.okW ws:=by
 simp only[as3,Bool.and_eq_true,List.all_eq_true,decide_eq_true_eq]at h
 exact⟨Nat.eq_of_beq_eq_true h.1,fun w hw=>h.2 w hw⟩
theorem eI:lI.Ok P Bx.cn:=aH.Ok.cons (afp.sum mMd) (aH.Ok.cons (sC.sum mPt) (aH.Ok.cons (sD.sum mGt) (aH.Ok.cons (ab3.sum mHs) (aH.Ok.cons (amS.sum mT) (aH.Ok.cons (amT.sum mT) (aH.Ok.cons Bx.adz.sum aH.Ok.nil))))))
theorem akb:dm P Bx.cn 8 [] [cf] (fun _=>[]) (fun _=>(true,())):=by
 refine au Tryd.func8 (by kernel_rfl) (by kernel_rfl) ?_
 rintro⟨⟩ _ _ X hX hz
 show Safe P 8 X (Ends [cf] (true,())) _
 refine Lf.go hz hX eI Tryd.func8 asK ?_
 refine iI ?_
 refine iI ?_
 refine ey (by first|exact Ds.fk (by kernel_rfl)|exact fm (by kernel_rfl)|decide|exact⟨by decide,by decide⟩) ?_
 refine rr ?_
 refine Lf.go hz hX eI Tryd.func8 asM ?_
 refine kf ?_
 refine iI ?_
 refine iI ?_
 refine ey (by first|exact Ds.fk (by kernel_rfl)|exact fm (by kernel_rfl)|decide|exact⟨by decide,by decide⟩) ?_
 refine ey (by first|exact Ds.fk (by kernel_rfl)|exact fm (by kernel_rfl)|decide|exact⟨by decide,by decide⟩) ?_
 refine ey (by first|exact Ds.fk (by kernel_rfl)|exact fm (by kernel_rfl)|decide|exact⟨by decide,by decide⟩) ?_
 refine kf ?_
 refine rr ?_
 refine Lf.go hz hX eI Tryd.func8 asO ?_
 refine kf ?_
 refine iI ?_
 refine iI ?_
 refine kf ?_
 refine rr ?_
 refine Lf.go hz hX eI Tryd.func8 asQ ?_
 refine kf ?_
 refine iI ?_
 refine iI ?_
 refine ey (by first|exact Ds.fk (by kernel_rfl)|exact fm (by kernel_rfl)|decide|exact⟨by decide,by decide⟩) ?_
 refine ey (by first|exact Ds.fk (by kernel_rfl)|exact fm (by kernel_rfl)|decide|exact⟨by decide,by decide⟩) ?_
 refine kf ?_
 refine rr ?_
 refine Lf.go hz hX eI Tryd.func8 asS ?_
 refine kf ?_
 refine iI ?_
 refine iI ?_
 refine ey (by first|exact Ds.fk (by kernel_rfl)|exact fm (by kernel_rfl)|decide|exact⟨by decide,by decide⟩) ?_
 refine ey (by first|exact Ds.fk (by kernel_rfl)|exact fm (by kernel_rfl)|decide|exact⟨by decide,by decide⟩) ?_
 refine ey (by first|exact Ds.fk (by kernel_rfl)|exact fm (by kernel_rfl)|decide|exact⟨by decide,by decide⟩) ?_
 refine kf ?_
 refine rr ?_
 refine Lf.go hz hX eI Tryd.func8 asU ?_
 refine kf ?_
 refine iI ?_
 refine iI ?_
 refine kf ?_
 refine rr ?_
 refine Lf.go hz hX eI Tryd.func8 asW ?_
 refine kf ?_
 refine iI ?_
 refine iI ?_
 refine kf ?_
 refine rr ?_
 refine Lf.go hz hX eI Tryd.func8 asY ?_
 refine kf ?_
 refine iI ?_
 refine iI ?_
 refine kf ?_
 refine rr ?_
 refine Lf.go hz hX eI Tryd.func8 as0 ?_
 refine kf ?_
 refine iI ?_
 refine iI ?_
 refine ey (by first|exact Ds.fk (by kernel_rfl)|exact fm (by kernel_rfl)|decide|exact⟨by decide,by decide⟩) ?_
 refine ey (by first|exact Ds.fk (by kernel_rfl)|exact fm (by kernel_rfl)|decide|exact⟨by decide,by decide⟩) ?_
 refine kf ?_
 refine rr ?_
 refine Lf.go hz hX eI Tryd.func8 as2 ?_
 refine kf ?_
 refine iI ?_
 refine iI ?_
 refine ey (by first|exact Ds.fk (by kernel_rfl)|exact fm (by kernel_rfl)|decide|exact⟨by decide,by decide⟩) ?_
 refine ey (by first|exact Ds.fk (by kernel_rfl)|exact fm (by kernel_rfl)|decide|exact⟨by decide,by decide⟩) ?_
 refine ey (by first|exact Ds.fk (by kernel_rfl)|exact fm (by kernel_rfl)|decide|exact⟨by decide,by decide⟩) ?_
 refine kf ?_
 refine rr ?_
 refine Lf.go hz hX eI Tryd.func8 aqw ?_
 refine kf ?_
 refine iI ?_
 refine iI ?_
 refine kf ?_
 refine rr ?_
 refine Lf.go hz hX eI Tryd.func8 aqy ?_
 refine iI ?_
 refine iI ?_
 refine ey (by first|exact Ds.fk (by kernel_rfl)|exact fm (by kernel_rfl)|decide|exact⟨by decide,by decide⟩) ?_
 refine ey (by first|exact Ds.fk (by kernel_rfl)|exact fm (by kernel_rfl)|decide|exact⟨by decide,by decide⟩) ?_
 refine ey (by first|exact Ds.fk (by kernel_rfl)|exact fm (by kernel_rfl)|decide|exact⟨by decide,by decide⟩) ?_
 refine ain ?_
 exact aT (true,()) rfl (by kernel_rfl)
abbrev auG:=bW [] [cf] (fun _=>[]) (fun _=>(true,()))
end Ts
namespace Ts
open Go Go.Sx Go.Proofs Lf
abbrev iN:List CK:=[.int .u8,.str,.str]
abbrev stK(x:CL iN):Int:=x.1
abbrev stA(x:CL iN):ByteArray:=x.2.1
abbrev stV(x:CL iN):ByteArray:=x.2.2.1
abbrev ju(l:List (CL iN)):AV:=.s (.ro (.ad iN l))
def akc:List (Nat×Norm):=[(3,⟨[],[0,3,4],0,[]⟩),(6,⟨[],[0,3],0,[]⟩)]
noncomputable def cLg(l:List (CL iN))(i:Int):bx:=⟨sl 38 [(0,ju l),(3,.s (.nQ .i64)),(4,bQ i)],[],hd Tryd.f9 3,{}⟩
noncomputable def as4(l:List (CL iN)):bx:=⟨sl 38 [(0,ju l),(3,.s (.nQ .i64))],[],hr Tryd.f9 6,{}⟩
theorem aqz(l:List (CL iN)):run P (aH.sum []) Tryd.f9 akc (start Tryd.f9 [ju l] [])=
 Tree.at (.mk (sl 38 [(0,.s (.ro (.ad iN l))),(3,.s (.int .i64 0)),(4,.s (.int .i64 0))]) [] (hd Tryd.f9 3) (.mk none false 0 [] 0)):=by kernel_rfl
theorem akd(l:List (CL iN))(i:Int):run P (aH.sum []) Tryd.f9 akc (cLg l i)=
 Tree.ite (decide (i<(↑l.length:Int))) (.both ((0:Nat)=0) True (.need ((0:Int)≤i) (.need (i<(↑l.length:Int)) (.need ((0:Int)≤i) (.need (i<(↑l.length:Int)) (.need (ax (i+1)) (.at (.mk (sl 38 [(0,.s (.ro (.ad iN l))),(3,.s (.nQ .i64)),(4,.s (.int .i64 (i+1)))]) [] (hd Tryd.f9 3) (.mk none false 0 [] 0)))))))) (.at (.mk (sl 38 [(0,.s (.ro (.ad iN l))),(3,.s (.nQ .i64))]) [] (hr Tryd.f9 6) (.mk none false 0 [] 0)))) (.at (.mk (sl 38 [(0,.s (.ro (.ad iN l))),(3,.s (.nQ .i64))]) [] (hr Tryd.f9 6) (.mk none false 0 [] 0))):=by kernel_rfl
theorem amU(l:List (CL iN)):run P (aH.sum []) Tryd.f9 akc (as4 l)=
 Tree.both ((0:Nat)=0) True (.ret [] (.s (.aI true))) (.ret [] (.s (.bool (decide ((↑l.length:Int)>90))))):=by kernel_rfl
abbrev sLg:Spec (List (CL iN)):=⟨fun l=>[ju l],fun _=>[],fun l=>[l.length≤9223372036854775807],fun _=>[],fun l=>.s (.j8 (l.length - 90) false)⟩
def stOp(k:Int)(v:ByteArray):Option ByteArray:=if k=2 then none else some v
def do0(th:Th)(k:Int)(key val:ByteArray)(m:As)(fu root:Int)(fr fs gn:Ws):As:=(sw th key (stOp k val) m fu root fr fs gn).1
def do1(th:Th)(k:Int)(key val:ByteArray)(m:As)(fu root:Int)(fr fs gn:Ws):Int:=(sw th key (stOp k val) m fu root fr fs gn).2.1
def doR(th:Th)(k:Int)(key val:ByteArray)(m:As)(fu root:Int)(fr fs gn:Ws):Int:=(sw th key (stOp k val) m fu root fr fs gn).2.2.1
def do2(th:Th)(k:Int)(key val:ByteArray)(m:As)(fu root:Int)(fr fs gn:Ws):Ws:=(sw th key (stOp k val) m fu root fr fs gn).2.2.2.1
def do3(th:Th)(k:Int)(key val:ByteArray)(m:As)(fu root:Int)(fr fs gn:Ws):Ws:=(sw th key (stOp k val) m fu root fr fs gn).2.2.2.2.1
def do4(th:Th)(k:Int)(key val:ByteArray)(m:As)(fu root:Int)(fr fs gn:Ws):Ws:=(sw th key (stOp k val) m fu root fr fs gn).2.2.2.2.2.1
def doX(th:Th)(k:Int)(key val:ByteArray)(m:As)(fu root:Int)(fr fs gn:Ws):Int:=(sw th key (stOp k val) m fu root fr fs gn).2.2.2.2.2.2
abbrev XS:Type:=XT×Int×ByteArray×ByteArray
abbrev sDo:Spec XS:=⟨fun(_,k,key,val)=>[.agg [.s (.int .u8 k),.s (.str key),.s (.str val)],.ptr 0 0],fun((th,m,fu,root,fr,fs,gn),_)=>hT th m fu root fr fs gn,fun((th,m,fu,root,fr,_,_),_)=>aqs th m fu root fr,
 fun((th,m,fu,root,fr,fs,gn),k,key,val)=>hT th (do0 th k key val m fu root fr fs gn) (do1 th k key val m fu root fr fs gn) (doR th k key val m fu root fr fs gn) (do2 th k key val m fu root fr fs gn) (do3 th k key val m fu root fr fs gn) (do4 th k key val m fu root fr fs gn),
 fun((th,m,fu,root,fr,fs,gn),k,key,val)=>bQ (doX th k key val m fu root fr fs gn)⟩
def as5:aH:=[(24,aj9),(25,aka)]
theorem auH(th:Th)(m:As)(fu root:Int)(fr fs gn:Ws)(k:Int)(key val:ByteArray):run P as5.sum Tryd.f14 [] (start Tryd.f14 [.agg [.s (.int .u8 k),.s (.str key),.s (.str val)],.ptr 0 0] (hT th m fu root fr fs gn))=
 Tree.ite (k==2) (.need (bK (some [AV.ptr 0 0,.s (.str key)])) (.need (bK (some [ae.own [.ptr 1 0,.s (.int .i64 root),.ints .u64 16 fr,.ints .u64 16 fs,.ints .u64 16 gn] 70,.own [.vec 2,.ag 3,.s (.int .i64 fu)] 96,.vec (.ad [.arr .u8 64] th) 138,.map (.arr .u8 64) m])) (.need (Ds.bR th m fu) (.need (Bx.okW fr) (.need ((0:Int)≤root∧root≤65536) (.ret [.own [.ptr 1 0,.s (.int .i64 (wb th key none m fu root fr fs gn)),.ints .u64 16 (op2 th key none m fu root fr fs gn),.ints .u64 16 (op3 th key none m fu root fr fs gn),.ints .u64 16 (op4 th key none m fu root fr fs gn)] 70,.own [.vec 2,.ag 3,.s (.int .i64 (op1 th key none m fu root fr fs gn))] 96,.vec (.ad [.arr .u8 64] th) 138,.map (.arr .u8 64) (op0 th key none m fu root fr fs gn),.own [.s (.int .u8 k),.s (.str key),.s (.str val)] 32] (.s (.int .i64 (opE th key none m fu root fr fs gn))))))))) (.need (bK (some [AV.ptr 0 0,.s (.str key),.s (.str val)])) (.need (bK (some [ae.own [.ptr 1 0,.s (.int .i64 root),.ints .u64 16 fr,.ints .u64 16 fs,.ints .u64 16 gn] 70,.own [.vec 2,.ag 3,.s (.int .i64 fu)] 96,.vec (.ad [.arr .u8 64] th) 138,.map (.arr .u8 64) m])) (.need (Ds.bR th m fu) (.need (Bx.okW fr) (.need ((0:Int)≤root∧root≤65536) (.ret [.own [.ptr 1 0,.s (.int .i64 (wb th key (some val) m fu root fr fs gn)),.ints .u64 16 (op2 th key (some val) m fu root fr fs gn),.ints .u64 16 (op3 th key (some val) m fu root fr fs gn),.ints .u64 16 (op4 th key (some val) m fu root fr fs gn)] 70,.own [.vec 2,.ag 3,.s (.int .i64 (op1 th key (some val) m fu root fr fs gn))] 96,.vec (.ad [.arr .u8 64] th) 138,.map (.arr .u8 64) (op0 th key (some val) m fu root fr fs gn),.own [.s (.int .u8 k),.s (.str key),.s (.str val)] 32] (.s (.int .i64 (opE th key (some val) m fu root fr fs gn))))))))):=by kernel_rfl
def as6:List (Nat×Norm):=[(3,⟨[],[0,1,2,7,8],0,[]⟩)]
noncomputable def cIs(l qM:List En)(from_:ByteArray)(n i:Int):bx:=⟨sl 43 [(0,.s (.ro (.ad cE l))),(1,.s (.ro (.ad cE qM))),(2,.s (.str from_)),(7,bQ n),(8,bQ i)],[],hd Tryd.f13 3,{}⟩
theorem auI(l qM:List En)(from_:ByteArray):run P (aH.sum []) Tryd.f13 as6 (start Tryd.f13 [.s (.ro (.ad cE l)),.s (.ro (.ad cE qM)),.s (.str from_)] [])=
 Tree.at (.mk (sl 43 [(0,.s (.ro (.ad [.str,.str] l))),(1,.s (.ro (.ad [.str,.str] qM))),(2,.s (.str from_)),(7,.s (.int .i64 0)),(8,.s (.int .i64 0))]) [] (hd Tryd.f13 3) (.mk none false 0 [] 0)):=by kernel_rfl
theorem as7(l qM:List En)(from_:ByteArray)(n i:Int):run P (aH.sum []) Tryd.f13 as6 (cIs l qM from_ n i)=
 Tree.ite (decide (i<(↑l.length:Int))) (.need ((0:Int)≤i) (.need (i<(↑l.length:Int)) (.ite (slt (l.getD i.toNat (CL.d [.str,.str])).fst from_) (.need (ax (i+1)) (.at (.mk (sl 43 [(0,.s (.ro (.ad [.str,.str] l))),(1,.s (.ro (.ad [.str,.str] qM))),(2,.s (.str from_)),(7,.s (.int .i64 n)),(8,.s (.int .i64 (i+1)))]) [] (hd Tryd.f13 3) (.mk none false 0 [] 0)))) (.ite (decide (n≥(↑qM.length:Int))) (.ret [] (.s (.aI false))) (.need ((0:Int)≤n) (.need (n<(↑qM.length:Int)) (.need ((0:Int)≤i) (.need (i<(↑l.length:Int)) (.ite (!(decide ((qM.getD n.toNat (CL.d [.str,.str])).fst=(l.getD i.toNat (CL.d [.str,.str])).fst)&&(decide ((qM.getD n.toNat (CL.d [.str,.str])).snd.fst=(l.getD i.toNat (CL.d [.str,.str])).snd.fst)&&true))) (.ret [] (.s (.aI false))) (.need (ax (n+1)) (.need (ax (i+1)) (.at (.mk (sl 43 [(0,.s (.ro (.ad [.str,.str] l))),(1,.s (.ro (.ad [.str,.str] qM))),(2,.s (.str from_)),(7,.s (.int .i64 (n+1))),(8,.s (.int .i64 (i+1)))]) [] (hd Tryd.f13 3) (.mk none false 0 [] 0)))))))))))))) (.ret [] (.s (.bool (n==(↑qM.length:Int))))):=by kernel_rfl
theorem as8{Z:a8}:ke P Z 9 sLg:=by
 refine qi Tryd.func9 (by kernel_rfl) (fun x=>Nat.le_of_ble_eq_true (by kernel_rfl)) ?_
 rintro(l:List (CL iN)) ⟨(hl:l.length≤9223372036854775807),_⟩ X hX hz
 have sN:∀x∈akc,(sLg.heap l).length≤x.2.m:=by intro y hy;simp[akc]at hy;rcases hy with rfl|rfl<;>exact Nat.le_refl _
 have fin:Safe P 9 X (ais sLg l) (as4 l):=by
  refine Ds.eH hz hX sN aH.Ok.nil Tryd.func9 (amU l) ⟨fun _=> ?_,fun _=> ?_⟩
  ·exact⟨⟨[],[0],0,[]⟩,.s (.bool true),Nat.le_refl _,by kernel_rfl,fun ρ H O w v hv=>by
    have:=ah (by simp) hv
    cases this
    exact aq (.j8 _ _ _ (fun h=>by cases h))⟩
  ·exact⟨⟨[],[0],0,[]⟩,.s (.bool (decide ((l.length:Int)>90))),Nat.le_refl _,by kernel_rfl,fun ρ H O w v hv=>by
    have:=ah (by simp) hv
    cases this
    exact aq (.j8 _ _ _ (fun h=>by have:=of_decide_eq_false h;omega))⟩
 have loop:∀(j k:Nat),k+j=l.length→Safe P 9 X (ais sLg l) (cLg l (k:Int)):=by
  intro j
  induction j with
  |zero=>
   intro k hk
   exact Ds.eH hz hX sN aH.Ok.nil Tryd.func9 (akd l k) ⟨fun h=>absurd (of_decide_eq_true h) (by omega),fun _=>fin⟩
  |succ j ih=>
   intro k hk
   exact Ds.eH hz hX sN aH.Ok.nil Tryd.func9 (akd l k) ⟨fun _=>⟨fun _=>⟨by omega,by omega,by omega,by omega,⟨by omega,by omega⟩,ih (k+1) (by omega)⟩,fun _=>fin⟩,fun _=>fin⟩
 refine Ds.eH hz hX sN aH.Ok.nil Tryd.func9 (aqz l) ?_
 exact aa0 (t:=3) (k:=.i64) (n:=0) rfl (loop l.length 0 (by omega))
theorem aox{th:Th}{m:As}{fu root:Int}{fr fs gn:Ws}{k:Int}{key val:ByteArray}{op:Option ByteArray}(e:stOp k val=op):
 sDo.fi ((th,m,fu,root,fr,fs,gn),k,key,val)=hT th (op0 th key op m fu root fr fs gn) (op1 th key op m fu root fr fs gn) (wb th key op m fu root fr fs gn) (op2 th key op m fu root fr fs gn) (op3 th key op m fu root fr fs gn) (op4 th key op m fu root fr fs gn)∧
 sDo.out ((th,m,fu,root,fr,fs,gn),k,key,val)=bQ (opE th key op m fu root fr fs gn):=by
 subst e;exact⟨rfl,rfl⟩
theorem as9:ke P Bx.cn 14 sDo:=by
 refine aR Tryd.func14 (by kernel_rfl) (fun x=>Nat.le_of_ble_eq_true (by kernel_rfl)) ?_
 rintro⟨⟨(th:Th),(m:As),(fu:Int),(root:Int),(fr:Ws),(fs:Ws),(gn:Ws)⟩,(k:Int),(key:ByteArray),(val:ByteArray)⟩ ⟨(hd:Ds.bR th m fu),(hf:Bx.okW fr),(hr:0≤root∧root≤65536),_⟩ X hX hz
 refine Ds.eH hz hX (by intro y hy;cases hy) (aH.Ok.cons (sC.sum mPt) (aH.Ok.cons (sD.sum mGt) aH.Ok.nil)) Tryd.func14 (auH th m fu root fr fs gn k key val) ⟨fun h=>⟨rfl,rfl,hd,hf,hr, ?_⟩,fun h=>⟨rfl,rfl,hd,hf,hr, ?_⟩⟩
 ·obtain⟨f1,f2⟩:=aox (th:=th) (m:=m) (fu:=fu) (root:=root) (fr:=fr) (fs:=fs) (gn:=gn) (key:=key) (show stOp k val=none from if_pos (by simpa using h))
  exact ch 4 rfl (Nat.le_refl _) f2 f1
 ·obtain⟨f1,f2⟩:=aox (th:=th) (m:=m) (fu:=fu) (root:=root) (fr:=fr) (fs:=fs) (gn:=gn) (key:=key) (show stOp k val=some val from if_neg (by simpa using h))
  exact ch 4 rfl (Nat.le_refl _) f2 f1
theorem ata{Z:a8}:dm P Z 13 [nX,nX,dD] [cf] (fun(l,qM,from_,())=>[(qM:List En)=List.filter (pr from_) l,(l:List En).length≤100000]) (fun _=>(true,())):=by
 refine au Tryd.func13 (by kernel_rfl) (by kernel_rfl) ?_
 rintro⟨(l:List En),(qM:List En),(from_:ByteArray),⟨⟩⟩ _ ⟨(hg:qM=l.filter (pr from_)),(hl:l.length≤100000),_⟩ X hX hz
 show Safe P 13 X (Ends [cf] (true,())) _
 have split:∀k,qM=(l.take k).filter (pr from_)++(l.drop k).filter (pr from_):=fun k=>by rw[hg,←List.filter_append,List.take_append_drop]
 have loop:∀(j k:Nat),k+j=l.length→Safe P 13 X (Ends [cf] (true,())) (cIs l qM from_ (((l.take k).filter (pr from_)).length:Int) (k:Int)):=by
  intro j
  induction j with
  |zero=>
   intro k hk
   refine Lf.go hz hX aH.Ok.nil Tryd.func13 (as7 l qM from_ _ k) ⟨fun h=>absurd (of_decide_eq_true h) (by omega),fun _=> ?_⟩
   have e:((((l.take k).filter (pr from_)).length:Int)==(qM.length:Int))=true:=by
    rw[List.take_of_length_le (by omega),←hg];simp
   rw[e]
   exact zh
  |succ j ih=>
   intro k hk
   have s1:=sF (p:=pr from_) (l:=l) (k:=k) (d:=dE) (by omega)
   have s2:=split k
   rw[drop_cons dE (by omega)]at s2
   have hle:=filter_le (pr from_) (l.take k)
   rw[List.length_take]at hle
   have hlg:=congrArg List.length s2
   refine Lf.go hz hX aH.Ok.nil Tryd.func13 (as7 l qM from_ _ k) ⟨fun _=>⟨by omega,by omega,fun h2=>⟨⟨by omega,by omega⟩, ?_⟩,fun h2=> ?_⟩,fun h=>absurd (of_decide_eq_false h) (by omega)⟩
   ·have h2:slt (l.getD k dE).1 from_=true:=h2
    rw[if_neg (by unfold pr;rw[h2];simp),List.append_nil]at s1
    have:=ih (k+1) (by omega)
    rw[s1]at this
    exact this
   ·have h2:slt (l.getD k dE).1 from_=false:=h2
    have hge:pr from_ (l.getD k dE)=true:=by unfold pr;rw[h2];rfl
    rw[List.filter_cons_of_pos hge]at s2 hlg
    rw[List.length_append,List.length_cons]at hlg
    rw[if_pos hge]at s1
    have hat:qM.getD ((l.take k).filter (pr from_)).length dE=l.getD k dE:=by
     rw[s2,List.getD,List.getElem?_append_right (Nat.le_refl _),Nat.sub_self];rfl
    refine⟨fun h3=>absurd (of_decide_eq_true h3) (by omega),fun _=>⟨by omega,by omega,by omega,by omega,fun h4=> ?_,fun _=>⟨⟨by omega,by omega⟩,⟨by omega,by omega⟩, ?_⟩⟩⟩
    ·exfalso
     have h4:(!(decide ((qM.getD ((l.take k).filter (pr from_)).length dE).1=(l.getD k dE).1)&&(decide ((qM.getD ((l.take k).filter (pr from_)).length dE).2.1=(l.getD k dE).2.1)&&true)))=true:=h4
     rw[hat,decide_eq_true rfl,decide_eq_true rfl]at h4
     cases h4
    ·have:=ih (k+1) (by omega)
     rw[s1,List.length_append]at this
     exact this
 exact Lf.go hz hX aH.Ok.nil Tryd.func13 (auI l qM from_) (loop l.length 0 (by omega))
end Ts
namespace Ts
open Go Go.Sx Go.Proofs Lf
def sS(th:Th)(s:S5)(l:Bool)(es:List En)(bs:List Br):S5:=
 ⟨(bh th s.m s.fu s.fr s.fs l es bs).1,(bh th s.m s.fu s.fr s.fs l es bs).2.1,(bh th s.m s.fu s.fr s.fs l es bs).2.2.1,(bh th s.m s.fu s.fr s.fs l es bs).2.2.2.1,s.gn⟩
def sL(th:Th)(s:S5)(l:Bool)(es:List En)(bs:List Br):List Br:=(bh th s.m s.fu s.fr s.fs l es bs).2.2.2.2.1
def sE(th:Th)(s:S5)(l:Bool)(es:List En)(bs:List Br):Int:=(bh th s.m s.fu s.fr s.fs l es bs).2.2.2.2.2
def Bad(th:Th)(s t:S5)(k:Nat)(e:Int):Prop:=∃N,qC th s t N []∧N.length≤k∧((e=41∧∀p,In s.fr p→p∈N)∨(e=42∧t.fu=0))
theorem nw(bs:List Br):aa (aa bs)=aa bs:=by cases bs<;>rfl
theorem adP{bs:List Br}{k:Nat}(h:aa bs=bs):aa (bs.take k)=bs.take k:=by
 cases bs with
 |nil=>simp[aa]
 |cons b r=>
  cases k with
  |zero=>rfl
  |succ k=>
   simp only[aa,List.cons.injEq]at h
   simp[aa,h.1]
theorem zT{th:Th}{s:S5}{l:Bool}{es:List En}{bs:List Br}(ho:xx th s)(hm:cT l es (aa bs)=true)(hz:ba es (aa bs)≤254):
 (wE th s l es bs=0∧∃n,qC th s (wS th s l es bs) [n] []∧wB th s l es bs=(cM l es bs,n,())∧Rd th (wS th s l es bs).m n l es (aa bs))∨(wE th s l es bs≠0∧Bad th s (wS th s l es bs) 0 (wE th s l es bs)):=by
 rcases aql ho hm hz with h|⟨h1,h2,h3⟩|⟨h1,h2,h3⟩
 ·exact .inl h
 ·exact .inr ⟨by rw[h1];decide,[],by rw[h2];exact gN ho,Nat.le_refl _,.inl ⟨h1,fun p hp=>absurd hp (h3 p)⟩⟩
 ·exact .inr ⟨by rw[h1];decide,[],h2,Nat.le_refl _,.inr ⟨h1,h3⟩⟩
theorem afq{th:Th}{s:S5}{l:Bool}{es:List En}{bs:List Br}(ho:xx th s)(h:es.length+bs.length=0):sE th s l es bs=0∧sL th s l es bs=[]∧qC th s (sS th s l es bs) [] []:=by
 have e:bh th s.m s.fu s.fr s.fs l es bs=(s.m,s.fu,s.fr,s.fs,[],0):=by unfold bh;rw[if_pos h]
 refine⟨by unfold sE;rw[e],by unfold sL;rw[e], ?_⟩
 have:sS th s l es bs=s:=by unfold sS;rw[e]
 rw[this];exact gN ho
theorem ake{th:Th}{s:S5}{l:Bool}{es:List En}{bs:List Br}(ho:xx th s)(h:0<es.length+bs.length)(hm:cT l es (aa bs)=true)(hz:ba es (aa bs)≤254):
 (sE th s l es bs=0∧∃n,qC th s (sS th s l es bs) [n] []∧sL th s l es bs=[(cM l es (aa bs),n,())]∧Rd th (sS th s l es bs).m n l es (aa bs))∨(sE th s l es bs≠0∧Bad th s (sS th s l es bs) 1 (sE th s l es bs)):=by
 have e1:sE th s l es bs=wE th s l es (aa bs):=by unfold sE wE bh;rw[if_neg (by omega),if_pos hz]
 have e2:sS th s l es bs=wS th s l es (aa bs):=by unfold sS wS bh;rw[if_neg (by omega),if_pos hz]
 have e3:sL th s l es bs=[wB th s l es (aa bs)]:=by unfold sL wB bh;rw[if_neg (by omega),if_pos hz]
 rw[e1,e2,e3]
 have:=zT (bs:=aa bs) ho (by rw[nw];exact hm) (by rw[nw];exact hz)
 rw[nw]at this
 rcases this with⟨a,n,b,c,d⟩|⟨a,N,b,c,d⟩
 ·exact .inl ⟨a,n,b,by rw[c],d⟩
 ·exact .inr ⟨a,N,b,Nat.le_succ_of_le c,d⟩
theorem akf{th:Th}{s:S5}{l:Bool}{es:List En}{bs:List Br}(ho:xx th s)(h:0<es.length+bs.length)(hz:¬ba es (aa bs)≤254)(ok:di l es (aa bs)=true)
 (z1:ba (aX l es (aa bs)) (aa (a6 l es (aa bs)))≤254) (z2:ba (cF l es (aa bs)) (aa (cN l es (aa bs)))≤254)
 (m1:cT (bI l es (aa bs)) (aX l es (aa bs)) (aa (a6 l es (aa bs)))=true) (m2:cT (bI l es (aa bs)) (cF l es (aa bs)) (aa (cN l es (aa bs)))=true):
 (sE th s l es bs=0∧∃a b,qC th s (sS th s l es bs) [a,b] []∧sL th s l es bs=[(cM (bI l es (aa bs)) (aX l es (aa bs)) (a6 l es (aa bs)),a,()),(cM (bI l es (aa bs)) (cF l es (aa bs)) (cN l es (aa bs)),b,())]∧
   Rd th (sS th s l es bs).m a (bI l es (aa bs)) (aX l es (aa bs)) (aa (a6 l es (aa bs)))∧Rd th (sS th s l es bs).m b (bI l es (aa bs)) (cF l es (aa bs)) (aa (cN l es (aa bs))))∨(sE th s l es bs≠0∧Bad th s (sS th s l es bs) 1 (sE th s l es bs)):=by
 have zZ:¬spC l es (aa bs)≠0:=by unfold spC;rw[if_pos ok];simp
 have ed:bh th s.m s.fu s.fr s.fs l es bs=if wE th s (bI l es (aa bs)) (aX l es (aa bs)) (a6 l es (aa bs))≠0 then
  ((wS th s (bI l es (aa bs)) (aX l es (aa bs)) (a6 l es (aa bs))).m,(wS th s (bI l es (aa bs)) (aX l es (aa bs)) (a6 l es (aa bs))).fu,(wS th s (bI l es (aa bs)) (aX l es (aa bs)) (a6 l es (aa bs))).fr,(wS th s (bI l es (aa bs)) (aX l es (aa bs)) (a6 l es (aa bs))).fs,[],wE th s (bI l es (aa bs)) (aX l es (aa bs)) (a6 l es (aa bs)))
  else((wS th (wS th s (bI l es (aa bs)) (aX l es (aa bs)) (a6 l es (aa bs))) (bI l es (aa bs)) (cF l es (aa bs)) (cN l es (aa bs))).m,(wS th (wS th s (bI l es (aa bs)) (aX l es (aa bs)) (a6 l es (aa bs))) (bI l es (aa bs)) (cF l es (aa bs)) (cN l es (aa bs))).fu,
   (wS th (wS th s (bI l es (aa bs)) (aX l es (aa bs)) (a6 l es (aa bs))) (bI l es (aa bs)) (cF l es (aa bs)) (cN l es (aa bs))).fr,(wS th (wS th s (bI l es (aa bs)) (aX l es (aa bs)) (a6 l es (aa bs))) (bI l es (aa bs)) (cF l es (aa bs)) (cN l es (aa bs))).fs,
   [wB th s (bI l es (aa bs)) (aX l es (aa bs)) (a6 l es (aa bs)),wB th (wS th s (bI l es (aa bs)) (aX l es (aa bs)) (a6 l es (aa bs))) (bI l es (aa bs)) (cF l es (aa bs)) (cN l es (aa bs))],wE th (wS th s (bI l es (aa bs)) (aX l es (aa bs)) (a6 l es (aa bs))) (bI l es (aa bs)) (cF l es (aa bs)) (cN l es (aa bs))):=by
  unfold bh
  rw[if_neg (by omega),if_neg hz,if_neg zZ]
  rfl
 generalize bI l es (aa bs)=L at *
 generalize aX l es (aa bs)=E1 at *
 generalize cF l es (aa bs)=E2 at *
 generalize a6 l es (aa bs)=B1 at *
 generalize cN l es (aa bs)=B2 at *
 rcases zT ho m1 z1 with⟨a,n,b,c,d⟩|⟨a,N,b,c,d⟩
 ·rw[if_neg (by rw[a];simp)]at ed
  have ho2:=b.ok
  have e2:sS th s l es bs=wS th (wS th s L E1 B1) L E2 B2:=by unfold sS;rw[ed];rfl
  have e3:sL th s l es bs=[wB th s L E1 B1,wB th (wS th s L E1 B1) L E2 B2]:=by unfold sL;rw[ed]
  have e4:sE th s l es bs=wE th (wS th s L E1 B1) L E2 B2:=by unfold sE;rw[ed]
  rw[e2,e3,e4]
  rcases zT ho2 m2 z2 with⟨a2,n2,b2,c2,d2⟩|⟨a2,N2,b2,c2,d2⟩
  ·refine .inl ⟨a2,n,n2,eJ b b2 (fun p hp=>by cases hp),by rw[c,c2], ?_,d2⟩
   exact Rd.same d (b2.rd n (fun hh=>((b.fr n).1 hh).2 List.mem_cons_self))
  ·refine .inr ⟨a2,[n]++N2,eJ b b2 (fun p hp=>by cases hp),by rw[List.length_append,List.length_singleton];omega,d2.imp (fun h=>⟨h.1,fun p hp=> ?_⟩) id⟩
   by_cases hpn:p∈[n]
   ·exact List.mem_append_left _ hpn
   ·exact List.mem_append_right _ (h.2 p ((b.fr p).2 ⟨hp,hpn⟩))
 ·rw[if_pos a]at ed
  have e2:sS th s l es bs=wS th s L E1 B1:=by unfold sS;rw[ed];rfl
  have e4:sE th s l es bs=wE th s L E1 B1:=by unfold sE;rw[ed]
  rw[e2,e4]
  exact .inr ⟨a,N,b,Nat.le_succ_of_le c,d⟩
end Ts
namespace Ts
open Go Go.Sx Go.Proofs Lf
structure For (th:Th) (m:As) (h:Nat) (F:List (Kd h)):Prop where
 bare:bO F=F
 rep:∀k∈F,rep th m h k.2
 ok:∀k∈F,py h k.2
 sep:abH h F
 key:∀k∈F,k.1.size≤24
 pg:∀k∈F,2≤pg h k.2∧pg h k.2<1024
theorem afr{th:Th}{m:As}{h:Nat}:For th m h []:=⟨rfl,fun k hk=>(by cases hk),fun k hk=>(by cases hk),⟨List.Pairwise.nil,fun k hk=>(by cases hk)⟩,fun k hk=>(by cases hk),fun k hk=>(by cases hk)⟩
theorem afs{th:Th}{m:As}{h:Nat}{t:TN h}(h1:rep th m h t)(h2:py h t)(h3:2≤pg h t∧pg h t<1024):For th m h [(ByteArray.empty,t)]:=
 ⟨rfl,fun k hk=>by rw[List.mem_singleton.1 hk];exact h1,fun k hk=>by rw[List.mem_singleton.1 hk];exact h2,⟨List.pairwise_singleton _ _,fun k hk e _=>by rw[List.mem_singleton.1 hk];exact ib _⟩,
   fun k hk=>by rw[List.mem_singleton.1 hk];exact Nat.zero_le _,fun k hk=>by rw[List.mem_singleton.1 hk];exact h3⟩
theorem aft{th:Th}{m:As}{h:Nat}{t u:TN h}{s:ByteArray}(h1:rep th m h t)(h2:py h t)(h3:2≤pg h t∧pg h t<1024)(g1:rep th m h u)(g2:py h u)(g3:2≤pg h u∧pg h u<1024)
 (hs:s.size≤24) (a:∀e∈dC h t,slt e.1 s=true) (b:∀e∈dC h u,slt e.1 s=false):For th m h [(ByteArray.empty,t),(s,u)]:=by
 have two:∀{p:Kd h→Prop},p (ByteArray.empty,t)→p (s,u)→∀k∈[((ByteArray.empty,t):Kd h),(s,u)],p k:=fun hp hq k hk=>by
  rcases List.mem_cons.1 hk with rfl|hk
  ·exact hp
  ·rw[List.mem_singleton.1 hk];exact hq
 refine⟨rfl,two h1 g1,two h2 g2,⟨?_,two (p:=fun k=>∀e∈dC h k.2,slt e.1 k.1=false) (fun e _=>ib _) b⟩,two (Nat.zero_le _) hs,two h3 g3⟩
 rw[List.pairwise_cons]
 exact⟨fun k hk e he=>by rw[List.mem_singleton.1 hk];exact a e he,List.pairwise_singleton _ _⟩
theorem For.same{th:Th}{s t:S5}{N V:List Int}(e:qC th s t N V){h:Nat}{F:List (Kd h)}(f:For th s.m h F)(hp:∀p∈bJ h F,¬In s.fr p):For th t.m h F:=
 ⟨f.bare,fun k hk=>e.rep h (f.rep k hk) fun p jW=>hp p (List.mem_flatMap.2 ⟨k,hk,jW⟩),f.ok,f.sep,f.key,f.pg⟩
theorem rQ{th:Th}{s:S5}(ho:xx th s){n:Int}(h:In s.fr n):2≤n∧n<1024:=⟨(ho.pg n h).1,(nq ho.fr h).2⟩
theorem amV{th:Th}{s:S5}{es:List En}(ho:xx th s)(jO:jr es=true)(zZ:¬ba es []≤254→di true es []=true∧ba (aX true es []) []≤254∧ba (cF true es []) []≤254∧
 ∃k,0<k∧k<es.length∧aX true es []=es.take k∧cF true es []=es.drop k∧a6 true es []=[]∧cN true es []=[]∧bI true es []=true):
 (sE th s true es []=0∧∃(N:List Int) (k0:ByteArray) (F:List (Kd 0)),qC th s (sS th s true es []) N []∧N.length≤2∧sL th s true es []=kK k0 (F.map (cH 0))∧For th (sS th s true es []).m 0 F∧bH 0 F=es∧bJ 0 F=N∧F.length≤2∧(ba es []≤254→F.length≤1))∨
 (sE th s true es []≠0∧Bad th s (sS th s true es []) 1 (sE th s true es [])):=by
 have hm:=asi jO
 by_cases h0:es.length=0
 ·obtain⟨a,b,c⟩:=afq (l:=true) (es:=es) (bs:=[]) ho (by rw[h0];rfl)
  obtain rfl:es=[]:=List.eq_nil_of_length_eq_zero h0
  exact .inl ⟨a,[],ByteArray.empty,[],c,Nat.zero_le _,b,afr,rfl,rfl,Nat.zero_le _,fun _=>Nat.zero_le _⟩
 by_cases hz:ba es []≤254
 ·rcases ake (l:=true) (es:=es) (bs:=[]) ho (by simp only[List.length_nil];omega) hm hz with⟨a,n,b,c,d⟩|h
  ·refine .inl ⟨a,[n],cM true es [],[(ByteArray.empty,(n,es))],b,by simp,c,afs d ⟨fun e=>h0 (by show es.length=0;rw[show es=[]from e];rfl),jO,hz⟩ (rQ ho (b.sub n List.mem_cons_self)), ?_,rfl,by simp,fun _=>by simp⟩
   show es++[]=es
   rw[List.append_nil]
  ·exact .inr h
 ·obtain⟨ok,z1,z2,k,k0,k1,e1,e2,e3,e4,e5⟩:=zZ hz
  have bn:aa ([]:List Br)=[]:=rfl
  have hmt:=abC hm k
  have hmd:=abD hm k
  rw[List.take_nil]at hmt
  rw[List.drop_nil]at hmd
  have key:=akf (l:=true) (es:=es) (bs:=[]) ho (by simp only[List.length_nil];omega) hz ok (by rw[bn,e3];exact z1) (by rw[bn,e4];exact z2) (by rw[bn,e3,e1,e5];exact hmt) (by rw[bn,e4,e2,e5];exact hmd)
  rw[bn,e1,e2,e3,e4,e5]at key
  rw[e1]at z1
  rw[e2]at z2
  rcases key with⟨a,n,n2,b,c,d1,d2⟩|h
  ·obtain⟨m1,m2⟩:=vJ.1 jO
   have auJ:es.drop k≠[]:=fun e=>by have:=congrArg List.length e;rw[List.length_drop,List.length_nil]at this;omega
   have aqA:es.take k≠[]:=fun e=>by have:=congrArg List.length e;rw[List.length_take,List.length_nil]at this;omega
   have hk:cM true (es.drop k) []=(es.getD k dE).1:=by
    unfold cM
    rw[if_pos rfl,jV,Nat.add_zero]
   have y5:es.getD k dE=es[k]:=bd k1
   have low:∀i,i<k→slt (es.getD i dE).1 (es.getD k dE).1=true:=fun i hi=>by
    have:=m2 i k hi (by simpa using k1)
    rw[cq es oY dE i,cq es oY dE k]at this
    exact this
   have high:∀i,k≤i→i<es.length→slt (es.getD i dE).1 (es.getD k dE).1=false:=fun i hi hl=>by
    by_cases e:i=k
    ·rw[e];exact dz _
    ·have:=m2 k i (by omega) (by simpa using hl)
     rw[cq es oY dE i,cq es oY dE k]at this
     exact ry this
   refine .inl ⟨a,[n,n2],cM true (es.take k) [],[(ByteArray.empty,(n,es.take k)),(cM true (es.drop k) [],(n2,es.drop k))],b,by simp,c, ?_, ?_,rfl,by simp,fun h=>absurd h hz⟩
   ·refine aft (h:=0) d1 ⟨aqA,xV jO k,z1⟩ (rQ ho (b.sub n List.mem_cons_self)) d2 ⟨auJ,xX jO k,z2⟩ (rQ ho (b.sub n2 (List.mem_cons_of_mem _ List.mem_cons_self))) ?_ (fun e he=> ?_) (fun e he=> ?_)
    ·rw[hk,y5];exact(m1 _ (List.getElem_mem k1)).2.1
    ·obtain⟨i,hi,rfl⟩:=List.getElem_of_mem (show e∈es.take k from he)
     rw[List.length_take]at hi
     rw[hk,List.getElem_take]
     have:=low i (by omega)
     rw[bd (by omega)]at this
     exact this
    ·obtain⟨i,hi,rfl⟩:=List.getElem_of_mem (show e∈es.drop k from he)
     rw[List.length_drop]at hi
     rw[hk,List.getElem_drop]
     have:=high (k+i) (by omega) (by omega)
     rw[bd (by omega)]at this
     exact this
   ·show es.take k++(es.drop k++[])=es
    rw[List.append_nil,List.take_append_drop]
  ·exact .inr h
theorem afu{th:Th}{s:S5}{h:Nat}{Q:List (Kd h)}{bs:List Br}(ho:xx th s)(hb:aa bs=Q.map (cH h))(hQ:Q≠[])(f:For th s.m h Q)(hp:∀p∈bJ h Q,¬In s.fr p)(jO:gm (Q.map (cH h))=true)(bF:l4 h Q≤281):
 (sE th s false [] bs=0∧∃(N:List Int) (k0:ByteArray) (F:List (Kd (h+1))),qC th s (sS th s false [] bs) N []∧N.length≤2∧sL th s false [] bs=kK k0 (F.map (cH (h+1)))∧For th (sS th s false [] bs).m (h+1) F∧bH (h+1) F=bH h Q∧
   (bJ (h+1) F).Perm (N++bJ h Q)∧((l4 h Q≤254∧F.length=1∧eF (h+1) F=3^(h+1)*(19+wQ (l4 h Q))+eF h Q)∨(254<l4 h Q∧F.length=2∧eF (h+1) F=3^(h+1)*38+eF h Q)))∨
 (sE th s false [] bs≠0∧Bad th s (sS th s false [] bs) 1 (sE th s false [] bs)):=by
 have hl:0<bs.length:=by
  have e:(aa bs).length=bs.length:=x6 bs
  rw[hb,List.length_map]at e
  have:=List.length_pos_iff.2 hQ
  omega
 have hm:=ami jO
 have hs0:l4 h Q=ba [] (Q.map (cH h)):=rfl
 have stay:∀{t:S5} {N:List Int},qC th s t N []→∀k∈Q,rep th t.m h k.2:=fun e k hk=>e.rep h (f.rep k hk) fun p jW=>hp p (List.mem_flatMap.2 ⟨k,hk,jW⟩)
 by_cases hz:l4 h Q≤254
 ·rcases ake (l:=false) (es:=[]) (bs:=bs) ho (by simp only[List.length_nil];omega) (by rw[hb];exact hm) (by rw[hb];exact hz)with⟨a,n,b,c,d⟩|h
  ·rw[hb]at c d
   refine .inl ⟨a,[n],cM false [] (Q.map (cH h)),[(ByteArray.empty,(n,Q))],b,by simp,c,afs (h:=h+1) ⟨d,stay b⟩ ⟨hQ,f.bare,jO,hz,f.sep,f.ok⟩ (rQ ho (b.sub n List.mem_cons_self)), ?_, ?_,.inl ⟨hz,rfl, ?_⟩⟩
   ·show bH h Q++[]=_
    rw[List.append_nil]
   ·show(n::bJ h Q++[]).Perm (n::bJ h Q)
    rw[List.append_nil]
   ·rw[gk]
    rfl
  ·exact .inr h
 ·obtain⟨ok,z1,z2,k,k0,k1,e1,e2,e3,e4,e5⟩:=ajF jO (by rw[←hs0];omega) (by rw[←hs0];exact bF)
  have hbt:aa ((Q.map (cH h)).take k)=(Q.map (cH h)).take k:=adP (by rw[jF,f.bare])
  have akg:=xW jO k
  have akh:=yb (xY jO k)
  have zd:ba [] (aa ((Q.map (cH h)).drop k))≤154:=by
   have s1:=qD (aa ((Q.map (cH h)).drop k))
   have s2:=qD ((Q.map (cH h)).drop k)
   have s3:=rL ((Q.map (cH h)).drop k)
   rw[e2]at z2
   omega
  have key:=akf (l:=false) (es:=[]) (bs:=bs) ho (by simp only[List.length_nil];omega) (by rw[hb];exact hz) (by rw[hb];exact ok)
  rw[hb,e1,e2,e3,e4,e5,hbt]at key
  rw[e1]at z1
  have key:=key (by omega) (by omega) (ami akg) (ami akh)
  rcases key with⟨a,n,n2,b,c,d1,d2⟩|h
  ·have eT:(Q.map (cH h)).take k=(Q.take k).map (cH h):=by rw[List.map_take]
   have eD:aa ((Q.map (cH h)).drop k)=(bO (Q.drop k)).map (cH h):=by rw[←List.map_drop,jF]
   rw[List.length_map]at k1
   have eQ:Q=Q.take k++Q.drop k:=(List.take_append_drop k Q).symm
   obtain⟨q,r,eqd⟩:∃q r,Q.drop k=q::r:=List.exists_cons_of_ne_nil (fun e=>by have:=congrArg List.length e;rw[List.length_drop,List.length_nil]at this;omega)
   have aqA:Q.take k≠[]:=fun e=>by have:=congrArg List.length e;rw[List.length_take,List.length_nil]at this;omega
   have hqm:q∈Q:=by rw[eQ,eqd];exact List.mem_append_right _ List.mem_cons_self
   have hk:cM false [] ((Q.map (cH h)).drop k)=q.1:=by
    unfold cM
    rw[if_neg (by simp),←List.map_drop,eqd]
    rfl
   have sp:=f.sep
   have sp1:=sp.1
   rw[eQ,List.pairwise_append]at sp1
   have up:=(gM.1 jO).2
   rw[eQ,List.map_append,List.pairwise_append]at up
   have mT:∀x∈Q.take k,x∈Q:=fun x hx=>List.mem_of_mem_take hx
   have mD:∀x∈Q.drop k,x∈Q:=fun x hx=>List.mem_of_mem_drop hx
   have okA:py (h+1) (n,Q.take k):=by
    refine⟨aqA, ?_,by rw[←eT];exact akg,by rw[l4,←eT];omega,⟨sp1.1,fun x hx=>sp.2 x (mT x hx)⟩,fun x hx=>f.ok x (mT x hx)⟩
    show bO (Q.take k)=Q.take k
    have:=f.bare
    cases Q with
    |nil=>exact absurd rfl hQ
    |cons x y=>
     cases k with
     |zero=>omega
     |succ k=>simp only[bO,List.cons.injEq]at this;simp[bO,this.1]
   have okB:py (h+1) (n2,bO (Q.drop k)):=by
    refine⟨by rw[eqd];exact List.cons_ne_nil _ _,vG _,by rw[←eD];exact akh,by rw[l4,←eD];omega,⟨?_,fun x hx e he=> ?_⟩,fun x hx=> ?_⟩
    ·have p2:=sp1.2.1
     rw[eqd]at p2 ⊢
     rw[List.pairwise_cons]at p2
     rw[bO,List.pairwise_cons]
     exact p2
    ·obtain⟨x',xa,e2,e3⟩:=gl hx
     rcases e3 with e3|e3
     ·rw[e3];exact ib _
     ·subst e3;exact sp.2 x (mD x xa) e he
    ·obtain⟨x',xa,e2,_⟩:=gl hx
     rw[←e2]
     exact f.ok x' (mD x' xa)
   have auK:rep th (sS th s false [] bs).m (h+1) (n,Q.take k):=⟨by rw[←eT];exact d1,fun x hx=>stay b x (mT x hx)⟩
   have auL:rep th (sS th s false [] bs).m (h+1) (n2,bO (Q.drop k)):=⟨by rw[←eD];exact d2,fun x hx=>by
    obtain⟨x',xa,e2,_⟩:=gl hx
    rw[←e2]
    exact stay b x' (mD x' xa)⟩
   refine .inl ⟨a,[n,n2],_,[(ByteArray.empty,(n,Q.take k)),(q.1,(n2,bO (Q.drop k)))],b,by simp,by rw[c,hk];rfl,aft auK okA (rQ ho (b.sub n List.mem_cons_self)) auL okB (rQ ho (b.sub n2 (List.mem_cons_of_mem _ List.mem_cons_self))) (f.key q hqm) (fun e he=> ?_) (fun e he=> ?_), ?_, ?_,.inr ⟨by omega,rfl, ?_⟩⟩
   ·have he:e∈bH h (Q.take k):=he
    obtain⟨x,hx,hxe⟩:=List.mem_flatMap.1 he
    exact sp1.2.2 x hx q (by rw[eqd];exact List.mem_cons_self) e hxe
   ·have he:e∈bH h (bO (Q.drop k)):=he
    rw[ph]at he
    obtain⟨x,hx,hxe⟩:=List.mem_flatMap.1 he
    have h1:=sp.2 x (mD x hx) e hxe
    rw[eqd]at hx
    rcases List.mem_cons.1 hx with rfl|hx
    ·exact h1
    ·have u:=up.2.1
     rw[eqd,List.map_cons,List.pairwise_cons]at u
     have u:=u.1 (cH h x) (List.mem_map_of_mem hx)
     cases hh:slt e.1 q.1
     ·rfl
     ·have h2:slt e.1 x.1=true:=bT hh u
      rw[h2]at h1;cases h1
   ·show bH h (Q.take k)++(bH h (bO (Q.drop k))++[])=_
    rw[List.append_nil,ph,←jD,←eQ]
   ·show(n::bJ h (Q.take k)++(n2::bJ h (bO (Q.drop k))++[])).Perm (n::n2::bJ h Q)
    rw[List.append_nil,x9]
    have e:bJ h Q=bJ h (Q.take k)++bJ h (Q.drop k):=by rw[←qA,←eQ]
    rw[e]
    refine List.Perm.cons n ?_
    exact List.perm_middle
   ·rw[gk,gk]
    show 3^(h+1)*(19+wQ (l4 h (Q.take k)))+eF h (Q.take k)+(3^(h+1)*(19+wQ (l4 h (bO (Q.drop k))))+eF h (bO (Q.drop k))+0)=_
    have o1:wQ (l4 h (Q.take k))=0:=by unfold wQ;rw[l4,←eT];omega
    have o2:wQ (l4 h (bO (Q.drop k)))=0:=by unfold wQ;rw[l4,←eD];omega
    have e:eF h Q=eF h (Q.take k)+eF h (Q.drop k):=by rw[←qB,←eQ]
    rw[o1,o2,ya,e]
    omega
  ·exact .inr h
end Ts
namespace Ts
open Go Go.Sx Go.Proofs Lf
def kL(key:ByteArray):Option ByteArray→List En→List En
 |some v,l=>bt l key v
 |none,l=>bS l key
theorem tq{x:En}{r:List En}{key v:ByteArray}(h:slt x.1 key=true):bt (x::r) key v=x::bt r key v:=by
 unfold bt
 rw[zA h,ae4 h]
 split<;>simp
theorem tu{x:En}{r:List En}{key v:ByteArray}(h:slt x.1 key=false):bt (x::r) key v=(key,v,())::(if x.1=key then r else x::r):=by
 unfold bt
 rw[ady h,ai6 h]
 by_cases e:x.1=key
 ·rw[decide_eq_true e,if_pos rfl,if_pos e];rfl
 ·rw[decide_eq_false e,if_neg (by simp),if_neg e];rfl
theorem aki{key v:ByteArray}:bt [] key v=[(key,v,())]:=rfl
theorem ag4{X W:List En}{key v:ByteArray}(h:∀x∈X,slt x.1 key=true):bt (X++W) key v=X++bt W key v:=by
 induction X with
 |nil=>rfl
 |cons x r ih=>rw[List.cons_append,tq (h x List.mem_cons_self),ih fun y hy=>h y (List.mem_cons_of_mem _ hy)];rfl
theorem adQ{Y Z:List En}{key v:ByteArray}(h:∀z∈Z,slt key z.1=true):bt (Y++Z) key v=bt Y key v++Z:=by
 induction Y with
 |nil=>
  rw[List.nil_append,aki]
  cases Z with
  |nil=>rfl
  |cons z r=>
   have hz:=h z List.mem_cons_self
   rw[tu (ry hz),if_neg (fun e=>adg hz e.symm)];rfl
 |cons y r ih=>
  cases hy:slt y.1 key
  ·rw[List.cons_append,tu hy,tu hy]
   by_cases e:y.1=key
   ·rw[if_pos e,if_pos e];rfl
   ·rw[if_neg e,if_neg e];rfl
  ·rw[List.cons_append,tq hy,tq hy,ih];rfl
theorem yg{X:List En}{key:ByteArray}(h:∀x∈X,x.1≠key):bS X key=X:=by
 unfold bS
 rw[List.filter_eq_self]
 intro x hx
 simp only[ot,decide_eq_false (h x hx),Bool.not_false]
theorem afv{X Y Z:List En}{key:ByteArray}{op:Option ByteArray}(h1:∀x∈X,slt x.1 key=true)(h2:∀z∈Z,slt key z.1=true):kL key op (X++Y++Z)=X++kL key op Y++Z:=by
 cases op with
 |some v=>
  show bt (X++Y++Z) key v=X++bt Y key v++Z
  rw[adQ h2,ag4 h1]
 |none=>
  have e1:=yg (X:=X) (key:=key) fun x hx e=>by have:=h1 x hx;rw[e,dz]at this;cases this
  have e2:=yg (X:=Z) (key:=key) fun x hx e=>by have:=h2 x hx;rw[e,dz]at this;cases this
  show bS (X++Y++Z) key=X++bS Y key++Z
  unfold bS at e1 e2 ⊢
  rw[List.filter_append,List.filter_append,e1,e2]
theorem akj{X Y Z:List En}{key:ByteArray}(h1:∀x∈X,slt x.1 key=true)(h2:∀z∈Z,slt key z.1=true):fL (X++Y++Z) key=fL Y key:=by
 have e:=afv (op:=none) h1 h2 (Y:=Y)
 have e:bS (X++Y++Z) key=X++bS Y key++Z:=e
 unfold fL
 rw[e]
 simp only[List.length_append]
 by_cases c:(bS Y key).length<Y.length
 ·rw[decide_eq_true (by omega),decide_eq_true (by omega)]
 ·rw[decide_eq_false (by omega),decide_eq_false (by omega)]
theorem afw{X Y Z:List En}{key:ByteArray}{op:Option ByteArray}(h1:∀x∈X,slt x.1 key=true)(h2:∀z∈Z,slt key z.1=true):ou key op (X++Y++Z)=ou key op Y:=by
 cases op with
 |some v=>rfl
 |none=>
  show(if fL (X++Y++Z) key=true then(0:Int)else 5)=if fL Y key=true then 0 else 5
  rw[akj h1 h2]
theorem afx(key:ByteArray)(op:Option ByteArray)(l:List En):ou key op l=0∨ou key op l=5:=by
 cases op with
 |some v=>exact .inl rfl
 |none=>
  show(if fL l key=true then(0:Int)else 5)=0∨(if fL l key=true then(0:Int)else 5)=5
  split
  ·exact .inl rfl
  ·exact .inr rfl
theorem akk{key:ByteArray}{op:Option ByteArray}{l:List En}(h:ou key op l=0):doE key op l=kL key op l:=by
 cases op with
 |some v=>rfl
 |none=>
  have h:(if fL l key=true then(0:Int)else 5)=0:=h
  show(if fL l key=true then bS l key else [])=bS l key
  split at h
  ·rename_i hb;rw[if_pos hb]
  ·cases h
theorem zU{key:ByteArray}{op:Option ByteArray}{l:List En}{e:En}(h:e∈kL key op l):e∈l∨(e.1=key∧∃v,op=some v∧e.2.1=v):=by
 cases op with
 |some v=>
  have h:e∈bt l key v:=h
  unfold bt at h
  rcases List.mem_append.1 h with h|h
  ·exact .inl (List.mem_of_mem_take h)
  ·rcases List.mem_cons.1 h with rfl|h
   ·exact .inr ⟨rfl,v,rfl,rfl⟩
   ·exact .inl (List.mem_of_mem_drop h)
 |none=>exact .inl (List.mem_filter.1 (show e∈bS l key from h)).1
theorem amW{key:ByteArray}{op:Option ByteArray}{l:List En}(hk:1≤key.size∧key.size≤24)(hv:∀v,op=some v→v.size≤100)(h:jr l=true):jr (kL key op l)=true:=by
 rw[vJ]at h ⊢
 refine⟨fun e he=> ?_, ?_⟩
 ·rcases zU he with h1|⟨h1,v,h2,h3⟩
  ·exact h.1 e h1
  ·rw[h1,h3];exact⟨hk.1,hk.2,hv v h2⟩
 ·cases op with
  |some v=>exact alL key v h.2
  |none=>exact alM key h.2
theorem vY{es:List En}{key:ByteArray}:ba (bS es key) []≤ba es []:=by
 rw[vK,vK]
 unfold bS
 induction es with
 |nil=>simp
 |cons x r ih=>
  rw[List.filter_cons]
  have:=ajE x
  split
  ·rw[List.map_cons,List.sum_cons,List.map_cons,List.sum_cons];omega
  ·rw[List.map_cons,List.sum_cons];omega
end Ts
namespace Ts
open Go Go.Sx Go.Proofs Lf
def cS(th:Th)(key:ByteArray)(op:Option ByteArray)(f:Nat)(s:S5)(n deep:Int):S5:=
 ⟨pd th key op f s.m s.fu s.fr s.fs s.gn n deep,pe th key op f s.m s.fu s.fr s.fs s.gn n deep,pf th key op f s.m s.fu s.fr s.fs s.gn n deep,qy th key op f s.m s.fu s.fr s.fs s.gn n deep,rJ th key op f s.m s.fu s.fr s.fs s.gn n deep⟩
def cL(th:Th)(key:ByteArray)(op:Option ByteArray)(f:Nat)(s:S5)(n deep:Int):List Br:=sP th key op f s.m s.fu s.fr s.fs s.gn n deep
def cE'(th:Th)(key:ByteArray)(op:Option ByteArray)(f:Nat)(s:S5)(n deep:Int):Int:=rK th key op f s.m s.fu s.fr s.fs s.gn n deep
def lvT(s:S5)(n:Int):S5:=⟨s.m,s.fu,s.fr,iW s.fs n,o9 s.fs s.gn n⟩
def opP(op:Option ByteArray):Nat:=match op with|some _=>81|none=>0
structure atb (th:Th) (key:ByteArray) (op:Option ByteArray) (s t:S5) (h:Nat) (old:List En) (ps:List Int) (po:Nat) (l:List Br) (N V rest:List Int) (k0:ByteArray) (F:List (Kd h)):Prop where
 qN:qC th s t N V
 len:N.length≤2*(h+1)
 l:l=kK k0 (F.map (cH h))
 fr:For th t.m h F
 dC:bH h F=kL key op old
 old:ps.Perm (V++rest)
 new:(bJ h F).Perm (N++rest)
 two:F.length≤2
 del:op=none→F.length≤1
 sQ:eF h F+(F.length - 1)*(81*3^h)≤po+opP op
structure atc (th:Th) (key:ByteArray) (op:Option ByteArray) (s t:S5) (h:Nat) (old:List En) (ps:List Int) (e:Int) (N V:List Int):Prop where
 qN:qC th s t N V
 len:N.length≤2*h+1
 sub:∀p∈V,p∈ps
 how:(e=5∧ou key op old=5)∨(e=41∧∀p,In s.fr p→p∈N)∨(e=42∧t.fu=0)
def adR(th:Th)(key:ByteArray)(op:Option ByteArray)(s t:S5)(h:Nat)(old:List En)(ps:List Int)(po:Nat)(l:List Br)(e:Int):Prop:=
 (e=0∧ou key op old=0∧∃N V rest k0 F,atb th key op s t h old ps po l N V rest k0 F)∨(e≠0∧∃N V,atc th key op s t h old ps e N V)
theorem akl{th:Th}{key:ByteArray}{op:Option ByteArray}{s s1 t:S5}{h:Nat}{old:List En}{ps N V:List Int}{e:Int}{k:Nat}(h1:qC th s s1 N V)(hN:N.length+k≤2*h+1)(hV:∀p∈V,p∈ps)(hb:Bad th s1 t k e):∃N V,atc th key op s t h old ps e N V:=by
 obtain⟨N2,b1,b2,b3⟩:=hb
 refine⟨N++N2,V++[],eJ h1 b1 (fun p hp=>by cases hp),by rw[List.length_append];omega,fun p hp=>hV p (by simpa using hp),.inr (b3.imp (fun x=>⟨x.1,fun p hp=> ?_⟩) id)⟩
 by_cases hpn:p∈N
 ·exact List.mem_append_left _ hpn
 ·exact List.mem_append_right _ (x.2 p ((h1.fr p).2 ⟨hp,hpn⟩))
theorem afy{th:Th}{key:ByteArray}{op:Option ByteArray}{es:List En}(hk:1≤key.size∧key.size≤24)(hv:∀v,op=some v→v.size≤100)(jO:jr es=true)(hz:ba es []≤254){s s1:S5}{V ps:List Int}(h1:qC th s s1 [] V)(hV:ps.Perm V)(hc:ou key op es=0){h:Nat}:
 adR th key op s (sS th s1 true (kL key op es) []) 0 es ps h (sL th s1 true (kL key op es) []) (sE th s1 true (kL key op es) []):=by
 have ho:=h1.ok
 have atd:=amW (op:=op) hk hv jO
 have zZ:¬ba (kL key op es) []≤254→di true (kL key op es) []=true∧ba (aX true (kL key op es) []) []≤254∧ba (cF true (kL key op es) []) []≤254∧
  ∃k,0<k∧k<(kL key op es).length∧aX true (kL key op es) []=(kL key op es).take k∧cF true (kL key op es) []=(kL key op es).drop k∧a6 true (kL key op es) []=[]∧cN true (kL key op es) []=[]∧bI true (kL key op es) []=true:=fun hn=>by
  cases op with
  |some v=>exact ajG atd hz hn
  |none=>exact absurd (Int.le_trans vY hz) hn
 rcases amV ho atd zZ with⟨a,N,k0,F,b,c,d,e,g,i,j,k⟩|⟨a,b⟩
 ·refine .inl ⟨a,hc,[]++N,V++[],[],k0,F,eJ h1 b (fun p hp=>by cases hp),by simp;omega,d,e,g, ?_, ?_,j,fun hn=>k ?_, ?_⟩
  ·rw[List.append_nil,List.append_nil];exact hV
  ·rw[i,List.nil_append,List.append_nil]
  ·subst hn;exact Int.le_trans vY hz
  ·have p0:eF 0 F=0:=by
    have:∀F:List (Kd 0),eF 0 F=0:=fun F=>by
     induction F with
     |nil=>rfl
     |cons x r ih=>rw[gk,ih];rfl
    exact this F
   rw[p0]
   cases op with
   |some v=>show 0+(F.length - 1)*(81*3^0)≤h+81;rw[Nat.pow_zero];omega
   |none=>
    have:=k (Int.le_trans vY hz)
    show 0+(F.length - 1)*(81*3^0)≤h+0
    rw[show F.length - 1=0 from by omega];omega
 ·exact .inr ⟨a,akl h1 (by simp) (fun p hp=>(hV.mem_iff).2 hp) b⟩
theorem akm{th:Th}{key:ByteArray}{op:Option ByteArray}(hk:1≤key.size∧key.size≤24)(hv:∀v,op=some v→v.size≤100){s:S5}{t:TN 0}{f:Nat}{deep:Int}(ho:xx th s)(hr:rep th s.m 0 t)(ht:py 0 t)(hd:deep≤16):
 adR th key op s (cS th key op (f+1) s (pg 0 t) deep) 0 (dC 0 t) (nZ 0 t) (sQ 0 t) (cL th key op (f+1) s (pg 0 t) deep) (cE' th key op (f+1) s (pg 0 t) deep):=by
 obtain⟨n,es⟩:=t
 have hr:Rd th s.m n true es []:=hr
 obtain⟨e1,e2,e3,e4⟩:=hr.nd hd
 obtain⟨_,jO,hz⟩:=(show es≠[]∧jr es=true∧ba es []≤254 from ht)
 show adR th key op s (cS th key op (f+1) s n deep) 0 es [n] 0 (cL th key op (f+1) s n deep) (cE' th key op (f+1) s n deep)
 have h1:=adK ho n
 by_cases hc:ou key op es=0
 ·have e:vA th key op (f+1) s.m s.fu s.fr s.fs s.gn n deep=gK (o9 s.fs s.gn n) (bh th s.m s.fu s.fr (iW s.fs n) true (kL key op es) []):=by
   rw[fP,if_neg (by rw[e1];simp),if_pos e2,e3,e4,if_neg (by rw[hc];simp),akk hc]
  have g:=afy (op:=op) (s1:=lvT s n) (h:=0) hk hv jO hz h1 (List.Perm.refl [n]) hc
  have c1:cS th key op (f+1) s n deep=sS th (lvT s n) true (kL key op es) []:=by unfold cS pd pe pf qy rJ;rw[e];rfl
  have c2:cL th key op (f+1) s n deep=sL th (lvT s n) true (kL key op es) []:=by unfold cL sP;rw[e];rfl
  have c3:cE' th key op (f+1) s n deep=sE th (lvT s n) true (kL key op es) []:=by unfold cE' rK;rw[e];rfl
  rw[c1,c2,c3]
  exact g
 ·have h5:ou key op es=5:=(afx key op es).resolve_left hc
  have e:vA th key op (f+1) s.m s.fu s.fr s.fs s.gn n deep=(s.m,s.fu,s.fr,s.fs,s.gn,[],5):=by
   rw[fP,if_neg (by rw[e1];simp),if_pos e2,e3,if_pos hc,h5]
  have c1:cS th key op (f+1) s n deep=s:=by unfold cS pd pe pf qy rJ;rw[e]
  have c3:cE' th key op (f+1) s n deep=5:=by unfold cE' rK;rw[e]
  rw[c1,c3]
  exact .inr ⟨by decide,[],[],gN ho,by simp,fun p hp=>(by cases hp),.inl ⟨rfl,h5⟩⟩
end Ts
namespace Ts
open Go Go.Sx Go.Proofs Lf
theorem ag5{th:Th}{m:As}{h:Nat}{A B F:List (Kd h)}{k:Kd h}{key:ByteArray}{op:Option ByteArray}(hQ:bO (A++k::B)=A++k::B)(jO:gm ((A++k::B).map (cH h))=true)(hs:abH h (A++k::B))(hT:∀x∈A++k::B,py h x.2)
 (hA:∀x∈A,rep th m h x.2) (hB:∀x∈B,rep th m h x.2) (f:For th m h F) (fe:bH h F=kL key op (dC h k.2)) (yQ:slt key k.1=false) (qK:∀b∈B,slt key b.1=true):
 For th m h (bO (A++bV k.1 F++B))∧gm ((bO (A++bV k.1 F++B)).map (cH h))=true∧bH h (bO (A++bV k.1 F++B))=kL key op (bH h (A++k::B))∧ou key op (bH h (A++k::B))=ou key op (dC h k.2)∧
  (F.length≤1→l4 h (bO (A++bV k.1 F++B))≤l4 h (A++k::B))∧(F.length≤2→l4 h (bO (A++bV k.1 F++B))≤l4 h (A++k::B)+27):=by
 obtain⟨o1,o2⟩:=gM.1 jO
 have mk:∀x∈A++k::B,(cH h x)∈(A++k::B).map (cH h):=fun x hx=>List.mem_map_of_mem hx
 have inA:∀x∈A,x∈A++k::B:=fun x hx=>List.mem_append_left _ hx
 have ink:k∈A++k::B:=List.mem_append_right _ List.mem_cons_self
 have inB:∀x∈B,x∈A++k::B:=fun x hx=>List.mem_append_right _ (List.mem_cons_of_mem _ hx)
 rw[List.map_append,List.map_cons,List.pairwise_append,List.pairwise_cons]at o2
 obtain⟨oA,⟨okB,oB⟩,oAB⟩:=o2
 obtain⟨s1,s2⟩:=hs
 rw[List.pairwise_append,List.pairwise_cons]at s1
 obtain⟨sA,⟨skB,sB⟩,sAB⟩:=s1
 have eA:∀x∈bH h A,slt x.1 k.1=true:=fun x hx=>by
  obtain⟨a,ha,hxa⟩:=List.mem_flatMap.1 hx
  exact sAB a ha k List.mem_cons_self x hxa
 have eAk:∀x∈bH h A,slt x.1 key=true:=fun x hx=>eh (eA x hx) yQ
 have eBk:∀x∈bH h B,slt key x.1=true:=fun x hx=>by
  obtain⟨b,hb,hxb⟩:=List.mem_flatMap.1 hx
  exact eh (qK b hb) (s2 b (inB b hb) x hxb)
 have kF:∀e∈bH h F,slt e.1 k.1=false:=fun e he=>by
  rw[fe]at he
  rcases zU he with h1|⟨h1,_⟩
  ·exact s2 k ink e h1
  ·rw[h1];exact yQ
 have fB:∀e∈bH h F,∀b∈B,slt e.1 b.1=true:=fun e he b hb=>by
  rw[fe]at he
  rcases zU he with h1|⟨h1,_⟩
  ·exact skB b hb e h1
  ·rw[h1];exact qK b hb
 have inF:∀{x:Kd h},x∈F→∀e∈dC h x.2,e∈bH h F:=fun hx e he=>List.mem_flatMap.2 ⟨_,hx,he⟩
 have some_:∀{x:Kd h},x∈F→∃e,e∈dC h x.2:=fun hx=>List.exists_mem_of_ne_nil _ (qz h (f.ok _ hx))
 have wX:∀x∈bV k.1 F,(x.1=k.1∨slt k.1 x.1=true)∧x.1.size≤24∧(2≤pg h x.2∧pg h x.2<1024)∧rep th m h x.2∧py h x.2∧(∀e∈dC h x.2,slt e.1 x.1=false)∧(∀e∈dC h x.2,e∈bH h F):=fun x hx=>by
  cases F with
  |nil=>cases hx
  |cons y r=>
   rcases List.mem_cons.1 hx with rfl|hx
   ·have y0:y∈y::r:=List.mem_cons_self
    exact⟨.inl rfl,(o1 _ (mk k ink)).1,f.pg y y0,f.rep y y0,f.ok y y0,fun e he=>kF e (inF (x:=y) y0 e he),fun e he=>inF (x:=y) y0 e he⟩
   ·have x0:x∈y::r:=List.mem_cons_of_mem _ hx
    refine⟨.inr ?_,f.key x x0,f.pg x x0,f.rep x x0,f.ok x x0,f.sep.2 x x0,inF x0⟩
    have p:=f.sep.1
    rw[List.pairwise_cons]at p
    obtain⟨e,he⟩:=some_ (x:=y) List.mem_cons_self
    have a1:=p.1 x hx e he
    have a2:=kF e (inF List.mem_cons_self e he)
    rcases fw k.1 e.1 with h1|h1|h1
    ·exact bT h1 a1
    ·rw[h1];exact a1
    ·rw[h1]at a2;cases a2
 have auM:∀x∈bV k.1 F,∀b∈B,slt x.1 b.1=true:=fun x hx b hb=>by
  obtain⟨_,_,_,_,ok,g1,g2⟩:=wX x hx
  obtain⟨e,he⟩:=List.exists_mem_of_ne_nil _ (qz h ok)
  have a1:=fB e (g2 e he) b hb
  rcases fw x.1 e.1 with h1|h1|h1
  ·exact bT h1 a1
  ·rw[h1];exact a1
  ·rw[g1 e he]at h1;cases h1
 have up2:(bV k.1 F).Pairwise fun a b=>slt a.1 b.1=true:=by
  cases F with
  |nil=>exact List.Pairwise.nil
  |cons y r=>
   have p:=f.sep.1
   rw[List.pairwise_cons]at p
   rw[bV,List.pairwise_cons]
   refine⟨fun x hx=>((wX x (List.mem_cons_of_mem _ hx)).1.resolve_left fun e=> ?_), ?_⟩
   ·
    obtain⟨e',he⟩:=some_ (x:=y) List.mem_cons_self
    have a1:=p.1 x hx e' he
    rw[e,kF e' (inF List.mem_cons_self e' he)]at a1
    cases a1
   ·refine List.Pairwise.imp_of_mem (fun{a b} ha hb hab=> ?_) p.2
    obtain⟨e',he⟩:=some_ (x:=a) (List.mem_cons_of_mem _ ha)
    have a1:=hab e' he
    have a2:=f.sep.2 a (List.mem_cons_of_mem _ ha) e' he
    rcases fw a.1 e'.1 with h1|h1|h1
    ·exact bT h1 a1
    ·rw[h1];exact a1
    ·rw[a2]at h1;cases h1
 have sp2:(bV k.1 F).Pairwise fun a b=>∀e∈dC h a.2,slt e.1 b.1=true:=by
  cases F with
  |nil=>exact List.Pairwise.nil
  |cons y r=>
   have p:=f.sep.1
   rw[List.pairwise_cons]at p
   rw[bV,List.pairwise_cons]
   exact p
 have amX:∀{p:Kd h→Prop},(∀x∈A,p x)→(∀x∈bV k.1 F,p x)→(∀x∈B,p x)→∀x∈A++bV k.1 F++B,p x:=fun h1 h2 h3 x hx=>by
  rcases List.mem_append.1 hx with hx|hx
  ·rcases List.mem_append.1 hx with hx|hx
   ·exact h1 x hx
   ·exact h2 x hx
  ·exact h3 x hx
 have okJ:gm ((A++bV k.1 F++B).map (cH h))=true:=by
  rw[gM]
  constructor
  ·intro b hb
   obtain⟨x,hx,rfl⟩:=List.mem_map.1 hb
   exact amX (p:=fun x=>(cH h x).1.size≤24∧2≤(cH h x).2.1∧(cH h x).2.1<1024) (fun x hx=>o1 _ (mk x (inA x hx))) (fun x hx=>⟨(wX x hx).2.1,(wX x hx).2.2.1⟩) (fun x hx=>o1 _ (mk x (inB x hx))) x hx
  ·rw[List.map_append,List.map_append,List.pairwise_append,List.pairwise_append]
   refine⟨⟨oA, ?_,fun a ha b hb=> ?_⟩,oB,fun a ha b hb=> ?_⟩
   ·rw[List.pairwise_map];exact up2
   ·obtain⟨x,hx,rfl⟩:=List.mem_map.1 hb
    have a1:=oAB a ha (cH h k) List.mem_cons_self
    rcases(wX x hx).1 with e|e
    ·show slt a.1 x.1=true
     rw[e];exact a1
    ·exact bT a1 e
   ·obtain⟨y,hy,rfl⟩:=List.mem_map.1 hb
    rcases List.mem_append.1 ha with ha|ha
    ·exact oAB a ha (cH h y) (List.mem_cons_of_mem _ (List.mem_map_of_mem hy))
    ·obtain⟨x,hx,rfl⟩:=List.mem_map.1 ha
     exact auM x hx y hy
 have spJ:(A++bV k.1 F++B).Pairwise fun a b=>∀e∈dC h a.2,slt e.1 b.1=true:=by
  rw[List.pairwise_append,List.pairwise_append]
  refine⟨⟨sA,sp2,fun a ha b hb e he=> ?_⟩,sB,fun a ha b hb e he=> ?_⟩
  ·have a1:=sAB a ha k List.mem_cons_self e he
   rcases(wX b hb).1 with e1|e1
   ·rw[e1];exact a1
   ·exact bT a1 e1
  ·rcases List.mem_append.1 ha with ha|ha
   ·exact sAB a ha b (List.mem_cons_of_mem _ hb) e he
   ·exact fB e ((wX a ha).2.2.2.2.2.2 e he) b hb
 have auN:∀x∈A++bV k.1 F++B,∀e∈dC h x.2,slt e.1 x.1=false:=amX (fun x hx=>s2 x (inA x hx)) (fun x hx=>(wX x hx).2.2.2.2.2.1) (fun x hx=>s2 x (inB x hx))
 have eE:bH h (A++k::B)=bH h A++dC h k.2++bH h B:=by rw[jD,fW,List.append_assoc]
 have szs:l4 h (bO (A++bV k.1 F++B))≤1+(gX (A.map (cH h))+gX ((bV k.1 F).map (cH h))+gX (B.map (cH h)))∧l4 h (A++k::B)=1+(gX (A.map (cH h))+(oZ (cH h k)+gX (B.map (cH h)))):=by
  rw[adJ,adJ,←jF]
  have a1:=rL ((A++bV k.1 F++B).map (cH h))
  rw[List.map_append,List.map_append,vI,vI]at a1
  rw[List.map_append (l₁:=A),List.map_cons,vI (A.map (cH h)),c7]
  refine⟨?_,rfl⟩
  rw[List.map_append,List.map_append]
  omega
 refine⟨⟨vG _,fun x hx=> ?_,fun x hx=> ?_,⟨?_,fun x hx e he=> ?_⟩,fun x hx=> ?_,fun x hx=> ?_⟩, ?_, ?_, ?_,fun hl=> ?_,fun hl=> ?_⟩
 ·obtain⟨y,hy,e,_⟩:=gl hx
  rw[←e]
  exact amX (p:=fun x=>rep th m h x.2) hA (fun x hx=>(wX x hx).2.2.2.1) hB y hy
 ·obtain⟨y,hy,e,_⟩:=gl hx
  rw[←e]
  exact amX (p:=fun x=>py h x.2) (fun x hx=>hT x (inA x hx)) (fun x hx=>(wX x hx).2.2.2.2.1) (fun x hx=>hT x (inB x hx)) y hy
 ·generalize A++bV k.1 F++B=J at spJ
  cases J with
  |nil=>exact List.Pairwise.nil
  |cons x r=>
   rw[List.pairwise_cons]at spJ
   rw[bO,List.pairwise_cons]
   exact spJ
 ·obtain⟨y,hy,e1,e2⟩:=gl hx
  rcases e2 with e2|e2
  ·rw[e2];exact ib _
  ·subst e2;exact auN x hy e he
 ·obtain⟨y,hy,e1,e2⟩:=gl hx
  rcases e2 with e2|e2
  ·rw[e2];exact Nat.zero_le _
  ·subst e2;exact((gM.1 okJ).1 _ (List.mem_map_of_mem hy)).1
 ·obtain⟨y,hy,e,_⟩:=gl hx
  rw[←e]
  exact((gM.1 okJ).1 _ (List.mem_map_of_mem hy)).2
 ·rw[←jF];exact yb okJ
 ·rw[ph,jD,jD,agY,fe,eE,afv eAk eBk]
 ·rw[eE,afw eAk eBk]
 ·obtain⟨z1,z2⟩:=szs
  rw[z2]
  refine Int.le_trans z1 ?_
  have:gX ((bV k.1 F).map (cH h))≤oZ (cH h k):=by
   cases F with
   |nil=>show(0:Int)≤_;have:=vH (cH h k);omega
   |cons y r=>
    cases r with
    |nil=>rw[bV,List.map_cons,c7];show oZ (cH h (k.1,y.2))+0≤_;rw[Int.add_zero];exact Int.le_refl _
    |cons z r=>simp only[List.length_cons]at hl;omega
  omega
 ·obtain⟨z1,z2⟩:=szs
  rw[z2]
  refine Int.le_trans z1 ?_
  have:gX ((bV k.1 F).map (cH h))≤oZ (cH h k)+27:=by
   cases F with
   |nil=>show(0:Int)≤_;have:=vH (cH h k);omega
   |cons y r=>
    cases r with
    |nil=>rw[bV,List.map_cons,c7];show oZ (cH h k)+0≤_;omega
    |cons z r=>
     cases r with
     |nil=>
      have:=f.key z (List.mem_cons_of_mem _ List.mem_cons_self)
      rw[bV,List.map_cons,List.map_cons,c7,c7]
      show oZ (cH h k)+(oZ (cH h z)+0)≤_
      have:oZ (cH h z)=3+(z.1.size:Int):=rfl
      omega
     |cons w r=>simp only[List.length_cons]at hl;omega
  omega
end Ts
