/- Lemmas: Q12, Q13, Q14, Q15, Q16, Q17, Q18, Q19, Q20. -/
import Derived.Test.YtfobmefgcjldaaaGreatDoorPE
open Go.Proofs.Tryz
open Go.IntKind (i64 u64 u8)
open Bool (and_eq_false_iff and_eq_true)
open ByteArray (empty)
open List (append_assoc append_nil length_append length_cons length_take mem_cons nil_append replicate take_of_length_le)
open Nat (le_of_ble_eq_true le_refl zero_le)
noncomputable section
open Ds (cK kN kT kM)
namespace Ts
open Go Go.Sx Go.Proofs Lf
def qo0(t:Tx)(key:ByteArray)(op:Option ByteArray)(a:Kp)(f aa:Int)(F W O:Sl):Kp:=(tj t key op a f aa F W O).1
def qo1(t:Tx)(key:ByteArray)(op:Option ByteArray)(a:Kp)(f aa:Int)(F W O:Sl):Int:=(tj t key op a f aa F W O).2.1
def qoR(t:Tx)(key:ByteArray)(op:Option ByteArray)(a:Kp)(f aa:Int)(F W O:Sl):Int:=(tj t key op a f aa F W O).2.2.1
def qo2(t:Tx)(key:ByteArray)(op:Option ByteArray)(a:Kp)(f aa:Int)(F W O:Sl):Sl:=(tj t key op a f aa F W O).2.2.2.1
def qo3(t:Tx)(key:ByteArray)(op:Option ByteArray)(a:Kp)(f aa:Int)(F W O:Sl):Sl:=(tj t key op a f aa F W O).2.2.2.2.1
def qo4(t:Tx)(key:ByteArray)(op:Option ByteArray)(a:Kp)(f aa:Int)(F W O:Sl):Sl:=(tj t key op a f aa F W O).2.2.2.2.2.1
def qoE(t:Tx)(key:ByteArray)(op:Option ByteArray)(a:Kp)(f aa:Int)(F W O:Sl):Int:=(tj t key op a f aa F W O).2.2.2.2.2.2
abbrev XQK:Type:=XQ×ByteArray×ByteArray
abbrev ar1(t:Tx)(a:Kp)(f:Int)(F W O:Sl):List Prop:=[Ds.cc t a f,bn F,bn W,bn O]
abbrev ad7:Spec XQK:=⟨λ(_,key,val)=>[.ptr 0 0,.s (.str key),.s (.str val)],λ((t,a,f,aa,F,W,O),_)=>hQ t a f aa F W O,λ((t,a,f,_,F,W,O),_)=>ar1 t a f F W O,
 λ((t,a,f,aa,F,W,O),key,val)=>hQ t (qo0 t key (some val) a f aa F W O) (qo1 t key (some val) a f aa F W O) (qoR t key (some val) a f aa F W O) (qo2 t key (some val) a f aa F W O) (qo3 t key (some val) a f aa F W O) (qo4 t key (some val) a f aa F W O),
 λ((t,a,f,aa,F,W,O),key,val)=>az (qoE t key (some val) a f aa F W O)⟩
abbrev ad8:Spec (XQ×ByteArray):=⟨λ(_,key)=>[.ptr 0 0,.s (.str key)],λ((t,a,f,aa,F,W,O),_)=>hQ t a f aa F W O,λ((t,a,f,_,F,W,O),_)=>ar1 t a f F W O,
 λ((t,a,f,aa,F,W,O),key)=>hQ t (qo0 t key none a f aa F W O) (qo1 t key none a f aa F W O) (qoR t key none a f aa F W O) (qo2 t key none a f aa F W O) (qo3 t key none a f aa F W O) (qo4 t key none a f aa F W O),
 λ((t,a,f,aa,F,W,O),key)=>az (qoE t key none a f aa F W O)⟩
def mQC:List AV->RM (XQC×List Nat)
 |[t,c]=>(mQ [t]).bind λ(X,σ)=>match mCh c with
  |some (b,key,val)=>.ret ((X,b,key,val),σ)|none=>.fail ""
 |_=>.fail ""
def mQK:List AV->RM ((XQ×ByteArray)×List Nat)
 |[t,.s (.str key)]=>(mQ [t]).bind λ(X,σ)=>.ret ((X,key),σ)|_=>.fail ""
def axK:List AV->RM (XQK×List Nat)
 |[t,.s (.str key),.s (.str val)]=>(mQ [t]).bind λ(X,σ)=>.ret ((X,key,val),σ)|_=>.fail ""
def anv:aF:=[(41,cu sQD mQC)]
abbrev ad9:Spec (XQ×ByteArray):=⟨λ(_,key)=>[.ptr 0 0,.s (.str key)],λ((t,a,f,aa,F,W,O),_)=>hQ t a f aa F W O,λ((t,a,f,_),_)=>[Ds.cc t a f],λ((t,a,f,aa,F,W,O),_)=>hQ t a f aa F W O,
 λ((t,a,_,aa,_),key)=>.bd [.s (.str (qz t a aa key).1),.s (.bool (qz t a aa key).2.1),az (qz t a aa key).2.2]⟩
def anw:aF:=[(47,abA),(48,azr),(49,axF)]
def aqB:List (Nat×Norm):=[(7,⟨[],[0,1,7,8],2,[]⟩)]
def cQg(t:Tx)(a:Kp)(f aa:Int)(F W O:Sl)(key:ByteArray)(n ad:Int):bQ:=⟨sl 68 [(0,.ptr 0 0),(1,.s (.str key)),(7,az n),(8,az ad)],hQ t a f aa F W O,hd f17 7,{}⟩
abbrev eQS:TypeId:=42
abbrev XQA:Type:=XQ×Int×Int×Sl×List En
def qa0(t:Tx)(a:Kp)(k:Nat)(ad:Int)(met:Sl)(l:List En)(n:Int):Sl:=(cH t a k ad met l n).1
def qaE(t:Tx)(a:Kp)(k:Nat)(ad:Int)(met:Sl)(l:List En)(n:Int):Int:=(cH t a k ad met l n).2.2
def qaL(t:Tx)(a:Kp)(k:Nat)(ad:Int)(met:Sl)(l:List En)(n:Int):List En:=if qaE t a k ad met l n=0 then(cH t a k ad met l n).2.1 else []
abbrev sQA(k:Nat):Spec XQA:=⟨λ(_,n,ad,met,l)=>[.ptr 0 0,az n,az ad,.agg [roI met],.s (.ro (.ah cE l))],λ((t,a,f,aa,F,W,O),_)=>hQ t a f aa F W O,
 λ((t,a,f,_),_,ad,met,l)=>[Ds.cc t a f,bn met,1<=ad/\ad<=17,18<=ad+(k:Int),List.length (α:=En) l<=126*List.length (α:=Int) met],
 λ((t,a,f,aa,F,W,O),n,ad,met,l)=>hQ t a f aa F W O++[.vec (.ah cE (qaL t a k ad met l n)) Lf.uy],
 λ((t,a,_),n,ad,met,l)=>.bd [.agg [roI (qa0 t a k ad met l n)],.vec 2,az (qaE t a k ad met l n)]⟩
def mQA:List AV->RM (XQA×List Nat)
 |[t,n,d,.agg [.s (.ro (.af .i64 met))],.s (.ro (.ah [.str,.str] l))]=>(mQ [t]).bind λ(X,σ)=>match n.cD,d.cD with
  |some (_,_,n),some (_,_,d)=>.ret ((X,n,d,met,l),σ)|_,_=>.fail ""
 |_=>.fail ""
abbrev ar2(k:Nat):=pf 3 [(0,.af .i64 [])] (afc 4 (.ah cE []) (cu (sQA k) mQA))
def anx(k:Nat):aF:=[(47,abA),(61,axA),(36,auJ),(53,ar2 k)]
def aqC:List (Nat×Norm):=[(9,⟨[],[0,2,4,8,10,13,15],2,[]⟩)]
def cQa(t:Tx)(a:Kp)(f aa:Int)(F W O:Sl)(ad:Int)(met:Sl)(l:List En)(lf:Bool)(es:List En)(bs:List Br)(i:Int):bQ:=⟨sl 69 [(0,.ptr 0 0),(2,az ad),(4,.vec 2),(8,.ptr 3 0),(10,.ptr 4 0),(13,.ptr 5 0),(15,az i)],hQ t a f aa F W O++[.vec (.ah cE l) Lf.uy,.ak [roI met] eQS,.ak [.emp] eQS,rD lf es bs Lf.eRN],hd f53 9,{}⟩
theorem axL(t:Tx)(a:Kp)(f aa:Int)(F W O:Sl)(key val:ByteArray):run P anv.sum f13 [] (start f13 [.ptr 0 0,.s (.str key),.s (.str val)] (hQ t a f aa F W O))=
 Tree.ite (decide ((↑key.size:Int)<1)) (.ret [.ak [.ptr 1 0,az aa,.s (.ro (.af .i64 F)),.s (.ro (.af .i64 W)),.s (.ro (.af .i64 O))] 86,.ak [.s (.ro (.strs t)),.s (.ro (.ah cK a)),az f] 78] (.s (.aO .i64 1))) (.ite (decide ((↑key.size:Int)>24)) (.ret [.ak [.ptr 1 0,az aa,.s (.ro (.af .i64 F)),.s (.ro (.af .i64 W)),.s (.ro (.af .i64 O))] 86,.ak [.s (.ro (.strs t)),.s (.ro (.ah cK a)),az f] 78] (.s (.aO .i64 1))) (.ite (decide ((↑val.size:Int)>100)) (.ret [.ak [.ptr 1 0,az aa,.s (.ro (.af .i64 F)),.s (.ro (.af .i64 W)),.s (.ro (.af .i64 O))] 86,.ak [.s (.ro (.strs t)),.s (.ro (.ah cK a)),az f] 78] (.s (.aO .i64 1))) (.ab (bD (some [AV.ptr 0 0,.agg [.s (.bool false),.s (.str key),.s (.str val)]])) (.ab (bD (some [au.ak [.ptr 1 0,az aa,.s (.ro (.af .i64 F)),.s (.ro (.af .i64 W)),.s (.ro (.af .i64 O))] 86,.ak [.s (.ro (.strs t)),.s (.ro (.ah cK a)),az f] 78])) (.ab (Ds.cc t a f) (.ab (bn F) (.ab (bn W) (.ab (bn O) (.ab ((1:Nat)<=key.size/\key.size<=24) (.ab (false=false->val.size<=100) (.ret [.ak [.ptr 1 0,az (qhR t key (bH false val) a f aa F W O),.s (.ro (.af .i64 (qh2 t key (bH false val) a f aa F W O))),.s (.ro (.af .i64 (qh3 t key (bH false val) a f aa F W O))),.s (.ro (.af .i64 (qh4 t key (bH false val) a f aa F W O)))] 86,.ak [.s (.ro (.strs t)),.s (.ro (.ah cK (qh0 t key (bH false val) a f aa F W O))),az (qh1 t key (bH false val) a f aa F W O)] 78] (az (qhE t key (bH false val) a f aa F W O))))))))))))):=by kernel_rfl
theorem axM(t:Tx)(a:Kp)(f aa:Int)(F W O:Sl)(key:ByteArray):run P anv.sum f15 [] (start f15 [.ptr 0 0,.s (.str key)] (hQ t a f aa F W O))=
 Tree.ite (decide ((↑key.size:Int)<1)) (.ret [.ak [.ptr 1 0,az aa,.s (.ro (.af .i64 F)),.s (.ro (.af .i64 W)),.s (.ro (.af .i64 O))] 86,.ak [.s (.ro (.strs t)),.s (.ro (.ah cK a)),az f] 78] (.s (.aO .i64 1))) (.ite (decide ((↑key.size:Int)>24)) (.ret [.ak [.ptr 1 0,az aa,.s (.ro (.af .i64 F)),.s (.ro (.af .i64 W)),.s (.ro (.af .i64 O))] 86,.ak [.s (.ro (.strs t)),.s (.ro (.ah cK a)),az f] 78] (.s (.aO .i64 1))) (.ab (bD (some [AV.ptr 0 0,.agg [.s (.bool true),.s (.str key),.s (.str empty)]])) (.ab (bD (some [au.ak [.ptr 1 0,az aa,.s (.ro (.af .i64 F)),.s (.ro (.af .i64 W)),.s (.ro (.af .i64 O))] 86,.ak [.s (.ro (.strs t)),.s (.ro (.ah cK a)),az f] 78])) (.ab (Ds.cc t a f) (.ab (bn F) (.ab (bn W) (.ab (bn O) (.ab ((1:Nat)<=key.size/\key.size<=24) (.ab (true=false->empty.size<=100) (.ret [.ak [.ptr 1 0,az (qhR t key (bH true empty) a f aa F W O),.s (.ro (.af .i64 (qh2 t key (bH true empty) a f aa F W O))),.s (.ro (.af .i64 (qh3 t key (bH true empty) a f aa F W O))),.s (.ro (.af .i64 (qh4 t key (bH true empty) a f aa F W O)))] 86,.ak [.s (.ro (.strs t)),.s (.ro (.ah cK (qh0 t key (bH true empty) a f aa F W O))),az (qh1 t key (bH true empty) a f aa F W O)] 78] (az (qhE t key (bH true empty) a f aa F W O)))))))))))):=by kernel_rfl
theorem axN(t:Tx)(a:Kp)(f aa:Int)(F W O:Sl)(key:ByteArray):run P anw.sum f17 aqB (start f17 [.ptr 0 0,.s (.str key)] (hQ t a f aa F W O))=
 Tree.ite (decide ((↑key.size:Int)<1)) (.ret [.ak [.ptr 1 0,.s (.int .i64 aa),.s (.ro (.af .i64 F)),.s (.ro (.af .i64 W)),.s (.ro (.af .i64 O))] 86,.ak [.s (.ro (.strs t)),.s (.ro (.ah cK a)),.s (.int .i64 f)] 78] (.bd [.s (.str empty),.s (.aN false),.s (.aO .i64 1)])) (.ite (decide ((↑key.size:Int)>24)) (.ret [.ak [.ptr 1 0,.s (.int .i64 aa),.s (.ro (.af .i64 F)),.s (.ro (.af .i64 W)),.s (.ro (.af .i64 O))] 86,.ak [.s (.ro (.strs t)),.s (.ro (.ah cK a)),.s (.int .i64 f)] 78] (.bd [.s (.str empty),.s (.aN false),.s (.aO .i64 1)])) (.ite (aa==0) (.ret [.ak [.ptr 1 0,.s (.int .i64 aa),.s (.ro (.af .i64 F)),.s (.ro (.af .i64 W)),.s (.ro (.af .i64 O))] 86,.ak [.s (.ro (.strs t)),.s (.ro (.ah cK a)),.s (.int .i64 f)] 78] (.bd [.s (.str empty),.s (.aN false),.s (.aO .i64 0)])) (.at (cQg t a f aa F W O key aa 1)))):=by kernel_rfl
theorem ar3(t:Tx)(a:Kp)(f aa:Int)(F W O:Sl)(key:ByteArray)(n ad:Int):run P anw.sum f17 aqB (cQg t a f aa F W O key n ad)=
 Tree.ite (decide (ad<=17)) (.ab (bD (some [AV.ptr 0 0,az n,az ad])) (.ab (bD (some [au.ak [.ptr 1 0,az aa,.s (.ro (.af .i64 F)),.s (.ro (.af .i64 W)),.s (.ro (.af .i64 O))] 86,.ak [.s (.ro (.strs t)),.s (.ro (.ah cK a)),az f] 78])) (.ab (Ds.cc t a f) (.ite (fv t a n ad !=0) (.ret [.ak [.ptr 1 0,az aa,.s (.ro (.af .i64 F)),.s (.ro (.af .i64 W)),.s (.ro (.af .i64 O))] 86,.ak [.s (.ro (.strs t)),.s (.ro (.ah cK a)),az f] 78,.ak [.s (.bool (ic t a n ad)),.s (.ro (.ah cE (bR t a n ad))),.s (.ro (.ah cB (aW t a n ad)))] 109] (.bd [.s (.str empty),.s (.aN false),az (fv t a n ad)])) (.ite (ic t a n ad) (.ret [.ak [.ptr 1 0,az aa,.s (.ro (.af .i64 F)),.s (.ro (.af .i64 W)),.s (.ro (.af .i64 O))] 86,.ak [.s (.ro (.strs t)),.s (.ro (.ah cK a)),az f] 78,.ak [.s (.bool (ic t a n ad)),.s (.ro (.ah cE (bR t a n ad))),.s (.ro (.ah cB (aW t a n ad)))] 109] (.bd [.s (.str (m6 (bR t a n ad) key)),.s (.bool (lK (bR t a n ad) key)),.s (.aO .i64 0)])) (.ite ((↑(aW t a n ad).length:Int)==0) (.ret [.ak [.ptr 1 0,az aa,.s (.ro (.af .i64 F)),.s (.ro (.af .i64 W)),.s (.ro (.af .i64 O))] 86,.ak [.s (.ro (.strs t)),.s (.ro (.ah cK a)),az f] 78,.ak [.s (.bool (ic t a n ad)),.s (.ro (.ah cE (bR t a n ad))),.s (.ro (.ah cB (aW t a n ad)))] 109] (.bd [.s (.str empty),.s (.aN false),.s (.aO .i64 4)])) (.ab (jj (mg (aW t a n ad))) (.ab ((0:Int)<=aI (aW t a n ad) key) (.ab (aI (aW t a n ad) key<(↑(aW t a n ad).length:Int)) (.ab (aw (ad+1)) (.at (cQg t a f aa F W O key ((aW t a n ad).getD (aI (aW t a n ad) key).toNat (CL.d cB)).snd.fst (ad+1))))))))))))) (.ret [.ak [.ptr 1 0,az aa,.s (.ro (.af .i64 F)),.s (.ro (.af .i64 W)),.s (.ro (.af .i64 O))] 86,.ak [.s (.ro (.strs t)),.s (.ro (.ah cK a)),az f] 78] (.bd [.s (.str empty),.s (.aN false),.s (.aO .i64 4)])):=by kernel_rfl
theorem azA(k:Nat)(t:Tx)(a:Kp)(f aa:Int)(F W O:Sl)(n ad:Int)(met:Sl)(l:List En):run P (anx k).sum f53 aqC (start f53 [.ptr 0 0,az n,az ad,.agg [roI met],.s (.ro (.ah cE l))] (hQ t a f aa F W O))=
 Tree.ab (bD (some [AV.ptr 0 0,az n,az ad])) (.ab (bD (some [au.ak [.ptr 1 0,az aa,.s (.ro (.af .i64 F)),.s (.ro (.af .i64 W)),.s (.ro (.af .i64 O))] 86,.ak [.s (.ro (.strs t)),.s (.ro (.ah cK a)),az f] 78])) (.ab (Ds.cc t a f) (.ite (fv t a n ad !=0) (.ret [.ak [.ptr 1 0,az aa,.s (.ro (.af .i64 F)),.s (.ro (.af .i64 W)),.s (.ro (.af .i64 O))] 86,.ak [.s (.ro (.strs t)),.s (.ro (.ah cK a)),az f] 78,.ak [.s (.ro (.af .i64 met))] 42,.ak [.s (.ro (.af .i64 met))] 42,.ak [.s (.bool (ic t a n ad)),.s (.ro (.ah cE (bR t a n ad))),.s (.ro (.ah cB (aW t a n ad)))] 109] (.bd [.agg [.s (.ro (.af .i64 met))],.emp,az (fv t a n ad)])) (.ite (Bx.qy met n) (.ret [.ak [.ptr 1 0,az aa,.s (.ro (.af .i64 F)),.s (.ro (.af .i64 W)),.s (.ro (.af .i64 O))] 86,.ak [.s (.ro (.strs t)),.s (.ro (.ah cK a)),az f] 78,.ak [.s (.ro (.af .i64 met))] 42,.ak [.s (.ro (.af .i64 met))] 42,.ak [.s (.bool (ic t a n ad)),.s (.ro (.ah cE (bR t a n ad))),.s (.ro (.ah cB (aW t a n ad)))] 109] (.bd [.agg [.s (.ro (.af .i64 met))],.emp,.s (.aO .i64 4)])) (.ab (List.length met<4294967296) (.ab (((0:Nat)+l.length)*(32:Nat)<=140737488355328) (.ab ((([]++l).length+(bR t a n ad).length)*(32:Nat)<=140737488355328) (.at (cQa t a f aa F W O ad (Bx.c8 met n) ([]++l++bR t a n ad) (ic t a n ad) (bR t a n ad) (aW t a n ad) 0))))))))):=by kernel_rfl
theorem axO(k:Nat)(t:Tx)(a:Kp)(f aa:Int)(F W O:Sl)(ad:Int)(met:Sl)(l:List En)(lf:Bool)(es:List En)(bs:List Br)(i:Int):run P (anx k).sum f53 aqC (cQa t a f aa F W O ad met l lf es bs i)=
 Tree.ite (decide (i<bs.length)) (.ab ((0:Int)<=i) (.ab (i<bs.length) (.ab (aw (ad+1)) (.ab (bD (some [AV.ptr 0 0,az ((bs.getD i.toNat (CL.d cB)).snd.fst),az (ad+1),.agg [.s (.ro (.af .i64 met))],.s (.ro (.ah cE l))])) (.ab (bD (some [au.ak [.ptr 1 0,az aa,.s (.ro (.af .i64 F)),.s (.ro (.af .i64 W)),.s (.ro (.af .i64 O))] 86,.ak [.s (.ro (.strs t)),.s (.ro (.ah cK a)),az f] 78])) (.ab (Ds.cc t a f) (.ab (bn met) (.ab ((1:Int)<=ad+1/\ad+1<=17) (.ab ((18:Int)<=ad+1+(↑k:Int)) (.ab (l.length<=(126:Nat)*List.length met) (.ite (qaE t a k (ad+1) met l (bs.getD i.toNat (CL.d cB)).snd.fst !=0) (.ret [.ak [.ptr 1 0,az aa,.s (.ro (.af .i64 F)),.s (.ro (.af .i64 W)),.s (.ro (.af .i64 O))] 86,.ak [.s (.ro (.strs t)),.s (.ro (.ah cK a)),az f] 78,.aH,.ak [.s (.ro (.af .i64 (qa0 t a k (ad+1) met l (bs.getD i.toNat (CL.d cB)).snd.fst)))] 42,.ak [.s (.ro (.af .i64 (qa0 t a k (ad+1) met l (bs.getD i.toNat (CL.d cB)).snd.fst)))] 42,.ak [.s (.bool lf),.s (.ro (.ah cE es)),.s (.ro (.ah cB bs))] 109,.vec (.ah cE (qaL t a k (ad+1) met l (bs.getD i.toNat (CL.d cB)).snd.fst)) 67] (.bd [.agg [.s (.ro (.af .i64 (qa0 t a k (ad+1) met l (bs.getD i.toNat (CL.d cB)).snd.fst)))],.emp,az (qaE t a k (ad+1) met l (bs.getD i.toNat (CL.d cB)).snd.fst)])) (.ab (aw (i+1)) (.at (cQa t a f aa F W O ad (qa0 t a k (ad+1) met l (bs.getD i.toNat (CL.d cB)).snd.fst) (qaL t a k (ad+1) met l (bs.getD i.toNat (CL.d cB)).snd.fst) lf es bs (i+1))))))))))))))) (.ret [.ak [.ptr 1 0,az aa,.s (.ro (.af .i64 F)),.s (.ro (.af .i64 W)),.s (.ro (.af .i64 O))] 86,.ak [.s (.ro (.strs t)),.s (.ro (.ah cK a)),az f] 78,.vec (.ah cE l) 67,.ak [.s (.ro (.af .i64 met))] 42,.ak [.s (.ro (.af .i64 met))] 42,.ak [.s (.bool lf),.s (.ro (.ah cE es)),.s (.ro (.ah cB bs))] 109] (.bd [.agg [.s (.ro (.af .i64 met))],.vec 2,.s (.aO .i64 0)])):=by kernel_rfl
end Ts
open Ds (cK kN kT kM)
namespace Ts
open Go Go.Sx Go.Proofs Lf
theorem ar4{t:Tx}{a:Kp}{f aa:Int}{F W O:Sl}{key val:ByteArray}{c:adX}(e:tj t key (some val) a f aa F W O=c):
 ad7.eG ((t,a,f,aa,F,W,O),key,val)=hQ t c.1 c.2.1 c.2.2.1 c.2.2.2.1 c.2.2.2.2.1 c.2.2.2.2.2.1/\ad7.out ((t,a,f,aa,F,W,O),key,val)=az c.2.2.2.2.2.2:=by
 subst e;exact⟨rfl,rfl⟩
theorem ar5{t:Tx}{a:Kp}{f aa:Int}{F W O:Sl}{key:ByteArray}{c:adX}(e:tj t key none a f aa F W O=c):
 ad8.eG ((t,a,f,aa,F,W,O),key)=hQ t c.1 c.2.1 c.2.2.1 c.2.2.2.1 c.2.2.2.2.1 c.2.2.2.2.2.1/\ad8.out ((t,a,f,aa,F,W,O),key)=az c.2.2.2.2.2.2:=by
 subst e;exact⟨rfl,rfl⟩
theorem aea{t:Tx}{a:Kp}{f aa:Int}{F W O:Sl}{key:ByteArray}{op:Option ByteArray}(h:fg key op=true):tj t key op a f aa F W O=ie t key op a f aa F W O:=if_pos h
theorem ahA{t:Tx}{a:Kp}{f aa:Int}{F W O:Sl}{key:ByteArray}{op:Option ByteArray}(h:fg key op=false):tj t key op a f aa F W O=(a,f,aa,F,W,O,1):=if_neg (by rw[h];simp)
theorem aeb{Z:aZ}:anv.Ok P Z:=aF.Ok.cons (axJ.sum mQC) aF.Ok.nil
theorem aqD{Z:aZ}:fD P Z 13 ad7:=by
 refine fS func13 ?_;rintro⟨⟨t,a,f,aa,F,W,O⟩,key,val⟩ ⟨(hd:Ds.cc t a f),(hF:bn F),(hW:bn W),(hO:bn O),_⟩ X hX hz
 have no:fg key (some val)=false->fq ad7 ((t,a,f,aa,F,W,O),key,val) (hQ t a f aa F W O) (.s (.aO .i64 1)):=λh=>by
  have⟨f1,f2⟩:=ar4 (ahA (t:=t) (a:=a) (f:=f) (aa:=aa) (F:=F) (W:=W) (O:=O) h);exact bK 2 rfl (le_refl _) f2 f1
 refine Ds.cA hz hX (by intro y hy;cases hy) aeb func13 (axL t a f aa F W O key val) ⟨λh=>no ?_,λh1=>⟨λh=>no ?_,λh2=>⟨λh=>no ?_,λh3=>⟨rfl,rfl,hd,hF,hW,hO, ?_, ?_, ?_⟩⟩⟩⟩;have h:=of_decide_eq_true h;simp only[fg,and_eq_false_iff,decide_eq_false_iff_not];omega;have h:=of_decide_eq_true h;simp only[fg,and_eq_false_iff,decide_eq_false_iff_not];omega;have h:=of_decide_eq_true h;simp only[fg,and_eq_false_iff,decide_eq_false_iff_not];omega;have h1:=of_decide_eq_false h1;have h2:=of_decide_eq_false h2;omega;have h3:=of_decide_eq_false h3;exact λ_=>by omega
 have h1:=of_decide_eq_false h1;have h2:=of_decide_eq_false h2;have h3:=of_decide_eq_false h3;have⟨f1,f2⟩:=ar4 (aea (t:=t) (a:=a) (f:=f) (aa:=aa) (F:=F) (W:=W) (O:=O) (key:=key) (op:=some val) (by simp only[fg,and_eq_true,decide_eq_true_eq];omega));exact bK 2 rfl (le_refl _) f2 f1
theorem aqE{Z:aZ}:fD P Z 15 ad8:=by
 refine fS func15 ?_;rintro⟨⟨t,a,f,aa,F,W,O⟩,key⟩ ⟨(hd:Ds.cc t a f),(hF:bn F),(hW:bn W),(hO:bn O),_⟩ X hX hz
 have no:fg key none=false->fq ad8 ((t,a,f,aa,F,W,O),key) (hQ t a f aa F W O) (.s (.aO .i64 1)):=λh=>by
  have⟨f1,f2⟩:=ar5 (ahA (t:=t) (a:=a) (f:=f) (aa:=aa) (F:=F) (W:=W) (O:=O) h);exact bK 2 rfl (le_refl _) f2 f1
 refine Ds.cA hz hX (by intro y hy;cases hy) aeb func15 (axM t a f aa F W O key) ⟨λh=>no ?_,λh1=>⟨λh=>no ?_,λh2=>⟨rfl,rfl,hd,hF,hW,hO, ?_,(λx=>nomatch x), ?_⟩⟩⟩;have h:=of_decide_eq_true h;simp only[fg,and_eq_false_iff,decide_eq_false_iff_not];omega;have h:=of_decide_eq_true h;simp only[fg,and_eq_false_iff,decide_eq_false_iff_not];omega;have h1:=of_decide_eq_false h1;have h2:=of_decide_eq_false h2;omega;have h1:=of_decide_eq_false h1;have h2:=of_decide_eq_false h2;have⟨f1,f2⟩:=ar5 (aea (t:=t) (a:=a) (f:=f) (aa:=aa) (F:=F) (W:=W) (O:=O) (key:=key) (op:=none) (by simp only[fg,and_eq_true,decide_eq_true_eq];omega));exact bK 2 rfl (le_refl _) f2 f1
theorem xJ{Z:aZ}:anw.Ok P Z:=aF.Ok.cons (abx.sum ana) (aF.Ok.cons alD.sum (aF.Ok.cons xH.sum aF.Ok.nil))
theorem afI{t:Tx}{a:Kp}{f aa:Int}{F W O:Sl}:∀y∈aqB,(hQ t a f aa F W O).length<=y.2.m:=λy hy=>by
 simp only[aqB,mem_cons,List.not_mem_nil,or_false]at hy;subst hy;exact le_refl _
theorem zH{t:Tx}{a:Kp}{f aa:Int}{F W O:Sl}{key:ByteArray}{c:ByteArray×Bool×Int}(e:qz t a aa key=c):ad9.out ((t,a,f,aa,F,W,O),key)=.bd [.s (.str c.1),.s (.bool c.2.1),az c.2.2]:=by
 subst e;rfl
theorem zI{Z:aZ}{X:Ctx}{t:Tx}{a:Kp}{f aa:Int}{F W O:Sl}{key:ByteArray}(hz:cP Z X)(hX:X.H=lk (hQ t a f aa F W O))(hd:Ds.cc t a f):∀(k:Nat) (n ad:Int),1<=ad->ad+(k:Int)=18->
 qz t a aa key=zC t a key k n ad->Safe P 17 X (fq ad9 ((t,a,f,aa,F,W,O),key)) (cQg t a f aa F W O key n ad)
 |0,n,ad,h1,h2,ee=>by
  refine Ds.cA hz hX afI xJ func17 (ar3 t a f aa F W O key n ad) ⟨λh=>absurd (of_decide_eq_true h) (by omega),λ_=> ?_⟩;exact bK 2 rfl (le_refl _) (zH ee) rfl
 |k+1,n,ad,h1,h2,ee=>by
  unfold zC at ee;refine Ds.cA hz hX afI xJ func17 (ar3 t a f aa F W O key n ad) ⟨λ_=>⟨rfl,rfl,hd,λh=> ?_,λh=>⟨λhl=> ?_,λhl=>⟨λh3=> ?_,λh3=> ?_⟩⟩⟩,λh=>absurd (of_decide_eq_false h) (by omega)⟩;have h:=bne_iff_ne.1 h;rw[if_pos h]at ee;exact bK 2 rfl (le_refl _) (zH ee) rfl;have h:=bne_eq_false_iff_eq.1 h;rw[if_neg (by rw[h];simp),if_pos hl]at ee;exact bK 2 rfl (le_refl _) (zH ee) rfl;have h:=bne_eq_false_iff_eq.1 h
  have h3:aW t a n ad=[]:=List.eq_nil_of_length_eq_zero (by have:((aW t a n ad).length:Int)=0:=eq_of_beq h3
                                                            omega)
  rw[if_neg (by rw[h];simp),if_neg (by rw[hl];simp),if_pos h3]at ee;exact bK 2 rfl (le_refl _) (zH ee) rfl;have h:=bne_eq_false_iff_eq.1 h;have h3:aW t a n ad≠[]:=λe=>by rw[e]at h3;cases h3
  have⟨hm,_⟩:=mA hd h;have⟨s1,s2⟩:=m9 hm;have⟨p0,p1⟩:=mu (key:=key) s2 h3;rw[if_neg (by rw[h];simp),if_neg (by rw[hl];simp),if_neg h3]at ee;exact⟨s2,p0,p1,⟨by omega,by omega⟩,zI hz hX hd k _ _ (by omega) (by omega) ee⟩
theorem aqF{Z:aZ}:fD P Z 17 ad9:=by
 refine fS func17 ?_;rintro⟨⟨t,a,f,aa,F,W,O⟩,key⟩ ⟨(hd:Ds.cc t a f),_⟩ X hX hz
 have no:fg key none=false->fq ad9 ((t,a,f,aa,F,W,O),key) (hQ t a f aa F W O) (.bd [.s (.str empty),.s (.aN false),.s (.aO .i64 1)]):=λh=>
  bK 2 rfl (le_refl _) (zH (t:=t) (a:=a) (f:=f) (aa:=aa) (F:=F) (W:=W) (O:=O) (c:=(empty,false,1)) (if_pos h)) rfl
 refine Ds.cA hz hX afI xJ func17 (axN t a f aa F W O key) ⟨λh=>no ?_,λh1=>⟨λh=>no ?_,λh2=>⟨λh=> ?_,λh=> ?_⟩⟩⟩;have h:=of_decide_eq_true h;simp only[fg,and_eq_false_iff,decide_eq_false_iff_not];omega;have h:=of_decide_eq_true h;simp only[fg,and_eq_false_iff,decide_eq_false_iff_not];omega;have h1:=of_decide_eq_false h1;have h2:=of_decide_eq_false h2;have ok:¬fg key none=false:=by simp only[fg,and_eq_false_iff,decide_eq_false_iff_not];omega
 have h:aa=0:=eq_of_beq h;exact bK 2 rfl (le_refl _) (zH (c:=(empty,false,0)) (by unfold qz;rw[if_neg ok,if_pos h])) rfl;have h1:=of_decide_eq_false h1;have h2:=of_decide_eq_false h2;have ok:¬fg key none=false:=by simp only[fg,and_eq_false_iff,decide_eq_false_iff_not];omega
 have h:¬aa=0:=λx=>by rw[x]at h;cases h
 exact zI hz hX hd 17 aa 1 (Int.le_refl 1) (by omega) (by unfold qz;rw[if_neg ok,if_neg h])
theorem anz(n:Int):∀l:List Int,(Bx.wr n false l).length=l.length+1
 |[]=>by simp[Bx.wr]
 |x::xs=>by
  unfold Bx.wr;split;rw[Bx.rS];simp;rw[length_cons,anz n xs];rfl
theorem zJ{met:Sl}{n:Int}(h0:0<=n)(h1:n<1024)(h:Bx.qy met n=false):(Bx.c8 met n).length=met.length+1:=by
 have h:¬n∈met:=of_decide_eq_false h;unfold Bx.c8;rw[if_neg (λx=>by rcases x with x|x|x<;>first|omega|exact h x)];exact anz n met
theorem anA{t:Tx}{a:Kp}{f n ad:Int}(hd:Ds.cc t a f)(h:fv t a n ad=0):0<=n/\n<1024:=by
 have⟨th,m,h1,e1,e2⟩:=hd;rw[e1,e2,(tk h1 n ad).1]at h
 have hp:Ds.pOk th n=true:=by
  unfold fE at h;split at h;cases h;split at h;rename_i hg;unfold Ds.nr at hg;split at hg;assumption;cases hg;rename_i hg;exact absurd h hg
 have⟨p0,p1⟩:=Ds.dW.1 hp;have hN:=Ds.mW th;have h4:=h1.t.1;omega
theorem zK{met:Sl}(h:bn met)(n:Int):bn (Bx.c8 met n):=by
 have⟨ws,h1,e⟩:=h;rw[e,Bx.vk h1];exact⟨_,(Bx.gx h1 n).1,rfl⟩
theorem rW{t:Tx}{a:Kp}{f:Int}(hd:Ds.cc t a f):∀(k:Nat) {ad:Int} {met:Sl} {l:List En} {n:Int},bn met->l.length<=126*met.length->
 bn (cH t a k ad met l n).1/\(cH t a k ad met l n).2.1.length<=126*(cH t a k ad met l n).1.length
 |0,ad,met,l,n,h1,h2=>⟨h1,h2⟩|k+1,ad,met,l,n,h1,h2=>by
  unfold cH;by_cases h3:fv t a n ad≠0;rw[if_pos h3];exact⟨h1,h2⟩;rw[if_neg h3];by_cases h4:Bx.qy met n=true;rw[if_pos h4];exact⟨h1,h2⟩;rw[if_neg h4];have h3:fv t a n ad=0:=by simpa using h3
  have⟨p0,p1⟩:=anA hd h3;have e1:=zJ p0 p1 (by simpa using h4);have e2:=(mA hd h3).2.1
  have inner:∀(bs:List Br) {met:Sl} {l:List En},bn met->l.length<=126*met.length->bn (kD (cH t a k (ad+1)) bs met l).1/\(kD (cH t a k (ad+1)) bs met l).2.1.length<=126*(kD (cH t a k (ad+1)) bs met l).1.length:=λbs=>by
   induction bs with
   |nil=>exact λh1 h2=>⟨h1,h2⟩|cons b r ih=>
    intro met l h1 h2;have x:=rW hd k (ad:=ad+1) (n:=b.2.1) h1 h2;unfold kD;split;exact x;exact ih x.1 x.2
  exact inner _ (zK h1 n) (by rw[length_append,e1];omega)
theorem anB{k:Nat}{Z:aZ}(h:fD P Z 53 (sQA k)):(anx k).Ok P Z:=
 aF.Ok.cons (abx.sum ana) (aF.Ok.cons Bx.abp.sum (aF.Ok.cons Bx.rT.gH (aF.Ok.cons (dC (y6 (h.sum mQA) 4 (.ah cE [])) 3 _) aF.Ok.nil)))
theorem afJ{t:Tx}{a:Kp}{f aa:Int}{F W O:Sl}:∀y∈aqC,(hQ t a f aa F W O).length<=y.2.m:=λy hy=>by
 simp only[aqC,mem_cons,List.not_mem_nil,or_false]at hy;subst hy;exact le_refl _
def aL(e:Int)(l:List En):List En:=if e=0 then l else []
theorem ahB{t:Tx}{a:Kp}{f aa:Int}{F W O:Sl}{n ad:Int}{met:Sl}{l:List En}{k:Nat}{c:Sl×List En×Int}(e:cH t a k ad met l n=c):
 (sQA k).eG ((t,a,f,aa,F,W,O),n,ad,met,l)=hQ t a f aa F W O++[.vec (.ah cE (aL c.2.2 c.2.1)) Lf.uy]/\(sQA k).out ((t,a,f,aa,F,W,O),n,ad,met,l)=.bd [.agg [roI c.1],.vec 2,az c.2.2]:=by
 subst e;exact⟨rfl,rfl⟩
theorem ar6{Z:aZ}:∀k,fD P Z 53 (sQA k)
 |0=>by
  rintro⟨⟨(t:Tx),(a:Kp),(f:Int),(aa:Int),(F:Sl),(W:Sl),(O:Sl)⟩,(n:Int),(ad:Int),(met:Sl),(l:List En)⟩ ⟨_,_,(h1:1<=ad/\ad<=17),(h2:18<=ad+((0:Nat):Int)),_⟩;omega
 |k+1=>by
  have T:=anB (ar6 (Z:=Z) k);refine dj func53 (by kernel_rfl) (λx=>le_of_ble_eq_true (by kernel_rfl)) ?_;rintro⟨⟨t,a,f,aa,F,W,O⟩,n,ad,met,l⟩ ⟨(hd:Ds.cc t a f),(hm:bn met),(h1:1<=ad/\ad<=17),(h2:18<=ad+((k+1:Nat):Int)),(hl:l.length<=126*met.length),_⟩ X hX hz;have lm:=gy hm;refine Ds.cA hz hX afJ T func53 (azA k t a f aa F W O n ad met l) ⟨rfl,rfl,hd,λh=> ?_,λh=>⟨λh3=> ?_,λh3=> ?_⟩⟩;have h:=bne_iff_ne.1 h;have⟨f1,f2⟩:=ahB (t:=t) (a:=a) (f:=f) (aa:=aa) (F:=F) (W:=W) (O:=O) (n:=n) (ad:=ad) (met:=met) (l:=l) (k:=k+1) (c:=(met,l,fv t a n ad)) (by unfold cH;rw[if_pos h]);have e2:aL (fv t a n ad) l=[]:=if_neg h;refine fm ⟨[(1,.ah cE [],Lf.uy)],[0,1,2],2,[]⟩ rfl (le_refl _) (jQ.same _) f2 ?_;rw[f1,e2];rfl;have h:=bne_eq_false_iff_eq.1 h;have⟨f1,f2⟩:=ahB (t:=t) (a:=a) (f:=f) (aa:=aa) (F:=F) (W:=W) (O:=O) (n:=n) (ad:=ad) (met:=met) (l:=l) (k:=k+1) (c:=(met,l,4)) (by unfold cH;rw[if_neg (by rw[h];simp),if_pos h3]);exact fm ⟨[(1,.ah cE [],Lf.uy)],[0,1,2],2,[]⟩ rfl (le_refl _) (jQ.same _) f2 f1;have h:=bne_eq_false_iff_eq.1 h;have⟨p0,p1⟩:=anA hd h;have e1:=zJ p0 p1 h3;have⟨_,n1,n2,_,_,n5⟩:=mA hd h
  have ee:cH t a (k+1) ad met l n=kD (cH t a k (ad+1)) (aW t a n ad) (Bx.c8 met n) (l++bR t a n ad):=by
   conv=>lhs;unfold cH
   rw[if_neg (by rw[h];simp),if_neg (by rw[h3];simp)]
  generalize hbs:aW t a n ad=bs at *;have loop:∀(j i:Nat) {met':Sl} {l':List En},i+j=bs.length->bn met'->l'.length<=126*met'.length->cH t a (k+1) ad met l n=kD (cH t a k (ad+1)) (bs.drop i) met' l'->
   Safe P 53 X (nC (sQA (k+1)) ((t,a,f,aa,F,W,O),n,ad,met,l)) (cQa t a f aa F W O ad met' l' (ic t a n ad) (bR t a n ad) bs (i:Int)):=λj=>by
   induction j with
   |zero=>
    intro i met' l' hi hm' hl' e;rw[List.drop_eq_nil_of_le (by omega)]at e;have⟨f1,f2⟩:=ahB (aa:=aa) (F:=F) (W:=W) (O:=O) (f:=f) e;refine Ds.cA hz hX afJ T func53 (axO k t a f aa F W O ad met' l' _ _ bs (i:Int)) ⟨λh=>absurd (of_decide_eq_true h) (by omega),λ_=> ?_⟩;exact fm ⟨[],[0,1,2],2,[]⟩ rfl (le_refl _) (jQ.same _) f2 f1
   |succ j ih=>
    intro i met' l' hi hm' hl' e;have br:i<bs.length:=by omega
    have eb:bs.drop i=bs.getD i dB::bs.drop (i+1):=by
     rw[List.drop_eq_getElem_cons br,bT br]
    rw[eb]at e;unfold kD at e;have inv:=rW hd k (ad:=ad+1) (n:=(bs.getD i dB).2.1) hm' hl';refine Ds.cA hz hX afJ T func53 (axO k t a f aa F W O ad met' l' _ _ bs (i:Int)) ⟨λ_=>⟨by omega,by omega,⟨by omega,by omega⟩,rfl,rfl,hd,hm',⟨by omega,by omega⟩,by omega,hl',λh6=> ?_,λh6=>⟨⟨by omega,by omega⟩, ?_⟩⟩,λh=>absurd (of_decide_eq_false h) (by omega)⟩;have h6:=bne_iff_ne.1 h6;have h7:(cH t a k (ad+1) met' l' (bs.getD i dB).2.1).2.2≠0:=h6;rw[if_pos h7]at e;have⟨f1,f2⟩:=ahB (aa:=aa) (F:=F) (W:=W) (O:=O) (f:=f) e;have e2:aL (cH t a k (ad+1) met' l' (bs.getD i dB).2.1).2.2 (cH t a k (ad+1) met' l' (bs.getD i dB).2.1).2.1=[]:=if_neg h7;rw[e2]at f1;exact fm ⟨[(1,.ah cE [],Lf.uy)],[0,1,2],2,[]⟩ rfl (le_refl _) (jQ.same _) f2 f1;have h6:=bne_eq_false_iff_eq.1 h6;have h7:(cH t a k (ad+1) met' l' (bs.getD i dB).2.1).2.2=0:=h6;rw[if_neg (by rw[h7];simp)]at e;have e3:qaL t a k (ad+1) met' l' (bs.getD i dB).2.1=(cH t a k (ad+1) met' l' (bs.getD i dB).2.1).2.1:=if_pos h7;have:=ih (i+1) (met':=qa0 t a k (ad+1) met' l' (bs.getD i dB).2.1) (l':=qaL t a k (ad+1) met' l' (bs.getD i dB).2.1) (by omega) inv.1 (by rw[e3];exact inv.2) (by rw[e3];exact e);exact this
  exact⟨by omega,by omega,by rw[nil_append];omega,loop bs.length 0 (by omega) (zK hm n) (by rw[nil_append,length_append,e1];omega) (by rw[ee];rfl)⟩
end Ts
open Ds (cK kN kT kM)
namespace Ts
open Go Go.Sx Go.Proofs Lf
def geK(ao:ByteArray)(l:List En):List En:=l.filter (geE ao)
def ur(t:Tx)(a:Kp)(aa:Int):Int:=(uE t a aa).2.2
def qlF(t:Tx)(a:Kp)(aa:Int)(ao:ByteArray):List En:=if ur t a aa=0 then geK ao (uE t a aa).2.1 else []
def qpF(t:Tx)(a:Kp)(aa:Int):Sl:=if ur t a aa=0 then(uE t a aa).1 else []
abbrev anC:Spec (XQ×ByteArray):=⟨λ(_,ao)=>[.ptr 0 0,.s (.str ao)],λ((t,a,f,aa,F,W,O),_)=>hQ t a f aa F W O,λ((t,a,f,_),_)=>[Ds.cc t a f],
 λ((t,a,f,aa,F,W,O),ao)=>hQ t a f aa F W O++[.vec (.ah cE (qlF t a aa ao)) Lf.uy],λ((t,a,_,aa,_),_)=>.bd [.vec 2,az (ur t a aa)]⟩
abbrev auZ:Spec XQ:=⟨λ_=>[.ptr 0 0],λ(t,a,f,aa,F,W,O)=>hQ t a f aa F W O,λ(t,a,f,_)=>[Ds.cc t a f],
 λ(t,a,f,aa,F,W,O)=>hQ t a f aa F W O,λ(t,a,_,aa,_)=>.bd [.agg [roI (qpF t a aa)],az (ur t a aa)]⟩
def ahC:aF:=[(53,ar2 17)]
def aqG:List (Nat×Norm):=[(8,⟨[(9,.ah cE [],Lf.uy)],[1,7,9,10],2,[]⟩)]
def cQl(t:Tx)(a:Kp)(f aa:Int)(F W O:Sl)(ao:ByteArray)(l out:List En)(i:Int):bQ:=⟨sl 51 [(1,.s (.str ao)),(7,.vec 2),(9,.vec 3),(10,az i)],hQ t a f aa F W O++[.vec (.ah cE l) Lf.uy,.vec (.ah cE out) Lf.uy],hd f29 8,{}⟩
def tn(t:Tx)(x:Int):Bool:=decide (x>1)&&decide (x<Ds.abn t)
def aqH(t:Tx)(free:Sl):Sl:=Bx.rOf (free.filter (tn t))
abbrev XQO:Type:=Tx×Kp×Int×Int×Sl
abbrev anD:Spec XQO:=⟨λ(_,_,_,aa,free)=>[.ptr 0 0,az aa,.agg [roI free]],λ(t,a,f,_)=>[Ds.pw t a f],λ(t,a,f,_,free)=>[Ds.cc t a f,bn free],λ(t,a,f,aa,free)=>[Ds.pw t a f,obQ 0 aa (aqH t free) [] []],λ_=>.ptr 1 0⟩
abbrev axP:=gH [Bx.iw] [Bx.tR] (λ(l,())=>[List.length (α:=Int) l<4294967296]) (λ(l,())=>((Bx.rOf l,()),()))
abbrev au0:=cu Ds.sQp Ds.mR
def afK:aF:=[(35,au0),(11,axP)]
def ahD:List (Nat×Norm):=[(3,⟨[(7,.af .i64 [],3)],[0,1,5,7,8],1,[]⟩)]
def afL(t:Tx)(a:Kp)(f aa:Int)(free l:Sl)(i:Int):bQ:=⟨sl 46 [(0,.ptr 0 0),(1,az aa),(5,.ptr 1 0),(7,.vec 2),(8,az i)],[Ds.pw t a f,.ak [roI free] eQS,.vec (.af .i64 l) 3],hd f10 3,{}⟩
theorem axQ(t:Tx)(a:Kp)(f aa:Int)(F W O:Sl)(ao:ByteArray):run P ahC.sum f29 aqG (start f29 [.ptr 0 0,.s (.str ao)] (hQ t a f aa F W O))=
 Tree.ite (aa==0) (.ret [.ak [.ptr 1 0,az aa,.s (.ro (.af .i64 F)),.s (.ro (.af .i64 W)),.s (.ro (.af .i64 O))] 86,.ak [.s (.ro (.strs t)),.s (.ro (.ah cK a)),az f] 78] (.bd [.emp,.s (.aO .i64 0)])) (.ab (bD (some [AV.ptr 0 0,az aa,az 1,.agg [.s (.ro (.af .i64 []))],.s (.ro (.ah cE []))])) (.ab (bD (some [au.ak [.ptr 1 0,az aa,.s (.ro (.af .i64 F)),.s (.ro (.af .i64 W)),.s (.ro (.af .i64 O))] 86,.ak [.s (.ro (.strs t)),.s (.ro (.ah cK a)),az f] 78])) (.ab (Ds.cc t a f) (.ab (bn []) (.ab ((1:Int)<=1/\(1:Int)<=17) (.ab ((18:Int)<=1+(↑(17:Nat):Int)) (.ab ((0:Nat)<=(126:Nat)*0) (.ite (qaE t a 17 1 [] [] aa !=0) (.ret [.ak [.ptr 1 0,az aa,.s (.ro (.af .i64 F)),.s (.ro (.af .i64 W)),.s (.ro (.af .i64 O))] 86,.ak [.s (.ro (.strs t)),.s (.ro (.ah cK a)),az f] 78,.vec (.ah cE (qaL t a 17 1 [] [] aa)) 67,.ak [.s (.ro (.af .i64 (qa0 t a 17 1 [] [] aa)))] 42] (.bd [.emp,az (qaE t a 17 1 [] [] aa)])) (.at (cQl t a f aa F W O ao (qaL t a 17 1 [] [] aa) [] 0)))))))))):=by kernel_rfl
theorem ar7(t:Tx)(a:Kp)(f aa:Int)(F W O:Sl)(ao:ByteArray)(l out:List En)(i:Int):run P ahC.sum f29 aqG (cQl t a f aa F W O ao l out i)=
 Tree.ite (decide (i<l.length)) (.ab ((0:Int)<=i) (.ab (i<l.length) (.ite (!slt (l.getD i.toNat (CL.d cE)).fst ao) (.ab ((0:Int)<=i) (.ab (i<l.length) (.ab ((out.length+1)*(32:Nat)<=140737488355328) (.ab (aw (i+1)) (.at (cQl t a f aa F W O ao l (out++[((l.getD i.toNat (CL.d cE)).fst,(l.getD i.toNat (CL.d cE)).snd.fst,())]) (i+1))))))) (.ab (aw (i+1)) (.at (cQl t a f aa F W O ao l out (i+1))))))) (.ret [.ak [.ptr 1 0,.s (.int .i64 aa),.s (.ro (.af .i64 F)),.s (.ro (.af .i64 W)),.s (.ro (.af .i64 O))] 86,.ak [.s (.ro (.strs t)),.s (.ro (.ah cK a)),.s (.int .i64 f)] 78,.vec (.ah cE l) 67,.vec (.ah cE out) 67] (.bd [.vec 3,.s (.aO .i64 0)])):=by kernel_rfl
theorem axR(t:Tx)(a:Kp)(f aa:Int)(F W O:Sl):run P ahC.sum f27 [] (start f27 [.ptr 0 0] (hQ t a f aa F W O))=
 Tree.ite (aa==0) (.ret [.ak [.ptr 1 0,az aa,.s (.ro (.af .i64 F)),.s (.ro (.af .i64 W)),.s (.ro (.af .i64 O))] 86,.ak [.s (.ro (.strs t)),.s (.ro (.ah cK a)),az f] 78,.ak [.emp] 42] (.bd [.agg [.emp],.s (.aO .i64 0)])) (.ab (bD (some [AV.ptr 0 0,az aa,az 1,.agg [.s (.ro (.af .i64 []))],.s (.ro (.ah cE []))])) (.ab (bD (some [au.ak [.ptr 1 0,az aa,.s (.ro (.af .i64 F)),.s (.ro (.af .i64 W)),.s (.ro (.af .i64 O))] 86,.ak [.s (.ro (.strs t)),.s (.ro (.ah cK a)),az f] 78])) (.ab (Ds.cc t a f) (.ab (bn []) (.ab ((1:Int)<=1/\(1:Int)<=17) (.ab ((18:Int)<=1+(↑(17:Nat):Int)) (.ab ((0:Nat)<=(126:Nat)*0) (.ite (qaE t a 17 1 [] [] aa !=0) (.ret [.ak [.ptr 1 0,az aa,.s (.ro (.af .i64 F)),.s (.ro (.af .i64 W)),.s (.ro (.af .i64 O))] 86,.ak [.s (.ro (.strs t)),.s (.ro (.ah cK a)),az f] 78,.ak [.emp] 42,.vec (.ah cE (qaL t a 17 1 [] [] aa)) 67,.ak [.s (.ro (.af .i64 (qa0 t a 17 1 [] [] aa)))] 42] (.bd [.agg [.emp],az (qaE t a 17 1 [] [] aa)])) (.ret [.ak [.ptr 1 0,az aa,.s (.ro (.af .i64 F)),.s (.ro (.af .i64 W)),.s (.ro (.af .i64 O))] 86,.ak [.s (.ro (.strs t)),.s (.ro (.ah cK a)),az f] 78,.ak [.s (.ro (.af .i64 (qa0 t a 17 1 [] [] aa)))] 42,.vec (.ah cE (qaL t a 17 1 [] [] aa)) 67,.ak [.s (.ro (.af .i64 (qa0 t a 17 1 [] [] aa)))] 42] (.bd [.agg [.s (.ro (.af .i64 (qa0 t a 17 1 [] [] aa)))],.s (.aO .i64 0)])))))))))):=by kernel_rfl
theorem axS(t:Tx)(a:Kp)(f aa:Int)(free:Sl):run P afK.sum f10 ahD (start f10 [.ptr 0 0,az aa,.agg [roI free]] [Ds.pw t a f])=
 Tree.at (afL t a f aa free [] 0):=by kernel_rfl
theorem ar8(t:Tx)(a:Kp)(f aa:Int)(free l:Sl)(i:Int):run P afK.sum f10 ahD (afL t a f aa free l i)=
 Tree.ite (decide (i<(↑(List.length free):Int))) (.ab ((0:Int)<=i) (.ab (i<(↑(List.length free):Int)) (.ite (decide (List.getD free i.toNat (0:Int)>1)) (.ab ((0:Int)<=i) (.ab (i<(↑(List.length free):Int)) (.ab (bD (some [AV.ptr 0 0])) (.ab (bD (some [au.ak [.s (.ro (.strs t)),.s (.ro (.ah cK a)),az f] 78])) (.ab (Ds.cc t a f) (.ite (decide (List.getD free i.toNat (0:Int)<Ds.abn t)) (.ab ((0:Int)<=i) (.ab (i<(↑(List.length free):Int)) (.ab ((List.length l+1)*(8:Nat)<=140737488355328) (.ab (aw (i+1)) (.at (afL t a f aa free (l++[List.getD free i.toNat 0]) (i+1))))))) (.ab (aw (i+1)) (.at (afL t a f aa free l (i+1)))))))))) (.ab (aw (i+1)) (.at (afL t a f aa free l (i+1))))))) (.ab (List.length l<4294967296) (.ret [.ak [.s (.ro (.strs t)),.s (.ro (.ah cK a)),az f] 78,.ak [.s (.ro (.af .i64 free))] 42,.aH,.ak [.ptr 0 0,az aa,.s (.ro (.af .i64 (Bx.rOf l))),.emp,.emp] 86] (.ptr 3 0))):=by kernel_rfl
end Ts
open Ds (cK kN kT kM)
namespace Ts
open Go Go.Sx Go.Proofs Lf
theorem rX:bn []:=⟨Bx.cz,Bx.fe.1,Bx.kB.symm⟩
theorem rY{Z:aZ}:ahC.Ok P Z:=aF.Ok.cons (dC (y6 ((ar6 17).sum mQA) 4 (.ah cE [])) 3 _) aF.Ok.nil
theorem afM{t:Tx}{a:Kp}{f aa:Int}{F W O:Sl}:∀y∈aqG,(hQ t a f aa F W O).length<=y.2.m:=λy hy=>by
 simp only[aqG,mem_cons,List.not_mem_nil,or_false]at hy;subst hy;exact le_refl _
theorem anE{ao:ByteArray}{l:List En}{i:Nat}(h:i<l.length):geK ao (l.take (i+1))=geK ao (l.take i)++(if geE ao (l.getD i dE)=true then [l.getD i dE]else []):=by
 rw[<-iJ (d:=dE) h];unfold geK;rw[List.filter_append];congr 1;simp only[List.filter_cons,List.filter_nil]
theorem au1{ao:ByteArray}{l:List En}(i:Nat):(geK ao (l.take i)).length<=i:=by
 have:=List.length_filter_le (geE ao) (l.take i);rw[length_take]at this;unfold geK;omega
theorem anF{t:Tx}{a:Kp}{f aa:Int}{F W O:Sl}{ao:ByteArray}{l:List En}{e:Int}(h1:qlF t a aa ao=l)(h2:ur t a aa=e):
 anC.eG ((t,a,f,aa,F,W,O),ao)=hQ t a f aa F W O++[.vec (.ah cE l) Lf.uy]/\anC.out ((t,a,f,aa,F,W,O),ao)=.bd [.vec 2,az e]:=by
 subst h1 h2;exact⟨rfl,rfl⟩
theorem anG{t:Tx}{a:Kp}{aa:Int}(h:aa=0):uE t a aa=([],[],0):=if_pos h
theorem vp{t:Tx}{a:Kp}{aa:Int}(h:¬aa=0):uE t a aa=cH t a 17 1 [] [] aa:=if_neg h
theorem anH{Z:aZ}:fD P Z 29 anC:=by
 refine dj func29 (by kernel_rfl) (λx=>le_of_ble_eq_true (by kernel_rfl)) ?_;rintro⟨⟨t,a,f,aa,F,W,O⟩,ao⟩ ⟨(hd:Ds.cc t a f),_⟩ X hX hz;refine Ds.cA hz hX afM rY func29 (axQ t a f aa F W O ao) ⟨λh=> ?_,λh=>⟨rfl,rfl,hd,rX,⟨Int.le_refl 1,by omega⟩,by omega,le_refl 0,λh2=> ?_,λh2=> ?_⟩⟩;have h:aa=0:=eq_of_beq h;have e:=anG (t:=t) (a:=a) h;have⟨f1,f2⟩:=anF (t:=t) (a:=a) (f:=f) (aa:=aa) (F:=F) (W:=W) (O:=O) (ao:=ao) (l:=[]) (e:=0) (by unfold qlF ur;rw[e];rfl) (by unfold ur;rw[e]);exact fm ⟨[(0,.ah cE [],Lf.uy)],[0,1],2,[]⟩ rfl (le_refl _) (jQ.same _) f2 f1;have h:¬aa=0:=λx=>by rw[x]at h;cases h
 have e:=vp (t:=t) (a:=a) h;have h2:=bne_iff_ne.1 h2;have h3:(cH t a 17 1 [] [] aa).2.2≠0:=h2;have⟨f1,f2⟩:=anF (t:=t) (a:=a) (f:=f) (aa:=aa) (F:=F) (W:=W) (O:=O) (ao:=ao) (l:=[]) (e:=qaE t a 17 1 [] [] aa) (by unfold qlF ur;rw[e,if_neg h3]) (by unfold ur;rw[e];rfl);exact fm ⟨[(0,.ah cE [],Lf.uy)],[0,1],2,[]⟩ rfl (le_refl _) (jQ.same _) f2 f1;have h:¬aa=0:=λx=>by rw[x]at h;cases h
 have e:=vp (t:=t) (a:=a) h;have h2:=bne_eq_false_iff_eq.1 h2;have h3:(cH t a 17 1 [] [] aa).2.2=0:=h2;have e3:qaL t a 17 1 [] [] aa=(cH t a 17 1 [] [] aa).2.1:=if_pos h3;have inv:=rW hd 17 (ad:=1) (met:=[]) (l:=[]) (n:=aa) rX (le_refl 0);have lm:=gy inv.1;have ll:(qaL t a 17 1 [] [] aa).length<=130000:=by rw[e3];omega
 have⟨f1,f2⟩:=anF (t:=t) (a:=a) (f:=f) (aa:=aa) (F:=F) (W:=W) (O:=O) (ao:=ao) (l:=geK ao (qaL t a 17 1 [] [] aa)) (e:=0) (by unfold qlF ur;rw[e,if_pos h3,e3]) (by unfold ur;rw[e];exact h3);generalize qaL t a 17 1 [] [] aa=l at *
 have loop:∀(j i:Nat),i+j=l.length->Safe P 29 X (nC anC ((t,a,f,aa,F,W,O),ao)) (cQl t a f aa F W O ao l (geK ao (l.take i)) (i:Int)):=λj=>by
  induction j with
  |zero=>
   intro i hi;refine Ds.cA hz hX afM rY func29 (ar7 t a f aa F W O ao l _ (i:Int)) ⟨λh=>absurd (of_decide_eq_true h) (by omega),λ_=> ?_⟩;rw[take_of_length_le (by omega)];exact fm ⟨[],[0,1],2,[]⟩ rfl (le_refl _) (jQ.same _) f2 f1
  |succ j ih=>
   intro i hi;have st:=anE (ao:=ao) (l:=l) (i:=i) (by omega);have ge:=au1 (ao:=ao) (l:=l) i;have nx:=ih (i+1) (by omega);rw[st]at nx;refine Ds.cA hz hX afM rY func29 (ar7 t a f aa F W O ao l _ (i:Int)) ⟨λ_=>⟨by omega,by omega,λh4=>⟨by omega,by omega,by omega,⟨by omega,by omega⟩, ?_⟩,λh4=>⟨⟨by omega,by omega⟩, ?_⟩⟩,λh=>absurd (of_decide_eq_false h) (by omega)⟩;have h4:geE ao (l.getD i dE)=true:=h4;rw[if_pos h4]at nx;exact nx;have h4:geE ao (l.getD i dE)=false:=h4;rw[if_neg (by rw[h4];simp),append_nil]at nx;exact nx
 exact loop l.length 0 (by omega)
theorem anI{t:Tx}{a:Kp}{f aa:Int}{F W O:Sl}{m:Sl}{e:Int}(h1:qpF t a aa=m)(h2:ur t a aa=e):auZ.out (t,a,f,aa,F,W,O)=.bd [.agg [roI m],az e]:=by
 subst h1 h2;rfl
theorem ajo{Z:aZ}:fD P Z 27 auZ:=by
 refine jN func27 (by kernel_rfl) (λx=>le_of_ble_eq_true (by kernel_rfl)) ?_;rintro⟨t,a,f,aa,F,W,O⟩ ⟨(hd:Ds.cc t a f),_⟩ X hX hz;refine Ds.cA hz hX (by intro y hy;cases hy) rY func27 (axR t a f aa F W O) ⟨λh=> ?_,λh=>⟨rfl,rfl,hd,rX,⟨Int.le_refl 1,by omega⟩,by omega,le_refl 0,λh2=> ?_,λh2=> ?_⟩⟩;have h:aa=0:=eq_of_beq h;have e:=anG (t:=t) (a:=a) h;exact aa9 2 rfl (le_refl _) (.bd (.cons (.agg (.cons (.em (.af .i64 []) rfl) .nil)) (.cons (.one (.refl (az 0))) .nil))) (anI (by unfold qpF ur;rw[e];rfl) (by unfold ur;rw[e])) rfl;have h:¬aa=0:=λx=>by rw[x]at h;cases h
 have e:=vp (t:=t) (a:=a) h;have h2:=bne_iff_ne.1 h2;have h3:(cH t a 17 1 [] [] aa).2.2≠0:=h2;exact aa9 2 rfl (le_refl _) (.bd (.cons (.agg (.cons (.em (.af .i64 []) rfl) .nil)) (.cons (.one (.refl (az _))) .nil))) (anI (by unfold qpF ur;rw[e,if_neg h3]) (by unfold ur;rw[e];rfl)) rfl;have h:¬aa=0:=λx=>by rw[x]at h;cases h
 have e:=vp (t:=t) (a:=a) h;have h2:=bne_eq_false_iff_eq.1 h2;have h3:(cH t a 17 1 [] [] aa).2.2=0:=h2;exact aa9 2 rfl (le_refl _) (.bd (.cons (.agg (.cons (.refl _) .nil)) (.cons (.one (.refl (az 0))) .nil))) (anI (m:=qa0 t a 17 1 [] [] aa) (by unfold qpF ur;rw[e,if_pos h3];rfl) (by unfold ur;rw[e];exact h3)) rfl
theorem tp{Z:aZ}:afK.Ok P Z:=aF.Ok.cons (Ds.axj.sum Ds.mR) (aF.Ok.cons Bx.am2.gH aF.Ok.nil)
theorem aqI{p:Int->Bool}{l:List Int}{i:Nat}(h:i<l.length):(l.take (i+1)).filter p=(l.take i).filter p++(if p (l.getD i 0)=true then [l.getD i 0]else []):=by
 rw[<-iJ (d:=(0:Int)) h,List.filter_append];congr 1;simp only[List.filter_cons,List.filter_nil]
theorem anJ{Z:aZ}:fD P Z 10 anD:=by
 refine fS func10 ?_;rintro⟨t,a,f,aa,free⟩ ⟨(hd:Ds.cc t a f),(hf:bn free),_⟩ X hX hz;have lf:=gy hf;have mc:∀x∈ahD,(anD.heap (t,a,f,aa,free)).length<=x.2.m:=by intro y hy;simp[ahD]at hy;subst hy;exact le_refl _
 have loop:∀(j i:Nat),i+j=free.length->Safe P 10 X (fq anD (t,a,f,aa,free)) (afL t a f aa free ((free.take i).filter (tn t)) (i:Int)):=λj=>by
  induction j with
  |zero=>
   intro i hi;have le:=List.length_filter_le (tn t) free;refine Ds.cA hz hX mc tp func10 (ar8 t a f aa free _ (i:Int)) ⟨λh=>absurd (of_decide_eq_true h) (by omega),λ_=>⟨?_, ?_⟩⟩;rw[take_of_length_le (by omega)];omega;rw[take_of_length_le (by omega)];exact yc 1 [(1,3,true,.af .i64 [],3),(1,4,true,.af .i64 [],3)] rfl (le_refl _) rfl rfl
  |succ j ih=>
   intro i hi;have st:=aqI (p:=tn t) (l:=free) (i:=i) (by omega)
   have ge:((free.take i).filter (tn t)).length<=i:=by
    have:=List.length_filter_le (tn t) (free.take i);rw[length_take]at this;omega
   have nx:=ih (i+1) (by omega);rw[st]at nx
   have no:tn t (free.getD i 0)=false->Safe P 10 X (fq anD (t,a,f,aa,free)) (afL t a f aa free ((free.take i).filter (tn t)) ((i:Int)+1)):=λh=>by
    rw[if_neg (by rw[h];simp),append_nil]at nx;exact nx
   refine Ds.cA hz hX mc tp func10 (ar8 t a f aa free _ (i:Int)) ⟨λ_=>⟨by omega,by omega,λh4=>⟨by omega,by omega,rfl,rfl,hd,λh5=>⟨by omega,by omega,by omega,⟨by omega,by omega⟩, ?_⟩,λh5=>⟨⟨by omega,by omega⟩,no ?_⟩⟩,λh4=>⟨⟨by omega,by omega⟩,no ?_⟩⟩,λh=>absurd (of_decide_eq_false h) (by omega)⟩
   have h6:tn t (free.getD i 0)=true:=by
    have h4:decide (free.getD i 0>1)=true:=h4;have h5:decide (free.getD i 0<Ds.abn t)=true:=h5;unfold tn;rw[h4,h5];rfl
   rw[if_pos h6]at nx;exact nx;have h5:decide (free.getD i 0<Ds.abn t)=false:=h5;unfold tn;rw[h5,Bool.and_false];have h4:decide (free.getD i 0>1)=false:=h4;unfold tn;rw[h4,Bool.false_and]
 exact Ds.cA hz hX mc tp func10 (axS t a f aa free) (loop free.length 0 (by omega))
end Ts
open Ds (cK kN kT kM)
namespace Ts
open Go Go.Sx Go.Proofs Lf
section
variable{th:Th}{m:As}{fu aa:Int}
theorem abB(hd:Ds.cf th m fu){σ:Type}(on:σ->Int->List En->σ)(ρ:Ws->List En->σ->Prop)(hρ:∀{met:Ws} {l:List En} {out:σ} (n:Int) (es:List En),Bx.okW met->ρ met l out->ρ (Bx.cU met n) (l++es) (on out n es)):
 ∀(k:Nat) {ad:Int} {met:Ws} {l:List En} {out:σ} {n:Int},Bx.okW met->ρ met l out->
  (cH (Ds.dt th) (Ds.ed m) k ad (Bx.SL met) l n).1=Bx.SL (c9 on th m k ad met out n).1/\(cH (Ds.dt th) (Ds.ed m) k ad (Bx.SL met) l n).2.2=(c9 on th m k ad met out n).2.2/\
  Bx.okW (c9 on th m k ad met out n).1/\ρ (c9 on th m k ad met out n).1 (cH (Ds.dt th) (Ds.ed m) k ad (Bx.SL met) l n).2.1 (c9 on th m k ad met out n).2.1
 |0,ad,met,l,out,n,h1,h2=>⟨by simp only[cH,c9],by simp only[cH,c9],h1,h2⟩
 |k+1,ad,met,l,out,n,h1,h2=>by
  have⟨e1,e2,e3,e4⟩:=tk hd n ad;unfold cH c9;rw[e1,e3,e4,Bx.am7 h1,Bx.vk h1];by_cases h3:fE th m n ad≠0;rw[if_pos h3,if_pos h3];exact⟨by dsimp only,by dsimp only,h1,h2⟩;rw[if_neg h3,if_neg h3];by_cases h4:Bx.lL met n=true;rw[if_pos h4,if_pos h4];exact⟨by dsimp only,by dsimp only,h1,h2⟩;rw[if_neg h4,if_neg h4];have inner:∀(bs:List Br) {met:Ws} {l:List En} {out:σ},Bx.okW met->ρ met l out->
   (kD (cH (Ds.dt th) (Ds.ed m) k (ad+1)) bs (Bx.SL met) l).1=Bx.SL (ng (c9 on th m k (ad+1)) bs met out).1/\(kD (cH (Ds.dt th) (Ds.ed m) k (ad+1)) bs (Bx.SL met) l).2.2=(ng (c9 on th m k (ad+1)) bs met out).2.2/\
   Bx.okW (ng (c9 on th m k (ad+1)) bs met out).1/\ρ (ng (c9 on th m k (ad+1)) bs met out).1 (kD (cH (Ds.dt th) (Ds.ed m) k (ad+1)) bs (Bx.SL met) l).2.1 (ng (c9 on th m k (ad+1)) bs met out).2.1:=λbs=>by
   induction bs with
   |nil=>exact λh1 h2=>⟨by simp only[kD,ng],by simp only[kD,ng],h1,h2⟩
   |cons b r ih=>
    intro met l out h1 h2;have⟨a1,a2,a3,a4⟩:=abB hd on ρ hρ k (ad:=ad+1) (n:=b.2.1) h1 h2;unfold kD ng;by_cases h5:(c9 on th m k (ad+1) met out b.2.1).2.2≠0;rw[if_pos h5,if_pos (show(cH (Ds.dt th) (Ds.ed m) k (ad+1) (Bx.SL met) l b.2.1).2.2≠0 by rw[a2];exact h5)];exact⟨a1,a2,a3,a4⟩;rw[if_neg h5,if_neg (show¬(cH (Ds.dt th) (Ds.ed m) k (ad+1) (Bx.SL met) l b.2.1).2.2≠0 by rw[a2];exact h5),a1];exact ih a3 a4
  exact inner _ (Bx.gx h1 n).1 (hρ n _ h1 h2)
theorem au2(hd:Ds.cf th m fu)(ao:ByteArray):ur (Ds.dt th) (Ds.ed m) aa=lsE th m aa ao/\qlF (Ds.dt th) (Ds.ed m) aa ao=lsF th m aa ao:=by
 have key:ur (Ds.dt th) (Ds.ed m) aa=lsE th m aa ao/\geK ao (uE (Ds.dt th) (Ds.ed m) aa).2.1=lsT th m aa ao:=by
  unfold ur lsE lsT wkT uE;by_cases h:aa=0;rw[if_pos h,if_pos h];exact⟨rfl,rfl⟩;rw[if_neg h,if_neg h]
  have⟨a1,a2,a3,a4⟩:=abB hd (ui ao) (λ_ l out=>out=geK ao l) (λn es _ h=>by
   show _++_=_;rw[h];unfold geK;rw[List.filter_append]) 17 (ad:=1) (met:=Bx.cz) (l:=[]) (out:=[]) (n:=aa) Bx.fe.1 rfl
  rw[Bx.kB]at a1 a2 a4;exact⟨a2,a4.symm⟩
 refine⟨key.1, ?_⟩;unfold qlF lsF;rw[key.1,key.2];by_cases h:lsE th m aa ao=0;rw[if_pos h,if_neg (by rw[h];simp)];rw[if_neg h,if_pos h]
theorem au3(hd:Ds.cf th m fu):ur (Ds.dt th) (Ds.ed m) aa=pgE th m aa/\qpF (Ds.dt th) (Ds.ed m) aa=Bx.SL (pgF th m aa)/\Bx.okW (pgF th m aa):=by
 have key:ur (Ds.dt th) (Ds.ed m) aa=pgE th m aa/\(uE (Ds.dt th) (Ds.ed m) aa).1=Bx.SL (pgT th m aa)/\Bx.okW (pgT th m aa):=by
  unfold ur pgE pgT wkT uE;by_cases h:aa=0;rw[if_pos h,if_pos h];exact⟨rfl,Bx.kB.symm,Bx.fe.1⟩;rw[if_neg h,if_neg h]
  have⟨a1,a2,a3,a4⟩:=abB hd xO (λmet _ out=>out=met) (λn es _ h=>by
   show Bx.cU _ _=_;rw[h]) 17 (ad:=1) (met:=Bx.cz) (l:=[]) (out:=Bx.cz) (n:=aa) Bx.fe.1 rfl
  rw[Bx.kB]at a1 a2;exact⟨a2,by rw[a1,a4],by rw[a4];exact a3⟩
 refine⟨key.1, ?_⟩;unfold qpF pgF;rw[key.1,key.2.1];by_cases h:pgE th m aa=0;rw[if_pos h,if_neg (by rw[h];simp)];exact⟨by dsimp only,key.2.2⟩;rw[if_neg h,if_pos h];exact⟨Bx.kB.symm,Bx.fe.1⟩
theorem au4{ws:Ws}(hw:Bx.okW ws):aqH (Ds.dt th) (Bx.SL ws)=Bx.SL (opF th ws):=by
 unfold aqH;rw[Bx.arQ];refine congrArg Bx.SL ?_;refine atY (Bx.xh _).1 (Bx.kx (.inr (.inl rfl)) hw (Bx.kx (.inr (.inr rfl)) (Bx.dz _).1 (Bx.dz _).1).1).1 λk=> ?_;unfold opF;rw[awH,atX hw (Bx.kx (.inr (.inr rfl)) (Bx.dz _).1 (Bx.dz _).1).1,apq (Bx.dz _).1 (Bx.dz _).1,adh,adh,ib hw,List.mem_filter,Bx.abr,<-Ds.pj];unfold tn;rw[and_eq_true,decide_eq_true_eq,decide_eq_true_eq];constructor;rintro⟨h0,⟨h1,h2,h3⟩,h4,h5⟩;exact⟨⟨h0,h3⟩,⟨h0,h5⟩,λx=>by omega⟩;rintro⟨⟨h0,h3⟩,⟨_,h5⟩,h6⟩
 exact⟨h0,⟨h0.1,h0.2,h3⟩,by have:¬k<2:=λx=>h6 ⟨h0,x⟩
                            omega,h5⟩
theorem anK(hd:Ds.cf th m fu):∀(k:Nat) {fs gn:Ws} {n ad:Int},0<=n/\n<=65536->0<=(jS th m k fs gn n ad).2.2.1/\(jS th m k fs gn n ad).2.2.1<=65536
 |0,fs,gn,n,ad,h=>⟨Int.le_refl 0,by show(0:Int)<=65536;omega⟩
 |k+1,fs,gn,n,ad,h=>by
  unfold jS;split;exact⟨Int.le_refl 0,by show(0:Int)<=65536;omega⟩;rename_i h1;split;exact h;exact anK hd k (qw (by simpa using h1) 0)
theorem aqJ{fr fs gn:Ws}{key:ByteArray}{op:Option ByteArray}(hd:Ds.cf th m fu)(hf:Bx.okW fr)(hr:0<=aa/\aa<=65536):0<=(opT th key op m fu aa fr fs gn).2.2.1/\(opT th key op m fu aa fr fs gn).2.2.1<=65536:=by
 have z:(0:Int)<=0/\(0:Int)<=65536:=⟨Int.le_refl 0,by omega⟩
 have e8:∀{m':As} {lH r e:Int} {rN nn uC:Ws},0<=r/\r<=65536->0<=(kA th aa fr fs gn m' lH r rN nn uC e).2.2.1/\(kA th aa fr fs gn m' lH r rN nn uC e).2.2.1<=65536:=λh=>by
  unfold kA;split;exact hr;exact h
 unfold opT;split;rename_i hk
 have hk:key.size<=24:=by
  cases op with
  |none=>simp only[fg,and_eq_true,decide_eq_true_eq]at hk;exact hk.2|some v=>simp only[fg,and_eq_true,decide_eq_true_eq]at hk;exact hk.1.2
 have F:=xu (th:=th) (op:=op) hk (m:=m) (fu:=fu) (aa:=aa) (fr:=fr) (fs:=fs) (gn:=gn) hd hf;unfold lM
 have U:∀b∈(upT th (iq th key op m fu aa fr fs gn)).2.2.2.2.2.1,0<=b.2.1/\b.2.1<=65536:=by
  unfold upT;split;exact(jo (fs:=(iq th key op m fu aa fr fs gn).2.2.2.1) (l:=false) (es:=[]) F.d F.fr noE F.key).pg;exact F.pg
 have D:Ds.cf th (upT th (iq th key op m fu aa fr fs gn)).1 (upT th (iq th key op m fu aa fr fs gn)).2.1:=by
  unfold upT;split;exact(jo (fs:=(iq th key op m fu aa fr fs gn).2.2.2.1) (l:=false) (es:=[]) F.d F.fr noE F.key).d;exact F.d
 generalize upT th (iq th key op m fu aa fr fs gn)=c at *;unfold oI;split;exact e8 (anK D 17 (abf U 0));exact e8 z;exact hr
end
end Ts
open Ds (cK kN kT kM)
namespace Ts
open Go Go.Sx Go.Proofs Lf
abbrev qB:List CK:=[.int .u8,.str,.str]
abbrev stK(x:CL qB):Int:=x.1
abbrev cZ(x:CL qB):ByteArray:=x.2.1
abbrev ik(x:CL qB):ByteArray:=x.2.2.1
abbrev iX(l:List (CL qB)):AV:=.s (.ro (.ah qB l))
def anL:List (Nat×Norm):=[(3,⟨[],[0,3,4],0,[]⟩),(6,⟨[],[0,3],0,[]⟩)]
def cLg(l:List (CL qB))(i:Int):bQ:=⟨sl 38 [(0,iX l),(3,.s (.r7 .i64)),(4,az i)],[],hd f4 3,{}⟩
def aqK(l:List (CL qB)):bQ:=⟨sl 38 [(0,iX l),(3,.s (.r7 .i64))],[],hr f4 6,{}⟩
abbrev sLg:Spec (List (CL qB)):=⟨λl=>[iX l],λ_=>[],λl=>[l.length<=9223372036854775807],λ_=>[],λl=>.s (.kG (l.length - 90) false)⟩
def iu(p:Int):Int:=4*(3+i64.wrap ((u64.wrap p).tmod 248))
abbrev sNw:Spec Int:=⟨λn=>[az n],λ_=>[],λn=>[1<=n/\n<=4096],λn=>Ds.hD (th0 n) [] (-1),λ_=>.bd [.ptr 0 0,az 0]⟩
def mPt:List AV->RM (XK×List Nat)
 |[t,.s (.str key),.s (.str val)]=>(mT [t]).bind λ(X,σ)=>.ret ((X,key,val),σ)|_=>.fail ""
def mLg:List AV->RM (List (CL qB)×List Nat)
 |[.s (.ro (.ah [.int .u8,.str,.str] l))]=>.ret (l,[])|_=>.fail ""
def mNw:List AV->RM (Int×List Nat)
 |[p]=>match p.cD with
  |some (_,_,p)=>.ret (p,[])|none=>.fail ""
 |_=>.fail ""
def aqL:List (Nat×Norm):=[(5,⟨[],[0,4,5],0,[]⟩)]
def cQn(n:Int)(zs:List ByteArray)(i:Int):bQ:=⟨sl 27 [(0,az n),(4,.vec 0),(5,az i)],[.vec (.strs zs) 9],hd f7 5,{}⟩
abbrev aqM:Spec Int:=⟨λn=>[az n],λ_=>[],λn=>[1<=n/\n<=4096],λn=>[Ds.pw (Ds.dt (th0 n)) [] (-1)],λ_=>.bd [.ptr 0 0,az 0]⟩
abbrev axT:Spec XQ:=⟨λ_=>[.ptr 0 0],λ(t,a,f,aa,F,W,O)=>hQ t a f aa F W O,λ_=>[],λ(t,a,f,aa,F,W,O)=>hQ t a f aa F W O,λ(_,_,_,aa,_)=>az aa⟩
abbrev axU:Spec XQ:=⟨λ_=>[.ptr 0 0],λ(t,a,f,aa,F,W,O)=>hQ t a f aa F W O,λ_=>[],λ(t,a,f,aa,F,W,O)=>hQ t a f aa F W O,λ(_,_,_,_,_,W,_)=>.agg [roI W]⟩
abbrev axV:Spec XQ:=⟨λ_=>[.ptr 0 0],λ(t,a,f,aa,F,W,O)=>hQ t a f aa F W O,λ_=>[],λ(t,a,f,aa,F,W,O)=>hQ t a f aa F W O,λ(_,_,_,_,F,_)=>.agg [roI F]⟩
theorem au5(l:List (CL qB)):run P (aF.sum []) f4 anL (start f4 [iX l] [])=
 Tree.at (.mk (sl 38 [(0,.s (.ro (.ah qB l))),(3,.s (.int .i64 0)),(4,.s (.int .i64 0))]) [] (hd f4 3) (.mk none false 0 [] 0)):=by kernel_rfl
theorem anM(l:List (CL qB))(i:Int):run P (aF.sum []) f4 anL (cLg l i)=
 Tree.ite (decide (i<l.length)) (.both ((0:Nat)=0) True (.ab ((0:Int)<=i) (.ab (i<l.length) (.ab ((0:Int)<=i) (.ab (i<l.length) (.ab (aw (i+1)) (.at (cLg l (i+1)))))))) (.at (aqK l))) (.at (aqK l)):=by kernel_rfl
theorem aqN(l:List (CL qB)):run P (aF.sum []) f4 anL (aqK l)=
 Tree.both ((0:Nat)=0) True (.ret [] (.s (.aN true))) (.ret [] (.s (.bool (decide ((↑l.length:Int)>90))))):=by kernel_rfl
theorem azB(p:Int):run P (aF.sum []) f5 [] (start f5 [az p] [])=
 Tree.ab ((248:Int)≠(0:Int)) (Tree.ab (aw ((3:Int)+i64.wrap ((u64.wrap p).tmod (248:Int)))) (Tree.ab (aw ((4:Int)*((3:Int)+i64.wrap ((u64.wrap p).tmod (248:Int))))) (Tree.ret [] (AV.s (SV.int i64 ((4:Int)*((3:Int)+i64.wrap ((u64.wrap p).tmod (248:Int))))))))):=by kernel_rfl
theorem azC(n:Int):run P (aF.sum []) f6 [] (start f6 [az n] [])=
 Tree.ite (decide (n<1)) (.ret [] (.bd [.s .pS,.s (.aO .i64 1)])) (.ite (decide (n>4096)) (.ret [] (.bd [.s .pS,.s (.aO .i64 1)])) (.ab ((0:Int)<=n) (.ab (n<=n) (.ab (n<=1073741824) (.ret [.vec (.ah [.arr .u8 64] (replicate n.toNat (CL.d [.arr .u8 64]))) 199,.map Ds.kS [],.ak [.vec 0,.iz 1,.s (.aO .i64 (-1))] 73] (.bd [.ptr 2 0,.s (.aO .i64 0)])))))):=by kernel_rfl
theorem axW(n:Int):run P (aF.sum []) f7 aqL (start f7 [az n] [])=
 Tree.ite (decide (n<1)) (.ret [] (.bd [.s .pS,.s (.aO .i64 1)])) (.ite (decide (n>4096)) (.ret [] (.bd [.s .pS,.s (.aO .i64 1)])) (.ab ((0:Int)<=n) (.ab (n<=n) (.ab (n<=1073741824) (.at (cQn n (replicate n.toNat empty) 0)))))):=by kernel_rfl
theorem ar9(n:Int)(zs:List ByteArray)(i:Int):run P (aF.sum []) f7 aqL (cQn n zs i)=
 Tree.ite (decide (i<n)) (.ab ((0:Int)<=64) (.ab ((64:Int)<=64) (.ab ((64:Int)<=1073741824) (.ab ((0:Int)<=i) (.ab (i<zs.length) (.ab (aw (i+1)) (.at (cQn n (zs.set i.toNat (aB (replicate (Int.toNat 64) 0))) (i+1))))))))) (.ret [.vec (.strs zs) 9,.ak [.vec 0,.emp,.s (.aO .i64 (-1))] 78] (.bd [.ptr 1 0,.s (.aO .i64 0)])):=by kernel_rfl
theorem axX(t:Tx)(a:Kp)(f aa:Int)(F W O:Sl):run P (aF.sum []) f19 [] (start f19 [.ptr 0 0] (hQ t a f aa F W O))=
 Tree.ret [.ak [.ptr 1 0,.s (.int .i64 aa),.s (.ro (.af .i64 F)),.s (.ro (.af .i64 W)),.s (.ro (.af .i64 O))] 86,.ak [.s (.ro (.strs t)),.s (.ro (.ah cK a)),.s (.int .i64 f)] 78] (.s (.int .i64 aa)):=by kernel_rfl
theorem axY(t:Tx)(a:Kp)(f aa:Int)(F W O:Sl):run P (aF.sum []) f23 [] (start f23 [.ptr 0 0] (hQ t a f aa F W O))=
 Tree.ret [.ak [.ptr 1 0,.s (.int .i64 aa),.s (.ro (.af .i64 F)),.s (.ro (.af .i64 W)),.s (.ro (.af .i64 O))] 86,.ak [.s (.ro (.strs t)),.s (.ro (.ah cK a)),.s (.int .i64 f)] 78,.ak [.s (.ro (.af .i64 W))] 42] (.agg [.s (.ro (.af .i64 W))]):=by kernel_rfl
theorem axZ(t:Tx)(a:Kp)(f aa:Int)(F W O:Sl):run P (aF.sum []) f25 [] (start f25 [.ptr 0 0] (hQ t a f aa F W O))=
 Tree.ret [.ak [.ptr 1 0,.s (.int .i64 aa),.s (.ro (.af .i64 F)),.s (.ro (.af .i64 W)),.s (.ro (.af .i64 O))] 86,.ak [.s (.ro (.strs t)),.s (.ro (.ah cK a)),.s (.int .i64 f)] 78,.ak [.s (.ro (.af .i64 F))] 42] (.agg [.s (.ro (.af .i64 F))]):=by kernel_rfl
theorem ax0{Z:aZ}:fD P Z 4 sLg:=by
 refine jN func4 (by kernel_rfl) (λx=>le_of_ble_eq_true (by kernel_rfl)) ?_;rintro(l:List (CL qB)) ⟨(hl:l.length<=9223372036854775807),_⟩ X hX hz;have mc:∀x∈anL,(sLg.heap l).length<=x.2.m:=by intro y hy;simp[anL]at hy;rcases hy with rfl|rfl<;>exact le_refl _
 have fin:Safe P 4 X (akF sLg l) (aqK l):=by
  refine Ds.cA hz hX mc aF.Ok.nil func4 (aqN l) ⟨λ_=> ?_,λ_=> ?_⟩
  exact⟨⟨[],[0],0,[]⟩,.s (.bool true),le_refl _,by kernel_rfl,λρ H O w v hv=>by
   have:=aC (by simp) hv;cases this;exact aK (.kG _ _ _ (λh=>by cases h))⟩
  exact⟨⟨[],[0],0,[]⟩,.s (.bool (decide ((l.length:Int)>90))),le_refl _,by kernel_rfl,λρ H O w v hv=>by
   have:=aC (by simp) hv;cases this;exact aK (.kG _ _ _ (λh=>by have:=of_decide_eq_false h;omega))⟩
 have loop:∀(j k:Nat),k+j=l.length->Safe P 4 X (akF sLg l) (cLg l (k:Int)):=by
  intro j
  induction j with
  |zero=>
   intro k hk;exact Ds.cA hz hX mc aF.Ok.nil func4 (anM l k) ⟨λh=>absurd (of_decide_eq_true h) (by omega),λ_=>fin⟩
  |succ j ih=>
   intro k hk;exact Ds.cA hz hX mc aF.Ok.nil func4 (anM l k) ⟨λ_=>⟨λ_=>⟨by omega,by omega,by omega,by omega,⟨by omega,by omega⟩,ih (k+1) (by omega)⟩,λ_=>fin⟩,λ_=>fin⟩
 refine Ds.cA hz hX mc aF.Ok.nil func4 (au5 l) ?_;exact acz (t:=3) (k:=.i64) (n:=0) rfl (loop l.length 0 (by omega))
theorem zL(p:Int):12<=iu p/\iu p<=1000/\iu p=4*(3+(u64.wrap p)%248):=by
 have h0:0<=u64.wrap p:=by show 0<=p%18446744073709551616;omega
 have e:(u64.wrap p).tmod 248=(u64.wrap p)%248:=Int.tmod_eq_emod_of_nonneg h0;have e2:i64.wrap ((u64.wrap p)%248)=(u64.wrap p)%248:=cL ⟨by omega,by omega⟩;unfold iu;rw[e,e2];exact⟨by omega,by omega,rfl⟩
theorem au6{Z:aZ}:cg P Z 5 [bk] [bk] (λ_=>[]) (λ(p,())=>(iu p,())):=by
 refine ay func5 (by kernel_rfl) (by kernel_rfl) ?_;rintro⟨(p:Int),⟨⟩⟩ _ _ X hX hz;have:=zL p;unfold iu at this;exact Lf.go hz hX aF.Ok.nil func5 (azB p) ⟨by omega,inI (by omega) (by omega),inI (by omega) (by omega),wF⟩
theorem au7{Z:aZ}:fD P Z 6 sNw:=by
 refine fS func6 ?_;rintro(n:Int) ⟨(hn:1<=n/\n<=4096),_⟩ X hX hz;refine Ds.cA hz hX (by intro y hy;cases hy) aF.Ok.nil func6 (azC n) ⟨λh=> ?_,λh=>⟨λh2=> ?_,λh2=>⟨by omega,by omega,by omega,bK 0 rfl (le_refl _) rfl rfl⟩⟩⟩;have:=of_decide_eq_true h;omega;have:=of_decide_eq_true h2;omega
end Ts
open Ds (cK kN kT kM)
namespace Ts
open Go Go.Sx Go.Proofs Lf
def ax1:List AV->RM (XQO×List Nat)
 |[d,r,.agg [.s (.ro (.af .i64 free))]]=>(Ds.mR [d]).bind λ((t,a,f),σ)=>match r.cD with
  |some (_,_,aa)=>.ret ((t,a,f,aa,free),σ)|none=>.fail ""
 |_=>.fail ""
abbrev ax2:=bM [Bx.dF] [iw] (λ(ws,())=>[Bx.okW ws]) (λ(ws,())=>(Bx.SL ws,()))
abbrev ax3:=bM [iw,iw] [bL] (λ(a,b,())=>[(a:List Int)=b]) (λ_=>(true,()))
abbrev ax4:=bM [bk] [bk] (λ_=>[]) (λ(p,())=>(iu p,()))
abbrev au8:=bM [Bx.iw] [Bx.dF] (λ_=>[]) (λ(l,())=>(Bx.ofF l,()))
def xK:aF:=[(4,cu sLg mLg),(5,ax4),(6,cu sNw mNw),(7,cu aqM mNw),(9,au8),(8,axa),(11,axP),(10,cu anD ax1),
 (12,cu amx mPt),(13,cu ad7 axK),(14,cu amy mGt),(15,cu ad8 mQK),(16,cu amA mGt),(17,cu ad9 mQK),
 (18,cu sRt mT),(19,cu axT mQ),(21,cu sFs mT),(23,cu axU mQ),(24,cu sFr mT),(25,cu axV mQ),
 (22,ax2),(20,ax3),(26,cu sPg mT),(27,cu auZ mQ),(28,cu sLs mGt),(29,cu anC mQK)]
abbrev hTq(th:Th)(m:As)(fu aa:Int)(fr fs gn:Ws)(t:Tx)(a:Kp)(f R:Int)(F W O:Sl):List au:=[qu 2 aa fr fs gn,obQ 3 R F W O,Ds.wJ 4 5 fu,Ds.pw t a f,.vec (.ah Ds.cS th) Ds.eS,.map Ds.kS m]
abbrev hTl(th:Th)(m:As)(fu aa:Int)(fr fs gn:Ws)(t:Tx)(a:Kp)(f R:Int)(F W O:Sl)(x y:List En):List au:=[qu 4 aa fr fs gn,obQ 5 R F W O,.vec (.ah cE x) Lf.eE,.vec (.ah cE y) Lf.uy,Ds.wJ 6 7 fu,Ds.pw t a f,.vec (.ah Ds.cS th) Ds.eS,.map Ds.kS m]
def ajp:List (Nat×Norm):=[(11,⟨[],[2,12,13,14],0,[]⟩),(25,⟨[],[2,12,13,14],0,[]⟩),(27,⟨[],[2,12,13],0,[]⟩),(32,⟨[],[2,12,13,23],0,[]⟩),(39,⟨[],[2,12,13,23,24,26,28],0,[]⟩)]
def cTq(l:List (CL qB))(th:Th)(m:As)(fu aa:Int)(fr fs gn:Ws)(t:Tx)(a:Kp)(f R:Int)(F W O:Sl)(i:Int):bQ:=⟨sl 254 [(2,iX l),(12,.ptr 0 0),(13,.ptr 1 0),(14,az i)],hTq th m fu aa fr fs gn t a f R F W O,hd f3 11,{}⟩
def xL(l:List (CL qB))(th:Th)(m:As)(fu aa:Int)(fr fs gn:Ws)(t:Tx)(a:Kp)(f R:Int)(F W O:Sl)(i:Int):bQ:=⟨sl 254 [(2,iX l),(12,.ptr 0 0),(13,.ptr 1 0),(14,az i)],hTq th m fu aa fr fs gn t a f R F W O,hr f3 25,{}⟩
def anN(l:List (CL qB))(th:Th)(m:As)(fu aa:Int)(fr fs gn:Ws)(t:Tx)(a:Kp)(f R:Int)(F W O:Sl):bQ:=⟨sl 254 [(2,iX l),(12,.ptr 0 0),(13,.ptr 1 0)],hTq th m fu aa fr fs gn t a f R F W O,hr f3 27,{}⟩
def aec(l:List (CL qB))(th:Th)(m:As)(fu aa:Int)(fr fs gn:Ws)(t:Tx)(a:Kp)(f R:Int)(F W O:Sl)(i:Int):bQ:=⟨sl 254 [(2,iX l),(12,.ptr 0 0),(13,.ptr 1 0),(23,az i)],hTq th m fu aa fr fs gn t a f R F W O,hd f3 32,{}⟩
def aed(l:List (CL qB))(th:Th)(m:As)(fu aa:Int)(fr fs gn:Ws)(t:Tx)(a:Kp)(f R:Int)(F W O:Sl)(x y:List En)(i j:Int):bQ:=⟨sl 254 [(2,iX l),(12,.ptr 0 0),(13,.ptr 1 0),(23,az i),(24,.vec 2),(26,.vec 3),(28,az j)],hTl th m fu aa fr fs gn t a f R F W O x y,hd f3 39,{}⟩
theorem azD(p:Int)(free:List Int)(l:List (CL qB)):run P xK.sum f3 ajp (start f3 [az p,.s (.ro (.af .i64 free)),iX l] [])=
 Tree.ab (bD (some [AV.s (.ro (.ah qB l))])) (.ab akC (.ab (l.length<=9223372036854775807) (.both True (l.length - (90:Nat)=0) (.ret [] (.s (.aN true))) (.ite (decide ((↑free.length:Int)>300)) (.ret [] (.s (.aN true))) (.ab (bD (some [az (iu p)])) (.ab akC (.ab ((1:Int)<=iu p/\iu p<=4096) (.ab (bD (some [az (iu p)])) (.ab akC (.ab ((1:Int)<=iu p/\iu p<=4096) (.ite false (.ret (Ds.hD (th0 (iu p)) [] (-1:Int)++[.ak [.s (.ro (.strs (Ds.dt (th0 (iu p))))),.s (.ro (.ah cK [])),az (-1)] 78]) (.s (.aN false))) (.ite false (.ret (Ds.hD (th0 (iu p)) [] (-1:Int)++[.ak [.s (.ro (.strs (Ds.dt (th0 (iu p))))),.s (.ro (.ah cK [])),az (-1)] 78]) (.s (.aN false))) (.ab (bD (some [AV.ptr 0 0,az 0,.af .u64 16 (Bx.ofF free)])) (.ab (bD (some (Ds.hD (th0 (iu p)) [] (-1)))) (.ab (Ds.cf (th0 (iu p)) [] (-1)) (.ab (free.length<4294967296) (.ab (bD (some [AV.ptr 0 0,az 0,.agg [.s (.ro (.af .i64 (Bx.rOf free)))]])) (.ab (bD (some [au.ak [.s (.ro (.strs (Ds.dt (th0 (iu p))))),.s (.ro (.ah cK [])),az (-1)] 78])) (.ab (Ds.cc (Ds.dt (th0 (iu p))) [] (-1)) (.ab (bn (Bx.rOf free)) (.at (cTq l (th0 (iu p)) [] (-1) 0 (opF (th0 (iu p)) (Bx.ofF free)) Bx.cz Bx.cz (Ds.dt (th0 (iu p))) [] (-1) 0 (aqH (Ds.dt (th0 (iu p))) (Bx.rOf free)) [] [] 0)))))))))))))))))))))):=by kernel_rfl
theorem ax5(l:List (CL qB))(th:Th)(m:As)(fu aa:Int)(fr fs gn:Ws)(t:Tx)(a:Kp)(f R:Int)(F W O:Sl)(i:Int):run P xK.sum f3 ajp (cTq l th m fu aa fr fs gn t a f R F W O i)=
 Tree.ite (decide (i<l.length))
 (.ab ((0:Int)<=i)
   (.ab (i<l.length)
     (.ite (stK (el l i)==0) (.ab ((0:Int)<=i) (.ab (i<l.length) (.ab ((0:Int)<=i) (.ab (i<l.length) (.ab (bD (some [AV.ptr 0 0,.s (.str (cZ (el l i))),.s (.str (ik (el l i)))])) (.ab (bD (some (hT th m fu aa fr fs gn))) (.ab (Ds.cf th m fu) (.ab (Bx.okW fr) (.ab ((0:Int)<=aa/\aa<=65536) (.ab ((0:Int)<=i) (.ab (i<l.length) (.ab ((0:Int)<=i) (.ab (i<l.length) (.ab (bD (some [AV.ptr 0 0,.s (.str (cZ (el l i))),.s (.str (ik (el l i)))])) (.ab (bD (some [au.ak [.ptr 1 0,az R,.s (.ro (.af .i64 F)),.s (.ro (.af .i64 W)),.s (.ro (.af .i64 O))] 86,.ak [.s (.ro (.strs t)),.s (.ro (.ah cK a)),az f] 78])) (.ab (Ds.cc t a f) (.ab (bn F) (.ab (bn W) (.ab (bn O) (.ite (opE th (cZ (el l i)) (some (ik (el l i))) m fu aa fr fs gn !=qoE t (cZ (el l i)) (some (ik (el l i))) a f R F W O) (.ret [qu 2 (rZ th (cZ (el l i)) (some (ik (el l i))) m fu aa fr fs gn) (op2 th (cZ (el l i)) (some (ik (el l i))) m fu aa fr fs gn) (op3 th (cZ (el l i)) (some (ik (el l i))) m fu aa fr fs gn) (op4 th (cZ (el l i)) (some (ik (el l i))) m fu aa fr fs gn),.ak [.ptr 3 0,az (qoR t (cZ (el l i)) (some (ik (el l i))) a f R F W O),.s (.ro (.af .i64 (qo2 t (cZ (el l i)) (some (ik (el l i))) a f R F W O))),.s (.ro (.af .i64 (qo3 t (cZ (el l i)) (some (ik (el l i))) a f R F W O))),.s (.ro (.af .i64 (qo4 t (cZ (el l i)) (some (ik (el l i))) a f R F W O)))] 86,Ds.wJ 4 5 (op1 th (cZ (el l i)) (some (ik (el l i))) m fu aa fr fs gn),.ak [.s (.ro (.strs t)),.s (.ro (.ah cK (qo0 t (cZ (el l i)) (some (ik (el l i))) a f R F W O))),az (qo1 t (cZ (el l i)) (some (ik (el l i))) a f R F W O)] 78,.vec (.ah Ds.cS th) Ds.eS,.map Ds.kS (op0 th (cZ (el l i)) (some (ik (el l i))) m fu aa fr fs gn)] (.s (.aN false))) (.at (xL l th (op0 th (cZ (el l i)) (some (ik (el l i))) m fu aa fr fs gn) (op1 th (cZ (el l i)) (some (ik (el l i))) m fu aa fr fs gn) (rZ th (cZ (el l i)) (some (ik (el l i))) m fu aa fr fs gn) (op2 th (cZ (el l i)) (some (ik (el l i))) m fu aa fr fs gn) (op3 th (cZ (el l i)) (some (ik (el l i))) m fu aa fr fs gn) (op4 th (cZ (el l i)) (some (ik (el l i))) m fu aa fr fs gn) t (qo0 t (cZ (el l i)) (some (ik (el l i))) a f R F W O) (qo1 t (cZ (el l i)) (some (ik (el l i))) a f R F W O) (qoR t (cZ (el l i)) (some (ik (el l i))) a f R F W O) (qo2 t (cZ (el l i)) (some (ik (el l i))) a f R F W O) (qo3 t (cZ (el l i)) (some (ik (el l i))) a f R F W O) (qo4 t (cZ (el l i)) (some (ik (el l i))) a f R F W O) i))))))))))))))))))))))
       (.ite (stK (el l i)==1) (.ab ((0:Int)<=i) (.ab (i<l.length) (.ab ((0:Int)<=i) (.ab (i<l.length) (.ab (bD (some [AV.ptr 0 0,.s (.str (cZ (el l i))),.s (.str (ik (el l i)))])) (.ab (bD (some (hT th m fu aa fr fs gn))) (.ab (Ds.cf th m fu) (.ab (Bx.okW fr) (.ab ((0:Int)<=aa/\aa<=65536) (.ab ((0:Int)<=i) (.ab (i<l.length) (.ab ((0:Int)<=i) (.ab (i<l.length) (.ab (bD (some [AV.ptr 0 0,.s (.str (cZ (el l i))),.s (.str (ik (el l i)))])) (.ab (bD (some [au.ak [.ptr 1 0,az R,.s (.ro (.af .i64 F)),.s (.ro (.af .i64 W)),.s (.ro (.af .i64 O))] 86,.ak [.s (.ro (.strs t)),.s (.ro (.ah cK a)),az f] 78])) (.ab (Ds.cc t a f) (.ab (bn F) (.ab (bn W) (.ab (bn O) (.ite (opE th (cZ (el l i)) (some (ik (el l i))) m fu aa fr fs gn !=qoE t (cZ (el l i)) (some (ik (el l i))) a f R F W O) (.ret [qu 2 (rZ th (cZ (el l i)) (some (ik (el l i))) m fu aa fr fs gn) (op2 th (cZ (el l i)) (some (ik (el l i))) m fu aa fr fs gn) (op3 th (cZ (el l i)) (some (ik (el l i))) m fu aa fr fs gn) (op4 th (cZ (el l i)) (some (ik (el l i))) m fu aa fr fs gn),.ak [.ptr 3 0,az (qoR t (cZ (el l i)) (some (ik (el l i))) a f R F W O),.s (.ro (.af .i64 (qo2 t (cZ (el l i)) (some (ik (el l i))) a f R F W O))),.s (.ro (.af .i64 (qo3 t (cZ (el l i)) (some (ik (el l i))) a f R F W O))),.s (.ro (.af .i64 (qo4 t (cZ (el l i)) (some (ik (el l i))) a f R F W O)))] 86,Ds.wJ 4 5 (op1 th (cZ (el l i)) (some (ik (el l i))) m fu aa fr fs gn),.ak [.s (.ro (.strs t)),.s (.ro (.ah cK (qo0 t (cZ (el l i)) (some (ik (el l i))) a f R F W O))),az (qo1 t (cZ (el l i)) (some (ik (el l i))) a f R F W O)] 78,.vec (.ah Ds.cS th) Ds.eS,.map Ds.kS (op0 th (cZ (el l i)) (some (ik (el l i))) m fu aa fr fs gn)] (.s (.aN false))) (.at (xL l th (op0 th (cZ (el l i)) (some (ik (el l i))) m fu aa fr fs gn) (op1 th (cZ (el l i)) (some (ik (el l i))) m fu aa fr fs gn) (rZ th (cZ (el l i)) (some (ik (el l i))) m fu aa fr fs gn) (op2 th (cZ (el l i)) (some (ik (el l i))) m fu aa fr fs gn) (op3 th (cZ (el l i)) (some (ik (el l i))) m fu aa fr fs gn) (op4 th (cZ (el l i)) (some (ik (el l i))) m fu aa fr fs gn) t (qo0 t (cZ (el l i)) (some (ik (el l i))) a f R F W O) (qo1 t (cZ (el l i)) (some (ik (el l i))) a f R F W O) (qoR t (cZ (el l i)) (some (ik (el l i))) a f R F W O) (qo2 t (cZ (el l i)) (some (ik (el l i))) a f R F W O) (qo3 t (cZ (el l i)) (some (ik (el l i))) a f R F W O) (qo4 t (cZ (el l i)) (some (ik (el l i))) a f R F W O) i))))))))))))))))))))))
         (.ite (stK (el l i)==2) (.ab ((0:Int)<=i) (.ab (i<l.length) (.ab (bD (some [AV.ptr 0 0,.s (.str (cZ (el l i)))])) (.ab (bD (some (hT th m fu aa fr fs gn))) (.ab (Ds.cf th m fu) (.ab (Bx.okW fr) (.ab ((0:Int)<=aa/\aa<=65536) (.ab ((0:Int)<=i) (.ab (i<l.length) (.ab (bD (some [AV.ptr 0 0,.s (.str (cZ (el l i)))])) (.ab (bD (some [au.ak [.ptr 1 0,az R,.s (.ro (.af .i64 F)),.s (.ro (.af .i64 W)),.s (.ro (.af .i64 O))] 86,.ak [.s (.ro (.strs t)),.s (.ro (.ah cK a)),az f] 78])) (.ab (Ds.cc t a f) (.ab (bn F) (.ab (bn W) (.ab (bn O) (.ite (opE th (cZ (el l i)) none m fu aa fr fs gn !=qoE t (cZ (el l i)) none a f R F W O) (.ret [qu 2 (rZ th (cZ (el l i)) none m fu aa fr fs gn) (op2 th (cZ (el l i)) none m fu aa fr fs gn) (op3 th (cZ (el l i)) none m fu aa fr fs gn) (op4 th (cZ (el l i)) none m fu aa fr fs gn),.ak [.ptr 3 0,az (qoR t (cZ (el l i)) none a f R F W O),.s (.ro (.af .i64 (qo2 t (cZ (el l i)) none a f R F W O))),.s (.ro (.af .i64 (qo3 t (cZ (el l i)) none a f R F W O))),.s (.ro (.af .i64 (qo4 t (cZ (el l i)) none a f R F W O)))] 86,Ds.wJ 4 5 (op1 th (cZ (el l i)) none m fu aa fr fs gn),.ak [.s (.ro (.strs t)),.s (.ro (.ah cK (qo0 t (cZ (el l i)) none a f R F W O))),az (qo1 t (cZ (el l i)) none a f R F W O)] 78,.vec (.ah Ds.cS th) Ds.eS,.map Ds.kS (op0 th (cZ (el l i)) none m fu aa fr fs gn)] (.s (.aN false))) (.at (xL l th (op0 th (cZ (el l i)) none m fu aa fr fs gn) (op1 th (cZ (el l i)) none m fu aa fr fs gn) (rZ th (cZ (el l i)) none m fu aa fr fs gn) (op2 th (cZ (el l i)) none m fu aa fr fs gn) (op3 th (cZ (el l i)) none m fu aa fr fs gn) (op4 th (cZ (el l i)) none m fu aa fr fs gn) t (qo0 t (cZ (el l i)) none a f R F W O) (qo1 t (cZ (el l i)) none a f R F W O) (qoR t (cZ (el l i)) none a f R F W O) (qo2 t (cZ (el l i)) none a f R F W O) (qo3 t (cZ (el l i)) none a f R F W O) (qo4 t (cZ (el l i)) none a f R F W O) i))))))))))))))))))
           (.ab ((0:Int)<=i) (.ab (i<l.length) (.ab (bD (some [AV.ptr 0 0,.s (.str (cZ (el l i)))])) (.ab (bD (some (hT th m fu aa fr fs gn))) (.ab (Ds.cf th m fu) (.ab ((0:Int)<=aa/\aa<=65536) (.ab ((0:Int)<=i) (.ab (i<l.length) (.ab (bD (some [AV.ptr 0 0,.s (.str (cZ (el l i)))])) (.ab (bD (some [au.ak [.ptr 1 0,az R,.s (.ro (.af .i64 F)),.s (.ro (.af .i64 W)),.s (.ro (.af .i64 O))] 86,.ak [.s (.ro (.strs t)),.s (.ro (.ah cK a)),az f] 78])) (.ab (Ds.cc t a f) (.ite (!decide (gtV th m aa (cZ (el l i))=(qz t a R (cZ (el l i))).fst)) (.ret [qu 2 aa fr fs gn,.ak [.ptr 3 0,az R,.s (.ro (.af .i64 F)),.s (.ro (.af .i64 W)),.s (.ro (.af .i64 O))] 86,Ds.wJ 4 5 fu,.ak [.s (.ro (.strs t)),.s (.ro (.ah cK a)),az f] 78,.vec (.ah Ds.cS th) Ds.eS,.map Ds.kS m] (.s (.aN false))) (.ite (!gtB th m aa (cZ (el l i))==(qz t a R (cZ (el l i))).snd.fst) (.ret [qu 2 aa fr fs gn,.ak [.ptr 3 0,az R,.s (.ro (.af .i64 F)),.s (.ro (.af .i64 W)),.s (.ro (.af .i64 O))] 86,Ds.wJ 4 5 fu,.ak [.s (.ro (.strs t)),.s (.ro (.ah cK a)),az f] 78,.vec (.ah Ds.cS th) Ds.eS,.map Ds.kS m] (.s (.aN false))) (.ite (gtE th m aa (cZ (el l i)) !=(qz t a R (cZ (el l i))).snd.snd) (.ret [qu 2 aa fr fs gn,.ak [.ptr 3 0,az R,.s (.ro (.af .i64 F)),.s (.ro (.af .i64 W)),.s (.ro (.af .i64 O))] 86,Ds.wJ 4 5 fu,.ak [.s (.ro (.strs t)),.s (.ro (.ah cK a)),az f] 78,.vec (.ah Ds.cS th) Ds.eS,.map Ds.kS m] (.s (.aN false))) (.at (xL l th m fu aa fr fs gn t a f R F W O i)))))))))))))))))))))
 (.at (anN l th m fu aa fr fs gn t a f R F W O)):=by kernel_rfl
theorem au9(l:List (CL qB))(th:Th)(m:As)(fu aa:Int)(fr fs gn:Ws)(t:Tx)(a:Kp)(f R:Int)(F W O:Sl)(i:Int):run P xK.sum f3 ajp (xL l th m fu aa fr fs gn t a f R F W O i)=
 Tree.ab (bD (some [AV.ptr 0 0]))
 (.ab (bD (some (hT th m fu aa fr fs gn)))
   (.ab (bD (some [AV.ptr 0 0])) (.ab (bD (some [au.ak [.ptr 1 0,az R,.s (.ro (.af .i64 F)),.s (.ro (.af .i64 W)),.s (.ro (.af .i64 O))] 86,.ak [.s (.ro (.strs t)),.s (.ro (.ah cK a)),az f] 78])) (.ite (aa !=R) (.ret [qu 2 aa fr fs gn,.ak [.ptr 3 0,az R,.s (.ro (.af .i64 F)),.s (.ro (.af .i64 W)),.s (.ro (.af .i64 O))] 86,Ds.wJ 4 5 fu,.ak [.s (.ro (.strs t)),.s (.ro (.ah cK a)),az f] 78,.vec (.ah Ds.cS th) Ds.eS,.map Ds.kS m] (.s (.aN false))) (.ab (bD (some [AV.ptr 0 0])) (.ab (bD (some (hT th m fu aa fr fs gn))) (.ab (Bx.okW fs) (.ab (bD (some [AV.ptr 0 0])) (.ab (bD (some [au.ak [.ptr 1 0,az R,.s (.ro (.af .i64 F)),.s (.ro (.af .i64 W)),.s (.ro (.af .i64 O))] 86,.ak [.s (.ro (.strs t)),.s (.ro (.ah cK a)),az f] 78])) (.ab (Bx.SL fs=W) (.ite false (.ret [qu 2 aa fr fs gn,.ak [.ptr 3 0,az R,.s (.ro (.af .i64 F)),.s (.ro (.af .i64 W)),.s (.ro (.af .i64 O))] 86,Ds.wJ 4 5 fu,.ak [.s (.ro (.strs t)),.s (.ro (.ah cK a)),az f] 78,.vec (.ah Ds.cS th) Ds.eS,.map Ds.kS m,.vec (.af .i64 (Bx.SL fs)) 3] (.s (.aN false))) (.ab (bD (some [AV.ptr 0 0])) (.ab (bD (some (hT th m fu aa fr fs gn))) (.ab (Bx.okW fr) (.ab (bD (some [AV.ptr 0 0])) (.ab (bD (some [au.ak [.ptr 1 0,az R,.s (.ro (.af .i64 F)),.s (.ro (.af .i64 W)),.s (.ro (.af .i64 O))] 86,.ak [.s (.ro (.strs t)),.s (.ro (.ah cK a)),az f] 78])) (.ab (Bx.SL fr=F) (.ite false (.ret [qu 2 aa fr fs gn,.ak [.ptr 3 0,az R,.s (.ro (.af .i64 F)),.s (.ro (.af .i64 W)),.s (.ro (.af .i64 O))] 86,Ds.wJ 4 5 fu,.ak [.s (.ro (.strs t)),.s (.ro (.ah cK a)),az f] 78,.vec (.ah Ds.cS th) Ds.eS,.map Ds.kS m,.vec (.af .i64 (Bx.SL fs)) 3,.vec (.af .i64 (Bx.SL fr)) 3] (.s (.aN false))) (.ab (aw (i+1)) (.at (cTq l th m fu aa fr fs gn t a f R F W O (i+1)))))))))))))))))))))):=by kernel_rfl
theorem ava(l:List (CL qB))(th:Th)(m:As)(fu aa:Int)(fr fs gn:Ws)(t:Tx)(a:Kp)(f R:Int)(F W O:Sl):run P xK.sum f3 ajp (anN l th m fu aa fr fs gn t a f R F W O)=
 Tree.ab (bD (some [AV.ptr 0 0])) (.ab (bD (some (hT th m fu aa fr fs gn))) (.ab (Ds.cf th m fu) (.ab ((0:Int)<=aa/\aa<=65536) (.ab (bD (some [AV.ptr 0 0])) (.ab (bD (some [au.ak [.ptr 1 0,az R,.s (.ro (.af .i64 F)),.s (.ro (.af .i64 W)),.s (.ro (.af .i64 O))] 86,.ak [.s (.ro (.strs t)),.s (.ro (.ah cK a)),az f] 78])) (.ab (Ds.cc t a f) (.ite (pgE th m aa !=ur t a R) (.ret [qu 2 aa fr fs gn,.ak [.ptr 3 0,az R,.s (.ro (.af .i64 F)),.s (.ro (.af .i64 W)),.s (.ro (.af .i64 O))] 86,Ds.wJ 4 5 fu,.ak [.s (.ro (.strs t)),.s (.ro (.ah cK a)),az f] 78,.vec (.ah Ds.cS th) Ds.eS,.map Ds.kS m,.ak [.af .u64 16 (pgF th m aa)] 37,.ak [.s (.ro (.af .i64 (qpF t a R)))] 42] (.s (.aN false))) (.ab (Bx.okW (pgF th m aa)) (.ab (Bx.SL (pgF th m aa)=qpF t a R) (.ite false (.ret [qu 2 aa fr fs gn,.ak [.ptr 3 0,az R,.s (.ro (.af .i64 F)),.s (.ro (.af .i64 W)),.s (.ro (.af .i64 O))] 86,Ds.wJ 4 5 fu,.ak [.s (.ro (.strs t)),.s (.ro (.ah cK a)),az f] 78,.vec (.ah Ds.cS th) Ds.eS,.map Ds.kS m,.ak [.af .u64 16 (pgF th m aa)] 37,.ak [.s (.ro (.af .i64 (qpF t a R)))] 42,.vec (.af .i64 (Bx.SL (pgF th m aa))) 3] (.s (.aN false))) (.at (aec l th m fu aa fr fs gn t a f R F W O 0)))))))))))):=by kernel_rfl
theorem anO(l:List (CL qB))(th:Th)(m:As)(fu aa:Int)(fr fs gn:Ws)(t:Tx)(a:Kp)(f R:Int)(F W O:Sl)(i:Int):run P xK.sum f3 ajp (aec l th m fu aa fr fs gn t a f R F W O i)=
 Tree.ite (decide (i<l.length)) (.ite (decide (i<5)) (.ab ((0:Int)<=i) (.ab (i<l.length) (.ab (bD (some [AV.ptr 0 0,.s (.str (cZ (el l i)))])) (.ab (bD (some (hT th m fu aa fr fs gn))) (.ab (Ds.cf th m fu) (.ab ((0:Int)<=aa/\aa<=65536) (.ab ((0:Int)<=i) (.ab (i<l.length) (.ab (bD (some [AV.ptr 0 0,.s (.str (cZ (el l i)))])) (.ab (bD (some [au.ak [.ptr 1 0,az R,.s (.ro (.af .i64 F)),.s (.ro (.af .i64 W)),.s (.ro (.af .i64 O))] 86,.ak [.s (.ro (.strs t)),.s (.ro (.ah cK a)),az f] 78])) (.ab (Ds.cc t a f) (.ite (lsE th m aa (cZ (el l i)) !=ur t a R) (.ret [qu 2 aa fr fs gn,.ak [.ptr 3 0,az R,.s (.ro (.af .i64 F)),.s (.ro (.af .i64 W)),.s (.ro (.af .i64 O))] 86,Ds.wJ 4 5 fu,.ak [.s (.ro (.strs t)),.s (.ro (.ah cK a)),az f] 78,.vec (.ah Ds.cS th) Ds.eS,.map Ds.kS m,.vec (.ah cE (lsF th m aa (cZ (el l i)))) 66,.vec (.ah cE (qlF t a R (cZ (el l i)))) 67] (.s (.aN false))) (.ite ((↑(lsF th m aa (cZ (el l i))).length:Int) !=(↑(qlF t a R (cZ (el l i))).length:Int)) (.ret [qu 2 aa fr fs gn,.ak [.ptr 3 0,az R,.s (.ro (.af .i64 F)),.s (.ro (.af .i64 W)),.s (.ro (.af .i64 O))] 86,Ds.wJ 4 5 fu,.ak [.s (.ro (.strs t)),.s (.ro (.ah cK a)),az f] 78,.vec (.ah Ds.cS th) Ds.eS,.map Ds.kS m,.vec (.ah cE (lsF th m aa (cZ (el l i)))) 66,.vec (.ah cE (qlF t a R (cZ (el l i)))) 67] (.s (.aN false))) (.at (aed l th m fu aa fr fs gn t a f R F W O (lsF th m aa (cZ (el l i))) (qlF t a R (cZ (el l i))) i 0))))))))))))))) (.ret [qu 2 aa fr fs gn,.ak [.ptr 3 0,az R,.s (.ro (.af .i64 F)),.s (.ro (.af .i64 W)),.s (.ro (.af .i64 O))] 86,Ds.wJ 4 5 fu,.ak [.s (.ro (.strs t)),.s (.ro (.ah cK a)),az f] 78,.vec (.ah Ds.cS th) Ds.eS,.map Ds.kS m] (.s (.aN true))))
 (.ret [qu 2 aa fr fs gn,.ak [.ptr 3 0,az R,.s (.ro (.af .i64 F)),.s (.ro (.af .i64 W)),.s (.ro (.af .i64 O))] 86,Ds.wJ 4 5 fu,.ak [.s (.ro (.strs t)),.s (.ro (.ah cK a)),az f] 78,.vec (.ah Ds.cS th) Ds.eS,.map Ds.kS m] (.s (.aN true))):=by kernel_rfl
theorem anP(l:List (CL qB))(th:Th)(m:As)(fu aa:Int)(fr fs gn:Ws)(t:Tx)(a:Kp)(f R:Int)(F W O:Sl)(x y:List En)(i j:Int):run P xK.sum f3 ajp (aed l th m fu aa fr fs gn t a f R F W O x y i j)=
 Tree.ite (decide (j<x.length)) (.ab ((0:Int)<=j) (.ab (j<x.length) (.ab ((0:Int)<=j) (.ab (j<y.length) (.ite (!(decide ((x.getD j.toNat (CL.d cE)).fst=(y.getD j.toNat (CL.d cE)).fst)&&(decide ((x.getD j.toNat (CL.d cE)).snd.fst=(y.getD j.toNat (CL.d cE)).snd.fst)&&true))) (.ret [qu 4 aa fr fs gn,.ak [.ptr 5 0,az R,.s (.ro (.af .i64 F)),.s (.ro (.af .i64 W)),.s (.ro (.af .i64 O))] 86,.vec (.ah cE x) 66,.vec (.ah cE y) 67,Ds.wJ 6 7 fu,.ak [.s (.ro (.strs t)),.s (.ro (.ah cK a)),az f] 78,.vec (.ah Ds.cS th) Ds.eS,.map Ds.kS m] (.s (.aN false))) (.ab (aw (j+1)) (.at (aed l th m fu aa fr fs gn t a f R F W O x y i (j+1))))))))) (.ab (aw (i+1)) (.at (aec l th m fu aa fr fs gn t a f R F W O (i+1)))):=by kernel_rfl
end Ts
open Ds (cK kN kT kM)
namespace Ts
open Go Go.Sx Go.Proofs Lf
theorem avb{Z:aZ}:fD P Z 7 aqM:=by
 refine fS func7 ?_;rintro(n:Int) ⟨(hn:1<=n/\n<=4096),_⟩ X hX hz;have mc:∀x∈aqL,(aqM.heap n).length<=x.2.m:=by intro y hy;simp[aqL]at hy;subst hy;exact le_refl _
 have loop:∀(j i:Nat),i+j=n.toNat->Safe P 7 X (fq aqM n) (cQn n (replicate i (aB (replicate 64 0))++replicate j empty) (i:Int)):=λj=>by
  induction j with
  |zero=>
   intro i hi;refine Ds.cA hz hX mc aF.Ok.nil func7 (ar9 n _ (i:Int)) ⟨λh=>absurd (of_decide_eq_true h) (by omega),λ_=> ?_⟩
   have e:replicate i (aB (replicate 64 0))++replicate 0 empty=Ds.dt (th0 n):=by
    unfold Ds.dt th0;rw[List.map_replicate,hi.symm];show replicate i _++[]=replicate (i+0) _;rw[append_nil];rfl
   rw[e];exact yc 0 Ds.roL rfl (le_refl _) rfl rfl
  |succ j ih=>
   intro i hi;have nx:=ih (i+1) (by omega)
   have e:(replicate i (aB (replicate 64 0))++replicate (j+1) empty).set i (aB (replicate 64 0))=replicate (i+1) (aB (replicate 64 0))++replicate j empty:=by
    generalize aB (replicate 64 0)=z;rw[List.set_append_right _ _ (by simp),List.length_replicate,Nat.sub_self,List.replicate_succ,List.set_cons_zero,List.replicate_succ' (n:=i),append_assoc];rfl
   rw[<-e]at nx;refine Ds.cA hz hX mc aF.Ok.nil func7 (ar9 n _ (i:Int)) ⟨λ_=>⟨by omega,Int.le_refl _,by omega,by omega, ?_,⟨by omega,by omega⟩,nx⟩,λh=>absurd (of_decide_eq_false h) (by omega)⟩;rw[length_append,List.length_replicate,List.length_replicate];omega
 refine Ds.cA hz hX mc aF.Ok.nil func7 (axW n) ⟨λh=>absurd (of_decide_eq_true h) (by omega),λ_=>⟨λh=>absurd (of_decide_eq_true h) (by omega),λ_=>⟨by omega,Int.le_refl _,by omega,loop n.toNat 0 (by omega)⟩⟩⟩
theorem avc{Z:aZ}:fD P Z 19 axT:=by
 refine fS func19 ?_;rintro⟨t,a,f,aa,F,W,O⟩ _ X hX hz;exact Ds.cA hz hX (by intro y hy;cases hy) aF.Ok.nil func19 (axX t a f aa F W O) (bK 2 rfl (le_refl _) rfl rfl)
theorem avd{Z:aZ}:fD P Z 23 axU:=by
 refine fS func23 ?_;rintro⟨t,a,f,aa,F,W,O⟩ _ X hX hz;exact Ds.cA hz hX (by intro y hy;cases hy) aF.Ok.nil func23 (axY t a f aa F W O) (bK 2 rfl (le_refl _) rfl rfl)
theorem ave{Z:aZ}:fD P Z 25 axV:=by
 refine fS func25 ?_;rintro⟨t,a,f,aa,F,W,O⟩ _ X hX hz;exact Ds.cA hz hX (by intro y hy;cases hy) aF.Ok.nil func25 (axZ t a f aa F W O) (bK 2 rfl (le_refl _) rfl rfl)
theorem aqO{Z:aZ}:cg P Z 20 [iw,iw] [bL] (λ(a,b,())=>[(a:List Int)=b]) (λ_=>(true,())):=
 auQ Bx.aph λ(a,b,()) h=>⟨trivial,congrArg (λz:Bool=>(z,())) (decide_eq_true (show(a:List Int)=b from h.1))⟩
theorem ig:xK.Ok P Bx.cw:=
 aF.Ok.cons (ax0.sum mLg) (aF.Ok.cons au6.sum (aF.Ok.cons (au7.sum mNw) (aF.Ok.cons (avb.sum mNw) (aF.Ok.cons Bx.awA.sum (aF.Ok.cons (aqj.sum mOp) (aF.Ok.cons Bx.am2.gH (aF.Ok.cons (anJ.sum ax1)
 (aF.Ok.cons (adB.sum mPt) (aF.Ok.cons (aqD.sum axK) (aF.Ok.cons (adC.sum mGt) (aF.Ok.cons (aqE.sum mQK) (aF.Ok.cons (aui.sum mGt) (aF.Ok.cons (aqF.sum mQK)
 (aF.Ok.cons (aqk.sum mT) (aF.Ok.cons (avc.sum mQ) (aF.Ok.cons (amO.sum mT) (aF.Ok.cons (avd.sum mQ) (aF.Ok.cons (aql.sum mT) (aF.Ok.cons (ave.sum mQ)
 (aF.Ok.cons (Bx.atS Bx.arj.sum).sum (aF.Ok.cons aqO.sum (aF.Ok.cons (amN.sum mT) (aF.Ok.cons (ajo.sum mQ) (aF.Ok.cons (aqi.sum mGt) (aF.Ok.cons (anH.sum mQK) aF.Ok.nil)))))))))))))))))))))))))
structure Pl (th:Th) (m:As) (fu aa:Int) (fr fs gn:Ws):Prop where
 s:StW th m fu fr fs
 gn:Bx.okW gn
 r:0<=aa/\aa<=65536
section
variable{X:Ctx}{l:List (CL qB)}{th:Th}{m:As}{fu aa:Int}{fr fs gn:Ws}
abbrev KT:List au->AV->Prop:=Ends [bL] (true,())
abbrev cTr(l:List (CL qB))(th:Th)(m:As)(fu aa:Int)(fr fs gn:Ws)(i:Int):bQ:=cTq l th m fu aa fr fs gn (Ds.dt th) (Ds.ed m) fu aa (Bx.SL fr) (Bx.SL fs) (Bx.SL gn) i
theorem Pl.rep(h:Pl th m fu aa fr fs gn):Ds.cc (Ds.dt th) (Ds.ed m) fu/\bn (Bx.SL fr)/\bn (Bx.SL fs)/\bn (Bx.SL gn):=⟨⟨th,m,h.s.d,rfl,rfl⟩,⟨_,h.s.fr,rfl⟩,⟨_,h.s.fs,rfl⟩,⟨_,h.gn,rfl⟩⟩
theorem Pl.op(h:Pl th m fu aa fr fs gn)(key:ByteArray)(op:Option ByteArray):Pl th (op0 th key op m fu aa fr fs gn) (op1 th key op m fu aa fr fs gn) (rZ th key op m fu aa fr fs gn) (op2 th key op m fu aa fr fs gn) (op3 th key op m fu aa fr fs gn) (op4 th key op m fu aa fr fs gn):=by
 have x:=(ahw (aa:=aa) (key:=key) (op:=op) h.s h.gn).2;exact⟨x.s,x.gn,aqJ h.s.d h.s.fr h.r⟩
theorem Pl.q(h:Pl th m fu aa fr fs gn)(key:ByteArray)(op:Option ByteArray):
 qo0 (Ds.dt th) key op (Ds.ed m) fu aa (Bx.SL fr) (Bx.SL fs) (Bx.SL gn)=Ds.ed (op0 th key op m fu aa fr fs gn)/\qo1 (Ds.dt th) key op (Ds.ed m) fu aa (Bx.SL fr) (Bx.SL fs) (Bx.SL gn)=op1 th key op m fu aa fr fs gn/\
 qoR (Ds.dt th) key op (Ds.ed m) fu aa (Bx.SL fr) (Bx.SL fs) (Bx.SL gn)=rZ th key op m fu aa fr fs gn/\qo2 (Ds.dt th) key op (Ds.ed m) fu aa (Bx.SL fr) (Bx.SL fs) (Bx.SL gn)=Bx.SL (op2 th key op m fu aa fr fs gn)/\
 qo3 (Ds.dt th) key op (Ds.ed m) fu aa (Bx.SL fr) (Bx.SL fs) (Bx.SL gn)=Bx.SL (op3 th key op m fu aa fr fs gn)/\qo4 (Ds.dt th) key op (Ds.ed m) fu aa (Bx.SL fr) (Bx.SL fs) (Bx.SL gn)=Bx.SL (op4 th key op m fu aa fr fs gn)/\
 qoE (Ds.dt th) key op (Ds.ed m) fu aa (Bx.SL fr) (Bx.SL fs) (Bx.SL gn)=opE th key op m fu aa fr fs gn:=by
 have e:=(ahw (aa:=aa) (key:=key) (op:=op) h.s h.gn).1;unfold qo0 qo1 qoR qo2 qo3 qo4 qoE op0 op1 rZ op2 op3 op4 opE;rw[e];simp only[imH];exact⟨trivial,trivial,trivial,trivial,trivial,trivial,trivial⟩
theorem azE(hX:∀id,X.H id=none)(hz:cP Bx.cw X){x:List En}{i:Int}(hi:0<=i/\i<9223372036854775807)(hx:x.length<=4611686018427387904)
 (next:Safe P 3 X KT (aec l th m fu aa fr fs gn (Ds.dt th) (Ds.ed m) fu aa (Bx.SL fr) (Bx.SL fs) (Bx.SL gn) (i+1))):
 Safe P 3 X KT (aed l th m fu aa fr fs gn (Ds.dt th) (Ds.ed m) fu aa (Bx.SL fr) (Bx.SL fs) (Bx.SL gn) x x i 0):=by
 have loop:∀(q k:Nat),k+q=x.length->Safe P 3 X KT (aed l th m fu aa fr fs gn (Ds.dt th) (Ds.ed m) fu aa (Bx.SL fr) (Bx.SL fs) (Bx.SL gn) x x i (k:Int)):=λq=>by
  induction q with
  |zero=>
   intro k hk;exact Lf.go hz hX ig func3 (anP l th m fu aa fr fs gn _ _ fu aa _ _ _ x x i (k:Int)) ⟨λh=>absurd (of_decide_eq_true h) (by omega),λ_=>⟨⟨by omega,by omega⟩,next⟩⟩
  |succ q ih=>
   intro k hk;refine Lf.go hz hX ig func3 (anP l th m fu aa fr fs gn _ _ fu aa _ _ _ x x i (k:Int)) ⟨λ_=>⟨by omega,by omega,by omega,by omega,λh=> ?_,λ_=>⟨⟨by omega,by omega⟩,ih (k+1) (by omega)⟩⟩,λh=>absurd (of_decide_eq_false h) (by omega)⟩;exfalso;simp at h
 exact loop x.length 0 (by omega)
theorem ax6(hX:∀id,X.H id=none)(hz:cP Bx.cw X)(hl:l.length<=9223372036854775807)(h:Pl th m fu aa fr fs gn):∀(j i:Nat),i+j=l.length->
 Safe P 3 X KT (aec l th m fu aa fr fs gn (Ds.dt th) (Ds.ed m) fu aa (Bx.SL fr) (Bx.SL fs) (Bx.SL gn) (i:Int))
 |0,i,hi=>Lf.go hz hX ig func3 (anO l th m fu aa fr fs gn _ _ fu aa _ _ _ (i:Int)) ⟨λh=>absurd (of_decide_eq_true h) (by omega),λ_=>sP⟩|j+1,i,hi=>by
  have⟨r1,r2,r3,r4⟩:=h.rep;have T:=anO l th m fu aa fr fs gn (Ds.dt th) (Ds.ed m) fu aa (Bx.SL fr) (Bx.SL fs) (Bx.SL gn) (i:Int);have⟨e1,e2⟩:=au2 (aa:=aa) h.s.d (cZ (el l (i:Int)));rw[e1,e2]at T;refine Lf.go hz hX ig func3 T ⟨λ_=>⟨λh5=>⟨by omega,by omega,rfl,rfl,h.s.d,h.r,by omega,by omega,rfl,rfl,r1,λh6=> ?_,λ_=>⟨λh6=> ?_,λ_=> ?_⟩⟩,λ_=>sP⟩,λh=>absurd (of_decide_eq_false h) (by omega)⟩;exact absurd rfl (bne_iff_ne.1 h6);exact absurd rfl (bne_iff_ne.1 h6);have h5:=of_decide_eq_true h5
  have hb:(lsF th m aa (cZ (el l (i:Int)))).length<=4611686018427387904:=by
   rw[<-e2];have inv:=rW r1 17 (ad:=1) (met:=[]) (l:=[]) (n:=aa) rX (le_refl 0);have lm:=gy inv.1
   have:(uE (Ds.dt th) (Ds.ed m) aa).2.1.length<=130000:=by
    unfold uE;split;exact zero_le _;omega
   unfold qlF;split;have:=List.length_filter_le (geE (cZ (el l (i:Int)))) (uE (Ds.dt th) (Ds.ed m) aa).2.1;unfold geK;omega;exact zero_le _
  exact azE hX hz ⟨by omega,by omega⟩ hb (ax6 hX hz hl h j (i+1) (by omega))
theorem azF(hX:∀id,X.H id=none)(hz:cP Bx.cw X)(hl:l.length<=9223372036854775807)(h:Pl th m fu aa fr fs gn):
 Safe P 3 X KT (anN l th m fu aa fr fs gn (Ds.dt th) (Ds.ed m) fu aa (Bx.SL fr) (Bx.SL fs) (Bx.SL gn)):=by
 have⟨r1,r2,r3,r4⟩:=h.rep;have T:=ava l th m fu aa fr fs gn (Ds.dt th) (Ds.ed m) fu aa (Bx.SL fr) (Bx.SL fs) (Bx.SL gn);have⟨e1,e2,e3⟩:=au3 (aa:=aa) h.s.d;rw[e1,e2]at T;refine Lf.go hz hX ig func3 T ⟨rfl,rfl,h.s.d,h.r,rfl,rfl,r1,λh6=> ?_,λ_=>⟨e3,rfl,λhh=>(nomatch hh),λ_=>ax6 hX hz hl h l.length 0 (by omega)⟩⟩;exact absurd rfl (bne_iff_ne.1 h6)
theorem azG(hX:∀id,X.H id=none)(hz:cP Bx.cw X)(h:Pl th m fu aa fr fs gn){i:Int}(hi:0<=i/\i<9223372036854775807)
 (next:Safe P 3 X KT (cTr l th m fu aa fr fs gn (i+1))):
 Safe P 3 X KT (xL l th m fu aa fr fs gn (Ds.dt th) (Ds.ed m) fu aa (Bx.SL fr) (Bx.SL fs) (Bx.SL gn) i):=by
 refine Lf.go hz hX ig func3 (au9 l th m fu aa fr fs gn _ _ fu aa _ _ _ i) ⟨rfl,rfl,rfl,rfl,λh6=> ?_,λ_=>⟨rfl,rfl,h.s.fs,rfl,rfl,rfl,λhh=>(nomatch hh),λ_=>⟨rfl,rfl,h.s.fr,rfl,rfl,rfl,λhh=>(nomatch hh),λ_=>⟨⟨by omega,by omega⟩,next⟩⟩⟩⟩;exact absurd rfl (bne_iff_ne.1 h6)
end
end Ts
open Ds (cK kN kT kM)
namespace Ts
open Go Go.Sx Go.Proofs Lf
section
variable{X:Ctx}{l:List (CL qB)}{th:Th}
theorem ahE(hX:∀id,X.H id=none)(hz:cP Bx.cw X)(hl:l.length<=9223372036854775807):∀(j i:Nat) {m:As} {fu aa:Int} {fr fs gn:Ws},i+j=l.length->Pl th m fu aa fr fs gn->
 Safe P 3 X KT (cTr l th m fu aa fr fs gn (i:Int))
 |0,i,m,fu,aa,fr,fs,gn,hi,h=>Lf.go hz hX ig func3 (ax5 l th m fu aa fr fs gn _ _ fu aa _ _ _ (i:Int)) ⟨λh=>absurd (of_decide_eq_true h) (by omega),λ_=>azF hX hz hl h⟩|j+1,i,m,fu,aa,fr,fs,gn,hi,h=>by
  have⟨r1,r2,r3,r4⟩:=h.rep
  have nx:∀{m':As} {lH ahF:Int} {rN nn uC:Ws},Pl th m' lH ahF rN nn uC->Safe P 3 X KT (xL l th m' lH ahF rN nn uC (Ds.dt th) (Ds.ed m') lH ahF (Bx.SL rN) (Bx.SL nn) (Bx.SL uC) (i:Int)):=
   λ{m' lH ahF rN nn uC} h'=>azG hX hz h' ⟨by omega,by omega⟩ (ahE hX hz hl j (i+1) (by omega) h')
  have T:=ax5 l th m fu aa fr fs gn (Ds.dt th) (Ds.ed m) fu aa (Bx.SL fr) (Bx.SL fs) (Bx.SL gn) (i:Int);have⟨a0,a1,a2,a3,a4,a5,a6⟩:=h.q (cZ (el l (i:Int))) (some (ik (el l (i:Int))));have⟨b0,b1,b2,b3,b4,b5,b6⟩:=h.q (cZ (el l (i:Int))) none;have g:=auM (aa:=aa) (key:=cZ (el l (i:Int))) h.s.d;have gV:(qz (Ds.dt th) (Ds.ed m) aa (cZ (el l (i:Int)))).1=gtV th m aa (cZ (el l (i:Int))):=by rw[g];rfl
  have gB:(qz (Ds.dt th) (Ds.ed m) aa (cZ (el l (i:Int)))).2.1=gtB th m aa (cZ (el l (i:Int))):=by rw[g];rfl
  have gE:(qz (Ds.dt th) (Ds.ed m) aa (cZ (el l (i:Int)))).2.2=gtE th m aa (cZ (el l (i:Int))):=by rw[g];rfl
  rw[a0,a1,a2,a3,a4,a5,a6,b0,b1,b2,b3,b4,b5,b6,gV,gB,gE]at T;have put:=nx (h.op (cZ (el l (i:Int))) (some (ik (el l (i:Int)))));have del:=nx (h.op (cZ (el l (i:Int))) none);have i1:0<=(i:Int):=by omega
  have i2:(i:Int)<(l.length:Int):=by omega
  refine Lf.go hz hX ig func3 T ⟨λ_=>⟨i1,i2,λ_=> ?_,λ_=>⟨λ_=> ?_,λ_=>⟨λ_=> ?_,λ_=> ?_⟩⟩⟩,λh=>absurd i2 (of_decide_eq_false h)⟩;exact⟨i1,i2,i1,i2,rfl,rfl,h.s.d,h.s.fr,h.r,i1,i2,i1,i2,rfl,rfl,r1,r2,r3,r4,λh6=>absurd rfl (bne_iff_ne.1 h6),λ_=>put⟩;exact⟨i1,i2,i1,i2,rfl,rfl,h.s.d,h.s.fr,h.r,i1,i2,i1,i2,rfl,rfl,r1,r2,r3,r4,λh6=>absurd rfl (bne_iff_ne.1 h6),λ_=>put⟩;exact⟨i1,i2,rfl,rfl,h.s.d,h.s.fr,h.r,i1,i2,rfl,rfl,r1,r2,r3,r4,λh6=>absurd rfl (bne_iff_ne.1 h6),λ_=>del⟩;refine⟨i1,i2,rfl,rfl,h.s.d,h.r,i1,i2,rfl,rfl,r1,λh6=> ?_,λ_=>⟨λh6=> ?_,λ_=>⟨λh6=>absurd rfl (bne_iff_ne.1 h6),λ_=>nx h⟩⟩⟩;exfalso;simp at h6;exfalso;simp at h6
end
theorem abC:cg P Bx.cw 3 [bk,iw,.b (.row (.ah qB) 45)] [bL] (λ_=>[]) (λ_=>(true,())):=by
 refine ay func3 (by kernel_rfl) (by kernel_rfl) ?_;rintro⟨(p:Int),(free:List Int),(l:List (CL qB)),⟨⟩⟩ ⟨_,_,(hl0:l.length<=maxLen),_⟩ _ X hX hz;show Safe P 3 X KT _;have bx:l.length<=9223372036854775807:=by unfold maxLen at hl0;omega
 have sc:=zL p;have hd:Ds.cf (th0 (iu p)) [] (-1):=Ds.asZ (by omega);have hw:=(Bx.xh free).1;have T:=azD p free l;rw[Bx.arQ,au4 hw]at T
 have pl:Pl (th0 (iu p)) [] (-1) 0 (opF (th0 (iu p)) (Bx.ofF free)) Bx.cz Bx.cz:=
  ⟨⟨hd,(Bx.kx (.inr (.inl rfl)) hw (Bx.kx (.inr (.inr rfl)) (Bx.dz _).1 (Bx.dz _).1).1).1,Bx.fe.1⟩,Bx.fe.1,⟨Int.le_refl 0,by omega⟩⟩
 have st:=ahE (l:=l) hX hz bx l.length 0 (by omega) pl;unfold cTr at st;rw[Bx.kB]at st;refine Lf.go hz hX ig func3 T ⟨rfl,rfl,bx,λ_=>sP,λhl=>⟨λ_=>sP,λh3=>⟨rfl,rfl,⟨by omega,by omega⟩,rfl,rfl,⟨by omega,by omega⟩,λh=>(nomatch h),λ_=>⟨λh=>(nomatch h),λ_=>⟨rfl,rfl,hd, ?_,rfl,rfl,⟨_,_,hd,rfl,rfl⟩,⟨_,hw,rfl⟩,st⟩⟩⟩⟩⟩;have h3:=of_decide_eq_false h3;omega
end Ts
