/- Lemmas: N12, N13, N14, N15, SxLit, SxRenew, N16, N17, N18, N19, E2, E3a, E3, K1, K2, K3, Bx8, Bx9, Q0, Q2, Q3, Q4, Q1, Q5, Q6, Q7, Q8, Q9, Q10, Q11. -/
import Derived.Test.YtfobmefgcjldaaaGreatDoorPD
open Go.Proofs.Tryz
open Go.IntKind (i64 u64 u8)
open Bool (and_eq_false_iff and_eq_true cond_eq_ite not_eq_true' or_eq_true)
open ByteArray (empty)
open List (append_assoc append_nil cons_append getElem?_append_left getElem?_append_right getElem?_eq_getElem getElem?_eq_none getElem?_map getElem?_set getElem_mem length_append length_cons length_drop length_map length_nil length_take map_append map_cons mem_append mem_cons mem_map mem_range mem_singleton nil_append pairwise_cons replicate take_of_length_le)
open Nat (add_zero le_of_ble_eq_true le_refl lt_or_ge zero_add zero_le)
open Option (map_eq_some_iff)
noncomputable section
namespace Ts
open Go Go.Sx Go.Proofs Lf
def iq(th:Th)(key:ByteArray)(op:Option ByteArray)(m:As)(fu aa:Int)(fr fs gn:Ws):Chg:=
 if aa≠0 then vd th key op 17 m fu fr fs gn aa 1
 else if s7 key op []≠0 then(m,fu,fr,fs,gn,[],s7 key op [])
 else iy gn (bG th m fu fr fs true (m8 key op []) [])
abbrev XK:Type:=XT×ByteArray×ByteArray
def ai5(th:Th)(key:ByteArray)(op:Option ByteArray)(m:As)(fu aa:Int)(fr fs gn:Ws):As:=(iq th key op m fu aa fr fs gn).1
def ai6(th:Th)(key:ByteArray)(op:Option ByteArray)(m:As)(fu aa:Int)(fr fs gn:Ws):Int:=(iq th key op m fu aa fr fs gn).2.1
def ai7(th:Th)(key:ByteArray)(op:Option ByteArray)(m:As)(fu aa:Int)(fr fs gn:Ws):Ws:=(iq th key op m fu aa fr fs gn).2.2.1
def apI(th:Th)(key:ByteArray)(op:Option ByteArray)(m:As)(fu aa:Int)(fr fs gn:Ws):Ws:=(iq th key op m fu aa fr fs gn).2.2.2.1
def apJ(th:Th)(key:ByteArray)(op:Option ByteArray)(m:As)(fu aa:Int)(fr fs gn:Ws):Ws:=(iq th key op m fu aa fr fs gn).2.2.2.2.1
def ai8(th:Th)(key:ByteArray)(op:Option ByteArray)(m:As)(fu aa:Int)(fr fs gn:Ws):List Br:=(iq th key op m fu aa fr fs gn).2.2.2.2.2.1
def apK(th:Th)(key:ByteArray)(op:Option ByteArray)(m:As)(fu aa:Int)(fr fs gn:Ws):Int:=(iq th key op m fu aa fr fs gn).2.2.2.2.2.2
def ahc(th:Th)(m:As)(fu aa:Int)(fr:Ws)(key val:ByteArray):List Prop:=[Ds.cf th m fu,Bx.okW fr,0<=aa/\aa<=65536,1<=key.size/\key.size<=24,val.size<=100]
abbrev apL:Spec XK:=⟨λ(_,key,_)=>[.ptr 0 0,.s (.str key),.fn fP1 [.ptr 4 0,.ptr 5 0]],λ((th,m,fu,aa,fr,fs,gn),key,val)=>kz th m fu aa fr fs gn key val,λ((th,m,fu,aa,fr,_,_),key,val)=>ahc th m fu aa fr key val,
 λ((th,m,fu,aa,fr,fs,gn),key,val)=>kz th (ai5 th key (some val) m fu aa fr fs gn) (ai6 th key (some val) m fu aa fr fs gn) aa (ai7 th key (some val) m fu aa fr fs gn) (apI th key (some val) m fu aa fr fs gn) (apJ th key (some val) m fu aa fr fs gn) key val++[.vec (.ah cB (ai8 th key (some val) m fu aa fr fs gn)) Lf.eB],
 λ((th,m,fu,aa,fr,fs,gn),key,val)=>.bd [.vec 6,az (apK th key (some val) m fu aa fr fs gn)]⟩
abbrev apM:Spec XK:=⟨λ(_,key,_)=>[.ptr 0 0,.s (.str key),.fn fD1 [.ptr 4 0]],λ((th,m,fu,aa,fr,fs,gn),key,_)=>jm th m fu aa fr fs gn key,λ((th,m,fu,aa,fr,_,_),key,val)=>ahc th m fu aa fr key val,
 λ((th,m,fu,aa,fr,fs,gn),key,_)=>jm th (ai5 th key none m fu aa fr fs gn) (ai6 th key none m fu aa fr fs gn) aa (ai7 th key none m fu aa fr fs gn) (apI th key none m fu aa fr fs gn) (apJ th key none m fu aa fr fs gn) key++[.vec (.ah cB (ai8 th key none m fu aa fr fs gn)) Lf.eB],
 λ((th,m,fu,aa,fr,fs,gn),key,_)=>.bd [.vec 5,az (apK th key none m fu aa fr fs gn)]⟩
def apN:List AV->RM (XK×List Nat)
 |[t,.s (.str _),.fn _ [.ptr i 0,.ptr j 0]]=>(mT [t]).bind λ(X,σ)=>.look i λo=>match o with
  |some (.ak [.s (.str key)] _)=>.look j λo=>match o with
   |some (.ak [.s (.str val)] _)=>.ret ((X,key,val),σ++[i,j])|_=>.fail ""
  |_=>.fail ""
 |_=>.fail ""
def apO:List AV->RM (XK×List Nat)
 |[t,.s (.str _),.fn _ [.ptr i 0]]=>(mT [t]).bind λ(X,σ)=>.look i λo=>match o with
  |some (.ak [.s (.str key)] _)=>.ret ((X,key,empty),σ++[i])|_=>.fail ""
 |_=>.fail ""
def arA:aF:=[(85,cu (yl 17) aps),(40,ary),(63,zr)]
def arB:aF:=[(85,cu (ym 17) apt),(43,arz),(63,zr)]
theorem ayW(th:Th)(m:As)(fu aa:Int)(fr fs gn:Ws)(key val:ByteArray):run P arA.sum f62 [] (start f62 [.ptr 0 0,.s (.str key),.fn fP1 [.ptr 4 0,.ptr 5 0]] (kz th m fu aa fr fs gn key val)) (inl:=[fP1])=
 Tree.ite (aa !=0) (.ab (bD (some [AV.ptr 0 0,az aa,az 1,.s (.str key),.fn 39 [.ptr 4 0,.ptr 5 0]])) (.ab (bD (some (kz th m fu aa fr fs gn key val))) (.ab (Ds.cf th m fu) (.ab (Bx.okW fr) (.ab ((0:Int)<=aa/\aa<=65536) (.ab ((1:Int)<=1/\(1:Int)<=17) (.ab ((18:Int)<=1+(↑(17:Nat):Int)) (.ab ((1:Nat)<=key.size/\key.size<=24) (.ab (val.size<=100) (.ret (kz th (yi th key (some val) 17 m fu fr fs gn aa 1) (yj th key (some val) 17 m fu fr fs gn aa 1) aa (yk th key (some val) 17 m fu fr fs gn aa 1) (abc th key (some val) 17 m fu fr fs gn aa 1) (adj th key (some val) 17 m fu fr fs gn aa 1) key val++[.vec (.ah cB (abd th key (some val) 17 m fu fr fs gn aa 1)) 105]) (.bd [.vec 6,az (adk th key (some val) 17 m fu fr fs gn aa 1)]))))))))))) (.ab ((0:Nat)<=100000) (.ab (jj (b9 [])) (.ab (bD (some [AV.ptr 0 0,.agg [.s (.bool true),.s (.ro (.ah cE (eO [] key val))),.s (.ro (.ah cB []))]])) (.ab (bD (some (hT th m fu aa fr fs gn))) (.ab (Ds.cf th m fu) (.ab (Bx.okW fr) (.ab (mr true (eO [] key val) []) (.ab (aY (eO [] key val)) (.ab (aV []) (.ret (kz th (bG th m fu fr fs true (eO [] key val) []).fst (bG th m fu fr fs true (eO [] key val) []).snd.fst aa (bG th m fu fr fs true (eO [] key val) []).snd.snd.fst (bG th m fu fr fs true (eO [] key val) []).snd.snd.snd.fst gn key val++[.aH,.vec (.ah cB (bG th m fu fr fs true (eO [] key val) []).snd.snd.snd.snd.fst) 105]) (.bd [.vec 7,az ((bG th m fu fr fs true (eO [] key val) []).snd.snd.snd.snd.snd)]))))))))))):=by kernel_rfl
theorem ayX(th:Th)(m:As)(fu aa:Int)(fr fs gn:Ws)(key:ByteArray):run P arB.sum f62 [] (start f62 [.ptr 0 0,.s (.str key),.fn fD1 [.ptr 4 0]] (jm th m fu aa fr fs gn key)) (inl:=[fD1])=
 Tree.ite (aa !=0) (.ab (bD (some [AV.ptr 0 0,az aa,az 1,.s (.str key),.fn 42 [.ptr 4 0]])) (.ab (bD (some (jm th m fu aa fr fs gn key))) (.ab (Ds.cf th m fu) (.ab (Bx.okW fr) (.ab ((0:Int)<=aa/\aa<=65536) (.ab ((1:Int)<=1/\(1:Int)<=17) (.ab ((18:Int)<=1+(↑(17:Nat):Int)) (.ab ((1:Nat)<=key.size/\key.size<=24) (.ab (empty.size<=100) (.ret (jm th (yi th key none 17 m fu fr fs gn aa 1) (yj th key none 17 m fu fr fs gn aa 1) aa (yk th key none 17 m fu fr fs gn aa 1) (abc th key none 17 m fu fr fs gn aa 1) (adj th key none 17 m fu fr fs gn aa 1) key++[.vec (.ah cB (abd th key none 17 m fu fr fs gn aa 1)) 105]) (.bd [.vec 5,az (adk th key none 17 m fu fr fs gn aa 1)]))))))))))) (.ab ((0:Nat)<=100000) (.ab (jj (b9 [])) (.ite (!gI [] key) (.ret (jm th m fu aa fr fs gn key++[.vec (.ah cE (dg [] key)) 66]) (.bd [.emp,.s (.aO .i64 5)])) (.ab (bD (some [AV.ptr 0 0,.agg [.s (.bool true),.s (.ro (.ah cE (dg [] key))),.s (.ro (.ah cB []))]])) (.ab (bD (some (hT th m fu aa fr fs gn))) (.ab (Ds.cf th m fu) (.ab (Bx.okW fr) (.ab (mr true (dg [] key) []) (.ab (aY (dg [] key)) (.ab (aV []) (.ret (jm th (bG th m fu fr fs true (dg [] key) []).fst (bG th m fu fr fs true (dg [] key) []).snd.fst aa (bG th m fu fr fs true (dg [] key) []).snd.snd.fst (bG th m fu fr fs true (dg [] key) []).snd.snd.snd.fst gn key++[.aH,.vec (.ah cB (bG th m fu fr fs true (dg [] key) []).snd.snd.snd.snd.fst) 105]) (.bd [.vec 6,az ((bG th m fu fr fs true (dg [] key) []).snd.snd.snd.snd.snd)])))))))))))):=by kernel_rfl
theorem arC{th:Th}{m:As}{fu aa:Int}{fr fs gn:Ws}{key val:ByteArray}{c:Chg}(e:iq th key (some val) m fu aa fr fs gn=c):
 apL.eG ((th,m,fu,aa,fr,fs,gn),key,val)=kz th c.1 c.2.1 aa c.2.2.1 c.2.2.2.1 c.2.2.2.2.1 key val++[.vec (.ah cB c.2.2.2.2.2.1) Lf.eB]/\apL.out ((th,m,fu,aa,fr,fs,gn),key,val)=.bd [.vec 6,az c.2.2.2.2.2.2]:=by
 subst e;exact⟨rfl,rfl⟩
theorem ams:arA.Ok P Bx.cw:=aF.Ok.cons ((xp 17).sum aps) (aF.Ok.cons alP.gH (aF.Ok.cons (fy (dC (j6.sum mTN) 1 _) 1) aF.Ok.nil))
theorem apP:fD P Bx.cw 62 apL:=by
 refine dj func62 (by kernel_rfl) (λx=>le_of_ble_eq_true (by kernel_rfl)) ?_;rintro⟨⟨th,m,fu,aa,fr,fs,gn⟩,key,val⟩ ⟨(hd:Ds.cf th m fu),(hf:Bx.okW fr),(hr:0<=aa/\aa<=65536),(hk:1<=key.size/\key.size<=24),(hv:val.size<=100),_⟩ X hX hz;have hkk:∀v:ByteArray,(some val)=some v->v.size<=100:=λv e=>by cases e;exact hv
 have sm:=j7 (key:=key) (op:=(some val)) (es:=[]) hk.2 hkk (zero_le _) fT;refine Ds.cA hz hX (by intro y hy;cases hy) ams func62 (ayW th m fu aa fr fs gn key val) ⟨λh=>⟨rfl,rfl,hd,hf,hr,⟨by omega,by omega⟩,by omega,hk,hv, ?_⟩,λh=>⟨by omega,by unfold jj;intro i j _ hj;simp at hj,rfl,rfl,hd,hf,⟨λ_=>rfl,λe=>by cases e⟩,sm,qp, ?_⟩⟩;have h:aa≠0:=by simpa using h
 have⟨f1,f2⟩:=arC (val:=val) (show iq th key (some val) m fu aa fr fs gn=vd th key (some val) 17 m fu fr fs gn aa 1 by unfold iq;rw[if_pos h]);exact fm ⟨[],[0,1],6,[]⟩ rfl (le_refl _) (jQ.same _) f2 f1;have h:¬aa≠0:=by simpa using h
 have⟨f1,f2⟩:=arC (val:=val) (show iq th key (some val) m fu aa fr fs gn=iy gn (bG th m fu fr fs true (eO [] key val) [])by unfold iq;rw[if_neg h,if_neg (by show¬(0:Int)≠0;simp)];rfl);exact fm ⟨[],[0,1],6,[]⟩ rfl (le_refl _) (jQ.same _) f2 f1
theorem arD{th:Th}{m:As}{fu aa:Int}{fr fs gn:Ws}{key val:ByteArray}{c:Chg}(e:iq th key none m fu aa fr fs gn=c):
 apM.eG ((th,m,fu,aa,fr,fs,gn),key,val)=jm th c.1 c.2.1 aa c.2.2.1 c.2.2.2.1 c.2.2.2.2.1 key++[.vec (.ah cB c.2.2.2.2.2.1) Lf.eB]/\apM.out ((th,m,fu,aa,fr,fs,gn),key,val)=.bd [.vec 5,az c.2.2.2.2.2.2]:=by
 subst e;exact⟨rfl,rfl⟩
theorem amt:arB.Ok P Bx.cw:=aF.Ok.cons ((xq 17).sum apt) (aF.Ok.cons alG.sum (aF.Ok.cons (fy (dC (j6.sum mTN) 1 _) 1) aF.Ok.nil))
theorem apQ:fD P Bx.cw 62 apM:=by
 refine dj func62 (by kernel_rfl) (λx=>le_of_ble_eq_true (by kernel_rfl)) ?_;rintro⟨⟨th,m,fu,aa,fr,fs,gn⟩,key,val⟩ ⟨(hd:Ds.cf th m fu),(hf:Bx.okW fr),(hr:0<=aa/\aa<=65536),(hk:1<=key.size/\key.size<=24),(hv:val.size<=100),_⟩ X hX hz;have hkk:∀v:ByteArray,none=some v->v.size<=100:=λv e=>by cases e
 have sm:=j7 (key:=key) (op:=none) (es:=[]) hk.2 hkk (zero_le _) fT;refine Ds.cA hz hX (by intro y hy;cases hy) amt func62 (ayX th m fu aa fr fs gn key) ⟨λh=>⟨rfl,rfl,hd,hf,hr,⟨by omega,by omega⟩,by omega,hk,(zero_le 100), ?_⟩,λh=>⟨by omega,by unfold jj;intro i j _ hj;simp at hj,λhb=> ?_,λhb=> ?_⟩⟩;have h:aa≠0:=by simpa using h
 have⟨f1,f2⟩:=arD (val:=val) (show iq th key none m fu aa fr fs gn=vd th key none 17 m fu fr fs gn aa 1 by unfold iq;rw[if_pos h]);exact fm ⟨[],[0,1],5,[]⟩ rfl (le_refl _) (jQ.same _) f2 f1;have h:¬aa≠0:=by simpa using h
 have⟨f1,f2⟩:=arD (val:=val) (show iq th key none m fu aa fr fs gn=(m,fu,fr,fs,gn,[],5)by unfold iq;rw[if_neg h,if_pos (by show(5:Int)≠0;simp)];rfl);exact fm ⟨[(0,.ah cB [],Lf.eB)],[0,1],5,[]⟩ rfl (le_refl _) (jQ.same _) f2 f1;exact absurd hb (by show¬(!gI [] key)=false;simp[gI,dg])
def upT(th:Th)(c:Chg):Chg:=if c.2.2.2.2.2.2=0/\1<c.2.2.2.2.2.1.length then iy c.2.2.2.2.1 (bG th c.1 c.2.1 c.2.2.1 c.2.2.2.1 false [] c.2.2.2.2.2.1)else c
abbrev Chs:Type:=As×Int×Int×Ws×Ws×Ws×Int
def kA(th:Th)(aA:Int)(dr dd de:Ws)(m:As)(fu aa:Int)(fr fs gn:Ws)(e:Int):Chs:=
 if e≠0 then(m,fu,aA,dr,dd,de,e)else(m,fu,aa,Bx.dY .or fr gn,fs,Bx.cz,0)
def oI(th:Th)(aA:Int)(dr dd de:Ws)(c:Chg):Chs:=
 if c.2.2.2.2.2.2=0/\c.2.2.2.2.2.1.length=1 then
  kA th aA dr dd de c.1 c.2.1 (apF th c.1 17 c.2.2.2.1 c.2.2.2.2.1 (c.2.2.2.2.2.1.getD 0 dB).2.1 1) c.2.2.1 (apD th c.1 17 c.2.2.2.1 c.2.2.2.2.1 (c.2.2.2.2.2.1.getD 0 dB).2.1 1) (apE th c.1 17 c.2.2.2.1 c.2.2.2.2.1 (c.2.2.2.2.2.1.getD 0 dB).2.1 1) (apG th c.1 17 c.2.2.2.1 c.2.2.2.2.1 (c.2.2.2.2.2.1.getD 0 dB).2.1 1)
 else kA th aA dr dd de c.1 c.2.1 0 c.2.2.1 c.2.2.2.1 c.2.2.2.2.1 c.2.2.2.2.2.2
def lM(th:Th)(key:ByteArray)(op:Option ByteArray)(m:As)(fu aa:Int)(fr fs gn:Ws):Chs:=oI th aa fr fs gn (upT th (iq th key op m fu aa fr fs gn))
def apR(th:Th)(key:ByteArray)(op:Option ByteArray)(m:As)(fu aa:Int)(fr fs gn:Ws):As:=(lM th key op m fu aa fr fs gn).1
def apS(th:Th)(key:ByteArray)(op:Option ByteArray)(m:As)(fu aa:Int)(fr fs gn:Ws):Int:=(lM th key op m fu aa fr fs gn).2.1
def apT(th:Th)(key:ByteArray)(op:Option ByteArray)(m:As)(fu aa:Int)(fr fs gn:Ws):Int:=(lM th key op m fu aa fr fs gn).2.2.1
def apU(th:Th)(key:ByteArray)(op:Option ByteArray)(m:As)(fu aa:Int)(fr fs gn:Ws):Ws:=(lM th key op m fu aa fr fs gn).2.2.2.1
def apV(th:Th)(key:ByteArray)(op:Option ByteArray)(m:As)(fu aa:Int)(fr fs gn:Ws):Ws:=(lM th key op m fu aa fr fs gn).2.2.2.2.1
def apW(th:Th)(key:ByteArray)(op:Option ByteArray)(m:As)(fu aa:Int)(fr fs gn:Ws):Ws:=(lM th key op m fu aa fr fs gn).2.2.2.2.2.1
def apX(th:Th)(key:ByteArray)(op:Option ByteArray)(m:As)(fu aa:Int)(fr fs gn:Ws):Int:=(lM th key op m fu aa fr fs gn).2.2.2.2.2.2
abbrev sOr:=bM [Bx.dF,Bx.dF] [Bx.dF] (λ_=>[]) (λ(a,b,())=>(Bx.dY .or a b,()))
abbrev adt:Spec XK:=⟨λ(_,key,_)=>[.ptr 0 0,.s (.str key),.fn fP1 [.ptr 4 0,.ptr 5 0]],λ((th,m,fu,aa,fr,fs,gn),key,val)=>kz th m fu aa fr fs gn key val,λ((th,m,fu,aa,fr,_,_),key,val)=>ahc th m fu aa fr key val,
 λ((th,m,fu,aa,fr,fs,gn),key,val)=>kz th (apR th key (some val) m fu aa fr fs gn) (apS th key (some val) m fu aa fr fs gn) (apT th key (some val) m fu aa fr fs gn) (apU th key (some val) m fu aa fr fs gn) (apV th key (some val) m fu aa fr fs gn) (apW th key (some val) m fu aa fr fs gn) key val,
 λ((th,m,fu,aa,fr,fs,gn),key,val)=>az (apX th key (some val) m fu aa fr fs gn)⟩
def xr:aF:=[(62,cu apL apN),(63,zr),(64,cu sLo mLv),(65,sOr)]
def zt:List (Nat×Norm):=[(3,⟨[],[0,7,8,9],6,[]⟩),(5,⟨[],[0,7,8,9],6,[]⟩),(8,⟨[],[0,7,9],6,[]⟩)]
def adu(th:Th)(aA:Int)(dr dd de:Ws)(m:As)(fu aa:Int)(fr fs gn:Ws)(key val:ByteArray)(l:List Br)(e:Int):bQ:=⟨sl 78 [(0,.ptr 0 0),(7,.ptr 6 0),(8,.vec 7),(9,az e)],kz th m fu aa fr fs gn key val++[qu 1 aA dr dd de,.vec (.ah cB l) Lf.eB],hd f38 3,{}⟩
def ahd(th:Th)(aA:Int)(dr dd de:Ws)(m:As)(fu aa:Int)(fr fs gn:Ws)(key val:ByteArray)(l:List Br)(e:Int):bQ:=⟨sl 78 [(0,.ptr 0 0),(7,.ptr 6 0),(8,.vec 7),(9,az e)],kz th m fu aa fr fs gn key val++[qu 1 aA dr dd de,.vec (.ah cB l) Lf.eB],hr f38 5,{}⟩
def adv(th:Th)(aA:Int)(dr dd de:Ws)(m:As)(fu aa:Int)(fr fs gn:Ws)(key val:ByteArray)(e:Int):bQ:=⟨sl 78 [(0,.ptr 0 0),(7,.ptr 6 0),(9,az e)],kz th m fu aa fr fs gn key val++[qu 1 aA dr dd de],hr f38 8,{}⟩
abbrev adw:Spec XK:=⟨λ(_,key,_)=>[.ptr 0 0,.s (.str key),.fn fD1 [.ptr 4 0]],λ((th,m,fu,aa,fr,fs,gn),key,_)=>jm th m fu aa fr fs gn key,λ((th,m,fu,aa,fr,_,_),key,val)=>ahc th m fu aa fr key val,
 λ((th,m,fu,aa,fr,fs,gn),key,_)=>jm th (apR th key none m fu aa fr fs gn) (apS th key none m fu aa fr fs gn) (apT th key none m fu aa fr fs gn) (apU th key none m fu aa fr fs gn) (apV th key none m fu aa fr fs gn) (apW th key none m fu aa fr fs gn) key,
 λ((th,m,fu,aa,fr,fs,gn),key,_)=>az (apX th key none m fu aa fr fs gn)⟩
def xt:aF:=[(62,cu apM apO),(63,zr),(64,cu sLo mLv),(65,sOr)]
def zu:List (Nat×Norm):=[(3,⟨[],[0,7,8,9],5,[]⟩),(5,⟨[],[0,7,8,9],5,[]⟩),(8,⟨[],[0,7,9],5,[]⟩)]
def adx(th:Th)(aA:Int)(dr dd de:Ws)(m:As)(fu aa:Int)(fr fs gn:Ws)(key:ByteArray)(l:List Br)(e:Int):bQ:=⟨sl 78 [(0,.ptr 0 0),(7,.ptr 5 0),(8,.vec 6),(9,az e)],jm th m fu aa fr fs gn key++[qu 1 aA dr dd de,.vec (.ah cB l) Lf.eB],hd f38 3,{}⟩
def ahe(th:Th)(aA:Int)(dr dd de:Ws)(m:As)(fu aa:Int)(fr fs gn:Ws)(key:ByteArray)(l:List Br)(e:Int):bQ:=⟨sl 78 [(0,.ptr 0 0),(7,.ptr 5 0),(8,.vec 6),(9,az e)],jm th m fu aa fr fs gn key++[qu 1 aA dr dd de,.vec (.ah cB l) Lf.eB],hr f38 5,{}⟩
def ady(th:Th)(aA:Int)(dr dd de:Ws)(m:As)(fu aa:Int)(fr fs gn:Ws)(key:ByteArray)(e:Int):bQ:=⟨sl 78 [(0,.ptr 0 0),(7,.ptr 5 0),(9,az e)],jm th m fu aa fr fs gn key++[qu 1 aA dr dd de],hr f38 8,{}⟩
theorem awR(th:Th)(m:As)(fu aa:Int)(fr fs gn:Ws)(key val:ByteArray):run P xr.sum f38 zt (start f38 [.ptr 0 0,.s (.str key),.fn fP1 [.ptr 4 0,.ptr 5 0]] (kz th m fu aa fr fs gn key val))=
 Tree.ab (bD (some [AV.ptr 0 0,.s (.str key),.fn 39 [.ptr 4 0,.ptr 5 0]])) (.ab (bD (some (kz th m fu aa fr fs gn key val))) (.ab (Ds.cf th m fu) (.ab (Bx.okW fr) (.ab ((0:Int)<=aa/\aa<=65536) (.ab ((1:Nat)<=key.size/\key.size<=24) (.ab (val.size<=100) (.at (adu th aa fr fs gn (ai5 th key (some val) m fu aa fr fs gn) (ai6 th key (some val) m fu aa fr fs gn) aa (ai7 th key (some val) m fu aa fr fs gn) (apI th key (some val) m fu aa fr fs gn) (apJ th key (some val) m fu aa fr fs gn) key val (ai8 th key (some val) m fu aa fr fs gn) (apK th key (some val) m fu aa fr fs gn))))))))):=by kernel_rfl
theorem amu(th:Th)(aA:Int)(dr dd de:Ws)(m:As)(fu aa:Int)(fr fs gn:Ws)(key val:ByteArray)(l:List Br)(e:Int):run P xr.sum f38 zt (adu th aA dr dd de m fu aa fr fs gn key val l e)=
 Tree.ite (e==0) (.ite (decide ((↑l.length:Int)>1)) (.ab (bD (some [AV.ptr 0 0,.agg [.s (.bool false),.s (.ro (.ah cE [])),.s (.ro (.ah cB l))]])) (.ab (bD (some (hT th m fu aa fr fs gn))) (.ab (Ds.cf th m fu) (.ab (Bx.okW fr) (.ab (mr false [] l) (.ab (aY []) (.ab (aV l) (.at (adu th aA dr dd de (bG th m fu fr fs false [] l).fst (bG th m fu fr fs false [] l).snd.fst aa (bG th m fu fr fs false [] l).snd.snd.fst (bG th m fu fr fs false [] l).snd.snd.snd.fst gn key val (bG th m fu fr fs false [] l).snd.snd.snd.snd.fst (bG th m fu fr fs false [] l).snd.snd.snd.snd.snd))))))))) (.at (ahd th aA dr dd de m fu aa fr fs gn key val l e))) (.at (ahd th aA dr dd de m fu aa fr fs gn key val l e)):=by kernel_rfl
theorem aue(th:Th)(aA:Int)(dr dd de:Ws)(m:As)(fu aa:Int)(fr fs gn:Ws)(key val:ByteArray)(l:List Br)(e:Int):run P xr.sum f38 zt (ahd th aA dr dd de m fu aa fr fs gn key val l e)=
 Tree.ite (e==0) (.ite ((↑l.length:Int)==1) (.ab ((0:Int)<=0) (.ab ((0:Int)<(↑l.length:Int)) (.ab (bD (some [AV.ptr 0 0,az ((l.getD 0 (CL.d cB)).snd.fst)])) (.ab (bD (some (hT th m fu 0 fr fs gn))) (.ab (Ds.cf th m fu) (.ab ((0:Int)<=(l.getD 0 (CL.d cB)).snd.fst/\(l.getD 0 (CL.d cB)).snd.fst<=65536) (.at (adv th aA dr dd de m fu (apF th m 17 fs gn (l.getD 0 (CL.d cB)).snd.fst 1) fr (apD th m 17 fs gn (l.getD 0 (CL.d cB)).snd.fst 1) (apE th m 17 fs gn (l.getD 0 (CL.d cB)).snd.fst 1) key val (apG th m 17 fs gn (l.getD 0 (CL.d cB)).snd.fst 1))))))))) (.at (adv th aA dr dd de m fu 0 fr fs gn key val e))) (.at (adv th aA dr dd de m fu 0 fr fs gn key val e)):=by kernel_rfl
theorem auf(th:Th)(aA:Int)(dr dd de:Ws)(m:As)(fu aa:Int)(fr fs gn:Ws)(key val:ByteArray)(e:Int):run P xr.sum f38 zt (adv th aA dr dd de m fu aa fr fs gn key val e)=
 Tree.ite (e !=0) (.ret (kz th m fu aA dr dd de key val++[qu 1 aA dr dd de]) (az e)) (.ret (kz th m fu aa (Bx.dY BinOp.or fr gn) fs (replicate 16 0) key val++[qu 1 aA dr dd de]) (.s (.aO .i64 0))):=by kernel_rfl
theorem awS(th:Th)(m:As)(fu aa:Int)(fr fs gn:Ws)(key:ByteArray):run P xt.sum f38 zu (start f38 [.ptr 0 0,.s (.str key),.fn fD1 [.ptr 4 0]] (jm th m fu aa fr fs gn key))=
 Tree.ab (bD (some [AV.ptr 0 0,.s (.str key),.fn 42 [.ptr 4 0]])) (.ab (bD (some (jm th m fu aa fr fs gn key))) (.ab (Ds.cf th m fu) (.ab (Bx.okW fr) (.ab ((0:Int)<=aa/\aa<=65536) (.ab ((1:Nat)<=key.size/\key.size<=24) (.ab (empty.size<=100) (.at (adx th aa fr fs gn (ai5 th key none m fu aa fr fs gn) (ai6 th key none m fu aa fr fs gn) aa (ai7 th key none m fu aa fr fs gn) (apI th key none m fu aa fr fs gn) (apJ th key none m fu aa fr fs gn) key (ai8 th key none m fu aa fr fs gn) (apK th key none m fu aa fr fs gn))))))))):=by kernel_rfl
theorem amv(th:Th)(aA:Int)(dr dd de:Ws)(m:As)(fu aa:Int)(fr fs gn:Ws)(key:ByteArray)(l:List Br)(e:Int):run P xt.sum f38 zu (adx th aA dr dd de m fu aa fr fs gn key l e)=
 Tree.ite (e==0) (.ite (decide ((↑l.length:Int)>1)) (.ab (bD (some [AV.ptr 0 0,.agg [.s (.bool false),.s (.ro (.ah cE [])),.s (.ro (.ah cB l))]])) (.ab (bD (some (hT th m fu aa fr fs gn))) (.ab (Ds.cf th m fu) (.ab (Bx.okW fr) (.ab (mr false [] l) (.ab (aY []) (.ab (aV l) (.at (adx th aA dr dd de (bG th m fu fr fs false [] l).fst (bG th m fu fr fs false [] l).snd.fst aa (bG th m fu fr fs false [] l).snd.snd.fst (bG th m fu fr fs false [] l).snd.snd.snd.fst gn key (bG th m fu fr fs false [] l).snd.snd.snd.snd.fst (bG th m fu fr fs false [] l).snd.snd.snd.snd.snd))))))))) (.at (ahe th aA dr dd de m fu aa fr fs gn key l e))) (.at (ahe th aA dr dd de m fu aa fr fs gn key l e)):=by kernel_rfl
theorem aug(th:Th)(aA:Int)(dr dd de:Ws)(m:As)(fu aa:Int)(fr fs gn:Ws)(key:ByteArray)(l:List Br)(e:Int):run P xt.sum f38 zu (ahe th aA dr dd de m fu aa fr fs gn key l e)=
 Tree.ite (e==0) (.ite ((↑l.length:Int)==1) (.ab ((0:Int)<=0) (.ab ((0:Int)<(↑l.length:Int)) (.ab (bD (some [AV.ptr 0 0,az ((l.getD 0 (CL.d cB)).snd.fst)])) (.ab (bD (some (hT th m fu 0 fr fs gn))) (.ab (Ds.cf th m fu) (.ab ((0:Int)<=(l.getD 0 (CL.d cB)).snd.fst/\(l.getD 0 (CL.d cB)).snd.fst<=65536) (.at (ady th aA dr dd de m fu (apF th m 17 fs gn (l.getD 0 (CL.d cB)).snd.fst 1) fr (apD th m 17 fs gn (l.getD 0 (CL.d cB)).snd.fst 1) (apE th m 17 fs gn (l.getD 0 (CL.d cB)).snd.fst 1) key (apG th m 17 fs gn (l.getD 0 (CL.d cB)).snd.fst 1))))))))) (.at (ady th aA dr dd de m fu 0 fr fs gn key e))) (.at (ady th aA dr dd de m fu 0 fr fs gn key e)):=by kernel_rfl
theorem auh(th:Th)(aA:Int)(dr dd de:Ws)(m:As)(fu aa:Int)(fr fs gn:Ws)(key:ByteArray)(e:Int):run P xt.sum f38 zu (ady th aA dr dd de m fu aa fr fs gn key e)=
 Tree.ite (e !=0) (.ret (jm th m fu aA dr dd de key++[qu 1 aA dr dd de]) (az e)) (.ret (jm th m fu aa (Bx.dY BinOp.or fr gn) fs (replicate 16 0) key++[qu 1 aA dr dd de]) (.s (.aO .i64 0))):=by kernel_rfl
theorem xu{th:Th}{key:ByteArray}{op:Option ByteArray}(hk:key.size<=24){m:As}{fu aa:Int}{fr fs gn:Ws}(hd:Ds.cf th m fu)(hf:Bx.okW fr):
 amm th (ai5 th key op m fu aa fr fs gn) (ai6 th key op m fu aa fr fs gn) (ai7 th key op m fu aa fr fs gn) (ai8 th key op m fu aa fr fs gn):=by
 unfold ai5 ai6 ai7 ai8 iq;split;exact oG hk 17 hd hf;split;exact⟨hd,hf,zero_le _,noB,noB⟩;exact jo hd hf (afD hk noE) noB
theorem awT{l:List Br}(h2:l.length<=2)(h:iN l):bw [] (ae l)<=254:=by
 have e:=amk (ae l);have e2:=ai3 l
 have e3:uB l<=54:=by
  cases l with
  |nil=>simp[oF]|cons a r=>
   have ha:=h a List.mem_cons_self;cases r with
   |nil=>rw[iM,oF];unfold sT;omega|cons b r=>
    have hb:=h b (List.mem_cons_of_mem _ List.mem_cons_self);cases r with
    |nil=>rw[iM,iM,oF];unfold sT;omega|cons c r=>simp only[length_cons]at h2;omega
 omega
theorem amw{th:Th}{m:As}{fu:Int}{fr fs:Ws}{l:List Br}(h0:1<l.length)(h2:l.length<=2)(h:iN l):(bG th m fu fr fs false [] l).2.2.2.2.1.length=1:=by
 unfold bG;rw[if_neg (by simp only[length_nil];omega),if_pos (awT h2 h)];rfl
theorem abf{l:List Br}(h:∀b∈l,0<=b.2.1/\b.2.1<=65536)(k:Nat):0<=(l.getD k dB).2.1/\(l.getD k dB).2.1<=65536:=by
 rcases lt_or_ge k l.length with hk|hk;rw[bT hk];exact h _ (getElem_mem hk);rw[List.getD,getElem?_eq_none hk];exact⟨Int.le_refl 0,by show(0:Int)<=65536;omega⟩
theorem ta{l:List Br}(h2:l.length<=2)(h:iN l):aV l:=⟨by omega,λx hx=>Nat.le_trans (h x hx) (by omega)⟩
theorem abg{th:Th}{c:Chg}(h:¬(c.2.2.2.2.2.2=0/\1<c.2.2.2.2.2.1.length)):upT th c=c:=if_neg h
theorem arE{th:Th}{m:As}{fu aa:Int}{fr fs gn:Ws}{key val:ByteArray}{c:Chs}(e:lM th key (some val) m fu aa fr fs gn=c):
 adt.eG ((th,m,fu,aa,fr,fs,gn),key,val)=kz th c.1 c.2.1 c.2.2.1 c.2.2.2.1 c.2.2.2.2.1 c.2.2.2.2.2.1 key val/\adt.out ((th,m,fu,aa,fr,fs,gn),key,val)=az c.2.2.2.2.2.2:=by
 subst e;exact⟨rfl,rfl⟩
theorem mw:xr.Ok P Bx.cw:=aF.Ok.cons (apP.sum apN) (aF.Ok.cons (fy (dC (j6.sum mTN) 1 _) 1) (aF.Ok.cons (ads.sum mLv) (aF.Ok.cons Bx.alR.sum aF.Ok.nil)))
section
variable{th:Th}{m0:As}{uD aA:Int}{dr dd de:Ws}{key val:ByteArray}{X:Ctx}
theorem rO{th:Th}{m:As}{fu aa:Int}{fr fs gn:Ws}{key val:ByteArray}:∀y∈zt,(kz th m fu aa fr fs gn key val).length<=y.2.m:=λy hy=>by
 simp only[zt,mem_cons,List.not_mem_nil,or_false]at hy;rcases hy with rfl|rfl|rfl<;>exact le_refl _
theorem abh(hz:cP Bx.cw X)(hX:X.H=lk (kz th m0 uD aA dr dd de key val)){m:As}{fu aa:Int}{fr fs gn:Ws}{e:Int}(ee:lM th key (some val) m0 uD aA dr dd de=kA th aA dr dd de m fu aa fr fs gn e):
 Safe P 38 X (fq adt ((th,m0,uD,aA,dr,dd,de),key,val)) (adv th aA dr dd de m fu aa fr fs gn key val e):=by
 refine Ds.cA hz hX rO mw func38 (auf th aA dr dd de m fu aa fr fs gn key val e) ⟨λh=> ?_,λh=> ?_⟩;have h:e≠0:=by simpa using h
 unfold kA at ee;rw[if_pos h]at ee;have⟨f1,f2⟩:=arE (val:=val) ee;exact bK 6 rfl (le_refl _) f2 f1;have h:¬e≠0:=by simpa using h
 unfold kA at ee;rw[if_neg h]at ee;have⟨f1,f2⟩:=arE (val:=val) ee;exact bK 6 rfl (le_refl _) f2 f1
theorem ve(hz:cP Bx.cw X)(hX:X.H=lk (kz th m0 uD aA dr dd de key val)){m:As}{fu aa:Int}{fr fs gn:Ws}{l:List Br}{e:Int}(hd:Ds.cf th m fu)(hp:∀b∈l,0<=b.2.1/\b.2.1<=65536)
 (ee:lM th key (some val) m0 uD aA dr dd de=oI th aA dr dd de (m,fu,fr,fs,gn,l,e)):
 Safe P 38 X (fq adt ((th,m0,uD,aA,dr,dd,de),key,val)) (ahd th aA dr dd de m fu aa fr fs gn key val l e):=by
 refine Ds.cA hz hX rO mw func38 (aue th aA dr dd de m fu aa fr fs gn key val l e) ⟨λh=>⟨λh2=> ?_,λh2=> ?_⟩,λh=> ?_⟩;have h:e=0:=by simpa using h
 have h2:(l.length:Int)=1:=by simpa using h2
 unfold oI at ee;rw[if_pos ⟨h,by simp only[];omega⟩]at ee;exact⟨by omega,by omega,rfl,rfl,hd,abf hp 0,abh hz hX ee⟩;have h2:¬(l.length:Int)=1:=by simpa using h2
 unfold oI at ee;rw[if_neg (λa=>h2 (by have:=a.2;simp only[]at this;omega))]at ee;exact abh hz hX ee;have h:¬e=0:=by simpa using h
 unfold oI at ee;rw[if_neg (λa=>h a.1)]at ee;exact abh hz hX ee
theorem apY(hz:cP Bx.cw X)(hX:X.H=lk (kz th m0 uD aA dr dd de key val)){m:As}{fu aa:Int}{fr fs gn:Ws}{l:List Br}{e:Int}(hd:Ds.cf th m fu)(hp:∀b∈l,0<=b.2.1/\b.2.1<=65536)(qc:¬(e=0/\1<l.length))
 (ee:lM th key (some val) m0 uD aA dr dd de=oI th aA dr dd de (m,fu,fr,fs,gn,l,e)):
 Safe P 38 X (fq adt ((th,m0,uD,aA,dr,dd,de),key,val)) (adu th aA dr dd de m fu aa fr fs gn key val l e):=by
 refine Ds.cA hz hX rO mw func38 (amu th aA dr dd de m fu aa fr fs gn key val l e) ⟨λh=>⟨λh2=> ?_,λh2=> ?_⟩,λh=> ?_⟩;have h:e=0:=by simpa using h
 have h2:=of_decide_eq_true h2;exact absurd ⟨h,by omega⟩ qc;exact ve hz hX hd hp ee;exact ve hz hX hd hp ee
theorem apZ(hz:cP Bx.cw X)(hX:X.H=lk (kz th m0 uD aA dr dd de key val)){m:As}{fu aa:Int}{fr fs gn:Ws}{l:List Br}{e:Int}(F:amm th m fu fr l)
 (ee:lM th key (some val) m0 uD aA dr dd de=oI th aA dr dd de (upT th (m,fu,fr,fs,gn,l,e))):
 Safe P 38 X (fq adt ((th,m0,uD,aA,dr,dd,de),key,val)) (adu th aA dr dd de m fu aa fr fs gn key val l e):=by
 refine Ds.cA hz hX rO mw func38 (amu th aA dr dd de m fu aa fr fs gn key val l e) ⟨λh=>⟨λh2=> ?_,λh2=> ?_⟩,λh=> ?_⟩;have h:e=0:=by simpa using h
 have h2:=of_decide_eq_true h2;have hu:upT th (m,fu,fr,fs,gn,l,e)=iy gn (bG th m fu fr fs false [] l):=if_pos ⟨h,by show 1<l.length;omega⟩;rw[hu]at ee;have F2:=jo (fs:=fs) (l:=false) (es:=[]) F.d F.fr noE F.key;have hl:=amw (th:=th) (m:=m) (fu:=fu) (fr:=fr) (fs:=fs) (l:=l) (by omega) F.two F.key;exact⟨rfl,rfl,F.d,F.fr,⟨λa=>(by cases a),λ_=>rfl⟩,fT,ta F.two F.key,apY hz hX F2.d F2.pg (λa=>by rw[hl]at a;omega) ee⟩;have h2:=of_decide_eq_false h2;rw[abg (λa=>h2 (by have:=a.2;simp only[]at this;omega))]at ee;exact ve hz hX F.d F.pg ee;have h:¬e=0:=by simpa using h
 rw[abg (λa=>h a.1)]at ee;exact ve hz hX F.d F.pg ee
end
theorem adz:fD P Bx.cw 38 adt:=by
 refine fS func38 ?_;rintro⟨⟨th,m,fu,aa,fr,fs,gn⟩,key,val⟩ ⟨(hd:Ds.cf th m fu),(hf:Bx.okW fr),(hr:0<=aa/\aa<=65536),(hk:1<=key.size/\key.size<=24),(hv:val.size<=100),_⟩ X hX hz;exact Ds.cA hz hX rO mw func38 (awR th m fu aa fr fs gn key val) ⟨rfl,rfl,hd,hf,hr,hk,hv,apZ hz hX (xu (op:=(some val)) hk.2 hd hf) rfl⟩
theorem arF{th:Th}{m:As}{fu aa:Int}{fr fs gn:Ws}{key val:ByteArray}{c:Chs}(e:lM th key none m fu aa fr fs gn=c):
 adw.eG ((th,m,fu,aa,fr,fs,gn),key,val)=jm th c.1 c.2.1 c.2.2.1 c.2.2.2.1 c.2.2.2.2.1 c.2.2.2.2.2.1 key/\adw.out ((th,m,fu,aa,fr,fs,gn),key,val)=az c.2.2.2.2.2.2:=by
 subst e;exact⟨rfl,rfl⟩
theorem my:xt.Ok P Bx.cw:=aF.Ok.cons (apQ.sum apO) (aF.Ok.cons (fy (dC (j6.sum mTN) 1 _) 1) (aF.Ok.cons (ads.sum mLv) (aF.Ok.cons Bx.alR.sum aF.Ok.nil)))
section
variable{th:Th}{m0:As}{uD aA:Int}{dr dd de:Ws}{key val:ByteArray}{X:Ctx}
theorem rP{th:Th}{m:As}{fu aa:Int}{fr fs gn:Ws}{key:ByteArray}:∀y∈zu,(jm th m fu aa fr fs gn key).length<=y.2.m:=λy hy=>by
 simp only[zu,mem_cons,List.not_mem_nil,or_false]at hy;rcases hy with rfl|rfl|rfl<;>exact le_refl _
theorem abi(hz:cP Bx.cw X)(hX:X.H=lk (jm th m0 uD aA dr dd de key)){m:As}{fu aa:Int}{fr fs gn:Ws}{e:Int}(ee:lM th key none m0 uD aA dr dd de=kA th aA dr dd de m fu aa fr fs gn e):
 Safe P 38 X (fq adw ((th,m0,uD,aA,dr,dd,de),key,val)) (ady th aA dr dd de m fu aa fr fs gn key e):=by
 refine Ds.cA hz hX rP my func38 (auh th aA dr dd de m fu aa fr fs gn key e) ⟨λh=> ?_,λh=> ?_⟩;have h:e≠0:=by simpa using h
 unfold kA at ee;rw[if_pos h]at ee;have⟨f1,f2⟩:=arF (val:=val) ee;exact bK 5 rfl (le_refl _) f2 f1;have h:¬e≠0:=by simpa using h
 unfold kA at ee;rw[if_neg h]at ee;have⟨f1,f2⟩:=arF (val:=val) ee;exact bK 5 rfl (le_refl _) f2 f1
theorem vg(hz:cP Bx.cw X)(hX:X.H=lk (jm th m0 uD aA dr dd de key)){m:As}{fu aa:Int}{fr fs gn:Ws}{l:List Br}{e:Int}(hd:Ds.cf th m fu)(hp:∀b∈l,0<=b.2.1/\b.2.1<=65536)
 (ee:lM th key none m0 uD aA dr dd de=oI th aA dr dd de (m,fu,fr,fs,gn,l,e)):
 Safe P 38 X (fq adw ((th,m0,uD,aA,dr,dd,de),key,val)) (ahe th aA dr dd de m fu aa fr fs gn key l e):=by
 refine Ds.cA hz hX rP my func38 (aug th aA dr dd de m fu aa fr fs gn key l e) ⟨λh=>⟨λh2=> ?_,λh2=> ?_⟩,λh=> ?_⟩;have h:e=0:=by simpa using h
 have h2:(l.length:Int)=1:=by simpa using h2
 unfold oI at ee;rw[if_pos ⟨h,by simp only[];omega⟩]at ee;exact⟨by omega,by omega,rfl,rfl,hd,abf hp 0,abi hz hX ee⟩;have h2:¬(l.length:Int)=1:=by simpa using h2
 unfold oI at ee;rw[if_neg (λa=>h2 (by have:=a.2;simp only[]at this;omega))]at ee;exact abi hz hX ee;have h:¬e=0:=by simpa using h
 unfold oI at ee;rw[if_neg (λa=>h a.1)]at ee;exact abi hz hX ee
theorem ap0(hz:cP Bx.cw X)(hX:X.H=lk (jm th m0 uD aA dr dd de key)){m:As}{fu aa:Int}{fr fs gn:Ws}{l:List Br}{e:Int}(hd:Ds.cf th m fu)(hp:∀b∈l,0<=b.2.1/\b.2.1<=65536)(qc:¬(e=0/\1<l.length))
 (ee:lM th key none m0 uD aA dr dd de=oI th aA dr dd de (m,fu,fr,fs,gn,l,e)):
 Safe P 38 X (fq adw ((th,m0,uD,aA,dr,dd,de),key,val)) (adx th aA dr dd de m fu aa fr fs gn key l e):=by
 refine Ds.cA hz hX rP my func38 (amv th aA dr dd de m fu aa fr fs gn key l e) ⟨λh=>⟨λh2=> ?_,λh2=> ?_⟩,λh=> ?_⟩;have h:e=0:=by simpa using h
 have h2:=of_decide_eq_true h2;exact absurd ⟨h,by omega⟩ qc;exact vg hz hX hd hp ee;exact vg hz hX hd hp ee
theorem ap1(hz:cP Bx.cw X)(hX:X.H=lk (jm th m0 uD aA dr dd de key)){m:As}{fu aa:Int}{fr fs gn:Ws}{l:List Br}{e:Int}(F:amm th m fu fr l)
 (ee:lM th key none m0 uD aA dr dd de=oI th aA dr dd de (upT th (m,fu,fr,fs,gn,l,e))):
 Safe P 38 X (fq adw ((th,m0,uD,aA,dr,dd,de),key,val)) (adx th aA dr dd de m fu aa fr fs gn key l e):=by
 refine Ds.cA hz hX rP my func38 (amv th aA dr dd de m fu aa fr fs gn key l e) ⟨λh=>⟨λh2=> ?_,λh2=> ?_⟩,λh=> ?_⟩;have h:e=0:=by simpa using h
 have h2:=of_decide_eq_true h2;have hu:upT th (m,fu,fr,fs,gn,l,e)=iy gn (bG th m fu fr fs false [] l):=if_pos ⟨h,by show 1<l.length;omega⟩;rw[hu]at ee;have F2:=jo (fs:=fs) (l:=false) (es:=[]) F.d F.fr noE F.key;have hl:=amw (th:=th) (m:=m) (fu:=fu) (fr:=fr) (fs:=fs) (l:=l) (by omega) F.two F.key;exact⟨rfl,rfl,F.d,F.fr,⟨λa=>(by cases a),λ_=>rfl⟩,fT,ta F.two F.key,ap0 hz hX F2.d F2.pg (λa=>by rw[hl]at a;omega) ee⟩;have h2:=of_decide_eq_false h2;rw[abg (λa=>h2 (by have:=a.2;simp only[]at this;omega))]at ee;exact vg hz hX F.d F.pg ee;have h:¬e=0:=by simpa using h
 rw[abg (λa=>h a.1)]at ee;exact vg hz hX F.d F.pg ee
end
theorem adA:fD P Bx.cw 38 adw:=by
 refine fS func38 ?_;rintro⟨⟨th,m,fu,aa,fr,fs,gn⟩,key,val⟩ ⟨(hd:Ds.cf th m fu),(hf:Bx.okW fr),(hr:0<=aa/\aa<=65536),(hk:1<=key.size/\key.size<=24),(hv:val.size<=100),_⟩ X hX hz;exact Ds.cA hz hX rP my func38 (awS th m fu aa fr fs gn key) ⟨rfl,rfl,hd,hf,hr,hk,(zero_le 100),ap1 hz hX (xu (op:=none) hk.2 hd hf) rfl⟩
def fg(key:ByteArray):Option ByteArray->Bool
 |some v=>decide (1<=key.size)&&decide (key.size<=24)&&decide (v.size<=100)|none=>decide (1<=key.size)&&decide (key.size<=24)
def opT(th:Th)(key:ByteArray)(op:Option ByteArray)(m:As)(fu aa:Int)(fr fs gn:Ws):Chs:=if fg key op=true then lM th key op m fu aa fr fs gn else(m,fu,aa,fr,fs,gn,1)
def op0(th:Th)(key:ByteArray)(op:Option ByteArray)(m:As)(fu aa:Int)(fr fs gn:Ws):As:=(opT th key op m fu aa fr fs gn).1
def op1(th:Th)(key:ByteArray)(op:Option ByteArray)(m:As)(fu aa:Int)(fr fs gn:Ws):Int:=(opT th key op m fu aa fr fs gn).2.1
def rZ(th:Th)(key:ByteArray)(op:Option ByteArray)(m:As)(fu aa:Int)(fr fs gn:Ws):Int:=(opT th key op m fu aa fr fs gn).2.2.1
def op2(th:Th)(key:ByteArray)(op:Option ByteArray)(m:As)(fu aa:Int)(fr fs gn:Ws):Ws:=(opT th key op m fu aa fr fs gn).2.2.2.1
def op3(th:Th)(key:ByteArray)(op:Option ByteArray)(m:As)(fu aa:Int)(fr fs gn:Ws):Ws:=(opT th key op m fu aa fr fs gn).2.2.2.2.1
def op4(th:Th)(key:ByteArray)(op:Option ByteArray)(m:As)(fu aa:Int)(fr fs gn:Ws):Ws:=(opT th key op m fu aa fr fs gn).2.2.2.2.2.1
def opE(th:Th)(key:ByteArray)(op:Option ByteArray)(m:As)(fu aa:Int)(fr fs gn:Ws):Int:=(opT th key op m fu aa fr fs gn).2.2.2.2.2.2
def awU(th:Th)(m:As)(fu aa:Int)(fr:Ws):List Prop:=[Ds.cf th m fu,Bx.okW fr,0<=aa/\aa<=65536]
abbrev amx:Spec XK:=⟨λ(_,key,val)=>[.ptr 0 0,.s (.str key),.s (.str val)],λ((th,m,fu,aa,fr,fs,gn),_,_)=>hT th m fu aa fr fs gn,λ((th,m,fu,aa,fr,_,_),_,_)=>awU th m fu aa fr,
 λ((th,m,fu,aa,fr,fs,gn),key,val)=>hT th (op0 th key (some val) m fu aa fr fs gn) (op1 th key (some val) m fu aa fr fs gn) (rZ th key (some val) m fu aa fr fs gn) (op2 th key (some val) m fu aa fr fs gn) (op3 th key (some val) m fu aa fr fs gn) (op4 th key (some val) m fu aa fr fs gn),
 λ((th,m,fu,aa,fr,fs,gn),key,val)=>az (opE th key (some val) m fu aa fr fs gn)⟩
abbrev XD:Type:=XT×ByteArray
abbrev amy:Spec XD:=⟨λ(_,key)=>[.ptr 0 0,.s (.str key)],λ((th,m,fu,aa,fr,fs,gn),_)=>hT th m fu aa fr fs gn,λ((th,m,fu,aa,fr,_,_),_)=>awU th m fu aa fr,
 λ((th,m,fu,aa,fr,fs,gn),key)=>hT th (op0 th key none m fu aa fr fs gn) (op1 th key none m fu aa fr fs gn) (rZ th key none m fu aa fr fs gn) (op2 th key none m fu aa fr fs gn) (op3 th key none m fu aa fr fs gn) (op4 th key none m fu aa fr fs gn),
 λ((th,m,fu,aa,fr,fs,gn),key)=>az (opE th key none m fu aa fr fs gn)⟩
def awV:aF:=[(38,cu adt apN)]
def awW:aF:=[(38,cu adw apO)]
theorem ayY(th:Th)(m:As)(fu aa:Int)(fr fs gn:Ws)(key val:ByteArray):run P awV.sum f12 [] (start f12 [.ptr 0 0,.s (.str key),.s (.str val)] (hT th m fu aa fr fs gn)) (inl:=[37])=
 Tree.ite (decide ((↑key.size:Int)>=1)) (.ite (!decide ((↑key.size:Int)<=24)) (.ret (kz th m fu aa fr fs gn key val) (.s (.aO .i64 1))) (.ite (decide ((↑val.size:Int)>100)) (.ret (kz th m fu aa fr fs gn key val) (.s (.aO .i64 1))) (.ab (bD (some [AV.ptr 0 0,.s (.str key),.fn 39 [.ptr 4 0,.ptr 5 0]])) (.ab (bD (some (kz th m fu aa fr fs gn key val))) (.ab (Ds.cf th m fu) (.ab (Bx.okW fr) (.ab ((0:Int)<=aa/\aa<=65536) (.ab ((1:Nat)<=key.size/\key.size<=24) (.ab (val.size<=100) (.ret (kz th (apR th key (some val) m fu aa fr fs gn) (apS th key (some val) m fu aa fr fs gn) (apT th key (some val) m fu aa fr fs gn) (apU th key (some val) m fu aa fr fs gn) (apV th key (some val) m fu aa fr fs gn) (apW th key (some val) m fu aa fr fs gn) key val) (az (apX th key (some val) m fu aa fr fs gn)))))))))))) (.ret (kz th m fu aa fr fs gn key val) (.s (.aO .i64 1))):=by kernel_rfl
theorem ayZ(th:Th)(m:As)(fu aa:Int)(fr fs gn:Ws)(key:ByteArray):run P awW.sum f14 [] (start f14 [.ptr 0 0,.s (.str key)] (hT th m fu aa fr fs gn)) (inl:=[37])=
 Tree.ite (decide ((↑key.size:Int)>=1)) (.ite (!decide ((↑key.size:Int)<=24)) (.ret (jm th m fu aa fr fs gn key) (.s (.aO .i64 1))) (.ab (bD (some [AV.ptr 0 0,.s (.str key),.fn 42 [.ptr 4 0]])) (.ab (bD (some (jm th m fu aa fr fs gn key))) (.ab (Ds.cf th m fu) (.ab (Bx.okW fr) (.ab ((0:Int)<=aa/\aa<=65536) (.ab ((1:Nat)<=key.size/\key.size<=24) (.ab (empty.size<=100) (.ret (jm th (apR th key none m fu aa fr fs gn) (apS th key none m fu aa fr fs gn) (apT th key none m fu aa fr fs gn) (apU th key none m fu aa fr fs gn) (apV th key none m fu aa fr fs gn) (apW th key none m fu aa fr fs gn) key) (az (apX th key none m fu aa fr fs gn))))))))))) (.ret (jm th m fu aa fr fs gn key) (.s (.aO .i64 1))):=by kernel_rfl
theorem ahf{th:Th}{key:ByteArray}{op:Option ByteArray}{m:As}{fu aa:Int}{fr fs gn:Ws}(h:fg key op=true):opT th key op m fu aa fr fs gn=lM th key op m fu aa fr fs gn:=if_pos h
theorem amz{th:Th}{key:ByteArray}{op:Option ByteArray}{m:As}{fu aa:Int}{fr fs gn:Ws}(h:fg key op=false):opT th key op m fu aa fr fs gn=(m,fu,aa,fr,fs,gn,1):=if_neg (by rw[h];simp)
theorem arG{th:Th}{m:As}{fu aa:Int}{fr fs gn:Ws}{key val:ByteArray}{c:Chs}(e:opT th key (some val) m fu aa fr fs gn=c):
 amx.eG ((th,m,fu,aa,fr,fs,gn),key,val)=hT th c.1 c.2.1 c.2.2.1 c.2.2.2.1 c.2.2.2.2.1 c.2.2.2.2.2.1/\amx.out ((th,m,fu,aa,fr,fs,gn),key,val)=az c.2.2.2.2.2.2:=by
 subst e;exact⟨rfl,rfl⟩
theorem arH{th:Th}{m:As}{fu aa:Int}{fr fs gn:Ws}{key:ByteArray}{c:Chs}(e:opT th key none m fu aa fr fs gn=c):
 amy.eG ((th,m,fu,aa,fr,fs,gn),key)=hT th c.1 c.2.1 c.2.2.1 c.2.2.2.1 c.2.2.2.2.1 c.2.2.2.2.2.1/\amy.out ((th,m,fu,aa,fr,fs,gn),key)=az c.2.2.2.2.2.2:=by
 subst e;exact⟨rfl,rfl⟩
theorem adB:fD P Bx.cw 12 amx:=by
 refine fS func12 ?_;rintro⟨⟨th,m,fu,aa,fr,fs,gn⟩,key,val⟩ ⟨(hd:Ds.cf th m fu),(hf:Bx.okW fr),(hr:0<=aa/\aa<=65536),_⟩ X hX hz
 have no:fg key (some val)=false->fq amx ((th,m,fu,aa,fr,fs,gn),key,val) (hT th m fu aa fr fs gn++[uA key,uA val]) (.s (.aO .i64 1)):=λh=>by
  have⟨f1,f2⟩:=arG (amz (th:=th) (m:=m) (fu:=fu) (aa:=aa) (fr:=fr) (fs:=fs) (gn:=gn) h);exact bK 4 rfl (le_refl _) f2 f1
 refine Ds.cA hz hX (by intro y hy;cases hy) (aF.Ok.cons (adz.sum apN) aF.Ok.nil) func12 (ayY th m fu aa fr fs gn key val) ⟨λh=>⟨λh2=> ?_,λh2=>⟨λh3=> ?_,λh3=>⟨rfl,rfl,hd,hf,hr, ?_, ?_, ?_⟩⟩⟩,λh=> ?_⟩;have h2:¬(key.size:Int)<=24:=by simpa using h2
 exact no (by simp only[fg,and_eq_false_iff,decide_eq_false_iff_not];omega);have h3:=of_decide_eq_true h3;exact no (by simp only[fg,and_eq_false_iff,decide_eq_false_iff_not];omega);have h:=of_decide_eq_true h;have h2:(key.size:Int)<=24:=by simpa using h2
 omega;have h3:=of_decide_eq_false h3;omega;have h:=of_decide_eq_true h;have h2:(key.size:Int)<=24:=by simpa using h2
 have h3:=of_decide_eq_false h3;have⟨f1,f2⟩:=arG (ahf (th:=th) (key:=key) (op:=some val) (m:=m) (fu:=fu) (aa:=aa) (fr:=fr) (fs:=fs) (gn:=gn) (by simp only[fg,and_eq_true,decide_eq_true_eq];omega));exact bK 4 rfl (le_refl _) f2 f1;have h:=of_decide_eq_false h;exact no (by simp only[fg,and_eq_false_iff,decide_eq_false_iff_not];omega)
theorem adC:fD P Bx.cw 14 amy:=by
 refine fS func14 ?_;rintro⟨⟨th,m,fu,aa,fr,fs,gn⟩,key⟩ ⟨(hd:Ds.cf th m fu),(hf:Bx.okW fr),(hr:0<=aa/\aa<=65536),_⟩ X hX hz
 have no:fg key none=false->fq amy ((th,m,fu,aa,fr,fs,gn),key) (hT th m fu aa fr fs gn++[uA key]) (.s (.aO .i64 1)):=λh=>by
  have⟨f1,f2⟩:=arH (amz (th:=th) (m:=m) (fu:=fu) (aa:=aa) (fr:=fr) (fs:=fs) (gn:=gn) h);exact bK 4 rfl (le_refl _) f2 f1
 refine Ds.cA hz hX (by intro y hy;cases hy) (aF.Ok.cons (adA.sum apO) aF.Ok.nil) func14 (ayZ th m fu aa fr fs gn key) ⟨λh=>⟨λh2=> ?_,λh2=>⟨rfl,rfl,hd,hf,hr, ?_,zero_le 100, ?_⟩⟩,λh=> ?_⟩;have h2:¬(key.size:Int)<=24:=by simpa using h2
 exact no (by simp only[fg,and_eq_false_iff,decide_eq_false_iff_not];omega);have h:=of_decide_eq_true h;have h2:(key.size:Int)<=24:=by simpa using h2
 omega;have h:=of_decide_eq_true h;have h2:(key.size:Int)<=24:=by simpa using h2
 have⟨f1,f2⟩:=arH (ahf (th:=th) (key:=key) (op:=none) (m:=m) (fu:=fu) (aa:=aa) (fr:=fr) (fs:=fs) (gn:=gn) (by simp only[fg,and_eq_true,decide_eq_true_eq];omega));exact bK 4 rfl (le_refl _) f2 f1;have h:=of_decide_eq_false h;exact no (by simp only[fg,and_eq_false_iff,decide_eq_false_iff_not];omega)
def ai9(th:Th)(m:As)(key:ByteArray):Nat->Int->Int->ByteArray×Bool×Int
 |0,_,_=>(empty,false,4)|f+1,n,ad=>
  if fE th m n ad≠0 then(empty,false,fE th m n ad)
  else if jF th m n ad=true then(m6 (bY th m n ad) key,lK (bY th m n ad) key,0)
  else if bc th m n ad=[]then(empty,false,4)
  else ai9 th m key f ((bc th m n ad).getD (aI (bc th m n ad) key).toNat dB).2.1 (ad+1)
def gtT(th:Th)(m:As)(aa:Int)(key:ByteArray):ByteArray×Bool×Int:=
 if fg key none=false then(empty,false,1)else if aa=0 then(empty,false,0)else ai9 th m key 17 aa 1
def gtV(th:Th)(m:As)(aa:Int)(key:ByteArray):ByteArray:=(gtT th m aa key).1
def gtB(th:Th)(m:As)(aa:Int)(key:ByteArray):Bool:=(gtT th m aa key).2.1
def gtE(th:Th)(m:As)(aa:Int)(key:ByteArray):Int:=(gtT th m aa key).2.2
abbrev amA:Spec XD:=⟨λ(_,key)=>[.ptr 0 0,.s (.str key)],λ((th,m,fu,aa,fr,fs,gn),_)=>hT th m fu aa fr fs gn,λ((th,m,fu,aa,_),_)=>[Ds.cf th m fu,0<=aa/\aa<=65536],
 λ((th,m,fu,aa,fr,fs,gn),_)=>hT th m fu aa fr fs gn,λ((th,m,_,aa,_),key)=>.bd [.s (.str (gtV th m aa key)),.s (.bool (gtB th m aa key)),az (gtE th m aa key)]⟩
abbrev awX:=bM [rC,cv] [cv,bL] (λ(l,_,())=>[(l:List En).length<=1000000,jj (b9 l)]) (λ(l,key,())=>(m6 l key,lK l key,()))
def amB:aF:=[(44,zq),(45,awX),(46,at0)]
def ap2:List (Nat×Norm):=[(10,⟨[],[0,1,7,8],4,[]⟩)]
def cGt(th:Th)(m:As)(fu aa:Int)(fr fs gn:Ws)(key:ByteArray)(n ad:Int):bQ:=⟨sl 66 [(0,.ptr 0 0),(1,.s (.str key)),(7,az n),(8,az ad)],hT th m fu aa fr fs gn,hd f16 10,{}⟩
theorem ay0(th:Th)(m:As)(fu aa:Int)(fr fs gn:Ws)(key:ByteArray):run P amB.sum f16 ap2 (start f16 [.ptr 0 0,.s (.str key)] (hT th m fu aa fr fs gn)) (inl:=[37])=
 Tree.ite (decide ((↑key.size:Int)>=1)) (.ite (!decide ((↑key.size:Int)<=24)) (.ret (hT th m fu aa fr fs gn) (.bd [.s (.str empty),.s (.aN false),.s (.aO .i64 1)])) (.ite (aa==0) (.ret (hT th m fu aa fr fs gn) (.bd [.s (.str empty),.s (.aN false),.s (.aO .i64 0)])) (.at (cGt th m fu aa fr fs gn key aa 1)))) (.ret (hT th m fu aa fr fs gn) (.bd [.s (.str empty),.s (.aN false),.s (.aO .i64 1)])):=by kernel_rfl
theorem ay1(th:Th)(m:As)(fu aa:Int)(fr fs gn:Ws)(key:ByteArray)(n ad:Int):run P amB.sum f16 ap2 (cGt th m fu aa fr fs gn key n ad) (inl:=[37])=
 Tree.ab (bD (some [AV.ptr 0 0,az n,az ad])) (.ab (bD (some (hT th m fu aa fr fs gn))) (.ab (Ds.cf th m fu) (.ab (aw n) (.ite (fE th m n ad !=0) (.ret (hT th m fu aa fr fs gn++[.ak [.s (.bool (jF th m n ad)),.s (.ro (.ah cE (bY th m n ad))),.s (.ro (.ah cB (bc th m n ad)))] 99]) (.bd [.s (.str empty),.s (.aN false),az (fE th m n ad)])) (.ite (jF th m n ad) (.ab ((bY th m n ad).length<=1000000) (.ab (jj (b9 (bY th m n ad))) (.ret (hT th m fu aa fr fs gn++[.ak [.s (.bool (jF th m n ad)),.s (.ro (.ah cE (bY th m n ad))),.s (.ro (.ah cB (bc th m n ad)))] 99]) (.bd [.s (.str (m6 (bY th m n ad) key)),.s (.bool (lK (bY th m n ad) key)),.s (.aO .i64 0)])))) (.ite ((↑(bc th m n ad).length:Int)==0) (.ret (hT th m fu aa fr fs gn++[.ak [.s (.bool (jF th m n ad)),.s (.ro (.ah cE (bY th m n ad))),.s (.ro (.ah cB (bc th m n ad)))] 99]) (.bd [.s (.str empty),.s (.aN false),.s (.aO .i64 4)])) (.ab ((bc th m n ad).length<=1000000) (.ab (jj (mg (bc th m n ad))) (.ab ((0:Int)<=aI (bc th m n ad) key) (.ab (aI (bc th m n ad) key<(↑(bc th m n ad).length:Int)) (.ab (aw (ad+1)) (.at (cGt th m fu aa fr fs gn key ((bc th m n ad).getD (aI (bc th m n ad) key).toNat (CL.d cB)).snd.fst (ad+1)))))))))))))):=by kernel_rfl
theorem adD{Z:aZ}:amB.Ok P Z:=aF.Ok.cons (pe.sum mNo) (aF.Ok.cons aoX.sum (aF.Ok.cons wW.sum aF.Ok.nil))
theorem adE{th:Th}{m:As}{fu aa:Int}{fr fs gn:Ws}{key:ByteArray}{c:ByteArray×Bool×Int}(e:c=gtT th m aa key):
 amA.out ((th,m,fu,aa,fr,fs,gn),key)=.bd [.s (.str c.1),.s (.bool c.2.1),az c.2.2]:=by
 subst e;rfl
theorem aui{Z:aZ}:fD P Z 16 amA:=by
 refine fS func16 ?_;rintro⟨⟨th,m,fu,aa,fr,fs,gn⟩,key⟩ ⟨(hd:Ds.cf th m fu),(hr:0<=aa/\aa<=65536),_⟩ X hX hz
 have hm:∀y∈ap2,(hT th m fu aa fr fs gn).length<=y.2.m:=λy hy=>by
  simp only[ap2,mem_singleton]at hy;subst hy;exact le_refl _
 have loop:∀(f:Nat) (n ad:Int),1<=ad/\ad<=17->18<=ad+(f:Int)->0<=n/\n<=65536->ai9 th m key f n ad=gtT th m aa key->
  Safe P 16 X (fq amA ((th,m,fu,aa,fr,fs,gn),key)) (cGt th m fu aa fr fs gn key n ad):=by
  intro f
  induction f with
  |zero=>intro n ad h1 h2;omega
  |succ f ih=>
   intro n ad h1 h2 hn e;rw[ai9]at e;refine Ds.cA hz hX hm adD func16 (ay1 th m fu aa fr fs gn key n ad) ⟨rfl,rfl,hd,inI (by omega) (by omega),λh=> ?_,λh=> ?_⟩;have h:fE th m n ad≠0:=by simpa using h
   rw[if_pos h]at e;exact bK 4 rfl (le_refl _) (adE e) rfl;have h:fE th m n ad=0:=by simpa using h
   have⟨ay2,n1,n2,_,_,n5,_⟩:=eu h;have⟨s1,s2⟩:=m9 ay2;rw[if_neg (by rw[h];simp)]at e;refine⟨λhl=>⟨by omega,s1, ?_⟩,λhl=>⟨λh3=> ?_,λh3=> ?_⟩⟩;rw[if_pos hl]at e;exact bK 4 rfl (le_refl _) (adE e) rfl
   have h3:bc th m n ad=[]:=List.eq_nil_of_length_eq_zero (by have:((bc th m n ad).length:Int)=0:=by simpa using h3
                                                              omega)
   rw[if_neg (by rw[hl];simp),if_pos h3]at e;exact bK 4 rfl (le_refl _) (adE e) rfl;have h3:bc th m n ad≠[]:=λe=>by rw[e]at h3;simp at h3
   rw[if_neg (by rw[hl];simp),if_neg h3]at e;have⟨p0,p1⟩:=mu (key:=key) s2 h3;exact⟨by omega,s2,p0,p1,inI (by omega) (by omega),ih _ _ ⟨by omega,by omega⟩ (by omega) (qw h _) e⟩
 have no:fg key none=false->fq amA ((th,m,fu,aa,fr,fs,gn),key) (hT th m fu aa fr fs gn) (.bd [.s (.str empty),.s (.aN false),.s (.aO .i64 1)]):=λh=>
  bK 4 rfl (le_refl _) (adE (c:=(empty,false,1)) (by unfold gtT;rw[if_pos h])) rfl
 refine Ds.cA hz hX hm adD func16 (ay0 th m fu aa fr fs gn key) ⟨λh=>⟨λh2=> ?_,λh2=> ?_⟩,λh=> ?_⟩;have h2:¬(key.size:Int)<=24:=by simpa using h2
 exact no (by simp only[fg,and_eq_false_iff,decide_eq_false_iff_not];omega);have h:=of_decide_eq_true h;have h2:(key.size:Int)<=24:=by simpa using h2
 have ok:fg key none=true:=by simp only[fg,and_eq_true,decide_eq_true_eq];omega
 refine⟨λh3=> ?_,λh3=> ?_⟩;have h3:aa=0:=by simpa using h3
 exact bK 4 rfl (le_refl _) (adE (c:=(empty,false,0)) (by unfold gtT;rw[if_neg (by rw[ok];simp),if_pos h3])) rfl;have h3:aa≠0:=by simpa using h3
 exact loop 17 aa 1 ⟨by omega,by omega⟩ (by omega) hr (by unfold gtT;rw[if_neg (by rw[ok];simp),if_neg h3]);have h:=of_decide_eq_false h;exact no (by simp only[fg,and_eq_false_iff,decide_eq_false_iff_not];omega)
end Ts
namespace Go.Sx
open Go
section
variable{P:Program}{X:Ctx}{K:List au->AV->Prop}{L:List au}
end
def adF(id n:Nat):AV->AV
 |.vec j=>bif j.beq id then .vec n else .vec j|a=>a
def afF(id n:Nat):AV->AV
 |.agg aD=>.agg (aD.map (adF id n))|.vec j=>bif j.beq id then .vec n else .vec j|a=>a
def mvO(id n:Nat):au->au
 |.ak aD e=>.ak (aD.map (adF id n)) e|o=>o
def ap3(s:St)(id:Nat):St:=
 match s.H[id]? with
 |some (.vec c e)=>⟨s.tmps.map (afF id s.H.length),(s.H.map (mvO id s.H.length)).set id .aH++[.vec c e]⟩|_=>s
section
variable{ρ aU:Nat->Value}{H H':a8}{G O O':Nat->Prop}{w w':World}{P:Program}{Z:aZ}{X:Ctx}{s:St}{a:Act}
theorem aja{id n:Nat}{o:au}:(mvO id n o).alive=o.alive:=by cases o<;>rfl
theorem ap4{id n:Nat}{o:au}{c':ba}{e':TypeId}(h:mvO id n o=.vec c' e'):o=.vec c' e':=by
 cases o<;>simp[mvO]at h ⊢;exact h
theorem cq.mv(h:cq X ρ s a w)(id:Nat):∃aU,cq X aU (ap3 s id) a w:=by
 unfold ap3;split;rename_i c e ho;have hs:=h.sat;have br:id<s.H.length:=(List.getElem?_eq_some_iff.1 ho).1;let n:=s.H.length;let aU:Nat->Value:=λj=>if j=n then ρ id else ρ j
 let s':St:=⟨s.tmps.map (afF id n),(s.H.map (mvO id n)).set id .aH++[.vec c e]⟩
 have look:∀j,s'.look j=if j=n then some (.vec c e)else if j=id then some .aH else(s.look j).map (mvO id n):=by
  intro j;show((s.H.map (mvO id n)).set id .aH++[.vec c e])[j]? =_;by_cases hj:j=n;subst hj;rw[if_pos rfl,getElem?_append_right (by simp[n])];simp[n];rw[if_neg hj];by_cases hl:j<n;rw[getElem?_append_left (by simpa[n]using hl),getElem?_set];by_cases hi:id=j;subst hi;simp[br];rw[if_neg hi,if_neg (Ne.symm hi),getElem?_map];rfl;rw[getElem?_eq_none (by simp only[length_append,List.length_set,length_map,List.length_singleton];show n+1<=j;omega),if_neg (by omega)];have:s.look j=none:=getElem?_eq_none (by show n<=j;omega);rw[this];rfl
 have arI:∀{j:Nat} {o:au},s.look j=some o->j<n:=λhj=>(List.getElem?_eq_some_iff.1 hj).1
 have back:∀j o,s'.look j=some o->o.alive=true->∃x,s.look (if j=n then id else j)=some x/\x.alive=true/\aU j=ρ (if j=n then id else j)/\(j≠n->j≠id):=by
  intro j o hj ha;rw[look]at hj;by_cases e1:j=n;rw[if_pos e1];exact⟨.vec c e,ho,rfl,by simp[aU,e1],λh=>absurd e1 h⟩;rw[if_neg e1]at hj ⊢;by_cases e2:j=id;rw[if_pos e2]at hj;cases hj;cases ha;rw[if_neg e2]at hj;obtain⟨o0,h3,rfl⟩:=map_eq_some_iff.1 hj;exact⟨o0,h3,by rw[aja]at ha;exact ha,by simp[aU,e1],λ_=>e2⟩
 have ak:∀b,Own aU s'.look b->Own ρ s.look b:=by
  rintro b ⟨j,o,hj,h1,h2⟩;have⟨x,g1,g2,g3,_⟩:=back j o hj h1;exact⟨_,x,g1,g2,by rw[<-g3];exact h2⟩
 have st:Step ρ s.look (bg ρ s.look X.G) w aU s'.look (bg aU s'.look X.G) w:=by
  refine⟨λj o hj=> ?_,λj o hj=> ?_,λb hb=>.inl (hb.imp (ak b) (λx=>x)),λ_ _ _=>rfl,le_refl _⟩;have:=arI hj;simp only[aU];rw[if_neg (by omega)];have hjn:j≠n:=Nat.ne_of_lt (arI hj);by_cases e1:j=id;exact⟨.aH,by rw[look,if_neg hjn,if_pos e1],λc' e' he=>by cases he⟩;refine⟨mvO id n o,by rw[look,if_neg hjn,if_neg e1,hj];rfl,λc' e' he=> ?_⟩;exact⟨c',e',ap4 he,rfl,rfl⟩
 have awY:s'.look n=some (.vec c e):=by rw[look,if_pos rfl]
 have awZ:aU n=ρ id:=by simp[aU]
 have hi:s.look id=some (.vec c e):=ho
 have aw0:∀{v:Value},aS ρ s.look (bg ρ s.look X.G) w (.vec id) v->aS aU s'.look (bg aU s'.look X.G) w (.vec n) v:=by
  intro v hv;unfold aS at hv ⊢;have⟨h0,o,h1,h2⟩:=hv;rw[hi]at h1;cases h1;exact⟨h0,.vec c e,awY,λc' e' _=>by rw[awZ];exact h2 c e rfl⟩
 have ae2:∀x cs,aX ρ s.look (bg ρ s.look X.G) w x cs->aX aU s'.look (bg aU s'.look X.G) w (adF id n x) cs:=by
  intro x cs hx;have ny:=aX.step st x cs hx;cases x<;>try exact ny
  rename_i j;simp only[adF,cond_eq_ite];split;rename_i hj;have hj:j=id:=by simpa using hj
  subst hj;unfold aX at hx ⊢;obtain⟨u,rfl,hu⟩:=hx;exact⟨u,rfl,aw0 hu⟩;exact ny
 have mK:∀(xs:List AV) cs,aE ρ s.look (bg ρ s.look X.G) w xs cs->aE aU s'.look (bg aU s'.look X.G) w (xs.map (adF id n)) cs:=by
  intro xs
  induction xs with
  |nil=>intro cs hx;exact aG.2 (aG.1 hx)
  |cons x xs ih=>
   intro cs hx;obtain⟨c1,c2,rfl,h1,h2⟩:=aq.1 hx;exact aq.2 ⟨c1,c2,rfl,ae2 _ _ h1,ih _ h2⟩
 have asF:∀x v,ag ρ s.look (bg ρ s.look X.G) w x v->ag aU s'.look (bg aU s'.look X.G) w (afF id n x) v:=by
  intro x v hx;have ny:=ag.step st x v hx;cases x with
  |agg aD=>
   unfold ag at hx;obtain⟨cs,rfl,h1⟩:=hx;show ag _ _ _ _ (.agg _) _;unfold ag;exact⟨cs,rfl,mK _ _ h1⟩
  |vec j=>
   simp only[afF,cond_eq_ite];split;rename_i hj;have hj:j=id:=by simpa using hj
   subst hj;unfold ag at hx ⊢;exact aw0 hx;exact ny
  |_=>exact ny
 refine⟨aU,⟨λj o hj=> ?_,λi j oi oj b h1 h2 h3 h4 h5 h6=> ?_,λb hb=>hs.apart b (ak b hb),hs.low⟩,by rw[<-h.size];exact length_map _,λt=> ?_,h.defers,h.ao.trans st,h.jr,h.kept⟩;have hj:s'.look j=some o:=hj;rw[look]at hj;by_cases e0:j=n;rw[if_pos e0]at hj;cases hj;subst e0;rw[awZ];exact(hs.obj id _ hi).step st (λ_ _ _=>rfl);rw[if_neg e0]at hj;have hr:aU j=ρ j:=by simp[aU,e0]
 rw[hr];by_cases e1:j=id;rw[if_pos e1]at hj;cases hj;trivial;rw[if_neg e1]at hj;obtain⟨o0,h3,rfl⟩:=map_eq_some_iff.1 hj;have ej:=hs.obj j o0 h3;cases o0 with
 |ak aD e1=>
  have⟨b,cells,fr,g1,g2,g3,g4⟩:=ej;exact⟨b,cells,fr,g1,g2,g3,mK _ _ g4⟩
 |_=>exact ej.step st (λ_ _ _=>rfl)
 have⟨x,hx,hxa,hxr,hxi⟩:=back i oi h1 h3;have⟨y,hy,hya,hyr,hyi⟩:=back j oj h2 h4;have:=hs.inj _ _ x y b hx hy hxa hya (by rw[<-hxr];exact h5) (by rw[<-hyr];exact h6);by_cases e1:i=n;by_cases e2:j=n;omega;rw[if_pos e1,if_neg e2]at this;exact absurd this.symm (hyi e2);by_cases e2:j=n;rw[if_neg e1,if_pos e2]at this;exact absurd this (hxi e1);rw[if_neg e1,if_neg e2]at this;exact this
 have e1:(s.tmps.map (afF id n)).getD t (.s .bm)=afF id n (s.tmps.getD t (.s .bm)):=by
  rw[List.getD_eq_getElem?_getD,List.getD_eq_getElem?_getD,getElem?_map];cases s.tmps[t]? <;>rfl
 show ag aU s'.look _ w ((s.tmps.map (afF id n)).getD t (.s .bm)) _;rw[e1];exact asF _ _ (h.den t);exact⟨ρ,h⟩
variable{K:List au->AV->Prop}
theorem qx{f:FuncId}{tmps:List AV}{L:List au}{todo:List Item}{stk:yJ}(id:Nat){c:bQ}(e:(⟨(ap3 ⟨tmps,L⟩ id).tmps,(ap3 ⟨tmps,L⟩ id).H,todo,stk⟩:bQ)=c)(h:Safe P f X K c):Safe P f X K ⟨tmps,L,todo,stk⟩:=by
 subst e;intro G E ρ a w ij iv hr b t fs hw;have⟨aU,r'⟩:=hr.mv id;exact h G E aU a w ij iv r' b t fs hw
end
end Go.Sx
namespace Ts
open Go Go.Sx Go.Proofs Lf
abbrev fL1:FuncId:=54
abbrev fG1:FuncId:=52
abbrev fW1:FuncId:=83
def geE(k:ByteArray)(e:En):Bool:= !slt e.1 k
abbrev sL1:Spec (Int×(Bool×List En×List Br)×ByteArray×List En):=⟨λ(n,(l,es,bs),_,_)=>[az n,sS l es bs,.ptr 0 0,.ptr 1 0],λ(_,_,ao,out)=>[uA ao,.ak [.vec 2] 59,.vec (.ah cE out) Lf.eE],
 λ(_,(_,es,_),_,out)=>[(es:List En).length<=1000,(out:List En).length<=100000000],λ(_,(_,es,_),ao,out)=>[uA ao,.ak [.vec 3] 59,.aH,.vec (.ah cE (out++es.filter (geE ao))) Lf.eE],λ_=>.bd []⟩
def amC:List (Nat×Norm):=[(1,⟨[],[2,3,5],3,[]⟩),(2,⟨[],[2,3,9,10,11],3,[]⟩)]
def ay3(l:Bool)(es:List En)(bs:List Br)(ao:ByteArray)(out:List En):bQ:=⟨sl 24 [(2,.ptr 0 0),(3,.ptr 1 0),(5,.ptr 3 0)],[uA ao,.ak [.vec 2] 59,.vec (.ah cE out) Lf.eE,rD l es bs eN],hr f54 1,{}⟩
def aw1(l:Bool)(es:List En)(bs:List Br)(ao:ByteArray)(out:List En):bQ:=⟨sl 24 [(2,.ptr 0 0),(3,.ptr 1 0),(5,.ptr 3 0)],[uA ao,.ak [.vec 4] 59,.aH,rD l es bs eN,.vec (.ah cE out) Lf.eE],hr f54 1,{}⟩
def cL1(es:List En)(ao:ByteArray)(out:List En)(i:Int):bQ:=⟨sl 24 [(2,.ptr 0 0),(3,.ptr 1 0),(9,.s (.ro (.ah cE es))),(10,az (es.length:Int)),(11,az i)],[uA ao,.ak [.vec 3] 59,.aH,.vec (.ah cE out) Lf.eE],hd f54 2,{}⟩
theorem ay4(n:Int)(l:Bool)(es:List En)(bs:List Br)(ao:ByteArray)(out:List En):run P (aF.sum []) f54 amC (start f54 [az n,sS l es bs,.ptr 0 0,.ptr 1 0] [uA ao,.ak [.vec 2] 59,.vec (.ah cE out) Lf.eE])=
 Tree.at (ay3 l es bs ao out):=by kernel_rfl
theorem ay5(l:Bool)(es:List En)(bs:List Br)(ao:ByteArray)(out:List En):run P (aF.sum []) f54 amC (aw1 l es bs ao out)=
 Tree.at (cL1 es ao out 0):=by kernel_rfl
theorem aw2(es:List En)(ao:ByteArray)(out:List En)(i:Int):run P (aF.sum []) f54 amC (cL1 es ao out i)=
 Tree.ite (decide (i<es.length)) (.ab ((0:Int)<=i) (.ab (i<es.length) (.ite (!slt (es.getD i.toNat (CL.d cE)).fst ao) (.ab ((out.length+1)*(32:Nat)<=140737488355328) (.ab (aw (i+1)) (.at (cL1 es ao (out++[((es.getD i.toNat (CL.d cE)).fst,(es.getD i.toNat (CL.d cE)).snd.fst,())]) (i+1))))) (.ab (aw (i+1)) (.at (cL1 es ao out (i+1))))))) (.ret [.ak [.s (.str ao)] 9,.ak [.vec 3] 59,.aH,.vec (.ah cE out) 66] (.bd [])):=by kernel_rfl
theorem adG{α:Type}{p:α->Bool}{l:List α}{k:Nat}{d:α}(h:k<l.length):(l.take (k+1)).filter p=(l.take k).filter p++(if p (l.getD k d)=true then [l.getD k d]else []):=by
 rw[<-iJ (d:=d) h,List.filter_append];congr 1;cases h2:p (l.getD k d);rw[List.filter_cons_of_neg (by rw[h2];simp)];rfl;rw[List.filter_cons_of_pos h2];rfl
theorem filter_le{α:Type}(p:α->Bool)(l:List α):(l.filter p).length<=l.length:=List.length_filter_le _ _
theorem amD{Z:aZ}:fD P Z 54 sL1:=by
 refine fS func54 ?_;rintro⟨n,⟨l,es,bs⟩,ao,out⟩ ⟨(he:es.length<=1000),(ho:out.length<=100000000),_⟩ X hX hz
 have hm:∀y∈amC,([uA ao,.ak [.vec 2] 59,.vec (.ah cE out) Lf.eE]:List au).length<=y.2.m:=λy hy=>by
  simp only[amC,mem_cons,List.not_mem_nil,or_false]at hy;rcases hy with rfl|rfl<;>exact le_refl _
 have loop:∀(j k:Nat),k+j=es.length->Safe P 54 X (fq sL1 (n,(l,es,bs),ao,out)) (cL1 es ao (out++(es.take k).filter (geE ao)) (k:Int)):=by
  intro j
  induction j with
  |zero=>
   intro k hk;refine Ds.cA hz hX hm aF.Ok.nil func54 (aw2 es ao _ k) ⟨λh=>absurd (of_decide_eq_true h) (by omega),λh=> ?_⟩;rw[take_of_length_le (by omega)];exact bK 3 rfl (le_refl _) rfl rfl
  |succ j ih=>
   intro k hk;have e:=adG (p:=geE ao) (l:=es) (k:=k) (d:=dE) (by omega);have hl:=filter_le (geE ao) (es.take k);rw[length_take]at hl;refine Ds.cA hz hX hm aF.Ok.nil func54 (aw2 es ao _ k) ⟨λh=>⟨by omega,by omega,λhg=>⟨?_,⟨by omega,by omega⟩, ?_⟩,λhg=>⟨⟨by omega,by omega⟩, ?_⟩⟩,λh=>absurd (of_decide_eq_false h) (by omega)⟩;show(_+1)*32<=140737488355328;rw[length_append];omega;have hg:geE ao (es.getD k dE)=true:=hg;rw[if_pos hg]at e;have:=ih (k+1) (by omega);rw[e,<-append_assoc]at this;exact this;have hg:geE ao (es.getD k dE)=false:=hg;rw[if_neg (by rw[hg];simp),append_nil]at e;have:=ih (k+1) (by omega);rw[e]at this;exact this
 refine Ds.cA hz hX hm aF.Ok.nil func54 (ay4 n l es bs ao out) ?_;refine qx 2 (c:=aw1 l es bs ao out) rfl ?_;refine Ds.cA hz hX hm aF.Ok.nil func54 (ay5 l es bs ao out) ?_;have:=loop es.length 0 (by omega);rw[List.take_zero,List.filter_nil,append_nil]at this;exact this
def ng{σ:Type}(g:Ws->σ->Int->Ws×σ×Int):List Br->Ws->σ->Ws×σ×Int
 |[],met,out=>(met,out,0)|b::r,met,out=>if(g met out b.2.1).2.2≠0 then g met out b.2.1 else ng g r (g met out b.2.1).1 (g met out b.2.1).2.1
def c9{σ:Type}(on:σ->Int->List En->σ)(th:Th)(m:As):Nat->Int->Ws->σ->Int->Ws×σ×Int
 |0,_,met,out,_=>(met,out,4)|f+1,ad,met,out,n=>
  if fE th m n ad≠0 then(met,out,fE th m n ad)
  else if Bx.lL met n=true then(met,out,4)
  else ng (c9 on th m f (ad+1)) (bc th m n ad) (Bx.cU met n) (on out n (bY th m n ad))
def ui(ao:ByteArray)(out:List En)(_:Int)(es:List En):List En:=out++es.filter (geE ao)
def xO(out:Ws)(n:Int)(_:List En):Ws:=Bx.cU out n
def tc(ws:Ws):Nat:=(Bx.sZ ws).length
abbrev tT1:TypeId:=33
abbrev tOn:TypeId:=118
abbrev tVi:TypeId:=150
abbrev eSt:TypeId:=37
abbrev eLE:TypeId:=59
abbrev sG1:Spec (Int×(Bool×List En×List Br)×Ws):=⟨λ(n,(l,es,bs),_)=>[az n,sS l es bs,.ptr 0 0],λ(_,_,out)=>[.ak [.af .u64 16 out] eSt],λ_=>[],λ(n,_,out)=>[.ak [.af .u64 16 (Bx.cU out n)] eSt],λ_=>.bd []⟩
def mL1:List AV->RM ((Int×(Bool×List En×List Br)×ByteArray×List En)×List Nat)
 |[n,x,.ptr a 0,.ptr b 0]=>match n.cD,apr x with
  |some (_,_,n),some nd=>.look a λo=>match o with
   |some (.ak [.s (.str ao)] _)=>.look b λo=>match o with
    |some (.ak [.vec r] _)=>.look r λo=>match o with
     |some (.vec (.ah [.str,.str] out) _)=>.ret ((n,nd,ao,out),[a,b,r])|_=>.fail ""
    |_=>.fail ""
   |_=>.fail ""
  |_,_=>.fail ""
 |_=>.fail ""
def mG1:List AV->RM ((Int×(Bool×List En×List Br)×Ws)×List Nat)
 |[n,x,.ptr a 0]=>match n.cD,apr x with
  |some (_,_,n),some nd=>.look a λo=>match o with
   |some (.ak [.af .u64 16 out] _)=>.ret ((n,nd,out),[a])|_=>.fail ""
  |_,_=>.fail ""
 |_=>.fail ""
def ap5(th:Th)(m:As)(f:Nat)(ad:Int)(met:Ws)(ao:ByteArray)(out:List En)(n:Int):Ws:=(c9 (ui ao) th m f ad met out n).1
def ap6(th:Th)(m:As)(f:Nat)(ad:Int)(met:Ws)(ao:ByteArray)(out:List En)(n:Int):List En:=(c9 (ui ao) th m f ad met out n).2.1
def ap7(th:Th)(m:As)(f:Nat)(ad:Int)(met:Ws)(ao:ByteArray)(out:List En)(n:Int):Int:=(c9 (ui ao) th m f ad met out n).2.2
abbrev XVL:Type:=XT×Int×Int×Ws×ByteArray×List En
abbrev hVL(th:Th)(m:As)(fu aa:Int)(fr fs gn met:Ws):List au:=hT th m fu aa fr fs gn++[.ak [.ptr 0 0] tT1,.ak [.af .u64 16 met] eSt,.ak [.fn fL1 [.ptr 8 0,.ptr 9 0]] tOn,.ak [.fn fW1 [.ptr 4 0,.ptr 5 0,.ptr 6 0,.ptr 7 0]] tVi]
abbrev adH(f:Nat):Spec XVL:=⟨λ(_,n,ad,_)=>[az n,az ad,.ptr 4 0,.ptr 5 0,.ptr 6 0,.ptr 7 0],λ((th,m,fu,aa,fr,fs,gn),_,_,met,ao,out)=>hVL th m fu aa fr fs gn met++[uA ao,.ak [.vec 10] eLE,.vec (.ah cE out) Lf.eE],
 λ((th,m,fu,_),n,ad,met,_,out)=>[Ds.cf th m fu,0<=n/\n<=65536,1<=ad/\ad<=17,18<=ad+(f:Int),Bx.okW met,List.length (α:=En) out<=126*tc met],
 λ((th,m,fu,aa,fr,fs,gn),n,ad,met,ao,out)=>hVL th m fu aa fr fs gn (ap5 th m f ad met ao out n)++[uA ao,.ak [.vec 11] eLE,.aH,.vec (.ah cE (ap6 th m f ad met ao out n)) Lf.eE],
 λ((th,m,_),n,ad,met,ao,out)=>az (ap7 th m f ad met ao out n)⟩
def ap8:List AV->RM (XVL×List Nat)
 |[n,d,.ptr a 0,.ptr b 0,.ptr c 0,.ptr v 0]=>match n.cD,d.cD with
  |some (_,_,n),some (_,_,d)=>.look a λo=>match o with
   |some (.ak [.ptr t 0] _)=>(mT [.ptr t 0]).bind λ(X,σ)=>.look b λo=>match o with
    |some (.ak [.af .u64 16 met] _)=>.look c λo=>match o with
     |some (.ak [.fn _ [.ptr p 0,.ptr q 0]] _)=>.look p λo=>match o with
      |some (.ak [.s (.str ao)] _)=>.look q λo=>match o with
       |some (.ak [.vec r] _)=>.look r λo=>match o with
        |some (.vec (.ah [.str,.str] out) _)=>.ret ((X,n,d,met,ao,out),σ++[a,b,c,v,p,q,r])|_=>.fail ""
       |_=>.fail ""
      |_=>.fail ""
     |_=>.fail ""
    |_=>.fail ""
   |_=>.fail ""
  |_,_=>.fail ""
 |_=>.fail ""
def abj(f:Nat):aF:=[(44,zq),(84,atW),(34,adg),(fL1,cu sL1 mL1),(fW1,cu (adH f) ap8)]
def ahg:List (Nat×Norm):=[(9,⟨[],[1,5,35,36,37],11,[]⟩)]
def ap9(th:Th)(m:As)(fu aa:Int)(fr fs gn met:Ws)(ao:ByteArray)(out:List En)(bs:List Br)(ad i:Int):bQ:=⟨sl 51 [(1,az ad),(5,.ptr 7 0),(35,.s (.ro (.ah cB bs))),(36,az (bs.length:Int)),(37,az i)],hVL th m fu aa fr fs gn met++[uA ao,.ak [.vec 11] eLE,.aH,.vec (.ah cE out) Lf.eE],hd f83 9,{}⟩
def aqa(th:Th)(m:As)(f:Nat)(ad:Int)(met:Ws)(out:Ws)(n:Int):Ws:=(c9 xO th m f ad met out n).1
def aqb(th:Th)(m:As)(f:Nat)(ad:Int)(met:Ws)(out:Ws)(n:Int):Ws:=(c9 xO th m f ad met out n).2.1
def aqc(th:Th)(m:As)(f:Nat)(ad:Int)(met:Ws)(out:Ws)(n:Int):Int:=(c9 xO th m f ad met out n).2.2
abbrev XVG:Type:=XT×Int×Int×Ws×Ws
abbrev hVG(th:Th)(m:As)(fu aa:Int)(fr fs gn met:Ws):List au:=hT th m fu aa fr fs gn++[.ak [.ptr 0 0] tT1,.ak [.af .u64 16 met] eSt,.ak [.fn fG1 [.ptr 8 0]] tOn,.ak [.fn fW1 [.ptr 4 0,.ptr 5 0,.ptr 6 0,.ptr 7 0]] tVi]
abbrev adI(f:Nat):Spec XVG:=⟨λ(_,n,ad,_)=>[az n,az ad,.ptr 4 0,.ptr 5 0,.ptr 6 0,.ptr 7 0],λ((th,m,fu,aa,fr,fs,gn),_,_,met,out)=>hVG th m fu aa fr fs gn met++[.ak [.af .u64 16 out] eSt],
 λ((th,m,fu,_),n,ad,met,out)=>[Ds.cf th m fu,0<=n/\n<=65536,1<=ad/\ad<=17,18<=ad+(f:Int),Bx.okW met,0<=0],
 λ((th,m,fu,aa,fr,fs,gn),n,ad,met,out)=>hVG th m fu aa fr fs gn (aqa th m f ad met out n)++[.ak [.af .u64 16 (aqb th m f ad met out n)] eSt],
 λ((th,m,_),n,ad,met,out)=>az (aqc th m f ad met out n)⟩
def aqd:List AV->RM (XVG×List Nat)
 |[n,d,.ptr a 0,.ptr b 0,.ptr c 0,.ptr v 0]=>match n.cD,d.cD with
  |some (_,_,n),some (_,_,d)=>.look a λo=>match o with
   |some (.ak [.ptr t 0] _)=>(mT [.ptr t 0]).bind λ(X,σ)=>.look b λo=>match o with
    |some (.ak [.af .u64 16 met] _)=>.look c λo=>match o with
     |some (.ak [.fn _ [.ptr p 0]] _)=>.look p λo=>match o with
      |some (.ak [.af .u64 16 out] _)=>.ret ((X,n,d,met,out),σ++[a,b,c,v,p])|_=>.fail ""
     |_=>.fail ""
    |_=>.fail ""
   |_=>.fail ""
  |_,_=>.fail ""
 |_=>.fail ""
def abk(f:Nat):aF:=[(44,zq),(84,atW),(34,adg),(fG1,cu sG1 mG1),(fW1,cu (adI f) aqd)]
def ahh:List (Nat×Norm):=[(9,⟨[],[1,5,35,36,37],9,[]⟩)]
def aqe(th:Th)(m:As)(fu aa:Int)(fr fs gn met:Ws)(out:Ws)(bs:List Br)(ad i:Int):bQ:=⟨sl 51 [(1,az ad),(5,.ptr 7 0),(35,.s (.ro (.ah cB bs))),(36,az (bs.length:Int)),(37,az i)],hVG th m fu aa fr fs gn met++[.ak [.af .u64 16 out] eSt],hd f83 9,{}⟩
theorem ay6(n:Int)(l:Bool)(es:List En)(bs:List Br)(out:Ws):run P (aF.sum [(34,adg)]) f52 [] (start f52 [az n,sS l es bs,.ptr 0 0] [.ak [.af .u64 16 out] eSt])=
 Tree.ret [.ak [.af .u64 16 (Bx.cU out n)] 37,.ak [.s (.bool l),.s (.ro (.ah cE es)),.s (.ro (.ah cB bs))] 99] (.bd []):=by kernel_rfl
theorem aw3(f:Nat)(th:Th)(m:As)(fu aa:Int)(fr fs gn met:Ws)(ao:ByteArray)(out:List En)(n ad:Int):run P (abj f).sum f83 ahg (start f83 [az n,az ad,.ptr 4 0,.ptr 5 0,.ptr 6 0,.ptr 7 0] (hVL th m fu aa fr fs gn met++[uA ao,.ak [.vec 11] eLE,.aH,.vec (.ah cE out) Lf.eE]))=
 Tree.ab (bD (some [AV.ptr 0 0,az n,az ad])) (.ab (bD (some (hT th m fu aa fr fs gn))) (.ab (Ds.cf th m fu) (.ab (aw n) (.ite (fE th m n ad !=0) (.ret (hT th m fu aa fr fs gn++[.ak [.ptr 0 0] 33,.ak [.af .u64 16 met] 37,.ak [.fn 54 [.ptr 8 0,.ptr 9 0]] 118,.ak [.fn 83 [.ptr 4 0,.ptr 5 0,.ptr 6 0,.ptr 7 0]] 150,.ak [.s (.str ao)] 9,.ak [.vec 11] 59,.aH,.vec (.ah cE out) 66,.ak [.s (.bool (jF th m n ad)),.s (.ro (.ah cE (bY th m n ad))),.s (.ro (.ah cB (bc th m n ad)))] 99]) (az (fE th m n ad))) (.ite (Bx.lL met n) (.ret (hT th m fu aa fr fs gn++[.ak [.ptr 0 0] 33,.ak [.af .u64 16 met] 37,.ak [.fn 54 [.ptr 8 0,.ptr 9 0]] 118,.ak [.fn 83 [.ptr 4 0,.ptr 5 0,.ptr 6 0,.ptr 7 0]] 150,.ak [.s (.str ao)] 9,.ak [.vec 11] 59,.aH,.vec (.ah cE out) 66,.ak [.s (.bool (jF th m n ad)),.s (.ro (.ah cE (bY th m n ad))),.s (.ro (.ah cB (bc th m n ad)))] 99]) (.s (.aO .i64 4))) (.ab (bD (some [az n,.agg [.s (.bool (jF th m n ad)),.s (.ro (.ah cE (bY th m n ad))),.s (.ro (.ah cB (bc th m n ad)))],.ptr 0 0,.ptr 1 0])) (.ab (bD (some [au.ak [.s (.str ao)] 9,.ak [.vec 2] 59,.vec (.ah cE out) 66])) (.ab ((bY th m n ad).length<=1000) (.ab (out.length<=100000000) (.at (ap9 th m fu aa fr fs gn (Bx.cU met n) ao (out++List.filter (geE ao) (bY th m n ad)) (bc th m n ad) ad 0))))))))))):=by kernel_rfl
theorem arJ(f:Nat)(th:Th)(m:As)(fu aa:Int)(fr fs gn met:Ws)(ao:ByteArray)(out:List En)(bs:List Br)(ad i:Int):run P (abj f).sum f83 ahg (ap9 th m fu aa fr fs gn met ao out bs ad i)=
 Tree.ite (decide (i<bs.length)) (.ab ((0:Int)<=i) (.ab (i<bs.length) (.ab (aw (ad+1)) (.ab (bD (some [az ((bs.getD i.toNat (CL.d cB)).snd.fst),az (ad+1),.ptr 4 0,.ptr 5 0,.ptr 6 0,.ptr 7 0])) (.ab (bD (some (hT th m fu aa fr fs gn++[.ak [.ptr 0 0] 33,.ak [.af .u64 16 met] 37,.ak [.fn 54 [.ptr 8 0,.ptr 9 0]] 118,.ak [.fn 83 [.ptr 4 0,.ptr 5 0,.ptr 6 0,.ptr 7 0]] 150,.ak [.s (.str ao)] 9,.ak [.vec 10] 59,.vec (.ah cE out) 66]))) (.ab (Ds.cf th m fu) (.ab ((0:Int)<=(bs.getD i.toNat (CL.d cB)).snd.fst/\(bs.getD i.toNat (CL.d cB)).snd.fst<=65536) (.ab ((1:Int)<=ad+1/\ad+1<=17) (.ab ((18:Int)<=ad+1+(↑f:Int)) (.ab (Bx.okW met) (.ab (out.length<=(126:Nat)*tc met) (.ite (ap7 th m f (ad+1) met ao out (bs.getD i.toNat (CL.d cB)).snd.fst !=0) (.ret (hT th m fu aa fr fs gn++[.ak [.ptr 0 0] 33,.ak [.af .u64 16 (ap5 th m f (ad+1) met ao out (bs.getD i.toNat (CL.d cB)).snd.fst)] 37,.ak [.fn 54 [.ptr 8 0,.ptr 9 0]] 118,.ak [.fn 83 [.ptr 4 0,.ptr 5 0,.ptr 6 0,.ptr 7 0]] 150,.ak [.s (.str ao)] 9,.ak [.vec 13] 59,.aH,.aH,.ak [.s (.str (bs.getD i.toNat (CL.d cB)).fst),az ((bs.getD i.toNat (CL.d cB)).snd.fst)] 105,.vec (.ah cE (ap6 th m f (ad+1) met ao out (bs.getD i.toNat (CL.d cB)).snd.fst)) 66]) (az (ap7 th m f (ad+1) met ao out (bs.getD i.toNat (CL.d cB)).snd.fst))) (.ab (aw (i+1)) (.at (ap9 th m fu aa fr fs gn (ap5 th m f (ad+1) met ao out (bs.getD i.toNat (CL.d cB)).snd.fst) ao (ap6 th m f (ad+1) met ao out (bs.getD i.toNat (CL.d cB)).snd.fst) bs ad (i+1)))))))))))))))) (.ret (hT th m fu aa fr fs gn++[.ak [.ptr 0 0] 33,.ak [.af .u64 16 met] 37,.ak [.fn 54 [.ptr 8 0,.ptr 9 0]] 118,.ak [.fn 83 [.ptr 4 0,.ptr 5 0,.ptr 6 0,.ptr 7 0]] 150,.ak [.s (.str ao)] 9,.ak [.vec 11] 59,.aH,.vec (.ah cE out) 66]) (.s (.aO .i64 0))):=by kernel_rfl
theorem aw4(f:Nat)(th:Th)(m:As)(fu aa:Int)(fr fs gn met:Ws)(out:Ws)(n ad:Int):run P (abk f).sum f83 ahh (start f83 [az n,az ad,.ptr 4 0,.ptr 5 0,.ptr 6 0,.ptr 7 0] (hVG th m fu aa fr fs gn met++[.ak [.af .u64 16 out] eSt]))=
 Tree.ab (bD (some [AV.ptr 0 0,az n,az ad])) (.ab (bD (some (hT th m fu aa fr fs gn))) (.ab (Ds.cf th m fu) (.ab (aw n) (.ite (fE th m n ad !=0) (.ret (hT th m fu aa fr fs gn++[.ak [.ptr 0 0] 33,.ak [.af .u64 16 met] 37,.ak [.fn 52 [.ptr 8 0]] 118,.ak [.fn 83 [.ptr 4 0,.ptr 5 0,.ptr 6 0,.ptr 7 0]] 150,.ak [.af .u64 16 out] 37,.ak [.s (.bool (jF th m n ad)),.s (.ro (.ah cE (bY th m n ad))),.s (.ro (.ah cB (bc th m n ad)))] 99]) (az (fE th m n ad))) (.ite (Bx.lL met n) (.ret (hT th m fu aa fr fs gn++[.ak [.ptr 0 0] 33,.ak [.af .u64 16 met] 37,.ak [.fn 52 [.ptr 8 0]] 118,.ak [.fn 83 [.ptr 4 0,.ptr 5 0,.ptr 6 0,.ptr 7 0]] 150,.ak [.af .u64 16 out] 37,.ak [.s (.bool (jF th m n ad)),.s (.ro (.ah cE (bY th m n ad))),.s (.ro (.ah cB (bc th m n ad)))] 99]) (.s (.aO .i64 4))) (.ab (bD (some [az n,.agg [.s (.bool (jF th m n ad)),.s (.ro (.ah cE (bY th m n ad))),.s (.ro (.ah cB (bc th m n ad)))],.ptr 0 0])) (.ab (bD (some [au.ak [.af .u64 16 out] 37])) (.at (aqe th m fu aa fr fs gn (Bx.cU met n) (Bx.cU out n) (bc th m n ad) ad 0))))))))):=by kernel_rfl
theorem arK(f:Nat)(th:Th)(m:As)(fu aa:Int)(fr fs gn met:Ws)(out:Ws)(bs:List Br)(ad i:Int):run P (abk f).sum f83 ahh (aqe th m fu aa fr fs gn met out bs ad i)=
 Tree.ite (decide (i<bs.length)) (.ab ((0:Int)<=i) (.ab (i<bs.length) (.ab (aw (ad+1)) (.ab (bD (some [az ((bs.getD i.toNat (CL.d cB)).snd.fst),az (ad+1),.ptr 4 0,.ptr 5 0,.ptr 6 0,.ptr 7 0])) (.ab (bD (some (hT th m fu aa fr fs gn++[.ak [.ptr 0 0] 33,.ak [.af .u64 16 met] 37,.ak [.fn 52 [.ptr 8 0]] 118,.ak [.fn 83 [.ptr 4 0,.ptr 5 0,.ptr 6 0,.ptr 7 0]] 150,.ak [.af .u64 16 out] 37]))) (.ab (Ds.cf th m fu) (.ab ((0:Int)<=(bs.getD i.toNat (CL.d cB)).snd.fst/\(bs.getD i.toNat (CL.d cB)).snd.fst<=65536) (.ab ((1:Int)<=ad+1/\ad+1<=17) (.ab ((18:Int)<=ad+1+(↑f:Int)) (.ab (Bx.okW met) (.ab ((0:Nat)<=0) (.ite (aqc th m f (ad+1) met out (bs.getD i.toNat (CL.d cB)).snd.fst !=0) (.ret (hT th m fu aa fr fs gn++[.ak [.ptr 0 0] 33,.ak [.af .u64 16 (aqa th m f (ad+1) met out (bs.getD i.toNat (CL.d cB)).snd.fst)] 37,.ak [.fn 52 [.ptr 8 0]] 118,.ak [.fn 83 [.ptr 4 0,.ptr 5 0,.ptr 6 0,.ptr 7 0]] 150,.ak [.af .u64 16 (aqb th m f (ad+1) met out (bs.getD i.toNat (CL.d cB)).snd.fst)] 37,.ak [.s (.str (bs.getD i.toNat (CL.d cB)).fst),az ((bs.getD i.toNat (CL.d cB)).snd.fst)] 105]) (az (aqc th m f (ad+1) met out (bs.getD i.toNat (CL.d cB)).snd.fst))) (.ab (aw (i+1)) (.at (aqe th m fu aa fr fs gn (aqa th m f (ad+1) met out (bs.getD i.toNat (CL.d cB)).snd.fst) (aqb th m f (ad+1) met out (bs.getD i.toNat (CL.d cB)).snd.fst) bs ad (i+1)))))))))))))))) (.ret (hT th m fu aa fr fs gn++[.ak [.ptr 0 0] 33,.ak [.af .u64 16 met] 37,.ak [.fn 52 [.ptr 8 0]] 118,.ak [.fn 83 [.ptr 4 0,.ptr 5 0,.ptr 6 0,.ptr 7 0]] 150,.ak [.af .u64 16 out] 37]) (.s (.aO .i64 0))):=by kernel_rfl
theorem amE{ws:Ws}(hw:Bx.okW ws){n:Int}(hn:0<=n/\n<1024)(h:Bx.lL ws n=false):tc (Bx.cU ws n)=tc ws+1:=by
 have hb:Bx.bit ws n.toNat=false:=by
  rw[Bx.aa8 hw,decide_eq_true hn,Bool.true_and]at h;exact h
 have⟨_,h2⟩:=Bx.gx hw n;unfold tc Bx.sZ
 have key:∀m,m<=1024->(Bx.fr (Bx.bit (Bx.cU ws n)) m).length=(Bx.fr (Bx.bit ws) m).length+(if n.toNat<m then 1 else 0):=by
  intro m
  induction m with
  |zero=>intro _;rfl
  |succ m ih=>
   intro hm;rw[Bx.u7,Bx.u7,length_append,length_append,ih (by omega),h2 m (by omega)]
   have hd:decide (n=(m:Int))=decide (n.toNat=m):=by
    by_cases e:n.toNat=m;rw[decide_eq_true e,decide_eq_true (by omega)];rw[decide_eq_false e,decide_eq_false (by omega)]
   rw[hd];by_cases e:n.toNat=m;subst e;have c1:¬n.toNat<n.toNat:=by omega
   have c2:n.toNat<n.toNat+1:=by omega
   rw[hb,decide_eq_true rfl,if_neg c1,if_pos c2];rfl;rw[decide_eq_false e,Bool.or_false];by_cases e2:n.toNat<m;have c2:n.toNat<m+1:=by omega
   rw[if_pos e2,if_pos c2];omega;have c2:¬n.toNat<m+1:=by omega
   rw[if_neg e2,if_neg c2];omega
 have:=key 1024 (le_refl _);have c:n.toNat<1024:=by omega
 rw[this,if_pos c]
theorem auj(ws:Ws):tc ws<=1024:=Bx.s6 _ _
theorem amF{th:Th}{m:As}{fu n ad:Int}(hd:Ds.cf th m fu)(h:fE th m n ad=0):0<=n/\n<1024:=by
 have hp:Ds.pOk th n=true:=by
  unfold fE at h;split at h;cases h;split at h;rename_i hg;unfold Ds.nr at hg;split at hg;assumption;cases hg;rename_i hg;exact absurd h hg
 have⟨a,b⟩:=Ds.dW.1 hp;have:=hd.1.1;unfold Ds.tV at b;have e:((th.length:Int)).tdiv 4=(th.length:Int) / 4:=Int.tdiv_eq_ediv_of_nonneg (by omega);rw[e]at b;omega
theorem xv{σ:Type}{g:Ws->σ->Int->Ws×σ×Int}{I:Ws->σ->Prop}(hg:∀met out n,I met out->I (g met out n).1 (g met out n).2.1):∀(l:List Br) (met:Ws) (out:σ),I met out->I (ng g l met out).1 (ng g l met out).2.1
 |[],met,out,h=>h|b::r,met,out,h=>by
  rw[ng];split;exact hg _ _ _ h;exact xv hg r _ _ (hg _ _ _ h)
theorem ahi(ao:ByteArray){th:Th}{m:As}{fu n ad:Int}{met:Ws}{out:List En}(hd:Ds.cf th m fu)(h:fE th m n ad=0)(hw:Bx.okW met)(h3:Bx.lL met n=false)(ho:List.length (α:=En) out<=126*tc met):
 Bx.okW (Bx.cU met n)/\List.length (α:=En) (ui ao out n (bY th m n ad))<=126*tc (Bx.cU met n):=by
 refine⟨(Bx.gx hw n).1, ?_⟩;rw[amE hw (amF hd h) h3];unfold ui;rw[length_append];have:=filter_le (geE ao) (bY th m n ad);have⟨_,n1,_⟩:=eu h;omega
theorem ahj(ao:ByteArray){th:Th}{m:As}{fu:Int}(hd:Ds.cf th m fu):∀(f:Nat) (ad:Int) (met:Ws) (out:List En) (n:Int),Bx.okW met->List.length (α:=En) out<=126*tc met->
 Bx.okW (c9 (ui ao) th m f ad met out n).1/\List.length (α:=En) (c9 (ui ao) th m f ad met out n).2.1<=126*tc (c9 (ui ao) th m f ad met out n).1
 |0,ad,met,out,n,hw,ho=>⟨hw,ho⟩|f+1,ad,met,out,n,hw,ho=>by
  rw[c9];split;exact⟨hw,ho⟩;rename_i h;split;exact⟨hw,ho⟩;rename_i h3;have h3:Bx.lL met n=false:=by simpa using h3
  exact xv (I:=λmet out=>Bx.okW met/\List.length (α:=En) out<=126*tc met) (λmet out n hi=>ahj ao hd f (ad+1) met out n hi.1 hi.2) _ _ _ (ahi ao hd (by simpa using h) hw h3 ho)
theorem ahk{th:Th}{m:As}{fu n ad:Int}{met:Ws}(hd:Ds.cf th m fu)(h:fE th m n ad=0)(hw:Bx.okW met)(h3:Bx.lL met n=false)(ho:0<=0):Bx.okW (Bx.cU met n)/\0<=0:=⟨(Bx.gx hw n).1,ho⟩
theorem ahl{th:Th}{m:As}{fu:Int}(hd:Ds.cf th m fu):∀(f:Nat) (ad:Int) (met:Ws) (out:Ws) (n:Int),Bx.okW met->0<=0->Bx.okW (c9 xO th m f ad met out n).1/\0<=0
 |0,ad,met,out,n,hw,ho=>⟨hw,ho⟩|f+1,ad,met,out,n,hw,ho=>by
  rw[c9];split;exact⟨hw,ho⟩;rename_i h;split;exact⟨hw,ho⟩;rename_i h3;have h3:Bx.lL met n=false:=by simpa using h3
  exact xv (I:=λmet out=>Bx.okW met/\0<=0) (λmet out n hi=>ahl hd f (ad+1) met out n hi.1 hi.2) _ _ _ (ahk hd (by simpa using h) hw h3 ho)
theorem ajb{Z:aZ}:fD P Z 52 sG1:=by
 refine fS func52 ?_;rintro⟨n,⟨l,es,bs⟩,out⟩ _ X hX hz;exact Ds.cA hz hX (by intro y hy;cases hy) (aF.Ok.cons Bx.pb.sum aF.Ok.nil) func52 (ay6 n l es bs out) (bK 1 rfl (le_refl _) rfl rfl)
theorem fvL{th:Th}{m:As}{fu aa:Int}{fr fs gn met:Ws}{ao:ByteArray}{out:List En}{n ad:Int}{f:Nat}{c:Ws×List En×Int}(e:c9 (ui ao) th m f ad met out n=c):
 (adH f).eG ((th,m,fu,aa,fr,fs,gn),n,ad,met,ao,out)=hVL th m fu aa fr fs gn c.1++[uA ao,.ak [.vec 11] eLE,.aH,.vec (.ah cE c.2.1) Lf.eE]/\(adH f).out ((th,m,fu,aa,fr,fs,gn),n,ad,met,ao,out)=az c.2.2:=by
 subst e;exact⟨rfl,rfl⟩
theorem ajc{f:Nat}(h:fD P Bx.cw fW1 (adH f)):(abj f).Ok P Bx.cw:=aF.Ok.cons (pe.sum mNo) (aF.Ok.cons Bx.afx.sum (aF.Ok.cons Bx.pb.sum (aF.Ok.cons (amD.sum mL1) (aF.Ok.cons (h.sum ap8) aF.Ok.nil))))
theorem amG{L:List au}(h:L.length=11):∀y∈ahg,L.length<=y.2.m:=λy hy=>by
 simp only[ahg,mem_singleton]at hy;subst hy;exact Nat.le_of_eq h
theorem arL{f:Nat}(T:(abj f).Ok P Bx.cw){th:Th}{m:As}{fu aa:Int}{fr fs gn:Ws}{n ad:Int}{ir:Ws}{ao:ByteArray}{jw:List En}(hd:Ds.cf th m fu)(h1:1<=ad/\ad<=17)(h2:18<=ad+((f+1:Nat):Int))
 {X:Ctx} (hX:X.H=lk ((adH (f+1)).heap ((th,m,fu,aa,fr,fs,gn),n,ad,ir,ao,jw))) (hz:cP Bx.cw X) (h:fE th m n ad=0):
 ∀(j k:Nat) (met:Ws) (out:List En),k+j=(bc th m n ad).length->Bx.okW met->List.length (α:=En) out<=126*tc met->c9 (ui ao) th m (f+1) ad ir jw n=ng (c9 (ui ao) th m f (ad+1)) ((bc th m n ad).drop k) met out->
    Safe P fW1 X (fq (adH (f+1)) ((th,m,fu,aa,fr,fs,gn),n,ad,ir,ao,jw)) (ap9 th m fu aa fr fs gn met ao out (bc th m n ad) ad (k:Int))
 |0,k,met,out,hk,hw,ho,e=>by
  rw[List.drop_of_length_le (by omega)]at e;have⟨f1,f2⟩:=fvL (fu:=fu) (aa:=aa) (fr:=fr) (fs:=fs) (gn:=gn) e;exact Ds.cA hz hX (amG rfl) T func83 (arJ f th m fu aa fr fs gn met ao out (bc th m n ad) ad k) ⟨λh=>absurd (of_decide_eq_true h) (by omega),λ_=>bK 11 rfl (le_refl _) f2 f1⟩
 |j+1,k,met,out,hk,hw,ho,e=>by
  have⟨_,_,n2,_,_,n5,_⟩:=eu h;rw[drop_cons dB (by omega),ng]at e;have pg:=qw h k;have⟨i1,i2⟩:=ahj ao hd f (ad+1) met out ((bc th m n ad).getD k dB).2.1 hw ho;refine Ds.cA hz hX (amG rfl) T func83 (arJ f th m fu aa fr fs gn met ao out (bc th m n ad) ad k) ⟨λ_=>⟨by omega,by omega,inI (by omega) (by omega),rfl,rfl,hd,pg,⟨by omega,by omega⟩,by omega,hw,ho,λh4=> ?_,λh4=>⟨⟨by omega,by omega⟩, ?_⟩⟩,λh=>absurd (of_decide_eq_false h) (by omega)⟩;have h4:(c9 (ui ao) th m f (ad+1) met out ((bc th m n ad).getD k dB).2.1).2.2≠0:=bne_iff_ne.1 h4;rw[if_pos h4]at e;have⟨f1,f2⟩:=fvL (fu:=fu) (aa:=aa) (fr:=fr) (fs:=fs) (gn:=gn) e;exact bK 11 rfl (le_refl _) f2 f1;have h4:¬(c9 (ui ao) th m f (ad+1) met out ((bc th m n ad).getD k dB).2.1).2.2≠0:=λhh=>Bool.false_ne_true (h4.symm.trans (bne_iff_ne.2 hh));rw[if_neg h4]at e;exact arL T hd h1 h2 hX hz h j (k+1) _ _ (by omega) i1 i2 e
theorem zv:∀f,fD P Bx.cw fW1 (adH f)
 |0=>by
  rintro⟨⟨(th:Th),(m:As),(fu:Int),(aa:Int),(fr:Ws),(fs:Ws),(gn:Ws)⟩,(n:Int),(ad:Int),(met:Ws),(ao:ByteArray),(out:List En)⟩ ⟨_,_,(h1:1<=ad/\ad<=17),(h2:18<=ad+((0:Nat):Int)),_⟩;omega
 |f+1=>by
  have T:=ajc (zv f);refine fS func83 ?_;rintro⟨⟨th,m,fu,aa,fr,fs,gn⟩,n,ad,ir,ao,jw⟩ ⟨(hd:Ds.cf th m fu),(hn:0<=n/\n<=65536),(h1:1<=ad/\ad<=17),(h2:18<=ad+((f+1:Nat):Int)),(hw:Bx.okW ir),(ho:List.length (α:=En) jw<=126*tc ir),_⟩ X hX hz;refine qx 10 (c:=start f83 [az n,az ad,.ptr 4 0,.ptr 5 0,.ptr 6 0,.ptr 7 0] (hVL th m fu aa fr fs gn ir++[uA ao,.ak [.vec 11] eLE,.aH,.vec (.ah cE jw) Lf.eE])) rfl ?_;refine Ds.cA hz hX (amG rfl) T func83 (aw3 f th m fu aa fr fs gn ir ao jw n ad) ⟨rfl,rfl,hd,inI (by omega) (by omega),λh=> ?_,λh=>⟨λh3=> ?_,λh3=> ?_⟩⟩;have h:fE th m n ad≠0:=by simpa using h
  have⟨f1,f2⟩:=fvL (fu:=fu) (aa:=aa) (fr:=fr) (fs:=fs) (gn:=gn) (show c9 (ui ao) th m (f+1) ad ir jw n=(ir,jw,fE th m n ad)by rw[c9,if_pos h]);exact bK 11 rfl (le_refl _) f2 f1;have h:fE th m n ad=0:=by simpa using h
  have⟨f1,f2⟩:=fvL (fu:=fu) (aa:=aa) (fr:=fr) (fs:=fs) (gn:=gn) (show c9 (ui ao) th m (f+1) ad ir jw n=(ir,jw,4)by rw[c9,if_neg (by rw[h];simp),if_pos h3]);exact bK 11 rfl (le_refl _) f2 f1;have h:fE th m n ad=0:=by simpa using h
  have⟨_,n1,n2,_,_,_,_⟩:=eu h;have e:c9 (ui ao) th m (f+1) ad ir jw n=ng (c9 (ui ao) th m f (ad+1)) (bc th m n ad) (Bx.cU ir n) ((ui ao) jw n (bY th m n ad)):=by rw[c9,if_neg (by rw[h];simp),if_neg (by rw[h3];simp)]
  have⟨i1,i2⟩:=ahi ao hd h hw h3 ho;exact⟨rfl,rfl,by omega,by have:=auj ir;omega,arL T hd h1 h2 hX hz h _ 0 _ _ (zero_add _) i1 i2 (by rw[List.drop_zero];exact e)⟩
theorem fvG{th:Th}{m:As}{fu aa:Int}{fr fs gn met:Ws}{out:Ws}{n ad:Int}{f:Nat}{c:Ws×Ws×Int}(e:c9 xO th m f ad met out n=c):
 (adI f).eG ((th,m,fu,aa,fr,fs,gn),n,ad,met,out)=hVG th m fu aa fr fs gn c.1++[.ak [.af .u64 16 c.2.1] eSt]/\(adI f).out ((th,m,fu,aa,fr,fs,gn),n,ad,met,out)=az c.2.2:=by
 subst e;exact⟨rfl,rfl⟩
theorem ajd{f:Nat}(h:fD P Bx.cw fW1 (adI f)):(abk f).Ok P Bx.cw:=aF.Ok.cons (pe.sum mNo) (aF.Ok.cons Bx.afx.sum (aF.Ok.cons Bx.pb.sum (aF.Ok.cons (ajb.sum mG1) (aF.Ok.cons (h.sum aqd) aF.Ok.nil))))
theorem amH{L:List au}(h:L.length=9):∀y∈ahh,L.length<=y.2.m:=λy hy=>by
 simp only[ahh,mem_singleton]at hy;subst hy;exact Nat.le_of_eq h
theorem arM{f:Nat}(T:(abk f).Ok P Bx.cw){th:Th}{m:As}{fu aa:Int}{fr fs gn:Ws}{n ad:Int}{ir:Ws}{jw:Ws}(hd:Ds.cf th m fu)(h1:1<=ad/\ad<=17)(h2:18<=ad+((f+1:Nat):Int))
 {X:Ctx} (hX:X.H=lk ((adI (f+1)).heap ((th,m,fu,aa,fr,fs,gn),n,ad,ir,jw))) (hz:cP Bx.cw X) (h:fE th m n ad=0):
 ∀(j k:Nat) (met:Ws) (out:Ws),k+j=(bc th m n ad).length->Bx.okW met->0<=0->c9 xO th m (f+1) ad ir jw n=ng (c9 xO th m f (ad+1)) ((bc th m n ad).drop k) met out->
    Safe P fW1 X (fq (adI (f+1)) ((th,m,fu,aa,fr,fs,gn),n,ad,ir,jw)) (aqe th m fu aa fr fs gn met out (bc th m n ad) ad (k:Int))
 |0,k,met,out,hk,hw,ho,e=>by
  rw[List.drop_of_length_le (by omega)]at e;have⟨f1,f2⟩:=fvG (fu:=fu) (aa:=aa) (fr:=fr) (fs:=fs) (gn:=gn) e;exact Ds.cA hz hX (amH rfl) T func83 (arK f th m fu aa fr fs gn met out (bc th m n ad) ad k) ⟨λh=>absurd (of_decide_eq_true h) (by omega),λ_=>bK 9 rfl (le_refl _) f2 f1⟩
 |j+1,k,met,out,hk,hw,ho,e=>by
  have⟨_,_,n2,_,_,n5,_⟩:=eu h;rw[drop_cons dB (by omega),ng]at e;have pg:=qw h k;have⟨i1,i2⟩:=ahl hd f (ad+1) met out ((bc th m n ad).getD k dB).2.1 hw ho;refine Ds.cA hz hX (amH rfl) T func83 (arK f th m fu aa fr fs gn met out (bc th m n ad) ad k) ⟨λ_=>⟨by omega,by omega,inI (by omega) (by omega),rfl,rfl,hd,pg,⟨by omega,by omega⟩,by omega,hw,ho,λh4=> ?_,λh4=>⟨⟨by omega,by omega⟩, ?_⟩⟩,λh=>absurd (of_decide_eq_false h) (by omega)⟩;have h4:(c9 xO th m f (ad+1) met out ((bc th m n ad).getD k dB).2.1).2.2≠0:=bne_iff_ne.1 h4;rw[if_pos h4]at e;have⟨f1,f2⟩:=fvG (fu:=fu) (aa:=aa) (fr:=fr) (fs:=fs) (gn:=gn) e;exact bK 9 rfl (le_refl _) f2 f1;have h4:¬(c9 xO th m f (ad+1) met out ((bc th m n ad).getD k dB).2.1).2.2≠0:=λhh=>Bool.false_ne_true (h4.symm.trans (bne_iff_ne.2 hh));rw[if_neg h4]at e;exact arM T hd h1 h2 hX hz h j (k+1) _ _ (by omega) i1 i2 e
theorem zw:∀f,fD P Bx.cw fW1 (adI f)
 |0=>by
  rintro⟨⟨(th:Th),(m:As),(fu:Int),(aa:Int),(fr:Ws),(fs:Ws),(gn:Ws)⟩,(n:Int),(ad:Int),(met:Ws),(out:Ws)⟩ ⟨_,_,(h1:1<=ad/\ad<=17),(h2:18<=ad+((0:Nat):Int)),_⟩;omega
 |f+1=>by
  have T:=ajd (zw f);refine fS func83 ?_;rintro⟨⟨th,m,fu,aa,fr,fs,gn⟩,n,ad,ir,jw⟩ ⟨(hd:Ds.cf th m fu),(hn:0<=n/\n<=65536),(h1:1<=ad/\ad<=17),(h2:18<=ad+((f+1:Nat):Int)),(hw:Bx.okW ir),(ho:0<=0),_⟩ X hX hz;refine Ds.cA hz hX (amH rfl) T func83 (aw4 f th m fu aa fr fs gn ir jw n ad) ⟨rfl,rfl,hd,inI (by omega) (by omega),λh=> ?_,λh=>⟨λh3=> ?_,λh3=> ?_⟩⟩;have h:fE th m n ad≠0:=by simpa using h
  have⟨f1,f2⟩:=fvG (fu:=fu) (aa:=aa) (fr:=fr) (fs:=fs) (gn:=gn) (show c9 xO th m (f+1) ad ir jw n=(ir,jw,fE th m n ad)by rw[c9,if_pos h]);exact bK 9 rfl (le_refl _) f2 f1;have h:fE th m n ad=0:=by simpa using h
  have⟨f1,f2⟩:=fvG (fu:=fu) (aa:=aa) (fr:=fr) (fs:=fs) (gn:=gn) (show c9 xO th m (f+1) ad ir jw n=(ir,jw,4)by rw[c9,if_neg (by rw[h];simp),if_pos h3]);exact bK 9 rfl (le_refl _) f2 f1;have h:fE th m n ad=0:=by simpa using h
  have⟨_,n1,n2,_,_,_,_⟩:=eu h;have e:c9 xO th m (f+1) ad ir jw n=ng (c9 xO th m f (ad+1)) (bc th m n ad) (Bx.cU ir n) (xO jw n (bY th m n ad)):=by rw[c9,if_neg (by rw[h];simp),if_neg (by rw[h3];simp)]
  have⟨i1,i2⟩:=ahk hd h hw h3 ho;exact⟨rfl,rfl,arM T hd h1 h2 hX hz h _ 0 _ _ (zero_add _) i1 i2 (by rw[List.drop_zero];exact e)⟩
def wkT{σ:Type}(on:σ->Int->List En->σ)(th:Th)(m:As)(aa:Int)(out:σ):σ×Int:=if aa=0 then(out,0)else((c9 on th m 17 1 Bx.cz out aa).2.1,(c9 on th m 17 1 Bx.cz out aa).2.2)
def lsT(th:Th)(m:As)(aa:Int)(ao:ByteArray):List En:=(wkT (ui ao) th m aa []).1
def lsE(th:Th)(m:As)(aa:Int)(ao:ByteArray):Int:=(wkT (ui ao) th m aa []).2
def pgT(th:Th)(m:As)(aa:Int):Ws:=(wkT xO th m aa Bx.cz).1
def pgE(th:Th)(m:As)(aa:Int):Int:=(wkT xO th m aa Bx.cz).2
def lsF(th:Th)(m:As)(aa:Int)(ao:ByteArray):List En:=if lsE th m aa ao≠0 then []else lsT th m aa ao
def pgF(th:Th)(m:As)(aa:Int):Ws:=if pgE th m aa≠0 then Bx.cz else pgT th m aa
abbrev aqf:Spec XD:=⟨λ_=>[.ptr 0 0,.fn fL1 [.ptr 4 0,.ptr 5 0]],λ((th,m,fu,aa,fr,fs,gn),ao)=>hT th m fu aa fr fs gn++[uA ao,.ak [.vec 6] eLE,.vec (.ah cE []) Lf.eE],
 λ((th,m,fu,aa,_),_)=>[Ds.cf th m fu,0<=aa/\aa<=65536],λ((th,m,fu,aa,fr,fs,gn),ao)=>hT th m fu aa fr fs gn++[uA ao,.ak [.vec 7] eLE,.aH,.vec (.ah cE (lsT th m aa ao)) Lf.eE],λ((th,m,_,aa,_),ao)=>az (lsE th m aa ao)⟩
abbrev aqg:Spec XT:=⟨λ_=>[.ptr 0 0,.fn fG1 [.ptr 4 0]],λ(th,m,fu,aa,fr,fs,gn)=>hT th m fu aa fr fs gn++[.ak [.af .u64 16 Bx.cz] eSt],
 λ(th,m,fu,aa,_)=>[Ds.cf th m fu,0<=aa/\aa<=65536],λ(th,m,fu,aa,fr,fs,gn)=>hT th m fu aa fr fs gn++[.ak [.af .u64 16 (pgT th m aa)] eSt],λ(th,m,_,aa,_)=>az (pgE th m aa)⟩
def auk:aF:=[(fW1,cu (adH 17) ap8)]
def aul:aF:=[(fW1,cu (adI 17) aqd)]
abbrev sLs:Spec XD:=⟨λ(_,ao)=>[.ptr 0 0,.s (.str ao)],λ((th,m,fu,aa,fr,fs,gn),_)=>hT th m fu aa fr fs gn,λ((th,m,fu,aa,_),_)=>[Ds.cf th m fu,0<=aa/\aa<=65536],
 λ((th,m,fu,aa,fr,fs,gn),ao)=>hT th m fu aa fr fs gn++[.vec (.ah cE (lsF th m aa ao)) Lf.eE],λ((th,m,_,aa,_),ao)=>.bd [.vec 4,az (lsE th m aa ao)]⟩
abbrev sPg:Spec XT:=⟨λ_=>[.ptr 0 0],λ(th,m,fu,aa,fr,fs,gn)=>hT th m fu aa fr fs gn,λ(th,m,fu,aa,_)=>[Ds.cf th m fu,0<=aa/\aa<=65536],
 λ(th,m,fu,aa,fr,fs,gn)=>hT th m fu aa fr fs gn,λ(th,m,_,aa,_)=>.bd [.af .u64 16 (pgF th m aa),az (pgE th m aa)]⟩
def aw5:List AV->RM (XD×List Nat)
 |[t,.fn _ [.ptr p 0,.ptr q 0]]=>(mT [t]).bind λ(X,σ)=>.look p λo=>match o with
  |some (.ak [.s (.str ao)] _)=>.look q λo=>match o with
   |some (.ak [.vec r] _)=>.ret ((X,ao),σ++[p,q,r])|_=>.fail ""
  |_=>.fail ""
 |_=>.fail ""
def aw6:List AV->RM (XT×List Nat)
 |[t,.fn _ [.ptr p 0]]=>(mT [t]).bind λ(X,σ)=>.ret (X,σ++[p])|_=>.fail ""
def amI:aF:=[(51,cu aqf aw5)]
def aw7:aF:=[(51,cu aqg aw6)]
def aqh:List (Nat×Norm):=[(4,⟨[],[0,3,6],4,[(5,0,false,.ah cE [],Lf.eE)]⟩)]
def cLs(th:Th)(m:As)(fu aa:Int)(fr fs gn:Ws)(ao:ByteArray):bQ:=⟨sl 17 [(0,.ptr 0 0),(3,.ptr 4 0),(6,.ptr 5 0)],hT th m fu aa fr fs gn++[uA ao,.ak [.vec 6] eLE,.vec (.ah cE []) Lf.eE],hr f28 4,{}⟩
theorem aw8(th:Th)(m:As)(fu aa:Int)(fr fs gn:Ws)(ao:ByteArray):run P auk.sum f51 [] (start f51 [.ptr 0 0,.fn fL1 [.ptr 4 0,.ptr 5 0]] (hT th m fu aa fr fs gn++[uA ao,.ak [.vec 7] eLE,.aH,.vec (.ah cE []) Lf.eE]))=
 Tree.ite (aa==0) (.ret (jm th m fu aa fr fs gn ao++[.ak [.vec 7] 59,.aH,.vec (.ah cE []) 66,.ak [.ptr 0 0] 33,.ak [.fn 54 [.ptr 4 0,.ptr 5 0]] 118,.ak [.af .u64 16 (replicate 16 0)] 37,.ak [.fn 83 [.ptr 8 0,.ptr 10 0,.ptr 9 0,.ptr 11 0]] 150]) (.s (.aO .i64 0))) (.ab (bD (some [az aa,az 1,.ptr 4 0,.ptr 5 0,.ptr 6 0,.ptr 7 0])) (.ab (bD (some (hT th m fu aa fr fs gn++[.ak [.ptr 0 0] 33,.ak [.af .u64 16 (replicate 16 0)] 37,.ak [.fn 54 [.ptr 8 0,.ptr 9 0]] 118,.ak [.fn 83 [.ptr 4 0,.ptr 5 0,.ptr 6 0,.ptr 7 0]] 150,.ak [.s (.str ao)] 9,.ak [.vec 10] 59,.vec (.ah cE []) 66]))) (.ab (Ds.cf th m fu) (.ab ((0:Int)<=aa/\aa<=65536) (.ab ((1:Int)<=1/\(1:Int)<=17) (.ab ((18:Int)<=1+(↑(17:Nat):Int)) (.ab (Bx.okW (replicate 16 0)) (.ab ((0:Nat)<=(126:Nat)*0) (.ret (jm th m fu aa fr fs gn ao++[.ak [.vec 12] 59,.aH,.aH,.ak [.ptr 0 0] 33,.ak [.fn 54 [.ptr 4 0,.ptr 5 0]] 118,.ak [.af .u64 16 (ap5 th m 17 1 (replicate 16 0) ao [] aa)] 37,.ak [.fn 83 [.ptr 8 0,.ptr 10 0,.ptr 9 0,.ptr 11 0]] 150,.vec (.ah cE (ap6 th m 17 1 (replicate 16 0) ao [] aa)) 66]) (az (ap7 th m 17 1 (replicate 16 0) ao [] aa))))))))))):=by kernel_rfl
theorem aw9(th:Th)(m:As)(fu aa:Int)(fr fs gn:Ws):run P aul.sum f51 [] (start f51 [.ptr 0 0,.fn fG1 [.ptr 4 0]] (hT th m fu aa fr fs gn++[.ak [.af .u64 16 Bx.cz] eSt]))=
 Tree.ite (aa==0) (.ret (hT th m fu aa fr fs gn++[.ak [.af .u64 16 Bx.cz] 37,.ak [.ptr 0 0] 33,.ak [.fn 52 [.ptr 4 0]] 118,.ak [.af .u64 16 (replicate 16 0)] 37,.ak [.fn 83 [.ptr 5 0,.ptr 7 0,.ptr 6 0,.ptr 8 0]] 150]) (.s (.aO .i64 0))) (.ab (bD (some [az aa,az 1,.ptr 4 0,.ptr 5 0,.ptr 6 0,.ptr 7 0])) (.ab (bD (some (hT th m fu aa fr fs gn++[.ak [.ptr 0 0] 33,.ak [.af .u64 16 (replicate 16 0)] 37,.ak [.fn 52 [.ptr 8 0]] 118,.ak [.fn 83 [.ptr 4 0,.ptr 5 0,.ptr 6 0,.ptr 7 0]] 150,.ak [.af .u64 16 Bx.cz] 37]))) (.ab (Ds.cf th m fu) (.ab ((0:Int)<=aa/\aa<=65536) (.ab ((1:Int)<=1/\(1:Int)<=17) (.ab ((18:Int)<=1+(↑(17:Nat):Int)) (.ab (Bx.okW (replicate 16 0)) (.ab ((0:Nat)<=0) (.ret (hT th m fu aa fr fs gn++[.ak [.af .u64 16 (aqb th m 17 1 (replicate 16 0) Bx.cz aa)] 37,.ak [.ptr 0 0] 33,.ak [.fn 52 [.ptr 4 0]] 118,.ak [.af .u64 16 (aqa th m 17 1 (replicate 16 0) Bx.cz aa)] 37,.ak [.fn 83 [.ptr 5 0,.ptr 7 0,.ptr 6 0,.ptr 8 0]] 150]) (az (aqc th m 17 1 (replicate 16 0) Bx.cz aa))))))))))):=by kernel_rfl
theorem ay7(th:Th)(m:As)(fu aa:Int)(fr fs gn:Ws)(ao:ByteArray):run P amI.sum f28 aqh (start f28 [.ptr 0 0,.s (.str ao)] (hT th m fu aa fr fs gn))=
 Tree.at (cLs th m fu aa fr fs gn ao):=by kernel_rfl
theorem ay8(th:Th)(m:As)(fu aa:Int)(fr fs gn:Ws)(ao:ByteArray):run P amI.sum f28 aqh (cLs th m fu aa fr fs gn ao)=
 Tree.ab (bD (some [AV.ptr 0 0,.fn 54 [.ptr 4 0,.ptr 5 0]])) (.ab (bD (some (jm th m fu aa fr fs gn ao++[.ak [.vec 6] 59,.vec (.ah cE []) 66]))) (.ab (Ds.cf th m fu) (.ab ((0:Int)<=aa/\aa<=65536) (.ite (lsE th m aa ao !=0) (.ret (jm th m fu aa fr fs gn ao++[.ak [.vec 7] 59,.aH,.vec (.ah cE (lsT th m aa ao)) 66]) (.bd [.emp,az (lsE th m aa ao)])) (.ret (jm th m fu aa fr fs gn ao++[.ak [.vec 7] 59,.aH,.vec (.ah cE (lsT th m aa ao)) 66]) (.bd [.vec 7,.s (.aO .i64 0)])))))):=by kernel_rfl
theorem ay9(th:Th)(m:As)(fu aa:Int)(fr fs gn:Ws):run P aw7.sum f26 [] (start f26 [.ptr 0 0] (hT th m fu aa fr fs gn))=
 Tree.ab (bD (some [AV.ptr 0 0,.fn 52 [.ptr 4 0]])) (.ab (some (hT th m fu aa fr fs gn++[.ak [.af .u64 16 (replicate 16 0)] 37])=some (hT th m fu aa fr fs gn++[.ak [.af .u64 16 Bx.cz] 37])) (.ab (Ds.cf th m fu) (.ab ((0:Int)<=aa/\aa<=65536) (.ite (pgE th m aa !=0) (.ret (hT th m fu aa fr fs gn++[.ak [.af .u64 16 (replicate 16 0)] 37,.ak [.af .u64 16 (pgT th m aa)] 37]) (.bd [.af .u64 16 (replicate 16 0),az (pgE th m aa)])) (.ret (hT th m fu aa fr fs gn++[.ak [.af .u64 16 (pgT th m aa)] 37,.ak [.af .u64 16 (pgT th m aa)] 37]) (.bd [.af .u64 16 (pgT th m aa),.s (.aO .i64 0)])))))):=by kernel_rfl
theorem amJ{th:Th}{m:As}{fu aa:Int}{fr fs gn:Ws}{ao:ByteArray}{c:List En×Int}(e:c=wkT (ui ao) th m aa []):
 aqf.eG ((th,m,fu,aa,fr,fs,gn),ao)=hT th m fu aa fr fs gn++[uA ao,.ak [.vec 7] eLE,.aH,.vec (.ah cE c.1) Lf.eE]/\aqf.out ((th,m,fu,aa,fr,fs,gn),ao)=az c.2:=by
 subst e;exact⟨rfl,rfl⟩
theorem amK{th:Th}{m:As}{fu aa:Int}{fr fs gn:Ws}{c:Ws×Int}(e:c=wkT xO th m aa Bx.cz):
 aqg.eG (th,m,fu,aa,fr,fs,gn)=hT th m fu aa fr fs gn++[.ak [.af .u64 16 c.1] eSt]/\aqg.out (th,m,fu,aa,fr,fs,gn)=az c.2:=by
 subst e;exact⟨rfl,rfl⟩
theorem amL:fD P Bx.cw 51 aqf:=by
 refine fS func51 ?_;rintro⟨⟨th,m,fu,aa,fr,fs,gn⟩,ao⟩ ⟨(hd:Ds.cf th m fu),(hr:0<=aa/\aa<=65536),_⟩ X hX hz;refine qx 6 (c:=start f51 [.ptr 0 0,.fn fL1 [.ptr 4 0,.ptr 5 0]] (hT th m fu aa fr fs gn++[uA ao,.ak [.vec 7] eLE,.aH,.vec (.ah cE []) Lf.eE])) rfl ?_;refine Ds.cA hz hX (by intro y hy;cases hy) (aF.Ok.cons ((zv 17).sum ap8) aF.Ok.nil) func51 (aw8 th m fu aa fr fs gn ao) ⟨λh=> ?_,λh=>⟨rfl,rfl,hd,hr,⟨by omega,by omega⟩,by omega,Bx.fe.1,le_refl _, ?_⟩⟩;have h:aa=0:=by simpa using h
 have⟨f1,f2⟩:=amJ (fu:=fu) (fr:=fr) (fs:=fs) (gn:=gn) (c:=([],0)) (show _=wkT (ui ao) th m aa []by unfold wkT;rw[if_pos h]);exact bK 7 rfl (le_refl _) f2 f1;have h:¬aa=0:=by simpa using h
 have⟨f1,f2⟩:=amJ (fu:=fu) (fr:=fr) (fs:=fs) (gn:=gn) (c:=((c9 (ui ao) th m 17 1 Bx.cz [] aa).2.1,(c9 (ui ao) th m 17 1 Bx.cz [] aa).2.2)) (show _=wkT (ui ao) th m aa []by unfold wkT;rw[if_neg h]);exact bK 7 rfl (le_refl _) f2 f1
theorem amM:fD P Bx.cw 51 aqg:=by
 refine fS func51 ?_;rintro⟨th,m,fu,aa,fr,fs,gn⟩ ⟨(hd:Ds.cf th m fu),(hr:0<=aa/\aa<=65536),_⟩ X hX hz;refine Ds.cA hz hX (by intro y hy;cases hy) (aF.Ok.cons ((zw 17).sum aqd) aF.Ok.nil) func51 (aw9 th m fu aa fr fs gn) ⟨λh=> ?_,λh=>⟨rfl,rfl,hd,hr,⟨by omega,by omega⟩,by omega,Bx.fe.1,le_refl _, ?_⟩⟩;have h:aa=0:=by simpa using h
 have⟨f1,f2⟩:=amK (fu:=fu) (fr:=fr) (fs:=fs) (gn:=gn) (c:=(Bx.cz,0)) (show _=wkT xO th m aa Bx.cz by unfold wkT;rw[if_pos h]);exact bK 5 rfl (le_refl _) f2 f1;have h:¬aa=0:=by simpa using h
 have⟨f1,f2⟩:=amK (fu:=fu) (fr:=fr) (fs:=fs) (gn:=gn) (c:=((c9 xO th m 17 1 Bx.cz Bx.cz aa).2.1,(c9 xO th m 17 1 Bx.cz Bx.cz aa).2.2)) (show _=wkT xO th m aa Bx.cz by unfold wkT;rw[if_neg h]);exact bK 5 rfl (le_refl _) f2 f1
theorem aqi:fD P Bx.cw 28 sLs:=by
 refine dj func28 (by kernel_rfl) (λx=>le_of_ble_eq_true (by kernel_rfl)) ?_;rintro⟨⟨th,m,fu,aa,fr,fs,gn⟩,ao⟩ ⟨(hd:Ds.cf th m fu),(hr:0<=aa/\aa<=65536),_⟩ X hX hz
 have hm:∀y∈aqh,(hT th m fu aa fr fs gn).length<=y.2.m:=λy hy=>by
  simp only[aqh,mem_singleton]at hy;subst hy;exact le_refl _
 have T:amI.Ok P Bx.cw:=aF.Ok.cons (amL.sum aw5) aF.Ok.nil;refine Ds.cA hz hX hm T func28 (ay7 th m fu aa fr fs gn ao) ?_;refine Ds.cA hz hX hm T func28 (ay8 th m fu aa fr fs gn ao) ⟨rfl,rfl,hd,hr,λh=> ?_,λh=> ?_⟩;have h:lsE th m aa ao≠0:=bne_iff_ne.1 h;refine fm (h:=hT th m fu aa fr fs gn++[.vec (.ah cE []) Lf.eE]) ⟨[(0,.ah cE [],Lf.eE)],[0,1],4,[]⟩ rfl (le_refl _) (jQ.same _) rfl ?_;show hT th m fu aa fr fs gn++[.vec (.ah cE (lsF th m aa ao)) Lf.eE]=_;unfold lsF;rw[if_pos h];rfl;have h:¬lsE th m aa ao≠0:=λhh=>Bool.false_ne_true (h.symm.trans (bne_iff_ne.2 hh));refine fm (h:=hT th m fu aa fr fs gn++[.vec (.ah cE (lsT th m aa ao)) Lf.eE]) ⟨[],[0,1],4,[]⟩ rfl (le_refl _) (jQ.same _) ?_ ?_;show AV.bd [.vec 4,az (lsE th m aa ao)]=_;rw[show lsE th m aa ao=0 from Decidable.byContradiction h];rfl;show hT th m fu aa fr fs gn++[.vec (.ah cE (lsF th m aa ao)) Lf.eE]=_;unfold lsF;rw[if_neg h]
theorem amN:fD P Bx.cw 26 sPg:=by
 refine fS func26 ?_;rintro⟨th,m,fu,aa,fr,fs,gn⟩ ⟨(hd:Ds.cf th m fu),(hr:0<=aa/\aa<=65536),_⟩ X hX hz;refine Ds.cA hz hX (by intro y hy;cases hy) (aF.Ok.cons (amM.sum aw6) aF.Ok.nil) func26 (ay9 th m fu aa fr fs gn) ⟨rfl,rfl,hd,hr,λh=> ?_,λh=> ?_⟩;have h:pgE th m aa≠0:=bne_iff_ne.1 h;refine bK (h:=hT th m fu aa fr fs gn) 4 rfl (le_refl _) ?_ rfl;show AV.bd [.af .u64 16 (pgF th m aa),az (pgE th m aa)]=_;unfold pgF;rw[if_pos h];rfl;have h:¬pgE th m aa≠0:=λhh=>Bool.false_ne_true (h.symm.trans (bne_iff_ne.2 hh));refine bK (h:=hT th m fu aa fr fs gn) 4 rfl (le_refl _) ?_ rfl;show AV.bd [.af .u64 16 (pgF th m aa),az (pgE th m aa)]=_;unfold pgF;rw[if_neg h,show pgE th m aa=0 from Decidable.byContradiction h];rfl
def opF(th:Th)(free:Ws):Ws:=Bx.dY .and free (Bx.dY .andNot (Bx.dM (Ds.tV th)) (Bx.dM 2))
abbrev XO:Type:=Th×As×Int×Int×Ws
abbrev sOp:Spec XO:=⟨λ(_,_,_,aa,free)=>[.ptr 0 0,az aa,.af .u64 16 free],λ(th,m,fu,_)=>Ds.hD th m fu,λ(th,m,fu,_)=>[Ds.cf th m fu],λ(th,m,fu,aa,free)=>Ds.hD th m fu++[qu 0 aa (opF th free) Bx.cz Bx.cz],λ_=>.ptr 3 0⟩
def mOp:List AV->RM (XO×List Nat)
 |[d,r,.af .u64 16 free]=>(Ds.mAs [d]).bind λ((th,m,fu),σ)=>match r.cD with
  |some (_,_,aa)=>.ret ((th,m,fu,aa,free),σ)|none=>.fail ""
 |_=>.fail ""
abbrev axa:=cu sOp mOp
abbrev axb:=cu Ds.sPn Ds.mAs
abbrev aza:=bM [Bx.bk] [Bx.dF] (λ_=>[]) (λ(n,())=>(Bx.dM n,()))
abbrev axc:=bM [Bx.dF,Bx.dF] [Bx.dF] (λ_=>[]) (λ(a,b,())=>(Bx.dY .andNot a b,()))
abbrev azb:=bM [Bx.dF,Bx.dF] [Bx.dF] (λ_=>[]) (λ(a,b,())=>(Bx.dY .and a b,()))
def axd:aF:=[(32,axb),(31,aza),(33,axc),(30,azb)]
abbrev sRt:Spec XT:=⟨λ_=>[.ptr 0 0],λ(th,m,fu,aa,fr,fs,gn)=>hT th m fu aa fr fs gn,λ_=>[],λ(th,m,fu,aa,fr,fs,gn)=>hT th m fu aa fr fs gn,λ(_,_,_,aa,_)=>az aa⟩
abbrev sFs:Spec XT:=⟨λ_=>[.ptr 0 0],λ(th,m,fu,aa,fr,fs,gn)=>hT th m fu aa fr fs gn,λ_=>[],λ(th,m,fu,aa,fr,fs,gn)=>hT th m fu aa fr fs gn,λ(_,_,_,_,_,fs,_)=>.af .u64 16 fs⟩
abbrev sFr:Spec XT:=⟨λ_=>[.ptr 0 0],λ(th,m,fu,aa,fr,fs,gn)=>hT th m fu aa fr fs gn,λ_=>[],λ(th,m,fu,aa,fr,fs,gn)=>hT th m fu aa fr fs gn,λ(_,_,_,_,fr,_)=>.af .u64 16 fr⟩
def th0(n:Int):Th:=replicate n.toNat (CL.d Ds.cS)
def mGt:List AV->RM (XD×List Nat)
 |[t,.s (.str key)]=>(mT [t]).bind λ(X,σ)=>.ret ((X,key),σ)|_=>.fail ""
theorem azc(th:Th)(m:As)(fu aa:Int)(free:Ws):run P axd.sum f8 [] (start f8 [.ptr 0 0,az aa,.af .u64 16 free] (Ds.hD th m fu))=
 Tree.ab (bD (some [AV.ptr 0 0])) (.ab (bD (some (Ds.hD th m fu))) (.ab (Ds.cf th m fu) (.ret (Ds.hD th m fu++[.ak [.af .u64 16 free] 37,qu 0 aa (Bx.dY BinOp.and free (Bx.dY BinOp.andNot (Bx.dM (Ds.tV th)) (Bx.dM 2))) (replicate 16 0) (replicate 16 0)]) (.ptr 4 0)))):=by kernel_rfl
theorem azd(th:Th)(m:As)(fu aa:Int)(fr fs gn:Ws):run P (aF.sum []) f18 [] (start f18 [.ptr 0 0] (hT th m fu aa fr fs gn))=
 Tree.ret (hT th m fu aa fr fs gn) (az aa):=by kernel_rfl
theorem aze(th:Th)(m:As)(fu aa:Int)(fr fs gn:Ws):run P (aF.sum []) f21 [] (start f21 [.ptr 0 0] (hT th m fu aa fr fs gn))=
 Tree.ret (hT th m fu aa fr fs gn++[.ak [.af .u64 16 fs] 37]) (.af .u64 16 fs):=by kernel_rfl
theorem azf(th:Th)(m:As)(fu aa:Int)(fr fs gn:Ws):run P (aF.sum []) f24 [] (start f24 [.ptr 0 0] (hT th m fu aa fr fs gn))=
 Tree.ret (hT th m fu aa fr fs gn++[.ak [.af .u64 16 fr] 37]) (.af .u64 16 fr):=by kernel_rfl
theorem aqj{Z:aZ}:fD P Z 8 sOp:=by
 refine fS func8 ?_;rintro⟨th,m,fu,aa,free⟩ ⟨(hd:Ds.cf th m fu),_⟩ X hX hz;exact Ds.cA hz hX (by intro y hy;cases hy) (aF.Ok.cons (Ds.av7.sum Ds.mAs) (aF.Ok.cons Bx.ac9.sum (aF.Ok.cons Bx.agY.sum (aF.Ok.cons Bx.apg.sum aF.Ok.nil)))) func8 (azc th m fu aa free) ⟨rfl,rfl,hd,bK 3 rfl (le_refl _) rfl rfl⟩
theorem aqk{Z:aZ}:fD P Z 18 sRt:=by
 refine fS func18 ?_;rintro⟨th,m,fu,aa,fr,fs,gn⟩ _ X hX hz;exact Ds.cA hz hX (by intro y hy;cases hy) aF.Ok.nil func18 (azd th m fu aa fr fs gn) (bK 4 rfl (le_refl _) rfl rfl)
theorem amO{Z:aZ}:fD P Z 21 sFs:=by
 refine fS func21 ?_;rintro⟨th,m,fu,aa,fr,fs,gn⟩ _ X hX hz;exact Ds.cA hz hX (by intro y hy;cases hy) aF.Ok.nil func21 (aze th m fu aa fr fs gn) (bK 4 rfl (le_refl _) rfl rfl)
theorem aql{Z:aZ}:fD P Z 24 sFr:=by
 refine fS func24 ?_;rintro⟨th,m,fu,aa,fr,fs,gn⟩ _ X hX hz;exact Ds.cA hz hX (by intro y hy;cases hy) aF.Ok.nil func24 (azf th m fu aa fr fs gn) (bK 4 rfl (le_refl _) rfl rfl)
end Ts
namespace Ds
open Go Go.Sx Go.Proofs Lf
abbrev cK:List CK:=[.int .i64,.str]
abbrev kN(x:CL cK):Int:=x.1
abbrev kT(x:CL cK):ByteArray:=x.2.1
abbrev kM(n:Int)(s:ByteArray):CL cK:=(n,s,())
abbrev eK:TypeId:=202
abbrev eR:TypeId:=78
abbrev Kp:Type:=List (CL cK)
abbrev pw(t:List ByteArray)(a:Kp)(f:Int):au:=.ak [.s (.ro (.strs t)),.s (.ro (.ah cK a)),az f] eR
abbrev roL:List (Nat×Nat×Bool×ba×TypeId):=[(0,0,true,.strs [],9),(0,1,true,.ah cK [],eK)]
abbrev inR:List FuncId:=[138,999999]
def aqm:List (Nat×Norm):=[(4,⟨[],[0,1,6],1,roL⟩)]
def cRR(t:List ByteArray)(a:Kp)(f n i:Int):bQ:=⟨sl 52 [(0,.ptr 0 0),(1,az n),(6,az i)],[pw t a f],hd f111 4,{}⟩
def amP:List (Nat×Norm):=[(11,⟨[(8,.ah cK [],eK)],[0,1,2,8,9,10],1,roL⟩),(18,⟨[(8,.ah cK [],eK)],[0,1,2,8,9],1,roL⟩)]
def cRW(t:List ByteArray)(a:Kp)(f n:Int)(s:ByteArray)(l:Kp)(put:Bool)(i:Int):bQ:=⟨sl 91 [(0,.ptr 0 0),(1,az n),(2,.s (.str s)),(8,.vec 1),(9,.s (.bool put)),(10,az i)],[pw t a f,.vec (.ah cK l) eK],hd f136 11,{}⟩
def amQ(t:List ByteArray)(a:Kp)(f n:Int)(s:ByteArray)(l:Kp)(put:Bool):bQ:=⟨sl 91 [(0,.ptr 0 0),(1,az n),(2,.s (.str s)),(8,.vec 1),(9,.s (.bool put))],[pw t a f,.vec (.ah cK l) eK],hr f136 18,{}⟩
abbrev sWi:Spec (List ByteArray×Kp×Int×Int×ByteArray):=⟨λ(_,_,_,n,s)=>[.ptr 0 0,az n,.s (.str s)],λ(t,a,f,_)=>[pw t a f],λ(t,_,_,n,_)=>[0<=n,n<(t.length:Int),t.length<=4096],λ(t,a,f,n,s)=>[pw (t.set n.toNat s) a f],λ_=>.bd []⟩
def mR:List AV->RM ((List ByteArray×Kp×Int)×List Nat)
 |[.ptr id 0]=>.look id λo=>match o with
  |some (.ak [.s (.ro (.strs t)),.s (.ro (.ah [.int .i64,.str] a)),f] _)=>match f.cD with
   |some (_,_,f)=>.ret ((t,a,f),[id])|none=>.fail ""
  |_=>.fail ""
 |_=>.fail ""
def mWi:List AV->RM ((List ByteArray×Kp×Int×Int×ByteArray)×List Nat)
 |[.ptr id 0,n,.s (.str s)]=>(mR [.ptr id 0]).bind λ((t,a,f),σ)=>match n.cD with
  |some (_,_,n)=>.ret ((t,a,f,n,s),σ)|none=>.fail ""
 |_=>.fail ""
def inL(t:List ByteArray)(n:Int):Bool:=decide (0<=n)&&decide (n<(t.length:Int))
def aje(a:Kp)(n:Int):Option ByteArray:=(a.find? λx=>kN x==n).map kT
def dQ(t:List ByteArray)(a:Kp)(n:Int):ByteArray:=if inL t n=true then(aje a n).getD (t.getD n.toNat empty)else empty
def rrE(t:List ByteArray)(n:Int):Int:=if inL t n=true then 0 else 5
def nu(f:Int):Int:=if f>0 then f - 1 else f
def wrK(n:Int)(s:ByteArray):Kp->Bool->Kp×Bool
 |[],p=>([],p)|x::xs,p=>((if kN x>=n/\p=false then [kM n s]else [])++(if kN x≠n then [x]else [])++(wrK n s xs (p||decide (kN x>=n))).1,(wrK n s xs (p||decide (kN x>=n))).2)
def wrA(a:Kp)(n:Int)(s:ByteArray):Kp:=(wrK n s a false).1++(if(wrK n s a false).2=false then [kM n s]else [])
def te(t:List ByteArray)(f n:Int)(s:ByteArray):Int:=if inL t n=true then(if s.size=64 then(if f=0 then 42 else 0)else 1)else 5
def oJ(t:List ByteArray)(a:Kp)(f n:Int)(s:ByteArray):Kp:=if te t f n s=0 then wrA a n s else a
def fU(t:List ByteArray)(f n:Int)(s:ByteArray):Int:=if inL t n=true/\s.size=64 then nu f else f
def oD:List ByteArray->Kp->List ByteArray
 |t,[]=>t|t,x::a=>oD (t.set (kN x).toNat (kT x)) a
structure okR (t:List ByteArray) (a:Kp) (f:Int):Prop where
 t4:t.length<=4096
 a4:a.length<=4096
 an:∀x∈a,0<=kN x/\kN x<(t.length:Int)
 f9: -1<=f/\f<=9223372036854775807
 t64:∀i,i<t.length->(t.getD i empty).size=64
 a64:∀x∈a,(kT x).size=64
abbrev sRR:Spec (List ByteArray×Kp×Int×Int):=⟨λ(_,_,_,n)=>[.ptr 0 0,az n],λ(t,a,f,_)=>[pw t a f],λ(t,a,f,_)=>[okR t a f],λ(t,a,f,_)=>[pw t a f],λ(t,a,_,n)=>.bd [.s (.str (dQ t a n)),az (rrE t n)]⟩
abbrev sRW:Spec (List ByteArray×Kp×Int×Int×ByteArray):=⟨λ(_,_,_,n,s)=>[.ptr 0 0,az n,.s (.str s)],λ(t,a,f,_)=>[pw t a f],λ(t,a,f,_)=>[okR t a f],λ(t,a,f,n,s)=>[pw t (oJ t a f n s) (fU t f n s)],λ(t,_,f,n,s)=>az (te t f n s)⟩
abbrev axe:Spec (List ByteArray×Kp×Int):=⟨λ_=>[.ptr 0 0],λ(t,a,f)=>[pw t a f],λ_=>[],λ(t,a,f)=>[pw t a f],λ(_,_,f)=>.s (.bool (f==0))⟩
theorem aum(t:List ByteArray)(a:Kp)(f n:Int):run P dK.sum f111 aqm (start f111 [.ptr 0 0,az n] [pw t a f]) inR=
 Tree.ite (decide (n<0)) (.ret [.ak [.s (.ro (.strs t)),.s (.ro (.ah cK a)),az f] 78] (.bd [.s (.str empty),.s (.aO .i64 5)])) (.ite (decide (n>=(↑t.length:Int))) (.ret [.ak [.s (.ro (.strs t)),.s (.ro (.ah cK a)),az f] 78] (.bd [.s (.str empty),.s (.aO .i64 5)])) (.at (cRR t a f n 0))):=by kernel_rfl
theorem amR(t:List ByteArray)(a:Kp)(f n i:Int):run P dK.sum f111 aqm (cRR t a f n i) inR=
 Tree.ite (decide (i<(↑(List.length a):Int))) (.ab ((0:Int)<=i) (.ab (i<(↑(List.length a):Int)) (.ite (kN (el a i)==n) (.ab ((0:Int)<=i) (.ab (i<(↑(List.length a):Int)) (.ret [.ak [.s (.ro (.strs t)),.s (.ro (.ah cK a)),.s (.int .i64 f)] 78] (.bd [.s (.str (kT (el a i))),.s (.aO .i64 0)])))) (.ab (aw (i+1)) (.at (cRR t a f n (i+1))))))) (.ab ((0:Int)<=n) (.ab (n<t.length) (.ret [.ak [.s (.ro (.strs t)),.s (.ro (.ah cK a)),.s (.int .i64 f)] 78] (.bd [.s (.str (t.getD n.toNat empty)),.s (.aO .i64 0)])))):=by kernel_rfl
theorem aun(t:List ByteArray)(a:Kp)(f n:Int)(s:ByteArray):run P dK.sum f136 amP (start f136 [.ptr 0 0,az n,.s (.str s)] [pw t a f]) inR=
 Tree.ite (decide (n<0)) (.ret [.ak [.s (.ro (.strs t)),.s (.ro (.ah cK a)),az f] 78] (.s (.aO .i64 5))) (.ite (decide (n>=(↑t.length:Int))) (.ret [.ak [.s (.ro (.strs t)),.s (.ro (.ah cK a)),az f] 78] (.s (.aO .i64 5))) (.ite ((↑s.size:Int) !=64) (.ret [.ak [.s (.ro (.strs t)),.s (.ro (.ah cK a)),az f] 78] (.s (.aO .i64 1))) (.ite (f==0) (.ret [.ak [.s (.ro (.strs t)),.s (.ro (.ah cK a)),az f] 78] (.s (.aO .i64 42))) (.ite (decide (f>0)) (.ab (aw (f - (1:Int))) (.at (cRW t a (f - (1:Int)) n s [] false 0))) (.at (cRW t a f n s [] false 0)))))):=by kernel_rfl
theorem amS(t:List ByteArray)(a:Kp)(f n:Int)(s:ByteArray)(l:Kp)(put:Bool)(i:Int):run P dK.sum f136 amP (cRW t a f n s l put i) inR=
 Tree.ite (decide (i<(↑(List.length a):Int))) (.ab ((0:Int)<=i) (.ab (i<(↑(List.length a):Int)) (.ite (decide (kN (el a i)>=n)) (.ite (!put) (.ab ((List.length l+1)*(24:Nat)<=140737488355328) (.ab ((0:Int)<=i) (.ab (i<(↑(List.length a):Int)) (.ite (kN (el a i) !=n) (.ab ((0:Int)<=i) (.ab (i<(↑(List.length a):Int)) (.ab (((l++[kM n s]).length+1)*(24:Nat)<=140737488355328) (.ab (aw (i+1)) (.at (cRW t a f n s (l++[kM n s]++[el a i]) true (i+1))))))) (.ab (aw (i+1)) (.at (cRW t a f n s (l++[kM n s]) true (i+1)))))))) (.ab ((0:Int)<=i) (.ab (i<(↑(List.length a):Int)) (.ite (kN (el a i) !=n) (.ab ((0:Int)<=i) (.ab (i<(↑(List.length a):Int)) (.ab ((List.length l+1)*(24:Nat)<=140737488355328) (.ab (aw (i+1)) (.at (cRW t a f n s (l++[el a i]) put (i+1))))))) (.ab (aw (i+1)) (.at (cRW t a f n s l put (i+1)))))))) (.ab ((0:Int)<=i) (.ab (i<(↑(List.length a):Int)) (.ite (kN (el a i) !=n) (.ab ((0:Int)<=i) (.ab (i<(↑(List.length a):Int)) (.ab ((List.length l+1)*(24:Nat)<=140737488355328) (.ab (aw (i+1)) (.at (cRW t a f n s (l++[el a i]) put (i+1))))))) (.ab (aw (i+1)) (.at (cRW t a f n s l put (i+1)))))))))) (.at (amQ t a f n s l put)):=by kernel_rfl
theorem amT(t:List ByteArray)(a:Kp)(f n:Int)(s:ByteArray)(l:Kp)(put:Bool):run P dK.sum f136 amP (amQ t a f n s l put) inR=
 Tree.ite (!put) (.ab ((List.length l+1)*(24:Nat)<=140737488355328) (.ret [.ak [.s (.ro (.strs t)),.vec 3,.s (.int .i64 f)] 78,.aH,.vec (.ah cK [kM n s]) 202,.vec (.ah cK (l++[kM n s])) 202] (.s (.aO .i64 0)))) (.ret [.ak [.s (.ro (.strs t)),.vec 1,.s (.int .i64 f)] 78,.vec (.ah cK l) 202] (.s (.aO .i64 0))):=by kernel_rfl
theorem iW{t:List ByteArray}{n:Int}:inL t n=true↔0<=n/\n<(t.length:Int):=by simp[inL]
theorem axf{Z:aZ}:fD P Z 111 sRR:=by
 refine fS func111 ?_;rintro⟨t,a,f,n⟩ ⟨(hd:okR t a f),_⟩ X hX hz;have mc:∀x∈aqm,(sRR.heap (t,a,f,n)).length<=x.2.m:=by intro y hy;simp[aqm]at hy;rcases hy with rfl;exact le_refl _
 have ha:=hd.a4
 have bad:¬(0<=n/\n<(t.length:Int))->dQ t a n=empty/\rrE t n=5:=λh=>by
  have:¬inL t n=true:=λh2=>h (iW.1 h2);simp only[dQ,rrE,if_neg this,and_self]
 have loop:0<=n->n<(t.length:Int)->∀(j k:Nat),k+j=a.length->aje a n=aje (a.drop k) n->Safe P 111 X (fq sRR (t,a,f,n)) (cRR t a f n (k:Int)):=by
  intro h0 h1 j;have dH:=iW.2 ⟨h0,h1⟩
  induction j with
  |zero=>
   intro k hk hg;refine cA hz hX mc aF.Ok.nil func111 (amR t a f n k) ⟨λh=>absurd (of_decide_eq_true h) (by omega),λ_=>⟨h0,h1, ?_⟩⟩;rw[List.drop_eq_nil_of_le (by omega)]at hg;have e:dQ t a n=t.getD n.toNat empty:=by rw[dQ,if_pos dH,hg];rfl
   have e2:rrE t n=0:=by rw[rrE,if_pos dH]
   refine bK 1 rfl (le_refl _) ?_ rfl;simp[e,e2,tL]
  |succ j ih=>
   intro k hk hg;have br:k<a.length:=by omega
   rw[List.drop_eq_getElem_cons br]at hg;refine cA hz hX mc aF.Ok.nil func111 (amR t a f n k) ?_;rw[aq4 br];generalize a[k]=x at *;have e2:rrE t n=0:=by rw[rrE,if_pos dH]
   repeat' (with_reducible (first|refine x8 ?_|refine lD ?_ ?_|refine pF (λ_=> ?_) (λ_=> ?_)|refine pG (λ_=> ?_) (λ_=> ?_)|refine pH (λ_=> ?_) (λ_=> ?_)|refine x9 ?_|refine ya ?_|refine pI ?_|refine pJ (λ_=> ?_) (λ_=> ?_)|refine lG (λ_=> ?_) (λ_=> ?_)|refine pK ?_|refine yb ?_))
   all_goals first|omega|exact⟨by omega,by omega⟩|skip
   rename_i h;have e:dQ t a n=kT x:=by rw[dQ,if_pos dH,hg];unfold aje;rw[List.find?_cons_of_pos (by simpa using h)];rfl
   refine bK 1 rfl (le_refl _) ?_ rfl;simp[e,e2,tL];rename_i h;refine ih (k+1) (by omega) ?_;rw[hg];unfold aje;rw[List.find?_cons_of_neg (by simpa using h)]
 refine cA hz hX mc aF.Ok.nil func111 (aum t a f n) ?_
 repeat' (with_reducible (first|refine x8 ?_|refine lD ?_ ?_|refine pF (λ_=> ?_) (λ_=> ?_)|refine pG (λ_=> ?_) (λ_=> ?_)|refine pH (λ_=> ?_) (λ_=> ?_)|refine x9 ?_|refine ya ?_|refine pI ?_|refine pJ (λ_=> ?_) (λ_=> ?_)|refine lG (λ_=> ?_) (λ_=> ?_)|refine pK ?_|refine yb ?_))
 have⟨e1,e2⟩:=bad (by omega);refine bK 1 rfl (le_refl _) ?_ rfl;simp[e1,e2,tL];have⟨e1,e2⟩:=bad (by omega);refine bK 1 rfl (le_refl _) ?_ rfl;simp[e1,e2,tL];exact loop (by omega) (by omega) a.length 0 (by omega) rfl
theorem axg{Z:aZ}:fD P Z 136 sRW:=by
 refine fS func136 ?_;rintro⟨t,a,f,n,s⟩ ⟨(hd:okR t a f),_⟩ X hX hz;have mc:∀x∈amP,(sRW.heap (t,a,f,n,s)).length<=x.2.m:=by intro y hy;simp[amP]at hy;rcases hy with rfl|rfl<;>exact le_refl _
 have ha:=hd.a4;have f9:=hd.f9;have loop:inL t n=true->s.size=64->f≠0->∀(j k:Nat) (l:Kp) (put:Bool),k+j=a.length->l.length<=2*k->l++(wrK n s (a.drop k) put).1=(wrK n s a false).1->(wrK n s (a.drop k) put).2=(wrK n s a false).2->
  Safe P 136 X (fq sRW (t,a,f,n,s)) (cRW t a (nu f) n s l put (k:Int)):=by
  intro dH hs hf j;have eE:te t f n s=0:=by simp[te,dH,hs,hf]
  have eF:fU t f n s=nu f:=by simp[fU,dH,hs]
  have eA:oJ t a f n s=wrA a n s:=by simp[oJ,eE]
  induction j with
  |zero=>
   intro k l put hk hl h1 h2;rw[List.drop_eq_nil_of_le (by omega)]at h1 h2;simp only[wrK,append_nil]at h1 h2;refine cA hz hX mc aF.Ok.nil func136 (amS t a (nu f) n s l put k) ⟨λh=>absurd (of_decide_eq_true h) (by omega),λ_=> ?_⟩;show Safe P _ X _ (amQ t a (nu f) n s l put);refine cA hz hX mc aF.Ok.nil func136 (amT t a (nu f) n s l put) ?_
   repeat' (with_reducible (first|refine x8 ?_|refine lD ?_ ?_|refine pF (λ_=> ?_) (λ_=> ?_)|refine pG (λ_=> ?_) (λ_=> ?_)|refine pH (λ_=> ?_) (λ_=> ?_)|refine x9 ?_|refine ya ?_|refine pI ?_|refine pJ (λ_=> ?_) (λ_=> ?_)|refine lG (λ_=> ?_) (λ_=> ?_)|refine pK ?_|refine yb ?_))
   all_goals first|omega|skip
   rename_i hp;refine yc 1 roL rfl (le_refl _) ?_ ?_<;>simp[eE,eF,eA,wrA,<-h1,<-h2,hp,tL];rename_i hp;refine yc 1 roL rfl (le_refl _) ?_ ?_<;>simp[eE,eF,eA,wrA,<-h1,<-h2,hp,tL]
  |succ j ih=>
   intro k l put hk hl h1 h2;have br:k<a.length:=by omega
   rw[List.drop_eq_getElem_cons br]at h1 h2;refine cA hz hX mc aF.Ok.nil func136 (amS t a (nu f) n s l put k) ?_;rw[aq4 br];generalize a[k]=x at *;simp only[wrK]at h1 h2;have next:=λl' azg=>ih (k+1) l' azg (by omega)
   repeat' (with_reducible (first|refine x8 ?_|refine lD ?_ ?_|refine pF (λ_=> ?_) (λ_=> ?_)|refine pG (λ_=> ?_) (λ_=> ?_)|refine pH (λ_=> ?_) (λ_=> ?_)|refine x9 ?_|refine ya ?_|refine pI ?_|refine pJ (λ_=> ?_) (λ_=> ?_)|refine lG (λ_=> ?_) (λ_=> ?_)|refine pK ?_|refine yb ?_))
   all_goals first|omega|exact⟨by omega,by omega⟩|(simp only[length_append,length_cons,length_nil];omega)|skip
   all_goals refine next _ _ ?_ ?_ ?_
   all_goals first
    |(simp only[length_append,length_cons,length_nil];omega)|omega|(rw[<-h1];clear h1 h2 next ih;simp[*];done)
    |(rw[<-h2];clear h1 h2 next ih;simp[*];done)
 have bad:¬(inL t n=true/\s.size=64/\f≠0)->te t f n s≠0/\oJ t a f n s=a/\fU t f n s=f:=λh=>by
  have e:te t f n s≠0:=by
   unfold te;split;split;split;decide;exact absurd ⟨by assumption,by assumption,by assumption⟩ h;decide;decide
  refine⟨e,by rw[oJ,if_neg e], ?_⟩;unfold fU nu;split;rename_i hh;have:f=0:=Classical.byContradiction λhf=>h ⟨hh.1,hh.2,hf⟩;rw[if_neg (by omega)];rfl
 have lp:=λh1 h2 h3=>loop h1 h2 h3 a.length 0 [] false (by omega) (le_refl _) rfl rfl;refine cA hz hX mc aF.Ok.nil func136 (aun t a f n s) ?_
 repeat' (with_reducible (first|refine x8 ?_|refine lD ?_ ?_|refine pF (λ_=> ?_) (λ_=> ?_)|refine pG (λ_=> ?_) (λ_=> ?_)|refine pH (λ_=> ?_) (λ_=> ?_)|refine x9 ?_|refine ya ?_|refine pI ?_|refine pJ (λ_=> ?_) (λ_=> ?_)|refine lG (λ_=> ?_) (λ_=> ?_)|refine pK ?_|refine yb ?_))
 all_goals first|omega|exact⟨by omega,by omega⟩|skip
 have⟨e1,e2,e3⟩:=bad (λh=>by have:=iW.1 h.1;omega);have e:te t f n s=5:=by rw[te,if_neg (λh=>by have:=iW.1 h;omega)]
 refine yc 1 roL rfl (le_refl _) ?_ ?_<;>simp[e,e2,e3,tL];have⟨e1,e2,e3⟩:=bad (λh=>by have:=iW.1 h.1;omega);have e:te t f n s=5:=by rw[te,if_neg (λh=>by have:=iW.1 h;omega)]
 refine yc 1 roL rfl (le_refl _) ?_ ?_<;>simp[e,e2,e3,tL];have dH:inL t n=true:=iW.2 ⟨by omega,by omega⟩;have hs:s.size≠64:=by omega
 have⟨e1,e2,e3⟩:=bad (λh=>hs h.2.1);have e:te t f n s=1:=by rw[te,if_pos dH,if_neg hs]
 refine yc 1 roL rfl (le_refl _) ?_ ?_<;>simp[e,e2,e3,tL];have dH:inL t n=true:=iW.2 ⟨by omega,by omega⟩;have hs:s.size=64:=by omega
 have⟨e1,e2,e3⟩:=bad (λh=>h.2.2 (by assumption));have e:te t f n s=42:=by rw[te,if_pos dH,if_pos hs,if_pos (by assumption)]
 refine yc 1 roL rfl (le_refl _) ?_ ?_<;>simp[e,e2,e3,tL];have:=lp (iW.2 ⟨by omega,by omega⟩) (by omega) (by assumption);unfold nu at this;rw[if_pos (by assumption)]at this;exact this;have:=lp (iW.2 ⟨by omega,by omega⟩) (by omega) (by assumption);unfold nu at this;rw[if_neg (by assumption)]at this;exact this
def abl(x:Int):List Int->List Int
 |[]=>[x]|y::l=>bif decide (x<=y)then x::y::l else y::abl x l
def ajf:List Int->List Int
 |[]=>[]|x::l=>abl x (ajf l)
def asK(m:As):List Int:=ajf (m.map (·.1))
def adJ(m:As)(n:Int):List Int:=(fi m n).getD kS.d
theorem tg(x:Int):∀l,(abl x l).Perm (x::l)
 |[]=>List.Perm.refl _|y::l=>by
  unfold abl;cases decide (x<=y);exact(List.Perm.cons y (tg x l)).trans (List.Perm.swap _ _ _);exact List.Perm.refl _
theorem uj(x:Int):∀l:List Int,l.Pairwise (λx y=>decide (x<=y)=true)->(abl x l).Pairwise (λx y=>decide (x<=y)=true)
 |[],_=>by simp[abl]
 |y::l,h=>by
  have⟨h1,h2⟩:=pairwise_cons.1 h;unfold abl;cases hxy:decide (x<=y);have hyx:y<=x:=by have:=of_decide_eq_false hxy;omega
  refine pairwise_cons.2 ⟨λz hz=> ?_,uj x l h2⟩;rcases mem_cons.1 ((tg x l).mem_iff.1 hz)with rfl|hz;exact decide_eq_true hyx;exact h1 z hz;refine pairwise_cons.2 ⟨λz hz=> ?_,h⟩;rcases mem_cons.1 hz with rfl|hz;exact hxy;have:=of_decide_eq_true hxy;have:=of_decide_eq_true (h1 z hz);exact decide_eq_true (by omega)
theorem j8(l:List Int):(ajf l).Perm l/\(ajf l).Pairwise (λx y=>decide (x<=y)=true):=by
 induction l with
 |nil=>exact⟨List.Perm.refl _,List.Pairwise.nil⟩|cons x l ih=>exact⟨(tg x _).trans (List.Perm.cons x ih.1),uj x _ ih.2⟩
theorem zx:∀{a b:List Int},a.Pairwise (λx y=>decide (x<=y)=true)->b.Pairwise (λx y=>decide (x<=y)=true)->a.Perm b->a=b
 |[],b,_,_,h=>(List.Perm.nil_eq h)|x::a,[],_,_,h=>absurd (List.Perm.length_eq h) (by simp)
 |x::a,y::b,ha,hb,h=>by
  have hx:x=y:=by
   have h1:x∈y::b:=h.mem_iff.1 List.mem_cons_self;have h2:y∈x::a:=h.mem_iff.2 List.mem_cons_self;rcases mem_cons.1 h1 with e|e;exact e;rcases mem_cons.1 h2 with e2|e2;exact e2.symm;have g1:=of_decide_eq_true ((pairwise_cons.1 hb).1 x e);have g2:=of_decide_eq_true ((pairwise_cons.1 ha).1 y e2);omega
  subst hx;rw[zx (pairwise_cons.1 ha).2 (pairwise_cons.1 hb).2 (List.Perm.cons_inv h)]
theorem aqn{a b:List Int}(h:a.Perm b):ajf a=ajf b:=zx (j8 a).2 (j8 b).2 ((j8 a).1.trans (h.trans (j8 b).1.symm))
theorem adK:∀(n:Nat) (l:List Nat),l.Nodup->(∀x∈l,x<n)->l.length<=n
 |0,l,_,h=>by
  cases l with
  |nil=>exact le_refl _|cons x l=>exact absurd (h x List.mem_cons_self) (Nat.not_lt_zero _)
 |n+1,l,hn,h=>by
  have h1:=adK n (l.erase n) (hn.erase n) λx hx=>by
   have:=(hn.mem_erase_iff).1 hx;have:=h x this.2;omega
  by_cases hm:n∈l;rw[List.length_erase_of_mem hm]at h1;omega;rw[List.erase_of_not_mem hm]at h1;omega
theorem amU{n:Nat}{m:As}(h:okM n m)(hn:n<=4096):m.length<=4096:=by
 have h1:((m.map (·.1)).map Int.toNat).Nodup:=by
  refine List.Pairwise.map _ (S:=λa b=>a≠b) (R:=λa b=>a≠b/\0<=a/\0<=b) (λa b hab=>by omega) ?_;refine List.Pairwise.imp_of_mem ?_ h.1;intro a b ha hb hab;obtain⟨p,hp,rfl⟩:=mem_map.1 ha;obtain⟨q,hq,rfl⟩:=mem_map.1 hb;exact⟨hab,(h.2 p hp).1,(h.2 q hq).1⟩
 have h3:=adK n _ h1 λx hx=>by
  obtain⟨y,hy,rfl⟩:=mem_map.1 hx;obtain⟨p,hp,rfl⟩:=mem_map.1 hy;have:=h.2 p hp;omega
 simp only[length_map]at h3;omega
theorem rQ(m:As):(asK m).Perm (m.map (·.1)):=(j8 _).1
theorem ajg{n:Nat}{m:As}(h:okM n m):(asK m).Nodup:=(rQ m).nodup_iff.2 h.1
theorem amV{n:Nat}{m:As}(h:okM n m):(asK m).Pairwise (λx y=>x<y):=by
 have h1:(asK m).Pairwise (λx y=>decide (x<=y)=true):=(j8 _).2;refine List.Pairwise.imp₂ (λa b (hab:decide (a<=b)=true) (cG:a≠b)=> ?_) h1 (ajg h);have:=of_decide_eq_true hab;omega
theorem aqo(m:As):(asK m).length=m.length:=by rw[(rQ m).length_eq,length_map]
theorem aqp{m:As}{n:Int}(h:n∈asK m):∃p∈m,p.1=n:=mem_map.1 ((rQ m).mem_iff.1 h)
theorem adL{n:Nat}{m:As}(h:okM n m){x:Int}(hx:x∈asK m):(adJ m x).length=64/\0<=x/\x<(n:Int):=by
 obtain⟨p,hp,rfl⟩:=aqp hx;have⟨h1,h2,h3⟩:=h.2 p hp;refine⟨?_,h1,h2⟩;unfold adJ;rw[rA h.1 hp];exact h3
def dt(th:Th):List ByteArray:=th.map λx=>aB (lN x)
def gK(m:As)(n:Int):CL cK:=kM n (aB (adJ m n))
def ed(m:As):Kp:=(asK m).map (gK m)
theorem ph(th:Th):(dt th).length=th.length:=length_map _
theorem ahm{th:Th}{i:Nat}(h:i<th.length):(dt th).getD i empty=aB (lN (th.getD i (CL.d cS))):=by
 rw[bT (by rw[ph];exact h),bT h];simp[dt]
theorem abm(th:Th)(n:Int):inL (dt th) n=nB th n:=by unfold inL nB;rw[ph]
theorem xw{th:Th}{m:As}{fu:Int}(h:cf th m fu):okR (dt th) (ed m) fu:=by
 have hm:=amU h.m h.t.1;refine⟨by rw[ph];exact h.t.1,by rw[ed,length_map,aqo];exact hm,λx hx=> ?_,h.f,λi hi=> ?_,λx hx=> ?_⟩;obtain⟨n,hn,rfl⟩:=mem_map.1 hx;rw[ph];exact(adL h.m hn).2;rw[ph]at hi;rw[ahm hi,jW];exact h.t.2 i hi;obtain⟨n,hn,rfl⟩:=mem_map.1 hx;show(aB (adJ m n)).size=64;rw[jW];exact(adL h.m hn).1
theorem ahn{m:As}{n:Int}:n∈asK m↔ ∃p∈m,p.1=n:=by rw[(rQ m).mem_iff,mem_map]
theorem adM(m:As)(n:Int):∀L:List Int,(L.map (gK m)).find? (λx=>kN x==n)=if n∈L then some (gK m n)else none
 |[]=>rfl|y::L=>by
  rw[map_cons,List.find?_cons];by_cases e:y=n;subst e;rw[show(kN (gK m y)==y)=true from by simp[gK],if_pos List.mem_cons_self];rw[show(kN (gK m y)==n)=false from by simpa[gK]using e];simp only[];rw[adM m n L];by_cases h:n∈L;rw[if_pos h,if_pos (List.mem_cons_of_mem _ h)];rw[if_neg h,if_neg (λh2=>(mem_cons.1 h2).elim (λe2=>e e2.symm) h)]
theorem rR{m:As}(h:(m.map (·.1)).Nodup){n:Int}:(n∈asK m->fi m n=some (adJ m n))/\(n ∉ asK m->fi m n=none):=by
 refine⟨λhm=> ?_,λhm=>y5 λp hp e=>hm (ahn.2 ⟨p,hp,e⟩)⟩;obtain⟨p,hp,rfl⟩:=ahn.1 hm;unfold adJ;rw[rA h hp];rfl
theorem arN{th:Th}{m:As}{fu:Int}(h:cf th m fu)(n:Int):dQ (dt th) (ed m) n=tQ th m n/\rrE (dt th) n=rdE th n:=by
 refine⟨?_,by unfold rrE rdE;rw[abm]⟩;unfold dQ tQ;rw[abm];split;rename_i hi;have⟨h0,h1⟩:=kr.1 hi;unfold aje ed wK;rw[adM];by_cases hm:n∈asK m;rw[if_pos hm,(rR h.m.1).1 hm];rfl;rw[if_neg hm,(rR h.m.1).2 hm];exact ahm (by omega);rfl
theorem aqq{f:Int}(h:okF f):nu f=tS f:=by
 unfold okF at h;unfold nu tS imax
 repeat' split
 all_goals omega
theorem ti(th:Th)(f n:Int)(s:ByteArray):te (dt th) f n s=tT th f n s:=by unfold te tT;rw[abm]
def xx(n:Int):List Int->List Int
 |[]=>[n]|y::l=>if y>=n then(if y=n then y::l else n::y::l)else y::xx n l
theorem adN(n:Int)(s:ByteArray):∀l:Kp,(∀x∈l,kN x≠n)->wrK n s l true=(l,true)
 |[],_=>rfl|x::l,h=>by
  unfold wrK;simp only[Bool.true_or];rw[adN n s l λy hy=>h y (List.mem_cons_of_mem _ hy),if_neg (by simp),if_pos (h x List.mem_cons_self)];rfl
theorem aho(m m':As)(n:Int)(s:ByteArray)(hn:gK m' n=kM n s):∀L:List Int,L.Pairwise (λx y=>x<y)->(∀x∈L,x≠n->gK m' x=gK m x)->wrA (L.map (gK m)) n s=(xx n L).map (gK m')
 |[],_,_=>by
  show [kM n s]=[gK m' n];rw[hn]
 |y::L,hL,hg=>by
  have⟨h1,h2⟩:=pairwise_cons.1 hL;have ky:kN (gK m y)=y:=rfl;by_cases hy:y>=n;have cG:∀x∈L,x≠n:=λx hx=>by have:=h1 x hx;omega
  have arO:L.map (gK m')=L.map (gK m):=List.map_congr_left λx hx=>hg x (List.mem_cons_of_mem _ hx) (cG x hx)
  have e1:wrK n s (L.map (gK m)) true=(L.map (gK m),true):=adN n s _ λx hx=>by
   obtain⟨z,hz,rfl⟩:=mem_map.1 hx;exact cG z hz
  have e2:(false||decide (kN (gK m y)>=n))=true:=by rw[ky];simpa using hy
  unfold wrA xx;rw[map_cons];simp only[wrK];rw[e2,e1,if_pos ⟨by rw[ky];exact hy,trivial⟩,if_pos hy,ky];simp only[Bool.true_eq_false,if_false,append_nil];by_cases e:y=n;rw[if_neg (λh=>h e),if_pos e,map_cons,arO,e,hn];rfl;rw[if_pos e,if_neg e,map_cons,map_cons,arO,hn,hg y List.mem_cons_self e];rfl;have ih:=aho m m' n s hn L h2 λx hx=>hg x (List.mem_cons_of_mem _ hx);have e2:(false||decide (kN (gK m y)>=n))=false:=by rw[ky];simpa using hy
  have ei:xx n (y::L)=y::xx n L:=by rw[xx,if_neg hy]
  rw[ei,map_cons,map_cons,hg y List.mem_cons_self (by omega),<-ih];unfold wrA;simp only[wrK];rw[e2,if_neg (λh=>hy (by have:=h.1;rw[ky]at this;exact this)),ky,if_pos (show y≠n by omega)];simp
theorem adO(n:Int):∀L:List Int,L.Pairwise (λx y=>x<y)->n∈L->xx n L=L
 |[],_,h=>by cases h
 |y::L,hL,h=>by
  have⟨h1,h2⟩:=pairwise_cons.1 hL;unfold xx;by_cases e:y=n;rw[if_pos (by omega),if_pos e];have hm:n∈L:=(mem_cons.1 h).resolve_left λh=>e h.symm;have:=h1 n hm;rw[if_neg (by omega),adO n L h2 hm]
theorem adP(n:Int):∀L:List Int,n ∉ L->xx n L=abl n L
 |[],_=>rfl|y::L,h=>by
  have e:y≠n:=λe=>h (e▸List.mem_cons_self);unfold xx abl;by_cases hy:y>=n;rw[if_pos hy,if_neg e,decide_eq_true hy,cond_true];rw[if_neg hy,decide_eq_false hy,cond_false,adP n L λhm=>h (List.mem_cons_of_mem _ hm)]
theorem aqr{N:Nat}{m:As}(h:okM N m)(n:Int)(v:kS.V):asK (js m n v)=xx n (asK m):=by
 by_cases hm:n∈asK m;rw[adO n _ (amV h) hm];unfold asK;have hh:nH m n=true:=by rw[ow,(rR h.1).1 hm];rfl
 unfold js;rw[if_pos hh,mG];rw[adP n _ hm];have hh:nH m n=false:=by rw[ow,(rR h.1).2 hm];rfl
 have e:js m n v=m++[(n,v)]:=by unfold js;rw[if_neg (by rw[hh];simp)]
 unfold asK;rw[e,map_append];have hp:(m.map (·.1)++[n]).Perm (n::m.map (·.1)):=List.perm_append_singleton _ _;rw[show(List.map (λx:Int×kS.V=>x.1) [(n,v)])=[n]from rfl,aqn hp];rfl
theorem amW{m:As}(h:(m.map (·.1)).Nodup)(n x:Int)(v:kS.V):adJ (js m n v) x=if x=n then v else adJ m x:=by
 have e:=akG h (n:=n) (x:=x) (v:=v);show(fi (js m n v) x).getD kS.d=_;rw[e];by_cases hx:x=n;rw[if_pos hx];exact(if_pos hx).symm;rw[if_neg hx];exact(if_neg hx).symm
theorem xy{th:Th}{m:As}{fu:Int}(h:cf th m fu)(n:Int)(s:ByteArray):oJ (dt th) (ed m) fu n s=ed (wL th m fu n s):=by
 unfold oJ wL;rw[ti];split;have hv:=λx=>amW h.m.1 n x (bF s);refine Eq.trans (aho m (js m n (bF s)) n s ?_ _ (amV h.m) λx _ hx=> ?_) (congrArg (List.map (gK (js m n (bF s)))) (aqr h.m n (bF s))).symm;exact(congrArg (λz=>kM n (aB z)) ((hv n).trans (if_pos rfl))).trans (congrArg (kM n) (lI s));exact congrArg (λz=>kM x (aB z)) ((hv x).trans (if_neg hx));rfl
theorem xz{th:Th}{fu:Int}(h:okF fu)(n:Int)(s:ByteArray):fU (dt th) fu n s=wM th fu n s:=by
 unfold fU wM;rw[abm,aqq h]
def mRR:List AV->RM ((List ByteArray×Kp×Int×Int)×List Nat)
 |[.ptr id 0,n]=>(mR [.ptr id 0]).bind λ((t,a,f),σ)=>match n.cD with
  |some (_,_,n)=>.ret ((t,a,f,n),σ)|none=>.fail ""
 |_=>.fail ""
abbrev axh:=cu sRR mRR
abbrev axi:=cu sRW mWi
def adQ:aF:=[(111,axh),(136,axi)]
abbrev aqs:List FuncId:=[110,35,60]
def adR:List (Nat×Norm):=[(jV+5,⟨[],[],1,[]⟩)]
def ajh:List (Nat×Norm):=[(6,⟨[],[0,1,7],1,roL⟩),(jV+9,⟨[],[],1,[]⟩)]
def cQw(t:List ByteArray)(a:Kp)(f n:Int)(w:ByteArray):bQ:=⟨sl 54 [(0,.ptr 0 0),(1,az n),(7,.s (.str w))],[pw t a f],hd f127 6,{}⟩
theorem azh(t:List ByteArray)(a:Kp)(f n:Int):run P adQ.sum f80 adR (start f80 [.ptr 0 0,az n] [pw t a f]) aqs=
 Tree.ite (decide (n>=0))
 (.ab ((4:Int)≠0)
   (.ab (aw ((↑t.length:Int).tdiv 4))
     (.ite (!decide (n<(↑t.length:Int).tdiv 4)) (.ret [.ak [.s (.ro (.strs t)),.s (.ro (.ah cK a)),.s (.int .i64 f)] 78] (.bd [.s (.str empty),.s (.aO .i64 5)]))
       (.ab (aw ((4:Int)*n))
         (.ab (aw ((4:Int)*n+0))
           (.ab (bD (some [AV.ptr 0 0,.s (.int .i64 ((4:Int)*n+0))]))
             (.ab (bD (some [au.ak [.s (.ro (.strs t)),.s (.ro (.ah cK a)),.s (.int .i64 f)] 78]))
               (.ab (okR t a f)
                 (.ab (empty.size+(dQ t a ((4:Int)*n+0)).size<=4611686018427387904)
                   (.ab (aw ((4:Int)*n))
                     (.ab (aw ((4:Int)*n+1))
                       (.ab (bD (some [AV.ptr 0 0,.s (.int .i64 ((4:Int)*n+1))]))
                         (.ab (bD (some [au.ak [.s (.ro (.strs t)),.s (.ro (.ah cK a)),.s (.int .i64 f)] 78]))
                           (.ab (okR t a f)
                             (.ab ((empty++dQ t a ((4:Int)*n+0)).size+(dQ t a ((4:Int)*n+1)).size<=4611686018427387904)
                               (.ab (aw ((4:Int)*n))
                                 (.ab (aw ((4:Int)*n+2))
                                   (.ab (bD (some [AV.ptr 0 0,.s (.int .i64 ((4:Int)*n+2))]))
                                     (.ab (bD (some [au.ak [.s (.ro (.strs t)),.s (.ro (.ah cK a)),.s (.int .i64 f)] 78]))
                                       (.ab (okR t a f)
                                         (.ab ((empty++dQ t a ((4:Int)*n+0)++dQ t a ((4:Int)*n+1)).size+(dQ t a ((4:Int)*n+2)).size<=4611686018427387904)
                                           (.ab (aw ((4:Int)*n))
                                             (.ab (aw ((4:Int)*n+3))
                                               (.ab (bD (some [AV.ptr 0 0,.s (.int .i64 ((4:Int)*n+3))]))
                                                 (.ab (bD (some [au.ak [.s (.ro (.strs t)),.s (.ro (.ah cK a)),.s (.int .i64 f)] 78]))
                                                   (.ab (okR t a f)
                                                     (.ab ((empty++dQ t a ((4:Int)*n+0)++dQ t a ((4:Int)*n+1)++dQ t a ((4:Int)*n+2)).size+(dQ t a ((4:Int)*n+3)).size<=4611686018427387904)
                                                       (.ab ((0:Int)<=0)
                                                         (.ab ((0:Int)<(↑(empty++dQ t a ((4:Int)*n+0)++dQ t a ((4:Int)*n+1)++dQ t a ((4:Int)*n+2)++dQ t a ((4:Int)*n+3)).size:Int))
                                                           (.ab (aw (ax (empty++dQ t a ((4:Int)*n+0)++dQ t a ((4:Int)*n+1)++dQ t a ((4:Int)*n+2)++dQ t a ((4:Int)*n+3)) (Int.toNat 0)))
                                                             (.ab (aw (ax (empty++dQ t a ((4:Int)*n+0)++dQ t a ((4:Int)*n+1)++dQ t a ((4:Int)*n+2)++dQ t a ((4:Int)*n+3)) (Int.toNat 0)*256))
                                                               (.ab ((0:Int)<=1)
                                                                 (.ab ((1:Int)<(↑(empty++dQ t a ((4:Int)*n+0)++dQ t a ((4:Int)*n+1)++dQ t a ((4:Int)*n+2)++dQ t a ((4:Int)*n+3)).size:Int))
                                                                   (.ab (aw (ax (empty++dQ t a ((4:Int)*n+0)++dQ t a ((4:Int)*n+1)++dQ t a ((4:Int)*n+2)++dQ t a ((4:Int)*n+3)) (Int.toNat 1))) (.ab (aw (ax (empty++dQ t a ((4:Int)*n+0)++dQ t a ((4:Int)*n+1)++dQ t a ((4:Int)*n+2)++dQ t a ((4:Int)*n+3)) (Int.toNat 0)*256+ax (empty++dQ t a ((4:Int)*n+0)++dQ t a ((4:Int)*n+1)++dQ t a ((4:Int)*n+2)++dQ t a ((4:Int)*n+3)) (Int.toNat 1))) (.ite (decide (ax (empty++dQ t a ((4:Int)*n+0)++dQ t a ((4:Int)*n+1)++dQ t a ((4:Int)*n+2)++dQ t a ((4:Int)*n+3)) (Int.toNat 0)*256+ax (empty++dQ t a ((4:Int)*n+0)++dQ t a ((4:Int)*n+1)++dQ t a ((4:Int)*n+2)++dQ t a ((4:Int)*n+3)) (Int.toNat 1)>254)) (.ret [.ak [.s (.ro (.strs t)),.s (.ro (.ah cK a)),.s (.int .i64 f)] 78] (.bd [.s (.str empty),.s (.aO .i64 4)])) (.ab (aw ((2:Int)+(ax (empty++dQ t a ((4:Int)*n+0)++dQ t a ((4:Int)*n+1)++dQ t a ((4:Int)*n+2)++dQ t a ((4:Int)*n+3)) (Int.toNat 0)*256+ax (empty++dQ t a ((4:Int)*n+0)++dQ t a ((4:Int)*n+1)++dQ t a ((4:Int)*n+2)++dQ t a ((4:Int)*n+3)) (Int.toNat 1)))) (.ab ((0:Int)<=2) (.ab ((2:Int)<=2+(ax (empty++dQ t a ((4:Int)*n+0)++dQ t a ((4:Int)*n+1)++dQ t a ((4:Int)*n+2)++dQ t a ((4:Int)*n+3)) (Int.toNat 0)*256+ax (empty++dQ t a ((4:Int)*n+0)++dQ t a ((4:Int)*n+1)++dQ t a ((4:Int)*n+2)++dQ t a ((4:Int)*n+3)) (Int.toNat 1))) (.ab ((2:Int)+(ax (empty++dQ t a ((4:Int)*n+0)++dQ t a ((4:Int)*n+1)++dQ t a ((4:Int)*n+2)++dQ t a ((4:Int)*n+3)) (Int.toNat 0)*256+ax (empty++dQ t a ((4:Int)*n+0)++dQ t a ((4:Int)*n+1)++dQ t a ((4:Int)*n+2)++dQ t a ((4:Int)*n+3)) (Int.toNat 1))<=(↑(empty++dQ t a ((4:Int)*n+0)++dQ t a ((4:Int)*n+1)++dQ t a ((4:Int)*n+2)++dQ t a ((4:Int)*n+3)).size:Int)) (.ret [.ak [.s (.ro (.strs t)),.s (.ro (.ah cK a)),.s (.int .i64 f)] 78] (.bd [.s (.str ((empty++dQ t a ((4:Int)*n+0)++dQ t a ((4:Int)*n+1)++dQ t a ((4:Int)*n+2)++dQ t a ((4:Int)*n+3)).extract (Int.toNat 2) ((2:Int)+(ax (empty++dQ t a ((4:Int)*n+0)++dQ t a ((4:Int)*n+1)++dQ t a ((4:Int)*n+2)++dQ t a ((4:Int)*n+3)) (Int.toNat 0)*256+ax (empty++dQ t a ((4:Int)*n+0)++dQ t a ((4:Int)*n+1)++dQ t a ((4:Int)*n+2)++dQ t a ((4:Int)*n+3)) (Int.toNat 1))).toNat)),.s (.aO .i64 0)]))))))))))))))))))))))))))))))))))))))))))
 (.ret [.ak [.s (.ro (.strs t)),.s (.ro (.ah cK a)),.s (.int .i64 f)] 78] (.bd [.s (.str empty),.s (.aO .i64 5)])):=by kernel_rfl
theorem azi(t:List ByteArray)(a:Kp)(f n:Int)(s:ByteArray):run P adQ.sum f127 ajh (start f127 [.ptr 0 0,az n,.s (.str s)] [pw t a f]) aqs=
 Tree.ite (decide (n≥(0:Int))) (Tree.ab ((4:Int)≠(0:Int)) (Tree.ab (aw ((↑t.length:Int).tdiv (4:Int))) (Tree.ite (!decide (n<(↑t.length:Int).tdiv (4:Int))) (Tree.ret [au.ak [AV.s (SV.ro (ba.strs t)),AV.s (SV.ro (ba.ah cK a)),AV.s (SV.int i64 f)] (78:Nat)] (AV.s (SV.aO i64 (5:Int)))) (Tree.ite (decide ((↑s.size:Int)>(254:Int))) (Tree.ret [au.ak [AV.s (SV.ro (ba.strs t)),AV.s (SV.ro (ba.ah cK a)),AV.s (SV.int i64 f)] (78:Nat)] (AV.s (SV.aO i64 (40:Int)))) (Tree.ab ((256:Int)≠(0:Int)) (Tree.ab (aw ((↑s.size:Int).tdiv (256:Int))) (Tree.ab ((256:Int)≠(0:Int)) (Tree.ab ((aB [u8.wrap ((↑s.size:Int).tdiv (256:Int)),u8.wrap ((↑s.size:Int).tmod (256:Int))]).size+s.size≤(4611686018427387904:Nat)) (Tree.at (cQw t a f n (aB [u8.wrap ((↑s.size:Int).tdiv (256:Int)),u8.wrap ((↑s.size:Int).tmod (256:Int))]++s))))))))))) (Tree.ret [au.ak [AV.s (SV.ro (ba.strs t)),AV.s (SV.ro (ba.ah cK a)),AV.s (SV.int i64 f)] (78:Nat)] (AV.s (SV.aO i64 (5:Int)))):=by kernel_rfl
theorem amX(t:List ByteArray)(a:Kp)(f n:Int)(w:ByteArray):run P adQ.sum f127 ajh (cQw t a f n w) aqs=
 Tree.ite (decide ((↑w.size:Int)<256)) (.ab (w.size+(ByteArray.mk #[(0:UInt8)]).size<=4611686018427387904) (.at (cQw t a f n (w++ByteArray.mk #[(0:UInt8)]))))
 (.ab (aw ((4:Int)*n))
   (.ab (aw ((4:Int)*n+0))
     (.ab ((0:Int)<=0)
       (.ab ((0:Int)<=64)
         (.ab ((64:Int)<=(↑w.size:Int))
           (.ab (bD (some [AV.ptr 0 0,.s (.int .i64 ((4:Int)*n+0)),.s (.str (w.extract (Int.toNat 0) (Int.toNat 64)))]))
             (.ab (bD (some [au.ak [.s (.ro (.strs t)),.s (.ro (.ah cK a)),.s (.int .i64 f)] 78]))
               (.ab (okR t a f)
                 (.ite (te t f ((4:Int)*n+0) (w.extract (Int.toNat 0) (Int.toNat 64)) !=0) (.ret [.ak [.s (.ro (.strs t)),.s (.ro (.ah cK (oJ t a f ((4:Int)*n+0) (w.extract (Int.toNat 0) (Int.toNat 64))))),.s (.int .i64 (fU t f ((4:Int)*n+0) (w.extract (Int.toNat 0) (Int.toNat 64))))] 78] (.s (.int .i64 (te t f ((4:Int)*n+0) (w.extract (Int.toNat 0) (Int.toNat 64))))))
                   (.ab (aw ((4:Int)*n))
                     (.ab (aw ((4:Int)*n+1))
                       (.ab ((0:Int)<=64)
                         (.ab ((64:Int)<=128)
                           (.ab ((128:Int)<=(↑w.size:Int))
                             (.ab (bD (some [AV.ptr 0 0,.s (.int .i64 ((4:Int)*n+1)),.s (.str (w.extract (Int.toNat 64) (Int.toNat 128)))]))
                               (.ab (bD (some [au.ak [.s (.ro (.strs t)),.s (.ro (.ah cK (oJ t a f ((4:Int)*n+0) (w.extract (Int.toNat 0) (Int.toNat 64))))),.s (.int .i64 (fU t f ((4:Int)*n+0) (w.extract (Int.toNat 0) (Int.toNat 64))))] 78]))
                                 (.ab (okR t (oJ t a f ((4:Int)*n+0) (w.extract (Int.toNat 0) (Int.toNat 64))) (fU t f ((4:Int)*n+0) (w.extract (Int.toNat 0) (Int.toNat 64))))
                                   (.ite (te t (fU t f ((4:Int)*n+0) (w.extract (Int.toNat 0) (Int.toNat 64))) ((4:Int)*n+1) (w.extract (Int.toNat 64) (Int.toNat 128)) !=0) (.ret [.ak [.s (.ro (.strs t)),.s (.ro (.ah cK (oJ t (oJ t a f ((4:Int)*n+0) (w.extract (Int.toNat 0) (Int.toNat 64))) (fU t f ((4:Int)*n+0) (w.extract (Int.toNat 0) (Int.toNat 64))) ((4:Int)*n+1) (w.extract (Int.toNat 64) (Int.toNat 128))))),.s (.int .i64 (fU t (fU t f ((4:Int)*n+0) (w.extract (Int.toNat 0) (Int.toNat 64))) ((4:Int)*n+1) (w.extract (Int.toNat 64) (Int.toNat 128))))] 78] (.s (.int .i64 (te t (fU t f ((4:Int)*n+0) (w.extract (Int.toNat 0) (Int.toNat 64))) ((4:Int)*n+1) (w.extract (Int.toNat 64) (Int.toNat 128))))))
                                     (.ab (aw ((4:Int)*n))
                                       (.ab (aw ((4:Int)*n+2))
                                         (.ab ((0:Int)<=128)
                                           (.ab ((128:Int)<=192)
                                             (.ab ((192:Int)<=(↑w.size:Int))
                                               (.ab (bD (some [AV.ptr 0 0,.s (.int .i64 ((4:Int)*n+2)),.s (.str (w.extract (Int.toNat 128) (Int.toNat 192)))]))
                                                 (.ab (bD (some [au.ak [.s (.ro (.strs t)),.s (.ro (.ah cK (oJ t (oJ t a f ((4:Int)*n+0) (w.extract (Int.toNat 0) (Int.toNat 64))) (fU t f ((4:Int)*n+0) (w.extract (Int.toNat 0) (Int.toNat 64))) ((4:Int)*n+1) (w.extract (Int.toNat 64) (Int.toNat 128))))),.s (.int .i64 (fU t (fU t f ((4:Int)*n+0) (w.extract (Int.toNat 0) (Int.toNat 64))) ((4:Int)*n+1) (w.extract (Int.toNat 64) (Int.toNat 128))))] 78]))
                                                   (.ab (okR t (oJ t (oJ t a f ((4:Int)*n+0) (w.extract (Int.toNat 0) (Int.toNat 64))) (fU t f ((4:Int)*n+0) (w.extract (Int.toNat 0) (Int.toNat 64))) ((4:Int)*n+1) (w.extract (Int.toNat 64) (Int.toNat 128))) (fU t (fU t f ((4:Int)*n+0) (w.extract (Int.toNat 0) (Int.toNat 64))) ((4:Int)*n+1) (w.extract (Int.toNat 64) (Int.toNat 128))))
                                                     (.ite (te t (fU t (fU t f ((4:Int)*n+0) (w.extract (Int.toNat 0) (Int.toNat 64))) ((4:Int)*n+1) (w.extract (Int.toNat 64) (Int.toNat 128))) ((4:Int)*n+2) (w.extract (Int.toNat 128) (Int.toNat 192)) !=0) (.ret [.ak [.s (.ro (.strs t)),.s (.ro (.ah cK (oJ t (oJ t (oJ t a f ((4:Int)*n+0) (w.extract (Int.toNat 0) (Int.toNat 64))) (fU t f ((4:Int)*n+0) (w.extract (Int.toNat 0) (Int.toNat 64))) ((4:Int)*n+1) (w.extract (Int.toNat 64) (Int.toNat 128))) (fU t (fU t f ((4:Int)*n+0) (w.extract (Int.toNat 0) (Int.toNat 64))) ((4:Int)*n+1) (w.extract (Int.toNat 64) (Int.toNat 128))) ((4:Int)*n+2) (w.extract (Int.toNat 128) (Int.toNat 192))))),.s (.int .i64 (fU t (fU t (fU t f ((4:Int)*n+0) (w.extract (Int.toNat 0) (Int.toNat 64))) ((4:Int)*n+1) (w.extract (Int.toNat 64) (Int.toNat 128))) ((4:Int)*n+2) (w.extract (Int.toNat 128) (Int.toNat 192))))] 78] (.s (.int .i64 (te t (fU t (fU t f ((4:Int)*n+0) (w.extract (Int.toNat 0) (Int.toNat 64))) ((4:Int)*n+1) (w.extract (Int.toNat 64) (Int.toNat 128))) ((4:Int)*n+2) (w.extract (Int.toNat 128) (Int.toNat 192))))))
                                                       (.ab (aw ((4:Int)*n))
                                                         (.ab (aw ((4:Int)*n+3))
                                                           (.ab ((0:Int)<=192)
                                                             (.ab ((192:Int)<=256)
                                                               (.ab ((256:Int)<=(↑w.size:Int))
                                                                 (.ab (bD (some [AV.ptr 0 0,.s (.int .i64 ((4:Int)*n+3)),.s (.str (w.extract (Int.toNat 192) (Int.toNat 256)))]))
                                                                   (.ab (bD (some [au.ak [.s (.ro (.strs t)),.s (.ro (.ah cK (oJ t (oJ t (oJ t a f ((4:Int)*n+0) (w.extract (Int.toNat 0) (Int.toNat 64))) (fU t f ((4:Int)*n+0) (w.extract (Int.toNat 0) (Int.toNat 64))) ((4:Int)*n+1) (w.extract (Int.toNat 64) (Int.toNat 128))) (fU t (fU t f ((4:Int)*n+0) (w.extract (Int.toNat 0) (Int.toNat 64))) ((4:Int)*n+1) (w.extract (Int.toNat 64) (Int.toNat 128))) ((4:Int)*n+2) (w.extract (Int.toNat 128) (Int.toNat 192))))),.s (.int .i64 (fU t (fU t (fU t f ((4:Int)*n+0) (w.extract (Int.toNat 0) (Int.toNat 64))) ((4:Int)*n+1) (w.extract (Int.toNat 64) (Int.toNat 128))) ((4:Int)*n+2) (w.extract (Int.toNat 128) (Int.toNat 192))))] 78]))
                                                                     (.ab (okR t (oJ t (oJ t (oJ t a f ((4:Int)*n+0) (w.extract (Int.toNat 0) (Int.toNat 64))) (fU t f ((4:Int)*n+0) (w.extract (Int.toNat 0) (Int.toNat 64))) ((4:Int)*n+1) (w.extract (Int.toNat 64) (Int.toNat 128))) (fU t (fU t f ((4:Int)*n+0) (w.extract (Int.toNat 0) (Int.toNat 64))) ((4:Int)*n+1) (w.extract (Int.toNat 64) (Int.toNat 128))) ((4:Int)*n+2) (w.extract (Int.toNat 128) (Int.toNat 192))) (fU t (fU t (fU t f ((4:Int)*n+0) (w.extract (Int.toNat 0) (Int.toNat 64))) ((4:Int)*n+1) (w.extract (Int.toNat 64) (Int.toNat 128))) ((4:Int)*n+2) (w.extract (Int.toNat 128) (Int.toNat 192))))
                                                                       (.ite (te t (fU t (fU t (fU t f ((4:Int)*n+0) (w.extract (Int.toNat 0) (Int.toNat 64))) ((4:Int)*n+1) (w.extract (Int.toNat 64) (Int.toNat 128))) ((4:Int)*n+2) (w.extract (Int.toNat 128) (Int.toNat 192))) ((4:Int)*n+3) (w.extract (Int.toNat 192) (Int.toNat 256)) !=0) (.ret [.ak [.s (.ro (.strs t)),.s (.ro (.ah cK (oJ t (oJ t (oJ t (oJ t a f ((4:Int)*n+0) (w.extract (Int.toNat 0) (Int.toNat 64))) (fU t f ((4:Int)*n+0) (w.extract (Int.toNat 0) (Int.toNat 64))) ((4:Int)*n+1) (w.extract (Int.toNat 64) (Int.toNat 128))) (fU t (fU t f ((4:Int)*n+0) (w.extract (Int.toNat 0) (Int.toNat 64))) ((4:Int)*n+1) (w.extract (Int.toNat 64) (Int.toNat 128))) ((4:Int)*n+2) (w.extract (Int.toNat 128) (Int.toNat 192))) (fU t (fU t (fU t f ((4:Int)*n+0) (w.extract (Int.toNat 0) (Int.toNat 64))) ((4:Int)*n+1) (w.extract (Int.toNat 64) (Int.toNat 128))) ((4:Int)*n+2) (w.extract (Int.toNat 128) (Int.toNat 192))) ((4:Int)*n+3) (w.extract (Int.toNat 192) (Int.toNat 256))))),.s (.int .i64 (fU t (fU t (fU t (fU t f ((4:Int)*n+0) (w.extract (Int.toNat 0) (Int.toNat 64))) ((4:Int)*n+1) (w.extract (Int.toNat 64) (Int.toNat 128))) ((4:Int)*n+2) (w.extract (Int.toNat 128) (Int.toNat 192))) ((4:Int)*n+3) (w.extract (Int.toNat 192) (Int.toNat 256))))] 78] (.s (.int .i64 (te t (fU t (fU t (fU t f ((4:Int)*n+0) (w.extract (Int.toNat 0) (Int.toNat 64))) ((4:Int)*n+1) (w.extract (Int.toNat 64) (Int.toNat 128))) ((4:Int)*n+2) (w.extract (Int.toNat 128) (Int.toNat 192))) ((4:Int)*n+3) (w.extract (Int.toNat 192) (Int.toNat 256)))))) (.ret [.ak [.s (.ro (.strs t)),.s (.ro (.ah cK (oJ t (oJ t (oJ t (oJ t a f ((4:Int)*n+0) (w.extract (Int.toNat 0) (Int.toNat 64))) (fU t f ((4:Int)*n+0) (w.extract (Int.toNat 0) (Int.toNat 64))) ((4:Int)*n+1) (w.extract (Int.toNat 64) (Int.toNat 128))) (fU t (fU t f ((4:Int)*n+0) (w.extract (Int.toNat 0) (Int.toNat 64))) ((4:Int)*n+1) (w.extract (Int.toNat 64) (Int.toNat 128))) ((4:Int)*n+2) (w.extract (Int.toNat 128) (Int.toNat 192))) (fU t (fU t (fU t f ((4:Int)*n+0) (w.extract (Int.toNat 0) (Int.toNat 64))) ((4:Int)*n+1) (w.extract (Int.toNat 64) (Int.toNat 128))) ((4:Int)*n+2) (w.extract (Int.toNat 128) (Int.toNat 192))) ((4:Int)*n+3) (w.extract (Int.toNat 192) (Int.toNat 256))))),.s (.int .i64 (fU t (fU t (fU t (fU t f ((4:Int)*n+0) (w.extract (Int.toNat 0) (Int.toNat 64))) ((4:Int)*n+1) (w.extract (Int.toNat 64) (Int.toNat 128))) ((4:Int)*n+2) (w.extract (Int.toNat 128) (Int.toNat 192))) ((4:Int)*n+3) (w.extract (Int.toNat 192) (Int.toNat 256))))] 78] (.s (.aO .i64 0))))))))))))))))))))))))))))))))))))))):=by kernel_rfl
theorem azj(t:List ByteArray)(a:Kp)(f:Int):run P adQ.sum f35 [] (start f35 [.ptr 0 0] [pw t a f]) aqs=
 Tree.ab ((4:Int)≠0) (.ab (aw ((↑t.length:Int).tdiv 4)) (.ret [.ak [.s (.ro (.strs t)),.s (.ro (.ah cK a)),.s (.int .i64 f)] 78] (.s (.int .i64 ((↑t.length:Int).tdiv 4))))):=by kernel_rfl
def cc(t:List ByteArray)(a:Kp)(f:Int):Prop:=∃(th:Th) (m:As),cf th m f/\t=dt th/\a=ed m
def abn(t:List ByteArray):Int:=(t.length:Int).tdiv 4
def aqt(t:List ByteArray)(n:Int):Bool:=decide (0<=n)&&decide (n<abn t)
def aji(t:List ByteArray)(a:Kp)(n:Int):Nat->List Int
 |0=>[]|k+1=>aji t a n k++bF (dQ t a (n*4+(k:Int)))
def qrE(t:List ByteArray)(a:Kp)(n:Int):Int:=if aqt t n=true then(if jC (aji t a n 4)>254 then 4 else 0)else 5
def qrS(t:List ByteArray)(a:Kp)(n:Int):ByteArray:=if qrE t a n=0 then aB (((aji t a n 4).drop 2).take (jC (aji t a n 4)).toNat)else empty
def qwG(t:List ByteArray)(n:Int)(ws:List Int):Nat->Nat->Kp->Int->Kp×Int×Int
 |0,_,a,f=>(a,f,0)|j+1,k,a,f=>if te t f (n*4+(k:Int)) (gh ws k)=0 then qwG t n ws j (k+1) (oJ t a f (n*4+(k:Int)) (gh ws k)) (fU t f (n*4+(k:Int)) (gh ws k))
   else(oJ t a f (n*4+(k:Int)) (gh ws k),fU t f (n*4+(k:Int)) (gh ws k),te t f (n*4+(k:Int)) (gh ws k))
def qwC(t:List ByteArray)(n:Int)(s:ByteArray):Int:=if aqt t n=true then(if(s.size:Int)>254 then 40 else 0)else 5
def nD(t:List ByteArray)(a:Kp)(f n:Int)(s:ByteArray):Kp×Int×Int:=if qwC t n s=0 then qwG t n (pq s) 4 0 a f else(a,f,qwC t n s)
abbrev sQr:Spec (List ByteArray×Kp×Int×Int):=⟨λ(_,_,_,n)=>[.ptr 0 0,az n],λ(t,a,f,_)=>[pw t a f],λ(t,a,f,_)=>[cc t a f],λ(t,a,f,_)=>[pw t a f],λ(t,a,_,n)=>.bd [.s (.str (qrS t a n)),az (qrE t a n)]⟩
abbrev sQw:Spec (List ByteArray×Kp×Int×Int×ByteArray):=⟨λ(_,_,_,n,s)=>[.ptr 0 0,az n,.s (.str s)],λ(t,a,f,_)=>[pw t a f],λ(t,a,f,_)=>[cc t a f],λ(t,a,f,n,s)=>[pw t (nD t a f n s).1 (nD t a f n s).2.1],λ(t,a,f,n,s)=>az (nD t a f n s).2.2⟩
abbrev sQp:Spec (List ByteArray×Kp×Int):=⟨λ_=>[.ptr 0 0],λ(t,a,f)=>[pw t a f],λ(t,a,f)=>[cc t a f],λ(t,a,f)=>[pw t a f],λ(t,_,_)=>az (abn t)⟩
theorem pj(th:Th):abn (dt th)=tV th:=by unfold abn tV;rw[ph]
theorem ahp(th:Th)(n:Int):aqt (dt th) n=pOk th n:=by unfold aqt pOk;rw[pj]
theorem abo{th:Th}{m:As}{f:Int}(h:cf th m f)(n:Int):∀k,aji (dt th) (ed m) n k=pgL th m n k
 |0=>rfl|k+1=>by rw[aji,pgL,abo h n k,(arN h _).1]
theorem arP{th:Th}{m:As}{f:Int}(h:cf th m f)(n:Int):qrE (dt th) (ed m) n=nr th m n/\qrS (dt th) (ed m) n=kX th m n:=by
 have e:qrE (dt th) (ed m) n=nr th m n:=by unfold qrE nr;rw[abo h,ahp];rfl
 exact⟨e,by unfold qrS kX;rw[e,abo h];rfl⟩
theorem amY{th:Th}{n:Int}{ws:List Int}:∀(j k:Nat) (m:As) (f:Int),cf th m f->qwG (dt th) n ws j k (ed m) f=(ed (wrG th n ws j k m f).1,(wrG th n ws j k m f).2)
 |0,k,m,f,h=>rfl|j+1,k,m,f,h=>by
  unfold qwG wrG;rw[ti,xy h,xz h.f];split;exact amY j (k+1) _ _ (wO h);rfl
theorem amZ{th:Th}{m:As}{f:Int}(h:cf th m f)(n:Int)(s:ByteArray):nD (dt th) (ed m) f n s=(ed (me th m f n s).1,(me th m f n s).2):=by
 have ec:qwC (dt th) n s=gwC th n s:=by unfold qwC gwC;rw[ahp]
 unfold nD me;rw[ec];split;exact amY 4 0 m f h;rfl
theorem oK{Z:aZ}:adQ.Ok P Z:=aF.Ok.cons (axf.sum mRR) (aF.Ok.cons (axg.sum mWi) aF.Ok.nil)
theorem axj{Z:aZ}:fD P Z 35 sQp:=by
 refine fS func35 ?_;rintro⟨t,a,f⟩ ⟨⟨th,m,hd,rfl,rfl⟩,_⟩ X hX hz;have h4:=hd.t.1;have:=mW th;have e:((dt th).length:Int).tdiv 4=tV th:=pj th;refine cA hz hX (by simp) oK func35 (azj _ _ f) ?_;rw[e];exact⟨by decide,⟨by omega,by omega⟩,bK 1 rfl (le_refl _) (by show az (abn _)=_;rw[pj];rfl) rfl⟩
theorem ajj{th:Th}{m:As}(n:Int):empty++tQ th m (4*n+0)++tQ th m (4*n+1)++tQ th m (4*n+2)++tQ th m (4*n+3)=aB (po th m n):=by
 show _=aB (pgL th m n 4);simp only[pgL,mV,lI];rw[show n*4+((0:Nat):Int)=4*n+0 from by omega,show n*4+((1:Nat):Int)=4*n+1 from by omega,show n*4+((2:Nat):Int)=4*n+2 from by omega,show n*4+((3:Nat):Int)=4*n+3 from by omega];rfl
theorem axk{Z:aZ}:fD P Z 80 sQr:=by
 refine fS func80 ?_;rintro⟨t,a,f,n⟩ ⟨⟨th,m,hd,rfl,rfl⟩,_⟩ X hX hz;have mc:∀x∈adR,(sQr.heap (dt th,ed m,f,n)).length<=x.2.m:=by intro y hy;simp[adR,jV]at hy;rcases hy with rfl;exact le_refl _
 have h4:=hd.t.1;have hN:=mW th;have hR:=xw hd;have e:((dt th).length:Int).tdiv 4=tV th:=pj th;have⟨o1,o2⟩:=arP hd n
 have bad:¬(0<=n/\n<tV th)->nr th m n=5/\kX th m n=empty:=λh=>by
  have h5:nr th m n=5:=by unfold nr;rw[if_neg (λh2=>h (dW.1 h2))]
  exact⟨h5,by unfold kX;rw[if_neg (by rw[h5];decide)]⟩
 refine cA hz hX mc oK func80 (azh _ _ f n) ?_;simp only[(arN hd _).1,e,ajj];by_cases hp:0<=n/\n<tV th
 ·have hpo:=dW.2 hp;have sz:∀k:Nat,k<4->(tQ th m (n*4+(k:Int))).size=64:=λk hk=>aaI hd (afd hpo hk);have s0:=sz 0 (by omega);have s1:=sz 1 (by omega);have s2:=sz 2 (by omega);have s3:=sz 3 (by omega);rw[show n*4+((0:Nat):Int)=4*n+0 from by omega]at s0;rw[show n*4+((1:Nat):Int)=4*n+1 from by omega]at s1;rw[show n*4+((2:Nat):Int)=4*n+2 from by omega]at s2;rw[show n*4+((3:Nat):Int)=4*n+3 from by omega]at s3;have hl:(po th m n).length=256:=aaJ hd hpo 4 (by omega);have hb:∀x∈po th m n,0<=x/\x<=255:=rB 4
  have b:∀i,i<256->ax (aB (po th m n)) i=(po th m n).getD i 0/\0<=(po th m n).getD i 0/\(po th m n).getD i 0<=255:=λi hi=>by
   have hr:0<=(po th m n).getD i 0/\(po th m n).getD i 0<=255:=by rw[bT (by omega)];exact hb _ (getElem_mem _)
   exact⟨aaL (by omega) hr,hr⟩
  have⟨b0,b01,b02⟩:=b 0 (by omega);have⟨b1,b11,b12⟩:=b 1 (by omega);have hs:(aB (po th m n)).size=256:=by rw[jW,hl]
  have z0:empty.size=0:=rfl;rw[show Int.toNat 0=0 from rfl,show Int.toNat 1=1 from rfl,b0,b1,hs];simp only[ByteArray.size_append,s0,s1,s2,s3,z0];have hg:(po th m n).getD 0 0*256+(po th m n).getD 1 0=jC (po th m n):=rfl
  have g1:jC (po th m n)>254->nr th m n=4/\kX th m n=empty:=λh=>by
   have h5:nr th m n=4:=by unfold nr;rw[if_pos hpo,if_pos h]
   exact⟨h5,by unfold kX;rw[if_neg (by rw[h5];decide)]⟩
  have g2:¬jC (po th m n)>254->nr th m n=0/\kX th m n=(aB (po th m n)).extract 2 (2+(jC (po th m n)).toNat):=λh=>by
   have h5:nr th m n=0:=by unfold nr;rw[if_pos hpo,if_neg h]
   refine⟨h5, ?_⟩;unfold kX;rw[if_pos h5,pL,List.drop_take,Nat.add_sub_cancel_left]
  have hl0:0<=jC (po th m n):=by rw[<-hg];omega
  have hl1:jC (po th m n)<=65535:=by rw[<-hg];omega
  simp only[hg];generalize jC (po th m n)=l at *;generalize (po th m n).getD 0 0=x0 at *;generalize (po th m n).getD 1 0=x1 at *;generalize aB (po th m n)=A at *;clear b hb
  repeat' (with_reducible (first|refine x8 ?_|refine lD ?_ ?_|refine pF (λ_=> ?_) (λ_=> ?_)|refine pG (λ_=> ?_) (λ_=> ?_)|refine pH (λ_=> ?_) (λ_=> ?_)|refine x9 ?_|refine ya ?_|refine pI ?_|refine pJ (λ_=> ?_) (λ_=> ?_)|refine lG (λ_=> ?_) (λ_=> ?_)|refine pK ?_|refine yb ?_))
  all_goals first|omega|exact⟨by omega,by omega⟩|assumption|trivial|skip
  ·have⟨q1,q2⟩:=g1 (by omega);refine bK 1 rfl (le_refl _) ?_ rfl;show AV.bd _=_;rw[o1,o2,q1,q2];rfl
  ·have⟨q1,q2⟩:=g2 (by omega);refine bK 1 rfl (le_refl _) ?_ rfl;show AV.bd _=_;rw[o1,o2,q1,q2,show(2+l).toNat=2+l.toNat from by omega];rfl
 ·have⟨q1,q2⟩:=bad hp
  have fin:fq sQr (dt th,ed m,f,n) [pw (dt th) (ed m) f] (.bd [.s (.str empty),.s (.aO .i64 5)]):=by
   refine bK 1 rfl (le_refl _) ?_ rfl;show AV.bd _=_;rw[o1,o2,q1,q2];rfl
  refine⟨λh=>⟨by decide,⟨by omega,by omega⟩,λ_=>fin,λh2=> ?_⟩,λ_=>fin⟩;have h:=of_decide_eq_true h;have h2:n<tV th:=by simpa using h2
  exact absurd ⟨h,h2⟩ hp
theorem am0(s:ByteArray):aB [u8.wrap ((s.size:Int).tdiv 256),u8.wrap ((s.size:Int).tmod 256)]++s=aB ((s.size:Int) / 256%256::(s.size:Int)%256::bF s):=by
 have e:((s.size:Int) / 256%256::(s.size:Int)%256::bF s)=[(s.size:Int) / 256%256,(s.size:Int)%256]++bF s:=rfl;rw[e,mV,lI,wrap_u8,wrap_u8,Int.tdiv_eq_ediv_of_nonneg (by omega),Int.tmod_eq_emod_of_nonneg (by omega),Int.emod_emod]
theorem adS{s:ByteArray}(h:s.size<=254):pq s=((s.size:Int) / 256%256::(s.size:Int)%256::bF s)++replicate (254 - s.size) 0:=by
 unfold pq;rw[show(s.size:Int) / 256%256=(s.size:Int) / 256 from by omega];rfl
theorem lj{ws:List Int}(k:Nat):(aB ws).extract (64*k) (64*k+64)=gh ws k:=by
 unfold gh;rw[pL,List.drop_take,Nat.add_sub_cancel_left]
theorem auo{Z:aZ}{X:Ctx}{th:Th}{m:As}{f n:Int}{s:ByteArray}(hX:X.H=lk (sQw.heap (dt th,ed m,f,n,s)))(hz:cP Z X)(hd:cf th m f)(hp:pOk th n=true)(wQ:s.size<=254):
 Safe P 127 X (fq sQw (dt th,ed m,f,n,s)) (cQw (dt th) (ed m) f n (aB (pq s))):=by
 have mc:∀x∈ajh,(sQw.heap (dt th,ed m,f,n,s)).length<=x.2.m:=by intro y hy;simp[ajh,jV]at hy;rcases hy with rfl|rfl<;>exact le_refl _
 have hl:=aaK wQ;have⟨p0,p1⟩:=dW.1 hp;have hN:=mW th;have h4:=hd.t.1;have ec:gwC th n s=0:=by unfold gwC;rw[if_pos hp,if_neg (by omega)]
 have eg:me th m f n s=wrG th n (pq s) 4 0 m f:=by unfold me;rw[ec,if_pos rfl]
 have o:=amZ hd n s;rw[eg]at o;simp only[wrG]at o;refine cA hz hX mc oK func127 (amX _ _ f n _) ?_;rw[jW,hl];rw[show Int.toNat 0=64*0 from rfl,show Int.toNat 64=64*0+64 from rfl,lj,show(64*0+64)=64*1 from rfl,show Int.toNat 128=64*1+64 from rfl,lj,show(64*1+64)=64*2 from rfl,show Int.toNat 192=64*2+64 from rfl,lj,show(64*2+64)=64*3 from rfl,show Int.toNat 256=64*3+64 from rfl,lj];rw[show 4*n+0=n*4+((0:Nat):Int)from by omega,show 4*n+1=n*4+((1:Nat):Int)from by omega,show 4*n+2=n*4+((2:Nat):Int)from by omega,show 4*n+3=n*4+((3:Nat):Int)from by omega];have i0:aw (4*n):=⟨by omega,by omega⟩;have i1:∀k:Nat,k<4->aw (n*4+(k:Int)):=λk hk=>⟨by omega,by omega⟩;have i10:=i1 0 (by omega);have i11:=i1 1 (by omega);have i12:=i1 2 (by omega);have i13:=i1 3 (by omega);have d1:=wO (n:=n*4+((0:Nat):Int)) (s:=gh (pq s) 0) hd;have d2:=wO (n:=n*4+((1:Nat):Int)) (s:=gh (pq s) 1) d1;have d3:=wO (n:=n*4+((2:Nat):Int)) (s:=gh (pq s) 2) d2;have r0:=xw hd;have r1:=xw d1;have r2:=xw d2;have r3:=xw d3;simp only[zero_add]at o;rw[xy hd,xz hd.f,ti,xy d1,xz d1.f,ti,xy d2,xz d2.f,ti,xy d3,xz d3.f,ti];generalize hw4:wL th _ _ (n*4+((3:Nat):Int)) (gh (pq s) 3)=m4 at *;generalize hf4:wM th _ (n*4+((3:Nat):Int)) (gh (pq s) 3)=f4 at *;generalize he4:tT th _ (n*4+((3:Nat):Int)) (gh (pq s) 3)=e4 at *;generalize hw3:wL th _ _ (n*4+((2:Nat):Int)) (gh (pq s) 2)=m3 at *;generalize hf3:wM th _ (n*4+((2:Nat):Int)) (gh (pq s) 2)=f3 at *;generalize he3:tT th _ (n*4+((2:Nat):Int)) (gh (pq s) 2)=e3 at *;generalize hw2:wL th _ _ (n*4+((1:Nat):Int)) (gh (pq s) 1)=m2 at *;generalize hf2:wM th _ (n*4+((1:Nat):Int)) (gh (pq s) 1)=f2 at *;generalize he2:tT th _ (n*4+((1:Nat):Int)) (gh (pq s) 1)=e2 at *;generalize hw1:wL th _ _ (n*4+((0:Nat):Int)) (gh (pq s) 0)=m1 at *;generalize hf1:wM th _ (n*4+((0:Nat):Int)) (gh (pq s) 0)=f1 at *;generalize he1:tT th _ (n*4+((0:Nat):Int)) (gh (pq s) 0)=e1 at *
 repeat' (with_reducible (first|refine x8 ?_|refine lD ?_ ?_|refine pF (λ_=> ?_) (λ_=> ?_)|refine pG (λ_=> ?_) (λ_=> ?_)|refine pH (λ_=> ?_) (λ_=> ?_)|refine x9 ?_|refine ya ?_|refine pI ?_|refine pJ (λ_=> ?_) (λ_=> ?_)|refine lG (λ_=> ?_) (λ_=> ?_)|refine pK ?_|refine yb ?_))
 all_goals first|trivial|assumption|omega|skip
 all_goals refine yc 1 roL rfl (le_refl _) ?_ ?_<;>simp[o,tL, *]
theorem axl{Z:aZ}:fD P Z 127 sQw:=by
 refine fS func127 ?_;rintro⟨t,a,f,n,s⟩ ⟨⟨th,m,hd,rfl,rfl⟩,_⟩ X hX hz;have mc:∀x∈ajh,(sQw.heap (dt th,ed m,f,n,s)).length<=x.2.m:=by intro y hy;simp[ajh,jV]at hy;rcases hy with rfl|rfl<;>exact le_refl _
 have h4:=hd.t.1;have hN:=mW th;have e:((dt th).length:Int).tdiv 4=tV th:=pj th;have o:=amZ hd n s
 have bad:∀c,gwC th n s=c->c≠0->fq sQw (dt th,ed m,f,n,s) [pw (dt th) (ed m) f] (.s (.aO .i64 c)):=λc hc h0=>by
  have eg:me th m f n s=(m,f,c):=by unfold me;rw[hc,if_neg h0]
  rw[eg]at o;refine bK 1 rfl (le_refl _) ?_ ?_<;>simp[o,tL]
 refine cA hz hX mc oK func127 (azi _ _ f n s) ?_;rw[e];have bZ:(aB [u8.wrap ((s.size:Int).tdiv 256),u8.wrap ((s.size:Int).tmod 256)]).size=2:=rfl
 have loop:pOk th n=true->s.size<=254->∀(j:Nat) (w:ByteArray),w.size+j=256->w=aB ((pq s).take w.size)->s.size+2<=w.size->Safe P 127 X (fq sQw (dt th,ed m,f,n,s)) (cQw (dt th) (ed m) f n w):=by
  intro hp wQ j;have hl:=aaK wQ
  induction j with
  |zero=>
   intro w hw he _;rw[take_of_length_le (by omega)]at he;rw[he];exact auo hX hz hd hp wQ
  |succ j ih=>
   intro w hw he h2;have e0:(ByteArray.mk #[(0:UInt8)])=aB [0]:=rfl;have es:(w++ByteArray.mk #[(0:UInt8)]).size=w.size+1:=by rw[ByteArray.size_append];rfl
   have next:=ih (w++ByteArray.mk #[(0:UInt8)]) (by omega) (by
    rw[es,List.take_add_one,mV,<-he,e0];congr 1
    have:(pq s)[w.size]? =some 0:=by
     rw[adS wQ,getElem?_append_right (by rw[length_cons,length_cons,dL];omega),List.getElem?_replicate,if_pos (by rw[length_cons,length_cons,dL];omega)]
    rw[this];rfl) (by omega)
   refine cA hz hX mc oK func127 (amX _ _ f n w) ⟨λ_=>⟨?_,next⟩,λh=>absurd (of_decide_eq_false h) (by omega)⟩;rw[show(ByteArray.mk #[(0:UInt8)]).size=1 from rfl];omega
 rw[bZ];have lp:=loop;have hh:=am0 s
 repeat' (with_reducible (first|refine x8 ?_|refine lD ?_ ?_|refine pF (λ_=> ?_) (λ_=> ?_)|refine pG (λ_=> ?_) (λ_=> ?_)|refine pH (λ_=> ?_) (λ_=> ?_)|refine x9 ?_|refine ya ?_|refine pI ?_|refine pJ (λ_=> ?_) (λ_=> ?_)|refine lG (λ_=> ?_) (λ_=> ?_)|refine pK ?_|refine yb ?_))
 all_goals first|omega|exact⟨by omega,by omega⟩|skip
 all_goals first
  |exact bad 5 (by unfold gwC;rw[if_neg (λh=>by have:=dW.1 h;omega)]) (by decide)
  |exact bad 40 (by unfold gwC;rw[if_pos (dW.2 ⟨by omega,by omega⟩),if_pos (by omega)]) (by decide)
  |(rw[Int.tdiv_eq_ediv_of_nonneg (by omega)];exact⟨by omega,by omega⟩)
  |skip
 rw[hh];have wQ:s.size<=254:=by omega
 have aup:(aB ((s.size:Int) / 256%256::(s.size:Int)%256::bF s)).size=s.size+2:=by rw[jW,length_cons,length_cons,dL]
 refine lp (dW.2 ⟨by omega,by omega⟩) wQ (254 - s.size) _ (by rw[aup];omega) ?_ (by rw[aup];omega);rw[aup,adS wQ,List.take_append_of_le_length (by rw[length_cons,length_cons,dL];omega),take_of_length_le (by rw[length_cons,length_cons,dL];omega)]
end Ds
namespace Bx
open Go Go.Sx Go.Proofs
abbrev tR:Ty:=.st [.jM (.af .i64) 3]
def axm:List (Nat×Norm):=[(2,⟨[],[1,2,5],0,[]⟩)]
def c33(l:List Int)(n i:Int):bQ:=⟨sl 20 [(1,.s (.int .i64 n)),(2,.ptr 0 0),(5,.s (.int .i64 i))],[.ak [.s (.ro (.af .i64 l))] 42],hd f61 2,{}⟩
def qy(l:List Int)(n:Int):Bool:=decide (n∈l)
abbrev s33:=bM [tR,bk] [bL] (λ_=>[]) (λ((l,()),n,())=>(qy l n,()))
def auq:aF:=[(61,s33)]
def axn:List (Nat×Norm):=[(6,⟨[(5,.af .i64 [],3)],[1,2,4,5,6,7],0,[]⟩)]
def c28(l:List Int)(n:Int)(out:List Int)(put:Bool)(i:Int):bQ:=⟨sl 58 [(1,.s (.int .i64 n)),(2,.ptr 0 0),(4,.ptr 1 0),(5,.vec 2),(6,.s (.bool put)),(7,.s (.int .i64 i))],[.ak [.s (.ro (.af .i64 l))] 42,.ak [.emp] 42,.vec (.af .i64 out) 3],hd f36 6,{}⟩
def wr(n:Int):Bool->List Int->List Int
 |put,[]=>if put=true then []else [n]
 |put,x::xs=>if x>n/\put=false then n::x::wr n true xs else x::wr n put xs
def c8(l:List Int)(n:Int):List Int:=if n<0\/n>1023\/n∈l then l else wr n false l
abbrev s28:=gH [tR,bk] [tR] (λ((l,()),_,())=>[l.length<4294967296]) (λ((l,()),n,())=>((c8 l n,()),()))
def am1:aF:=[(36,s28)]
def axo:List (Nat×Norm):=[(3,⟨[],[0,2,3,4],0,[(1,0,true,.af .i64 [],3)]⟩)]
def c24(l r:List Int)(i:Int):bQ:=⟨sl 18 [(0,.s (.ro (.af .i64 l))),(2,.ptr 0 0),(3,.ptr 1 0),(4,.s (.int .i64 i))],[.ak [.emp] 42,.ak [.s (.ro (.af .i64 r))] 42],hd f11 3,{}⟩
def axp:List (Nat×Norm):=[(2,⟨[],[1,2,6],0,[]⟩)]
def c25(l:List Int)(n i:Int):bQ:=⟨sl 26 [(1,.s (.int .i64 n)),(2,.ptr 0 0),(6,.s (.int .i64 i))],[.ak [.s (.ro (.af .i64 l))] 42],hd f125 2,{}⟩
def axq:List (Nat×Norm):=[(3,⟨[(5,.af .i64 [],3)],[1,2,4,5,6],0,[]⟩)]
def c29(l:List Int)(n:Int)(out:List Int)(i:Int):bQ:=⟨sl 31 [(1,.s (.int .i64 n)),(2,.ptr 0 0),(4,.ptr 1 0),(5,.vec 2),(6,.s (.int .i64 i))],[.ak [.s (.ro (.af .i64 l))] 42,.ak [.emp] 42,.vec (.af .i64 out) 3],hd f102 3,{}⟩
def axr:List (Nat×Norm):=[(3,⟨[],[3,4,5,6],0,[]⟩)]
def c30(m r:List Int)(i:Int):bQ:=⟨sl 23 [(3,.ptr 0 0),(4,.ptr 1 0),(5,.ptr 2 0),(6,.s (.int .i64 i))],[.ak [.s (.ro (.af .i64 m))] 42,.ak [.emp] 42,.ak [.s (.ro (.af .i64 r))] 42],hd f73 3,{}⟩
theorem aur(l:List Int)(n:Int):run P dK.sum f61 axm (start f61 [.agg [.s (.ro (.af .i64 l))],.s (.int .i64 n)] [])=
 Tree.at (c33 l n 0):=by kernel_rfl
theorem aus(l:List Int)(n i:Int):run P dK.sum f61 axm (c33 l n i)=
 Tree.ite (decide (i<l.length)) (.ab ((0:Int)<=i) (.ab (i<l.length) (.ite (l.getD i.toNat (0:Int)==n) (.ret [.ak [.s (.ro (.af .i64 l))] 42] (.s (.aN true))) (.ab (aw (i+1)) (.at (c33 l n (i+1))))))) (.ret [.ak [.s (.ro (.af .i64 l))] 42] (.s (.aN false))):=by kernel_rfl
theorem aut(l:List Int)(n:Int):run P auq.sum f36 axn (start f36 [.agg [.s (.ro (.af .i64 l))],.s (.int .i64 n)] [])=
 Tree.ite (decide (n<0)) (.ret [.ak [.s (.ro (.af .i64 l))] 42,.ak [.s (.ro (.af .i64 l))] 42] (.agg [.s (.ro (.af .i64 l))])) (.ite (decide (n>1023)) (.ret [.ak [.s (.ro (.af .i64 l))] 42,.ak [.s (.ro (.af .i64 l))] 42] (.agg [.s (.ro (.af .i64 l))])) (.ite (qy l n) (.ret [.ak [.s (.ro (.af .i64 l))] 42,.ak [.s (.ro (.af .i64 l))] 42] (.agg [.s (.ro (.af .i64 l))])) (.at (c28 l n [] false 0)))):=by kernel_rfl
theorem auu(l:List Int)(n:Int)(out:List Int)(put:Bool)(i:Int):run P auq.sum f36 axn (c28 l n out put i)=
 Tree.ite (decide (i<l.length)) (.ab ((0:Int)<=i) (.ab (i<l.length) (.ite (decide (l.getD i.toNat (0:Int)>n)) (.ite (!put) (.ab ((out.length+1)*(8:Nat)<=140737488355328) (.ab ((0:Int)<=i) (.ab (i<l.length) (.ab (((out++[n]).length+1)*(8:Nat)<=140737488355328) (.ab (aw (i+1)) (.at (c28 l n (out++[n]++[l.getD i.toNat 0]) true (i+1)))))))) (.ab ((0:Int)<=i) (.ab (i<l.length) (.ab ((out.length+1)*(8:Nat)<=140737488355328) (.ab (aw (i+1)) (.at (c28 l n (out++[l.getD i.toNat 0]) put (i+1)))))))) (.ab ((0:Int)<=i) (.ab (i<l.length) (.ab ((out.length+1)*(8:Nat)<=140737488355328) (.ab (aw (i+1)) (.at (c28 l n (out++[l.getD i.toNat 0]) put (i+1)))))))))) (.ite (!put) (.ab ((out.length+1)*(8:Nat)<=140737488355328) (.ret [.ak [.s (.ro (.af .i64 l))] 42,.ak [.vec 4] 42,.aH,.vec (.af .i64 [n]) 3,.vec (.af .i64 (out++[n])) 3] (.agg [.vec 4]))) (.ret [.ak [.s (.ro (.af .i64 l))] 42,.ak [.vec 2] 42,.vec (.af .i64 out) 3] (.agg [.vec 2]))):=by kernel_rfl
theorem auv(l:List Int):run P am1.sum f11 axo (start f11 [.s (.ro (.af .i64 l))] [])=
 Tree.at (c24 l [] 0):=by kernel_rfl
theorem auw(l r:List Int)(i:Int):run P am1.sum f11 axo (c24 l r i)=
 Tree.ite (decide (i<l.length)) (.ab ((0:Int)<=i) (.ab (i<l.length) (.ab (r.length<4294967296) (.ab (aw (i+1)) (.at (c24 l (c8 r (l.getD i.toNat 0)) (i+1))))))) (.ret [.ak [.s (.ro (.af .i64 r))] 42,.ak [.s (.ro (.af .i64 r))] 42] (.agg [.s (.ro (.af .i64 r))])):=by kernel_rfl
theorem auy(l:List Int)(n:Int):run P dK.sum f125 axp (start f125 [.agg [.s (.ro (.af .i64 l))],.s (.int .i64 n)] [])=
 Tree.at (c25 l n 0):=by kernel_rfl
theorem auz(l:List Int)(n i:Int):run P dK.sum f125 axp (c25 l n i)=
 Tree.ite (decide (i<l.length)) (.ab ((0:Int)<=i) (.ab (i<l.length) (.ite (decide (l.getD i.toNat (0:Int)>=n)) (.ab ((0:Int)<=i) (.ab (i<l.length) (.ret [.ak [.s (.ro (.af .i64 l))] 42] (.bd [.s (.int .i64 (l.getD i.toNat 0)),.s (.aN true)])))) (.ab (aw (i+1)) (.at (c25 l n (i+1))))))) (.ret [.ak [.s (.ro (.af .i64 l))] 42] (.bd [.s (.aO .i64 0),.s (.aN false)])):=by kernel_rfl
theorem auA(l:List Int)(n:Int):run P dK.sum f102 axq (start f102 [.agg [.s (.ro (.af .i64 l))],.s (.int .i64 n)] [])=
 Tree.at (c29 l n [] 0):=by kernel_rfl
theorem auB(l:List Int)(n:Int)(out:List Int)(i:Int):run P dK.sum f102 axq (c29 l n out i)=
 Tree.ite (decide (i<l.length)) (.ab ((0:Int)<=i) (.ab (i<l.length) (.ite (l.getD i.toNat (0:Int) !=n) (.ab ((0:Int)<=i) (.ab (i<l.length) (.ab ((out.length+1)*(8:Nat)<=140737488355328) (.ab (aw (i+1)) (.at (c29 l n (out++[l.getD i.toNat 0]) (i+1))))))) (.ab (aw (i+1)) (.at (c29 l n out (i+1))))))) (.ret [.ak [.s (.ro (.af .i64 l))] 42,.ak [.vec 2] 42,.vec (.af .i64 out) 3] (.agg [.vec 2])):=by kernel_rfl
theorem auC(l m:List Int):run P am1.sum f73 axr (start f73 [.agg [.s (.ro (.af .i64 l))],.agg [.s (.ro (.af .i64 m))]] [])=
 Tree.at (c30 m l 0):=by kernel_rfl
theorem auD(m r:List Int)(i:Int):run P am1.sum f73 axr (c30 m r i)=
 Tree.ite (decide (i<m.length)) (.ab ((0:Int)<=i) (.ab (i<m.length) (.ab (r.length<4294967296) (.ab (aw (i+1)) (.at (c30 m (c8 r (m.getD i.toNat 0)) (i+1))))))) (.ret [.ak [.s (.ro (.af .i64 m))] 42,.ak [.s (.ro (.af .i64 r))] 42,.ak [.s (.ro (.af .i64 r))] 42] (.agg [.s (.ro (.af .i64 r))])):=by kernel_rfl
theorem zy{α:Type}(l:List α)(i:Nat)(d:α)(h:i<l.length):l.drop i=l.getD i d::l.drop (i+1):=by
 rw[List.drop_eq_getElem_cons h,List.getD,getElem?_eq_getElem h];rfl
theorem abp{Z:aZ}:cg P Z 61 [tR,bk] [bL] (λ_=>[]) (λ((l,()),n,())=>(qy l n,())):=by
 refine ay func61 (by kernel_rfl) (by kernel_rfl) ?_;rintro⟨⟨(l:List Int),⟨⟩⟩,(n:Int),⟨⟩⟩ ⟨⟨(hl:l.length<=maxLen),_⟩,_⟩ _ X hX hz;rw[pd]at hl;refine go hz hX aF.Ok.nil func61 (aur l n) ?_;refine ef (λ(i:Int)=>c33 l n i) (λi=>0<=i/\i<=l.length/\n ∉ l.take i.toNat) (λi=>(l.length - i).toNat) ?_ 0 ⟨by omega,by omega,by simp⟩;rintro i ⟨(h0:0<=i),(h1:i<=l.length),h2⟩ ih;refine go hz hX aF.Ok.nil func61 (aus l n i) ⟨λh=> ?_,λh=> ?_⟩;have hi:i<(l.length:Int):=of_decide_eq_true h;refine⟨h0,hi,λh3=> ?_,λh3=>⟨⟨by omega,by omega⟩,ih (i+1) ⟨by omega,by omega, ?_⟩ (by omega)⟩⟩;have h3:l.getD i.toNat 0=n:=by simpa using h3
 refine aM (true,()) ?_ (by kernel_rfl);have:n∈l:=by rw[<-h3,List.getD,getElem?_eq_getElem (by omega)];exact getElem_mem (by omega)
 simp[qy,this];have h3:¬l.getD i.toNat 0=n:=by simpa using h3
 rw[show(i+1).toNat=i.toNat+1 from by omega,iL l i.toNat 0 (by omega)];simp only[mem_append,mem_singleton,not_or];exact⟨h2,λh=>h3 h.symm⟩;have hi:¬i<(l.length:Int):=of_decide_eq_false h;refine aM (false,()) ?_ (by kernel_rfl);rw[take_of_length_le (by omega)]at h2;simp[qy,h2]
theorem rS(n:Int):∀(l:List Int),wr n true l=l
 |[]=>by simp[wr]
 |x::xs=>by unfold wr;rw[if_neg (by simp),rS n xs]
theorem zz(n:Int):∀(put:Bool) (l:List Int),(wr n put l).length<=l.length+1
 |put,[]=>by unfold wr;split<;>simp
 |put,x::xs=>by
  unfold wr;split;rw[rS];simp;have:=zz n put xs;simp;omega
theorem abq(l:List Int)(n:Int):(c8 l n).length<=l.length+1:=by
 unfold c8;split;omega;exact zz n false l
theorem ahq{Z:aZ}:auq.Ok P Z:=aF.Ok.cons abp.sum aF.Ok.nil
theorem rT{Z:aZ}:cg P Z 36 [tR,bk] [tR] (λ((l,()),_,())=>[l.length<4294967296]) (λ((l,()),n,())=>((c8 l n,()),())):=by
 refine ay func36 (by kernel_rfl) (by kernel_rfl) ?_;rintro⟨⟨(l:List Int),⟨⟩⟩,(n:Int),⟨⟩⟩ _ ⟨(hl:l.length<4294967296),_⟩ X hX hz
 have same:n<0\/n>1023\/n∈l->Ends [tR] ((c8 l n,()),()) [.ak [.s (.ro (.af .i64 l))] 42,.ak [.s (.ro (.af .i64 l))] 42] (.agg [.s (.ro (.af .i64 l))]):=λh=>
  aM ((l,()),()) (by rw[c8,if_pos h]) (by kernel_rfl)
 refine go hz hX ahq func36 (aut l n) ⟨λh=>same (.inl (of_decide_eq_true h)),λh1=>⟨λh=>same (.inr (.inl (of_decide_eq_true h))),λh2=>⟨λh=>same (.inr (.inr (of_decide_eq_true h))),λh3=> ?_⟩⟩⟩
 have qc:¬(n<0\/n>1023\/n∈l):=by
  have a1:¬n<0:=of_decide_eq_false h1;have a2:¬n>1023:=of_decide_eq_false h2;have a3:¬n∈l:=of_decide_eq_false h3;rintro(h|h|h)<;>contradiction
 have e:c8 l n=wr n false l:=by rw[c8,if_neg qc]
 simp only[e];refine ef (λ(x:List Int×Bool×Int)=>c28 l n x.1 x.2.1 x.2.2) (λx=>0<=x.2.2/\x.2.2<=l.length/\x.1.length<=x.2.2.toNat+(if x.2.1=true then 1 else 0)/\wr n false l=x.1++wr n x.2.1 (l.drop x.2.2.toNat)) (λx=>(l.length - x.2.2).toNat) ?_ ([],false,0) ⟨by simp only[];omega,by simp only[];omega,by simp,by simp⟩;rintro⟨out,put,i⟩ ⟨(h0:0<=i),(h1:i<=l.length),(h2:out.length<=i.toNat+(if put=true then 1 else 0)),(h3:wr n false l=out++wr n put (l.drop i.toNat))⟩ ih;refine go hz hX ahq func36 (auu l n out put i) ⟨λh=> ?_,λh=> ?_⟩;have hi:i<(l.length:Int):=of_decide_eq_true h;have hd:=zy l i.toNat 0 (by omega);generalize hx:l.getD i.toNat 0=x at *;have nw:out.length<=i.toNat+1:=by split at h2<;>omega
 rw[hd,wr]at h3
 have step:∀auE,auE=put->¬(x>n/\auE=false)->Safe P 36 X (Ends [tR] ((wr n false l,()),())) (c28 l n (out++[x]) auE (i+1)):=by
  rintro _ rfl hc;rw[if_neg hc]at h3;refine ih (out++[x],_,i+1) ⟨by simp only[];omega,by simp only[];omega, ?_, ?_⟩ (by simp only[];omega);simp only[length_append,length_cons,length_nil];omega;simp only[];rw[h3,show(i+1).toNat=i.toNat+1 from by omega];simp
 refine⟨h0,hi,λh4=>⟨λh5=> ?_,λh5=> ?_⟩,λh4=> ?_⟩;have h4:x>n:=of_decide_eq_true h4;obtain rfl:put=false:=by simpa using h5
 rw[if_pos ⟨h4,rfl⟩]at h3;simp only[Bool.false_eq_true,if_false,add_zero]at h2;refine⟨by omega,h0,hi,by simp;omega,⟨by omega,by omega⟩, ?_⟩;refine ih (out++[n]++[x],true,i+1) ⟨by simp only[];omega,by simp only[];omega, ?_, ?_⟩ (by simp only[];omega);simp;omega;simp only[];rw[h3,show(i+1).toNat=i.toNat+1 from by omega];simp;have h5:put=true:=by simpa using h5
 subst h5;exact⟨h0,hi,by omega,⟨by omega,by omega⟩,step true rfl (by simp)⟩;have h4:¬x>n:=of_decide_eq_false h4;exact⟨h0,hi,by omega,⟨by omega,by omega⟩,step put rfl (λh=>h4 h.1)⟩;have hi:¬i<(l.length:Int):=of_decide_eq_false h;rw[List.drop_eq_nil_of_le (by omega)]at h3;have nw:out.length<=i.toNat+1:=by split at h2<;>omega
 refine⟨λh5=> ?_,λh5=> ?_⟩;obtain rfl:put=false:=by simpa using h5
 simp only[Bool.false_eq_true,if_false,add_zero]at h2;refine⟨by omega, ?_⟩;rw[h3];exact aM ((out++[n],()),()) rfl (by kernel_rfl);obtain rfl:put=true:=by simpa using h5
 rw[h3];exact aM ((out,()),()) (by simp[wr]) (by kernel_rfl)
def rOf(l:List Int):List Int:=l.foldl c8 []
theorem vj{Z:aZ}:am1.Ok P Z:=aF.Ok.cons rT.gH aF.Ok.nil
theorem rU(l:List Int):∀(r:List Int),(l.foldl c8 r).length<=r.length+l.length:=by
 induction l with
 |nil=>intro r;simp
 |cons x xs ih=>intro r;have:=ih (c8 r x);have:=abq r x;simp only[List.foldl_cons,length_cons];omega
theorem am2{Z:aZ}:cg P Z 11 [iw] [tR] (λ(l,())=>[List.length (α:=Int) l<4294967296]) (λ(l,())=>((rOf l,()),())):=by
 refine ay func11 (by kernel_rfl) (by kernel_rfl) ?_;rintro⟨(l:List Int),⟨⟩⟩ _ ⟨(hl:l.length<4294967296),_⟩ X hX hz;refine go hz hX vj func11 (auv l) ?_;refine ef (λ(i:Int)=>c24 l ((l.take i.toNat).foldl c8 []) i) (λi=>0<=i/\i<=l.length) (λi=>(l.length - i).toNat) ?_ 0 ⟨by omega,by omega⟩;rintro i ⟨(h0:0<=i),(h1:i<=l.length)⟩ ih;refine go hz hX vj func11 (auw l _ i) ⟨λh=> ?_,λh=> ?_⟩;have hi:i<(l.length:Int):=of_decide_eq_true h;have bx:=rU (l.take i.toNat) [];rw[length_take]at bx;have:=ih (i+1) ⟨by omega,by omega⟩ (by omega);rw[show(i+1).toNat=i.toNat+1 from by omega,iL l i.toNat 0 (by omega),List.foldl_append]at this;exact⟨h0,hi,by simp only[length_nil]at bx;omega,⟨by omega,by omega⟩,this⟩;have hi:¬i<(l.length:Int):=of_decide_eq_false h;rw[take_of_length_le (by omega)];exact aM ((rOf l,()),()) rfl (by kernel_rfl)
def rOr(l m:List Int):List Int:=m.foldl c8 l
theorem auF{Z:aZ}:cg P Z 73 [tR,tR] [tR] (λ((l,()),(m,()),())=>[List.length (α:=Int) l+List.length (α:=Int) m<4294967296]) (λ((l,()),(m,()),())=>((rOr l m,()),())):=by
 refine ay func73 (by kernel_rfl) (by kernel_rfl) ?_;rintro⟨⟨(l:List Int),⟨⟩⟩,⟨(m:List Int),⟨⟩⟩,⟨⟩⟩ _ ⟨(hl:l.length+m.length<4294967296),_⟩ X hX hz;refine go hz hX vj func73 (auC l m) ?_;refine ef (λ(i:Int)=>c30 m ((m.take i.toNat).foldl c8 l) i) (λi=>0<=i/\i<=m.length) (λi=>(m.length - i).toNat) ?_ 0 ⟨by omega,by omega⟩;rintro i ⟨(h0:0<=i),(h1:i<=m.length)⟩ ih;refine go hz hX vj func73 (auD m _ i) ⟨λh=> ?_,λh=> ?_⟩;have hi:i<(m.length:Int):=of_decide_eq_true h;have bx:=rU (m.take i.toNat) l;rw[length_take]at bx;have:=ih (i+1) ⟨by omega,by omega⟩ (by omega);rw[show(i+1).toNat=i.toNat+1 from by omega,iL m i.toNat 0 (by omega),List.foldl_append]at this;exact⟨h0,hi,by omega,⟨by omega,by omega⟩,this⟩;have hi:¬i<(m.length:Int):=of_decide_eq_false h;rw[take_of_length_le (by omega)];exact aM ((rOr l m,()),()) rfl (by kernel_rfl)
def nh(l:List Int)(n:Int):Option Int:=l.find? λx=>decide (x>=n)
def bq(l:List Int)(n:Int):Int:=(nh l n).getD 0
def eU(l:List Int)(n:Int):Bool:=(nh l n).isSome
theorem am3{Z:aZ}:cg P Z 125 [tR,bk] [bk,bL] (λ_=>[]) (λ((l,()),n,())=>(bq l n,eU l n,())):=by
 refine ay func125 (by kernel_rfl) (by kernel_rfl) ?_;rintro⟨⟨(l:List Int),⟨⟩⟩,(n:Int),⟨⟩⟩ ⟨⟨(hl:l.length<=maxLen),_⟩,_⟩ _ X hX hz;rw[pd]at hl;refine go hz hX aF.Ok.nil func125 (auy l n) ?_;refine ef (λ(i:Int)=>c25 l n i) (λi=>0<=i/\i<=l.length/\nh l n=nh (l.drop i.toNat) n) (λi=>(l.length - i).toNat) ?_ 0 ⟨by omega,by omega,by simp⟩;rintro i ⟨(h0:0<=i),(h1:i<=l.length),h2⟩ ih;refine go hz hX aF.Ok.nil func125 (auz l n i) ⟨λh=> ?_,λh=> ?_⟩;have hi:i<(l.length:Int):=of_decide_eq_true h;rw[zy l i.toNat 0 (by omega)]at h2;refine⟨h0,hi,λh3=>⟨h0,hi, ?_⟩,λh3=>⟨⟨by omega,by omega⟩,ih (i+1) ⟨by omega,by omega, ?_⟩ (by omega)⟩⟩;have e:nh l n=some (l.getD i.toNat 0):=by rw[h2,nh,List.find?_cons,h3]
 simp only[bq,eU,e];exact aM _ rfl (by kernel_rfl);rw[h2,nh,List.find?_cons,h3,show(i+1).toNat=i.toNat+1 from by omega];rfl;have hi:¬i<(l.length:Int):=of_decide_eq_false h;rw[List.drop_eq_nil_of_le (by omega)]at h2;simp only[bq,eU,h2];exact aM (0,false,()) rfl (by kernel_rfl)
theorem adT(p:Int->Bool)(l:List Int)(i:Int)(h0:0<=i)(hi:i<l.length):(l.take (i+1).toNat).filter p=(l.take i.toNat).filter p++(if p (l.getD i.toNat 0)=true then [l.getD i.toNat 0]else []):=by
 rw[show(i+1).toNat=i.toNat+1 from by omega,iL l i.toNat 0 (by omega),List.filter_append];congr 1;simp only[List.filter_cons,List.filter_nil]
theorem filter_le(p:Int->Bool)(l:List Int)(i:Nat)(h:i<=l.length):((l.take i).filter p).length<=i:=by
 have:=List.length_filter_le p (l.take i);rw[length_take]at this;omega
def ft(l:List Int)(n:Int):List Int:=l.filter λx=>x !=n
theorem uk{Z:aZ}:cg P Z 102 [tR,bk] [tR] (λ((l,()),_,())=>[List.length (α:=Int) l<4294967296]) (λ((l,()),n,())=>((ft l n,()),())):=by
 refine ay func102 (by kernel_rfl) (by kernel_rfl) ?_;rintro⟨⟨(l:List Int),⟨⟩⟩,(n:Int),⟨⟩⟩ _ ⟨(hl:l.length<4294967296),_⟩ X hX hz;refine go hz hX aF.Ok.nil func102 (auA l n) ?_;refine ef (λ(i:Int)=>c29 l n ((l.take i.toNat).filter λx=>x !=n) i) (λi=>0<=i/\i<=l.length) (λi=>(l.length - i).toNat) ?_ 0 ⟨by omega,by omega⟩;rintro i ⟨(h0:0<=i),(h1:i<=l.length)⟩ ih;refine go hz hX aF.Ok.nil func102 (auB l n _ i) ⟨λh=> ?_,λh=> ?_⟩;have hi:i<(l.length:Int):=of_decide_eq_true h;have bx:=filter_le (λx=>x !=n) l i.toNat (by omega);have hs:=adT (λx=>x !=n) l i h0 hi;have:=ih (i+1) ⟨by omega,by omega⟩ (by omega);rw[hs]at this;refine⟨h0,hi,λh3=> ?_,λh3=> ?_⟩;rw[if_pos h3]at this;exact⟨h0,hi,by omega,⟨by omega,by omega⟩,this⟩;rw[if_neg (by rw[h3];simp),append_nil]at this;exact⟨⟨by omega,by omega⟩,this⟩;have hi:¬i<(l.length:Int):=of_decide_eq_false h;rw[take_of_length_le (by omega)];exact aM ((ft l n,()),()) rfl (by kernel_rfl)
def yn(l:List Int):Prop:=l.Pairwise (· < ·)
theorem aqu{ws:List Int}{k:Nat}:k∈sZ ws↔k<1024/\bit ws k=true:=by
 unfold sZ fr;rw[List.mem_filter,mem_range]
theorem ahr:∀{a b:List Int},yn a->yn b->(∀x,x∈a↔x∈b)->a=b
 |[],[],_,_,_=>rfl|[],y::ys,_,_,h=>by have:=(h y).2 (by simp);simp at this
 |x::xs,[],_,_,h=>by have:=(h x).1 (by simp);simp at this
 |x::xs,y::ys,ha,hb,h=>by
  unfold yn at ha hb;rw[pairwise_cons]at ha hb
  have hxy:x=y:=by
   rcases mem_cons.1 ((h x).1 (by simp))with h1|h1;exact h1;rcases mem_cons.1 ((h y).2 (by simp))with h2|h2;exact h2.symm;have:=hb.1 x h1;have:=ha.1 y h2;omega
  subst hxy;rw[ahr (a:=xs) (b:=ys) ha.2 hb.2 (λz=> ?_)];constructor;intro hz;rcases mem_cons.1 ((h z).1 (by simp[hz]))with h1|h1;have:=ha.1 z hz;omega;exact h1;intro hz;rcases mem_cons.1 ((h z).2 (by simp[hz]))with h1|h1;have:=hb.1 z hz;omega;exact h1
theorem zA:∀m,yn (yg (List.range m))
 |0=>by simp[yg,yn]
 |m+1=>by
  have ih:=zA m;unfold yn at *;rw[List.range_succ,show yg (List.range m++[m])=yg (List.range m)++[(m:Int)]from by simp[yg],List.pairwise_append];refine⟨ih,by simp,λa ha b hb=> ?_⟩;simp only[yg,mem_map,mem_range]at ha;obtain⟨k,h1,rfl⟩:=ha;rw[mem_singleton.1 hb];omega
theorem rV(ws:List Int):yn (yg (sZ ws)):=by
 have h:=zA 1024;unfold yn yg sZ fr at *;rw[List.pairwise_map]at *;exact h.filter _
theorem jq{ws:List Int}{x:Int}:x∈yg (sZ ws)↔0<=x/\x<1024/\bit ws x.toNat=true:=by
 simp only[yg,mem_map,aqu];constructor;rintro⟨k,⟨h1,h2⟩,rfl⟩;exact⟨by omega,by omega,by simpa using h2⟩;rintro⟨h1,h2,h3⟩;exact⟨x.toNat,⟨by omega,h3⟩,by omega⟩
theorem xA{ws l:List Int}(hl:yn l)(h:∀x,x∈l↔0<=x/\x<1024/\bit ws x.toNat=true):yg (sZ ws)=l:=
 ahr (rV ws) hl λx=>by rw[jq,h x]
theorem afG(n:Int):∀(l:List Int) (x:Int),x∈wr n false l↔x=n\/x∈l
 |[],x=>by simp[wr]
 |y::ys,x=>by
  unfold wr;split;rw[rS];simp;have:=afG n ys x;simp only[mem_cons,this];constructor;rintro(h|h|h)<;>simp[h];rintro(h|h|h)<;>simp[h]
theorem am4(n:Int):∀(l:List Int),yn l->n ∉ l->yn (wr n false l)
 |[],_,_=>by simp[wr,yn]
 |y::ys,hl,hn=>by
  unfold yn at *;have h2:=pairwise_cons.1 hl;unfold wr;split;rename_i h;rw[rS,pairwise_cons];refine⟨λz hz=> ?_,hl⟩;rcases mem_cons.1 hz with h1|h1;omega;have:=h2.1 z h1;omega;rename_i h;rw[pairwise_cons];refine⟨λz hz=> ?_,am4 n ys h2.2 (λh3=>hn (by simp[h3]))⟩;have cG:n≠y:=λe=>hn (by simp[e]);rcases(afG n ys z).1 hz with h1|h1;have:¬y>n:=λh4=>h ⟨h4,rfl⟩;omega;exact h2.1 z h1
theorem am5(l:List Int)(n x:Int):x∈c8 l n↔x∈l\/(x=n/\0<=n/\n<1024):=by
 unfold c8;split;rename_i h;constructor;exact .inl;rintro(h1|⟨h1,h2,h3⟩);exact h1;rcases h with h|h|h;omega;omega;rw[h1];exact h;rename_i h;rw[afG];constructor;rintro(h1|h1);exact .inr ⟨h1,by omega,by omega⟩;exact .inl h1;rintro(h1|⟨h1,_⟩);exact .inr h1;exact .inl h1
theorem am6{l:List Int}(hl:yn l)(n:Int):yn (c8 l n):=by
 unfold c8;split;exact hl;rename_i h;exact am4 n l hl λh1=>h (.inr (.inr h1))
theorem adU(m:List Int):∀{l:List Int},yn l->yn (m.foldl c8 l):=by
 induction m with
 |nil=>intro l hl;exact hl
 |cons x xs ih=>intro l hl;exact ih (am6 hl x)
theorem adV(m:List Int):∀(l:List Int) (x:Int),x∈m.foldl c8 l↔x∈l\/(x∈m/\0<=x/\x<1024):=by
 induction m with
 |nil=>intro l x;simp
 |cons y ys ih=>
  intro l x;simp only[List.foldl_cons];rw[ih,am5];constructor;rintro((h|⟨rfl,h1,h2⟩)|⟨h,h1,h2⟩);exact .inl h;exact .inr ⟨by simp,h1,h2⟩;exact .inr ⟨by simp[h],h1,h2⟩;rintro(h|⟨h,h1,h2⟩);exact .inl (.inl h);rcases mem_cons.1 h with rfl|h;exact .inl (.inr ⟨rfl,h1,h2⟩);exact .inr ⟨h,h1,h2⟩
theorem auG(l:List Int)(x:Int):x∈rOf l↔0<=x/\x<1024/\bit (ofF l) x.toNat=true:=by
 unfold rOf;rw[adV];constructor;rintro(h|⟨h,h1,h2⟩);simp at h;refine⟨h1,h2, ?_⟩;rw[(xh l).2 _ (by omega)];exact decide_eq_true (by rw[show(x.toNat:Int)=x from by omega];exact h);rintro⟨h1,h2,h3⟩;rw[(xh l).2 _ (by omega)]at h3;have:=of_decide_eq_true h3;rw[show(x.toNat:Int)=x from by omega]at this;exact .inr ⟨this,h1,h2⟩
theorem auH(l:List Int):yn (rOf l):=adU l (by simp[yn])
theorem ajk{ws l:List Int}(hw:okW ws)(hl:yn l)(h:∀x,x∈l↔0<=x/\x<1024/\bit ws x.toNat=true)(n:Int):mo ws n=nh l n:=by
 cases hn:mo ws n with
 |none=>
  symm;refine List.find?_eq_none.2 λx hx=> ?_;have⟨h1,h2,h3⟩:=(h x).1 hx;intro h4;have:=xj hw hn x.toNat (by omega) (by have:=of_decide_eq_true h4;omega);rw[this]at h3;cases h3
 |some v=>
  obtain⟨p,rfl,h1,h2,h3,h4⟩:=qs hw hn;have hp:(p:Int)∈l:=(h p).2 ⟨by omega,by omega,by simpa using h2⟩
  have low:∀x∈l,x<(p:Int)->¬x>=n:=by
   intro x hx br hge;have⟨g1,g2,g3⟩:=(h x).1 hx;rw[h4 x.toNat (by omega) (by omega)]at g3;cases g3
  clear h h4;unfold nh
  induction l with
  |nil=>simp at hp|cons y ys ih=>
   have hc:=pairwise_cons.1 hl;rw[List.find?_cons];rcases mem_cons.1 hp with h5|h5;rw[<-h5,decide_eq_true (p:=(p:Int)>=n) h3];have:=hc.1 _ h5;rw[decide_eq_false (low y (by simp) this)];exact ih hc.2 h5 λx hx=>low x (by simp[hx])
def SL(ws:List Int):List Int:=yg (sZ ws)
theorem abr{ws:List Int}{x:Int}:x∈SL ws↔0<=x/\x<1024/\bit ws x.toNat=true:=jq
theorem vk{ws:List Int}(hw:okW ws)(n:Int):c8 (SL ws) n=SL (cU ws n):=by
 refine(xA (am6 (rV ws) n) λx=> ?_).symm;have⟨_,h2⟩:=gx hw n;rw[am5,jq];constructor;rintro(⟨a,b,c⟩|⟨rfl,a,b⟩);exact⟨a,b,by rw[h2 _ (by omega),c];rfl⟩;exact⟨a,b,by rw[h2 _ (by omega),or_eq_true,decide_eq_true_eq];right;omega⟩;rintro⟨a,b,c⟩;rw[h2 _ (by omega),or_eq_true,decide_eq_true_eq]at c;rcases c with c|c;exact .inl ⟨a,b,c⟩;exact .inr ⟨by omega,by omega,by omega⟩
theorem xB{ws:List Int}(hw:okW ws)(n:Int):ft (SL ws) n=SL (dG ws n):=by
 refine(xA (List.Pairwise.filter _ (rV ws)) λx=> ?_).symm;have⟨_,h2⟩:=oE hw n;rw[List.mem_filter,jq,bne_iff_ne];constructor;rintro⟨⟨a,b,c⟩,d⟩;refine⟨a,b, ?_⟩;rw[h2 _ (by omega),and_eq_true,not_eq_true',decide_eq_false_iff_not];exact⟨c,by omega⟩;rintro⟨a,b,c⟩;rw[h2 _ (by omega),and_eq_true,not_eq_true',decide_eq_false_iff_not]at c;exact⟨⟨a,b,c.1⟩,by omega⟩
theorem axs{a b:List Int}(ha:okW a)(hb:okW b):rOr (SL a) (SL b)=SL (dY .or a b):=by
 refine(xA (adU _ (rV a)) λx=> ?_).symm;have⟨_,h2⟩:=kx (.inl rfl) ha hb;rw[adV];show x∈SL a\/(x∈SL b/\0<=x/\x<1024)↔_;rw[abr,abr];constructor;rintro(⟨c,d,e⟩|⟨⟨c,d,e⟩,_⟩);exact⟨c,d,by rw[h2 _ (by omega)];simp only[opb,or_eq_true];exact .inl e⟩;exact⟨c,d,by rw[h2 _ (by omega)];simp only[opb,or_eq_true];exact .inr e⟩;rintro⟨c,d,e⟩;rw[h2 _ (by omega)]at e;simp only[opb,or_eq_true]at e;exact e.elim (λe=>.inl ⟨c,d,e⟩) (λe=>.inr ⟨⟨c,d,e⟩,c,d⟩)
theorem am7{ws:List Int}(hw:okW ws)(n:Int):qy (SL ws) n=lL ws n:=by
 rw[aa8 hw,Bool.eq_iff_iff,qy,decide_eq_true_eq,abr,and_eq_true,decide_eq_true_eq];exact⟨λ⟨a,b,c⟩=>⟨⟨a,b⟩,c⟩,λ⟨⟨a,b⟩,c⟩=>⟨a,b,c⟩⟩
theorem ahs{ws:List Int}(hw:okW ws)(n:Int):bq (SL ws) n=bN ws n/\eU (SL ws) n=dZ ws n:=by
 have e:=ajk hw (rV ws) (λx=>jq) n;unfold bq eU bN dZ SL;rw[e];exact⟨rfl,rfl⟩
theorem arQ(l:List Int):rOf l=SL (ofF l):=(xA (auH l) (auG l)).symm
theorem auI(ws:List Int):(SL ws).length<=1024:=by
 have:=s6 (bit ws) 1024;simpa[SL,yg,sZ]using this
theorem kB:SL cz=[]:=by
 refine xA (by simp[yn]) λx=> ?_;rw[fe.2];simp
end Bx
namespace Ts
open Go Go.Sx Go.Proofs Lf
abbrev Kp:=Ds.Kp
abbrev Tx:=List ByteArray
abbrev Sl:=List Int
def fv(t:Tx)(a:Kp)(n ad:Int):Int:=if ad>16 then 4 else if Ds.qrE t a n=0 then pv (Ds.qrS t a n)else Ds.qrE t a n
def oL(t:Tx)(a:Kp)(n ad:Int):Bool:=decide (ad<=16)&&decide (Ds.qrE t a n=0)
def ic(t:Tx)(a:Kp)(n ad:Int):Bool:=oL t a n ad&&gT (Ds.qrS t a n)
def bR(t:Tx)(a:Kp)(n ad:Int):List En:=if oL t a n ad=true then lJ (Ds.qrS t a n)else []
def aW(t:Tx)(a:Kp)(n ad:Int):List Br:=if oL t a n ad=true then kJ (Ds.qrS t a n)else []
abbrev QWr:Type:=Kp×Int×Sl×Sl×Br×Int
def cF(t:Tx)(a:Kp)(f:Int)(F W:Sl)(l:Bool)(es:List En)(bs:List Br):QWr:=
 if Bx.eU F 0=false then(a,f,F,W,dB,41)
 else if dq l es (ae bs)≠0 then(a,f,F,W,dB,dq l es (ae bs))
 else if(Ds.nD t a f (Bx.bq F 0) (bO l es (ae bs))).2.2≠0 then
  ((Ds.nD t a f (Bx.bq F 0) (bO l es (ae bs))).1,(Ds.nD t a f (Bx.bq F 0) (bO l es (ae bs))).2.1,F,W,dB,(Ds.nD t a f (Bx.bq F 0) (bO l es (ae bs))).2.2)
 else((Ds.nD t a f (Bx.bq F 0) (bO l es (ae bs))).1,(Ds.nD t a f (Bx.bq F 0) (bO l es (ae bs))).2.1,Bx.ft F (Bx.bq F 0),Bx.c8 W (Bx.bq F 0),(gj l es bs,Bx.bq F 0,()),0)
abbrev am8:Type:=Kp×Int×Sl×Sl×List Br×Int
def aqv(a:QWr)(b:QWr):am8:=(b.1,b.2.1,b.2.2.1,b.2.2.2.1,[a.2.2.2.2.1,b.2.2.2.2.1],b.2.2.2.2.2)
def bC(t:Tx)(a:Kp)(f:Int)(F W:Sl)(l:Bool)(es:List En)(bs:List Br):am8:=
 if es.length+bs.length=0 then(a,f,F,W,[],0)
 else if bw es (ae bs)<=254 then
  let x:=cF t a f F W l es (ae bs)
  (x.1,x.2.1,x.2.2.1,x.2.2.2.1,[x.2.2.2.2.1],x.2.2.2.2.2)
 else if u4 l es (ae bs)≠0 then(a,f,F,W,[],u4 l es (ae bs))
 else
  let x:=cF t a f F W (ct l es (ae bs)) (bz l es (ae bs)) (bA l es (ae bs))
  if x.2.2.2.2.2≠0 then(x.1,x.2.1,x.2.2.1,x.2.2.2.1,[],x.2.2.2.2.2)
  else aqv x (cF t x.1 x.2.1 x.2.2.1 x.2.2.2.1 (ct l es (ae bs)) (eH l es (ae bs)) (eI l es (ae bs)))
def fC(W:Sl)(n:Int):Sl:=if Bx.qy W n=true then Bx.ft W n else W
def kK(W O:Sl)(n:Int):Sl:=if Bx.qy W n=true then Bx.c8 O n else O
abbrev adW:Type:=Kp×Int×Sl×Sl×Sl×List Br×Int
def iP(O:Sl)(w:am8):adW:=(w.1,w.2.1,w.2.2.1,w.2.2.2.1,O,w.2.2.2.2.1,w.2.2.2.2.2)
def kL(t:Tx)(key:ByteArray)(op:Option ByteArray):Nat->Kp->Int->Sl->Sl->Sl->Int->Int->adW
 |0,a,f,F,W,O,_,_=>(a,f,F,W,O,[],4)|k+1,a,f,F,W,O,n,ad=>
  if fv t a n ad≠0 then(a,f,F,W,O,[],fv t a n ad)
  else if ic t a n ad=true then
   if s7 key op (bR t a n ad)≠0 then(a,f,F,W,O,[],s7 key op (bR t a n ad))
   else iP (kK W O n) (bC t a f F (fC W n) true (m8 key op (bR t a n ad)) (aW t a n ad))
  else if aW t a n ad=[]then(a,f,F,W,O,[],4)
  else
   let i:=(aI (aW t a n ad) key).toNat;let r:=kL t key op k a f F W O ((aW t a n ad).getD i dB).2.1 (ad+1)
   if r.2.2.2.2.2.2≠0 then(r.1,r.2.1,r.2.2.1,r.2.2.2.1,r.2.2.2.2.1,[],r.2.2.2.2.2.2)
   else iP (kK r.2.2.2.1 r.2.2.2.2.1 n) (bC t r.1 r.2.1 r.2.2.1 (fC r.2.2.2.1 n) false (bR t a n ad)
    ((aW t a n ad).take i++mq ((aW t a n ad).getD i dB).1 r.2.2.2.2.2.1++(aW t a n ad).drop (i+1)))
def kC(t:Tx)(a:Kp):Nat->Sl->Sl->Int->Int->Sl×Sl×Int×Int
 |0,W,O,n,_=>(W,O,n,4)|k+1,W,O,n,ad=>
  if fv t a n ad≠0 then(W,O,n,fv t a n ad)
  else if ic t a n ad=true\/(aW t a n ad).length≠1 then(W,O,n,0)
  else kC t a k (fC W n) (kK W O n) ((aW t a n ad).getD 0 dB).2.1 (ad+1)
def zB(t:Tx)(key:ByteArray)(op:Option ByteArray)(a:Kp)(f aa:Int)(F W O:Sl):adW:=
 if aa≠0 then kL t key op 17 a f F W O aa 1
 else if s7 key op []≠0 then(a,f,F,W,O,[],s7 key op [])
 else iP O (bC t a f F W true (m8 key op []) [])
def abt(t:Tx)(c:adW):adW:=if c.2.2.2.2.2.2=0/\1<c.2.2.2.2.2.1.length then iP c.2.2.2.2.1 (bC t c.1 c.2.1 c.2.2.1 c.2.2.2.1 false [] c.2.2.2.2.2.1)else c
abbrev adX:Type:=Kp×Int×Int×Sl×Sl×Sl×Int
def pR(aA:Int)(F0 W0 O0:Sl)(a:Kp)(f aa:Int)(F W O:Sl)(e:Int):adX:=
 if e≠0 then(a,f,aA,F0,W0,O0,e)else(a,f,aa,Bx.rOr F O,W,[],0)
def mz(t:Tx)(aA:Int)(F0 W0 O0:Sl)(c:adW):adX:=
 if c.2.2.2.2.2.2=0/\c.2.2.2.2.2.1.length=1 then
  let r:=kC t c.1 17 c.2.2.2.1 c.2.2.2.2.1 (c.2.2.2.2.2.1.getD 0 dB).2.1 1
  pR aA F0 W0 O0 c.1 c.2.1 r.2.2.1 c.2.2.1 r.1 r.2.1 r.2.2.2
 else pR aA F0 W0 O0 c.1 c.2.1 0 c.2.2.1 c.2.2.2.1 c.2.2.2.2.1 c.2.2.2.2.2.2
def ie(t:Tx)(key:ByteArray)(op:Option ByteArray)(a:Kp)(f aa:Int)(F W O:Sl):adX:=mz t aa F W O (abt t (zB t key op a f aa F W O))
def tj(t:Tx)(key:ByteArray)(op:Option ByteArray)(a:Kp)(f aa:Int)(F W O:Sl):adX:=if fg key op=true then ie t key op a f aa F W O else(a,f,aa,F,W,O,1)
def zC(t:Tx)(a:Kp)(key:ByteArray):Nat->Int->Int->ByteArray×Bool×Int
 |0,_,_=>(empty,false,4)|k+1,n,ad=>
  if fv t a n ad≠0 then(empty,false,fv t a n ad)
  else if ic t a n ad=true then(m6 (bR t a n ad) key,lK (bR t a n ad) key,0)
  else if aW t a n ad=[]then(empty,false,4)
  else zC t a key k ((aW t a n ad).getD (aI (aW t a n ad) key).toNat dB).2.1 (ad+1)
def qz(t:Tx)(a:Kp)(aa:Int)(key:ByteArray):ByteArray×Bool×Int:=
 if fg key none=false then(empty,false,1)else if aa=0 then(empty,false,0)else zC t a key 17 aa 1
def kD(g:Sl->List En->Int->Sl×List En×Int):List Br->Sl->List En->Sl×List En×Int
 |[],met,l=>(met,l,0)|b::r,met,l=>if(g met l b.2.1).2.2≠0 then g met l b.2.1 else kD g r (g met l b.2.1).1 (g met l b.2.1).2.1
def cH(t:Tx)(a:Kp):Nat->Int->Sl->List En->Int->Sl×List En×Int
 |0,_,met,l,_=>(met,l,4)|k+1,ad,met,l,n=>
  if fv t a n ad≠0 then(met,l,fv t a n ad)
  else if Bx.qy met n=true then(met,l,4)
  else kD (cH t a k (ad+1)) (aW t a n ad) (Bx.c8 met n) (l++bR t a n ad)
def uE(t:Tx)(a:Kp)(aa:Int):Sl×List En×Int:=if aa=0 then([],[],0)else cH t a 17 1 [] [] aa
end Ts
namespace Ts
open Ds (cK kN kT kM)
open Go Go.Sx Go.Proofs Lf
abbrev eQT:TypeId:=86
abbrev roI(l:List Int):AV:=.s (.ro (.af .i64 l))
abbrev obQ(i:Nat)(aa:Int)(F W O:Sl):au:=.ak [.ptr i 0,az aa,roI F,roI W,roI O] eQT
abbrev hQ(t:Tx)(a:Kp)(f aa:Int)(F W O:Sl):List au:=[obQ 1 aa F W O,Ds.pw t a f]
abbrev axt:=cu Ds.sQr Ds.mRR
abbrev axu:=cu Ds.sQw Ds.mWi
abbrev axe:=bM [cv] [oz,bk] (λ_=>[]) (λ(s,())=>((gT s,lJ s,kJ s,()),pv s,()))
def am9:aF:=[(80,axt),(81,axe)]
def adR:List (Nat×Norm):=[(aj7+6005,⟨[],[6,29],2,[(2,1,true,.ah cE [],Lf.uy),(2,2,true,.ah cB [],Lf.sR)]⟩)]
def cQr(t:Tx)(a:Kp)(f aa:Int)(F W O:Sl)(l:Bool)(es:List En)(bs:List Br)(e:Int):bQ:=⟨sl 30 [(6,.ptr 2 0),(29,az e)],hQ t a f aa F W O++[.ak [.s (.bool l),.s (.ro (.ah cE es)),.s (.ro (.ah cB bs))] Lf.eRN],cal f47 6 5,{rid:=6}⟩
abbrev XQ:Type:=Tx×Kp×Int×Int×Sl×Sl×Sl
def bn(F:Sl):Prop:=∃ws,Bx.okW ws/\F=Bx.SL ws
abbrev axv:Spec (XQ×Int×Int):=⟨λ(_,n,ad)=>[.ptr 0 0,az n,az ad],λ((t,a,f,aa,F,W,O),_,_)=>hQ t a f aa F W O,λ((t,a,f,_),_,_)=>[Ds.cc t a f],λ((t,a,f,aa,F,W,O),_,_)=>hQ t a f aa F W O,
 λ((t,a,_),n,ad)=>.bd [.agg [.s (.bool (ic t a n ad)),.s (.ro (.ah cE (bR t a n ad))),.s (.ro (.ah cB (aW t a n ad)))],az (fv t a n ad)]⟩
theorem axw(t:Tx)(a:Kp)(f aa:Int)(F W O:Sl)(n ad:Int):run P am9.sum f47 adR (start f47 [.ptr 0 0,az n,az ad] (hQ t a f aa F W O))=
 Tree.ite (decide (ad>16)) (.ret [.ak [.ptr 1 0,az aa,.s (.ro (.af .i64 F)),.s (.ro (.af .i64 W)),.s (.ro (.af .i64 O))] 86,.ak [.s (.ro (.strs t)),.s (.ro (.ah cK a)),az f] 78,.ak [.s (.aN false),.emp,.emp] 109] (.bd [.agg [.s (.aN false),.emp,.emp],.s (.aO .i64 4)])) (.ab (bD (some [AV.ptr 0 0,az n])) (.ab (bD (some [au.ak [.s (.ro (.strs t)),.s (.ro (.ah cK a)),az f] 78])) (.ab (Ds.cc t a f) (.ite (Ds.qrE t a n !=0) (.ret [.ak [.ptr 1 0,az aa,.s (.ro (.af .i64 F)),.s (.ro (.af .i64 W)),.s (.ro (.af .i64 O))] 86,.ak [.s (.ro (.strs t)),.s (.ro (.ah cK a)),az f] 78,.ak [.s (.aN false),.emp,.emp] 109] (.bd [.agg [.s (.aN false),.emp,.emp],az (Ds.qrE t a n)])) (.at (cQr t a f aa F W O (gT (Ds.qrS t a n)) (lJ (Ds.qrS t a n)) (kJ (Ds.qrS t a n)) (pv (Ds.qrS t a n)))))))):=by kernel_rfl
theorem axx(t:Tx)(a:Kp)(f aa:Int)(F W O:Sl)(l:Bool)(es:List En)(bs:List Br)(e:Int):run P am9.sum f47 adR (cQr t a f aa F W O l es bs e)=
 Tree.ret [.ak [.ptr 1 0,.s (.int .i64 aa),.s (.ro (.af .i64 F)),.s (.ro (.af .i64 W)),.s (.ro (.af .i64 O))] 86,.ak [.s (.ro (.strs t)),.s (.ro (.ah cK a)),.s (.int .i64 f)] 78,.ak [.s (.bool l),.s (.ro (.ah cE es)),.s (.ro (.ah cB bs))] 109] (.bd [.agg [.s (.bool l),.s (.ro (.ah cE es)),.s (.ro (.ah cB bs))],.s (.int .i64 e)]):=by kernel_rfl
end Ts
open Ds (cK kN kT kM)
namespace Ts
open Go Go.Sx Go.Proofs Lf
abbrev aqw:Ty:=.st [.bool,.jM (.ah cE) Lf.uy,.jM (.ah cB) Lf.sR]
abbrev axy:=gH [oz] [aqw] (λ((_,_,bs,()),())=>[0<List.length (α:=Br) bs/\List.length (α:=Br) bs<=1000]) (λ((_,_,bs,()),())=>((false,[],ae bs,()),()))
abbrev azk:=bM [Bx.tR,Bx.bk] [Bx.bk,Bx.bL] (λ_=>[]) (λ((l,()),n,())=>(Bx.bq l n,Bx.eU l n,()))
abbrev azl:=bM [oz] [cv,bk] (λ((_,es,bs,()),())=>[aY es,aV bs]) (λ((l,es,bs,()),())=>(bO l es bs,dq l es bs,()))
abbrev auJ:=gH [Bx.tR,Bx.bk] [Bx.tR] (λ((l,()),_,())=>[l.length<4294967296]) (λ((l,()),n,())=>((Bx.c8 l n,()),()))
abbrev axz:=gH [Bx.tR,Bx.bk] [Bx.tR] (λ((l,()),_,())=>[List.length (α:=Int) l<4294967296]) (λ((l,()),n,())=>((Bx.ft l n,()),()))
abbrev axA:=bM [Bx.tR,Bx.bk] [Bx.bL] (λ_=>[]) (λ((l,()),n,())=>(Bx.qy l n,()))
def arR:aF:=[(125,azk),(98,axy),(126,azl),(127,axu),(102,axz),(36,auJ)]
abbrev sQW:Spec (XQ×Bool×List En×List Br):=⟨λ(_,l,es,bs)=>[.ptr 0 0,sS l es bs],λ((t,a,f,aa,F,W,O),_)=>hQ t a f aa F W O,
 λ((t,a,f,_,F,W,_),l,es,bs)=>[Ds.cc t a f,bn F,bn W,((l:Bool)=true->0<(es:List En).length)/\(l=false->0<(bs:List Br).length),(l=true->bs=[])/\(l=false->es=[]),aY es,aV bs],
 λ((t,a,f,aa,F,W,O),l,es,bs)=>hQ t (cF t a f F W l es bs).1 (cF t a f F W l es bs).2.1 aa (cF t a f F W l es bs).2.2.1 (cF t a f F W l es bs).2.2.2.1 O,
 λ((t,a,f,_,F,W,_),l,es,bs)=>.bd [.agg [.s (.str (cF t a f F W l es bs).2.2.2.2.1.1),az (cF t a f F W l es bs).2.2.2.2.1.2.1],az (cF t a f F W l es bs).2.2.2.2.2]⟩
def arS:aF:=[(61,axA),(102,axz),(36,auJ)]
abbrev sQO:Spec (XQ×Int):=⟨λ(_,n)=>[.ptr 0 0,az n],λ((t,a,f,aa,F,W,O),_)=>hQ t a f aa F W O,λ((_,_,_,_,_,W,O),_)=>[bn W,bn O],
 λ((t,a,f,aa,F,W,O),n)=>hQ t a f aa F (fC W n) (kK W O n),λ_=>.bd []⟩
def mQ:List AV->RM (XQ×List Nat)
 |[.ptr id 0]=>.look id λo=>match o with
  |some (.ak [.ptr d 0,rt,.s (.ro (.af .i64 F)),.s (.ro (.af .i64 W)),.s (.ro (.af .i64 O))] _)=>(Ds.mR [.ptr d 0]).bind λ((t,a,f),σ)=>match rt.cD with
   |some (_,_,aa)=>.ret ((t,a,f,aa,F,W,O),id::σ)|none=>.fail ""
  |_=>.fail ""
 |_=>.fail ""
def mQN:List AV->RM ((XQ×Bool×List En×List Br)×List Nat)
 |[t,x]=>(mQ [t]).bind λ(X,σ)=>match apr x with
  |some (l,es,bs)=>.ret ((X,l,es,bs),σ)|none=>.fail ""
 |_=>.fail ""
def mQI:List AV->RM ((XQ×Int)×List Nat)
 |[t,n]=>(mQ [t]).bind λ(X,σ)=>match n.cD with
  |some (_,_,n)=>.ret ((X,n),σ)|_=>.fail ""
 |_=>.fail ""
def ana:List AV->RM ((XQ×Int×Int)×List Nat)
 |[t,n,d]=>(mQ [t]).bind λ(X,σ)=>match n.cD,d.cD with
  |some (_,_,n),some (_,_,d)=>.ret ((X,n,d),σ)|_,_=>.fail ""
 |_=>.fail ""
theorem axB(l:Bool)(es:List En)(bs:List Br):run P (aF.sum []) f98 [] (start f98 [sS l es bs] [])=
 Tree.ab (((0:Nat)+bs.length)*(24:Nat)<=140737488355328) (.ab ((0:Int)<=0) (.ab ((0:Int)<(↑([]++bs).length:Int)) (.ret [.ak [.s (.bool l),.s (.ro (.ah cE es)),.s (.ro (.ah cB bs))] 109,.ak [.s (.aN false),.emp,.vec 3] 109,.aH,.vec (.ah cB (([]++bs).set 0 (empty,(([]++bs).getD 0 (CL.d cB)).snd))) 113] (.agg [.s (.aN false),.emp,.vec 3])))):=by kernel_rfl
theorem arT(t:Tx)(a:Kp)(f aa:Int)(F W O:Sl)(l:Bool)(es:List En)(bs:List Br):run P arR.sum f101 [] (start f101 [.ptr 0 0,sS l es bs] (hQ t a f aa F W O))=
 Tree.ite (!Bx.eU F 0) (.ret [.ak [.ptr 1 0,az aa,.s (.ro (.af .i64 F)),.s (.ro (.af .i64 W)),.s (.ro (.af .i64 O))] 86,.ak [.s (.ro (.strs t)),.s (.ro (.ah cK a)),az f] 78,.ak [.s (.bool l),.s (.ro (.ah cE es)),.s (.ro (.ah cB bs))] 109,.ak [.s (.str empty),.s (.aO .i64 0)] 113] (.bd [.agg [.s (.str empty),.s (.aO .i64 0)],.s (.aO .i64 41)]))
 (.ite l (.ab ((0:Int)<=0) (.ab ((0:Int)<(↑es.length:Int)) (.ab (aY es) (.ab (aV bs) (.ite (dq l es bs !=0) (.ret [.ak [.ptr 1 0,az aa,.s (.ro (.af .i64 F)),.s (.ro (.af .i64 W)),.s (.ro (.af .i64 O))] 86,.ak [.s (.ro (.strs t)),.s (.ro (.ah cK a)),az f] 78,.ak [.s (.bool l),.s (.ro (.ah cE es)),.s (.ro (.ah cB bs))] 109,.ak [.s (.str empty),.s (.aO .i64 0)] 113,.ak [.s (.str (es.getD 0 (CL.d cE)).fst),az (Bx.bq F 0)] 113] (.bd [.agg [.s (.str empty),.s (.aO .i64 0)],az (dq l es bs)])) (.ab (bD (some [AV.ptr 0 0,az (Bx.bq F 0),.s (.str (bO l es bs))])) (.ab (bD (some [au.ak [.s (.ro (.strs t)),.s (.ro (.ah cK a)),az f] 78])) (.ab (Ds.cc t a f) (.ite ((Ds.nD t a f (Bx.bq F 0) (bO l es bs)).snd.snd !=0) (.ret [.ak [.ptr 1 0,az aa,.s (.ro (.af .i64 F)),.s (.ro (.af .i64 W)),.s (.ro (.af .i64 O))] 86,.ak [.s (.ro (.strs t)),.s (.ro (.ah cK (Ds.nD t a f (Bx.bq F 0) (bO l es bs)).fst)),az ((Ds.nD t a f (Bx.bq F 0) (bO l es bs)).snd.fst)] 78,.ak [.s (.bool l),.s (.ro (.ah cE es)),.s (.ro (.ah cB bs))] 109,.ak [.s (.str empty),.s (.aO .i64 0)] 113,.ak [.s (.str (es.getD 0 (CL.d cE)).fst),az (Bx.bq F 0)] 113] (.bd [.agg [.s (.str empty),.s (.aO .i64 0)],az ((Ds.nD t a f (Bx.bq F 0) (bO l es bs)).snd.snd)])) (.ab (List.length F<4294967296) (.ab (List.length W<4294967296) (.ret [.ak [.ptr 1 0,az aa,.s (.ro (.af .i64 (Bx.ft F (Bx.bq F 0)))),.s (.ro (.af .i64 (Bx.c8 W (Bx.bq F 0)))),.s (.ro (.af .i64 O))] 86,.ak [.s (.ro (.strs t)),.s (.ro (.ah cK (Ds.nD t a f (Bx.bq F 0) (bO l es bs)).fst)),az ((Ds.nD t a f (Bx.bq F 0) (bO l es bs)).snd.fst)] 78,.ak [.s (.bool l),.s (.ro (.ah cE es)),.s (.ro (.ah cB bs))] 109,.ak [.s (.str (es.getD 0 (CL.d cE)).fst),az (Bx.bq F 0)] 113,.ak [.s (.str (es.getD 0 (CL.d cE)).fst),az (Bx.bq F 0)] 113] (.bd [.agg [.s (.str (es.getD 0 (CL.d cE)).fst),az (Bx.bq F 0)],.s (.aO .i64 0)])))))))))))))
   (.ab ((0:Int)<=0) (.ab ((0:Int)<(↑bs.length:Int)) (.ab ((0:Nat)<bs.length/\bs.length<=1000) (.ab (aY []) (.ab (aV (ae bs)) (.ite (dq false [] (ae bs) !=0) (.ret [.ak [.ptr 1 0,az aa,.s (.ro (.af .i64 F)),.s (.ro (.af .i64 W)),.s (.ro (.af .i64 O))] 86,.ak [.s (.ro (.strs t)),.s (.ro (.ah cK a)),az f] 78,.ak [.s (.bool false),.s (.ro (.ah cE [])),.s (.ro (.ah cB (ae bs)))] 109,.ak [.s (.str empty),.s (.aO .i64 0)] 113,.ak [.s (.str (bs.getD 0 (CL.d cB)).fst),az (Bx.bq F 0)] 113] (.bd [.agg [.s (.str empty),.s (.aO .i64 0)],az (dq false [] (ae bs))])) (.ab (bD (some [AV.ptr 0 0,az (Bx.bq F 0),.s (.str (bO false [] (ae bs)))])) (.ab (bD (some [au.ak [.s (.ro (.strs t)),.s (.ro (.ah cK a)),az f] 78])) (.ab (Ds.cc t a f) (.ite ((Ds.nD t a f (Bx.bq F 0) (bO false [] (ae bs))).snd.snd !=0) (.ret [.ak [.ptr 1 0,az aa,.s (.ro (.af .i64 F)),.s (.ro (.af .i64 W)),.s (.ro (.af .i64 O))] 86,.ak [.s (.ro (.strs t)),.s (.ro (.ah cK (Ds.nD t a f (Bx.bq F 0) (bO false [] (ae bs))).fst)),az ((Ds.nD t a f (Bx.bq F 0) (bO false [] (ae bs))).snd.fst)] 78,.ak [.s (.bool false),.s (.ro (.ah cE [])),.s (.ro (.ah cB (ae bs)))] 109,.ak [.s (.str empty),.s (.aO .i64 0)] 113,.ak [.s (.str (bs.getD 0 (CL.d cB)).fst),az (Bx.bq F 0)] 113] (.bd [.agg [.s (.str empty),.s (.aO .i64 0)],az ((Ds.nD t a f (Bx.bq F 0) (bO false [] (ae bs))).snd.snd)])) (.ab (List.length F<4294967296) (.ab (List.length W<4294967296) (.ret [.ak [.ptr 1 0,az aa,.s (.ro (.af .i64 (Bx.ft F (Bx.bq F 0)))),.s (.ro (.af .i64 (Bx.c8 W (Bx.bq F 0)))),.s (.ro (.af .i64 O))] 86,.ak [.s (.ro (.strs t)),.s (.ro (.ah cK (Ds.nD t a f (Bx.bq F 0) (bO false [] (ae bs))).fst)),az ((Ds.nD t a f (Bx.bq F 0) (bO false [] (ae bs))).snd.fst)] 78,.ak [.s (.bool false),.s (.ro (.ah cE [])),.s (.ro (.ah cB (ae bs)))] 109,.ak [.s (.str (bs.getD 0 (CL.d cB)).fst),az (Bx.bq F 0)] 113,.ak [.s (.str (bs.getD 0 (CL.d cB)).fst),az (Bx.bq F 0)] 113] (.bd [.agg [.s (.str (bs.getD 0 (CL.d cB)).fst),az (Bx.bq F 0)],.s (.aO .i64 0)]))))))))))))))):=by kernel_rfl
theorem axC(t:Tx)(a:Kp)(f aa:Int)(F W O:Sl)(n:Int):run P arS.sum f72 [] (start f72 [.ptr 0 0,az n] (hQ t a f aa F W O))=
 Tree.ite (Bx.qy W n) (.ab (List.length W<4294967296) (.ab (List.length O<4294967296) (.ret [.ak [.ptr 1 0,az aa,.s (.ro (.af .i64 F)),.s (.ro (.af .i64 (Bx.ft W n))),.s (.ro (.af .i64 (Bx.c8 O n)))] 86,.ak [.s (.ro (.strs t)),.s (.ro (.ah cK a)),az f] 78] (.bd [])))) (.ret [.ak [.ptr 1 0,az aa,.s (.ro (.af .i64 F)),.s (.ro (.af .i64 W)),.s (.ro (.af .i64 O))] 86,.ak [.s (.ro (.strs t)),.s (.ro (.ah cK a)),az f] 78] (.bd [])):=by kernel_rfl
end Ts
open Ds (cK kN kT kM)
namespace Ts
open Go Go.Sx Go.Proofs Lf
abbrev cNd:List CK:=[.bool,.rows cE,.rows cB]
abbrev ni(x:CL cNd):Bool:=x.1
abbrev nE(x:CL cNd):List En:=x.2.1
abbrev nF(x:CL cNd):List Br:=x.2.2.1
abbrev ndM(l:Bool)(es:List En)(bs:List Br):CL cNd:=(l,es,bs,())
abbrev azm:=bM [oz] [bL] (λ((_,es,bs,()),())=>[aY es,aV bs]) (λ((_,es,bs,()),())=>(decide (bw es bs<=254),()))
abbrev azn:=bM [oz] [oz,oz,bk] (λ((_,es,bs,()),())=>[aY es,aV bs]) (λ((l,es,bs,()),())=>((ct l es bs,bz l es bs,bA l es bs,()),(ct l es bs,eH l es bs,eI l es bs,()),u4 l es bs,()))
abbrev auK:=abb 1 (pf 1 [(1,.ah cE []),(2,.ah cB [])] (cu sQW mQN))
def aht:aF:=[(98,axy),(99,azm),(100,azn),(101,auK)]
def anb:List (Nat×Norm):=[(5,⟨[],[0,3],2,[]⟩),(13,⟨[(10,.ah cB [],Lf.sR)],[0,6,10,11],2,[]⟩)]
def yo(t:Tx)(a:Kp)(f aa:Int)(F W O:Sl)(l:Bool)(es:List En)(bs:List Br):bQ:=⟨sl 78 [(0,.ptr 0 0),(3,.ptr 2 0)],hQ t a f aa F W O++[rD l es bs Lf.eRN],hr f70 5,{}⟩
def xC(t:Tx)(a:Kp)(f aa:Int)(F W O:Sl)(ps:List (CL cNd))(out:List Br)(i:Int):bQ:=⟨sl 78 [(0,.ptr 0 0),(6,.vec 2),(10,.vec 3),(11,az i)],hQ t a f aa F W O++[.vec (.ah cNd ps) Lf.eRN,.vec (.ah cB out) Lf.sR],hd f70 13,{}⟩
theorem arU(t:Tx)(a:Kp)(f aa:Int)(F W O:Sl)(l:Bool)(es:List En)(bs:List Br):run P aht.sum f70 anb (start f70 [.ptr 0 0,sS l es bs] (hQ t a f aa F W O))=
 Tree.ite l (.ite ((↑es.length:Int)==0) (.ret [.ak [.ptr 1 0,.s (.int .i64 aa),.s (.ro (.af .i64 F)),.s (.ro (.af .i64 W)),.s (.ro (.af .i64 O))] 86,.ak [.s (.ro (.strs t)),.s (.ro (.ah cK a)),.s (.int .i64 f)] 78,.ak [.s (.bool l),.s (.ro (.ah cE es)),.s (.ro (.ah cB bs))] 109] (.bd [.emp,.s (.aO .i64 0)])) (.ite (!l) (.ite ((↑bs.length:Int)==0) (.ret [.ak [.ptr 1 0,.s (.int .i64 aa),.s (.ro (.af .i64 F)),.s (.ro (.af .i64 W)),.s (.ro (.af .i64 O))] 86,.ak [.s (.ro (.strs t)),.s (.ro (.ah cK a)),.s (.int .i64 f)] 78,.ak [.s (.bool l),.s (.ro (.ah cE es)),.s (.ro (.ah cB bs))] 109] (.bd [.emp,.s (.aO .i64 0)])) (.ite (!l) (.ab ((0:Nat)<bs.length/\bs.length<=1000) (.at (yo t a f aa F W O false [] (ae bs)))) (.at (yo t a f aa F W O l es bs)))) (.ite (!l) (.ab ((0:Nat)<bs.length/\bs.length<=1000) (.at (yo t a f aa F W O false [] (ae bs)))) (.at (yo t a f aa F W O l es bs))))) (.ite (!l) (.ite ((↑bs.length:Int)==0) (.ret [.ak [.ptr 1 0,.s (.int .i64 aa),.s (.ro (.af .i64 F)),.s (.ro (.af .i64 W)),.s (.ro (.af .i64 O))] 86,.ak [.s (.ro (.strs t)),.s (.ro (.ah cK a)),.s (.int .i64 f)] 78,.ak [.s (.bool l),.s (.ro (.ah cE es)),.s (.ro (.ah cB bs))] 109] (.bd [.emp,.s (.aO .i64 0)])) (.ite (!l) (.ab ((0:Nat)<bs.length/\bs.length<=1000) (.at (yo t a f aa F W O false [] (ae bs)))) (.at (yo t a f aa F W O l es bs)))) (.ite (!l) (.ab ((0:Nat)<bs.length/\bs.length<=1000) (.at (yo t a f aa F W O false [] (ae bs)))) (.at (yo t a f aa F W O l es bs)))):=by kernel_rfl
theorem axD(t:Tx)(a:Kp)(f aa:Int)(F W O:Sl)(l:Bool)(es:List En)(bs:List Br):run P aht.sum f70 anb (yo t a f aa F W O l es bs)=
 Tree.ab (aY es) (.ab (aV bs) (.ite (!decide (bw es bs<=254)) (.ab (aY es) (.ab (aV bs) (.ite (u4 l es bs !=0) (.ret [.ak [.ptr 1 0,.s (.int .i64 aa),.s (.ro (.af .i64 F)),.s (.ro (.af .i64 W)),.s (.ro (.af .i64 O))] 86,.ak [.s (.ro (.strs t)),.s (.ro (.ah cK a)),.s (.int .i64 f)] 78,.ak [.s (.bool l),.s (.ro (.ah cE es)),.s (.ro (.ah cB bs))] 109,.vec (.ah cNd [ndM l es bs]) 109,.vec (.ah cE (bz l es bs)) 67,.vec (.ah cB (bA l es bs)) 113,.vec (.ah cE (eH l es bs)) 67,.vec (.ah cB (eI l es bs)) 113,.ak [.s (.bool (ct l es bs)),.vec 4,.vec 5] 109,.ak [.s (.bool (ct l es bs)),.vec 6,.vec 7] 109] (.bd [.emp,.s (.int .i64 (u4 l es bs))])) (.at (xC t a f aa F W O [ndM (ct l es bs) (bz l es bs) (bA l es bs),ndM (ct l es bs) (eH l es bs) (eI l es bs)] [] 0))))) (.at (xC t a f aa F W O [ndM l es bs] [] 0)))):=by kernel_rfl
theorem arV(t:Tx)(a:Kp)(f aa:Int)(F W O:Sl)(ps:List (CL cNd))(out:List Br)(i:Int):run P aht.sum f70 anb (xC t a f aa F W O ps out i)=
 Tree.ite (decide (i<ps.length)) (.ab ((0:Int)<=i) (.ab (i<ps.length) (.ab (bD (some [AV.ptr 0 0,.agg [.s (.bool (ni (el ps i))),.s (.ro (.ah cE (nE (el ps i)))),.s (.ro (.ah cB (nF (el ps i))))]])) (.ab (bD (some [au.ak [.ptr 1 0,az aa,.s (.ro (.af .i64 F)),.s (.ro (.af .i64 W)),.s (.ro (.af .i64 O))] 86,.ak [.s (.ro (.strs t)),.s (.ro (.ah cK a)),az f] 78])) (.ab (Ds.cc t a f) (.ab (bn F) (.ab (bn W) (.ab ((ni (el ps i)=true->(0:Nat)<(nE (el ps i)).length)/\(ni (el ps i)=false->(0:Nat)<(nF (el ps i)).length)) (.ab ((ni (el ps i)=true->nF (el ps i)=[])/\(ni (el ps i)=false->nE (el ps i)=[])) (.ab (aY (nE (el ps i))) (.ab (aV (nF (el ps i))) (.ite ((cF t a f F W (ni (el ps i)) (nE (el ps i)) (nF (el ps i))).snd.snd.snd.snd.snd !=0) (.ret [.ak [.ptr 1 0,az aa,.s (.ro (.af .i64 (cF t a f F W (ni (el ps i)) (nE (el ps i)) (nF (el ps i))).snd.snd.fst)),.s (.ro (.af .i64 (cF t a f F W (ni (el ps i)) (nE (el ps i)) (nF (el ps i))).snd.snd.snd.fst)),.s (.ro (.af .i64 O))] 86,.ak [.s (.ro (.strs t)),.s (.ro (.ah cK (cF t a f F W (ni (el ps i)) (nE (el ps i)) (nF (el ps i))).fst)),az ((cF t a f F W (ni (el ps i)) (nE (el ps i)) (nF (el ps i))).snd.fst)] 78,.vec (.ah cNd ps) 109,.vec (.ah cB out) 113,.ak [.s (.str (cF t a f F W (ni (el ps i)) (nE (el ps i)) (nF (el ps i))).snd.snd.snd.snd.fst.fst),az ((cF t a f F W (ni (el ps i)) (nE (el ps i)) (nF (el ps i))).snd.snd.snd.snd.fst.snd.fst)] 113] (.bd [.emp,az ((cF t a f F W (ni (el ps i)) (nE (el ps i)) (nF (el ps i))).snd.snd.snd.snd.snd)])) (.ab ((out.length+1)*(24:Nat)<=140737488355328) (.ab (aw (i+1)) (.at (xC t (cF t a f F W (ni (el ps i)) (nE (el ps i)) (nF (el ps i))).fst (cF t a f F W (ni (el ps i)) (nE (el ps i)) (nF (el ps i))).snd.fst aa (cF t a f F W (ni (el ps i)) (nE (el ps i)) (nF (el ps i))).snd.snd.fst (cF t a f F W (ni (el ps i)) (nE (el ps i)) (nF (el ps i))).snd.snd.snd.fst O ps (out++[((cF t a f F W (ni (el ps i)) (nE (el ps i)) (nF (el ps i))).snd.snd.snd.snd.fst.fst,(cF t a f F W (ni (el ps i)) (nE (el ps i)) (nF (el ps i))).snd.snd.snd.snd.fst.snd.fst,())]) (i+1))))))))))))))))) (.ret [.ak [.ptr 1 0,az aa,.s (.ro (.af .i64 F)),.s (.ro (.af .i64 W)),.s (.ro (.af .i64 O))] 86,.ak [.s (.ro (.strs t)),.s (.ro (.ah cK a)),az f] 78,.vec (.ah cNd ps) 109,.vec (.ah cB out) 113] (.bd [.vec 3,.s (.aO .i64 0)])):=by kernel_rfl
def imW(w:Wr):QWr:=(Ds.ed w.1,w.2.1,Bx.SL w.2.2.1,Bx.SL w.2.2.2.1,w.2.2.2.2.1,w.2.2.2.2.2)
def xD(w:Wrs):am8:=(Ds.ed w.1,w.2.1,Bx.SL w.2.2.1,Bx.SL w.2.2.2.1,w.2.2.2.2.1,w.2.2.2.2.2)
def r6(c:Chg):adW:=(Ds.ed c.1,c.2.1,Bx.SL c.2.2.1,Bx.SL c.2.2.2.1,Bx.SL c.2.2.2.2.1,c.2.2.2.2.2.1,c.2.2.2.2.2.2)
def imH(c:Chs):adX:=(Ds.ed c.1,c.2.1,c.2.2.1,Bx.SL c.2.2.2.1,Bx.SL c.2.2.2.2.1,Bx.SL c.2.2.2.2.2.1,c.2.2.2.2.2.2)
theorem tk{th:Th}{m:As}{fu:Int}(hd:Ds.cf th m fu)(n ad:Int):fv (Ds.dt th) (Ds.ed m) n ad=fE th m n ad/\ic (Ds.dt th) (Ds.ed m) n ad=jF th m n ad/\bR (Ds.dt th) (Ds.ed m) n ad=bY th m n ad/\aW (Ds.dt th) (Ds.ed m) n ad=bc th m n ad:=by
 have⟨a,b⟩:=Ds.arP hd n;have o:oL (Ds.dt th) (Ds.ed m) n ad=qt th m n ad:=by unfold oL qt;rw[a]
 refine⟨by unfold fv fE;rw[a,b],by unfold ic jF;rw[o,b],by unfold bR bY;rw[o,b],by unfold aW bc;rw[o,b]⟩
structure StW (th:Th) (m:As) (fu:Int) (fr fs:Ws):Prop where
 d:Ds.cf th m fu
 fr:Bx.okW fr
 fs:Bx.okW fs
section
variable{th:Th}{m:As}{fu aa:Int}{fr fs gn:Ws}{l:Bool}{es:List En}{bs:List Br}{key:ByteArray}{op:Option ByteArray}
theorem adY(h:StW th m fu fr fs):StW th (b8 th m fu fr fs l es bs).1 (b8 th m fu fr fs l es bs).2.1 (b8 th m fu fr fs l es bs).2.2.1 (b8 th m fu fr fs l es bs).2.2.2.1:=by
 have⟨a,b⟩:=xm (fs:=fs) (l:=l) (es:=es) (bs:=bs) h.d h.fr;refine⟨a,b, ?_⟩;unfold b8;split;exact h.fs;split;exact h.fs;split;exact h.fs;exact(Bx.gx h.fs _).1
theorem vn(h:StW th m fu fr fs):cF (Ds.dt th) (Ds.ed m) fu (Bx.SL fr) (Bx.SL fs) l es bs=imW (b8 th m fu fr fs l es bs):=by
 unfold cF b8;rw[(Bx.ahs h.fr 0).1,(Bx.ahs h.fr 0).2,Ds.amZ h.d,Bx.xB h.fr,Bx.vk h.fs];by_cases h1:Bx.dZ fr 0=false;rw[if_pos h1,if_pos h1];simp only[imW,xD];rw[if_neg h1,if_neg h1];by_cases h2:dq l es (ae bs)≠0;rw[if_pos h2,if_pos h2];simp only[imW,xD];rw[if_neg h2,if_neg h2];by_cases h3:(Ds.me th m fu (Bx.bN fr 0) (bO l es (ae bs))).2.2≠0;rw[if_pos h3,if_pos h3];simp only[imW,xD];rw[if_neg h3,if_neg h3];simp only[imW]
theorem anc(h:StW th m fu fr fs):StW th (bG th m fu fr fs l es bs).1 (bG th m fu fr fs l es bs).2.1 (bG th m fu fr fs l es bs).2.2.1 (bG th m fu fr fs l es bs).2.2.2.1:=by
 unfold bG;split;exact h;split;exact adY h;split;exact h;have h1:=adY (l:=ct l es (ae bs)) (es:=bz l es (ae bs)) (bs:=bA l es (ae bs)) h;simp only[];split;exact h1;exact adY h1
theorem xE(h:StW th m fu fr fs):bC (Ds.dt th) (Ds.ed m) fu (Bx.SL fr) (Bx.SL fs) l es bs=xD (bG th m fu fr fs l es bs):=by
 unfold bC bG;simp only[];rw[vn h,vn h];by_cases h1:es.length+bs.length=0;rw[if_pos h1,if_pos h1];simp only[imW,xD];rw[if_neg h1,if_neg h1];by_cases h2:bw es (ae bs)<=254;rw[if_pos h2,if_pos h2];simp only[imW,xD];rw[if_neg h2,if_neg h2];by_cases h3:u4 l es (ae bs)≠0;rw[if_pos h3,if_pos h3];simp only[imW,xD];rw[if_neg h3,if_neg h3];have h1:=adY (l:=ct l es (ae bs)) (es:=bz l es (ae bs)) (bs:=bA l es (ae bs)) h;generalize b8 th m fu fr fs (ct l es (ae bs)) (bz l es (ae bs)) (bA l es (ae bs))=w at *;by_cases h4:w.2.2.2.2.2≠0;rw[if_pos h4,if_pos (show(imW w).2.2.2.2.2≠0 from h4)];simp only[imW,xD];rw[if_neg h4,if_neg (show¬(imW w).2.2.2.2.2≠0 from h4)];simp only[imW];rw[vn h1];simp only[imW,xD,aqv,two]
theorem abu(hs:Bx.okW fs)(hg:Bx.okW gn)(n:Int):fC (Bx.SL fs) n=Bx.SL (j5 fs n)/\kK (Bx.SL fs) (Bx.SL gn) n=Bx.SL (r5 fs gn n)/\Bx.okW (j5 fs n)/\Bx.okW (r5 fs gn n):=by
 unfold fC kK j5 r5;rw[Bx.am7 hs,Bx.xB hs,Bx.vk hg];by_cases h:Bx.lL fs n=true;rw[if_pos h,if_pos h,if_pos h,if_pos h];exact⟨rfl,rfl,(Bx.oE hs _).1,(Bx.gx hg _).1⟩;rw[if_neg h,if_neg h,if_neg h,if_neg h];exact⟨rfl,rfl,hs,hg⟩
structure StC (th:Th) (c:Chg):Prop where
 s:StW th c.1 c.2.1 c.2.2.1 c.2.2.2.1
 gn:Bx.okW c.2.2.2.2.1
theorem pk(h:StW th m fu fr fs)(hg:Bx.okW gn):iP (Bx.SL gn) (bC (Ds.dt th) (Ds.ed m) fu (Bx.SL fr) (Bx.SL fs) l es bs)=r6 (iy gn (bG th m fu fr fs l es bs))/\StC th (iy gn (bG th m fu fr fs l es bs)):=by
 rw[xE h];exact⟨by simp only[r6,xD,iP,iy],anc h,hg⟩
theorem abv:∀(k:Nat) {m:As} {fu:Int} {fr fs gn:Ws} {n ad:Int},StW th m fu fr fs->Bx.okW gn->
 kL (Ds.dt th) key op k (Ds.ed m) fu (Bx.SL fr) (Bx.SL fs) (Bx.SL gn) n ad=r6 (vd th key op k m fu fr fs gn n ad)/\StC th (vd th key op k m fu fr fs gn n ad)
 |0,m,fu,fr,fs,gn,n,ad,h,hg=>⟨by simp only[r6,kL,vd],h,hg⟩
 |k+1,m,fu,fr,fs,gn,n,ad,h,hg=>by
  have⟨e1,e2,e3,e4⟩:=tk h.d n ad;unfold kL vd;rw[e1,e2,e3,e4];by_cases h1:fE th m n ad≠0;rw[if_pos h1,if_pos h1];exact⟨by simp only[r6],h,hg⟩;rw[if_neg h1,if_neg h1];by_cases h2:jF th m n ad=true;rw[if_pos h2,if_pos h2];by_cases h3:s7 key op (bY th m n ad)≠0;rw[if_pos h3,if_pos h3];exact⟨by simp only[r6],h,hg⟩;rw[if_neg h3,if_neg h3];have⟨a,b,c,d⟩:=abu h.fs hg n;rw[a,b];exact pk ⟨h.d,h.fr,c⟩ d;rw[if_neg h2,if_neg h2];by_cases h3:bc th m n ad=[];rw[if_pos h3,if_pos h3];exact⟨by simp only[r6],h,hg⟩;rw[if_neg h3,if_neg h3];simp only[];have⟨r1,r2⟩:=abv k (n:=((bc th m n ad).getD (aI (bc th m n ad) key).toNat dB).2.1) (ad:=ad+1) h hg;rw[r1];generalize vd th key op k m fu fr fs gn ((bc th m n ad).getD (aI (bc th m n ad) key).toNat dB).2.1 (ad+1)=c at *;by_cases h4:c.2.2.2.2.2.2≠0;rw[if_pos h4,if_pos (show(r6 c).2.2.2.2.2.2≠0 from h4)];exact⟨by simp only[r6],r2.s,r2.gn⟩;rw[if_neg h4,if_neg (show¬(r6 c).2.2.2.2.2.2≠0 from h4)];have⟨a,b,x,y⟩:=abu r2.s.fs r2.gn n;have z:=pk (l:=false) (es:=bY th m n ad) (bs:=(bc th m n ad).take (aI (bc th m n ad) key).toNat++mq ((bc th m n ad).getD (aI (bc th m n ad) key).toNat dB).1 c.2.2.2.2.2.1++(bc th m n ad).drop ((aI (bc th m n ad) key).toNat+1)) ⟨r2.s.d,r2.s.fr,x⟩ y;rw[<-a,<-b]at z;simpa only[r6]using z
theorem ahu:∀(k:Nat) {fs gn:Ws} {n ad:Int},Ds.cf th m fu->Bx.okW fs->Bx.okW gn->
 (kC (Ds.dt th) (Ds.ed m) k (Bx.SL fs) (Bx.SL gn) n ad).1=Bx.SL (jS th m k fs gn n ad).1/\(kC (Ds.dt th) (Ds.ed m) k (Bx.SL fs) (Bx.SL gn) n ad).2.1=Bx.SL (jS th m k fs gn n ad).2.1/\
 (kC (Ds.dt th) (Ds.ed m) k (Bx.SL fs) (Bx.SL gn) n ad).2.2.2=(jS th m k fs gn n ad).2.2.2/\((jS th m k fs gn n ad).2.2.2=0->(kC (Ds.dt th) (Ds.ed m) k (Bx.SL fs) (Bx.SL gn) n ad).2.2.1=(jS th m k fs gn n ad).2.2.1)/\
 Bx.okW (jS th m k fs gn n ad).1/\Bx.okW (jS th m k fs gn n ad).2.1
 |0,fs,gn,n,ad,hd,hs,hg=>⟨by simp only[kC,jS],by simp only[kC,jS],by simp only[kC,jS],λh=>by simp[jS]at h,hs,hg⟩
 |k+1,fs,gn,n,ad,hd,hs,hg=>by
  have⟨e1,e2,e3,e4⟩:=tk hd n ad;unfold kC jS;rw[e1,e2,e4];by_cases h1:fE th m n ad≠0;rw[if_pos h1,if_pos h1];exact⟨by dsimp only,by dsimp only,by dsimp only,λh=>absurd h h1,hs,hg⟩;rw[if_neg h1,if_neg h1];by_cases h2:jF th m n ad=true\/(bc th m n ad).length≠1;rw[if_pos h2,if_pos h2];exact⟨by dsimp only,by dsimp only,by dsimp only,λ_=>rfl,hs,hg⟩;rw[if_neg h2,if_neg h2];have⟨a,b,x,y⟩:=abu hs hg n;rw[a,b];exact ahu k hd x y
theorem aqx(h:StW th m fu fr fs)(hg:Bx.okW gn):zB (Ds.dt th) key op (Ds.ed m) fu aa (Bx.SL fr) (Bx.SL fs) (Bx.SL gn)=r6 (iq th key op m fu aa fr fs gn)/\StC th (iq th key op m fu aa fr fs gn):=by
 unfold zB iq;by_cases h1:aa≠0;rw[if_pos h1,if_pos h1];exact abv 17 h hg;rw[if_neg h1,if_neg h1];by_cases h2:s7 key op []≠0;rw[if_pos h2,if_pos h2];exact⟨by simp only[r6],h,hg⟩;rw[if_neg h2,if_neg h2];exact pk h hg
theorem auL{c:Chg}(h:StC th c):abt (Ds.dt th) (r6 c)=r6 (upT th c)/\StC th (upT th c):=by
 unfold abt upT;by_cases h1:c.2.2.2.2.2.2=0/\1<c.2.2.2.2.2.1.length;rw[if_pos h1,if_pos (show(r6 c).2.2.2.2.2.2=0/\1<(r6 c).2.2.2.2.2.1.length from h1)];simpa only[r6]using pk (l:=false) (es:=[]) (bs:=c.2.2.2.2.2.1) h.s h.gn;rw[if_neg h1,if_neg (show¬((r6 c).2.2.2.2.2.2=0/\1<(r6 c).2.2.2.2.2.1.length)from h1)];exact⟨rfl,h⟩
theorem adZ{aA:Int}{dr dd de:Ws}{e r r':Int}(hr:e=0->r'=r)(hf:Bx.okW fr)(hg:Bx.okW gn):
 pR aA (Bx.SL dr) (Bx.SL dd) (Bx.SL de) (Ds.ed m) fu r' (Bx.SL fr) (Bx.SL fs) (Bx.SL gn) e=imH (kA th aA dr dd de m fu r fr fs gn e):=by
 unfold pR kA;by_cases h:e≠0;rw[if_pos h,if_pos h];simp only[imH];rw[if_neg h,if_neg h,hr (by simpa using h),Bx.axs hf hg,<-Bx.kB];simp only[imH]
structure StH (th:Th) (c:Chs):Prop where
 s:StW th c.1 c.2.1 c.2.2.2.1 c.2.2.2.2.1
 gn:Bx.okW c.2.2.2.2.2.1
theorem ahv{aA:Int}{dr dd de:Ws}{e:Int}(h:StW th m fu fr fs)(hg:Bx.okW gn)(h1:Bx.okW dr)(h2:Bx.okW dd)(h3:Bx.okW de):StH th (kA th aA dr dd de m fu aa fr fs gn e):=by
 unfold kA;split;exact⟨⟨h.d,h1,h2⟩,h3⟩;exact⟨⟨h.d,(Bx.kx (.inl rfl) h.fr hg).1,h.fs⟩,Bx.fe.1⟩
theorem ane{c:Chg}{aA:Int}{dr dd de:Ws}(h:StC th c)(h1:Bx.okW dr)(h2:Bx.okW dd)(h3:Bx.okW de):mz (Ds.dt th) aA (Bx.SL dr) (Bx.SL dd) (Bx.SL de) (r6 c)=imH (oI th aA dr dd de c)/\StH th (oI th aA dr dd de c):=by
 unfold mz oI;by_cases h4:c.2.2.2.2.2.2=0/\c.2.2.2.2.2.1.length=1;rw[if_pos h4,if_pos (show(r6 c).2.2.2.2.2.2=0/\(r6 c).2.2.2.2.2.1.length=1 from h4)];have⟨a,b,d,e,x,y⟩:=ahu (th:=th) (m:=c.1) (fu:=c.2.1) 17 (fs:=c.2.2.2.1) (gn:=c.2.2.2.2.1) (n:=(c.2.2.2.2.2.1.getD 0 dB).2.1) (ad:=1) h.s.d h.s.fs h.gn;refine⟨?_,ahv ⟨h.s.d,h.s.fr,x⟩ y h1 h2 h3⟩;simp only[r6];rw[a,b,d];exact adZ e h.s.fr y;rw[if_neg h4,if_neg (show¬((r6 c).2.2.2.2.2.2=0/\(r6 c).2.2.2.2.2.1.length=1)from h4)];refine⟨?_,ahv h.s h.gn h1 h2 h3⟩;simp only[r6];exact adZ (λ_=>rfl) h.s.fr h.gn
theorem ahw(h:StW th m fu fr fs)(hg:Bx.okW gn):tj (Ds.dt th) key op (Ds.ed m) fu aa (Bx.SL fr) (Bx.SL fs) (Bx.SL gn)=imH (opT th key op m fu aa fr fs gn)/\StH th (opT th key op m fu aa fr fs gn):=by
 unfold tj opT;by_cases h1:fg key op=true;rw[if_pos h1,if_pos h1];unfold ie lM;have⟨a,b⟩:=aqx (aa:=aa) (key:=key) (op:=op) h hg;have⟨c,d⟩:=auL b;rw[a,c];exact ane d h.fr h.fs hg;rw[if_neg h1,if_neg h1];exact⟨by simp only[imH],h,hg⟩
theorem ahx(hd:Ds.cf th m fu):∀(k:Nat) (n ad:Int),zC (Ds.dt th) (Ds.ed m) key k n ad=ai9 th m key k n ad
 |0,_,_=>rfl|k+1,n,ad=>by
  have⟨e1,e2,e3,e4⟩:=tk hd n ad;unfold zC ai9;rw[e1,e2,e3,e4,ahx hd k]
theorem auM(hd:Ds.cf th m fu):qz (Ds.dt th) (Ds.ed m) aa key=gtT th m aa key:=by
 unfold qz gtT;rw[ahx hd]
end
end Ts
open Ds (cK kN kT kM)
namespace Ts
open Go Go.Sx Go.Proofs Lf
def qL(e:Int)(l:List Br):List Br:=if e=0 then l else []
abbrev abw:Spec (XQ×Bool×List En×List Br):=⟨λ(_,l,es,bs)=>[.ptr 0 0,sS l es bs],λ((t,a,f,aa,F,W,O),_)=>hQ t a f aa F W O,
 λ((t,a,f,_,F,W,_),l,es,bs)=>[Ds.cc t a f,bn F,bn W,mr l es bs,aY es,aV bs],
 λ((t,a,f,aa,F,W,O),l,es,bs)=>hQ t (bC t a f F W l es bs).1 (bC t a f F W l es bs).2.1 aa (bC t a f F W l es bs).2.2.1 (bC t a f F W l es bs).2.2.2.1 O++[.vec (.ah cB (qL (bC t a f F W l es bs).2.2.2.2.2 (bC t a f F W l es bs).2.2.2.2.1)) Lf.sR],
 λ((t,a,f,_,F,W,_),l,es,bs)=>.bd [.vec 2,az (bC t a f F W l es bs).2.2.2.2.2]⟩
theorem gy{F:Sl}(h:bn F):F.length<=1024:=by
 have⟨ws,_,e⟩:=h;rw[e];exact Bx.auI ws
theorem ad0{Z:aZ}:am9.Ok P Z:=aF.Ok.cons (Ds.axk.sum Ds.mRR) (aF.Ok.cons aoO.sum aF.Ok.nil)
theorem anf{t:Tx}{a:Kp}{f aa:Int}{F W O:Sl}:∀y∈adR,(hQ t a f aa F W O).length<=y.2.m:=λy hy=>by
 simp only[adR,mem_cons,List.not_mem_nil,or_false]at hy;subst hy;exact le_refl _
theorem abx{Z:aZ}:fD P Z 47 axv:=by
 refine jN func47 (by kernel_rfl) (λx=>le_of_ble_eq_true (by kernel_rfl)) ?_;rintro⟨⟨t,a,f,aa,F,W,O⟩,n,ad⟩ ⟨(hd:Ds.cc t a f),_⟩ X hX hz;refine Ds.cA hz hX anf ad0 func47 (axw t a f aa F W O n ad) ⟨λh=> ?_,λh=>⟨rfl,rfl,hd,λh2=> ?_,λh2=> ?_⟩⟩;have h:=of_decide_eq_true h;have e0:oL t a n ad=false:=by unfold oL;rw[decide_eq_false (by omega),Bool.false_and]
 refine aa9 2 (by kernel_rfl) (le_refl _) (s8 (.refl (.s (.bool false))) (.em (.ah cE []) rfl) (.em (.ah cB []) rfl) (.refl (.s (.int .i64 4)))) ?_ rfl;show AV.bd [.agg [.s (.bool (ic t a n ad)),.s (.ro (.ah cE (bR t a n ad))),.s (.ro (.ah cB (aW t a n ad)))],az (fv t a n ad)]=_;unfold ic bR aW fv;rw[e0,if_pos h];rfl;have h:=of_decide_eq_false h;have h2:Ds.qrE t a n≠0:=by simpa using h2
 have e0:oL t a n ad=false:=by unfold oL;rw[decide_eq_false h2,Bool.and_false]
 refine aa9 2 (by kernel_rfl) (le_refl _) (s8 (.refl (.s (.bool false))) (.em (.ah cE []) rfl) (.em (.ah cB []) rfl) (.refl (az (Ds.qrE t a n)))) ?_ rfl;show AV.bd [.agg [.s (.bool (ic t a n ad)),.s (.ro (.ah cE (bR t a n ad))),.s (.ro (.ah cB (aW t a n ad)))],az (fv t a n ad)]=_;unfold ic bR aW fv;rw[e0,if_neg h,if_neg h2];rfl;have h:=of_decide_eq_false h;have h2:Ds.qrE t a n=0:=by simpa using h2
 have e0:oL t a n ad=true:=by unfold oL;rw[decide_eq_true h2,decide_eq_true (by omega)];rfl
 refine Ds.cA hz hX anf ad0 func47 (axx t a f aa F W O _ _ _ _) ?_;refine aa9 2 (by kernel_rfl) (le_refl _) (s8 (.refl (.s (.bool (gT (Ds.qrS t a n))))) (.refl (.s (.ro (.ah cE (lJ (Ds.qrS t a n)))))) (.refl (.s (.ro (.ah cB (kJ (Ds.qrS t a n)))))) (.refl (az (pv (Ds.qrS t a n))))) ?_ rfl;show AV.bd [.agg [.s (.bool (ic t a n ad)),.s (.ro (.ah cE (bR t a n ad))),.s (.ro (.ah cB (aW t a n ad)))],az (fv t a n ad)]=_;unfold ic bR aW fv;rw[e0,if_neg h,if_pos h2];rfl
theorem ang{Z:aZ}:cg P Z 98 [oz] [aqw] (λ((_,_,bs,()),())=>[0<List.length (α:=Br) bs/\List.length (α:=Br) bs<=1000]) (λ((_,_,bs,()),())=>((false,[],ae bs,()),())):=by
 refine ay func98 (by kernel_rfl) (by kernel_rfl) ?_;rintro⟨⟨(l:Bool),(es:List En),(bs:List Br),⟨⟩⟩,⟨⟩⟩ _ ⟨⟨(h0:0<bs.length),(h1:bs.length<=1000)⟩,_⟩ X hX hz
 obtain⟨b,r,rfl⟩:∃b r,bs=b::r:=by
  cases bs with
  |nil=>cases h0
  |cons b r=>exact⟨b,r,rfl⟩
 show Safe P 98 X (Ends [aqw] ((false,[],ae (b::r),()),())) _;refine Lf.go hz hX aF.Ok.nil func98 (axB l es (b::r)) ⟨?_,Int.le_refl 0, ?_, ?_⟩;show(0+(r.length+1))*24<=140737488355328;simp only[length_cons]at h1;omega;show(0:Int)<((r.length+1:Nat):Int);omega;exact aM (rs:=[aqw]) ((false,[],(empty,b.2)::r,()),()) rfl (by kernel_rfl)
theorem um{t:Tx}{a:Kp}{f aa:Int}{F W O:Sl}{l:Bool}{es:List En}{bs:List Br}{w:QWr}(e:cF t a f F W l es bs=w):
 sQW.eG ((t,a,f,aa,F,W,O),l,es,bs)=hQ t w.1 w.2.1 aa w.2.2.1 w.2.2.2.1 O/\sQW.out ((t,a,f,aa,F,W,O),l,es,bs)=.bd [.agg [.s (.str w.2.2.2.2.1.1),az w.2.2.2.2.1.2.1],az w.2.2.2.2.2]:=by
 subst e;exact⟨rfl,rfl⟩
theorem ad1{Z:aZ}:arR.Ok P Z:=aF.Ok.cons Bx.am3.sum (aF.Ok.cons ang.gH (aF.Ok.cons aoL.sum (aF.Ok.cons (Ds.axl.sum Ds.mWi) (aF.Ok.cons Bx.uk.gH (aF.Ok.cons Bx.rT.gH aF.Ok.nil)))))
theorem auN{Z:aZ}:fD P Z 101 sQW:=by
 refine fS func101 ?_;rintro⟨⟨t,a,f,aa,F,W,O⟩,l,es,bs⟩ ⟨(hd:Ds.cc t a f),(hF:bn F),(hW:bn W),(cG:((l:Bool)=true->0<(es:List En).length)/\(l=false->0<(bs:List Br).length)),(hlf:(l=true->bs=[])/\(l=false->es=[])),(he:aY es),(hb:aV bs),_⟩ X hX hz;have lF:=gy hF;have lW:=gy hW;cases l with
 |true=>
  obtain rfl:bs=[]:=hlf.1 rfl;have n1:=cG.1 rfl;refine Ds.cA hz hX (by intro y hy;cases hy) ad1 func101 (arT t a f aa F W O true es []) ⟨λh=> ?_,λh=>⟨λ_=>⟨Int.le_refl 0,by omega,he,hb,λh2=> ?_,λh2=>⟨rfl,rfl,hd,λh3=> ?_,λh3=>⟨by omega,by omega, ?_⟩⟩⟩,(λhh=>nomatch hh)⟩⟩;have h:Bx.eU F 0=false:=by simpa using h
  have⟨f1,f2⟩:=um (t:=t) (a:=a) (f:=f) (aa:=aa) (F:=F) (W:=W) (O:=O) (l:=true) (es:=es) (bs:=[]) (w:=(a,f,F,W,dB,41)) (by unfold cF;rw[if_pos h]);exact bK 2 rfl (le_refl _) f2 f1;have h:¬Bx.eU F 0=false:=by simpa using h
  have h2:dq true es (ae [])≠0:=bne_iff_ne.1 h2;have⟨f1,f2⟩:=um (t:=t) (a:=a) (f:=f) (aa:=aa) (F:=F) (W:=W) (O:=O) (l:=true) (es:=es) (bs:=[]) (w:=(a,f,F,W,dB,dq true es (ae []))) (by unfold cF;rw[if_neg h,if_pos h2]);exact bK 2 rfl (le_refl _) f2 f1;have h:¬Bx.eU F 0=false:=by simpa using h
  have h2:¬dq true es (ae [])≠0:=λhh=>hh (bne_eq_false_iff_eq.1 h2);have h3:(Ds.nD t a f (Bx.bq F 0) (bO true es (ae []))).2.2≠0:=bne_iff_ne.1 h3;have⟨f1,f2⟩:=um (t:=t) (a:=a) (f:=f) (aa:=aa) (F:=F) (W:=W) (O:=O) (l:=true) (es:=es) (bs:=[]) (w:=((Ds.nD t a f (Bx.bq F 0) (bO true es (ae []))).1,(Ds.nD t a f (Bx.bq F 0) (bO true es (ae []))).2.1,F,W,dB,(Ds.nD t a f (Bx.bq F 0) (bO true es (ae []))).2.2)) (by unfold cF;rw[if_neg h,if_neg h2,if_pos h3]);exact bK 2 rfl (le_refl _) f2 f1;have h:¬Bx.eU F 0=false:=by simpa using h
  have h2:¬dq true es (ae [])≠0:=λhh=>hh (bne_eq_false_iff_eq.1 h2);have h3:¬(Ds.nD t a f (Bx.bq F 0) (bO true es (ae []))).2.2≠0:=λhh=>hh (bne_eq_false_iff_eq.1 h3);have⟨f1,f2⟩:=um (t:=t) (a:=a) (f:=f) (aa:=aa) (F:=F) (W:=W) (O:=O) (l:=true) (es:=es) (bs:=[]) (w:=((Ds.nD t a f (Bx.bq F 0) (bO true es (ae []))).1,(Ds.nD t a f (Bx.bq F 0) (bO true es (ae []))).2.1,Bx.ft F (Bx.bq F 0),Bx.c8 W (Bx.bq F 0),(gj true es [],Bx.bq F 0,()),0)) (by unfold cF;rw[if_neg h,if_neg h2,if_neg h3]);exact bK 2 rfl (le_refl _) f2 f1
 |false=>
  obtain rfl:es=[]:=hlf.2 rfl;have n1:=cG.2 rfl;refine Ds.cA hz hX (by intro y hy;cases hy) ad1 func101 (arT t a f aa F W O false [] bs) ⟨λh=> ?_,λh=>⟨(λhh=>nomatch hh),λ_=>⟨Int.le_refl 0,by omega,⟨n1,hb.1⟩,he,lg hb,λh2=> ?_,λh2=>⟨rfl,rfl,hd,λh3=> ?_,λh3=>⟨by omega,by omega, ?_⟩⟩⟩⟩⟩;have h:Bx.eU F 0=false:=by simpa using h
  have⟨f1,f2⟩:=um (t:=t) (a:=a) (f:=f) (aa:=aa) (F:=F) (W:=W) (O:=O) (l:=false) (es:=[]) (bs:=bs) (w:=(a,f,F,W,dB,41)) (by unfold cF;rw[if_pos h]);exact bK 2 rfl (le_refl _) f2 f1;have h:¬Bx.eU F 0=false:=by simpa using h
  have h2:dq false [] (ae bs)≠0:=bne_iff_ne.1 h2;have⟨f1,f2⟩:=um (t:=t) (a:=a) (f:=f) (aa:=aa) (F:=F) (W:=W) (O:=O) (l:=false) (es:=[]) (bs:=bs) (w:=(a,f,F,W,dB,dq false [] (ae bs))) (by unfold cF;rw[if_neg h,if_pos h2]);exact bK 2 rfl (le_refl _) f2 f1;have h:¬Bx.eU F 0=false:=by simpa using h
  have h2:¬dq false [] (ae bs)≠0:=λhh=>hh (bne_eq_false_iff_eq.1 h2);have h3:(Ds.nD t a f (Bx.bq F 0) (bO false [] (ae bs))).2.2≠0:=bne_iff_ne.1 h3;have⟨f1,f2⟩:=um (t:=t) (a:=a) (f:=f) (aa:=aa) (F:=F) (W:=W) (O:=O) (l:=false) (es:=[]) (bs:=bs) (w:=((Ds.nD t a f (Bx.bq F 0) (bO false [] (ae bs))).1,(Ds.nD t a f (Bx.bq F 0) (bO false [] (ae bs))).2.1,F,W,dB,(Ds.nD t a f (Bx.bq F 0) (bO false [] (ae bs))).2.2)) (by unfold cF;rw[if_neg h,if_neg h2,if_pos h3]);exact bK 2 rfl (le_refl _) f2 f1;have h:¬Bx.eU F 0=false:=by simpa using h
  have h2:¬dq false [] (ae bs)≠0:=λhh=>hh (bne_eq_false_iff_eq.1 h2);have h3:¬(Ds.nD t a f (Bx.bq F 0) (bO false [] (ae bs))).2.2≠0:=λhh=>hh (bne_eq_false_iff_eq.1 h3);have⟨f1,f2⟩:=um (t:=t) (a:=a) (f:=f) (aa:=aa) (F:=F) (W:=W) (O:=O) (l:=false) (es:=[]) (bs:=bs) (w:=((Ds.nD t a f (Bx.bq F 0) (bO false [] (ae bs))).1,(Ds.nD t a f (Bx.bq F 0) (bO false [] (ae bs))).2.1,Bx.ft F (Bx.bq F 0),Bx.c8 W (Bx.bq F 0),(gj false [] bs,Bx.bq F 0,()),0)) (by unfold cF;rw[if_neg h,if_neg h2,if_neg h3]);exact bK 2 rfl (le_refl _) f2 f1
theorem anh{Z:aZ}:arS.Ok P Z:=aF.Ok.cons Bx.abp.sum (aF.Ok.cons Bx.uk.gH (aF.Ok.cons Bx.rT.gH aF.Ok.nil))
theorem ani{Z:aZ}:fD P Z 72 sQO:=by
 refine fS func72 ?_;rintro⟨⟨t,a,f,aa,F,W,O⟩,n⟩ ⟨(hW:bn W),(hO:bn O),_⟩ X hX hz;have lW:=gy hW;have lO:=gy hO;refine Ds.cA hz hX (by intro y hy;cases hy) anh func72 (axC t a f aa F W O n) ⟨λh=>⟨by omega,by omega, ?_⟩,λh=> ?_⟩;refine bK (h:=hQ t a f aa F (Bx.ft W n) (Bx.c8 O n)) 2 rfl (le_refl _) rfl ?_;show hQ t a f aa F (fC W n) (kK W O n)=_;unfold fC kK;rw[if_pos h,if_pos h];refine bK (h:=hQ t a f aa F W O) 2 rfl (le_refl _) rfl ?_;show hQ t a f aa F (fC W n) (kK W O n)=_;unfold fC kK;rw[if_neg (by rw[h];simp),if_neg (by rw[h];simp)]
end Ts
open Ds (cK kN kT kM)
namespace Ts
open Go Go.Sx Go.Proofs Lf
theorem aby{t:Tx}{a:Kp}{f:Int}{F W:Sl}(hd:Ds.cc t a f)(hF:bn F)(hW:bn W):∃th m fr fs,StW th m f fr fs/\t=Ds.dt th/\a=Ds.ed m/\F=Bx.SL fr/\W=Bx.SL fs:=by
 have⟨th,m,h1,h2,h3⟩:=hd;have⟨fr,h4,h5⟩:=hF;have⟨fs,h6,h7⟩:=hW;exact⟨th,m,fr,fs,⟨h1,h4,h6⟩,h2,h3,h5,h7⟩
theorem aqy{t:Tx}{a:Kp}{f:Int}{F W:Sl}{l:Bool}{es:List En}{bs:List Br}(hd:Ds.cc t a f)(hF:bn F)(hW:bn W):
 Ds.cc t (cF t a f F W l es bs).1 (cF t a f F W l es bs).2.1/\bn (cF t a f F W l es bs).2.2.1/\bn (cF t a f F W l es bs).2.2.2.1:=by
 have⟨th,m,fr,fs,h,e1,e2,e3,e4⟩:=aby hd hF hW;rw[e1,e2,e3,e4,vn h];have s:=adY (l:=l) (es:=es) (bs:=bs) h;simp only[imW];exact⟨⟨th,_,s.d,rfl,rfl⟩,⟨_,s.fr,rfl⟩,⟨_,s.fs,rfl⟩⟩
theorem ad2{t:Tx}{a:Kp}{f:Int}{F W:Sl}{l:Bool}{es:List En}{bs:List Br}(hd:Ds.cc t a f)(hF:bn F)(hW:bn W):
 Ds.cc t (bC t a f F W l es bs).1 (bC t a f F W l es bs).2.1/\bn (bC t a f F W l es bs).2.2.1/\bn (bC t a f F W l es bs).2.2.2.1:=by
 have⟨th,m,fr,fs,h,e1,e2,e3,e4⟩:=aby hd hF hW;rw[e1,e2,e3,e4,xE h];have s:=anc (l:=l) (es:=es) (bs:=bs) h;simp only[xD];exact⟨⟨th,_,s.d,rfl,rfl⟩,⟨_,s.fr,rfl⟩,⟨_,s.fs,rfl⟩⟩
theorem abz{W O:Sl}(hW:bn W)(hO:bn O)(n:Int):bn (fC W n)/\bn (kK W O n):=by
 have⟨fs,h1,e1⟩:=hW;have⟨gn,h2,e2⟩:=hO;have⟨a,b,c,d⟩:=abu h1 h2 n;rw[e1,e2,a,b];exact⟨⟨_,c,rfl⟩,⟨_,d,rfl⟩⟩
theorem ahy{t:Tx}{a:Kp}{f aa:Int}{F W O:Sl}{l:Bool}{es:List En}{bs:List Br}{w:am8}(e:bC t a f F W l es bs=w):
 abw.eG ((t,a,f,aa,F,W,O),l,es,bs)=hQ t w.1 w.2.1 aa w.2.2.1 w.2.2.2.1 O++[.vec (.ah cB (qL w.2.2.2.2.2 w.2.2.2.2.1)) Lf.sR]/\abw.out ((t,a,f,aa,F,W,O),l,es,bs)=.bd [.vec 2,az w.2.2.2.2.2]:=by
 subst e;exact⟨rfl,rfl⟩
theorem xF{t:Tx}{a:Kp}{f aa:Int}{F W O:Sl}:∀y∈anb,(hQ t a f aa F W O).length<=y.2.m:=λy hy=>by
 simp only[anb,mem_cons,List.not_mem_nil,or_false]at hy;rcases hy with rfl|rfl<;>exact le_refl _
theorem oM{Z:aZ}:aht.Ok P Z:=aF.Ok.cons ang.gH (aF.Ok.cons acW.sum (aF.Ok.cons aiJ.sum (aF.Ok.cons (fy (dC (auN.sum mQN) 1 _) 1) aF.Ok.nil)))
section
variable{Z:aZ}{X:Ctx}{t:Tx}{a a0:Kp}{f f0 aa:Int}{F F0 W W0 O:Sl}{l l0:Bool}{es es0:List En}{bs bs0:List Br}{ps:List (CL cNd)}{out:List Br}{i:Int}
theorem tl(hz:cP Z X)(hX:X.H=lk (hQ t a0 f0 aa F0 W0 O))(h0:0<=i)(hi:i<(ps.length:Int))(hp:ps.length<=2)(he:el ps i=ndM l es bs)(hd:Ds.cc t a f)(hF:bn F)(hW:bn W)
 (cG:(l=true->0<es.length)/\(l=false->0<bs.length)) (hlf:mr l es bs) (hse:aY es) (hsb:aV bs) (ho:out.length<=2)
 (azo:(cF t a f F W l es bs).2.2.2.2.2≠0->∃L,bC t a0 f0 F0 W0 l0 es0 bs0=((cF t a f F W l es bs).1,(cF t a f F W l es bs).2.1,(cF t a f F W l es bs).2.2.1,(cF t a f F W l es bs).2.2.2.1,L,(cF t a f F W l es bs).2.2.2.2.2))
 (hok:(cF t a f F W l es bs).2.2.2.2.2=0->Safe P 70 X (nC abw ((t,a0,f0,aa,F0,W0,O),l0,es0,bs0)) (xC t (cF t a f F W l es bs).1 (cF t a f F W l es bs).2.1 aa (cF t a f F W l es bs).2.2.1 (cF t a f F W l es bs).2.2.2.1 O ps (out++[(cF t a f F W l es bs).2.2.2.2.1]) (i+1))):
 Safe P 70 X (nC abw ((t,a0,f0,aa,F0,W0,O),l0,es0,bs0)) (xC t a f aa F W O ps out i):=by
 have T:=arV t a f aa F W O ps out i;rw[he]at T;refine Ds.cA hz hX xF oM func70 T ⟨λ_=>⟨h0,hi,rfl,rfl,hd,hF,hW,cG,hlf,hse,hsb,λh=> ?_,λh=>⟨?_,⟨by omega,by omega⟩,hok (bne_eq_false_iff_eq.1 h)⟩⟩,λh=>absurd hi (of_decide_eq_false h)⟩;have h:=bne_iff_ne.1 h;have⟨L,e⟩:=azo h;have⟨f1,f2⟩:=ahy (aa:=aa) (O:=O) e;have e2:qL (cF t a f F W l es bs).2.2.2.2.2 L=[]:=if_neg h;refine fm ⟨[(0,.ah cB [],Lf.sR)],[0,1],2,[]⟩ rfl (le_refl _) (jQ.same _) f2 ?_;rw[f1,e2];rfl;omega
theorem ad3(hz:cP Z X)(hX:X.H=lk (hQ t a0 f0 aa F0 W0 O))(hi:i=(ps.length:Int))(e:bC t a0 f0 F0 W0 l0 es0 bs0=(a,f,F,W,out,0)):
 Safe P 70 X (nC abw ((t,a0,f0,aa,F0,W0,O),l0,es0,bs0)) (xC t a f aa F W O ps out i):=by
 have⟨f1,f2⟩:=ahy (aa:=aa) (O:=O) e;refine Ds.cA hz hX xF oM func70 (arV t a f aa F W O ps out i) ⟨λh=>absurd (of_decide_eq_true h) (by omega),λ_=> ?_⟩;exact fm ⟨[],[0,1],2,[]⟩ rfl (le_refl _) (jQ.same _) f2 f1
theorem axE(hz:cP Z X)(hX:X.H=lk (hQ t a f aa F W O))(hd:Ds.cc t a f)(hF:bn F)(hW:bn W)(hl:mr l es bs)(h0:¬es.length+bs.length=0)(he:aY es)(hb:aV bs):
 Safe P 70 X (nC abw ((t,a,f,aa,F,W,O),l,es,bs)) (yo t a f aa F W O l es (ae bs)):=by
 have hbb:=lg hb
 have cG:(l=true->0<es.length)/\(l=false->0<(ae bs).length):=by
  rw[zp];refine⟨λe=>Nat.pos_of_ne_zero λh=>h0 ?_,λe=>Nat.pos_of_ne_zero λh=>h0 ?_⟩;rw[hl.1 e,h];rfl;rw[hl.2 e,h];rfl
 have hlb:mr l es (ae bs):=⟨λe=>by rw[hl.1 e];rfl,hl.2⟩;refine Ds.cA hz hX xF oM func70 (axD t a f aa F W O l es (ae bs)) ⟨he,hbb,λh2=>⟨he,hbb,λh3=> ?_,λh3=> ?_⟩,λh2=> ?_⟩;have h2:¬bw es (ae bs)<=254:=by simpa using h2
 have h3:=bne_iff_ne.1 h3;have⟨f1,f2⟩:=ahy (t:=t) (a:=a) (f:=f) (aa:=aa) (F:=F) (W:=W) (O:=O) (l:=l) (es:=es) (bs:=bs) (w:=(a,f,F,W,[],u4 l es (ae bs))) (by unfold bC;rw[if_neg h0,if_neg h2,if_pos h3]);have e2:qL (u4 l es (ae bs)) []=[]:=if_neg h3;refine fm ⟨[(0,.ah cB [],Lf.sR)],[0,1],2,[]⟩ rfl (le_refl _) (jQ.same _) f2 ?_;rw[f1,e2];rfl;have h2:¬bw es (ae bs)<=254:=by simpa using h2
 have h3:u4 l es (ae bs)=0:=bne_eq_false_iff_eq.1 h3;have ok:=al7 (l:=l) (es:=es) (bs:=ae bs) (by rw[h3];rfl);have⟨q1,q2,q3,q4,_,_,_,q5,q6,_,_⟩:=zn ok he hbb;have⟨p1,p2⟩:=ag6 ok;have hsp:ct l es (ae bs)=l:=by unfold ct;rw[ok,Bool.true_and]
 have x1:mr (ct l es (ae bs)) (bz l es (ae bs)) (bA l es (ae bs))/\mr (ct l es (ae bs)) (eH l es (ae bs)) (eI l es (ae bs)):=by
  rw[hsp];unfold bz eH bA eI;cases l with
  |true=>rw[hlb.1 rfl];simp;exact⟨⟨λ_=>rfl,λe=>(nomatch e)⟩,⟨λ_=>rfl,λe=>(nomatch e)⟩⟩|false=>rw[hlb.2 rfl];simp;exact⟨⟨λe=>(nomatch e),λ_=>rfl⟩,⟨λe=>(nomatch e),λ_=>rfl⟩⟩
 have r:=aqy (l:=ct l es (ae bs)) (es:=bz l es (ae bs)) (bs:=bA l es (ae bs)) hd hF hW;refine tl (l:=ct l es (ae bs)) (es:=bz l es (ae bs)) (bs:=bA l es (ae bs)) hz hX (Int.le_refl 0) (by show(0:Int)<2;omega) (le_refl 2) rfl hd hF hW ⟨λe=>(p1 e).1,λe=>(p2 e).1⟩ x1.1 q1 q2 (zero_le _) (λh4=>⟨[], ?_⟩) λh4=> ?_;unfold bC;rw[if_neg h0,if_neg h2,if_neg (by rw[h3];simp)];simp only[];rw[if_pos h4];refine tl (l:=ct l es (ae bs)) (es:=eH l es (ae bs)) (bs:=eI l es (ae bs)) hz hX (by omega) (by show(0:Int)+1<2;omega) (le_refl 2) rfl r.1 r.2.1 r.2.2 ⟨λe=>(p1 e).2,λe=>(p2 e).2⟩ x1.2 q3 q4 (by show 1<=2;omega) (λh5=>⟨[(cF t a f F W (ct l es (ae bs)) (bz l es (ae bs)) (bA l es (ae bs))).2.2.2.2.1,(cF t (cF t a f F W (ct l es (ae bs)) (bz l es (ae bs)) (bA l es (ae bs))).1 (cF t a f F W (ct l es (ae bs)) (bz l es (ae bs)) (bA l es (ae bs))).2.1 (cF t a f F W (ct l es (ae bs)) (bz l es (ae bs)) (bA l es (ae bs))).2.2.1 (cF t a f F W (ct l es (ae bs)) (bz l es (ae bs)) (bA l es (ae bs))).2.2.2.1 (ct l es (ae bs)) (eH l es (ae bs)) (eI l es (ae bs))).2.2.2.2.1], ?_⟩) λh5=> ?_;unfold bC;rw[if_neg h0,if_neg h2,if_neg (by rw[h3];simp)];simp only[];rw[if_neg (by rw[h4];simp)];simp only[aqv];refine ad3 hz hX (by show(0:Int)+1+1=2;omega) ?_;unfold bC;rw[if_neg h0,if_neg h2,if_neg (by rw[h3];simp)];simp only[];rw[if_neg (by rw[h4];simp)];simp only[aqv,h5,nil_append,cons_append];have h2:bw es (ae bs)<=254:=by simpa using h2
 have e1:bC t a f F W l es bs=((cF t a f F W l es (ae bs)).1,(cF t a f F W l es (ae bs)).2.1,(cF t a f F W l es (ae bs)).2.2.1,(cF t a f F W l es (ae bs)).2.2.2.1,[(cF t a f F W l es (ae bs)).2.2.2.2.1],(cF t a f F W l es (ae bs)).2.2.2.2.2):=by
  unfold bC;rw[if_neg h0,if_pos h2]
 refine tl hz hX (Int.le_refl 0) (by show(0:Int)<1;omega) (by show 1<=2;omega) rfl hd hF hW cG hlb he hbb (zero_le _) (λh4=>⟨_,e1⟩) λh4=> ?_;refine ad3 hz hX (by show(0:Int)+1=1;omega) ?_;rw[e1,h4];rfl
theorem anj{Z:aZ}:fD P Z 70 abw:=by
 refine dj func70 (by kernel_rfl) (λx=>le_of_ble_eq_true (by kernel_rfl)) ?_;rintro⟨⟨t,a,f,aa,F,W,O⟩,l,es,bs⟩ ⟨(hd:Ds.cc t a f),(hF:bn F),(hW:bn W),(hl:mr l es bs),(he:aY es),(hb:aV bs),_⟩ X hX hz
 have no:es.length+bs.length=0->∀{L:List au},nC abw ((t,a,f,aa,F,W,O),l,es,bs) (hQ t a f aa F W O++[rD l es bs Lf.eRN]) (.bd [.emp,.s (.aO .i64 0)]):=λh=>by
  have⟨f1,f2⟩:=ahy (t:=t) (a:=a) (f:=f) (aa:=aa) (F:=F) (W:=W) (O:=O) (l:=l) (es:=es) (bs:=bs) (w:=(a,f,F,W,[],0)) (by unfold bC;rw[if_pos h]);exact λ{_}=>fm ⟨[(0,.ah cB [],Lf.sR)],[0,1],2,[]⟩ rfl (le_refl _) (jQ.same _) f2 f1
 cases l with
 |true=>
  obtain rfl:bs=[]:=hl.1 rfl;refine Ds.cA hz hX xF oM func70 (arU t a f aa F W O true es []) ⟨λ_=>⟨λh=> ?_,λh=>⟨λhh=>(nomatch hh),λ_=>⟨λhh=>(nomatch hh),λ_=> ?_⟩⟩⟩,λhh=>(nomatch hh)⟩
  exact no (by have h:(es.length:Int)=0:=eq_of_beq h
               show es.length+0=0;omega) (L:=[])
  have h:¬(es.length:Int)=0:=λe=>by rw[e]at h;cases h
  exact axE hz hX hd hF hW hl (by show¬es.length+0=0;omega) he hb
 |false=>
  obtain rfl:es=[]:=hl.2 rfl;refine Ds.cA hz hX xF oM func70 (arU t a f aa F W O false [] bs) ⟨λhh=>(nomatch hh),λ_=>⟨λ_=>⟨λh=> ?_,λh=>⟨λ_=>⟨?_, ?_⟩,λhh=>(nomatch hh)⟩⟩,λhh=>(nomatch hh)⟩⟩
  exact no (by have h:(bs.length:Int)=0:=eq_of_beq h
               show 0+bs.length=0;omega) (L:=[])
  have h:¬(bs.length:Int)=0:=λe=>by rw[e]at h;cases h
  exact⟨by omega,hb.1⟩;have h:¬(bs.length:Int)=0:=λe=>by rw[e]at h;cases h
  exact axE hz hX hd hF hW hl (by show¬0+bs.length=0;omega) he hb
end
end Ts
open Ds (cK kN kT kM)
namespace Ts
open Go Go.Sx Go.Proofs Lf
abbrev tCh:Ty:=.st [.bool,.str,.str]
abbrev ank(d:Bool)(key val:ByteArray):AV:=.agg [.s (.bool d),.s (.str key),.s (.str val)]
def bH(d:Bool)(val:ByteArray):Option ByteArray:=if d=true then none else some val
abbrev azp:=bM [mX,cv,cv] [mX] (λ(l,_,_,())=>[(l:List En).length<=100000]) (λ(l,key,val,())=>(eO l key val,()))
abbrev azq:=bM [mX,cv] [mX,bL] (λ(l,_,())=>[(l:List En).length<=100000]) (λ(l,key,())=>(dg l key,gI l key,()))
abbrev azr:=bM [mX,cv] [cv,bL] (λ_=>[]) (λ(l,key,())=>(m6 l key,lK l key,()))
abbrev axF:=bM [as6,cv] [bk] (λ(l,_,())=>[jj (mg l)]) (λ(l,key,())=>(aI l key,()))
def arW:aF:=[(96,azp),(97,azq)]
abbrev ajl:Ty:=.b (.jM (.ah cE) Lf.uy)
abbrev axG:=gH [tCh,mX] [ajl,bk] (λ(_,l,())=>[(l:List En).length<=100000]) (λ((d,key,val,()),l,())=>(m8 key (bH d val) l,s7 key (bH d val) l,()))
abbrev abA:=cu axv ana
abbrev anl:=cu sQO mQI
abbrev anm:=abb 1 (pf 1 [(1,.ah cE []),(2,.ah cB [])] (cu abw mQN))
abbrev XQB:Type:=XQ×Int×Int×Bool×ByteArray×ByteArray
def axH(k:Nat)(t:Tx)(a:Kp)(f:Int)(F W O:Sl)(ad:Int)(d:Bool)(key val:ByteArray):List Prop:=[Ds.cc t a f,bn F,bn W,bn O,1<=ad/\ad<=17,18<=ad+(k:Int),1<=key.size/\key.size<=24,d=false->val.size<=100]
def qc0(t:Tx)(key:ByteArray)(op:Option ByteArray)(k:Nat)(a:Kp)(f:Int)(F W O:Sl)(n ad:Int):Kp:=(kL t key op k a f F W O n ad).1
def qc1(t:Tx)(key:ByteArray)(op:Option ByteArray)(k:Nat)(a:Kp)(f:Int)(F W O:Sl)(n ad:Int):Int:=(kL t key op k a f F W O n ad).2.1
def qc2(t:Tx)(key:ByteArray)(op:Option ByteArray)(k:Nat)(a:Kp)(f:Int)(F W O:Sl)(n ad:Int):Sl:=(kL t key op k a f F W O n ad).2.2.1
def qc3(t:Tx)(key:ByteArray)(op:Option ByteArray)(k:Nat)(a:Kp)(f:Int)(F W O:Sl)(n ad:Int):Sl:=(kL t key op k a f F W O n ad).2.2.2.1
def qc4(t:Tx)(key:ByteArray)(op:Option ByteArray)(k:Nat)(a:Kp)(f:Int)(F W O:Sl)(n ad:Int):Sl:=(kL t key op k a f F W O n ad).2.2.2.2.1
def qcL(t:Tx)(key:ByteArray)(op:Option ByteArray)(k:Nat)(a:Kp)(f:Int)(F W O:Sl)(n ad:Int):List Br:=qL (kL t key op k a f F W O n ad).2.2.2.2.2.2 (kL t key op k a f F W O n ad).2.2.2.2.2.1
def qcE(t:Tx)(key:ByteArray)(op:Option ByteArray)(k:Nat)(a:Kp)(f:Int)(F W O:Sl)(n ad:Int):Int:=(kL t key op k a f F W O n ad).2.2.2.2.2.2
abbrev sQB(k:Nat):Spec XQB:=⟨λ(_,n,ad,d,key,val)=>[.ptr 0 0,az n,az ad,ank d key val],λ((t,a,f,aa,F,W,O),_)=>hQ t a f aa F W O,
 λ((t,a,f,_,F,W,O),_,ad,d,key,val)=>axH k t a f F W O ad d key val,
 λ((t,a,f,aa,F,W,O),n,ad,d,key,val)=>hQ t (qc0 t key (bH d val) k a f F W O n ad) (qc1 t key (bH d val) k a f F W O n ad) aa (qc2 t key (bH d val) k a f F W O n ad) (qc3 t key (bH d val) k a f F W O n ad) (qc4 t key (bH d val) k a f F W O n ad)++[.vec (.ah cB (qcL t key (bH d val) k a f F W O n ad)) Lf.sR],
 λ((t,a,f,_,F,W,O),n,ad,d,key,val)=>.bd [.vec 2,az (qcE t key (bH d val) k a f F W O n ad)]⟩
def mCh:AV->Option (Bool×ByteArray×ByteArray)
 |.agg [d,.s (.str key),.s (.str val)]=>match d.iA with
  |some (_,b)=>some (b,key,val)|none=>none
 |_=>none
def mQB:List AV->RM (XQB×List Nat)
 |[t,n,d,c]=>(mQ [t]).bind λ(X,σ)=>match n.cD,d.cD,mCh c with
  |some (_,_,n),some (_,_,d),some (b,key,val)=>.ret ((X,n,d,b,key,val),σ)|_,_,_=>.fail ""
 |_=>.fail ""
def uo(k:Nat):aF:=[(47,abA),(69,axG),(72,anl),(70,anm),(49,axF),(71,cu (sQB k) mQB)]
def ajm:List (Nat×Norm):=[(14,⟨[],[0,1,10,11,14,15],2,[]⟩),(18,⟨[],[0,1,10,14,15,16,17],2,[]⟩),(24,⟨[],[0,1,10,14,16],2,[]⟩)]
def ann(t:Tx)(a:Kp)(f aa:Int)(F W O:Sl)(n:Int)(l:Bool)(es:List En)(bs:List Br)(i e:Int)(r:List Br):bQ:=⟨sl 121 [(0,.ptr 0 0),(1,az n),(10,.ptr 2 0),(11,az e),(14,az i),(15,.vec 3)],hQ t a f aa F W O++[rD l es bs Lf.eRN,.vec (.ah cB r) Lf.sR],hr f71 14,{}⟩
def xG(t:Tx)(a:Kp)(f aa:Int)(F W O:Sl)(n:Int)(l:Bool)(es:List En)(bs:List Br)(i:Int)(r out:List Br)(j:Int):bQ:=⟨sl 121 [(0,.ptr 0 0),(1,az n),(10,.ptr 2 0),(14,az i),(15,.vec 3),(16,.vec 4),(17,az j)],hQ t a f aa F W O++[rD l es bs Lf.eRN,.vec (.ah cB r) Lf.sR,.vec (.ah cB out) Lf.sR],hd f71 18,{}⟩
def ano(t:Tx)(a:Kp)(f aa:Int)(F W O:Sl)(n:Int)(l:Bool)(es:List En)(bs:List Br)(i:Int)(out:List Br):bQ:=⟨sl 121 [(0,.ptr 0 0),(1,az n),(10,.ptr 2 0),(14,az i),(16,.vec 3)],hQ t a f aa F W O++[rD l es bs Lf.eRN,.vec (.ah cB out) Lf.sR],hr f71 24,{}⟩
theorem arX(d:Bool)(key val:ByteArray)(l:List En):run P arW.sum f69 [] (start f69 [ank d key val,.s (.ro (.ah cE l))] [])=
 Tree.ite (!d) (.ab (l.length<=100000) (.ret [.ak [.s (.bool d),.s (.str key),.s (.str val)] 94,.vec (.ah cE (eO l key val)) 67] (.bd [.vec 1,.s (.aO .i64 0)]))) (.ab (l.length<=100000) (.ite (!gI l key) (.ret [.ak [.s (.bool d),.s (.str key),.s (.str val)] 94,.vec (.ah cE (dg l key)) 67] (.bd [.emp,.s (.aO .i64 5)])) (.ret [.ak [.s (.bool d),.s (.str key),.s (.str val)] 94,.vec (.ah cE (dg l key)) 67] (.bd [.vec 1,.s (.aO .i64 0)])))):=by kernel_rfl
theorem azt(k:Nat)(t:Tx)(a:Kp)(f aa:Int)(F W O:Sl)(n ad:Int)(d:Bool)(key val:ByteArray):run P (uo k).sum f71 ajm (start f71 [.ptr 0 0,az n,az ad,ank d key val] (hQ t a f aa F W O))=
 Tree.ab (bD (some [AV.ptr 0 0,az n,az ad]))
 (.ab (bD (some [au.ak [.ptr 1 0,az aa,.s (.ro (.af .i64 F)),.s (.ro (.af .i64 W)),.s (.ro (.af .i64 O))] 86,.ak [.s (.ro (.strs t)),.s (.ro (.ah cK a)),az f] 78]))
   (.ab (Ds.cc t a f)
     (.ite (fv t a n ad !=0) (.ret [.ak [.ptr 1 0,az aa,.s (.ro (.af .i64 F)),.s (.ro (.af .i64 W)),.s (.ro (.af .i64 O))] 86,.ak [.s (.ro (.strs t)),.s (.ro (.ah cK a)),az f] 78,.ak [.s (.bool d),.s (.str key),.s (.str val)] 94,.ak [.s (.bool (ic t a n ad)),.s (.ro (.ah cE (bR t a n ad))),.s (.ro (.ah cB (aW t a n ad)))] 109] (.bd [.emp,az (fv t a n ad)]))
       (.ite (ic t a n ad) (.ab ((bR t a n ad).length<=100000) (.ite (s7 key (bH d val) (bR t a n ad) !=0) (.ret [.ak [.ptr 1 0,az aa,.s (.ro (.af .i64 F)),.s (.ro (.af .i64 W)),.s (.ro (.af .i64 O))] 86,.ak [.s (.ro (.strs t)),.s (.ro (.ah cK a)),az f] 78,.ak [.s (.bool d),.s (.str key),.s (.str val)] 94,.ak [.s (.bool (ic t a n ad)),.s (.ro (.ah cE (bR t a n ad))),.s (.ro (.ah cB (aW t a n ad)))] 109] (.bd [.emp,az (s7 key (bH d val) (bR t a n ad))])) (.ab (bD (some [AV.ptr 0 0,az n])) (.ab (bD (some [au.ak [.ptr 1 0,az aa,.s (.ro (.af .i64 F)),.s (.ro (.af .i64 W)),.s (.ro (.af .i64 O))] 86,.ak [.s (.ro (.strs t)),.s (.ro (.ah cK a)),az f] 78])) (.ab (bn W) (.ab (bn O) (.ab (bD (some [AV.ptr 0 0,.agg [.s (.bool true),.s (.ro (.ah cE (m8 key (bH d val) (bR t a n ad)))),.s (.ro (.ah cB []))]])) (.ab (bD (some [au.ak [.ptr 1 0,az aa,.s (.ro (.af .i64 F)),.s (.ro (.af .i64 (fC W n))),.s (.ro (.af .i64 (kK W O n)))] 86,.ak [.s (.ro (.strs t)),.s (.ro (.ah cK a)),az f] 78])) (.ab (Ds.cc t a f) (.ab (bn F) (.ab (bn (fC W n)) (.ab (mr true (m8 key (bH d val) (bR t a n ad)) []) (.ab (aY (m8 key (bH d val) (bR t a n ad))) (.ab (aV []) (.ret [.ak [.ptr 1 0,az aa,.s (.ro (.af .i64 (bC t a f F (fC W n) true (m8 key (bH d val) (bR t a n ad)) []).snd.snd.fst)),.s (.ro (.af .i64 (bC t a f F (fC W n) true (m8 key (bH d val) (bR t a n ad)) []).snd.snd.snd.fst)),.s (.ro (.af .i64 (kK W O n)))] 86,.ak [.s (.ro (.strs t)),.s (.ro (.ah cK (bC t a f F (fC W n) true (m8 key (bH d val) (bR t a n ad)) []).fst)),az ((bC t a f F (fC W n) true (m8 key (bH d val) (bR t a n ad)) []).snd.fst)] 78,.ak [.s (.bool d),.s (.str key),.s (.str val)] 94,.ak [.s (.bool (ic t a n ad)),.s (.ro (.ah cE (bR t a n ad))),.s (.ro (.ah cB (aW t a n ad)))] 109,.vec (.ah cB (qL (bC t a f F (fC W n) true (m8 key (bH d val) (bR t a n ad)) []).snd.snd.snd.snd.snd (bC t a f F (fC W n) true (m8 key (bH d val) (bR t a n ad)) []).snd.snd.snd.snd.fst)) 113] (.bd [.vec 4,az ((bC t a f F (fC W n) true (m8 key (bH d val) (bR t a n ad)) []).snd.snd.snd.snd.snd)]))))))))))))))))
         (.ite ((↑(aW t a n ad).length:Int)==0) (.ret [.ak [.ptr 1 0,az aa,.s (.ro (.af .i64 F)),.s (.ro (.af .i64 W)),.s (.ro (.af .i64 O))] 86,.ak [.s (.ro (.strs t)),.s (.ro (.ah cK a)),az f] 78,.ak [.s (.bool d),.s (.str key),.s (.str val)] 94,.ak [.s (.bool (ic t a n ad)),.s (.ro (.ah cE (bR t a n ad))),.s (.ro (.ah cB (aW t a n ad)))] 109] (.bd [.emp,.s (.aO .i64 4)])) (.ab (jj (mg (aW t a n ad))) (.ab ((0:Int)<=aI (aW t a n ad) key) (.ab (aI (aW t a n ad) key<(↑(aW t a n ad).length:Int)) (.ab (aw (ad+1)) (.ab (bD (some [AV.ptr 0 0,az (((aW t a n ad).getD (aI (aW t a n ad) key).toNat (CL.d cB)).snd.fst),az (ad+1),.agg [.s (.bool d),.s (.str key),.s (.str val)]])) (.ab (bD (some [au.ak [.ptr 1 0,az aa,.s (.ro (.af .i64 F)),.s (.ro (.af .i64 W)),.s (.ro (.af .i64 O))] 86,.ak [.s (.ro (.strs t)),.s (.ro (.ah cK a)),az f] 78])) (.ab (Ds.cc t a f) (.ab (bn F) (.ab (bn W) (.ab (bn O) (.ab ((1:Int)<=ad+1/\ad+1<=17) (.ab ((18:Int)<=ad+1+(↑k:Int)) (.ab ((1:Nat)<=key.size/\key.size<=24) (.ab (d=false->val.size<=100) (.at (ann t (qc0 t key (bH d val) k a f F W O ((aW t a n ad).getD (aI (aW t a n ad) key).toNat (CL.d cB)).snd.fst (ad+1)) (qc1 t key (bH d val) k a f F W O ((aW t a n ad).getD (aI (aW t a n ad) key).toNat (CL.d cB)).snd.fst (ad+1)) aa (qc2 t key (bH d val) k a f F W O ((aW t a n ad).getD (aI (aW t a n ad) key).toNat (CL.d cB)).snd.fst (ad+1)) (qc3 t key (bH d val) k a f F W O ((aW t a n ad).getD (aI (aW t a n ad) key).toNat (CL.d cB)).snd.fst (ad+1)) (qc4 t key (bH d val) k a f F W O ((aW t a n ad).getD (aI (aW t a n ad) key).toNat (CL.d cB)).snd.fst (ad+1)) n (ic t a n ad) (bR t a n ad) (aW t a n ad) (aI (aW t a n ad) key) (qcE t key (bH d val) k a f F W O ((aW t a n ad).getD (aI (aW t a n ad) key).toNat (CL.d cB)).snd.fst (ad+1)) (qcL t key (bH d val) k a f F W O ((aW t a n ad).getD (aI (aW t a n ad) key).toNat (CL.d cB)).snd.fst (ad+1))))))))))))))))))))))):=by kernel_rfl
theorem auO(k:Nat)(t:Tx)(a:Kp)(f aa:Int)(F W O:Sl)(n:Int)(l:Bool)(es:List En)(bs:List Br)(i e:Int)(r:List Br):run P (uo k).sum f71 ajm (ann t a f aa F W O n l es bs i e r)=
 Tree.ite (e !=0) (.ret [.ak [.ptr 1 0,.s (.int .i64 aa),.s (.ro (.af .i64 F)),.s (.ro (.af .i64 W)),.s (.ro (.af .i64 O))] 86,.ak [.s (.ro (.strs t)),.s (.ro (.ah cK a)),.s (.int .i64 f)] 78,.ak [.s (.bool l),.s (.ro (.ah cE es)),.s (.ro (.ah cB bs))] 109,.vec (.ah cB r) 113] (.bd [.emp,.s (.int .i64 e)])) (.ab ((0:Int)<=0) (.ab ((0:Int)<=i) (.ab (i<=bs.length) (.ab (((0:Nat)+(List.drop (Int.toNat 0) (List.take i.toNat bs)).length)*(24:Nat)<=140737488355328) (.at (xG t a f aa F W O n l es bs i r ([]++List.drop (Int.toNat 0) (List.take i.toNat bs)) 0)))))):=by kernel_rfl
theorem afH(k:Nat)(t:Tx)(a:Kp)(f aa:Int)(F W O:Sl)(n:Int)(l:Bool)(es:List En)(bs:List Br)(i:Int)(r out:List Br)(j:Int):run P (uo k).sum f71 ajm (xG t a f aa F W O n l es bs i r out j)=
 Tree.ite (decide (j<r.length)) (.ab ((0:Int)<=j) (.ab (j<r.length) (.ite (j==0) (.ab ((0:Int)<=i) (.ab (i<bs.length) (.ab ((out.length+1)*(24:Nat)<=140737488355328) (.ab (aw (j+1)) (.at (xG t a f aa F W O n l es bs i r (out++[((bs.getD i.toNat (CL.d cB)).fst,(r.getD j.toNat (CL.d cB)).snd.fst,())]) (j+1))))))) (.ab ((out.length+1)*(24:Nat)<=140737488355328) (.ab (aw (j+1)) (.at (xG t a f aa F W O n l es bs i r (out++[((r.getD j.toNat (CL.d cB)).fst,(r.getD j.toNat (CL.d cB)).snd.fst,())]) (j+1)))))))) (.at (ano t a f aa F W O n l es bs i out)):=by kernel_rfl
theorem auP(k:Nat)(t:Tx)(a:Kp)(f aa:Int)(F W O:Sl)(n:Int)(l:Bool)(es:List En)(bs:List Br)(i:Int)(out:List Br):run P (uo k).sum f71 ajm (ano t a f aa F W O n l es bs i out)=
 Tree.ab (aw (i+1)) (.ab ((0:Int)<=i+1) (.ab (i+1<=(↑bs.length:Int)) (.ab ((↑bs.length:Int)<=(↑bs.length:Int)) (.ab ((out.length+(List.drop (i+1).toNat (List.take (↑bs.length:Int).toNat bs)).length)*(24:Nat)<=140737488355328) (.ab (bD (some [AV.ptr 0 0,az n])) (.ab (bD (some [au.ak [.ptr 1 0,az aa,.s (.ro (.af .i64 F)),.s (.ro (.af .i64 W)),.s (.ro (.af .i64 O))] 86,.ak [.s (.ro (.strs t)),.s (.ro (.ah cK a)),az f] 78])) (.ab (bn W) (.ab (bn O) (.ab (bD (some [AV.ptr 0 0,.agg [.s (.bool false),.s (.ro (.ah cE [])),.s (.ro (.ah cB (out++List.drop (i+1).toNat (List.take (↑bs.length:Int).toNat bs))))]])) (.ab (bD (some [au.ak [.ptr 1 0,az aa,.s (.ro (.af .i64 F)),.s (.ro (.af .i64 (fC W n))),.s (.ro (.af .i64 (kK W O n)))] 86,.ak [.s (.ro (.strs t)),.s (.ro (.ah cK a)),az f] 78])) (.ab (Ds.cc t a f) (.ab (bn F) (.ab (bn (fC W n)) (.ab (mr false [] (out++List.drop (i+1).toNat (List.take (↑bs.length:Int).toNat bs))) (.ab (aY []) (.ab (aV (out++List.drop (i+1).toNat (List.take (↑bs.length:Int).toNat bs))) (.ret [.ak [.ptr 1 0,az aa,.s (.ro (.af .i64 (bC t a f F (fC W n) false [] (out++List.drop (i+1).toNat (List.take (↑bs.length:Int).toNat bs))).snd.snd.fst)),.s (.ro (.af .i64 (bC t a f F (fC W n) false [] (out++List.drop (i+1).toNat (List.take (↑bs.length:Int).toNat bs))).snd.snd.snd.fst)),.s (.ro (.af .i64 (kK W O n)))] 86,.ak [.s (.ro (.strs t)),.s (.ro (.ah cK (bC t a f F (fC W n) false [] (out++List.drop (i+1).toNat (List.take (↑bs.length:Int).toNat bs))).fst)),az ((bC t a f F (fC W n) false [] (out++List.drop (i+1).toNat (List.take (↑bs.length:Int).toNat bs))).snd.fst)] 78,.ak [.s (.bool l),.s (.ro (.ah cE es)),.s (.ro (.ah cB bs))] 109,.aH,.aH,.vec (.ah cB (qL (bC t a f F (fC W n) false [] (out++List.drop (i+1).toNat (List.take (↑bs.length:Int).toNat bs))).snd.snd.snd.snd.snd (bC t a f F (fC W n) false [] (out++List.drop (i+1).toNat (List.take (↑bs.length:Int).toNat bs))).snd.snd.snd.snd.fst)) 113] (.bd [.vec 5,az ((bC t a f F (fC W n) false [] (out++List.drop (i+1).toNat (List.take (↑bs.length:Int).toNat bs))).snd.snd.snd.snd.snd)])))))))))))))))))):=by kernel_rfl
end Ts
open Ds (cK kN kT kM)
namespace Ts
open Go Go.Sx Go.Proofs Lf
theorem auQ{Z:aZ}{f:FuncId}{ts rs:List Ty}{pre aeB:AL ts->List Prop}{F F':AL ts->AL rs}(h:cg P Z f ts rs pre F)(hp:∀x,bE (aeB x)->bE (pre x)/\F x=F' x):cg P Z f ts rs aeB F':=by
 intro x hx hn G w vs h1 h2 h3;have⟨a,b⟩:=hp x hn;rw[<-b];exact h x hx a G w vs h1 h2 h3
theorem anp{Z:aZ}:cg P Z 96 [mX,cv,cv] [mX] (λ(l,_,_,())=>[(l:List En).length<=100000]) (λ(l,key,val,())=>(eO l key val,())):=
 auQ aoY λ(l,key,val,()) h=>⟨h,congrArg (λz:List En=>(z,())) (put_eq key val l)⟩
theorem xH{Z:aZ}:cg P Z 49 [as6,cv] [bk] (λ(l,_,())=>[jj (mg l)]) (λ(l,key,())=>(aI l key,())):=
 auQ aiL λ(l,key,()) h=>⟨trivial,congrArg (λz:Int=>(z,())) (aiP (l:=l) (key:=key) h.1)⟩
theorem ad4{Z:aZ}:arW.Ok P Z:=aF.Ok.cons anp.sum (aF.Ok.cons aoZ.sum aF.Ok.nil)
theorem anq{Z:aZ}:cg P Z 69 [tCh,mX] [ajl,bk] (λ(_,l,())=>[(l:List En).length<=100000]) (λ((d,key,val,()),l,())=>(m8 key (bH d val) l,s7 key (bH d val) l,())):=by
 refine ay func69 (by kernel_rfl) (by kernel_rfl) ?_;rintro⟨⟨(d:Bool),(key:ByteArray),(val:ByteArray),⟨⟩⟩,(l:List En),⟨⟩⟩ _ ⟨(hl:l.length<=100000),_⟩ X hX hz;show Safe P 69 X (Ends [ajl,bk] (m8 key (bH d val) l,s7 key (bH d val) l,())) _;cases d with
 |false=>
  refine Lf.go hz hX ad4 func69 (arX false key val l) ⟨λ_=>⟨hl, ?_⟩,λh=>(nomatch h)⟩;exact aM (rs:=[ajl,bk]) (eO l key val,0,()) rfl (by kernel_rfl)
 |true=>
  refine Lf.go hz hX ad4 func69 (arX true key val l) ⟨λh=>(nomatch h),λ_=>⟨hl,λh=> ?_,λh=> ?_⟩⟩;have h:gI l key=false:=by simpa using h
  refine aM (rs:=[ajl,bk]) ([],5,()) ?_ (by kernel_rfl);show(if gI l key=true then dg l key else [],if gI l key=true then(0:Int)else 5,())=_;rw[if_neg (by rw[h];simp),if_neg (by rw[h];simp)];rfl;have h:gI l key=true:=by simpa using h
  refine aM (rs:=[ajl,bk]) (dg l key,0,()) ?_ (by kernel_rfl);show(if gI l key=true then dg l key else [],if gI l key=true then(0:Int)else 5,())=_;rw[if_pos h,if_pos h];rfl
theorem mA{t:Tx}{a:Kp}{f n ad:Int}(hd:Ds.cc t a f)(h:fv t a n ad=0):ch (ic t a n ad) (bR t a n ad) (aW t a n ad)=true/\(bR t a n ad).length<=126/\(aW t a n ad).length<=84/\aY (bR t a n ad)/\aV (aW t a n ad)/\ad<=16:=by
 have⟨th,m,h1,e1,e2⟩:=hd;rw[e1,e2]at h ⊢;have⟨a1,a2,a3,a4⟩:=tk h1 n ad;rw[a1]at h;rw[a2,a3,a4];have⟨b1,b2,b3,b4,b5,b6,_⟩:=eu h;exact⟨b1,b2,b3,b4,b5,b6⟩
theorem zD{t:Tx}{a:Kp}{f:Int}{F W O:Sl}{key:ByteArray}{op:Option ByteArray}(hk:key.size<=24)(hd:Ds.cc t a f)(hF:bn F)(hW:bn W)(hO:bn O)(k:Nat)(n ad:Int):
 Ds.cc t (qc0 t key op k a f F W O n ad) (qc1 t key op k a f F W O n ad)/\bn (qc2 t key op k a f F W O n ad)/\bn (qc3 t key op k a f F W O n ad)/\bn (qc4 t key op k a f F W O n ad)/\
 (qcL t key op k a f F W O n ad).length<=2/\iN (qcL t key op k a f F W O n ad):=by
 have⟨th,m,fr,fs,h,e1,e2,e3,e4⟩:=aby hd hF hW;have⟨gn,h5,e5⟩:=hO;rw[e1,e2,e3,e4,e5];have⟨q,s⟩:=abv (key:=key) (op:=op) k (n:=n) (ad:=ad) h h5;have g:=oG (th:=th) (key:=key) (op:=op) hk k (m:=m) (fu:=f) (fr:=fr) (fs:=fs) (gn:=gn) (n:=n) (ad:=ad) h.d h.fr;unfold qc0 qc1 qc2 qc3 qc4 qcL;rw[q];simp only[r6];refine⟨⟨th,_,s.s.d,rfl,rfl⟩,⟨_,s.s.fr,rfl⟩,⟨_,s.s.fs,rfl⟩,⟨_,s.gn,rfl⟩, ?_⟩;unfold qL;split;exact⟨g.two,g.key⟩;exact⟨zero_le _,λb hb=>by cases hb⟩
theorem oN{t:Tx}{key:ByteArray}{op:Option ByteArray}{k:Nat}{a:Kp}{f:Int}{F W O:Sl}{n ad:Int}:kL t key op (k+1) a f F W O n ad=
 if fv t a n ad≠0 then(a,f,F,W,O,[],fv t a n ad)
 else if ic t a n ad=true then
  if s7 key op (bR t a n ad)≠0 then(a,f,F,W,O,[],s7 key op (bR t a n ad))
  else iP (kK W O n) (bC t a f F (fC W n) true (m8 key op (bR t a n ad)) (aW t a n ad))
 else if aW t a n ad=[]then(a,f,F,W,O,[],4)
 else if qcE t key op k a f F W O ((aW t a n ad).getD (aI (aW t a n ad) key).toNat dB).2.1 (ad+1)≠0 then
  (qc0 t key op k a f F W O ((aW t a n ad).getD (aI (aW t a n ad) key).toNat dB).2.1 (ad+1),qc1 t key op k a f F W O ((aW t a n ad).getD (aI (aW t a n ad) key).toNat dB).2.1 (ad+1),
   qc2 t key op k a f F W O ((aW t a n ad).getD (aI (aW t a n ad) key).toNat dB).2.1 (ad+1),qc3 t key op k a f F W O ((aW t a n ad).getD (aI (aW t a n ad) key).toNat dB).2.1 (ad+1),
   qc4 t key op k a f F W O ((aW t a n ad).getD (aI (aW t a n ad) key).toNat dB).2.1 (ad+1),[],qcE t key op k a f F W O ((aW t a n ad).getD (aI (aW t a n ad) key).toNat dB).2.1 (ad+1))
 else iP (kK (qc3 t key op k a f F W O ((aW t a n ad).getD (aI (aW t a n ad) key).toNat dB).2.1 (ad+1)) (qc4 t key op k a f F W O ((aW t a n ad).getD (aI (aW t a n ad) key).toNat dB).2.1 (ad+1)) n)
  (bC t (qc0 t key op k a f F W O ((aW t a n ad).getD (aI (aW t a n ad) key).toNat dB).2.1 (ad+1)) (qc1 t key op k a f F W O ((aW t a n ad).getD (aI (aW t a n ad) key).toNat dB).2.1 (ad+1))
    (qc2 t key op k a f F W O ((aW t a n ad).getD (aI (aW t a n ad) key).toNat dB).2.1 (ad+1)) (fC (qc3 t key op k a f F W O ((aW t a n ad).getD (aI (aW t a n ad) key).toNat dB).2.1 (ad+1)) n) false (bR t a n ad)
    ((aW t a n ad).take (aI (aW t a n ad) key).toNat++mq ((aW t a n ad).getD (aI (aW t a n ad) key).toNat dB).1 (qcL t key op k a f F W O ((aW t a n ad).getD (aI (aW t a n ad) key).toNat dB).2.1 (ad+1))++(aW t a n ad).drop ((aI (aW t a n ad) key).toNat+1))):=by
 by_cases h:qcE t key op k a f F W O ((aW t a n ad).getD (aI (aW t a n ad) key).toNat dB).2.1 (ad+1)=0;have e:qcL t key op k a f F W O ((aW t a n ad).getD (aI (aW t a n ad) key).toNat dB).2.1 (ad+1)=(kL t key op k a f F W O ((aW t a n ad).getD (aI (aW t a n ad) key).toNat dB).2.1 (ad+1)).2.2.2.2.2.1:=if_pos h;rw[e];rfl;rw[if_pos (c:=qcE t key op k a f F W O ((aW t a n ad).getD (aI (aW t a n ad) key).toNat dB).2.1 (ad+1)≠0) h];unfold kL;simp only[];rw[if_pos (c:=(kL t key op k a f F W O ((aW t a n ad).getD (aI (aW t a n ad) key).toNat dB).2.1 (ad+1)).2.2.2.2.2.2≠0) h];rfl
theorem zE{t:Tx}{a:Kp}{f aa:Int}{F W O:Sl}{n ad:Int}{d:Bool}{key val:ByteArray}{k:Nat}{c:adW}(e:kL t key (bH d val) k a f F W O n ad=c):
 (sQB k).eG ((t,a,f,aa,F,W,O),n,ad,d,key,val)=hQ t c.1 c.2.1 aa c.2.2.1 c.2.2.2.1 c.2.2.2.2.1++[.vec (.ah cB (qL c.2.2.2.2.2.2 c.2.2.2.2.2.1)) Lf.sR]/\(sQB k).out ((t,a,f,aa,F,W,O),n,ad,d,key,val)=.bd [.vec 2,az c.2.2.2.2.2.2]:=by
 subst e;exact⟨rfl,rfl⟩
end Ts
open Ds (cK kN kT kM)
namespace Ts
open Go Go.Sx Go.Proofs Lf
theorem anr{k:Nat}{Z:aZ}(h:fD P Z 71 (sQB k)):(uo k).Ok P Z:=
 aF.Ok.cons (abx.sum ana) (aF.Ok.cons anq.gH (aF.Ok.cons (ani.sum mQI) (aF.Ok.cons (fy (dC (anj.sum mQN) 1 _) 1) (aF.Ok.cons xH.sum (aF.Ok.cons (h.sum mQB) aF.Ok.nil)))))
theorem tm{t:Tx}{a:Kp}{f aa:Int}{F W O:Sl}:∀y∈ajm,(hQ t a f aa F W O).length<=y.2.m:=λy hy=>by
 simp only[ajm,mem_cons,List.not_mem_nil,or_false]at hy;rcases hy with rfl|rfl|rfl<;>exact le_refl _
section
variable{Z:aZ}{X:Ctx}{t:Tx}{a a0:Kp}{f f0 aa:Int}{F F0 W W0 O O0:Sl}{n ad:Int}{d:Bool}{key val:ByteArray}{k:Nat}{l:Bool}{es:List En}{bs:List Br}{i e:Int}{r out:List Br}
abbrev KB(t:Tx)(a0:Kp)(f0 aa:Int)(F0 W0 O0:Sl)(n ad:Int)(d:Bool)(key val:ByteArray)(k:Nat):List au->AV->Prop:=nC (sQB (k+1)) ((t,a0,f0,aa,F0,W0,O0),n,ad,d,key,val)
theorem azu(hz:cP Z X)(hX:X.H=lk (hQ t a0 f0 aa F0 W0 O0))(T:(uo k).Ok P Z)(hd:Ds.cc t a f)(hF:bn F)(hW:bn W)(hO:bn O)(h0:0<=i)(h1:i<(bs.length:Int))(hbl:bs.length<=84)(ho:out.length<=100)
 (hb:aV (out++bs.drop (i.toNat+1)))
 (ee:kL t key (bH d val) (k+1) a0 f0 F0 W0 O0 n ad=iP (kK W O n) (bC t a f F (fC W n) false [] (out++bs.drop (i.toNat+1)))):
 Safe P 71 X (KB t a0 f0 aa F0 W0 O0 n ad d key val k) (ano t a f aa F W O n l es bs i out):=by
 have e1:List.drop (i+1).toNat (List.take (bs.length:Int).toNat bs)=bs.drop (i.toNat+1):=by
  rw[take_of_length_le (by omega),show(i+1).toNat=i.toNat+1 from by omega]
 rw[<-e1]at hb ee;have ld:(List.drop (i+1).toNat (List.take (bs.length:Int).toNat bs)).length<=84:=by rw[e1,length_drop];omega
 have⟨f1,f2⟩:=zE (aa:=aa) ee;have lv:=abz hW hO n;refine Ds.cA hz hX tm T func71 (auP k t a f aa F W O n l es bs i out) ⟨⟨by omega,by omega⟩,by omega,by omega,Int.le_refl _,by omega,rfl,rfl,hW,hO,rfl,rfl,hd,hF,lv.1,⟨λh=>(nomatch h),λ_=>rfl⟩,fT,hb, ?_⟩;exact fm ⟨[],[0,1],2,[]⟩ rfl (le_refl _) (jQ.same _) f2 f1
theorem azv(hz:cP Z X)(hX:X.H=lk (hQ t a0 f0 aa F0 W0 O0))(T:(uo k).Ok P Z)(hd:Ds.cc t a f)(hF:bn F)(hW:bn W)(hO:bn O)(h0:0<=i)(h1:i<(bs.length:Int))(hbl:bs.length<=84)(hr:r.length<=2)
 (hb:aV (bs.take i.toNat++mq (bs.getD i.toNat dB).1 r++bs.drop (i.toNat+1)))
 (ee:kL t key (bH d val) (k+1) a0 f0 F0 W0 O0 n ad=iP (kK W O n) (bC t a f F (fC W n) false [] (bs.take i.toNat++mq (bs.getD i.toNat dB).1 r++bs.drop (i.toNat+1)))):
 Safe P 71 X (KB t a0 f0 aa F0 W0 O0 n ad d key val k) (xG t a f aa F W O n l es bs i r (bs.take i.toNat) 0):=by
 have lt:(bs.take i.toNat).length<=84:=by rw[length_take];omega
 have last:∀(out:List Br) (j:Int),j=(r.length:Int)->out=bs.take i.toNat++mq (bs.getD i.toNat dB).1 r->Safe P 71 X (KB t a0 f0 aa F0 W0 O0 n ad d key val k) (xG t a f aa F W O n l es bs i r out j):=λout j hj ho=>by
  refine Ds.cA hz hX tm T func71 (afH k t a f aa F W O n l es bs i r out j) ⟨λh=>absurd (of_decide_eq_true h) (by omega),λ_=> ?_⟩;refine azu hz hX T hd hF hW hO h0 h1 hbl ?_ (by rw[ho];exact hb) (by rw[ho];exact ee);rw[ho,length_append,adm];omega
 cases r with
 |nil=>exact last _ 0 rfl (by simp[mq])
 |cons b r=>
  have step:Safe P 71 X (KB t a0 f0 aa F0 W0 O0 n ad d key val k) (xG t a f aa F W O n l es bs i (b::r) (bs.take i.toNat++[((bs.getD i.toNat dB).1,b.2.1,())]) (0+1)):=by
   cases r with
   |nil=>exact last _ (0+1) (by show(0:Int)+1=1;omega) rfl
   |cons c r=>
    have hr0:r=[]:=by
     simp only[length_cons]at hr;exact List.eq_nil_of_length_eq_zero (by omega)
    subst hr0;refine Ds.cA hz hX tm T func71 (afH k t a f aa F W O n l es bs i [b,c] _ (0+1)) ⟨λ_=>⟨by omega,by show(0:Int)+1<2;omega,λh=>(nomatch h),λ_=>⟨?_,⟨by omega,by omega⟩, ?_⟩⟩,λh=>absurd (of_decide_eq_false h) (by show¬ ¬(0:Int)+1<2;omega)⟩;rw[length_append];show((bs.take i.toNat).length+1+1)*24<=140737488355328;omega;refine last _ _ (by show(0:Int)+1+1=2;omega) ?_;rw[append_assoc];rfl
  refine Ds.cA hz hX tm T func71 (afH k t a f aa F W O n l es bs i (b::r) _ 0) ⟨λ_=>⟨Int.le_refl 0,by show(0:Int)<((r.length+1:Nat):Int);omega,λ_=>⟨h0,h1,by omega,⟨by omega,by omega⟩,step⟩,λh=>(nomatch h)⟩,λh=>absurd (of_decide_eq_false h) (by show¬ ¬(0:Int)<((r.length+1:Nat):Int);omega)⟩
theorem azw(hz:cP Z X)(hX:X.H=lk (hQ t a0 f0 aa F0 W0 O0))(T:(uo k).Ok P Z)(hd:Ds.cc t a f)(hF:bn F)(hW:bn W)(hO:bn O)(h0:0<=i)(h1:i<(bs.length:Int))(hbl:bs.length<=84)(hr:r.length<=2)
 (hb:aV (bs.take i.toNat++mq (bs.getD i.toNat dB).1 r++bs.drop (i.toNat+1)))
 (ee:kL t key (bH d val) (k+1) a0 f0 F0 W0 O0 n ad=if e≠0 then(a,f,F,W,O,[],e)else iP (kK W O n) (bC t a f F (fC W n) false [] (bs.take i.toNat++mq (bs.getD i.toNat dB).1 r++bs.drop (i.toNat+1)))):
 Safe P 71 X (KB t a0 f0 aa F0 W0 O0 n ad d key val k) (ann t a f aa F W O n l es bs i e r):=by
 have lt:(bs.take i.toNat).length<=84:=by rw[length_take];omega
 refine Ds.cA hz hX tm T func71 (auO k t a f aa F W O n l es bs i e r) ⟨λh=> ?_,λh=>⟨Int.le_refl 0,h0,by omega, ?_, ?_⟩⟩;have h:=bne_iff_ne.1 h;rw[if_pos h]at ee;have⟨f1,f2⟩:=zE (aa:=aa) ee;have e2:qL e []=[]:=if_neg h;refine fm ⟨[(0,.ah cB [],Lf.sR)],[0,1],2,[]⟩ rfl (le_refl _) (jQ.same _) f2 ?_;rw[f1,e2];rfl;show(0+(bs.take i.toNat).length)*24<=140737488355328;omega;have h:=bne_eq_false_iff_eq.1 h;rw[if_neg (by rw[h];simp)]at ee;exact azv hz hX T hd hF hW hO h0 h1 hbl hr hb ee
theorem ans{d:Bool}{val v:ByteArray}(h:bH d val=some v)(hv:d=false->val.size<=100):v.size<=100:=by
 cases d with
 |true=>cases h
 |false=>cases h;exact hv rfl
theorem arY{Z:aZ}:∀k,fD P Z 71 (sQB k)
 |0=>by
  rintro⟨⟨(t:Tx),(a:Kp),(f:Int),(aa:Int),(F:Sl),(W:Sl),(O:Sl)⟩,(n:Int),(ad:Int),(d:Bool),(key:ByteArray),(val:ByteArray)⟩ ⟨_,_,_,_,(h1:1<=ad/\ad<=17),(h2:18<=ad+((0:Nat):Int)),_⟩;omega
 |k+1=>by
  have T:=anr (arY (Z:=Z) k);refine dj func71 (by kernel_rfl) (λx=>le_of_ble_eq_true (by kernel_rfl)) ?_;rintro⟨⟨t,a,f,aa,F,W,O⟩,n,ad,d,key,val⟩ ⟨(hd:Ds.cc t a f),(hF:bn F),(hW:bn W),(hO:bn O),(h1:1<=ad/\ad<=17),(h2:18<=ad+((k+1:Nat):Int)),(hk:1<=key.size/\key.size<=24),(hv:d=false->val.size<=100),_⟩ X hX hz;have lv:=abz hW hO n;refine Ds.cA hz hX tm T func71 (azt k t a f aa F W O n ad d key val) ⟨rfl,rfl,hd,λh=> ?_,λh=> ?_⟩;have h:=bne_iff_ne.1 h;have⟨f1,f2⟩:=zE (t:=t) (a:=a) (f:=f) (aa:=aa) (F:=F) (W:=W) (O:=O) (n:=n) (ad:=ad) (d:=d) (key:=key) (val:=val) (k:=k+1) (c:=(a,f,F,W,O,[],fv t a n ad)) (by rw[oN,if_pos h]);have e2:qL (fv t a n ad) []=[]:=if_neg h;refine fm ⟨[(0,.ah cB [],Lf.sR)],[0,1],2,[]⟩ rfl (le_refl _) (jQ.same _) f2 ?_;rw[f1,e2];rfl;have h:=bne_eq_false_iff_eq.1 h;have⟨hm,n1,n2,n3,n4,n5⟩:=mA hd h;have⟨m1,m2,_,_⟩:=dD hm;have⟨s1,s2⟩:=m9 hm;refine⟨λhl=>⟨by omega,λh3=> ?_,λh3=> ?_⟩,λhl=>⟨λh3=> ?_,λh3=> ?_⟩⟩;have h3:=bne_iff_ne.1 h3;have⟨f1,f2⟩:=zE (t:=t) (a:=a) (f:=f) (aa:=aa) (F:=F) (W:=W) (O:=O) (n:=n) (ad:=ad) (d:=d) (key:=key) (val:=val) (k:=k+1) (c:=(a,f,F,W,O,[],s7 key (bH d val) (bR t a n ad))) (by rw[oN,if_neg (by rw[h];simp),if_pos hl,if_pos h3]);have e2:qL (s7 key (bH d val) (bR t a n ad)) []=[]:=if_neg h3;refine fm ⟨[(0,.ah cB [],Lf.sR)],[0,1],2,[]⟩ rfl (le_refl _) (jQ.same _) f2 ?_;rw[f1,e2];rfl;have h3:=bne_eq_false_iff_eq.1 h3;have sm:=j7 (key:=key) (op:=bH d val) hk.2 (λv e=>ans e hv) n1 n3;have⟨f1,f2⟩:=zE (t:=t) (a:=a) (f:=f) (aa:=aa) (F:=F) (W:=W) (O:=O) (n:=n) (ad:=ad) (d:=d) (key:=key) (val:=val) (k:=k+1) (c:=iP (kK W O n) (bC t a f F (fC W n) true (m8 key (bH d val) (bR t a n ad)) [])) (by rw[oN,if_neg (by rw[h];simp),if_pos hl,if_neg (by rw[h3];simp),m1 hl]);exact⟨rfl,rfl,hW,hO,rfl,rfl,hd,hF,lv.1,⟨λ_=>rfl,λe=>(nomatch e)⟩,sm,qp,fm ⟨[],[0,1],2,[]⟩ rfl (le_refl _) (jQ.same _) f2 f1⟩
  have h3:aW t a n ad=[]:=List.eq_nil_of_length_eq_zero (by have:((aW t a n ad).length:Int)=0:=eq_of_beq h3
                                                            omega)
  have⟨f1,f2⟩:=zE (t:=t) (a:=a) (f:=f) (aa:=aa) (F:=F) (W:=W) (O:=O) (n:=n) (ad:=ad) (d:=d) (key:=key) (val:=val) (k:=k+1) (c:=(a,f,F,W,O,[],4)) (by rw[oN,if_neg (by rw[h];simp),if_neg (by rw[hl];simp),if_pos h3]);exact fm ⟨[(0,.ah cB [],Lf.sR)],[0,1],2,[]⟩ rfl (le_refl _) (jQ.same _) f2 f1;have h3:aW t a n ad≠[]:=λe=>by rw[e]at h3;cases h3
  have⟨p0,p1⟩:=mu (key:=key) s2 h3;have oH:=zD (key:=key) (op:=bH d val) hk.2 hd hF hW hO k ((aW t a n ad).getD (aI (aW t a n ad) key).toNat dB).2.1 (ad+1);have hb:=qv (bs:=aW t a n ad) (k:=(aI (aW t a n ad) key).toNat) (xo hm).2 n2 oH.2.2.2.2.1 oH.2.2.2.2.2 (nc (xo hm).2 (aI (aW t a n ad) key).toNat);refine⟨s2,p0,p1,⟨by omega,by omega⟩,rfl,rfl,hd,hF,hW,hO,⟨by omega,by omega⟩,by omega,hk,hv,azw hz hX T oH.1 oH.2.1 oH.2.2.1 oH.2.2.2.1 p0 p1 n2 oH.2.2.2.2.1 hb ?_⟩;rw[oN,if_neg (by rw[h];simp),if_neg (by rw[hl];simp),if_neg h3,m2 hl];rfl
end
end Ts
open Ds (cK kN kT kM)
namespace Ts
open Go Go.Sx Go.Proofs Lf
abbrev azx:=gH [Bx.tR,Bx.tR] [Bx.tR] (λ((l,()),(m,()),())=>[List.length (α:=Int) l+List.length (α:=Int) m<4294967296]) (λ((l,()),(m,()),())=>((Bx.rOr l m,()),()))
def xI:aF:=[(69,axG),(70,anm),(71,cu (sQB 17) mQB),(47,abA),(72,anl),(73,azx)]
def ad5:List (Nat×Norm):=[(10,⟨[(6,.ah cB [],Lf.sR)],[0,5,6,7],2,[]⟩),(11,⟨[],[0,5,6,7,10],2,[]⟩),(14,⟨[],[0,5,6,7],2,[]⟩),(18,⟨[],[0,5,7,11],2,[]⟩),(25,⟨[],[0,5,7],2,[]⟩)]
def ad6(t:Tx)(aA:Int)(F0 W0 O0:Sl)(a:Kp)(f aa:Int)(F W O:Sl)(l:List Br)(e:Int):bQ:=⟨sl 147 [(0,.ptr 0 0),(5,.ptr 2 0),(6,.vec 3),(7,az e)],hQ t a f aa F W O++[obQ 1 aA F0 W0 O0,.vec (.ah cB l) Lf.sR],hr f41 10,{}⟩
def zF(t:Tx)(aA:Int)(F0 W0 O0:Sl)(a:Kp)(f aa:Int)(F W O:Sl)(l:List Br)(e i:Int):bQ:=⟨sl 147 [(0,.ptr 0 0),(5,.ptr 2 0),(6,.vec 3),(7,az e),(10,az i)],hQ t a f aa F W O++[obQ 1 aA F0 W0 O0,.vec (.ah cB l) Lf.sR],hd f41 11,{}⟩
def zG(t:Tx)(aA:Int)(F0 W0 O0:Sl)(a:Kp)(f aa:Int)(F W O:Sl)(l:List Br)(e:Int):bQ:=⟨sl 147 [(0,.ptr 0 0),(5,.ptr 2 0),(6,.vec 3),(7,az e)],hQ t a f aa F W O++[obQ 1 aA F0 W0 O0,.vec (.ah cB l) Lf.sR],hr f41 14,{}⟩
def ahz(t:Tx)(aA:Int)(F0 W0 O0:Sl)(a:Kp)(f aa:Int)(F W O:Sl)(e ad:Int):bQ:=⟨sl 147 [(0,.ptr 0 0),(5,.ptr 2 0),(7,az e),(11,az ad)],hQ t a f aa F W O++[obQ 1 aA F0 W0 O0],hd f41 18,{}⟩
def uq(t:Tx)(aA:Int)(F0 W0 O0:Sl)(a:Kp)(f aa:Int)(F W O:Sl)(e:Int):bQ:=⟨sl 147 [(0,.ptr 0 0),(5,.ptr 2 0),(7,az e)],hQ t a f aa F W O++[obQ 1 aA F0 W0 O0],hr f41 25,{}⟩
theorem azy(t:Tx)(a:Kp)(f aa:Int)(F W O:Sl)(d:Bool)(key val:ByteArray):run P xI.sum f41 ad5 (start f41 [.ptr 0 0,ank d key val] (hQ t a f aa F W O))=
 Tree.ite (aa==0) (.ab ((0:Nat)<=100000) (.ite (s7 key (bH d val) []==0) (.ab (bD (some [AV.ptr 0 0,.agg [.s (.bool true),.s (.ro (.ah cE (m8 key (bH d val) []))),.s (.ro (.ah cB []))]])) (.ab (bD (some [au.ak [.ptr 1 0,az aa,.s (.ro (.af .i64 F)),.s (.ro (.af .i64 W)),.s (.ro (.af .i64 O))] 86,.ak [.s (.ro (.strs t)),.s (.ro (.ah cK a)),az f] 78])) (.ab (Ds.cc t a f) (.ab (bn F) (.ab (bn W) (.ab (mr true (m8 key (bH d val) []) []) (.ab (aY (m8 key (bH d val) [])) (.ab (aV []) (.at (ad6 t aa F W O (bC t a f F W true (m8 key (bH d val) []) []).fst (bC t a f F W true (m8 key (bH d val) []) []).snd.fst aa (bC t a f F W true (m8 key (bH d val) []) []).snd.snd.fst (bC t a f F W true (m8 key (bH d val) []) []).snd.snd.snd.fst O (qL (bC t a f F W true (m8 key (bH d val) []) []).snd.snd.snd.snd.snd (bC t a f F W true (m8 key (bH d val) []) []).snd.snd.snd.snd.fst) (bC t a f F W true (m8 key (bH d val) []) []).snd.snd.snd.snd.snd)))))))))) (.at (ad6 t aa F W O a f aa F W O [] (s7 key (bH d val) []))))) (.ab (bD (some [AV.ptr 0 0,az aa,az 1,.agg [.s (.bool d),.s (.str key),.s (.str val)]])) (.ab (bD (some [au.ak [.ptr 1 0,az aa,.s (.ro (.af .i64 F)),.s (.ro (.af .i64 W)),.s (.ro (.af .i64 O))] 86,.ak [.s (.ro (.strs t)),.s (.ro (.ah cK a)),az f] 78])) (.ab (Ds.cc t a f) (.ab (bn F) (.ab (bn W) (.ab (bn O) (.ab ((1:Int)<=1/\(1:Int)<=17) (.ab ((18:Int)<=1+(↑(17:Nat):Int)) (.ab ((1:Nat)<=key.size/\key.size<=24) (.ab (d=false->val.size<=100) (.at (ad6 t aa F W O (qc0 t key (bH d val) 17 a f F W O aa 1) (qc1 t key (bH d val) 17 a f F W O aa 1) aa (qc2 t key (bH d val) 17 a f F W O aa 1) (qc3 t key (bH d val) 17 a f F W O aa 1) (qc4 t key (bH d val) 17 a f F W O aa 1) (qcL t key (bH d val) 17 a f F W O aa 1) (qcE t key (bH d val) 17 a f F W O aa 1))))))))))))):=by kernel_rfl
theorem auR(t:Tx)(aA:Int)(F0 W0 O0:Sl)(a:Kp)(f aa:Int)(F W O:Sl)(l:List Br)(e:Int):run P xI.sum f41 ad5 (ad6 t aA F0 W0 O0 a f aa F W O l e)=
 Tree.at (zF t aA F0 W0 O0 a f aa F W O l e 0):=by kernel_rfl
theorem ant(t:Tx)(aA:Int)(F0 W0 O0:Sl)(a:Kp)(f aa:Int)(F W O:Sl)(l:List Br)(e i:Int):run P xI.sum f41 ad5 (zF t aA F0 W0 O0 a f aa F W O l e i)=
 Tree.ite (e==0) (.ite (decide ((↑l.length:Int)>1)) (.ite (decide (i<20)) (.ab (bD (some [AV.ptr 0 0,.agg [.s (.bool false),.s (.ro (.ah cE [])),.s (.ro (.ah cB l))]])) (.ab (bD (some [au.ak [.ptr 1 0,az aa,.s (.ro (.af .i64 F)),.s (.ro (.af .i64 W)),.s (.ro (.af .i64 O))] 86,.ak [.s (.ro (.strs t)),.s (.ro (.ah cK a)),az f] 78])) (.ab (Ds.cc t a f) (.ab (bn F) (.ab (bn W) (.ab (mr false [] l) (.ab (aY []) (.ab (aV l) (.ab (aw (i+1)) (.at (zF t aA F0 W0 O0 (bC t a f F W false [] l).fst (bC t a f F W false [] l).snd.fst aa (bC t a f F W false [] l).snd.snd.fst (bC t a f F W false [] l).snd.snd.snd.fst O (qL (bC t a f F W false [] l).snd.snd.snd.snd.snd (bC t a f F W false [] l).snd.snd.snd.snd.fst) (bC t a f F W false [] l).snd.snd.snd.snd.snd (i+1)))))))))))) (.at (zG t aA F0 W0 O0 a f aa F W O l e))) (.at (zG t aA F0 W0 O0 a f aa F W O l e))) (.at (zG t aA F0 W0 O0 a f aa F W O l e)):=by kernel_rfl
theorem auS(t:Tx)(aA:Int)(F0 W0 O0:Sl)(a:Kp)(f aa:Int)(F W O:Sl)(l:List Br)(e:Int):run P xI.sum f41 ad5 (zG t aA F0 W0 O0 a f aa F W O l e)=
 Tree.ite (e==0) (.ite ((↑l.length:Int)==1) (.ab ((0:Int)<=0) (.ab ((0:Int)<(↑l.length:Int)) (.at (ahz t aA F0 W0 O0 a f (l.getD 0 (CL.d cB)).snd.fst F W O e 1)))) (.at (uq t aA F0 W0 O0 a f 0 F W O e))) (.at (uq t aA F0 W0 O0 a f 0 F W O e)):=by kernel_rfl
theorem auT(t:Tx)(aA:Int)(F0 W0 O0:Sl)(a:Kp)(f aa:Int)(F W O:Sl)(e ad:Int):run P xI.sum f41 ad5 (ahz t aA F0 W0 O0 a f aa F W O e ad)=
 Tree.ite (decide (ad<=17)) (.ab (bD (some [AV.ptr 0 0,az aa,az ad])) (.ab (bD (some [au.ak [.ptr 1 0,az aa,.s (.ro (.af .i64 F)),.s (.ro (.af .i64 W)),.s (.ro (.af .i64 O))] 86,.ak [.s (.ro (.strs t)),.s (.ro (.ah cK a)),az f] 78])) (.ab (Ds.cc t a f) (.ite (fv t a aa ad !=0) (.at (uq t aA F0 W0 O0 a f aa F W O (fv t a aa ad))) (.ite (ic t a aa ad) (.at (uq t aA F0 W0 O0 a f aa F W O (fv t a aa ad))) (.ite ((↑(aW t a aa ad).length:Int) !=1) (.at (uq t aA F0 W0 O0 a f aa F W O (fv t a aa ad))) (.ab (bD (some [AV.ptr 0 0,az aa])) (.ab (bD (some [au.ak [.ptr 1 0,az aa,.s (.ro (.af .i64 F)),.s (.ro (.af .i64 W)),.s (.ro (.af .i64 O))] 86,.ak [.s (.ro (.strs t)),.s (.ro (.ah cK a)),az f] 78])) (.ab (bn W) (.ab (bn O) (.ab ((0:Int)<=0) (.ab ((0:Int)<(↑(aW t a aa ad).length:Int)) (.ab (aw (ad+1)) (.at (ahz t aA F0 W0 O0 a f ((aW t a aa ad).getD 0 (CL.d cB)).snd.fst F (fC W aa) (kK W O aa) (fv t a aa ad) (ad+1)))))))))))))))) (.at (uq t aA F0 W0 O0 a f aa F W O e)):=by kernel_rfl
theorem auU(t:Tx)(aA:Int)(F0 W0 O0:Sl)(a:Kp)(f aa:Int)(F W O:Sl)(e:Int):run P xI.sum f41 ad5 (uq t aA F0 W0 O0 a f aa F W O e)=
 Tree.ite (e !=0) (.ret [.ak [.ptr 1 0,.s (.int .i64 aA),.s (.ro (.af .i64 F0)),.s (.ro (.af .i64 W0)),.s (.ro (.af .i64 O0))] 86,.ak [.s (.ro (.strs t)),.s (.ro (.ah cK a)),.s (.int .i64 f)] 78,.ak [.ptr 1 0,.s (.int .i64 aA),.s (.ro (.af .i64 F0)),.s (.ro (.af .i64 W0)),.s (.ro (.af .i64 O0))] 86] (.s (.int .i64 e))) (.ab (List.length F+List.length O<4294967296) (.ret [.ak [.ptr 1 0,.s (.int .i64 aa),.s (.ro (.af .i64 (Bx.rOr F O))),.s (.ro (.af .i64 W)),.emp] 86,.ak [.s (.ro (.strs t)),.s (.ro (.ah cK a)),.s (.int .i64 f)] 78,.ak [.ptr 1 0,.s (.int .i64 aA),.s (.ro (.af .i64 F0)),.s (.ro (.af .i64 W0)),.s (.ro (.af .i64 O0))] 86] (.s (.aO .i64 0)))):=by kernel_rfl
end Ts
open Ds (cK kN kT kM)
namespace Ts
open Go Go.Sx Go.Proofs Lf
def qh0(t:Tx)(key:ByteArray)(op:Option ByteArray)(a:Kp)(f aa:Int)(F W O:Sl):Kp:=(ie t key op a f aa F W O).1
def qh1(t:Tx)(key:ByteArray)(op:Option ByteArray)(a:Kp)(f aa:Int)(F W O:Sl):Int:=(ie t key op a f aa F W O).2.1
def qhR(t:Tx)(key:ByteArray)(op:Option ByteArray)(a:Kp)(f aa:Int)(F W O:Sl):Int:=(ie t key op a f aa F W O).2.2.1
def qh2(t:Tx)(key:ByteArray)(op:Option ByteArray)(a:Kp)(f aa:Int)(F W O:Sl):Sl:=(ie t key op a f aa F W O).2.2.2.1
def qh3(t:Tx)(key:ByteArray)(op:Option ByteArray)(a:Kp)(f aa:Int)(F W O:Sl):Sl:=(ie t key op a f aa F W O).2.2.2.2.1
def qh4(t:Tx)(key:ByteArray)(op:Option ByteArray)(a:Kp)(f aa:Int)(F W O:Sl):Sl:=(ie t key op a f aa F W O).2.2.2.2.2.1
def qhE(t:Tx)(key:ByteArray)(op:Option ByteArray)(a:Kp)(f aa:Int)(F W O:Sl):Int:=(ie t key op a f aa F W O).2.2.2.2.2.2
abbrev XQC:Type:=XQ×Bool×ByteArray×ByteArray
abbrev sQD:Spec XQC:=⟨λ(_,d,key,val)=>[.ptr 0 0,ank d key val],λ((t,a,f,aa,F,W,O),_)=>hQ t a f aa F W O,
 λ((t,a,f,_,F,W,O),d,key,val)=>[Ds.cc t a f,bn F,bn W,bn O,1<=key.size/\key.size<=24,d=false->val.size<=100],
 λ((t,a,f,aa,F,W,O),d,key,val)=>hQ t (qh0 t key (bH d val) a f aa F W O) (qh1 t key (bH d val) a f aa F W O) (qhR t key (bH d val) a f aa F W O) (qh2 t key (bH d val) a f aa F W O) (qh3 t key (bH d val) a f aa F W O) (qh4 t key (bH d val) a f aa F W O),
 λ((t,a,f,aa,F,W,O),d,key,val)=>az (qhE t key (bH d val) a f aa F W O)⟩
theorem kE{Z:aZ}:xI.Ok P Z:=aF.Ok.cons anq.gH (aF.Ok.cons (fy (dC (anj.sum mQN) 1 _) 1) (aF.Ok.cons ((arY 17).sum mQB) (aF.Ok.cons (abx.sum ana) (aF.Ok.cons (ani.sum mQI) (aF.Ok.cons Bx.auF.gH aF.Ok.nil)))))
theorem qA{t:Tx}{a:Kp}{f aa:Int}{F W O:Sl}:∀y∈ad5,(hQ t a f aa F W O).length<=y.2.m:=λy hy=>by
 simp only[ad5,mem_cons,List.not_mem_nil,or_false]at hy;rcases hy with rfl|rfl|rfl|rfl|rfl<;>exact le_refl _
theorem arZ{t:Tx}{a:Kp}{f aa:Int}{F W O:Sl}{d:Bool}{key val:ByteArray}{c:adX}(e:ie t key (bH d val) a f aa F W O=c):
 sQD.eG ((t,a,f,aa,F,W,O),d,key,val)=hQ t c.1 c.2.1 c.2.2.1 c.2.2.2.1 c.2.2.2.2.1 c.2.2.2.2.2.1/\sQD.out ((t,a,f,aa,F,W,O),d,key,val)=az c.2.2.2.2.2.2:=by
 subst e;exact⟨rfl,rfl⟩
theorem ar0{t:Tx}{aA:Int}{F0 W0 O0:Sl}{a:Kp}{f:Int}{F W O:Sl}{l:List Br}{e:Int}:mz t aA F0 W0 O0 (abt t (a,f,F,W,O,qL e l,e))=mz t aA F0 W0 O0 (abt t (a,f,F,W,O,l,e)):=by
 by_cases h:e=0;rw[show qL e l=l from if_pos h];have h1:∀L:List Br,abt t (a,f,F,W,O,L,e)=(a,f,F,W,O,L,e):=λL=>if_neg (λx=>h x.1);have h2:∀L:List Br,mz t aA F0 W0 O0 (a,f,F,W,O,L,e)=pR aA F0 W0 O0 a f 0 F W O e:=λL=>if_neg (λx=>h x.1);rw[h1,h1,h2,h2]
theorem azz{t:Tx}{aA:Int}{F0 W0 O0:Sl}{a:Kp}{f:Int}{F W O:Sl}{l:List Br}{e:Int}:mz t aA F0 W0 O0 (a,f,F,W,O,qL e l,e)=mz t aA F0 W0 O0 (a,f,F,W,O,l,e):=by
 by_cases h:e=0;rw[show qL e l=l from if_pos h];have h2:∀L:List Br,mz t aA F0 W0 O0 (a,f,F,W,O,L,e)=pR aA F0 W0 O0 a f 0 F W O e:=λL=>if_neg (λx=>h x.1);rw[h2,h2]
section
variable{Z:aZ}{X:Ctx}{t:Tx}{a a0:Kp}{f f0 aa aA:Int}{F F0 W W0 O O0:Sl}{d:Bool}{key val:ByteArray}{l:List Br}{e ad:Int}
abbrev KD(t:Tx)(a0:Kp)(f0 aA:Int)(F0 W0 O0:Sl)(d:Bool)(key val:ByteArray):List au->AV->Prop:=fq sQD ((t,a0,f0,aA,F0,W0,O0),d,key,val)
theorem anu(hz:cP Z X)(hX:X.H=lk (hQ t a0 f0 aA F0 W0 O0))(hF:bn F)(hO:bn O)(ee:ie t key (bH d val) a0 f0 aA F0 W0 O0=pR aA F0 W0 O0 a f aa F W O e):
 Safe P 41 X (KD t a0 f0 aA F0 W0 O0 d key val) (uq t aA F0 W0 O0 a f aa F W O e):=by
 have lF:=gy hF;have lO:=gy hO;refine Ds.cA hz hX qA kE func41 (auU t aA F0 W0 O0 a f aa F W O e) ⟨λh=> ?_,λh=>⟨by omega, ?_⟩⟩;have h:=bne_iff_ne.1 h;unfold pR at ee;rw[if_pos h]at ee;have⟨f1,f2⟩:=arZ ee;exact bK 2 rfl (le_refl _) f2 f1;have h:=bne_eq_false_iff_eq.1 h;unfold pR at ee;rw[if_neg (by rw[h];simp)]at ee;have⟨f1,f2⟩:=arZ ee;exact yc 2 [(0,4,true,.af .i64 [],3)] rfl (le_refl _) f2 f1
theorem axI(hz:cP Z X)(hX:X.H=lk (hQ t a0 f0 aA F0 W0 O0))(hd:Ds.cc t a f)(hF:bn F):∀(k:Nat) {aa ad:Int} {W O:Sl},bn W->bn O->1<=ad/\ad<=17->ad+(k:Int)=18->
 ie t key (bH d val) a0 f0 aA F0 W0 O0=pR aA F0 W0 O0 a f (kC t a k W O aa ad).2.2.1 F (kC t a k W O aa ad).1 (kC t a k W O aa ad).2.1 (kC t a k W O aa ad).2.2.2->
 Safe P 41 X (KD t a0 f0 aA F0 W0 O0 d key val) (ahz t aA F0 W0 O0 a f aa F W O 0 ad)
 |0,aa,ad,W,O,hW,hO,h1,h2,ee=>by omega
 |k+1,aa,ad,W,O,hW,hO,h1,h2,ee=>by
  unfold kC at ee;refine Ds.cA hz hX qA kE func41 (auT t aA F0 W0 O0 a f aa F W O 0 ad) ⟨λ_=>⟨rfl,rfl,hd,λh=> ?_,λh=>⟨λhl=> ?_,λhl=>⟨λhn=> ?_,λhn=>⟨rfl,rfl,hW,hO,Int.le_refl 0, ?_,⟨by omega,by omega⟩, ?_⟩⟩⟩⟩,λh=>absurd h1.2 (of_decide_eq_false h)⟩;have h:=bne_iff_ne.1 h;rw[if_pos h]at ee;exact anu hz hX hF hO ee;have h:=bne_eq_false_iff_eq.1 h;rw[if_neg (by rw[h];simp),if_pos (.inl hl)]at ee;rw[h];exact anu hz hX hF hO ee;have h:=bne_eq_false_iff_eq.1 h;have hn:=bne_iff_ne.1 hn;rw[if_neg (by rw[h];simp),if_pos (.inr (by omega))]at ee;rw[h];exact anu hz hX hF hO ee;have hn:=bne_eq_false_iff_eq.1 hn;omega;have h:=bne_eq_false_iff_eq.1 h;have hn:=bne_eq_false_iff_eq.1 hn;have n16:ad<=16:=(mA hd h).2.2.2.2.2;rw[if_neg (by rw[h];simp),if_neg (by rw[hl];simp;omega)]at ee;have lv:=abz hW hO aa;rw[h];exact axI hz hX hd hF k lv.1 lv.2 ⟨by omega,by omega⟩ (by omega) ee
theorem auV(hz:cP Z X)(hX:X.H=lk (hQ t a0 f0 aA F0 W0 O0))(hd:Ds.cc t a f)(hF:bn F)(hW:bn W)(hO:bn O)(ee:ie t key (bH d val) a0 f0 aA F0 W0 O0=mz t aA F0 W0 O0 (a,f,F,W,O,l,e)):
 Safe P 41 X (KD t a0 f0 aA F0 W0 O0 d key val) (zG t aA F0 W0 O0 a f aa F W O l e):=by
 unfold mz at ee;refine Ds.cA hz hX qA kE func41 (auS t aA F0 W0 O0 a f aa F W O l e) ⟨λh=>⟨λh2=>⟨Int.le_refl 0, ?_, ?_⟩,λh2=> ?_⟩,λh=> ?_⟩;have h2:(l.length:Int)=1:=eq_of_beq h2;omega;have h:e=0:=eq_of_beq h;have h2:(l.length:Int)=1:=eq_of_beq h2;rw[if_pos ⟨h,by simp only[];omega⟩]at ee;rw[h];exact axI hz hX hd hF 17 hW hO ⟨Int.le_refl 1,by omega⟩ (by omega) ee;have h2:¬(l.length:Int)=1:=λx=>by rw[x]at h2;cases h2
 rw[if_neg (λx=>h2 (by have:=x.2;simp only[]at this;omega))]at ee;exact anu hz hX hF hO ee;have h:¬e=0:=λx=>by rw[x]at h;cases h
 rw[if_neg (λx=>h x.1)]at ee;exact anu hz hX hF hO ee
theorem aqz{F W:Sl}(h0:1<l.length)(h2:l.length<=2)(h:iN l):(bC t a f F W false [] l).2.2.2.2.1.length=1:=by
 unfold bC;rw[if_neg (by simp only[length_nil];omega),if_pos (awT h2 h)];rfl
theorem auW{e:Int}{l:List Br}:(qL e l).length<=l.length:=by
 unfold qL;split;exact le_refl _;exact zero_le _
theorem aqA(hz:cP Z X)(hX:X.H=lk (hQ t a0 f0 aA F0 W0 O0)){i:Int}(hd:Ds.cc t a f)(hF:bn F)(hW:bn W)(hO:bn O)(qc:¬(e=0/\1<l.length))(ee:ie t key (bH d val) a0 f0 aA F0 W0 O0=mz t aA F0 W0 O0 (a,f,F,W,O,l,e)):
 Safe P 41 X (KD t a0 f0 aA F0 W0 O0 d key val) (zF t aA F0 W0 O0 a f aa F W O l e i):=by
 refine Ds.cA hz hX qA kE func41 (ant t aA F0 W0 O0 a f aa F W O l e i) ⟨λh=>⟨λh2=> ?_,λh2=>auV hz hX hd hF hW hO ee⟩,λh=>auV hz hX hd hF hW hO ee⟩;have h:e=0:=eq_of_beq h;have h2:=of_decide_eq_true h2;exact absurd ⟨h,by omega⟩ qc
theorem auX(hz:cP Z X)(hX:X.H=lk (hQ t a0 f0 aA F0 W0 O0))(hd:Ds.cc t a f)(hF:bn F)(hW:bn W)(hO:bn O)(h2:l.length<=2)(hk:iN l)(ee:ie t key (bH d val) a0 f0 aA F0 W0 O0=mz t aA F0 W0 O0 (abt t (a,f,F,W,O,l,e))):
 Safe P 41 X (KD t a0 f0 aA F0 W0 O0 d key val) (zF t aA F0 W0 O0 a f aa F W O l e 0):=by
 have no:¬(e=0/\1<l.length)->Safe P 41 X (KD t a0 f0 aA F0 W0 O0 d key val) (zG t aA F0 W0 O0 a f aa F W O l e):=λqc=>by
  rw[show abt t (a,f,F,W,O,l,e)=(a,f,F,W,O,l,e)from if_neg qc]at ee;exact auV hz hX hd hF hW hO ee
 refine Ds.cA hz hX qA kE func41 (ant t aA F0 W0 O0 a f aa F W O l e 0) ⟨λh=>⟨λh3=>⟨λ_=>⟨rfl,rfl,hd,hF,hW,⟨λx=>(nomatch x),λ_=>rfl⟩,fT,ta h2 hk,⟨by omega,by omega⟩, ?_⟩,λh4=>(nomatch h4)⟩,λh3=>no ?_⟩,λh=>no ?_⟩;have h:e=0:=eq_of_beq h;have h3:=of_decide_eq_true h3;rw[show abt t (a,f,F,W,O,l,e)=iP O (bC t a f F W false [] l)from if_pos ⟨h,by show 1<l.length;omega⟩]at ee;have r:=ad2 (l:=false) (es:=[]) (bs:=l) hd hF hW;have hl:=aqz (t:=t) (a:=a) (f:=f) (F:=F) (W:=W) (l:=l) (by omega) h2 hk;refine aqA hz hX r.1 r.2.1 r.2.2 hO (λx=> ?_) ?_;have:=auW (e:=(bC t a f F W false [] l).2.2.2.2.2) (l:=(bC t a f F W false [] l).2.2.2.2.1);omega;rw[ee,azz];rfl;have h3:=of_decide_eq_false h3;exact λx=>h3 (by have:=x.2;omega);exact λx=>by rw[x.1]at h;cases h
end
theorem ajn{t:Tx}{a:Kp}{f:Int}{F W:Sl}{key:ByteArray}{op:Option ByteArray}(hk:key.size<=24)(hd:Ds.cc t a f)(hF:bn F)(hW:bn W):
 (qL (bC t a f F W true (m8 key op []) []).2.2.2.2.2 (bC t a f F W true (m8 key op []) []).2.2.2.2.1).length<=2/\iN (qL (bC t a f F W true (m8 key op []) []).2.2.2.2.2 (bC t a f F W true (m8 key op []) []).2.2.2.2.1):=by
 have⟨th,m,fr,fs,h,e1,e2,e3,e4⟩:=aby hd hF hW;rw[e1,e2,e3,e4,xE h];have g:=jo (th:=th) (m:=m) (fu:=f) (fr:=fr) (fs:=fs) (l:=true) (es:=m8 key op []) (bs:=[]) h.d h.fr (afD hk noE) noB;unfold qL;split;exact⟨g.two,g.key⟩;exact⟨zero_le _,λb hb=>by cases hb⟩
theorem axJ{Z:aZ}:fD P Z 41 sQD:=by
 refine fS func41 ?_;rintro⟨⟨t,a,f,aa,F,W,O⟩,d,key,val⟩ ⟨(hd:Ds.cc t a f),(hF:bn F),(hW:bn W),(hO:bn O),(hk:1<=key.size/\key.size<=24),(hv:d=false->val.size<=100),_⟩ X hX hz
 have auY:∀{a':Kp} {f':Int} {F' W' O':Sl} {l:List Br} {e:Int},Safe P 41 X (KD t a f aa F W O d key val) (zF t aa F W O a' f' aa F' W' O' l e 0)->Safe P 41 X (KD t a f aa F W O d key val) (ad6 t aa F W O a' f' aa F' W' O' l e):=λ{a' f' F' W' O' l e} h=>
  Ds.cA hz hX qA kE func41 (auR t aa F W O a' f' aa F' W' O' l e) h
 refine Ds.cA hz hX qA kE func41 (azy t a f aa F W O d key val) ⟨λh=>⟨by omega,λh2=> ?_,λh2=> ?_⟩,λh=> ?_⟩;have h:aa=0:=eq_of_beq h;have h2:s7 key (bH d val) []=0:=eq_of_beq h2;have sm:=j7 (key:=key) (op:=bH d val) (es:=[]) hk.2 (λv e=>ans e hv) (zero_le _) fT;have r:=ad2 (l:=true) (es:=m8 key (bH d val) []) (bs:=[]) hd hF hW;have g:=ajn (op:=bH d val) hk.2 hd hF hW;refine⟨rfl,rfl,hd,hF,hW,⟨λ_=>rfl,λx=>(nomatch x)⟩,sm,qp,auY (auX hz hX r.1 r.2.1 r.2.2 hO g.1 g.2 ?_)⟩;rw[ar0];unfold ie zB;rw[if_neg (by rw[h];simp),if_neg (by rw[h2];simp)];rfl;have h:aa=0:=eq_of_beq h;have h2:¬s7 key (bH d val) []=0:=λx=>by rw[x]at h2;cases h2
 refine auY (auX hz hX hd hF hW hO (zero_le _) (λb hb=>by cases hb) ?_);unfold ie zB;rw[if_neg (by rw[h];simp),if_pos h2];have h:¬aa=0:=λx=>by rw[x]at h;cases h
 have g:=zD (key:=key) (op:=bH d val) hk.2 hd hF hW hO 17 aa 1;refine⟨rfl,rfl,hd,hF,hW,hO,⟨Int.le_refl 1,by omega⟩,by omega,hk,hv,auY (auX hz hX g.1 g.2.1 g.2.2.1 g.2.2.2.1 g.2.2.2.2.1 g.2.2.2.2.2 ?_)⟩;unfold qcL;rw[show qcE t key (bH d val) 17 a f F W O aa 1=(kL t key (bH d val) 17 a f F W O aa 1).2.2.2.2.2.2 from rfl,ar0];unfold ie zB;rw[if_pos h];rfl
end Ts
