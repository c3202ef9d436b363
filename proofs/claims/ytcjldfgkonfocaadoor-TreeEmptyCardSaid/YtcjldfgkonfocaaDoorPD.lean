/- Lemmas: L5, L6, L7, Lm, R4, R6, R7, R8, SxRoom, R9, R10, Bx1, Bx2, Bx3, Bx4, Bx5, Bx6, M0, Bx7, L7r, SxWeak, N1, N2, N3, N4, Rp, Hq, M1, N5, SxTup, N6. -/
import Derived.Test.YtcjldfgkonfocaaDoorProg
import Derived.Lib.TrailingZeros
import Derived.Shelf.Spec.TrailingZeros
import Derived.Test.YtcjldfgkonfocaaDoorRows
import Derived.WalkKit
import Derived.WalkSpells
import Derived.WalkLawsBesides
import Derived.Test.YtcjldfgkonfocaaDoorPC
namespace Lf
open Go Go.Sx Go.Proofs
def zE(s:ByteArray):List Int:=s.data.toList.map fun b=>(b.toNat:Int)
def xX(s:ByteArray):List Int:=IntKind.u8.wrap (s.size:Int)::zE s
abbrev asf:Type:=ByteArray×List Int
def abt:Spec asf:=⟨fun x=>[.s (.str x.1),.ptr 0 0],fun x=>[.own [.vec 1] 58,.vec (.ints .u8 x.2) 5],fun x=>[x.2.length≤100000000,x.1.size≤1000000],fun x=>[.own [.vec 2] 58,.dead,.vec (.ints .u8 (x.2++xX x.1)) 5],fun _=>.bm []⟩
def aoa:List AV→RM (asf×List Nat)
 |[.s (.str s),.ptr id 0]=>.look id fun
  |some (.own [.vec j] _)=>.look j fun
   |some (.vec (.ints .u8 zs) _)=>.ret ((s,zs),[id,j])
   |_=>.fail "enc1: no bytes"
  |_=>.fail "enc1: no box"
 |_=>.fail "enc1"
theorem ajc(s:ByteArray)(zs:List Int):run P kq.sum Tryd.f104 [] (start Tryd.f104 [.s (.str s),.ptr 0 0] [.own [.vec 1] 58,.vec (.ints .u8 zs) 5])=
 Tree.need ((zs.length+(1:Nat))*(1:Nat)≤(140737488355328:Nat)) (Tree.need (((zs++[IntKind.u8.wrap (↑s.size:Int)]).length+(List.map (fun(b:UInt8)=>(↑b.toNat:Int)) s.data.toList).length)*(1:Nat)≤(140737488355328:Nat)) (Tree.ret [ad.own [AV.vec (4:Nat)] (58:Nat),ad.dead,ad.vec (aF.ints IntKind.u8 [IntKind.u8.wrap (↑s.size:Int)]) (5:Nat),ad.dead,ad.vec (aF.ints IntKind.u8 (zs++[IntKind.u8.wrap (↑s.size:Int)]++List.map (fun(b:UInt8)=>(↑b.toNat:Int)) s.data.toList)) (5:Nat)] (AV.bm []))):=by kernel_rfl
abbrev ap0:=bY [eF] [cV] (fun _=>[]) (fun((l,es,bs,()),())=>(c8 l es bs,()))
abbrev aob:=bY [eF] [cV] (fun((_,es,bs,()),())=>[a8 es,ba bs]) (fun((_,es,bs,()),())=>(decide (bh es bs≤254),()))
def vw:aH:=[(76,ap0),(82,aob),(104,dA abt aoa)]
def ae9:List (Nat×Norm):=[(8,⟨[],[1,4],0,[]⟩),(10,⟨[],[1,4,5,25,26,27],0,[]⟩),(16,⟨[],[4,5,41,42,43],0,[]⟩)]
noncomputable def aoc(l:Bool)(es:List En)(bs:List Br)(zs:List Int):bC:=⟨sl 64 [(1,.ptr 0 0),(4,.ptr 1 0)],[obN l es bs 73,.own [.vec 2] 58,.vec (.ints .u8 zs) 5],hr Tryd.f96 8,{}⟩
noncomputable def aod(l:Bool)(es:List En)(bs:List Br)(zs:List Int)(i:Int):bC:=⟨sl 64 [(1,.ptr 0 0),(4,.ptr 1 0),(5,.fn 104 [.ptr 1 0]),(25,.s (.ro (.ae cE es))),(26,.s (.int .i64 (es.length:Int))),(27,.s (.int .i64 i))],[obN l es bs 73,.own [.vec 2] 58,.vec (.ints .u8 zs) 5],hd Tryd.f96 10,{}⟩
noncomputable def aoe(bs:List Br)(zs:List Int)(i:Int):bC:=⟨sl 64 [(4,.ptr 0 0),(5,.fn 104 [.ptr 0 0]),(41,.s (.ro (.ae cB bs))),(42,.s (.int .i64 (bs.length:Int))),(43,.s (.int .i64 i))],[.own [.vec 1] 58,.vec (.ints .u8 zs) 5],hd Tryd.f96 16,{}⟩
theorem alO(l:Bool)(es:List En)(bs:List Br):run P vw.sum Tryd.f96 ae9 (start Tryd.f96 [avN l es bs] [])=
 Tree.ite (!c8 l es bs) (.ret [.own [.s (.bool l),.s (.ro (.ae [.str,.str] es)),.s (.ro (.ae [.str,.int .i64] bs))] 73] (.bm [.s (.str ByteArray.empty),.s (.aZ .i64 4)])) (.need (a8 es) (.need (ba bs) (.ite (!decide (bh es bs≤254)) (.ret [.own [.s (.bool l),.s (.ro (.ae [.str,.str] es)),.s (.ro (.ae [.str,.int .i64] bs))] 73] (.bm [.s (.str ByteArray.empty),.s (.aZ .i64 40)])) (.ite l (.need ((0:Int)≤0) (.need ((0:Int)<(↑(1:Nat):Int)) (.at (.mk (sl 64 [(1,.ptr 0 0),(4,.ptr 1 0)]) [.own [.s (.bool l),.s (.ro (.ae [.str,.str] es)),.s (.ro (.ae [.str,.int .i64] bs))] 73,.own [.vec 2] 58,.vec (.ints .u8 ([(2:Int)].set 0 1)) 5] (hr Tryd.f96 8) (.mk none false 0 [] 0))))) (.at (.mk (sl 64 [(1,.ptr 0 0),(4,.ptr 1 0)]) [.own [.s (.bool l),.s (.ro (.ae [.str,.str] es)),.s (.ro (.ae [.str,.int .i64] bs))] 73,.own [.vec 2] 58,.vec (.ints .u8 [(2:Int)]) 5] (hr Tryd.f96 8) (.mk none false 0 [] 0))))))):=by kernel_rfl
theorem alP(l:Bool)(es:List En)(bs:List Br)(zs:List Int):run P vw.sum Tryd.f96 ae9 (aoc l es bs zs)=
 Tree.at (.mk (sl 64 [(1,.ptr 0 0),(4,.ptr 1 0),(5,.fn 104 [.ptr 1 0]),(25,.s (.ro (.ae [.str,.str] es))),(26,.s (.int .i64 (↑es.length:Int))),(27,.s (.int .i64 0))]) [.own [.s (.bool l),.s (.ro (.ae [.str,.str] es)),.s (.ro (.ae [.str,.int .i64] bs))] 73,.own [.vec 2] 58,.vec (.ints .u8 zs) 5] (hd Tryd.f96 10) (.mk none false 0 [] 0)):=by kernel_rfl
theorem abu(l:Bool)(es:List En)(bs:List Br)(zs:List Int)(i:Int):run P vw.sum Tryd.f96 ae9 (aod l es bs zs i)=
 Tree.ite (decide (i<(↑es.length:Int))) (.need ((0:Int)≤i) (.need (i<(↑es.length:Int)) (.need (bE (some [AV.s (.str (es.getD i.toNat (CL.d [.str,.str])).fst),.ptr 0 0])) (.need (bE (some [ad.own [.vec 1] 58,.vec (.ints .u8 zs) 5])) (.need (zs.length≤100000000) (.need (ByteArray.size (es.getD i.toNat (CL.d [.str,.str])).fst≤1000000) (.need (bE (some [AV.s (.str (es.getD i.toNat (CL.d [.str,.str])).snd.fst),.ptr 0 0])) (.need (bE (some [ad.own [.vec 1] 58,.vec (.ints .u8 (zs++xX (es.getD i.toNat (CL.d [.str,.str])).fst)) 5])) (.need ((zs++xX (es.getD i.toNat (CL.d [.str,.str])).fst).length≤100000000) (.need (ByteArray.size (es.getD i.toNat (CL.d [.str,.str])).snd.fst≤1000000) (.need (aD (i+1)) (.at (.mk (sl 64 [(1,.ptr 0 0),(4,.ptr 1 0),(5,.fn 104 [.ptr 1 0]),(25,.s (.ro (.ae [.str,.str] es))),(26,.s (.int .i64 (↑es.length:Int))),(27,.s (.int .i64 (i+1)))]) [.own [.s (.bool l),.s (.ro (.ae [.str,.str] es)),.s (.ro (.ae [.str,.int .i64] bs))] 73,.own [.vec 2] 58,.vec (.ints .u8 (zs++xX (es.getD i.toNat (CL.d [.str,.str])).fst++xX (es.getD i.toNat (CL.d [.str,.str])).snd.fst)) 5] (hd Tryd.f96 10) (.mk none false 0 [] 0)))))))))))))) (.at (.mk (sl 64 [(4,.ptr 0 0),(5,.fn 104 [.ptr 0 0]),(41,.s (.ro (.ae [.str,.int .i64] bs))),(42,.s (.int .i64 (↑bs.length:Int))),(43,.s (.int .i64 0))]) [.own [.vec 1] 58,.vec (.ints .u8 zs) 5] (hd Tryd.f96 16) (.mk none false 0 [] 0))):=by kernel_rfl
theorem abv(bs:List Br)(zs:List Int)(i:Int):run P vw.sum Tryd.f96 ae9 (aoe bs zs i)=
 Tree.ite (decide (i<(↑bs.length:Int))) (Tree.need ((0:Int)≤i) (Tree.need (i<(↑bs.length:Int)) (Tree.need (bE (some [AV.s (SV.str (bs.getD i.toNat (CL.d [CK.str,CK.int IntKind.i64])).fst),AV.ptr (0:Nat) (0:Nat)])) (Tree.need (bE (some [ad.own [AV.vec (1:Nat)] (58:Nat),ad.vec (aF.ints IntKind.u8 zs) (5:Nat)])) (Tree.need (zs.length≤(100000000:Nat)) (Tree.need (ByteArray.size (bs.getD i.toNat (CL.d [CK.str,CK.int IntKind.i64])).fst≤(1000000:Nat)) (Tree.need ((0:Int)≤(8:Int)) (Tree.need (((zs++xX (bs.getD i.toNat (CL.d [CK.str,CK.int IntKind.i64])).fst).length+(2:Nat))*(1:Nat)≤(140737488355328:Nat)) (Tree.need (aD (i+(1:Int))) (Tree.at (bC.mk (sl (64:Nat) [((4:Nat),AV.ptr (0:Nat) (0:Nat)),((5:Nat),AV.fn (104:Nat) [AV.ptr (0:Nat) (0:Nat)]),((41:Nat),AV.s (SV.ro (aF.ae [CK.str,CK.int IntKind.i64] bs))),((42:Nat),AV.s (SV.int IntKind.i64 (↑bs.length:Int))),((43:Nat),AV.s (SV.int IntKind.i64 (i+(1:Int))))]) [ad.own [AV.vec (1:Nat)] (58:Nat),ad.vec (aF.ints IntKind.u8 (zs++xX (bs.getD i.toNat (CL.d [CK.str,CK.int IntKind.i64])).fst++[IntKind.u8.wrap (Int.fdiv (bs.getD i.toNat (CL.d [CK.str,CK.int IntKind.i64])).snd.fst ((2:Int)^min (Int.toNat (8:Int)) IntKind.i64.bits)),IntKind.u8.wrap (bs.getD i.toNat (CL.d [CK.str,CK.int IntKind.i64])).snd.fst])) (5:Nat)] (hd Tryd.f96 (16:Nat)) (nN.mk none false (0:Nat) [] (0:Nat))))))))))))) (Tree.ret [ad.own [AV.vec (1:Nat)] (58:Nat),ad.vec (aF.ints IntKind.u8 zs) (5:Nat)] (AV.bm [AV.s (SV.str (aM zs)),AV.s (SV.aZ IntKind.i64 (0:Int))])):=by kernel_rfl
theorem eR{Z:bd}{X:Ctx}{t:aH}{f:FuncId}{fn:Func}{ns:List (Nat×Norm)}{c:bC}{tr:Tree}{K:List ad→AV→Prop}{L:List ad}(hz:dS Z X)(hX:X.H=lk L)(hm:∀x∈ns,L.length≤x.2.m)(hT:t.Ok P Z)(hf:P.funcs[f]? =some fn)
 (e:run P t.sum fn ns c=tr) (h:tr.aN K (Safe P f X K)):Safe P f X K c:=cp (aH.sOk hT) hz mixed hf (fun x hx id dq=>by rw[hX];exact List.getElem?_eq_none (Nat.le_trans (hm x hx) dq)) e h
theorem alQ{Z:bd}:jA P Z 104 abt:=by
 refine aO Tryd.func104 (by kernel_rfl) (fun x=>Nat.le_of_ble_eq_true (by kernel_rfl)) ?_
 rintro⟨(s:ByteArray),(zs:List Int)⟩ ⟨(h1:zs.length≤100000000),(h2:s.size≤1000000),_⟩ X hX hz
 have hs:s.data.toList.length=s.size:=Array.length_toList
 refine eR hz hX (by simp) aH.Ok.nil Tryd.func104 (ajc s zs) ⟨by omega,by simp only[List.length_append,List.length_map,List.length_singleton];omega,⟨[],[0],2,[]⟩,Nat.le_refl _, ?_⟩
 have e:zs++xX s=zs++[IntKind.u8.wrap (s.size:Int)]++zE s:=by simp[xX]
 show Norm.run _ _=some ⟨[AV.bm []],[.own [.vec 2] 58,.dead,.vec (.ints .u8 (zs++xX s)) 5],[],{}⟩
 rw[e]
 kernel_rfl
def np(x:En):List Int:=xX x.1++xX x.2.1
def ta(x:Br):List Int:=xX x.1++[IntKind.u8.wrap (Int.fdiv x.2.1 (2^min (Int.toNat 8) IntKind.i64.bits)),IntKind.u8.wrap x.2.1]
def wV(l:Bool):List Int:=[if l=true then 1 else 2]
def nq(l:Bool)(es:List En)(bs:List Br):List Int:=wV l++es.flatMap np++bs.flatMap ta
def abw(l:Bool)(es:List En)(bs:List Br):Bool:=c8 l es bs&&decide (bh es bs≤254)
def c9(l:Bool)(es:List En)(bs:List Br):ByteArray:=if abw l es bs=true then aM (nq l es bs)else ByteArray.empty
def gT(l:Bool)(es:List En)(bs:List Br):Int:=if c8 l es bs=true then(if bh es bs≤254 then 0 else 40)else 4
theorem me(s:ByteArray):(xX s).length=s.size+1:=by
 have hs:s.data.toList.length=s.size:=Array.length_toList
 simp[xX,zE,hs]
theorem xY{α β:Type}{l:List α}{k:Nat}{d:α}(f:α→List β)(h:k<l.length):(l.take k).flatMap f++f (l.getD k d)=(l.take (k+1)).flatMap f:=by
 rw[←lJ (d:=d) h,List.flatMap_append];simp
theorem qz{α β:Type}(f:α→List β)(m:Nat):∀{l:List α},(∀x∈l,(f x).length≤m)→(l.flatMap f).length≤m*l.length
 |[],_=>by simp
 |x::l,h=>by
  have h1:=h x (by simp)
  have h2:=qz f m (l:=l) (fun y hy=>h y (by simp[hy]))
  simp only[List.flatMap_cons,List.length_append,List.length_cons,Nat.mul_add]
  omega
theorem abx{x:En}(h:x.1.size≤1000∧x.2.1.size≤1000):(np x).length≤2002:=by
 simp only[np,List.length_append,me];omega
theorem ajd{x:Br}(h:x.1.size≤1000):(ta x).length≤1003:=by
 simp only[ta,List.length_append,me,List.length_cons,List.length_nil];omega
theorem jG{Z:bd}:vw.Ok P Z:=aH.Ok.cons adz.sum (aH.Ok.cons ae8.sum (aH.Ok.cons (alQ.sum aoa) aH.Ok.nil))
theorem ag0{Z:bd}:dt P Z 96 [eF] [dU,bq] (fun((_,es,bs,()),())=>[a8 es,ba bs]) (fun((l,es,bs,()),())=>(c9 l es bs,gT l es bs,())):=by
 refine au Tryd.func96 (by kernel_rfl) (by kernel_rfl) ?_
 rintro⟨⟨(l:Bool),(es:List En),(bs:List Br),⟨⟩⟩,⟨⟩⟩ _ ⟨(he:a8 es),(hb:ba bs),_⟩ X hX hz
 have he1:=he.1
 have hb1:=hb.1
 show Safe P 96 X (Ends [dU,bq] (c9 l es bs,gT l es bs,())) _
 have second:c9 l es bs=aM (nq l es bs)→gT l es bs=0→∀(n k:Nat),k+n=bs.length→Safe P 96 X (Ends [dU,bq] (c9 l es bs,gT l es bs,())) (aoe bs (wV l++es.flatMap np++(bs.take k).flatMap ta) (k:Int)):=by
  intro hS hN n
  induction n with
  |zero=>
   intro k hk
   refine go hz hX jG Tryd.func96 (abv bs _ k) ⟨fun h=>absurd (of_decide_eq_true h) (by omega),fun h=> ?_⟩
   rw[List.take_of_length_le (by omega),hS,hN]
   exact zx
  |succ n ih=>
   intro k hk
   have bH:=vv hb k
   have hl1:(es.flatMap np).length≤2002*es.length:=qz np 2002 (fun x hx=>abx (he.2 x hx))
   have xt:((bs.take k).flatMap ta).length≤1003*(bs.take k).length:=qz ta 1003 (fun x hx=>ajd (hb.2 x (List.mem_of_mem_take hx)))
   have hl3:(bs.take k).length≤1000:=by rw[List.length_take];omega
   have hl:(wV l++es.flatMap np++(bs.take k).flatMap ta).length≤4000000:=by
    simp only[List.length_append,wV,List.length_singleton];omega
   refine go hz hX jG Tryd.func96 (abv bs _ k) ?_
   simp only[Int.toNat_natCast]
   refine⟨fun h=>⟨by omega,by omega,trivial,trivial,by omega, ?_,by decide, ?_,⟨by omega,by omega⟩, ?_⟩,fun h=>absurd (of_decide_eq_false h) (by omega)⟩
   ·show(bs.getD k dB).1.size≤1000000
    omega
   ·rw[List.length_append,me]
    show(_+((bs.getD k dB).1.size+1)+2)*1≤_
    omega
   ·have:=ih (k+1) (by omega)
    rw[←xY (d:=dB) ta (by omega),←List.append_assoc]at this
    rw[List.append_assoc (wV l++es.flatMap np++(bs.take k).flatMap ta)]
    exact this
 have first:c9 l es bs=aM (nq l es bs)→gT l es bs=0→∀(n k:Nat),k+n=es.length→Safe P 96 X (Ends [dU,bq] (c9 l es bs,gT l es bs,())) (aod l es bs (wV l++(es.take k).flatMap np) (k:Int)):=by
  intro hS hN n
  induction n with
  |zero=>
   intro k hk
   refine go hz hX jG Tryd.func96 (abu l es bs _ k) ⟨fun h=>absurd (of_decide_eq_true h) (by omega),fun h=> ?_⟩
   rw[List.take_of_length_le (by omega)]
   have:=second hS hN bs.length 0 (by omega)
   simp only[List.take_zero,List.flatMap_nil,List.append_nil]at this
   exact this
  |succ n ih=>
   intro k hk
   obtain⟨hs1,hs2⟩:=vu he k
   have xt:((es.take k).flatMap np).length≤2002*(es.take k).length:=qz np 2002 (fun x hx=>abx (he.2 x (List.mem_of_mem_take hx)))
   have hl3:(es.take k).length≤1000:=by rw[List.length_take];omega
   have hl:(wV l++(es.take k).flatMap np).length≤4000000:=by
    simp only[List.length_append,wV,List.length_singleton];omega
   refine go hz hX jG Tryd.func96 (abu l es bs _ k) ?_
   simp only[Int.toNat_natCast]
   refine⟨fun h=>⟨by omega,by omega,trivial,trivial,by omega, ?_,trivial,trivial, ?_, ?_,⟨by omega,by omega⟩, ?_⟩,fun h=>absurd (of_decide_eq_false h) (by omega)⟩
   ·show(es.getD k dE).1.size≤1000000
    omega
   ·rw[List.length_append,me]
    show _+((es.getD k dE).1.size+1)≤_
    omega
   ·show(es.getD k dE).2.1.size≤1000000
    omega
   ·have:=ih (k+1) (by omega)
    rw[←xY (d:=dE) np (by omega),←List.append_assoc]at this
    rw[List.append_assoc (wV l++(es.take k).flatMap np)]
    exact this
 refine go hz hX jG Tryd.func96 (alO l es bs) ⟨fun h=> ?_,fun h=>⟨he,hb,fun h2=> ?_,fun h2=> ?_⟩⟩
 ·have h:c8 l es bs=false:=by simpa using h
  have e1:c9 l es bs=ByteArray.empty:=by simp[c9,abw,h]
  have e2:gT l es bs=4:=by simp[gT,h]
  rw[e1,e2];exact zx
 ·have h:c8 l es bs=true:=by simpa using h
  have h2:¬bh es bs≤254:=by simpa using h2
  have e1:c9 l es bs=ByteArray.empty:=by simp[c9,abw,h,h2]
  have e2:gT l es bs=40:=by simp[gT,h,h2]
  rw[e1,e2];exact zx
 ·have h:c8 l es bs=true:=by simpa using h
  have h2:bh es bs≤254:=by simpa using h2
  have e1:c9 l es bs=aM (nq l es bs):=by simp[c9,abw,h,h2]
  have e2:gT l es bs=0:=by simp[gT,h,h2]
  have st:Safe P 96 X (Ends [dU,bq] (c9 l es bs,gT l es bs,())) (aoc l es bs (wV l)):=by
   refine go hz hX jG Tryd.func96 (alP l es bs _) ?_
   have:=first e1 e2 es.length 0 (by omega)
   simp only[List.take_zero,List.flatMap_nil,List.append_nil]at this
   exact this
  refine⟨fun h3=>⟨by decide,by decide, ?_⟩,fun h3=> ?_⟩
  ·subst h3;exact st
  ·subst h3;exact st
end Lf
namespace Lf
open Go Go.Sx Go.Proofs
theorem aje{bs:List Br}(h:gh bs=true){i:Nat}(hi:i+1<bs.length):slt (bs.getD i dB).1 (bs.getD (i+1) dB).1=true:=by
 have:=cQ.1 h (i+1) hi
 simp only[okB,Bool.not_eq_true',Bool.or_eq_false_iff,Bool.and_eq_false_iff,decide_eq_false_iff_not,Bool.not_eq_false']at this
 have h2:=this.2
 rcases h2 with h2|h2
 ·omega
 ·simpa using h2
theorem ajf{es:List En}(h:jB es=true){i:Nat}(hi:i+1<es.length):slt (es.getD i dE).1 (es.getD (i+1) dE).1=true:=by
 have:=cQ.1 h (i+1) hi
 simp only[okE,Bool.not_eq_true',Bool.or_eq_false_iff,Bool.and_eq_false_iff,decide_eq_false_iff_not,Bool.not_eq_false']at this
 have h2:=this.2
 rcases h2 with h2|h2
 ·omega
 ·simpa using h2
theorem sN{ks:List ByteArray}(h:∀i,i+1<ks.length→slt (ks.getD i ByteArray.empty) (ks.getD (i+1) ByteArray.empty)=true):ir ks:=by
 intro i j kN hj
 induction j with
 |zero=>omega
 |succ j ih=>
  by_cases he:i=j
  ·subst he;exact h i hj
  ·exact cq (ih (by omega) (by omega)) (h j hj)
theorem ap1{bs:List Br}(h:gh bs=true):ir (mo bs):=sN fun i hi=>by
 rw[List.length_map]at hi
 rw[cw bs agX dB,cw bs agX dB]
 exact aje h hi
theorem ash{es:List En}(h:jB es=true):ir (bA es):=sN fun i hi=>by
 rw[List.length_map]at hi
 rw[cw es pt dE,cw es pt dE]
 exact ajf h hi
theorem dK{l:Bool}{es:List En}{bs:List Br}(h:c8 l es bs=true):(l=true→bs=[])∧(l=false→es=[])∧jB es=true∧gh bs=true:=by
 simp only[c8,Bool.and_eq_true,Bool.not_eq_true',Bool.or_eq_false_iff,Bool.and_eq_false_iff,decide_eq_false_iff_not]at h
 obtain⟨⟨⟨h1,h2⟩,h3⟩,h4⟩:=h
 refine⟨fun hl=> ?_,fun hl=> ?_,h3,h4⟩
 ·subst hl
  rcases h1 with h1|h1
  ·cases h1
  ·exact List.eq_nil_of_length_eq_zero (by omega)
 ·subst hl
  rcases h2 with h2|h2
  ·cases h2
  ·exact List.eq_nil_of_length_eq_zero (by omega)
theorem adE:∀{ks:List ByteArray} {key:ByteArray} {t:Nat},t<cr ks key→slt (ks.getD t ByteArray.empty) key=true
 |[],key,t,h=>by simp[cr]at h
 |k::ks,key,t,h=>by
  simp only[cr,List.takeWhile]at h
  split at h
  ·rename_i hk
   cases t with
   |zero=>simpa using hk
   |succ t=>
    simp only[List.length_cons]at h
    simpa using adE (ks:=ks) (key:=key) (t:=t) (by simp only[cr];omega)
  ·simp at h
theorem adF:∀{ks:List ByteArray} {key:ByteArray},cr ks key<ks.length→slt (ks.getD (cr ks key) ByteArray.empty) key=false
 |[],key,h=>by simp at h
 |k::ks,key,h=>by
  by_cases hk:slt k key=true
  ·have e:cr (k::ks) key=cr ks key+1:=by simp[cr,List.takeWhile,hk]
   rw[e]at h ⊢
   simpa using adF (ks:=ks) (key:=key) (by simpa using h)
  ·have hk:slt k key=false:=by simpa using hk
   have e:cr (k::ks) key=0:=by simp[cr,List.takeWhile,hk]
   rw[e]
   simpa using hk
theorem ajg{ks:List ByteArray}{key:ByteArray}(hs:ir ks){t:Nat}(h1:cr ks key≤t)(h2:t<ks.length):slt (ks.getD t ByteArray.empty) key=false:=by
 have h:=adF (ks:=ks) (key:=key) (by omega)
 by_cases he:t=cr ks key
 ·rw[he];exact h
 ·have h3:=hs (cr ks key) t (by omega) h2
  cases h4:slt (ks.getD t ByteArray.empty) key
  ·rfl
  ·rw[cq h3 h4]at h;cases h
theorem jC{ks:List ByteArray}{key:ByteArray}:jq ks key=true↔cr ks key<ks.length∧ks.getD (cr ks key) ByteArray.empty=key:=by
 simp only[jq,decide_eq_true_eq]
 constructor
 ·intro h
  have h1:=(List.getElem?_eq_some_iff.1 h).1
  exact⟨h1,by simp[List.getD,h]⟩
 ·rintro⟨h1,h2⟩
  rw[bk h1]at h2
  rw[List.getElem?_eq_getElem h1,h2]
theorem vz{ks:List ByteArray}{key:ByteArray}(hs:ir ks)(h0:ks≠[]):∃p:Nat,imax 0 (if jq ks key=true then(cr ks key:Int)else(cr ks key:Int) - 1)=(p:Int)∧p<ks.length∧
 (p=0∨slt key (ks.getD p ByteArray.empty)=false)∧(∀t,p<t→t<ks.length→slt key (ks.getD t ByteArray.empty)=true):=by
 have hlen:0<ks.length:=by
  cases ks with
  |nil=>exact absurd rfl h0
  |cons k ks=>simp
 have hle:=vr ks key
 have up:∀t,cr ks key≤t→t<ks.length→ks.getD t ByteArray.empty≠key→slt key (ks.getD t ByteArray.empty)=true:=fun t h1 h2 h3=>u5 (ajg hs h1 h2) h3
 by_cases hk:jq ks key=true
 ·obtain⟨h1,h2⟩:=jC.1 hk
  rw[if_pos hk]
  refine⟨cr ks key,by unfold imax;split<;>omega,h1,.inr (by rw[h2];exact dJ key),fun t ht htl=> ?_⟩
  rw[←h2]
  have:=hs (cr ks key) t ht htl
  rw[h2]at this ⊢
  exact this
 ·rw[if_neg hk]
  have ct:∀t,cr ks key≤t→t<ks.length→ks.getD t ByteArray.empty≠key:=by
   intro t h1 h2 h3
   by_cases he:t=cr ks key
   ·subst he;exact hk (jC.2 ⟨h2,h3⟩)
   ·have h4:=hs (cr ks key) t (by omega) h2
    rw[h3]at h4
    rw[adF (by omega)]at h4
    cases h4
  rcases Nat.eq_zero_or_pos (cr ks key)with hz|hz
  ·refine⟨0,by rw[hz];rfl,hlen,.inl rfl,fun t ht htl=>up t (by omega) htl (ct t (by omega) htl)⟩
  ·refine⟨cr ks key - 1,by unfold imax;split<;>omega,by omega,.inr (rI (adE (by omega))),fun t ht htl=>up t (by omega) htl (ct t (by omega) htl)⟩
end Lf
namespace Lf
open Go Go.Sx Go.Proofs
def asi(a b:List En):Bool:=decide (a=b)
def asj(a b:List Br):Bool:=decide (a=b)
def kc(k:Int)(s:ByteArray):ByteArray:=if k>(s.size:Int)then ByteArray.empty else s.extract 0 k.toNat
def sO(k:Int)(s:ByteArray):Bool:= !decide (k>(s.size:Int))
def oJ(k:Int)(s:ByteArray):ByteArray:=if k>(s.size:Int)then s else s.extract k.toNat s.size
def vA:Spec (Int×ByteArray):=⟨fun x=>[.s (.int .i64 x.1),.ptr 0 0],fun x=>[.own [.s (.str x.2)] 9],fun x=>[0≤x.1],fun x=>[.own [.s (.str (oJ x.1 x.2))] 9],fun x=>.bm [.s (.str (kc x.1 x.2)),.s (.bool (sO x.1 x.2))]⟩
def afa:List AV→RM ((Int×ByteArray)×List Nat)
 |[.s (.int .i64 k),.ptr id 0]=>.look id fun
  |some (.own [.s (.str s)] _)=>.ret ((k,s),[id])
  |_=>.fail "take: no text"
 |[.s (.aZ .i64 k),.ptr id 0]=>.look id fun
  |some (.own [.s (.str s)] _)=>.ret ((k,s),[id])
  |_=>.fail "take: no text"
 |_=>.fail "take"
theorem ajh(k:Int)(s:ByteArray):run P kq.sum Tryd.f74 [] (start Tryd.f74 [.s (.int .i64 k),.ptr 0 0] [.own [.s (.str s)] 9])=
 Tree.ite (decide (k>(↑s.size:Int))) (.ret [.own [.s (.str s)] 9] (.bm [.s (.str ByteArray.empty),.s (.aI false)])) (.need ((0:Int)≤0) (.need ((0:Int)≤k) (.need (k≤(↑s.size:Int)) (.need ((0:Int)≤k) (.need (k≤(↑s.size:Int)) (.need ((↑s.size:Int)≤(↑s.size:Int)) (.ret [.own [.s (.str (s.extract k.toNat (↑s.size:Int).toNat))] 9] (.bm [.s (.str (s.extract (Int.toNat 0) k.toNat)),.s (.aI true)])))))))):=by kernel_rfl
def rdK(s:ByteArray):Int:=aW (kc 1 s) 0
def xZ(s:ByteArray):ByteArray:=if sO 1 s=true then kc (rdK s) (oJ 1 s)else ByteArray.empty
def wW(s:ByteArray):Bool:=sO 1 s&&sO (rdK s) (oJ 1 s)
def hP(s:ByteArray):ByteArray:=if sO 1 s=true then oJ (rdK s) (oJ 1 s)else oJ 1 s
def aby:Spec ByteArray:=⟨fun _=>[.ptr 0 0],fun s=>[.own [.fn 74 [.ptr 1 0]] 122,.own [.s (.str s)] 9],fun _=>[],fun s=>[.own [.fn 74 [.ptr 1 0]] 122,.own [.s (.str (hP s))] 9],fun s=>.bm [.s (.str (xZ s)),.s (.bool (wW s))]⟩
def aof:List AV→RM (ByteArray×List Nat)
 |[.ptr id 0]=>.look id fun
  |some (.own [.fn _ [.ptr j 0]] _)=>.look j fun
   |some (.own [.s (.str s)] _)=>.ret (s,[id,j])
   |_=>.fail "text: no text"
  |_=>.fail "text: no take"
 |_=>.fail "text"
def afb:aH:=[(74,dA vA afa)]
theorem aji(s:ByteArray):run P afb.sum Tryd.f75 [] (start Tryd.f75 [.ptr 0 0] [.own [.fn 74 [.ptr 1 0]] 122,.own [.s (.str s)] 9])=
 Tree.need (bE (some [AV.s (.int .i64 1),.ptr 0 0])) (.need (bE (some [ad.own [.s (.str s)] 9])) (.need ((0:Int)≤1) (.ite (!sO 1 s) (.ret [.own [.fn 74 [.ptr 1 0]] 122,.own [.s (.str (oJ 1 s))] 9] (.bm [.s (.str ByteArray.empty),.s (.aI false)])) (.need ((0:Int)≤0) (.need ((0:Int)<(↑(kc 1 s).size:Int)) (.need (aD (aW (kc 1 s) (Int.toNat 0))) (.need (bE (some [AV.s (.int .i64 (aW (kc 1 s) (Int.toNat 0))),.ptr 0 0])) (.need (bE (some [ad.own [.s (.str (oJ 1 s))] 9])) (.need ((0:Int)≤aW (kc 1 s) (Int.toNat 0)) (.ret [.own [.fn 74 [.ptr 1 0]] 122,.own [.s (.str (oJ (aW (kc 1 s) (Int.toNat 0)) (oJ 1 s)))] 9] (.bm [.s (.str (kc (aW (kc 1 s) (Int.toNat 0)) (oJ 1 s))),.s (.bool (sO (aW (kc 1 s) (Int.toNat 0)) (oJ 1 s)))]))))))))))):=by kernel_rfl
def vB:aH:=[(74,dA vA afa),(75,dA aby aof),(76,ap0)]
def afc:List (Nat×Norm):=[(7,⟨[],[1,2],0,[]⟩),(11,⟨[],[1,2,4,5,6],0,[(2,1,false,.ae cE [],eE),(2,2,false,.ae cB [],eB)]⟩),(22,⟨[],[1,2,4,5,6,8],0,[]⟩)]
def obZ:ad:=.own [.s (.bool false),.emp,.emp] 73
noncomputable def aog(s:ByteArray):bC:=⟨sl 93 [(1,.ptr 0 0),(2,.ptr 1 0)],[.own [.s (.str s)] 9,obZ],hr Tryd.f57 7,{}⟩
noncomputable def asl(s:ByteArray)(l:Bool)(es:List En)(bs:List Br):bC:=⟨sl 93 [(1,.ptr 0 0),(2,.ptr 1 0),(4,.ptr 2 0),(5,.ptr 3 0),(6,.fn 75 [.ptr 3 0])],[.own [.s (.str s)] 9,obZ,.own [.s (.bool l),.vec 4,.vec 5] 73,.own [.fn 74 [.ptr 0 0]] 122,.vec (.ae cE es) eE,.vec (.ae cB bs) eB],hd Tryd.f57 11,{}⟩
noncomputable def ajj(s:ByteArray)(l:Bool)(es:List En)(bs:List Br)(is:Bool):bC:=⟨sl 93 [(1,.ptr 0 0),(2,.ptr 1 0),(4,.ptr 2 0),(5,.ptr 3 0),(6,.fn 75 [.ptr 3 0]),(8,.s (.bool is))],[.own [.s (.str s)] 9,obZ,.own [.s (.bool l),.vec 4,.vec 5] 73,.own [.fn 74 [.ptr 0 0]] 122,.vec (.ae cE es) eE,.vec (.ae cB bs) eB],hr Tryd.f57 22,{}⟩
theorem alR(s:ByteArray):run P vB.sum Tryd.f57 afc (start Tryd.f57 [.s (.str s)] [])=
 Tree.ite (decide ((↑s.size:Int)>254)) (.ret [.own [.s (.str s)] 9,.own [.s (.aI false),.emp,.emp] 73] (.bm [.agg [.s (.aI false),.emp,.emp],.s (.aZ .i64 40)])) (.ite (decide (s=ByteArray.empty)) (.ret [.own [.s (.str s)] 9,.own [.s (.aI false),.emp,.emp] 73] (.bm [.agg [.s (.aI false),.emp,.emp],.s (.aZ .i64 8)])) (.need ((0:Int)≤0) (.need ((0:Int)<(↑s.size:Int)) (.ite (aW s (Int.toNat 0) !=1) (.need ((0:Int)≤0) (.need ((0:Int)<(↑s.size:Int)) (.ite (aW s (Int.toNat 0) !=2) (.ret [.own [.s (.str s)] 9,.own [.s (.aI false),.emp,.emp] 73] (.bm [.agg [.s (.aI false),.emp,.emp],.s (.aZ .i64 4)])) (.at (.mk (sl 93 [(1,.ptr 0 0),(2,.ptr 1 0)]) [.own [.s (.str s)] 9,.own [.s (.bool false),.emp,.emp] 73] (hr Tryd.f57 7) (.mk none false 0 [] 0)))))) (.at (.mk (sl 93 [(1,.ptr 0 0),(2,.ptr 1 0)]) [.own [.s (.str s)] 9,.own [.s (.bool false),.emp,.emp] 73] (hr Tryd.f57 7) (.mk none false 0 [] 0))))))):=by kernel_rfl
theorem ajk(s:ByteArray):run P vB.sum Tryd.f57 afc (aog s)=
 Tree.need ((0:Int)≤0) (.need ((0:Int)<(↑s.size:Int)) (.need ((0:Int)≤1) (.need ((1:Int)≤(↑s.size:Int)) (.need ((↑s.size:Int)≤(↑s.size:Int)) (.at (.mk (sl 93 [(1,.ptr 0 0),(2,.ptr 1 0),(4,.ptr 2 0),(5,.ptr 3 0),(6,.fn 75 [.ptr 3 0])]) [.own [.s (.str (s.extract (Int.toNat 1) (↑s.size:Int).toNat))] 9,.own [.s (.bool false),.emp,.emp] 73,.own [.s (.bool (aW s (Int.toNat 0)==1)),.vec 4,.vec 5] 73,.own [.fn 74 [.ptr 0 0]] 122,.vec (.ae [.str,.str] []) 34,.vec (.ae [.str,.int .i64] []) 79] (hd Tryd.f57 11) (.mk none false 0 [] 0))))))):=by kernel_rfl
theorem afd(s:ByteArray)(l:Bool)(es:List En)(bs:List Br):run P vB.sum Tryd.f57 afc (asl s l es bs)=
 Tree.ite (!decide (s=ByteArray.empty))
 (Tree.need (bE (some [AV.ptr (0:Nat) (0:Nat)]))
   (Tree.need (bE (some [ad.own [AV.fn (74:Nat) [AV.ptr (1:Nat) (0:Nat)]] (122:Nat),ad.own [AV.s (SV.str s)] (9:Nat)]))
     (Tree.ite l
       (Tree.ite (wW s) (Tree.need (bE (some [AV.ptr (0:Nat) (0:Nat)])) (Tree.need (bE (some [ad.own [AV.fn (74:Nat) [AV.ptr (1:Nat) (0:Nat)]] (122:Nat),ad.own [AV.s (SV.str (hP s))] (9:Nat)])) (Tree.need ((es.length+(1:Nat))*(32:Nat)≤(140737488355328:Nat)) (Tree.at (bC.mk (sl (93:Nat) [((1:Nat),AV.ptr (0:Nat) (0:Nat)),((2:Nat),AV.ptr (1:Nat) (0:Nat)),((4:Nat),AV.ptr (2:Nat) (0:Nat)),((5:Nat),AV.ptr (3:Nat) (0:Nat)),((6:Nat),AV.fn (75:Nat) [AV.ptr (3:Nat) (0:Nat)]),((8:Nat),AV.s (SV.bool (wW (hP s))))]) [ad.own [AV.s (SV.str (hP (hP s)))] (9:Nat),ad.own [AV.s (SV.bool false),AV.emp,AV.emp] (73:Nat),ad.own [AV.s (SV.bool l),AV.vec (4:Nat),AV.vec (5:Nat)] (73:Nat),ad.own [AV.fn (74:Nat) [AV.ptr (0:Nat) (0:Nat)]] (122:Nat),ad.vec (aF.ae [CK.str,CK.str] (es++[(xZ s,xZ (hP s),())])) (34:Nat),ad.vec (aF.ae [CK.str,CK.int IntKind.i64] bs) (79:Nat)] (hr Tryd.f57 (22:Nat)) (nN.mk none false (0:Nat) [] (0:Nat)))))))
         (Tree.ite (wW s) (Tree.need (bE (some [AV.s (SV.int IntKind.i64 (2:Int)),AV.ptr (0:Nat) (0:Nat)])) (Tree.need (bE (some [ad.own [AV.s (SV.str (hP s))] (9:Nat)])) (Tree.need ((0:Int)≤(2:Int)) (Tree.ite (sO (2:Int) (hP s)) (Tree.need ((0:Int)≤(0:Int)) (Tree.need ((0:Int)<(↑(kc (2:Int) (hP s)).size:Int)) (Tree.need (aD (aW (kc (2:Int) (hP s)) (Int.toNat (0:Int)))) (Tree.need ((0:Int)≤(8:Int)) (Tree.need ((0:Int)≤(1:Int)) (Tree.need ((1:Int)<(↑(kc (2:Int) (hP s)).size:Int)) (Tree.need (aD (aW (kc (2:Int) (hP s)) (Int.toNat (1:Int)))) (Tree.need ((bs.length+(1:Nat))*(24:Nat)≤(140737488355328:Nat)) (Tree.at (bC.mk (sl (93:Nat) [((1:Nat),AV.ptr (0:Nat) (0:Nat)),((2:Nat),AV.ptr (1:Nat) (0:Nat)),((4:Nat),AV.ptr (2:Nat) (0:Nat)),((5:Nat),AV.ptr (3:Nat) (0:Nat)),((6:Nat),AV.fn (75:Nat) [AV.ptr (3:Nat) (0:Nat)]),((8:Nat),AV.s (SV.bool (sO (2:Int) (hP s))))]) [ad.own [AV.s (SV.str (oJ (2:Int) (hP s)))] (9:Nat),ad.own [AV.s (SV.bool false),AV.emp,AV.emp] (73:Nat),ad.own [AV.s (SV.bool l),AV.vec (4:Nat),AV.vec (5:Nat)] (73:Nat),ad.own [AV.fn (74:Nat) [AV.ptr (0:Nat) (0:Nat)]] (122:Nat),ad.vec (aF.ae [CK.str,CK.str] es) (34:Nat),ad.vec (aF.ae [CK.str,CK.int IntKind.i64] (bs++[(xZ s,bB BinOp.or IntKind.i64 (IntKind.i64.wrap (aW (kc (2:Int) (hP s)) (Int.toNat (0:Int))*(2:Int)^min (Int.toNat (8:Int)) IntKind.i64.bits)) (aW (kc (2:Int) (hP s)) (Int.toNat (1:Int))),())])) (79:Nat)] (hr Tryd.f57 (22:Nat)) (nN.mk none false (0:Nat) [] (0:Nat)))))))))))) (Tree.at (bC.mk (sl (93:Nat) [((1:Nat),AV.ptr (0:Nat) (0:Nat)),((2:Nat),AV.ptr (1:Nat) (0:Nat)),((4:Nat),AV.ptr (2:Nat) (0:Nat)),((5:Nat),AV.ptr (3:Nat) (0:Nat)),((6:Nat),AV.fn (75:Nat) [AV.ptr (3:Nat) (0:Nat)]),((8:Nat),AV.s (SV.bool (sO (2:Int) (hP s))))]) [ad.own [AV.s (SV.str (oJ (2:Int) (hP s)))] (9:Nat),ad.own [AV.s (SV.bool false),AV.emp,AV.emp] (73:Nat),ad.own [AV.s (SV.bool l),AV.vec (4:Nat),AV.vec (5:Nat)] (73:Nat),ad.own [AV.fn (74:Nat) [AV.ptr (0:Nat) (0:Nat)]] (122:Nat),ad.vec (aF.ae [CK.str,CK.str] es) (34:Nat),ad.vec (aF.ae [CK.str,CK.int IntKind.i64] bs) (79:Nat)] (hr Tryd.f57 (22:Nat)) (nN.mk none false (0:Nat) [] (0:Nat)))))))) (Tree.at (bC.mk (sl (93:Nat) [((1:Nat),AV.ptr (0:Nat) (0:Nat)),((2:Nat),AV.ptr (1:Nat) (0:Nat)),((4:Nat),AV.ptr (2:Nat) (0:Nat)),((5:Nat),AV.ptr (3:Nat) (0:Nat)),((6:Nat),AV.fn (75:Nat) [AV.ptr (3:Nat) (0:Nat)]),((8:Nat),AV.s (SV.bool (wW s)))]) [ad.own [AV.s (SV.str (hP s))] (9:Nat),ad.own [AV.s (SV.bool false),AV.emp,AV.emp] (73:Nat),ad.own [AV.s (SV.bool l),AV.vec (4:Nat),AV.vec (5:Nat)] (73:Nat),ad.own [AV.fn (74:Nat) [AV.ptr (0:Nat) (0:Nat)]] (122:Nat),ad.vec (aF.ae [CK.str,CK.str] es) (34:Nat),ad.vec (aF.ae [CK.str,CK.int IntKind.i64] bs) (79:Nat)] (hr Tryd.f57 (22:Nat)) (nN.mk none false (0:Nat) [] (0:Nat))))))
       (Tree.ite (wW s) (Tree.need (bE (some [AV.s (SV.int IntKind.i64 (2:Int)),AV.ptr (0:Nat) (0:Nat)])) (Tree.need (bE (some [ad.own [AV.s (SV.str (hP s))] (9:Nat)])) (Tree.need ((0:Int)≤(2:Int)) (Tree.ite (sO (2:Int) (hP s)) (Tree.need ((0:Int)≤(0:Int)) (Tree.need ((0:Int)<(↑(kc (2:Int) (hP s)).size:Int)) (Tree.need (aD (aW (kc (2:Int) (hP s)) (Int.toNat (0:Int)))) (Tree.need ((0:Int)≤(8:Int)) (Tree.need ((0:Int)≤(1:Int)) (Tree.need ((1:Int)<(↑(kc (2:Int) (hP s)).size:Int)) (Tree.need (aD (aW (kc (2:Int) (hP s)) (Int.toNat (1:Int)))) (Tree.need ((bs.length+(1:Nat))*(24:Nat)≤(140737488355328:Nat)) (Tree.at (bC.mk (sl (93:Nat) [((1:Nat),AV.ptr (0:Nat) (0:Nat)),((2:Nat),AV.ptr (1:Nat) (0:Nat)),((4:Nat),AV.ptr (2:Nat) (0:Nat)),((5:Nat),AV.ptr (3:Nat) (0:Nat)),((6:Nat),AV.fn (75:Nat) [AV.ptr (3:Nat) (0:Nat)]),((8:Nat),AV.s (SV.bool (sO (2:Int) (hP s))))]) [ad.own [AV.s (SV.str (oJ (2:Int) (hP s)))] (9:Nat),ad.own [AV.s (SV.bool false),AV.emp,AV.emp] (73:Nat),ad.own [AV.s (SV.bool l),AV.vec (4:Nat),AV.vec (5:Nat)] (73:Nat),ad.own [AV.fn (74:Nat) [AV.ptr (0:Nat) (0:Nat)]] (122:Nat),ad.vec (aF.ae [CK.str,CK.str] es) (34:Nat),ad.vec (aF.ae [CK.str,CK.int IntKind.i64] (bs++[(xZ s,bB BinOp.or IntKind.i64 (IntKind.i64.wrap (aW (kc (2:Int) (hP s)) (Int.toNat (0:Int))*(2:Int)^min (Int.toNat (8:Int)) IntKind.i64.bits)) (aW (kc (2:Int) (hP s)) (Int.toNat (1:Int))),())])) (79:Nat)] (hr Tryd.f57 (22:Nat)) (nN.mk none false (0:Nat) [] (0:Nat)))))))))))) (Tree.at (bC.mk (sl (93:Nat) [((1:Nat),AV.ptr (0:Nat) (0:Nat)),((2:Nat),AV.ptr (1:Nat) (0:Nat)),((4:Nat),AV.ptr (2:Nat) (0:Nat)),((5:Nat),AV.ptr (3:Nat) (0:Nat)),((6:Nat),AV.fn (75:Nat) [AV.ptr (3:Nat) (0:Nat)]),((8:Nat),AV.s (SV.bool (sO (2:Int) (hP s))))]) [ad.own [AV.s (SV.str (oJ (2:Int) (hP s)))] (9:Nat),ad.own [AV.s (SV.bool false),AV.emp,AV.emp] (73:Nat),ad.own [AV.s (SV.bool l),AV.vec (4:Nat),AV.vec (5:Nat)] (73:Nat),ad.own [AV.fn (74:Nat) [AV.ptr (0:Nat) (0:Nat)]] (122:Nat),ad.vec (aF.ae [CK.str,CK.str] es) (34:Nat),ad.vec (aF.ae [CK.str,CK.int IntKind.i64] bs) (79:Nat)] (hr Tryd.f57 (22:Nat)) (nN.mk none false (0:Nat) [] (0:Nat)))))))) (Tree.at (bC.mk (sl (93:Nat) [((1:Nat),AV.ptr (0:Nat) (0:Nat)),((2:Nat),AV.ptr (1:Nat) (0:Nat)),((4:Nat),AV.ptr (2:Nat) (0:Nat)),((5:Nat),AV.ptr (3:Nat) (0:Nat)),((6:Nat),AV.fn (75:Nat) [AV.ptr (3:Nat) (0:Nat)]),((8:Nat),AV.s (SV.bool (wW s)))]) [ad.own [AV.s (SV.str (hP s))] (9:Nat),ad.own [AV.s (SV.bool false),AV.emp,AV.emp] (73:Nat),ad.own [AV.s (SV.bool l),AV.vec (4:Nat),AV.vec (5:Nat)] (73:Nat),ad.own [AV.fn (74:Nat) [AV.ptr (0:Nat) (0:Nat)]] (122:Nat),ad.vec (aF.ae [CK.str,CK.str] es) (34:Nat),ad.vec (aF.ae [CK.str,CK.int IntKind.i64] bs) (79:Nat)] (hr Tryd.f57 (22:Nat)) (nN.mk none false (0:Nat) [] (0:Nat))))))))
 (Tree.ite (!c8 l es bs) (Tree.ret [ad.own [AV.s (SV.str s)] (9:Nat),ad.own [AV.s (SV.aI false),AV.emp,AV.emp] (73:Nat),ad.own [AV.s (SV.bool l),AV.vec (4:Nat),AV.vec (5:Nat)] (73:Nat),ad.own [AV.fn (74:Nat) [AV.ptr (0:Nat) (0:Nat)]] (122:Nat),ad.vec (aF.ae [CK.str,CK.str] es) (34:Nat),ad.vec (aF.ae [CK.str,CK.int IntKind.i64] bs) (79:Nat)] (AV.bm [AV.agg [AV.s (SV.aI false),AV.emp,AV.emp],AV.s (SV.aZ IntKind.i64 (4:Int))])) (Tree.ret [ad.own [AV.s (SV.str s)] (9:Nat),ad.own [AV.s (SV.bool l),AV.vec (4:Nat),AV.vec (5:Nat)] (73:Nat),ad.own [AV.s (SV.bool l),AV.vec (4:Nat),AV.vec (5:Nat)] (73:Nat),ad.own [AV.fn (74:Nat) [AV.ptr (0:Nat) (0:Nat)]] (122:Nat),ad.vec (aF.ae [CK.str,CK.str] es) (34:Nat),ad.vec (aF.ae [CK.str,CK.int IntKind.i64] bs) (79:Nat)] (AV.bm [AV.agg [AV.s (SV.bool l),AV.vec (4:Nat),AV.vec (5:Nat)],AV.s (SV.aZ IntKind.i64 (0:Int))]))):=by kernel_rfl
theorem abz(s:ByteArray)(l:Bool)(es:List En)(bs:List Br)(is:Bool):run P vB.sum Tryd.f57 afc (ajj s l es bs is)=
 Tree.ite (!is) (.ret [.own [.s (.str s)] 9,.own [.s (.aI false),.emp,.emp] 73,.own [.s (.bool l),.vec 4,.vec 5] 73,.own [.fn 74 [.ptr 0 0]] 122,.vec (.ae [.str,.str] es) 34,.vec (.ae [.str,.int .i64] bs) 79] (.bm [.agg [.s (.aI false),.emp,.emp],.s (.aZ .i64 8)])) (.at (.mk (sl 93 [(1,.ptr 0 0),(2,.ptr 1 0),(4,.ptr 2 0),(5,.ptr 3 0),(6,.fn 75 [.ptr 3 0])]) [.own [.s (.str s)] 9,.own [.s (.bool false),.emp,.emp] 73,.own [.s (.bool l),.vec 4,.vec 5] 73,.own [.fn 74 [.ptr 0 0]] 122,.vec (.ae [.str,.str] es) 34,.vec (.ae [.str,.int .i64] bs) 79] (hd Tryd.f57 11) (.mk none false 0 [] 0))):=by kernel_rfl
def ajl(l:Bool)(es:List En)(bs:List Br)(l':Bool)(lr:List En)(oK:List Br):Bool:=(l==l')&&(asi es lr&&asj bs oK)
theorem du(s:ByteArray)(i j:Nat):(s.extract i j).size=min j s.size - i:=by simp
theorem gS(s:ByteArray)(i:Nat):0≤aW s i∧aW s i≤255:=by
 have:=(s.data.toList.getD i 0).toNat_lt
 unfold aW
 omega
theorem tB{k:Int}{s:ByteArray}:sO k s=true↔k≤(s.size:Int):=by simp[sO]
theorem vC{k:Int}{s:ByteArray}(h0:0≤k)(h:sO k s=true):((kc k s).size:Int)=k:=by
 have h:=tB.1 h
 rw[kc,if_neg (by omega),du]
 omega
theorem abA{k:Int}{s:ByteArray}(h0:0≤k)(h:sO k s=true):((oJ k s).size:Int)=s.size - k:=by
 have h:=tB.1 h
 rw[oJ,if_neg (by omega),du]
 omega
theorem adG(k:Int)(s:ByteArray):(oJ k s).size≤s.size:=by
 unfold oJ
 split
 ·exact Nat.le_refl _
 ·rw[du];omega
theorem afe{Z:bd}:jA P Z 74 vA:=by
 refine aO Tryd.func74 (by kernel_rfl) (fun x=>Nat.le_of_ble_eq_true (by kernel_rfl)) ?_
 rintro⟨(k:Int),(s:ByteArray)⟩ ⟨(h1:0≤k),_⟩ X hX hz
 refine eR hz hX (by simp) aH.Ok.nil Tryd.func74 (ajh k s) ⟨fun h=>⟨⟨[],[0],1,[]⟩,Nat.le_refl _, ?_⟩,fun h=> ?_⟩
 ·show Norm.run _ _=some ⟨[.bm [.s (.str (kc k s)),.s (.bool (sO k s))]],[.own [.s (.str (oJ k s))] 9],[],{}⟩
  rw[kc,oJ,sO,if_pos (of_decide_eq_true h),if_pos (of_decide_eq_true h),h]
  kernel_rfl
 ·have h2:=of_decide_eq_false h
  refine⟨by omega,h1,by omega,h1,by omega,by omega,⟨[],[0],1,[]⟩,Nat.le_refl _, ?_⟩
  show Norm.run _ _=some ⟨[.bm [.s (.str (kc k s)),.s (.bool (sO k s))]],[.own [.s (.str (oJ k s))] 9],[],{}⟩
  rw[kc,oJ,sO,if_neg h2,if_neg h2,h]
  kernel_rfl
theorem adH{Z:bd}:afb.Ok P Z:=aH.Ok.cons (afe.sum afa) aH.Ok.nil
theorem alS{Z:bd}:jA P Z 75 aby:=by
 refine aO Tryd.func75 (by kernel_rfl) (fun x=>Nat.le_of_ble_eq_true (by kernel_rfl)) ?_
 rintro(s:ByteArray) _ X hX hz
 refine eR hz hX (by simp) adH Tryd.func75 (aji s) ⟨rfl,rfl,by decide,fun h=>⟨⟨[],[0],2,[]⟩,Nat.le_refl _, ?_⟩,fun h=> ?_⟩
 ·have h:sO 1 s=false:=by simpa using h
  show Norm.run _ _=some ⟨[.bm [.s (.str (xZ s)),.s (.bool (wW s))]],[.own [.fn 74 [.ptr 1 0]] 122,.own [.s (.str (hP s))] 9],[],{}⟩
  rw[xZ,hP,wW,h]
  kernel_rfl
 ·have h:sO 1 s=true:=by simpa using h
  have h1:=vC (by omega) h
  have h2:=gS (kc 1 s) 0
  refine⟨by decide,by omega,⟨by show _≤aW (kc 1 s) 0;omega,by show aW (kc 1 s) 0≤_;omega⟩,rfl,rfl,h2.1,⟨[],[0],2,[]⟩,Nat.le_refl _, ?_⟩
  show Norm.run _ _=some ⟨[.bm [.s (.str (xZ s)),.s (.bool (wW s))]],[.own [.fn 74 [.ptr 1 0]] 122,.own [.s (.str (hP s))] 9],[],{}⟩
  rw[xZ,hP,wW,h]
  kernel_rfl
theorem jH{Z:bd}:vB.Ok P Z:=aH.Ok.cons (afe.sum afa) (aH.Ok.cons (alS.sum aof) (aH.Ok.cons adz.sum aH.Ok.nil))
theorem jY{s:ByteArray}(h:wW s=true):(hP s).size+1≤s.size:=by
 simp only[wW,Bool.and_eq_true]at h
 have h1:=abA (by omega) h.1
 have h2:=adG (rdK s) (oJ 1 s)
 rw[hP,if_pos h.1]
 omega
def ajm(t:ByteArray):Int:=bB BinOp.or IntKind.i64 (IntKind.i64.wrap (aW t (Int.toNat 0)*2^min (Int.toNat 8) IntKind.i64.bits)) (aW t (Int.toNat 1))
def iu(l:Bool):Nat→ByteArray→List En→List Br→Int×List En×List Br
 |0,_,es,bs=>if c8 l es bs=true then(0,es,bs)else(4,[],[])
 |n+1,s,es,bs=>
  if s=ByteArray.empty then(if c8 l es bs=true then(0,es,bs)else(4,[],[]))
  else if wW s=false then(8,[],[])
  else if l=true then(if wW (hP s)=true then iu l n (hP (hP s)) (es++[(xZ s,xZ (hP s),())]) bs else(8,[],[]))
  else(if sO 2 (hP s)=true then iu l n (oJ 2 (hP s)) es (bs++[(xZ s,ajm (kc 2 (hP s)),())])else(8,[],[]))
def oq(s:ByteArray):Int×List En×List Br:=
 if(s.size:Int)>254 then(40,[],[])else if s=ByteArray.empty then(8,[],[])else if aW s 0≠1∧aW s 0≠2 then(4,[],[])
 else iu (aW s 0==1) s.size (s.extract 1 s.size) [] []
def rM(s:ByteArray):Int:=(oq s).1
def nr(s:ByteArray):List En:=(oq s).2.1
def mA(s:ByteArray):List Br:=(oq s).2.2
def jr(s:ByteArray):Bool:=decide (rM s=0)&&(aW s 0==1)
end Lf
namespace Lf
open Go Go.Sx Go.Proofs
abbrev U(s:ByteArray):List UInt8:=s.data.toList
theorem mq(s:ByteArray):(U s).length=s.size:=Array.length_toList
theorem jI(s:ByteArray)(i j:Nat):U (s.extract i j)=((U s).drop i).take (j - i):=by
 rw[U,ByteArray.data_extract,Array.toList_extract,List.extract_eq_take_drop]
theorem zF:U ByteArray.empty=[]:=rfl
theorem aoh{s:ByteArray}(h:U s=[]):s=ByteArray.empty:=rH h
theorem zG{s:ByteArray}{a b:List UInt8}{k:Int}(h:U s=a++b)(hk:(a.length:Int)=k):sO k s=true∧U (kc k s)=a∧U (oJ k s)=b:=by
 have hl:=mq s
 rw[h,List.length_append]at hl
 refine⟨tB.2 (by omega), ?_, ?_⟩
 ·rw[kc,if_neg (by omega),jI,h,show k.toNat - 0=a.length from by omega];simp
 ·rw[oJ,if_neg (by omega),jI,h,show k.toNat=a.length from by omega,List.drop_left,List.take_of_length_le (by omega)]
theorem zH{s:ByteArray}{k:Int}(h0:0≤k)(h:sO k s=true):U s=U (kc k s)++U (oJ k s)∧((U (kc k s)).length:Int)=k:=by
 have hk:=tB.1 h
 have hl:=mq s
 refine⟨?_,by rw[mq];exact vC h0 h⟩
 rw[kc,oJ,if_neg (by omega),if_neg (by omega),jI,jI,List.drop_zero,Nat.sub_zero,List.take_of_length_le (l:=(U s).drop _) (by simp[hl]),List.take_append_drop]
def nt(s:ByteArray):List UInt8:=UInt8.ofNat s.size::U s
theorem iU{s:ByteArray}{a:UInt8}{r:List UInt8}(h:U s=a::r):aW s 0=(a.toNat:Int):=by
 simp[aW,show s.data.toList=a::r from h]
theorem zI{s:ByteArray}{a b:UInt8}{r:List UInt8}(h:U s=a::b::r):aW s 1=(b.toNat:Int):=by
 simp[aW,show s.data.toList=a::b::r from h]
theorem zJ{s k:ByteArray}{r:List UInt8}(h:U s=nt k++r)(hk:k.size≤255):wW s=true∧xZ s=k∧U (hP s)=r:=by
 obtain⟨h1,h2,h3⟩:=zG (s:=s) (a:=[UInt8.ofNat k.size]) (b:=U k++r) (k:=1) (by rw[h];rfl) rfl
 have e:rdK s=(k.size:Int):=by rw[rdK,iU h2];simp;omega
 obtain⟨g1,g2,g3⟩:=zG (s:=oJ 1 s) (k:=rdK s) h3 (by rw[mq,e])
 refine⟨by simp[wW,h1,g1], ?_, ?_⟩
 ·rw[xZ,if_pos h1];exact rH g2
 ·rw[hP,if_pos h1];exact g3
theorem aff{s:ByteArray}(h:wW s=true):U s=nt (xZ s)++U (hP s)∧(xZ s).size≤255:=by
 simp only[wW,Bool.and_eq_true]at h
 obtain⟨h1,h2⟩:=h
 obtain⟨g1,g2⟩:=zH (by decide) h1
 have hr:=gS (kc 1 s) 0
 obtain⟨g3,g4⟩:=zH (k:=rdK s) hr.1 h2
 have g2:(U (kc 1 s)).length=1:=by omega
 obtain⟨a,ha⟩:=List.length_eq_one_iff.1 g2
 have e:rdK s=(a.toNat:Int):=iU ha
 rw[xZ,hP,if_pos h1,if_pos h1]
 have hs:(kc (rdK s) (oJ 1 s)).size=a.toNat:=by rw[←mq];omega
 refine⟨?_,by rw[hs];have:=a.toNat_lt;omega⟩
 rw[g1,ha,g3,nt,hs]
 simp
def ib(x:En):List UInt8:=nt x.1++nt x.2.1
def ic(x:Br):List UInt8:=nt x.1++[UInt8.ofNat (x.2.1 / 256).toNat,UInt8.ofNat (x.2.1%256).toNat]
theorem vj{a b:Int}(ha:0≤a∧a≤255)(hb:0≤b∧b≤255):bB BinOp.or IntKind.i64 (IntKind.i64.wrap (a*2^min (Int.toNat 8) IntKind.i64.bits)) b=a*256+b:=by
 have e1:IntKind.i64.wrap (a*2^min (Int.toNat 8) IntKind.i64.bits)=a*256:=by
  rw[show(2:Int)^min (Int.toNat 8) IntKind.i64.bits=256 from by decide]
  exact b9 ⟨by omega,by omega⟩
 rw[e1]
 obtain⟨x,rfl⟩:=Int.eq_ofNat_of_zero_le ha.1
 obtain⟨y,rfl⟩:=Int.eq_ofNat_of_zero_le hb.1
 show IntKind.i64.wrap ((BitVec.ofInt 64 _ ||| BitVec.ofInt 64 _).toNat:Int)=_
 have e2:(BitVec.ofInt 64 ((x:Int)*256)).toNat=2^8*x:=by rw[BitVec.toNat_ofInt];omega
 have e3:(BitVec.ofInt 64 (y:Int)).toNat=y:=by rw[BitVec.toNat_ofInt];omega
 rw[BitVec.toNat_or,e2,e3,←Nat.two_pow_add_eq_or_of_lt (by omega),b9 ⟨by omega,by omega⟩]
 omega
theorem aoi{t:ByteArray}{a b:UInt8}(h:U t=[a,b]):ajm t=(a.toNat:Int)*256+b.toNat:=by
 have h1:=a.toNat_lt
 have h2:=b.toNat_lt
 have e0:=iU h
 have e1:=zI h
 rw[ajm,show aW t (Int.toNat 0)=_ from e0,show aW t (Int.toNat 1)=_ from e1]
 exact vj ⟨by omega,by omega⟩ ⟨by omega,by omega⟩
theorem abB{l:Bool}{n:Nat}{s:ByteArray}{es:List En}{bs:List Br}(h:U s=[]):iu l n s es bs=if c8 l es bs=true then(0,es,bs)else(4,[],[]):=by
 cases n with
 |zero=>rfl
 |succ n=>rw[iu,if_pos (aoh h)]
theorem abC:∀(n:Nat) (x6:List En) (s:ByteArray) (es:List En) (bs:List Br),s.size≤n→U s=x6.flatMap ib→(∀x∈x6,x.1.size≤255∧x.2.1.size≤255)→iu true n s es bs=if c8 true (es++x6) bs=true then(0,es++x6,bs)else(4,[],[])
 |n,[],s,es,bs,_,hu,_=>by rw[abB hu,List.append_nil]
 |0,x::x6,s,es,bs,hn,hu,_=>by
  have:=mq s
  rw[hu]at this
  simp[ib,nt]at this
  omega
 |n+1,x::x6,s,es,bs,hn,hu,hx=>by
  obtain⟨k,v,⟨⟩⟩:=x
  have hx0:=hx (k,v,()) (by simp)
  have h0:s≠ByteArray.empty:=fun e=>by subst e;simp[zF,ib,nt]at hu
  obtain⟨a1,a2,a3⟩:=zJ (s:=s) (k:=k) (r:=nt v++x6.flatMap ib) (by rw[hu];simp[ib]) hx0.1
  obtain⟨b1,b2,b3⟩:=zJ a3 hx0.2
  have c1:=jY a1
  have c2:=jY b1
  rw[iu,if_neg h0,if_neg (by simp[a1]),if_pos rfl,if_pos b1,a2,b2,abC n x6 _ _ bs (by omega) b3 (fun y hy=>hx y (by simp[hy]))]
  simp
theorem vD:∀(n:Nat) (x7:List Br) (s:ByteArray) (es:List En) (bs:List Br),s.size≤n→U s=x7.flatMap ic→(∀x∈x7,x.1.size≤255∧0≤x.2.1∧x.2.1<65536)→iu false n s es bs=if c8 false es (bs++x7)=true then(0,es,bs++x7)else(4,[],[])
 |n,[],s,es,bs,_,hu,_=>by rw[abB hu,List.append_nil]
 |0,x::x7,s,es,bs,hn,hu,_=>by
  have:=mq s
  rw[hu]at this
  simp[ic,nt]at this
  omega
 |n+1,x::x7,s,es,bs,hn,hu,hx=>by
  obtain⟨k,p,⟨⟩⟩:=x
  have hx0:=hx (k,p,()) (by simp)
  have h0:s≠ByteArray.empty:=fun e=>by subst e;simp[zF,ic,nt]at hu
  obtain⟨a1,a2,a3⟩:=zJ (s:=s) (k:=k) (r:=[UInt8.ofNat (p / 256).toNat,UInt8.ofNat (p%256).toNat]++x7.flatMap ic) (by rw[hu];simp[ic]) hx0.1
  obtain⟨b1,b2,b3⟩:=zG (k:=2) a3 rfl
  have c1:=jY a1
  have c2:=adG 2 (hP s)
  have e:ajm (kc 2 (hP s))=p:=by
   have hp:0≤p∧p<65536:=hx0.2
   rw[aoi b2]
   simp only[UInt8.toNat_ofNat']
   omega
  rw[iu,if_neg h0,if_neg (by simp[a1]),if_neg (by simp),if_pos b1,a2,e,vD n x7 _ es _ (by omega) b3 (fun y hy=>hx y (by simp[hy]))]
  simp
theorem ap2{α:Type}:∀{l:List α},l.length=2→∃a b,l=[a,b]
 |[a,b],_=>⟨a,b,rfl⟩
theorem asm:∀(n:Nat) (l:Bool) (s:ByteArray) (es:List En) (bs:List Br) {lr:List En} {oK:List Br},s.size≤n→iu l n s es bs=(0,lr,oK)→
 ∃x6 x7,lr=es++x6∧oK=bs++x7∧c8 l lr oK=true∧U s=x6.flatMap ib++x7.flatMap ic∧(l=true→x7=[])∧(l=false→x6=[]):=by
 intro n
 have fin:∀(l:Bool) (s:ByteArray) (es:List En) (bs:List Br) {lr:List En} {oK:List Br},s=ByteArray.empty→(if c8 l es bs=true then((0:Int),es,bs)else(4,[],[]))=(0,lr,oK)→
  ∃x6 x7,lr=es++x6∧oK=bs++x7∧c8 l lr oK=true∧U s=x6.flatMap ib++x7.flatMap ic∧(l=true→x7=[])∧(l=false→x6=[]):=by
  intro l s es bs lr oK hs h
  split at h
  ·rename_i hm
   simp only[Prod.mk.injEq,true_and]at h
   obtain⟨rfl,rfl⟩:=h
   exact⟨[],[],by simp,by simp,hm,by subst hs;rfl,fun _=>rfl,fun _=>rfl⟩
  ·simp at h
 induction n with
 |zero=>
  intro l s es bs lr oK hn h
  exact fin l s es bs (lH (Nat.le_zero.1 hn)) h
 |succ n ih=>
  intro l s es bs lr oK hn h
  by_cases h0:s=ByteArray.empty
  ·rw[iu,if_pos h0]at h
   exact fin l s es bs h0 h
  ·rw[iu,if_neg h0]at h
   split at h
   ·simp at h
   ·rename_i hB
    have hB:wW s=true:=by simpa using hB
    obtain⟨a1,a2⟩:=aff hB
    have c1:=jY hB
    split at h
    ·rename_i hl
     subst hl
     split at h
     ·rename_i hB2
      obtain⟨b1,b2⟩:=aff hB2
      have c2:=jY hB2
      obtain⟨x6,x7,rfl,rfl,d3,d4,d5,d6⟩:=ih true _ _ _ (by omega) h
      have d5:=d5 rfl
      subst d5
      refine⟨(xZ s,xZ (hP s),())::x6,[],by simp,by simp,d3, ?_,fun _=>rfl,fun h=>(by cases h)⟩
      rw[a1,b1,d4]
      simp[ib]
     ·simp at h
    ·rename_i hl
     have hl:l=false:=by simpa using hl
     subst hl
     split at h
     ·rename_i hB2
      obtain⟨b1,b2⟩:=zH (by decide) hB2
      have c2:=adG 2 (hP s)
      obtain⟨x6,x7,rfl,rfl,d3,d4,d5,d6⟩:=ih false _ _ _ (by omega) h
      have d6:=d6 rfl
      subst d6
      refine⟨[],(xZ s,ajm (kc 2 (hP s)),())::x7,by simp,by simp,d3, ?_,fun h=>(by cases h),fun _=>rfl⟩
      have b2:(U (kc 2 (hP s))).length=2:=by omega
      obtain⟨a,b,hab⟩:=ap2 b2
      have e:=aoi hab
      have h1:=a.toNat_lt
      have h2:=b.toNat_lt
      rw[a1,b1,d4,hab]
      simp only[List.flatMap_nil,List.nil_append,List.flatMap_cons,ic,e,List.append_assoc]
      rw[show(((a.toNat:Int)*256+b.toNat) / 256).toNat=a.toNat from by omega,show(((a.toNat:Int)*256+b.toNat)%256).toNat=b.toNat from by omega]
      simp
     ·simp at h
theorem adI{es:List En}(h:jB es=true){x:En}(hx:x∈es):x.1.size≤24∧x.2.1.size≤100:=by
 obtain⟨i,hi,rfl⟩:=List.getElem_of_mem hx
 have:=cQ.1 h i hi
 simp only[okE,Bool.not_eq_true',Bool.or_eq_false_iff,decide_eq_false_iff_not,bk hi]at this
 omega
theorem abD{bs:List Br}(h:gh bs=true){x:Br}(hx:x∈bs):x.1.size≤24∧2≤x.2.1∧x.2.1<1024:=by
 obtain⟨i,hi,rfl⟩:=List.getElem_of_mem hx
 have:=cQ.1 h i hi
 simp only[okB,Bool.not_eq_true',Bool.or_eq_false_iff,decide_eq_false_iff_not,bk hi]at this
 omega
abbrev enB(zs:List Int):List UInt8:=zs.map fun n=>UInt8.ofNat n.toNat
theorem alT(zs:List Int):U (aM zs)=enB zs:=rfl
theorem u8_in{n:Int}(h0:0≤n)(h1:n≤255):IntKind.u8.wrap n=n:=by
 simp only[IntKind.wrap,IntKind.bits,IntKind.signed,Bool.false_and]
 simp
 omega
theorem zK{s:ByteArray}(h:s.size≤255):enB (xX s)=nt s:=by
 simp only[enB,xX,List.map_cons,nt,u8_in (n:=(s.size:Int)) (by omega) (by omega),Int.toNat_natCast,List.cons.injEq,true_and,zE,List.map_map]
 exact(List.map_congr_left (fun a _=>by simp)).trans (List.map_id _)
theorem asn{x:En}(h:x.1.size≤24∧x.2.1.size≤100):enB (np x)=ib x:=by
 simp only[np,ib,List.map_append]
 rw[show(xX x.1).map _=_ from zK (by omega),show(xX x.2.1).map _=_ from zK (by omega)]
theorem aso{x:Br}(h:x.1.size≤24∧2≤x.2.1∧x.2.1<1024):enB (ta x)=ic x:=by
 obtain⟨k,p,⟨⟩⟩:=x
 have hp:2≤p∧p<1024:=h.2
 simp only[ta,ic,List.map_append,List.map_cons,List.map_nil]
 rw[show(xX k).map _=_ from zK (by have:k.size≤24:=h.1;omega),show(2:Int)^min (Int.toNat 8) IntKind.i64.bits=256 from by decide,Int.fdiv_eq_ediv_of_nonneg _ (by omega),u8_in (by omega) (by omega)]
 have e:IntKind.u8.wrap p=p%256:=by
  simp only[IntKind.wrap,IntKind.bits,IntKind.signed,Bool.false_and]
  simp
 rw[e]
theorem vE{α:Type}{f:α→List Int}{g:α→List UInt8}:∀{l:List α},(∀x∈l,enB (f x)=g x)→enB (l.flatMap f)=l.flatMap g
 |[],_=>rfl
 |x::l,h=>by
  simp only[List.flatMap_cons,List.map_append]
  rw[show(f x).map _=_ from h x (by simp),show(l.flatMap f).map _=_ from vE (fun y hy=>h y (by simp[hy]))]
theorem aoj{l:Bool}{es:List En}{bs:List Br}(h1:jB es=true)(h2:gh bs=true):U (aM (nq l es bs))=(if l=true then 1 else 2)::(es.flatMap ib++bs.flatMap ic):=by
 rw[alT,nq]
 simp only[List.map_append]
 rw[show(es.flatMap np).map _=_ from vE fun x hx=>asn (adI h1 hx),show(bs.flatMap ta).map _=_ from vE fun x hx=>aso (abD h2 hx)]
 cases l<;>rfl
theorem asp:∀(es:List En),((es.flatMap ib).length:Int)=(es.map pM).sum
 |[]=>rfl
 |x::es=>by
  simp only[List.flatMap_cons,List.length_append,List.map_cons,List.sum_cons,←asp es,pM,ib,nt,List.length_cons,mq]
  omega
theorem asq:∀(bs:List Br),((bs.flatMap ic).length:Int)=(bs.map pv).sum
 |[]=>rfl
 |x::bs=>by
  simp only[List.flatMap_cons,List.length_append,List.map_cons,List.sum_cons,←asq bs,pv,ic,nt,List.length_cons,List.length_nil,mq]
  omega
theorem abE{s:ByteArray}{a:UInt8}{es:List En}{bs:List Br}(h:U s=a::(es.flatMap ib++bs.flatMap ic)):(s.size:Int)=bh es bs:=by
 have:=mq s
 rw[h]at this
 simp only[List.length_cons,List.length_append]at this
 rw[bh,←asp,←asq]
 omega
theorem lL{l:Bool}{es:List En}{bs:List Br}:gT l es bs=0↔c8 l es bs=true∧bh es bs≤254:=by
 unfold gT
 split
 ·split<;>simp_all
 ·simp_all
theorem afg{l:Bool}{es:List En}{bs:List Br}(h:gT l es bs=0):c9 l es bs=aM (nq l es bs):=by
 obtain⟨h1,h2⟩:=lL.1 h
 rw[c9,if_pos (by simp[abw,h1,h2])]
theorem alU{l:Bool}{es:List En}{bs:List Br}(h:gT l es bs=0):rM (c9 l es bs)=0∧jr (c9 l es bs)=l∧nr (c9 l es bs)=es∧mA (c9 l es bs)=bs∧((c9 l es bs).size:Int)=bh es bs:=by
 obtain⟨h1,h2⟩:=lL.1 h
 obtain⟨m1,m2,m3,m4⟩:=dK h1
 rw[afg h]
 have hu:=aoj (l:=l) m3 m4
 have hs:=abE hu
 have h0:aM (nq l es bs)≠ByteArray.empty:=fun e=>by rw[e,zF]at hu;cases hu
 have hb:aW (aM (nq l es bs)) 0=if l=true then 1 else 2:=by rw[iU hu];cases l<;>rfl
 have he:U ((aM (nq l es bs)).extract 1 (aM (nq l es bs)).size)=es.flatMap ib++bs.flatMap ic:=by
  have:=mq (aM (nq l es bs))
  rw[hu]at this
  rw[jI,hu]
  simp only[List.length_cons]at this
  exact List.take_of_length_le (by simp;simp at this;omega)
 have hd:oq (aM (nq l es bs))=(0,es,bs):=by
  rw[oq,if_neg (by omega),if_neg h0,if_neg (by rw[hb];cases l<;>simp),hb]
  cases l
  ·obtain rfl:=m2 rfl
   have:=vD (aM (nq false [] bs)).size bs _ [] [] (by rw[du];omega) he (fun x hx=>by have:=abD m4 hx;omega)
   simp only[List.nil_append,h1,if_true]at this
   exact this
  ·obtain rfl:=m1 rfl
   have:=abC (aM (nq true es [])).size es ((aM (nq true es [])).extract 1 (aM (nq true es [])).size) [] [] (by rw[du];omega) (by rw[he];simp) (fun x hx=>by have:=adI m3 hx;omega)
   simp only[List.nil_append,h1,if_true]at this
   exact this
 refine⟨by rw[rM,hd], ?_,by rw[nr,hd],by rw[mA,hd],hs⟩
 rw[jr,rM,hd,hb]
 cases l<;>rfl
theorem asr:∀(es:List En),es.length≤(es.flatMap ib).length
 |[]=>Nat.le_refl _
 |x::l=>by have:=asr l;simp only[List.flatMap_cons,List.length_cons,List.length_append,ib,nt];omega
theorem ass:∀(es:List Br),es.length≤(es.flatMap ic).length
 |[]=>Nat.le_refl _
 |x::l=>by have:=ass l;simp only[List.flatMap_cons,List.length_cons,List.length_append,ic,nt];omega
theorem alV{s:ByteArray}(h:rM s=0):a8 (nr s)∧ba (mA s)∧gT (jr s) (nr s) (mA s)=0∧c9 (jr s) (nr s) (mA s)=s∧c8 (jr s) (nr s) (mA s)=true:=by
 have h':=h
 rw[rM]at h
 have hl:jr s=(aW s 0==1):=by simp[jr,h']
 rw[hl]
 unfold nr mA
 unfold oq at h ⊢
 split at h
 ·exact absurd h (by decide)
 rename_i g1
 rw[if_neg g1]
 split at h
 ·exact absurd h (by decide)
 rename_i g2
 rw[if_neg g2]
 split at h
 ·exact absurd h (by decide)
 rename_i g3
 rw[if_neg g3]
 obtain⟨lr,oK,e⟩:∃lr oK,iu (aW s 0==1) s.size (s.extract 1 s.size) [] []=(0,lr,oK):=⟨_,_,Prod.ext h rfl⟩
 rw[e]
 simp only
 obtain⟨x6,x7,k1,k2,k3,k4,k5,k6⟩:=asm _ _ _ _ _ (by rw[du];omega) e
 simp only[List.nil_append]at k1 k2
 subst k1 k2
 obtain⟨m1,m2,m3,m4⟩:=dK k3
 have hlen:=mq s
 cases hu:U s with
 |nil=>exact absurd (aoh hu) g2
 |cons a r=>
  have hb:=iU hu
  have ha:=a.toNat_lt
  have hr:r=lr.flatMap ib++oK.flatMap ic:=by
   rw[←k4,jI,hu]
   rw[hu]at hlen
   simp only[List.length_cons]at hlen
   rw[show List.drop 1 (a::r)=r from rfl,List.take_of_length_le (by omega)]
  rw[hr]at hu
  have hs:=abE hu
  have hn:gT (aW s 0==1) lr oK=0:=lL.2 ⟨k3,by omega⟩
  have avA:=asr lr
  have avB:=ass oK
  rw[hu]at hlen
  simp only[List.length_cons,List.length_append]at hlen
  refine⟨⟨by omega,fun x hx=>by have:=adI m3 hx;omega⟩,⟨by omega,fun x hx=>by have:=abD m4 hx;omega⟩,hn, ?_,k3⟩
  rw[afg hn]
  apply rH
  show U _=U _
  rw[aoj m3 m4,hu]
  congr 1
  by_cases hc:aW s 0=1
  ·rw[if_pos (by simp[hc])]
   exact UInt8.toNat_inj.1 (by show 1=_;omega)
  ·rw[if_neg (by simp[hc])]
   have:aW s 0=2:=by
    rcases Decidable.em (aW s 0=2)with h|h
    ·exact h
    ·exact absurd ⟨hc,h⟩ g3
   exact UInt8.toNat_inj.1 (by show 2=_;omega)
end Lf
namespace Lf
open Go Go.Sx Go.Proofs
theorem alW(a:List En):run P kq.sum Tryd.f68 [] (start Tryd.f68 [.s (.ro (.ae cE a))] [])=
 Tree.both (a.length=0) True (.ret [] .emp) (.need (((0:Nat)+a.length)*(32:Nat)≤140737488355328) (.ret [.dead,.vec (.ae [.str,.str] ([]++a)) 34] (.vec 1))):=by kernel_rfl
theorem alX(a:List Br):run P kq.sum Tryd.f106 [] (start Tryd.f106 [.s (.ro (.ae cB a))] [])=
 Tree.both (a.length=0) True (.ret [] .emp) (.need (((0:Nat)+a.length)*(24:Nat)≤140737488355328) (.ret [.dead,.vec (.ae [.str,.int .i64] ([]++a)) 79] (.vec 1))):=by kernel_rfl
abbrev ap3:=bY [qx] [qx] (fun(l,())=>[(l:List En).length≤100000]) (fun(l,())=>(l,()))
abbrev auG:=bY [wU] [wU] (fun(l,())=>[(l:List Br).length≤100000]) (fun(l,())=>(l,()))
def adJ:aH:=[(68,ap3),(106,auG)]
theorem ajn(a:List En)(k:Int):run P adJ.sum Tryd.f100 [] (start Tryd.f100 [.s (.ro (.ae cE a)),.s (.int .i64 k)] [])=
 Tree.ite ((↑a.length:Int)==0) (.ret [] (.bm [.emp,.emp])) (.need ((0:Int)≤0) (.need ((0:Int)≤k) (.need (k≤(↑a.length:Int)) (.need ((List.drop (Int.toNat 0) (List.take k.toNat a)).length≤100000) (.need ((0:Int)≤k) (.need (k≤(↑a.length:Int)) (.need ((↑a.length:Int)≤(↑a.length:Int)) (.need ((List.drop k.toNat (List.take (↑a.length:Int).toNat a)).length≤100000) (.ret [.vec (.ae [.str,.str] (List.drop (Int.toNat 0) (List.take k.toNat a))) 34,.vec (.ae [.str,.str] (List.drop k.toNat (List.take (↑a.length:Int).toNat a))) 34] (.bm [.vec 0,.vec 1])))))))))):=by kernel_rfl
theorem ajo(a:List Br)(k:Int):run P adJ.sum Tryd.f101 [] (start Tryd.f101 [.s (.ro (.ae cB a)),.s (.int .i64 k)] [])=
 Tree.ite ((↑a.length:Int)==0) (.ret [] (.bm [.emp,.emp])) (.need ((0:Int)≤0) (.need ((0:Int)≤k) (.need (k≤(↑a.length:Int)) (.need ((List.drop (Int.toNat 0) (List.take k.toNat a)).length≤100000) (.need ((0:Int)≤k) (.need (k≤(↑a.length:Int)) (.need ((↑a.length:Int)≤(↑a.length:Int)) (.need ((List.drop k.toNat (List.take (↑a.length:Int).toNat a)).length≤100000) (.ret [.vec (.ae [.str,.int .i64] (List.drop (Int.toNat 0) (List.take k.toNat a))) 79,.vec (.ae [.str,.int .i64] (List.drop k.toNat (List.take (↑a.length:Int).toNat a))) 79] (.bm [.vec 0,.vec 1])))))))))):=by kernel_rfl
abbrev ast:=bY [qx,bq] [qx,qx] (fun(l,k,())=>[(l:List En).length≤100000,0≤(k:Int),(l=[]∨k≤(l.length:Int))]) (fun(l,k,())=>(List.take (Int.toNat k) l,List.drop (Int.toNat k) l,()))
abbrev asu:=bY [wU,bq] [wU,wU] (fun(l,k,())=>[(l:List Br).length≤100000,0≤(k:Int),(l=[]∨k≤(l.length:Int))]) (fun(l,k,())=>(List.take (Int.toNat k) l,List.drop (Int.toNat k) l,()))
def adK:aH:=[(99,ai9),(76,ap0),(93,an9),(100,ast),(101,asu)]
def aok:List (Nat×Norm):=[(7,⟨[],[1,2,3,6,7,8,9,34,35,36],0,[]⟩)]
theorem alY(l:Bool)(es:List En)(bs:List Br):run P adK.sum Tryd.f84 aok (start Tryd.f84 [avN l es bs] [])=
 Tree.need (a8 es) (.need (ba bs) (.ite (!c8 l es bs) (.ret [.own [.s (.bool l),.s (.ro (.ae [.str,.str] es)),.s (.ro (.ae [.str,.int .i64] bs))] 73,.own [.s (.aI false),.emp,.emp] 73,.own [.s (.aI false),.emp,.emp] 73,.vec (.ints .i64 (aE es bs)) 3] (.bm [.agg [.s (.aI false),.emp,.emp],.agg [.s (.aI false),.emp,.emp],.s (.aZ .i64 4)])) (.ite (decide ((↑(aE es bs).length:Int)<2)) (.ret [.own [.s (.bool l),.s (.ro (.ae [.str,.str] es)),.s (.ro (.ae [.str,.int .i64] bs))] 73,.own [.s (.aI false),.emp,.emp] 73,.own [.s (.aI false),.emp,.emp] 73,.vec (.ints .i64 (aE es bs)) 3] (.bm [.agg [.s (.aI false),.emp,.emp],.agg [.s (.aI false),.emp,.emp],.s (.aZ .i64 4)])) (.need (a8 es) (.need (ba bs) (.need (aD (bh es bs - (1:Int))) (.need (aD ((↑(aE es bs).length:Int) - (1:Int))) (.need ((0:Int)≤0) (.need ((0:Int)≤(↑(aE es bs).length:Int) - (1:Int)) (.need ((↑(0:Nat):Int)+((↑(aE es bs).length:Int) - (1:Int))≤(↑(aE es bs).length:Int)) (.at (.mk (sl 87 [(1,.ptr 0 0),(2,.ptr 1 0),(3,.ptr 2 0),(6,.s (.int .i64 0)),(7,.s (.int .i64 (bh es bs - (1:Int)))),(8,.s (.int .i64 0)),(9,.s (.int .i64 0)),(34,.part 3 0 (((↑(aE es bs).length:Int) - (1:Int)).toNat - Int.toNat 0)),(35,.s (.int .i64 (↑(((↑(aE es bs).length:Int) - (1:Int)).toNat - Int.toNat 0):Int))),(36,.s (.int .i64 0))]) [.own [.s (.bool l),.s (.ro (.ae [.str,.str] es)),.s (.ro (.ae [.str,.int .i64] bs))] 73,.own [.s (.bool false),.emp,.emp] 73,.own [.s (.bool false),.emp,.emp] 73,.vec (.ints .i64 (aE es bs)) 3] (hd Tryd.f84 7) (.mk none false 0 [] 0))))))))))))):=by kernel_rfl
def alZ(l:Bool)(es:List En):List En:=if l=true then es else []
def al0(l:Bool)(bs:List Br):List Br:=if l=true then []else bs
noncomputable def asv(l:Bool)(es:List En)(bs:List Br)(zs:List Int)(n:Nat)(first rest rN least i:Int):bC:=⟨sl 87 [(1,.ptr 0 0),(2,.ptr 1 0),(3,.ptr 2 0),(6,.s (.int .i64 first)),(7,.s (.int .i64 rest)),(8,.s (.int .i64 rN)),(9,.s (.int .i64 least)),(34,.part 3 0 n),(35,.s (.int .i64 (n:Int))),(36,.s (.int .i64 i))],
 [obN l es bs 73,obZ,obZ,.vec (.ints .i64 zs) 3],hd Tryd.f84 7,{}⟩
theorem afh(l:Bool)(es:List En)(bs:List Br)(zs:List Int)(n:Nat)(first rest rN least i:Int):run P adK.sum Tryd.f84 aok (asv l es bs zs n first rest rN least i)=
 Tree.ite (decide (i<(↑n:Int))) (.need ((0:Int)≤i) (.need (i<(↑n:Int)) (.need (aD (first+zs.getD ((0:Nat)+i.toNat) 0)) (.need (aD (rest - zs.getD ((0:Nat)+i.toNat) 0)) (.ite (rN==0) (.need (aD (i+1)) (.need (aD (i+1)) (.at (.mk (sl 87 [(1,.ptr 0 0),(2,.ptr 1 0),(3,.ptr 2 0),(6,.s (.int .i64 (first+zs.getD ((0:Nat)+i.toNat) 0))),(7,.s (.int .i64 (rest - zs.getD ((0:Nat)+i.toNat) 0))),(8,.s (.int .i64 (i+1))),(9,.s (.int .i64 (imax (first+zs.getD ((0:Nat)+i.toNat) 0) (rest - zs.getD ((0:Nat)+i.toNat) 0)))),(34,.part 3 0 n),(35,.s (.int .i64 (↑n:Int))),(36,.s (.int .i64 (i+1)))]) [.own [.s (.bool l),.s (.ro (.ae [.str,.str] es)),.s (.ro (.ae [.str,.int .i64] bs))] 73,.own [.s (.bool false),.emp,.emp] 73,.own [.s (.bool false),.emp,.emp] 73,.vec (.ints .i64 zs) 3] (hd Tryd.f84 7) (.mk none false 0 [] 0))))) (.ite (decide (imax (first+zs.getD ((0:Nat)+i.toNat) 0) (rest - zs.getD ((0:Nat)+i.toNat) 0)<least)) (.need (aD (i+1)) (.need (aD (i+1)) (.at (.mk (sl 87 [(1,.ptr 0 0),(2,.ptr 1 0),(3,.ptr 2 0),(6,.s (.int .i64 (first+zs.getD ((0:Nat)+i.toNat) 0))),(7,.s (.int .i64 (rest - zs.getD ((0:Nat)+i.toNat) 0))),(8,.s (.int .i64 (i+1))),(9,.s (.int .i64 (imax (first+zs.getD ((0:Nat)+i.toNat) 0) (rest - zs.getD ((0:Nat)+i.toNat) 0)))),(34,.part 3 0 n),(35,.s (.int .i64 (↑n:Int))),(36,.s (.int .i64 (i+1)))]) [.own [.s (.bool l),.s (.ro (.ae [.str,.str] es)),.s (.ro (.ae [.str,.int .i64] bs))] 73,.own [.s (.bool false),.emp,.emp] 73,.own [.s (.bool false),.emp,.emp] 73,.vec (.ints .i64 zs) 3] (hd Tryd.f84 7) (.mk none false 0 [] 0))))) (.need (aD (i+1)) (.at (.mk (sl 87 [(1,.ptr 0 0),(2,.ptr 1 0),(3,.ptr 2 0),(6,.s (.int .i64 (first+zs.getD ((0:Nat)+i.toNat) 0))),(7,.s (.int .i64 (rest - zs.getD ((0:Nat)+i.toNat) 0))),(8,.s (.int .i64 rN)),(9,.s (.int .i64 least)),(34,.part 3 0 n),(35,.s (.int .i64 (↑n:Int))),(36,.s (.int .i64 (i+1)))]) [.own [.s (.bool l),.s (.ro (.ae [.str,.str] es)),.s (.ro (.ae [.str,.int .i64] bs))] 73,.own [.s (.bool false),.emp,.emp] 73,.own [.s (.bool false),.emp,.emp] 73,.vec (.ints .i64 zs) 3] (hd Tryd.f84 7) (.mk none false 0 [] 0))))))))))
 (.need (es.length≤100000) (.need ((0:bq.V)≤rN) (.need (es=[]∨rN≤(↑es.length:Int)) (.need (bs.length≤100000) (.need ((0:bq.V)≤rN) (.need (bs=[]∨rN≤(↑bs.length:Int)) (.ret [.own [.s (.bool l),.s (.ro (.ae [.str,.str] es)),.s (.ro (.ae [.str,.int .i64] bs))] 73,.own [.s (.bool l),.vec 6,.vec 8] 73,.own [.s (.bool l),.vec 7,.vec 9] 73,.vec (.ints .i64 zs) 3,.own [.s (.bool l),.vec 6,.vec 8] 73,.own [.s (.bool l),.vec 7,.vec 9] 73,.vec (.ae [.str,.str] (List.take rN.toNat es)) 34,.vec (.ae [.str,.str] (List.drop rN.toNat es)) 34,.vec (.ae [.str,.int .i64] (List.take rN.toNat bs)) 79,.vec (.ae [.str,.int .i64] (List.drop rN.toNat bs)) 79] (.bm [.agg [.s (.bool l),.vec 6,.vec 8],.agg [.s (.bool l),.vec 7,.vec 9],.s (.aZ .i64 0)])))))))):=by kernel_rfl
theorem adL{Z:bd}:dt P Z 68 [qx] [qx] (fun(l,())=>[(l:List En).length≤100000]) (fun(l,())=>(l,())):=by
 refine au Tryd.func68 (by kernel_rfl) (by kernel_rfl) ?_
 rintro⟨(l:List En),⟨⟩⟩ _ ⟨(hl:l.length≤100000),_⟩ X hX hz
 refine go hz hX aH.Ok.nil Tryd.func68 (alW l) ⟨fun h=> ?_,fun _=>⟨by omega, ?_⟩⟩
 ·obtain rfl:=List.eq_nil_of_length_eq_zero h
  exact aT ([],()) rfl (by kernel_rfl)
 ·exact aT (l,()) rfl (by kernel_rfl)
theorem ap4{Z:bd}:dt P Z 106 [wU] [wU] (fun(l,())=>[(l:List Br).length≤100000]) (fun(l,())=>(l,())):=by
 refine au Tryd.func106 (by kernel_rfl) (by kernel_rfl) ?_
 rintro⟨(l:List Br),⟨⟩⟩ _ ⟨(hl:l.length≤100000),_⟩ X hX hz
 refine go hz hX aH.Ok.nil Tryd.func106 (alX l) ⟨fun h=> ?_,fun _=>⟨by omega, ?_⟩⟩
 ·obtain rfl:=List.eq_nil_of_length_eq_zero h
  exact aT ([],()) rfl (by kernel_rfl)
 ·exact aT (l,()) rfl (by kernel_rfl)
theorem x8{Z:bd}:adJ.Ok P Z:=aH.Ok.cons adL.sum (aH.Ok.cons ap4.sum aH.Ok.nil)
theorem al1{Z:bd}:dt P Z 100 [qx,bq] [qx,qx] (fun(l,k,())=>[(l:List En).length≤100000,0≤(k:Int),(l=[]∨k≤(l.length:Int))]) (fun(l,k,())=>(List.take (Int.toNat k) l,List.drop (Int.toNat k) l,())):=by
 refine au Tryd.func100 (by kernel_rfl) (by kernel_rfl) ?_
 rintro⟨(l:List En),(k:Int),⟨⟩⟩ _ ⟨(hl:l.length≤100000),(h0:0≤k),(hk:l=[]∨k≤(l.length:Int)),_⟩ X hX hz
 show Safe P 100 X (Ends [qx,qx] (l.take k.toNat,l.drop k.toNat,())) _
 refine go hz hX x8 Tryd.func100 (ajn l k) ⟨fun h=> ?_,fun h=> ?_⟩
 ·obtain rfl:l=[]:=List.eq_nil_of_length_eq_zero (by have:(l.length:Int)=0:=by simpa using h
                                                     omega)
  refine aT (rs:=[qx,qx]) ([],[],()) ?_ (by kernel_rfl)
  show(List.take k.toNat ([]:List En),List.drop k.toNat ([]:List En),())=([],[],())
  rw[List.take_nil,List.drop_nil]
 ·have hk:k≤(l.length:Int):=hk.elim (fun e=>by subst e;simp at h) id
  have e1:List.drop (Int.toNat 0) (List.take k.toNat l)=l.take k.toNat:=rfl
  have e2:List.drop k.toNat (List.take ((l.length:Int)).toNat l)=l.drop k.toNat:=by rw[List.take_of_length_le (by omega)]
  refine⟨by omega,h0,hk, ?_,h0,hk,by omega, ?_, ?_⟩
  ·rw[e1,List.length_take];omega
  ·rw[e2,List.length_drop];omega
  ·exact aT (List.drop (Int.toNat 0) (List.take k.toNat l),List.drop k.toNat (List.take ((l.length:Int)).toNat l),()) (by rw[e2];rfl) (by kernel_rfl)
theorem al2{Z:bd}:dt P Z 101 [wU,bq] [wU,wU] (fun(l,k,())=>[(l:List Br).length≤100000,0≤(k:Int),(l=[]∨k≤(l.length:Int))]) (fun(l,k,())=>(List.take (Int.toNat k) l,List.drop (Int.toNat k) l,())):=by
 refine au Tryd.func101 (by kernel_rfl) (by kernel_rfl) ?_
 rintro⟨(l:List Br),(k:Int),⟨⟩⟩ _ ⟨(hl:l.length≤100000),(h0:0≤k),(hk:l=[]∨k≤(l.length:Int)),_⟩ X hX hz
 show Safe P 101 X (Ends [wU,wU] (l.take k.toNat,l.drop k.toNat,())) _
 refine go hz hX x8 Tryd.func101 (ajo l k) ⟨fun h=> ?_,fun h=> ?_⟩
 ·obtain rfl:l=[]:=List.eq_nil_of_length_eq_zero (by have:(l.length:Int)=0:=by simpa using h
                                                     omega)
  refine aT (rs:=[wU,wU]) ([],[],()) ?_ (by kernel_rfl)
  show(List.take k.toNat ([]:List Br),List.drop k.toNat ([]:List Br),())=([],[],())
  rw[List.take_nil,List.drop_nil]
 ·have hk:k≤(l.length:Int):=hk.elim (fun e=>by subst e;simp at h) id
  have e1:List.drop (Int.toNat 0) (List.take k.toNat l)=l.take k.toNat:=rfl
  have e2:List.drop k.toNat (List.take ((l.length:Int)).toNat l)=l.drop k.toNat:=by rw[List.take_of_length_le (by omega)]
  refine⟨by omega,h0,hk, ?_,h0,hk,by omega, ?_, ?_⟩
  ·rw[e1,List.length_take];omega
  ·rw[e2,List.length_drop];omega
  ·exact aT (List.drop (Int.toNat 0) (List.take k.toNat l),List.drop k.toNat (List.take ((l.length:Int)).toNat l),()) (by rw[e2];rfl) (by kernel_rfl)
def js(zs:List Int)(k:Nat):Int:=imax (zs.take k).sum (zs.sum - (zs.take k).sum)
def gU(zs:List Int):Nat→Nat×Int
 |0=>(0,0)
 |k+1=>if(gU zs k).1=0∨js zs (k+1)<(gU zs k).2 then(k+1,js zs (k+1))else gU zs k
theorem n6(zs:List Int):∀k,(gU zs k).1≤k
 |0=>Nat.le_refl _
 |k+1=>by
  have:=n6 zs k
  rw[gU]
  split
  ·exact Nat.le_refl _
  ·omega
theorem nu(zs:List Int):∀k,0<k→0<(gU zs k).1
 |0,h=>absurd h (by omega)
 |k+1,_=>by
  rw[gU]
  split
  ·exact Nat.succ_pos _
  ·rename_i h
   exact Nat.pos_of_ne_zero (fun e=>h (.inl e))
def dO(es:List En)(bs:List Br):Nat:=(gU (aE es bs) (es.length+bs.length - 1)).1
def dv(l:Bool)(es:List En)(bs:List Br):Bool:=c8 l es bs&&decide (2≤es.length+bs.length)
def bO(l:Bool)(es:List En)(bs:List Br):Bool:=dv l es bs&&l
def aY(l:Bool)(es:List En)(bs:List Br):List En:=if dv l es bs=true then es.take (dO es bs)else []
def cN(l:Bool)(es:List En)(bs:List Br):List En:=if dv l es bs=true then es.drop (dO es bs)else []
def bc(l:Bool)(es:List En)(bs:List Br):List Br:=if dv l es bs=true then bs.take (dO es bs)else []
def cW(l:Bool)(es:List En)(bs:List Br):List Br:=if dv l es bs=true then bs.drop (dO es bs)else []
def spC(l:Bool)(es:List En)(bs:List Br):Int:=if dv l es bs=true then 0 else 4
abbrev spY(l:Bool)(es:List En)(bs:List Br):AL [eF,eF,bq]:=((bO l es bs,aY l es bs,bc l es bs,()),(bO l es bs,cN l es bs,cW l es bs,()),spC l es bs,())
theorem ap5{l:Bool}{es:List En}{bs:List Br}(h:dv l es bs=false):spY l es bs=((false,[],[],()),(false,[],[],()),4,()):=by
 simp[spY,bO,aY,cN,bc,cW,spC,h]
 rfl
theorem al3{l:Bool}{es:List En}{bs:List Br}(h:dv l es bs=true):spY l es bs=((l,es.take (dO es bs),bs.take (dO es bs),()),(l,es.drop (dO es bs),bs.drop (dO es bs),()),0,()):=by
 simp[spY,bO,aY,cN,bc,cW,spC,h]
 rfl
theorem vF(es:List En)(bs:List Br):(aE es bs).length=es.length+bs.length:=by simp[aE]
theorem ag1{zs:List Int}(h:∀x∈zs,0≤x∧x≤2002)(hl:zs.length≤2000)(k:Nat):0≤(zs.take k).sum∧(zs.take k).sum≤4004000:=by
 have:=nZ (l:=zs.take k) (m:=2002) (fun x hx=>h x (List.mem_of_mem_take hx)) (by omega)
 have h3:(zs.take k).length≤2000:=by rw[List.length_take];omega
 omega
theorem ajp{Z:bd}:dt P Z 84 [eF] [eF,eF,bq] (fun((_,es,bs,()),())=>[a8 es,ba bs])
 (fun((l,es,bs,()),())=>((bO l es bs,aY l es bs,bc l es bs,()),(bO l es bs,cN l es bs,cW l es bs,()),spC l es bs,())):=by
 refine au Tryd.func84 (by kernel_rfl) (by kernel_rfl) ?_
 rintro⟨⟨(l:Bool),(es:List En),(bs:List Br),⟨⟩⟩,⟨⟩⟩ _ ⟨(he:a8 es),(hb:ba bs),_⟩ X hX hz
 have hT:adK.Ok P Z:=aH.Ok.cons qy.sum (aH.Ok.cons adz.sum (aH.Ok.cons ae7.sum (aH.Ok.cons al1.sum (aH.Ok.cons al2.sum aH.Ok.nil))))
 show Safe P 84 X (Ends [eF,eF,bq] (spY l es bs)) _
 have hle:=he.1
 have hlb:=hb.1
 have hlen:=vF es bs
 have hr:=xW he hb
 have lD:=ag1 hr (by omega)
 have auH:=lD (aE es bs).length
 rw[List.take_length]at auH
 have bH:=nn es bs
 have loop:dv l es bs=true→∀(n k:Nat),k+n=es.length+bs.length - 1→Safe P 84 X (Ends [eF,eF,bq] (spY l es bs))
  (asv l es bs (aE es bs) (es.length+bs.length - 1) ((aE es bs).take k).sum ((aE es bs).sum - ((aE es bs).take k).sum) ((gU (aE es bs) k).1:Int) (gU (aE es bs) k).2 (k:Int)):=by
  intro iX n
  have asw:=iX
  simp only[dv,Bool.and_eq_true,decide_eq_true_eq]at asw
  obtain⟨hm,h2⟩:=asw
  obtain⟨m1,m2,m3,m4⟩:=dK hm
  induction n with
  |zero=>
   intro k hk
   have avD:=n6 (aE es bs) k
   have hE:es=[]∨((gU (aE es bs) k).1:Int)≤(es.length:Int):=by
    cases l
    ·exact .inl (m2 rfl)
    ·have:=m1 rfl
     subst this
     simp only[List.length_nil]at hk
     exact .inr (by omega)
   have hB:bs=[]∨((gU (aE es bs) k).1:Int)≤(bs.length:Int):=by
    cases l
    ·have:=m2 rfl
     subst this
     simp only[List.length_nil]at hk
     exact .inr (by omega)
    ·exact .inl (m1 rfl)
   refine go hz hX hT Tryd.func84 (afh l es bs _ _ _ _ _ _ k) ⟨fun h=>absurd (of_decide_eq_true h) (by omega),fun h=>⟨by omega,Int.natCast_nonneg _,hE,by omega,Int.natCast_nonneg _,hB, ?_⟩⟩
   have asx:(gU (aE es bs) k).1=dO es bs:=by rw[dO,show k=es.length+bs.length - 1 from by omega]
   rw[asx,al3 iX]
   exact aT ((l,es.take (dO es bs),bs.take (dO es bs),()),(l,es.drop (dO es bs),bs.drop (dO es bs),()),0,()) rfl (by kernel_rfl)
  |succ n ih=>
   intro k hk
   have h1:=lD k
   have h3:0≤(aE es bs).getD k 0∧(aE es bs).getD k 0≤2002:=by
    rw[bk (by omega)];exact hr _ (List.getElem_mem _)
   have mw:=iG (l:=aE es bs) (k:=k) (by omega)
   have hc:imax (((aE es bs).take k).sum+(aE es bs).getD k 0) ((aE es bs).sum - ((aE es bs).take k).sum - (aE es bs).getD k 0)=js (aE es bs) (k+1):=by
    rw[js,←mw];congr 1;omega
   have next:=ih (k+1) (by omega)
   rw[←mw,show(aE es bs).sum - (((aE es bs).take k).sum+(aE es bs).getD k 0)=(aE es bs).sum - ((aE es bs).take k).sum - (aE es bs).getD k 0 from by omega]at next
   refine go hz hX hT Tryd.func84 (afh l es bs _ _ _ _ _ _ k) ?_
   simp only[Int.toNat_natCast,Nat.zero_add,hc]
   refine⟨fun h=>⟨by omega,by omega,⟨by omega,by omega⟩,⟨by omega,by omega⟩,fun h0=> ?_,fun h0=>⟨fun bg=> ?_,fun bg=> ?_⟩⟩,fun h=>absurd (of_decide_eq_false h) (by omega)⟩
   ·have h0:(gU (aE es bs) k).1=0:=by have:((gU (aE es bs) k).1:Int)=0:=by simpa using h0
                                      omega
    rw[gU,if_pos (.inl h0)]at next
    exact⟨⟨by omega,by omega⟩,⟨by omega,by omega⟩,next⟩
   ·rw[gU,if_pos (.inr (of_decide_eq_true bg))]at next
    exact⟨⟨by omega,by omega⟩,⟨by omega,by omega⟩,next⟩
   ·have h0:¬((gU (aE es bs) k).1=0∨js (aE es bs) (k+1)<(gU (aE es bs) k).2):=by
     rintro(h|h)
     ·simp[h]at h0
     ·exact of_decide_eq_false bg h
    rw[gU,if_neg h0]at next
    exact⟨⟨by omega,by omega⟩,next⟩
 have bad:dv l es bs=false→spY l es bs=((false,[],[],()),(false,[],[],()),4,()):=ap5
 refine go hz hX hT Tryd.func84 (alY l es bs) ⟨he,hb,fun h=>aT ((false,[],[],()),(false,[],[],()),4,()) (bad ?_) (by kernel_rfl),fun h=>⟨fun h2=>aT ((false,[],[],()),(false,[],[],()),4,()) (bad ?_) (by kernel_rfl),fun h2=> ?_⟩⟩
 ·have h:c8 l es bs=false:=by simpa using h
  simp[dv,h]
 ·have h2:=of_decide_eq_true h2
  simp only[dv,Bool.and_eq_false_iff,decide_eq_false_iff_not]
  exact .inr (by omega)
 ·have h:c8 l es bs=true:=by simpa using h
  have h2:=of_decide_eq_false h2
  have iX:dv l es bs=true:=by simp only[dv,h,Bool.true_and,decide_eq_true_eq];omega
  refine⟨he,hb,⟨by omega,by omega⟩,⟨by omega,by omega⟩,by omega,by omega,by omega, ?_⟩
  have:=loop iX (es.length+bs.length - 1) 0 (by omega)
  have e1:((((aE es bs).length:Int) - 1).toNat - Int.toNat 0)=es.length+bs.length - 1:=by omega
  rw[e1,bH]
  simp only[List.take_zero,List.sum_nil,Int.sub_zero,gU]at this
  rw[show 1+(aE es bs).sum - 1=(aE es bs).sum from by omega]
  exact this
theorem abF{es:List En}(h:a8 es)(k:Nat):a8 (es.take k):=⟨by have:=h.1;rw[List.length_take];omega,fun x hx=>h.2 x (List.mem_of_mem_take hx)⟩
theorem abG{es:List Br}(h:ba es)(k:Nat):ba (es.take k):=⟨by have:=h.1;rw[List.length_take];omega,fun x hx=>h.2 x (List.mem_of_mem_take hx)⟩
theorem abH{es:List En}(h:a8 es)(k:Nat):a8 (es.drop k):=⟨by have:=h.1;rw[List.length_drop];omega,fun x hx=>h.2 x (List.mem_of_mem_drop hx)⟩
theorem abI{es:List Br}(h:ba es)(k:Nat):ba (es.drop k):=⟨by have:=h.1;rw[List.length_drop];omega,fun x hx=>h.2 x (List.mem_of_mem_drop hx)⟩
theorem iv:a8 []:=⟨by simp,fun x hx=>by simp at hx⟩
theorem vG:ba []:=⟨by simp,fun x hx=>by simp at hx⟩
theorem abJ(zs:List Int)(k:Nat):(zs.drop k).sum=zs.sum - (zs.take k).sum:=by
 have:(zs.take k++zs.drop k).sum=zs.sum:=by rw[List.take_append_drop]
 rw[List.sum_append]at this
 omega
theorem ag2{l:Bool}{es:List En}{bs:List Br}(m1:l=true→bs=[])(m2:l=false→es=[])(k:Nat):
 alZ l (es.take k)=es.take k∧al0 l (bs.take k)=bs.take k∧alZ l (es.drop k)=es.drop k∧al0 l (bs.drop k)=bs.drop k∧
 bh (es.take k) (bs.take k)=1+((aE es bs).take k).sum∧bh (es.drop k) (bs.drop k)=1+((aE es bs).sum - ((aE es bs).take k).sum):=by
 rw[←abJ]
 cases l
 ·obtain rfl:=m2 rfl
  simp[alZ,al0,aE,bh]
 ·obtain rfl:=m1 rfl
  simp[alZ,al0,aE,bh]
theorem ajq(a b:Int):imax (1+a) (1+b)=1+imax a b:=by
 unfold imax;split<;>split<;>omega
end Lf
namespace Lf
open Go Go.Sx Go.Proofs
abbrev zL:=bY [qx,dU] [bq,cV] (fun(l,_,())=>[(l:List En).length≤1000000,ir (bA l)]) (fun(l,key,())=>((cr (bA l) key:Nat),jq (bA l) key,()))
def al4:aH:=[(58,zL)]
theorem ajr(l:List En)(key:ByteArray):run P al4.sum Tryd.f38 [] (start Tryd.f38 [.s (.ro (.ae cE l)),.s (.str key)] [])=
 Tree.need (l.length≤1000000) (.need (ir (bA l)) (.ite (!jq (bA l) key) (.ret [] (.bm [.s (.str ByteArray.empty),.s (.aI false)])) (.need ((0:Int)≤(↑(cr (bA l) key):bq.V)) (.need ((↑(cr (bA l) key):bq.V)<(↑l.length:Int)) (.ret [] (.bm [.s (.str (l.getD (Int.toNat (↑(cr (bA l) key):bq.V)) (CL.d [.str,.str])).snd.fst),.s (.aI true)])))))):=by kernel_rfl
theorem adM(l:List En)(i j:Int):run P kq.sum Tryd.f70 [] (start Tryd.f70 [.vec 0,.s (.int .i64 i),.s (.int .i64 j)] [.vec (.ae cE l) eE])=
 Tree.need ((0:Int)≤i) (.need (i≤j) (.need (j≤(↑l.length:Int)) (.need ((↑(0:Nat):Int)+(↑l.length:Int)≤(↑l.length:Int)) (.ite (i==j) (.ret [.vec (.ae [.str,.str] l) 34] (.vec 0)) (.need ((0:Int)≤0) (.need ((0:Int)≤i) (.need ((↑(0:Nat):Int)+i≤(↑l.length:Int)) (.need ((0:Int)≤j) (.need (j≤(↑l.length:Int)) (.need ((↑(0:Nat):Int)+(↑l.length:Int)≤(↑l.length:Int)) (.need ((0:Nat)+(i.toNat - Int.toNat 0)+(List.drop ((0:Nat)+j.toNat) (List.take ((0:Nat)+j.toNat+((↑l.length:Int).toNat - j.toNat)) l)).length≤l.length) (.need ((0:Int)≤(↑(i.toNat - Int.toNat (0:Int)+(List.drop ((0:Nat)+j.toNat) (List.take ((0:Nat)+j.toNat+((↑l.length:Int).toNat - j.toNat)) l)).length):Int)) (.need ((↑(i.toNat - Int.toNat (0:Int)+(List.drop ((0:Nat)+j.toNat) (List.take ((0:Nat)+j.toNat+((↑l.length:Int).toNat - j.toNat)) l)).length):Int)≤(↑l.length:Int)) (.need ((↑(0:Nat):Int)+(↑l.length:Int)≤(↑(over l ((0:Nat)+(i.toNat - Int.toNat 0)) (List.drop ((0:Nat)+j.toNat) (List.take ((0:Nat)+j.toNat+((↑l.length:Int).toNat - j.toNat)) l)).length (List.drop ((0:Nat)+j.toNat) (List.take ((0:Nat)+j.toNat+((↑l.length:Int).toNat - j.toNat)) l))).length:Int)) (.ret [.vec (.ae [.str,.str] (over (over l ((0:Nat)+(i.toNat - Int.toNat 0)) (List.drop ((0:Nat)+j.toNat) (List.take ((0:Nat)+j.toNat+((↑l.length:Int).toNat - j.toNat)) l)).length (List.drop ((0:Nat)+j.toNat) (List.take ((0:Nat)+j.toNat+((↑l.length:Int).toNat - j.toNat)) l))) ((0:Nat)+(↑(i.toNat - Int.toNat (0:Int)+(List.drop ((0:Nat)+j.toNat) (List.take ((0:Nat)+j.toNat+((↑l.length:Int).toNat - j.toNat)) l)).length):Int).toNat) ((↑l.length:Int).toNat - (↑(i.toNat - Int.toNat (0:Int)+(List.drop ((0:Nat)+j.toNat) (List.take ((0:Nat)+j.toNat+((↑l.length:Int).toNat - j.toNat)) l)).length):Int).toNat) (List.replicate ((↑l.length:Int).toNat - (↑(i.toNat - Int.toNat (0:Int)+(List.drop ((0:Nat)+j.toNat) (List.take ((0:Nat)+j.toNat+((↑l.length:Int).toNat - j.toNat)) l)).length):Int).toNat) (CL.d [.str,.str])))) 34] (.part 0 0 (i.toNat - Int.toNat (0:Int)+(List.drop ((0:Nat)+j.toNat) (List.take ((0:Nat)+j.toNat+((↑l.length:Int).toNat - j.toNat)) l)).length))))))))))))))))):=by kernel_rfl
theorem drop_cons{α:Type}{l:List α}{k:Nat}(d:α)(h:k<l.length):l.drop k=l.getD k d::l.drop (k+1):=by rw[List.drop_eq_getElem_cons h,bk h]
abbrev zM(key:ByteArray)(x:En):Bool:=decide (x.1=key)
def pw(l:List En)(key:ByteArray):ByteArray:=match l.find? (zM key)with|some x=>x.2.1|none=>ByteArray.empty
def nv(l:List En)(key:ByteArray):Bool:=(l.find? (zM key)).isSome
theorem afi{L:List ad}{s:ByteArray}{b:Bool}:Ends [dU,cV] (s,b,()) L (.bm [.s (.str s),.s (.aI b)]):=rfl
theorem afj{l:List En}(hs:ir (bA l)){i j:Nat}(hi:i<l.length)(hj:j<l.length)(h:(l.getD i dE).1=(l.getD j dE).1):i=j:=by
 have hk:∀t,(bA l).getD t ByteArray.empty=(l.getD t dE).1:=fun t=>cw l pt dE t
 have hn:(bA l).length=l.length:=List.length_map _
 rcases Nat.lt_trichotomy i j with h1|h1|h1
 ·have:=hs i j h1 (by omega);rw[hk,hk,h,dJ]at this;cases this
 ·exact h1
 ·have:=hs j i h1 (by omega);rw[hk,hk,h,dJ]at this;cases this
theorem afk{l:List En}{key:ByteArray}(hs:ir (bA l)):nv l key=jq (bA l) key∧(jq (bA l) key=true→cr (bA l) key<l.length∧pw l key=(l.getD (cr (bA l) key) dE).2.1):=by
 have hk:∀t,(bA l).getD t ByteArray.empty=(l.getD t dE).1:=fun t=>cw l pt dE t
 have hn:(bA l).length=l.length:=List.length_map _
 cases ha:jq (bA l) key
 ·refine⟨?_,fun h=>by cases h⟩
  cases hf:l.find? (zM key)with
  |none=>rw[nv,hf];rfl
  |some x=>
   exfalso
   have h1:=List.find?_some hf
   obtain⟨i,hi,rfl⟩:=List.getElem_of_mem (List.mem_of_find?_eq_some hf)
   have h1:l[i].1=key:=of_decide_eq_true h1
   have h2:(l.getD i dE).1=key:=by rw[bk hi];exact h1
   rcases Nat.lt_or_ge i (cr (bA l) key)with h3|h3
   ·have:=adE h3;rw[hk,h2,dJ]at this;cases this
   ·rcases Nat.eq_or_lt_of_le h3 with h4|h4
    ·have:jq (bA l) key=true:=jC.2 ⟨by omega,by rw[hk,h4];exact h2⟩
     rw[ha]at this;cases this
    ·have h5:=ajg hs (key:=key) (t:=cr (bA l) key) (Nat.le_refl _) (by omega)
     have h6:=hs _ _ h4 (by omega)
     rw[hk i,h2]at h6
     rw[h6]at h5;cases h5
 ·obtain⟨h1,h2⟩:=jC.1 ha
  rw[hk]at h2
  rw[hn]at h1
  cases hf:l.find? (zM key)with
  |none=>
   exfalso
   have:=List.find?_eq_none.1 hf (l.getD (cr (bA l) key) dE) (by rw[bk h1];exact List.getElem_mem _)
   exact this (decide_eq_true h2)
  |some x=>
   obtain⟨i,hi,rfl⟩:=List.getElem_of_mem (List.mem_of_find?_eq_some hf)
   have h3:=List.find?_some hf
   have h3:l[i].1=key:=of_decide_eq_true h3
   have e:i=cr (bA l) key:=afj hs hi h1 (by rw[h2,bk hi];exact h3)
   subst e
   exact⟨by rw[nv,hf];rfl,fun _=>⟨h1,by rw[pw,hf,bk hi]⟩⟩
theorem al5{Z:bd}:dt P Z 38 [qx,dU] [dU,cV] (fun(l,_,())=>[(l:List En).length≤1000000,ir (bA l)]) (fun(l,key,())=>(pw l key,nv l key,())):=by
 refine au Tryd.func38 (by kernel_rfl) (by kernel_rfl) ?_
 rintro⟨(l:List En),(key:ByteArray),⟨⟩⟩ _ ⟨(hl:l.length≤1000000),(hs:ir (bA l)),_⟩ X hX hz
 show Safe P 38 X (Ends [dU,cV] (pw l key,nv l key,())) _
 obtain⟨h1,h2⟩:=afk (key:=key) hs
 refine go hz hX (aH.Ok.cons rL.sum aH.Ok.nil) Tryd.func38 (ajr l key) ⟨hl,hs,fun h=> ?_,fun h=> ?_⟩
 ·have h:jq (bA l) key=false:=by simpa using h
  have e2:nv l key=false:=by rw[h1,h]
  have e1:pw l key=ByteArray.empty:=by
   cases hf:l.find? (zM key)with
   |none=>rw[pw,hf]
   |some x=>rw[nv,hf]at e2;cases e2
  rw[e1,e2];exact afi
 ·have h:jq (bA l) key=true:=by simpa using h
  obtain⟨h3,h4⟩:=h2 h
  rw[h4,h1,h]
  refine⟨Int.natCast_nonneg _, ?_,afi⟩
  show((cr (bA l) key:Nat):Int)<_;omega
def vH(key val:ByteArray):Bool→List En→List En
 |dn,[]=>if dn=true then []else [(key,val,())]
 |dn,x::r=>if dn=false∧slt x.1 key=false then(if x.1=key then(key,val,())::vH key val true r else(key,val,())::x::vH key val true r)else x::vH key val dn r
def cz(l:List En)(key:ByteArray):List En:=l.filter fun x=> !zM key x
def gF(l:List En)(key:ByteArray):Bool:=decide (((cz l key).length:Int)<(l.length:Int))
theorem x9(x:En)(r:List En)(key:ByteArray):cz (x::r) key=if(!zM key x)=true then x::cz r key else cz r key:=by
 unfold cz;rw[List.filter_cons]
end Lf
namespace Lf
open Go Go.Sx Go.Proofs
abbrev wX(l:List En)(j:Int):List En:=List.drop ((0:Nat)+j.toNat) (List.take ((0:Nat)+j.toNat+(((l.length:Int)).toNat - j.toNat)) l)
abbrev rO(l:List En)(i j:Int):Nat:=i.toNat - Int.toNat (0:Int)+(wX l j).length
abbrev ag3(l:List En)(i j:Int):List En:=over (over l ((0:Nat)+(i.toNat - Int.toNat (0:Int))) (wX l j).length (wX l j)) ((0:Nat)+((rO l i j:Nat):Int).toNat) (((l.length:Int)).toNat - ((rO l i j:Nat):Int).toNat) (List.replicate (((l.length:Int)).toNat - ((rO l i j:Nat):Int).toNat) (CL.d cE))
def afl:Spec (List En×Int×Int):=⟨fun x=>[.vec 0,.s (.int .i64 x.2.1),.s (.int .i64 x.2.2)],fun x=>[.vec (.ae cE x.1) eE],fun x=>[0≤x.2.1,x.2.1<x.2.2,x.2.2≤((x.1.length:Nat):Int)],fun x=>[.vec (.ae cE (ag3 x.1 x.2.1 x.2.2)) eE],fun x=>.part 0 0 (rO x.1 x.2.1 x.2.2)⟩
def asy:List AV→RM ((List En×Int×Int)×List Nat)
 |[.vec id,.s (.int .i64 i),.s (.int .i64 j)]=>.look id fun
  |some (.vec (.ae [.str,.str] l) _)=>.ret ((l,i,j),[id])
  |_=>.fail "delete: no row"
 |_=>.fail "delete"
def ajs:aH:=[(58,zL),(68,ap3),(70,dA afl asy)]
theorem al6(l:List En)(key:ByteArray):run P ajs.sum Tryd.f52 [] (start Tryd.f52 [.s (.ro (.ae cE l)),.s (.str key)] [])=
 Tree.need (l.length≤1000000) (.need (ir (bA l)) (.need (l.length≤100000) (.ite (jq (bA l) key) (.need (aD ((↑(cr (bA l) key):bq.V)+1)) (.need (bE (some [AV.vec 0,.s (.int .i64 (↑(cr (bA l) key):bq.V)),.s (.int .i64 ((↑(cr (bA l) key):bq.V)+1))])) (.need (bE (some [ad.vec (.ae [.str,.str] l) 34])) (.need ((0:Int)≤(↑(cr (bA l) key):bq.V)) (.need ((↑(cr (bA l) key):bq.V)<(↑(cr (bA l) key):bq.V)+1) (.need ((↑(cr (bA l) key):bq.V)+1≤(↑l.length:Int)) (.ret [.vec (.ae [.str,.str] (ag3 l (↑(cr (bA l) key):bq.V) ((↑(cr (bA l) key):bq.V)+1))) 34] (.bm [.part 0 0 (rO l (↑(cr (bA l) key):bq.V) ((↑(cr (bA l) key):bq.V)+1)),.s (.bool (jq (bA l) key))])))))))) (.ret [.vec (.ae [.str,.str] l) 34] (.bm [.vec 0,.s (.bool (jq (bA l) key))]))))):=by kernel_rfl
theorem ag4{Z:bd}:jA P Z 70 afl:=by
 refine aO Tryd.func70 (by kernel_rfl) (fun x=>Nat.le_of_ble_eq_true (by kernel_rfl)) ?_
 rintro⟨(l:List En),(i:Int),(j:Int)⟩ ⟨(h1:0≤i),(h2:i<j),(h3:j≤(l.length:Int)),_⟩ X hX hz
 have e1:(wX l j).length=l.length - j.toNat:=by simp only[wX,List.length_drop,List.length_take];omega
 refine eR hz hX (by simp) aH.Ok.nil Tryd.func70 (adM l i j) ⟨h1,by omega,h3,by omega,fun h=>absurd h (by simp;omega),fun _=>⟨by omega,h1,by omega,by omega,h3,by omega, ?_, ?_, ?_, ?_,⟨⟨[],[0],1,[]⟩,Nat.le_refl _, ?_⟩⟩⟩
 ·show 0+(i.toNat - Int.toNat 0)+(wX l j).length≤l.length;rw[e1];omega
 ·show(0:Int)≤((rO l i j:Nat):Int);omega
 ·show((rO l i j:Nat):Int)≤_;simp only[rO,e1];omega
 ·show((0:Nat):Int)+(l.length:Int)≤((over l (0+(i.toNat - Int.toNat 0)) (wX l j).length (wX l j)).length:Int)
  simp only[over,List.length_append,List.length_take,List.length_drop,e1];omega
 ·show Norm.run _ _=some ⟨[.part 0 0 (rO l i j)],[.vec (.ae cE (ag3 l i j)) eE],[],{}⟩
  kernel_rfl
theorem ajt{l:List En}{key:ByteArray}(hs:ir (bA l)):(jq (bA l) key=false→cz l key=l)∧(jq (bA l) key=true→cz l key=l.take (cr (bA l) key)++l.drop (cr (bA l) key+1)):=by
 have hk:∀t,(bA l).getD t ByteArray.empty=(l.getD t dE).1:=fun t=>cw l pt dE t
 have hn:(bA l).length=l.length:=List.length_map _
 obtain⟨f1,f2⟩:=afk (key:=key) hs
 refine⟨fun h=> ?_,fun h=> ?_⟩
 ·rw[h]at f1
  refine List.filter_eq_self.2 fun x hx=> ?_
  have:l.find? (zM key)=none:=by
   cases hf:l.find? (zM key)with
   |none=>rfl
   |some y=>rw[nv,hf]at f1;cases f1
  have:=List.find?_eq_none.1 this x hx
  cases hb:zM key x
  ·rfl
  ·exact absurd hb this
 ·obtain⟨h1,h2⟩:=jC.1 h
  rw[hk]at h2
  rw[hn]at h1
  have e:l=l.take (cr (bA l) key)++l.getD (cr (bA l) key) dE::l.drop (cr (bA l) key+1):=by rw[←drop_cons dE h1,List.take_append_drop]
  have other:∀i,i<l.length→i≠cr (bA l) key→(!zM key (l.getD i dE))=true:=fun i hi ct=>by
   cases hb:zM key (l.getD i dE)
   ·rfl
   ·exact absurd (afj hs hi h1 ((show(l.getD i dE).1=key from of_decide_eq_true hb).trans h2.symm)) ct
  have g1:cz (l.take (cr (bA l) key)) key=l.take (cr (bA l) key):=by
   refine List.filter_eq_self.2 fun x hx=> ?_
   obtain⟨i,hi,rfl⟩:=List.getElem_of_mem hx
   rw[List.length_take]at hi
   have:=other i (by omega) (by omega)
   rw[bk (by omega)]at this
   rw[List.getElem_take];exact this
  have g2:cz (l.drop (cr (bA l) key+1)) key=l.drop (cr (bA l) key+1):=by
   refine List.filter_eq_self.2 fun x hx=> ?_
   obtain⟨i,hi,rfl⟩:=List.getElem_of_mem hx
   rw[List.length_drop]at hi
   have:=other (cr (bA l) key+1+i) (by omega) (by omega)
   rw[bk (by omega)]at this
   rw[List.getElem_drop];exact this
  have app:∀a b:List En,cz (a++b) key=cz a key++cz b key:=fun a b=>List.filter_append ..
  have:cz l key=cz (l.take (cr (bA l) key)++l.getD (cr (bA l) key) dE::l.drop (cr (bA l) key+1)) key:=by rw[←e]
  rw[this,app,x9,if_neg (show¬(!decide ((l.getD (cr (bA l) key) dE).1=key))=true from by rw[decide_eq_true h2];simp),g1,g2]
theorem al7{l:List En}{key:ByteArray}(hs:ir (bA l)):gF l key=jq (bA l) key:=by
 obtain⟨h1,h2⟩:=ajt (key:=key) hs
 cases ha:jq (bA l) key
 ·rw[gF,h1 ha];simp
 ·obtain⟨h3,_⟩:=jC.1 ha
  rw[List.length_map]at h3
  rw[gF,h2 ha]
  simp only[List.length_append,List.length_take,List.length_drop,decide_eq_true_eq]
  omega
theorem ag5{l:List En}{k:Nat}(h:k<l.length):(ag3 l (k:Int) ((k:Int)+1)).take (rO l (k:Int) ((k:Int)+1))=l.take k++l.drop (k+1):=by
 have e0:wX l ((k:Int)+1)=l.drop (k+1):=by
  simp only[wX]
  rw[show 0+((k:Int)+1).toNat=k+1 from by omega,List.take_of_length_le (by omega)]
 have e1:rO l (k:Int) ((k:Int)+1)=l.length - 1:=by
  simp only[rO,e0,List.length_drop];omega
 simp only[ag3,e0,e1,over]
 rw[show 0+((k:Int).toNat - Int.toNat 0)=k from by omega,show 0+(((l.length - 1:Nat):Int)).toNat=l.length - 1 from by omega,show k+(l.drop (k+1)).length=l.length - 1 from by rw[List.length_drop];omega]
 rw[List.take_of_length_le (l:=l.drop (k+1)) (Nat.le_refl _)]
 have hlen:(l.take k++l.drop (k+1)).length=l.length - 1:=by simp only[List.length_append,List.length_take,List.length_drop];omega
 rw[List.append_assoc,List.append_assoc,←List.append_assoc (l.take k),List.take_left' hlen,List.take_left' hlen]
theorem aju{Z:bd}:dt P Z 52 [qx,dU] [qx,cV] (fun(l,_,())=>[(l:List En).length≤100000,ir (bA l)]) (fun(l,key,())=>(cz l key,gF l key,())):=by
 refine au Tryd.func52 (by kernel_rfl) (by kernel_rfl) ?_
 rintro⟨(l:List En),(key:ByteArray),⟨⟩⟩ _ ⟨(hl:l.length≤100000),(hs:ir (bA l)),_⟩ X hX hz
 show Safe P 52 X (Ends [qx,cV] (cz l key,gF l key,())) _
 have hT:ajs.Ok P Z:=aH.Ok.cons rL.sum (aH.Ok.cons adL.sum (aH.Ok.cons (ag4.sum asy) aH.Ok.nil))
 obtain⟨d1,d2⟩:=ajt (key:=key) hs
 have hb:=al7 (key:=key) hs
 have hle:=vr (bA l) key
 rw[List.length_map]at hle
 refine go hz hX hT Tryd.func52 (al6 l key) ⟨by omega,hs,hl,fun h=> ?_,fun h=> ?_⟩
 ·obtain⟨h3,_⟩:=jC.1 h
  rw[List.length_map]at h3
  refine⟨⟨?_, ?_⟩,rfl,rfl, ?_, ?_, ?_, ?_⟩
  ·show(-9223372036854775808:Int)≤((cr (bA l) key:Nat):Int)+1;omega
  ·show((cr (bA l) key:Nat):Int)+1≤(9223372036854775807:Int);omega
  ·show(0:Int)≤((cr (bA l) key:Nat):Int);omega
  ·show((cr (bA l) key:Nat):Int)<((cr (bA l) key:Nat):Int)+1;omega
  ·show((cr (bA l) key:Nat):Int)+1≤(l.length:Int);omega
  ·refine aT (List.drop 0 ((ag3 l ((cr (bA l) key:Nat):Int) (((cr (bA l) key:Nat):Int)+1)).take (0+rO l ((cr (bA l) key:Nat):Int) (((cr (bA l) key:Nat):Int)+1))),jq (bA l) key,()) ?_ (by kernel_rfl)
   rw[d2 h,hb,Nat.zero_add,ag5 h3];rfl
 ·refine aT (l,jq (bA l) key,()) ?_ (by kernel_rfl)
  rw[d1 h,hb];rfl
end Lf
namespace Lf
open Go Go.Sx Go.Proofs
theorem n7(key val:ByteArray):∀l:List En,vH key val true l=l
 |[]=>rfl
 |x::r=>by rw[vH,if_neg (by simp),n7 key val r]
def bw(l:List En)(key val:ByteArray):List En:=l.take (cr (bA l) key)++(key,val,())::l.drop (if jq (bA l) key=true then cr (bA l) key+1 else cr (bA l) key)
theorem zN{x:En}{r:List En}{key:ByteArray}(h:slt x.1 key=true):cr (bA (x::r)) key=cr (bA r) key+1:=by simp[cr,bA,List.takeWhile,h]
theorem adN{x:En}{r:List En}{key:ByteArray}(h:slt x.1 key=false):cr (bA (x::r)) key=0:=by simp[cr,bA,List.takeWhile,h]
theorem afm{x:En}{r:List En}{key:ByteArray}(h:slt x.1 key=true):jq (bA (x::r)) key=jq (bA r) key:=by
 unfold jq
 rw[zN h]
 rfl
theorem ajv{x:En}{r:List En}{key:ByteArray}(h:slt x.1 key=false):jq (bA (x::r)) key=decide (x.1=key):=by
 unfold jq
 rw[adN h]
 simp[bA]
theorem put_eq(key val:ByteArray):∀l:List En,vH key val false l=bw l key val
 |[]=>rfl
 |x::r=>by
  rw[vH]
  cases hs:slt x.1 key
  ·rw[if_pos ⟨rfl,rfl⟩,bw,adN hs,ajv hs,n7]
   by_cases hk:x.1=key
   ·rw[if_pos hk,decide_eq_true hk];rfl
   ·rw[if_neg hk,decide_eq_false hk];rfl
  ·rw[if_neg (by simp),put_eq key val r,bw,bw,zN hs,afm hs]
   cases jq (bA r) key<;>rfl
theorem zO{l:List En}{key val:ByteArray}:(bw l key val).length=l.length+(if jq (bA l) key=true then 0 else 1):=by
 have:=vr (bA l) key
 rw[List.length_map]at this
 cases ha:jq (bA l) key
 ·simp only[bw,ha,List.length_append,List.length_cons,List.length_take,List.length_drop]
  simp;omega
 ·have h1:=(jC.1 ha).1
  rw[List.length_map]at h1
  simp only[bw,ha,List.length_append,List.length_cons,List.length_take,List.length_drop]
  simp;omega
abbrev ris(l:List En):Prop:=l.Pairwise fun a b=>slt a.1 b.1=true
theorem tC{l:List En}:ir (bA l)↔ris l:=by
 have hk:∀t,(bA l).getD t ByteArray.empty=(l.getD t dE).1:=fun t=>cw l pt dE t
 have hn:(bA l).length=l.length:=List.length_map _
 rw[ris,List.pairwise_iff_getElem]
 constructor
 ·intro h i j hi hj kN
  have:=h i j kN (by omega)
  rw[hk,hk,bk hi,bk hj]at this
  exact this
 ·intro h i j kN hj
  rw[hn]at hj
  have:=h i j (by omega) hj kN
  rw[hk,hk,bk (by omega),bk hj]
  exact this
theorem afn:∀{l:List En} (key val:ByteArray),ris l→ris (vH key val false l)∧∀a:En,slt a.1 key=true→(∀x∈l,slt a.1 x.1=true)→∀x∈vH key val false l,slt a.1 x.1=true
 |[],key,val,_=>by
  rw[vH,if_neg (by simp)]
  exact⟨List.pairwise_singleton ..,fun a h _ x hx=>by
   simp only[List.mem_singleton]at hx
   subst hx;exact h⟩
 |x::r,key,val,h=>by
  obtain⟨h1,h2⟩:=List.pairwise_cons.1 h
  obtain⟨g1,g2⟩:=afn (l:=r) key val h2
  rw[vH]
  split
  ·rename_i hc
   split
   ·rename_i hk
    rw[n7]
    refine⟨List.pairwise_cons.2 ⟨fun y hy=>by rw[show(key,val,()).1=x.1 from hk.symm];exact h1 y hy,h2⟩,fun a ha hl y hy=> ?_⟩
    rcases List.mem_cons.1 hy with rfl|hy
    ·exact ha
    ·exact hl y (List.mem_cons_of_mem _ hy)
   ·rename_i hk
    rw[n7]
    have bg:slt key x.1=true:=u5 hc.2 hk
    refine⟨List.pairwise_cons.2 ⟨fun y hy=> ?_,h⟩,fun a ha hl y hy=> ?_⟩
    ·rcases List.mem_cons.1 hy with rfl|hy
     ·exact bg
     ·exact cq bg (h1 y hy)
    ·rcases List.mem_cons.1 hy with rfl|hy
     ·exact ha
     ·exact hl y hy
  ·rename_i hc
   have hx:slt x.1 key=true:=by simpa using hc
   refine⟨List.pairwise_cons.2 ⟨fun y hy=>g2 x hx h1 y hy,g1⟩,fun a ha hl y hy=> ?_⟩
   rcases List.mem_cons.1 hy with rfl|hy
   ·exact hl _ (by simp)
   ·exact g2 a ha (fun z hz=>hl z (List.mem_cons_of_mem _ hz)) y hy
theorem al8{l:List En}(key val:ByteArray)(h:ir (bA l)):ir (bA (bw l key val)):=by
 rw[←put_eq]
 exact tC.2 (afn key val (tC.1 h)).1
theorem al9{l:List En}(key:ByteArray)(h:ir (bA l)):ir (bA (cz l key)):=tC.2 (List.Pairwise.filter _ (tC.1 h))
end Lf
namespace Go.Sx
open Go
section
variable{ρ az:Nat→Value}{H H':aG}{G O O':Nat→Prop}{w w':World}{P:Program}{X:Ctx}{L:List ad}{K:List ad→AV→Prop}
theorem ap6(hs:Sat ρ (lk L) G w){id:Nat}{c c2:aF}{e:TypeId}{root:Value}(dq:L[id]? =some (.vec c e))(pY:∀b,eh root=some b→eh (ρ id)=some b)(dR:ig ρ (lk L) (aK ρ (lk L) G) w root (.vec c2 e)):
 ∃az,Sat az (lk (L.set id .dead++[.vec c2 e])) G w∧xJ ρ L G w az (L.set id .dead++[.vec c2 e])∧az L.length=root:=by
 have bg:id<L.length:=(List.getElem?_eq_some_iff.1 dq).1
 generalize hx:ad.vec c2 e=x
 have hxa:x.alive=true:=by rw[←hx];rfl
 have old:∀{k:Nat} {o:ad},(L.set id .dead++[x])[k]? =some o→(k=L.length∧o=x)∨(k=id∧o=.dead)∨(k≠id∧k≠L.length∧L[k]? =some o):=by
  intro k o ho
  have h2:=(List.getElem?_eq_some_iff.1 ho).1
  simp only[List.length_append,List.length_set,List.length_cons,List.length_nil]at h2
  by_cases hk:k=L.length
  ·subst hk
   rw[List.getElem?_append_right (by simp)]at ho
   simp at ho
   exact .inl ⟨rfl,ho.symm⟩
  ·rw[List.getElem?_append_left (by simp;omega),List.getElem?_set]at ho
   split at ho
   ·rename_i pJ
    first
     |exact .inr (.inl ⟨pJ.symm,by simpa using ho.symm⟩)
     |(rw[if_pos bg]at ho;exact .inr (.inl ⟨pJ.symm,by simpa using ho.symm⟩))
   ·rename_i pJ
    exact .inr (.inr ⟨Ne.symm pJ,hk,ho⟩)
 have new:∀{k:Nat} {o:ad},L[k]? =some o→k≠id→(L.set id .dead++[x])[k]? =some o:=by
  intro k o ho hk
  have h1:=(List.getElem?_eq_some_iff.1 ho).1
  rw[List.getElem?_append_left (by simpa using h1),List.getElem?_set_ne (Ne.symm hk)]
  exact ho
 have aiz:(L.set id .dead++[x])[id]? =some .dead:=by
  rw[List.getElem?_append_left (by simpa using bg),List.getElem?_set_self bg]
 have arS:(L.set id .dead++[x])[L.length]? =some x:=by
  rw[List.getElem?_append_right (by simp)]
  simp
 let az:Nat→Value:=fun j=>if j=L.length then root else ρ j
 have dF:∀b,Own az (lk (L.set id .dead++[x])) b→Own ρ (lk L) b:=by
  rintro b ⟨k,o,ho,ha,hb⟩
  rcases old ho with⟨h1,h2⟩|⟨h1,h2⟩|⟨h1,h2,h3⟩
  ·simp only[az,h1,if_true]at hb
   exact⟨id,_,dq,rfl,pY b hb⟩
  ·subst h2;cases ha
  ·simp only[az,h2,if_false]at hb
   exact⟨k,o,h3,ha,hb⟩
 have st:xJ ρ L G w az (L.set id .dead++[x]):=by
  refine⟨fun k o ho=> ?_,fun k o ho=> ?_,fun b hb=>.inl ?_,fun _ _ _=>rfl,Nat.le_refl _⟩
  ·have h1:k<L.length:=(List.getElem?_eq_some_iff.1 ho).1
   simp only[az]
   rw[if_neg (by omega)]
  ·by_cases hk:k=id
   ·subst hk
    exact⟨.dead,aiz,fun c' e' hc=>by cases hc⟩
   ·exact⟨o,new ho hk,fun c' e' hc=>⟨c',e',hc,rfl,rfl⟩⟩
  ·rcases hb with hb|hb
   ·exact .inl (dF b hb)
   ·exact .inr hb
 refine⟨az,⟨fun k o ho=> ?_,fun i j oi oj b hi hj ai aj bi bj=> ?_,fun b hb=>hs.apart b (dF b hb),hs.low⟩,st, ?_⟩
 ·rcases old ho with⟨h1,h2⟩|⟨h1,h2⟩|⟨h1,h2,h3⟩
  ·rw[h2]
   simp only[az,h1,if_true]
   rw[hx]at dR
   exact dR.step st (fun _ _ _=>rfl)
  ·subst h2;trivial
  ·simp only[az,h2,if_false]
   exact(hs.obj k o h3).step st (fun _ _ _=>rfl)
 ·have cls:∀{k:Nat} {o:ad},(L.set id .dead++[x])[k]? =some o→o.alive=true→eh (az k)=some b→(k=L.length∧eh (ρ id)=some b)∨(k≠id∧k≠L.length∧L[k]? =some o∧eh (ρ k)=some b):=by
   intro k o ho ha hb
   rcases old ho with⟨h1,h2⟩|⟨h1,h2⟩|⟨h1,h2,h3⟩
   ·simp only[az,h1,if_true]at hb
    exact .inl ⟨h1,pY b hb⟩
   ·subst h2;cases ha
   ·simp only[az,h2,if_false]at hb
    exact .inr ⟨h1,h2,h3,hb⟩
  rcases cls hi ai bi with⟨h1,h2⟩|⟨h1,h2,h3,h4⟩<;>rcases cls hj aj bj with⟨k1,k2⟩|⟨k1,k2,k3,k4⟩
  ·rw[h1,k1]
  ·exact absurd (hs.inj j id oj _ b k3 dq aj rfl k4 h2) k1
  ·exact absurd (hs.inj i id oi _ b h3 dq ai rfl h4 k2) h1
  ·exact hs.inj i j oi oj b h3 k3 ai aj h4 k4
 ·simp only[az,if_true]
def qA(c:aF)(m:Nat):aF:=.ef c.size (c.n+m) fun i j=>bif i.blt c.n then c.cell i j else .aQ
theorem abK{tmps:List AV}{t:Nat}{y x:AV}(ht:tmps.getD t (.s .aQ)=y)(hy:y≠.s .aQ)(u:Nat):(tmps.set t x).getD u (.s .aQ)=if u=t then x else tmps.getD u (.s .aQ):=by
 have bg:t<tmps.length:=by
  rcases Nat.lt_or_ge t tmps.length with h|h
  ·exact h
  ·rw[List.getD,List.getElem?_eq_none h]at ht
   exact absurd ht.symm hy
 by_cases hu:u=t
 ·subst hu;rw[if_pos rfl];simp[List.getD,bg]
 ·rw[if_neg hu];simp[List.getD,List.getElem?_set_ne (Ne.symm hu)]
theorem ajw{a:Option Addr}{cap m:Nat}{c:aF}{e:TypeId}(hm:0<m)(asz:c.n+m≤cap)(h:ig ρ H O w (.slice a c.n cap) (.vec c e)):ig ρ H O w (.slice a (c.n+m) cap) (.vec (qA c m) e):=by
 obtain⟨a2,pV,h1,h2,h3,h4⟩:=h
 cases h1
 rcases h4 with h4|⟨b,o,cells,fr,us,rfl,g1,g2,g3,g4⟩
 ·omega
 ·refine⟨some ⟨b,o,none⟩,cap,rfl,asz,h3,.inr ⟨b,o,cells,fr,fun i j=>if i<c.n then us i j else cells.getD (o+i*c.size+j) undef,rfl,g1,g2,g3,fun i j hi hj=> ?_⟩⟩
  have hi:i<c.n+m:=hi
  have hj:j<c.size:=hj
  show cells[o+i*c.size+j]? =_∧aJ O w (bif i.blt c.n then c.cell i j else .aQ) _
  by_cases di:i<c.n
  ·dsimp only
   rw[if_pos di,show i.blt c.n=true from by simpa[Nat.blt,Nat.lt_iff_add_one_le]using di]
   exact g4 i j di hj
  ·dsimp only
   rw[if_neg di,show i.blt c.n=false from by
    cases hb:i.blt c.n
    ·rfl
    ·exact absurd (show i<c.n from by simpa[Nat.blt,Nat.lt_iff_add_one_le]using hb) di]
   have bg:o+i*c.size+j<cells.length:=by
    have:(i+1)*c.size≤cap*c.size:=Nat.mul_le_mul_right _ (by omega)
    rw[Nat.succ_mul]at this
    omega
   have e:cells[o+i*c.size+j]? =some (cells.getD (o+i*c.size+j) undef):=by simp[List.getD,bg]
   exact⟨e,.aQ _ (g2.2 _ (List.mem_of_getElem? e))⟩
theorem ag6{f:FuncId}{tmps:List AV}{todo:List Item}{t id m:Nat}{c:aF}{e:TypeId}(ht:tmps.getD t (.s .aQ)=.vec id)(dq:L[id]? =some (.vec c e))(hm:0<m)
 {stk:nN} (hA:Safe P f X K ⟨tmps.set t (.part L.length 0 c.n),L.set id .dead++[.vec (qA c m) e],todo,stk⟩)
 (hB:Safe P f X K ⟨tmps.set t (.s (.yz c (c.n+m))),L.set id .dead,todo,stk⟩):Safe P f X K ⟨tmps,L,todo,stk⟩:=by
 intro G E ρ a w gZ ia hr bf tf fsf hwf
 have hs:Sat ρ (lk L) G w:=hr.sat
 have hd:=hr.den t
 rw[show(St.tmps ⟨tmps,L⟩).getD t (.s .aQ)=.vec id from ht]at hd
 obtain⟨a0,cap,hv,dN,hle,ac3⟩:=ju hs dq hd
 have dR:=hs.obj id _ dq
 rw[dN,hv]at dR
 have bg:id<L.length:=(List.getElem?_eq_some_iff.1 dq).1
 by_cases hc:c.n+m≤cap
 ·obtain⟨az,s',st,hρ⟩:=ap6 hs dq (root:=.slice a0 (c.n+m) cap) (c2:=qA c m) (fun b hb=>by
   rw[dN,hv]
   cases a0 with
   |none=>simp[eh]at hb
   |some y=>simpa[eh]using hb) (ajw hm hc dR)
  refine hA G E az a w gZ ia ⟨s',by rw[List.length_set];exact hr.size,fun u=> ?_,hr.defers,hr.from_.trans st,hr.iW,hr.kept⟩ bf tf fsf hwf
  show ab az _ _ w ((tmps.set t (.part L.length 0 c.n)).getD u (.s .aQ)) _
  rw[abK ht (by simp)]
  by_cases hu:u=t
  ·subst hu
   rw[if_pos rfl,hv]
   unfold ab ay
   refine⟨rfl,.vec (qA c m) e,by show(L.set id .dead++[_])[L.length]? =_;rw[List.getElem?_append_right (by simp)];simp,fun c' e' he=> ?_⟩
   cases he
   refine⟨by show 0+c.n≤c.n+m;omega,a0,cap,a0,hρ,hc,by simp,fun _=> ?_⟩
   rw[Nat.zero_mul]
   cases a0 with
   |none=>rfl
   |some y=>simp[Addr.add]
  ·rw[if_neg hu]
   exact(hr.den u).step st
 ·have eL:lk (L.set id .dead)=aB (lk L) id .dead:=by
   funext k
   show(L.set id .dead)[k]? =_
   rw[List.getElem?_set]
   by_cases hk:id=k
   ·subst hk;simp[aB,bg]
   ·rw[if_neg hk];simp[aB,Ne.symm hk]
  have st:xJ ρ L G w ρ (L.set id .dead):=by
   show Step ρ (lk L) _ w ρ (lk (L.set id .dead)) (aK ρ (lk (L.set id .dead)) G) w
   rw[eL]
   exact fA (H:=lk L) dq
  have hs':Sat ρ (lk (L.set id .dead)) G w:=by rw[eL];exact Sat.kill hs dq
  refine hB G E ρ a w gZ ia ⟨hs',by rw[List.length_set];exact hr.size,fun u=> ?_,hr.defers,hr.from_.trans st,hr.iW,hr.kept⟩ bf tf fsf hwf
  show ab ρ _ _ w ((tmps.set t (.s (.yz c (c.n+m)))).getD u (.s .aQ)) _
  rw[abK ht (by simp)]
  by_cases hu:u=t
  ·subst hu
   rw[if_pos rfl,hv]
   refine aq (.yz _ _ _ _ _ ?_ (by omega))
   obtain⟨a2,pV,h1,h2,h3,h4⟩:=dR
   cases h1
   rcases h4 with rfl|⟨b,o,cells,fr,us,rfl,g1,g2,g3,g4⟩
   ·exact .ro c a0 0 (fun _ _=>undef) 0 0 hle ac3 (fun h=>by omega) (fun i j hi _=>by omega) (fun i j hi _=>by omega)
   ·refine .ro c _ cap us b o hle ac3 (fun h0=>⟨rfl, ?_, ?_⟩) (fun i j hi hj=> ?_) (fun i j hi hj=>((g4 i j hi hj).2).step st.fK st.heap st.size)
    ·have hb:eh (ρ id)=some b:=by
      rw[dN,hv]
      simp only[eh]
      rw[if_neg (by omega)]
     rintro(⟨k,ok,hk,ha,hb2⟩|hG)
     ·have hk:(L.set id .dead)[k]? =some ok:=hk
      rw[List.getElem?_set]at hk
      split at hk
      ·rename_i e1
       first
        |(simp only[Option.some.injEq]at hk;subst hk;cases ha)
        |(rw[if_pos bg]at hk;simp only[Option.some.injEq]at hk;subst hk;cases ha)
      ·rename_i e1
       exact e1 (hs.inj id k _ ok b dq hk rfl ha hb hb2)
     ·exact hs.apart b ⟨id,_,dq,rfl,hb⟩ hG
    ·exact(Array.getElem?_eq_some_iff.1 g1).1
    ·have:=(g4 i j hi hj).1
     simp only[World.cell?,g1]
     simp[this]
  ·rw[if_neg hu]
   exact(hr.den u).step st
theorem ajx{f:FuncId}{tmps:List AV}{todo:List Item}{stk:nN}{id:Nat}{c c':aF}{e:TypeId}(dq:L[id]? =some (.vec c e))(hn:c'.n=c.n)(bH:c'.size=c.size)(hc:∀i j,i<c.n→j<c.size→c'.cell i j=c.cell i j)
 (h:Safe P f X K ⟨tmps,L.set id (.vec c' e),todo,stk⟩):Safe P f X K ⟨tmps,L,todo,stk⟩:=by
 intro G E ρ a w gZ ia hr b t fs hw
 have hs:Sat ρ (lk L) G w:=hr.sat
 have bg:id<L.length:=(List.getElem?_eq_some_iff.1 dq).1
 have eL:lk (L.set id (.vec c' e))=aB (lk L) id (.vec c' e):=by
  funext k
  show(L.set id (.vec c' e))[k]? =_
  rw[List.getElem?_set]
  by_cases hk:id=k
  ·subst hk;simp[aB,bg]
  ·rw[if_neg hk];simp[aB,Ne.symm hk]
 have dR:ig ρ (aB (lk L) id (.vec c' e)) (aK ρ (lk L) G) w (ρ id) (.vec c' e):=by
  obtain⟨a2,pV,h1,h2,h3,h4⟩:=hs.obj id _ dq
  refine⟨a2,pV,by rw[hn];exact h1,by omega,h3, ?_⟩
  rcases h4 with h4|⟨b,o,cells,fr,us,rfl,g1,g2,g3,g4⟩
  ·exact .inl h4
  ·refine .inr ⟨b,o,cells,fr,us,rfl,g1,g2,by rw[bH];exact g3,fun i j hi hj=> ?_⟩
   rw[hn]at hi
   rw[bH]at hj
   rw[bH,hc i j hi hj]
   exact g4 i j hi hj
 obtain⟨az,s',_,st,_⟩:=Good.upd (H:=lk L) (o':=.vec c' e) (r:=.s .aQ) (v:=undef) hs dq rfl (fun c2 e2 he=>by cases he;exact⟨c,e,rfl,hn,bH⟩) dR (by unfold ab;trivial)
 rw[←eL]at s' st
 exact h G E az a w gZ ia ⟨s',hr.size,fun u=>(hr.den u).step st,hr.defers,hr.from_.trans st,hr.iW,hr.kept⟩ b t fs hw
theorem ag7{f:FuncId}{tmps:List AV}{todo:List Item}{stk:nN}{t id n:Nat}{c:aF}{e:TypeId}(ht:tmps.getD t (.s .aQ)=.part id 0 n)(dq:L[id]? =some (.vec c e))(hn:n=c.n)(h0:0<n)
 (h:Safe P f X K ⟨tmps.set t (.vec id),L,todo,stk⟩):Safe P f X K ⟨tmps,L,todo,stk⟩:=by
 intro G E ρ a w gZ ia hr b tf fs hw
 have hd:=hr.den t
 rw[show(St.tmps ⟨tmps,L⟩).getD t (.s .aQ)=.part id 0 n from ht]at hd
 refine h G E ρ a w gZ ia (hr.ze ht ?_) b tf fs hw
 have hd0:=hd
 unfold ab ay at hd
 obtain⟨h1,o,ho,hv⟩:=hd
 have:o=.vec c e:=by
  have:(St.look ⟨tmps,L⟩) id=some (.vec c e):=dq
  rw[this]at ho;cases ho;rfl
 subst this
 obtain⟨hle,a1,cap,a2,k1,k2,k3,k4⟩:=hv c e rfl
 have wJ:cap≠0:=by omega
 unfold ab ay
 refine⟨h1,.vec c e,ho,fun c' e' he=> ?_⟩
 cases he
 rw[k3,k1,k4 wJ,Nat.sub_zero,hn,Nat.zero_mul]
 cases a1 with
 |none=>rfl
 |some y=>simp[Addr.add]
end
end Go.Sx
namespace Lf
open Go Go.Sx Go.Proofs
def lM{α:Type}(l:List α)(k:Nat)(x:α):List α:=l.take k++x::l.drop k
def afo:Spec (List En×En×Nat):=⟨fun x=>[.vec 0,.s (.int .i64 (x.2.2:Int)),.vec 1],fun x=>[.vec (.ae cE x.1) eE,.vec (.ae cE [x.2.1]) eE],fun x=>[x.2.2≤x.1.length,x.1.length≤100000],fun x=>[.dead,.vec (.ae cE [x.2.1]) eE,.vec (.ae cE (lM x.1 x.2.2 x.2.1)) eE],fun x=>.vec 2⟩
def aol:List (Nat×Norm):=[(8,⟨[],[0,1,2,7,8],2,[]⟩)]
noncomputable def cIA(l:List (CL cE))(x:CL cE)(k:Nat):bC:=⟨sl 95 [(0,.part 2 0 l.length),(1,.s (.int .i64 (k:Int))),(2,.vec 1),(7,.s (.int .i64 ((1:Nat):Int))),(8,.s (.int .i64 (l.length:Int)))],[.dead,.vec (.ae cE [x]) eE,.vec (qA (.ae cE l) 1) eE],hr Tryd.f69 8,{}⟩
noncomputable def cIB(l:List (CL cE))(x:CL cE)(k:Nat):bC:=⟨sl 95 [(0,.s (.yz (.ae cE l) (l.length+1))),(1,.s (.int .i64 (k:Int))),(2,.vec 1),(7,.s (.int .i64 ((1:Nat):Int))),(8,.s (.int .i64 (l.length:Int)))],[.dead,.vec (.ae cE [x]) eE],hr Tryd.f69 8,{}⟩
def asA:List (Nat×Norm):=[(17,⟨[],[0],3,[]⟩)]
theorem ama(l:List (CL cE))(x:CL cE)(k:Nat):run P (aH.sum []) Tryd.f69 aol (start Tryd.f69 [.vec 0,.s (.int .i64 (k:Int)),.vec 1] [.vec (.ae cE l) eE,.vec (.ae cE [x]) eE])=
 Tree.need ((0:Int)≤(↑k:Int)) (.need ((↑k:Int)≤(↑l.length:Int)) (.need ((↑(0:Nat):Int)+(↑l.length:Int)≤(↑l.length:Int)) (.ite false (.ret [.vec (.ae [.str,.str] l) 34,.vec (.ae [.str,.str] [x]) 34] (.vec 0)) (.ite ((↑k:Int)==(↑l.length:Int)) (.need ((l.length+1)*(32:Nat)≤140737488355328) (.ret [.dead,.vec (.ae [.str,.str] [x]) 34,.vec (.ae [.str,.str] (l++[x])) 34] (.vec 2))) (.at (.mk (sl 95 [(0,.vec 0),(1,.s (.int .i64 (↑k:Int))),(2,.vec 1),(7,.s (.int .i64 (↑(1:Nat):Int))),(8,.s (.int .i64 (↑l.length:Int)))]) [.vec (.ae [.str,.str] l) 34,.vec (.ae [.str,.str] [x]) 34] (hr Tryd.f69 8) (.mk none false 0 [] 0))))))):=by kernel_rfl
theorem ap7(l:List (CL cE))(x:CL cE)(k:Nat):run P (aH.sum []) Tryd.f69 asA (cIA l x k)=
 Tree.need (aD ((↑l.length:Int)+(1:Int)))
 (Tree.need ((↑l.length:Int)+(1:Int)≤(↑(l.length+(1:Nat) - (0:Nat)):Int))
   (Tree.need (aD ((↑l.length:Int)+(1:Int)))
     (Tree.need ((0:Int)≤(0:Int))
       (Tree.need ((0:Int)≤(↑l.length:Int)+(1:Int))
         (Tree.need ((↑(0:Nat):Int)+((↑l.length:Int)+(1:Int))≤(↑(l.length+(1:Nat)):Int))
           (Tree.need (aD ((↑k:Int)+(1:Int)))
             (Tree.need ((0:Int)≤(↑k:Int)+(1:Int))
               (Tree.need ((↑k:Int)+(1:Int)≤(↑(((↑l.length:Int)+(1:Int)).toNat - Int.toNat (0:Int)):Int))
                 (Tree.need ((↑(0:Nat):Int)+(↑(((↑l.length:Int)+(1:Int)).toNat - Int.toNat (0:Int)):Int)≤(↑(l.length+(1:Nat)):Int)) (Tree.need (ao7 P (86:Nat)) (Tree.need (aD ((↑k:Int)+(1:Int))) (Tree.need ((0:Int)≤(↑k:Int)+(1:Int)) (Tree.need ((↑k:Int)+(1:Int)≤(↑(((↑l.length:Int)+(1:Int)).toNat - Int.toNat (0:Int)):Int)) (Tree.need ((↑(0:Nat):Int)+(↑(((↑l.length:Int)+(1:Int)).toNat - Int.toNat (0:Int)):Int)≤(↑(l.length+(1:Nat)):Int)) (Tree.need ((0:Int)≤(↑k:Int)) (Tree.need ((↑k:Int)≤(↑(((↑l.length:Int)+(1:Int)).toNat - Int.toNat (0:Int)):Int)) (Tree.need ((↑(0:Nat):Int)+(↑(((↑l.length:Int)+(1:Int)).toNat - Int.toNat (0:Int)):Int)≤(↑(l.length+(1:Nat)):Int)) (Tree.need ((0:Int)≤(↑k:Int)) (Tree.need ((↑k:Int)≤(↑(((↑l.length:Int)+(1:Int)).toNat - Int.toNat (0:Int)):Int)) (Tree.need ((↑(0:Nat):Int)+(↑(((↑l.length:Int)+(1:Int)).toNat - Int.toNat (0:Int)):Int)≤(↑(l.length+(1:Nat)):Int)) (Tree.at (bC.mk (sl (95:Nat) [((0:Nat),AV.part (2:Nat) (0:Nat) (((↑l.length:Int)+(1:Int)).toNat - Int.toNat (0:Int)))]) [ad.dead,ad.vec (aF.ae [CK.str,CK.str] [x]) (34:Nat),ad.vec (aF.ef (aF.ef (aF.ef (aF.ae cE l).size (l.length+(1:Nat)) fun(i j:Nat)=>bif i.blt l.length then(aF.ae cE l).cell i j else SV.aQ).size (l.length+(1:Nat)) fun(i j:Nat)=>bif ((0:Nat)+((↑k:Int)+(1:Int)).toNat).ble i&&i.blt ((0:Nat)+((↑k:Int)+(1:Int)).toNat+min ((0:Nat)+(↑k:Int).toNat+((↑(((↑l.length:Int)+(1:Int)).toNat - Int.toNat (0:Int)):Int).toNat - (↑k:Int).toNat) - ((0:Nat)+(↑k:Int).toNat)) ((↑(((↑l.length:Int)+(1:Int)).toNat - Int.toNat (0:Int)):Int).toNat - ((↑k:Int)+(1:Int)).toNat))then(dr (aF.ef (aF.ae cE l).size (l.length+(1:Nat)) fun(i j:Nat)=>bif i.blt l.length then(aF.ae cE l).cell i j else SV.aQ) ((0:Nat)+(↑k:Int).toNat) ((0:Nat)+(↑k:Int).toNat+((↑(((↑l.length:Int)+(1:Int)).toNat - Int.toNat (0:Int)):Int).toNat - (↑k:Int).toNat))).cell (i - ((0:Nat)+((↑k:Int)+(1:Int)).toNat)) j else(aF.ef (aF.ae cE l).size (l.length+(1:Nat)) fun(i j:Nat)=>bif i.blt l.length then(aF.ae cE l).cell i j else SV.aQ).cell i j).size (l.length+(1:Nat)) fun(i j:Nat)=>bif ((0:Nat)+(↑k:Int).toNat).ble i&&i.blt ((0:Nat)+(↑k:Int).toNat+min (1:Nat) ((↑(((↑l.length:Int)+(1:Int)).toNat - Int.toNat (0:Int)):Int).toNat - (↑k:Int).toNat))then(aF.ae [CK.str,CK.str] [x]).cell (i - ((0:Nat)+(↑k:Int).toNat)) j else(aF.ef (aF.ef (aF.ae cE l).size (l.length+(1:Nat)) fun(i j:Nat)=>bif i.blt l.length then(aF.ae cE l).cell i j else SV.aQ).size (l.length+(1:Nat)) fun(i j:Nat)=>bif ((0:Nat)+((↑k:Int)+(1:Int)).toNat).ble i&&i.blt ((0:Nat)+((↑k:Int)+(1:Int)).toNat+min ((0:Nat)+(↑k:Int).toNat+((↑(((↑l.length:Int)+(1:Int)).toNat - Int.toNat (0:Int)):Int).toNat - (↑k:Int).toNat) - ((0:Nat)+(↑k:Int).toNat)) ((↑(((↑l.length:Int)+(1:Int)).toNat - Int.toNat (0:Int)):Int).toNat - ((↑k:Int)+(1:Int)).toNat))then(dr (aF.ef (aF.ae cE l).size (l.length+(1:Nat)) fun(i j:Nat)=>bif i.blt l.length then(aF.ae cE l).cell i j else SV.aQ) ((0:Nat)+(↑k:Int).toNat) ((0:Nat)+(↑k:Int).toNat+((↑(((↑l.length:Int)+(1:Int)).toNat - Int.toNat (0:Int)):Int).toNat - (↑k:Int).toNat))).cell (i - ((0:Nat)+((↑k:Int)+(1:Int)).toNat)) j else(aF.ef (aF.ae cE l).size (l.length+(1:Nat)) fun(i j:Nat)=>bif i.blt l.length then(aF.ae cE l).cell i j else SV.aQ).cell i j).cell i j) (34:Nat)] (hr Tryd.f69 (17:Nat)) (nN.mk none false (0:Nat) [] (0:Nat)))))))))))))))))))))))):=by kernel_rfl
noncomputable def cIC(l:List (CL cE))(x:CL cE):bC:=⟨sl 95 [(0,.vec 2)],[.dead,.vec (.ae cE [x]) eE,.vec (.ae cE l) eE],hr Tryd.f69 17,{}⟩
theorem ap8(l:List (CL cE))(x:CL cE):run P (aH.sum []) Tryd.f69 [] (cIC l x)=
 Tree.ret [.dead,.vec (.ae [.str,.str] [x]) 34,.vec (.ae [.str,.str] l) 34] (.vec 2):=by kernel_rfl
theorem ap9(l:List (CL cE))(x:CL cE)(k:Nat):run P (aH.sum []) Tryd.f69 [] (cIB l x k)=
 Tree.need (aD ((↑l.length:Int)+1))
 (.need ((↑(l.length+1):Int)≤(↑l.length:Int)+1) (.need ((0:Int)≤(↑k:Int)) (.need ((↑k:Int)≤(↑l.length:Int)) (.need (aD ((↑l.length:Int)+1)) (.need (aD ((↑l.length:Int)+1 - (↑k:Int))) (.need ((0:Int)<(↑l.length:Int)+1 - (↑k:Int)) (.need ((↑(l.length+1):Int)≤(↑(List.drop 0 (List.take (↑k:Int).toNat l)).length:Int)+((↑l.length:Int)+1 - (↑k:Int))) (.need ((↑(List.drop 0 (List.take (↑k:Int).toNat l)).length:Int)+((↑l.length:Int)+1 - (↑k:Int))≤4294967296) (.need ((0:Int)≤(↑k:Int)) (.need ((↑k:Int)≤(↑(List.drop 0 (List.take (↑k:Int).toNat l)++List.replicate ((↑l.length:Int)+1 - (↑k:Int)).toNat (CL.d [.str,.str])).length:Int)) (.need ((↑(0:Nat):Int)+(↑(List.drop 0 (List.take (↑k:Int).toNat l)++List.replicate ((↑l.length:Int)+1 - (↑k:Int)).toNat (CL.d [.str,.str])).length:Int)≤(↑(List.drop 0 (List.take (↑k:Int).toNat l)++List.replicate ((↑l.length:Int)+1 - (↑k:Int)).toNat (CL.d [.str,.str])).length:Int)) (.need (aD ((↑k:Int)+1)) (.need ((0:Int)≤(↑k:Int)+1) (.need ((↑k:Int)+1≤(↑(over (List.drop 0 (List.take (↑k:Int).toNat l)++List.replicate ((↑l.length:Int)+1 - (↑k:Int)).toNat (CL.d [.str,.str])) ((0:Nat)+(↑k:Int).toNat) (min 1 ((↑(List.drop 0 (List.take (↑k:Int).toNat l)++List.replicate ((↑l.length:Int)+1 - (↑k:Int)).toNat (CL.d [.str,.str])).length:Int).toNat - (↑k:Int).toNat)) [x]).length:Int)) (.need ((↑(0:Nat):Int)+(↑(over (List.drop 0 (List.take (↑k:Int).toNat l)++List.replicate ((↑l.length:Int)+1 - (↑k:Int)).toNat (CL.d [.str,.str])) ((0:Nat)+(↑k:Int).toNat) (min 1 ((↑(List.drop 0 (List.take (↑k:Int).toNat l)++List.replicate ((↑l.length:Int)+1 - (↑k:Int)).toNat (CL.d [.str,.str])).length:Int).toNat - (↑k:Int).toNat)) [x]).length:Int)≤(↑(over (List.drop 0 (List.take (↑k:Int).toNat l)++List.replicate ((↑l.length:Int)+1 - (↑k:Int)).toNat (CL.d [.str,.str])) ((0:Nat)+(↑k:Int).toNat) (min 1 ((↑(List.drop 0 (List.take (↑k:Int).toNat l)++List.replicate ((↑l.length:Int)+1 - (↑k:Int)).toNat (CL.d [.str,.str])).length:Int).toNat - (↑k:Int).toNat)) [x]).length:Int)) (.need ((0:Int)≤(↑k:Int)) (.need ((↑k:Int)≤(↑l.length:Int)) (.need ((↑l.length:Int)≤(↑l.length:Int)) (.ret [.dead,.vec (.ae [.str,.str] [x]) 34,.vec (.ae [.str,.str] (over (over (List.drop 0 (List.take (↑k:Int).toNat l)++List.replicate ((↑l.length:Int)+1 - (↑k:Int)).toNat (CL.d [.str,.str])) ((0:Nat)+(↑k:Int).toNat) (min 1 ((↑(List.drop 0 (List.take (↑k:Int).toNat l)++List.replicate ((↑l.length:Int)+1 - (↑k:Int)).toNat (CL.d [.str,.str])).length:Int).toNat - (↑k:Int).toNat)) [x]) ((0:Nat)+((↑k:Int)+1).toNat) (min (List.drop (↑k:Int).toNat (List.take (↑l.length:Int).toNat l)).length ((↑(over (List.drop 0 (List.take (↑k:Int).toNat l)++List.replicate ((↑l.length:Int)+1 - (↑k:Int)).toNat (CL.d [.str,.str])) ((0:Nat)+(↑k:Int).toNat) (min 1 ((↑(List.drop 0 (List.take (↑k:Int).toNat l)++List.replicate ((↑l.length:Int)+1 - (↑k:Int)).toNat (CL.d [.str,.str])).length:Int).toNat - (↑k:Int).toNat)) [x]).length:Int).toNat - ((↑k:Int)+1).toNat)) (List.drop (↑k:Int).toNat (List.take (↑l.length:Int).toNat l)))) 34] (.vec 2)))))))))))))))))))):=by kernel_rfl
theorem ag8{α:Type}{xs ys:List α}{lo k:Nat}(hk:k=ys.length)(h:lo+ys.length=xs.length):over xs lo k ys=xs.take lo++ys:=by
 subst hk
 rw[over,List.take_of_length_le (Nat.le_refl _),List.drop_of_length_le (by omega),List.append_nil]
theorem sP{α:Type}{l:List α}{k:Nat}{x:α}(h:k≤l.length):(lM l k x).length=l.length+1:=by
 simp only[lM,List.length_append,List.length_take,List.length_cons,List.length_drop];omega
theorem ajy{α:Type}(l:List α)(x:α):lM l l.length x=l++[x]:=by simp[lM]
theorem ag9{α:Type}{l:List α}{k:Nat}{x d:α}(h:k≤l.length)(i:Nat):(lM l k x).getD i d=if i<k then l.getD i d else if i=k then x else l.getD (i - 1) d:=by
 simp only[lM,List.getD]
 split
 ·rw[List.getElem?_append_left (by simp;omega),List.getElem?_take,if_pos (by assumption)]
 ·rw[List.getElem?_append_right (by simp;omega)]
  rw[List.length_take,Nat.min_eq_left h]
  split
  ·rename_i h2;subst h2;simp
  ·rw[show i - k=(i - 1 - k)+1 from by omega,List.getElem?_cons_succ,List.getElem?_drop]
   congr 2;omega
theorem asB:ao7 P 86:=⟨Tryd.f86,Tryd.f86.params.getD 0 0,eE,Tryd.f86.resultTypes.getD 0 0,2,Tryd.func86,by kernel_rfl,by kernel_rfl,by kernel_rfl,by kernel_rfl,by kernel_rfl,by kernel_rfl⟩
theorem ajz{α:Type}{l:List α}{k:Nat}{x d:α}(hk:k<l.length):
 over (over (List.drop 0 (List.take (k:Int).toNat l)++List.replicate ((l.length:Int)+(1:Int) - (k:Int)).toNat d) (0+(k:Int).toNat) (min 1 (((List.drop 0 (List.take (k:Int).toNat l)++List.replicate ((l.length:Int)+(1:Int) - (k:Int)).toNat d).length:Int).toNat - (k:Int).toNat)) [x]) (0+((k:Int)+(1:Int)).toNat) (l.length - k) (List.drop (k:Int).toNat (List.take (l.length:Int).toNat l))=lM l k x:=by
 have e1:(k:Int).toNat=k:=by omega
 have e2:((l.length:Int)+(1:Int) - (k:Int)).toNat=l.length+1 - k:=by omega
 have e3:((k:Int)+(1:Int)).toNat=k+1:=by omega
 have e4:(l.length:Int).toNat=l.length:=by omega
 rw[e1,e2,e3,e4,List.drop_zero,Nat.zero_add,Nat.zero_add,List.take_of_length_le (Nat.le_refl l.length)]
 have hA:(List.take k l++List.replicate (l.length+1 - k) d).length=l.length+1:=by
  simp only[List.length_append,List.length_take,List.length_replicate];omega
 rw[hA,show min 1 (((l.length+1:Nat):Int).toNat - k)=1 from by omega]
 have hov:(over (List.take k l++List.replicate (l.length+1 - k) d) k 1 [x]).length=l.length+1:=by
  rw[fm _ _ (by rw[hA];omega) (by simp),hA]
 rw[ag8 (by rw[List.length_drop]) (by rw[hov,List.length_drop];omega)]
 rw[over,List.take_left' (by simp only[List.length_append,List.length_take,List.length_replicate,List.length_cons,List.length_nil];omega)]
 rw[List.take_left' (by rw[List.length_take];omega)]
 simp[lM]
theorem zP{a b:Nat}:a.blt b=decide (a<b):=by
 by_cases h:a<b
 ·rw[decide_eq_true h];simpa[Nat.blt,Nat.lt_iff_add_one_le]using h
 ·rw[decide_eq_false h]
  cases hb:a.blt b with
  |false=>rfl
  |true=>exact absurd (by simpa[Nat.blt,Nat.lt_iff_add_one_le]using hb) h
theorem zQ{a b:Nat}:a.ble b=decide (a≤b):=by
 by_cases h:a≤b
 ·rw[decide_eq_true h];exact Nat.ble_eq_true_of_le h
 ·rw[decide_eq_false h]
  cases hb:a.ble b with
  |false=>rfl
  |true=>exact absurd (Nat.le_of_ble_eq_true hb) h
theorem aqa{Z:bd}:jA P Z 69 afo:=by
 refine aO Tryd.func69 (by kernel_rfl) (fun x=>Nat.le_of_ble_eq_true (by kernel_rfl)) ?_
 rintro⟨(l:List (CL cE)),(x:CL cE),(k:Nat)⟩ ⟨(hk:k≤l.length),(hl:l.length≤100000),_⟩ X hX hz
 refine eR hz hX (by intro y hy;simp[aol]at hy;subst hy;exact Nat.le_refl _) aH.Ok.nil Tryd.func69 (ama l x k) ⟨by omega,by omega,by omega,(fun h=>nomatch h),fun _=>⟨fun h=>⟨by omega,⟨⟨[],[0],2,[]⟩,Nat.le_refl _, ?_⟩⟩,fun h=> ?_⟩⟩
 ·have hkl:k=l.length:=by have:=eq_of_beq h;omega
  subst hkl
  show Norm.run _ _=some ⟨[.vec 2],[.dead,.vec (.ae cE [x]) eE,.vec (.ae cE (lM l l.length x)) eE],[],{}⟩
  rw[ajy]
  kernel_rfl
 have hkl:k<l.length:=by
  rcases Nat.lt_or_ge k l.length with h1|h1
  ·exact h1
  ·have:k=l.length:=by omega
   subst this
   simp at h
 refine ag6 (t:=0) (id:=0) (m:=1) (c:=.ae cE l) (e:=eE) rfl rfl (by omega) ?_ ?_
 ·
  refine(show Safe P 69 X _ (cIA l x k)from ?_)
  have e1:((l.length:Int)+(1:Int)).toNat - Int.toNat 0=l.length+1:=by omega
  have tr:=ap7 l x k
  rw[e1]at tr
  refine eR hz hX (by intro y hy;simp[asA]at hy;subst hy;show 2≤3;omega) aH.Ok.nil Tryd.func69 tr ⟨⟨by omega,by omega⟩,by omega,⟨by omega,by omega⟩,by omega,by omega,by omega,⟨by omega,by omega⟩,by omega,by omega,by omega,asB,⟨by omega,by omega⟩,by omega,by omega,by omega,by omega,by omega,by omega,by omega,by omega,by omega, ?_⟩
  refine ajx (id:=2) (c':=.ae cE (lM l k x)) rfl ?_ rfl ?_ ?_
  ·exact sP (by omega)
  ·intro i j hi hj
   have hi:i<l.length+1:=hi
   show CL.cell cE ((lM l k x).getD i (CL.d cE)) j=_
   rw[ag9 (by omega)]
   by_cases h1:i<k
   ·have p1:¬(0+(k:Int).toNat≤i):=by omega
    have p2:¬(0+((k:Int)+(1:Int)).toNat≤i):=by omega
    have p3:i<l.length:=by omega
    simp only[aF.cell,zP,zQ,p1,p2,p3,h1,decide_false,decide_true,Bool.false_and,cond_false,cond_true,if_true]
   ·by_cases h2:i=k
    ·subst h2
     have p1:0+(i:Int).toNat≤i:=by omega
     have p2:i<0+(i:Int).toNat+min 1 (((l.length+1:Nat):Int).toNat - (i:Int).toNat):=by omega
     have p3:i - (0+(i:Int).toNat)=0:=by omega
     simp only[aF.cell,zP,zQ,p1,p2,p3,h1,decide_true,Bool.true_and,cond_true,if_true,if_false,List.getD_cons_zero]
    ·have p1:¬(i<0+(k:Int).toNat+min 1 (((l.length+1:Nat):Int).toNat - (k:Int).toNat)):=by omega
     have p2:0+((k:Int)+(1:Int)).toNat≤i:=by omega
     have p3:i<0+((k:Int)+(1:Int)).toNat+min (0+(k:Int).toNat+(((l.length+1:Nat):Int).toNat - (k:Int).toNat) - (0+(k:Int).toNat)) (((l.length+1:Nat):Int).toNat - ((k:Int)+(1:Int)).toNat):=by omega
     have p4:0+(k:Int).toNat+(i - (0+((k:Int)+(1:Int)).toNat))=i - 1:=by omega
     have p5:i - 1<l.length:=by omega
     simp only[aF.cell,dr,zP,zQ,p1,p2,p3,p4,p5,h1,h2,decide_true,decide_false,Bool.and_false,Bool.and_true,cond_true,cond_false,if_false]
  ·refine ag7 (t:=0) (id:=2) (c:=.ae cE (lM l k x)) (e:=eE) rfl rfl (sP (by omega)).symm (by omega) ?_
   refine eR hz hX (by intro y hy;simp at hy) aH.Ok.nil Tryd.func69 (ap8 (lM l k x) x) ⟨⟨[],[0],2,[]⟩,Nat.le_refl _, ?_⟩
   show Norm.run _ _=some ⟨[.vec 2],[.dead,.vec (.ae cE [x]) eE,.vec (.ae cE (lM l k x)) eE],[],{}⟩
   kernel_rfl
 ·
  refine(show Safe P 69 X _ (cIB l x k)from ?_)
  have tr:=ap9 l x k
  have eA:(List.drop 0 (List.take (k:Int).toNat l)++List.replicate ((l.length:Int)+(1:Int) - (k:Int)).toNat (CL.d cE)).length=l.length+1:=by
   simp only[List.drop_zero,List.length_append,List.length_take,List.length_replicate];omega
  have eB:(over (List.drop 0 (List.take (k:Int).toNat l)++List.replicate ((l.length:Int)+(1:Int) - (k:Int)).toNat (CL.d cE)) (0+(k:Int).toNat) (min 1 (((List.drop 0 (List.take (k:Int).toNat l)++List.replicate ((l.length:Int)+(1:Int) - (k:Int)).toNat (CL.d cE)).length:Int).toNat - (k:Int).toNat)) [x]).length=l.length+1:=by
   rw[fm _ _ (by rw[eA];omega) (by simp;omega),eA]
  have eC:(List.drop 0 (List.take (k:Int).toNat l)).length=k:=by simp only[List.drop_zero,List.length_take];omega
  have e1:(min (List.drop (k:Int).toNat (List.take (l.length:Int).toNat l)).length (((over (List.drop 0 (List.take (k:Int).toNat l)++List.replicate ((l.length:Int)+(1:Int) - (k:Int)).toNat (CL.d cE)) (0+(k:Int).toNat) (min 1 (((List.drop 0 (List.take (k:Int).toNat l)++List.replicate ((l.length:Int)+(1:Int) - (k:Int)).toNat (CL.d cE)).length:Int).toNat - (k:Int).toNat)) [x]).length:Int).toNat - ((k:Int)+(1:Int)).toNat))=l.length - k:=by
   rw[eB];simp only[List.length_drop,List.length_take];omega
  rw[e1,ajz hkl,eB,eA,eC]at tr
  refine eR hz hX (by intro y hy;simp at hy) aH.Ok.nil Tryd.func69 tr ⟨⟨by omega,by omega⟩,by omega,by omega,by omega,⟨by omega,by omega⟩,⟨by omega,by omega⟩,by omega,by omega,by omega,by omega,by omega,by omega,⟨by omega,by omega⟩,by omega,by omega,by omega,by omega,by omega,by omega,⟨⟨[],[0],2,[]⟩,Nat.le_refl _, ?_⟩⟩
  show Norm.run _ _=some ⟨[.vec 2],[.dead,.vec (.ae cE [x]) eE,.vec (.ae cE (lM l k x)) eE],[],{}⟩
  kernel_rfl
end Lf
namespace Lf
open Go Go.Sx Go.Proofs
def asC:List AV→RM ((List En×En×Nat)×List Nat)
 |[.vec id,.s (.int .i64 i),.vec id2]=>.look id fun o=>match o with
  |some (.vec (.ae [.str,.str] l) _)=>.look id2 fun o=>match o with
   |some (.vec (.ae [.str,.str] [x]) _)=>.ret ((l,x,i.toNat),[id,id2])
   |_=>.fail "insert: no element"
  |_=>.fail "insert: no row"
 |_=>.fail "insert"
def ajA:aH:=[(58,zL),(68,ap3),(69,dA afo asC)]
theorem amb(l:List (CL cE))(key val:ByteArray):run P ajA.sum Tryd.f50 [] (start Tryd.f50 [.s (.ro (.ae cE l)),.s (.str key),.s (.str val)] [])=
 Tree.need (l.length≤1000000) (.need (ir (bA l)) (.need (l.length≤100000) (.ite (jq (bA l) key) (.need ((0:Int)≤(↑(cr (bA l) key):bq.V)) (.need ((↑(cr (bA l) key):bq.V)<(↑l.length:Int)) (.ret [.vec (.ae [.str,.str] (l.set (Int.toNat (↑(cr (bA l) key):bq.V)) ((l.getD (Int.toNat (↑(cr (bA l) key):bq.V)) (CL.d [.str,.str])).fst,val,()))) 34] (.vec 0)))) (.need (some [AV.vec 0,.s (.int .i64 (↑(cr (bA l) key):bq.V)),.vec 1]=some [AV.vec 0,.s (.int .i64 (↑(Int.toNat (↑(cr (bA l) key):bq.V)):Int)),.vec 1]) (.need (some [ad.vec (.ae [.str,.str] l) 34,.vec (.ae [.str,.str] [(key,val,())]) 34]=some [ad.vec (.ae [.str,.str] l) 34,.vec (.ae [.str,.str] [(key,val,())]) 34]) (.need (Int.toNat (↑(cr (bA l) key):bq.V)≤l.length) (.need (l.length≤100000) (.ret [.dead,.vec (.ae [.str,.str] [(key,val,())]) 34,.vec (.ae [.str,.str] (lM l (Int.toNat (↑(cr (bA l) key):bq.V)) (key,val,()))) 34] (.vec 2))))))))):=by kernel_rfl
theorem ajB{α:Type}{l:List α}{k:Nat}{x:α}(h:k<l.length):l.set k x=l.take k++x::l.drop (k+1):=by
 rw[List.set_eq_take_append_cons_drop,if_pos h]
theorem ajC{l:List En}{key val:ByteArray}(h:jq (bA l) key=true)(h1:cr (bA l) key<l.length):bw l key val=l.set (cr (bA l) key) (key,val,()):=by
 rw[ajB h1,bw,if_pos h]
theorem amc{l:List En}{key val:ByteArray}(h:jq (bA l) key=false):bw l key val=lM l (cr (bA l) key) (key,val,()):=by
 rw[bw,if_neg (by rw[h];simp),lM]
theorem ajD{Z:bd}:dt P Z 50 [qx,dU,dU] [qx] (fun(l,_,_,())=>[(l:List En).length≤100000,ir (bA l)]) (fun(l,key,val,())=>(bw l key val,())):=by
 refine au Tryd.func50 (by kernel_rfl) (by kernel_rfl) ?_
 rintro⟨(l:List (CL cE)),(key:ByteArray),(val:ByteArray),⟨⟩⟩ _ ⟨(hl:l.length≤100000),(hs:ir (bA l)),_⟩ X hX hz
 have hT:ajA.Ok P Z:=aH.Ok.cons rL.sum (aH.Ok.cons adL.sum (aH.Ok.cons (aqa.sum asC) aH.Ok.nil))
 have hn:(bA l).length=l.length:=List.length_map _
 have hle:=vr (bA l) key
 rw[hn]at hle
 refine go hz hX hT Tryd.func50 (amb l key val) ⟨by omega,hs,hl,fun h=> ?_,fun h=> ?_⟩
 ·obtain⟨h1,h2⟩:=jC.1 h
  rw[hn]at h1
  refine⟨Int.natCast_nonneg _,Int.ofNat_lt.2 h1, ?_⟩
  refine aT (l.set (cr (bA l) key) ((l.getD (cr (bA l) key) dE).1,val,()),()) ?_ (by kernel_rfl)
  have hk:(l.getD (cr (bA l) key) dE).1=key:=(cw l pt dE _).symm.trans h2
  rw[hk]
  exact congrArg (fun y=>(y,())) (ajC h h1)
 ·refine⟨rfl,rfl,by show cr (bA l) key≤l.length;exact hle,hl, ?_⟩
  refine aT (lM l (cr (bA l) key) (key,val,()),()) ?_ (by kernel_rfl)
  exact congrArg (fun y=>(y,())) (amc h)
end Lf
namespace Bx
open Go Go.Sx Go.Proofs
abbrev dM:Ty:=.b (.arr .u64 16)
abbrev bq:Ty:=.b (.int .i64)
abbrev tU:Ty:=.b (.int .u64)
abbrev cV:Ty:=.b .bool
abbrev abl:Ty:=.b (.row (.ints .i64) 3)
noncomputable abbrev P:Program:=Tryd.prog
theorem mixed:P.follows .mixedOrders=true:=by kernel_rfl
def kq:aH:=[]
def dX(n:Int):Int:=if 0≤n∧n<1024 then n / 64 else 0
def lN(n:Int):Int:=if 0≤n∧n<1024 then 2^(n%64).toNat else 0
def ie(n:Int):Bool:=decide (0≤n∧n<1024)
theorem aqb(n:Int):run P kq.sum Tryd.f55 [] (start Tryd.f55 [.s (.int .i64 n)] [])=
 Tree.ite (decide (n<(0:Int))) (Tree.ret [] (AV.bm [AV.s (SV.aZ IntKind.i64 (0:Int)),AV.s (SV.aZ IntKind.u64 (0:Int)),AV.s (SV.aI false)])) (Tree.ite (decide (n≥(1024:Int))) (Tree.ret [] (AV.bm [AV.s (SV.aZ IntKind.i64 (0:Int)),AV.s (SV.aZ IntKind.u64 (0:Int)),AV.s (SV.aI false)])) (Tree.need ((64:Int)≠(0:Int)) (Tree.need (aD (n.tdiv (64:Int))) (Tree.need ((64:Int)≠(0:Int)) (Tree.need ((0:Int)≤n.tmod (64:Int)) (Tree.ret [] (AV.bm [AV.s (SV.int IntKind.i64 (n.tdiv (64:Int))),AV.s (SV.int IntKind.u64 (IntKind.u64.wrap ((1:Int)*(2:Int)^min (n.tmod (64:Int)).toNat IntKind.u64.bits))),AV.s (SV.aI true)]))))))):=by kernel_rfl
theorem aqc(a b:Int):run P kq.sum Tryd.f47 [] (start Tryd.f47 [.s (.int .u64 a),.s (.int .u64 b)] [])=
 Tree.ret [] (.s (.int .u64 (bB BinOp.andNot .u64 a b))):=by kernel_rfl
theorem aqd(a b:Int):run P kq.sum Tryd.f63 [] (start Tryd.f63 [.s (.int .u64 a),.s (.int .u64 b)] [])=
 Tree.ret [] (.s (.int .u64 (bB BinOp.and .u64 a b))):=by kernel_rfl
theorem aqe(a b:Int):run P kq.sum Tryd.f54 [] (start Tryd.f54 [.s (.int .u64 a),.s (.int .u64 b)] [])=
 Tree.ret [] (.s (.int .u64 (bB BinOp.or .u64 a b))):=by kernel_rfl
abbrev s36:=bY [bq] [bq,tU,cV] (fun _=>[]) (fun(n,())=>(dX n,lN n,ie n,()))
def amd:aH:=[(55,s36)]
theorem aqf(ws:List Int)(n:Int):run P amd.sum Tryd.f35 [] (start Tryd.f35 [.ints .u64 16 ws,.s (.int .i64 n)] [])=
 Tree.ite (ie n) (.need ((0:Int)≤dX n) (.need (dX n<(↑(16:Nat):Int)) (.ret [.own [.ints .u64 16 ws] 47] (.s (.bool (bB BinOp.and .u64 (ws.getD (dX n).toNat 0) (lN n) !=0)))))) (.ret [.own [.ints .u64 16 ws] 47] (.s (.aI false))):=by kernel_rfl
theorem aqg(ws:List Int)(n:Int):run P amd.sum Tryd.f43 [] (start Tryd.f43 [.ints .u64 16 ws,.s (.int .i64 n)] [])=
 Tree.ite (ie n) (.need ((0:Int)≤dX n) (.need (dX n<(↑(16:Nat):Int)) (.need ((0:Int)≤dX n) (.need (dX n<(↑(16:Nat):Int)) (.ret [.own [.ints .u64 16 (ws.set (dX n).toNat (bB BinOp.or .u64 (ws.getD (dX n).toNat 0) (lN n)))] 47,.own [.ints .u64 16 (ws.set (dX n).toNat (bB BinOp.or .u64 (ws.getD (dX n).toNat 0) (lN n)))] 47] (.ints .u64 16 (ws.set (dX n).toNat (bB BinOp.or .u64 (ws.getD (dX n).toNat 0) (lN n))))))))) (.ret [.own [.ints .u64 16 ws] 47,.own [.ints .u64 16 ws] 47] (.ints .u64 16 ws)):=by kernel_rfl
theorem aqh(ws:List Int)(n:Int):run P amd.sum Tryd.f98 [] (start Tryd.f98 [.ints .u64 16 ws,.s (.int .i64 n)] [])=
 Tree.ite (ie n) (.need ((0:Int)≤dX n) (.need (dX n<(↑(16:Nat):Int)) (.need ((0:Int)≤dX n) (.need (dX n<(↑(16:Nat):Int)) (.ret [.own [.ints .u64 16 (ws.set (dX n).toNat (bB BinOp.andNot .u64 (ws.getD (dX n).toNat 0) (lN n)))] 47,.own [.ints .u64 16 (ws.set (dX n).toNat (bB BinOp.andNot .u64 (ws.getD (dX n).toNat 0) (lN n)))] 47] (.ints .u64 16 (ws.set (dX n).toNat (bB BinOp.andNot .u64 (ws.getD (dX n).toNat 0) (lN n))))))))) (.ret [.own [.ints .u64 16 ws] 47,.own [.ints .u64 16 ws] 47] (.ints .u64 16 ws)):=by kernel_rfl
theorem go{Z:bd}{X:Ctx}{t:aH}{f:FuncId}{fn:Func}{ns:List (Nat×Norm)}{c:bC}{tr:Tree}{K:List ad→AV→Prop}(hz:dS Z X)(hX:∀id,X.H id=none)(hT:t.Ok P Z)(hf:P.funcs[f]? =some fn)
 (e:run P t.sum fn ns c=tr) (h:tr.aN K (Safe P f X K)):Safe P f X K c:=cp (aH.sOk hT) hz mixed hf (fun _ _ id _=>hX id) e h
theorem aqi{Z:bd}:dt P Z 55 [bq] [bq,tU,cV] (fun _=>[]) (fun(n,())=>(dX n,lN n,ie n,())):=by
 refine au Tryd.func55 (by kernel_rfl) (by kernel_rfl) ?_
 rintro⟨(n:Int),⟨⟩⟩ _ _ X hX hz
 refine cp (aH.sOk aH.Ok.nil) hz mixed Tryd.func55 (fun x h=>by simp at h) (aqb n) ?_
 have no:¬(0≤n∧n<1024)→Ends [bq,tU,cV] (dX n,lN n,ie n,()) [] (AV.bm [AV.s (SV.aZ IntKind.i64 0),AV.s (SV.aZ IntKind.u64 0),AV.s (SV.aI false)]):=fun h=>
  aT (0,0,false,()) (by simp only[dX,lN,ie,if_neg h,decide_eq_false h]) (by kernel_rfl)
 refine⟨fun h=>no (by simp at h;omega),fun h=>⟨fun h2=>no (by simp at h2;omega),fun h2=> ?_⟩⟩
 have h3:0≤n∧n<1024:=by simp at h h2;omega
 have e1:n.tdiv 64=n / 64:=Int.tdiv_eq_ediv_of_nonneg h3.1
 have e2:n.tmod 64=n%64:=Int.tmod_eq_emod_of_nonneg h3.1
 refine⟨by omega,⟨by omega,by omega⟩,by omega,by omega, ?_⟩
 rw[e1,e2]
 have e3:IntKind.u64.wrap ((1:Int)*(2:Int)^min (n%64).toNat IntKind.u64.bits)=2^(n%64).toNat:=by
  have:(n%64).toNat<64:=by omega
  rw[show IntKind.u64.bits=64 from rfl,Nat.min_eq_left (by omega),Int.one_mul]
  show(2:Int)^(n%64).toNat%18446744073709551616=_
  refine Int.emod_eq_of_lt (Int.pow_nonneg (by omega)) ?_
  have h5:(2:Nat)^(n%64).toNat<2^64:=Nat.pow_lt_pow_right (by omega) this
  have:((2:Nat)^(n%64).toNat:Int)<((2^64:Nat):Int):=by exact_mod_cast h5
  simpa using this
 rw[e3]
 exact aT (n / 64,2^(n%64).toNat,true,()) (by simp only[dX,lN,ie,if_pos h3,decide_eq_true h3]) (by kernel_rfl)
theorem aha{Z:bd}:dt P Z 47 [tU,tU] [tU] (fun _=>[]) (fun(a,b,())=>(bB .andNot .u64 a b,())):=by
 refine au Tryd.func47 (by kernel_rfl) (by kernel_rfl) ?_
 rintro⟨(a:Int),(b:Int),⟨⟩⟩ _ _ X hX hz
 exact cp (aH.sOk aH.Ok.nil) hz mixed Tryd.func47 (fun x h=>by simp at h) (aqc a b) (aT _ rfl (by kernel_rfl))
theorem aqj{Z:bd}:dt P Z 63 [tU,tU] [tU] (fun _=>[]) (fun(a,b,())=>(bB .and .u64 a b,())):=by
 refine au Tryd.func63 (by kernel_rfl) (by kernel_rfl) ?_
 rintro⟨(a:Int),(b:Int),⟨⟩⟩ _ _ X hX hz
 exact cp (aH.sOk aH.Ok.nil) hz mixed Tryd.func63 (fun x h=>by simp at h) (aqd a b) (aT _ rfl (by kernel_rfl))
theorem asD{Z:bd}:dt P Z 54 [tU,tU] [tU] (fun _=>[]) (fun(a,b,())=>(bB .or .u64 a b,())):=by
 refine au Tryd.func54 (by kernel_rfl) (by kernel_rfl) ?_
 rintro⟨(a:Int),(b:Int),⟨⟩⟩ _ _ X hX hz
 exact cp (aH.sOk aH.Ok.nil) hz mixed Tryd.func54 (fun x h=>by simp at h) (aqe a b) (aT _ rfl (by kernel_rfl))
theorem zR{Z:bd}:amd.Ok P Z:=aH.Ok.cons aqi.sum aH.Ok.nil
theorem px{n:Int}(h:ie n=true):0≤dX n∧dX n<16:=by
 simp only[ie,decide_eq_true_eq]at h
 simp only[dX,if_pos h]
 omega
def lO(ws:List Int)(n:Int):Bool:=ie n&&(bB .and .u64 (ws.getD (dX n).toNat 0) (lN n) !=0)
def cO(ws:List Int)(n:Int):List Int:=if ie n=true then ws.set (dX n).toNat (bB .or .u64 (ws.getD (dX n).toNat 0) (lN n))else ws
def cP(ws:List Int)(n:Int):List Int:=if ie n=true then ws.set (dX n).toNat (bB .andNot .u64 (ws.getD (dX n).toNat 0) (lN n))else ws
theorem zS{Z:bd}:dt P Z 35 [dM,bq] [cV] (fun _=>[]) (fun(ws,n,())=>(lO ws n,())):=by
 refine au Tryd.func35 (by kernel_rfl) (by kernel_rfl) ?_
 rintro⟨(ws:List Int),(n:Int),⟨⟩⟩ _ _ X hX hz
 refine cp (aH.sOk zR) hz mixed Tryd.func35 (fun x h=>by simp at h) (aqf ws n) ⟨fun h=> ?_,fun h=> ?_⟩
 ·have:=px h
  exact⟨this.1,this.2,aT (bB .and .u64 (ws.getD (dX n).toNat 0) (lN n) !=0,()) (by simp[lO,h]) (by kernel_rfl)⟩
 ·exact aT (false,()) (by simp[lO,h]) (by kernel_rfl)
theorem qB{Z:bd}:dt P Z 43 [dM,bq] [dM] (fun _=>[]) (fun(ws,n,())=>(cO ws n,())):=by
 refine au Tryd.func43 (by kernel_rfl) (by kernel_rfl) ?_
 rintro⟨(ws:List Int),(n:Int),⟨⟩⟩ _ _ X hX hz
 refine cp (aH.sOk zR) hz mixed Tryd.func43 (fun x h=>by simp at h) (aqg ws n) ⟨fun h=> ?_,fun h=> ?_⟩
 ·have:=px h
  refine⟨this.1,this.2,this.1,this.2, ?_⟩
  simp only[cO,if_pos h]
  exact aT _ rfl (by kernel_rfl)
 ·exact aT (ws,()) (by simp only[cO,h];rfl) (by kernel_rfl)
theorem vI{Z:bd}:dt P Z 98 [dM,bq] [dM] (fun _=>[]) (fun(ws,n,())=>(cP ws n,())):=by
 refine au Tryd.func98 (by kernel_rfl) (by kernel_rfl) ?_
 rintro⟨(ws:List Int),(n:Int),⟨⟩⟩ _ _ X hX hz
 refine cp (aH.sOk zR) hz mixed Tryd.func98 (fun x h=>by simp at h) (aqh ws n) ⟨fun h=> ?_,fun h=> ?_⟩
 ·have:=px h
  refine⟨this.1,this.2,this.1,this.2, ?_⟩
  simp only[cP,if_pos h]
  exact aT _ rfl (by kernel_rfl)
 ·exact aT (ws,()) (by simp only[cP,h];rfl) (by kernel_rfl)
end Bx
namespace Bx
open Go Go.Sx Go.Proofs
abbrev sOp(op:BinOp):=bY [tU,tU] [tU] (fun _=>[]) (fun(a,b,())=>(bB op .u64 a b,()))
def zT:aH:=[(47,sOp .andNot),(63,sOp .and),(54,sOp .or)]
def abL:List (Nat×Norm):=[(2,⟨[],[2,3,4,6,8],0,[]⟩)]
noncomputable def c37(f:FuncId)(b s:List Int)(i:Int):bC:=⟨sl 23 [(2,.s (.kV f)),(3,.ptr 0 0),(4,.ptr 1 0),(6,.ptr 2 0),(8,.s (.int .i64 i))],[.own [.ints .u64 16 s] 47,.own [.ints .u64 16 b] 47,.own [.ints .u64 16 (List.replicate 16 0)] 47],hd Tryd.f46 2,{}⟩
theorem ame(a b:List Int):run P zT.sum Tryd.f46 abL (start Tryd.f46 [.ints .u64 16 a,.ints .u64 16 b,.s (.kV 47)] [])=
 Tree.at (.mk (sl 23 [(2,.s (.kV 47)),(3,.ptr 0 0),(4,.ptr 1 0),(6,.ptr 2 0),(8,.s (.int .i64 0))]) [.own [.ints .u64 16 a] 47,.own [.ints .u64 16 b] 47,.own [.ints .u64 16 (List.replicate 16 0)] 47] (hd Tryd.f46 2) (.mk none false 0 [] 0)):=by kernel_rfl
theorem amf(b s:List Int)(i:Int):run P zT.sum Tryd.f46 abL (c37 47 b s i)=
 Tree.ite (decide (i<16)) (.need ((0:Int)≤i) (.need (i<(↑(16:Nat):Int)) (.need ((0:Int)≤i) (.need (i<(↑(16:Nat):Int)) (.need ((0:Int)≤i) (.need (i<(↑(16:Nat):Int)) (.need (aD (i+1)) (.at (.mk (sl 23 [(2,.s (.kV 47)),(3,.ptr 0 0),(4,.ptr 1 0),(6,.ptr 2 0),(8,.s (.int .i64 (i+1)))]) [.own [.ints .u64 16 (s.set i.toNat (bB BinOp.andNot .u64 (s.getD i.toNat 0) (b.getD i.toNat 0)))] 47,.own [.ints .u64 16 b] 47,.own [.ints .u64 16 (List.replicate 16 0)] 47] (hd Tryd.f46 2) (.mk none false 0 [] 0)))))))))) (.ret [.own [.ints .u64 16 s] 47,.own [.ints .u64 16 b] 47,.own [.ints .u64 16 s] 47] (.ints .u64 16 s)):=by kernel_rfl
theorem amg(a b:List Int):run P zT.sum Tryd.f46 abL (start Tryd.f46 [.ints .u64 16 a,.ints .u64 16 b,.s (.kV 63)] [])=
 Tree.at (.mk (sl 23 [(2,.s (.kV 63)),(3,.ptr 0 0),(4,.ptr 1 0),(6,.ptr 2 0),(8,.s (.int .i64 0))]) [.own [.ints .u64 16 a] 47,.own [.ints .u64 16 b] 47,.own [.ints .u64 16 (List.replicate 16 0)] 47] (hd Tryd.f46 2) (.mk none false 0 [] 0)):=by kernel_rfl
theorem amh(b s:List Int)(i:Int):run P zT.sum Tryd.f46 abL (c37 63 b s i)=
 Tree.ite (decide (i<16)) (.need ((0:Int)≤i) (.need (i<(↑(16:Nat):Int)) (.need ((0:Int)≤i) (.need (i<(↑(16:Nat):Int)) (.need ((0:Int)≤i) (.need (i<(↑(16:Nat):Int)) (.need (aD (i+1)) (.at (.mk (sl 23 [(2,.s (.kV 63)),(3,.ptr 0 0),(4,.ptr 1 0),(6,.ptr 2 0),(8,.s (.int .i64 (i+1)))]) [.own [.ints .u64 16 (s.set i.toNat (bB BinOp.and .u64 (s.getD i.toNat 0) (b.getD i.toNat 0)))] 47,.own [.ints .u64 16 b] 47,.own [.ints .u64 16 (List.replicate 16 0)] 47] (hd Tryd.f46 2) (.mk none false 0 [] 0)))))))))) (.ret [.own [.ints .u64 16 s] 47,.own [.ints .u64 16 b] 47,.own [.ints .u64 16 s] 47] (.ints .u64 16 s)):=by kernel_rfl
theorem ami(a b:List Int):run P zT.sum Tryd.f46 abL (start Tryd.f46 [.ints .u64 16 a,.ints .u64 16 b,.s (.kV 54)] [])=
 Tree.at (.mk (sl 23 [(2,.s (.kV 54)),(3,.ptr 0 0),(4,.ptr 1 0),(6,.ptr 2 0),(8,.s (.int .i64 0))]) [.own [.ints .u64 16 a] 47,.own [.ints .u64 16 b] 47,.own [.ints .u64 16 (List.replicate 16 0)] 47] (hd Tryd.f46 2) (.mk none false 0 [] 0)):=by kernel_rfl
theorem amj(b s:List Int)(i:Int):run P zT.sum Tryd.f46 abL (c37 54 b s i)=
 Tree.ite (decide (i<16)) (.need ((0:Int)≤i) (.need (i<(↑(16:Nat):Int)) (.need ((0:Int)≤i) (.need (i<(↑(16:Nat):Int)) (.need ((0:Int)≤i) (.need (i<(↑(16:Nat):Int)) (.need (aD (i+1)) (.at (.mk (sl 23 [(2,.s (.kV 54)),(3,.ptr 0 0),(4,.ptr 1 0),(6,.ptr 2 0),(8,.s (.int .i64 (i+1)))]) [.own [.ints .u64 16 (s.set i.toNat (bB BinOp.or .u64 (s.getD i.toNat 0) (b.getD i.toNat 0)))] 47,.own [.ints .u64 16 b] 47,.own [.ints .u64 16 (List.replicate 16 0)] 47] (hd Tryd.f46 2) (.mk none false 0 [] 0)))))))))) (.ret [.own [.ints .u64 16 s] 47,.own [.ints .u64 16 b] 47,.own [.ints .u64 16 s] 47] (.ints .u64 16 s)):=by kernel_rfl
theorem amk{Z:bd}:zT.Ok P Z:=aH.Ok.cons aha.sum (aH.Ok.cons aqj.sum (aH.Ok.cons asD.sum aH.Ok.nil))
def db(op:BinOp)(a b:List Int):List Int:=List.zipWith (bB op .u64) a b
def abM(f:FuncId):BinOp:=if f=47 then .andNot else if f=63 then .and else .or
theorem vJ{a b:List Int}{n:Nat}(ha:a.length=n)(hb:b.length=n)(h:∀j,j<n→a.getD j 0=b.getD j 0):a=b:=by
 refine List.ext_getElem (by omega) fun j h1 h2=> ?_
 have:=h j (by omega)
 simpa[List.getD,h1,h2]using this
theorem qC(a:List Int)(i j:Nat)(x:Int):(a.set i x).getD j 0=if j=i∧i<a.length then x else a.getD j 0:=by
 simp only[List.getD,List.getElem?_set]
 by_cases h:i=j
 ·subst h
  by_cases h2:i<a.length
  ·simp[h2]
  ·simp[h2]
 ·simp[h,Ne.symm h]
def I37(op:BinOp)(a b s:List Int)(i:Int):Prop:=0≤i∧i≤16∧s.length=16∧∀j,j<16→s.getD j 0=if(j:Int)<i then bB op .u64 (a.getD j 0) (b.getD j 0)else a.getD j 0
theorem ajE{op:BinOp}{a b s:List Int}{i:Int}(h:I37 op a b s i)(hi:i<16):I37 op a b (s.set i.toNat (bB op .u64 (s.getD i.toNat 0) (b.getD i.toNat 0))) (i+1):=by
 obtain⟨h1,h2,h3,h4⟩:=h
 refine⟨by omega,by omega,by simpa using h3,fun j hj=> ?_⟩
 rw[qC]
 by_cases hji:j=i.toNat
 ·subst hji
  rw[if_pos ⟨rfl,by omega⟩,if_pos (by omega),h4 _ hj,if_neg (by omega)]
 ·rw[if_neg (fun h=>hji h.1),h4 j hj]
  by_cases h5:(j:Int)<i
  ·rw[if_pos h5,if_pos (by omega)]
  ·rw[if_neg h5,if_neg (by omega)]
theorem aml{op:BinOp}{a b s:List Int}{i:Int}(ha:a.length=16)(hb:b.length=16)(h:I37 op a b s i)(hi:¬i<16):s=db op a b:=by
 obtain⟨h1,h2,h3,h4⟩:=h
 refine vJ h3 (by simp[db,ha,hb]) fun j hj=> ?_
 rw[h4 j hj,if_pos (by omega)]
 simp[db,List.getD,List.getElem?_zipWith,ha,hb,hj]
theorem zU{Z:bd}:dt P Z 46 [dM,dM,.b .fn] [dM] (fun(_,_,f,())=>[f=47∨f=63∨f=54]) (fun(a,b,f,())=>(db (abM f) a b,())):=by
 refine au Tryd.func46 (by kernel_rfl) (by kernel_rfl) ?_
 rintro⟨(a:List Int),(b:List Int),(f:FuncId),⟨⟩⟩ ⟨(ha:a.length=16),(hb:b.length=16),_⟩ ⟨(hf:f=47∨f=63∨f=54),_⟩ X hX hz
 have run (c:bC) (t:Tree) (ht:run P zT.sum Tryd.f46 abL c=t) {K:List ad→AV→Prop} (h:t.aN K (Safe P 46 X K)):Safe P 46 X K c:=
  cp (aH.sOk amk) hz mixed Tryd.func46 (fun x h id _=>hX id) ht h
 have loop (op:BinOp) (f:FuncId) (hl:∀s i,Sx.run P zT.sum Tryd.f46 abL (c37 f b s i)=Tree.ite (decide (i<16)) (.need ((0:Int)≤i) (.need (i<(↑(16:Nat):Int)) (.need ((0:Int)≤i) (.need (i<(↑(16:Nat):Int)) (.need ((0:Int)≤i) (.need (i<(↑(16:Nat):Int)) (.need (aD (i+1)) (.at (c37 f b (s.set i.toNat (bB op .u64 (s.getD i.toNat 0) (b.getD i.toNat 0))) (i+1)))))))))) (.ret [.own [.ints .u64 16 s] 47,.own [.ints .u64 16 b] 47,.own [.ints .u64 16 s] 47] (.ints .u64 16 s))):
  Safe P 46 X (Ends [dM] (db op a b,())) (c37 f b a 0):=by
  refine nX (fun(x:List Int×Int)=>c37 f b x.1 x.2) (fun x=>I37 op a b x.1 x.2) (fun x=>(16 - x.2).toNat) ?_ (a,0) ⟨by omega,by omega,ha,fun j hj=>by rw[if_neg (by simp only[];omega)]⟩
  rintro⟨s,i⟩ hI ih
  have h0:0≤i:=hI.1
  refine run _ _ (hl s i) ⟨fun h=> ?_,fun h=> ?_⟩
  ·have hi:i<16:=by simpa using h
   exact⟨h0,hi,h0,hi,h0,hi,⟨by omega,by omega⟩,ih (_,i+1) (ajE hI hi) (by simp only[];omega)⟩
  ·have hi:¬i<16:=by simpa using h
   exact aT (s,()) (by rw[←aml ha hb hI hi]) (by kernel_rfl)
 rcases hf with rfl|rfl|rfl
 ·exact run _ _ (ame a b) (loop .andNot 47 (fun s i=>amf b s i))
 ·exact run _ _ (amg a b) (loop .and 63 (fun s i=>amh b s i))
 ·exact run _ _ (ami a b) (loop .or 54 (fun s i=>amj b s i))
end Bx
namespace Bx
open Go Go.Sx Go.Proofs
abbrev s37:=bY [dM,dM,.b .fn] [dM] (fun(_,_,f,())=>[f=47∨f=63∨f=54]) (fun(a,b,f,())=>(db (abM f) a b,()))
def aqk:aH:=[(46,s37)]
theorem aql(a b:List Int):run P aqk.sum Tryd.f23 [] (start Tryd.f23 [.ints .u64 16 a,.ints .u64 16 b] [])=
 Tree.need ((47:Nat)=(47:(Ty.b B.fn).V)∨(47:Nat)=(63:(Ty.b B.fn).V)∨(47:Nat)=(54:(Ty.b B.fn).V)) (.ret [.own [.ints .u64 16 a] 47,.own [.ints .u64 16 b] 47,.own [.ints .u64 16 (db (abM 47) a b)] 47] (.ints .u64 16 (db (abM 47) a b))):=by kernel_rfl
theorem aqm(a b:List Int):run P aqk.sum Tryd.f44 [] (start Tryd.f44 [.ints .u64 16 a,.ints .u64 16 b] [])=
 Tree.need ((63:Nat)=(47:(Ty.b B.fn).V)∨(63:Nat)=(63:(Ty.b B.fn).V)∨(63:Nat)=(54:(Ty.b B.fn).V)) (.ret [.own [.ints .u64 16 a] 47,.own [.ints .u64 16 b] 47,.own [.ints .u64 16 (db (abM 63) a b)] 47] (.ints .u64 16 (db (abM 63) a b))):=by kernel_rfl
theorem aqn(a b:List Int):run P aqk.sum Tryd.f28 [] (start Tryd.f28 [.ints .u64 16 a,.ints .u64 16 b] [])=
 Tree.need ((54:Nat)=(47:(Ty.b B.fn).V)∨(54:Nat)=(63:(Ty.b B.fn).V)∨(54:Nat)=(54:(Ty.b B.fn).V)) (.ret [.own [.ints .u64 16 a] 47,.own [.ints .u64 16 b] 47,.own [.ints .u64 16 (db (abM 54) a b)] 47] (.ints .u64 16 (db (abM 54) a b))):=by kernel_rfl
def asE:List (Nat×Norm):=[(3,⟨[],[0,2,3,6],0,[]⟩)]
noncomputable def c13(n:Int)(s:List Int)(i:Int):bC:=⟨sl 24 [(0,.s (.int .i64 n)),(2,.ptr 0 0),(3,.ptr 1 0),(6,.s (.int .i64 i))],[.own [.ints .u64 16 (List.replicate 16 0)] 47,.own [.ints .u64 16 s] 47],hd Tryd.f29 3,{}⟩
theorem aqo(n:Int):run P kq.sum Tryd.f29 asE (start Tryd.f29 [.s (.int .i64 n)] [])=
 Tree.at (.mk (sl 24 [(0,.s (.int .i64 n)),(2,.ptr 0 0),(3,.ptr 1 0),(6,.s (.int .i64 0))]) [.own [.ints .u64 16 (List.replicate 16 0)] 47,.own [.ints .u64 16 (List.replicate 16 0)] 47] (hd Tryd.f29 3) (.mk none false 0 [] 0)):=by kernel_rfl
theorem aqp(n:Int)(s:List Int)(i:Int):run P kq.sum Tryd.f29 asE (c13 n s i)=
 Tree.ite (decide (i<(16:Int))) (Tree.need (aD (i*(64:Int))) (Tree.need (aD (oY (imax n (0:Int)) (1024:Int) - i*(64:Int))) (Tree.need ((0:Int)≤oY (imax (oY (imax n (0:Int)) (1024:Int) - i*(64:Int)) (0:Int)) (64:Int)) (Tree.need ((0:Int)≤i) (Tree.need (i<(↑(16:Nat):Int)) (Tree.need (aD (i+(1:Int))) (Tree.at (bC.mk (sl (24:Nat) [((0:Nat),AV.s (SV.int IntKind.i64 n)),((2:Nat),AV.ptr (0:Nat) (0:Nat)),((3:Nat),AV.ptr (1:Nat) (0:Nat)),((6:Nat),AV.s (SV.int IntKind.i64 (i+(1:Int))))]) [ad.own [AV.ints IntKind.u64 (16:Nat) (List.replicate (16:Nat) (0:Int))] (47:Nat),ad.own [AV.ints IntKind.u64 (16:Nat) (s.set i.toNat (IntKind.u64.wrap (IntKind.u64.wrap ((1:Int)*(2:Int)^min (oY (imax (oY (imax n (0:Int)) (1024:Int) - i*(64:Int)) (0:Int)) (64:Int)).toNat IntKind.u64.bits) - (1:Int))))] (47:Nat)] (hd Tryd.f29 (3:Nat)) (nN.mk none false (0:Nat) [] (0:Nat)))))))))) (Tree.ret [ad.own [AV.ints IntKind.u64 (16:Nat) s] (47:Nat),ad.own [AV.ints IntKind.u64 (16:Nat) s] (47:Nat)] (AV.ints IntKind.u64 (16:Nat) s)):=by kernel_rfl
theorem afp{Z:bd}:dt P Z 23 [dM,dM] [dM] (fun _=>[]) (fun(a,b,())=>(db .andNot a b,())):=by
 refine au Tryd.func23 (by kernel_rfl) (by kernel_rfl) ?_
 rintro⟨(a:List Int),(b:List Int),⟨⟩⟩ _ _ X hX hz
 exact go hz hX (aH.Ok.cons zU.sum aH.Ok.nil) Tryd.func23 (aql a b) ⟨.inl rfl,aT _ rfl (by kernel_rfl)⟩
theorem amm{Z:bd}:dt P Z 44 [dM,dM] [dM] (fun _=>[]) (fun(a,b,())=>(db .and a b,())):=by
 refine au Tryd.func44 (by kernel_rfl) (by kernel_rfl) ?_
 rintro⟨(a:List Int),(b:List Int),⟨⟩⟩ _ _ X hX hz
 exact go hz hX (aH.Ok.cons zU.sum aH.Ok.nil) Tryd.func44 (aqm a b) ⟨.inr (.inl rfl),aT _ rfl (by kernel_rfl)⟩
theorem ajF{Z:bd}:dt P Z 28 [dM,dM] [dM] (fun _=>[]) (fun(a,b,())=>(db .or a b,())):=by
 refine au Tryd.func28 (by kernel_rfl) (by kernel_rfl) ?_
 rintro⟨(a:List Int),(b:List Int),⟨⟩⟩ _ _ X hX hz
 exact go hz hX (aH.Ok.cons zU.sum aH.Ok.nil) Tryd.func28 (aqn a b) ⟨.inr (.inr rfl),aT _ rfl (by kernel_rfl)⟩
def aP:List Int:=List.replicate 16 0
theorem ya{α:Type}(l:List α)(i:Nat)(d:α)(h:i<l.length):l.take (i+1)=l.take i++[l.getD i d]:=by
 rw[List.take_add_one]
 simp[List.getD,h]
def ahb(n i:Int):Int:=oY (imax (oY (imax n 0) 1024 - i*64) 0) 64
def rP(n i:Int):Int:=IntKind.u64.wrap (IntKind.u64.wrap (1*2^min (ahb n i).toNat IntKind.u64.bits) - 1)
def b8(n:Int):List Int:=(List.range 16).map fun(i:Nat)=>rP n i
theorem vK(n i:Int):0≤ahb n i∧ahb n i≤64:=by
 unfold ahb
 generalize oY (imax n 0) 1024 - i*64=x
 unfold oY imax
 split<;>split at * <;>omega
theorem ahc(n:Int):0≤oY (imax n 0) 1024∧oY (imax n 0) 1024≤1024:=by
 unfold oY imax
 split<;>split at * <;>omega
theorem vL {Z : bd} : dt P Z 29 [bq] [dM] (fun _ => []) (fun (n, ()) => (b8 n, ())) := by
 refine au Tryd.func29 (by kernel_rfl) (by kernel_rfl) ?_
 rintro ⟨(n : Int), ⟨⟩⟩ _ _ X hX hz
 refine go hz hX aH.Ok.nil Tryd.func29 (aqo n) ?_
 refine nX (fun (x : List Int × Int) => c13 n x.1 x.2) (fun x => 0 ≤ x.2 ∧ x.2 ≤ 16 ∧ x.1.length = 16 ∧ ∀ j : Nat, j < 16 → (j : Int) < x.2 → x.1.getD j 0 = rP n j) (fun x => (16 - x.2).toNat) ?_ (aP, 0) ⟨by simp only []; omega, by simp only []; omega, rfl, fun j _ h => by simp only [] at h; omega⟩
 rintro ⟨s, i⟩ ⟨(h0 : 0 ≤ i), (h1 : i ≤ 16), (h2 : s.length = 16), h3⟩ ih
 simp only [] at h3
 have hr := vK n i
 have hc := ahc n
 refine go hz hX aH.Ok.nil Tryd.func29 (aqp n s i) ⟨fun h => ?_, fun h => ?_⟩
 · have hi : i < (16 : Int) := of_decide_eq_true h
   refine ⟨⟨by omega, by omega⟩, ⟨by omega, by omega⟩, hr.1, h0, hi, ⟨by omega, by omega⟩, ih (s.set i.toNat (rP n i), i + 1) ⟨by simp only []; omega, by simp only []; omega, by simpa using h2, fun j hj hji => ?_⟩ (by simp only []; omega)⟩
   simp only [] at hji ⊢
   rw [qC]
   by_cases xv : j = i.toNat
   · rw [if_pos ⟨xv, by omega⟩, show (j : Int) = i from by omega]
   · rw [if_neg (fun h => xv h.1)]
     exact h3 j hj (by omega)
 · have hi : ¬ i < (16 : Int) := of_decide_eq_false h
   refine aT (s, ()) ?_ (by kernel_rfl)
   rw [vJ (a := s) (b := b8 n) h2 (by simp [b8]) (fun j hj => ?_)]
   rw [h3 j hj (by omega)]
   simp [b8, List.getD, hj]
end Bx
namespace Bx
open Go Go.Sx Go.Proofs
def adO(n:Int):Int:=IntKind.u64.wrap n
def ub(a b:Int):Int:=bB .and .u64 a b
def sh(x k:Int):Int:=x.fdiv ((2:Int)^min (Int.toNat k) IntKind.u64.bits)
def oc1(x:Int):Int:=adO (ub (sh x 1) 6148914691236517205+ub x 6148914691236517205)
def oc2(x:Int):Int:=adO (ub (sh x 2) 3689348814741910323+ub x 3689348814741910323)
def oc3(x:Int):Int:=ub (adO (sh x 4+x)) 1085102592571150095
def oc4(x:Int):Int:=adO (x+sh x 8)
def oc5(x:Int):Int:=adO (x+sh x 16)
def oc6(x:Int):Int:=adO (x+sh x 32)
def ocF(x:Int):Int:=bB .and .i64 (oc6 (oc5 (oc4 (oc3 (oc2 (oc1 x)))))) 127
def ocG(x:Int):Int:=bB .and .i64 (IntKind.i64.wrap (oc6 (oc5 (oc4 (oc3 (oc2 (oc1 x))))))) 127
theorem aqq(x:Int):run P kq.sum Tryd.f53 [] (start Tryd.f53 [.s (.int .u64 x)] [])=
 Tree.need ((0:Int)≤1) (.need ((0:Int)≤2) (.need ((0:Int)≤4) (.need ((0:Int)≤8) (.need ((0:Int)≤16) (.need ((0:Int)≤32) (.ret [] (.s (.int .i64 (ocG x))))))))):=by kernel_rfl
def pc:Nat→Nat→Nat
 |0,_=>0
 |n+1,x=>x%2+pc n (x / 2)
theorem rQ(a b:Nat)(ha:a<18446744073709551616)(hb:b<18446744073709551616):ub (a:Int) (b:Int)=((a &&& b:Nat):Int):=by
 have hx:a &&& b<2^64:=Nat.and_lt_two_pow _ (by omega)
 have h1:(BitVec.ofInt 64 (a:Int)).toNat=a:=by
  rw[BitVec.ofInt_natCast,BitVec.toNat_ofNat];exact Nat.mod_eq_of_lt (by omega)
 have h2:(BitVec.ofInt 64 (b:Int)).toNat=b:=by
  rw[BitVec.ofInt_natCast,BitVec.toNat_ofNat];exact Nat.mod_eq_of_lt (by omega)
 show((BitVec.ofInt 64 (a:Int) &&& BitVec.ofInt 64 (b:Int)).toNat:Int)%18446744073709551616=_
 rw[BitVec.toNat_and,h1,h2]
 omega
theorem n8(n:Int):adO n=n%18446744073709551616:=rfl
theorem rR(x k:Nat)(hk:k≤64):sh (x:Int) (k:Int)=((x / 2^k:Nat):Int):=by
 unfold sh
 rw[show IntKind.u64.bits=64 from rfl,Int.toNat_natCast,Nat.min_eq_left hk,Int.fdiv_eq_ediv_of_nonneg _ (Int.pow_nonneg (by omega))]
 simp
def msk(b c:Nat):Nat→Nat
 |0=>0
 |n+1=>(2^b - 1)+2^c*msk b c n
theorem qD(b c n x:Nat)(hbc:b≤c):x &&& msk b c (n+1)=x%2^b+2^c*((x / 2^c) &&& msk b c n):=by
 have adP:x%2^b<2^c:=Nat.lt_of_lt_of_le (Nat.mod_lt _ (Nat.two_pow_pos _)) (Nat.pow_le_pow_right (by omega) hbc)
 have hm:2^b - 1<2^c:=Nat.lt_of_lt_of_le (by have:=Nat.two_pow_pos b;omega) (Nat.pow_le_pow_right (by omega) hbc)
 apply Nat.eq_of_testBit_eq
 intro i
 rw[Nat.testBit_and,msk,Nat.add_comm (2^b - 1),Nat.add_comm (x%2^b)]
 rw[Nat.testBit_two_pow_mul_add _ hm,Nat.testBit_two_pow_mul_add _ adP]
 by_cases hi:i<c
 ·rw[if_pos hi,if_pos hi,Nat.testBit_two_pow_sub_one,Nat.testBit_mod_two_pow,Bool.and_comm]
 ·rw[if_neg hi,if_neg hi,Nat.testBit_and,Nat.testBit_div_two_pow]
  congr 2
  omega
def st1(n x:Nat):Nat:=((x / 2) &&& msk 1 2 n)+(x &&& msk 1 2 n)
theorem abN(n x:Nat):st1 (n+1) x=(x%2+x / 2%2)+4*st1 n (x / 4):=by
 unfold st1
 rw[qD 1 2 n x (by omega),qD 1 2 n (x / 2) (by omega)]
 rw[show x / 2 / 2^2=x / 4 / 2 from by omega,show x / 2^2=x / 4 from rfl]
 omega
def st2(n y:Nat):Nat:=((y / 4) &&& msk 2 4 n)+(y &&& msk 2 4 n)
theorem ajG(n y:Nat):st2 (n+1) y=(y%4+y / 4%4)+16*st2 n (y / 16):=by
 unfold st2
 rw[qD 2 4 n y (by omega),qD 2 4 n (y / 4) (by omega)]
 rw[show y / 4 / 2^4=y / 16 / 4 from by omega,show y / 2^4=y / 16 from rfl]
 omega
theorem ajH(n x:Nat):st1 (n+2) x%16=x%2+x / 2%2+4*(x / 4%2+x / 4 / 2%2)∧st1 (n+2) x / 16=st1 n (x / 16):=by
 rw[abN,abN,show x / 16=x / 4 / 4 from by omega]
 constructor<;>omega
theorem apw:∀(n x:Nat),st2 (n+1) (st1 (2*(n+1)) x)=pc 4 x+16*st2 n (st1 (2*n) (x / 16)):=by
 intro n x
 rw[ajG,show 2*(n+1)=2*n+2 from by omega]
 obtain⟨h1,h2⟩:=ajH (2*n) x
 rw[h2]
 have hp:pc 4 x=x%2+(x / 2%2+(x / 2 / 2%2+(x / 2 / 2 / 2%2+0))):=rfl
 rw[show x / 2 / 2=x / 4 from by omega]at hp
 rw[hp]
 generalize st1 (2*n+2) x=y at *
 generalize x / 4 / 2%2=b3 at *
 have:x%2<2∧x / 2%2<2∧x / 4%2<2:=by omega
 generalize x%2=b0 at *
 generalize x / 2%2=b1 at *
 generalize x / 4%2=b2 at *
 omega
def st3(n z:Nat):Nat:=(z / 16+z) &&& msk 4 8 n
theorem jZ:∀(n x:Nat),pc n x≤n
 |0,x=>Nat.le_refl _
 |n+1,x=>by have:=jZ n (x / 2);simp only[pc];omega
theorem mf:∀(m n x:Nat),pc (m+n) x=pc m x+pc n (x / 2^m)
 |0,n,x=>by simp[pc]
 |m+1,n,x=>by
  rw[show m+1+n=(m+n)+1 from by omega]
  simp only[pc]
  rw[mf m n (x / 2),Nat.div_div_eq_div_mul,Nat.pow_succ,Nat.mul_comm 2]
  omega
def z4(n x:Nat):Nat:=st2 n (st1 (2*n) x)
theorem zV(n x:Nat):z4 (n+1) x=pc 4 x+16*z4 n (x / 16):=apw n x
theorem amn(x:Nat):z4 0 x=0:=by simp[z4,st2,msk]
theorem ajI(n x:Nat):st3 (n+1) (z4 (2*n+2) x)=pc 8 x+256*st3 n (z4 (2*n) (x / 256)):=by
 unfold st3
 rw[qD 4 8 n _ (by omega)]
 have e1:=zV (2*n+1) x
 have e2:=zV (2*n) (x / 16)
 rw[Nat.div_div_eq_div_mul]at e2
 have e0:pc 8 x=pc 4 x+pc 4 (x / 16):=mf 4 4 x
 have b1:=jZ 4 x
 have b2:=jZ 4 (x / 16)
 have b3:z4 (2*n) (x / (16*16))%16≤4:=by
  cases n with
  |zero=>rw[amn];omega
  |succ n=>
   rw[show 2*(n+1)=(2*n+1)+1 from by omega,zV]
   have:=jZ 4 (x / (16*16))
   omega
 rw[show x / 256=x / (16*16)from rfl]
 generalize z4 (2*n) (x / (16*16))=q at *
 generalize z4 (2*n+1) (x / 16)=r at *
 generalize z4 (2*n+2) x=t at *
 have ht:(t / 16+t) / 2^8=q / 16+q:=by omega
 rw[ht]
 have:(t / 16+t)%2^4=pc 4 x+pc 4 (x / 16):=by omega
 omega
theorem bytes(x:Nat):st3 8 (z4 16 x)=pc 8 x+256*(pc 8 (x / 2^8)+256*(pc 8 (x / 2^16)+256*(pc 8 (x / 2^24)+256*(pc 8 (x / 2^32)+256*(pc 8 (x / 2^40)+256*(pc 8 (x / 2^48)+256*pc 8 (x / 2^56))))))):=by
 have h (n x:Nat):=ajI n x
 have h0:∀x,st3 0 (z4 0 x)=0:=fun x=>by simp[st3,msk]
 rw[h 7,h 6,h 5,h 4,h 3,h 2,h 1,h 0,h0]
 simp only[Nat.div_div_eq_div_mul]
 try rfl
theorem auI(x:Nat):pc 64 x=pc 8 x+(pc 8 (x / 2^8)+(pc 8 (x / 2^16)+(pc 8 (x / 2^24)+(pc 8 (x / 2^32)+(pc 8 (x / 2^40)+(pc 8 (x / 2^48)+pc 8 (x / 2^56))))))):=by
 rw[mf 8 56 x,mf 8 48,mf 8 40,mf 8 32,mf 8 24,mf 8 16,mf 8 8]
 simp only[Nat.div_div_eq_div_mul]
 try rfl
theorem amo(x:Nat)(hx:x<18446744073709551616):oc1 (x:Int)=(st1 32 x:Nat):=by
 have hm:msk 1 2 32=6148914691236517205:=by decide
 unfold oc1 st1
 rw[show(1:Int)=((1:Nat):Int)from rfl,rR x 1 (by omega),show(6148914691236517205:Int)=((6148914691236517205:Nat):Int)from rfl,rQ _ _ (by omega) (by omega),rQ _ _ hx (by omega),n8,hm]
 have h1:x / 2^1 &&& 6148914691236517205≤6148914691236517205:=Nat.and_le_right
 have h2:x &&& 6148914691236517205≤6148914691236517205:=Nat.and_le_right
 rw[show x / 2^1=x / 2 from rfl]at *
 omega
theorem aqr(x:Nat):st1 32 x<18446744073709551616:=by
 have hm:msk 1 2 32=6148914691236517205:=by decide
 unfold st1
 rw[hm]
 have h1:x / 2 &&& 6148914691236517205≤6148914691236517205:=Nat.and_le_right
 have h2:x &&& 6148914691236517205≤6148914691236517205:=Nat.and_le_right
 omega
theorem amp(x:Nat)(hx:x<18446744073709551616):oc2 (x:Int)=(st2 16 x:Nat):=by
 have hm:msk 2 4 16=3689348814741910323:=by decide
 unfold oc2 st2
 rw[show(2:Int)=((2:Nat):Int)from rfl,rR x 2 (by omega),show(3689348814741910323:Int)=((3689348814741910323:Nat):Int)from rfl,rQ _ _ (by omega) (by omega),rQ _ _ hx (by omega),n8,hm]
 have h1:x / 2^2 &&& 3689348814741910323≤3689348814741910323:=Nat.and_le_right
 have h2:x &&& 3689348814741910323≤3689348814741910323:=Nat.and_le_right
 rw[show x / 2^2=x / 4 from rfl]at *
 omega
theorem aqs(x:Nat):st2 16 x≤7378697629483820646:=by
 have hm:msk 2 4 16=3689348814741910323:=by decide
 unfold st2
 rw[hm]
 have h1:x / 4 &&& 3689348814741910323≤3689348814741910323:=Nat.and_le_right
 have h2:x &&& 3689348814741910323≤3689348814741910323:=Nat.and_le_right
 omega
theorem amq(x:Nat)(hx:x≤7378697629483820646):oc3 (x:Int)=(st3 8 x:Nat):=by
 have hm:msk 4 8 8=1085102592571150095:=by decide
 unfold oc3 st3
 rw[show(4:Int)=((4:Nat):Int)from rfl,rR x 4 (by omega),n8,hm]
 rw[show(((x / 2^4:Nat):Int)+(x:Int))%18446744073709551616=((x / 16+x:Nat):Int)from by omega,show(1085102592571150095:Int)=((1085102592571150095:Nat):Int)from rfl,rQ _ _ (by omega) (by omega)]
theorem ajJ(x:Nat)(hx:x<18446744073709551616):∃t:Nat,oc6 (oc5 (oc4 (oc3 (oc2 (oc1 (x:Int))))))=(t:Int)∧t<9223372036854775808∧t%256=pc 64 x:=by
 rw[amo x hx,amp _ (aqr x),amq _ (aqs _)]
 have hb:=bytes x
 rw[show z4 16 x=st2 16 (st1 32 x)from rfl]at hb
 have hp:=auI x
 generalize st3 8 (st2 16 (st1 32 x))=y at *
 have b0:=jZ 8 x
 have b1:=jZ 8 (x / 2^8)
 have b2:=jZ 8 (x / 2^16)
 have b3:=jZ 8 (x / 2^24)
 have b4:=jZ 8 (x / 2^32)
 have b5:=jZ 8 (x / 2^40)
 have b6:=jZ 8 (x / 2^48)
 have b7:=jZ 8 (x / 2^56)
 generalize pc 8 x=c0 at *
 generalize pc 8 (x / 2^8)=c1 at *
 generalize pc 8 (x / 2^16)=c2 at *
 generalize pc 8 (x / 2^24)=c3 at *
 generalize pc 8 (x / 2^32)=c4 at *
 generalize pc 8 (x / 2^40)=c5 at *
 generalize pc 8 (x / 2^48)=c6 at *
 generalize pc 8 (x / 2^56)=c7 at *
 generalize pc 64 x=p at *
 have e4:oc4 (y:Int)=((y+y / 256:Nat):Int):=by
  unfold oc4
  rw[show(8:Int)=((8:Nat):Int)from rfl,rR y 8 (by omega),n8,show(2:Nat)^8=256 from rfl]
  omega
 have h8:y / 256=c1+256*(c2+256*(c3+256*(c4+256*(c5+256*(c6+256*c7))))):=by omega
 rw[e4]
 have hu:y+y / 256=(c0+c1)+256*((c1+c2)+256*((c2+c3)+256*((c3+c4)+256*((c4+c5)+256*((c5+c6)+256*((c6+c7)+256*c7)))))):=by omega
 generalize y+y / 256=u at *
 clear h8 hb e4
 have e5:oc5 (u:Int)=((u+u / 65536:Nat):Int):=by
  unfold oc5
  rw[show(16:Int)=((16:Nat):Int)from rfl,rR u 16 (by omega),n8,show(2:Nat)^16=65536 from rfl]
  omega
 have h16:u / 65536=(c2+c3)+256*((c3+c4)+256*((c4+c5)+256*((c5+c6)+256*((c6+c7)+256*c7)))):=by omega
 rw[e5]
 have hv:∃a1 a2 a3 a5 a6 a7:Nat,a1≤64∧a2≤64∧a3≤64∧a5≤64∧a6≤64∧a7≤64∧u+u / 65536=(c0+c1+c2+c3)+256*(a1+256*(a2+256*(a3+256*((c4+c5+c6+c7)+256*(a5+256*(a6+256*a7)))))):=
  ⟨c1+c2+c3+c4,c2+c3+c4+c5,c3+c4+c5+c6,c5+c6+c7,c6+c7,c7,by omega,by omega,by omega,by omega,by omega,by omega,by omega⟩
 obtain⟨a1,a2,a3,a5,a6,a7,g1,g2,g3,g5,g6,g7,hv⟩:=hv
 generalize u+u / 65536=v at *
 clear hu h16 e5
 have e6:oc6 (v:Int)=((v+v / 4294967296:Nat):Int):=by
  unfold oc6
  rw[show(32:Int)=((32:Nat):Int)from rfl,rR v 32 (by omega),n8,show(2:Nat)^32=4294967296 from rfl]
  omega
 rw[e6]
 refine⟨v+v / 4294967296,rfl,by omega, ?_⟩
 have:v / 4294967296=(c4+c5+c6+c7)+256*(a5+256*(a6+256*a7)):=by omega
 omega
theorem aqt(t:Nat)(ht:t<9223372036854775808):bB .and .i64 (t:Int) 127=((t%128:Nat):Int):=by
 have h1:(BitVec.ofInt 64 (t:Int)).toNat=t:=by
  rw[BitVec.ofInt_natCast,BitVec.toNat_ofNat];exact Nat.mod_eq_of_lt (by omega)
 have h2:(BitVec.ofInt 64 (127:Int)).toNat=127:=by decide
 show IntKind.i64.wrap ((BitVec.ofInt 64 (t:Int) &&& BitVec.ofInt 64 (127:Int)).toNat:Int)=_
 rw[BitVec.toNat_and,h1,h2,show(127:Nat)=2^7 - 1 from rfl,Nat.and_two_pow_sub_one_eq_mod]
 generalize hm:t%2^7=m
 have:m<128:=by omega
 simp only[IntKind.wrap,IntKind.signed,IntKind.bits]
 simp
 omega
theorem amr(x:Nat)(hx:x<18446744073709551616):ocF (x:Int)=(pc 64 x:Nat):=by
 obtain⟨t,h1,h2,h3⟩:=ajJ x hx
 unfold ocF
 rw[h1,aqt t h2]
 have:=jZ 64 x
 omega
theorem ams{Z:bd}:dt P Z 53 [tU] [bq] (fun(x,())=>[(0:Int)≤x∧x<(18446744073709551616:Int)]) (fun(x,())=>(((pc 64 (Int.toNat x):Nat):Int),())):=by
 refine au Tryd.func53 (by kernel_rfl) (by kernel_rfl) ?_
 rintro⟨(x:Int),⟨⟩⟩ _ ⟨(hx:0≤x∧x<18446744073709551616),_⟩ X hX hz
 obtain⟨n,rfl⟩:=Int.eq_ofNat_of_zero_le hx.1
 obtain⟨t,h1,h2,h3⟩:=ajJ n (by omega)
 refine go hz hX aH.Ok.nil Tryd.func53 (aqq n) ⟨by omega,by omega,by omega,by omega,by omega,by omega,aT (ocG n,()) ?_ (by kernel_rfl)⟩
 ·have e:ocG n=ocF n:=by
   unfold ocG ocF
   rw[b9 (by rw[h1];exact⟨by omega,by omega⟩)]
  rw[e]
  clear e
  revert h1
  intro _
  rw[amr n (by omega)];rfl
end Bx
namespace Bx
open Go Go.Sx Go.Proofs
def okW(ws:List Int):Prop:=ws.length=16∧∀w∈ws,0≤w∧w<18446744073709551616
def wd(ws:List Int)(i:Nat):Nat:=(ws.getD i 0).toNat
def bit(ws:List Int)(k:Nat):Bool:=(wd ws (k / 64)).testBit (k%64)
def opb:BinOp→Bool→Bool→Bool
 |.or,x,y=>x||y
 |.andNot,x,y=>x&& !y
 |_,x,y=>x&&y
theorem qE{ws:List Int}(h:okW ws)(i:Nat):wd ws i<18446744073709551616∧(ws.getD i 0)=(wd ws i:Int):=by
 unfold wd
 by_cases hi:i<ws.length
 ·have:=h.2 (ws.getD i 0) (by rw[List.getD,List.getElem?_eq_getElem hi];exact List.getElem_mem hi)
  omega
 ·have:ws.getD i 0=0:=by simp[List.getD,List.getElem?_eq_none (Nat.le_of_not_lt hi)]
  rw[this];simp
theorem yb(op:BinOp)(wx:op=.or∨op=.and∨op=.andNot)(a b:Nat)(ha:a<18446744073709551616)(hb:b<18446744073709551616):
 ∃r:Nat,bB op .u64 (a:Int) (b:Int)=(r:Int)∧r<18446744073709551616∧∀i,i<64→r.testBit i=opb op (a.testBit i) (b.testBit i):=by
 have h1:BitVec.ofInt 64 (a:Int)=BitVec.ofNat 64 a:=BitVec.ofInt_natCast 64 a
 have h2:BitVec.ofInt 64 (b:Int)=BitVec.ofNat 64 b:=BitVec.ofInt_natCast 64 b
 have key:∀v:BitVec 64,IntKind.u64.wrap (v.toNat:Int)=(v.toNat:Int):=fun v=>by
  have:=v.isLt
  show(v.toNat:Int)%18446744073709551616=_
  omega
 rcases wx with rfl|rfl|rfl
 ·refine⟨(BitVec.ofNat 64 a ||| BitVec.ofNat 64 b).toNat, ?_,(BitVec.ofNat 64 a ||| BitVec.ofNat 64 b).isLt,fun i hi=> ?_⟩
  ·show IntKind.u64.wrap ((BitVec.ofInt 64 (a:Int) ||| BitVec.ofInt 64 (b:Int)).toNat:Int)=_
   rw[h1,h2,key]
  ·rw[BitVec.testBit_toNat,BitVec.getLsbD_or,BitVec.getLsbD_ofNat,BitVec.getLsbD_ofNat]
   simp[opb,hi]
 ·refine⟨(BitVec.ofNat 64 a &&& BitVec.ofNat 64 b).toNat, ?_,(BitVec.ofNat 64 a &&& BitVec.ofNat 64 b).isLt,fun i hi=> ?_⟩
  ·show IntKind.u64.wrap ((BitVec.ofInt 64 (a:Int) &&& BitVec.ofInt 64 (b:Int)).toNat:Int)=_
   rw[h1,h2,key]
  ·rw[BitVec.testBit_toNat,BitVec.getLsbD_and,BitVec.getLsbD_ofNat,BitVec.getLsbD_ofNat]
   simp[opb,hi]
 ·refine⟨(BitVec.ofNat 64 a &&& ~~~ BitVec.ofNat 64 b).toNat, ?_,(BitVec.ofNat 64 a &&& ~~~ BitVec.ofNat 64 b).isLt,fun i hi=> ?_⟩
  ·show IntKind.u64.wrap ((BitVec.ofInt 64 (a:Int) &&& ~~~ BitVec.ofInt 64 (b:Int)).toNat:Int)=_
   rw[h1,h2,key]
  ·rw[BitVec.testBit_toNat,BitVec.getLsbD_and,BitVec.getLsbD_not,BitVec.getLsbD_ofNat,BitVec.getLsbD_ofNat]
   simp[opb,hi]
theorem vM{ws:List Int}(hl:ws.length=16)(h:∀i,i<16→0≤ws.getD i 0∧ws.getD i 0<18446744073709551616):okW ws:=by
 refine⟨hl,fun w hw=> ?_⟩
 obtain⟨i,hi,rfl⟩:=List.getElem_of_mem hw
 have:=h i (by omega)
 rwa[List.getD,List.getElem?_eq_getElem hi]at this
theorem ajK{op:BinOp}{a b:List Int}(ha:a.length=16)(hb:b.length=16){i:Nat}(hi:i<16):(db op a b).getD i 0=bB op .u64 (a.getD i 0) (b.getD i 0):=by
 have h1:i<a.length:=by omega
 have h2:i<b.length:=by omega
 simp[db,List.getD,List.getElem?_zipWith,h1,h2]
theorem nw{op:BinOp}(wx:op=.or∨op=.and∨op=.andNot){a b:List Int}(ha:okW a)(hb:okW b):okW (db op a b)∧∀k,k<1024→bit (db op a b) k=opb op (bit a k) (bit b k):=by
 have key:∀i,i<16→∃r:Nat,(db op a b).getD i 0=(r:Int)∧r<18446744073709551616∧∀j,j<64→r.testBit j=opb op ((wd a i).testBit j) ((wd b i).testBit j):=fun i hi=>by
  rw[ajK ha.1 hb.1 hi,(qE ha i).2,(qE hb i).2]
  exact yb op wx _ _ (qE ha i).1 (qE hb i).1
 refine⟨vM (by simp[db,ha.1,hb.1]) fun i hi=> ?_,fun k hk=> ?_⟩
 ·obtain⟨r,h1,h2,_⟩:=key i hi
  rw[h1];omega
 ·obtain⟨r,h1,h2,h3⟩:=key (k / 64) (by omega)
  unfold bit
  rw[show wd (db op a b) (k / 64)=r from by unfold wd;rw[h1];rfl]
  exact h3 _ (by omega)
theorem eG:okW aP∧∀k,bit aP k=false:=by
 refine⟨⟨rfl,fun w hw=> ?_⟩,fun k=> ?_⟩
 ·have:=List.eq_of_mem_replicate hw
  omega
 ·have:wd aP (k / 64)=0:=by
   unfold wd aP
   rw[List.getD,List.getElem?_replicate]
   split<;>rfl
  simp[bit,this]
theorem tD{j i:Nat}:(2^j).testBit i=decide (j=i):=by
 rw[Nat.testBit_two_pow]
theorem abO{n:Int}(h:0≤n∧n<1024):lN n=((2^(n.toNat%64):Nat):Int)∧2^(n.toNat%64)<18446744073709551616∧dX n=((n.toNat / 64:Nat):Int):=by
 unfold lN dX
 rw[if_pos h,if_pos h]
 have e:(n%64).toNat=n.toNat%64:=by omega
 rw[e]
 have h2:(2:Nat)^(n.toNat%64)<2^64:=Nat.pow_lt_pow_right (by omega) (by omega)
 refine⟨by simp,h2,by omega⟩
theorem lP{n:Int}:ie n=true↔0≤n∧n<1024:=by simp[ie]
theorem ajL(op:BinOp)(wx:op=.or∨op=.andNot){ws:List Int}(hw:okW ws){n:Int}(h:0≤n∧n<1024):
 okW (ws.set (dX n).toNat (bB op .u64 (ws.getD (dX n).toNat 0) (lN n)))∧∀k,k<1024→bit (ws.set (dX n).toNat (bB op .u64 (ws.getD (dX n).toNat 0) (lN n))) k=opb op (bit ws k) (decide (n=(k:Int))):=by
 obtain⟨e1,e2,e3⟩:=abO h
 rw[e1,e3,Int.toNat_natCast]
 obtain⟨m,rfl⟩:=Int.eq_ofNat_of_zero_le h.1
 simp only[Int.toNat_natCast]at *
 have hb:=qE hw (m / 64)
 rw[hb.2]
 obtain⟨r,h1,h2,h3⟩:=yb op (by rcases wx with h|h<;>simp[h]) _ _ hb.1 e2
 rw[h1]
 have hm:m / 64<ws.length:=by rw[hw.1];omega
 refine⟨vM (by simpa using hw.1) fun i hi=> ?_,fun k hk=> ?_⟩
 ·rw[qC]
  split
  ·omega
  ·have:=qE hw i;omega
 ·unfold bit wd
  rw[qC]
  by_cases pJ:k / 64=m / 64
  ·rw[if_pos ⟨pJ,hm⟩,Int.toNat_natCast,h3 _ (by omega),tD]
   have:decide (m%64=k%64)=decide ((m:Int)=(k:Int)):=by
    apply decide_eq_decide.2;omega
   rw[this,pJ]
   rfl
  ·rw[if_neg (fun h=>pJ h.1)]
   have:decide ((m:Int)=(k:Int))=false:=decide_eq_false (by omega)
   rw[this]
   rcases wx with rfl|rfl<;>simp[opb]
theorem fU{ws:List Int}(hw:okW ws)(n:Int):okW (cO ws n)∧∀k,k<1024→bit (cO ws n) k=(bit ws k||decide (n=(k:Int))):=by
 unfold cO
 by_cases h:0≤n∧n<1024
 ·rw[if_pos (lP.2 h)]
  exact ajL .or (.inl rfl) hw h
 ·rw[if_neg (fun h2=>h (lP.1 h2))]
  refine⟨hw,fun k hk=> ?_⟩
  rw[decide_eq_false (by omega),Bool.or_false]
theorem kI{ws:List Int}(hw:okW ws)(n:Int):okW (cP ws n)∧∀k,k<1024→bit (cP ws n) k=(bit ws k&& !decide (n=(k:Int))):=by
 unfold cP
 by_cases h:0≤n∧n<1024
 ·rw[if_pos (lP.2 h)]
  exact ajL .andNot (.inr rfl) hw h
 ·rw[if_neg (fun h2=>h (lP.1 h2))]
  refine⟨hw,fun k hk=> ?_⟩
  rw[decide_eq_false (by omega)]
  simp
theorem amt(w j:Nat):w &&& 2^j=if w.testBit j=true then 2^j else 0:=by
 apply Nat.eq_of_testBit_eq
 intro i
 rw[Nat.testBit_and,tD]
 by_cases h:j=i
 ·subst h
  cases h2:w.testBit j
  ·simp
  ·simp[tD]
 ·cases h2:w.testBit j
  ·simp[h]
  ·simp[tD,h]
theorem afq{ws:List Int}(hw:okW ws)(n:Int):lO ws n=(decide (0≤n∧n<1024)&&bit ws n.toNat):=by
 unfold lO
 by_cases h:0≤n∧n<1024
 ·rw[show ie n=true from lP.2 h,decide_eq_true h]
  obtain⟨e1,e2,e3⟩:=abO h
  rw[e1,e3,Int.toNat_natCast]
  have hb:=qE hw (n.toNat / 64)
  rw[hb.2]
  have:=rQ _ _ hb.1 e2
  unfold ub at this
  rw[this,amt]
  unfold bit
  have hp:(0:Nat)<2^(n.toNat%64):=Nat.two_pow_pos _
  generalize (2:Nat)^(n.toNat%64)=p at *
  cases(wd ws (n.toNat / 64)).testBit (n.toNat%64)
  ·rfl
  ·rw[if_pos rfl]
   simp
   omega
 ·rw[show ie n=false from by simp[ie];omega,decide_eq_false h]
  rfl
theorem amu{a b:List Int}(ha:okW a)(hb:okW b)(h:∀k,k<1024→bit a k=bit b k):a=b:=by
 refine vJ ha.1 hb.1 fun i hi=> ?_
 have h1:=qE ha i
 have h2:=qE hb i
 rw[h1.2,h2.2]
 congr 1
 apply Nat.eq_of_testBit_eq
 intro j
 by_cases hj:j<64
 ·have:=h (64*i+j) (by omega)
  unfold bit at this
  rwa[show(64*i+j) / 64=i from by omega,show(64*i+j)%64=j from by omega]at this
 ·rw[Nat.testBit_lt_two_pow (Nat.lt_of_lt_of_le h1.1 (Nat.pow_le_pow_right (by omega) (Nat.le_of_not_lt hj):2^64≤2^j)),Nat.testBit_lt_two_pow (Nat.lt_of_lt_of_le h2.1 (Nat.pow_le_pow_right (by omega) (Nat.le_of_not_lt hj):2^64≤2^j))]
theorem vN(n i:Int):∃m:Nat,m≤64∧ahb n i=m∧rP n i=((2^m - 1:Nat):Int):=by
 obtain⟨h0,h1⟩:=vK n i
 obtain⟨m,hm⟩:=Int.eq_ofNat_of_zero_le h0
 refine⟨m,by omega,hm, ?_⟩
 unfold rP
 rw[hm,Int.toNat_natCast,show IntKind.u64.bits=64 from rfl,Nat.min_eq_left (by omega),Int.one_mul]
 show((2:Int)^m%18446744073709551616 - 1)%18446744073709551616=_
 have hp:=Nat.two_pow_pos m
 by_cases h64:m=64
 ·subst h64;decide
 ·have h2:(2:Nat)^m<2^64:=Nat.pow_lt_pow_right (by omega) (by omega)
  rw[show(2:Int)^m=((2^m:Nat):Int)from by simp]
  generalize (2:Nat)^m=p at *
  omega
theorem cT(n:Int):okW (b8 n)∧∀k,k<1024→bit (b8 n) k=decide ((k:Int)<n):=by
 have hg:∀i:Nat,i<16→(b8 n).getD i 0=rP n i:=fun i hi=>by simp[b8,List.getD,hi]
 refine⟨vM (by simp[b8]) fun i hi=> ?_,fun k hk=> ?_⟩
 ·rw[hg i hi]
  obtain⟨m,h1,_,h2⟩:=vN n i
  rw[h2]
  have:(2:Nat)^m≤2^64:=Nat.pow_le_pow_right (by omega) h1
  omega
 ·unfold bit wd
  rw[hg _ (by omega)]
  obtain⟨m,h1,h3,h2⟩:=vN n ((k / 64:Nat):Int)
  rw[h2,Int.toNat_natCast,Nat.testBit_two_pow_sub_one]
  apply decide_eq_decide.2
  unfold ahb oY imax at h3
  split at h3<;>(split at h3<;>(split at h3<;>split at h3<;>omega))
end Bx
namespace Bx
open Go Go.Sx Go.Proofs
abbrev s35:=bY [tU] [bq] (fun(x,())=>[(0:Int)≤x∧x<(18446744073709551616:Int)]) (fun(x,())=>(((pc 64 (Int.toNat x):Nat):Int),()))
def aqu:aH:=[(53,s35)]
def asF:List (Nat×Norm):=[(3,⟨[],[3,6,7],0,[]⟩)]
noncomputable def c14(ws:List Int)(n i:Int):bC:=⟨sl 16 [(3,.s (.int .i64 n)),(6,.ints .u64 16 ws),(7,.s (.int .i64 i))],[],hd Tryd.f27 3,{}⟩
theorem aqv(ws:List Int):run P aqu.sum Tryd.f27 asF (start Tryd.f27 [.ints .u64 16 ws] [])=
 Tree.at (.mk (sl 16 [(3,.s (.int .i64 0)),(6,.ints .u64 16 ws),(7,.s (.int .i64 0))]) [] (hd Tryd.f27 3) (.mk none false 0 [] 0)):=by kernel_rfl
theorem aqw(ws:List Int)(n i:Int):run P aqu.sum Tryd.f27 asF (c14 ws n i)=
 Tree.ite (decide (i<16)) (.need ((0:Int)≤i) (.need (i<(↑(16:Nat):Int)) (.need ((0:Int)≤ws.getD i.toNat (0:Int)∧ws.getD i.toNat (0:Int)<18446744073709551616) (.need (aD (n+(↑(pc 64 (ws.getD i.toNat 0).toNat):Int))) (.need (aD (i+1)) (.at (.mk (sl 16 [(3,.s (.int .i64 (n+(↑(pc 64 (ws.getD i.toNat 0).toNat):Int)))),(6,.ints .u64 16 ws),(7,.s (.int .i64 (i+1)))]) [] (hd Tryd.f27 3) (.mk none false 0 [] 0)))))))) (.ret [] (.s (.int .i64 n))):=by kernel_rfl
def abP(x:Int):Int:=(Lib.ctz 64 x.toNat:Nat)
abbrev s34:=bY [tU] [bq] (fun(x,())=>[(0:Int)≤x∧x<(18446744073709551616:Int)]) (fun(x,())=>(abP x,()))
abbrev s13:=bY [bq] [dM] (fun _=>[]) (fun(n,())=>(b8 n,()))
abbrev s21:=bY [dM,dM] [dM] (fun _=>[]) (fun(a,b,())=>(db .andNot a b,()))
def aqx:aH:=[(29,s13),(23,s21),(103,s34)]
def asG:List (Nat×Norm):=[(6,⟨[],[17,18],0,[]⟩)]
noncomputable def c12(ws:List Int)(i:Int):bC:=⟨sl 30 [(17,.ints .u64 16 ws),(18,.s (.int .i64 i))],[],hd Tryd.f95 6,{}⟩
theorem aqy(ws:List Int)(n:Int):run P aqx.sum Tryd.f95 asG (start Tryd.f95 [.ints .u64 16 ws,.s (.int .i64 n)] [])=
 Tree.ite (decide (imax n (0:Int)≥1024)) (.ret [.own [.ints .u64 16 ws] 47] (.bm [.s (.aZ .i64 0),.s (.aI false)])) (.at (.mk (sl 30 [(17,.ints .u64 16 (db BinOp.andNot ws (b8 (imax n 0)))),(18,.s (.int .i64 0))]) [] (hd Tryd.f95 6) (.mk none false 0 [] 0))):=by kernel_rfl
theorem aqz(ws:List Int)(i:Int):run P aqx.sum Tryd.f95 asG (c12 ws i)=
 Tree.ite (decide (i<16)) (.need ((0:Int)≤i) (.need (i<(↑(16:Nat):Int)) (.ite (ws.getD i.toNat (0:Int) !=0) (.need (aD (i*64)) (.need ((0:Int)≤ws.getD i.toNat (0:Int)∧ws.getD i.toNat (0:Int)<18446744073709551616) (.need (aD (i*64+abP (ws.getD i.toNat 0))) (.ret [] (.bm [.s (.int .i64 (i*64+abP (ws.getD i.toNat 0))),.s (.aI true)]))))) (.need (aD (i+1)) (.at (.mk (sl 30 [(17,.ints .u64 16 ws),(18,.s (.int .i64 (i+1)))]) [] (hd Tryd.f95 6) (.mk none false 0 [] 0))))))) (.ret [] (.bm [.s (.aZ .i64 0),.s (.aI false)])):=by kernel_rfl
def kJ:List Int→Int→Option Int
 |[],_=>none
 |w::ws,i=>if w≠0 then some (i*64+abP w)else kJ ws (i+1)
def ny(ws:List Int)(n:Int):Option Int:=if imax n 0≥1024 then none else kJ (db .andNot ws (b8 (imax n 0))) 0
def bu(ws:List Int)(n:Int):Int:=(ny ws n).getD 0
def eM(ws:List Int)(n:Int):Bool:=(ny ws n).isSome
abbrev s12:=bY [dM,bq] [bq,cV] (fun(ws,_,())=>[okW ws]) (fun(ws,n,())=>(bu ws n,eM ws n,()))
def fr(b:Nat→Bool)(m:Nat):List Nat:=(List.range m).filter b
def adQ(ws:List Int):List Nat:=fr (bit ws) 1024
theorem qF(b:Nat→Bool)(m:Nat):fr b (m+1)=fr b m++(if b m=true then [m]else []):=by
 unfold fr
 rw[List.range_succ,List.filter_append]
 cases h:b m<;>simp[h]
theorem ahd(b:Nat→Bool)(m:Nat):(fr b m).length≤m:=by
 have:=List.length_filter_le b (List.range m)
 rwa[List.length_range]at this
theorem abQ{x:Nat}(h0:x≠0)(h:x<18446744073709551616):Lib.ctz 64 x<64∧x.testBit (Lib.ctz 64 x)=true∧∀c,c<Lib.ctz 64 x→x.testBit c=false:=by
 unfold Lib.ctz
 rw[if_neg h0]
 obtain⟨m,h1,h2⟩:=Lib.ctzFrom_spec 64 x (by omega) h
 generalize Lib.ctzFrom 64 x=e at *
 refine⟨h2, ?_,fun c hc=> ?_⟩
 ·rw[h1,Nat.testBit_two_pow_mul]
  simp
 ·rw[h1,Nat.testBit_two_pow_mul]
  simp;omega
theorem mg : ∀ (l : List Int) (i : Int), (∀ w ∈ l, 0 ≤ w ∧ w < 18446744073709551616) →
    match kJ l i with
    | some v => ∃ j c : Nat, j < l.length ∧ c < 64 ∧ v = (i + j) * 64 + c ∧ (l.getD j 0).toNat.testBit c = true ∧ (∀ c', c' < c → (l.getD j 0).toNat.testBit c' = false) ∧ ∀ j', j' < j → l.getD j' 0 = 0
    | none => ∀ j, l.getD j 0 = 0
  | [], i, _ => fun j => by simp
  | w :: l, i, h => by
    unfold kJ
    have hw := h w (by simp)
    by_cases h0 : w ≠ 0
    · rw [if_pos h0]
      obtain ⟨h1, h2, h3⟩ := abQ (x := w.toNat) (by omega) (by omega)
      exact ⟨0, Lib.ctz 64 w.toNat, by simp, h1, by simp [abP], by simpa using h2, by simpa using h3, fun j' hj => by omega⟩
    · rw [if_neg h0]
      have ih := mg l (i + 1) (fun x hx => h x (by simp [hx]))
      split
      · rename_i v hv
        rw [hv] at ih
        obtain ⟨j, c, h1, h2, h3, h4, h5, h6⟩ := ih
        refine ⟨j + 1, c, by simp; omega, h2, by rw [h3]; simp; omega, by simpa using h4, by simpa using h5, fun j' hj => ?_⟩
        cases j' with
        | zero => simp; omega
        | succ j' => simpa using h6 j' (by omega)
      · rename_i hv
        rw [hv] at ih
        intro j
        cases j with
        | zero => simp; omega
        | succ j => simpa using ih j
theorem adR{ws:List Int}(hw:okW ws){n v:Int}(h:ny ws n=some v):∃p:Nat,v=(p:Int)∧p<1024∧bit ws p=true∧n≤(p:Int)∧∀k:Nat,k<p→n≤(k:Int)→bit ws k=false:=by
 unfold ny at h
 split at h
 ·cases h
 ·rename_i h0
  obtain⟨h1,h2⟩:=nw (.inr (.inr rfl)) hw (cT (imax n 0)).1
  have hs:=mg _ 0 h1.2
  rw[h]at hs
  obtain⟨j,c,g1,g2,g3,g4,g5,g6⟩:=hs
  rw[h1.1]at g1
  have hm:∀k,k<1024→bit (db .andNot ws (b8 (imax n 0))) k=(bit ws k&& !decide ((k:Int)<imax n 0)):=fun k hk=>by
   rw[h2 k hk,(cT (imax n 0)).2 k hk];rfl
  have hp:bit (db .andNot ws (b8 (imax n 0))) (64*j+c)=true:=by
   unfold bit wd
   rw[show(64*j+c) / 64=j from by omega,show(64*j+c)%64=c from by omega]
   exact g4
  have adP:∀k,k<64*j+c→bit (db .andNot ws (b8 (imax n 0))) k=false:=fun k hk=>by
   unfold bit wd
   by_cases hkj:k / 64=j
   ·rw[hkj];exact g5 _ (by omega)
   ·rw[g6 (k / 64) (by omega)];simp
  have asH:imax n 0=n∧0≤n∨imax n 0=0∧n<0:=by unfold imax;split<;>omega
  have hp2:=hp
  rw[hm _ (by omega)]at hp2
  simp only[Bool.and_eq_true,Bool.not_eq_true',decide_eq_false_iff_not]at hp2
  refine⟨64*j+c,by rw[g3];simp;omega,by omega,hp2.1,by omega,fun k hk hn=> ?_⟩
  have:=adP k hk
  rw[hm k (by omega)]at this
  simp only[Bool.and_eq_false_iff,Bool.not_eq_false',decide_eq_true_eq]at this
  rcases this with h|h
  ·exact h
  ·omega
theorem adS{ws:List Int}(hw:okW ws){n:Int}(h:ny ws n=none):∀k:Nat,k<1024→n≤(k:Int)→bit ws k=false:=by
 intro k hk hn
 unfold ny at h
 have asH:imax n 0=n∧0≤n∨imax n 0=0∧n<0:=by unfold imax;split<;>omega
 split at h
 ·omega
 ·rename_i h0
  obtain⟨h1,h2⟩:=nw (.inr (.inr rfl)) hw (cT (imax n 0)).1
  have hs:=mg _ 0 h1.2
  rw[h]at hs
  have hb:bit (db .andNot ws (b8 (imax n 0))) k=false:=by
   unfold bit wd
   rw[hs];simp
  rw[h2 k hk,(cT (imax n 0)).2 k hk,decide_eq_false (by omega)]at hb
  simpa[opb]using hb
def abR(ws:List Int):Int:=((ws.map fun w=>pc 64 w.toNat).sum:Nat)
theorem aqA{Z:bd}:dt P Z 27 [dM] [bq] (fun(ws,())=>[okW ws]) (fun(ws,())=>(abR ws,())):=by
 refine au Tryd.func27 (by kernel_rfl) (by kernel_rfl) ?_
 rintro⟨(ws:List Int),⟨⟩⟩ _ ⟨(hw:okW ws),_⟩ X hX hz
 have hT:aqu.Ok P Z:=aH.Ok.cons ams.sum aH.Ok.nil
 refine go hz hX hT Tryd.func27 (aqv ws) ?_
 have bound:∀l:List Int,(l.map fun w=>pc 64 w.toNat).sum≤64*l.length:=fun l=>by
  induction l with
  |nil=>simp
  |cons a l ih=>have:=jZ 64 a.toNat;simp only[List.map_cons,List.sum_cons,List.length_cons];omega
 refine nX (fun(i:Int)=>c14 ws (((ws.take i.toNat).map fun w=>pc 64 w.toNat).sum:Nat) i) (fun i=>0≤i∧i≤16) (fun i=>(16 - i).toNat) ?_ 0 ⟨by omega,by omega⟩
 rintro i ⟨(h0:0≤i),(h1:i≤16)⟩ ih
 have hl:=hw.1
 have hb:=bound (ws.take i.toNat)
 rw[List.length_take]at hb
 refine go hz hX hT Tryd.func27 (aqw ws _ i) ⟨fun h=> ?_,fun h=> ?_⟩
 ·have hi:i<(16:Int):=of_decide_eq_true h
  have hm:=hw.2 (ws.getD i.toNat 0) (by rw[List.getD,List.getElem?_eq_getElem (by omega)];exact List.getElem_mem (by omega))
  have hp:=jZ 64 (ws.getD i.toNat 0).toNat
  refine⟨h0,hi,hm,⟨by omega,by omega⟩,⟨by omega,by omega⟩, ?_⟩
  have:=ih (i+1) ⟨by omega,by omega⟩ (by omega)
  rw[show(i+1).toNat=i.toNat+1 from by omega,ya ws i.toNat 0 (by omega)]at this
  rw[List.map_append,List.sum_append]at this
  simp only[List.map_cons,List.map_nil,List.sum_cons,List.sum_nil,Nat.add_zero]at this
  rw[Int.natCast_add]at this
  exact this
 ·have hi:¬i<(16:Int):=of_decide_eq_false h
  rw[List.take_of_length_le (by omega)]
  exact aT (abR ws,()) rfl (by kernel_rfl)
theorem yc:∀(n x:Nat),pc n x=((List.range n).filter x.testBit).length
 |0,x=>rfl
 |n+1,x=>by
  rw[pc,yc n (x / 2),List.range_succ_eq_map,List.filter_cons,List.filter_map]
  have e:(x.testBit∘Nat.succ)=(x / 2).testBit:=by funext i;simp[Nat.testBit_succ]
  rw[e,Nat.testBit_zero]
  rcases Nat.mod_two_eq_zero_or_one x with h|h
  ·rw[h];simp
  ·rw[h];simp;omega
theorem amv{ws:List Int}(hl:ws.length=16):abR ws=((adQ ws).length:Nat):=by
 have:∀j,j≤16→(fr (bit ws) (64*j)).length=((ws.take j).map fun w=>pc 64 w.toNat).sum:=by
  intro j
  induction j with
  |zero=>intro _;rfl
  |succ j ih=>
   intro hj
   rw[ya ws j 0 (by omega),List.map_append,List.sum_append,←ih (by omega)]
   unfold fr
   rw[show 64*(j+1)=64*j+64 from by omega,List.range_add,List.filter_append,List.length_append,List.filter_map,List.length_map]
   simp only[List.map_cons,List.map_nil,List.sum_cons,List.sum_nil,Nat.add_zero]
   rw[yc]
   congr 2
   apply List.filter_congr
   intro i hi
   have hi:=List.mem_range.1 hi
   simp only[Function.comp,bit,wd]
   rw[show(64*j+i) / 64=j from by omega,show(64*j+i)%64=i from by omega]
 unfold abR adQ
 have h:=this 16 (by omega)
 rw[show 64*16=1024 from rfl]at h
 rw[h,List.take_of_length_le (by omega)]
theorem amw{Z:bd}(h34:uS P Z 103 s34):dt P Z 95 [dM,bq] [bq,cV] (fun(ws,_,())=>[okW ws]) (fun(ws,n,())=>(bu ws n,eM ws n,())):=by
 refine au Tryd.func95 (by kernel_rfl) (by kernel_rfl) ?_
 rintro⟨(ws:List Int),(n:Int),⟨⟩⟩ _ ⟨(hw:okW ws),_⟩ X hX hz
 have hT:aqx.Ok P Z:=aH.Ok.cons vL.sum (aH.Ok.cons afp.sum (aH.Ok.cons h34 aH.Ok.nil))
 refine go hz hX hT Tryd.func95 (aqy ws n) ⟨fun h=> ?_,fun h=> ?_⟩
 ·have h:imax n 0≥1024:=of_decide_eq_true h
  refine aT (0,false,()) ?_ (by kernel_rfl)
  simp only[bu,eM,ny,if_pos h]
  rfl
 ·have h:¬imax n 0≥1024:=of_decide_eq_false h
  have e:ny ws n=kJ (db .andNot ws (b8 (imax n 0))) 0:=by unfold ny;rw[if_neg h]
  have hr:=(nw (.inr (.inr rfl)) hw (cT (imax n 0)).1).1
  simp only[bu,eM,e]
  generalize db BinOp.andNot ws (b8 (imax n 0))=rest at *
  refine nX (fun(i:Int)=>c12 rest i) (fun i=>0≤i∧i≤16∧kJ rest 0=kJ (rest.drop i.toNat) i) (fun i=>(16 - i).toNat) ?_ 0 ⟨by omega,by omega,rfl⟩
  rintro i ⟨(h0:0≤i),(h1:i≤16),h2⟩ ih
  have hl:=hr.1
  refine go hz hX hT Tryd.func95 (aqz rest i) ⟨fun h=> ?_,fun h=> ?_⟩
  ·have hi:i<(16:Int):=of_decide_eq_true h
   have hd:rest.drop i.toNat=rest.getD i.toNat 0::rest.drop (i.toNat+1):=by
    rw[List.drop_eq_getElem_cons (by omega),List.getD,List.getElem?_eq_getElem (by omega)];rfl
   have hm:=hr.2 (rest.getD i.toNat 0) (by rw[List.getD,List.getElem?_eq_getElem (by omega)];exact List.getElem_mem (by omega))
   rw[hd,kJ]at h2
   refine⟨h0,hi,fun h3=> ?_,fun h3=>⟨⟨by omega,by omega⟩,ih (i+1) ⟨by omega,by omega, ?_⟩ (by omega)⟩⟩
   ·have h3:rest.getD i.toNat 0≠0:=by simpa using h3
    rw[if_pos h3]at h2
    have hc:=(abQ (x:=(rest.getD i.toNat 0).toNat) (by omega) (by omega)).1
    refine⟨⟨by omega,by omega⟩,hm,⟨by unfold abP;omega,by unfold abP;omega⟩, ?_⟩
    rw[h2]
    exact aT _ rfl (by kernel_rfl)
   ·have h3:¬rest.getD i.toNat 0≠0:=by simpa using h3
    rw[if_neg h3]at h2
    rw[h2,show(i+1).toNat=i.toNat+1 from by omega]
  ·have hi:¬i<(16:Int):=of_decide_eq_false h
   rw[List.drop_eq_nil_of_le (by omega)]at h2
   rw[h2]
   exact aT (0,false,()) rfl (by kernel_rfl)
end Bx
namespace Ts
open Go Go.Sx Go.Proofs Lf
abbrev Th:=Ds.Th
abbrev As:=Ds.As
abbrev Ws:=List Int
def fM(th:Th)(m:As)(n deep:Int):Int:=if deep>16 then 4 else if Ds.jo th m n=0 then rM (Ds.hC th m n)else Ds.jo th m n
def rS(th:Th)(m:As)(n deep:Int):Bool:=decide (deep≤16)&&decide (Ds.jo th m n=0)
def ke(th:Th)(m:As)(n deep:Int):Bool:=rS th m n deep&&jr (Ds.hC th m n)
def bN(th:Th)(m:As)(n deep:Int):List En:=if rS th m n deep=true then nr (Ds.hC th m n)else []
def aL(th:Th)(m:As)(n deep:Int):List Br:=if rS th m n deep=true then mA (Ds.hC th m n)else []
def cU(l:Bool)(es:List En)(bs:List Br):ByteArray:=if l=true then(es.getD 0 dE).1 else(bs.getD 0 dB).1
def aa:List Br→List Br
 |[]=>[]
 |b::r=>(ByteArray.empty,b.2.1,())::r
abbrev Wr:Type:=As×Int×Ws×Ws×Br×Int
def bI(th:Th)(m:As)(fu:Int)(fr fs:Ws)(l:Bool)(es:List En)(bs:List Br):Wr:=
 if Bx.eM fr 0=false then(m,fu,fr,fs,dB,41)
 else if gT l es (aa bs)≠0 then(m,fu,fr,fs,dB,gT l es (aa bs))
 else if(Ds.kb th m fu (Bx.bu fr 0) (c9 l es (aa bs))).2.2≠0 then
  ((Ds.kb th m fu (Bx.bu fr 0) (c9 l es (aa bs))).1,(Ds.kb th m fu (Bx.bu fr 0) (c9 l es (aa bs))).2.1,fr,fs,dB,(Ds.kb th m fu (Bx.bu fr 0) (c9 l es (aa bs))).2.2)
 else((Ds.kb th m fu (Bx.bu fr 0) (c9 l es (aa bs))).1,(Ds.kb th m fu (Bx.bu fr 0) (c9 l es (aa bs))).2.1,Bx.cP fr (Bx.bu fr 0),Bx.cO fs (Bx.bu fr 0),(cU l es bs,Bx.bu fr 0,()),0)
abbrev Wrs:Type:=As×Int×Ws×Ws×List Br×Int
def two(a:Wr)(b:Wr):Wrs:=(b.1,b.2.1,b.2.2.1,b.2.2.2.1,[a.2.2.2.2.1,b.2.2.2.2.1],b.2.2.2.2.2)
def bo(th:Th)(m:As)(fu:Int)(fr fs:Ws)(l:Bool)(es:List En)(bs:List Br):Wrs:=
 if es.length+bs.length=0 then(m,fu,fr,fs,[],0)
 else if bh es (aa bs)≤254 then
  let a:=bI th m fu fr fs l es (aa bs)
  (a.1,a.2.1,a.2.2.1,a.2.2.2.1,[a.2.2.2.2.1],a.2.2.2.2.2)
 else if spC l es (aa bs)≠0 then(m,fu,fr,fs,[],spC l es (aa bs))
 else
  let a:=bI th m fu fr fs (bO l es (aa bs)) (aY l es (aa bs)) (bc l es (aa bs))
  if a.2.2.2.2.2≠0 then(a.1,a.2.1,a.2.2.1,a.2.2.2.1,[],a.2.2.2.2.2)
  else two a (bI th a.1 a.2.1 a.2.2.1 a.2.2.2.1 (bO l es (aa bs)) (cN l es (aa bs)) (cW l es (aa bs)))
def doE(key:ByteArray)(op:Option ByteArray)(l:List En):List En:=match op with
 |some val=>bw l key val
 |none=>if gF l key=true then cz l key else []
def py(key:ByteArray)(op:Option ByteArray)(l:List En):Int:=match op with
 |some _=>0
 |none=>if gF l key=true then 0 else 5
def je(fs:Ws)(n:Int):Ws:=if Bx.lO fs n=true then Bx.cP fs n else fs
def pz(fs gn:Ws)(n:Int):Ws:=if Bx.lO fs n=true then Bx.cO gn n else gn
abbrev Chg:Type:=As×Int×Ws×Ws×Ws×List Br×Int
def gV(gn:Ws)(w:Wrs):Chg:=(w.1,w.2.1,w.2.2.1,w.2.2.2.1,gn,w.2.2.2.2.1,w.2.2.2.2.2)
def kT(k:ByteArray):List Br→List Br
 |[]=>[]
 |b::r=>(k,b.2.1,())::r
def vO(th:Th)(key:ByteArray)(op:Option ByteArray):Nat→As→Int→Ws→Ws→Ws→Int→Int→Chg
 |0,m,fu,fr,fs,gn,_,_=>(m,fu,fr,fs,gn,[],4)
 |f+1,m,fu,fr,fs,gn,n,deep=>
  if fM th m n deep≠0 then(m,fu,fr,fs,gn,[],fM th m n deep)
  else if ke th m n deep=true then
   if py key op (bN th m n deep)≠0 then(m,fu,fr,fs,gn,[],py key op (bN th m n deep))
   else gV (pz fs gn n) (bo th m fu fr (je fs n) true (doE key op (bN th m n deep)) (aL th m n deep))
  else if aL th m n deep=[]then(m,fu,fr,fs,gn,[],4)
  else
   let k:=(aU (aL th m n deep) key).toNat
   let r:=vO th key op f m fu fr fs gn ((aL th m n deep).getD k dB).2.1 (deep+1)
   if r.2.2.2.2.2.2≠0 then(r.1,r.2.1,r.2.2.1,r.2.2.2.1,r.2.2.2.2.1,[],r.2.2.2.2.2.2)
   else gV (pz r.2.2.2.1 r.2.2.2.2.1 n) (bo th r.1 r.2.1 r.2.2.1 (je r.2.2.2.1 n) false (bN th m n deep)
    ((aL th m n deep).take k++kT ((aL th m n deep).getD k dB).1 r.2.2.2.2.2.1++(aL th m n deep).drop (k+1)))
end Ts
namespace Bx
open Go Go.Sx Go.Proofs Go.RowKit
set_option maxHeartbeats 1000000 in
theorem amx(x k idx:Nat)(w:World)(hx0:((x:Int)==0)=false)
 (key:IntKind.u64.wrap (bits BinOp.and IntKind.u64 (x:Int) (IntKind.u64.wrap (-(x:Int)))*285870213051353865) / 288230376151711744=(idx:Int))
 (hi:idx<64) (hk:k<64) (p6:w.cell? ⟨1,idx,none⟩=some (.int .u8 k)):
 Calls Tryd.prog 103 #[.int .u64 x] w fun e w'=>e=.returned (.int .i64 k)∧w'=w:=by
 go_enter Tryd.func103,Tryd.ntmps103
 go_wp2_with (simp only[key])
 go_ret
 exact⟨rfl,rfl⟩
set_option maxHeartbeats 1000000 in
theorem amy(w:World):
 Calls Tryd.prog 103 #[.int .u64 0] w fun e w'=>e=.returned (.int .i64 64)∧w'=w:=by
 go_enter Tryd.func103,Tryd.ntmps103
 go_wp2
 go_ret
 exact⟨rfl,rfl⟩
theorem aqB(w:World)(h:TabAt 1 Lib.deBruijn64tab w):1<w.heap.size:=by
 have h0:=h 0 (by decide)
 rcases Nat.lt_or_ge 1 w.heap.size with h1|h1
 ·exact h1
 ·simp[World.cell?,Array.getElem?_eq_none h1]at h0
def bV:bd:=⟨[1],TabAt 1 Lib.deBruijn64tab,fun w h b hb=>by rw[List.mem_singleton.1 hb];exact aqB w h,fun w w' h k j hj=>by rw[lV (k 1 (by simp))];exact h j hj⟩
theorem aqC(x:Nat)(hx:x<18446744073709551616)(w:World)(hT:TabAt 1 Lib.deBruijn64tab w):
 Calls Tryd.prog 103 #[.int .u64 x] w fun e w'=>e=.returned (.int .i64 (Lib.ctz 64 x))∧w'=w:=by
 by_cases hx0:x=0
 ·subst hx0
  exact amy w
 ·obtain⟨adP,hk⟩:=Lib.lowest_bit 64 x hx0 hx
  obtain⟨hi,auJ⟩:=Lib.deBruijn64_at _ hk
  have p6:=hT _ hi
  rw[auJ]at p6
  exact amx x _ _ w (by simp;omega) (tz64_key x _ hx hx0 adP) hi hk p6
theorem asI:dt P bV 103 [tU] [bq] (fun(x,())=>[(0:Int)≤x∧x<(18446744073709551616:Int)]) (fun(x,())=>(abP x,())):=by
 rintro⟨(x:Int),⟨⟩⟩ _ ⟨(hx:0≤x∧x<18446744073709551616),_⟩ G w vs hG hz hd
 obtain⟨n,rfl⟩:=Int.eq_ofNat_of_zero_le hx.1
 obtain⟨v,rest,rfl,h1,h2⟩:=aw.1 hd
 obtain rfl:=aV.1 h2
 have h3:v=.int .u64 n:=by
  have:=ah (x:=.int .u64 n) (by simp) h1
  cases this;rfl
 subst h3
 refine(aqC n (by omega) w hz).mono ?_
 rintro e w' ⟨rfl,rfl⟩
 refine⟨_,rfl,Good.val ⟨fun id o ho=>by simp at ho,fun i j oi oj b hi=>by simp at hi,fun b hb=> ?_,hG⟩ ?_⟩
 ·obtain⟨id,o,ho,_⟩:=hb;cases ho
 ·exact aq (.int .i64 _)
end Bx
namespace Lf
open Go Go.Sx Go.Proofs
abbrev gW:Ty:=.st [.bool,.lG (.ae cE) eE,.lG (.ae cB) eB]
abbrev aom(l:Bool)(r:Int×List En×List Br):AL [gW,bq]:=((decide (r.1=0)&&l,r.2.1,r.2.2,()),r.1,())
abbrev sQ(s:ByteArray):AL [gW,bq]:=((jr s,nr s,mA s,()),rM s,())
theorem amz{Z:bd}:dt P Z 57 [dU] [gW,bq] (fun _=>[]) (fun(s,())=>((jr s,nr s,mA s,()),rM s,())):=by
 refine au Tryd.func57 (by kernel_rfl) (by kernel_rfl) ?_
 rintro⟨(s0:ByteArray),⟨⟩⟩ _ _ X hX hz
 show Safe P 57 X (Ends [gW,bq] (sQ s0)) _
 have loop:∀(l:Bool) (n:Nat) (s:ByteArray) (es:List En) (bs:List Br),s.size≤n→es.length+bs.length+s.size≤254→aom l (iu l n s es bs)=sQ s0→
  Safe P 57 X (Ends [gW,bq] (sQ s0)) (asl s l es bs):=by
  intro l n
  induction n with
  |zero=>
   intro s es bs hn hb hy
   obtain rfl:=lH (Nat.le_zero.1 hn)
   refine go hz hX jH Tryd.func57 (afd ByteArray.empty l es bs) ⟨fun h=>absurd h (by simp),fun _=>⟨fun h=> ?_,fun h=> ?_⟩⟩
   ·refine aT ((false,[],[],()),4,()) ?_ (by kernel_rfl)
    rw[←hy,iu,if_neg (by simpa using h)];rfl
   ·refine aT ((l,es,bs,()),0,()) ?_ (by kernel_rfl)
    rw[←hy,iu,if_pos (by simpa using h)];rfl
  |succ n ih=>
   intro s es bs hn hb hy
   refine go hz hX jH Tryd.func57 (afd s l es bs) ⟨fun h=> ?_,fun h=> ?_⟩
   ·have h:s≠ByteArray.empty:=by simpa using h
    have bad:iu l (n+1) s es bs=(8,[],[])→∀(s':ByteArray) (lr:List En) (oK:List Br),Safe P 57 X (Ends [gW,bq] (sQ s0)) (ajj s' l lr oK false):=fun e s' lr oK=>by
     refine go hz hX jH Tryd.func57 (abz s' l lr oK false) ⟨fun _=> ?_,fun h=>by cases h⟩
     refine aT ((false,[],[],()),8,()) ?_ (by kernel_rfl)
     rw[←hy,e];rfl
    have cont:∀(s':ByteArray) (lr:List En) (oK:List Br),s'.size≤n→lr.length+oK.length+s'.size≤254→aom l (iu l n s' lr oK)=sQ s0→Safe P 57 X (Ends [gW,bq] (sQ s0)) (ajj s' l lr oK true):=fun s' lr oK h1 h2 h3=>by
     refine go hz hX jH Tryd.func57 (abz s' l lr oK true) ⟨fun h=>(by cases h),fun _=>ih s' lr oK h1 h2 h3⟩
    have hr:=fun hB=>jY (s:=s) hB
    refine⟨rfl,rfl,fun hl=>⟨fun hB=>⟨rfl,rfl,by omega, ?_⟩,fun hB=> ?_⟩,fun hl=>⟨fun hB=>⟨rfl,rfl,by decide,fun h2=> ?_,fun h2=> ?_⟩,fun hB=> ?_⟩⟩
    ·subst hl
     have hr:=hr hB
     cases h2:wW (hP s)
     ·exact bad (by rw[iu,if_neg h,if_neg (by simp[hB]),if_pos rfl,if_neg (by simp[h2])]) _ _ _
     ·have:=jY h2
      exact cont _ _ _ (by omega) (by simp only[List.length_append,List.length_cons,List.length_nil];omega) (by rw[←hy,iu,if_neg h,if_neg (by simp[hB]),if_pos rfl,if_pos h2])
    ·exact⟨fun h=>(by rw[hB]at h;cases h),fun _=>by rw[hB];exact bad (by rw[iu,if_neg h,if_pos hB]) _ _ _⟩
    ·subst hl
     have hr:=hr hB
     have e1:=vC (by decide) h2
     have e2:=abA (by decide) h2
     have b0:=gS (kc 2 (hP s)) 0
     have b1:=gS (kc 2 (hP s)) 1
     refine⟨by decide,by omega,⟨by show _≤aW _ 0;omega,by show aW _ 0≤_;omega⟩,by decide,by decide,by omega,⟨by show _≤aW _ 1;omega,by show aW _ 1≤_;omega⟩,by omega, ?_⟩
     rw[h2]
     exact cont _ _ _ (by omega) (by simp only[List.length_append,List.length_cons,List.length_nil];omega) (by rw[←hy,iu,if_neg h,if_neg (by simp[hB]),if_neg (by simp),if_pos h2];rfl)
    ·subst hl
     rw[h2]
     exact bad (by rw[iu,if_neg h,if_neg (by simp[hB]),if_neg (by simp),if_neg (by simp[h2])]) _ _ _
    ·rw[hB]
     exact bad (by rw[iu,if_neg h,if_pos hB]) _ _ _
   ·have h:s=ByteArray.empty:=by simpa using h
    refine⟨fun h2=> ?_,fun h2=> ?_⟩
    ·refine aT ((false,[],[],()),4,()) ?_ (by kernel_rfl)
     rw[←hy,iu,if_pos h,if_neg (by simpa using h2)];rfl
    ·refine aT ((l,es,bs,()),0,()) ?_ (by kernel_rfl)
     rw[←hy,iu,if_pos h,if_pos (by simpa using h2)];rfl
 have first:(s0.size:Int)≤254→s0≠ByteArray.empty→¬(aW s0 0≠1∧aW s0 0≠2)→Safe P 57 X (Ends [gW,bq] (sQ s0)) (aog s0):=fun h1 h2 h3=>by
  have hp:0<s0.size:=Nat.pos_of_ne_zero fun e=>h2 (lH e)
  refine go hz hX jH Tryd.func57 (ajk s0) ⟨by omega,by omega,by omega,by omega,by omega, ?_⟩
  have e:oq s0=iu (aW s0 0==1) s0.size (s0.extract 1 s0.size) [] []:=by rw[oq,if_neg (by omega),if_neg h2,if_neg h3]
  refine loop (aW s0 0==1) s0.size (s0.extract 1 s0.size) [] [] (by rw[du];omega) (by rw[du];simp only[List.length_nil];omega) ?_
  rw[←e];rfl
 have err:∀(c:Int) (hc:decide (c=0)=false),oq s0=(c,[],[])→sQ s0=((false,[],[],()),c,()):=fun c hc e=>by
  show((decide ((oq s0).1=0)&&(aW s0 0==1),(oq s0).2.1,(oq s0).2.2,()),(oq s0).1,())=_
  rw[e,hc];rfl
 refine go hz hX jH Tryd.func57 (alR s0) ⟨fun h=>aT ((false,[],[],()),40,()) (err 40 rfl ?_) (by kernel_rfl),fun h=>⟨fun h2=>aT ((false,[],[],()),8,()) (err 8 rfl ?_) (by kernel_rfl),fun h2=> ?_⟩⟩
 ·rw[oq,if_pos (of_decide_eq_true h)]
 ·rw[oq,if_neg (of_decide_eq_false h),if_pos (of_decide_eq_true h2)]
 ·have h:=of_decide_eq_false h
  have h2:=of_decide_eq_false h2
  have hp:0<s0.size:=Nat.pos_of_ne_zero fun e=>h2 (lH e)
  refine⟨by omega,by omega,fun h3=>⟨by omega,by omega,fun h4=>aT ((false,[],[],()),4,()) (err 4 rfl ?_) (by kernel_rfl),fun h4=>first (by omega) h2 ?_⟩,fun h3=>first (by omega) h2 ?_⟩
  ·have h3:aW s0 0≠1:=by simpa using h3
   have h4:aW s0 0≠2:=by simpa using h4
   rw[oq,if_neg h,if_neg h2,if_pos ⟨h3,h4⟩]
  ·have h4:aW s0 0=2:=by simpa using h4
   exact fun e=>e.2 h4
  ·have h3:aW s0 0=1:=by simpa using h3
   exact fun e=>e.1 h3
end Lf
namespace Go.Sx
open Go
inductive Wk1:AV→AV→Prop
 |refl (a:AV):Wk1 a a
 |bl (b:Bool):Wk1 (.s (.aI b)) (.s (.bool b))
 |il (k:IntKind) (n:Int):Wk1 (.s (.aZ k n)) (.s (.int k n))
 |em (c:aF):c.n=0→Wk1 .emp (.s (.ro c))
inductive WkL:List AV→List AV→Prop
 |nil:WkL [] []
 |cons {a b:AV} {l m:List AV}:Wk1 a b→WkL l m→WkL (a::l) (b::m)
inductive Wk2:AV→AV→Prop
 |one {a b:AV}:Wk1 a b→Wk2 a b
 |agg {l m:List AV}:WkL l m→Wk2 (.agg l) (.agg m)
inductive oL:List AV→List AV→Prop
 |nil:oL [] []
 |cons {a b:AV} {l m:List AV}:Wk2 a b→oL l m→oL (a::l) (b::m)
inductive Wk:AV→AV→Prop
 |two {a b:AV}:Wk2 a b→Wk a b
 |bm {l m:List AV}:oL l m→Wk (.bm l) (.bm m)
section
variable{ρ:Nat→Value}{H:aG}{O:Nat→Prop}{w:World}
theorem Wk1.den{a b:AV}(h:Wk1 a b){v:Value}(hd:ab ρ H O w a v):ab ρ H O w b v:=by
 cases h with
 |refl=>exact hd
 |bl b=>
  have:=ah (by simp) hd
  cases this
  exact aq (.bool _)
 |il k n=>
  have:=ah (by simp) hd
  cases this
  exact aq (.int _ _)
 |em c hc=>
  unfold ab at hd
  obtain⟨a,rfl⟩:=hd
  exact aq (tq hc a)
theorem Wk1.adm{a b:AV}(h:Wk1 a b){cs:List Value}(hd:aC ρ H O w a cs):aC ρ H O w b cs:=by
 cases h with
 |refl=>exact hd
 |bl b=>
  unfold aC at hd ⊢
  obtain⟨u,rfl,h⟩:=hd
  cases h
  exact⟨_,rfl,.bool _⟩
 |il k n=>
  unfold aC at hd ⊢
  obtain⟨u,rfl,h⟩:=hd
  cases h
  exact⟨_,rfl,.int _ _⟩
 |em c hc=>
  unfold aC at hd ⊢
  obtain⟨u,rfl,a,rfl⟩:=hd
  exact⟨_,rfl,tq hc a⟩
theorem WkL.den{l m:List AV}(h:WkL l m):∀{cs:List Value},an ρ H O w l cs→an ρ H O w m cs:=by
 induction h with
 |nil=>exact fun hd=>hd
 |cons h1 _ ih=>
  intro cs hd
  unfold an at hd ⊢
  obtain⟨c1,c2,e,g1,g2⟩:=hd
  exact⟨c1,c2,e,h1.adm g1,ih g2⟩
theorem Wk2.den{a b:AV}(h:Wk2 a b){v:Value}(hd:ab ρ H O w a v):ab ρ H O w b v:=by
 cases h with
 |one h=>exact h.den hd
 |agg h=>
  unfold ab at hd ⊢
  obtain⟨cs,e,g⟩:=hd
  exact⟨cs,e,h.den g⟩
theorem oL.den{l m:List AV}(h:oL l m):∀{vs:List Value},bz ρ H O w l vs→bz ρ H O w m vs:=by
 induction h with
 |nil=>exact fun hd=>hd
 |cons h1 _ ih=>
  intro vs hd
  obtain⟨v,rest,e,g1,g2⟩:=aw.1 hd
  exact aw.2 ⟨v,rest,e,h1.den g1,ih g2⟩
theorem Wk.den{a b:AV}(h:Wk a b){v:Value}(hd:ab ρ H O w a v):ab ρ H O w b v:=by
 cases h with
 |two h=>exact h.den hd
 |bm h=>
  unfold ab at hd ⊢
  obtain⟨us,e,g⟩:=hd
  exact⟨us,e,h.den g⟩
end
theorem aqD{X:Type}{S:Spec X}{x:X}{L:List ad}{r:AV}{o o':AV}{h:List ad}(m:Nat)(e:Norm.run ⟨[],[0],m,[]⟩ ⟨[r],L,[],{}⟩=some ⟨[o],h,[],{}⟩)(hm:(S.heap x).length≤m)(hw:Wk o o')(ho:S.out x=o')(hh:S.fv x=h):aiR S x L r:=
 ⟨⟨[],[0],m,[]⟩,o,hm,by rw[hh];exact e,fun ρ H O w v hd=>by rw[ho];exact hw.den hd⟩
end Go.Sx
namespace Ts
open Go Go.Sx Go.Proofs Lf
noncomputable abbrev P:Program:=Tryd.prog
abbrev eT:TypeId:=70
abbrev obT(i:Nat)(root:Int)(fr fs gn:Ws):ad:=.own [.ptr i 0,.s (.int .i64 root),.ints .u64 16 fr,.ints .u64 16 fs,.ints .u64 16 gn] eT
abbrev hT(th:Th)(m:As)(fu root:Int)(fr fs gn:Ws):List ad:=[obT 1 root fr fs gn,Ds.obD 2 3 fu,.vec (.ae Ds.cS th) Ds.eS,.map Ds.kS m]
abbrev bP(n:Int):AV:=.s (.int .i64 n)
abbrev asJ:=dA Ds.sGR Ds.mRd
abbrev asK:=dA Ds.sGW Ds.mWr
abbrev aqE:=uT [dU] [gW,bq] (fun _=>[]) (fun(s,())=>((jr s,nr s,mA s,()),rM s,()))
def aon:aH:=[(56,asJ),(57,aqE)]
theorem auK(th:Th)(m:As)(fu root:Int)(fr fs gn:Ws)(n deep:Int):run P aon.sum Tryd.f37 [] (start Tryd.f37 [.ptr 0 0,bP n,bP deep] (hT th m fu root fr fs gn))=
 Tree.ite (decide (deep>16)) (.ret [.own [.ptr 1 0,.s (.int .i64 root),.ints .u64 16 fr,.ints .u64 16 fs,.ints .u64 16 gn] 70,.own [.vec 2,.ag 3,.s (.int .i64 fu)] 96,.vec (.ae [.arr .u8 64] th) 138,.map (.arr .u8 64) m,.own [.s (.aI false),.emp,.emp] 73] (.bm [.agg [.s (.aI false),.emp,.emp],.s (.aZ .i64 4)])) (.need (bE (some [AV.ptr 0 0,.s (.int .i64 n)])) (.need (bE (some [ad.own [.vec 1,.ag 2,.s (.int .i64 fu)] 96,.vec (.ae [.arr .u8 64] th) 138,.map (.arr .u8 64) m])) (.need (Ds.bM th m fu) (.need (aD n) (.ite (Ds.jo th m n !=0) (.ret [.own [.ptr 1 0,.s (.int .i64 root),.ints .u64 16 fr,.ints .u64 16 fs,.ints .u64 16 gn] 70,.own [.vec 2,.ag 3,.s (.int .i64 fu)] 96,.vec (.ae [.arr .u8 64] th) 138,.map (.arr .u8 64) m,.own [.s (.aI false),.emp,.emp] 73] (.bm [.agg [.s (.aI false),.emp,.emp],.s (.int .i64 (Ds.jo th m n))])) (.ret [.own [.ptr 1 0,.s (.int .i64 root),.ints .u64 16 fr,.ints .u64 16 fs,.ints .u64 16 gn] 70,.own [.vec 2,.ag 3,.s (.int .i64 fu)] 96,.vec (.ae [.arr .u8 64] th) 138,.map (.arr .u8 64) m,.own [.s (.bool (jr (Ds.hC th m n))),.s (.ro (.ae [.str,.str] (nr (Ds.hC th m n)))),.s (.ro (.ae [.str,.int .i64] (mA (Ds.hC th m n))))] 73] (.bm [.agg [.s (.bool (jr (Ds.hC th m n))),.s (.ro (.ae [.str,.str] (nr (Ds.hC th m n)))),.s (.ro (.ae [.str,.int .i64] (mA (Ds.hC th m n))))],.s (.int .i64 (rM (Ds.hC th m n)))]))))))):=by kernel_rfl
abbrev XT:Type:=Th×As×Int×Int×Ws×Ws×Ws
abbrev sNo:Spec (XT×Int×Int):=⟨fun(_,n,deep)=>[.ptr 0 0,bP n,bP deep],fun((th,m,fu,root,fr,fs,gn),_,_)=>hT th m fu root fr fs gn,fun((th,m,fu,_),n,_)=>[Ds.bM th m fu,aD n],fun((th,m,fu,root,fr,fs,gn),_,_)=>hT th m fu root fr fs gn,
 fun((th,m,_),n,deep)=>.bm [.agg [.s (.bool (ke th m n deep)),.s (.ro (.ae cE (bN th m n deep))),.s (.ro (.ae cB (aL th m n deep)))],bP (fM th m n deep)]⟩
theorem ajM{Z:bd}:aon.Ok P Z:=aH.Ok.cons (Ds.asa.sum Ds.mRd) (aH.Ok.cons amz.uT aH.Ok.nil)
theorem adT{l l':AV}{es bs lr oK:AV}{e e':AV}(h1:Wk1 l l')(h2:Wk1 es lr)(h3:Wk1 bs oK)(h4:Wk1 e e'):Wk (.bm [.agg [l,es,bs],e]) (.bm [.agg [l',lr,oK],e']):=
 .bm (.cons (.agg (.cons h1 (.cons h2 (.cons h3 .nil)))) (.cons (.one h4) .nil))
theorem n9{Z:bd}:jA P Z 37 sNo:=by
 refine qv Tryd.func37 (by kernel_rfl) (fun x=>Nat.le_of_ble_eq_true (by kernel_rfl)) ?_
 rintro⟨⟨(th:Th),(m:As),(fu:Int),(root:Int),(fr:Ws),(fs:Ws),(gn:Ws)⟩,(n:Int),(deep:Int)⟩ ⟨(hd:Ds.bM th m fu),(hn:aD n),_⟩ X hX hz
 refine Ds.eR hz hX (by intro y hy;cases hy) ajM Tryd.func37 (auK th m fu root fr fs gn n deep) ⟨fun h=> ?_,fun h=>⟨rfl,rfl,hd,hn,fun h2=> ?_,fun h2=> ?_⟩⟩
 ·have h:=of_decide_eq_true h
  have e0:rS th m n deep=false:=by unfold rS;rw[decide_eq_false (by omega),Bool.false_and]
  refine aqD 4 (by kernel_rfl) (Nat.le_refl _) (adT (.refl (.s (.bool false))) (.em (.ae cE []) rfl) (.em (.ae cB []) rfl) (.refl (.s (.int .i64 4)))) ?_ rfl
  show AV.bm [.agg [.s (.bool (ke th m n deep)),.s (.ro (.ae cE (bN th m n deep))),.s (.ro (.ae cB (aL th m n deep)))],bP (fM th m n deep)]=_
  unfold ke bN aL fM
  rw[e0,if_pos h];rfl
 ·have h:=of_decide_eq_false h
  have h2:Ds.jo th m n≠0:=by simpa using h2
  have e0:rS th m n deep=false:=by unfold rS;rw[decide_eq_false h2,Bool.and_false]
  refine aqD 4 (by kernel_rfl) (Nat.le_refl _) (adT (.refl (.s (.bool false))) (.em (.ae cE []) rfl) (.em (.ae cB []) rfl) (.refl (bP (Ds.jo th m n)))) ?_ rfl
  show AV.bm [.agg [.s (.bool (ke th m n deep)),.s (.ro (.ae cE (bN th m n deep))),.s (.ro (.ae cB (aL th m n deep)))],bP (fM th m n deep)]=_
  unfold ke bN aL fM
  rw[e0,if_neg h,if_neg h2];rfl
 ·have h:=of_decide_eq_false h
  have h2:Ds.jo th m n=0:=by simpa using h2
  have e0:rS th m n deep=true:=by unfold rS;rw[decide_eq_true h2,decide_eq_true (by omega)];rfl
  refine aqD 4 (by kernel_rfl) (Nat.le_refl _) (adT (.refl (.s (.bool (jr (Ds.hC th m n))))) (.refl (.s (.ro (.ae cE (nr (Ds.hC th m n)))))) (.refl (.s (.ro (.ae cB (mA (Ds.hC th m n)))))) (.refl (bP (rM (Ds.hC th m n))))) ?_ rfl
  show AV.bm [.agg [.s (.bool (ke th m n deep)),.s (.ro (.ae cE (bN th m n deep))),.s (.ro (.ae cB (aL th m n deep)))],bP (fM th m n deep)]=_
  unfold ke bN aL fM
  rw[e0,if_neg h,if_pos h2];rfl
end Ts
namespace Ts
open Go Go.Sx Go.Proofs Lf
abbrev amA:=bY [Bx.dM,Bx.bq] [Bx.cV] (fun _=>[]) (fun(ws,n,())=>(Bx.lO ws n,()))
abbrev abS:=bY [Bx.dM,Bx.bq] [Bx.dM] (fun _=>[]) (fun(ws,n,())=>(Bx.cO ws n,()))
abbrev aoo:=bY [Bx.dM,Bx.bq] [Bx.dM] (fun _=>[]) (fun(ws,n,())=>(Bx.cP ws n,()))
def aop:aH:=[(35,amA),(43,abS),(98,aoo)]
theorem auL(th:Th)(m:As)(fu root:Int)(fr fs gn:Ws)(n:Int):run P aop.sum Tryd.f85 [] (start Tryd.f85 [.ptr 0 0,bP n] (hT th m fu root fr fs gn))=
 Tree.ite (Bx.lO fs n) (.ret [.own [.ptr 1 0,.s (.int .i64 root),.ints .u64 16 fr,.ints .u64 16 (Bx.cP fs n),.ints .u64 16 (Bx.cO gn n)] 70,.own [.vec 2,.ag 3,.s (.int .i64 fu)] 96,.vec (.ae [.arr .u8 64] th) 138,.map (.arr .u8 64) m] (.bm [])) (.ret [.own [.ptr 1 0,.s (.int .i64 root),.ints .u64 16 fr,.ints .u64 16 fs,.ints .u64 16 gn] 70,.own [.vec 2,.ag 3,.s (.int .i64 fu)] 96,.vec (.ae [.arr .u8 64] th) 138,.map (.arr .u8 64) m] (.bm [])):=by kernel_rfl
abbrev sLv:Spec (XT×Int):=⟨fun(_,n)=>[.ptr 0 0,bP n],fun((th,m,fu,root,fr,fs,gn),_)=>hT th m fu root fr fs gn,fun _=>[],fun((th,m,fu,root,fr,fs,gn),n)=>hT th m fu root fr (je fs n) (pz fs gn n),fun _=>.bm []⟩
theorem ajN{Z:bd}:aop.Ok P Z:=aH.Ok.cons Bx.zS.sum (aH.Ok.cons Bx.qB.sum (aH.Ok.cons Bx.vI.sum aH.Ok.nil))
theorem vP{Z:bd}:jA P Z 85 sLv:=by
 refine aO Tryd.func85 (by kernel_rfl) (fun x=>Nat.le_of_ble_eq_true (by kernel_rfl)) ?_
 rintro⟨⟨(th:Th),(m:As),(fu:Int),(root:Int),(fr:Ws),(fs:Ws),(gn:Ws)⟩,(n:Int)⟩ _ X hX hz
 refine Ds.eR hz hX (by intro y hy;cases hy) ajN Tryd.func85 (auL th m fu root fr fs gn n) ⟨fun h=> ?_,fun h=> ?_⟩
 ·have e1:je fs n=Bx.cP fs n:=if_pos h
  have e2:pz fs gn n=Bx.cO gn n:=if_pos h
  exact bU (h:=hT th m fu root fr (Bx.cP fs n) (Bx.cO gn n)) 4 rfl (Nat.le_refl _) rfl (by show hT th m fu root fr (je fs n) (pz fs gn n)=_;rw[e1,e2])
 ·have e1:je fs n=fs:=if_neg (by rw[h];simp)
  have e2:pz fs gn n=gn:=if_neg (by rw[h];simp)
  exact bU (h:=hT th m fu root fr fs gn) 4 rfl (Nat.le_refl _) rfl (by show hT th m fu root fr (je fs n) (pz fs gn n)=_;rw[e1,e2])
end Ts
namespace Ts
open Go Go.Sx Go.Proofs Lf
theorem auM(l:Bool)(es:List En)(bs:List Br):run P (aH.sum []) Tryd.f94 [] (start Tryd.f94 [avN l es bs] [])=
 Tree.ite l (.need ((0:Int)≤0) (.need ((0:Int)<(↑es.length:Int)) (.ret [.own [.s (.bool l),.s (.ro (.ae [.str,.str] es)),.s (.ro (.ae [.str,.int .i64] bs))] 73] (.s (.str (es.getD 0 (CL.d [.str,.str])).fst))))) (.need ((0:Int)≤0) (.need ((0:Int)<(↑bs.length:Int)) (.ret [.own [.s (.bool l),.s (.ro (.ae [.str,.str] es)),.s (.ro (.ae [.str,.int .i64] bs))] 73] (.s (.str (bs.getD 0 (CL.d [.str,.int .i64])).fst))))):=by kernel_rfl
abbrev avE:=bY [eF] [dU] (fun((l,es,bs,()),())=>[((l:Bool)=true→0<(es:List En).length)∧(l=false→0<(bs:List Br).length)]) (fun((l,es,bs,()),())=>(cU l es bs,()))
theorem ajO{Z:bd}:dt P Z 94 [eF] [dU] (fun((l,es,bs,()),())=>[((l:Bool)=true→0<(es:List En).length)∧(l=false→0<(bs:List Br).length)]) (fun((l,es,bs,()),())=>(cU l es bs,())):=by
 refine au Tryd.func94 (by kernel_rfl) (by kernel_rfl) ?_
 rintro⟨⟨(l:Bool),(es:List En),(bs:List Br),⟨⟩⟩,⟨⟩⟩ _ ⟨⟨h1,h2⟩,_⟩ X hX hz
 refine Lf.go hz hX aH.Ok.nil Tryd.func94 (auM l es bs) ⟨fun h=>⟨by omega,Int.ofNat_lt.2 (h1 h), ?_⟩,fun h=>⟨by omega,Int.ofNat_lt.2 (h2 h), ?_⟩⟩
 ·show Ends [dU] (cU l es bs,()) _ _
  unfold cU
  rw[if_pos h];exact aiM
 ·show Ends [dU] (cU l es bs,()) _ _
  unfold cU
  rw[if_neg (by rw[h];simp)];exact aiM
end Ts
namespace Ts
open Go Go.Sx Go.Proofs Lf
abbrev wY:List CK:=[.rows cB]
abbrev eBs:TypeId:=71
abbrev Rows:Type:=List (List Br×Unit)
abbrev asL:Ty:=.b (.row (.ae wY) eBs)
abbrev rwB(x:CL wY):List Br:=x.1
def nsJ:List (Nat×Norm):=[(3,⟨[(3,.ae cB [],eB)],[3,6,7,8],0,[]⟩)]
noncomputable def cJ(ls:List (CL wY))(acc:List Br)(i:Int):bC:=⟨sl 17 [(3,.vec 0),(6,.s (.ro (.ae wY ls))),(7,bP (ls.length:Int)),(8,bP i)],[.vec (.ae cB acc) eB],hd Tryd.f92 3,{}⟩
theorem trJ(ls:List (CL wY)):run P (aH.sum []) Tryd.f92 nsJ (start Tryd.f92 [.s (.ro (.ae wY ls))] [])=
 Tree.at (.mk (sl 17 [(3,.vec 0),(6,.s (.ro (.ae wY ls))),(7,.s (.int .i64 (↑ls.length:Int))),(8,.s (.int .i64 0))]) [.vec (.ae [.str,.int .i64] []) 79] (hd Tryd.f92 3) (.mk none false 0 [] 0)):=by kernel_rfl
theorem aoq(ls:List (CL wY))(acc:List Br)(i:Int):run P (aH.sum []) Tryd.f92 nsJ (cJ ls acc i)=
 Tree.ite (decide (i<(↑ls.length:Int))) (.need ((0:Int)≤i) (.need (i<(↑ls.length:Int)) (.need ((acc.length+(rwB (el ls i)).length)*(24:Nat)≤140737488355328) (.need (aD (i+1)) (.at (.mk (sl 17 [(3,.vec 0),(6,.s (.ro (.ae wY ls))),(7,.s (.int .i64 (↑ls.length:Int))),(8,.s (.int .i64 (i+1)))]) [.vec (.ae [.str,.int .i64] (acc++rwB (el ls i))) 79] (hd Tryd.f92 3) (.mk none false 0 [] 0))))))) (.ret [.vec (.ae [.str,.int .i64] acc) 79] (.vec 0)):=by kernel_rfl
def bW(ls:List (CL wY)):List Br:=ls.flatMap fun x=>rwB x
abbrev sJ:=bY [asL] [wU] (fun(ls,())=>[(ls:List (CL wY)).length≤100,(bW ls).length≤100000]) (fun(ls,())=>(bW ls,()))
def aor:aH:=[(92,sJ)]
theorem auN(l:Bool)(es:List En)(bs:List Br):run P aor.sum Tryd.f81 [] (start Tryd.f81 [avN l es bs] [])=
 Tree.ite (decide ((↑bs.length:Int)>0)) (.need ((0:Int)≤0) (.need ((0:Int)<(↑bs.length:Int)) (.need ((0:Int)≤1) (.need ((1:Int)≤(↑bs.length:Int)) (.need ((↑bs.length:Int)≤(↑bs.length:Int)) (.need ([([(ByteArray.empty,(bs.getD 0 (CL.d [.str,.int .i64])).snd.fst,())],()),(List.drop (Int.toNat 1) (List.take (↑bs.length:Int).toNat bs),())].length≤100) (.need ((bW [([(ByteArray.empty,(bs.getD 0 (CL.d [.str,.int .i64])).snd.fst,())],()),(List.drop (Int.toNat 1) (List.take (↑bs.length:Int).toNat bs),())]).length≤100000) (.ret [.own [.s (.bool l),.s (.ro (.ae [.str,.str] es)),.vec 4] 73,.own [.s (.bool l),.s (.ro (.ae [.str,.str] es)),.vec 4] 73,.dead,.vec (.ae wY [([(ByteArray.empty,(bs.getD 0 (CL.d [.str,.int .i64])).snd.fst,())],()),(List.drop (Int.toNat 1) (List.take (↑bs.length:Int).toNat bs),())]) 71,.vec (.ae [.str,.int .i64] (bW [([(ByteArray.empty,(bs.getD 0 (CL.d [.str,.int .i64])).snd.fst,())],()),(List.drop (Int.toNat 1) (List.take (↑bs.length:Int).toNat bs),())])) 79] (.agg [.s (.bool l),.s (.ro (.ae [.str,.str] es)),.vec 4]))))))))) (.ret [.own [.s (.bool l),.s (.ro (.ae [.str,.str] es)),.s (.ro (.ae [.str,.int .i64] bs))] 73,.own [.s (.bool l),.s (.ro (.ae [.str,.str] es)),.s (.ro (.ae [.str,.int .i64] bs))] 73] (.agg [.s (.bool l),.s (.ro (.ae [.str,.str] es)),.s (.ro (.ae [.str,.int .i64] bs))])):=by kernel_rfl
theorem adU{ls:List (CL wY)}(k:Nat)(h:k<ls.length):bW (ls.take (k+1))=bW (ls.take k)++rwB (ls.getD k (CL.d wY)):=by
 rw[←lJ (d:=CL.d wY) h]
 simp[bW]
theorem ajP{ls:List (CL wY)}(k:Nat):(bW (ls.take k)).length≤(bW ls).length:=by
 have e:bW ls=bW (ls.take k)++bW (ls.drop k):=by
  unfold bW
  exact(congrArg (List.flatMap fun x=>rwB x) (List.take_append_drop k ls).symm).trans List.flatMap_append
 rw[e,List.length_append];omega
theorem rT{Z:bd}:dt P Z 92 [asL] [wU] (fun(ls,())=>[(ls:List (CL wY)).length≤100,(bW ls).length≤100000]) (fun(ls,())=>(bW ls,())):=by
 refine au Tryd.func92 (by kernel_rfl) (by kernel_rfl) ?_
 rintro⟨(ls:List (CL wY)),⟨⟩⟩ _ ⟨(hl:ls.length≤100),(hj:(bW ls).length≤100000),_⟩ X hX hz
 have first:∀(n k:Nat),k+n=ls.length→Safe P 92 X (Ends [wU] (bW ls,())) (cJ ls (bW (ls.take k)) (k:Int)):=by
  intro n
  induction n with
  |zero=>
   intro k hk
   refine Lf.go hz hX aH.Ok.nil Tryd.func92 (aoq ls _ k) ⟨fun h=>absurd (of_decide_eq_true h) (by omega),fun h=> ?_⟩
   rw[List.take_of_length_le (by omega)]
   exact aT (bW ls,()) rfl (by kernel_rfl)
  |succ n ih=>
   intro k hk
   have e:=adU (ls:=ls) k (by omega)
   have l1:=ajP (ls:=ls) (k+1)
   rw[e,List.length_append]at l1
   refine Lf.go hz hX aH.Ok.nil Tryd.func92 (aoq ls _ k) ⟨fun h=>⟨by omega,by omega, ?_,⟨by omega,by omega⟩, ?_⟩,fun h=>absurd (of_decide_eq_false h) (by omega)⟩
   ·show((bW (ls.take k)).length+(rwB (ls.getD k (CL.d wY))).length)*24≤140737488355328
    omega
   ·have:=ih (k+1) (by omega)
    rw[e]at this
    exact this
 exact Lf.go hz hX aH.Ok.nil Tryd.func92 (trJ ls) (first ls.length 0 (by omega))
theorem ajQ{Z:bd}:aor.Ok P Z:=aH.Ok.cons rT.sum aH.Ok.nil
theorem afr{Z:bd}:dt P Z 81 [eF] [gW] (fun((_,_,bs,()),())=>[(bs:List Br).length≤1000]) (fun((l,es,bs,()),())=>((l,es,aa bs,()),())):=by
 refine au Tryd.func81 (by kernel_rfl) (by kernel_rfl) ?_
 rintro⟨⟨(l:Bool),(es:List En),(bs:List Br),⟨⟩⟩,⟨⟩⟩ _ ⟨(hl:bs.length≤1000),_⟩ X hX hz
 show Safe P 81 X (Ends [gW] ((l,es,aa bs,()),())) _
 refine Lf.go hz hX ajQ Tryd.func81 (auN l es bs) ⟨fun h=> ?_,fun h=> ?_⟩
 ·have h:=of_decide_eq_true h
  obtain⟨b,r,rfl⟩:∃b r,bs=b::r:=by
   cases bs with
   |nil=>simp at h
   |cons b r=>exact⟨b,r,rfl⟩
  simp only[List.length_cons]at h hl
  have e:bW [([(ByteArray.empty,((b::r).getD (0:Nat) (CL.d [CK.str,CK.int IntKind.i64])).snd.fst,())],()),(List.drop (Int.toNat (1:Int)) (List.take (↑(b::r).length:Int).toNat (b::r)),())]=aa (b::r):=by
   show [(ByteArray.empty,b.2.1,())]++(List.drop 1 (List.take (r.length+1) (b::r))++[])=(ByteArray.empty,b.2.1,())::r
   rw[List.take_of_length_le (by simp)]
   simp
  refine⟨by omega,by simp only[List.length_cons];omega,by omega,by simp only[List.length_cons];omega,by simp only[List.length_cons];omega,by show 2≤100;decide, ?_, ?_⟩
  ·refine Nat.le_trans (Nat.le_of_eq (congrArg List.length e)) ?_
   show r.length+1≤100000;omega
  ·exact aT (rs:=[gW]) ((l,es,bW [([(ByteArray.empty,((b::r).getD (0:Nat) (CL.d [CK.str,CK.int IntKind.i64])).snd.fst,())],()),(List.drop (Int.toNat (1:Int)) (List.take (↑(b::r).length:Int).toNat (b::r)),())],()),()) (by rw[e]) (by kernel_rfl)
 ·have h:=of_decide_eq_false h
  obtain rfl:bs=[]:=List.eq_nil_of_length_eq_zero (by omega)
  exact aT (rs:=[gW]) ((l,es,[],()),()) rfl (by kernel_rfl)
end Ts
namespace Lf
open Go Go.Sx Go.Proofs
theorem oa{es:List En}{k:Nat}:okE es k=true↔(1≤(es.getD k dE).1.size∧(es.getD k dE).1.size≤24∧(es.getD k dE).2.1.size≤100∧(0<k→slt (es.getD (k - 1) dE).1 (es.getD k dE).1=true)):=by
 simp only[okE,Bool.not_eq_true',Bool.or_eq_false_iff,Bool.and_eq_false_iff,decide_eq_false_iff_not,Bool.not_eq_false']
 constructor
 ·rintro⟨⟨⟨h1,h2⟩,h3⟩,h4⟩
  exact⟨Nat.pos_of_ne_zero fun e=>h1 (lH e),by omega,by omega,fun h=>h4.resolve_left (fun g=>g h)⟩
 ·rintro⟨h1,h2,h3,h4⟩
  exact⟨⟨⟨fun e=>(by rw[e]at h1;simp at h1),by omega⟩,by omega⟩,(Decidable.em (0<k)).elim (fun h=>.inr (h4 h)) .inl⟩
theorem qG{bs:List Br}{k:Nat}:okB bs k=true↔((bs.getD k dB).1.size≤24∧2≤(bs.getD k dB).2.1∧(bs.getD k dB).2.1≤1023∧(0<k→slt (bs.getD (k - 1) dB).1 (bs.getD k dB).1=true)):=by
 simp only[okB,Bool.not_eq_true',Bool.or_eq_false_iff,Bool.and_eq_false_iff,decide_eq_false_iff_not,Bool.not_eq_false']
 constructor
 ·rintro⟨⟨⟨h1,h2⟩,h3⟩,h4⟩
  exact⟨by omega,by omega,by omega,fun h=>h4.resolve_left (fun g=>g h)⟩
 ·rintro⟨h1,h2,h3,h4⟩
  exact⟨⟨⟨by omega,by omega⟩,by omega⟩,(Decidable.em (0<k)).elim (fun h=>.inr (h4 h)) .inl⟩
theorem ahe(l:Bool)(es:List En)(bs:List Br):ajl l es bs l es bs=true:=by simp[ajl,asi,asj]
theorem qH{l:Bool}{es:List En}{bs:List Br}(h:c8 l es bs=true):ir (bA es)∧ir (mo bs):=by
 simp only[c8,Bool.and_eq_true]at h
 exact⟨ash h.1.2,ap1 h.2⟩
theorem aqF{l:List En}{key val:ByteArray}(h:l.length≤200):(bw l key val).length≤201:=by rw[zO];split<;>omega
theorem mh{α:Type}{l:List α}{k i:Nat}{d:α}(h:i<k):(l.take k).getD i d=l.getD i d:=by simp[List.getD,List.getElem?_take,h]
theorem j7{α:Type}{l:List α}{k i:Nat}{d:α}:(l.drop k).getD i d=l.getD (k+i) d:=by simp[List.getD,List.getElem?_drop]
theorem yd{es:List En}(h:jB es=true)(k:Nat):jB (es.take k)=true:=cQ.2 fun i hi=>by
 rw[List.length_take]at hi
 have:=oa.1 (cQ.1 h i (by omega))
 rw[oa,mh (by omega),mh (by omega)]
 exact this
theorem ye{es:List Br}(h:gh es=true)(k:Nat):gh (es.take k)=true:=cQ.2 fun i hi=>by
 rw[List.length_take]at hi
 have:=qG.1 (cQ.1 h i (by omega))
 rw[qG,mh (by omega),mh (by omega)]
 exact this
theorem yf{es:List En}(h:jB es=true)(k:Nat):jB (es.drop k)=true:=cQ.2 fun i hi=>by
 rw[List.length_drop]at hi
 obtain⟨h1,h2,h3,h4⟩:=oa.1 (cQ.1 h (k+i) (by omega))
 rw[oa,j7,j7]
 exact⟨h1,h2,h3,fun h0=>by have:=h4 (by omega);rw[show k+i - 1=k+(i - 1)from by omega]at this;exact this⟩
theorem yg{es:List Br}(h:gh es=true)(k:Nat):gh (es.drop k)=true:=cQ.2 fun i hi=>by
 rw[List.length_drop]at hi
 obtain⟨h1,h2,h3,h4⟩:=qG.1 (cQ.1 h (k+i) (by omega))
 rw[qG,j7,j7]
 exact⟨h1,h2,h3,fun h0=>by have:=h4 (by omega);rw[show k+i - 1=k+(i - 1)from by omega]at this;exact this⟩
theorem tE{l:Bool}{es:List En}{bs:List Br}(m1:l=true→bs=[])(m2:l=false→es=[])(m3:jB es=true)(m4:gh bs=true):c8 l es bs=true:=by
 simp only[c8,m3,m4,Bool.and_true]
 cases l
 ·rw[m2 rfl];rfl
 ·rw[m1 rfl];rfl
theorem abT{l:Bool}{es:List En}{bs:List Br}(h:c8 l es bs=true)(k:Nat):c8 l (es.take k) (bs.take k)=true:=by
 obtain⟨m1,m2,m3,m4⟩:=dK h
 exact tE (fun e=>by rw[m1 e,List.take_nil]) (fun e=>by rw[m2 e,List.take_nil]) (yd m3 k) (ye m4 k)
theorem abU{l:Bool}{es:List En}{bs:List Br}(h:c8 l es bs=true)(k:Nat):c8 l (es.drop k) (bs.drop k)=true:=by
 obtain⟨m1,m2,m3,m4⟩:=dK h
 exact tE (fun e=>by rw[m1 e,List.drop_nil]) (fun e=>by rw[m2 e,List.drop_nil]) (yf m3 k) (yg m4 k)
theorem tF:∀{l:List Int} {m:Int},(∀x∈l,m≤x)→m*l.length≤l.sum
 |[],m,_=>by simp
 |a::r,m,h=>by
  have h1:=tF (l:=r) (m:=m) fun x hx=>h x (List.mem_cons_of_mem _ hx)
  have h2:=h a List.mem_cons_self
  rw[List.sum_cons,List.length_cons]
  have:m*((r.length+1:Nat):Int)=m*(r.length:Int)+m:=by rw[Int.natCast_add,Int.mul_add];simp
  omega
theorem amB(es:List En)(bs:List Br):∀x∈aE es bs,2≤x:=fun x hx=>by
 simp only[aE,List.mem_append,List.mem_map]at hx
 rcases hx with⟨e,_,rfl⟩|⟨b,_,rfl⟩
 ·simp only[pM];omega
 ·simp only[pv];omega
theorem ajR{zs:List Int}(h:∀x∈zs,2≤x){k:Nat}(h1:0<k)(h2:k<zs.length):2≤(zs.take k).sum∧(zs.take k).sum+2≤zs.sum:=by
 have a1:=tF (l:=zs.take k) (m:=2) fun x hx=>h x (List.mem_of_mem_take hx)
 have a2:=tF (l:=zs.drop k) (m:=2) fun x hx=>h x (List.mem_of_mem_drop hx)
 rw[abJ]at a2
 rw[List.length_take]at a1
 rw[List.length_drop]at a2
 omega
theorem vQ(zs:List Int):∀k,0<k→(gU zs k).2=js zs (gU zs k).1
 |0,h=>absurd h (by omega)
 |k+1,_=>by
  rw[gU]
  split
  ·rfl
  ·rename_i h
   have hk:0<k:=Nat.pos_of_ne_zero fun e=>h (.inl (by rw[e];rfl))
   exact vQ zs k hk
theorem qI(zs:List Int):∀k j,0<j→j≤k→(gU zs k).2≤js zs j
 |0,j,h,h2=>absurd h (by omega)
 |k+1,j,h,h2=>by
  rw[gU]
  split
  ·rename_i hc
   by_cases e:j=k+1
   ·rw[e];exact Int.le_refl _
   ·have:=qI zs k j h (by omega)
    rcases hc with hc|hc
    ·have:=nu zs k (by omega);omega
    ·show js zs (k+1)≤_;omega
  ·rename_i hc
   by_cases e:j=k+1
   ·rw[e]
    have:¬js zs (k+1)<(gU zs k).2:=fun h=>hc (.inr h)
    omega
   ·exact qI zs k j h (by omega)
theorem pA{p:Nat→Int}{c:Int}:∀n:Nat,p 0<c→c≤p n→∃k,k<n∧p k<c∧c≤p (k+1)
 |0,h1,h2=>absurd h2 (by omega)
 |n+1,h1,h2=>by
  by_cases h:c≤p n
  ·obtain⟨k,a,b,d⟩:=pA n h1 h
   exact⟨k,by omega,b,d⟩
  ·exact⟨n,by omega,by omega,h2⟩
theorem ahf{zs:List Int}(h2:∀x∈zs,2≤x∧x≤126)(hs:253<zs.sum)(hs2:zs.sum≤379):2≤zs.length∧js zs (gU zs (zs.length - 1)).1≤253:=by
 have hb:=(nZ (l:=zs) (m:=126) (fun x hx=>⟨by have:=(h2 x hx).1;omega,(h2 x hx).2⟩) (by omega)).2
 have hl:2≤zs.length:=by omega
 refine⟨hl, ?_⟩
 obtain⟨k,hk,k1,k2⟩:=pA (p:=fun k=>(zs.take k).sum) (c:=zs.sum - 253) zs.length (by simp;omega) (by simp only[List.take_length];omega)
 have k1:(zs.take k).sum<zs.sum - 253:=k1
 have k2:zs.sum - 253≤(zs.take (k+1)).sum:=k2
 have k3:=iG hk
 have k4:zs.getD k 0≤126:=by rw[bk hk];exact(h2 _ (List.getElem_mem _)).2
 have k5:k+1<zs.length:=by
  rcases Nat.lt_or_ge (k+1) zs.length with h|h
  ·exact h
  ·rw[List.take_of_length_le h]at k3;omega
 have m:=qI zs (zs.length - 1) (k+1) (by omega) (by omega)
 rw[vQ _ _ (by omega)]at m
 refine Int.le_trans m ?_
 unfold js imax
 split<;>omega
theorem ajS(l:List En)(key val:ByteArray):((bw l key val).map pM).sum≤(l.map pM).sum+pM (key,val,()):=by
 have adP:∀l:List En,0≤(l.map pM).sum:=fun l=>by
  have:=tF (l:=l.map pM) (m:=0) fun x hx=>by
   obtain⟨e,_,rfl⟩:=List.mem_map.1 hx
   simp only[pM];omega
  omega
 have hd:∀(p q:Nat),p≤q→((l.drop q).map pM).sum≤((l.drop p).map pM).sum:=fun p q h=>by
  have e:l.drop p=(l.drop p).take (q - p)++l.drop q:=by
   have:=List.take_append_drop (q - p) (l.drop p)
   rw[List.drop_drop,show p+(q - p)=q from by omega]at this
   exact this.symm
  rw[e,List.map_append,List.sum_append]
  have:=adP ((l.drop p).take (q - p))
  omega
 have h1:(l.map pM).sum=((l.take (cr (bA l) key)).map pM).sum+((l.drop (cr (bA l) key)).map pM).sum:=by
  rw[←List.sum_append,←List.map_append,List.take_append_drop]
 have h2:=hd (cr (bA l) key) (if jq (bA l) key=true then cr (bA l) key+1 else cr (bA l) key) (by split<;>omega)
 rw[bw,List.map_append,List.sum_append,List.map_cons,List.sum_cons]
 omega
theorem amC(l:List En)(key val:ByteArray):(key,val,())∈bw l key val:=by
 rw[bw];exact List.mem_append_right _ List.mem_cons_self
theorem rU{l:Bool}{es:List En}{bs:List Br}(h:dv l es bs=true)(he:a8 es)(hb:ba bs):
 a8 (aY l es bs)∧ba (bc l es bs)∧a8 (cN l es bs)∧ba (cW l es bs)∧ajl (bO l es bs) ([]++aY l es bs++cN l es bs) ([]++bc l es bs++cW l es bs) l es bs=true∧
 c8 (bO l es bs) (aY l es bs) (bc l es bs)=true∧c8 (bO l es bs) (cN l es bs) (cW l es bs)=true∧
 bh (aY l es bs) (bc l es bs)<bh es bs∧bh (cN l es bs) (cW l es bs)<bh es bs∧bh (aY l es bs) (bc l es bs)+bh (cN l es bs) (cW l es bs)=bh es bs+1∧
 imax (bh (aY l es bs) (bc l es bs)) (bh (cN l es bs) (cW l es bs))=1+js (aE es bs) (dO es bs):=by
 have h':=h
 simp only[dv,Bool.and_eq_true,decide_eq_true_eq]at h'
 obtain⟨hm,h2⟩:=h'
 obtain⟨m1,m2,_,_⟩:=dK hm
 obtain⟨_,_,_,_,c5,c6⟩:=ag2 m1 m2 (dO es bs)
 have b1:=nu (aE es bs) (es.length+bs.length - 1) (by omega)
 have b2:=n6 (aE es bs) (es.length+bs.length - 1)
 have p:=ajR (amB es bs) (k:=dO es bs) b1 (by rw[vF];rw[dO];omega)
 have bH:=nn es bs
 simp only[aY,cN,bc,cW,bO,h,if_true,Bool.true_and]
 refine⟨abF he _,abG hb _,abH he _,abI hb _, ?_,abT hm _,abU hm _,by omega,by omega,by omega, ?_⟩
 ·rw[List.nil_append,List.nil_append,List.take_append_drop,List.take_append_drop];exact ahe _ _ _
 ·rw[c5,c6,ajq];rfl
theorem aqG{l:Bool}{es:List En}{bs:List Br}(h:(spC l es bs==0)=true):dv l es bs=true:=by
 unfold spC at h
 split at h
 ·assumption
 ·exact absurd h (by decide)
theorem adV{l:List En}{key val:ByteArray}(h:l.length≤200)(hm:c8 true (bw l key val) []=true):a8 (bw l key val):=by
 obtain⟨_,_,m3,_⟩:=dK hm
 exact⟨Nat.le_trans (aqF h) (by omega),fun x hx=>by have:=adI m3 hx;omega⟩
theorem ahg{es:List En}{key val:ByteArray}(hl:es.length≤200)(hs:bh es []≤254)(hm:c8 true (bw es key val) []=true)(hn:¬bh (bw es key val) []≤254):
 dv true (bw es key val) []=true∧bh (aY true (bw es key val) []) (bc true (bw es key val) [])≤254∧bh (cN true (bw es key val) []) (cW true (bw es key val) [])≤254:=by
 obtain⟨_,_,m3,_⟩:=dK hm
 have e0:∀l:List En,aE l []=l.map pM:=fun l=>by simp[aE]
 have e1:=nn es []
 have e2:=nn (bw es key val) []
 rw[e0]at e1 e2
 have k1:=ajS es key val
 have k2:=adI m3 (amC es key val)
 have k3:pM (key,val,())≤126:=by simp only[pM];simp only[]at k2;omega
 have hz:∀x∈(bw es key val).map pM,2≤x∧x≤126:=fun x hx=>by
  obtain⟨y,hy,rfl⟩:=List.mem_map.1 hx
  have:=adI m3 hy
  simp only[pM];omega
 obtain⟨b1,b2⟩:=ahf hz (by omega) (by omega)
 rw[List.length_map]at b1 b2
 have ok:dv true (bw es key val) []=true:=by
  simp only[dv,hm,Bool.true_and,decide_eq_true_eq,List.length_nil];omega
 obtain⟨_,_,_,_,_,_,_,_,_,_,f⟩:=rU ok (adV hl hm) vG
 rw[e0]at f
 have f2:js ((bw es key val).map pM) (dO (bw es key val) [])≤253:=by rw[dO,e0,List.length_nil,Nat.add_zero];exact b2
 unfold imax at f
 refine⟨ok, ?_, ?_⟩<;>split at f<;>omega
end Lf
namespace Ds
open Go Go.Sx Go.Proofs Lf
theorem afs{th:Th}{n:Int}{ws:List Int}(hp:vg th n=true)(hw:ws.length=256):∀(j k:Nat) (m:As) (f:Int),k+j=4→bM th m f→
 (((zz th n ws j k m f).2.2=0∧∀i:Nat,k≤i→i<4→oo th (zz th n ws j k m f).1 (n*4+(i:Int))=gR ws i)∨((zz th n ws j k m f).2.2=42∧(zz th n ws j k m f).2.1=0))∧
   ∀x,(∀i:Nat,k≤i→i<4→x≠n*4+(i:Int))→oo th (zz th n ws j k m f).1 x=oo th m x
 |0,k,m,f,hk,hd=>⟨.inl ⟨rfl,fun i h1 h2=>by omega⟩,fun x _=>rfl⟩
 |j+1,k,m,f,hk,hd=>by
  have di:=zB hp (show k<4 by omega)
  have hs:=xU hw (show k<4 by omega)
  have hd':=abk (n:=n*4+(k:Int)) (s:=gR ws k) hd
  have hr:=fun x=>an1 (n:=n*4+(k:Int)) (x:=x) (s:=gR ws k) hd
  unfold zz
  by_cases hf:f=0
  ·have he:qW th f (n*4+(k:Int)) (gR ws k)=42:=by unfold qW;rw[if_pos di,if_pos hs,if_pos hf]
   rw[if_neg (by rw[he];decide)]
   refine⟨.inr ⟨he, ?_⟩,fun x hx=> ?_⟩
   ·show wQ th f (n*4+(k:Int)) (gR ws k)=0
    unfold wQ u6;rw[if_pos ⟨di,hs⟩,if_pos hf]
   ·show oo th (xS th m f (n*4+(k:Int)) (gR ws k)) x=_
    rw[hr,if_neg]
    rintro⟨h,_⟩
    rw[he]at h
    cases h
  ·have he:qW th f (n*4+(k:Int)) (gR ws k)=0:=ve.2 ⟨di,hs,hf⟩
   rw[if_pos he]
   obtain⟨h1,h3⟩:=afs hp hw j (k+1) _ _ (by omega) hd'
   refine⟨h1.elim (fun hh=>.inl ⟨hh.1,fun i hi hi4=> ?_⟩) .inr,fun x hx=> ?_⟩
   ·by_cases e:i=k
    ·subst e
     rw[h3 _ (fun i' a b=>by omega),hr,if_pos ⟨he,rfl⟩]
    ·exact hh.2 i (by omega) hi4
   ·rw[h3 x (fun i a b=>hx i (by omega) b),hr,if_neg (fun h=>hx k (Nat.le_refl _) (by omega) h.2)]
theorem aqH{th:Th}{m:As}{fu n:Int}{s:ByteArray}(hd:bM th m fu)(hp:vg th n=true)(hs:s.size≤254):
 (((kb th m fu n s).2.2=0∧jo th (kb th m fu n s).1 n=0∧hC th (kb th m fu n s).1 n=s)∨((kb th m fu n s).2.2=42∧(kb th m fu n s).2.1=0))∧
   (fu= -1→(kb th m fu n s).2.1= -1)∧
   ∀p,p≠n→jo th (kb th m fu n s).1 p=jo th m p∧hC th (kb th m fu n s).1 p=hC th m p:=by
 have hl:=ae1 hs
 obtain⟨h1,h3⟩:=afs hp hl 4 0 m fu rfl hd
 have ec:gwC th n s=0:=by unfold gwC;rw[if_pos hp,if_neg (by omega)]
 unfold kb
 rw[ec,if_pos rfl]
 refine⟨h1.imp (fun⟨a,h2⟩=> ?_) id,fun e=>by subst e;rw[(ai2 hp hl 4 0 m rfl hd).1],fun p hpn=>ai3 rfl fun i hi=>(h3 _ fun i' _ eI=>by omega).symm⟩
 have e:pgA th (zz th n (wR s) 4 0 m fu).1 n=wR s:=by
  show pgL _ _ _ 4=_
  simp only[pgL,List.nil_append]
  rw[h2 0 (by omega) (by omega),h2 1 (by omega) (by omega),h2 2 (by omega) (by omega),h2 3 (by omega) (by omega)]
  exact ai4 hl (fun x hx=>aiV x hx hs)
 exact⟨a,apW hp hs e⟩
end Ds
namespace Ts
open Go Go.Sx Go.Proofs Lf
def In(ws:Ws)(k:Int):Prop:=Bx.lO ws k=true
instance (ws:Ws) (k:Int):Decidable (In ws k):=inferInstanceAs (Decidable (_=true))
theorem dY{ws:Ws}(hw:Bx.okW ws){k:Int}:In ws k↔(0≤k∧k<1024)∧Bx.bit ws k.toNat=true:=by
 unfold In;rw[Bx.afq hw,Bool.and_eq_true,decide_eq_true_eq]
theorem nz{ws:Ws}(hw:Bx.okW ws){k:Int}(h:In ws k):0≤k∧k<1024:=((dY hw).1 h).1
theorem ob{ws:Ws}(hw:Bx.okW ws){n:Int}(hn:0≤n∧n<1024){k:Int}:In (Bx.cO ws n) k↔In ws k∨k=n:=by
 obtain⟨h1,h2⟩:=Bx.fU hw n
 rw[dY h1,dY hw]
 constructor
 ·rintro⟨a,b⟩
  rw[h2 k.toNat (by omega),Bool.or_eq_true,decide_eq_true_eq]at b
  rcases b with b|b
  ·exact .inl ⟨a,b⟩
  ·right;omega
 ·rintro(⟨a,b⟩|rfl)
  ·exact⟨a,by rw[h2 _ (by omega),b];rfl⟩
  ·refine⟨hn, ?_⟩
   rw[h2 _ (by omega),Bool.or_eq_true,decide_eq_true_eq]
   right;omega
theorem pB{ws:Ws}(hw:Bx.okW ws){n k:Int}:In (Bx.cP ws n) k↔In ws k∧k≠n:=by
 obtain⟨h1,h2⟩:=Bx.kI hw n
 rw[dY h1,dY hw]
 constructor
 ·rintro⟨a,b⟩
  rw[h2 k.toNat (by omega),Bool.and_eq_true,Bool.not_eq_true',decide_eq_false_iff_not]at b
  exact⟨⟨a,b.1⟩,by omega⟩
 ·rintro⟨⟨a,b⟩,c⟩
  refine⟨a, ?_⟩
  rw[h2 _ (by omega),Bool.and_eq_true,Bool.not_eq_true',decide_eq_false_iff_not]
  exact⟨b,by omega⟩
theorem adW{op:BinOp}(wx:op=.or∨op=.and∨op=.andNot){a b:Ws}(ha:Bx.okW a)(hb:Bx.okW b){k:Int}:
 In (Bx.db op a b) k↔(0≤k∧k<1024)∧Bx.opb op (Bx.bit a k.toNat) (Bx.bit b k.toNat)=true:=by
 obtain⟨h1,h2⟩:=Bx.nw wx ha hb
 rw[dY h1]
 constructor
 ·rintro⟨c,d⟩;rw[h2 _ (by omega)]at d;exact⟨c,d⟩
 ·rintro⟨c,d⟩;exact⟨c,by rw[h2 _ (by omega)];exact d⟩
theorem asM{a b:Ws}(ha:Bx.okW a)(hb:Bx.okW b){k:Int}:In (Bx.db .or a b) k↔In a k∨In b k:=by
 rw[adW (.inl rfl) ha hb,dY ha,dY hb]
 simp only[Bx.opb,Bool.or_eq_true]
 exact⟨fun⟨c,d⟩=>d.imp (fun x=>⟨c,x⟩) (fun x=>⟨c,x⟩),fun h=>h.elim (fun x=>⟨x.1,.inl x.2⟩) (fun x=>⟨x.1,.inr x.2⟩)⟩
theorem aqI{a b:Ws}(ha:Bx.okW a)(hb:Bx.okW b){k:Int}:In (Bx.db .and a b) k↔In a k∧In b k:=by
 rw[adW (.inr (.inl rfl)) ha hb,dY ha,dY hb]
 simp only[Bx.opb,Bool.and_eq_true]
 exact⟨fun⟨c,d⟩=>⟨⟨c,d.1⟩,c,d.2⟩,fun⟨x,y⟩=>⟨x.1,x.2,y.2⟩⟩
theorem amD{a b:Ws}(ha:Bx.okW a)(hb:Bx.okW b){k:Int}:In (Bx.db .andNot a b) k↔In a k∧¬In b k:=by
 rw[adW (.inr (.inr rfl)) ha hb,dY ha,dY hb]
 simp only[Bx.opb,Bool.and_eq_true,Bool.not_eq_true']
 constructor
 ·rintro⟨c,d,e⟩
  exact⟨⟨c,d⟩,fun h=>by rw[h.2]at e;cases e⟩
 ·rintro⟨⟨c,d⟩,e⟩
  refine⟨c,d, ?_⟩
  cases hh:Bx.bit b k.toNat
  ·rfl
  ·exact absurd ⟨c,hh⟩ e
theorem vR{n k:Int}:In (Bx.b8 n) k↔(0≤k∧k<1024)∧k<n:=by
 obtain⟨h1,h2⟩:=Bx.cT n
 rw[dY h1]
 constructor
 ·rintro⟨c,d⟩;rw[h2 _ (by omega),decide_eq_true_eq]at d;exact⟨c,by omega⟩
 ·rintro⟨c,d⟩;exact⟨c,by rw[h2 _ (by omega),decide_eq_true_eq];omega⟩
theorem eX{k:Int}:¬In Bx.aP k:=fun h=>by
 have:=((dY Bx.eG.1).1 h).2
 rw[Bx.eG.2]at this
 cases this
theorem ajT{a b:Ws}(ha:Bx.okW a)(hb:Bx.okW b)(h:∀k,In a k↔In b k):a=b:=Bx.amu ha hb fun k hk=>by
 have h1:=h (k:Int)
 rw[dY ha,dY hb,Int.toNat_natCast]at h1
 have hr:(0:Int)≤(k:Int)∧(k:Int)<1024:=⟨by omega,by omega⟩
 have h2:Bx.bit a k=true↔Bx.bit b k=true:=⟨fun h=>(h1.1 ⟨hr,h⟩).2,fun h=>(h1.2 ⟨hr,h⟩).2⟩
 cases e1:Bx.bit a k<;>cases e2:Bx.bit b k<;>simp[e1,e2]at h2 ⊢
theorem abV{ws:Ws}(hw:Bx.okW ws)(h:Bx.eM ws 0=true):In ws (Bx.bu ws 0):=by
 unfold Bx.eM at h
 obtain⟨v,hv⟩:=Option.isSome_iff_exists.1 h
 obtain⟨p,rfl,hp,hb,_,_⟩:=Bx.adR hw hv
 have e:Bx.bu ws 0=(p:Int):=by unfold Bx.bu;rw[hv];rfl
 rw[e,dY hw]
 exact⟨⟨by omega,by omega⟩,by rw[Int.toNat_natCast];exact hb⟩
theorem amE{ws:Ws}(hw:Bx.okW ws)(h:Bx.eM ws 0=false)(k:Int):¬In ws k:=by
 unfold Bx.eM at h
 have hv:Bx.ny ws 0=none:=by
  cases e:Bx.ny ws 0 with
  |none=>rfl
  |some v=>rw[e]at h;cases h
 intro hk
 obtain⟨hr,hb⟩:=(dY hw).1 hk
 rw[Bx.adS hw hv k.toNat (by omega) (by omega)]at hb
 cases hb
structure Rd (th:Th) (m:As) (p:Int) (l:Bool) (es:List En) (bs:List Br):Prop where
 e:Ds.jo th m p=0
 c:rM (Ds.hC th m p)=0
 l:jr (Ds.hC th m p)=l
 es:nr (Ds.hC th m p)=es
 bs:mA (Ds.hC th m p)=bs
theorem Rd.same{th:Th}{m m':As}{p:Int}{l:Bool}{es:List En}{bs:List Br}(h:Rd th m p l es bs)(h1:Ds.jo th m' p=Ds.jo th m p∧Ds.hC th m' p=Ds.hC th m p):Rd th m' p l es bs:=by
 obtain⟨a,b,c,d,e⟩:=h
 exact⟨by rw[h1.1];exact a,by rw[h1.2];exact b,by rw[h1.2];exact c,by rw[h1.2];exact d,by rw[h1.2];exact e⟩
theorem Rd.nd{th:Th}{m:As}{p:Int}{l:Bool}{es:List En}{bs:List Br}(h:Rd th m p l es bs){deep:Int}(hd:deep≤16):fM th m p deep=0∧ke th m p deep=l∧bN th m p deep=es∧aL th m p deep=bs:=by
 have e0:rS th m p deep=true:=by unfold rS;rw[decide_eq_true hd,decide_eq_true h.e];rfl
 refine⟨?_, ?_, ?_, ?_⟩
 ·unfold fM;rw[if_neg (by omega),if_pos h.e];exact h.c
 ·unfold ke;rw[e0,Bool.true_and];exact h.l
 ·unfold bN;rw[if_pos e0];exact h.es
 ·unfold aL;rw[if_pos e0];exact h.bs
end Ts
namespace Ts
open Go Go.Sx Go.Proofs Lf
abbrev asN:=bY [eF] [dU] (fun((l,es,bs,()),())=>[((l:Bool)=true→0<(es:List En).length)∧(l=false→0<(bs:List Br).length)]) (fun((l,es,bs,()),())=>(cU l es bs,()))
abbrev aos:=uT [eF] [gW] (fun((_,_,bs,()),())=>[(bs:List Br).length≤1000]) (fun((l,es,bs,()),())=>((l,es,aa bs,()),()))
abbrev auO:=bY [Bx.dM,Bx.bq] [Bx.bq,Bx.cV] (fun(ws,_,())=>[Bx.okW ws]) (fun(ws,n,())=>(Bx.bu ws n,Bx.eM ws n,()))
abbrev asO:=bY [eF] [dU,bq] (fun((_,es,bs,()),())=>[a8 es,ba bs]) (fun((l,es,bs,()),())=>(c9 l es bs,gT l es bs,()))
def aot:aH:=[(94,asN),(81,aos),(95,auO),(96,asO),(97,asK),(98,aoo),(43,abS)]
theorem auP(th:Th)(m:As)(fu root:Int)(fr fs gn:Ws)(l:Bool)(es:List En)(bs:List Br):run P aot.sum Tryd.f83 [] (start Tryd.f83 [.ptr 0 0,avN l es bs] (hT th m fu root fr fs gn))=
 Tree.need ((l=true→(0:Nat)<es.length)∧(l=false→(0:Nat)<bs.length))
 (.need (bs.length≤1000)
   (.need (Bx.okW fr)
     (.ite (!Bx.eM fr 0) (.ret [.own [.ptr 1 0,.s (.int .i64 root),.ints .u64 16 fr,.ints .u64 16 fs,.ints .u64 16 gn] 70,.own [.vec 2,.ag 3,.s (.int .i64 fu)] 96,.vec (.ae [.arr .u8 64] th) 138,.map (.arr .u8 64) m,.own [.s (.bool l),.s (.ro (.ae [.str,.str] es)),.s (.ro (.ae [.str,.int .i64] (aa bs)))] 73,.own [.s (.str ByteArray.empty),.s (.aZ .i64 0)] 79] (.bm [.agg [.s (.str ByteArray.empty),.s (.aZ .i64 0)],.s (.aZ .i64 41)]))
       (.need (a8 es) (.need (ba (aa bs)) (.ite (gT l es (aa bs) !=0) (.ret [.own [.ptr 1 0,.s (.int .i64 root),.ints .u64 16 fr,.ints .u64 16 fs,.ints .u64 16 gn] 70,.own [.vec 2,.ag 3,.s (.int .i64 fu)] 96,.vec (.ae [.arr .u8 64] th) 138,.map (.arr .u8 64) m,.own [.s (.bool l),.s (.ro (.ae [.str,.str] es)),.s (.ro (.ae [.str,.int .i64] (aa bs)))] 73,.own [.s (.str ByteArray.empty),.s (.aZ .i64 0)] 79] (.bm [.agg [.s (.str ByteArray.empty),.s (.aZ .i64 0)],.s (.int .i64 (gT l es (aa bs)))])) (.need (bE (some [AV.ptr 0 0,.s (.int .i64 (Bx.bu fr 0)),.s (.str (c9 l es (aa bs)))])) (.need (bE (some [ad.own [.vec 1,.ag 2,.s (.int .i64 fu)] 96,.vec (.ae [.arr .u8 64] th) 138,.map (.arr .u8 64) m])) (.need (Ds.bM th m fu) (.need (aD (Bx.bu fr 0)) (.ite ((Ds.kb th m fu (Bx.bu fr 0) (c9 l es (aa bs))).snd.snd !=0) (.ret [.own [.ptr 1 0,.s (.int .i64 root),.ints .u64 16 fr,.ints .u64 16 fs,.ints .u64 16 gn] 70,.own [.vec 2,.ag 3,.s (.int .i64 (Ds.kb th m fu (Bx.bu fr 0) (c9 l es (aa bs))).snd.fst)] 96,.vec (.ae [.arr .u8 64] th) 138,.map (.arr .u8 64) (Ds.kb th m fu (Bx.bu fr 0) (c9 l es (aa bs))).fst,.own [.s (.bool l),.s (.ro (.ae [.str,.str] es)),.s (.ro (.ae [.str,.int .i64] (aa bs)))] 73,.own [.s (.str ByteArray.empty),.s (.aZ .i64 0)] 79] (.bm [.agg [.s (.str ByteArray.empty),.s (.aZ .i64 0)],.s (.int .i64 (Ds.kb th m fu (Bx.bu fr 0) (c9 l es (aa bs))).snd.snd)])) (.ret [.own [.ptr 1 0,.s (.int .i64 root),.ints .u64 16 (Bx.cP fr (Bx.bu fr 0)),.ints .u64 16 (Bx.cO fs (Bx.bu fr 0)),.ints .u64 16 gn] 70,.own [.vec 2,.ag 3,.s (.int .i64 (Ds.kb th m fu (Bx.bu fr 0) (c9 l es (aa bs))).snd.fst)] 96,.vec (.ae [.arr .u8 64] th) 138,.map (.arr .u8 64) (Ds.kb th m fu (Bx.bu fr 0) (c9 l es (aa bs))).fst,.own [.s (.bool l),.s (.ro (.ae [.str,.str] es)),.s (.ro (.ae [.str,.int .i64] (aa bs)))] 73,.own [.s (.str (cU l es bs)),.s (.int .i64 (Bx.bu fr 0))] 79] (.bm [.agg [.s (.str (cU l es bs)),.s (.int .i64 (Bx.bu fr 0))],.s (.aZ .i64 0)]))))))))))))):=by kernel_rfl
abbrev asP:Spec (XT×Bool×List En×List Br):=⟨fun(_,l,es,bs)=>[.ptr 0 0,avN l es bs],fun((th,m,fu,root,fr,fs,gn),_)=>hT th m fu root fr fs gn,
 fun((th,m,fu,_,fr,_,_),l,es,bs)=>[Ds.bM th m fu,Bx.okW fr,((l:Bool)=true→0<(es:List En).length)∧(l=false→0<(bs:List Br).length),a8 es,ba bs],
 fun((th,m,fu,root,fr,fs,gn),l,es,bs)=>hT th (bI th m fu fr fs l es bs).1 (bI th m fu fr fs l es bs).2.1 root (bI th m fu fr fs l es bs).2.2.1 (bI th m fu fr fs l es bs).2.2.2.1 gn,
 fun((th,m,fu,_,fr,fs,_),l,es,bs)=>.bm [.agg [.s (.str (bI th m fu fr fs l es bs).2.2.2.2.1.1),bP (bI th m fu fr fs l es bs).2.2.2.2.1.2.1],bP (bI th m fu fr fs l es bs).2.2.2.2.2]⟩
theorem sR{bs:List Br}(h:ba bs):ba (aa bs):=by
 cases bs with
 |nil=>exact h
 |cons b r=>
  refine⟨h.1,fun x hx=> ?_⟩
  rcases List.mem_cons.1 hx with rfl|hx
  ·exact Nat.zero_le _
  ·exact h.2 x (List.mem_cons_of_mem _ hx)
theorem vS{ws:Ws}(hw:Bx.okW ws)(h:Bx.eM ws 0=true):0≤Bx.bu ws 0∧Bx.bu ws 0<1024:=nz hw (abV hw h)
theorem ajU:aot.Ok P Bx.bV:=aH.Ok.cons ajO.sum (aH.Ok.cons afr.uT (aH.Ok.cons (Bx.amw Bx.asI.sum).sum (aH.Ok.cons ag0.sum (aH.Ok.cons (Ds.asb.sum Ds.mWr) (aH.Ok.cons Bx.vI.sum (aH.Ok.cons Bx.qB.sum aH.Ok.nil))))))
theorem vd:jA P Bx.bV 83 asP:=by
 refine aO Tryd.func83 (by kernel_rfl) (fun x=>Nat.le_of_ble_eq_true (by kernel_rfl)) ?_
 rintro⟨⟨(th:Th),(m:As),(fu:Int),(root:Int),(fr:Ws),(fs:Ws),(gn:Ws)⟩,(l:Bool),(es:List En),(bs:List Br)⟩ ⟨(hd:Ds.bM th m fu),(hf:Bx.okW fr),(ct:((l:Bool)=true→0<(es:List En).length)∧(l=false→0<(bs:List Br).length)),(he:a8 es),(hb:ba bs),_⟩ X hX hz
 refine Ds.eR hz hX (by intro y hy;cases hy) ajU Tryd.func83 (auP th m fu root fr fs gn l es bs) ⟨ct,hb.1,hf,fun h=> ?_,fun h=>⟨he,sR hb,fun h2=> ?_,fun h2=>⟨rfl,rfl,hd, ?_,fun h3=> ?_,fun h3=> ?_⟩⟩⟩
 ·have h:Bx.eM fr 0=false:=by simpa using h
  have e:bI th m fu fr fs l es bs=(m,fu,fr,fs,dB,41):=by unfold bI;rw[if_pos h]
  refine bU (h:=hT th m fu root fr fs gn) 4 rfl (Nat.le_refl _) ?_ ?_
  ·show AV.bm [.agg [.s (.str (bI th m fu fr fs l es bs).2.2.2.2.1.1),bP (bI th m fu fr fs l es bs).2.2.2.2.1.2.1],bP (bI th m fu fr fs l es bs).2.2.2.2.2]=_
   rw[e];rfl
  ·show hT th (bI th m fu fr fs l es bs).1 (bI th m fu fr fs l es bs).2.1 root (bI th m fu fr fs l es bs).2.2.1 (bI th m fu fr fs l es bs).2.2.2.1 gn=_
   rw[e]
 ·have h:¬Bx.eM fr 0=false:=by simpa using h
  have h2:gT l es (aa bs)≠0:=by simpa using h2
  have e:bI th m fu fr fs l es bs=(m,fu,fr,fs,dB,gT l es (aa bs)):=by unfold bI;rw[if_neg h,if_pos h2]
  refine bU (h:=hT th m fu root fr fs gn) 4 rfl (Nat.le_refl _) ?_ ?_
  ·show AV.bm [.agg [.s (.str (bI th m fu fr fs l es bs).2.2.2.2.1.1),bP (bI th m fu fr fs l es bs).2.2.2.2.1.2.1],bP (bI th m fu fr fs l es bs).2.2.2.2.2]=_
   rw[e];rfl
  ·show hT th (bI th m fu fr fs l es bs).1 (bI th m fu fr fs l es bs).2.1 root (bI th m fu fr fs l es bs).2.2.1 (bI th m fu fr fs l es bs).2.2.2.1 gn=_
   rw[e]
 ·have h:Bx.eM fr 0=true:=by simpa using h
  have:=vS hf h
  exact⟨by omega,by omega⟩
 ·have h:¬Bx.eM fr 0=false:=by simpa using h
  have h2:¬gT l es (aa bs)≠0:=by simpa using h2
  have h3:(Ds.kb th m fu (Bx.bu fr 0) (c9 l es (aa bs))).2.2≠0:=by simpa using h3
  have e:bI th m fu fr fs l es bs=((Ds.kb th m fu (Bx.bu fr 0) (c9 l es (aa bs))).1,(Ds.kb th m fu (Bx.bu fr 0) (c9 l es (aa bs))).2.1,fr,fs,dB,(Ds.kb th m fu (Bx.bu fr 0) (c9 l es (aa bs))).2.2):=by unfold bI;rw[if_neg h,if_neg h2,if_pos h3]
  refine bU (h:=hT th (Ds.kb th m fu (Bx.bu fr 0) (c9 l es (aa bs))).1 (Ds.kb th m fu (Bx.bu fr 0) (c9 l es (aa bs))).2.1 root fr fs gn) 4 rfl (Nat.le_refl _) ?_ ?_
  ·show AV.bm [.agg [.s (.str (bI th m fu fr fs l es bs).2.2.2.2.1.1),bP (bI th m fu fr fs l es bs).2.2.2.2.1.2.1],bP (bI th m fu fr fs l es bs).2.2.2.2.2]=_
   rw[e];rfl
  ·show hT th (bI th m fu fr fs l es bs).1 (bI th m fu fr fs l es bs).2.1 root (bI th m fu fr fs l es bs).2.2.1 (bI th m fu fr fs l es bs).2.2.2.1 gn=_
   rw[e]
 ·have h:¬Bx.eM fr 0=false:=by simpa using h
  have h2:¬gT l es (aa bs)≠0:=by simpa using h2
  have h3:¬(Ds.kb th m fu (Bx.bu fr 0) (c9 l es (aa bs))).2.2≠0:=by simpa using h3
  have e:bI th m fu fr fs l es bs=((Ds.kb th m fu (Bx.bu fr 0) (c9 l es (aa bs))).1,(Ds.kb th m fu (Bx.bu fr 0) (c9 l es (aa bs))).2.1,Bx.cP fr (Bx.bu fr 0),Bx.cO fs (Bx.bu fr 0),(cU l es bs,Bx.bu fr 0,()),0):=by unfold bI;rw[if_neg h,if_neg h2,if_neg h3]
  refine bU (h:=hT th (Ds.kb th m fu (Bx.bu fr 0) (c9 l es (aa bs))).1 (Ds.kb th m fu (Bx.bu fr 0) (c9 l es (aa bs))).2.1 root (Bx.cP fr (Bx.bu fr 0)) (Bx.cO fs (Bx.bu fr 0)) gn) 4 rfl (Nat.le_refl _) ?_ ?_
  ·show AV.bm [.agg [.s (.str (bI th m fu fr fs l es bs).2.2.2.2.1.1),bP (bI th m fu fr fs l es bs).2.2.2.2.1.2.1],bP (bI th m fu fr fs l es bs).2.2.2.2.2]=_
   rw[e];rfl
  ·show hT th (bI th m fu fr fs l es bs).1 (bI th m fu fr fs l es bs).2.1 root (bI th m fu fr fs l es bs).2.2.1 (bI th m fu fr fs l es bs).2.2.2.1 gn=_
   rw[e]
end Ts
namespace Go.Sx
open Go
def aft:List Nat→List AV→(List AV→RM bx)→RM bx
 |[],args,k=>k args
 |id::ids,args,k=>.look id fun o=>match o with
  |some (.vec c _)=>((aft ids (args.map (m5 id c)) k).af4 id).lW id
  |_=>.fail "give up: no row"
def ajV(i:Nat)(s:Nat→List AV→RM bx):Nat→List AV→RM bx:=fun base args=>aft (adb (args.getD i (.s .aQ))) args (s base)
def afu(cs:List (Nat×aF)):Nat→List AV→List AV
 |_,[]=>[]
 |j,.emp::r=>(match cs.find? (fun p=>p.1.beq j)with
  |some (_,c)=>bif c.n.beq 0 then .s (.ro c)else .emp
  |none=>.emp)::afu cs (j+1) r
 |j,a::r=>a::afu cs (j+1) r
def aou(cs:List (Nat×aF)):AV→AV
 |.agg ak=>.agg (afu cs 0 ak)
 |a=>a
def zW(i:Nat)(cs:List (Nat×aF))(s:Nat→List AV→RM bx):Nat→List AV→RM bx:=fun base args=>s base (match args[i]? with
 |some a=>args.set i (aou cs a)
 |none=>args)
section
variable{ρ az:Nat→Value}{H H':aG}{G O O':Nat→Prop}{w w':World}{P:Program}{Z:bd}{X:Type}{S:Spec X}
theorem yh{cs:List (Nat×aF)}:∀(l:List AV) (j:Nat) {vs:List Value},an ρ H O w l vs→an ρ H O w (afu cs j l) vs
 |[],_,vs,h=>h
 |a::l,j,vs,h=>by
  obtain⟨c1,c2,rfl,h1,h2⟩:=af.1 h
  have ih:=yh (cs:=cs) l (j+1) h2
  cases a with
  |emp=>
   refine af.2 ⟨c1,c2,rfl, ?_,ih⟩
   split
   ·rw[Bool.cond_eq_ite]
    split
    ·rename_i c _ hc
     have hc:c.n=0:=by simpa using hc
     unfold aC at h1 ⊢
     obtain⟨u,rfl,a,rfl⟩:=h1
     exact⟨_,rfl,tq hc a⟩
    ·exact h1
   ·exact h1
  |_=>exact af.2 ⟨c1,c2,rfl,h1,ih⟩
theorem ahh{cs:List (Nat×aF)}{a:AV}{v:Value}(h:ab ρ H O w a v):ab ρ H O w (aou cs a) v:=by
 cases a with
 |agg ak=>
  unfold ab at h
  obtain⟨vs,rfl,h1⟩:=h
  show ab _ _ _ _ (.agg _) _
  unfold ab
  exact⟨vs,rfl,yh _ _ h1⟩
 |_=>exact h
theorem gi{f:FuncId}{s:Nat→List AV→RM bx}(h:uS P Z f s)(i:Nat)(cs:List (Nat×aF)):uS P Z f (zW i cs s):=by
 intro base args H q hq hn ρ G w vs eZ hz hs hd
 unfold zW at hq
 split at hq
 ·rename_i a ha
  exact h base _ H q hq hn ρ G w vs eZ hz hs (aiQ hd ha fun v hv=>ahh hv)
 ·exact h base _ H q hq hn ρ G w vs eZ hz hs hd
theorem ahi(hs:Sat ρ H G w){id:Nat}{c:aF}{e:TypeId}(ho:H id=some (.vec c e)){x:AV}{v:Value}(hx:ab ρ H (aK ρ H G) w x v):
 ab ρ (aB H id .dead) (aK ρ (aB H id .dead) G) w (m5 id c x) v:=by
 have st:=fA (ρ:=ρ) (G:=G) (w:=w) ho
 have gone:=uy hs ho
 have adm:∀x cs,aC ρ H (aK ρ H G) w x cs→aC ρ (aB H id .dead) (aK ρ (aB H id .dead) G) w (mZ id c x) cs:=by
  intro x cs hx
  have mw:=aC.step st x cs hx
  cases x<;>try exact mw
  rename_i j
  simp only[mZ,Bool.cond_eq_ite]
  split
  ·rename_i hj
   have hj:j=id:=by simpa using hj
   subst hj
   unfold aC at hx ⊢
   obtain⟨u,rfl,hu⟩:=hx
   obtain⟨a,cap,hv,hr,_⟩:=ju hs ho (by unfold ab;exact hu)
   exact⟨u,rfl,by rw[←hr];exact gone⟩
  ·exact mw
 have l5:∀(xs:List AV) cs,an ρ H (aK ρ H G) w xs cs→an ρ (aB H id .dead) (aK ρ (aB H id .dead) G) w (xs.map (mZ id c)) cs:=by
  intro xs
  induction xs with
  |nil=>intro cs hx;exact ao.2 (ao.1 hx)
  |cons x xs ih=>
   intro cs hx
   obtain⟨c1,c2,rfl,h1,h2⟩:=af.1 hx
   exact af.2 ⟨c1,c2,rfl,adm _ _ h1,ih _ h2⟩
 have mw:=ab.step st x v hx
 cases x with
 |agg ak=>
  unfold ab at hx
  obtain⟨cs,rfl,h1⟩:=hx
  show ab _ _ _ _ (.agg _) _
  unfold ab
  exact⟨cs,rfl,l5 _ _ h1⟩
 |vec j=>
  simp only[m5,Bool.cond_eq_ite]
  split
  ·rename_i hj
   have hj:j=id:=by simpa using hj
   subst hj
   obtain⟨a,cap,hv,hr,_⟩:=ju hs ho hx
   rw[←hr]
   exact aq gone
  ·exact mw
 |_=>exact mw
theorem abW{f:FuncId}{s:Nat→List AV→RM bx}(h:uS P Z f s){base:Nat}:∀(ids:List Nat) {args:List AV} {H:aG} {q:bx},(aft ids args (s base)).eval H=some q→bt q.need→
 ∀(ρ:Nat→Value) (G:Nat→Prop) (w:World) (vs:List Value),(∀j,j<q.new.length→H (base+j)=none)→ZAt Z ρ H w→Sat ρ H G w→bz ρ H (aK ρ H G) w args vs→
 Calls P f vs.toArray w fun e w'=>∃v,e=.returned v∧Good ρ H G w (cZ H q.up base q.new) (q.r base) v w'
 |[],args,H,q,hq,hn,ρ,G,w,vs,eZ,hz,hs,hd=>h base args H q hq hn ρ G w vs eZ hz hs hd
 |id::ids,args,H,q,hq,hn,ρ,G,w,vs,eZ,hz,hs,hd=>by
  simp only[aft,RM.eval]at hq
  split at hq
  ·rename_i c el ho
   obtain⟨q',h1,rfl⟩:=RM.lZ _ hq
   rw[RM.nM]at h1
   have st:=fA (ρ:=ρ) (G:=G) (w:=w) ho
   have hz1:ZAt Z ρ (aB H id .dead) w:=⟨hz.1,fun b hb hO=>hz.2 b hb (fo hO)⟩
   have amF:∀j,j<q'.new.length→aB H id .dead (base+j)=none:=fun j hj=>by
    have:=eZ j hj
    simp only[aB]
    split
    ·rename_i e1;rw[e1,ho]at this;cases this
    ·exact this
   have hd1:bz ρ (aB H id .dead) (aK ρ (aB H id .dead) G) w (args.map (m5 id c)) vs:=by
    clear h1 hq
    induction args generalizing vs with
    |nil=>exact(show bz _ _ _ _ [] vs by rw[aV.1 hd];unfold bz;rfl)
    |cons a args ih=>
     obtain⟨v,rest,rfl,g1,g2⟩:=aw.1 hd
     exact aw.2 ⟨v,rest,rfl,ahi hs ho g1,ih _ g2⟩
   refine(abW h ids h1 hn ρ G w vs amF hz1 (hs.kill ho) hd1).mono ?_
   rintro en w' ⟨v,he,hg⟩
   refine⟨v,he, ?_⟩
   have aic:cZ H ((id,.dead)::q'.up) base q'.new=cZ (aB H id .dead) q'.up base q'.new:=by
    funext j
    simp only[cZ,cI,aB]
    cases cI q'.up j with
    |some x=>rfl
    |none=>
     simp only[]
     by_cases hj:j=id
     ·subst hj
      have uo:¬(base≤j∧j<base+q'.new.length):=by
       rintro⟨k1,k2⟩
       have:=eZ (j - base) (by simp only[];omega)
       rw[show base+(j - base)=j from by omega,ho]at this
       cases this
      simp[uo]
     ·simp[hj]
   simp only[]
   rw[aic]
   exact Good.after st (fun b hb=>fo hb) hg
  ·simp[RM.eval]at hq
theorem ix{f:FuncId}{s:Nat→List AV→RM bx}(h:uS P Z f s)(i:Nat):uS P Z f (ajV i s):=by
 intro base args H q hq hn ρ G w vs eZ hz hs hd
 exact abW h _ hq hn ρ G w vs eZ hz hs hd
theorem wZ{f:FuncId}{fn:Func}{aA:List AV}{L:List ad}{K:List ad→AV→Prop}(hf:P.funcs[f]? =some fn)(hb:fn.body.isSome=true)(hn:aA.length≤fn.ntmps)
 (h:∀X:Ctx,X.H=lk L→dS Z X→Safe P f X K (start fn aA L)) (ρ:Nat→Value) (G:Nat→Prop) (w:World) (vs:List Value) (hz:ZAt Z ρ (lk L) w) (hs:Sat ρ (lk L) G w)
 (hd:bz ρ (lk L) (aK ρ (lk L) G) w aA vs):Calls P f vs.toArray w (jT ⟨ρ,lk L,G,w,[]⟩ K):=by
 obtain⟨c,hb⟩:=Option.isSome_iff_exists.1 hb
 have nk:vs.length=aA.length:=by
  have:∀{aA:List AV} {vs:List Value},bz ρ (lk L) (aK ρ (lk L) G) w aA vs→vs.length=aA.length:=by
   intro aA
   induction aA with
   |nil=>intro vs h;rw[aV.1 h];rfl
   |cons a aA ih=>intro vs h;obtain⟨v,rest,rfl,_,h2⟩:=aw.1 h;simp[ih h2]
  exact this hd
 refine iD (R:=jT ⟨ρ,lk L,G,w,[]⟩ K) hf hb ?_
 have:=(h ⟨ρ,lk L,G,w,[]⟩ rfl hz).goes rfl rfl (ρ:=ρ) (a:={tmps:=vs.toArray++Array.replicate (fn.ntmps - vs.toArray.size) undef,defers:=[]}) (w:=w)
 simp only[start,hb,Option.getD_some]at this
 refine this ⟨hs, ?_,fun t=> ?_,rfl,Step.refl _ _ _ _,⟨rfl,rfl,rfl,fun _ _ _=>rfl⟩,fun x hx=>by cases hx⟩
 ·simp[nk]
 ·have e1:∀(aA:List AV) (vs:List Value),bz ρ (lk L) (aK ρ (lk L) G) w aA vs→∀t,ab ρ (lk L) (aK ρ (lk L) G) w (aA.getD t (.bm [])) (vs.getD t undef):=by
   intro aA
   induction aA with
   |nil=>intro vs h t;rw[aV.1 h];simp only[List.getD,List.getElem?_nil,Option.getD_none];exact cD
   |cons a aA ih=>
    intro vs h t
    obtain⟨v,rest,rfl,h1,h2⟩:=aw.1 h
    cases t with
    |zero=>simpa using h1
    |succ t=>simpa using ih rest h2 t
  have h1:=e1 _ _ hd t
  simp only[List.getD_eq_getElem?_getD,List.getElem?_append,List.getElem?_replicate,Array.getD_eq_getD_getElem?,Array.getElem?_append,List.getElem?_toArray,Array.getElem?_replicate,List.size_toArray]at h1 ⊢
  rw[nk]
  split
  ·rename_i ht
   have hv:vs[t]? =some vs[t]:=List.getElem?_eq_getElem (by omega)
   have ha:aA[t]? =some aA[t]:=List.getElem?_eq_getElem ht
   rw[hv,ha]at h1 ⊢
   exact h1
  ·split
   ·exact cD
   ·unfold ab;trivial
def w4{X:Type}(S:Spec X)(x:X)(L:List ad)(r:AV):Prop:=
 ∃(N:Norm) (vs os:List AV),r=.bm vs∧(S.heap x).length≤N.m∧N.run ⟨vs,L,[],{}⟩=some ⟨os,S.fv x,[],{}⟩∧∀(ρ:Nat→Value) (H:aG) (O:Nat→Prop) (w:World) (us:List Value),bz ρ H O w os us→ab ρ H O w (S.out x) (.tuple us.toArray)
theorem afv:∀{os:List AV} {us:List Value},os.length=us.length→(∀t,ab ρ H O w (os.getD t (.s .aQ)) (us.getD t undef))→bz ρ H O w os us
 |[],[],_,_=>by unfold bz;rfl
 |[],_::_,h,_=>by simp at h
 |_::_,[],h,_=>by simp at h
 |a::os,u::us,hl,h=>aw.2 ⟨u,us,rfl,h 0,afv (by simpa using hl) fun t=>h (t+1)⟩
theorem fG{f:FuncId}{fn:Func}(hf:P.funcs[f]? =some fn)(hb:fn.body.isSome=true)(hn:∀x,(S.args x).length≤fn.ntmps)
 (h:∀x,bt (S.pre x)→∀X:Ctx,X.H=lk (S.heap x)→dS Z X→Safe P f X (w4 S x) (start fn (S.args x) (S.heap x))):jA P Z f S:=by
 intro x lD ρ G w vs hz hs hd
 refine(wZ hf hb (hn x) (h x lD) ρ G w vs hz hs hd).mono ?_
 rintro e w' ⟨v,rfl,L,r,⟨N,ts,os,rfl,hm,hN,hwk⟩,lF,g1,g2,g3,g4⟩
 refine⟨v,rfl, ?_⟩
 unfold ab at g2
 obtain⟨us,rfl,g2⟩:=g2
 have hlen:us.length=ts.length:=by
  have:∀{aA:List AV} {vs:List Value},bz lF (fun id=>L[id]?) (aK lF (fun id=>L[id]?) G) w' aA vs→vs.length=aA.length:=by
   intro aA
   induction aA with
   |nil=>intro vs h;rw[aV.1 h];rfl
   |cons a aA ih=>intro vs h;obtain⟨v,rest,rfl,_,h2⟩:=aw.1 h;simp[ih h2]
  exact this g2
 have r0:bS ⟨ρ,lk (S.heap x),G,w,[]⟩ lF ⟨ts,L⟩ {tmps:=us.toArray,defers:=[]} w':=by
  refine⟨g1,by simp[hlen],fun t=> ?_,rfl,g3,g4,fun x hx=>by cases hx⟩
  clear hlen hN
  have g2':bz lF (St.look ⟨ts,L⟩) (aK lF (St.look ⟨ts,L⟩) G) w' ts us:=g2
  show ab lF (St.look ⟨ts,L⟩) (aK lF (St.look ⟨ts,L⟩) G) w' (ts.getD t (.s .aQ)) (us.toArray.getD t undef)
  generalize St.look ⟨ts,L⟩=H1 at g2' ⊢
  clear g2 hwk
  induction ts generalizing us t with
  |nil=>simp only[List.getD,List.getElem?_nil,Option.getD_none];unfold ab;trivial
  |cons a ts ih=>
   obtain⟨u,rest,rfl,k1,k2⟩:=aw.1 g2'
   cases t with
   |zero=>simpa using k1
   |succ t=>simpa[Array.getD_eq_getD_getElem?]using ih _ t k2
 have h0:∀id,N.m≤id→(⟨ρ,lk (S.heap x),G,w,[]⟩:Ctx).H id=none:=fun id dq=>by simp[lk];omega
 have fin:∃ρ4,bS ⟨ρ,lk (S.heap x),G,w,[]⟩ ρ4 ⟨os,S.fv x⟩ {tmps:=us.toArray,defers:=[]} w':=by
  unfold Norm.run at hN
  split at hN
  ·rename_i t1 L1 h1
   simp only[]at hN
   split at hN
   ·rename_i t2 L2 h2
    simp only[Option.some.injEq,bC.mk.injEq,and_true]at hN
    obtain⟨rfl,rfl⟩:=hN
    obtain⟨lF,r1⟩:=bS.fE h0 h1 (bS.dT N.eU r0)
    obtain⟨gg,r2⟩:=bS.fR N.oS r1
    obtain⟨ρ3,r3⟩:=bS.fT N.cells r2
    obtain⟨ρ4,r4⟩:=bS.fE h0 h2 r3
    exact⟨ρ4,r4⟩
   ·cases hN
  ·cases hN
 obtain⟨ρ4,r4⟩:=fin
 refine⟨ρ4,r4.sat,hwk _ _ _ _ _ (afv ?_ fun t=> ?_),r4.from_,r4.iW⟩
 ·have:=r4.size;simpa using this
 ·have:=r4.den t
  have e:(us.toArray.getD t undef)=us.getD t undef:=by simp[Array.getD_eq_getD_getElem?,List.getD_eq_getElem?_getD]
  rw[←e]
  exact this
theorem kr{S:Spec X}{x:X}{L:List ad}{vs os:List AV}{h:List ad}(N:Norm)(e:N.run ⟨vs,L,[],{}⟩=some ⟨os,h,[],{}⟩)(hm:(S.heap x).length≤N.m){os':List AV}(hw:oL os os')(ho:S.out x=.bm os')(hh:S.fv x=h):w4 S x L (.bm vs):=
 ⟨N,vs,os,rfl,hm,by rw[hh];exact e,fun ρ H O w us hd=>by rw[ho];unfold ab;exact⟨us,rfl,hw.den hd⟩⟩
theorem oL.same:∀(os:List AV),oL os os
 |[]=>.nil
 |a::os=>.cons (.one (.refl a)) (oL.same os)
end
end Go.Sx
namespace Ts
open Go Go.Sx Go.Proofs Lf
def mT:List AV→RM (XT×List Nat)
 |[.ptr id 0]=>.look id fun o=>match o with
  |some (.own [.ptr d 0,rt,.ints .u64 16 fr,.ints .u64 16 fs,.ints .u64 16 gn] _)=>(Ds.mAs [.ptr d 0]).bind fun((th,m,fu),σ)=>match rt.dc with
   |some (_,_,root)=>.ret ((th,m,fu,root,fr,fs,gn),id::σ)
   |none=>.fail "no root"
  |_=>.fail "no tree's cells"
 |_=>.fail "no tree"
def aqJ:AV→Option (Bool×List En×List Br)
 |.agg [l,.s (.ro (.ae [.str,.str] es)),.s (.ro (.ae [.str,.int .i64] bs))]=>match l.iY with
  |some (_,b)=>some (b,es,bs)
  |none=>none
 |_=>none
def mTN:List AV→RM ((XT×Bool×List En×List Br)×List Nat)
 |[t,x]=>(mT [t]).bind fun(X,σ)=>match aqJ x with
  |some (l,es,bs)=>.ret ((X,l,es,bs),σ)
  |none=>.fail "no node"
 |_=>.fail "no tree and node"
abbrev aov(s:Nat→List AV→RM bx):=ajV 1 (zW 1 [(1,.ae cE []),(2,.ae cB [])] s)
abbrev aqK:=aov (dA asP mTN)
abbrev auQ:=bY [eF] [eF,eF,bq] (fun((_,es,bs,()),())=>[a8 es,ba bs]) (fun((l,es,bs,()),())=>((bO l es bs,aY l es bs,bc l es bs,()),(bO l es bs,cN l es bs,cW l es bs,()),spC l es bs,()))
def aow:aH:=[(81,aos),(82,aob),(83,aqK),(84,auQ)]
theorem auR(th:Th)(m:As)(fu root:Int)(fr fs gn:Ws)(l:Bool)(es:List En)(bs:List Br):run P aow.sum Tryd.f66 [] (start Tryd.f66 [.ptr 0 0,avN l es bs] (hT th m fu root fr fs gn))=
 Tree.need (aD ((↑es.length:Int)+(↑bs.length:Int)))
 (.ite ((↑es.length:Int)+(↑bs.length:Int)==0) (.ret [.own [.ptr 1 0,.s (.int .i64 root),.ints .u64 16 fr,.ints .u64 16 fs,.ints .u64 16 gn] 70,.own [.vec 2,.ag 3,.s (.int .i64 fu)] 96,.vec (.ae [.arr .u8 64] th) 138,.map (.arr .u8 64) m,.own [.s (.bool l),.s (.ro (.ae [.str,.str] es)),.s (.ro (.ae [.str,.int .i64] bs))] 73] (.bm [.emp,.s (.aZ .i64 0)]))
   (.need (bs.length≤1000)
     (.need (a8 es)
       (.need (ba (aa bs))
         (.ite (decide (bh es (aa bs)≤254)) (.need (bE (some [AV.ptr 0 0,.agg [.s (.bool l),.s (.ro (.ae [.str,.str] es)),.s (.ro (.ae [.str,.int .i64] (aa bs)))]])) (.need (bE (some [ad.own [.ptr 1 0,.s (.int .i64 root),.ints .u64 16 fr,.ints .u64 16 fs,.ints .u64 16 gn] 70,.own [.vec 2,.ag 3,.s (.int .i64 fu)] 96,.vec (.ae [.arr .u8 64] th) 138,.map (.arr .u8 64) m])) (.need (Ds.bM th m fu) (.need (Bx.okW fr) (.need ((l=true→(0:Nat)<es.length)∧(l=false→(0:Nat)<(aa bs).length)) (.need (a8 es) (.need (ba (aa bs)) (.ret [.own [.ptr 1 0,.s (.int .i64 root),.ints .u64 16 (bI th m fu fr fs l es (aa bs)).snd.snd.fst,.ints .u64 16 (bI th m fu fr fs l es (aa bs)).snd.snd.snd.fst,.ints .u64 16 gn] 70,.own [.vec 2,.ag 3,.s (.int .i64 (bI th m fu fr fs l es (aa bs)).snd.fst)] 96,.vec (.ae [.arr .u8 64] th) 138,.map (.arr .u8 64) (bI th m fu fr fs l es (aa bs)).fst,.own [.s (.bool l),.s (.ro (.ae [.str,.str] es)),.s (.ro (.ae [.str,.int .i64] (aa bs)))] 73,.own [.s (.str (bI th m fu fr fs l es (aa bs)).snd.snd.snd.snd.fst.fst),.s (.int .i64 (bI th m fu fr fs l es (aa bs)).snd.snd.snd.snd.fst.snd.fst)] 79,.vec (.ae [.str,.int .i64] [((bI th m fu fr fs l es (aa bs)).snd.snd.snd.snd.fst.fst,(bI th m fu fr fs l es (aa bs)).snd.snd.snd.snd.fst.snd.fst,())]) 79] (.bm [.vec 6,.s (.int .i64 (bI th m fu fr fs l es (aa bs)).snd.snd.snd.snd.snd)])))))))))
           (.need (a8 es)
             (.need (ba (aa bs))
               (.ite (spC l es (aa bs) !=0) (.ret [.own [.ptr 1 0,.s (.int .i64 root),.ints .u64 16 fr,.ints .u64 16 fs,.ints .u64 16 gn] 70,.own [.vec 2,.ag 3,.s (.int .i64 fu)] 96,.vec (.ae [.arr .u8 64] th) 138,.map (.arr .u8 64) m,.own [.s (.bool l),.s (.ro (.ae [.str,.str] es)),.s (.ro (.ae [.str,.int .i64] (aa bs)))] 73,.vec (.ae [.str,.str] (aY l es (aa bs))) 34,.vec (.ae [.str,.int .i64] (bc l es (aa bs))) 79,.vec (.ae [.str,.str] (cN l es (aa bs))) 34,.vec (.ae [.str,.int .i64] (cW l es (aa bs))) 79,.own [.s (.bool (bO l es (aa bs))),.vec 5,.vec 6] 73,.own [.s (.bool (bO l es (aa bs))),.vec 7,.vec 8] 73] (.bm [.emp,.s (.int .i64 (spC l es (aa bs)))]))
                 (.need (bE (some [AV.ptr 0 0,.agg [.s (.bool (bO l es (aa bs))),.s (.ro (.ae [.str,.str] (aY l es (aa bs)))),.s (.ro (.ae [.str,.int .i64] (bc l es (aa bs))))]]))
                   (.need (bE (some [ad.own [.ptr 1 0,.s (.int .i64 root),.ints .u64 16 fr,.ints .u64 16 fs,.ints .u64 16 gn] 70,.own [.vec 2,.ag 3,.s (.int .i64 fu)] 96,.vec (.ae [.arr .u8 64] th) 138,.map (.arr .u8 64) m]))
                     (.need (Ds.bM th m fu)
                       (.need (Bx.okW fr)
                         (.need ((bO l es (aa bs)=true→(0:Nat)<(aY l es (aa bs)).length)∧(bO l es (aa bs)=false→(0:Nat)<(bc l es (aa bs)).length))
                           (.need (a8 (aY l es (aa bs)))
                             (.need (ba (bc l es (aa bs)))
                               (.ite ((bI th m fu fr fs (bO l es (aa bs)) (aY l es (aa bs)) (bc l es (aa bs))).snd.snd.snd.snd.snd !=0) (.ret [.own [.ptr 1 0,.s (.int .i64 root),.ints .u64 16 (bI th m fu fr fs (bO l es (aa bs)) (aY l es (aa bs)) (bc l es (aa bs))).snd.snd.fst,.ints .u64 16 (bI th m fu fr fs (bO l es (aa bs)) (aY l es (aa bs)) (bc l es (aa bs))).snd.snd.snd.fst,.ints .u64 16 gn] 70,.own [.vec 2,.ag 3,.s (.int .i64 (bI th m fu fr fs (bO l es (aa bs)) (aY l es (aa bs)) (bc l es (aa bs))).snd.fst)] 96,.vec (.ae [.arr .u8 64] th) 138,.map (.arr .u8 64) (bI th m fu fr fs (bO l es (aa bs)) (aY l es (aa bs)) (bc l es (aa bs))).fst,.own [.s (.bool l),.s (.ro (.ae [.str,.str] es)),.s (.ro (.ae [.str,.int .i64] (aa bs)))] 73,.dead,.dead,.vec (.ae [.str,.str] (cN l es (aa bs))) 34,.vec (.ae [.str,.int .i64] (cW l es (aa bs))) 79,.own [.s (.bool (bO l es (aa bs))),.vec 5,.vec 6] 73,.own [.s (.bool (bO l es (aa bs))),.vec 7,.vec 8] 73,.own [.s (.str (bI th m fu fr fs (bO l es (aa bs)) (aY l es (aa bs)) (bc l es (aa bs))).snd.snd.snd.snd.fst.fst),.s (.int .i64 (bI th m fu fr fs (bO l es (aa bs)) (aY l es (aa bs)) (bc l es (aa bs))).snd.snd.snd.snd.fst.snd.fst)] 79] (.bm [.emp,.s (.int .i64 (bI th m fu fr fs (bO l es (aa bs)) (aY l es (aa bs)) (bc l es (aa bs))).snd.snd.snd.snd.snd)]))
                                 (.need (bE (some [AV.ptr 0 0,.agg [.s (.bool (bO l es (aa bs))),.s (.ro (.ae [.str,.str] (cN l es (aa bs)))),.s (.ro (.ae [.str,.int .i64] (cW l es (aa bs))))]]))
                                   (.need (bE (some [ad.own [.ptr 1 0,.s (.int .i64 root),.ints .u64 16 (bI th m fu fr fs (bO l es (aa bs)) (aY l es (aa bs)) (bc l es (aa bs))).snd.snd.fst,.ints .u64 16 (bI th m fu fr fs (bO l es (aa bs)) (aY l es (aa bs)) (bc l es (aa bs))).snd.snd.snd.fst,.ints .u64 16 gn] 70,.own [.vec 2,.ag 3,.s (.int .i64 (bI th m fu fr fs (bO l es (aa bs)) (aY l es (aa bs)) (bc l es (aa bs))).snd.fst)] 96,.vec (.ae [.arr .u8 64] th) 138,.map (.arr .u8 64) (bI th m fu fr fs (bO l es (aa bs)) (aY l es (aa bs)) (bc l es (aa bs))).fst]))
                                     (.need (Ds.bM th (bI th m fu fr fs (bO l es (aa bs)) (aY l es (aa bs)) (bc l es (aa bs))).fst (bI th m fu fr fs (bO l es (aa bs)) (aY l es (aa bs)) (bc l es (aa bs))).snd.fst)
                                       (.need (Bx.okW (bI th m fu fr fs (bO l es (aa bs)) (aY l es (aa bs)) (bc l es (aa bs))).snd.snd.fst)
                                         (.need ((bO l es (aa bs)=true→(0:Nat)<(cN l es (aa bs)).length)∧(bO l es (aa bs)=false→(0:Nat)<(cW l es (aa bs)).length))
                                           (.need (a8 (cN l es (aa bs)))
                                             (.need (ba (cW l es (aa bs)))
                                               (.ret
                                                 [.own [.ptr 1 0,.s (.int .i64 root),.ints .u64 16 (bI th (bI th m fu fr fs (bO l es (aa bs)) (aY l es (aa bs)) (bc l es (aa bs))).fst (bI th m fu fr fs (bO l es (aa bs)) (aY l es (aa bs)) (bc l es (aa bs))).snd.fst (bI th m fu fr fs (bO l es (aa bs)) (aY l es (aa bs)) (bc l es (aa bs))).snd.snd.fst (bI th m fu fr fs (bO l es (aa bs)) (aY l es (aa bs)) (bc l es (aa bs))).snd.snd.snd.fst (bO l es (aa bs)) (cN l es (aa bs)) (cW l es (aa bs))).snd.snd.fst,.ints .u64 16 (bI th (bI th m fu fr fs (bO l es (aa bs)) (aY l es (aa bs)) (bc l es (aa bs))).fst (bI th m fu fr fs (bO l es (aa bs)) (aY l es (aa bs)) (bc l es (aa bs))).snd.fst (bI th m fu fr fs (bO l es (aa bs)) (aY l es (aa bs)) (bc l es (aa bs))).snd.snd.fst (bI th m fu fr fs (bO l es (aa bs)) (aY l es (aa bs)) (bc l es (aa bs))).snd.snd.snd.fst (bO l es (aa bs)) (cN l es (aa bs)) (cW l es (aa bs))).snd.snd.snd.fst,.ints .u64 16 gn] 70,.own [.vec 2,.ag 3,.s (.int .i64 (bI th (bI th m fu fr fs (bO l es (aa bs)) (aY l es (aa bs)) (bc l es (aa bs))).fst (bI th m fu fr fs (bO l es (aa bs)) (aY l es (aa bs)) (bc l es (aa bs))).snd.fst (bI th m fu fr fs (bO l es (aa bs)) (aY l es (aa bs)) (bc l es (aa bs))).snd.snd.fst (bI th m fu fr fs (bO l es (aa bs)) (aY l es (aa bs)) (bc l es (aa bs))).snd.snd.snd.fst (bO l es (aa bs)) (cN l es (aa bs)) (cW l es (aa bs))).snd.fst)] 96,.vec (.ae [.arr .u8 64] th) 138,.map (.arr .u8 64) (bI th (bI th m fu fr fs (bO l es (aa bs)) (aY l es (aa bs)) (bc l es (aa bs))).fst (bI th m fu fr fs (bO l es (aa bs)) (aY l es (aa bs)) (bc l es (aa bs))).snd.fst (bI th m fu fr fs (bO l es (aa bs)) (aY l es (aa bs)) (bc l es (aa bs))).snd.snd.fst (bI th m fu fr fs (bO l es (aa bs)) (aY l es (aa bs)) (bc l es (aa bs))).snd.snd.snd.fst (bO l es (aa bs)) (cN l es (aa bs)) (cW l es (aa bs))).fst,.own [.s (.bool l),.s (.ro (.ae [.str,.str] es)),.s (.ro (.ae [.str,.int .i64] (aa bs)))] 73,.dead,.dead,.dead,.dead,.own [.s (.bool (bO l es (aa bs))),.vec 5,.vec 6] 73,.own [.s (.bool (bO l es (aa bs))),.vec 7,.vec 8] 73,.own [.s (.str (bI th m fu fr fs (bO l es (aa bs)) (aY l es (aa bs)) (bc l es (aa bs))).snd.snd.snd.snd.fst.fst),.s (.int .i64 (bI th m fu fr fs (bO l es (aa bs)) (aY l es (aa bs)) (bc l es (aa bs))).snd.snd.snd.snd.fst.snd.fst)] 79,
                                                   .own [.s (.str (bI th (bI th m fu fr fs (bO l es (aa bs)) (aY l es (aa bs)) (bc l es (aa bs))).fst (bI th m fu fr fs (bO l es (aa bs)) (aY l es (aa bs)) (bc l es (aa bs))).snd.fst (bI th m fu fr fs (bO l es (aa bs)) (aY l es (aa bs)) (bc l es (aa bs))).snd.snd.fst (bI th m fu fr fs (bO l es (aa bs)) (aY l es (aa bs)) (bc l es (aa bs))).snd.snd.snd.fst (bO l es (aa bs)) (cN l es (aa bs)) (cW l es (aa bs))).snd.snd.snd.snd.fst.fst),.s (.int .i64 (bI th (bI th m fu fr fs (bO l es (aa bs)) (aY l es (aa bs)) (bc l es (aa bs))).fst (bI th m fu fr fs (bO l es (aa bs)) (aY l es (aa bs)) (bc l es (aa bs))).snd.fst (bI th m fu fr fs (bO l es (aa bs)) (aY l es (aa bs)) (bc l es (aa bs))).snd.snd.fst (bI th m fu fr fs (bO l es (aa bs)) (aY l es (aa bs)) (bc l es (aa bs))).snd.snd.snd.fst (bO l es (aa bs)) (cN l es (aa bs)) (cW l es (aa bs))).snd.snd.snd.snd.fst.snd.fst)] 79,.vec (.ae [.str,.int .i64] [((bI th m fu fr fs (bO l es (aa bs)) (aY l es (aa bs)) (bc l es (aa bs))).snd.snd.snd.snd.fst.fst,(bI th m fu fr fs (bO l es (aa bs)) (aY l es (aa bs)) (bc l es (aa bs))).snd.snd.snd.snd.fst.snd.fst,()),((bI th (bI th m fu fr fs (bO l es (aa bs)) (aY l es (aa bs)) (bc l es (aa bs))).fst (bI th m fu fr fs (bO l es (aa bs)) (aY l es (aa bs)) (bc l es (aa bs))).snd.fst (bI th m fu fr fs (bO l es (aa bs)) (aY l es (aa bs)) (bc l es (aa bs))).snd.snd.fst (bI th m fu fr fs (bO l es (aa bs)) (aY l es (aa bs)) (bc l es (aa bs))).snd.snd.snd.fst (bO l es (aa bs)) (cN l es (aa bs)) (cW l es (aa bs))).snd.snd.snd.snd.fst.fst,(bI th (bI th m fu fr fs (bO l es (aa bs)) (aY l es (aa bs)) (bc l es (aa bs))).fst (bI th m fu fr fs (bO l es (aa bs)) (aY l es (aa bs)) (bc l es (aa bs))).snd.fst (bI th m fu fr fs (bO l es (aa bs)) (aY l es (aa bs)) (bc l es (aa bs))).snd.snd.fst (bI th m fu fr fs (bO l es (aa bs)) (aY l es (aa bs)) (bc l es (aa bs))).snd.snd.snd.fst (bO l es (aa bs)) (cN l es (aa bs)) (cW l es (aa bs))).snd.snd.snd.snd.fst.snd.fst,())]) 79]
                                                 (.bm [.vec 13,.s (.int .i64 (bI th (bI th m fu fr fs (bO l es (aa bs)) (aY l es (aa bs)) (bc l es (aa bs))).fst (bI th m fu fr fs (bO l es (aa bs)) (aY l es (aa bs)) (bc l es (aa bs))).snd.fst (bI th m fu fr fs (bO l es (aa bs)) (aY l es (aa bs)) (bc l es (aa bs))).snd.snd.fst (bI th m fu fr fs (bO l es (aa bs)) (aY l es (aa bs)) (bc l es (aa bs))).snd.snd.snd.fst (bO l es (aa bs)) (cN l es (aa bs)) (cW l es (aa bs))).snd.snd.snd.snd.snd)]))))))))))))))))))))))))):=by kernel_rfl
abbrev zX(l:Bool)(es:List En)(bs:List Br):Prop:=(l=true→bs=[])∧(l=false→es=[])
abbrev sWs:Spec (XT×Bool×List En×List Br):=⟨fun(_,l,es,bs)=>[.ptr 0 0,avN l es bs],fun((th,m,fu,root,fr,fs,gn),_)=>hT th m fu root fr fs gn,
 fun((th,m,fu,_,fr,_,_),l,es,bs)=>[Ds.bM th m fu,Bx.okW fr,zX l es bs,a8 es,ba bs],
 fun((th,m,fu,root,fr,fs,gn),l,es,bs)=>hT th (bo th m fu fr fs l es bs).1 (bo th m fu fr fs l es bs).2.1 root (bo th m fu fr fs l es bs).2.2.1 (bo th m fu fr fs l es bs).2.2.2.1 gn++[.vec (.ae cB (bo th m fu fr fs l es bs).2.2.2.2.1) Lf.eB],
 fun((th,m,fu,_,fr,fs,_),l,es,bs)=>.bm [.vec 4,bP (bo th m fu fr fs l es bs).2.2.2.2.2]⟩
theorem zY{th:Th}{m:As}{fu:Int}{fr fs:Ws}{l:Bool}{es:List En}{bs:List Br}(hd:Ds.bM th m fu)(hf:Bx.okW fr):Ds.bM th (bI th m fu fr fs l es bs).1 (bI th m fu fr fs l es bs).2.1∧Bx.okW (bI th m fu fr fs l es bs).2.2.1:=by
 have gd:=Ds.an2 (n:=Bx.bu fr 0) (s:=c9 l es (aa bs)) hd
 unfold bI
 split
 ·exact⟨hd,hf⟩
 ·split
  ·exact⟨hd,hf⟩
  ·split
   ·exact⟨gd,hf⟩
   ·exact⟨gd,(Bx.kI hf _).1⟩
theorem yi(bs:List Br):(aa bs).length=bs.length:=by cases bs<;>rfl
theorem amG{l:Bool}{es:List En}{bs:List Br}(ok:dv l es bs=true):(bO l es bs=true→0<(aY l es bs).length∧0<(cN l es bs).length)∧(bO l es bs=false→0<(bc l es bs).length∧0<(cW l es bs).length):=by
 have ok':=ok
 simp only[dv,Bool.and_eq_true,decide_eq_true_eq]at ok'
 obtain⟨hm,h2⟩:=ok'
 obtain⟨m1,m2,_,_⟩:=dK hm
 have b1:=nu (aE es bs) (es.length+bs.length - 1) (by omega)
 have b2:=n6 (aE es bs) (es.length+bs.length - 1)
 have c:0<dO es bs∧dO es bs≤es.length+bs.length - 1:=⟨b1,b2⟩
 simp only[bO,aY,cN,bc,cW,ok,if_true,Bool.true_and,List.length_take,List.length_drop]
 refine⟨fun e=> ?_,fun e=> ?_⟩
 ·have:=m1 e
  subst this
  simp only[List.length_nil]at *
  omega
 ·have:=m2 e
  subst this
  simp only[List.length_nil]at *
  omega
theorem ajW:aow.Ok P Bx.bV:=aH.Ok.cons afr.uT (aH.Ok.cons ae8.sum (aH.Ok.cons (ix (gi (vd.sum mTN) 1 _) 1) (aH.Ok.cons ajp.sum aH.Ok.nil)))
theorem jJ:jA P Bx.bV 66 sWs:=by
 refine fG Tryd.func66 (by kernel_rfl) (fun x=>Nat.le_of_ble_eq_true (by kernel_rfl)) ?_
 rintro⟨⟨(th:Th),(m:As),(fu:Int),(root:Int),(fr:Ws),(fs:Ws),(gn:Ws)⟩,(l:Bool),(es:List En),(bs:List Br)⟩ ⟨(hd:Ds.bM th m fu),(hf:Bx.okW fr),⟨(hl1:l=true→bs=[]),(xt:l=false→es=[])⟩,(he:a8 es),(hb:ba bs),_⟩ X hX hz
 have fin:∀{w:Wrs},bo th m fu fr fs l es bs=w→hT th (bo th m fu fr fs l es bs).1 (bo th m fu fr fs l es bs).2.1 root (bo th m fu fr fs l es bs).2.2.1 (bo th m fu fr fs l es bs).2.2.2.1 gn++[.vec (.ae cB (bo th m fu fr fs l es bs).2.2.2.2.1) Lf.eB]=hT th w.1 w.2.1 root w.2.2.1 w.2.2.2.1 gn++[.vec (.ae cB w.2.2.2.2.1) Lf.eB]∧
  AV.bm [.vec 4,bP (bo th m fu fr fs l es bs).2.2.2.2.2]=.bm [.vec 4,bP w.2.2.2.2.2]:=fun e=>by rw[e];exact⟨rfl,rfl⟩
 have hbb:=sR hb
 refine Ds.eR hz hX (by intro y hy;cases hy) ajW Tryd.func66 (auR th m fu root fr fs gn l es bs) ⟨?_,fun h=> ?_,fun h=>⟨hb.1,he,hbb,fun h2=>⟨rfl,rfl,hd,hf, ?_,he,hbb, ?_⟩,fun h2=>⟨he,hbb,fun h3=> ?_,fun h3=> ?_⟩⟩⟩
 ·have:=he.1;have:=hb.1;exact⟨by omega,by omega⟩
 ·have h:(es.length:Int)+bs.length=0:=by simpa using h
  obtain⟨f1,f2⟩:=fin (w:=(m,fu,fr,fs,[],0)) (by unfold bo;rw[if_pos (by omega)])
  exact kr ⟨[(0,.ae cB [],Lf.eB)],[0,1],4,[]⟩ rfl (Nat.le_refl _) (oL.same _) f2 f1
 ·have h:¬((es.length:Int)+bs.length=0):=by simpa using h
  rw[yi]
  refine⟨fun e=>Nat.pos_of_ne_zero fun h0=>h ?_,fun e=>Nat.pos_of_ne_zero fun h0=>h ?_⟩
  ·rw[hl1 e,h0];rfl
  ·rw[xt e,h0];rfl
 ·have h:¬((es.length:Int)+bs.length=0):=by simpa using h
  have h2:=of_decide_eq_true h2
  obtain⟨f1,f2⟩:=fin (w:=((bI th m fu fr fs l es (aa bs)).1,(bI th m fu fr fs l es (aa bs)).2.1,(bI th m fu fr fs l es (aa bs)).2.2.1,(bI th m fu fr fs l es (aa bs)).2.2.2.1,[(bI th m fu fr fs l es (aa bs)).2.2.2.2.1],(bI th m fu fr fs l es (aa bs)).2.2.2.2.2)) (by unfold bo;rw[if_neg (by omega),if_pos h2])
  exact kr ⟨[],[0,1],4,[]⟩ rfl (Nat.le_refl _) (oL.same _) f2 f1
 ·have h:¬((es.length:Int)+bs.length=0):=by simpa using h
  have h2:=of_decide_eq_false h2
  have h3:spC l es (aa bs)≠0:=by simpa using h3
  obtain⟨f1,f2⟩:=fin (w:=(m,fu,fr,fs,[],spC l es (aa bs))) (by unfold bo;rw[if_neg (by omega),if_neg h2,if_pos h3])
  exact kr ⟨[(0,.ae cB [],Lf.eB)],[0,1],4,[]⟩ rfl (Nat.le_refl _) (oL.same _) f2 f1
 ·have h:¬((es.length:Int)+bs.length=0):=by simpa using h
  have h2:=of_decide_eq_false h2
  have h3:spC l es (aa bs)=0:=by simpa using h3
  have ok:=aqG (l:=l) (es:=es) (bs:=aa bs) (by rw[h3];rfl)
  obtain⟨q1,q2,q3,q4,_,_,_,q5,q6,_,_⟩:=rU ok he hbb
  have hmn:c8 l es (aa bs)=true:=by
   simp only[dv,Bool.and_eq_true]at ok
   exact ok.1
  have zt:bO l es (aa bs)=l:=by unfold bO;rw[ok,Bool.true_and]
  obtain⟨p1,p2⟩:=amG ok
  have n1:(bO l es (aa bs)=true→0<(aY l es (aa bs)).length)∧(bO l es (aa bs)=false→0<(bc l es (aa bs)).length):=⟨fun e=>(p1 e).1,fun e=>(p2 e).1⟩
  have n2:(bO l es (aa bs)=true→0<(cN l es (aa bs)).length)∧(bO l es (aa bs)=false→0<(cW l es (aa bs)).length):=⟨fun e=>(p1 e).2,fun e=>(p2 e).2⟩
  obtain⟨w1,w2⟩:=zY (fs:=fs) (l:=bO l es (aa bs)) (es:=aY l es (aa bs)) (bs:=bc l es (aa bs)) hd hf
  refine⟨rfl,rfl,hd,hf,n1,q1,q2,fun h4=> ?_,fun h4=>⟨rfl,rfl,w1,w2,n2,q3,q4, ?_⟩⟩
  ·have h4:(bI th m fu fr fs (bO l es (aa bs)) (aY l es (aa bs)) (bc l es (aa bs))).2.2.2.2.2≠0:=by simpa using h4
   obtain⟨f1,f2⟩:=fin (w:=((bI th m fu fr fs (bO l es (aa bs)) (aY l es (aa bs)) (bc l es (aa bs))).1,(bI th m fu fr fs (bO l es (aa bs)) (aY l es (aa bs)) (bc l es (aa bs))).2.1,(bI th m fu fr fs (bO l es (aa bs)) (aY l es (aa bs)) (bc l es (aa bs))).2.2.1,(bI th m fu fr fs (bO l es (aa bs)) (aY l es (aa bs)) (bc l es (aa bs))).2.2.2.1,[],(bI th m fu fr fs (bO l es (aa bs)) (aY l es (aa bs)) (bc l es (aa bs))).2.2.2.2.2)) (by unfold bo;rw[if_neg (by omega),if_neg h2,if_neg (by rw[h3];simp),if_pos h4])
   exact kr ⟨[(0,.ae cB [],Lf.eB)],[0,1],4,[]⟩ rfl (Nat.le_refl _) (oL.same _) f2 f1
  ·have h4:¬(bI th m fu fr fs (bO l es (aa bs)) (aY l es (aa bs)) (bc l es (aa bs))).2.2.2.2.2≠0:=by simpa using h4
   obtain⟨f1,f2⟩:=fin (w:=two (bI th m fu fr fs (bO l es (aa bs)) (aY l es (aa bs)) (bc l es (aa bs))) (bI th (bI th m fu fr fs (bO l es (aa bs)) (aY l es (aa bs)) (bc l es (aa bs))).1 (bI th m fu fr fs (bO l es (aa bs)) (aY l es (aa bs)) (bc l es (aa bs))).2.1 (bI th m fu fr fs (bO l es (aa bs)) (aY l es (aa bs)) (bc l es (aa bs))).2.2.1 (bI th m fu fr fs (bO l es (aa bs)) (aY l es (aa bs)) (bc l es (aa bs))).2.2.2.1 (bO l es (aa bs)) (cN l es (aa bs)) (cW l es (aa bs)))) (by unfold bo;rw[if_neg (by omega),if_neg h2,if_neg (by rw[h3];simp),if_neg h4])
   exact kr ⟨[],[0,1],4,[]⟩ rfl (Nat.le_refl _) (oL.same _) f2 f1
end Ts
