/- Lemmas: L5, L6, L7, Lm, R4, R6, R7, R8, SxRoom, R9, R10, Bx1, Bx2, Bx3, Bx4, Bx5, Bx6, M0, Bx7, L7r, SxWeak, N1, N2, N3, N4, Rp, Hq, M1, N5, SxTup, N6. -/
import Derived.Test.YtcjldfgkonfocaaDoorProg
import Derived.Lib.TrailingZeros
import Derived.Shelf.Spec.TrailingZeros
import Derived.Test.YtcjldfgkonfocaaDoorRows
import Derived.WalkKit
import Derived.WalkSpells
import Derived.WalkLawsBesides
import Derived.Test.YtcjldfgkonfocaaDoorPC
namespace Lf
open Go Go.Sx Go.Proofs
def zk(s:ByteArray):List Int:=s.data.toList.map fun b=>(b.toNat:Int)
def xJ(s:ByteArray):List Int:=IntKind.u8.wrap (s.size:Int)::zk s
abbrev arI:Type:=ByteArray×List Int
def aa7:Spec arI:=⟨fun x=>[.s (.str x.1),.ptr 0 0],fun x=>[.own [.vec 1] 58,.vec (.ints .u8 x.2) 5],fun x=>[x.2.length≤100000000,x.1.size≤1000000],fun x=>[.own [.vec 2] 58,.dead,.vec (.ints .u8 (x.2++xJ x.1)) 5],fun _=>.bp []⟩
def anC:List AV→RM (arI×List Nat)
 |[.s (.str s),.ptr id 0]=>.look id fun
  |some (.own [.vec j] _)=>.look j fun
   |some (.vec (.ints .u8 zs) _)=>.ret ((s,zs),[id,j])
   |_=>.fail "enc1: no bytes"
  |_=>.fail "enc1: no box"
 |_=>.fail "enc1"
theorem aiM(s:ByteArray)(zs:List Int):run P jv.sum Tryd.f104 [] (start Tryd.f104 [.s (.str s),.ptr 0 0] [.own [.vec 1] 58,.vec (.ints .u8 zs) 5])=
 Tree.need ((zs.length+(1:Nat))*(1:Nat)≤(140737488355328:Nat)) (Tree.need (((zs++[IntKind.u8.wrap (↑s.size:Int)]).length+(List.map (fun(b:UInt8)=>(↑b.toNat:Int)) s.data.toList).length)*(1:Nat)≤(140737488355328:Nat)) (Tree.ret [ae.own [AV.vec (4:Nat)] (58:Nat),ae.dead,ae.vec (aF.ints IntKind.u8 [IntKind.u8.wrap (↑s.size:Int)]) (5:Nat),ae.dead,ae.vec (aF.ints IntKind.u8 (zs++[IntKind.u8.wrap (↑s.size:Int)]++List.map (fun(b:UInt8)=>(↑b.toNat:Int)) s.data.toList)) (5:Nat)] (AV.bp []))):=by kernel_rfl
abbrev apq:=bS [ez] [cv] (fun _=>[]) (fun((l,es,bs,()),())=>(c9 l es bs,()))
abbrev anD:=bS [ez] [cv] (fun((_,es,bs,()),())=>[a8 es,ba bs]) (fun((_,es,bs,()),())=>(decide (bg es bs≤254),()))
def vd:aH:=[(76,apq),(82,anD),(104,dI aa7 anC)]
def aeP:List (Nat×Norm):=[(8,⟨[],[1,4],0,[]⟩),(10,⟨[],[1,4,5,25,26,27],0,[]⟩),(16,⟨[],[4,5,41,42,43],0,[]⟩)]
noncomputable def anE(l:Bool)(es:List En)(bs:List Br)(zs:List Int):bB:=⟨sl 64 [(1,.ptr 0 0),(4,.ptr 1 0)],[obN l es bs 73,.own [.vec 2] 58,.vec (.ints .u8 zs) 5],hr Tryd.f96 8,{}⟩
noncomputable def anF(l:Bool)(es:List En)(bs:List Br)(zs:List Int)(i:Int):bB:=⟨sl 64 [(1,.ptr 0 0),(4,.ptr 1 0),(5,.fn 104 [.ptr 1 0]),(25,.s (.ro (.ad cE es))),(26,.s (.int .i64 (es.length:Int))),(27,.s (.int .i64 i))],[obN l es bs 73,.own [.vec 2] 58,.vec (.ints .u8 zs) 5],hd Tryd.f96 10,{}⟩
noncomputable def anG(bs:List Br)(zs:List Int)(i:Int):bB:=⟨sl 64 [(4,.ptr 0 0),(5,.fn 104 [.ptr 0 0]),(41,.s (.ro (.ad cB bs))),(42,.s (.int .i64 (bs.length:Int))),(43,.s (.int .i64 i))],[.own [.vec 1] 58,.vec (.ints .u8 zs) 5],hd Tryd.f96 16,{}⟩
theorem aln(l:Bool)(es:List En)(bs:List Br):run P vd.sum Tryd.f96 aeP (start Tryd.f96 [avN l es bs] [])=
 Tree.ite (!c9 l es bs) (.ret [.own [.s (.bool l),.s (.ro (.ad [.str,.str] es)),.s (.ro (.ad [.str,.int .i64] bs))] 73] (.bp [.s (.str ByteArray.empty),.s (.aW .i64 4)])) (.need (a8 es) (.need (ba bs) (.ite (!decide (bg es bs≤254)) (.ret [.own [.s (.bool l),.s (.ro (.ad [.str,.str] es)),.s (.ro (.ad [.str,.int .i64] bs))] 73] (.bp [.s (.str ByteArray.empty),.s (.aW .i64 40)])) (.ite l (.need ((0:Int)≤0) (.need ((0:Int)<(↑(1:Nat):Int)) (.at (.mk (sl 64 [(1,.ptr 0 0),(4,.ptr 1 0)]) [.own [.s (.bool l),.s (.ro (.ad [.str,.str] es)),.s (.ro (.ad [.str,.int .i64] bs))] 73,.own [.vec 2] 58,.vec (.ints .u8 ([(2:Int)].set 0 1)) 5] (hr Tryd.f96 8) (.mk none false 0 [] 0))))) (.at (.mk (sl 64 [(1,.ptr 0 0),(4,.ptr 1 0)]) [.own [.s (.bool l),.s (.ro (.ad [.str,.str] es)),.s (.ro (.ad [.str,.int .i64] bs))] 73,.own [.vec 2] 58,.vec (.ints .u8 [(2:Int)]) 5] (hr Tryd.f96 8) (.mk none false 0 [] 0))))))):=by kernel_rfl
theorem alo(l:Bool)(es:List En)(bs:List Br)(zs:List Int):run P vd.sum Tryd.f96 aeP (anE l es bs zs)=
 Tree.at (.mk (sl 64 [(1,.ptr 0 0),(4,.ptr 1 0),(5,.fn 104 [.ptr 1 0]),(25,.s (.ro (.ad [.str,.str] es))),(26,.s (.int .i64 (↑es.length:Int))),(27,.s (.int .i64 0))]) [.own [.s (.bool l),.s (.ro (.ad [.str,.str] es)),.s (.ro (.ad [.str,.int .i64] bs))] 73,.own [.vec 2] 58,.vec (.ints .u8 zs) 5] (hd Tryd.f96 10) (.mk none false 0 [] 0)):=by kernel_rfl
theorem aa8(l:Bool)(es:List En)(bs:List Br)(zs:List Int)(i:Int):run P vd.sum Tryd.f96 aeP (anF l es bs zs i)=
 Tree.ite (decide (i<(↑es.length:Int))) (.need ((0:Int)≤i) (.need (i<(↑es.length:Int)) (.need (bJ (some [AV.s (.str (es.getD i.toNat (CL.d [.str,.str])).fst),.ptr 0 0])) (.need (bJ (some [ae.own [.vec 1] 58,.vec (.ints .u8 zs) 5])) (.need (zs.length≤100000000) (.need (ByteArray.size (es.getD i.toNat (CL.d [.str,.str])).fst≤1000000) (.need (bJ (some [AV.s (.str (es.getD i.toNat (CL.d [.str,.str])).snd.fst),.ptr 0 0])) (.need (bJ (some [ae.own [.vec 1] 58,.vec (.ints .u8 (zs++xJ (es.getD i.toNat (CL.d [.str,.str])).fst)) 5])) (.need ((zs++xJ (es.getD i.toNat (CL.d [.str,.str])).fst).length≤100000000) (.need (ByteArray.size (es.getD i.toNat (CL.d [.str,.str])).snd.fst≤1000000) (.need (aD (i+1)) (.at (.mk (sl 64 [(1,.ptr 0 0),(4,.ptr 1 0),(5,.fn 104 [.ptr 1 0]),(25,.s (.ro (.ad [.str,.str] es))),(26,.s (.int .i64 (↑es.length:Int))),(27,.s (.int .i64 (i+1)))]) [.own [.s (.bool l),.s (.ro (.ad [.str,.str] es)),.s (.ro (.ad [.str,.int .i64] bs))] 73,.own [.vec 2] 58,.vec (.ints .u8 (zs++xJ (es.getD i.toNat (CL.d [.str,.str])).fst++xJ (es.getD i.toNat (CL.d [.str,.str])).snd.fst)) 5] (hd Tryd.f96 10) (.mk none false 0 [] 0)))))))))))))) (.at (.mk (sl 64 [(4,.ptr 0 0),(5,.fn 104 [.ptr 0 0]),(41,.s (.ro (.ad [.str,.int .i64] bs))),(42,.s (.int .i64 (↑bs.length:Int))),(43,.s (.int .i64 0))]) [.own [.vec 1] 58,.vec (.ints .u8 zs) 5] (hd Tryd.f96 16) (.mk none false 0 [] 0))):=by kernel_rfl
theorem aa9(bs:List Br)(zs:List Int)(i:Int):run P vd.sum Tryd.f96 aeP (anG bs zs i)=
 Tree.ite (decide (i<(↑bs.length:Int))) (Tree.need ((0:Int)≤i) (Tree.need (i<(↑bs.length:Int)) (Tree.need (bJ (some [AV.s (SV.str (bs.getD i.toNat (CL.d [CK.str,CK.int IntKind.i64])).fst),AV.ptr (0:Nat) (0:Nat)])) (Tree.need (bJ (some [ae.own [AV.vec (1:Nat)] (58:Nat),ae.vec (aF.ints IntKind.u8 zs) (5:Nat)])) (Tree.need (zs.length≤(100000000:Nat)) (Tree.need (ByteArray.size (bs.getD i.toNat (CL.d [CK.str,CK.int IntKind.i64])).fst≤(1000000:Nat)) (Tree.need ((0:Int)≤(8:Int)) (Tree.need (((zs++xJ (bs.getD i.toNat (CL.d [CK.str,CK.int IntKind.i64])).fst).length+(2:Nat))*(1:Nat)≤(140737488355328:Nat)) (Tree.need (aD (i+(1:Int))) (Tree.at (bB.mk (sl (64:Nat) [((4:Nat),AV.ptr (0:Nat) (0:Nat)),((5:Nat),AV.fn (104:Nat) [AV.ptr (0:Nat) (0:Nat)]),((41:Nat),AV.s (SV.ro (aF.ad [CK.str,CK.int IntKind.i64] bs))),((42:Nat),AV.s (SV.int IntKind.i64 (↑bs.length:Int))),((43:Nat),AV.s (SV.int IntKind.i64 (i+(1:Int))))]) [ae.own [AV.vec (1:Nat)] (58:Nat),ae.vec (aF.ints IntKind.u8 (zs++xJ (bs.getD i.toNat (CL.d [CK.str,CK.int IntKind.i64])).fst++[IntKind.u8.wrap (Int.fdiv (bs.getD i.toNat (CL.d [CK.str,CK.int IntKind.i64])).snd.fst ((2:Int)^min (Int.toNat (8:Int)) IntKind.i64.bits)),IntKind.u8.wrap (bs.getD i.toNat (CL.d [CK.str,CK.int IntKind.i64])).snd.fst])) (5:Nat)] (hd Tryd.f96 (16:Nat)) (nI.mk none false (0:Nat) [] (0:Nat))))))))))))) (Tree.ret [ae.own [AV.vec (1:Nat)] (58:Nat),ae.vec (aF.ints IntKind.u8 zs) (5:Nat)] (AV.bp [AV.s (SV.str (aM zs)),AV.s (SV.aW IntKind.i64 (0:Int))])):=by kernel_rfl
theorem eV{Z:aX}{X:Ctx}{t:aH}{f:FuncId}{fn:Func}{ns:List (Nat×Norm)}{c:bB}{tr:Tree}{K:List ae→AV→Prop}{L:List ae}(hz:dS Z X)(hX:X.H=lk L)(hm:∀x∈ns,L.length≤x.2.m)(hT:t.Ok P Z)(hf:P.funcs[f]? =some fn)
 (e:run P t.sum fn ns c=tr) (h:tr.aP K (Safe P f X K)):Safe P f X K c:=cp (aH.sOk hT) hz mixed hf (fun x hx id du=>by rw[hX];exact List.getElem?_eq_none (Nat.le_trans (hm x hx) du)) e h
theorem alp{Z:aX}:jU P Z 104 aa7:=by
 refine aO Tryd.func104 (by kernel_rfl) (fun x=>Nat.le_of_ble_eq_true (by kernel_rfl)) ?_
 rintro⟨(s:ByteArray),(zs:List Int)⟩ ⟨(h1:zs.length≤100000000),(h2:s.size≤1000000),_⟩ X hX hz
 have hs:s.data.toList.length=s.size:=Array.length_toList
 refine eV hz hX (by simp) aH.Ok.nil Tryd.func104 (aiM s zs) ⟨by omega,by simp only[List.length_append,List.length_map,List.length_singleton];omega,⟨[],[0],2,[]⟩,Nat.le_refl _, ?_⟩
 have e:zs++xJ s=zs++[IntKind.u8.wrap (s.size:Int)]++zk s:=by simp[xJ]
 show Norm.run _ _=some ⟨[AV.bp []],[.own [.vec 2] 58,.dead,.vec (.ints .u8 (zs++xJ s)) 5],[],{}⟩
 rw[e]
 kernel_rfl
def ni(x:En):List Int:=xJ x.1++xJ x.2.1
def sP(x:Br):List Int:=xJ x.1++[IntKind.u8.wrap (Int.fdiv x.2.1 (2^min (Int.toNat 8) IntKind.i64.bits)),IntKind.u8.wrap x.2.1]
def wC(l:Bool):List Int:=[if l=true then 1 else 2]
def nj(l:Bool)(es:List En)(bs:List Br):List Int:=wC l++es.flatMap ni++bs.flatMap sP
def aba(l:Bool)(es:List En)(bs:List Br):Bool:=c9 l es bs&&decide (bg es bs≤254)
def db(l:Bool)(es:List En)(bs:List Br):ByteArray:=if aba l es bs=true then aM (nj l es bs)else ByteArray.empty
def gI(l:Bool)(es:List En)(bs:List Br):Int:=if c9 l es bs=true then(if bg es bs≤254 then 0 else 40)else 4
theorem l6(s:ByteArray):(xJ s).length=s.size+1:=by
 have hs:s.data.toList.length=s.size:=Array.length_toList
 simp[xJ,zk,hs]
theorem xK{α β:Type}{l:List α}{k:Nat}{d:α}(f:α→List β)(h:k<l.length):(l.take k).flatMap f++f (l.getD k d)=(l.take (k+1)).flatMap f:=by
 rw[←lA (d:=d) h,List.flatMap_append];simp
theorem qn{α β:Type}(f:α→List β)(m:Nat):∀{l:List α},(∀x∈l,(f x).length≤m)→(l.flatMap f).length≤m*l.length
 |[],_=>by simp
 |x::l,h=>by
  have h1:=h x (by simp)
  have h2:=qn f m (l:=l) (fun y hy=>h y (by simp[hy]))
  simp only[List.flatMap_cons,List.length_append,List.length_cons,Nat.mul_add]
  omega
theorem abb{x:En}(h:x.1.size≤1000∧x.2.1.size≤1000):(ni x).length≤2002:=by
 simp only[ni,List.length_append,l6];omega
theorem aiN{x:Br}(h:x.1.size≤1000):(sP x).length≤1003:=by
 simp only[sP,List.length_append,l6,List.length_cons,List.length_nil];omega
theorem jB{Z:aX}:vd.Ok P Z:=aH.Ok.cons ade.sum (aH.Ok.cons aeO.sum (aH.Ok.cons (alp.sum anC) aH.Ok.nil))
theorem agz{Z:aX}:dd P Z 96 [ez] [dL,bm] (fun((_,es,bs,()),())=>[a8 es,ba bs]) (fun((l,es,bs,()),())=>(db l es bs,gI l es bs,())):=by
 refine aq Tryd.func96 (by kernel_rfl) (by kernel_rfl) ?_
 rintro⟨⟨(l:Bool),(es:List En),(bs:List Br),⟨⟩⟩,⟨⟩⟩ _ ⟨(he:a8 es),(hb:ba bs),_⟩ X hX hz
 have he1:=he.1
 have hb1:=hb.1
 show Safe P 96 X (Ends [dL,bm] (db l es bs,gI l es bs,())) _
 have second:db l es bs=aM (nj l es bs)→gI l es bs=0→∀(n k:Nat),k+n=bs.length→Safe P 96 X (Ends [dL,bm] (db l es bs,gI l es bs,())) (anG bs (wC l++es.flatMap ni++(bs.take k).flatMap sP) (k:Int)):=by
  intro hS hN n
  induction n with
  |zero=>
   intro k hk
   refine go hz hX jB Tryd.func96 (aa9 bs _ k) ⟨fun h=>absurd (of_decide_eq_true h) (by omega),fun h=> ?_⟩
   rw[List.take_of_length_le (by omega),hS,hN]
   exact za
  |succ n ih=>
   intro k hk
   have bI:=u7 hb k
   have hl1:(es.flatMap ni).length≤2002*es.length:=qn ni 2002 (fun x hx=>abb (he.2 x hx))
   have xd:((bs.take k).flatMap sP).length≤1003*(bs.take k).length:=qn sP 1003 (fun x hx=>aiN (hb.2 x (List.mem_of_mem_take hx)))
   have hl3:(bs.take k).length≤1000:=by rw[List.length_take];omega
   have hl:(wC l++es.flatMap ni++(bs.take k).flatMap sP).length≤4000000:=by
    simp only[List.length_append,wC,List.length_singleton];omega
   refine go hz hX jB Tryd.func96 (aa9 bs _ k) ?_
   simp only[Int.toNat_natCast]
   refine⟨fun h=>⟨by omega,by omega,trivial,trivial,by omega, ?_,by decide, ?_,⟨by omega,by omega⟩, ?_⟩,fun h=>absurd (of_decide_eq_false h) (by omega)⟩
   ·show(bs.getD k dB).1.size≤1000000
    omega
   ·rw[List.length_append,l6]
    show(_+((bs.getD k dB).1.size+1)+2)*1≤_
    omega
   ·have:=ih (k+1) (by omega)
    rw[←xK (d:=dB) sP (by omega),←List.append_assoc]at this
    rw[List.append_assoc (wC l++es.flatMap ni++(bs.take k).flatMap sP)]
    exact this
 have first:db l es bs=aM (nj l es bs)→gI l es bs=0→∀(n k:Nat),k+n=es.length→Safe P 96 X (Ends [dL,bm] (db l es bs,gI l es bs,())) (anF l es bs (wC l++(es.take k).flatMap ni) (k:Int)):=by
  intro hS hN n
  induction n with
  |zero=>
   intro k hk
   refine go hz hX jB Tryd.func96 (aa8 l es bs _ k) ⟨fun h=>absurd (of_decide_eq_true h) (by omega),fun h=> ?_⟩
   rw[List.take_of_length_le (by omega)]
   have:=second hS hN bs.length 0 (by omega)
   simp only[List.take_zero,List.flatMap_nil,List.append_nil]at this
   exact this
  |succ n ih=>
   intro k hk
   obtain⟨hs1,hs2⟩:=u6 he k
   have xd:((es.take k).flatMap ni).length≤2002*(es.take k).length:=qn ni 2002 (fun x hx=>abb (he.2 x (List.mem_of_mem_take hx)))
   have hl3:(es.take k).length≤1000:=by rw[List.length_take];omega
   have hl:(wC l++(es.take k).flatMap ni).length≤4000000:=by
    simp only[List.length_append,wC,List.length_singleton];omega
   refine go hz hX jB Tryd.func96 (aa8 l es bs _ k) ?_
   simp only[Int.toNat_natCast]
   refine⟨fun h=>⟨by omega,by omega,trivial,trivial,by omega, ?_,trivial,trivial, ?_, ?_,⟨by omega,by omega⟩, ?_⟩,fun h=>absurd (of_decide_eq_false h) (by omega)⟩
   ·show(es.getD k dE).1.size≤1000000
    omega
   ·rw[List.length_append,l6]
    show _+((es.getD k dE).1.size+1)≤_
    omega
   ·show(es.getD k dE).2.1.size≤1000000
    omega
   ·have:=ih (k+1) (by omega)
    rw[←xK (d:=dE) ni (by omega),←List.append_assoc]at this
    rw[List.append_assoc (wC l++(es.take k).flatMap ni)]
    exact this
 refine go hz hX jB Tryd.func96 (aln l es bs) ⟨fun h=> ?_,fun h=>⟨he,hb,fun h2=> ?_,fun h2=> ?_⟩⟩
 ·have h:c9 l es bs=false:=by simpa using h
  have e1:db l es bs=ByteArray.empty:=by simp[db,aba,h]
  have e2:gI l es bs=4:=by simp[gI,h]
  rw[e1,e2];exact za
 ·have h:c9 l es bs=true:=by simpa using h
  have h2:¬bg es bs≤254:=by simpa using h2
  have e1:db l es bs=ByteArray.empty:=by simp[db,aba,h,h2]
  have e2:gI l es bs=40:=by simp[gI,h,h2]
  rw[e1,e2];exact za
 ·have h:c9 l es bs=true:=by simpa using h
  have h2:bg es bs≤254:=by simpa using h2
  have e1:db l es bs=aM (nj l es bs):=by simp[db,aba,h,h2]
  have e2:gI l es bs=0:=by simp[gI,h,h2]
  have st:Safe P 96 X (Ends [dL,bm] (db l es bs,gI l es bs,())) (anE l es bs (wC l)):=by
   refine go hz hX jB Tryd.func96 (alo l es bs _) ?_
   have:=first e1 e2 es.length 0 (by omega)
   simp only[List.take_zero,List.flatMap_nil,List.append_nil]at this
   exact this
  refine⟨fun h3=>⟨by decide,by decide, ?_⟩,fun h3=> ?_⟩
  ·subst h3;exact st
  ·subst h3;exact st
end Lf
namespace Lf
open Go Go.Sx Go.Proofs
theorem aiO{bs:List Br}(h:gH bs=true){i:Nat}(hi:i+1<bs.length):slt (bs.getD i dB).1 (bs.getD (i+1) dB).1=true:=by
 have:=cU.1 h (i+1) hi
 simp only[okB,Bool.not_eq_true',Bool.or_eq_false_iff,Bool.and_eq_false_iff,decide_eq_false_iff_not,Bool.not_eq_false']at this
 have h2:=this.2
 rcases h2 with h2|h2
 ·omega
 ·simpa using h2
theorem aiP{es:List En}(h:jw es=true){i:Nat}(hi:i+1<es.length):slt (es.getD i dE).1 (es.getD (i+1) dE).1=true:=by
 have:=cU.1 h (i+1) hi
 simp only[okE,Bool.not_eq_true',Bool.or_eq_false_iff,Bool.and_eq_false_iff,decide_eq_false_iff_not,Bool.not_eq_false']at this
 have h2:=this.2
 rcases h2 with h2|h2
 ·omega
 ·simpa using h2
theorem sn{ks:List ByteArray}(h:∀i,i+1<ks.length→slt (ks.getD i ByteArray.empty) (ks.getD (i+1) ByteArray.empty)=true):iz ks:=by
 intro i j kX hj
 induction j with
 |zero=>omega
 |succ j ih=>
  by_cases he:i=j
  ·subst he;exact h i hj
  ·exact cH (ih (by omega) (by omega)) (h j hj)
theorem apr{bs:List Br}(h:gH bs=true):iz (mg bs):=sn fun i hi=>by
 rw[List.length_map]at hi
 rw[cA bs agw dB,cA bs agw dB]
 exact aiO h hi
theorem arJ{es:List En}(h:jw es=true):iz (bC es):=sn fun i hi=>by
 rw[List.length_map]at hi
 rw[cA es o9 dE,cA es o9 dE]
 exact aiP h hi
theorem dK{l:Bool}{es:List En}{bs:List Br}(h:c9 l es bs=true):(l=true→bs=[])∧(l=false→es=[])∧jw es=true∧gH bs=true:=by
 simp only[c9,Bool.and_eq_true,Bool.not_eq_true',Bool.or_eq_false_iff,Bool.and_eq_false_iff,decide_eq_false_iff_not]at h
 obtain⟨⟨⟨h1,h2⟩,h3⟩,h4⟩:=h
 refine⟨fun hl=> ?_,fun hl=> ?_,h3,h4⟩
 ·subst hl
  rcases h1 with h1|h1
  ·cases h1
  ·exact List.eq_nil_of_length_eq_zero (by omega)
 ·subst hl
  rcases h2 with h2|h2
  ·cases h2
  ·exact List.eq_nil_of_length_eq_zero (by omega)
theorem adj:∀{ks:List ByteArray} {key:ByteArray} {t:Nat},t<cr ks key→slt (ks.getD t ByteArray.empty) key=true
 |[],key,t,h=>by simp[cr]at h
 |k::ks,key,t,h=>by
  simp only[cr,List.takeWhile]at h
  split at h
  ·rename_i hk
   cases t with
   |zero=>simpa using hk
   |succ t=>
    simp only[List.length_cons]at h
    simpa using adj (ks:=ks) (key:=key) (t:=t) (by simp only[cr];omega)
  ·simp at h
theorem adk:∀{ks:List ByteArray} {key:ByteArray},cr ks key<ks.length→slt (ks.getD (cr ks key) ByteArray.empty) key=false
 |[],key,h=>by simp at h
 |k::ks,key,h=>by
  by_cases hk:slt k key=true
  ·have e:cr (k::ks) key=cr ks key+1:=by simp[cr,List.takeWhile,hk]
   rw[e]at h ⊢
   simpa using adk (ks:=ks) (key:=key) (by simpa using h)
  ·have hk:slt k key=false:=by simpa using hk
   have e:cr (k::ks) key=0:=by simp[cr,List.takeWhile,hk]
   rw[e]
   simpa using hk
theorem aiQ{ks:List ByteArray}{key:ByteArray}(hs:iz ks){t:Nat}(h1:cr ks key≤t)(h2:t<ks.length):slt (ks.getD t ByteArray.empty) key=false:=by
 have h:=adk (ks:=ks) (key:=key) (by omega)
 by_cases he:t=cr ks key
 ·rw[he];exact h
 ·have h3:=hs (cr ks key) t (by omega) h2
  cases h4:slt (ks.getD t ByteArray.empty) key
  ·rfl
  ·rw[cH h3 h4]at h;cases h
theorem jx{ks:List ByteArray}{key:ByteArray}:jj ks key=true↔cr ks key<ks.length∧ks.getD (cr ks key) ByteArray.empty=key:=by
 simp only[jj,decide_eq_true_eq]
 constructor
 ·intro h
  have h1:=(List.getElem?_eq_some_iff.1 h).1
  exact⟨h1,by simp[List.getD,h]⟩
 ·rintro⟨h1,h2⟩
  rw[bh h1]at h2
  rw[List.getElem?_eq_getElem h1,h2]
theorem ve{ks:List ByteArray}{key:ByteArray}(hs:iz ks)(h0:ks≠[]):∃p:Nat,imax 0 (if jj ks key=true then(cr ks key:Int)else(cr ks key:Int) - 1)=(p:Int)∧p<ks.length∧
 (p=0∨slt key (ks.getD p ByteArray.empty)=false)∧(∀t,p<t→t<ks.length→slt key (ks.getD t ByteArray.empty)=true):=by
 have hlen:0<ks.length:=by
  cases ks with
  |nil=>exact absurd rfl h0
  |cons k ks=>simp
 have hle:=u4 ks key
 have up:∀t,cr ks key≤t→t<ks.length→ks.getD t ByteArray.empty≠key→slt key (ks.getD t ByteArray.empty)=true:=fun t h1 h2 h3=>uQ (aiQ hs h1 h2) h3
 by_cases hk:jj ks key=true
 ·obtain⟨h1,h2⟩:=jx.1 hk
  rw[if_pos hk]
  refine⟨cr ks key,by unfold imax;split<;>omega,h1,.inr (by rw[h2];exact dJ key),fun t ht htl=> ?_⟩
  rw[←h2]
  have:=hs (cr ks key) t ht htl
  rw[h2]at this ⊢
  exact this
 ·rw[if_neg hk]
  have cu:∀t,cr ks key≤t→t<ks.length→ks.getD t ByteArray.empty≠key:=by
   intro t h1 h2 h3
   by_cases he:t=cr ks key
   ·subst he;exact hk (jx.2 ⟨h2,h3⟩)
   ·have h4:=hs (cr ks key) t (by omega) h2
    rw[h3]at h4
    rw[adk (by omega)]at h4
    cases h4
  rcases Nat.eq_zero_or_pos (cr ks key)with hz|hz
  ·refine⟨0,by rw[hz];rfl,hlen,.inl rfl,fun t ht htl=>up t (by omega) htl (cu t (by omega) htl)⟩
  ·refine⟨cr ks key - 1,by unfold imax;split<;>omega,by omega,.inr (rq (adj (by omega))),fun t ht htl=>up t (by omega) htl (cu t (by omega) htl)⟩
end Lf
namespace Lf
open Go Go.Sx Go.Proofs
def arK(a b:List En):Bool:=decide (a=b)
def arL(a b:List Br):Bool:=decide (a=b)
def j9(k:Int)(s:ByteArray):ByteArray:=if k>(s.size:Int)then ByteArray.empty else s.extract 0 k.toNat
def so(k:Int)(s:ByteArray):Bool:= !decide (k>(s.size:Int))
def ov(k:Int)(s:ByteArray):ByteArray:=if k>(s.size:Int)then s else s.extract k.toNat s.size
def vg:Spec (Int×ByteArray):=⟨fun x=>[.s (.int .i64 x.1),.ptr 0 0],fun x=>[.own [.s (.str x.2)] 9],fun x=>[0≤x.1],fun x=>[.own [.s (.str (ov x.1 x.2))] 9],fun x=>.bp [.s (.str (j9 x.1 x.2)),.s (.bool (so x.1 x.2))]⟩
def aeQ:List AV→RM ((Int×ByteArray)×List Nat)
 |[.s (.int .i64 k),.ptr id 0]=>.look id fun
  |some (.own [.s (.str s)] _)=>.ret ((k,s),[id])
  |_=>.fail "take: no text"
 |[.s (.aW .i64 k),.ptr id 0]=>.look id fun
  |some (.own [.s (.str s)] _)=>.ret ((k,s),[id])
  |_=>.fail "take: no text"
 |_=>.fail "take"
theorem aiR(k:Int)(s:ByteArray):run P jv.sum Tryd.f74 [] (start Tryd.f74 [.s (.int .i64 k),.ptr 0 0] [.own [.s (.str s)] 9])=
 Tree.ite (decide (k>(↑s.size:Int))) (.ret [.own [.s (.str s)] 9] (.bp [.s (.str ByteArray.empty),.s (.aJ false)])) (.need ((0:Int)≤0) (.need ((0:Int)≤k) (.need (k≤(↑s.size:Int)) (.need ((0:Int)≤k) (.need (k≤(↑s.size:Int)) (.need ((↑s.size:Int)≤(↑s.size:Int)) (.ret [.own [.s (.str (s.extract k.toNat (↑s.size:Int).toNat))] 9] (.bp [.s (.str (s.extract (Int.toNat 0) k.toNat)),.s (.aJ true)])))))))):=by kernel_rfl
def rdK(s:ByteArray):Int:=aV (j9 1 s) 0
def xL(s:ByteArray):ByteArray:=if so 1 s=true then j9 (rdK s) (ov 1 s)else ByteArray.empty
def wD(s:ByteArray):Bool:=so 1 s&&so (rdK s) (ov 1 s)
def gT(s:ByteArray):ByteArray:=if so 1 s=true then ov (rdK s) (ov 1 s)else ov 1 s
def abc:Spec ByteArray:=⟨fun _=>[.ptr 0 0],fun s=>[.own [.fn 74 [.ptr 1 0]] 122,.own [.s (.str s)] 9],fun _=>[],fun s=>[.own [.fn 74 [.ptr 1 0]] 122,.own [.s (.str (gT s))] 9],fun s=>.bp [.s (.str (xL s)),.s (.bool (wD s))]⟩
def anH:List AV→RM (ByteArray×List Nat)
 |[.ptr id 0]=>.look id fun
  |some (.own [.fn _ [.ptr j 0]] _)=>.look j fun
   |some (.own [.s (.str s)] _)=>.ret (s,[id,j])
   |_=>.fail "text: no text"
  |_=>.fail "text: no take"
 |_=>.fail "text"
def aeR:aH:=[(74,dI vg aeQ)]
theorem aiS(s:ByteArray):run P aeR.sum Tryd.f75 [] (start Tryd.f75 [.ptr 0 0] [.own [.fn 74 [.ptr 1 0]] 122,.own [.s (.str s)] 9])=
 Tree.need (bJ (some [AV.s (.int .i64 1),.ptr 0 0])) (.need (bJ (some [ae.own [.s (.str s)] 9])) (.need ((0:Int)≤1) (.ite (!so 1 s) (.ret [.own [.fn 74 [.ptr 1 0]] 122,.own [.s (.str (ov 1 s))] 9] (.bp [.s (.str ByteArray.empty),.s (.aJ false)])) (.need ((0:Int)≤0) (.need ((0:Int)<(↑(j9 1 s).size:Int)) (.need (aD (aV (j9 1 s) (Int.toNat 0))) (.need (bJ (some [AV.s (.int .i64 (aV (j9 1 s) (Int.toNat 0))),.ptr 0 0])) (.need (bJ (some [ae.own [.s (.str (ov 1 s))] 9])) (.need ((0:Int)≤aV (j9 1 s) (Int.toNat 0)) (.ret [.own [.fn 74 [.ptr 1 0]] 122,.own [.s (.str (ov (aV (j9 1 s) (Int.toNat 0)) (ov 1 s)))] 9] (.bp [.s (.str (j9 (aV (j9 1 s) (Int.toNat 0)) (ov 1 s))),.s (.bool (so (aV (j9 1 s) (Int.toNat 0)) (ov 1 s)))]))))))))))):=by kernel_rfl
def vj:aH:=[(74,dI vg aeQ),(75,dI abc anH),(76,apq)]
def aeS:List (Nat×Norm):=[(7,⟨[],[1,2],0,[]⟩),(11,⟨[],[1,2,4,5,6],0,[(2,1,false,.ad cE [],eE),(2,2,false,.ad cB [],eB)]⟩),(22,⟨[],[1,2,4,5,6,8],0,[]⟩)]
def obZ:ae:=.own [.s (.bool false),.emp,.emp] 73
noncomputable def anI(s:ByteArray):bB:=⟨sl 93 [(1,.ptr 0 0),(2,.ptr 1 0)],[.own [.s (.str s)] 9,obZ],hr Tryd.f57 7,{}⟩
noncomputable def arM(s:ByteArray)(l:Bool)(es:List En)(bs:List Br):bB:=⟨sl 93 [(1,.ptr 0 0),(2,.ptr 1 0),(4,.ptr 2 0),(5,.ptr 3 0),(6,.fn 75 [.ptr 3 0])],[.own [.s (.str s)] 9,obZ,.own [.s (.bool l),.vec 4,.vec 5] 73,.own [.fn 74 [.ptr 0 0]] 122,.vec (.ad cE es) eE,.vec (.ad cB bs) eB],hd Tryd.f57 11,{}⟩
noncomputable def aiT(s:ByteArray)(l:Bool)(es:List En)(bs:List Br)(is:Bool):bB:=⟨sl 93 [(1,.ptr 0 0),(2,.ptr 1 0),(4,.ptr 2 0),(5,.ptr 3 0),(6,.fn 75 [.ptr 3 0]),(8,.s (.bool is))],[.own [.s (.str s)] 9,obZ,.own [.s (.bool l),.vec 4,.vec 5] 73,.own [.fn 74 [.ptr 0 0]] 122,.vec (.ad cE es) eE,.vec (.ad cB bs) eB],hr Tryd.f57 22,{}⟩
theorem alq(s:ByteArray):run P vj.sum Tryd.f57 aeS (start Tryd.f57 [.s (.str s)] [])=
 Tree.ite (decide ((↑s.size:Int)>254)) (.ret [.own [.s (.str s)] 9,.own [.s (.aJ false),.emp,.emp] 73] (.bp [.agg [.s (.aJ false),.emp,.emp],.s (.aW .i64 40)])) (.ite (decide (s=ByteArray.empty)) (.ret [.own [.s (.str s)] 9,.own [.s (.aJ false),.emp,.emp] 73] (.bp [.agg [.s (.aJ false),.emp,.emp],.s (.aW .i64 8)])) (.need ((0:Int)≤0) (.need ((0:Int)<(↑s.size:Int)) (.ite (aV s (Int.toNat 0) !=1) (.need ((0:Int)≤0) (.need ((0:Int)<(↑s.size:Int)) (.ite (aV s (Int.toNat 0) !=2) (.ret [.own [.s (.str s)] 9,.own [.s (.aJ false),.emp,.emp] 73] (.bp [.agg [.s (.aJ false),.emp,.emp],.s (.aW .i64 4)])) (.at (.mk (sl 93 [(1,.ptr 0 0),(2,.ptr 1 0)]) [.own [.s (.str s)] 9,.own [.s (.bool false),.emp,.emp] 73] (hr Tryd.f57 7) (.mk none false 0 [] 0)))))) (.at (.mk (sl 93 [(1,.ptr 0 0),(2,.ptr 1 0)]) [.own [.s (.str s)] 9,.own [.s (.bool false),.emp,.emp] 73] (hr Tryd.f57 7) (.mk none false 0 [] 0))))))):=by kernel_rfl
theorem aiU(s:ByteArray):run P vj.sum Tryd.f57 aeS (anI s)=
 Tree.need ((0:Int)≤0) (.need ((0:Int)<(↑s.size:Int)) (.need ((0:Int)≤1) (.need ((1:Int)≤(↑s.size:Int)) (.need ((↑s.size:Int)≤(↑s.size:Int)) (.at (.mk (sl 93 [(1,.ptr 0 0),(2,.ptr 1 0),(4,.ptr 2 0),(5,.ptr 3 0),(6,.fn 75 [.ptr 3 0])]) [.own [.s (.str (s.extract (Int.toNat 1) (↑s.size:Int).toNat))] 9,.own [.s (.bool false),.emp,.emp] 73,.own [.s (.bool (aV s (Int.toNat 0)==1)),.vec 4,.vec 5] 73,.own [.fn 74 [.ptr 0 0]] 122,.vec (.ad [.str,.str] []) 34,.vec (.ad [.str,.int .i64] []) 79] (hd Tryd.f57 11) (.mk none false 0 [] 0))))))):=by kernel_rfl
theorem aeT(s:ByteArray)(l:Bool)(es:List En)(bs:List Br):run P vj.sum Tryd.f57 aeS (arM s l es bs)=
 Tree.ite (!decide (s=ByteArray.empty))
 (Tree.need (bJ (some [AV.ptr (0:Nat) (0:Nat)]))
   (Tree.need (bJ (some [ae.own [AV.fn (74:Nat) [AV.ptr (1:Nat) (0:Nat)]] (122:Nat),ae.own [AV.s (SV.str s)] (9:Nat)]))
     (Tree.ite l
       (Tree.ite (wD s) (Tree.need (bJ (some [AV.ptr (0:Nat) (0:Nat)])) (Tree.need (bJ (some [ae.own [AV.fn (74:Nat) [AV.ptr (1:Nat) (0:Nat)]] (122:Nat),ae.own [AV.s (SV.str (gT s))] (9:Nat)])) (Tree.need ((es.length+(1:Nat))*(32:Nat)≤(140737488355328:Nat)) (Tree.at (bB.mk (sl (93:Nat) [((1:Nat),AV.ptr (0:Nat) (0:Nat)),((2:Nat),AV.ptr (1:Nat) (0:Nat)),((4:Nat),AV.ptr (2:Nat) (0:Nat)),((5:Nat),AV.ptr (3:Nat) (0:Nat)),((6:Nat),AV.fn (75:Nat) [AV.ptr (3:Nat) (0:Nat)]),((8:Nat),AV.s (SV.bool (wD (gT s))))]) [ae.own [AV.s (SV.str (gT (gT s)))] (9:Nat),ae.own [AV.s (SV.bool false),AV.emp,AV.emp] (73:Nat),ae.own [AV.s (SV.bool l),AV.vec (4:Nat),AV.vec (5:Nat)] (73:Nat),ae.own [AV.fn (74:Nat) [AV.ptr (0:Nat) (0:Nat)]] (122:Nat),ae.vec (aF.ad [CK.str,CK.str] (es++[(xL s,xL (gT s),())])) (34:Nat),ae.vec (aF.ad [CK.str,CK.int IntKind.i64] bs) (79:Nat)] (hr Tryd.f57 (22:Nat)) (nI.mk none false (0:Nat) [] (0:Nat)))))))
         (Tree.ite (wD s) (Tree.need (bJ (some [AV.s (SV.int IntKind.i64 (2:Int)),AV.ptr (0:Nat) (0:Nat)])) (Tree.need (bJ (some [ae.own [AV.s (SV.str (gT s))] (9:Nat)])) (Tree.need ((0:Int)≤(2:Int)) (Tree.ite (so (2:Int) (gT s)) (Tree.need ((0:Int)≤(0:Int)) (Tree.need ((0:Int)<(↑(j9 (2:Int) (gT s)).size:Int)) (Tree.need (aD (aV (j9 (2:Int) (gT s)) (Int.toNat (0:Int)))) (Tree.need ((0:Int)≤(8:Int)) (Tree.need ((0:Int)≤(1:Int)) (Tree.need ((1:Int)<(↑(j9 (2:Int) (gT s)).size:Int)) (Tree.need (aD (aV (j9 (2:Int) (gT s)) (Int.toNat (1:Int)))) (Tree.need ((bs.length+(1:Nat))*(24:Nat)≤(140737488355328:Nat)) (Tree.at (bB.mk (sl (93:Nat) [((1:Nat),AV.ptr (0:Nat) (0:Nat)),((2:Nat),AV.ptr (1:Nat) (0:Nat)),((4:Nat),AV.ptr (2:Nat) (0:Nat)),((5:Nat),AV.ptr (3:Nat) (0:Nat)),((6:Nat),AV.fn (75:Nat) [AV.ptr (3:Nat) (0:Nat)]),((8:Nat),AV.s (SV.bool (so (2:Int) (gT s))))]) [ae.own [AV.s (SV.str (ov (2:Int) (gT s)))] (9:Nat),ae.own [AV.s (SV.bool false),AV.emp,AV.emp] (73:Nat),ae.own [AV.s (SV.bool l),AV.vec (4:Nat),AV.vec (5:Nat)] (73:Nat),ae.own [AV.fn (74:Nat) [AV.ptr (0:Nat) (0:Nat)]] (122:Nat),ae.vec (aF.ad [CK.str,CK.str] es) (34:Nat),ae.vec (aF.ad [CK.str,CK.int IntKind.i64] (bs++[(xL s,bA BinOp.or IntKind.i64 (IntKind.i64.wrap (aV (j9 (2:Int) (gT s)) (Int.toNat (0:Int))*(2:Int)^min (Int.toNat (8:Int)) IntKind.i64.bits)) (aV (j9 (2:Int) (gT s)) (Int.toNat (1:Int))),())])) (79:Nat)] (hr Tryd.f57 (22:Nat)) (nI.mk none false (0:Nat) [] (0:Nat)))))))))))) (Tree.at (bB.mk (sl (93:Nat) [((1:Nat),AV.ptr (0:Nat) (0:Nat)),((2:Nat),AV.ptr (1:Nat) (0:Nat)),((4:Nat),AV.ptr (2:Nat) (0:Nat)),((5:Nat),AV.ptr (3:Nat) (0:Nat)),((6:Nat),AV.fn (75:Nat) [AV.ptr (3:Nat) (0:Nat)]),((8:Nat),AV.s (SV.bool (so (2:Int) (gT s))))]) [ae.own [AV.s (SV.str (ov (2:Int) (gT s)))] (9:Nat),ae.own [AV.s (SV.bool false),AV.emp,AV.emp] (73:Nat),ae.own [AV.s (SV.bool l),AV.vec (4:Nat),AV.vec (5:Nat)] (73:Nat),ae.own [AV.fn (74:Nat) [AV.ptr (0:Nat) (0:Nat)]] (122:Nat),ae.vec (aF.ad [CK.str,CK.str] es) (34:Nat),ae.vec (aF.ad [CK.str,CK.int IntKind.i64] bs) (79:Nat)] (hr Tryd.f57 (22:Nat)) (nI.mk none false (0:Nat) [] (0:Nat)))))))) (Tree.at (bB.mk (sl (93:Nat) [((1:Nat),AV.ptr (0:Nat) (0:Nat)),((2:Nat),AV.ptr (1:Nat) (0:Nat)),((4:Nat),AV.ptr (2:Nat) (0:Nat)),((5:Nat),AV.ptr (3:Nat) (0:Nat)),((6:Nat),AV.fn (75:Nat) [AV.ptr (3:Nat) (0:Nat)]),((8:Nat),AV.s (SV.bool (wD s)))]) [ae.own [AV.s (SV.str (gT s))] (9:Nat),ae.own [AV.s (SV.bool false),AV.emp,AV.emp] (73:Nat),ae.own [AV.s (SV.bool l),AV.vec (4:Nat),AV.vec (5:Nat)] (73:Nat),ae.own [AV.fn (74:Nat) [AV.ptr (0:Nat) (0:Nat)]] (122:Nat),ae.vec (aF.ad [CK.str,CK.str] es) (34:Nat),ae.vec (aF.ad [CK.str,CK.int IntKind.i64] bs) (79:Nat)] (hr Tryd.f57 (22:Nat)) (nI.mk none false (0:Nat) [] (0:Nat))))))
       (Tree.ite (wD s) (Tree.need (bJ (some [AV.s (SV.int IntKind.i64 (2:Int)),AV.ptr (0:Nat) (0:Nat)])) (Tree.need (bJ (some [ae.own [AV.s (SV.str (gT s))] (9:Nat)])) (Tree.need ((0:Int)≤(2:Int)) (Tree.ite (so (2:Int) (gT s)) (Tree.need ((0:Int)≤(0:Int)) (Tree.need ((0:Int)<(↑(j9 (2:Int) (gT s)).size:Int)) (Tree.need (aD (aV (j9 (2:Int) (gT s)) (Int.toNat (0:Int)))) (Tree.need ((0:Int)≤(8:Int)) (Tree.need ((0:Int)≤(1:Int)) (Tree.need ((1:Int)<(↑(j9 (2:Int) (gT s)).size:Int)) (Tree.need (aD (aV (j9 (2:Int) (gT s)) (Int.toNat (1:Int)))) (Tree.need ((bs.length+(1:Nat))*(24:Nat)≤(140737488355328:Nat)) (Tree.at (bB.mk (sl (93:Nat) [((1:Nat),AV.ptr (0:Nat) (0:Nat)),((2:Nat),AV.ptr (1:Nat) (0:Nat)),((4:Nat),AV.ptr (2:Nat) (0:Nat)),((5:Nat),AV.ptr (3:Nat) (0:Nat)),((6:Nat),AV.fn (75:Nat) [AV.ptr (3:Nat) (0:Nat)]),((8:Nat),AV.s (SV.bool (so (2:Int) (gT s))))]) [ae.own [AV.s (SV.str (ov (2:Int) (gT s)))] (9:Nat),ae.own [AV.s (SV.bool false),AV.emp,AV.emp] (73:Nat),ae.own [AV.s (SV.bool l),AV.vec (4:Nat),AV.vec (5:Nat)] (73:Nat),ae.own [AV.fn (74:Nat) [AV.ptr (0:Nat) (0:Nat)]] (122:Nat),ae.vec (aF.ad [CK.str,CK.str] es) (34:Nat),ae.vec (aF.ad [CK.str,CK.int IntKind.i64] (bs++[(xL s,bA BinOp.or IntKind.i64 (IntKind.i64.wrap (aV (j9 (2:Int) (gT s)) (Int.toNat (0:Int))*(2:Int)^min (Int.toNat (8:Int)) IntKind.i64.bits)) (aV (j9 (2:Int) (gT s)) (Int.toNat (1:Int))),())])) (79:Nat)] (hr Tryd.f57 (22:Nat)) (nI.mk none false (0:Nat) [] (0:Nat)))))))))))) (Tree.at (bB.mk (sl (93:Nat) [((1:Nat),AV.ptr (0:Nat) (0:Nat)),((2:Nat),AV.ptr (1:Nat) (0:Nat)),((4:Nat),AV.ptr (2:Nat) (0:Nat)),((5:Nat),AV.ptr (3:Nat) (0:Nat)),((6:Nat),AV.fn (75:Nat) [AV.ptr (3:Nat) (0:Nat)]),((8:Nat),AV.s (SV.bool (so (2:Int) (gT s))))]) [ae.own [AV.s (SV.str (ov (2:Int) (gT s)))] (9:Nat),ae.own [AV.s (SV.bool false),AV.emp,AV.emp] (73:Nat),ae.own [AV.s (SV.bool l),AV.vec (4:Nat),AV.vec (5:Nat)] (73:Nat),ae.own [AV.fn (74:Nat) [AV.ptr (0:Nat) (0:Nat)]] (122:Nat),ae.vec (aF.ad [CK.str,CK.str] es) (34:Nat),ae.vec (aF.ad [CK.str,CK.int IntKind.i64] bs) (79:Nat)] (hr Tryd.f57 (22:Nat)) (nI.mk none false (0:Nat) [] (0:Nat)))))))) (Tree.at (bB.mk (sl (93:Nat) [((1:Nat),AV.ptr (0:Nat) (0:Nat)),((2:Nat),AV.ptr (1:Nat) (0:Nat)),((4:Nat),AV.ptr (2:Nat) (0:Nat)),((5:Nat),AV.ptr (3:Nat) (0:Nat)),((6:Nat),AV.fn (75:Nat) [AV.ptr (3:Nat) (0:Nat)]),((8:Nat),AV.s (SV.bool (wD s)))]) [ae.own [AV.s (SV.str (gT s))] (9:Nat),ae.own [AV.s (SV.bool false),AV.emp,AV.emp] (73:Nat),ae.own [AV.s (SV.bool l),AV.vec (4:Nat),AV.vec (5:Nat)] (73:Nat),ae.own [AV.fn (74:Nat) [AV.ptr (0:Nat) (0:Nat)]] (122:Nat),ae.vec (aF.ad [CK.str,CK.str] es) (34:Nat),ae.vec (aF.ad [CK.str,CK.int IntKind.i64] bs) (79:Nat)] (hr Tryd.f57 (22:Nat)) (nI.mk none false (0:Nat) [] (0:Nat))))))))
 (Tree.ite (!c9 l es bs) (Tree.ret [ae.own [AV.s (SV.str s)] (9:Nat),ae.own [AV.s (SV.aJ false),AV.emp,AV.emp] (73:Nat),ae.own [AV.s (SV.bool l),AV.vec (4:Nat),AV.vec (5:Nat)] (73:Nat),ae.own [AV.fn (74:Nat) [AV.ptr (0:Nat) (0:Nat)]] (122:Nat),ae.vec (aF.ad [CK.str,CK.str] es) (34:Nat),ae.vec (aF.ad [CK.str,CK.int IntKind.i64] bs) (79:Nat)] (AV.bp [AV.agg [AV.s (SV.aJ false),AV.emp,AV.emp],AV.s (SV.aW IntKind.i64 (4:Int))])) (Tree.ret [ae.own [AV.s (SV.str s)] (9:Nat),ae.own [AV.s (SV.bool l),AV.vec (4:Nat),AV.vec (5:Nat)] (73:Nat),ae.own [AV.s (SV.bool l),AV.vec (4:Nat),AV.vec (5:Nat)] (73:Nat),ae.own [AV.fn (74:Nat) [AV.ptr (0:Nat) (0:Nat)]] (122:Nat),ae.vec (aF.ad [CK.str,CK.str] es) (34:Nat),ae.vec (aF.ad [CK.str,CK.int IntKind.i64] bs) (79:Nat)] (AV.bp [AV.agg [AV.s (SV.bool l),AV.vec (4:Nat),AV.vec (5:Nat)],AV.s (SV.aW IntKind.i64 (0:Int))]))):=by kernel_rfl
theorem abd(s:ByteArray)(l:Bool)(es:List En)(bs:List Br)(is:Bool):run P vj.sum Tryd.f57 aeS (aiT s l es bs is)=
 Tree.ite (!is) (.ret [.own [.s (.str s)] 9,.own [.s (.aJ false),.emp,.emp] 73,.own [.s (.bool l),.vec 4,.vec 5] 73,.own [.fn 74 [.ptr 0 0]] 122,.vec (.ad [.str,.str] es) 34,.vec (.ad [.str,.int .i64] bs) 79] (.bp [.agg [.s (.aJ false),.emp,.emp],.s (.aW .i64 8)])) (.at (.mk (sl 93 [(1,.ptr 0 0),(2,.ptr 1 0),(4,.ptr 2 0),(5,.ptr 3 0),(6,.fn 75 [.ptr 3 0])]) [.own [.s (.str s)] 9,.own [.s (.bool false),.emp,.emp] 73,.own [.s (.bool l),.vec 4,.vec 5] 73,.own [.fn 74 [.ptr 0 0]] 122,.vec (.ad [.str,.str] es) 34,.vec (.ad [.str,.int .i64] bs) 79] (hd Tryd.f57 11) (.mk none false 0 [] 0))):=by kernel_rfl
def aiV(l:Bool)(es:List En)(bs:List Br)(l':Bool)(kY:List En)(ow:List Br):Bool:=(l==l')&&(arK es kY&&arL bs ow)
theorem dw(s:ByteArray)(i j:Nat):(s.extract i j).size=min j s.size - i:=by simp
theorem gG(s:ByteArray)(i:Nat):0≤aV s i∧aV s i≤255:=by
 have:=(s.data.toList.getD i 0).toNat_lt
 unfold aV
 omega
theorem te{k:Int}{s:ByteArray}:so k s=true↔k≤(s.size:Int):=by simp[so]
theorem vk{k:Int}{s:ByteArray}(h0:0≤k)(h:so k s=true):((j9 k s).size:Int)=k:=by
 have h:=te.1 h
 rw[j9,if_neg (by omega),dw]
 omega
theorem abe{k:Int}{s:ByteArray}(h0:0≤k)(h:so k s=true):((ov k s).size:Int)=s.size - k:=by
 have h:=te.1 h
 rw[ov,if_neg (by omega),dw]
 omega
theorem adl(k:Int)(s:ByteArray):(ov k s).size≤s.size:=by
 unfold ov
 split
 ·exact Nat.le_refl _
 ·rw[dw];omega
theorem aeU{Z:aX}:jU P Z 74 vg:=by
 refine aO Tryd.func74 (by kernel_rfl) (fun x=>Nat.le_of_ble_eq_true (by kernel_rfl)) ?_
 rintro⟨(k:Int),(s:ByteArray)⟩ ⟨(h1:0≤k),_⟩ X hX hz
 refine eV hz hX (by simp) aH.Ok.nil Tryd.func74 (aiR k s) ⟨fun h=>⟨⟨[],[0],1,[]⟩,Nat.le_refl _, ?_⟩,fun h=> ?_⟩
 ·show Norm.run _ _=some ⟨[.bp [.s (.str (j9 k s)),.s (.bool (so k s))]],[.own [.s (.str (ov k s))] 9],[],{}⟩
  rw[j9,ov,so,if_pos (of_decide_eq_true h),if_pos (of_decide_eq_true h),h]
  kernel_rfl
 ·have h2:=of_decide_eq_false h
  refine⟨by omega,h1,by omega,h1,by omega,by omega,⟨[],[0],1,[]⟩,Nat.le_refl _, ?_⟩
  show Norm.run _ _=some ⟨[.bp [.s (.str (j9 k s)),.s (.bool (so k s))]],[.own [.s (.str (ov k s))] 9],[],{}⟩
  rw[j9,ov,so,if_neg h2,if_neg h2,h]
  kernel_rfl
theorem adm{Z:aX}:aeR.Ok P Z:=aH.Ok.cons (aeU.sum aeQ) aH.Ok.nil
theorem alr{Z:aX}:jU P Z 75 abc:=by
 refine aO Tryd.func75 (by kernel_rfl) (fun x=>Nat.le_of_ble_eq_true (by kernel_rfl)) ?_
 rintro(s:ByteArray) _ X hX hz
 refine eV hz hX (by simp) adm Tryd.func75 (aiS s) ⟨rfl,rfl,by decide,fun h=>⟨⟨[],[0],2,[]⟩,Nat.le_refl _, ?_⟩,fun h=> ?_⟩
 ·have h:so 1 s=false:=by simpa using h
  show Norm.run _ _=some ⟨[.bp [.s (.str (xL s)),.s (.bool (wD s))]],[.own [.fn 74 [.ptr 1 0]] 122,.own [.s (.str (gT s))] 9],[],{}⟩
  rw[xL,gT,wD,h]
  kernel_rfl
 ·have h:so 1 s=true:=by simpa using h
  have h1:=vk (by omega) h
  have h2:=gG (j9 1 s) 0
  refine⟨by decide,by omega,⟨by show _≤aV (j9 1 s) 0;omega,by show aV (j9 1 s) 0≤_;omega⟩,rfl,rfl,h2.1,⟨[],[0],2,[]⟩,Nat.le_refl _, ?_⟩
  show Norm.run _ _=some ⟨[.bp [.s (.str (xL s)),.s (.bool (wD s))]],[.own [.fn 74 [.ptr 1 0]] 122,.own [.s (.str (gT s))] 9],[],{}⟩
  rw[xL,gT,wD,h]
  kernel_rfl
theorem jC{Z:aX}:vj.Ok P Z:=aH.Ok.cons (aeU.sum aeQ) (aH.Ok.cons (alr.sum anH) (aH.Ok.cons ade.sum aH.Ok.nil))
theorem jV{s:ByteArray}(h:wD s=true):(gT s).size+1≤s.size:=by
 simp only[wD,Bool.and_eq_true]at h
 have h1:=abe (by omega) h.1
 have h2:=adl (rdK s) (ov 1 s)
 rw[gT,if_pos h.1]
 omega
def aiW(t:ByteArray):Int:=bA BinOp.or IntKind.i64 (IntKind.i64.wrap (aV t (Int.toNat 0)*2^min (Int.toNat 8) IntKind.i64.bits)) (aV t (Int.toNat 1))
def ic(l:Bool):Nat→ByteArray→List En→List Br→Int×List En×List Br
 |0,_,es,bs=>if c9 l es bs=true then(0,es,bs)else(4,[],[])
 |n+1,s,es,bs=>
  if s=ByteArray.empty then(if c9 l es bs=true then(0,es,bs)else(4,[],[]))
  else if wD s=false then(8,[],[])
  else if l=true then(if wD (gT s)=true then ic l n (gT (gT s)) (es++[(xL s,xL (gT s),())]) bs else(8,[],[]))
  else(if so 2 (gT s)=true then ic l n (ov 2 (gT s)) es (bs++[(xL s,aiW (j9 2 (gT s)),())])else(8,[],[]))
def oa(s:ByteArray):Int×List En×List Br:=
 if(s.size:Int)>254 then(40,[],[])else if s=ByteArray.empty then(8,[],[])else if aV s 0≠1∧aV s 0≠2 then(4,[],[])
 else ic (aV s 0==1) s.size (s.extract 1 s.size) [] []
def ry(s:ByteArray):Int:=(oa s).1
def nk(s:ByteArray):List En:=(oa s).2.1
def mr(s:ByteArray):List Br:=(oa s).2.2
def jk(s:ByteArray):Bool:=decide (ry s=0)&&(aV s 0==1)
end Lf
namespace Lf
open Go Go.Sx Go.Proofs
abbrev U(s:ByteArray):List UInt8:=s.data.toList
theorem mh(s:ByteArray):(U s).length=s.size:=Array.length_toList
theorem jD(s:ByteArray)(i j:Nat):U (s.extract i j)=((U s).drop i).take (j - i):=by
 rw[U,ByteArray.data_extract,Array.toList_extract,List.extract_eq_take_drop]
theorem zl:U ByteArray.empty=[]:=rfl
theorem anJ{s:ByteArray}(h:U s=[]):s=ByteArray.empty:=rp h
theorem zm{s:ByteArray}{a b:List UInt8}{k:Int}(h:U s=a++b)(hk:(a.length:Int)=k):so k s=true∧U (j9 k s)=a∧U (ov k s)=b:=by
 have hl:=mh s
 rw[h,List.length_append]at hl
 refine⟨te.2 (by omega), ?_, ?_⟩
 ·rw[j9,if_neg (by omega),jD,h,show k.toNat - 0=a.length from by omega];simp
 ·rw[ov,if_neg (by omega),jD,h,show k.toNat=a.length from by omega,List.drop_left,List.take_of_length_le (by omega)]
theorem zn{s:ByteArray}{k:Int}(h0:0≤k)(h:so k s=true):U s=U (j9 k s)++U (ov k s)∧((U (j9 k s)).length:Int)=k:=by
 have hk:=te.1 h
 have hl:=mh s
 refine⟨?_,by rw[mh];exact vk h0 h⟩
 rw[j9,ov,if_neg (by omega),if_neg (by omega),jD,jD,List.drop_zero,Nat.sub_zero,List.take_of_length_le (l:=(U s).drop _) (by simp[hl]),List.take_append_drop]
def nm(s:ByteArray):List UInt8:=UInt8.ofNat s.size::U s
theorem iM{s:ByteArray}{a:UInt8}{r:List UInt8}(h:U s=a::r):aV s 0=(a.toNat:Int):=by
 simp[aV,show s.data.toList=a::r from h]
theorem zo{s:ByteArray}{a b:UInt8}{r:List UInt8}(h:U s=a::b::r):aV s 1=(b.toNat:Int):=by
 simp[aV,show s.data.toList=a::b::r from h]
theorem zp{s k:ByteArray}{r:List UInt8}(h:U s=nm k++r)(hk:k.size≤255):wD s=true∧xL s=k∧U (gT s)=r:=by
 obtain⟨h1,h2,h3⟩:=zm (s:=s) (a:=[UInt8.ofNat k.size]) (b:=U k++r) (k:=1) (by rw[h];rfl) rfl
 have e:rdK s=(k.size:Int):=by rw[rdK,iM h2];simp;omega
 obtain⟨g1,g2,g3⟩:=zm (s:=ov 1 s) (k:=rdK s) h3 (by rw[mh,e])
 refine⟨by simp[wD,h1,g1], ?_, ?_⟩
 ·rw[xL,if_pos h1];exact rp g2
 ·rw[gT,if_pos h1];exact g3
theorem aeV{s:ByteArray}(h:wD s=true):U s=nm (xL s)++U (gT s)∧(xL s).size≤255:=by
 simp only[wD,Bool.and_eq_true]at h
 obtain⟨h1,h2⟩:=h
 obtain⟨g1,g2⟩:=zn (by decide) h1
 have hr:=gG (j9 1 s) 0
 obtain⟨g3,g4⟩:=zn (k:=rdK s) hr.1 h2
 have g2:(U (j9 1 s)).length=1:=by omega
 obtain⟨a,ha⟩:=List.length_eq_one_iff.1 g2
 have e:rdK s=(a.toNat:Int):=iM ha
 rw[xL,gT,if_pos h1,if_pos h1]
 have hs:(j9 (rdK s) (ov 1 s)).size=a.toNat:=by rw[←mh];omega
 refine⟨?_,by rw[hs];have:=a.toNat_lt;omega⟩
 rw[g1,ha,g3,nm,hs]
 simp
def gZ(x:En):List UInt8:=nm x.1++nm x.2.1
def hC(x:Br):List UInt8:=nm x.1++[UInt8.ofNat (x.2.1 / 256).toNat,UInt8.ofNat (x.2.1%256).toNat]
theorem uV{a b:Int}(ha:0≤a∧a≤255)(hb:0≤b∧b≤255):bA BinOp.or IntKind.i64 (IntKind.i64.wrap (a*2^min (Int.toNat 8) IntKind.i64.bits)) b=a*256+b:=by
 have e1:IntKind.i64.wrap (a*2^min (Int.toNat 8) IntKind.i64.bits)=a*256:=by
  rw[show(2:Int)^min (Int.toNat 8) IntKind.i64.bits=256 from by decide]
  exact bV ⟨by omega,by omega⟩
 rw[e1]
 obtain⟨x,rfl⟩:=Int.eq_ofNat_of_zero_le ha.1
 obtain⟨y,rfl⟩:=Int.eq_ofNat_of_zero_le hb.1
 show IntKind.i64.wrap ((BitVec.ofInt 64 _ ||| BitVec.ofInt 64 _).toNat:Int)=_
 have e2:(BitVec.ofInt 64 ((x:Int)*256)).toNat=2^8*x:=by rw[BitVec.toNat_ofInt];omega
 have e3:(BitVec.ofInt 64 (y:Int)).toNat=y:=by rw[BitVec.toNat_ofInt];omega
 rw[BitVec.toNat_or,e2,e3,←Nat.two_pow_add_eq_or_of_lt (by omega),bV ⟨by omega,by omega⟩]
 omega
theorem anK{t:ByteArray}{a b:UInt8}(h:U t=[a,b]):aiW t=(a.toNat:Int)*256+b.toNat:=by
 have h1:=a.toNat_lt
 have h2:=b.toNat_lt
 have e0:=iM h
 have e1:=zo h
 rw[aiW,show aV t (Int.toNat 0)=_ from e0,show aV t (Int.toNat 1)=_ from e1]
 exact uV ⟨by omega,by omega⟩ ⟨by omega,by omega⟩
theorem abf{l:Bool}{n:Nat}{s:ByteArray}{es:List En}{bs:List Br}(h:U s=[]):ic l n s es bs=if c9 l es bs=true then(0,es,bs)else(4,[],[]):=by
 cases n with
 |zero=>rfl
 |succ n=>rw[ic,if_pos (anJ h)]
theorem abg:∀(n:Nat) (xM:List En) (s:ByteArray) (es:List En) (bs:List Br),s.size≤n→U s=xM.flatMap gZ→(∀x∈xM,x.1.size≤255∧x.2.1.size≤255)→ic true n s es bs=if c9 true (es++xM) bs=true then(0,es++xM,bs)else(4,[],[])
 |n,[],s,es,bs,_,hu,_=>by rw[abf hu,List.append_nil]
 |0,x::xM,s,es,bs,hn,hu,_=>by
  have:=mh s
  rw[hu]at this
  simp[gZ,nm]at this
  omega
 |n+1,x::xM,s,es,bs,hn,hu,hx=>by
  obtain⟨k,v,⟨⟩⟩:=x
  have hx0:=hx (k,v,()) (by simp)
  have h0:s≠ByteArray.empty:=fun e=>by subst e;simp[zl,gZ,nm]at hu
  obtain⟨a1,a2,a3⟩:=zp (s:=s) (k:=k) (r:=nm v++xM.flatMap gZ) (by rw[hu];simp[gZ]) hx0.1
  obtain⟨b1,b2,b3⟩:=zp a3 hx0.2
  have c1:=jV a1
  have c2:=jV b1
  rw[ic,if_neg h0,if_neg (by simp[a1]),if_pos rfl,if_pos b1,a2,b2,abg n xM _ _ bs (by omega) b3 (fun y hy=>hx y (by simp[hy]))]
  simp
theorem vn:∀(n:Nat) (xN:List Br) (s:ByteArray) (es:List En) (bs:List Br),s.size≤n→U s=xN.flatMap hC→(∀x∈xN,x.1.size≤255∧0≤x.2.1∧x.2.1<65536)→ic false n s es bs=if c9 false es (bs++xN)=true then(0,es,bs++xN)else(4,[],[])
 |n,[],s,es,bs,_,hu,_=>by rw[abf hu,List.append_nil]
 |0,x::xN,s,es,bs,hn,hu,_=>by
  have:=mh s
  rw[hu]at this
  simp[hC,nm]at this
  omega
 |n+1,x::xN,s,es,bs,hn,hu,hx=>by
  obtain⟨k,p,⟨⟩⟩:=x
  have hx0:=hx (k,p,()) (by simp)
  have h0:s≠ByteArray.empty:=fun e=>by subst e;simp[zl,hC,nm]at hu
  obtain⟨a1,a2,a3⟩:=zp (s:=s) (k:=k) (r:=[UInt8.ofNat (p / 256).toNat,UInt8.ofNat (p%256).toNat]++xN.flatMap hC) (by rw[hu];simp[hC]) hx0.1
  obtain⟨b1,b2,b3⟩:=zm (k:=2) a3 rfl
  have c1:=jV a1
  have c2:=adl 2 (gT s)
  have e:aiW (j9 2 (gT s))=p:=by
   have hp:0≤p∧p<65536:=hx0.2
   rw[anK b2]
   simp only[UInt8.toNat_ofNat']
   omega
  rw[ic,if_neg h0,if_neg (by simp[a1]),if_neg (by simp),if_pos b1,a2,e,vn n xN _ es _ (by omega) b3 (fun y hy=>hx y (by simp[hy]))]
  simp
theorem aps{α:Type}:∀{l:List α},l.length=2→∃a b,l=[a,b]
 |[a,b],_=>⟨a,b,rfl⟩
theorem arN:∀(n:Nat) (l:Bool) (s:ByteArray) (es:List En) (bs:List Br) {kY:List En} {ow:List Br},s.size≤n→ic l n s es bs=(0,kY,ow)→
 ∃xM xN,kY=es++xM∧ow=bs++xN∧c9 l kY ow=true∧U s=xM.flatMap gZ++xN.flatMap hC∧(l=true→xN=[])∧(l=false→xM=[]):=by
 intro n
 have fin:∀(l:Bool) (s:ByteArray) (es:List En) (bs:List Br) {kY:List En} {ow:List Br},s=ByteArray.empty→(if c9 l es bs=true then((0:Int),es,bs)else(4,[],[]))=(0,kY,ow)→
  ∃xM xN,kY=es++xM∧ow=bs++xN∧c9 l kY ow=true∧U s=xM.flatMap gZ++xN.flatMap hC∧(l=true→xN=[])∧(l=false→xM=[]):=by
  intro l s es bs kY ow hs h
  split at h
  ·rename_i hm
   simp only[Prod.mk.injEq,true_and]at h
   obtain⟨rfl,rfl⟩:=h
   exact⟨[],[],by simp,by simp,hm,by subst hs;rfl,fun _=>rfl,fun _=>rfl⟩
  ·simp at h
 induction n with
 |zero=>
  intro l s es bs kY ow hn h
  exact fin l s es bs (lu (Nat.le_zero.1 hn)) h
 |succ n ih=>
  intro l s es bs kY ow hn h
  by_cases h0:s=ByteArray.empty
  ·rw[ic,if_pos h0]at h
   exact fin l s es bs h0 h
  ·rw[ic,if_neg h0]at h
   split at h
   ·simp at h
   ·rename_i hB
    have hB:wD s=true:=by simpa using hB
    obtain⟨a1,a2⟩:=aeV hB
    have c1:=jV hB
    split at h
    ·rename_i hl
     subst hl
     split at h
     ·rename_i hB2
      obtain⟨b1,b2⟩:=aeV hB2
      have c2:=jV hB2
      obtain⟨xM,xN,rfl,rfl,d3,d4,d5,d6⟩:=ih true _ _ _ (by omega) h
      have d5:=d5 rfl
      subst d5
      refine⟨(xL s,xL (gT s),())::xM,[],by simp,by simp,d3, ?_,fun _=>rfl,fun h=>(by cases h)⟩
      rw[a1,b1,d4]
      simp[gZ]
     ·simp at h
    ·rename_i hl
     have hl:l=false:=by simpa using hl
     subst hl
     split at h
     ·rename_i hB2
      obtain⟨b1,b2⟩:=zn (by decide) hB2
      have c2:=adl 2 (gT s)
      obtain⟨xM,xN,rfl,rfl,d3,d4,d5,d6⟩:=ih false _ _ _ (by omega) h
      have d6:=d6 rfl
      subst d6
      refine⟨[],(xL s,aiW (j9 2 (gT s)),())::xN,by simp,by simp,d3, ?_,fun h=>(by cases h),fun _=>rfl⟩
      have b2:(U (j9 2 (gT s))).length=2:=by omega
      obtain⟨a,b,hab⟩:=aps b2
      have e:=anK hab
      have h1:=a.toNat_lt
      have h2:=b.toNat_lt
      rw[a1,b1,d4,hab]
      simp only[List.flatMap_nil,List.nil_append,List.flatMap_cons,hC,e,List.append_assoc]
      rw[show(((a.toNat:Int)*256+b.toNat) / 256).toNat=a.toNat from by omega,show(((a.toNat:Int)*256+b.toNat)%256).toNat=b.toNat from by omega]
      simp
     ·simp at h
theorem adn{es:List En}(h:jw es=true){x:En}(hx:x∈es):x.1.size≤24∧x.2.1.size≤100:=by
 obtain⟨i,hi,rfl⟩:=List.getElem_of_mem hx
 have:=cU.1 h i hi
 simp only[okE,Bool.not_eq_true',Bool.or_eq_false_iff,decide_eq_false_iff_not,bh hi]at this
 omega
theorem abh{bs:List Br}(h:gH bs=true){x:Br}(hx:x∈bs):x.1.size≤24∧2≤x.2.1∧x.2.1<1024:=by
 obtain⟨i,hi,rfl⟩:=List.getElem_of_mem hx
 have:=cU.1 h i hi
 simp only[okB,Bool.not_eq_true',Bool.or_eq_false_iff,decide_eq_false_iff_not,bh hi]at this
 omega
abbrev enB(zs:List Int):List UInt8:=zs.map fun n=>UInt8.ofNat n.toNat
theorem als(zs:List Int):U (aM zs)=enB zs:=rfl
theorem u8_in{n:Int}(h0:0≤n)(h1:n≤255):IntKind.u8.wrap n=n:=by
 simp only[IntKind.wrap,IntKind.bits,IntKind.signed,Bool.false_and]
 simp
 omega
theorem zq{s:ByteArray}(h:s.size≤255):enB (xJ s)=nm s:=by
 simp only[enB,xJ,List.map_cons,nm,u8_in (n:=(s.size:Int)) (by omega) (by omega),Int.toNat_natCast,List.cons.injEq,true_and,zk,List.map_map]
 exact(List.map_congr_left (fun a _=>by simp)).trans (List.map_id _)
theorem arO{x:En}(h:x.1.size≤24∧x.2.1.size≤100):enB (ni x)=gZ x:=by
 simp only[ni,gZ,List.map_append]
 rw[show(xJ x.1).map _=_ from zq (by omega),show(xJ x.2.1).map _=_ from zq (by omega)]
theorem arP{x:Br}(h:x.1.size≤24∧2≤x.2.1∧x.2.1<1024):enB (sP x)=hC x:=by
 obtain⟨k,p,⟨⟩⟩:=x
 have hp:2≤p∧p<1024:=h.2
 simp only[sP,hC,List.map_append,List.map_cons,List.map_nil]
 rw[show(xJ k).map _=_ from zq (by have:k.size≤24:=h.1;omega),show(2:Int)^min (Int.toNat 8) IntKind.i64.bits=256 from by decide,Int.fdiv_eq_ediv_of_nonneg _ (by omega),u8_in (by omega) (by omega)]
 have e:IntKind.u8.wrap p=p%256:=by
  simp only[IntKind.wrap,IntKind.bits,IntKind.signed,Bool.false_and]
  simp
 rw[e]
theorem vp{α:Type}{f:α→List Int}{g:α→List UInt8}:∀{l:List α},(∀x∈l,enB (f x)=g x)→enB (l.flatMap f)=l.flatMap g
 |[],_=>rfl
 |x::l,h=>by
  simp only[List.flatMap_cons,List.map_append]
  rw[show(f x).map _=_ from h x (by simp),show(l.flatMap f).map _=_ from vp (fun y hy=>h y (by simp[hy]))]
theorem anL{l:Bool}{es:List En}{bs:List Br}(h1:jw es=true)(h2:gH bs=true):U (aM (nj l es bs))=(if l=true then 1 else 2)::(es.flatMap gZ++bs.flatMap hC):=by
 rw[als,nj]
 simp only[List.map_append]
 rw[show(es.flatMap ni).map _=_ from vp fun x hx=>arO (adn h1 hx),show(bs.flatMap sP).map _=_ from vp fun x hx=>arP (abh h2 hx)]
 cases l<;>rfl
theorem arQ:∀(es:List En),((es.flatMap gZ).length:Int)=(es.map pB).sum
 |[]=>rfl
 |x::es=>by
  simp only[List.flatMap_cons,List.length_append,List.map_cons,List.sum_cons,←arQ es,pB,gZ,nm,List.length_cons,mh]
  omega
theorem arR:∀(bs:List Br),((bs.flatMap hC).length:Int)=(bs.map pa).sum
 |[]=>rfl
 |x::bs=>by
  simp only[List.flatMap_cons,List.length_append,List.map_cons,List.sum_cons,←arR bs,pa,hC,nm,List.length_cons,List.length_nil,mh]
  omega
theorem abi{s:ByteArray}{a:UInt8}{es:List En}{bs:List Br}(h:U s=a::(es.flatMap gZ++bs.flatMap hC)):(s.size:Int)=bg es bs:=by
 have:=mh s
 rw[h]at this
 simp only[List.length_cons,List.length_append]at this
 rw[bg,←arQ,←arR]
 omega
theorem lC{l:Bool}{es:List En}{bs:List Br}:gI l es bs=0↔c9 l es bs=true∧bg es bs≤254:=by
 unfold gI
 split
 ·split<;>simp_all
 ·simp_all
theorem aeW{l:Bool}{es:List En}{bs:List Br}(h:gI l es bs=0):db l es bs=aM (nj l es bs):=by
 obtain⟨h1,h2⟩:=lC.1 h
 rw[db,if_pos (by simp[aba,h1,h2])]
theorem alu{l:Bool}{es:List En}{bs:List Br}(h:gI l es bs=0):ry (db l es bs)=0∧jk (db l es bs)=l∧nk (db l es bs)=es∧mr (db l es bs)=bs∧((db l es bs).size:Int)=bg es bs:=by
 obtain⟨h1,h2⟩:=lC.1 h
 obtain⟨m1,m2,m3,m4⟩:=dK h1
 rw[aeW h]
 have hu:=anL (l:=l) m3 m4
 have hs:=abi hu
 have h0:aM (nj l es bs)≠ByteArray.empty:=fun e=>by rw[e,zl]at hu;cases hu
 have hb:aV (aM (nj l es bs)) 0=if l=true then 1 else 2:=by rw[iM hu];cases l<;>rfl
 have he:U ((aM (nj l es bs)).extract 1 (aM (nj l es bs)).size)=es.flatMap gZ++bs.flatMap hC:=by
  have:=mh (aM (nj l es bs))
  rw[hu]at this
  rw[jD,hu]
  simp only[List.length_cons]at this
  exact List.take_of_length_le (by simp;simp at this;omega)
 have hd:oa (aM (nj l es bs))=(0,es,bs):=by
  rw[oa,if_neg (by omega),if_neg h0,if_neg (by rw[hb];cases l<;>simp),hb]
  cases l
  ·obtain rfl:=m2 rfl
   have:=vn (aM (nj false [] bs)).size bs _ [] [] (by rw[dw];omega) he (fun x hx=>by have:=abh m4 hx;omega)
   simp only[List.nil_append,h1,if_true]at this
   exact this
  ·obtain rfl:=m1 rfl
   have:=abg (aM (nj true es [])).size es ((aM (nj true es [])).extract 1 (aM (nj true es [])).size) [] [] (by rw[dw];omega) (by rw[he];simp) (fun x hx=>by have:=adn m3 hx;omega)
   simp only[List.nil_append,h1,if_true]at this
   exact this
 refine⟨by rw[ry,hd], ?_,by rw[nk,hd],by rw[mr,hd],hs⟩
 rw[jk,ry,hd,hb]
 cases l<;>rfl
theorem arS:∀(es:List En),es.length≤(es.flatMap gZ).length
 |[]=>Nat.le_refl _
 |x::l=>by have:=arS l;simp only[List.flatMap_cons,List.length_cons,List.length_append,gZ,nm];omega
theorem arT:∀(es:List Br),es.length≤(es.flatMap hC).length
 |[]=>Nat.le_refl _
 |x::l=>by have:=arT l;simp only[List.flatMap_cons,List.length_cons,List.length_append,hC,nm];omega
theorem alv{s:ByteArray}(h:ry s=0):a8 (nk s)∧ba (mr s)∧gI (jk s) (nk s) (mr s)=0∧db (jk s) (nk s) (mr s)=s∧c9 (jk s) (nk s) (mr s)=true:=by
 have h':=h
 rw[ry]at h
 have hl:jk s=(aV s 0==1):=by simp[jk,h']
 rw[hl]
 unfold nk mr
 unfold oa at h ⊢
 split at h
 ·exact absurd h (by decide)
 rename_i g1
 rw[if_neg g1]
 split at h
 ·exact absurd h (by decide)
 rename_i g2
 rw[if_neg g2]
 split at h
 ·exact absurd h (by decide)
 rename_i g3
 rw[if_neg g3]
 obtain⟨kY,ow,e⟩:∃kY ow,ic (aV s 0==1) s.size (s.extract 1 s.size) [] []=(0,kY,ow):=⟨_,_,Prod.ext h rfl⟩
 rw[e]
 simp only
 obtain⟨xM,xN,k1,k2,k3,k4,k5,k6⟩:=arN _ _ _ _ _ (by rw[dw];omega) e
 simp only[List.nil_append]at k1 k2
 subst k1 k2
 obtain⟨m1,m2,m3,m4⟩:=dK k3
 have hlen:=mh s
 cases hu:U s with
 |nil=>exact absurd (anJ hu) g2
 |cons a r=>
  have hb:=iM hu
  have ha:=a.toNat_lt
  have hr:r=kY.flatMap gZ++ow.flatMap hC:=by
   rw[←k4,jD,hu]
   rw[hu]at hlen
   simp only[List.length_cons]at hlen
   rw[show List.drop 1 (a::r)=r from rfl,List.take_of_length_le (by omega)]
  rw[hr]at hu
  have hs:=abi hu
  have hn:gI (aV s 0==1) kY ow=0:=lC.2 ⟨k3,by omega⟩
  have au7:=arS kY
  have au8:=arT ow
  rw[hu]at hlen
  simp only[List.length_cons,List.length_append]at hlen
  refine⟨⟨by omega,fun x hx=>by have:=adn m3 hx;omega⟩,⟨by omega,fun x hx=>by have:=abh m4 hx;omega⟩,hn, ?_,k3⟩
  rw[aeW hn]
  apply rp
  show U _=U _
  rw[anL m3 m4,hu]
  congr 1
  by_cases hc:aV s 0=1
  ·rw[if_pos (by simp[hc])]
   exact UInt8.toNat_inj.1 (by show 1=_;omega)
  ·rw[if_neg (by simp[hc])]
   have:aV s 0=2:=by
    rcases Decidable.em (aV s 0=2)with h|h
    ·exact h
    ·exact absurd ⟨hc,h⟩ g3
   exact UInt8.toNat_inj.1 (by show 2=_;omega)
end Lf
namespace Lf
open Go Go.Sx Go.Proofs
theorem alw(a:List En):run P jv.sum Tryd.f68 [] (start Tryd.f68 [.s (.ro (.ad cE a))] [])=
 Tree.both (a.length=0) True (.ret [] .emp) (.need (((0:Nat)+a.length)*(32:Nat)≤140737488355328) (.ret [.dead,.vec (.ad [.str,.str] ([]++a)) 34] (.vec 1))):=by kernel_rfl
theorem alx(a:List Br):run P jv.sum Tryd.f106 [] (start Tryd.f106 [.s (.ro (.ad cB a))] [])=
 Tree.both (a.length=0) True (.ret [] .emp) (.need (((0:Nat)+a.length)*(24:Nat)≤140737488355328) (.ret [.dead,.vec (.ad [.str,.int .i64] ([]++a)) 79] (.vec 1))):=by kernel_rfl
abbrev apt:=bS [n9] [n9] (fun(l,())=>[(l:List En).length≤100000]) (fun(l,())=>(l,()))
abbrev aua:=bS [wA] [wA] (fun(l,())=>[(l:List Br).length≤100000]) (fun(l,())=>(l,()))
def ado:aH:=[(68,apt),(106,aua)]
theorem aiX(a:List En)(k:Int):run P ado.sum Tryd.f100 [] (start Tryd.f100 [.s (.ro (.ad cE a)),.s (.int .i64 k)] [])=
 Tree.ite ((↑a.length:Int)==0) (.ret [] (.bp [.emp,.emp])) (.need ((0:Int)≤0) (.need ((0:Int)≤k) (.need (k≤(↑a.length:Int)) (.need ((List.drop (Int.toNat 0) (List.take k.toNat a)).length≤100000) (.need ((0:Int)≤k) (.need (k≤(↑a.length:Int)) (.need ((↑a.length:Int)≤(↑a.length:Int)) (.need ((List.drop k.toNat (List.take (↑a.length:Int).toNat a)).length≤100000) (.ret [.vec (.ad [.str,.str] (List.drop (Int.toNat 0) (List.take k.toNat a))) 34,.vec (.ad [.str,.str] (List.drop k.toNat (List.take (↑a.length:Int).toNat a))) 34] (.bp [.vec 0,.vec 1])))))))))):=by kernel_rfl
theorem aiY(a:List Br)(k:Int):run P ado.sum Tryd.f101 [] (start Tryd.f101 [.s (.ro (.ad cB a)),.s (.int .i64 k)] [])=
 Tree.ite ((↑a.length:Int)==0) (.ret [] (.bp [.emp,.emp])) (.need ((0:Int)≤0) (.need ((0:Int)≤k) (.need (k≤(↑a.length:Int)) (.need ((List.drop (Int.toNat 0) (List.take k.toNat a)).length≤100000) (.need ((0:Int)≤k) (.need (k≤(↑a.length:Int)) (.need ((↑a.length:Int)≤(↑a.length:Int)) (.need ((List.drop k.toNat (List.take (↑a.length:Int).toNat a)).length≤100000) (.ret [.vec (.ad [.str,.int .i64] (List.drop (Int.toNat 0) (List.take k.toNat a))) 79,.vec (.ad [.str,.int .i64] (List.drop k.toNat (List.take (↑a.length:Int).toNat a))) 79] (.bp [.vec 0,.vec 1])))))))))):=by kernel_rfl
abbrev arU:=bS [n9,bm] [n9,n9] (fun(l,k,())=>[(l:List En).length≤100000,0≤(k:Int),(l=[]∨k≤(l.length:Int))]) (fun(l,k,())=>(List.take (Int.toNat k) l,List.drop (Int.toNat k) l,()))
abbrev arV:=bS [wA,bm] [wA,wA] (fun(l,k,())=>[(l:List Br).length≤100000,0≤(k:Int),(l=[]∨k≤(l.length:Int))]) (fun(l,k,())=>(List.take (Int.toNat k) l,List.drop (Int.toNat k) l,()))
def adp:aH:=[(99,aiJ),(76,apq),(93,anB),(100,arU),(101,arV)]
def anM:List (Nat×Norm):=[(7,⟨[],[1,2,3,6,7,8,9,34,35,36],0,[]⟩)]
theorem aly(l:Bool)(es:List En)(bs:List Br):run P adp.sum Tryd.f84 anM (start Tryd.f84 [avN l es bs] [])=
 Tree.need (a8 es) (.need (ba bs) (.ite (!c9 l es bs) (.ret [.own [.s (.bool l),.s (.ro (.ad [.str,.str] es)),.s (.ro (.ad [.str,.int .i64] bs))] 73,.own [.s (.aJ false),.emp,.emp] 73,.own [.s (.aJ false),.emp,.emp] 73,.vec (.ints .i64 (aE es bs)) 3] (.bp [.agg [.s (.aJ false),.emp,.emp],.agg [.s (.aJ false),.emp,.emp],.s (.aW .i64 4)])) (.ite (decide ((↑(aE es bs).length:Int)<2)) (.ret [.own [.s (.bool l),.s (.ro (.ad [.str,.str] es)),.s (.ro (.ad [.str,.int .i64] bs))] 73,.own [.s (.aJ false),.emp,.emp] 73,.own [.s (.aJ false),.emp,.emp] 73,.vec (.ints .i64 (aE es bs)) 3] (.bp [.agg [.s (.aJ false),.emp,.emp],.agg [.s (.aJ false),.emp,.emp],.s (.aW .i64 4)])) (.need (a8 es) (.need (ba bs) (.need (aD (bg es bs - (1:Int))) (.need (aD ((↑(aE es bs).length:Int) - (1:Int))) (.need ((0:Int)≤0) (.need ((0:Int)≤(↑(aE es bs).length:Int) - (1:Int)) (.need ((↑(0:Nat):Int)+((↑(aE es bs).length:Int) - (1:Int))≤(↑(aE es bs).length:Int)) (.at (.mk (sl 87 [(1,.ptr 0 0),(2,.ptr 1 0),(3,.ptr 2 0),(6,.s (.int .i64 0)),(7,.s (.int .i64 (bg es bs - (1:Int)))),(8,.s (.int .i64 0)),(9,.s (.int .i64 0)),(34,.part 3 0 (((↑(aE es bs).length:Int) - (1:Int)).toNat - Int.toNat 0)),(35,.s (.int .i64 (↑(((↑(aE es bs).length:Int) - (1:Int)).toNat - Int.toNat 0):Int))),(36,.s (.int .i64 0))]) [.own [.s (.bool l),.s (.ro (.ad [.str,.str] es)),.s (.ro (.ad [.str,.int .i64] bs))] 73,.own [.s (.bool false),.emp,.emp] 73,.own [.s (.bool false),.emp,.emp] 73,.vec (.ints .i64 (aE es bs)) 3] (hd Tryd.f84 7) (.mk none false 0 [] 0))))))))))))):=by kernel_rfl
def alz(l:Bool)(es:List En):List En:=if l=true then es else []
def alA(l:Bool)(bs:List Br):List Br:=if l=true then []else bs
noncomputable def arW(l:Bool)(es:List En)(bs:List Br)(zs:List Int)(n:Nat)(first rest rz least i:Int):bB:=⟨sl 87 [(1,.ptr 0 0),(2,.ptr 1 0),(3,.ptr 2 0),(6,.s (.int .i64 first)),(7,.s (.int .i64 rest)),(8,.s (.int .i64 rz)),(9,.s (.int .i64 least)),(34,.part 3 0 n),(35,.s (.int .i64 (n:Int))),(36,.s (.int .i64 i))],
 [obN l es bs 73,obZ,obZ,.vec (.ints .i64 zs) 3],hd Tryd.f84 7,{}⟩
theorem aeX(l:Bool)(es:List En)(bs:List Br)(zs:List Int)(n:Nat)(first rest rz least i:Int):run P adp.sum Tryd.f84 anM (arW l es bs zs n first rest rz least i)=
 Tree.ite (decide (i<(↑n:Int))) (.need ((0:Int)≤i) (.need (i<(↑n:Int)) (.need (aD (first+zs.getD ((0:Nat)+i.toNat) 0)) (.need (aD (rest - zs.getD ((0:Nat)+i.toNat) 0)) (.ite (rz==0) (.need (aD (i+1)) (.need (aD (i+1)) (.at (.mk (sl 87 [(1,.ptr 0 0),(2,.ptr 1 0),(3,.ptr 2 0),(6,.s (.int .i64 (first+zs.getD ((0:Nat)+i.toNat) 0))),(7,.s (.int .i64 (rest - zs.getD ((0:Nat)+i.toNat) 0))),(8,.s (.int .i64 (i+1))),(9,.s (.int .i64 (imax (first+zs.getD ((0:Nat)+i.toNat) 0) (rest - zs.getD ((0:Nat)+i.toNat) 0)))),(34,.part 3 0 n),(35,.s (.int .i64 (↑n:Int))),(36,.s (.int .i64 (i+1)))]) [.own [.s (.bool l),.s (.ro (.ad [.str,.str] es)),.s (.ro (.ad [.str,.int .i64] bs))] 73,.own [.s (.bool false),.emp,.emp] 73,.own [.s (.bool false),.emp,.emp] 73,.vec (.ints .i64 zs) 3] (hd Tryd.f84 7) (.mk none false 0 [] 0))))) (.ite (decide (imax (first+zs.getD ((0:Nat)+i.toNat) 0) (rest - zs.getD ((0:Nat)+i.toNat) 0)<least)) (.need (aD (i+1)) (.need (aD (i+1)) (.at (.mk (sl 87 [(1,.ptr 0 0),(2,.ptr 1 0),(3,.ptr 2 0),(6,.s (.int .i64 (first+zs.getD ((0:Nat)+i.toNat) 0))),(7,.s (.int .i64 (rest - zs.getD ((0:Nat)+i.toNat) 0))),(8,.s (.int .i64 (i+1))),(9,.s (.int .i64 (imax (first+zs.getD ((0:Nat)+i.toNat) 0) (rest - zs.getD ((0:Nat)+i.toNat) 0)))),(34,.part 3 0 n),(35,.s (.int .i64 (↑n:Int))),(36,.s (.int .i64 (i+1)))]) [.own [.s (.bool l),.s (.ro (.ad [.str,.str] es)),.s (.ro (.ad [.str,.int .i64] bs))] 73,.own [.s (.bool false),.emp,.emp] 73,.own [.s (.bool false),.emp,.emp] 73,.vec (.ints .i64 zs) 3] (hd Tryd.f84 7) (.mk none false 0 [] 0))))) (.need (aD (i+1)) (.at (.mk (sl 87 [(1,.ptr 0 0),(2,.ptr 1 0),(3,.ptr 2 0),(6,.s (.int .i64 (first+zs.getD ((0:Nat)+i.toNat) 0))),(7,.s (.int .i64 (rest - zs.getD ((0:Nat)+i.toNat) 0))),(8,.s (.int .i64 rz)),(9,.s (.int .i64 least)),(34,.part 3 0 n),(35,.s (.int .i64 (↑n:Int))),(36,.s (.int .i64 (i+1)))]) [.own [.s (.bool l),.s (.ro (.ad [.str,.str] es)),.s (.ro (.ad [.str,.int .i64] bs))] 73,.own [.s (.bool false),.emp,.emp] 73,.own [.s (.bool false),.emp,.emp] 73,.vec (.ints .i64 zs) 3] (hd Tryd.f84 7) (.mk none false 0 [] 0))))))))))
 (.need (es.length≤100000) (.need ((0:bm.V)≤rz) (.need (es=[]∨rz≤(↑es.length:Int)) (.need (bs.length≤100000) (.need ((0:bm.V)≤rz) (.need (bs=[]∨rz≤(↑bs.length:Int)) (.ret [.own [.s (.bool l),.s (.ro (.ad [.str,.str] es)),.s (.ro (.ad [.str,.int .i64] bs))] 73,.own [.s (.bool l),.vec 6,.vec 8] 73,.own [.s (.bool l),.vec 7,.vec 9] 73,.vec (.ints .i64 zs) 3,.own [.s (.bool l),.vec 6,.vec 8] 73,.own [.s (.bool l),.vec 7,.vec 9] 73,.vec (.ad [.str,.str] (List.take rz.toNat es)) 34,.vec (.ad [.str,.str] (List.drop rz.toNat es)) 34,.vec (.ad [.str,.int .i64] (List.take rz.toNat bs)) 79,.vec (.ad [.str,.int .i64] (List.drop rz.toNat bs)) 79] (.bp [.agg [.s (.bool l),.vec 6,.vec 8],.agg [.s (.bool l),.vec 7,.vec 9],.s (.aW .i64 0)])))))))):=by kernel_rfl
theorem adq{Z:aX}:dd P Z 68 [n9] [n9] (fun(l,())=>[(l:List En).length≤100000]) (fun(l,())=>(l,())):=by
 refine aq Tryd.func68 (by kernel_rfl) (by kernel_rfl) ?_
 rintro⟨(l:List En),⟨⟩⟩ _ ⟨(hl:l.length≤100000),_⟩ X hX hz
 refine go hz hX aH.Ok.nil Tryd.func68 (alw l) ⟨fun h=> ?_,fun _=>⟨by omega, ?_⟩⟩
 ·obtain rfl:=List.eq_nil_of_length_eq_zero h
  exact aQ ([],()) rfl (by kernel_rfl)
 ·exact aQ (l,()) rfl (by kernel_rfl)
theorem apu{Z:aX}:dd P Z 106 [wA] [wA] (fun(l,())=>[(l:List Br).length≤100000]) (fun(l,())=>(l,())):=by
 refine aq Tryd.func106 (by kernel_rfl) (by kernel_rfl) ?_
 rintro⟨(l:List Br),⟨⟩⟩ _ ⟨(hl:l.length≤100000),_⟩ X hX hz
 refine go hz hX aH.Ok.nil Tryd.func106 (alx l) ⟨fun h=> ?_,fun _=>⟨by omega, ?_⟩⟩
 ·obtain rfl:=List.eq_nil_of_length_eq_zero h
  exact aQ ([],()) rfl (by kernel_rfl)
 ·exact aQ (l,()) rfl (by kernel_rfl)
theorem xO{Z:aX}:ado.Ok P Z:=aH.Ok.cons adq.sum (aH.Ok.cons apu.sum aH.Ok.nil)
theorem alB{Z:aX}:dd P Z 100 [n9,bm] [n9,n9] (fun(l,k,())=>[(l:List En).length≤100000,0≤(k:Int),(l=[]∨k≤(l.length:Int))]) (fun(l,k,())=>(List.take (Int.toNat k) l,List.drop (Int.toNat k) l,())):=by
 refine aq Tryd.func100 (by kernel_rfl) (by kernel_rfl) ?_
 rintro⟨(l:List En),(k:Int),⟨⟩⟩ _ ⟨(hl:l.length≤100000),(h0:0≤k),(hk:l=[]∨k≤(l.length:Int)),_⟩ X hX hz
 show Safe P 100 X (Ends [n9,n9] (l.take k.toNat,l.drop k.toNat,())) _
 refine go hz hX xO Tryd.func100 (aiX l k) ⟨fun h=> ?_,fun h=> ?_⟩
 ·obtain rfl:l=[]:=List.eq_nil_of_length_eq_zero (by have:(l.length:Int)=0:=by simpa using h
                                                     omega)
  refine aQ (rs:=[n9,n9]) ([],[],()) ?_ (by kernel_rfl)
  show(List.take k.toNat ([]:List En),List.drop k.toNat ([]:List En),())=([],[],())
  rw[List.take_nil,List.drop_nil]
 ·have hk:k≤(l.length:Int):=hk.elim (fun e=>by subst e;simp at h) id
  have e1:List.drop (Int.toNat 0) (List.take k.toNat l)=l.take k.toNat:=rfl
  have e2:List.drop k.toNat (List.take ((l.length:Int)).toNat l)=l.drop k.toNat:=by rw[List.take_of_length_le (by omega)]
  refine⟨by omega,h0,hk, ?_,h0,hk,by omega, ?_, ?_⟩
  ·rw[e1,List.length_take];omega
  ·rw[e2,List.length_drop];omega
  ·exact aQ (List.drop (Int.toNat 0) (List.take k.toNat l),List.drop k.toNat (List.take ((l.length:Int)).toNat l),()) (by rw[e2];rfl) (by kernel_rfl)
theorem alC{Z:aX}:dd P Z 101 [wA,bm] [wA,wA] (fun(l,k,())=>[(l:List Br).length≤100000,0≤(k:Int),(l=[]∨k≤(l.length:Int))]) (fun(l,k,())=>(List.take (Int.toNat k) l,List.drop (Int.toNat k) l,())):=by
 refine aq Tryd.func101 (by kernel_rfl) (by kernel_rfl) ?_
 rintro⟨(l:List Br),(k:Int),⟨⟩⟩ _ ⟨(hl:l.length≤100000),(h0:0≤k),(hk:l=[]∨k≤(l.length:Int)),_⟩ X hX hz
 show Safe P 101 X (Ends [wA,wA] (l.take k.toNat,l.drop k.toNat,())) _
 refine go hz hX xO Tryd.func101 (aiY l k) ⟨fun h=> ?_,fun h=> ?_⟩
 ·obtain rfl:l=[]:=List.eq_nil_of_length_eq_zero (by have:(l.length:Int)=0:=by simpa using h
                                                     omega)
  refine aQ (rs:=[wA,wA]) ([],[],()) ?_ (by kernel_rfl)
  show(List.take k.toNat ([]:List Br),List.drop k.toNat ([]:List Br),())=([],[],())
  rw[List.take_nil,List.drop_nil]
 ·have hk:k≤(l.length:Int):=hk.elim (fun e=>by subst e;simp at h) id
  have e1:List.drop (Int.toNat 0) (List.take k.toNat l)=l.take k.toNat:=rfl
  have e2:List.drop k.toNat (List.take ((l.length:Int)).toNat l)=l.drop k.toNat:=by rw[List.take_of_length_le (by omega)]
  refine⟨by omega,h0,hk, ?_,h0,hk,by omega, ?_, ?_⟩
  ·rw[e1,List.length_take];omega
  ·rw[e2,List.length_drop];omega
  ·exact aQ (List.drop (Int.toNat 0) (List.take k.toNat l),List.drop k.toNat (List.take ((l.length:Int)).toNat l),()) (by rw[e2];rfl) (by kernel_rfl)
def jl(zs:List Int)(k:Nat):Int:=imax (zs.take k).sum (zs.sum - (zs.take k).sum)
def gJ(zs:List Int):Nat→Nat×Int
 |0=>(0,0)
 |k+1=>if(gJ zs k).1=0∨jl zs (k+1)<(gJ zs k).2 then(k+1,jl zs (k+1))else gJ zs k
theorem nQ(zs:List Int):∀k,(gJ zs k).1≤k
 |0=>Nat.le_refl _
 |k+1=>by
  have:=nQ zs k
  rw[gJ]
  split
  ·exact Nat.le_refl _
  ·omega
theorem nn(zs:List Int):∀k,0<k→0<(gJ zs k).1
 |0,h=>absurd h (by omega)
 |k+1,_=>by
  rw[gJ]
  split
  ·exact Nat.succ_pos _
  ·rename_i h
   exact Nat.pos_of_ne_zero (fun e=>h (.inl e))
def dN(es:List En)(bs:List Br):Nat:=(gJ (aE es bs) (es.length+bs.length - 1)).1
def dz(l:Bool)(es:List En)(bs:List Br):Bool:=c9 l es bs&&decide (2≤es.length+bs.length)
def bK(l:Bool)(es:List En)(bs:List Br):Bool:=dz l es bs&&l
def aZ(l:Bool)(es:List En)(bs:List Br):List En:=if dz l es bs=true then es.take (dN es bs)else []
def cP(l:Bool)(es:List En)(bs:List Br):List En:=if dz l es bs=true then es.drop (dN es bs)else []
def bc(l:Bool)(es:List En)(bs:List Br):List Br:=if dz l es bs=true then bs.take (dN es bs)else []
def cW(l:Bool)(es:List En)(bs:List Br):List Br:=if dz l es bs=true then bs.drop (dN es bs)else []
def spC(l:Bool)(es:List En)(bs:List Br):Int:=if dz l es bs=true then 0 else 4
abbrev spY(l:Bool)(es:List En)(bs:List Br):AL [ez,ez,bm]:=((bK l es bs,aZ l es bs,bc l es bs,()),(bK l es bs,cP l es bs,cW l es bs,()),spC l es bs,())
theorem apv{l:Bool}{es:List En}{bs:List Br}(h:dz l es bs=false):spY l es bs=((false,[],[],()),(false,[],[],()),4,()):=by
 simp[spY,bK,aZ,cP,bc,cW,spC,h]
 rfl
theorem alD{l:Bool}{es:List En}{bs:List Br}(h:dz l es bs=true):spY l es bs=((l,es.take (dN es bs),bs.take (dN es bs),()),(l,es.drop (dN es bs),bs.drop (dN es bs),()),0,()):=by
 simp[spY,bK,aZ,cP,bc,cW,spC,h]
 rfl
theorem vq(es:List En)(bs:List Br):(aE es bs).length=es.length+bs.length:=by simp[aE]
theorem agA{zs:List Int}(h:∀x∈zs,0≤x∧x≤2002)(hl:zs.length≤2000)(k:Nat):0≤(zs.take k).sum∧(zs.take k).sum≤4004000:=by
 have:=nO (l:=zs.take k) (m:=2002) (fun x hx=>h x (List.mem_of_mem_take hx)) (by omega)
 have h3:(zs.take k).length≤2000:=by rw[List.length_take];omega
 omega
theorem aiZ{Z:aX}:dd P Z 84 [ez] [ez,ez,bm] (fun((_,es,bs,()),())=>[a8 es,ba bs])
 (fun((l,es,bs,()),())=>((bK l es bs,aZ l es bs,bc l es bs,()),(bK l es bs,cP l es bs,cW l es bs,()),spC l es bs,())):=by
 refine aq Tryd.func84 (by kernel_rfl) (by kernel_rfl) ?_
 rintro⟨⟨(l:Bool),(es:List En),(bs:List Br),⟨⟩⟩,⟨⟩⟩ _ ⟨(he:a8 es),(hb:ba bs),_⟩ X hX hz
 have hT:adp.Ok P Z:=aH.Ok.cons qm.sum (aH.Ok.cons ade.sum (aH.Ok.cons aeN.sum (aH.Ok.cons alB.sum (aH.Ok.cons alC.sum aH.Ok.nil))))
 show Safe P 84 X (Ends [ez,ez,bm] (spY l es bs)) _
 have hle:=he.1
 have hlb:=hb.1
 have hlen:=vq es bs
 have hr:=xI he hb
 have lg:=agA hr (by omega)
 have aub:=lg (aE es bs).length
 rw[List.take_length]at aub
 have bI:=nh es bs
 have loop:dz l es bs=true→∀(n k:Nat),k+n=es.length+bs.length - 1→Safe P 84 X (Ends [ez,ez,bm] (spY l es bs))
  (arW l es bs (aE es bs) (es.length+bs.length - 1) ((aE es bs).take k).sum ((aE es bs).sum - ((aE es bs).take k).sum) ((gJ (aE es bs) k).1:Int) (gJ (aE es bs) k).2 (k:Int)):=by
  intro jP n
  have arX:=jP
  simp only[dz,Bool.and_eq_true,decide_eq_true_eq]at arX
  obtain⟨hm,h2⟩:=arX
  obtain⟨m1,m2,m3,m4⟩:=dK hm
  induction n with
  |zero=>
   intro k hk
   have avb:=nQ (aE es bs) k
   have hE:es=[]∨((gJ (aE es bs) k).1:Int)≤(es.length:Int):=by
    cases l
    ·exact .inl (m2 rfl)
    ·have:=m1 rfl
     subst this
     simp only[List.length_nil]at hk
     exact .inr (by omega)
   have hB:bs=[]∨((gJ (aE es bs) k).1:Int)≤(bs.length:Int):=by
    cases l
    ·have:=m2 rfl
     subst this
     simp only[List.length_nil]at hk
     exact .inr (by omega)
    ·exact .inl (m1 rfl)
   refine go hz hX hT Tryd.func84 (aeX l es bs _ _ _ _ _ _ k) ⟨fun h=>absurd (of_decide_eq_true h) (by omega),fun h=>⟨by omega,Int.natCast_nonneg _,hE,by omega,Int.natCast_nonneg _,hB, ?_⟩⟩
   have arY:(gJ (aE es bs) k).1=dN es bs:=by rw[dN,show k=es.length+bs.length - 1 from by omega]
   rw[arY,alD jP]
   exact aQ ((l,es.take (dN es bs),bs.take (dN es bs),()),(l,es.drop (dN es bs),bs.drop (dN es bs),()),0,()) rfl (by kernel_rfl)
  |succ n ih=>
   intro k hk
   have h1:=lg k
   have h3:0≤(aE es bs).getD k 0∧(aE es bs).getD k 0≤2002:=by
    rw[bh (by omega)];exact hr _ (List.getElem_mem _)
   have mm:=iA (l:=aE es bs) (k:=k) (by omega)
   have hc:imax (((aE es bs).take k).sum+(aE es bs).getD k 0) ((aE es bs).sum - ((aE es bs).take k).sum - (aE es bs).getD k 0)=jl (aE es bs) (k+1):=by
    rw[jl,←mm];congr 1;omega
   have next:=ih (k+1) (by omega)
   rw[←mm,show(aE es bs).sum - (((aE es bs).take k).sum+(aE es bs).getD k 0)=(aE es bs).sum - ((aE es bs).take k).sum - (aE es bs).getD k 0 from by omega]at next
   refine go hz hX hT Tryd.func84 (aeX l es bs _ _ _ _ _ _ k) ?_
   simp only[Int.toNat_natCast,Nat.zero_add,hc]
   refine⟨fun h=>⟨by omega,by omega,⟨by omega,by omega⟩,⟨by omega,by omega⟩,fun h0=> ?_,fun h0=>⟨fun bd=> ?_,fun bd=> ?_⟩⟩,fun h=>absurd (of_decide_eq_false h) (by omega)⟩
   ·have h0:(gJ (aE es bs) k).1=0:=by have:((gJ (aE es bs) k).1:Int)=0:=by simpa using h0
                                      omega
    rw[gJ,if_pos (.inl h0)]at next
    exact⟨⟨by omega,by omega⟩,⟨by omega,by omega⟩,next⟩
   ·rw[gJ,if_pos (.inr (of_decide_eq_true bd))]at next
    exact⟨⟨by omega,by omega⟩,⟨by omega,by omega⟩,next⟩
   ·have h0:¬((gJ (aE es bs) k).1=0∨jl (aE es bs) (k+1)<(gJ (aE es bs) k).2):=by
     rintro(h|h)
     ·simp[h]at h0
     ·exact of_decide_eq_false bd h
    rw[gJ,if_neg h0]at next
    exact⟨⟨by omega,by omega⟩,next⟩
 have bad:dz l es bs=false→spY l es bs=((false,[],[],()),(false,[],[],()),4,()):=apv
 refine go hz hX hT Tryd.func84 (aly l es bs) ⟨he,hb,fun h=>aQ ((false,[],[],()),(false,[],[],()),4,()) (bad ?_) (by kernel_rfl),fun h=>⟨fun h2=>aQ ((false,[],[],()),(false,[],[],()),4,()) (bad ?_) (by kernel_rfl),fun h2=> ?_⟩⟩
 ·have h:c9 l es bs=false:=by simpa using h
  simp[dz,h]
 ·have h2:=of_decide_eq_true h2
  simp only[dz,Bool.and_eq_false_iff,decide_eq_false_iff_not]
  exact .inr (by omega)
 ·have h:c9 l es bs=true:=by simpa using h
  have h2:=of_decide_eq_false h2
  have jP:dz l es bs=true:=by simp only[dz,h,Bool.true_and,decide_eq_true_eq];omega
  refine⟨he,hb,⟨by omega,by omega⟩,⟨by omega,by omega⟩,by omega,by omega,by omega, ?_⟩
  have:=loop jP (es.length+bs.length - 1) 0 (by omega)
  have e1:((((aE es bs).length:Int) - 1).toNat - Int.toNat 0)=es.length+bs.length - 1:=by omega
  rw[e1,bI]
  simp only[List.take_zero,List.sum_nil,Int.sub_zero,gJ]at this
  rw[show 1+(aE es bs).sum - 1=(aE es bs).sum from by omega]
  exact this
theorem abj{es:List En}(h:a8 es)(k:Nat):a8 (es.take k):=⟨by have:=h.1;rw[List.length_take];omega,fun x hx=>h.2 x (List.mem_of_mem_take hx)⟩
theorem abk{es:List Br}(h:ba es)(k:Nat):ba (es.take k):=⟨by have:=h.1;rw[List.length_take];omega,fun x hx=>h.2 x (List.mem_of_mem_take hx)⟩
theorem abl{es:List En}(h:a8 es)(k:Nat):a8 (es.drop k):=⟨by have:=h.1;rw[List.length_drop];omega,fun x hx=>h.2 x (List.mem_of_mem_drop hx)⟩
theorem abm{es:List Br}(h:ba es)(k:Nat):ba (es.drop k):=⟨by have:=h.1;rw[List.length_drop];omega,fun x hx=>h.2 x (List.mem_of_mem_drop hx)⟩
theorem ie:a8 []:=⟨by simp,fun x hx=>by simp at hx⟩
theorem vr:ba []:=⟨by simp,fun x hx=>by simp at hx⟩
theorem abn(zs:List Int)(k:Nat):(zs.drop k).sum=zs.sum - (zs.take k).sum:=by
 have:(zs.take k++zs.drop k).sum=zs.sum:=by rw[List.take_append_drop]
 rw[List.sum_append]at this
 omega
theorem agB{l:Bool}{es:List En}{bs:List Br}(m1:l=true→bs=[])(m2:l=false→es=[])(k:Nat):
 alz l (es.take k)=es.take k∧alA l (bs.take k)=bs.take k∧alz l (es.drop k)=es.drop k∧alA l (bs.drop k)=bs.drop k∧
 bg (es.take k) (bs.take k)=1+((aE es bs).take k).sum∧bg (es.drop k) (bs.drop k)=1+((aE es bs).sum - ((aE es bs).take k).sum):=by
 rw[←abn]
 cases l
 ·obtain rfl:=m2 rfl
  simp[alz,alA,aE,bg]
 ·obtain rfl:=m1 rfl
  simp[alz,alA,aE,bg]
theorem ai0(a b:Int):imax (1+a) (1+b)=1+imax a b:=by
 unfold imax;split<;>split<;>omega
end Lf
namespace Lf
open Go Go.Sx Go.Proofs
abbrev zr:=bS [n9,dL] [bm,cv] (fun(l,_,())=>[(l:List En).length≤1000000,iz (bC l)]) (fun(l,key,())=>((cr (bC l) key:Nat),jj (bC l) key,()))
def alE:aH:=[(58,zr)]
theorem ai1(l:List En)(key:ByteArray):run P alE.sum Tryd.f38 [] (start Tryd.f38 [.s (.ro (.ad cE l)),.s (.str key)] [])=
 Tree.need (l.length≤1000000) (.need (iz (bC l)) (.ite (!jj (bC l) key) (.ret [] (.bp [.s (.str ByteArray.empty),.s (.aJ false)])) (.need ((0:Int)≤(↑(cr (bC l) key):bm.V)) (.need ((↑(cr (bC l) key):bm.V)<(↑l.length:Int)) (.ret [] (.bp [.s (.str (l.getD (Int.toNat (↑(cr (bC l) key):bm.V)) (CL.d [.str,.str])).snd.fst),.s (.aJ true)])))))):=by kernel_rfl
theorem adr(l:List En)(i j:Int):run P jv.sum Tryd.f70 [] (start Tryd.f70 [.vec 0,.s (.int .i64 i),.s (.int .i64 j)] [.vec (.ad cE l) eE])=
 Tree.need ((0:Int)≤i) (.need (i≤j) (.need (j≤(↑l.length:Int)) (.need ((↑(0:Nat):Int)+(↑l.length:Int)≤(↑l.length:Int)) (.ite (i==j) (.ret [.vec (.ad [.str,.str] l) 34] (.vec 0)) (.need ((0:Int)≤0) (.need ((0:Int)≤i) (.need ((↑(0:Nat):Int)+i≤(↑l.length:Int)) (.need ((0:Int)≤j) (.need (j≤(↑l.length:Int)) (.need ((↑(0:Nat):Int)+(↑l.length:Int)≤(↑l.length:Int)) (.need ((0:Nat)+(i.toNat - Int.toNat 0)+(List.drop ((0:Nat)+j.toNat) (List.take ((0:Nat)+j.toNat+((↑l.length:Int).toNat - j.toNat)) l)).length≤l.length) (.need ((0:Int)≤(↑(i.toNat - Int.toNat (0:Int)+(List.drop ((0:Nat)+j.toNat) (List.take ((0:Nat)+j.toNat+((↑l.length:Int).toNat - j.toNat)) l)).length):Int)) (.need ((↑(i.toNat - Int.toNat (0:Int)+(List.drop ((0:Nat)+j.toNat) (List.take ((0:Nat)+j.toNat+((↑l.length:Int).toNat - j.toNat)) l)).length):Int)≤(↑l.length:Int)) (.need ((↑(0:Nat):Int)+(↑l.length:Int)≤(↑(over l ((0:Nat)+(i.toNat - Int.toNat 0)) (List.drop ((0:Nat)+j.toNat) (List.take ((0:Nat)+j.toNat+((↑l.length:Int).toNat - j.toNat)) l)).length (List.drop ((0:Nat)+j.toNat) (List.take ((0:Nat)+j.toNat+((↑l.length:Int).toNat - j.toNat)) l))).length:Int)) (.ret [.vec (.ad [.str,.str] (over (over l ((0:Nat)+(i.toNat - Int.toNat 0)) (List.drop ((0:Nat)+j.toNat) (List.take ((0:Nat)+j.toNat+((↑l.length:Int).toNat - j.toNat)) l)).length (List.drop ((0:Nat)+j.toNat) (List.take ((0:Nat)+j.toNat+((↑l.length:Int).toNat - j.toNat)) l))) ((0:Nat)+(↑(i.toNat - Int.toNat (0:Int)+(List.drop ((0:Nat)+j.toNat) (List.take ((0:Nat)+j.toNat+((↑l.length:Int).toNat - j.toNat)) l)).length):Int).toNat) ((↑l.length:Int).toNat - (↑(i.toNat - Int.toNat (0:Int)+(List.drop ((0:Nat)+j.toNat) (List.take ((0:Nat)+j.toNat+((↑l.length:Int).toNat - j.toNat)) l)).length):Int).toNat) (List.replicate ((↑l.length:Int).toNat - (↑(i.toNat - Int.toNat (0:Int)+(List.drop ((0:Nat)+j.toNat) (List.take ((0:Nat)+j.toNat+((↑l.length:Int).toNat - j.toNat)) l)).length):Int).toNat) (CL.d [.str,.str])))) 34] (.part 0 0 (i.toNat - Int.toNat (0:Int)+(List.drop ((0:Nat)+j.toNat) (List.take ((0:Nat)+j.toNat+((↑l.length:Int).toNat - j.toNat)) l)).length))))))))))))))))):=by kernel_rfl
theorem drop_cons{α:Type}{l:List α}{k:Nat}(d:α)(h:k<l.length):l.drop k=l.getD k d::l.drop (k+1):=by rw[List.drop_eq_getElem_cons h,bh h]
abbrev zT(key:ByteArray)(x:En):Bool:=decide (x.1=key)
def pb(l:List En)(key:ByteArray):ByteArray:=match l.find? (zT key)with|some x=>x.2.1|none=>ByteArray.empty
def np(l:List En)(key:ByteArray):Bool:=(l.find? (zT key)).isSome
theorem aeY{L:List ae}{s:ByteArray}{b:Bool}:Ends [dL,cv] (s,b,()) L (.bp [.s (.str s),.s (.aJ b)]):=rfl
theorem aeZ{l:List En}(hs:iz (bC l)){i j:Nat}(hi:i<l.length)(hj:j<l.length)(h:(l.getD i dE).1=(l.getD j dE).1):i=j:=by
 have hk:∀t,(bC l).getD t ByteArray.empty=(l.getD t dE).1:=fun t=>cA l o9 dE t
 have hn:(bC l).length=l.length:=List.length_map _
 rcases Nat.lt_trichotomy i j with h1|h1|h1
 ·have:=hs i j h1 (by omega);rw[hk,hk,h,dJ]at this;cases this
 ·exact h1
 ·have:=hs j i h1 (by omega);rw[hk,hk,h,dJ]at this;cases this
theorem ae0{l:List En}{key:ByteArray}(hs:iz (bC l)):np l key=jj (bC l) key∧(jj (bC l) key=true→cr (bC l) key<l.length∧pb l key=(l.getD (cr (bC l) key) dE).2.1):=by
 have hk:∀t,(bC l).getD t ByteArray.empty=(l.getD t dE).1:=fun t=>cA l o9 dE t
 have hn:(bC l).length=l.length:=List.length_map _
 cases ha:jj (bC l) key
 ·refine⟨?_,fun h=>by cases h⟩
  cases hf:l.find? (zT key)with
  |none=>rw[np,hf];rfl
  |some x=>
   exfalso
   have h1:=List.find?_some hf
   obtain⟨i,hi,rfl⟩:=List.getElem_of_mem (List.mem_of_find?_eq_some hf)
   have h1:l[i].1=key:=of_decide_eq_true h1
   have h2:(l.getD i dE).1=key:=by rw[bh hi];exact h1
   rcases Nat.lt_or_ge i (cr (bC l) key)with h3|h3
   ·have:=adj h3;rw[hk,h2,dJ]at this;cases this
   ·rcases Nat.eq_or_lt_of_le h3 with h4|h4
    ·have:jj (bC l) key=true:=jx.2 ⟨by omega,by rw[hk,h4];exact h2⟩
     rw[ha]at this;cases this
    ·have h5:=aiQ hs (key:=key) (t:=cr (bC l) key) (Nat.le_refl _) (by omega)
     have h6:=hs _ _ h4 (by omega)
     rw[hk i,h2]at h6
     rw[h6]at h5;cases h5
 ·obtain⟨h1,h2⟩:=jx.1 ha
  rw[hk]at h2
  rw[hn]at h1
  cases hf:l.find? (zT key)with
  |none=>
   exfalso
   have:=List.find?_eq_none.1 hf (l.getD (cr (bC l) key) dE) (by rw[bh h1];exact List.getElem_mem _)
   exact this (decide_eq_true h2)
  |some x=>
   obtain⟨i,hi,rfl⟩:=List.getElem_of_mem (List.mem_of_find?_eq_some hf)
   have h3:=List.find?_some hf
   have h3:l[i].1=key:=of_decide_eq_true h3
   have e:i=cr (bC l) key:=aeZ hs hi h1 (by rw[h2,bh hi];exact h3)
   subst e
   exact⟨by rw[np,hf];rfl,fun _=>⟨h1,by rw[pb,hf,bh hi]⟩⟩
theorem alF{Z:aX}:dd P Z 38 [n9,dL] [dL,cv] (fun(l,_,())=>[(l:List En).length≤1000000,iz (bC l)]) (fun(l,key,())=>(pb l key,np l key,())):=by
 refine aq Tryd.func38 (by kernel_rfl) (by kernel_rfl) ?_
 rintro⟨(l:List En),(key:ByteArray),⟨⟩⟩ _ ⟨(hl:l.length≤1000000),(hs:iz (bC l)),_⟩ X hX hz
 show Safe P 38 X (Ends [dL,cv] (pb l key,np l key,())) _
 obtain⟨h1,h2⟩:=ae0 (key:=key) hs
 refine go hz hX (aH.Ok.cons ru.sum aH.Ok.nil) Tryd.func38 (ai1 l key) ⟨hl,hs,fun h=> ?_,fun h=> ?_⟩
 ·have h:jj (bC l) key=false:=by simpa using h
  have e2:np l key=false:=by rw[h1,h]
  have e1:pb l key=ByteArray.empty:=by
   cases hf:l.find? (zT key)with
   |none=>rw[pb,hf]
   |some x=>rw[np,hf]at e2;cases e2
  rw[e1,e2];exact aeY
 ·have h:jj (bC l) key=true:=by simpa using h
  obtain⟨h3,h4⟩:=h2 h
  rw[h4,h1,h]
  refine⟨Int.natCast_nonneg _, ?_,aeY⟩
  show((cr (bC l) key:Nat):Int)<_;omega
def vt(key val:ByteArray):Bool→List En→List En
 |dn,[]=>if dn=true then []else [(key,val,())]
 |dn,x::r=>if dn=false∧slt x.1 key=false then(if x.1=key then(key,val,())::vt key val true r else(key,val,())::x::vt key val true r)else x::vt key val dn r
def cI(l:List En)(key:ByteArray):List En:=l.filter fun x=> !zT key x
def gV(l:List En)(key:ByteArray):Bool:=decide (((cI l key).length:Int)<(l.length:Int))
theorem agC(x:En)(r:List En)(key:ByteArray):cI (x::r) key=if(!zT key x)=true then x::cI r key else cI r key:=by
 unfold cI;rw[List.filter_cons]
end Lf
namespace Lf
open Go Go.Sx Go.Proofs
abbrev wF(l:List En)(j:Int):List En:=List.drop ((0:Nat)+j.toNat) (List.take ((0:Nat)+j.toNat+(((l.length:Int)).toNat - j.toNat)) l)
abbrev rA(l:List En)(i j:Int):Nat:=i.toNat - Int.toNat (0:Int)+(wF l j).length
abbrev agD(l:List En)(i j:Int):List En:=over (over l ((0:Nat)+(i.toNat - Int.toNat (0:Int))) (wF l j).length (wF l j)) ((0:Nat)+((rA l i j:Nat):Int).toNat) (((l.length:Int)).toNat - ((rA l i j:Nat):Int).toNat) (List.replicate (((l.length:Int)).toNat - ((rA l i j:Nat):Int).toNat) (CL.d cE))
def ae1:Spec (List En×Int×Int):=⟨fun x=>[.vec 0,.s (.int .i64 x.2.1),.s (.int .i64 x.2.2)],fun x=>[.vec (.ad cE x.1) eE],fun x=>[0≤x.2.1,x.2.1<x.2.2,x.2.2≤((x.1.length:Nat):Int)],fun x=>[.vec (.ad cE (agD x.1 x.2.1 x.2.2)) eE],fun x=>.part 0 0 (rA x.1 x.2.1 x.2.2)⟩
def arZ:List AV→RM ((List En×Int×Int)×List Nat)
 |[.vec id,.s (.int .i64 i),.s (.int .i64 j)]=>.look id fun
  |some (.vec (.ad [.str,.str] l) _)=>.ret ((l,i,j),[id])
  |_=>.fail "delete: no row"
 |_=>.fail "delete"
def ai2:aH:=[(58,zr),(68,apt),(70,dI ae1 arZ)]
theorem alG(l:List En)(key:ByteArray):run P ai2.sum Tryd.f52 [] (start Tryd.f52 [.s (.ro (.ad cE l)),.s (.str key)] [])=
 Tree.need (l.length≤1000000) (.need (iz (bC l)) (.need (l.length≤100000) (.ite (jj (bC l) key) (.need (aD ((↑(cr (bC l) key):bm.V)+1)) (.need (bJ (some [AV.vec 0,.s (.int .i64 (↑(cr (bC l) key):bm.V)),.s (.int .i64 ((↑(cr (bC l) key):bm.V)+1))])) (.need (bJ (some [ae.vec (.ad [.str,.str] l) 34])) (.need ((0:Int)≤(↑(cr (bC l) key):bm.V)) (.need ((↑(cr (bC l) key):bm.V)<(↑(cr (bC l) key):bm.V)+1) (.need ((↑(cr (bC l) key):bm.V)+1≤(↑l.length:Int)) (.ret [.vec (.ad [.str,.str] (agD l (↑(cr (bC l) key):bm.V) ((↑(cr (bC l) key):bm.V)+1))) 34] (.bp [.part 0 0 (rA l (↑(cr (bC l) key):bm.V) ((↑(cr (bC l) key):bm.V)+1)),.s (.bool (jj (bC l) key))])))))))) (.ret [.vec (.ad [.str,.str] l) 34] (.bp [.vec 0,.s (.bool (jj (bC l) key))]))))):=by kernel_rfl
theorem agE{Z:aX}:jU P Z 70 ae1:=by
 refine aO Tryd.func70 (by kernel_rfl) (fun x=>Nat.le_of_ble_eq_true (by kernel_rfl)) ?_
 rintro⟨(l:List En),(i:Int),(j:Int)⟩ ⟨(h1:0≤i),(h2:i<j),(h3:j≤(l.length:Int)),_⟩ X hX hz
 have e1:(wF l j).length=l.length - j.toNat:=by simp only[wF,List.length_drop,List.length_take];omega
 refine eV hz hX (by simp) aH.Ok.nil Tryd.func70 (adr l i j) ⟨h1,by omega,h3,by omega,fun h=>absurd h (by simp;omega),fun _=>⟨by omega,h1,by omega,by omega,h3,by omega, ?_, ?_, ?_, ?_,⟨⟨[],[0],1,[]⟩,Nat.le_refl _, ?_⟩⟩⟩
 ·show 0+(i.toNat - Int.toNat 0)+(wF l j).length≤l.length;rw[e1];omega
 ·show(0:Int)≤((rA l i j:Nat):Int);omega
 ·show((rA l i j:Nat):Int)≤_;simp only[rA,e1];omega
 ·show((0:Nat):Int)+(l.length:Int)≤((over l (0+(i.toNat - Int.toNat 0)) (wF l j).length (wF l j)).length:Int)
  simp only[over,List.length_append,List.length_take,List.length_drop,e1];omega
 ·show Norm.run _ _=some ⟨[.part 0 0 (rA l i j)],[.vec (.ad cE (agD l i j)) eE],[],{}⟩
  kernel_rfl
theorem ai3{l:List En}{key:ByteArray}(hs:iz (bC l)):(jj (bC l) key=false→cI l key=l)∧(jj (bC l) key=true→cI l key=l.take (cr (bC l) key)++l.drop (cr (bC l) key+1)):=by
 have hk:∀t,(bC l).getD t ByteArray.empty=(l.getD t dE).1:=fun t=>cA l o9 dE t
 have hn:(bC l).length=l.length:=List.length_map _
 obtain⟨f1,f2⟩:=ae0 (key:=key) hs
 refine⟨fun h=> ?_,fun h=> ?_⟩
 ·rw[h]at f1
  refine List.filter_eq_self.2 fun x hx=> ?_
  have:l.find? (zT key)=none:=by
   cases hf:l.find? (zT key)with
   |none=>rfl
   |some y=>rw[np,hf]at f1;cases f1
  have:=List.find?_eq_none.1 this x hx
  cases hb:zT key x
  ·rfl
  ·exact absurd hb this
 ·obtain⟨h1,h2⟩:=jx.1 h
  rw[hk]at h2
  rw[hn]at h1
  have e:l=l.take (cr (bC l) key)++l.getD (cr (bC l) key) dE::l.drop (cr (bC l) key+1):=by rw[←drop_cons dE h1,List.take_append_drop]
  have other:∀i,i<l.length→i≠cr (bC l) key→(!zT key (l.getD i dE))=true:=fun i hi cu=>by
   cases hb:zT key (l.getD i dE)
   ·rfl
   ·exact absurd (aeZ hs hi h1 ((show(l.getD i dE).1=key from of_decide_eq_true hb).trans h2.symm)) cu
  have g1:cI (l.take (cr (bC l) key)) key=l.take (cr (bC l) key):=by
   refine List.filter_eq_self.2 fun x hx=> ?_
   obtain⟨i,hi,rfl⟩:=List.getElem_of_mem hx
   rw[List.length_take]at hi
   have:=other i (by omega) (by omega)
   rw[bh (by omega)]at this
   rw[List.getElem_take];exact this
  have g2:cI (l.drop (cr (bC l) key+1)) key=l.drop (cr (bC l) key+1):=by
   refine List.filter_eq_self.2 fun x hx=> ?_
   obtain⟨i,hi,rfl⟩:=List.getElem_of_mem hx
   rw[List.length_drop]at hi
   have:=other (cr (bC l) key+1+i) (by omega) (by omega)
   rw[bh (by omega)]at this
   rw[List.getElem_drop];exact this
  have app:∀a b:List En,cI (a++b) key=cI a key++cI b key:=fun a b=>List.filter_append ..
  have:cI l key=cI (l.take (cr (bC l) key)++l.getD (cr (bC l) key) dE::l.drop (cr (bC l) key+1)) key:=by rw[←e]
  rw[this,app,agC,if_neg (show¬(!decide ((l.getD (cr (bC l) key) dE).1=key))=true from by rw[decide_eq_true h2];simp),g1,g2]
theorem alH{l:List En}{key:ByteArray}(hs:iz (bC l)):gV l key=jj (bC l) key:=by
 obtain⟨h1,h2⟩:=ai3 (key:=key) hs
 cases ha:jj (bC l) key
 ·rw[gV,h1 ha];simp
 ·obtain⟨h3,_⟩:=jx.1 ha
  rw[List.length_map]at h3
  rw[gV,h2 ha]
  simp only[List.length_append,List.length_take,List.length_drop,decide_eq_true_eq]
  omega
theorem agF{l:List En}{k:Nat}(h:k<l.length):(agD l (k:Int) ((k:Int)+1)).take (rA l (k:Int) ((k:Int)+1))=l.take k++l.drop (k+1):=by
 have e0:wF l ((k:Int)+1)=l.drop (k+1):=by
  simp only[wF]
  rw[show 0+((k:Int)+1).toNat=k+1 from by omega,List.take_of_length_le (by omega)]
 have e1:rA l (k:Int) ((k:Int)+1)=l.length - 1:=by
  simp only[rA,e0,List.length_drop];omega
 simp only[agD,e0,e1,over]
 rw[show 0+((k:Int).toNat - Int.toNat 0)=k from by omega,show 0+(((l.length - 1:Nat):Int)).toNat=l.length - 1 from by omega,show k+(l.drop (k+1)).length=l.length - 1 from by rw[List.length_drop];omega]
 rw[List.take_of_length_le (l:=l.drop (k+1)) (Nat.le_refl _)]
 have hlen:(l.take k++l.drop (k+1)).length=l.length - 1:=by simp only[List.length_append,List.length_take,List.length_drop];omega
 rw[List.append_assoc,List.append_assoc,←List.append_assoc (l.take k),List.take_left' hlen,List.take_left' hlen]
theorem ai4{Z:aX}:dd P Z 52 [n9,dL] [n9,cv] (fun(l,_,())=>[(l:List En).length≤100000,iz (bC l)]) (fun(l,key,())=>(cI l key,gV l key,())):=by
 refine aq Tryd.func52 (by kernel_rfl) (by kernel_rfl) ?_
 rintro⟨(l:List En),(key:ByteArray),⟨⟩⟩ _ ⟨(hl:l.length≤100000),(hs:iz (bC l)),_⟩ X hX hz
 show Safe P 52 X (Ends [n9,cv] (cI l key,gV l key,())) _
 have hT:ai2.Ok P Z:=aH.Ok.cons ru.sum (aH.Ok.cons adq.sum (aH.Ok.cons (agE.sum arZ) aH.Ok.nil))
 obtain⟨d1,d2⟩:=ai3 (key:=key) hs
 have hb:=alH (key:=key) hs
 have hle:=u4 (bC l) key
 rw[List.length_map]at hle
 refine go hz hX hT Tryd.func52 (alG l key) ⟨by omega,hs,hl,fun h=> ?_,fun h=> ?_⟩
 ·obtain⟨h3,_⟩:=jx.1 h
  rw[List.length_map]at h3
  refine⟨⟨?_, ?_⟩,rfl,rfl, ?_, ?_, ?_, ?_⟩
  ·show(-9223372036854775808:Int)≤((cr (bC l) key:Nat):Int)+1;omega
  ·show((cr (bC l) key:Nat):Int)+1≤(9223372036854775807:Int);omega
  ·show(0:Int)≤((cr (bC l) key:Nat):Int);omega
  ·show((cr (bC l) key:Nat):Int)<((cr (bC l) key:Nat):Int)+1;omega
  ·show((cr (bC l) key:Nat):Int)+1≤(l.length:Int);omega
  ·refine aQ (List.drop 0 ((agD l ((cr (bC l) key:Nat):Int) (((cr (bC l) key:Nat):Int)+1)).take (0+rA l ((cr (bC l) key:Nat):Int) (((cr (bC l) key:Nat):Int)+1))),jj (bC l) key,()) ?_ (by kernel_rfl)
   rw[d2 h,hb,Nat.zero_add,agF h3];rfl
 ·refine aQ (l,jj (bC l) key,()) ?_ (by kernel_rfl)
  rw[d1 h,hb];rfl
end Lf
namespace Lf
open Go Go.Sx Go.Proofs
theorem nS(key val:ByteArray):∀l:List En,vt key val true l=l
 |[]=>rfl
 |x::r=>by rw[vt,if_neg (by simp),nS key val r]
def bw(l:List En)(key val:ByteArray):List En:=l.take (cr (bC l) key)++(key,val,())::l.drop (if jj (bC l) key=true then cr (bC l) key+1 else cr (bC l) key)
theorem zt{x:En}{r:List En}{key:ByteArray}(h:slt x.1 key=true):cr (bC (x::r)) key=cr (bC r) key+1:=by simp[cr,bC,List.takeWhile,h]
theorem ads{x:En}{r:List En}{key:ByteArray}(h:slt x.1 key=false):cr (bC (x::r)) key=0:=by simp[cr,bC,List.takeWhile,h]
theorem ae2{x:En}{r:List En}{key:ByteArray}(h:slt x.1 key=true):jj (bC (x::r)) key=jj (bC r) key:=by
 unfold jj
 rw[zt h]
 rfl
theorem ai5{x:En}{r:List En}{key:ByteArray}(h:slt x.1 key=false):jj (bC (x::r)) key=decide (x.1=key):=by
 unfold jj
 rw[ads h]
 simp[bC]
theorem put_eq(key val:ByteArray):∀l:List En,vt key val false l=bw l key val
 |[]=>rfl
 |x::r=>by
  rw[vt]
  cases hs:slt x.1 key
  ·rw[if_pos ⟨rfl,rfl⟩,bw,ads hs,ai5 hs,nS]
   by_cases hk:x.1=key
   ·rw[if_pos hk,decide_eq_true hk];rfl
   ·rw[if_neg hk,decide_eq_false hk];rfl
  ·rw[if_neg (by simp),put_eq key val r,bw,bw,zt hs,ae2 hs]
   cases jj (bC r) key<;>rfl
theorem zu{l:List En}{key val:ByteArray}:(bw l key val).length=l.length+(if jj (bC l) key=true then 0 else 1):=by
 have:=u4 (bC l) key
 rw[List.length_map]at this
 cases ha:jj (bC l) key
 ·simp only[bw,ha,List.length_append,List.length_cons,List.length_take,List.length_drop]
  simp;omega
 ·have h1:=(jx.1 ha).1
  rw[List.length_map]at h1
  simp only[bw,ha,List.length_append,List.length_cons,List.length_take,List.length_drop]
  simp;omega
abbrev ris(l:List En):Prop:=l.Pairwise fun a b=>slt a.1 b.1=true
theorem tg{l:List En}:iz (bC l)↔ris l:=by
 have hk:∀t,(bC l).getD t ByteArray.empty=(l.getD t dE).1:=fun t=>cA l o9 dE t
 have hn:(bC l).length=l.length:=List.length_map _
 rw[ris,List.pairwise_iff_getElem]
 constructor
 ·intro h i j hi hj kX
  have:=h i j kX (by omega)
  rw[hk,hk,bh hi,bh hj]at this
  exact this
 ·intro h i j kX hj
  rw[hn]at hj
  have:=h i j (by omega) hj kX
  rw[hk,hk,bh (by omega),bh hj]
  exact this
theorem ae3:∀{l:List En} (key val:ByteArray),ris l→ris (vt key val false l)∧∀a:En,slt a.1 key=true→(∀x∈l,slt a.1 x.1=true)→∀x∈vt key val false l,slt a.1 x.1=true
 |[],key,val,_=>by
  rw[vt,if_neg (by simp)]
  exact⟨List.pairwise_singleton ..,fun a h _ x hx=>by
   simp only[List.mem_singleton]at hx
   subst hx;exact h⟩
 |x::r,key,val,h=>by
  obtain⟨h1,h2⟩:=List.pairwise_cons.1 h
  obtain⟨g1,g2⟩:=ae3 (l:=r) key val h2
  rw[vt]
  split
  ·rename_i hc
   split
   ·rename_i hk
    rw[nS]
    refine⟨List.pairwise_cons.2 ⟨fun y hy=>by rw[show(key,val,()).1=x.1 from hk.symm];exact h1 y hy,h2⟩,fun a ha hl y hy=> ?_⟩
    rcases List.mem_cons.1 hy with rfl|hy
    ·exact ha
    ·exact hl y (List.mem_cons_of_mem _ hy)
   ·rename_i hk
    rw[nS]
    have bd:slt key x.1=true:=uQ hc.2 hk
    refine⟨List.pairwise_cons.2 ⟨fun y hy=> ?_,h⟩,fun a ha hl y hy=> ?_⟩
    ·rcases List.mem_cons.1 hy with rfl|hy
     ·exact bd
     ·exact cH bd (h1 y hy)
    ·rcases List.mem_cons.1 hy with rfl|hy
     ·exact ha
     ·exact hl y hy
  ·rename_i hc
   have hx:slt x.1 key=true:=by simpa using hc
   refine⟨List.pairwise_cons.2 ⟨fun y hy=>g2 x hx h1 y hy,g1⟩,fun a ha hl y hy=> ?_⟩
   rcases List.mem_cons.1 hy with rfl|hy
   ·exact hl _ (by simp)
   ·exact g2 a ha (fun z hz=>hl z (List.mem_cons_of_mem _ hz)) y hy
theorem alI{l:List En}(key val:ByteArray)(h:iz (bC l)):iz (bC (bw l key val)):=by
 rw[←put_eq]
 exact tg.2 (ae3 key val (tg.1 h)).1
theorem alJ{l:List En}(key:ByteArray)(h:iz (bC l)):iz (bC (cI l key)):=tg.2 (List.Pairwise.filter _ (tg.1 h))
end Lf
namespace Go.Sx
open Go
section
variable{ρ az:Nat→Value}{H H':aG}{G O O':Nat→Prop}{w w':World}{P:Program}{X:Ctx}{L:List ae}{K:List ae→AV→Prop}
theorem apw(hs:Sat ρ (lk L) G w){id:Nat}{c c2:aF}{e:TypeId}{root:Value}(du:L[id]? =some (.vec c e))(pN:∀b,ef root=some b→ef (ρ id)=some b)(dR:hP ρ (lk L) (aL ρ (lk L) G) w root (.vec c2 e)):
 ∃az,Sat az (lk (L.set id .dead++[.vec c2 e])) G w∧xu ρ L G w az (L.set id .dead++[.vec c2 e])∧az L.length=root:=by
 have bd:id<L.length:=(List.getElem?_eq_some_iff.1 du).1
 generalize hx:ae.vec c2 e=x
 have hxa:x.alive=true:=by rw[←hx];rfl
 have old:∀{k:Nat} {o:ae},(L.set id .dead++[x])[k]? =some o→(k=L.length∧o=x)∨(k=id∧o=.dead)∨(k≠id∧k≠L.length∧L[k]? =some o):=by
  intro k o ho
  have h2:=(List.getElem?_eq_some_iff.1 ho).1
  simp only[List.length_append,List.length_set,List.length_cons,List.length_nil]at h2
  by_cases hk:k=L.length
  ·subst hk
   rw[List.getElem?_append_right (by simp)]at ho
   simp at ho
   exact .inl ⟨rfl,ho.symm⟩
  ·rw[List.getElem?_append_left (by simp;omega),List.getElem?_set]at ho
   split at ho
   ·rename_i sK
    first
     |exact .inr (.inl ⟨sK.symm,by simpa using ho.symm⟩)
     |(rw[if_pos bd]at ho;exact .inr (.inl ⟨sK.symm,by simpa using ho.symm⟩))
   ·rename_i sK
    exact .inr (.inr ⟨Ne.symm sK,hk,ho⟩)
 have new:∀{k:Nat} {o:ae},L[k]? =some o→k≠id→(L.set id .dead++[x])[k]? =some o:=by
  intro k o ho hk
  have h1:=(List.getElem?_eq_some_iff.1 ho).1
  rw[List.getElem?_append_left (by simpa using h1),List.getElem?_set_ne (Ne.symm hk)]
  exact ho
 have ah7:(L.set id .dead++[x])[id]? =some .dead:=by
  rw[List.getElem?_append_left (by simpa using bd),List.getElem?_set_self bd]
 have ari:(L.set id .dead++[x])[L.length]? =some x:=by
  rw[List.getElem?_append_right (by simp)]
  simp
 let az:Nat→Value:=fun j=>if j=L.length then root else ρ j
 have dD:∀b,Own az (lk (L.set id .dead++[x])) b→Own ρ (lk L) b:=by
  rintro b ⟨k,o,ho,ha,hb⟩
  rcases old ho with⟨h1,h2⟩|⟨h1,h2⟩|⟨h1,h2,h3⟩
  ·simp only[az,h1,if_true]at hb
   exact⟨id,_,du,rfl,pN b hb⟩
  ·subst h2;cases ha
  ·simp only[az,h2,if_false]at hb
   exact⟨k,o,h3,ha,hb⟩
 have st:xu ρ L G w az (L.set id .dead++[x]):=by
  refine⟨fun k o ho=> ?_,fun k o ho=> ?_,fun b hb=>.inl ?_,fun _ _ _=>rfl,Nat.le_refl _⟩
  ·have h1:k<L.length:=(List.getElem?_eq_some_iff.1 ho).1
   simp only[az]
   rw[if_neg (by omega)]
  ·by_cases hk:k=id
   ·subst hk
    exact⟨.dead,ah7,fun c' e' hc=>by cases hc⟩
   ·exact⟨o,new ho hk,fun c' e' hc=>⟨c',e',hc,rfl,rfl⟩⟩
  ·rcases hb with hb|hb
   ·exact .inl (dD b hb)
   ·exact .inr hb
 refine⟨az,⟨fun k o ho=> ?_,fun i j oi oj b hi hj ai aj bi bj=> ?_,fun b hb=>hs.apart b (dD b hb),hs.low⟩,st, ?_⟩
 ·rcases old ho with⟨h1,h2⟩|⟨h1,h2⟩|⟨h1,h2,h3⟩
  ·rw[h2]
   simp only[az,h1,if_true]
   rw[hx]at dR
   exact dR.step st (fun _ _ _=>rfl)
  ·subst h2;trivial
  ·simp only[az,h2,if_false]
   exact(hs.obj k o h3).step st (fun _ _ _=>rfl)
 ·have cls:∀{k:Nat} {o:ae},(L.set id .dead++[x])[k]? =some o→o.alive=true→ef (az k)=some b→(k=L.length∧ef (ρ id)=some b)∨(k≠id∧k≠L.length∧L[k]? =some o∧ef (ρ k)=some b):=by
   intro k o ho ha hb
   rcases old ho with⟨h1,h2⟩|⟨h1,h2⟩|⟨h1,h2,h3⟩
   ·simp only[az,h1,if_true]at hb
    exact .inl ⟨h1,pN b hb⟩
   ·subst h2;cases ha
   ·simp only[az,h2,if_false]at hb
    exact .inr ⟨h1,h2,h3,hb⟩
  rcases cls hi ai bi with⟨h1,h2⟩|⟨h1,h2,h3,h4⟩<;>rcases cls hj aj bj with⟨k1,k2⟩|⟨k1,k2,k3,k4⟩
  ·rw[h1,k1]
  ·exact absurd (hs.inj j id oj _ b k3 du aj rfl k4 h2) k1
  ·exact absurd (hs.inj i id oi _ b h3 du ai rfl h4 k2) h1
  ·exact hs.inj i j oi oj b h3 k3 ai aj h4 k4
 ·simp only[az,if_true]
def qo(c:aF)(m:Nat):aF:=.dZ c.size (c.n+m) fun i j=>bif i.blt c.n then c.cell i j else .aN
theorem abo{tmps:List AV}{t:Nat}{y x:AV}(ht:tmps.getD t (.s .aN)=y)(hy:y≠.s .aN)(u:Nat):(tmps.set t x).getD u (.s .aN)=if u=t then x else tmps.getD u (.s .aN):=by
 have bd:t<tmps.length:=by
  rcases Nat.lt_or_ge t tmps.length with h|h
  ·exact h
  ·rw[List.getD,List.getElem?_eq_none h]at ht
   exact absurd ht.symm hy
 by_cases hu:u=t
 ·subst hu;rw[if_pos rfl];simp[List.getD,bd]
 ·rw[if_neg hu];simp[List.getD,List.getElem?_set_ne (Ne.symm hu)]
theorem ai6{a:Option Addr}{cap m:Nat}{c:aF}{e:TypeId}(hm:0<m)(ar0:c.n+m≤cap)(h:hP ρ H O w (.slice a c.n cap) (.vec c e)):hP ρ H O w (.slice a (c.n+m) cap) (.vec (qo c m) e):=by
 obtain⟨a2,pK,h1,h2,h3,h4⟩:=h
 cases h1
 rcases h4 with h4|⟨b,o,cells,fr,us,rfl,g1,g2,g3,g4⟩
 ·omega
 ·refine⟨some ⟨b,o,none⟩,cap,rfl,ar0,h3,.inr ⟨b,o,cells,fr,fun i j=>if i<c.n then us i j else cells.getD (o+i*c.size+j) undef,rfl,g1,g2,g3,fun i j hi hj=> ?_⟩⟩
  have hi:i<c.n+m:=hi
  have hj:j<c.size:=hj
  show cells[o+i*c.size+j]? =_∧aK O w (bif i.blt c.n then c.cell i j else .aN) _
  by_cases dm:i<c.n
  ·dsimp only
   rw[if_pos dm,show i.blt c.n=true from by simpa[Nat.blt,Nat.lt_iff_add_one_le]using dm]
   exact g4 i j dm hj
  ·dsimp only
   rw[if_neg dm,show i.blt c.n=false from by
    cases hb:i.blt c.n
    ·rfl
    ·exact absurd (show i<c.n from by simpa[Nat.blt,Nat.lt_iff_add_one_le]using hb) dm]
   have bd:o+i*c.size+j<cells.length:=by
    have:(i+1)*c.size≤cap*c.size:=Nat.mul_le_mul_right _ (by omega)
    rw[Nat.succ_mul]at this
    omega
   have e:cells[o+i*c.size+j]? =some (cells.getD (o+i*c.size+j) undef):=by simp[List.getD,bd]
   exact⟨e,.aN _ (g2.2 _ (List.mem_of_getElem? e))⟩
theorem agG{f:FuncId}{tmps:List AV}{todo:List Item}{t id m:Nat}{c:aF}{e:TypeId}(ht:tmps.getD t (.s .aN)=.vec id)(du:L[id]? =some (.vec c e))(hm:0<m)
 {stk:nI} (hA:Safe P f X K ⟨tmps.set t (.part L.length 0 c.n),L.set id .dead++[.vec (qo c m) e],todo,stk⟩)
 (hB:Safe P f X K ⟨tmps.set t (.s (.yf c (c.n+m))),L.set id .dead,todo,stk⟩):Safe P f X K ⟨tmps,L,todo,stk⟩:=by
 intro G E ρ a w gR gY hr bf tf fsf hwf
 have hs:Sat ρ (lk L) G w:=hr.sat
 have hd:=hr.den t
 rw[show(St.tmps ⟨tmps,L⟩).getD t (.s .aN)=.vec id from ht]at hd
 obtain⟨a0,cap,hv,dM,hle,acJ⟩:=jo hs du hd
 have dR:=hs.obj id _ du
 rw[dM,hv]at dR
 have bd:id<L.length:=(List.getElem?_eq_some_iff.1 du).1
 by_cases hc:c.n+m≤cap
 ·obtain⟨az,s',st,hρ⟩:=apw hs du (root:=.slice a0 (c.n+m) cap) (c2:=qo c m) (fun b hb=>by
   rw[dM,hv]
   cases a0 with
   |none=>simp[ef]at hb
   |some y=>simpa[ef]using hb) (ai6 hm hc dR)
  refine hA G E az a w gR gY ⟨s',by rw[List.length_set];exact hr.size,fun u=> ?_,hr.defers,hr.from_.trans st,hr.iR,hr.kept⟩ bf tf fsf hwf
  show ab az _ _ w ((tmps.set t (.part L.length 0 c.n)).getD u (.s .aN)) _
  rw[abo ht (by simp)]
  by_cases hu:u=t
  ·subst hu
   rw[if_pos rfl,hv]
   unfold ab ay
   refine⟨rfl,.vec (qo c m) e,by show(L.set id .dead++[_])[L.length]? =_;rw[List.getElem?_append_right (by simp)];simp,fun c' e' he=> ?_⟩
   cases he
   refine⟨by show 0+c.n≤c.n+m;omega,a0,cap,a0,hρ,hc,by simp,fun _=> ?_⟩
   rw[Nat.zero_mul]
   cases a0 with
   |none=>rfl
   |some y=>simp[Addr.add]
  ·rw[if_neg hu]
   exact(hr.den u).step st
 ·have eL:lk (L.set id .dead)=aB (lk L) id .dead:=by
   funext k
   show(L.set id .dead)[k]? =_
   rw[List.getElem?_set]
   by_cases hk:id=k
   ·subst hk;simp[aB,bd]
   ·rw[if_neg hk];simp[aB,Ne.symm hk]
  have st:xu ρ L G w ρ (L.set id .dead):=by
   show Step ρ (lk L) _ w ρ (lk (L.set id .dead)) (aL ρ (lk (L.set id .dead)) G) w
   rw[eL]
   exact fx (H:=lk L) du
  have hs':Sat ρ (lk (L.set id .dead)) G w:=by rw[eL];exact Sat.kill hs du
  refine hB G E ρ a w gR gY ⟨hs',by rw[List.length_set];exact hr.size,fun u=> ?_,hr.defers,hr.from_.trans st,hr.iR,hr.kept⟩ bf tf fsf hwf
  show ab ρ _ _ w ((tmps.set t (.s (.yf c (c.n+m)))).getD u (.s .aN)) _
  rw[abo ht (by simp)]
  by_cases hu:u=t
  ·subst hu
   rw[if_pos rfl,hv]
   refine au (.yf _ _ _ _ _ ?_ (by omega))
   obtain⟨a2,pK,h1,h2,h3,h4⟩:=dR
   cases h1
   rcases h4 with rfl|⟨b,o,cells,fr,us,rfl,g1,g2,g3,g4⟩
   ·exact .ro c a0 0 (fun _ _=>undef) 0 0 hle acJ (fun h=>by omega) (fun i j hi _=>by omega) (fun i j hi _=>by omega)
   ·refine .ro c _ cap us b o hle acJ (fun h0=>⟨rfl, ?_, ?_⟩) (fun i j hi hj=> ?_) (fun i j hi hj=>((g4 i j hi hj).2).step st.fI st.heap st.size)
    ·have hb:ef (ρ id)=some b:=by
      rw[dM,hv]
      simp only[ef]
      rw[if_neg (by omega)]
     rintro(⟨k,ok,hk,ha,hb2⟩|hG)
     ·have hk:(L.set id .dead)[k]? =some ok:=hk
      rw[List.getElem?_set]at hk
      split at hk
      ·rename_i e1
       first
        |(simp only[Option.some.injEq]at hk;subst hk;cases ha)
        |(rw[if_pos bd]at hk;simp only[Option.some.injEq]at hk;subst hk;cases ha)
      ·rename_i e1
       exact e1 (hs.inj id k _ ok b du hk rfl ha hb hb2)
     ·exact hs.apart b ⟨id,_,du,rfl,hb⟩ hG
    ·exact(Array.getElem?_eq_some_iff.1 g1).1
    ·have:=(g4 i j hi hj).1
     simp only[World.cell?,g1]
     simp[this]
  ·rw[if_neg hu]
   exact(hr.den u).step st
theorem ai7{f:FuncId}{tmps:List AV}{todo:List Item}{stk:nI}{id:Nat}{c c':aF}{e:TypeId}(du:L[id]? =some (.vec c e))(hn:c'.n=c.n)(bI:c'.size=c.size)(hc:∀i j,i<c.n→j<c.size→c'.cell i j=c.cell i j)
 (h:Safe P f X K ⟨tmps,L.set id (.vec c' e),todo,stk⟩):Safe P f X K ⟨tmps,L,todo,stk⟩:=by
 intro G E ρ a w gR gY hr b t fs hw
 have hs:Sat ρ (lk L) G w:=hr.sat
 have bd:id<L.length:=(List.getElem?_eq_some_iff.1 du).1
 have eL:lk (L.set id (.vec c' e))=aB (lk L) id (.vec c' e):=by
  funext k
  show(L.set id (.vec c' e))[k]? =_
  rw[List.getElem?_set]
  by_cases hk:id=k
  ·subst hk;simp[aB,bd]
  ·rw[if_neg hk];simp[aB,Ne.symm hk]
 have dR:hP ρ (aB (lk L) id (.vec c' e)) (aL ρ (lk L) G) w (ρ id) (.vec c' e):=by
  obtain⟨a2,pK,h1,h2,h3,h4⟩:=hs.obj id _ du
  refine⟨a2,pK,by rw[hn];exact h1,by omega,h3, ?_⟩
  rcases h4 with h4|⟨b,o,cells,fr,us,rfl,g1,g2,g3,g4⟩
  ·exact .inl h4
  ·refine .inr ⟨b,o,cells,fr,us,rfl,g1,g2,by rw[bI];exact g3,fun i j hi hj=> ?_⟩
   rw[hn]at hi
   rw[bI]at hj
   rw[bI,hc i j hi hj]
   exact g4 i j hi hj
 obtain⟨az,s',_,st,_⟩:=Good.upd (H:=lk L) (o':=.vec c' e) (r:=.s .aN) (v:=undef) hs du rfl (fun c2 e2 he=>by cases he;exact⟨c,e,rfl,hn,bI⟩) dR (by unfold ab;trivial)
 rw[←eL]at s' st
 exact h G E az a w gR gY ⟨s',hr.size,fun u=>(hr.den u).step st,hr.defers,hr.from_.trans st,hr.iR,hr.kept⟩ b t fs hw
theorem agH{f:FuncId}{tmps:List AV}{todo:List Item}{stk:nI}{t id n:Nat}{c:aF}{e:TypeId}(ht:tmps.getD t (.s .aN)=.part id 0 n)(du:L[id]? =some (.vec c e))(hn:n=c.n)(h0:0<n)
 (h:Safe P f X K ⟨tmps.set t (.vec id),L,todo,stk⟩):Safe P f X K ⟨tmps,L,todo,stk⟩:=by
 intro G E ρ a w gR gY hr b tf fs hw
 have hd:=hr.den t
 rw[show(St.tmps ⟨tmps,L⟩).getD t (.s .aN)=.part id 0 n from ht]at hd
 refine h G E ρ a w gR gY (hr.yP ht ?_) b tf fs hw
 have hd0:=hd
 unfold ab ay at hd
 obtain⟨h1,o,ho,hv⟩:=hd
 have:o=.vec c e:=by
  have:(St.look ⟨tmps,L⟩) id=some (.vec c e):=du
  rw[this]at ho;cases ho;rfl
 subst this
 obtain⟨hle,a1,cap,a2,k1,k2,k3,k4⟩:=hv c e rfl
 have wk:cap≠0:=by omega
 unfold ab ay
 refine⟨h1,.vec c e,ho,fun c' e' he=> ?_⟩
 cases he
 rw[k3,k1,k4 wk,Nat.sub_zero,hn,Nat.zero_mul]
 cases a1 with
 |none=>rfl
 |some y=>simp[Addr.add]
end
end Go.Sx
namespace Lf
open Go Go.Sx Go.Proofs
def lD{α:Type}(l:List α)(k:Nat)(x:α):List α:=l.take k++x::l.drop k
def ae4:Spec (List En×En×Nat):=⟨fun x=>[.vec 0,.s (.int .i64 (x.2.2:Int)),.vec 1],fun x=>[.vec (.ad cE x.1) eE,.vec (.ad cE [x.2.1]) eE],fun x=>[x.2.2≤x.1.length,x.1.length≤100000],fun x=>[.dead,.vec (.ad cE [x.2.1]) eE,.vec (.ad cE (lD x.1 x.2.2 x.2.1)) eE],fun x=>.vec 2⟩
def anN:List (Nat×Norm):=[(8,⟨[],[0,1,2,7,8],2,[]⟩)]
noncomputable def cIA(l:List (CL cE))(x:CL cE)(k:Nat):bB:=⟨sl 95 [(0,.part 2 0 l.length),(1,.s (.int .i64 (k:Int))),(2,.vec 1),(7,.s (.int .i64 ((1:Nat):Int))),(8,.s (.int .i64 (l.length:Int)))],[.dead,.vec (.ad cE [x]) eE,.vec (qo (.ad cE l) 1) eE],hr Tryd.f69 8,{}⟩
noncomputable def cIB(l:List (CL cE))(x:CL cE)(k:Nat):bB:=⟨sl 95 [(0,.s (.yf (.ad cE l) (l.length+1))),(1,.s (.int .i64 (k:Int))),(2,.vec 1),(7,.s (.int .i64 ((1:Nat):Int))),(8,.s (.int .i64 (l.length:Int)))],[.dead,.vec (.ad cE [x]) eE],hr Tryd.f69 8,{}⟩
def ar1:List (Nat×Norm):=[(17,⟨[],[0],3,[]⟩)]
theorem alK(l:List (CL cE))(x:CL cE)(k:Nat):run P (aH.sum []) Tryd.f69 anN (start Tryd.f69 [.vec 0,.s (.int .i64 (k:Int)),.vec 1] [.vec (.ad cE l) eE,.vec (.ad cE [x]) eE])=
 Tree.need ((0:Int)≤(↑k:Int)) (.need ((↑k:Int)≤(↑l.length:Int)) (.need ((↑(0:Nat):Int)+(↑l.length:Int)≤(↑l.length:Int)) (.ite false (.ret [.vec (.ad [.str,.str] l) 34,.vec (.ad [.str,.str] [x]) 34] (.vec 0)) (.ite ((↑k:Int)==(↑l.length:Int)) (.need ((l.length+1)*(32:Nat)≤140737488355328) (.ret [.dead,.vec (.ad [.str,.str] [x]) 34,.vec (.ad [.str,.str] (l++[x])) 34] (.vec 2))) (.at (.mk (sl 95 [(0,.vec 0),(1,.s (.int .i64 (↑k:Int))),(2,.vec 1),(7,.s (.int .i64 (↑(1:Nat):Int))),(8,.s (.int .i64 (↑l.length:Int)))]) [.vec (.ad [.str,.str] l) 34,.vec (.ad [.str,.str] [x]) 34] (hr Tryd.f69 8) (.mk none false 0 [] 0))))))):=by kernel_rfl
theorem apx(l:List (CL cE))(x:CL cE)(k:Nat):run P (aH.sum []) Tryd.f69 ar1 (cIA l x k)=
 Tree.need (aD ((↑l.length:Int)+(1:Int)))
 (Tree.need ((↑l.length:Int)+(1:Int)≤(↑(l.length+(1:Nat) - (0:Nat)):Int))
   (Tree.need (aD ((↑l.length:Int)+(1:Int)))
     (Tree.need ((0:Int)≤(0:Int))
       (Tree.need ((0:Int)≤(↑l.length:Int)+(1:Int))
         (Tree.need ((↑(0:Nat):Int)+((↑l.length:Int)+(1:Int))≤(↑(l.length+(1:Nat)):Int))
           (Tree.need (aD ((↑k:Int)+(1:Int)))
             (Tree.need ((0:Int)≤(↑k:Int)+(1:Int))
               (Tree.need ((↑k:Int)+(1:Int)≤(↑(((↑l.length:Int)+(1:Int)).toNat - Int.toNat (0:Int)):Int))
                 (Tree.need ((↑(0:Nat):Int)+(↑(((↑l.length:Int)+(1:Int)).toNat - Int.toNat (0:Int)):Int)≤(↑(l.length+(1:Nat)):Int)) (Tree.need (aox P (86:Nat)) (Tree.need (aD ((↑k:Int)+(1:Int))) (Tree.need ((0:Int)≤(↑k:Int)+(1:Int)) (Tree.need ((↑k:Int)+(1:Int)≤(↑(((↑l.length:Int)+(1:Int)).toNat - Int.toNat (0:Int)):Int)) (Tree.need ((↑(0:Nat):Int)+(↑(((↑l.length:Int)+(1:Int)).toNat - Int.toNat (0:Int)):Int)≤(↑(l.length+(1:Nat)):Int)) (Tree.need ((0:Int)≤(↑k:Int)) (Tree.need ((↑k:Int)≤(↑(((↑l.length:Int)+(1:Int)).toNat - Int.toNat (0:Int)):Int)) (Tree.need ((↑(0:Nat):Int)+(↑(((↑l.length:Int)+(1:Int)).toNat - Int.toNat (0:Int)):Int)≤(↑(l.length+(1:Nat)):Int)) (Tree.need ((0:Int)≤(↑k:Int)) (Tree.need ((↑k:Int)≤(↑(((↑l.length:Int)+(1:Int)).toNat - Int.toNat (0:Int)):Int)) (Tree.need ((↑(0:Nat):Int)+(↑(((↑l.length:Int)+(1:Int)).toNat - Int.toNat (0:Int)):Int)≤(↑(l.length+(1:Nat)):Int)) (Tree.at (bB.mk (sl (95:Nat) [((0:Nat),AV.part (2:Nat) (0:Nat) (((↑l.length:Int)+(1:Int)).toNat - Int.toNat (0:Int)))]) [ae.dead,ae.vec (aF.ad [CK.str,CK.str] [x]) (34:Nat),ae.vec (aF.dZ (aF.dZ (aF.dZ (aF.ad cE l).size (l.length+(1:Nat)) fun(i j:Nat)=>bif i.blt l.length then(aF.ad cE l).cell i j else SV.aN).size (l.length+(1:Nat)) fun(i j:Nat)=>bif ((0:Nat)+((↑k:Int)+(1:Int)).toNat).ble i&&i.blt ((0:Nat)+((↑k:Int)+(1:Int)).toNat+min ((0:Nat)+(↑k:Int).toNat+((↑(((↑l.length:Int)+(1:Int)).toNat - Int.toNat (0:Int)):Int).toNat - (↑k:Int).toNat) - ((0:Nat)+(↑k:Int).toNat)) ((↑(((↑l.length:Int)+(1:Int)).toNat - Int.toNat (0:Int)):Int).toNat - ((↑k:Int)+(1:Int)).toNat))then(dv (aF.dZ (aF.ad cE l).size (l.length+(1:Nat)) fun(i j:Nat)=>bif i.blt l.length then(aF.ad cE l).cell i j else SV.aN) ((0:Nat)+(↑k:Int).toNat) ((0:Nat)+(↑k:Int).toNat+((↑(((↑l.length:Int)+(1:Int)).toNat - Int.toNat (0:Int)):Int).toNat - (↑k:Int).toNat))).cell (i - ((0:Nat)+((↑k:Int)+(1:Int)).toNat)) j else(aF.dZ (aF.ad cE l).size (l.length+(1:Nat)) fun(i j:Nat)=>bif i.blt l.length then(aF.ad cE l).cell i j else SV.aN).cell i j).size (l.length+(1:Nat)) fun(i j:Nat)=>bif ((0:Nat)+(↑k:Int).toNat).ble i&&i.blt ((0:Nat)+(↑k:Int).toNat+min (1:Nat) ((↑(((↑l.length:Int)+(1:Int)).toNat - Int.toNat (0:Int)):Int).toNat - (↑k:Int).toNat))then(aF.ad [CK.str,CK.str] [x]).cell (i - ((0:Nat)+(↑k:Int).toNat)) j else(aF.dZ (aF.dZ (aF.ad cE l).size (l.length+(1:Nat)) fun(i j:Nat)=>bif i.blt l.length then(aF.ad cE l).cell i j else SV.aN).size (l.length+(1:Nat)) fun(i j:Nat)=>bif ((0:Nat)+((↑k:Int)+(1:Int)).toNat).ble i&&i.blt ((0:Nat)+((↑k:Int)+(1:Int)).toNat+min ((0:Nat)+(↑k:Int).toNat+((↑(((↑l.length:Int)+(1:Int)).toNat - Int.toNat (0:Int)):Int).toNat - (↑k:Int).toNat) - ((0:Nat)+(↑k:Int).toNat)) ((↑(((↑l.length:Int)+(1:Int)).toNat - Int.toNat (0:Int)):Int).toNat - ((↑k:Int)+(1:Int)).toNat))then(dv (aF.dZ (aF.ad cE l).size (l.length+(1:Nat)) fun(i j:Nat)=>bif i.blt l.length then(aF.ad cE l).cell i j else SV.aN) ((0:Nat)+(↑k:Int).toNat) ((0:Nat)+(↑k:Int).toNat+((↑(((↑l.length:Int)+(1:Int)).toNat - Int.toNat (0:Int)):Int).toNat - (↑k:Int).toNat))).cell (i - ((0:Nat)+((↑k:Int)+(1:Int)).toNat)) j else(aF.dZ (aF.ad cE l).size (l.length+(1:Nat)) fun(i j:Nat)=>bif i.blt l.length then(aF.ad cE l).cell i j else SV.aN).cell i j).cell i j) (34:Nat)] (hr Tryd.f69 (17:Nat)) (nI.mk none false (0:Nat) [] (0:Nat)))))))))))))))))))))))):=by kernel_rfl
noncomputable def cIC(l:List (CL cE))(x:CL cE):bB:=⟨sl 95 [(0,.vec 2)],[.dead,.vec (.ad cE [x]) eE,.vec (.ad cE l) eE],hr Tryd.f69 17,{}⟩
theorem apy(l:List (CL cE))(x:CL cE):run P (aH.sum []) Tryd.f69 [] (cIC l x)=
 Tree.ret [.dead,.vec (.ad [.str,.str] [x]) 34,.vec (.ad [.str,.str] l) 34] (.vec 2):=by kernel_rfl
theorem apz(l:List (CL cE))(x:CL cE)(k:Nat):run P (aH.sum []) Tryd.f69 [] (cIB l x k)=
 Tree.need (aD ((↑l.length:Int)+1))
 (.need ((↑(l.length+1):Int)≤(↑l.length:Int)+1) (.need ((0:Int)≤(↑k:Int)) (.need ((↑k:Int)≤(↑l.length:Int)) (.need (aD ((↑l.length:Int)+1)) (.need (aD ((↑l.length:Int)+1 - (↑k:Int))) (.need ((0:Int)<(↑l.length:Int)+1 - (↑k:Int)) (.need ((↑(l.length+1):Int)≤(↑(List.drop 0 (List.take (↑k:Int).toNat l)).length:Int)+((↑l.length:Int)+1 - (↑k:Int))) (.need ((↑(List.drop 0 (List.take (↑k:Int).toNat l)).length:Int)+((↑l.length:Int)+1 - (↑k:Int))≤4294967296) (.need ((0:Int)≤(↑k:Int)) (.need ((↑k:Int)≤(↑(List.drop 0 (List.take (↑k:Int).toNat l)++List.replicate ((↑l.length:Int)+1 - (↑k:Int)).toNat (CL.d [.str,.str])).length:Int)) (.need ((↑(0:Nat):Int)+(↑(List.drop 0 (List.take (↑k:Int).toNat l)++List.replicate ((↑l.length:Int)+1 - (↑k:Int)).toNat (CL.d [.str,.str])).length:Int)≤(↑(List.drop 0 (List.take (↑k:Int).toNat l)++List.replicate ((↑l.length:Int)+1 - (↑k:Int)).toNat (CL.d [.str,.str])).length:Int)) (.need (aD ((↑k:Int)+1)) (.need ((0:Int)≤(↑k:Int)+1) (.need ((↑k:Int)+1≤(↑(over (List.drop 0 (List.take (↑k:Int).toNat l)++List.replicate ((↑l.length:Int)+1 - (↑k:Int)).toNat (CL.d [.str,.str])) ((0:Nat)+(↑k:Int).toNat) (min 1 ((↑(List.drop 0 (List.take (↑k:Int).toNat l)++List.replicate ((↑l.length:Int)+1 - (↑k:Int)).toNat (CL.d [.str,.str])).length:Int).toNat - (↑k:Int).toNat)) [x]).length:Int)) (.need ((↑(0:Nat):Int)+(↑(over (List.drop 0 (List.take (↑k:Int).toNat l)++List.replicate ((↑l.length:Int)+1 - (↑k:Int)).toNat (CL.d [.str,.str])) ((0:Nat)+(↑k:Int).toNat) (min 1 ((↑(List.drop 0 (List.take (↑k:Int).toNat l)++List.replicate ((↑l.length:Int)+1 - (↑k:Int)).toNat (CL.d [.str,.str])).length:Int).toNat - (↑k:Int).toNat)) [x]).length:Int)≤(↑(over (List.drop 0 (List.take (↑k:Int).toNat l)++List.replicate ((↑l.length:Int)+1 - (↑k:Int)).toNat (CL.d [.str,.str])) ((0:Nat)+(↑k:Int).toNat) (min 1 ((↑(List.drop 0 (List.take (↑k:Int).toNat l)++List.replicate ((↑l.length:Int)+1 - (↑k:Int)).toNat (CL.d [.str,.str])).length:Int).toNat - (↑k:Int).toNat)) [x]).length:Int)) (.need ((0:Int)≤(↑k:Int)) (.need ((↑k:Int)≤(↑l.length:Int)) (.need ((↑l.length:Int)≤(↑l.length:Int)) (.ret [.dead,.vec (.ad [.str,.str] [x]) 34,.vec (.ad [.str,.str] (over (over (List.drop 0 (List.take (↑k:Int).toNat l)++List.replicate ((↑l.length:Int)+1 - (↑k:Int)).toNat (CL.d [.str,.str])) ((0:Nat)+(↑k:Int).toNat) (min 1 ((↑(List.drop 0 (List.take (↑k:Int).toNat l)++List.replicate ((↑l.length:Int)+1 - (↑k:Int)).toNat (CL.d [.str,.str])).length:Int).toNat - (↑k:Int).toNat)) [x]) ((0:Nat)+((↑k:Int)+1).toNat) (min (List.drop (↑k:Int).toNat (List.take (↑l.length:Int).toNat l)).length ((↑(over (List.drop 0 (List.take (↑k:Int).toNat l)++List.replicate ((↑l.length:Int)+1 - (↑k:Int)).toNat (CL.d [.str,.str])) ((0:Nat)+(↑k:Int).toNat) (min 1 ((↑(List.drop 0 (List.take (↑k:Int).toNat l)++List.replicate ((↑l.length:Int)+1 - (↑k:Int)).toNat (CL.d [.str,.str])).length:Int).toNat - (↑k:Int).toNat)) [x]).length:Int).toNat - ((↑k:Int)+1).toNat)) (List.drop (↑k:Int).toNat (List.take (↑l.length:Int).toNat l)))) 34] (.vec 2)))))))))))))))))))):=by kernel_rfl
theorem agI{α:Type}{xs ys:List α}{lo k:Nat}(hk:k=ys.length)(h:lo+ys.length=xs.length):over xs lo k ys=xs.take lo++ys:=by
 subst hk
 rw[over,List.take_of_length_le (Nat.le_refl _),List.drop_of_length_le (by omega),List.append_nil]
theorem sq{α:Type}{l:List α}{k:Nat}{x:α}(h:k≤l.length):(lD l k x).length=l.length+1:=by
 simp only[lD,List.length_append,List.length_take,List.length_cons,List.length_drop];omega
theorem ai8{α:Type}(l:List α)(x:α):lD l l.length x=l++[x]:=by simp[lD]
theorem agJ{α:Type}{l:List α}{k:Nat}{x d:α}(h:k≤l.length)(i:Nat):(lD l k x).getD i d=if i<k then l.getD i d else if i=k then x else l.getD (i - 1) d:=by
 simp only[lD,List.getD]
 split
 ·rw[List.getElem?_append_left (by simp;omega),List.getElem?_take,if_pos (by assumption)]
 ·rw[List.getElem?_append_right (by simp;omega)]
  rw[List.length_take,Nat.min_eq_left h]
  split
  ·rename_i h2;subst h2;simp
  ·rw[show i - k=(i - 1 - k)+1 from by omega,List.getElem?_cons_succ,List.getElem?_drop]
   congr 2;omega
theorem ar2:aox P 86:=⟨Tryd.f86,Tryd.f86.params.getD 0 0,eE,Tryd.f86.resultTypes.getD 0 0,2,Tryd.func86,by kernel_rfl,by kernel_rfl,by kernel_rfl,by kernel_rfl,by kernel_rfl,by kernel_rfl⟩
theorem ai9{α:Type}{l:List α}{k:Nat}{x d:α}(hk:k<l.length):
 over (over (List.drop 0 (List.take (k:Int).toNat l)++List.replicate ((l.length:Int)+(1:Int) - (k:Int)).toNat d) (0+(k:Int).toNat) (min 1 (((List.drop 0 (List.take (k:Int).toNat l)++List.replicate ((l.length:Int)+(1:Int) - (k:Int)).toNat d).length:Int).toNat - (k:Int).toNat)) [x]) (0+((k:Int)+(1:Int)).toNat) (l.length - k) (List.drop (k:Int).toNat (List.take (l.length:Int).toNat l))=lD l k x:=by
 have e1:(k:Int).toNat=k:=by omega
 have e2:((l.length:Int)+(1:Int) - (k:Int)).toNat=l.length+1 - k:=by omega
 have e3:((k:Int)+(1:Int)).toNat=k+1:=by omega
 have e4:(l.length:Int).toNat=l.length:=by omega
 rw[e1,e2,e3,e4,List.drop_zero,Nat.zero_add,Nat.zero_add,List.take_of_length_le (Nat.le_refl l.length)]
 have hA:(List.take k l++List.replicate (l.length+1 - k) d).length=l.length+1:=by
  simp only[List.length_append,List.length_take,List.length_replicate];omega
 rw[hA,show min 1 (((l.length+1:Nat):Int).toNat - k)=1 from by omega]
 have hov:(over (List.take k l++List.replicate (l.length+1 - k) d) k 1 [x]).length=l.length+1:=by
  rw[fj _ _ (by rw[hA];omega) (by simp),hA]
 rw[agI (by rw[List.length_drop]) (by rw[hov,List.length_drop];omega)]
 rw[over,List.take_left' (by simp only[List.length_append,List.length_take,List.length_replicate,List.length_cons,List.length_nil];omega)]
 rw[List.take_left' (by rw[List.length_take];omega)]
 simp[lD]
theorem zv{a b:Nat}:a.blt b=decide (a<b):=by
 by_cases h:a<b
 ·rw[decide_eq_true h];simpa[Nat.blt,Nat.lt_iff_add_one_le]using h
 ·rw[decide_eq_false h]
  cases hb:a.blt b with
  |false=>rfl
  |true=>exact absurd (by simpa[Nat.blt,Nat.lt_iff_add_one_le]using hb) h
theorem zw{a b:Nat}:a.ble b=decide (a≤b):=by
 by_cases h:a≤b
 ·rw[decide_eq_true h];exact Nat.ble_eq_true_of_le h
 ·rw[decide_eq_false h]
  cases hb:a.ble b with
  |false=>rfl
  |true=>exact absurd (Nat.le_of_ble_eq_true hb) h
theorem apA{Z:aX}:jU P Z 69 ae4:=by
 refine aO Tryd.func69 (by kernel_rfl) (fun x=>Nat.le_of_ble_eq_true (by kernel_rfl)) ?_
 rintro⟨(l:List (CL cE)),(x:CL cE),(k:Nat)⟩ ⟨(hk:k≤l.length),(hl:l.length≤100000),_⟩ X hX hz
 refine eV hz hX (by intro y hy;simp[anN]at hy;subst hy;exact Nat.le_refl _) aH.Ok.nil Tryd.func69 (alK l x k) ⟨by omega,by omega,by omega,(fun h=>nomatch h),fun _=>⟨fun h=>⟨by omega,⟨⟨[],[0],2,[]⟩,Nat.le_refl _, ?_⟩⟩,fun h=> ?_⟩⟩
 ·have hkl:k=l.length:=by have:=eq_of_beq h;omega
  subst hkl
  show Norm.run _ _=some ⟨[.vec 2],[.dead,.vec (.ad cE [x]) eE,.vec (.ad cE (lD l l.length x)) eE],[],{}⟩
  rw[ai8]
  kernel_rfl
 have hkl:k<l.length:=by
  rcases Nat.lt_or_ge k l.length with h1|h1
  ·exact h1
  ·have:k=l.length:=by omega
   subst this
   simp at h
 refine agG (t:=0) (id:=0) (m:=1) (c:=.ad cE l) (e:=eE) rfl rfl (by omega) ?_ ?_
 ·
  refine(show Safe P 69 X _ (cIA l x k)from ?_)
  have e1:((l.length:Int)+(1:Int)).toNat - Int.toNat 0=l.length+1:=by omega
  have tr:=apx l x k
  rw[e1]at tr
  refine eV hz hX (by intro y hy;simp[ar1]at hy;subst hy;show 2≤3;omega) aH.Ok.nil Tryd.func69 tr ⟨⟨by omega,by omega⟩,by omega,⟨by omega,by omega⟩,by omega,by omega,by omega,⟨by omega,by omega⟩,by omega,by omega,by omega,ar2,⟨by omega,by omega⟩,by omega,by omega,by omega,by omega,by omega,by omega,by omega,by omega,by omega, ?_⟩
  refine ai7 (id:=2) (c':=.ad cE (lD l k x)) rfl ?_ rfl ?_ ?_
  ·exact sq (by omega)
  ·intro i j hi hj
   have hi:i<l.length+1:=hi
   show CL.cell cE ((lD l k x).getD i (CL.d cE)) j=_
   rw[agJ (by omega)]
   by_cases h1:i<k
   ·have p1:¬(0+(k:Int).toNat≤i):=by omega
    have p2:¬(0+((k:Int)+(1:Int)).toNat≤i):=by omega
    have p3:i<l.length:=by omega
    simp only[aF.cell,zv,zw,p1,p2,p3,h1,decide_false,decide_true,Bool.false_and,cond_false,cond_true,if_true]
   ·by_cases h2:i=k
    ·subst h2
     have p1:0+(i:Int).toNat≤i:=by omega
     have p2:i<0+(i:Int).toNat+min 1 (((l.length+1:Nat):Int).toNat - (i:Int).toNat):=by omega
     have p3:i - (0+(i:Int).toNat)=0:=by omega
     simp only[aF.cell,zv,zw,p1,p2,p3,h1,decide_true,Bool.true_and,cond_true,if_true,if_false,List.getD_cons_zero]
    ·have p1:¬(i<0+(k:Int).toNat+min 1 (((l.length+1:Nat):Int).toNat - (k:Int).toNat)):=by omega
     have p2:0+((k:Int)+(1:Int)).toNat≤i:=by omega
     have p3:i<0+((k:Int)+(1:Int)).toNat+min (0+(k:Int).toNat+(((l.length+1:Nat):Int).toNat - (k:Int).toNat) - (0+(k:Int).toNat)) (((l.length+1:Nat):Int).toNat - ((k:Int)+(1:Int)).toNat):=by omega
     have p4:0+(k:Int).toNat+(i - (0+((k:Int)+(1:Int)).toNat))=i - 1:=by omega
     have p5:i - 1<l.length:=by omega
     simp only[aF.cell,dv,zv,zw,p1,p2,p3,p4,p5,h1,h2,decide_true,decide_false,Bool.and_false,Bool.and_true,cond_true,cond_false,if_false]
  ·refine agH (t:=0) (id:=2) (c:=.ad cE (lD l k x)) (e:=eE) rfl rfl (sq (by omega)).symm (by omega) ?_
   refine eV hz hX (by intro y hy;simp at hy) aH.Ok.nil Tryd.func69 (apy (lD l k x) x) ⟨⟨[],[0],2,[]⟩,Nat.le_refl _, ?_⟩
   show Norm.run _ _=some ⟨[.vec 2],[.dead,.vec (.ad cE [x]) eE,.vec (.ad cE (lD l k x)) eE],[],{}⟩
   kernel_rfl
 ·
  refine(show Safe P 69 X _ (cIB l x k)from ?_)
  have tr:=apz l x k
  have eA:(List.drop 0 (List.take (k:Int).toNat l)++List.replicate ((l.length:Int)+(1:Int) - (k:Int)).toNat (CL.d cE)).length=l.length+1:=by
   simp only[List.drop_zero,List.length_append,List.length_take,List.length_replicate];omega
  have eB:(over (List.drop 0 (List.take (k:Int).toNat l)++List.replicate ((l.length:Int)+(1:Int) - (k:Int)).toNat (CL.d cE)) (0+(k:Int).toNat) (min 1 (((List.drop 0 (List.take (k:Int).toNat l)++List.replicate ((l.length:Int)+(1:Int) - (k:Int)).toNat (CL.d cE)).length:Int).toNat - (k:Int).toNat)) [x]).length=l.length+1:=by
   rw[fj _ _ (by rw[eA];omega) (by simp;omega),eA]
  have eC:(List.drop 0 (List.take (k:Int).toNat l)).length=k:=by simp only[List.drop_zero,List.length_take];omega
  have e1:(min (List.drop (k:Int).toNat (List.take (l.length:Int).toNat l)).length (((over (List.drop 0 (List.take (k:Int).toNat l)++List.replicate ((l.length:Int)+(1:Int) - (k:Int)).toNat (CL.d cE)) (0+(k:Int).toNat) (min 1 (((List.drop 0 (List.take (k:Int).toNat l)++List.replicate ((l.length:Int)+(1:Int) - (k:Int)).toNat (CL.d cE)).length:Int).toNat - (k:Int).toNat)) [x]).length:Int).toNat - ((k:Int)+(1:Int)).toNat))=l.length - k:=by
   rw[eB];simp only[List.length_drop,List.length_take];omega
  rw[e1,ai9 hkl,eB,eA,eC]at tr
  refine eV hz hX (by intro y hy;simp at hy) aH.Ok.nil Tryd.func69 tr ⟨⟨by omega,by omega⟩,by omega,by omega,by omega,⟨by omega,by omega⟩,⟨by omega,by omega⟩,by omega,by omega,by omega,by omega,by omega,by omega,⟨by omega,by omega⟩,by omega,by omega,by omega,by omega,by omega,by omega,⟨⟨[],[0],2,[]⟩,Nat.le_refl _, ?_⟩⟩
  show Norm.run _ _=some ⟨[.vec 2],[.dead,.vec (.ad cE [x]) eE,.vec (.ad cE (lD l k x)) eE],[],{}⟩
  kernel_rfl
end Lf
namespace Lf
open Go Go.Sx Go.Proofs
def ar3:List AV→RM ((List En×En×Nat)×List Nat)
 |[.vec id,.s (.int .i64 i),.vec id2]=>.look id fun o=>match o with
  |some (.vec (.ad [.str,.str] l) _)=>.look id2 fun o=>match o with
   |some (.vec (.ad [.str,.str] [x]) _)=>.ret ((l,x,i.toNat),[id,id2])
   |_=>.fail "insert: no element"
  |_=>.fail "insert: no row"
 |_=>.fail "insert"
def aja:aH:=[(58,zr),(68,apt),(69,dI ae4 ar3)]
theorem alL(l:List (CL cE))(key val:ByteArray):run P aja.sum Tryd.f50 [] (start Tryd.f50 [.s (.ro (.ad cE l)),.s (.str key),.s (.str val)] [])=
 Tree.need (l.length≤1000000) (.need (iz (bC l)) (.need (l.length≤100000) (.ite (jj (bC l) key) (.need ((0:Int)≤(↑(cr (bC l) key):bm.V)) (.need ((↑(cr (bC l) key):bm.V)<(↑l.length:Int)) (.ret [.vec (.ad [.str,.str] (l.set (Int.toNat (↑(cr (bC l) key):bm.V)) ((l.getD (Int.toNat (↑(cr (bC l) key):bm.V)) (CL.d [.str,.str])).fst,val,()))) 34] (.vec 0)))) (.need (some [AV.vec 0,.s (.int .i64 (↑(cr (bC l) key):bm.V)),.vec 1]=some [AV.vec 0,.s (.int .i64 (↑(Int.toNat (↑(cr (bC l) key):bm.V)):Int)),.vec 1]) (.need (some [ae.vec (.ad [.str,.str] l) 34,.vec (.ad [.str,.str] [(key,val,())]) 34]=some [ae.vec (.ad [.str,.str] l) 34,.vec (.ad [.str,.str] [(key,val,())]) 34]) (.need (Int.toNat (↑(cr (bC l) key):bm.V)≤l.length) (.need (l.length≤100000) (.ret [.dead,.vec (.ad [.str,.str] [(key,val,())]) 34,.vec (.ad [.str,.str] (lD l (Int.toNat (↑(cr (bC l) key):bm.V)) (key,val,()))) 34] (.vec 2))))))))):=by kernel_rfl
theorem ajb{α:Type}{l:List α}{k:Nat}{x:α}(h:k<l.length):l.set k x=l.take k++x::l.drop (k+1):=by
 rw[List.set_eq_take_append_cons_drop,if_pos h]
theorem ajc{l:List En}{key val:ByteArray}(h:jj (bC l) key=true)(h1:cr (bC l) key<l.length):bw l key val=l.set (cr (bC l) key) (key,val,()):=by
 rw[ajb h1,bw,if_pos h]
theorem alM{l:List En}{key val:ByteArray}(h:jj (bC l) key=false):bw l key val=lD l (cr (bC l) key) (key,val,()):=by
 rw[bw,if_neg (by rw[h];simp),lD]
theorem ajd{Z:aX}:dd P Z 50 [n9,dL,dL] [n9] (fun(l,_,_,())=>[(l:List En).length≤100000,iz (bC l)]) (fun(l,key,val,())=>(bw l key val,())):=by
 refine aq Tryd.func50 (by kernel_rfl) (by kernel_rfl) ?_
 rintro⟨(l:List (CL cE)),(key:ByteArray),(val:ByteArray),⟨⟩⟩ _ ⟨(hl:l.length≤100000),(hs:iz (bC l)),_⟩ X hX hz
 have hT:aja.Ok P Z:=aH.Ok.cons ru.sum (aH.Ok.cons adq.sum (aH.Ok.cons (apA.sum ar3) aH.Ok.nil))
 have hn:(bC l).length=l.length:=List.length_map _
 have hle:=u4 (bC l) key
 rw[hn]at hle
 refine go hz hX hT Tryd.func50 (alL l key val) ⟨by omega,hs,hl,fun h=> ?_,fun h=> ?_⟩
 ·obtain⟨h1,h2⟩:=jx.1 h
  rw[hn]at h1
  refine⟨Int.natCast_nonneg _,Int.ofNat_lt.2 h1, ?_⟩
  refine aQ (l.set (cr (bC l) key) ((l.getD (cr (bC l) key) dE).1,val,()),()) ?_ (by kernel_rfl)
  have hk:(l.getD (cr (bC l) key) dE).1=key:=(cA l o9 dE _).symm.trans h2
  rw[hk]
  exact congrArg (fun y=>(y,())) (ajc h h1)
 ·refine⟨rfl,rfl,by show cr (bC l) key≤l.length;exact hle,hl, ?_⟩
  refine aQ (lD l (cr (bC l) key) (key,val,()),()) ?_ (by kernel_rfl)
  exact congrArg (fun y=>(y,())) (alM h)
end Lf
namespace Bx
open Go Go.Sx Go.Proofs
abbrev dt:Ty:=.b (.arr .u64 16)
abbrev bm:Ty:=.b (.int .i64)
abbrev tU:Ty:=.b (.int .u64)
abbrev cv:Ty:=.b .bool
abbrev sk:Ty:=.b (.row (.ints .i64) 3)
noncomputable abbrev P:Program:=Tryd.prog
theorem mixed:P.follows .mixedOrders=true:=by kernel_rfl
def jv:aH:=[]
def dW(n:Int):Int:=if 0≤n∧n<1024 then n / 64 else 0
def lF(n:Int):Int:=if 0≤n∧n<1024 then 2^(n%64).toNat else 0
def hM(n:Int):Bool:=decide (0≤n∧n<1024)
theorem apB(n:Int):run P jv.sum Tryd.f55 [] (start Tryd.f55 [.s (.int .i64 n)] [])=
 Tree.ite (decide (n<(0:Int))) (Tree.ret [] (AV.bp [AV.s (SV.aW IntKind.i64 (0:Int)),AV.s (SV.aW IntKind.u64 (0:Int)),AV.s (SV.aJ false)])) (Tree.ite (decide (n≥(1024:Int))) (Tree.ret [] (AV.bp [AV.s (SV.aW IntKind.i64 (0:Int)),AV.s (SV.aW IntKind.u64 (0:Int)),AV.s (SV.aJ false)])) (Tree.need ((64:Int)≠(0:Int)) (Tree.need (aD (n.tdiv (64:Int))) (Tree.need ((64:Int)≠(0:Int)) (Tree.need ((0:Int)≤n.tmod (64:Int)) (Tree.ret [] (AV.bp [AV.s (SV.int IntKind.i64 (n.tdiv (64:Int))),AV.s (SV.int IntKind.u64 (IntKind.u64.wrap ((1:Int)*(2:Int)^min (n.tmod (64:Int)).toNat IntKind.u64.bits))),AV.s (SV.aJ true)]))))))):=by kernel_rfl
theorem apC(a b:Int):run P jv.sum Tryd.f47 [] (start Tryd.f47 [.s (.int .u64 a),.s (.int .u64 b)] [])=
 Tree.ret [] (.s (.int .u64 (bA BinOp.andNot .u64 a b))):=by kernel_rfl
theorem apD(a b:Int):run P jv.sum Tryd.f63 [] (start Tryd.f63 [.s (.int .u64 a),.s (.int .u64 b)] [])=
 Tree.ret [] (.s (.int .u64 (bA BinOp.and .u64 a b))):=by kernel_rfl
theorem apE(a b:Int):run P jv.sum Tryd.f54 [] (start Tryd.f54 [.s (.int .u64 a),.s (.int .u64 b)] [])=
 Tree.ret [] (.s (.int .u64 (bA BinOp.or .u64 a b))):=by kernel_rfl
abbrev s36:=bS [bm] [bm,tU,cv] (fun _=>[]) (fun(n,())=>(dW n,lF n,hM n,()))
def alN:aH:=[(55,s36)]
theorem apF(ws:List Int)(n:Int):run P alN.sum Tryd.f35 [] (start Tryd.f35 [.ints .u64 16 ws,.s (.int .i64 n)] [])=
 Tree.ite (hM n) (.need ((0:Int)≤dW n) (.need (dW n<(↑(16:Nat):Int)) (.ret [.own [.ints .u64 16 ws] 47] (.s (.bool (bA BinOp.and .u64 (ws.getD (dW n).toNat 0) (lF n) !=0)))))) (.ret [.own [.ints .u64 16 ws] 47] (.s (.aJ false))):=by kernel_rfl
theorem apG(ws:List Int)(n:Int):run P alN.sum Tryd.f43 [] (start Tryd.f43 [.ints .u64 16 ws,.s (.int .i64 n)] [])=
 Tree.ite (hM n) (.need ((0:Int)≤dW n) (.need (dW n<(↑(16:Nat):Int)) (.need ((0:Int)≤dW n) (.need (dW n<(↑(16:Nat):Int)) (.ret [.own [.ints .u64 16 (ws.set (dW n).toNat (bA BinOp.or .u64 (ws.getD (dW n).toNat 0) (lF n)))] 47,.own [.ints .u64 16 (ws.set (dW n).toNat (bA BinOp.or .u64 (ws.getD (dW n).toNat 0) (lF n)))] 47] (.ints .u64 16 (ws.set (dW n).toNat (bA BinOp.or .u64 (ws.getD (dW n).toNat 0) (lF n))))))))) (.ret [.own [.ints .u64 16 ws] 47,.own [.ints .u64 16 ws] 47] (.ints .u64 16 ws)):=by kernel_rfl
theorem apH(ws:List Int)(n:Int):run P alN.sum Tryd.f98 [] (start Tryd.f98 [.ints .u64 16 ws,.s (.int .i64 n)] [])=
 Tree.ite (hM n) (.need ((0:Int)≤dW n) (.need (dW n<(↑(16:Nat):Int)) (.need ((0:Int)≤dW n) (.need (dW n<(↑(16:Nat):Int)) (.ret [.own [.ints .u64 16 (ws.set (dW n).toNat (bA BinOp.andNot .u64 (ws.getD (dW n).toNat 0) (lF n)))] 47,.own [.ints .u64 16 (ws.set (dW n).toNat (bA BinOp.andNot .u64 (ws.getD (dW n).toNat 0) (lF n)))] 47] (.ints .u64 16 (ws.set (dW n).toNat (bA BinOp.andNot .u64 (ws.getD (dW n).toNat 0) (lF n))))))))) (.ret [.own [.ints .u64 16 ws] 47,.own [.ints .u64 16 ws] 47] (.ints .u64 16 ws)):=by kernel_rfl
theorem go{Z:aX}{X:Ctx}{t:aH}{f:FuncId}{fn:Func}{ns:List (Nat×Norm)}{c:bB}{tr:Tree}{K:List ae→AV→Prop}(hz:dS Z X)(hX:∀id,X.H id=none)(hT:t.Ok P Z)(hf:P.funcs[f]? =some fn)
 (e:run P t.sum fn ns c=tr) (h:tr.aP K (Safe P f X K)):Safe P f X K c:=cp (aH.sOk hT) hz mixed hf (fun _ _ id _=>hX id) e h
theorem apI{Z:aX}:dd P Z 55 [bm] [bm,tU,cv] (fun _=>[]) (fun(n,())=>(dW n,lF n,hM n,())):=by
 refine aq Tryd.func55 (by kernel_rfl) (by kernel_rfl) ?_
 rintro⟨(n:Int),⟨⟩⟩ _ _ X hX hz
 refine cp (aH.sOk aH.Ok.nil) hz mixed Tryd.func55 (fun x h=>by simp at h) (apB n) ?_
 have no:¬(0≤n∧n<1024)→Ends [bm,tU,cv] (dW n,lF n,hM n,()) [] (AV.bp [AV.s (SV.aW IntKind.i64 0),AV.s (SV.aW IntKind.u64 0),AV.s (SV.aJ false)]):=fun h=>
  aQ (0,0,false,()) (by simp only[dW,lF,hM,if_neg h,decide_eq_false h]) (by kernel_rfl)
 refine⟨fun h=>no (by simp at h;omega),fun h=>⟨fun h2=>no (by simp at h2;omega),fun h2=> ?_⟩⟩
 have h3:0≤n∧n<1024:=by simp at h h2;omega
 have e1:n.tdiv 64=n / 64:=Int.tdiv_eq_ediv_of_nonneg h3.1
 have e2:n.tmod 64=n%64:=Int.tmod_eq_emod_of_nonneg h3.1
 refine⟨by omega,⟨by omega,by omega⟩,by omega,by omega, ?_⟩
 rw[e1,e2]
 have e3:IntKind.u64.wrap ((1:Int)*(2:Int)^min (n%64).toNat IntKind.u64.bits)=2^(n%64).toNat:=by
  have:(n%64).toNat<64:=by omega
  rw[show IntKind.u64.bits=64 from rfl,Nat.min_eq_left (by omega),Int.one_mul]
  show(2:Int)^(n%64).toNat%18446744073709551616=_
  refine Int.emod_eq_of_lt (Int.pow_nonneg (by omega)) ?_
  have h5:(2:Nat)^(n%64).toNat<2^64:=Nat.pow_lt_pow_right (by omega) this
  have:((2:Nat)^(n%64).toNat:Int)<((2^64:Nat):Int):=by exact_mod_cast h5
  simpa using this
 rw[e3]
 exact aQ (n / 64,2^(n%64).toNat,true,()) (by simp only[dW,lF,hM,if_pos h3,decide_eq_true h3]) (by kernel_rfl)
theorem agK{Z:aX}:dd P Z 47 [tU,tU] [tU] (fun _=>[]) (fun(a,b,())=>(bA .andNot .u64 a b,())):=by
 refine aq Tryd.func47 (by kernel_rfl) (by kernel_rfl) ?_
 rintro⟨(a:Int),(b:Int),⟨⟩⟩ _ _ X hX hz
 exact cp (aH.sOk aH.Ok.nil) hz mixed Tryd.func47 (fun x h=>by simp at h) (apC a b) (aQ _ rfl (by kernel_rfl))
theorem apJ{Z:aX}:dd P Z 63 [tU,tU] [tU] (fun _=>[]) (fun(a,b,())=>(bA .and .u64 a b,())):=by
 refine aq Tryd.func63 (by kernel_rfl) (by kernel_rfl) ?_
 rintro⟨(a:Int),(b:Int),⟨⟩⟩ _ _ X hX hz
 exact cp (aH.sOk aH.Ok.nil) hz mixed Tryd.func63 (fun x h=>by simp at h) (apD a b) (aQ _ rfl (by kernel_rfl))
theorem ar4{Z:aX}:dd P Z 54 [tU,tU] [tU] (fun _=>[]) (fun(a,b,())=>(bA .or .u64 a b,())):=by
 refine aq Tryd.func54 (by kernel_rfl) (by kernel_rfl) ?_
 rintro⟨(a:Int),(b:Int),⟨⟩⟩ _ _ X hX hz
 exact cp (aH.sOk aH.Ok.nil) hz mixed Tryd.func54 (fun x h=>by simp at h) (apE a b) (aQ _ rfl (by kernel_rfl))
theorem zx{Z:aX}:alN.Ok P Z:=aH.Ok.cons apI.sum aH.Ok.nil
theorem pd{n:Int}(h:hM n=true):0≤dW n∧dW n<16:=by
 simp only[hM,decide_eq_true_eq]at h
 simp only[dW,if_pos h]
 omega
def nq(ws:List Int)(n:Int):Bool:=hM n&&(bA .and .u64 (ws.getD (dW n).toNat 0) (lF n) !=0)
def di(ws:List Int)(n:Int):List Int:=if hM n=true then ws.set (dW n).toNat (bA .or .u64 (ws.getD (dW n).toNat 0) (lF n))else ws
def cQ(ws:List Int)(n:Int):List Int:=if hM n=true then ws.set (dW n).toNat (bA .andNot .u64 (ws.getD (dW n).toNat 0) (lF n))else ws
theorem adt{Z:aX}:dd P Z 35 [dt,bm] [cv] (fun _=>[]) (fun(ws,n,())=>(nq ws n,())):=by
 refine aq Tryd.func35 (by kernel_rfl) (by kernel_rfl) ?_
 rintro⟨(ws:List Int),(n:Int),⟨⟩⟩ _ _ X hX hz
 refine cp (aH.sOk zx) hz mixed Tryd.func35 (fun x h=>by simp at h) (apF ws n) ⟨fun h=> ?_,fun h=> ?_⟩
 ·have:=pd h
  exact⟨this.1,this.2,aQ (bA .and .u64 (ws.getD (dW n).toNat 0) (lF n) !=0,()) (by simp[nq,h]) (by kernel_rfl)⟩
 ·exact aQ (false,()) (by simp[nq,h]) (by kernel_rfl)
theorem tj{Z:aX}:dd P Z 43 [dt,bm] [dt] (fun _=>[]) (fun(ws,n,())=>(di ws n,())):=by
 refine aq Tryd.func43 (by kernel_rfl) (by kernel_rfl) ?_
 rintro⟨(ws:List Int),(n:Int),⟨⟩⟩ _ _ X hX hz
 refine cp (aH.sOk zx) hz mixed Tryd.func43 (fun x h=>by simp at h) (apG ws n) ⟨fun h=> ?_,fun h=> ?_⟩
 ·have:=pd h
  refine⟨this.1,this.2,this.1,this.2, ?_⟩
  simp only[di,if_pos h]
  exact aQ _ rfl (by kernel_rfl)
 ·exact aQ (ws,()) (by simp only[di,h];rfl) (by kernel_rfl)
theorem vu{Z:aX}:dd P Z 98 [dt,bm] [dt] (fun _=>[]) (fun(ws,n,())=>(cQ ws n,())):=by
 refine aq Tryd.func98 (by kernel_rfl) (by kernel_rfl) ?_
 rintro⟨(ws:List Int),(n:Int),⟨⟩⟩ _ _ X hX hz
 refine cp (aH.sOk zx) hz mixed Tryd.func98 (fun x h=>by simp at h) (apH ws n) ⟨fun h=> ?_,fun h=> ?_⟩
 ·have:=pd h
  refine⟨this.1,this.2,this.1,this.2, ?_⟩
  simp only[cQ,if_pos h]
  exact aQ _ rfl (by kernel_rfl)
 ·exact aQ (ws,()) (by simp only[cQ,h];rfl) (by kernel_rfl)
end Bx
namespace Bx
open Go Go.Sx Go.Proofs
abbrev sOp(op:BinOp):=bS [tU,tU] [tU] (fun _=>[]) (fun(a,b,())=>(bA op .u64 a b,()))
def zy:aH:=[(47,sOp .andNot),(63,sOp .and),(54,sOp .or)]
def abp:List (Nat×Norm):=[(2,⟨[],[2,3,4,6,8],0,[]⟩)]
noncomputable def c37(f:FuncId)(b s:List Int)(i:Int):bB:=⟨sl 23 [(2,.s (.kL f)),(3,.ptr 0 0),(4,.ptr 1 0),(6,.ptr 2 0),(8,.s (.int .i64 i))],[.own [.ints .u64 16 s] 47,.own [.ints .u64 16 b] 47,.own [.ints .u64 16 (List.replicate 16 0)] 47],hd Tryd.f46 2,{}⟩
theorem alO(a b:List Int):run P zy.sum Tryd.f46 abp (start Tryd.f46 [.ints .u64 16 a,.ints .u64 16 b,.s (.kL 47)] [])=
 Tree.at (.mk (sl 23 [(2,.s (.kL 47)),(3,.ptr 0 0),(4,.ptr 1 0),(6,.ptr 2 0),(8,.s (.int .i64 0))]) [.own [.ints .u64 16 a] 47,.own [.ints .u64 16 b] 47,.own [.ints .u64 16 (List.replicate 16 0)] 47] (hd Tryd.f46 2) (.mk none false 0 [] 0)):=by kernel_rfl
theorem alP(b s:List Int)(i:Int):run P zy.sum Tryd.f46 abp (c37 47 b s i)=
 Tree.ite (decide (i<16)) (.need ((0:Int)≤i) (.need (i<(↑(16:Nat):Int)) (.need ((0:Int)≤i) (.need (i<(↑(16:Nat):Int)) (.need ((0:Int)≤i) (.need (i<(↑(16:Nat):Int)) (.need (aD (i+1)) (.at (.mk (sl 23 [(2,.s (.kL 47)),(3,.ptr 0 0),(4,.ptr 1 0),(6,.ptr 2 0),(8,.s (.int .i64 (i+1)))]) [.own [.ints .u64 16 (s.set i.toNat (bA BinOp.andNot .u64 (s.getD i.toNat 0) (b.getD i.toNat 0)))] 47,.own [.ints .u64 16 b] 47,.own [.ints .u64 16 (List.replicate 16 0)] 47] (hd Tryd.f46 2) (.mk none false 0 [] 0)))))))))) (.ret [.own [.ints .u64 16 s] 47,.own [.ints .u64 16 b] 47,.own [.ints .u64 16 s] 47] (.ints .u64 16 s)):=by kernel_rfl
theorem alQ(a b:List Int):run P zy.sum Tryd.f46 abp (start Tryd.f46 [.ints .u64 16 a,.ints .u64 16 b,.s (.kL 63)] [])=
 Tree.at (.mk (sl 23 [(2,.s (.kL 63)),(3,.ptr 0 0),(4,.ptr 1 0),(6,.ptr 2 0),(8,.s (.int .i64 0))]) [.own [.ints .u64 16 a] 47,.own [.ints .u64 16 b] 47,.own [.ints .u64 16 (List.replicate 16 0)] 47] (hd Tryd.f46 2) (.mk none false 0 [] 0)):=by kernel_rfl
theorem alR(b s:List Int)(i:Int):run P zy.sum Tryd.f46 abp (c37 63 b s i)=
 Tree.ite (decide (i<16)) (.need ((0:Int)≤i) (.need (i<(↑(16:Nat):Int)) (.need ((0:Int)≤i) (.need (i<(↑(16:Nat):Int)) (.need ((0:Int)≤i) (.need (i<(↑(16:Nat):Int)) (.need (aD (i+1)) (.at (.mk (sl 23 [(2,.s (.kL 63)),(3,.ptr 0 0),(4,.ptr 1 0),(6,.ptr 2 0),(8,.s (.int .i64 (i+1)))]) [.own [.ints .u64 16 (s.set i.toNat (bA BinOp.and .u64 (s.getD i.toNat 0) (b.getD i.toNat 0)))] 47,.own [.ints .u64 16 b] 47,.own [.ints .u64 16 (List.replicate 16 0)] 47] (hd Tryd.f46 2) (.mk none false 0 [] 0)))))))))) (.ret [.own [.ints .u64 16 s] 47,.own [.ints .u64 16 b] 47,.own [.ints .u64 16 s] 47] (.ints .u64 16 s)):=by kernel_rfl
theorem alS(a b:List Int):run P zy.sum Tryd.f46 abp (start Tryd.f46 [.ints .u64 16 a,.ints .u64 16 b,.s (.kL 54)] [])=
 Tree.at (.mk (sl 23 [(2,.s (.kL 54)),(3,.ptr 0 0),(4,.ptr 1 0),(6,.ptr 2 0),(8,.s (.int .i64 0))]) [.own [.ints .u64 16 a] 47,.own [.ints .u64 16 b] 47,.own [.ints .u64 16 (List.replicate 16 0)] 47] (hd Tryd.f46 2) (.mk none false 0 [] 0)):=by kernel_rfl
theorem alT(b s:List Int)(i:Int):run P zy.sum Tryd.f46 abp (c37 54 b s i)=
 Tree.ite (decide (i<16)) (.need ((0:Int)≤i) (.need (i<(↑(16:Nat):Int)) (.need ((0:Int)≤i) (.need (i<(↑(16:Nat):Int)) (.need ((0:Int)≤i) (.need (i<(↑(16:Nat):Int)) (.need (aD (i+1)) (.at (.mk (sl 23 [(2,.s (.kL 54)),(3,.ptr 0 0),(4,.ptr 1 0),(6,.ptr 2 0),(8,.s (.int .i64 (i+1)))]) [.own [.ints .u64 16 (s.set i.toNat (bA BinOp.or .u64 (s.getD i.toNat 0) (b.getD i.toNat 0)))] 47,.own [.ints .u64 16 b] 47,.own [.ints .u64 16 (List.replicate 16 0)] 47] (hd Tryd.f46 2) (.mk none false 0 [] 0)))))))))) (.ret [.own [.ints .u64 16 s] 47,.own [.ints .u64 16 b] 47,.own [.ints .u64 16 s] 47] (.ints .u64 16 s)):=by kernel_rfl
theorem alU{Z:aX}:zy.Ok P Z:=aH.Ok.cons agK.sum (aH.Ok.cons apJ.sum (aH.Ok.cons ar4.sum aH.Ok.nil))
def dc(op:BinOp)(a b:List Int):List Int:=List.zipWith (bA op .u64) a b
def abq(f:FuncId):BinOp:=if f=47 then .andNot else if f=63 then .and else .or
theorem abr{a b:List Int}{n:Nat}(ha:a.length=n)(hb:b.length=n)(h:∀j,j<n→a.getD j 0=b.getD j 0):a=b:=by
 refine List.ext_getElem (by omega) fun j h1 h2=> ?_
 have:=h j (by omega)
 simpa[List.getD,h1,h2]using this
theorem qp(a:List Int)(i j:Nat)(x:Int):(a.set i x).getD j 0=if j=i∧i<a.length then x else a.getD j 0:=by
 simp only[List.getD,List.getElem?_set]
 by_cases h:i=j
 ·subst h
  by_cases h2:i<a.length
  ·simp[h2]
  ·simp[h2]
 ·simp[h,Ne.symm h]
def I37(op:BinOp)(a b s:List Int)(i:Int):Prop:=0≤i∧i≤16∧s.length=16∧∀j,j<16→s.getD j 0=if(j:Int)<i then bA op .u64 (a.getD j 0) (b.getD j 0)else a.getD j 0
theorem aje{op:BinOp}{a b s:List Int}{i:Int}(h:I37 op a b s i)(hi:i<16):I37 op a b (s.set i.toNat (bA op .u64 (s.getD i.toNat 0) (b.getD i.toNat 0))) (i+1):=by
 obtain⟨h1,h2,h3,h4⟩:=h
 refine⟨by omega,by omega,by simpa using h3,fun j hj=> ?_⟩
 rw[qp]
 by_cases hji:j=i.toNat
 ·subst hji
  rw[if_pos ⟨rfl,by omega⟩,if_pos (by omega),h4 _ hj,if_neg (by omega)]
 ·rw[if_neg (fun h=>hji h.1),h4 j hj]
  by_cases h5:(j:Int)<i
  ·rw[if_pos h5,if_pos (by omega)]
  ·rw[if_neg h5,if_neg (by omega)]
theorem alV{op:BinOp}{a b s:List Int}{i:Int}(ha:a.length=16)(hb:b.length=16)(h:I37 op a b s i)(hi:¬i<16):s=dc op a b:=by
 obtain⟨h1,h2,h3,h4⟩:=h
 refine abr h3 (by simp[dc,ha,hb]) fun j hj=> ?_
 rw[h4 j hj,if_pos (by omega)]
 simp[dc,List.getD,List.getElem?_zipWith,ha,hb,hj]
theorem zz{Z:aX}:dd P Z 46 [dt,dt,.b .fn] [dt] (fun(_,_,f,())=>[f=47∨f=63∨f=54]) (fun(a,b,f,())=>(dc (abq f) a b,())):=by
 refine aq Tryd.func46 (by kernel_rfl) (by kernel_rfl) ?_
 rintro⟨(a:List Int),(b:List Int),(f:FuncId),⟨⟩⟩ ⟨(ha:a.length=16),(hb:b.length=16),_⟩ ⟨(hf:f=47∨f=63∨f=54),_⟩ X hX hz
 have run (c:bB) (t:Tree) (ht:run P zy.sum Tryd.f46 abp c=t) {K:List ae→AV→Prop} (h:t.aP K (Safe P 46 X K)):Safe P 46 X K c:=
  cp (aH.sOk alU) hz mixed Tryd.func46 (fun x h id _=>hX id) ht h
 have loop (op:BinOp) (f:FuncId) (hl:∀s i,Sx.run P zy.sum Tryd.f46 abp (c37 f b s i)=Tree.ite (decide (i<16)) (.need ((0:Int)≤i) (.need (i<(↑(16:Nat):Int)) (.need ((0:Int)≤i) (.need (i<(↑(16:Nat):Int)) (.need ((0:Int)≤i) (.need (i<(↑(16:Nat):Int)) (.need (aD (i+1)) (.at (c37 f b (s.set i.toNat (bA op .u64 (s.getD i.toNat 0) (b.getD i.toNat 0))) (i+1)))))))))) (.ret [.own [.ints .u64 16 s] 47,.own [.ints .u64 16 b] 47,.own [.ints .u64 16 s] 47] (.ints .u64 16 s))):
  Safe P 46 X (Ends [dt] (dc op a b,())) (c37 f b a 0):=by
  refine lr (fun(x:List Int×Int)=>c37 f b x.1 x.2) (fun x=>I37 op a b x.1 x.2) (fun x=>(16 - x.2).toNat) ?_ (a,0) ⟨by omega,by omega,ha,fun j hj=>by rw[if_neg (by simp only[];omega)]⟩
  rintro⟨s,i⟩ hI ih
  have h0:0≤i:=hI.1
  refine run _ _ (hl s i) ⟨fun h=> ?_,fun h=> ?_⟩
  ·have hi:i<16:=by simpa using h
   exact⟨h0,hi,h0,hi,h0,hi,⟨by omega,by omega⟩,ih (_,i+1) (aje hI hi) (by simp only[];omega)⟩
  ·have hi:¬i<16:=by simpa using h
   exact aQ (s,()) (by rw[←alV ha hb hI hi]) (by kernel_rfl)
 rcases hf with rfl|rfl|rfl
 ·exact run _ _ (alO a b) (loop .andNot 47 (fun s i=>alP b s i))
 ·exact run _ _ (alQ a b) (loop .and 63 (fun s i=>alR b s i))
 ·exact run _ _ (alS a b) (loop .or 54 (fun s i=>alT b s i))
end Bx
namespace Bx
open Go Go.Sx Go.Proofs
abbrev s37:=bS [dt,dt,.b .fn] [dt] (fun(_,_,f,())=>[f=47∨f=63∨f=54]) (fun(a,b,f,())=>(dc (abq f) a b,()))
def apK:aH:=[(46,s37)]
theorem apL(a b:List Int):run P apK.sum Tryd.f23 [] (start Tryd.f23 [.ints .u64 16 a,.ints .u64 16 b] [])=
 Tree.need ((47:Nat)=(47:(Ty.b B.fn).V)∨(47:Nat)=(63:(Ty.b B.fn).V)∨(47:Nat)=(54:(Ty.b B.fn).V)) (.ret [.own [.ints .u64 16 a] 47,.own [.ints .u64 16 b] 47,.own [.ints .u64 16 (dc (abq 47) a b)] 47] (.ints .u64 16 (dc (abq 47) a b))):=by kernel_rfl
theorem apM(a b:List Int):run P apK.sum Tryd.f44 [] (start Tryd.f44 [.ints .u64 16 a,.ints .u64 16 b] [])=
 Tree.need ((63:Nat)=(47:(Ty.b B.fn).V)∨(63:Nat)=(63:(Ty.b B.fn).V)∨(63:Nat)=(54:(Ty.b B.fn).V)) (.ret [.own [.ints .u64 16 a] 47,.own [.ints .u64 16 b] 47,.own [.ints .u64 16 (dc (abq 63) a b)] 47] (.ints .u64 16 (dc (abq 63) a b))):=by kernel_rfl
theorem apN(a b:List Int):run P apK.sum Tryd.f28 [] (start Tryd.f28 [.ints .u64 16 a,.ints .u64 16 b] [])=
 Tree.need ((54:Nat)=(47:(Ty.b B.fn).V)∨(54:Nat)=(63:(Ty.b B.fn).V)∨(54:Nat)=(54:(Ty.b B.fn).V)) (.ret [.own [.ints .u64 16 a] 47,.own [.ints .u64 16 b] 47,.own [.ints .u64 16 (dc (abq 54) a b)] 47] (.ints .u64 16 (dc (abq 54) a b))):=by kernel_rfl
abbrev s16:=bS [dt,bm] [dt] (fun _=>[]) (fun(ws,n,())=>(di ws n,()))
def apO:aH:=[(43,s16)]
def ar5:List (Nat×Norm):=[(3,⟨[],[2,3,6,7,8],0,[]⟩)]
noncomputable def c11(l s:List Int)(i:Int):bB:=⟨sl 17 [(2,.ptr 0 0),(3,.ptr 1 0),(6,.s (.ro (.ints .i64 l))),(7,.s (.int .i64 l.length)),(8,.s (.int .i64 i))],[.own [.ints .u64 16 (List.replicate 16 0)] 47,.own [.ints .u64 16 s] 47],hd Tryd.f32 3,{}⟩
theorem apP(l:List Int):run P apO.sum Tryd.f32 ar5 (start Tryd.f32 [.s (.ro (.ints .i64 l))] [])=
 Tree.at (.mk (sl 17 [(2,.ptr 0 0),(3,.ptr 1 0),(6,.s (.ro (.ints .i64 l))),(7,.s (.int .i64 (↑l.length:Int))),(8,.s (.int .i64 0))]) [.own [.ints .u64 16 (List.replicate 16 0)] 47,.own [.ints .u64 16 (List.replicate 16 0)] 47] (hd Tryd.f32 3) (.mk none false 0 [] 0)):=by kernel_rfl
theorem apQ(l s:List Int)(i:Int):run P apO.sum Tryd.f32 ar5 (c11 l s i)=
 Tree.ite (decide (i<(↑l.length:Int))) (.need ((0:Int)≤i) (.need (i<(↑l.length:Int)) (.need (aD (i+1)) (.at (.mk (sl 17 [(2,.ptr 0 0),(3,.ptr 1 0),(6,.s (.ro (.ints .i64 l))),(7,.s (.int .i64 (↑l.length:Int))),(8,.s (.int .i64 (i+1)))]) [.own [.ints .u64 16 (List.replicate 16 0)] 47,.own [.ints .u64 16 (di s (l.getD i.toNat 0))] 47] (hd Tryd.f32 3) (.mk none false 0 [] 0)))))) (.ret [.own [.ints .u64 16 s] 47,.own [.ints .u64 16 s] 47] (.ints .u64 16 s)):=by kernel_rfl
def ar6:List (Nat×Norm):=[(3,⟨[],[0,2,3,6],0,[]⟩)]
noncomputable def c13(n:Int)(s:List Int)(i:Int):bB:=⟨sl 24 [(0,.s (.int .i64 n)),(2,.ptr 0 0),(3,.ptr 1 0),(6,.s (.int .i64 i))],[.own [.ints .u64 16 (List.replicate 16 0)] 47,.own [.ints .u64 16 s] 47],hd Tryd.f29 3,{}⟩
theorem apR(n:Int):run P jv.sum Tryd.f29 ar6 (start Tryd.f29 [.s (.int .i64 n)] [])=
 Tree.at (.mk (sl 24 [(0,.s (.int .i64 n)),(2,.ptr 0 0),(3,.ptr 1 0),(6,.s (.int .i64 0))]) [.own [.ints .u64 16 (List.replicate 16 0)] 47,.own [.ints .u64 16 (List.replicate 16 0)] 47] (hd Tryd.f29 3) (.mk none false 0 [] 0)):=by kernel_rfl
theorem apS(n:Int)(s:List Int)(i:Int):run P jv.sum Tryd.f29 ar6 (c13 n s i)=
 Tree.ite (decide (i<(16:Int))) (Tree.need (aD (i*(64:Int))) (Tree.need (aD (oN (imax n (0:Int)) (1024:Int) - i*(64:Int))) (Tree.need ((0:Int)≤oN (imax (oN (imax n (0:Int)) (1024:Int) - i*(64:Int)) (0:Int)) (64:Int)) (Tree.need ((0:Int)≤i) (Tree.need (i<(↑(16:Nat):Int)) (Tree.need (aD (i+(1:Int))) (Tree.at (bB.mk (sl (24:Nat) [((0:Nat),AV.s (SV.int IntKind.i64 n)),((2:Nat),AV.ptr (0:Nat) (0:Nat)),((3:Nat),AV.ptr (1:Nat) (0:Nat)),((6:Nat),AV.s (SV.int IntKind.i64 (i+(1:Int))))]) [ae.own [AV.ints IntKind.u64 (16:Nat) (List.replicate (16:Nat) (0:Int))] (47:Nat),ae.own [AV.ints IntKind.u64 (16:Nat) (s.set i.toNat (IntKind.u64.wrap (IntKind.u64.wrap ((1:Int)*(2:Int)^min (oN (imax (oN (imax n (0:Int)) (1024:Int) - i*(64:Int)) (0:Int)) (64:Int)).toNat IntKind.u64.bits) - (1:Int))))] (47:Nat)] (hd Tryd.f29 (3:Nat)) (nI.mk none false (0:Nat) [] (0:Nat)))))))))) (Tree.ret [ae.own [AV.ints IntKind.u64 (16:Nat) s] (47:Nat),ae.own [AV.ints IntKind.u64 (16:Nat) s] (47:Nat)] (AV.ints IntKind.u64 (16:Nat) s)):=by kernel_rfl
theorem ae5{Z:aX}:dd P Z 23 [dt,dt] [dt] (fun _=>[]) (fun(a,b,())=>(dc .andNot a b,())):=by
 refine aq Tryd.func23 (by kernel_rfl) (by kernel_rfl) ?_
 rintro⟨(a:List Int),(b:List Int),⟨⟩⟩ _ _ X hX hz
 exact go hz hX (aH.Ok.cons zz.sum aH.Ok.nil) Tryd.func23 (apL a b) ⟨.inl rfl,aQ _ rfl (by kernel_rfl)⟩
theorem alW{Z:aX}:dd P Z 44 [dt,dt] [dt] (fun _=>[]) (fun(a,b,())=>(dc .and a b,())):=by
 refine aq Tryd.func44 (by kernel_rfl) (by kernel_rfl) ?_
 rintro⟨(a:List Int),(b:List Int),⟨⟩⟩ _ _ X hX hz
 exact go hz hX (aH.Ok.cons zz.sum aH.Ok.nil) Tryd.func44 (apM a b) ⟨.inr (.inl rfl),aQ _ rfl (by kernel_rfl)⟩
theorem ajf{Z:aX}:dd P Z 28 [dt,dt] [dt] (fun _=>[]) (fun(a,b,())=>(dc .or a b,())):=by
 refine aq Tryd.func28 (by kernel_rfl) (by kernel_rfl) ?_
 rintro⟨(a:List Int),(b:List Int),⟨⟩⟩ _ _ X hX hz
 exact go hz hX (aH.Ok.cons zz.sum aH.Ok.nil) Tryd.func28 (apN a b) ⟨.inr (.inr rfl),aQ _ rfl (by kernel_rfl)⟩
def bk:List Int:=List.replicate 16 0
def ofF(l:List Int):List Int:=l.foldl di bk
theorem agL:maxLen=9223372036854775807:=by decide
theorem rB{α:Type}(l:List α)(i:Nat)(d:α)(h:i<l.length):l.take (i+1)=l.take i++[l.getD i d]:=by
 rw[List.take_add_one]
 simp[List.getD,h]
theorem ar7{Z:aX}:dd P Z 32 [sk] [dt] (fun _=>[]) (fun(l,())=>(ofF l,())):=by
 refine aq Tryd.func32 (by kernel_rfl) (by kernel_rfl) ?_
 rintro⟨(l:List Int),⟨⟩⟩ ⟨(hl:l.length≤maxLen),_⟩ _ X hX hz
 rw[agL]at hl
 have hT:apO.Ok P Z:=aH.Ok.cons tj.sum aH.Ok.nil
 refine go hz hX hT Tryd.func32 (apP l) ?_
 refine lr (fun(x:List Int×Int)=>c11 l x.1 x.2) (fun x=>0≤x.2∧x.2≤l.length∧x.1=(l.take x.2.toNat).foldl di bk) (fun x=>(l.length - x.2).toNat) ?_ (bk,0) ⟨by simp only[];omega,by simp only[];omega,rfl⟩
 rintro⟨s,i⟩ ⟨(h0:0≤i),(h1:i≤l.length),(h2:s=_)⟩ ih
 simp only[]at h2
 refine go hz hX hT Tryd.func32 (apQ l s i) ⟨fun h=> ?_,fun h=> ?_⟩
 ·have hi:i<(l.length:Int):=of_decide_eq_true h
  refine⟨h0,hi,⟨by omega,by omega⟩,ih (di s (l.getD i.toNat 0),i+1) ⟨by simp only[];omega,by simp only[];omega, ?_⟩ (by simp only[];omega)⟩
  simp only[]
  rw[show(i+1).toNat=i.toNat+1 from by omega,rB l i.toNat 0 (by omega),List.foldl_append,h2]
  rfl
 ·have hi:¬i<(l.length:Int):=of_decide_eq_false h
  refine aQ (s,()) ?_ (by kernel_rfl)
  rw[h2,List.take_of_length_le (by omega)]
  rfl
def agM(n i:Int):Int:=oN (imax (oN (imax n 0) 1024 - i*64) 0) 64
def rC(n i:Int):Int:=IntKind.u64.wrap (IntKind.u64.wrap (1*2^min (agM n i).toNat IntKind.u64.bits) - 1)
def cC(n:Int):List Int:=(List.range 16).map fun(i:Nat)=>rC n i
theorem vv(n i:Int):0≤agM n i∧agM n i≤64:=by
 unfold agM
 generalize oN (imax n 0) 1024 - i*64=x
 unfold oN imax
 split<;>split at * <;>omega
theorem agN(n:Int):0≤oN (imax n 0) 1024∧oN (imax n 0) 1024≤1024:=by
 unfold oN imax
 split<;>split at * <;>omega
theorem vw {Z : aX} : dd P Z 29 [bm] [dt] (fun _ => []) (fun (n, ()) => (cC n, ())) := by
 refine aq Tryd.func29 (by kernel_rfl) (by kernel_rfl) ?_
 rintro ⟨(n : Int), ⟨⟩⟩ _ _ X hX hz
 refine go hz hX aH.Ok.nil Tryd.func29 (apR n) ?_
 refine lr (fun (x : List Int × Int) => c13 n x.1 x.2) (fun x => 0 ≤ x.2 ∧ x.2 ≤ 16 ∧ x.1.length = 16 ∧ ∀ j : Nat, j < 16 → (j : Int) < x.2 → x.1.getD j 0 = rC n j) (fun x => (16 - x.2).toNat) ?_ (bk, 0) ⟨by simp only []; omega, by simp only []; omega, rfl, fun j _ h => by simp only [] at h; omega⟩
 rintro ⟨s, i⟩ ⟨(h0 : 0 ≤ i), (h1 : i ≤ 16), (h2 : s.length = 16), h3⟩ ih
 simp only [] at h3
 have hr := vv n i
 have hc := agN n
 refine go hz hX aH.Ok.nil Tryd.func29 (apS n s i) ⟨fun h => ?_, fun h => ?_⟩
 · have hi : i < (16 : Int) := of_decide_eq_true h
   refine ⟨⟨by omega, by omega⟩, ⟨by omega, by omega⟩, hr.1, h0, hi, ⟨by omega, by omega⟩, ih (s.set i.toNat (rC n i), i + 1) ⟨by simp only []; omega, by simp only []; omega, by simpa using h2, fun j hj hji => ?_⟩ (by simp only []; omega)⟩
   simp only [] at hji ⊢
   rw [qp]
   by_cases xf : j = i.toNat
   · rw [if_pos ⟨xf, by omega⟩, show (j : Int) = i from by omega]
   · rw [if_neg (fun h => xf h.1)]
     exact h3 j hj (by omega)
 · have hi : ¬ i < (16 : Int) := of_decide_eq_false h
   refine aQ (s, ()) ?_ (by kernel_rfl)
   rw [abr (a := s) (b := cC n) h2 (by simp [cC]) (fun j hj => ?_)]
   rw [h3 j hj (by omega)]
   simp [cC, List.getD, hj]
end Bx
namespace Bx
open Go Go.Sx Go.Proofs
def adu(n:Int):Int:=IntKind.u64.wrap n
def ub(a b:Int):Int:=bA .and .u64 a b
def sh(x k:Int):Int:=x.fdiv ((2:Int)^min (Int.toNat k) IntKind.u64.bits)
def oc1(x:Int):Int:=adu (ub (sh x 1) 6148914691236517205+ub x 6148914691236517205)
def oc2(x:Int):Int:=adu (ub (sh x 2) 3689348814741910323+ub x 3689348814741910323)
def oc3(x:Int):Int:=ub (adu (sh x 4+x)) 1085102592571150095
def oc4(x:Int):Int:=adu (x+sh x 8)
def oc5(x:Int):Int:=adu (x+sh x 16)
def oc6(x:Int):Int:=adu (x+sh x 32)
def ocF(x:Int):Int:=bA .and .i64 (oc6 (oc5 (oc4 (oc3 (oc2 (oc1 x)))))) 127
def ocG(x:Int):Int:=bA .and .i64 (IntKind.i64.wrap (oc6 (oc5 (oc4 (oc3 (oc2 (oc1 x))))))) 127
theorem apT(x:Int):run P jv.sum Tryd.f53 [] (start Tryd.f53 [.s (.int .u64 x)] [])=
 Tree.need ((0:Int)≤1) (.need ((0:Int)≤2) (.need ((0:Int)≤4) (.need ((0:Int)≤8) (.need ((0:Int)≤16) (.need ((0:Int)≤32) (.ret [] (.s (.int .i64 (ocG x))))))))):=by kernel_rfl
def pc:Nat→Nat→Nat
 |0,_=>0
 |n+1,x=>x%2+pc n (x / 2)
theorem rD(a b:Nat)(ha:a<18446744073709551616)(hb:b<18446744073709551616):ub (a:Int) (b:Int)=((a &&& b:Nat):Int):=by
 have hx:a &&& b<2^64:=Nat.and_lt_two_pow _ (by omega)
 have h1:(BitVec.ofInt 64 (a:Int)).toNat=a:=by
  rw[BitVec.ofInt_natCast,BitVec.toNat_ofNat];exact Nat.mod_eq_of_lt (by omega)
 have h2:(BitVec.ofInt 64 (b:Int)).toNat=b:=by
  rw[BitVec.ofInt_natCast,BitVec.toNat_ofNat];exact Nat.mod_eq_of_lt (by omega)
 show((BitVec.ofInt 64 (a:Int) &&& BitVec.ofInt 64 (b:Int)).toNat:Int)%18446744073709551616=_
 rw[BitVec.toNat_and,h1,h2]
 omega
theorem nT(n:Int):adu n=n%18446744073709551616:=rfl
theorem rE(x k:Nat)(hk:k≤64):sh (x:Int) (k:Int)=((x / 2^k:Nat):Int):=by
 unfold sh
 rw[show IntKind.u64.bits=64 from rfl,Int.toNat_natCast,Nat.min_eq_left hk,Int.fdiv_eq_ediv_of_nonneg _ (Int.pow_nonneg (by omega))]
 simp
def msk(b c:Nat):Nat→Nat
 |0=>0
 |n+1=>(2^b - 1)+2^c*msk b c n
theorem qq(b c n x:Nat)(hbc:b≤c):x &&& msk b c (n+1)=x%2^b+2^c*((x / 2^c) &&& msk b c n):=by
 have adv:x%2^b<2^c:=Nat.lt_of_lt_of_le (Nat.mod_lt _ (Nat.two_pow_pos _)) (Nat.pow_le_pow_right (by omega) hbc)
 have hm:2^b - 1<2^c:=Nat.lt_of_lt_of_le (by have:=Nat.two_pow_pos b;omega) (Nat.pow_le_pow_right (by omega) hbc)
 apply Nat.eq_of_testBit_eq
 intro i
 rw[Nat.testBit_and,msk,Nat.add_comm (2^b - 1),Nat.add_comm (x%2^b)]
 rw[Nat.testBit_two_pow_mul_add _ hm,Nat.testBit_two_pow_mul_add _ adv]
 by_cases hi:i<c
 ·rw[if_pos hi,if_pos hi,Nat.testBit_two_pow_sub_one,Nat.testBit_mod_two_pow,Bool.and_comm]
 ·rw[if_neg hi,if_neg hi,Nat.testBit_and,Nat.testBit_div_two_pow]
  congr 2
  omega
def zQ(n x:Nat):Nat:=((x / 2) &&& msk 1 2 n)+(x &&& msk 1 2 n)
theorem abt(n x:Nat):zQ (n+1) x=(x%2+x / 2%2)+4*zQ n (x / 4):=by
 unfold zQ
 rw[qq 1 2 n x (by omega),qq 1 2 n (x / 2) (by omega)]
 rw[show x / 2 / 2^2=x / 4 / 2 from by omega,show x / 2^2=x / 4 from rfl]
 omega
def st2(n y:Nat):Nat:=((y / 4) &&& msk 2 4 n)+(y &&& msk 2 4 n)
theorem ajg(n y:Nat):st2 (n+1) y=(y%4+y / 4%4)+16*st2 n (y / 16):=by
 unfold st2
 rw[qq 2 4 n y (by omega),qq 2 4 n (y / 4) (by omega)]
 rw[show y / 4 / 2^4=y / 16 / 4 from by omega,show y / 2^4=y / 16 from rfl]
 omega
theorem ajh(n x:Nat):zQ (n+2) x%16=x%2+x / 2%2+4*(x / 4%2+x / 4 / 2%2)∧zQ (n+2) x / 16=zQ n (x / 16):=by
 rw[abt,abt,show x / 16=x / 4 / 4 from by omega]
 constructor<;>omega
theorem aoV:∀(n x:Nat),st2 (n+1) (zQ (2*(n+1)) x)=pc 4 x+16*st2 n (zQ (2*n) (x / 16)):=by
 intro n x
 rw[ajg,show 2*(n+1)=2*n+2 from by omega]
 obtain⟨h1,h2⟩:=ajh (2*n) x
 rw[h2]
 have hp:pc 4 x=x%2+(x / 2%2+(x / 2 / 2%2+(x / 2 / 2 / 2%2+0))):=rfl
 rw[show x / 2 / 2=x / 4 from by omega]at hp
 rw[hp]
 generalize zQ (2*n+2) x=y at *
 generalize x / 4 / 2%2=b3 at *
 have:x%2<2∧x / 2%2<2∧x / 4%2<2:=by omega
 generalize x%2=b0 at *
 generalize x / 2%2=b1 at *
 generalize x / 4%2=b2 at *
 omega
def st3(n z:Nat):Nat:=(z / 16+z) &&& msk 4 8 n
theorem jW:∀(n x:Nat),pc n x≤n
 |0,x=>Nat.le_refl _
 |n+1,x=>by have:=jW n (x / 2);simp only[pc];omega
theorem l7:∀(m n x:Nat),pc (m+n) x=pc m x+pc n (x / 2^m)
 |0,n,x=>by simp[pc]
 |m+1,n,x=>by
  rw[show m+1+n=(m+n)+1 from by omega]
  simp only[pc]
  rw[l7 m n (x / 2),Nat.div_div_eq_div_mul,Nat.pow_succ,Nat.mul_comm 2]
  omega
def z4(n x:Nat):Nat:=st2 n (zQ (2*n) x)
theorem zA(n x:Nat):z4 (n+1) x=pc 4 x+16*z4 n (x / 16):=aoV n x
theorem alX(x:Nat):z4 0 x=0:=by simp[z4,st2,msk]
theorem aji(n x:Nat):st3 (n+1) (z4 (2*n+2) x)=pc 8 x+256*st3 n (z4 (2*n) (x / 256)):=by
 unfold st3
 rw[qq 4 8 n _ (by omega)]
 have e1:=zA (2*n+1) x
 have e2:=zA (2*n) (x / 16)
 rw[Nat.div_div_eq_div_mul]at e2
 have e0:pc 8 x=pc 4 x+pc 4 (x / 16):=l7 4 4 x
 have b1:=jW 4 x
 have b2:=jW 4 (x / 16)
 have b3:z4 (2*n) (x / (16*16))%16≤4:=by
  cases n with
  |zero=>rw[alX];omega
  |succ n=>
   rw[show 2*(n+1)=(2*n+1)+1 from by omega,zA]
   have:=jW 4 (x / (16*16))
   omega
 rw[show x / 256=x / (16*16)from rfl]
 generalize z4 (2*n) (x / (16*16))=q at *
 generalize z4 (2*n+1) (x / 16)=r at *
 generalize z4 (2*n+2) x=t at *
 have ht:(t / 16+t) / 2^8=q / 16+q:=by omega
 rw[ht]
 have:(t / 16+t)%2^4=pc 4 x+pc 4 (x / 16):=by omega
 omega
theorem bytes(x:Nat):st3 8 (z4 16 x)=pc 8 x+256*(pc 8 (x / 2^8)+256*(pc 8 (x / 2^16)+256*(pc 8 (x / 2^24)+256*(pc 8 (x / 2^32)+256*(pc 8 (x / 2^40)+256*(pc 8 (x / 2^48)+256*pc 8 (x / 2^56))))))):=by
 have h (n x:Nat):=aji n x
 have h0:∀x,st3 0 (z4 0 x)=0:=fun x=>by simp[st3,msk]
 rw[h 7,h 6,h 5,h 4,h 3,h 2,h 1,h 0,h0]
 simp only[Nat.div_div_eq_div_mul]
 try rfl
theorem auc(x:Nat):pc 64 x=pc 8 x+(pc 8 (x / 2^8)+(pc 8 (x / 2^16)+(pc 8 (x / 2^24)+(pc 8 (x / 2^32)+(pc 8 (x / 2^40)+(pc 8 (x / 2^48)+pc 8 (x / 2^56))))))):=by
 rw[l7 8 56 x,l7 8 48,l7 8 40,l7 8 32,l7 8 24,l7 8 16,l7 8 8]
 simp only[Nat.div_div_eq_div_mul]
 try rfl
theorem alY(x:Nat)(hx:x<18446744073709551616):oc1 (x:Int)=(zQ 32 x:Nat):=by
 have hm:msk 1 2 32=6148914691236517205:=by decide
 unfold oc1 zQ
 rw[show(1:Int)=((1:Nat):Int)from rfl,rE x 1 (by omega),show(6148914691236517205:Int)=((6148914691236517205:Nat):Int)from rfl,rD _ _ (by omega) (by omega),rD _ _ hx (by omega),nT,hm]
 have h1:x / 2^1 &&& 6148914691236517205≤6148914691236517205:=Nat.and_le_right
 have h2:x &&& 6148914691236517205≤6148914691236517205:=Nat.and_le_right
 rw[show x / 2^1=x / 2 from rfl]at *
 omega
theorem apU(x:Nat):zQ 32 x<18446744073709551616:=by
 have hm:msk 1 2 32=6148914691236517205:=by decide
 unfold zQ
 rw[hm]
 have h1:x / 2 &&& 6148914691236517205≤6148914691236517205:=Nat.and_le_right
 have h2:x &&& 6148914691236517205≤6148914691236517205:=Nat.and_le_right
 omega
theorem alZ(x:Nat)(hx:x<18446744073709551616):oc2 (x:Int)=(st2 16 x:Nat):=by
 have hm:msk 2 4 16=3689348814741910323:=by decide
 unfold oc2 st2
 rw[show(2:Int)=((2:Nat):Int)from rfl,rE x 2 (by omega),show(3689348814741910323:Int)=((3689348814741910323:Nat):Int)from rfl,rD _ _ (by omega) (by omega),rD _ _ hx (by omega),nT,hm]
 have h1:x / 2^2 &&& 3689348814741910323≤3689348814741910323:=Nat.and_le_right
 have h2:x &&& 3689348814741910323≤3689348814741910323:=Nat.and_le_right
 rw[show x / 2^2=x / 4 from rfl]at *
 omega
theorem apV(x:Nat):st2 16 x≤7378697629483820646:=by
 have hm:msk 2 4 16=3689348814741910323:=by decide
 unfold st2
 rw[hm]
 have h1:x / 4 &&& 3689348814741910323≤3689348814741910323:=Nat.and_le_right
 have h2:x &&& 3689348814741910323≤3689348814741910323:=Nat.and_le_right
 omega
theorem al0(x:Nat)(hx:x≤7378697629483820646):oc3 (x:Int)=(st3 8 x:Nat):=by
 have hm:msk 4 8 8=1085102592571150095:=by decide
 unfold oc3 st3
 rw[show(4:Int)=((4:Nat):Int)from rfl,rE x 4 (by omega),nT,hm]
 rw[show(((x / 2^4:Nat):Int)+(x:Int))%18446744073709551616=((x / 16+x:Nat):Int)from by omega,show(1085102592571150095:Int)=((1085102592571150095:Nat):Int)from rfl,rD _ _ (by omega) (by omega)]
theorem ajj(x:Nat)(hx:x<18446744073709551616):∃t:Nat,oc6 (oc5 (oc4 (oc3 (oc2 (oc1 (x:Int))))))=(t:Int)∧t<9223372036854775808∧t%256=pc 64 x:=by
 rw[alY x hx,alZ _ (apU x),al0 _ (apV _)]
 have hb:=bytes x
 rw[show z4 16 x=st2 16 (zQ 32 x)from rfl]at hb
 have hp:=auc x
 generalize st3 8 (st2 16 (zQ 32 x))=y at *
 have b0:=jW 8 x
 have b1:=jW 8 (x / 2^8)
 have b2:=jW 8 (x / 2^16)
 have b3:=jW 8 (x / 2^24)
 have b4:=jW 8 (x / 2^32)
 have b5:=jW 8 (x / 2^40)
 have b6:=jW 8 (x / 2^48)
 have b7:=jW 8 (x / 2^56)
 generalize pc 8 x=c0 at *
 generalize pc 8 (x / 2^8)=c1 at *
 generalize pc 8 (x / 2^16)=c2 at *
 generalize pc 8 (x / 2^24)=c3 at *
 generalize pc 8 (x / 2^32)=c4 at *
 generalize pc 8 (x / 2^40)=c5 at *
 generalize pc 8 (x / 2^48)=c6 at *
 generalize pc 8 (x / 2^56)=c7 at *
 generalize pc 64 x=p at *
 have e4:oc4 (y:Int)=((y+y / 256:Nat):Int):=by
  unfold oc4
  rw[show(8:Int)=((8:Nat):Int)from rfl,rE y 8 (by omega),nT,show(2:Nat)^8=256 from rfl]
  omega
 have h8:y / 256=c1+256*(c2+256*(c3+256*(c4+256*(c5+256*(c6+256*c7))))):=by omega
 rw[e4]
 have hu:y+y / 256=(c0+c1)+256*((c1+c2)+256*((c2+c3)+256*((c3+c4)+256*((c4+c5)+256*((c5+c6)+256*((c6+c7)+256*c7)))))):=by omega
 generalize y+y / 256=u at *
 clear h8 hb e4
 have e5:oc5 (u:Int)=((u+u / 65536:Nat):Int):=by
  unfold oc5
  rw[show(16:Int)=((16:Nat):Int)from rfl,rE u 16 (by omega),nT,show(2:Nat)^16=65536 from rfl]
  omega
 have h16:u / 65536=(c2+c3)+256*((c3+c4)+256*((c4+c5)+256*((c5+c6)+256*((c6+c7)+256*c7)))):=by omega
 rw[e5]
 have hv:∃a1 a2 a3 a5 a6 a7:Nat,a1≤64∧a2≤64∧a3≤64∧a5≤64∧a6≤64∧a7≤64∧u+u / 65536=(c0+c1+c2+c3)+256*(a1+256*(a2+256*(a3+256*((c4+c5+c6+c7)+256*(a5+256*(a6+256*a7)))))):=
  ⟨c1+c2+c3+c4,c2+c3+c4+c5,c3+c4+c5+c6,c5+c6+c7,c6+c7,c7,by omega,by omega,by omega,by omega,by omega,by omega,by omega⟩
 obtain⟨a1,a2,a3,a5,a6,a7,g1,g2,g3,g5,g6,g7,hv⟩:=hv
 generalize u+u / 65536=v at *
 clear hu h16 e5
 have e6:oc6 (v:Int)=((v+v / 4294967296:Nat):Int):=by
  unfold oc6
  rw[show(32:Int)=((32:Nat):Int)from rfl,rE v 32 (by omega),nT,show(2:Nat)^32=4294967296 from rfl]
  omega
 rw[e6]
 refine⟨v+v / 4294967296,rfl,by omega, ?_⟩
 have:v / 4294967296=(c4+c5+c6+c7)+256*(a5+256*(a6+256*a7)):=by omega
 omega
theorem apW(t:Nat)(ht:t<9223372036854775808):bA .and .i64 (t:Int) 127=((t%128:Nat):Int):=by
 have h1:(BitVec.ofInt 64 (t:Int)).toNat=t:=by
  rw[BitVec.ofInt_natCast,BitVec.toNat_ofNat];exact Nat.mod_eq_of_lt (by omega)
 have h2:(BitVec.ofInt 64 (127:Int)).toNat=127:=by decide
 show IntKind.i64.wrap ((BitVec.ofInt 64 (t:Int) &&& BitVec.ofInt 64 (127:Int)).toNat:Int)=_
 rw[BitVec.toNat_and,h1,h2,show(127:Nat)=2^7 - 1 from rfl,Nat.and_two_pow_sub_one_eq_mod]
 generalize hm:t%2^7=m
 have:m<128:=by omega
 simp only[IntKind.wrap,IntKind.signed,IntKind.bits]
 simp
 omega
theorem al1(x:Nat)(hx:x<18446744073709551616):ocF (x:Int)=(pc 64 x:Nat):=by
 obtain⟨t,h1,h2,h3⟩:=ajj x hx
 unfold ocF
 rw[h1,apW t h2]
 have:=jW 64 x
 omega
theorem al2{Z:aX}:dd P Z 53 [tU] [bm] (fun(x,())=>[(0:Int)≤x∧x<(18446744073709551616:Int)]) (fun(x,())=>(((pc 64 (Int.toNat x):Nat):Int),())):=by
 refine aq Tryd.func53 (by kernel_rfl) (by kernel_rfl) ?_
 rintro⟨(x:Int),⟨⟩⟩ _ ⟨(hx:0≤x∧x<18446744073709551616),_⟩ X hX hz
 obtain⟨n,rfl⟩:=Int.eq_ofNat_of_zero_le hx.1
 obtain⟨t,h1,h2,h3⟩:=ajj n (by omega)
 refine go hz hX aH.Ok.nil Tryd.func53 (apT n) ⟨by omega,by omega,by omega,by omega,by omega,by omega,aQ (ocG n,()) ?_ (by kernel_rfl)⟩
 ·have e:ocG n=ocF n:=by
   unfold ocG ocF
   rw[bV (by rw[h1];exact⟨by omega,by omega⟩)]
  rw[e]
  clear e
  revert h1
  intro _
  rw[al1 n (by omega)];rfl
end Bx
namespace Bx
open Go Go.Sx Go.Proofs
def okW(ws:List Int):Prop:=ws.length=16∧∀w∈ws,0≤w∧w<18446744073709551616
def wd(ws:List Int)(i:Nat):Nat:=(ws.getD i 0).toNat
def bit(ws:List Int)(k:Nat):Bool:=(wd ws (k / 64)).testBit (k%64)
def opb:BinOp→Bool→Bool→Bool
 |.or,x,y=>x||y
 |.andNot,x,y=>x&& !y
 |_,x,y=>x&&y
theorem vz{ws:List Int}(h:okW ws)(i:Nat):wd ws i<18446744073709551616∧(ws.getD i 0)=(wd ws i:Int):=by
 unfold wd
 by_cases hi:i<ws.length
 ·have:=h.2 (ws.getD i 0) (by rw[List.getD,List.getElem?_eq_getElem hi];exact List.getElem_mem hi)
  omega
 ·have:ws.getD i 0=0:=by simp[List.getD,List.getElem?_eq_none (Nat.le_of_not_lt hi)]
  rw[this];simp
theorem xP(op:BinOp)(v8:op=.or∨op=.and∨op=.andNot)(a b:Nat)(ha:a<18446744073709551616)(hb:b<18446744073709551616):
 ∃r:Nat,bA op .u64 (a:Int) (b:Int)=(r:Int)∧r<18446744073709551616∧∀i,i<64→r.testBit i=opb op (a.testBit i) (b.testBit i):=by
 have h1:BitVec.ofInt 64 (a:Int)=BitVec.ofNat 64 a:=BitVec.ofInt_natCast 64 a
 have h2:BitVec.ofInt 64 (b:Int)=BitVec.ofNat 64 b:=BitVec.ofInt_natCast 64 b
 have key:∀v:BitVec 64,IntKind.u64.wrap (v.toNat:Int)=(v.toNat:Int):=fun v=>by
  have:=v.isLt
  show(v.toNat:Int)%18446744073709551616=_
  omega
 rcases v8 with rfl|rfl|rfl
 ·refine⟨(BitVec.ofNat 64 a ||| BitVec.ofNat 64 b).toNat, ?_,(BitVec.ofNat 64 a ||| BitVec.ofNat 64 b).isLt,fun i hi=> ?_⟩
  ·show IntKind.u64.wrap ((BitVec.ofInt 64 (a:Int) ||| BitVec.ofInt 64 (b:Int)).toNat:Int)=_
   rw[h1,h2,key]
  ·rw[BitVec.testBit_toNat,BitVec.getLsbD_or,BitVec.getLsbD_ofNat,BitVec.getLsbD_ofNat]
   simp[opb,hi]
 ·refine⟨(BitVec.ofNat 64 a &&& BitVec.ofNat 64 b).toNat, ?_,(BitVec.ofNat 64 a &&& BitVec.ofNat 64 b).isLt,fun i hi=> ?_⟩
  ·show IntKind.u64.wrap ((BitVec.ofInt 64 (a:Int) &&& BitVec.ofInt 64 (b:Int)).toNat:Int)=_
   rw[h1,h2,key]
  ·rw[BitVec.testBit_toNat,BitVec.getLsbD_and,BitVec.getLsbD_ofNat,BitVec.getLsbD_ofNat]
   simp[opb,hi]
 ·refine⟨(BitVec.ofNat 64 a &&& ~~~ BitVec.ofNat 64 b).toNat, ?_,(BitVec.ofNat 64 a &&& ~~~ BitVec.ofNat 64 b).isLt,fun i hi=> ?_⟩
  ·show IntKind.u64.wrap ((BitVec.ofInt 64 (a:Int) &&& ~~~ BitVec.ofInt 64 (b:Int)).toNat:Int)=_
   rw[h1,h2,key]
  ·rw[BitVec.testBit_toNat,BitVec.getLsbD_and,BitVec.getLsbD_not,BitVec.getLsbD_ofNat,BitVec.getLsbD_ofNat]
   simp[opb,hi]
theorem vA{ws:List Int}(hl:ws.length=16)(h:∀i,i<16→0≤ws.getD i 0∧ws.getD i 0<18446744073709551616):okW ws:=by
 refine⟨hl,fun w hw=> ?_⟩
 obtain⟨i,hi,rfl⟩:=List.getElem_of_mem hw
 have:=h i (by omega)
 rwa[List.getD,List.getElem?_eq_getElem hi]at this
theorem ajk{op:BinOp}{a b:List Int}(ha:a.length=16)(hb:b.length=16){i:Nat}(hi:i<16):(dc op a b).getD i 0=bA op .u64 (a.getD i 0) (b.getD i 0):=by
 have h1:i<a.length:=by omega
 have h2:i<b.length:=by omega
 simp[dc,List.getD,List.getElem?_zipWith,h1,h2]
theorem nr{op:BinOp}(v8:op=.or∨op=.and∨op=.andNot){a b:List Int}(ha:okW a)(hb:okW b):okW (dc op a b)∧∀k,k<1024→bit (dc op a b) k=opb op (bit a k) (bit b k):=by
 have key:∀i,i<16→∃r:Nat,(dc op a b).getD i 0=(r:Int)∧r<18446744073709551616∧∀j,j<64→r.testBit j=opb op ((wd a i).testBit j) ((wd b i).testBit j):=fun i hi=>by
  rw[ajk ha.1 hb.1 hi,(vz ha i).2,(vz hb i).2]
  exact xP op v8 _ _ (vz ha i).1 (vz hb i).1
 refine⟨vA (by simp[dc,ha.1,hb.1]) fun i hi=> ?_,fun k hk=> ?_⟩
 ·obtain⟨r,h1,h2,_⟩:=key i hi
  rw[h1];omega
 ·obtain⟨r,h1,h2,h3⟩:=key (k / 64) (by omega)
  unfold bit
  rw[show wd (dc op a b) (k / 64)=r from by unfold wd;rw[h1];rfl]
  exact h3 _ (by omega)
theorem gK:okW bk∧∀k,bit bk k=false:=by
 refine⟨⟨rfl,fun w hw=> ?_⟩,fun k=> ?_⟩
 ·have:=List.eq_of_mem_replicate hw
  omega
 ·have:wd bk (k / 64)=0:=by
   unfold wd bk
   rw[List.getD,List.getElem?_replicate]
   split<;>rfl
  simp[bit,this]
theorem tk{j i:Nat}:(2^j).testBit i=decide (j=i):=by
 rw[Nat.testBit_two_pow]
theorem abu{n:Int}(h:0≤n∧n<1024):lF n=((2^(n.toNat%64):Nat):Int)∧2^(n.toNat%64)<18446744073709551616∧dW n=((n.toNat / 64:Nat):Int):=by
 unfold lF dW
 rw[if_pos h,if_pos h]
 have e:(n%64).toNat=n.toNat%64:=by omega
 rw[e]
 have h2:(2:Nat)^(n.toNat%64)<2^64:=Nat.pow_lt_pow_right (by omega) (by omega)
 refine⟨by simp,h2,by omega⟩
theorem lG{n:Int}:hM n=true↔0≤n∧n<1024:=by simp[hM]
theorem ajl(op:BinOp)(v8:op=.or∨op=.andNot){ws:List Int}(hw:okW ws){n:Int}(h:0≤n∧n<1024):
 okW (ws.set (dW n).toNat (bA op .u64 (ws.getD (dW n).toNat 0) (lF n)))∧∀k,k<1024→bit (ws.set (dW n).toNat (bA op .u64 (ws.getD (dW n).toNat 0) (lF n))) k=opb op (bit ws k) (decide (n=(k:Int))):=by
 obtain⟨e1,e2,e3⟩:=abu h
 rw[e1,e3,Int.toNat_natCast]
 obtain⟨m,rfl⟩:=Int.eq_ofNat_of_zero_le h.1
 simp only[Int.toNat_natCast]at *
 have hb:=vz hw (m / 64)
 rw[hb.2]
 obtain⟨r,h1,h2,h3⟩:=xP op (by rcases v8 with h|h<;>simp[h]) _ _ hb.1 e2
 rw[h1]
 have hm:m / 64<ws.length:=by rw[hw.1];omega
 refine⟨vA (by simpa using hw.1) fun i hi=> ?_,fun k hk=> ?_⟩
 ·rw[qp]
  split
  ·omega
  ·have:=vz hw i;omega
 ·unfold bit wd
  rw[qp]
  by_cases sK:k / 64=m / 64
  ·rw[if_pos ⟨sK,hm⟩,Int.toNat_natCast,h3 _ (by omega),tk]
   have:decide (m%64=k%64)=decide ((m:Int)=(k:Int)):=by
    apply decide_eq_decide.2;omega
   rw[this,sK]
   rfl
  ·rw[if_neg (fun h=>sK h.1)]
   have:decide ((m:Int)=(k:Int))=false:=decide_eq_false (by omega)
   rw[this]
   rcases v8 with rfl|rfl<;>simp[opb]
theorem iN{ws:List Int}(hw:okW ws)(n:Int):okW (di ws n)∧∀k,k<1024→bit (di ws n) k=(bit ws k||decide (n=(k:Int))):=by
 unfold di
 by_cases h:0≤n∧n<1024
 ·rw[if_pos (lG.2 h)]
  exact ajl .or (.inl rfl) hw h
 ·rw[if_neg (fun h2=>h (lG.1 h2))]
  refine⟨hw,fun k hk=> ?_⟩
  rw[decide_eq_false (by omega),Bool.or_false]
theorem kx{ws:List Int}(hw:okW ws)(n:Int):okW (cQ ws n)∧∀k,k<1024→bit (cQ ws n) k=(bit ws k&& !decide (n=(k:Int))):=by
 unfold cQ
 by_cases h:0≤n∧n<1024
 ·rw[if_pos (lG.2 h)]
  exact ajl .andNot (.inr rfl) hw h
 ·rw[if_neg (fun h2=>h (lG.1 h2))]
  refine⟨hw,fun k hk=> ?_⟩
  rw[decide_eq_false (by omega)]
  simp
theorem ajm(l:List Int):okW (ofF l)∧∀k,k<1024→bit (ofF l) k=decide ((k:Int)∈l):=by
 have:∀(l:List Int) (ws:List Int),okW ws→okW (l.foldl di ws)∧∀k,k<1024→bit (l.foldl di ws) k=(bit ws k||decide ((k:Int)∈l)):=by
  intro l
  induction l with
  |nil=>intro ws h;exact⟨h,fun k _=>by simp⟩
  |cons n l ih=>
   intro ws h
   obtain⟨h1,h2⟩:=iN h n
   obtain⟨h3,h4⟩:=ih _ h1
   refine⟨h3,fun k hk=> ?_⟩
   rw[List.foldl_cons,h4 k hk,h2 k hk]
   by_cases hn:n=(k:Int)
   ·simp[hn]
   ·simp[hn,Ne.symm hn]
 obtain⟨h1,h2⟩:=this l bk gK.1
 exact⟨h1,fun k hk=>by rw[ofF,h2 k hk,gK.2];simp⟩
theorem al3(w j:Nat):w &&& 2^j=if w.testBit j=true then 2^j else 0:=by
 apply Nat.eq_of_testBit_eq
 intro i
 rw[Nat.testBit_and,tk]
 by_cases h:j=i
 ·subst h
  cases h2:w.testBit j
  ·simp
  ·simp[tk]
 ·cases h2:w.testBit j
  ·simp[h]
  ·simp[tk,h]
theorem ae6{ws:List Int}(hw:okW ws)(n:Int):nq ws n=(decide (0≤n∧n<1024)&&bit ws n.toNat):=by
 unfold nq
 by_cases h:0≤n∧n<1024
 ·rw[show hM n=true from lG.2 h,decide_eq_true h]
  obtain⟨e1,e2,e3⟩:=abu h
  rw[e1,e3,Int.toNat_natCast]
  have hb:=vz hw (n.toNat / 64)
  rw[hb.2]
  have:=rD _ _ hb.1 e2
  unfold ub at this
  rw[this,al3]
  unfold bit
  have hp:(0:Nat)<2^(n.toNat%64):=Nat.two_pow_pos _
  generalize (2:Nat)^(n.toNat%64)=p at *
  cases(wd ws (n.toNat / 64)).testBit (n.toNat%64)
  ·rfl
  ·rw[if_pos rfl]
   simp
   omega
 ·rw[show hM n=false from by simp[hM];omega,decide_eq_false h]
  rfl
theorem vB(n i:Int):∃m:Nat,m≤64∧agM n i=m∧rC n i=((2^m - 1:Nat):Int):=by
 obtain⟨h0,h1⟩:=vv n i
 obtain⟨m,hm⟩:=Int.eq_ofNat_of_zero_le h0
 refine⟨m,by omega,hm, ?_⟩
 unfold rC
 rw[hm,Int.toNat_natCast,show IntKind.u64.bits=64 from rfl,Nat.min_eq_left (by omega),Int.one_mul]
 show((2:Int)^m%18446744073709551616 - 1)%18446744073709551616=_
 have hp:=Nat.two_pow_pos m
 by_cases h64:m=64
 ·subst h64;decide
 ·have h2:(2:Nat)^m<2^64:=Nat.pow_lt_pow_right (by omega) (by omega)
  rw[show(2:Int)^m=((2^m:Nat):Int)from by simp]
  generalize (2:Nat)^m=p at *
  omega
theorem dQ(n:Int):okW (cC n)∧∀k,k<1024→bit (cC n) k=decide ((k:Int)<n):=by
 have hg:∀i:Nat,i<16→(cC n).getD i 0=rC n i:=fun i hi=>by simp[cC,List.getD,hi]
 refine⟨vA (by simp[cC]) fun i hi=> ?_,fun k hk=> ?_⟩
 ·rw[hg i hi]
  obtain⟨m,h1,_,h2⟩:=vB n i
  rw[h2]
  have:(2:Nat)^m≤2^64:=Nat.pow_le_pow_right (by omega) h1
  omega
 ·unfold bit wd
  rw[hg _ (by omega)]
  obtain⟨m,h1,h3,h2⟩:=vB n ((k / 64:Nat):Int)
  rw[h2,Int.toNat_natCast,Nat.testBit_two_pow_sub_one]
  apply decide_eq_decide.2
  unfold agM oN imax at h3
  split at h3<;>(split at h3<;>(split at h3<;>split at h3<;>omega))
end Bx
namespace Bx
open Go Go.Sx Go.Proofs
abbrev s35:=bS [tU] [bm] (fun(x,())=>[(0:Int)≤x∧x<(18446744073709551616:Int)]) (fun(x,())=>(((pc 64 (Int.toNat x):Nat):Int),()))
def apX:aH:=[(53,s35)]
def ar8:List (Nat×Norm):=[(3,⟨[],[3,6,7],0,[]⟩)]
noncomputable def c14(ws:List Int)(n i:Int):bB:=⟨sl 16 [(3,.s (.int .i64 n)),(6,.ints .u64 16 ws),(7,.s (.int .i64 i))],[],hd Tryd.f27 3,{}⟩
theorem apY(ws:List Int):run P apX.sum Tryd.f27 ar8 (start Tryd.f27 [.ints .u64 16 ws] [])=
 Tree.at (.mk (sl 16 [(3,.s (.int .i64 0)),(6,.ints .u64 16 ws),(7,.s (.int .i64 0))]) [] (hd Tryd.f27 3) (.mk none false 0 [] 0)):=by kernel_rfl
theorem apZ(ws:List Int)(n i:Int):run P apX.sum Tryd.f27 ar8 (c14 ws n i)=
 Tree.ite (decide (i<16)) (.need ((0:Int)≤i) (.need (i<(↑(16:Nat):Int)) (.need ((0:Int)≤ws.getD i.toNat (0:Int)∧ws.getD i.toNat (0:Int)<18446744073709551616) (.need (aD (n+(↑(pc 64 (ws.getD i.toNat 0).toNat):Int))) (.need (aD (i+1)) (.at (.mk (sl 16 [(3,.s (.int .i64 (n+(↑(pc 64 (ws.getD i.toNat 0).toNat):Int)))),(6,.ints .u64 16 ws),(7,.s (.int .i64 (i+1)))]) [] (hd Tryd.f27 3) (.mk none false 0 [] 0)))))))) (.ret [] (.s (.int .i64 n))):=by kernel_rfl
def abv(x:Int):Int:=(Lib.ctz 64 x.toNat:Nat)
abbrev s34:=bS [tU] [bm] (fun(x,())=>[(0:Int)≤x∧x<(18446744073709551616:Int)]) (fun(x,())=>(abv x,()))
abbrev s13:=bS [bm] [dt] (fun _=>[]) (fun(n,())=>(cC n,()))
abbrev s21:=bS [dt,dt] [dt] (fun _=>[]) (fun(a,b,())=>(dc .andNot a b,()))
def ap0:aH:=[(29,s13),(23,s21),(103,s34)]
def ar9:List (Nat×Norm):=[(6,⟨[],[17,18],0,[]⟩)]
noncomputable def c12(ws:List Int)(i:Int):bB:=⟨sl 30 [(17,.ints .u64 16 ws),(18,.s (.int .i64 i))],[],hd Tryd.f95 6,{}⟩
theorem ap1(ws:List Int)(n:Int):run P ap0.sum Tryd.f95 ar9 (start Tryd.f95 [.ints .u64 16 ws,.s (.int .i64 n)] [])=
 Tree.ite (decide (imax n (0:Int)≥1024)) (.ret [.own [.ints .u64 16 ws] 47] (.bp [.s (.aW .i64 0),.s (.aJ false)])) (.at (.mk (sl 30 [(17,.ints .u64 16 (dc BinOp.andNot ws (cC (imax n 0)))),(18,.s (.int .i64 0))]) [] (hd Tryd.f95 6) (.mk none false 0 [] 0))):=by kernel_rfl
theorem ap2(ws:List Int)(i:Int):run P ap0.sum Tryd.f95 ar9 (c12 ws i)=
 Tree.ite (decide (i<16)) (.need ((0:Int)≤i) (.need (i<(↑(16:Nat):Int)) (.ite (ws.getD i.toNat (0:Int) !=0) (.need (aD (i*64)) (.need ((0:Int)≤ws.getD i.toNat (0:Int)∧ws.getD i.toNat (0:Int)<18446744073709551616) (.need (aD (i*64+abv (ws.getD i.toNat 0))) (.ret [] (.bp [.s (.int .i64 (i*64+abv (ws.getD i.toNat 0))),.s (.aJ true)]))))) (.need (aD (i+1)) (.at (.mk (sl 30 [(17,.ints .u64 16 ws),(18,.s (.int .i64 (i+1)))]) [] (hd Tryd.f95 6) (.mk none false 0 [] 0))))))) (.ret [] (.bp [.s (.aW .i64 0),.s (.aJ false)])):=by kernel_rfl
def ky:List Int→Int→Option Int
 |[],_=>none
 |w::ws,i=>if w≠0 then some (i*64+abv w)else ky ws (i+1)
def nt(ws:List Int)(n:Int):Option Int:=if imax n 0≥1024 then none else ky (dc .andNot ws (cC (imax n 0))) 0
def bu(ws:List Int)(n:Int):Int:=(nt ws n).getD 0
def eI(ws:List Int)(n:Int):Bool:=(nt ws n).isSome
abbrev s12:=bS [dt,bm] [bm,cv] (fun(ws,_,())=>[okW ws]) (fun(ws,n,())=>(bu ws n,eI ws n,()))
def fr(b:Nat→Bool)(m:Nat):List Nat:=(List.range m).filter b
def adw(ws:List Int):List Nat:=fr (bit ws) 1024
theorem qs(b:Nat→Bool)(m:Nat):fr b (m+1)=fr b m++(if b m=true then [m]else []):=by
 unfold fr
 rw[List.range_succ,List.filter_append]
 cases h:b m<;>simp[h]
theorem agO(b:Nat→Bool)(m:Nat):(fr b m).length≤m:=by
 have:=List.length_filter_le b (List.range m)
 rwa[List.length_range]at this
theorem abw{x:Nat}(h0:x≠0)(h:x<18446744073709551616):Lib.ctz 64 x<64∧x.testBit (Lib.ctz 64 x)=true∧∀c,c<Lib.ctz 64 x→x.testBit c=false:=by
 unfold Lib.ctz
 rw[if_neg h0]
 obtain⟨m,h1,h2⟩:=Lib.ctzFrom_spec 64 x (by omega) h
 generalize Lib.ctzFrom 64 x=e at *
 refine⟨h2, ?_,fun c hc=> ?_⟩
 ·rw[h1,Nat.testBit_two_pow_mul]
  simp
 ·rw[h1,Nat.testBit_two_pow_mul]
  simp;omega
theorem l8 : ∀ (l : List Int) (i : Int), (∀ w ∈ l, 0 ≤ w ∧ w < 18446744073709551616) →
    match ky l i with
    | some v => ∃ j c : Nat, j < l.length ∧ c < 64 ∧ v = (i + j) * 64 + c ∧ (l.getD j 0).toNat.testBit c = true ∧ (∀ c', c' < c → (l.getD j 0).toNat.testBit c' = false) ∧ ∀ j', j' < j → l.getD j' 0 = 0
    | none => ∀ j, l.getD j 0 = 0
  | [], i, _ => fun j => by simp
  | w :: l, i, h => by
    unfold ky
    have hw := h w (by simp)
    by_cases h0 : w ≠ 0
    · rw [if_pos h0]
      obtain ⟨h1, h2, h3⟩ := abw (x := w.toNat) (by omega) (by omega)
      exact ⟨0, Lib.ctz 64 w.toNat, by simp, h1, by simp [abv], by simpa using h2, by simpa using h3, fun j' hj => by omega⟩
    · rw [if_neg h0]
      have ih := l8 l (i + 1) (fun x hx => h x (by simp [hx]))
      split
      · rename_i v hv
        rw [hv] at ih
        obtain ⟨j, c, h1, h2, h3, h4, h5, h6⟩ := ih
        refine ⟨j + 1, c, by simp; omega, h2, by rw [h3]; simp; omega, by simpa using h4, by simpa using h5, fun j' hj => ?_⟩
        cases j' with
        | zero => simp; omega
        | succ j' => simpa using h6 j' (by omega)
      · rename_i hv
        rw [hv] at ih
        intro j
        cases j with
        | zero => simp; omega
        | succ j => simpa using ih j
theorem adx{ws:List Int}(hw:okW ws){n v:Int}(h:nt ws n=some v):∃p:Nat,v=(p:Int)∧p<1024∧bit ws p=true∧n≤(p:Int)∧∀k:Nat,k<p→n≤(k:Int)→bit ws k=false:=by
 unfold nt at h
 split at h
 ·cases h
 ·rename_i h0
  obtain⟨h1,h2⟩:=nr (.inr (.inr rfl)) hw (dQ (imax n 0)).1
  have hs:=l8 _ 0 h1.2
  rw[h]at hs
  obtain⟨j,c,g1,g2,g3,g4,g5,g6⟩:=hs
  rw[h1.1]at g1
  have hm:∀k,k<1024→bit (dc .andNot ws (cC (imax n 0))) k=(bit ws k&& !decide ((k:Int)<imax n 0)):=fun k hk=>by
   rw[h2 k hk,(dQ (imax n 0)).2 k hk];rfl
  have hp:bit (dc .andNot ws (cC (imax n 0))) (64*j+c)=true:=by
   unfold bit wd
   rw[show(64*j+c) / 64=j from by omega,show(64*j+c)%64=c from by omega]
   exact g4
  have adv:∀k,k<64*j+c→bit (dc .andNot ws (cC (imax n 0))) k=false:=fun k hk=>by
   unfold bit wd
   by_cases hkj:k / 64=j
   ·rw[hkj];exact g5 _ (by omega)
   ·rw[g6 (k / 64) (by omega)];simp
  have asa:imax n 0=n∧0≤n∨imax n 0=0∧n<0:=by unfold imax;split<;>omega
  have hp2:=hp
  rw[hm _ (by omega)]at hp2
  simp only[Bool.and_eq_true,Bool.not_eq_true',decide_eq_false_iff_not]at hp2
  refine⟨64*j+c,by rw[g3];simp;omega,by omega,hp2.1,by omega,fun k hk hn=> ?_⟩
  have:=adv k hk
  rw[hm k (by omega)]at this
  simp only[Bool.and_eq_false_iff,Bool.not_eq_false',decide_eq_true_eq]at this
  rcases this with h|h
  ·exact h
  ·omega
theorem ady{ws:List Int}(hw:okW ws){n:Int}(h:nt ws n=none):∀k:Nat,k<1024→n≤(k:Int)→bit ws k=false:=by
 intro k hk hn
 unfold nt at h
 have asa:imax n 0=n∧0≤n∨imax n 0=0∧n<0:=by unfold imax;split<;>omega
 split at h
 ·omega
 ·rename_i h0
  obtain⟨h1,h2⟩:=nr (.inr (.inr rfl)) hw (dQ (imax n 0)).1
  have hs:=l8 _ 0 h1.2
  rw[h]at hs
  have hb:bit (dc .andNot ws (cC (imax n 0))) k=false:=by
   unfold bit wd
   rw[hs];simp
  rw[h2 k hk,(dQ (imax n 0)).2 k hk,decide_eq_false (by omega)]at hb
  simpa[opb]using hb
def adz(ws:List Int):Int:=((ws.map fun w=>pc 64 w.toNat).sum:Nat)
theorem ap3{Z:aX}:dd P Z 27 [dt] [bm] (fun(ws,())=>[okW ws]) (fun(ws,())=>(adz ws,())):=by
 refine aq Tryd.func27 (by kernel_rfl) (by kernel_rfl) ?_
 rintro⟨(ws:List Int),⟨⟩⟩ _ ⟨(hw:okW ws),_⟩ X hX hz
 have hT:apX.Ok P Z:=aH.Ok.cons al2.sum aH.Ok.nil
 refine go hz hX hT Tryd.func27 (apY ws) ?_
 have bound:∀l:List Int,(l.map fun w=>pc 64 w.toNat).sum≤64*l.length:=fun l=>by
  induction l with
  |nil=>simp
  |cons a l ih=>have:=jW 64 a.toNat;simp only[List.map_cons,List.sum_cons,List.length_cons];omega
 refine lr (fun(i:Int)=>c14 ws (((ws.take i.toNat).map fun w=>pc 64 w.toNat).sum:Nat) i) (fun i=>0≤i∧i≤16) (fun i=>(16 - i).toNat) ?_ 0 ⟨by omega,by omega⟩
 rintro i ⟨(h0:0≤i),(h1:i≤16)⟩ ih
 have hl:=hw.1
 have hb:=bound (ws.take i.toNat)
 rw[List.length_take]at hb
 refine go hz hX hT Tryd.func27 (apZ ws _ i) ⟨fun h=> ?_,fun h=> ?_⟩
 ·have hi:i<(16:Int):=of_decide_eq_true h
  have hm:=hw.2 (ws.getD i.toNat 0) (by rw[List.getD,List.getElem?_eq_getElem (by omega)];exact List.getElem_mem (by omega))
  have hp:=jW 64 (ws.getD i.toNat 0).toNat
  refine⟨h0,hi,hm,⟨by omega,by omega⟩,⟨by omega,by omega⟩, ?_⟩
  have:=ih (i+1) ⟨by omega,by omega⟩ (by omega)
  rw[show(i+1).toNat=i.toNat+1 from by omega,rB ws i.toNat 0 (by omega)]at this
  rw[List.map_append,List.sum_append]at this
  simp only[List.map_cons,List.map_nil,List.sum_cons,List.sum_nil,Nat.add_zero]at this
  rw[Int.natCast_add]at this
  exact this
 ·have hi:¬i<(16:Int):=of_decide_eq_false h
  rw[List.take_of_length_le (by omega)]
  exact aQ (adz ws,()) rfl (by kernel_rfl)
theorem xQ:∀(n x:Nat),pc n x=((List.range n).filter x.testBit).length
 |0,x=>rfl
 |n+1,x=>by
  rw[pc,xQ n (x / 2),List.range_succ_eq_map,List.filter_cons,List.filter_map]
  have e:(x.testBit∘Nat.succ)=(x / 2).testBit:=by funext i;simp[Nat.testBit_succ]
  rw[e,Nat.testBit_zero]
  rcases Nat.mod_two_eq_zero_or_one x with h|h
  ·rw[h];simp
  ·rw[h];simp;omega
theorem al4{ws:List Int}(hl:ws.length=16):adz ws=((adw ws).length:Nat):=by
 have:∀j,j≤16→(fr (bit ws) (64*j)).length=((ws.take j).map fun w=>pc 64 w.toNat).sum:=by
  intro j
  induction j with
  |zero=>intro _;rfl
  |succ j ih=>
   intro hj
   rw[rB ws j 0 (by omega),List.map_append,List.sum_append,←ih (by omega)]
   unfold fr
   rw[show 64*(j+1)=64*j+64 from by omega,List.range_add,List.filter_append,List.length_append,List.filter_map,List.length_map]
   simp only[List.map_cons,List.map_nil,List.sum_cons,List.sum_nil,Nat.add_zero]
   rw[xQ]
   congr 2
   apply List.filter_congr
   intro i hi
   have hi:=List.mem_range.1 hi
   simp only[Function.comp,bit,wd]
   rw[show(64*j+i) / 64=j from by omega,show(64*j+i)%64=i from by omega]
 unfold adz adw
 have h:=this 16 (by omega)
 rw[show 64*16=1024 from rfl]at h
 rw[h,List.take_of_length_le (by omega)]
theorem al5{Z:aX}(h34:uG P Z 103 s34):dd P Z 95 [dt,bm] [bm,cv] (fun(ws,_,())=>[okW ws]) (fun(ws,n,())=>(bu ws n,eI ws n,())):=by
 refine aq Tryd.func95 (by kernel_rfl) (by kernel_rfl) ?_
 rintro⟨(ws:List Int),(n:Int),⟨⟩⟩ _ ⟨(hw:okW ws),_⟩ X hX hz
 have hT:ap0.Ok P Z:=aH.Ok.cons vw.sum (aH.Ok.cons ae5.sum (aH.Ok.cons h34 aH.Ok.nil))
 refine go hz hX hT Tryd.func95 (ap1 ws n) ⟨fun h=> ?_,fun h=> ?_⟩
 ·have h:imax n 0≥1024:=of_decide_eq_true h
  refine aQ (0,false,()) ?_ (by kernel_rfl)
  simp only[bu,eI,nt,if_pos h]
  rfl
 ·have h:¬imax n 0≥1024:=of_decide_eq_false h
  have e:nt ws n=ky (dc .andNot ws (cC (imax n 0))) 0:=by unfold nt;rw[if_neg h]
  have hr:=(nr (.inr (.inr rfl)) hw (dQ (imax n 0)).1).1
  simp only[bu,eI,e]
  generalize dc BinOp.andNot ws (cC (imax n 0))=rest at *
  refine lr (fun(i:Int)=>c12 rest i) (fun i=>0≤i∧i≤16∧ky rest 0=ky (rest.drop i.toNat) i) (fun i=>(16 - i).toNat) ?_ 0 ⟨by omega,by omega,rfl⟩
  rintro i ⟨(h0:0≤i),(h1:i≤16),h2⟩ ih
  have hl:=hr.1
  refine go hz hX hT Tryd.func95 (ap2 rest i) ⟨fun h=> ?_,fun h=> ?_⟩
  ·have hi:i<(16:Int):=of_decide_eq_true h
   have hd:rest.drop i.toNat=rest.getD i.toNat 0::rest.drop (i.toNat+1):=by
    rw[List.drop_eq_getElem_cons (by omega),List.getD,List.getElem?_eq_getElem (by omega)];rfl
   have hm:=hr.2 (rest.getD i.toNat 0) (by rw[List.getD,List.getElem?_eq_getElem (by omega)];exact List.getElem_mem (by omega))
   rw[hd,ky]at h2
   refine⟨h0,hi,fun h3=> ?_,fun h3=>⟨⟨by omega,by omega⟩,ih (i+1) ⟨by omega,by omega, ?_⟩ (by omega)⟩⟩
   ·have h3:rest.getD i.toNat 0≠0:=by simpa using h3
    rw[if_pos h3]at h2
    have hc:=(abw (x:=(rest.getD i.toNat 0).toNat) (by omega) (by omega)).1
    refine⟨⟨by omega,by omega⟩,hm,⟨by unfold abv;omega,by unfold abv;omega⟩, ?_⟩
    rw[h2]
    exact aQ _ rfl (by kernel_rfl)
   ·have h3:¬rest.getD i.toNat 0≠0:=by simpa using h3
    rw[if_neg h3]at h2
    rw[h2,show(i+1).toNat=i.toNat+1 from by omega]
  ·have hi:¬i<(16:Int):=of_decide_eq_false h
   rw[List.drop_eq_nil_of_le (by omega)]at h2
   rw[h2]
   exact aQ (0,false,()) rfl (by kernel_rfl)
end Bx
namespace Ts
open Go Go.Sx Go.Proofs Lf
abbrev Th:=Ds.Th
abbrev As:=Ds.As
abbrev Ws:=List Int
def gU(th:Th)(m:As)(n deep:Int):Int:=if deep>16 then 4 else if Ds.ji th m n=0 then ry (Ds.gS th m n)else Ds.ji th m n
def rF(th:Th)(m:As)(n deep:Int):Bool:=decide (deep≤16)&&decide (Ds.ji th m n=0)
def kJ(th:Th)(m:As)(n deep:Int):Bool:=rF th m n deep&&jk (Ds.gS th m n)
def bR(th:Th)(m:As)(n deep:Int):List En:=if rF th m n deep=true then nk (Ds.gS th m n)else []
def aR(th:Th)(m:As)(n deep:Int):List Br:=if rF th m n deep=true then mr (Ds.gS th m n)else []
def cV(l:Bool)(es:List En)(bs:List Br):ByteArray:=if l=true then(es.getD 0 dE).1 else(bs.getD 0 dB).1
def aa:List Br→List Br
 |[]=>[]
 |b::r=>(ByteArray.empty,b.2.1,())::r
abbrev Wr:Type:=As×Int×Ws×Ws×Br×Int
def bG(th:Th)(m:As)(fu:Int)(fr fs:Ws)(l:Bool)(es:List En)(bs:List Br):Wr:=
 if Bx.eI fr 0=false then(m,fu,fr,fs,dB,41)
 else if gI l es (aa bs)≠0 then(m,fu,fr,fs,dB,gI l es (aa bs))
 else if(Ds.j8 th m fu (Bx.bu fr 0) (db l es (aa bs))).2.2≠0 then
  ((Ds.j8 th m fu (Bx.bu fr 0) (db l es (aa bs))).1,(Ds.j8 th m fu (Bx.bu fr 0) (db l es (aa bs))).2.1,fr,fs,dB,(Ds.j8 th m fu (Bx.bu fr 0) (db l es (aa bs))).2.2)
 else((Ds.j8 th m fu (Bx.bu fr 0) (db l es (aa bs))).1,(Ds.j8 th m fu (Bx.bu fr 0) (db l es (aa bs))).2.1,Bx.cQ fr (Bx.bu fr 0),Bx.di fs (Bx.bu fr 0),(cV l es bs,Bx.bu fr 0,()),0)
abbrev Wrs:Type:=As×Int×Ws×Ws×List Br×Int
def two(a:Wr)(b:Wr):Wrs:=(b.1,b.2.1,b.2.2.1,b.2.2.2.1,[a.2.2.2.2.1,b.2.2.2.2.1],b.2.2.2.2.2)
def bo(th:Th)(m:As)(fu:Int)(fr fs:Ws)(l:Bool)(es:List En)(bs:List Br):Wrs:=
 if es.length+bs.length=0 then(m,fu,fr,fs,[],0)
 else if bg es (aa bs)≤254 then
  let a:=bG th m fu fr fs l es (aa bs)
  (a.1,a.2.1,a.2.2.1,a.2.2.2.1,[a.2.2.2.2.1],a.2.2.2.2.2)
 else if spC l es (aa bs)≠0 then(m,fu,fr,fs,[],spC l es (aa bs))
 else
  let a:=bG th m fu fr fs (bK l es (aa bs)) (aZ l es (aa bs)) (bc l es (aa bs))
  if a.2.2.2.2.2≠0 then(a.1,a.2.1,a.2.2.1,a.2.2.2.1,[],a.2.2.2.2.2)
  else two a (bG th a.1 a.2.1 a.2.2.1 a.2.2.2.1 (bK l es (aa bs)) (cP l es (aa bs)) (cW l es (aa bs)))
def doE(key:ByteArray)(op:Option ByteArray)(l:List En):List En:=match op with
 |some val=>bw l key val
 |none=>if gV l key=true then cI l key else []
def qJ(key:ByteArray)(op:Option ByteArray)(l:List En):Int:=match op with
 |some _=>0
 |none=>if gV l key=true then 0 else 5
def iZ(fs:Ws)(n:Int):Ws:=if Bx.nq fs n=true then Bx.cQ fs n else fs
def pe(fs gn:Ws)(n:Int):Ws:=if Bx.nq fs n=true then Bx.di gn n else gn
abbrev Chg:Type:=As×Int×Ws×Ws×Ws×List Br×Int
def gL(gn:Ws)(w:Wrs):Chg:=(w.1,w.2.1,w.2.2.1,w.2.2.2.1,gn,w.2.2.2.2.1,w.2.2.2.2.2)
def kK(k:ByteArray):List Br→List Br
 |[]=>[]
 |b::r=>(k,b.2.1,())::r
def vC(th:Th)(key:ByteArray)(op:Option ByteArray):Nat→As→Int→Ws→Ws→Ws→Int→Int→Chg
 |0,m,fu,fr,fs,gn,_,_=>(m,fu,fr,fs,gn,[],4)
 |f+1,m,fu,fr,fs,gn,n,deep=>
  if gU th m n deep≠0 then(m,fu,fr,fs,gn,[],gU th m n deep)
  else if kJ th m n deep=true then
   if qJ key op (bR th m n deep)≠0 then(m,fu,fr,fs,gn,[],qJ key op (bR th m n deep))
   else gL (pe fs gn n) (bo th m fu fr (iZ fs n) true (doE key op (bR th m n deep)) (aR th m n deep))
  else if aR th m n deep=[]then(m,fu,fr,fs,gn,[],4)
  else
   let k:=(aT (aR th m n deep) key).toNat
   let r:=vC th key op f m fu fr fs gn ((aR th m n deep).getD k dB).2.1 (deep+1)
   if r.2.2.2.2.2.2≠0 then(r.1,r.2.1,r.2.2.1,r.2.2.2.1,r.2.2.2.2.1,[],r.2.2.2.2.2.2)
   else gL (pe r.2.2.2.1 r.2.2.2.2.1 n) (bo th r.1 r.2.1 r.2.2.1 (iZ r.2.2.2.1 n) false (bR th m n deep)
    ((aR th m n deep).take k++kK ((aR th m n deep).getD k dB).1 r.2.2.2.2.2.1++(aR th m n deep).drop (k+1)))
end Ts
namespace Bx
open Go Go.Sx Go.Proofs Go.RowKit
set_option maxHeartbeats 1000000 in
theorem al6(x k idx:Nat)(w:World)(hx0:((x:Int)==0)=false)
 (key:IntKind.u64.wrap (bits BinOp.and IntKind.u64 (x:Int) (IntKind.u64.wrap (-(x:Int)))*285870213051353865) / 288230376151711744=(idx:Int))
 (hi:idx<64) (hk:k<64) (pP:w.cell? ⟨1,idx,none⟩=some (.int .u8 k)):
 Calls Tryd.prog 103 #[.int .u64 x] w fun e w'=>e=.returned (.int .i64 k)∧w'=w:=by
 go_enter Tryd.func103,Tryd.ntmps103
 go_wp2_with (simp only[key])
 go_ret
 exact⟨rfl,rfl⟩
set_option maxHeartbeats 1000000 in
theorem al7(w:World):
 Calls Tryd.prog 103 #[.int .u64 0] w fun e w'=>e=.returned (.int .i64 64)∧w'=w:=by
 go_enter Tryd.func103,Tryd.ntmps103
 go_wp2
 go_ret
 exact⟨rfl,rfl⟩
theorem ap4(w:World)(h:TabAt 1 Lib.deBruijn64tab w):1<w.heap.size:=by
 have h0:=h 0 (by decide)
 rcases Nat.lt_or_ge 1 w.heap.size with h1|h1
 ·exact h1
 ·simp[World.cell?,Array.getElem?_eq_none h1]at h0
def ct:aX:=⟨[1],TabAt 1 Lib.deBruijn64tab,fun w h b hb=>by rw[List.mem_singleton.1 hb];exact ap4 w h,fun w w' h k j hj=>by rw[lQ (k 1 (by simp))];exact h j hj⟩
theorem ap5(x:Nat)(hx:x<18446744073709551616)(w:World)(hT:TabAt 1 Lib.deBruijn64tab w):
 Calls Tryd.prog 103 #[.int .u64 x] w fun e w'=>e=.returned (.int .i64 (Lib.ctz 64 x))∧w'=w:=by
 by_cases hx0:x=0
 ·subst hx0
  exact al7 w
 ·obtain⟨adv,hk⟩:=Lib.lowest_bit 64 x hx0 hx
  obtain⟨hi,aud⟩:=Lib.deBruijn64_at _ hk
  have pP:=hT _ hi
  rw[aud]at pP
  exact al6 x _ _ w (by simp;omega) (tz64_key x _ hx hx0 adv) hi hk pP
theorem asb:dd P ct 103 [tU] [bm] (fun(x,())=>[(0:Int)≤x∧x<(18446744073709551616:Int)]) (fun(x,())=>(abv x,())):=by
 rintro⟨(x:Int),⟨⟩⟩ _ ⟨(hx:0≤x∧x<18446744073709551616),_⟩ G w vs hG hz hd
 obtain⟨n,rfl⟩:=Int.eq_ofNat_of_zero_le hx.1
 obtain⟨v,rest,rfl,h1,h2⟩:=aw.1 hd
 obtain rfl:=aU.1 h2
 have h3:v=.int .u64 n:=by
  have:=ah (x:=.int .u64 n) (by simp) h1
  cases this;rfl
 subst h3
 refine(ap5 n (by omega) w hz).mono ?_
 rintro e w' ⟨rfl,rfl⟩
 refine⟨_,rfl,Good.val ⟨fun id o ho=>by simp at ho,fun i j oi oj b hi=>by simp at hi,fun b hb=> ?_,hG⟩ ?_⟩
 ·obtain⟨id,o,ho,_⟩:=hb;cases ho
 ·exact au (.int .i64 _)
end Bx
namespace Lf
open Go Go.Sx Go.Proofs
abbrev gM:Ty:=.st [.bool,.lq (.ad cE) eE,.lq (.ad cB) eB]
abbrev anO(l:Bool)(r:Int×List En×List Br):AL [gM,bm]:=((decide (r.1=0)&&l,r.2.1,r.2.2,()),r.1,())
abbrev sr(s:ByteArray):AL [gM,bm]:=((jk s,nk s,mr s,()),ry s,())
theorem al8{Z:aX}:dd P Z 57 [dL] [gM,bm] (fun _=>[]) (fun(s,())=>((jk s,nk s,mr s,()),ry s,())):=by
 refine aq Tryd.func57 (by kernel_rfl) (by kernel_rfl) ?_
 rintro⟨(s0:ByteArray),⟨⟩⟩ _ _ X hX hz
 show Safe P 57 X (Ends [gM,bm] (sr s0)) _
 have loop:∀(l:Bool) (n:Nat) (s:ByteArray) (es:List En) (bs:List Br),s.size≤n→es.length+bs.length+s.size≤254→anO l (ic l n s es bs)=sr s0→
  Safe P 57 X (Ends [gM,bm] (sr s0)) (arM s l es bs):=by
  intro l n
  induction n with
  |zero=>
   intro s es bs hn hb hy
   obtain rfl:=lu (Nat.le_zero.1 hn)
   refine go hz hX jC Tryd.func57 (aeT ByteArray.empty l es bs) ⟨fun h=>absurd h (by simp),fun _=>⟨fun h=> ?_,fun h=> ?_⟩⟩
   ·refine aQ ((false,[],[],()),4,()) ?_ (by kernel_rfl)
    rw[←hy,ic,if_neg (by simpa using h)];rfl
   ·refine aQ ((l,es,bs,()),0,()) ?_ (by kernel_rfl)
    rw[←hy,ic,if_pos (by simpa using h)];rfl
  |succ n ih=>
   intro s es bs hn hb hy
   refine go hz hX jC Tryd.func57 (aeT s l es bs) ⟨fun h=> ?_,fun h=> ?_⟩
   ·have h:s≠ByteArray.empty:=by simpa using h
    have bad:ic l (n+1) s es bs=(8,[],[])→∀(s':ByteArray) (kY:List En) (ow:List Br),Safe P 57 X (Ends [gM,bm] (sr s0)) (aiT s' l kY ow false):=fun e s' kY ow=>by
     refine go hz hX jC Tryd.func57 (abd s' l kY ow false) ⟨fun _=> ?_,fun h=>by cases h⟩
     refine aQ ((false,[],[],()),8,()) ?_ (by kernel_rfl)
     rw[←hy,e];rfl
    have cont:∀(s':ByteArray) (kY:List En) (ow:List Br),s'.size≤n→kY.length+ow.length+s'.size≤254→anO l (ic l n s' kY ow)=sr s0→Safe P 57 X (Ends [gM,bm] (sr s0)) (aiT s' l kY ow true):=fun s' kY ow h1 h2 h3=>by
     refine go hz hX jC Tryd.func57 (abd s' l kY ow true) ⟨fun h=>(by cases h),fun _=>ih s' kY ow h1 h2 h3⟩
    have hr:=fun hB=>jV (s:=s) hB
    refine⟨rfl,rfl,fun hl=>⟨fun hB=>⟨rfl,rfl,by omega, ?_⟩,fun hB=> ?_⟩,fun hl=>⟨fun hB=>⟨rfl,rfl,by decide,fun h2=> ?_,fun h2=> ?_⟩,fun hB=> ?_⟩⟩
    ·subst hl
     have hr:=hr hB
     cases h2:wD (gT s)
     ·exact bad (by rw[ic,if_neg h,if_neg (by simp[hB]),if_pos rfl,if_neg (by simp[h2])]) _ _ _
     ·have:=jV h2
      exact cont _ _ _ (by omega) (by simp only[List.length_append,List.length_cons,List.length_nil];omega) (by rw[←hy,ic,if_neg h,if_neg (by simp[hB]),if_pos rfl,if_pos h2])
    ·exact⟨fun h=>(by rw[hB]at h;cases h),fun _=>by rw[hB];exact bad (by rw[ic,if_neg h,if_pos hB]) _ _ _⟩
    ·subst hl
     have hr:=hr hB
     have e1:=vk (by decide) h2
     have e2:=abe (by decide) h2
     have b0:=gG (j9 2 (gT s)) 0
     have b1:=gG (j9 2 (gT s)) 1
     refine⟨by decide,by omega,⟨by show _≤aV _ 0;omega,by show aV _ 0≤_;omega⟩,by decide,by decide,by omega,⟨by show _≤aV _ 1;omega,by show aV _ 1≤_;omega⟩,by omega, ?_⟩
     rw[h2]
     exact cont _ _ _ (by omega) (by simp only[List.length_append,List.length_cons,List.length_nil];omega) (by rw[←hy,ic,if_neg h,if_neg (by simp[hB]),if_neg (by simp),if_pos h2];rfl)
    ·subst hl
     rw[h2]
     exact bad (by rw[ic,if_neg h,if_neg (by simp[hB]),if_neg (by simp),if_neg (by simp[h2])]) _ _ _
    ·rw[hB]
     exact bad (by rw[ic,if_neg h,if_pos hB]) _ _ _
   ·have h:s=ByteArray.empty:=by simpa using h
    refine⟨fun h2=> ?_,fun h2=> ?_⟩
    ·refine aQ ((false,[],[],()),4,()) ?_ (by kernel_rfl)
     rw[←hy,ic,if_pos h,if_neg (by simpa using h2)];rfl
    ·refine aQ ((l,es,bs,()),0,()) ?_ (by kernel_rfl)
     rw[←hy,ic,if_pos h,if_pos (by simpa using h2)];rfl
 have first:(s0.size:Int)≤254→s0≠ByteArray.empty→¬(aV s0 0≠1∧aV s0 0≠2)→Safe P 57 X (Ends [gM,bm] (sr s0)) (anI s0):=fun h1 h2 h3=>by
  have hp:0<s0.size:=Nat.pos_of_ne_zero fun e=>h2 (lu e)
  refine go hz hX jC Tryd.func57 (aiU s0) ⟨by omega,by omega,by omega,by omega,by omega, ?_⟩
  have e:oa s0=ic (aV s0 0==1) s0.size (s0.extract 1 s0.size) [] []:=by rw[oa,if_neg (by omega),if_neg h2,if_neg h3]
  refine loop (aV s0 0==1) s0.size (s0.extract 1 s0.size) [] [] (by rw[dw];omega) (by rw[dw];simp only[List.length_nil];omega) ?_
  rw[←e];rfl
 have err:∀(c:Int) (hc:decide (c=0)=false),oa s0=(c,[],[])→sr s0=((false,[],[],()),c,()):=fun c hc e=>by
  show((decide ((oa s0).1=0)&&(aV s0 0==1),(oa s0).2.1,(oa s0).2.2,()),(oa s0).1,())=_
  rw[e,hc];rfl
 refine go hz hX jC Tryd.func57 (alq s0) ⟨fun h=>aQ ((false,[],[],()),40,()) (err 40 rfl ?_) (by kernel_rfl),fun h=>⟨fun h2=>aQ ((false,[],[],()),8,()) (err 8 rfl ?_) (by kernel_rfl),fun h2=> ?_⟩⟩
 ·rw[oa,if_pos (of_decide_eq_true h)]
 ·rw[oa,if_neg (of_decide_eq_false h),if_pos (of_decide_eq_true h2)]
 ·have h:=of_decide_eq_false h
  have h2:=of_decide_eq_false h2
  have hp:0<s0.size:=Nat.pos_of_ne_zero fun e=>h2 (lu e)
  refine⟨by omega,by omega,fun h3=>⟨by omega,by omega,fun h4=>aQ ((false,[],[],()),4,()) (err 4 rfl ?_) (by kernel_rfl),fun h4=>first (by omega) h2 ?_⟩,fun h3=>first (by omega) h2 ?_⟩
  ·have h3:aV s0 0≠1:=by simpa using h3
   have h4:aV s0 0≠2:=by simpa using h4
   rw[oa,if_neg h,if_neg h2,if_pos ⟨h3,h4⟩]
  ·have h4:aV s0 0=2:=by simpa using h4
   exact fun e=>e.2 h4
  ·have h3:aV s0 0=1:=by simpa using h3
   exact fun e=>e.1 h3
end Lf
namespace Go.Sx
open Go
inductive Wk1:AV→AV→Prop
 |refl (a:AV):Wk1 a a
 |bl (b:Bool):Wk1 (.s (.aJ b)) (.s (.bool b))
 |il (k:IntKind) (n:Int):Wk1 (.s (.aW k n)) (.s (.int k n))
 |em (c:aF):c.n=0→Wk1 .emp (.s (.ro c))
inductive WkL:List AV→List AV→Prop
 |nil:WkL [] []
 |cons {a b:AV} {l m:List AV}:Wk1 a b→WkL l m→WkL (a::l) (b::m)
inductive Wk2:AV→AV→Prop
 |one {a b:AV}:Wk1 a b→Wk2 a b
 |agg {l m:List AV}:WkL l m→Wk2 (.agg l) (.agg m)
inductive oz:List AV→List AV→Prop
 |nil:oz [] []
 |cons {a b:AV} {l m:List AV}:Wk2 a b→oz l m→oz (a::l) (b::m)
inductive Wk:AV→AV→Prop
 |two {a b:AV}:Wk2 a b→Wk a b
 |bp {l m:List AV}:oz l m→Wk (.bp l) (.bp m)
section
variable{ρ:Nat→Value}{H:aG}{O:Nat→Prop}{w:World}
theorem Wk1.den{a b:AV}(h:Wk1 a b){v:Value}(hd:ab ρ H O w a v):ab ρ H O w b v:=by
 cases h with
 |refl=>exact hd
 |bl b=>
  have:=ah (by simp) hd
  cases this
  exact au (.bool _)
 |il k n=>
  have:=ah (by simp) hd
  cases this
  exact au (.int _ _)
 |em c hc=>
  unfold ab at hd
  obtain⟨a,rfl⟩:=hd
  exact au (s6 hc a)
theorem Wk1.ac0{a b:AV}(h:Wk1 a b){cs:List Value}(hd:aC ρ H O w a cs):aC ρ H O w b cs:=by
 cases h with
 |refl=>exact hd
 |bl b=>
  unfold aC at hd ⊢
  obtain⟨u,rfl,h⟩:=hd
  cases h
  exact⟨_,rfl,.bool _⟩
 |il k n=>
  unfold aC at hd ⊢
  obtain⟨u,rfl,h⟩:=hd
  cases h
  exact⟨_,rfl,.int _ _⟩
 |em c hc=>
  unfold aC at hd ⊢
  obtain⟨u,rfl,a,rfl⟩:=hd
  exact⟨_,rfl,s6 hc a⟩
theorem WkL.den{l m:List AV}(h:WkL l m):∀{cs:List Value},an ρ H O w l cs→an ρ H O w m cs:=by
 induction h with
 |nil=>exact fun hd=>hd
 |cons h1 _ ih=>
  intro cs hd
  unfold an at hd ⊢
  obtain⟨c1,c2,e,g1,g2⟩:=hd
  exact⟨c1,c2,e,h1.ac0 g1,ih g2⟩
theorem Wk2.den{a b:AV}(h:Wk2 a b){v:Value}(hd:ab ρ H O w a v):ab ρ H O w b v:=by
 cases h with
 |one h=>exact h.den hd
 |agg h=>
  unfold ab at hd ⊢
  obtain⟨cs,e,g⟩:=hd
  exact⟨cs,e,h.den g⟩
theorem oz.den{l m:List AV}(h:oz l m):∀{vs:List Value},bz ρ H O w l vs→bz ρ H O w m vs:=by
 induction h with
 |nil=>exact fun hd=>hd
 |cons h1 _ ih=>
  intro vs hd
  obtain⟨v,rest,e,g1,g2⟩:=aw.1 hd
  exact aw.2 ⟨v,rest,e,h1.den g1,ih g2⟩
theorem Wk.den{a b:AV}(h:Wk a b){v:Value}(hd:ab ρ H O w a v):ab ρ H O w b v:=by
 cases h with
 |two h=>exact h.den hd
 |bp h=>
  unfold ab at hd ⊢
  obtain⟨us,e,g⟩:=hd
  exact⟨us,e,h.den g⟩
end
theorem ap6{X:Type}{S:Spec X}{x:X}{L:List ae}{r:AV}{o o':AV}{h:List ae}(m:Nat)(e:Norm.run ⟨[],[0],m,[]⟩ ⟨[r],L,[],{}⟩=some ⟨[o],h,[],{}⟩)(hm:(S.heap x).length≤m)(hw:Wk o o')(ho:S.out x=o')(hh:S.fC x=h):air S x L r:=
 ⟨⟨[],[0],m,[]⟩,o,hm,by rw[hh];exact e,fun ρ H O w v hd=>by rw[ho];exact hw.den hd⟩
end Go.Sx
namespace Ts
open Go Go.Sx Go.Proofs Lf
noncomputable abbrev P:Program:=Tryd.prog
abbrev eT:TypeId:=70
abbrev obT(i:Nat)(root:Int)(fr fs gn:Ws):ae:=.own [.ptr i 0,.s (.int .i64 root),.ints .u64 16 fr,.ints .u64 16 fs,.ints .u64 16 gn] eT
abbrev hT(th:Th)(m:As)(fu root:Int)(fr fs gn:Ws):List ae:=[obT 1 root fr fs gn,Ds.obD 2 3 fu,.vec (.ad Ds.cS th) Ds.eS,.map Ds.kS m]
abbrev bO(n:Int):AV:=.s (.int .i64 n)
abbrev asc:=dI Ds.sGR Ds.mRd
abbrev asd:=dI Ds.sGW Ds.mWr
abbrev ap7:=uH [dL] [gM,bm] (fun _=>[]) (fun(s,())=>((jk s,nk s,mr s,()),ry s,()))
def anP:aH:=[(56,asc),(57,ap7)]
theorem aue(th:Th)(m:As)(fu root:Int)(fr fs gn:Ws)(n deep:Int):run P anP.sum Tryd.f37 [] (start Tryd.f37 [.ptr 0 0,bO n,bO deep] (hT th m fu root fr fs gn))=
 Tree.ite (decide (deep>16)) (.ret [.own [.ptr 1 0,.s (.int .i64 root),.ints .u64 16 fr,.ints .u64 16 fs,.ints .u64 16 gn] 70,.own [.vec 2,.ag 3,.s (.int .i64 fu)] 96,.vec (.ad [.arr .u8 64] th) 138,.map (.arr .u8 64) m,.own [.s (.aJ false),.emp,.emp] 73] (.bp [.agg [.s (.aJ false),.emp,.emp],.s (.aW .i64 4)])) (.need (bJ (some [AV.ptr 0 0,.s (.int .i64 n)])) (.need (bJ (some [ae.own [.vec 1,.ag 2,.s (.int .i64 fu)] 96,.vec (.ad [.arr .u8 64] th) 138,.map (.arr .u8 64) m])) (.need (Ds.bU th m fu) (.need (aD n) (.ite (Ds.ji th m n !=0) (.ret [.own [.ptr 1 0,.s (.int .i64 root),.ints .u64 16 fr,.ints .u64 16 fs,.ints .u64 16 gn] 70,.own [.vec 2,.ag 3,.s (.int .i64 fu)] 96,.vec (.ad [.arr .u8 64] th) 138,.map (.arr .u8 64) m,.own [.s (.aJ false),.emp,.emp] 73] (.bp [.agg [.s (.aJ false),.emp,.emp],.s (.int .i64 (Ds.ji th m n))])) (.ret [.own [.ptr 1 0,.s (.int .i64 root),.ints .u64 16 fr,.ints .u64 16 fs,.ints .u64 16 gn] 70,.own [.vec 2,.ag 3,.s (.int .i64 fu)] 96,.vec (.ad [.arr .u8 64] th) 138,.map (.arr .u8 64) m,.own [.s (.bool (jk (Ds.gS th m n))),.s (.ro (.ad [.str,.str] (nk (Ds.gS th m n)))),.s (.ro (.ad [.str,.int .i64] (mr (Ds.gS th m n))))] 73] (.bp [.agg [.s (.bool (jk (Ds.gS th m n))),.s (.ro (.ad [.str,.str] (nk (Ds.gS th m n)))),.s (.ro (.ad [.str,.int .i64] (mr (Ds.gS th m n))))],.s (.int .i64 (ry (Ds.gS th m n)))]))))))):=by kernel_rfl
abbrev XT:Type:=Th×As×Int×Int×Ws×Ws×Ws
abbrev sNo:Spec (XT×Int×Int):=⟨fun(_,n,deep)=>[.ptr 0 0,bO n,bO deep],fun((th,m,fu,root,fr,fs,gn),_,_)=>hT th m fu root fr fs gn,fun((th,m,fu,_),n,_)=>[Ds.bU th m fu,aD n],fun((th,m,fu,root,fr,fs,gn),_,_)=>hT th m fu root fr fs gn,
 fun((th,m,_),n,deep)=>.bp [.agg [.s (.bool (kJ th m n deep)),.s (.ro (.ad cE (bR th m n deep))),.s (.ro (.ad cB (aR th m n deep)))],bO (gU th m n deep)]⟩
theorem ajn{Z:aX}:anP.Ok P Z:=aH.Ok.cons (Ds.arD.sum Ds.mRd) (aH.Ok.cons al8.uH aH.Ok.nil)
theorem adA{l l':AV}{es bs kY ow:AV}{e e':AV}(h1:Wk1 l l')(h2:Wk1 es kY)(h3:Wk1 bs ow)(h4:Wk1 e e'):Wk (.bp [.agg [l,es,bs],e]) (.bp [.agg [l',kY,ow],e']):=
 .bp (.cons (.agg (.cons h1 (.cons h2 (.cons h3 .nil)))) (.cons (.one h4) .nil))
theorem qt{Z:aX}:jU P Z 37 sNo:=by
 refine qk Tryd.func37 (by kernel_rfl) (fun x=>Nat.le_of_ble_eq_true (by kernel_rfl)) ?_
 rintro⟨⟨(th:Th),(m:As),(fu:Int),(root:Int),(fr:Ws),(fs:Ws),(gn:Ws)⟩,(n:Int),(deep:Int)⟩ ⟨(hd:Ds.bU th m fu),(hn:aD n),_⟩ X hX hz
 refine Ds.eV hz hX (by intro y hy;cases hy) ajn Tryd.func37 (aue th m fu root fr fs gn n deep) ⟨fun h=> ?_,fun h=>⟨rfl,rfl,hd,hn,fun h2=> ?_,fun h2=> ?_⟩⟩
 ·have h:=of_decide_eq_true h
  have e0:rF th m n deep=false:=by unfold rF;rw[decide_eq_false (by omega),Bool.false_and]
  refine ap6 4 (by kernel_rfl) (Nat.le_refl _) (adA (.refl (.s (.bool false))) (.em (.ad cE []) rfl) (.em (.ad cB []) rfl) (.refl (.s (.int .i64 4)))) ?_ rfl
  show AV.bp [.agg [.s (.bool (kJ th m n deep)),.s (.ro (.ad cE (bR th m n deep))),.s (.ro (.ad cB (aR th m n deep)))],bO (gU th m n deep)]=_
  unfold kJ bR aR gU
  rw[e0,if_pos h];rfl
 ·have h:=of_decide_eq_false h
  have h2:Ds.ji th m n≠0:=by simpa using h2
  have e0:rF th m n deep=false:=by unfold rF;rw[decide_eq_false h2,Bool.and_false]
  refine ap6 4 (by kernel_rfl) (Nat.le_refl _) (adA (.refl (.s (.bool false))) (.em (.ad cE []) rfl) (.em (.ad cB []) rfl) (.refl (bO (Ds.ji th m n)))) ?_ rfl
  show AV.bp [.agg [.s (.bool (kJ th m n deep)),.s (.ro (.ad cE (bR th m n deep))),.s (.ro (.ad cB (aR th m n deep)))],bO (gU th m n deep)]=_
  unfold kJ bR aR gU
  rw[e0,if_neg h,if_neg h2];rfl
 ·have h:=of_decide_eq_false h
  have h2:Ds.ji th m n=0:=by simpa using h2
  have e0:rF th m n deep=true:=by unfold rF;rw[decide_eq_true h2,decide_eq_true (by omega)];rfl
  refine ap6 4 (by kernel_rfl) (Nat.le_refl _) (adA (.refl (.s (.bool (jk (Ds.gS th m n))))) (.refl (.s (.ro (.ad cE (nk (Ds.gS th m n)))))) (.refl (.s (.ro (.ad cB (mr (Ds.gS th m n)))))) (.refl (bO (ry (Ds.gS th m n))))) ?_ rfl
  show AV.bp [.agg [.s (.bool (kJ th m n deep)),.s (.ro (.ad cE (bR th m n deep))),.s (.ro (.ad cB (aR th m n deep)))],bO (gU th m n deep)]=_
  unfold kJ bR aR gU
  rw[e0,if_neg h,if_pos h2];rfl
end Ts
namespace Ts
open Go Go.Sx Go.Proofs Lf
abbrev ap8:=bS [Bx.dt,Bx.bm] [Bx.cv] (fun _=>[]) (fun(ws,n,())=>(Bx.nq ws n,()))
abbrev ajo:=bS [Bx.dt,Bx.bm] [Bx.dt] (fun _=>[]) (fun(ws,n,())=>(Bx.di ws n,()))
abbrev anQ:=bS [Bx.dt,Bx.bm] [Bx.dt] (fun _=>[]) (fun(ws,n,())=>(Bx.cQ ws n,()))
def anR:aH:=[(35,ap8),(43,ajo),(98,anQ)]
theorem auf(th:Th)(m:As)(fu root:Int)(fr fs gn:Ws)(n:Int):run P anR.sum Tryd.f85 [] (start Tryd.f85 [.ptr 0 0,bO n] (hT th m fu root fr fs gn))=
 Tree.ite (Bx.nq fs n) (.ret [.own [.ptr 1 0,.s (.int .i64 root),.ints .u64 16 fr,.ints .u64 16 (Bx.cQ fs n),.ints .u64 16 (Bx.di gn n)] 70,.own [.vec 2,.ag 3,.s (.int .i64 fu)] 96,.vec (.ad [.arr .u8 64] th) 138,.map (.arr .u8 64) m] (.bp [])) (.ret [.own [.ptr 1 0,.s (.int .i64 root),.ints .u64 16 fr,.ints .u64 16 fs,.ints .u64 16 gn] 70,.own [.vec 2,.ag 3,.s (.int .i64 fu)] 96,.vec (.ad [.arr .u8 64] th) 138,.map (.arr .u8 64) m] (.bp [])):=by kernel_rfl
abbrev sLv:Spec (XT×Int):=⟨fun(_,n)=>[.ptr 0 0,bO n],fun((th,m,fu,root,fr,fs,gn),_)=>hT th m fu root fr fs gn,fun _=>[],fun((th,m,fu,root,fr,fs,gn),n)=>hT th m fu root fr (iZ fs n) (pe fs gn n),fun _=>.bp []⟩
theorem ajp{Z:aX}:anR.Ok P Z:=aH.Ok.cons Bx.adt.sum (aH.Ok.cons Bx.tj.sum (aH.Ok.cons Bx.vu.sum aH.Ok.nil))
theorem vD{Z:aX}:jU P Z 85 sLv:=by
 refine aO Tryd.func85 (by kernel_rfl) (fun x=>Nat.le_of_ble_eq_true (by kernel_rfl)) ?_
 rintro⟨⟨(th:Th),(m:As),(fu:Int),(root:Int),(fr:Ws),(fs:Ws),(gn:Ws)⟩,(n:Int)⟩ _ X hX hz
 refine Ds.eV hz hX (by intro y hy;cases hy) ajp Tryd.func85 (auf th m fu root fr fs gn n) ⟨fun h=> ?_,fun h=> ?_⟩
 ·have e1:iZ fs n=Bx.cQ fs n:=if_pos h
  have e2:pe fs gn n=Bx.di gn n:=if_pos h
  exact b9 (h:=hT th m fu root fr (Bx.cQ fs n) (Bx.di gn n)) 4 rfl (Nat.le_refl _) rfl (by show hT th m fu root fr (iZ fs n) (pe fs gn n)=_;rw[e1,e2])
 ·have e1:iZ fs n=fs:=if_neg (by rw[h];simp)
  have e2:pe fs gn n=gn:=if_neg (by rw[h];simp)
  exact b9 (h:=hT th m fu root fr fs gn) 4 rfl (Nat.le_refl _) rfl (by show hT th m fu root fr (iZ fs n) (pe fs gn n)=_;rw[e1,e2])
end Ts
namespace Ts
open Go Go.Sx Go.Proofs Lf
theorem aug(l:Bool)(es:List En)(bs:List Br):run P (aH.sum []) Tryd.f94 [] (start Tryd.f94 [avN l es bs] [])=
 Tree.ite l (.need ((0:Int)≤0) (.need ((0:Int)<(↑es.length:Int)) (.ret [.own [.s (.bool l),.s (.ro (.ad [.str,.str] es)),.s (.ro (.ad [.str,.int .i64] bs))] 73] (.s (.str (es.getD 0 (CL.d [.str,.str])).fst))))) (.need ((0:Int)≤0) (.need ((0:Int)<(↑bs.length:Int)) (.ret [.own [.s (.bool l),.s (.ro (.ad [.str,.str] es)),.s (.ro (.ad [.str,.int .i64] bs))] 73] (.s (.str (bs.getD 0 (CL.d [.str,.int .i64])).fst))))):=by kernel_rfl
abbrev avc:=bS [ez] [dL] (fun((l,es,bs,()),())=>[((l:Bool)=true→0<(es:List En).length)∧(l=false→0<(bs:List Br).length)]) (fun((l,es,bs,()),())=>(cV l es bs,()))
theorem ajq{Z:aX}:dd P Z 94 [ez] [dL] (fun((l,es,bs,()),())=>[((l:Bool)=true→0<(es:List En).length)∧(l=false→0<(bs:List Br).length)]) (fun((l,es,bs,()),())=>(cV l es bs,())):=by
 refine aq Tryd.func94 (by kernel_rfl) (by kernel_rfl) ?_
 rintro⟨⟨(l:Bool),(es:List En),(bs:List Br),⟨⟩⟩,⟨⟩⟩ _ ⟨⟨h1,h2⟩,_⟩ X hX hz
 refine Lf.go hz hX aH.Ok.nil Tryd.func94 (aug l es bs) ⟨fun h=>⟨by omega,Int.ofNat_lt.2 (h1 h), ?_⟩,fun h=>⟨by omega,Int.ofNat_lt.2 (h2 h), ?_⟩⟩
 ·show Ends [dL] (cV l es bs,()) _ _
  unfold cV
  rw[if_pos h];exact ail
 ·show Ends [dL] (cV l es bs,()) _ _
  unfold cV
  rw[if_neg (by rw[h];simp)];exact ail
end Ts
namespace Ts
open Go Go.Sx Go.Proofs Lf
abbrev wG:List CK:=[.rows cB]
abbrev eBs:TypeId:=71
abbrev Rows:Type:=List (List Br×Unit)
abbrev ase:Ty:=.b (.row (.ad wG) eBs)
abbrev rwB(x:CL wG):List Br:=x.1
def nsJ:List (Nat×Norm):=[(3,⟨[(3,.ad cB [],eB)],[3,6,7,8],0,[]⟩)]
noncomputable def cJ(ls:List (CL wG))(acc:List Br)(i:Int):bB:=⟨sl 17 [(3,.vec 0),(6,.s (.ro (.ad wG ls))),(7,bO (ls.length:Int)),(8,bO i)],[.vec (.ad cB acc) eB],hd Tryd.f92 3,{}⟩
theorem trJ(ls:List (CL wG)):run P (aH.sum []) Tryd.f92 nsJ (start Tryd.f92 [.s (.ro (.ad wG ls))] [])=
 Tree.at (.mk (sl 17 [(3,.vec 0),(6,.s (.ro (.ad wG ls))),(7,.s (.int .i64 (↑ls.length:Int))),(8,.s (.int .i64 0))]) [.vec (.ad [.str,.int .i64] []) 79] (hd Tryd.f92 3) (.mk none false 0 [] 0)):=by kernel_rfl
theorem anS(ls:List (CL wG))(acc:List Br)(i:Int):run P (aH.sum []) Tryd.f92 nsJ (cJ ls acc i)=
 Tree.ite (decide (i<(↑ls.length:Int))) (.need ((0:Int)≤i) (.need (i<(↑ls.length:Int)) (.need ((acc.length+(rwB (el ls i)).length)*(24:Nat)≤140737488355328) (.need (aD (i+1)) (.at (.mk (sl 17 [(3,.vec 0),(6,.s (.ro (.ad wG ls))),(7,.s (.int .i64 (↑ls.length:Int))),(8,.s (.int .i64 (i+1)))]) [.vec (.ad [.str,.int .i64] (acc++rwB (el ls i))) 79] (hd Tryd.f92 3) (.mk none false 0 [] 0))))))) (.ret [.vec (.ad [.str,.int .i64] acc) 79] (.vec 0)):=by kernel_rfl
def bW(ls:List (CL wG)):List Br:=ls.flatMap fun x=>rwB x
abbrev sJ:=bS [ase] [wA] (fun(ls,())=>[(ls:List (CL wG)).length≤100,(bW ls).length≤100000]) (fun(ls,())=>(bW ls,()))
def anT:aH:=[(92,sJ)]
theorem auh(l:Bool)(es:List En)(bs:List Br):run P anT.sum Tryd.f81 [] (start Tryd.f81 [avN l es bs] [])=
 Tree.ite (decide ((↑bs.length:Int)>0)) (.need ((0:Int)≤0) (.need ((0:Int)<(↑bs.length:Int)) (.need ((0:Int)≤1) (.need ((1:Int)≤(↑bs.length:Int)) (.need ((↑bs.length:Int)≤(↑bs.length:Int)) (.need ([([(ByteArray.empty,(bs.getD 0 (CL.d [.str,.int .i64])).snd.fst,())],()),(List.drop (Int.toNat 1) (List.take (↑bs.length:Int).toNat bs),())].length≤100) (.need ((bW [([(ByteArray.empty,(bs.getD 0 (CL.d [.str,.int .i64])).snd.fst,())],()),(List.drop (Int.toNat 1) (List.take (↑bs.length:Int).toNat bs),())]).length≤100000) (.ret [.own [.s (.bool l),.s (.ro (.ad [.str,.str] es)),.vec 4] 73,.own [.s (.bool l),.s (.ro (.ad [.str,.str] es)),.vec 4] 73,.dead,.vec (.ad wG [([(ByteArray.empty,(bs.getD 0 (CL.d [.str,.int .i64])).snd.fst,())],()),(List.drop (Int.toNat 1) (List.take (↑bs.length:Int).toNat bs),())]) 71,.vec (.ad [.str,.int .i64] (bW [([(ByteArray.empty,(bs.getD 0 (CL.d [.str,.int .i64])).snd.fst,())],()),(List.drop (Int.toNat 1) (List.take (↑bs.length:Int).toNat bs),())])) 79] (.agg [.s (.bool l),.s (.ro (.ad [.str,.str] es)),.vec 4]))))))))) (.ret [.own [.s (.bool l),.s (.ro (.ad [.str,.str] es)),.s (.ro (.ad [.str,.int .i64] bs))] 73,.own [.s (.bool l),.s (.ro (.ad [.str,.str] es)),.s (.ro (.ad [.str,.int .i64] bs))] 73] (.agg [.s (.bool l),.s (.ro (.ad [.str,.str] es)),.s (.ro (.ad [.str,.int .i64] bs))])):=by kernel_rfl
theorem adB{ls:List (CL wG)}(k:Nat)(h:k<ls.length):bW (ls.take (k+1))=bW (ls.take k)++rwB (ls.getD k (CL.d wG)):=by
 rw[←lA (d:=CL.d wG) h]
 simp[bW]
theorem ajr{ls:List (CL wG)}(k:Nat):(bW (ls.take k)).length≤(bW ls).length:=by
 have e:bW ls=bW (ls.take k)++bW (ls.drop k):=by
  unfold bW
  exact(congrArg (List.flatMap fun x=>rwB x) (List.take_append_drop k ls).symm).trans List.flatMap_append
 rw[e,List.length_append];omega
theorem rG{Z:aX}:dd P Z 92 [ase] [wA] (fun(ls,())=>[(ls:List (CL wG)).length≤100,(bW ls).length≤100000]) (fun(ls,())=>(bW ls,())):=by
 refine aq Tryd.func92 (by kernel_rfl) (by kernel_rfl) ?_
 rintro⟨(ls:List (CL wG)),⟨⟩⟩ _ ⟨(hl:ls.length≤100),(hj:(bW ls).length≤100000),_⟩ X hX hz
 have first:∀(n k:Nat),k+n=ls.length→Safe P 92 X (Ends [wA] (bW ls,())) (cJ ls (bW (ls.take k)) (k:Int)):=by
  intro n
  induction n with
  |zero=>
   intro k hk
   refine Lf.go hz hX aH.Ok.nil Tryd.func92 (anS ls _ k) ⟨fun h=>absurd (of_decide_eq_true h) (by omega),fun h=> ?_⟩
   rw[List.take_of_length_le (by omega)]
   exact aQ (bW ls,()) rfl (by kernel_rfl)
  |succ n ih=>
   intro k hk
   have e:=adB (ls:=ls) k (by omega)
   have l1:=ajr (ls:=ls) (k+1)
   rw[e,List.length_append]at l1
   refine Lf.go hz hX aH.Ok.nil Tryd.func92 (anS ls _ k) ⟨fun h=>⟨by omega,by omega, ?_,⟨by omega,by omega⟩, ?_⟩,fun h=>absurd (of_decide_eq_false h) (by omega)⟩
   ·show((bW (ls.take k)).length+(rwB (ls.getD k (CL.d wG))).length)*24≤140737488355328
    omega
   ·have:=ih (k+1) (by omega)
    rw[e]at this
    exact this
 exact Lf.go hz hX aH.Ok.nil Tryd.func92 (trJ ls) (first ls.length 0 (by omega))
theorem ajs{Z:aX}:anT.Ok P Z:=aH.Ok.cons rG.sum aH.Ok.nil
theorem ae7{Z:aX}:dd P Z 81 [ez] [gM] (fun((_,_,bs,()),())=>[(bs:List Br).length≤1000]) (fun((l,es,bs,()),())=>((l,es,aa bs,()),())):=by
 refine aq Tryd.func81 (by kernel_rfl) (by kernel_rfl) ?_
 rintro⟨⟨(l:Bool),(es:List En),(bs:List Br),⟨⟩⟩,⟨⟩⟩ _ ⟨(hl:bs.length≤1000),_⟩ X hX hz
 show Safe P 81 X (Ends [gM] ((l,es,aa bs,()),())) _
 refine Lf.go hz hX ajs Tryd.func81 (auh l es bs) ⟨fun h=> ?_,fun h=> ?_⟩
 ·have h:=of_decide_eq_true h
  obtain⟨b,r,rfl⟩:∃b r,bs=b::r:=by
   cases bs with
   |nil=>simp at h
   |cons b r=>exact⟨b,r,rfl⟩
  simp only[List.length_cons]at h hl
  have e:bW [([(ByteArray.empty,((b::r).getD (0:Nat) (CL.d [CK.str,CK.int IntKind.i64])).snd.fst,())],()),(List.drop (Int.toNat (1:Int)) (List.take (↑(b::r).length:Int).toNat (b::r)),())]=aa (b::r):=by
   show [(ByteArray.empty,b.2.1,())]++(List.drop 1 (List.take (r.length+1) (b::r))++[])=(ByteArray.empty,b.2.1,())::r
   rw[List.take_of_length_le (by simp)]
   simp
  refine⟨by omega,by simp only[List.length_cons];omega,by omega,by simp only[List.length_cons];omega,by simp only[List.length_cons];omega,by show 2≤100;decide, ?_, ?_⟩
  ·refine Nat.le_trans (Nat.le_of_eq (congrArg List.length e)) ?_
   show r.length+1≤100000;omega
  ·exact aQ (rs:=[gM]) ((l,es,bW [([(ByteArray.empty,((b::r).getD (0:Nat) (CL.d [CK.str,CK.int IntKind.i64])).snd.fst,())],()),(List.drop (Int.toNat (1:Int)) (List.take (↑(b::r).length:Int).toNat (b::r)),())],()),()) (by rw[e]) (by kernel_rfl)
 ·have h:=of_decide_eq_false h
  obtain rfl:bs=[]:=List.eq_nil_of_length_eq_zero (by omega)
  exact aQ (rs:=[gM]) ((l,es,[],()),()) rfl (by kernel_rfl)
end Ts
namespace Lf
open Go Go.Sx Go.Proofs
theorem nU{es:List En}{k:Nat}:okE es k=true↔(1≤(es.getD k dE).1.size∧(es.getD k dE).1.size≤24∧(es.getD k dE).2.1.size≤100∧(0<k→slt (es.getD (k - 1) dE).1 (es.getD k dE).1=true)):=by
 simp only[okE,Bool.not_eq_true',Bool.or_eq_false_iff,Bool.and_eq_false_iff,decide_eq_false_iff_not,Bool.not_eq_false']
 constructor
 ·rintro⟨⟨⟨h1,h2⟩,h3⟩,h4⟩
  exact⟨Nat.pos_of_ne_zero fun e=>h1 (lu e),by omega,by omega,fun h=>h4.resolve_left (fun g=>g h)⟩
 ·rintro⟨h1,h2,h3,h4⟩
  exact⟨⟨⟨fun e=>(by rw[e]at h1;simp at h1),by omega⟩,by omega⟩,(Decidable.em (0<k)).elim (fun h=>.inr (h4 h)) .inl⟩
theorem qu{bs:List Br}{k:Nat}:okB bs k=true↔((bs.getD k dB).1.size≤24∧2≤(bs.getD k dB).2.1∧(bs.getD k dB).2.1≤1023∧(0<k→slt (bs.getD (k - 1) dB).1 (bs.getD k dB).1=true)):=by
 simp only[okB,Bool.not_eq_true',Bool.or_eq_false_iff,Bool.and_eq_false_iff,decide_eq_false_iff_not,Bool.not_eq_false']
 constructor
 ·rintro⟨⟨⟨h1,h2⟩,h3⟩,h4⟩
  exact⟨by omega,by omega,by omega,fun h=>h4.resolve_left (fun g=>g h)⟩
 ·rintro⟨h1,h2,h3,h4⟩
  exact⟨⟨⟨by omega,by omega⟩,by omega⟩,(Decidable.em (0<k)).elim (fun h=>.inr (h4 h)) .inl⟩
theorem agP(l:Bool)(es:List En)(bs:List Br):aiV l es bs l es bs=true:=by simp[aiV,arK,arL]
theorem qv{l:Bool}{es:List En}{bs:List Br}(h:c9 l es bs=true):iz (bC es)∧iz (mg bs):=by
 simp only[c9,Bool.and_eq_true]at h
 exact⟨arJ h.1.2,apr h.2⟩
theorem ap9{l:List En}{key val:ByteArray}(h:l.length≤200):(bw l key val).length≤201:=by rw[zu];split<;>omega
theorem l9{α:Type}{l:List α}{k i:Nat}{d:α}(h:i<k):(l.take k).getD i d=l.getD i d:=by simp[List.getD,List.getElem?_take,h]
theorem jX{α:Type}{l:List α}{k i:Nat}{d:α}:(l.drop k).getD i d=l.getD (k+i) d:=by simp[List.getD,List.getElem?_drop]
theorem xR{es:List En}(h:jw es=true)(k:Nat):jw (es.take k)=true:=cU.2 fun i hi=>by
 rw[List.length_take]at hi
 have:=nU.1 (cU.1 h i (by omega))
 rw[nU,l9 (by omega),l9 (by omega)]
 exact this
theorem xS{es:List Br}(h:gH es=true)(k:Nat):gH (es.take k)=true:=cU.2 fun i hi=>by
 rw[List.length_take]at hi
 have:=qu.1 (cU.1 h i (by omega))
 rw[qu,l9 (by omega),l9 (by omega)]
 exact this
theorem xT{es:List En}(h:jw es=true)(k:Nat):jw (es.drop k)=true:=cU.2 fun i hi=>by
 rw[List.length_drop]at hi
 obtain⟨h1,h2,h3,h4⟩:=nU.1 (cU.1 h (k+i) (by omega))
 rw[nU,jX,jX]
 exact⟨h1,h2,h3,fun h0=>by have:=h4 (by omega);rw[show k+i - 1=k+(i - 1)from by omega]at this;exact this⟩
theorem xU{es:List Br}(h:gH es=true)(k:Nat):gH (es.drop k)=true:=cU.2 fun i hi=>by
 rw[List.length_drop]at hi
 obtain⟨h1,h2,h3,h4⟩:=qu.1 (cU.1 h (k+i) (by omega))
 rw[qu,jX,jX]
 exact⟨h1,h2,h3,fun h0=>by have:=h4 (by omega);rw[show k+i - 1=k+(i - 1)from by omega]at this;exact this⟩
theorem tl{l:Bool}{es:List En}{bs:List Br}(m1:l=true→bs=[])(m2:l=false→es=[])(m3:jw es=true)(m4:gH bs=true):c9 l es bs=true:=by
 simp only[c9,m3,m4,Bool.and_true]
 cases l
 ·rw[m2 rfl];rfl
 ·rw[m1 rfl];rfl
theorem abx{l:Bool}{es:List En}{bs:List Br}(h:c9 l es bs=true)(k:Nat):c9 l (es.take k) (bs.take k)=true:=by
 obtain⟨m1,m2,m3,m4⟩:=dK h
 exact tl (fun e=>by rw[m1 e,List.take_nil]) (fun e=>by rw[m2 e,List.take_nil]) (xR m3 k) (xS m4 k)
theorem aby{l:Bool}{es:List En}{bs:List Br}(h:c9 l es bs=true)(k:Nat):c9 l (es.drop k) (bs.drop k)=true:=by
 obtain⟨m1,m2,m3,m4⟩:=dK h
 exact tl (fun e=>by rw[m1 e,List.drop_nil]) (fun e=>by rw[m2 e,List.drop_nil]) (xT m3 k) (xU m4 k)
theorem tm:∀{l:List Int} {m:Int},(∀x∈l,m≤x)→m*l.length≤l.sum
 |[],m,_=>by simp
 |a::r,m,h=>by
  have h1:=tm (l:=r) (m:=m) fun x hx=>h x (List.mem_cons_of_mem _ hx)
  have h2:=h a List.mem_cons_self
  rw[List.sum_cons,List.length_cons]
  have:m*((r.length+1:Nat):Int)=m*(r.length:Int)+m:=by rw[Int.natCast_add,Int.mul_add];simp
  omega
theorem al9(es:List En)(bs:List Br):∀x∈aE es bs,2≤x:=fun x hx=>by
 simp only[aE,List.mem_append,List.mem_map]at hx
 rcases hx with⟨e,_,rfl⟩|⟨b,_,rfl⟩
 ·simp only[pB];omega
 ·simp only[pa];omega
theorem ajt{zs:List Int}(h:∀x∈zs,2≤x){k:Nat}(h1:0<k)(h2:k<zs.length):2≤(zs.take k).sum∧(zs.take k).sum+2≤zs.sum:=by
 have a1:=tm (l:=zs.take k) (m:=2) fun x hx=>h x (List.mem_of_mem_take hx)
 have a2:=tm (l:=zs.drop k) (m:=2) fun x hx=>h x (List.mem_of_mem_drop hx)
 rw[abn]at a2
 rw[List.length_take]at a1
 rw[List.length_drop]at a2
 omega
theorem vE(zs:List Int):∀k,0<k→(gJ zs k).2=jl zs (gJ zs k).1
 |0,h=>absurd h (by omega)
 |k+1,_=>by
  rw[gJ]
  split
  ·rfl
  ·rename_i h
   have hk:0<k:=Nat.pos_of_ne_zero fun e=>h (.inl (by rw[e];rfl))
   exact vE zs k hk
theorem qw(zs:List Int):∀k j,0<j→j≤k→(gJ zs k).2≤jl zs j
 |0,j,h,h2=>absurd h (by omega)
 |k+1,j,h,h2=>by
  rw[gJ]
  split
  ·rename_i hc
   by_cases e:j=k+1
   ·rw[e];exact Int.le_refl _
   ·have:=qw zs k j h (by omega)
    rcases hc with hc|hc
    ·have:=nn zs k (by omega);omega
    ·show jl zs (k+1)≤_;omega
  ·rename_i hc
   by_cases e:j=k+1
   ·rw[e]
    have:¬jl zs (k+1)<(gJ zs k).2:=fun h=>hc (.inr h)
    omega
   ·exact qw zs k j h (by omega)
theorem pf{p:Nat→Int}{c:Int}:∀n:Nat,p 0<c→c≤p n→∃k,k<n∧p k<c∧c≤p (k+1)
 |0,h1,h2=>absurd h2 (by omega)
 |n+1,h1,h2=>by
  by_cases h:c≤p n
  ·obtain⟨k,a,b,d⟩:=pf n h1 h
   exact⟨k,by omega,b,d⟩
  ·exact⟨n,by omega,by omega,h2⟩
theorem agQ{zs:List Int}(h2:∀x∈zs,2≤x∧x≤126)(hs:253<zs.sum)(hs2:zs.sum≤379):2≤zs.length∧jl zs (gJ zs (zs.length - 1)).1≤253:=by
 have hb:=(nO (l:=zs) (m:=126) (fun x hx=>⟨by have:=(h2 x hx).1;omega,(h2 x hx).2⟩) (by omega)).2
 have hl:2≤zs.length:=by omega
 refine⟨hl, ?_⟩
 obtain⟨k,hk,k1,k2⟩:=pf (p:=fun k=>(zs.take k).sum) (c:=zs.sum - 253) zs.length (by simp;omega) (by simp only[List.take_length];omega)
 have k1:(zs.take k).sum<zs.sum - 253:=k1
 have k2:zs.sum - 253≤(zs.take (k+1)).sum:=k2
 have k3:=iA hk
 have k4:zs.getD k 0≤126:=by rw[bh hk];exact(h2 _ (List.getElem_mem _)).2
 have k5:k+1<zs.length:=by
  rcases Nat.lt_or_ge (k+1) zs.length with h|h
  ·exact h
  ·rw[List.take_of_length_le h]at k3;omega
 have m:=qw zs (zs.length - 1) (k+1) (by omega) (by omega)
 rw[vE _ _ (by omega)]at m
 refine Int.le_trans m ?_
 unfold jl imax
 split<;>omega
theorem aju(l:List En)(key val:ByteArray):((bw l key val).map pB).sum≤(l.map pB).sum+pB (key,val,()):=by
 have adv:∀l:List En,0≤(l.map pB).sum:=fun l=>by
  have:=tm (l:=l.map pB) (m:=0) fun x hx=>by
   obtain⟨e,_,rfl⟩:=List.mem_map.1 hx
   simp only[pB];omega
  omega
 have hd:∀(p q:Nat),p≤q→((l.drop q).map pB).sum≤((l.drop p).map pB).sum:=fun p q h=>by
  have e:l.drop p=(l.drop p).take (q - p)++l.drop q:=by
   have:=List.take_append_drop (q - p) (l.drop p)
   rw[List.drop_drop,show p+(q - p)=q from by omega]at this
   exact this.symm
  rw[e,List.map_append,List.sum_append]
  have:=adv ((l.drop p).take (q - p))
  omega
 have h1:(l.map pB).sum=((l.take (cr (bC l) key)).map pB).sum+((l.drop (cr (bC l) key)).map pB).sum:=by
  rw[←List.sum_append,←List.map_append,List.take_append_drop]
 have h2:=hd (cr (bC l) key) (if jj (bC l) key=true then cr (bC l) key+1 else cr (bC l) key) (by split<;>omega)
 rw[bw,List.map_append,List.sum_append,List.map_cons,List.sum_cons]
 omega
theorem ama(l:List En)(key val:ByteArray):(key,val,())∈bw l key val:=by
 rw[bw];exact List.mem_append_right _ List.mem_cons_self
theorem rH{l:Bool}{es:List En}{bs:List Br}(h:dz l es bs=true)(he:a8 es)(hb:ba bs):
 a8 (aZ l es bs)∧ba (bc l es bs)∧a8 (cP l es bs)∧ba (cW l es bs)∧aiV (bK l es bs) ([]++aZ l es bs++cP l es bs) ([]++bc l es bs++cW l es bs) l es bs=true∧
 c9 (bK l es bs) (aZ l es bs) (bc l es bs)=true∧c9 (bK l es bs) (cP l es bs) (cW l es bs)=true∧
 bg (aZ l es bs) (bc l es bs)<bg es bs∧bg (cP l es bs) (cW l es bs)<bg es bs∧bg (aZ l es bs) (bc l es bs)+bg (cP l es bs) (cW l es bs)=bg es bs+1∧
 imax (bg (aZ l es bs) (bc l es bs)) (bg (cP l es bs) (cW l es bs))=1+jl (aE es bs) (dN es bs):=by
 have h':=h
 simp only[dz,Bool.and_eq_true,decide_eq_true_eq]at h'
 obtain⟨hm,h2⟩:=h'
 obtain⟨m1,m2,_,_⟩:=dK hm
 obtain⟨_,_,_,_,c5,c6⟩:=agB m1 m2 (dN es bs)
 have b1:=nn (aE es bs) (es.length+bs.length - 1) (by omega)
 have b2:=nQ (aE es bs) (es.length+bs.length - 1)
 have p:=ajt (al9 es bs) (k:=dN es bs) b1 (by rw[vq];rw[dN];omega)
 have bI:=nh es bs
 simp only[aZ,cP,bc,cW,bK,h,if_true,Bool.true_and]
 refine⟨abj he _,abk hb _,abl he _,abm hb _, ?_,abx hm _,aby hm _,by omega,by omega,by omega, ?_⟩
 ·rw[List.nil_append,List.nil_append,List.take_append_drop,List.take_append_drop];exact agP _ _ _
 ·rw[c5,c6,ai0];rfl
theorem aqa{l:Bool}{es:List En}{bs:List Br}(h:(spC l es bs==0)=true):dz l es bs=true:=by
 unfold spC at h
 split at h
 ·assumption
 ·exact absurd h (by decide)
theorem adC{l:List En}{key val:ByteArray}(h:l.length≤200)(hm:c9 true (bw l key val) []=true):a8 (bw l key val):=by
 obtain⟨_,_,m3,_⟩:=dK hm
 exact⟨Nat.le_trans (ap9 h) (by omega),fun x hx=>by have:=adn m3 hx;omega⟩
theorem agR{es:List En}{key val:ByteArray}(hl:es.length≤200)(hs:bg es []≤254)(hm:c9 true (bw es key val) []=true)(hn:¬bg (bw es key val) []≤254):
 dz true (bw es key val) []=true∧bg (aZ true (bw es key val) []) (bc true (bw es key val) [])≤254∧bg (cP true (bw es key val) []) (cW true (bw es key val) [])≤254:=by
 obtain⟨_,_,m3,_⟩:=dK hm
 have e0:∀l:List En,aE l []=l.map pB:=fun l=>by simp[aE]
 have e1:=nh es []
 have e2:=nh (bw es key val) []
 rw[e0]at e1 e2
 have k1:=aju es key val
 have k2:=adn m3 (ama es key val)
 have k3:pB (key,val,())≤126:=by simp only[pB];simp only[]at k2;omega
 have hz:∀x∈(bw es key val).map pB,2≤x∧x≤126:=fun x hx=>by
  obtain⟨y,hy,rfl⟩:=List.mem_map.1 hx
  have:=adn m3 hy
  simp only[pB];omega
 obtain⟨b1,b2⟩:=agQ hz (by omega) (by omega)
 rw[List.length_map]at b1 b2
 have ok:dz true (bw es key val) []=true:=by
  simp only[dz,hm,Bool.true_and,decide_eq_true_eq,List.length_nil];omega
 obtain⟨_,_,_,_,_,_,_,_,_,_,f⟩:=rH ok (adC hl hm) vr
 rw[e0]at f
 have f2:jl ((bw es key val).map pB) (dN (bw es key val) [])≤253:=by rw[dN,e0,List.length_nil,Nat.add_zero];exact b2
 unfold imax at f
 refine⟨ok, ?_, ?_⟩<;>split at f<;>omega
end Lf
namespace Ds
open Go Go.Sx Go.Proofs Lf
theorem ae8{th:Th}{n:Int}{ws:List Int}(hp:uU th n=true)(hw:ws.length=256):∀(j k:Nat) (m:As) (f:Int),k+j=4→bU th m f→
 (((zf th n ws j k m f).2.2=0∧∀i:Nat,k≤i→i<4→n8 th (zf th n ws j k m f).1 (n*4+(i:Int))=gF ws i)∨((zf th n ws j k m f).2.2=42∧(zf th n ws j k m f).2.1=0))∧
   ∀x,(∀i:Nat,k≤i→i<4→x≠n*4+(i:Int))→n8 th (zf th n ws j k m f).1 x=n8 th m x
 |0,k,m,f,hk,hd=>⟨.inl ⟨rfl,fun i h1 h2=>by omega⟩,fun x _=>rfl⟩
 |j+1,k,m,f,hk,hd=>by
  have dm:=zh hp (show k<4 by omega)
  have hs:=xG hw (show k<4 by omega)
  have hd':=aa0 (n:=n*4+(k:Int)) (s:=gF ws k) hd
  have hr:=fun x=>ans (n:=n*4+(k:Int)) (x:=x) (s:=gF ws k) hd
  unfold zf
  by_cases hf:f=0
  ·have he:qI th f (n*4+(k:Int)) (gF ws k)=42:=by unfold qI;rw[if_pos dm,if_pos hs,if_pos hf]
   rw[if_neg (by rw[he];decide)]
   refine⟨.inr ⟨he, ?_⟩,fun x hx=> ?_⟩
   ·show wy th f (n*4+(k:Int)) (gF ws k)=0
    unfold wy sj;rw[if_pos ⟨dm,hs⟩,if_pos hf]
   ·show n8 th (xD th m f (n*4+(k:Int)) (gF ws k)) x=_
    rw[hr,if_neg]
    rintro⟨h,_⟩
    rw[he]at h
    cases h
  ·have he:qI th f (n*4+(k:Int)) (gF ws k)=0:=uT.2 ⟨dm,hs,hf⟩
   rw[if_pos he]
   obtain⟨h1,h3⟩:=ae8 hp hw j (k+1) _ _ (by omega) hd'
   refine⟨h1.elim (fun hh=>.inl ⟨hh.1,fun i hi hi4=> ?_⟩) .inr,fun x hx=> ?_⟩
   ·by_cases e:i=k
    ·subst e
     rw[h3 _ (fun i' a b=>by omega),hr,if_pos ⟨he,rfl⟩]
    ·exact hh.2 i (by omega) hi4
   ·rw[h3 x (fun i a b=>hx i (by omega) b),hr,if_neg (fun h=>hx k (Nat.le_refl _) (by omega) h.2)]
theorem aqb{th:Th}{m:As}{fu n:Int}{s:ByteArray}(hd:bU th m fu)(hp:uU th n=true)(hs:s.size≤254):
 (((j8 th m fu n s).2.2=0∧ji th (j8 th m fu n s).1 n=0∧gS th (j8 th m fu n s).1 n=s)∨((j8 th m fu n s).2.2=42∧(j8 th m fu n s).2.1=0))∧
   (fu= -1→(j8 th m fu n s).2.1= -1)∧
   ∀p,p≠n→ji th (j8 th m fu n s).1 p=ji th m p∧gS th (j8 th m fu n s).1 p=gS th m p:=by
 have hl:=aeH hs
 obtain⟨h1,h3⟩:=ae8 hp hl 4 0 m fu rfl hd
 have ec:gwC th n s=0:=by unfold gwC;rw[if_pos hp,if_neg (by omega)]
 unfold j8
 rw[ec,if_pos rfl]
 refine⟨h1.imp (fun⟨a,h2⟩=> ?_) id,fun e=>by subst e;rw[(aiC hp hl 4 0 m rfl hd).1],fun p hpn=>aiD rfl fun i hi=>(h3 _ fun i' _ eF=>by omega).symm⟩
 have e:pgA th (zf th n (ze s) 4 0 m fu).1 n=ze s:=by
  show zS _ _ _ 4=_
  simp only[zS,List.nil_append]
  rw[h2 0 (by omega) (by omega),h2 1 (by omega) (by omega),h2 2 (by omega) (by omega),h2 3 (by omega) (by omega)]
  exact aiE hl (fun x hx=>aiv x hx hs)
 exact⟨a,apl hp hs e⟩
end Ds
namespace Ts
open Go Go.Sx Go.Proofs Lf
def In(ws:Ws)(k:Int):Prop:=Bx.nq ws k=true
instance (ws:Ws) (k:Int):Decidable (In ws k):=inferInstanceAs (Decidable (_=true))
theorem eW{ws:Ws}(hw:Bx.okW ws){k:Int}:In ws k↔(0≤k∧k<1024)∧Bx.bit ws k.toNat=true:=by
 unfold In;rw[Bx.ae6 hw,Bool.and_eq_true,decide_eq_true_eq]
theorem nu{ws:Ws}(hw:Bx.okW ws){k:Int}(h:In ws k):0≤k∧k<1024:=((eW hw).1 h).1
theorem tn{ws:Ws}(hw:Bx.okW ws){n:Int}(hn:0≤n∧n<1024){k:Int}:In (Bx.di ws n) k↔In ws k∨k=n:=by
 obtain⟨h1,h2⟩:=Bx.iN hw n
 rw[eW h1,eW hw]
 constructor
 ·rintro⟨a,b⟩
  rw[h2 k.toNat (by omega),Bool.or_eq_true,decide_eq_true_eq]at b
  rcases b with b|b
  ·exact .inl ⟨a,b⟩
  ·right;omega
 ·rintro(⟨a,b⟩|rfl)
  ·exact⟨a,by rw[h2 _ (by omega),b];rfl⟩
  ·refine⟨hn, ?_⟩
   rw[h2 _ (by omega),Bool.or_eq_true,decide_eq_true_eq]
   right;omega
theorem ph{ws:Ws}(hw:Bx.okW ws){n k:Int}:In (Bx.cQ ws n) k↔In ws k∧k≠n:=by
 obtain⟨h1,h2⟩:=Bx.kx hw n
 rw[eW h1,eW hw]
 constructor
 ·rintro⟨a,b⟩
  rw[h2 k.toNat (by omega),Bool.and_eq_true,Bool.not_eq_true',decide_eq_false_iff_not]at b
  exact⟨⟨a,b.1⟩,by omega⟩
 ·rintro⟨⟨a,b⟩,c⟩
  refine⟨a, ?_⟩
  rw[h2 _ (by omega),Bool.and_eq_true,Bool.not_eq_true',decide_eq_false_iff_not]
  exact⟨b,by omega⟩
theorem adD{op:BinOp}(v8:op=.or∨op=.and∨op=.andNot){a b:Ws}(ha:Bx.okW a)(hb:Bx.okW b){k:Int}:
 In (Bx.dc op a b) k↔(0≤k∧k<1024)∧Bx.opb op (Bx.bit a k.toNat) (Bx.bit b k.toNat)=true:=by
 obtain⟨h1,h2⟩:=Bx.nr v8 ha hb
 rw[eW h1]
 constructor
 ·rintro⟨c,d⟩;rw[h2 _ (by omega)]at d;exact⟨c,d⟩
 ·rintro⟨c,d⟩;exact⟨c,by rw[h2 _ (by omega)];exact d⟩
theorem asf{a b:Ws}(ha:Bx.okW a)(hb:Bx.okW b){k:Int}:In (Bx.dc .or a b) k↔In a k∨In b k:=by
 rw[adD (.inl rfl) ha hb,eW ha,eW hb]
 simp only[Bx.opb,Bool.or_eq_true]
 exact⟨fun⟨c,d⟩=>d.imp (fun x=>⟨c,x⟩) (fun x=>⟨c,x⟩),fun h=>h.elim (fun x=>⟨x.1,.inl x.2⟩) (fun x=>⟨x.1,.inr x.2⟩)⟩
theorem aqc{a b:Ws}(ha:Bx.okW a)(hb:Bx.okW b){k:Int}:In (Bx.dc .and a b) k↔In a k∧In b k:=by
 rw[adD (.inr (.inl rfl)) ha hb,eW ha,eW hb]
 simp only[Bx.opb,Bool.and_eq_true]
 exact⟨fun⟨c,d⟩=>⟨⟨c,d.1⟩,c,d.2⟩,fun⟨x,y⟩=>⟨x.1,x.2,y.2⟩⟩
theorem amb{a b:Ws}(ha:Bx.okW a)(hb:Bx.okW b){k:Int}:In (Bx.dc .andNot a b) k↔In a k∧¬In b k:=by
 rw[adD (.inr (.inr rfl)) ha hb,eW ha,eW hb]
 simp only[Bx.opb,Bool.and_eq_true,Bool.not_eq_true']
 constructor
 ·rintro⟨c,d,e⟩
  exact⟨⟨c,d⟩,fun h=>by rw[h.2]at e;cases e⟩
 ·rintro⟨⟨c,d⟩,e⟩
  refine⟨c,d, ?_⟩
  cases hh:Bx.bit b k.toNat
  ·rfl
  ·exact absurd ⟨c,hh⟩ e
theorem abz{n k:Int}:In (Bx.cC n) k↔(0≤k∧k<1024)∧k<n:=by
 obtain⟨h1,h2⟩:=Bx.dQ n
 rw[eW h1]
 constructor
 ·rintro⟨c,d⟩;rw[h2 _ (by omega),decide_eq_true_eq]at d;exact⟨c,by omega⟩
 ·rintro⟨c,d⟩;exact⟨c,by rw[h2 _ (by omega),decide_eq_true_eq];omega⟩
theorem lH{k:Int}:¬In Bx.bk k:=fun h=>by
 have:=((eW Bx.gK.1).1 h).2
 rw[Bx.gK.2]at this
 cases this
theorem abA{ws:Ws}(hw:Bx.okW ws)(h:Bx.eI ws 0=true):In ws (Bx.bu ws 0):=by
 unfold Bx.eI at h
 obtain⟨v,hv⟩:=Option.isSome_iff_exists.1 h
 obtain⟨p,rfl,hp,hb,_,_⟩:=Bx.adx hw hv
 have e:Bx.bu ws 0=(p:Int):=by unfold Bx.bu;rw[hv];rfl
 rw[e,eW hw]
 exact⟨⟨by omega,by omega⟩,by rw[Int.toNat_natCast];exact hb⟩
theorem amc{ws:Ws}(hw:Bx.okW ws)(h:Bx.eI ws 0=false)(k:Int):¬In ws k:=by
 unfold Bx.eI at h
 have hv:Bx.nt ws 0=none:=by
  cases e:Bx.nt ws 0 with
  |none=>rfl
  |some v=>rw[e]at h;cases h
 intro hk
 obtain⟨hr,hb⟩:=(eW hw).1 hk
 rw[Bx.ady hw hv k.toNat (by omega) (by omega)]at hb
 cases hb
structure Rd (th:Th) (m:As) (p:Int) (l:Bool) (es:List En) (bs:List Br):Prop where
 e:Ds.ji th m p=0
 c:ry (Ds.gS th m p)=0
 l:jk (Ds.gS th m p)=l
 es:nk (Ds.gS th m p)=es
 bs:mr (Ds.gS th m p)=bs
theorem Rd.same{th:Th}{m m':As}{p:Int}{l:Bool}{es:List En}{bs:List Br}(h:Rd th m p l es bs)(h1:Ds.ji th m' p=Ds.ji th m p∧Ds.gS th m' p=Ds.gS th m p):Rd th m' p l es bs:=by
 obtain⟨a,b,c,d,e⟩:=h
 exact⟨by rw[h1.1];exact a,by rw[h1.2];exact b,by rw[h1.2];exact c,by rw[h1.2];exact d,by rw[h1.2];exact e⟩
theorem Rd.nd{th:Th}{m:As}{p:Int}{l:Bool}{es:List En}{bs:List Br}(h:Rd th m p l es bs){deep:Int}(hd:deep≤16):gU th m p deep=0∧kJ th m p deep=l∧bR th m p deep=es∧aR th m p deep=bs:=by
 have e0:rF th m p deep=true:=by unfold rF;rw[decide_eq_true hd,decide_eq_true h.e];rfl
 refine⟨?_, ?_, ?_, ?_⟩
 ·unfold gU;rw[if_neg (by omega),if_pos h.e];exact h.c
 ·unfold kJ;rw[e0,Bool.true_and];exact h.l
 ·unfold bR;rw[if_pos e0];exact h.es
 ·unfold aR;rw[if_pos e0];exact h.bs
end Ts
namespace Ts
open Go Go.Sx Go.Proofs Lf
abbrev ash:=bS [ez] [dL] (fun((l,es,bs,()),())=>[((l:Bool)=true→0<(es:List En).length)∧(l=false→0<(bs:List Br).length)]) (fun((l,es,bs,()),())=>(cV l es bs,()))
abbrev anU:=uH [ez] [gM] (fun((_,_,bs,()),())=>[(bs:List Br).length≤1000]) (fun((l,es,bs,()),())=>((l,es,aa bs,()),()))
abbrev aui:=bS [Bx.dt,Bx.bm] [Bx.bm,Bx.cv] (fun(ws,_,())=>[Bx.okW ws]) (fun(ws,n,())=>(Bx.bu ws n,Bx.eI ws n,()))
abbrev asi:=bS [ez] [dL,bm] (fun((_,es,bs,()),())=>[a8 es,ba bs]) (fun((l,es,bs,()),())=>(db l es bs,gI l es bs,()))
def anV:aH:=[(94,ash),(81,anU),(95,aui),(96,asi),(97,asd),(98,anQ),(43,ajo)]
theorem auj(th:Th)(m:As)(fu root:Int)(fr fs gn:Ws)(l:Bool)(es:List En)(bs:List Br):run P anV.sum Tryd.f83 [] (start Tryd.f83 [.ptr 0 0,avN l es bs] (hT th m fu root fr fs gn))=
 Tree.need ((l=true→(0:Nat)<es.length)∧(l=false→(0:Nat)<bs.length))
 (.need (bs.length≤1000)
   (.need (Bx.okW fr)
     (.ite (!Bx.eI fr 0) (.ret [.own [.ptr 1 0,.s (.int .i64 root),.ints .u64 16 fr,.ints .u64 16 fs,.ints .u64 16 gn] 70,.own [.vec 2,.ag 3,.s (.int .i64 fu)] 96,.vec (.ad [.arr .u8 64] th) 138,.map (.arr .u8 64) m,.own [.s (.bool l),.s (.ro (.ad [.str,.str] es)),.s (.ro (.ad [.str,.int .i64] (aa bs)))] 73,.own [.s (.str ByteArray.empty),.s (.aW .i64 0)] 79] (.bp [.agg [.s (.str ByteArray.empty),.s (.aW .i64 0)],.s (.aW .i64 41)]))
       (.need (a8 es) (.need (ba (aa bs)) (.ite (gI l es (aa bs) !=0) (.ret [.own [.ptr 1 0,.s (.int .i64 root),.ints .u64 16 fr,.ints .u64 16 fs,.ints .u64 16 gn] 70,.own [.vec 2,.ag 3,.s (.int .i64 fu)] 96,.vec (.ad [.arr .u8 64] th) 138,.map (.arr .u8 64) m,.own [.s (.bool l),.s (.ro (.ad [.str,.str] es)),.s (.ro (.ad [.str,.int .i64] (aa bs)))] 73,.own [.s (.str ByteArray.empty),.s (.aW .i64 0)] 79] (.bp [.agg [.s (.str ByteArray.empty),.s (.aW .i64 0)],.s (.int .i64 (gI l es (aa bs)))])) (.need (bJ (some [AV.ptr 0 0,.s (.int .i64 (Bx.bu fr 0)),.s (.str (db l es (aa bs)))])) (.need (bJ (some [ae.own [.vec 1,.ag 2,.s (.int .i64 fu)] 96,.vec (.ad [.arr .u8 64] th) 138,.map (.arr .u8 64) m])) (.need (Ds.bU th m fu) (.need (aD (Bx.bu fr 0)) (.ite ((Ds.j8 th m fu (Bx.bu fr 0) (db l es (aa bs))).snd.snd !=0) (.ret [.own [.ptr 1 0,.s (.int .i64 root),.ints .u64 16 fr,.ints .u64 16 fs,.ints .u64 16 gn] 70,.own [.vec 2,.ag 3,.s (.int .i64 (Ds.j8 th m fu (Bx.bu fr 0) (db l es (aa bs))).snd.fst)] 96,.vec (.ad [.arr .u8 64] th) 138,.map (.arr .u8 64) (Ds.j8 th m fu (Bx.bu fr 0) (db l es (aa bs))).fst,.own [.s (.bool l),.s (.ro (.ad [.str,.str] es)),.s (.ro (.ad [.str,.int .i64] (aa bs)))] 73,.own [.s (.str ByteArray.empty),.s (.aW .i64 0)] 79] (.bp [.agg [.s (.str ByteArray.empty),.s (.aW .i64 0)],.s (.int .i64 (Ds.j8 th m fu (Bx.bu fr 0) (db l es (aa bs))).snd.snd)])) (.ret [.own [.ptr 1 0,.s (.int .i64 root),.ints .u64 16 (Bx.cQ fr (Bx.bu fr 0)),.ints .u64 16 (Bx.di fs (Bx.bu fr 0)),.ints .u64 16 gn] 70,.own [.vec 2,.ag 3,.s (.int .i64 (Ds.j8 th m fu (Bx.bu fr 0) (db l es (aa bs))).snd.fst)] 96,.vec (.ad [.arr .u8 64] th) 138,.map (.arr .u8 64) (Ds.j8 th m fu (Bx.bu fr 0) (db l es (aa bs))).fst,.own [.s (.bool l),.s (.ro (.ad [.str,.str] es)),.s (.ro (.ad [.str,.int .i64] (aa bs)))] 73,.own [.s (.str (cV l es bs)),.s (.int .i64 (Bx.bu fr 0))] 79] (.bp [.agg [.s (.str (cV l es bs)),.s (.int .i64 (Bx.bu fr 0))],.s (.aW .i64 0)]))))))))))))):=by kernel_rfl
abbrev asj:Spec (XT×Bool×List En×List Br):=⟨fun(_,l,es,bs)=>[.ptr 0 0,avN l es bs],fun((th,m,fu,root,fr,fs,gn),_)=>hT th m fu root fr fs gn,
 fun((th,m,fu,_,fr,_,_),l,es,bs)=>[Ds.bU th m fu,Bx.okW fr,((l:Bool)=true→0<(es:List En).length)∧(l=false→0<(bs:List Br).length),a8 es,ba bs],
 fun((th,m,fu,root,fr,fs,gn),l,es,bs)=>hT th (bG th m fu fr fs l es bs).1 (bG th m fu fr fs l es bs).2.1 root (bG th m fu fr fs l es bs).2.2.1 (bG th m fu fr fs l es bs).2.2.2.1 gn,
 fun((th,m,fu,_,fr,fs,_),l,es,bs)=>.bp [.agg [.s (.str (bG th m fu fr fs l es bs).2.2.2.2.1.1),bO (bG th m fu fr fs l es bs).2.2.2.2.1.2.1],bO (bG th m fu fr fs l es bs).2.2.2.2.2]⟩
theorem su{bs:List Br}(h:ba bs):ba (aa bs):=by
 cases bs with
 |nil=>exact h
 |cons b r=>
  refine⟨h.1,fun x hx=> ?_⟩
  rcases List.mem_cons.1 hx with rfl|hx
  ·exact Nat.zero_le _
  ·exact h.2 x (List.mem_cons_of_mem _ hx)
theorem vF{ws:Ws}(hw:Bx.okW ws)(h:Bx.eI ws 0=true):0≤Bx.bu ws 0∧Bx.bu ws 0<1024:=nu hw (abA hw h)
theorem ajv:anV.Ok P Bx.ct:=aH.Ok.cons ajq.sum (aH.Ok.cons ae7.uH (aH.Ok.cons (Bx.al5 Bx.asb.sum).sum (aH.Ok.cons agz.sum (aH.Ok.cons (Ds.arE.sum Ds.mWr) (aH.Ok.cons Bx.vu.sum (aH.Ok.cons Bx.tj.sum aH.Ok.nil))))))
theorem uS:jU P Bx.ct 83 asj:=by
 refine aO Tryd.func83 (by kernel_rfl) (fun x=>Nat.le_of_ble_eq_true (by kernel_rfl)) ?_
 rintro⟨⟨(th:Th),(m:As),(fu:Int),(root:Int),(fr:Ws),(fs:Ws),(gn:Ws)⟩,(l:Bool),(es:List En),(bs:List Br)⟩ ⟨(hd:Ds.bU th m fu),(hf:Bx.okW fr),(cu:((l:Bool)=true→0<(es:List En).length)∧(l=false→0<(bs:List Br).length)),(he:a8 es),(hb:ba bs),_⟩ X hX hz
 refine Ds.eV hz hX (by intro y hy;cases hy) ajv Tryd.func83 (auj th m fu root fr fs gn l es bs) ⟨cu,hb.1,hf,fun h=> ?_,fun h=>⟨he,su hb,fun h2=> ?_,fun h2=>⟨rfl,rfl,hd, ?_,fun h3=> ?_,fun h3=> ?_⟩⟩⟩
 ·have h:Bx.eI fr 0=false:=by simpa using h
  have e:bG th m fu fr fs l es bs=(m,fu,fr,fs,dB,41):=by unfold bG;rw[if_pos h]
  refine b9 (h:=hT th m fu root fr fs gn) 4 rfl (Nat.le_refl _) ?_ ?_
  ·show AV.bp [.agg [.s (.str (bG th m fu fr fs l es bs).2.2.2.2.1.1),bO (bG th m fu fr fs l es bs).2.2.2.2.1.2.1],bO (bG th m fu fr fs l es bs).2.2.2.2.2]=_
   rw[e];rfl
  ·show hT th (bG th m fu fr fs l es bs).1 (bG th m fu fr fs l es bs).2.1 root (bG th m fu fr fs l es bs).2.2.1 (bG th m fu fr fs l es bs).2.2.2.1 gn=_
   rw[e]
 ·have h:¬Bx.eI fr 0=false:=by simpa using h
  have h2:gI l es (aa bs)≠0:=by simpa using h2
  have e:bG th m fu fr fs l es bs=(m,fu,fr,fs,dB,gI l es (aa bs)):=by unfold bG;rw[if_neg h,if_pos h2]
  refine b9 (h:=hT th m fu root fr fs gn) 4 rfl (Nat.le_refl _) ?_ ?_
  ·show AV.bp [.agg [.s (.str (bG th m fu fr fs l es bs).2.2.2.2.1.1),bO (bG th m fu fr fs l es bs).2.2.2.2.1.2.1],bO (bG th m fu fr fs l es bs).2.2.2.2.2]=_
   rw[e];rfl
  ·show hT th (bG th m fu fr fs l es bs).1 (bG th m fu fr fs l es bs).2.1 root (bG th m fu fr fs l es bs).2.2.1 (bG th m fu fr fs l es bs).2.2.2.1 gn=_
   rw[e]
 ·have h:Bx.eI fr 0=true:=by simpa using h
  have:=vF hf h
  exact⟨by omega,by omega⟩
 ·have h:¬Bx.eI fr 0=false:=by simpa using h
  have h2:¬gI l es (aa bs)≠0:=by simpa using h2
  have h3:(Ds.j8 th m fu (Bx.bu fr 0) (db l es (aa bs))).2.2≠0:=by simpa using h3
  have e:bG th m fu fr fs l es bs=((Ds.j8 th m fu (Bx.bu fr 0) (db l es (aa bs))).1,(Ds.j8 th m fu (Bx.bu fr 0) (db l es (aa bs))).2.1,fr,fs,dB,(Ds.j8 th m fu (Bx.bu fr 0) (db l es (aa bs))).2.2):=by unfold bG;rw[if_neg h,if_neg h2,if_pos h3]
  refine b9 (h:=hT th (Ds.j8 th m fu (Bx.bu fr 0) (db l es (aa bs))).1 (Ds.j8 th m fu (Bx.bu fr 0) (db l es (aa bs))).2.1 root fr fs gn) 4 rfl (Nat.le_refl _) ?_ ?_
  ·show AV.bp [.agg [.s (.str (bG th m fu fr fs l es bs).2.2.2.2.1.1),bO (bG th m fu fr fs l es bs).2.2.2.2.1.2.1],bO (bG th m fu fr fs l es bs).2.2.2.2.2]=_
   rw[e];rfl
  ·show hT th (bG th m fu fr fs l es bs).1 (bG th m fu fr fs l es bs).2.1 root (bG th m fu fr fs l es bs).2.2.1 (bG th m fu fr fs l es bs).2.2.2.1 gn=_
   rw[e]
 ·have h:¬Bx.eI fr 0=false:=by simpa using h
  have h2:¬gI l es (aa bs)≠0:=by simpa using h2
  have h3:¬(Ds.j8 th m fu (Bx.bu fr 0) (db l es (aa bs))).2.2≠0:=by simpa using h3
  have e:bG th m fu fr fs l es bs=((Ds.j8 th m fu (Bx.bu fr 0) (db l es (aa bs))).1,(Ds.j8 th m fu (Bx.bu fr 0) (db l es (aa bs))).2.1,Bx.cQ fr (Bx.bu fr 0),Bx.di fs (Bx.bu fr 0),(cV l es bs,Bx.bu fr 0,()),0):=by unfold bG;rw[if_neg h,if_neg h2,if_neg h3]
  refine b9 (h:=hT th (Ds.j8 th m fu (Bx.bu fr 0) (db l es (aa bs))).1 (Ds.j8 th m fu (Bx.bu fr 0) (db l es (aa bs))).2.1 root (Bx.cQ fr (Bx.bu fr 0)) (Bx.di fs (Bx.bu fr 0)) gn) 4 rfl (Nat.le_refl _) ?_ ?_
  ·show AV.bp [.agg [.s (.str (bG th m fu fr fs l es bs).2.2.2.2.1.1),bO (bG th m fu fr fs l es bs).2.2.2.2.1.2.1],bO (bG th m fu fr fs l es bs).2.2.2.2.2]=_
   rw[e];rfl
  ·show hT th (bG th m fu fr fs l es bs).1 (bG th m fu fr fs l es bs).2.1 root (bG th m fu fr fs l es bs).2.2.1 (bG th m fu fr fs l es bs).2.2.2.1 gn=_
   rw[e]
end Ts
namespace Go.Sx
open Go
def ae9:List Nat→List AV→(List AV→RM bx)→RM bx
 |[],args,k=>k args
 |id::ids,args,k=>.look id fun o=>match o with
  |some (.vec c _)=>((ae9 ids (args.map (mV id c)) k).afD id).lR id
  |_=>.fail "give up: no row"
def ajw(i:Nat)(s:Nat→List AV→RM bx):Nat→List AV→RM bx:=fun base args=>ae9 (acR (args.getD i (.s .aN))) args (s base)
def afa(cs:List (Nat×aF)):Nat→List AV→List AV
 |_,[]=>[]
 |j,.emp::r=>(match cs.find? (fun p=>p.1.beq j)with
  |some (_,c)=>bif c.n.beq 0 then .s (.ro c)else .emp
  |none=>.emp)::afa cs (j+1) r
 |j,a::r=>a::afa cs (j+1) r
def anW(cs:List (Nat×aF)):AV→AV
 |.agg ak=>.agg (afa cs 0 ak)
 |a=>a
def zB(i:Nat)(cs:List (Nat×aF))(s:Nat→List AV→RM bx):Nat→List AV→RM bx:=fun base args=>s base (match args[i]? with
 |some a=>args.set i (anW cs a)
 |none=>args)
section
variable{ρ az:Nat→Value}{H H':aG}{G O O':Nat→Prop}{w w':World}{P:Program}{Z:aX}{X:Type}{S:Spec X}
theorem xV{cs:List (Nat×aF)}:∀(l:List AV) (j:Nat) {vs:List Value},an ρ H O w l vs→an ρ H O w (afa cs j l) vs
 |[],_,vs,h=>h
 |a::l,j,vs,h=>by
  obtain⟨c1,c2,rfl,h1,h2⟩:=af.1 h
  have ih:=xV (cs:=cs) l (j+1) h2
  cases a with
  |emp=>
   refine af.2 ⟨c1,c2,rfl, ?_,ih⟩
   split
   ·rw[Bool.cond_eq_ite]
    split
    ·rename_i c _ hc
     have hc:c.n=0:=by simpa using hc
     unfold aC at h1 ⊢
     obtain⟨u,rfl,a,rfl⟩:=h1
     exact⟨_,rfl,s6 hc a⟩
    ·exact h1
   ·exact h1
  |_=>exact af.2 ⟨c1,c2,rfl,h1,ih⟩
theorem agS{cs:List (Nat×aF)}{a:AV}{v:Value}(h:ab ρ H O w a v):ab ρ H O w (anW cs a) v:=by
 cases a with
 |agg ak=>
  unfold ab at h
  obtain⟨vs,rfl,h1⟩:=h
  show ab _ _ _ _ (.agg _) _
  unfold ab
  exact⟨vs,rfl,xV _ _ h1⟩
 |_=>exact h
theorem ga{f:FuncId}{s:Nat→List AV→RM bx}(h:uG P Z f s)(i:Nat)(cs:List (Nat×aF)):uG P Z f (zB i cs s):=by
 intro base args H q hq hn ρ G w vs eR hz hs hd
 unfold zB at hq
 split at hq
 ·rename_i a ha
  exact h base _ H q hq hn ρ G w vs eR hz hs (aiq hd ha fun v hv=>agS hv)
 ·exact h base _ H q hq hn ρ G w vs eR hz hs hd
theorem agT(hs:Sat ρ H G w){id:Nat}{c:aF}{e:TypeId}(ho:H id=some (.vec c e)){x:AV}{v:Value}(hx:ab ρ H (aL ρ H G) w x v):
 ab ρ (aB H id .dead) (aL ρ (aB H id .dead) G) w (mV id c x) v:=by
 have st:=fx (ρ:=ρ) (G:=G) (w:=w) ho
 have gone:=uh hs ho
 have ac0:∀x cs,aC ρ H (aL ρ H G) w x cs→aC ρ (aB H id .dead) (aL ρ (aB H id .dead) G) w (mU id c x) cs:=by
  intro x cs hx
  have mm:=aC.step st x cs hx
  cases x<;>try exact mm
  rename_i j
  simp only[mU,Bool.cond_eq_ite]
  split
  ·rename_i hj
   have hj:j=id:=by simpa using hj
   subst hj
   unfold aC at hx ⊢
   obtain⟨u,rfl,hu⟩:=hx
   obtain⟨a,cap,hv,hr,_⟩:=jo hs ho (by unfold ab;exact hu)
   exact⟨u,rfl,by rw[←hr];exact gone⟩
  ·exact mm
 have lW:∀(xs:List AV) cs,an ρ H (aL ρ H G) w xs cs→an ρ (aB H id .dead) (aL ρ (aB H id .dead) G) w (xs.map (mU id c)) cs:=by
  intro xs
  induction xs with
  |nil=>intro cs hx;exact ao.2 (ao.1 hx)
  |cons x xs ih=>
   intro cs hx
   obtain⟨c1,c2,rfl,h1,h2⟩:=af.1 hx
   exact af.2 ⟨c1,c2,rfl,ac0 _ _ h1,ih _ h2⟩
 have mm:=ab.step st x v hx
 cases x with
 |agg ak=>
  unfold ab at hx
  obtain⟨cs,rfl,h1⟩:=hx
  show ab _ _ _ _ (.agg _) _
  unfold ab
  exact⟨cs,rfl,lW _ _ h1⟩
 |vec j=>
  simp only[mV,Bool.cond_eq_ite]
  split
  ·rename_i hj
   have hj:j=id:=by simpa using hj
   subst hj
   obtain⟨a,cap,hv,hr,_⟩:=jo hs ho hx
   rw[←hr]
   exact au gone
  ·exact mm
 |_=>exact mm
theorem abB{f:FuncId}{s:Nat→List AV→RM bx}(h:uG P Z f s){base:Nat}:∀(ids:List Nat) {args:List AV} {H:aG} {q:bx},(ae9 ids args (s base)).eval H=some q→bt q.need→
 ∀(ρ:Nat→Value) (G:Nat→Prop) (w:World) (vs:List Value),(∀j,j<q.new.length→H (base+j)=none)→ZAt Z ρ H w→Sat ρ H G w→bz ρ H (aL ρ H G) w args vs→
 Calls P f vs.toArray w fun e w'=>∃v,e=.returned v∧Good ρ H G w (c8 H q.up base q.new) (q.r base) v w'
 |[],args,H,q,hq,hn,ρ,G,w,vs,eR,hz,hs,hd=>h base args H q hq hn ρ G w vs eR hz hs hd
 |id::ids,args,H,q,hq,hn,ρ,G,w,vs,eR,hz,hs,hd=>by
  simp only[ae9,RM.eval]at hq
  split at hq
  ·rename_i c el ho
   obtain⟨q',h1,rfl⟩:=RM.lU _ hq
   rw[RM.nH]at h1
   have st:=fx (ρ:=ρ) (G:=G) (w:=w) ho
   have hz1:ZAt Z ρ (aB H id .dead) w:=⟨hz.1,fun b hb hO=>hz.2 b hb (fk hO)⟩
   have amd:∀j,j<q'.new.length→aB H id .dead (base+j)=none:=fun j hj=>by
    have:=eR j hj
    simp only[aB]
    split
    ·rename_i e1;rw[e1,ho]at this;cases this
    ·exact this
   have hd1:bz ρ (aB H id .dead) (aL ρ (aB H id .dead) G) w (args.map (mV id c)) vs:=by
    clear h1 hq
    induction args generalizing vs with
    |nil=>exact(show bz _ _ _ _ [] vs by rw[aU.1 hd];unfold bz;rfl)
    |cons a args ih=>
     obtain⟨v,rest,rfl,g1,g2⟩:=aw.1 hd
     exact aw.2 ⟨v,rest,rfl,agT hs ho g1,ih _ g2⟩
   refine(abB h ids h1 hn ρ G w vs amd hz1 (hs.kill ho) hd1).mono ?_
   rintro en w' ⟨v,he,hg⟩
   refine⟨v,he, ?_⟩
   have ahL:c8 H ((id,.dead)::q'.up) base q'.new=c8 (aB H id .dead) q'.up base q'.new:=by
    funext j
    simp only[c8,cN,aB]
    cases cN q'.up j with
    |some x=>rfl
    |none=>
     simp only[]
     by_cases hj:j=id
     ·subst hj
      have tZ:¬(base≤j∧j<base+q'.new.length):=by
       rintro⟨k1,k2⟩
       have:=eR (j - base) (by simp only[];omega)
       rw[show base+(j - base)=j from by omega,ho]at this
       cases this
      simp[tZ]
     ·simp[hj]
   simp only[]
   rw[ahL]
   exact Good.after st (fun b hb=>fk hb) hg
  ·simp[RM.eval]at hq
theorem ig{f:FuncId}{s:Nat→List AV→RM bx}(h:uG P Z f s)(i:Nat):uG P Z f (ajw i s):=by
 intro base args H q hq hn ρ G w vs eR hz hs hd
 exact abB h _ hq hn ρ G w vs eR hz hs hd
theorem wH{f:FuncId}{fn:Func}{aA:List AV}{L:List ae}{K:List ae→AV→Prop}(hf:P.funcs[f]? =some fn)(hb:fn.body.isSome=true)(hn:aA.length≤fn.ntmps)
 (h:∀X:Ctx,X.H=lk L→dS Z X→Safe P f X K (start fn aA L)) (ρ:Nat→Value) (G:Nat→Prop) (w:World) (vs:List Value) (hz:ZAt Z ρ (lk L) w) (hs:Sat ρ (lk L) G w)
 (hd:bz ρ (lk L) (aL ρ (lk L) G) w aA vs):Calls P f vs.toArray w (jO ⟨ρ,lk L,G,w,[]⟩ K):=by
 obtain⟨c,hb⟩:=Option.isSome_iff_exists.1 hb
 have nf:vs.length=aA.length:=by
  have:∀{aA:List AV} {vs:List Value},bz ρ (lk L) (aL ρ (lk L) G) w aA vs→vs.length=aA.length:=by
   intro aA
   induction aA with
   |nil=>intro vs h;rw[aU.1 h];rfl
   |cons a aA ih=>intro vs h;obtain⟨v,rest,rfl,_,h2⟩:=aw.1 h;simp[ih h2]
  exact this hd
 refine iv (R:=jO ⟨ρ,lk L,G,w,[]⟩ K) hf hb ?_
 have:=(h ⟨ρ,lk L,G,w,[]⟩ rfl hz).goes rfl rfl (ρ:=ρ) (a:={tmps:=vs.toArray++Array.replicate (fn.ntmps - vs.toArray.size) undef,defers:=[]}) (w:=w)
 simp only[start,hb,Option.getD_some]at this
 refine this ⟨hs, ?_,fun t=> ?_,rfl,Step.refl _ _ _ _,⟨rfl,rfl,rfl,fun _ _ _=>rfl⟩,fun x hx=>by cases hx⟩
 ·simp[nf]
 ·have e1:∀(aA:List AV) (vs:List Value),bz ρ (lk L) (aL ρ (lk L) G) w aA vs→∀t,ab ρ (lk L) (aL ρ (lk L) G) w (aA.getD t (.bp [])) (vs.getD t undef):=by
   intro aA
   induction aA with
   |nil=>intro vs h t;rw[aU.1 h];simp only[List.getD,List.getElem?_nil,Option.getD_none];exact cG
   |cons a aA ih=>
    intro vs h t
    obtain⟨v,rest,rfl,h1,h2⟩:=aw.1 h
    cases t with
    |zero=>simpa using h1
    |succ t=>simpa using ih rest h2 t
  have h1:=e1 _ _ hd t
  simp only[List.getD_eq_getElem?_getD,List.getElem?_append,List.getElem?_replicate,Array.getD_eq_getD_getElem?,Array.getElem?_append,List.getElem?_toArray,Array.getElem?_replicate,List.size_toArray]at h1 ⊢
  rw[nf]
  split
  ·rename_i ht
   have hv:vs[t]? =some vs[t]:=List.getElem?_eq_getElem (by omega)
   have ha:aA[t]? =some aA[t]:=List.getElem?_eq_getElem ht
   rw[hv,ha]at h1 ⊢
   exact h1
  ·split
   ·exact cG
   ·unfold ab;trivial
def wI{X:Type}(S:Spec X)(x:X)(L:List ae)(r:AV):Prop:=
 ∃(N:Norm) (vs os:List AV),r=.bp vs∧(S.heap x).length≤N.m∧N.run ⟨vs,L,[],{}⟩=some ⟨os,S.fC x,[],{}⟩∧∀(ρ:Nat→Value) (H:aG) (O:Nat→Prop) (w:World) (us:List Value),bz ρ H O w os us→ab ρ H O w (S.out x) (.tuple us.toArray)
theorem afb:∀{os:List AV} {us:List Value},os.length=us.length→(∀t,ab ρ H O w (os.getD t (.s .aN)) (us.getD t undef))→bz ρ H O w os us
 |[],[],_,_=>by unfold bz;rfl
 |[],_::_,h,_=>by simp at h
 |_::_,[],h,_=>by simp at h
 |a::os,u::us,hl,h=>aw.2 ⟨u,us,rfl,h 0,afb (by simpa using hl) fun t=>h (t+1)⟩
theorem fE{f:FuncId}{fn:Func}(hf:P.funcs[f]? =some fn)(hb:fn.body.isSome=true)(hn:∀x,(S.args x).length≤fn.ntmps)
 (h:∀x,bt (S.pre x)→∀X:Ctx,X.H=lk (S.heap x)→dS Z X→Safe P f X (wI S x) (start fn (S.args x) (S.heap x))):jU P Z f S:=by
 intro x lg ρ G w vs hz hs hd
 refine(wH hf hb (hn x) (h x lg) ρ G w vs hz hs hd).mono ?_
 rintro e w' ⟨v,rfl,L,r,⟨N,ts,os,rfl,hm,hN,hwk⟩,lj,g1,g2,g3,g4⟩
 refine⟨v,rfl, ?_⟩
 unfold ab at g2
 obtain⟨us,rfl,g2⟩:=g2
 have hlen:us.length=ts.length:=by
  have:∀{aA:List AV} {vs:List Value},bz lj (fun id=>L[id]?) (aL lj (fun id=>L[id]?) G) w' aA vs→vs.length=aA.length:=by
   intro aA
   induction aA with
   |nil=>intro vs h;rw[aU.1 h];rfl
   |cons a aA ih=>intro vs h;obtain⟨v,rest,rfl,_,h2⟩:=aw.1 h;simp[ih h2]
  exact this g2
 have r0:bM ⟨ρ,lk (S.heap x),G,w,[]⟩ lj ⟨ts,L⟩ {tmps:=us.toArray,defers:=[]} w':=by
  refine⟨g1,by simp[hlen],fun t=> ?_,rfl,g3,g4,fun x hx=>by cases hx⟩
  clear hlen hN
  have g2':bz lj (St.look ⟨ts,L⟩) (aL lj (St.look ⟨ts,L⟩) G) w' ts us:=g2
  show ab lj (St.look ⟨ts,L⟩) (aL lj (St.look ⟨ts,L⟩) G) w' (ts.getD t (.s .aN)) (us.toArray.getD t undef)
  generalize St.look ⟨ts,L⟩=H1 at g2' ⊢
  clear g2 hwk
  induction ts generalizing us t with
  |nil=>simp only[List.getD,List.getElem?_nil,Option.getD_none];unfold ab;trivial
  |cons a ts ih=>
   obtain⟨u,rest,rfl,k1,k2⟩:=aw.1 g2'
   cases t with
   |zero=>simpa using k1
   |succ t=>simpa[Array.getD_eq_getD_getElem?]using ih _ t k2
 have h0:∀id,N.m≤id→(⟨ρ,lk (S.heap x),G,w,[]⟩:Ctx).H id=none:=fun id du=>by simp[lk];omega
 have fin:∃ρ4,bM ⟨ρ,lk (S.heap x),G,w,[]⟩ ρ4 ⟨os,S.fC x⟩ {tmps:=us.toArray,defers:=[]} w':=by
  unfold Norm.run at hN
  split at hN
  ·rename_i t1 L1 h1
   simp only[]at hN
   split at hN
   ·rename_i t2 L2 h2
    simp only[Option.some.injEq,bB.mk.injEq,and_true]at hN
    obtain⟨rfl,rfl⟩:=hN
    obtain⟨lj,r1⟩:=bM.fA h0 h1 (bM.dT N.eJ r0)
    obtain⟨fZ,r2⟩:=bM.fP N.oH r1
    obtain⟨ρ3,r3⟩:=bM.fQ N.cells r2
    obtain⟨ρ4,r4⟩:=bM.fA h0 h2 r3
    exact⟨ρ4,r4⟩
   ·cases hN
  ·cases hN
 obtain⟨ρ4,r4⟩:=fin
 refine⟨ρ4,r4.sat,hwk _ _ _ _ _ (afb ?_ fun t=> ?_),r4.from_,r4.iR⟩
 ·have:=r4.size;simpa using this
 ·have:=r4.den t
  have e:(us.toArray.getD t undef)=us.getD t undef:=by simp[Array.getD_eq_getD_getElem?,List.getD_eq_getElem?_getD]
  rw[←e]
  exact this
theorem kf{S:Spec X}{x:X}{L:List ae}{vs os:List AV}{h:List ae}(N:Norm)(e:N.run ⟨vs,L,[],{}⟩=some ⟨os,h,[],{}⟩)(hm:(S.heap x).length≤N.m){os':List AV}(hw:oz os os')(ho:S.out x=.bp os')(hh:S.fC x=h):wI S x L (.bp vs):=
 ⟨N,vs,os,rfl,hm,by rw[hh];exact e,fun ρ H O w us hd=>by rw[ho];unfold ab;exact⟨us,rfl,hw.den hd⟩⟩
theorem oz.same:∀(os:List AV),oz os os
 |[]=>.nil
 |a::os=>.cons (.one (.refl a)) (oz.same os)
end
end Go.Sx
namespace Ts
open Go Go.Sx Go.Proofs Lf
def mT:List AV→RM (XT×List Nat)
 |[.ptr id 0]=>.look id fun o=>match o with
  |some (.own [.ptr d 0,rt,.ints .u64 16 fr,.ints .u64 16 fs,.ints .u64 16 gn] _)=>(Ds.mAs [.ptr d 0]).bind fun((th,m,fu),σ)=>match rt.dk with
   |some (_,_,root)=>.ret ((th,m,fu,root,fr,fs,gn),id::σ)
   |none=>.fail "no root"
  |_=>.fail "no tree's cells"
 |_=>.fail "no tree"
def aqd:AV→Option (Bool×List En×List Br)
 |.agg [l,.s (.ro (.ad [.str,.str] es)),.s (.ro (.ad [.str,.int .i64] bs))]=>match l.iS with
  |some (_,b)=>some (b,es,bs)
  |none=>none
 |_=>none
def mTN:List AV→RM ((XT×Bool×List En×List Br)×List Nat)
 |[t,x]=>(mT [t]).bind fun(X,σ)=>match aqd x with
  |some (l,es,bs)=>.ret ((X,l,es,bs),σ)
  |none=>.fail "no node"
 |_=>.fail "no tree and node"
abbrev anX(s:Nat→List AV→RM bx):=ajw 1 (zB 1 [(1,.ad cE []),(2,.ad cB [])] s)
abbrev aqe:=anX (dI asj mTN)
abbrev auk:=bS [ez] [ez,ez,bm] (fun((_,es,bs,()),())=>[a8 es,ba bs]) (fun((l,es,bs,()),())=>((bK l es bs,aZ l es bs,bc l es bs,()),(bK l es bs,cP l es bs,cW l es bs,()),spC l es bs,()))
def anY:aH:=[(81,anU),(82,anD),(83,aqe),(84,auk)]
theorem aul(th:Th)(m:As)(fu root:Int)(fr fs gn:Ws)(l:Bool)(es:List En)(bs:List Br):run P anY.sum Tryd.f66 [] (start Tryd.f66 [.ptr 0 0,avN l es bs] (hT th m fu root fr fs gn))=
 Tree.need (aD ((↑es.length:Int)+(↑bs.length:Int)))
 (.ite ((↑es.length:Int)+(↑bs.length:Int)==0) (.ret [.own [.ptr 1 0,.s (.int .i64 root),.ints .u64 16 fr,.ints .u64 16 fs,.ints .u64 16 gn] 70,.own [.vec 2,.ag 3,.s (.int .i64 fu)] 96,.vec (.ad [.arr .u8 64] th) 138,.map (.arr .u8 64) m,.own [.s (.bool l),.s (.ro (.ad [.str,.str] es)),.s (.ro (.ad [.str,.int .i64] bs))] 73] (.bp [.emp,.s (.aW .i64 0)]))
   (.need (bs.length≤1000)
     (.need (a8 es)
       (.need (ba (aa bs))
         (.ite (decide (bg es (aa bs)≤254)) (.need (bJ (some [AV.ptr 0 0,.agg [.s (.bool l),.s (.ro (.ad [.str,.str] es)),.s (.ro (.ad [.str,.int .i64] (aa bs)))]])) (.need (bJ (some [ae.own [.ptr 1 0,.s (.int .i64 root),.ints .u64 16 fr,.ints .u64 16 fs,.ints .u64 16 gn] 70,.own [.vec 2,.ag 3,.s (.int .i64 fu)] 96,.vec (.ad [.arr .u8 64] th) 138,.map (.arr .u8 64) m])) (.need (Ds.bU th m fu) (.need (Bx.okW fr) (.need ((l=true→(0:Nat)<es.length)∧(l=false→(0:Nat)<(aa bs).length)) (.need (a8 es) (.need (ba (aa bs)) (.ret [.own [.ptr 1 0,.s (.int .i64 root),.ints .u64 16 (bG th m fu fr fs l es (aa bs)).snd.snd.fst,.ints .u64 16 (bG th m fu fr fs l es (aa bs)).snd.snd.snd.fst,.ints .u64 16 gn] 70,.own [.vec 2,.ag 3,.s (.int .i64 (bG th m fu fr fs l es (aa bs)).snd.fst)] 96,.vec (.ad [.arr .u8 64] th) 138,.map (.arr .u8 64) (bG th m fu fr fs l es (aa bs)).fst,.own [.s (.bool l),.s (.ro (.ad [.str,.str] es)),.s (.ro (.ad [.str,.int .i64] (aa bs)))] 73,.own [.s (.str (bG th m fu fr fs l es (aa bs)).snd.snd.snd.snd.fst.fst),.s (.int .i64 (bG th m fu fr fs l es (aa bs)).snd.snd.snd.snd.fst.snd.fst)] 79,.vec (.ad [.str,.int .i64] [((bG th m fu fr fs l es (aa bs)).snd.snd.snd.snd.fst.fst,(bG th m fu fr fs l es (aa bs)).snd.snd.snd.snd.fst.snd.fst,())]) 79] (.bp [.vec 6,.s (.int .i64 (bG th m fu fr fs l es (aa bs)).snd.snd.snd.snd.snd)])))))))))
           (.need (a8 es)
             (.need (ba (aa bs))
               (.ite (spC l es (aa bs) !=0) (.ret [.own [.ptr 1 0,.s (.int .i64 root),.ints .u64 16 fr,.ints .u64 16 fs,.ints .u64 16 gn] 70,.own [.vec 2,.ag 3,.s (.int .i64 fu)] 96,.vec (.ad [.arr .u8 64] th) 138,.map (.arr .u8 64) m,.own [.s (.bool l),.s (.ro (.ad [.str,.str] es)),.s (.ro (.ad [.str,.int .i64] (aa bs)))] 73,.vec (.ad [.str,.str] (aZ l es (aa bs))) 34,.vec (.ad [.str,.int .i64] (bc l es (aa bs))) 79,.vec (.ad [.str,.str] (cP l es (aa bs))) 34,.vec (.ad [.str,.int .i64] (cW l es (aa bs))) 79,.own [.s (.bool (bK l es (aa bs))),.vec 5,.vec 6] 73,.own [.s (.bool (bK l es (aa bs))),.vec 7,.vec 8] 73] (.bp [.emp,.s (.int .i64 (spC l es (aa bs)))]))
                 (.need (bJ (some [AV.ptr 0 0,.agg [.s (.bool (bK l es (aa bs))),.s (.ro (.ad [.str,.str] (aZ l es (aa bs)))),.s (.ro (.ad [.str,.int .i64] (bc l es (aa bs))))]]))
                   (.need (bJ (some [ae.own [.ptr 1 0,.s (.int .i64 root),.ints .u64 16 fr,.ints .u64 16 fs,.ints .u64 16 gn] 70,.own [.vec 2,.ag 3,.s (.int .i64 fu)] 96,.vec (.ad [.arr .u8 64] th) 138,.map (.arr .u8 64) m]))
                     (.need (Ds.bU th m fu)
                       (.need (Bx.okW fr)
                         (.need ((bK l es (aa bs)=true→(0:Nat)<(aZ l es (aa bs)).length)∧(bK l es (aa bs)=false→(0:Nat)<(bc l es (aa bs)).length))
                           (.need (a8 (aZ l es (aa bs)))
                             (.need (ba (bc l es (aa bs)))
                               (.ite ((bG th m fu fr fs (bK l es (aa bs)) (aZ l es (aa bs)) (bc l es (aa bs))).snd.snd.snd.snd.snd !=0) (.ret [.own [.ptr 1 0,.s (.int .i64 root),.ints .u64 16 (bG th m fu fr fs (bK l es (aa bs)) (aZ l es (aa bs)) (bc l es (aa bs))).snd.snd.fst,.ints .u64 16 (bG th m fu fr fs (bK l es (aa bs)) (aZ l es (aa bs)) (bc l es (aa bs))).snd.snd.snd.fst,.ints .u64 16 gn] 70,.own [.vec 2,.ag 3,.s (.int .i64 (bG th m fu fr fs (bK l es (aa bs)) (aZ l es (aa bs)) (bc l es (aa bs))).snd.fst)] 96,.vec (.ad [.arr .u8 64] th) 138,.map (.arr .u8 64) (bG th m fu fr fs (bK l es (aa bs)) (aZ l es (aa bs)) (bc l es (aa bs))).fst,.own [.s (.bool l),.s (.ro (.ad [.str,.str] es)),.s (.ro (.ad [.str,.int .i64] (aa bs)))] 73,.dead,.dead,.vec (.ad [.str,.str] (cP l es (aa bs))) 34,.vec (.ad [.str,.int .i64] (cW l es (aa bs))) 79,.own [.s (.bool (bK l es (aa bs))),.vec 5,.vec 6] 73,.own [.s (.bool (bK l es (aa bs))),.vec 7,.vec 8] 73,.own [.s (.str (bG th m fu fr fs (bK l es (aa bs)) (aZ l es (aa bs)) (bc l es (aa bs))).snd.snd.snd.snd.fst.fst),.s (.int .i64 (bG th m fu fr fs (bK l es (aa bs)) (aZ l es (aa bs)) (bc l es (aa bs))).snd.snd.snd.snd.fst.snd.fst)] 79] (.bp [.emp,.s (.int .i64 (bG th m fu fr fs (bK l es (aa bs)) (aZ l es (aa bs)) (bc l es (aa bs))).snd.snd.snd.snd.snd)]))
                                 (.need (bJ (some [AV.ptr 0 0,.agg [.s (.bool (bK l es (aa bs))),.s (.ro (.ad [.str,.str] (cP l es (aa bs)))),.s (.ro (.ad [.str,.int .i64] (cW l es (aa bs))))]]))
                                   (.need (bJ (some [ae.own [.ptr 1 0,.s (.int .i64 root),.ints .u64 16 (bG th m fu fr fs (bK l es (aa bs)) (aZ l es (aa bs)) (bc l es (aa bs))).snd.snd.fst,.ints .u64 16 (bG th m fu fr fs (bK l es (aa bs)) (aZ l es (aa bs)) (bc l es (aa bs))).snd.snd.snd.fst,.ints .u64 16 gn] 70,.own [.vec 2,.ag 3,.s (.int .i64 (bG th m fu fr fs (bK l es (aa bs)) (aZ l es (aa bs)) (bc l es (aa bs))).snd.fst)] 96,.vec (.ad [.arr .u8 64] th) 138,.map (.arr .u8 64) (bG th m fu fr fs (bK l es (aa bs)) (aZ l es (aa bs)) (bc l es (aa bs))).fst]))
                                     (.need (Ds.bU th (bG th m fu fr fs (bK l es (aa bs)) (aZ l es (aa bs)) (bc l es (aa bs))).fst (bG th m fu fr fs (bK l es (aa bs)) (aZ l es (aa bs)) (bc l es (aa bs))).snd.fst)
                                       (.need (Bx.okW (bG th m fu fr fs (bK l es (aa bs)) (aZ l es (aa bs)) (bc l es (aa bs))).snd.snd.fst)
                                         (.need ((bK l es (aa bs)=true→(0:Nat)<(cP l es (aa bs)).length)∧(bK l es (aa bs)=false→(0:Nat)<(cW l es (aa bs)).length))
                                           (.need (a8 (cP l es (aa bs)))
                                             (.need (ba (cW l es (aa bs)))
                                               (.ret
                                                 [.own [.ptr 1 0,.s (.int .i64 root),.ints .u64 16 (bG th (bG th m fu fr fs (bK l es (aa bs)) (aZ l es (aa bs)) (bc l es (aa bs))).fst (bG th m fu fr fs (bK l es (aa bs)) (aZ l es (aa bs)) (bc l es (aa bs))).snd.fst (bG th m fu fr fs (bK l es (aa bs)) (aZ l es (aa bs)) (bc l es (aa bs))).snd.snd.fst (bG th m fu fr fs (bK l es (aa bs)) (aZ l es (aa bs)) (bc l es (aa bs))).snd.snd.snd.fst (bK l es (aa bs)) (cP l es (aa bs)) (cW l es (aa bs))).snd.snd.fst,.ints .u64 16 (bG th (bG th m fu fr fs (bK l es (aa bs)) (aZ l es (aa bs)) (bc l es (aa bs))).fst (bG th m fu fr fs (bK l es (aa bs)) (aZ l es (aa bs)) (bc l es (aa bs))).snd.fst (bG th m fu fr fs (bK l es (aa bs)) (aZ l es (aa bs)) (bc l es (aa bs))).snd.snd.fst (bG th m fu fr fs (bK l es (aa bs)) (aZ l es (aa bs)) (bc l es (aa bs))).snd.snd.snd.fst (bK l es (aa bs)) (cP l es (aa bs)) (cW l es (aa bs))).snd.snd.snd.fst,.ints .u64 16 gn] 70,.own [.vec 2,.ag 3,.s (.int .i64 (bG th (bG th m fu fr fs (bK l es (aa bs)) (aZ l es (aa bs)) (bc l es (aa bs))).fst (bG th m fu fr fs (bK l es (aa bs)) (aZ l es (aa bs)) (bc l es (aa bs))).snd.fst (bG th m fu fr fs (bK l es (aa bs)) (aZ l es (aa bs)) (bc l es (aa bs))).snd.snd.fst (bG th m fu fr fs (bK l es (aa bs)) (aZ l es (aa bs)) (bc l es (aa bs))).snd.snd.snd.fst (bK l es (aa bs)) (cP l es (aa bs)) (cW l es (aa bs))).snd.fst)] 96,.vec (.ad [.arr .u8 64] th) 138,.map (.arr .u8 64) (bG th (bG th m fu fr fs (bK l es (aa bs)) (aZ l es (aa bs)) (bc l es (aa bs))).fst (bG th m fu fr fs (bK l es (aa bs)) (aZ l es (aa bs)) (bc l es (aa bs))).snd.fst (bG th m fu fr fs (bK l es (aa bs)) (aZ l es (aa bs)) (bc l es (aa bs))).snd.snd.fst (bG th m fu fr fs (bK l es (aa bs)) (aZ l es (aa bs)) (bc l es (aa bs))).snd.snd.snd.fst (bK l es (aa bs)) (cP l es (aa bs)) (cW l es (aa bs))).fst,.own [.s (.bool l),.s (.ro (.ad [.str,.str] es)),.s (.ro (.ad [.str,.int .i64] (aa bs)))] 73,.dead,.dead,.dead,.dead,.own [.s (.bool (bK l es (aa bs))),.vec 5,.vec 6] 73,.own [.s (.bool (bK l es (aa bs))),.vec 7,.vec 8] 73,.own [.s (.str (bG th m fu fr fs (bK l es (aa bs)) (aZ l es (aa bs)) (bc l es (aa bs))).snd.snd.snd.snd.fst.fst),.s (.int .i64 (bG th m fu fr fs (bK l es (aa bs)) (aZ l es (aa bs)) (bc l es (aa bs))).snd.snd.snd.snd.fst.snd.fst)] 79,
                                                   .own [.s (.str (bG th (bG th m fu fr fs (bK l es (aa bs)) (aZ l es (aa bs)) (bc l es (aa bs))).fst (bG th m fu fr fs (bK l es (aa bs)) (aZ l es (aa bs)) (bc l es (aa bs))).snd.fst (bG th m fu fr fs (bK l es (aa bs)) (aZ l es (aa bs)) (bc l es (aa bs))).snd.snd.fst (bG th m fu fr fs (bK l es (aa bs)) (aZ l es (aa bs)) (bc l es (aa bs))).snd.snd.snd.fst (bK l es (aa bs)) (cP l es (aa bs)) (cW l es (aa bs))).snd.snd.snd.snd.fst.fst),.s (.int .i64 (bG th (bG th m fu fr fs (bK l es (aa bs)) (aZ l es (aa bs)) (bc l es (aa bs))).fst (bG th m fu fr fs (bK l es (aa bs)) (aZ l es (aa bs)) (bc l es (aa bs))).snd.fst (bG th m fu fr fs (bK l es (aa bs)) (aZ l es (aa bs)) (bc l es (aa bs))).snd.snd.fst (bG th m fu fr fs (bK l es (aa bs)) (aZ l es (aa bs)) (bc l es (aa bs))).snd.snd.snd.fst (bK l es (aa bs)) (cP l es (aa bs)) (cW l es (aa bs))).snd.snd.snd.snd.fst.snd.fst)] 79,.vec (.ad [.str,.int .i64] [((bG th m fu fr fs (bK l es (aa bs)) (aZ l es (aa bs)) (bc l es (aa bs))).snd.snd.snd.snd.fst.fst,(bG th m fu fr fs (bK l es (aa bs)) (aZ l es (aa bs)) (bc l es (aa bs))).snd.snd.snd.snd.fst.snd.fst,()),((bG th (bG th m fu fr fs (bK l es (aa bs)) (aZ l es (aa bs)) (bc l es (aa bs))).fst (bG th m fu fr fs (bK l es (aa bs)) (aZ l es (aa bs)) (bc l es (aa bs))).snd.fst (bG th m fu fr fs (bK l es (aa bs)) (aZ l es (aa bs)) (bc l es (aa bs))).snd.snd.fst (bG th m fu fr fs (bK l es (aa bs)) (aZ l es (aa bs)) (bc l es (aa bs))).snd.snd.snd.fst (bK l es (aa bs)) (cP l es (aa bs)) (cW l es (aa bs))).snd.snd.snd.snd.fst.fst,(bG th (bG th m fu fr fs (bK l es (aa bs)) (aZ l es (aa bs)) (bc l es (aa bs))).fst (bG th m fu fr fs (bK l es (aa bs)) (aZ l es (aa bs)) (bc l es (aa bs))).snd.fst (bG th m fu fr fs (bK l es (aa bs)) (aZ l es (aa bs)) (bc l es (aa bs))).snd.snd.fst (bG th m fu fr fs (bK l es (aa bs)) (aZ l es (aa bs)) (bc l es (aa bs))).snd.snd.snd.fst (bK l es (aa bs)) (cP l es (aa bs)) (cW l es (aa bs))).snd.snd.snd.snd.fst.snd.fst,())]) 79]
                                                 (.bp [.vec 13,.s (.int .i64 (bG th (bG th m fu fr fs (bK l es (aa bs)) (aZ l es (aa bs)) (bc l es (aa bs))).fst (bG th m fu fr fs (bK l es (aa bs)) (aZ l es (aa bs)) (bc l es (aa bs))).snd.fst (bG th m fu fr fs (bK l es (aa bs)) (aZ l es (aa bs)) (bc l es (aa bs))).snd.snd.fst (bG th m fu fr fs (bK l es (aa bs)) (aZ l es (aa bs)) (bc l es (aa bs))).snd.snd.snd.fst (bK l es (aa bs)) (cP l es (aa bs)) (cW l es (aa bs))).snd.snd.snd.snd.snd)]))))))))))))))))))))))))):=by kernel_rfl
abbrev zC(l:Bool)(es:List En)(bs:List Br):Prop:=(l=true→bs=[])∧(l=false→es=[])
abbrev sWs:Spec (XT×Bool×List En×List Br):=⟨fun(_,l,es,bs)=>[.ptr 0 0,avN l es bs],fun((th,m,fu,root,fr,fs,gn),_)=>hT th m fu root fr fs gn,
 fun((th,m,fu,_,fr,_,_),l,es,bs)=>[Ds.bU th m fu,Bx.okW fr,zC l es bs,a8 es,ba bs],
 fun((th,m,fu,root,fr,fs,gn),l,es,bs)=>hT th (bo th m fu fr fs l es bs).1 (bo th m fu fr fs l es bs).2.1 root (bo th m fu fr fs l es bs).2.2.1 (bo th m fu fr fs l es bs).2.2.2.1 gn++[.vec (.ad cB (bo th m fu fr fs l es bs).2.2.2.2.1) Lf.eB],
 fun((th,m,fu,_,fr,fs,_),l,es,bs)=>.bp [.vec 4,bO (bo th m fu fr fs l es bs).2.2.2.2.2]⟩
theorem zD{th:Th}{m:As}{fu:Int}{fr fs:Ws}{l:Bool}{es:List En}{bs:List Br}(hd:Ds.bU th m fu)(hf:Bx.okW fr):Ds.bU th (bG th m fu fr fs l es bs).1 (bG th m fu fr fs l es bs).2.1∧Bx.okW (bG th m fu fr fs l es bs).2.2.1:=by
 have gd:=Ds.ant (n:=Bx.bu fr 0) (s:=db l es (aa bs)) hd
 unfold bG
 split
 ·exact⟨hd,hf⟩
 ·split
  ·exact⟨hd,hf⟩
  ·split
   ·exact⟨gd,hf⟩
   ·exact⟨gd,(Bx.kx hf _).1⟩
theorem xW(bs:List Br):(aa bs).length=bs.length:=by cases bs<;>rfl
theorem ame{l:Bool}{es:List En}{bs:List Br}(ok:dz l es bs=true):(bK l es bs=true→0<(aZ l es bs).length∧0<(cP l es bs).length)∧(bK l es bs=false→0<(bc l es bs).length∧0<(cW l es bs).length):=by
 have ok':=ok
 simp only[dz,Bool.and_eq_true,decide_eq_true_eq]at ok'
 obtain⟨hm,h2⟩:=ok'
 obtain⟨m1,m2,_,_⟩:=dK hm
 have b1:=nn (aE es bs) (es.length+bs.length - 1) (by omega)
 have b2:=nQ (aE es bs) (es.length+bs.length - 1)
 have c:0<dN es bs∧dN es bs≤es.length+bs.length - 1:=⟨b1,b2⟩
 simp only[bK,aZ,cP,bc,cW,ok,if_true,Bool.true_and,List.length_take,List.length_drop]
 refine⟨fun e=> ?_,fun e=> ?_⟩
 ·have:=m1 e
  subst this
  simp only[List.length_nil]at *
  omega
 ·have:=m2 e
  subst this
  simp only[List.length_nil]at *
  omega
theorem ajx:anY.Ok P Bx.ct:=aH.Ok.cons ae7.uH (aH.Ok.cons aeO.sum (aH.Ok.cons (ig (ga (uS.sum mTN) 1 _) 1) (aH.Ok.cons aiZ.sum aH.Ok.nil)))
theorem jE:jU P Bx.ct 66 sWs:=by
 refine fE Tryd.func66 (by kernel_rfl) (fun x=>Nat.le_of_ble_eq_true (by kernel_rfl)) ?_
 rintro⟨⟨(th:Th),(m:As),(fu:Int),(root:Int),(fr:Ws),(fs:Ws),(gn:Ws)⟩,(l:Bool),(es:List En),(bs:List Br)⟩ ⟨(hd:Ds.bU th m fu),(hf:Bx.okW fr),⟨(hl1:l=true→bs=[]),(xd:l=false→es=[])⟩,(he:a8 es),(hb:ba bs),_⟩ X hX hz
 have fin:∀{w:Wrs},bo th m fu fr fs l es bs=w→hT th (bo th m fu fr fs l es bs).1 (bo th m fu fr fs l es bs).2.1 root (bo th m fu fr fs l es bs).2.2.1 (bo th m fu fr fs l es bs).2.2.2.1 gn++[.vec (.ad cB (bo th m fu fr fs l es bs).2.2.2.2.1) Lf.eB]=hT th w.1 w.2.1 root w.2.2.1 w.2.2.2.1 gn++[.vec (.ad cB w.2.2.2.2.1) Lf.eB]∧
  AV.bp [.vec 4,bO (bo th m fu fr fs l es bs).2.2.2.2.2]=.bp [.vec 4,bO w.2.2.2.2.2]:=fun e=>by rw[e];exact⟨rfl,rfl⟩
 have hbb:=su hb
 refine Ds.eV hz hX (by intro y hy;cases hy) ajx Tryd.func66 (aul th m fu root fr fs gn l es bs) ⟨?_,fun h=> ?_,fun h=>⟨hb.1,he,hbb,fun h2=>⟨rfl,rfl,hd,hf, ?_,he,hbb, ?_⟩,fun h2=>⟨he,hbb,fun h3=> ?_,fun h3=> ?_⟩⟩⟩
 ·have:=he.1;have:=hb.1;exact⟨by omega,by omega⟩
 ·have h:(es.length:Int)+bs.length=0:=by simpa using h
  obtain⟨f1,f2⟩:=fin (w:=(m,fu,fr,fs,[],0)) (by unfold bo;rw[if_pos (by omega)])
  exact kf ⟨[(0,.ad cB [],Lf.eB)],[0,1],4,[]⟩ rfl (Nat.le_refl _) (oz.same _) f2 f1
 ·have h:¬((es.length:Int)+bs.length=0):=by simpa using h
  rw[xW]
  refine⟨fun e=>Nat.pos_of_ne_zero fun h0=>h ?_,fun e=>Nat.pos_of_ne_zero fun h0=>h ?_⟩
  ·rw[hl1 e,h0];rfl
  ·rw[xd e,h0];rfl
 ·have h:¬((es.length:Int)+bs.length=0):=by simpa using h
  have h2:=of_decide_eq_true h2
  obtain⟨f1,f2⟩:=fin (w:=((bG th m fu fr fs l es (aa bs)).1,(bG th m fu fr fs l es (aa bs)).2.1,(bG th m fu fr fs l es (aa bs)).2.2.1,(bG th m fu fr fs l es (aa bs)).2.2.2.1,[(bG th m fu fr fs l es (aa bs)).2.2.2.2.1],(bG th m fu fr fs l es (aa bs)).2.2.2.2.2)) (by unfold bo;rw[if_neg (by omega),if_pos h2])
  exact kf ⟨[],[0,1],4,[]⟩ rfl (Nat.le_refl _) (oz.same _) f2 f1
 ·have h:¬((es.length:Int)+bs.length=0):=by simpa using h
  have h2:=of_decide_eq_false h2
  have h3:spC l es (aa bs)≠0:=by simpa using h3
  obtain⟨f1,f2⟩:=fin (w:=(m,fu,fr,fs,[],spC l es (aa bs))) (by unfold bo;rw[if_neg (by omega),if_neg h2,if_pos h3])
  exact kf ⟨[(0,.ad cB [],Lf.eB)],[0,1],4,[]⟩ rfl (Nat.le_refl _) (oz.same _) f2 f1
 ·have h:¬((es.length:Int)+bs.length=0):=by simpa using h
  have h2:=of_decide_eq_false h2
  have h3:spC l es (aa bs)=0:=by simpa using h3
  have ok:=aqa (l:=l) (es:=es) (bs:=aa bs) (by rw[h3];rfl)
  obtain⟨q1,q2,q3,q4,_,_,_,q5,q6,_,_⟩:=rH ok he hbb
  have hmn:c9 l es (aa bs)=true:=by
   simp only[dz,Bool.and_eq_true]at ok
   exact ok.1
  have zR:bK l es (aa bs)=l:=by unfold bK;rw[ok,Bool.true_and]
  obtain⟨p1,p2⟩:=ame ok
  have n1:(bK l es (aa bs)=true→0<(aZ l es (aa bs)).length)∧(bK l es (aa bs)=false→0<(bc l es (aa bs)).length):=⟨fun e=>(p1 e).1,fun e=>(p2 e).1⟩
  have n2:(bK l es (aa bs)=true→0<(cP l es (aa bs)).length)∧(bK l es (aa bs)=false→0<(cW l es (aa bs)).length):=⟨fun e=>(p1 e).2,fun e=>(p2 e).2⟩
  obtain⟨w1,w2⟩:=zD (fs:=fs) (l:=bK l es (aa bs)) (es:=aZ l es (aa bs)) (bs:=bc l es (aa bs)) hd hf
  refine⟨rfl,rfl,hd,hf,n1,q1,q2,fun h4=> ?_,fun h4=>⟨rfl,rfl,w1,w2,n2,q3,q4, ?_⟩⟩
  ·have h4:(bG th m fu fr fs (bK l es (aa bs)) (aZ l es (aa bs)) (bc l es (aa bs))).2.2.2.2.2≠0:=by simpa using h4
   obtain⟨f1,f2⟩:=fin (w:=((bG th m fu fr fs (bK l es (aa bs)) (aZ l es (aa bs)) (bc l es (aa bs))).1,(bG th m fu fr fs (bK l es (aa bs)) (aZ l es (aa bs)) (bc l es (aa bs))).2.1,(bG th m fu fr fs (bK l es (aa bs)) (aZ l es (aa bs)) (bc l es (aa bs))).2.2.1,(bG th m fu fr fs (bK l es (aa bs)) (aZ l es (aa bs)) (bc l es (aa bs))).2.2.2.1,[],(bG th m fu fr fs (bK l es (aa bs)) (aZ l es (aa bs)) (bc l es (aa bs))).2.2.2.2.2)) (by unfold bo;rw[if_neg (by omega),if_neg h2,if_neg (by rw[h3];simp),if_pos h4])
   exact kf ⟨[(0,.ad cB [],Lf.eB)],[0,1],4,[]⟩ rfl (Nat.le_refl _) (oz.same _) f2 f1
  ·have h4:¬(bG th m fu fr fs (bK l es (aa bs)) (aZ l es (aa bs)) (bc l es (aa bs))).2.2.2.2.2≠0:=by simpa using h4
   obtain⟨f1,f2⟩:=fin (w:=two (bG th m fu fr fs (bK l es (aa bs)) (aZ l es (aa bs)) (bc l es (aa bs))) (bG th (bG th m fu fr fs (bK l es (aa bs)) (aZ l es (aa bs)) (bc l es (aa bs))).1 (bG th m fu fr fs (bK l es (aa bs)) (aZ l es (aa bs)) (bc l es (aa bs))).2.1 (bG th m fu fr fs (bK l es (aa bs)) (aZ l es (aa bs)) (bc l es (aa bs))).2.2.1 (bG th m fu fr fs (bK l es (aa bs)) (aZ l es (aa bs)) (bc l es (aa bs))).2.2.2.1 (bK l es (aa bs)) (cP l es (aa bs)) (cW l es (aa bs)))) (by unfold bo;rw[if_neg (by omega),if_neg h2,if_neg (by rw[h3];simp),if_neg h4])
   exact kf ⟨[],[0,1],4,[]⟩ rfl (Nat.le_refl _) (oz.same _) f2 f1
end Ts
