/- Lemmas: L5, L6, L7, Lm, R4, R6, R7, R8, SxRoom, R9, R10, Bx1, Bx2, Bx3, Bx4, Bx5, Bx6, M0, Bx7, L7r, SxWeak, N1, N2, N3, N4, Rp, Hq, M1, N5, SxTup, N6. -/
import Derived.Test.YtcjldfgkonfocaaDoorProg
import Derived.Lib.TrailingZeros
import Derived.Shelf.Spec.TrailingZeros
import Derived.Test.YtcjldfgkonfocaaDoorRows
import Derived.WalkKit
import Derived.WalkSpells
import Derived.WalkLawsBesides
import Derived.Test.YtcjldfgkonfocaaDoorPC
namespace Lf
open Go Go.Sx Go.Proofs
def zq(s:ByteArray):List Int:=s.data.toList.map fun b=>(b.toNat:Int)
def xN(s:ByteArray):List Int:=IntKind.u8.wrap (s.size:Int)::zq s
abbrev arF:Type:=ByteArray×List Int
def abd:Spec arF:=⟨fun x=>[.s (.str x.1),.ptr 0 0],fun x=>[.own [.vec 1] 58,.vec (.ints .u8 x.2) 5],fun x=>[x.2.length≤100000000,x.1.size≤1000000],fun x=>[.own [.vec 2] 58,.dead,.vec (.ints .u8 (x.2++xN x.1)) 5],fun _=>.bm []⟩
def anL:List AV→RM (arF×List Nat)
 |[.s (.str s),.ptr id 0]=>.look id fun
  |some (.own [.vec j] _)=>.look j fun
   |some (.vec (.ints .u8 zs) _)=>.ret ((s,zs),[id,j])
   |_=>.fail "enc1: no bytes"
  |_=>.fail "enc1: no box"
 |_=>.fail "enc1"
theorem aiN(s:ByteArray)(zs:List Int):run P kI.sum Tryd.f104 [] (start Tryd.f104 [.s (.str s),.ptr 0 0] [.own [.vec 1] 58,.vec (.ints .u8 zs) 5])=
 Tree.need ((zs.length+(1:Nat))*(1:Nat)≤(140737488355328:Nat)) (Tree.need (((zs++[IntKind.u8.wrap (↑s.size:Int)]).length+(List.map (fun(b:UInt8)=>(↑b.toNat:Int)) s.data.toList).length)*(1:Nat)≤(140737488355328:Nat)) (Tree.ret [ae.own [AV.vec (4:Nat)] (58:Nat),ae.dead,ae.vec (aF.ints IntKind.u8 [IntKind.u8.wrap (↑s.size:Int)]) (5:Nat),ae.dead,ae.vec (aF.ints IntKind.u8 (zs++[IntKind.u8.wrap (↑s.size:Int)]++List.map (fun(b:UInt8)=>(↑b.toNat:Int)) s.data.toList)) (5:Nat)] (AV.bm []))):=by kernel_rfl
abbrev apy:=bW [ei] [cf] (fun _=>[]) (fun((l,es,bs,()),())=>(cT l es bs,()))
abbrev anM:=bW [ei] [cf] (fun((_,es,bs,()),())=>[aY es,aZ bs]) (fun((_,es,bs,()),())=>(decide (ba es bs≤254),()))
def u6:aH:=[(76,apy),(82,anM),(104,dJ abd anL)]
def aeR:List (Nat×Norm):=[(8,⟨[],[1,4],0,[]⟩),(10,⟨[],[1,4,5,25,26,27],0,[]⟩),(16,⟨[],[4,5,41,42,43],0,[]⟩)]
noncomputable def anN(l:Bool)(es:List En)(bs:List Br)(zs:List Int):bx:=⟨sl 64 [(1,.ptr 0 0),(4,.ptr 1 0)],[obN l es bs 73,.own [.vec 2] 58,.vec (.ints .u8 zs) 5],hr Tryd.f96 8,{}⟩
noncomputable def anO(l:Bool)(es:List En)(bs:List Br)(zs:List Int)(i:Int):bx:=⟨sl 64 [(1,.ptr 0 0),(4,.ptr 1 0),(5,.fn 104 [.ptr 1 0]),(25,.s (.ro (.ad cE es))),(26,.s (.int .i64 (es.length:Int))),(27,.s (.int .i64 i))],[obN l es bs 73,.own [.vec 2] 58,.vec (.ints .u8 zs) 5],hd Tryd.f96 10,{}⟩
noncomputable def anP(bs:List Br)(zs:List Int)(i:Int):bx:=⟨sl 64 [(4,.ptr 0 0),(5,.fn 104 [.ptr 0 0]),(41,.s (.ro (.ad cB bs))),(42,.s (.int .i64 (bs.length:Int))),(43,.s (.int .i64 i))],[.own [.vec 1] 58,.vec (.ints .u8 zs) 5],hd Tryd.f96 16,{}⟩
theorem alr(l:Bool)(es:List En)(bs:List Br):run P u6.sum Tryd.f96 aeR (start Tryd.f96 [avN l es bs] [])=
 Tree.ite (!cT l es bs) (.ret [.own [.s (.bool l),.s (.ro (.ad [.str,.str] es)),.s (.ro (.ad [.str,.int .i64] bs))] 73] (.bm [.s (.str ByteArray.empty),.s (.bc .i64 4)])) (.need (aY es) (.need (aZ bs) (.ite (!decide (ba es bs≤254)) (.ret [.own [.s (.bool l),.s (.ro (.ad [.str,.str] es)),.s (.ro (.ad [.str,.int .i64] bs))] 73] (.bm [.s (.str ByteArray.empty),.s (.bc .i64 40)])) (.ite l (.need ((0:Int)≤0) (.need ((0:Int)<(↑(1:Nat):Int)) (.at (.mk (sl 64 [(1,.ptr 0 0),(4,.ptr 1 0)]) [.own [.s (.bool l),.s (.ro (.ad [.str,.str] es)),.s (.ro (.ad [.str,.int .i64] bs))] 73,.own [.vec 2] 58,.vec (.ints .u8 ([(2:Int)].set 0 1)) 5] (hr Tryd.f96 8) (.mk none false 0 [] 0))))) (.at (.mk (sl 64 [(1,.ptr 0 0),(4,.ptr 1 0)]) [.own [.s (.bool l),.s (.ro (.ad [.str,.str] es)),.s (.ro (.ad [.str,.int .i64] bs))] 73,.own [.vec 2] 58,.vec (.ints .u8 [(2:Int)]) 5] (hr Tryd.f96 8) (.mk none false 0 [] 0))))))):=by kernel_rfl
theorem als(l:Bool)(es:List En)(bs:List Br)(zs:List Int):run P u6.sum Tryd.f96 aeR (anN l es bs zs)=
 Tree.at (.mk (sl 64 [(1,.ptr 0 0),(4,.ptr 1 0),(5,.fn 104 [.ptr 1 0]),(25,.s (.ro (.ad [.str,.str] es))),(26,.s (.int .i64 (↑es.length:Int))),(27,.s (.int .i64 0))]) [.own [.s (.bool l),.s (.ro (.ad [.str,.str] es)),.s (.ro (.ad [.str,.int .i64] bs))] 73,.own [.vec 2] 58,.vec (.ints .u8 zs) 5] (hd Tryd.f96 10) (.mk none false 0 [] 0)):=by kernel_rfl
theorem abe(l:Bool)(es:List En)(bs:List Br)(zs:List Int)(i:Int):run P u6.sum Tryd.f96 aeR (anO l es bs zs i)=
 Tree.ite (decide (i<(↑es.length:Int))) (.need ((0:Int)≤i) (.need (i<(↑es.length:Int)) (.need (bK (some [AV.s (.str (es.getD i.toNat (CL.d [.str,.str])).fst),.ptr 0 0])) (.need (bK (some [ae.own [.vec 1] 58,.vec (.ints .u8 zs) 5])) (.need (zs.length≤100000000) (.need (ByteArray.size (es.getD i.toNat (CL.d [.str,.str])).fst≤1000000) (.need (bK (some [AV.s (.str (es.getD i.toNat (CL.d [.str,.str])).snd.fst),.ptr 0 0])) (.need (bK (some [ae.own [.vec 1] 58,.vec (.ints .u8 (zs++xN (es.getD i.toNat (CL.d [.str,.str])).fst)) 5])) (.need ((zs++xN (es.getD i.toNat (CL.d [.str,.str])).fst).length≤100000000) (.need (ByteArray.size (es.getD i.toNat (CL.d [.str,.str])).snd.fst≤1000000) (.need (ax (i+1)) (.at (.mk (sl 64 [(1,.ptr 0 0),(4,.ptr 1 0),(5,.fn 104 [.ptr 1 0]),(25,.s (.ro (.ad [.str,.str] es))),(26,.s (.int .i64 (↑es.length:Int))),(27,.s (.int .i64 (i+1)))]) [.own [.s (.bool l),.s (.ro (.ad [.str,.str] es)),.s (.ro (.ad [.str,.int .i64] bs))] 73,.own [.vec 2] 58,.vec (.ints .u8 (zs++xN (es.getD i.toNat (CL.d [.str,.str])).fst++xN (es.getD i.toNat (CL.d [.str,.str])).snd.fst)) 5] (hd Tryd.f96 10) (.mk none false 0 [] 0)))))))))))))) (.at (.mk (sl 64 [(4,.ptr 0 0),(5,.fn 104 [.ptr 0 0]),(41,.s (.ro (.ad [.str,.int .i64] bs))),(42,.s (.int .i64 (↑bs.length:Int))),(43,.s (.int .i64 0))]) [.own [.vec 1] 58,.vec (.ints .u8 zs) 5] (hd Tryd.f96 16) (.mk none false 0 [] 0))):=by kernel_rfl
theorem abf(bs:List Br)(zs:List Int)(i:Int):run P u6.sum Tryd.f96 aeR (anP bs zs i)=
 Tree.ite (decide (i<(↑bs.length:Int))) (Tree.need ((0:Int)≤i) (Tree.need (i<(↑bs.length:Int)) (Tree.need (bK (some [AV.s (SV.str (bs.getD i.toNat (CL.d [CK.str,CK.int IntKind.i64])).fst),AV.ptr (0:Nat) (0:Nat)])) (Tree.need (bK (some [ae.own [AV.vec (1:Nat)] (58:Nat),ae.vec (aF.ints IntKind.u8 zs) (5:Nat)])) (Tree.need (zs.length≤(100000000:Nat)) (Tree.need (ByteArray.size (bs.getD i.toNat (CL.d [CK.str,CK.int IntKind.i64])).fst≤(1000000:Nat)) (Tree.need ((0:Int)≤(8:Int)) (Tree.need (((zs++xN (bs.getD i.toNat (CL.d [CK.str,CK.int IntKind.i64])).fst).length+(2:Nat))*(1:Nat)≤(140737488355328:Nat)) (Tree.need (ax (i+(1:Int))) (Tree.at (bx.mk (sl (64:Nat) [((4:Nat),AV.ptr (0:Nat) (0:Nat)),((5:Nat),AV.fn (104:Nat) [AV.ptr (0:Nat) (0:Nat)]),((41:Nat),AV.s (SV.ro (aF.ad [CK.str,CK.int IntKind.i64] bs))),((42:Nat),AV.s (SV.int IntKind.i64 (↑bs.length:Int))),((43:Nat),AV.s (SV.int IntKind.i64 (i+(1:Int))))]) [ae.own [AV.vec (1:Nat)] (58:Nat),ae.vec (aF.ints IntKind.u8 (zs++xN (bs.getD i.toNat (CL.d [CK.str,CK.int IntKind.i64])).fst++[IntKind.u8.wrap (Int.fdiv (bs.getD i.toNat (CL.d [CK.str,CK.int IntKind.i64])).snd.fst ((2:Int)^min (Int.toNat (8:Int)) IntKind.i64.bits)),IntKind.u8.wrap (bs.getD i.toNat (CL.d [CK.str,CK.int IntKind.i64])).snd.fst])) (5:Nat)] (hd Tryd.f96 (16:Nat)) (mj.mk none false (0:Nat) [] (0:Nat))))))))))))) (Tree.ret [ae.own [AV.vec (1:Nat)] (58:Nat),ae.vec (aF.ints IntKind.u8 zs) (5:Nat)] (AV.bm [AV.s (SV.str (aL zs)),AV.s (SV.bc IntKind.i64 (0:Int))])):=by kernel_rfl
theorem eH{Z:a8}{X:Ctx}{t:aH}{f:FuncId}{fn:Func}{ns:List (Nat×Norm)}{c:bx}{tr:Tree}{K:List ae→AV→Prop}{L:List ae}(hz:dP Z X)(hX:X.H=lk L)(hm:∀x∈ns,L.length≤x.2.m)(hT:t.Ok P Z)(hf:P.funcs[f]? =some fn)
 (e:run P t.sum fn ns c=tr) (h:tr.aM K (Safe P f X K)):Safe P f X K c:=b7 (aH.sOk hT) hz mixed hf (fun x hx id de=>by rw[hX];exact List.getElem?_eq_none (Nat.le_trans (hm x hx) de)) e h
theorem alu{Z:a8}:ke P Z 104 abd:=by
 refine aR Tryd.func104 (by kernel_rfl) (fun x=>Nat.le_of_ble_eq_true (by kernel_rfl)) ?_
 rintro⟨(s:ByteArray),(zs:List Int)⟩ ⟨(h1:zs.length≤100000000),(h2:s.size≤1000000),_⟩ X hX hz
 have hs:s.data.toList.length=s.size:=Array.length_toList
 refine eH hz hX (by simp) aH.Ok.nil Tryd.func104 (aiN s zs) ⟨by omega,by simp only[List.length_append,List.length_map,List.length_singleton];omega,⟨[],[0],2,[]⟩,Nat.le_refl _, ?_⟩
 have e:zs++xN s=zs++[IntKind.u8.wrap (s.size:Int)]++zq s:=by simp[xN]
 show Norm.run _ _=some ⟨[AV.bm []],[.own [.vec 2] 58,.dead,.vec (.ints .u8 (zs++xN s)) 5],[],{}⟩
 rw[e]
 kernel_rfl
def nb(x:En):List Int:=xN x.1++xN x.2.1
def sO(x:Br):List Int:=xN x.1++[IntKind.u8.wrap (Int.fdiv x.2.1 (2^min (Int.toNat 8) IntKind.i64.bits)),IntKind.u8.wrap x.2.1]
def wI(l:Bool):List Int:=[if l=true then 1 else 2]
def nc(l:Bool)(es:List En)(bs:List Br):List Int:=wI l++es.flatMap nb++bs.flatMap sO
def abg(l:Bool)(es:List En)(bs:List Br):Bool:=cT l es bs&&decide (ba es bs≤254)
def cU(l:Bool)(es:List En)(bs:List Br):ByteArray:=if abg l es bs=true then aL (nc l es bs)else ByteArray.empty
def gI(l:Bool)(es:List En)(bs:List Br):Int:=if cT l es bs=true then(if ba es bs≤254 then 0 else 40)else 4
theorem lY(s:ByteArray):(xN s).length=s.size+1:=by
 have hs:s.data.toList.length=s.size:=Array.length_toList
 simp[xN,zq,hs]
theorem xO{α β:Type}{l:List α}{k:Nat}{d:α}(f:α→List β)(h:k<l.length):(l.take k).flatMap f++f (l.getD k d)=(l.take (k+1)).flatMap f:=by
 rw[←jx (d:=d) h,List.flatMap_append];simp
theorem ql{α β:Type}(f:α→List β)(m:Nat):∀{l:List α},(∀x∈l,(f x).length≤m)→(l.flatMap f).length≤m*l.length
 |[],_=>by simp
 |x::l,h=>by
  have h1:=h x (by simp)
  have h2:=ql f m (l:=l) (fun y hy=>h y (by simp[hy]))
  simp only[List.flatMap_cons,List.length_append,List.length_cons,Nat.mul_add]
  omega
theorem abh{x:En}(h:x.1.size≤1000∧x.2.1.size≤1000):(nb x).length≤2002:=by
 simp only[nb,List.length_append,lY];omega
theorem aiO{x:Br}(h:x.1.size≤1000):(sO x).length≤1003:=by
 simp only[sO,List.length_append,lY,List.length_cons,List.length_nil];omega
theorem jy{Z:a8}:u6.Ok P Z:=aH.Ok.cons adk.sum (aH.Ok.cons aeQ.sum (aH.Ok.cons (alu.sum anL) aH.Ok.nil))
theorem agD{Z:a8}:dm P Z 96 [ei] [dD,bo] (fun((_,es,bs,()),())=>[aY es,aZ bs]) (fun((l,es,bs,()),())=>(cU l es bs,gI l es bs,())):=by
 refine au Tryd.func96 (by kernel_rfl) (by kernel_rfl) ?_
 rintro⟨⟨(l:Bool),(es:List En),(bs:List Br),⟨⟩⟩,⟨⟩⟩ _ ⟨(he:aY es),(hb:aZ bs),_⟩ X hX hz
 have he1:=he.1
 have hb1:=hb.1
 show Safe P 96 X (Ends [dD,bo] (cU l es bs,gI l es bs,())) _
 have second:cU l es bs=aL (nc l es bs)→gI l es bs=0→∀(n k:Nat),k+n=bs.length→Safe P 96 X (Ends [dD,bo] (cU l es bs,gI l es bs,())) (anP bs (wI l++es.flatMap nb++(bs.take k).flatMap sO) (k:Int)):=by
  intro hS hN n
  induction n with
  |zero=>
   intro k hk
   refine go hz hX jy Tryd.func96 (abf bs _ k) ⟨fun h=>absurd (of_decide_eq_true h) (by omega),fun h=> ?_⟩
   rw[List.take_of_length_le (by omega),hS,hN]
   exact zj
  |succ n ih=>
   intro k hk
   have bF:=u5 hb k
   have hl1:(es.flatMap nb).length≤2002*es.length:=ql nb 2002 (fun x hx=>abh (he.2 x hx))
   have xi:((bs.take k).flatMap sO).length≤1003*(bs.take k).length:=ql sO 1003 (fun x hx=>aiO (hb.2 x (List.mem_of_mem_take hx)))
   have hl3:(bs.take k).length≤1000:=by rw[List.length_take];omega
   have hl:(wI l++es.flatMap nb++(bs.take k).flatMap sO).length≤4000000:=by
    simp only[List.length_append,wI,List.length_singleton];omega
   refine go hz hX jy Tryd.func96 (abf bs _ k) ?_
   simp only[Int.toNat_natCast]
   refine⟨fun h=>⟨by omega,by omega,trivial,trivial,by omega, ?_,by decide, ?_,⟨by omega,by omega⟩, ?_⟩,fun h=>absurd (of_decide_eq_false h) (by omega)⟩
   ·show(bs.getD k dB).1.size≤1000000
    omega
   ·rw[List.length_append,lY]
    show(_+((bs.getD k dB).1.size+1)+2)*1≤_
    omega
   ·have:=ih (k+1) (by omega)
    rw[←xO (d:=dB) sO (by omega),←List.append_assoc]at this
    rw[List.append_assoc (wI l++es.flatMap nb++(bs.take k).flatMap sO)]
    exact this
 have first:cU l es bs=aL (nc l es bs)→gI l es bs=0→∀(n k:Nat),k+n=es.length→Safe P 96 X (Ends [dD,bo] (cU l es bs,gI l es bs,())) (anO l es bs (wI l++(es.take k).flatMap nb) (k:Int)):=by
  intro hS hN n
  induction n with
  |zero=>
   intro k hk
   refine go hz hX jy Tryd.func96 (abe l es bs _ k) ⟨fun h=>absurd (of_decide_eq_true h) (by omega),fun h=> ?_⟩
   rw[List.take_of_length_le (by omega)]
   have:=second hS hN bs.length 0 (by omega)
   simp only[List.take_zero,List.flatMap_nil,List.append_nil]at this
   exact this
  |succ n ih=>
   intro k hk
   obtain⟨hs1,hs2⟩:=u4 he k
   have xi:((es.take k).flatMap nb).length≤2002*(es.take k).length:=ql nb 2002 (fun x hx=>abh (he.2 x (List.mem_of_mem_take hx)))
   have hl3:(es.take k).length≤1000:=by rw[List.length_take];omega
   have hl:(wI l++(es.take k).flatMap nb).length≤4000000:=by
    simp only[List.length_append,wI,List.length_singleton];omega
   refine go hz hX jy Tryd.func96 (abe l es bs _ k) ?_
   simp only[Int.toNat_natCast]
   refine⟨fun h=>⟨by omega,by omega,trivial,trivial,by omega, ?_,trivial,trivial, ?_, ?_,⟨by omega,by omega⟩, ?_⟩,fun h=>absurd (of_decide_eq_false h) (by omega)⟩
   ·show(es.getD k dE).1.size≤1000000
    omega
   ·rw[List.length_append,lY]
    show _+((es.getD k dE).1.size+1)≤_
    omega
   ·show(es.getD k dE).2.1.size≤1000000
    omega
   ·have:=ih (k+1) (by omega)
    rw[←xO (d:=dE) nb (by omega),←List.append_assoc]at this
    rw[List.append_assoc (wI l++(es.take k).flatMap nb)]
    exact this
 refine go hz hX jy Tryd.func96 (alr l es bs) ⟨fun h=> ?_,fun h=>⟨he,hb,fun h2=> ?_,fun h2=> ?_⟩⟩
 ·have h:cT l es bs=false:=by simpa using h
  have e1:cU l es bs=ByteArray.empty:=by simp[cU,abg,h]
  have e2:gI l es bs=4:=by simp[gI,h]
  rw[e1,e2];exact zj
 ·have h:cT l es bs=true:=by simpa using h
  have h2:¬ba es bs≤254:=by simpa using h2
  have e1:cU l es bs=ByteArray.empty:=by simp[cU,abg,h,h2]
  have e2:gI l es bs=40:=by simp[gI,h,h2]
  rw[e1,e2];exact zj
 ·have h:cT l es bs=true:=by simpa using h
  have h2:ba es bs≤254:=by simpa using h2
  have e1:cU l es bs=aL (nc l es bs):=by simp[cU,abg,h,h2]
  have e2:gI l es bs=0:=by simp[gI,h,h2]
  have st:Safe P 96 X (Ends [dD,bo] (cU l es bs,gI l es bs,())) (anN l es bs (wI l)):=by
   refine go hz hX jy Tryd.func96 (als l es bs _) ?_
   have:=first e1 e2 es.length 0 (by omega)
   simp only[List.take_zero,List.flatMap_nil,List.append_nil]at this
   exact this
  refine⟨fun h3=>⟨by decide,by decide, ?_⟩,fun h3=> ?_⟩
  ·subst h3;exact st
  ·subst h3;exact st
end Lf
namespace Lf
open Go Go.Sx Go.Proofs
theorem aiP{bs:List Br}(h:gm bs=true){i:Nat}(hi:i+1<bs.length):slt (bs.getD i dB).1 (bs.getD (i+1) dB).1=true:=by
 have:=cI.1 h (i+1) hi
 simp only[okB,Bool.not_eq_true',Bool.or_eq_false_iff,Bool.and_eq_false_iff,decide_eq_false_iff_not,Bool.not_eq_false']at this
 have h2:=this.2
 rcases h2 with h2|h2
 ·omega
 ·simpa using h2
theorem aiQ{es:List En}(h:jr es=true){i:Nat}(hi:i+1<es.length):slt (es.getD i dE).1 (es.getD (i+1) dE).1=true:=by
 have:=cI.1 h (i+1) hi
 simp only[okE,Bool.not_eq_true',Bool.or_eq_false_iff,Bool.and_eq_false_iff,decide_eq_false_iff_not,Bool.not_eq_false']at this
 have h2:=this.2
 rcases h2 with h2|h2
 ·omega
 ·simpa using h2
theorem sn{ks:List ByteArray}(h:∀i,i+1<ks.length→slt (ks.getD i ByteArray.empty) (ks.getD (i+1) ByteArray.empty)=true):gW ks:=by
 intro i j kb hj
 induction j with
 |zero=>omega
 |succ j ih=>
  by_cases he:i=j
  ·subst he;exact h i hj
  ·exact bT (ih (by omega) (by omega)) (h j hj)
theorem apz{bs:List Br}(h:gm bs=true):gW (l9 bs):=sn fun i hi=>by
 rw[List.length_map]at hi
 rw[cq bs agA dB,cq bs agA dB]
 exact aiP h hi
theorem arG{es:List En}(h:jr es=true):gW (bu es):=sn fun i hi=>by
 rw[List.length_map]at hi
 rw[cq es oY dE,cq es oY dE]
 exact aiQ h hi
theorem dA{l:Bool}{es:List En}{bs:List Br}(h:cT l es bs=true):(l=true→bs=[])∧(l=false→es=[])∧jr es=true∧gm bs=true:=by
 simp only[cT,Bool.and_eq_true,Bool.not_eq_true',Bool.or_eq_false_iff,Bool.and_eq_false_iff,decide_eq_false_iff_not]at h
 obtain⟨⟨⟨h1,h2⟩,h3⟩,h4⟩:=h
 refine⟨fun hl=> ?_,fun hl=> ?_,h3,h4⟩
 ·subst hl
  rcases h1 with h1|h1
  ·cases h1
  ·exact List.eq_nil_of_length_eq_zero (by omega)
 ·subst hl
  rcases h2 with h2|h2
  ·cases h2
  ·exact List.eq_nil_of_length_eq_zero (by omega)
theorem adp:∀{ks:List ByteArray} {key:ByteArray} {t:Nat},t<b8 ks key→slt (ks.getD t ByteArray.empty) key=true
 |[],key,t,h=>by simp[b8]at h
 |k::ks,key,t,h=>by
  simp only[b8,List.takeWhile]at h
  split at h
  ·rename_i hk
   cases t with
   |zero=>simpa using hk
   |succ t=>
    simp only[List.length_cons]at h
    simpa using adp (ks:=ks) (key:=key) (t:=t) (by simp only[b8];omega)
  ·simp at h
theorem adq:∀{ks:List ByteArray} {key:ByteArray},b8 ks key<ks.length→slt (ks.getD (b8 ks key) ByteArray.empty) key=false
 |[],key,h=>by simp at h
 |k::ks,key,h=>by
  by_cases hk:slt k key=true
  ·have e:b8 (k::ks) key=b8 ks key+1:=by simp[b8,List.takeWhile,hk]
   rw[e]at h ⊢
   simpa using adq (ks:=ks) (key:=key) (by simpa using h)
  ·have hk:slt k key=false:=by simpa using hk
   have e:b8 (k::ks) key=0:=by simp[b8,List.takeWhile,hk]
   rw[e]
   simpa using hk
theorem aiR{ks:List ByteArray}{key:ByteArray}(hs:gW ks){t:Nat}(h1:b8 ks key≤t)(h2:t<ks.length):slt (ks.getD t ByteArray.empty) key=false:=by
 have h:=adq (ks:=ks) (key:=key) (by omega)
 by_cases he:t=b8 ks key
 ·rw[he];exact h
 ·have h3:=hs (b8 ks key) t (by omega) h2
  cases h4:slt (ks.getD t ByteArray.empty) key
  ·rfl
  ·rw[bT h3 h4]at h;cases h
theorem js{ks:List ByteArray}{key:ByteArray}:jf ks key=true↔b8 ks key<ks.length∧ks.getD (b8 ks key) ByteArray.empty=key:=by
 simp only[jf,decide_eq_true_eq]
 constructor
 ·intro h
  have h1:=(List.getElem?_eq_some_iff.1 h).1
  exact⟨h1,by simp[List.getD,h]⟩
 ·rintro⟨h1,h2⟩
  rw[bd h1]at h2
  rw[List.getElem?_eq_getElem h1,h2]
theorem u7{ks:List ByteArray}{key:ByteArray}(hs:gW ks)(h0:ks≠[]):∃p:Nat,imax 0 (if jf ks key=true then(b8 ks key:Int)else(b8 ks key:Int) - 1)=(p:Int)∧p<ks.length∧
 (p=0∨slt key (ks.getD p ByteArray.empty)=false)∧(∀t,p<t→t<ks.length→slt key (ks.getD t ByteArray.empty)=true):=by
 have hlen:0<ks.length:=by
  cases ks with
  |nil=>exact absurd rfl h0
  |cons k ks=>simp
 have hle:=uY ks key
 have up:∀t,b8 ks key≤t→t<ks.length→ks.getD t ByteArray.empty≠key→slt key (ks.getD t ByteArray.empty)=true:=fun t h1 h2 h3=>uN (aiR hs h1 h2) h3
 by_cases hk:jf ks key=true
 ·obtain⟨h1,h2⟩:=js.1 hk
  rw[if_pos hk]
  refine⟨b8 ks key,by unfold imax;split<;>omega,h1,.inr (by rw[h2];exact dz key),fun t ht htl=> ?_⟩
  rw[←h2]
  have:=hs (b8 ks key) t ht htl
  rw[h2]at this ⊢
  exact this
 ·rw[if_neg hk]
  have b9:∀t,b8 ks key≤t→t<ks.length→ks.getD t ByteArray.empty≠key:=by
   intro t h1 h2 h3
   by_cases he:t=b8 ks key
   ·subst he;exact hk (js.2 ⟨h2,h3⟩)
   ·have h4:=hs (b8 ks key) t (by omega) h2
    rw[h3]at h4
    rw[adq (by omega)]at h4
    cases h4
  rcases Nat.eq_zero_or_pos (b8 ks key)with hz|hz
  ·refine⟨0,by rw[hz];rfl,hlen,.inl rfl,fun t ht htl=>up t (by omega) htl (b9 t (by omega) htl)⟩
  ·refine⟨b8 ks key - 1,by unfold imax;split<;>omega,by omega,.inr (ry (adp (by omega))),fun t ht htl=>up t (by omega) htl (b9 t (by omega) htl)⟩
end Lf
namespace Lf
open Go Go.Sx Go.Proofs
def arH(a b:List En):Bool:=decide (a=b)
def arI(a b:List Br):Bool:=decide (a=b)
def j7(k:Int)(s:ByteArray):ByteArray:=if k>(s.size:Int)then ByteArray.empty else s.extract 0 k.toNat
def so(k:Int)(s:ByteArray):Bool:= !decide (k>(s.size:Int))
def oo(k:Int)(s:ByteArray):ByteArray:=if k>(s.size:Int)then s else s.extract k.toNat s.size
def vd:Spec (Int×ByteArray):=⟨fun x=>[.s (.int .i64 x.1),.ptr 0 0],fun x=>[.own [.s (.str x.2)] 9],fun x=>[0≤x.1],fun x=>[.own [.s (.str (oo x.1 x.2))] 9],fun x=>.bm [.s (.str (j7 x.1 x.2)),.s (.bool (so x.1 x.2))]⟩
def aeS:List AV→RM ((Int×ByteArray)×List Nat)
 |[.s (.int .i64 k),.ptr id 0]=>.look id fun
  |some (.own [.s (.str s)] _)=>.ret ((k,s),[id])
  |_=>.fail "take: no text"
 |[.s (.bc .i64 k),.ptr id 0]=>.look id fun
  |some (.own [.s (.str s)] _)=>.ret ((k,s),[id])
  |_=>.fail "take: no text"
 |_=>.fail "take"
theorem aiS(k:Int)(s:ByteArray):run P kI.sum Tryd.f74 [] (start Tryd.f74 [.s (.int .i64 k),.ptr 0 0] [.own [.s (.str s)] 9])=
 Tree.ite (decide (k>(↑s.size:Int))) (.ret [.own [.s (.str s)] 9] (.bm [.s (.str ByteArray.empty),.s (.aI false)])) (.need ((0:Int)≤0) (.need ((0:Int)≤k) (.need (k≤(↑s.size:Int)) (.need ((0:Int)≤k) (.need (k≤(↑s.size:Int)) (.need ((↑s.size:Int)≤(↑s.size:Int)) (.ret [.own [.s (.str (s.extract k.toNat (↑s.size:Int).toNat))] 9] (.bm [.s (.str (s.extract (Int.toNat 0) k.toNat)),.s (.aI true)])))))))):=by kernel_rfl
def rdK(s:ByteArray):Int:=aV (j7 1 s) 0
def xP(s:ByteArray):ByteArray:=if so 1 s=true then j7 (rdK s) (oo 1 s)else ByteArray.empty
def wJ(s:ByteArray):Bool:=so 1 s&&so (rdK s) (oo 1 s)
def gT(s:ByteArray):ByteArray:=if so 1 s=true then oo (rdK s) (oo 1 s)else oo 1 s
def abi:Spec ByteArray:=⟨fun _=>[.ptr 0 0],fun s=>[.own [.fn 74 [.ptr 1 0]] 122,.own [.s (.str s)] 9],fun _=>[],fun s=>[.own [.fn 74 [.ptr 1 0]] 122,.own [.s (.str (gT s))] 9],fun s=>.bm [.s (.str (xP s)),.s (.bool (wJ s))]⟩
def anQ:List AV→RM (ByteArray×List Nat)
 |[.ptr id 0]=>.look id fun
  |some (.own [.fn _ [.ptr j 0]] _)=>.look j fun
   |some (.own [.s (.str s)] _)=>.ret (s,[id,j])
   |_=>.fail "text: no text"
  |_=>.fail "text: no take"
 |_=>.fail "text"
def aeT:aH:=[(74,dJ vd aeS)]
theorem aiT(s:ByteArray):run P aeT.sum Tryd.f75 [] (start Tryd.f75 [.ptr 0 0] [.own [.fn 74 [.ptr 1 0]] 122,.own [.s (.str s)] 9])=
 Tree.need (bK (some [AV.s (.int .i64 1),.ptr 0 0])) (.need (bK (some [ae.own [.s (.str s)] 9])) (.need ((0:Int)≤1) (.ite (!so 1 s) (.ret [.own [.fn 74 [.ptr 1 0]] 122,.own [.s (.str (oo 1 s))] 9] (.bm [.s (.str ByteArray.empty),.s (.aI false)])) (.need ((0:Int)≤0) (.need ((0:Int)<(↑(j7 1 s).size:Int)) (.need (ax (aV (j7 1 s) (Int.toNat 0))) (.need (bK (some [AV.s (.int .i64 (aV (j7 1 s) (Int.toNat 0))),.ptr 0 0])) (.need (bK (some [ae.own [.s (.str (oo 1 s))] 9])) (.need ((0:Int)≤aV (j7 1 s) (Int.toNat 0)) (.ret [.own [.fn 74 [.ptr 1 0]] 122,.own [.s (.str (oo (aV (j7 1 s) (Int.toNat 0)) (oo 1 s)))] 9] (.bm [.s (.str (j7 (aV (j7 1 s) (Int.toNat 0)) (oo 1 s))),.s (.bool (so (aV (j7 1 s) (Int.toNat 0)) (oo 1 s)))]))))))))))):=by kernel_rfl
def ve:aH:=[(74,dJ vd aeS),(75,dJ abi anQ),(76,apy)]
def aeU:List (Nat×Norm):=[(7,⟨[],[1,2],0,[]⟩),(11,⟨[],[1,2,4,5,6],0,[(2,1,false,.ad cE [],eE),(2,2,false,.ad cB [],eB)]⟩),(22,⟨[],[1,2,4,5,6,8],0,[]⟩)]
def obZ:ae:=.own [.s (.bool false),.emp,.emp] 73
noncomputable def anR(s:ByteArray):bx:=⟨sl 93 [(1,.ptr 0 0),(2,.ptr 1 0)],[.own [.s (.str s)] 9,obZ],hr Tryd.f57 7,{}⟩
noncomputable def arJ(s:ByteArray)(l:Bool)(es:List En)(bs:List Br):bx:=⟨sl 93 [(1,.ptr 0 0),(2,.ptr 1 0),(4,.ptr 2 0),(5,.ptr 3 0),(6,.fn 75 [.ptr 3 0])],[.own [.s (.str s)] 9,obZ,.own [.s (.bool l),.vec 4,.vec 5] 73,.own [.fn 74 [.ptr 0 0]] 122,.vec (.ad cE es) eE,.vec (.ad cB bs) eB],hd Tryd.f57 11,{}⟩
noncomputable def aiU(s:ByteArray)(l:Bool)(es:List En)(bs:List Br)(is:Bool):bx:=⟨sl 93 [(1,.ptr 0 0),(2,.ptr 1 0),(4,.ptr 2 0),(5,.ptr 3 0),(6,.fn 75 [.ptr 3 0]),(8,.s (.bool is))],[.own [.s (.str s)] 9,obZ,.own [.s (.bool l),.vec 4,.vec 5] 73,.own [.fn 74 [.ptr 0 0]] 122,.vec (.ad cE es) eE,.vec (.ad cB bs) eB],hr Tryd.f57 22,{}⟩
theorem alv(s:ByteArray):run P ve.sum Tryd.f57 aeU (start Tryd.f57 [.s (.str s)] [])=
 Tree.ite (decide ((↑s.size:Int)>254)) (.ret [.own [.s (.str s)] 9,.own [.s (.aI false),.emp,.emp] 73] (.bm [.agg [.s (.aI false),.emp,.emp],.s (.bc .i64 40)])) (.ite (decide (s=ByteArray.empty)) (.ret [.own [.s (.str s)] 9,.own [.s (.aI false),.emp,.emp] 73] (.bm [.agg [.s (.aI false),.emp,.emp],.s (.bc .i64 8)])) (.need ((0:Int)≤0) (.need ((0:Int)<(↑s.size:Int)) (.ite (aV s (Int.toNat 0) !=1) (.need ((0:Int)≤0) (.need ((0:Int)<(↑s.size:Int)) (.ite (aV s (Int.toNat 0) !=2) (.ret [.own [.s (.str s)] 9,.own [.s (.aI false),.emp,.emp] 73] (.bm [.agg [.s (.aI false),.emp,.emp],.s (.bc .i64 4)])) (.at (.mk (sl 93 [(1,.ptr 0 0),(2,.ptr 1 0)]) [.own [.s (.str s)] 9,.own [.s (.bool false),.emp,.emp] 73] (hr Tryd.f57 7) (.mk none false 0 [] 0)))))) (.at (.mk (sl 93 [(1,.ptr 0 0),(2,.ptr 1 0)]) [.own [.s (.str s)] 9,.own [.s (.bool false),.emp,.emp] 73] (hr Tryd.f57 7) (.mk none false 0 [] 0))))))):=by kernel_rfl
theorem aiV(s:ByteArray):run P ve.sum Tryd.f57 aeU (anR s)=
 Tree.need ((0:Int)≤0) (.need ((0:Int)<(↑s.size:Int)) (.need ((0:Int)≤1) (.need ((1:Int)≤(↑s.size:Int)) (.need ((↑s.size:Int)≤(↑s.size:Int)) (.at (.mk (sl 93 [(1,.ptr 0 0),(2,.ptr 1 0),(4,.ptr 2 0),(5,.ptr 3 0),(6,.fn 75 [.ptr 3 0])]) [.own [.s (.str (s.extract (Int.toNat 1) (↑s.size:Int).toNat))] 9,.own [.s (.bool false),.emp,.emp] 73,.own [.s (.bool (aV s (Int.toNat 0)==1)),.vec 4,.vec 5] 73,.own [.fn 74 [.ptr 0 0]] 122,.vec (.ad [.str,.str] []) 34,.vec (.ad [.str,.int .i64] []) 79] (hd Tryd.f57 11) (.mk none false 0 [] 0))))))):=by kernel_rfl
theorem aeV(s:ByteArray)(l:Bool)(es:List En)(bs:List Br):run P ve.sum Tryd.f57 aeU (arJ s l es bs)=
 Tree.ite (!decide (s=ByteArray.empty))
 (Tree.need (bK (some [AV.ptr (0:Nat) (0:Nat)]))
   (Tree.need (bK (some [ae.own [AV.fn (74:Nat) [AV.ptr (1:Nat) (0:Nat)]] (122:Nat),ae.own [AV.s (SV.str s)] (9:Nat)]))
     (Tree.ite l
       (Tree.ite (wJ s) (Tree.need (bK (some [AV.ptr (0:Nat) (0:Nat)])) (Tree.need (bK (some [ae.own [AV.fn (74:Nat) [AV.ptr (1:Nat) (0:Nat)]] (122:Nat),ae.own [AV.s (SV.str (gT s))] (9:Nat)])) (Tree.need ((es.length+(1:Nat))*(32:Nat)≤(140737488355328:Nat)) (Tree.at (bx.mk (sl (93:Nat) [((1:Nat),AV.ptr (0:Nat) (0:Nat)),((2:Nat),AV.ptr (1:Nat) (0:Nat)),((4:Nat),AV.ptr (2:Nat) (0:Nat)),((5:Nat),AV.ptr (3:Nat) (0:Nat)),((6:Nat),AV.fn (75:Nat) [AV.ptr (3:Nat) (0:Nat)]),((8:Nat),AV.s (SV.bool (wJ (gT s))))]) [ae.own [AV.s (SV.str (gT (gT s)))] (9:Nat),ae.own [AV.s (SV.bool false),AV.emp,AV.emp] (73:Nat),ae.own [AV.s (SV.bool l),AV.vec (4:Nat),AV.vec (5:Nat)] (73:Nat),ae.own [AV.fn (74:Nat) [AV.ptr (0:Nat) (0:Nat)]] (122:Nat),ae.vec (aF.ad [CK.str,CK.str] (es++[(xP s,xP (gT s),())])) (34:Nat),ae.vec (aF.ad [CK.str,CK.int IntKind.i64] bs) (79:Nat)] (hr Tryd.f57 (22:Nat)) (mj.mk none false (0:Nat) [] (0:Nat)))))))
         (Tree.ite (wJ s) (Tree.need (bK (some [AV.s (SV.int IntKind.i64 (2:Int)),AV.ptr (0:Nat) (0:Nat)])) (Tree.need (bK (some [ae.own [AV.s (SV.str (gT s))] (9:Nat)])) (Tree.need ((0:Int)≤(2:Int)) (Tree.ite (so (2:Int) (gT s)) (Tree.need ((0:Int)≤(0:Int)) (Tree.need ((0:Int)<(↑(j7 (2:Int) (gT s)).size:Int)) (Tree.need (ax (aV (j7 (2:Int) (gT s)) (Int.toNat (0:Int)))) (Tree.need ((0:Int)≤(8:Int)) (Tree.need ((0:Int)≤(1:Int)) (Tree.need ((1:Int)<(↑(j7 (2:Int) (gT s)).size:Int)) (Tree.need (ax (aV (j7 (2:Int) (gT s)) (Int.toNat (1:Int)))) (Tree.need ((bs.length+(1:Nat))*(24:Nat)≤(140737488355328:Nat)) (Tree.at (bx.mk (sl (93:Nat) [((1:Nat),AV.ptr (0:Nat) (0:Nat)),((2:Nat),AV.ptr (1:Nat) (0:Nat)),((4:Nat),AV.ptr (2:Nat) (0:Nat)),((5:Nat),AV.ptr (3:Nat) (0:Nat)),((6:Nat),AV.fn (75:Nat) [AV.ptr (3:Nat) (0:Nat)]),((8:Nat),AV.s (SV.bool (so (2:Int) (gT s))))]) [ae.own [AV.s (SV.str (oo (2:Int) (gT s)))] (9:Nat),ae.own [AV.s (SV.bool false),AV.emp,AV.emp] (73:Nat),ae.own [AV.s (SV.bool l),AV.vec (4:Nat),AV.vec (5:Nat)] (73:Nat),ae.own [AV.fn (74:Nat) [AV.ptr (0:Nat) (0:Nat)]] (122:Nat),ae.vec (aF.ad [CK.str,CK.str] es) (34:Nat),ae.vec (aF.ad [CK.str,CK.int IntKind.i64] (bs++[(xP s,bG BinOp.or IntKind.i64 (IntKind.i64.wrap (aV (j7 (2:Int) (gT s)) (Int.toNat (0:Int))*(2:Int)^min (Int.toNat (8:Int)) IntKind.i64.bits)) (aV (j7 (2:Int) (gT s)) (Int.toNat (1:Int))),())])) (79:Nat)] (hr Tryd.f57 (22:Nat)) (mj.mk none false (0:Nat) [] (0:Nat)))))))))))) (Tree.at (bx.mk (sl (93:Nat) [((1:Nat),AV.ptr (0:Nat) (0:Nat)),((2:Nat),AV.ptr (1:Nat) (0:Nat)),((4:Nat),AV.ptr (2:Nat) (0:Nat)),((5:Nat),AV.ptr (3:Nat) (0:Nat)),((6:Nat),AV.fn (75:Nat) [AV.ptr (3:Nat) (0:Nat)]),((8:Nat),AV.s (SV.bool (so (2:Int) (gT s))))]) [ae.own [AV.s (SV.str (oo (2:Int) (gT s)))] (9:Nat),ae.own [AV.s (SV.bool false),AV.emp,AV.emp] (73:Nat),ae.own [AV.s (SV.bool l),AV.vec (4:Nat),AV.vec (5:Nat)] (73:Nat),ae.own [AV.fn (74:Nat) [AV.ptr (0:Nat) (0:Nat)]] (122:Nat),ae.vec (aF.ad [CK.str,CK.str] es) (34:Nat),ae.vec (aF.ad [CK.str,CK.int IntKind.i64] bs) (79:Nat)] (hr Tryd.f57 (22:Nat)) (mj.mk none false (0:Nat) [] (0:Nat)))))))) (Tree.at (bx.mk (sl (93:Nat) [((1:Nat),AV.ptr (0:Nat) (0:Nat)),((2:Nat),AV.ptr (1:Nat) (0:Nat)),((4:Nat),AV.ptr (2:Nat) (0:Nat)),((5:Nat),AV.ptr (3:Nat) (0:Nat)),((6:Nat),AV.fn (75:Nat) [AV.ptr (3:Nat) (0:Nat)]),((8:Nat),AV.s (SV.bool (wJ s)))]) [ae.own [AV.s (SV.str (gT s))] (9:Nat),ae.own [AV.s (SV.bool false),AV.emp,AV.emp] (73:Nat),ae.own [AV.s (SV.bool l),AV.vec (4:Nat),AV.vec (5:Nat)] (73:Nat),ae.own [AV.fn (74:Nat) [AV.ptr (0:Nat) (0:Nat)]] (122:Nat),ae.vec (aF.ad [CK.str,CK.str] es) (34:Nat),ae.vec (aF.ad [CK.str,CK.int IntKind.i64] bs) (79:Nat)] (hr Tryd.f57 (22:Nat)) (mj.mk none false (0:Nat) [] (0:Nat))))))
       (Tree.ite (wJ s) (Tree.need (bK (some [AV.s (SV.int IntKind.i64 (2:Int)),AV.ptr (0:Nat) (0:Nat)])) (Tree.need (bK (some [ae.own [AV.s (SV.str (gT s))] (9:Nat)])) (Tree.need ((0:Int)≤(2:Int)) (Tree.ite (so (2:Int) (gT s)) (Tree.need ((0:Int)≤(0:Int)) (Tree.need ((0:Int)<(↑(j7 (2:Int) (gT s)).size:Int)) (Tree.need (ax (aV (j7 (2:Int) (gT s)) (Int.toNat (0:Int)))) (Tree.need ((0:Int)≤(8:Int)) (Tree.need ((0:Int)≤(1:Int)) (Tree.need ((1:Int)<(↑(j7 (2:Int) (gT s)).size:Int)) (Tree.need (ax (aV (j7 (2:Int) (gT s)) (Int.toNat (1:Int)))) (Tree.need ((bs.length+(1:Nat))*(24:Nat)≤(140737488355328:Nat)) (Tree.at (bx.mk (sl (93:Nat) [((1:Nat),AV.ptr (0:Nat) (0:Nat)),((2:Nat),AV.ptr (1:Nat) (0:Nat)),((4:Nat),AV.ptr (2:Nat) (0:Nat)),((5:Nat),AV.ptr (3:Nat) (0:Nat)),((6:Nat),AV.fn (75:Nat) [AV.ptr (3:Nat) (0:Nat)]),((8:Nat),AV.s (SV.bool (so (2:Int) (gT s))))]) [ae.own [AV.s (SV.str (oo (2:Int) (gT s)))] (9:Nat),ae.own [AV.s (SV.bool false),AV.emp,AV.emp] (73:Nat),ae.own [AV.s (SV.bool l),AV.vec (4:Nat),AV.vec (5:Nat)] (73:Nat),ae.own [AV.fn (74:Nat) [AV.ptr (0:Nat) (0:Nat)]] (122:Nat),ae.vec (aF.ad [CK.str,CK.str] es) (34:Nat),ae.vec (aF.ad [CK.str,CK.int IntKind.i64] (bs++[(xP s,bG BinOp.or IntKind.i64 (IntKind.i64.wrap (aV (j7 (2:Int) (gT s)) (Int.toNat (0:Int))*(2:Int)^min (Int.toNat (8:Int)) IntKind.i64.bits)) (aV (j7 (2:Int) (gT s)) (Int.toNat (1:Int))),())])) (79:Nat)] (hr Tryd.f57 (22:Nat)) (mj.mk none false (0:Nat) [] (0:Nat)))))))))))) (Tree.at (bx.mk (sl (93:Nat) [((1:Nat),AV.ptr (0:Nat) (0:Nat)),((2:Nat),AV.ptr (1:Nat) (0:Nat)),((4:Nat),AV.ptr (2:Nat) (0:Nat)),((5:Nat),AV.ptr (3:Nat) (0:Nat)),((6:Nat),AV.fn (75:Nat) [AV.ptr (3:Nat) (0:Nat)]),((8:Nat),AV.s (SV.bool (so (2:Int) (gT s))))]) [ae.own [AV.s (SV.str (oo (2:Int) (gT s)))] (9:Nat),ae.own [AV.s (SV.bool false),AV.emp,AV.emp] (73:Nat),ae.own [AV.s (SV.bool l),AV.vec (4:Nat),AV.vec (5:Nat)] (73:Nat),ae.own [AV.fn (74:Nat) [AV.ptr (0:Nat) (0:Nat)]] (122:Nat),ae.vec (aF.ad [CK.str,CK.str] es) (34:Nat),ae.vec (aF.ad [CK.str,CK.int IntKind.i64] bs) (79:Nat)] (hr Tryd.f57 (22:Nat)) (mj.mk none false (0:Nat) [] (0:Nat)))))))) (Tree.at (bx.mk (sl (93:Nat) [((1:Nat),AV.ptr (0:Nat) (0:Nat)),((2:Nat),AV.ptr (1:Nat) (0:Nat)),((4:Nat),AV.ptr (2:Nat) (0:Nat)),((5:Nat),AV.ptr (3:Nat) (0:Nat)),((6:Nat),AV.fn (75:Nat) [AV.ptr (3:Nat) (0:Nat)]),((8:Nat),AV.s (SV.bool (wJ s)))]) [ae.own [AV.s (SV.str (gT s))] (9:Nat),ae.own [AV.s (SV.bool false),AV.emp,AV.emp] (73:Nat),ae.own [AV.s (SV.bool l),AV.vec (4:Nat),AV.vec (5:Nat)] (73:Nat),ae.own [AV.fn (74:Nat) [AV.ptr (0:Nat) (0:Nat)]] (122:Nat),ae.vec (aF.ad [CK.str,CK.str] es) (34:Nat),ae.vec (aF.ad [CK.str,CK.int IntKind.i64] bs) (79:Nat)] (hr Tryd.f57 (22:Nat)) (mj.mk none false (0:Nat) [] (0:Nat))))))))
 (Tree.ite (!cT l es bs) (Tree.ret [ae.own [AV.s (SV.str s)] (9:Nat),ae.own [AV.s (SV.aI false),AV.emp,AV.emp] (73:Nat),ae.own [AV.s (SV.bool l),AV.vec (4:Nat),AV.vec (5:Nat)] (73:Nat),ae.own [AV.fn (74:Nat) [AV.ptr (0:Nat) (0:Nat)]] (122:Nat),ae.vec (aF.ad [CK.str,CK.str] es) (34:Nat),ae.vec (aF.ad [CK.str,CK.int IntKind.i64] bs) (79:Nat)] (AV.bm [AV.agg [AV.s (SV.aI false),AV.emp,AV.emp],AV.s (SV.bc IntKind.i64 (4:Int))])) (Tree.ret [ae.own [AV.s (SV.str s)] (9:Nat),ae.own [AV.s (SV.bool l),AV.vec (4:Nat),AV.vec (5:Nat)] (73:Nat),ae.own [AV.s (SV.bool l),AV.vec (4:Nat),AV.vec (5:Nat)] (73:Nat),ae.own [AV.fn (74:Nat) [AV.ptr (0:Nat) (0:Nat)]] (122:Nat),ae.vec (aF.ad [CK.str,CK.str] es) (34:Nat),ae.vec (aF.ad [CK.str,CK.int IntKind.i64] bs) (79:Nat)] (AV.bm [AV.agg [AV.s (SV.bool l),AV.vec (4:Nat),AV.vec (5:Nat)],AV.s (SV.bc IntKind.i64 (0:Int))]))):=by kernel_rfl
theorem abj(s:ByteArray)(l:Bool)(es:List En)(bs:List Br)(is:Bool):run P ve.sum Tryd.f57 aeU (aiU s l es bs is)=
 Tree.ite (!is) (.ret [.own [.s (.str s)] 9,.own [.s (.aI false),.emp,.emp] 73,.own [.s (.bool l),.vec 4,.vec 5] 73,.own [.fn 74 [.ptr 0 0]] 122,.vec (.ad [.str,.str] es) 34,.vec (.ad [.str,.int .i64] bs) 79] (.bm [.agg [.s (.aI false),.emp,.emp],.s (.bc .i64 8)])) (.at (.mk (sl 93 [(1,.ptr 0 0),(2,.ptr 1 0),(4,.ptr 2 0),(5,.ptr 3 0),(6,.fn 75 [.ptr 3 0])]) [.own [.s (.str s)] 9,.own [.s (.bool false),.emp,.emp] 73,.own [.s (.bool l),.vec 4,.vec 5] 73,.own [.fn 74 [.ptr 0 0]] 122,.vec (.ad [.str,.str] es) 34,.vec (.ad [.str,.int .i64] bs) 79] (hd Tryd.f57 11) (.mk none false 0 [] 0))):=by kernel_rfl
def aiW(l:Bool)(es:List En)(bs:List Br)(l':Bool)(kY:List En)(oq:List Br):Bool:=(l==l')&&(arH es kY&&arI bs oq)
theorem dh(s:ByteArray)(i j:Nat):(s.extract i j).size=min j s.size - i:=by simp
theorem gH(s:ByteArray)(i:Nat):0≤aV s i∧aV s i≤255:=by
 have:=(s.data.toList.getD i 0).toNat_lt
 unfold aV
 omega
theorem tc{k:Int}{s:ByteArray}:so k s=true↔k≤(s.size:Int):=by simp[so]
theorem vg{k:Int}{s:ByteArray}(h0:0≤k)(h:so k s=true):((j7 k s).size:Int)=k:=by
 have h:=tc.1 h
 rw[j7,if_neg (by omega),dh]
 omega
theorem abk{k:Int}{s:ByteArray}(h0:0≤k)(h:so k s=true):((oo k s).size:Int)=s.size - k:=by
 have h:=tc.1 h
 rw[oo,if_neg (by omega),dh]
 omega
theorem adr(k:Int)(s:ByteArray):(oo k s).size≤s.size:=by
 unfold oo
 split
 ·exact Nat.le_refl _
 ·rw[dh];omega
theorem aeW{Z:a8}:ke P Z 74 vd:=by
 refine aR Tryd.func74 (by kernel_rfl) (fun x=>Nat.le_of_ble_eq_true (by kernel_rfl)) ?_
 rintro⟨(k:Int),(s:ByteArray)⟩ ⟨(h1:0≤k),_⟩ X hX hz
 refine eH hz hX (by simp) aH.Ok.nil Tryd.func74 (aiS k s) ⟨fun h=>⟨⟨[],[0],1,[]⟩,Nat.le_refl _, ?_⟩,fun h=> ?_⟩
 ·show Norm.run _ _=some ⟨[.bm [.s (.str (j7 k s)),.s (.bool (so k s))]],[.own [.s (.str (oo k s))] 9],[],{}⟩
  rw[j7,oo,so,if_pos (of_decide_eq_true h),if_pos (of_decide_eq_true h),h]
  kernel_rfl
 ·have h2:=of_decide_eq_false h
  refine⟨by omega,h1,by omega,h1,by omega,by omega,⟨[],[0],1,[]⟩,Nat.le_refl _, ?_⟩
  show Norm.run _ _=some ⟨[.bm [.s (.str (j7 k s)),.s (.bool (so k s))]],[.own [.s (.str (oo k s))] 9],[],{}⟩
  rw[j7,oo,so,if_neg h2,if_neg h2,h]
  kernel_rfl
theorem ads{Z:a8}:aeT.Ok P Z:=aH.Ok.cons (aeW.sum aeS) aH.Ok.nil
theorem alw{Z:a8}:ke P Z 75 abi:=by
 refine aR Tryd.func75 (by kernel_rfl) (fun x=>Nat.le_of_ble_eq_true (by kernel_rfl)) ?_
 rintro(s:ByteArray) _ X hX hz
 refine eH hz hX (by simp) ads Tryd.func75 (aiT s) ⟨rfl,rfl,by decide,fun h=>⟨⟨[],[0],2,[]⟩,Nat.le_refl _, ?_⟩,fun h=> ?_⟩
 ·have h:so 1 s=false:=by simpa using h
  show Norm.run _ _=some ⟨[.bm [.s (.str (xP s)),.s (.bool (wJ s))]],[.own [.fn 74 [.ptr 1 0]] 122,.own [.s (.str (gT s))] 9],[],{}⟩
  rw[xP,gT,wJ,h]
  kernel_rfl
 ·have h:so 1 s=true:=by simpa using h
  have h1:=vg (by omega) h
  have h2:=gH (j7 1 s) 0
  refine⟨by decide,by omega,⟨by show _≤aV (j7 1 s) 0;omega,by show aV (j7 1 s) 0≤_;omega⟩,rfl,rfl,h2.1,⟨[],[0],2,[]⟩,Nat.le_refl _, ?_⟩
  show Norm.run _ _=some ⟨[.bm [.s (.str (xP s)),.s (.bool (wJ s))]],[.own [.fn 74 [.ptr 1 0]] 122,.own [.s (.str (gT s))] 9],[],{}⟩
  rw[xP,gT,wJ,h]
  kernel_rfl
theorem jz{Z:a8}:ve.Ok P Z:=aH.Ok.cons (aeW.sum aeS) (aH.Ok.cons (alw.sum anQ) (aH.Ok.cons adk.sum aH.Ok.nil))
theorem jT{s:ByteArray}(h:wJ s=true):(gT s).size+1≤s.size:=by
 simp only[wJ,Bool.and_eq_true]at h
 have h1:=abk (by omega) h.1
 have h2:=adr (rdK s) (oo 1 s)
 rw[gT,if_pos h.1]
 omega
def aiX(t:ByteArray):Int:=bG BinOp.or IntKind.i64 (IntKind.i64.wrap (aV t (Int.toNat 0)*2^min (Int.toNat 8) IntKind.i64.bits)) (aV t (Int.toNat 1))
def ic(l:Bool):Nat→ByteArray→List En→List Br→Int×List En×List Br
 |0,_,es,bs=>if cT l es bs=true then(0,es,bs)else(4,[],[])
 |n+1,s,es,bs=>
  if s=ByteArray.empty then(if cT l es bs=true then(0,es,bs)else(4,[],[]))
  else if wJ s=false then(8,[],[])
  else if l=true then(if wJ (gT s)=true then ic l n (gT (gT s)) (es++[(xP s,xP (gT s),())]) bs else(8,[],[]))
  else(if so 2 (gT s)=true then ic l n (oo 2 (gT s)) es (bs++[(xP s,aiX (j7 2 (gT s)),())])else(8,[],[]))
def nY(s:ByteArray):Int×List En×List Br:=
 if(s.size:Int)>254 then(40,[],[])else if s=ByteArray.empty then(8,[],[])else if aV s 0≠1∧aV s 0≠2 then(4,[],[])
 else ic (aV s 0==1) s.size (s.extract 1 s.size) [] []
def rC(s:ByteArray):Int:=(nY s).1
def ng(s:ByteArray):List En:=(nY s).2.1
def mi(s:ByteArray):List Br:=(nY s).2.2
def jg(s:ByteArray):Bool:=decide (rC s=0)&&(aV s 0==1)
end Lf
namespace Lf
open Go Go.Sx Go.Proofs
abbrev U(s:ByteArray):List UInt8:=s.data.toList
theorem ma(s:ByteArray):(U s).length=s.size:=Array.length_toList
theorem jA(s:ByteArray)(i j:Nat):U (s.extract i j)=((U s).drop i).take (j - i):=by
 rw[U,ByteArray.data_extract,Array.toList_extract,List.extract_eq_take_drop]
theorem zr:U ByteArray.empty=[]:=rfl
theorem anS{s:ByteArray}(h:U s=[]):s=ByteArray.empty:=ru h
theorem zt{s:ByteArray}{a b:List UInt8}{k:Int}(h:U s=a++b)(hk:(a.length:Int)=k):so k s=true∧U (j7 k s)=a∧U (oo k s)=b:=by
 have hl:=ma s
 rw[h,List.length_append]at hl
 refine⟨tc.2 (by omega), ?_, ?_⟩
 ·rw[j7,if_neg (by omega),jA,h,show k.toNat - 0=a.length from by omega];simp
 ·rw[oo,if_neg (by omega),jA,h,show k.toNat=a.length from by omega,List.drop_left,List.take_of_length_le (by omega)]
theorem zu{s:ByteArray}{k:Int}(h0:0≤k)(h:so k s=true):U s=U (j7 k s)++U (oo k s)∧((U (j7 k s)).length:Int)=k:=by
 have hk:=tc.1 h
 have hl:=ma s
 refine⟨?_,by rw[ma];exact vg h0 h⟩
 rw[j7,oo,if_neg (by omega),if_neg (by omega),jA,jA,List.drop_zero,Nat.sub_zero,List.take_of_length_le (l:=(U s).drop _) (by simp[hl]),List.take_append_drop]
def nh(s:ByteArray):List UInt8:=UInt8.ofNat s.size::U s
theorem iJ{s:ByteArray}{a:UInt8}{r:List UInt8}(h:U s=a::r):aV s 0=(a.toNat:Int):=by
 simp[aV,show s.data.toList=a::r from h]
theorem zv{s:ByteArray}{a b:UInt8}{r:List UInt8}(h:U s=a::b::r):aV s 1=(b.toNat:Int):=by
 simp[aV,show s.data.toList=a::b::r from h]
theorem zw{s k:ByteArray}{r:List UInt8}(h:U s=nh k++r)(hk:k.size≤255):wJ s=true∧xP s=k∧U (gT s)=r:=by
 obtain⟨h1,h2,h3⟩:=zt (s:=s) (a:=[UInt8.ofNat k.size]) (b:=U k++r) (k:=1) (by rw[h];rfl) rfl
 have e:rdK s=(k.size:Int):=by rw[rdK,iJ h2];simp;omega
 obtain⟨g1,g2,g3⟩:=zt (s:=oo 1 s) (k:=rdK s) h3 (by rw[ma,e])
 refine⟨by simp[wJ,h1,g1], ?_, ?_⟩
 ·rw[xP,if_pos h1];exact ru g2
 ·rw[gT,if_pos h1];exact g3
theorem aeX{s:ByteArray}(h:wJ s=true):U s=nh (xP s)++U (gT s)∧(xP s).size≤255:=by
 simp only[wJ,Bool.and_eq_true]at h
 obtain⟨h1,h2⟩:=h
 obtain⟨g1,g2⟩:=zu (by decide) h1
 have hr:=gH (j7 1 s) 0
 obtain⟨g3,g4⟩:=zu (k:=rdK s) hr.1 h2
 have g2:(U (j7 1 s)).length=1:=by omega
 obtain⟨a,ha⟩:=List.length_eq_one_iff.1 g2
 have e:rdK s=(a.toNat:Int):=iJ ha
 rw[xP,gT,if_pos h1,if_pos h1]
 have hs:(j7 (rdK s) (oo 1 s)).size=a.toNat:=by rw[←ma];omega
 refine⟨?_,by rw[hs];have:=a.toNat_lt;omega⟩
 rw[g1,ha,g3,nh,hs]
 simp
def gZ(x:En):List UInt8:=nh x.1++nh x.2.1
def hC(x:Br):List UInt8:=nh x.1++[UInt8.ofNat (x.2.1 / 256).toNat,UInt8.ofNat (x.2.1%256).toNat]
theorem uT{a b:Int}(ha:0≤a∧a≤255)(hb:0≤b∧b≤255):bG BinOp.or IntKind.i64 (IntKind.i64.wrap (a*2^min (Int.toNat 8) IntKind.i64.bits)) b=a*256+b:=by
 have e1:IntKind.i64.wrap (a*2^min (Int.toNat 8) IntKind.i64.bits)=a*256:=by
  rw[show(2:Int)^min (Int.toNat 8) IntKind.i64.bits=256 from by decide]
  exact cw ⟨by omega,by omega⟩
 rw[e1]
 obtain⟨x,rfl⟩:=Int.eq_ofNat_of_zero_le ha.1
 obtain⟨y,rfl⟩:=Int.eq_ofNat_of_zero_le hb.1
 show IntKind.i64.wrap ((BitVec.ofInt 64 _ ||| BitVec.ofInt 64 _).toNat:Int)=_
 have e2:(BitVec.ofInt 64 ((x:Int)*256)).toNat=2^8*x:=by rw[BitVec.toNat_ofInt];omega
 have e3:(BitVec.ofInt 64 (y:Int)).toNat=y:=by rw[BitVec.toNat_ofInt];omega
 rw[BitVec.toNat_or,e2,e3,←Nat.two_pow_add_eq_or_of_lt (by omega),cw ⟨by omega,by omega⟩]
 omega
theorem anT{t:ByteArray}{a b:UInt8}(h:U t=[a,b]):aiX t=(a.toNat:Int)*256+b.toNat:=by
 have h1:=a.toNat_lt
 have h2:=b.toNat_lt
 have e0:=iJ h
 have e1:=zv h
 rw[aiX,show aV t (Int.toNat 0)=_ from e0,show aV t (Int.toNat 1)=_ from e1]
 exact uT ⟨by omega,by omega⟩ ⟨by omega,by omega⟩
theorem abl{l:Bool}{n:Nat}{s:ByteArray}{es:List En}{bs:List Br}(h:U s=[]):ic l n s es bs=if cT l es bs=true then(0,es,bs)else(4,[],[]):=by
 cases n with
 |zero=>rfl
 |succ n=>rw[ic,if_pos (anS h)]
theorem abm:∀(n:Nat) (xQ:List En) (s:ByteArray) (es:List En) (bs:List Br),s.size≤n→U s=xQ.flatMap gZ→(∀x∈xQ,x.1.size≤255∧x.2.1.size≤255)→ic true n s es bs=if cT true (es++xQ) bs=true then(0,es++xQ,bs)else(4,[],[])
 |n,[],s,es,bs,_,hu,_=>by rw[abl hu,List.append_nil]
 |0,x::xQ,s,es,bs,hn,hu,_=>by
  have:=ma s
  rw[hu]at this
  simp[gZ,nh]at this
  omega
 |n+1,x::xQ,s,es,bs,hn,hu,hx=>by
  obtain⟨k,v,⟨⟩⟩:=x
  have hx0:=hx (k,v,()) (by simp)
  have h0:s≠ByteArray.empty:=fun e=>by subst e;simp[zr,gZ,nh]at hu
  obtain⟨a1,a2,a3⟩:=zw (s:=s) (k:=k) (r:=nh v++xQ.flatMap gZ) (by rw[hu];simp[gZ]) hx0.1
  obtain⟨b1,b2,b3⟩:=zw a3 hx0.2
  have c1:=jT a1
  have c2:=jT b1
  rw[ic,if_neg h0,if_neg (by simp[a1]),if_pos rfl,if_pos b1,a2,b2,abm n xQ _ _ bs (by omega) b3 (fun y hy=>hx y (by simp[hy]))]
  simp
theorem vj:∀(n:Nat) (xR:List Br) (s:ByteArray) (es:List En) (bs:List Br),s.size≤n→U s=xR.flatMap hC→(∀x∈xR,x.1.size≤255∧0≤x.2.1∧x.2.1<65536)→ic false n s es bs=if cT false es (bs++xR)=true then(0,es,bs++xR)else(4,[],[])
 |n,[],s,es,bs,_,hu,_=>by rw[abl hu,List.append_nil]
 |0,x::xR,s,es,bs,hn,hu,_=>by
  have:=ma s
  rw[hu]at this
  simp[hC,nh]at this
  omega
 |n+1,x::xR,s,es,bs,hn,hu,hx=>by
  obtain⟨k,p,⟨⟩⟩:=x
  have hx0:=hx (k,p,()) (by simp)
  have h0:s≠ByteArray.empty:=fun e=>by subst e;simp[zr,hC,nh]at hu
  obtain⟨a1,a2,a3⟩:=zw (s:=s) (k:=k) (r:=[UInt8.ofNat (p / 256).toNat,UInt8.ofNat (p%256).toNat]++xR.flatMap hC) (by rw[hu];simp[hC]) hx0.1
  obtain⟨b1,b2,b3⟩:=zt (k:=2) a3 rfl
  have c1:=jT a1
  have c2:=adr 2 (gT s)
  have e:aiX (j7 2 (gT s))=p:=by
   have hp:0≤p∧p<65536:=hx0.2
   rw[anT b2]
   simp only[UInt8.toNat_ofNat']
   omega
  rw[ic,if_neg h0,if_neg (by simp[a1]),if_neg (by simp),if_pos b1,a2,e,vj n xR _ es _ (by omega) b3 (fun y hy=>hx y (by simp[hy]))]
  simp
theorem apA{α:Type}:∀{l:List α},l.length=2→∃a b,l=[a,b]
 |[a,b],_=>⟨a,b,rfl⟩
theorem arK:∀(n:Nat) (l:Bool) (s:ByteArray) (es:List En) (bs:List Br) {kY:List En} {oq:List Br},s.size≤n→ic l n s es bs=(0,kY,oq)→
 ∃xQ xR,kY=es++xQ∧oq=bs++xR∧cT l kY oq=true∧U s=xQ.flatMap gZ++xR.flatMap hC∧(l=true→xR=[])∧(l=false→xQ=[]):=by
 intro n
 have fin:∀(l:Bool) (s:ByteArray) (es:List En) (bs:List Br) {kY:List En} {oq:List Br},s=ByteArray.empty→(if cT l es bs=true then((0:Int),es,bs)else(4,[],[]))=(0,kY,oq)→
  ∃xQ xR,kY=es++xQ∧oq=bs++xR∧cT l kY oq=true∧U s=xQ.flatMap gZ++xR.flatMap hC∧(l=true→xR=[])∧(l=false→xQ=[]):=by
  intro l s es bs kY oq hs h
  split at h
  ·rename_i hm
   simp only[Prod.mk.injEq,true_and]at h
   obtain⟨rfl,rfl⟩:=h
   exact⟨[],[],by simp,by simp,hm,by subst hs;rfl,fun _=>rfl,fun _=>rfl⟩
  ·simp at h
 induction n with
 |zero=>
  intro l s es bs kY oq hn h
  exact fin l s es bs (lr (Nat.le_zero.1 hn)) h
 |succ n ih=>
  intro l s es bs kY oq hn h
  by_cases h0:s=ByteArray.empty
  ·rw[ic,if_pos h0]at h
   exact fin l s es bs h0 h
  ·rw[ic,if_neg h0]at h
   split at h
   ·simp at h
   ·rename_i hB
    have hB:wJ s=true:=by simpa using hB
    obtain⟨a1,a2⟩:=aeX hB
    have c1:=jT hB
    split at h
    ·rename_i hl
     subst hl
     split at h
     ·rename_i hB2
      obtain⟨b1,b2⟩:=aeX hB2
      have c2:=jT hB2
      obtain⟨xQ,xR,rfl,rfl,d3,d4,d5,d6⟩:=ih true _ _ _ (by omega) h
      have d5:=d5 rfl
      subst d5
      refine⟨(xP s,xP (gT s),())::xQ,[],by simp,by simp,d3, ?_,fun _=>rfl,fun h=>(by cases h)⟩
      rw[a1,b1,d4]
      simp[gZ]
     ·simp at h
    ·rename_i hl
     have hl:l=false:=by simpa using hl
     subst hl
     split at h
     ·rename_i hB2
      obtain⟨b1,b2⟩:=zu (by decide) hB2
      have c2:=adr 2 (gT s)
      obtain⟨xQ,xR,rfl,rfl,d3,d4,d5,d6⟩:=ih false _ _ _ (by omega) h
      have d6:=d6 rfl
      subst d6
      refine⟨[],(xP s,aiX (j7 2 (gT s)),())::xR,by simp,by simp,d3, ?_,fun h=>(by cases h),fun _=>rfl⟩
      have b2:(U (j7 2 (gT s))).length=2:=by omega
      obtain⟨a,b,hab⟩:=apA b2
      have e:=anT hab
      have h1:=a.toNat_lt
      have h2:=b.toNat_lt
      rw[a1,b1,d4,hab]
      simp only[List.flatMap_nil,List.nil_append,List.flatMap_cons,hC,e,List.append_assoc]
      rw[show(((a.toNat:Int)*256+b.toNat) / 256).toNat=a.toNat from by omega,show(((a.toNat:Int)*256+b.toNat)%256).toNat=b.toNat from by omega]
      simp
     ·simp at h
theorem adt{es:List En}(h:jr es=true){x:En}(hx:x∈es):x.1.size≤24∧x.2.1.size≤100:=by
 obtain⟨i,hi,rfl⟩:=List.getElem_of_mem hx
 have:=cI.1 h i hi
 simp only[okE,Bool.not_eq_true',Bool.or_eq_false_iff,decide_eq_false_iff_not,bd hi]at this
 omega
theorem abn{bs:List Br}(h:gm bs=true){x:Br}(hx:x∈bs):x.1.size≤24∧2≤x.2.1∧x.2.1<1024:=by
 obtain⟨i,hi,rfl⟩:=List.getElem_of_mem hx
 have:=cI.1 h i hi
 simp only[okB,Bool.not_eq_true',Bool.or_eq_false_iff,decide_eq_false_iff_not,bd hi]at this
 omega
abbrev enB(zs:List Int):List UInt8:=zs.map fun n=>UInt8.ofNat n.toNat
theorem alx(zs:List Int):U (aL zs)=enB zs:=rfl
theorem u8_in{n:Int}(h0:0≤n)(h1:n≤255):IntKind.u8.wrap n=n:=by
 simp only[IntKind.wrap,IntKind.bits,IntKind.signed,Bool.false_and]
 simp
 omega
theorem zx{s:ByteArray}(h:s.size≤255):enB (xN s)=nh s:=by
 simp only[enB,xN,List.map_cons,nh,u8_in (n:=(s.size:Int)) (by omega) (by omega),Int.toNat_natCast,List.cons.injEq,true_and,zq,List.map_map]
 exact(List.map_congr_left (fun a _=>by simp)).trans (List.map_id _)
theorem arL{x:En}(h:x.1.size≤24∧x.2.1.size≤100):enB (nb x)=gZ x:=by
 simp only[nb,gZ,List.map_append]
 rw[show(xN x.1).map _=_ from zx (by omega),show(xN x.2.1).map _=_ from zx (by omega)]
theorem arM{x:Br}(h:x.1.size≤24∧2≤x.2.1∧x.2.1<1024):enB (sO x)=hC x:=by
 obtain⟨k,p,⟨⟩⟩:=x
 have hp:2≤p∧p<1024:=h.2
 simp only[sO,hC,List.map_append,List.map_cons,List.map_nil]
 rw[show(xN k).map _=_ from zx (by have:k.size≤24:=h.1;omega),show(2:Int)^min (Int.toNat 8) IntKind.i64.bits=256 from by decide,Int.fdiv_eq_ediv_of_nonneg _ (by omega),u8_in (by omega) (by omega)]
 have e:IntKind.u8.wrap p=p%256:=by
  simp only[IntKind.wrap,IntKind.bits,IntKind.signed,Bool.false_and]
  simp
 rw[e]
theorem vk{α:Type}{f:α→List Int}{g:α→List UInt8}:∀{l:List α},(∀x∈l,enB (f x)=g x)→enB (l.flatMap f)=l.flatMap g
 |[],_=>rfl
 |x::l,h=>by
  simp only[List.flatMap_cons,List.map_append]
  rw[show(f x).map _=_ from h x (by simp),show(l.flatMap f).map _=_ from vk (fun y hy=>h y (by simp[hy]))]
theorem anU{l:Bool}{es:List En}{bs:List Br}(h1:jr es=true)(h2:gm bs=true):U (aL (nc l es bs))=(if l=true then 1 else 2)::(es.flatMap gZ++bs.flatMap hC):=by
 rw[alx,nc]
 simp only[List.map_append]
 rw[show(es.flatMap nb).map _=_ from vk fun x hx=>arL (adt h1 hx),show(bs.flatMap sO).map _=_ from vk fun x hx=>arM (abn h2 hx)]
 cases l<;>rfl
theorem arN:∀(es:List En),((es.flatMap gZ).length:Int)=(es.map pz).sum
 |[]=>rfl
 |x::es=>by
  simp only[List.flatMap_cons,List.length_append,List.map_cons,List.sum_cons,←arN es,pz,gZ,nh,List.length_cons,ma]
  omega
theorem arO:∀(bs:List Br),((bs.flatMap hC).length:Int)=(bs.map oZ).sum
 |[]=>rfl
 |x::bs=>by
  simp only[List.flatMap_cons,List.length_append,List.map_cons,List.sum_cons,←arO bs,oZ,hC,nh,List.length_cons,List.length_nil,ma]
  omega
theorem abo{s:ByteArray}{a:UInt8}{es:List En}{bs:List Br}(h:U s=a::(es.flatMap gZ++bs.flatMap hC)):(s.size:Int)=ba es bs:=by
 have:=ma s
 rw[h]at this
 simp only[List.length_cons,List.length_append]at this
 rw[ba,←arN,←arO]
 omega
theorem lA{l:Bool}{es:List En}{bs:List Br}:gI l es bs=0↔cT l es bs=true∧ba es bs≤254:=by
 unfold gI
 split
 ·split<;>simp_all
 ·simp_all
theorem aeY{l:Bool}{es:List En}{bs:List Br}(h:gI l es bs=0):cU l es bs=aL (nc l es bs):=by
 obtain⟨h1,h2⟩:=lA.1 h
 rw[cU,if_pos (by simp[abg,h1,h2])]
theorem aly{l:Bool}{es:List En}{bs:List Br}(h:gI l es bs=0):rC (cU l es bs)=0∧jg (cU l es bs)=l∧ng (cU l es bs)=es∧mi (cU l es bs)=bs∧((cU l es bs).size:Int)=ba es bs:=by
 obtain⟨h1,h2⟩:=lA.1 h
 obtain⟨m1,m2,m3,m4⟩:=dA h1
 rw[aeY h]
 have hu:=anU (l:=l) m3 m4
 have hs:=abo hu
 have h0:aL (nc l es bs)≠ByteArray.empty:=fun e=>by rw[e,zr]at hu;cases hu
 have hb:aV (aL (nc l es bs)) 0=if l=true then 1 else 2:=by rw[iJ hu];cases l<;>rfl
 have he:U ((aL (nc l es bs)).extract 1 (aL (nc l es bs)).size)=es.flatMap gZ++bs.flatMap hC:=by
  have:=ma (aL (nc l es bs))
  rw[hu]at this
  rw[jA,hu]
  simp only[List.length_cons]at this
  exact List.take_of_length_le (by simp;simp at this;omega)
 have hd:nY (aL (nc l es bs))=(0,es,bs):=by
  rw[nY,if_neg (by omega),if_neg h0,if_neg (by rw[hb];cases l<;>simp),hb]
  cases l
  ·obtain rfl:=m2 rfl
   have:=vj (aL (nc false [] bs)).size bs _ [] [] (by rw[dh];omega) he (fun x hx=>by have:=abn m4 hx;omega)
   simp only[List.nil_append,h1,if_true]at this
   exact this
  ·obtain rfl:=m1 rfl
   have:=abm (aL (nc true es [])).size es ((aL (nc true es [])).extract 1 (aL (nc true es [])).size) [] [] (by rw[dh];omega) (by rw[he];simp) (fun x hx=>by have:=adt m3 hx;omega)
   simp only[List.nil_append,h1,if_true]at this
   exact this
 refine⟨by rw[rC,hd], ?_,by rw[ng,hd],by rw[mi,hd],hs⟩
 rw[jg,rC,hd,hb]
 cases l<;>rfl
theorem arP:∀(es:List En),es.length≤(es.flatMap gZ).length
 |[]=>Nat.le_refl _
 |x::l=>by have:=arP l;simp only[List.flatMap_cons,List.length_cons,List.length_append,gZ,nh];omega
theorem arQ:∀(es:List Br),es.length≤(es.flatMap hC).length
 |[]=>Nat.le_refl _
 |x::l=>by have:=arQ l;simp only[List.flatMap_cons,List.length_cons,List.length_append,hC,nh];omega
theorem alz{s:ByteArray}(h:rC s=0):aY (ng s)∧aZ (mi s)∧gI (jg s) (ng s) (mi s)=0∧cU (jg s) (ng s) (mi s)=s∧cT (jg s) (ng s) (mi s)=true:=by
 have h':=h
 rw[rC]at h
 have hl:jg s=(aV s 0==1):=by simp[jg,h']
 rw[hl]
 unfold ng mi
 unfold nY at h ⊢
 split at h
 ·exact absurd h (by decide)
 rename_i g1
 rw[if_neg g1]
 split at h
 ·exact absurd h (by decide)
 rename_i g2
 rw[if_neg g2]
 split at h
 ·exact absurd h (by decide)
 rename_i g3
 rw[if_neg g3]
 obtain⟨kY,oq,e⟩:∃kY oq,ic (aV s 0==1) s.size (s.extract 1 s.size) [] []=(0,kY,oq):=⟨_,_,Prod.ext h rfl⟩
 rw[e]
 simp only
 obtain⟨xQ,xR,k1,k2,k3,k4,k5,k6⟩:=arK _ _ _ _ _ (by rw[dh];omega) e
 simp only[List.nil_append]at k1 k2
 subst k1 k2
 obtain⟨m1,m2,m3,m4⟩:=dA k3
 have hlen:=ma s
 cases hu:U s with
 |nil=>exact absurd (anS hu) g2
 |cons a r=>
  have hb:=iJ hu
  have ha:=a.toNat_lt
  have hr:r=kY.flatMap gZ++oq.flatMap hC:=by
   rw[←k4,jA,hu]
   rw[hu]at hlen
   simp only[List.length_cons]at hlen
   rw[show List.drop 1 (a::r)=r from rfl,List.take_of_length_le (by omega)]
  rw[hr]at hu
  have hs:=abo hu
  have hn:gI (aV s 0==1) kY oq=0:=lA.2 ⟨k3,by omega⟩
  have au3:=arP kY
  have au4:=arQ oq
  rw[hu]at hlen
  simp only[List.length_cons,List.length_append]at hlen
  refine⟨⟨by omega,fun x hx=>by have:=adt m3 hx;omega⟩,⟨by omega,fun x hx=>by have:=abn m4 hx;omega⟩,hn, ?_,k3⟩
  rw[aeY hn]
  apply ru
  show U _=U _
  rw[anU m3 m4,hu]
  congr 1
  by_cases hc:aV s 0=1
  ·rw[if_pos (by simp[hc])]
   exact UInt8.toNat_inj.1 (by show 1=_;omega)
  ·rw[if_neg (by simp[hc])]
   have:aV s 0=2:=by
    rcases Decidable.em (aV s 0=2)with h|h
    ·exact h
    ·exact absurd ⟨hc,h⟩ g3
   exact UInt8.toNat_inj.1 (by show 2=_;omega)
end Lf
namespace Lf
open Go Go.Sx Go.Proofs
theorem alA(a:List En):run P kI.sum Tryd.f68 [] (start Tryd.f68 [.s (.ro (.ad cE a))] [])=
 Tree.both (a.length=0) True (.ret [] .emp) (.need (((0:Nat)+a.length)*(32:Nat)≤140737488355328) (.ret [.dead,.vec (.ad [.str,.str] ([]++a)) 34] (.vec 1))):=by kernel_rfl
theorem alB(a:List Br):run P kI.sum Tryd.f106 [] (start Tryd.f106 [.s (.ro (.ad cB a))] [])=
 Tree.both (a.length=0) True (.ret [] .emp) (.need (((0:Nat)+a.length)*(24:Nat)≤140737488355328) (.ret [.dead,.vec (.ad [.str,.int .i64] ([]++a)) 79] (.vec 1))):=by kernel_rfl
abbrev apB:=bW [nX] [nX] (fun(l,())=>[(l:List En).length≤100000]) (fun(l,())=>(l,()))
abbrev at6:=bW [wH] [wH] (fun(l,())=>[(l:List Br).length≤100000]) (fun(l,())=>(l,()))
def adu:aH:=[(68,apB),(106,at6)]
theorem aiY(a:List En)(k:Int):run P adu.sum Tryd.f100 [] (start Tryd.f100 [.s (.ro (.ad cE a)),.s (.int .i64 k)] [])=
 Tree.ite ((↑a.length:Int)==0) (.ret [] (.bm [.emp,.emp])) (.need ((0:Int)≤0) (.need ((0:Int)≤k) (.need (k≤(↑a.length:Int)) (.need ((List.drop (Int.toNat 0) (List.take k.toNat a)).length≤100000) (.need ((0:Int)≤k) (.need (k≤(↑a.length:Int)) (.need ((↑a.length:Int)≤(↑a.length:Int)) (.need ((List.drop k.toNat (List.take (↑a.length:Int).toNat a)).length≤100000) (.ret [.vec (.ad [.str,.str] (List.drop (Int.toNat 0) (List.take k.toNat a))) 34,.vec (.ad [.str,.str] (List.drop k.toNat (List.take (↑a.length:Int).toNat a))) 34] (.bm [.vec 0,.vec 1])))))))))):=by kernel_rfl
theorem aiZ(a:List Br)(k:Int):run P adu.sum Tryd.f101 [] (start Tryd.f101 [.s (.ro (.ad cB a)),.s (.int .i64 k)] [])=
 Tree.ite ((↑a.length:Int)==0) (.ret [] (.bm [.emp,.emp])) (.need ((0:Int)≤0) (.need ((0:Int)≤k) (.need (k≤(↑a.length:Int)) (.need ((List.drop (Int.toNat 0) (List.take k.toNat a)).length≤100000) (.need ((0:Int)≤k) (.need (k≤(↑a.length:Int)) (.need ((↑a.length:Int)≤(↑a.length:Int)) (.need ((List.drop k.toNat (List.take (↑a.length:Int).toNat a)).length≤100000) (.ret [.vec (.ad [.str,.int .i64] (List.drop (Int.toNat 0) (List.take k.toNat a))) 79,.vec (.ad [.str,.int .i64] (List.drop k.toNat (List.take (↑a.length:Int).toNat a))) 79] (.bm [.vec 0,.vec 1])))))))))):=by kernel_rfl
abbrev arR:=bW [nX,bo] [nX,nX] (fun(l,k,())=>[(l:List En).length≤100000,0≤(k:Int),(l=[]∨k≤(l.length:Int))]) (fun(l,k,())=>(List.take (Int.toNat k) l,List.drop (Int.toNat k) l,()))
abbrev arS:=bW [wH,bo] [wH,wH] (fun(l,k,())=>[(l:List Br).length≤100000,0≤(k:Int),(l=[]∨k≤(l.length:Int))]) (fun(l,k,())=>(List.take (Int.toNat k) l,List.drop (Int.toNat k) l,()))
def adv:aH:=[(99,aiK),(76,apy),(93,anK),(100,arR),(101,arS)]
def anV:List (Nat×Norm):=[(7,⟨[],[1,2,3,6,7,8,9,34,35,36],0,[]⟩)]
theorem alC(l:Bool)(es:List En)(bs:List Br):run P adv.sum Tryd.f84 anV (start Tryd.f84 [avN l es bs] [])=
 Tree.need (aY es) (.need (aZ bs) (.ite (!cT l es bs) (.ret [.own [.s (.bool l),.s (.ro (.ad [.str,.str] es)),.s (.ro (.ad [.str,.int .i64] bs))] 73,.own [.s (.aI false),.emp,.emp] 73,.own [.s (.aI false),.emp,.emp] 73,.vec (.ints .i64 (aE es bs)) 3] (.bm [.agg [.s (.aI false),.emp,.emp],.agg [.s (.aI false),.emp,.emp],.s (.bc .i64 4)])) (.ite (decide ((↑(aE es bs).length:Int)<2)) (.ret [.own [.s (.bool l),.s (.ro (.ad [.str,.str] es)),.s (.ro (.ad [.str,.int .i64] bs))] 73,.own [.s (.aI false),.emp,.emp] 73,.own [.s (.aI false),.emp,.emp] 73,.vec (.ints .i64 (aE es bs)) 3] (.bm [.agg [.s (.aI false),.emp,.emp],.agg [.s (.aI false),.emp,.emp],.s (.bc .i64 4)])) (.need (aY es) (.need (aZ bs) (.need (ax (ba es bs - (1:Int))) (.need (ax ((↑(aE es bs).length:Int) - (1:Int))) (.need ((0:Int)≤0) (.need ((0:Int)≤(↑(aE es bs).length:Int) - (1:Int)) (.need ((↑(0:Nat):Int)+((↑(aE es bs).length:Int) - (1:Int))≤(↑(aE es bs).length:Int)) (.at (.mk (sl 87 [(1,.ptr 0 0),(2,.ptr 1 0),(3,.ptr 2 0),(6,.s (.int .i64 0)),(7,.s (.int .i64 (ba es bs - (1:Int)))),(8,.s (.int .i64 0)),(9,.s (.int .i64 0)),(34,.part 3 0 (((↑(aE es bs).length:Int) - (1:Int)).toNat - Int.toNat 0)),(35,.s (.int .i64 (↑(((↑(aE es bs).length:Int) - (1:Int)).toNat - Int.toNat 0):Int))),(36,.s (.int .i64 0))]) [.own [.s (.bool l),.s (.ro (.ad [.str,.str] es)),.s (.ro (.ad [.str,.int .i64] bs))] 73,.own [.s (.bool false),.emp,.emp] 73,.own [.s (.bool false),.emp,.emp] 73,.vec (.ints .i64 (aE es bs)) 3] (hd Tryd.f84 7) (.mk none false 0 [] 0))))))))))))):=by kernel_rfl
def alD(l:Bool)(es:List En):List En:=if l=true then es else []
def alE(l:Bool)(bs:List Br):List Br:=if l=true then []else bs
noncomputable def arT(l:Bool)(es:List En)(bs:List Br)(zs:List Int)(n:Nat)(first rest rD least i:Int):bx:=⟨sl 87 [(1,.ptr 0 0),(2,.ptr 1 0),(3,.ptr 2 0),(6,.s (.int .i64 first)),(7,.s (.int .i64 rest)),(8,.s (.int .i64 rD)),(9,.s (.int .i64 least)),(34,.part 3 0 n),(35,.s (.int .i64 (n:Int))),(36,.s (.int .i64 i))],
 [obN l es bs 73,obZ,obZ,.vec (.ints .i64 zs) 3],hd Tryd.f84 7,{}⟩
theorem aeZ(l:Bool)(es:List En)(bs:List Br)(zs:List Int)(n:Nat)(first rest rD least i:Int):run P adv.sum Tryd.f84 anV (arT l es bs zs n first rest rD least i)=
 Tree.ite (decide (i<(↑n:Int))) (.need ((0:Int)≤i) (.need (i<(↑n:Int)) (.need (ax (first+zs.getD ((0:Nat)+i.toNat) 0)) (.need (ax (rest - zs.getD ((0:Nat)+i.toNat) 0)) (.ite (rD==0) (.need (ax (i+1)) (.need (ax (i+1)) (.at (.mk (sl 87 [(1,.ptr 0 0),(2,.ptr 1 0),(3,.ptr 2 0),(6,.s (.int .i64 (first+zs.getD ((0:Nat)+i.toNat) 0))),(7,.s (.int .i64 (rest - zs.getD ((0:Nat)+i.toNat) 0))),(8,.s (.int .i64 (i+1))),(9,.s (.int .i64 (imax (first+zs.getD ((0:Nat)+i.toNat) 0) (rest - zs.getD ((0:Nat)+i.toNat) 0)))),(34,.part 3 0 n),(35,.s (.int .i64 (↑n:Int))),(36,.s (.int .i64 (i+1)))]) [.own [.s (.bool l),.s (.ro (.ad [.str,.str] es)),.s (.ro (.ad [.str,.int .i64] bs))] 73,.own [.s (.bool false),.emp,.emp] 73,.own [.s (.bool false),.emp,.emp] 73,.vec (.ints .i64 zs) 3] (hd Tryd.f84 7) (.mk none false 0 [] 0))))) (.ite (decide (imax (first+zs.getD ((0:Nat)+i.toNat) 0) (rest - zs.getD ((0:Nat)+i.toNat) 0)<least)) (.need (ax (i+1)) (.need (ax (i+1)) (.at (.mk (sl 87 [(1,.ptr 0 0),(2,.ptr 1 0),(3,.ptr 2 0),(6,.s (.int .i64 (first+zs.getD ((0:Nat)+i.toNat) 0))),(7,.s (.int .i64 (rest - zs.getD ((0:Nat)+i.toNat) 0))),(8,.s (.int .i64 (i+1))),(9,.s (.int .i64 (imax (first+zs.getD ((0:Nat)+i.toNat) 0) (rest - zs.getD ((0:Nat)+i.toNat) 0)))),(34,.part 3 0 n),(35,.s (.int .i64 (↑n:Int))),(36,.s (.int .i64 (i+1)))]) [.own [.s (.bool l),.s (.ro (.ad [.str,.str] es)),.s (.ro (.ad [.str,.int .i64] bs))] 73,.own [.s (.bool false),.emp,.emp] 73,.own [.s (.bool false),.emp,.emp] 73,.vec (.ints .i64 zs) 3] (hd Tryd.f84 7) (.mk none false 0 [] 0))))) (.need (ax (i+1)) (.at (.mk (sl 87 [(1,.ptr 0 0),(2,.ptr 1 0),(3,.ptr 2 0),(6,.s (.int .i64 (first+zs.getD ((0:Nat)+i.toNat) 0))),(7,.s (.int .i64 (rest - zs.getD ((0:Nat)+i.toNat) 0))),(8,.s (.int .i64 rD)),(9,.s (.int .i64 least)),(34,.part 3 0 n),(35,.s (.int .i64 (↑n:Int))),(36,.s (.int .i64 (i+1)))]) [.own [.s (.bool l),.s (.ro (.ad [.str,.str] es)),.s (.ro (.ad [.str,.int .i64] bs))] 73,.own [.s (.bool false),.emp,.emp] 73,.own [.s (.bool false),.emp,.emp] 73,.vec (.ints .i64 zs) 3] (hd Tryd.f84 7) (.mk none false 0 [] 0))))))))))
 (.need (es.length≤100000) (.need ((0:bo.V)≤rD) (.need (es=[]∨rD≤(↑es.length:Int)) (.need (bs.length≤100000) (.need ((0:bo.V)≤rD) (.need (bs=[]∨rD≤(↑bs.length:Int)) (.ret [.own [.s (.bool l),.s (.ro (.ad [.str,.str] es)),.s (.ro (.ad [.str,.int .i64] bs))] 73,.own [.s (.bool l),.vec 6,.vec 8] 73,.own [.s (.bool l),.vec 7,.vec 9] 73,.vec (.ints .i64 zs) 3,.own [.s (.bool l),.vec 6,.vec 8] 73,.own [.s (.bool l),.vec 7,.vec 9] 73,.vec (.ad [.str,.str] (List.take rD.toNat es)) 34,.vec (.ad [.str,.str] (List.drop rD.toNat es)) 34,.vec (.ad [.str,.int .i64] (List.take rD.toNat bs)) 79,.vec (.ad [.str,.int .i64] (List.drop rD.toNat bs)) 79] (.bm [.agg [.s (.bool l),.vec 6,.vec 8],.agg [.s (.bool l),.vec 7,.vec 9],.s (.bc .i64 0)])))))))):=by kernel_rfl
theorem adw{Z:a8}:dm P Z 68 [nX] [nX] (fun(l,())=>[(l:List En).length≤100000]) (fun(l,())=>(l,())):=by
 refine au Tryd.func68 (by kernel_rfl) (by kernel_rfl) ?_
 rintro⟨(l:List En),⟨⟩⟩ _ ⟨(hl:l.length≤100000),_⟩ X hX hz
 refine go hz hX aH.Ok.nil Tryd.func68 (alA l) ⟨fun h=> ?_,fun _=>⟨by omega, ?_⟩⟩
 ·obtain rfl:=List.eq_nil_of_length_eq_zero h
  exact aT ([],()) rfl (by kernel_rfl)
 ·exact aT (l,()) rfl (by kernel_rfl)
theorem apC{Z:a8}:dm P Z 106 [wH] [wH] (fun(l,())=>[(l:List Br).length≤100000]) (fun(l,())=>(l,())):=by
 refine au Tryd.func106 (by kernel_rfl) (by kernel_rfl) ?_
 rintro⟨(l:List Br),⟨⟩⟩ _ ⟨(hl:l.length≤100000),_⟩ X hX hz
 refine go hz hX aH.Ok.nil Tryd.func106 (alB l) ⟨fun h=> ?_,fun _=>⟨by omega, ?_⟩⟩
 ·obtain rfl:=List.eq_nil_of_length_eq_zero h
  exact aT ([],()) rfl (by kernel_rfl)
 ·exact aT (l,()) rfl (by kernel_rfl)
theorem xS{Z:a8}:adu.Ok P Z:=aH.Ok.cons adw.sum (aH.Ok.cons apC.sum aH.Ok.nil)
theorem alF{Z:a8}:dm P Z 100 [nX,bo] [nX,nX] (fun(l,k,())=>[(l:List En).length≤100000,0≤(k:Int),(l=[]∨k≤(l.length:Int))]) (fun(l,k,())=>(List.take (Int.toNat k) l,List.drop (Int.toNat k) l,())):=by
 refine au Tryd.func100 (by kernel_rfl) (by kernel_rfl) ?_
 rintro⟨(l:List En),(k:Int),⟨⟩⟩ _ ⟨(hl:l.length≤100000),(h0:0≤k),(hk:l=[]∨k≤(l.length:Int)),_⟩ X hX hz
 show Safe P 100 X (Ends [nX,nX] (l.take k.toNat,l.drop k.toNat,())) _
 refine go hz hX xS Tryd.func100 (aiY l k) ⟨fun h=> ?_,fun h=> ?_⟩
 ·obtain rfl:l=[]:=List.eq_nil_of_length_eq_zero (by have:(l.length:Int)=0:=by simpa using h
                                                     omega)
  refine aT (rs:=[nX,nX]) ([],[],()) ?_ (by kernel_rfl)
  show(List.take k.toNat ([]:List En),List.drop k.toNat ([]:List En),())=([],[],())
  rw[List.take_nil,List.drop_nil]
 ·have hk:k≤(l.length:Int):=hk.elim (fun e=>by subst e;simp at h) id
  have e1:List.drop (Int.toNat 0) (List.take k.toNat l)=l.take k.toNat:=rfl
  have e2:List.drop k.toNat (List.take ((l.length:Int)).toNat l)=l.drop k.toNat:=by rw[List.take_of_length_le (by omega)]
  refine⟨by omega,h0,hk, ?_,h0,hk,by omega, ?_, ?_⟩
  ·rw[e1,List.length_take];omega
  ·rw[e2,List.length_drop];omega
  ·exact aT (List.drop (Int.toNat 0) (List.take k.toNat l),List.drop k.toNat (List.take ((l.length:Int)).toNat l),()) (by rw[e2];rfl) (by kernel_rfl)
theorem alG{Z:a8}:dm P Z 101 [wH,bo] [wH,wH] (fun(l,k,())=>[(l:List Br).length≤100000,0≤(k:Int),(l=[]∨k≤(l.length:Int))]) (fun(l,k,())=>(List.take (Int.toNat k) l,List.drop (Int.toNat k) l,())):=by
 refine au Tryd.func101 (by kernel_rfl) (by kernel_rfl) ?_
 rintro⟨(l:List Br),(k:Int),⟨⟩⟩ _ ⟨(hl:l.length≤100000),(h0:0≤k),(hk:l=[]∨k≤(l.length:Int)),_⟩ X hX hz
 show Safe P 101 X (Ends [wH,wH] (l.take k.toNat,l.drop k.toNat,())) _
 refine go hz hX xS Tryd.func101 (aiZ l k) ⟨fun h=> ?_,fun h=> ?_⟩
 ·obtain rfl:l=[]:=List.eq_nil_of_length_eq_zero (by have:(l.length:Int)=0:=by simpa using h
                                                     omega)
  refine aT (rs:=[wH,wH]) ([],[],()) ?_ (by kernel_rfl)
  show(List.take k.toNat ([]:List Br),List.drop k.toNat ([]:List Br),())=([],[],())
  rw[List.take_nil,List.drop_nil]
 ·have hk:k≤(l.length:Int):=hk.elim (fun e=>by subst e;simp at h) id
  have e1:List.drop (Int.toNat 0) (List.take k.toNat l)=l.take k.toNat:=rfl
  have e2:List.drop k.toNat (List.take ((l.length:Int)).toNat l)=l.drop k.toNat:=by rw[List.take_of_length_le (by omega)]
  refine⟨by omega,h0,hk, ?_,h0,hk,by omega, ?_, ?_⟩
  ·rw[e1,List.length_take];omega
  ·rw[e2,List.length_drop];omega
  ·exact aT (List.drop (Int.toNat 0) (List.take k.toNat l),List.drop k.toNat (List.take ((l.length:Int)).toNat l),()) (by rw[e2];rfl) (by kernel_rfl)
def jh(zs:List Int)(k:Nat):Int:=imax (zs.take k).sum (zs.sum - (zs.take k).sum)
def gJ(zs:List Int):Nat→Nat×Int
 |0=>(0,0)
 |k+1=>if(gJ zs k).1=0∨jh zs (k+1)<(gJ zs k).2 then(k+1,jh zs (k+1))else gJ zs k
theorem nL(zs:List Int):∀k,(gJ zs k).1≤k
 |0=>Nat.le_refl _
 |k+1=>by
  have:=nL zs k
  rw[gJ]
  split
  ·exact Nat.le_refl _
  ·omega
theorem ni(zs:List Int):∀k,0<k→0<(gJ zs k).1
 |0,h=>absurd h (by omega)
 |k+1,_=>by
  rw[gJ]
  split
  ·exact Nat.succ_pos _
  ·rename_i h
   exact Nat.pos_of_ne_zero (fun e=>h (.inl e))
def dG(es:List En)(bs:List Br):Nat:=(gJ (aE es bs) (es.length+bs.length - 1)).1
def di(l:Bool)(es:List En)(bs:List Br):Bool:=cT l es bs&&decide (2≤es.length+bs.length)
def bI(l:Bool)(es:List En)(bs:List Br):Bool:=di l es bs&&l
def aX(l:Bool)(es:List En)(bs:List Br):List En:=if di l es bs=true then es.take (dG es bs)else []
def cF(l:Bool)(es:List En)(bs:List Br):List En:=if di l es bs=true then es.drop (dG es bs)else []
def a6(l:Bool)(es:List En)(bs:List Br):List Br:=if di l es bs=true then bs.take (dG es bs)else []
def cN(l:Bool)(es:List En)(bs:List Br):List Br:=if di l es bs=true then bs.drop (dG es bs)else []
def spC(l:Bool)(es:List En)(bs:List Br):Int:=if di l es bs=true then 0 else 4
abbrev spY(l:Bool)(es:List En)(bs:List Br):AL [ei,ei,bo]:=((bI l es bs,aX l es bs,a6 l es bs,()),(bI l es bs,cF l es bs,cN l es bs,()),spC l es bs,())
theorem apD{l:Bool}{es:List En}{bs:List Br}(h:di l es bs=false):spY l es bs=((false,[],[],()),(false,[],[],()),4,()):=by
 simp[spY,bI,aX,cF,a6,cN,spC,h]
 rfl
theorem alH{l:Bool}{es:List En}{bs:List Br}(h:di l es bs=true):spY l es bs=((l,es.take (dG es bs),bs.take (dG es bs),()),(l,es.drop (dG es bs),bs.drop (dG es bs),()),0,()):=by
 simp[spY,bI,aX,cF,a6,cN,spC,h]
 rfl
theorem vn(es:List En)(bs:List Br):(aE es bs).length=es.length+bs.length:=by simp[aE]
theorem agE{zs:List Int}(h:∀x∈zs,0≤x∧x≤2002)(hl:zs.length≤2000)(k:Nat):0≤(zs.take k).sum∧(zs.take k).sum≤4004000:=by
 have:=nK (l:=zs.take k) (m:=2002) (fun x hx=>h x (List.mem_of_mem_take hx)) (by omega)
 have h3:(zs.take k).length≤2000:=by rw[List.length_take];omega
 omega
theorem ai0{Z:a8}:dm P Z 84 [ei] [ei,ei,bo] (fun((_,es,bs,()),())=>[aY es,aZ bs])
 (fun((l,es,bs,()),())=>((bI l es bs,aX l es bs,a6 l es bs,()),(bI l es bs,cF l es bs,cN l es bs,()),spC l es bs,())):=by
 refine au Tryd.func84 (by kernel_rfl) (by kernel_rfl) ?_
 rintro⟨⟨(l:Bool),(es:List En),(bs:List Br),⟨⟩⟩,⟨⟩⟩ _ ⟨(he:aY es),(hb:aZ bs),_⟩ X hX hz
 have hT:adv.Ok P Z:=aH.Ok.cons qk.sum (aH.Ok.cons adk.sum (aH.Ok.cons aeP.sum (aH.Ok.cons alF.sum (aH.Ok.cons alG.sum aH.Ok.nil))))
 show Safe P 84 X (Ends [ei,ei,bo] (spY l es bs)) _
 have hle:=he.1
 have hlb:=hb.1
 have hlen:=vn es bs
 have hr:=xM he hb
 have lg:=agE hr (by omega)
 have at7:=lg (aE es bs).length
 rw[List.take_length]at at7
 have bF:=na es bs
 have loop:di l es bs=true→∀(n k:Nat),k+n=es.length+bs.length - 1→Safe P 84 X (Ends [ei,ei,bo] (spY l es bs))
  (arT l es bs (aE es bs) (es.length+bs.length - 1) ((aE es bs).take k).sum ((aE es bs).sum - ((aE es bs).take k).sum) ((gJ (aE es bs) k).1:Int) (gJ (aE es bs) k).2 (k:Int)):=by
  intro jO n
  have arU:=jO
  simp only[di,Bool.and_eq_true,decide_eq_true_eq]at arU
  obtain⟨hm,h2⟩:=arU
  obtain⟨m1,m2,m3,m4⟩:=dA hm
  induction n with
  |zero=>
   intro k hk
   have au7:=nL (aE es bs) k
   have hE:es=[]∨((gJ (aE es bs) k).1:Int)≤(es.length:Int):=by
    cases l
    ·exact .inl (m2 rfl)
    ·have:=m1 rfl
     subst this
     simp only[List.length_nil]at hk
     exact .inr (by omega)
   have hB:bs=[]∨((gJ (aE es bs) k).1:Int)≤(bs.length:Int):=by
    cases l
    ·have:=m2 rfl
     subst this
     simp only[List.length_nil]at hk
     exact .inr (by omega)
    ·exact .inl (m1 rfl)
   refine go hz hX hT Tryd.func84 (aeZ l es bs _ _ _ _ _ _ k) ⟨fun h=>absurd (of_decide_eq_true h) (by omega),fun h=>⟨by omega,Int.natCast_nonneg _,hE,by omega,Int.natCast_nonneg _,hB, ?_⟩⟩
   have arV:(gJ (aE es bs) k).1=dG es bs:=by rw[dG,show k=es.length+bs.length - 1 from by omega]
   rw[arV,alH jO]
   exact aT ((l,es.take (dG es bs),bs.take (dG es bs),()),(l,es.drop (dG es bs),bs.drop (dG es bs),()),0,()) rfl (by kernel_rfl)
  |succ n ih=>
   intro k hk
   have h1:=lg k
   have h3:0≤(aE es bs).getD k 0∧(aE es bs).getD k 0≤2002:=by
    rw[bd (by omega)];exact hr _ (List.getElem_mem _)
   have mf:=ix (l:=aE es bs) (k:=k) (by omega)
   have hc:imax (((aE es bs).take k).sum+(aE es bs).getD k 0) ((aE es bs).sum - ((aE es bs).take k).sum - (aE es bs).getD k 0)=jh (aE es bs) (k+1):=by
    rw[jh,←mf];congr 1;omega
   have next:=ih (k+1) (by omega)
   rw[←mf,show(aE es bs).sum - (((aE es bs).take k).sum+(aE es bs).getD k 0)=(aE es bs).sum - ((aE es bs).take k).sum - (aE es bs).getD k 0 from by omega]at next
   refine go hz hX hT Tryd.func84 (aeZ l es bs _ _ _ _ _ _ k) ?_
   simp only[Int.toNat_natCast,Nat.zero_add,hc]
   refine⟨fun h=>⟨by omega,by omega,⟨by omega,by omega⟩,⟨by omega,by omega⟩,fun h0=> ?_,fun h0=>⟨fun a7=> ?_,fun a7=> ?_⟩⟩,fun h=>absurd (of_decide_eq_false h) (by omega)⟩
   ·have h0:(gJ (aE es bs) k).1=0:=by have:((gJ (aE es bs) k).1:Int)=0:=by simpa using h0
                                      omega
    rw[gJ,if_pos (.inl h0)]at next
    exact⟨⟨by omega,by omega⟩,⟨by omega,by omega⟩,next⟩
   ·rw[gJ,if_pos (.inr (of_decide_eq_true a7))]at next
    exact⟨⟨by omega,by omega⟩,⟨by omega,by omega⟩,next⟩
   ·have h0:¬((gJ (aE es bs) k).1=0∨jh (aE es bs) (k+1)<(gJ (aE es bs) k).2):=by
     rintro(h|h)
     ·simp[h]at h0
     ·exact of_decide_eq_false a7 h
    rw[gJ,if_neg h0]at next
    exact⟨⟨by omega,by omega⟩,next⟩
 have bad:di l es bs=false→spY l es bs=((false,[],[],()),(false,[],[],()),4,()):=apD
 refine go hz hX hT Tryd.func84 (alC l es bs) ⟨he,hb,fun h=>aT ((false,[],[],()),(false,[],[],()),4,()) (bad ?_) (by kernel_rfl),fun h=>⟨fun h2=>aT ((false,[],[],()),(false,[],[],()),4,()) (bad ?_) (by kernel_rfl),fun h2=> ?_⟩⟩
 ·have h:cT l es bs=false:=by simpa using h
  simp[di,h]
 ·have h2:=of_decide_eq_true h2
  simp only[di,Bool.and_eq_false_iff,decide_eq_false_iff_not]
  exact .inr (by omega)
 ·have h:cT l es bs=true:=by simpa using h
  have h2:=of_decide_eq_false h2
  have jO:di l es bs=true:=by simp only[di,h,Bool.true_and,decide_eq_true_eq];omega
  refine⟨he,hb,⟨by omega,by omega⟩,⟨by omega,by omega⟩,by omega,by omega,by omega, ?_⟩
  have:=loop jO (es.length+bs.length - 1) 0 (by omega)
  have e1:((((aE es bs).length:Int) - 1).toNat - Int.toNat 0)=es.length+bs.length - 1:=by omega
  rw[e1,bF]
  simp only[List.take_zero,List.sum_nil,Int.sub_zero,gJ]at this
  rw[show 1+(aE es bs).sum - 1=(aE es bs).sum from by omega]
  exact this
theorem abp{es:List En}(h:aY es)(k:Nat):aY (es.take k):=⟨by have:=h.1;rw[List.length_take];omega,fun x hx=>h.2 x (List.mem_of_mem_take hx)⟩
theorem abq{es:List Br}(h:aZ es)(k:Nat):aZ (es.take k):=⟨by have:=h.1;rw[List.length_take];omega,fun x hx=>h.2 x (List.mem_of_mem_take hx)⟩
theorem abr{es:List En}(h:aY es)(k:Nat):aY (es.drop k):=⟨by have:=h.1;rw[List.length_drop];omega,fun x hx=>h.2 x (List.mem_of_mem_drop hx)⟩
theorem abt{es:List Br}(h:aZ es)(k:Nat):aZ (es.drop k):=⟨by have:=h.1;rw[List.length_drop];omega,fun x hx=>h.2 x (List.mem_of_mem_drop hx)⟩
theorem ie:aY []:=⟨by simp,fun x hx=>by simp at hx⟩
theorem vp:aZ []:=⟨by simp,fun x hx=>by simp at hx⟩
theorem abu(zs:List Int)(k:Nat):(zs.drop k).sum=zs.sum - (zs.take k).sum:=by
 have:(zs.take k++zs.drop k).sum=zs.sum:=by rw[List.take_append_drop]
 rw[List.sum_append]at this
 omega
theorem agF{l:Bool}{es:List En}{bs:List Br}(m1:l=true→bs=[])(m2:l=false→es=[])(k:Nat):
 alD l (es.take k)=es.take k∧alE l (bs.take k)=bs.take k∧alD l (es.drop k)=es.drop k∧alE l (bs.drop k)=bs.drop k∧
 ba (es.take k) (bs.take k)=1+((aE es bs).take k).sum∧ba (es.drop k) (bs.drop k)=1+((aE es bs).sum - ((aE es bs).take k).sum):=by
 rw[←abu]
 cases l
 ·obtain rfl:=m2 rfl
  simp[alD,alE,aE,ba]
 ·obtain rfl:=m1 rfl
  simp[alD,alE,aE,ba]
theorem ai1(a b:Int):imax (1+a) (1+b)=1+imax a b:=by
 unfold imax;split<;>split<;>omega
end Lf
namespace Lf
open Go Go.Sx Go.Proofs
abbrev zy:=bW [nX,dD] [bo,cf] (fun(l,_,())=>[(l:List En).length≤1000000,gW (bu l)]) (fun(l,key,())=>((b8 (bu l) key:Nat),jf (bu l) key,()))
def alI:aH:=[(58,zy)]
theorem ai2(l:List En)(key:ByteArray):run P alI.sum Tryd.f38 [] (start Tryd.f38 [.s (.ro (.ad cE l)),.s (.str key)] [])=
 Tree.need (l.length≤1000000) (.need (gW (bu l)) (.ite (!jf (bu l) key) (.ret [] (.bm [.s (.str ByteArray.empty),.s (.aI false)])) (.need ((0:Int)≤(↑(b8 (bu l) key):bo.V)) (.need ((↑(b8 (bu l) key):bo.V)<(↑l.length:Int)) (.ret [] (.bm [.s (.str (l.getD (Int.toNat (↑(b8 (bu l) key):bo.V)) (CL.d [.str,.str])).snd.fst),.s (.aI true)])))))):=by kernel_rfl
theorem adx(l:List En)(i j:Int):run P kI.sum Tryd.f70 [] (start Tryd.f70 [.vec 0,.s (.int .i64 i),.s (.int .i64 j)] [.vec (.ad cE l) eE])=
 Tree.need ((0:Int)≤i) (.need (i≤j) (.need (j≤(↑l.length:Int)) (.need ((↑(0:Nat):Int)+(↑l.length:Int)≤(↑l.length:Int)) (.ite (i==j) (.ret [.vec (.ad [.str,.str] l) 34] (.vec 0)) (.need ((0:Int)≤0) (.need ((0:Int)≤i) (.need ((↑(0:Nat):Int)+i≤(↑l.length:Int)) (.need ((0:Int)≤j) (.need (j≤(↑l.length:Int)) (.need ((↑(0:Nat):Int)+(↑l.length:Int)≤(↑l.length:Int)) (.need ((0:Nat)+(i.toNat - Int.toNat 0)+(List.drop ((0:Nat)+j.toNat) (List.take ((0:Nat)+j.toNat+((↑l.length:Int).toNat - j.toNat)) l)).length≤l.length) (.need ((0:Int)≤(↑(i.toNat - Int.toNat (0:Int)+(List.drop ((0:Nat)+j.toNat) (List.take ((0:Nat)+j.toNat+((↑l.length:Int).toNat - j.toNat)) l)).length):Int)) (.need ((↑(i.toNat - Int.toNat (0:Int)+(List.drop ((0:Nat)+j.toNat) (List.take ((0:Nat)+j.toNat+((↑l.length:Int).toNat - j.toNat)) l)).length):Int)≤(↑l.length:Int)) (.need ((↑(0:Nat):Int)+(↑l.length:Int)≤(↑(over l ((0:Nat)+(i.toNat - Int.toNat 0)) (List.drop ((0:Nat)+j.toNat) (List.take ((0:Nat)+j.toNat+((↑l.length:Int).toNat - j.toNat)) l)).length (List.drop ((0:Nat)+j.toNat) (List.take ((0:Nat)+j.toNat+((↑l.length:Int).toNat - j.toNat)) l))).length:Int)) (.ret [.vec (.ad [.str,.str] (over (over l ((0:Nat)+(i.toNat - Int.toNat 0)) (List.drop ((0:Nat)+j.toNat) (List.take ((0:Nat)+j.toNat+((↑l.length:Int).toNat - j.toNat)) l)).length (List.drop ((0:Nat)+j.toNat) (List.take ((0:Nat)+j.toNat+((↑l.length:Int).toNat - j.toNat)) l))) ((0:Nat)+(↑(i.toNat - Int.toNat (0:Int)+(List.drop ((0:Nat)+j.toNat) (List.take ((0:Nat)+j.toNat+((↑l.length:Int).toNat - j.toNat)) l)).length):Int).toNat) ((↑l.length:Int).toNat - (↑(i.toNat - Int.toNat (0:Int)+(List.drop ((0:Nat)+j.toNat) (List.take ((0:Nat)+j.toNat+((↑l.length:Int).toNat - j.toNat)) l)).length):Int).toNat) (List.replicate ((↑l.length:Int).toNat - (↑(i.toNat - Int.toNat (0:Int)+(List.drop ((0:Nat)+j.toNat) (List.take ((0:Nat)+j.toNat+((↑l.length:Int).toNat - j.toNat)) l)).length):Int).toNat) (CL.d [.str,.str])))) 34] (.part 0 0 (i.toNat - Int.toNat (0:Int)+(List.drop ((0:Nat)+j.toNat) (List.take ((0:Nat)+j.toNat+((↑l.length:Int).toNat - j.toNat)) l)).length))))))))))))))))):=by kernel_rfl
theorem drop_cons{α:Type}{l:List α}{k:Nat}(d:α)(h:k<l.length):l.drop k=l.getD k d::l.drop (k+1):=by rw[List.drop_eq_getElem_cons h,bd h]
abbrev ot(key:ByteArray)(x:En):Bool:=decide (x.1=key)
def nj(l:List En)(key:ByteArray):ByteArray:=match l.find? (ot key)with|some x=>x.2.1|none=>ByteArray.empty
def lB(l:List En)(key:ByteArray):Bool:=(l.find? (ot key)).isSome
theorem ae0{L:List ae}{s:ByteArray}{b:Bool}:Ends [dD,cf] (s,b,()) L (.bm [.s (.str s),.s (.aI b)]):=rfl
theorem ae1{l:List En}(hs:gW (bu l)){i j:Nat}(hi:i<l.length)(hj:j<l.length)(h:(l.getD i dE).1=(l.getD j dE).1):i=j:=by
 have hk:∀t,(bu l).getD t ByteArray.empty=(l.getD t dE).1:=fun t=>cq l oY dE t
 have hn:(bu l).length=l.length:=List.length_map _
 rcases Nat.lt_trichotomy i j with h1|h1|h1
 ·have:=hs i j h1 (by omega);rw[hk,hk,h,dz]at this;cases this
 ·exact h1
 ·have:=hs j i h1 (by omega);rw[hk,hk,h,dz]at this;cases this
theorem zz{l:List En}{key:ByteArray}(hs:gW (bu l)):lB l key=jf (bu l) key∧(jf (bu l) key=true→b8 (bu l) key<l.length∧nj l key=(l.getD (b8 (bu l) key) dE).2.1):=by
 have hk:∀t,(bu l).getD t ByteArray.empty=(l.getD t dE).1:=fun t=>cq l oY dE t
 have hn:(bu l).length=l.length:=List.length_map _
 cases ha:jf (bu l) key
 ·refine⟨?_,fun h=>by cases h⟩
  cases hf:l.find? (ot key)with
  |none=>rw[lB,hf];rfl
  |some x=>
   exfalso
   have h1:=List.find?_some hf
   obtain⟨i,hi,rfl⟩:=List.getElem_of_mem (List.mem_of_find?_eq_some hf)
   have h1:l[i].1=key:=of_decide_eq_true h1
   have h2:(l.getD i dE).1=key:=by rw[bd hi];exact h1
   rcases Nat.lt_or_ge i (b8 (bu l) key)with h3|h3
   ·have:=adp h3;rw[hk,h2,dz]at this;cases this
   ·rcases Nat.eq_or_lt_of_le h3 with h4|h4
    ·have:jf (bu l) key=true:=js.2 ⟨by omega,by rw[hk,h4];exact h2⟩
     rw[ha]at this;cases this
    ·have h5:=aiR hs (key:=key) (t:=b8 (bu l) key) (Nat.le_refl _) (by omega)
     have h6:=hs _ _ h4 (by omega)
     rw[hk i,h2]at h6
     rw[h6]at h5;cases h5
 ·obtain⟨h1,h2⟩:=js.1 ha
  rw[hk]at h2
  rw[hn]at h1
  cases hf:l.find? (ot key)with
  |none=>
   exfalso
   have:=List.find?_eq_none.1 hf (l.getD (b8 (bu l) key) dE) (by rw[bd h1];exact List.getElem_mem _)
   exact this (decide_eq_true h2)
  |some x=>
   obtain⟨i,hi,rfl⟩:=List.getElem_of_mem (List.mem_of_find?_eq_some hf)
   have h3:=List.find?_some hf
   have h3:l[i].1=key:=of_decide_eq_true h3
   have e:i=b8 (bu l) key:=ae1 hs hi h1 (by rw[h2,bd hi];exact h3)
   subst e
   exact⟨by rw[lB,hf];rfl,fun _=>⟨h1,by rw[nj,hf,bd hi]⟩⟩
theorem alJ{Z:a8}:dm P Z 38 [nX,dD] [dD,cf] (fun(l,_,())=>[(l:List En).length≤1000000,gW (bu l)]) (fun(l,key,())=>(nj l key,lB l key,())):=by
 refine au Tryd.func38 (by kernel_rfl) (by kernel_rfl) ?_
 rintro⟨(l:List En),(key:ByteArray),⟨⟩⟩ _ ⟨(hl:l.length≤1000000),(hs:gW (bu l)),_⟩ X hX hz
 show Safe P 38 X (Ends [dD,cf] (nj l key,lB l key,())) _
 obtain⟨h1,h2⟩:=zz (key:=key) hs
 refine go hz hX (aH.Ok.cons rB.sum aH.Ok.nil) Tryd.func38 (ai2 l key) ⟨hl,hs,fun h=> ?_,fun h=> ?_⟩
 ·have h:jf (bu l) key=false:=by simpa using h
  have e2:lB l key=false:=by rw[h1,h]
  have e1:nj l key=ByteArray.empty:=by
   cases hf:l.find? (ot key)with
   |none=>rw[nj,hf]
   |some x=>rw[lB,hf]at e2;cases e2
  rw[e1,e2];exact ae0
 ·have h:jf (bu l) key=true:=by simpa using h
  obtain⟨h3,h4⟩:=h2 h
  rw[h4,h1,h]
  refine⟨Int.natCast_nonneg _, ?_,ae0⟩
  show((b8 (bu l) key:Nat):Int)<_;omega
def vq(key val:ByteArray):Bool→List En→List En
 |dn,[]=>if dn=true then []else [(key,val,())]
 |dn,x::r=>if dn=false∧slt x.1 key=false then(if x.1=key then(key,val,())::vq key val true r else(key,val,())::x::vq key val true r)else x::vq key val dn r
def bS(l:List En)(key:ByteArray):List En:=l.filter fun x=> !ot key x
def fL(l:List En)(key:ByteArray):Bool:=decide (((bS l key).length:Int)<(l.length:Int))
theorem xT(x:En)(r:List En)(key:ByteArray):bS (x::r) key=if(!ot key x)=true then x::bS r key else bS r key:=by
 unfold bS;rw[List.filter_cons]
end Lf
namespace Lf
open Go Go.Sx Go.Proofs
abbrev wK(l:List En)(j:Int):List En:=List.drop ((0:Nat)+j.toNat) (List.take ((0:Nat)+j.toNat+(((l.length:Int)).toNat - j.toNat)) l)
abbrev rE(l:List En)(i j:Int):Nat:=i.toNat - Int.toNat (0:Int)+(wK l j).length
abbrev agG(l:List En)(i j:Int):List En:=over (over l ((0:Nat)+(i.toNat - Int.toNat (0:Int))) (wK l j).length (wK l j)) ((0:Nat)+((rE l i j:Nat):Int).toNat) (((l.length:Int)).toNat - ((rE l i j:Nat):Int).toNat) (List.replicate (((l.length:Int)).toNat - ((rE l i j:Nat):Int).toNat) (CL.d cE))
def ae2:Spec (List En×Int×Int):=⟨fun x=>[.vec 0,.s (.int .i64 x.2.1),.s (.int .i64 x.2.2)],fun x=>[.vec (.ad cE x.1) eE],fun x=>[0≤x.2.1,x.2.1<x.2.2,x.2.2≤((x.1.length:Nat):Int)],fun x=>[.vec (.ad cE (agG x.1 x.2.1 x.2.2)) eE],fun x=>.part 0 0 (rE x.1 x.2.1 x.2.2)⟩
def arW:List AV→RM ((List En×Int×Int)×List Nat)
 |[.vec id,.s (.int .i64 i),.s (.int .i64 j)]=>.look id fun
  |some (.vec (.ad [.str,.str] l) _)=>.ret ((l,i,j),[id])
  |_=>.fail "delete: no row"
 |_=>.fail "delete"
def ai3:aH:=[(58,zy),(68,apB),(70,dJ ae2 arW)]
theorem alK(l:List En)(key:ByteArray):run P ai3.sum Tryd.f52 [] (start Tryd.f52 [.s (.ro (.ad cE l)),.s (.str key)] [])=
 Tree.need (l.length≤1000000) (.need (gW (bu l)) (.need (l.length≤100000) (.ite (jf (bu l) key) (.need (ax ((↑(b8 (bu l) key):bo.V)+1)) (.need (bK (some [AV.vec 0,.s (.int .i64 (↑(b8 (bu l) key):bo.V)),.s (.int .i64 ((↑(b8 (bu l) key):bo.V)+1))])) (.need (bK (some [ae.vec (.ad [.str,.str] l) 34])) (.need ((0:Int)≤(↑(b8 (bu l) key):bo.V)) (.need ((↑(b8 (bu l) key):bo.V)<(↑(b8 (bu l) key):bo.V)+1) (.need ((↑(b8 (bu l) key):bo.V)+1≤(↑l.length:Int)) (.ret [.vec (.ad [.str,.str] (agG l (↑(b8 (bu l) key):bo.V) ((↑(b8 (bu l) key):bo.V)+1))) 34] (.bm [.part 0 0 (rE l (↑(b8 (bu l) key):bo.V) ((↑(b8 (bu l) key):bo.V)+1)),.s (.bool (jf (bu l) key))])))))))) (.ret [.vec (.ad [.str,.str] l) 34] (.bm [.vec 0,.s (.bool (jf (bu l) key))]))))):=by kernel_rfl
theorem agH{Z:a8}:ke P Z 70 ae2:=by
 refine aR Tryd.func70 (by kernel_rfl) (fun x=>Nat.le_of_ble_eq_true (by kernel_rfl)) ?_
 rintro⟨(l:List En),(i:Int),(j:Int)⟩ ⟨(h1:0≤i),(h2:i<j),(h3:j≤(l.length:Int)),_⟩ X hX hz
 have e1:(wK l j).length=l.length - j.toNat:=by simp only[wK,List.length_drop,List.length_take];omega
 refine eH hz hX (by simp) aH.Ok.nil Tryd.func70 (adx l i j) ⟨h1,by omega,h3,by omega,fun h=>absurd h (by simp;omega),fun _=>⟨by omega,h1,by omega,by omega,h3,by omega, ?_, ?_, ?_, ?_,⟨⟨[],[0],1,[]⟩,Nat.le_refl _, ?_⟩⟩⟩
 ·show 0+(i.toNat - Int.toNat 0)+(wK l j).length≤l.length;rw[e1];omega
 ·show(0:Int)≤((rE l i j:Nat):Int);omega
 ·show((rE l i j:Nat):Int)≤_;simp only[rE,e1];omega
 ·show((0:Nat):Int)+(l.length:Int)≤((over l (0+(i.toNat - Int.toNat 0)) (wK l j).length (wK l j)).length:Int)
  simp only[over,List.length_append,List.length_take,List.length_drop,e1];omega
 ·show Norm.run _ _=some ⟨[.part 0 0 (rE l i j)],[.vec (.ad cE (agG l i j)) eE],[],{}⟩
  kernel_rfl
theorem ai4{l:List En}{key:ByteArray}(hs:gW (bu l)):(jf (bu l) key=false→bS l key=l)∧(jf (bu l) key=true→bS l key=l.take (b8 (bu l) key)++l.drop (b8 (bu l) key+1)):=by
 have hk:∀t,(bu l).getD t ByteArray.empty=(l.getD t dE).1:=fun t=>cq l oY dE t
 have hn:(bu l).length=l.length:=List.length_map _
 obtain⟨f1,f2⟩:=zz (key:=key) hs
 refine⟨fun h=> ?_,fun h=> ?_⟩
 ·rw[h]at f1
  refine List.filter_eq_self.2 fun x hx=> ?_
  have:l.find? (ot key)=none:=by
   cases hf:l.find? (ot key)with
   |none=>rfl
   |some y=>rw[lB,hf]at f1;cases f1
  have:=List.find?_eq_none.1 this x hx
  cases hb:ot key x
  ·rfl
  ·exact absurd hb this
 ·obtain⟨h1,h2⟩:=js.1 h
  rw[hk]at h2
  rw[hn]at h1
  have e:l=l.take (b8 (bu l) key)++l.getD (b8 (bu l) key) dE::l.drop (b8 (bu l) key+1):=by rw[←drop_cons dE h1,List.take_append_drop]
  have other:∀i,i<l.length→i≠b8 (bu l) key→(!ot key (l.getD i dE))=true:=fun i hi b9=>by
   cases hb:ot key (l.getD i dE)
   ·rfl
   ·exact absurd (ae1 hs hi h1 ((show(l.getD i dE).1=key from of_decide_eq_true hb).trans h2.symm)) b9
  have g1:bS (l.take (b8 (bu l) key)) key=l.take (b8 (bu l) key):=by
   refine List.filter_eq_self.2 fun x hx=> ?_
   obtain⟨i,hi,rfl⟩:=List.getElem_of_mem hx
   rw[List.length_take]at hi
   have:=other i (by omega) (by omega)
   rw[bd (by omega)]at this
   rw[List.getElem_take];exact this
  have g2:bS (l.drop (b8 (bu l) key+1)) key=l.drop (b8 (bu l) key+1):=by
   refine List.filter_eq_self.2 fun x hx=> ?_
   obtain⟨i,hi,rfl⟩:=List.getElem_of_mem hx
   rw[List.length_drop]at hi
   have:=other (b8 (bu l) key+1+i) (by omega) (by omega)
   rw[bd (by omega)]at this
   rw[List.getElem_drop];exact this
  have app:∀a b:List En,bS (a++b) key=bS a key++bS b key:=fun a b=>List.filter_append ..
  have:bS l key=bS (l.take (b8 (bu l) key)++l.getD (b8 (bu l) key) dE::l.drop (b8 (bu l) key+1)) key:=by rw[←e]
  rw[this,app,xT,if_neg (show¬(!decide ((l.getD (b8 (bu l) key) dE).1=key))=true from by rw[decide_eq_true h2];simp),g1,g2]
theorem ae3{l:List En}{key:ByteArray}(hs:gW (bu l)):fL l key=jf (bu l) key:=by
 obtain⟨h1,h2⟩:=ai4 (key:=key) hs
 cases ha:jf (bu l) key
 ·rw[fL,h1 ha];simp
 ·obtain⟨h3,_⟩:=js.1 ha
  rw[List.length_map]at h3
  rw[fL,h2 ha]
  simp only[List.length_append,List.length_take,List.length_drop,decide_eq_true_eq]
  omega
theorem agI{l:List En}{k:Nat}(h:k<l.length):(agG l (k:Int) ((k:Int)+1)).take (rE l (k:Int) ((k:Int)+1))=l.take k++l.drop (k+1):=by
 have e0:wK l ((k:Int)+1)=l.drop (k+1):=by
  simp only[wK]
  rw[show 0+((k:Int)+1).toNat=k+1 from by omega,List.take_of_length_le (by omega)]
 have e1:rE l (k:Int) ((k:Int)+1)=l.length - 1:=by
  simp only[rE,e0,List.length_drop];omega
 simp only[agG,e0,e1,over]
 rw[show 0+((k:Int).toNat - Int.toNat 0)=k from by omega,show 0+(((l.length - 1:Nat):Int)).toNat=l.length - 1 from by omega,show k+(l.drop (k+1)).length=l.length - 1 from by rw[List.length_drop];omega]
 rw[List.take_of_length_le (l:=l.drop (k+1)) (Nat.le_refl _)]
 have hlen:(l.take k++l.drop (k+1)).length=l.length - 1:=by simp only[List.length_append,List.length_take,List.length_drop];omega
 rw[List.append_assoc,List.append_assoc,←List.append_assoc (l.take k),List.take_left' hlen,List.take_left' hlen]
theorem ai5{Z:a8}:dm P Z 52 [nX,dD] [nX,cf] (fun(l,_,())=>[(l:List En).length≤100000,gW (bu l)]) (fun(l,key,())=>(bS l key,fL l key,())):=by
 refine au Tryd.func52 (by kernel_rfl) (by kernel_rfl) ?_
 rintro⟨(l:List En),(key:ByteArray),⟨⟩⟩ _ ⟨(hl:l.length≤100000),(hs:gW (bu l)),_⟩ X hX hz
 show Safe P 52 X (Ends [nX,cf] (bS l key,fL l key,())) _
 have hT:ai3.Ok P Z:=aH.Ok.cons rB.sum (aH.Ok.cons adw.sum (aH.Ok.cons (agH.sum arW) aH.Ok.nil))
 obtain⟨d1,d2⟩:=ai4 (key:=key) hs
 have hb:=ae3 (key:=key) hs
 have hle:=uY (bu l) key
 rw[List.length_map]at hle
 refine go hz hX hT Tryd.func52 (alK l key) ⟨by omega,hs,hl,fun h=> ?_,fun h=> ?_⟩
 ·obtain⟨h3,_⟩:=js.1 h
  rw[List.length_map]at h3
  refine⟨⟨?_, ?_⟩,rfl,rfl, ?_, ?_, ?_, ?_⟩
  ·show(-9223372036854775808:Int)≤((b8 (bu l) key:Nat):Int)+1;omega
  ·show((b8 (bu l) key:Nat):Int)+1≤(9223372036854775807:Int);omega
  ·show(0:Int)≤((b8 (bu l) key:Nat):Int);omega
  ·show((b8 (bu l) key:Nat):Int)<((b8 (bu l) key:Nat):Int)+1;omega
  ·show((b8 (bu l) key:Nat):Int)+1≤(l.length:Int);omega
  ·refine aT (List.drop 0 ((agG l ((b8 (bu l) key:Nat):Int) (((b8 (bu l) key:Nat):Int)+1)).take (0+rE l ((b8 (bu l) key:Nat):Int) (((b8 (bu l) key:Nat):Int)+1))),jf (bu l) key,()) ?_ (by kernel_rfl)
   rw[d2 h,hb,Nat.zero_add,agI h3];rfl
 ·refine aT (l,jf (bu l) key,()) ?_ (by kernel_rfl)
  rw[d1 h,hb];rfl
end Lf
namespace Lf
open Go Go.Sx Go.Proofs
theorem nM(key val:ByteArray):∀l:List En,vq key val true l=l
 |[]=>rfl
 |x::r=>by rw[vq,if_neg (by simp),nM key val r]
def bt(l:List En)(key val:ByteArray):List En:=l.take (b8 (bu l) key)++(key,val,())::l.drop (if jf (bu l) key=true then b8 (bu l) key+1 else b8 (bu l) key)
theorem zA{x:En}{r:List En}{key:ByteArray}(h:slt x.1 key=true):b8 (bu (x::r)) key=b8 (bu r) key+1:=by simp[b8,bu,List.takeWhile,h]
theorem ady{x:En}{r:List En}{key:ByteArray}(h:slt x.1 key=false):b8 (bu (x::r)) key=0:=by simp[b8,bu,List.takeWhile,h]
theorem ae4{x:En}{r:List En}{key:ByteArray}(h:slt x.1 key=true):jf (bu (x::r)) key=jf (bu r) key:=by
 unfold jf
 rw[zA h]
 rfl
theorem ai6{x:En}{r:List En}{key:ByteArray}(h:slt x.1 key=false):jf (bu (x::r)) key=decide (x.1=key):=by
 unfold jf
 rw[ady h]
 simp[bu]
theorem put_eq(key val:ByteArray):∀l:List En,vq key val false l=bt l key val
 |[]=>rfl
 |x::r=>by
  rw[vq]
  cases hs:slt x.1 key
  ·rw[if_pos ⟨rfl,rfl⟩,bt,ady hs,ai6 hs,nM]
   by_cases hk:x.1=key
   ·rw[if_pos hk,decide_eq_true hk];rfl
   ·rw[if_neg hk,decide_eq_false hk];rfl
  ·rw[if_neg (by simp),put_eq key val r,bt,bt,zA hs,ae4 hs]
   cases jf (bu r) key<;>rfl
theorem zB{l:List En}{key val:ByteArray}:(bt l key val).length=l.length+(if jf (bu l) key=true then 0 else 1):=by
 have:=uY (bu l) key
 rw[List.length_map]at this
 cases ha:jf (bu l) key
 ·simp only[bt,ha,List.length_append,List.length_cons,List.length_take,List.length_drop]
  simp;omega
 ·have h1:=(js.1 ha).1
  rw[List.length_map]at h1
  simp only[bt,ha,List.length_append,List.length_cons,List.length_take,List.length_drop]
  simp;omega
abbrev ris(l:List En):Prop:=l.Pairwise fun a b=>slt a.1 b.1=true
theorem te{l:List En}:gW (bu l)↔ris l:=by
 have hk:∀t,(bu l).getD t ByteArray.empty=(l.getD t dE).1:=fun t=>cq l oY dE t
 have hn:(bu l).length=l.length:=List.length_map _
 rw[ris,List.pairwise_iff_getElem]
 constructor
 ·intro h i j hi hj kb
  have:=h i j kb (by omega)
  rw[hk,hk,bd hi,bd hj]at this
  exact this
 ·intro h i j kb hj
  rw[hn]at hj
  have:=h i j (by omega) hj kb
  rw[hk,hk,bd (by omega),bd hj]
  exact this
theorem ae5:∀{l:List En} (key val:ByteArray),ris l→ris (vq key val false l)∧∀a:En,slt a.1 key=true→(∀x∈l,slt a.1 x.1=true)→∀x∈vq key val false l,slt a.1 x.1=true
 |[],key,val,_=>by
  rw[vq,if_neg (by simp)]
  exact⟨List.pairwise_singleton ..,fun a h _ x hx=>by
   simp only[List.mem_singleton]at hx
   subst hx;exact h⟩
 |x::r,key,val,h=>by
  obtain⟨h1,h2⟩:=List.pairwise_cons.1 h
  obtain⟨g1,g2⟩:=ae5 (l:=r) key val h2
  rw[vq]
  split
  ·rename_i hc
   split
   ·rename_i hk
    rw[nM]
    refine⟨List.pairwise_cons.2 ⟨fun y hy=>by rw[show(key,val,()).1=x.1 from hk.symm];exact h1 y hy,h2⟩,fun a ha hl y hy=> ?_⟩
    rcases List.mem_cons.1 hy with rfl|hy
    ·exact ha
    ·exact hl y (List.mem_cons_of_mem _ hy)
   ·rename_i hk
    rw[nM]
    have a7:slt key x.1=true:=uN hc.2 hk
    refine⟨List.pairwise_cons.2 ⟨fun y hy=> ?_,h⟩,fun a ha hl y hy=> ?_⟩
    ·rcases List.mem_cons.1 hy with rfl|hy
     ·exact a7
     ·exact bT a7 (h1 y hy)
    ·rcases List.mem_cons.1 hy with rfl|hy
     ·exact ha
     ·exact hl y hy
  ·rename_i hc
   have hx:slt x.1 key=true:=by simpa using hc
   refine⟨List.pairwise_cons.2 ⟨fun y hy=>g2 x hx h1 y hy,g1⟩,fun a ha hl y hy=> ?_⟩
   rcases List.mem_cons.1 hy with rfl|hy
   ·exact hl _ (by simp)
   ·exact g2 a ha (fun z hz=>hl z (List.mem_cons_of_mem _ hz)) y hy
theorem alL{l:List En}(key val:ByteArray)(h:gW (bu l)):gW (bu (bt l key val)):=by
 rw[←put_eq]
 exact te.2 (ae5 key val (te.1 h)).1
theorem alM{l:List En}(key:ByteArray)(h:gW (bu l)):gW (bu (bS l key)):=te.2 (List.Pairwise.filter _ (te.1 h))
theorem alN{l:List En}{key:ByteArray}(h:gW (bu l)):lB l key=fL l key:=by rw[(zz h).1,ae3 h]
end Lf
namespace Go.Sx
open Go
section
variable{ρ aA:Nat→Value}{H H':aG}{G O O':Nat→Prop}{w w':World}{P:Program}{X:Ctx}{L:List ae}{K:List ae→AV→Prop}
theorem apE(hs:Sat ρ (lk L) G w){id:Nat}{c c2:aF}{e:TypeId}{root:Value}(de:L[id]? =some (.vec c e))(pL:∀b,dV root=some b→dV (ρ id)=some b)(dK:hP ρ (lk L) (aK ρ (lk L) G) w root (.vec c2 e)):
 ∃aA,Sat aA (lk (L.set id .dead++[.vec c2 e])) G w∧xy ρ L G w aA (L.set id .dead++[.vec c2 e])∧aA L.length=root:=by
 have a7:id<L.length:=(List.getElem?_eq_some_iff.1 de).1
 generalize hx:ae.vec c2 e=x
 have hxa:x.alive=true:=by rw[←hx];rfl
 have old:∀{k:Nat} {o:ae},(L.set id .dead++[x])[k]? =some o→(k=L.length∧o=x)∨(k=id∧o=.dead)∨(k≠id∧k≠L.length∧L[k]? =some o):=by
  intro k o ho
  have h2:=(List.getElem?_eq_some_iff.1 ho).1
  simp only[List.length_append,List.length_set,List.length_cons,List.length_nil]at h2
  by_cases hk:k=L.length
  ·subst hk
   rw[List.getElem?_append_right (by simp)]at ho
   simp at ho
   exact .inl ⟨rfl,ho.symm⟩
  ·rw[List.getElem?_append_left (by simp;omega),List.getElem?_set]at ho
   split at ho
   ·rename_i qK
    first
     |exact .inr (.inl ⟨qK.symm,by simpa using ho.symm⟩)
     |(rw[if_pos a7]at ho;exact .inr (.inl ⟨qK.symm,by simpa using ho.symm⟩))
   ·rename_i qK
    exact .inr (.inr ⟨Ne.symm qK,hk,ho⟩)
 have new:∀{k:Nat} {o:ae},L[k]? =some o→k≠id→(L.set id .dead++[x])[k]? =some o:=by
  intro k o ho hk
  have h1:=(List.getElem?_eq_some_iff.1 ho).1
  rw[List.getElem?_append_left (by simpa using h1),List.getElem?_set_ne (Ne.symm hk)]
  exact ho
 have aib:(L.set id .dead++[x])[id]? =some .dead:=by
  rw[List.getElem?_append_left (by simpa using a7),List.getElem?_set_self a7]
 have arf:(L.set id .dead++[x])[L.length]? =some x:=by
  rw[List.getElem?_append_right (by simp)]
  simp
 let aA:Nat→Value:=fun j=>if j=L.length then root else ρ j
 have dt:∀b,Own aA (lk (L.set id .dead++[x])) b→Own ρ (lk L) b:=by
  rintro b ⟨k,o,ho,ha,hb⟩
  rcases old ho with⟨h1,h2⟩|⟨h1,h2⟩|⟨h1,h2,h3⟩
  ·simp only[aA,h1,if_true]at hb
   exact⟨id,_,de,rfl,pL b hb⟩
  ·subst h2;cases ha
  ·simp only[aA,h2,if_false]at hb
   exact⟨k,o,h3,ha,hb⟩
 have st:xy ρ L G w aA (L.set id .dead++[x]):=by
  refine⟨fun k o ho=> ?_,fun k o ho=> ?_,fun b hb=>.inl ?_,fun _ _ _=>rfl,Nat.le_refl _⟩
  ·have h1:k<L.length:=(List.getElem?_eq_some_iff.1 ho).1
   simp only[aA]
   rw[if_neg (by omega)]
  ·by_cases hk:k=id
   ·subst hk
    exact⟨.dead,aib,fun c' e' hc=>by cases hc⟩
   ·exact⟨o,new ho hk,fun c' e' hc=>⟨c',e',hc,rfl,rfl⟩⟩
  ·rcases hb with hb|hb
   ·exact .inl (dt b hb)
   ·exact .inr hb
 refine⟨aA,⟨fun k o ho=> ?_,fun i j oi oj b hi hj ai aj bi bj=> ?_,fun b hb=>hs.apart b (dt b hb),hs.low⟩,st, ?_⟩
 ·rcases old ho with⟨h1,h2⟩|⟨h1,h2⟩|⟨h1,h2,h3⟩
  ·rw[h2]
   simp only[aA,h1,if_true]
   rw[hx]at dK
   exact dK.step st (fun _ _ _=>rfl)
  ·subst h2;trivial
  ·simp only[aA,h2,if_false]
   exact(hs.obj k o h3).step st (fun _ _ _=>rfl)
 ·have cls:∀{k:Nat} {o:ae},(L.set id .dead++[x])[k]? =some o→o.alive=true→dV (aA k)=some b→(k=L.length∧dV (ρ id)=some b)∨(k≠id∧k≠L.length∧L[k]? =some o∧dV (ρ k)=some b):=by
   intro k o ho ha hb
   rcases old ho with⟨h1,h2⟩|⟨h1,h2⟩|⟨h1,h2,h3⟩
   ·simp only[aA,h1,if_true]at hb
    exact .inl ⟨h1,pL b hb⟩
   ·subst h2;cases ha
   ·simp only[aA,h2,if_false]at hb
    exact .inr ⟨h1,h2,h3,hb⟩
  rcases cls hi ai bi with⟨h1,h2⟩|⟨h1,h2,h3,h4⟩<;>rcases cls hj aj bj with⟨k1,k2⟩|⟨k1,k2,k3,k4⟩
  ·rw[h1,k1]
  ·exact absurd (hs.inj j id oj _ b k3 de aj rfl k4 h2) k1
  ·exact absurd (hs.inj i id oi _ b h3 de ai rfl h4 k2) h1
  ·exact hs.inj i j oi oj b h3 k3 ai aj h4 k4
 ·simp only[aA,if_true]
def qm(c:aF)(m:Nat):aF:=.dU c.size (c.n+m) fun i j=>bif i.blt c.n then c.cell i j else .aN
theorem abv{tmps:List AV}{t:Nat}{y x:AV}(ht:tmps.getD t (.s .aN)=y)(hy:y≠.s .aN)(u:Nat):(tmps.set t x).getD u (.s .aN)=if u=t then x else tmps.getD u (.s .aN):=by
 have a7:t<tmps.length:=by
  rcases Nat.lt_or_ge t tmps.length with h|h
  ·exact h
  ·rw[List.getD,List.getElem?_eq_none h]at ht
   exact absurd ht.symm hy
 by_cases hu:u=t
 ·subst hu;rw[if_pos rfl];simp[List.getD,a7]
 ·rw[if_neg hu];simp[List.getD,List.getElem?_set_ne (Ne.symm hu)]
theorem ai7{a:Option Addr}{cap m:Nat}{c:aF}{e:TypeId}(hm:0<m)(arX:c.n+m≤cap)(h:hP ρ H O w (.slice a c.n cap) (.vec c e)):hP ρ H O w (.slice a (c.n+m) cap) (.vec (qm c m) e):=by
 obtain⟨a2,pI,h1,h2,h3,h4⟩:=h
 cases h1
 rcases h4 with h4|⟨b,o,cells,fr,us,rfl,g1,g2,g3,g4⟩
 ·omega
 ·refine⟨some ⟨b,o,none⟩,cap,rfl,arX,h3,.inr ⟨b,o,cells,fr,fun i j=>if i<c.n then us i j else cells.getD (o+i*c.size+j) undef,rfl,g1,g2,g3,fun i j hi hj=> ?_⟩⟩
  have hi:i<c.n+m:=hi
  have hj:j<c.size:=hj
  show cells[o+i*c.size+j]? =_∧aJ O w (bif i.blt c.n then c.cell i j else .aN) _
  by_cases c8:i<c.n
  ·dsimp only
   rw[if_pos c8,show i.blt c.n=true from by simpa[Nat.blt,Nat.lt_iff_add_one_le]using c8]
   exact g4 i j c8 hj
  ·dsimp only
   rw[if_neg c8,show i.blt c.n=false from by
    cases hb:i.blt c.n
    ·rfl
    ·exact absurd (show i<c.n from by simpa[Nat.blt,Nat.lt_iff_add_one_le]using hb) c8]
   have a7:o+i*c.size+j<cells.length:=by
    have:(i+1)*c.size≤cap*c.size:=Nat.mul_le_mul_right _ (by omega)
    rw[Nat.succ_mul]at this
    omega
   have e:cells[o+i*c.size+j]? =some (cells.getD (o+i*c.size+j) undef):=by simp[List.getD,a7]
   exact⟨e,.aN _ (g2.2 _ (List.mem_of_getElem? e))⟩
theorem agJ{f:FuncId}{tmps:List AV}{todo:List Item}{t id m:Nat}{c:aF}{e:TypeId}(ht:tmps.getD t (.s .aN)=.vec id)(de:L[id]? =some (.vec c e))(hm:0<m)
 {stk:mj} (hA:Safe P f X K ⟨tmps.set t (.part L.length 0 c.n),L.set id .dead++[.vec (qm c m) e],todo,stk⟩)
 (hB:Safe P f X K ⟨tmps.set t (.s (.ym c (c.n+m))),L.set id .dead,todo,stk⟩):Safe P f X K ⟨tmps,L,todo,stk⟩:=by
 intro G E ρ a w gq gR hr bf tf fsf hwf
 have hs:Sat ρ (lk L) G w:=hr.sat
 have hd:=hr.den t
 rw[show(St.tmps ⟨tmps,L⟩).getD t (.s .aN)=.vec id from ht]at hd
 obtain⟨a0,cap,hv,dF,hle,acN⟩:=jj hs de hd
 have dK:=hs.obj id _ de
 rw[dF,hv]at dK
 have a7:id<L.length:=(List.getElem?_eq_some_iff.1 de).1
 by_cases hc:c.n+m≤cap
 ·obtain⟨aA,s',st,hρ⟩:=apE hs de (root:=.slice a0 (c.n+m) cap) (c2:=qm c m) (fun b hb=>by
   rw[dF,hv]
   cases a0 with
   |none=>simp[dV]at hb
   |some y=>simpa[dV]using hb) (ai7 hm hc dK)
  refine hA G E aA a w gq gR ⟨s',by rw[List.length_set];exact hr.size,fun u=> ?_,hr.defers,hr.from_.trans st,hr.iM,hr.kept⟩ bf tf fsf hwf
  show ab aA _ _ w ((tmps.set t (.part L.length 0 c.n)).getD u (.s .aN)) _
  rw[abv ht (by simp)]
  by_cases hu:u=t
  ·subst hu
   rw[if_pos rfl,hv]
   unfold ab az
   refine⟨rfl,.vec (qm c m) e,by show(L.set id .dead++[_])[L.length]? =_;rw[List.getElem?_append_right (by simp)];simp,fun c' e' he=> ?_⟩
   cases he
   refine⟨by show 0+c.n≤c.n+m;omega,a0,cap,a0,hρ,hc,by simp,fun _=> ?_⟩
   rw[Nat.zero_mul]
   cases a0 with
   |none=>rfl
   |some y=>simp[Addr.add]
  ·rw[if_neg hu]
   exact(hr.den u).step st
 ·have eL:lk (L.set id .dead)=aC (lk L) id .dead:=by
   funext k
   show(L.set id .dead)[k]? =_
   rw[List.getElem?_set]
   by_cases hk:id=k
   ·subst hk;simp[aC,a7]
   ·rw[if_neg hk];simp[aC,Ne.symm hk]
  have st:xy ρ L G w ρ (L.set id .dead):=by
   show Step ρ (lk L) _ w ρ (lk (L.set id .dead)) (aK ρ (lk (L.set id .dead)) G) w
   rw[eL]
   exact fp (H:=lk L) de
  have hs':Sat ρ (lk (L.set id .dead)) G w:=by rw[eL];exact Sat.kill hs de
  refine hB G E ρ a w gq gR ⟨hs',by rw[List.length_set];exact hr.size,fun u=> ?_,hr.defers,hr.from_.trans st,hr.iM,hr.kept⟩ bf tf fsf hwf
  show ab ρ _ _ w ((tmps.set t (.s (.ym c (c.n+m)))).getD u (.s .aN)) _
  rw[abv ht (by simp)]
  by_cases hu:u=t
  ·subst hu
   rw[if_pos rfl,hv]
   refine aq (.ym _ _ _ _ _ ?_ (by omega))
   obtain⟨a2,pI,h1,h2,h3,h4⟩:=dK
   cases h1
   rcases h4 with rfl|⟨b,o,cells,fr,us,rfl,g1,g2,g3,g4⟩
   ·exact .ro c a0 0 (fun _ _=>undef) 0 0 hle acN (fun h=>by omega) (fun i j hi _=>by omega) (fun i j hi _=>by omega)
   ·refine .ro c _ cap us b o hle acN (fun h0=>⟨rfl, ?_, ?_⟩) (fun i j hi hj=> ?_) (fun i j hi hj=>((g4 i j hi hj).2).step st.fD st.heap st.size)
    ·have hb:dV (ρ id)=some b:=by
      rw[dF,hv]
      simp only[dV]
      rw[if_neg (by omega)]
     rintro(⟨k,ok,hk,ha,hb2⟩|hG)
     ·have hk:(L.set id .dead)[k]? =some ok:=hk
      rw[List.getElem?_set]at hk
      split at hk
      ·rename_i e1
       first
        |(simp only[Option.some.injEq]at hk;subst hk;cases ha)
        |(rw[if_pos a7]at hk;simp only[Option.some.injEq]at hk;subst hk;cases ha)
      ·rename_i e1
       exact e1 (hs.inj id k _ ok b de hk rfl ha hb hb2)
     ·exact hs.apart b ⟨id,_,de,rfl,hb⟩ hG
    ·exact(Array.getElem?_eq_some_iff.1 g1).1
    ·have:=(g4 i j hi hj).1
     simp only[World.cell?,g1]
     simp[this]
  ·rw[if_neg hu]
   exact(hr.den u).step st
theorem ai8{f:FuncId}{tmps:List AV}{todo:List Item}{stk:mj}{id:Nat}{c c':aF}{e:TypeId}(de:L[id]? =some (.vec c e))(hn:c'.n=c.n)(bF:c'.size=c.size)(hc:∀i j,i<c.n→j<c.size→c'.cell i j=c.cell i j)
 (h:Safe P f X K ⟨tmps,L.set id (.vec c' e),todo,stk⟩):Safe P f X K ⟨tmps,L,todo,stk⟩:=by
 intro G E ρ a w gq gR hr b t fs hw
 have hs:Sat ρ (lk L) G w:=hr.sat
 have a7:id<L.length:=(List.getElem?_eq_some_iff.1 de).1
 have eL:lk (L.set id (.vec c' e))=aC (lk L) id (.vec c' e):=by
  funext k
  show(L.set id (.vec c' e))[k]? =_
  rw[List.getElem?_set]
  by_cases hk:id=k
  ·subst hk;simp[aC,a7]
  ·rw[if_neg hk];simp[aC,Ne.symm hk]
 have dK:hP ρ (aC (lk L) id (.vec c' e)) (aK ρ (lk L) G) w (ρ id) (.vec c' e):=by
  obtain⟨a2,pI,h1,h2,h3,h4⟩:=hs.obj id _ de
  refine⟨a2,pI,by rw[hn];exact h1,by omega,h3, ?_⟩
  rcases h4 with h4|⟨b,o,cells,fr,us,rfl,g1,g2,g3,g4⟩
  ·exact .inl h4
  ·refine .inr ⟨b,o,cells,fr,us,rfl,g1,g2,by rw[bF];exact g3,fun i j hi hj=> ?_⟩
   rw[hn]at hi
   rw[bF]at hj
   rw[bF,hc i j hi hj]
   exact g4 i j hi hj
 obtain⟨aA,s',_,st,_⟩:=Good.upd (H:=lk L) (o':=.vec c' e) (r:=.s .aN) (v:=undef) hs de rfl (fun c2 e2 he=>by cases he;exact⟨c,e,rfl,hn,bF⟩) dK (by unfold ab;trivial)
 rw[←eL]at s' st
 exact h G E aA a w gq gR ⟨s',hr.size,fun u=>(hr.den u).step st,hr.defers,hr.from_.trans st,hr.iM,hr.kept⟩ b t fs hw
theorem agK{f:FuncId}{tmps:List AV}{todo:List Item}{stk:mj}{t id n:Nat}{c:aF}{e:TypeId}(ht:tmps.getD t (.s .aN)=.part id 0 n)(de:L[id]? =some (.vec c e))(hn:n=c.n)(h0:0<n)
 (h:Safe P f X K ⟨tmps.set t (.vec id),L,todo,stk⟩):Safe P f X K ⟨tmps,L,todo,stk⟩:=by
 intro G E ρ a w gq gR hr b tf fs hw
 have hd:=hr.den t
 rw[show(St.tmps ⟨tmps,L⟩).getD t (.s .aN)=.part id 0 n from ht]at hd
 refine h G E ρ a w gq gR (hr.yW ht ?_) b tf fs hw
 have hd0:=hd
 unfold ab az at hd
 obtain⟨h1,o,ho,hv⟩:=hd
 have:o=.vec c e:=by
  have:(St.look ⟨tmps,L⟩) id=some (.vec c e):=de
  rw[this]at ho;cases ho;rfl
 subst this
 obtain⟨hle,a1,cap,a2,k1,k2,k3,k4⟩:=hv c e rfl
 have wu:cap≠0:=by omega
 unfold ab az
 refine⟨h1,.vec c e,ho,fun c' e' he=> ?_⟩
 cases he
 rw[k3,k1,k4 wu,Nat.sub_zero,hn,Nat.zero_mul]
 cases a1 with
 |none=>rfl
 |some y=>simp[Addr.add]
end
end Go.Sx
namespace Lf
open Go Go.Sx Go.Proofs
def lC{α:Type}(l:List α)(k:Nat)(x:α):List α:=l.take k++x::l.drop k
def ae6:Spec (List En×En×Nat):=⟨fun x=>[.vec 0,.s (.int .i64 (x.2.2:Int)),.vec 1],fun x=>[.vec (.ad cE x.1) eE,.vec (.ad cE [x.2.1]) eE],fun x=>[x.2.2≤x.1.length,x.1.length≤100000],fun x=>[.dead,.vec (.ad cE [x.2.1]) eE,.vec (.ad cE (lC x.1 x.2.2 x.2.1)) eE],fun x=>.vec 2⟩
def anW:List (Nat×Norm):=[(8,⟨[],[0,1,2,7,8],2,[]⟩)]
noncomputable def cIA(l:List (CL cE))(x:CL cE)(k:Nat):bx:=⟨sl 95 [(0,.part 2 0 l.length),(1,.s (.int .i64 (k:Int))),(2,.vec 1),(7,.s (.int .i64 ((1:Nat):Int))),(8,.s (.int .i64 (l.length:Int)))],[.dead,.vec (.ad cE [x]) eE,.vec (qm (.ad cE l) 1) eE],hr Tryd.f69 8,{}⟩
noncomputable def cIB(l:List (CL cE))(x:CL cE)(k:Nat):bx:=⟨sl 95 [(0,.s (.ym (.ad cE l) (l.length+1))),(1,.s (.int .i64 (k:Int))),(2,.vec 1),(7,.s (.int .i64 ((1:Nat):Int))),(8,.s (.int .i64 (l.length:Int)))],[.dead,.vec (.ad cE [x]) eE],hr Tryd.f69 8,{}⟩
def arY:List (Nat×Norm):=[(17,⟨[],[0],3,[]⟩)]
theorem alO(l:List (CL cE))(x:CL cE)(k:Nat):run P (aH.sum []) Tryd.f69 anW (start Tryd.f69 [.vec 0,.s (.int .i64 (k:Int)),.vec 1] [.vec (.ad cE l) eE,.vec (.ad cE [x]) eE])=
 Tree.need ((0:Int)≤(↑k:Int)) (.need ((↑k:Int)≤(↑l.length:Int)) (.need ((↑(0:Nat):Int)+(↑l.length:Int)≤(↑l.length:Int)) (.ite false (.ret [.vec (.ad [.str,.str] l) 34,.vec (.ad [.str,.str] [x]) 34] (.vec 0)) (.ite ((↑k:Int)==(↑l.length:Int)) (.need ((l.length+1)*(32:Nat)≤140737488355328) (.ret [.dead,.vec (.ad [.str,.str] [x]) 34,.vec (.ad [.str,.str] (l++[x])) 34] (.vec 2))) (.at (.mk (sl 95 [(0,.vec 0),(1,.s (.int .i64 (↑k:Int))),(2,.vec 1),(7,.s (.int .i64 (↑(1:Nat):Int))),(8,.s (.int .i64 (↑l.length:Int)))]) [.vec (.ad [.str,.str] l) 34,.vec (.ad [.str,.str] [x]) 34] (hr Tryd.f69 8) (.mk none false 0 [] 0))))))):=by kernel_rfl
theorem apF(l:List (CL cE))(x:CL cE)(k:Nat):run P (aH.sum []) Tryd.f69 arY (cIA l x k)=
 Tree.need (ax ((↑l.length:Int)+(1:Int)))
 (Tree.need ((↑l.length:Int)+(1:Int)≤(↑(l.length+(1:Nat) - (0:Nat)):Int))
   (Tree.need (ax ((↑l.length:Int)+(1:Int)))
     (Tree.need ((0:Int)≤(0:Int))
       (Tree.need ((0:Int)≤(↑l.length:Int)+(1:Int))
         (Tree.need ((↑(0:Nat):Int)+((↑l.length:Int)+(1:Int))≤(↑(l.length+(1:Nat)):Int))
           (Tree.need (ax ((↑k:Int)+(1:Int)))
             (Tree.need ((0:Int)≤(↑k:Int)+(1:Int))
               (Tree.need ((↑k:Int)+(1:Int)≤(↑(((↑l.length:Int)+(1:Int)).toNat - Int.toNat (0:Int)):Int))
                 (Tree.need ((↑(0:Nat):Int)+(↑(((↑l.length:Int)+(1:Int)).toNat - Int.toNat (0:Int)):Int)≤(↑(l.length+(1:Nat)):Int)) (Tree.need (aoF P (86:Nat)) (Tree.need (ax ((↑k:Int)+(1:Int))) (Tree.need ((0:Int)≤(↑k:Int)+(1:Int)) (Tree.need ((↑k:Int)+(1:Int)≤(↑(((↑l.length:Int)+(1:Int)).toNat - Int.toNat (0:Int)):Int)) (Tree.need ((↑(0:Nat):Int)+(↑(((↑l.length:Int)+(1:Int)).toNat - Int.toNat (0:Int)):Int)≤(↑(l.length+(1:Nat)):Int)) (Tree.need ((0:Int)≤(↑k:Int)) (Tree.need ((↑k:Int)≤(↑(((↑l.length:Int)+(1:Int)).toNat - Int.toNat (0:Int)):Int)) (Tree.need ((↑(0:Nat):Int)+(↑(((↑l.length:Int)+(1:Int)).toNat - Int.toNat (0:Int)):Int)≤(↑(l.length+(1:Nat)):Int)) (Tree.need ((0:Int)≤(↑k:Int)) (Tree.need ((↑k:Int)≤(↑(((↑l.length:Int)+(1:Int)).toNat - Int.toNat (0:Int)):Int)) (Tree.need ((↑(0:Nat):Int)+(↑(((↑l.length:Int)+(1:Int)).toNat - Int.toNat (0:Int)):Int)≤(↑(l.length+(1:Nat)):Int)) (Tree.at (bx.mk (sl (95:Nat) [((0:Nat),AV.part (2:Nat) (0:Nat) (((↑l.length:Int)+(1:Int)).toNat - Int.toNat (0:Int)))]) [ae.dead,ae.vec (aF.ad [CK.str,CK.str] [x]) (34:Nat),ae.vec (aF.dU (aF.dU (aF.dU (aF.ad cE l).size (l.length+(1:Nat)) fun(i j:Nat)=>bif i.blt l.length then(aF.ad cE l).cell i j else SV.aN).size (l.length+(1:Nat)) fun(i j:Nat)=>bif ((0:Nat)+((↑k:Int)+(1:Int)).toNat).ble i&&i.blt ((0:Nat)+((↑k:Int)+(1:Int)).toNat+min ((0:Nat)+(↑k:Int).toNat+((↑(((↑l.length:Int)+(1:Int)).toNat - Int.toNat (0:Int)):Int).toNat - (↑k:Int).toNat) - ((0:Nat)+(↑k:Int).toNat)) ((↑(((↑l.length:Int)+(1:Int)).toNat - Int.toNat (0:Int)):Int).toNat - ((↑k:Int)+(1:Int)).toNat))then(dg (aF.dU (aF.ad cE l).size (l.length+(1:Nat)) fun(i j:Nat)=>bif i.blt l.length then(aF.ad cE l).cell i j else SV.aN) ((0:Nat)+(↑k:Int).toNat) ((0:Nat)+(↑k:Int).toNat+((↑(((↑l.length:Int)+(1:Int)).toNat - Int.toNat (0:Int)):Int).toNat - (↑k:Int).toNat))).cell (i - ((0:Nat)+((↑k:Int)+(1:Int)).toNat)) j else(aF.dU (aF.ad cE l).size (l.length+(1:Nat)) fun(i j:Nat)=>bif i.blt l.length then(aF.ad cE l).cell i j else SV.aN).cell i j).size (l.length+(1:Nat)) fun(i j:Nat)=>bif ((0:Nat)+(↑k:Int).toNat).ble i&&i.blt ((0:Nat)+(↑k:Int).toNat+min (1:Nat) ((↑(((↑l.length:Int)+(1:Int)).toNat - Int.toNat (0:Int)):Int).toNat - (↑k:Int).toNat))then(aF.ad [CK.str,CK.str] [x]).cell (i - ((0:Nat)+(↑k:Int).toNat)) j else(aF.dU (aF.dU (aF.ad cE l).size (l.length+(1:Nat)) fun(i j:Nat)=>bif i.blt l.length then(aF.ad cE l).cell i j else SV.aN).size (l.length+(1:Nat)) fun(i j:Nat)=>bif ((0:Nat)+((↑k:Int)+(1:Int)).toNat).ble i&&i.blt ((0:Nat)+((↑k:Int)+(1:Int)).toNat+min ((0:Nat)+(↑k:Int).toNat+((↑(((↑l.length:Int)+(1:Int)).toNat - Int.toNat (0:Int)):Int).toNat - (↑k:Int).toNat) - ((0:Nat)+(↑k:Int).toNat)) ((↑(((↑l.length:Int)+(1:Int)).toNat - Int.toNat (0:Int)):Int).toNat - ((↑k:Int)+(1:Int)).toNat))then(dg (aF.dU (aF.ad cE l).size (l.length+(1:Nat)) fun(i j:Nat)=>bif i.blt l.length then(aF.ad cE l).cell i j else SV.aN) ((0:Nat)+(↑k:Int).toNat) ((0:Nat)+(↑k:Int).toNat+((↑(((↑l.length:Int)+(1:Int)).toNat - Int.toNat (0:Int)):Int).toNat - (↑k:Int).toNat))).cell (i - ((0:Nat)+((↑k:Int)+(1:Int)).toNat)) j else(aF.dU (aF.ad cE l).size (l.length+(1:Nat)) fun(i j:Nat)=>bif i.blt l.length then(aF.ad cE l).cell i j else SV.aN).cell i j).cell i j) (34:Nat)] (hr Tryd.f69 (17:Nat)) (mj.mk none false (0:Nat) [] (0:Nat)))))))))))))))))))))))):=by kernel_rfl
noncomputable def cIC(l:List (CL cE))(x:CL cE):bx:=⟨sl 95 [(0,.vec 2)],[.dead,.vec (.ad cE [x]) eE,.vec (.ad cE l) eE],hr Tryd.f69 17,{}⟩
theorem apG(l:List (CL cE))(x:CL cE):run P (aH.sum []) Tryd.f69 [] (cIC l x)=
 Tree.ret [.dead,.vec (.ad [.str,.str] [x]) 34,.vec (.ad [.str,.str] l) 34] (.vec 2):=by kernel_rfl
theorem apH(l:List (CL cE))(x:CL cE)(k:Nat):run P (aH.sum []) Tryd.f69 [] (cIB l x k)=
 Tree.need (ax ((↑l.length:Int)+1))
 (.need ((↑(l.length+1):Int)≤(↑l.length:Int)+1) (.need ((0:Int)≤(↑k:Int)) (.need ((↑k:Int)≤(↑l.length:Int)) (.need (ax ((↑l.length:Int)+1)) (.need (ax ((↑l.length:Int)+1 - (↑k:Int))) (.need ((0:Int)<(↑l.length:Int)+1 - (↑k:Int)) (.need ((↑(l.length+1):Int)≤(↑(List.drop 0 (List.take (↑k:Int).toNat l)).length:Int)+((↑l.length:Int)+1 - (↑k:Int))) (.need ((↑(List.drop 0 (List.take (↑k:Int).toNat l)).length:Int)+((↑l.length:Int)+1 - (↑k:Int))≤4294967296) (.need ((0:Int)≤(↑k:Int)) (.need ((↑k:Int)≤(↑(List.drop 0 (List.take (↑k:Int).toNat l)++List.replicate ((↑l.length:Int)+1 - (↑k:Int)).toNat (CL.d [.str,.str])).length:Int)) (.need ((↑(0:Nat):Int)+(↑(List.drop 0 (List.take (↑k:Int).toNat l)++List.replicate ((↑l.length:Int)+1 - (↑k:Int)).toNat (CL.d [.str,.str])).length:Int)≤(↑(List.drop 0 (List.take (↑k:Int).toNat l)++List.replicate ((↑l.length:Int)+1 - (↑k:Int)).toNat (CL.d [.str,.str])).length:Int)) (.need (ax ((↑k:Int)+1)) (.need ((0:Int)≤(↑k:Int)+1) (.need ((↑k:Int)+1≤(↑(over (List.drop 0 (List.take (↑k:Int).toNat l)++List.replicate ((↑l.length:Int)+1 - (↑k:Int)).toNat (CL.d [.str,.str])) ((0:Nat)+(↑k:Int).toNat) (min 1 ((↑(List.drop 0 (List.take (↑k:Int).toNat l)++List.replicate ((↑l.length:Int)+1 - (↑k:Int)).toNat (CL.d [.str,.str])).length:Int).toNat - (↑k:Int).toNat)) [x]).length:Int)) (.need ((↑(0:Nat):Int)+(↑(over (List.drop 0 (List.take (↑k:Int).toNat l)++List.replicate ((↑l.length:Int)+1 - (↑k:Int)).toNat (CL.d [.str,.str])) ((0:Nat)+(↑k:Int).toNat) (min 1 ((↑(List.drop 0 (List.take (↑k:Int).toNat l)++List.replicate ((↑l.length:Int)+1 - (↑k:Int)).toNat (CL.d [.str,.str])).length:Int).toNat - (↑k:Int).toNat)) [x]).length:Int)≤(↑(over (List.drop 0 (List.take (↑k:Int).toNat l)++List.replicate ((↑l.length:Int)+1 - (↑k:Int)).toNat (CL.d [.str,.str])) ((0:Nat)+(↑k:Int).toNat) (min 1 ((↑(List.drop 0 (List.take (↑k:Int).toNat l)++List.replicate ((↑l.length:Int)+1 - (↑k:Int)).toNat (CL.d [.str,.str])).length:Int).toNat - (↑k:Int).toNat)) [x]).length:Int)) (.need ((0:Int)≤(↑k:Int)) (.need ((↑k:Int)≤(↑l.length:Int)) (.need ((↑l.length:Int)≤(↑l.length:Int)) (.ret [.dead,.vec (.ad [.str,.str] [x]) 34,.vec (.ad [.str,.str] (over (over (List.drop 0 (List.take (↑k:Int).toNat l)++List.replicate ((↑l.length:Int)+1 - (↑k:Int)).toNat (CL.d [.str,.str])) ((0:Nat)+(↑k:Int).toNat) (min 1 ((↑(List.drop 0 (List.take (↑k:Int).toNat l)++List.replicate ((↑l.length:Int)+1 - (↑k:Int)).toNat (CL.d [.str,.str])).length:Int).toNat - (↑k:Int).toNat)) [x]) ((0:Nat)+((↑k:Int)+1).toNat) (min (List.drop (↑k:Int).toNat (List.take (↑l.length:Int).toNat l)).length ((↑(over (List.drop 0 (List.take (↑k:Int).toNat l)++List.replicate ((↑l.length:Int)+1 - (↑k:Int)).toNat (CL.d [.str,.str])) ((0:Nat)+(↑k:Int).toNat) (min 1 ((↑(List.drop 0 (List.take (↑k:Int).toNat l)++List.replicate ((↑l.length:Int)+1 - (↑k:Int)).toNat (CL.d [.str,.str])).length:Int).toNat - (↑k:Int).toNat)) [x]).length:Int).toNat - ((↑k:Int)+1).toNat)) (List.drop (↑k:Int).toNat (List.take (↑l.length:Int).toNat l)))) 34] (.vec 2)))))))))))))))))))):=by kernel_rfl
theorem agL{α:Type}{xs ys:List α}{lo k:Nat}(hk:k=ys.length)(h:lo+ys.length=xs.length):over xs lo k ys=xs.take lo++ys:=by
 subst hk
 rw[over,List.take_of_length_le (Nat.le_refl _),List.drop_of_length_le (by omega),List.append_nil]
theorem sq{α:Type}{l:List α}{k:Nat}{x:α}(h:k≤l.length):(lC l k x).length=l.length+1:=by
 simp only[lC,List.length_append,List.length_take,List.length_cons,List.length_drop];omega
theorem ai9{α:Type}(l:List α)(x:α):lC l l.length x=l++[x]:=by simp[lC]
theorem agM{α:Type}{l:List α}{k:Nat}{x d:α}(h:k≤l.length)(i:Nat):(lC l k x).getD i d=if i<k then l.getD i d else if i=k then x else l.getD (i - 1) d:=by
 simp only[lC,List.getD]
 split
 ·rw[List.getElem?_append_left (by simp;omega),List.getElem?_take,if_pos (by assumption)]
 ·rw[List.getElem?_append_right (by simp;omega)]
  rw[List.length_take,Nat.min_eq_left h]
  split
  ·rename_i h2;subst h2;simp
  ·rw[show i - k=(i - 1 - k)+1 from by omega,List.getElem?_cons_succ,List.getElem?_drop]
   congr 2;omega
theorem arZ:aoF P 86:=⟨Tryd.f86,Tryd.f86.params.getD 0 0,eE,Tryd.f86.resultTypes.getD 0 0,2,Tryd.func86,by kernel_rfl,by kernel_rfl,by kernel_rfl,by kernel_rfl,by kernel_rfl,by kernel_rfl⟩
theorem aja{α:Type}{l:List α}{k:Nat}{x d:α}(hk:k<l.length):
 over (over (List.drop 0 (List.take (k:Int).toNat l)++List.replicate ((l.length:Int)+(1:Int) - (k:Int)).toNat d) (0+(k:Int).toNat) (min 1 (((List.drop 0 (List.take (k:Int).toNat l)++List.replicate ((l.length:Int)+(1:Int) - (k:Int)).toNat d).length:Int).toNat - (k:Int).toNat)) [x]) (0+((k:Int)+(1:Int)).toNat) (l.length - k) (List.drop (k:Int).toNat (List.take (l.length:Int).toNat l))=lC l k x:=by
 have e1:(k:Int).toNat=k:=by omega
 have e2:((l.length:Int)+(1:Int) - (k:Int)).toNat=l.length+1 - k:=by omega
 have e3:((k:Int)+(1:Int)).toNat=k+1:=by omega
 have e4:(l.length:Int).toNat=l.length:=by omega
 rw[e1,e2,e3,e4,List.drop_zero,Nat.zero_add,Nat.zero_add,List.take_of_length_le (Nat.le_refl l.length)]
 have hA:(List.take k l++List.replicate (l.length+1 - k) d).length=l.length+1:=by
  simp only[List.length_append,List.length_take,List.length_replicate];omega
 rw[hA,show min 1 (((l.length+1:Nat):Int).toNat - k)=1 from by omega]
 have hov:(over (List.take k l++List.replicate (l.length+1 - k) d) k 1 [x]).length=l.length+1:=by
  rw[fa _ _ (by rw[hA];omega) (by simp),hA]
 rw[agL (by rw[List.length_drop]) (by rw[hov,List.length_drop];omega)]
 rw[over,List.take_left' (by simp only[List.length_append,List.length_take,List.length_replicate,List.length_cons,List.length_nil];omega)]
 rw[List.take_left' (by rw[List.length_take];omega)]
 simp[lC]
theorem zC{a b:Nat}:a.blt b=decide (a<b):=by
 by_cases h:a<b
 ·rw[decide_eq_true h];simpa[Nat.blt,Nat.lt_iff_add_one_le]using h
 ·rw[decide_eq_false h]
  cases hb:a.blt b with
  |false=>rfl
  |true=>exact absurd (by simpa[Nat.blt,Nat.lt_iff_add_one_le]using hb) h
theorem zD{a b:Nat}:a.ble b=decide (a≤b):=by
 by_cases h:a≤b
 ·rw[decide_eq_true h];exact Nat.ble_eq_true_of_le h
 ·rw[decide_eq_false h]
  cases hb:a.ble b with
  |false=>rfl
  |true=>exact absurd (Nat.le_of_ble_eq_true hb) h
theorem apI{Z:a8}:ke P Z 69 ae6:=by
 refine aR Tryd.func69 (by kernel_rfl) (fun x=>Nat.le_of_ble_eq_true (by kernel_rfl)) ?_
 rintro⟨(l:List (CL cE)),(x:CL cE),(k:Nat)⟩ ⟨(hk:k≤l.length),(hl:l.length≤100000),_⟩ X hX hz
 refine eH hz hX (by intro y hy;simp[anW]at hy;subst hy;exact Nat.le_refl _) aH.Ok.nil Tryd.func69 (alO l x k) ⟨by omega,by omega,by omega,(fun h=>nomatch h),fun _=>⟨fun h=>⟨by omega,⟨⟨[],[0],2,[]⟩,Nat.le_refl _, ?_⟩⟩,fun h=> ?_⟩⟩
 ·have hkl:k=l.length:=by have:=eq_of_beq h;omega
  subst hkl
  show Norm.run _ _=some ⟨[.vec 2],[.dead,.vec (.ad cE [x]) eE,.vec (.ad cE (lC l l.length x)) eE],[],{}⟩
  rw[ai9]
  kernel_rfl
 have hkl:k<l.length:=by
  rcases Nat.lt_or_ge k l.length with h1|h1
  ·exact h1
  ·have:k=l.length:=by omega
   subst this
   simp at h
 refine agJ (t:=0) (id:=0) (m:=1) (c:=.ad cE l) (e:=eE) rfl rfl (by omega) ?_ ?_
 ·
  refine(show Safe P 69 X _ (cIA l x k)from ?_)
  have e1:((l.length:Int)+(1:Int)).toNat - Int.toNat 0=l.length+1:=by omega
  have tr:=apF l x k
  rw[e1]at tr
  refine eH hz hX (by intro y hy;simp[arY]at hy;subst hy;show 2≤3;omega) aH.Ok.nil Tryd.func69 tr ⟨⟨by omega,by omega⟩,by omega,⟨by omega,by omega⟩,by omega,by omega,by omega,⟨by omega,by omega⟩,by omega,by omega,by omega,arZ,⟨by omega,by omega⟩,by omega,by omega,by omega,by omega,by omega,by omega,by omega,by omega,by omega, ?_⟩
  refine ai8 (id:=2) (c':=.ad cE (lC l k x)) rfl ?_ rfl ?_ ?_
  ·exact sq (by omega)
  ·intro i j hi hj
   have hi:i<l.length+1:=hi
   show CL.cell cE ((lC l k x).getD i (CL.d cE)) j=_
   rw[agM (by omega)]
   by_cases h1:i<k
   ·have p1:¬(0+(k:Int).toNat≤i):=by omega
    have p2:¬(0+((k:Int)+(1:Int)).toNat≤i):=by omega
    have p3:i<l.length:=by omega
    simp only[aF.cell,zC,zD,p1,p2,p3,h1,decide_false,decide_true,Bool.false_and,cond_false,cond_true,if_true]
   ·by_cases h2:i=k
    ·subst h2
     have p1:0+(i:Int).toNat≤i:=by omega
     have p2:i<0+(i:Int).toNat+min 1 (((l.length+1:Nat):Int).toNat - (i:Int).toNat):=by omega
     have p3:i - (0+(i:Int).toNat)=0:=by omega
     simp only[aF.cell,zC,zD,p1,p2,p3,h1,decide_true,Bool.true_and,cond_true,if_true,if_false,List.getD_cons_zero]
    ·have p1:¬(i<0+(k:Int).toNat+min 1 (((l.length+1:Nat):Int).toNat - (k:Int).toNat)):=by omega
     have p2:0+((k:Int)+(1:Int)).toNat≤i:=by omega
     have p3:i<0+((k:Int)+(1:Int)).toNat+min (0+(k:Int).toNat+(((l.length+1:Nat):Int).toNat - (k:Int).toNat) - (0+(k:Int).toNat)) (((l.length+1:Nat):Int).toNat - ((k:Int)+(1:Int)).toNat):=by omega
     have p4:0+(k:Int).toNat+(i - (0+((k:Int)+(1:Int)).toNat))=i - 1:=by omega
     have p5:i - 1<l.length:=by omega
     simp only[aF.cell,dg,zC,zD,p1,p2,p3,p4,p5,h1,h2,decide_true,decide_false,Bool.and_false,Bool.and_true,cond_true,cond_false,if_false]
  ·refine agK (t:=0) (id:=2) (c:=.ad cE (lC l k x)) (e:=eE) rfl rfl (sq (by omega)).symm (by omega) ?_
   refine eH hz hX (by intro y hy;simp at hy) aH.Ok.nil Tryd.func69 (apG (lC l k x) x) ⟨⟨[],[0],2,[]⟩,Nat.le_refl _, ?_⟩
   show Norm.run _ _=some ⟨[.vec 2],[.dead,.vec (.ad cE [x]) eE,.vec (.ad cE (lC l k x)) eE],[],{}⟩
   kernel_rfl
 ·
  refine(show Safe P 69 X _ (cIB l x k)from ?_)
  have tr:=apH l x k
  have eA:(List.drop 0 (List.take (k:Int).toNat l)++List.replicate ((l.length:Int)+(1:Int) - (k:Int)).toNat (CL.d cE)).length=l.length+1:=by
   simp only[List.drop_zero,List.length_append,List.length_take,List.length_replicate];omega
  have eB:(over (List.drop 0 (List.take (k:Int).toNat l)++List.replicate ((l.length:Int)+(1:Int) - (k:Int)).toNat (CL.d cE)) (0+(k:Int).toNat) (min 1 (((List.drop 0 (List.take (k:Int).toNat l)++List.replicate ((l.length:Int)+(1:Int) - (k:Int)).toNat (CL.d cE)).length:Int).toNat - (k:Int).toNat)) [x]).length=l.length+1:=by
   rw[fa _ _ (by rw[eA];omega) (by simp;omega),eA]
  have eC:(List.drop 0 (List.take (k:Int).toNat l)).length=k:=by simp only[List.drop_zero,List.length_take];omega
  have e1:(min (List.drop (k:Int).toNat (List.take (l.length:Int).toNat l)).length (((over (List.drop 0 (List.take (k:Int).toNat l)++List.replicate ((l.length:Int)+(1:Int) - (k:Int)).toNat (CL.d cE)) (0+(k:Int).toNat) (min 1 (((List.drop 0 (List.take (k:Int).toNat l)++List.replicate ((l.length:Int)+(1:Int) - (k:Int)).toNat (CL.d cE)).length:Int).toNat - (k:Int).toNat)) [x]).length:Int).toNat - ((k:Int)+(1:Int)).toNat))=l.length - k:=by
   rw[eB];simp only[List.length_drop,List.length_take];omega
  rw[e1,aja hkl,eB,eA,eC]at tr
  refine eH hz hX (by intro y hy;simp at hy) aH.Ok.nil Tryd.func69 tr ⟨⟨by omega,by omega⟩,by omega,by omega,by omega,⟨by omega,by omega⟩,⟨by omega,by omega⟩,by omega,by omega,by omega,by omega,by omega,by omega,⟨by omega,by omega⟩,by omega,by omega,by omega,by omega,by omega,by omega,⟨⟨[],[0],2,[]⟩,Nat.le_refl _, ?_⟩⟩
  show Norm.run _ _=some ⟨[.vec 2],[.dead,.vec (.ad cE [x]) eE,.vec (.ad cE (lC l k x)) eE],[],{}⟩
  kernel_rfl
end Lf
namespace Lf
open Go Go.Sx Go.Proofs
def ar0:List AV→RM ((List En×En×Nat)×List Nat)
 |[.vec id,.s (.int .i64 i),.vec id2]=>.look id fun o=>match o with
  |some (.vec (.ad [.str,.str] l) _)=>.look id2 fun o=>match o with
   |some (.vec (.ad [.str,.str] [x]) _)=>.ret ((l,x,i.toNat),[id,id2])
   |_=>.fail "insert: no element"
  |_=>.fail "insert: no row"
 |_=>.fail "insert"
def ajb:aH:=[(58,zy),(68,apB),(69,dJ ae6 ar0)]
theorem alP(l:List (CL cE))(key val:ByteArray):run P ajb.sum Tryd.f50 [] (start Tryd.f50 [.s (.ro (.ad cE l)),.s (.str key),.s (.str val)] [])=
 Tree.need (l.length≤1000000) (.need (gW (bu l)) (.need (l.length≤100000) (.ite (jf (bu l) key) (.need ((0:Int)≤(↑(b8 (bu l) key):bo.V)) (.need ((↑(b8 (bu l) key):bo.V)<(↑l.length:Int)) (.ret [.vec (.ad [.str,.str] (l.set (Int.toNat (↑(b8 (bu l) key):bo.V)) ((l.getD (Int.toNat (↑(b8 (bu l) key):bo.V)) (CL.d [.str,.str])).fst,val,()))) 34] (.vec 0)))) (.need (some [AV.vec 0,.s (.int .i64 (↑(b8 (bu l) key):bo.V)),.vec 1]=some [AV.vec 0,.s (.int .i64 (↑(Int.toNat (↑(b8 (bu l) key):bo.V)):Int)),.vec 1]) (.need (some [ae.vec (.ad [.str,.str] l) 34,.vec (.ad [.str,.str] [(key,val,())]) 34]=some [ae.vec (.ad [.str,.str] l) 34,.vec (.ad [.str,.str] [(key,val,())]) 34]) (.need (Int.toNat (↑(b8 (bu l) key):bo.V)≤l.length) (.need (l.length≤100000) (.ret [.dead,.vec (.ad [.str,.str] [(key,val,())]) 34,.vec (.ad [.str,.str] (lC l (Int.toNat (↑(b8 (bu l) key):bo.V)) (key,val,()))) 34] (.vec 2))))))))):=by kernel_rfl
theorem ajc{α:Type}{l:List α}{k:Nat}{x:α}(h:k<l.length):l.set k x=l.take k++x::l.drop (k+1):=by
 rw[List.set_eq_take_append_cons_drop,if_pos h]
theorem ajd{l:List En}{key val:ByteArray}(h:jf (bu l) key=true)(h1:b8 (bu l) key<l.length):bt l key val=l.set (b8 (bu l) key) (key,val,()):=by
 rw[ajc h1,bt,if_pos h]
theorem alQ{l:List En}{key val:ByteArray}(h:jf (bu l) key=false):bt l key val=lC l (b8 (bu l) key) (key,val,()):=by
 rw[bt,if_neg (by rw[h];simp),lC]
theorem aje{Z:a8}:dm P Z 50 [nX,dD,dD] [nX] (fun(l,_,_,())=>[(l:List En).length≤100000,gW (bu l)]) (fun(l,key,val,())=>(bt l key val,())):=by
 refine au Tryd.func50 (by kernel_rfl) (by kernel_rfl) ?_
 rintro⟨(l:List (CL cE)),(key:ByteArray),(val:ByteArray),⟨⟩⟩ _ ⟨(hl:l.length≤100000),(hs:gW (bu l)),_⟩ X hX hz
 have hT:ajb.Ok P Z:=aH.Ok.cons rB.sum (aH.Ok.cons adw.sum (aH.Ok.cons (apI.sum ar0) aH.Ok.nil))
 have hn:(bu l).length=l.length:=List.length_map _
 have hle:=uY (bu l) key
 rw[hn]at hle
 refine go hz hX hT Tryd.func50 (alP l key val) ⟨by omega,hs,hl,fun h=> ?_,fun h=> ?_⟩
 ·obtain⟨h1,h2⟩:=js.1 h
  rw[hn]at h1
  refine⟨Int.natCast_nonneg _,Int.ofNat_lt.2 h1, ?_⟩
  refine aT (l.set (b8 (bu l) key) ((l.getD (b8 (bu l) key) dE).1,val,()),()) ?_ (by kernel_rfl)
  have hk:(l.getD (b8 (bu l) key) dE).1=key:=(cq l oY dE _).symm.trans h2
  rw[hk]
  exact congrArg (fun y=>(y,())) (ajd h h1)
 ·refine⟨rfl,rfl,by show b8 (bu l) key≤l.length;exact hle,hl, ?_⟩
  refine aT (lC l (b8 (bu l) key) (key,val,()),()) ?_ (by kernel_rfl)
  exact congrArg (fun y=>(y,())) (alQ h)
end Lf
namespace Bx
open Go Go.Sx Go.Proofs
abbrev dM:Ty:=.b (.arr .u64 16)
abbrev bo:Ty:=.b (.int .i64)
abbrev tU:Ty:=.b (.int .u64)
abbrev cf:Ty:=.b .bool
abbrev aa6:Ty:=.b (.row (.ints .i64) 3)
noncomputable abbrev P:Program:=Tryd.prog
theorem mixed:P.follows .mixedOrders=true:=by kernel_rfl
def kI:aH:=[]
def dQ(n:Int):Int:=if 0≤n∧n<1024 then n / 64 else 0
def lD(n:Int):Int:=if 0≤n∧n<1024 then 2^(n%64).toNat else 0
def hM(n:Int):Bool:=decide (0≤n∧n<1024)
theorem apJ(n:Int):run P kI.sum Tryd.f55 [] (start Tryd.f55 [.s (.int .i64 n)] [])=
 Tree.ite (decide (n<(0:Int))) (Tree.ret [] (AV.bm [AV.s (SV.bc IntKind.i64 (0:Int)),AV.s (SV.bc IntKind.u64 (0:Int)),AV.s (SV.aI false)])) (Tree.ite (decide (n≥(1024:Int))) (Tree.ret [] (AV.bm [AV.s (SV.bc IntKind.i64 (0:Int)),AV.s (SV.bc IntKind.u64 (0:Int)),AV.s (SV.aI false)])) (Tree.need ((64:Int)≠(0:Int)) (Tree.need (ax (n.tdiv (64:Int))) (Tree.need ((64:Int)≠(0:Int)) (Tree.need ((0:Int)≤n.tmod (64:Int)) (Tree.ret [] (AV.bm [AV.s (SV.int IntKind.i64 (n.tdiv (64:Int))),AV.s (SV.int IntKind.u64 (IntKind.u64.wrap ((1:Int)*(2:Int)^min (n.tmod (64:Int)).toNat IntKind.u64.bits))),AV.s (SV.aI true)]))))))):=by kernel_rfl
theorem apK(a b:Int):run P kI.sum Tryd.f47 [] (start Tryd.f47 [.s (.int .u64 a),.s (.int .u64 b)] [])=
 Tree.ret [] (.s (.int .u64 (bG BinOp.andNot .u64 a b))):=by kernel_rfl
theorem apL(a b:Int):run P kI.sum Tryd.f63 [] (start Tryd.f63 [.s (.int .u64 a),.s (.int .u64 b)] [])=
 Tree.ret [] (.s (.int .u64 (bG BinOp.and .u64 a b))):=by kernel_rfl
theorem apM(a b:Int):run P kI.sum Tryd.f54 [] (start Tryd.f54 [.s (.int .u64 a),.s (.int .u64 b)] [])=
 Tree.ret [] (.s (.int .u64 (bG BinOp.or .u64 a b))):=by kernel_rfl
abbrev s36:=bW [bo] [bo,tU,cf] (fun _=>[]) (fun(n,())=>(dQ n,lD n,hM n,()))
def alR:aH:=[(55,s36)]
theorem apN(ws:List Int)(n:Int):run P alR.sum Tryd.f35 [] (start Tryd.f35 [.ints .u64 16 ws,.s (.int .i64 n)] [])=
 Tree.ite (hM n) (.need ((0:Int)≤dQ n) (.need (dQ n<(↑(16:Nat):Int)) (.ret [.own [.ints .u64 16 ws] 47] (.s (.bool (bG BinOp.and .u64 (ws.getD (dQ n).toNat 0) (lD n) !=0)))))) (.ret [.own [.ints .u64 16 ws] 47] (.s (.aI false))):=by kernel_rfl
theorem apO(ws:List Int)(n:Int):run P alR.sum Tryd.f43 [] (start Tryd.f43 [.ints .u64 16 ws,.s (.int .i64 n)] [])=
 Tree.ite (hM n) (.need ((0:Int)≤dQ n) (.need (dQ n<(↑(16:Nat):Int)) (.need ((0:Int)≤dQ n) (.need (dQ n<(↑(16:Nat):Int)) (.ret [.own [.ints .u64 16 (ws.set (dQ n).toNat (bG BinOp.or .u64 (ws.getD (dQ n).toNat 0) (lD n)))] 47,.own [.ints .u64 16 (ws.set (dQ n).toNat (bG BinOp.or .u64 (ws.getD (dQ n).toNat 0) (lD n)))] 47] (.ints .u64 16 (ws.set (dQ n).toNat (bG BinOp.or .u64 (ws.getD (dQ n).toNat 0) (lD n))))))))) (.ret [.own [.ints .u64 16 ws] 47,.own [.ints .u64 16 ws] 47] (.ints .u64 16 ws)):=by kernel_rfl
theorem apP(ws:List Int)(n:Int):run P alR.sum Tryd.f98 [] (start Tryd.f98 [.ints .u64 16 ws,.s (.int .i64 n)] [])=
 Tree.ite (hM n) (.need ((0:Int)≤dQ n) (.need (dQ n<(↑(16:Nat):Int)) (.need ((0:Int)≤dQ n) (.need (dQ n<(↑(16:Nat):Int)) (.ret [.own [.ints .u64 16 (ws.set (dQ n).toNat (bG BinOp.andNot .u64 (ws.getD (dQ n).toNat 0) (lD n)))] 47,.own [.ints .u64 16 (ws.set (dQ n).toNat (bG BinOp.andNot .u64 (ws.getD (dQ n).toNat 0) (lD n)))] 47] (.ints .u64 16 (ws.set (dQ n).toNat (bG BinOp.andNot .u64 (ws.getD (dQ n).toNat 0) (lD n))))))))) (.ret [.own [.ints .u64 16 ws] 47,.own [.ints .u64 16 ws] 47] (.ints .u64 16 ws)):=by kernel_rfl
theorem go{Z:a8}{X:Ctx}{t:aH}{f:FuncId}{fn:Func}{ns:List (Nat×Norm)}{c:bx}{tr:Tree}{K:List ae→AV→Prop}(hz:dP Z X)(hX:∀id,X.H id=none)(hT:t.Ok P Z)(hf:P.funcs[f]? =some fn)
 (e:run P t.sum fn ns c=tr) (h:tr.aM K (Safe P f X K)):Safe P f X K c:=b7 (aH.sOk hT) hz mixed hf (fun _ _ id _=>hX id) e h
theorem apQ{Z:a8}:dm P Z 55 [bo] [bo,tU,cf] (fun _=>[]) (fun(n,())=>(dQ n,lD n,hM n,())):=by
 refine au Tryd.func55 (by kernel_rfl) (by kernel_rfl) ?_
 rintro⟨(n:Int),⟨⟩⟩ _ _ X hX hz
 refine b7 (aH.sOk aH.Ok.nil) hz mixed Tryd.func55 (fun x h=>by simp at h) (apJ n) ?_
 have no:¬(0≤n∧n<1024)→Ends [bo,tU,cf] (dQ n,lD n,hM n,()) [] (AV.bm [AV.s (SV.bc IntKind.i64 0),AV.s (SV.bc IntKind.u64 0),AV.s (SV.aI false)]):=fun h=>
  aT (0,0,false,()) (by simp only[dQ,lD,hM,if_neg h,decide_eq_false h]) (by kernel_rfl)
 refine⟨fun h=>no (by simp at h;omega),fun h=>⟨fun h2=>no (by simp at h2;omega),fun h2=> ?_⟩⟩
 have h3:0≤n∧n<1024:=by simp at h h2;omega
 have e1:n.tdiv 64=n / 64:=Int.tdiv_eq_ediv_of_nonneg h3.1
 have e2:n.tmod 64=n%64:=Int.tmod_eq_emod_of_nonneg h3.1
 refine⟨by omega,⟨by omega,by omega⟩,by omega,by omega, ?_⟩
 rw[e1,e2]
 have e3:IntKind.u64.wrap ((1:Int)*(2:Int)^min (n%64).toNat IntKind.u64.bits)=2^(n%64).toNat:=by
  have:(n%64).toNat<64:=by omega
  rw[show IntKind.u64.bits=64 from rfl,Nat.min_eq_left (by omega),Int.one_mul]
  show(2:Int)^(n%64).toNat%18446744073709551616=_
  refine Int.emod_eq_of_lt (Int.pow_nonneg (by omega)) ?_
  have h5:(2:Nat)^(n%64).toNat<2^64:=Nat.pow_lt_pow_right (by omega) this
  have:((2:Nat)^(n%64).toNat:Int)<((2^64:Nat):Int):=by exact_mod_cast h5
  simpa using this
 rw[e3]
 exact aT (n / 64,2^(n%64).toNat,true,()) (by simp only[dQ,lD,hM,if_pos h3,decide_eq_true h3]) (by kernel_rfl)
theorem agN{Z:a8}:dm P Z 47 [tU,tU] [tU] (fun _=>[]) (fun(a,b,())=>(bG .andNot .u64 a b,())):=by
 refine au Tryd.func47 (by kernel_rfl) (by kernel_rfl) ?_
 rintro⟨(a:Int),(b:Int),⟨⟩⟩ _ _ X hX hz
 exact b7 (aH.sOk aH.Ok.nil) hz mixed Tryd.func47 (fun x h=>by simp at h) (apK a b) (aT _ rfl (by kernel_rfl))
theorem apR{Z:a8}:dm P Z 63 [tU,tU] [tU] (fun _=>[]) (fun(a,b,())=>(bG .and .u64 a b,())):=by
 refine au Tryd.func63 (by kernel_rfl) (by kernel_rfl) ?_
 rintro⟨(a:Int),(b:Int),⟨⟩⟩ _ _ X hX hz
 exact b7 (aH.sOk aH.Ok.nil) hz mixed Tryd.func63 (fun x h=>by simp at h) (apL a b) (aT _ rfl (by kernel_rfl))
theorem ar1{Z:a8}:dm P Z 54 [tU,tU] [tU] (fun _=>[]) (fun(a,b,())=>(bG .or .u64 a b,())):=by
 refine au Tryd.func54 (by kernel_rfl) (by kernel_rfl) ?_
 rintro⟨(a:Int),(b:Int),⟨⟩⟩ _ _ X hX hz
 exact b7 (aH.sOk aH.Ok.nil) hz mixed Tryd.func54 (fun x h=>by simp at h) (apM a b) (aT _ rfl (by kernel_rfl))
theorem zE{Z:a8}:alR.Ok P Z:=aH.Ok.cons apQ.sum aH.Ok.nil
theorem o8{n:Int}(h:hM n=true):0≤dQ n∧dQ n<16:=by
 simp only[hM,decide_eq_true_eq]at h
 simp only[dQ,if_pos h]
 omega
def nk(ws:List Int)(n:Int):Bool:=hM n&&(bG .and .u64 (ws.getD (dQ n).toNat 0) (lD n) !=0)
def ej(ws:List Int)(n:Int):List Int:=if hM n=true then ws.set (dQ n).toNat (bG .or .u64 (ws.getD (dQ n).toNat 0) (lD n))else ws
def cG(ws:List Int)(n:Int):List Int:=if hM n=true then ws.set (dQ n).toNat (bG .andNot .u64 (ws.getD (dQ n).toNat 0) (lD n))else ws
theorem adz{Z:a8}:dm P Z 35 [dM,bo] [cf] (fun _=>[]) (fun(ws,n,())=>(nk ws n,())):=by
 refine au Tryd.func35 (by kernel_rfl) (by kernel_rfl) ?_
 rintro⟨(ws:List Int),(n:Int),⟨⟩⟩ _ _ X hX hz
 refine b7 (aH.sOk zE) hz mixed Tryd.func35 (fun x h=>by simp at h) (apN ws n) ⟨fun h=> ?_,fun h=> ?_⟩
 ·have:=o8 h
  exact⟨this.1,this.2,aT (bG .and .u64 (ws.getD (dQ n).toNat 0) (lD n) !=0,()) (by simp[nk,h]) (by kernel_rfl)⟩
 ·exact aT (false,()) (by simp[nk,h]) (by kernel_rfl)
theorem zF{Z:a8}:dm P Z 43 [dM,bo] [dM] (fun _=>[]) (fun(ws,n,())=>(ej ws n,())):=by
 refine au Tryd.func43 (by kernel_rfl) (by kernel_rfl) ?_
 rintro⟨(ws:List Int),(n:Int),⟨⟩⟩ _ _ X hX hz
 refine b7 (aH.sOk zE) hz mixed Tryd.func43 (fun x h=>by simp at h) (apO ws n) ⟨fun h=> ?_,fun h=> ?_⟩
 ·have:=o8 h
  refine⟨this.1,this.2,this.1,this.2, ?_⟩
  simp only[ej,if_pos h]
  exact aT _ rfl (by kernel_rfl)
 ·exact aT (ws,()) (by simp only[ej,h];rfl) (by kernel_rfl)
theorem vr{Z:a8}:dm P Z 98 [dM,bo] [dM] (fun _=>[]) (fun(ws,n,())=>(cG ws n,())):=by
 refine au Tryd.func98 (by kernel_rfl) (by kernel_rfl) ?_
 rintro⟨(ws:List Int),(n:Int),⟨⟩⟩ _ _ X hX hz
 refine b7 (aH.sOk zE) hz mixed Tryd.func98 (fun x h=>by simp at h) (apP ws n) ⟨fun h=> ?_,fun h=> ?_⟩
 ·have:=o8 h
  refine⟨this.1,this.2,this.1,this.2, ?_⟩
  simp only[cG,if_pos h]
  exact aT _ rfl (by kernel_rfl)
 ·exact aT (ws,()) (by simp only[cG,h];rfl) (by kernel_rfl)
end Bx
namespace Bx
open Go Go.Sx Go.Proofs
abbrev sOp(op:BinOp):=bW [tU,tU] [tU] (fun _=>[]) (fun(a,b,())=>(bG op .u64 a b,()))
def zG:aH:=[(47,sOp .andNot),(63,sOp .and),(54,sOp .or)]
def abw:List (Nat×Norm):=[(2,⟨[],[2,3,4,6,8],0,[]⟩)]
noncomputable def c37(f:FuncId)(b s:List Int)(i:Int):bx:=⟨sl 23 [(2,.s (.kM f)),(3,.ptr 0 0),(4,.ptr 1 0),(6,.ptr 2 0),(8,.s (.int .i64 i))],[.own [.ints .u64 16 s] 47,.own [.ints .u64 16 b] 47,.own [.ints .u64 16 (List.replicate 16 0)] 47],hd Tryd.f46 2,{}⟩
theorem alS(a b:List Int):run P zG.sum Tryd.f46 abw (start Tryd.f46 [.ints .u64 16 a,.ints .u64 16 b,.s (.kM 47)] [])=
 Tree.at (.mk (sl 23 [(2,.s (.kM 47)),(3,.ptr 0 0),(4,.ptr 1 0),(6,.ptr 2 0),(8,.s (.int .i64 0))]) [.own [.ints .u64 16 a] 47,.own [.ints .u64 16 b] 47,.own [.ints .u64 16 (List.replicate 16 0)] 47] (hd Tryd.f46 2) (.mk none false 0 [] 0)):=by kernel_rfl
theorem alT(b s:List Int)(i:Int):run P zG.sum Tryd.f46 abw (c37 47 b s i)=
 Tree.ite (decide (i<16)) (.need ((0:Int)≤i) (.need (i<(↑(16:Nat):Int)) (.need ((0:Int)≤i) (.need (i<(↑(16:Nat):Int)) (.need ((0:Int)≤i) (.need (i<(↑(16:Nat):Int)) (.need (ax (i+1)) (.at (.mk (sl 23 [(2,.s (.kM 47)),(3,.ptr 0 0),(4,.ptr 1 0),(6,.ptr 2 0),(8,.s (.int .i64 (i+1)))]) [.own [.ints .u64 16 (s.set i.toNat (bG BinOp.andNot .u64 (s.getD i.toNat 0) (b.getD i.toNat 0)))] 47,.own [.ints .u64 16 b] 47,.own [.ints .u64 16 (List.replicate 16 0)] 47] (hd Tryd.f46 2) (.mk none false 0 [] 0)))))))))) (.ret [.own [.ints .u64 16 s] 47,.own [.ints .u64 16 b] 47,.own [.ints .u64 16 s] 47] (.ints .u64 16 s)):=by kernel_rfl
theorem alU(a b:List Int):run P zG.sum Tryd.f46 abw (start Tryd.f46 [.ints .u64 16 a,.ints .u64 16 b,.s (.kM 63)] [])=
 Tree.at (.mk (sl 23 [(2,.s (.kM 63)),(3,.ptr 0 0),(4,.ptr 1 0),(6,.ptr 2 0),(8,.s (.int .i64 0))]) [.own [.ints .u64 16 a] 47,.own [.ints .u64 16 b] 47,.own [.ints .u64 16 (List.replicate 16 0)] 47] (hd Tryd.f46 2) (.mk none false 0 [] 0)):=by kernel_rfl
theorem alV(b s:List Int)(i:Int):run P zG.sum Tryd.f46 abw (c37 63 b s i)=
 Tree.ite (decide (i<16)) (.need ((0:Int)≤i) (.need (i<(↑(16:Nat):Int)) (.need ((0:Int)≤i) (.need (i<(↑(16:Nat):Int)) (.need ((0:Int)≤i) (.need (i<(↑(16:Nat):Int)) (.need (ax (i+1)) (.at (.mk (sl 23 [(2,.s (.kM 63)),(3,.ptr 0 0),(4,.ptr 1 0),(6,.ptr 2 0),(8,.s (.int .i64 (i+1)))]) [.own [.ints .u64 16 (s.set i.toNat (bG BinOp.and .u64 (s.getD i.toNat 0) (b.getD i.toNat 0)))] 47,.own [.ints .u64 16 b] 47,.own [.ints .u64 16 (List.replicate 16 0)] 47] (hd Tryd.f46 2) (.mk none false 0 [] 0)))))))))) (.ret [.own [.ints .u64 16 s] 47,.own [.ints .u64 16 b] 47,.own [.ints .u64 16 s] 47] (.ints .u64 16 s)):=by kernel_rfl
theorem alW(a b:List Int):run P zG.sum Tryd.f46 abw (start Tryd.f46 [.ints .u64 16 a,.ints .u64 16 b,.s (.kM 54)] [])=
 Tree.at (.mk (sl 23 [(2,.s (.kM 54)),(3,.ptr 0 0),(4,.ptr 1 0),(6,.ptr 2 0),(8,.s (.int .i64 0))]) [.own [.ints .u64 16 a] 47,.own [.ints .u64 16 b] 47,.own [.ints .u64 16 (List.replicate 16 0)] 47] (hd Tryd.f46 2) (.mk none false 0 [] 0)):=by kernel_rfl
theorem alX(b s:List Int)(i:Int):run P zG.sum Tryd.f46 abw (c37 54 b s i)=
 Tree.ite (decide (i<16)) (.need ((0:Int)≤i) (.need (i<(↑(16:Nat):Int)) (.need ((0:Int)≤i) (.need (i<(↑(16:Nat):Int)) (.need ((0:Int)≤i) (.need (i<(↑(16:Nat):Int)) (.need (ax (i+1)) (.at (.mk (sl 23 [(2,.s (.kM 54)),(3,.ptr 0 0),(4,.ptr 1 0),(6,.ptr 2 0),(8,.s (.int .i64 (i+1)))]) [.own [.ints .u64 16 (s.set i.toNat (bG BinOp.or .u64 (s.getD i.toNat 0) (b.getD i.toNat 0)))] 47,.own [.ints .u64 16 b] 47,.own [.ints .u64 16 (List.replicate 16 0)] 47] (hd Tryd.f46 2) (.mk none false 0 [] 0)))))))))) (.ret [.own [.ints .u64 16 s] 47,.own [.ints .u64 16 b] 47,.own [.ints .u64 16 s] 47] (.ints .u64 16 s)):=by kernel_rfl
theorem alY{Z:a8}:zG.Ok P Z:=aH.Ok.cons agN.sum (aH.Ok.cons apR.sum (aH.Ok.cons ar1.sum aH.Ok.nil))
def cV(op:BinOp)(a b:List Int):List Int:=List.zipWith (bG op .u64) a b
def abx(f:FuncId):BinOp:=if f=47 then .andNot else if f=63 then .and else .or
theorem vt{a b:List Int}{n:Nat}(ha:a.length=n)(hb:b.length=n)(h:∀j,j<n→a.getD j 0=b.getD j 0):a=b:=by
 refine List.ext_getElem (by omega) fun j h1 h2=> ?_
 have:=h j (by omega)
 simpa[List.getD,h1,h2]using this
theorem qn(a:List Int)(i j:Nat)(x:Int):(a.set i x).getD j 0=if j=i∧i<a.length then x else a.getD j 0:=by
 simp only[List.getD,List.getElem?_set]
 by_cases h:i=j
 ·subst h
  by_cases h2:i<a.length
  ·simp[h2]
  ·simp[h2]
 ·simp[h,Ne.symm h]
def I37(op:BinOp)(a b s:List Int)(i:Int):Prop:=0≤i∧i≤16∧s.length=16∧∀j,j<16→s.getD j 0=if(j:Int)<i then bG op .u64 (a.getD j 0) (b.getD j 0)else a.getD j 0
theorem ajf{op:BinOp}{a b s:List Int}{i:Int}(h:I37 op a b s i)(hi:i<16):I37 op a b (s.set i.toNat (bG op .u64 (s.getD i.toNat 0) (b.getD i.toNat 0))) (i+1):=by
 obtain⟨h1,h2,h3,h4⟩:=h
 refine⟨by omega,by omega,by simpa using h3,fun j hj=> ?_⟩
 rw[qn]
 by_cases hji:j=i.toNat
 ·subst hji
  rw[if_pos ⟨rfl,by omega⟩,if_pos (by omega),h4 _ hj,if_neg (by omega)]
 ·rw[if_neg (fun h=>hji h.1),h4 j hj]
  by_cases h5:(j:Int)<i
  ·rw[if_pos h5,if_pos (by omega)]
  ·rw[if_neg h5,if_neg (by omega)]
theorem alZ{op:BinOp}{a b s:List Int}{i:Int}(ha:a.length=16)(hb:b.length=16)(h:I37 op a b s i)(hi:¬i<16):s=cV op a b:=by
 obtain⟨h1,h2,h3,h4⟩:=h
 refine vt h3 (by simp[cV,ha,hb]) fun j hj=> ?_
 rw[h4 j hj,if_pos (by omega)]
 simp[cV,List.getD,List.getElem?_zipWith,ha,hb,hj]
theorem zH{Z:a8}:dm P Z 46 [dM,dM,.b .fn] [dM] (fun(_,_,f,())=>[f=47∨f=63∨f=54]) (fun(a,b,f,())=>(cV (abx f) a b,())):=by
 refine au Tryd.func46 (by kernel_rfl) (by kernel_rfl) ?_
 rintro⟨(a:List Int),(b:List Int),(f:FuncId),⟨⟩⟩ ⟨(ha:a.length=16),(hb:b.length=16),_⟩ ⟨(hf:f=47∨f=63∨f=54),_⟩ X hX hz
 have run (c:bx) (t:Tree) (ht:run P zG.sum Tryd.f46 abw c=t) {K:List ae→AV→Prop} (h:t.aM K (Safe P 46 X K)):Safe P 46 X K c:=
  b7 (aH.sOk alY) hz mixed Tryd.func46 (fun x h id _=>hX id) ht h
 have loop (op:BinOp) (f:FuncId) (hl:∀s i,Sx.run P zG.sum Tryd.f46 abw (c37 f b s i)=Tree.ite (decide (i<16)) (.need ((0:Int)≤i) (.need (i<(↑(16:Nat):Int)) (.need ((0:Int)≤i) (.need (i<(↑(16:Nat):Int)) (.need ((0:Int)≤i) (.need (i<(↑(16:Nat):Int)) (.need (ax (i+1)) (.at (c37 f b (s.set i.toNat (bG op .u64 (s.getD i.toNat 0) (b.getD i.toNat 0))) (i+1)))))))))) (.ret [.own [.ints .u64 16 s] 47,.own [.ints .u64 16 b] 47,.own [.ints .u64 16 s] 47] (.ints .u64 16 s))):
  Safe P 46 X (Ends [dM] (cV op a b,())) (c37 f b a 0):=by
  refine rq (fun(x:List Int×Int)=>c37 f b x.1 x.2) (fun x=>I37 op a b x.1 x.2) (fun x=>(16 - x.2).toNat) ?_ (a,0) ⟨by omega,by omega,ha,fun j hj=>by rw[if_neg (by simp only[];omega)]⟩
  rintro⟨s,i⟩ hI ih
  have h0:0≤i:=hI.1
  refine run _ _ (hl s i) ⟨fun h=> ?_,fun h=> ?_⟩
  ·have hi:i<16:=by simpa using h
   exact⟨h0,hi,h0,hi,h0,hi,⟨by omega,by omega⟩,ih (_,i+1) (ajf hI hi) (by simp only[];omega)⟩
  ·have hi:¬i<16:=by simpa using h
   exact aT (s,()) (by rw[←alZ ha hb hI hi]) (by kernel_rfl)
 rcases hf with rfl|rfl|rfl
 ·exact run _ _ (alS a b) (loop .andNot 47 (fun s i=>alT b s i))
 ·exact run _ _ (alU a b) (loop .and 63 (fun s i=>alV b s i))
 ·exact run _ _ (alW a b) (loop .or 54 (fun s i=>alX b s i))
end Bx
namespace Bx
open Go Go.Sx Go.Proofs
abbrev s37:=bW [dM,dM,.b .fn] [dM] (fun(_,_,f,())=>[f=47∨f=63∨f=54]) (fun(a,b,f,())=>(cV (abx f) a b,()))
def apS:aH:=[(46,s37)]
theorem apT(a b:List Int):run P apS.sum Tryd.f23 [] (start Tryd.f23 [.ints .u64 16 a,.ints .u64 16 b] [])=
 Tree.need ((47:Nat)=(47:(Ty.b B.fn).V)∨(47:Nat)=(63:(Ty.b B.fn).V)∨(47:Nat)=(54:(Ty.b B.fn).V)) (.ret [.own [.ints .u64 16 a] 47,.own [.ints .u64 16 b] 47,.own [.ints .u64 16 (cV (abx 47) a b)] 47] (.ints .u64 16 (cV (abx 47) a b))):=by kernel_rfl
theorem apU(a b:List Int):run P apS.sum Tryd.f44 [] (start Tryd.f44 [.ints .u64 16 a,.ints .u64 16 b] [])=
 Tree.need ((63:Nat)=(47:(Ty.b B.fn).V)∨(63:Nat)=(63:(Ty.b B.fn).V)∨(63:Nat)=(54:(Ty.b B.fn).V)) (.ret [.own [.ints .u64 16 a] 47,.own [.ints .u64 16 b] 47,.own [.ints .u64 16 (cV (abx 63) a b)] 47] (.ints .u64 16 (cV (abx 63) a b))):=by kernel_rfl
theorem apV(a b:List Int):run P apS.sum Tryd.f28 [] (start Tryd.f28 [.ints .u64 16 a,.ints .u64 16 b] [])=
 Tree.need ((54:Nat)=(47:(Ty.b B.fn).V)∨(54:Nat)=(63:(Ty.b B.fn).V)∨(54:Nat)=(54:(Ty.b B.fn).V)) (.ret [.own [.ints .u64 16 a] 47,.own [.ints .u64 16 b] 47,.own [.ints .u64 16 (cV (abx 54) a b)] 47] (.ints .u64 16 (cV (abx 54) a b))):=by kernel_rfl
def ar2:List (Nat×Norm):=[(3,⟨[],[0,2,3,6],0,[]⟩)]
noncomputable def c13(n:Int)(s:List Int)(i:Int):bx:=⟨sl 24 [(0,.s (.int .i64 n)),(2,.ptr 0 0),(3,.ptr 1 0),(6,.s (.int .i64 i))],[.own [.ints .u64 16 (List.replicate 16 0)] 47,.own [.ints .u64 16 s] 47],hd Tryd.f29 3,{}⟩
theorem apW(n:Int):run P kI.sum Tryd.f29 ar2 (start Tryd.f29 [.s (.int .i64 n)] [])=
 Tree.at (.mk (sl 24 [(0,.s (.int .i64 n)),(2,.ptr 0 0),(3,.ptr 1 0),(6,.s (.int .i64 0))]) [.own [.ints .u64 16 (List.replicate 16 0)] 47,.own [.ints .u64 16 (List.replicate 16 0)] 47] (hd Tryd.f29 3) (.mk none false 0 [] 0)):=by kernel_rfl
theorem apX(n:Int)(s:List Int)(i:Int):run P kI.sum Tryd.f29 ar2 (c13 n s i)=
 Tree.ite (decide (i<(16:Int))) (Tree.need (ax (i*(64:Int))) (Tree.need (ax (oK (imax n (0:Int)) (1024:Int) - i*(64:Int))) (Tree.need ((0:Int)≤oK (imax (oK (imax n (0:Int)) (1024:Int) - i*(64:Int)) (0:Int)) (64:Int)) (Tree.need ((0:Int)≤i) (Tree.need (i<(↑(16:Nat):Int)) (Tree.need (ax (i+(1:Int))) (Tree.at (bx.mk (sl (24:Nat) [((0:Nat),AV.s (SV.int IntKind.i64 n)),((2:Nat),AV.ptr (0:Nat) (0:Nat)),((3:Nat),AV.ptr (1:Nat) (0:Nat)),((6:Nat),AV.s (SV.int IntKind.i64 (i+(1:Int))))]) [ae.own [AV.ints IntKind.u64 (16:Nat) (List.replicate (16:Nat) (0:Int))] (47:Nat),ae.own [AV.ints IntKind.u64 (16:Nat) (s.set i.toNat (IntKind.u64.wrap (IntKind.u64.wrap ((1:Int)*(2:Int)^min (oK (imax (oK (imax n (0:Int)) (1024:Int) - i*(64:Int)) (0:Int)) (64:Int)).toNat IntKind.u64.bits) - (1:Int))))] (47:Nat)] (hd Tryd.f29 (3:Nat)) (mj.mk none false (0:Nat) [] (0:Nat)))))))))) (Tree.ret [ae.own [AV.ints IntKind.u64 (16:Nat) s] (47:Nat),ae.own [AV.ints IntKind.u64 (16:Nat) s] (47:Nat)] (AV.ints IntKind.u64 (16:Nat) s)):=by kernel_rfl
theorem ae7{Z:a8}:dm P Z 23 [dM,dM] [dM] (fun _=>[]) (fun(a,b,())=>(cV .andNot a b,())):=by
 refine au Tryd.func23 (by kernel_rfl) (by kernel_rfl) ?_
 rintro⟨(a:List Int),(b:List Int),⟨⟩⟩ _ _ X hX hz
 exact go hz hX (aH.Ok.cons zH.sum aH.Ok.nil) Tryd.func23 (apT a b) ⟨.inl rfl,aT _ rfl (by kernel_rfl)⟩
theorem al0{Z:a8}:dm P Z 44 [dM,dM] [dM] (fun _=>[]) (fun(a,b,())=>(cV .and a b,())):=by
 refine au Tryd.func44 (by kernel_rfl) (by kernel_rfl) ?_
 rintro⟨(a:List Int),(b:List Int),⟨⟩⟩ _ _ X hX hz
 exact go hz hX (aH.Ok.cons zH.sum aH.Ok.nil) Tryd.func44 (apU a b) ⟨.inr (.inl rfl),aT _ rfl (by kernel_rfl)⟩
theorem ajg{Z:a8}:dm P Z 28 [dM,dM] [dM] (fun _=>[]) (fun(a,b,())=>(cV .or a b,())):=by
 refine au Tryd.func28 (by kernel_rfl) (by kernel_rfl) ?_
 rintro⟨(a:List Int),(b:List Int),⟨⟩⟩ _ _ X hX hz
 exact go hz hX (aH.Ok.cons zH.sum aH.Ok.nil) Tryd.func28 (apV a b) ⟨.inr (.inr rfl),aT _ rfl (by kernel_rfl)⟩
def bg:List Int:=List.replicate 16 0
def agO(n i:Int):Int:=oK (imax (oK (imax n 0) 1024 - i*64) 0) 64
def rF(n i:Int):Int:=IntKind.u64.wrap (IntKind.u64.wrap (1*2^min (agO n i).toNat IntKind.u64.bits) - 1)
def bY(n:Int):List Int:=(List.range 16).map fun(i:Nat)=>rF n i
theorem vu(n i:Int):0≤agO n i∧agO n i≤64:=by
 unfold agO
 generalize oK (imax n 0) 1024 - i*64=x
 unfold oK imax
 split<;>split at * <;>omega
theorem agP(n:Int):0≤oK (imax n 0) 1024∧oK (imax n 0) 1024≤1024:=by
 unfold oK imax
 split<;>split at * <;>omega
theorem vv {Z : a8} : dm P Z 29 [bo] [dM] (fun _ => []) (fun (n, ()) => (bY n, ())) := by
 refine au Tryd.func29 (by kernel_rfl) (by kernel_rfl) ?_
 rintro ⟨(n : Int), ⟨⟩⟩ _ _ X hX hz
 refine go hz hX aH.Ok.nil Tryd.func29 (apW n) ?_
 refine rq (fun (x : List Int × Int) => c13 n x.1 x.2) (fun x => 0 ≤ x.2 ∧ x.2 ≤ 16 ∧ x.1.length = 16 ∧ ∀ j : Nat, j < 16 → (j : Int) < x.2 → x.1.getD j 0 = rF n j) (fun x => (16 - x.2).toNat) ?_ (bg, 0) ⟨by simp only []; omega, by simp only []; omega, rfl, fun j _ h => by simp only [] at h; omega⟩
 rintro ⟨s, i⟩ ⟨(h0 : 0 ≤ i), (h1 : i ≤ 16), (h2 : s.length = 16), h3⟩ ih
 simp only [] at h3
 have hr := vu n i
 have hc := agP n
 refine go hz hX aH.Ok.nil Tryd.func29 (apX n s i) ⟨fun h => ?_, fun h => ?_⟩
 · have hi : i < (16 : Int) := of_decide_eq_true h
   refine ⟨⟨by omega, by omega⟩, ⟨by omega, by omega⟩, hr.1, h0, hi, ⟨by omega, by omega⟩, ih (s.set i.toNat (rF n i), i + 1) ⟨by simp only []; omega, by simp only []; omega, by simpa using h2, fun j hj hji => ?_⟩ (by simp only []; omega)⟩
   simp only [] at hji ⊢
   rw [qn]
   by_cases tY : j = i.toNat
   · rw [if_pos ⟨tY, by omega⟩, show (j : Int) = i from by omega]
   · rw [if_neg (fun h => tY h.1)]
     exact h3 j hj (by omega)
 · have hi : ¬ i < (16 : Int) := of_decide_eq_false h
   refine aT (s, ()) ?_ (by kernel_rfl)
   rw [vt (a := s) (b := bY n) h2 (by simp [bY]) (fun j hj => ?_)]
   rw [h3 j hj (by omega)]
   simp [bY, List.getD, hj]
end Bx
namespace Bx
open Go Go.Sx Go.Proofs
def ub(a b:Int):Int:=bG .and .u64 a b
def sh(x k:Int):Int:=x.fdiv ((2:Int)^min (Int.toNat k) IntKind.u64.bits)
def pc:Nat→Nat→Nat
 |0,_=>0
 |n+1,x=>x%2+pc n (x / 2)
theorem apY(a b:Nat)(ha:a<18446744073709551616)(hb:b<18446744073709551616):ub (a:Int) (b:Int)=((a &&& b:Nat):Int):=by
 have hx:a &&& b<2^64:=Nat.and_lt_two_pow _ (by omega)
 have h1:(BitVec.ofInt 64 (a:Int)).toNat=a:=by
  rw[BitVec.ofInt_natCast,BitVec.toNat_ofNat];exact Nat.mod_eq_of_lt (by omega)
 have h2:(BitVec.ofInt 64 (b:Int)).toNat=b:=by
  rw[BitVec.ofInt_natCast,BitVec.toNat_ofNat];exact Nat.mod_eq_of_lt (by omega)
 show((BitVec.ofInt 64 (a:Int) &&& BitVec.ofInt 64 (b:Int)).toNat:Int)%18446744073709551616=_
 rw[BitVec.toNat_and,h1,h2]
 omega
def msk(b c:Nat):Nat→Nat
 |0=>0
 |n+1=>(2^b - 1)+2^c*msk b c n
theorem qo(b c n x:Nat)(hbc:b≤c):x &&& msk b c (n+1)=x%2^b+2^c*((x / 2^c) &&& msk b c n):=by
 have adA:x%2^b<2^c:=Nat.lt_of_lt_of_le (Nat.mod_lt _ (Nat.two_pow_pos _)) (Nat.pow_le_pow_right (by omega) hbc)
 have hm:2^b - 1<2^c:=Nat.lt_of_lt_of_le (by have:=Nat.two_pow_pos b;omega) (Nat.pow_le_pow_right (by omega) hbc)
 apply Nat.eq_of_testBit_eq
 intro i
 rw[Nat.testBit_and,msk,Nat.add_comm (2^b - 1),Nat.add_comm (x%2^b)]
 rw[Nat.testBit_two_pow_mul_add _ hm,Nat.testBit_two_pow_mul_add _ adA]
 by_cases hi:i<c
 ·rw[if_pos hi,if_pos hi,Nat.testBit_two_pow_sub_one,Nat.testBit_mod_two_pow,Bool.and_comm]
 ·rw[if_neg hi,if_neg hi,Nat.testBit_and,Nat.testBit_div_two_pow]
  congr 2
  omega
def st1(n x:Nat):Nat:=((x / 2) &&& msk 1 2 n)+(x &&& msk 1 2 n)
theorem aby(n x:Nat):st1 (n+1) x=(x%2+x / 2%2)+4*st1 n (x / 4):=by
 unfold st1
 rw[qo 1 2 n x (by omega),qo 1 2 n (x / 2) (by omega)]
 rw[show x / 2 / 2^2=x / 4 / 2 from by omega,show x / 2^2=x / 4 from rfl]
 omega
def st2(n y:Nat):Nat:=((y / 4) &&& msk 2 4 n)+(y &&& msk 2 4 n)
theorem ajh(n y:Nat):st2 (n+1) y=(y%4+y / 4%4)+16*st2 n (y / 16):=by
 unfold st2
 rw[qo 2 4 n y (by omega),qo 2 4 n (y / 4) (by omega)]
 rw[show y / 4 / 2^4=y / 16 / 4 from by omega,show y / 2^4=y / 16 from rfl]
 omega
theorem aji(n x:Nat):st1 (n+2) x%16=x%2+x / 2%2+4*(x / 4%2+x / 4 / 2%2)∧st1 (n+2) x / 16=st1 n (x / 16):=by
 rw[aby,aby,show x / 16=x / 4 / 4 from by omega]
 constructor<;>omega
theorem ao3:∀(n x:Nat),st2 (n+1) (st1 (2*(n+1)) x)=pc 4 x+16*st2 n (st1 (2*n) (x / 16)):=by
 intro n x
 rw[ajh,show 2*(n+1)=2*n+2 from by omega]
 obtain⟨h1,h2⟩:=aji (2*n) x
 rw[h2]
 have hp:pc 4 x=x%2+(x / 2%2+(x / 2 / 2%2+(x / 2 / 2 / 2%2+0))):=rfl
 rw[show x / 2 / 2=x / 4 from by omega]at hp
 rw[hp]
 generalize st1 (2*n+2) x=y at *
 generalize x / 4 / 2%2=b3 at *
 have:x%2<2∧x / 2%2<2∧x / 4%2<2:=by omega
 generalize x%2=b0 at *
 generalize x / 2%2=b1 at *
 generalize x / 4%2=b2 at *
 omega
def st3(n z:Nat):Nat:=(z / 16+z) &&& msk 4 8 n
theorem ae8:∀(n x:Nat),pc n x≤n
 |0,x=>Nat.le_refl _
 |n+1,x=>by have:=ae8 n (x / 2);simp only[pc];omega
theorem ajj:∀(m n x:Nat),pc (m+n) x=pc m x+pc n (x / 2^m)
 |0,n,x=>by simp[pc]
 |m+1,n,x=>by
  rw[show m+1+n=(m+n)+1 from by omega]
  simp only[pc]
  rw[ajj m n (x / 2),Nat.div_div_eq_div_mul,Nat.pow_succ,Nat.mul_comm 2]
  omega
def z4(n x:Nat):Nat:=st2 n (st1 (2*n) x)
theorem zI(n x:Nat):z4 (n+1) x=pc 4 x+16*z4 n (x / 16):=ao3 n x
theorem al1(x:Nat):z4 0 x=0:=by simp[z4,st2,msk]
theorem ajk(n x:Nat):st3 (n+1) (z4 (2*n+2) x)=pc 8 x+256*st3 n (z4 (2*n) (x / 256)):=by
 unfold st3
 rw[qo 4 8 n _ (by omega)]
 have e1:=zI (2*n+1) x
 have e2:=zI (2*n) (x / 16)
 rw[Nat.div_div_eq_div_mul]at e2
 have e0:pc 8 x=pc 4 x+pc 4 (x / 16):=ajj 4 4 x
 have b1:=ae8 4 x
 have b2:=ae8 4 (x / 16)
 have b3:z4 (2*n) (x / (16*16))%16≤4:=by
  cases n with
  |zero=>rw[al1];omega
  |succ n=>
   rw[show 2*(n+1)=(2*n+1)+1 from by omega,zI]
   have:=ae8 4 (x / (16*16))
   omega
 rw[show x / 256=x / (16*16)from rfl]
 generalize z4 (2*n) (x / (16*16))=q at *
 generalize z4 (2*n+1) (x / 16)=r at *
 generalize z4 (2*n+2) x=t at *
 have ht:(t / 16+t) / 2^8=q / 16+q:=by omega
 rw[ht]
 have:(t / 16+t)%2^4=pc 4 x+pc 4 (x / 16):=by omega
 omega
theorem bytes(x:Nat):st3 8 (z4 16 x)=pc 8 x+256*(pc 8 (x / 2^8)+256*(pc 8 (x / 2^16)+256*(pc 8 (x / 2^24)+256*(pc 8 (x / 2^32)+256*(pc 8 (x / 2^40)+256*(pc 8 (x / 2^48)+256*pc 8 (x / 2^56))))))):=by
 have h (n x:Nat):=ajk n x
 have h0:∀x,st3 0 (z4 0 x)=0:=fun x=>by simp[st3,msk]
 rw[h 7,h 6,h 5,h 4,h 3,h 2,h 1,h 0,h0]
 simp only[Nat.div_div_eq_div_mul]
 try rfl
end Bx
namespace Bx
open Go Go.Sx Go.Proofs
def okW(ws:List Int):Prop:=ws.length=16∧∀w∈ws,0≤w∧w<18446744073709551616
def wd(ws:List Int)(i:Nat):Nat:=(ws.getD i 0).toNat
def bit(ws:List Int)(k:Nat):Bool:=(wd ws (k / 64)).testBit (k%64)
def opb:BinOp→Bool→Bool→Bool
 |.or,x,y=>x||y
 |.andNot,x,y=>x&& !y
 |_,x,y=>x&&y
theorem qp{ws:List Int}(h:okW ws)(i:Nat):wd ws i<18446744073709551616∧(ws.getD i 0)=(wd ws i:Int):=by
 unfold wd
 by_cases hi:i<ws.length
 ·have:=h.2 (ws.getD i 0) (by rw[List.getD,List.getElem?_eq_getElem hi];exact List.getElem_mem hi)
  omega
 ·have:ws.getD i 0=0:=by simp[List.getD,List.getElem?_eq_none (Nat.le_of_not_lt hi)]
  rw[this];simp
theorem xU(op:BinOp)(wc:op=.or∨op=.and∨op=.andNot)(a b:Nat)(ha:a<18446744073709551616)(hb:b<18446744073709551616):
 ∃r:Nat,bG op .u64 (a:Int) (b:Int)=(r:Int)∧r<18446744073709551616∧∀i,i<64→r.testBit i=opb op (a.testBit i) (b.testBit i):=by
 have h1:BitVec.ofInt 64 (a:Int)=BitVec.ofNat 64 a:=BitVec.ofInt_natCast 64 a
 have h2:BitVec.ofInt 64 (b:Int)=BitVec.ofNat 64 b:=BitVec.ofInt_natCast 64 b
 have key:∀v:BitVec 64,IntKind.u64.wrap (v.toNat:Int)=(v.toNat:Int):=fun v=>by
  have:=v.isLt
  show(v.toNat:Int)%18446744073709551616=_
  omega
 rcases wc with rfl|rfl|rfl
 ·refine⟨(BitVec.ofNat 64 a ||| BitVec.ofNat 64 b).toNat, ?_,(BitVec.ofNat 64 a ||| BitVec.ofNat 64 b).isLt,fun i hi=> ?_⟩
  ·show IntKind.u64.wrap ((BitVec.ofInt 64 (a:Int) ||| BitVec.ofInt 64 (b:Int)).toNat:Int)=_
   rw[h1,h2,key]
  ·rw[BitVec.testBit_toNat,BitVec.getLsbD_or,BitVec.getLsbD_ofNat,BitVec.getLsbD_ofNat]
   simp[opb,hi]
 ·refine⟨(BitVec.ofNat 64 a &&& BitVec.ofNat 64 b).toNat, ?_,(BitVec.ofNat 64 a &&& BitVec.ofNat 64 b).isLt,fun i hi=> ?_⟩
  ·show IntKind.u64.wrap ((BitVec.ofInt 64 (a:Int) &&& BitVec.ofInt 64 (b:Int)).toNat:Int)=_
   rw[h1,h2,key]
  ·rw[BitVec.testBit_toNat,BitVec.getLsbD_and,BitVec.getLsbD_ofNat,BitVec.getLsbD_ofNat]
   simp[opb,hi]
 ·refine⟨(BitVec.ofNat 64 a &&& ~~~ BitVec.ofNat 64 b).toNat, ?_,(BitVec.ofNat 64 a &&& ~~~ BitVec.ofNat 64 b).isLt,fun i hi=> ?_⟩
  ·show IntKind.u64.wrap ((BitVec.ofInt 64 (a:Int) &&& ~~~ BitVec.ofInt 64 (b:Int)).toNat:Int)=_
   rw[h1,h2,key]
  ·rw[BitVec.testBit_toNat,BitVec.getLsbD_and,BitVec.getLsbD_not,BitVec.getLsbD_ofNat,BitVec.getLsbD_ofNat]
   simp[opb,hi]
theorem vw{ws:List Int}(hl:ws.length=16)(h:∀i,i<16→0≤ws.getD i 0∧ws.getD i 0<18446744073709551616):okW ws:=by
 refine⟨hl,fun w hw=> ?_⟩
 obtain⟨i,hi,rfl⟩:=List.getElem_of_mem hw
 have:=h i (by omega)
 rwa[List.getD,List.getElem?_eq_getElem hi]at this
theorem ajl{op:BinOp}{a b:List Int}(ha:a.length=16)(hb:b.length=16){i:Nat}(hi:i<16):(cV op a b).getD i 0=bG op .u64 (a.getD i 0) (b.getD i 0):=by
 have h1:i<a.length:=by omega
 have h2:i<b.length:=by omega
 simp[cV,List.getD,List.getElem?_zipWith,h1,h2]
theorem nm{op:BinOp}(wc:op=.or∨op=.and∨op=.andNot){a b:List Int}(ha:okW a)(hb:okW b):okW (cV op a b)∧∀k,k<1024→bit (cV op a b) k=opb op (bit a k) (bit b k):=by
 have key:∀i,i<16→∃r:Nat,(cV op a b).getD i 0=(r:Int)∧r<18446744073709551616∧∀j,j<64→r.testBit j=opb op ((wd a i).testBit j) ((wd b i).testBit j):=fun i hi=>by
  rw[ajl ha.1 hb.1 hi,(qp ha i).2,(qp hb i).2]
  exact xU op wc _ _ (qp ha i).1 (qp hb i).1
 refine⟨vw (by simp[cV,ha.1,hb.1]) fun i hi=> ?_,fun k hk=> ?_⟩
 ·obtain⟨r,h1,h2,_⟩:=key i hi
  rw[h1];omega
 ·obtain⟨r,h1,h2,h3⟩:=key (k / 64) (by omega)
  unfold bit
  rw[show wd (cV op a b) (k / 64)=r from by unfold wd;rw[h1];rfl]
  exact h3 _ (by omega)
theorem iK:okW bg∧∀k,bit bg k=false:=by
 refine⟨⟨rfl,fun w hw=> ?_⟩,fun k=> ?_⟩
 ·have:=List.eq_of_mem_replicate hw
  omega
 ·have:wd bg (k / 64)=0:=by
   unfold wd bg
   rw[List.getD,List.getElem?_replicate]
   split<;>rfl
  simp[bit,this]
theorem tg{j i:Nat}:(2^j).testBit i=decide (j=i):=by
 rw[Nat.testBit_two_pow]
theorem abz{n:Int}(h:0≤n∧n<1024):lD n=((2^(n.toNat%64):Nat):Int)∧2^(n.toNat%64)<18446744073709551616∧dQ n=((n.toNat / 64:Nat):Int):=by
 unfold lD dQ
 rw[if_pos h,if_pos h]
 have e:(n%64).toNat=n.toNat%64:=by omega
 rw[e]
 have h2:(2:Nat)^(n.toNat%64)<2^64:=Nat.pow_lt_pow_right (by omega) (by omega)
 refine⟨by simp,h2,by omega⟩
theorem lF{n:Int}:hM n=true↔0≤n∧n<1024:=by simp[hM]
theorem ajm(op:BinOp)(wc:op=.or∨op=.andNot){ws:List Int}(hw:okW ws){n:Int}(h:0≤n∧n<1024):
 okW (ws.set (dQ n).toNat (bG op .u64 (ws.getD (dQ n).toNat 0) (lD n)))∧∀k,k<1024→bit (ws.set (dQ n).toNat (bG op .u64 (ws.getD (dQ n).toNat 0) (lD n))) k=opb op (bit ws k) (decide (n=(k:Int))):=by
 obtain⟨e1,e2,e3⟩:=abz h
 rw[e1,e3,Int.toNat_natCast]
 obtain⟨m,rfl⟩:=Int.eq_ofNat_of_zero_le h.1
 simp only[Int.toNat_natCast]at *
 have hb:=qp hw (m / 64)
 rw[hb.2]
 obtain⟨r,h1,h2,h3⟩:=xU op (by rcases wc with h|h<;>simp[h]) _ _ hb.1 e2
 rw[h1]
 have hm:m / 64<ws.length:=by rw[hw.1];omega
 refine⟨vw (by simpa using hw.1) fun i hi=> ?_,fun k hk=> ?_⟩
 ·rw[qn]
  split
  ·omega
  ·have:=qp hw i;omega
 ·unfold bit wd
  rw[qn]
  by_cases qK:k / 64=m / 64
  ·rw[if_pos ⟨qK,hm⟩,Int.toNat_natCast,h3 _ (by omega),tg]
   have:decide (m%64=k%64)=decide ((m:Int)=(k:Int)):=by
    apply decide_eq_decide.2;omega
   rw[this,qK]
   rfl
  ·rw[if_neg (fun h=>qK h.1)]
   have:decide ((m:Int)=(k:Int))=false:=decide_eq_false (by omega)
   rw[this]
   rcases wc with rfl|rfl<;>simp[opb]
theorem jU{ws:List Int}(hw:okW ws)(n:Int):okW (ej ws n)∧∀k,k<1024→bit (ej ws n) k=(bit ws k||decide (n=(k:Int))):=by
 unfold ej
 by_cases h:0≤n∧n<1024
 ·rw[if_pos (lF.2 h)]
  exact ajm .or (.inl rfl) hw h
 ·rw[if_neg (fun h2=>h (lF.1 h2))]
  refine⟨hw,fun k hk=> ?_⟩
  rw[decide_eq_false (by omega),Bool.or_false]
theorem ky{ws:List Int}(hw:okW ws)(n:Int):okW (cG ws n)∧∀k,k<1024→bit (cG ws n) k=(bit ws k&& !decide (n=(k:Int))):=by
 unfold cG
 by_cases h:0≤n∧n<1024
 ·rw[if_pos (lF.2 h)]
  exact ajm .andNot (.inr rfl) hw h
 ·rw[if_neg (fun h2=>h (lF.1 h2))]
  refine⟨hw,fun k hk=> ?_⟩
  rw[decide_eq_false (by omega)]
  simp
theorem al2(w j:Nat):w &&& 2^j=if w.testBit j=true then 2^j else 0:=by
 apply Nat.eq_of_testBit_eq
 intro i
 rw[Nat.testBit_and,tg]
 by_cases h:j=i
 ·subst h
  cases h2:w.testBit j
  ·simp
  ·simp[tg]
 ·cases h2:w.testBit j
  ·simp[h]
  ·simp[tg,h]
theorem ae9{ws:List Int}(hw:okW ws)(n:Int):nk ws n=(decide (0≤n∧n<1024)&&bit ws n.toNat):=by
 unfold nk
 by_cases h:0≤n∧n<1024
 ·rw[show hM n=true from lF.2 h,decide_eq_true h]
  obtain⟨e1,e2,e3⟩:=abz h
  rw[e1,e3,Int.toNat_natCast]
  have hb:=qp hw (n.toNat / 64)
  rw[hb.2]
  have:=apY _ _ hb.1 e2
  unfold ub at this
  rw[this,al2]
  unfold bit
  have hp:(0:Nat)<2^(n.toNat%64):=Nat.two_pow_pos _
  generalize (2:Nat)^(n.toNat%64)=p at *
  cases(wd ws (n.toNat / 64)).testBit (n.toNat%64)
  ·rfl
  ·rw[if_pos rfl]
   simp
   omega
 ·rw[show hM n=false from by simp[hM];omega,decide_eq_false h]
  rfl
theorem al3{a b:List Int}(ha:okW a)(hb:okW b)(h:∀k,k<1024→bit a k=bit b k):a=b:=by
 refine vt ha.1 hb.1 fun i hi=> ?_
 have h1:=qp ha i
 have h2:=qp hb i
 rw[h1.2,h2.2]
 congr 1
 apply Nat.eq_of_testBit_eq
 intro j
 by_cases hj:j<64
 ·have:=h (64*i+j) (by omega)
  unfold bit at this
  rwa[show(64*i+j) / 64=i from by omega,show(64*i+j)%64=j from by omega]at this
 ·rw[Nat.testBit_lt_two_pow (Nat.lt_of_lt_of_le h1.1 (Nat.pow_le_pow_right (by omega) (Nat.le_of_not_lt hj):2^64≤2^j)),Nat.testBit_lt_two_pow (Nat.lt_of_lt_of_le h2.1 (Nat.pow_le_pow_right (by omega) (Nat.le_of_not_lt hj):2^64≤2^j))]
theorem vz(n i:Int):∃m:Nat,m≤64∧agO n i=m∧rF n i=((2^m - 1:Nat):Int):=by
 obtain⟨h0,h1⟩:=vu n i
 obtain⟨m,hm⟩:=Int.eq_ofNat_of_zero_le h0
 refine⟨m,by omega,hm, ?_⟩
 unfold rF
 rw[hm,Int.toNat_natCast,show IntKind.u64.bits=64 from rfl,Nat.min_eq_left (by omega),Int.one_mul]
 show((2:Int)^m%18446744073709551616 - 1)%18446744073709551616=_
 have hp:=Nat.two_pow_pos m
 by_cases h64:m=64
 ·subst h64;decide
 ·have h2:(2:Nat)^m<2^64:=Nat.pow_lt_pow_right (by omega) (by omega)
  rw[show(2:Int)^m=((2^m:Nat):Int)from by simp]
  generalize (2:Nat)^m=p at *
  omega
theorem cK(n:Int):okW (bY n)∧∀k,k<1024→bit (bY n) k=decide ((k:Int)<n):=by
 have hg:∀i:Nat,i<16→(bY n).getD i 0=rF n i:=fun i hi=>by simp[bY,List.getD,hi]
 refine⟨vw (by simp[bY]) fun i hi=> ?_,fun k hk=> ?_⟩
 ·rw[hg i hi]
  obtain⟨m,h1,_,h2⟩:=vz n i
  rw[h2]
  have:(2:Nat)^m≤2^64:=Nat.pow_le_pow_right (by omega) h1
  omega
 ·unfold bit wd
  rw[hg _ (by omega)]
  obtain⟨m,h1,h3,h2⟩:=vz n ((k / 64:Nat):Int)
  rw[h2,Int.toNat_natCast,Nat.testBit_two_pow_sub_one]
  apply decide_eq_decide.2
  unfold agO oK imax at h3
  split at h3<;>(split at h3<;>(split at h3<;>split at h3<;>omega))
end Bx
namespace Bx
open Go Go.Sx Go.Proofs
abbrev s35:=bW [tU] [bo] (fun(x,())=>[(0:Int)≤x∧x<(18446744073709551616:Int)]) (fun(x,())=>(((pc 64 (Int.toNat x):Nat):Int),()))
def abA(x:Int):Int:=(Lib.ctz 64 x.toNat:Nat)
abbrev s34:=bW [tU] [bo] (fun(x,())=>[(0:Int)≤x∧x<(18446744073709551616:Int)]) (fun(x,())=>(abA x,()))
abbrev s13:=bW [bo] [dM] (fun _=>[]) (fun(n,())=>(bY n,()))
abbrev s21:=bW [dM,dM] [dM] (fun _=>[]) (fun(a,b,())=>(cV .andNot a b,()))
def apZ:aH:=[(29,s13),(23,s21),(103,s34)]
def ar3:List (Nat×Norm):=[(6,⟨[],[17,18],0,[]⟩)]
noncomputable def c12(ws:List Int)(i:Int):bx:=⟨sl 30 [(17,.ints .u64 16 ws),(18,.s (.int .i64 i))],[],hd Tryd.f95 6,{}⟩
theorem ap0(ws:List Int)(n:Int):run P apZ.sum Tryd.f95 ar3 (start Tryd.f95 [.ints .u64 16 ws,.s (.int .i64 n)] [])=
 Tree.ite (decide (imax n (0:Int)≥1024)) (.ret [.own [.ints .u64 16 ws] 47] (.bm [.s (.bc .i64 0),.s (.aI false)])) (.at (.mk (sl 30 [(17,.ints .u64 16 (cV BinOp.andNot ws (bY (imax n 0)))),(18,.s (.int .i64 0))]) [] (hd Tryd.f95 6) (.mk none false 0 [] 0))):=by kernel_rfl
theorem ap1(ws:List Int)(i:Int):run P apZ.sum Tryd.f95 ar3 (c12 ws i)=
 Tree.ite (decide (i<16)) (.need ((0:Int)≤i) (.need (i<(↑(16:Nat):Int)) (.ite (ws.getD i.toNat (0:Int) !=0) (.need (ax (i*64)) (.need ((0:Int)≤ws.getD i.toNat (0:Int)∧ws.getD i.toNat (0:Int)<18446744073709551616) (.need (ax (i*64+abA (ws.getD i.toNat 0))) (.ret [] (.bm [.s (.int .i64 (i*64+abA (ws.getD i.toNat 0))),.s (.aI true)]))))) (.need (ax (i+1)) (.at (.mk (sl 30 [(17,.ints .u64 16 ws),(18,.s (.int .i64 (i+1)))]) [] (hd Tryd.f95 6) (.mk none false 0 [] 0))))))) (.ret [] (.bm [.s (.bc .i64 0),.s (.aI false)])):=by kernel_rfl
def kz:List Int→Int→Option Int
 |[],_=>none
 |w::ws,i=>if w≠0 then some (i*64+abA w)else kz ws (i+1)
def nn(ws:List Int)(n:Int):Option Int:=if imax n 0≥1024 then none else kz (cV .andNot ws (bY (imax n 0))) 0
def br(ws:List Int)(n:Int):Int:=(nn ws n).getD 0
def ez(ws:List Int)(n:Int):Bool:=(nn ws n).isSome
abbrev s12:=bW [dM,bo] [bo,cf] (fun(ws,_,())=>[okW ws]) (fun(ws,n,())=>(br ws n,ez ws n,()))
def fr(b:Nat→Bool)(m:Nat):List Nat:=(List.range m).filter b
def ajn(ws:List Int):List Nat:=fr (bit ws) 1024
theorem qq(b:Nat→Bool)(m:Nat):fr b (m+1)=fr b m++(if b m=true then [m]else []):=by
 unfold fr
 rw[List.range_succ,List.filter_append]
 cases h:b m<;>simp[h]
theorem agQ(b:Nat→Bool)(m:Nat):(fr b m).length≤m:=by
 have:=List.length_filter_le b (List.range m)
 rwa[List.length_range]at this
theorem abB{x:Nat}(h0:x≠0)(h:x<18446744073709551616):Lib.ctz 64 x<64∧x.testBit (Lib.ctz 64 x)=true∧∀c,c<Lib.ctz 64 x→x.testBit c=false:=by
 unfold Lib.ctz
 rw[if_neg h0]
 obtain⟨m,h1,h2⟩:=Lib.ctzFrom_spec 64 x (by omega) h
 generalize Lib.ctzFrom 64 x=e at *
 refine⟨h2, ?_,fun c hc=> ?_⟩
 ·rw[h1,Nat.testBit_two_pow_mul]
  simp
 ·rw[h1,Nat.testBit_two_pow_mul]
  simp;omega
theorem lZ : ∀ (l : List Int) (i : Int), (∀ w ∈ l, 0 ≤ w ∧ w < 18446744073709551616) →
    match kz l i with
    | some v => ∃ j c : Nat, j < l.length ∧ c < 64 ∧ v = (i + j) * 64 + c ∧ (l.getD j 0).toNat.testBit c = true ∧ (∀ c', c' < c → (l.getD j 0).toNat.testBit c' = false) ∧ ∀ j', j' < j → l.getD j' 0 = 0
    | none => ∀ j, l.getD j 0 = 0
  | [], i, _ => fun j => by simp
  | w :: l, i, h => by
    unfold kz
    have hw := h w (by simp)
    by_cases h0 : w ≠ 0
    · rw [if_pos h0]
      obtain ⟨h1, h2, h3⟩ := abB (x := w.toNat) (by omega) (by omega)
      exact ⟨0, Lib.ctz 64 w.toNat, by simp, h1, by simp [abA], by simpa using h2, by simpa using h3, fun j' hj => by omega⟩
    · rw [if_neg h0]
      have ih := lZ l (i + 1) (fun x hx => h x (by simp [hx]))
      split
      · rename_i v hv
        rw [hv] at ih
        obtain ⟨j, c, h1, h2, h3, h4, h5, h6⟩ := ih
        refine ⟨j + 1, c, by simp; omega, h2, by rw [h3]; simp; omega, by simpa using h4, by simpa using h5, fun j' hj => ?_⟩
        cases j' with
        | zero => simp; omega
        | succ j' => simpa using h6 j' (by omega)
      · rename_i hv
        rw [hv] at ih
        intro j
        cases j with
        | zero => simp; omega
        | succ j => simpa using ih j
theorem adB{ws:List Int}(hw:okW ws){n v:Int}(h:nn ws n=some v):∃p:Nat,v=(p:Int)∧p<1024∧bit ws p=true∧n≤(p:Int)∧∀k:Nat,k<p→n≤(k:Int)→bit ws k=false:=by
 unfold nn at h
 split at h
 ·cases h
 ·rename_i h0
  obtain⟨h1,h2⟩:=nm (.inr (.inr rfl)) hw (cK (imax n 0)).1
  have hs:=lZ _ 0 h1.2
  rw[h]at hs
  obtain⟨j,c,g1,g2,g3,g4,g5,g6⟩:=hs
  rw[h1.1]at g1
  have hm:∀k,k<1024→bit (cV .andNot ws (bY (imax n 0))) k=(bit ws k&& !decide ((k:Int)<imax n 0)):=fun k hk=>by
   rw[h2 k hk,(cK (imax n 0)).2 k hk];rfl
  have hp:bit (cV .andNot ws (bY (imax n 0))) (64*j+c)=true:=by
   unfold bit wd
   rw[show(64*j+c) / 64=j from by omega,show(64*j+c)%64=c from by omega]
   exact g4
  have adA:∀k,k<64*j+c→bit (cV .andNot ws (bY (imax n 0))) k=false:=fun k hk=>by
   unfold bit wd
   by_cases hkj:k / 64=j
   ·rw[hkj];exact g5 _ (by omega)
   ·rw[g6 (k / 64) (by omega)];simp
  have ar4:imax n 0=n∧0≤n∨imax n 0=0∧n<0:=by unfold imax;split<;>omega
  have hp2:=hp
  rw[hm _ (by omega)]at hp2
  simp only[Bool.and_eq_true,Bool.not_eq_true',decide_eq_false_iff_not]at hp2
  refine⟨64*j+c,by rw[g3];simp;omega,by omega,hp2.1,by omega,fun k hk hn=> ?_⟩
  have:=adA k hk
  rw[hm k (by omega)]at this
  simp only[Bool.and_eq_false_iff,Bool.not_eq_false',decide_eq_true_eq]at this
  rcases this with h|h
  ·exact h
  ·omega
theorem adC{ws:List Int}(hw:okW ws){n:Int}(h:nn ws n=none):∀k:Nat,k<1024→n≤(k:Int)→bit ws k=false:=by
 intro k hk hn
 unfold nn at h
 have ar4:imax n 0=n∧0≤n∨imax n 0=0∧n<0:=by unfold imax;split<;>omega
 split at h
 ·omega
 ·rename_i h0
  obtain⟨h1,h2⟩:=nm (.inr (.inr rfl)) hw (cK (imax n 0)).1
  have hs:=lZ _ 0 h1.2
  rw[h]at hs
  have hb:bit (cV .andNot ws (bY (imax n 0))) k=false:=by
   unfold bit wd
   rw[hs];simp
  rw[h2 k hk,(cK (imax n 0)).2 k hk,decide_eq_false (by omega)]at hb
  simpa[opb]using hb
theorem al4{Z:a8}(h34:uE P Z 103 s34):dm P Z 95 [dM,bo] [bo,cf] (fun(ws,_,())=>[okW ws]) (fun(ws,n,())=>(br ws n,ez ws n,())):=by
 refine au Tryd.func95 (by kernel_rfl) (by kernel_rfl) ?_
 rintro⟨(ws:List Int),(n:Int),⟨⟩⟩ _ ⟨(hw:okW ws),_⟩ X hX hz
 have hT:apZ.Ok P Z:=aH.Ok.cons vv.sum (aH.Ok.cons ae7.sum (aH.Ok.cons h34 aH.Ok.nil))
 refine go hz hX hT Tryd.func95 (ap0 ws n) ⟨fun h=> ?_,fun h=> ?_⟩
 ·have h:imax n 0≥1024:=of_decide_eq_true h
  refine aT (0,false,()) ?_ (by kernel_rfl)
  simp only[br,ez,nn,if_pos h]
  rfl
 ·have h:¬imax n 0≥1024:=of_decide_eq_false h
  have e:nn ws n=kz (cV .andNot ws (bY (imax n 0))) 0:=by unfold nn;rw[if_neg h]
  have hr:=(nm (.inr (.inr rfl)) hw (cK (imax n 0)).1).1
  simp only[br,ez,e]
  generalize cV BinOp.andNot ws (bY (imax n 0))=rest at *
  refine rq (fun(i:Int)=>c12 rest i) (fun i=>0≤i∧i≤16∧kz rest 0=kz (rest.drop i.toNat) i) (fun i=>(16 - i).toNat) ?_ 0 ⟨by omega,by omega,rfl⟩
  rintro i ⟨(h0:0≤i),(h1:i≤16),h2⟩ ih
  have hl:=hr.1
  refine go hz hX hT Tryd.func95 (ap1 rest i) ⟨fun h=> ?_,fun h=> ?_⟩
  ·have hi:i<(16:Int):=of_decide_eq_true h
   have hd:rest.drop i.toNat=rest.getD i.toNat 0::rest.drop (i.toNat+1):=by
    rw[List.drop_eq_getElem_cons (by omega),List.getD,List.getElem?_eq_getElem (by omega)];rfl
   have hm:=hr.2 (rest.getD i.toNat 0) (by rw[List.getD,List.getElem?_eq_getElem (by omega)];exact List.getElem_mem (by omega))
   rw[hd,kz]at h2
   refine⟨h0,hi,fun h3=> ?_,fun h3=>⟨⟨by omega,by omega⟩,ih (i+1) ⟨by omega,by omega, ?_⟩ (by omega)⟩⟩
   ·have h3:rest.getD i.toNat 0≠0:=by simpa using h3
    rw[if_pos h3]at h2
    have hc:=(abB (x:=(rest.getD i.toNat 0).toNat) (by omega) (by omega)).1
    refine⟨⟨by omega,by omega⟩,hm,⟨by unfold abA;omega,by unfold abA;omega⟩, ?_⟩
    rw[h2]
    exact aT _ rfl (by kernel_rfl)
   ·have h3:¬rest.getD i.toNat 0≠0:=by simpa using h3
    rw[if_neg h3]at h2
    rw[h2,show(i+1).toNat=i.toNat+1 from by omega]
  ·have hi:¬i<(16:Int):=of_decide_eq_false h
   rw[List.drop_eq_nil_of_le (by omega)]at h2
   rw[h2]
   exact aT (0,false,()) rfl (by kernel_rfl)
end Bx
namespace Ts
open Go Go.Sx Go.Proofs Lf
abbrev Th:=Ds.Th
abbrev As:=Ds.As
abbrev Ws:=List Int
def gU(th:Th)(m:As)(n deep:Int):Int:=if deep>16 then 4 else if Ds.je th m n=0 then rC (Ds.gS th m n)else Ds.je th m n
def rG(th:Th)(m:As)(n deep:Int):Bool:=decide (deep≤16)&&decide (Ds.je th m n=0)
def kJ(th:Th)(m:As)(n deep:Int):Bool:=rG th m n deep&&jg (Ds.gS th m n)
def bP(th:Th)(m:As)(n deep:Int):List En:=if rG th m n deep=true then ng (Ds.gS th m n)else []
def aP(th:Th)(m:As)(n deep:Int):List Br:=if rG th m n deep=true then mi (Ds.gS th m n)else []
def cM(l:Bool)(es:List En)(bs:List Br):ByteArray:=if l=true then(es.getD 0 dE).1 else(bs.getD 0 dB).1
def aa:List Br→List Br
 |[]=>[]
 |b::r=>(ByteArray.empty,b.2.1,())::r
abbrev Wr:Type:=As×Int×Ws×Ws×Br×Int
def bD(th:Th)(m:As)(fu:Int)(fr fs:Ws)(l:Bool)(es:List En)(bs:List Br):Wr:=
 if Bx.ez fr 0=false then(m,fu,fr,fs,dB,41)
 else if gI l es (aa bs)≠0 then(m,fu,fr,fs,dB,gI l es (aa bs))
 else if(Ds.jZ th m fu (Bx.br fr 0) (cU l es (aa bs))).2.2≠0 then
  ((Ds.jZ th m fu (Bx.br fr 0) (cU l es (aa bs))).1,(Ds.jZ th m fu (Bx.br fr 0) (cU l es (aa bs))).2.1,fr,fs,dB,(Ds.jZ th m fu (Bx.br fr 0) (cU l es (aa bs))).2.2)
 else((Ds.jZ th m fu (Bx.br fr 0) (cU l es (aa bs))).1,(Ds.jZ th m fu (Bx.br fr 0) (cU l es (aa bs))).2.1,Bx.cG fr (Bx.br fr 0),Bx.ej fs (Bx.br fr 0),(cM l es bs,Bx.br fr 0,()),0)
abbrev Wrs:Type:=As×Int×Ws×Ws×List Br×Int
def two(a:Wr)(b:Wr):Wrs:=(b.1,b.2.1,b.2.2.1,b.2.2.2.1,[a.2.2.2.2.1,b.2.2.2.2.1],b.2.2.2.2.2)
def bh(th:Th)(m:As)(fu:Int)(fr fs:Ws)(l:Bool)(es:List En)(bs:List Br):Wrs:=
 if es.length+bs.length=0 then(m,fu,fr,fs,[],0)
 else if ba es (aa bs)≤254 then
  let a:=bD th m fu fr fs l es (aa bs)
  (a.1,a.2.1,a.2.2.1,a.2.2.2.1,[a.2.2.2.2.1],a.2.2.2.2.2)
 else if spC l es (aa bs)≠0 then(m,fu,fr,fs,[],spC l es (aa bs))
 else
  let a:=bD th m fu fr fs (bI l es (aa bs)) (aX l es (aa bs)) (a6 l es (aa bs))
  if a.2.2.2.2.2≠0 then(a.1,a.2.1,a.2.2.1,a.2.2.2.1,[],a.2.2.2.2.2)
  else two a (bD th a.1 a.2.1 a.2.2.1 a.2.2.2.1 (bI l es (aa bs)) (cF l es (aa bs)) (cN l es (aa bs)))
def doE(key:ByteArray)(op:Option ByteArray)(l:List En):List En:=match op with
 |some val=>bt l key val
 |none=>if fL l key=true then bS l key else []
def ou(key:ByteArray)(op:Option ByteArray)(l:List En):Int:=match op with
 |some _=>0
 |none=>if fL l key=true then 0 else 5
def iW(fs:Ws)(n:Int):Ws:=if Bx.nk fs n=true then Bx.cG fs n else fs
def o9(fs gn:Ws)(n:Int):Ws:=if Bx.nk fs n=true then Bx.ej gn n else gn
abbrev Chg:Type:=As×Int×Ws×Ws×Ws×List Br×Int
def gK(gn:Ws)(w:Wrs):Chg:=(w.1,w.2.1,w.2.2.1,w.2.2.2.1,gn,w.2.2.2.2.1,w.2.2.2.2.2)
def kK(k:ByteArray):List Br→List Br
 |[]=>[]
 |b::r=>(k,b.2.1,())::r
def vA(th:Th)(key:ByteArray)(op:Option ByteArray):Nat→As→Int→Ws→Ws→Ws→Int→Int→Chg
 |0,m,fu,fr,fs,gn,_,_=>(m,fu,fr,fs,gn,[],4)
 |f+1,m,fu,fr,fs,gn,n,deep=>
  if gU th m n deep≠0 then(m,fu,fr,fs,gn,[],gU th m n deep)
  else if kJ th m n deep=true then
   if ou key op (bP th m n deep)≠0 then(m,fu,fr,fs,gn,[],ou key op (bP th m n deep))
   else gK (o9 fs gn n) (bh th m fu fr (iW fs n) true (doE key op (bP th m n deep)) (aP th m n deep))
  else if aP th m n deep=[]then(m,fu,fr,fs,gn,[],4)
  else
   let k:=(aS (aP th m n deep) key).toNat
   let r:=vA th key op f m fu fr fs gn ((aP th m n deep).getD k dB).2.1 (deep+1)
   if r.2.2.2.2.2.2≠0 then(r.1,r.2.1,r.2.2.1,r.2.2.2.1,r.2.2.2.2.1,[],r.2.2.2.2.2.2)
   else gK (o9 r.2.2.2.1 r.2.2.2.2.1 n) (bh th r.1 r.2.1 r.2.2.1 (iW r.2.2.2.1 n) false (bP th m n deep)
    ((aP th m n deep).take k++kK ((aP th m n deep).getD k dB).1 r.2.2.2.2.2.1++(aP th m n deep).drop (k+1)))
end Ts
namespace Bx
open Go Go.Sx Go.Proofs Go.RowKit
set_option maxHeartbeats 1000000 in
theorem al5(x k idx:Nat)(w:World)(hx0:((x:Int)==0)=false)
 (key:IntKind.u64.wrap (bits BinOp.and IntKind.u64 (x:Int) (IntKind.u64.wrap (-(x:Int)))*285870213051353865) / 288230376151711744=(idx:Int))
 (hi:idx<64) (hk:k<64) (pN:w.cell? ⟨1,idx,none⟩=some (.int .u8 k)):
 Calls Tryd.prog 103 #[.int .u64 x] w fun e w'=>e=.returned (.int .i64 k)∧w'=w:=by
 go_enter Tryd.func103,Tryd.ntmps103
 go_wp2_with (simp only[key])
 go_ret
 exact⟨rfl,rfl⟩
set_option maxHeartbeats 1000000 in
theorem al6(w:World):
 Calls Tryd.prog 103 #[.int .u64 0] w fun e w'=>e=.returned (.int .i64 64)∧w'=w:=by
 go_enter Tryd.func103,Tryd.ntmps103
 go_wp2
 go_ret
 exact⟨rfl,rfl⟩
theorem ap2(w:World)(h:TabAt 1 Lib.deBruijn64tab w):1<w.heap.size:=by
 have h0:=h 0 (by decide)
 rcases Nat.lt_or_ge 1 w.heap.size with h1|h1
 ·exact h1
 ·simp[World.cell?,Array.getElem?_eq_none h1]at h0
def cn:a8:=⟨[1],TabAt 1 Lib.deBruijn64tab,fun w h b hb=>by rw[List.mem_singleton.1 hb];exact ap2 w h,fun w w' h k j hj=>by rw[lL (k 1 (by simp))];exact h j hj⟩
theorem ap3(x:Nat)(hx:x<18446744073709551616)(w:World)(hT:TabAt 1 Lib.deBruijn64tab w):
 Calls Tryd.prog 103 #[.int .u64 x] w fun e w'=>e=.returned (.int .i64 (Lib.ctz 64 x))∧w'=w:=by
 by_cases hx0:x=0
 ·subst hx0
  exact al6 w
 ·obtain⟨adA,hk⟩:=Lib.lowest_bit 64 x hx0 hx
  obtain⟨hi,aua⟩:=Lib.deBruijn64_at _ hk
  have pN:=hT _ hi
  rw[aua]at pN
  exact al5 x _ _ w (by simp;omega) (tz64_key x _ hx hx0 adA) hi hk pN
theorem ar5:dm P cn 103 [tU] [bo] (fun(x,())=>[(0:Int)≤x∧x<(18446744073709551616:Int)]) (fun(x,())=>(abA x,())):=by
 rintro⟨(x:Int),⟨⟩⟩ _ ⟨(hx:0≤x∧x<18446744073709551616),_⟩ G w vs hG hz hd
 obtain⟨n,rfl⟩:=Int.eq_ofNat_of_zero_le hx.1
 obtain⟨v,rest,rfl,h1,h2⟩:=aw.1 hd
 obtain rfl:=aU.1 h2
 have h3:v=.int .u64 n:=by
  have:=ah (x:=.int .u64 n) (by simp) h1
  cases this;rfl
 subst h3
 refine(ap3 n (by omega) w hz).mono ?_
 rintro e w' ⟨rfl,rfl⟩
 refine⟨_,rfl,Good.val ⟨fun id o ho=>by simp at ho,fun i j oi oj b hi=>by simp at hi,fun b hb=> ?_,hG⟩ ?_⟩
 ·obtain⟨id,o,ho,_⟩:=hb;cases ho
 ·exact aq (.int .i64 _)
end Bx
namespace Lf
open Go Go.Sx Go.Proofs
abbrev gL:Ty:=.st [.bool,.lq (.ad cE) eE,.lq (.ad cB) eB]
abbrev anX(l:Bool)(r:Int×List En×List Br):AL [gL,bo]:=((decide (r.1=0)&&l,r.2.1,r.2.2,()),r.1,())
abbrev sr(s:ByteArray):AL [gL,bo]:=((jg s,ng s,mi s,()),rC s,())
theorem al7{Z:a8}:dm P Z 57 [dD] [gL,bo] (fun _=>[]) (fun(s,())=>((jg s,ng s,mi s,()),rC s,())):=by
 refine au Tryd.func57 (by kernel_rfl) (by kernel_rfl) ?_
 rintro⟨(s0:ByteArray),⟨⟩⟩ _ _ X hX hz
 show Safe P 57 X (Ends [gL,bo] (sr s0)) _
 have loop:∀(l:Bool) (n:Nat) (s:ByteArray) (es:List En) (bs:List Br),s.size≤n→es.length+bs.length+s.size≤254→anX l (ic l n s es bs)=sr s0→
  Safe P 57 X (Ends [gL,bo] (sr s0)) (arJ s l es bs):=by
  intro l n
  induction n with
  |zero=>
   intro s es bs hn hb hy
   obtain rfl:=lr (Nat.le_zero.1 hn)
   refine go hz hX jz Tryd.func57 (aeV ByteArray.empty l es bs) ⟨fun h=>absurd h (by simp),fun _=>⟨fun h=> ?_,fun h=> ?_⟩⟩
   ·refine aT ((false,[],[],()),4,()) ?_ (by kernel_rfl)
    rw[←hy,ic,if_neg (by simpa using h)];rfl
   ·refine aT ((l,es,bs,()),0,()) ?_ (by kernel_rfl)
    rw[←hy,ic,if_pos (by simpa using h)];rfl
  |succ n ih=>
   intro s es bs hn hb hy
   refine go hz hX jz Tryd.func57 (aeV s l es bs) ⟨fun h=> ?_,fun h=> ?_⟩
   ·have h:s≠ByteArray.empty:=by simpa using h
    have bad:ic l (n+1) s es bs=(8,[],[])→∀(s':ByteArray) (kY:List En) (oq:List Br),Safe P 57 X (Ends [gL,bo] (sr s0)) (aiU s' l kY oq false):=fun e s' kY oq=>by
     refine go hz hX jz Tryd.func57 (abj s' l kY oq false) ⟨fun _=> ?_,fun h=>by cases h⟩
     refine aT ((false,[],[],()),8,()) ?_ (by kernel_rfl)
     rw[←hy,e];rfl
    have cont:∀(s':ByteArray) (kY:List En) (oq:List Br),s'.size≤n→kY.length+oq.length+s'.size≤254→anX l (ic l n s' kY oq)=sr s0→Safe P 57 X (Ends [gL,bo] (sr s0)) (aiU s' l kY oq true):=fun s' kY oq h1 h2 h3=>by
     refine go hz hX jz Tryd.func57 (abj s' l kY oq true) ⟨fun h=>(by cases h),fun _=>ih s' kY oq h1 h2 h3⟩
    have hr:=fun hB=>jT (s:=s) hB
    refine⟨rfl,rfl,fun hl=>⟨fun hB=>⟨rfl,rfl,by omega, ?_⟩,fun hB=> ?_⟩,fun hl=>⟨fun hB=>⟨rfl,rfl,by decide,fun h2=> ?_,fun h2=> ?_⟩,fun hB=> ?_⟩⟩
    ·subst hl
     have hr:=hr hB
     cases h2:wJ (gT s)
     ·exact bad (by rw[ic,if_neg h,if_neg (by simp[hB]),if_pos rfl,if_neg (by simp[h2])]) _ _ _
     ·have:=jT h2
      exact cont _ _ _ (by omega) (by simp only[List.length_append,List.length_cons,List.length_nil];omega) (by rw[←hy,ic,if_neg h,if_neg (by simp[hB]),if_pos rfl,if_pos h2])
    ·exact⟨fun h=>(by rw[hB]at h;cases h),fun _=>by rw[hB];exact bad (by rw[ic,if_neg h,if_pos hB]) _ _ _⟩
    ·subst hl
     have hr:=hr hB
     have e1:=vg (by decide) h2
     have e2:=abk (by decide) h2
     have b0:=gH (j7 2 (gT s)) 0
     have b1:=gH (j7 2 (gT s)) 1
     refine⟨by decide,by omega,⟨by show _≤aV _ 0;omega,by show aV _ 0≤_;omega⟩,by decide,by decide,by omega,⟨by show _≤aV _ 1;omega,by show aV _ 1≤_;omega⟩,by omega, ?_⟩
     rw[h2]
     exact cont _ _ _ (by omega) (by simp only[List.length_append,List.length_cons,List.length_nil];omega) (by rw[←hy,ic,if_neg h,if_neg (by simp[hB]),if_neg (by simp),if_pos h2];rfl)
    ·subst hl
     rw[h2]
     exact bad (by rw[ic,if_neg h,if_neg (by simp[hB]),if_neg (by simp),if_neg (by simp[h2])]) _ _ _
    ·rw[hB]
     exact bad (by rw[ic,if_neg h,if_pos hB]) _ _ _
   ·have h:s=ByteArray.empty:=by simpa using h
    refine⟨fun h2=> ?_,fun h2=> ?_⟩
    ·refine aT ((false,[],[],()),4,()) ?_ (by kernel_rfl)
     rw[←hy,ic,if_pos h,if_neg (by simpa using h2)];rfl
    ·refine aT ((l,es,bs,()),0,()) ?_ (by kernel_rfl)
     rw[←hy,ic,if_pos h,if_pos (by simpa using h2)];rfl
 have first:(s0.size:Int)≤254→s0≠ByteArray.empty→¬(aV s0 0≠1∧aV s0 0≠2)→Safe P 57 X (Ends [gL,bo] (sr s0)) (anR s0):=fun h1 h2 h3=>by
  have hp:0<s0.size:=Nat.pos_of_ne_zero fun e=>h2 (lr e)
  refine go hz hX jz Tryd.func57 (aiV s0) ⟨by omega,by omega,by omega,by omega,by omega, ?_⟩
  have e:nY s0=ic (aV s0 0==1) s0.size (s0.extract 1 s0.size) [] []:=by rw[nY,if_neg (by omega),if_neg h2,if_neg h3]
  refine loop (aV s0 0==1) s0.size (s0.extract 1 s0.size) [] [] (by rw[dh];omega) (by rw[dh];simp only[List.length_nil];omega) ?_
  rw[←e];rfl
 have err:∀(c:Int) (hc:decide (c=0)=false),nY s0=(c,[],[])→sr s0=((false,[],[],()),c,()):=fun c hc e=>by
  show((decide ((nY s0).1=0)&&(aV s0 0==1),(nY s0).2.1,(nY s0).2.2,()),(nY s0).1,())=_
  rw[e,hc];rfl
 refine go hz hX jz Tryd.func57 (alv s0) ⟨fun h=>aT ((false,[],[],()),40,()) (err 40 rfl ?_) (by kernel_rfl),fun h=>⟨fun h2=>aT ((false,[],[],()),8,()) (err 8 rfl ?_) (by kernel_rfl),fun h2=> ?_⟩⟩
 ·rw[nY,if_pos (of_decide_eq_true h)]
 ·rw[nY,if_neg (of_decide_eq_false h),if_pos (of_decide_eq_true h2)]
 ·have h:=of_decide_eq_false h
  have h2:=of_decide_eq_false h2
  have hp:0<s0.size:=Nat.pos_of_ne_zero fun e=>h2 (lr e)
  refine⟨by omega,by omega,fun h3=>⟨by omega,by omega,fun h4=>aT ((false,[],[],()),4,()) (err 4 rfl ?_) (by kernel_rfl),fun h4=>first (by omega) h2 ?_⟩,fun h3=>first (by omega) h2 ?_⟩
  ·have h3:aV s0 0≠1:=by simpa using h3
   have h4:aV s0 0≠2:=by simpa using h4
   rw[nY,if_neg h,if_neg h2,if_pos ⟨h3,h4⟩]
  ·have h4:aV s0 0=2:=by simpa using h4
   exact fun e=>e.2 h4
  ·have h3:aV s0 0=1:=by simpa using h3
   exact fun e=>e.1 h3
end Lf
namespace Go.Sx
open Go
inductive Wk1:AV→AV→Prop
 |refl (a:AV):Wk1 a a
 |bl (b:Bool):Wk1 (.s (.aI b)) (.s (.bool b))
 |il (k:IntKind) (n:Int):Wk1 (.s (.bc k n)) (.s (.int k n))
 |em (c:aF):c.n=0→Wk1 .emp (.s (.ro c))
inductive WkL:List AV→List AV→Prop
 |nil:WkL [] []
 |cons {a b:AV} {l m:List AV}:Wk1 a b→WkL l m→WkL (a::l) (b::m)
inductive Wk2:AV→AV→Prop
 |one {a b:AV}:Wk1 a b→Wk2 a b
 |agg {l m:List AV}:WkL l m→Wk2 (.agg l) (.agg m)
inductive ov:List AV→List AV→Prop
 |nil:ov [] []
 |cons {a b:AV} {l m:List AV}:Wk2 a b→ov l m→ov (a::l) (b::m)
inductive Wk:AV→AV→Prop
 |two {a b:AV}:Wk2 a b→Wk a b
 |bm {l m:List AV}:ov l m→Wk (.bm l) (.bm m)
section
variable{ρ:Nat→Value}{H:aG}{O:Nat→Prop}{w:World}
theorem Wk1.den{a b:AV}(h:Wk1 a b){v:Value}(hd:ab ρ H O w a v):ab ρ H O w b v:=by
 cases h with
 |refl=>exact hd
 |bl b=>
  have:=ah (by simp) hd
  cases this
  exact aq (.bool _)
 |il k n=>
  have:=ah (by simp) hd
  cases this
  exact aq (.int _ _)
 |em c hc=>
  unfold ab at hd
  obtain⟨a,rfl⟩:=hd
  exact aq (s5 hc a)
theorem Wk1.ac5{a b:AV}(h:Wk1 a b){cs:List Value}(hd:aD ρ H O w a cs):aD ρ H O w b cs:=by
 cases h with
 |refl=>exact hd
 |bl b=>
  unfold aD at hd ⊢
  obtain⟨u,rfl,h⟩:=hd
  cases h
  exact⟨_,rfl,.bool _⟩
 |il k n=>
  unfold aD at hd ⊢
  obtain⟨u,rfl,h⟩:=hd
  cases h
  exact⟨_,rfl,.int _ _⟩
 |em c hc=>
  unfold aD at hd ⊢
  obtain⟨u,rfl,a,rfl⟩:=hd
  exact⟨_,rfl,s5 hc a⟩
theorem WkL.den{l m:List AV}(h:WkL l m):∀{cs:List Value},an ρ H O w l cs→an ρ H O w m cs:=by
 induction h with
 |nil=>exact fun hd=>hd
 |cons h1 _ ih=>
  intro cs hd
  unfold an at hd ⊢
  obtain⟨c1,c2,e,g1,g2⟩:=hd
  exact⟨c1,c2,e,h1.ac5 g1,ih g2⟩
theorem Wk2.den{a b:AV}(h:Wk2 a b){v:Value}(hd:ab ρ H O w a v):ab ρ H O w b v:=by
 cases h with
 |one h=>exact h.den hd
 |agg h=>
  unfold ab at hd ⊢
  obtain⟨cs,e,g⟩:=hd
  exact⟨cs,e,h.den g⟩
theorem ov.den{l m:List AV}(h:ov l m):∀{vs:List Value},bz ρ H O w l vs→bz ρ H O w m vs:=by
 induction h with
 |nil=>exact fun hd=>hd
 |cons h1 _ ih=>
  intro vs hd
  obtain⟨v,rest,e,g1,g2⟩:=aw.1 hd
  exact aw.2 ⟨v,rest,e,h1.den g1,ih g2⟩
theorem Wk.den{a b:AV}(h:Wk a b){v:Value}(hd:ab ρ H O w a v):ab ρ H O w b v:=by
 cases h with
 |two h=>exact h.den hd
 |bm h=>
  unfold ab at hd ⊢
  obtain⟨us,e,g⟩:=hd
  exact⟨us,e,h.den g⟩
end
theorem ap4{X:Type}{S:Spec X}{x:X}{L:List ae}{r:AV}{o o':AV}{h:List ae}(m:Nat)(e:Norm.run ⟨[],[0],m,[]⟩ ⟨[r],L,[],{}⟩=some ⟨[o],h,[],{}⟩)(hm:(S.heap x).length≤m)(hw:Wk o o')(ho:S.out x=o')(hh:S.fi x=h):ais S x L r:=
 ⟨⟨[],[0],m,[]⟩,o,hm,by rw[hh];exact e,fun ρ H O w v hd=>by rw[ho];exact hw.den hd⟩
end Go.Sx
namespace Ts
open Go Go.Sx Go.Proofs Lf
noncomputable abbrev P:Program:=Tryd.prog
abbrev eT:TypeId:=70
abbrev obT(i:Nat)(root:Int)(fr fs gn:Ws):ae:=.own [.ptr i 0,.s (.int .i64 root),.ints .u64 16 fr,.ints .u64 16 fs,.ints .u64 16 gn] eT
abbrev hT(th:Th)(m:As)(fu root:Int)(fr fs gn:Ws):List ae:=[obT 1 root fr fs gn,Ds.obD 2 3 fu,.vec (.ad Ds.cS th) Ds.eS,.map Ds.kS m]
abbrev bQ(n:Int):AV:=.s (.int .i64 n)
abbrev ar6:=dJ Ds.sGR Ds.mRd
abbrev ar7:=dJ Ds.sGW Ds.mWr
abbrev ap5:=uF [dD] [gL,bo] (fun _=>[]) (fun(s,())=>((jg s,ng s,mi s,()),rC s,()))
def anY:aH:=[(56,ar6),(57,ap5)]
theorem aub(th:Th)(m:As)(fu root:Int)(fr fs gn:Ws)(n deep:Int):run P anY.sum Tryd.f37 [] (start Tryd.f37 [.ptr 0 0,bQ n,bQ deep] (hT th m fu root fr fs gn))=
 Tree.ite (decide (deep>16)) (.ret [.own [.ptr 1 0,.s (.int .i64 root),.ints .u64 16 fr,.ints .u64 16 fs,.ints .u64 16 gn] 70,.own [.vec 2,.ag 3,.s (.int .i64 fu)] 96,.vec (.ad [.arr .u8 64] th) 138,.map (.arr .u8 64) m,.own [.s (.aI false),.emp,.emp] 73] (.bm [.agg [.s (.aI false),.emp,.emp],.s (.bc .i64 4)])) (.need (bK (some [AV.ptr 0 0,.s (.int .i64 n)])) (.need (bK (some [ae.own [.vec 1,.ag 2,.s (.int .i64 fu)] 96,.vec (.ad [.arr .u8 64] th) 138,.map (.arr .u8 64) m])) (.need (Ds.bR th m fu) (.need (ax n) (.ite (Ds.je th m n !=0) (.ret [.own [.ptr 1 0,.s (.int .i64 root),.ints .u64 16 fr,.ints .u64 16 fs,.ints .u64 16 gn] 70,.own [.vec 2,.ag 3,.s (.int .i64 fu)] 96,.vec (.ad [.arr .u8 64] th) 138,.map (.arr .u8 64) m,.own [.s (.aI false),.emp,.emp] 73] (.bm [.agg [.s (.aI false),.emp,.emp],.s (.int .i64 (Ds.je th m n))])) (.ret [.own [.ptr 1 0,.s (.int .i64 root),.ints .u64 16 fr,.ints .u64 16 fs,.ints .u64 16 gn] 70,.own [.vec 2,.ag 3,.s (.int .i64 fu)] 96,.vec (.ad [.arr .u8 64] th) 138,.map (.arr .u8 64) m,.own [.s (.bool (jg (Ds.gS th m n))),.s (.ro (.ad [.str,.str] (ng (Ds.gS th m n)))),.s (.ro (.ad [.str,.int .i64] (mi (Ds.gS th m n))))] 73] (.bm [.agg [.s (.bool (jg (Ds.gS th m n))),.s (.ro (.ad [.str,.str] (ng (Ds.gS th m n)))),.s (.ro (.ad [.str,.int .i64] (mi (Ds.gS th m n))))],.s (.int .i64 (rC (Ds.gS th m n)))]))))))):=by kernel_rfl
abbrev XT:Type:=Th×As×Int×Int×Ws×Ws×Ws
abbrev sNo:Spec (XT×Int×Int):=⟨fun(_,n,deep)=>[.ptr 0 0,bQ n,bQ deep],fun((th,m,fu,root,fr,fs,gn),_,_)=>hT th m fu root fr fs gn,fun((th,m,fu,_),n,_)=>[Ds.bR th m fu,ax n],fun((th,m,fu,root,fr,fs,gn),_,_)=>hT th m fu root fr fs gn,
 fun((th,m,_),n,deep)=>.bm [.agg [.s (.bool (kJ th m n deep)),.s (.ro (.ad cE (bP th m n deep))),.s (.ro (.ad cB (aP th m n deep)))],bQ (gU th m n deep)]⟩
theorem ajo{Z:a8}:anY.Ok P Z:=aH.Ok.cons (Ds.arA.sum Ds.mRd) (aH.Ok.cons al7.uF aH.Ok.nil)
theorem adD{l l':AV}{es bs kY oq:AV}{e e':AV}(h1:Wk1 l l')(h2:Wk1 es kY)(h3:Wk1 bs oq)(h4:Wk1 e e'):Wk (.bm [.agg [l,es,bs],e]) (.bm [.agg [l',kY,oq],e']):=
 .bm (.cons (.agg (.cons h1 (.cons h2 (.cons h3 .nil)))) (.cons (.one h4) .nil))
theorem qs{Z:a8}:ke P Z 37 sNo:=by
 refine qi Tryd.func37 (by kernel_rfl) (fun x=>Nat.le_of_ble_eq_true (by kernel_rfl)) ?_
 rintro⟨⟨(th:Th),(m:As),(fu:Int),(root:Int),(fr:Ws),(fs:Ws),(gn:Ws)⟩,(n:Int),(deep:Int)⟩ ⟨(hd:Ds.bR th m fu),(hn:ax n),_⟩ X hX hz
 refine Ds.eH hz hX (by intro y hy;cases hy) ajo Tryd.func37 (aub th m fu root fr fs gn n deep) ⟨fun h=> ?_,fun h=>⟨rfl,rfl,hd,hn,fun h2=> ?_,fun h2=> ?_⟩⟩
 ·have h:=of_decide_eq_true h
  have e0:rG th m n deep=false:=by unfold rG;rw[decide_eq_false (by omega),Bool.false_and]
  refine ap4 4 (by kernel_rfl) (Nat.le_refl _) (adD (.refl (.s (.bool false))) (.em (.ad cE []) rfl) (.em (.ad cB []) rfl) (.refl (.s (.int .i64 4)))) ?_ rfl
  show AV.bm [.agg [.s (.bool (kJ th m n deep)),.s (.ro (.ad cE (bP th m n deep))),.s (.ro (.ad cB (aP th m n deep)))],bQ (gU th m n deep)]=_
  unfold kJ bP aP gU
  rw[e0,if_pos h];rfl
 ·have h:=of_decide_eq_false h
  have h2:Ds.je th m n≠0:=by simpa using h2
  have e0:rG th m n deep=false:=by unfold rG;rw[decide_eq_false h2,Bool.and_false]
  refine ap4 4 (by kernel_rfl) (Nat.le_refl _) (adD (.refl (.s (.bool false))) (.em (.ad cE []) rfl) (.em (.ad cB []) rfl) (.refl (bQ (Ds.je th m n)))) ?_ rfl
  show AV.bm [.agg [.s (.bool (kJ th m n deep)),.s (.ro (.ad cE (bP th m n deep))),.s (.ro (.ad cB (aP th m n deep)))],bQ (gU th m n deep)]=_
  unfold kJ bP aP gU
  rw[e0,if_neg h,if_neg h2];rfl
 ·have h:=of_decide_eq_false h
  have h2:Ds.je th m n=0:=by simpa using h2
  have e0:rG th m n deep=true:=by unfold rG;rw[decide_eq_true h2,decide_eq_true (by omega)];rfl
  refine ap4 4 (by kernel_rfl) (Nat.le_refl _) (adD (.refl (.s (.bool (jg (Ds.gS th m n))))) (.refl (.s (.ro (.ad cE (ng (Ds.gS th m n)))))) (.refl (.s (.ro (.ad cB (mi (Ds.gS th m n)))))) (.refl (bQ (rC (Ds.gS th m n))))) ?_ rfl
  show AV.bm [.agg [.s (.bool (kJ th m n deep)),.s (.ro (.ad cE (bP th m n deep))),.s (.ro (.ad cB (aP th m n deep)))],bQ (gU th m n deep)]=_
  unfold kJ bP aP gU
  rw[e0,if_neg h,if_pos h2];rfl
end Ts
namespace Ts
open Go Go.Sx Go.Proofs Lf
abbrev ap6:=bW [Bx.dM,Bx.bo] [Bx.cf] (fun _=>[]) (fun(ws,n,())=>(Bx.nk ws n,()))
abbrev ajp:=bW [Bx.dM,Bx.bo] [Bx.dM] (fun _=>[]) (fun(ws,n,())=>(Bx.ej ws n,()))
abbrev anZ:=bW [Bx.dM,Bx.bo] [Bx.dM] (fun _=>[]) (fun(ws,n,())=>(Bx.cG ws n,()))
def an0:aH:=[(35,ap6),(43,ajp),(98,anZ)]
theorem auc(th:Th)(m:As)(fu root:Int)(fr fs gn:Ws)(n:Int):run P an0.sum Tryd.f85 [] (start Tryd.f85 [.ptr 0 0,bQ n] (hT th m fu root fr fs gn))=
 Tree.ite (Bx.nk fs n) (.ret [.own [.ptr 1 0,.s (.int .i64 root),.ints .u64 16 fr,.ints .u64 16 (Bx.cG fs n),.ints .u64 16 (Bx.ej gn n)] 70,.own [.vec 2,.ag 3,.s (.int .i64 fu)] 96,.vec (.ad [.arr .u8 64] th) 138,.map (.arr .u8 64) m] (.bm [])) (.ret [.own [.ptr 1 0,.s (.int .i64 root),.ints .u64 16 fr,.ints .u64 16 fs,.ints .u64 16 gn] 70,.own [.vec 2,.ag 3,.s (.int .i64 fu)] 96,.vec (.ad [.arr .u8 64] th) 138,.map (.arr .u8 64) m] (.bm [])):=by kernel_rfl
abbrev sLv:Spec (XT×Int):=⟨fun(_,n)=>[.ptr 0 0,bQ n],fun((th,m,fu,root,fr,fs,gn),_)=>hT th m fu root fr fs gn,fun _=>[],fun((th,m,fu,root,fr,fs,gn),n)=>hT th m fu root fr (iW fs n) (o9 fs gn n),fun _=>.bm []⟩
theorem ajq{Z:a8}:an0.Ok P Z:=aH.Ok.cons Bx.adz.sum (aH.Ok.cons Bx.zF.sum (aH.Ok.cons Bx.vr.sum aH.Ok.nil))
theorem vB{Z:a8}:ke P Z 85 sLv:=by
 refine aR Tryd.func85 (by kernel_rfl) (fun x=>Nat.le_of_ble_eq_true (by kernel_rfl)) ?_
 rintro⟨⟨(th:Th),(m:As),(fu:Int),(root:Int),(fr:Ws),(fs:Ws),(gn:Ws)⟩,(n:Int)⟩ _ X hX hz
 refine Ds.eH hz hX (by intro y hy;cases hy) ajq Tryd.func85 (auc th m fu root fr fs gn n) ⟨fun h=> ?_,fun h=> ?_⟩
 ·have e1:iW fs n=Bx.cG fs n:=if_pos h
  have e2:o9 fs gn n=Bx.ej gn n:=if_pos h
  exact ch (h:=hT th m fu root fr (Bx.cG fs n) (Bx.ej gn n)) 4 rfl (Nat.le_refl _) rfl (by show hT th m fu root fr (iW fs n) (o9 fs gn n)=_;rw[e1,e2])
 ·have e1:iW fs n=fs:=if_neg (by rw[h];simp)
  have e2:o9 fs gn n=gn:=if_neg (by rw[h];simp)
  exact ch (h:=hT th m fu root fr fs gn) 4 rfl (Nat.le_refl _) rfl (by show hT th m fu root fr (iW fs n) (o9 fs gn n)=_;rw[e1,e2])
end Ts
namespace Ts
open Go Go.Sx Go.Proofs Lf
theorem aud(l:Bool)(es:List En)(bs:List Br):run P (aH.sum []) Tryd.f94 [] (start Tryd.f94 [avN l es bs] [])=
 Tree.ite l (.need ((0:Int)≤0) (.need ((0:Int)<(↑es.length:Int)) (.ret [.own [.s (.bool l),.s (.ro (.ad [.str,.str] es)),.s (.ro (.ad [.str,.int .i64] bs))] 73] (.s (.str (es.getD 0 (CL.d [.str,.str])).fst))))) (.need ((0:Int)≤0) (.need ((0:Int)<(↑bs.length:Int)) (.ret [.own [.s (.bool l),.s (.ro (.ad [.str,.str] es)),.s (.ro (.ad [.str,.int .i64] bs))] 73] (.s (.str (bs.getD 0 (CL.d [.str,.int .i64])).fst))))):=by kernel_rfl
abbrev au8:=bW [ei] [dD] (fun((l,es,bs,()),())=>[((l:Bool)=true→0<(es:List En).length)∧(l=false→0<(bs:List Br).length)]) (fun((l,es,bs,()),())=>(cM l es bs,()))
theorem ajr{Z:a8}:dm P Z 94 [ei] [dD] (fun((l,es,bs,()),())=>[((l:Bool)=true→0<(es:List En).length)∧(l=false→0<(bs:List Br).length)]) (fun((l,es,bs,()),())=>(cM l es bs,())):=by
 refine au Tryd.func94 (by kernel_rfl) (by kernel_rfl) ?_
 rintro⟨⟨(l:Bool),(es:List En),(bs:List Br),⟨⟩⟩,⟨⟩⟩ _ ⟨⟨h1,h2⟩,_⟩ X hX hz
 refine Lf.go hz hX aH.Ok.nil Tryd.func94 (aud l es bs) ⟨fun h=>⟨by omega,Int.ofNat_lt.2 (h1 h), ?_⟩,fun h=>⟨by omega,Int.ofNat_lt.2 (h2 h), ?_⟩⟩
 ·show Ends [dD] (cM l es bs,()) _ _
  unfold cM
  rw[if_pos h];exact aio
 ·show Ends [dD] (cM l es bs,()) _ _
  unfold cM
  rw[if_neg (by rw[h];simp)];exact aio
end Ts
namespace Ts
open Go Go.Sx Go.Proofs Lf
abbrev wL:List CK:=[.rows cB]
abbrev eBs:TypeId:=71
abbrev Rows:Type:=List (List Br×Unit)
abbrev ar8:Ty:=.b (.row (.ad wL) eBs)
abbrev rwB(x:CL wL):List Br:=x.1
def nsJ:List (Nat×Norm):=[(3,⟨[(3,.ad cB [],eB)],[3,6,7,8],0,[]⟩)]
noncomputable def cJ(ls:List (CL wL))(acc:List Br)(i:Int):bx:=⟨sl 17 [(3,.vec 0),(6,.s (.ro (.ad wL ls))),(7,bQ (ls.length:Int)),(8,bQ i)],[.vec (.ad cB acc) eB],hd Tryd.f92 3,{}⟩
theorem trJ(ls:List (CL wL)):run P (aH.sum []) Tryd.f92 nsJ (start Tryd.f92 [.s (.ro (.ad wL ls))] [])=
 Tree.at (.mk (sl 17 [(3,.vec 0),(6,.s (.ro (.ad wL ls))),(7,.s (.int .i64 (↑ls.length:Int))),(8,.s (.int .i64 0))]) [.vec (.ad [.str,.int .i64] []) 79] (hd Tryd.f92 3) (.mk none false 0 [] 0)):=by kernel_rfl
theorem an1(ls:List (CL wL))(acc:List Br)(i:Int):run P (aH.sum []) Tryd.f92 nsJ (cJ ls acc i)=
 Tree.ite (decide (i<(↑ls.length:Int))) (.need ((0:Int)≤i) (.need (i<(↑ls.length:Int)) (.need ((acc.length+(rwB (el ls i)).length)*(24:Nat)≤140737488355328) (.need (ax (i+1)) (.at (.mk (sl 17 [(3,.vec 0),(6,.s (.ro (.ad wL ls))),(7,.s (.int .i64 (↑ls.length:Int))),(8,.s (.int .i64 (i+1)))]) [.vec (.ad [.str,.int .i64] (acc++rwB (el ls i))) 79] (hd Tryd.f92 3) (.mk none false 0 [] 0))))))) (.ret [.vec (.ad [.str,.int .i64] acc) 79] (.vec 0)):=by kernel_rfl
def bU(ls:List (CL wL)):List Br:=ls.flatMap fun x=>rwB x
abbrev sJ:=bW [ar8] [wH] (fun(ls,())=>[(ls:List (CL wL)).length≤100,(bU ls).length≤100000]) (fun(ls,())=>(bU ls,()))
def an2:aH:=[(92,sJ)]
theorem aue(l:Bool)(es:List En)(bs:List Br):run P an2.sum Tryd.f81 [] (start Tryd.f81 [avN l es bs] [])=
 Tree.ite (decide ((↑bs.length:Int)>0)) (.need ((0:Int)≤0) (.need ((0:Int)<(↑bs.length:Int)) (.need ((0:Int)≤1) (.need ((1:Int)≤(↑bs.length:Int)) (.need ((↑bs.length:Int)≤(↑bs.length:Int)) (.need ([([(ByteArray.empty,(bs.getD 0 (CL.d [.str,.int .i64])).snd.fst,())],()),(List.drop (Int.toNat 1) (List.take (↑bs.length:Int).toNat bs),())].length≤100) (.need ((bU [([(ByteArray.empty,(bs.getD 0 (CL.d [.str,.int .i64])).snd.fst,())],()),(List.drop (Int.toNat 1) (List.take (↑bs.length:Int).toNat bs),())]).length≤100000) (.ret [.own [.s (.bool l),.s (.ro (.ad [.str,.str] es)),.vec 4] 73,.own [.s (.bool l),.s (.ro (.ad [.str,.str] es)),.vec 4] 73,.dead,.vec (.ad wL [([(ByteArray.empty,(bs.getD 0 (CL.d [.str,.int .i64])).snd.fst,())],()),(List.drop (Int.toNat 1) (List.take (↑bs.length:Int).toNat bs),())]) 71,.vec (.ad [.str,.int .i64] (bU [([(ByteArray.empty,(bs.getD 0 (CL.d [.str,.int .i64])).snd.fst,())],()),(List.drop (Int.toNat 1) (List.take (↑bs.length:Int).toNat bs),())])) 79] (.agg [.s (.bool l),.s (.ro (.ad [.str,.str] es)),.vec 4]))))))))) (.ret [.own [.s (.bool l),.s (.ro (.ad [.str,.str] es)),.s (.ro (.ad [.str,.int .i64] bs))] 73,.own [.s (.bool l),.s (.ro (.ad [.str,.str] es)),.s (.ro (.ad [.str,.int .i64] bs))] 73] (.agg [.s (.bool l),.s (.ro (.ad [.str,.str] es)),.s (.ro (.ad [.str,.int .i64] bs))])):=by kernel_rfl
theorem adE{ls:List (CL wL)}(k:Nat)(h:k<ls.length):bU (ls.take (k+1))=bU (ls.take k)++rwB (ls.getD k (CL.d wL)):=by
 rw[←jx (d:=CL.d wL) h]
 simp[bU]
theorem ajs{ls:List (CL wL)}(k:Nat):(bU (ls.take k)).length≤(bU ls).length:=by
 have e:bU ls=bU (ls.take k)++bU (ls.drop k):=by
  unfold bU
  exact(congrArg (List.flatMap fun x=>rwB x) (List.take_append_drop k ls).symm).trans List.flatMap_append
 rw[e,List.length_append];omega
theorem rH{Z:a8}:dm P Z 92 [ar8] [wH] (fun(ls,())=>[(ls:List (CL wL)).length≤100,(bU ls).length≤100000]) (fun(ls,())=>(bU ls,())):=by
 refine au Tryd.func92 (by kernel_rfl) (by kernel_rfl) ?_
 rintro⟨(ls:List (CL wL)),⟨⟩⟩ _ ⟨(hl:ls.length≤100),(hj:(bU ls).length≤100000),_⟩ X hX hz
 have first:∀(n k:Nat),k+n=ls.length→Safe P 92 X (Ends [wH] (bU ls,())) (cJ ls (bU (ls.take k)) (k:Int)):=by
  intro n
  induction n with
  |zero=>
   intro k hk
   refine Lf.go hz hX aH.Ok.nil Tryd.func92 (an1 ls _ k) ⟨fun h=>absurd (of_decide_eq_true h) (by omega),fun h=> ?_⟩
   rw[List.take_of_length_le (by omega)]
   exact aT (bU ls,()) rfl (by kernel_rfl)
  |succ n ih=>
   intro k hk
   have e:=adE (ls:=ls) k (by omega)
   have l1:=ajs (ls:=ls) (k+1)
   rw[e,List.length_append]at l1
   refine Lf.go hz hX aH.Ok.nil Tryd.func92 (an1 ls _ k) ⟨fun h=>⟨by omega,by omega, ?_,⟨by omega,by omega⟩, ?_⟩,fun h=>absurd (of_decide_eq_false h) (by omega)⟩
   ·show((bU (ls.take k)).length+(rwB (ls.getD k (CL.d wL))).length)*24≤140737488355328
    omega
   ·have:=ih (k+1) (by omega)
    rw[e]at this
    exact this
 exact Lf.go hz hX aH.Ok.nil Tryd.func92 (trJ ls) (first ls.length 0 (by omega))
theorem ajt{Z:a8}:an2.Ok P Z:=aH.Ok.cons rH.sum aH.Ok.nil
theorem afa{Z:a8}:dm P Z 81 [ei] [gL] (fun((_,_,bs,()),())=>[(bs:List Br).length≤1000]) (fun((l,es,bs,()),())=>((l,es,aa bs,()),())):=by
 refine au Tryd.func81 (by kernel_rfl) (by kernel_rfl) ?_
 rintro⟨⟨(l:Bool),(es:List En),(bs:List Br),⟨⟩⟩,⟨⟩⟩ _ ⟨(hl:bs.length≤1000),_⟩ X hX hz
 show Safe P 81 X (Ends [gL] ((l,es,aa bs,()),())) _
 refine Lf.go hz hX ajt Tryd.func81 (aue l es bs) ⟨fun h=> ?_,fun h=> ?_⟩
 ·have h:=of_decide_eq_true h
  obtain⟨b,r,rfl⟩:∃b r,bs=b::r:=by
   cases bs with
   |nil=>simp at h
   |cons b r=>exact⟨b,r,rfl⟩
  simp only[List.length_cons]at h hl
  have e:bU [([(ByteArray.empty,((b::r).getD (0:Nat) (CL.d [CK.str,CK.int IntKind.i64])).snd.fst,())],()),(List.drop (Int.toNat (1:Int)) (List.take (↑(b::r).length:Int).toNat (b::r)),())]=aa (b::r):=by
   show [(ByteArray.empty,b.2.1,())]++(List.drop 1 (List.take (r.length+1) (b::r))++[])=(ByteArray.empty,b.2.1,())::r
   rw[List.take_of_length_le (by simp)]
   simp
  refine⟨by omega,by simp only[List.length_cons];omega,by omega,by simp only[List.length_cons];omega,by simp only[List.length_cons];omega,by show 2≤100;decide, ?_, ?_⟩
  ·refine Nat.le_trans (Nat.le_of_eq (congrArg List.length e)) ?_
   show r.length+1≤100000;omega
  ·exact aT (rs:=[gL]) ((l,es,bU [([(ByteArray.empty,((b::r).getD (0:Nat) (CL.d [CK.str,CK.int IntKind.i64])).snd.fst,())],()),(List.drop (Int.toNat (1:Int)) (List.take (↑(b::r).length:Int).toNat (b::r)),())],()),()) (by rw[e]) (by kernel_rfl)
 ·have h:=of_decide_eq_false h
  obtain rfl:bs=[]:=List.eq_nil_of_length_eq_zero (by omega)
  exact aT (rs:=[gL]) ((l,es,[],()),()) rfl (by kernel_rfl)
end Ts
namespace Lf
open Go Go.Sx Go.Proofs
theorem nN{es:List En}{k:Nat}:okE es k=true↔(1≤(es.getD k dE).1.size∧(es.getD k dE).1.size≤24∧(es.getD k dE).2.1.size≤100∧(0<k→slt (es.getD (k - 1) dE).1 (es.getD k dE).1=true)):=by
 simp only[okE,Bool.not_eq_true',Bool.or_eq_false_iff,Bool.and_eq_false_iff,decide_eq_false_iff_not,Bool.not_eq_false']
 constructor
 ·rintro⟨⟨⟨h1,h2⟩,h3⟩,h4⟩
  exact⟨Nat.pos_of_ne_zero fun e=>h1 (lr e),by omega,by omega,fun h=>h4.resolve_left (fun g=>g h)⟩
 ·rintro⟨h1,h2,h3,h4⟩
  exact⟨⟨⟨fun e=>(by rw[e]at h1;simp at h1),by omega⟩,by omega⟩,(Decidable.em (0<k)).elim (fun h=>.inr (h4 h)) .inl⟩
theorem qt{bs:List Br}{k:Nat}:okB bs k=true↔((bs.getD k dB).1.size≤24∧2≤(bs.getD k dB).2.1∧(bs.getD k dB).2.1≤1023∧(0<k→slt (bs.getD (k - 1) dB).1 (bs.getD k dB).1=true)):=by
 simp only[okB,Bool.not_eq_true',Bool.or_eq_false_iff,Bool.and_eq_false_iff,decide_eq_false_iff_not,Bool.not_eq_false']
 constructor
 ·rintro⟨⟨⟨h1,h2⟩,h3⟩,h4⟩
  exact⟨by omega,by omega,by omega,fun h=>h4.resolve_left (fun g=>g h)⟩
 ·rintro⟨h1,h2,h3,h4⟩
  exact⟨⟨⟨by omega,by omega⟩,by omega⟩,(Decidable.em (0<k)).elim (fun h=>.inr (h4 h)) .inl⟩
theorem agR(l:Bool)(es:List En)(bs:List Br):aiW l es bs l es bs=true:=by simp[aiW,arH,arI]
theorem qu{l:Bool}{es:List En}{bs:List Br}(h:cT l es bs=true):gW (bu es)∧gW (l9 bs):=by
 simp only[cT,Bool.and_eq_true]at h
 exact⟨arG h.1.2,apz h.2⟩
theorem ap7{l:List En}{key val:ByteArray}(h:l.length≤200):(bt l key val).length≤201:=by rw[zB];split<;>omega
theorem l3{α:Type}{l:List α}{k i:Nat}{d:α}(h:i<k):(l.take k).getD i d=l.getD i d:=by simp[List.getD,List.getElem?_take,h]
theorem jV{α:Type}{l:List α}{k i:Nat}{d:α}:(l.drop k).getD i d=l.getD (k+i) d:=by simp[List.getD,List.getElem?_drop]
theorem xV{es:List En}(h:jr es=true)(k:Nat):jr (es.take k)=true:=cI.2 fun i hi=>by
 rw[List.length_take]at hi
 have:=nN.1 (cI.1 h i (by omega))
 rw[nN,l3 (by omega),l3 (by omega)]
 exact this
theorem xW{es:List Br}(h:gm es=true)(k:Nat):gm (es.take k)=true:=cI.2 fun i hi=>by
 rw[List.length_take]at hi
 have:=qt.1 (cI.1 h i (by omega))
 rw[qt,l3 (by omega),l3 (by omega)]
 exact this
theorem xX{es:List En}(h:jr es=true)(k:Nat):jr (es.drop k)=true:=cI.2 fun i hi=>by
 rw[List.length_drop]at hi
 obtain⟨h1,h2,h3,h4⟩:=nN.1 (cI.1 h (k+i) (by omega))
 rw[nN,jV,jV]
 exact⟨h1,h2,h3,fun h0=>by have:=h4 (by omega);rw[show k+i - 1=k+(i - 1)from by omega]at this;exact this⟩
theorem xY{es:List Br}(h:gm es=true)(k:Nat):gm (es.drop k)=true:=cI.2 fun i hi=>by
 rw[List.length_drop]at hi
 obtain⟨h1,h2,h3,h4⟩:=qt.1 (cI.1 h (k+i) (by omega))
 rw[qt,jV,jV]
 exact⟨h1,h2,h3,fun h0=>by have:=h4 (by omega);rw[show k+i - 1=k+(i - 1)from by omega]at this;exact this⟩
theorem tj{l:Bool}{es:List En}{bs:List Br}(m1:l=true→bs=[])(m2:l=false→es=[])(m3:jr es=true)(m4:gm bs=true):cT l es bs=true:=by
 simp only[cT,m3,m4,Bool.and_true]
 cases l
 ·rw[m2 rfl];rfl
 ·rw[m1 rfl];rfl
theorem abC{l:Bool}{es:List En}{bs:List Br}(h:cT l es bs=true)(k:Nat):cT l (es.take k) (bs.take k)=true:=by
 obtain⟨m1,m2,m3,m4⟩:=dA h
 exact tj (fun e=>by rw[m1 e,List.take_nil]) (fun e=>by rw[m2 e,List.take_nil]) (xV m3 k) (xW m4 k)
theorem abD{l:Bool}{es:List En}{bs:List Br}(h:cT l es bs=true)(k:Nat):cT l (es.drop k) (bs.drop k)=true:=by
 obtain⟨m1,m2,m3,m4⟩:=dA h
 exact tj (fun e=>by rw[m1 e,List.drop_nil]) (fun e=>by rw[m2 e,List.drop_nil]) (xX m3 k) (xY m4 k)
theorem tk:∀{l:List Int} {m:Int},(∀x∈l,m≤x)→m*l.length≤l.sum
 |[],m,_=>by simp
 |a::r,m,h=>by
  have h1:=tk (l:=r) (m:=m) fun x hx=>h x (List.mem_cons_of_mem _ hx)
  have h2:=h a List.mem_cons_self
  rw[List.sum_cons,List.length_cons]
  have:m*((r.length+1:Nat):Int)=m*(r.length:Int)+m:=by rw[Int.natCast_add,Int.mul_add];simp
  omega
theorem al8(es:List En)(bs:List Br):∀x∈aE es bs,2≤x:=fun x hx=>by
 simp only[aE,List.mem_append,List.mem_map]at hx
 rcases hx with⟨e,_,rfl⟩|⟨b,_,rfl⟩
 ·simp only[pz];omega
 ·simp only[oZ];omega
theorem aju{zs:List Int}(h:∀x∈zs,2≤x){k:Nat}(h1:0<k)(h2:k<zs.length):2≤(zs.take k).sum∧(zs.take k).sum+2≤zs.sum:=by
 have a1:=tk (l:=zs.take k) (m:=2) fun x hx=>h x (List.mem_of_mem_take hx)
 have a2:=tk (l:=zs.drop k) (m:=2) fun x hx=>h x (List.mem_of_mem_drop hx)
 rw[abu]at a2
 rw[List.length_take]at a1
 rw[List.length_drop]at a2
 omega
theorem vC(zs:List Int):∀k,0<k→(gJ zs k).2=jh zs (gJ zs k).1
 |0,h=>absurd h (by omega)
 |k+1,_=>by
  rw[gJ]
  split
  ·rfl
  ·rename_i h
   have hk:0<k:=Nat.pos_of_ne_zero fun e=>h (.inl (by rw[e];rfl))
   exact vC zs k hk
theorem qv(zs:List Int):∀k j,0<j→j≤k→(gJ zs k).2≤jh zs j
 |0,j,h,h2=>absurd h (by omega)
 |k+1,j,h,h2=>by
  rw[gJ]
  split
  ·rename_i hc
   by_cases e:j=k+1
   ·rw[e];exact Int.le_refl _
   ·have:=qv zs k j h (by omega)
    rcases hc with hc|hc
    ·have:=ni zs k (by omega);omega
    ·show jh zs (k+1)≤_;omega
  ·rename_i hc
   by_cases e:j=k+1
   ·rw[e]
    have:¬jh zs (k+1)<(gJ zs k).2:=fun h=>hc (.inr h)
    omega
   ·exact qv zs k j h (by omega)
theorem pa{p:Nat→Int}{c:Int}:∀n:Nat,p 0<c→c≤p n→∃k,k<n∧p k<c∧c≤p (k+1)
 |0,h1,h2=>absurd h2 (by omega)
 |n+1,h1,h2=>by
  by_cases h:c≤p n
  ·obtain⟨k,a,b,d⟩:=pa n h1 h
   exact⟨k,by omega,b,d⟩
  ·exact⟨n,by omega,by omega,h2⟩
theorem agS{zs:List Int}(h2:∀x∈zs,2≤x∧x≤126)(hs:253<zs.sum)(hs2:zs.sum≤379):2≤zs.length∧jh zs (gJ zs (zs.length - 1)).1≤253:=by
 have hb:=(nK (l:=zs) (m:=126) (fun x hx=>⟨by have:=(h2 x hx).1;omega,(h2 x hx).2⟩) (by omega)).2
 have hl:2≤zs.length:=by omega
 refine⟨hl, ?_⟩
 obtain⟨k,hk,k1,k2⟩:=pa (p:=fun k=>(zs.take k).sum) (c:=zs.sum - 253) zs.length (by simp;omega) (by simp only[List.take_length];omega)
 have k1:(zs.take k).sum<zs.sum - 253:=k1
 have k2:zs.sum - 253≤(zs.take (k+1)).sum:=k2
 have k3:=ix hk
 have k4:zs.getD k 0≤126:=by rw[bd hk];exact(h2 _ (List.getElem_mem _)).2
 have k5:k+1<zs.length:=by
  rcases Nat.lt_or_ge (k+1) zs.length with h|h
  ·exact h
  ·rw[List.take_of_length_le h]at k3;omega
 have m:=qv zs (zs.length - 1) (k+1) (by omega) (by omega)
 rw[vC _ _ (by omega)]at m
 refine Int.le_trans m ?_
 unfold jh imax
 split<;>omega
theorem ajv(l:List En)(key val:ByteArray):((bt l key val).map pz).sum≤(l.map pz).sum+pz (key,val,()):=by
 have adA:∀l:List En,0≤(l.map pz).sum:=fun l=>by
  have:=tk (l:=l.map pz) (m:=0) fun x hx=>by
   obtain⟨e,_,rfl⟩:=List.mem_map.1 hx
   simp only[pz];omega
  omega
 have hd:∀(p q:Nat),p≤q→((l.drop q).map pz).sum≤((l.drop p).map pz).sum:=fun p q h=>by
  have e:l.drop p=(l.drop p).take (q - p)++l.drop q:=by
   have:=List.take_append_drop (q - p) (l.drop p)
   rw[List.drop_drop,show p+(q - p)=q from by omega]at this
   exact this.symm
  rw[e,List.map_append,List.sum_append]
  have:=adA ((l.drop p).take (q - p))
  omega
 have h1:(l.map pz).sum=((l.take (b8 (bu l) key)).map pz).sum+((l.drop (b8 (bu l) key)).map pz).sum:=by
  rw[←List.sum_append,←List.map_append,List.take_append_drop]
 have h2:=hd (b8 (bu l) key) (if jf (bu l) key=true then b8 (bu l) key+1 else b8 (bu l) key) (by split<;>omega)
 rw[bt,List.map_append,List.sum_append,List.map_cons,List.sum_cons]
 omega
theorem al9(l:List En)(key val:ByteArray):(key,val,())∈bt l key val:=by
 rw[bt];exact List.mem_append_right _ List.mem_cons_self
theorem rI{l:Bool}{es:List En}{bs:List Br}(h:di l es bs=true)(he:aY es)(hb:aZ bs):
 aY (aX l es bs)∧aZ (a6 l es bs)∧aY (cF l es bs)∧aZ (cN l es bs)∧aiW (bI l es bs) ([]++aX l es bs++cF l es bs) ([]++a6 l es bs++cN l es bs) l es bs=true∧
 cT (bI l es bs) (aX l es bs) (a6 l es bs)=true∧cT (bI l es bs) (cF l es bs) (cN l es bs)=true∧
 ba (aX l es bs) (a6 l es bs)<ba es bs∧ba (cF l es bs) (cN l es bs)<ba es bs∧ba (aX l es bs) (a6 l es bs)+ba (cF l es bs) (cN l es bs)=ba es bs+1∧
 imax (ba (aX l es bs) (a6 l es bs)) (ba (cF l es bs) (cN l es bs))=1+jh (aE es bs) (dG es bs):=by
 have h':=h
 simp only[di,Bool.and_eq_true,decide_eq_true_eq]at h'
 obtain⟨hm,h2⟩:=h'
 obtain⟨m1,m2,_,_⟩:=dA hm
 obtain⟨_,_,_,_,c5,c6⟩:=agF m1 m2 (dG es bs)
 have b1:=ni (aE es bs) (es.length+bs.length - 1) (by omega)
 have b2:=nL (aE es bs) (es.length+bs.length - 1)
 have p:=aju (al8 es bs) (k:=dG es bs) b1 (by rw[vn];rw[dG];omega)
 have bF:=na es bs
 simp only[aX,cF,a6,cN,bI,h,if_true,Bool.true_and]
 refine⟨abp he _,abq hb _,abr he _,abt hb _, ?_,abC hm _,abD hm _,by omega,by omega,by omega, ?_⟩
 ·rw[List.nil_append,List.nil_append,List.take_append_drop,List.take_append_drop];exact agR _ _ _
 ·rw[c5,c6,ai1];rfl
theorem ap8{l:Bool}{es:List En}{bs:List Br}(h:(spC l es bs==0)=true):di l es bs=true:=by
 unfold spC at h
 split at h
 ·assumption
 ·exact absurd h (by decide)
theorem adF{l:List En}{key val:ByteArray}(h:l.length≤200)(hm:cT true (bt l key val) []=true):aY (bt l key val):=by
 obtain⟨_,_,m3,_⟩:=dA hm
 exact⟨Nat.le_trans (ap7 h) (by omega),fun x hx=>by have:=adt m3 hx;omega⟩
theorem agT{es:List En}{key val:ByteArray}(hl:es.length≤200)(hs:ba es []≤254)(hm:cT true (bt es key val) []=true)(hn:¬ba (bt es key val) []≤254):
 di true (bt es key val) []=true∧ba (aX true (bt es key val) []) (a6 true (bt es key val) [])≤254∧ba (cF true (bt es key val) []) (cN true (bt es key val) [])≤254:=by
 obtain⟨_,_,m3,_⟩:=dA hm
 have e0:∀l:List En,aE l []=l.map pz:=fun l=>by simp[aE]
 have e1:=na es []
 have e2:=na (bt es key val) []
 rw[e0]at e1 e2
 have k1:=ajv es key val
 have k2:=adt m3 (al9 es key val)
 have k3:pz (key,val,())≤126:=by simp only[pz];simp only[]at k2;omega
 have hz:∀x∈(bt es key val).map pz,2≤x∧x≤126:=fun x hx=>by
  obtain⟨y,hy,rfl⟩:=List.mem_map.1 hx
  have:=adt m3 hy
  simp only[pz];omega
 obtain⟨b1,b2⟩:=agS hz (by omega) (by omega)
 rw[List.length_map]at b1 b2
 have ok:di true (bt es key val) []=true:=by
  simp only[di,hm,Bool.true_and,decide_eq_true_eq,List.length_nil];omega
 obtain⟨_,_,_,_,_,_,_,_,_,_,f⟩:=rI ok (adF hl hm) vp
 rw[e0]at f
 have f2:jh ((bt es key val).map pz) (dG (bt es key val) [])≤253:=by rw[dG,e0,List.length_nil,Nat.add_zero];exact b2
 unfold imax at f
 refine⟨ok, ?_, ?_⟩<;>split at f<;>omega
end Lf
namespace Ds
open Go Go.Sx Go.Proofs Lf
theorem afb{th:Th}{n:Int}{ws:List Int}(hp:uS th n=true)(hw:ws.length=256):∀(j k:Nat) (m:As) (f:Int),k+j=4→bR th m f→
 (((zl th n ws j k m f).2.2=0∧∀i:Nat,k≤i→i<4→nU th (zl th n ws j k m f).1 (n*4+(i:Int))=gG ws i)∨((zl th n ws j k m f).2.2=42∧(zl th n ws j k m f).2.1=0))∧
   ∀x,(∀i:Nat,k≤i→i<4→x≠n*4+(i:Int))→nU th (zl th n ws j k m f).1 x=nU th m x
 |0,k,m,f,hk,hd=>⟨.inl ⟨rfl,fun i h1 h2=>by omega⟩,fun x _=>rfl⟩
 |j+1,k,m,f,hk,hd=>by
  have c8:=zn hp (show k<4 by omega)
  have hs:=xK hw (show k<4 by omega)
  have hd':=aa5 (n:=n*4+(k:Int)) (s:=gG ws k) hd
  have hr:=fun x=>anC (n:=n*4+(k:Int)) (x:=x) (s:=gG ws k) hd
  unfold zl
  by_cases hf:f=0
  ·have he:qL th f (n*4+(k:Int)) (gG ws k)=42:=by unfold qL;rw[if_pos c8,if_pos hs,if_pos hf]
   rw[if_neg (by rw[he];decide)]
   refine⟨.inr ⟨he, ?_⟩,fun x hx=> ?_⟩
   ·show wD th f (n*4+(k:Int)) (gG ws k)=0
    unfold wD uO;rw[if_pos ⟨c8,hs⟩,if_pos hf]
   ·show nU th (xI th m f (n*4+(k:Int)) (gG ws k)) x=_
    rw[hr,if_neg]
    rintro⟨h,_⟩
    rw[he]at h
    cases h
  ·have he:qL th f (n*4+(k:Int)) (gG ws k)=0:=uR.2 ⟨c8,hs,hf⟩
   rw[if_pos he]
   obtain⟨h1,h3⟩:=afb hp hw j (k+1) _ _ (by omega) hd'
   refine⟨h1.elim (fun hh=>.inl ⟨hh.1,fun i hi hi4=> ?_⟩) .inr,fun x hx=> ?_⟩
   ·by_cases e:i=k
    ·subst e
     rw[h3 _ (fun i' a b=>by omega),hr,if_pos ⟨he,rfl⟩]
    ·exact hh.2 i (by omega) hi4
   ·rw[h3 x (fun i a b=>hx i (by omega) b),hr,if_neg (fun h=>hx k (Nat.le_refl _) (by omega) h.2)]
theorem ap9{th:Th}{m:As}{fu n:Int}{s:ByteArray}(hd:bR th m fu)(hp:uS th n=true)(hs:s.size≤254):
 (((jZ th m fu n s).2.2=0∧je th (jZ th m fu n s).1 n=0∧gS th (jZ th m fu n s).1 n=s)∨((jZ th m fu n s).2.2=42∧(jZ th m fu n s).2.1=0))∧
   (fu= -1→(jZ th m fu n s).2.1= -1)∧
   ∀p,p≠n→je th (jZ th m fu n s).1 p=je th m p∧gS th (jZ th m fu n s).1 p=gS th m p:=by
 have hl:=aeJ hs
 obtain⟨h1,h3⟩:=afb hp hl 4 0 m fu rfl hd
 have ec:gwC th n s=0:=by unfold gwC;rw[if_pos hp,if_neg (by omega)]
 unfold jZ
 rw[ec,if_pos rfl]
 refine⟨h1.imp (fun⟨a,h2⟩=> ?_) id,fun e=>by subst e;rw[(aiD hp hl 4 0 m rfl hd).1],fun p hpn=>aiE rfl fun i hi=>(h3 _ fun i' _ eu=>by omega).symm⟩
 have e:pgA th (zl th n (wF s) 4 0 m fu).1 n=wF s:=by
  show z6 _ _ _ 4=_
  simp only[z6,List.nil_append]
  rw[h2 0 (by omega) (by omega),h2 1 (by omega) (by omega),h2 2 (by omega) (by omega),h2 3 (by omega) (by omega)]
  exact aiF hl (fun x hx=>aiw x hx hs)
 exact⟨a,apu hp hs e⟩
end Ds
namespace Ts
open Go Go.Sx Go.Proofs Lf
def In(ws:Ws)(k:Int):Prop:=Bx.nk ws k=true
instance (ws:Ws) (k:Int):Decidable (In ws k):=inferInstanceAs (Decidable (_=true))
theorem dR{ws:Ws}(hw:Bx.okW ws){k:Int}:In ws k↔(0≤k∧k<1024)∧Bx.bit ws k.toNat=true:=by
 unfold In;rw[Bx.ae9 hw,Bool.and_eq_true,decide_eq_true_eq]
theorem nq{ws:Ws}(hw:Bx.okW ws){k:Int}(h:In ws k):0≤k∧k<1024:=((dR hw).1 h).1
theorem tl{ws:Ws}(hw:Bx.okW ws){n:Int}(hn:0≤n∧n<1024){k:Int}:In (Bx.ej ws n) k↔In ws k∨k=n:=by
 obtain⟨h1,h2⟩:=Bx.jU hw n
 rw[dR h1,dR hw]
 constructor
 ·rintro⟨a,b⟩
  rw[h2 k.toNat (by omega),Bool.or_eq_true,decide_eq_true_eq]at b
  rcases b with b|b
  ·exact .inl ⟨a,b⟩
  ·right;omega
 ·rintro(⟨a,b⟩|rfl)
  ·exact⟨a,by rw[h2 _ (by omega),b];rfl⟩
  ·refine⟨hn, ?_⟩
   rw[h2 _ (by omega),Bool.or_eq_true,decide_eq_true_eq]
   right;omega
theorem pb{ws:Ws}(hw:Bx.okW ws){n k:Int}:In (Bx.cG ws n) k↔In ws k∧k≠n:=by
 obtain⟨h1,h2⟩:=Bx.ky hw n
 rw[dR h1,dR hw]
 constructor
 ·rintro⟨a,b⟩
  rw[h2 k.toNat (by omega),Bool.and_eq_true,Bool.not_eq_true',decide_eq_false_iff_not]at b
  exact⟨⟨a,b.1⟩,by omega⟩
 ·rintro⟨⟨a,b⟩,c⟩
  refine⟨a, ?_⟩
  rw[h2 _ (by omega),Bool.and_eq_true,Bool.not_eq_true',decide_eq_false_iff_not]
  exact⟨b,by omega⟩
theorem adG{op:BinOp}(wc:op=.or∨op=.and∨op=.andNot){a b:Ws}(ha:Bx.okW a)(hb:Bx.okW b){k:Int}:
 In (Bx.cV op a b) k↔(0≤k∧k<1024)∧Bx.opb op (Bx.bit a k.toNat) (Bx.bit b k.toNat)=true:=by
 obtain⟨h1,h2⟩:=Bx.nm wc ha hb
 rw[dR h1]
 constructor
 ·rintro⟨c,d⟩;rw[h2 _ (by omega)]at d;exact⟨c,d⟩
 ·rintro⟨c,d⟩;exact⟨c,by rw[h2 _ (by omega)];exact d⟩
theorem ar9{a b:Ws}(ha:Bx.okW a)(hb:Bx.okW b){k:Int}:In (Bx.cV .or a b) k↔In a k∨In b k:=by
 rw[adG (.inl rfl) ha hb,dR ha,dR hb]
 simp only[Bx.opb,Bool.or_eq_true]
 exact⟨fun⟨c,d⟩=>d.imp (fun x=>⟨c,x⟩) (fun x=>⟨c,x⟩),fun h=>h.elim (fun x=>⟨x.1,.inl x.2⟩) (fun x=>⟨x.1,.inr x.2⟩)⟩
theorem aqa{a b:Ws}(ha:Bx.okW a)(hb:Bx.okW b){k:Int}:In (Bx.cV .and a b) k↔In a k∧In b k:=by
 rw[adG (.inr (.inl rfl)) ha hb,dR ha,dR hb]
 simp only[Bx.opb,Bool.and_eq_true]
 exact⟨fun⟨c,d⟩=>⟨⟨c,d.1⟩,c,d.2⟩,fun⟨x,y⟩=>⟨x.1,x.2,y.2⟩⟩
theorem ama{a b:Ws}(ha:Bx.okW a)(hb:Bx.okW b){k:Int}:In (Bx.cV .andNot a b) k↔In a k∧¬In b k:=by
 rw[adG (.inr (.inr rfl)) ha hb,dR ha,dR hb]
 simp only[Bx.opb,Bool.and_eq_true,Bool.not_eq_true']
 constructor
 ·rintro⟨c,d,e⟩
  exact⟨⟨c,d⟩,fun h=>by rw[h.2]at e;cases e⟩
 ·rintro⟨⟨c,d⟩,e⟩
  refine⟨c,d, ?_⟩
  cases hh:Bx.bit b k.toNat
  ·rfl
  ·exact absurd ⟨c,hh⟩ e
theorem vD{n k:Int}:In (Bx.bY n) k↔(0≤k∧k<1024)∧k<n:=by
 obtain⟨h1,h2⟩:=Bx.cK n
 rw[dR h1]
 constructor
 ·rintro⟨c,d⟩;rw[h2 _ (by omega),decide_eq_true_eq]at d;exact⟨c,by omega⟩
 ·rintro⟨c,d⟩;exact⟨c,by rw[h2 _ (by omega),decide_eq_true_eq];omega⟩
theorem jB{k:Int}:¬In Bx.bg k:=fun h=>by
 have:=((dR Bx.iK.1).1 h).2
 rw[Bx.iK.2]at this
 cases this
theorem aqb{a b:Ws}(ha:Bx.okW a)(hb:Bx.okW b)(h:∀k,In a k↔In b k):a=b:=Bx.al3 ha hb fun k hk=>by
 have h1:=h (k:Int)
 rw[dR ha,dR hb,Int.toNat_natCast]at h1
 have hr:(0:Int)≤(k:Int)∧(k:Int)<1024:=⟨by omega,by omega⟩
 have h2:Bx.bit a k=true↔Bx.bit b k=true:=⟨fun h=>(h1.1 ⟨hr,h⟩).2,fun h=>(h1.2 ⟨hr,h⟩).2⟩
 cases e1:Bx.bit a k<;>cases e2:Bx.bit b k<;>simp[e1,e2]at h2 ⊢
theorem abE{ws:Ws}(hw:Bx.okW ws)(h:Bx.ez ws 0=true):In ws (Bx.br ws 0):=by
 unfold Bx.ez at h
 obtain⟨v,hv⟩:=Option.isSome_iff_exists.1 h
 obtain⟨p,rfl,hp,hb,_,_⟩:=Bx.adB hw hv
 have e:Bx.br ws 0=(p:Int):=by unfold Bx.br;rw[hv];rfl
 rw[e,dR hw]
 exact⟨⟨by omega,by omega⟩,by rw[Int.toNat_natCast];exact hb⟩
theorem amb{ws:Ws}(hw:Bx.okW ws)(h:Bx.ez ws 0=false)(k:Int):¬In ws k:=by
 unfold Bx.ez at h
 have hv:Bx.nn ws 0=none:=by
  cases e:Bx.nn ws 0 with
  |none=>rfl
  |some v=>rw[e]at h;cases h
 intro hk
 obtain⟨hr,hb⟩:=(dR hw).1 hk
 rw[Bx.adC hw hv k.toNat (by omega) (by omega)]at hb
 cases hb
structure Rd (th:Th) (m:As) (p:Int) (l:Bool) (es:List En) (bs:List Br):Prop where
 e:Ds.je th m p=0
 c:rC (Ds.gS th m p)=0
 l:jg (Ds.gS th m p)=l
 es:ng (Ds.gS th m p)=es
 bs:mi (Ds.gS th m p)=bs
theorem Rd.same{th:Th}{m m':As}{p:Int}{l:Bool}{es:List En}{bs:List Br}(h:Rd th m p l es bs)(h1:Ds.je th m' p=Ds.je th m p∧Ds.gS th m' p=Ds.gS th m p):Rd th m' p l es bs:=by
 obtain⟨a,b,c,d,e⟩:=h
 exact⟨by rw[h1.1];exact a,by rw[h1.2];exact b,by rw[h1.2];exact c,by rw[h1.2];exact d,by rw[h1.2];exact e⟩
theorem Rd.nd{th:Th}{m:As}{p:Int}{l:Bool}{es:List En}{bs:List Br}(h:Rd th m p l es bs){deep:Int}(hd:deep≤16):gU th m p deep=0∧kJ th m p deep=l∧bP th m p deep=es∧aP th m p deep=bs:=by
 have e0:rG th m p deep=true:=by unfold rG;rw[decide_eq_true hd,decide_eq_true h.e];rfl
 refine⟨?_, ?_, ?_, ?_⟩
 ·unfold gU;rw[if_neg (by omega),if_pos h.e];exact h.c
 ·unfold kJ;rw[e0,Bool.true_and];exact h.l
 ·unfold bP;rw[if_pos e0];exact h.es
 ·unfold aP;rw[if_pos e0];exact h.bs
end Ts
namespace Ts
open Go Go.Sx Go.Proofs Lf
abbrev asa:=bW [ei] [dD] (fun((l,es,bs,()),())=>[((l:Bool)=true→0<(es:List En).length)∧(l=false→0<(bs:List Br).length)]) (fun((l,es,bs,()),())=>(cM l es bs,()))
abbrev an3:=uF [ei] [gL] (fun((_,_,bs,()),())=>[(bs:List Br).length≤1000]) (fun((l,es,bs,()),())=>((l,es,aa bs,()),()))
abbrev auf:=bW [Bx.dM,Bx.bo] [Bx.bo,Bx.cf] (fun(ws,_,())=>[Bx.okW ws]) (fun(ws,n,())=>(Bx.br ws n,Bx.ez ws n,()))
abbrev asb:=bW [ei] [dD,bo] (fun((_,es,bs,()),())=>[aY es,aZ bs]) (fun((l,es,bs,()),())=>(cU l es bs,gI l es bs,()))
def an4:aH:=[(94,asa),(81,an3),(95,auf),(96,asb),(97,ar7),(98,anZ),(43,ajp)]
theorem aug(th:Th)(m:As)(fu root:Int)(fr fs gn:Ws)(l:Bool)(es:List En)(bs:List Br):run P an4.sum Tryd.f83 [] (start Tryd.f83 [.ptr 0 0,avN l es bs] (hT th m fu root fr fs gn))=
 Tree.need ((l=true→(0:Nat)<es.length)∧(l=false→(0:Nat)<bs.length))
 (.need (bs.length≤1000)
   (.need (Bx.okW fr)
     (.ite (!Bx.ez fr 0) (.ret [.own [.ptr 1 0,.s (.int .i64 root),.ints .u64 16 fr,.ints .u64 16 fs,.ints .u64 16 gn] 70,.own [.vec 2,.ag 3,.s (.int .i64 fu)] 96,.vec (.ad [.arr .u8 64] th) 138,.map (.arr .u8 64) m,.own [.s (.bool l),.s (.ro (.ad [.str,.str] es)),.s (.ro (.ad [.str,.int .i64] (aa bs)))] 73,.own [.s (.str ByteArray.empty),.s (.bc .i64 0)] 79] (.bm [.agg [.s (.str ByteArray.empty),.s (.bc .i64 0)],.s (.bc .i64 41)]))
       (.need (aY es) (.need (aZ (aa bs)) (.ite (gI l es (aa bs) !=0) (.ret [.own [.ptr 1 0,.s (.int .i64 root),.ints .u64 16 fr,.ints .u64 16 fs,.ints .u64 16 gn] 70,.own [.vec 2,.ag 3,.s (.int .i64 fu)] 96,.vec (.ad [.arr .u8 64] th) 138,.map (.arr .u8 64) m,.own [.s (.bool l),.s (.ro (.ad [.str,.str] es)),.s (.ro (.ad [.str,.int .i64] (aa bs)))] 73,.own [.s (.str ByteArray.empty),.s (.bc .i64 0)] 79] (.bm [.agg [.s (.str ByteArray.empty),.s (.bc .i64 0)],.s (.int .i64 (gI l es (aa bs)))])) (.need (bK (some [AV.ptr 0 0,.s (.int .i64 (Bx.br fr 0)),.s (.str (cU l es (aa bs)))])) (.need (bK (some [ae.own [.vec 1,.ag 2,.s (.int .i64 fu)] 96,.vec (.ad [.arr .u8 64] th) 138,.map (.arr .u8 64) m])) (.need (Ds.bR th m fu) (.need (ax (Bx.br fr 0)) (.ite ((Ds.jZ th m fu (Bx.br fr 0) (cU l es (aa bs))).snd.snd !=0) (.ret [.own [.ptr 1 0,.s (.int .i64 root),.ints .u64 16 fr,.ints .u64 16 fs,.ints .u64 16 gn] 70,.own [.vec 2,.ag 3,.s (.int .i64 (Ds.jZ th m fu (Bx.br fr 0) (cU l es (aa bs))).snd.fst)] 96,.vec (.ad [.arr .u8 64] th) 138,.map (.arr .u8 64) (Ds.jZ th m fu (Bx.br fr 0) (cU l es (aa bs))).fst,.own [.s (.bool l),.s (.ro (.ad [.str,.str] es)),.s (.ro (.ad [.str,.int .i64] (aa bs)))] 73,.own [.s (.str ByteArray.empty),.s (.bc .i64 0)] 79] (.bm [.agg [.s (.str ByteArray.empty),.s (.bc .i64 0)],.s (.int .i64 (Ds.jZ th m fu (Bx.br fr 0) (cU l es (aa bs))).snd.snd)])) (.ret [.own [.ptr 1 0,.s (.int .i64 root),.ints .u64 16 (Bx.cG fr (Bx.br fr 0)),.ints .u64 16 (Bx.ej fs (Bx.br fr 0)),.ints .u64 16 gn] 70,.own [.vec 2,.ag 3,.s (.int .i64 (Ds.jZ th m fu (Bx.br fr 0) (cU l es (aa bs))).snd.fst)] 96,.vec (.ad [.arr .u8 64] th) 138,.map (.arr .u8 64) (Ds.jZ th m fu (Bx.br fr 0) (cU l es (aa bs))).fst,.own [.s (.bool l),.s (.ro (.ad [.str,.str] es)),.s (.ro (.ad [.str,.int .i64] (aa bs)))] 73,.own [.s (.str (cM l es bs)),.s (.int .i64 (Bx.br fr 0))] 79] (.bm [.agg [.s (.str (cM l es bs)),.s (.int .i64 (Bx.br fr 0))],.s (.bc .i64 0)]))))))))))))):=by kernel_rfl
abbrev asc:Spec (XT×Bool×List En×List Br):=⟨fun(_,l,es,bs)=>[.ptr 0 0,avN l es bs],fun((th,m,fu,root,fr,fs,gn),_)=>hT th m fu root fr fs gn,
 fun((th,m,fu,_,fr,_,_),l,es,bs)=>[Ds.bR th m fu,Bx.okW fr,((l:Bool)=true→0<(es:List En).length)∧(l=false→0<(bs:List Br).length),aY es,aZ bs],
 fun((th,m,fu,root,fr,fs,gn),l,es,bs)=>hT th (bD th m fu fr fs l es bs).1 (bD th m fu fr fs l es bs).2.1 root (bD th m fu fr fs l es bs).2.2.1 (bD th m fu fr fs l es bs).2.2.2.1 gn,
 fun((th,m,fu,_,fr,fs,_),l,es,bs)=>.bm [.agg [.s (.str (bD th m fu fr fs l es bs).2.2.2.2.1.1),bQ (bD th m fu fr fs l es bs).2.2.2.2.1.2.1],bQ (bD th m fu fr fs l es bs).2.2.2.2.2]⟩
theorem su{bs:List Br}(h:aZ bs):aZ (aa bs):=by
 cases bs with
 |nil=>exact h
 |cons b r=>
  refine⟨h.1,fun x hx=> ?_⟩
  rcases List.mem_cons.1 hx with rfl|hx
  ·exact Nat.zero_le _
  ·exact h.2 x (List.mem_cons_of_mem _ hx)
theorem vE{ws:Ws}(hw:Bx.okW ws)(h:Bx.ez ws 0=true):0≤Bx.br ws 0∧Bx.br ws 0<1024:=nq hw (abE hw h)
theorem ajw:an4.Ok P Bx.cn:=aH.Ok.cons ajr.sum (aH.Ok.cons afa.uF (aH.Ok.cons (Bx.al4 Bx.ar5.sum).sum (aH.Ok.cons agD.sum (aH.Ok.cons (Ds.arB.sum Ds.mWr) (aH.Ok.cons Bx.vr.sum (aH.Ok.cons Bx.zF.sum aH.Ok.nil))))))
theorem uQ:ke P Bx.cn 83 asc:=by
 refine aR Tryd.func83 (by kernel_rfl) (fun x=>Nat.le_of_ble_eq_true (by kernel_rfl)) ?_
 rintro⟨⟨(th:Th),(m:As),(fu:Int),(root:Int),(fr:Ws),(fs:Ws),(gn:Ws)⟩,(l:Bool),(es:List En),(bs:List Br)⟩ ⟨(hd:Ds.bR th m fu),(hf:Bx.okW fr),(b9:((l:Bool)=true→0<(es:List En).length)∧(l=false→0<(bs:List Br).length)),(he:aY es),(hb:aZ bs),_⟩ X hX hz
 refine Ds.eH hz hX (by intro y hy;cases hy) ajw Tryd.func83 (aug th m fu root fr fs gn l es bs) ⟨b9,hb.1,hf,fun h=> ?_,fun h=>⟨he,su hb,fun h2=> ?_,fun h2=>⟨rfl,rfl,hd, ?_,fun h3=> ?_,fun h3=> ?_⟩⟩⟩
 ·have h:Bx.ez fr 0=false:=by simpa using h
  have e:bD th m fu fr fs l es bs=(m,fu,fr,fs,dB,41):=by unfold bD;rw[if_pos h]
  refine ch (h:=hT th m fu root fr fs gn) 4 rfl (Nat.le_refl _) ?_ ?_
  ·show AV.bm [.agg [.s (.str (bD th m fu fr fs l es bs).2.2.2.2.1.1),bQ (bD th m fu fr fs l es bs).2.2.2.2.1.2.1],bQ (bD th m fu fr fs l es bs).2.2.2.2.2]=_
   rw[e];rfl
  ·show hT th (bD th m fu fr fs l es bs).1 (bD th m fu fr fs l es bs).2.1 root (bD th m fu fr fs l es bs).2.2.1 (bD th m fu fr fs l es bs).2.2.2.1 gn=_
   rw[e]
 ·have h:¬Bx.ez fr 0=false:=by simpa using h
  have h2:gI l es (aa bs)≠0:=by simpa using h2
  have e:bD th m fu fr fs l es bs=(m,fu,fr,fs,dB,gI l es (aa bs)):=by unfold bD;rw[if_neg h,if_pos h2]
  refine ch (h:=hT th m fu root fr fs gn) 4 rfl (Nat.le_refl _) ?_ ?_
  ·show AV.bm [.agg [.s (.str (bD th m fu fr fs l es bs).2.2.2.2.1.1),bQ (bD th m fu fr fs l es bs).2.2.2.2.1.2.1],bQ (bD th m fu fr fs l es bs).2.2.2.2.2]=_
   rw[e];rfl
  ·show hT th (bD th m fu fr fs l es bs).1 (bD th m fu fr fs l es bs).2.1 root (bD th m fu fr fs l es bs).2.2.1 (bD th m fu fr fs l es bs).2.2.2.1 gn=_
   rw[e]
 ·have h:Bx.ez fr 0=true:=by simpa using h
  have:=vE hf h
  exact⟨by omega,by omega⟩
 ·have h:¬Bx.ez fr 0=false:=by simpa using h
  have h2:¬gI l es (aa bs)≠0:=by simpa using h2
  have h3:(Ds.jZ th m fu (Bx.br fr 0) (cU l es (aa bs))).2.2≠0:=by simpa using h3
  have e:bD th m fu fr fs l es bs=((Ds.jZ th m fu (Bx.br fr 0) (cU l es (aa bs))).1,(Ds.jZ th m fu (Bx.br fr 0) (cU l es (aa bs))).2.1,fr,fs,dB,(Ds.jZ th m fu (Bx.br fr 0) (cU l es (aa bs))).2.2):=by unfold bD;rw[if_neg h,if_neg h2,if_pos h3]
  refine ch (h:=hT th (Ds.jZ th m fu (Bx.br fr 0) (cU l es (aa bs))).1 (Ds.jZ th m fu (Bx.br fr 0) (cU l es (aa bs))).2.1 root fr fs gn) 4 rfl (Nat.le_refl _) ?_ ?_
  ·show AV.bm [.agg [.s (.str (bD th m fu fr fs l es bs).2.2.2.2.1.1),bQ (bD th m fu fr fs l es bs).2.2.2.2.1.2.1],bQ (bD th m fu fr fs l es bs).2.2.2.2.2]=_
   rw[e];rfl
  ·show hT th (bD th m fu fr fs l es bs).1 (bD th m fu fr fs l es bs).2.1 root (bD th m fu fr fs l es bs).2.2.1 (bD th m fu fr fs l es bs).2.2.2.1 gn=_
   rw[e]
 ·have h:¬Bx.ez fr 0=false:=by simpa using h
  have h2:¬gI l es (aa bs)≠0:=by simpa using h2
  have h3:¬(Ds.jZ th m fu (Bx.br fr 0) (cU l es (aa bs))).2.2≠0:=by simpa using h3
  have e:bD th m fu fr fs l es bs=((Ds.jZ th m fu (Bx.br fr 0) (cU l es (aa bs))).1,(Ds.jZ th m fu (Bx.br fr 0) (cU l es (aa bs))).2.1,Bx.cG fr (Bx.br fr 0),Bx.ej fs (Bx.br fr 0),(cM l es bs,Bx.br fr 0,()),0):=by unfold bD;rw[if_neg h,if_neg h2,if_neg h3]
  refine ch (h:=hT th (Ds.jZ th m fu (Bx.br fr 0) (cU l es (aa bs))).1 (Ds.jZ th m fu (Bx.br fr 0) (cU l es (aa bs))).2.1 root (Bx.cG fr (Bx.br fr 0)) (Bx.ej fs (Bx.br fr 0)) gn) 4 rfl (Nat.le_refl _) ?_ ?_
  ·show AV.bm [.agg [.s (.str (bD th m fu fr fs l es bs).2.2.2.2.1.1),bQ (bD th m fu fr fs l es bs).2.2.2.2.1.2.1],bQ (bD th m fu fr fs l es bs).2.2.2.2.2]=_
   rw[e];rfl
  ·show hT th (bD th m fu fr fs l es bs).1 (bD th m fu fr fs l es bs).2.1 root (bD th m fu fr fs l es bs).2.2.1 (bD th m fu fr fs l es bs).2.2.2.1 gn=_
   rw[e]
end Ts
namespace Go.Sx
open Go
def afc:List Nat→List AV→(List AV→RM bw)→RM bw
 |[],args,k=>k args
 |id::ids,args,k=>.look id fun o=>match o with
  |some (.vec c _)=>((afc ids (args.map (mP id c)) k).afI id).lM id
  |_=>.fail "give up: no row"
def ajx(i:Nat)(s:Nat→List AV→RM bw):Nat→List AV→RM bw:=fun base args=>afc (acV (args.getD i (.s .aN))) args (s base)
def afd(cs:List (Nat×aF)):Nat→List AV→List AV
 |_,[]=>[]
 |j,.emp::r=>(match cs.find? (fun p=>p.1.beq j)with
  |some (_,c)=>bif c.n.beq 0 then .s (.ro c)else .emp
  |none=>.emp)::afd cs (j+1) r
 |j,a::r=>a::afd cs (j+1) r
def an5(cs:List (Nat×aF)):AV→AV
 |.agg ak=>.agg (afd cs 0 ak)
 |a=>a
def zJ(i:Nat)(cs:List (Nat×aF))(s:Nat→List AV→RM bw):Nat→List AV→RM bw:=fun base args=>s base (match args[i]? with
 |some a=>args.set i (an5 cs a)
 |none=>args)
section
variable{ρ aA:Nat→Value}{H H':aG}{G O O':Nat→Prop}{w w':World}{P:Program}{Z:a8}{X:Type}{S:Spec X}
theorem xZ{cs:List (Nat×aF)}:∀(l:List AV) (j:Nat) {vs:List Value},an ρ H O w l vs→an ρ H O w (afd cs j l) vs
 |[],_,vs,h=>h
 |a::l,j,vs,h=>by
  obtain⟨c1,c2,rfl,h1,h2⟩:=af.1 h
  have ih:=xZ (cs:=cs) l (j+1) h2
  cases a with
  |emp=>
   refine af.2 ⟨c1,c2,rfl, ?_,ih⟩
   split
   ·rw[Bool.cond_eq_ite]
    split
    ·rename_i c _ hc
     have hc:c.n=0:=by simpa using hc
     unfold aD at h1 ⊢
     obtain⟨u,rfl,a,rfl⟩:=h1
     exact⟨_,rfl,s5 hc a⟩
    ·exact h1
   ·exact h1
  |_=>exact af.2 ⟨c1,c2,rfl,h1,ih⟩
theorem agU{cs:List (Nat×aF)}{a:AV}{v:Value}(h:ab ρ H O w a v):ab ρ H O w (an5 cs a) v:=by
 cases a with
 |agg ak=>
  unfold ab at h
  obtain⟨vs,rfl,h1⟩:=h
  show ab _ _ _ _ (.agg _) _
  unfold ab
  exact⟨vs,rfl,xZ _ _ h1⟩
 |_=>exact h
theorem fV{f:FuncId}{s:Nat→List AV→RM bw}(h:uE P Z f s)(i:Nat)(cs:List (Nat×aF)):uE P Z f (zJ i cs s):=by
 intro base args H q hq hn ρ G w vs eK hz hs hd
 unfold zJ at hq
 split at hq
 ·rename_i a ha
  exact h base _ H q hq hn ρ G w vs eK hz hs (air hd ha fun v hv=>agU hv)
 ·exact h base _ H q hq hn ρ G w vs eK hz hs hd
theorem agV(hs:Sat ρ H G w){id:Nat}{c:aF}{e:TypeId}(ho:H id=some (.vec c e)){x:AV}{v:Value}(hx:ab ρ H (aK ρ H G) w x v):
 ab ρ (aC H id .dead) (aK ρ (aC H id .dead) G) w (mP id c x) v:=by
 have st:=fp (ρ:=ρ) (G:=G) (w:=w) ho
 have gone:=uf hs ho
 have ac5:∀x cs,aD ρ H (aK ρ H G) w x cs→aD ρ (aC H id .dead) (aK ρ (aC H id .dead) G) w (mO id c x) cs:=by
  intro x cs hx
  have mf:=aD.step st x cs hx
  cases x<;>try exact mf
  rename_i j
  simp only[mO,Bool.cond_eq_ite]
  split
  ·rename_i hj
   have hj:j=id:=by simpa using hj
   subst hj
   unfold aD at hx ⊢
   obtain⟨u,rfl,hu⟩:=hx
   obtain⟨a,cap,hv,hr,_⟩:=jj hs ho (by unfold ab;exact hu)
   exact⟨u,rfl,by rw[←hr];exact gone⟩
  ·exact mf
 have lR:∀(xs:List AV) cs,an ρ H (aK ρ H G) w xs cs→an ρ (aC H id .dead) (aK ρ (aC H id .dead) G) w (xs.map (mO id c)) cs:=by
  intro xs
  induction xs with
  |nil=>intro cs hx;exact ao.2 (ao.1 hx)
  |cons x xs ih=>
   intro cs hx
   obtain⟨c1,c2,rfl,h1,h2⟩:=af.1 hx
   exact af.2 ⟨c1,c2,rfl,ac5 _ _ h1,ih _ h2⟩
 have mf:=ab.step st x v hx
 cases x with
 |agg ak=>
  unfold ab at hx
  obtain⟨cs,rfl,h1⟩:=hx
  show ab _ _ _ _ (.agg _) _
  unfold ab
  exact⟨cs,rfl,lR _ _ h1⟩
 |vec j=>
  simp only[mP,Bool.cond_eq_ite]
  split
  ·rename_i hj
   have hj:j=id:=by simpa using hj
   subst hj
   obtain⟨a,cap,hv,hr,_⟩:=jj hs ho hx
   rw[←hr]
   exact aq gone
  ·exact mf
 |_=>exact mf
theorem abF{f:FuncId}{s:Nat→List AV→RM bw}(h:uE P Z f s){base:Nat}:∀(ids:List Nat) {args:List AV} {H:aG} {q:bw},(afc ids args (s base)).eval H=some q→bq q.need→
 ∀(ρ:Nat→Value) (G:Nat→Prop) (w:World) (vs:List Value),(∀j,j<q.new.length→H (base+j)=none)→ZAt Z ρ H w→Sat ρ H G w→bz ρ H (aK ρ H G) w args vs→
 Calls P f vs.toArray w fun e w'=>∃v,e=.returned v∧Good ρ H G w (cQ H q.up base q.new) (q.r base) v w'
 |[],args,H,q,hq,hn,ρ,G,w,vs,eK,hz,hs,hd=>h base args H q hq hn ρ G w vs eK hz hs hd
 |id::ids,args,H,q,hq,hn,ρ,G,w,vs,eK,hz,hs,hd=>by
  simp only[afc,RM.eval]at hq
  split at hq
  ·rename_i c el ho
   obtain⟨q',h1,rfl⟩:=RM.lP _ hq
   rw[RM.nE]at h1
   have st:=fp (ρ:=ρ) (G:=G) (w:=w) ho
   have hz1:ZAt Z ρ (aC H id .dead) w:=⟨hz.1,fun b hb hO=>hz.2 b hb (fb hO)⟩
   have amc:∀j,j<q'.new.length→aC H id .dead (base+j)=none:=fun j hj=>by
    have:=eK j hj
    simp only[aC]
    split
    ·rename_i e1;rw[e1,ho]at this;cases this
    ·exact this
   have hd1:bz ρ (aC H id .dead) (aK ρ (aC H id .dead) G) w (args.map (mP id c)) vs:=by
    clear h1 hq
    induction args generalizing vs with
    |nil=>exact(show bz _ _ _ _ [] vs by rw[aU.1 hd];unfold bz;rfl)
    |cons a args ih=>
     obtain⟨v,rest,rfl,g1,g2⟩:=aw.1 hd
     exact aw.2 ⟨v,rest,rfl,agV hs ho g1,ih _ g2⟩
   refine(abF h ids h1 hn ρ G w vs amc hz1 (hs.kill ho) hd1).mono ?_
   rintro en w' ⟨v,he,hg⟩
   refine⟨v,he, ?_⟩
   have ahP:cQ H ((id,.dead)::q'.up) base q'.new=cQ (aC H id .dead) q'.up base q'.new:=by
    funext j
    simp only[cQ,cC,aC]
    cases cC q'.up j with
    |some x=>rfl
    |none=>
     simp only[]
     by_cases hj:j=id
     ·subst hj
      have tW:¬(base≤j∧j<base+q'.new.length):=by
       rintro⟨k1,k2⟩
       have:=eK (j - base) (by simp only[];omega)
       rw[show base+(j - base)=j from by omega,ho]at this
       cases this
      simp[tW]
     ·simp[hj]
   simp only[]
   rw[ahP]
   exact Good.after st (fun b hb=>fb hb) hg
  ·simp[RM.eval]at hq
theorem ig{f:FuncId}{s:Nat→List AV→RM bw}(h:uE P Z f s)(i:Nat):uE P Z f (ajx i s):=by
 intro base args H q hq hn ρ G w vs eK hz hs hd
 exact abF h _ hq hn ρ G w vs eK hz hs hd
theorem wM{f:FuncId}{fn:Func}{aB:List AV}{L:List ae}{K:List ae→AV→Prop}(hf:P.funcs[f]? =some fn)(hb:fn.body.isSome=true)(hn:aB.length≤fn.ntmps)
 (h:∀X:Ctx,X.H=lk L→dP Z X→Safe P f X K (start fn aB L)) (ρ:Nat→Value) (G:Nat→Prop) (w:World) (vs:List Value) (hz:ZAt Z ρ (lk L) w) (hs:Sat ρ (lk L) G w)
 (hd:bz ρ (lk L) (aK ρ (lk L) G) w aB vs):Calls P f vs.toArray w (jN ⟨ρ,lk L,G,w,[]⟩ K):=by
 obtain⟨c,hb⟩:=Option.isSome_iff_exists.1 hb
 have m8:vs.length=aB.length:=by
  have:∀{aB:List AV} {vs:List Value},bz ρ (lk L) (aK ρ (lk L) G) w aB vs→vs.length=aB.length:=by
   intro aB
   induction aB with
   |nil=>intro vs h;rw[aU.1 h];rfl
   |cons a aB ih=>intro vs h;obtain⟨v,rest,rfl,_,h2⟩:=aw.1 h;simp[ih h2]
  exact this hd
 refine ir (R:=jN ⟨ρ,lk L,G,w,[]⟩ K) hf hb ?_
 have:=(h ⟨ρ,lk L,G,w,[]⟩ rfl hz).goes rfl rfl (ρ:=ρ) (a:={tmps:=vs.toArray++Array.replicate (fn.ntmps - vs.toArray.size) undef,defers:=[]}) (w:=w)
 simp only[start,hb,Option.getD_some]at this
 refine this ⟨hs, ?_,fun t=> ?_,rfl,Step.refl _ _ _ _,⟨rfl,rfl,rfl,fun _ _ _=>rfl⟩,fun x hx=>by cases hx⟩
 ·simp[m8]
 ·have e1:∀(aB:List AV) (vs:List Value),bz ρ (lk L) (aK ρ (lk L) G) w aB vs→∀t,ab ρ (lk L) (aK ρ (lk L) G) w (aB.getD t (.bm [])) (vs.getD t undef):=by
   intro aB
   induction aB with
   |nil=>intro vs h t;rw[aU.1 h];simp only[List.getD,List.getElem?_nil,Option.getD_none];exact cu
   |cons a aB ih=>
    intro vs h t
    obtain⟨v,rest,rfl,h1,h2⟩:=aw.1 h
    cases t with
    |zero=>simpa using h1
    |succ t=>simpa using ih rest h2 t
  have h1:=e1 _ _ hd t
  simp only[List.getD_eq_getElem?_getD,List.getElem?_append,List.getElem?_replicate,Array.getD_eq_getD_getElem?,Array.getElem?_append,List.getElem?_toArray,Array.getElem?_replicate,List.size_toArray]at h1 ⊢
  rw[m8]
  split
  ·rename_i ht
   have hv:vs[t]? =some vs[t]:=List.getElem?_eq_getElem (by omega)
   have ha:aB[t]? =some aB[t]:=List.getElem?_eq_getElem ht
   rw[hv,ha]at h1 ⊢
   exact h1
  ·split
   ·exact cu
   ·unfold ab;trivial
def wN{X:Type}(S:Spec X)(x:X)(L:List ae)(r:AV):Prop:=
 ∃(N:Norm) (vs os:List AV),r=.bm vs∧(S.heap x).length≤N.m∧N.run ⟨vs,L,[],{}⟩=some ⟨os,S.fi x,[],{}⟩∧∀(ρ:Nat→Value) (H:aG) (O:Nat→Prop) (w:World) (us:List Value),bz ρ H O w os us→ab ρ H O w (S.out x) (.tuple us.toArray)
theorem afe:∀{os:List AV} {us:List Value},os.length=us.length→(∀t,ab ρ H O w (os.getD t (.s .aN)) (us.getD t undef))→bz ρ H O w os us
 |[],[],_,_=>by unfold bz;rfl
 |[],_::_,h,_=>by simp at h
 |_::_,[],h,_=>by simp at h
 |a::os,u::us,hl,h=>aw.2 ⟨u,us,rfl,h 0,afe (by simpa using hl) fun t=>h (t+1)⟩
theorem fy{f:FuncId}{fn:Func}(hf:P.funcs[f]? =some fn)(hb:fn.body.isSome=true)(hn:∀x,(S.args x).length≤fn.ntmps)
 (h:∀x,bq (S.pre x)→∀X:Ctx,X.H=lk (S.heap x)→dP Z X→Safe P f X (wN S x) (start fn (S.args x) (S.heap x))):ke P Z f S:=by
 intro x lg ρ G w vs hz hs hd
 refine(wM hf hb (hn x) (h x lg) ρ G w vs hz hs hd).mono ?_
 rintro e w' ⟨v,rfl,L,r,⟨N,ts,os,rfl,hm,hN,hwk⟩,lj,g1,g2,g3,g4⟩
 refine⟨v,rfl, ?_⟩
 unfold ab at g2
 obtain⟨us,rfl,g2⟩:=g2
 have hlen:us.length=ts.length:=by
  have:∀{aB:List AV} {vs:List Value},bz lj (fun id=>L[id]?) (aK lj (fun id=>L[id]?) G) w' aB vs→vs.length=aB.length:=by
   intro aB
   induction aB with
   |nil=>intro vs h;rw[aU.1 h];rfl
   |cons a aB ih=>intro vs h;obtain⟨v,rest,rfl,_,h2⟩:=aw.1 h;simp[ih h2]
  exact this g2
 have r0:bM ⟨ρ,lk (S.heap x),G,w,[]⟩ lj ⟨ts,L⟩ {tmps:=us.toArray,defers:=[]} w':=by
  refine⟨g1,by simp[hlen],fun t=> ?_,rfl,g3,g4,fun x hx=>by cases hx⟩
  clear hlen hN
  have g2':bz lj (St.look ⟨ts,L⟩) (aK lj (St.look ⟨ts,L⟩) G) w' ts us:=g2
  show ab lj (St.look ⟨ts,L⟩) (aK lj (St.look ⟨ts,L⟩) G) w' (ts.getD t (.s .aN)) (us.toArray.getD t undef)
  generalize St.look ⟨ts,L⟩=H1 at g2' ⊢
  clear g2 hwk
  induction ts generalizing us t with
  |nil=>simp only[List.getD,List.getElem?_nil,Option.getD_none];unfold ab;trivial
  |cons a ts ih=>
   obtain⟨u,rest,rfl,k1,k2⟩:=aw.1 g2'
   cases t with
   |zero=>simpa using k1
   |succ t=>simpa[Array.getD_eq_getD_getElem?]using ih _ t k2
 have h0:∀id,N.m≤id→(⟨ρ,lk (S.heap x),G,w,[]⟩:Ctx).H id=none:=fun id de=>by simp[lk];omega
 have fin:∃ρ4,bM ⟨ρ,lk (S.heap x),G,w,[]⟩ ρ4 ⟨os,S.fi x⟩ {tmps:=us.toArray,defers:=[]} w':=by
  unfold Norm.run at hN
  split at hN
  ·rename_i t1 L1 h1
   simp only[]at hN
   split at hN
   ·rename_i t2 L2 h2
    simp only[Option.some.injEq,bx.mk.injEq,and_true]at hN
    obtain⟨rfl,rfl⟩:=hN
    obtain⟨lj,r1⟩:=bM.fv h0 h1 (bM.dL N.er r0)
    obtain⟨fU,r2⟩:=bM.fJ N.oE r1
    obtain⟨ρ3,r3⟩:=bM.fK N.cells r2
    obtain⟨ρ4,r4⟩:=bM.fv h0 h2 r3
    exact⟨ρ4,r4⟩
   ·cases hN
  ·cases hN
 obtain⟨ρ4,r4⟩:=fin
 refine⟨ρ4,r4.sat,hwk _ _ _ _ _ (afe ?_ fun t=> ?_),r4.from_,r4.iM⟩
 ·have:=r4.size;simpa using this
 ·have:=r4.den t
  have e:(us.toArray.getD t undef)=us.getD t undef:=by simp[Array.getD_eq_getD_getElem?,List.getD_eq_getElem?_getD]
  rw[←e]
  exact this
theorem kg{S:Spec X}{x:X}{L:List ae}{vs os:List AV}{h:List ae}(N:Norm)(e:N.run ⟨vs,L,[],{}⟩=some ⟨os,h,[],{}⟩)(hm:(S.heap x).length≤N.m){os':List AV}(hw:ov os os')(ho:S.out x=.bm os')(hh:S.fi x=h):wN S x L (.bm vs):=
 ⟨N,vs,os,rfl,hm,by rw[hh];exact e,fun ρ H O w us hd=>by rw[ho];unfold ab;exact⟨us,rfl,hw.den hd⟩⟩
theorem ov.same:∀(os:List AV),ov os os
 |[]=>.nil
 |a::os=>.cons (.one (.refl a)) (ov.same os)
end
end Go.Sx
namespace Ts
open Go Go.Sx Go.Proofs Lf
def mT:List AV→RM (XT×List Nat)
 |[.ptr id 0]=>.look id fun o=>match o with
  |some (.own [.ptr d 0,rt,.ints .u64 16 fr,.ints .u64 16 fs,.ints .u64 16 gn] _)=>(Ds.mAs [.ptr d 0]).bind fun((th,m,fu),σ)=>match rt.dd with
   |some (_,_,root)=>.ret ((th,m,fu,root,fr,fs,gn),id::σ)
   |none=>.fail "no root"
  |_=>.fail "no tree's cells"
 |_=>.fail "no tree"
def aqc:AV→Option (Bool×List En×List Br)
 |.agg [l,.s (.ro (.ad [.str,.str] es)),.s (.ro (.ad [.str,.int .i64] bs))]=>match l.iP with
  |some (_,b)=>some (b,es,bs)
  |none=>none
 |_=>none
def mTN:List AV→RM ((XT×Bool×List En×List Br)×List Nat)
 |[t,x]=>(mT [t]).bind fun(X,σ)=>match aqc x with
  |some (l,es,bs)=>.ret ((X,l,es,bs),σ)
  |none=>.fail "no node"
 |_=>.fail "no tree and node"
abbrev an6(s:Nat→List AV→RM bw):=ajx 1 (zJ 1 [(1,.ad cE []),(2,.ad cB [])] s)
abbrev aqd:=an6 (dJ asc mTN)
abbrev auh:=bW [ei] [ei,ei,bo] (fun((_,es,bs,()),())=>[aY es,aZ bs]) (fun((l,es,bs,()),())=>((bI l es bs,aX l es bs,a6 l es bs,()),(bI l es bs,cF l es bs,cN l es bs,()),spC l es bs,()))
def an7:aH:=[(81,an3),(82,anM),(83,aqd),(84,auh)]
theorem aui(th:Th)(m:As)(fu root:Int)(fr fs gn:Ws)(l:Bool)(es:List En)(bs:List Br):run P an7.sum Tryd.f66 [] (start Tryd.f66 [.ptr 0 0,avN l es bs] (hT th m fu root fr fs gn))=
 Tree.need (ax ((↑es.length:Int)+(↑bs.length:Int)))
 (.ite ((↑es.length:Int)+(↑bs.length:Int)==0) (.ret [.own [.ptr 1 0,.s (.int .i64 root),.ints .u64 16 fr,.ints .u64 16 fs,.ints .u64 16 gn] 70,.own [.vec 2,.ag 3,.s (.int .i64 fu)] 96,.vec (.ad [.arr .u8 64] th) 138,.map (.arr .u8 64) m,.own [.s (.bool l),.s (.ro (.ad [.str,.str] es)),.s (.ro (.ad [.str,.int .i64] bs))] 73] (.bm [.emp,.s (.bc .i64 0)]))
   (.need (bs.length≤1000)
     (.need (aY es)
       (.need (aZ (aa bs))
         (.ite (decide (ba es (aa bs)≤254)) (.need (bK (some [AV.ptr 0 0,.agg [.s (.bool l),.s (.ro (.ad [.str,.str] es)),.s (.ro (.ad [.str,.int .i64] (aa bs)))]])) (.need (bK (some [ae.own [.ptr 1 0,.s (.int .i64 root),.ints .u64 16 fr,.ints .u64 16 fs,.ints .u64 16 gn] 70,.own [.vec 2,.ag 3,.s (.int .i64 fu)] 96,.vec (.ad [.arr .u8 64] th) 138,.map (.arr .u8 64) m])) (.need (Ds.bR th m fu) (.need (Bx.okW fr) (.need ((l=true→(0:Nat)<es.length)∧(l=false→(0:Nat)<(aa bs).length)) (.need (aY es) (.need (aZ (aa bs)) (.ret [.own [.ptr 1 0,.s (.int .i64 root),.ints .u64 16 (bD th m fu fr fs l es (aa bs)).snd.snd.fst,.ints .u64 16 (bD th m fu fr fs l es (aa bs)).snd.snd.snd.fst,.ints .u64 16 gn] 70,.own [.vec 2,.ag 3,.s (.int .i64 (bD th m fu fr fs l es (aa bs)).snd.fst)] 96,.vec (.ad [.arr .u8 64] th) 138,.map (.arr .u8 64) (bD th m fu fr fs l es (aa bs)).fst,.own [.s (.bool l),.s (.ro (.ad [.str,.str] es)),.s (.ro (.ad [.str,.int .i64] (aa bs)))] 73,.own [.s (.str (bD th m fu fr fs l es (aa bs)).snd.snd.snd.snd.fst.fst),.s (.int .i64 (bD th m fu fr fs l es (aa bs)).snd.snd.snd.snd.fst.snd.fst)] 79,.vec (.ad [.str,.int .i64] [((bD th m fu fr fs l es (aa bs)).snd.snd.snd.snd.fst.fst,(bD th m fu fr fs l es (aa bs)).snd.snd.snd.snd.fst.snd.fst,())]) 79] (.bm [.vec 6,.s (.int .i64 (bD th m fu fr fs l es (aa bs)).snd.snd.snd.snd.snd)])))))))))
           (.need (aY es)
             (.need (aZ (aa bs))
               (.ite (spC l es (aa bs) !=0) (.ret [.own [.ptr 1 0,.s (.int .i64 root),.ints .u64 16 fr,.ints .u64 16 fs,.ints .u64 16 gn] 70,.own [.vec 2,.ag 3,.s (.int .i64 fu)] 96,.vec (.ad [.arr .u8 64] th) 138,.map (.arr .u8 64) m,.own [.s (.bool l),.s (.ro (.ad [.str,.str] es)),.s (.ro (.ad [.str,.int .i64] (aa bs)))] 73,.vec (.ad [.str,.str] (aX l es (aa bs))) 34,.vec (.ad [.str,.int .i64] (a6 l es (aa bs))) 79,.vec (.ad [.str,.str] (cF l es (aa bs))) 34,.vec (.ad [.str,.int .i64] (cN l es (aa bs))) 79,.own [.s (.bool (bI l es (aa bs))),.vec 5,.vec 6] 73,.own [.s (.bool (bI l es (aa bs))),.vec 7,.vec 8] 73] (.bm [.emp,.s (.int .i64 (spC l es (aa bs)))]))
                 (.need (bK (some [AV.ptr 0 0,.agg [.s (.bool (bI l es (aa bs))),.s (.ro (.ad [.str,.str] (aX l es (aa bs)))),.s (.ro (.ad [.str,.int .i64] (a6 l es (aa bs))))]]))
                   (.need (bK (some [ae.own [.ptr 1 0,.s (.int .i64 root),.ints .u64 16 fr,.ints .u64 16 fs,.ints .u64 16 gn] 70,.own [.vec 2,.ag 3,.s (.int .i64 fu)] 96,.vec (.ad [.arr .u8 64] th) 138,.map (.arr .u8 64) m]))
                     (.need (Ds.bR th m fu)
                       (.need (Bx.okW fr)
                         (.need ((bI l es (aa bs)=true→(0:Nat)<(aX l es (aa bs)).length)∧(bI l es (aa bs)=false→(0:Nat)<(a6 l es (aa bs)).length))
                           (.need (aY (aX l es (aa bs)))
                             (.need (aZ (a6 l es (aa bs)))
                               (.ite ((bD th m fu fr fs (bI l es (aa bs)) (aX l es (aa bs)) (a6 l es (aa bs))).snd.snd.snd.snd.snd !=0) (.ret [.own [.ptr 1 0,.s (.int .i64 root),.ints .u64 16 (bD th m fu fr fs (bI l es (aa bs)) (aX l es (aa bs)) (a6 l es (aa bs))).snd.snd.fst,.ints .u64 16 (bD th m fu fr fs (bI l es (aa bs)) (aX l es (aa bs)) (a6 l es (aa bs))).snd.snd.snd.fst,.ints .u64 16 gn] 70,.own [.vec 2,.ag 3,.s (.int .i64 (bD th m fu fr fs (bI l es (aa bs)) (aX l es (aa bs)) (a6 l es (aa bs))).snd.fst)] 96,.vec (.ad [.arr .u8 64] th) 138,.map (.arr .u8 64) (bD th m fu fr fs (bI l es (aa bs)) (aX l es (aa bs)) (a6 l es (aa bs))).fst,.own [.s (.bool l),.s (.ro (.ad [.str,.str] es)),.s (.ro (.ad [.str,.int .i64] (aa bs)))] 73,.dead,.dead,.vec (.ad [.str,.str] (cF l es (aa bs))) 34,.vec (.ad [.str,.int .i64] (cN l es (aa bs))) 79,.own [.s (.bool (bI l es (aa bs))),.vec 5,.vec 6] 73,.own [.s (.bool (bI l es (aa bs))),.vec 7,.vec 8] 73,.own [.s (.str (bD th m fu fr fs (bI l es (aa bs)) (aX l es (aa bs)) (a6 l es (aa bs))).snd.snd.snd.snd.fst.fst),.s (.int .i64 (bD th m fu fr fs (bI l es (aa bs)) (aX l es (aa bs)) (a6 l es (aa bs))).snd.snd.snd.snd.fst.snd.fst)] 79] (.bm [.emp,.s (.int .i64 (bD th m fu fr fs (bI l es (aa bs)) (aX l es (aa bs)) (a6 l es (aa bs))).snd.snd.snd.snd.snd)]))
                                 (.need (bK (some [AV.ptr 0 0,.agg [.s (.bool (bI l es (aa bs))),.s (.ro (.ad [.str,.str] (cF l es (aa bs)))),.s (.ro (.ad [.str,.int .i64] (cN l es (aa bs))))]]))
                                   (.need (bK (some [ae.own [.ptr 1 0,.s (.int .i64 root),.ints .u64 16 (bD th m fu fr fs (bI l es (aa bs)) (aX l es (aa bs)) (a6 l es (aa bs))).snd.snd.fst,.ints .u64 16 (bD th m fu fr fs (bI l es (aa bs)) (aX l es (aa bs)) (a6 l es (aa bs))).snd.snd.snd.fst,.ints .u64 16 gn] 70,.own [.vec 2,.ag 3,.s (.int .i64 (bD th m fu fr fs (bI l es (aa bs)) (aX l es (aa bs)) (a6 l es (aa bs))).snd.fst)] 96,.vec (.ad [.arr .u8 64] th) 138,.map (.arr .u8 64) (bD th m fu fr fs (bI l es (aa bs)) (aX l es (aa bs)) (a6 l es (aa bs))).fst]))
                                     (.need (Ds.bR th (bD th m fu fr fs (bI l es (aa bs)) (aX l es (aa bs)) (a6 l es (aa bs))).fst (bD th m fu fr fs (bI l es (aa bs)) (aX l es (aa bs)) (a6 l es (aa bs))).snd.fst)
                                       (.need (Bx.okW (bD th m fu fr fs (bI l es (aa bs)) (aX l es (aa bs)) (a6 l es (aa bs))).snd.snd.fst)
                                         (.need ((bI l es (aa bs)=true→(0:Nat)<(cF l es (aa bs)).length)∧(bI l es (aa bs)=false→(0:Nat)<(cN l es (aa bs)).length))
                                           (.need (aY (cF l es (aa bs)))
                                             (.need (aZ (cN l es (aa bs)))
                                               (.ret
                                                 [.own [.ptr 1 0,.s (.int .i64 root),.ints .u64 16 (bD th (bD th m fu fr fs (bI l es (aa bs)) (aX l es (aa bs)) (a6 l es (aa bs))).fst (bD th m fu fr fs (bI l es (aa bs)) (aX l es (aa bs)) (a6 l es (aa bs))).snd.fst (bD th m fu fr fs (bI l es (aa bs)) (aX l es (aa bs)) (a6 l es (aa bs))).snd.snd.fst (bD th m fu fr fs (bI l es (aa bs)) (aX l es (aa bs)) (a6 l es (aa bs))).snd.snd.snd.fst (bI l es (aa bs)) (cF l es (aa bs)) (cN l es (aa bs))).snd.snd.fst,.ints .u64 16 (bD th (bD th m fu fr fs (bI l es (aa bs)) (aX l es (aa bs)) (a6 l es (aa bs))).fst (bD th m fu fr fs (bI l es (aa bs)) (aX l es (aa bs)) (a6 l es (aa bs))).snd.fst (bD th m fu fr fs (bI l es (aa bs)) (aX l es (aa bs)) (a6 l es (aa bs))).snd.snd.fst (bD th m fu fr fs (bI l es (aa bs)) (aX l es (aa bs)) (a6 l es (aa bs))).snd.snd.snd.fst (bI l es (aa bs)) (cF l es (aa bs)) (cN l es (aa bs))).snd.snd.snd.fst,.ints .u64 16 gn] 70,.own [.vec 2,.ag 3,.s (.int .i64 (bD th (bD th m fu fr fs (bI l es (aa bs)) (aX l es (aa bs)) (a6 l es (aa bs))).fst (bD th m fu fr fs (bI l es (aa bs)) (aX l es (aa bs)) (a6 l es (aa bs))).snd.fst (bD th m fu fr fs (bI l es (aa bs)) (aX l es (aa bs)) (a6 l es (aa bs))).snd.snd.fst (bD th m fu fr fs (bI l es (aa bs)) (aX l es (aa bs)) (a6 l es (aa bs))).snd.snd.snd.fst (bI l es (aa bs)) (cF l es (aa bs)) (cN l es (aa bs))).snd.fst)] 96,.vec (.ad [.arr .u8 64] th) 138,.map (.arr .u8 64) (bD th (bD th m fu fr fs (bI l es (aa bs)) (aX l es (aa bs)) (a6 l es (aa bs))).fst (bD th m fu fr fs (bI l es (aa bs)) (aX l es (aa bs)) (a6 l es (aa bs))).snd.fst (bD th m fu fr fs (bI l es (aa bs)) (aX l es (aa bs)) (a6 l es (aa bs))).snd.snd.fst (bD th m fu fr fs (bI l es (aa bs)) (aX l es (aa bs)) (a6 l es (aa bs))).snd.snd.snd.fst (bI l es (aa bs)) (cF l es (aa bs)) (cN l es (aa bs))).fst,.own [.s (.bool l),.s (.ro (.ad [.str,.str] es)),.s (.ro (.ad [.str,.int .i64] (aa bs)))] 73,.dead,.dead,.dead,.dead,.own [.s (.bool (bI l es (aa bs))),.vec 5,.vec 6] 73,.own [.s (.bool (bI l es (aa bs))),.vec 7,.vec 8] 73,.own [.s (.str (bD th m fu fr fs (bI l es (aa bs)) (aX l es (aa bs)) (a6 l es (aa bs))).snd.snd.snd.snd.fst.fst),.s (.int .i64 (bD th m fu fr fs (bI l es (aa bs)) (aX l es (aa bs)) (a6 l es (aa bs))).snd.snd.snd.snd.fst.snd.fst)] 79,
                                                   .own [.s (.str (bD th (bD th m fu fr fs (bI l es (aa bs)) (aX l es (aa bs)) (a6 l es (aa bs))).fst (bD th m fu fr fs (bI l es (aa bs)) (aX l es (aa bs)) (a6 l es (aa bs))).snd.fst (bD th m fu fr fs (bI l es (aa bs)) (aX l es (aa bs)) (a6 l es (aa bs))).snd.snd.fst (bD th m fu fr fs (bI l es (aa bs)) (aX l es (aa bs)) (a6 l es (aa bs))).snd.snd.snd.fst (bI l es (aa bs)) (cF l es (aa bs)) (cN l es (aa bs))).snd.snd.snd.snd.fst.fst),.s (.int .i64 (bD th (bD th m fu fr fs (bI l es (aa bs)) (aX l es (aa bs)) (a6 l es (aa bs))).fst (bD th m fu fr fs (bI l es (aa bs)) (aX l es (aa bs)) (a6 l es (aa bs))).snd.fst (bD th m fu fr fs (bI l es (aa bs)) (aX l es (aa bs)) (a6 l es (aa bs))).snd.snd.fst (bD th m fu fr fs (bI l es (aa bs)) (aX l es (aa bs)) (a6 l es (aa bs))).snd.snd.snd.fst (bI l es (aa bs)) (cF l es (aa bs)) (cN l es (aa bs))).snd.snd.snd.snd.fst.snd.fst)] 79,.vec (.ad [.str,.int .i64] [((bD th m fu fr fs (bI l es (aa bs)) (aX l es (aa bs)) (a6 l es (aa bs))).snd.snd.snd.snd.fst.fst,(bD th m fu fr fs (bI l es (aa bs)) (aX l es (aa bs)) (a6 l es (aa bs))).snd.snd.snd.snd.fst.snd.fst,()),((bD th (bD th m fu fr fs (bI l es (aa bs)) (aX l es (aa bs)) (a6 l es (aa bs))).fst (bD th m fu fr fs (bI l es (aa bs)) (aX l es (aa bs)) (a6 l es (aa bs))).snd.fst (bD th m fu fr fs (bI l es (aa bs)) (aX l es (aa bs)) (a6 l es (aa bs))).snd.snd.fst (bD th m fu fr fs (bI l es (aa bs)) (aX l es (aa bs)) (a6 l es (aa bs))).snd.snd.snd.fst (bI l es (aa bs)) (cF l es (aa bs)) (cN l es (aa bs))).snd.snd.snd.snd.fst.fst,(bD th (bD th m fu fr fs (bI l es (aa bs)) (aX l es (aa bs)) (a6 l es (aa bs))).fst (bD th m fu fr fs (bI l es (aa bs)) (aX l es (aa bs)) (a6 l es (aa bs))).snd.fst (bD th m fu fr fs (bI l es (aa bs)) (aX l es (aa bs)) (a6 l es (aa bs))).snd.snd.fst (bD th m fu fr fs (bI l es (aa bs)) (aX l es (aa bs)) (a6 l es (aa bs))).snd.snd.snd.fst (bI l es (aa bs)) (cF l es (aa bs)) (cN l es (aa bs))).snd.snd.snd.snd.fst.snd.fst,())]) 79]
                                                 (.bm [.vec 13,.s (.int .i64 (bD th (bD th m fu fr fs (bI l es (aa bs)) (aX l es (aa bs)) (a6 l es (aa bs))).fst (bD th m fu fr fs (bI l es (aa bs)) (aX l es (aa bs)) (a6 l es (aa bs))).snd.fst (bD th m fu fr fs (bI l es (aa bs)) (aX l es (aa bs)) (a6 l es (aa bs))).snd.snd.fst (bD th m fu fr fs (bI l es (aa bs)) (aX l es (aa bs)) (a6 l es (aa bs))).snd.snd.snd.fst (bI l es (aa bs)) (cF l es (aa bs)) (cN l es (aa bs))).snd.snd.snd.snd.snd)]))))))))))))))))))))))))):=by kernel_rfl
abbrev zK(l:Bool)(es:List En)(bs:List Br):Prop:=(l=true→bs=[])∧(l=false→es=[])
abbrev sWs:Spec (XT×Bool×List En×List Br):=⟨fun(_,l,es,bs)=>[.ptr 0 0,avN l es bs],fun((th,m,fu,root,fr,fs,gn),_)=>hT th m fu root fr fs gn,
 fun((th,m,fu,_,fr,_,_),l,es,bs)=>[Ds.bR th m fu,Bx.okW fr,zK l es bs,aY es,aZ bs],
 fun((th,m,fu,root,fr,fs,gn),l,es,bs)=>hT th (bh th m fu fr fs l es bs).1 (bh th m fu fr fs l es bs).2.1 root (bh th m fu fr fs l es bs).2.2.1 (bh th m fu fr fs l es bs).2.2.2.1 gn++[.vec (.ad cB (bh th m fu fr fs l es bs).2.2.2.2.1) Lf.eB],
 fun((th,m,fu,_,fr,fs,_),l,es,bs)=>.bm [.vec 4,bQ (bh th m fu fr fs l es bs).2.2.2.2.2]⟩
theorem zL{th:Th}{m:As}{fu:Int}{fr fs:Ws}{l:Bool}{es:List En}{bs:List Br}(hd:Ds.bR th m fu)(hf:Bx.okW fr):Ds.bR th (bD th m fu fr fs l es bs).1 (bD th m fu fr fs l es bs).2.1∧Bx.okW (bD th m fu fr fs l es bs).2.2.1:=by
 have gd:=Ds.anD (n:=Bx.br fr 0) (s:=cU l es (aa bs)) hd
 unfold bD
 split
 ·exact⟨hd,hf⟩
 ·split
  ·exact⟨hd,hf⟩
  ·split
   ·exact⟨gd,hf⟩
   ·exact⟨gd,(Bx.ky hf _).1⟩
theorem x6(bs:List Br):(aa bs).length=bs.length:=by cases bs<;>rfl
theorem amd{l:Bool}{es:List En}{bs:List Br}(ok:di l es bs=true):(bI l es bs=true→0<(aX l es bs).length∧0<(cF l es bs).length)∧(bI l es bs=false→0<(a6 l es bs).length∧0<(cN l es bs).length):=by
 have ok':=ok
 simp only[di,Bool.and_eq_true,decide_eq_true_eq]at ok'
 obtain⟨hm,h2⟩:=ok'
 obtain⟨m1,m2,_,_⟩:=dA hm
 have b1:=ni (aE es bs) (es.length+bs.length - 1) (by omega)
 have b2:=nL (aE es bs) (es.length+bs.length - 1)
 have c:0<dG es bs∧dG es bs≤es.length+bs.length - 1:=⟨b1,b2⟩
 simp only[bI,aX,cF,a6,cN,ok,if_true,Bool.true_and,List.length_take,List.length_drop]
 refine⟨fun e=> ?_,fun e=> ?_⟩
 ·have:=m1 e
  subst this
  simp only[List.length_nil]at *
  omega
 ·have:=m2 e
  subst this
  simp only[List.length_nil]at *
  omega
theorem ajy:an7.Ok P Bx.cn:=aH.Ok.cons afa.uF (aH.Ok.cons aeQ.sum (aH.Ok.cons (ig (fV (uQ.sum mTN) 1 _) 1) (aH.Ok.cons ai0.sum aH.Ok.nil)))
theorem jC:ke P Bx.cn 66 sWs:=by
 refine fy Tryd.func66 (by kernel_rfl) (fun x=>Nat.le_of_ble_eq_true (by kernel_rfl)) ?_
 rintro⟨⟨(th:Th),(m:As),(fu:Int),(root:Int),(fr:Ws),(fs:Ws),(gn:Ws)⟩,(l:Bool),(es:List En),(bs:List Br)⟩ ⟨(hd:Ds.bR th m fu),(hf:Bx.okW fr),⟨(hl1:l=true→bs=[]),(xi:l=false→es=[])⟩,(he:aY es),(hb:aZ bs),_⟩ X hX hz
 have fin:∀{w:Wrs},bh th m fu fr fs l es bs=w→hT th (bh th m fu fr fs l es bs).1 (bh th m fu fr fs l es bs).2.1 root (bh th m fu fr fs l es bs).2.2.1 (bh th m fu fr fs l es bs).2.2.2.1 gn++[.vec (.ad cB (bh th m fu fr fs l es bs).2.2.2.2.1) Lf.eB]=hT th w.1 w.2.1 root w.2.2.1 w.2.2.2.1 gn++[.vec (.ad cB w.2.2.2.2.1) Lf.eB]∧
  AV.bm [.vec 4,bQ (bh th m fu fr fs l es bs).2.2.2.2.2]=.bm [.vec 4,bQ w.2.2.2.2.2]:=fun e=>by rw[e];exact⟨rfl,rfl⟩
 have hbb:=su hb
 refine Ds.eH hz hX (by intro y hy;cases hy) ajy Tryd.func66 (aui th m fu root fr fs gn l es bs) ⟨?_,fun h=> ?_,fun h=>⟨hb.1,he,hbb,fun h2=>⟨rfl,rfl,hd,hf, ?_,he,hbb, ?_⟩,fun h2=>⟨he,hbb,fun h3=> ?_,fun h3=> ?_⟩⟩⟩
 ·have:=he.1;have:=hb.1;exact⟨by omega,by omega⟩
 ·have h:(es.length:Int)+bs.length=0:=by simpa using h
  obtain⟨f1,f2⟩:=fin (w:=(m,fu,fr,fs,[],0)) (by unfold bh;rw[if_pos (by omega)])
  exact kg ⟨[(0,.ad cB [],Lf.eB)],[0,1],4,[]⟩ rfl (Nat.le_refl _) (ov.same _) f2 f1
 ·have h:¬((es.length:Int)+bs.length=0):=by simpa using h
  rw[x6]
  refine⟨fun e=>Nat.pos_of_ne_zero fun h0=>h ?_,fun e=>Nat.pos_of_ne_zero fun h0=>h ?_⟩
  ·rw[hl1 e,h0];rfl
  ·rw[xi e,h0];rfl
 ·have h:¬((es.length:Int)+bs.length=0):=by simpa using h
  have h2:=of_decide_eq_true h2
  obtain⟨f1,f2⟩:=fin (w:=((bD th m fu fr fs l es (aa bs)).1,(bD th m fu fr fs l es (aa bs)).2.1,(bD th m fu fr fs l es (aa bs)).2.2.1,(bD th m fu fr fs l es (aa bs)).2.2.2.1,[(bD th m fu fr fs l es (aa bs)).2.2.2.2.1],(bD th m fu fr fs l es (aa bs)).2.2.2.2.2)) (by unfold bh;rw[if_neg (by omega),if_pos h2])
  exact kg ⟨[],[0,1],4,[]⟩ rfl (Nat.le_refl _) (ov.same _) f2 f1
 ·have h:¬((es.length:Int)+bs.length=0):=by simpa using h
  have h2:=of_decide_eq_false h2
  have h3:spC l es (aa bs)≠0:=by simpa using h3
  obtain⟨f1,f2⟩:=fin (w:=(m,fu,fr,fs,[],spC l es (aa bs))) (by unfold bh;rw[if_neg (by omega),if_neg h2,if_pos h3])
  exact kg ⟨[(0,.ad cB [],Lf.eB)],[0,1],4,[]⟩ rfl (Nat.le_refl _) (ov.same _) f2 f1
 ·have h:¬((es.length:Int)+bs.length=0):=by simpa using h
  have h2:=of_decide_eq_false h2
  have h3:spC l es (aa bs)=0:=by simpa using h3
  have ok:=ap8 (l:=l) (es:=es) (bs:=aa bs) (by rw[h3];rfl)
  obtain⟨q1,q2,q3,q4,_,_,_,q5,q6,_,_⟩:=rI ok he hbb
  have hmn:cT l es (aa bs)=true:=by
   simp only[di,Bool.and_eq_true]at ok
   exact ok.1
  have zZ:bI l es (aa bs)=l:=by unfold bI;rw[ok,Bool.true_and]
  obtain⟨p1,p2⟩:=amd ok
  have n1:(bI l es (aa bs)=true→0<(aX l es (aa bs)).length)∧(bI l es (aa bs)=false→0<(a6 l es (aa bs)).length):=⟨fun e=>(p1 e).1,fun e=>(p2 e).1⟩
  have n2:(bI l es (aa bs)=true→0<(cF l es (aa bs)).length)∧(bI l es (aa bs)=false→0<(cN l es (aa bs)).length):=⟨fun e=>(p1 e).2,fun e=>(p2 e).2⟩
  obtain⟨w1,w2⟩:=zL (fs:=fs) (l:=bI l es (aa bs)) (es:=aX l es (aa bs)) (bs:=a6 l es (aa bs)) hd hf
  refine⟨rfl,rfl,hd,hf,n1,q1,q2,fun h4=> ?_,fun h4=>⟨rfl,rfl,w1,w2,n2,q3,q4, ?_⟩⟩
  ·have h4:(bD th m fu fr fs (bI l es (aa bs)) (aX l es (aa bs)) (a6 l es (aa bs))).2.2.2.2.2≠0:=by simpa using h4
   obtain⟨f1,f2⟩:=fin (w:=((bD th m fu fr fs (bI l es (aa bs)) (aX l es (aa bs)) (a6 l es (aa bs))).1,(bD th m fu fr fs (bI l es (aa bs)) (aX l es (aa bs)) (a6 l es (aa bs))).2.1,(bD th m fu fr fs (bI l es (aa bs)) (aX l es (aa bs)) (a6 l es (aa bs))).2.2.1,(bD th m fu fr fs (bI l es (aa bs)) (aX l es (aa bs)) (a6 l es (aa bs))).2.2.2.1,[],(bD th m fu fr fs (bI l es (aa bs)) (aX l es (aa bs)) (a6 l es (aa bs))).2.2.2.2.2)) (by unfold bh;rw[if_neg (by omega),if_neg h2,if_neg (by rw[h3];simp),if_pos h4])
   exact kg ⟨[(0,.ad cB [],Lf.eB)],[0,1],4,[]⟩ rfl (Nat.le_refl _) (ov.same _) f2 f1
  ·have h4:¬(bD th m fu fr fs (bI l es (aa bs)) (aX l es (aa bs)) (a6 l es (aa bs))).2.2.2.2.2≠0:=by simpa using h4
   obtain⟨f1,f2⟩:=fin (w:=two (bD th m fu fr fs (bI l es (aa bs)) (aX l es (aa bs)) (a6 l es (aa bs))) (bD th (bD th m fu fr fs (bI l es (aa bs)) (aX l es (aa bs)) (a6 l es (aa bs))).1 (bD th m fu fr fs (bI l es (aa bs)) (aX l es (aa bs)) (a6 l es (aa bs))).2.1 (bD th m fu fr fs (bI l es (aa bs)) (aX l es (aa bs)) (a6 l es (aa bs))).2.2.1 (bD th m fu fr fs (bI l es (aa bs)) (aX l es (aa bs)) (a6 l es (aa bs))).2.2.2.1 (bI l es (aa bs)) (cF l es (aa bs)) (cN l es (aa bs)))) (by unfold bh;rw[if_neg (by omega),if_neg h2,if_neg (by rw[h3];simp),if_neg h4])
   exact kg ⟨[],[0,1],4,[]⟩ rfl (Nat.le_refl _) (ov.same _) f2 f1
end Ts
