/- Lemmas: L5, L6, L7, Lm, R4, R6, R7, R8, SxRoom, R9, R10, Bx1, Bx2, Bx3, Bx4, Bx5, Bx6, M0, Bx7, L7r, SxWeak, N1, N2, N3, N4, Rp, Hq, M1, N5, SxTup, N6. -/
import Derived.Test.YtcjldfgkonfocaaDoorProg
import Derived.Lib.TrailingZeros
import Derived.Shelf.Spec.TrailingZeros
import Derived.Test.YtcjldfgkonfocaaDoorRows
import Derived.WalkKit
import Derived.WalkSpells
import Derived.WalkLawsBesides
import Derived.Test.YtcjldfgkonfocaaDoorPC
namespace Lf
open Go Go.Sx Go.Proofs
def zl(s:ByteArray):List Int:=s.data.toList.map fun b=>(b.toNat:Int)
def xI(s:ByteArray):List Int:=IntKind.u8.wrap (s.size:Int)::zl s
abbrev arC:Type:=ByteArray×List Int
def abc:Spec arC:=⟨fun x=>[.s (.str x.1),.ptr 0 0],fun x=>[.own [.vec 1] 58,.vec (.ints .u8 x.2) 5],fun x=>[x.2.length≤100000000,x.1.size≤1000000],fun x=>[.own [.vec 2] 58,.dead,.vec (.ints .u8 (x.2++xI x.1)) 5],fun _=>.bh []⟩
def anG:List AV→RM (arC×List Nat)
 |[.s (.str s),.ptr id 0]=>.look id fun
  |some (.own [.vec j] _)=>.look j fun
   |some (.vec (.ints .u8 zs) _)=>.ret ((s,zs),[id,j])
   |_=>.fail "enc1: no bytes"
  |_=>.fail "enc1: no box"
 |_=>.fail "enc1"
theorem aiP(s:ByteArray)(zs:List Int):run P kJ.sum Tryd.f104 [] (start Tryd.f104 [.s (.str s),.ptr 0 0] [.own [.vec 1] 58,.vec (.ints .u8 zs) 5])=
 Tree.need ((zs.length+(1:Nat))*(1:Nat)≤(140737488355328:Nat)) (Tree.need (((zs++[IntKind.u8.wrap (↑s.size:Int)]).length+(List.map (fun(b:UInt8)=>(↑b.toNat:Int)) s.data.toList).length)*(1:Nat)≤(140737488355328:Nat)) (Tree.ret [ad.own [AV.vec (4:Nat)] (58:Nat),ad.dead,ad.vec (aF.ints IntKind.u8 [IntKind.u8.wrap (↑s.size:Int)]) (5:Nat),ad.dead,ad.vec (aF.ints IntKind.u8 (zs++[IntKind.u8.wrap (↑s.size:Int)]++List.map (fun(b:UInt8)=>(↑b.toNat:Int)) s.data.toList)) (5:Nat)] (AV.bh []))):=by kernel_rfl
abbrev apx:=bU [ej] [ch] (fun _=>[]) (fun((l,es,bs,()),())=>(cW l es bs,()))
abbrev anH:=bU [ej] [ch] (fun((_,es,bs,()),())=>[a6 es,a7 bs]) (fun((_,es,bs,()),())=>(decide (bd es bs≤254),()))
def u5:aG:=[(76,apx),(82,anH),(104,dm abc anG)]
def aeN:List (Nat×Norm):=[(8,⟨[],[1,4],0,[]⟩),(10,⟨[],[1,4,5,25,26,27],0,[]⟩),(16,⟨[],[4,5,41,42,43],0,[]⟩)]
noncomputable def anI(l:Bool)(es:List En)(bs:List Br)(zs:List Int):bz:=⟨sl 64 [(1,.ptr 0 0),(4,.ptr 1 0)],[obN l es bs 73,.own [.vec 2] 58,.vec (.ints .u8 zs) 5],hr Tryd.f96 8,{}⟩
noncomputable def anJ(l:Bool)(es:List En)(bs:List Br)(zs:List Int)(i:Int):bz:=⟨sl 64 [(1,.ptr 0 0),(4,.ptr 1 0),(5,.fn 104 [.ptr 1 0]),(25,.s (.ro (.ae cE es))),(26,.s (.int .i64 (es.length:Int))),(27,.s (.int .i64 i))],[obN l es bs 73,.own [.vec 2] 58,.vec (.ints .u8 zs) 5],hd Tryd.f96 10,{}⟩
noncomputable def anK(bs:List Br)(zs:List Int)(i:Int):bz:=⟨sl 64 [(4,.ptr 0 0),(5,.fn 104 [.ptr 0 0]),(41,.s (.ro (.ae cB bs))),(42,.s (.int .i64 (bs.length:Int))),(43,.s (.int .i64 i))],[.own [.vec 1] 58,.vec (.ints .u8 zs) 5],hd Tryd.f96 16,{}⟩
theorem alw(l:Bool)(es:List En)(bs:List Br):run P u5.sum Tryd.f96 aeN (start Tryd.f96 [avN l es bs] [])=
 Tree.ite (!cW l es bs) (.ret [.own [.s (.bool l),.s (.ro (.ae [.str,.str] es)),.s (.ro (.ae [.str,.int .i64] bs))] 73] (.bh [.s (.str ByteArray.empty),.s (.aZ .i64 4)])) (.need (a6 es) (.need (a7 bs) (.ite (!decide (bd es bs≤254)) (.ret [.own [.s (.bool l),.s (.ro (.ae [.str,.str] es)),.s (.ro (.ae [.str,.int .i64] bs))] 73] (.bh [.s (.str ByteArray.empty),.s (.aZ .i64 40)])) (.ite l (.need ((0:Int)≤0) (.need ((0:Int)<(↑(1:Nat):Int)) (.at (.mk (sl 64 [(1,.ptr 0 0),(4,.ptr 1 0)]) [.own [.s (.bool l),.s (.ro (.ae [.str,.str] es)),.s (.ro (.ae [.str,.int .i64] bs))] 73,.own [.vec 2] 58,.vec (.ints .u8 ([(2:Int)].set 0 1)) 5] (hr Tryd.f96 8) (.mk none false 0 [] 0))))) (.at (.mk (sl 64 [(1,.ptr 0 0),(4,.ptr 1 0)]) [.own [.s (.bool l),.s (.ro (.ae [.str,.str] es)),.s (.ro (.ae [.str,.int .i64] bs))] 73,.own [.vec 2] 58,.vec (.ints .u8 [(2:Int)]) 5] (hr Tryd.f96 8) (.mk none false 0 [] 0))))))):=by kernel_rfl
theorem alx(l:Bool)(es:List En)(bs:List Br)(zs:List Int):run P u5.sum Tryd.f96 aeN (anI l es bs zs)=
 Tree.at (.mk (sl 64 [(1,.ptr 0 0),(4,.ptr 1 0),(5,.fn 104 [.ptr 1 0]),(25,.s (.ro (.ae [.str,.str] es))),(26,.s (.int .i64 (↑es.length:Int))),(27,.s (.int .i64 0))]) [.own [.s (.bool l),.s (.ro (.ae [.str,.str] es)),.s (.ro (.ae [.str,.int .i64] bs))] 73,.own [.vec 2] 58,.vec (.ints .u8 zs) 5] (hd Tryd.f96 10) (.mk none false 0 [] 0)):=by kernel_rfl
theorem abd(l:Bool)(es:List En)(bs:List Br)(zs:List Int)(i:Int):run P u5.sum Tryd.f96 aeN (anJ l es bs zs i)=
 Tree.ite (decide (i<(↑es.length:Int))) (.need ((0:Int)≤i) (.need (i<(↑es.length:Int)) (.need (bu (some [AV.s (.str (es.getD i.toNat (CL.d [.str,.str])).fst),.ptr 0 0])) (.need (bu (some [ad.own [.vec 1] 58,.vec (.ints .u8 zs) 5])) (.need (zs.length≤100000000) (.need (ByteArray.size (es.getD i.toNat (CL.d [.str,.str])).fst≤1000000) (.need (bu (some [AV.s (.str (es.getD i.toNat (CL.d [.str,.str])).snd.fst),.ptr 0 0])) (.need (bu (some [ad.own [.vec 1] 58,.vec (.ints .u8 (zs++xI (es.getD i.toNat (CL.d [.str,.str])).fst)) 5])) (.need ((zs++xI (es.getD i.toNat (CL.d [.str,.str])).fst).length≤100000000) (.need (ByteArray.size (es.getD i.toNat (CL.d [.str,.str])).snd.fst≤1000000) (.need (aD (i+1)) (.at (.mk (sl 64 [(1,.ptr 0 0),(4,.ptr 1 0),(5,.fn 104 [.ptr 1 0]),(25,.s (.ro (.ae [.str,.str] es))),(26,.s (.int .i64 (↑es.length:Int))),(27,.s (.int .i64 (i+1)))]) [.own [.s (.bool l),.s (.ro (.ae [.str,.str] es)),.s (.ro (.ae [.str,.int .i64] bs))] 73,.own [.vec 2] 58,.vec (.ints .u8 (zs++xI (es.getD i.toNat (CL.d [.str,.str])).fst++xI (es.getD i.toNat (CL.d [.str,.str])).snd.fst)) 5] (hd Tryd.f96 10) (.mk none false 0 [] 0)))))))))))))) (.at (.mk (sl 64 [(4,.ptr 0 0),(5,.fn 104 [.ptr 0 0]),(41,.s (.ro (.ae [.str,.int .i64] bs))),(42,.s (.int .i64 (↑bs.length:Int))),(43,.s (.int .i64 0))]) [.own [.vec 1] 58,.vec (.ints .u8 zs) 5] (hd Tryd.f96 16) (.mk none false 0 [] 0))):=by kernel_rfl
theorem abe(bs:List Br)(zs:List Int)(i:Int):run P u5.sum Tryd.f96 aeN (anK bs zs i)=
 Tree.ite (decide (i<(↑bs.length:Int))) (Tree.need ((0:Int)≤i) (Tree.need (i<(↑bs.length:Int)) (Tree.need (bu (some [AV.s (SV.str (bs.getD i.toNat (CL.d [CK.str,CK.int IntKind.i64])).fst),AV.ptr (0:Nat) (0:Nat)])) (Tree.need (bu (some [ad.own [AV.vec (1:Nat)] (58:Nat),ad.vec (aF.ints IntKind.u8 zs) (5:Nat)])) (Tree.need (zs.length≤(100000000:Nat)) (Tree.need (ByteArray.size (bs.getD i.toNat (CL.d [CK.str,CK.int IntKind.i64])).fst≤(1000000:Nat)) (Tree.need ((0:Int)≤(8:Int)) (Tree.need (((zs++xI (bs.getD i.toNat (CL.d [CK.str,CK.int IntKind.i64])).fst).length+(2:Nat))*(1:Nat)≤(140737488355328:Nat)) (Tree.need (aD (i+(1:Int))) (Tree.at (bz.mk (sl (64:Nat) [((4:Nat),AV.ptr (0:Nat) (0:Nat)),((5:Nat),AV.fn (104:Nat) [AV.ptr (0:Nat) (0:Nat)]),((41:Nat),AV.s (SV.ro (aF.ae [CK.str,CK.int IntKind.i64] bs))),((42:Nat),AV.s (SV.int IntKind.i64 (↑bs.length:Int))),((43:Nat),AV.s (SV.int IntKind.i64 (i+(1:Int))))]) [ad.own [AV.vec (1:Nat)] (58:Nat),ad.vec (aF.ints IntKind.u8 (zs++xI (bs.getD i.toNat (CL.d [CK.str,CK.int IntKind.i64])).fst++[IntKind.u8.wrap (Int.fdiv (bs.getD i.toNat (CL.d [CK.str,CK.int IntKind.i64])).snd.fst ((2:Int)^min (Int.toNat (8:Int)) IntKind.i64.bits)),IntKind.u8.wrap (bs.getD i.toNat (CL.d [CK.str,CK.int IntKind.i64])).snd.fst])) (5:Nat)] (hd Tryd.f96 (16:Nat)) (nB.mk none false (0:Nat) [] (0:Nat))))))))))))) (Tree.ret [ad.own [AV.vec (1:Nat)] (58:Nat),ad.vec (aF.ints IntKind.u8 zs) (5:Nat)] (AV.bh [AV.s (SV.str (aO zs)),AV.s (SV.aZ IntKind.i64 (0:Int))])):=by kernel_rfl
theorem eG{Z:ba}{X:Ctx}{t:aG}{f:FuncId}{fn:Func}{ns:List (Nat×Norm)}{c:bz}{tr:Tree}{K:List ad→AV→Prop}{L:List ad}(hz:dM Z X)(hX:X.H=lk L)(hm:∀x∈ns,L.length≤x.2.m)(hT:t.Ok P Z)(hf:P.funcs[f]? =some fn)
 (e:run P t.sum fn ns c=tr) (h:tr.aQ K (Safe P f X K)):Safe P f X K c:=b8 (aG.sOk hT) hz mixed hf (fun x hx id dd=>by rw[hX];exact List.getElem?_eq_none (Nat.le_trans (hm x hx) dd)) e h
theorem aly{Z:ba}:js P Z 104 abc:=by
 refine aP Tryd.func104 (by kernel_rfl) (fun x=>Nat.le_of_ble_eq_true (by kernel_rfl)) ?_
 rintro⟨(s:ByteArray),(zs:List Int)⟩ ⟨(h1:zs.length≤100000000),(h2:s.size≤1000000),_⟩ X hX hz
 have hs:s.data.toList.length=s.size:=Array.length_toList
 refine eG hz hX (by simp) aG.Ok.nil Tryd.func104 (aiP s zs) ⟨by omega,by simp only[List.length_append,List.length_map,List.length_singleton];omega,⟨[],[0],2,[]⟩,Nat.le_refl _, ?_⟩
 have e:zs++xI s=zs++[IntKind.u8.wrap (s.size:Int)]++zl s:=by simp[xI]
 show Norm.run _ _=some ⟨[AV.bh []],[.own [.vec 2] 58,.dead,.vec (.ints .u8 (zs++xI s)) 5],[],{}⟩
 rw[e]
 kernel_rfl
def nb(x:En):List Int:=xI x.1++xI x.2.1
def sM(x:Br):List Int:=xI x.1++[IntKind.u8.wrap (Int.fdiv x.2.1 (2^min (Int.toNat 8) IntKind.i64.bits)),IntKind.u8.wrap x.2.1]
def wF(l:Bool):List Int:=[if l=true then 1 else 2]
def nc(l:Bool)(es:List En)(bs:List Br):List Int:=wF l++es.flatMap nb++bs.flatMap sM
def abf(l:Bool)(es:List En)(bs:List Br):Bool:=cW l es bs&&decide (bd es bs≤254)
def cX(l:Bool)(es:List En)(bs:List Br):ByteArray:=if abf l es bs=true then aO (nc l es bs)else ByteArray.empty
def gI(l:Bool)(es:List En)(bs:List Br):Int:=if cW l es bs=true then(if bd es bs≤254 then 0 else 40)else 4
theorem l4(s:ByteArray):(xI s).length=s.size+1:=by
 have hs:s.data.toList.length=s.size:=Array.length_toList
 simp[xI,zl,hs]
theorem xJ{α β:Type}{l:List α}{k:Nat}{d:α}(f:α→List β)(h:k<l.length):(l.take k).flatMap f++f (l.getD k d)=(l.take (k+1)).flatMap f:=by
 rw[←lA (d:=d) h,List.flatMap_append];simp
theorem qj{α β:Type}(f:α→List β)(m:Nat):∀{l:List α},(∀x∈l,(f x).length≤m)→(l.flatMap f).length≤m*l.length
 |[],_=>by simp
 |x::l,h=>by
  have h1:=h x (by simp)
  have h2:=qj f m (l:=l) (fun y hy=>h y (by simp[hy]))
  simp only[List.flatMap_cons,List.length_append,List.length_cons,Nat.mul_add]
  omega
theorem abg{x:En}(h:x.1.size≤1000∧x.2.1.size≤1000):(nb x).length≤2002:=by
 simp only[nb,List.length_append,l4];omega
theorem aiQ{x:Br}(h:x.1.size≤1000):(sM x).length≤1003:=by
 simp only[sM,List.length_append,l4,List.length_cons,List.length_nil];omega
theorem jy{Z:ba}:u5.Ok P Z:=aG.Ok.cons adg.sum (aG.Ok.cons aeM.sum (aG.Ok.cons (aly.sum anG) aG.Ok.nil))
theorem agC{Z:ba}:dg P Z 96 [ej] [dG,bo] (fun((_,es,bs,()),())=>[a6 es,a7 bs]) (fun((l,es,bs,()),())=>(cX l es bs,gI l es bs,())):=by
 refine aw Tryd.func96 (by kernel_rfl) (by kernel_rfl) ?_
 rintro⟨⟨(l:Bool),(es:List En),(bs:List Br),⟨⟩⟩,⟨⟩⟩ _ ⟨(he:a6 es),(hb:a7 bs),_⟩ X hX hz
 have he1:=he.1
 have hb1:=hb.1
 show Safe P 96 X (Ends [dG,bo] (cX l es bs,gI l es bs,())) _
 have second:cX l es bs=aO (nc l es bs)→gI l es bs=0→∀(n k:Nat),k+n=bs.length→Safe P 96 X (Ends [dG,bo] (cX l es bs,gI l es bs,())) (anK bs (wF l++es.flatMap nb++(bs.take k).flatMap sM) (k:Int)):=by
  intro hS hN n
  induction n with
  |zero=>
   intro k hk
   refine go hz hX jy Tryd.func96 (abe bs _ k) ⟨fun h=>absurd (of_decide_eq_true h) (by omega),fun h=> ?_⟩
   rw[List.take_of_length_le (by omega),hS,hN]
   exact ze
  |succ n ih=>
   intro k hk
   have bE:=u4 hb k
   have hl1:(es.flatMap nb).length≤2002*es.length:=qj nb 2002 (fun x hx=>abg (he.2 x hx))
   have sV:((bs.take k).flatMap sM).length≤1003*(bs.take k).length:=qj sM 1003 (fun x hx=>aiQ (hb.2 x (List.mem_of_mem_take hx)))
   have hl3:(bs.take k).length≤1000:=by rw[List.length_take];omega
   have hl:(wF l++es.flatMap nb++(bs.take k).flatMap sM).length≤4000000:=by
    simp only[List.length_append,wF,List.length_singleton];omega
   refine go hz hX jy Tryd.func96 (abe bs _ k) ?_
   simp only[Int.toNat_natCast]
   refine⟨fun h=>⟨by omega,by omega,trivial,trivial,by omega, ?_,by decide, ?_,⟨by omega,by omega⟩, ?_⟩,fun h=>absurd (of_decide_eq_false h) (by omega)⟩
   ·show(bs.getD k dB).1.size≤1000000
    omega
   ·rw[List.length_append,l4]
    show(_+((bs.getD k dB).1.size+1)+2)*1≤_
    omega
   ·have:=ih (k+1) (by omega)
    rw[←xJ (d:=dB) sM (by omega),←List.append_assoc]at this
    rw[List.append_assoc (wF l++es.flatMap nb++(bs.take k).flatMap sM)]
    exact this
 have first:cX l es bs=aO (nc l es bs)→gI l es bs=0→∀(n k:Nat),k+n=es.length→Safe P 96 X (Ends [dG,bo] (cX l es bs,gI l es bs,())) (anJ l es bs (wF l++(es.take k).flatMap nb) (k:Int)):=by
  intro hS hN n
  induction n with
  |zero=>
   intro k hk
   refine go hz hX jy Tryd.func96 (abd l es bs _ k) ⟨fun h=>absurd (of_decide_eq_true h) (by omega),fun h=> ?_⟩
   rw[List.take_of_length_le (by omega)]
   have:=second hS hN bs.length 0 (by omega)
   simp only[List.take_zero,List.flatMap_nil,List.append_nil]at this
   exact this
  |succ n ih=>
   intro k hk
   obtain⟨hs1,hs2⟩:=uZ he k
   have sV:((es.take k).flatMap nb).length≤2002*(es.take k).length:=qj nb 2002 (fun x hx=>abg (he.2 x (List.mem_of_mem_take hx)))
   have hl3:(es.take k).length≤1000:=by rw[List.length_take];omega
   have hl:(wF l++(es.take k).flatMap nb).length≤4000000:=by
    simp only[List.length_append,wF,List.length_singleton];omega
   refine go hz hX jy Tryd.func96 (abd l es bs _ k) ?_
   simp only[Int.toNat_natCast]
   refine⟨fun h=>⟨by omega,by omega,trivial,trivial,by omega, ?_,trivial,trivial, ?_, ?_,⟨by omega,by omega⟩, ?_⟩,fun h=>absurd (of_decide_eq_false h) (by omega)⟩
   ·show(es.getD k dE).1.size≤1000000
    omega
   ·rw[List.length_append,l4]
    show _+((es.getD k dE).1.size+1)≤_
    omega
   ·show(es.getD k dE).2.1.size≤1000000
    omega
   ·have:=ih (k+1) (by omega)
    rw[←xJ (d:=dE) nb (by omega),←List.append_assoc]at this
    rw[List.append_assoc (wF l++(es.take k).flatMap nb)]
    exact this
 refine go hz hX jy Tryd.func96 (alw l es bs) ⟨fun h=> ?_,fun h=>⟨he,hb,fun h2=> ?_,fun h2=> ?_⟩⟩
 ·have h:cW l es bs=false:=by simpa using h
  have e1:cX l es bs=ByteArray.empty:=by simp[cX,abf,h]
  have e2:gI l es bs=4:=by simp[gI,h]
  rw[e1,e2];exact ze
 ·have h:cW l es bs=true:=by simpa using h
  have h2:¬bd es bs≤254:=by simpa using h2
  have e1:cX l es bs=ByteArray.empty:=by simp[cX,abf,h,h2]
  have e2:gI l es bs=40:=by simp[gI,h,h2]
  rw[e1,e2];exact ze
 ·have h:cW l es bs=true:=by simpa using h
  have h2:bd es bs≤254:=by simpa using h2
  have e1:cX l es bs=aO (nc l es bs):=by simp[cX,abf,h,h2]
  have e2:gI l es bs=0:=by simp[gI,h,h2]
  have st:Safe P 96 X (Ends [dG,bo] (cX l es bs,gI l es bs,())) (anI l es bs (wF l)):=by
   refine go hz hX jy Tryd.func96 (alx l es bs _) ?_
   have:=first e1 e2 es.length 0 (by omega)
   simp only[List.take_zero,List.flatMap_nil,List.append_nil]at this
   exact this
  refine⟨fun h3=>⟨by decide,by decide, ?_⟩,fun h3=> ?_⟩
  ·subst h3;exact st
  ·subst h3;exact st
end Lf
namespace Lf
open Go Go.Sx Go.Proofs
theorem aiR{bs:List Br}(h:gq bs=true){i:Nat}(hi:i+1<bs.length):slt (bs.getD i dB).1 (bs.getD (i+1) dB).1=true:=by
 have:=cN.1 h (i+1) hi
 simp only[okB,Bool.not_eq_true',Bool.or_eq_false_iff,Bool.and_eq_false_iff,decide_eq_false_iff_not,Bool.not_eq_false']at this
 have h2:=this.2
 rcases h2 with h2|h2
 ·omega
 ·simpa using h2
theorem aiS{es:List En}(h:jt es=true){i:Nat}(hi:i+1<es.length):slt (es.getD i dE).1 (es.getD (i+1) dE).1=true:=by
 have:=cN.1 h (i+1) hi
 simp only[okE,Bool.not_eq_true',Bool.or_eq_false_iff,Bool.and_eq_false_iff,decide_eq_false_iff_not,Bool.not_eq_false']at this
 have h2:=this.2
 rcases h2 with h2|h2
 ·omega
 ·simpa using h2
theorem sn{ks:List ByteArray}(h:∀i,i+1<ks.length→slt (ks.getD i ByteArray.empty) (ks.getD (i+1) ByteArray.empty)=true):iv ks:=by
 intro i j kY hj
 induction j with
 |zero=>omega
 |succ j ih=>
  by_cases he:i=j
  ·subst he;exact h i hj
  ·exact cv (ih (by omega) (by omega)) (h j hj)
theorem apy{bs:List Br}(h:gq bs=true):iv (mc bs):=sn fun i hi=>by
 rw[List.length_map]at hi
 rw[cq bs agz dB,cq bs agz dB]
 exact aiR h hi
theorem arD{es:List En}(h:jt es=true):iv (bA es):=sn fun i hi=>by
 rw[List.length_map]at hi
 rw[cq es oZ dE,cq es oZ dE]
 exact aiS h hi
theorem dD{l:Bool}{es:List En}{bs:List Br}(h:cW l es bs=true):(l=true→bs=[])∧(l=false→es=[])∧jt es=true∧gq bs=true:=by
 simp only[cW,Bool.and_eq_true,Bool.not_eq_true',Bool.or_eq_false_iff,Bool.and_eq_false_iff,decide_eq_false_iff_not]at h
 obtain⟨⟨⟨h1,h2⟩,h3⟩,h4⟩:=h
 refine⟨fun hl=> ?_,fun hl=> ?_,h3,h4⟩
 ·subst hl
  rcases h1 with h1|h1
  ·cases h1
  ·exact List.eq_nil_of_length_eq_zero (by omega)
 ·subst hl
  rcases h2 with h2|h2
  ·cases h2
  ·exact List.eq_nil_of_length_eq_zero (by omega)
theorem adl:∀{ks:List ByteArray} {key:ByteArray} {t:Nat},t<b9 ks key→slt (ks.getD t ByteArray.empty) key=true
 |[],key,t,h=>by simp[b9]at h
 |k::ks,key,t,h=>by
  simp only[b9,List.takeWhile]at h
  split at h
  ·rename_i hk
   cases t with
   |zero=>simpa using hk
   |succ t=>
    simp only[List.length_cons]at h
    simpa using adl (ks:=ks) (key:=key) (t:=t) (by simp only[b9];omega)
  ·simp at h
theorem adm:∀{ks:List ByteArray} {key:ByteArray},b9 ks key<ks.length→slt (ks.getD (b9 ks key) ByteArray.empty) key=false
 |[],key,h=>by simp at h
 |k::ks,key,h=>by
  by_cases hk:slt k key=true
  ·have e:b9 (k::ks) key=b9 ks key+1:=by simp[b9,List.takeWhile,hk]
   rw[e]at h ⊢
   simpa using adm (ks:=ks) (key:=key) (by simpa using h)
  ·have hk:slt k key=false:=by simpa using hk
   have e:b9 (k::ks) key=0:=by simp[b9,List.takeWhile,hk]
   rw[e]
   simpa using hk
theorem aiT{ks:List ByteArray}{key:ByteArray}(hs:iv ks){t:Nat}(h1:b9 ks key≤t)(h2:t<ks.length):slt (ks.getD t ByteArray.empty) key=false:=by
 have h:=adm (ks:=ks) (key:=key) (by omega)
 by_cases he:t=b9 ks key
 ·rw[he];exact h
 ·have h3:=hs (b9 ks key) t (by omega) h2
  cases h4:slt (ks.getD t ByteArray.empty) key
  ·rfl
  ·rw[cv h3 h4]at h;cases h
theorem ju{ks:List ByteArray}{key:ByteArray}:je ks key=true↔b9 ks key<ks.length∧ks.getD (b9 ks key) ByteArray.empty=key:=by
 simp only[je,decide_eq_true_eq]
 constructor
 ·intro h
  have h1:=(List.getElem?_eq_some_iff.1 h).1
  exact⟨h1,by simp[List.getD,h]⟩
 ·rintro⟨h1,h2⟩
  rw[bg h1]at h2
  rw[List.getElem?_eq_getElem h1,h2]
theorem u6{ks:List ByteArray}{key:ByteArray}(hs:iv ks)(h0:ks≠[]):∃p:Nat,imax 0 (if je ks key=true then(b9 ks key:Int)else(b9 ks key:Int) - 1)=(p:Int)∧p<ks.length∧
 (p=0∨slt key (ks.getD p ByteArray.empty)=false)∧(∀t,p<t→t<ks.length→slt key (ks.getD t ByteArray.empty)=true):=by
 have hlen:0<ks.length:=by
  cases ks with
  |nil=>exact absurd rfl h0
  |cons k ks=>simp
 have hle:=uX ks key
 have up:∀t,b9 ks key≤t→t<ks.length→ks.getD t ByteArray.empty≠key→slt key (ks.getD t ByteArray.empty)=true:=fun t h1 h2 h3=>uN (aiT hs h1 h2) h3
 by_cases hk:je ks key=true
 ·obtain⟨h1,h2⟩:=ju.1 hk
  rw[if_pos hk]
  refine⟨b9 ks key,by unfold imax;split<;>omega,h1,.inr (by rw[h2];exact dC key),fun t ht htl=> ?_⟩
  rw[←h2]
  have:=hs (b9 ks key) t ht htl
  rw[h2]at this ⊢
  exact this
 ·rw[if_neg hk]
  have cg:∀t,b9 ks key≤t→t<ks.length→ks.getD t ByteArray.empty≠key:=by
   intro t h1 h2 h3
   by_cases he:t=b9 ks key
   ·subst he;exact hk (ju.2 ⟨h2,h3⟩)
   ·have h4:=hs (b9 ks key) t (by omega) h2
    rw[h3]at h4
    rw[adm (by omega)]at h4
    cases h4
  rcases Nat.eq_zero_or_pos (b9 ks key)with hz|hz
  ·refine⟨0,by rw[hz];rfl,hlen,.inl rfl,fun t ht htl=>up t (by omega) htl (cg t (by omega) htl)⟩
  ·refine⟨b9 ks key - 1,by unfold imax;split<;>omega,by omega,.inr (rr (adl (by omega))),fun t ht htl=>up t (by omega) htl (cg t (by omega) htl)⟩
end Lf
namespace Lf
open Go Go.Sx Go.Proofs
def arE(a b:List En):Bool:=decide (a=b)
def arF(a b:List Br):Bool:=decide (a=b)
def jZ(k:Int)(s:ByteArray):ByteArray:=if k>(s.size:Int)then ByteArray.empty else s.extract 0 k.toNat
def so(k:Int)(s:ByteArray):Bool:= !decide (k>(s.size:Int))
def om(k:Int)(s:ByteArray):ByteArray:=if k>(s.size:Int)then s else s.extract k.toNat s.size
def u7:Spec (Int×ByteArray):=⟨fun x=>[.s (.int .i64 x.1),.ptr 0 0],fun x=>[.own [.s (.str x.2)] 9],fun x=>[0≤x.1],fun x=>[.own [.s (.str (om x.1 x.2))] 9],fun x=>.bh [.s (.str (jZ x.1 x.2)),.s (.bool (so x.1 x.2))]⟩
def aeO:List AV→RM ((Int×ByteArray)×List Nat)
 |[.s (.int .i64 k),.ptr id 0]=>.look id fun
  |some (.own [.s (.str s)] _)=>.ret ((k,s),[id])
  |_=>.fail "take: no text"
 |[.s (.aZ .i64 k),.ptr id 0]=>.look id fun
  |some (.own [.s (.str s)] _)=>.ret ((k,s),[id])
  |_=>.fail "take: no text"
 |_=>.fail "take"
theorem aiU(k:Int)(s:ByteArray):run P kJ.sum Tryd.f74 [] (start Tryd.f74 [.s (.int .i64 k),.ptr 0 0] [.own [.s (.str s)] 9])=
 Tree.ite (decide (k>(↑s.size:Int))) (.ret [.own [.s (.str s)] 9] (.bh [.s (.str ByteArray.empty),.s (.aI false)])) (.need ((0:Int)≤0) (.need ((0:Int)≤k) (.need (k≤(↑s.size:Int)) (.need ((0:Int)≤k) (.need (k≤(↑s.size:Int)) (.need ((↑s.size:Int)≤(↑s.size:Int)) (.ret [.own [.s (.str (s.extract k.toNat (↑s.size:Int).toNat))] 9] (.bh [.s (.str (s.extract (Int.toNat 0) k.toNat)),.s (.aI true)])))))))):=by kernel_rfl
def rdK(s:ByteArray):Int:=aW (jZ 1 s) 0
def xK(s:ByteArray):ByteArray:=if so 1 s=true then jZ (rdK s) (om 1 s)else ByteArray.empty
def wG(s:ByteArray):Bool:=so 1 s&&so (rdK s) (om 1 s)
def gQ(s:ByteArray):ByteArray:=if so 1 s=true then om (rdK s) (om 1 s)else om 1 s
def abh:Spec ByteArray:=⟨fun _=>[.ptr 0 0],fun s=>[.own [.fn 74 [.ptr 1 0]] 122,.own [.s (.str s)] 9],fun _=>[],fun s=>[.own [.fn 74 [.ptr 1 0]] 122,.own [.s (.str (gQ s))] 9],fun s=>.bh [.s (.str (xK s)),.s (.bool (wG s))]⟩
def anL:List AV→RM (ByteArray×List Nat)
 |[.ptr id 0]=>.look id fun
  |some (.own [.fn _ [.ptr j 0]] _)=>.look j fun
   |some (.own [.s (.str s)] _)=>.ret (s,[id,j])
   |_=>.fail "text: no text"
  |_=>.fail "text: no take"
 |_=>.fail "text"
def aeP:aG:=[(74,dm u7 aeO)]
theorem aiV(s:ByteArray):run P aeP.sum Tryd.f75 [] (start Tryd.f75 [.ptr 0 0] [.own [.fn 74 [.ptr 1 0]] 122,.own [.s (.str s)] 9])=
 Tree.need (bu (some [AV.s (.int .i64 1),.ptr 0 0])) (.need (bu (some [ad.own [.s (.str s)] 9])) (.need ((0:Int)≤1) (.ite (!so 1 s) (.ret [.own [.fn 74 [.ptr 1 0]] 122,.own [.s (.str (om 1 s))] 9] (.bh [.s (.str ByteArray.empty),.s (.aI false)])) (.need ((0:Int)≤0) (.need ((0:Int)<(↑(jZ 1 s).size:Int)) (.need (aD (aW (jZ 1 s) (Int.toNat 0))) (.need (bu (some [AV.s (.int .i64 (aW (jZ 1 s) (Int.toNat 0))),.ptr 0 0])) (.need (bu (some [ad.own [.s (.str (om 1 s))] 9])) (.need ((0:Int)≤aW (jZ 1 s) (Int.toNat 0)) (.ret [.own [.fn 74 [.ptr 1 0]] 122,.own [.s (.str (om (aW (jZ 1 s) (Int.toNat 0)) (om 1 s)))] 9] (.bh [.s (.str (jZ (aW (jZ 1 s) (Int.toNat 0)) (om 1 s))),.s (.bool (so (aW (jZ 1 s) (Int.toNat 0)) (om 1 s)))]))))))))))):=by kernel_rfl
def vd:aG:=[(74,dm u7 aeO),(75,dm abh anL),(76,apx)]
def aeQ:List (Nat×Norm):=[(7,⟨[],[1,2],0,[]⟩),(11,⟨[],[1,2,4,5,6],0,[(2,1,false,.ae cE [],eE),(2,2,false,.ae cB [],eB)]⟩),(22,⟨[],[1,2,4,5,6,8],0,[]⟩)]
def obZ:ad:=.own [.s (.bool false),.emp,.emp] 73
noncomputable def anM(s:ByteArray):bz:=⟨sl 93 [(1,.ptr 0 0),(2,.ptr 1 0)],[.own [.s (.str s)] 9,obZ],hr Tryd.f57 7,{}⟩
noncomputable def arG(s:ByteArray)(l:Bool)(es:List En)(bs:List Br):bz:=⟨sl 93 [(1,.ptr 0 0),(2,.ptr 1 0),(4,.ptr 2 0),(5,.ptr 3 0),(6,.fn 75 [.ptr 3 0])],[.own [.s (.str s)] 9,obZ,.own [.s (.bool l),.vec 4,.vec 5] 73,.own [.fn 74 [.ptr 0 0]] 122,.vec (.ae cE es) eE,.vec (.ae cB bs) eB],hd Tryd.f57 11,{}⟩
noncomputable def aiW(s:ByteArray)(l:Bool)(es:List En)(bs:List Br)(is:Bool):bz:=⟨sl 93 [(1,.ptr 0 0),(2,.ptr 1 0),(4,.ptr 2 0),(5,.ptr 3 0),(6,.fn 75 [.ptr 3 0]),(8,.s (.bool is))],[.own [.s (.str s)] 9,obZ,.own [.s (.bool l),.vec 4,.vec 5] 73,.own [.fn 74 [.ptr 0 0]] 122,.vec (.ae cE es) eE,.vec (.ae cB bs) eB],hr Tryd.f57 22,{}⟩
theorem alz(s:ByteArray):run P vd.sum Tryd.f57 aeQ (start Tryd.f57 [.s (.str s)] [])=
 Tree.ite (decide ((↑s.size:Int)>254)) (.ret [.own [.s (.str s)] 9,.own [.s (.aI false),.emp,.emp] 73] (.bh [.agg [.s (.aI false),.emp,.emp],.s (.aZ .i64 40)])) (.ite (decide (s=ByteArray.empty)) (.ret [.own [.s (.str s)] 9,.own [.s (.aI false),.emp,.emp] 73] (.bh [.agg [.s (.aI false),.emp,.emp],.s (.aZ .i64 8)])) (.need ((0:Int)≤0) (.need ((0:Int)<(↑s.size:Int)) (.ite (aW s (Int.toNat 0) !=1) (.need ((0:Int)≤0) (.need ((0:Int)<(↑s.size:Int)) (.ite (aW s (Int.toNat 0) !=2) (.ret [.own [.s (.str s)] 9,.own [.s (.aI false),.emp,.emp] 73] (.bh [.agg [.s (.aI false),.emp,.emp],.s (.aZ .i64 4)])) (.at (.mk (sl 93 [(1,.ptr 0 0),(2,.ptr 1 0)]) [.own [.s (.str s)] 9,.own [.s (.bool false),.emp,.emp] 73] (hr Tryd.f57 7) (.mk none false 0 [] 0)))))) (.at (.mk (sl 93 [(1,.ptr 0 0),(2,.ptr 1 0)]) [.own [.s (.str s)] 9,.own [.s (.bool false),.emp,.emp] 73] (hr Tryd.f57 7) (.mk none false 0 [] 0))))))):=by kernel_rfl
theorem aiX(s:ByteArray):run P vd.sum Tryd.f57 aeQ (anM s)=
 Tree.need ((0:Int)≤0) (.need ((0:Int)<(↑s.size:Int)) (.need ((0:Int)≤1) (.need ((1:Int)≤(↑s.size:Int)) (.need ((↑s.size:Int)≤(↑s.size:Int)) (.at (.mk (sl 93 [(1,.ptr 0 0),(2,.ptr 1 0),(4,.ptr 2 0),(5,.ptr 3 0),(6,.fn 75 [.ptr 3 0])]) [.own [.s (.str (s.extract (Int.toNat 1) (↑s.size:Int).toNat))] 9,.own [.s (.bool false),.emp,.emp] 73,.own [.s (.bool (aW s (Int.toNat 0)==1)),.vec 4,.vec 5] 73,.own [.fn 74 [.ptr 0 0]] 122,.vec (.ae [.str,.str] []) 34,.vec (.ae [.str,.int .i64] []) 79] (hd Tryd.f57 11) (.mk none false 0 [] 0))))))):=by kernel_rfl
theorem aeR(s:ByteArray)(l:Bool)(es:List En)(bs:List Br):run P vd.sum Tryd.f57 aeQ (arG s l es bs)=
 Tree.ite (!decide (s=ByteArray.empty))
 (Tree.need (bu (some [AV.ptr (0:Nat) (0:Nat)]))
   (Tree.need (bu (some [ad.own [AV.fn (74:Nat) [AV.ptr (1:Nat) (0:Nat)]] (122:Nat),ad.own [AV.s (SV.str s)] (9:Nat)]))
     (Tree.ite l
       (Tree.ite (wG s) (Tree.need (bu (some [AV.ptr (0:Nat) (0:Nat)])) (Tree.need (bu (some [ad.own [AV.fn (74:Nat) [AV.ptr (1:Nat) (0:Nat)]] (122:Nat),ad.own [AV.s (SV.str (gQ s))] (9:Nat)])) (Tree.need ((es.length+(1:Nat))*(32:Nat)≤(140737488355328:Nat)) (Tree.at (bz.mk (sl (93:Nat) [((1:Nat),AV.ptr (0:Nat) (0:Nat)),((2:Nat),AV.ptr (1:Nat) (0:Nat)),((4:Nat),AV.ptr (2:Nat) (0:Nat)),((5:Nat),AV.ptr (3:Nat) (0:Nat)),((6:Nat),AV.fn (75:Nat) [AV.ptr (3:Nat) (0:Nat)]),((8:Nat),AV.s (SV.bool (wG (gQ s))))]) [ad.own [AV.s (SV.str (gQ (gQ s)))] (9:Nat),ad.own [AV.s (SV.bool false),AV.emp,AV.emp] (73:Nat),ad.own [AV.s (SV.bool l),AV.vec (4:Nat),AV.vec (5:Nat)] (73:Nat),ad.own [AV.fn (74:Nat) [AV.ptr (0:Nat) (0:Nat)]] (122:Nat),ad.vec (aF.ae [CK.str,CK.str] (es++[(xK s,xK (gQ s),())])) (34:Nat),ad.vec (aF.ae [CK.str,CK.int IntKind.i64] bs) (79:Nat)] (hr Tryd.f57 (22:Nat)) (nB.mk none false (0:Nat) [] (0:Nat)))))))
         (Tree.ite (wG s) (Tree.need (bu (some [AV.s (SV.int IntKind.i64 (2:Int)),AV.ptr (0:Nat) (0:Nat)])) (Tree.need (bu (some [ad.own [AV.s (SV.str (gQ s))] (9:Nat)])) (Tree.need ((0:Int)≤(2:Int)) (Tree.ite (so (2:Int) (gQ s)) (Tree.need ((0:Int)≤(0:Int)) (Tree.need ((0:Int)<(↑(jZ (2:Int) (gQ s)).size:Int)) (Tree.need (aD (aW (jZ (2:Int) (gQ s)) (Int.toNat (0:Int)))) (Tree.need ((0:Int)≤(8:Int)) (Tree.need ((0:Int)≤(1:Int)) (Tree.need ((1:Int)<(↑(jZ (2:Int) (gQ s)).size:Int)) (Tree.need (aD (aW (jZ (2:Int) (gQ s)) (Int.toNat (1:Int)))) (Tree.need ((bs.length+(1:Nat))*(24:Nat)≤(140737488355328:Nat)) (Tree.at (bz.mk (sl (93:Nat) [((1:Nat),AV.ptr (0:Nat) (0:Nat)),((2:Nat),AV.ptr (1:Nat) (0:Nat)),((4:Nat),AV.ptr (2:Nat) (0:Nat)),((5:Nat),AV.ptr (3:Nat) (0:Nat)),((6:Nat),AV.fn (75:Nat) [AV.ptr (3:Nat) (0:Nat)]),((8:Nat),AV.s (SV.bool (so (2:Int) (gQ s))))]) [ad.own [AV.s (SV.str (om (2:Int) (gQ s)))] (9:Nat),ad.own [AV.s (SV.bool false),AV.emp,AV.emp] (73:Nat),ad.own [AV.s (SV.bool l),AV.vec (4:Nat),AV.vec (5:Nat)] (73:Nat),ad.own [AV.fn (74:Nat) [AV.ptr (0:Nat) (0:Nat)]] (122:Nat),ad.vec (aF.ae [CK.str,CK.str] es) (34:Nat),ad.vec (aF.ae [CK.str,CK.int IntKind.i64] (bs++[(xK s,bH BinOp.or IntKind.i64 (IntKind.i64.wrap (aW (jZ (2:Int) (gQ s)) (Int.toNat (0:Int))*(2:Int)^min (Int.toNat (8:Int)) IntKind.i64.bits)) (aW (jZ (2:Int) (gQ s)) (Int.toNat (1:Int))),())])) (79:Nat)] (hr Tryd.f57 (22:Nat)) (nB.mk none false (0:Nat) [] (0:Nat)))))))))))) (Tree.at (bz.mk (sl (93:Nat) [((1:Nat),AV.ptr (0:Nat) (0:Nat)),((2:Nat),AV.ptr (1:Nat) (0:Nat)),((4:Nat),AV.ptr (2:Nat) (0:Nat)),((5:Nat),AV.ptr (3:Nat) (0:Nat)),((6:Nat),AV.fn (75:Nat) [AV.ptr (3:Nat) (0:Nat)]),((8:Nat),AV.s (SV.bool (so (2:Int) (gQ s))))]) [ad.own [AV.s (SV.str (om (2:Int) (gQ s)))] (9:Nat),ad.own [AV.s (SV.bool false),AV.emp,AV.emp] (73:Nat),ad.own [AV.s (SV.bool l),AV.vec (4:Nat),AV.vec (5:Nat)] (73:Nat),ad.own [AV.fn (74:Nat) [AV.ptr (0:Nat) (0:Nat)]] (122:Nat),ad.vec (aF.ae [CK.str,CK.str] es) (34:Nat),ad.vec (aF.ae [CK.str,CK.int IntKind.i64] bs) (79:Nat)] (hr Tryd.f57 (22:Nat)) (nB.mk none false (0:Nat) [] (0:Nat)))))))) (Tree.at (bz.mk (sl (93:Nat) [((1:Nat),AV.ptr (0:Nat) (0:Nat)),((2:Nat),AV.ptr (1:Nat) (0:Nat)),((4:Nat),AV.ptr (2:Nat) (0:Nat)),((5:Nat),AV.ptr (3:Nat) (0:Nat)),((6:Nat),AV.fn (75:Nat) [AV.ptr (3:Nat) (0:Nat)]),((8:Nat),AV.s (SV.bool (wG s)))]) [ad.own [AV.s (SV.str (gQ s))] (9:Nat),ad.own [AV.s (SV.bool false),AV.emp,AV.emp] (73:Nat),ad.own [AV.s (SV.bool l),AV.vec (4:Nat),AV.vec (5:Nat)] (73:Nat),ad.own [AV.fn (74:Nat) [AV.ptr (0:Nat) (0:Nat)]] (122:Nat),ad.vec (aF.ae [CK.str,CK.str] es) (34:Nat),ad.vec (aF.ae [CK.str,CK.int IntKind.i64] bs) (79:Nat)] (hr Tryd.f57 (22:Nat)) (nB.mk none false (0:Nat) [] (0:Nat))))))
       (Tree.ite (wG s) (Tree.need (bu (some [AV.s (SV.int IntKind.i64 (2:Int)),AV.ptr (0:Nat) (0:Nat)])) (Tree.need (bu (some [ad.own [AV.s (SV.str (gQ s))] (9:Nat)])) (Tree.need ((0:Int)≤(2:Int)) (Tree.ite (so (2:Int) (gQ s)) (Tree.need ((0:Int)≤(0:Int)) (Tree.need ((0:Int)<(↑(jZ (2:Int) (gQ s)).size:Int)) (Tree.need (aD (aW (jZ (2:Int) (gQ s)) (Int.toNat (0:Int)))) (Tree.need ((0:Int)≤(8:Int)) (Tree.need ((0:Int)≤(1:Int)) (Tree.need ((1:Int)<(↑(jZ (2:Int) (gQ s)).size:Int)) (Tree.need (aD (aW (jZ (2:Int) (gQ s)) (Int.toNat (1:Int)))) (Tree.need ((bs.length+(1:Nat))*(24:Nat)≤(140737488355328:Nat)) (Tree.at (bz.mk (sl (93:Nat) [((1:Nat),AV.ptr (0:Nat) (0:Nat)),((2:Nat),AV.ptr (1:Nat) (0:Nat)),((4:Nat),AV.ptr (2:Nat) (0:Nat)),((5:Nat),AV.ptr (3:Nat) (0:Nat)),((6:Nat),AV.fn (75:Nat) [AV.ptr (3:Nat) (0:Nat)]),((8:Nat),AV.s (SV.bool (so (2:Int) (gQ s))))]) [ad.own [AV.s (SV.str (om (2:Int) (gQ s)))] (9:Nat),ad.own [AV.s (SV.bool false),AV.emp,AV.emp] (73:Nat),ad.own [AV.s (SV.bool l),AV.vec (4:Nat),AV.vec (5:Nat)] (73:Nat),ad.own [AV.fn (74:Nat) [AV.ptr (0:Nat) (0:Nat)]] (122:Nat),ad.vec (aF.ae [CK.str,CK.str] es) (34:Nat),ad.vec (aF.ae [CK.str,CK.int IntKind.i64] (bs++[(xK s,bH BinOp.or IntKind.i64 (IntKind.i64.wrap (aW (jZ (2:Int) (gQ s)) (Int.toNat (0:Int))*(2:Int)^min (Int.toNat (8:Int)) IntKind.i64.bits)) (aW (jZ (2:Int) (gQ s)) (Int.toNat (1:Int))),())])) (79:Nat)] (hr Tryd.f57 (22:Nat)) (nB.mk none false (0:Nat) [] (0:Nat)))))))))))) (Tree.at (bz.mk (sl (93:Nat) [((1:Nat),AV.ptr (0:Nat) (0:Nat)),((2:Nat),AV.ptr (1:Nat) (0:Nat)),((4:Nat),AV.ptr (2:Nat) (0:Nat)),((5:Nat),AV.ptr (3:Nat) (0:Nat)),((6:Nat),AV.fn (75:Nat) [AV.ptr (3:Nat) (0:Nat)]),((8:Nat),AV.s (SV.bool (so (2:Int) (gQ s))))]) [ad.own [AV.s (SV.str (om (2:Int) (gQ s)))] (9:Nat),ad.own [AV.s (SV.bool false),AV.emp,AV.emp] (73:Nat),ad.own [AV.s (SV.bool l),AV.vec (4:Nat),AV.vec (5:Nat)] (73:Nat),ad.own [AV.fn (74:Nat) [AV.ptr (0:Nat) (0:Nat)]] (122:Nat),ad.vec (aF.ae [CK.str,CK.str] es) (34:Nat),ad.vec (aF.ae [CK.str,CK.int IntKind.i64] bs) (79:Nat)] (hr Tryd.f57 (22:Nat)) (nB.mk none false (0:Nat) [] (0:Nat)))))))) (Tree.at (bz.mk (sl (93:Nat) [((1:Nat),AV.ptr (0:Nat) (0:Nat)),((2:Nat),AV.ptr (1:Nat) (0:Nat)),((4:Nat),AV.ptr (2:Nat) (0:Nat)),((5:Nat),AV.ptr (3:Nat) (0:Nat)),((6:Nat),AV.fn (75:Nat) [AV.ptr (3:Nat) (0:Nat)]),((8:Nat),AV.s (SV.bool (wG s)))]) [ad.own [AV.s (SV.str (gQ s))] (9:Nat),ad.own [AV.s (SV.bool false),AV.emp,AV.emp] (73:Nat),ad.own [AV.s (SV.bool l),AV.vec (4:Nat),AV.vec (5:Nat)] (73:Nat),ad.own [AV.fn (74:Nat) [AV.ptr (0:Nat) (0:Nat)]] (122:Nat),ad.vec (aF.ae [CK.str,CK.str] es) (34:Nat),ad.vec (aF.ae [CK.str,CK.int IntKind.i64] bs) (79:Nat)] (hr Tryd.f57 (22:Nat)) (nB.mk none false (0:Nat) [] (0:Nat))))))))
 (Tree.ite (!cW l es bs) (Tree.ret [ad.own [AV.s (SV.str s)] (9:Nat),ad.own [AV.s (SV.aI false),AV.emp,AV.emp] (73:Nat),ad.own [AV.s (SV.bool l),AV.vec (4:Nat),AV.vec (5:Nat)] (73:Nat),ad.own [AV.fn (74:Nat) [AV.ptr (0:Nat) (0:Nat)]] (122:Nat),ad.vec (aF.ae [CK.str,CK.str] es) (34:Nat),ad.vec (aF.ae [CK.str,CK.int IntKind.i64] bs) (79:Nat)] (AV.bh [AV.agg [AV.s (SV.aI false),AV.emp,AV.emp],AV.s (SV.aZ IntKind.i64 (4:Int))])) (Tree.ret [ad.own [AV.s (SV.str s)] (9:Nat),ad.own [AV.s (SV.bool l),AV.vec (4:Nat),AV.vec (5:Nat)] (73:Nat),ad.own [AV.s (SV.bool l),AV.vec (4:Nat),AV.vec (5:Nat)] (73:Nat),ad.own [AV.fn (74:Nat) [AV.ptr (0:Nat) (0:Nat)]] (122:Nat),ad.vec (aF.ae [CK.str,CK.str] es) (34:Nat),ad.vec (aF.ae [CK.str,CK.int IntKind.i64] bs) (79:Nat)] (AV.bh [AV.agg [AV.s (SV.bool l),AV.vec (4:Nat),AV.vec (5:Nat)],AV.s (SV.aZ IntKind.i64 (0:Int))]))):=by kernel_rfl
theorem abi(s:ByteArray)(l:Bool)(es:List En)(bs:List Br)(is:Bool):run P vd.sum Tryd.f57 aeQ (aiW s l es bs is)=
 Tree.ite (!is) (.ret [.own [.s (.str s)] 9,.own [.s (.aI false),.emp,.emp] 73,.own [.s (.bool l),.vec 4,.vec 5] 73,.own [.fn 74 [.ptr 0 0]] 122,.vec (.ae [.str,.str] es) 34,.vec (.ae [.str,.int .i64] bs) 79] (.bh [.agg [.s (.aI false),.emp,.emp],.s (.aZ .i64 8)])) (.at (.mk (sl 93 [(1,.ptr 0 0),(2,.ptr 1 0),(4,.ptr 2 0),(5,.ptr 3 0),(6,.fn 75 [.ptr 3 0])]) [.own [.s (.str s)] 9,.own [.s (.bool false),.emp,.emp] 73,.own [.s (.bool l),.vec 4,.vec 5] 73,.own [.fn 74 [.ptr 0 0]] 122,.vec (.ae [.str,.str] es) 34,.vec (.ae [.str,.int .i64] bs) 79] (hd Tryd.f57 11) (.mk none false 0 [] 0))):=by kernel_rfl
def aiY(l:Bool)(es:List En)(bs:List Br)(l':Bool)(kZ:List En)(oo:List Br):Bool:=(l==l')&&(arE es kZ&&arF bs oo)
theorem dh(s:ByteArray)(i j:Nat):(s.extract i j).size=min j s.size - i:=by simp
theorem gH(s:ByteArray)(i:Nat):0≤aW s i∧aW s i≤255:=by
 have:=(s.data.toList.getD i 0).toNat_lt
 unfold aW
 omega
theorem ta{k:Int}{s:ByteArray}:so k s=true↔k≤(s.size:Int):=by simp[so]
theorem ve{k:Int}{s:ByteArray}(h0:0≤k)(h:so k s=true):((jZ k s).size:Int)=k:=by
 have h:=ta.1 h
 rw[jZ,if_neg (by omega),dh]
 omega
theorem abj{k:Int}{s:ByteArray}(h0:0≤k)(h:so k s=true):((om k s).size:Int)=s.size - k:=by
 have h:=ta.1 h
 rw[om,if_neg (by omega),dh]
 omega
theorem adn(k:Int)(s:ByteArray):(om k s).size≤s.size:=by
 unfold om
 split
 ·exact Nat.le_refl _
 ·rw[dh];omega
theorem aeS{Z:ba}:js P Z 74 u7:=by
 refine aP Tryd.func74 (by kernel_rfl) (fun x=>Nat.le_of_ble_eq_true (by kernel_rfl)) ?_
 rintro⟨(k:Int),(s:ByteArray)⟩ ⟨(h1:0≤k),_⟩ X hX hz
 refine eG hz hX (by simp) aG.Ok.nil Tryd.func74 (aiU k s) ⟨fun h=>⟨⟨[],[0],1,[]⟩,Nat.le_refl _, ?_⟩,fun h=> ?_⟩
 ·show Norm.run _ _=some ⟨[.bh [.s (.str (jZ k s)),.s (.bool (so k s))]],[.own [.s (.str (om k s))] 9],[],{}⟩
  rw[jZ,om,so,if_pos (of_decide_eq_true h),if_pos (of_decide_eq_true h),h]
  kernel_rfl
 ·have h2:=of_decide_eq_false h
  refine⟨by omega,h1,by omega,h1,by omega,by omega,⟨[],[0],1,[]⟩,Nat.le_refl _, ?_⟩
  show Norm.run _ _=some ⟨[.bh [.s (.str (jZ k s)),.s (.bool (so k s))]],[.own [.s (.str (om k s))] 9],[],{}⟩
  rw[jZ,om,so,if_neg h2,if_neg h2,h]
  kernel_rfl
theorem ado{Z:ba}:aeP.Ok P Z:=aG.Ok.cons (aeS.sum aeO) aG.Ok.nil
theorem alA{Z:ba}:js P Z 75 abh:=by
 refine aP Tryd.func75 (by kernel_rfl) (fun x=>Nat.le_of_ble_eq_true (by kernel_rfl)) ?_
 rintro(s:ByteArray) _ X hX hz
 refine eG hz hX (by simp) ado Tryd.func75 (aiV s) ⟨rfl,rfl,by decide,fun h=>⟨⟨[],[0],2,[]⟩,Nat.le_refl _, ?_⟩,fun h=> ?_⟩
 ·have h:so 1 s=false:=by simpa using h
  show Norm.run _ _=some ⟨[.bh [.s (.str (xK s)),.s (.bool (wG s))]],[.own [.fn 74 [.ptr 1 0]] 122,.own [.s (.str (gQ s))] 9],[],{}⟩
  rw[xK,gQ,wG,h]
  kernel_rfl
 ·have h:so 1 s=true:=by simpa using h
  have h1:=ve (by omega) h
  have h2:=gH (jZ 1 s) 0
  refine⟨by decide,by omega,⟨by show _≤aW (jZ 1 s) 0;omega,by show aW (jZ 1 s) 0≤_;omega⟩,rfl,rfl,h2.1,⟨[],[0],2,[]⟩,Nat.le_refl _, ?_⟩
  show Norm.run _ _=some ⟨[.bh [.s (.str (xK s)),.s (.bool (wG s))]],[.own [.fn 74 [.ptr 1 0]] 122,.own [.s (.str (gQ s))] 9],[],{}⟩
  rw[xK,gQ,wG,h]
  kernel_rfl
theorem jz{Z:ba}:vd.Ok P Z:=aG.Ok.cons (aeS.sum aeO) (aG.Ok.cons (alA.sum anL) (aG.Ok.cons adg.sum aG.Ok.nil))
theorem jR{s:ByteArray}(h:wG s=true):(gQ s).size+1≤s.size:=by
 simp only[wG,Bool.and_eq_true]at h
 have h1:=abj (by omega) h.1
 have h2:=adn (rdK s) (om 1 s)
 rw[gQ,if_pos h.1]
 omega
def aiZ(t:ByteArray):Int:=bH BinOp.or IntKind.i64 (IntKind.i64.wrap (aW t (Int.toNat 0)*2^min (Int.toNat 8) IntKind.i64.bits)) (aW t (Int.toNat 1))
def hZ(l:Bool):Nat→ByteArray→List En→List Br→Int×List En×List Br
 |0,_,es,bs=>if cW l es bs=true then(0,es,bs)else(4,[],[])
 |n+1,s,es,bs=>
  if s=ByteArray.empty then(if cW l es bs=true then(0,es,bs)else(4,[],[]))
  else if wG s=false then(8,[],[])
  else if l=true then(if wG (gQ s)=true then hZ l n (gQ (gQ s)) (es++[(xK s,xK (gQ s),())]) bs else(8,[],[]))
  else(if so 2 (gQ s)=true then hZ l n (om 2 (gQ s)) es (bs++[(xK s,aiZ (jZ 2 (gQ s)),())])else(8,[],[]))
def nX(s:ByteArray):Int×List En×List Br:=
 if(s.size:Int)>254 then(40,[],[])else if s=ByteArray.empty then(8,[],[])else if aW s 0≠1∧aW s 0≠2 then(4,[],[])
 else hZ (aW s 0==1) s.size (s.extract 1 s.size) [] []
def rA(s:ByteArray):Int:=(nX s).1
def nf(s:ByteArray):List En:=(nX s).2.1
def mj(s:ByteArray):List Br:=(nX s).2.2
def jf(s:ByteArray):Bool:=decide (rA s=0)&&(aW s 0==1)
end Lf
namespace Lf
open Go Go.Sx Go.Proofs
abbrev U(s:ByteArray):List UInt8:=s.data.toList
theorem me(s:ByteArray):(U s).length=s.size:=Array.length_toList
theorem jA(s:ByteArray)(i j:Nat):U (s.extract i j)=((U s).drop i).take (j - i):=by
 rw[U,ByteArray.data_extract,Array.toList_extract,List.extract_eq_take_drop]
theorem zm:U ByteArray.empty=[]:=rfl
theorem anN{s:ByteArray}(h:U s=[]):s=ByteArray.empty:=rq h
theorem zn{s:ByteArray}{a b:List UInt8}{k:Int}(h:U s=a++b)(hk:(a.length:Int)=k):so k s=true∧U (jZ k s)=a∧U (om k s)=b:=by
 have hl:=me s
 rw[h,List.length_append]at hl
 refine⟨ta.2 (by omega), ?_, ?_⟩
 ·rw[jZ,if_neg (by omega),jA,h,show k.toNat - 0=a.length from by omega];simp
 ·rw[om,if_neg (by omega),jA,h,show k.toNat=a.length from by omega,List.drop_left,List.take_of_length_le (by omega)]
theorem zo{s:ByteArray}{k:Int}(h0:0≤k)(h:so k s=true):U s=U (jZ k s)++U (om k s)∧((U (jZ k s)).length:Int)=k:=by
 have hk:=ta.1 h
 have hl:=me s
 refine⟨?_,by rw[me];exact ve h0 h⟩
 rw[jZ,om,if_neg (by omega),if_neg (by omega),jA,jA,List.drop_zero,Nat.sub_zero,List.take_of_length_le (l:=(U s).drop _) (by simp[hl]),List.take_append_drop]
def ng(s:ByteArray):List UInt8:=UInt8.ofNat s.size::U s
theorem iJ{s:ByteArray}{a:UInt8}{r:List UInt8}(h:U s=a::r):aW s 0=(a.toNat:Int):=by
 simp[aW,show s.data.toList=a::r from h]
theorem zp{s:ByteArray}{a b:UInt8}{r:List UInt8}(h:U s=a::b::r):aW s 1=(b.toNat:Int):=by
 simp[aW,show s.data.toList=a::b::r from h]
theorem zq{s k:ByteArray}{r:List UInt8}(h:U s=ng k++r)(hk:k.size≤255):wG s=true∧xK s=k∧U (gQ s)=r:=by
 obtain⟨h1,h2,h3⟩:=zn (s:=s) (a:=[UInt8.ofNat k.size]) (b:=U k++r) (k:=1) (by rw[h];rfl) rfl
 have e:rdK s=(k.size:Int):=by rw[rdK,iJ h2];simp;omega
 obtain⟨g1,g2,g3⟩:=zn (s:=om 1 s) (k:=rdK s) h3 (by rw[me,e])
 refine⟨by simp[wG,h1,g1], ?_, ?_⟩
 ·rw[xK,if_pos h1];exact rq g2
 ·rw[gQ,if_pos h1];exact g3
theorem aeT{s:ByteArray}(h:wG s=true):U s=ng (xK s)++U (gQ s)∧(xK s).size≤255:=by
 simp only[wG,Bool.and_eq_true]at h
 obtain⟨h1,h2⟩:=h
 obtain⟨g1,g2⟩:=zo (by decide) h1
 have hr:=gH (jZ 1 s) 0
 obtain⟨g3,g4⟩:=zo (k:=rdK s) hr.1 h2
 have g2:(U (jZ 1 s)).length=1:=by omega
 obtain⟨a,ha⟩:=List.length_eq_one_iff.1 g2
 have e:rdK s=(a.toNat:Int):=iJ ha
 rw[xK,gQ,if_pos h1,if_pos h1]
 have hs:(jZ (rdK s) (om 1 s)).size=a.toNat:=by rw[←me];omega
 refine⟨?_,by rw[hs];have:=a.toNat_lt;omega⟩
 rw[g1,ha,g3,ng,hs]
 simp
def gW(x:En):List UInt8:=ng x.1++ng x.2.1
def gX(x:Br):List UInt8:=ng x.1++[UInt8.ofNat (x.2.1 / 256).toNat,UInt8.ofNat (x.2.1%256).toNat]
theorem uS{a b:Int}(ha:0≤a∧a≤255)(hb:0≤b∧b≤255):bH BinOp.or IntKind.i64 (IntKind.i64.wrap (a*2^min (Int.toNat 8) IntKind.i64.bits)) b=a*256+b:=by
 have e1:IntKind.i64.wrap (a*2^min (Int.toNat 8) IntKind.i64.bits)=a*256:=by
  rw[show(2:Int)^min (Int.toNat 8) IntKind.i64.bits=256 from by decide]
  exact bZ ⟨by omega,by omega⟩
 rw[e1]
 obtain⟨x,rfl⟩:=Int.eq_ofNat_of_zero_le ha.1
 obtain⟨y,rfl⟩:=Int.eq_ofNat_of_zero_le hb.1
 show IntKind.i64.wrap ((BitVec.ofInt 64 _ ||| BitVec.ofInt 64 _).toNat:Int)=_
 have e2:(BitVec.ofInt 64 ((x:Int)*256)).toNat=2^8*x:=by rw[BitVec.toNat_ofInt];omega
 have e3:(BitVec.ofInt 64 (y:Int)).toNat=y:=by rw[BitVec.toNat_ofInt];omega
 rw[BitVec.toNat_or,e2,e3,←Nat.two_pow_add_eq_or_of_lt (by omega),bZ ⟨by omega,by omega⟩]
 omega
theorem anO{t:ByteArray}{a b:UInt8}(h:U t=[a,b]):aiZ t=(a.toNat:Int)*256+b.toNat:=by
 have h1:=a.toNat_lt
 have h2:=b.toNat_lt
 have e0:=iJ h
 have e1:=zp h
 rw[aiZ,show aW t (Int.toNat 0)=_ from e0,show aW t (Int.toNat 1)=_ from e1]
 exact uS ⟨by omega,by omega⟩ ⟨by omega,by omega⟩
theorem abk{l:Bool}{n:Nat}{s:ByteArray}{es:List En}{bs:List Br}(h:U s=[]):hZ l n s es bs=if cW l es bs=true then(0,es,bs)else(4,[],[]):=by
 cases n with
 |zero=>rfl
 |succ n=>rw[hZ,if_pos (anN h)]
theorem abl:∀(n:Nat) (xL:List En) (s:ByteArray) (es:List En) (bs:List Br),s.size≤n→U s=xL.flatMap gW→(∀x∈xL,x.1.size≤255∧x.2.1.size≤255)→hZ true n s es bs=if cW true (es++xL) bs=true then(0,es++xL,bs)else(4,[],[])
 |n,[],s,es,bs,_,hu,_=>by rw[abk hu,List.append_nil]
 |0,x::xL,s,es,bs,hn,hu,_=>by
  have:=me s
  rw[hu]at this
  simp[gW,ng]at this
  omega
 |n+1,x::xL,s,es,bs,hn,hu,hx=>by
  obtain⟨k,v,⟨⟩⟩:=x
  have hx0:=hx (k,v,()) (by simp)
  have h0:s≠ByteArray.empty:=fun e=>by subst e;simp[zm,gW,ng]at hu
  obtain⟨a1,a2,a3⟩:=zq (s:=s) (k:=k) (r:=ng v++xL.flatMap gW) (by rw[hu];simp[gW]) hx0.1
  obtain⟨b1,b2,b3⟩:=zq a3 hx0.2
  have c1:=jR a1
  have c2:=jR b1
  rw[hZ,if_neg h0,if_neg (by simp[a1]),if_pos rfl,if_pos b1,a2,b2,abl n xL _ _ bs (by omega) b3 (fun y hy=>hx y (by simp[hy]))]
  simp
theorem vg:∀(n:Nat) (xM:List Br) (s:ByteArray) (es:List En) (bs:List Br),s.size≤n→U s=xM.flatMap gX→(∀x∈xM,x.1.size≤255∧0≤x.2.1∧x.2.1<65536)→hZ false n s es bs=if cW false es (bs++xM)=true then(0,es,bs++xM)else(4,[],[])
 |n,[],s,es,bs,_,hu,_=>by rw[abk hu,List.append_nil]
 |0,x::xM,s,es,bs,hn,hu,_=>by
  have:=me s
  rw[hu]at this
  simp[gX,ng]at this
  omega
 |n+1,x::xM,s,es,bs,hn,hu,hx=>by
  obtain⟨k,p,⟨⟩⟩:=x
  have hx0:=hx (k,p,()) (by simp)
  have h0:s≠ByteArray.empty:=fun e=>by subst e;simp[zm,gX,ng]at hu
  obtain⟨a1,a2,a3⟩:=zq (s:=s) (k:=k) (r:=[UInt8.ofNat (p / 256).toNat,UInt8.ofNat (p%256).toNat]++xM.flatMap gX) (by rw[hu];simp[gX]) hx0.1
  obtain⟨b1,b2,b3⟩:=zn (k:=2) a3 rfl
  have c1:=jR a1
  have c2:=adn 2 (gQ s)
  have e:aiZ (jZ 2 (gQ s))=p:=by
   have hp:0≤p∧p<65536:=hx0.2
   rw[anO b2]
   simp only[UInt8.toNat_ofNat']
   omega
  rw[hZ,if_neg h0,if_neg (by simp[a1]),if_neg (by simp),if_pos b1,a2,e,vg n xM _ es _ (by omega) b3 (fun y hy=>hx y (by simp[hy]))]
  simp
theorem apz{α:Type}:∀{l:List α},l.length=2→∃a b,l=[a,b]
 |[a,b],_=>⟨a,b,rfl⟩
theorem arH:∀(n:Nat) (l:Bool) (s:ByteArray) (es:List En) (bs:List Br) {kZ:List En} {oo:List Br},s.size≤n→hZ l n s es bs=(0,kZ,oo)→
 ∃xL xM,kZ=es++xL∧oo=bs++xM∧cW l kZ oo=true∧U s=xL.flatMap gW++xM.flatMap gX∧(l=true→xM=[])∧(l=false→xL=[]):=by
 intro n
 have fin:∀(l:Bool) (s:ByteArray) (es:List En) (bs:List Br) {kZ:List En} {oo:List Br},s=ByteArray.empty→(if cW l es bs=true then((0:Int),es,bs)else(4,[],[]))=(0,kZ,oo)→
  ∃xL xM,kZ=es++xL∧oo=bs++xM∧cW l kZ oo=true∧U s=xL.flatMap gW++xM.flatMap gX∧(l=true→xM=[])∧(l=false→xL=[]):=by
  intro l s es bs kZ oo hs h
  split at h
  ·rename_i hm
   simp only[Prod.mk.injEq,true_and]at h
   obtain⟨rfl,rfl⟩:=h
   exact⟨[],[],by simp,by simp,hm,by subst hs;rfl,fun _=>rfl,fun _=>rfl⟩
  ·simp at h
 induction n with
 |zero=>
  intro l s es bs kZ oo hn h
  exact fin l s es bs (lu (Nat.le_zero.1 hn)) h
 |succ n ih=>
  intro l s es bs kZ oo hn h
  by_cases h0:s=ByteArray.empty
  ·rw[hZ,if_pos h0]at h
   exact fin l s es bs h0 h
  ·rw[hZ,if_neg h0]at h
   split at h
   ·simp at h
   ·rename_i hB
    have hB:wG s=true:=by simpa using hB
    obtain⟨a1,a2⟩:=aeT hB
    have c1:=jR hB
    split at h
    ·rename_i hl
     subst hl
     split at h
     ·rename_i hB2
      obtain⟨b1,b2⟩:=aeT hB2
      have c2:=jR hB2
      obtain⟨xL,xM,rfl,rfl,d3,d4,d5,d6⟩:=ih true _ _ _ (by omega) h
      have d5:=d5 rfl
      subst d5
      refine⟨(xK s,xK (gQ s),())::xL,[],by simp,by simp,d3, ?_,fun _=>rfl,fun h=>(by cases h)⟩
      rw[a1,b1,d4]
      simp[gW]
     ·simp at h
    ·rename_i hl
     have hl:l=false:=by simpa using hl
     subst hl
     split at h
     ·rename_i hB2
      obtain⟨b1,b2⟩:=zo (by decide) hB2
      have c2:=adn 2 (gQ s)
      obtain⟨xL,xM,rfl,rfl,d3,d4,d5,d6⟩:=ih false _ _ _ (by omega) h
      have d6:=d6 rfl
      subst d6
      refine⟨[],(xK s,aiZ (jZ 2 (gQ s)),())::xM,by simp,by simp,d3, ?_,fun h=>(by cases h),fun _=>rfl⟩
      have b2:(U (jZ 2 (gQ s))).length=2:=by omega
      obtain⟨a,b,hab⟩:=apz b2
      have e:=anO hab
      have h1:=a.toNat_lt
      have h2:=b.toNat_lt
      rw[a1,b1,d4,hab]
      simp only[List.flatMap_nil,List.nil_append,List.flatMap_cons,gX,e,List.append_assoc]
      rw[show(((a.toNat:Int)*256+b.toNat) / 256).toNat=a.toNat from by omega,show(((a.toNat:Int)*256+b.toNat)%256).toNat=b.toNat from by omega]
      simp
     ·simp at h
theorem adp{es:List En}(h:jt es=true){x:En}(hx:x∈es):x.1.size≤24∧x.2.1.size≤100:=by
 obtain⟨i,hi,rfl⟩:=List.getElem_of_mem hx
 have:=cN.1 h i hi
 simp only[okE,Bool.not_eq_true',Bool.or_eq_false_iff,decide_eq_false_iff_not,bg hi]at this
 omega
theorem abm{bs:List Br}(h:gq bs=true){x:Br}(hx:x∈bs):x.1.size≤24∧2≤x.2.1∧x.2.1<1024:=by
 obtain⟨i,hi,rfl⟩:=List.getElem_of_mem hx
 have:=cN.1 h i hi
 simp only[okB,Bool.not_eq_true',Bool.or_eq_false_iff,decide_eq_false_iff_not,bg hi]at this
 omega
abbrev enB(zs:List Int):List UInt8:=zs.map fun n=>UInt8.ofNat n.toNat
theorem alB(zs:List Int):U (aO zs)=enB zs:=rfl
theorem u8_in{n:Int}(h0:0≤n)(h1:n≤255):IntKind.u8.wrap n=n:=by
 simp only[IntKind.wrap,IntKind.bits,IntKind.signed,Bool.false_and]
 simp
 omega
theorem zr{s:ByteArray}(h:s.size≤255):enB (xI s)=ng s:=by
 simp only[enB,xI,List.map_cons,ng,u8_in (n:=(s.size:Int)) (by omega) (by omega),Int.toNat_natCast,List.cons.injEq,true_and,zl,List.map_map]
 exact(List.map_congr_left (fun a _=>by simp)).trans (List.map_id _)
theorem arI{x:En}(h:x.1.size≤24∧x.2.1.size≤100):enB (nb x)=gW x:=by
 simp only[nb,gW,List.map_append]
 rw[show(xI x.1).map _=_ from zr (by omega),show(xI x.2.1).map _=_ from zr (by omega)]
theorem arJ{x:Br}(h:x.1.size≤24∧2≤x.2.1∧x.2.1<1024):enB (sM x)=gX x:=by
 obtain⟨k,p,⟨⟩⟩:=x
 have hp:2≤p∧p<1024:=h.2
 simp only[sM,gX,List.map_append,List.map_cons,List.map_nil]
 rw[show(xI k).map _=_ from zr (by have:k.size≤24:=h.1;omega),show(2:Int)^min (Int.toNat 8) IntKind.i64.bits=256 from by decide,Int.fdiv_eq_ediv_of_nonneg _ (by omega),u8_in (by omega) (by omega)]
 have e:IntKind.u8.wrap p=p%256:=by
  simp only[IntKind.wrap,IntKind.bits,IntKind.signed,Bool.false_and]
  simp
 rw[e]
theorem vj{α:Type}{f:α→List Int}{g:α→List UInt8}:∀{l:List α},(∀x∈l,enB (f x)=g x)→enB (l.flatMap f)=l.flatMap g
 |[],_=>rfl
 |x::l,h=>by
  simp only[List.flatMap_cons,List.map_append]
  rw[show(f x).map _=_ from h x (by simp),show(l.flatMap f).map _=_ from vj (fun y hy=>h y (by simp[hy]))]
theorem anP{l:Bool}{es:List En}{bs:List Br}(h1:jt es=true)(h2:gq bs=true):U (aO (nc l es bs))=(if l=true then 1 else 2)::(es.flatMap gW++bs.flatMap gX):=by
 rw[alB,nc]
 simp only[List.map_append]
 rw[show(es.flatMap nb).map _=_ from vj fun x hx=>arI (adp h1 hx),show(bs.flatMap sM).map _=_ from vj fun x hx=>arJ (abm h2 hx)]
 cases l<;>rfl
theorem arK:∀(es:List En),((es.flatMap gW).length:Int)=(es.map px).sum
 |[]=>rfl
 |x::es=>by
  simp only[List.flatMap_cons,List.length_append,List.map_cons,List.sum_cons,←arK es,px,gW,ng,List.length_cons,me]
  omega
theorem arL:∀(bs:List Br),((bs.flatMap gX).length:Int)=(bs.map o8).sum
 |[]=>rfl
 |x::bs=>by
  simp only[List.flatMap_cons,List.length_append,List.map_cons,List.sum_cons,←arL bs,o8,gX,ng,List.length_cons,List.length_nil,me]
  omega
theorem abn{s:ByteArray}{a:UInt8}{es:List En}{bs:List Br}(h:U s=a::(es.flatMap gW++bs.flatMap gX)):(s.size:Int)=bd es bs:=by
 have:=me s
 rw[h]at this
 simp only[List.length_cons,List.length_append]at this
 rw[bd,←arK,←arL]
 omega
theorem lC{l:Bool}{es:List En}{bs:List Br}:gI l es bs=0↔cW l es bs=true∧bd es bs≤254:=by
 unfold gI
 split
 ·split<;>simp_all
 ·simp_all
theorem aeU{l:Bool}{es:List En}{bs:List Br}(h:gI l es bs=0):cX l es bs=aO (nc l es bs):=by
 obtain⟨h1,h2⟩:=lC.1 h
 rw[cX,if_pos (by simp[abf,h1,h2])]
theorem alC{l:Bool}{es:List En}{bs:List Br}(h:gI l es bs=0):rA (cX l es bs)=0∧jf (cX l es bs)=l∧nf (cX l es bs)=es∧mj (cX l es bs)=bs∧((cX l es bs).size:Int)=bd es bs:=by
 obtain⟨h1,h2⟩:=lC.1 h
 obtain⟨m1,m2,m3,m4⟩:=dD h1
 rw[aeU h]
 have hu:=anP (l:=l) m3 m4
 have hs:=abn hu
 have h0:aO (nc l es bs)≠ByteArray.empty:=fun e=>by rw[e,zm]at hu;cases hu
 have hb:aW (aO (nc l es bs)) 0=if l=true then 1 else 2:=by rw[iJ hu];cases l<;>rfl
 have he:U ((aO (nc l es bs)).extract 1 (aO (nc l es bs)).size)=es.flatMap gW++bs.flatMap gX:=by
  have:=me (aO (nc l es bs))
  rw[hu]at this
  rw[jA,hu]
  simp only[List.length_cons]at this
  exact List.take_of_length_le (by simp;simp at this;omega)
 have hd:nX (aO (nc l es bs))=(0,es,bs):=by
  rw[nX,if_neg (by omega),if_neg h0,if_neg (by rw[hb];cases l<;>simp),hb]
  cases l
  ·obtain rfl:=m2 rfl
   have:=vg (aO (nc false [] bs)).size bs _ [] [] (by rw[dh];omega) he (fun x hx=>by have:=abm m4 hx;omega)
   simp only[List.nil_append,h1,if_true]at this
   exact this
  ·obtain rfl:=m1 rfl
   have:=abl (aO (nc true es [])).size es ((aO (nc true es [])).extract 1 (aO (nc true es [])).size) [] [] (by rw[dh];omega) (by rw[he];simp) (fun x hx=>by have:=adp m3 hx;omega)
   simp only[List.nil_append,h1,if_true]at this
   exact this
 refine⟨by rw[rA,hd], ?_,by rw[nf,hd],by rw[mj,hd],hs⟩
 rw[jf,rA,hd,hb]
 cases l<;>rfl
theorem arM:∀(es:List En),es.length≤(es.flatMap gW).length
 |[]=>Nat.le_refl _
 |x::l=>by have:=arM l;simp only[List.flatMap_cons,List.length_cons,List.length_append,gW,ng];omega
theorem arN:∀(es:List Br),es.length≤(es.flatMap gX).length
 |[]=>Nat.le_refl _
 |x::l=>by have:=arN l;simp only[List.flatMap_cons,List.length_cons,List.length_append,gX,ng];omega
theorem alD{s:ByteArray}(h:rA s=0):a6 (nf s)∧a7 (mj s)∧gI (jf s) (nf s) (mj s)=0∧cX (jf s) (nf s) (mj s)=s∧cW (jf s) (nf s) (mj s)=true:=by
 have h':=h
 rw[rA]at h
 have hl:jf s=(aW s 0==1):=by simp[jf,h']
 rw[hl]
 unfold nf mj
 unfold nX at h ⊢
 split at h
 ·exact absurd h (by decide)
 rename_i g1
 rw[if_neg g1]
 split at h
 ·exact absurd h (by decide)
 rename_i g2
 rw[if_neg g2]
 split at h
 ·exact absurd h (by decide)
 rename_i g3
 rw[if_neg g3]
 obtain⟨kZ,oo,e⟩:∃kZ oo,hZ (aW s 0==1) s.size (s.extract 1 s.size) [] []=(0,kZ,oo):=⟨_,_,Prod.ext h rfl⟩
 rw[e]
 simp only
 obtain⟨xL,xM,k1,k2,k3,k4,k5,k6⟩:=arH _ _ _ _ _ (by rw[dh];omega) e
 simp only[List.nil_append]at k1 k2
 subst k1 k2
 obtain⟨m1,m2,m3,m4⟩:=dD k3
 have hlen:=me s
 cases hu:U s with
 |nil=>exact absurd (anN hu) g2
 |cons a r=>
  have hb:=iJ hu
  have ha:=a.toNat_lt
  have hr:r=kZ.flatMap gW++oo.flatMap gX:=by
   rw[←k4,jA,hu]
   rw[hu]at hlen
   simp only[List.length_cons]at hlen
   rw[show List.drop 1 (a::r)=r from rfl,List.take_of_length_le (by omega)]
  rw[hr]at hu
  have hs:=abn hu
  have hn:gI (aW s 0==1) kZ oo=0:=lC.2 ⟨k3,by omega⟩
  have au4:=arM kZ
  have au5:=arN oo
  rw[hu]at hlen
  simp only[List.length_cons,List.length_append]at hlen
  refine⟨⟨by omega,fun x hx=>by have:=adp m3 hx;omega⟩,⟨by omega,fun x hx=>by have:=abm m4 hx;omega⟩,hn, ?_,k3⟩
  rw[aeU hn]
  apply rq
  show U _=U _
  rw[anP m3 m4,hu]
  congr 1
  by_cases hc:aW s 0=1
  ·rw[if_pos (by simp[hc])]
   exact UInt8.toNat_inj.1 (by show 1=_;omega)
  ·rw[if_neg (by simp[hc])]
   have:aW s 0=2:=by
    rcases Decidable.em (aW s 0=2)with h|h
    ·exact h
    ·exact absurd ⟨hc,h⟩ g3
   exact UInt8.toNat_inj.1 (by show 2=_;omega)
end Lf
namespace Lf
open Go Go.Sx Go.Proofs
theorem alE(a:List En):run P kJ.sum Tryd.f68 [] (start Tryd.f68 [.s (.ro (.ae cE a))] [])=
 Tree.both (a.length=0) True (.ret [] .emp) (.need (((0:Nat)+a.length)*(32:Nat)≤140737488355328) (.ret [.dead,.vec (.ae [.str,.str] ([]++a)) 34] (.vec 1))):=by kernel_rfl
theorem alF(a:List Br):run P kJ.sum Tryd.f106 [] (start Tryd.f106 [.s (.ro (.ae cB a))] [])=
 Tree.both (a.length=0) True (.ret [] .emp) (.need (((0:Nat)+a.length)*(24:Nat)≤140737488355328) (.ret [.dead,.vec (.ae [.str,.int .i64] ([]++a)) 79] (.vec 1))):=by kernel_rfl
abbrev apA:=bU [nU] [nU] (fun(l,())=>[(l:List En).length≤100000]) (fun(l,())=>(l,()))
abbrev at4:=bU [wD] [wD] (fun(l,())=>[(l:List Br).length≤100000]) (fun(l,())=>(l,()))
def adq:aG:=[(68,apA),(106,at4)]
theorem ai0(a:List En)(k:Int):run P adq.sum Tryd.f100 [] (start Tryd.f100 [.s (.ro (.ae cE a)),.s (.int .i64 k)] [])=
 Tree.ite ((↑a.length:Int)==0) (.ret [] (.bh [.emp,.emp])) (.need ((0:Int)≤0) (.need ((0:Int)≤k) (.need (k≤(↑a.length:Int)) (.need ((List.drop (Int.toNat 0) (List.take k.toNat a)).length≤100000) (.need ((0:Int)≤k) (.need (k≤(↑a.length:Int)) (.need ((↑a.length:Int)≤(↑a.length:Int)) (.need ((List.drop k.toNat (List.take (↑a.length:Int).toNat a)).length≤100000) (.ret [.vec (.ae [.str,.str] (List.drop (Int.toNat 0) (List.take k.toNat a))) 34,.vec (.ae [.str,.str] (List.drop k.toNat (List.take (↑a.length:Int).toNat a))) 34] (.bh [.vec 0,.vec 1])))))))))):=by kernel_rfl
theorem ai1(a:List Br)(k:Int):run P adq.sum Tryd.f101 [] (start Tryd.f101 [.s (.ro (.ae cB a)),.s (.int .i64 k)] [])=
 Tree.ite ((↑a.length:Int)==0) (.ret [] (.bh [.emp,.emp])) (.need ((0:Int)≤0) (.need ((0:Int)≤k) (.need (k≤(↑a.length:Int)) (.need ((List.drop (Int.toNat 0) (List.take k.toNat a)).length≤100000) (.need ((0:Int)≤k) (.need (k≤(↑a.length:Int)) (.need ((↑a.length:Int)≤(↑a.length:Int)) (.need ((List.drop k.toNat (List.take (↑a.length:Int).toNat a)).length≤100000) (.ret [.vec (.ae [.str,.int .i64] (List.drop (Int.toNat 0) (List.take k.toNat a))) 79,.vec (.ae [.str,.int .i64] (List.drop k.toNat (List.take (↑a.length:Int).toNat a))) 79] (.bh [.vec 0,.vec 1])))))))))):=by kernel_rfl
abbrev arO:=bU [nU,bo] [nU,nU] (fun(l,k,())=>[(l:List En).length≤100000,0≤(k:Int),(l=[]∨k≤(l.length:Int))]) (fun(l,k,())=>(List.take (Int.toNat k) l,List.drop (Int.toNat k) l,()))
abbrev arP:=bU [wD,bo] [wD,wD] (fun(l,k,())=>[(l:List Br).length≤100000,0≤(k:Int),(l=[]∨k≤(l.length:Int))]) (fun(l,k,())=>(List.take (Int.toNat k) l,List.drop (Int.toNat k) l,()))
def adr:aG:=[(99,aiM),(76,apx),(93,anF),(100,arO),(101,arP)]
def anQ:List (Nat×Norm):=[(7,⟨[],[1,2,3,6,7,8,9,34,35,36],0,[]⟩)]
theorem alG(l:Bool)(es:List En)(bs:List Br):run P adr.sum Tryd.f84 anQ (start Tryd.f84 [avN l es bs] [])=
 Tree.need (a6 es) (.need (a7 bs) (.ite (!cW l es bs) (.ret [.own [.s (.bool l),.s (.ro (.ae [.str,.str] es)),.s (.ro (.ae [.str,.int .i64] bs))] 73,.own [.s (.aI false),.emp,.emp] 73,.own [.s (.aI false),.emp,.emp] 73,.vec (.ints .i64 (aE es bs)) 3] (.bh [.agg [.s (.aI false),.emp,.emp],.agg [.s (.aI false),.emp,.emp],.s (.aZ .i64 4)])) (.ite (decide ((↑(aE es bs).length:Int)<2)) (.ret [.own [.s (.bool l),.s (.ro (.ae [.str,.str] es)),.s (.ro (.ae [.str,.int .i64] bs))] 73,.own [.s (.aI false),.emp,.emp] 73,.own [.s (.aI false),.emp,.emp] 73,.vec (.ints .i64 (aE es bs)) 3] (.bh [.agg [.s (.aI false),.emp,.emp],.agg [.s (.aI false),.emp,.emp],.s (.aZ .i64 4)])) (.need (a6 es) (.need (a7 bs) (.need (aD (bd es bs - (1:Int))) (.need (aD ((↑(aE es bs).length:Int) - (1:Int))) (.need ((0:Int)≤0) (.need ((0:Int)≤(↑(aE es bs).length:Int) - (1:Int)) (.need ((↑(0:Nat):Int)+((↑(aE es bs).length:Int) - (1:Int))≤(↑(aE es bs).length:Int)) (.at (.mk (sl 87 [(1,.ptr 0 0),(2,.ptr 1 0),(3,.ptr 2 0),(6,.s (.int .i64 0)),(7,.s (.int .i64 (bd es bs - (1:Int)))),(8,.s (.int .i64 0)),(9,.s (.int .i64 0)),(34,.part 3 0 (((↑(aE es bs).length:Int) - (1:Int)).toNat - Int.toNat 0)),(35,.s (.int .i64 (↑(((↑(aE es bs).length:Int) - (1:Int)).toNat - Int.toNat 0):Int))),(36,.s (.int .i64 0))]) [.own [.s (.bool l),.s (.ro (.ae [.str,.str] es)),.s (.ro (.ae [.str,.int .i64] bs))] 73,.own [.s (.bool false),.emp,.emp] 73,.own [.s (.bool false),.emp,.emp] 73,.vec (.ints .i64 (aE es bs)) 3] (hd Tryd.f84 7) (.mk none false 0 [] 0))))))))))))):=by kernel_rfl
def alH(l:Bool)(es:List En):List En:=if l=true then es else []
def alI(l:Bool)(bs:List Br):List Br:=if l=true then []else bs
noncomputable def arQ(l:Bool)(es:List En)(bs:List Br)(zs:List Int)(n:Nat)(first rest rB least i:Int):bz:=⟨sl 87 [(1,.ptr 0 0),(2,.ptr 1 0),(3,.ptr 2 0),(6,.s (.int .i64 first)),(7,.s (.int .i64 rest)),(8,.s (.int .i64 rB)),(9,.s (.int .i64 least)),(34,.part 3 0 n),(35,.s (.int .i64 (n:Int))),(36,.s (.int .i64 i))],
 [obN l es bs 73,obZ,obZ,.vec (.ints .i64 zs) 3],hd Tryd.f84 7,{}⟩
theorem aeV(l:Bool)(es:List En)(bs:List Br)(zs:List Int)(n:Nat)(first rest rB least i:Int):run P adr.sum Tryd.f84 anQ (arQ l es bs zs n first rest rB least i)=
 Tree.ite (decide (i<(↑n:Int))) (.need ((0:Int)≤i) (.need (i<(↑n:Int)) (.need (aD (first+zs.getD ((0:Nat)+i.toNat) 0)) (.need (aD (rest - zs.getD ((0:Nat)+i.toNat) 0)) (.ite (rB==0) (.need (aD (i+1)) (.need (aD (i+1)) (.at (.mk (sl 87 [(1,.ptr 0 0),(2,.ptr 1 0),(3,.ptr 2 0),(6,.s (.int .i64 (first+zs.getD ((0:Nat)+i.toNat) 0))),(7,.s (.int .i64 (rest - zs.getD ((0:Nat)+i.toNat) 0))),(8,.s (.int .i64 (i+1))),(9,.s (.int .i64 (imax (first+zs.getD ((0:Nat)+i.toNat) 0) (rest - zs.getD ((0:Nat)+i.toNat) 0)))),(34,.part 3 0 n),(35,.s (.int .i64 (↑n:Int))),(36,.s (.int .i64 (i+1)))]) [.own [.s (.bool l),.s (.ro (.ae [.str,.str] es)),.s (.ro (.ae [.str,.int .i64] bs))] 73,.own [.s (.bool false),.emp,.emp] 73,.own [.s (.bool false),.emp,.emp] 73,.vec (.ints .i64 zs) 3] (hd Tryd.f84 7) (.mk none false 0 [] 0))))) (.ite (decide (imax (first+zs.getD ((0:Nat)+i.toNat) 0) (rest - zs.getD ((0:Nat)+i.toNat) 0)<least)) (.need (aD (i+1)) (.need (aD (i+1)) (.at (.mk (sl 87 [(1,.ptr 0 0),(2,.ptr 1 0),(3,.ptr 2 0),(6,.s (.int .i64 (first+zs.getD ((0:Nat)+i.toNat) 0))),(7,.s (.int .i64 (rest - zs.getD ((0:Nat)+i.toNat) 0))),(8,.s (.int .i64 (i+1))),(9,.s (.int .i64 (imax (first+zs.getD ((0:Nat)+i.toNat) 0) (rest - zs.getD ((0:Nat)+i.toNat) 0)))),(34,.part 3 0 n),(35,.s (.int .i64 (↑n:Int))),(36,.s (.int .i64 (i+1)))]) [.own [.s (.bool l),.s (.ro (.ae [.str,.str] es)),.s (.ro (.ae [.str,.int .i64] bs))] 73,.own [.s (.bool false),.emp,.emp] 73,.own [.s (.bool false),.emp,.emp] 73,.vec (.ints .i64 zs) 3] (hd Tryd.f84 7) (.mk none false 0 [] 0))))) (.need (aD (i+1)) (.at (.mk (sl 87 [(1,.ptr 0 0),(2,.ptr 1 0),(3,.ptr 2 0),(6,.s (.int .i64 (first+zs.getD ((0:Nat)+i.toNat) 0))),(7,.s (.int .i64 (rest - zs.getD ((0:Nat)+i.toNat) 0))),(8,.s (.int .i64 rB)),(9,.s (.int .i64 least)),(34,.part 3 0 n),(35,.s (.int .i64 (↑n:Int))),(36,.s (.int .i64 (i+1)))]) [.own [.s (.bool l),.s (.ro (.ae [.str,.str] es)),.s (.ro (.ae [.str,.int .i64] bs))] 73,.own [.s (.bool false),.emp,.emp] 73,.own [.s (.bool false),.emp,.emp] 73,.vec (.ints .i64 zs) 3] (hd Tryd.f84 7) (.mk none false 0 [] 0))))))))))
 (.need (es.length≤100000) (.need ((0:bo.V)≤rB) (.need (es=[]∨rB≤(↑es.length:Int)) (.need (bs.length≤100000) (.need ((0:bo.V)≤rB) (.need (bs=[]∨rB≤(↑bs.length:Int)) (.ret [.own [.s (.bool l),.s (.ro (.ae [.str,.str] es)),.s (.ro (.ae [.str,.int .i64] bs))] 73,.own [.s (.bool l),.vec 6,.vec 8] 73,.own [.s (.bool l),.vec 7,.vec 9] 73,.vec (.ints .i64 zs) 3,.own [.s (.bool l),.vec 6,.vec 8] 73,.own [.s (.bool l),.vec 7,.vec 9] 73,.vec (.ae [.str,.str] (List.take rB.toNat es)) 34,.vec (.ae [.str,.str] (List.drop rB.toNat es)) 34,.vec (.ae [.str,.int .i64] (List.take rB.toNat bs)) 79,.vec (.ae [.str,.int .i64] (List.drop rB.toNat bs)) 79] (.bh [.agg [.s (.bool l),.vec 6,.vec 8],.agg [.s (.bool l),.vec 7,.vec 9],.s (.aZ .i64 0)])))))))):=by kernel_rfl
theorem ads{Z:ba}:dg P Z 68 [nU] [nU] (fun(l,())=>[(l:List En).length≤100000]) (fun(l,())=>(l,())):=by
 refine aw Tryd.func68 (by kernel_rfl) (by kernel_rfl) ?_
 rintro⟨(l:List En),⟨⟩⟩ _ ⟨(hl:l.length≤100000),_⟩ X hX hz
 refine go hz hX aG.Ok.nil Tryd.func68 (alE l) ⟨fun h=> ?_,fun _=>⟨by omega, ?_⟩⟩
 ·obtain rfl:=List.eq_nil_of_length_eq_zero h
  exact aU ([],()) rfl (by kernel_rfl)
 ·exact aU (l,()) rfl (by kernel_rfl)
theorem apB{Z:ba}:dg P Z 106 [wD] [wD] (fun(l,())=>[(l:List Br).length≤100000]) (fun(l,())=>(l,())):=by
 refine aw Tryd.func106 (by kernel_rfl) (by kernel_rfl) ?_
 rintro⟨(l:List Br),⟨⟩⟩ _ ⟨(hl:l.length≤100000),_⟩ X hX hz
 refine go hz hX aG.Ok.nil Tryd.func106 (alF l) ⟨fun h=> ?_,fun _=>⟨by omega, ?_⟩⟩
 ·obtain rfl:=List.eq_nil_of_length_eq_zero h
  exact aU ([],()) rfl (by kernel_rfl)
 ·exact aU (l,()) rfl (by kernel_rfl)
theorem xN{Z:ba}:adq.Ok P Z:=aG.Ok.cons ads.sum (aG.Ok.cons apB.sum aG.Ok.nil)
theorem alJ{Z:ba}:dg P Z 100 [nU,bo] [nU,nU] (fun(l,k,())=>[(l:List En).length≤100000,0≤(k:Int),(l=[]∨k≤(l.length:Int))]) (fun(l,k,())=>(List.take (Int.toNat k) l,List.drop (Int.toNat k) l,())):=by
 refine aw Tryd.func100 (by kernel_rfl) (by kernel_rfl) ?_
 rintro⟨(l:List En),(k:Int),⟨⟩⟩ _ ⟨(hl:l.length≤100000),(h0:0≤k),(hk:l=[]∨k≤(l.length:Int)),_⟩ X hX hz
 show Safe P 100 X (Ends [nU,nU] (l.take k.toNat,l.drop k.toNat,())) _
 refine go hz hX xN Tryd.func100 (ai0 l k) ⟨fun h=> ?_,fun h=> ?_⟩
 ·obtain rfl:l=[]:=List.eq_nil_of_length_eq_zero (by have:(l.length:Int)=0:=by simpa using h
                                                     omega)
  refine aU (rs:=[nU,nU]) ([],[],()) ?_ (by kernel_rfl)
  show(List.take k.toNat ([]:List En),List.drop k.toNat ([]:List En),())=([],[],())
  rw[List.take_nil,List.drop_nil]
 ·have hk:k≤(l.length:Int):=hk.elim (fun e=>by subst e;simp at h) id
  have e1:List.drop (Int.toNat 0) (List.take k.toNat l)=l.take k.toNat:=rfl
  have e2:List.drop k.toNat (List.take ((l.length:Int)).toNat l)=l.drop k.toNat:=by rw[List.take_of_length_le (by omega)]
  refine⟨by omega,h0,hk, ?_,h0,hk,by omega, ?_, ?_⟩
  ·rw[e1,List.length_take];omega
  ·rw[e2,List.length_drop];omega
  ·exact aU (List.drop (Int.toNat 0) (List.take k.toNat l),List.drop k.toNat (List.take ((l.length:Int)).toNat l),()) (by rw[e2];rfl) (by kernel_rfl)
theorem alK{Z:ba}:dg P Z 101 [wD,bo] [wD,wD] (fun(l,k,())=>[(l:List Br).length≤100000,0≤(k:Int),(l=[]∨k≤(l.length:Int))]) (fun(l,k,())=>(List.take (Int.toNat k) l,List.drop (Int.toNat k) l,())):=by
 refine aw Tryd.func101 (by kernel_rfl) (by kernel_rfl) ?_
 rintro⟨(l:List Br),(k:Int),⟨⟩⟩ _ ⟨(hl:l.length≤100000),(h0:0≤k),(hk:l=[]∨k≤(l.length:Int)),_⟩ X hX hz
 show Safe P 101 X (Ends [wD,wD] (l.take k.toNat,l.drop k.toNat,())) _
 refine go hz hX xN Tryd.func101 (ai1 l k) ⟨fun h=> ?_,fun h=> ?_⟩
 ·obtain rfl:l=[]:=List.eq_nil_of_length_eq_zero (by have:(l.length:Int)=0:=by simpa using h
                                                     omega)
  refine aU (rs:=[wD,wD]) ([],[],()) ?_ (by kernel_rfl)
  show(List.take k.toNat ([]:List Br),List.drop k.toNat ([]:List Br),())=([],[],())
  rw[List.take_nil,List.drop_nil]
 ·have hk:k≤(l.length:Int):=hk.elim (fun e=>by subst e;simp at h) id
  have e1:List.drop (Int.toNat 0) (List.take k.toNat l)=l.take k.toNat:=rfl
  have e2:List.drop k.toNat (List.take ((l.length:Int)).toNat l)=l.drop k.toNat:=by rw[List.take_of_length_le (by omega)]
  refine⟨by omega,h0,hk, ?_,h0,hk,by omega, ?_, ?_⟩
  ·rw[e1,List.length_take];omega
  ·rw[e2,List.length_drop];omega
  ·exact aU (List.drop (Int.toNat 0) (List.take k.toNat l),List.drop k.toNat (List.take ((l.length:Int)).toNat l),()) (by rw[e2];rfl) (by kernel_rfl)
def jg(zs:List Int)(k:Nat):Int:=imax (zs.take k).sum (zs.sum - (zs.take k).sum)
def gJ(zs:List Int):Nat→Nat×Int
 |0=>(0,0)
 |k+1=>if(gJ zs k).1=0∨jg zs (k+1)<(gJ zs k).2 then(k+1,jg zs (k+1))else gJ zs k
theorem nI(zs:List Int):∀k,(gJ zs k).1≤k
 |0=>Nat.le_refl _
 |k+1=>by
  have:=nI zs k
  rw[gJ]
  split
  ·exact Nat.le_refl _
  ·omega
theorem nh(zs:List Int):∀k,0<k→0<(gJ zs k).1
 |0,h=>absurd h (by omega)
 |k+1,_=>by
  rw[gJ]
  split
  ·exact Nat.succ_pos _
  ·rename_i h
   exact Nat.pos_of_ne_zero (fun e=>h (.inl e))
def dI(es:List En)(bs:List Br):Nat:=(gJ (aE es bs) (es.length+bs.length - 1)).1
def di(l:Bool)(es:List En)(bs:List Br):Bool:=cW l es bs&&decide (2≤es.length+bs.length)
def bL(l:Bool)(es:List En)(bs:List Br):Bool:=di l es bs&&l
def aY(l:Bool)(es:List En)(bs:List Br):List En:=if di l es bs=true then es.take (dI es bs)else []
def cI(l:Bool)(es:List En)(bs:List Br):List En:=if di l es bs=true then es.drop (dI es bs)else []
def a8(l:Bool)(es:List En)(bs:List Br):List Br:=if di l es bs=true then bs.take (dI es bs)else []
def cQ(l:Bool)(es:List En)(bs:List Br):List Br:=if di l es bs=true then bs.drop (dI es bs)else []
def spC(l:Bool)(es:List En)(bs:List Br):Int:=if di l es bs=true then 0 else 4
abbrev spY(l:Bool)(es:List En)(bs:List Br):AL [ej,ej,bo]:=((bL l es bs,aY l es bs,a8 l es bs,()),(bL l es bs,cI l es bs,cQ l es bs,()),spC l es bs,())
theorem apC{l:Bool}{es:List En}{bs:List Br}(h:di l es bs=false):spY l es bs=((false,[],[],()),(false,[],[],()),4,()):=by
 simp[spY,bL,aY,cI,a8,cQ,spC,h]
 rfl
theorem alL{l:Bool}{es:List En}{bs:List Br}(h:di l es bs=true):spY l es bs=((l,es.take (dI es bs),bs.take (dI es bs),()),(l,es.drop (dI es bs),bs.drop (dI es bs),()),0,()):=by
 simp[spY,bL,aY,cI,a8,cQ,spC,h]
 rfl
theorem vk(es:List En)(bs:List Br):(aE es bs).length=es.length+bs.length:=by simp[aE]
theorem agD{zs:List Int}(h:∀x∈zs,0≤x∧x≤2002)(hl:zs.length≤2000)(k:Nat):0≤(zs.take k).sum∧(zs.take k).sum≤4004000:=by
 have:=nH (l:=zs.take k) (m:=2002) (fun x hx=>h x (List.mem_of_mem_take hx)) (by omega)
 have h3:(zs.take k).length≤2000:=by rw[List.length_take];omega
 omega
theorem ai2{Z:ba}:dg P Z 84 [ej] [ej,ej,bo] (fun((_,es,bs,()),())=>[a6 es,a7 bs])
 (fun((l,es,bs,()),())=>((bL l es bs,aY l es bs,a8 l es bs,()),(bL l es bs,cI l es bs,cQ l es bs,()),spC l es bs,())):=by
 refine aw Tryd.func84 (by kernel_rfl) (by kernel_rfl) ?_
 rintro⟨⟨(l:Bool),(es:List En),(bs:List Br),⟨⟩⟩,⟨⟩⟩ _ ⟨(he:a6 es),(hb:a7 bs),_⟩ X hX hz
 have hT:adr.Ok P Z:=aG.Ok.cons qi.sum (aG.Ok.cons adg.sum (aG.Ok.cons aeL.sum (aG.Ok.cons alJ.sum (aG.Ok.cons alK.sum aG.Ok.nil))))
 show Safe P 84 X (Ends [ej,ej,bo] (spY l es bs)) _
 have hle:=he.1
 have hlb:=hb.1
 have hlen:=vk es bs
 have hr:=xH he hb
 have lj:=agD hr (by omega)
 have at5:=lj (aE es bs).length
 rw[List.take_length]at at5
 have bE:=na es bs
 have loop:di l es bs=true→∀(n k:Nat),k+n=es.length+bs.length - 1→Safe P 84 X (Ends [ej,ej,bo] (spY l es bs))
  (arQ l es bs (aE es bs) (es.length+bs.length - 1) ((aE es bs).take k).sum ((aE es bs).sum - ((aE es bs).take k).sum) ((gJ (aE es bs) k).1:Int) (gJ (aE es bs) k).2 (k:Int)):=by
  intro jr n
  have arR:=jr
  simp only[di,Bool.and_eq_true,decide_eq_true_eq]at arR
  obtain⟨hm,h2⟩:=arR
  obtain⟨m1,m2,m3,m4⟩:=dD hm
  induction n with
  |zero=>
   intro k hk
   have au8:=nI (aE es bs) k
   have hE:es=[]∨((gJ (aE es bs) k).1:Int)≤(es.length:Int):=by
    cases l
    ·exact .inl (m2 rfl)
    ·have:=m1 rfl
     subst this
     simp only[List.length_nil]at hk
     exact .inr (by omega)
   have hB:bs=[]∨((gJ (aE es bs) k).1:Int)≤(bs.length:Int):=by
    cases l
    ·have:=m2 rfl
     subst this
     simp only[List.length_nil]at hk
     exact .inr (by omega)
    ·exact .inl (m1 rfl)
   refine go hz hX hT Tryd.func84 (aeV l es bs _ _ _ _ _ _ k) ⟨fun h=>absurd (of_decide_eq_true h) (by omega),fun h=>⟨by omega,Int.natCast_nonneg _,hE,by omega,Int.natCast_nonneg _,hB, ?_⟩⟩
   have arS:(gJ (aE es bs) k).1=dI es bs:=by rw[dI,show k=es.length+bs.length - 1 from by omega]
   rw[arS,alL jr]
   exact aU ((l,es.take (dI es bs),bs.take (dI es bs),()),(l,es.drop (dI es bs),bs.drop (dI es bs),()),0,()) rfl (by kernel_rfl)
  |succ n ih=>
   intro k hk
   have h1:=lj k
   have h3:0≤(aE es bs).getD k 0∧(aE es bs).getD k 0≤2002:=by
    rw[bg (by omega)];exact hr _ (List.getElem_mem _)
   have kD:=ix (l:=aE es bs) (k:=k) (by omega)
   have hc:imax (((aE es bs).take k).sum+(aE es bs).getD k 0) ((aE es bs).sum - ((aE es bs).take k).sum - (aE es bs).getD k 0)=jg (aE es bs) (k+1):=by
    rw[jg,←kD];congr 1;omega
   have next:=ih (k+1) (by omega)
   rw[←kD,show(aE es bs).sum - (((aE es bs).take k).sum+(aE es bs).getD k 0)=(aE es bs).sum - ((aE es bs).take k).sum - (aE es bs).getD k 0 from by omega]at next
   refine go hz hX hT Tryd.func84 (aeV l es bs _ _ _ _ _ _ k) ?_
   simp only[Int.toNat_natCast,Nat.zero_add,hc]
   refine⟨fun h=>⟨by omega,by omega,⟨by omega,by omega⟩,⟨by omega,by omega⟩,fun h0=> ?_,fun h0=>⟨fun bc=> ?_,fun bc=> ?_⟩⟩,fun h=>absurd (of_decide_eq_false h) (by omega)⟩
   ·have h0:(gJ (aE es bs) k).1=0:=by have:((gJ (aE es bs) k).1:Int)=0:=by simpa using h0
                                      omega
    rw[gJ,if_pos (.inl h0)]at next
    exact⟨⟨by omega,by omega⟩,⟨by omega,by omega⟩,next⟩
   ·rw[gJ,if_pos (.inr (of_decide_eq_true bc))]at next
    exact⟨⟨by omega,by omega⟩,⟨by omega,by omega⟩,next⟩
   ·have h0:¬((gJ (aE es bs) k).1=0∨jg (aE es bs) (k+1)<(gJ (aE es bs) k).2):=by
     rintro(h|h)
     ·simp[h]at h0
     ·exact of_decide_eq_false bc h
    rw[gJ,if_neg h0]at next
    exact⟨⟨by omega,by omega⟩,next⟩
 have bad:di l es bs=false→spY l es bs=((false,[],[],()),(false,[],[],()),4,()):=apC
 refine go hz hX hT Tryd.func84 (alG l es bs) ⟨he,hb,fun h=>aU ((false,[],[],()),(false,[],[],()),4,()) (bad ?_) (by kernel_rfl),fun h=>⟨fun h2=>aU ((false,[],[],()),(false,[],[],()),4,()) (bad ?_) (by kernel_rfl),fun h2=> ?_⟩⟩
 ·have h:cW l es bs=false:=by simpa using h
  simp[di,h]
 ·have h2:=of_decide_eq_true h2
  simp only[di,Bool.and_eq_false_iff,decide_eq_false_iff_not]
  exact .inr (by omega)
 ·have h:cW l es bs=true:=by simpa using h
  have h2:=of_decide_eq_false h2
  have jr:di l es bs=true:=by simp only[di,h,Bool.true_and,decide_eq_true_eq];omega
  refine⟨he,hb,⟨by omega,by omega⟩,⟨by omega,by omega⟩,by omega,by omega,by omega, ?_⟩
  have:=loop jr (es.length+bs.length - 1) 0 (by omega)
  have e1:((((aE es bs).length:Int) - 1).toNat - Int.toNat 0)=es.length+bs.length - 1:=by omega
  rw[e1,bE]
  simp only[List.take_zero,List.sum_nil,Int.sub_zero,gJ]at this
  rw[show 1+(aE es bs).sum - 1=(aE es bs).sum from by omega]
  exact this
theorem abo{es:List En}(h:a6 es)(k:Nat):a6 (es.take k):=⟨by have:=h.1;rw[List.length_take];omega,fun x hx=>h.2 x (List.mem_of_mem_take hx)⟩
theorem abp{es:List Br}(h:a7 es)(k:Nat):a7 (es.take k):=⟨by have:=h.1;rw[List.length_take];omega,fun x hx=>h.2 x (List.mem_of_mem_take hx)⟩
theorem abq{es:List En}(h:a6 es)(k:Nat):a6 (es.drop k):=⟨by have:=h.1;rw[List.length_drop];omega,fun x hx=>h.2 x (List.mem_of_mem_drop hx)⟩
theorem abr{es:List Br}(h:a7 es)(k:Nat):a7 (es.drop k):=⟨by have:=h.1;rw[List.length_drop];omega,fun x hx=>h.2 x (List.mem_of_mem_drop hx)⟩
theorem ia:a6 []:=⟨by simp,fun x hx=>by simp at hx⟩
theorem vn:a7 []:=⟨by simp,fun x hx=>by simp at hx⟩
theorem abt(zs:List Int)(k:Nat):(zs.drop k).sum=zs.sum - (zs.take k).sum:=by
 have:(zs.take k++zs.drop k).sum=zs.sum:=by rw[List.take_append_drop]
 rw[List.sum_append]at this
 omega
theorem agE{l:Bool}{es:List En}{bs:List Br}(m1:l=true→bs=[])(m2:l=false→es=[])(k:Nat):
 alH l (es.take k)=es.take k∧alI l (bs.take k)=bs.take k∧alH l (es.drop k)=es.drop k∧alI l (bs.drop k)=bs.drop k∧
 bd (es.take k) (bs.take k)=1+((aE es bs).take k).sum∧bd (es.drop k) (bs.drop k)=1+((aE es bs).sum - ((aE es bs).take k).sum):=by
 rw[←abt]
 cases l
 ·obtain rfl:=m2 rfl
  simp[alH,alI,aE,bd]
 ·obtain rfl:=m1 rfl
  simp[alH,alI,aE,bd]
theorem ai3(a b:Int):imax (1+a) (1+b)=1+imax a b:=by
 unfold imax;split<;>split<;>omega
end Lf
namespace Lf
open Go Go.Sx Go.Proofs
abbrev zt:=bU [nU,dG] [bo,ch] (fun(l,_,())=>[(l:List En).length≤1000000,iv (bA l)]) (fun(l,key,())=>((b9 (bA l) key:Nat),je (bA l) key,()))
def alM:aG:=[(58,zt)]
theorem ai4(l:List En)(key:ByteArray):run P alM.sum Tryd.f38 [] (start Tryd.f38 [.s (.ro (.ae cE l)),.s (.str key)] [])=
 Tree.need (l.length≤1000000) (.need (iv (bA l)) (.ite (!je (bA l) key) (.ret [] (.bh [.s (.str ByteArray.empty),.s (.aI false)])) (.need ((0:Int)≤(↑(b9 (bA l) key):bo.V)) (.need ((↑(b9 (bA l) key):bo.V)<(↑l.length:Int)) (.ret [] (.bh [.s (.str (l.getD (Int.toNat (↑(b9 (bA l) key):bo.V)) (CL.d [.str,.str])).snd.fst),.s (.aI true)])))))):=by kernel_rfl
theorem adt(l:List En)(i j:Int):run P kJ.sum Tryd.f70 [] (start Tryd.f70 [.vec 0,.s (.int .i64 i),.s (.int .i64 j)] [.vec (.ae cE l) eE])=
 Tree.need ((0:Int)≤i) (.need (i≤j) (.need (j≤(↑l.length:Int)) (.need ((↑(0:Nat):Int)+(↑l.length:Int)≤(↑l.length:Int)) (.ite (i==j) (.ret [.vec (.ae [.str,.str] l) 34] (.vec 0)) (.need ((0:Int)≤0) (.need ((0:Int)≤i) (.need ((↑(0:Nat):Int)+i≤(↑l.length:Int)) (.need ((0:Int)≤j) (.need (j≤(↑l.length:Int)) (.need ((↑(0:Nat):Int)+(↑l.length:Int)≤(↑l.length:Int)) (.need ((0:Nat)+(i.toNat - Int.toNat 0)+(List.drop ((0:Nat)+j.toNat) (List.take ((0:Nat)+j.toNat+((↑l.length:Int).toNat - j.toNat)) l)).length≤l.length) (.need ((0:Int)≤(↑(i.toNat - Int.toNat (0:Int)+(List.drop ((0:Nat)+j.toNat) (List.take ((0:Nat)+j.toNat+((↑l.length:Int).toNat - j.toNat)) l)).length):Int)) (.need ((↑(i.toNat - Int.toNat (0:Int)+(List.drop ((0:Nat)+j.toNat) (List.take ((0:Nat)+j.toNat+((↑l.length:Int).toNat - j.toNat)) l)).length):Int)≤(↑l.length:Int)) (.need ((↑(0:Nat):Int)+(↑l.length:Int)≤(↑(over l ((0:Nat)+(i.toNat - Int.toNat 0)) (List.drop ((0:Nat)+j.toNat) (List.take ((0:Nat)+j.toNat+((↑l.length:Int).toNat - j.toNat)) l)).length (List.drop ((0:Nat)+j.toNat) (List.take ((0:Nat)+j.toNat+((↑l.length:Int).toNat - j.toNat)) l))).length:Int)) (.ret [.vec (.ae [.str,.str] (over (over l ((0:Nat)+(i.toNat - Int.toNat 0)) (List.drop ((0:Nat)+j.toNat) (List.take ((0:Nat)+j.toNat+((↑l.length:Int).toNat - j.toNat)) l)).length (List.drop ((0:Nat)+j.toNat) (List.take ((0:Nat)+j.toNat+((↑l.length:Int).toNat - j.toNat)) l))) ((0:Nat)+(↑(i.toNat - Int.toNat (0:Int)+(List.drop ((0:Nat)+j.toNat) (List.take ((0:Nat)+j.toNat+((↑l.length:Int).toNat - j.toNat)) l)).length):Int).toNat) ((↑l.length:Int).toNat - (↑(i.toNat - Int.toNat (0:Int)+(List.drop ((0:Nat)+j.toNat) (List.take ((0:Nat)+j.toNat+((↑l.length:Int).toNat - j.toNat)) l)).length):Int).toNat) (List.replicate ((↑l.length:Int).toNat - (↑(i.toNat - Int.toNat (0:Int)+(List.drop ((0:Nat)+j.toNat) (List.take ((0:Nat)+j.toNat+((↑l.length:Int).toNat - j.toNat)) l)).length):Int).toNat) (CL.d [.str,.str])))) 34] (.part 0 0 (i.toNat - Int.toNat (0:Int)+(List.drop ((0:Nat)+j.toNat) (List.take ((0:Nat)+j.toNat+((↑l.length:Int).toNat - j.toNat)) l)).length))))))))))))))))):=by kernel_rfl
theorem drop_cons{α:Type}{l:List α}{k:Nat}(d:α)(h:k<l.length):l.drop k=l.getD k d::l.drop (k+1):=by rw[List.drop_eq_getElem_cons h,bg h]
abbrev zV(key:ByteArray)(x:En):Bool:=decide (x.1=key)
def o9(l:List En)(key:ByteArray):ByteArray:=match l.find? (zV key)with|some x=>x.2.1|none=>ByteArray.empty
def ni(l:List En)(key:ByteArray):Bool:=(l.find? (zV key)).isSome
theorem aeW{L:List ad}{s:ByteArray}{b:Bool}:Ends [dG,ch] (s,b,()) L (.bh [.s (.str s),.s (.aI b)]):=rfl
theorem aeX{l:List En}(hs:iv (bA l)){i j:Nat}(hi:i<l.length)(hj:j<l.length)(h:(l.getD i dE).1=(l.getD j dE).1):i=j:=by
 have hk:∀t,(bA l).getD t ByteArray.empty=(l.getD t dE).1:=fun t=>cq l oZ dE t
 have hn:(bA l).length=l.length:=List.length_map _
 rcases Nat.lt_trichotomy i j with h1|h1|h1
 ·have:=hs i j h1 (by omega);rw[hk,hk,h,dC]at this;cases this
 ·exact h1
 ·have:=hs j i h1 (by omega);rw[hk,hk,h,dC]at this;cases this
theorem aeY{l:List En}{key:ByteArray}(hs:iv (bA l)):ni l key=je (bA l) key∧(je (bA l) key=true→b9 (bA l) key<l.length∧o9 l key=(l.getD (b9 (bA l) key) dE).2.1):=by
 have hk:∀t,(bA l).getD t ByteArray.empty=(l.getD t dE).1:=fun t=>cq l oZ dE t
 have hn:(bA l).length=l.length:=List.length_map _
 cases ha:je (bA l) key
 ·refine⟨?_,fun h=>by cases h⟩
  cases hf:l.find? (zV key)with
  |none=>rw[ni,hf];rfl
  |some x=>
   exfalso
   have h1:=List.find?_some hf
   obtain⟨i,hi,rfl⟩:=List.getElem_of_mem (List.mem_of_find?_eq_some hf)
   have h1:l[i].1=key:=of_decide_eq_true h1
   have h2:(l.getD i dE).1=key:=by rw[bg hi];exact h1
   rcases Nat.lt_or_ge i (b9 (bA l) key)with h3|h3
   ·have:=adl h3;rw[hk,h2,dC]at this;cases this
   ·rcases Nat.eq_or_lt_of_le h3 with h4|h4
    ·have:je (bA l) key=true:=ju.2 ⟨by omega,by rw[hk,h4];exact h2⟩
     rw[ha]at this;cases this
    ·have h5:=aiT hs (key:=key) (t:=b9 (bA l) key) (Nat.le_refl _) (by omega)
     have h6:=hs _ _ h4 (by omega)
     rw[hk i,h2]at h6
     rw[h6]at h5;cases h5
 ·obtain⟨h1,h2⟩:=ju.1 ha
  rw[hk]at h2
  rw[hn]at h1
  cases hf:l.find? (zV key)with
  |none=>
   exfalso
   have:=List.find?_eq_none.1 hf (l.getD (b9 (bA l) key) dE) (by rw[bg h1];exact List.getElem_mem _)
   exact this (decide_eq_true h2)
  |some x=>
   obtain⟨i,hi,rfl⟩:=List.getElem_of_mem (List.mem_of_find?_eq_some hf)
   have h3:=List.find?_some hf
   have h3:l[i].1=key:=of_decide_eq_true h3
   have e:i=b9 (bA l) key:=aeX hs hi h1 (by rw[h2,bg hi];exact h3)
   subst e
   exact⟨by rw[ni,hf];rfl,fun _=>⟨h1,by rw[o9,hf,bg hi]⟩⟩
theorem alN{Z:ba}:dg P Z 38 [nU,dG] [dG,ch] (fun(l,_,())=>[(l:List En).length≤1000000,iv (bA l)]) (fun(l,key,())=>(o9 l key,ni l key,())):=by
 refine aw Tryd.func38 (by kernel_rfl) (by kernel_rfl) ?_
 rintro⟨(l:List En),(key:ByteArray),⟨⟩⟩ _ ⟨(hl:l.length≤1000000),(hs:iv (bA l)),_⟩ X hX hz
 show Safe P 38 X (Ends [dG,ch] (o9 l key,ni l key,())) _
 obtain⟨h1,h2⟩:=aeY (key:=key) hs
 refine go hz hX (aG.Ok.cons rz.sum aG.Ok.nil) Tryd.func38 (ai4 l key) ⟨hl,hs,fun h=> ?_,fun h=> ?_⟩
 ·have h:je (bA l) key=false:=by simpa using h
  have e2:ni l key=false:=by rw[h1,h]
  have e1:o9 l key=ByteArray.empty:=by
   cases hf:l.find? (zV key)with
   |none=>rw[o9,hf]
   |some x=>rw[ni,hf]at e2;cases e2
  rw[e1,e2];exact aeW
 ·have h:je (bA l) key=true:=by simpa using h
  obtain⟨h3,h4⟩:=h2 h
  rw[h4,h1,h]
  refine⟨Int.natCast_nonneg _, ?_,aeW⟩
  show((b9 (bA l) key:Nat):Int)<_;omega
def vp(key val:ByteArray):Bool→List En→List En
 |dn,[]=>if dn=true then []else [(key,val,())]
 |dn,x::r=>if dn=false∧slt x.1 key=false then(if x.1=key then(key,val,())::vp key val true r else(key,val,())::x::vp key val true r)else x::vp key val dn r
def cw(l:List En)(key:ByteArray):List En:=l.filter fun x=> !zV key x
def gR(l:List En)(key:ByteArray):Bool:=decide (((cw l key).length:Int)<(l.length:Int))
theorem agF(x:En)(r:List En)(key:ByteArray):cw (x::r) key=if(!zV key x)=true then x::cw r key else cw r key:=by
 unfold cw;rw[List.filter_cons]
end Lf
namespace Lf
open Go Go.Sx Go.Proofs
abbrev wH(l:List En)(j:Int):List En:=List.drop ((0:Nat)+j.toNat) (List.take ((0:Nat)+j.toNat+(((l.length:Int)).toNat - j.toNat)) l)
abbrev rC(l:List En)(i j:Int):Nat:=i.toNat - Int.toNat (0:Int)+(wH l j).length
abbrev agG(l:List En)(i j:Int):List En:=over (over l ((0:Nat)+(i.toNat - Int.toNat (0:Int))) (wH l j).length (wH l j)) ((0:Nat)+((rC l i j:Nat):Int).toNat) (((l.length:Int)).toNat - ((rC l i j:Nat):Int).toNat) (List.replicate (((l.length:Int)).toNat - ((rC l i j:Nat):Int).toNat) (CL.d cE))
def aeZ:Spec (List En×Int×Int):=⟨fun x=>[.vec 0,.s (.int .i64 x.2.1),.s (.int .i64 x.2.2)],fun x=>[.vec (.ae cE x.1) eE],fun x=>[0≤x.2.1,x.2.1<x.2.2,x.2.2≤((x.1.length:Nat):Int)],fun x=>[.vec (.ae cE (agG x.1 x.2.1 x.2.2)) eE],fun x=>.part 0 0 (rC x.1 x.2.1 x.2.2)⟩
def arT:List AV→RM ((List En×Int×Int)×List Nat)
 |[.vec id,.s (.int .i64 i),.s (.int .i64 j)]=>.look id fun
  |some (.vec (.ae [.str,.str] l) _)=>.ret ((l,i,j),[id])
  |_=>.fail "delete: no row"
 |_=>.fail "delete"
def ai5:aG:=[(58,zt),(68,apA),(70,dm aeZ arT)]
theorem alO(l:List En)(key:ByteArray):run P ai5.sum Tryd.f52 [] (start Tryd.f52 [.s (.ro (.ae cE l)),.s (.str key)] [])=
 Tree.need (l.length≤1000000) (.need (iv (bA l)) (.need (l.length≤100000) (.ite (je (bA l) key) (.need (aD ((↑(b9 (bA l) key):bo.V)+1)) (.need (bu (some [AV.vec 0,.s (.int .i64 (↑(b9 (bA l) key):bo.V)),.s (.int .i64 ((↑(b9 (bA l) key):bo.V)+1))])) (.need (bu (some [ad.vec (.ae [.str,.str] l) 34])) (.need ((0:Int)≤(↑(b9 (bA l) key):bo.V)) (.need ((↑(b9 (bA l) key):bo.V)<(↑(b9 (bA l) key):bo.V)+1) (.need ((↑(b9 (bA l) key):bo.V)+1≤(↑l.length:Int)) (.ret [.vec (.ae [.str,.str] (agG l (↑(b9 (bA l) key):bo.V) ((↑(b9 (bA l) key):bo.V)+1))) 34] (.bh [.part 0 0 (rC l (↑(b9 (bA l) key):bo.V) ((↑(b9 (bA l) key):bo.V)+1)),.s (.bool (je (bA l) key))])))))))) (.ret [.vec (.ae [.str,.str] l) 34] (.bh [.vec 0,.s (.bool (je (bA l) key))]))))):=by kernel_rfl
theorem agH{Z:ba}:js P Z 70 aeZ:=by
 refine aP Tryd.func70 (by kernel_rfl) (fun x=>Nat.le_of_ble_eq_true (by kernel_rfl)) ?_
 rintro⟨(l:List En),(i:Int),(j:Int)⟩ ⟨(h1:0≤i),(h2:i<j),(h3:j≤(l.length:Int)),_⟩ X hX hz
 have e1:(wH l j).length=l.length - j.toNat:=by simp only[wH,List.length_drop,List.length_take];omega
 refine eG hz hX (by simp) aG.Ok.nil Tryd.func70 (adt l i j) ⟨h1,by omega,h3,by omega,fun h=>absurd h (by simp;omega),fun _=>⟨by omega,h1,by omega,by omega,h3,by omega, ?_, ?_, ?_, ?_,⟨⟨[],[0],1,[]⟩,Nat.le_refl _, ?_⟩⟩⟩
 ·show 0+(i.toNat - Int.toNat 0)+(wH l j).length≤l.length;rw[e1];omega
 ·show(0:Int)≤((rC l i j:Nat):Int);omega
 ·show((rC l i j:Nat):Int)≤_;simp only[rC,e1];omega
 ·show((0:Nat):Int)+(l.length:Int)≤((over l (0+(i.toNat - Int.toNat 0)) (wH l j).length (wH l j)).length:Int)
  simp only[over,List.length_append,List.length_take,List.length_drop,e1];omega
 ·show Norm.run _ _=some ⟨[.part 0 0 (rC l i j)],[.vec (.ae cE (agG l i j)) eE],[],{}⟩
  kernel_rfl
theorem ai6{l:List En}{key:ByteArray}(hs:iv (bA l)):(je (bA l) key=false→cw l key=l)∧(je (bA l) key=true→cw l key=l.take (b9 (bA l) key)++l.drop (b9 (bA l) key+1)):=by
 have hk:∀t,(bA l).getD t ByteArray.empty=(l.getD t dE).1:=fun t=>cq l oZ dE t
 have hn:(bA l).length=l.length:=List.length_map _
 obtain⟨f1,f2⟩:=aeY (key:=key) hs
 refine⟨fun h=> ?_,fun h=> ?_⟩
 ·rw[h]at f1
  refine List.filter_eq_self.2 fun x hx=> ?_
  have:l.find? (zV key)=none:=by
   cases hf:l.find? (zV key)with
   |none=>rfl
   |some y=>rw[ni,hf]at f1;cases f1
  have:=List.find?_eq_none.1 this x hx
  cases hb:zV key x
  ·rfl
  ·exact absurd hb this
 ·obtain⟨h1,h2⟩:=ju.1 h
  rw[hk]at h2
  rw[hn]at h1
  have e:l=l.take (b9 (bA l) key)++l.getD (b9 (bA l) key) dE::l.drop (b9 (bA l) key+1):=by rw[←drop_cons dE h1,List.take_append_drop]
  have other:∀i,i<l.length→i≠b9 (bA l) key→(!zV key (l.getD i dE))=true:=fun i hi cg=>by
   cases hb:zV key (l.getD i dE)
   ·rfl
   ·exact absurd (aeX hs hi h1 ((show(l.getD i dE).1=key from of_decide_eq_true hb).trans h2.symm)) cg
  have g1:cw (l.take (b9 (bA l) key)) key=l.take (b9 (bA l) key):=by
   refine List.filter_eq_self.2 fun x hx=> ?_
   obtain⟨i,hi,rfl⟩:=List.getElem_of_mem hx
   rw[List.length_take]at hi
   have:=other i (by omega) (by omega)
   rw[bg (by omega)]at this
   rw[List.getElem_take];exact this
  have g2:cw (l.drop (b9 (bA l) key+1)) key=l.drop (b9 (bA l) key+1):=by
   refine List.filter_eq_self.2 fun x hx=> ?_
   obtain⟨i,hi,rfl⟩:=List.getElem_of_mem hx
   rw[List.length_drop]at hi
   have:=other (b9 (bA l) key+1+i) (by omega) (by omega)
   rw[bg (by omega)]at this
   rw[List.getElem_drop];exact this
  have app:∀a b:List En,cw (a++b) key=cw a key++cw b key:=fun a b=>List.filter_append ..
  have:cw l key=cw (l.take (b9 (bA l) key)++l.getD (b9 (bA l) key) dE::l.drop (b9 (bA l) key+1)) key:=by rw[←e]
  rw[this,app,agF,if_neg (show¬(!decide ((l.getD (b9 (bA l) key) dE).1=key))=true from by rw[decide_eq_true h2];simp),g1,g2]
theorem alP{l:List En}{key:ByteArray}(hs:iv (bA l)):gR l key=je (bA l) key:=by
 obtain⟨h1,h2⟩:=ai6 (key:=key) hs
 cases ha:je (bA l) key
 ·rw[gR,h1 ha];simp
 ·obtain⟨h3,_⟩:=ju.1 ha
  rw[List.length_map]at h3
  rw[gR,h2 ha]
  simp only[List.length_append,List.length_take,List.length_drop,decide_eq_true_eq]
  omega
theorem agI{l:List En}{k:Nat}(h:k<l.length):(agG l (k:Int) ((k:Int)+1)).take (rC l (k:Int) ((k:Int)+1))=l.take k++l.drop (k+1):=by
 have e0:wH l ((k:Int)+1)=l.drop (k+1):=by
  simp only[wH]
  rw[show 0+((k:Int)+1).toNat=k+1 from by omega,List.take_of_length_le (by omega)]
 have e1:rC l (k:Int) ((k:Int)+1)=l.length - 1:=by
  simp only[rC,e0,List.length_drop];omega
 simp only[agG,e0,e1,over]
 rw[show 0+((k:Int).toNat - Int.toNat 0)=k from by omega,show 0+(((l.length - 1:Nat):Int)).toNat=l.length - 1 from by omega,show k+(l.drop (k+1)).length=l.length - 1 from by rw[List.length_drop];omega]
 rw[List.take_of_length_le (l:=l.drop (k+1)) (Nat.le_refl _)]
 have hlen:(l.take k++l.drop (k+1)).length=l.length - 1:=by simp only[List.length_append,List.length_take,List.length_drop];omega
 rw[List.append_assoc,List.append_assoc,←List.append_assoc (l.take k),List.take_left' hlen,List.take_left' hlen]
theorem ai7{Z:ba}:dg P Z 52 [nU,dG] [nU,ch] (fun(l,_,())=>[(l:List En).length≤100000,iv (bA l)]) (fun(l,key,())=>(cw l key,gR l key,())):=by
 refine aw Tryd.func52 (by kernel_rfl) (by kernel_rfl) ?_
 rintro⟨(l:List En),(key:ByteArray),⟨⟩⟩ _ ⟨(hl:l.length≤100000),(hs:iv (bA l)),_⟩ X hX hz
 show Safe P 52 X (Ends [nU,ch] (cw l key,gR l key,())) _
 have hT:ai5.Ok P Z:=aG.Ok.cons rz.sum (aG.Ok.cons ads.sum (aG.Ok.cons (agH.sum arT) aG.Ok.nil))
 obtain⟨d1,d2⟩:=ai6 (key:=key) hs
 have hb:=alP (key:=key) hs
 have hle:=uX (bA l) key
 rw[List.length_map]at hle
 refine go hz hX hT Tryd.func52 (alO l key) ⟨by omega,hs,hl,fun h=> ?_,fun h=> ?_⟩
 ·obtain⟨h3,_⟩:=ju.1 h
  rw[List.length_map]at h3
  refine⟨⟨?_, ?_⟩,rfl,rfl, ?_, ?_, ?_, ?_⟩
  ·show(-9223372036854775808:Int)≤((b9 (bA l) key:Nat):Int)+1;omega
  ·show((b9 (bA l) key:Nat):Int)+1≤(9223372036854775807:Int);omega
  ·show(0:Int)≤((b9 (bA l) key:Nat):Int);omega
  ·show((b9 (bA l) key:Nat):Int)<((b9 (bA l) key:Nat):Int)+1;omega
  ·show((b9 (bA l) key:Nat):Int)+1≤(l.length:Int);omega
  ·refine aU (List.drop 0 ((agG l ((b9 (bA l) key:Nat):Int) (((b9 (bA l) key:Nat):Int)+1)).take (0+rC l ((b9 (bA l) key:Nat):Int) (((b9 (bA l) key:Nat):Int)+1))),je (bA l) key,()) ?_ (by kernel_rfl)
   rw[d2 h,hb,Nat.zero_add,agI h3];rfl
 ·refine aU (l,je (bA l) key,()) ?_ (by kernel_rfl)
  rw[d1 h,hb];rfl
end Lf
namespace Lf
open Go Go.Sx Go.Proofs
theorem nJ(key val:ByteArray):∀l:List En,vp key val true l=l
 |[]=>rfl
 |x::r=>by rw[vp,if_neg (by simp),nJ key val r]
def bt(l:List En)(key val:ByteArray):List En:=l.take (b9 (bA l) key)++(key,val,())::l.drop (if je (bA l) key=true then b9 (bA l) key+1 else b9 (bA l) key)
theorem zu{x:En}{r:List En}{key:ByteArray}(h:slt x.1 key=true):b9 (bA (x::r)) key=b9 (bA r) key+1:=by simp[b9,bA,List.takeWhile,h]
theorem adu{x:En}{r:List En}{key:ByteArray}(h:slt x.1 key=false):b9 (bA (x::r)) key=0:=by simp[b9,bA,List.takeWhile,h]
theorem ae0{x:En}{r:List En}{key:ByteArray}(h:slt x.1 key=true):je (bA (x::r)) key=je (bA r) key:=by
 unfold je
 rw[zu h]
 rfl
theorem ai8{x:En}{r:List En}{key:ByteArray}(h:slt x.1 key=false):je (bA (x::r)) key=decide (x.1=key):=by
 unfold je
 rw[adu h]
 simp[bA]
theorem put_eq(key val:ByteArray):∀l:List En,vp key val false l=bt l key val
 |[]=>rfl
 |x::r=>by
  rw[vp]
  cases hs:slt x.1 key
  ·rw[if_pos ⟨rfl,rfl⟩,bt,adu hs,ai8 hs,nJ]
   by_cases hk:x.1=key
   ·rw[if_pos hk,decide_eq_true hk];rfl
   ·rw[if_neg hk,decide_eq_false hk];rfl
  ·rw[if_neg (by simp),put_eq key val r,bt,bt,zu hs,ae0 hs]
   cases je (bA r) key<;>rfl
theorem zv{l:List En}{key val:ByteArray}:(bt l key val).length=l.length+(if je (bA l) key=true then 0 else 1):=by
 have:=uX (bA l) key
 rw[List.length_map]at this
 cases ha:je (bA l) key
 ·simp only[bt,ha,List.length_append,List.length_cons,List.length_take,List.length_drop]
  simp;omega
 ·have h1:=(ju.1 ha).1
  rw[List.length_map]at h1
  simp only[bt,ha,List.length_append,List.length_cons,List.length_take,List.length_drop]
  simp;omega
abbrev ris(l:List En):Prop:=l.Pairwise fun a b=>slt a.1 b.1=true
theorem tc{l:List En}:iv (bA l)↔ris l:=by
 have hk:∀t,(bA l).getD t ByteArray.empty=(l.getD t dE).1:=fun t=>cq l oZ dE t
 have hn:(bA l).length=l.length:=List.length_map _
 rw[ris,List.pairwise_iff_getElem]
 constructor
 ·intro h i j hi hj kY
  have:=h i j kY (by omega)
  rw[hk,hk,bg hi,bg hj]at this
  exact this
 ·intro h i j kY hj
  rw[hn]at hj
  have:=h i j (by omega) hj kY
  rw[hk,hk,bg (by omega),bg hj]
  exact this
theorem ae1:∀{l:List En} (key val:ByteArray),ris l→ris (vp key val false l)∧∀a:En,slt a.1 key=true→(∀x∈l,slt a.1 x.1=true)→∀x∈vp key val false l,slt a.1 x.1=true
 |[],key,val,_=>by
  rw[vp,if_neg (by simp)]
  exact⟨List.pairwise_singleton ..,fun a h _ x hx=>by
   simp only[List.mem_singleton]at hx
   subst hx;exact h⟩
 |x::r,key,val,h=>by
  obtain⟨h1,h2⟩:=List.pairwise_cons.1 h
  obtain⟨g1,g2⟩:=ae1 (l:=r) key val h2
  rw[vp]
  split
  ·rename_i hc
   split
   ·rename_i hk
    rw[nJ]
    refine⟨List.pairwise_cons.2 ⟨fun y hy=>by rw[show(key,val,()).1=x.1 from hk.symm];exact h1 y hy,h2⟩,fun a ha hl y hy=> ?_⟩
    rcases List.mem_cons.1 hy with rfl|hy
    ·exact ha
    ·exact hl y (List.mem_cons_of_mem _ hy)
   ·rename_i hk
    rw[nJ]
    have bc:slt key x.1=true:=uN hc.2 hk
    refine⟨List.pairwise_cons.2 ⟨fun y hy=> ?_,h⟩,fun a ha hl y hy=> ?_⟩
    ·rcases List.mem_cons.1 hy with rfl|hy
     ·exact bc
     ·exact cv bc (h1 y hy)
    ·rcases List.mem_cons.1 hy with rfl|hy
     ·exact ha
     ·exact hl y hy
  ·rename_i hc
   have hx:slt x.1 key=true:=by simpa using hc
   refine⟨List.pairwise_cons.2 ⟨fun y hy=>g2 x hx h1 y hy,g1⟩,fun a ha hl y hy=> ?_⟩
   rcases List.mem_cons.1 hy with rfl|hy
   ·exact hl _ (by simp)
   ·exact g2 a ha (fun z hz=>hl z (List.mem_cons_of_mem _ hz)) y hy
theorem alQ{l:List En}(key val:ByteArray)(h:iv (bA l)):iv (bA (bt l key val)):=by
 rw[←put_eq]
 exact tc.2 (ae1 key val (tc.1 h)).1
theorem alR{l:List En}(key:ByteArray)(h:iv (bA l)):iv (bA (cw l key)):=tc.2 (List.Pairwise.filter _ (tc.1 h))
end Lf
namespace Go.Sx
open Go
section
variable{ρ az:Nat→Value}{H H':aH}{G O O':Nat→Prop}{w w':World}{P:Program}{X:Ctx}{L:List ad}{K:List ad→AV→Prop}
theorem apD(hs:Sat ρ (lk L) G w){id:Nat}{c c2:aF}{e:TypeId}{root:Value}(dd:L[id]? =some (.vec c e))(pJ:∀b,dW root=some b→dW (ρ id)=some b)(dL:gZ ρ (lk L) (aM ρ (lk L) G) w root (.vec c2 e)):
 ∃az,Sat az (lk (L.set id .dead++[.vec c2 e])) G w∧xt ρ L G w az (L.set id .dead++[.vec c2 e])∧az L.length=root:=by
 have bc:id<L.length:=(List.getElem?_eq_some_iff.1 dd).1
 generalize hx:ad.vec c2 e=x
 have hxa:x.alive=true:=by rw[←hx];rfl
 have old:∀{k:Nat} {o:ad},(L.set id .dead++[x])[k]? =some o→(k=L.length∧o=x)∨(k=id∧o=.dead)∨(k≠id∧k≠L.length∧L[k]? =some o):=by
  intro k o ho
  have h2:=(List.getElem?_eq_some_iff.1 ho).1
  simp only[List.length_append,List.length_set,List.length_cons,List.length_nil]at h2
  by_cases hk:k=L.length
  ·subst hk
   rw[List.getElem?_append_right (by simp)]at ho
   simp at ho
   exact .inl ⟨rfl,ho.symm⟩
  ·rw[List.getElem?_append_left (by simp;omega),List.getElem?_set]at ho
   split at ho
   ·rename_i sH
    first
     |exact .inr (.inl ⟨sH.symm,by simpa using ho.symm⟩)
     |(rw[if_pos bc]at ho;exact .inr (.inl ⟨sH.symm,by simpa using ho.symm⟩))
   ·rename_i sH
    exact .inr (.inr ⟨Ne.symm sH,hk,ho⟩)
 have new:∀{k:Nat} {o:ad},L[k]? =some o→k≠id→(L.set id .dead++[x])[k]? =some o:=by
  intro k o ho hk
  have h1:=(List.getElem?_eq_some_iff.1 ho).1
  rw[List.getElem?_append_left (by simpa using h1),List.getElem?_set_ne (Ne.symm hk)]
  exact ho
 have aid:(L.set id .dead++[x])[id]? =some .dead:=by
  rw[List.getElem?_append_left (by simpa using bc),List.getElem?_set_self bc]
 have arc:(L.set id .dead++[x])[L.length]? =some x:=by
  rw[List.getElem?_append_right (by simp)]
  simp
 let az:Nat→Value:=fun j=>if j=L.length then root else ρ j
 have dv:∀b,Own az (lk (L.set id .dead++[x])) b→Own ρ (lk L) b:=by
  rintro b ⟨k,o,ho,ha,hb⟩
  rcases old ho with⟨h1,h2⟩|⟨h1,h2⟩|⟨h1,h2,h3⟩
  ·simp only[az,h1,if_true]at hb
   exact⟨id,_,dd,rfl,pJ b hb⟩
  ·subst h2;cases ha
  ·simp only[az,h2,if_false]at hb
   exact⟨k,o,h3,ha,hb⟩
 have st:xt ρ L G w az (L.set id .dead++[x]):=by
  refine⟨fun k o ho=> ?_,fun k o ho=> ?_,fun b hb=>.inl ?_,fun _ _ _=>rfl,Nat.le_refl _⟩
  ·have h1:k<L.length:=(List.getElem?_eq_some_iff.1 ho).1
   simp only[az]
   rw[if_neg (by omega)]
  ·by_cases hk:k=id
   ·subst hk
    exact⟨.dead,aid,fun c' e' hc=>by cases hc⟩
   ·exact⟨o,new ho hk,fun c' e' hc=>⟨c',e',hc,rfl,rfl⟩⟩
  ·rcases hb with hb|hb
   ·exact .inl (dv b hb)
   ·exact .inr hb
 refine⟨az,⟨fun k o ho=> ?_,fun i j oi oj b hi hj ai aj bi bj=> ?_,fun b hb=>hs.apart b (dv b hb),hs.low⟩,st, ?_⟩
 ·rcases old ho with⟨h1,h2⟩|⟨h1,h2⟩|⟨h1,h2,h3⟩
  ·rw[h2]
   simp only[az,h1,if_true]
   rw[hx]at dL
   exact dL.step st (fun _ _ _=>rfl)
  ·subst h2;trivial
  ·simp only[az,h2,if_false]
   exact(hs.obj k o h3).step st (fun _ _ _=>rfl)
 ·have cls:∀{k:Nat} {o:ad},(L.set id .dead++[x])[k]? =some o→o.alive=true→dW (az k)=some b→(k=L.length∧dW (ρ id)=some b)∨(k≠id∧k≠L.length∧L[k]? =some o∧dW (ρ k)=some b):=by
   intro k o ho ha hb
   rcases old ho with⟨h1,h2⟩|⟨h1,h2⟩|⟨h1,h2,h3⟩
   ·simp only[az,h1,if_true]at hb
    exact .inl ⟨h1,pJ b hb⟩
   ·subst h2;cases ha
   ·simp only[az,h2,if_false]at hb
    exact .inr ⟨h1,h2,h3,hb⟩
  rcases cls hi ai bi with⟨h1,h2⟩|⟨h1,h2,h3,h4⟩<;>rcases cls hj aj bj with⟨k1,k2⟩|⟨k1,k2,k3,k4⟩
  ·rw[h1,k1]
  ·exact absurd (hs.inj j id oj _ b k3 dd aj rfl k4 h2) k1
  ·exact absurd (hs.inj i id oi _ b h3 dd ai rfl h4 k2) h1
  ·exact hs.inj i j oi oj b h3 k3 ai aj h4 k4
 ·simp only[az,if_true]
def qk(c:aF)(m:Nat):aF:=.dU c.size (c.n+m) fun i j=>bif i.blt c.n then c.cell i j else .aR
theorem abu{tmps:List AV}{t:Nat}{y x:AV}(ht:tmps.getD t (.s .aR)=y)(hy:y≠.s .aR)(u:Nat):(tmps.set t x).getD u (.s .aR)=if u=t then x else tmps.getD u (.s .aR):=by
 have bc:t<tmps.length:=by
  rcases Nat.lt_or_ge t tmps.length with h|h
  ·exact h
  ·rw[List.getD,List.getElem?_eq_none h]at ht
   exact absurd ht.symm hy
 by_cases hu:u=t
 ·subst hu;rw[if_pos rfl];simp[List.getD,bc]
 ·rw[if_neg hu];simp[List.getD,List.getElem?_set_ne (Ne.symm hu)]
theorem ai9{a:Option Addr}{cap m:Nat}{c:aF}{e:TypeId}(hm:0<m)(arU:c.n+m≤cap)(h:gZ ρ H O w (.slice a c.n cap) (.vec c e)):gZ ρ H O w (.slice a (c.n+m) cap) (.vec (qk c m) e):=by
 obtain⟨a2,pG,h1,h2,h3,h4⟩:=h
 cases h1
 rcases h4 with h4|⟨b,o,cells,fr,us,rfl,g1,g2,g3,g4⟩
 ·omega
 ·refine⟨some ⟨b,o,none⟩,cap,rfl,arU,h3,.inr ⟨b,o,cells,fr,fun i j=>if i<c.n then us i j else cells.getD (o+i*c.size+j) undef,rfl,g1,g2,g3,fun i j hi hj=> ?_⟩⟩
  have hi:i<c.n+m:=hi
  have hj:j<c.size:=hj
  show cells[o+i*c.size+j]? =_∧aL O w (bif i.blt c.n then c.cell i j else .aR) _
  by_cases c9:i<c.n
  ·dsimp only
   rw[if_pos c9,show i.blt c.n=true from by simpa[Nat.blt,Nat.lt_iff_add_one_le]using c9]
   exact g4 i j c9 hj
  ·dsimp only
   rw[if_neg c9,show i.blt c.n=false from by
    cases hb:i.blt c.n
    ·rfl
    ·exact absurd (show i<c.n from by simpa[Nat.blt,Nat.lt_iff_add_one_le]using hb) c9]
   have bc:o+i*c.size+j<cells.length:=by
    have:(i+1)*c.size≤cap*c.size:=Nat.mul_le_mul_right _ (by omega)
    rw[Nat.succ_mul]at this
    omega
   have e:cells[o+i*c.size+j]? =some (cells.getD (o+i*c.size+j) undef):=by simp[List.getD,bc]
   exact⟨e,.aR _ (g2.2 _ (List.mem_of_getElem? e))⟩
theorem agJ{f:FuncId}{tmps:List AV}{todo:List Item}{t id m:Nat}{c:aF}{e:TypeId}(ht:tmps.getD t (.s .aR)=.vec id)(dd:L[id]? =some (.vec c e))(hm:0<m)
 {stk:nB} (hA:Safe P f X K ⟨tmps.set t (.part L.length 0 c.n),L.set id .dead++[.vec (qk c m) e],todo,stk⟩)
 (hB:Safe P f X K ⟨tmps.set t (.s (.yi c (c.n+m))),L.set id .dead,todo,stk⟩):Safe P f X K ⟨tmps,L,todo,stk⟩:=by
 intro G E ρ a w gP gV hr bf tf fsf hwf
 have hs:Sat ρ (lk L) G w:=hr.sat
 have hd:=hr.den t
 rw[show(St.tmps ⟨tmps,L⟩).getD t (.s .aR)=.vec id from ht]at hd
 obtain⟨a0,cap,hv,dH,hle,acK⟩:=ji hs dd hd
 have dL:=hs.obj id _ dd
 rw[dH,hv]at dL
 have bc:id<L.length:=(List.getElem?_eq_some_iff.1 dd).1
 by_cases hc:c.n+m≤cap
 ·obtain⟨az,s',st,hρ⟩:=apD hs dd (root:=.slice a0 (c.n+m) cap) (c2:=qk c m) (fun b hb=>by
   rw[dH,hv]
   cases a0 with
   |none=>simp[dW]at hb
   |some y=>simpa[dW]using hb) (ai9 hm hc dL)
  refine hA G E az a w gP gV ⟨s',by rw[List.length_set];exact hr.size,fun u=> ?_,hr.defers,hr.from_.trans st,hr.iL,hr.kept⟩ bf tf fsf hwf
  show ab az _ _ w ((tmps.set t (.part L.length 0 c.n)).getD u (.s .aR)) _
  rw[abu ht (by simp)]
  by_cases hu:u=t
  ·subst hu
   rw[if_pos rfl,hv]
   unfold ab ay
   refine⟨rfl,.vec (qk c m) e,by show(L.set id .dead++[_])[L.length]? =_;rw[List.getElem?_append_right (by simp)];simp,fun c' e' he=> ?_⟩
   cases he
   refine⟨by show 0+c.n≤c.n+m;omega,a0,cap,a0,hρ,hc,by simp,fun _=> ?_⟩
   rw[Nat.zero_mul]
   cases a0 with
   |none=>rfl
   |some y=>simp[Addr.add]
  ·rw[if_neg hu]
   exact(hr.den u).step st
 ·have eL:lk (L.set id .dead)=aB (lk L) id .dead:=by
   funext k
   show(L.set id .dead)[k]? =_
   rw[List.getElem?_set]
   by_cases hk:id=k
   ·subst hk;simp[aB,bc]
   ·rw[if_neg hk];simp[aB,Ne.symm hk]
  have st:xt ρ L G w ρ (L.set id .dead):=by
   show Step ρ (lk L) _ w ρ (lk (L.set id .dead)) (aM ρ (lk (L.set id .dead)) G) w
   rw[eL]
   exact fq (H:=lk L) dd
  have hs':Sat ρ (lk (L.set id .dead)) G w:=by rw[eL];exact Sat.kill hs dd
  refine hB G E ρ a w gP gV ⟨hs',by rw[List.length_set];exact hr.size,fun u=> ?_,hr.defers,hr.from_.trans st,hr.iL,hr.kept⟩ bf tf fsf hwf
  show ab ρ _ _ w ((tmps.set t (.s (.yi c (c.n+m)))).getD u (.s .aR)) _
  rw[abu ht (by simp)]
  by_cases hu:u=t
  ·subst hu
   rw[if_pos rfl,hv]
   refine aq (.yi _ _ _ _ _ ?_ (by omega))
   obtain⟨a2,pG,h1,h2,h3,h4⟩:=dL
   cases h1
   rcases h4 with rfl|⟨b,o,cells,fr,us,rfl,g1,g2,g3,g4⟩
   ·exact .ro c a0 0 (fun _ _=>undef) 0 0 hle acK (fun h=>by omega) (fun i j hi _=>by omega) (fun i j hi _=>by omega)
   ·refine .ro c _ cap us b o hle acK (fun h0=>⟨rfl, ?_, ?_⟩) (fun i j hi hj=> ?_) (fun i j hi hj=>((g4 i j hi hj).2).step st.fE st.heap st.size)
    ·have hb:dW (ρ id)=some b:=by
      rw[dH,hv]
      simp only[dW]
      rw[if_neg (by omega)]
     rintro(⟨k,ok,hk,ha,hb2⟩|hG)
     ·have hk:(L.set id .dead)[k]? =some ok:=hk
      rw[List.getElem?_set]at hk
      split at hk
      ·rename_i e1
       first
        |(simp only[Option.some.injEq]at hk;subst hk;cases ha)
        |(rw[if_pos bc]at hk;simp only[Option.some.injEq]at hk;subst hk;cases ha)
      ·rename_i e1
       exact e1 (hs.inj id k _ ok b dd hk rfl ha hb hb2)
     ·exact hs.apart b ⟨id,_,dd,rfl,hb⟩ hG
    ·exact(Array.getElem?_eq_some_iff.1 g1).1
    ·have:=(g4 i j hi hj).1
     simp only[World.cell?,g1]
     simp[this]
  ·rw[if_neg hu]
   exact(hr.den u).step st
theorem aja{f:FuncId}{tmps:List AV}{todo:List Item}{stk:nB}{id:Nat}{c c':aF}{e:TypeId}(dd:L[id]? =some (.vec c e))(hn:c'.n=c.n)(bE:c'.size=c.size)(hc:∀i j,i<c.n→j<c.size→c'.cell i j=c.cell i j)
 (h:Safe P f X K ⟨tmps,L.set id (.vec c' e),todo,stk⟩):Safe P f X K ⟨tmps,L,todo,stk⟩:=by
 intro G E ρ a w gP gV hr b t fs hw
 have hs:Sat ρ (lk L) G w:=hr.sat
 have bc:id<L.length:=(List.getElem?_eq_some_iff.1 dd).1
 have eL:lk (L.set id (.vec c' e))=aB (lk L) id (.vec c' e):=by
  funext k
  show(L.set id (.vec c' e))[k]? =_
  rw[List.getElem?_set]
  by_cases hk:id=k
  ·subst hk;simp[aB,bc]
  ·rw[if_neg hk];simp[aB,Ne.symm hk]
 have dL:gZ ρ (aB (lk L) id (.vec c' e)) (aM ρ (lk L) G) w (ρ id) (.vec c' e):=by
  obtain⟨a2,pG,h1,h2,h3,h4⟩:=hs.obj id _ dd
  refine⟨a2,pG,by rw[hn];exact h1,by omega,h3, ?_⟩
  rcases h4 with h4|⟨b,o,cells,fr,us,rfl,g1,g2,g3,g4⟩
  ·exact .inl h4
  ·refine .inr ⟨b,o,cells,fr,us,rfl,g1,g2,by rw[bE];exact g3,fun i j hi hj=> ?_⟩
   rw[hn]at hi
   rw[bE]at hj
   rw[bE,hc i j hi hj]
   exact g4 i j hi hj
 obtain⟨az,s',_,st,_⟩:=Good.upd (H:=lk L) (o':=.vec c' e) (r:=.s .aR) (v:=undef) hs dd rfl (fun c2 e2 he=>by cases he;exact⟨c,e,rfl,hn,bE⟩) dL (by unfold ab;trivial)
 rw[←eL]at s' st
 exact h G E az a w gP gV ⟨s',hr.size,fun u=>(hr.den u).step st,hr.defers,hr.from_.trans st,hr.iL,hr.kept⟩ b t fs hw
theorem agK{f:FuncId}{tmps:List AV}{todo:List Item}{stk:nB}{t id n:Nat}{c:aF}{e:TypeId}(ht:tmps.getD t (.s .aR)=.part id 0 n)(dd:L[id]? =some (.vec c e))(hn:n=c.n)(h0:0<n)
 (h:Safe P f X K ⟨tmps.set t (.vec id),L,todo,stk⟩):Safe P f X K ⟨tmps,L,todo,stk⟩:=by
 intro G E ρ a w gP gV hr b tf fs hw
 have hd:=hr.den t
 rw[show(St.tmps ⟨tmps,L⟩).getD t (.s .aR)=.part id 0 n from ht]at hd
 refine h G E ρ a w gP gV (hr.yS ht ?_) b tf fs hw
 have hd0:=hd
 unfold ab ay at hd
 obtain⟨h1,o,ho,hv⟩:=hd
 have:o=.vec c e:=by
  have:(St.look ⟨tmps,L⟩) id=some (.vec c e):=dd
  rw[this]at ho;cases ho;rfl
 subst this
 obtain⟨hle,a1,cap,a2,k1,k2,k3,k4⟩:=hv c e rfl
 have wo:cap≠0:=by omega
 unfold ab ay
 refine⟨h1,.vec c e,ho,fun c' e' he=> ?_⟩
 cases he
 rw[k3,k1,k4 wo,Nat.sub_zero,hn,Nat.zero_mul]
 cases a1 with
 |none=>rfl
 |some y=>simp[Addr.add]
end
end Go.Sx
namespace Lf
open Go Go.Sx Go.Proofs
def lD{α:Type}(l:List α)(k:Nat)(x:α):List α:=l.take k++x::l.drop k
def ae2:Spec (List En×En×Nat):=⟨fun x=>[.vec 0,.s (.int .i64 (x.2.2:Int)),.vec 1],fun x=>[.vec (.ae cE x.1) eE,.vec (.ae cE [x.2.1]) eE],fun x=>[x.2.2≤x.1.length,x.1.length≤100000],fun x=>[.dead,.vec (.ae cE [x.2.1]) eE,.vec (.ae cE (lD x.1 x.2.2 x.2.1)) eE],fun x=>.vec 2⟩
def anR:List (Nat×Norm):=[(8,⟨[],[0,1,2,7,8],2,[]⟩)]
noncomputable def cIA(l:List (CL cE))(x:CL cE)(k:Nat):bz:=⟨sl 95 [(0,.part 2 0 l.length),(1,.s (.int .i64 (k:Int))),(2,.vec 1),(7,.s (.int .i64 ((1:Nat):Int))),(8,.s (.int .i64 (l.length:Int)))],[.dead,.vec (.ae cE [x]) eE,.vec (qk (.ae cE l) 1) eE],hr Tryd.f69 8,{}⟩
noncomputable def cIB(l:List (CL cE))(x:CL cE)(k:Nat):bz:=⟨sl 95 [(0,.s (.yi (.ae cE l) (l.length+1))),(1,.s (.int .i64 (k:Int))),(2,.vec 1),(7,.s (.int .i64 ((1:Nat):Int))),(8,.s (.int .i64 (l.length:Int)))],[.dead,.vec (.ae cE [x]) eE],hr Tryd.f69 8,{}⟩
def arV:List (Nat×Norm):=[(17,⟨[],[0],3,[]⟩)]
theorem alS(l:List (CL cE))(x:CL cE)(k:Nat):run P (aG.sum []) Tryd.f69 anR (start Tryd.f69 [.vec 0,.s (.int .i64 (k:Int)),.vec 1] [.vec (.ae cE l) eE,.vec (.ae cE [x]) eE])=
 Tree.need ((0:Int)≤(↑k:Int)) (.need ((↑k:Int)≤(↑l.length:Int)) (.need ((↑(0:Nat):Int)+(↑l.length:Int)≤(↑l.length:Int)) (.ite false (.ret [.vec (.ae [.str,.str] l) 34,.vec (.ae [.str,.str] [x]) 34] (.vec 0)) (.ite ((↑k:Int)==(↑l.length:Int)) (.need ((l.length+1)*(32:Nat)≤140737488355328) (.ret [.dead,.vec (.ae [.str,.str] [x]) 34,.vec (.ae [.str,.str] (l++[x])) 34] (.vec 2))) (.at (.mk (sl 95 [(0,.vec 0),(1,.s (.int .i64 (↑k:Int))),(2,.vec 1),(7,.s (.int .i64 (↑(1:Nat):Int))),(8,.s (.int .i64 (↑l.length:Int)))]) [.vec (.ae [.str,.str] l) 34,.vec (.ae [.str,.str] [x]) 34] (hr Tryd.f69 8) (.mk none false 0 [] 0))))))):=by kernel_rfl
theorem apE(l:List (CL cE))(x:CL cE)(k:Nat):run P (aG.sum []) Tryd.f69 arV (cIA l x k)=
 Tree.need (aD ((↑l.length:Int)+(1:Int)))
 (Tree.need ((↑l.length:Int)+(1:Int)≤(↑(l.length+(1:Nat) - (0:Nat)):Int))
   (Tree.need (aD ((↑l.length:Int)+(1:Int)))
     (Tree.need ((0:Int)≤(0:Int))
       (Tree.need ((0:Int)≤(↑l.length:Int)+(1:Int))
         (Tree.need ((↑(0:Nat):Int)+((↑l.length:Int)+(1:Int))≤(↑(l.length+(1:Nat)):Int))
           (Tree.need (aD ((↑k:Int)+(1:Int)))
             (Tree.need ((0:Int)≤(↑k:Int)+(1:Int))
               (Tree.need ((↑k:Int)+(1:Int)≤(↑(((↑l.length:Int)+(1:Int)).toNat - Int.toNat (0:Int)):Int))
                 (Tree.need ((↑(0:Nat):Int)+(↑(((↑l.length:Int)+(1:Int)).toNat - Int.toNat (0:Int)):Int)≤(↑(l.length+(1:Nat)):Int)) (Tree.need (aoE P (86:Nat)) (Tree.need (aD ((↑k:Int)+(1:Int))) (Tree.need ((0:Int)≤(↑k:Int)+(1:Int)) (Tree.need ((↑k:Int)+(1:Int)≤(↑(((↑l.length:Int)+(1:Int)).toNat - Int.toNat (0:Int)):Int)) (Tree.need ((↑(0:Nat):Int)+(↑(((↑l.length:Int)+(1:Int)).toNat - Int.toNat (0:Int)):Int)≤(↑(l.length+(1:Nat)):Int)) (Tree.need ((0:Int)≤(↑k:Int)) (Tree.need ((↑k:Int)≤(↑(((↑l.length:Int)+(1:Int)).toNat - Int.toNat (0:Int)):Int)) (Tree.need ((↑(0:Nat):Int)+(↑(((↑l.length:Int)+(1:Int)).toNat - Int.toNat (0:Int)):Int)≤(↑(l.length+(1:Nat)):Int)) (Tree.need ((0:Int)≤(↑k:Int)) (Tree.need ((↑k:Int)≤(↑(((↑l.length:Int)+(1:Int)).toNat - Int.toNat (0:Int)):Int)) (Tree.need ((↑(0:Nat):Int)+(↑(((↑l.length:Int)+(1:Int)).toNat - Int.toNat (0:Int)):Int)≤(↑(l.length+(1:Nat)):Int)) (Tree.at (bz.mk (sl (95:Nat) [((0:Nat),AV.part (2:Nat) (0:Nat) (((↑l.length:Int)+(1:Int)).toNat - Int.toNat (0:Int)))]) [ad.dead,ad.vec (aF.ae [CK.str,CK.str] [x]) (34:Nat),ad.vec (aF.dU (aF.dU (aF.dU (aF.ae cE l).size (l.length+(1:Nat)) fun(i j:Nat)=>bif i.blt l.length then(aF.ae cE l).cell i j else SV.aR).size (l.length+(1:Nat)) fun(i j:Nat)=>bif ((0:Nat)+((↑k:Int)+(1:Int)).toNat).ble i&&i.blt ((0:Nat)+((↑k:Int)+(1:Int)).toNat+min ((0:Nat)+(↑k:Int).toNat+((↑(((↑l.length:Int)+(1:Int)).toNat - Int.toNat (0:Int)):Int).toNat - (↑k:Int).toNat) - ((0:Nat)+(↑k:Int).toNat)) ((↑(((↑l.length:Int)+(1:Int)).toNat - Int.toNat (0:Int)):Int).toNat - ((↑k:Int)+(1:Int)).toNat))then(de (aF.dU (aF.ae cE l).size (l.length+(1:Nat)) fun(i j:Nat)=>bif i.blt l.length then(aF.ae cE l).cell i j else SV.aR) ((0:Nat)+(↑k:Int).toNat) ((0:Nat)+(↑k:Int).toNat+((↑(((↑l.length:Int)+(1:Int)).toNat - Int.toNat (0:Int)):Int).toNat - (↑k:Int).toNat))).cell (i - ((0:Nat)+((↑k:Int)+(1:Int)).toNat)) j else(aF.dU (aF.ae cE l).size (l.length+(1:Nat)) fun(i j:Nat)=>bif i.blt l.length then(aF.ae cE l).cell i j else SV.aR).cell i j).size (l.length+(1:Nat)) fun(i j:Nat)=>bif ((0:Nat)+(↑k:Int).toNat).ble i&&i.blt ((0:Nat)+(↑k:Int).toNat+min (1:Nat) ((↑(((↑l.length:Int)+(1:Int)).toNat - Int.toNat (0:Int)):Int).toNat - (↑k:Int).toNat))then(aF.ae [CK.str,CK.str] [x]).cell (i - ((0:Nat)+(↑k:Int).toNat)) j else(aF.dU (aF.dU (aF.ae cE l).size (l.length+(1:Nat)) fun(i j:Nat)=>bif i.blt l.length then(aF.ae cE l).cell i j else SV.aR).size (l.length+(1:Nat)) fun(i j:Nat)=>bif ((0:Nat)+((↑k:Int)+(1:Int)).toNat).ble i&&i.blt ((0:Nat)+((↑k:Int)+(1:Int)).toNat+min ((0:Nat)+(↑k:Int).toNat+((↑(((↑l.length:Int)+(1:Int)).toNat - Int.toNat (0:Int)):Int).toNat - (↑k:Int).toNat) - ((0:Nat)+(↑k:Int).toNat)) ((↑(((↑l.length:Int)+(1:Int)).toNat - Int.toNat (0:Int)):Int).toNat - ((↑k:Int)+(1:Int)).toNat))then(de (aF.dU (aF.ae cE l).size (l.length+(1:Nat)) fun(i j:Nat)=>bif i.blt l.length then(aF.ae cE l).cell i j else SV.aR) ((0:Nat)+(↑k:Int).toNat) ((0:Nat)+(↑k:Int).toNat+((↑(((↑l.length:Int)+(1:Int)).toNat - Int.toNat (0:Int)):Int).toNat - (↑k:Int).toNat))).cell (i - ((0:Nat)+((↑k:Int)+(1:Int)).toNat)) j else(aF.dU (aF.ae cE l).size (l.length+(1:Nat)) fun(i j:Nat)=>bif i.blt l.length then(aF.ae cE l).cell i j else SV.aR).cell i j).cell i j) (34:Nat)] (hr Tryd.f69 (17:Nat)) (nB.mk none false (0:Nat) [] (0:Nat)))))))))))))))))))))))):=by kernel_rfl
noncomputable def cIC(l:List (CL cE))(x:CL cE):bz:=⟨sl 95 [(0,.vec 2)],[.dead,.vec (.ae cE [x]) eE,.vec (.ae cE l) eE],hr Tryd.f69 17,{}⟩
theorem apF(l:List (CL cE))(x:CL cE):run P (aG.sum []) Tryd.f69 [] (cIC l x)=
 Tree.ret [.dead,.vec (.ae [.str,.str] [x]) 34,.vec (.ae [.str,.str] l) 34] (.vec 2):=by kernel_rfl
theorem apG(l:List (CL cE))(x:CL cE)(k:Nat):run P (aG.sum []) Tryd.f69 [] (cIB l x k)=
 Tree.need (aD ((↑l.length:Int)+1))
 (.need ((↑(l.length+1):Int)≤(↑l.length:Int)+1) (.need ((0:Int)≤(↑k:Int)) (.need ((↑k:Int)≤(↑l.length:Int)) (.need (aD ((↑l.length:Int)+1)) (.need (aD ((↑l.length:Int)+1 - (↑k:Int))) (.need ((0:Int)<(↑l.length:Int)+1 - (↑k:Int)) (.need ((↑(l.length+1):Int)≤(↑(List.drop 0 (List.take (↑k:Int).toNat l)).length:Int)+((↑l.length:Int)+1 - (↑k:Int))) (.need ((↑(List.drop 0 (List.take (↑k:Int).toNat l)).length:Int)+((↑l.length:Int)+1 - (↑k:Int))≤4294967296) (.need ((0:Int)≤(↑k:Int)) (.need ((↑k:Int)≤(↑(List.drop 0 (List.take (↑k:Int).toNat l)++List.replicate ((↑l.length:Int)+1 - (↑k:Int)).toNat (CL.d [.str,.str])).length:Int)) (.need ((↑(0:Nat):Int)+(↑(List.drop 0 (List.take (↑k:Int).toNat l)++List.replicate ((↑l.length:Int)+1 - (↑k:Int)).toNat (CL.d [.str,.str])).length:Int)≤(↑(List.drop 0 (List.take (↑k:Int).toNat l)++List.replicate ((↑l.length:Int)+1 - (↑k:Int)).toNat (CL.d [.str,.str])).length:Int)) (.need (aD ((↑k:Int)+1)) (.need ((0:Int)≤(↑k:Int)+1) (.need ((↑k:Int)+1≤(↑(over (List.drop 0 (List.take (↑k:Int).toNat l)++List.replicate ((↑l.length:Int)+1 - (↑k:Int)).toNat (CL.d [.str,.str])) ((0:Nat)+(↑k:Int).toNat) (min 1 ((↑(List.drop 0 (List.take (↑k:Int).toNat l)++List.replicate ((↑l.length:Int)+1 - (↑k:Int)).toNat (CL.d [.str,.str])).length:Int).toNat - (↑k:Int).toNat)) [x]).length:Int)) (.need ((↑(0:Nat):Int)+(↑(over (List.drop 0 (List.take (↑k:Int).toNat l)++List.replicate ((↑l.length:Int)+1 - (↑k:Int)).toNat (CL.d [.str,.str])) ((0:Nat)+(↑k:Int).toNat) (min 1 ((↑(List.drop 0 (List.take (↑k:Int).toNat l)++List.replicate ((↑l.length:Int)+1 - (↑k:Int)).toNat (CL.d [.str,.str])).length:Int).toNat - (↑k:Int).toNat)) [x]).length:Int)≤(↑(over (List.drop 0 (List.take (↑k:Int).toNat l)++List.replicate ((↑l.length:Int)+1 - (↑k:Int)).toNat (CL.d [.str,.str])) ((0:Nat)+(↑k:Int).toNat) (min 1 ((↑(List.drop 0 (List.take (↑k:Int).toNat l)++List.replicate ((↑l.length:Int)+1 - (↑k:Int)).toNat (CL.d [.str,.str])).length:Int).toNat - (↑k:Int).toNat)) [x]).length:Int)) (.need ((0:Int)≤(↑k:Int)) (.need ((↑k:Int)≤(↑l.length:Int)) (.need ((↑l.length:Int)≤(↑l.length:Int)) (.ret [.dead,.vec (.ae [.str,.str] [x]) 34,.vec (.ae [.str,.str] (over (over (List.drop 0 (List.take (↑k:Int).toNat l)++List.replicate ((↑l.length:Int)+1 - (↑k:Int)).toNat (CL.d [.str,.str])) ((0:Nat)+(↑k:Int).toNat) (min 1 ((↑(List.drop 0 (List.take (↑k:Int).toNat l)++List.replicate ((↑l.length:Int)+1 - (↑k:Int)).toNat (CL.d [.str,.str])).length:Int).toNat - (↑k:Int).toNat)) [x]) ((0:Nat)+((↑k:Int)+1).toNat) (min (List.drop (↑k:Int).toNat (List.take (↑l.length:Int).toNat l)).length ((↑(over (List.drop 0 (List.take (↑k:Int).toNat l)++List.replicate ((↑l.length:Int)+1 - (↑k:Int)).toNat (CL.d [.str,.str])) ((0:Nat)+(↑k:Int).toNat) (min 1 ((↑(List.drop 0 (List.take (↑k:Int).toNat l)++List.replicate ((↑l.length:Int)+1 - (↑k:Int)).toNat (CL.d [.str,.str])).length:Int).toNat - (↑k:Int).toNat)) [x]).length:Int).toNat - ((↑k:Int)+1).toNat)) (List.drop (↑k:Int).toNat (List.take (↑l.length:Int).toNat l)))) 34] (.vec 2)))))))))))))))))))):=by kernel_rfl
theorem agL{α:Type}{xs ys:List α}{lo k:Nat}(hk:k=ys.length)(h:lo+ys.length=xs.length):over xs lo k ys=xs.take lo++ys:=by
 subst hk
 rw[over,List.take_of_length_le (Nat.le_refl _),List.drop_of_length_le (by omega),List.append_nil]
theorem sq{α:Type}{l:List α}{k:Nat}{x:α}(h:k≤l.length):(lD l k x).length=l.length+1:=by
 simp only[lD,List.length_append,List.length_take,List.length_cons,List.length_drop];omega
theorem ajb{α:Type}(l:List α)(x:α):lD l l.length x=l++[x]:=by simp[lD]
theorem agM{α:Type}{l:List α}{k:Nat}{x d:α}(h:k≤l.length)(i:Nat):(lD l k x).getD i d=if i<k then l.getD i d else if i=k then x else l.getD (i - 1) d:=by
 simp only[lD,List.getD]
 split
 ·rw[List.getElem?_append_left (by simp;omega),List.getElem?_take,if_pos (by assumption)]
 ·rw[List.getElem?_append_right (by simp;omega)]
  rw[List.length_take,Nat.min_eq_left h]
  split
  ·rename_i h2;subst h2;simp
  ·rw[show i - k=(i - 1 - k)+1 from by omega,List.getElem?_cons_succ,List.getElem?_drop]
   congr 2;omega
theorem arW:aoE P 86:=⟨Tryd.f86,Tryd.f86.params.getD 0 0,eE,Tryd.f86.resultTypes.getD 0 0,2,Tryd.func86,by kernel_rfl,by kernel_rfl,by kernel_rfl,by kernel_rfl,by kernel_rfl,by kernel_rfl⟩
theorem ajc{α:Type}{l:List α}{k:Nat}{x d:α}(hk:k<l.length):
 over (over (List.drop 0 (List.take (k:Int).toNat l)++List.replicate ((l.length:Int)+(1:Int) - (k:Int)).toNat d) (0+(k:Int).toNat) (min 1 (((List.drop 0 (List.take (k:Int).toNat l)++List.replicate ((l.length:Int)+(1:Int) - (k:Int)).toNat d).length:Int).toNat - (k:Int).toNat)) [x]) (0+((k:Int)+(1:Int)).toNat) (l.length - k) (List.drop (k:Int).toNat (List.take (l.length:Int).toNat l))=lD l k x:=by
 have e1:(k:Int).toNat=k:=by omega
 have e2:((l.length:Int)+(1:Int) - (k:Int)).toNat=l.length+1 - k:=by omega
 have e3:((k:Int)+(1:Int)).toNat=k+1:=by omega
 have e4:(l.length:Int).toNat=l.length:=by omega
 rw[e1,e2,e3,e4,List.drop_zero,Nat.zero_add,Nat.zero_add,List.take_of_length_le (Nat.le_refl l.length)]
 have hA:(List.take k l++List.replicate (l.length+1 - k) d).length=l.length+1:=by
  simp only[List.length_append,List.length_take,List.length_replicate];omega
 rw[hA,show min 1 (((l.length+1:Nat):Int).toNat - k)=1 from by omega]
 have hov:(over (List.take k l++List.replicate (l.length+1 - k) d) k 1 [x]).length=l.length+1:=by
  rw[fc _ _ (by rw[hA];omega) (by simp),hA]
 rw[agL (by rw[List.length_drop]) (by rw[hov,List.length_drop];omega)]
 rw[over,List.take_left' (by simp only[List.length_append,List.length_take,List.length_replicate,List.length_cons,List.length_nil];omega)]
 rw[List.take_left' (by rw[List.length_take];omega)]
 simp[lD]
theorem zw{a b:Nat}:a.blt b=decide (a<b):=by
 by_cases h:a<b
 ·rw[decide_eq_true h];simpa[Nat.blt,Nat.lt_iff_add_one_le]using h
 ·rw[decide_eq_false h]
  cases hb:a.blt b with
  |false=>rfl
  |true=>exact absurd (by simpa[Nat.blt,Nat.lt_iff_add_one_le]using hb) h
theorem zx{a b:Nat}:a.ble b=decide (a≤b):=by
 by_cases h:a≤b
 ·rw[decide_eq_true h];exact Nat.ble_eq_true_of_le h
 ·rw[decide_eq_false h]
  cases hb:a.ble b with
  |false=>rfl
  |true=>exact absurd (Nat.le_of_ble_eq_true hb) h
theorem apH{Z:ba}:js P Z 69 ae2:=by
 refine aP Tryd.func69 (by kernel_rfl) (fun x=>Nat.le_of_ble_eq_true (by kernel_rfl)) ?_
 rintro⟨(l:List (CL cE)),(x:CL cE),(k:Nat)⟩ ⟨(hk:k≤l.length),(hl:l.length≤100000),_⟩ X hX hz
 refine eG hz hX (by intro y hy;simp[anR]at hy;subst hy;exact Nat.le_refl _) aG.Ok.nil Tryd.func69 (alS l x k) ⟨by omega,by omega,by omega,(fun h=>nomatch h),fun _=>⟨fun h=>⟨by omega,⟨⟨[],[0],2,[]⟩,Nat.le_refl _, ?_⟩⟩,fun h=> ?_⟩⟩
 ·have hkl:k=l.length:=by have:=eq_of_beq h;omega
  subst hkl
  show Norm.run _ _=some ⟨[.vec 2],[.dead,.vec (.ae cE [x]) eE,.vec (.ae cE (lD l l.length x)) eE],[],{}⟩
  rw[ajb]
  kernel_rfl
 have hkl:k<l.length:=by
  rcases Nat.lt_or_ge k l.length with h1|h1
  ·exact h1
  ·have:k=l.length:=by omega
   subst this
   simp at h
 refine agJ (t:=0) (id:=0) (m:=1) (c:=.ae cE l) (e:=eE) rfl rfl (by omega) ?_ ?_
 ·
  refine(show Safe P 69 X _ (cIA l x k)from ?_)
  have e1:((l.length:Int)+(1:Int)).toNat - Int.toNat 0=l.length+1:=by omega
  have tr:=apE l x k
  rw[e1]at tr
  refine eG hz hX (by intro y hy;simp[arV]at hy;subst hy;show 2≤3;omega) aG.Ok.nil Tryd.func69 tr ⟨⟨by omega,by omega⟩,by omega,⟨by omega,by omega⟩,by omega,by omega,by omega,⟨by omega,by omega⟩,by omega,by omega,by omega,arW,⟨by omega,by omega⟩,by omega,by omega,by omega,by omega,by omega,by omega,by omega,by omega,by omega, ?_⟩
  refine aja (id:=2) (c':=.ae cE (lD l k x)) rfl ?_ rfl ?_ ?_
  ·exact sq (by omega)
  ·intro i j hi hj
   have hi:i<l.length+1:=hi
   show CL.cell cE ((lD l k x).getD i (CL.d cE)) j=_
   rw[agM (by omega)]
   by_cases h1:i<k
   ·have p1:¬(0+(k:Int).toNat≤i):=by omega
    have p2:¬(0+((k:Int)+(1:Int)).toNat≤i):=by omega
    have p3:i<l.length:=by omega
    simp only[aF.cell,zw,zx,p1,p2,p3,h1,decide_false,decide_true,Bool.false_and,cond_false,cond_true,if_true]
   ·by_cases h2:i=k
    ·subst h2
     have p1:0+(i:Int).toNat≤i:=by omega
     have p2:i<0+(i:Int).toNat+min 1 (((l.length+1:Nat):Int).toNat - (i:Int).toNat):=by omega
     have p3:i - (0+(i:Int).toNat)=0:=by omega
     simp only[aF.cell,zw,zx,p1,p2,p3,h1,decide_true,Bool.true_and,cond_true,if_true,if_false,List.getD_cons_zero]
    ·have p1:¬(i<0+(k:Int).toNat+min 1 (((l.length+1:Nat):Int).toNat - (k:Int).toNat)):=by omega
     have p2:0+((k:Int)+(1:Int)).toNat≤i:=by omega
     have p3:i<0+((k:Int)+(1:Int)).toNat+min (0+(k:Int).toNat+(((l.length+1:Nat):Int).toNat - (k:Int).toNat) - (0+(k:Int).toNat)) (((l.length+1:Nat):Int).toNat - ((k:Int)+(1:Int)).toNat):=by omega
     have p4:0+(k:Int).toNat+(i - (0+((k:Int)+(1:Int)).toNat))=i - 1:=by omega
     have p5:i - 1<l.length:=by omega
     simp only[aF.cell,de,zw,zx,p1,p2,p3,p4,p5,h1,h2,decide_true,decide_false,Bool.and_false,Bool.and_true,cond_true,cond_false,if_false]
  ·refine agK (t:=0) (id:=2) (c:=.ae cE (lD l k x)) (e:=eE) rfl rfl (sq (by omega)).symm (by omega) ?_
   refine eG hz hX (by intro y hy;simp at hy) aG.Ok.nil Tryd.func69 (apF (lD l k x) x) ⟨⟨[],[0],2,[]⟩,Nat.le_refl _, ?_⟩
   show Norm.run _ _=some ⟨[.vec 2],[.dead,.vec (.ae cE [x]) eE,.vec (.ae cE (lD l k x)) eE],[],{}⟩
   kernel_rfl
 ·
  refine(show Safe P 69 X _ (cIB l x k)from ?_)
  have tr:=apG l x k
  have eA:(List.drop 0 (List.take (k:Int).toNat l)++List.replicate ((l.length:Int)+(1:Int) - (k:Int)).toNat (CL.d cE)).length=l.length+1:=by
   simp only[List.drop_zero,List.length_append,List.length_take,List.length_replicate];omega
  have eB:(over (List.drop 0 (List.take (k:Int).toNat l)++List.replicate ((l.length:Int)+(1:Int) - (k:Int)).toNat (CL.d cE)) (0+(k:Int).toNat) (min 1 (((List.drop 0 (List.take (k:Int).toNat l)++List.replicate ((l.length:Int)+(1:Int) - (k:Int)).toNat (CL.d cE)).length:Int).toNat - (k:Int).toNat)) [x]).length=l.length+1:=by
   rw[fc _ _ (by rw[eA];omega) (by simp;omega),eA]
  have eC:(List.drop 0 (List.take (k:Int).toNat l)).length=k:=by simp only[List.drop_zero,List.length_take];omega
  have e1:(min (List.drop (k:Int).toNat (List.take (l.length:Int).toNat l)).length (((over (List.drop 0 (List.take (k:Int).toNat l)++List.replicate ((l.length:Int)+(1:Int) - (k:Int)).toNat (CL.d cE)) (0+(k:Int).toNat) (min 1 (((List.drop 0 (List.take (k:Int).toNat l)++List.replicate ((l.length:Int)+(1:Int) - (k:Int)).toNat (CL.d cE)).length:Int).toNat - (k:Int).toNat)) [x]).length:Int).toNat - ((k:Int)+(1:Int)).toNat))=l.length - k:=by
   rw[eB];simp only[List.length_drop,List.length_take];omega
  rw[e1,ajc hkl,eB,eA,eC]at tr
  refine eG hz hX (by intro y hy;simp at hy) aG.Ok.nil Tryd.func69 tr ⟨⟨by omega,by omega⟩,by omega,by omega,by omega,⟨by omega,by omega⟩,⟨by omega,by omega⟩,by omega,by omega,by omega,by omega,by omega,by omega,⟨by omega,by omega⟩,by omega,by omega,by omega,by omega,by omega,by omega,⟨⟨[],[0],2,[]⟩,Nat.le_refl _, ?_⟩⟩
  show Norm.run _ _=some ⟨[.vec 2],[.dead,.vec (.ae cE [x]) eE,.vec (.ae cE (lD l k x)) eE],[],{}⟩
  kernel_rfl
end Lf
namespace Lf
open Go Go.Sx Go.Proofs
def arX:List AV→RM ((List En×En×Nat)×List Nat)
 |[.vec id,.s (.int .i64 i),.vec id2]=>.look id fun o=>match o with
  |some (.vec (.ae [.str,.str] l) _)=>.look id2 fun o=>match o with
   |some (.vec (.ae [.str,.str] [x]) _)=>.ret ((l,x,i.toNat),[id,id2])
   |_=>.fail "insert: no element"
  |_=>.fail "insert: no row"
 |_=>.fail "insert"
def ajd:aG:=[(58,zt),(68,apA),(69,dm ae2 arX)]
theorem alT(l:List (CL cE))(key val:ByteArray):run P ajd.sum Tryd.f50 [] (start Tryd.f50 [.s (.ro (.ae cE l)),.s (.str key),.s (.str val)] [])=
 Tree.need (l.length≤1000000) (.need (iv (bA l)) (.need (l.length≤100000) (.ite (je (bA l) key) (.need ((0:Int)≤(↑(b9 (bA l) key):bo.V)) (.need ((↑(b9 (bA l) key):bo.V)<(↑l.length:Int)) (.ret [.vec (.ae [.str,.str] (l.set (Int.toNat (↑(b9 (bA l) key):bo.V)) ((l.getD (Int.toNat (↑(b9 (bA l) key):bo.V)) (CL.d [.str,.str])).fst,val,()))) 34] (.vec 0)))) (.need (some [AV.vec 0,.s (.int .i64 (↑(b9 (bA l) key):bo.V)),.vec 1]=some [AV.vec 0,.s (.int .i64 (↑(Int.toNat (↑(b9 (bA l) key):bo.V)):Int)),.vec 1]) (.need (some [ad.vec (.ae [.str,.str] l) 34,.vec (.ae [.str,.str] [(key,val,())]) 34]=some [ad.vec (.ae [.str,.str] l) 34,.vec (.ae [.str,.str] [(key,val,())]) 34]) (.need (Int.toNat (↑(b9 (bA l) key):bo.V)≤l.length) (.need (l.length≤100000) (.ret [.dead,.vec (.ae [.str,.str] [(key,val,())]) 34,.vec (.ae [.str,.str] (lD l (Int.toNat (↑(b9 (bA l) key):bo.V)) (key,val,()))) 34] (.vec 2))))))))):=by kernel_rfl
theorem aje{α:Type}{l:List α}{k:Nat}{x:α}(h:k<l.length):l.set k x=l.take k++x::l.drop (k+1):=by
 rw[List.set_eq_take_append_cons_drop,if_pos h]
theorem ajf{l:List En}{key val:ByteArray}(h:je (bA l) key=true)(h1:b9 (bA l) key<l.length):bt l key val=l.set (b9 (bA l) key) (key,val,()):=by
 rw[aje h1,bt,if_pos h]
theorem alU{l:List En}{key val:ByteArray}(h:je (bA l) key=false):bt l key val=lD l (b9 (bA l) key) (key,val,()):=by
 rw[bt,if_neg (by rw[h];simp),lD]
theorem ajg{Z:ba}:dg P Z 50 [nU,dG,dG] [nU] (fun(l,_,_,())=>[(l:List En).length≤100000,iv (bA l)]) (fun(l,key,val,())=>(bt l key val,())):=by
 refine aw Tryd.func50 (by kernel_rfl) (by kernel_rfl) ?_
 rintro⟨(l:List (CL cE)),(key:ByteArray),(val:ByteArray),⟨⟩⟩ _ ⟨(hl:l.length≤100000),(hs:iv (bA l)),_⟩ X hX hz
 have hT:ajd.Ok P Z:=aG.Ok.cons rz.sum (aG.Ok.cons ads.sum (aG.Ok.cons (apH.sum arX) aG.Ok.nil))
 have hn:(bA l).length=l.length:=List.length_map _
 have hle:=uX (bA l) key
 rw[hn]at hle
 refine go hz hX hT Tryd.func50 (alT l key val) ⟨by omega,hs,hl,fun h=> ?_,fun h=> ?_⟩
 ·obtain⟨h1,h2⟩:=ju.1 h
  rw[hn]at h1
  refine⟨Int.natCast_nonneg _,Int.ofNat_lt.2 h1, ?_⟩
  refine aU (l.set (b9 (bA l) key) ((l.getD (b9 (bA l) key) dE).1,val,()),()) ?_ (by kernel_rfl)
  have hk:(l.getD (b9 (bA l) key) dE).1=key:=(cq l oZ dE _).symm.trans h2
  rw[hk]
  exact congrArg (fun y=>(y,())) (ajf h h1)
 ·refine⟨rfl,rfl,by show b9 (bA l) key≤l.length;exact hle,hl, ?_⟩
  refine aU (lD l (b9 (bA l) key) (key,val,()),()) ?_ (by kernel_rfl)
  exact congrArg (fun y=>(y,())) (alU h)
end Lf
namespace Bx
open Go Go.Sx Go.Proofs
abbrev dO:Ty:=.b (.arr .u64 16)
abbrev bo:Ty:=.b (.int .i64)
abbrev tU:Ty:=.b (.int .u64)
abbrev ch:Ty:=.b .bool
abbrev aa5:Ty:=.b (.row (.ints .i64) 3)
noncomputable abbrev P:Program:=Tryd.prog
theorem mixed:P.follows .mixedOrders=true:=by kernel_rfl
def kJ:aG:=[]
def dR(n:Int):Int:=if 0≤n∧n<1024 then n / 64 else 0
def lF(n:Int):Int:=if 0≤n∧n<1024 then 2^(n%64).toNat else 0
def gY(n:Int):Bool:=decide (0≤n∧n<1024)
theorem apI(n:Int):run P kJ.sum Tryd.f55 [] (start Tryd.f55 [.s (.int .i64 n)] [])=
 Tree.ite (decide (n<(0:Int))) (Tree.ret [] (AV.bh [AV.s (SV.aZ IntKind.i64 (0:Int)),AV.s (SV.aZ IntKind.u64 (0:Int)),AV.s (SV.aI false)])) (Tree.ite (decide (n≥(1024:Int))) (Tree.ret [] (AV.bh [AV.s (SV.aZ IntKind.i64 (0:Int)),AV.s (SV.aZ IntKind.u64 (0:Int)),AV.s (SV.aI false)])) (Tree.need ((64:Int)≠(0:Int)) (Tree.need (aD (n.tdiv (64:Int))) (Tree.need ((64:Int)≠(0:Int)) (Tree.need ((0:Int)≤n.tmod (64:Int)) (Tree.ret [] (AV.bh [AV.s (SV.int IntKind.i64 (n.tdiv (64:Int))),AV.s (SV.int IntKind.u64 (IntKind.u64.wrap ((1:Int)*(2:Int)^min (n.tmod (64:Int)).toNat IntKind.u64.bits))),AV.s (SV.aI true)]))))))):=by kernel_rfl
theorem apJ(a b:Int):run P kJ.sum Tryd.f47 [] (start Tryd.f47 [.s (.int .u64 a),.s (.int .u64 b)] [])=
 Tree.ret [] (.s (.int .u64 (bH BinOp.andNot .u64 a b))):=by kernel_rfl
theorem apK(a b:Int):run P kJ.sum Tryd.f63 [] (start Tryd.f63 [.s (.int .u64 a),.s (.int .u64 b)] [])=
 Tree.ret [] (.s (.int .u64 (bH BinOp.and .u64 a b))):=by kernel_rfl
theorem apL(a b:Int):run P kJ.sum Tryd.f54 [] (start Tryd.f54 [.s (.int .u64 a),.s (.int .u64 b)] [])=
 Tree.ret [] (.s (.int .u64 (bH BinOp.or .u64 a b))):=by kernel_rfl
abbrev s36:=bU [bo] [bo,tU,ch] (fun _=>[]) (fun(n,())=>(dR n,lF n,gY n,()))
def alV:aG:=[(55,s36)]
theorem apM(ws:List Int)(n:Int):run P alV.sum Tryd.f35 [] (start Tryd.f35 [.ints .u64 16 ws,.s (.int .i64 n)] [])=
 Tree.ite (gY n) (.need ((0:Int)≤dR n) (.need (dR n<(↑(16:Nat):Int)) (.ret [.own [.ints .u64 16 ws] 47] (.s (.bool (bH BinOp.and .u64 (ws.getD (dR n).toNat 0) (lF n) !=0)))))) (.ret [.own [.ints .u64 16 ws] 47] (.s (.aI false))):=by kernel_rfl
theorem apN(ws:List Int)(n:Int):run P alV.sum Tryd.f43 [] (start Tryd.f43 [.ints .u64 16 ws,.s (.int .i64 n)] [])=
 Tree.ite (gY n) (.need ((0:Int)≤dR n) (.need (dR n<(↑(16:Nat):Int)) (.need ((0:Int)≤dR n) (.need (dR n<(↑(16:Nat):Int)) (.ret [.own [.ints .u64 16 (ws.set (dR n).toNat (bH BinOp.or .u64 (ws.getD (dR n).toNat 0) (lF n)))] 47,.own [.ints .u64 16 (ws.set (dR n).toNat (bH BinOp.or .u64 (ws.getD (dR n).toNat 0) (lF n)))] 47] (.ints .u64 16 (ws.set (dR n).toNat (bH BinOp.or .u64 (ws.getD (dR n).toNat 0) (lF n))))))))) (.ret [.own [.ints .u64 16 ws] 47,.own [.ints .u64 16 ws] 47] (.ints .u64 16 ws)):=by kernel_rfl
theorem apO(ws:List Int)(n:Int):run P alV.sum Tryd.f98 [] (start Tryd.f98 [.ints .u64 16 ws,.s (.int .i64 n)] [])=
 Tree.ite (gY n) (.need ((0:Int)≤dR n) (.need (dR n<(↑(16:Nat):Int)) (.need ((0:Int)≤dR n) (.need (dR n<(↑(16:Nat):Int)) (.ret [.own [.ints .u64 16 (ws.set (dR n).toNat (bH BinOp.andNot .u64 (ws.getD (dR n).toNat 0) (lF n)))] 47,.own [.ints .u64 16 (ws.set (dR n).toNat (bH BinOp.andNot .u64 (ws.getD (dR n).toNat 0) (lF n)))] 47] (.ints .u64 16 (ws.set (dR n).toNat (bH BinOp.andNot .u64 (ws.getD (dR n).toNat 0) (lF n))))))))) (.ret [.own [.ints .u64 16 ws] 47,.own [.ints .u64 16 ws] 47] (.ints .u64 16 ws)):=by kernel_rfl
theorem go{Z:ba}{X:Ctx}{t:aG}{f:FuncId}{fn:Func}{ns:List (Nat×Norm)}{c:bz}{tr:Tree}{K:List ad→AV→Prop}(hz:dM Z X)(hX:∀id,X.H id=none)(hT:t.Ok P Z)(hf:P.funcs[f]? =some fn)
 (e:run P t.sum fn ns c=tr) (h:tr.aQ K (Safe P f X K)):Safe P f X K c:=b8 (aG.sOk hT) hz mixed hf (fun _ _ id _=>hX id) e h
theorem apP{Z:ba}:dg P Z 55 [bo] [bo,tU,ch] (fun _=>[]) (fun(n,())=>(dR n,lF n,gY n,())):=by
 refine aw Tryd.func55 (by kernel_rfl) (by kernel_rfl) ?_
 rintro⟨(n:Int),⟨⟩⟩ _ _ X hX hz
 refine b8 (aG.sOk aG.Ok.nil) hz mixed Tryd.func55 (fun x h=>by simp at h) (apI n) ?_
 have no:¬(0≤n∧n<1024)→Ends [bo,tU,ch] (dR n,lF n,gY n,()) [] (AV.bh [AV.s (SV.aZ IntKind.i64 0),AV.s (SV.aZ IntKind.u64 0),AV.s (SV.aI false)]):=fun h=>
  aU (0,0,false,()) (by simp only[dR,lF,gY,if_neg h,decide_eq_false h]) (by kernel_rfl)
 refine⟨fun h=>no (by simp at h;omega),fun h=>⟨fun h2=>no (by simp at h2;omega),fun h2=> ?_⟩⟩
 have h3:0≤n∧n<1024:=by simp at h h2;omega
 have e1:n.tdiv 64=n / 64:=Int.tdiv_eq_ediv_of_nonneg h3.1
 have e2:n.tmod 64=n%64:=Int.tmod_eq_emod_of_nonneg h3.1
 refine⟨by omega,⟨by omega,by omega⟩,by omega,by omega, ?_⟩
 rw[e1,e2]
 have e3:IntKind.u64.wrap ((1:Int)*(2:Int)^min (n%64).toNat IntKind.u64.bits)=2^(n%64).toNat:=by
  have:(n%64).toNat<64:=by omega
  rw[show IntKind.u64.bits=64 from rfl,Nat.min_eq_left (by omega),Int.one_mul]
  show(2:Int)^(n%64).toNat%18446744073709551616=_
  refine Int.emod_eq_of_lt (Int.pow_nonneg (by omega)) ?_
  have h5:(2:Nat)^(n%64).toNat<2^64:=Nat.pow_lt_pow_right (by omega) this
  have:((2:Nat)^(n%64).toNat:Int)<((2^64:Nat):Int):=by exact_mod_cast h5
  simpa using this
 rw[e3]
 exact aU (n / 64,2^(n%64).toNat,true,()) (by simp only[dR,lF,gY,if_pos h3,decide_eq_true h3]) (by kernel_rfl)
theorem agN{Z:ba}:dg P Z 47 [tU,tU] [tU] (fun _=>[]) (fun(a,b,())=>(bH .andNot .u64 a b,())):=by
 refine aw Tryd.func47 (by kernel_rfl) (by kernel_rfl) ?_
 rintro⟨(a:Int),(b:Int),⟨⟩⟩ _ _ X hX hz
 exact b8 (aG.sOk aG.Ok.nil) hz mixed Tryd.func47 (fun x h=>by simp at h) (apJ a b) (aU _ rfl (by kernel_rfl))
theorem apQ{Z:ba}:dg P Z 63 [tU,tU] [tU] (fun _=>[]) (fun(a,b,())=>(bH .and .u64 a b,())):=by
 refine aw Tryd.func63 (by kernel_rfl) (by kernel_rfl) ?_
 rintro⟨(a:Int),(b:Int),⟨⟩⟩ _ _ X hX hz
 exact b8 (aG.sOk aG.Ok.nil) hz mixed Tryd.func63 (fun x h=>by simp at h) (apK a b) (aU _ rfl (by kernel_rfl))
theorem arY{Z:ba}:dg P Z 54 [tU,tU] [tU] (fun _=>[]) (fun(a,b,())=>(bH .or .u64 a b,())):=by
 refine aw Tryd.func54 (by kernel_rfl) (by kernel_rfl) ?_
 rintro⟨(a:Int),(b:Int),⟨⟩⟩ _ _ X hX hz
 exact b8 (aG.sOk aG.Ok.nil) hz mixed Tryd.func54 (fun x h=>by simp at h) (apL a b) (aU _ rfl (by kernel_rfl))
theorem zy{Z:ba}:alV.Ok P Z:=aG.Ok.cons apP.sum aG.Ok.nil
theorem pa{n:Int}(h:gY n=true):0≤dR n∧dR n<16:=by
 simp only[gY,decide_eq_true_eq]at h
 simp only[dR,if_pos h]
 omega
def lG(ws:List Int)(n:Int):Bool:=gY n&&(bH .and .u64 (ws.getD (dR n).toNat 0) (lF n) !=0)
def cK(ws:List Int)(n:Int):List Int:=if gY n=true then ws.set (dR n).toNat (bH .or .u64 (ws.getD (dR n).toNat 0) (lF n))else ws
def cM(ws:List Int)(n:Int):List Int:=if gY n=true then ws.set (dR n).toNat (bH .andNot .u64 (ws.getD (dR n).toNat 0) (lF n))else ws
theorem zz{Z:ba}:dg P Z 35 [dO,bo] [ch] (fun _=>[]) (fun(ws,n,())=>(lG ws n,())):=by
 refine aw Tryd.func35 (by kernel_rfl) (by kernel_rfl) ?_
 rintro⟨(ws:List Int),(n:Int),⟨⟩⟩ _ _ X hX hz
 refine b8 (aG.sOk zy) hz mixed Tryd.func35 (fun x h=>by simp at h) (apM ws n) ⟨fun h=> ?_,fun h=> ?_⟩
 ·have:=pa h
  exact⟨this.1,this.2,aU (bH .and .u64 (ws.getD (dR n).toNat 0) (lF n) !=0,()) (by simp[lG,h]) (by kernel_rfl)⟩
 ·exact aU (false,()) (by simp[lG,h]) (by kernel_rfl)
theorem ql{Z:ba}:dg P Z 43 [dO,bo] [dO] (fun _=>[]) (fun(ws,n,())=>(cK ws n,())):=by
 refine aw Tryd.func43 (by kernel_rfl) (by kernel_rfl) ?_
 rintro⟨(ws:List Int),(n:Int),⟨⟩⟩ _ _ X hX hz
 refine b8 (aG.sOk zy) hz mixed Tryd.func43 (fun x h=>by simp at h) (apN ws n) ⟨fun h=> ?_,fun h=> ?_⟩
 ·have:=pa h
  refine⟨this.1,this.2,this.1,this.2, ?_⟩
  simp only[cK,if_pos h]
  exact aU _ rfl (by kernel_rfl)
 ·exact aU (ws,()) (by simp only[cK,h];rfl) (by kernel_rfl)
theorem vq{Z:ba}:dg P Z 98 [dO,bo] [dO] (fun _=>[]) (fun(ws,n,())=>(cM ws n,())):=by
 refine aw Tryd.func98 (by kernel_rfl) (by kernel_rfl) ?_
 rintro⟨(ws:List Int),(n:Int),⟨⟩⟩ _ _ X hX hz
 refine b8 (aG.sOk zy) hz mixed Tryd.func98 (fun x h=>by simp at h) (apO ws n) ⟨fun h=> ?_,fun h=> ?_⟩
 ·have:=pa h
  refine⟨this.1,this.2,this.1,this.2, ?_⟩
  simp only[cM,if_pos h]
  exact aU _ rfl (by kernel_rfl)
 ·exact aU (ws,()) (by simp only[cM,h];rfl) (by kernel_rfl)
end Bx
namespace Bx
open Go Go.Sx Go.Proofs
abbrev sOp(op:BinOp):=bU [tU,tU] [tU] (fun _=>[]) (fun(a,b,())=>(bH op .u64 a b,()))
def zA:aG:=[(47,sOp .andNot),(63,sOp .and),(54,sOp .or)]
def abv:List (Nat×Norm):=[(2,⟨[],[2,3,4,6,8],0,[]⟩)]
noncomputable def c37(f:FuncId)(b s:List Int)(i:Int):bz:=⟨sl 23 [(2,.s (.kM f)),(3,.ptr 0 0),(4,.ptr 1 0),(6,.ptr 2 0),(8,.s (.int .i64 i))],[.own [.ints .u64 16 s] 47,.own [.ints .u64 16 b] 47,.own [.ints .u64 16 (List.replicate 16 0)] 47],hd Tryd.f46 2,{}⟩
theorem alW(a b:List Int):run P zA.sum Tryd.f46 abv (start Tryd.f46 [.ints .u64 16 a,.ints .u64 16 b,.s (.kM 47)] [])=
 Tree.at (.mk (sl 23 [(2,.s (.kM 47)),(3,.ptr 0 0),(4,.ptr 1 0),(6,.ptr 2 0),(8,.s (.int .i64 0))]) [.own [.ints .u64 16 a] 47,.own [.ints .u64 16 b] 47,.own [.ints .u64 16 (List.replicate 16 0)] 47] (hd Tryd.f46 2) (.mk none false 0 [] 0)):=by kernel_rfl
theorem alX(b s:List Int)(i:Int):run P zA.sum Tryd.f46 abv (c37 47 b s i)=
 Tree.ite (decide (i<16)) (.need ((0:Int)≤i) (.need (i<(↑(16:Nat):Int)) (.need ((0:Int)≤i) (.need (i<(↑(16:Nat):Int)) (.need ((0:Int)≤i) (.need (i<(↑(16:Nat):Int)) (.need (aD (i+1)) (.at (.mk (sl 23 [(2,.s (.kM 47)),(3,.ptr 0 0),(4,.ptr 1 0),(6,.ptr 2 0),(8,.s (.int .i64 (i+1)))]) [.own [.ints .u64 16 (s.set i.toNat (bH BinOp.andNot .u64 (s.getD i.toNat 0) (b.getD i.toNat 0)))] 47,.own [.ints .u64 16 b] 47,.own [.ints .u64 16 (List.replicate 16 0)] 47] (hd Tryd.f46 2) (.mk none false 0 [] 0)))))))))) (.ret [.own [.ints .u64 16 s] 47,.own [.ints .u64 16 b] 47,.own [.ints .u64 16 s] 47] (.ints .u64 16 s)):=by kernel_rfl
theorem alY(a b:List Int):run P zA.sum Tryd.f46 abv (start Tryd.f46 [.ints .u64 16 a,.ints .u64 16 b,.s (.kM 63)] [])=
 Tree.at (.mk (sl 23 [(2,.s (.kM 63)),(3,.ptr 0 0),(4,.ptr 1 0),(6,.ptr 2 0),(8,.s (.int .i64 0))]) [.own [.ints .u64 16 a] 47,.own [.ints .u64 16 b] 47,.own [.ints .u64 16 (List.replicate 16 0)] 47] (hd Tryd.f46 2) (.mk none false 0 [] 0)):=by kernel_rfl
theorem alZ(b s:List Int)(i:Int):run P zA.sum Tryd.f46 abv (c37 63 b s i)=
 Tree.ite (decide (i<16)) (.need ((0:Int)≤i) (.need (i<(↑(16:Nat):Int)) (.need ((0:Int)≤i) (.need (i<(↑(16:Nat):Int)) (.need ((0:Int)≤i) (.need (i<(↑(16:Nat):Int)) (.need (aD (i+1)) (.at (.mk (sl 23 [(2,.s (.kM 63)),(3,.ptr 0 0),(4,.ptr 1 0),(6,.ptr 2 0),(8,.s (.int .i64 (i+1)))]) [.own [.ints .u64 16 (s.set i.toNat (bH BinOp.and .u64 (s.getD i.toNat 0) (b.getD i.toNat 0)))] 47,.own [.ints .u64 16 b] 47,.own [.ints .u64 16 (List.replicate 16 0)] 47] (hd Tryd.f46 2) (.mk none false 0 [] 0)))))))))) (.ret [.own [.ints .u64 16 s] 47,.own [.ints .u64 16 b] 47,.own [.ints .u64 16 s] 47] (.ints .u64 16 s)):=by kernel_rfl
theorem al0(a b:List Int):run P zA.sum Tryd.f46 abv (start Tryd.f46 [.ints .u64 16 a,.ints .u64 16 b,.s (.kM 54)] [])=
 Tree.at (.mk (sl 23 [(2,.s (.kM 54)),(3,.ptr 0 0),(4,.ptr 1 0),(6,.ptr 2 0),(8,.s (.int .i64 0))]) [.own [.ints .u64 16 a] 47,.own [.ints .u64 16 b] 47,.own [.ints .u64 16 (List.replicate 16 0)] 47] (hd Tryd.f46 2) (.mk none false 0 [] 0)):=by kernel_rfl
theorem al1(b s:List Int)(i:Int):run P zA.sum Tryd.f46 abv (c37 54 b s i)=
 Tree.ite (decide (i<16)) (.need ((0:Int)≤i) (.need (i<(↑(16:Nat):Int)) (.need ((0:Int)≤i) (.need (i<(↑(16:Nat):Int)) (.need ((0:Int)≤i) (.need (i<(↑(16:Nat):Int)) (.need (aD (i+1)) (.at (.mk (sl 23 [(2,.s (.kM 54)),(3,.ptr 0 0),(4,.ptr 1 0),(6,.ptr 2 0),(8,.s (.int .i64 (i+1)))]) [.own [.ints .u64 16 (s.set i.toNat (bH BinOp.or .u64 (s.getD i.toNat 0) (b.getD i.toNat 0)))] 47,.own [.ints .u64 16 b] 47,.own [.ints .u64 16 (List.replicate 16 0)] 47] (hd Tryd.f46 2) (.mk none false 0 [] 0)))))))))) (.ret [.own [.ints .u64 16 s] 47,.own [.ints .u64 16 b] 47,.own [.ints .u64 16 s] 47] (.ints .u64 16 s)):=by kernel_rfl
theorem al2{Z:ba}:zA.Ok P Z:=aG.Ok.cons agN.sum (aG.Ok.cons apQ.sum (aG.Ok.cons arY.sum aG.Ok.nil))
def bY(op:BinOp)(a b:List Int):List Int:=List.zipWith (bH op .u64) a b
def abw(f:FuncId):BinOp:=if f=47 then .andNot else if f=63 then .and else .or
theorem vr{a b:List Int}{n:Nat}(ha:a.length=n)(hb:b.length=n)(h:∀j,j<n→a.getD j 0=b.getD j 0):a=b:=by
 refine List.ext_getElem (by omega) fun j h1 h2=> ?_
 have:=h j (by omega)
 simpa[List.getD,h1,h2]using this
theorem qm(a:List Int)(i j:Nat)(x:Int):(a.set i x).getD j 0=if j=i∧i<a.length then x else a.getD j 0:=by
 simp only[List.getD,List.getElem?_set]
 by_cases h:i=j
 ·subst h
  by_cases h2:i<a.length
  ·simp[h2]
  ·simp[h2]
 ·simp[h,Ne.symm h]
def I37(op:BinOp)(a b s:List Int)(i:Int):Prop:=0≤i∧i≤16∧s.length=16∧∀j,j<16→s.getD j 0=if(j:Int)<i then bH op .u64 (a.getD j 0) (b.getD j 0)else a.getD j 0
theorem ajh{op:BinOp}{a b s:List Int}{i:Int}(h:I37 op a b s i)(hi:i<16):I37 op a b (s.set i.toNat (bH op .u64 (s.getD i.toNat 0) (b.getD i.toNat 0))) (i+1):=by
 obtain⟨h1,h2,h3,h4⟩:=h
 refine⟨by omega,by omega,by simpa using h3,fun j hj=> ?_⟩
 rw[qm]
 by_cases hji:j=i.toNat
 ·subst hji
  rw[if_pos ⟨rfl,by omega⟩,if_pos (by omega),h4 _ hj,if_neg (by omega)]
 ·rw[if_neg (fun h=>hji h.1),h4 j hj]
  by_cases h5:(j:Int)<i
  ·rw[if_pos h5,if_pos (by omega)]
  ·rw[if_neg h5,if_neg (by omega)]
theorem al3{op:BinOp}{a b s:List Int}{i:Int}(ha:a.length=16)(hb:b.length=16)(h:I37 op a b s i)(hi:¬i<16):s=bY op a b:=by
 obtain⟨h1,h2,h3,h4⟩:=h
 refine vr h3 (by simp[bY,ha,hb]) fun j hj=> ?_
 rw[h4 j hj,if_pos (by omega)]
 simp[bY,List.getD,List.getElem?_zipWith,ha,hb,hj]
theorem zB{Z:ba}:dg P Z 46 [dO,dO,.b .fn] [dO] (fun(_,_,f,())=>[f=47∨f=63∨f=54]) (fun(a,b,f,())=>(bY (abw f) a b,())):=by
 refine aw Tryd.func46 (by kernel_rfl) (by kernel_rfl) ?_
 rintro⟨(a:List Int),(b:List Int),(f:FuncId),⟨⟩⟩ ⟨(ha:a.length=16),(hb:b.length=16),_⟩ ⟨(hf:f=47∨f=63∨f=54),_⟩ X hX hz
 have run (c:bz) (t:Tree) (ht:run P zA.sum Tryd.f46 abv c=t) {K:List ad→AV→Prop} (h:t.aQ K (Safe P 46 X K)):Safe P 46 X K c:=
  b8 (aG.sOk al2) hz mixed Tryd.func46 (fun x h id _=>hX id) ht h
 have loop (op:BinOp) (f:FuncId) (hl:∀s i,Sx.run P zA.sum Tryd.f46 abv (c37 f b s i)=Tree.ite (decide (i<16)) (.need ((0:Int)≤i) (.need (i<(↑(16:Nat):Int)) (.need ((0:Int)≤i) (.need (i<(↑(16:Nat):Int)) (.need ((0:Int)≤i) (.need (i<(↑(16:Nat):Int)) (.need (aD (i+1)) (.at (c37 f b (s.set i.toNat (bH op .u64 (s.getD i.toNat 0) (b.getD i.toNat 0))) (i+1)))))))))) (.ret [.own [.ints .u64 16 s] 47,.own [.ints .u64 16 b] 47,.own [.ints .u64 16 s] 47] (.ints .u64 16 s))):
  Safe P 46 X (Ends [dO] (bY op a b,())) (c37 f b a 0):=by
  refine rm (fun(x:List Int×Int)=>c37 f b x.1 x.2) (fun x=>I37 op a b x.1 x.2) (fun x=>(16 - x.2).toNat) ?_ (a,0) ⟨by omega,by omega,ha,fun j hj=>by rw[if_neg (by simp only[];omega)]⟩
  rintro⟨s,i⟩ hI ih
  have h0:0≤i:=hI.1
  refine run _ _ (hl s i) ⟨fun h=> ?_,fun h=> ?_⟩
  ·have hi:i<16:=by simpa using h
   exact⟨h0,hi,h0,hi,h0,hi,⟨by omega,by omega⟩,ih (_,i+1) (ajh hI hi) (by simp only[];omega)⟩
  ·have hi:¬i<16:=by simpa using h
   exact aU (s,()) (by rw[←al3 ha hb hI hi]) (by kernel_rfl)
 rcases hf with rfl|rfl|rfl
 ·exact run _ _ (alW a b) (loop .andNot 47 (fun s i=>alX b s i))
 ·exact run _ _ (alY a b) (loop .and 63 (fun s i=>alZ b s i))
 ·exact run _ _ (al0 a b) (loop .or 54 (fun s i=>al1 b s i))
end Bx
namespace Bx
open Go Go.Sx Go.Proofs
abbrev s37:=bU [dO,dO,.b .fn] [dO] (fun(_,_,f,())=>[f=47∨f=63∨f=54]) (fun(a,b,f,())=>(bY (abw f) a b,()))
def apR:aG:=[(46,s37)]
theorem apS(a b:List Int):run P apR.sum Tryd.f23 [] (start Tryd.f23 [.ints .u64 16 a,.ints .u64 16 b] [])=
 Tree.need ((47:Nat)=(47:(Ty.b B.fn).V)∨(47:Nat)=(63:(Ty.b B.fn).V)∨(47:Nat)=(54:(Ty.b B.fn).V)) (.ret [.own [.ints .u64 16 a] 47,.own [.ints .u64 16 b] 47,.own [.ints .u64 16 (bY (abw 47) a b)] 47] (.ints .u64 16 (bY (abw 47) a b))):=by kernel_rfl
theorem apT(a b:List Int):run P apR.sum Tryd.f44 [] (start Tryd.f44 [.ints .u64 16 a,.ints .u64 16 b] [])=
 Tree.need ((63:Nat)=(47:(Ty.b B.fn).V)∨(63:Nat)=(63:(Ty.b B.fn).V)∨(63:Nat)=(54:(Ty.b B.fn).V)) (.ret [.own [.ints .u64 16 a] 47,.own [.ints .u64 16 b] 47,.own [.ints .u64 16 (bY (abw 63) a b)] 47] (.ints .u64 16 (bY (abw 63) a b))):=by kernel_rfl
theorem apU(a b:List Int):run P apR.sum Tryd.f28 [] (start Tryd.f28 [.ints .u64 16 a,.ints .u64 16 b] [])=
 Tree.need ((54:Nat)=(47:(Ty.b B.fn).V)∨(54:Nat)=(63:(Ty.b B.fn).V)∨(54:Nat)=(54:(Ty.b B.fn).V)) (.ret [.own [.ints .u64 16 a] 47,.own [.ints .u64 16 b] 47,.own [.ints .u64 16 (bY (abw 54) a b)] 47] (.ints .u64 16 (bY (abw 54) a b))):=by kernel_rfl
def arZ:List (Nat×Norm):=[(3,⟨[],[0,2,3,6],0,[]⟩)]
noncomputable def c13(n:Int)(s:List Int)(i:Int):bz:=⟨sl 24 [(0,.s (.int .i64 n)),(2,.ptr 0 0),(3,.ptr 1 0),(6,.s (.int .i64 i))],[.own [.ints .u64 16 (List.replicate 16 0)] 47,.own [.ints .u64 16 s] 47],hd Tryd.f29 3,{}⟩
theorem apV(n:Int):run P kJ.sum Tryd.f29 arZ (start Tryd.f29 [.s (.int .i64 n)] [])=
 Tree.at (.mk (sl 24 [(0,.s (.int .i64 n)),(2,.ptr 0 0),(3,.ptr 1 0),(6,.s (.int .i64 0))]) [.own [.ints .u64 16 (List.replicate 16 0)] 47,.own [.ints .u64 16 (List.replicate 16 0)] 47] (hd Tryd.f29 3) (.mk none false 0 [] 0)):=by kernel_rfl
theorem apW(n:Int)(s:List Int)(i:Int):run P kJ.sum Tryd.f29 arZ (c13 n s i)=
 Tree.ite (decide (i<(16:Int))) (Tree.need (aD (i*(64:Int))) (Tree.need (aD (oK (imax n (0:Int)) (1024:Int) - i*(64:Int))) (Tree.need ((0:Int)≤oK (imax (oK (imax n (0:Int)) (1024:Int) - i*(64:Int)) (0:Int)) (64:Int)) (Tree.need ((0:Int)≤i) (Tree.need (i<(↑(16:Nat):Int)) (Tree.need (aD (i+(1:Int))) (Tree.at (bz.mk (sl (24:Nat) [((0:Nat),AV.s (SV.int IntKind.i64 n)),((2:Nat),AV.ptr (0:Nat) (0:Nat)),((3:Nat),AV.ptr (1:Nat) (0:Nat)),((6:Nat),AV.s (SV.int IntKind.i64 (i+(1:Int))))]) [ad.own [AV.ints IntKind.u64 (16:Nat) (List.replicate (16:Nat) (0:Int))] (47:Nat),ad.own [AV.ints IntKind.u64 (16:Nat) (s.set i.toNat (IntKind.u64.wrap (IntKind.u64.wrap ((1:Int)*(2:Int)^min (oK (imax (oK (imax n (0:Int)) (1024:Int) - i*(64:Int)) (0:Int)) (64:Int)).toNat IntKind.u64.bits) - (1:Int))))] (47:Nat)] (hd Tryd.f29 (3:Nat)) (nB.mk none false (0:Nat) [] (0:Nat)))))))))) (Tree.ret [ad.own [AV.ints IntKind.u64 (16:Nat) s] (47:Nat),ad.own [AV.ints IntKind.u64 (16:Nat) s] (47:Nat)] (AV.ints IntKind.u64 (16:Nat) s)):=by kernel_rfl
theorem zC{Z:ba}:dg P Z 23 [dO,dO] [dO] (fun _=>[]) (fun(a,b,())=>(bY .andNot a b,())):=by
 refine aw Tryd.func23 (by kernel_rfl) (by kernel_rfl) ?_
 rintro⟨(a:List Int),(b:List Int),⟨⟩⟩ _ _ X hX hz
 exact go hz hX (aG.Ok.cons zB.sum aG.Ok.nil) Tryd.func23 (apS a b) ⟨.inl rfl,aU _ rfl (by kernel_rfl)⟩
theorem al4{Z:ba}:dg P Z 44 [dO,dO] [dO] (fun _=>[]) (fun(a,b,())=>(bY .and a b,())):=by
 refine aw Tryd.func44 (by kernel_rfl) (by kernel_rfl) ?_
 rintro⟨(a:List Int),(b:List Int),⟨⟩⟩ _ _ X hX hz
 exact go hz hX (aG.Ok.cons zB.sum aG.Ok.nil) Tryd.func44 (apT a b) ⟨.inr (.inl rfl),aU _ rfl (by kernel_rfl)⟩
theorem aji{Z:ba}:dg P Z 28 [dO,dO] [dO] (fun _=>[]) (fun(a,b,())=>(bY .or a b,())):=by
 refine aw Tryd.func28 (by kernel_rfl) (by kernel_rfl) ?_
 rintro⟨(a:List Int),(b:List Int),⟨⟩⟩ _ _ X hX hz
 exact go hz hX (aG.Ok.cons zB.sum aG.Ok.nil) Tryd.func28 (apU a b) ⟨.inr (.inr rfl),aU _ rfl (by kernel_rfl)⟩
def aJ:List Int:=List.replicate 16 0
def agO(n i:Int):Int:=oK (imax (oK (imax n 0) 1024 - i*64) 0) 64
def rD(n i:Int):Int:=IntKind.u64.wrap (IntKind.u64.wrap (1*2^min (agO n i).toNat IntKind.u64.bits) - 1)
def cf(n:Int):List Int:=(List.range 16).map fun(i:Nat)=>rD n i
theorem vt(n i:Int):0≤agO n i∧agO n i≤64:=by
 unfold agO
 generalize oK (imax n 0) 1024 - i*64=x
 unfold oK imax
 split<;>split at * <;>omega
theorem agP(n:Int):0≤oK (imax n 0) 1024∧oK (imax n 0) 1024≤1024:=by
 unfold oK imax
 split<;>split at * <;>omega
theorem vu {Z : ba} : dg P Z 29 [bo] [dO] (fun _ => []) (fun (n, ()) => (cf n, ())) := by
 refine aw Tryd.func29 (by kernel_rfl) (by kernel_rfl) ?_
 rintro ⟨(n : Int), ⟨⟩⟩ _ _ X hX hz
 refine go hz hX aG.Ok.nil Tryd.func29 (apV n) ?_
 refine rm (fun (x : List Int × Int) => c13 n x.1 x.2) (fun x => 0 ≤ x.2 ∧ x.2 ≤ 16 ∧ x.1.length = 16 ∧ ∀ j : Nat, j < 16 → (j : Int) < x.2 → x.1.getD j 0 = rD n j) (fun x => (16 - x.2).toNat) ?_ (aJ, 0) ⟨by simp only []; omega, by simp only []; omega, rfl, fun j _ h => by simp only [] at h; omega⟩
 rintro ⟨s, i⟩ ⟨(h0 : 0 ≤ i), (h1 : i ≤ 16), (h2 : s.length = 16), h3⟩ ih
 simp only [] at h3
 have hr := vt n i
 have hc := agP n
 refine go hz hX aG.Ok.nil Tryd.func29 (apW n s i) ⟨fun h => ?_, fun h => ?_⟩
 · have hi : i < (16 : Int) := of_decide_eq_true h
   refine ⟨⟨by omega, by omega⟩, ⟨by omega, by omega⟩, hr.1, h0, hi, ⟨by omega, by omega⟩, ih (s.set i.toNat (rD n i), i + 1) ⟨by simp only []; omega, by simp only []; omega, by simpa using h2, fun j hj hji => ?_⟩ (by simp only []; omega)⟩
   simp only [] at hji ⊢
   rw [qm]
   by_cases xe : j = i.toNat
   · rw [if_pos ⟨xe, by omega⟩, show (j : Int) = i from by omega]
   · rw [if_neg (fun h => xe h.1)]
     exact h3 j hj (by omega)
 · have hi : ¬ i < (16 : Int) := of_decide_eq_false h
   refine aU (s, ()) ?_ (by kernel_rfl)
   rw [vr (a := s) (b := cf n) h2 (by simp [cf]) (fun j hj => ?_)]
   rw [h3 j hj (by omega)]
   simp [cf, List.getD, hj]
end Bx
namespace Bx
open Go Go.Sx Go.Proofs
def ub(a b:Int):Int:=bH .and .u64 a b
def sh(x k:Int):Int:=x.fdiv ((2:Int)^min (Int.toNat k) IntKind.u64.bits)
def pc:Nat→Nat→Nat
 |0,_=>0
 |n+1,x=>x%2+pc n (x / 2)
theorem apX(a b:Nat)(ha:a<18446744073709551616)(hb:b<18446744073709551616):ub (a:Int) (b:Int)=((a &&& b:Nat):Int):=by
 have hx:a &&& b<2^64:=Nat.and_lt_two_pow _ (by omega)
 have h1:(BitVec.ofInt 64 (a:Int)).toNat=a:=by
  rw[BitVec.ofInt_natCast,BitVec.toNat_ofNat];exact Nat.mod_eq_of_lt (by omega)
 have h2:(BitVec.ofInt 64 (b:Int)).toNat=b:=by
  rw[BitVec.ofInt_natCast,BitVec.toNat_ofNat];exact Nat.mod_eq_of_lt (by omega)
 show((BitVec.ofInt 64 (a:Int) &&& BitVec.ofInt 64 (b:Int)).toNat:Int)%18446744073709551616=_
 rw[BitVec.toNat_and,h1,h2]
 omega
def msk(b c:Nat):Nat→Nat
 |0=>0
 |n+1=>(2^b - 1)+2^c*msk b c n
theorem qn(b c n x:Nat)(hbc:b≤c):x &&& msk b c (n+1)=x%2^b+2^c*((x / 2^c) &&& msk b c n):=by
 have adv:x%2^b<2^c:=Nat.lt_of_lt_of_le (Nat.mod_lt _ (Nat.two_pow_pos _)) (Nat.pow_le_pow_right (by omega) hbc)
 have hm:2^b - 1<2^c:=Nat.lt_of_lt_of_le (by have:=Nat.two_pow_pos b;omega) (Nat.pow_le_pow_right (by omega) hbc)
 apply Nat.eq_of_testBit_eq
 intro i
 rw[Nat.testBit_and,msk,Nat.add_comm (2^b - 1),Nat.add_comm (x%2^b)]
 rw[Nat.testBit_two_pow_mul_add _ hm,Nat.testBit_two_pow_mul_add _ adv]
 by_cases hi:i<c
 ·rw[if_pos hi,if_pos hi,Nat.testBit_two_pow_sub_one,Nat.testBit_mod_two_pow,Bool.and_comm]
 ·rw[if_neg hi,if_neg hi,Nat.testBit_and,Nat.testBit_div_two_pow]
  congr 2
  omega
def st1(n x:Nat):Nat:=((x / 2) &&& msk 1 2 n)+(x &&& msk 1 2 n)
theorem abx(n x:Nat):st1 (n+1) x=(x%2+x / 2%2)+4*st1 n (x / 4):=by
 unfold st1
 rw[qn 1 2 n x (by omega),qn 1 2 n (x / 2) (by omega)]
 rw[show x / 2 / 2^2=x / 4 / 2 from by omega,show x / 2^2=x / 4 from rfl]
 omega
def st2(n y:Nat):Nat:=((y / 4) &&& msk 2 4 n)+(y &&& msk 2 4 n)
theorem ajj(n y:Nat):st2 (n+1) y=(y%4+y / 4%4)+16*st2 n (y / 16):=by
 unfold st2
 rw[qn 2 4 n y (by omega),qn 2 4 n (y / 4) (by omega)]
 rw[show y / 4 / 2^4=y / 16 / 4 from by omega,show y / 2^4=y / 16 from rfl]
 omega
theorem ajk(n x:Nat):st1 (n+2) x%16=x%2+x / 2%2+4*(x / 4%2+x / 4 / 2%2)∧st1 (n+2) x / 16=st1 n (x / 16):=by
 rw[abx,abx,show x / 16=x / 4 / 4 from by omega]
 constructor<;>omega
theorem ao2:∀(n x:Nat),st2 (n+1) (st1 (2*(n+1)) x)=pc 4 x+16*st2 n (st1 (2*n) (x / 16)):=by
 intro n x
 rw[ajj,show 2*(n+1)=2*n+2 from by omega]
 obtain⟨h1,h2⟩:=ajk (2*n) x
 rw[h2]
 have hp:pc 4 x=x%2+(x / 2%2+(x / 2 / 2%2+(x / 2 / 2 / 2%2+0))):=rfl
 rw[show x / 2 / 2=x / 4 from by omega]at hp
 rw[hp]
 generalize st1 (2*n+2) x=y at *
 generalize x / 4 / 2%2=b3 at *
 have:x%2<2∧x / 2%2<2∧x / 4%2<2:=by omega
 generalize x%2=b0 at *
 generalize x / 2%2=b1 at *
 generalize x / 4%2=b2 at *
 omega
def st3(n z:Nat):Nat:=(z / 16+z) &&& msk 4 8 n
theorem ae3:∀(n x:Nat),pc n x≤n
 |0,x=>Nat.le_refl _
 |n+1,x=>by have:=ae3 n (x / 2);simp only[pc];omega
theorem ajl:∀(m n x:Nat),pc (m+n) x=pc m x+pc n (x / 2^m)
 |0,n,x=>by simp[pc]
 |m+1,n,x=>by
  rw[show m+1+n=(m+n)+1 from by omega]
  simp only[pc]
  rw[ajl m n (x / 2),Nat.div_div_eq_div_mul,Nat.pow_succ,Nat.mul_comm 2]
  omega
def z4(n x:Nat):Nat:=st2 n (st1 (2*n) x)
theorem zD(n x:Nat):z4 (n+1) x=pc 4 x+16*z4 n (x / 16):=ao2 n x
theorem al5(x:Nat):z4 0 x=0:=by simp[z4,st2,msk]
theorem ajm(n x:Nat):st3 (n+1) (z4 (2*n+2) x)=pc 8 x+256*st3 n (z4 (2*n) (x / 256)):=by
 unfold st3
 rw[qn 4 8 n _ (by omega)]
 have e1:=zD (2*n+1) x
 have e2:=zD (2*n) (x / 16)
 rw[Nat.div_div_eq_div_mul]at e2
 have e0:pc 8 x=pc 4 x+pc 4 (x / 16):=ajl 4 4 x
 have b1:=ae3 4 x
 have b2:=ae3 4 (x / 16)
 have b3:z4 (2*n) (x / (16*16))%16≤4:=by
  cases n with
  |zero=>rw[al5];omega
  |succ n=>
   rw[show 2*(n+1)=(2*n+1)+1 from by omega,zD]
   have:=ae3 4 (x / (16*16))
   omega
 rw[show x / 256=x / (16*16)from rfl]
 generalize z4 (2*n) (x / (16*16))=q at *
 generalize z4 (2*n+1) (x / 16)=r at *
 generalize z4 (2*n+2) x=t at *
 have ht:(t / 16+t) / 2^8=q / 16+q:=by omega
 rw[ht]
 have:(t / 16+t)%2^4=pc 4 x+pc 4 (x / 16):=by omega
 omega
theorem bytes(x:Nat):st3 8 (z4 16 x)=pc 8 x+256*(pc 8 (x / 2^8)+256*(pc 8 (x / 2^16)+256*(pc 8 (x / 2^24)+256*(pc 8 (x / 2^32)+256*(pc 8 (x / 2^40)+256*(pc 8 (x / 2^48)+256*pc 8 (x / 2^56))))))):=by
 have h (n x:Nat):=ajm n x
 have h0:∀x,st3 0 (z4 0 x)=0:=fun x=>by simp[st3,msk]
 rw[h 7,h 6,h 5,h 4,h 3,h 2,h 1,h 0,h0]
 simp only[Nat.div_div_eq_div_mul]
 try rfl
end Bx
namespace Bx
open Go Go.Sx Go.Proofs
def okW(ws:List Int):Prop:=ws.length=16∧∀w∈ws,0≤w∧w<18446744073709551616
def wd(ws:List Int)(i:Nat):Nat:=(ws.getD i 0).toNat
def bit(ws:List Int)(k:Nat):Bool:=(wd ws (k / 64)).testBit (k%64)
def opb:BinOp→Bool→Bool→Bool
 |.or,x,y=>x||y
 |.andNot,x,y=>x&& !y
 |_,x,y=>x&&y
theorem qo{ws:List Int}(h:okW ws)(i:Nat):wd ws i<18446744073709551616∧(ws.getD i 0)=(wd ws i:Int):=by
 unfold wd
 by_cases hi:i<ws.length
 ·have:=h.2 (ws.getD i 0) (by rw[List.getD,List.getElem?_eq_getElem hi];exact List.getElem_mem hi)
  omega
 ·have:ws.getD i 0=0:=by simp[List.getD,List.getElem?_eq_none (Nat.le_of_not_lt hi)]
  rw[this];simp
theorem xO(op:BinOp)(v8:op=.or∨op=.and∨op=.andNot)(a b:Nat)(ha:a<18446744073709551616)(hb:b<18446744073709551616):
 ∃r:Nat,bH op .u64 (a:Int) (b:Int)=(r:Int)∧r<18446744073709551616∧∀i,i<64→r.testBit i=opb op (a.testBit i) (b.testBit i):=by
 have h1:BitVec.ofInt 64 (a:Int)=BitVec.ofNat 64 a:=BitVec.ofInt_natCast 64 a
 have h2:BitVec.ofInt 64 (b:Int)=BitVec.ofNat 64 b:=BitVec.ofInt_natCast 64 b
 have key:∀v:BitVec 64,IntKind.u64.wrap (v.toNat:Int)=(v.toNat:Int):=fun v=>by
  have:=v.isLt
  show(v.toNat:Int)%18446744073709551616=_
  omega
 rcases v8 with rfl|rfl|rfl
 ·refine⟨(BitVec.ofNat 64 a ||| BitVec.ofNat 64 b).toNat, ?_,(BitVec.ofNat 64 a ||| BitVec.ofNat 64 b).isLt,fun i hi=> ?_⟩
  ·show IntKind.u64.wrap ((BitVec.ofInt 64 (a:Int) ||| BitVec.ofInt 64 (b:Int)).toNat:Int)=_
   rw[h1,h2,key]
  ·rw[BitVec.testBit_toNat,BitVec.getLsbD_or,BitVec.getLsbD_ofNat,BitVec.getLsbD_ofNat]
   simp[opb,hi]
 ·refine⟨(BitVec.ofNat 64 a &&& BitVec.ofNat 64 b).toNat, ?_,(BitVec.ofNat 64 a &&& BitVec.ofNat 64 b).isLt,fun i hi=> ?_⟩
  ·show IntKind.u64.wrap ((BitVec.ofInt 64 (a:Int) &&& BitVec.ofInt 64 (b:Int)).toNat:Int)=_
   rw[h1,h2,key]
  ·rw[BitVec.testBit_toNat,BitVec.getLsbD_and,BitVec.getLsbD_ofNat,BitVec.getLsbD_ofNat]
   simp[opb,hi]
 ·refine⟨(BitVec.ofNat 64 a &&& ~~~ BitVec.ofNat 64 b).toNat, ?_,(BitVec.ofNat 64 a &&& ~~~ BitVec.ofNat 64 b).isLt,fun i hi=> ?_⟩
  ·show IntKind.u64.wrap ((BitVec.ofInt 64 (a:Int) &&& ~~~ BitVec.ofInt 64 (b:Int)).toNat:Int)=_
   rw[h1,h2,key]
  ·rw[BitVec.testBit_toNat,BitVec.getLsbD_and,BitVec.getLsbD_not,BitVec.getLsbD_ofNat,BitVec.getLsbD_ofNat]
   simp[opb,hi]
theorem vv{ws:List Int}(hl:ws.length=16)(h:∀i,i<16→0≤ws.getD i 0∧ws.getD i 0<18446744073709551616):okW ws:=by
 refine⟨hl,fun w hw=> ?_⟩
 obtain⟨i,hi,rfl⟩:=List.getElem_of_mem hw
 have:=h i (by omega)
 rwa[List.getD,List.getElem?_eq_getElem hi]at this
theorem ajn{op:BinOp}{a b:List Int}(ha:a.length=16)(hb:b.length=16){i:Nat}(hi:i<16):(bY op a b).getD i 0=bH op .u64 (a.getD i 0) (b.getD i 0):=by
 have h1:i<a.length:=by omega
 have h2:i<b.length:=by omega
 simp[bY,List.getD,List.getElem?_zipWith,h1,h2]
theorem jS{op:BinOp}(v8:op=.or∨op=.and∨op=.andNot){a b:List Int}(ha:okW a)(hb:okW b):okW (bY op a b)∧∀k,k<1024→bit (bY op a b) k=opb op (bit a k) (bit b k):=by
 have key:∀i,i<16→∃r:Nat,(bY op a b).getD i 0=(r:Int)∧r<18446744073709551616∧∀j,j<64→r.testBit j=opb op ((wd a i).testBit j) ((wd b i).testBit j):=fun i hi=>by
  rw[ajn ha.1 hb.1 hi,(qo ha i).2,(qo hb i).2]
  exact xO op v8 _ _ (qo ha i).1 (qo hb i).1
 refine⟨vv (by simp[bY,ha.1,hb.1]) fun i hi=> ?_,fun k hk=> ?_⟩
 ·obtain⟨r,h1,h2,_⟩:=key i hi
  rw[h1];omega
 ·obtain⟨r,h1,h2,h3⟩:=key (k / 64) (by omega)
  unfold bit
  rw[show wd (bY op a b) (k / 64)=r from by unfold wd;rw[h1];rfl]
  exact h3 _ (by omega)
theorem dF:okW aJ∧∀k,bit aJ k=false:=by
 refine⟨⟨rfl,fun w hw=> ?_⟩,fun k=> ?_⟩
 ·have:=List.eq_of_mem_replicate hw
  omega
 ·have:wd aJ (k / 64)=0:=by
   unfold wd aJ
   rw[List.getD,List.getElem?_replicate]
   split<;>rfl
  simp[bit,this]
theorem te{j i:Nat}:(2^j).testBit i=decide (j=i):=by
 rw[Nat.testBit_two_pow]
theorem aby{n:Int}(h:0≤n∧n<1024):lF n=((2^(n.toNat%64):Nat):Int)∧2^(n.toNat%64)<18446744073709551616∧dR n=((n.toNat / 64:Nat):Int):=by
 unfold lF dR
 rw[if_pos h,if_pos h]
 have e:(n%64).toNat=n.toNat%64:=by omega
 rw[e]
 have h2:(2:Nat)^(n.toNat%64)<2^64:=Nat.pow_lt_pow_right (by omega) (by omega)
 refine⟨by simp,h2,by omega⟩
theorem lH{n:Int}:gY n=true↔0≤n∧n<1024:=by simp[gY]
theorem ajo(op:BinOp)(v8:op=.or∨op=.andNot){ws:List Int}(hw:okW ws){n:Int}(h:0≤n∧n<1024):
 okW (ws.set (dR n).toNat (bH op .u64 (ws.getD (dR n).toNat 0) (lF n)))∧∀k,k<1024→bit (ws.set (dR n).toNat (bH op .u64 (ws.getD (dR n).toNat 0) (lF n))) k=opb op (bit ws k) (decide (n=(k:Int))):=by
 obtain⟨e1,e2,e3⟩:=aby h
 rw[e1,e3,Int.toNat_natCast]
 obtain⟨m,rfl⟩:=Int.eq_ofNat_of_zero_le h.1
 simp only[Int.toNat_natCast]at *
 have hb:=qo hw (m / 64)
 rw[hb.2]
 obtain⟨r,h1,h2,h3⟩:=xO op (by rcases v8 with h|h<;>simp[h]) _ _ hb.1 e2
 rw[h1]
 have hm:m / 64<ws.length:=by rw[hw.1];omega
 refine⟨vv (by simpa using hw.1) fun i hi=> ?_,fun k hk=> ?_⟩
 ·rw[qm]
  split
  ·omega
  ·have:=qo hw i;omega
 ·unfold bit wd
  rw[qm]
  by_cases sH:k / 64=m / 64
  ·rw[if_pos ⟨sH,hm⟩,Int.toNat_natCast,h3 _ (by omega),te]
   have:decide (m%64=k%64)=decide ((m:Int)=(k:Int)):=by
    apply decide_eq_decide.2;omega
   rw[this,sH]
   rfl
  ·rw[if_neg (fun h=>sH h.1)]
   have:decide ((m:Int)=(k:Int))=false:=decide_eq_false (by omega)
   rw[this]
   rcases v8 with rfl|rfl<;>simp[opb]
theorem fN{ws:List Int}(hw:okW ws)(n:Int):okW (cK ws n)∧∀k,k<1024→bit (cK ws n) k=(bit ws k||decide (n=(k:Int))):=by
 unfold cK
 by_cases h:0≤n∧n<1024
 ·rw[if_pos (lH.2 h)]
  exact ajo .or (.inl rfl) hw h
 ·rw[if_neg (fun h2=>h (lH.1 h2))]
  refine⟨hw,fun k hk=> ?_⟩
  rw[decide_eq_false (by omega),Bool.or_false]
theorem ky{ws:List Int}(hw:okW ws)(n:Int):okW (cM ws n)∧∀k,k<1024→bit (cM ws n) k=(bit ws k&& !decide (n=(k:Int))):=by
 unfold cM
 by_cases h:0≤n∧n<1024
 ·rw[if_pos (lH.2 h)]
  exact ajo .andNot (.inr rfl) hw h
 ·rw[if_neg (fun h2=>h (lH.1 h2))]
  refine⟨hw,fun k hk=> ?_⟩
  rw[decide_eq_false (by omega)]
  simp
theorem al6(w j:Nat):w &&& 2^j=if w.testBit j=true then 2^j else 0:=by
 apply Nat.eq_of_testBit_eq
 intro i
 rw[Nat.testBit_and,te]
 by_cases h:j=i
 ·subst h
  cases h2:w.testBit j
  ·simp
  ·simp[te]
 ·cases h2:w.testBit j
  ·simp[h]
  ·simp[te,h]
theorem ae4{ws:List Int}(hw:okW ws)(n:Int):lG ws n=(decide (0≤n∧n<1024)&&bit ws n.toNat):=by
 unfold lG
 by_cases h:0≤n∧n<1024
 ·rw[show gY n=true from lH.2 h,decide_eq_true h]
  obtain⟨e1,e2,e3⟩:=aby h
  rw[e1,e3,Int.toNat_natCast]
  have hb:=qo hw (n.toNat / 64)
  rw[hb.2]
  have:=apX _ _ hb.1 e2
  unfold ub at this
  rw[this,al6]
  unfold bit
  have hp:(0:Nat)<2^(n.toNat%64):=Nat.two_pow_pos _
  generalize (2:Nat)^(n.toNat%64)=p at *
  cases(wd ws (n.toNat / 64)).testBit (n.toNat%64)
  ·rfl
  ·rw[if_pos rfl]
   simp
   omega
 ·rw[show gY n=false from by simp[gY];omega,decide_eq_false h]
  rfl
theorem al7{a b:List Int}(ha:okW a)(hb:okW b)(h:∀k,k<1024→bit a k=bit b k):a=b:=by
 refine vr ha.1 hb.1 fun i hi=> ?_
 have h1:=qo ha i
 have h2:=qo hb i
 rw[h1.2,h2.2]
 congr 1
 apply Nat.eq_of_testBit_eq
 intro j
 by_cases hj:j<64
 ·have:=h (64*i+j) (by omega)
  unfold bit at this
  rwa[show(64*i+j) / 64=i from by omega,show(64*i+j)%64=j from by omega]at this
 ·rw[Nat.testBit_lt_two_pow (Nat.lt_of_lt_of_le h1.1 (Nat.pow_le_pow_right (by omega) (Nat.le_of_not_lt hj):2^64≤2^j)),Nat.testBit_lt_two_pow (Nat.lt_of_lt_of_le h2.1 (Nat.pow_le_pow_right (by omega) (Nat.le_of_not_lt hj):2^64≤2^j))]
theorem vw(n i:Int):∃m:Nat,m≤64∧agO n i=m∧rD n i=((2^m - 1:Nat):Int):=by
 obtain⟨h0,h1⟩:=vt n i
 obtain⟨m,hm⟩:=Int.eq_ofNat_of_zero_le h0
 refine⟨m,by omega,hm, ?_⟩
 unfold rD
 rw[hm,Int.toNat_natCast,show IntKind.u64.bits=64 from rfl,Nat.min_eq_left (by omega),Int.one_mul]
 show((2:Int)^m%18446744073709551616 - 1)%18446744073709551616=_
 have hp:=Nat.two_pow_pos m
 by_cases h64:m=64
 ·subst h64;decide
 ·have h2:(2:Nat)^m<2^64:=Nat.pow_lt_pow_right (by omega) (by omega)
  rw[show(2:Int)^m=((2^m:Nat):Int)from by simp]
  generalize (2:Nat)^m=p at *
  omega
theorem dq(n:Int):okW (cf n)∧∀k,k<1024→bit (cf n) k=decide ((k:Int)<n):=by
 have hg:∀i:Nat,i<16→(cf n).getD i 0=rD n i:=fun i hi=>by simp[cf,List.getD,hi]
 refine⟨vv (by simp[cf]) fun i hi=> ?_,fun k hk=> ?_⟩
 ·rw[hg i hi]
  obtain⟨m,h1,_,h2⟩:=vw n i
  rw[h2]
  have:(2:Nat)^m≤2^64:=Nat.pow_le_pow_right (by omega) h1
  omega
 ·unfold bit wd
  rw[hg _ (by omega)]
  obtain⟨m,h1,h3,h2⟩:=vw n ((k / 64:Nat):Int)
  rw[h2,Int.toNat_natCast,Nat.testBit_two_pow_sub_one]
  apply decide_eq_decide.2
  unfold agO oK imax at h3
  split at h3<;>(split at h3<;>(split at h3<;>split at h3<;>omega))
end Bx
namespace Bx
open Go Go.Sx Go.Proofs
abbrev s35:=bU [tU] [bo] (fun(x,())=>[(0:Int)≤x∧x<(18446744073709551616:Int)]) (fun(x,())=>(((pc 64 (Int.toNat x):Nat):Int),()))
def abz(x:Int):Int:=(Lib.ctz 64 x.toNat:Nat)
abbrev s34:=bU [tU] [bo] (fun(x,())=>[(0:Int)≤x∧x<(18446744073709551616:Int)]) (fun(x,())=>(abz x,()))
abbrev s13:=bU [bo] [dO] (fun _=>[]) (fun(n,())=>(cf n,()))
abbrev s21:=bU [dO,dO] [dO] (fun _=>[]) (fun(a,b,())=>(bY .andNot a b,()))
def apY:aG:=[(29,s13),(23,s21),(103,s34)]
def ar0:List (Nat×Norm):=[(6,⟨[],[17,18],0,[]⟩)]
noncomputable def c12(ws:List Int)(i:Int):bz:=⟨sl 30 [(17,.ints .u64 16 ws),(18,.s (.int .i64 i))],[],hd Tryd.f95 6,{}⟩
theorem apZ(ws:List Int)(n:Int):run P apY.sum Tryd.f95 ar0 (start Tryd.f95 [.ints .u64 16 ws,.s (.int .i64 n)] [])=
 Tree.ite (decide (imax n (0:Int)≥1024)) (.ret [.own [.ints .u64 16 ws] 47] (.bh [.s (.aZ .i64 0),.s (.aI false)])) (.at (.mk (sl 30 [(17,.ints .u64 16 (bY BinOp.andNot ws (cf (imax n 0)))),(18,.s (.int .i64 0))]) [] (hd Tryd.f95 6) (.mk none false 0 [] 0))):=by kernel_rfl
theorem ap0(ws:List Int)(i:Int):run P apY.sum Tryd.f95 ar0 (c12 ws i)=
 Tree.ite (decide (i<16)) (.need ((0:Int)≤i) (.need (i<(↑(16:Nat):Int)) (.ite (ws.getD i.toNat (0:Int) !=0) (.need (aD (i*64)) (.need ((0:Int)≤ws.getD i.toNat (0:Int)∧ws.getD i.toNat (0:Int)<18446744073709551616) (.need (aD (i*64+abz (ws.getD i.toNat 0))) (.ret [] (.bh [.s (.int .i64 (i*64+abz (ws.getD i.toNat 0))),.s (.aI true)]))))) (.need (aD (i+1)) (.at (.mk (sl 30 [(17,.ints .u64 16 ws),(18,.s (.int .i64 (i+1)))]) [] (hd Tryd.f95 6) (.mk none false 0 [] 0))))))) (.ret [] (.bh [.s (.aZ .i64 0),.s (.aI false)])):=by kernel_rfl
def kz:List Int→Int→Option Int
 |[],_=>none
 |w::ws,i=>if w≠0 then some (i*64+abz w)else kz ws (i+1)
def nj(ws:List Int)(n:Int):Option Int:=if imax n 0≥1024 then none else kz (bY .andNot ws (cf (imax n 0))) 0
def br(ws:List Int)(n:Int):Int:=(nj ws n).getD 0
def eF(ws:List Int)(n:Int):Bool:=(nj ws n).isSome
abbrev s12:=bU [dO,bo] [bo,ch] (fun(ws,_,())=>[okW ws]) (fun(ws,n,())=>(br ws n,eF ws n,()))
def fr(b:Nat→Bool)(m:Nat):List Nat:=(List.range m).filter b
def ajp(ws:List Int):List Nat:=fr (bit ws) 1024
theorem qp(b:Nat→Bool)(m:Nat):fr b (m+1)=fr b m++(if b m=true then [m]else []):=by
 unfold fr
 rw[List.range_succ,List.filter_append]
 cases h:b m<;>simp[h]
theorem agQ(b:Nat→Bool)(m:Nat):(fr b m).length≤m:=by
 have:=List.length_filter_le b (List.range m)
 rwa[List.length_range]at this
theorem abA{x:Nat}(h0:x≠0)(h:x<18446744073709551616):Lib.ctz 64 x<64∧x.testBit (Lib.ctz 64 x)=true∧∀c,c<Lib.ctz 64 x→x.testBit c=false:=by
 unfold Lib.ctz
 rw[if_neg h0]
 obtain⟨m,h1,h2⟩:=Lib.ctzFrom_spec 64 x (by omega) h
 generalize Lib.ctzFrom 64 x=e at *
 refine⟨h2, ?_,fun c hc=> ?_⟩
 ·rw[h1,Nat.testBit_two_pow_mul]
  simp
 ·rw[h1,Nat.testBit_two_pow_mul]
  simp;omega
theorem l5 : ∀ (l : List Int) (i : Int), (∀ w ∈ l, 0 ≤ w ∧ w < 18446744073709551616) →
    match kz l i with
    | some v => ∃ j c : Nat, j < l.length ∧ c < 64 ∧ v = (i + j) * 64 + c ∧ (l.getD j 0).toNat.testBit c = true ∧ (∀ c', c' < c → (l.getD j 0).toNat.testBit c' = false) ∧ ∀ j', j' < j → l.getD j' 0 = 0
    | none => ∀ j, l.getD j 0 = 0
  | [], i, _ => fun j => by simp
  | w :: l, i, h => by
    unfold kz
    have hw := h w (by simp)
    by_cases h0 : w ≠ 0
    · rw [if_pos h0]
      obtain ⟨h1, h2, h3⟩ := abA (x := w.toNat) (by omega) (by omega)
      exact ⟨0, Lib.ctz 64 w.toNat, by simp, h1, by simp [abz], by simpa using h2, by simpa using h3, fun j' hj => by omega⟩
    · rw [if_neg h0]
      have ih := l5 l (i + 1) (fun x hx => h x (by simp [hx]))
      split
      · rename_i v hv
        rw [hv] at ih
        obtain ⟨j, c, h1, h2, h3, h4, h5, h6⟩ := ih
        refine ⟨j + 1, c, by simp; omega, h2, by rw [h3]; simp; omega, by simpa using h4, by simpa using h5, fun j' hj => ?_⟩
        cases j' with
        | zero => simp; omega
        | succ j' => simpa using h6 j' (by omega)
      · rename_i hv
        rw [hv] at ih
        intro j
        cases j with
        | zero => simp; omega
        | succ j => simpa using ih j
theorem adw{ws:List Int}(hw:okW ws){n v:Int}(h:nj ws n=some v):∃p:Nat,v=(p:Int)∧p<1024∧bit ws p=true∧n≤(p:Int)∧∀k:Nat,k<p→n≤(k:Int)→bit ws k=false:=by
 unfold nj at h
 split at h
 ·cases h
 ·rename_i h0
  obtain⟨h1,h2⟩:=jS (.inr (.inr rfl)) hw (dq (imax n 0)).1
  have hs:=l5 _ 0 h1.2
  rw[h]at hs
  obtain⟨j,c,g1,g2,g3,g4,g5,g6⟩:=hs
  rw[h1.1]at g1
  have hm:∀k,k<1024→bit (bY .andNot ws (cf (imax n 0))) k=(bit ws k&& !decide ((k:Int)<imax n 0)):=fun k hk=>by
   rw[h2 k hk,(dq (imax n 0)).2 k hk];rfl
  have hp:bit (bY .andNot ws (cf (imax n 0))) (64*j+c)=true:=by
   unfold bit wd
   rw[show(64*j+c) / 64=j from by omega,show(64*j+c)%64=c from by omega]
   exact g4
  have adv:∀k,k<64*j+c→bit (bY .andNot ws (cf (imax n 0))) k=false:=fun k hk=>by
   unfold bit wd
   by_cases hkj:k / 64=j
   ·rw[hkj];exact g5 _ (by omega)
   ·rw[g6 (k / 64) (by omega)];simp
  have ar1:imax n 0=n∧0≤n∨imax n 0=0∧n<0:=by unfold imax;split<;>omega
  have hp2:=hp
  rw[hm _ (by omega)]at hp2
  simp only[Bool.and_eq_true,Bool.not_eq_true',decide_eq_false_iff_not]at hp2
  refine⟨64*j+c,by rw[g3];simp;omega,by omega,hp2.1,by omega,fun k hk hn=> ?_⟩
  have:=adv k hk
  rw[hm k (by omega)]at this
  simp only[Bool.and_eq_false_iff,Bool.not_eq_false',decide_eq_true_eq]at this
  rcases this with h|h
  ·exact h
  ·omega
theorem adx{ws:List Int}(hw:okW ws){n:Int}(h:nj ws n=none):∀k:Nat,k<1024→n≤(k:Int)→bit ws k=false:=by
 intro k hk hn
 unfold nj at h
 have ar1:imax n 0=n∧0≤n∨imax n 0=0∧n<0:=by unfold imax;split<;>omega
 split at h
 ·omega
 ·rename_i h0
  obtain⟨h1,h2⟩:=jS (.inr (.inr rfl)) hw (dq (imax n 0)).1
  have hs:=l5 _ 0 h1.2
  rw[h]at hs
  have hb:bit (bY .andNot ws (cf (imax n 0))) k=false:=by
   unfold bit wd
   rw[hs];simp
  rw[h2 k hk,(dq (imax n 0)).2 k hk,decide_eq_false (by omega)]at hb
  simpa[opb]using hb
theorem al8{Z:ba}(h34:uC P Z 103 s34):dg P Z 95 [dO,bo] [bo,ch] (fun(ws,_,())=>[okW ws]) (fun(ws,n,())=>(br ws n,eF ws n,())):=by
 refine aw Tryd.func95 (by kernel_rfl) (by kernel_rfl) ?_
 rintro⟨(ws:List Int),(n:Int),⟨⟩⟩ _ ⟨(hw:okW ws),_⟩ X hX hz
 have hT:apY.Ok P Z:=aG.Ok.cons vu.sum (aG.Ok.cons zC.sum (aG.Ok.cons h34 aG.Ok.nil))
 refine go hz hX hT Tryd.func95 (apZ ws n) ⟨fun h=> ?_,fun h=> ?_⟩
 ·have h:imax n 0≥1024:=of_decide_eq_true h
  refine aU (0,false,()) ?_ (by kernel_rfl)
  simp only[br,eF,nj,if_pos h]
  rfl
 ·have h:¬imax n 0≥1024:=of_decide_eq_false h
  have e:nj ws n=kz (bY .andNot ws (cf (imax n 0))) 0:=by unfold nj;rw[if_neg h]
  have hr:=(jS (.inr (.inr rfl)) hw (dq (imax n 0)).1).1
  simp only[br,eF,e]
  generalize bY BinOp.andNot ws (cf (imax n 0))=rest at *
  refine rm (fun(i:Int)=>c12 rest i) (fun i=>0≤i∧i≤16∧kz rest 0=kz (rest.drop i.toNat) i) (fun i=>(16 - i).toNat) ?_ 0 ⟨by omega,by omega,rfl⟩
  rintro i ⟨(h0:0≤i),(h1:i≤16),h2⟩ ih
  have hl:=hr.1
  refine go hz hX hT Tryd.func95 (ap0 rest i) ⟨fun h=> ?_,fun h=> ?_⟩
  ·have hi:i<(16:Int):=of_decide_eq_true h
   have hd:rest.drop i.toNat=rest.getD i.toNat 0::rest.drop (i.toNat+1):=by
    rw[List.drop_eq_getElem_cons (by omega),List.getD,List.getElem?_eq_getElem (by omega)];rfl
   have hm:=hr.2 (rest.getD i.toNat 0) (by rw[List.getD,List.getElem?_eq_getElem (by omega)];exact List.getElem_mem (by omega))
   rw[hd,kz]at h2
   refine⟨h0,hi,fun h3=> ?_,fun h3=>⟨⟨by omega,by omega⟩,ih (i+1) ⟨by omega,by omega, ?_⟩ (by omega)⟩⟩
   ·have h3:rest.getD i.toNat 0≠0:=by simpa using h3
    rw[if_pos h3]at h2
    have hc:=(abA (x:=(rest.getD i.toNat 0).toNat) (by omega) (by omega)).1
    refine⟨⟨by omega,by omega⟩,hm,⟨by unfold abz;omega,by unfold abz;omega⟩, ?_⟩
    rw[h2]
    exact aU _ rfl (by kernel_rfl)
   ·have h3:¬rest.getD i.toNat 0≠0:=by simpa using h3
    rw[if_neg h3]at h2
    rw[h2,show(i+1).toNat=i.toNat+1 from by omega]
  ·have hi:¬i<(16:Int):=of_decide_eq_false h
   rw[List.drop_eq_nil_of_le (by omega)]at h2
   rw[h2]
   exact aU (0,false,()) rfl (by kernel_rfl)
end Bx
namespace Ts
open Go Go.Sx Go.Proofs Lf
abbrev Th:=Ds.Th
abbrev As:=Ds.As
abbrev Ws:=List Int
def fG(th:Th)(m:As)(n deep:Int):Int:=if deep>16 then 4 else if Ds.iM th m n=0 then rA (Ds.gu th m n)else Ds.iM th m n
def rE(th:Th)(m:As)(n deep:Int):Bool:=decide (deep≤16)&&decide (Ds.iM th m n=0)
def j7(th:Th)(m:As)(n deep:Int):Bool:=rE th m n deep&&jf (Ds.gu th m n)
def bK(th:Th)(m:As)(n deep:Int):List En:=if rE th m n deep=true then nf (Ds.gu th m n)else []
def aN(th:Th)(m:As)(n deep:Int):List Br:=if rE th m n deep=true then mj (Ds.gu th m n)else []
def cO(l:Bool)(es:List En)(bs:List Br):ByteArray:=if l=true then(es.getD 0 dE).1 else(bs.getD 0 dB).1
def aa:List Br→List Br
 |[]=>[]
 |b::r=>(ByteArray.empty,b.2.1,())::r
abbrev Wr:Type:=As×Int×Ws×Ws×Br×Int
def bF(th:Th)(m:As)(fu:Int)(fr fs:Ws)(l:Bool)(es:List En)(bs:List Br):Wr:=
 if Bx.eF fr 0=false then(m,fu,fr,fs,dB,41)
 else if gI l es (aa bs)≠0 then(m,fu,fr,fs,dB,gI l es (aa bs))
 else if(Ds.jY th m fu (Bx.br fr 0) (cX l es (aa bs))).2.2≠0 then
  ((Ds.jY th m fu (Bx.br fr 0) (cX l es (aa bs))).1,(Ds.jY th m fu (Bx.br fr 0) (cX l es (aa bs))).2.1,fr,fs,dB,(Ds.jY th m fu (Bx.br fr 0) (cX l es (aa bs))).2.2)
 else((Ds.jY th m fu (Bx.br fr 0) (cX l es (aa bs))).1,(Ds.jY th m fu (Bx.br fr 0) (cX l es (aa bs))).2.1,Bx.cM fr (Bx.br fr 0),Bx.cK fs (Bx.br fr 0),(cO l es bs,Bx.br fr 0,()),0)
abbrev Wrs:Type:=As×Int×Ws×Ws×List Br×Int
def two(a:Wr)(b:Wr):Wrs:=(b.1,b.2.1,b.2.2.1,b.2.2.2.1,[a.2.2.2.2.1,b.2.2.2.2.1],b.2.2.2.2.2)
def bk(th:Th)(m:As)(fu:Int)(fr fs:Ws)(l:Bool)(es:List En)(bs:List Br):Wrs:=
 if es.length+bs.length=0 then(m,fu,fr,fs,[],0)
 else if bd es (aa bs)≤254 then
  let a:=bF th m fu fr fs l es (aa bs)
  (a.1,a.2.1,a.2.2.1,a.2.2.2.1,[a.2.2.2.2.1],a.2.2.2.2.2)
 else if spC l es (aa bs)≠0 then(m,fu,fr,fs,[],spC l es (aa bs))
 else
  let a:=bF th m fu fr fs (bL l es (aa bs)) (aY l es (aa bs)) (a8 l es (aa bs))
  if a.2.2.2.2.2≠0 then(a.1,a.2.1,a.2.2.1,a.2.2.2.1,[],a.2.2.2.2.2)
  else two a (bF th a.1 a.2.1 a.2.2.1 a.2.2.2.1 (bL l es (aa bs)) (cI l es (aa bs)) (cQ l es (aa bs)))
def doE(key:ByteArray)(op:Option ByteArray)(l:List En):List En:=match op with
 |some val=>bt l key val
 |none=>if gR l key=true then cw l key else []
def qI(key:ByteArray)(op:Option ByteArray)(l:List En):Int:=match op with
 |some _=>0
 |none=>if gR l key=true then 0 else 5
def iU(fs:Ws)(n:Int):Ws:=if Bx.lG fs n=true then Bx.cM fs n else fs
def pb(fs gn:Ws)(n:Int):Ws:=if Bx.lG fs n=true then Bx.cK gn n else gn
abbrev Chg:Type:=As×Int×Ws×Ws×Ws×List Br×Int
def gK(gn:Ws)(w:Wrs):Chg:=(w.1,w.2.1,w.2.2.1,w.2.2.2.1,gn,w.2.2.2.2.1,w.2.2.2.2.2)
def kK(k:ByteArray):List Br→List Br
 |[]=>[]
 |b::r=>(k,b.2.1,())::r
def vz(th:Th)(key:ByteArray)(op:Option ByteArray):Nat→As→Int→Ws→Ws→Ws→Int→Int→Chg
 |0,m,fu,fr,fs,gn,_,_=>(m,fu,fr,fs,gn,[],4)
 |f+1,m,fu,fr,fs,gn,n,deep=>
  if fG th m n deep≠0 then(m,fu,fr,fs,gn,[],fG th m n deep)
  else if j7 th m n deep=true then
   if qI key op (bK th m n deep)≠0 then(m,fu,fr,fs,gn,[],qI key op (bK th m n deep))
   else gK (pb fs gn n) (bk th m fu fr (iU fs n) true (doE key op (bK th m n deep)) (aN th m n deep))
  else if aN th m n deep=[]then(m,fu,fr,fs,gn,[],4)
  else
   let k:=(aT (aN th m n deep) key).toNat
   let r:=vz th key op f m fu fr fs gn ((aN th m n deep).getD k dB).2.1 (deep+1)
   if r.2.2.2.2.2.2≠0 then(r.1,r.2.1,r.2.2.1,r.2.2.2.1,r.2.2.2.2.1,[],r.2.2.2.2.2.2)
   else gK (pb r.2.2.2.1 r.2.2.2.2.1 n) (bk th r.1 r.2.1 r.2.2.1 (iU r.2.2.2.1 n) false (bK th m n deep)
    ((aN th m n deep).take k++kK ((aN th m n deep).getD k dB).1 r.2.2.2.2.2.1++(aN th m n deep).drop (k+1)))
end Ts
namespace Bx
open Go Go.Sx Go.Proofs Go.RowKit
set_option maxHeartbeats 1000000 in
theorem al9(x k idx:Nat)(w:World)(hx0:((x:Int)==0)=false)
 (key:IntKind.u64.wrap (bits BinOp.and IntKind.u64 (x:Int) (IntKind.u64.wrap (-(x:Int)))*285870213051353865) / 288230376151711744=(idx:Int))
 (hi:idx<64) (hk:k<64) (pL:w.cell? ⟨1,idx,none⟩=some (.int .u8 k)):
 Calls Tryd.prog 103 #[.int .u64 x] w fun e w'=>e=.returned (.int .i64 k)∧w'=w:=by
 go_enter Tryd.func103,Tryd.ntmps103
 go_wp2_with (simp only[key])
 go_ret
 exact⟨rfl,rfl⟩
set_option maxHeartbeats 1000000 in
theorem ama(w:World):
 Calls Tryd.prog 103 #[.int .u64 0] w fun e w'=>e=.returned (.int .i64 64)∧w'=w:=by
 go_enter Tryd.func103,Tryd.ntmps103
 go_wp2
 go_ret
 exact⟨rfl,rfl⟩
theorem ap1(w:World)(h:TabAt 1 Lib.deBruijn64tab w):1<w.heap.size:=by
 have h0:=h 0 (by decide)
 rcases Nat.lt_or_ge 1 w.heap.size with h1|h1
 ·exact h1
 ·simp[World.cell?,Array.getElem?_eq_none h1]at h0
def bT:ba:=⟨[1],TabAt 1 Lib.deBruijn64tab,fun w h b hb=>by rw[List.mem_singleton.1 hb];exact ap1 w h,fun w w' h k j hj=>by rw[lO (k 1 (by simp))];exact h j hj⟩
theorem ap2(x:Nat)(hx:x<18446744073709551616)(w:World)(hT:TabAt 1 Lib.deBruijn64tab w):
 Calls Tryd.prog 103 #[.int .u64 x] w fun e w'=>e=.returned (.int .i64 (Lib.ctz 64 x))∧w'=w:=by
 by_cases hx0:x=0
 ·subst hx0
  exact ama w
 ·obtain⟨adv,hk⟩:=Lib.lowest_bit 64 x hx0 hx
  obtain⟨hi,at6⟩:=Lib.deBruijn64_at _ hk
  have pL:=hT _ hi
  rw[at6]at pL
  exact al9 x _ _ w (by simp;omega) (tz64_key x _ hx hx0 adv) hi hk pL
theorem ar2:dg P bT 103 [tU] [bo] (fun(x,())=>[(0:Int)≤x∧x<(18446744073709551616:Int)]) (fun(x,())=>(abz x,())):=by
 rintro⟨(x:Int),⟨⟩⟩ _ ⟨(hx:0≤x∧x<18446744073709551616),_⟩ G w vs hG hz hd
 obtain⟨n,rfl⟩:=Int.eq_ofNat_of_zero_le hx.1
 obtain⟨v,rest,rfl,h1,h2⟩:=au.1 hd
 obtain rfl:=aV.1 h2
 have h3:v=.int .u64 n:=by
  have:=ah (x:=.int .u64 n) (by simp) h1
  cases this;rfl
 subst h3
 refine(ap2 n (by omega) w hz).mono ?_
 rintro e w' ⟨rfl,rfl⟩
 refine⟨_,rfl,Good.val ⟨fun id o ho=>by simp at ho,fun i j oi oj b hi=>by simp at hi,fun b hb=> ?_,hG⟩ ?_⟩
 ·obtain⟨id,o,ho,_⟩:=hb;cases ho
 ·exact aq (.int .i64 _)
end Bx
namespace Lf
open Go Go.Sx Go.Proofs
abbrev gL:Ty:=.st [.bool,.lr (.ae cE) eE,.lr (.ae cB) eB]
abbrev anS(l:Bool)(r:Int×List En×List Br):AL [gL,bo]:=((decide (r.1=0)&&l,r.2.1,r.2.2,()),r.1,())
abbrev sr(s:ByteArray):AL [gL,bo]:=((jf s,nf s,mj s,()),rA s,())
theorem amb{Z:ba}:dg P Z 57 [dG] [gL,bo] (fun _=>[]) (fun(s,())=>((jf s,nf s,mj s,()),rA s,())):=by
 refine aw Tryd.func57 (by kernel_rfl) (by kernel_rfl) ?_
 rintro⟨(s0:ByteArray),⟨⟩⟩ _ _ X hX hz
 show Safe P 57 X (Ends [gL,bo] (sr s0)) _
 have loop:∀(l:Bool) (n:Nat) (s:ByteArray) (es:List En) (bs:List Br),s.size≤n→es.length+bs.length+s.size≤254→anS l (hZ l n s es bs)=sr s0→
  Safe P 57 X (Ends [gL,bo] (sr s0)) (arG s l es bs):=by
  intro l n
  induction n with
  |zero=>
   intro s es bs hn hb hy
   obtain rfl:=lu (Nat.le_zero.1 hn)
   refine go hz hX jz Tryd.func57 (aeR ByteArray.empty l es bs) ⟨fun h=>absurd h (by simp),fun _=>⟨fun h=> ?_,fun h=> ?_⟩⟩
   ·refine aU ((false,[],[],()),4,()) ?_ (by kernel_rfl)
    rw[←hy,hZ,if_neg (by simpa using h)];rfl
   ·refine aU ((l,es,bs,()),0,()) ?_ (by kernel_rfl)
    rw[←hy,hZ,if_pos (by simpa using h)];rfl
  |succ n ih=>
   intro s es bs hn hb hy
   refine go hz hX jz Tryd.func57 (aeR s l es bs) ⟨fun h=> ?_,fun h=> ?_⟩
   ·have h:s≠ByteArray.empty:=by simpa using h
    have bad:hZ l (n+1) s es bs=(8,[],[])→∀(s':ByteArray) (kZ:List En) (oo:List Br),Safe P 57 X (Ends [gL,bo] (sr s0)) (aiW s' l kZ oo false):=fun e s' kZ oo=>by
     refine go hz hX jz Tryd.func57 (abi s' l kZ oo false) ⟨fun _=> ?_,fun h=>by cases h⟩
     refine aU ((false,[],[],()),8,()) ?_ (by kernel_rfl)
     rw[←hy,e];rfl
    have cont:∀(s':ByteArray) (kZ:List En) (oo:List Br),s'.size≤n→kZ.length+oo.length+s'.size≤254→anS l (hZ l n s' kZ oo)=sr s0→Safe P 57 X (Ends [gL,bo] (sr s0)) (aiW s' l kZ oo true):=fun s' kZ oo h1 h2 h3=>by
     refine go hz hX jz Tryd.func57 (abi s' l kZ oo true) ⟨fun h=>(by cases h),fun _=>ih s' kZ oo h1 h2 h3⟩
    have hr:=fun hB=>jR (s:=s) hB
    refine⟨rfl,rfl,fun hl=>⟨fun hB=>⟨rfl,rfl,by omega, ?_⟩,fun hB=> ?_⟩,fun hl=>⟨fun hB=>⟨rfl,rfl,by decide,fun h2=> ?_,fun h2=> ?_⟩,fun hB=> ?_⟩⟩
    ·subst hl
     have hr:=hr hB
     cases h2:wG (gQ s)
     ·exact bad (by rw[hZ,if_neg h,if_neg (by simp[hB]),if_pos rfl,if_neg (by simp[h2])]) _ _ _
     ·have:=jR h2
      exact cont _ _ _ (by omega) (by simp only[List.length_append,List.length_cons,List.length_nil];omega) (by rw[←hy,hZ,if_neg h,if_neg (by simp[hB]),if_pos rfl,if_pos h2])
    ·exact⟨fun h=>(by rw[hB]at h;cases h),fun _=>by rw[hB];exact bad (by rw[hZ,if_neg h,if_pos hB]) _ _ _⟩
    ·subst hl
     have hr:=hr hB
     have e1:=ve (by decide) h2
     have e2:=abj (by decide) h2
     have b0:=gH (jZ 2 (gQ s)) 0
     have b1:=gH (jZ 2 (gQ s)) 1
     refine⟨by decide,by omega,⟨by show _≤aW _ 0;omega,by show aW _ 0≤_;omega⟩,by decide,by decide,by omega,⟨by show _≤aW _ 1;omega,by show aW _ 1≤_;omega⟩,by omega, ?_⟩
     rw[h2]
     exact cont _ _ _ (by omega) (by simp only[List.length_append,List.length_cons,List.length_nil];omega) (by rw[←hy,hZ,if_neg h,if_neg (by simp[hB]),if_neg (by simp),if_pos h2];rfl)
    ·subst hl
     rw[h2]
     exact bad (by rw[hZ,if_neg h,if_neg (by simp[hB]),if_neg (by simp),if_neg (by simp[h2])]) _ _ _
    ·rw[hB]
     exact bad (by rw[hZ,if_neg h,if_pos hB]) _ _ _
   ·have h:s=ByteArray.empty:=by simpa using h
    refine⟨fun h2=> ?_,fun h2=> ?_⟩
    ·refine aU ((false,[],[],()),4,()) ?_ (by kernel_rfl)
     rw[←hy,hZ,if_pos h,if_neg (by simpa using h2)];rfl
    ·refine aU ((l,es,bs,()),0,()) ?_ (by kernel_rfl)
     rw[←hy,hZ,if_pos h,if_pos (by simpa using h2)];rfl
 have first:(s0.size:Int)≤254→s0≠ByteArray.empty→¬(aW s0 0≠1∧aW s0 0≠2)→Safe P 57 X (Ends [gL,bo] (sr s0)) (anM s0):=fun h1 h2 h3=>by
  have hp:0<s0.size:=Nat.pos_of_ne_zero fun e=>h2 (lu e)
  refine go hz hX jz Tryd.func57 (aiX s0) ⟨by omega,by omega,by omega,by omega,by omega, ?_⟩
  have e:nX s0=hZ (aW s0 0==1) s0.size (s0.extract 1 s0.size) [] []:=by rw[nX,if_neg (by omega),if_neg h2,if_neg h3]
  refine loop (aW s0 0==1) s0.size (s0.extract 1 s0.size) [] [] (by rw[dh];omega) (by rw[dh];simp only[List.length_nil];omega) ?_
  rw[←e];rfl
 have err:∀(c:Int) (hc:decide (c=0)=false),nX s0=(c,[],[])→sr s0=((false,[],[],()),c,()):=fun c hc e=>by
  show((decide ((nX s0).1=0)&&(aW s0 0==1),(nX s0).2.1,(nX s0).2.2,()),(nX s0).1,())=_
  rw[e,hc];rfl
 refine go hz hX jz Tryd.func57 (alz s0) ⟨fun h=>aU ((false,[],[],()),40,()) (err 40 rfl ?_) (by kernel_rfl),fun h=>⟨fun h2=>aU ((false,[],[],()),8,()) (err 8 rfl ?_) (by kernel_rfl),fun h2=> ?_⟩⟩
 ·rw[nX,if_pos (of_decide_eq_true h)]
 ·rw[nX,if_neg (of_decide_eq_false h),if_pos (of_decide_eq_true h2)]
 ·have h:=of_decide_eq_false h
  have h2:=of_decide_eq_false h2
  have hp:0<s0.size:=Nat.pos_of_ne_zero fun e=>h2 (lu e)
  refine⟨by omega,by omega,fun h3=>⟨by omega,by omega,fun h4=>aU ((false,[],[],()),4,()) (err 4 rfl ?_) (by kernel_rfl),fun h4=>first (by omega) h2 ?_⟩,fun h3=>first (by omega) h2 ?_⟩
  ·have h3:aW s0 0≠1:=by simpa using h3
   have h4:aW s0 0≠2:=by simpa using h4
   rw[nX,if_neg h,if_neg h2,if_pos ⟨h3,h4⟩]
  ·have h4:aW s0 0=2:=by simpa using h4
   exact fun e=>e.2 h4
  ·have h3:aW s0 0=1:=by simpa using h3
   exact fun e=>e.1 h3
end Lf
namespace Go.Sx
open Go
inductive Wk1:AV→AV→Prop
 |refl (a:AV):Wk1 a a
 |bl (b:Bool):Wk1 (.s (.aI b)) (.s (.bool b))
 |il (k:IntKind) (n:Int):Wk1 (.s (.aZ k n)) (.s (.int k n))
 |em (c:aF):c.n=0→Wk1 .emp (.s (.ro c))
inductive WkL:List AV→List AV→Prop
 |nil:WkL [] []
 |cons {a b:AV} {l m:List AV}:Wk1 a b→WkL l m→WkL (a::l) (b::m)
inductive Wk2:AV→AV→Prop
 |one {a b:AV}:Wk1 a b→Wk2 a b
 |agg {l m:List AV}:WkL l m→Wk2 (.agg l) (.agg m)
inductive oq:List AV→List AV→Prop
 |nil:oq [] []
 |cons {a b:AV} {l m:List AV}:Wk2 a b→oq l m→oq (a::l) (b::m)
inductive Wk:AV→AV→Prop
 |two {a b:AV}:Wk2 a b→Wk a b
 |bh {l m:List AV}:oq l m→Wk (.bh l) (.bh m)
section
variable{ρ:Nat→Value}{H:aH}{O:Nat→Prop}{w:World}
theorem Wk1.den{a b:AV}(h:Wk1 a b){v:Value}(hd:ab ρ H O w a v):ab ρ H O w b v:=by
 cases h with
 |refl=>exact hd
 |bl b=>
  have:=ah (by simp) hd
  cases this
  exact aq (.bool _)
 |il k n=>
  have:=ah (by simp) hd
  cases this
  exact aq (.int _ _)
 |em c hc=>
  unfold ab at hd
  obtain⟨a,rfl⟩:=hd
  exact aq (sX hc a)
theorem Wk1.ac1{a b:AV}(h:Wk1 a b){cs:List Value}(hd:aC ρ H O w a cs):aC ρ H O w b cs:=by
 cases h with
 |refl=>exact hd
 |bl b=>
  unfold aC at hd ⊢
  obtain⟨u,rfl,h⟩:=hd
  cases h
  exact⟨_,rfl,.bool _⟩
 |il k n=>
  unfold aC at hd ⊢
  obtain⟨u,rfl,h⟩:=hd
  cases h
  exact⟨_,rfl,.int _ _⟩
 |em c hc=>
  unfold aC at hd ⊢
  obtain⟨u,rfl,a,rfl⟩:=hd
  exact⟨_,rfl,sX hc a⟩
theorem WkL.den{l m:List AV}(h:WkL l m):∀{cs:List Value},an ρ H O w l cs→an ρ H O w m cs:=by
 induction h with
 |nil=>exact fun hd=>hd
 |cons h1 _ ih=>
  intro cs hd
  unfold an at hd ⊢
  obtain⟨c1,c2,e,g1,g2⟩:=hd
  exact⟨c1,c2,e,h1.ac1 g1,ih g2⟩
theorem Wk2.den{a b:AV}(h:Wk2 a b){v:Value}(hd:ab ρ H O w a v):ab ρ H O w b v:=by
 cases h with
 |one h=>exact h.den hd
 |agg h=>
  unfold ab at hd ⊢
  obtain⟨cs,e,g⟩:=hd
  exact⟨cs,e,h.den g⟩
theorem oq.den{l m:List AV}(h:oq l m):∀{vs:List Value},bx ρ H O w l vs→bx ρ H O w m vs:=by
 induction h with
 |nil=>exact fun hd=>hd
 |cons h1 _ ih=>
  intro vs hd
  obtain⟨v,rest,e,g1,g2⟩:=au.1 hd
  exact au.2 ⟨v,rest,e,h1.den g1,ih g2⟩
theorem Wk.den{a b:AV}(h:Wk a b){v:Value}(hd:ab ρ H O w a v):ab ρ H O w b v:=by
 cases h with
 |two h=>exact h.den hd
 |bh h=>
  unfold ab at hd ⊢
  obtain⟨us,e,g⟩:=hd
  exact⟨us,e,h.den g⟩
end
theorem ap3{X:Type}{S:Spec X}{x:X}{L:List ad}{r:AV}{o o':AV}{h:List ad}(m:Nat)(e:Norm.run ⟨[],[0],m,[]⟩ ⟨[r],L,[],{}⟩=some ⟨[o],h,[],{}⟩)(hm:(S.heap x).length≤m)(hw:Wk o o')(ho:S.out x=o')(hh:S.fk x=h):aiu S x L r:=
 ⟨⟨[],[0],m,[]⟩,o,hm,by rw[hh];exact e,fun ρ H O w v hd=>by rw[ho];exact hw.den hd⟩
end Go.Sx
namespace Ts
open Go Go.Sx Go.Proofs Lf
noncomputable abbrev P:Program:=Tryd.prog
abbrev eT:TypeId:=70
abbrev obT(i:Nat)(root:Int)(fr fs gn:Ws):ad:=.own [.ptr i 0,.s (.int .i64 root),.ints .u64 16 fr,.ints .u64 16 fs,.ints .u64 16 gn] eT
abbrev hT(th:Th)(m:As)(fu root:Int)(fr fs gn:Ws):List ad:=[obT 1 root fr fs gn,Ds.obD 2 3 fu,.vec (.ae Ds.cS th) Ds.eS,.map Ds.kS m]
abbrev bJ(n:Int):AV:=.s (.int .i64 n)
abbrev ar3:=dm Ds.sGR Ds.mRd
abbrev ar4:=dm Ds.sGW Ds.mWr
abbrev ap4:=uD [dG] [gL,bo] (fun _=>[]) (fun(s,())=>((jf s,nf s,mj s,()),rA s,()))
def anT:aG:=[(56,ar3),(57,ap4)]
theorem at7(th:Th)(m:As)(fu root:Int)(fr fs gn:Ws)(n deep:Int):run P anT.sum Tryd.f37 [] (start Tryd.f37 [.ptr 0 0,bJ n,bJ deep] (hT th m fu root fr fs gn))=
 Tree.ite (decide (deep>16)) (.ret [.own [.ptr 1 0,.s (.int .i64 root),.ints .u64 16 fr,.ints .u64 16 fs,.ints .u64 16 gn] 70,.own [.vec 2,.ag 3,.s (.int .i64 fu)] 96,.vec (.ae [.arr .u8 64] th) 138,.map (.arr .u8 64) m,.own [.s (.aI false),.emp,.emp] 73] (.bh [.agg [.s (.aI false),.emp,.emp],.s (.aZ .i64 4)])) (.need (bu (some [AV.ptr 0 0,.s (.int .i64 n)])) (.need (bu (some [ad.own [.vec 1,.ag 2,.s (.int .i64 fu)] 96,.vec (.ae [.arr .u8 64] th) 138,.map (.arr .u8 64) m])) (.need (Ds.bI th m fu) (.need (aD n) (.ite (Ds.iM th m n !=0) (.ret [.own [.ptr 1 0,.s (.int .i64 root),.ints .u64 16 fr,.ints .u64 16 fs,.ints .u64 16 gn] 70,.own [.vec 2,.ag 3,.s (.int .i64 fu)] 96,.vec (.ae [.arr .u8 64] th) 138,.map (.arr .u8 64) m,.own [.s (.aI false),.emp,.emp] 73] (.bh [.agg [.s (.aI false),.emp,.emp],.s (.int .i64 (Ds.iM th m n))])) (.ret [.own [.ptr 1 0,.s (.int .i64 root),.ints .u64 16 fr,.ints .u64 16 fs,.ints .u64 16 gn] 70,.own [.vec 2,.ag 3,.s (.int .i64 fu)] 96,.vec (.ae [.arr .u8 64] th) 138,.map (.arr .u8 64) m,.own [.s (.bool (jf (Ds.gu th m n))),.s (.ro (.ae [.str,.str] (nf (Ds.gu th m n)))),.s (.ro (.ae [.str,.int .i64] (mj (Ds.gu th m n))))] 73] (.bh [.agg [.s (.bool (jf (Ds.gu th m n))),.s (.ro (.ae [.str,.str] (nf (Ds.gu th m n)))),.s (.ro (.ae [.str,.int .i64] (mj (Ds.gu th m n))))],.s (.int .i64 (rA (Ds.gu th m n)))]))))))):=by kernel_rfl
abbrev XT:Type:=Th×As×Int×Int×Ws×Ws×Ws
abbrev sNo:Spec (XT×Int×Int):=⟨fun(_,n,deep)=>[.ptr 0 0,bJ n,bJ deep],fun((th,m,fu,root,fr,fs,gn),_,_)=>hT th m fu root fr fs gn,fun((th,m,fu,_),n,_)=>[Ds.bI th m fu,aD n],fun((th,m,fu,root,fr,fs,gn),_,_)=>hT th m fu root fr fs gn,
 fun((th,m,_),n,deep)=>.bh [.agg [.s (.bool (j7 th m n deep)),.s (.ro (.ae cE (bK th m n deep))),.s (.ro (.ae cB (aN th m n deep)))],bJ (fG th m n deep)]⟩
theorem ajq{Z:ba}:anT.Ok P Z:=aG.Ok.cons (Ds.arx.sum Ds.mRd) (aG.Ok.cons amb.uD aG.Ok.nil)
theorem ady{l l':AV}{es bs kZ oo:AV}{e e':AV}(h1:Wk1 l l')(h2:Wk1 es kZ)(h3:Wk1 bs oo)(h4:Wk1 e e'):Wk (.bh [.agg [l,es,bs],e]) (.bh [.agg [l',kZ,oo],e']):=
 .bh (.cons (.agg (.cons h1 (.cons h2 (.cons h3 .nil)))) (.cons (.one h4) .nil))
theorem nK{Z:ba}:js P Z 37 sNo:=by
 refine qg Tryd.func37 (by kernel_rfl) (fun x=>Nat.le_of_ble_eq_true (by kernel_rfl)) ?_
 rintro⟨⟨(th:Th),(m:As),(fu:Int),(root:Int),(fr:Ws),(fs:Ws),(gn:Ws)⟩,(n:Int),(deep:Int)⟩ ⟨(hd:Ds.bI th m fu),(hn:aD n),_⟩ X hX hz
 refine Ds.eG hz hX (by intro y hy;cases hy) ajq Tryd.func37 (at7 th m fu root fr fs gn n deep) ⟨fun h=> ?_,fun h=>⟨rfl,rfl,hd,hn,fun h2=> ?_,fun h2=> ?_⟩⟩
 ·have h:=of_decide_eq_true h
  have e0:rE th m n deep=false:=by unfold rE;rw[decide_eq_false (by omega),Bool.false_and]
  refine ap3 4 (by kernel_rfl) (Nat.le_refl _) (ady (.refl (.s (.bool false))) (.em (.ae cE []) rfl) (.em (.ae cB []) rfl) (.refl (.s (.int .i64 4)))) ?_ rfl
  show AV.bh [.agg [.s (.bool (j7 th m n deep)),.s (.ro (.ae cE (bK th m n deep))),.s (.ro (.ae cB (aN th m n deep)))],bJ (fG th m n deep)]=_
  unfold j7 bK aN fG
  rw[e0,if_pos h];rfl
 ·have h:=of_decide_eq_false h
  have h2:Ds.iM th m n≠0:=by simpa using h2
  have e0:rE th m n deep=false:=by unfold rE;rw[decide_eq_false h2,Bool.and_false]
  refine ap3 4 (by kernel_rfl) (Nat.le_refl _) (ady (.refl (.s (.bool false))) (.em (.ae cE []) rfl) (.em (.ae cB []) rfl) (.refl (bJ (Ds.iM th m n)))) ?_ rfl
  show AV.bh [.agg [.s (.bool (j7 th m n deep)),.s (.ro (.ae cE (bK th m n deep))),.s (.ro (.ae cB (aN th m n deep)))],bJ (fG th m n deep)]=_
  unfold j7 bK aN fG
  rw[e0,if_neg h,if_neg h2];rfl
 ·have h:=of_decide_eq_false h
  have h2:Ds.iM th m n=0:=by simpa using h2
  have e0:rE th m n deep=true:=by unfold rE;rw[decide_eq_true h2,decide_eq_true (by omega)];rfl
  refine ap3 4 (by kernel_rfl) (Nat.le_refl _) (ady (.refl (.s (.bool (jf (Ds.gu th m n))))) (.refl (.s (.ro (.ae cE (nf (Ds.gu th m n)))))) (.refl (.s (.ro (.ae cB (mj (Ds.gu th m n)))))) (.refl (bJ (rA (Ds.gu th m n))))) ?_ rfl
  show AV.bh [.agg [.s (.bool (j7 th m n deep)),.s (.ro (.ae cE (bK th m n deep))),.s (.ro (.ae cB (aN th m n deep)))],bJ (fG th m n deep)]=_
  unfold j7 bK aN fG
  rw[e0,if_neg h,if_pos h2];rfl
end Ts
namespace Ts
open Go Go.Sx Go.Proofs Lf
abbrev amc:=bU [Bx.dO,Bx.bo] [Bx.ch] (fun _=>[]) (fun(ws,n,())=>(Bx.lG ws n,()))
abbrev abB:=bU [Bx.dO,Bx.bo] [Bx.dO] (fun _=>[]) (fun(ws,n,())=>(Bx.cK ws n,()))
abbrev anU:=bU [Bx.dO,Bx.bo] [Bx.dO] (fun _=>[]) (fun(ws,n,())=>(Bx.cM ws n,()))
def anV:aG:=[(35,amc),(43,abB),(98,anU)]
theorem aua(th:Th)(m:As)(fu root:Int)(fr fs gn:Ws)(n:Int):run P anV.sum Tryd.f85 [] (start Tryd.f85 [.ptr 0 0,bJ n] (hT th m fu root fr fs gn))=
 Tree.ite (Bx.lG fs n) (.ret [.own [.ptr 1 0,.s (.int .i64 root),.ints .u64 16 fr,.ints .u64 16 (Bx.cM fs n),.ints .u64 16 (Bx.cK gn n)] 70,.own [.vec 2,.ag 3,.s (.int .i64 fu)] 96,.vec (.ae [.arr .u8 64] th) 138,.map (.arr .u8 64) m] (.bh [])) (.ret [.own [.ptr 1 0,.s (.int .i64 root),.ints .u64 16 fr,.ints .u64 16 fs,.ints .u64 16 gn] 70,.own [.vec 2,.ag 3,.s (.int .i64 fu)] 96,.vec (.ae [.arr .u8 64] th) 138,.map (.arr .u8 64) m] (.bh [])):=by kernel_rfl
abbrev sLv:Spec (XT×Int):=⟨fun(_,n)=>[.ptr 0 0,bJ n],fun((th,m,fu,root,fr,fs,gn),_)=>hT th m fu root fr fs gn,fun _=>[],fun((th,m,fu,root,fr,fs,gn),n)=>hT th m fu root fr (iU fs n) (pb fs gn n),fun _=>.bh []⟩
theorem ajr{Z:ba}:anV.Ok P Z:=aG.Ok.cons Bx.zz.sum (aG.Ok.cons Bx.ql.sum (aG.Ok.cons Bx.vq.sum aG.Ok.nil))
theorem vA{Z:ba}:js P Z 85 sLv:=by
 refine aP Tryd.func85 (by kernel_rfl) (fun x=>Nat.le_of_ble_eq_true (by kernel_rfl)) ?_
 rintro⟨⟨(th:Th),(m:As),(fu:Int),(root:Int),(fr:Ws),(fs:Ws),(gn:Ws)⟩,(n:Int)⟩ _ X hX hz
 refine Ds.eG hz hX (by intro y hy;cases hy) ajr Tryd.func85 (aua th m fu root fr fs gn n) ⟨fun h=> ?_,fun h=> ?_⟩
 ·have e1:iU fs n=Bx.cM fs n:=if_pos h
  have e2:pb fs gn n=Bx.cK gn n:=if_pos h
  exact bS (h:=hT th m fu root fr (Bx.cM fs n) (Bx.cK gn n)) 4 rfl (Nat.le_refl _) rfl (by show hT th m fu root fr (iU fs n) (pb fs gn n)=_;rw[e1,e2])
 ·have e1:iU fs n=fs:=if_neg (by rw[h];simp)
  have e2:pb fs gn n=gn:=if_neg (by rw[h];simp)
  exact bS (h:=hT th m fu root fr fs gn) 4 rfl (Nat.le_refl _) rfl (by show hT th m fu root fr (iU fs n) (pb fs gn n)=_;rw[e1,e2])
end Ts
namespace Ts
open Go Go.Sx Go.Proofs Lf
theorem aub(l:Bool)(es:List En)(bs:List Br):run P (aG.sum []) Tryd.f94 [] (start Tryd.f94 [avN l es bs] [])=
 Tree.ite l (.need ((0:Int)≤0) (.need ((0:Int)<(↑es.length:Int)) (.ret [.own [.s (.bool l),.s (.ro (.ae [.str,.str] es)),.s (.ro (.ae [.str,.int .i64] bs))] 73] (.s (.str (es.getD 0 (CL.d [.str,.str])).fst))))) (.need ((0:Int)≤0) (.need ((0:Int)<(↑bs.length:Int)) (.ret [.own [.s (.bool l),.s (.ro (.ae [.str,.str] es)),.s (.ro (.ae [.str,.int .i64] bs))] 73] (.s (.str (bs.getD 0 (CL.d [.str,.int .i64])).fst))))):=by kernel_rfl
abbrev au9:=bU [ej] [dG] (fun((l,es,bs,()),())=>[((l:Bool)=true→0<(es:List En).length)∧(l=false→0<(bs:List Br).length)]) (fun((l,es,bs,()),())=>(cO l es bs,()))
theorem ajs{Z:ba}:dg P Z 94 [ej] [dG] (fun((l,es,bs,()),())=>[((l:Bool)=true→0<(es:List En).length)∧(l=false→0<(bs:List Br).length)]) (fun((l,es,bs,()),())=>(cO l es bs,())):=by
 refine aw Tryd.func94 (by kernel_rfl) (by kernel_rfl) ?_
 rintro⟨⟨(l:Bool),(es:List En),(bs:List Br),⟨⟩⟩,⟨⟩⟩ _ ⟨⟨h1,h2⟩,_⟩ X hX hz
 refine Lf.go hz hX aG.Ok.nil Tryd.func94 (aub l es bs) ⟨fun h=>⟨by omega,Int.ofNat_lt.2 (h1 h), ?_⟩,fun h=>⟨by omega,Int.ofNat_lt.2 (h2 h), ?_⟩⟩
 ·show Ends [dG] (cO l es bs,()) _ _
  unfold cO
  rw[if_pos h];exact aiq
 ·show Ends [dG] (cO l es bs,()) _ _
  unfold cO
  rw[if_neg (by rw[h];simp)];exact aiq
end Ts
namespace Ts
open Go Go.Sx Go.Proofs Lf
abbrev wI:List CK:=[.rows cB]
abbrev eBs:TypeId:=71
abbrev Rows:Type:=List (List Br×Unit)
abbrev ar5:Ty:=.b (.row (.ae wI) eBs)
abbrev rwB(x:CL wI):List Br:=x.1
def nsJ:List (Nat×Norm):=[(3,⟨[(3,.ae cB [],eB)],[3,6,7,8],0,[]⟩)]
noncomputable def cJ(ls:List (CL wI))(acc:List Br)(i:Int):bz:=⟨sl 17 [(3,.vec 0),(6,.s (.ro (.ae wI ls))),(7,bJ (ls.length:Int)),(8,bJ i)],[.vec (.ae cB acc) eB],hd Tryd.f92 3,{}⟩
theorem trJ(ls:List (CL wI)):run P (aG.sum []) Tryd.f92 nsJ (start Tryd.f92 [.s (.ro (.ae wI ls))] [])=
 Tree.at (.mk (sl 17 [(3,.vec 0),(6,.s (.ro (.ae wI ls))),(7,.s (.int .i64 (↑ls.length:Int))),(8,.s (.int .i64 0))]) [.vec (.ae [.str,.int .i64] []) 79] (hd Tryd.f92 3) (.mk none false 0 [] 0)):=by kernel_rfl
theorem anW(ls:List (CL wI))(acc:List Br)(i:Int):run P (aG.sum []) Tryd.f92 nsJ (cJ ls acc i)=
 Tree.ite (decide (i<(↑ls.length:Int))) (.need ((0:Int)≤i) (.need (i<(↑ls.length:Int)) (.need ((acc.length+(rwB (el ls i)).length)*(24:Nat)≤140737488355328) (.need (aD (i+1)) (.at (.mk (sl 17 [(3,.vec 0),(6,.s (.ro (.ae wI ls))),(7,.s (.int .i64 (↑ls.length:Int))),(8,.s (.int .i64 (i+1)))]) [.vec (.ae [.str,.int .i64] (acc++rwB (el ls i))) 79] (hd Tryd.f92 3) (.mk none false 0 [] 0))))))) (.ret [.vec (.ae [.str,.int .i64] acc) 79] (.vec 0)):=by kernel_rfl
def bV(ls:List (CL wI)):List Br:=ls.flatMap fun x=>rwB x
abbrev sJ:=bU [ar5] [wD] (fun(ls,())=>[(ls:List (CL wI)).length≤100,(bV ls).length≤100000]) (fun(ls,())=>(bV ls,()))
def anX:aG:=[(92,sJ)]
theorem auc(l:Bool)(es:List En)(bs:List Br):run P anX.sum Tryd.f81 [] (start Tryd.f81 [avN l es bs] [])=
 Tree.ite (decide ((↑bs.length:Int)>0)) (.need ((0:Int)≤0) (.need ((0:Int)<(↑bs.length:Int)) (.need ((0:Int)≤1) (.need ((1:Int)≤(↑bs.length:Int)) (.need ((↑bs.length:Int)≤(↑bs.length:Int)) (.need ([([(ByteArray.empty,(bs.getD 0 (CL.d [.str,.int .i64])).snd.fst,())],()),(List.drop (Int.toNat 1) (List.take (↑bs.length:Int).toNat bs),())].length≤100) (.need ((bV [([(ByteArray.empty,(bs.getD 0 (CL.d [.str,.int .i64])).snd.fst,())],()),(List.drop (Int.toNat 1) (List.take (↑bs.length:Int).toNat bs),())]).length≤100000) (.ret [.own [.s (.bool l),.s (.ro (.ae [.str,.str] es)),.vec 4] 73,.own [.s (.bool l),.s (.ro (.ae [.str,.str] es)),.vec 4] 73,.dead,.vec (.ae wI [([(ByteArray.empty,(bs.getD 0 (CL.d [.str,.int .i64])).snd.fst,())],()),(List.drop (Int.toNat 1) (List.take (↑bs.length:Int).toNat bs),())]) 71,.vec (.ae [.str,.int .i64] (bV [([(ByteArray.empty,(bs.getD 0 (CL.d [.str,.int .i64])).snd.fst,())],()),(List.drop (Int.toNat 1) (List.take (↑bs.length:Int).toNat bs),())])) 79] (.agg [.s (.bool l),.s (.ro (.ae [.str,.str] es)),.vec 4]))))))))) (.ret [.own [.s (.bool l),.s (.ro (.ae [.str,.str] es)),.s (.ro (.ae [.str,.int .i64] bs))] 73,.own [.s (.bool l),.s (.ro (.ae [.str,.str] es)),.s (.ro (.ae [.str,.int .i64] bs))] 73] (.agg [.s (.bool l),.s (.ro (.ae [.str,.str] es)),.s (.ro (.ae [.str,.int .i64] bs))])):=by kernel_rfl
theorem adz{ls:List (CL wI)}(k:Nat)(h:k<ls.length):bV (ls.take (k+1))=bV (ls.take k)++rwB (ls.getD k (CL.d wI)):=by
 rw[←lA (d:=CL.d wI) h]
 simp[bV]
theorem ajt{ls:List (CL wI)}(k:Nat):(bV (ls.take k)).length≤(bV ls).length:=by
 have e:bV ls=bV (ls.take k)++bV (ls.drop k):=by
  unfold bV
  exact(congrArg (List.flatMap fun x=>rwB x) (List.take_append_drop k ls).symm).trans List.flatMap_append
 rw[e,List.length_append];omega
theorem rF{Z:ba}:dg P Z 92 [ar5] [wD] (fun(ls,())=>[(ls:List (CL wI)).length≤100,(bV ls).length≤100000]) (fun(ls,())=>(bV ls,())):=by
 refine aw Tryd.func92 (by kernel_rfl) (by kernel_rfl) ?_
 rintro⟨(ls:List (CL wI)),⟨⟩⟩ _ ⟨(hl:ls.length≤100),(hj:(bV ls).length≤100000),_⟩ X hX hz
 have first:∀(n k:Nat),k+n=ls.length→Safe P 92 X (Ends [wD] (bV ls,())) (cJ ls (bV (ls.take k)) (k:Int)):=by
  intro n
  induction n with
  |zero=>
   intro k hk
   refine Lf.go hz hX aG.Ok.nil Tryd.func92 (anW ls _ k) ⟨fun h=>absurd (of_decide_eq_true h) (by omega),fun h=> ?_⟩
   rw[List.take_of_length_le (by omega)]
   exact aU (bV ls,()) rfl (by kernel_rfl)
  |succ n ih=>
   intro k hk
   have e:=adz (ls:=ls) k (by omega)
   have l1:=ajt (ls:=ls) (k+1)
   rw[e,List.length_append]at l1
   refine Lf.go hz hX aG.Ok.nil Tryd.func92 (anW ls _ k) ⟨fun h=>⟨by omega,by omega, ?_,⟨by omega,by omega⟩, ?_⟩,fun h=>absurd (of_decide_eq_false h) (by omega)⟩
   ·show((bV (ls.take k)).length+(rwB (ls.getD k (CL.d wI))).length)*24≤140737488355328
    omega
   ·have:=ih (k+1) (by omega)
    rw[e]at this
    exact this
 exact Lf.go hz hX aG.Ok.nil Tryd.func92 (trJ ls) (first ls.length 0 (by omega))
theorem aju{Z:ba}:anX.Ok P Z:=aG.Ok.cons rF.sum aG.Ok.nil
theorem ae5{Z:ba}:dg P Z 81 [ej] [gL] (fun((_,_,bs,()),())=>[(bs:List Br).length≤1000]) (fun((l,es,bs,()),())=>((l,es,aa bs,()),())):=by
 refine aw Tryd.func81 (by kernel_rfl) (by kernel_rfl) ?_
 rintro⟨⟨(l:Bool),(es:List En),(bs:List Br),⟨⟩⟩,⟨⟩⟩ _ ⟨(hl:bs.length≤1000),_⟩ X hX hz
 show Safe P 81 X (Ends [gL] ((l,es,aa bs,()),())) _
 refine Lf.go hz hX aju Tryd.func81 (auc l es bs) ⟨fun h=> ?_,fun h=> ?_⟩
 ·have h:=of_decide_eq_true h
  obtain⟨b,r,rfl⟩:∃b r,bs=b::r:=by
   cases bs with
   |nil=>simp at h
   |cons b r=>exact⟨b,r,rfl⟩
  simp only[List.length_cons]at h hl
  have e:bV [([(ByteArray.empty,((b::r).getD (0:Nat) (CL.d [CK.str,CK.int IntKind.i64])).snd.fst,())],()),(List.drop (Int.toNat (1:Int)) (List.take (↑(b::r).length:Int).toNat (b::r)),())]=aa (b::r):=by
   show [(ByteArray.empty,b.2.1,())]++(List.drop 1 (List.take (r.length+1) (b::r))++[])=(ByteArray.empty,b.2.1,())::r
   rw[List.take_of_length_le (by simp)]
   simp
  refine⟨by omega,by simp only[List.length_cons];omega,by omega,by simp only[List.length_cons];omega,by simp only[List.length_cons];omega,by show 2≤100;decide, ?_, ?_⟩
  ·refine Nat.le_trans (Nat.le_of_eq (congrArg List.length e)) ?_
   show r.length+1≤100000;omega
  ·exact aU (rs:=[gL]) ((l,es,bV [([(ByteArray.empty,((b::r).getD (0:Nat) (CL.d [CK.str,CK.int IntKind.i64])).snd.fst,())],()),(List.drop (Int.toNat (1:Int)) (List.take (↑(b::r).length:Int).toNat (b::r)),())],()),()) (by rw[e]) (by kernel_rfl)
 ·have h:=of_decide_eq_false h
  obtain rfl:bs=[]:=List.eq_nil_of_length_eq_zero (by omega)
  exact aU (rs:=[gL]) ((l,es,[],()),()) rfl (by kernel_rfl)
end Ts
namespace Lf
open Go Go.Sx Go.Proofs
theorem nL{es:List En}{k:Nat}:okE es k=true↔(1≤(es.getD k dE).1.size∧(es.getD k dE).1.size≤24∧(es.getD k dE).2.1.size≤100∧(0<k→slt (es.getD (k - 1) dE).1 (es.getD k dE).1=true)):=by
 simp only[okE,Bool.not_eq_true',Bool.or_eq_false_iff,Bool.and_eq_false_iff,decide_eq_false_iff_not,Bool.not_eq_false']
 constructor
 ·rintro⟨⟨⟨h1,h2⟩,h3⟩,h4⟩
  exact⟨Nat.pos_of_ne_zero fun e=>h1 (lu e),by omega,by omega,fun h=>h4.resolve_left (fun g=>g h)⟩
 ·rintro⟨h1,h2,h3,h4⟩
  exact⟨⟨⟨fun e=>(by rw[e]at h1;simp at h1),by omega⟩,by omega⟩,(Decidable.em (0<k)).elim (fun h=>.inr (h4 h)) .inl⟩
theorem qq{bs:List Br}{k:Nat}:okB bs k=true↔((bs.getD k dB).1.size≤24∧2≤(bs.getD k dB).2.1∧(bs.getD k dB).2.1≤1023∧(0<k→slt (bs.getD (k - 1) dB).1 (bs.getD k dB).1=true)):=by
 simp only[okB,Bool.not_eq_true',Bool.or_eq_false_iff,Bool.and_eq_false_iff,decide_eq_false_iff_not,Bool.not_eq_false']
 constructor
 ·rintro⟨⟨⟨h1,h2⟩,h3⟩,h4⟩
  exact⟨by omega,by omega,by omega,fun h=>h4.resolve_left (fun g=>g h)⟩
 ·rintro⟨h1,h2,h3,h4⟩
  exact⟨⟨⟨by omega,by omega⟩,by omega⟩,(Decidable.em (0<k)).elim (fun h=>.inr (h4 h)) .inl⟩
theorem agR(l:Bool)(es:List En)(bs:List Br):aiY l es bs l es bs=true:=by simp[aiY,arE,arF]
theorem qs{l:Bool}{es:List En}{bs:List Br}(h:cW l es bs=true):iv (bA es)∧iv (mc bs):=by
 simp only[cW,Bool.and_eq_true]at h
 exact⟨arD h.1.2,apy h.2⟩
theorem ap5{l:List En}{key val:ByteArray}(h:l.length≤200):(bt l key val).length≤201:=by rw[zv];split<;>omega
theorem l6{α:Type}{l:List α}{k i:Nat}{d:α}(h:i<k):(l.take k).getD i d=l.getD i d:=by simp[List.getD,List.getElem?_take,h]
theorem jT{α:Type}{l:List α}{k i:Nat}{d:α}:(l.drop k).getD i d=l.getD (k+i) d:=by simp[List.getD,List.getElem?_drop]
theorem xP{es:List En}(h:jt es=true)(k:Nat):jt (es.take k)=true:=cN.2 fun i hi=>by
 rw[List.length_take]at hi
 have:=nL.1 (cN.1 h i (by omega))
 rw[nL,l6 (by omega),l6 (by omega)]
 exact this
theorem xQ{es:List Br}(h:gq es=true)(k:Nat):gq (es.take k)=true:=cN.2 fun i hi=>by
 rw[List.length_take]at hi
 have:=qq.1 (cN.1 h i (by omega))
 rw[qq,l6 (by omega),l6 (by omega)]
 exact this
theorem xR{es:List En}(h:jt es=true)(k:Nat):jt (es.drop k)=true:=cN.2 fun i hi=>by
 rw[List.length_drop]at hi
 obtain⟨h1,h2,h3,h4⟩:=nL.1 (cN.1 h (k+i) (by omega))
 rw[nL,jT,jT]
 exact⟨h1,h2,h3,fun h0=>by have:=h4 (by omega);rw[show k+i - 1=k+(i - 1)from by omega]at this;exact this⟩
theorem xS{es:List Br}(h:gq es=true)(k:Nat):gq (es.drop k)=true:=cN.2 fun i hi=>by
 rw[List.length_drop]at hi
 obtain⟨h1,h2,h3,h4⟩:=qq.1 (cN.1 h (k+i) (by omega))
 rw[qq,jT,jT]
 exact⟨h1,h2,h3,fun h0=>by have:=h4 (by omega);rw[show k+i - 1=k+(i - 1)from by omega]at this;exact this⟩
theorem tg{l:Bool}{es:List En}{bs:List Br}(m1:l=true→bs=[])(m2:l=false→es=[])(m3:jt es=true)(m4:gq bs=true):cW l es bs=true:=by
 simp only[cW,m3,m4,Bool.and_true]
 cases l
 ·rw[m2 rfl];rfl
 ·rw[m1 rfl];rfl
theorem abC{l:Bool}{es:List En}{bs:List Br}(h:cW l es bs=true)(k:Nat):cW l (es.take k) (bs.take k)=true:=by
 obtain⟨m1,m2,m3,m4⟩:=dD h
 exact tg (fun e=>by rw[m1 e,List.take_nil]) (fun e=>by rw[m2 e,List.take_nil]) (xP m3 k) (xQ m4 k)
theorem abD{l:Bool}{es:List En}{bs:List Br}(h:cW l es bs=true)(k:Nat):cW l (es.drop k) (bs.drop k)=true:=by
 obtain⟨m1,m2,m3,m4⟩:=dD h
 exact tg (fun e=>by rw[m1 e,List.drop_nil]) (fun e=>by rw[m2 e,List.drop_nil]) (xR m3 k) (xS m4 k)
theorem tj:∀{l:List Int} {m:Int},(∀x∈l,m≤x)→m*l.length≤l.sum
 |[],m,_=>by simp
 |a::r,m,h=>by
  have h1:=tj (l:=r) (m:=m) fun x hx=>h x (List.mem_cons_of_mem _ hx)
  have h2:=h a List.mem_cons_self
  rw[List.sum_cons,List.length_cons]
  have:m*((r.length+1:Nat):Int)=m*(r.length:Int)+m:=by rw[Int.natCast_add,Int.mul_add];simp
  omega
theorem amd(es:List En)(bs:List Br):∀x∈aE es bs,2≤x:=fun x hx=>by
 simp only[aE,List.mem_append,List.mem_map]at hx
 rcases hx with⟨e,_,rfl⟩|⟨b,_,rfl⟩
 ·simp only[px];omega
 ·simp only[o8];omega
theorem ajv{zs:List Int}(h:∀x∈zs,2≤x){k:Nat}(h1:0<k)(h2:k<zs.length):2≤(zs.take k).sum∧(zs.take k).sum+2≤zs.sum:=by
 have a1:=tj (l:=zs.take k) (m:=2) fun x hx=>h x (List.mem_of_mem_take hx)
 have a2:=tj (l:=zs.drop k) (m:=2) fun x hx=>h x (List.mem_of_mem_drop hx)
 rw[abt]at a2
 rw[List.length_take]at a1
 rw[List.length_drop]at a2
 omega
theorem vB(zs:List Int):∀k,0<k→(gJ zs k).2=jg zs (gJ zs k).1
 |0,h=>absurd h (by omega)
 |k+1,_=>by
  rw[gJ]
  split
  ·rfl
  ·rename_i h
   have hk:0<k:=Nat.pos_of_ne_zero fun e=>h (.inl (by rw[e];rfl))
   exact vB zs k hk
theorem qt(zs:List Int):∀k j,0<j→j≤k→(gJ zs k).2≤jg zs j
 |0,j,h,h2=>absurd h (by omega)
 |k+1,j,h,h2=>by
  rw[gJ]
  split
  ·rename_i hc
   by_cases e:j=k+1
   ·rw[e];exact Int.le_refl _
   ·have:=qt zs k j h (by omega)
    rcases hc with hc|hc
    ·have:=nh zs k (by omega);omega
    ·show jg zs (k+1)≤_;omega
  ·rename_i hc
   by_cases e:j=k+1
   ·rw[e]
    have:¬jg zs (k+1)<(gJ zs k).2:=fun h=>hc (.inr h)
    omega
   ·exact qt zs k j h (by omega)
theorem pd{p:Nat→Int}{c:Int}:∀n:Nat,p 0<c→c≤p n→∃k,k<n∧p k<c∧c≤p (k+1)
 |0,h1,h2=>absurd h2 (by omega)
 |n+1,h1,h2=>by
  by_cases h:c≤p n
  ·obtain⟨k,a,b,d⟩:=pd n h1 h
   exact⟨k,by omega,b,d⟩
  ·exact⟨n,by omega,by omega,h2⟩
theorem agS{zs:List Int}(h2:∀x∈zs,2≤x∧x≤126)(hs:253<zs.sum)(hs2:zs.sum≤379):2≤zs.length∧jg zs (gJ zs (zs.length - 1)).1≤253:=by
 have hb:=(nH (l:=zs) (m:=126) (fun x hx=>⟨by have:=(h2 x hx).1;omega,(h2 x hx).2⟩) (by omega)).2
 have hl:2≤zs.length:=by omega
 refine⟨hl, ?_⟩
 obtain⟨k,hk,k1,k2⟩:=pd (p:=fun k=>(zs.take k).sum) (c:=zs.sum - 253) zs.length (by simp;omega) (by simp only[List.take_length];omega)
 have k1:(zs.take k).sum<zs.sum - 253:=k1
 have k2:zs.sum - 253≤(zs.take (k+1)).sum:=k2
 have k3:=ix hk
 have k4:zs.getD k 0≤126:=by rw[bg hk];exact(h2 _ (List.getElem_mem _)).2
 have k5:k+1<zs.length:=by
  rcases Nat.lt_or_ge (k+1) zs.length with h|h
  ·exact h
  ·rw[List.take_of_length_le h]at k3;omega
 have m:=qt zs (zs.length - 1) (k+1) (by omega) (by omega)
 rw[vB _ _ (by omega)]at m
 refine Int.le_trans m ?_
 unfold jg imax
 split<;>omega
theorem ajw(l:List En)(key val:ByteArray):((bt l key val).map px).sum≤(l.map px).sum+px (key,val,()):=by
 have adv:∀l:List En,0≤(l.map px).sum:=fun l=>by
  have:=tj (l:=l.map px) (m:=0) fun x hx=>by
   obtain⟨e,_,rfl⟩:=List.mem_map.1 hx
   simp only[px];omega
  omega
 have hd:∀(p q:Nat),p≤q→((l.drop q).map px).sum≤((l.drop p).map px).sum:=fun p q h=>by
  have e:l.drop p=(l.drop p).take (q - p)++l.drop q:=by
   have:=List.take_append_drop (q - p) (l.drop p)
   rw[List.drop_drop,show p+(q - p)=q from by omega]at this
   exact this.symm
  rw[e,List.map_append,List.sum_append]
  have:=adv ((l.drop p).take (q - p))
  omega
 have h1:(l.map px).sum=((l.take (b9 (bA l) key)).map px).sum+((l.drop (b9 (bA l) key)).map px).sum:=by
  rw[←List.sum_append,←List.map_append,List.take_append_drop]
 have h2:=hd (b9 (bA l) key) (if je (bA l) key=true then b9 (bA l) key+1 else b9 (bA l) key) (by split<;>omega)
 rw[bt,List.map_append,List.sum_append,List.map_cons,List.sum_cons]
 omega
theorem ame(l:List En)(key val:ByteArray):(key,val,())∈bt l key val:=by
 rw[bt];exact List.mem_append_right _ List.mem_cons_self
theorem rG{l:Bool}{es:List En}{bs:List Br}(h:di l es bs=true)(he:a6 es)(hb:a7 bs):
 a6 (aY l es bs)∧a7 (a8 l es bs)∧a6 (cI l es bs)∧a7 (cQ l es bs)∧aiY (bL l es bs) ([]++aY l es bs++cI l es bs) ([]++a8 l es bs++cQ l es bs) l es bs=true∧
 cW (bL l es bs) (aY l es bs) (a8 l es bs)=true∧cW (bL l es bs) (cI l es bs) (cQ l es bs)=true∧
 bd (aY l es bs) (a8 l es bs)<bd es bs∧bd (cI l es bs) (cQ l es bs)<bd es bs∧bd (aY l es bs) (a8 l es bs)+bd (cI l es bs) (cQ l es bs)=bd es bs+1∧
 imax (bd (aY l es bs) (a8 l es bs)) (bd (cI l es bs) (cQ l es bs))=1+jg (aE es bs) (dI es bs):=by
 have h':=h
 simp only[di,Bool.and_eq_true,decide_eq_true_eq]at h'
 obtain⟨hm,h2⟩:=h'
 obtain⟨m1,m2,_,_⟩:=dD hm
 obtain⟨_,_,_,_,c5,c6⟩:=agE m1 m2 (dI es bs)
 have b1:=nh (aE es bs) (es.length+bs.length - 1) (by omega)
 have b2:=nI (aE es bs) (es.length+bs.length - 1)
 have p:=ajv (amd es bs) (k:=dI es bs) b1 (by rw[vk];rw[dI];omega)
 have bE:=na es bs
 simp only[aY,cI,a8,cQ,bL,h,if_true,Bool.true_and]
 refine⟨abo he _,abp hb _,abq he _,abr hb _, ?_,abC hm _,abD hm _,by omega,by omega,by omega, ?_⟩
 ·rw[List.nil_append,List.nil_append,List.take_append_drop,List.take_append_drop];exact agR _ _ _
 ·rw[c5,c6,ai3];rfl
theorem ap6{l:Bool}{es:List En}{bs:List Br}(h:(spC l es bs==0)=true):di l es bs=true:=by
 unfold spC at h
 split at h
 ·assumption
 ·exact absurd h (by decide)
theorem adA{l:List En}{key val:ByteArray}(h:l.length≤200)(hm:cW true (bt l key val) []=true):a6 (bt l key val):=by
 obtain⟨_,_,m3,_⟩:=dD hm
 exact⟨Nat.le_trans (ap5 h) (by omega),fun x hx=>by have:=adp m3 hx;omega⟩
theorem agT{es:List En}{key val:ByteArray}(hl:es.length≤200)(hs:bd es []≤254)(hm:cW true (bt es key val) []=true)(hn:¬bd (bt es key val) []≤254):
 di true (bt es key val) []=true∧bd (aY true (bt es key val) []) (a8 true (bt es key val) [])≤254∧bd (cI true (bt es key val) []) (cQ true (bt es key val) [])≤254:=by
 obtain⟨_,_,m3,_⟩:=dD hm
 have e0:∀l:List En,aE l []=l.map px:=fun l=>by simp[aE]
 have e1:=na es []
 have e2:=na (bt es key val) []
 rw[e0]at e1 e2
 have k1:=ajw es key val
 have k2:=adp m3 (ame es key val)
 have k3:px (key,val,())≤126:=by simp only[px];simp only[]at k2;omega
 have hz:∀x∈(bt es key val).map px,2≤x∧x≤126:=fun x hx=>by
  obtain⟨y,hy,rfl⟩:=List.mem_map.1 hx
  have:=adp m3 hy
  simp only[px];omega
 obtain⟨b1,b2⟩:=agS hz (by omega) (by omega)
 rw[List.length_map]at b1 b2
 have ok:di true (bt es key val) []=true:=by
  simp only[di,hm,Bool.true_and,decide_eq_true_eq,List.length_nil];omega
 obtain⟨_,_,_,_,_,_,_,_,_,_,f⟩:=rG ok (adA hl hm) vn
 rw[e0]at f
 have f2:jg ((bt es key val).map px) (dI (bt es key val) [])≤253:=by rw[dI,e0,List.length_nil,Nat.add_zero];exact b2
 unfold imax at f
 refine⟨ok, ?_, ?_⟩<;>split at f<;>omega
end Lf
namespace Ds
open Go Go.Sx Go.Proofs Lf
theorem ae6{th:Th}{n:Int}{ws:List Int}(hp:s9 th n=true)(hw:ws.length=256):∀(j k:Nat) (m:As) (f:Int),k+j=4→bI th m f→
 (((zg th n ws j k m f).2.2=0∧∀i:Nat,k≤i→i<4→nT th (zg th n ws j k m f).1 (n*4+(i:Int))=gG ws i)∨((zg th n ws j k m f).2.2=42∧(zg th n ws j k m f).2.1=0))∧
   ∀x,(∀i:Nat,k≤i→i<4→x≠n*4+(i:Int))→nT th (zg th n ws j k m f).1 x=nT th m x
 |0,k,m,f,hk,hd=>⟨.inl ⟨rfl,fun i h1 h2=>by omega⟩,fun x _=>rfl⟩
 |j+1,k,m,f,hk,hd=>by
  have c9:=zi hp (show k<4 by omega)
  have hs:=xF hw (show k<4 by omega)
  have hd':=aa4 (n:=n*4+(k:Int)) (s:=gG ws k) hd
  have hr:=fun x=>anw (n:=n*4+(k:Int)) (x:=x) (s:=gG ws k) hd
  unfold zg
  by_cases hf:f=0
  ·have he:qH th f (n*4+(k:Int)) (gG ws k)=42:=by unfold qH;rw[if_pos c9,if_pos hs,if_pos hf]
   rw[if_neg (by rw[he];decide)]
   refine⟨.inr ⟨he, ?_⟩,fun x hx=> ?_⟩
   ·show wA th f (n*4+(k:Int)) (gG ws k)=0
    unfold wA uO;rw[if_pos ⟨c9,hs⟩,if_pos hf]
   ·show nT th (xC th m f (n*4+(k:Int)) (gG ws k)) x=_
    rw[hr,if_neg]
    rintro⟨h,_⟩
    rw[he]at h
    cases h
  ·have he:qH th f (n*4+(k:Int)) (gG ws k)=0:=uR.2 ⟨c9,hs,hf⟩
   rw[if_pos he]
   obtain⟨h1,h3⟩:=ae6 hp hw j (k+1) _ _ (by omega) hd'
   refine⟨h1.elim (fun hh=>.inl ⟨hh.1,fun i hi hi4=> ?_⟩) .inr,fun x hx=> ?_⟩
   ·by_cases e:i=k
    ·subst e
     rw[h3 _ (fun i' a b=>by omega),hr,if_pos ⟨he,rfl⟩]
    ·exact hh.2 i (by omega) hi4
   ·rw[h3 x (fun i a b=>hx i (by omega) b),hr,if_neg (fun h=>hx k (Nat.le_refl _) (by omega) h.2)]
theorem ap7{th:Th}{m:As}{fu n:Int}{s:ByteArray}(hd:bI th m fu)(hp:s9 th n=true)(hs:s.size≤254):
 (((jY th m fu n s).2.2=0∧iM th (jY th m fu n s).1 n=0∧gu th (jY th m fu n s).1 n=s)∨((jY th m fu n s).2.2=42∧(jY th m fu n s).2.1=0))∧
   (fu= -1→(jY th m fu n s).2.1= -1)∧
   ∀p,p≠n→iM th (jY th m fu n s).1 p=iM th m p∧gu th (jY th m fu n s).1 p=gu th m p:=by
 have hl:=aeF hs
 obtain⟨h1,h3⟩:=ae6 hp hl 4 0 m fu rfl hd
 have ec:gwC th n s=0:=by unfold gwC;rw[if_pos hp,if_neg (by omega)]
 unfold jY
 rw[ec,if_pos rfl]
 refine⟨h1.imp (fun⟨a,h2⟩=> ?_) id,fun e=>by subst e;rw[(aiF hp hl 4 0 m rfl hd).1],fun p hpn=>aiG rfl fun i hi=>(h3 _ fun i' _ ew=>by omega).symm⟩
 have e:pgA th (zg th n (xE s) 4 0 m fu).1 n=xE s:=by
  show zU _ _ _ 4=_
  simp only[zU,List.nil_append]
  rw[h2 0 (by omega) (by omega),h2 1 (by omega) (by omega),h2 2 (by omega) (by omega),h2 3 (by omega) (by omega)]
  exact aiH hl (fun x hx=>aiy x hx hs)
 exact⟨a,apt hp hs e⟩
end Ds
namespace Ts
open Go Go.Sx Go.Proofs Lf
def In(ws:Ws)(k:Int):Prop:=Bx.lG ws k=true
instance (ws:Ws) (k:Int):Decidable (In ws k):=inferInstanceAs (Decidable (_=true))
theorem er{ws:Ws}(hw:Bx.okW ws){k:Int}:In ws k↔(0≤k∧k<1024)∧Bx.bit ws k.toNat=true:=by
 unfold In;rw[Bx.ae4 hw,Bool.and_eq_true,decide_eq_true_eq]
theorem nk{ws:Ws}(hw:Bx.okW ws){k:Int}(h:In ws k):0≤k∧k<1024:=((er hw).1 h).1
theorem nM{ws:Ws}(hw:Bx.okW ws){n:Int}(hn:0≤n∧n<1024){k:Int}:In (Bx.cK ws n) k↔In ws k∨k=n:=by
 obtain⟨h1,h2⟩:=Bx.fN hw n
 rw[er h1,er hw]
 constructor
 ·rintro⟨a,b⟩
  rw[h2 k.toNat (by omega),Bool.or_eq_true,decide_eq_true_eq]at b
  rcases b with b|b
  ·exact .inl ⟨a,b⟩
  ·right;omega
 ·rintro(⟨a,b⟩|rfl)
  ·exact⟨a,by rw[h2 _ (by omega),b];rfl⟩
  ·refine⟨hn, ?_⟩
   rw[h2 _ (by omega),Bool.or_eq_true,decide_eq_true_eq]
   right;omega
theorem pe{ws:Ws}(hw:Bx.okW ws){n k:Int}:In (Bx.cM ws n) k↔In ws k∧k≠n:=by
 obtain⟨h1,h2⟩:=Bx.ky hw n
 rw[er h1,er hw]
 constructor
 ·rintro⟨a,b⟩
  rw[h2 k.toNat (by omega),Bool.and_eq_true,Bool.not_eq_true',decide_eq_false_iff_not]at b
  exact⟨⟨a,b.1⟩,by omega⟩
 ·rintro⟨⟨a,b⟩,c⟩
  refine⟨a, ?_⟩
  rw[h2 _ (by omega),Bool.and_eq_true,Bool.not_eq_true',decide_eq_false_iff_not]
  exact⟨b,by omega⟩
theorem adB{op:BinOp}(v8:op=.or∨op=.and∨op=.andNot){a b:Ws}(ha:Bx.okW a)(hb:Bx.okW b){k:Int}:
 In (Bx.bY op a b) k↔(0≤k∧k<1024)∧Bx.opb op (Bx.bit a k.toNat) (Bx.bit b k.toNat)=true:=by
 obtain⟨h1,h2⟩:=Bx.jS v8 ha hb
 rw[er h1]
 constructor
 ·rintro⟨c,d⟩;rw[h2 _ (by omega)]at d;exact⟨c,d⟩
 ·rintro⟨c,d⟩;exact⟨c,by rw[h2 _ (by omega)];exact d⟩
theorem ar6{a b:Ws}(ha:Bx.okW a)(hb:Bx.okW b){k:Int}:In (Bx.bY .or a b) k↔In a k∨In b k:=by
 rw[adB (.inl rfl) ha hb,er ha,er hb]
 simp only[Bx.opb,Bool.or_eq_true]
 exact⟨fun⟨c,d⟩=>d.imp (fun x=>⟨c,x⟩) (fun x=>⟨c,x⟩),fun h=>h.elim (fun x=>⟨x.1,.inl x.2⟩) (fun x=>⟨x.1,.inr x.2⟩)⟩
theorem ap8{a b:Ws}(ha:Bx.okW a)(hb:Bx.okW b){k:Int}:In (Bx.bY .and a b) k↔In a k∧In b k:=by
 rw[adB (.inr (.inl rfl)) ha hb,er ha,er hb]
 simp only[Bx.opb,Bool.and_eq_true]
 exact⟨fun⟨c,d⟩=>⟨⟨c,d.1⟩,c,d.2⟩,fun⟨x,y⟩=>⟨x.1,x.2,y.2⟩⟩
theorem tk{a b:Ws}(ha:Bx.okW a)(hb:Bx.okW b){k:Int}:In (Bx.bY .andNot a b) k↔In a k∧¬In b k:=by
 rw[adB (.inr (.inr rfl)) ha hb,er ha,er hb]
 simp only[Bx.opb,Bool.and_eq_true,Bool.not_eq_true']
 constructor
 ·rintro⟨c,d,e⟩
  exact⟨⟨c,d⟩,fun h=>by rw[h.2]at e;cases e⟩
 ·rintro⟨⟨c,d⟩,e⟩
  refine⟨c,d, ?_⟩
  cases hh:Bx.bit b k.toNat
  ·rfl
  ·exact absurd ⟨c,hh⟩ e
theorem abE{n k:Int}:In (Bx.cf n) k↔(0≤k∧k<1024)∧k<n:=by
 obtain⟨h1,h2⟩:=Bx.dq n
 rw[er h1]
 constructor
 ·rintro⟨c,d⟩;rw[h2 _ (by omega),decide_eq_true_eq]at d;exact⟨c,by omega⟩
 ·rintro⟨c,d⟩;exact⟨c,by rw[h2 _ (by omega),decide_eq_true_eq];omega⟩
theorem dr{k:Int}:¬In Bx.aJ k:=fun h=>by
 have:=((er Bx.dF.1).1 h).2
 rw[Bx.dF.2]at this
 cases this
theorem rH{a b:Ws}(ha:Bx.okW a)(hb:Bx.okW b)(h:∀k,In a k↔In b k):a=b:=Bx.al7 ha hb fun k hk=>by
 have h1:=h (k:Int)
 rw[er ha,er hb,Int.toNat_natCast]at h1
 have hr:(0:Int)≤(k:Int)∧(k:Int)<1024:=⟨by omega,by omega⟩
 have h2:Bx.bit a k=true↔Bx.bit b k=true:=⟨fun h=>(h1.1 ⟨hr,h⟩).2,fun h=>(h1.2 ⟨hr,h⟩).2⟩
 cases e1:Bx.bit a k<;>cases e2:Bx.bit b k<;>simp[e1,e2]at h2 ⊢
theorem abF{ws:Ws}(hw:Bx.okW ws)(h:Bx.eF ws 0=true):In ws (Bx.br ws 0):=by
 unfold Bx.eF at h
 obtain⟨v,hv⟩:=Option.isSome_iff_exists.1 h
 obtain⟨p,rfl,hp,hb,_,_⟩:=Bx.adw hw hv
 have e:Bx.br ws 0=(p:Int):=by unfold Bx.br;rw[hv];rfl
 rw[e,er hw]
 exact⟨⟨by omega,by omega⟩,by rw[Int.toNat_natCast];exact hb⟩
theorem amf{ws:Ws}(hw:Bx.okW ws)(h:Bx.eF ws 0=false)(k:Int):¬In ws k:=by
 unfold Bx.eF at h
 have hv:Bx.nj ws 0=none:=by
  cases e:Bx.nj ws 0 with
  |none=>rfl
  |some v=>rw[e]at h;cases h
 intro hk
 obtain⟨hr,hb⟩:=(er hw).1 hk
 rw[Bx.adx hw hv k.toNat (by omega) (by omega)]at hb
 cases hb
structure Rd (th:Th) (m:As) (p:Int) (l:Bool) (es:List En) (bs:List Br):Prop where
 e:Ds.iM th m p=0
 c:rA (Ds.gu th m p)=0
 l:jf (Ds.gu th m p)=l
 es:nf (Ds.gu th m p)=es
 bs:mj (Ds.gu th m p)=bs
theorem Rd.same{th:Th}{m m':As}{p:Int}{l:Bool}{es:List En}{bs:List Br}(h:Rd th m p l es bs)(h1:Ds.iM th m' p=Ds.iM th m p∧Ds.gu th m' p=Ds.gu th m p):Rd th m' p l es bs:=by
 obtain⟨a,b,c,d,e⟩:=h
 exact⟨by rw[h1.1];exact a,by rw[h1.2];exact b,by rw[h1.2];exact c,by rw[h1.2];exact d,by rw[h1.2];exact e⟩
theorem Rd.nd{th:Th}{m:As}{p:Int}{l:Bool}{es:List En}{bs:List Br}(h:Rd th m p l es bs){deep:Int}(hd:deep≤16):fG th m p deep=0∧j7 th m p deep=l∧bK th m p deep=es∧aN th m p deep=bs:=by
 have e0:rE th m p deep=true:=by unfold rE;rw[decide_eq_true hd,decide_eq_true h.e];rfl
 refine⟨?_, ?_, ?_, ?_⟩
 ·unfold fG;rw[if_neg (by omega),if_pos h.e];exact h.c
 ·unfold j7;rw[e0,Bool.true_and];exact h.l
 ·unfold bK;rw[if_pos e0];exact h.es
 ·unfold aN;rw[if_pos e0];exact h.bs
end Ts
namespace Ts
open Go Go.Sx Go.Proofs Lf
abbrev ar7:=bU [ej] [dG] (fun((l,es,bs,()),())=>[((l:Bool)=true→0<(es:List En).length)∧(l=false→0<(bs:List Br).length)]) (fun((l,es,bs,()),())=>(cO l es bs,()))
abbrev anY:=uD [ej] [gL] (fun((_,_,bs,()),())=>[(bs:List Br).length≤1000]) (fun((l,es,bs,()),())=>((l,es,aa bs,()),()))
abbrev aud:=bU [Bx.dO,Bx.bo] [Bx.bo,Bx.ch] (fun(ws,_,())=>[Bx.okW ws]) (fun(ws,n,())=>(Bx.br ws n,Bx.eF ws n,()))
abbrev ar8:=bU [ej] [dG,bo] (fun((_,es,bs,()),())=>[a6 es,a7 bs]) (fun((l,es,bs,()),())=>(cX l es bs,gI l es bs,()))
def anZ:aG:=[(94,ar7),(81,anY),(95,aud),(96,ar8),(97,ar4),(98,anU),(43,abB)]
theorem aue(th:Th)(m:As)(fu root:Int)(fr fs gn:Ws)(l:Bool)(es:List En)(bs:List Br):run P anZ.sum Tryd.f83 [] (start Tryd.f83 [.ptr 0 0,avN l es bs] (hT th m fu root fr fs gn))=
 Tree.need ((l=true→(0:Nat)<es.length)∧(l=false→(0:Nat)<bs.length))
 (.need (bs.length≤1000)
   (.need (Bx.okW fr)
     (.ite (!Bx.eF fr 0) (.ret [.own [.ptr 1 0,.s (.int .i64 root),.ints .u64 16 fr,.ints .u64 16 fs,.ints .u64 16 gn] 70,.own [.vec 2,.ag 3,.s (.int .i64 fu)] 96,.vec (.ae [.arr .u8 64] th) 138,.map (.arr .u8 64) m,.own [.s (.bool l),.s (.ro (.ae [.str,.str] es)),.s (.ro (.ae [.str,.int .i64] (aa bs)))] 73,.own [.s (.str ByteArray.empty),.s (.aZ .i64 0)] 79] (.bh [.agg [.s (.str ByteArray.empty),.s (.aZ .i64 0)],.s (.aZ .i64 41)]))
       (.need (a6 es) (.need (a7 (aa bs)) (.ite (gI l es (aa bs) !=0) (.ret [.own [.ptr 1 0,.s (.int .i64 root),.ints .u64 16 fr,.ints .u64 16 fs,.ints .u64 16 gn] 70,.own [.vec 2,.ag 3,.s (.int .i64 fu)] 96,.vec (.ae [.arr .u8 64] th) 138,.map (.arr .u8 64) m,.own [.s (.bool l),.s (.ro (.ae [.str,.str] es)),.s (.ro (.ae [.str,.int .i64] (aa bs)))] 73,.own [.s (.str ByteArray.empty),.s (.aZ .i64 0)] 79] (.bh [.agg [.s (.str ByteArray.empty),.s (.aZ .i64 0)],.s (.int .i64 (gI l es (aa bs)))])) (.need (bu (some [AV.ptr 0 0,.s (.int .i64 (Bx.br fr 0)),.s (.str (cX l es (aa bs)))])) (.need (bu (some [ad.own [.vec 1,.ag 2,.s (.int .i64 fu)] 96,.vec (.ae [.arr .u8 64] th) 138,.map (.arr .u8 64) m])) (.need (Ds.bI th m fu) (.need (aD (Bx.br fr 0)) (.ite ((Ds.jY th m fu (Bx.br fr 0) (cX l es (aa bs))).snd.snd !=0) (.ret [.own [.ptr 1 0,.s (.int .i64 root),.ints .u64 16 fr,.ints .u64 16 fs,.ints .u64 16 gn] 70,.own [.vec 2,.ag 3,.s (.int .i64 (Ds.jY th m fu (Bx.br fr 0) (cX l es (aa bs))).snd.fst)] 96,.vec (.ae [.arr .u8 64] th) 138,.map (.arr .u8 64) (Ds.jY th m fu (Bx.br fr 0) (cX l es (aa bs))).fst,.own [.s (.bool l),.s (.ro (.ae [.str,.str] es)),.s (.ro (.ae [.str,.int .i64] (aa bs)))] 73,.own [.s (.str ByteArray.empty),.s (.aZ .i64 0)] 79] (.bh [.agg [.s (.str ByteArray.empty),.s (.aZ .i64 0)],.s (.int .i64 (Ds.jY th m fu (Bx.br fr 0) (cX l es (aa bs))).snd.snd)])) (.ret [.own [.ptr 1 0,.s (.int .i64 root),.ints .u64 16 (Bx.cM fr (Bx.br fr 0)),.ints .u64 16 (Bx.cK fs (Bx.br fr 0)),.ints .u64 16 gn] 70,.own [.vec 2,.ag 3,.s (.int .i64 (Ds.jY th m fu (Bx.br fr 0) (cX l es (aa bs))).snd.fst)] 96,.vec (.ae [.arr .u8 64] th) 138,.map (.arr .u8 64) (Ds.jY th m fu (Bx.br fr 0) (cX l es (aa bs))).fst,.own [.s (.bool l),.s (.ro (.ae [.str,.str] es)),.s (.ro (.ae [.str,.int .i64] (aa bs)))] 73,.own [.s (.str (cO l es bs)),.s (.int .i64 (Bx.br fr 0))] 79] (.bh [.agg [.s (.str (cO l es bs)),.s (.int .i64 (Bx.br fr 0))],.s (.aZ .i64 0)]))))))))))))):=by kernel_rfl
abbrev ar9:Spec (XT×Bool×List En×List Br):=⟨fun(_,l,es,bs)=>[.ptr 0 0,avN l es bs],fun((th,m,fu,root,fr,fs,gn),_)=>hT th m fu root fr fs gn,
 fun((th,m,fu,_,fr,_,_),l,es,bs)=>[Ds.bI th m fu,Bx.okW fr,((l:Bool)=true→0<(es:List En).length)∧(l=false→0<(bs:List Br).length),a6 es,a7 bs],
 fun((th,m,fu,root,fr,fs,gn),l,es,bs)=>hT th (bF th m fu fr fs l es bs).1 (bF th m fu fr fs l es bs).2.1 root (bF th m fu fr fs l es bs).2.2.1 (bF th m fu fr fs l es bs).2.2.2.1 gn,
 fun((th,m,fu,_,fr,fs,_),l,es,bs)=>.bh [.agg [.s (.str (bF th m fu fr fs l es bs).2.2.2.2.1.1),bJ (bF th m fu fr fs l es bs).2.2.2.2.1.2.1],bJ (bF th m fu fr fs l es bs).2.2.2.2.2]⟩
theorem su{bs:List Br}(h:a7 bs):a7 (aa bs):=by
 cases bs with
 |nil=>exact h
 |cons b r=>
  refine⟨h.1,fun x hx=> ?_⟩
  rcases List.mem_cons.1 hx with rfl|hx
  ·exact Nat.zero_le _
  ·exact h.2 x (List.mem_cons_of_mem _ hx)
theorem vC{ws:Ws}(hw:Bx.okW ws)(h:Bx.eF ws 0=true):0≤Bx.br ws 0∧Bx.br ws 0<1024:=nk hw (abF hw h)
theorem ajx:anZ.Ok P Bx.bT:=aG.Ok.cons ajs.sum (aG.Ok.cons ae5.uD (aG.Ok.cons (Bx.al8 Bx.ar2.sum).sum (aG.Ok.cons agC.sum (aG.Ok.cons (Ds.ary.sum Ds.mWr) (aG.Ok.cons Bx.vq.sum (aG.Ok.cons Bx.ql.sum aG.Ok.nil))))))
theorem uQ:js P Bx.bT 83 ar9:=by
 refine aP Tryd.func83 (by kernel_rfl) (fun x=>Nat.le_of_ble_eq_true (by kernel_rfl)) ?_
 rintro⟨⟨(th:Th),(m:As),(fu:Int),(root:Int),(fr:Ws),(fs:Ws),(gn:Ws)⟩,(l:Bool),(es:List En),(bs:List Br)⟩ ⟨(hd:Ds.bI th m fu),(hf:Bx.okW fr),(cg:((l:Bool)=true→0<(es:List En).length)∧(l=false→0<(bs:List Br).length)),(he:a6 es),(hb:a7 bs),_⟩ X hX hz
 refine Ds.eG hz hX (by intro y hy;cases hy) ajx Tryd.func83 (aue th m fu root fr fs gn l es bs) ⟨cg,hb.1,hf,fun h=> ?_,fun h=>⟨he,su hb,fun h2=> ?_,fun h2=>⟨rfl,rfl,hd, ?_,fun h3=> ?_,fun h3=> ?_⟩⟩⟩
 ·have h:Bx.eF fr 0=false:=by simpa using h
  have e:bF th m fu fr fs l es bs=(m,fu,fr,fs,dB,41):=by unfold bF;rw[if_pos h]
  refine bS (h:=hT th m fu root fr fs gn) 4 rfl (Nat.le_refl _) ?_ ?_
  ·show AV.bh [.agg [.s (.str (bF th m fu fr fs l es bs).2.2.2.2.1.1),bJ (bF th m fu fr fs l es bs).2.2.2.2.1.2.1],bJ (bF th m fu fr fs l es bs).2.2.2.2.2]=_
   rw[e];rfl
  ·show hT th (bF th m fu fr fs l es bs).1 (bF th m fu fr fs l es bs).2.1 root (bF th m fu fr fs l es bs).2.2.1 (bF th m fu fr fs l es bs).2.2.2.1 gn=_
   rw[e]
 ·have h:¬Bx.eF fr 0=false:=by simpa using h
  have h2:gI l es (aa bs)≠0:=by simpa using h2
  have e:bF th m fu fr fs l es bs=(m,fu,fr,fs,dB,gI l es (aa bs)):=by unfold bF;rw[if_neg h,if_pos h2]
  refine bS (h:=hT th m fu root fr fs gn) 4 rfl (Nat.le_refl _) ?_ ?_
  ·show AV.bh [.agg [.s (.str (bF th m fu fr fs l es bs).2.2.2.2.1.1),bJ (bF th m fu fr fs l es bs).2.2.2.2.1.2.1],bJ (bF th m fu fr fs l es bs).2.2.2.2.2]=_
   rw[e];rfl
  ·show hT th (bF th m fu fr fs l es bs).1 (bF th m fu fr fs l es bs).2.1 root (bF th m fu fr fs l es bs).2.2.1 (bF th m fu fr fs l es bs).2.2.2.1 gn=_
   rw[e]
 ·have h:Bx.eF fr 0=true:=by simpa using h
  have:=vC hf h
  exact⟨by omega,by omega⟩
 ·have h:¬Bx.eF fr 0=false:=by simpa using h
  have h2:¬gI l es (aa bs)≠0:=by simpa using h2
  have h3:(Ds.jY th m fu (Bx.br fr 0) (cX l es (aa bs))).2.2≠0:=by simpa using h3
  have e:bF th m fu fr fs l es bs=((Ds.jY th m fu (Bx.br fr 0) (cX l es (aa bs))).1,(Ds.jY th m fu (Bx.br fr 0) (cX l es (aa bs))).2.1,fr,fs,dB,(Ds.jY th m fu (Bx.br fr 0) (cX l es (aa bs))).2.2):=by unfold bF;rw[if_neg h,if_neg h2,if_pos h3]
  refine bS (h:=hT th (Ds.jY th m fu (Bx.br fr 0) (cX l es (aa bs))).1 (Ds.jY th m fu (Bx.br fr 0) (cX l es (aa bs))).2.1 root fr fs gn) 4 rfl (Nat.le_refl _) ?_ ?_
  ·show AV.bh [.agg [.s (.str (bF th m fu fr fs l es bs).2.2.2.2.1.1),bJ (bF th m fu fr fs l es bs).2.2.2.2.1.2.1],bJ (bF th m fu fr fs l es bs).2.2.2.2.2]=_
   rw[e];rfl
  ·show hT th (bF th m fu fr fs l es bs).1 (bF th m fu fr fs l es bs).2.1 root (bF th m fu fr fs l es bs).2.2.1 (bF th m fu fr fs l es bs).2.2.2.1 gn=_
   rw[e]
 ·have h:¬Bx.eF fr 0=false:=by simpa using h
  have h2:¬gI l es (aa bs)≠0:=by simpa using h2
  have h3:¬(Ds.jY th m fu (Bx.br fr 0) (cX l es (aa bs))).2.2≠0:=by simpa using h3
  have e:bF th m fu fr fs l es bs=((Ds.jY th m fu (Bx.br fr 0) (cX l es (aa bs))).1,(Ds.jY th m fu (Bx.br fr 0) (cX l es (aa bs))).2.1,Bx.cM fr (Bx.br fr 0),Bx.cK fs (Bx.br fr 0),(cO l es bs,Bx.br fr 0,()),0):=by unfold bF;rw[if_neg h,if_neg h2,if_neg h3]
  refine bS (h:=hT th (Ds.jY th m fu (Bx.br fr 0) (cX l es (aa bs))).1 (Ds.jY th m fu (Bx.br fr 0) (cX l es (aa bs))).2.1 root (Bx.cM fr (Bx.br fr 0)) (Bx.cK fs (Bx.br fr 0)) gn) 4 rfl (Nat.le_refl _) ?_ ?_
  ·show AV.bh [.agg [.s (.str (bF th m fu fr fs l es bs).2.2.2.2.1.1),bJ (bF th m fu fr fs l es bs).2.2.2.2.1.2.1],bJ (bF th m fu fr fs l es bs).2.2.2.2.2]=_
   rw[e];rfl
  ·show hT th (bF th m fu fr fs l es bs).1 (bF th m fu fr fs l es bs).2.1 root (bF th m fu fr fs l es bs).2.2.1 (bF th m fu fr fs l es bs).2.2.2.1 gn=_
   rw[e]
end Ts
namespace Go.Sx
open Go
def ae7:List Nat→List AV→(List AV→RM bw)→RM bw
 |[],args,k=>k args
 |id::ids,args,k=>.look id fun o=>match o with
  |some (.vec c _)=>((ae7 ids (args.map (mP id c)) k).afG id).lP id
  |_=>.fail "give up: no row"
def ajy(i:Nat)(s:Nat→List AV→RM bw):Nat→List AV→RM bw:=fun base args=>ae7 (acS (args.getD i (.s .aR))) args (s base)
def ae8(cs:List (Nat×aF)):Nat→List AV→List AV
 |_,[]=>[]
 |j,.emp::r=>(match cs.find? (fun p=>p.1.beq j)with
  |some (_,c)=>bif c.n.beq 0 then .s (.ro c)else .emp
  |none=>.emp)::ae8 cs (j+1) r
 |j,a::r=>a::ae8 cs (j+1) r
def an0(cs:List (Nat×aF)):AV→AV
 |.agg ak=>.agg (ae8 cs 0 ak)
 |a=>a
def zE(i:Nat)(cs:List (Nat×aF))(s:Nat→List AV→RM bw):Nat→List AV→RM bw:=fun base args=>s base (match args[i]? with
 |some a=>args.set i (an0 cs a)
 |none=>args)
section
variable{ρ az:Nat→Value}{H H':aH}{G O O':Nat→Prop}{w w':World}{P:Program}{Z:ba}{X:Type}{S:Spec X}
theorem xT{cs:List (Nat×aF)}:∀(l:List AV) (j:Nat) {vs:List Value},an ρ H O w l vs→an ρ H O w (ae8 cs j l) vs
 |[],_,vs,h=>h
 |a::l,j,vs,h=>by
  obtain⟨c1,c2,rfl,h1,h2⟩:=af.1 h
  have ih:=xT (cs:=cs) l (j+1) h2
  cases a with
  |emp=>
   refine af.2 ⟨c1,c2,rfl, ?_,ih⟩
   split
   ·rw[Bool.cond_eq_ite]
    split
    ·rename_i c _ hc
     have hc:c.n=0:=by simpa using hc
     unfold aC at h1 ⊢
     obtain⟨u,rfl,a,rfl⟩:=h1
     exact⟨_,rfl,sX hc a⟩
    ·exact h1
   ·exact h1
  |_=>exact af.2 ⟨c1,c2,rfl,h1,ih⟩
theorem agU{cs:List (Nat×aF)}{a:AV}{v:Value}(h:ab ρ H O w a v):ab ρ H O w (an0 cs a) v:=by
 cases a with
 |agg ak=>
  unfold ab at h
  obtain⟨vs,rfl,h1⟩:=h
  show ab _ _ _ _ (.agg _) _
  unfold ab
  exact⟨vs,rfl,xT _ _ h1⟩
 |_=>exact h
theorem fX{f:FuncId}{s:Nat→List AV→RM bw}(h:uC P Z f s)(i:Nat)(cs:List (Nat×aF)):uC P Z f (zE i cs s):=by
 intro base args H q hq hn ρ G w vs eM hz hs hd
 unfold zE at hq
 split at hq
 ·rename_i a ha
  exact h base _ H q hq hn ρ G w vs eM hz hs (ait hd ha fun v hv=>agU hv)
 ·exact h base _ H q hq hn ρ G w vs eM hz hs hd
theorem agV(hs:Sat ρ H G w){id:Nat}{c:aF}{e:TypeId}(ho:H id=some (.vec c e)){x:AV}{v:Value}(hx:ab ρ H (aM ρ H G) w x v):
 ab ρ (aB H id .dead) (aM ρ (aB H id .dead) G) w (mP id c x) v:=by
 have st:=fq (ρ:=ρ) (G:=G) (w:=w) ho
 have gone:=ud hs ho
 have ac1:∀x cs,aC ρ H (aM ρ H G) w x cs→aC ρ (aB H id .dead) (aM ρ (aB H id .dead) G) w (mO id c x) cs:=by
  intro x cs hx
  have kD:=aC.step st x cs hx
  cases x<;>try exact kD
  rename_i j
  simp only[mO,Bool.cond_eq_ite]
  split
  ·rename_i hj
   have hj:j=id:=by simpa using hj
   subst hj
   unfold aC at hx ⊢
   obtain⟨u,rfl,hu⟩:=hx
   obtain⟨a,cap,hv,hr,_⟩:=ji hs ho (by unfold ab;exact hu)
   exact⟨u,rfl,by rw[←hr];exact gone⟩
  ·exact kD
 have lU:∀(xs:List AV) cs,an ρ H (aM ρ H G) w xs cs→an ρ (aB H id .dead) (aM ρ (aB H id .dead) G) w (xs.map (mO id c)) cs:=by
  intro xs
  induction xs with
  |nil=>intro cs hx;exact ao.2 (ao.1 hx)
  |cons x xs ih=>
   intro cs hx
   obtain⟨c1,c2,rfl,h1,h2⟩:=af.1 hx
   exact af.2 ⟨c1,c2,rfl,ac1 _ _ h1,ih _ h2⟩
 have kD:=ab.step st x v hx
 cases x with
 |agg ak=>
  unfold ab at hx
  obtain⟨cs,rfl,h1⟩:=hx
  show ab _ _ _ _ (.agg _) _
  unfold ab
  exact⟨cs,rfl,lU _ _ h1⟩
 |vec j=>
  simp only[mP,Bool.cond_eq_ite]
  split
  ·rename_i hj
   have hj:j=id:=by simpa using hj
   subst hj
   obtain⟨a,cap,hv,hr,_⟩:=ji hs ho hx
   rw[←hr]
   exact aq gone
  ·exact kD
 |_=>exact kD
theorem abG{f:FuncId}{s:Nat→List AV→RM bw}(h:uC P Z f s){base:Nat}:∀(ids:List Nat) {args:List AV} {H:aH} {q:bw},(ae7 ids args (s base)).eval H=some q→bq q.need→
 ∀(ρ:Nat→Value) (G:Nat→Prop) (w:World) (vs:List Value),(∀j,j<q.new.length→H (base+j)=none)→ZAt Z ρ H w→Sat ρ H G w→bx ρ H (aM ρ H G) w args vs→
 Calls P f vs.toArray w fun e w'=>∃v,e=.returned v∧Good ρ H G w (cV H q.up base q.new) (q.r base) v w'
 |[],args,H,q,hq,hn,ρ,G,w,vs,eM,hz,hs,hd=>h base args H q hq hn ρ G w vs eM hz hs hd
 |id::ids,args,H,q,hq,hn,ρ,G,w,vs,eM,hz,hs,hd=>by
  simp only[ae7,RM.eval]at hq
  split at hq
  ·rename_i c el ho
   obtain⟨q',h1,rfl⟩:=RM.lS _ hq
   rw[RM.nA]at h1
   have st:=fq (ρ:=ρ) (G:=G) (w:=w) ho
   have hz1:ZAt Z ρ (aB H id .dead) w:=⟨hz.1,fun b hb hO=>hz.2 b hb (fg hO)⟩
   have amg:∀j,j<q'.new.length→aB H id .dead (base+j)=none:=fun j hj=>by
    have:=eM j hj
    simp only[aB]
    split
    ·rename_i e1;rw[e1,ho]at this;cases this
    ·exact this
   have hd1:bx ρ (aB H id .dead) (aM ρ (aB H id .dead) G) w (args.map (mP id c)) vs:=by
    clear h1 hq
    induction args generalizing vs with
    |nil=>exact(show bx _ _ _ _ [] vs by rw[aV.1 hd];unfold bx;rfl)
    |cons a args ih=>
     obtain⟨v,rest,rfl,g1,g2⟩:=au.1 hd
     exact au.2 ⟨v,rest,rfl,agV hs ho g1,ih _ g2⟩
   refine(abG h ids h1 hn ρ G w vs amg hz1 (hs.kill ho) hd1).mono ?_
   rintro en w' ⟨v,he,hg⟩
   refine⟨v,he, ?_⟩
   have ahR:cV H ((id,.dead)::q'.up) base q'.new=cV (aB H id .dead) q'.up base q'.new:=by
    funext j
    simp only[cV,cF,aB]
    cases cF q'.up j with
    |some x=>rfl
    |none=>
     simp only[]
     by_cases hj:j=id
     ·subst hj
      have tV:¬(base≤j∧j<base+q'.new.length):=by
       rintro⟨k1,k2⟩
       have:=eM (j - base) (by simp only[];omega)
       rw[show base+(j - base)=j from by omega,ho]at this
       cases this
      simp[tV]
     ·simp[hj]
   simp only[]
   rw[ahR]
   exact Good.after st (fun b hb=>fg hb) hg
  ·simp[RM.eval]at hq
theorem ib{f:FuncId}{s:Nat→List AV→RM bw}(h:uC P Z f s)(i:Nat):uC P Z f (ajy i s):=by
 intro base args H q hq hn ρ G w vs eM hz hs hd
 exact abG h _ hq hn ρ G w vs eM hz hs hd
theorem wJ{f:FuncId}{fn:Func}{aA:List AV}{L:List ad}{K:List ad→AV→Prop}(hf:P.funcs[f]? =some fn)(hb:fn.body.isSome=true)(hn:aA.length≤fn.ntmps)
 (h:∀X:Ctx,X.H=lk L→dM Z X→Safe P f X K (start fn aA L)) (ρ:Nat→Value) (G:Nat→Prop) (w:World) (vs:List Value) (hz:ZAt Z ρ (lk L) w) (hs:Sat ρ (lk L) G w)
 (hd:bx ρ (lk L) (aM ρ (lk L) G) w aA vs):Calls P f vs.toArray w (jM ⟨ρ,lk L,G,w,[]⟩ K):=by
 obtain⟨c,hb⟩:=Option.isSome_iff_exists.1 hb
 have m8:vs.length=aA.length:=by
  have:∀{aA:List AV} {vs:List Value},bx ρ (lk L) (aM ρ (lk L) G) w aA vs→vs.length=aA.length:=by
   intro aA
   induction aA with
   |nil=>intro vs h;rw[aV.1 h];rfl
   |cons a aA ih=>intro vs h;obtain⟨v,rest,rfl,_,h2⟩:=au.1 h;simp[ih h2]
  exact this hd
 refine iq (R:=jM ⟨ρ,lk L,G,w,[]⟩ K) hf hb ?_
 have:=(h ⟨ρ,lk L,G,w,[]⟩ rfl hz).goes rfl rfl (ρ:=ρ) (a:={tmps:=vs.toArray++Array.replicate (fn.ntmps - vs.toArray.size) undef,defers:=[]}) (w:=w)
 simp only[start,hb,Option.getD_some]at this
 refine this ⟨hs, ?_,fun t=> ?_,rfl,Step.refl _ _ _ _,⟨rfl,rfl,rfl,fun _ _ _=>rfl⟩,fun x hx=>by cases hx⟩
 ·simp[m8]
 ·have e1:∀(aA:List AV) (vs:List Value),bx ρ (lk L) (aM ρ (lk L) G) w aA vs→∀t,ab ρ (lk L) (aM ρ (lk L) G) w (aA.getD t (.bh [])) (vs.getD t undef):=by
   intro aA
   induction aA with
   |nil=>intro vs h t;rw[aV.1 h];simp only[List.getD,List.getElem?_nil,Option.getD_none];exact cu
   |cons a aA ih=>
    intro vs h t
    obtain⟨v,rest,rfl,h1,h2⟩:=au.1 h
    cases t with
    |zero=>simpa using h1
    |succ t=>simpa using ih rest h2 t
  have h1:=e1 _ _ hd t
  simp only[List.getD_eq_getElem?_getD,List.getElem?_append,List.getElem?_replicate,Array.getD_eq_getD_getElem?,Array.getElem?_append,List.getElem?_toArray,Array.getElem?_replicate,List.size_toArray]at h1 ⊢
  rw[m8]
  split
  ·rename_i ht
   have hv:vs[t]? =some vs[t]:=List.getElem?_eq_getElem (by omega)
   have ha:aA[t]? =some aA[t]:=List.getElem?_eq_getElem ht
   rw[hv,ha]at h1 ⊢
   exact h1
  ·split
   ·exact cu
   ·unfold ab;trivial
def wK{X:Type}(S:Spec X)(x:X)(L:List ad)(r:AV):Prop:=
 ∃(N:Norm) (vs os:List AV),r=.bh vs∧(S.heap x).length≤N.m∧N.run ⟨vs,L,[],{}⟩=some ⟨os,S.fk x,[],{}⟩∧∀(ρ:Nat→Value) (H:aH) (O:Nat→Prop) (w:World) (us:List Value),bx ρ H O w os us→ab ρ H O w (S.out x) (.tuple us.toArray)
theorem ae9:∀{os:List AV} {us:List Value},os.length=us.length→(∀t,ab ρ H O w (os.getD t (.s .aR)) (us.getD t undef))→bx ρ H O w os us
 |[],[],_,_=>by unfold bx;rfl
 |[],_::_,h,_=>by simp at h
 |_::_,[],h,_=>by simp at h
 |a::os,u::us,hl,h=>au.2 ⟨u,us,rfl,h 0,ae9 (by simpa using hl) fun t=>h (t+1)⟩
theorem fz{f:FuncId}{fn:Func}(hf:P.funcs[f]? =some fn)(hb:fn.body.isSome=true)(hn:∀x,(S.args x).length≤fn.ntmps)
 (h:∀x,bq (S.pre x)→∀X:Ctx,X.H=lk (S.heap x)→dM Z X→Safe P f X (wK S x) (start fn (S.args x) (S.heap x))):js P Z f S:=by
 intro x lj ρ G w vs hz hs hd
 refine(wJ hf hb (hn x) (h x lj) ρ G w vs hz hs hd).mono ?_
 rintro e w' ⟨v,rfl,L,r,⟨N,ts,os,rfl,hm,hN,hwk⟩,lq,g1,g2,g3,g4⟩
 refine⟨v,rfl, ?_⟩
 unfold ab at g2
 obtain⟨us,rfl,g2⟩:=g2
 have hlen:us.length=ts.length:=by
  have:∀{aA:List AV} {vs:List Value},bx lq (fun id=>L[id]?) (aM lq (fun id=>L[id]?) G) w' aA vs→vs.length=aA.length:=by
   intro aA
   induction aA with
   |nil=>intro vs h;rw[aV.1 h];rfl
   |cons a aA ih=>intro vs h;obtain⟨v,rest,rfl,_,h2⟩:=au.1 h;simp[ih h2]
  exact this g2
 have r0:bO ⟨ρ,lk (S.heap x),G,w,[]⟩ lq ⟨ts,L⟩ {tmps:=us.toArray,defers:=[]} w':=by
  refine⟨g1,by simp[hlen],fun t=> ?_,rfl,g3,g4,fun x hx=>by cases hx⟩
  clear hlen hN
  have g2':bx lq (St.look ⟨ts,L⟩) (aM lq (St.look ⟨ts,L⟩) G) w' ts us:=g2
  show ab lq (St.look ⟨ts,L⟩) (aM lq (St.look ⟨ts,L⟩) G) w' (ts.getD t (.s .aR)) (us.toArray.getD t undef)
  generalize St.look ⟨ts,L⟩=H1 at g2' ⊢
  clear g2 hwk
  induction ts generalizing us t with
  |nil=>simp only[List.getD,List.getElem?_nil,Option.getD_none];unfold ab;trivial
  |cons a ts ih=>
   obtain⟨u,rest,rfl,k1,k2⟩:=au.1 g2'
   cases t with
   |zero=>simpa using k1
   |succ t=>simpa[Array.getD_eq_getD_getElem?]using ih _ t k2
 have h0:∀id,N.m≤id→(⟨ρ,lk (S.heap x),G,w,[]⟩:Ctx).H id=none:=fun id dd=>by simp[lk];omega
 have fin:∃ρ4,bO ⟨ρ,lk (S.heap x),G,w,[]⟩ ρ4 ⟨os,S.fk x⟩ {tmps:=us.toArray,defers:=[]} w':=by
  unfold Norm.run at hN
  split at hN
  ·rename_i t1 L1 h1
   simp only[]at hN
   split at hN
   ·rename_i t2 L2 h2
    simp only[Option.some.injEq,bz.mk.injEq,and_true]at hN
    obtain⟨rfl,rfl⟩:=hN
    obtain⟨lq,r1⟩:=bO.fw h0 h1 (bO.dN N.eH r0)
    obtain⟨fW,r2⟩:=bO.fL N.oE r1
    obtain⟨ρ3,r3⟩:=bO.fM N.cells r2
    obtain⟨ρ4,r4⟩:=bO.fw h0 h2 r3
    exact⟨ρ4,r4⟩
   ·cases hN
  ·cases hN
 obtain⟨ρ4,r4⟩:=fin
 refine⟨ρ4,r4.sat,hwk _ _ _ _ _ (ae9 ?_ fun t=> ?_),r4.from_,r4.iL⟩
 ·have:=r4.size;simpa using this
 ·have:=r4.den t
  have e:(us.toArray.getD t undef)=us.getD t undef:=by simp[Array.getD_eq_getD_getElem?,List.getD_eq_getElem?_getD]
  rw[←e]
  exact this
theorem ke{S:Spec X}{x:X}{L:List ad}{vs os:List AV}{h:List ad}(N:Norm)(e:N.run ⟨vs,L,[],{}⟩=some ⟨os,h,[],{}⟩)(hm:(S.heap x).length≤N.m){os':List AV}(hw:oq os os')(ho:S.out x=.bh os')(hh:S.fk x=h):wK S x L (.bh vs):=
 ⟨N,vs,os,rfl,hm,by rw[hh];exact e,fun ρ H O w us hd=>by rw[ho];unfold ab;exact⟨us,rfl,hw.den hd⟩⟩
theorem oq.same:∀(os:List AV),oq os os
 |[]=>.nil
 |a::os=>.cons (.one (.refl a)) (oq.same os)
end
end Go.Sx
namespace Ts
open Go Go.Sx Go.Proofs Lf
def mT:List AV→RM (XT×List Nat)
 |[.ptr id 0]=>.look id fun o=>match o with
  |some (.own [.ptr d 0,rt,.ints .u64 16 fr,.ints .u64 16 fs,.ints .u64 16 gn] _)=>(Ds.mAs [.ptr d 0]).bind fun((th,m,fu),σ)=>match rt.cY with
   |some (_,_,root)=>.ret ((th,m,fu,root,fr,fs,gn),id::σ)
   |none=>.fail "no root"
  |_=>.fail "no tree's cells"
 |_=>.fail "no tree"
def ap9:AV→Option (Bool×List En×List Br)
 |.agg [l,.s (.ro (.ae [.str,.str] es)),.s (.ro (.ae [.str,.int .i64] bs))]=>match l.iN with
  |some (_,b)=>some (b,es,bs)
  |none=>none
 |_=>none
def mTN:List AV→RM ((XT×Bool×List En×List Br)×List Nat)
 |[t,x]=>(mT [t]).bind fun(X,σ)=>match ap9 x with
  |some (l,es,bs)=>.ret ((X,l,es,bs),σ)
  |none=>.fail "no node"
 |_=>.fail "no tree and node"
abbrev an1(s:Nat→List AV→RM bw):=ajy 1 (zE 1 [(1,.ae cE []),(2,.ae cB [])] s)
abbrev aqa:=an1 (dm ar9 mTN)
abbrev auf:=bU [ej] [ej,ej,bo] (fun((_,es,bs,()),())=>[a6 es,a7 bs]) (fun((l,es,bs,()),())=>((bL l es bs,aY l es bs,a8 l es bs,()),(bL l es bs,cI l es bs,cQ l es bs,()),spC l es bs,()))
def an2:aG:=[(81,anY),(82,anH),(83,aqa),(84,auf)]
theorem aug(th:Th)(m:As)(fu root:Int)(fr fs gn:Ws)(l:Bool)(es:List En)(bs:List Br):run P an2.sum Tryd.f66 [] (start Tryd.f66 [.ptr 0 0,avN l es bs] (hT th m fu root fr fs gn))=
 Tree.need (aD ((↑es.length:Int)+(↑bs.length:Int)))
 (.ite ((↑es.length:Int)+(↑bs.length:Int)==0) (.ret [.own [.ptr 1 0,.s (.int .i64 root),.ints .u64 16 fr,.ints .u64 16 fs,.ints .u64 16 gn] 70,.own [.vec 2,.ag 3,.s (.int .i64 fu)] 96,.vec (.ae [.arr .u8 64] th) 138,.map (.arr .u8 64) m,.own [.s (.bool l),.s (.ro (.ae [.str,.str] es)),.s (.ro (.ae [.str,.int .i64] bs))] 73] (.bh [.emp,.s (.aZ .i64 0)]))
   (.need (bs.length≤1000)
     (.need (a6 es)
       (.need (a7 (aa bs))
         (.ite (decide (bd es (aa bs)≤254)) (.need (bu (some [AV.ptr 0 0,.agg [.s (.bool l),.s (.ro (.ae [.str,.str] es)),.s (.ro (.ae [.str,.int .i64] (aa bs)))]])) (.need (bu (some [ad.own [.ptr 1 0,.s (.int .i64 root),.ints .u64 16 fr,.ints .u64 16 fs,.ints .u64 16 gn] 70,.own [.vec 2,.ag 3,.s (.int .i64 fu)] 96,.vec (.ae [.arr .u8 64] th) 138,.map (.arr .u8 64) m])) (.need (Ds.bI th m fu) (.need (Bx.okW fr) (.need ((l=true→(0:Nat)<es.length)∧(l=false→(0:Nat)<(aa bs).length)) (.need (a6 es) (.need (a7 (aa bs)) (.ret [.own [.ptr 1 0,.s (.int .i64 root),.ints .u64 16 (bF th m fu fr fs l es (aa bs)).snd.snd.fst,.ints .u64 16 (bF th m fu fr fs l es (aa bs)).snd.snd.snd.fst,.ints .u64 16 gn] 70,.own [.vec 2,.ag 3,.s (.int .i64 (bF th m fu fr fs l es (aa bs)).snd.fst)] 96,.vec (.ae [.arr .u8 64] th) 138,.map (.arr .u8 64) (bF th m fu fr fs l es (aa bs)).fst,.own [.s (.bool l),.s (.ro (.ae [.str,.str] es)),.s (.ro (.ae [.str,.int .i64] (aa bs)))] 73,.own [.s (.str (bF th m fu fr fs l es (aa bs)).snd.snd.snd.snd.fst.fst),.s (.int .i64 (bF th m fu fr fs l es (aa bs)).snd.snd.snd.snd.fst.snd.fst)] 79,.vec (.ae [.str,.int .i64] [((bF th m fu fr fs l es (aa bs)).snd.snd.snd.snd.fst.fst,(bF th m fu fr fs l es (aa bs)).snd.snd.snd.snd.fst.snd.fst,())]) 79] (.bh [.vec 6,.s (.int .i64 (bF th m fu fr fs l es (aa bs)).snd.snd.snd.snd.snd)])))))))))
           (.need (a6 es)
             (.need (a7 (aa bs))
               (.ite (spC l es (aa bs) !=0) (.ret [.own [.ptr 1 0,.s (.int .i64 root),.ints .u64 16 fr,.ints .u64 16 fs,.ints .u64 16 gn] 70,.own [.vec 2,.ag 3,.s (.int .i64 fu)] 96,.vec (.ae [.arr .u8 64] th) 138,.map (.arr .u8 64) m,.own [.s (.bool l),.s (.ro (.ae [.str,.str] es)),.s (.ro (.ae [.str,.int .i64] (aa bs)))] 73,.vec (.ae [.str,.str] (aY l es (aa bs))) 34,.vec (.ae [.str,.int .i64] (a8 l es (aa bs))) 79,.vec (.ae [.str,.str] (cI l es (aa bs))) 34,.vec (.ae [.str,.int .i64] (cQ l es (aa bs))) 79,.own [.s (.bool (bL l es (aa bs))),.vec 5,.vec 6] 73,.own [.s (.bool (bL l es (aa bs))),.vec 7,.vec 8] 73] (.bh [.emp,.s (.int .i64 (spC l es (aa bs)))]))
                 (.need (bu (some [AV.ptr 0 0,.agg [.s (.bool (bL l es (aa bs))),.s (.ro (.ae [.str,.str] (aY l es (aa bs)))),.s (.ro (.ae [.str,.int .i64] (a8 l es (aa bs))))]]))
                   (.need (bu (some [ad.own [.ptr 1 0,.s (.int .i64 root),.ints .u64 16 fr,.ints .u64 16 fs,.ints .u64 16 gn] 70,.own [.vec 2,.ag 3,.s (.int .i64 fu)] 96,.vec (.ae [.arr .u8 64] th) 138,.map (.arr .u8 64) m]))
                     (.need (Ds.bI th m fu)
                       (.need (Bx.okW fr)
                         (.need ((bL l es (aa bs)=true→(0:Nat)<(aY l es (aa bs)).length)∧(bL l es (aa bs)=false→(0:Nat)<(a8 l es (aa bs)).length))
                           (.need (a6 (aY l es (aa bs)))
                             (.need (a7 (a8 l es (aa bs)))
                               (.ite ((bF th m fu fr fs (bL l es (aa bs)) (aY l es (aa bs)) (a8 l es (aa bs))).snd.snd.snd.snd.snd !=0) (.ret [.own [.ptr 1 0,.s (.int .i64 root),.ints .u64 16 (bF th m fu fr fs (bL l es (aa bs)) (aY l es (aa bs)) (a8 l es (aa bs))).snd.snd.fst,.ints .u64 16 (bF th m fu fr fs (bL l es (aa bs)) (aY l es (aa bs)) (a8 l es (aa bs))).snd.snd.snd.fst,.ints .u64 16 gn] 70,.own [.vec 2,.ag 3,.s (.int .i64 (bF th m fu fr fs (bL l es (aa bs)) (aY l es (aa bs)) (a8 l es (aa bs))).snd.fst)] 96,.vec (.ae [.arr .u8 64] th) 138,.map (.arr .u8 64) (bF th m fu fr fs (bL l es (aa bs)) (aY l es (aa bs)) (a8 l es (aa bs))).fst,.own [.s (.bool l),.s (.ro (.ae [.str,.str] es)),.s (.ro (.ae [.str,.int .i64] (aa bs)))] 73,.dead,.dead,.vec (.ae [.str,.str] (cI l es (aa bs))) 34,.vec (.ae [.str,.int .i64] (cQ l es (aa bs))) 79,.own [.s (.bool (bL l es (aa bs))),.vec 5,.vec 6] 73,.own [.s (.bool (bL l es (aa bs))),.vec 7,.vec 8] 73,.own [.s (.str (bF th m fu fr fs (bL l es (aa bs)) (aY l es (aa bs)) (a8 l es (aa bs))).snd.snd.snd.snd.fst.fst),.s (.int .i64 (bF th m fu fr fs (bL l es (aa bs)) (aY l es (aa bs)) (a8 l es (aa bs))).snd.snd.snd.snd.fst.snd.fst)] 79] (.bh [.emp,.s (.int .i64 (bF th m fu fr fs (bL l es (aa bs)) (aY l es (aa bs)) (a8 l es (aa bs))).snd.snd.snd.snd.snd)]))
                                 (.need (bu (some [AV.ptr 0 0,.agg [.s (.bool (bL l es (aa bs))),.s (.ro (.ae [.str,.str] (cI l es (aa bs)))),.s (.ro (.ae [.str,.int .i64] (cQ l es (aa bs))))]]))
                                   (.need (bu (some [ad.own [.ptr 1 0,.s (.int .i64 root),.ints .u64 16 (bF th m fu fr fs (bL l es (aa bs)) (aY l es (aa bs)) (a8 l es (aa bs))).snd.snd.fst,.ints .u64 16 (bF th m fu fr fs (bL l es (aa bs)) (aY l es (aa bs)) (a8 l es (aa bs))).snd.snd.snd.fst,.ints .u64 16 gn] 70,.own [.vec 2,.ag 3,.s (.int .i64 (bF th m fu fr fs (bL l es (aa bs)) (aY l es (aa bs)) (a8 l es (aa bs))).snd.fst)] 96,.vec (.ae [.arr .u8 64] th) 138,.map (.arr .u8 64) (bF th m fu fr fs (bL l es (aa bs)) (aY l es (aa bs)) (a8 l es (aa bs))).fst]))
                                     (.need (Ds.bI th (bF th m fu fr fs (bL l es (aa bs)) (aY l es (aa bs)) (a8 l es (aa bs))).fst (bF th m fu fr fs (bL l es (aa bs)) (aY l es (aa bs)) (a8 l es (aa bs))).snd.fst)
                                       (.need (Bx.okW (bF th m fu fr fs (bL l es (aa bs)) (aY l es (aa bs)) (a8 l es (aa bs))).snd.snd.fst)
                                         (.need ((bL l es (aa bs)=true→(0:Nat)<(cI l es (aa bs)).length)∧(bL l es (aa bs)=false→(0:Nat)<(cQ l es (aa bs)).length))
                                           (.need (a6 (cI l es (aa bs)))
                                             (.need (a7 (cQ l es (aa bs)))
                                               (.ret
                                                 [.own [.ptr 1 0,.s (.int .i64 root),.ints .u64 16 (bF th (bF th m fu fr fs (bL l es (aa bs)) (aY l es (aa bs)) (a8 l es (aa bs))).fst (bF th m fu fr fs (bL l es (aa bs)) (aY l es (aa bs)) (a8 l es (aa bs))).snd.fst (bF th m fu fr fs (bL l es (aa bs)) (aY l es (aa bs)) (a8 l es (aa bs))).snd.snd.fst (bF th m fu fr fs (bL l es (aa bs)) (aY l es (aa bs)) (a8 l es (aa bs))).snd.snd.snd.fst (bL l es (aa bs)) (cI l es (aa bs)) (cQ l es (aa bs))).snd.snd.fst,.ints .u64 16 (bF th (bF th m fu fr fs (bL l es (aa bs)) (aY l es (aa bs)) (a8 l es (aa bs))).fst (bF th m fu fr fs (bL l es (aa bs)) (aY l es (aa bs)) (a8 l es (aa bs))).snd.fst (bF th m fu fr fs (bL l es (aa bs)) (aY l es (aa bs)) (a8 l es (aa bs))).snd.snd.fst (bF th m fu fr fs (bL l es (aa bs)) (aY l es (aa bs)) (a8 l es (aa bs))).snd.snd.snd.fst (bL l es (aa bs)) (cI l es (aa bs)) (cQ l es (aa bs))).snd.snd.snd.fst,.ints .u64 16 gn] 70,.own [.vec 2,.ag 3,.s (.int .i64 (bF th (bF th m fu fr fs (bL l es (aa bs)) (aY l es (aa bs)) (a8 l es (aa bs))).fst (bF th m fu fr fs (bL l es (aa bs)) (aY l es (aa bs)) (a8 l es (aa bs))).snd.fst (bF th m fu fr fs (bL l es (aa bs)) (aY l es (aa bs)) (a8 l es (aa bs))).snd.snd.fst (bF th m fu fr fs (bL l es (aa bs)) (aY l es (aa bs)) (a8 l es (aa bs))).snd.snd.snd.fst (bL l es (aa bs)) (cI l es (aa bs)) (cQ l es (aa bs))).snd.fst)] 96,.vec (.ae [.arr .u8 64] th) 138,.map (.arr .u8 64) (bF th (bF th m fu fr fs (bL l es (aa bs)) (aY l es (aa bs)) (a8 l es (aa bs))).fst (bF th m fu fr fs (bL l es (aa bs)) (aY l es (aa bs)) (a8 l es (aa bs))).snd.fst (bF th m fu fr fs (bL l es (aa bs)) (aY l es (aa bs)) (a8 l es (aa bs))).snd.snd.fst (bF th m fu fr fs (bL l es (aa bs)) (aY l es (aa bs)) (a8 l es (aa bs))).snd.snd.snd.fst (bL l es (aa bs)) (cI l es (aa bs)) (cQ l es (aa bs))).fst,.own [.s (.bool l),.s (.ro (.ae [.str,.str] es)),.s (.ro (.ae [.str,.int .i64] (aa bs)))] 73,.dead,.dead,.dead,.dead,.own [.s (.bool (bL l es (aa bs))),.vec 5,.vec 6] 73,.own [.s (.bool (bL l es (aa bs))),.vec 7,.vec 8] 73,.own [.s (.str (bF th m fu fr fs (bL l es (aa bs)) (aY l es (aa bs)) (a8 l es (aa bs))).snd.snd.snd.snd.fst.fst),.s (.int .i64 (bF th m fu fr fs (bL l es (aa bs)) (aY l es (aa bs)) (a8 l es (aa bs))).snd.snd.snd.snd.fst.snd.fst)] 79,
                                                   .own [.s (.str (bF th (bF th m fu fr fs (bL l es (aa bs)) (aY l es (aa bs)) (a8 l es (aa bs))).fst (bF th m fu fr fs (bL l es (aa bs)) (aY l es (aa bs)) (a8 l es (aa bs))).snd.fst (bF th m fu fr fs (bL l es (aa bs)) (aY l es (aa bs)) (a8 l es (aa bs))).snd.snd.fst (bF th m fu fr fs (bL l es (aa bs)) (aY l es (aa bs)) (a8 l es (aa bs))).snd.snd.snd.fst (bL l es (aa bs)) (cI l es (aa bs)) (cQ l es (aa bs))).snd.snd.snd.snd.fst.fst),.s (.int .i64 (bF th (bF th m fu fr fs (bL l es (aa bs)) (aY l es (aa bs)) (a8 l es (aa bs))).fst (bF th m fu fr fs (bL l es (aa bs)) (aY l es (aa bs)) (a8 l es (aa bs))).snd.fst (bF th m fu fr fs (bL l es (aa bs)) (aY l es (aa bs)) (a8 l es (aa bs))).snd.snd.fst (bF th m fu fr fs (bL l es (aa bs)) (aY l es (aa bs)) (a8 l es (aa bs))).snd.snd.snd.fst (bL l es (aa bs)) (cI l es (aa bs)) (cQ l es (aa bs))).snd.snd.snd.snd.fst.snd.fst)] 79,.vec (.ae [.str,.int .i64] [((bF th m fu fr fs (bL l es (aa bs)) (aY l es (aa bs)) (a8 l es (aa bs))).snd.snd.snd.snd.fst.fst,(bF th m fu fr fs (bL l es (aa bs)) (aY l es (aa bs)) (a8 l es (aa bs))).snd.snd.snd.snd.fst.snd.fst,()),((bF th (bF th m fu fr fs (bL l es (aa bs)) (aY l es (aa bs)) (a8 l es (aa bs))).fst (bF th m fu fr fs (bL l es (aa bs)) (aY l es (aa bs)) (a8 l es (aa bs))).snd.fst (bF th m fu fr fs (bL l es (aa bs)) (aY l es (aa bs)) (a8 l es (aa bs))).snd.snd.fst (bF th m fu fr fs (bL l es (aa bs)) (aY l es (aa bs)) (a8 l es (aa bs))).snd.snd.snd.fst (bL l es (aa bs)) (cI l es (aa bs)) (cQ l es (aa bs))).snd.snd.snd.snd.fst.fst,(bF th (bF th m fu fr fs (bL l es (aa bs)) (aY l es (aa bs)) (a8 l es (aa bs))).fst (bF th m fu fr fs (bL l es (aa bs)) (aY l es (aa bs)) (a8 l es (aa bs))).snd.fst (bF th m fu fr fs (bL l es (aa bs)) (aY l es (aa bs)) (a8 l es (aa bs))).snd.snd.fst (bF th m fu fr fs (bL l es (aa bs)) (aY l es (aa bs)) (a8 l es (aa bs))).snd.snd.snd.fst (bL l es (aa bs)) (cI l es (aa bs)) (cQ l es (aa bs))).snd.snd.snd.snd.fst.snd.fst,())]) 79]
                                                 (.bh [.vec 13,.s (.int .i64 (bF th (bF th m fu fr fs (bL l es (aa bs)) (aY l es (aa bs)) (a8 l es (aa bs))).fst (bF th m fu fr fs (bL l es (aa bs)) (aY l es (aa bs)) (a8 l es (aa bs))).snd.fst (bF th m fu fr fs (bL l es (aa bs)) (aY l es (aa bs)) (a8 l es (aa bs))).snd.snd.fst (bF th m fu fr fs (bL l es (aa bs)) (aY l es (aa bs)) (a8 l es (aa bs))).snd.snd.snd.fst (bL l es (aa bs)) (cI l es (aa bs)) (cQ l es (aa bs))).snd.snd.snd.snd.snd)]))))))))))))))))))))))))):=by kernel_rfl
abbrev zF(l:Bool)(es:List En)(bs:List Br):Prop:=(l=true→bs=[])∧(l=false→es=[])
abbrev sWs:Spec (XT×Bool×List En×List Br):=⟨fun(_,l,es,bs)=>[.ptr 0 0,avN l es bs],fun((th,m,fu,root,fr,fs,gn),_)=>hT th m fu root fr fs gn,
 fun((th,m,fu,_,fr,_,_),l,es,bs)=>[Ds.bI th m fu,Bx.okW fr,zF l es bs,a6 es,a7 bs],
 fun((th,m,fu,root,fr,fs,gn),l,es,bs)=>hT th (bk th m fu fr fs l es bs).1 (bk th m fu fr fs l es bs).2.1 root (bk th m fu fr fs l es bs).2.2.1 (bk th m fu fr fs l es bs).2.2.2.1 gn++[.vec (.ae cB (bk th m fu fr fs l es bs).2.2.2.2.1) Lf.eB],
 fun((th,m,fu,_,fr,fs,_),l,es,bs)=>.bh [.vec 4,bJ (bk th m fu fr fs l es bs).2.2.2.2.2]⟩
theorem zG{th:Th}{m:As}{fu:Int}{fr fs:Ws}{l:Bool}{es:List En}{bs:List Br}(hd:Ds.bI th m fu)(hf:Bx.okW fr):Ds.bI th (bF th m fu fr fs l es bs).1 (bF th m fu fr fs l es bs).2.1∧Bx.okW (bF th m fu fr fs l es bs).2.2.1:=by
 have gd:=Ds.anx (n:=Bx.br fr 0) (s:=cX l es (aa bs)) hd
 unfold bF
 split
 ·exact⟨hd,hf⟩
 ·split
  ·exact⟨hd,hf⟩
  ·split
   ·exact⟨gd,hf⟩
   ·exact⟨gd,(Bx.ky hf _).1⟩
theorem xU(bs:List Br):(aa bs).length=bs.length:=by cases bs<;>rfl
theorem amh{l:Bool}{es:List En}{bs:List Br}(ok:di l es bs=true):(bL l es bs=true→0<(aY l es bs).length∧0<(cI l es bs).length)∧(bL l es bs=false→0<(a8 l es bs).length∧0<(cQ l es bs).length):=by
 have ok':=ok
 simp only[di,Bool.and_eq_true,decide_eq_true_eq]at ok'
 obtain⟨hm,h2⟩:=ok'
 obtain⟨m1,m2,_,_⟩:=dD hm
 have b1:=nh (aE es bs) (es.length+bs.length - 1) (by omega)
 have b2:=nI (aE es bs) (es.length+bs.length - 1)
 have c:0<dI es bs∧dI es bs≤es.length+bs.length - 1:=⟨b1,b2⟩
 simp only[bL,aY,cI,a8,cQ,ok,if_true,Bool.true_and,List.length_take,List.length_drop]
 refine⟨fun e=> ?_,fun e=> ?_⟩
 ·have:=m1 e
  subst this
  simp only[List.length_nil]at *
  omega
 ·have:=m2 e
  subst this
  simp only[List.length_nil]at *
  omega
theorem ajz:an2.Ok P Bx.bT:=aG.Ok.cons ae5.uD (aG.Ok.cons aeM.sum (aG.Ok.cons (ib (fX (uQ.sum mTN) 1 _) 1) (aG.Ok.cons ai2.sum aG.Ok.nil)))
theorem jB:js P Bx.bT 66 sWs:=by
 refine fz Tryd.func66 (by kernel_rfl) (fun x=>Nat.le_of_ble_eq_true (by kernel_rfl)) ?_
 rintro⟨⟨(th:Th),(m:As),(fu:Int),(root:Int),(fr:Ws),(fs:Ws),(gn:Ws)⟩,(l:Bool),(es:List En),(bs:List Br)⟩ ⟨(hd:Ds.bI th m fu),(hf:Bx.okW fr),⟨(hl1:l=true→bs=[]),(sV:l=false→es=[])⟩,(he:a6 es),(hb:a7 bs),_⟩ X hX hz
 have fin:∀{w:Wrs},bk th m fu fr fs l es bs=w→hT th (bk th m fu fr fs l es bs).1 (bk th m fu fr fs l es bs).2.1 root (bk th m fu fr fs l es bs).2.2.1 (bk th m fu fr fs l es bs).2.2.2.1 gn++[.vec (.ae cB (bk th m fu fr fs l es bs).2.2.2.2.1) Lf.eB]=hT th w.1 w.2.1 root w.2.2.1 w.2.2.2.1 gn++[.vec (.ae cB w.2.2.2.2.1) Lf.eB]∧
  AV.bh [.vec 4,bJ (bk th m fu fr fs l es bs).2.2.2.2.2]=.bh [.vec 4,bJ w.2.2.2.2.2]:=fun e=>by rw[e];exact⟨rfl,rfl⟩
 have hbb:=su hb
 refine Ds.eG hz hX (by intro y hy;cases hy) ajz Tryd.func66 (aug th m fu root fr fs gn l es bs) ⟨?_,fun h=> ?_,fun h=>⟨hb.1,he,hbb,fun h2=>⟨rfl,rfl,hd,hf, ?_,he,hbb, ?_⟩,fun h2=>⟨he,hbb,fun h3=> ?_,fun h3=> ?_⟩⟩⟩
 ·have:=he.1;have:=hb.1;exact⟨by omega,by omega⟩
 ·have h:(es.length:Int)+bs.length=0:=by simpa using h
  obtain⟨f1,f2⟩:=fin (w:=(m,fu,fr,fs,[],0)) (by unfold bk;rw[if_pos (by omega)])
  exact ke ⟨[(0,.ae cB [],Lf.eB)],[0,1],4,[]⟩ rfl (Nat.le_refl _) (oq.same _) f2 f1
 ·have h:¬((es.length:Int)+bs.length=0):=by simpa using h
  rw[xU]
  refine⟨fun e=>Nat.pos_of_ne_zero fun h0=>h ?_,fun e=>Nat.pos_of_ne_zero fun h0=>h ?_⟩
  ·rw[hl1 e,h0];rfl
  ·rw[sV e,h0];rfl
 ·have h:¬((es.length:Int)+bs.length=0):=by simpa using h
  have h2:=of_decide_eq_true h2
  obtain⟨f1,f2⟩:=fin (w:=((bF th m fu fr fs l es (aa bs)).1,(bF th m fu fr fs l es (aa bs)).2.1,(bF th m fu fr fs l es (aa bs)).2.2.1,(bF th m fu fr fs l es (aa bs)).2.2.2.1,[(bF th m fu fr fs l es (aa bs)).2.2.2.2.1],(bF th m fu fr fs l es (aa bs)).2.2.2.2.2)) (by unfold bk;rw[if_neg (by omega),if_pos h2])
  exact ke ⟨[],[0,1],4,[]⟩ rfl (Nat.le_refl _) (oq.same _) f2 f1
 ·have h:¬((es.length:Int)+bs.length=0):=by simpa using h
  have h2:=of_decide_eq_false h2
  have h3:spC l es (aa bs)≠0:=by simpa using h3
  obtain⟨f1,f2⟩:=fin (w:=(m,fu,fr,fs,[],spC l es (aa bs))) (by unfold bk;rw[if_neg (by omega),if_neg h2,if_pos h3])
  exact ke ⟨[(0,.ae cB [],Lf.eB)],[0,1],4,[]⟩ rfl (Nat.le_refl _) (oq.same _) f2 f1
 ·have h:¬((es.length:Int)+bs.length=0):=by simpa using h
  have h2:=of_decide_eq_false h2
  have h3:spC l es (aa bs)=0:=by simpa using h3
  have ok:=ap6 (l:=l) (es:=es) (bs:=aa bs) (by rw[h3];rfl)
  obtain⟨q1,q2,q3,q4,_,_,_,q5,q6,_,_⟩:=rG ok he hbb
  have hmn:cW l es (aa bs)=true:=by
   simp only[di,Bool.and_eq_true]at ok
   exact ok.1
  have y9:bL l es (aa bs)=l:=by unfold bL;rw[ok,Bool.true_and]
  obtain⟨p1,p2⟩:=amh ok
  have n1:(bL l es (aa bs)=true→0<(aY l es (aa bs)).length)∧(bL l es (aa bs)=false→0<(a8 l es (aa bs)).length):=⟨fun e=>(p1 e).1,fun e=>(p2 e).1⟩
  have n2:(bL l es (aa bs)=true→0<(cI l es (aa bs)).length)∧(bL l es (aa bs)=false→0<(cQ l es (aa bs)).length):=⟨fun e=>(p1 e).2,fun e=>(p2 e).2⟩
  obtain⟨w1,w2⟩:=zG (fs:=fs) (l:=bL l es (aa bs)) (es:=aY l es (aa bs)) (bs:=a8 l es (aa bs)) hd hf
  refine⟨rfl,rfl,hd,hf,n1,q1,q2,fun h4=> ?_,fun h4=>⟨rfl,rfl,w1,w2,n2,q3,q4, ?_⟩⟩
  ·have h4:(bF th m fu fr fs (bL l es (aa bs)) (aY l es (aa bs)) (a8 l es (aa bs))).2.2.2.2.2≠0:=by simpa using h4
   obtain⟨f1,f2⟩:=fin (w:=((bF th m fu fr fs (bL l es (aa bs)) (aY l es (aa bs)) (a8 l es (aa bs))).1,(bF th m fu fr fs (bL l es (aa bs)) (aY l es (aa bs)) (a8 l es (aa bs))).2.1,(bF th m fu fr fs (bL l es (aa bs)) (aY l es (aa bs)) (a8 l es (aa bs))).2.2.1,(bF th m fu fr fs (bL l es (aa bs)) (aY l es (aa bs)) (a8 l es (aa bs))).2.2.2.1,[],(bF th m fu fr fs (bL l es (aa bs)) (aY l es (aa bs)) (a8 l es (aa bs))).2.2.2.2.2)) (by unfold bk;rw[if_neg (by omega),if_neg h2,if_neg (by rw[h3];simp),if_pos h4])
   exact ke ⟨[(0,.ae cB [],Lf.eB)],[0,1],4,[]⟩ rfl (Nat.le_refl _) (oq.same _) f2 f1
  ·have h4:¬(bF th m fu fr fs (bL l es (aa bs)) (aY l es (aa bs)) (a8 l es (aa bs))).2.2.2.2.2≠0:=by simpa using h4
   obtain⟨f1,f2⟩:=fin (w:=two (bF th m fu fr fs (bL l es (aa bs)) (aY l es (aa bs)) (a8 l es (aa bs))) (bF th (bF th m fu fr fs (bL l es (aa bs)) (aY l es (aa bs)) (a8 l es (aa bs))).1 (bF th m fu fr fs (bL l es (aa bs)) (aY l es (aa bs)) (a8 l es (aa bs))).2.1 (bF th m fu fr fs (bL l es (aa bs)) (aY l es (aa bs)) (a8 l es (aa bs))).2.2.1 (bF th m fu fr fs (bL l es (aa bs)) (aY l es (aa bs)) (a8 l es (aa bs))).2.2.2.1 (bL l es (aa bs)) (cI l es (aa bs)) (cQ l es (aa bs)))) (by unfold bk;rw[if_neg (by omega),if_neg h2,if_neg (by rw[h3];simp),if_neg h4])
   exact ke ⟨[],[0,1],4,[]⟩ rfl (Nat.le_refl _) (oq.same _) f2 f1
end Ts
