/- Lemmas: SxKind, SxBase, SxExec, SxPure, SxSat, SxMem, SxHeap, SxLoad, SxRead, SxSlice, SxStore, SxNew, SxBuild, SxBuild2, SxAppend, SxOver, SxAppend2, SxMap, SxMapOp. -/
import Derived.WalkKit
import Derived.WalkSpells
import Derived.MapKept
import Derived.Carry
namespace Go.Sx
open Go
inductive CK where
 |int (k:IntKind)
 |bool
 |str
 |ints (k:IntKind)
 |strs
 |bD
 |rows (cs:List CK)
 |arr (k:IntKind) (n:Nat)
mutual
def CK.V:CK→Type
 |.int _=>Int
 |.bool=>Bool
 |.str=>ByteArray
 |.ints _=>List Int
 |.strs=>List ByteArray
 |.bD=>List Bool
 |.rows cs=>List (CL cs)
 |.arr _ _=>List Int
def CL:List CK→Type
 |[]=>Unit
 |c::cs=>c.V×CL cs
end
def CK.d:(c:CK)→c.V
 |.int _=>(0:Int)
 |.bool=>false
 |.str=>ByteArray.empty
 |.ints _=>([]:List Int)
 |.strs=>([]:List ByteArray)
 |.bD=>([]:List Bool)
 |.rows cs=>([]:List (CL cs))
 |.arr _ n=>List.replicate n (0:Int)
def CL.d:(cs:List CK)→CL cs
 |[]=>()
 |c::cs=>(c.d,CL.d cs)
def CK.wide:CK→Nat
 |.arr _ n=>n
 |_=>1
def CL.wide:List CK→Nat
 |[]=>0
 |c::cs=>c.wide+CL.wide cs
def kEq(a b:IntKind):Option (PLift (a=b)):=if h:a=b then some ⟨h⟩else none
mutual
def CK.eq:(a b:CK)→Option (PLift (a=b))
 |.int k,.int k'=>(kEq k k').map fun h=>⟨congrArg CK.int h.down⟩
 |.bool,.bool=>some ⟨rfl⟩
 |.str,.str=>some ⟨rfl⟩
 |.ints k,.ints k'=>(kEq k k').map fun h=>⟨congrArg CK.ints h.down⟩
 |.strs,.strs=>some ⟨rfl⟩
 |.bD,.bD=>some ⟨rfl⟩
 |.rows a,.rows b=>(CL.eq a b).map fun h=>⟨congrArg CK.rows h.down⟩
 |.arr k n,.arr k' n'=>if h:n=n' then(kEq k k').map fun h'=>⟨by rw[h,h'.down]⟩else none
 |_,_=>none
def CL.eq:(a b:List CK)→Option (PLift (a=b))
 |[],[]=>some ⟨rfl⟩
 |a::aA,b::bs=>match CK.eq a b,CL.eq aA bs with
  |some h,some h'=>some ⟨by rw[h.down,h'.down]⟩
  |_,_=>none
 |_,_=>none
end
def aan{a b:List CK}(h:PLift (a=b))(xs:List (CL a)):List (CL b):=h.down▸xs
def fJ{V:Type}(m:List (Int×V))(k:Int):Option V:=(m.find? fun p=>p.1==k).map (·.2)
def oQ{V:Type}(m:List (Int×V))(k:Int):Bool:=m.any fun p=>p.1==k
def mr{V:Type}(m:List (Int×V))(k:Int)(v:V):List (Int×V):=if oQ m k=true then m.map fun p=>if p.1==k then(k,v)else p else m++[(k,v)]
theorem xe{a:List CK}(h:PLift (a=a))(xs:List (CL a)):aan h xs=xs:=rfl
end Go.Sx
namespace Go.Sx
open Go
mutual
inductive SV where
 |aQ
 |bool (b:Bool)
 |aI (b:Bool)
 |kf (n:Nat) (eq:Bool)
 |oe (k:IntKind)
 |int (k:IntKind) (n:Int)
 |aZ (k:IntKind) (n:Int)
 |str (s:ByteArray)
 |oR
 |acz
 |acA
 |acB
 |oS
 |kV (f:FuncId)
 |ifi (t:TypeId) (k:IntKind) (n:Int)
 |ifs (t:TypeId) (s:ByteArray)
 |ifb (t:TypeId) (b:Bool)
 |raw (v:Value) (zs:List Int)
 |ro (c:aF)
 |yz (c:aF) (k:Nat)
 |mi (k:Nat)
 |ov (k:Nat)
inductive aF where
 |ints (k:IntKind) (zs:List Int)
 |strs (ss:List ByteArray)
 |bD (bs:List Bool)
 |ae (cs:List CK) (xs:List (CL cs))
 |ef (size n:Nat) (get:Nat→Nat→SV)
end
def aF.n:aF→Nat
 |.ints _ zs=>zs.length
 |.strs ss=>ss.length
 |.bD bs=>bs.length
 |.ae _ xs=>xs.length
 |.ef _ n _=>n
def aF.size:aF→Nat
 |.ints .. |.strs _|.bD _=>1
 |.ae cs _=>CL.wide cs
 |.ef s _ _=>s
def CK.cell:(c:CK)→c.V→Nat→SV
 |.int k,x,_=>.int k x
 |.bool,x,_=>.bool x
 |.str,x,_=>.str x
 |.ints k,x,_=>.ro (.ints k x)
 |.strs,x,_=>.ro (.strs x)
 |.bD,x,_=>.ro (.bD x)
 |.rows cs,x,_=>.ro (.ae cs x)
 |.arr k _,x,j=>.int k (List.getD (α:=Int) x j 0)
def CL.cell:(cs:List CK)→CL cs→Nat→SV
 |[],_,_=>.aQ
 |c::cs,x,j=>bif j.blt c.wide then c.cell x.1 j else CL.cell cs x.2 (j - c.wide)
def aF.cell:aF→Nat→Nat→SV
 |.ints k zs,i,_=>.int k (zs.getD i 0)
 |.strs ss,i,_=>.str (ss.getD i ByteArray.empty)
 |.bD bs,i,_=>.bool (bs.getD i false)
 |.ae cs xs,i,j=>CL.cell cs (xs.getD i (CL.d cs)) j
 |.ef _ _ get,i,j=>get i j
inductive AV where
 |s (v:SV)
 |ptr (id off:Nat)
 |jM (id off n i:Nat)
 |jt (c:aF) (i j:Nat)
 |vec (id:Nat)
 |ga (id i j:Nat)
 |part (id lo n:Nat)
 |sub (id off n:Nat)
 |kg (id i j n:Nat)
 |emp
 |agg (ak:List AV)
 |ints (k:IntKind) (n:Nat) (ws:List Int)
 |bm (vs:List AV)
 |fn (f:FuncId) (ej:List AV)
 |ag (id:Nat)
 |tag (id:Nat)
inductive ad where
 |own (ak:List AV) (elem:TypeId)
 |vec (c:aF) (elem:TypeId)
 |map (ck:CK) (m:List (Int×ck.V))
 |wA (ck:CK) (m:List (Int×ck.V)) (gid:Nat)
 |iter (mid gid:Nat) (ck:CK) (left:List (Int×ck.V)) (cur:Option (Int×ck.V))
 |dead
abbrev aG:=Nat→Option ad
def ad.alive:ad→Bool
 |.dead=>false
 |_=>true
def eh:Value→Option Nat
 |.pointer (some a)=>some a.block
 |.slice (some a) _ cap=>if cap=0 then none else some a.block
 |.map (some b)=>some b
 |_=>none
def Own(ρ:Nat→Value)(H:aG)(b:Nat):Prop:=∃id o,H id=some o∧o.alive=true∧eh (ρ id)=some b
def aK(ρ:Nat→Value)(H:aG)(G:Nat→Prop)(b:Nat):Prop:=Own ρ H b∨G b
inductive aJ (O:Nat→Prop) (w:World):SV→Value→Prop
 |aQ (v:Value):v.oneCell'=true→aJ O w .aQ v
 |bool (b:Bool):aJ O w (.bool b) (.bool b)
 |aI (b:Bool):aJ O w (.aI b) (.bool b)
 |kf (n:Nat) (eq b:Bool):(b=eq→n=0)→aJ O w (.kf n eq) (.bool b)
 |oe (k:IntKind) (n:Int):aJ O w (.oe k) (.int k n)
 |int (k:IntKind) (n:Int):aJ O w (.int k n) (.int k n)
 |aZ (k:IntKind) (n:Int):aJ O w (.aZ k n) (.int k n)
 |str (s:ByteArray):aJ O w (.str s) (.string s)
 |oR:aJ O w .oR (.pointer none)
 |acz:aJ O w .acz .nilIface
 |acA:aJ O w .acA .nilFunc
 |acB:aJ O w .acB (.map none)
 |oS:aJ O w .oS (.slice none 0 0)
 |kV (f:FuncId):aJ O w (.kV f) (.func (.func f) #[] #[])
 |ifi (t:TypeId) (k:IntKind) (n:Int):aJ O w (.ifi t k n) (.iface t (.int k n))
 |ifs (t:TypeId) (s:ByteArray):aJ O w (.ifs t s) (.iface t (.string s))
 |ifb (t:TypeId) (b:Bool):aJ O w (.ifb t b) (.iface t (.bool b))
 |raw (v:Value) (zs:List Int):v.oneCell'=true→aJ O w (.raw v zs) v
 |ro (c:aF) (a:Option Addr) (cap:Nat) (us:Nat→Nat→Value) (b o:Nat):c.n≤cap→cap≤maxLen→
  (0<c.n→a=some ⟨b,o,none⟩∧¬O b∧b<w.heap.size)→
  (∀i j,i<c.n→j<c.size→w.cell? ⟨b,o+i*c.size+j,none⟩=some (us i j))→
  (∀i j,i<c.n→j<c.size→aJ O w (c.cell i j) (us i j))→aJ O w (.ro c) (.slice a c.n cap)
 |yz (c:aF) (k:Nat) (a:Option Addr) (n cap:Nat):aJ O w (.ro c) (.slice a n cap)→cap<k→aJ O w (.yz c k) (.slice a n cap)
 |mi (k:Nat) (n:Int):(k:Int)≤n→aJ O w (.mi k) (.int .i64 n)
 |ov (k:Nat) (n:Int):n<(k:Int)→aJ O w (.ov k) (.int .i64 n)
mutual
def ay(ρ:Nat→Value)(H:aG)(O:Nat→Prop)(w:World):AV→Value→Prop
 |.s x,v=>aJ O w x v
 |.ptr id off,v=>∃b,ρ id=.pointer (some ⟨b,0,none⟩)∧v=.pointer (some ⟨b,off,none⟩)∧(H id).isSome=true
 |.jM id off n i,v=>i<n∧∃b,ρ id=.pointer (some ⟨b,0,none⟩)∧v=.pointer (some ⟨b,off+i,none⟩)∧(H id).isSome=true
 |.jt c i j,v=>∃(b o:Nat) (us:Nat→Value),v=.pointer (some ⟨b,o+j,none⟩)∧¬O b∧b<w.heap.size∧
  (∀l,l<c.size→w.cell? ⟨b,o+l,none⟩=some (us l)∧aJ O w (c.cell i l) (us l))
 |.vec id,v=>v.oneCell'=true∧∃o,H id=some o∧∀c e,o=.vec c e→v=ρ id
 |.ga id i j,v=>v.oneCell'=true∧∃o,H id=some o∧∀c e,o=.vec c e→i<c.n∧j<c.size∧
  ∃b f n cap,ρ id=.slice (some ⟨b,f,none⟩) n cap∧v=.pointer (some ⟨b,f+i*c.size+j,none⟩)
 |.part id lo n,v=>v.oneCell'=true∧∃o,H id=some o∧∀c e,o=.vec c e→lo+n≤c.n∧
  ∃a cap a',ρ id=.slice a c.n cap∧c.n≤cap∧v=.slice a' n (cap - lo)∧(cap≠lo→a'=a.map (·.add (lo*c.size)))
 |.sub id off n,v=>v.oneCell'=true∧∃b a cap,ρ id=.pointer (some ⟨b,0,none⟩)∧v=.slice a n cap∧(n≠0→a=some ⟨b,off,none⟩)∧(H id).isSome=true
 |.kg id i j n,v=>v.oneCell'=true∧∃o,H id=some o∧∀c e,o=.vec c e→i<c.n∧j+n≤c.size∧
  ∃b f n' cap a af2,ρ id=.slice (some ⟨b,f,none⟩) n' cap∧v=.slice a n af2∧(n≠0→a=some ⟨b,f+i*c.size+j,none⟩)
 |.emp,v=>∃a,v=.slice a 0 0
 |.fn f ej,v=>∃vs:List Value,v=.func (.func f) #[] vs.toArray∧bz ρ H O w ej vs
 |.agg _,_=>False
 |.ints _ _ _,_=>False
 |.bm _,_=>False
 |.ag id,v=>∃b,ρ id=.map (some b)∧v=.map (some b)∧(H id).isSome=true
 |.tag id,v=>v=ρ id∧v.oneCell'=true∧(H id).isSome=true
def bz(ρ:Nat→Value)(H:aG)(O:Nat→Prop)(w:World):List AV→List Value→Prop
 |[],vs=>vs=[]
 |a::aA,vs=>∃v rest,vs=v::rest∧ab ρ H O w a v∧bz ρ H O w aA rest
def an(ρ:Nat→Value)(H:aG)(O:Nat→Prop)(w:World):List AV→List Value→Prop
 |[],cs=>cs=[]
 |a::aA,cs=>∃c1 c2,cs=c1++c2∧aC ρ H O w a c1∧an ρ H O w aA c2
def aC(ρ:Nat→Value)(H:aG)(O:Nat→Prop)(w:World):AV→List Value→Prop
 |.agg _,_=>False
 |.ints k n ws,cs=>ws.length=n∧cs=ws.map (Value.int k)
 |.s x,cs=>∃u,cs=[u]∧aJ O w x u
 |.ptr id off,cs=>∃u,cs=[u]∧ay ρ H O w (.ptr id off) u
 |.jM id off n i,cs=>∃u,cs=[u]∧ay ρ H O w (.jM id off n i) u
 |.jt c i j,cs=>∃u,cs=[u]∧ay ρ H O w (.jt c i j) u
 |.vec id,cs=>∃u,cs=[u]∧ay ρ H O w (.vec id) u
 |.ga id i j,cs=>∃u,cs=[u]∧ay ρ H O w (.ga id i j) u
 |.part id lo n,cs=>∃u,cs=[u]∧ay ρ H O w (.part id lo n) u
 |.sub id off n,cs=>∃u,cs=[u]∧ay ρ H O w (.sub id off n) u
 |.kg id i j n,cs=>∃u,cs=[u]∧ay ρ H O w (.kg id i j n) u
 |.emp,cs=>∃u,cs=[u]∧∃a,u=.slice a 0 0
 |.fn f ej,cs=>∃u,cs=[u]∧∃vs:List Value,u=.func (.func f) #[] vs.toArray∧bz ρ H O w ej vs
 |.bm _,_=>False
 |.ag id,cs=>∃u,cs=[u]∧ay ρ H O w (.ag id) u
 |.tag id,cs=>∃u,cs=[u]∧ay ρ H O w (.tag id) u
def ab(ρ:Nat→Value)(H:aG)(O:Nat→Prop)(w:World):AV→Value→Prop
 |.agg ak,v=>∃cs:List Value,v=.agg cs.toArray∧an ρ H O w ak cs
 |.ints k n ws,v=>ws.length=n∧v=.agg (ws.map (Value.int k)).toArray
 |.bm vs,v=>∃us:List Value,v=.tuple us.toArray∧bz ρ H O w vs us
 |.s .aQ,_=>True
 |.s x,v=>aJ O w x v
 |.ptr id off,v=>ay ρ H O w (.ptr id off) v
 |.jM id off n i,v=>ay ρ H O w (.jM id off n i) v
 |.jt c m j,v=>ay ρ H O w (.jt c m j) v
 |.vec id,v=>ay ρ H O w (.vec id) v
 |.ga id i j,v=>ay ρ H O w (.ga id i j) v
 |.part id lo n,v=>ay ρ H O w (.part id lo n) v
 |.sub id off n,v=>ay ρ H O w (.sub id off n) v
 |.kg id i j n,v=>ay ρ H O w (.kg id i j n) v
 |.emp,v=>∃a,v=.slice a 0 0
 |.fn f ej,v=>∃vs:List Value,v=.func (.func f) #[] vs.toArray∧bz ρ H O w ej vs
 |.ag id,v=>ay ρ H O w (.ag id) v
 |.tag id,v=>ay ρ H O w (.tag id) v
end
theorem aJ.one{O:Nat→Prop}{w:World}{x:SV}{v:Value}(h:aJ O w x v):v.oneCell'=true:=by
 cases h<;>first|rfl|assumption
structure Step (ρ:Nat→Value) (H:aG) (O:Nat→Prop) (w:World) (az:Nat→Value) (H':aG) (O':Nat→Prop) (w':World):Prop where
 xf:∀id o,H id=some o→az id=ρ id
 eU:∀id o,H id=some o→∃o',H' id=some o'∧∀c' e',o'=.vec c' e'→∃c e,o=.vec c e∧c'.n=c.n∧c'.size=c.size
 fK:∀b,O' b→O b∨w.heap.size≤b
 heap:∀b,b<w.heap.size→¬O b→w'.heap[b]? =w.heap[b]?
 size:w.heap.size≤w'.heap.size
theorem Step.refl(ρ:Nat→Value)(H:aG)(O:Nat→Prop)(w:World):Step ρ H O w ρ H O w:=
 ⟨fun _ _ _=>rfl,fun _ o h=>⟨o,h,fun c' e' e=>⟨c',e',e,rfl,rfl⟩⟩,fun _ h=>.inl h,fun _ _ _=>rfl,Nat.le_refl _⟩
theorem lV{w w':World}{b o:Nat}(h:w'.heap[b]? =w.heap[b]?):w'.cell? ⟨b,o,none⟩=w.cell? ⟨b,o,none⟩:=by
 simp[World.cell?,h]
section
variable{ρ az:Nat→Value}{H H':aG}{O O':Nat→Prop}{w w':World}
theorem Step.trans{arl:Nat→Value}{H'':aG}{O'':Nat→Prop}{w'':World}(h:Step ρ H O w az H' O' w')(k:Step az H' O' w' arl H'' O'' w'')
 :Step ρ H O w arl H'' O'' w'':=by
 refine⟨fun id o ho=> ?_,fun id o ho=> ?_,fun b hb=> ?_,fun b hb hO=> ?_,Nat.le_trans h.size k.size⟩
 ·obtain⟨o',dd,_⟩:=h.eU id o ho
  rw[k.xf id o' dd,h.xf id o ho]
 ·obtain⟨o',dd,q⟩:=h.eU id o ho
  obtain⟨o'',aua,q'⟩:=k.eU id o' dd
  refine⟨o'',aua,fun c e hc=> ?_⟩
  obtain⟨c1,e1,h1,n1,s1⟩:=q' c e hc
  obtain⟨c2,e2,h2,n2,s2⟩:=q c1 e1 h1
  exact⟨c2,e2,h2,n1.trans n2,s1.trans s2⟩
 ·rcases k.fK b hb with h1|h1
  ·exact h.fK b h1
  ·exact .inr (Nat.le_trans h.size h1)
 ·have aub:¬O' b:=fun h1=>by rcases h.fK b h1 with h2|h2<;>first|exact hO h2|omega
  rw[k.heap b (by have:=h.size;omega) aub,h.heap b hb hO]
theorem aJ.step(fK:∀b,O' b→O b∨w.heap.size≤b)(heap:∀b,b<w.heap.size→¬O b→w'.heap[b]? =w.heap[b]?)
 (size:w.heap.size≤w'.heap.size) {x:SV} {v:Value} (h:aJ O w x v):aJ O' w' x v:=by
 induction h with
 |aQ v hv=>exact .aQ v hv
 |bool b=>exact .bool b
 |aI b=>exact .aI b
 |kf n eq b hb=>exact .kf n eq b hb
 |oe k n=>exact .oe k n
 |int k n=>exact .int k n
 |aZ k n=>exact .aZ k n
 |str s=>exact .str s
 |oR=>exact .oR
 |acz=>exact .acz
 |acA=>exact .acA
 |acB=>exact .acB
 |oS=>exact .oS
 |kV f=>exact .kV f
 |ifi t k n=>exact .ifi t k n
 |ifs t s=>exact .ifs t s
 |ifb t b=>exact .ifb t b
 |raw v zs h=>exact .raw v zs h
 |yz c k a n cap _ hk ih=>exact .yz c k a n cap ih hk
 |mi k n h=>exact .mi k n h
 |ov k n h=>exact .ov k n h
 |ro c a cap us b o hn hm hb hc _ ih=>
  refine .ro c a cap us b o hn hm (fun h0=> ?_) (fun i j hi hj=> ?_) ih
  ·obtain⟨e,h1,h2⟩:=hb h0
   exact⟨e,fun h3=>by rcases fK b h3 with h4|h4<;>first|exact h1 h4|omega,by omega⟩
  ·obtain⟨_,h1,h2⟩:=hb (by omega)
   rw[lV (heap b h2 h1)]
   exact hc i j hi hj
mutual
theorem ay.step(st:Step ρ H O w az H' O' w'):∀(x:AV) (v:Value),ay ρ H O w x v→ay az H' O' w' x v
 |.s x,v,h=>by unfold ay at *;exact h.step st.fK st.heap st.size
 |.ptr id off,v,h=>by
  unfold ay at *
  obtain⟨b,h1,h2,h3⟩:=h
  obtain⟨o,ho⟩:=Option.isSome_iff_exists.1 h3
  obtain⟨o',dd,_⟩:=st.eU id o ho
  exact⟨b,by rw[st.xf id o ho,h1],h2,by rw[dd];rfl⟩
 |.jM id off n i,v,h=>by
  unfold ay at *
  obtain⟨hi,b,h1,h2,h3⟩:=h
  obtain⟨o,ho⟩:=Option.isSome_iff_exists.1 h3
  obtain⟨o',dd,_⟩:=st.eU id o ho
  exact⟨hi,b,by rw[st.xf id o ho,h1],h2,by rw[dd];rfl⟩
 |.jt c m j,v,h=>by
  unfold ay at *
  obtain⟨b,o,us,h1,h2,h3,h4⟩:=h
  refine⟨b,o,us,h1,fun h5=> ?_,by have:=st.size;omega,fun i hi=> ?_⟩
  ·rcases st.fK b h5 with h6|h6<;>first|exact h2 h6|omega
  ·obtain⟨h5,h6⟩:=h4 i hi
   exact⟨by rw[lV (st.heap b h3 h2)];exact h5,h6.step st.fK st.heap st.size⟩
 |.vec id,v,h=>by
  unfold ay at *
  obtain⟨h0,o,ho,h1⟩:=h
  obtain⟨o',dd,h2⟩:=st.eU id o ho
  refine⟨h0,o',dd,fun c e hc=> ?_⟩
  obtain⟨c1,e1,h3,_,_⟩:=h2 c e hc
  rw[st.xf id o ho]
  exact h1 c1 e1 h3
 |.ga id i j,v,h=>by
  unfold ay at *
  obtain⟨h0,o,ho,h1⟩:=h
  obtain⟨o',dd,h2⟩:=st.eU id o ho
  refine⟨h0,o',dd,fun c e hc=> ?_⟩
  obtain⟨c1,e1,h3,hn,hs⟩:=h2 c e hc
  rw[st.xf id o ho,hn,hs]
  exact h1 c1 e1 h3
 |.part id lo n,v,h=>by
  unfold ay at *
  obtain⟨h0,o,ho,h1⟩:=h
  obtain⟨o',dd,h2⟩:=st.eU id o ho
  refine⟨h0,o',dd,fun c e hc=> ?_⟩
  obtain⟨c1,e1,h3,hn,hs⟩:=h2 c e hc
  rw[st.xf id o ho,hn,hs]
  exact h1 c1 e1 h3
 |.sub id off n,v,h=>by
  unfold ay at *
  obtain⟨h0,b,a,cap,h1,h2,h4,h3⟩:=h
  obtain⟨o,ho⟩:=Option.isSome_iff_exists.1 h3
  obtain⟨o',dd,_⟩:=st.eU id o ho
  exact⟨h0,b,a,cap,by rw[st.xf id o ho,h1],h2,h4,by rw[dd];rfl⟩
 |.kg id i j n,v,h=>by
  unfold ay at *
  obtain⟨h0,o,ho,h1⟩:=h
  obtain⟨o',dd,h2⟩:=st.eU id o ho
  refine⟨h0,o',dd,fun c e hc=> ?_⟩
  obtain⟨c1,e1,h3,hn,hs⟩:=h2 c e hc
  rw[st.xf id o ho,hn,hs]
  exact h1 c1 e1 h3
 |.emp,v,h=>by unfold ay at *;exact h
 |.fn f ej,v,h=>by
  unfold ay at *
  obtain⟨vs,h1,h2⟩:=h
  exact⟨vs,h1,bz.step st ej vs h2⟩
 |.agg _,v,h=>by unfold ay at h;exact h.elim
 |.ints _ _ _,v,h=>by unfold ay at h;exact h.elim
 |.bm _,v,h=>by unfold ay at h;exact h.elim
 |.ag id,v,h=>by
  unfold ay at *
  obtain⟨b,h1,h2,h3⟩:=h
  obtain⟨o,ho⟩:=Option.isSome_iff_exists.1 h3
  obtain⟨o',dd,_⟩:=st.eU id o ho
  exact⟨b,by rw[st.xf id o ho,h1],h2,by rw[dd];rfl⟩
 |.tag id,v,h=>by
  unfold ay at *
  obtain⟨h1,h2,h3⟩:=h
  obtain⟨o,ho⟩:=Option.isSome_iff_exists.1 h3
  obtain⟨o',dd,_⟩:=st.eU id o ho
  exact⟨by rw[st.xf id o ho,h1],h2,by rw[dd];rfl⟩
theorem bz.step(st:Step ρ H O w az H' O' w'):∀(xs:List AV) (vs:List Value),bz ρ H O w xs vs→bz az H' O' w' xs vs
 |[],vs,h=>by unfold bz at *;exact h
 |a::aA,vs,h=>by
  unfold bz at *
  obtain⟨v,rest,h1,h2,h3⟩:=h
  exact⟨v,rest,h1,ab.step st a v h2,bz.step st aA rest h3⟩
theorem an.step(st:Step ρ H O w az H' O' w'):∀(xs:List AV) (cs:List Value),an ρ H O w xs cs→an az H' O' w' xs cs
 |[],vs,h=>by unfold an at *;exact h
 |a::aA,vs,h=>by
  unfold an at *
  obtain⟨c1,c2,h1,h2,h3⟩:=h
  exact⟨c1,c2,h1,aC.step st a c1 h2,an.step st aA c2 h3⟩
theorem aC.step(st:Step ρ H O w az H' O' w'):∀(x:AV) (cs:List Value),aC ρ H O w x cs→aC az H' O' w' x cs
 |.agg _,cs,h=>by unfold aC at h;exact h.elim
 |.ints _ _ _,cs,h=>by unfold aC at *;exact h
 |.s x,cs,h=>by unfold aC at *;obtain⟨u,h1,h2⟩:=h;exact⟨u,h1,h2.step st.fK st.heap st.size⟩
 |.ptr id off,cs,h=>by unfold aC at *;obtain⟨u,h1,h2⟩:=h;exact⟨u,h1,ay.step st (.ptr id off) u h2⟩
 |.jM id off n i,cs,h=>by unfold aC at *;obtain⟨u,h1,h2⟩:=h;exact⟨u,h1,ay.step st (.jM id off n i) u h2⟩
 |.jt c m j,cs,h=>by unfold aC at *;obtain⟨u,h1,h2⟩:=h;exact⟨u,h1,ay.step st (.jt c m j) u h2⟩
 |.vec id,cs,h=>by unfold aC at *;obtain⟨u,h1,h2⟩:=h;exact⟨u,h1,ay.step st (.vec id) u h2⟩
 |.ga id i j,cs,h=>by unfold aC at *;obtain⟨u,h1,h2⟩:=h;exact⟨u,h1,ay.step st (.ga id i j) u h2⟩
 |.part id lo n,cs,h=>by unfold aC at *;obtain⟨u,h1,h2⟩:=h;exact⟨u,h1,ay.step st (.part id lo n) u h2⟩
 |.sub id off n,cs,h=>by unfold aC at *;obtain⟨u,h1,h2⟩:=h;exact⟨u,h1,ay.step st (.sub id off n) u h2⟩
 |.kg id i j n,cs,h=>by unfold aC at *;obtain⟨u,h1,h2⟩:=h;exact⟨u,h1,ay.step st (.kg id i j n) u h2⟩
 |.emp,cs,h=>by unfold aC at *;exact h
 |.fn f ej,cs,h=>by
  unfold aC at *
  obtain⟨u,h1,vs,h2,h3⟩:=h
  exact⟨u,h1,vs,h2,bz.step st ej vs h3⟩
 |.bm _,cs,h=>by unfold aC at h;exact h.elim
 |.ag id,cs,h=>by unfold aC at *;obtain⟨u,h1,h2⟩:=h;exact⟨u,h1,ay.step st (.ag id) u h2⟩
 |.tag id,cs,h=>by unfold aC at *;obtain⟨u,h1,h2⟩:=h;exact⟨u,h1,ay.step st (.tag id) u h2⟩
theorem ab.step(st:Step ρ H O w az H' O' w'):∀(x:AV) (v:Value),ab ρ H O w x v→ab az H' O' w' x v
 |.agg ak,v,h=>by unfold ab at *;obtain⟨cs,h1,h2⟩:=h;exact⟨cs,h1,an.step st ak cs h2⟩
 |.ints _ _ _,v,h=>by unfold ab at *;exact h
 |.bm vs,v,h=>by unfold ab at *;obtain⟨us,h1,h2⟩:=h;exact⟨us,h1,bz.step st vs us h2⟩
 |.s .aQ,v,h=>by unfold ab;trivial
 |.s (.bool b),v,h=>by unfold ab at *;exact h.step st.fK st.heap st.size
 |.s (.aI b),v,h=>by unfold ab at *;exact h.step st.fK st.heap st.size
 |.s (.kf _ _),v,h=>by unfold ab at *;exact h.step st.fK st.heap st.size
 |.s (.oe k),v,h=>by unfold ab at *;exact h.step st.fK st.heap st.size
 |.s (.int k n),v,h=>by unfold ab at *;exact h.step st.fK st.heap st.size
 |.s (.aZ k n),v,h=>by unfold ab at *;exact h.step st.fK st.heap st.size
 |.s (.str b),v,h=>by unfold ab at *;exact h.step st.fK st.heap st.size
 |.s .oR,v,h=>by unfold ab at *;exact h.step st.fK st.heap st.size
 |.s .acz,v,h=>by unfold ab at *;exact h.step st.fK st.heap st.size
 |.s .acA,v,h=>by unfold ab at *;exact h.step st.fK st.heap st.size
 |.s .acB,v,h=>by unfold ab at *;exact h.step st.fK st.heap st.size
 |.s .oS,v,h=>by unfold ab at *;exact h.step st.fK st.heap st.size
 |.s (.kV b),v,h=>by unfold ab at *;exact h.step st.fK st.heap st.size
 |.s (.ifi _ _ _),v,h=>by unfold ab at *;exact h.step st.fK st.heap st.size
 |.s (.ifs _ _),v,h=>by unfold ab at *;exact h.step st.fK st.heap st.size
 |.s (.ifb _ _),v,h=>by unfold ab at *;exact h.step st.fK st.heap st.size
 |.s (.raw _ _),v,h=>by unfold ab at *;exact h.step st.fK st.heap st.size
 |.s (.ro b),v,h=>by unfold ab at *;exact h.step st.fK st.heap st.size
 |.s (.yz _ _),v,h=>by unfold ab at *;exact h.step st.fK st.heap st.size
 |.s (.mi _),v,h=>by unfold ab at *;exact h.step st.fK st.heap st.size
 |.s (.ov _),v,h=>by unfold ab at *;exact h.step st.fK st.heap st.size
 |.ptr id off,v,h=>by unfold ab at *;exact ay.step st (.ptr id off) v h
 |.jM id off n i,v,h=>by unfold ab at *;exact ay.step st (.jM id off n i) v h
 |.jt c m j,v,h=>by unfold ab at *;exact ay.step st (.jt c m j) v h
 |.vec id,v,h=>by unfold ab at *;exact ay.step st (.vec id) v h
 |.ga id i j,v,h=>by unfold ab at *;exact ay.step st (.ga id i j) v h
 |.part id lo n,v,h=>by unfold ab at *;exact ay.step st (.part id lo n) v h
 |.sub id off n,v,h=>by unfold ab at *;exact ay.step st (.sub id off n) v h
 |.kg id i j n,v,h=>by unfold ab at *;exact ay.step st (.kg id i j n) v h
 |.emp,v,h=>by unfold ab at *;exact h
 |.fn f ej,v,h=>by
  unfold ab at *
  obtain⟨vs,h2,h3⟩:=h
  exact⟨vs,h2,bz.step st ej vs h3⟩
 |.ag id,v,h=>by unfold ab at *;exact ay.step st (.ag id) v h
 |.tag id,v,h=>by unfold ab at *;exact ay.step st (.tag id) v h
end
end
end Go.Sx
namespace Go.Sx
open Go
inductive RM (α:Type)where
 |ret (a:α)
 |look (id:Nat) (k:Option ad→RM α)
 |fail (why:String)
def RM.eval{α:Type}(H:aG):RM α→Option α
 |.ret a=>some a
 |.look id k=>(k (H id)).eval H
 |.fail _=>none
def RM.ids{α:Type}(H:aG):RM α→List Nat
 |.ret _=>[]
 |.look id k=>id::(k (H id)).ids H
 |.fail _=>[]
def RM.why{α:Type}(H:aG):RM α→String
 |.ret _=> ""
 |.look _ k=>(k (H id)).why H
 |.fail w=>w
where id:Nat:=0
structure bx where
 need:List Prop
 up:List (Nat×ad)
 new:List ad
 r:Nat→AV
def plain(need:List Prop)(r:AV):RM bx:=.ret ⟨need,[],[],fun _=>r⟩
def oT(why:String):Option (List Prop×AV)→RM bx
 |some (need,r)=>plain need r
 |none=>.fail why
def aD(n:Int):Prop:= -9223372036854775808≤n∧n≤9223372036854775807
def bF:IntKind→IntKind→Bool
 |.i8,.i8|.i16,.i16|.i32,.i32|.i64,.i64|.u8,.u8|.u16,.u16|.u32,.u32|.u64,.u64=>true
 |_,_=>false
def ow:IntKind→Bool
 |.i64=>true
 |_=>false
def bB(op:BinOp)(k:IntKind)(x y:Int):Int:=
 let a:=BitVec.ofInt k.bits x
 let b:=BitVec.ofInt k.bits y
 match op with
 |.and=>k.wrap (a &&& b).toNat
 |.or=>k.wrap (a ||| b).toNat
 |.xor=>k.wrap (a ^^^ b).toNat
 |_=>k.wrap (a &&& ~~~b).toNat
def mkInt(lit:Bool)(k:IntKind)(n:Int):AV:=.s (if lit then .aZ k n else .int k n)
def kK(lit:Bool)(b:Bool):AV:=.s (if lit then .aI b else .bool b)
def mE(lit:Bool)(k:IntKind)(n:Int):List Prop×AV:=
 bif lit then([],.s (.aZ k (k.wrap n)))
 else bif ow k then([aD n],.s (.int k n))else([],.s (.int k (k.wrap n)))
def tK(op:BinOp)(k:IntKind)(lx ly:Bool)(x y:Int):Option (List Prop×AV):=
 let lit:=lx&&ly
 match op with
 |.add=>some (mE lit k (x+y))
 |.sub=>some (mE lit k (x - y))
 |.mul=>some (mE lit k (x*y))
 |.quo=>some (bif lit then([y≠0],.s (.aZ k (k.wrap (x.tdiv y))))else bif ow k then([y≠0,aD (x.tdiv y)],.s (.int k (x.tdiv y)))else([y≠0],.s (.int k (k.wrap (x.tdiv y)))))
 |.rem=>some ([y≠0],mkInt lit k (x.tmod y))
 |.and|.or|.xor|.andNot=>some ([],mkInt lit k (bB op k x y))
 |.eql=>some ([],kK lit (x==y))
 |.neq=>some ([],kK lit (x !=y))
 |.lss=>some ([],kK lit (decide (x<y)))
 |.leq=>some ([],kK lit (decide (x≤y)))
 |.gtr=>some ([],kK lit (decide (x>y)))
 |.geq=>some ([],kK lit (decide (x≥y)))
 |_=>none
def acC(op:BinOp)(k:IntKind)(lit:Bool)(x y:Int):Option (List Prop×AV):=
 match op with
 |.shl=>some ([0≤y],mkInt lit k (k.wrap (x*2^(min y.toNat k.bits))))
 |.shr=>some ([0≤y],mkInt lit k (x.fdiv (2^(min y.toNat k.bits))))
 |_=>none
def slt(x y:ByteArray):Bool:=Op.bytesLess x.data.toList y.data.toList
def acD(op:BinOp)(x y:ByteArray):Option (List Prop×AV):=
 match op with
 |.add=>some ([x.size+y.size≤4611686018427387904],.s (.str (x++y)))
 |.eql=>some ([],.s (.bool (decide (x=y))))
 |.neq=>some ([],.s (.bool (!decide (x=y))))
 |.lss=>some ([],.s (.bool (slt x y)))
 |.leq=>some ([],.s (.bool (slt x y||decide (x=y))))
 |.gtr=>some ([],.s (.bool !(slt x y||decide (x=y))))
 |.geq=>some ([],.s (.bool !(slt x y)))
 |_=>none
def AV.dc :AV→Option (IntKind×Bool×Int)
 |.s (.int k n)=>some (k,false,n)
 |.s (.aZ k n)=>some (k,true,n)
 |_=>none
def AV.iY :AV→Option (Bool×Bool)
 |.s (.bool b)=>some (false,b)
 |.s (.aI b)=>some (true,b)
 |_=>none
def unR(op:UnOp)(x:AV):Option (List Prop×AV):=
 match op,x with
 |.not,.s (.bool b)=>some ([],.s (.bool !b))
 |.not,.s (.aI b)=>some ([],.s (.aI !b))
 |.neg,.s (.int k n)=>some (mE false k (0 - n))
 |.neg,.s (.aZ k n)=>some (mE true k (0 - n))
 |_,_=>none
def ahy(c a b:AV):Option (List Prop×AV):=
 match c with
 |.s (.aI true)=>some ([],a)
 |.s (.aI false)=>some ([],b)
 |.s (.bool c)=>
  match a.iY,b.iY with
  |some (_,x),some (_,y)=>some ([],.s (.bool (bif c then x else y)))
  |_,_=>
   match a.dc,b.dc with
   |some (k,_,x),some (k',_,y)=>bif bF k k' then some ([],.s (.int k (bif c then x else y)))else none
   |_,_=>none
 |_=>none
def dw(P:Program)(t:TypeId):Option Nat:=(P.info? t).map (·.size)
def gH(P:Program)(t:TypeId):Option Bool:=
 match P.underlying t with
 |some (.struct _)|some (.array _ _)=>some true
 |some _=>some false
 |none=>none
def kindOf(P:Program)(t:TypeId):Option IntKind:=
 match P.underlying t with
 |some (.int k)=>some k
 |_=>none
def AV.wide:AV→Nat
 |.ints _ n _=>n
 |_=>1
def fb:List AV→Nat→Option (List AV)
 |ak,0=>some ak
 |[],_+1=>none
 |a::aA,n+1=>bif a.wide.ble (n+1)then fb aA (n+1 - a.wide)else none
def fc:List AV→Nat→Option (List AV)
 |_,0=>some []
 |[],_+1=>none
 |a::aA,n+1=>bif a.wide.ble (n+1)&&(1:Nat).ble a.wide then(fc aA (n+1 - a.wide)).map (a:: ·)else none
def cellAt:List AV→Nat→Option AV
 |[],_=>none
 |.ints k n ws::aA,off=>bif off.blt n then some (.s (.int k (ws.getD off 0)))else cellAt aA (off - n)
 |a::_,0=>some a
 |_::aA,off+1=>cellAt aA off
def gl:List AV→Nat→AV→Option (List AV)
 |[],_,_=>none
 |.ints k n ws::aA,off,v=>bif off.blt n then
  (match v.dc with
   |some (k',_,x)=>bif bF k k' then some (.ints k n (ws.set off x)::aA)else none
   |none=>none)
  else(gl aA (off - n) v).map (.ints k n ws:: ·)
 |_::aA,0,v=>some (v::aA)
 |a::aA,off+1,v=>(gl aA off v).map (a:: ·)
def iZ:List AV→Nat→Option (IntKind×Nat×List Int)
 |.ints k n ws::aA,off=>bif off.beq 0 then some (k,n,ws)else bif off.blt n then none else iZ aA (off - n)
 |_::aA,off+1=>iZ aA off
 |_,_=>none
def jN:List AV→Nat→List Int→Option (List AV)
 |.ints k n ws::aA,off,mu=>bif off.beq 0 then some (.ints k n mu::aA)else bif off.blt n then none else(jN aA (off - n) mu).map (.ints k n ws:: ·)
 |a::aA,off+1,mu=>(jN aA off mu).map (a:: ·)
 |_,_,_=>none
def AV.single:AV→Bool
 |.s .aQ|.agg _|.ints _ _ _|.bm _=>false
 |_=>true
def AV.ji :AV→Option (List AV)
 |.agg ak=>some ak
 |.ints k n ws=>some [.ints k n ws]
 |.bm _|.s .aQ=>none
 |a=>some [a]
def AV.kL:List AV→AV
 |[.ints k n ws]=>.ints k n ws
 |ak=>.agg ak
def fH:List AV→Nat
 |[]=>0
 |a::aA=>a.wide+fH aA
def acE(ak:List AV)(off:Nat)(jj:List AV):Option (List AV):=
 match ak,jj with
 |[.ints k n ws],[x]=>match x.dc with
  |some (k',_,z)=>bif bF k k'&&off.blt n then some [.ints k n (ws.set off z)]else none
  |none=>none
 |_,_=>none
def tk(ak:List AV)(off:Nat)(jj:List AV):Option (List AV):=
 match acE ak off jj with
 |some r=>some r
 |none=>
 match fc ak off,fb ak (off+fH jj)with
 |some pre,some post=>some (pre++jj++post)
 |_,_=>none
def af3(P:Program)(rec:TypeId→List AV→List AV→Option Bool):List Field→List AV→List AV→Option Bool
 |[],_,_=>some true
 |f::fs,xs,ys=>bif f.name== "_" then af3 P rec fs xs ys else
  match dw P f.type,gH P f.type with
  |some sz,some wC=>bif wC||sz.beq 1 then(match(fb xs f.offset).bind (fc · sz),(fb ys f.offset).bind (fc · sz)with
   |some a,some b=>(match rec f.type a b,af3 P rec fs xs ys with
    |some p,some q=>some (p&&q)
    |_,_=>none)
   |_,_=>none)else none
  |_,_=>none
def eqC(P:Program):Nat→TypeId→List AV→List AV→Option Bool
 |0,_,_,_=>none
 |d+1,t,xs,ys=>
  match P.underlying t with
  |some (.int _)=>(match xs,ys with
   |[x],[y]=>(match x.dc,y.dc with
    |some (k,_,a),some (k',_,b)=>bif bF k k' then some (a==b)else none
    |_,_=>none)
   |_,_=>none)
  |some .bool=>(match xs,ys with
   |[x],[y]=>(match x.iY,y.iY with
    |some (_,a),some (_,b)=>some (a==b)
    |_,_=>none)
   |_,_=>none)
  |some .string=>(match xs,ys with
   |[.s (.str a)],[.s (.str b)]=>some (decide (a=b))
   |_,_=>none)
  |some (.array n e)=>(match xs,ys with
   |[.ints k m ws],[.ints k' m' mu]=>
    (match P.underlying e with
     |some (.int k'')=>bif (1:Nat).ble d&&bF k k'&&bF k k''&&n==m&&m==m'&&(P.info? e).any (fun i=>i.size==1)then some (decide (ws=mu))else none
     |_=>none)
   |_,_=>none)
  |some (.struct fs)=>bif P.stoodInHeld t then none else af3 P (eqC P d) fs.toList xs ys
  |_=>none
def ahz(P:Program)(t:TypeId):Bool:=match P.underlying t with|some (.int _)=>true|_=>false
def ahA(P:Program)(t:TypeId):Bool:=match P.underlying t with|some .string=>true|_=>false
def aee(P:Program)(t:TypeId):Bool:=match P.underlying t with|some .bool=>true|_=>false
def ahB(P:Program):AV→AV→Option Bool
 |.s (.ifi t k n),.s (.ifi t' k' n')=>bif t.beq t'&&bF k k'&&(P.info? t).any (·.comparable)&&ahz P t then some (n==n')else none
 |.s (.ifs t s),.s (.ifs t' s')=>bif t.beq t'&&(P.info? t).any (·.comparable)&&ahA P t then some (decide (s=s'))else none
 |.s (.ifb t b),.s (.ifb t' b')=>bif t.beq t'&&(P.info? t).any (·.comparable)&&aee P t then some (b==b')else none
 |_,_=>none
def eqI(P:Program):List AV→List AV→Option Bool
 |[],[]=>some true
 |x::xs,y::ys=>match ahB P x y,eqI P xs ys with
  |some a,some b=>some (a&&b)
  |_,_=>none
 |_,_=>none
def eqR(P:Program)(t:TypeId)(x y:AV):Option (Bool×Bool):=
 match P.underlying t,x,y with
 |some .bool,x,y=>match x.iY,y.iY with
  |some (lx,a),some (ly,b)=>some (lx&&ly,a==b)
  |_,_=>none
 |some (.array n e),.ints k m ws,.ints k' m' mu=>
  match P.underlying e with
  |some (.int k'')=>bif bF k k'&&bF k k''&&n==m&&m==m'&&(P.info? e).any (fun i=>i.size==1)&& !P.eqGuardType P.depth t then some (false,decide (ws=mu))else none
  |_=>none
 |some (.pointer _),.s .oR,.s .oR=>some (true,true)
 |some (.pointer _),.s .oR,.ptr _ _|some (.pointer _),.ptr _ _,.s .oR=>some (true,false)
 |some (.array n e),.agg xs,.agg ys=>
  match P.underlying e with
  |some (.interface _)=>bif n==xs.length&&n==ys.length&&(P.info? e).any (fun i=>i.size==1)&& !P.eqGuardType P.depth t then(eqI P xs ys).map fun b=>(false,b)else none
  |_=>none
 |some (.struct _),.agg xs,.agg ys=>bif P.eqGuardType P.depth t then none else(eqC P 20 t xs ys).map fun b=>(false,b)
 |_,_,_=>none
def AV.kind? :AV→Option IntKind
 |.s (.int k _)|.s (.aZ k _)|.s (.oe k)=>some k
 |_=>none
def acF(op:BinOp)(k:IntKind):Option AV:=
 match op with
 |.add|.sub|.mul|.and|.or|.xor|.andNot=>some (.s (.oe k))
 |.eql|.neq|.lss|.leq|.gtr|.geq=>some (.s (.kf 0 true))
 |_=>none
def ak2(P:Program)(op:BinOp)(t:TypeId)(x y:AV):Option (List Prop×AV):=
 match x,y with
 |.s (.str a),.s (.str b)=>acD op a b
 |x,y=>
  match x.dc,y.dc with
  |some (k,lx,a),some (k',ly,b)=>
   match op with
   |.shl|.shr=>acC op k (lx&&ly) a b
   |_=>bif bF k k' then tK op k lx ly a b else none
  |_,_=>
   match x.kind?,y.kind? with
   |some k,some k'=>bif bF k k' then(acF op k).map fun r=>([],r)else none
   |_,_=>
   match op with
   |.eql=>(eqR P t x y).map fun(l,b)=>([],kK l b)
   |.neq=>(eqR P t x y).map fun(l,b)=>([],kK l (!b))
   |_=>none
def ak3:Value→Option SV
 |.bool b=>some (.aI b)
 |.int k n=>some (.aZ k n)
 |.string s=>some (.str s)
 |.pointer none=>some .oR
 |.nilIface=>some .acz
 |.nilFunc=>some .acA
 |.map none=>some .acB
 |_=>none
def pN:Value→Option AV
 |.slice none 0 0=>some .emp
 |v=>(ak3 v).map .s
def pO:List Value→Option (List AV)
 |[]=>some []
 |v::vs=>match pN v,pO vs with
  |some a,some aA=>some (a::aA)
  |_,_=>none
def mF(k:IntKind):List Value→Bool
 |[]=>true
 |.int k' 0::vs=>bF k k'&&mF k vs
 |_=>false
def gI(P:Program):Nat→TypeId→List Value→Option (List AV)
 |0,_,_=>none
 |d+1,t,cs=>
  match P.underlying t with
  |some (.struct fs)=>fs.toList.foldl (fun acc f=>
   match acc,dw P f.type with
   |some (ak,rest),some n=>(gI P d f.type (rest.take n)).map fun s=>(ak++s,rest.drop n)
   |_,_=>none) (some ([],cs)) |>.bind fun(ak,rest)=>match rest with|[]=>some ak|_=>none
  |some (.array n e)=>match kindOf P e with
   |some k=>bif mF k cs&&cs.length==n then some [.ints k n (List.replicate n 0)]else pO cs
   |none=>pO cs
  |_=>pO cs
def yA:Value→AV
 |.agg cs=>match pO cs.toList with|some aA=>.agg aA|none=>.s .aQ
 |v=>(pN v).getD (.s .aQ)
def zeroOf(P:Program)(t:TypeId):Option AV:=
 match(P.info? t).bind (·.zero),gH P t with
 |some (.agg cs),some true=>(gI P 20 t cs.toList).map .kL
 |some v,some false=>pN v
 |_,_=>none
def CL.ak:(cs:List CK)→CL cs→List AV
 |[],_=>[]
 |.arr k n::cs,x=>.ints k n x.1::CL.ak cs x.2
 |.int k::cs,x=>.s (.int k x.1)::CL.ak cs x.2
 |.bool::cs,x=>.s (.bool x.1)::CL.ak cs x.2
 |.str::cs,x=>.s (.str x.1)::CL.ak cs x.2
 |.ints k::cs,x=>.s (.ro (.ints k x.1))::CL.ak cs x.2
 |.strs::cs,x=>.s (.ro (.strs x.1))::CL.ak cs x.2
 |.bD::cs,x=>.s (.ro (.bD x.1))::CL.ak cs x.2
 |.rows ds::cs,x=>.s (.ro (.ae ds x.1))::CL.ak cs x.2
def er:List AV→List Prop
 |[]=>[]
 |.ints _ n ws::aA=>(ws.length=n)::er aA
 |_::aA=>er aA
def ahC(k:IntKind):SV→Option Int
 |.int k' x|.aZ k' x=>bif bF k k' then some x else none
 |_=>none
def acG:SV→Option Bool
 |.bool x|.aI x=>some x
 |_=>none
def ahD:SV→Option ByteArray
 |.str x=>some x
 |_=>none
def acH(k:IntKind):SV→Option (List Int)
 |.ro (.ints k' zs)=>bif bF k k' then some zs else none
 |.ro (.ef _ 0 _)=>some []
 |_=>none
def acI:SV→Option (List ByteArray)
 |.ro (.strs zs)=>some zs
 |.ro (.ef _ 0 _)=>some []
 |_=>none
def yB:SV→Option (List Bool)
 |.ro (.bD zs)=>some zs
 |.ro (.ef _ 0 _)=>some []
 |_=>none
def acJ(cs:List CK):SV→Option (List (CL cs))
 |.ro (.ae jk zs)=>(CL.eq jk cs).map fun h=>aan h zs
 |.ro (.ef _ 0 _)=>some []
 |_=>none
def CK.set:(c:CK)→c.V→Nat→SV→Option c.V
 |.int k,_,_,v=>ahC k v
 |.bool,_,_,v=>acG v
 |.str,_,_,v=>ahD v
 |.ints k,_,_,v=>acH k v
 |.strs,_,_,v=>acI v
 |.bD,_,_,v=>yB v
 |.rows cs,_,_,v=>acJ cs v
 |.arr _ _,_,_,_=>none
def CL.set:(cs:List CK)→CL cs→Nat→SV→Option (CL cs)
 |[],_,_,_=>none
 |c::cs,x,j,v=>bif j.blt c.wide then(c.set x.1 j v).map fun y=>(y,x.2)else(CL.set cs x.2 (j - c.wide) v).map fun y=>(x.1,y)
def CK.setRow:(c:CK)→IntKind→Nat→List Int→Option c.V
 |.arr k' n',k,n,ws=>bif bF k k'&&n.beq n' then some ws else none
 |_,_,_,_=>none
def CL.setRow:(cs:List CK)→CL cs→Nat→IntKind→Nat→List Int→Option (CL cs)
 |[],_,_,_,_,_=>none
 |c::cs,x,j,k,n,ws=>bif j.beq 0 then(c.setRow k n ws).map fun y=>(y,x.2)
   else bif c.wide.ble j then(CL.setRow cs x.2 (j - c.wide) k n ws).map fun y=>(x.1,y)else none
def pP(wC:Bool)(c:aF)(i j sz:Nat):RM bx:=
 bif wC then
  (match c with
   |.ae cs xs=>(match(fb (CL.ak cs (xs.getD i (CL.d cs))) j).bind (fc · sz)with
     |some ss=>plain (er (CL.ak cs (xs.getD i (CL.d cs)))) (.kL ss)
     |none=>.fail "load: no such parts of the element")
   |c=>bif (j+sz).ble c.size then plain [] (.agg ((List.range sz).map fun l=>.s (c.cell i (j+l))))else .fail "load: beyond the element")
 else(bif j.blt c.size then plain [] (.s (c.cell i j))else .fail "load: beyond the element")
def aef(P:Program)(t:TypeId)(a:AV):RM bx:=
 match dw P t,gH P t with
 |some sz,some wC=>
  match a with
  |.ptr id off=>.look id fun
   |some (.own ak _)=>bif wC then
    (match(fb ak off).bind (fc · sz)with
     |some ss=>plain [] (.kL ss)
     |none=>.fail "load: no such parts")
    else(match cellAt ak off with
     |some v=>plain [] v
     |none=>.fail "load: no such cell")
   |_=>.fail "load: no own object"
  |.jM id off n i=>.look id fun
   |some (.own ak _)=>match iZ ak off with
    |some (k,m,ws)=>bif m.beq n&& !wC then plain [] (.s (.int k (ws.getD i 0)))else .fail "load: a row of another length"
    |none=>.fail "load: no row"
   |_=>.fail "load: no own object"
  |.jt c i j=>pP wC c i j sz
  |.ga id i j=>.look id fun
   |some (.vec c _)=>pP wC c i j sz
   |_=>.fail "load: no vec"
  |_=>.fail "load: no address"
 |_,_=>.fail "load: no type"
def qZ:aF→Nat→Nat→SV→Option aF
 |.ints k zs,i,_,v=>match v with
  |.int k' x|.aZ k' x=>bif bF k k' then some (.ints k (zs.set i x))else none
  |_=>none
 |.strs ss,i,_,v=>match v with
  |.str x=>some (.strs (ss.set i x))
  |_=>none
 |.bD bs,i,_,v=>match v with
  |.bool x|.aI x=>some (.bD (bs.set i x))
  |_=>none
 |.ae cs xs,i,j,v=>(CL.set cs (xs.getD i (CL.d cs)) j v).map fun y=>.ae cs (xs.set i y)
 |.ef s n get,i,j,v=>some (.ef s n fun i' j'=>bif i'==i&&j'==j then v else get i' j')
def nF:aF→Nat→Nat→IntKind→Nat→List Int→Option aF
 |.ae cs xs,i,j,k,n,ws=>(CL.setRow cs (xs.getD i (CL.d cs)) j k n ws).map fun y=>.ae cs (xs.set i y)
 |_,_,_,_,_,_=>none
def eu(c:aF)(i j:Nat):List AV→Option aF
 |[]=>some c
 |.s v::aA=>(qZ c i j v).bind fun c'=>eu c' i (j+1) aA
 |.ints k n ws::aA=>(nF c i j k n ws).bind fun c'=>eu c' i (j+n) aA
 |_=>none
def mG(cs:List CK)(x:CL cs)(j:Nat):List AV→Option (CL cs)
 |[]=>some x
 |.s v::aA=>(CL.set cs x j v).bind fun y=>mG cs y (j+1) aA
 |.ints k n ws::aA=>(CL.setRow cs x j k n ws).bind fun y=>mG cs y (j+n) aA
 |_=>none
def aeg(c:aF)(i j:Nat)(jj:List AV):Option aF:=match c with
 |.ae cs xs=>(mG cs (xs.getD i (CL.d cs)) j jj).map fun y=>.ae cs (xs.set i y)
 |_=>eu c i j jj
def acK(P:Program)(t:TypeId)(a x:AV):RM bx:=
 match dw P t,gH P t with
 |some sz,some wC=>
  match a with
  |.ptr id off=>.look id fun
   |some (.own ak e)=>
    bif wC then
     (match x.ji with
      |some jj=>bif (fH jj).beq sz&&(1:Nat).ble sz then
       (match tk ak off jj with
        |some ew=>.ret ⟨[],[(id,.own ew e)],[],fun _=>.bm []⟩
        |none=>.fail "store: no such parts")else .fail "store: another size"
      |none=>.fail "store: no parts")
    else(bif x.single&&sz.beq 1 then
     (match gl ak off x with
      |some ew=>.ret ⟨[],[(id,.own ew e)],[],fun _=>.bm []⟩
      |none=>.fail "store: no such cell")else .fail "store: no one cell")
   |_=>.fail "store: no own object"
  |.jM id off n i=>.look id fun
   |some (.own ak e)=>match iZ ak off,x.dc with
    |some (k,m,ws),some (k',_,y)=>bif m.beq n&&bF k k'&& !wC&&sz.beq 1 then
     (match jN ak off (ws.set i y)with
      |some ew=>.ret ⟨[],[(id,.own ew e)],[],fun _=>.bm []⟩
      |none=>.fail "store: no row")else .fail "store: a row of another length"
    |_,_=>.fail "store: no row"
   |_=>.fail "store: no own object"
  |.ga id i j=>.look id fun
   |some (.vec c e)=>match x.ji with
    |some jj=>bif (fH jj).beq sz&&(j+sz).ble c.size then
     (match aeg c i j jj with
      |some c'=>.ret ⟨[],[(id,.vec c' e)],[],fun _=>.bm []⟩
      |none=>.fail "store: another kind of element")else .fail "store: another size"
    |none=>.fail "store: no parts"
   |_=>.fail "store: no vec"
  |_=>.fail "store: no own address"
 |_,_=>.fail "store: no type"
def oU(P:Program)(t:TypeId)(x:AV)(f:Nat):RM bx:=
 match P.underlying t with
 |some (.struct fs)=>match fs[f]? with
  |some fd=>bif (dw P fd.type).any (fun n=>(1:Nat).ble n)then
   (match x with
    |.ptr id off=>plain [] (.ptr id (off+fd.offset))
    |.jt c i j=>plain [] (.jt c i (j+fd.offset))
    |.ga id i j=>.look id fun
     |some (.vec c _)=>bif (j+fd.offset).blt c.size then plain [] (.ga id i (j+fd.offset))else .fail "fieldAddr: beyond"
     |_=>.fail "fieldAddr: no vec"
    |_=>.fail "fieldAddr: no address")else .fail "fieldAddr: an empty field"
  |none=>.fail "fieldAddr: no field"
 |_=>.fail "fieldAddr: no struct"
def oV(P:Program)(t:TypeId)(x i:AV):RM bx:=
 match i.dc,P.underlying t with
 |some (_,_,n),some (.slice e)=>
  (match dw P e,x with
   |some sz,.s (.ro c)=>bif sz.beq c.size then plain [0≤n,n<c.n] (.jt c n.toNat 0)else .fail "indexAddr: size"
   |some sz,.vec id=>.look id fun
    |some (.vec c _)=>bif sz.beq c.size&&(1:Nat).ble sz then plain [0≤n,n<c.n] (.ga id n.toNat 0)else .fail "indexAddr: size"
    |_=>.fail "indexAddr: no vec"
   |some sz,.part id lo m=>.look id fun
    |some (.vec c _)=>bif sz.beq c.size&&(1:Nat).ble sz then plain [0≤n,n<m] (.ga id (lo+n.toNat) 0)else .fail "indexAddr: size"
    |_=>.fail "indexAddr: no vec"
   |_,_=>.fail "indexAddr: no slice")
 |some (_,lit,n),some (.array len e)=>
  (match dw P e,x with
   |some sz,.ptr id off=>bif lit then
    (bif decide (0≤n)&&decide (n<len)then plain [] (.ptr id (off+n.toNat*sz))else .fail "indexAddr: out of range")
    else(bif sz.beq 1 then plain [0≤n,n<len] (.jM id off len n.toNat)else .fail "indexAddr: wide elements")
   |some sz,.ga id i0 0=>.look id fun
    |some (.vec c _)=>bif sz.beq c.size&&(1:Nat).ble sz then plain [0≤n,n<len,i0+n<c.n] (.ga id (i0+n.toNat) 0)else .fail "indexAddr: size"
    |_=>.fail "indexAddr: no vec"
   |_,_=>.fail "indexAddr: no array")
 |_,_=>.fail "indexAddr: no number or type"
def aW(s:ByteArray)(i:Nat):Int:=((s.data.toList.getD i 0).toNat:Int)
def acL(P:Program)(t:TypeId)(x i:AV):RM bx:=
 match i.dc,P.underlying t,x with
 |some (_,_,n),some (.array len e),.ints k m ws=>bif len.beq m&&(gH P e).any (!·)&&(dw P e).any (·.beq 1)then plain [0≤n,n<len] (.s (.int k (ws.getD n.toNat 0)))else .fail "index: array"
 |some (_,_,n),some .string,.s (.str s)=>plain [0≤n,n<s.size] (.s (.int .u8 (aW s n.toNat)))
 |some (_,_,n),some (.array len e),.agg ak=>bif (gH P e).any (!·)&&(dw P e).any (·.beq 1)then
  (match cellAt ak n.toNat with
   |some v=>plain [0≤n,n<len] v
   |none=>.fail "index: no cell")else .fail "index: array of parts"
 |_,_,_=>.fail "index"
def acM(P:Program)(t:TypeId)(x:AV)(f:Nat):RM bx:=
 match P.underlying t,x with
 |some (.struct fs),.agg ak=>match fs[f]? with
  |some fd=>match dw P fd.type,gH P fd.type with
   |some sz,some true=>match(fb ak fd.offset).bind (fc · sz)with
    |some ss=>plain [] (.kL ss)
    |none=>.fail "field: parts"
   |some _,some false=>match cellAt ak fd.offset with
    |some v=>plain [] v
    |none=>.fail "field: cell"
   |_,_=>.fail "field: type"
  |none=>.fail "field: none"
 |_,_=>.fail "field"
def tL(x:AV)(i:Nat):RM bx:=
 match x with
 |.bm vs=>match vs[i]? with
  |some v=>plain [] v
  |none=>.fail "extract"
 |_=>.fail "extract: no tuple"
def yC(P:Program)(t:TypeId):Option Nat:=
 match P.underlying t,P.info? t with
 |some (.array n e),some i=>match P.underlying e,i.zero with
  |some .string,some z=>bif (4:Nat).ble n&&n.ble 4096&&z.cells.size.beq n&&z.cells.toList.all (fun v=>match v with|.string s=>s.size.beq 0|_=>false)then some n else none
  |_,_=>none
 |_,_=>none
def acN(P:Program)(t:TypeId):RM bx:=
 match yC P t with
 |some n=>.ret ⟨[],[],[.vec (.strs (List.replicate n ByteArray.empty)) t],fun id=>.ga id 0 0⟩
 |none=>
 match(zeroOf P t).bind AV.ji with
 |some ak=>.ret ⟨[],[],[.own ak t],fun id=>.ptr id 0⟩
 |none=>.fail "alloc: zero"
def ao3(t:TypeId)(v:AV):RM bx:=
 match v.ji with
 |some ak=>.ret ⟨[],[],[.own ak t],fun id=>.ptr id 0⟩
 |none=>.fail "box"
def oW(place:Nat→Option (Nat×Nat))(ak:List AV):List (Nat×AV)→Option (List AV)
 |[]=>some ak
 |(i,v)::rest=>
  match place i,v.ji with
  |some (off,size),some jj=>bif (fH jj).beq size&&(1:Nat).ble size then(tk ak off jj).bind fun s=>oW place s rest else none
  |_,_=>none
def acO(P:Program)(t:TypeId)(parts:List (Nat×AV)):RM bx:=
 match(zeroOf P t).bind AV.ji,P.underlying t with
 |some ak,some (.struct fs)=>bif fs.toList.all (fun f=>(dw P f.type).isSome)then
  match oW (fun i=>(fs[i]?).bind fun f=>(dw P f.type).map fun n=>(f.offset,n)) ak parts with
  |some ss=>plain [] (.kL ss)
  |none=>.fail "build: parts"
  else .fail "build: a field's size"
 |some ak,some (.array _ e)=>
  match dw P e with
  |some sz=>match oW (fun i=>some (i*sz,sz)) ak parts with
   |some ss=>plain [] (.kL ss)
   |none=>.fail "build: array"
  |none=>.fail "build: element"
 |_,_=>.fail "build: zero"
def AV.sv? :AV→Option SV
 |.s .aQ=>none
 |.s v=>some v
 |.emp=>some (.ro (.ef 1 0 fun _ _=>.aQ))
 |_=>none
def svs:List AV→Option (List SV)
 |[]=>some []
 |.ints _ _ _::_=>none
 |a::aA=>match a.sv?,svs aA with
  |some v,some vs=>some (v::vs)
  |_,_=>none
def oX(k:IntKind):List SV→Option (List Int)
 |[]=>some []
 |.int k' n::vs|.aZ k' n::vs=>bif bF k k' then(oX k vs).map (n:: ·)else none
 |_=>none
def q7:List SV→Option (List ByteArray)
 |[]=>some []
 |.str s::vs=>(q7 vs).map (s:: ·)
 |_=>none
def nG:List SV→Option (List Bool)
 |[]=>some []
 |.bool b::vs|.aI b::vs=>(nG vs).map (b:: ·)
 |_=>none
inductive Shape where
 |ints (k:IntKind)|strs|bD|ae (cs:List CK)|other
def ahE(P:Program):Nat→TypeId→Option (List CK)
 |0,_=>none
 |d+1,t=>
  match P.underlying t with
  |some (.int k)=>some [.int k]
  |some .bool=>some [.bool]
  |some .string=>some [.str]
  |some (.slice e)=>match P.underlying e with
   |some (.int k)=>some [.ints k]
   |some .string=>some [.strs]
   |some .bool=>some [.bD]
   |_=>(ahE P d e).map fun cs=>[.rows cs]
  |some (.struct fs)=>fs.toList.foldr (fun f acc=>match ahE P d f.type,acc with
   |some a,some b=>some (a++b)
   |_,_=>none) (some [])
  |some (.array n e)=>match P.underlying e with
   |some (.int k)=>some [.arr k n]
   |_=>none
  |_=>none
def shapeOf(P:Program)(e:TypeId):Shape:=
 match P.underlying e with
 |some (.int k)=>.ints k
 |some .string=>.strs
 |some .bool=>.bD
 |_=>match ahE P 8 e with
  |some cs=>.ae cs
  |none=>.other
def CL.ofs(cs:List CK)(f:Nat→SV):Option (CL cs):=(List.range (CL.wide cs)).foldl (fun acc j=>acc.bind fun x=>CL.set cs x j (f j)) (some (CL.d cs))
def xg(cs:List CK)(size:Nat)(cells:List SV):Nat→Nat→Option (List (CL cs))
 |_,0=>some []
 |i,n+1=>match CL.ofs cs (fun j=>cells.getD (i*size+j) .aQ),xg cs size cells (i+1) n with
  |some x,some xs=>some (x::xs)
  |_,_=>none
def sd(sh:Shape)(size n:Nat)(cells:List SV):aF:=
 let d:aF:=.ef size n fun i j=>cells.getD (i*size+j) .aQ
 match sh with
 |.ints k=>(oX k cells).elim d (.ints k)
 |.strs=>(q7 cells).elim d .strs
 |.bD=>(nG cells).elim d .bD
 |.ae cs=>bif (CL.wide cs).beq size then(xg cs size cells 0 n).elim d (.ae cs)else d
 |.other=>d
def ahF(sh:Shape)(size:Nat):aF:=
 match sh with
 |.ints k=>.ints k []
 |.strs=>.strs []
 |.bD=>.bD []
 |.ae cs=>.ae cs []
 |.other=>.ef size 0 fun _ _=>.aQ
def rep{α:Type}(n:Nat)(x:List α):List α:=
 match n with
 |0=>[]
 |n+1=>x++rep n x
def mH(P:Program)(t:TypeId)(n:Nat)(parts:List (Nat×AV)):RM bx:=
 match P.underlying t with
 |some (.slice e)=>
  match dw P e,(zeroOf P e).bind AV.ji with
  |some sz,some z=>bif (1:Nat).ble sz&&(n*sz).ble 4096&&(fH z).beq sz then
   (match(oW (fun i=>some (i*sz,sz)) (rep n z) parts).bind svs with
    |some cells=>bif cells.length.beq (n*sz)&&(sd (shapeOf P e) sz n cells).n.beq n&&(sd (shapeOf P e) sz n cells).size.beq sz then .ret ⟨[],[],[.vec (sd (shapeOf P e) sz n cells) e],fun id=>.vec id⟩else .fail "buildSlice: length"
    |none=>.fail "buildSlice: parts")else .fail "buildSlice: size"
  |_,_=>.fail "buildSlice: zero"
 |_=>.fail "buildSlice: type"
def cX:aF→aF→aF
 |.ints k xs,.ints k' ys=>bif bF k k' then .ints k (xs++ys)else .ef 1 (xs.length+ys.length) fun i j=>bif i.blt xs.length then(aF.ints k xs).cell i j else(aF.ints k' ys).cell (i - xs.length) j
 |.strs xs,.strs ys=>.strs (xs++ys)
 |.bD xs,.bD ys=>.bD (xs++ys)
 |.ae cs xs,.ae jk ys=>match CL.eq jk cs with
  |some h=>.ae cs (xs++aan h ys)
  |none=>.ef (CL.wide cs) (xs.length+ys.length) fun i j=>bif i.blt xs.length then(aF.ae cs xs).cell i j else(aF.ae jk ys).cell (i - xs.length) j
 |c,d=>.ef c.size (c.n+d.n) fun i j=>bif i.blt c.n then c.cell i j else d.cell (i - c.n) j
def dr:aF→Nat→Nat→aF
 |.ints k zs,l,h=>.ints k ((zs.take h).drop l)
 |.strs zs,l,h=>.strs ((zs.take h).drop l)
 |.bD zs,l,h=>.bD ((zs.take h).drop l)
 |.ae cs zs,l,h=>.ae cs ((zs.take h).drop l)
 |.ef s _ get,l,h=>.ef s (h - l) fun i j=>get (l+i) j
def over{α:Type}(xs:List α)(lo k:Nat)(ys:List α):List α:=xs.take lo++ys.take k++xs.drop (lo+k)
def de:aF→Nat→Nat→aF→aF
 |.ints k1 xs,lo,k,.ints k2 ys=>bif bF k1 k2 then .ints k1 (over xs lo k ys)else .ef 1 xs.length fun i j=>bif lo.ble i&&i.blt (lo+k)then(aF.ints k2 ys).cell (i - lo) j else(aF.ints k1 xs).cell i j
 |.strs xs,lo,k,.strs ys=>.strs (over xs lo k ys)
 |.bD xs,lo,k,.bD ys=>.bD (over xs lo k ys)
 |.ae cs xs,lo,k,.ae jk ys=>match CL.eq jk cs with
  |some h=>.ae cs (over xs lo k (aan h ys))
  |none=>.ef (CL.wide cs) xs.length fun i j=>bif lo.ble i&&i.blt (lo+k)then(aF.ae jk ys).cell (i - lo) j else(aF.ae cs xs).cell i j
 |c,lo,k,d=>.ef c.size c.n fun i j=>bif lo.ble i&&i.blt (lo+k)then d.cell (i - lo) j else c.cell i j
def ao4:SV→Value→Bool
 |.int k n,.int k' n'=>bF k k'&&n==n'
 |.bool b,.bool b'=>b==b'
 |.str s,.string s'=>s.size.beq 0&&s'.size.beq 0
 |.ro c,.slice none 0 0=>c.n.beq 0
 |_,_=>false
def dg(sh:Shape)(n:Nat):aF:=
 match sh with
 |.ints k=>.ints k (List.replicate n 0)
 |.strs=>.strs (List.replicate n ByteArray.empty)
 |.bD=>.bD (List.replicate n false)
 |.ae cs=>.ae cs (List.replicate n (CL.d cs))
 |.other=>.ef 1 n fun _ _=>.aQ
def fN(sh:Shape)(z:List Value):Bool:=(dg sh 1).size.beq z.length&&(List.range z.length).all fun j=>ao4 ((dg sh 1).cell 0 j) (z.getD j undef)
def rowOf(sh:Shape)(size:Nat)(x:AV)(k:aF→Option Nat→RM bx):RM bx:=
 match x with
 |.s v=>(match v with
  |.ro c=>k c none
  |_=>.fail "row")
 |.emp=>k (ahF sh size) none
 |.vec id=>.look id fun
  |some (.vec c _)=>k c (some id)
  |_=>.fail "row: no vec"
 |.part id lo n=>.look id fun
  |some (.vec c _)=>k (dr c lo (lo+n)) (some id)
  |_=>.fail "row: no vec"
 |_=>.fail "row"
def xh(sh:Shape)(size:Nat)(x:AV)(k:aF→Option Nat→RM bx):RM bx:=
 match x with
 |.s (.str s)=>k (.ints .u8 (s.data.toList.map fun b=>(b.toNat:Int))) none
 |x=>rowOf sh size x k
def yD(P:Program)(t:TypeId)(x y:AV):RM bx:=
 match P.underlying t with
 |some (.slice e)=>
  match P.info? e with
  |some i=>
   let sh:=shapeOf P e
   bif (1:Nat).ble i.size&&(1:Nat).ble i.bytes&&i.bytes.ble 256&&i.zero.any (fun z=>z.cells.size==i.size&&z.cells.toList.all (·.oneCell'))then
    xh sh i.size y fun d idy=>
     bif d.size.beq i.size then
      (match x with
       |.emp=>.ret ⟨[d.n*i.bytes≤140737488355328],[],[.vec d e],fun id=>.vec id⟩
       |.vec idx=>.look idx fun
        |some (.vec c e')=>bif c.size.beq i.size&&e'.beq e&& !(idy==some idx)then
         .ret ⟨[(c.n+d.n)*i.bytes≤140737488355328],[(idx,.dead)],[.vec (cX c d) e],fun id=>.vec id⟩else .fail "append: size"
        |_=>.fail "append: no vec"
       |.part idx lo n=>.look idx fun
        |some (.vec c e')=>bif c.size.beq i.size then
         .ret ⟨[lo+n+d.n≤c.n],[(idx,.vec (de c (lo+n) d.n d) e')],[],fun _=>.part idx lo (n+d.n)⟩else .fail "append: size"
        |_=>.fail "append: no vec"
       |_=>.fail "append: what is appended to is not own")
     else .fail "append: another size"
   else .fail "append: element"
  |none=>.fail "append: no element"
 |_=>.fail "append: type"
def tM(P:Program)(t t':TypeId)(x y:AV):RM bx:=
 match P.underlying t,P.underlying t',x,y.dc with
 |some (.slice e),some (.int _),.s (.yz c k),some (_,_,j)=>
  (match P.info? e with
   |some i=>bif (1:Nat).ble i.size&&i.bytes.ble 256&&c.size.beq i.size&&i.zero.any (fun z=>fN (shapeOf P e) z.cells.toList&&z.cells.size==i.size)then
    .ret ⟨[0<j,(k:Int)≤c.n+j,(c.n:Int)+j≤4294967296],[],[.vec (cX c (dg (shapeOf P e) j.toNat)) e],fun id=>.vec id⟩else .fail "append: zeros"
   |none=>.fail "append: element")
 |_,_,_,_=>.fail "append: zeros?"
def ao5(P:Program)(t:TypeId)(x:AV):RM bx:=
 match P.underlying t,x with
 |some .string,.s (.str s)=>plain [] (.s (.int .i64 s.size))
 |some (.array n _),_=>plain [] (.s (.aZ .i64 n))
 |some (.slice _),.s (.ro c)=>plain [] (.s (.int .i64 c.n))
 |some (.slice _),.s (.yz c _)=>plain [] (.s (.int .i64 c.n))
 |some (.slice _),.emp=>plain [] (.s (.aZ .i64 0))
 |some (.slice _),.vec id=>.look id fun
  |some (.vec c _)=>plain [] (.s (.int .i64 c.n))
  |_=>.fail "len: no vec"
 |some (.slice _),.part id _ n=>.look id fun
  |some (.vec _ _)=>plain [] (.s (.int .i64 n))
  |_=>.fail "len: no vec"
 |some (.map _ _),.ag id=>.look id fun
  |some (.map _ m)=>plain [] (.s (.int .i64 m.length))
  |_=>.fail "len: no map"
 |_,_=>.fail "len"
def ao6(P:Program)(t:TypeId)(x:AV):RM bx:=
 match P.underlying t,x with
 |some (.slice _),.s (.yz _ k)=>plain [] (.s (.ov k))
 |some (.slice _),.vec id=>.look id fun
  |some (.vec c _)=>plain [] (.s (.mi c.n))
  |_=>.fail "cap: no vec"
 |some (.slice _),.part id lo _=>.look id fun
  |some (.vec c _)=>plain [] (.s (.mi (c.n - lo)))
  |_=>.fail "cap: no vec"
 |_,_=>.fail "cap"
def imax(a b:Int):Int:=if b>a then b else a
def oY(a b:Int):Int:=if b<a then b else a
def ak4(mx:Bool)(x y:AV):RM bx:=
 match x.dc,y.dc with
 |some (k,lx,a),some (k',ly,b)=>bif bF k k' then
  (bif mx then plain [] (mkInt (lx&&ly) k (imax a b))else plain [] (mkInt (lx&&ly) k (oY a b)))else .fail "min: kinds"
 |_,_=>.fail "min"
def gm(d:Int):Option AV→Option Int
 |none=>some d
 |some a=>(a.dc).map fun(_,_,n)=>n
def aeh(P:Program)(e:TypeId)(c:aF)(id lo0 n:Nat)(lo hi mx:Option AV):RM bx:=
 match dw P e with
 |some sz=>bif sz.beq c.size then
  (match mx with
   |none=>(match gm 0 lo,gm n hi with
    |some l,some h=>plain [0≤l,l≤h,(lo0:Int)+h≤c.n] (.part id (lo0+l.toNat) (h.toNat - l.toNat))
    |_,_=>.fail "slice: bounds")
   |some m=>(match gm 0 lo,hi.bind AV.dc,m.dc with
    |some l,some (_,_,h),some (_,_,m)=>plain [0≤l,l≤h,h≤m,(lo0:Int)+m≤c.n] (.s .aQ)
    |_,_,_=>.fail "slice: three"))else .fail "slice: size"
 |none=>.fail "slice: element"
def ahG(P:Program)(t:TypeId)(x y:AV):RM bx:=
 match P.underlying t with
 |some (.slice e)=>
  match dw P e with
  |some sz=>bif (1:Nat).ble sz then
   xh (shapeOf P e) sz y fun d _=>bif d.size.beq sz then
    (match x with
     |.vec id=>.look id fun
      |some (.vec c e')=>bif c.size.beq sz then
       .ret ⟨[],[(id,.vec (de c 0 (min d.n c.n) d) e')],[],fun _=>.s (.int .i64 ((min d.n c.n:Nat):Int))⟩else .fail "copy: size"
      |_=>.fail "copy: no vec"
     |.part id lo n=>.look id fun
      |some (.vec c e')=>bif c.size.beq sz then
       .ret ⟨[],[(id,.vec (de c lo (min d.n n) d) e')],[],fun _=>.s (.int .i64 ((min d.n n:Nat):Int))⟩else .fail "copy: size"
      |_=>.fail "copy: no vec"
     |_=>.fail "copy: not own")else .fail "copy: another size"
   else .fail "copy: size"
  |none=>.fail "copy: element"
 |_=>.fail "copy: type"
def mI{k:IntKind}{m:Nat}(x:CL [.arr k m]):List Int:=x.1
def ahH{k:IntKind}{m:Nat}(ws:List Int):CL [.arr k m]:=(ws,())
def tl(x:AV)(k:IntKind→List Int→Prop→RM bx):RM bx:=
 match x with
 |.s (.str s)=>k .u8 (s.data.toList.map fun b=>(b.toNat:Int)) True
 |.sub id off n=>.look id fun
  |some (.own [.ints q m ws] _)=>k q ((ws.drop off).take n) (off+n≤m)
  |_=>.fail "copy: no numbers"
 |_=>.fail "copy: from what?"
def acP(P:Program)(t:TypeId)(x y:AV):RM bx:=
 match P.underlying t with
 |some (.slice e)=>
  match dw P e with
  |some sz=>bif sz.beq 1 then
   (match x with
    |.sub id off n=>tl y fun q zs p=>.look id fun
      |some (.own [.ints k m ws] e')=>bif bF q k then
       .ret ⟨[p,off+n≤m],[(id,.own [.ints k m (over ws off (min zs.length n) zs)] e')],[],fun _=>.s (.int .i64 ((min zs.length n:Nat):Int))⟩else .fail "copy: kind"
      |_=>.fail "copy: no array"
    |.kg id i j n=>tl y fun q zs p=>.look id fun
      |some (.vec (.ae [.arr k m] xs) e')=>bif bF q k&&(1:Nat).ble m then
       .ret ⟨[p,(mI (xs.getD i (CL.d [.arr k m]))).length=m],[(id,.vec (.ae [.arr k m] (xs.set i (ahH (over (mI (xs.getD i (CL.d [.arr k m]))) j (min zs.length n) zs)))) e')],[],fun _=>.s (.int .i64 ((min zs.length n:Nat):Int))⟩else .fail "copy: kind"
      |_=>.fail "copy: no vec"
    |_=>.fail "copy: not an array")else .fail "copy: size"
  |none=>.fail "copy: element"
 |_=>.fail "copy: type"
def arn:AV→Bool
 |.sub _ _ _|.kg _ _ _ _=>true
 |_=>false
def acQ(P:Program)(t:TypeId)(x:AV):RM bx:=
 match P.underlying t,x with
 |some (.slice e),.part id lo n=>
  (match P.info? e with
   |some i=>bif (1:Nat).ble i.size&&i.zero.any (fun z=>fN (shapeOf P e) z.cells.toList&&z.cells.size==i.size)then
    .look id fun
    |some (.vec c e')=>bif c.size.beq i.size then
     .ret ⟨[],[(id,.vec (de c lo n (dg (shapeOf P e) n)) e')],[],fun _=>.bm []⟩else .fail "clear: size"
    |_=>.fail "clear: no vec"
    else .fail "clear: zero"
   |none=>.fail "clear: element")
 |some (.map _ _),.ag id=>.look id fun
  |some (.map ck _)=>.ret ⟨[],[(id,.map ck [])],[],fun _=>.bm []⟩
  |_=>.fail "clear: no map"
 |_,_=>.fail "clear"
def oZ(P:Program)(t:TypeId)(l c:AV):RM bx:=
 match P.underlying t,l.dc,c.dc with
 |some (.slice e),some (_,_,l),some (_,_,c)=>
  (match P.info? e with
   |some i=>bif (1:Nat).ble i.size&&i.bytes.ble 256&&i.zero.any (fun z=>fN (shapeOf P e) z.cells.toList&&z.cells.size==i.size)then
    .ret ⟨[0≤l,l≤c,c≤1073741824],[],[.vec (dg (shapeOf P e) l.toNat) e],fun id=>.vec id⟩else .fail "makeSlice: zero"
   |none=>.fail "makeSlice: element")
 |_,_,_=>.fail "makeSlice"
def acR(P:Program)(t:TypeId)(x:AV)(lo hi mx:Option AV):RM bx:=
 match P.underlying t,x with
 |some .string,.s (.str s)=>
  (match gm 0 lo,gm s.size hi,mx with
   |some l,some h,none=>plain [0≤l,l≤h,h≤s.size] (.s (.str (s.extract l.toNat h.toNat)))
   |_,_,_=>.fail "slice: string")
 |some (.slice e),.emp=>(match dw P e,gm 0 lo,gm 0 hi,mx with
  |some _,some l,some h,none=>plain [l=0,h=0] .emp
  |_,_,_,_=>.fail "slice: emp")
 |some (.slice e),.s (.ro c)=>
  (match dw P e with
   |some sz=>bif sz.beq c.size then
    (match mx with
     |none=>(match gm 0 lo,gm c.n hi with
      |some l,some h=>plain [0≤l,l≤h,h≤c.n] (.s (.ro (dr c l.toNat h.toNat)))
      |_,_=>.fail "slice: bounds")
     |some m=>(match gm 0 lo,hi.bind AV.dc,m.dc with
      |some l,some (_,_,h),some (_,_,m)=>plain [l=0,h=0,m=0] .emp
      |_,_,_=>.fail "slice: three"))else .fail "slice: size"
   |none=>.fail "slice: element")
 |some (.slice e),.s (.yz c k)=>
  (match dw P e,mx with
   |some sz,none=>bif sz.beq c.size then
    (match lo,gm c.n hi with
     |none,some h=>plain [0≤h,h≤c.n] (.s (.yz (dr c 0 h.toNat) k))
     |some l,some h=>(match l.dc with
      |some (_,_,l)=>plain [0≤l,l≤h,h≤c.n] (.s (.ro (dr c l.toNat h.toNat)))
      |none=>.fail "slice: bounds")
     |_,_=>.fail "slice: bounds")else .fail "slice: size"
   |_,_=>.fail "slice: element")
 |some (.slice e),.vec id=>.look id fun
  |some (.vec c _)=>aeh P e c id 0 c.n lo hi mx
  |_=>.fail "slice: no vec"
 |some (.slice e),.part id lo0 n=>.look id fun
  |some (.vec c _)=>aeh P e c id lo0 n lo hi mx
  |_=>.fail "slice: no vec"
 |some (.array n e),.ptr id off=>
  (match dw P e,gm 0 lo,gm n hi,mx with
   |some sz,some l,some h,none=>bif sz.beq 1 then plain [0≤l,l≤h,h≤n] (.sub id (off+l.toNat) (h.toNat - l.toNat))else .fail "slice: array"
   |_,_,_,_=>.fail "slice: array")
 |some (.array n e),.ga id i j=>
  (match dw P e,gm 0 lo,gm n hi,mx with
   |some sz,some l,some h,none=>.look id fun
    |some (.vec c _)=>bif sz.beq 1&&(j+n).ble c.size then plain [0≤l,l≤h,h≤n] (.kg id i (j+l.toNat) (h.toNat - l.toNat))else .fail "slice: array"
    |_=>.fail "slice: no vec"
   |_,_,_,_=>.fail "slice: array")
 |_,_=>.fail "slice"
def aM(zs:List Int):ByteArray:=⟨(zs.map fun n=>UInt8.ofNat n.toNat).toArray⟩
def tN(P:Program)(src dst:TypeId)(x:AV):RM bx:=
 match P.underlying src,P.underlying dst with
 |some _,some (.int k)=>(match x.dc with
  |some (k',lit,n)=>bif lit then plain [] (.s (.aZ k (k.wrap n)))else bif ow k&& !bF k' .u64 then plain [aD n] (.s (.int k n))else plain [] (.s (.int k (k.wrap n)))
  |none=>.fail "convert: no number")
 |some .string,some .string=>(match x with
  |.s (.str s)=>plain [] (.s (.str s))
  |_=>.fail "convert: no string")
 |some (.slice e),some .string=>(match kindOf P e with
  |some .u8=>(match x with
   |.sub id off n=>.look id fun
     |some (.own [.ints .u8 m ws] _)=>plain [off+n≤m] (.s (.str (aM ((ws.drop off).take n))))
     |_=>.fail "convert: no bytes"
   |_=>rowOf (.ints .u8) 1 x fun c _=>match c with
   |.ints .u8 zs=>plain [] (.s (.str (aM zs)))
   |_=>.fail "convert: no bytes")
  |_=>.fail "convert: no bytes")
 |_,_=>.fail "convert"
def br(s:ByteArray):List Int:=s.data.toList.map fun b=>(b.toNat:Int)
def tO(P:Program)(src dst:TypeId)(x:AV):RM bx:=
 match P.underlying src,P.underlying dst,x with
 |some .string,some (.slice e),.s (.str s)=>(match kindOf P e with
  |some .u8=>plain [s.size≤4294967296] (.s (.ro (.ints .u8 (br s))))
  |_=>.fail "convert: to bytes")
 |_,_,_=>.fail "convert: to bytes"
def ak5(P:Program)(src dst:TypeId):Bool:=
 match P.underlying src,P.underlying dst with
 |some .string,some (.slice _)=>true
 |_,_=>false
def tP(P:Program)(t:TypeId)(x:AV):RM bx:=
 match P.underlying t,x with
 |some (.array n _),.s (.ro (.ints k zs))=>bif (1:Nat).ble n then plain [n≤zs.length] (.jt (.ae [.arr k n] [(zs.take n,())]) 0 0)else .fail "array: none"
 |_,_=>.fail "array of a slice"
def q8(x:AV):RM bx:=
 match x with
 |.ptr _ _|.jM _ _ _ _|.jt _ _ _|.fn _ _|.s (.kV _)=>plain [] x
 |_=>.fail "nilCheck"
def q9(fn:Fn)(first ej:List AV):RM bx:=
 match fn,first,ej with
 |.func f,[],[]=>plain [] (.s (.kV f))
 |.func f,[],c::cs=>plain [] (.fn f (c::cs))
 |_,_,_=>.fail "makeFunc"
def auc(P:Program)(t:TypeId):Option CK:=
 match P.underlying t with
 |some (.int k)=>some (.int k)
 |some .bool=>some .bool
 |some .string=>some .str
 |some (.array n e)=>match P.underlying e with
  |some (.int k)=>some (.arr k n)
  |_=>none
 |_=>none
def CK.plain:CK→Bool
 |.int _|.bool|.str|.arr _ _=>true
 |_=>false
def tQ(P:Program)(t:TypeId)(ck:CK):Bool:=ck.plain&&
 match(P.info? t).bind (·.zero),ck with
 |some (.int k' 0),.int k=>bF k' k
 |some (.bool false),.bool=>true
 |some (.string s),.str=>s.size.beq 0
 |some (.agg cs),.arr k n=>mF k cs.toList&&cs.toList.length.beq n
 |_,_=>false
def CK.av:(c:CK)→c.V→AV
 |.int k,v=>.s (.int k v)
 |.bool,v=>.s (.bool v)
 |.str,v=>.s (.str v)
 |.arr k n,v=>.ints k n v
 |_,_=>.s .aQ
def CK.rdv:(c:CK)→AV→Option c.V
 |.int k,a=>match a with
  |.s (.int k' x)|.s (.aZ k' x)=>bif bF k k' then some x else none
  |_=>none
 |.bool,a=>match a with
  |.s (.bool x)|.s (.aI x)=>some x
  |_=>none
 |.str,a=>match a with
  |.s (.str x)=>some x
  |_=>none
 |.arr k n,a=>match a with
  |.ints k' n' ws=>bif bF k k'&&n.beq n' then some ws else none
  |_=>none
 |_,_=>none
def aei(P:Program)(t:TypeId):Bool:=
 match P.underlying t with
 |some (.int .i64)=>true
 |_=>false
def yE(P:Program)(t:TypeId)(x i:AV)(ok:Bool):RM bx:=
 match P.underlying t,x,i.dc with
 |some (.map kt et),.ag id,some (k,_,n)=>bif aei P kt&&ow k then
  .look id fun
  |some (.map ck m)=>bif tQ P et ck then
   plain [] (bif ok then .bm [ck.av ((fJ m n).getD ck.d),.s (.bool (oQ m n))]else ck.av ((fJ m n).getD ck.d))else .fail "lookup: elements"
  |_=>.fail "lookup: no map"
  else .fail "lookup: keys"
 |_,_,_=>.fail "lookup"
def o8(P:Program)(t:TypeId)(x i v:AV):RM bx:=
 match P.underlying t,x,i.dc with
 |some (.map kt _),.ag id,some (k,_,n)=>bif aei P kt&&ow k then
  .look id fun
  |some (.map ck m)=>(match ck.rdv v with
   |some y=>.ret ⟨[],[(id,.map ck (mr m n y))],[],fun _=>.bm []⟩
   |none=>.fail "mapUpdate: elements")
  |_=>.fail "mapUpdate: no map"
  else .fail "mapUpdate: keys"
 |_,_,_=>.fail "mapUpdate"
def tT(P:Program)(t:TypeId)(r:Option AV):RM bx:=
 match P.underlying t,r with
 |some (.map _ et),none=>(match auc P et with
  |some ck=>.ret ⟨[],[],[.map ck []],fun id=>.ag id⟩
  |none=>.fail "makeMap: elements")
 |_,_=>.fail "makeMap"
def acS(x:AV):RM bx:=
 match x with
 |.ptr id 0=>.look id fun
  |some (.iter mid gid ck _ cur)=>.look mid fun
   |some (.wA _ _ aro)=>bif gid.beq aro&&ck.plain then(match cur with
    |some p=>plain [] (.bm [.s (.int .i64 p.1),ck.av p.2])
    |none=>.fail "entry: no step")else .fail "entry: another one"
   |_=>.fail "entry: no map"
  |_=>.fail "entry: no range"
 |_=>.fail "entry"
abbrev ak6:=FuncId→List AV→RM bx
abbrev e9:=Nat→ak6
def iI(P:Program)(f:FuncId):Bool:=
 match P.funcs[f]? with
 |some fn=>fn.body.isSome&& !(fn.name== "runtime.NumGoroutine")
 |none=>false
def ao7(P:Program)(f:FuncId):Prop:=
 ∃(fn:Func) (t e tR:TypeId) (size:Nat),P.funcs[f]? =some fn∧(fn.name== "runtime.NumGoroutine")=false∧fn.body.isNone=true∧Extern.findNext fn=none∧Extern.find fn=some (Extern.SlicesOverlaps.overlaps #[t,t] #[tR])∧
  P.underlying t=some (.slice e)∧dw P e=some size
def ownRow:AV→Option Nat
 |.vec id=>some id
 |.part id _ _=>some id
 |_=>none
def ra(P:Program)(f:FuncId)(args:List AV):RM bx:=
 match args with
 |[x,y]=>match ownRow x,ownRow y with
  |some i,some j=>bif i.beq j then .fail "call: no Go body" else
   .look i fun o=>match o with
    |some (.vec c _)=>.look j fun o=>match o with
     |some (.vec d _)=>bif (1:Nat).ble c.size&&(1:Nat).ble d.size then plain [ao7 P f] (.s (.aI false))else .fail "call: no Go body"
     |_=>.fail "call: no Go body"
    |_=>.fail "call: no Go body"
  |_,_=>.fail "call: no Go body"
 |_=>.fail "call: no Go body"
def aej(P:Program)(S:ak6)(f:FuncId)(args:List AV):RM bx:=
 bif iI P f then S f args else ra P f args
def yF(P:Program)(t:TypeId):Bool:=
 match P.underlying t with
 |some (.slice _)|some .string=>true
 |_=>false
def aao(P:Program)(b:Builtin)(ts:List TypeId)(args:List AV):RM bx:=
 match b,ts,args with
 |.len,t::_,[x]=>ao5 P t x
 |.cap,t::_,[x]=>ao6 P t x
 |.append,[t,t'],[x,y]=>bif yF P t' then yD P t x y else tM P t t' x y
 |.min,_,[x,y]=>ak4 false x y
 |.max,_,[x,y]=>ak4 true x y
 |.copy,[t,t'],[x,y]=>bif yF P t' then(bif arn x then acP P t x y else ahG P t x y)else .fail "copy: what?"
 |.clear,t::_,[x]=>acQ P t x
 |_,_,_=>.fail "builtin"
def pQ:BinOp→Bool
 |.eql=>true
 |_=>false
def ao8(P:Program)(op:BinOp)(t:TypeId)(x:AV):RM bx:=
 match op with
 |.eql|.neq=>
  match P.underlying t with
  |some (.slice _)=>
   match x with
   |.s (.ro c)=>plain [] (.s (.kf c.n (pQ op)))
   |.emp=>plain [] (.s (.kf 0 (pQ op)))
   |.vec id=>.look id fun o=>match o with
    |some (.vec c _)=>plain [] (.s (.kf c.n (pQ op)))
    |_=>.fail "== nil: no row"
   |_=>.fail "== nil"
  |_=>.fail "== nil: the type"
 |_=>.fail "nil: what?"
def oz:AV→AV
 |.s .oS=>.emp
 |x=>x
def acT:AV→Bool
 |.s .oS=>true
 |_=>false
def ao9(P:Program)(t:TypeId)(x:AV):RM bx:=
 match P.underlying t,x with
 |some (.interface _),_=>.fail "interface: of an interface"
 |some _,.s (.int k n)=>plain [] (.s (.ifi t k n))
 |some _,.s (.aZ k n)=>plain [] (.s (.ifi t k n))
 |some _,.s (.str s)=>plain [] (.s (.ifs t s))
 |some _,.s (.bool b)=>plain [] (.s (.ifb t b))
 |some _,.s (.aI b)=>plain [] (.s (.ifb t b))
 |_,_=>.fail "interface: of what?"
def ahI(P:Program)(S:ak6)(ev:Operand→AV)(o:Oper):RM bx:=
 match o.op with
 |.move x|.assign x=>plain [] (ev x)
 |.pick c a b=>oT "pick" (ahy (ev c) (ev a) (ev b))
 |.alloc t=>acN P t
 |.box t x=>ao3 t (ev x)
 |.makeInterface t x=>ao9 P t (ev x)
 |.build t ps=>acO P t (ps.toList.map fun p=>(p.1,ev p.2))
 |.buildSlice t n ps=>mH P t n (ps.toList.map fun p=>(p.1,ev p.2))
 |.load t a=>aef P t (ev a)
 |.store t a x=>acK P t (ev a) (ev x)
 |.nilCheck x=>q8 (ev x)
 |.binOp op t x y _=>oT "binOp" (ak2 P op t (ev x) (ev y))
 |.unOp op _ x=>oT "unOp" (unR op (ev x))
 |.convert a b x=>bif ak5 P a b then tO P a b (ev x)else tN P a b (ev x)
 |.sliceToArrayPointer t x=>tP P t (ev x)
 |.entry x=>acS (ev x)
 |.makeFunc fn a b=>q9 fn (a.toList.map ev) (b.toList.map ev)
 |.slice t x l h m=>acR P t (ev x) (l.map ev) (h.map ev) (m.map ev)
 |.fieldAddr t x f=>oU P t (ev x) f
 |.field t x f=>acM P t (ev x) f
 |.indexAddr t x i=>oV P t (ev x) (ev i)
 |.index t x i=>acL P t (ev x) (ev i)
 |.extract x i=>tL (ev x) i
 |.lookup t x i ok=>yE P t (ev x) (ev i) ok
 |.mapUpdate t x i v|.insert t x i v=>o8 P t (ev x) (ev i) (ev v)
 |.makeMap t r=>tT P t (r.map ev)
 |.makeSlice t l c=>oZ P t (ev l) (ev c)
 |.call c=>match c.callee with
  |.value f=>match ev f with
   |.s (.kV f)=>aej P S f (c.args.toList.map ev)
   |.fn f ej=>aej P S f (c.args.toList.map ev++ej)
   |_=>.fail "call: what?"
  |.builtin b=>aao P b c.argTypes.toList (c.args.toList.map ev)
  |_=>.fail "call: invoke"
 |_=>.fail "op"
def apa:AV→Bool
 |.s (.mi _)|.s (.ov _)=>true
 |_=>false
def yG(op:BinOp)(x y:AV):RM bx:=
 match op,x.dc,y with
 |.gtr,some (.i64,_,a),.s (.mi b)=>plain [a≤(b:Int)] (.s (.aI false))
 |.gtr,some (.i64,_,a),.s (.ov b)=>plain [(b:Int)≤a] (.s (.aI true))
 |_,_,_=>.fail "cap: compared"
def RM.af4{α:Type}(id:Nat):RM α→RM α
 |.ret a=>.ret a
 |.look j k=>bif j.beq id then(k (some .dead)).af4 id else .look j fun o=>(k o).af4 id
 |.fail w=>.fail w
def RM.lW(id:Nat):RM bx→RM bx
 |.ret q=>.ret {q with up:=(id,.dead)::q.up}
 |.look j k=>.look j fun o=>(k o).lW id
 |.fail w=>.fail w
def ahJ(id:Nat)(c:aF)(ev:Operand→AV):Operand→AV:=fun x=>match ev x with
 |.vec j=>bif j.beq id then .s (.ro c)else .vec j
 |a=>a
def giveUp:List Nat→(Operand→AV)→((Operand→AV)→RM bx)→RM bx
 |[],ev,k=>k ev
 |id::ids,ev,k=>.look id fun o=>match o with
  |some (.vec c _)=>((giveUp ids (ahJ id c ev) k).af4 id).lW id
  |_=>.fail "give up: no row"
def ahK(ev:Operand→AV)(ps:List (Nat×Operand)):List Nat:=ps.filterMap fun p=>match ev p.2 with
 |.vec j=>some j
 |_=>none
def og(P:Program)(S:ak6)(ev:Operand→AV)(o:Oper):RM bx:=
 match o.op with
 |.binOp op t x y _=>bif acT (ev y)then ao8 P op t (oz (ev x))else bif apa (ev y)then yG op (oz (ev x)) (ev y)else oT "binOp" (ak2 P op t (oz (ev x)) (ev y))
 |.buildSlice _ _ ps=>giveUp (ahK ev ps.toList) (fun x=>oz (ev x)) fun ev=>ahI P S ev o
 |_=>ahI P S (fun x=>oz (ev x)) o
end Go.Sx
namespace Go.Sx
open Go
def bt:List Prop→Prop
 |[]=>True
 |p::ps=>p∧bt ps
theorem aX{k k':IntKind}(h:bF k k'=true):k=k':=by
 cases k<;>cases k'<;>first|rfl|(simp[bF]at h)
theorem mJ{k:IntKind}(h:ow k=true):k=.i64:=by
 cases k<;>first|rfl|(simp[ow]at h)
theorem b9{n:Int}(h:aD n):IntKind.i64.wrap n=n:=by
 obtain⟨h1,h2⟩:=h
 rw[IntKind.wrap_i64]
 omega
section
variable{ρ:Nat→Value}{H:aG}{O:Nat→Prop}{w:World}{P:Program}
theorem aq{x:SV}{v:Value}(h:aJ O w x v):ab ρ H O w (.s x) v:=by
 cases x<;>unfold ab<;>first|trivial|exact h
theorem ah{x:SV}{v:Value}(hx:x≠.aQ)(h:ab ρ H O w (.s x) v):aJ O w x v:=by
 cases x<;>unfold ab at h<;>first|exact(hx rfl).elim|exact h
theorem bR{x:AV}{v:Value}{k:IntKind}{l:Bool}{n:Int}(h:x.dc =some (k,l,n))(hd:ab ρ H O w x v):v=.int k n:=by
 cases x with
 |s x=>
  cases x<;>simp only[AV.dc,Option.some.injEq,Prod.mk.injEq,reduceCtorEq]at h
  all_goals
   obtain⟨rfl, -,rfl⟩:=h
   have:=ah (by simp) hd
   cases this
   rfl
 |_=>simp[AV.dc]at h
theorem jE{x:AV}{v:Value}{l b:Bool}(h:x.iY =some (l,b))(hd:ab ρ H O w x v):v=.bool b:=by
 cases x with
 |s x=>
  cases x<;>simp only[AV.iY,Option.some.injEq,Prod.mk.injEq,reduceCtorEq]at h
  all_goals
   obtain⟨-,rfl⟩:=h
   have:=ah (by simp) hd
   cases this
   rfl
 |_=>simp[AV.iY]at h
theorem fa{s:ByteArray}{v:Value}(hd:ab ρ H O w (.s (.str s)) v):v=.string s:=by
 have:=ah (by simp) hd
 cases this
 rfl
theorem gq(l:Bool)(k:IntKind)(n:Int):ab ρ H O w (mkInt l k n) (.int k n):=by
 unfold mkInt
 cases l
 ·exact aq (.int k n)
 ·exact aq (.aZ k n)
theorem o9(l:Bool)(b:Bool):ab ρ H O w (kK l b) (.bool b):=by
 unfold kK
 cases l
 ·exact aq (.bool b)
 ·exact aq (.aI b)
theorem kW{l:Bool}{k:IntKind}{n:Int}(h:bt (mE l k n).1):ab ρ H O w (mE l k n).2 (.int k (k.wrap n)):=by
 unfold mE at *
 cases l
 ·cases hk:ow k
  ·exact aq (.int _ _)
  ·simp only[hk,cond_true,cond_false,bt,and_true]at h ⊢
   obtain rfl:=mJ hk
   rw[b9 h]
   exact aq (.int _ _)
 ·exact aq (.aZ _ _)
theorem gr(op:BinOp)(t:TypeId)(x y:Operand)(k k':IntKind)(a b:Int):(eqGuard op t x y (.int k a) (.int k' b)).run P w=.ok () w:=by
 cases op<;>simp[eqGuard]
theorem aap(op:BinOp)(t:TypeId)(x y:Operand)(a b:ByteArray):(eqGuard op t x y (.string a) (.string b)).run P w=.ok () w:=by
 cases op<;>simp[eqGuard]
theorem yH(op:BinOp)(t:TypeId)(x y:Operand)(a b:Bool):(eqGuard op t x y (.bool a) (.bool b)).run P w=.ok () w:=by
 cases op<;>simp[eqGuard]
theorem mK(op:BinOp)(t:TypeId)(x y:Operand)(a b:Option Addr):(eqGuard op t x y (.pointer a) (.pointer b)).run P w=.ok () w:=by
 cases op<;>simp[eqGuard]
theorem ak7{l:Bool}{k:IntKind}{x y:Int}{q:List Prop×AV}
 (h:(bif l then([y≠0],AV.s (.aZ k (k.wrap (x.tdiv y))))else bif ow k then([y≠0,aD (x.tdiv y)],.s (.int k (x.tdiv y)))else([y≠0],.s (.int k (k.wrap (x.tdiv y)))))=q)
 (hn:bt q.1):y≠0∧ab ρ H O w q.2 (.int k (k.wrap (x.tdiv y))):=by
 subst h
 cases l
 ·cases hk:ow k
  ·simp only[hk,cond_false,bt,and_true]at hn ⊢
   exact⟨hn,aq (.int _ _)⟩
  ·simp only[hk,cond_true,cond_false,bt,and_true]at hn ⊢
   obtain rfl:=mJ hk
   rw[b9 hn.2]
   exact⟨hn.1,aq (.int _ _)⟩
 ·simp only[cond_true,bt,and_true]at hn ⊢
  exact⟨hn,aq (.aZ _ _)⟩
theorem rb{op:BinOp}{t:TypeId}{k:IntKind}{lx ly:Bool}{x y:Int}{q:List Prop×AV}(h:tK op k lx ly x y=some q)(hn:bt q.1):
 ∃v,(binOp op t (.int k x) (.int k y)).run P w=.ok v w∧ab ρ H O w q.2 v:=by
 cases op<;>simp only[tK,Option.some.injEq,reduceCtorEq]at h
 case add=>subst h;exact⟨_,by simp[binOp,Op.intArith],kW hn⟩
 case sub=>subst h;exact⟨_,by simp[binOp,Op.intArith],kW hn⟩
 case mul=>subst h;exact⟨_,by simp[binOp,Op.intArith],kW hn⟩
 case quo=>
  obtain⟨h0,hd⟩:=ak7 (ρ:=ρ) (H:=H) (O:=O) (w:=w) h hn
  exact⟨_,by simp[binOp,Op.intDiv,h0],hd⟩
 case rem=>
  subst h
  have h0:y≠0:=by simpa[bt]using hn
  exact⟨_,by simp[binOp,Op.intDiv,h0],gq _ _ _⟩
 case and=>subst h;exact⟨.int k (bB .and k x y),by simp[binOp,Op.intBits,bB],gq _ _ _⟩
 case or=>subst h;exact⟨.int k (bB .or k x y),by simp[binOp,Op.intBits,bB],gq _ _ _⟩
 case xor=>subst h;exact⟨.int k (bB .xor k x y),by simp[binOp,Op.intBits,bB],gq _ _ _⟩
 case andNot=>subst h;exact⟨.int k (bB .andNot k x y),by simp[binOp,Op.intBits,bB],gq _ _ _⟩
 all_goals subst h;exact⟨_,by simp[binOp,Op.intCmp],o9 _ _⟩
theorem xi{op:BinOp}{t:TypeId}{k k':IntKind}{l:Bool}{x y:Int}{q:List Prop×AV}(h:acC op k l x y=some q)(hn:bt q.1):
 ∃v,(binOp op t (.int k x) (.int k' y)).run P w=.ok v w∧ab ρ H O w q.2 v:=by
 cases op<;>simp only[acC,Option.some.injEq,reduceCtorEq]at h
 all_goals
  subst h
  have h0:0≤y:=by simpa[bt]using hn
  exact⟨_,by simp[binOp,Op.shift,Int.not_lt.2 h0],gq _ _ _⟩
theorem acU(a b:ByteArray):(a.toList==b.toList)=decide (a=b):=by
 rw[ByteArray.toList_eq,ByteArray.toList_eq,Bool.eq_iff_iff]
 simp only[beq_iff_eq,decide_eq_true_eq]
 constructor
 ·intro h
  cases a;cases b
  simp only[ByteArray.mk.injEq]at *
  exact Array.toList_inj.1 h
 ·rintro rfl;rfl
theorem af5{op:BinOp}{t:TypeId}{x y:ByteArray}{q:List Prop×AV}(h:acD op x y=some q)(hn:bt q.1):
 ∃v,(binOp op t (.string x) (.string y)).run P w=.ok v w∧ab ρ H O w q.2 v:=by
 cases op<;>simp only[acD,Option.some.injEq,reduceCtorEq]at h
 case add=>
  subst h
  have h0:x.size+y.size≤4611686018427387904:=by simpa[bt]using hn
  exact⟨.string (x++y),by simp[binOp,Op.stringOp];omega,aq (.str _)⟩
 all_goals subst h;exact⟨_,by simp only[binOp,Op.stringOp,acU];rfl,by first|exact aq (.bool _)|(simp only[slt,ByteArray.toList_eq];exact aq (.bool _))⟩
theorem apb{op:UnOp}{x:AV}{vx:Value}{q:List Prop×AV}(h:unR op x=some q)(hn:bt q.1)(hx:ab ρ H O w x vx):
 ∃v,(Op.unary op vx).run P w=.ok v w∧ab ρ H O w q.2 v:=by
 unfold unR at h
 split at h<;>simp only[Option.some.injEq,reduceCtorEq]at h<;>subst h
 ·have h1:=ah (by simp) hx
  cases h1
  exact⟨_,by simp only[Op.unary,Sem.run_pure],aq (.bool _)⟩
 ·have h1:=ah (by simp) hx
  cases h1
  exact⟨_,by simp only[Op.unary,Sem.run_pure],aq (.aI _)⟩
 ·have h1:=ah (by simp) hx
  cases h1
  exact⟨_,by simp only[Op.unary,Op.intArith,Sem.run_pure],kW hn⟩
 ·have h1:=ah (by simp) hx
  cases h1
  exact⟨_,by simp only[Op.unary,Op.intArith,Sem.run_pure],kW hn⟩
theorem ahL{c a b:AV}{vc va vb:Value}{q:List Prop×AV}(h:ahy c a b=some q)(hc:ab ρ H O w c vc)(ha:ab ρ H O w a va)(hb:ab ρ H O w b vb):
 ∃t,vc=.bool t∧ab ρ H O w q.2 (if t then va else vb):=by
 unfold ahy at h
 split at h
 ·simp only[Option.some.injEq]at h
  subst h
  have h1:=ah (by simp) hc
  cases h1
  exact⟨true,rfl,ha⟩
 ·simp only[Option.some.injEq]at h
  subst h
  have h1:=ah (by simp) hc
  cases h1
  exact⟨false,rfl,hb⟩
 ·rename_i t
  have h1:=ah (by simp) hc
  cases h1
  refine⟨t,rfl, ?_⟩
  split at h
  ·rename_i la x lb y h2 h3
   simp only[Option.some.injEq]at h
   subst h
   obtain rfl:=jE h2 ha
   obtain rfl:=jE h3 hb
   cases t
   ·exact aq (.bool _)
   ·exact aq (.bool _)
  ·split at h
   ·rename_i k la x k' lb y h2 h3
    rw[Bool.cond_eq_ite]at h
    split at h
    ·rename_i hk
     obtain rfl:=aX hk
     simp only[Option.some.injEq]at h
     subst h
     obtain rfl:=bR h2 ha
     obtain rfl:=bR h3 hb
     cases t
     ·exact aq (.int _ _)
     ·exact aq (.int _ _)
    ·cases h
   ·cases h
 ·cases h
end
end Go.Sx
namespace Go.Sx
open Go
def yI(fr:Nat×Nat)(cells:List Value):Prop:=(∀off,off≤cells.length→¬(fr.1≤off∧off<fr.2))∧∀u∈cells,u.oneCell'=true
def unm(fr:Nat×Nat)(n:Nat):Prop:=∀off,off<n→¬(fr.1≤off∧off<fr.2)
theorem yI.unm{fr:Nat×Nat}{cells:List Value}(h:yI fr cells):unm fr cells.length:=fun off ho=>h.1 off (Nat.le_of_lt ho)
theorem yI.over{fr:Nat×Nat}{cells news:List Value}{k:Nat}(h:yI fr cells)(hn:∀v∈news,v.oneCell'=true)(hl:k+news.length≤cells.length):yI fr (cells.take k++news++cells.drop (k+news.length)):=by
 refine⟨fun off ho=>h.1 off ?_,fun u hu=> ?_⟩
 ·simp only[List.length_append,List.length_take,List.length_drop]at ho;omega
 ·simp only[List.mem_append]at hu
  rcases hu with(hu|hu)|hu
  ·exact h.2 u (List.mem_of_mem_take hu)
  ·exact hn u hu
  ·exact h.2 u (List.mem_of_mem_drop hu)
def CK.val:(c:CK)→c.V→Value
 |.int k,v=>.int k v
 |.bool,v=>.bool v
 |.str,v=>.string v
 |.arr k _,v=>.agg (List.map (α:=Int) (Value.int k) v).toArray
 |_,_=>undef
def CK.fits:(c:CK)→c.V→Prop
 |.arr _ n,v=>List.length (α:=Int) v=n
 |_,_=>True
structure iJ (ck:CK) (m:List (Int×ck.V)) (es:List MapEntry) (clock:Nat):Prop where
 eq:es.map (fun e=>(e.key,e.val))=m.map (fun p=>(Value.int .i64 p.1,ck.val p.2))
 keys:(m.map (·.1)).Nodup
 xj:(es.map (·.born)).Nodup
 old:∀e∈es,e.born<clock
 fits:∀p∈m,ck.fits p.2
def af6(es:Array MapEntry)(clock:Nat):Value:=.tuple #[.int .i64 clock,.tuple (es.map fun e=>.tuple #[e.key,e.val,.int .i64 (e.born:Int)])]
structure tV (ck:CK) (left:List (Int×ck.V)) (cur:Option (Int×ck.V)) (es:Array MapEntry) (clock:Nat) (seen:Array Nat):Prop where
 eq:(es.toList.filter fun e=> !seen.contains e.born).map (fun e=>(e.key,e.val))=left.map (fun p=>(.int .i64 p.1,ck.val p.2))
 fits:∀p∈left,ck.fits p.2
 xj:(es.toList.map (·.born)).Nodup
 old:∀e∈es.toList,e.born<clock
 cur:∀p,cur=some p→ck.fits p.2∧∃e,e∈es.toList∧seen.back? =some e.born∧e.key=.int .i64 p.1∧e.val=ck.val p.2
def ig(ρ:Nat→Value)(H:aG)(O:Nat→Prop)(w:World)(root:Value):ad→Prop
 |.dead=>True
 |.map ck m=>∃(b:Nat) (es:Array MapEntry) (clock:Nat),root=.map (some b)∧w.heap[b]? =some (.map es clock)∧iJ ck m es.toList clock
 |.wA ck m gid=>∃(b:Nat) (es:Array MapEntry) (clock:Nat),root=.map (some b)∧w.heap[b]? =some (.map es clock)∧iJ ck m es.toList clock∧ρ gid=af6 es clock∧(H gid).isSome=true
 |.iter mid gid ck left cur=>∃(b mb:Nat) (es:Array MapEntry) (clock:Nat) (seen:Array Nat),root=.pointer (some ⟨b,0,none⟩)∧w.heap[b]? =some (.mapIter (some mb) clock seen clock)∧tV ck left cur es clock seen∧
  ρ gid=af6 es clock∧(H gid).isSome=true∧ρ mid=.map (some mb)∧(H mid).isSome=true
 |.own ak e=>∃(b:Nat) (cells:List Value) (fr:Nat×Nat),root=.pointer (some ⟨b,0,none⟩)∧w.heap[b]? =some (.cells cells.toArray e fr)∧unm fr cells.length∧an ρ H O w ak cells
 |.vec c e=>∃(a:Option Addr) (cap:Nat),root=.slice a c.n cap∧c.n≤cap∧cap≤maxLen∧(cap=0∨
  ∃(b o:Nat) (cells:List Value) (fr:Nat×Nat) (us:Nat→Nat→Value),a=some ⟨b,o,none⟩∧w.heap[b]? =some (.cells cells.toArray e fr)∧yI fr cells∧o+cap*c.size≤cells.length∧
   ∀i j,i<c.n→j<c.size→cells[o+i*c.size+j]? =some (us i j)∧aJ O w (c.cell i j) (us i j))
structure Sat (ρ:Nat→Value) (H:aG) (G:Nat→Prop) (w:World):Prop where
 obj:∀id o,H id=some o→ig ρ H (aK ρ H G) w (ρ id) o
 inj:∀i j oi oj b,H i=some oi→H j=some oj→oi.alive=true→oj.alive=true→eh (ρ i)=some b→eh (ρ j)=some b→i=j
 apart:∀b,Own ρ H b→¬G b
 low:∀b,G b→b<w.heap.size
structure Frm (ρ:Nat→Value) (H:aG) (w w':World):Prop where
 os:w'.os=w.os
 tape:w'.tape=w.tape
 output:w'.output=w.output
 heap:∀b,b<w.heap.size→¬Own ρ H b→w'.heap[b]? =w.heap[b]?
def Good(ρ:Nat→Value)(H:aG)(G:Nat→Prop)(w:World)(H':aG)(r:AV)(v:Value)(w':World):Prop:=
 ∃az,Sat az H' G w'∧ab az H' (aK az H' G) w' r v∧Step ρ H (aK ρ H G) w az H' (aK az H' G) w'∧Frm ρ H w w'
section
variable{ρ az:Nat→Value}{H H':aG}{G O O':Nat→Prop}{w w':World}{P:Program}
theorem ig.step(st:Step ρ H O w az H' O' w'){root:Value}{o:ad}(h:ig ρ H O w root o)(hb:∀b,o.alive=true→eh root=some b→w'.heap[b]? =w.heap[b]?):
 ig az H' O' w' root o:=by
 cases o with
 |dead=>trivial
 |map ck m=>
  obtain⟨b,es,clock,rfl,h1,h2⟩:=h
  exact⟨b,es,clock,rfl,by rw[hb b rfl rfl];exact h1,h2⟩
 |wA ck m gid=>
  obtain⟨b,es,clock,rfl,h1,h2,h3,h4⟩:=h
  obtain⟨o,ho⟩:=Option.isSome_iff_exists.1 h4
  obtain⟨o',dd,_⟩:=st.eU gid o ho
  exact⟨b,es,clock,rfl,by rw[hb b rfl rfl];exact h1,h2,by rw[st.xf gid o ho];exact h3,by rw[dd];rfl⟩
 |iter mid gid ck left cur=>
  obtain⟨b,mb,es,clock,seen,rfl,h1,h2,h3,h4,h5,h6⟩:=h
  obtain⟨o,ho⟩:=Option.isSome_iff_exists.1 h4
  obtain⟨o',dd,_⟩:=st.eU gid o ho
  obtain⟨p,hp⟩:=Option.isSome_iff_exists.1 h6
  obtain⟨p',wv,_⟩:=st.eU mid p hp
  exact⟨b,mb,es,clock,seen,rfl,by rw[hb b rfl rfl];exact h1,h2,by rw[st.xf gid o ho];exact h3,by rw[dd];rfl,by rw[st.xf mid p hp];exact h5,by rw[wv];rfl⟩
 |own ak e=>
  obtain⟨b,cells,fr,rfl,h1,h2,h3⟩:=h
  exact⟨b,cells,fr,rfl,by rw[hb b rfl rfl];exact h1,h2,h3.step st⟩
 |vec c e=>
  obtain⟨a,cap,rfl,h1,h2,h3⟩:=h
  refine⟨a,cap,rfl,h1,h2, ?_⟩
  rcases h3 with h3|⟨b,o,cells,fr,us,rfl,h4,h5,h6,h7⟩
  ·exact .inl h3
  ·by_cases hc:cap=0
   ·exact .inl hc
   ·refine .inr ⟨b,o,cells,fr,us,rfl,by rw[hb b rfl (by simp[eh,hc])];exact h4,h5,h6,fun i j hi hj=> ?_⟩
    obtain⟨h8,h9⟩:=h7 i j hi hj
    exact⟨h8,h9.step st.fK st.heap st.size⟩
theorem Good.val(hs:Sat ρ H G w){r:AV}{v:Value}(h:ab ρ H (aK ρ H G) w r v):Good ρ H G w H r v w:=
 ⟨ρ,hs,h,Step.refl _ _ _ _,rfl,rfl,rfl,fun _ _ _=>rfl⟩
theorem gJ(hs:Sat ρ H G w){b:Nat}(h:Own ρ H b):b<w.heap.size:=by
 obtain⟨id,o,ho,ha,hb⟩:=h
 have dR:=hs.obj id o ho
 cases o with
 |dead=>simp[ad.alive]at ha
 |map ck m=>
  obtain⟨b',es,clock,h0,h1,_⟩:=dR
  rw[h0]at hb
  simp only[eh,Option.some.injEq]at hb
  subst hb
  exact(Array.getElem?_eq_some_iff.1 h1).1
 |wA ck m gid=>
  obtain⟨b',es,clock,h0,h1,_⟩:=dR
  rw[h0]at hb
  simp only[eh,Option.some.injEq]at hb
  subst hb
  exact(Array.getElem?_eq_some_iff.1 h1).1
 |iter mid gid ck left cur=>
  obtain⟨b',mb,es,clock,seen,h0,h1,_⟩:=dR
  rw[h0]at hb
  simp only[eh,Option.some.injEq]at hb
  subst hb
  exact(Array.getElem?_eq_some_iff.1 h1).1
 |own ak e=>
  obtain⟨b',cells,fr,h0,h1,_⟩:=dR
  rw[h0]at hb
  simp only[eh,Option.some.injEq]at hb
  subst hb
  exact(Array.getElem?_eq_some_iff.1 h1).1
 |vec c e=>
  obtain⟨a,cap,h0,h1,_,h3⟩:=dR
  rw[h0]at hb
  rcases h3 with rfl|⟨b',o,cells,fr,us,rfl,h4,_⟩
  ·cases a<;>simp[eh]at hb
  ·simp only[eh]at hb
   split at hb
   ·cases hb
   ·simp only[Option.some.injEq]at hb
    subst hb
    exact(Array.getElem?_eq_some_iff.1 h4).1
theorem yJ(hs:Sat ρ H G w){b:Nat}(h:aK ρ H G b):b<w.heap.size:=h.elim (gJ hs) (hs.low b)
theorem re:∀(x:AV) (cs:List Value),aC ρ H O w x cs→cs.length=x.wide:=by
 intro x cs h
 cases x<;>unfold aC at h
 case ints k n ws=>obtain⟨h1,rfl⟩:=h;simp[AV.wide,h1]
 case agg=>exact h.elim
 case bm=>exact h.elim
 all_goals (obtain⟨u,rfl,_⟩:=h;rfl)
theorem ao{cs:List Value}:an ρ H O w [] cs↔cs=[]:=by unfold an;exact Iff.rfl
theorem af{a:AV}{aA:List AV}{cs:List Value}:an ρ H O w (a::aA) cs↔ ∃c1 c2,cs=c1++c2∧aC ρ H O w a c1∧an ρ H O w aA c2:=by
 rw[an]
theorem aV{cs:List Value}:bz ρ H O w [] cs↔cs=[]:=by unfold bz;exact Iff.rfl
theorem aw{a:AV}{aA:List AV}{cs:List Value}:bz ρ H O w (a::aA) cs↔ ∃v rest,cs=v::rest∧ab ρ H O w a v∧bz ρ H O w aA rest:=by
 rw[bz]
theorem fg{aA bs:List AV}:∀{cs:List Value},an ρ H O w (aA++bs) cs↔ ∃c1 c2,cs=c1++c2∧an ρ H O w aA c1∧an ρ H O w bs c2:=by
 induction aA with
 |nil=>
  intro cs
  simp only[List.nil_append,ao]
  exact⟨fun h=>⟨[],cs,rfl,rfl,h⟩,fun⟨c1,c2,h1,h2,h3⟩=>by subst h2;subst h1;exact h3⟩
 |cons a aA ih=>
  intro cs
  simp only[List.cons_append,af,ih]
  constructor
  ·rintro⟨c1,c2,rfl,h1,c3,c4,rfl,h2,h3⟩
   exact⟨c1++c3,c4,by simp,⟨c1,c3,rfl,h1,h2⟩,h3⟩
  ·rintro⟨c1,c2,rfl,⟨c3,c4,rfl,h1,h2⟩,h3⟩
   exact⟨c3,c4++c2,by simp,h1,c4,c2,rfl,h2,h3⟩
theorem iK:∀{aA:List AV} {cs:List Value},an ρ H O w aA cs→cs.length=fH aA
 |[],cs,h=>by rw[ao.1 h];rfl
 |a::aA,cs,h=>by
  obtain⟨c1,c2,rfl,h1,h2⟩:=af.1 h
  simp[fH,re a c1 h1,iK h2]
theorem fh:∀(ak:List AV) (n:Nat) {cs:List Value} {ss:List AV},fb ak n=some ss→an ρ H O w ak cs→n≤cs.length∧an ρ H O w ss (cs.drop n)
 |ak,0,cs,ss,h,hd=>by
  cases ak<;>(simp only[fb,Option.some.injEq]at h;subst h;exact⟨Nat.zero_le _,by simpa using hd⟩)
 |[],n+1,cs,ss,h,hd=>by simp[fb]at h
 |a::aA,n+1,cs,ss,h,hd=>by
  obtain⟨c1,c2,rfl,h1,h2⟩:=af.1 hd
  simp only[fb,Bool.cond_eq_ite]at h
  split at h
  ·rename_i hw
   have hw:=Nat.le_of_ble_eq_true hw
   obtain⟨h3,h4⟩:=fh aA _ h h2
   have hl:=re a c1 h1
   refine⟨by simp;omega, ?_⟩
   rw[List.drop_append]
   have e1:c1.drop (n+1)=[]:=List.drop_eq_nil_of_le (by omega)
   rw[e1,List.nil_append,hl]
   exact h4
  ·cases h
theorem fi:∀(ak:List AV) (n:Nat) {cs:List Value} {ss:List AV},fc ak n=some ss→an ρ H O w ak cs→n≤cs.length∧an ρ H O w ss (cs.take n)
 |ak,0,cs,ss,h,hd=>by
  cases ak<;>(simp only[fc,Option.some.injEq]at h;subst h;exact⟨Nat.zero_le _,by simp[ao]⟩)
 |[],n+1,cs,ss,h,hd=>by simp[fc]at h
 |a::aA,n+1,cs,ss,h,hd=>by
  obtain⟨c1,c2,rfl,h1,h2⟩:=af.1 hd
  simp only[fc,Bool.cond_eq_ite]at h
  split at h
  ·rename_i hw
   simp only[Bool.and_eq_true]at hw
   have hw1:=Nat.le_of_ble_eq_true hw.1
   have hw2:=Nat.le_of_ble_eq_true hw.2
   simp only[Option.map_eq_some_iff]at h
   obtain⟨ss',h3,rfl⟩:=h
   obtain⟨h4,h5⟩:=fi aA _ h3 h2
   have hl:=re a c1 h1
   refine⟨by simp;omega,af.2 ⟨c1,c2.take (n+1 - a.wide), ?_,h1,h5⟩⟩
   rw[List.take_append,hl,List.take_of_length_le (by omega)]
  ·cases h
theorem fj{a:AV}{cs:List Value}(h:aC ρ H O w a cs)(ha:a.wide=1)(hi:∀k n ws,a≠.ints k n ws):∃u,cs=[u]∧u.oneCell'=true∧ab ρ H O w a u:=by
 cases a<;>unfold aC at h
 case ints k n ws=>exact(hi k n ws rfl).elim
 case agg=>exact h.elim
 case bm=>exact h.elim
 case ag id=>obtain⟨u,rfl,h1⟩:=h;exact⟨u,rfl,by unfold ay at h1;obtain⟨b,_,rfl,_⟩:=h1;rfl,by unfold ab;exact h1⟩
 case tag id=>obtain⟨u,rfl,h1⟩:=h;exact⟨u,rfl,by unfold ay at h1;exact h1.2.1,by unfold ab;exact h1⟩
 case s x=>obtain⟨u,rfl,h1⟩:=h;exact⟨u,rfl,h1.one,aq h1⟩
 case ptr id off=>obtain⟨u,rfl,h1⟩:=h;exact⟨u,rfl,by unfold ay at h1;obtain⟨b,_,rfl,_⟩:=h1;rfl,by unfold ab;exact h1⟩
 case jM id off n i=>obtain⟨u,rfl,h1⟩:=h;exact⟨u,rfl,by unfold ay at h1;obtain⟨_,b,_,rfl,_⟩:=h1;rfl,by unfold ab;exact h1⟩
 case jt c m j=>obtain⟨u,rfl,h1⟩:=h;exact⟨u,rfl,by unfold ay at h1;obtain⟨b,o,us,rfl,_⟩:=h1;rfl,by unfold ab;exact h1⟩
 case vec id=>obtain⟨u,rfl,h1⟩:=h;exact⟨u,rfl,by unfold ay at h1;exact h1.1,by unfold ab;exact h1⟩
 case ga id i j=>obtain⟨u,rfl,h1⟩:=h;exact⟨u,rfl,by unfold ay at h1;exact h1.1,by unfold ab;exact h1⟩
 case part id lo n=>obtain⟨u,rfl,h1⟩:=h;exact⟨u,rfl,by unfold ay at h1;exact h1.1,by unfold ab;exact h1⟩
 case sub id off n=>obtain⟨u,rfl,h1⟩:=h;exact⟨u,rfl,by unfold ay at h1;exact h1.1,by unfold ab;exact h1⟩
 case kg id i j n=>obtain⟨u,rfl,h1⟩:=h;exact⟨u,rfl,by unfold ay at h1;exact h1.1,by unfold ab;exact h1⟩
 case emp=>obtain⟨u,rfl,a,rfl⟩:=h;exact⟨_,rfl,rfl,by unfold ab;exact⟨a,rfl⟩⟩
 case fn f ej=>obtain⟨u,rfl,vs,rfl,h1⟩:=h;exact⟨_,rfl,rfl,by unfold ab;exact⟨vs,rfl,h1⟩⟩
theorem jO{a:AV}{u:Value}(ha:a.single=true)(h:ab ρ H O w a u):aC ρ H O w a [u]∧u.oneCell'=true:=by
 cases a<;>simp only[AV.single,reduceCtorEq]at ha
 case s x=>
  have h1:aJ O w x u:=ah (by rintro rfl;simp at ha) h
  exact⟨by unfold aC;exact⟨u,rfl,h1⟩,h1.one⟩
 case ptr id off=>unfold ab at h;exact⟨by unfold aC;exact⟨u,rfl,h⟩,by unfold ay at h;obtain⟨b,_,rfl,_⟩:=h;rfl⟩
 case jM id off n i=>unfold ab at h;exact⟨by unfold aC;exact⟨u,rfl,h⟩,by unfold ay at h;obtain⟨_,b,_,rfl,_⟩:=h;rfl⟩
 case jt c m j=>unfold ab at h;exact⟨by unfold aC;exact⟨u,rfl,h⟩,by unfold ay at h;obtain⟨b,o,us,rfl,_⟩:=h;rfl⟩
 case vec id=>unfold ab at h;exact⟨by unfold aC;exact⟨u,rfl,h⟩,by unfold ay at h;exact h.1⟩
 case ga id i j=>unfold ab at h;exact⟨by unfold aC;exact⟨u,rfl,h⟩,by unfold ay at h;exact h.1⟩
 case part id lo n=>unfold ab at h;exact⟨by unfold aC;exact⟨u,rfl,h⟩,by unfold ay at h;exact h.1⟩
 case sub id off n=>unfold ab at h;exact⟨by unfold aC;exact⟨u,rfl,h⟩,by unfold ay at h;exact h.1⟩
 case kg id i j n=>unfold ab at h;exact⟨by unfold aC;exact⟨u,rfl,h⟩,by unfold ay at h;exact h.1⟩
 case emp=>unfold ab at h;exact⟨by unfold aC;exact⟨u,rfl,h⟩,by obtain⟨a,rfl⟩:=h;rfl⟩
 case fn f ej=>unfold ab at h;exact⟨by unfold aC;exact⟨u,rfl,h⟩,by obtain⟨vs,rfl,_⟩:=h;rfl⟩
 case ag id=>unfold ab at h;exact⟨by unfold aC;exact⟨u,rfl,h⟩,by unfold ay at h;obtain⟨b,_,rfl,_⟩:=h;rfl⟩
 case tag id=>unfold ab at h;exact⟨by unfold aC;exact⟨u,rfl,h⟩,by unfold ay at h;exact h.2.1⟩
theorem gb{a:AV}(h:∀k n ws,a≠.ints k n ws):a.wide=1:=by
 cases a<;>first|rfl|(exact(h _ _ _ rfl).elim)
end
end Go.Sx
namespace Go.Sx
open Go
section
variable{ρ az:Nat→Value}{H H':aG}{G O O':Nat→Prop}{w w':World}{P:Program}
theorem yK{a:AV}(h:∀k n ws,a≠.ints k n ws)(aA:List AV)(off:Nat):cellAt (a::aA) off=match off with|0=>some a|m+1=>cellAt aA m:=by
 cases a<;>first|(cases off<;>rfl)|(exact(h _ _ _ rfl).elim)
theorem s6{a:AV}(h:∀k n ws,a≠.ints k n ws)(aA:List AV)(off:Nat)(v:AV):gl (a::aA) off v=match off with|0=>some (v::aA)|m+1=>(gl aA m v).map (a:: ·):=by
 cases a<;>first|(cases off<;>rfl)|(exact(h _ _ _ rfl).elim)
theorem pR{a:AV}(h:∀k n ws,a≠.ints k n ws)(aA:List AV)(off:Nat):iZ (a::aA) off=match off with|0=>none|m+1=>iZ aA m:=by
 cases a<;>first|(cases off<;>rfl)|(exact(h _ _ _ rfl).elim)
theorem tW{a:AV}(h:∀k n ws,a≠.ints k n ws)(aA:List AV)(off:Nat)(v:List Int):jN (a::aA) off v=match off with|0=>none|m+1=>(jN aA m v).map (a:: ·):=by
 cases a<;>first|(cases off<;>rfl)|(exact(h _ _ _ rfl).elim)
theorem rf(a:AV):(∃k n ws,a=.ints k n ws)∨∀k n ws,a≠.ints k n ws:=by
 cases a<;>first|(exact .inl ⟨_,_,_,rfl⟩)|(exact .inr (by simp))
theorem cC{k:IntKind}{n:Nat}{ws:List Int}{cs:List Value}:aC ρ H O w (.ints k n ws) cs↔ws.length=n∧cs=ws.map (Value.int k):=by
 unfold aC;exact Iff.rfl
theorem kX:∀(ak:List AV) (off:Nat) {cs:List Value} {v:AV},cellAt ak off=some v→an ρ H O w ak cs→∃u,cs[off]? =some u∧u.oneCell'=true∧ab ρ H O w v u
 |[],off,cs,v,h,_=>by simp[cellAt]at h
 |a::aA,off,cs,v,h,hd=>by
  obtain⟨c1,c2,rfl,h1,h2⟩:=af.1 hd
  rcases rf a with⟨k,n,ws,rfl⟩|ha
  ·obtain⟨hl,rfl⟩:=cC.1 h1
   simp only[cellAt,Bool.cond_eq_ite]at h
   split at h
   ·rename_i bg
    have bg:off<n:=by simpa[Nat.blt,Nat.lt_iff_add_one_le]using bg
    simp only[Option.some.injEq]at h
    subst h
    have hx:off<ws.length:=by omega
    exact⟨.int k ws[off],by rw[List.getElem?_append_left (by simpa using hx)];simp[hx],rfl,by rw[show ws.getD off 0=ws[off]from by simp[List.getD,hx]];exact aq (.int _ _)⟩
   ·rename_i bg
    have bg:¬off<n:=by simpa[Nat.blt,Nat.lt_iff_add_one_le]using bg
    obtain⟨u,h3,h4⟩:=kX aA (off - n) h h2
    exact⟨u,by rw[List.getElem?_append_right (by simp;omega)];simpa[hl]using h3,h4⟩
  ·rw[yK ha]at h
   obtain⟨u,rfl,h3,h4⟩:=fj h1 (gb ha) ha
   cases off with
   |zero=>simp only[Option.some.injEq]at h;subst h;exact⟨u,rfl,h3,h4⟩
   |succ m=>
    obtain⟨u',h5,h6⟩:=kX aA m h h2
    exact⟨u',by simpa using h5,h6⟩
theorem lX:∀(ak:List AV) (off:Nat) {cs:List Value} {v:AV} {u:Value} {ew:List AV},gl ak off v=some ew→an ρ H O w ak cs→v.single=true→ab ρ H O w v u→
 off<cs.length∧an ρ H O w ew (cs.set off u)
 |[],off,cs,v,u,ew,h,_,_,_=>by simp[gl]at h
 |a::aA,off,cs,v,u,ew,h,hd,hv,hu=>by
  obtain⟨c1,c2,rfl,h1,h2⟩:=af.1 hd
  rcases rf a with⟨k,n,ws,rfl⟩|ha
  ·obtain⟨hl,rfl⟩:=cC.1 h1
   simp only[gl,Bool.cond_eq_ite]at h
   split at h
   ·rename_i bg
    have bg:off<n:=by simpa[Nat.blt,Nat.lt_iff_add_one_le]using bg
    split at h
    ·rename_i k' l x hx
     split at h
     ·rename_i hk
      obtain rfl:=aX hk
      simp only[Option.some.injEq]at h
      subst h
      obtain rfl:=bR hx hu
      refine⟨by simp;omega,af.2 ⟨(ws.set off x).map (Value.int k),c2, ?_,cC.2 ⟨by simp[hl],rfl⟩,h2⟩⟩
      rw[List.set_append_left _ _ (by simp;omega),List.map_set]
     ·cases h
    ·cases h
   ·rename_i bg
    have bg:¬off<n:=by simpa[Nat.blt,Nat.lt_iff_add_one_le]using bg
    simp only[Option.map_eq_some_iff]at h
    obtain⟨ss,h3,rfl⟩:=h
    obtain⟨h4,h5⟩:=lX aA (off - n) h3 h2 hv hu
    refine⟨by simp;omega,af.2 ⟨_,c2.set (off - n) u, ?_,cC.2 ⟨hl,rfl⟩,h5⟩⟩
    rw[List.set_append_right _ _ (by simp;omega)]
    simp[hl]
  ·rw[s6 ha]at h
   obtain⟨u0,rfl,h3,h4⟩:=fj h1 (gb ha) ha
   cases off with
   |zero=>
    simp only[Option.some.injEq]at h
    subst h
    exact⟨by simp,af.2 ⟨[u],c2,rfl,(jO hv hu).1,h2⟩⟩
   |succ m=>
    simp only[Option.map_eq_some_iff]at h
    obtain⟨ss,h5,rfl⟩:=h
    obtain⟨h6,h7⟩:=lX aA m h5 h2 hv hu
    exact⟨by simp;omega,af.2 ⟨[u0],c2.set m u,rfl,h1,h7⟩⟩
theorem nH:∀(ak:List AV) (off:Nat) {cs:List Value} {k:IntKind} {n:Nat} {ws:List Int},iZ ak off=some (k,n,ws)→an ρ H O w ak cs→
 ws.length=n∧∃pre post,cs=pre++ws.map (Value.int k)++post∧pre.length=off
 |[],off,cs,k,n,ws,h,_=>by simp[iZ]at h
 |a::aA,off,cs,k,n,ws,h,hd=>by
  obtain⟨c1,c2,rfl,h1,h2⟩:=af.1 hd
  rcases rf a with⟨k',n',mu,rfl⟩|ha
  ·obtain⟨hl,rfl⟩:=cC.1 h1
   simp only[iZ,Bool.cond_eq_ite]at h
   split at h
   ·rename_i h0
    have h0:off=0:=by simpa using h0
    subst h0
    simp only[Option.some.injEq,Prod.mk.injEq]at h
    obtain⟨rfl,rfl,rfl⟩:=h
    exact⟨hl,[],c2,by simp,rfl⟩
   ·split at h
    ·cases h
    ·rename_i bg
     have bg:¬off<n':=by simpa[Nat.blt,Nat.lt_iff_add_one_le]using bg
     obtain⟨h3,pre,post,rfl,h4⟩:=nH aA (off - n') h h2
     exact⟨h3,mu.map (Value.int k')++pre,post,by simp,by simp;omega⟩
  ·rw[pR ha]at h
   obtain⟨u0,rfl,h3,h4⟩:=fj h1 (gb ha) ha
   cases off with
   |zero=>cases h
   |succ m=>
    obtain⟨h3,pre,post,rfl,h4⟩:=nH aA m h h2
    exact⟨h3,u0::pre,post,by simp,by simp[h4]⟩
theorem mL:∀(ak:List AV) (off:Nat) {pre post:List Value} {k:IntKind} {n:Nat} {ws mu:List Int} {ew:List AV},iZ ak off=some (k,n,ws)→jN ak off mu=some ew→mu.length=ws.length→
 an ρ H O w ak (pre++ws.map (Value.int k)++post)→pre.length=off→an ρ H O w ew (pre++mu.map (Value.int k)++post)
 |[],off,_,_,k,n,ws,_,_,h,_,_,_,_=>by simp[iZ]at h
 |a::aA,off,pre,post,k,n,ws,mu,ew,h,hs,hlen,hd,hp=>by
  obtain⟨c1,c2,hc,h1,h2⟩:=af.1 hd
  rcases rf a with⟨k',n',ws1,rfl⟩|ha
  ·obtain⟨hl,rfl⟩:=cC.1 h1
   simp only[iZ,jN,Bool.cond_eq_ite]at h hs
   split at h
   ·rename_i h0
    have h0':off=0:=by simpa using h0
    subst h0'
    simp only[Option.some.injEq,Prod.mk.injEq]at h
    obtain⟨rfl,rfl,rfl⟩:=h
    rw[if_pos h0]at hs
    simp only[Option.some.injEq]at hs
    subst hs
    obtain rfl:pre=[]:=List.eq_nil_of_length_eq_zero hp
    simp only[List.nil_append]at hc ⊢
    have:=List.append_cancel_left hc
    subst this
    exact af.2 ⟨_,post,rfl,cC.2 ⟨by omega,rfl⟩,h2⟩
   ·rename_i h0
    rw[if_neg h0]at hs
    split at h
    ·cases h
    ·rename_i bg
     rw[if_neg bg]at hs
     have bg:¬off<n':=by simpa[Nat.blt,Nat.lt_iff_add_one_le]using bg
     simp only[Option.map_eq_some_iff]at hs
     obtain⟨ss,h3,rfl⟩:=hs
     have hpl:(ws1.map (Value.int k')).length≤pre.length:=by simp;omega
     obtain⟨ak8,rfl⟩:∃ak8,pre=ws1.map (Value.int k')++ak8:=by
      rw[List.append_assoc]at hc
      obtain⟨x,hx⟩:=List.prefix_of_prefix_length_le (⟨_,rfl⟩:ws1.map (Value.int k')<+:ws1.map (Value.int k')++c2) (⟨_,hc⟩:pre<+:_) hpl
      exact⟨x,hx.symm⟩
     simp only[List.append_assoc]at hc ⊢
     have hc':=List.append_cancel_left hc
     subst hc'
     have wv:ak8.length=off - n':=by simp at hp;omega
     exact af.2 ⟨_,_,rfl,h1,by simpa using mL aA (off - n') h h3 hlen (by simpa using h2) wv⟩
  ·rw[pR ha]at h
   rw[tW ha]at hs
   obtain⟨u0,rfl,h3,h4⟩:=fj h1 (gb ha) ha
   cases off with
   |zero=>cases h
   |succ m=>
    simp only[Option.map_eq_some_iff]at hs
    obtain⟨ss,h5,rfl⟩:=hs
    cases pre with
    |nil=>simp at hp
    |cons p ak8=>
     simp only[List.cons_append,List.cons.injEq,List.nil_append]at hc
     obtain⟨rfl,hc'⟩:=hc
     simp only[List.length_cons,Nat.add_right_cancel_iff]at hp
     rw[←hc']at h2
     exact af.2 ⟨[p],_,rfl,h1,by simpa using mL aA m h h5 hlen (by simpa using h2) hp⟩
theorem af7{ak jj ew:List AV}{off:Nat}{cs vs:List Value}(h:acE ak off jj=some ew)(hd:an ρ H O w ak cs)(hb:an ρ H O w jj vs):
 off+vs.length≤cs.length∧an ρ H O w ew (cs.take off++vs++cs.drop (off+vs.length)):=by
 unfold acE at h
 split at h
 ·rename_i k n ws x
  split at h
  ·rename_i k' li z hx
   rw[Bool.cond_eq_ite]at h
   split at h
   ·rename_i hc
    simp only[Bool.and_eq_true]at hc
    obtain⟨hk,bg⟩:=hc
    have bg:off<n:=Nat.lt_of_lt_of_le (Nat.lt_succ_self _) (Nat.le_of_ble_eq_true bg)
    obtain rfl:=aX hk
    simp only[Option.some.injEq]at h
    subst h
    obtain⟨c1,c2,rfl,h1,h2⟩:=af.1 hd
    obtain rfl:=ao.1 h2
    obtain⟨hl,rfl⟩:=cC.1 h1
    obtain⟨d1,d2,rfl,h3,h4⟩:=af.1 hb
    obtain rfl:=ao.1 h4
    have hv:d1=[.int k z]:=by
     cases x with
     |s y=>
      unfold aC at h3
      obtain⟨u,rfl,h5⟩:=h3
      cases y<;>simp only[AV.dc,Option.some.injEq,Prod.mk.injEq,reduceCtorEq]at hx
      all_goals
       obtain⟨rfl,_,rfl⟩:=hx
       cases h5
       rfl
     |_=>simp only[AV.dc,reduceCtorEq]at hx
    subst hv
    simp only[List.append_nil,List.length_map,List.length_singleton]
    refine⟨by omega,af.2 ⟨_,[],(List.append_nil _).symm,cC.2 ⟨by rw[List.length_set];exact hl, ?_⟩,ao.2 rfl⟩⟩
    rw[List.map_set,List.set_eq_take_append_cons_drop,if_pos (by rw[List.length_map];omega),List.append_assoc]
    rfl
   ·cases h
  ·cases h
 ·cases h
theorem tX{ak jj ew:List AV}{off:Nat}{cs vs:List Value}(h:tk ak off jj=some ew)(hd:an ρ H O w ak cs)(hb:an ρ H O w jj vs):
 off+vs.length≤cs.length∧an ρ H O w ew (cs.take off++vs++cs.drop (off+vs.length)):=by
 unfold tk at h
 split at h
 ·rename_i r hr
  simp only[Option.some.injEq]at h
  subst h
  exact af7 hr hd hb
 split at h
 ·rename_i pre post h1 h2
  simp only[Option.some.injEq]at h
  subst h
  have hl:=iK hb
  rw[←hl]at h2
  obtain⟨h3,h4⟩:=fi _ _ h1 hd
  obtain⟨h5,h6⟩:=fh _ _ h2 hd
  exact⟨h5,fg.2 ⟨_,_,rfl,fg.2 ⟨_,_,rfl,h4,hb⟩,h6⟩⟩
 ·cases h
theorem tY(ak:List AV){cs:List Value}(h:an ρ H O w ak cs):∀v∈cs,v.oneCell'=true:=by
 induction ak generalizing cs with
 |nil=>rw[ao.1 h];simp
 |cons a aA ih=>
  obtain⟨c1,c2,rfl,h1,h2⟩:=af.1 h
  intro v hv
  rcases List.mem_append.1 hv with hv|hv
  ·rcases rf a with⟨k,n,ws,rfl⟩|ha
   ·obtain⟨hl,rfl⟩:=cC.1 h1
    obtain⟨x,_,rfl⟩:=List.mem_map.1 hv
    rfl
   ·obtain⟨u,rfl,h3,_⟩:=fj h1 (gb ha) ha
    simp only[List.mem_singleton]at hv
    subst hv
    exact h3
  ·exact ih h2 v hv
theorem pS{x:AV}{v:Value}{ak:List AV}(h:x.ji =some ak)(hd:ab ρ H O w x v):an ρ H O w ak v.cells.toList:=by
 have one:∀a,a.single=true→ab ρ H O w a v→an ρ H O w [a] v.cells.toList:=by
  intro a ha hv
  obtain⟨h1,h2⟩:=jO ha hv
  have:v.cells.toList=[v]:=by cases v<;>first|rfl|(simp[Value.oneCell']at h2)
  rw[this]
  exact af.2 ⟨[v],[],rfl,h1,ao.2 rfl⟩
 cases x with
 |agg ss=>
  simp only[AV.ji,Option.some.injEq]at h
  subst h
  unfold ab at hd
  obtain⟨cs,rfl,h1⟩:=hd
  simpa[Value.cells]using h1
 |ints k n ws=>
  simp only[AV.ji,Option.some.injEq]at h
  subst h
  unfold ab at hd
  obtain⟨hl,rfl⟩:=hd
  exact af.2 ⟨ws.map (Value.int k),[],by simp[Value.cells],cC.2 ⟨hl,rfl⟩,ao.2 rfl⟩
 |bm _=>simp[AV.ji]at h
 |s x=>cases x<;>simp only[AV.ji,Option.some.injEq,reduceCtorEq]at h<;>subst h<;>exact one _ rfl hd
 |_=>simp only[AV.ji,Option.some.injEq]at h;subst h;exact one _ rfl hd
theorem kY{ak:List AV}{cs:List Value}(h:an ρ H O w ak cs):ab ρ H O w (.kL ak) (.agg cs.toArray):=by
 unfold AV.kL
 split
 ·obtain⟨c1,c2,rfl,h1,h2⟩:=af.1 h
  obtain rfl:=ao.1 h2
  obtain⟨hl,rfl⟩:=cC.1 h1
  unfold ab
  exact⟨hl,by simp⟩
 ·unfold ab
  exact⟨cs,rfl,h⟩
end
end Go.Sx
namespace Go.Sx
open Go
def World.bZ(w:World)(b:Nat)(o:Obj):World:={w with heap:=w.heap.setIfInBounds b o}
theorem acV{w:World}{b:Nat}{cells:Array Value}{e:TypeId}{fr:Nat×Nat}(hb:w.heap[b]? =some (.cells cells e fr))(hu:unm fr cells.size){off:Nat}(ho:off<cells.size):
 w.frozen? ⟨b,off,none⟩=false:=by
 have:=hu off ho
 simp only[World.frozen?,hb,Bool.and_eq_false_imp,decide_eq_true_eq,decide_eq_false_iff_not]
 intro h1 h2
 exact this ⟨h1,h2⟩
theorem aaq{w:World}{b:Nat}{cells:Array Value}{e:TypeId}{fr:Nat×Nat}(hb:w.heap[b]? =some (.cells cells e fr))(off:Nat)(v:Value):
 w.setCell ⟨b,off,none⟩ v=World.bZ w b (.cells (cells.setIfInBounds off v) e fr):=by
 simp only[World.setCell,World.bZ]
 congr 1
 apply Array.ext_getElem?
 intro i
 rw[Array.getElem?_modify,Array.getElem?_setIfInBounds]
 by_cases h:b=i
 ·subst h
  obtain⟨bg,tZ⟩:=Array.getElem?_eq_some_iff.1 hb
  simp[tZ,bg]
 ·simp[h]
theorem eJ{w:World}{b:Nat}{o o':Obj}(hb:w.heap[b]? =some o):(World.bZ w b o').heap[b]? =some o':=by
 have bg:b<w.heap.size:=(Array.getElem?_eq_some_iff.1 hb).1
 simp[World.bZ,bg]
theorem ij{w:World}{b i:Nat}{o:Obj}(h:i≠b):(World.bZ w b o).heap[i]? =w.heap[i]? :=by
 simp only[World.bZ]
 rw[Array.getElem?_setIfInBounds_ne (by omega)]
theorem iL{w:World}{b:Nat}{o:Obj}:(World.bZ w b o).heap.size=w.heap.size:=by simp[World.bZ]
theorem wD{w:World}{b:Nat}{o o':Obj}:World.bZ (World.bZ w b o) b o'=World.bZ w b o':=by
 simp only[World.bZ]
 congr 1
 apply Array.ext_getElem?
 intro i
 by_cases h:b=i
 ·subst h;simp[Array.getElem?_setIfInBounds]
 ·simp[h]
theorem se{w:World}{b:Nat}{o:Obj}(hb:w.heap[b]? =some o):World.bZ w b o=w:=by
 have:w.heap.setIfInBounds b o=w.heap:=by
  apply Array.ext_getElem?
  intro i
  by_cases h:b=i
  ·subst h
   obtain⟨bg,tZ⟩:=Array.getElem?_eq_some_iff.1 hb
   simp[tZ,bg]
  ·rw[Array.getElem?_setIfInBounds_ne (by omega)]
 simp only[World.bZ,this]
theorem wF{P:Program}{w:World}{b:Nat}{cells:List Value}{e:TypeId}{fr:Nat×Nat}(hb:w.heap[b]? =some (.cells cells.toArray e fr))(hu:unm fr cells.length){off:Nat}(ho:off<cells.length)
 {v:Value} (hv:v.oneCell'=true):(store ⟨b,off,none⟩ v).run P w=.ok () (World.bZ w b (.cells (cells.set off v).toArray e fr)):=by
 rw[run_store P w _ v _ hv]
 have hc:w.cell? ⟨b,off,none⟩=some cells[off]:=by simp[World.cell?,hb,ho]
 have hf:=acV hb (by simpa using hu) (off:=off) (by simpa using ho)
 simp only[hc,hf,Bool.false_eq_true,if_false,aaq hb,List.setIfInBounds_toArray]
theorem aS(b off i:Nat):(⟨b,off,none⟩:Addr).add i=⟨b,off+i,none⟩:=by
 unfold Addr.add
 split
 ·rename_i h;subst h;rfl
 ·rfl
theorem bJ{P:Program}{b:Nat}{e:TypeId}{fr:Nat×Nat}(off:Nat):∀(vs:List Value) (i:Nat) {w:World} {cells:List Value},w.heap[b]? =some (.cells cells.toArray e fr)→unm fr cells.length→
 off+i+vs.length≤cells.length→(∀v∈vs,v.oneCell'=true)→
 (storeCells ⟨b,off,none⟩ vs i).run P w=.ok () (World.bZ w b (.cells (cells.take (off+i)++vs++cells.drop (off+i+vs.length)).toArray e fr))
 |[],i,w,cells,hb,hu,hl,hv=>by
  simp only[storeCells,Sem.run_pure,List.length_nil,Nat.add_zero,List.append_nil,List.take_append_drop]
  rw[se hb]
 |v::vs,i,w,cells,hb,hu,hl,hv=>by
  simp only[List.length_cons]at hl
  have bg:off+i<cells.length:=by omega
  simp only[storeCells,Sem.run_bind,aS,wF hb hu bg (hv v (by simp)),Result.andThen_ok]
  rw[bJ off vs (i+1) (eJ hb) (by simpa using hu) (by simp;omega) (fun x hx=>hv x (by simp[hx])),wD]
  congr 4
  rw[←Nat.add_assoc,List.take_set,List.drop_set_of_lt (by omega)]
  have e1:(cells.take (off+i+1)).set (off+i) v=cells.take (off+i)++[v]:=by
   rw[List.take_succ_eq_append_getElem bg]
   rw[List.set_append_right _ _ (by simp;omega)]
   simp[Nat.min_eq_left (Nat.le_of_lt bg)]
  rw[e1]
  simp only[List.append_assoc,List.length_cons,List.cons_append,List.nil_append]
  rw[show off+i+1+vs.length=off+i+(vs.length+1)from by omega]
theorem kZ{w:World}{o:Obj}:(w.alloc o).heap[w.heap.size]? =some o:=by
 show(w.heap.push o)[w.heap.size]? =_
 simp
theorem alloc_old{w:World}{o:Obj}{i:Nat}(h:i<w.heap.size):(w.alloc o).heap[i]? =w.heap[i]? :=by
 show(w.heap.push o)[i]? =_
 rw[Array.getElem?_push,if_neg (by omega)]
theorem fk{w:World}{o:Obj}:(w.alloc o).heap.size=w.heap.size+1:=by
 show(w.heap.push o).size=_
 simp
section
variable{ρ az:Nat→Value}{H H':aG}{G O O':Nat→Prop}{w w':World}{P:Program}
def aB(H:aG)(id:Nat)(o:ad):aG:=fun j=>if j=id then some o else H j
theorem yL{id:Nat}{o o':ad}(ho:H id=some o)(ha:o.alive=o'.alive)(b:Nat):Own ρ (aB H id o') b↔Own ρ H b:=by
 constructor
 ·rintro⟨j,x,hx,h1,h2⟩
  unfold aB at hx
  split at hx
  ·rename_i hj
   subst hj
   simp only[Option.some.injEq]at hx
   subst hx
   exact⟨j,o,ho,ha.trans h1,h2⟩
  ·exact⟨j,x,hx,h1,h2⟩
 ·rintro⟨j,x,hx,h1,h2⟩
  by_cases hj:j=id
  ·subst hj
   rw[ho]at hx
   cases hx
   exact⟨j,o',by simp[aB],ha.symm.trans h1,h2⟩
  ·exact⟨j,x,by simp[aB,hj,hx],h1,h2⟩
theorem yM{id:Nat}{o o':ad}(ho:H id=some o)(ha:o.alive=o'.alive):aK ρ (aB H id o') G=aK ρ H G:=by
 funext b
 exact propext (or_congr_left (yL ho ha b))
theorem Good.write(hs:Sat ρ H G w){id:Nat}{o o':ad}(ho:H id=some o)(ha:o.alive=true)(ha':o'.alive=true){b:Nat}(hb:eh (ρ id)=some b)
 (rh:∀c' e',o'=.vec c' e'→∃c e,o=.vec c e∧c'.n=c.n∧c'.size=c.size)
 {ri:Obj} {r:AV} {v:Value}
 (dR:ig ρ (aB H id o') (aK ρ H G) (World.bZ w b ri) (ρ id) o')
 (hr:ab ρ (aB H id o') (aK ρ H G) (World.bZ w b ri) r v):
 Good ρ H G w (aB H id o') r v (World.bZ w b ri):=by
 have hh:=yM (ρ:=ρ) (G:=G) ho (ha.trans ha'.symm)
 have dF:Own ρ H b:=⟨id,o,ho,ha,hb⟩
 have st:Step ρ H (aK ρ H G) w ρ (aB H id o') (aK ρ (aB H id o') G) (World.bZ w b ri):=by
  refine⟨fun _ _ _=>rfl,fun j x hx=> ?_,fun c hc=>.inl (by rw[hh]at hc;exact hc),fun c hc hO=> ?_,by rw[iL];exact Nat.le_refl _⟩
  ·by_cases hj:j=id
   ·subst hj
    rw[ho]at hx
    cases hx
    exact⟨o',by simp[aB],rh⟩
   ·exact⟨x,by simp[aB,hj,hx],fun c' e' hc=>⟨c',e',hc,rfl,rfl⟩⟩
  ·exact ij (fun e=>hO (.inl (by subst e;exact dF)))
 refine⟨ρ,⟨fun j x hx=> ?_,fun i j oi oj c h1 h2 h3 h4 h5 h6=> ?_,fun c hc=> ?_,fun c hc=> ?_⟩,by rw[hh];exact hr,st,⟨rfl,rfl,rfl,fun c hc hO=>ij (fun e=>hO (by subst e;exact dF))⟩⟩
 ·by_cases hj:j=id
  ·subst hj
   simp only[aB,if_true,Option.some.injEq]at hx
   subst hx
   rw[hh]
   exact dR
  ·have xk:H j=some x:=by simpa[aB,hj]using hx
   refine(hs.obj j x xk).step st (fun c ua hc=>ij (fun e=>hj ?_))
   subst e
   exact hs.inj j id x o c xk ho ua ha hc hb
 ·have f:∀i oi,aB H id o' i=some oi→oi.alive=true→∃x,H i=some x∧x.alive=true:=by
   intro i oi hi ua
   by_cases eI:i=id
   ·subst eI;exact⟨o,ho,ha⟩
   ·exact⟨oi,by simpa[aB,eI]using hi,ua⟩
  obtain⟨x,hx,hxa⟩:=f i oi h1 h3
  obtain⟨y,hy,hya⟩:=f j oj h2 h4
  exact hs.inj i j x y c hx hy hxa hya h5 h6
 ·exact hs.apart c ((yL ho (ha.trans ha'.symm) c).1 hc)
 ·rw[iL];exact hs.low c hc
theorem Good.fresh(hs:Sat ρ H G w){n:Nat}(hn:H n=none){o:ad}{obj:Obj}{root:Value}{r:AV}{v:Value}
 {w1:World} (hw:w1.heap=w.heap) (ht:w1.tape=w.tape) (hos:w1.os=w.os) (oh:w1.output=w.output)
 (dN:∀b,eh root=some b→b=w.heap.size)
 (dR:ig (fun j=>if j=n then root else ρ j) (aB H n o) (aK (fun j=>if j=n then root else ρ j) (aB H n o) G) (w1.alloc obj) root o)
 (hr:ab (fun j=>if j=n then root else ρ j) (aB H n o) (aK (fun j=>if j=n then root else ρ j) (aB H n o) G) (w1.alloc obj) r v):
 Good ρ H G w (aB H n o) r v (w1.alloc obj):=by
 have bH:(w1.alloc obj).heap.size=w.heap.size+1:=by rw[fk,hw]
 have hold:∀i,i<w.heap.size→(w1.alloc obj).heap[i]? =w.heap[i]? :=fun i hi=>by rw[alloc_old (by rw[hw];exact hi),hw]
 have ne:∀j x,H j=some x→j≠n:=fun j x hx e=>by subst e;rw[hn]at hx;cases hx
 have pT:∀b,Own (fun j=>if j=n then root else ρ j) (aB H n o) b→Own ρ H b∨b=w.heap.size:=by
  rintro b ⟨j,x,hx,h1,h2⟩
  by_cases hj:j=n
  ·subst hj;simp only[if_true]at h2;exact .inr (dN b h2)
  ·simp only[aB,hj,if_false]at hx h2
   exact .inl ⟨j,x,hx,h1,h2⟩
 have st:Step ρ H (aK ρ H G) w (fun j=>if j=n then root else ρ j) (aB H n o) (aK (fun j=>if j=n then root else ρ j) (aB H n o) G) (w1.alloc obj):=by
  refine⟨fun j x hx=>by simp[ne j x hx],fun j x hx=>⟨x,by simp[aB,ne j x hx,hx],fun c' e' hc=>⟨c',e',hc,rfl,rfl⟩⟩,fun b hb=> ?_,fun b hb _=>hold b hb,by omega⟩
  rcases hb with hb|hb
  ·rcases pT b hb with h1|h1
   ·exact .inl (.inl h1)
   ·exact .inr (by omega)
  ·exact .inl (.inr hb)
 refine⟨_,⟨fun j x hx=> ?_,fun i j oi oj b h1 h2 h3 h4 h5 h6=> ?_,fun b hb=> ?_,fun b hb=> ?_⟩,hr,st,⟨hos,ht,oh,fun b hb _=>hold b hb⟩⟩
 ·by_cases hj:j=n
  ·subst hj
   simp only[aB,if_true,Option.some.injEq]at hx
   subst hx
   simp only[if_true]
   exact dR
  ·have xk:H j=some x:=by simpa[aB,hj]using hx
   simp only[hj,if_false]
   exact(hs.obj j x xk).step st (fun b ua hb=>hold b (gJ hs ⟨j,x,xk,ua,hb⟩))
 ·by_cases hi:i=n<;>by_cases hj:j=n
  ·rw[hi,hj]
  ·simp only[aB,hi,hj,if_true,if_false]at h1 h2 h5 h6
   have e:=dN b h5
   have:=gJ hs ⟨j,oj,h2,h4,h6⟩
   omega
  ·simp only[aB,hi,hj,if_true,if_false]at h1 h2 h5 h6
   have e:=dN b h6
   have:=gJ hs ⟨i,oi,h1,h3,h5⟩
   omega
  ·simp only[aB,hi,hj,if_false]at h1 h2 h5 h6
   exact hs.inj i j oi oj b h1 h2 h3 h4 h5 h6
 ·rcases pT b hb with h1|h1
  ·exact hs.apart b h1
  ·intro hg
   have:=hs.low b hg
   omega
 ·have:=hs.low b hb
  omega
end
end Go.Sx
namespace Go.Sx
open Go
def eV(P:Program)(ρ:Nat→Value)(H:aG)(O:Nat→Prop)(w:World)(q:bx)(s:Sem Value):Prop:=
 q.up=[]∧q.new=[]∧∃v,s.run P w=.ok v w∧∀base,ab ρ H O w (q.r base) v
section
variable{ρ az:Nat→Value}{H H':aG}{G O O':Nat→Prop}{w w':World}{P:Program}
theorem ax{need:List Prop}{r:AV}{q:bx}{s:Sem Value}(h:(plain need r).eval H=some q)(f:bt need→∃v,s.run P w=.ok v w∧ab ρ H O w r v)(hn:bt q.need):eV P ρ H O w q s:=by
 simp only[plain,RM.eval,Option.some.injEq]at h
 subst h
 obtain⟨v,h1,h2⟩:=f hn
 exact⟨rfl,rfl,v,h1,fun _=>h2⟩
theorem gu{t:TypeId}{b:Bool}(h:gH P t=some b)(w:World):(isAgg t).run P w=.ok b w:=by
 unfold gH at h
 split at h<;>first|(cases h;rename_i ht;simp[isAgg,run_underlying ht];done)|cases h
theorem oC{f:Nat→Value}{n j:Nat}{v:Value}(h:((List.range n).map f)[j]? =some v):j<n∧v=f j:=by
 by_cases hj:j<n
 ·rw[List.getElem?_map,List.getElem?_range hj]at h
  simp at h
  exact⟨hj,h.symm⟩
 ·rw[List.getElem?_eq_none (by simp;omega)]at h
  cases h
theorem run_sizeOf{t:TypeId}{n:Nat}(h:dw P t=some n)(w:World):(sizeOf t).run P w=.ok n w:=by
 simp only[dw,Option.map_eq_some_iff]at h
 obtain⟨i,hi,rfl⟩:=h
 simp[sizeOf,typeInfo,hi]
theorem cY{b:Nat}{cells:List Value}{e:TypeId}{fr:Nat×Nat}(hb:w.heap[b]? =some (.cells cells.toArray e fr))(off:Nat):w.cell? ⟨b,off,none⟩=cells[off]? :=by
 simp[World.cell?,hb]
theorem ja{t:TypeId}{n b off:Nat}{cs:List Value}(ha:gH P t=some true)(hs:dw P t=some n)(hl:cs.length=n)(hc:∀j v,cs[j]? =some v→w.cell? ⟨b,off+j,none⟩=some v):
 (Instr.loadAt t (.pointer (some ⟨b,off,none⟩))).run P w=.ok (.agg cs.toArray) w:=by
 subst hl
 have:=run_loadCells_list (P:=P) (w:=w) ⟨b,off,none⟩ cs (fun j v hj=>by rw[aS];exact hc j v hj)
 simp[Instr.loadAt,Instr.sureAddr,loadVar,gu ha,run_sizeOf hs,this]
theorem jb{t:TypeId}{b off:Nat}{v:Value}(ha:gH P t=some false)(hc:w.cell? ⟨b,off,none⟩=some v):
 (Instr.loadAt t (.pointer (some ⟨b,off,none⟩))).run P w=.ok v w:=by
 simp[Instr.loadAt,Instr.sureAddr,loadVar,gu ha,hc]
theorem nI(hs:Sat ρ H G w){id b:Nat}{ak:List AV}{e:TypeId}(ho:H id=some (.own ak e))(hb:ρ id=.pointer (some ⟨b,0,none⟩)):
 ∃cells fr,w.heap[b]? =some (.cells cells.toArray e fr)∧unm fr cells.length∧an ρ H (aK ρ H G) w ak cells:=by
 obtain⟨b',cells,fr,h1,h2⟩:=hs.obj id _ ho
 rw[hb]at h1
 cases h1
 exact⟨cells,fr,h2⟩
theorem af8(hs:Sat ρ H G w){id i b f n cap:Nat}{c:aF}{e:TypeId}(ho:H id=some (.vec c e))(hi:i<c.n)(dN:ρ id=.slice (some ⟨b,f,none⟩) n cap):
 ∃us:Nat→Nat→Value,∀i j,i<c.n→j<c.size→w.cell? ⟨b,f+i*c.size+j,none⟩=some (us i j)∧aJ (aK ρ H G) w (c.cell i j) (us i j):=by
 obtain⟨a,af2,h1,h2,h3,h4⟩:=hs.obj id _ ho
 rw[dN]at h1
 cases h1
 rcases h4 with rfl|⟨b',o,cells,fr,us,h5,h6,h7,h8,h9⟩
 ·omega
 ·cases h5
  exact⟨us,fun i j hi hj=>⟨by rw[cY h6];exact(h9 i j hi hj).1,(h9 i j hi hj).2⟩⟩
theorem aar(n:Nat)(f:Nat→SV)(us:Nat→Value)(h:∀i,i<n→aJ O w (f i) (us i)):an ρ H O w ((List.range n).map fun i=>.s (f i)) ((List.range n).map us):=by
 induction n with
 |zero=>simp[ao]
 |succ n ih=>
  rw[List.range_succ,List.map_append,List.map_append]
  exact fg.2 ⟨_,_,rfl,ih (fun i hi=>h i (by omega)),af.2 ⟨[us n],[],rfl,by unfold aC;exact⟨_,rfl,h n (by omega)⟩,ao.2 rfl⟩⟩
theorem mj{a b:Nat}(h:a<b):a.blt b=true:=Nat.ble_eq_true_of_le h
theorem pU{a b:Nat}(h:b≤a):a.blt b=false:=by
 cases hh:a.blt b
 ·rfl
 ·exact absurd (Nat.le_of_ble_eq_true hh) (by omega)
theorem pa:∀(cs:List CK) (x:CL cs) (us:Nat→Value) (off:Nat),(∀l,l<CL.wide cs→aJ O w (CL.cell cs x l) (us (off+l)))→bt (er (CL.ak cs x))→
 an ρ H O w (CL.ak cs x) ((List.range (CL.wide cs)).map fun l=>us (off+l))
 |[],x,us,off,h,hn=>ao.2 (by simp[CL.wide])
 |c::cs,x,us,off,h,hn=>by
  have key:∀a:AV,CL.ak (c::cs) x=a::CL.ak cs x.2→c.wide=1→(∀y,aJ O w (c.cell x.1 0) y→aC ρ H O w a [y])→bt (er (CL.ak cs x.2))→
   an ρ H O w (CL.ak (c::cs) x) ((List.range (CL.wide (c::cs))).map fun l=>us (off+l)):=by
   intro a e hw ha uc
   rw[e]
   simp only[CL.wide,hw]
   rw[List.range_add,List.map_append,List.map_map]
   refine af.2 ⟨_,_,rfl, ?_, ?_⟩
   ·have:=h 0 (by simp only[CL.wide];omega)
    simp only[CL.cell,hw,mj (show 0<1 from by omega),cond_true]at this
    simpa using ha _ this
   ·have ih:=pa cs x.2 us (off+1) (fun l hl=> ?_) uc
    ·have e2:(fun l=>us (off+1+l))=(fun l=>us (off+l))∘(fun x=>1+x):=by funext l;simp[Function.comp,Nat.add_assoc]
     rw[e2]at ih
     exact ih
    ·have:=h (1+l) (by simp only[CL.wide];omega)
     simp only[CL.cell,hw]at this
     rw[pU (show 1≤1+l from by omega),cond_false,show 1+l - 1=l from by omega,←Nat.add_assoc]at this
     exact this
  have one:∀{sv:SV} {y:Value},aJ O w sv y→aC ρ H O w (.s sv) [y]:=fun hy=>by unfold aC;exact⟨_,rfl,hy⟩
  cases c with
  |arr k n=>
   obtain⟨x1,x2⟩:=x
   change List Int at x1
   simp only[CL.ak,er]at hn ⊢
   obtain⟨hl,uc⟩:=hn
   simp only[CL.wide,CK.wide]
   rw[List.range_add,List.map_append,List.map_map]
   refine af.2 ⟨_,_,rfl, ?_, ?_⟩
   ·unfold aC
    refine⟨hl, ?_⟩
    refine List.ext_getElem (by simp[hl]) fun i h1 h2=> ?_
    have hi:i<n:=by simpa using h1
    have:=h i (by simp only[CL.wide,CK.wide];omega)
    simp only[CL.cell,CK.wide]at this
    rw[mj hi,cond_true]at this
    simp only[CK.cell]at this
    have hx:x1.getD i 0=x1[i]'(by rw[hl];exact hi):=by simp[List.getD,hl,hi]
    rw[hx]at this
    simp only[List.getElem_map,List.getElem_range]
    generalize us (off+i)=u at this ⊢
    cases this
    rfl
   ·have ih:=pa cs x2 us (off+n) (fun l hl=> ?_) uc
    ·have e2:(fun l=>us (off+n+l))=(fun l=>us (off+l))∘(fun x=>n+x):=by funext l;simp[Function.comp,Nat.add_assoc]
     rw[e2]at ih
     exact ih
    ·have:=h (n+l) (by simp only[CL.wide,CK.wide];omega)
     simp only[CL.cell,CK.wide]at this
     rw[pU (show n≤n+l from by omega),cond_false,show n+l - n=l from by omega,←Nat.add_assoc]at this
     exact this
  |int k=>exact key _ rfl rfl (fun y hy=>one hy) (by simpa[CL.ak,er]using hn)
  |bool=>exact key _ rfl rfl (fun y hy=>one hy) (by simpa[CL.ak,er]using hn)
  |str=>exact key _ rfl rfl (fun y hy=>one hy) (by simpa[CL.ak,er]using hn)
  |ints k=>exact key _ rfl rfl (fun y hy=>one hy) (by simpa[CL.ak,er]using hn)
  |strs=>exact key _ rfl rfl (fun y hy=>one hy) (by simpa[CL.ak,er]using hn)
  |bD=>exact key _ rfl rfl (fun y hy=>one hy) (by simpa[CL.ak,er]using hn)
  |rows ds=>exact key _ rfl rfl (fun y hy=>one hy) (by simpa[CL.ak,er]using hn)
theorem sf{wC:Bool}{c:aF}{i j sz:Nat}{t:TypeId}{q:bx}(h:(pP wC c i j sz).eval H=some q)(hn:bt q.need)(pI:gH P t=some wC)(bH:dw P t=some sz){b o:Nat}{us:Nat→Value}
 (hc:∀l,l<c.size→w.cell? ⟨b,o+l,none⟩=some (us l)∧aJ O w (c.cell i l) (us l)):eV P ρ H O w q (Instr.loadAt t (.pointer (some ⟨b,o+j,none⟩))):=by
 unfold pP at h
 cases wC
 ·simp only[cond_false]at h
  rw[Bool.cond_eq_ite]at h
  split at h
  ·rename_i bg
   have bg:j<c.size:=by simpa[Nat.blt,Nat.lt_iff_add_one_le]using bg
   exact ax h (fun _=>⟨us j,jb pI (hc j bg).1,aq (hc j bg).2⟩) hn
  ·cases h
 ·simp only[cond_true]at h
  split at h
  ·rename_i cs xs
   split at h
   ·rename_i ss hss
    refine ax h (fun arp=> ?_) hn
    have hd:=pa (ρ:=ρ) (H:=H) cs (xs.getD i (CL.d cs)) us 0 (fun l hl=>by rw[Nat.zero_add];exact(hc l hl).2) arp
    simp only[Nat.zero_add]at hd
    simp only[Option.bind_eq_some_iff]at hss
    obtain⟨s1,h4,h5⟩:=hss
    obtain⟨h6,h7⟩:=fh _ j h4 hd
    obtain⟨h8,h9⟩:=fi s1 sz h5 h7
    refine⟨_,ja (cs:=(((List.range (CL.wide cs)).map us).drop j).take sz) pI bH (by simp at h8 ⊢;omega) (fun l v hv=> ?_),kY h9⟩
    rw[List.getElem?_take]at hv
    split at hv
    ·rw[List.getElem?_drop]at hv
     obtain⟨bg,rfl⟩:=oC hv
     rw[Nat.add_assoc]
     exact(hc (j+l) bg).1
    ·cases hv
   ·cases h
  ·rw[Bool.cond_eq_ite]at h
   split at h
   ·rename_i hle
    have hle:=Nat.le_of_ble_eq_true hle
    refine ax h (fun _=>⟨_,ja (cs:=(List.range sz).map fun l=>us (j+l)) pI bH (by simp) (fun l v hv=> ?_), ?_⟩) hn
    ·obtain⟨bg,rfl⟩:=oC hv
     rw[Nat.add_assoc]
     exact(hc (j+l) (by omega)).1
    ·unfold ab
     exact⟨_,rfl,aar sz (fun l=>c.cell i (j+l)) (fun l=>us (j+l)) (fun l hl=>(hc (j+l) (by omega)).2)⟩
   ·cases h
theorem aas{t:TypeId}{a:AV}{va:Value}{q:bx}(h:(aef P t a).eval H=some q)(hn:bt q.need)(hs:Sat ρ H G w)(hd:ab ρ H (aK ρ H G) w a va):
 eV P ρ H (aK ρ H G) w q (Instr.loadAt t va):=by
 unfold aef at h
 split at h
 ·rename_i sz wC bH pI
  split at h
  ·
   rename_i id off
   unfold ab ay at hd
   obtain⟨b,hb,rfl,_⟩:=hd
   simp only[RM.eval]at h
   split at h
   ·rename_i ak e ho
    obtain⟨cells,fr,h1,h2,h3⟩:=nI hs ho hb
    cases wC
    ·simp only[cond_false]at h
     split at h
     ·rename_i v hv
      obtain⟨u,h4,h5,h6⟩:=kX ak off hv h3
      exact ax h (fun _=>⟨u,jb pI (by rw[cY h1];exact h4),h6⟩) hn
     ·cases h
    ·simp only[cond_true]at h
     split at h
     ·rename_i ss hss
      simp only[Option.bind_eq_some_iff]at hss
      obtain⟨s1,h4,h5⟩:=hss
      obtain⟨h6,h7⟩:=fh ak off h4 h3
      obtain⟨h8,h9⟩:=fi s1 sz h5 h7
      refine ax h (fun _=>⟨_,ja (cs:=(cells.drop off).take sz) pI bH (by simp at h8 ⊢;omega) (fun j v hj=> ?_),kY h9⟩) hn
      rw[cY h1]
      rw[List.getElem?_take]at hj
      split at hj
      ·simpa using hj
      ·cases hj
     ·cases h
   ·cases h
  ·
   rename_i id off n i
   unfold ab ay at hd
   obtain⟨di,b,hb,rfl,_⟩:=hd
   simp only[RM.eval]at h
   split at h
   ·rename_i ak e ho
    obtain⟨cells,fr,h1,h2,h3⟩:=nI hs ho hb
    split at h
    ·rename_i k m ws ak9
     rw[Bool.cond_eq_ite]at h
     split at h
     ·rename_i hc
      simp only[Bool.and_eq_true,Bool.not_eq_true',Nat.beq_eq]at hc
      obtain⟨rfl,rfl⟩:=hc
      obtain⟨hl,pre,post,rfl,hp⟩:=nH ak off ak9 h3
      have hi:i<ws.length:=by omega
      refine ax h (fun _=>⟨.int k (ws.getD i 0),jb pI ?_,aq (.int _ _)⟩) hn
      rw[cY h1,List.append_assoc,List.getElem?_append_right (by omega),List.getElem?_append_left (by simp;omega)]
      rw[show off+i - pre.length=i from by omega]
      simp[hi]
     ·cases h
    ·cases h
   ·cases h
  ·
   unfold ab ay at hd
   obtain⟨b,o,us,rfl,_,_,hc⟩:=hd
   exact sf h hn pI bH hc
  ·
   rename_i id i j
   unfold ab ay at hd
   obtain⟨_,o,ho,hv⟩:=hd
   simp only[RM.eval]at h
   split at h
   ·rename_i c e dd
    rw[ho]at dd
    cases dd
    obtain⟨hi,hj,b,f,n,cap,dN,rfl⟩:=hv c e rfl
    obtain⟨us,hc⟩:=af8 hs ho hi dN
    exact sf (us:=fun l=>us i l) h hn pI bH (fun l hl=>hc i l hi hl)
   ·cases h
  ·cases h
 ·cases h
end
end Go.Sx
namespace Go.Sx
open Go
section
variable{ρ az:Nat→Value}{H H':aG}{G O O':Nat→Prop}{w w':World}{P:Program}
theorem slice_inj{a a':Option Addr}{n n' c c':Nat}(h:Value.slice a n c=.slice a' n' c'):a'=a∧c'=c:=by
 cases h;exact⟨rfl,rfl⟩
theorem mM{t:TypeId}{fs:Array Field}{f:Nat}{fd:Field}{n b off:Nat}(ht:P.underlying t=some (.struct fs))(hf:fs[f]? =some fd)(hs:dw P fd.type=some n)(hn:1≤n)(w:World):
 (Instr.fieldAt t (.pointer (some ⟨b,off,none⟩)) f).run P w=.ok (.pointer (some ⟨b,off+fd.offset,none⟩)) w:=by
 have h0:¬n=0:=by omega
 simp[Instr.fieldAt,run_underlying ht,hf,Instr.sureAddr,fieldPlace,run_sizeOf hs,h0,aS]
theorem wG{t:TypeId}{x:AV}{f:Nat}{vx:Value}{q:bx}(h:(oU P t x f).eval H=some q)(hn:bt q.need)(hd:ab ρ H O w x vx):
 eV P ρ H O w q (Instr.fieldAt t vx f):=by
 unfold oU at h
 split at h
 ·rename_i fs ht
  split at h
  ·rename_i fd hf
   rw[Bool.cond_eq_ite]at h
   split at h
   ·rename_i bH
    obtain⟨n,hs,hn1⟩:∃n,dw P fd.type=some n∧1≤n:=by
     cases hs:dw P fd.type with
     |none=>simp[hs]at bH
     |some n=>exact⟨n,rfl,Nat.le_of_ble_eq_true (by simpa[hs]using bH)⟩
    split at h
    ·rename_i id off
     unfold ab ay at hd
     obtain⟨b,hb,rfl,hi⟩:=hd
     exact ax h (fun _=>⟨_,mM ht hf hs hn1 w,by unfold ab ay;exact⟨b,hb,rfl,hi⟩⟩) hn
    ·rename_i c m j
     unfold ab ay at hd
     obtain⟨b,o,us,rfl,h1⟩:=hd
     exact ax h (fun _=>⟨_,mM ht hf hs hn1 w,by unfold ab ay;exact⟨b,o,us,by rw[Nat.add_assoc],h1⟩⟩) hn
    ·rename_i id i j
     simp only[RM.eval]at h
     split at h
     ·rename_i c e ho
      rw[Bool.cond_eq_ite]at h
      split at h
      ·rename_i bg
       have bg:j+fd.offset<c.size:=by simpa[Nat.blt,Nat.lt_iff_add_one_le]using bg
       unfold ab ay at hd
       obtain⟨h1,o,dd,hv⟩:=hd
       rw[ho]at dd
       cases dd
       obtain⟨hi,hj,b,f',n',cap,dN,rfl⟩:=hv c e rfl
       refine ax h (fun _=>⟨_,mM ht hf hs hn1 w, ?_⟩) hn
       unfold ab ay
       refine⟨rfl,_,ho,fun c' e' hc=> ?_⟩
       cases hc
       exact⟨hi,bg,b,f',n',cap,dN,by rw[Nat.add_assoc]⟩
      ·cases h
     ·cases h
    ·cases h
   ·cases h
  ·cases h
 ·cases h
theorem gK{t e:TypeId}{n b o len cap:Nat}{k:IntKind}{i:Int}(ht:P.underlying t=some (.slice e))(hs:dw P e=some n)(h0:0≤i)(h1:i<len)(w:World):
 (Instr.indexAt t (.slice (some ⟨b,o,none⟩) len cap) (.int k i)).run P w=.ok (.pointer (some ⟨b,o+i.toNat*n,none⟩)) w:=by
 simp[Instr.indexAt,run_underlying ht,asIntOf,run_sizeOf hs,h0,h1,aS]
theorem gL{t e:TypeId}{n b o len:Nat}{k:IntKind}{i:Int}(ht:P.underlying t=some (.array len e))(hs:dw P e=some n)(h0:0≤i)(h1:i<len)(w:World):
 (Instr.indexAt t (.pointer (some ⟨b,o,none⟩)) (.int k i)).run P w=.ok (.pointer (some ⟨b,o+i.toNat*n,none⟩)) w:=by
 simp[Instr.indexAt,run_underlying ht,asIntOf,Instr.sureAddr,run_sizeOf hs,h0,h1,aS]
theorem wH{t:TypeId}{x i:AV}{vx vi:Value}{q:bx}(h:(oV P t x i).eval H=some q)(hn:bt q.need)(hs:Sat ρ H G w)(hd:ab ρ H (aK ρ H G) w x vx)(hi:ab ρ H (aK ρ H G) w i vi):
 eV P ρ H (aK ρ H G) w q (Instr.indexAt t vx vi):=by
 unfold oV at h
 split at h
 ·rename_i k lit n e mN ht
  obtain rfl:=bR mN hi
  split at h
  ·rename_i sz c bH
   rw[Bool.cond_eq_ite]at h
   split at h
   ·rename_i he
    have he:sz=c.size:=by simpa using he
    have hx:=ah (by simp) hd
    cases hx with
    |ro _ a cap us b o h1 h2 h3 h4 h5=>
     refine ax h (fun ct=> ?_) hn
     obtain⟨h6,h7,_⟩:=ct
     have bg:n.toNat<c.n:=by omega
     obtain⟨rfl,h8,h9⟩:=h3 (by omega)
     refine⟨_,gK ht bH h6 h7 w, ?_⟩
     unfold ab ay
     refine⟨b,o+n.toNat*c.size,fun j=>us n.toNat j,by rw[he];rfl,h8,h9,fun j hj=>⟨h4 _ _ bg hj,h5 _ _ bg hj⟩⟩
   ·cases h
  ·rename_i sz id bH
   simp only[RM.eval]at h
   split at h
   ·rename_i c e' ho
    rw[Bool.cond_eq_ite]at h
    split at h
    ·rename_i he
     simp only[Bool.and_eq_true,Nat.beq_eq]at he
     obtain⟨rfl,hge⟩:=he
     have hge:=Nat.le_of_ble_eq_true hge
     unfold ab ay at hd
     obtain⟨_,o,dd,hv⟩:=hd
     rw[ho]at dd
     cases dd
     obtain rfl:=hv c e' rfl
     obtain⟨a,cap,hr,h2,h3,h4⟩:=hs.obj id _ ho
     refine ax h (fun ct=> ?_) hn
     obtain⟨h6,h7,_⟩:=ct
     rcases h4 with h4|⟨b,o,cells,fr,us,rfl,h5,_⟩
     ·omega
     ·refine⟨.pointer (some ⟨b,o+n.toNat*c.size,none⟩),by rw[hr];exact gK ht bH h6 h7 w, ?_⟩
      unfold ab ay
      refine⟨rfl,_,ho,fun c' e'' hc=> ?_⟩
      cases hc
      exact⟨by omega,by omega,b,o,c.n,cap,hr,rfl⟩
    ·cases h
   ·cases h
  ·rename_i sz id lo m bH
   simp only[RM.eval]at h
   split at h
   ·rename_i c e' ho
    rw[Bool.cond_eq_ite]at h
    split at h
    ·rename_i he
     simp only[Bool.and_eq_true,Nat.beq_eq]at he
     obtain⟨rfl,hge⟩:=he
     have hge:=Nat.le_of_ble_eq_true hge
     unfold ab ay at hd
     obtain⟨_,o,dd,hv⟩:=hd
     rw[ho]at dd
     cases dd
     obtain⟨hlm,a0,aud,a',hr0,avt,rfl,ha'⟩:=hv c e' rfl
     obtain⟨a,cap,hr,h2,h3,h4⟩:=hs.obj id _ ho
     obtain⟨rfl,rfl⟩:=slice_inj (hr0.symm.trans hr)
     refine ax h (fun ct=> ?_) hn
     obtain⟨h6,h7,_⟩:=ct
     rcases h4 with h4|⟨b,o,cells,fr,us,rfl,h5,_⟩
     ·omega
     ·refine⟨.pointer (some ⟨b,o+lo*c.size+n.toNat*c.size,none⟩), ?_, ?_⟩
      ·rw[ha' (by omega)]
       simp only[Option.map_some,aS]
       exact gK ht bH h6 h7 w
      ·unfold ab ay
       refine⟨rfl,_,ho,fun c' e'' hc=> ?_⟩
       cases hc
       exact⟨by omega,by omega,b,o,c.n,cap,hr,by rw[Nat.add_mul,Nat.add_assoc];rfl⟩
    ·cases h
   ·cases h
  ·cases h
 ·rename_i k lit n len e mN ht
  obtain rfl:=bR mN hi
  split at h
  ·rename_i sz id off bH
   unfold ab ay at hd
   obtain⟨b,hb,rfl,dq⟩:=hd
   cases lit
   ·simp only[cond_false]at h
    rw[Bool.cond_eq_ite]at h
    split at h
    ·rename_i h1
     have h1:sz=1:=by simpa using h1
     subst h1
     refine ax h (fun ct=> ?_) hn
     obtain⟨h6,h7,_⟩:=ct
     exact⟨_,gL ht bH h6 h7 w,by unfold ab ay;exact⟨by omega,b,hb,by simp,dq⟩⟩
    ·cases h
   ·simp only[cond_true]at h
    rw[Bool.cond_eq_ite]at h
    split at h
    ·rename_i h1
     simp only[Bool.and_eq_true,decide_eq_true_eq]at h1
     exact ax h (fun _=>⟨_,gL ht bH h1.1 h1.2 w,by unfold ab ay;exact⟨b,hb,rfl,dq⟩⟩) hn
    ·cases h
  ·rename_i sz id i0 bH
   simp only[RM.eval]at h
   split at h
   ·rename_i c e' ho
    rw[Bool.cond_eq_ite]at h
    split at h
    ·rename_i he
     simp only[Bool.and_eq_true,Nat.beq_eq]at he
     obtain⟨rfl,hge⟩:=he
     unfold ab ay at hd
     obtain⟨_,o,dd,hv⟩:=hd
     rw[ho]at dd
     cases dd
     obtain⟨hi0,hc0,b,f,n',cap,hr,rfl⟩:=hv c e' rfl
     refine ax h (fun ct=> ?_) hn
     obtain⟨h6,h7,h8,_⟩:=ct
     refine⟨_,gL ht bH h6 h7 w, ?_⟩
     unfold ab ay
     refine⟨rfl,_,ho,fun c' e'' hc=> ?_⟩
     cases hc
     exact⟨by omega,by omega,b,f,n',cap,hr,by rw[Nat.add_mul];congr 3;omega⟩
    ·cases h
   ·cases h
  ·cases h
 ·cases h
theorem af9{t:TypeId}{x i:AV}{vx vi:Value}{q:bx}(h:(acL P t x i).eval H=some q)(hn:bt q.need)(hd:ab ρ H O w x vx)(hi:ab ρ H O w i vi):
 eV P ρ H O w q (Instr.index t vx vi):=by
 unfold acL at h
 split at h
 ·rename_i k lit n len e kk m ws mN ht
  obtain rfl:=bR mN hi
  rw[Bool.cond_eq_ite]at h
  split at h
  ·rename_i hc
   simp only[Bool.and_eq_true,Nat.beq_eq]at hc
   obtain⟨⟨rfl,pI⟩,bH⟩:=hc
   have apc:gH P e=some false:=by cases ha:gH P e with|none=>simp[ha]at pI|some b=>simp[ha]at pI;rw[pI]
   have aga:dw P e=some 1:=by cases ha:dw P e with|none=>simp[ha]at bH|some b=>simp[ha]at bH;rw[bH]
   unfold ab at hd
   obtain⟨hl,rfl⟩:=hd
   refine ax h (fun ct=> ?_) hn
   obtain⟨h6,h7,_⟩:=ct
   have bg:n.toNat<ws.length:=by omega
   refine⟨.int kk (ws.getD n.toNat 0), ?_,aq (.int _ _)⟩
   simp[Instr.index,run_underlying ht,asIntOf,h6,h7,run_sizeOf aga,part,gu apc,bg]
  ·cases h
 ·rename_i k lit n s mN ht
  obtain rfl:=bR mN hi
  obtain rfl:=fa hd
  refine ax h (fun ct=> ?_) hn
  obtain⟨h6,h7,_⟩:=ct
  have bg:n.toNat<s.size:=by omega
  refine⟨.int .u8 (aW s n.toNat), ?_,aq (.int _ _)⟩
  have hb:s[n.toNat]? =some s.data[n.toNat]:=by
   simp only[getElem?,decidableGetElem?]
   rw[dif_pos bg]
   rfl
  have apd:n.toNat<s.data.size:=bg
  simp[Instr.index,run_underlying ht,asIntOf,h6,hb,aW]
  rw[Array.getElem?_eq_getElem apd]
  rfl
 ·rename_i k lit n len e ak mN ht
  obtain rfl:=bR mN hi
  rw[Bool.cond_eq_ite]at h
  split at h
  ·rename_i hc
   simp only[Bool.and_eq_true]at hc
   obtain⟨pI,bH⟩:=hc
   have apc:gH P e=some false:=by cases ha:gH P e with|none=>simp[ha]at pI|some b=>simp[ha]at pI;rw[pI]
   have aga:dw P e=some 1:=by cases ha:dw P e with|none=>simp[ha]at bH|some b=>simp[ha]at bH;rw[bH]
   unfold ab at hd
   obtain⟨cs,rfl,aek⟩:=hd
   split at h
   ·rename_i v hv
    obtain⟨u,h4,h5,h6⟩:=kX ak _ hv aek
    refine ax h (fun ct=>⟨u, ?_,h6⟩) hn
    obtain⟨h7,h8,_⟩:=ct
    simp[Instr.index,run_underlying ht,asIntOf,h7,h8,run_sizeOf aga,part,gu apc,h4]
   ·cases h
  ·cases h
 ·cases h
theorem agb{t:TypeId}{x:AV}{f:Nat}{vx:Value}{q:bx}(h:(acM P t x f).eval H=some q)(hn:bt q.need)(hd:ab ρ H O w x vx):
 eV P ρ H O w q (Instr.field t vx f):=by
 unfold acM at h
 split at h
 ·rename_i fs ak ht
  unfold ab at hd
  obtain⟨cs,rfl,aek⟩:=hd
  split at h
  ·rename_i fd hf
   split at h
   ·rename_i sz bH pI
    split at h
    ·rename_i ss hss
     simp only[Option.bind_eq_some_iff]at hss
     obtain⟨s1,h4,h5⟩:=hss
     obtain⟨h6,h7⟩:=fh ak _ h4 aek
     obtain⟨h8,h9⟩:=fi s1 sz h5 h7
     refine ax h (fun _=>⟨.agg ((cs.drop fd.offset).take sz).toArray, ?_,kY h9⟩) hn
     simp[Instr.field,run_underlying ht,hf,asAgg,part,gu pI,run_sizeOf bH,List.extract_eq_take_drop]
    ·cases h
   ·rename_i sz bH pI
    split at h
    ·rename_i v hv
     obtain⟨u,h4,h5,h6⟩:=kX ak _ hv aek
     refine ax h (fun _=>⟨u, ?_,h6⟩) hn
     simp[Instr.field,run_underlying ht,hf,asAgg,part,gu pI,h4]
    ·cases h
   ·cases h
  ·cases h
 ·cases h
theorem aat:∀{xs:List AV} {vs:List Value} {i:Nat} {x:AV},bz ρ H O w xs vs→xs[i]? =some x→∃v,vs[i]? =some v∧ab ρ H O w x v
 |[],vs,i,x,_,hx=>by simp at hx
 |a::aA,vs,i,x,h,hx=>by
  obtain⟨v,rest,rfl,h1,h2⟩:=aw.1 h
  cases i with
  |zero=>simp at hx;subst hx;exact⟨v,rfl,h1⟩
  |succ i=>obtain⟨u,h3,h4⟩:=aat (i:=i) h2 (by simpa using hx);exact⟨u,by simpa using h3,h4⟩
theorem aau{x:AV}{i:Nat}{vx:Value}{q:bx}(h:(tL x i).eval H=some q)(hn:bt q.need)(hd:ab ρ H O w x vx):
 eV P ρ H O w q (Instr.extract vx i):=by
 unfold tL at h
 split at h
 ·rename_i vs
  unfold ab at hd
  obtain⟨us,rfl,hl⟩:=hd
  split at h
  ·rename_i v hv
   obtain⟨u,h1,h2⟩:=aat hl hv
   exact ax h (fun _=>⟨u,by simp[Instr.extract,h1],h2⟩) hn
  ·cases h
 ·cases h
theorem ju(hs:Sat ρ H G w){id:Nat}{c:aF}{e:TypeId}{v:Value}(ho:H id=some (.vec c e))(hd:ab ρ H O w (.vec id) v):∃a cap,v=.slice a c.n cap∧ρ id=v∧c.n≤cap∧cap≤maxLen:=by
 unfold ab ay at hd
 obtain⟨_,o,dd,hv⟩:=hd
 rw[ho]at dd
 cases dd
 obtain⟨a,cap,h1,h2,h3,_⟩:=hs.obj id _ ho
 exact⟨a,cap,by rw[hv c e rfl,h1],(hv c e rfl).symm,h2,h3⟩
theorem iM(hs:Sat ρ H G w){id lo n:Nat}{c:aF}{e:TypeId}{v:Value}(ho:H id=some (.vec c e))(hd:ab ρ H O w (.part id lo n) v):
 lo+n≤c.n∧∃a cap a',ρ id=.slice a c.n cap∧c.n≤cap∧cap≤maxLen∧v=.slice a' n (cap - lo)∧(cap≠lo→a'=a.map (·.add (lo*c.size)))∧(cap≠0→∃b o,a=some ⟨b,o,none⟩):=by
 unfold ab ay at hd
 obtain⟨_,o,dd,hv⟩:=hd
 rw[ho]at dd
 cases dd
 obtain⟨h0,a,cap,a',h1,h2,h3,h4⟩:=hv c e rfl
 obtain⟨a2,pV,g1,g2,g3,g4⟩:=hs.obj id _ ho
 obtain⟨rfl,rfl⟩:=slice_inj (h1.symm.trans g1)
 refine⟨h0,_,_,a',h1,h2,g3,h3,h4,fun hc=> ?_⟩
 rcases g4 with g4|⟨b,o,_,_,_,g5,_⟩
 ·exact absurd g4 hc
 ·exact⟨b,o,g5⟩
theorem ala{t ty:TypeId}{ts:List TypeId}{x:AV}{vx:Value}{q:bx}(h:(ao5 P t x).eval H=some q)(hn:bt q.need)(hs:Sat ρ H G w)(hd:ab ρ H O w x vx):
 eV P ρ H O w q (Builtin.len_ (t::ts).toArray ty #[vx]):=by
 unfold ao5 at h
 split at h
 ·rename_i s ht
  obtain rfl:=fa hd
  exact ax h (fun _=>⟨_,by simp[Builtin.len_,run_underlying ht];rfl,aq (.int _ _)⟩) hn
 ·rename_i n e ht
  exact ax h (fun _=>⟨_,by cases vx<;>simp[Builtin.len_,run_underlying ht]<;>rfl,aq (.aZ _ _)⟩) hn
 ·rename_i e c ht
  have hx:=ah (by simp) hd
  cases hx
  exact ax h (fun _=>⟨_,by simp[Builtin.len_,run_underlying ht];rfl,aq (.int _ _)⟩) hn
 ·rename_i e c k ht
  have hx:=ah (by simp) hd
  cases hx with
  |yz _ _ a n cap h1 h2=>
   cases h1
   exact ax h (fun _=>⟨_,by simp[Builtin.len_,run_underlying ht];rfl,aq (.int _ _)⟩) hn
 ·rename_i e ht
  unfold ab at hd
  obtain⟨a,rfl⟩:=hd
  exact ax h (fun _=>⟨_,by simp[Builtin.len_,run_underlying ht];rfl,aq (.aZ _ _)⟩) hn
 ·rename_i e id ht
  simp only[RM.eval]at h
  split at h
  ·rename_i c e' ho
   obtain⟨a,cap,rfl,_⟩:=ju hs ho hd
   exact ax h (fun _=>⟨_,by simp[Builtin.len_,run_underlying ht];rfl,aq (.int _ _)⟩) hn
  ·cases h
 ·rename_i e id lo n ht
  simp only[RM.eval]at h
  split at h
  ·rename_i c e' ho
   obtain⟨_,a,cap,a',_,_,_,rfl,_⟩:=iM hs ho hd
   exact ax h (fun _=>⟨_,by simp[Builtin.len_,run_underlying ht];rfl,aq (.int _ _)⟩) hn
  ·cases h
 ·rename_i kt et id ht
  simp only[RM.eval]at h
  split at h
  ·rename_i ck m ho
   unfold ab ay at hd
   obtain⟨b,hb,rfl,_⟩:=hd
   obtain⟨b',es,clock,h1,h2,h3⟩:=hs.obj id _ ho
   rw[hb]at h1
   cases h1
   have e1:(getObj b).run P w=.ok (.map es clock) w:=by simp[getObj,Sem.run,h2]
   have e2:es.size=m.length:=by have:=congrArg List.length h3.eq;simpa using this
   exact ax h (fun _=>⟨.int .i64 m.length,by simp[Builtin.len_,run_underlying ht,e1,e2];rfl,aq (.int _ _)⟩) hn
  ·cases h
 ·cases h
theorem alb{t ty:TypeId}{ts:List TypeId}{x:AV}{vx:Value}{q:bx}(h:(ao6 P t x).eval H=some q)(hn:bt q.need)(hs:Sat ρ H G w)(hd:ab ρ H O w x vx):
 eV P ρ H O w q (Builtin.cap_ (t::ts).toArray ty #[vx]):=by
 unfold ao6 at h
 split at h
 ·rename_i e c k ht
  have hx:=ah (by simp) hd
  cases hx with
  |yz _ _ a n cap h1 h2=>exact ax h (fun _=>⟨_,by simp[Builtin.cap_,run_underlying ht];rfl,aq (.ov _ _ (by omega))⟩) hn
 ·rename_i e id ht
  simp only[RM.eval]at h
  split at h
  ·rename_i c e' ho
   obtain⟨a,cap,rfl,_,hle,_⟩:=ju hs ho hd
   exact ax h (fun _=>⟨_,by simp[Builtin.cap_,run_underlying ht];rfl,aq (.mi _ _ (by omega))⟩) hn
  ·cases h
 ·rename_i e id lo n ht
  simp only[RM.eval]at h
  split at h
  ·rename_i c e' ho
   obtain⟨_,a,cap,a',_,hle,_,rfl,_⟩:=iM hs ho hd
   exact ax h (fun _=>⟨_,by simp[Builtin.cap_,run_underlying ht];rfl,aq (.mi _ _ (by omega))⟩) hn
  ·cases h
 ·cases h
theorem oD(op:BinOp)(t:TypeId)(x y:Operand)(a b:Option Addr)(n c m d:Nat):(eqGuard op t x y (.slice a n c) (.slice b m d)).run P w=.ok () w:=by
 cases op<;>simp[eqGuard]
theorem alc{op:BinOp}{t:TypeId}{x:AV}{ox oy:Operand}{vx vy:Value}{q:bx}(h:(ao8 P op t x).eval H=some q)(hn:bt q.need)(hs:Sat ρ H G w)
 (hx:ab ρ H O w x vx) (hy:vy=.slice none 0 0):eV P ρ H O w q (do eqGuard op t ox oy vx vy;binOp op t vx vy:Sem Value):=by
 subst hy
 have key:∀e,P.underlying t=some (.slice e)→(op=.eql∨op=.neq)→∀a n c n',vx=.slice a n c→(a=none→n'=0)→(plain [] (.s (.kf n' (pQ op)))).eval H=some q→eV P ρ H O w q (do eqGuard op t ox oy vx (.slice none 0 0);binOp op t vx (.slice none 0 0):Sem Value):=by
  rintro e ht wx a n c n' rfl ha h
  refine ax h (fun _=> ?_) hn
  rcases wx with rfl|rfl
  ·exact⟨.bool a.isNone,by simp[oD,Lib.run_eql_slice_nil w t e a n c 0 0 ht],aq (.kf _ _ _ (fun e=>ha (by simpa[pQ]using e)))⟩
  ·exact⟨.bool (!a.isNone),by simp[oD,run_neq_slice_nil_any w t e a n c 0 0 ht],aq (.kf _ _ _ (fun e=>ha (by simpa[pQ]using e)))⟩
 have ald:∀x,ab ρ H O w x vx→(op=.eql∨op=.neq)→(match P.underlying t with
  |some (.slice _)=>
   match x with
   |.s (.ro c)=>plain [] (.s (.kf c.n (pQ op)))
   |.emp=>plain [] (.s (.kf 0 (pQ op)))
   |.vec id=>.look id fun o=>match o with
    |some (.vec c _)=>plain [] (.s (.kf c.n (pQ op)))
    |_=>.fail "== nil: no row"
   |_=>.fail "== nil"
  |_=>.fail "== nil: the type" :RM bx).eval H=some q→eV P ρ H O w q (do eqGuard op t ox oy vx (.slice none 0 0);binOp op t vx (.slice none 0 0):Sem Value):=by
  intro x hx wx h
  split at h
  ·rename_i e ht
   split at h
   ·have h1:=ah (by simp) hx
    cases h1 with
    |ro c a cap us b o q1 q2 q3 q4 q5=>exact key e ht wx _ _ _ _ rfl (fun ha=>Decidable.byContradiction fun hn0=>by have:=(q3 (Nat.pos_of_ne_zero hn0)).1;rw[ha]at this;cases this) h
   ·unfold ab at hx
    obtain⟨a,rfl⟩:=hx
    exact key e ht wx _ _ _ _ rfl (fun _=>rfl) h
   ·simp only[RM.eval]at h
    split at h
    ·rename_i ho
     obtain⟨a,cap,rfl,dN,hle,_⟩:=ju hs ho hx
     refine key e ht wx _ _ _ _ rfl (fun ha=> ?_) h
     obtain⟨a2,pV,ahM,_,_,h3⟩:=hs.obj _ _ ho
     rw[dN]at ahM
     cases ahM
     rcases h3 with h3|⟨_,_,_,_,_,h3,_⟩
     ·omega
     ·rw[ha]at h3;cases h3
    ·cases h
   ·cases h
  ·cases h
 unfold ao8 at h
 split at h
 ·exact ald x hx (.inl rfl) h
 ·exact ald x hx (.inr rfl) h
 ·cases h
theorem acW{op:BinOp}{t:TypeId}{x y:AV}{ox oy:Operand}{vx vy:Value}{q:bx}(h:(yG op x y).eval H=some q)(hn:bt q.need)
 (hx:ab ρ H O w x vx) (hy:ab ρ H O w y vy):eV P ρ H O w q (do eqGuard op t ox oy vx vy;binOp op t vx vy:Sem Value):=by
 unfold yG at h
 split at h
 ·rename_i l a b h1
  obtain rfl:=bR h1 hx
  have hy:=ah (by simp) hy
  cases hy with
  |mi _ n hge=>
   refine ax h (fun ct=> ?_) hn
   obtain⟨h3,_⟩:=ct
   refine⟨.bool false, ?_,aq (.aI _)⟩
   have:¬a>n:=by omega
   simp[gr,binOp,Op.intCmp,this]
 ·rename_i l a b h1
  obtain rfl:=bR h1 hx
  have hy:=ah (by simp) hy
  cases hy with
  |ov _ n bg=>
   refine ax h (fun ct=> ?_) hn
   obtain⟨h3,_⟩:=ct
   refine⟨.bool true, ?_,aq (.aI _)⟩
   have:a>n:=by omega
   simp[gr,binOp,Op.intCmp,this]
 ·cases h
theorem k9{x:AV}{v:Value}(h:ab ρ H O w x v):ab ρ H O w (oz x) v:=by
 unfold oz
 split
 ·have h1:=ah (by simp) h
  cases h1
  unfold ab
  exact⟨none,rfl⟩
 ·exact h
theorem ahN{x:AV}{v:Value}(h:ab ρ H O w x v)(hx:acT x=true):v=.slice none 0 0:=by
 unfold acT at hx
 split at hx
 ·have h1:=ah (by simp) h
  cases h1
  rfl
 ·cases hx
theorem ael{ts:Array TypeId}{ty:TypeId}{mx:Bool}{x y:AV}{vx vy:Value}{q:bx}(h:(ak4 mx x y).eval H=some q)(hn:bt q.need)(hx:ab ρ H O w x vx)(hy:ab ρ H O w y vy):
 eV P ρ H O w q (if mx then Builtin.max_ ts ty #[vx,vy]else Builtin.min_ ts ty #[vx,vy]):=by
 unfold ak4 at h
 split at h
 ·rename_i k lx a k' ly b h1 h2
  obtain rfl:=bR h1 hx
  obtain rfl:=bR h2 hy
  rw[Bool.cond_eq_ite]at h
  split at h
  ·rename_i hk
   obtain rfl:=aX hk
   cases mx
   ·exact ax h (fun _=>⟨_,by simp[run_min_int2,oY],gq _ _ _⟩) hn
   ·exact ax h (fun _=>⟨_,by simp[run_max_int2,imax],gq _ _ _⟩) hn
  ·cases h
 ·cases h
theorem yN{x:AV}{vx:Value}{q:bx}(h:(q8 x).eval H=some q)(hn:bt q.need)(hd:ab ρ H O w x vx)(e:Operand→Value)(o:Oper)(y:Operand)(ho:o.op=.nilCheck y)(he:e y=vx):
 q.up=[]∧q.new=[]∧(execOp e o).run P w=.ok (.value vx) w∧∀base,ab ρ H O w (q.r base) vx:=by
 have fin:∀r,(plain [] r).eval H=some q→r=x→(execOp e o).run P w=.ok (.value vx) w→q.up=[]∧q.new=[]∧(execOp e o).run P w=.ok (.value vx) w∧∀base,ab ρ H O w (q.r base) vx:=by
  intro r hr hx jc
  simp only[plain,RM.eval,Option.some.injEq]at hr
  subst hr;subst hx
  exact⟨rfl,rfl,jc,fun _=>hd⟩
 unfold q8 at h
 split at h
 ·unfold ab ay at hd;obtain⟨b,_,rfl,_⟩:=hd;exact fin _ h rfl (by simp[execOp,ho,he])
 ·unfold ab ay at hd;obtain⟨_,b,_,rfl,_⟩:=hd;exact fin _ h rfl (by simp[execOp,ho,he])
 ·unfold ab ay at hd;obtain⟨b,o',us,rfl,_⟩:=hd;exact fin _ h rfl (by simp[execOp,ho,he])
 ·unfold ab at hd;obtain⟨vs,rfl,_⟩:=hd;exact fin _ h rfl (by simp[execOp,ho,he])
 ·have h1:=ah (by simp) hd;cases h1;exact fin _ h rfl (by simp[execOp,ho,he])
 ·cases h
theorem yO{fn:Fn}{first ej:List AV}{vf vc:List Value}{q:bx}(h:(q9 fn first ej).eval H=some q)(hn:bt q.need)(hf:bz ρ H O w first vf)(hc:bz ρ H O w ej vc):
 eV P ρ H O w q (Instr.makeFunc fn vf.toArray vc.toArray):=by
 unfold q9 at h
 split at h
 ·rename_i f
  obtain rfl:=aV.1 hf
  obtain rfl:=aV.1 hc
  exact ax h (fun _=>⟨_,rfl,aq (.kV f)⟩) hn
 ·rename_i f c cs
  obtain rfl:=aV.1 hf
  exact ax h (fun _=>⟨_,rfl,by unfold ab;exact⟨vc,rfl,hc⟩⟩) hn
 ·cases h
end
end Go.Sx
namespace Go.Sx
open Go
section
variable{ρ az:Nat→Value}{H H':aG}{G O O':Nat→Prop}{w w':World}{P:Program}
def mO(ρ:Nat→Value)(H:aG)(O:Nat→Prop)(w:World):Option AV→Option Value→Prop
 |none,none=>True
 |some a,some v=>ab ρ H O w a v
 |_,_=>False
theorem cf{d n:Int}{o:Option AV}{vo:Option Value}(h:gm d o=some n)(hd:mO ρ H O w o vo):(vo=none∧n=d)∨∃k,vo=some (.int k n):=by
 cases o with
 |none=>
  cases vo with
  |none=>simp only[gm,Option.some.injEq]at h;exact .inl ⟨rfl,h.symm⟩
  |some v=>exact hd.elim
 |some a=>
  cases vo with
  |none=>exact hd.elim
  |some v=>
   simp only[gm,Option.map_eq_some_iff]at h
   obtain⟨⟨k,l,m⟩,h1,rfl⟩:=h
   exact .inr ⟨k,by rw[bR h1 hd]⟩
theorem nJ(c:aF){l h:Nat}(_hl:l≤h)(hh:h≤c.n):(dr c l h).n=h - l:=by
 cases c<;>simp only[dr,aF.n,List.length_drop,List.length_take]at * <;>omega
theorem jv(c:aF)(l h:Nat):(dr c l h).size=c.size:=by cases c<;>rfl
theorem ahO{α:Type}(zs:List α)(d:α){l h i:Nat}(hi:i<h - l):((zs.take h).drop l).getD i d=zs.getD (l+i) d:=by
 simp only[List.getD,List.getElem?_drop,List.getElem?_take]
 rw[if_pos (by omega)]
theorem jw(c:aF){l h i:Nat}(j:Nat)(hi:i<h - l):(dr c l h).cell i j=c.cell (l+i) j:=by
 cases c<;>simp only[dr,aF.cell,ahO _ _ hi]
theorem aav{s:ByteArray}{lo hi:Option Value}{l h:Int}(hl:(lo=none∧l=0)∨∃k,lo=some (.int k l))(hh:(hi=none∧h=(s.size:Int))∨∃k,hi=some (.int k h))
 (h0:0≤l) (h1:l≤h) (h2:h≤s.size) {t:TypeId} (ht:P.underlying t=some .string) (w:World):
 (Instr.sliceAt t (.string s) lo hi none).run P w=.ok (.string (s.extract l.toNat h.toNat)) w:=by
 have hle:l≤((h.toNat:Nat):Int):=by omega
 rcases hl with⟨rfl,rfl⟩|⟨k,rfl⟩<;>rcases hh with⟨rfl,rfl⟩|⟨k',rfl⟩
 ·simp[Instr.sliceAt,Instr.slice,run_underlying ht,Instr.sliceBounds]
 ·simp[Instr.sliceAt,Instr.slice,run_underlying ht,Instr.sliceBounds,run_sliceBound _ _ _ _ _ h1 h2]
 ·simp[Instr.sliceAt,Instr.slice,run_underlying ht,Instr.sliceBounds,run_sliceBound _ _ _ _ _ h0 h1]
 ·simp[Instr.sliceAt,Instr.slice,run_underlying ht,Instr.sliceBounds,run_sliceBound _ _ _ _ _ (show 0≤h by omega) h2,run_sliceBound _ _ _ _ _ h0 hle]
theorem ld{a:Option Addr}{n cap:Nat}{lo hi:Option Value}{l h:Int}(hl:(lo=none∧l=0)∨∃k,lo=some (.int k l))(hh:(hi=none∧h=(n:Int))∨∃k,hi=some (.int k h))
 (h0:0≤l) (h1:l≤h) (h2:h≤cap) {t e:TypeId} (ht:P.underlying t=some (.slice e)) {sz:Nat} (hs:dw P e=some sz) (w:World):
 (Instr.sliceAt t (.slice a n cap) lo hi none).run P w=.ok (.slice (if cap=l.toNat then a else a.map (·.add (l.toNat*sz))) (h.toNat - l.toNat) (cap - l.toNat)) w:=by
 have hle:l≤((h.toNat:Nat):Int):=by omega
 rcases hl with⟨rfl,rfl⟩|⟨k,rfl⟩<;>rcases hh with⟨rfl,rfl⟩|⟨k',rfl⟩
 ·simp[Instr.sliceAt,Instr.slice,run_underlying ht,Instr.sliceBounds,run_sizeOf hs]
 ·simp[Instr.sliceAt,Instr.slice,run_underlying ht,Instr.sliceBounds,run_sliceBound _ _ _ _ _ h1 h2,run_sizeOf hs]
 ·simp[Instr.sliceAt,Instr.slice,run_underlying ht,Instr.sliceBounds,run_sliceBound _ _ _ _ _ h0 h1,run_sizeOf hs]
 ·simp[Instr.sliceAt,Instr.slice,run_underlying ht,Instr.sliceBounds,run_sliceBound _ _ _ _ _ (show 0≤h by omega) h2,run_sliceBound _ _ _ _ _ h0 hle,run_sizeOf hs]
theorem sg{b o n:Nat}{lo hi:Option Value}{l h:Int}(hl:(lo=none∧l=0)∨∃k,lo=some (.int k l))(hh:(hi=none∧h=(n:Int))∨∃k,hi=some (.int k h))
 (h0:0≤l) (h1:l≤h) (h2:h≤n) {t e:TypeId} (ht:P.underlying t=some (.array n e)) (hs:dw P e=some 1) (w:World):
 ∃a,(Instr.sliceAt t (.pointer (some ⟨b,o,none⟩)) lo hi none).run P w=.ok (.slice a (h.toNat - l.toNat) (n - l.toNat)) w∧(h.toNat - l.toNat≠0→a=some ⟨b,o+l.toNat,none⟩):=by
 have hle:l≤((h.toNat:Nat):Int):=by omega
 refine⟨some (if n=l.toNat then⟨b,o,none⟩else(⟨b,o,none⟩:Addr).add (l.toNat*1)), ?_,fun ct=>by rw[if_neg (by omega),aS,Nat.mul_one]⟩
 rcases hl with⟨rfl,rfl⟩|⟨k,rfl⟩<;>rcases hh with⟨rfl,rfl⟩|⟨k',rfl⟩
 ·simp[Instr.sliceAt,Instr.sureAddr,run_underlying ht,Instr.sliceBounds,run_sizeOf hs]
 ·simp[Instr.sliceAt,Instr.sureAddr,run_underlying ht,Instr.sliceBounds,run_sliceBound _ _ _ _ _ h1 h2,run_sizeOf hs]
 ·simp[Instr.sliceAt,Instr.sureAddr,run_underlying ht,Instr.sliceBounds,run_sliceBound _ _ _ _ _ h0 h1,run_sizeOf hs]
 ·simp[Instr.sliceAt,Instr.sureAddr,run_underlying ht,Instr.sliceBounds,run_sliceBound _ _ _ _ _ (show 0≤h by omega) h2,run_sliceBound _ _ _ _ _ h0 hle,run_sizeOf hs]
theorem acX{c:aF}{v:Value}(hx:aJ O w (.ro c) v){l h:Nat}(hl:l≤h)(hh:h≤c.n):∃a cap,v=.slice a c.n cap∧c.n≤cap∧
 ∀sz,sz=c.size→aJ O w (.ro (dr c l h)) (.slice (if cap=l then a else a.map (·.add (l*sz))) (h - l) (cap - l)):=by
 cases hx with
 |ro _ a cap us b o h1 h2 h3 h4 h5=>
  refine⟨a,cap,rfl,h1, ?_⟩
  rintro sz rfl
  have hn:=nJ c hl hh
  have bH:=jv c l h
  have key:=aJ.ro (O:=O) (w:=w) (dr c l h) (if cap=l then a else a.map (·.add (l*c.size))) (cap - l) (fun i j=>us (l+i) j) b (o+l*c.size) (by omega) (by omega)
   (fun h0=>by
     obtain⟨rfl,h6,h7⟩:=h3 (by omega)
     refine⟨?_,h6,h7⟩
     rw[if_neg (by omega)]
     simp only[Option.map_some,aS])
   (fun i j hi hj=>by
     rw[hn]at hi
     rw[bH]at hj ⊢
     have:=h4 (l+i) j (by omega) hj
     rw[show o+l*c.size+i*c.size+j=o+(l+i)*c.size+j from by rw[Nat.add_mul];omega]
     exact this)
   (fun i j hi hj=>by
     rw[hn]at hi
     rw[bH]at hj
     rw[jw c j hi]
     exact h5 _ _ (by omega) hj)
  rw[hn]at key
  exact key
theorem ahP(a:Option Addr)(hf:∃b o,a=some ⟨b,o,none⟩)(x y:Nat):(a.map (·.add x)).map (·.add y)=a.map (·.add (x+y)):=by
 obtain⟨b,o,rfl⟩:=hf
 simp only[Option.map_some,aS,Nat.add_assoc]
theorem aaw{t e e':TypeId}{c:aF}{id lo0 n:Nat}{lo hi mx:Option AV}{vlo vhi wI:Option Value}{q:bx}(h:(aeh P e c id lo0 n lo hi mx).eval H=some q)(hn:bt q.need)
 (ht:P.underlying t=some (.slice e)) (ho:H id=some (.vec c e')) {a a':Option Addr} {cap:Nat} (hr:ρ id=.slice a c.n cap) (wJ:c.n≤cap) (hln:lo0+n≤c.n) (ha':cap≠lo0→a'=a.map (·.add (lo0*c.size)))
 (hf:cap≠0→∃b o,a=some ⟨b,o,none⟩) (hlo:mO ρ H O w lo vlo) (hhi:mO ρ H O w hi vhi) (hmx:mO ρ H O w mx wI):
 eV P ρ H O w q (Instr.sliceAt t (.slice a' n (cap - lo0)) vlo vhi wI):=by
 unfold aeh at h
 split at h
 ·rename_i sz bH
  rw[Bool.cond_eq_ite]at h
  split at h
  ·rename_i hz
   have hz:sz=c.size:=by simpa using hz
   subst hz
   split at h
   ·obtain rfl:wI=none:=by cases wI<;>first|rfl|exact hmx.elim
    split at h
    ·rename_i l hh h1 h2
     refine ax h (fun ct=> ?_) hn
     obtain⟨h3,h4,h5,_⟩:=ct
     refine⟨_,ld (cf h1 hlo) (cf h2 hhi) h3 h4 (by omega) ht bH w, ?_⟩
     unfold ab ay
     refine⟨rfl,_,ho,fun c' e'' hc=> ?_⟩
     cases hc
     refine⟨by omega,a,cap,_,hr,wJ,by rw[Nat.sub_sub],fun ct=> ?_⟩
     have hc0:cap≠lo0:=by omega
     rw[if_neg (by omega),ha' hc0,ahP _ (hf (by omega)),Nat.add_mul]
    ·cases h
   ·rename_i m
    split at h
    ·rename_i l kh lh hh km lm m' h1 h2 h3
     refine ax h (fun ct=> ?_) hn
     obtain⟨g1,g2,g3,g4,_⟩:=ct
     simp only[Option.bind_eq_some_iff]at h2
     obtain⟨ha,rfl,h2⟩:=h2
     cases wI with
     |none=>exact hmx.elim
     |some vm=>
      cases vhi with
      |none=>exact hhi.elim
      |some vh=>
       obtain rfl:=bR h3 hmx
       obtain rfl:=bR h2 hhi
       have e1:m'≤(((cap - lo0:Nat):Int)):=by omega
       have e2:hh≤((m'.toNat:Nat):Int):=by omega
       have e3:l≤((hh.toNat:Nat):Int):=by omega
       rcases cf h1 hlo with⟨rfl,rfl⟩|⟨k1,rfl⟩
       ·exact⟨_,by simp[Instr.sliceAt,Instr.slice,run_underlying ht,Instr.sliceBounds,run_sliceBound _ _ _ _ _ (show 0≤m' by omega) e1,run_sliceBound _ _ _ _ _ (show 0≤hh by omega) e2,run_sizeOf bH];rfl,by unfold ab;trivial⟩
       ·exact⟨_,by simp[Instr.sliceAt,Instr.slice,run_underlying ht,Instr.sliceBounds,run_sliceBound _ _ _ _ _ (show 0≤m' by omega) e1,run_sliceBound _ _ _ _ _ (show 0≤hh by omega) e2,run_sliceBound _ _ _ _ _ g1 e3,run_sizeOf bH];rfl,by unfold ab;trivial⟩
    ·cases h
  ·cases h
 ·cases h
theorem agc(hs:Sat ρ H G w){t:TypeId}{x:AV}{lo hi mx:Option AV}{vx:Value}{vlo vhi wI:Option Value}{q:bx}(h:(acR P t x lo hi mx).eval H=some q)(hn:bt q.need)
 (hd:ab ρ H O w x vx) (hlo:mO ρ H O w lo vlo) (hhi:mO ρ H O w hi vhi) (hmx:mO ρ H O w mx wI):
 eV P ρ H O w q (Instr.sliceAt t vx vlo vhi wI):=by
 unfold acR at h
 split at h
 ·rename_i s ht
  obtain rfl:=fa hd
  split at h
  ·rename_i l hh h1 h2
   obtain rfl:wI=none:=by cases wI<;>first|rfl|exact hmx.elim
   refine ax h (fun ct=> ?_) hn
   obtain⟨h3,h4,h5,_⟩:=ct
   exact⟨_,aav (cf h1 hlo) (cf h2 hhi) h3 h4 h5 ht w,aq (.str _)⟩
  ·cases h
 ·rename_i e ht
  unfold ab at hd
  obtain⟨a,rfl⟩:=hd
  split at h
  ·rename_i sz l hh bH h1 h2
   obtain rfl:wI=none:=by cases wI<;>first|rfl|exact hmx.elim
   refine ax h (fun ct=> ?_) hn
   obtain⟨rfl,rfl,_⟩:=ct
   exact⟨_,ld (cf h1 hlo) (cf h2 hhi) (by omega) (by omega) (by omega) ht bH w,by unfold ab;exact⟨a,by simp⟩⟩
  ·cases h
 ·rename_i e c ht
  have hx:=ah (by simp) hd
  split at h
  ·rename_i sz bH
   rw[Bool.cond_eq_ite]at h
   split at h
   ·rename_i hz
    have hz:sz=c.size:=by simpa using hz
    split at h
    ·obtain rfl:wI=none:=by cases wI<;>first|rfl|exact hmx.elim
     split at h
     ·rename_i l hh h1 h2
      refine ax h (fun ct=> ?_) hn
      obtain⟨h3,h4,h5,_⟩:=ct
      obtain⟨a,cap,rfl,hle,ahQ⟩:=acX hx (l:=l.toNat) (h:=hh.toNat) (by omega) (by omega)
      exact⟨_,ld (cf h1 hlo) (cf h2 hhi) h3 h4 (by omega) ht bH w,aq (ahQ sz hz)⟩
     ·cases h
    ·rename_i m
     split at h
     ·rename_i l kh lh hh km lm m' h1 h2 h3
      refine ax h (fun ct=> ?_) hn
      obtain⟨rfl,rfl,rfl,_⟩:=ct
      simp only[Option.bind_eq_some_iff]at h2
      obtain⟨ha,rfl,h2⟩:=h2
      cases wI with
      |none=>exact hmx.elim
      |some vm=>
       cases vhi with
       |none=>exact hhi.elim
       |some vh=>
        obtain rfl:=bR h3 hmx
        obtain rfl:=bR h2 hhi
        cases hx with
        |ro _ a cap us b o g1 g2 g3 g4 g5=>
         refine⟨.slice a 0 0, ?_,by unfold ab;exact⟨a,rfl⟩⟩
         have hb:∀(k:IntKind) (y:Nat) (code:BoundsCode) (w:World),(Instr.sliceBound (.int k 0) y code).run P w=.ok 0 w:=fun k y code w=>by
          rw[run_sliceBound _ _ _ _ _ (by omega) (by omega)];rfl
         rcases cf h1 hlo with⟨rfl,_⟩|⟨k1,rfl⟩
         ·simp[Instr.sliceAt,Instr.slice,run_underlying ht,Instr.sliceBounds,hb,run_sizeOf bH]
         ·simp[Instr.sliceAt,Instr.slice,run_underlying ht,Instr.sliceBounds,hb,run_sizeOf bH]
     ·cases h
   ·cases h
  ·cases h
 ·rename_i e c k ht
  have hx:=ah (by simp) hd
  obtain⟨a0,n0,aud,rfl,hx,bg⟩:∃a n cap,vx=.slice a n cap∧aJ O w (.ro c) vx∧cap<k:=by
   cases hx with
   |yz _ _ a n cap h1 h2=>exact⟨a,n,cap,rfl,h1,h2⟩
  split at h
  ·rename_i sz bH
   rw[Bool.cond_eq_ite]at h
   split at h
   ·rename_i hz
    have hz:sz=c.size:=by simpa using hz
    obtain rfl:wI=none:=by cases wI<;>first|rfl|exact hmx.elim
    split at h
    ·rename_i hh h2
     obtain rfl:vlo=none:=by cases vlo<;>first|rfl|exact hlo.elim
     refine ax h (fun ct=> ?_) hn
     obtain⟨h4,h5,_⟩:=ct
     obtain⟨a,cap,e0,hle,ahQ⟩:=acX hx (l:=0) (h:=hh.toNat) (by omega) (by omega)
     cases e0
     have hd2:=ahQ sz hz
     exact⟨_,ld (l:=0) (.inl ⟨rfl,rfl⟩) (cf h2 hhi) (by omega) h4 (by omega) ht bH w,aq (.yz _ _ _ _ _ hd2 (by omega))⟩
    ·rename_i l hh h2
     split at h
     ·rename_i kl ll l' h1
      refine ax h (fun ct=> ?_) hn
      obtain⟨h3,h4,h5,_⟩:=ct
      obtain⟨a,cap,e0,hle,ahQ⟩:=acX hx (l:=l'.toNat) (h:=hh.toNat) (by omega) (by omega)
      cases e0
      have h1':gm 0 (some l)=some l':=by simp[gm,h1]
      exact⟨_,ld (cf h1' hlo) (cf h2 hhi) h3 h4 (by omega) ht bH w,aq (ahQ sz hz)⟩
     ·cases h
    ·cases h
   ·cases h
  ·cases h
 ·rename_i e id ht
  simp only[RM.eval]at h
  split at h
  ·rename_i c e' ho
   obtain⟨a,cap,rfl,hr,hle,_⟩:=ju hs ho hd
   have dR:=hs.obj id _ ho
   rw[hr]at dR
   obtain⟨a2,pV,g1,_,_,g4⟩:=dR
   cases g1
   have hf:cap≠0→∃b o,a=some ⟨b,o,none⟩:=fun hc=>by
    rcases g4 with g4|⟨b,o,_,_,_,g5,_⟩
    ·exact absurd g4 hc
    ·exact⟨b,o,g5⟩
   have:=aaw (a':=a) h hn ht ho hr hle (by omega) (fun hc=>by
    obtain⟨b,o,rfl⟩:=hf hc
    simp[aS]) hf hlo hhi hmx
   simpa using this
  ·cases h
 ·rename_i e id lo0 n ht
  simp only[RM.eval]at h
  split at h
  ·rename_i c e' ho
   obtain⟨h0,a,cap,a',h1,h2,h3,rfl,h4,h5⟩:=iM hs ho hd
   exact aaw h hn ht ho h1 h2 h0 h4 h5 hlo hhi hmx
  ·cases h
 ·rename_i n e id off ht
  split at h
  ·rename_i sz l hh bH h1 h2
   obtain rfl:wI=none:=by cases wI<;>first|rfl|exact hmx.elim
   rw[Bool.cond_eq_ite]at h
   split at h
   ·rename_i h1s
    obtain rfl:sz=1:=by simpa using h1s
    unfold ab ay at hd
    obtain⟨b,hb,rfl,hi⟩:=hd
    refine ax h (fun ct=> ?_) hn
    obtain⟨h3,h4,h5,_⟩:=ct
    obtain⟨a,e1,e2⟩:=sg (b:=b) (o:=off) (cf h1 hlo) (cf h2 hhi) h3 h4 h5 ht bH w
    refine⟨_,e1, ?_⟩
    unfold ab ay
    exact⟨rfl,b,a,_,hb,rfl,e2,hi⟩
   ·cases h
  ·cases h
 ·rename_i n e id i j ht
  split at h
  ·rename_i sz l hh bH h1 h2
   obtain rfl:wI=none:=by cases wI<;>first|rfl|exact hmx.elim
   simp only[RM.eval]at h
   split at h
   ·rename_i c e' ho
    rw[Bool.cond_eq_ite]at h
    split at h
    ·rename_i h1s
     simp only[Bool.and_eq_true,Nat.beq_eq]at h1s
     obtain⟨rfl,hjn⟩:=h1s
     have hjn:=Nat.le_of_ble_eq_true hjn
     unfold ab ay at hd
     obtain⟨h0,o,dd,hv⟩:=hd
     rw[ho]at dd
     cases dd
     obtain⟨g1,g2,b,f,n',cap,g3,rfl⟩:=hv c e' rfl
     refine ax h (fun ct=> ?_) hn
     obtain⟨h3,h4,h5,_⟩:=ct
     obtain⟨a,e1,e2⟩:=sg (b:=b) (o:=f+i*c.size+j) (cf h1 hlo) (cf h2 hhi) h3 h4 h5 ht bH w
     refine⟨_,e1, ?_⟩
     unfold ab ay
     refine⟨rfl,_,ho,fun c2 e2' hc=> ?_⟩
     cases hc
     exact⟨g1,by omega,b,f,n',cap,a,_,g3,rfl,fun hz=>by rw[e2 hz,Nat.add_assoc]⟩
    ·cases h
   ·cases h
  ·cases h
 ·cases h
theorem yP(zs:List Int):∀(l:List Value) (s:ByteArray) (w:World),l=zs.map (Value.int .u8)→
 (forIn (m:=Sem) l s fun c s=>do
   match c with
   |.int .u8 n=>pure (ForInStep.yield (s.push (UInt8.ofNat n.toNat)))
   |_=>do
    stuck "bytesToString: byte expected"
    pure (ForInStep.yield s)).run P w=.ok ⟨s.data++(zs.map fun n=>UInt8.ofNat n.toNat).toArray⟩ w:=by
 induction zs with
 |nil=>intro l s w h;subst h;simp
 |cons z zs ih=>
  intro l s w h
  subst h
  simp only[List.map_cons,List.forIn_cons,Sem.run_bind,Sem.run_pure,Result.andThen_ok]
  rw[ih _ _ _ rfl]
  congr 2
  simp[ByteArray.push]
def pb(O:Nat→Prop)(w:World)(c:aF)(v:Value):Prop:=
 ∃(a:Option Addr) (cap:Nat) (us:Nat→Nat→Value),v=.slice a c.n cap∧c.n≤cap∧cap≤maxLen∧(0<c.n→∃b o,a=some ⟨b,o,none⟩∧b<w.heap.size∧
  ∀i j,i<c.n→j<c.size→w.cell? ⟨b,o+i*c.size+j,none⟩=some (us i j)∧aJ O w (c.cell i j) (us i j))
theorem ud(sh:Shape)(size:Nat):(ahF sh size).n=0:=by cases sh<;>rfl
theorem ue{sh:Shape}{size:Nat}{x:AV}{k:aF→Option Nat→RM bx}{v:Value}{q:bx}(h:(rowOf sh size x k).eval H=some q)(hs:Sat ρ H G w)(hd:ab ρ H (aK ρ H G) w x v):
 ∃c idy,(k c idy).eval H=some q∧pb (aK ρ H G) w c v:=by
 unfold rowOf at h
 split at h
 ·split at h
  ·rename_i c
   have hx:=ah (by simp) hd
   cases hx with
   |ro _ a cap us b o g1 g2 g3 g4 g5=>
    refine⟨c,none,h,a,cap,us,rfl,g1,g2,fun h0=> ?_⟩
    obtain⟨rfl,_,h2⟩:=g3 h0
    exact⟨b,o,rfl,h2,fun i j hi hj=>⟨g4 i j hi hj,g5 i j hi hj⟩⟩
  ·cases h
 ·unfold ab at hd
  obtain⟨a,rfl⟩:=hd
  exact⟨_,none,h,a,0,fun _ _=>undef,by rw[ud],by rw[ud];exact Nat.le_refl _,by simp[maxLen],by rw[ud];omega⟩
 ·rename_i id
  simp only[RM.eval]at h
  split at h
  ·rename_i c e ho
   refine⟨c,some id,h, ?_⟩
   unfold ab ay at hd
   obtain⟨_,o,dd,hv⟩:=hd
   rw[ho]at dd
   cases dd
   obtain rfl:=hv c e rfl
   obtain⟨a,cap,h1,h2,h3,h4⟩:=hs.obj id _ ho
   rcases h4 with rfl|⟨b,o,cells,fr,us,rfl,h5,h6,h7,h8⟩
   ·exact⟨a,0,fun _ _=>undef,h1,h2,h3,fun h0=>by omega⟩
   ·refine⟨_,cap,us,h1,h2,h3,fun _=>⟨b,o,rfl,(Array.getElem?_eq_some_iff.1 h5).1,fun i j hi hj=> ?_⟩⟩
    obtain⟨h9,s7⟩:=h8 i j hi hj
    exact⟨by rw[cY h5];exact h9,s7⟩
  ·cases h
 ·rename_i id lo n
  simp only[RM.eval]at h
  split at h
  ·rename_i c e ho
   refine⟨_,some id,h, ?_⟩
   obtain⟨g0,a,cap,a',g1,g2,g3,rfl,g4,g5⟩:=iM hs ho hd
   have hn:(dr c lo (lo+n)).n=n:=by rw[nJ c (by omega) g0];omega
   have bH:=jv c lo (lo+n)
   obtain⟨a2,pV,k1,k2,k3,k4⟩:=hs.obj id _ ho
   rw[g1]at k1
   cases k1
   rcases k4 with rfl|⟨b,o,cells,fr,us,rfl,h5,h6,h7,h8⟩
   ·exact⟨a',0 - lo,fun _ _=>undef,by rw[hn],by rw[hn];omega,by omega,fun h0=>by rw[hn]at h0;omega⟩
   ·refine⟨a',cap - lo,fun i j=>us (lo+i) j,by rw[hn],by rw[hn];omega,by omega,fun h0=> ?_⟩
    rw[hn]at h0
    refine⟨b,o+lo*c.size,by rw[g4 (by omega)];simp[aS],(Array.getElem?_eq_some_iff.1 h5).1,fun i j hi hj=> ?_⟩
    rw[hn]at hi
    rw[bH]at hj ⊢
    obtain⟨h9,s7⟩:=h8 (lo+i) j (by omega) hj
    refine⟨?_,by rw[jw c j (by omega)];exact s7⟩
    rw[cY h5,show o+lo*c.size+i*c.size+j=o+(lo+i)*c.size+j from by rw[Nat.add_mul];omega]
    exact h9
  ·cases h
 ·cases h
theorem wK(zs:List Int):zs.map (Value.int .u8)=(List.range zs.length).map fun i=>Value.int .u8 (zs.getD i 0):=by
 apply List.ext_getElem
 ·simp
 ·intro i h1 h2
  simp at h1
  simp[h1]
theorem jP{zs:List Int}{a:Option Addr}{cap:Nat}(h3:0<zs.length→∃b o,a=some ⟨b,o,none⟩∧∀j,j<zs.length→w.cell? ⟨b,o+j,none⟩=some (.int .u8 (zs.getD j 0))):
 (Conv.bytesToString (.slice a zs.length cap)).run P w=.ok (.string (aM zs)) w:=by
 cases a with
 |none=>
  have:zs.length=0:=by
   rcases Nat.eq_zero_or_pos zs.length with h0|h0
   ·exact h0
   ·obtain⟨b,o,e,_⟩:=h3 h0
    cases e
  obtain rfl:=List.eq_nil_of_length_eq_zero this
  rfl
 |some a=>
  have arq:(loadCells a zs.length).run P w=.ok (zs.map (Value.int .u8)).toArray w:=by
   rcases Nat.eq_zero_or_pos zs.length with h0|h0
   ·obtain rfl:=List.eq_nil_of_length_eq_zero h0
    rfl
   ·obtain⟨b,o,e,hc⟩:=h3 h0
    cases e
    rw[wK]
    refine run_loadCells w _ _ (fun i=>Value.int .u8 (zs.getD i 0)) (fun j hj=> ?_)
    rw[aS]
    exact hc j hj
  simp only[Conv.bytesToString,Sem.run_bind,arq,Result.andThen_ok]
  rw[←Array.forIn_toList]
  have:=yP (P:=P) zs (zs.map (Value.int .u8)) ByteArray.empty w rfl
  erw [this]
  simp[aM]
theorem pW{zs:List Int}{v:Value}(h:pb O w (.ints .u8 zs) v):(Conv.bytesToString v).run P w=.ok (.string (aM zs)) w:=by
 obtain⟨a,cap,us,rfl,h1,h2,h3⟩:=h
 simp only[aF.n]at h1 h3 ⊢
 refine jP fun h0=> ?_
 obtain⟨b,o,e,_,hc⟩:=h3 h0
 refine⟨b,o,e,fun j hj=> ?_⟩
 obtain⟨g1,g2⟩:=hc j 0 hj (by simp[aF.size])
 simp only[aF.size,Nat.mul_one,Nat.add_zero,aF.cell]at g1 g2
 rw[g1]
 generalize us j 0=u at g2 ⊢
 cases g2
 rfl
theorem xl(hs:Sat ρ H G w){id b m off n:Nat}{k:IntKind}{ws:List Int}{e:TypeId}(ho:H id=some (.own [.ints k m ws] e))(hb:ρ id=.pointer (some ⟨b,0,none⟩))(hnm:off+n≤m):
 ((ws.drop off).take n).length=n∧∀j,j<n→w.cell? ⟨b,off+j,none⟩=some (.int k (((ws.drop off).take n).getD j 0)):=by
 obtain⟨cells,fr,e1,_,e2⟩:=nI hs ho hb
 obtain⟨c1,c2,rfl,e3,e4⟩:=af.1 e2
 obtain⟨e5,rfl⟩:=cC.1 e3
 obtain rfl:=ao.1 e4
 refine⟨by rw[List.length_take,List.length_drop];omega,fun j hj=> ?_⟩
 rw[cY e1,List.append_nil,List.getElem?_map]
 have bg:off+j<ws.length:=by omega
 rw[List.getElem?_eq_getElem bg]
 simp[List.getD,List.getElem?_take,hj,List.getElem?_drop,bg]
theorem aax{src dst:TypeId}{x:AV}{vx:Value}{q:bx}(h:(tN P src dst x).eval H=some q)(hn:bt q.need)(hs:Sat ρ H G w)(hd:ab ρ H (aK ρ H G) w x vx):
 eV P ρ H (aK ρ H G) w q (convert src dst vx):=by
 unfold tN at h
 split at h
 ·rename_i d k om lf
  split at h
  ·rename_i k' lit n mN
   obtain rfl:=bR mN hd
   have jc:(convert src dst (.int k' n)).run P w=.ok (.int k (k.wrap n)) w:=by
    simp[convert,run_underlying om,run_underlying lf,Conv.intToInt]
   rw[Bool.cond_eq_ite]at h
   split at h
   ·exact ax h (fun _=>⟨_,jc,aq (.aZ _ _)⟩) hn
   ·rw[Bool.cond_eq_ite]at h
    split at h
    ·rename_i hk
     simp only[Bool.and_eq_true]at hk
     obtain rfl:=mJ hk.1
     refine ax h (fun ct=>⟨_,jc, ?_⟩) hn
     rw[b9 ct.1]
     exact aq (.int _ _)
    ·exact ax h (fun _=>⟨_,jc,aq (.int _ _)⟩) hn
  ·cases h
 ·rename_i om lf
  split at h
  ·rename_i s
   obtain rfl:=fa hd
   exact ax h (fun _=>⟨_,by simp[convert,run_underlying om,run_underlying lf],aq (.str _)⟩) hn
  ·cases h
 ·rename_i e om lf
  split at h
  ·rename_i hk
   have he:P.underlying e=some (.int .u8):=by
    unfold kindOf at hk
    split at hk<;>first|(cases hk;assumption)|cases hk
   split at h
   ·rename_i id off n
    simp only[RM.eval]at h
    split at h
    ·rename_i m ws e' ho
     unfold ab ay at hd
     obtain⟨_,b,a,cap,hb,rfl,ha,_⟩:=hd
     refine ax h (fun ct=>⟨_, ?_,aq (.str _)⟩) hn
     have hnm:off+n≤m:=ct.1
     obtain⟨hl,hc⟩:=xl hs ho hb hnm
     have:=jP (P:=P) (w:=w) (zs:=(ws.drop off).take n) (a:=a) (cap:=cap) (fun h0=>⟨b,off,ha (by omega),fun j hj=>hc j (by omega)⟩)
     rw[hl]at this
     simp[convert,run_underlying om,run_underlying lf,run_underlying he,this]
    ·cases h
   ·obtain⟨c,idy,h1,h2⟩:=ue h hs hd
    split at h1
    ·rename_i zs
     refine ax h1 (fun _=>⟨.string (aM zs), ?_,aq (.str _)⟩) hn
     obtain⟨a,cap,us,rfl,_⟩:=id h2
     simp[convert,run_underlying om,run_underlying lf,run_underlying he,pW h2]
    ·cases h1
  ·cases h
 ·cases h
end
end Go.Sx
namespace Go.Sx
open Go
def cI:List (Nat×ad)→Nat→Option ad
 |[],_=>none
 |(id,o)::us,j=>match cI us j with
  |some x=>some x
  |none=>if j=id then some o else none
def cZ(H:aG)(up:List (Nat×ad))(base:Nat)(new:List ad):aG:=fun j=>
 match cI up j with
 |some o=>some o
 |none=>if base≤j∧j<base+new.length then new[j - base]? else H j
section
variable{ρ az:Nat→Value}{H H':aG}{G O O':Nat→Prop}{w w':World}{P:Program}
theorem lg(base:Nat):cZ H [] base []=H:=by
 funext j
 simp only[cZ,cI,List.length_nil,Nat.add_zero]
 rw[if_neg (by omega)]
theorem fz(id:Nat)(o:ad)(base:Nat):cZ H [(id,o)] base []=aB H id o:=by
 funext j
 simp only[cZ,cI,aB,List.length_nil,Nat.add_zero]
 by_cases h:j=id
 ·simp[h]
 ·simp only[h,if_false]
  rw[if_neg (by omega)]
theorem iN(base:Nat)(o:ad):cZ H [] base [o]=aB H base o:=by
 funext j
 simp only[cZ,cI,aB,List.length_singleton]
 by_cases h:j=base
 ·subst h;simp
 ·rw[if_neg (by omega)]
  simp[h]
theorem agd(id base:Nat)(x o:ad)(h:id≠base):cZ H [(id,x)] base [o]=aB (aB H id x) base o:=by
 funext j
 simp only[cZ,cI,aB,List.length_singleton]
 by_cases h1:j=id
 ·subst h1;simp[h]
 ·by_cases h2:j=base
  ·subst h2;simp[h1]
  ·simp only[h1,h2,if_false]
   rw[if_neg (by omega)]
theorem cD:ab ρ H O w (.bm []) undef:=by
 unfold ab
 exact⟨[],rfl,aV.2 rfl⟩
theorem jQ{id:Nat}{o o':ad}(ho:H id=some o)(ha:o.alive=true){b:Nat}(hb:eh (ρ id)=some b)
 (rh:∀c' e',o'=.vec c' e'→∃c e,o=.vec c e∧c'.n=c.n∧c'.size=c.size) (ri:Obj):
 Step ρ H (aK ρ H G) w ρ (aB H id o') (aK ρ H G) (World.bZ w b ri):=by
 have dF:Own ρ H b:=⟨id,o,ho,ha,hb⟩
 refine⟨fun _ _ _=>rfl,fun j x hx=> ?_,fun c hc=>.inl hc,fun c hc hO=>ij (fun e=>hO (.inl (by subst e;exact dF))),by rw[iL];exact Nat.le_refl _⟩
 by_cases hj:j=id
 ·subst hj
  rw[ho]at hx
  cases hx
  exact⟨o',by simp[aB],rh⟩
 ·exact⟨x,by simp[aB,hj,hx],fun c' e' hc=>⟨c',e',hc,rfl,rfl⟩⟩
theorem Good.uf(hs:Sat ρ H G w){id b:Nat}{ak ew:List AV}{e:TypeId}(ho:H id=some (.own ak e))(hb:ρ id=.pointer (some ⟨b,0,none⟩))
 {cells dW:List Value} {fr:Nat×Nat} (h1:w.heap[b]? =some (.cells cells.toArray e fr)) (hu:unm fr cells.length) (hl:dW.length=cells.length)
 (hd:an ρ H (aK ρ H G) w ew dW):
 Good ρ H G w (aB H id (.own ew e)) (.bm []) undef (World.bZ w b (.cells dW.toArray e fr)):=by
 have lT:eh (ρ id)=some b:=by rw[hb];rfl
 have st:=jQ (G:=G) (w:=w) (o':=.own ew e) ho rfl lT (by simp) (.cells dW.toArray e fr)
 exact Good.write hs ho rfl rfl lT (by simp) ⟨b,dW,fr,hb,eJ h1,by rw[hl];exact hu,hd.step st⟩ cD
theorem kz{t:TypeId}{b off:Nat}{v:Value}{n:Nat}(hs:dw P t=some n)(hl:v.cells.toList.length=n){w':World}
 (h:(storeCells ⟨b,off,none⟩ v.cells.toList 0).run P w=.ok () w'):(Instr.storeAt t (.pointer (some ⟨b,off,none⟩)) v).run P w=.ok () w':=by
 have:v.cells.size=n:=by simpa using hl
 simp[Instr.storeAt,Instr.sureAddr,storeVar,run_sizeOf hs,this,h]
theorem lj{v:Value}(h:v.oneCell'=true):v.cells.toList=[v]:=by
 cases v<;>first|rfl|(simp[Value.oneCell']at h)
theorem kM{α:Type}(l:List α)(i:Nat)(x:α)(h:i<l.length):l.take i++[x]++l.drop (i+1)=l.set i x:=by
 rw[List.set_eq_take_append_cons_drop,if_pos h]
 simp
theorem fl{c c':aF}{v:Value}(h0:c.n=0)(h1:c'.n=0)(h:aJ O w (.ro c) v):aJ O w (.ro c') v:=by
 cases h with
 |ro _ a cap us b o h2 h3 h4 h5 h6=>
  have:=aJ.ro (O:=O) (w:=w) c' a cap us b o (by omega) h3 (fun h=>by omega) (fun i j hi hj=>by omega) (fun i j hi hj=>by omega)
  rw[h1]at this
  rw[h0]
  exact this
theorem ahR{k:IntKind}{v:SV}{n:Int}{u:Value}(h:ahC k v=some n)(hu:aJ O w v u):aJ O w (.int k n) u:=by
 unfold ahC at h
 split at h
 ·rw[Bool.cond_eq_ite]at h
  split at h
  ·rename_i hk
   obtain rfl:=aX hk
   cases h
   exact hu
  ·cases h
 ·rw[Bool.cond_eq_ite]at h
  split at h
  ·rename_i hk
   obtain rfl:=aX hk
   cases h
   cases hu
   exact .int _ _
  ·cases h
 ·cases h
theorem age{v:SV}{n:Bool}{u:Value}(h:acG v=some n)(hu:aJ O w v u):aJ O w (.bool n) u:=by
 unfold acG at h
 split at h<;>cases h<;>cases hu<;>exact .bool _
theorem ahS{v:SV}{n:ByteArray}{u:Value}(h:ahD v=some n)(hu:aJ O w v u):aJ O w (.str n) u:=by
 unfold ahD at h
 split at h<;>cases h
 exact hu
theorem agf{k:IntKind}{v:SV}{n:List Int}{u:Value}(h:acH k v=some n)(hu:aJ O w v u):aJ O w (.ro (.ints k n)) u:=by
 unfold acH at h
 split at h
 ·rw[Bool.cond_eq_ite]at h
  split at h
  ·rename_i hk
   obtain rfl:=aX hk
   cases h
   exact hu
  ·cases h
 ·cases h
  exact fl (by rfl) (by rfl) hu
 ·cases h
theorem agh{v:SV}{n:List ByteArray}{u:Value}(h:acI v=some n)(hu:aJ O w v u):aJ O w (.ro (.strs n)) u:=by
 unfold acI at h
 split at h<;>cases h
 ·exact hu
 ·exact fl (by rfl) (by rfl) hu
theorem acY{v:SV}{n:List Bool}{u:Value}(h:yB v=some n)(hu:aJ O w v u):aJ O w (.ro (.bD n)) u:=by
 unfold yB at h
 split at h<;>cases h
 ·exact hu
 ·exact fl (by rfl) (by rfl) hu
theorem agi{cs:List CK}{v:SV}{n:List (CL cs)}{u:Value}(h:acJ cs v=some n)(hu:aJ O w v u):aJ O w (.ro (.ae cs n)) u:=by
 unfold acJ at h
 split at h
 ·simp only[Option.map_eq_some_iff]at h
  obtain⟨⟨e⟩,_,h2⟩:=h
  subst e
  rw[xe]at h2
  subst h2
  exact hu
 ·cases h
  exact fl (by rfl) (by rfl) hu
 ·cases h
theorem agj{c:CK}{x y:c.V}{j:Nat}{v:SV}(h:c.set x j v=some y):c.wide=1∧∀(O:Nat→Prop) (w:World) (u:Value),aJ O w v u→∀l,aJ O w (c.cell y l) u:=by
 cases c with
 |int k=>exact⟨rfl,fun _ _ _ hu _=>ahR h hu⟩
 |bool=>exact⟨rfl,fun _ _ _ hu _=>age h hu⟩
 |str=>exact⟨rfl,fun _ _ _ hu _=>ahS h hu⟩
 |ints k=>exact⟨rfl,fun _ _ _ hu _=>agf h hu⟩
 |strs=>exact⟨rfl,fun _ _ _ hu _=>agh h hu⟩
 |bD=>exact⟨rfl,fun _ _ _ hu _=>acY h hu⟩
 |rows cs=>exact⟨rfl,fun _ _ _ hu _=>agi h hu⟩
 |arr k n=>cases h
theorem rj:∀{cs:List CK} {x y:CL cs} {j:Nat} {v:SV},CL.set cs x j v=some y→(∀(O:Nat→Prop) (w:World) (u:Value),aJ O w v u→aJ O w (CL.cell cs y j) u)∧∀j',j'≠j→CL.cell cs y j'=CL.cell cs x j'
 |[],x,y,j,v,h=>by cases h
 |c::cs,x,y,j,v,h=>by
  simp only[CL.set]at h
  rw[Bool.cond_eq_ite]at h
  split at h
  ·rename_i bg
   obtain⟨z,h1,rfl⟩:=Option.map_eq_some_iff.1 h
   obtain⟨h2,h3⟩:=agj h1
   refine⟨fun O w u hu=>by simp only[CL.cell,bg,cond_true];exact h3 O w u hu _,fun j' jx=> ?_⟩
   have h4:j<1:=by rw[h2]at bg;exact Nat.le_of_ble_eq_true bg
   simp only[CL.cell,h2,pU (show 1≤j' from by omega),cond_false]
  ·rename_i bg
   obtain⟨z,h1,rfl⟩:=Option.map_eq_some_iff.1 h
   have bg:j.blt c.wide=false:=Bool.eq_false_iff.2 bg
   have hge:c.wide≤j:=by
    rcases Nat.lt_or_ge j c.wide with h5|h5
    ·rw[mj h5]at bg;cases bg
    ·exact h5
   obtain⟨h2,h3⟩:=rj h1
   refine⟨fun O w u hu=>by simp only[CL.cell,bg,cond_false];exact h2 O w u hu,fun j' jx=> ?_⟩
   simp only[CL.cell]
   rcases Nat.lt_or_ge j' c.wide with h5|h5
   ·rw[mj h5,cond_true,cond_true]
   ·rw[pU h5,cond_false,cond_false]
    exact h3 _ (by omega)
theorem pX:∀{cs:List CK} {x y:CL cs} {j:Nat} {k:IntKind} {n:Nat} {ws:List Int},CL.setRow cs x j k n ws=some y→
 (∀l,l<n→CL.cell cs y (j+l)=.int k (ws.getD l 0))∧∀j',(j'<j∨j+n≤j')→CL.cell cs y j'=CL.cell cs x j'
 |[],x,y,j,k,n,ws,h=>by cases h
 |c::cs,x,y,j,k,n,ws,h=>by
  simp only[CL.setRow]at h
  rw[Bool.cond_eq_ite]at h
  split at h
  ·rename_i hj
   obtain rfl:j=0:=Nat.eq_of_beq_eq_true hj
   obtain⟨z,h1,rfl⟩:=Option.map_eq_some_iff.1 h
   cases c with
   |arr k' n'=>
    simp only[CK.setRow]at h1
    rw[Bool.cond_eq_ite]at h1
    split at h1
    ·rename_i hk
     simp only[Bool.and_eq_true]at hk
     obtain rfl:=aX hk.1
     obtain rfl:=Nat.eq_of_beq_eq_true hk.2
     cases h1
     refine⟨fun l hl=> ?_,fun j' jx=> ?_⟩
     ·rw[Nat.zero_add]
      simp only[CL.cell,CK.wide,mj hl,cond_true,CK.cell]
     ·simp only[CL.cell,CK.wide,pU (show n≤j' from by omega),cond_false]
    ·cases h1
   |_=>cases h1
  ·rw[Bool.cond_eq_ite]at h
   split at h
   ·rename_i hle
    have hle:=Nat.le_of_ble_eq_true hle
    obtain⟨z,h1,rfl⟩:=Option.map_eq_some_iff.1 h
    obtain⟨h2,h3⟩:=pX h1
    refine⟨fun l hl=> ?_,fun j' jx=> ?_⟩
    ·simp only[CL.cell,pU (show c.wide≤j+l from by omega),cond_false]
     rw[show j+l - c.wide=j - c.wide+l from by omega]
     exact h2 l hl
    ·simp only[CL.cell]
     rcases Nat.lt_or_ge j' c.wide with h5|h5
     ·rw[mj h5,cond_true,cond_true]
     ·rw[pU h5,cond_false,cond_false]
      exact h3 _ (by omega)
   ·cases h
theorem acZ{c:aF}{i j:Nat}{k:IntKind}{n:Nat}{ws:List Int}{c':aF}(h:nF c i j k n ws=some c')(hi:i<c.n):
 c'.n=c.n∧c'.size=c.size∧(∀l,l<n→c'.cell i (j+l)=.int k (ws.getD l 0))∧∀i' j',(i'≠i∨j'<j∨j+n≤j')→c'.cell i' j'=c.cell i' j':=by
 cases c<;>simp only[nF,reduceCtorEq]at h
 rename_i cs xs
 simp only[Option.map_eq_some_iff]at h
 obtain⟨y,h1,rfl⟩:=h
 simp only[aF.n]at hi
 obtain⟨h2,h3⟩:=pX h1
 refine⟨by simp[aF.n],rfl,fun l hl=> ?_,fun i' j' ct=> ?_⟩
 ·simp only[aF.cell]
  rw[show(xs.set i y).getD i (CL.d cs)=y from by simp[List.getD,hi]]
  exact h2 l hl
 ·simp only[aF.cell]
  by_cases hii:i'=i
  ·subst hii
   rw[show(xs.set i' y).getD i' (CL.d cs)=y from by simp[List.getD,hi]]
   exact h3 j' (by omega)
  ·have:i≠i':=fun e=>hii e.symm
   simp[List.getD,List.getElem?_set_ne this]
theorem ale(c:aF){i j:Nat}{v:SV}{c':aF}(h:qZ c i j v=some c'):c'.n=c.n∧c'.size=c.size:=by
 cases c<;>simp only[qZ]at h
 case ef=>simp only[Option.some.injEq]at h;subst h;exact⟨rfl,rfl⟩
 case ae=>
  simp only[Option.map_eq_some_iff]at h
  obtain⟨y,_,rfl⟩:=h
  simp[aF.n,aF.size]
 all_goals
  split at h<;>first
   |(simp only[Option.some.injEq]at h;subst h;simp[aF.n,aF.size];done)
   |(rw[Bool.cond_eq_ite]at h;split at h<;>first|(simp only[Option.some.injEq]at h;subst h;simp[aF.n,aF.size];done)|cases h)
   |cases h
theorem yQ(c:aF){i j:Nat}{v:SV}{c':aF}(h:qZ c i j v=some c')(hi:i<c.n)(hj:j<c.size){u:Value}(hu:aJ O w v u):
 aJ O w (c'.cell i j) u∧∀i' j',i'<c.n→j'<c.size→(i'≠i∨j'≠j)→c'.cell i' j'=c.cell i' j':=by
 cases c<;>simp only[qZ]at h
 case ints k zs=>
  simp only[aF.n,aF.size]at hi hj
  split at h<;>first
   |cases h
   |(rw[Bool.cond_eq_ite]at h
     split at h
     ·rename_i hk
      obtain rfl:=aX hk
      simp only[Option.some.injEq]at h
      subst h
      cases hu
      simp only[aF.cell,aF.n,aF.size]
      refine⟨by simp[List.getD,hi];exact .int _ _,fun i' j' eI jx ct=> ?_⟩
      have:i≠i':=by omega
      simp[List.getD,List.getElem?_set_ne this]
     ·cases h)
 case strs zs=>
  simp only[aF.n,aF.size]at hi hj
  split at h<;>simp only[Option.some.injEq,reduceCtorEq]at h
  subst h
  cases hu
  simp only[aF.cell,aF.n,aF.size]
  refine⟨by simp[List.getD,hi];exact .str _,fun i' j' eI jx ct=> ?_⟩
  have:i≠i':=by omega
  simp[List.getD,List.getElem?_set_ne this]
 case bD zs=>
  simp only[aF.n,aF.size]at hi hj
  split at h<;>simp only[Option.some.injEq,reduceCtorEq]at h
  all_goals
   subst h
   cases hu
   simp only[aF.cell,aF.n,aF.size]
   refine⟨by simp[List.getD,hi];exact .bool _,fun i' j' eI jx ct=> ?_⟩
   have:i≠i':=by omega
   simp[List.getD,List.getElem?_set_ne this]
 case ae cs xs=>
  simp only[aF.n,aF.size]at hi hj
  simp only[Option.map_eq_some_iff]at h
  obtain⟨y,h1,rfl⟩:=h
  obtain⟨h2,h3⟩:=rj h1
  simp only[aF.cell,aF.n,aF.size]
  refine⟨by rw[show(xs.set i y).getD i (CL.d cs)=y from by simp[List.getD,hi]];exact h2 O w u hu,fun i' j' eI jx ct=> ?_⟩
  by_cases hii:i'=i
  ·subst hii
   rw[show(xs.set i' y).getD i' (CL.d cs)=y from by simp[List.getD,hi]]
   exact h3 j' (by omega)
  ·have:i≠i':=fun e=>hii e.symm
   simp[List.getD,List.getElem?_set_ne this]
 case ef s n get=>
  simp only[Option.some.injEq]at h
  subst h
  simp only[aF.cell]
  refine⟨by simp[hu],fun i' j' _ _ ct=> ?_⟩
  have:(i'==i&&j'==j)=false:=by
   rcases ct with h|h<;>simp[h]
  simp[this]
theorem rk:∀(jj:List AV) (c:aF) {i j:Nat} {c':aF} {vs:List Value},eu c i j jj=some c'→an ρ H O w jj vs→i<c.n→j+fH jj≤c.size→
 c'.n=c.n∧c'.size=c.size∧vs.length=fH jj∧(∀l u,vs[l]? =some u→aJ O w (c'.cell i (j+l)) u)∧
 ∀i' j',i'<c.n→j'<c.size→(i'≠i∨j'<j∨j+fH jj≤j')→c'.cell i' j'=c.cell i' j'
 |[],c,i,j,c',vs,h,hd,hi,hj=>by
  simp only[eu,Option.some.injEq]at h
  subst h
  obtain rfl:=ao.1 hd
  exact⟨rfl,rfl,rfl,by simp,fun _ _ _ _ _=>rfl⟩
 |a::aA,c,i,j,c',vs,h,hd,hi,hj=>by
  cases a with
  |s v=>
   simp only[eu,Option.bind_eq_some_iff]at h
   obtain⟨c1,h1,h2⟩:=h
   obtain⟨cs1,cs2,rfl,hv,hr⟩:=af.1 hd
   unfold aC at hv
   obtain⟨u,rfl,hu⟩:=hv
   simp only[fH,AV.wide]at hj
   obtain⟨n1,s1⟩:=ale c h1
   obtain⟨g1,g2⟩:=yQ c h1 hi (by omega) hu
   obtain⟨k1,k2,k3,k4,k5⟩:=rk aA c1 h2 hr (by omega) (by omega)
   refine⟨k1.trans n1,k2.trans s1,by simp[k3,fH,AV.wide];omega,fun l x hx=> ?_,fun i' j' eI jx ct=> ?_⟩
   ·cases l with
    |zero=>
     simp at hx
     subst hx
     rw[Nat.add_zero,k5 i j (by omega) (by omega) (by omega)]
     exact g1
    |succ l=>
     have:=k4 l x (by simpa using hx)
     rw[show j+(l+1)=j+1+l from by omega]
     exact this
   ·simp only[fH,AV.wide]at ct
    rw[k5 i' j' (by omega) (by omega) (by omega)]
    exact g2 i' j' eI jx (by omega)
  |ints k n ws=>
   simp only[eu,Option.bind_eq_some_iff]at h
   obtain⟨c1,h1,h2⟩:=h
   obtain⟨cs1,cs2,rfl,hv,hr⟩:=af.1 hd
   unfold aC at hv
   obtain⟨hl,rfl⟩:=hv
   simp only[fH,AV.wide]at hj
   obtain⟨n1,s1,g1,g2⟩:=acZ h1 hi
   obtain⟨k1,k2,k3,k4,k5⟩:=rk aA c1 h2 hr (by omega) (by omega)
   refine⟨k1.trans n1,k2.trans s1,by simp[k3,fH,AV.wide,hl],fun l x hx=> ?_,fun i' j' eI jx ct=> ?_⟩
   ·rcases Nat.lt_or_ge l n with h5|h5
    ·rw[List.getElem?_append_left (by simp;omega)]at hx
     simp only[List.getElem?_map,Option.map_eq_some_iff]at hx
     obtain⟨z,hz,rfl⟩:=hx
     rw[k5 i (j+l) (by omega) (by omega) (by omega),g1 l h5,show ws.getD l 0=z from by simp[List.getD,hz]]
     exact .int _ _
    ·rw[List.getElem?_append_right (by simp;omega)]at hx
     simp only[List.length_map,hl]at hx
     have:=k4 (l - n) x hx
     rw[show j+n+(l - n)=j+l from by omega]at this
     exact this
   ·simp only[fH,AV.wide]at ct
    rw[k5 i' j' (by omega) (by omega) (by omega)]
    exact g2 i' j' (by omega)
  |_=>simp[eu]at h
theorem xm(cs:List CK):∀(jj:List AV) (xs:List (CL cs)) (i j:Nat),i<xs.length→(mG cs (xs.getD i (CL.d cs)) j jj).map (fun y=>aF.ae cs (xs.set i y))=eu (.ae cs xs) i j jj
 |[],xs,i,j,hi=>by
  simp only[mG,eu,Option.map_some,Option.some.injEq,aF.ae.injEq,heq_eq_eq,true_and]
  have:xs.getD i (CL.d cs)=xs[i]:=by simp[List.getD,hi]
  rw[this,List.set_getElem_self]
 |a::aA,xs,i,j,hi=>by
  have step:∀(y:CL cs) (k:Nat),(mG cs y k aA).map (fun y=>aF.ae cs (xs.set i y))=eu (.ae cs (xs.set i y)) i k aA:=fun y k=>by
   rw[←xm cs aA (xs.set i y) i k (by rw[List.length_set];exact hi)]
   have:(xs.set i y).getD i (CL.d cs)=y:=by simp[List.getD,hi]
   rw[this]
   congr 1
   funext z
   rw[List.set_set]
  cases a with
  |s v=>
   simp only[mG,eu,qZ]
   cases CL.set cs (xs.getD i (CL.d cs)) j v with
   |none=>rfl
   |some y=>exact step y (j+1)
  |ints k n ws=>
   simp only[mG,eu,nF]
   cases CL.setRow cs (xs.getD i (CL.d cs)) j k n ws with
   |none=>rfl
   |some y=>exact step y (j+n)
  |_=>rfl
theorem ahT:∀(jj:List AV) (c:aF) {i j:Nat} {c':aF} {vs:List Value},aeg c i j jj=some c'→an ρ H O w jj vs→i<c.n→j+fH jj≤c.size→
 c'.n=c.n∧c'.size=c.size∧vs.length=fH jj∧(∀l u,vs[l]? =some u→aJ O w (c'.cell i (j+l)) u)∧
 ∀i' j',i'<c.n→j'<c.size→(i'≠i∨j'<j∨j+fH jj≤j')→c'.cell i' j'=c.cell i' j':=by
 intro jj c i j c' vs h hd hi hj
 refine rk jj c ?_ hd hi hj
 cases c with
 |ae cs xs=>rw[←h];exact(xm cs jj xs i j hi).symm
 |_=>exact h
theorem yR(l vs:List Value)(o:Nat)(h:o+vs.length≤l.length)(i:Nat):(l.take o++vs++l.drop (o+vs.length))[i]? =if o≤i∧i<o+vs.length then vs[i - o]? else l[i]? :=by
 have hto:(l.take o).length=o:=by simp;omega
 by_cases h1:i<o
 ·rw[if_neg (by omega),List.append_assoc,List.getElem?_append_left (by omega),List.getElem?_take,if_pos h1]
 ·by_cases h2:i<o+vs.length
  ·rw[if_pos (by omega),List.getElem?_append_left (by simp;omega),List.getElem?_append_right (by omega),hto]
  ·rw[if_neg (by omega),List.getElem?_append_right (by simp;omega),List.getElem?_drop]
   congr 1
   simp
   omega
theorem gM{α:Type}(l:List α)(i:Nat)(d:α)(h:i<l.length):l[i]? =some (l.getD i d):=by
 simp[List.getD,List.getElem?_eq_getElem h]
theorem ahU{size i i' j j' f:Nat}(hj:j<size)(jx:j'<size)(h:f+i*size+j=f+i'*size+j'):i=i'∧j=j':=by
 have h1:i*size+j=i'*size+j':=by omega
 have h2:(i*size+j) / size=i:=by rw[Nat.mul_comm,Nat.mul_add_div (by omega),Nat.div_eq_of_lt hj];rfl
 have h3:(i'*size+j') / size=i':=by rw[Nat.mul_comm,Nat.mul_add_div (by omega),Nat.div_eq_of_lt jx];rfl
 have:i=i':=by rw[←h2,←h3,h1]
 subst this
 exact⟨rfl,by omega⟩
theorem agk{t:TypeId}{a x:AV}{va vx:Value}{q:bx}(h:(acK P t a x).eval H=some q)(hs:Sat ρ H G w)
 (ha:ab ρ H (aK ρ H G) w a va) (hx:ab ρ H (aK ρ H G) w x vx):
 ∃w',(Instr.storeAt t va vx).run P w=.ok () w'∧∀base,Good ρ H G w (cZ H q.up base q.new) (q.r base) undef w':=by
 unfold acK at h
 split at h
 ·rename_i sz wC bH pI
  split at h
  ·
   rename_i id off
   unfold ab ay at ha
   obtain⟨b,hb,rfl,_⟩:=ha
   simp only[RM.eval]at h
   split at h
   ·rename_i ak e ho
    obtain⟨cells,fr,h1,h2,h3⟩:=nI hs ho hb
    cases wC
    ·simp only[cond_false]at h
     rw[Bool.cond_eq_ite]at h
     split at h
     ·rename_i hc
      simp only[Bool.and_eq_true,Nat.beq_eq]at hc
      obtain⟨hsg,rfl⟩:=hc
      split at h
      ·rename_i ew mP
       simp only[RM.eval,Option.some.injEq]at h
       subst h
       obtain⟨h4,h5⟩:=lX ak off mP h3 hsg hx
       obtain⟨h6,h7⟩:=jO hsg hx
       refine⟨_,kz bH (by rw[lj h7];rfl) (bJ off _ 0 h1 h2 (by rw[lj h7];simp;omega) (by rw[lj h7];simpa using h7)),fun base=> ?_⟩
       simp only[fz,lj h7,Nat.add_zero,List.length_singleton]
       exact Good.uf hs ho hb h1 h2 (by simp;omega) (by rw[kM _ _ _ h4];exact h5)
      ·cases h
     ·cases h
    ·simp only[cond_true]at h
     split at h
     ·rename_i jj hby
      rw[Bool.cond_eq_ite]at h
      split at h
      ·rename_i hc
       simp only[Bool.and_eq_true,Nat.beq_eq]at hc
       obtain⟨hw,_⟩:=hc
       split at h
       ·rename_i ew ape
        simp only[RM.eval,Option.some.injEq]at h
        subst h
        have h4:=pS hby hx
        have h5:=iK h4
        obtain⟨h6,h7⟩:=tX ape h3 h4
        refine⟨_,kz bH (h5.trans hw) (bJ off _ 0 h1 h2 (by omega) (tY jj h4)),fun base=> ?_⟩
        simp only[fz,Nat.add_zero]
        exact Good.uf hs ho hb h1 h2 (by simp only[List.length_append,List.length_take,List.length_drop];omega) h7
       ·cases h
      ·cases h
     ·cases h
   ·cases h
  ·
   rename_i id off n i
   unfold ab ay at ha
   obtain⟨di,b,hb,rfl,_⟩:=ha
   simp only[RM.eval]at h
   split at h
   ·rename_i ak e ho
    obtain⟨cells,fr,h1,h2,h3⟩:=nI hs ho hb
    split at h
    ·rename_i k m ws k' l y ak9 mN
     rw[Bool.cond_eq_ite]at h
     split at h
     ·rename_i hc
      simp only[Bool.and_eq_true,Bool.not_eq_true',Nat.beq_eq]at hc
      obtain⟨⟨⟨rfl,hk⟩,rfl⟩,rfl⟩:=hc
      obtain rfl:=aX hk
      split at h
      ·rename_i ew mP
       simp only[RM.eval,Option.some.injEq]at h
       subst h
       obtain rfl:=bR mN hx
       obtain⟨hl,pre,post,rfl,hp⟩:=nH ak off ak9 h3
       have h4:=mL ak off ak9 mP (by simp) h3 hp
       have bg:off+i<(pre++ws.map (Value.int k)++post).length:=by simp;omega
       refine⟨_,kz bH rfl (bJ (off+i) [.int k y] 0 h1 h2 (by simp;omega) (by simp[Value.oneCell'])),fun base=> ?_⟩
       simp only[fz,Nat.add_zero,List.length_singleton]
       refine Good.uf hs ho hb h1 h2 (by rw[kM _ _ _ bg];simp) ?_
       rw[kM _ _ _ bg,List.append_assoc,List.set_append_right _ _ (by omega),List.set_append_left _ _ (by simp;omega),show off+i - pre.length=i from by omega,←List.append_assoc]
       rw[List.map_set]at h4
       exact h4
      ·cases h
     ·cases h
    ·cases h
   ·cases h
  ·
   rename_i id i j
   unfold ab ay at ha
   obtain⟨_,o,ho,hv⟩:=ha
   simp only[RM.eval]at h
   split at h
   ·rename_i c e dd
    rw[ho]at dd
    cases dd
    obtain⟨hi,hj,b,f,n,cap,dN,rfl⟩:=hv c e rfl
    split at h
    ·rename_i jj hby
     rw[Bool.cond_eq_ite]at h
     split at h
     ·rename_i hc
      simp only[Bool.and_eq_true,Nat.beq_eq]at hc
      obtain⟨hw,hle⟩:=hc
      have hle:=Nat.le_of_ble_eq_true hle
      split at h
      ·rename_i c' mP
       simp only[RM.eval,Option.some.injEq]at h
       subst h
       have h4:=pS hby hx
       obtain⟨k1,k2,k3,k4,k5⟩:=ahT jj c mP h4 hi (by omega)
       obtain⟨a,af2,h5,h6,h7,h8⟩:=hs.obj id _ ho
       rw[dN]at h5
       cases h5
       rcases h8 with rfl|⟨b',o',cells,fr,us,e1,g1,g2,g3,g4⟩
       ·omega
       ·cases e1
        have lT:eh (ρ id)=some b:=by
         rw[dN]
         simp only[eh]
         rw[if_neg (by omega)]
        have hmul:i*c.size+c.size≤cap*c.size:=by
         rw[←Nat.succ_mul]
         exact Nat.mul_le_mul_right _ (by omega)
        have hlen:f+i*c.size+j+vx.cells.toList.length≤cells.length:=by omega
        have st:=jQ (G:=G) (w:=w) (o':=.vec c' e) ho rfl lT (fun c1 e1 hc1=>by cases hc1;exact⟨c,e,rfl,k1,k2⟩)
         (.cells (cells.take (f+i*c.size+j)++vx.cells.toList++cells.drop (f+i*c.size+j+vx.cells.toList.length)).toArray e fr)
        refine⟨_,kz bH (k3.trans hw) (bJ (f+i*c.size+j) _ 0 g1 g2.unm (by omega) (tY jj h4)),fun base=> ?_⟩
        simp only[fz,Nat.add_zero]
        refine Good.write hs ho rfl rfl lT (fun c1 e1 hc1=>by cases hc1;exact⟨c,e,rfl,k1,k2⟩) ?_ cD
        refine⟨some ⟨b,f,none⟩,cap,by rw[dN,k1],by omega,h7,.inr ⟨b,f,_,fr,fun i' j'=>if i'=i∧j≤j'∧j'<j+fH jj then(vx.cells.toList.getD (j' - j) undef)else us i' j',rfl,eJ g1, ?_, ?_, ?_⟩⟩
        ·exact g2.over (tY jj h4) hlen
        ·simp only[List.length_append,List.length_take,List.length_drop]
         rw[k2];omega
        ·intro i' j' eI jx
         rw[k1]at eI
         rw[k2]at jx
         rw[k2,yR _ _ _ hlen]
         dsimp only
         by_cases di:i'=i∧j≤j'∧j'<j+fH jj
         ·obtain⟨rfl,h9,s7⟩:=di
          rw[if_pos ⟨by omega,by omega⟩,if_pos ⟨rfl,h9,s7⟩]
          have hx1:j' - j<vx.cells.toList.length:=by omega
          refine⟨by rw[show f+i'*c.size+j' - (f+i'*c.size+j)=j' - j from by omega];exact gM _ _ _ hx1, ?_⟩
          have:=k4 (j' - j) _ (gM _ _ undef hx1)
          rw[show j+(j' - j)=j' from by omega]at this
          exact this.step st.fK st.heap st.size
         ·rw[if_neg di]
          have oh:¬(f+i*c.size+j≤f+i'*c.size+j'∧f+i'*c.size+j'<f+i*c.size+j+vx.cells.toList.length):=by
           rintro⟨h9,s7⟩
           have hd:f+i*c.size+(f+i'*c.size+j' - (f+i*c.size))=f+i'*c.size+j':=by omega
           obtain⟨h11,h12⟩:=ahU (f:=f) (i:=i) (i':=i') (j:=f+i'*c.size+j' - (f+i*c.size)) (by omega) jx hd
           subst h11
           exact di ⟨rfl,by omega,by omega⟩
          rw[if_neg oh,k5 i' j' eI jx (by omega)]
          obtain⟨h9,s7⟩:=g4 i' j' eI jx
          exact⟨h9,s7.step st.fK st.heap st.size⟩
      ·cases h
     ·cases h
    ·cases h
   ·cases h
  ·cases h
 ·cases h
end
end Go.Sx
namespace Go.Sx
open Go
section
variable{ρ az:Nat→Value}{H H':aG}{G O O':Nat→Prop}{w w':World}{P:Program}
theorem yS{v:Value}{x:SV}(h:ak3 v=some x):aJ O w x v:=by
 unfold ak3 at h
 split at h<;>simp only[Option.some.injEq,reduceCtorEq]at h<;>subst h
 ·exact .aI _
 ·exact .aZ _ _
 ·exact .str _
 ·exact .oR
 ·exact .acz
 ·exact .acA
 ·exact .acB
theorem ug{v:Value}{a:AV}(h:pN v=some a):aC ρ H O w a [v]:=by
 unfold pN at h
 split at h
 ·simp only[Option.some.injEq]at h
  subst h
  unfold aC
  exact⟨_,rfl,none,rfl⟩
 ·simp only[Option.map_eq_some_iff]at h
  obtain⟨x,h1,rfl⟩:=h
  unfold aC
  exact⟨v,rfl,yS h1⟩
theorem mQ:∀(vs:List Value) {aA:List AV},pO vs=some aA→an ρ H O w aA vs
 |[],aA,h=>by simp only[pO,Option.some.injEq]at h;subst h;exact ao.2 rfl
 |v::vs,aA,h=>by
  simp only[pO]at h
  split at h
  ·rename_i a dj h1 h2
   simp only[Option.some.injEq]at h
   subst h
   exact af.2 ⟨[v],vs,rfl,ug h1,mQ vs h2⟩
  ·cases h
theorem mR(k:IntKind):∀(cs:List Value),mF k cs=true→cs=(List.replicate cs.length (0:Int)).map (Value.int k)
 |[],_=>rfl
 |v::vs,h=>by
  unfold mF at h
  split at h
  ·rename_i hc;cases hc
  ·rename_i k' vs' hc
   cases hc
   simp only[Bool.and_eq_true]at h
   obtain rfl:=aX h.1
   have:=mR k vs h.2
   simp only[List.length_cons,List.replicate_succ,List.map_cons,List.cons.injEq,true_and]
   exact this
  ·cases h
theorem aay(P:Program)(d:Nat)(ih:∀t cs ak,gI P d t cs=some ak→an ρ H O w ak cs):∀(fs:List Field) (s0 s1:List AV) (r0 r1:List Value),
 fs.foldl (fun acc f=>match acc,dw P f.type with
  |some (ak,rest),some n=>(gI P d f.type (rest.take n)).map fun s=>(ak++s,rest.drop n)
  |_,_=>none) (some (s0,r0))=some (s1,r1)→∃s' c,s1=s0++s'∧r0=c++r1∧an ρ H O w s' c
 |[],s0,s1,r0,r1,h=>by
  simp only[List.foldl_nil,Option.some.injEq,Prod.mk.injEq]at h
  obtain⟨rfl,rfl⟩:=h
  exact⟨[],[],by simp,rfl,ao.2 rfl⟩
 |f::fs,s0,s1,r0,r1,h=>by
  simp only[List.foldl_cons]at h
  have jl:∀(fs:List Field),fs.foldl (fun(acc:Option (List AV×List Value)) f=>match acc,dw P f.type with
   |some (ak,rest),some n=>(gI P d f.type (rest.take n)).map fun s=>(ak++s,rest.drop n)
   |_,_=>none) none=none:=by
   intro fs
   induction fs with
   |nil=>rfl
   |cons f fs ih=>simp only[List.foldl_cons];exact ih
  cases bH:dw P f.type with
  |none=>rw[bH]at h;simp only[jl]at h;cases h
  |some n=>
   rw[bH]at h
   simp only[]at h
   cases hz:gI P d f.type (r0.take n)with
   |none=>rw[hz]at h;simp only[Option.map_none,jl]at h;cases h
   |some s=>
    rw[hz]at h
    simp only[Option.map_some]at h
    obtain⟨s',c,rfl,h1,h2⟩:=aay P d ih fs _ _ _ _ h
    refine⟨s++s',r0.take n++c,by simp, ?_,fg.2 ⟨_,_,rfl,ih _ _ _ hz,h2⟩⟩
    rw[List.append_assoc,←h1,List.take_append_drop]
theorem si(P:Program):∀(d:Nat) (t:TypeId) (cs:List Value) (ak:List AV),gI P d t cs=some ak→an ρ H O w ak cs
 |0,t,cs,ak,h=>by simp[gI]at h
 |d+1,t,cs,ak,h=>by
  simp only[gI]at h
  split at h
  ·simp only[Option.bind_eq_some_iff]at h
   obtain⟨⟨s,rest⟩,h1,h2⟩:=h
   obtain⟨s',c,rfl,rfl,h3⟩:=aay P d (si P d) _ _ _ _ _ h1
   simp only[]at h2
   split at h2
   ·simp only[Option.some.injEq]at h2
    subst h2
    simpa using h3
   ·cases h2
  ·split at h
   ·rename_i k hk
    rw[Bool.cond_eq_ite]at h
    split at h
    ·rename_i hc
     simp only[Bool.and_eq_true,beq_iff_eq]at hc
     obtain⟨hz,rfl⟩:=hc
     simp only[Option.some.injEq]at h
     subst h
     exact af.2 ⟨cs,[],by simp,cC.2 ⟨by simp,mR k cs hz⟩,ao.2 rfl⟩
    ·exact mQ cs h
   ·exact mQ cs h
  ·exact mQ cs h
theorem aaz(ak:List AV):(AV.kL ak).ji=some ak:=by
 unfold AV.kL
 split<;>rfl
theorem nK{t:TypeId}{ak:List AV}(h:(zeroOf P t).bind AV.ji =some ak):∃i v,P.info? t=some i∧i.zero=some v∧an ρ H O w ak v.cells.toList:=by
 simp only[Option.bind_eq_some_iff]at h
 obtain⟨z,h1,h2⟩:=h
 unfold zeroOf at h1
 split at h1
 ·rename_i cs hz ha
  simp only[Option.bind_eq_some_iff]at hz
  obtain⟨i,hi,hz⟩:=hz
  simp only[Option.map_eq_some_iff]at h1
  obtain⟨ss,h3,rfl⟩:=h1
  rw[aaz]at h2
  simp only[Option.some.injEq]at h2
  subst h2
  exact⟨i,_,hi,hz,by simpa[Value.cells]using si P 20 t _ _ h3⟩
 ·skip
  rename_i v hz ha
  simp only[Option.bind_eq_some_iff]at hz
  obtain⟨i,hi,hz⟩:=hz
  refine⟨i,v,hi,hz, ?_⟩
  have hc:=ug (ρ:=ρ) (H:=H) (O:=O) (w:=w) h1
  have hv:v.oneCell'=true∧z.ji =some [z]:=by
   unfold pN at h1
   split at h1
   ·simp only[Option.some.injEq]at h1;subst h1;exact⟨rfl,rfl⟩
   ·simp only[Option.map_eq_some_iff]at h1
    obtain⟨x,h3,rfl⟩:=h1
    refine⟨(yS (O:=O) (w:=w) h3).one, ?_⟩
    unfold ak3 at h3
    split at h3<;>simp only[Option.some.injEq,reduceCtorEq]at h3<;>subst h3<;>rfl
  rw[hv.2]at h2
  simp only[Option.some.injEq]at h2
  subst h2
  rw[lj hv.1]
  exact af.2 ⟨[v],[],rfl,hc,ao.2 rfl⟩
 ·cases h1
theorem xn(hs:Sat ρ H G w){n:Nat}(hn:H n=none){ak:List AV}{e:TypeId}{cells:List Value}(hd:an ρ H (aK ρ H G) w ak cells):
 Good ρ H G w (aB H n (.own ak e)) (.ptr n 0) (.pointer (some ⟨w.heap.size,0,none⟩)) (w.alloc (.cells cells.toArray e)):=by
 have st:Step ρ H (aK ρ H G) w (fun j=>if j=n then .pointer (some ⟨w.heap.size,0,none⟩)else ρ j) (aB H n (.own ak e)) (aK (fun j=>if j=n then .pointer (some ⟨w.heap.size,0,none⟩)else ρ j) (aB H n (.own ak e)) G) (w.alloc (.cells cells.toArray e)):=by
  have ne:∀j x,H j=some x→j≠n:=fun j x hx e=>by subst e;rw[hn]at hx;cases hx
  refine⟨fun j x hx=>by simp[ne j x hx],fun j x hx=>⟨x,by simp[aB,ne j x hx,hx],fun c' e' hc=>⟨c',e',hc,rfl,rfl⟩⟩,fun b hb=> ?_,fun b hb _=>alloc_old hb,by rw[fk];omega⟩
  rcases hb with⟨j,x,hx,h1,h2⟩|hb
  ·by_cases hj:j=n
   ·subst hj;simp only[if_true,eh,Option.some.injEq]at h2;exact .inr (by omega)
   ·simp only[aB,hj,if_false]at hx h2
    exact .inl (.inl ⟨j,x,hx,h1,h2⟩)
  ·exact .inl (.inr hb)
 refine Good.fresh (root:=.pointer (some ⟨w.heap.size,0,none⟩)) hs hn rfl rfl rfl rfl (fun b hb=>by simpa[eh]using hb.symm) ?_ ?_
 ·exact⟨w.heap.size,cells,(0,0),rfl,kZ,fun off _ h=>by omega,hd.step st⟩
 ·unfold ab ay
  exact⟨w.heap.size,by simp,rfl,by simp[aB]⟩
theorem ac0(hs:Sat ρ H G w){n:Nat}(hn:H n=none){k:Nat}(hk:1≤k)(pJ:k≤maxLen){e:TypeId}:
 Good ρ H G w (aB H n (.vec (.strs (List.replicate k ByteArray.empty)) e)) (.ga n 0 0) (.pointer (some ⟨w.heap.size,0,none⟩)) (w.alloc (.cells (List.replicate k (Value.string ByteArray.empty)).toArray e)):=by
 have pY:∀b,eh (.slice (some ⟨w.heap.size,0,none⟩) k k)=some b→b=w.heap.size:=by
  intro b hb
  simp only[eh]at hb
  split at hb
  ·cases hb
  ·simpa using hb.symm
 refine Good.fresh (root:=.slice (some ⟨w.heap.size,0,none⟩) k k) hs hn rfl rfl rfl rfl pY ?_ ?_
 ·refine⟨some ⟨w.heap.size,0,none⟩,k,by simp[aF.n],by simp[aF.n],pJ,.inr ⟨w.heap.size,0,List.replicate k (Value.string ByteArray.empty),(0,0),fun _ _=>.string ByteArray.empty,rfl,kZ,⟨fun off _ h=>by omega,fun u hu=> ?_⟩,by simp[aF.size],fun i j hi hj=> ?_⟩⟩
  ·rw[(List.mem_replicate.1 hu).2];rfl
  ·simp only[aF.n,List.length_replicate]at hi
   simp only[aF.size]at hj ⊢
   obtain rfl:j=0:=by omega
   refine⟨by simp[hi], ?_⟩
   simp only[aF.cell]
   rw[show(List.replicate k ByteArray.empty).getD i ByteArray.empty=ByteArray.empty from by simp[List.getD,hi]]
   exact aJ.str _
 ·unfold ab ay
  exact⟨rfl,.vec (.strs (List.replicate k ByteArray.empty)) e,by simp[aB],fun c' e' hc=>by
   cases hc
   exact⟨by simp[aF.n];omega,by simp[aF.size],w.heap.size,0,k,k,by simp,by simp[aF.size]⟩⟩
theorem ac1{t:TypeId}{n:Nat}(h:yC P t=some n):1≤n∧n≤4096∧∃i v,P.info? t=some i∧i.zero=some v∧v.cells=(List.replicate n (Value.string ByteArray.empty)).toArray:=by
 unfold yC at h
 split at h
 ·rename_i m e i _ hi
  split at h
  ·rename_i z _ hz
   rw[Bool.cond_eq_ite]at h
   split at h
   ·rename_i hc
    simp only[Option.some.injEq]at h
    subst h
    simp only[Bool.and_eq_true,Nat.beq_eq]at hc
    obtain⟨⟨⟨c1,c2⟩,c3⟩,c4⟩:=hc
    have c1:=Nat.le_of_ble_eq_true c1
    refine⟨by omega,Nat.le_of_ble_eq_true c2,i,z,hi,hz, ?_⟩
    rw[List.all_eq_true]at c4
    have:z.cells.toList=List.replicate m (Value.string ByteArray.empty):=List.eq_replicate_iff.2 ⟨by rw[Array.length_toList];exact c3,fun b hb=>by
     have:=c4 b hb
     split at this
     ·rename_i s
      have h0:s.size=0:=by simpa using this
      have:s=ByteArray.empty:=ByteArray.ext (Array.eq_empty_of_size_eq_zero h0)
      rw[this]
     ·cases this⟩
    rw[←this]
   ·cases h
  ·cases h
 ·cases h
theorem agl{t:TypeId}{q:bx}(h:(acN P t).eval H=some q)(hs:Sat ρ H G w){base:Nat}(hb:∀i,i<q.new.length→H (base+i)=none)(old:Value):
 ∃v w',(Instr.alloc t true old).run P w=.ok v w'∧Good ρ H G w (cZ H q.up base q.new) (q.r base) v w':=by
 unfold acN at h
 split at h
 ·rename_i n hz
  simp only[RM.eval,Option.some.injEq]at h
  subst h
  obtain⟨h1,h2,i,v,hi,hv,hc⟩:=ac1 hz
  have hn:H base=none:=by simpa using hb 0 (by simp)
  refine⟨.pointer (some ⟨w.heap.size,0,none⟩),w.alloc (.cells v.cells t), ?_, ?_⟩
  ·simp[Instr.alloc,zeroValue,typeInfo,hi,hv,newVar,newRow];try rfl
  ·simp only[iN]
   have:=ac0 hs hn h1 (by unfold maxLen;omega) (e:=t)
   rw[hc]
   simpa using this
 split at h
 ·rename_i ak hz
  simp only[RM.eval,Option.some.injEq]at h
  subst h
  obtain⟨i,v,hi,hv,hd⟩:=nK (ρ:=ρ) (H:=H) (O:=aK ρ H G) (w:=w) hz
  have hn:H base=none:=by simpa using hb 0 (by simp)
  refine⟨.pointer (some ⟨w.heap.size,0,none⟩),w.alloc (.cells v.cells t), ?_, ?_⟩
  ·simp[Instr.alloc,zeroValue,typeInfo,hi,hv,newVar,newRow];try rfl
  ·simp only[iN]
   have:=xn hs hn (e:=t) hd
   simpa using this
 ·cases h
theorem alf{t:TypeId}{x:AV}{vx:Value}{q:bx}(h:(ao3 t x).eval H=some q)(hs:Sat ρ H G w)(hd:ab ρ H (aK ρ H G) w x vx){base:Nat}(hb:∀i,i<q.new.length→H (base+i)=none):
 ∃v w',(Instr.box t vx).run P w=.ok v w'∧Good ρ H G w (cZ H q.up base q.new) (q.r base) v w':=by
 unfold ao3 at h
 split at h
 ·rename_i ak hz
  simp only[RM.eval,Option.some.injEq]at h
  subst h
  have hn:H base=none:=by simpa using hb 0 (by simp)
  refine⟨.pointer (some ⟨w.heap.size,0,none⟩),w.alloc (.cells vx.cells t), ?_, ?_⟩
  ·simp[Instr.box,newVar,newRow];try rfl
  ·simp only[iN]
   have:=xn hs hn (e:=t) (pS hz hd)
   simpa using this
 ·cases h
end
end Go.Sx
namespace Go.Sx
open Go
section
variable{ρ az:Nat→Value}{H H':aG}{G O O':Nat→Prop}{w w':World}{P:Program}
theorem xo(off:Nat):∀(vs:List Value) (k:Nat) (cells:Array Value),off+k+vs.length≤cells.size→
 ((vs.zipIdx k).foldl (fun(cs:Array Value) (x:Value×Nat)=>cs.setIfInBounds (off+x.2) x.1) cells).toList=cells.toList.take (off+k)++vs++cells.toList.drop (off+k+vs.length)
 |[],k,cells,_=>by simp
 |v::vs,k,cells,h=>by
  simp only[List.length_cons]at h
  simp only[List.zipIdx_cons,List.foldl_cons]
  rw[xo off vs (k+1) _ (by simp;omega)]
  have bg:off+k<cells.toList.length:=by simp;omega
  simp only[Array.toList_setIfInBounds]
  rw[←Nat.add_assoc,List.take_set,List.drop_set_of_lt (by omega)]
  have e1:(cells.toList.take (off+k+1)).set (off+k) v=cells.toList.take (off+k)++[v]:=by
   rw[List.take_succ_eq_append_getElem bg]
   rw[List.set_append_right _ _ (by simp;omega)]
   simp at bg
   simp[Nat.min_eq_left (Nat.le_of_lt bg)]
  rw[e1]
  simp only[List.append_assoc,List.length_cons,List.cons_append,List.nil_append]
  rw[show off+k+1+vs.length=off+k+(vs.length+1)from by omega]
theorem tm{place:Nat→Option (Nat×Nat)}{ev:Operand→AV}{e:Operand→Value}:∀(l:List (Nat×Operand)) (ak ss:List AV) (cells:Array Value),(∀p∈l,ab ρ H O w (ev p.2) (e p.2))→
 oW place ak (l.map fun p=>(p.1,ev p.2))=some ss→an ρ H O w ak cells.toList→
 ∃dW,Instr.fill place cells (l.map fun p=>(p.1,e p.2))=some dW∧an ρ H O w ss dW.toList
 |[],ak,ss,cells,_,h,hd=>by
  simp only[List.map_nil,oW,Option.some.injEq]at h
  subst h
  exact⟨cells,rfl,hd⟩
 |(i,x)::l,ak,ss,cells,hp,h,hd=>by
  simp only[List.map_cons,oW]at h
  split at h
  ·rename_i off size jj hpl hby
   rw[Bool.cond_eq_ite]at h
   split at h
   ·rename_i hc
    simp only[Bool.and_eq_true,Nat.beq_eq]at hc
    simp only[Option.bind_eq_some_iff]at h
    obtain⟨s1,h1,h2⟩:=h
    have hx:=pS hby (hp (i,x) (by simp))
    have hlen:=iK hx
    obtain⟨h3,h4⟩:=tX h1 hd hx
    simp only[Array.length_toList]at hlen h3
    obtain⟨dW,h5,h6⟩:=tm l s1 ss ((e x).cells.zipIdx.foldl (fun cs (c,j)=>cs.setIfInBounds (off+j) c) cells) (fun p wv=>hp p (by simp[wv])) h2 (by
     rw[←Array.foldl_toList,Array.toList_zipIdx]
     have:=xo off (e x).cells.toList 0 cells (by simpa using h3)
     simp only[Nat.add_zero]at this
     rw[this]
     exact h4)
    refine⟨dW, ?_,h6⟩
    simp only[List.map_cons,Instr.fill,hpl]
    rw[if_neg (by simp;omega)]
    exact h5
   ·cases h
  ·cases h
theorem sj(P:Program)(w:World):∀(fs:List Field),fs.all (fun f=>(dw P f.type).isSome)=true→
 (fs.mapM (m:=Sem) fun f=>do pure (f.offset,←sizeOf f.type)).run P w=.ok (fs.map fun f=>(f.offset,(dw P f.type).getD 0)) w
 |[],_=>by simp
 |f::fs,h=>by
  simp only[List.all_cons,Bool.and_eq_true]at h
  obtain⟨n,hn⟩:=Option.isSome_iff_exists.1 h.1
  have ih:=sj P w fs h.2
  simp only[List.mapM_cons,Sem.run_bind,run_sizeOf hn,Result.andThen_ok,Sem.run_pure,ih,List.map_cons,hn,Option.getD_some]
theorem agm{t:TypeId}{ps:Array (Nat×Operand)}{ev:Operand→AV}{e:Operand→Value}{q:bx}(h:(acO P t (ps.toList.map fun p=>(p.1,ev p.2))).eval H=some q)(hn:bt q.need)
 (hp:∀p∈ps,ab ρ H O w (ev p.2) (e p.2)):eV P ρ H O w q (Instr.build t (ps.map fun(i,x)=>(i,e x))):=by
 have wv:∀p∈ps.toList,ab ρ H O w (ev p.2) (e p.2):=fun p hm=>hp p (Array.mem_toList_iff.1 hm)
 unfold acO at h
 split at h
 ·rename_i ak fs hz ht
  obtain⟨i,v,hi,hv,hd⟩:=nK (ρ:=ρ) (H:=H) (O:=O) (w:=w) hz
  rw[Bool.cond_eq_ite]at h
  split at h
  ·rename_i yT
   split at h
   ·rename_i ss hss
    have hm:(fs.mapM (m:=Sem) fun f=>do pure (f.offset,←sizeOf f.type)).run P w=.ok (fs.toList.map fun f=>(f.offset,(dw P f.type).getD 0)).toArray w:=by
     rw[Array.mapM_eq_mapM_toList]
     simp only[Sem.run_map,sj P w fs.toList yT,Result.andThen_ok]
    have apf:(fun i=>((fs.toList.map fun(f:Field)=>(f.offset,(dw P f.type).getD 0)).toArray)[i]?)=(fun(i:Nat)=>(fs[i]?).bind fun(f:Field)=>(dw P f.type).map fun n=>(f.offset,n)):=by
     funext i
     simp only[List.getElem?_toArray,List.getElem?_map,Array.getElem?_toList]
     cases hf:fs[i]? with
     |none=>rfl
     |some f=>
      have jy:f∈fs.toList:=Array.mem_toList_iff.2 (Array.mem_of_getElem? hf)
      obtain⟨n,hn⟩:=Option.isSome_iff_exists.1 (List.all_eq_true.1 yT f jy)
      simp[hn]
    obtain⟨dW,h1,h2⟩:=tm ps.toList ak ss v.cells wv hss hd
    refine ax h (fun _=>⟨.agg dW, ?_,by simpa using kY h2⟩) hn
    rw[←apf]at h1
    simp only[Instr.build,zeroValue,typeInfo,Sem.run_bind,run_program,Result.andThen_ok,hi,Sem.run_pure,hv,run_underlying ht,hm]
    simp only[Array.toList_map]
    erw [h1]
    rfl
   ·cases h
  ·cases h
 ·rename_i ak n el hz ht
  obtain⟨i,v,hi,hv,hd⟩:=nK (ρ:=ρ) (H:=H) (O:=O) (w:=w) hz
  split at h
  ·rename_i sz bH
   split at h
   ·rename_i ss hss
    obtain⟨dW,h1,h2⟩:=tm ps.toList ak ss v.cells wv hss hd
    refine ax h (fun _=>⟨.agg dW, ?_,by simpa using kY h2⟩) hn
    simp only[Instr.build,zeroValue,typeInfo,Sem.run_bind,run_program,Result.andThen_ok,hi,Sem.run_pure,hv,run_underlying ht,run_sizeOf bH]
    simp only[Array.toList_map]
    erw [h1]
    rfl
   ·cases h
  ·cases h
 ·cases h
end
end Go.Sx
namespace Go.Sx
open Go
section
variable{ρ az:Nat→Value}{H H':aG}{G O O':Nat→Prop}{w w':World}{P:Program}
def Pts(O:Nat→Prop)(w:World)(l:List SV)(cs:List Value):Prop:=l.length=cs.length∧∀(i:Nat) (v:SV),l[i]? =some v→∃u,cs[i]? =some u∧aJ O w v u
theorem alg:Pts O w [] ([]:List Value):=⟨rfl,by simp⟩
theorem uh{v:SV}{l:List SV}{cs:List Value}(h:Pts O w (v::l) cs):∃u jk,cs=u::jk∧aJ O w v u∧Pts O w l jk:=by
 obtain⟨h1,h2⟩:=h
 cases cs with
 |nil=>simp at h1
 |cons u jk=>
  obtain⟨u',h3,h4⟩:=h2 0 v rfl
  simp at h3
  subst h3
  exact⟨_,_,rfl,h4,by simpa using h1,fun i x hx=>by simpa using h2 (i+1) x (by simpa using hx)⟩
theorem ahV{v:SV}{l:List SV}{u:Value}{cs:List Value}(h1:aJ O w v u)(h2:Pts O w l cs):Pts O w (v::l) (u::cs):=
 ⟨by simp[h2.1],fun i x hx=>by
   cases i with
   |zero=>simp at hx;subst hx;exact⟨u,rfl,h1⟩
   |succ i=>simpa using h2.2 i x (by simpa using hx)⟩
theorem ac2:∀(aA:List AV) {l:List SV} {cs:List Value},svs aA=some l→an ρ H O w aA cs→Pts O w l cs
 |[],l,cs,h,hd=>by
  simp only[svs,Option.some.injEq]at h
  subst h
  obtain rfl:=ao.1 hd
  exact alg
 |a::aA,l,cs,h,hd=>by
  obtain⟨c1,c2,rfl,h1,h2⟩:=af.1 hd
  rcases rf a with⟨k,n,ws,rfl⟩|ha
  ·simp[svs]at h
  ·have hs:svs (a::aA)=match a.sv?,svs aA with|some v,some vs=>some (v::vs)|_,_=>none:=by
    cases a<;>first|rfl|(exact(ha _ _ _ rfl).elim)
   rw[hs]at h
   split at h
   ·rename_i v vs hv hvs
    simp only[Option.some.injEq]at h
    subst h
    cases a with
    |s x=>
     unfold aC at h1
     obtain⟨u,rfl,hu⟩:=h1
     have:x=v:=by cases x<;>simp only[AV.sv?,Option.some.injEq,reduceCtorEq]at hv<;>exact hv
     subst this
     exact ahV hu (ac2 aA hvs h2)
    |emp=>
     unfold aC at h1
     obtain⟨u,rfl,x,rfl⟩:=h1
     simp only[AV.sv?,Option.some.injEq]at hv
     subst hv
     exact ahV (.ro (.ef 1 0 fun _ _=>.aQ) x 0 (fun _ _=>undef) 0 0 (Nat.le_refl _) (by simp[maxLen]) (by simp[aF.n]) (by simp[aF.n]) (by simp[aF.n])) (ac2 aA hvs h2)
    |_=>simp[AV.sv?]at hv
   ·cases h
theorem xp(k:IntKind):∀(l:List SV) {zs:List Int} {cs:List Value},oX k l=some zs→Pts O w l cs→zs.length=cs.length∧∀i,i<zs.length→∃u,cs[i]? =some u∧aJ O w (.int k (zs.getD i 0)) u
 |[],zs,cs,h,hp=>by
  simp only[oX,Option.some.injEq]at h
  subst h
  exact⟨hp.1,by simp⟩
 |v::l,zs,cs,h,hp=>by
  obtain⟨u,jk,rfl,hu,wv⟩:=uh hp
  have key:∀k' n,aJ O w (.int k' n) u→(bif bF k k' then(oX k l).map (n:: ·)else none)=some zs→zs.length=(u::jk).length∧∀i,i<zs.length→∃x,(u::jk)[i]? =some x∧aJ O w (.int k (zs.getD i 0)) x:=by
   intro k' n hd h
   rw[Bool.cond_eq_ite]at h
   split at h
   ·rename_i hk
    obtain rfl:=aX hk
    simp only[Option.map_eq_some_iff]at h
    obtain⟨zs',h1,rfl⟩:=h
    obtain⟨h2,h3⟩:=xp k l h1 wv
    refine⟨by simp[h2],fun i hi=> ?_⟩
    cases i with
    |zero=>exact⟨u,rfl,by simpa using hd⟩
    |succ i=>simpa using h3 i (by simpa using hi)
   ·cases h
  cases v<;>simp only[oX,reduceCtorEq]at h
  case int k' n=>exact key k' n hu h
  case aZ k' n=>cases hu;exact key k' n (.int _ _) h
theorem xq:∀(l:List SV) {zs:List ByteArray} {cs:List Value},q7 l=some zs→Pts O w l cs→zs.length=cs.length∧∀i,i<zs.length→∃u,cs[i]? =some u∧aJ O w (.str (zs.getD i ByteArray.empty)) u
 |[],zs,cs,h,hp=>by
  simp only[q7,Option.some.injEq]at h
  subst h
  exact⟨hp.1,by simp⟩
 |v::l,zs,cs,h,hp=>by
  obtain⟨u,jk,rfl,hu,wv⟩:=uh hp
  cases v<;>simp only[q7,reduceCtorEq]at h
  simp only[Option.map_eq_some_iff]at h
  obtain⟨zs',h1,rfl⟩:=h
  obtain⟨h2,h3⟩:=xq l h1 wv
  refine⟨by simp[h2],fun i hi=> ?_⟩
  cases i with
  |zero=>exact⟨u,rfl,by simpa using hu⟩
  |succ i=>simpa using h3 i (by simpa using hi)
theorem pd:∀(l:List SV) {zs:List Bool} {cs:List Value},nG l=some zs→Pts O w l cs→zs.length=cs.length∧∀i,i<zs.length→∃u,cs[i]? =some u∧aJ O w (.bool (zs.getD i false)) u
 |[],zs,cs,h,hp=>by
  simp only[nG,Option.some.injEq]at h
  subst h
  exact⟨hp.1,by simp⟩
 |v::l,zs,cs,h,hp=>by
  obtain⟨u,jk,rfl,hu,wv⟩:=uh hp
  cases v<;>simp only[nG,reduceCtorEq]at h
  case bool b=>
   simp only[Option.map_eq_some_iff]at h
   obtain⟨zs',h1,rfl⟩:=h
   obtain⟨h2,h3⟩:=pd l h1 wv
   refine⟨by simp[h2],fun i hi=> ?_⟩
   cases i with
   |zero=>exact⟨u,rfl,by simpa using hu⟩
   |succ i=>simpa using h3 i (by simpa using hi)
  case aI b=>
   simp only[Option.map_eq_some_iff]at h
   obtain⟨zs',h1,rfl⟩:=h
   obtain⟨h2,h3⟩:=pd l h1 wv
   refine⟨by simp[h2],fun i hi=> ?_⟩
   cases i with
   |zero=>cases hu;exact⟨_,rfl,by simpa using aJ.bool _⟩
   |succ i=>simpa using h3 i (by simpa using hi)
theorem agn{cs:List CK}{f:Nat→SV}{x:CL cs}(h:CL.ofs cs f=some x):∀j,j<CL.wide cs→∀(O:Nat→Prop) (w:World) (u:Value),aJ O w (f j) u→aJ O w (CL.cell cs x j) u:=by
 unfold CL.ofs at h
 generalize CL.wide cs=m at h
 induction m generalizing x with
 |zero=>intro j hj;omega
 |succ m ih=>
  rw[List.range_succ,List.foldl_append]at h
  simp only[List.foldl_cons,List.foldl_nil,Option.bind_eq_some_iff]at h
  obtain⟨y,h1,h2⟩:=h
  obtain⟨h3,h4⟩:=rj h2
  intro j hj O w u hu
  by_cases hjm:j=m
  ·subst hjm;exact h3 O w u hu
  ·rw[h4 j hjm]
   exact ih h1 j (by omega) O w u hu
theorem aaA{cs:List CK}{size:Nat}{cells:List SV}:∀{n i:Nat} {xs:List (CL cs)},xg cs size cells i n=some xs→xs.length=n∧∀k,k<n→∀j,j<CL.wide cs→∀(O:Nat→Prop) (w:World) (u:Value),
 aJ O w (cells.getD ((i+k)*size+j) .aQ) u→aJ O w (CL.cell cs (xs.getD k (CL.d cs)) j) u
 |0,i,xs,h=>by
  simp only[xg,Option.some.injEq]at h
  subst h
  exact⟨rfl,fun k hk=>by omega⟩
 |n+1,i,xs,h=>by
  simp only[xg]at h
  split at h
  ·rename_i x ys h1 h2
   simp only[Option.some.injEq]at h
   subst h
   obtain⟨h3,h4⟩:=aaA h2
   refine⟨by simp[h3],fun k hk j hj O w u hu=> ?_⟩
   cases k with
   |zero=>exact agn h1 j hj O w u (by simpa using hu)
   |succ k=>
    have:=h4 k (by omega) j hj O w u (by rw[show i+1+k=i+(k+1)from by omega];exact hu)
    simpa using this
  ·cases h
theorem ahW{sh:Shape}{size n:Nat}{l:List SV}{cs:List Value}(hp:Pts O w l cs)(hl:l.length=n*size)(hn:(sd sh size n l).n=n)(hs:(sd sh size n l).size=size):
 ∀i j,i<n→j<size→∃u,cs[i*size+j]? =some u∧aJ O w ((sd sh size n l).cell i j) u:=by
 have hd:∀i j,i<n→j<size→∃u,cs[i*size+j]? =some u∧aJ O w ((aF.ef size n fun i j=>l.getD (i*size+j) .aQ).cell i j) u:=by
  intro i j hi hj
  have bg:i*size+j<l.length:=by
   rw[hl]
   have:(i+1)*size≤n*size:=Nat.mul_le_mul_right _ (by omega)
   rw[Nat.succ_mul]at this
   omega
  obtain⟨u,h1,h2⟩:=hp.2 (i*size+j) l[i*size+j] (by simp[bg])
  refine⟨u,h1, ?_⟩
  simp only[aF.cell,List.getD,List.getElem?_eq_getElem bg,Option.getD_some]
  exact h2
 unfold sd at hn hs ⊢
 cases sh with
 |ints k=>
  cases hx:oX k l with
  |none=>simp only[hx,Option.elim]at hn hs ⊢;exact hd
  |some zs=>
   simp only[hx,Option.elim,aF.n,aF.size]at hn hs ⊢
   subst hs
   intro i j hi hj
   obtain rfl:j=0:=by omega
   obtain⟨h1,h2⟩:=xp k l hx hp
   simpa[aF.cell]using h2 i (by omega)
 |strs=>
  cases hx:q7 l with
  |none=>simp only[hx,Option.elim]at hn hs ⊢;exact hd
  |some zs=>
   simp only[hx,Option.elim,aF.n,aF.size]at hn hs ⊢
   subst hs
   intro i j hi hj
   obtain rfl:j=0:=by omega
   obtain⟨h1,h2⟩:=xq l hx hp
   simpa[aF.cell]using h2 i (by omega)
 |bD=>
  cases hx:nG l with
  |none=>simp only[hx,Option.elim]at hn hs ⊢;exact hd
  |some zs=>
   simp only[hx,Option.elim,aF.n,aF.size]at hn hs ⊢
   subst hs
   intro i j hi hj
   obtain rfl:j=0:=by omega
   obtain⟨h1,h2⟩:=pd l hx hp
   simpa[aF.cell]using h2 i (by omega)
 |ae ck=>
  simp only[Bool.cond_eq_ite]at hn hs ⊢
  by_cases hw:(CL.wide ck).beq size=true
  ·simp only[hw,if_true]at hn hs ⊢
   cases hx:xg ck size l 0 n with
   |none=>simp only[hx,Option.elim]at hn hs ⊢;exact hd
   |some zs=>
    simp only[hx,Option.elim,aF.n,aF.size]at hn hs ⊢
    intro i j hi hj
    obtain⟨h1,h2⟩:=aaA hx
    obtain⟨u,h3,h4⟩:=hd i j hi hj
    exact⟨u,h3,h2 i hi j (by omega) O w u (by rw[Nat.zero_add];exact h4)⟩
  ·simp only[hw]at hn hs ⊢
   exact hd
 |other=>exact hd
theorem ui{α:Type}(l:List α):∀n,(rep n l).length=n*l.length
 |0=>by simp[rep]
 |n+1=>by simp[rep,ui l n,Nat.succ_mul,Nat.add_comm]
theorem aem{α:Type}(l:List α):∀(n k:Nat),k<n*l.length→(rep n l)[k]? =l[k%l.length]?
 |0,k,h=>by simp at h
 |n+1,k,h=>by
  simp only[rep]
  by_cases hk:k<l.length
  ·rw[List.getElem?_append_left hk,Nat.mod_eq_of_lt hk]
  ·rw[List.getElem?_append_right (by omega),aem l n (k - l.length) (by rw[Nat.succ_mul]at h;omega)]
   congr 1
   rw[Nat.mod_eq_sub_mod (by omega:l.length≤k)]
theorem sk{z:List AV}{cs:List Value}(h:an ρ H O w z cs):∀n,an ρ H O w (rep n z) (rep n cs)
 |0=>ao.2 rfl
 |n+1=>fg.2 ⟨_,_,rfl,h,sk h n⟩
theorem ago(zc:Array Value)(n:Nat):((Array.range (n*zc.size)).map (zc[· %zc.size]!)).toList=rep n zc.toList:=by
 apply List.ext_getElem?
 intro k
 simp only[Array.toList_map,Array.toList_range,List.getElem?_map]
 by_cases hk:k<n*zc.size
 ·rw[List.getElem?_range hk,aem _ _ _ (by simpa using hk)]
  have hz:0<zc.size:=by
   rcases Nat.eq_zero_or_pos zc.size with h0|h0
   ·rw[h0]at hk;omega
   ·exact h0
  have hm:k%zc.size<zc.size:=Nat.mod_lt _ hz
  simp[hm]
 ·rw[List.getElem?_eq_none (by simp;omega),List.getElem?_eq_none (by rw[ui];simp;omega)]
  rfl
end
end Go.Sx
namespace Go.Sx
open Go
section
variable{ρ az:Nat→Value}{H H':aG}{G O O':Nat→Prop}{w w':World}{P:Program}
theorem lq(hs:Sat ρ H G w){w1:World}(hw:w1.heap=w.heap)(ht:w1.tape=w.tape)(hos:w1.os=w.os)(oh:w1.output=w.output){n:Nat}(hn:H n=none){c:aF}{e:TypeId}{cells:List Value}{cap:Nat}
 (h1:c.n≤cap) (h2:cap≤maxLen) (h3:cap*c.size≤cells.length) (us:Nat→Nat→Value)
 (hd:∀i j,i<c.n→j<c.size→cells[i*c.size+j]? =some (us i j)∧aJ (aK ρ H G) w (c.cell i j) (us i j)) (rl:∀u∈cells,u.oneCell'=true):
 Good ρ H G w (aB H n (.vec c e)) (.vec n) (.slice (some ⟨w.heap.size,0,none⟩) c.n cap) (w1.alloc (.cells cells.toArray e)):=by
 have pY:∀b,eh (.slice (some ⟨w.heap.size,0,none⟩) c.n cap)=some b→b=w.heap.size:=by
  intro b hb
  simp only[eh]at hb
  split at hb
  ·cases hb
  ·simpa using hb.symm
 have st:Step ρ H (aK ρ H G) w (fun j=>if j=n then .slice (some ⟨w.heap.size,0,none⟩) c.n cap else ρ j) (aB H n (.vec c e)) (aK (fun j=>if j=n then .slice (some ⟨w.heap.size,0,none⟩) c.n cap else ρ j) (aB H n (.vec c e)) G) (w1.alloc (.cells cells.toArray e)):=by
  have ne:∀j x,H j=some x→j≠n:=fun j x hx e=>by subst e;rw[hn]at hx;cases hx
  refine⟨fun j x hx=>by simp[ne j x hx],fun j x hx=>⟨x,by simp[aB,ne j x hx,hx],fun c' e' hc=>⟨c',e',hc,rfl,rfl⟩⟩,fun b hb=> ?_,fun b hb _=>by rw[alloc_old (by rw[hw];exact hb),hw],by rw[fk,hw];omega⟩
  rcases hb with⟨j,x,hx,h1,h2⟩|hb
  ·by_cases hj:j=n
   ·subst hj
    simp only[if_true]at h2
    exact .inr (by rw[pY b h2];exact Nat.le_refl _)
   ·simp only[aB,hj,if_false]at hx h2
    exact .inl (.inl ⟨j,x,hx,h1,h2⟩)
  ·exact .inl (.inr hb)
 refine Good.fresh (root:=.slice (some ⟨w.heap.size,0,none⟩) c.n cap) hs hn hw ht hos oh pY ?_ ?_
 ·refine⟨_,cap,rfl,h1,h2,.inr ⟨w.heap.size,0,cells,(0,0),us,rfl,by rw[←hw];exact kZ,⟨fun off _ h=>by omega,rl⟩,by omega,fun i j hi hj=> ?_⟩⟩
  obtain⟨g1,g2⟩:=hd i j hi hj
  exact⟨by rw[Nat.zero_add];exact g1,g2.step st.fK st.heap st.size⟩
 ·unfold ab ay
  exact⟨rfl,.vec c e,by simp[aB],fun c' e' hc=>by simp⟩
theorem uj{t:TypeId}{n:Nat}{ps:Array (Nat×Operand)}{ev:Operand→AV}{e:Operand→Value}{q:bx}(h:(mH P t n (ps.toList.map fun p=>(p.1,ev p.2))).eval H=some q)
 (hs:Sat ρ H G w) (hp:∀p∈ps,ab ρ H (aK ρ H G) w (ev p.2) (e p.2)) {base:Nat} (hb:∀i,i<q.new.length→H (base+i)=none):
 ∃v w',(Instr.buildSlice t n (ps.map fun(i,x)=>(i,e x))).run P w=.ok v w'∧Good ρ H G w (cZ H q.up base q.new) (q.r base) v w':=by
 have wv:∀p∈ps.toList,ab ρ H (aK ρ H G) w (ev p.2) (e p.2):=fun p hm=>hp p (Array.mem_toList_iff.1 hm)
 unfold mH at h
 split at h
 ·rename_i el ht
  split at h
  ·rename_i sz z bH hz
   rw[Bool.cond_eq_ite]at h
   split at h
   ·rename_i hc
    simp only[Bool.and_eq_true,Nat.beq_eq]at hc
    obtain⟨⟨c1,c2⟩,c3⟩:=hc
    have c1:=Nat.le_of_ble_eq_true c1
    have c2:=Nat.le_of_ble_eq_true c2
    split at h
    ·rename_i l hl
     simp only[Option.bind_eq_some_iff]at hl
     obtain⟨ss,ape,hsv⟩:=hl
     rw[Bool.cond_eq_ite]at h
     split at h
     ·rename_i hc
      simp only[Bool.and_eq_true,Nat.beq_eq]at hc
      obtain⟨⟨d1,d2⟩,d3⟩:=hc
      simp only[RM.eval,Option.some.injEq]at h
      subst h
      obtain⟨i,v,hi,hv,hd⟩:=nK (ρ:=ρ) (H:=H) (O:=aK ρ H G) (w:=w) hz
      have hlz:v.cells.size=sz:=by rw[←Array.length_toList,iK hd,c3]
      have yU:((Array.range (n*sz)).map (v.cells[· %v.cells.size]!)).toList=rep n v.cells.toList:=by rw[←hlz];exact ago _ _
      obtain⟨dW,h1,h2⟩:=tm ps.toList _ ss ((Array.range (n*sz)).map (v.cells[· %v.cells.size]!)) wv ape (by rw[yU];exact sk hd n)
      have ars:=ac2 ss hsv h2
      have art:=ahW ars d1 d2 d3
      have hcl:dW.toList.length=n*sz:=by rw[←ars.1,d1]
      have hn:H base=none:=by simpa using hb 0 (by simp)
      refine⟨.slice (some ⟨w.heap.size,0,none⟩) n n,w.alloc (.cells dW el), ?_, ?_⟩
      ·have aaB:¬(n*sz>2^24):=by omega
       have key:∀zc:Array Value,((Array.range (n*sz)).map (zc[· %zc.size]!))=((Array.range (n*sz)).map (v.cells[· %v.cells.size]!))→
        (match Instr.fill (fun i=>some (i*sz,sz)) ((Array.range (n*sz)).map (zc[· %zc.size]!)) (ps.map fun(i,x)=>(i,e x)).toList with
          |some cells=>do
           let a ←newRow el cells
           pure (Value.slice (some a) n n)
          |_=>stuck "buildSlice: a part of the wrong size" :Sem Value).run P w=.ok (.slice (some ⟨w.heap.size,0,none⟩) n n) (w.alloc (.cells dW el)):=by
        intro zc hz
        rw[hz]
        simp only[Array.toList_map]
        erw [h1]
        simp[newRow]
       simp only[Instr.buildSlice,Sem.run_bind,run_underlying ht,Result.andThen_ok,run_sizeOf bH,aaB,if_false]
       by_cases h0:n*sz=0
       ·rw[if_pos h0]
        simp only[Sem.run_bind,Sem.run_pure,Result.andThen_ok]
        exact key #[] (by have:Array.range (n*sz)= #[]:=by rw[h0];rfl
                          rw[this];simp)
       ·rw[if_neg h0]
        simp only[Sem.run_bind,Sem.run_pure,Result.andThen_ok,zeroValue,typeInfo,run_program,hi,hv]
        exact key v.cells rfl
      ·simp only[iN]
       have:=lq hs (w1:=w) rfl rfl rfl rfl hn (c:=sd (shapeOf P el) sz n l) (e:=el) (cells:=dW.toList) (cap:=n) (by omega) (by simp only[maxLen];have:n≤n*sz:=Nat.le_mul_of_pos_right n (by omega);omega) (by rw[d3,hcl];exact Nat.le_refl _)
        (fun i j=>dW.toList.getD (i*sz+j) undef) (fun i j hi hj=>by
          rw[d2]at hi
          rw[d3]at hj ⊢
          obtain⟨u,g1,g2⟩:=art i j hi hj
          have bg:i*sz+j<dW.toList.length:=(List.getElem?_eq_some_iff.1 g1).1
          rw[gM _ _ undef bg]at g1
          simp only[Option.some.injEq]at g1
          exact⟨gM _ _ _ bg,by rw[g1];exact g2⟩) (fun u hu=>by
          obtain⟨k,hk,rfl⟩:=List.getElem_of_mem hu
          rw[hcl]at hk
          have hp:0<sz:=by rcases Nat.eq_zero_or_pos sz with h0|h0
                           ·rw[h0]at hk;omega
                           ·exact h0
          obtain⟨u,g1,g2⟩:=art (k / sz) (k%sz) (Nat.div_lt_of_lt_mul (by rw[Nat.mul_comm];exact hk)) (Nat.mod_lt _ hp)
          rw[show k / sz*sz+k%sz=k from Nat.div_add_mod' k sz,List.getElem?_eq_getElem (by rw[hcl];exact hk)]at g1
          cases g1
          exact g2.one)
       simpa[d2]using this
     ·cases h
    ·cases h
   ·cases h
  ·cases h
 ·cases h
theorem xr:∀(r need c:Nat),c≤2*need+192→Builtin.growBy need r c≤2*need+192
 |0,need,c,h=>h
 |r+1,need,c,h=>by
  unfold Builtin.growBy
  split
  ·exact h
  ·exact xr r need _ (by omega)
theorem nextslicecap_le{need old:Nat}(h:old<need):Builtin.nextslicecap need old≤2*need+192:=by
 unfold Builtin.nextslicecap
 split
 ·omega
 ·split
  ·omega
  ·exact xr 4 need old (by omega)
theorem growBy_four(n c:Nat):Builtin.growBy n 4 c=
 if c≥n then c else
 if c+(c+768) / 4≥n then c+(c+768) / 4 else
 if c+(c+768) / 4+(c+(c+768) / 4+768) / 4≥n then c+(c+768) / 4+(c+(c+768) / 4+768) / 4 else
 if c+(c+768) / 4+(c+(c+768) / 4+768) / 4+(c+(c+768) / 4+(c+(c+768) / 4+768) / 4+768) / 4≥n
 then c+(c+768) / 4+(c+(c+768) / 4+768) / 4+(c+(c+768) / 4+(c+(c+768) / 4+768) / 4+768) / 4 else
 c+(c+768) / 4+(c+(c+768) / 4+768) / 4+(c+(c+768) / 4+(c+(c+768) / 4+768) / 4+768) / 4+
  (c+(c+768) / 4+(c+(c+768) / 4+768) / 4+(c+(c+768) / 4+(c+(c+768) / 4+768) / 4+768) / 4+768) / 4:=rfl
theorem rm{need old:Nat}(h:old<need):Builtin.nextslicecap need old≤2*need:=by
 unfold Builtin.nextslicecap
 split
 ·omega
 ·split
  ·omega
  ·rw[growBy_four]
   repeat' split
   all_goals omega
structure Src (P:Program) (O:Nat→Prop) (w:World) (size:Nat) (d:aF) (v:Value) (news:List Value):Prop where
 len:(Builtin.lenOf v).run P w=.ok d.n w
 length:news.length=d.n*size
 first:∀w2:World,w2.heap=w.heap→(Builtin.firstCells size d.n v).run P w2=.ok news.toArray w2
 one:∀u∈news,u.oneCell'=true
 den:∀i j,i<d.n→j<size→∃u,news[i*size+j]? =some u∧aJ O w (d.cell i j) u
theorem tn{size:Nat}{d:aF}{v:Value}(h:pb O w d v)(hs:d.size=size)(h1:1≤size):∃news,Src P O w size d v news:=by
 obtain⟨a,cap,us,rfl,g1,g2,g3⟩:=h
 subst hs
 have hdm:∀m,m<d.n*d.size→m / d.size<d.n∧m%d.size<d.size:=fun m hm=>
  ⟨Nat.div_lt_of_lt_mul (by rw[Nat.mul_comm];exact hm),Nat.mod_lt _ (by omega)⟩
 refine⟨(List.range (d.n*d.size)).map fun m=>us (m / d.size) (m%d.size), ?_,by simp,fun w2 hw2=> ?_,fun u hu=> ?_,fun i j hi hj=> ?_⟩
 ·simp[Builtin.lenOf]
 ·rcases Nat.eq_zero_or_pos d.n with h0|h0
  ·rw[h0]
   cases a<;>simp[Builtin.firstCells,loadCells,loadCellsFrom]
  ·obtain⟨b,o,rfl,_,hc⟩:=g3 h0
   simp only[Builtin.firstCells]
   refine run_loadCells w2 _ _ (fun m=>us (m / d.size) (m%d.size)) (fun m hm=> ?_)
   obtain⟨k1,k2⟩:=hdm m hm
   rw[aS]
   have:=(hc _ _ k1 k2).1
   rw[Nat.add_assoc,show m / d.size*d.size+m%d.size=m from by rw[Nat.mul_comm];exact Nat.div_add_mod m d.size]at this
   rw[←this]
   simp[World.cell?,hw2]
 ·obtain⟨m,hm,rfl⟩:=List.mem_map.1 hu
  have hm:m<d.n*d.size:=List.mem_range.1 hm
  obtain⟨k1,k2⟩:=hdm m hm
  obtain⟨b,o,rfl,_,hc⟩:=g3 (Nat.lt_of_le_of_lt (Nat.zero_le _) k1)
  exact(hc _ _ k1 k2).2.one
 ·have bg:i*d.size+j<d.n*d.size:=by
   have:(i+1)*d.size≤d.n*d.size:=Nat.mul_le_mul_right _ (by omega)
   rw[Nat.succ_mul]at this
   omega
  obtain⟨b,o,rfl,_,hc⟩:=g3 (by omega)
  have e1:(i*d.size+j) / d.size=i:=by rw[Nat.mul_comm,Nat.mul_add_div (by omega),Nat.div_eq_of_lt hj];rfl
  have e2:(i*d.size+j)%d.size=j:=by rw[Nat.mul_comm,Nat.mul_add_mod,Nat.mod_eq_of_lt hj]
  exact⟨us i j,by rw[List.getElem?_map,List.getElem?_range bg];simp[e1,e2],(hc i j hi hj).2⟩
theorem alh{s:ByteArray}:∃news,Src P O w 1 (.ints .u8 (s.data.toList.map fun b=>(b.toNat:Int))) (.string s) news:=by
 refine⟨s.data.toList.map fun b=>.int .u8 b.toNat, ?_,by simp[aF.n],fun w2 hw2=> ?_,fun u hu=> ?_,fun i j hi hj=> ?_⟩
 ·simp[Builtin.lenOf,aF.n]
 ·simp only[Builtin.firstCells,aF.n,Sem.run_pure,List.length_map]
  congr 1
  have h:s.data.toList.length=s.size:=Array.length_toList
  rw[h,ByteArray.extract_zero_size]
  apply Array.toList_inj.1
  rw[Array.toList_map]
 ·obtain⟨b,_,rfl⟩:=List.mem_map.1 hu
  rfl
 ·simp only[aF.n,List.length_map]at hi
  obtain rfl:j=0:=by omega
  have eI:i<s.data.toList.length:=hi
  refine⟨.int .u8 (s.data.toList[i].toNat),by rw[Nat.mul_one,Nat.add_zero,List.getElem?_map,List.getElem?_eq_getElem eI];rfl, ?_⟩
  simp only[aF.cell]
  have:(s.data.toList.map fun b=>((b.toNat:Nat):Int)).getD i 0=(s.data.toList[i].toNat:Int):=by
   rw[List.getD,List.getElem?_map,List.getElem?_eq_getElem eI]
   rfl
  rw[this]
  exact .int _ _
end
end Go.Sx
namespace Go.Sx
open Go
section
variable{ρ az:Nat→Value}{H H':aG}{G O O':Nat→Prop}{w w':World}{P:Program}
theorem fm{α:Type}(xs ys:List α){lo k:Nat}(h:lo+k≤xs.length)(hk:k≤ys.length):(over xs lo k ys).length=xs.length:=by
 simp only[over,List.length_append,List.length_take,List.length_drop];omega
theorem jF{α:Type}(xs ys:List α)(d:α){lo k:Nat}(h:lo+k≤xs.length)(hk:k≤ys.length)(i:Nat):
 (over xs lo k ys).getD i d=if lo≤i∧i<lo+k then ys.getD (i - lo) d else xs.getD i d:=by
 have hto:(xs.take lo).length=lo:=by simp;omega
 have hty:(ys.take k).length=k:=by simp;omega
 simp only[over,List.getD]
 by_cases h1:i<lo
 ·rw[if_neg (by omega),List.append_assoc,List.getElem?_append_left (by omega),List.getElem?_take,if_pos h1]
 ·by_cases h2:i<lo+k
  ·rw[if_pos (by omega),List.append_assoc,List.getElem?_append_right (by omega),hto,List.getElem?_append_left (by omega),List.getElem?_take,if_pos (by omega)]
  ·rw[if_neg (by omega),List.append_assoc,List.getElem?_append_right (by omega),hto,List.getElem?_append_right (by omega),hty,List.getElem?_drop]
   congr 2
   omega
theorem agp{α:Type}{lo i k:Nat}{a b:α}:(bif lo.ble i&&i.blt (lo+k)then a else b)=if lo≤i∧i<lo+k then a else b:=by
 rw[Bool.cond_eq_ite]
 congr 1
 simp[Nat.blt,Nat.lt_iff_add_one_le,Nat.ble_eq]
theorem aaC{cs jk:List CK}(xs:List (CL cs))(ys:List (CL jk))(lo k:Nat)(p:aF→Prop)(h1:∀e:jk=cs,p (.ae cs (over xs lo k (e▸ys))))
 (h2:p (.ef (CL.wide cs) xs.length fun i j=>bif lo.ble i&&i.blt (lo+k)then(aF.ae jk ys).cell (i - lo) j else(aF.ae cs xs).cell i j)):p (de (.ae cs xs) lo k (.ae jk ys)):=by
 simp only[de]
 split
 ·rename_i h _;exact h1 h.down
 ·exact h2
theorem sn(c d:aF){lo k:Nat}(h:lo+k≤c.n)(hk:k≤d.n):
 (de c lo k d).n=c.n∧(de c lo k d).size=c.size∧∀i j,i<c.n→(de c lo k d).cell i j=if lo≤i∧i<lo+k then d.cell (i - lo) j else c.cell i j:=by
 have other:∀c':aF,c'=.ef c.size c.n (fun i j=>bif lo.ble i&&i.blt (lo+k)then d.cell (i - lo) j else c.cell i j)→
  c'.n=c.n∧c'.size=c.size∧∀i j,i<c.n→c'.cell i j=if lo≤i∧i<lo+k then d.cell (i - lo) j else c.cell i j:=by
  rintro c' rfl
  exact⟨rfl,rfl,fun i j _=>agp⟩
 cases c<;>cases d
 case ints.ints k1 xs k2 ys=>
  simp only[de]
  cases hkk:bF k1 k2
  ·exact other _ rfl
  ·obtain rfl:=aX hkk
   simp only[aF.n]at h hk
   refine⟨fm xs ys h hk,rfl,fun i j _=> ?_⟩
   simp only[aF.cell,jF xs ys _ h hk,cond_true]
   split<;>rfl
 case strs.strs xs ys=>
  simp only[aF.n]at h hk
  refine⟨fm xs ys h hk,rfl,fun i j _=> ?_⟩
  simp only[de,aF.cell,jF xs ys _ h hk]
  split<;>rfl
 case bD.bD xs ys=>
  simp only[aF.n]at h hk
  refine⟨fm xs ys h hk,rfl,fun i j _=> ?_⟩
  simp only[de,aF.cell,jF xs ys _ h hk]
  split<;>rfl
 case ae.ae cs xs jk ys=>
  simp only[aF.n]at h hk
  refine aaC xs ys lo k (fun c'=>c'.n=(aF.ae cs xs).n∧c'.size=(aF.ae cs xs).size∧∀i j,i<(aF.ae cs xs).n→c'.cell i j=if lo≤i∧i<lo+k then(aF.ae jk ys).cell (i - lo) j else(aF.ae cs xs).cell i j) ?_ (other _ rfl)
  rintro rfl
  refine⟨fm xs ys h hk,rfl,fun i j _=> ?_⟩
  simp only[aF.cell,jF xs ys _ h hk]
  split<;>rfl
 all_goals exact other _ rfl
theorem Good.upd(hs:Sat ρ H G w){id:Nat}{o o':ad}(ho:H id=some o)(ha:o.alive=o'.alive)
 (rh:∀c' e',o'=.vec c' e'→∃c e,o=.vec c e∧c'.n=c.n∧c'.size=c.size) {r:AV} {v:Value}
 (dR:ig ρ (aB H id o') (aK ρ H G) w (ρ id) o') (hr:ab ρ (aB H id o') (aK ρ H G) w r v):Good ρ H G w (aB H id o') r v w:=by
 have hh:=yM (ρ:=ρ) (G:=G) ho ha
 have st:Step ρ H (aK ρ H G) w ρ (aB H id o') (aK ρ (aB H id o') G) w:=by
  refine⟨fun _ _ _=>rfl,fun j x hx=> ?_,fun c hc=>.inl (by rw[hh]at hc;exact hc),fun c hc hO=>rfl,Nat.le_refl _⟩
  by_cases hj:j=id
  ·subst hj
   rw[ho]at hx
   cases hx
   exact⟨o',by simp[aB],rh⟩
  ·exact⟨x,by simp[aB,hj,hx],fun c' e' hc=>⟨c',e',hc,rfl,rfl⟩⟩
 refine⟨ρ,⟨fun j x hx=> ?_,fun i j oi oj c h1 h2 h3 h4 h5 h6=> ?_,fun c hc=> ?_,hs.low⟩,by rw[hh];exact hr,st,⟨rfl,rfl,rfl,fun _ _ _=>rfl⟩⟩
 ·by_cases hj:j=id
  ·subst hj
   simp only[aB,if_true,Option.some.injEq]at hx
   subst hx
   rw[hh]
   exact dR
  ·have xk:H j=some x:=by simpa[aB,hj]using hx
   exact(hs.obj j x xk).step st (fun _ _ _=>rfl)
 ·have f:∀i oi,aB H id o' i=some oi→oi.alive=true→∃x,H i=some x∧x.alive=true:=by
   intro i oi hi ua
   by_cases eI:i=id
   ·subst eI
    simp only[aB,if_true,Option.some.injEq]at hi
    subst hi
    exact⟨o,ho,ha.trans ua⟩
   ·exact⟨oi,by simpa[aB,eI]using hi,ua⟩
  obtain⟨x,hx,hxa⟩:=f i oi h1 h3
  obtain⟨y,hy,hya⟩:=f j oj h2 h4
  exact hs.inj i j x y c hx hy hxa hya h5 h6
 ·exact hs.apart c ((yL ho ha c).1 hc)
theorem pZ(hs:Sat ρ H G w){id:Nat}{c d:aF}{e:TypeId}(ho:H id=some (.vec c e)){lo k:Nat}(hlo:lo+k≤c.n)(hk:k≤d.n)(h1:1≤c.size){news:List Value}
 (hlen:news.length=k*c.size) (rl:∀u∈news,u.oneCell'=true) (ki:∀i j,i<k→j<c.size→∃u,news[i*c.size+j]? =some u∧aJ (aK ρ H G) w (d.cell i j) u):
 ∃w',(∀a cap x,ρ id=.slice a c.n cap→(k=0∨a.map (·.add (lo*c.size))=some x)→(storeCells x news 0).run P w=.ok () w')∧(k=0→w'=w)∧
  ∀r v,(∀w2,ab ρ (aB H id (.vec (de c lo k d) e)) (aK ρ H G) w2 r v)→Good ρ H G w (aB H id (.vec (de c lo k d) e)) r v w':=by
 obtain⟨hn,bH,p6⟩:=sn c d hlo hk
 obtain⟨a,cap,dN,q1,q2,q3⟩:=hs.obj id _ ho
 have rh:∀c' e',ad.vec (de c lo k d) e=.vec c' e'→∃c1 e1,ad.vec c e=.vec c1 e1∧c'.n=c1.n∧c'.size=c1.size:=fun c' e' hc=>by cases hc;exact⟨c,e,rfl,hn,bH⟩
 have hh:=yM (ρ:=ρ) (G:=G) ho (show(ad.vec c e).alive=(ad.vec (de c lo k d) e).alive from rfl)
 rcases Nat.eq_zero_or_pos k with h0|h0
 ·subst h0
  have jm:news=[]:=List.eq_nil_of_length_eq_zero (by rw[hlen];simp)
  subst jm
  refine⟨w,fun a cap x _ _=>rfl,fun _=>rfl,fun r v hr=>Good.upd (o':=.vec (de c lo 0 d) e) hs ho rfl rh ?_ (hr w)⟩
  have hc:∀i j,i<c.n→(de c lo 0 d).cell i j=c.cell i j:=fun i j hi=>by rw[p6 i j hi,if_neg (by omega)]
  refine⟨a,cap,by rw[hn];exact dN,by omega,q2, ?_⟩
  rcases q3 with q3|⟨b,o,cells,fr,us,e1,e2,e3,e4,e5⟩
  ·exact .inl q3
  ·exact .inr ⟨b,o,cells,fr,us,e1,e2,e3,by rw[bH];exact e4,fun i j hi hj=>by rw[hn]at hi;rw[bH]at hj ⊢;rw[hc i j hi];exact e5 i j hi hj⟩
 ·rcases q3 with q3|⟨b,o,cells,fr,us,rfl,e2,e3,e4,e5⟩
  ·omega
  ·have lT:eh (ρ id)=some b:=by rw[dN];simp only[eh];rw[if_neg (by omega)]
   have hm1:(lo+k)*c.size≤cap*c.size:=Nat.mul_le_mul_right _ (by omega)
   rw[Nat.add_mul]at hm1
   have hl:o+lo*c.size+news.length≤cells.length:=by omega
   have xt:(cells.take (o+lo*c.size)++news++cells.drop (o+lo*c.size+news.length)).length=cells.length:=by
    simp only[List.length_append,List.length_take,List.length_drop];omega
   let obj:Obj:=.cells (cells.take (o+lo*c.size)++news++cells.drop (o+lo*c.size+news.length)).toArray e fr
   refine⟨World.bZ w b obj,fun a' af2 x hr hx=> ?_,fun h=>by omega,fun r v hr=> ?_⟩
   ·rw[dN]at hr
    cases hr
    rcases hx with hx|hx
    ·omega
    ·simp only[Option.map_some,aS,Option.some.injEq]at hx
     subst hx
     have:=bJ (P:=P) (o+lo*c.size) news 0 e2 e3.unm (by omega) rl
     rw[Nat.add_zero]at this
     exact this
   ·have st:=jQ (G:=G) (w:=w) (o':=.vec (de c lo k d) e) ho rfl lT rh obj
    refine Good.write hs ho rfl rfl lT rh ?_ (hr _)
    refine⟨some ⟨b,o,none⟩,cap,by rw[hn];exact dN,by omega,q2,.inr ⟨b,o,_,fr,fun i j=>if lo≤i∧i<lo+k then news.getD ((i - lo)*c.size+j) undef else us i j,rfl,eJ e2,e3.over rl (by omega),by rw[xt,bH];exact e4,fun i j hi hj=> ?_⟩⟩
    rw[hn]at hi
    rw[bH]at hj ⊢
    rw[p6 i j hi,yR _ _ _ hl]
    dsimp only
    by_cases di:lo≤i∧i<lo+k
    ·obtain⟨u,g1,g2⟩:=ki (i - lo) j (by omega) hj
     have hmul:i*c.size=lo*c.size+(i - lo)*c.size:=by rw[←Nat.add_mul];congr 1;omega
     have bg:=(List.getElem?_eq_some_iff.1 g1).1
     simp only[if_pos di]
     rw[if_pos (by omega),show o+i*c.size+j - (o+lo*c.size)=(i - lo)*c.size+j from by omega,g1]
     have:news.getD ((i - lo)*c.size+j) undef=u:=by simp[List.getD,g1]
     rw[this]
     exact⟨rfl,g2.step st.fK st.heap st.size⟩
    ·simp only[if_neg di]
     have oh:¬(o+lo*c.size≤o+i*c.size+j∧o+i*c.size+j<o+lo*c.size+news.length):=by
      intro hc
      rcases Nat.lt_or_ge i lo with h2|h2
      ·have:(i+1)*c.size≤lo*c.size:=Nat.mul_le_mul_right _ (by omega)
       rw[Nat.succ_mul]at this
       omega
      ·have:(lo+k)*c.size≤i*c.size:=Nat.mul_le_mul_right _ (by omega)
       rw[Nat.add_mul]at this
       omega
     rw[if_neg oh]
     obtain⟨g1,g2⟩:=e5 i j hi hj
     exact⟨g1,g2.step st.fK st.heap st.size⟩
end
end Go.Sx
namespace Go.Sx
open Go
section
variable{ρ az:Nat→Value}{H H':aG}{G O O':Nat→Prop}{w w':World}{P:Program}
theorem lY{cs jk:List CK}(xs:List (CL cs))(ys:List (CL jk))(p:aF→Prop)(h1:∀e:jk=cs,p (.ae cs (xs++e▸ys)))
 (h2:p (.ef (CL.wide cs) (xs.length+ys.length) fun i j=>bif i.blt xs.length then(aF.ae cs xs).cell i j else(aF.ae jk ys).cell (i - xs.length) j)):p (cX (.ae cs xs) (.ae jk ys)):=by
 simp only[cX]
 split
 ·rename_i h _
  exact h1 h.down
 ·exact h2
theorem uk(c d:aF):(cX c d).n=c.n+d.n:=by
 by_cases ht:∃cs xs jk ys,c=.ae cs xs∧d=.ae jk ys
 ·obtain⟨cs,xs,jk,ys,rfl,rfl⟩:=ht
  refine lY xs ys (fun r=>r.n=_) (fun e=> ?_) rfl
  subst e
  simp[aF.n]
 cases c<;>cases d<;>first|(exact absurd ⟨_,_,_,_,rfl,rfl⟩ ht)|skip
 all_goals simp only[cX,aF.n,List.length_append]
 rename_i k xs k' ys
 cases bF k k'<;>simp
theorem mS(c d:aF)(h:d.size=c.size):(cX c d).size=c.size:=by
 by_cases ht:∃cs xs jk ys,c=.ae cs xs∧d=.ae jk ys
 ·obtain⟨cs,xs,jk,ys,rfl,rfl⟩:=ht
  exact lY xs ys (fun r=>r.size=_) (fun e=>by subst e;rfl) rfl
 cases c<;>cases d<;>first|(exact absurd ⟨_,_,_,_,rfl,rfl⟩ ht)|skip
 all_goals simp only[cX,aF.size]at h ⊢
 rename_i k xs k' ys
 cases bF k k'<;>rfl
theorem rp{α:Type}(xs ys:List α)(d:α){i:Nat}(h:i<xs.length):(xs++ys).getD i d=xs.getD i d:=by
 simp[List.getD,List.getElem?_append_left h]
theorem rq{α:Type}(xs ys:List α)(d:α){i:Nat}(h:¬i<xs.length):(xs++ys).getD i d=ys.getD (i - xs.length) d:=by
 simp[List.getD,List.getElem?_append_right (Nat.le_of_not_lt h)]
theorem um{i n:Nat}(h:i<n):i.blt n=true:=by simpa[Nat.blt,Nat.lt_iff_add_one_le]using h
theorem rr{i n:Nat}(h:¬i<n):i.blt n=false:=by
 cases hb:i.blt n with
 |false=>rfl
 |true=>exact absurd (by simpa[Nat.blt,Nat.lt_iff_add_one_le]using hb) h
theorem yV(c d:aF){i:Nat}(j:Nat)(h:i<c.n):(cX c d).cell i j=c.cell i j:=by
 by_cases ht:∃cs xs jk ys,c=.ae cs xs∧d=.ae jk ys
 ·obtain⟨cs,xs,jk,ys,rfl,rfl⟩:=ht
  simp only[aF.n]at h
  refine lY xs ys (fun r=>r.cell i j=_) (fun e=> ?_) ?_
  ·subst e
   simp only[aF.cell,rp _ _ _ h]
  ·simp only[aF.cell,um h,cond_true]
 cases c<;>cases d<;>first|(exact absurd ⟨_,_,_,_,rfl,rfl⟩ ht)|skip
 all_goals simp only[cX,aF.cell,aF.n]at h ⊢
 all_goals first
  |(rw[rp _ _ _ h];done)
  |(simp only[um h,cond_true];done)
  |(rename_i k xs k' ys
    cases hk:bF k k'
    ·simp only[cond_false,um h,cond_true]
    ·simp only[cond_true,rp _ _ _ h])
theorem yW(c d:aF){i:Nat}(j:Nat)(h:¬i<c.n):(cX c d).cell i j=d.cell (i - c.n) j:=by
 by_cases ht:∃cs xs jk ys,c=.ae cs xs∧d=.ae jk ys
 ·obtain⟨cs,xs,jk,ys,rfl,rfl⟩:=ht
  simp only[aF.n]at h
  refine lY xs ys (fun r=>r.cell i j=_) (fun e=> ?_) ?_
  ·subst e
   simp only[aF.cell,aF.n,rq _ _ _ h]
  ·simp only[aF.cell,aF.n,rr h,cond_false]
 cases c<;>cases d<;>first|(exact absurd ⟨_,_,_,_,rfl,rfl⟩ ht)|skip
 all_goals simp only[cX,aF.cell,aF.n]at h ⊢
 all_goals first
  |(rw[rq _ _ _ h];done)
  |(simp only[rr h,cond_false];done)
  |(rename_i k xs k' ys
    cases hk:bF k k'
    ·simp only[cond_false,rr h]
    ·obtain rfl:=aX hk
     simp only[cond_true,rq _ _ _ h])
theorem fA{id:Nat}{o:ad}(ho:H id=some o):Step ρ H (aK ρ H G) w ρ (aB H id .dead) (aK ρ (aB H id .dead) G) w:=by
 refine⟨fun _ _ _=>rfl,fun j x hx=> ?_,fun b hb=> ?_,fun _ _ _=>rfl,Nat.le_refl _⟩
 ·by_cases hj:j=id
  ·subst hj
   exact⟨.dead,by simp[aB],by simp⟩
  ·exact⟨x,by simp[aB,hj,hx],fun c' e' hc=>⟨c',e',hc,rfl,rfl⟩⟩
 ·rcases hb with⟨j,x,hx,h1,h2⟩|hb
  ·by_cases hj:j=id
   ·subst hj
    simp only[aB,if_true,Option.some.injEq]at hx
    subst hx
    simp[ad.alive]at h1
   ·exact .inl (.inl ⟨j,x,by simpa[aB,hj]using hx,h1,h2⟩)
  ·exact .inl (.inr hb)
theorem fo{id:Nat}{b:Nat}(h:Own ρ (aB H id .dead) b):Own ρ H b:=by
 obtain⟨j,x,hx,h1,h2⟩:=h
 by_cases hj:j=id
 ·subst hj
  simp only[aB,if_true,Option.some.injEq]at hx
  subst hx
  simp[ad.alive]at h1
 ·exact⟨j,x,by simpa[aB,hj]using hx,h1,h2⟩
theorem Sat.kill(hs:Sat ρ H G w){id:Nat}{o:ad}(ho:H id=some o):Sat ρ (aB H id .dead) G w:=by
 have st:=fA (ρ:=ρ) (G:=G) (w:=w) ho
 refine⟨fun j x hx=> ?_,fun i j oi oj b h1 h2 h3 h4 h5 h6=> ?_,fun b hb=>hs.apart b (fo hb),hs.low⟩
 ·by_cases hj:j=id
  ·subst hj
   simp only[aB,if_true,Option.some.injEq]at hx
   subst hx
   trivial
  ·exact(hs.obj j x (by simpa[aB,hj]using hx)).step st (fun _ _ _=>rfl)
 ·have f:∀i oi,aB H id .dead i=some oi→oi.alive=true→H i=some oi:=by
   intro i oi hi ua
   by_cases eI:i=id
   ·subst eI
    simp only[aB,if_true,Option.some.injEq]at hi
    subst hi
    simp[ad.alive]at ua
   ·simpa[aB,eI]using hi
  exact hs.inj i j oi oj b (f i oi h1 h3) (f j oj h2 h4) h3 h4 h5 h6
theorem Good.after{H1 H2:aG}(mw:Step ρ H (aK ρ H G) w ρ H1 (aK ρ H1 G) w)(dF:∀b,Own ρ H1 b→Own ρ H b){r:AV}{v:Value}(h:Good ρ H1 G w H2 r v w'):Good ρ H G w H2 r v w':=by
 obtain⟨az,h1,h2,h3,h4⟩:=h
 exact⟨az,h1,h2,mw.trans h3,h4.os,h4.tape,h4.output,fun b hb hO=>h4.heap b hb (fun hx=>hO (dF b hx))⟩
theorem ru(hs:Sat ρ H G w){n:Nat}(hn:H n=none){c:aF}{e:TypeId}(h0:c.n=0)(a:Option Addr):
 Good ρ H G w (aB H n (.vec c e)) (.vec n) (.slice a c.n 0) w:=by
 have ne:∀j x,H j=some x→j≠n:=fun j x hx e=>by subst e;rw[hn]at hx;cases hx
 have hb:eh (.slice a c.n 0)=none:=by cases a<;>simp[eh]
 have pT:∀b,Own (fun j=>if j=n then .slice a c.n 0 else ρ j) (aB H n (.vec c e)) b→Own ρ H b:=by
  rintro b ⟨j,x,hx,h1,h2⟩
  by_cases hj:j=n
  ·subst hj;simp only[if_true]at h2;rw[hb]at h2;cases h2
  ·simp only[aB,hj,if_false]at hx h2
   exact⟨j,x,hx,h1,h2⟩
 have st:Step ρ H (aK ρ H G) w (fun j=>if j=n then .slice a c.n 0 else ρ j) (aB H n (.vec c e)) (aK (fun j=>if j=n then .slice a c.n 0 else ρ j) (aB H n (.vec c e)) G) w:=
  ⟨fun j x hx=>by simp[ne j x hx],fun j x hx=>⟨x,by simp[aB,ne j x hx,hx],fun c' e' hc=>⟨c',e',hc,rfl,rfl⟩⟩,fun b hb=>.inl (hb.imp (pT b) id),fun b hb _=>rfl,Nat.le_refl _⟩
 refine⟨_,⟨fun j x hx=> ?_,fun i j oi oj b h1 h2 h3 h4 h5 h6=> ?_,fun b hb=>hs.apart b (pT b hb),hs.low⟩, ?_,st,rfl,rfl,rfl,fun _ _ _=>rfl⟩
 ·by_cases hj:j=n
  ·subst hj
   simp only[aB,if_true,Option.some.injEq]at hx
   subst hx
   simp only[if_true]
   exact⟨a,0,rfl,by omega,by simp[maxLen],.inl rfl⟩
  ·have xk:H j=some x:=by simpa[aB,hj]using hx
   simp only[hj,if_false]
   exact(hs.obj j x xk).step st (fun _ _ _=>rfl)
 ·by_cases hi:i=n
  ·subst hi;simp only[if_true]at h5;rw[hb]at h5;cases h5
  ·by_cases hj:j=n
   ·subst hj;simp only[if_true]at h6;rw[hb]at h6;cases h6
   ·simp only[aB,hi,hj,if_false]at h1 h2 h5 h6
    exact hs.inj i j oi oj b h1 h2 h3 h4 h5 h6
 ·unfold ab ay
  exact⟨rfl,.vec c e,by simp[aB],fun c' e' hc=>by simp⟩
theorem xu{z:Array Value}(h:∀u∈z.toList,u.oneCell'=true)(n:Nat):∀u∈(Builtin.zeroCells z n).toList,u.oneCell'=true:=by
 intro u hu
 simp only[Builtin.zeroCells,Array.toList_map,Array.toList_range,List.mem_map,List.mem_range]at hu
 obtain⟨m,hm,rfl⟩:=hu
 have hp:0<z.size:=by
  rcases Nat.eq_zero_or_pos z.size with h0|h0
  ·rw[h0]at hm;omega
  ·exact h0
 have bg:m%z.size<z.size:=Nat.mod_lt _ hp
 rw[getElem!_pos z (m%z.size) bg]
 exact h _ (Array.mem_toList_iff.2 (Array.getElem_mem bg))
theorem aru(hs:Sat ρ H G w){id n:Nat}{o:ad}(ho:H id=some o)(ha:o.alive=true)(hn:H n=none){b f:Nat}(hb:eh (ρ id)=some b){c:aF}{e:TypeId}{cap:Nat}{cells:List Value}{fr:Nat×Nat}{old:Obj}
 (hold:w.heap[b]? =some old) (hu:yI fr cells) (h1:c.n≤cap) (h2:cap≤maxLen) (h3:f+cap*c.size≤cells.length) (us:Nat→Nat→Value)
 (hd:∀i j,i<c.n→j<c.size→cells[f+i*c.size+j]? =some (us i j)∧aJ (aK ρ H G) w (c.cell i j) (us i j)):
 Good ρ H G w (aB (aB H id .dead) n (.vec c e)) (.vec n) (.slice (some ⟨b,f,none⟩) c.n cap) (World.bZ w b (.cells cells.toArray e fr)):=by
 have ne:∀j x,H j=some x→j≠n:=fun j x hx e=>by subst e;rw[hn]at hx;cases hx
 have apg:id≠n:=ne id o ho
 have dF:Own ρ H b:=⟨id,o,ho,ha,hb⟩
 have pY:∀b',eh (.slice (some ⟨b,f,none⟩) c.n cap)=some b'→b'=b:=by
  intro b' tZ
  simp only[eh]at tZ
  split at tZ
  ·cases tZ
  ·simpa using tZ.symm
 have pT:∀b',Own (fun j=>if j=n then .slice (some ⟨b,f,none⟩) c.n cap else ρ j) (aB (aB H id .dead) n (.vec c e)) b'→Own ρ H b':=by
  rintro b' ⟨j,x,hx,g1,g2⟩
  by_cases hj:j=n
  ·subst hj
   simp only[if_true]at g2
   rw[pY b' g2]
   exact dF
  ·by_cases hi:j=id
   ·subst hi
    simp only[aB,hj,if_false,if_true,Option.some.injEq]at hx
    subst hx
    simp[ad.alive]at g1
   ·simp only[aB,hj,hi,if_false]at hx g2
    exact⟨j,x,hx,g1,g2⟩
 have st:Step ρ H (aK ρ H G) w (fun j=>if j=n then .slice (some ⟨b,f,none⟩) c.n cap else ρ j) (aB (aB H id .dead) n (.vec c e)) (aK (fun j=>if j=n then .slice (some ⟨b,f,none⟩) c.n cap else ρ j) (aB (aB H id .dead) n (.vec c e)) G) (World.bZ w b (.cells cells.toArray e fr)):=by
  refine⟨fun j x hx=>by simp[ne j x hx],fun j x hx=> ?_,fun b' tZ=>.inl (tZ.imp (pT b') _root_.id),fun b' tZ hO=>ij (fun e=>hO (.inl (by subst e;exact dF))),by rw[iL];exact Nat.le_refl _⟩
  by_cases hi:j=id
  ·subst hi
   exact⟨.dead,by simp[aB,apg],by simp⟩
  ·exact⟨x,by simp[aB,ne j x hx,hi,hx],fun c' e' hc=>⟨c',e',hc,rfl,rfl⟩⟩
 refine⟨_,⟨fun j x hx=> ?_,fun i j oi oj b' g1 g2 g3 g4 g5 g6=> ?_,fun b' tZ=>hs.apart b' (pT b' tZ),fun b' tZ=>by rw[iL];exact hs.low b' tZ⟩, ?_,st,rfl,rfl,rfl,fun b' tZ hO=>ij (fun e=>hO (by subst e;exact dF))⟩
 ·by_cases hj:j=n
  ·subst hj
   simp only[aB,if_true,Option.some.injEq]at hx
   subst hx
   simp only[if_true]
   refine⟨_,cap,rfl,h1,h2,.inr ⟨b,f,cells,fr,us,rfl,eJ hold,hu,h3,fun i j hi hj=> ?_⟩⟩
   obtain⟨k1,k2⟩:=hd i j hi hj
   exact⟨k1,k2.step st.fK st.heap st.size⟩
  ·by_cases hi:j=id
   ·subst hi
    simp only[aB,hj,if_false,if_true,Option.some.injEq]at hx
    subst hx
    trivial
   ·have xk:H j=some x:=by simpa[aB,hj,hi]using hx
    simp only[hj,if_false]
    refine(hs.obj j x xk).step st (fun b' ua tZ=>ij (fun e=>hi ?_))
    subst e
    exact hs.inj j id x o b' xk ho ua ha tZ hb
 ·have f':∀i oi,aB (aB H id .dead) n (.vec c e) i=some oi→oi.alive=true→i≠n→i≠id∧H i=some oi:=by
   intro i oi hi ua ct
   by_cases eI:i=id
   ·subst eI
    simp only[aB,ct,if_false,if_true,Option.some.injEq]at hi
    subst hi
    simp[ad.alive]at ua
   ·exact⟨eI,by simpa[aB,ct,eI]using hi⟩
  by_cases hi:i=n<;>by_cases hj:j=n
  ·rw[hi,hj]
  ·obtain⟨k1,k2⟩:=f' j oj g2 g4 hj
   simp only[hi,hj,if_true,if_false]at g5 g6
   have:=pY b' g5
   subst this
   exact absurd (hs.inj j id oj o b' k2 ho g4 ha g6 hb) k1
  ·obtain⟨k1,k2⟩:=f' i oi g1 g3 hi
   simp only[hi,hj,if_true,if_false]at g5 g6
   have:=pY b' g6
   subst this
   exact absurd (hs.inj i id oi o b' k2 ho g3 ha g5 hb) k1
  ·simp only[hi,hj,if_false]at g5 g6
   exact hs.inj i j oi oj b' (f' i oi g1 g3 hi).2 (f' j oj g2 g4 hj).2 g3 g4 g5 g6
 ·unfold ab ay
  exact⟨rfl,.vec c e,by simp[aB],fun c' e' hc=>by simp⟩
theorem fO{t t' ty e:TypeId}{i:TypeInfo}{a:Option Addr}{n cap m:Nat}{vy:Value}{news:List Value}
 (ht:P.underlying t=some (.slice e)) (hi:P.info? e=some i) (hzero:(∃e',P.underlying t'=some (.slice e'))∨P.underlying t'=some .string)
 (hlen:(Builtin.lenOf vy).run P w=.ok m w) (jR:(Builtin.firstCells i.size m vy).run P w=.ok news.toArray w) (mU:n+m≤cap)
 (mw:∀x,a=some x→(storeCells (x.add (n*i.size)) news 0).run P w=.ok () w') (uo:a=none→w'=w):
 (Builtin.append_ #[t,t'] ty #[.slice a n cap,vy]).run P w=.ok (.slice a (n+m) cap) w':=by
 rcases hzero with⟨e',hd⟩|hd<;>cases a with
 |none=>
  rw[uo rfl]
  simp[Builtin.append_,run_underlying ht,run_underlying hd,sizeOf,typeInfo,hi,hlen,mU,jR]
 |some x=>
  have:=mw x rfl
  simp[Builtin.append_,run_underlying ht,run_underlying hd,sizeOf,typeInfo,hi,hlen,mU,jR,this]
theorem mV{t t' ty e:TypeId}{i:TypeInfo}{z:Value}{a:Option Addr}{n cap m:Nat}{vy:Value}{olds news:List Value}
 (ht:P.underlying t=some (.slice e)) (hi:P.info? e=some i) (hz:i.zero=some z) (hzero:(∃e',P.underlying t'=some (.slice e'))∨P.underlying t'=some .string)
 (hlen:(Builtin.lenOf vy).run P w=.ok m w) (hold:(Builtin.firstCells i.size n (.slice a n cap)).run P w.drew=.ok olds.toArray w.drew) (jR:(Builtin.firstCells i.size m vy).run P w.drew=.ok news.toArray w.drew) (mU:¬n+m≤cap)
 (hsm:(n+m)*i.bytes≤140737488355328) (hb1:1≤i.bytes):
 ∃mW,n+m≤mW∧mW≤maxLen∧(Builtin.append_ #[t,t'] ty #[.slice a n cap,vy]).run P w=
  .ok (.slice (some ⟨w.heap.size,0,none⟩) (n+m) mW) (w.drew.alloc (.cells (olds++news++(Builtin.zeroCells z.cells (mW - (n+m))).toList).toArray e)):=by
 have hnm:n+m≤140737488355328:=Nat.le_trans (by have:=Nat.mul_le_mul_left (n+m) hb1;omega) hsm
 refine⟨grownCap w (n+m) cap e,grownCap_ge w _ _ _,grownCap_le_maxLen w _ _ _ (by simp only[maxLen];omega), ?_⟩
 have aaB:¬(281474976710656<Builtin.nextslicecap (n+m) cap*i.bytes):=by
  have h1:=rm (need:=n+m) (old:=cap) (by omega)
  have h2:Builtin.nextslicecap (n+m) cap*i.bytes≤(2*(n+m))*i.bytes:=Nat.mul_le_mul_right _ h1
  rw[Nat.mul_assoc]at h2
  omega
 have ac3:¬(9223372036854775807<(n:Int)+(m:Int)):=by omega
 have ali:∀X:Array Value,olds.toArray++(news.toArray++X)=(olds++(news++X.toList)).toArray:=fun X=>by
  apply Array.toList_inj.1
  simp
 have hq:¬((Question.appendCap (n+m) cap e).forced=true):=by simp[Question.forced]
 rcases hzero with⟨e',hd⟩|hd
 ·simp[Builtin.append_,run_underlying ht,run_underlying hd,sizeOf,typeInfo,hi,hlen,mU,ac3,aaB,hold,jR,zeroValue,hz,newRow]
  rw[if_neg hq,ali]
  rfl
 ·simp[Builtin.append_,run_underlying ht,run_underlying hd,sizeOf,typeInfo,hi,hlen,mU,ac3,aaB,hold,jR,zeroValue,hz,newRow]
  rw[if_neg hq,ali]
  rfl
theorem alj(hs:Sat ρ H G w){id:Nat}{c:aF}{e:TypeId}(ho:H id=some (.vec c e)):pb (aK ρ H G) w c (ρ id):=by
 obtain⟨a,cap,h1,h2,h3,h4⟩:=hs.obj id _ ho
 rcases h4 with rfl|⟨b,o,cells,fr,us,rfl,h5,h6,h7,h8⟩
 ·exact⟨a,0,fun _ _=>undef,h1,h2,h3,fun h0=>by omega⟩
 ·refine⟨_,cap,us,h1,h2,h3,fun _=>⟨b,o,rfl,(Array.getElem?_eq_some_iff.1 h5).1,fun i j hi hj=> ?_⟩⟩
  obtain⟨h9,s7⟩:=h8 i j hi hj
  exact⟨by rw[cY h5];exact h9,s7⟩
theorem ahX{sh:Shape}{size:Nat}{x:AV}{k:aF→Option Nat→RM bx}{v:Value}{q:bx}(h:(xh sh size x k).eval H=some q)(hs:Sat ρ H G w)(hd:ab ρ H (aK ρ H G) w x v)(h1:1≤size):
 ∃c idy,(k c idy).eval H=some q∧(c.size=size→∃news,Src P (aK ρ H G) w size c v news):=by
 unfold xh at h
 split at h
 ·rename_i s
  obtain rfl:=fa hd
  refine⟨_,_,h,fun bH=> ?_⟩
  simp only[aF.size]at bH
  subst bH
  exact alh
 ·obtain⟨c,idy,h2,h3⟩:=ue h hs hd
  exact⟨c,idy,h2,fun bH=>tn h3 bH h1⟩
theorem ry{c d:aF}{size:Nat}{olds news rest:List Value}(hc:c.size=size)(hdz:d.size=size)(_h1:1≤size)(ho:olds.length=c.n*size)(_hn:news.length=d.n*size)
 (h2:∀i j,i<c.n→j<size→∃u,olds[i*size+j]? =some u∧aJ O w (c.cell i j) u) (h3:∀i j,i<d.n→j<size→∃u,news[i*size+j]? =some u∧aJ O w (d.cell i j) u) (pre:List Value):
 ∀i j,i<(cX c d).n→j<(cX c d).size→(pre++(olds++news++rest))[pre.length+i*(cX c d).size+j]? =some ((pre++(olds++news++rest)).getD (pre.length+i*(cX c d).size+j) undef)∧
  aJ O w ((cX c d).cell i j) ((pre++(olds++news++rest)).getD (pre.length+i*(cX c d).size+j) undef):=by
 intro i j hi hj
 have bH:(cX c d).size=size:=by rw[mS c d (by omega),hc]
 rw[uk]at hi
 rw[bH]at hj ⊢
 have key:∃u,(pre++(olds++news++rest))[pre.length+i*size+j]? =some u∧aJ O w ((cX c d).cell i j) u:=by
  rw[Nat.add_assoc,List.getElem?_append_right (by omega),Nat.add_sub_cancel_left,List.append_assoc]
  by_cases bg:i<c.n
  ·obtain⟨u,g1,g2⟩:=h2 i j bg hj
   refine⟨u, ?_,by rw[yV c d j bg];exact g2⟩
   rw[List.getElem?_append_left (List.getElem?_eq_some_iff.1 g1).1]
   exact g1
  ·obtain⟨u,g1,g2⟩:=h3 (i - c.n) j (by omega) hj
   refine⟨u, ?_,by rw[yW c d j bg];exact g2⟩
   have hm:c.n*size+(i - c.n)*size=i*size:=by rw[←Nat.add_mul];congr 1;omega
   rw[List.getElem?_append_right (by omega)]
   rw[show i*size+j - olds.length=(i - c.n)*size+j from by omega]
   rw[List.getElem?_append_left (List.getElem?_eq_some_iff.1 g1).1]
   exact g1
 obtain⟨u,g1,g2⟩:=key
 have bg:=(List.getElem?_eq_some_iff.1 g1).1
 have g1':=g1
 rw[gM _ _ undef bg]at g1'
 simp only[Option.some.injEq]at g1'
 exact⟨gM _ _ _ bg,by rw[g1'];exact g2⟩
theorem ac4{t t' ty:TypeId}{x y:AV}{vx vy:Value}{q:bx}(h:(yD P t x y).eval H=some q)(hn:bt q.need)(hs:Sat ρ H G w)
 (hx:ab ρ H (aK ρ H G) w x vx) (hy:ab ρ H (aK ρ H G) w y vy) (hzero:(∃e',P.underlying t'=some (.slice e'))∨P.underlying t'=some .string) {base:Nat} (hb:∀i,i<q.new.length→H (base+i)=none):
 ∃v w',(Builtin.append_ #[t,t'] ty #[vx,vy]).run P w=.ok v w'∧Good ρ H G w (cZ H q.up base q.new) (q.r base) v w':=by
 unfold yD at h
 split at h
 ·rename_i e ht
  split at h
  ·rename_i i hi
   simp only[]at h
   rw[Bool.cond_eq_ite]at h
   split at h
   ·rename_i hc
    simp only[Bool.and_eq_true]at hc
    obtain⟨⟨⟨c1,cb⟩,c2⟩,c3⟩:=hc
    have c1:=Nat.le_of_ble_eq_true c1
    have cb:=Nat.le_of_ble_eq_true cb
    obtain⟨z,hz,hzs,hz1⟩:∃z,i.zero=some z∧z.cells.size=i.size∧∀u∈z.cells.toList,u.oneCell'=true:=by
     cases hz:i.zero with
     |none=>simp[hz]at c3
     |some z=>
      simp only[hz,Option.any_some,Bool.and_eq_true,beq_iff_eq,List.all_eq_true]at c3
      exact⟨z,rfl,c3.1,c3.2⟩
    obtain⟨d,idy,h1,om⟩:=ahX (P:=P) h hs hy c1
    rw[Bool.cond_eq_ite]at h1
    split at h1
    ·rename_i hds
     have hds:d.size=i.size:=by simpa using hds
     obtain⟨news,src⟩:=om hds
     split at h1
     ·
      simp only[RM.eval,Option.some.injEq]at h1
      subst h1
      have jl:H base=none:=by simpa using hb 0 (by simp)
      have hsm:d.n*i.bytes≤140737488355328:=hn.1
      unfold ab at hx
      obtain⟨a,rfl⟩:=hx
      simp only[iN]
      by_cases hm:d.n=0
      ·have jm:news=[]:=List.eq_nil_of_length_eq_zero (by rw[src.length,hm];simp)
       refine⟨.slice a (0+d.n) 0,w,fO ht hi hzero src.len (src.first w rfl) (by omega) (fun x _=>by rw[jm];rfl) (fun _=>rfl), ?_⟩
       rw[Nat.zero_add]
       exact ru hs jl hm a
      ·obtain⟨mW,g1,g2,g3⟩:=mV (ty:=ty) (olds:=[]) (a:=a) (n:=0) (cap:=0) ht hi hz hzero src.len (by cases a<;>simp[Builtin.firstCells,loadCells,loadCellsFrom]) (src.first w.drew rfl) (by omega) (by rw[Nat.zero_add];exact hsm) cb
       refine⟨_,_,g3, ?_⟩
       rw[Nat.zero_add]at *
       simp only[List.nil_append]
       refine lq (w1:=w.drew) hs rfl rfl rfl rfl jl g1 g2 ?_ (fun i' j'=>(news++(Builtin.zeroCells z.cells (mW - d.n)).toList).getD (i'*d.size+j') undef) (fun i' j' eI jx=> ?_) (fun u hu=>(List.mem_append.1 hu).elim (src.one u) (xu hz1 _ u))
       ·simp only[List.length_append,src.length,Array.length_toList,size_zeroCells,hzs,hds]
        rw[←Nat.add_mul]
        exact Nat.mul_le_mul_right _ (by omega)
       ·obtain⟨u,k1,k2⟩:=src.den i' j' eI (by omega)
        rw[←hds]at k1
        have bg:=(List.getElem?_eq_some_iff.1 k1).1
        have k3:(news++(Builtin.zeroCells z.cells (mW - d.n)).toList)[i'*d.size+j']? =some u:=by rw[List.getElem?_append_left bg];exact k1
        have k4:=k3
        rw[gM _ _ undef (List.getElem?_eq_some_iff.1 k3).1]at k4
        simp only[Option.some.injEq]at k4
        rw[k4]
        exact⟨k3,k2⟩
     ·
      rename_i idx
      simp only[RM.eval]at h1
      split at h1
      ·rename_i c e' ho
       rw[Bool.cond_eq_ite]at h1
       split at h1
       ·rename_i hc
        simp only[Bool.and_eq_true,Nat.beq_eq]at hc
        obtain⟨⟨pe,rfl⟩,_⟩:=hc
        simp only[RM.eval,Option.some.injEq]at h1
        subst h1
        have jl:H base=none:=by simpa using hb 0 (by simp)
        have hsm:(c.n+d.n)*i.bytes≤140737488355328:=hn.1
        have aaD:idx≠base:=fun e=>by rw[←e,ho]at jl;cases jl
        unfold ab ay at hx
        obtain⟨_,o,dd,hv⟩:=hx
        rw[ho]at dd
        cases dd
        obtain rfl:=hv c e' rfl
        obtain⟨olds,uq⟩:=tn (P:=P) (alj hs ho) pe c1
        obtain⟨a,cap,r1,r2,r3,r4⟩:=hs.obj idx _ ho
        have hcd:d.size=c.size:=by omega
        have alk:=mS c d hcd
        have han:=uk c d
        have hmul:(c.n+d.n)*i.size=c.n*i.size+d.n*i.size:=Nat.add_mul _ _ _
        simp only[agd _ _ _ _ aaD]
        by_cases mU:c.n+d.n≤cap
        ·rcases r4 with rfl|⟨b,o,cells,fr,us,rfl,q1,q2,q3,q4⟩
         ·
          have hd0:d.n=0:=by omega
          have jm:news=[]:=List.eq_nil_of_length_eq_zero (by rw[src.length,hd0];simp)
          refine⟨.slice a (c.n+d.n) 0,w,by rw[r1];exact fO ht hi hzero src.len (src.first w rfl) mU (fun x _=>by rw[jm];rfl) (fun _=>rfl), ?_⟩
          have st:=fA (ρ:=ρ) (G:=G) (w:=w) ho
          refine Good.after st (fun b hb=>fo hb) ?_
          rw[←han]
          exact ru (hs.kill ho) (by simp[aB,Ne.symm aaD,jl]) (by omega) a
         ·by_cases wJ:cap=0
          ·subst wJ
           have hd0:d.n=0:=by omega
           have jm:news=[]:=List.eq_nil_of_length_eq_zero (by rw[src.length,hd0];simp)
           refine⟨.slice (some ⟨b,o,none⟩) (c.n+d.n) 0,w,by rw[r1];exact fO ht hi hzero src.len (src.first w rfl) mU (fun x _=>by rw[jm];rfl) (fun _=>rfl), ?_⟩
           have st:=fA (ρ:=ρ) (G:=G) (w:=w) ho
           refine Good.after st (fun b hb=>fo hb) ?_
           rw[←han]
           exact ru (hs.kill ho) (by simp[aB,Ne.symm aaD,jl]) (by omega) _
          ·have lT:eh (ρ idx)=some b:=by rw[r1];simp[eh,wJ]
           have avu:(c.n+d.n)*i.size≤cap*i.size:=Nat.mul_le_mul_right _ mU
           have hlen:o+c.n*i.size+news.length≤cells.length:=by rw[src.length];rw[pe]at q3;omega
           refine⟨.slice (some ⟨b,o,none⟩) (c.n+d.n) cap,World.bZ w b (.cells (cells.take (o+c.n*i.size)++news++cells.drop (o+c.n*i.size+news.length)).toArray e' fr), ?_, ?_⟩
           ·rw[r1]
            refine fO ht hi hzero src.len (src.first w rfl) mU (fun x hx=> ?_) (fun hx=>by cases hx)
            cases hx
            rw[aS]
            have:=bJ (P:=P) (o+c.n*i.size) news 0 q1 q2.unm (by omega) src.one
            simpa using this
           ·rw[←han]
            have xt:(cells.take (o+c.n*i.size)++news++cells.drop (o+c.n*i.size+news.length)).length=cells.length:=by
             simp only[List.length_append,List.length_take,List.length_drop];omega
            have aph:cells.take (o+c.n*i.size)++news++cells.drop (o+c.n*i.size+news.length)=cells.take o++((cells.drop o).take (c.n*i.size)++news++cells.drop (o+c.n*i.size+news.length)):=by
             rw[List.take_add]
             simp only[List.append_assoc]
            have hto:(cells.take o).length=o:=by simp;omega
            refine aru hs ho rfl jl lT q1 (q2.over src.one hlen) (by omega) r3 (by rw[xt,alk];exact q3) (fun i' j'=>(cells.take o++((cells.drop o).take (c.n*i.size)++news++cells.drop (o+c.n*i.size+news.length))).getD ((cells.take o).length+i'*(cX c d).size+j') undef) (fun i' j' eI jx=> ?_)
            have:=ry (O:=aK ρ H G) (w:=w) (c:=c) (d:=d) (size:=i.size) (olds:=(cells.drop o).take (c.n*i.size)) (news:=news) (rest:=cells.drop (o+c.n*i.size+news.length)) pe hds c1 (by simp;omega) src.length (fun i2 j2 hi2 xv=>by
             obtain⟨k1,k2⟩:=q4 i2 j2 hi2 (by omega)
             refine⟨_, ?_,k2⟩
             have hb2:i2*i.size+j2<c.n*i.size:=by
              have:(i2+1)*i.size≤c.n*i.size:=Nat.mul_le_mul_right _ (by omega)
              rw[Nat.succ_mul]at this
              omega
             rw[List.getElem?_take,if_pos hb2,List.getElem?_drop,←Nat.add_assoc]
             rw[pe]at k1
             exact k1) src.den (cells.take o) i' j' eI jx
            rw[aph]
            rw[hto]at this ⊢
            exact this
        ·obtain⟨mW,g1,g2,g3⟩:=mV (ty:=ty) (olds:=olds) (a:=a) (n:=c.n) (cap:=cap) ht hi hz hzero src.len (by rw[←r1];exact uq.first w.drew rfl) (src.first w.drew rfl) mU hsm cb
         refine⟨_,_,by rw[r1];exact g3, ?_⟩
         have st:=fA (ρ:=ρ) (G:=G) (w:=w) ho
         refine Good.after st (fun b hb=>fo hb) ?_
         rw[←han]
         refine lq (w1:=w.drew) (hs.kill ho) rfl rfl rfl rfl (by simp[aB,Ne.symm aaD,jl]) (by omega) g2 ?_ (fun i' j'=>(olds++news++(Builtin.zeroCells z.cells (mW - (cX c d).n)).toList).getD (i'*(cX c d).size+j') undef) (fun i' j' eI jx=> ?_) (fun u hu=>(List.mem_append.1 hu).elim (fun hu=>(List.mem_append.1 hu).elim (uq.one u) (src.one u)) (xu hz1 _ u))
         ·simp only[List.length_append,src.length,uq.length,Array.length_toList,size_zeroCells,hzs,alk,pe,han]
          rw[←Nat.add_mul,←Nat.add_mul]
          exact Nat.mul_le_mul_right _ (by omega)
         ·have:=ry (O:=aK ρ H G) (w:=w) (c:=c) (d:=d) (size:=i.size) (olds:=olds) (news:=news) (rest:=(Builtin.zeroCells z.cells (mW - (cX c d).n)).toList) pe hds c1 uq.length src.length uq.den src.den [] i' j' eI jx
          simp only[List.nil_append,List.length_nil,Nat.zero_add]at this
          exact⟨this.1,this.2.step st.fK st.heap st.size⟩
       ·cases h1
      ·cases h1
     ·
      rename_i idx lo n
      simp only[RM.eval]at h1
      split at h1
      ·rename_i c e' ho
       rw[Bool.cond_eq_ite]at h1
       split at h1
       ·rename_i pe
        have pe:c.size=i.size:=by simpa using pe
        simp only[RM.eval,Option.some.injEq]at h1
        subst h1
        have mU:lo+n+d.n≤c.n:=hn.1
        obtain⟨g0,a,cap,a',g1,g2,g3,rfl,g4,g5⟩:=iM hs ho hx
        obtain⟨w',k1,k2,k3⟩:=pZ (P:=P) hs ho (lo:=lo+n) (k:=d.n) (d:=d) mU (Nat.le_refl _) (by omega) (news:=news) (by rw[src.length,pe]) src.one (fun i' j' eI jx=>by rw[pe]at *;exact src.den i' j' eI jx)
        obtain⟨z1,z2,_⟩:=sn c d mU (Nat.le_refl _)
        refine⟨.slice a' (n+d.n) (cap - lo),w',fO ht hi hzero src.len (src.first w rfl) (by omega) (fun x hx=> ?_) (fun hx=> ?_), ?_⟩
        ·refine k1 a cap _ g1 ?_
         by_cases h0:d.n=0
         ·exact .inl h0
         ·refine .inr ?_
          have ct:cap≠lo:=by omega
          rw[g4 ct]at hx
          obtain⟨b,o,rfl⟩:=g5 (by omega)
          simp only[Option.map_some,aS,Option.some.injEq]at hx ⊢
          subst hx
          rw[aS,pe,Nat.add_mul,Nat.add_assoc]
        ·refine k2 ?_
         by_cases ct:cap=lo
         ·omega
         ·rw[g4 ct]at hx
          obtain⟨b,o,rfl⟩:=g5 (by omega)
          cases hx
        ·simp only[fz]
         refine k3 _ _ (fun w2=> ?_)
         unfold ab ay
         refine⟨rfl,.vec (de c (lo+n) d.n d) e',by simp[aB],fun c1 e1 hc=> ?_⟩
         cases hc
         exact⟨by rw[z1];omega,a,cap,a',by rw[z1];exact g1,by omega,rfl,by rw[z2];exact g4⟩
       ·cases h1
      ·cases h1
     ·cases h1
    ·cases h1
   ·cases h
  ·cases h
 ·cases h
end
end Go.Sx
namespace Go.Sx
open Go
section
variable{P:Program}{w:World}{b:Nat}{es:Array MapEntry}{clock:Nat}{ck:CK}{m:List (Int×ck.V)}
theorem iJ.get(h:iJ ck m es.toList clock){j:Nat}{e:MapEntry}(hj:es.toList[j]? =some e):∃k v,m[j]? =some (k,v)∧e.key=.int .i64 k∧e.val=ck.val v:=by
 have h1:=congrArg (fun l=>l[j]?) h.eq
 simp only[List.getElem?_map,hj,Option.map_some]at h1
 cases hm:m[j]? with
 |none=>rw[hm]at h1;cases h1
 |some p=>
  rw[hm]at h1
  simp only[Option.map_some,Option.some.injEq,Prod.mk.injEq]at h1
  exact⟨p.1,p.2,rfl,h1.1,h1.2⟩
theorem iJ.key(h:iJ ck m es.toList clock):∀e∈es.toList,MapKept.IsKey (.int .i64) e.key:=by
 intro e he
 obtain⟨j,hj⟩:=List.getElem?_of_mem he
 obtain⟨k,v,_,h2,_⟩:=h.get hj
 rw[h2];rfl
theorem pf{V:Type}:∀{m:List (Int×V)} {j:Nat} {k:Int} {v:V},(m.map (·.1)).Nodup→m[j]? =some (k,v)→m.find? (fun p=>p.1==k)=some (k,v)
 |[],j,k,v,_,h=>by simp at h
 |p::m,0,k,v,hn,h=>by
  simp only[List.getElem?_cons_zero,Option.some.injEq]at h
  subst h
  simp
 |p::m,j+1,k,v,hn,h=>by
  simp only[List.getElem?_cons_succ]at h
  simp only[List.map_cons,List.nodup_cons]at hn
  have ct:(p.1==k)=false:=by
   rw[beq_eq_false_iff_ne]
   rintro rfl
   exact hn.1 (List.mem_map.2 ⟨_,List.mem_of_getElem? h,rfl⟩)
  rw[List.find?_cons,ct]
  exact pf hn.2 h
theorem agq{V:Type}{m:List (Int×V)}{k:Int}(h:∀p∈m,p.1≠k):m.find? (fun p=>p.1==k)=none:=
 List.find?_eq_none.2 fun p hp=>by simpa using h p hp
theorem iJ.find(h:iJ ck m es.toList clock){kt:TypeId}(hk:P.underlying kt=some (.int .i64))(n:Int):
 ((Instr.findKey kt (.int .i64 n) es.toList).run P w=.ok none w∧fJ m n=none∧oQ m n=false)∨
 ∃j e v,(Instr.findKey kt (.int .i64 n) es.toList).run P w=.ok (some (j,ck.val v)) w∧es.toList[j]? =some e∧e.key=.int .i64 n∧e.val=ck.val v∧m[j]? =some (n,v)∧fJ m n=some v∧oQ m n=true:=by
 rcases MapKept.findNow_spec (d:=.int .i64) (k:=.int .i64 n) rfl es.toList 0 h.key with⟨h1,h2⟩|⟨j,e,h1,h2,h3⟩
 ·have uo:∀p∈m,p.1≠n:=by
   intro p hp e
   obtain⟨j,hj⟩:=List.getElem?_of_mem hp
   have hlen:es.toList.length=m.length:=by have:=congrArg List.length h.eq;simpa using this
   have bg:j<es.toList.length:=by rw[hlen];exact(List.getElem?_eq_some_iff.1 hj).1
   obtain⟨k,v,g1,g2,_⟩:=h.get (List.getElem?_eq_getElem bg)
   rw[hj]at g1
   cases g1
   exact h2 _ (List.getElem_mem bg) (by rw[g2];exact congrArg _ e)
  refine .inl ⟨MapKept.run_findKey hk h1,by simp[fJ,agq uo], ?_⟩
  simp only[oQ,List.any_eq_false,beq_iff_eq]
  exact uo
 ·obtain⟨k,v,g1,g2,g3⟩:=h.get h2
  rw[h3]at g2
  cases g2
  rw[Nat.zero_add]at h1
  refine .inr ⟨j,e,v,by rw[←g3];exact MapKept.run_findKey hk h1,h2,h3,g3,g1,by simp[fJ,pf h.keys g1], ?_⟩
  simp only[oQ,List.any_eq_true,beq_iff_eq]
  exact⟨_,List.mem_of_getElem? g1,rfl⟩
theorem ac5(h:iJ ck m es.toList clock)(hb:w.heap[b]? =some (.map es clock)){t kt et:TypeId}(ht:P.underlying t=some (.map kt et))(hk:P.underlying kt=some (.int .i64)){z:Value}(hz:(zeroValue et).run P w=.ok z w)(n:Int)(ok:Bool):
 (Instr.lookup t (.map (some b)) (.int .i64 n) ok).run P w=.ok (if ok=true then .tuple #[((fJ m n).map ck.val).getD z,.bool (oQ m n)]else((fJ m n).map ck.val).getD z) w:=by
 have hc:=MapKept.run_checkKey (w:=w) hk (k:=.int .i64 n) rfl es.isEmpty 9999
 rcases h.find (w:=w) hk n with⟨h1,h2,h3⟩|⟨j,e,v,h1,_,_,_,_,h2,h3⟩
 ·simp[Instr.lookup,run_underlying ht,MapKept.run_getObj_map hb,hc,h1,h2,h3,hz,Result.andThen]
 ·simp[Instr.lookup,run_underlying ht,MapKept.run_getObj_map hb,hc,h1,h2,h3,Result.andThen]
theorem stays(n:Int):(Instr.keyThatStays (.int .i64 n) (.int .i64 n)).run P w=.ok (.int .i64 n) w:=by
 simp[Instr.keyThatStays,Instr.sameBits]
theorem p7(m:List (Int×ck.V))(k:Int)(v:ck.V):((m.map fun p=>if p.1==k then(k,v)else p).map (·.1))=m.map (·.1):=by
 rw[List.map_map]
 refine List.map_congr_left fun p _=> ?_
 simp only[Function.comp]
 by_cases h:p.1==k
 ·rw[if_pos h];exact(beq_iff_eq.1 h).symm
 ·rw[if_neg h]
theorem iJ.put(h:iJ ck m es.toList clock){n:Int}{v:ck.V}(hv:ck.fits v):
 (oQ m n=false→iJ ck (mr m n v) (es.push {key:=.int .i64 n,val:=ck.val v,born:=clock}).toList (clock+1))∧
 ∀(j:Nat) (e:MapEntry),es.toList[j]? =some e→e.key=.int .i64 n→oQ m n=true→
  iJ ck (mr m n v) (es.modify j fun e=>{e with key:=.int .i64 n,val:=ck.val v}).toList clock:=by
 constructor
 ·intro uo
  have aue:∀p∈m,p.1≠n:=by simpa[oQ]using uo
  unfold mr
  rw[if_neg (by rw[uo];simp)]
  refine⟨?_, ?_, ?_, ?_, ?_⟩
  ·simp only[Array.toList_push,List.map_append,h.eq,List.map_cons,List.map_nil]
  ·rw[List.map_append,List.nodup_append]
   refine⟨h.keys,by simp,fun a ha b hb=> ?_⟩
   simp only[List.map_cons,List.map_nil,List.mem_singleton]at hb
   obtain⟨p,hp,rfl⟩:=List.mem_map.1 ha
   rw[hb];exact aue p hp
  ·rw[Array.toList_push,List.map_append,List.nodup_append]
   refine⟨h.xj,by simp,fun a ha b hb=> ?_⟩
   simp only[List.map_cons,List.map_nil,List.mem_singleton]at hb
   obtain⟨e,he,rfl⟩:=List.mem_map.1 ha
   have:=h.old e he
   omega
  ·intro e he
   rw[Array.toList_push,List.mem_append]at he
   rcases he with he|he
   ·have:=h.old e he;omega
   ·rw[List.mem_singleton.1 he];exact Nat.lt_succ_self _
  ·intro p hp
   rcases List.mem_append.1 hp with hp|hp
   ·exact h.fits p hp
   ·rw[List.mem_singleton.1 hp];exact hv
 ·intro j e hj he auf
  obtain⟨k,u,g1,g2,g3⟩:=h.get hj
  rw[he]at g2
  cases g2
  have bg:j<es.toList.length:=(List.getElem?_eq_some_iff.1 hj).1
  unfold mr
  rw[if_pos auf]
  have aug:(es.modify j fun e=>{e with key:=.int .i64 n,val:=ck.val v}).toList=es.toList.set j {e with key:=.int .i64 n,val:=ck.val v}:=by
   refine List.ext_getElem? fun i=> ?_
   simp only[Array.toList_modify,List.getElem?_modify,List.getElem?_set]
   by_cases kN:j=i
   ·subst kN
    have apd:j<es.size:=by simpa using bg
    rw[hj]
    simp[apd]
   ·simp[kN]
  rw[aug]
  have mP:(m.map fun p=>if p.1==n then(n,v)else p)=m.set j (n,v):=by
   refine List.ext_getElem? fun i=> ?_
   rw[List.getElem?_map,List.getElem?_set]
   by_cases kN:j=i
   ·subst kN
    have auh:j<m.length:=(List.getElem?_eq_some_iff.1 g1).1
    rw[g1]
    simp[auh]
   ·rw[if_neg kN]
    cases hm:m[i]? with
    |none=>rfl
    |some p=>
     have ct:(p.1==n)=false:=by
      rw[beq_eq_false_iff_ne]
      intro e1
      obtain⟨hi1,hi2⟩:=List.getElem?_eq_some_iff.1 hm
      obtain⟨hj1,xv⟩:=List.getElem?_eq_some_iff.1 g1
      refine kN ((List.getElem_inj (h₀:=by simpa using hj1) (h₁:=by simpa using hi1) h.keys).1 ?_)
      simp only[List.getElem_map,hi2,xv,e1]
     rw[Option.map_some,ct];rfl
  refine⟨?_,by rw[p7];exact h.keys, ?_, ?_, ?_⟩
  ·rw[mP,List.map_set,List.map_set,h.eq]
  ·rw[List.map_set]
   have:(es.toList.map (·.born)).set j e.born=es.toList.map (·.born):=by
    refine List.ext_getElem? fun i=> ?_
    rw[List.getElem?_set]
    by_cases kN:j=i
    ·subst kN
     rw[if_pos rfl,if_pos (by simpa using bg),List.getElem?_map,hj];rfl
    ·rw[if_neg kN]
   rw[this];exact h.xj
  ·intro x hx
   rcases List.mem_or_eq_of_mem_set hx with hx|rfl
   ·exact h.old x hx
   ·exact h.old e (List.mem_of_getElem? hj)
  ·intro p hp
   obtain⟨q,hq,rfl⟩:=List.mem_map.1 hp
   split
   ·exact hv
   ·exact h.fits q hq
theorem wL(h:iJ ck m es.toList clock)(hb:w.heap[b]? =some (.map es clock)){t kt et:TypeId}(ht:P.underlying t=some (.map kt et))(hk:P.underlying kt=some (.int .i64))(n:Int){v:ck.V}(hv:ck.fits v):
 ∃lr ur,(Instr.mapUpdate t (.map (some b)) (.int .i64 n) (ck.val v)).run P w=.ok () {w with heap:=w.heap.setIfInBounds b (.map lr ur)}∧iJ ck (mr m n v) lr.toList ur:=by
 have hc:=MapKept.run_checkKey (w:=w) hk (k:=.int .i64 n) rfl false 9999
 rcases h.find (w:=w) hk n with⟨h1,h2,h3⟩|⟨j,e,u,h1,g1,g2,g3,g4,h2,h3⟩
 ·exact⟨_,_,by simp[Instr.mapUpdate,run_underlying ht,MapKept.run_getObj_map hb,hc,h1,Result.andThen,MapKept.run_setObj_map _ hb],(h.put hv).1 h3⟩
 ·have aui:((es[j]?).map (·.key)).getD (.int .i64 n)=.int .i64 n:=by
   rw[show es[j]? =some e from by rw[←Array.getElem?_toList];exact g1]
   exact g2
  refine⟨_,_, ?_,(h.put hv).2 j e g1 g2 h3⟩
  simp[Instr.mapUpdate,run_underlying ht,MapKept.run_getObj_map hb,hc,h1,Result.andThen,MapKept.run_setObj_map _ hb,aui,stays]
end
end Go.Sx
namespace Go.Sx
open Go
section
variable{ρ az:Nat→Value}{H H':aG}{G O O':Nat→Prop}{w w':World}{P:Program}
theorem aaE{t:TypeId}(h:aei P t=true):P.underlying t=some (.int .i64):=by
 unfold aei at h
 split at h
 ·assumption
 ·cases h
theorem agr{t:TypeId}{ck:CK}(h:tQ P t ck=true):(zeroValue t).run P w=.ok (ck.val ck.d) w∧ck.fits ck.d:=by
 have key:∀v,(P.info? t).bind (·.zero)=some v→(zeroValue t).run P w=.ok v w:=by
  intro v hv
  obtain⟨i,h1,h2⟩:=Option.bind_eq_some_iff.1 hv
  simp[zeroValue,typeInfo,h1,h2]
 unfold tQ at h
 rw[Bool.and_eq_true]at h
 replace h:=h.2
 split at h
 ·rename_i k' k hz
  obtain rfl:=aX h
  exact⟨key _ hz,trivial⟩
 ·rename_i hz;exact⟨key _ hz,trivial⟩
 ·rename_i s hz
  have:s=ByteArray.empty:=by
   have:=Nat.eq_of_beq_eq_true h
   obtain⟨⟨l⟩⟩:=s
   cases l with
   |nil=>rfl
   |cons a l=>simp[ByteArray.size]at this
  subst this
  exact⟨key _ hz,trivial⟩
 ·rename_i cs k n hz
  simp only[Bool.and_eq_true]at h
  have h1:=mR k _ h.1
  have h2:=Nat.eq_of_beq_eq_true h.2
  refine⟨?_,by show(List.replicate n (0:Int)).length=n;simp⟩
  rw[key _ hz]
  congr 1
  show Value.agg cs=.agg ((List.replicate n (0:Int)).map (Value.int k)).toArray
  rw[←h2,←h1]
 ·cases h
theorem ac6{ck:CK}{v:ck.V}(h:ck.fits v)(hp:ck.av v≠.s .aQ):ab ρ H O w (ck.av v) (ck.val v):=by
 cases ck with
 |int k=>exact aq (.int _ _)
 |bool=>exact aq (.bool _)
 |str=>exact aq (.str _)
 |arr k n=>
  show ab ρ H O w (.ints k n v) _
  unfold ab
  exact⟨h,rfl⟩
 |_=>exact(hp rfl).elim
theorem p8{t:TypeId}{ck:CK}(h:tQ P t ck=true)(v:ck.V):ck.av v≠.s .aQ:=by
 unfold tQ at h
 rw[Bool.and_eq_true]at h
 replace h:=h.1
 cases ck<;>first
  |(cases h;done)
  |(intro e;cases e;done)
theorem yX(hs:Sat ρ H G w){id b:Nat}{ck:CK}{m:List (Int×ck.V)}(ho:H id=some (.map ck m))(hb:ρ id=.map (some b)):∃es clock,w.heap[b]? =some (.map es clock)∧iJ ck m es.toList clock:=by
 obtain⟨b',es,clock,h1,h2,h3⟩:=hs.obj id _ ho
 rw[hb]at h1
 cases h1
 exact⟨es,clock,h2,h3⟩
theorem ags{ck:CK}{m:List (Int×ck.V)}(h:∀p∈m,ck.fits p.2){n:Int}{v:ck.V}(hv:fJ m n=some v):ck.fits v:=by
 simp only[fJ,Option.map_eq_some_iff]at hv
 obtain⟨p,hp,rfl⟩:=hv
 exact h p (List.mem_of_find?_eq_some hp)
theorem ac7{t:TypeId}{x i:AV}{ok:Bool}{vx vi:Value}{q:bx}(h:(yE P t x i ok).eval H=some q)(hn:bt q.need)(hs:Sat ρ H G w)(hx:ab ρ H (aK ρ H G) w x vx)(hi:ab ρ H (aK ρ H G) w i vi):
 eV P ρ H (aK ρ H G) w q (Instr.lookup t vx vi ok):=by
 unfold yE at h
 split at h
 ·rename_i kt et id k lit n ht mN
  rw[Bool.cond_eq_ite]at h
  split at h
  ·rename_i hk
   simp only[Bool.and_eq_true]at hk
   obtain rfl:=mJ hk.2
   obtain rfl:=bR mN hi
   simp only[RM.eval]at h
   split at h
   ·rename_i ck m ho
    rw[Bool.cond_eq_ite]at h
    split at h
    ·rename_i hz
     unfold ab ay at hx
     obtain⟨b,hb,rfl,_⟩:=hx
     obtain⟨es,clock,h1,h2⟩:=yX hs ho hb
     obtain⟨hz1,hz2⟩:=agr (w:=w) hz
     have jc:=ac5 h2 h1 ht (aaE hk.1) hz1 n ok
     have kj:ab ρ H (aK ρ H G) w (ck.av ((fJ m n).getD ck.d)) (((fJ m n).map ck.val).getD (ck.val ck.d)):=by
      cases hg:fJ m n with
      |none=>exact ac6 hz2 (p8 hz _)
      |some v=>exact ac6 (ags h2.fits hg) (p8 hz _)
     refine ax h (fun _=>⟨_,jc, ?_⟩) hn
     cases ok
     ·exact kj
     ·simp only[cond_true,if_true]
      unfold ab
      exact⟨[_,_],rfl,aw.2 ⟨_,_,rfl,kj,aw.2 ⟨_,_,rfl,aq (.bool _),aV.2 rfl⟩⟩⟩
    ·cases h
   ·cases h
  ·cases h
 ·cases h
theorem api{ck:CK}{a:AV}{y:ck.V}{v:Value}(h:ck.rdv a=some y)(hd:ab ρ H O w a v):v=ck.val y∧ck.fits y:=by
 cases ck with
 |int k=>
  simp only[CK.rdv]at h
  split at h
  ·rw[Bool.cond_eq_ite]at h
   split at h
   ·rename_i hk;obtain rfl:=aX hk;cases h
    have:=ah (by simp) hd
    cases this;exact⟨rfl,trivial⟩
   ·cases h
  ·rw[Bool.cond_eq_ite]at h
   split at h
   ·rename_i hk;obtain rfl:=aX hk;cases h
    have:=ah (by simp) hd
    cases this;exact⟨rfl,trivial⟩
   ·cases h
  ·cases h
 |bool=>
  simp only[CK.rdv]at h
  split at h
  ·cases h
   have:=ah (by simp) hd
   cases this;exact⟨rfl,trivial⟩
  ·cases h
   have:=ah (by simp) hd
   cases this;exact⟨rfl,trivial⟩
  ·cases h
 |str=>
  simp only[CK.rdv]at h
  split at h
  ·cases h
   have:=ah (by simp) hd
   cases this;exact⟨rfl,trivial⟩
  ·cases h
 |arr k n=>
  simp only[CK.rdv]at h
  split at h
  ·rw[Bool.cond_eq_ite]at h
   split at h
   ·rename_i hk
    simp only[Bool.and_eq_true]at hk
    obtain rfl:=aX hk.1
    obtain rfl:=Nat.eq_of_beq_eq_true hk.2
    cases h
    unfold ab at hd
    exact⟨hd.2,hd.1⟩
   ·cases h
  ·cases h
 |_=>cases h
theorem oE{t:TypeId}{x i a:AV}{vx vi va:Value}{q:bx}(h:(o8 P t x i a).eval H=some q)(hs:Sat ρ H G w)(hx:ab ρ H (aK ρ H G) w x vx)(hi:ab ρ H (aK ρ H G) w i vi)(ha:ab ρ H (aK ρ H G) w a va):
 ∃w',(Instr.mapUpdate t vx vi va).run P w=.ok () w'∧∀base,Good ρ H G w (cZ H q.up base q.new) (q.r base) undef w':=by
 unfold o8 at h
 split at h
 ·rename_i kt et id k lit n ht mN
  rw[Bool.cond_eq_ite]at h
  split at h
  ·rename_i hk
   simp only[Bool.and_eq_true]at hk
   obtain rfl:=mJ hk.2
   obtain rfl:=bR mN hi
   simp only[RM.eval]at h
   split at h
   ·rename_i ck m ho
    split at h
    ·rename_i y hy
     simp only[RM.eval,Option.some.injEq]at h
     subst h
     obtain⟨rfl,hf⟩:=api hy ha
     unfold ab ay at hx
     obtain⟨b,hb,rfl,_⟩:=hx
     obtain⟨es,clock,h1,h2⟩:=yX hs ho hb
     obtain⟨lr,ur,h3,h4⟩:=wL h2 h1 ht (aaE hk.1) n hf
     refine⟨_,h3,fun base=> ?_⟩
     simp only[fz]
     exact Good.write hs ho rfl rfl (by rw[hb];rfl) (fun _ _ hc=>by cases hc) ⟨b,lr,ur,hb,eJ h1,h4⟩ cD
    ·cases h
   ·cases h
  ·cases h
 ·cases h
theorem aaF{t:TypeId}{r:Option AV}{q:bx}(h:(tT P t r).eval H=some q)(hs:Sat ρ H G w){base:Nat}(hb:∀i,i<q.new.length→H (base+i)=none):
 r=none∧∃v w',(Instr.makeMap t none).run P w=.ok v w'∧Good ρ H G w (cZ H q.up base q.new) (q.r base) v w':=by
 unfold tT at h
 split at h
 ·split at h
  ·rename_i ck _
   simp only[RM.eval,Option.some.injEq]at h
   subst h
   have hn:H base=none:=by simpa using hb 0 (by simp)
   refine⟨rfl,.map (some w.heap.size),w.alloc (.map #[] 0),RowKit.run_makeMap .., ?_⟩
   simp only[iN]
   refine Good.fresh hs hn (root:=.map (some w.heap.size)) (w1:=w) rfl rfl rfl rfl (fun b hb=>by simpa[eh]using hb.symm) ⟨w.heap.size,#[],0,rfl,(MapKept.heap_alloc w _).1,⟨rfl,by simp,by simp,by simp,by simp⟩⟩ ?_
   unfold ab ay
   exact⟨w.heap.size,by simp,rfl,by simp[aB]⟩
  ·cases h
 ·cases h
end
end Go.Sx
