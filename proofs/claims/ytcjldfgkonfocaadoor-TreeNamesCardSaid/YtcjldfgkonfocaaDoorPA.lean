/- Lemmas: SxKind, SxBase, SxExec, SxPure, SxSat, SxMem, SxHeap, SxLoad, SxRead, SxSlice, SxStore, SxNew, SxBuild, SxBuild2, SxAppend, SxOver, SxAppend2, SxMap, SxMapOp. -/
import Derived.WalkKit
import Derived.WalkSpells
import Derived.MapKept
import Derived.Carry
namespace Go.Sx
open Go
inductive CK where
 |int (k:IntKind)
 |bool
 |str
 |ints (k:IntKind)
 |strs
 |bR
 |rows (cs:List CK)
 |arr (k:IntKind) (n:Nat)
mutual
def CK.V:CK→Type
 |.int _=>Int
 |.bool=>Bool
 |.str=>ByteArray
 |.ints _=>List Int
 |.strs=>List ByteArray
 |.bR=>List Bool
 |.rows cs=>List (CL cs)
 |.arr _ _=>List Int
def CL:List CK→Type
 |[]=>Unit
 |c::cs=>c.V×CL cs
end
def CK.d:(c:CK)→c.V
 |.int _=>(0:Int)
 |.bool=>false
 |.str=>ByteArray.empty
 |.ints _=>([]:List Int)
 |.strs=>([]:List ByteArray)
 |.bR=>([]:List Bool)
 |.rows cs=>([]:List (CL cs))
 |.arr _ n=>List.replicate n (0:Int)
def CL.d:(cs:List CK)→CL cs
 |[]=>()
 |c::cs=>(c.d,CL.d cs)
def CK.wide:CK→Nat
 |.arr _ n=>n
 |_=>1
def CL.wide:List CK→Nat
 |[]=>0
 |c::cs=>c.wide+CL.wide cs
def kEq(a b:IntKind):Option (PLift (a=b)):=if h:a=b then some ⟨h⟩else none
mutual
def CK.eq:(a b:CK)→Option (PLift (a=b))
 |.int k,.int k'=>(kEq k k').map fun h=>⟨congrArg CK.int h.down⟩
 |.bool,.bool=>some ⟨rfl⟩
 |.str,.str=>some ⟨rfl⟩
 |.ints k,.ints k'=>(kEq k k').map fun h=>⟨congrArg CK.ints h.down⟩
 |.strs,.strs=>some ⟨rfl⟩
 |.bR,.bR=>some ⟨rfl⟩
 |.rows a,.rows b=>(CL.eq a b).map fun h=>⟨congrArg CK.rows h.down⟩
 |.arr k n,.arr k' n'=>if h:n=n' then(kEq k k').map fun h'=>⟨by rw[h,h'.down]⟩else none
 |_,_=>none
def CL.eq:(a b:List CK)→Option (PLift (a=b))
 |[],[]=>some ⟨rfl⟩
 |a::aG,b::bs=>match CK.eq a b,CL.eq aG bs with
  |some h,some h'=>some ⟨by rw[h.down,h'.down]⟩
  |_,_=>none
 |_,_=>none
end
def aav{a b:List CK}(h:PLift (a=b))(xs:List (CL a)):List (CL b):=h.down▸xs
def fO{V:Type}(m:List (Int×V))(k:Int):Option V:=(m.find? fun p=>p.1==k).map (·.2)
def pd{V:Type}(m:List (Int×V))(k:Int):Bool:=m.any fun p=>p.1==k
def my{V:Type}(m:List (Int×V))(k:Int)(v:V):List (Int×V):=if pd m k=true then m.map fun p=>if p.1==k then(k,v)else p else m++[(k,v)]
theorem xo{a:List CK}(h:PLift (a=a))(xs:List (CL a)):aav h xs=xs:=rfl
end Go.Sx
namespace Go.Sx
open Go
mutual
inductive SV where
 |aQ
 |bool (b:Bool)
 |aA (b:Bool)
 |lV (n:Nat) (eq:Bool)
 |yJ (k:IntKind)
 |int (k:IntKind) (n:Int)
 |aV (k:IntKind) (n:Int)
 |str (s:ByteArray)
 |fU
 |acC
 |acD
 |acE
 |pe
 |kV (f:FuncId)
 |ifi (t:TypeId) (k:IntKind) (n:Int)
 |ifs (t:TypeId) (s:ByteArray)
 |ifb (t:TypeId) (b:Bool)
 |raw (v:Value) (zs:List Int)
 |ro (c:aI)
 |yK (c:aI) (k:Nat)
 |mj (k:Nat)
 |oN (k:Nat)
inductive aI where
 |ints (k:IntKind) (zs:List Int)
 |strs (ss:List ByteArray)
 |bR (bs:List Bool)
 |ae (cs:List CK) (xs:List (CL cs))
 |ei (size n:Nat) (get:Nat→Nat→SV)
end
def aI.n:aI→Nat
 |.ints _ zs=>zs.length
 |.strs ss=>ss.length
 |.bR bs=>bs.length
 |.ae _ xs=>xs.length
 |.ei _ n _=>n
def aI.size:aI→Nat
 |.ints .. |.strs _|.bR _=>1
 |.ae cs _=>CL.wide cs
 |.ei s _ _=>s
def CK.cell:(c:CK)→c.V→Nat→SV
 |.int k,x,_=>.int k x
 |.bool,x,_=>.bool x
 |.str,x,_=>.str x
 |.ints k,x,_=>.ro (.ints k x)
 |.strs,x,_=>.ro (.strs x)
 |.bR,x,_=>.ro (.bR x)
 |.rows cs,x,_=>.ro (.ae cs x)
 |.arr k _,x,j=>.int k (List.getD (α:=Int) x j 0)
def CL.cell:(cs:List CK)→CL cs→Nat→SV
 |[],_,_=>.aQ
 |c::cs,x,j=>bif j.blt c.wide then c.cell x.1 j else CL.cell cs x.2 (j - c.wide)
def aI.cell:aI→Nat→Nat→SV
 |.ints k zs,i,_=>.int k (zs.getD i 0)
 |.strs ss,i,_=>.str (ss.getD i ByteArray.empty)
 |.bR bs,i,_=>.bool (bs.getD i false)
 |.ae cs xs,i,j=>CL.cell cs (xs.getD i (CL.d cs)) j
 |.ei _ _ get,i,j=>get i j
inductive AV where
 |s (v:SV)
 |ptr (id off:Nat)
 |jQ (id off n i:Nat)
 |jx (c:aI) (i j:Nat)
 |vec (id:Nat)
 |gj (id i j:Nat)
 |part (id lo n:Nat)
 |sub (id off n:Nat)
 |ko (id i j n:Nat)
 |emp
 |agg (an:List AV)
 |ints (k:IntKind) (n:Nat) (ws:List Int)
 |bo (vs:List AV)
 |fn (f:FuncId) (ey:List AV)
 |ag (id:Nat)
 |tag (id:Nat)
inductive ad where
 |own (an:List AV) (elem:TypeId)
 |vec (c:aI) (elem:TypeId)
 |map (ck:CK) (m:List (Int×ck.V))
 |wK (ck:CK) (m:List (Int×ck.V)) (gid:Nat)
 |iter (mid gid:Nat) (ck:CK) (left:List (Int×ck.V)) (cur:Option (Int×ck.V))
 |dead
abbrev aJ:=Nat→Option ad
def ad.alive:ad→Bool
 |.dead=>false
 |_=>true
def er:Value→Option Nat
 |.pointer (some a)=>some a.block
 |.slice (some a) _ cap=>if cap=0 then none else some a.block
 |.map (some b)=>some b
 |_=>none
def Own(ρ:Nat→Value)(H:aJ)(b:Nat):Prop:=∃id o,H id=some o∧o.alive=true∧er (ρ id)=some b
def aN(ρ:Nat→Value)(H:aJ)(G:Nat→Prop)(b:Nat):Prop:=Own ρ H b∨G b
inductive aR (O:Nat→Prop) (w:World):SV→Value→Prop
 |aQ (v:Value):v.oneCell'=true→aR O w .aQ v
 |bool (b:Bool):aR O w (.bool b) (.bool b)
 |aA (b:Bool):aR O w (.aA b) (.bool b)
 |lV (n:Nat) (eq b:Bool):(b=eq→n=0)→aR O w (.lV n eq) (.bool b)
 |yJ (k:IntKind) (n:Int):aR O w (.yJ k) (.int k n)
 |int (k:IntKind) (n:Int):aR O w (.int k n) (.int k n)
 |aV (k:IntKind) (n:Int):aR O w (.aV k n) (.int k n)
 |str (s:ByteArray):aR O w (.str s) (.string s)
 |fU:aR O w .fU (.pointer none)
 |acC:aR O w .acC .nilIface
 |acD:aR O w .acD .nilFunc
 |acE:aR O w .acE (.map none)
 |pe:aR O w .pe (.slice none 0 0)
 |kV (f:FuncId):aR O w (.kV f) (.func (.func f) #[] #[])
 |ifi (t:TypeId) (k:IntKind) (n:Int):aR O w (.ifi t k n) (.iface t (.int k n))
 |ifs (t:TypeId) (s:ByteArray):aR O w (.ifs t s) (.iface t (.string s))
 |ifb (t:TypeId) (b:Bool):aR O w (.ifb t b) (.iface t (.bool b))
 |raw (v:Value) (zs:List Int):v.oneCell'=true→aR O w (.raw v zs) v
 |ro (c:aI) (a:Option Addr) (cap:Nat) (us:Nat→Nat→Value) (b o:Nat):c.n≤cap→cap≤maxLen→
  (0<c.n→a=some ⟨b,o,none⟩∧¬O b∧b<w.heap.size)→
  (∀i j,i<c.n→j<c.size→w.cell? ⟨b,o+i*c.size+j,none⟩=some (us i j))→
  (∀i j,i<c.n→j<c.size→aR O w (c.cell i j) (us i j))→aR O w (.ro c) (.slice a c.n cap)
 |yK (c:aI) (k:Nat) (a:Option Addr) (n cap:Nat):aR O w (.ro c) (.slice a n cap)→cap<k→aR O w (.yK c k) (.slice a n cap)
 |mj (k:Nat) (n:Int):(k:Int)≤n→aR O w (.mj k) (.int .i64 n)
 |oN (k:Nat) (n:Int):n<(k:Int)→aR O w (.oN k) (.int .i64 n)
mutual
def az(ρ:Nat→Value)(H:aJ)(O:Nat→Prop)(w:World):AV→Value→Prop
 |.s x,v=>aR O w x v
 |.ptr id off,v=>∃b,ρ id=.pointer (some ⟨b,0,none⟩)∧v=.pointer (some ⟨b,off,none⟩)∧(H id).isSome=true
 |.jQ id off n i,v=>i<n∧∃b,ρ id=.pointer (some ⟨b,0,none⟩)∧v=.pointer (some ⟨b,off+i,none⟩)∧(H id).isSome=true
 |.jx c i j,v=>∃(b o:Nat) (us:Nat→Value),v=.pointer (some ⟨b,o+j,none⟩)∧¬O b∧b<w.heap.size∧
  (∀l,l<c.size→w.cell? ⟨b,o+l,none⟩=some (us l)∧aR O w (c.cell i l) (us l))
 |.vec id,v=>v.oneCell'=true∧∃o,H id=some o∧∀c e,o=.vec c e→v=ρ id
 |.gj id i j,v=>v.oneCell'=true∧∃o,H id=some o∧∀c e,o=.vec c e→i<c.n∧j<c.size∧
  ∃b f n cap,ρ id=.slice (some ⟨b,f,none⟩) n cap∧v=.pointer (some ⟨b,f+i*c.size+j,none⟩)
 |.part id lo n,v=>v.oneCell'=true∧∃o,H id=some o∧∀c e,o=.vec c e→lo+n≤c.n∧
  ∃a cap a',ρ id=.slice a c.n cap∧c.n≤cap∧v=.slice a' n (cap - lo)∧(cap≠lo→a'=a.map (·.add (lo*c.size)))
 |.sub id off n,v=>v.oneCell'=true∧∃b a cap,ρ id=.pointer (some ⟨b,0,none⟩)∧v=.slice a n cap∧(n≠0→a=some ⟨b,off,none⟩)∧(H id).isSome=true
 |.ko id i j n,v=>v.oneCell'=true∧∃o,H id=some o∧∀c e,o=.vec c e→i<c.n∧j+n≤c.size∧
  ∃b f n' cap a af3,ρ id=.slice (some ⟨b,f,none⟩) n' cap∧v=.slice a n af3∧(n≠0→a=some ⟨b,f+i*c.size+j,none⟩)
 |.emp,v=>∃a,v=.slice a 0 0
 |.fn f ey,v=>∃vs:List Value,v=.func (.func f) #[] vs.toArray∧bE ρ H O w ey vs
 |.agg _,_=>False
 |.ints _ _ _,_=>False
 |.bo _,_=>False
 |.ag id,v=>∃b,ρ id=.map (some b)∧v=.map (some b)∧(H id).isSome=true
 |.tag id,v=>v=ρ id∧v.oneCell'=true∧(H id).isSome=true
def bE(ρ:Nat→Value)(H:aJ)(O:Nat→Prop)(w:World):List AV→List Value→Prop
 |[],vs=>vs=[]
 |a::aG,vs=>∃v rest,vs=v::rest∧ab ρ H O w a v∧bE ρ H O w aG rest
def ao(ρ:Nat→Value)(H:aJ)(O:Nat→Prop)(w:World):List AV→List Value→Prop
 |[],cs=>cs=[]
 |a::aG,cs=>∃c1 c2,cs=c1++c2∧aK ρ H O w a c1∧ao ρ H O w aG c2
def aK(ρ:Nat→Value)(H:aJ)(O:Nat→Prop)(w:World):AV→List Value→Prop
 |.agg _,_=>False
 |.ints k n ws,cs=>ws.length=n∧cs=ws.map (Value.int k)
 |.s x,cs=>∃u,cs=[u]∧aR O w x u
 |.ptr id off,cs=>∃u,cs=[u]∧az ρ H O w (.ptr id off) u
 |.jQ id off n i,cs=>∃u,cs=[u]∧az ρ H O w (.jQ id off n i) u
 |.jx c i j,cs=>∃u,cs=[u]∧az ρ H O w (.jx c i j) u
 |.vec id,cs=>∃u,cs=[u]∧az ρ H O w (.vec id) u
 |.gj id i j,cs=>∃u,cs=[u]∧az ρ H O w (.gj id i j) u
 |.part id lo n,cs=>∃u,cs=[u]∧az ρ H O w (.part id lo n) u
 |.sub id off n,cs=>∃u,cs=[u]∧az ρ H O w (.sub id off n) u
 |.ko id i j n,cs=>∃u,cs=[u]∧az ρ H O w (.ko id i j n) u
 |.emp,cs=>∃u,cs=[u]∧∃a,u=.slice a 0 0
 |.fn f ey,cs=>∃u,cs=[u]∧∃vs:List Value,u=.func (.func f) #[] vs.toArray∧bE ρ H O w ey vs
 |.bo _,_=>False
 |.ag id,cs=>∃u,cs=[u]∧az ρ H O w (.ag id) u
 |.tag id,cs=>∃u,cs=[u]∧az ρ H O w (.tag id) u
def ab(ρ:Nat→Value)(H:aJ)(O:Nat→Prop)(w:World):AV→Value→Prop
 |.agg an,v=>∃cs:List Value,v=.agg cs.toArray∧ao ρ H O w an cs
 |.ints k n ws,v=>ws.length=n∧v=.agg (ws.map (Value.int k)).toArray
 |.bo vs,v=>∃us:List Value,v=.tuple us.toArray∧bE ρ H O w vs us
 |.s .aQ,_=>True
 |.s x,v=>aR O w x v
 |.ptr id off,v=>az ρ H O w (.ptr id off) v
 |.jQ id off n i,v=>az ρ H O w (.jQ id off n i) v
 |.jx c m j,v=>az ρ H O w (.jx c m j) v
 |.vec id,v=>az ρ H O w (.vec id) v
 |.gj id i j,v=>az ρ H O w (.gj id i j) v
 |.part id lo n,v=>az ρ H O w (.part id lo n) v
 |.sub id off n,v=>az ρ H O w (.sub id off n) v
 |.ko id i j n,v=>az ρ H O w (.ko id i j n) v
 |.emp,v=>∃a,v=.slice a 0 0
 |.fn f ey,v=>∃vs:List Value,v=.func (.func f) #[] vs.toArray∧bE ρ H O w ey vs
 |.ag id,v=>az ρ H O w (.ag id) v
 |.tag id,v=>az ρ H O w (.tag id) v
end
theorem aR.one{O:Nat→Prop}{w:World}{x:SV}{v:Value}(h:aR O w x v):v.oneCell'=true:=by
 cases h<;>first|rfl|assumption
structure Step (ρ:Nat→Value) (H:aJ) (O:Nat→Prop) (w:World) (aB:Nat→Value) (H':aJ) (O':Nat→Prop) (w':World):Prop where
 xp:∀id o,H id=some o→aB id=ρ id
 ez:∀id o,H id=some o→∃o',H' id=some o'∧∀c' e',o'=.vec c' e'→∃c e,o=.vec c e∧c'.n=c.n∧c'.size=c.size
 fP:∀b,O' b→O b∨w.heap.size≤b
 heap:∀b,b<w.heap.size→¬O b→w'.heap[b]? =w.heap[b]?
 size:w.heap.size≤w'.heap.size
theorem Step.refl(ρ:Nat→Value)(H:aJ)(O:Nat→Prop)(w:World):Step ρ H O w ρ H O w:=
 ⟨fun _ _ _=>rfl,fun _ o h=>⟨o,h,fun c' e' e=>⟨c',e',e,rfl,rfl⟩⟩,fun _ h=>.inl h,fun _ _ _=>rfl,Nat.le_refl _⟩
theorem lW{w w':World}{b o:Nat}(h:w'.heap[b]? =w.heap[b]?):w'.cell? ⟨b,o,none⟩=w.cell? ⟨b,o,none⟩:=by
 simp[World.cell?,h]
section
variable{ρ aB:Nat→Value}{H H':aJ}{O O':Nat→Prop}{w w':World}
theorem Step.trans{arC:Nat→Value}{H'':aJ}{O'':Nat→Prop}{w'':World}(h:Step ρ H O w aB H' O' w')(k:Step aB H' O' w' arC H'' O'' w'')
 :Step ρ H O w arC H'' O'' w'':=by
 refine⟨fun id o ho=> ?_,fun id o ho=> ?_,fun b hb=> ?_,fun b hb hO=> ?_,Nat.le_trans h.size k.size⟩
 ·obtain⟨o',dg,_⟩:=h.ez id o ho;rw[k.xp id o' dg,h.xp id o ho]
 ·obtain⟨o',dg,q⟩:=h.ez id o ho;obtain⟨o'',auJ,q'⟩:=k.ez id o' dg;refine⟨o'',auJ,fun c e hc=> ?_⟩;obtain⟨c1,e1,h1,n1,s1⟩:=q' c e hc;obtain⟨c2,e2,h2,n2,s2⟩:=q c1 e1 h1;exact⟨c2,e2,h2,n1.trans n2,s1.trans s2⟩
 ·rcases k.fP b hb with h1|h1
  ·exact h.fP b h1
  ·exact .inr (Nat.le_trans h.size h1)
 ·have auK:¬O' b:=fun h1=>by rcases h.fP b h1 with h2|h2<;>first|exact hO h2|omega
  rw[k.heap b (by have:=h.size;omega) auK,h.heap b hb hO]
theorem aR.step(fP:∀b,O' b→O b∨w.heap.size≤b)(heap:∀b,b<w.heap.size→¬O b→w'.heap[b]? =w.heap[b]?)
 (size:w.heap.size≤w'.heap.size) {x:SV} {v:Value} (h:aR O w x v):aR O' w' x v:=by
 induction h with
 |aQ v hv=>exact .aQ v hv
 |bool b=>exact .bool b
 |aA b=>exact .aA b
 |lV n eq b hb=>exact .lV n eq b hb
 |yJ k n=>exact .yJ k n
 |int k n=>exact .int k n
 |aV k n=>exact .aV k n
 |str s=>exact .str s
 |fU=>exact .fU
 |acC=>exact .acC
 |acD=>exact .acD
 |acE=>exact .acE
 |pe=>exact .pe
 |kV f=>exact .kV f
 |ifi t k n=>exact .ifi t k n
 |ifs t s=>exact .ifs t s
 |ifb t b=>exact .ifb t b
 |raw v zs h=>exact .raw v zs h
 |yK c k a n cap _ hk ih=>exact .yK c k a n cap ih hk
 |mj k n h=>exact .mj k n h
 |oN k n h=>exact .oN k n h
 |ro c a cap us b o hn hm hb hc _ ih=>
  refine .ro c a cap us b o hn hm (fun h0=> ?_) (fun i j hi hj=> ?_) ih
  ·obtain⟨e,h1,h2⟩:=hb h0;exact⟨e,fun h3=>by rcases fP b h3 with h4|h4<;>first|exact h1 h4|omega,by omega⟩
  ·obtain⟨_,h1,h2⟩:=hb (by omega);rw[lW (heap b h2 h1)];exact hc i j hi hj
mutual
theorem az.step(st:Step ρ H O w aB H' O' w'):∀(x:AV) (v:Value),az ρ H O w x v→az aB H' O' w' x v
 |.s x,v,h=>by unfold az at *;exact h.step st.fP st.heap st.size
 |.ptr id off,v,h=>by
  unfold az at *;obtain⟨b,h1,h2,h3⟩:=h;obtain⟨o,ho⟩:=Option.isSome_iff_exists.1 h3;obtain⟨o',dg,_⟩:=st.ez id o ho;exact⟨b,by rw[st.xp id o ho,h1],h2,by rw[dg];rfl⟩
 |.jQ id off n i,v,h=>by
  unfold az at *;obtain⟨hi,b,h1,h2,h3⟩:=h;obtain⟨o,ho⟩:=Option.isSome_iff_exists.1 h3;obtain⟨o',dg,_⟩:=st.ez id o ho;exact⟨hi,b,by rw[st.xp id o ho,h1],h2,by rw[dg];rfl⟩
 |.jx c m j,v,h=>by
  unfold az at *;obtain⟨b,o,us,h1,h2,h3,h4⟩:=h;refine⟨b,o,us,h1,fun h5=> ?_,by have:=st.size;omega,fun i hi=> ?_⟩
  ·rcases st.fP b h5 with h6|h6<;>first|exact h2 h6|omega
  ·obtain⟨h5,h6⟩:=h4 i hi;exact⟨by rw[lW (st.heap b h3 h2)];exact h5,h6.step st.fP st.heap st.size⟩
 |.vec id,v,h=>by
  unfold az at *;obtain⟨h0,o,ho,h1⟩:=h;obtain⟨o',dg,h2⟩:=st.ez id o ho;refine⟨h0,o',dg,fun c e hc=> ?_⟩;obtain⟨c1,e1,h3,_,_⟩:=h2 c e hc;rw[st.xp id o ho];exact h1 c1 e1 h3
 |.gj id i j,v,h=>by
  unfold az at *;obtain⟨h0,o,ho,h1⟩:=h;obtain⟨o',dg,h2⟩:=st.ez id o ho;refine⟨h0,o',dg,fun c e hc=> ?_⟩;obtain⟨c1,e1,h3,hn,hs⟩:=h2 c e hc;rw[st.xp id o ho,hn,hs];exact h1 c1 e1 h3
 |.part id lo n,v,h=>by
  unfold az at *;obtain⟨h0,o,ho,h1⟩:=h;obtain⟨o',dg,h2⟩:=st.ez id o ho;refine⟨h0,o',dg,fun c e hc=> ?_⟩;obtain⟨c1,e1,h3,hn,hs⟩:=h2 c e hc;rw[st.xp id o ho,hn,hs];exact h1 c1 e1 h3
 |.sub id off n,v,h=>by
  unfold az at *;obtain⟨h0,b,a,cap,h1,h2,h4,h3⟩:=h;obtain⟨o,ho⟩:=Option.isSome_iff_exists.1 h3;obtain⟨o',dg,_⟩:=st.ez id o ho;exact⟨h0,b,a,cap,by rw[st.xp id o ho,h1],h2,h4,by rw[dg];rfl⟩
 |.ko id i j n,v,h=>by
  unfold az at *;obtain⟨h0,o,ho,h1⟩:=h;obtain⟨o',dg,h2⟩:=st.ez id o ho;refine⟨h0,o',dg,fun c e hc=> ?_⟩;obtain⟨c1,e1,h3,hn,hs⟩:=h2 c e hc;rw[st.xp id o ho,hn,hs];exact h1 c1 e1 h3
 |.emp,v,h=>by unfold az at *;exact h
 |.fn f ey,v,h=>by
  unfold az at *;obtain⟨vs,h1,h2⟩:=h;exact⟨vs,h1,bE.step st ey vs h2⟩
 |.agg _,v,h=>by unfold az at h;exact h.elim
 |.ints _ _ _,v,h=>by unfold az at h;exact h.elim
 |.bo _,v,h=>by unfold az at h;exact h.elim
 |.ag id,v,h=>by
  unfold az at *;obtain⟨b,h1,h2,h3⟩:=h;obtain⟨o,ho⟩:=Option.isSome_iff_exists.1 h3;obtain⟨o',dg,_⟩:=st.ez id o ho;exact⟨b,by rw[st.xp id o ho,h1],h2,by rw[dg];rfl⟩
 |.tag id,v,h=>by
  unfold az at *;obtain⟨h1,h2,h3⟩:=h;obtain⟨o,ho⟩:=Option.isSome_iff_exists.1 h3;obtain⟨o',dg,_⟩:=st.ez id o ho;exact⟨by rw[st.xp id o ho,h1],h2,by rw[dg];rfl⟩
theorem bE.step(st:Step ρ H O w aB H' O' w'):∀(xs:List AV) (vs:List Value),bE ρ H O w xs vs→bE aB H' O' w' xs vs
 |[],vs,h=>by unfold bE at *;exact h
 |a::aG,vs,h=>by
  unfold bE at *;obtain⟨v,rest,h1,h2,h3⟩:=h;exact⟨v,rest,h1,ab.step st a v h2,bE.step st aG rest h3⟩
theorem ao.step(st:Step ρ H O w aB H' O' w'):∀(xs:List AV) (cs:List Value),ao ρ H O w xs cs→ao aB H' O' w' xs cs
 |[],vs,h=>by unfold ao at *;exact h
 |a::aG,vs,h=>by
  unfold ao at *;obtain⟨c1,c2,h1,h2,h3⟩:=h;exact⟨c1,c2,h1,aK.step st a c1 h2,ao.step st aG c2 h3⟩
theorem aK.step(st:Step ρ H O w aB H' O' w'):∀(x:AV) (cs:List Value),aK ρ H O w x cs→aK aB H' O' w' x cs
 |.agg _,cs,h=>by unfold aK at h;exact h.elim
 |.ints _ _ _,cs,h=>by unfold aK at *;exact h
 |.s x,cs,h=>by unfold aK at *;obtain⟨u,h1,h2⟩:=h;exact⟨u,h1,h2.step st.fP st.heap st.size⟩
 |.ptr id off,cs,h=>by unfold aK at *;obtain⟨u,h1,h2⟩:=h;exact⟨u,h1,az.step st (.ptr id off) u h2⟩
 |.jQ id off n i,cs,h=>by unfold aK at *;obtain⟨u,h1,h2⟩:=h;exact⟨u,h1,az.step st (.jQ id off n i) u h2⟩
 |.jx c m j,cs,h=>by unfold aK at *;obtain⟨u,h1,h2⟩:=h;exact⟨u,h1,az.step st (.jx c m j) u h2⟩
 |.vec id,cs,h=>by unfold aK at *;obtain⟨u,h1,h2⟩:=h;exact⟨u,h1,az.step st (.vec id) u h2⟩
 |.gj id i j,cs,h=>by unfold aK at *;obtain⟨u,h1,h2⟩:=h;exact⟨u,h1,az.step st (.gj id i j) u h2⟩
 |.part id lo n,cs,h=>by unfold aK at *;obtain⟨u,h1,h2⟩:=h;exact⟨u,h1,az.step st (.part id lo n) u h2⟩
 |.sub id off n,cs,h=>by unfold aK at *;obtain⟨u,h1,h2⟩:=h;exact⟨u,h1,az.step st (.sub id off n) u h2⟩
 |.ko id i j n,cs,h=>by unfold aK at *;obtain⟨u,h1,h2⟩:=h;exact⟨u,h1,az.step st (.ko id i j n) u h2⟩
 |.emp,cs,h=>by unfold aK at *;exact h
 |.fn f ey,cs,h=>by
  unfold aK at *;obtain⟨u,h1,vs,h2,h3⟩:=h;exact⟨u,h1,vs,h2,bE.step st ey vs h3⟩
 |.bo _,cs,h=>by unfold aK at h;exact h.elim
 |.ag id,cs,h=>by unfold aK at *;obtain⟨u,h1,h2⟩:=h;exact⟨u,h1,az.step st (.ag id) u h2⟩
 |.tag id,cs,h=>by unfold aK at *;obtain⟨u,h1,h2⟩:=h;exact⟨u,h1,az.step st (.tag id) u h2⟩
theorem ab.step(st:Step ρ H O w aB H' O' w'):∀(x:AV) (v:Value),ab ρ H O w x v→ab aB H' O' w' x v
 |.agg an,v,h=>by unfold ab at *;obtain⟨cs,h1,h2⟩:=h;exact⟨cs,h1,ao.step st an cs h2⟩
 |.ints _ _ _,v,h=>by unfold ab at *;exact h
 |.bo vs,v,h=>by unfold ab at *;obtain⟨us,h1,h2⟩:=h;exact⟨us,h1,bE.step st vs us h2⟩
 |.s .aQ,v,h=>by unfold ab;trivial
 |.s (.bool b),v,h=>by unfold ab at *;exact h.step st.fP st.heap st.size
 |.s (.aA b),v,h=>by unfold ab at *;exact h.step st.fP st.heap st.size
 |.s (.lV _ _),v,h=>by unfold ab at *;exact h.step st.fP st.heap st.size
 |.s (.yJ k),v,h=>by unfold ab at *;exact h.step st.fP st.heap st.size
 |.s (.int k n),v,h=>by unfold ab at *;exact h.step st.fP st.heap st.size
 |.s (.aV k n),v,h=>by unfold ab at *;exact h.step st.fP st.heap st.size
 |.s (.str b),v,h=>by unfold ab at *;exact h.step st.fP st.heap st.size
 |.s .fU,v,h=>by unfold ab at *;exact h.step st.fP st.heap st.size
 |.s .acC,v,h=>by unfold ab at *;exact h.step st.fP st.heap st.size
 |.s .acD,v,h=>by unfold ab at *;exact h.step st.fP st.heap st.size
 |.s .acE,v,h=>by unfold ab at *;exact h.step st.fP st.heap st.size
 |.s .pe,v,h=>by unfold ab at *;exact h.step st.fP st.heap st.size
 |.s (.kV b),v,h=>by unfold ab at *;exact h.step st.fP st.heap st.size
 |.s (.ifi _ _ _),v,h=>by unfold ab at *;exact h.step st.fP st.heap st.size
 |.s (.ifs _ _),v,h=>by unfold ab at *;exact h.step st.fP st.heap st.size
 |.s (.ifb _ _),v,h=>by unfold ab at *;exact h.step st.fP st.heap st.size
 |.s (.raw _ _),v,h=>by unfold ab at *;exact h.step st.fP st.heap st.size
 |.s (.ro b),v,h=>by unfold ab at *;exact h.step st.fP st.heap st.size
 |.s (.yK _ _),v,h=>by unfold ab at *;exact h.step st.fP st.heap st.size
 |.s (.mj _),v,h=>by unfold ab at *;exact h.step st.fP st.heap st.size
 |.s (.oN _),v,h=>by unfold ab at *;exact h.step st.fP st.heap st.size
 |.ptr id off,v,h=>by unfold ab at *;exact az.step st (.ptr id off) v h
 |.jQ id off n i,v,h=>by unfold ab at *;exact az.step st (.jQ id off n i) v h
 |.jx c m j,v,h=>by unfold ab at *;exact az.step st (.jx c m j) v h
 |.vec id,v,h=>by unfold ab at *;exact az.step st (.vec id) v h
 |.gj id i j,v,h=>by unfold ab at *;exact az.step st (.gj id i j) v h
 |.part id lo n,v,h=>by unfold ab at *;exact az.step st (.part id lo n) v h
 |.sub id off n,v,h=>by unfold ab at *;exact az.step st (.sub id off n) v h
 |.ko id i j n,v,h=>by unfold ab at *;exact az.step st (.ko id i j n) v h
 |.emp,v,h=>by unfold ab at *;exact h
 |.fn f ey,v,h=>by
  unfold ab at *;obtain⟨vs,h2,h3⟩:=h;exact⟨vs,h2,bE.step st ey vs h3⟩
 |.ag id,v,h=>by unfold ab at *;exact az.step st (.ag id) v h
 |.tag id,v,h=>by unfold ab at *;exact az.step st (.tag id) v h
end
end
end Go.Sx
namespace Go.Sx
open Go
inductive RM (α:Type)where
 |ret (a:α)
 |look (id:Nat) (k:Option ad→RM α)
 |fail (why:String)
def RM.eval{α:Type}(H:aJ):RM α→Option α
 |.ret a=>some a
 |.look id k=>(k (H id)).eval H
 |.fail _=>none
def RM.ids{α:Type}(H:aJ):RM α→List Nat
 |.ret _=>[]
 |.look id k=>id::(k (H id)).ids H
 |.fail _=>[]
def RM.why{α:Type}(H:aJ):RM α→String
 |.ret _=> ""
 |.look _ k=>(k (H id)).why H
 |.fail w=>w
where id:Nat:=0
structure bC where
 need:List Prop
 up:List (Nat×ad)
 new:List ad
 r:Nat→AV
def plain(need:List Prop)(r:AV):RM bC:=.ret ⟨need,[],[],fun _=>r⟩
def pf(why:String):Option (List Prop×AV)→RM bC
 |some (need,r)=>plain need r
 |none=>.fail why
def aF(n:Int):Prop:= -9223372036854775808≤n∧n≤9223372036854775807
def bG:IntKind→IntKind→Bool
 |.i8,.i8|.i16,.i16|.i32,.i32|.i64,.i64|.u8,.u8|.u16,.u16|.u32,.u32|.u64,.u64=>true
 |_,_=>false
def oO:IntKind→Bool
 |.i64=>true
 |_=>false
def bF(op:BinOp)(k:IntKind)(x y:Int):Int:=
 let a:=BitVec.ofInt k.bits x;let b:=BitVec.ofInt k.bits y
 match op with
 |.and=>k.wrap (a &&& b).toNat
 |.or=>k.wrap (a ||| b).toNat
 |.xor=>k.wrap (a ^^^ b).toNat
 |_=>k.wrap (a &&& ~~~b).toNat
def mkInt(lit:Bool)(k:IntKind)(n:Int):AV:=.s (if lit then .aV k n else .int k n)
def kJ(lit:Bool)(b:Bool):AV:=.s (if lit then .aA b else .bool b)
def mO(lit:Bool)(k:IntKind)(n:Int):List Prop×AV:=
 bif lit then([],.s (.aV k (k.wrap n)))
 else bif oO k then([aF n],.s (.int k n))else([],.s (.int k (k.wrap n)))
def tY(op:BinOp)(k:IntKind)(lx ly:Bool)(x y:Int):Option (List Prop×AV):=
 let lit:=lx&&ly
 match op with
 |.add=>some (mO lit k (x+y))
 |.sub=>some (mO lit k (x - y))
 |.mul=>some (mO lit k (x*y))
 |.quo=>some (bif lit then([y≠0],.s (.aV k (k.wrap (x.tdiv y))))else bif oO k then([y≠0,aF (x.tdiv y)],.s (.int k (x.tdiv y)))else([y≠0],.s (.int k (k.wrap (x.tdiv y)))))
 |.rem=>some ([y≠0],mkInt lit k (x.tmod y))
 |.and|.or|.xor|.andNot=>some ([],mkInt lit k (bF op k x y))
 |.eql=>some ([],kJ lit (x==y))
 |.neq=>some ([],kJ lit (x !=y))
 |.lss=>some ([],kJ lit (decide (x<y)))
 |.leq=>some ([],kJ lit (decide (x≤y)))
 |.gtr=>some ([],kJ lit (decide (x>y)))
 |.geq=>some ([],kJ lit (decide (x≥y)))
 |_=>none
def acF(op:BinOp)(k:IntKind)(lit:Bool)(x y:Int):Option (List Prop×AV):=
 match op with
 |.shl=>some ([0≤y],mkInt lit k (k.wrap (x*2^(min y.toNat k.bits))))
 |.shr=>some ([0≤y],mkInt lit k (x.fdiv (2^(min y.toNat k.bits))))
 |_=>none
def slt(x y:ByteArray):Bool:=Op.bytesLess x.data.toList y.data.toList
def acG(op:BinOp)(x y:ByteArray):Option (List Prop×AV):=
 match op with
 |.add=>some ([x.size+y.size≤4611686018427387904],.s (.str (x++y)))
 |.eql=>some ([],.s (.bool (decide (x=y))))
 |.neq=>some ([],.s (.bool (!decide (x=y))))
 |.lss=>some ([],.s (.bool (slt x y)))
 |.leq=>some ([],.s (.bool (slt x y||decide (x=y))))
 |.gtr=>some ([],.s (.bool !(slt x y||decide (x=y))))
 |.geq=>some ([],.s (.bool !(slt x y)))
 |_=>none
def AV.de :AV→Option (IntKind×Bool×Int)
 |.s (.int k n)=>some (k,false,n)
 |.s (.aV k n)=>some (k,true,n)
 |_=>none
def AV.je :AV→Option (Bool×Bool)
 |.s (.bool b)=>some (false,b)
 |.s (.aA b)=>some (true,b)
 |_=>none
def unR(op:UnOp)(x:AV):Option (List Prop×AV):=
 match op,x with
 |.not,.s (.bool b)=>some ([],.s (.bool !b))
 |.not,.s (.aA b)=>some ([],.s (.aA !b))
 |.neg,.s (.int k n)=>some (mO false k (0 - n))
 |.neg,.s (.aV k n)=>some (mO true k (0 - n))
 |_,_=>none
def ahB(c a b:AV):Option (List Prop×AV):=
 match c with
 |.s (.aA true)=>some ([],a)
 |.s (.aA false)=>some ([],b)
 |.s (.bool c)=>
  match a.je,b.je with
  |some (_,x),some (_,y)=>some ([],.s (.bool (bif c then x else y)))
  |_,_=>
   match a.de,b.de with
   |some (k,_,x),some (k',_,y)=>bif bG k k' then some ([],.s (.int k (bif c then x else y)))else none
   |_,_=>none
 |_=>none
def dF(P:Program)(t:TypeId):Option Nat:=(P.info? t).map (·.size)
def gN(P:Program)(t:TypeId):Option Bool:=
 match P.underlying t with
 |some (.struct _)|some (.array _ _)=>some true
 |some _=>some false
 |none=>none
def kindOf(P:Program)(t:TypeId):Option IntKind:=
 match P.underlying t with
 |some (.int k)=>some k
 |_=>none
def AV.wide:AV→Nat
 |.ints _ n _=>n
 |_=>1
def fg:List AV→Nat→Option (List AV)
 |an,0=>some an
 |[],_+1=>none
 |a::aG,n+1=>bif a.wide.ble (n+1)then fg aG (n+1 - a.wide)else none
def fh:List AV→Nat→Option (List AV)
 |_,0=>some []
 |[],_+1=>none
 |a::aG,n+1=>bif a.wide.ble (n+1)&&(1:Nat).ble a.wide then(fh aG (n+1 - a.wide)).map (a:: ·)else none
def cellAt:List AV→Nat→Option AV
 |[],_=>none
 |.ints k n ws::aG,off=>bif off.blt n then some (.s (.int k (ws.getD off 0)))else cellAt aG (off - n)
 |a::_,0=>some a
 |_::aG,off+1=>cellAt aG off
def gu:List AV→Nat→AV→Option (List AV)
 |[],_,_=>none
 |.ints k n ws::aG,off,v=>bif off.blt n then
  (match v.de with
   |some (k',_,x)=>bif bG k k' then some (.ints k n (ws.set off x)::aG)else none
   |none=>none)
  else(gu aG (off - n) v).map (.ints k n ws:: ·)
 |_::aG,0,v=>some (v::aG)
 |a::aG,off+1,v=>(gu aG off v).map (a:: ·)
def jf:List AV→Nat→Option (IntKind×Nat×List Int)
 |.ints k n ws::aG,off=>bif off.beq 0 then some (k,n,ws)else bif off.blt n then none else jf aG (off - n)
 |_::aG,off+1=>jf aG off
 |_,_=>none
def jR:List AV→Nat→List Int→Option (List AV)
 |.ints k n ws::aG,off,mz=>bif off.beq 0 then some (.ints k n mz::aG)else bif off.blt n then none else(jR aG (off - n) mz).map (.ints k n ws:: ·)
 |a::aG,off+1,mz=>(jR aG off mz).map (a:: ·)
 |_,_,_=>none
def AV.single:AV→Bool
 |.s .aQ|.agg _|.ints _ _ _|.bo _=>false
 |_=>true
def AV.jq :AV→Option (List AV)
 |.agg an=>some an
 |.ints k n ws=>some [.ints k n ws]
 |.bo _|.s .aQ=>none
 |a=>some [a]
def AV.kK:List AV→AV
 |[.ints k n ws]=>.ints k n ws
 |an=>.agg an
def fM:List AV→Nat
 |[]=>0
 |a::aG=>a.wide+fM aG
def acH(an:List AV)(off:Nat)(jr:List AV):Option (List AV):=
 match an,jr with
 |[.ints k n ws],[x]=>match x.de with
  |some (k',_,z)=>bif bG k k'&&off.blt n then some [.ints k n (ws.set off z)]else none
  |none=>none
 |_,_=>none
def tx(an:List AV)(off:Nat)(jr:List AV):Option (List AV):=
 match acH an off jr with
 |some r=>some r
 |none=>
 match fh an off,fg an (off+fM jr)with
 |some pre,some post=>some (pre++jr++post)
 |_,_=>none
def af4(P:Program)(rec:TypeId→List AV→List AV→Option Bool):List Field→List AV→List AV→Option Bool
 |[],_,_=>some true
 |f::fs,xs,ys=>bif f.name== "_" then af4 P rec fs xs ys else
  match dF P f.type,gN P f.type with
  |some sz,some wL=>bif wL||sz.beq 1 then(match(fg xs f.offset).bind (fh · sz),(fg ys f.offset).bind (fh · sz)with
   |some a,some b=>(match rec f.type a b,af4 P rec fs xs ys with
    |some p,some q=>some (p&&q)
    |_,_=>none)
   |_,_=>none)else none
  |_,_=>none
def eqC(P:Program):Nat→TypeId→List AV→List AV→Option Bool
 |0,_,_,_=>none
 |d+1,t,xs,ys=>
  match P.underlying t with
  |some (.int _)=>(match xs,ys with
   |[x],[y]=>(match x.de,y.de with
    |some (k,_,a),some (k',_,b)=>bif bG k k' then some (a==b)else none
    |_,_=>none)
   |_,_=>none)
  |some .bool=>(match xs,ys with
   |[x],[y]=>(match x.je,y.je with
    |some (_,a),some (_,b)=>some (a==b)
    |_,_=>none)
   |_,_=>none)
  |some .string=>(match xs,ys with
   |[.s (.str a)],[.s (.str b)]=>some (decide (a=b))
   |_,_=>none)
  |some (.array n e)=>(match xs,ys with
   |[.ints k m ws],[.ints k' m' mz]=>
    (match P.underlying e with
     |some (.int k'')=>bif (1:Nat).ble d&&bG k k'&&bG k k''&&n==m&&m==m'&&(P.info? e).any (fun i=>i.size==1)then some (decide (ws=mz))else none
     |_=>none)
   |_,_=>none)
  |some (.struct fs)=>bif P.stoodInHeld t then none else af4 P (eqC P d) fs.toList xs ys
  |_=>none
def ahC(P:Program)(t:TypeId):Bool:=match P.underlying t with|some (.int _)=>true|_=>false
def ahD(P:Program)(t:TypeId):Bool:=match P.underlying t with|some .string=>true|_=>false
def aed(P:Program)(t:TypeId):Bool:=match P.underlying t with|some .bool=>true|_=>false
def ahE(P:Program):AV→AV→Option Bool
 |.s (.ifi t k n),.s (.ifi t' k' n')=>bif t.beq t'&&bG k k'&&(P.info? t).any (·.comparable)&&ahC P t then some (n==n')else none
 |.s (.ifs t s),.s (.ifs t' s')=>bif t.beq t'&&(P.info? t).any (·.comparable)&&ahD P t then some (decide (s=s'))else none
 |.s (.ifb t b),.s (.ifb t' b')=>bif t.beq t'&&(P.info? t).any (·.comparable)&&aed P t then some (b==b')else none
 |_,_=>none
def eqI(P:Program):List AV→List AV→Option Bool
 |[],[]=>some true
 |x::xs,y::ys=>match ahE P x y,eqI P xs ys with
  |some a,some b=>some (a&&b)
  |_,_=>none
 |_,_=>none
def eqR(P:Program)(t:TypeId)(x y:AV):Option (Bool×Bool):=
 match P.underlying t,x,y with
 |some .bool,x,y=>match x.je,y.je with
  |some (lx,a),some (ly,b)=>some (lx&&ly,a==b)
  |_,_=>none
 |some (.array n e),.ints k m ws,.ints k' m' mz=>
  match P.underlying e with
  |some (.int k'')=>bif bG k k'&&bG k k''&&n==m&&m==m'&&(P.info? e).any (fun i=>i.size==1)&& !P.eqGuardType P.depth t then some (false,decide (ws=mz))else none
  |_=>none
 |some (.pointer _),.s .fU,.s .fU=>some (true,true)
 |some (.pointer _),.s .fU,.ptr _ _|some (.pointer _),.ptr _ _,.s .fU=>some (true,false)
 |some (.array n e),.agg xs,.agg ys=>
  match P.underlying e with
  |some (.interface _)=>bif n==xs.length&&n==ys.length&&(P.info? e).any (fun i=>i.size==1)&& !P.eqGuardType P.depth t then(eqI P xs ys).map fun b=>(false,b)else none
  |_=>none
 |some (.struct _),.agg xs,.agg ys=>bif P.eqGuardType P.depth t then none else(eqC P 20 t xs ys).map fun b=>(false,b)
 |_,_,_=>none
def AV.kind? :AV→Option IntKind
 |.s (.int k _)|.s (.aV k _)|.s (.yJ k)=>some k
 |_=>none
def acI(op:BinOp)(k:IntKind):Option AV:=
 match op with
 |.add|.sub|.mul|.and|.or|.xor|.andNot=>some (.s (.yJ k))
 |.eql|.neq|.lss|.leq|.gtr|.geq=>some (.s (.lV 0 true))
 |_=>none
def ak1(P:Program)(op:BinOp)(t:TypeId)(x y:AV):Option (List Prop×AV):=
 match x,y with
 |.s (.str a),.s (.str b)=>acG op a b
 |x,y=>
  match x.de,y.de with
  |some (k,lx,a),some (k',ly,b)=>
   match op with
   |.shl|.shr=>acF op k (lx&&ly) a b
   |_=>bif bG k k' then tY op k lx ly a b else none
  |_,_=>
   match x.kind?,y.kind? with
   |some k,some k'=>bif bG k k' then(acI op k).map fun r=>([],r)else none
   |_,_=>
   match op with
   |.eql=>(eqR P t x y).map fun(l,b)=>([],kJ l b)
   |.neq=>(eqR P t x y).map fun(l,b)=>([],kJ l (!b))
   |_=>none
def ak2:Value→Option SV
 |.bool b=>some (.aA b)
 |.int k n=>some (.aV k n)
 |.string s=>some (.str s)
 |.pointer none=>some .fU
 |.nilIface=>some .acC
 |.nilFunc=>some .acD
 |.map none=>some .acE
 |_=>none
def p6:Value→Option AV
 |.slice none 0 0=>some .emp
 |v=>(ak2 v).map .s
def p7:List Value→Option (List AV)
 |[]=>some []
 |v::vs=>match p6 v,p7 vs with
  |some a,some aG=>some (a::aG)
  |_,_=>none
def mP(k:IntKind):List Value→Bool
 |[]=>true
 |.int k' 0::vs=>bG k k'&&mP k vs
 |_=>false
def gO(P:Program):Nat→TypeId→List Value→Option (List AV)
 |0,_,_=>none
 |d+1,t,cs=>
  match P.underlying t with
  |some (.struct fs)=>fs.toList.foldl (fun acc f=>
   match acc,dF P f.type with
   |some (an,rest),some n=>(gO P d f.type (rest.take n)).map fun s=>(an++s,rest.drop n)
   |_,_=>none) (some ([],cs)) |>.bind fun(an,rest)=>match rest with|[]=>some an|_=>none
  |some (.array n e)=>match kindOf P e with
   |some k=>bif mP k cs&&cs.length==n then some [.ints k n (List.replicate n 0)]else p7 cs
   |none=>p7 cs
  |_=>p7 cs
def yL:Value→AV
 |.agg cs=>match p7 cs.toList with|some aG=>.agg aG|none=>.s .aQ
 |v=>(p6 v).getD (.s .aQ)
def zeroOf(P:Program)(t:TypeId):Option AV:=
 match(P.info? t).bind (·.zero),gN P t with
 |some (.agg cs),some true=>(gO P 20 t cs.toList).map .kK
 |some v,some false=>p6 v
 |_,_=>none
def CL.an:(cs:List CK)→CL cs→List AV
 |[],_=>[]
 |.arr k n::cs,x=>.ints k n x.1::CL.an cs x.2
 |.int k::cs,x=>.s (.int k x.1)::CL.an cs x.2
 |.bool::cs,x=>.s (.bool x.1)::CL.an cs x.2
 |.str::cs,x=>.s (.str x.1)::CL.an cs x.2
 |.ints k::cs,x=>.s (.ro (.ints k x.1))::CL.an cs x.2
 |.strs::cs,x=>.s (.ro (.strs x.1))::CL.an cs x.2
 |.bR::cs,x=>.s (.ro (.bR x.1))::CL.an cs x.2
 |.rows ds::cs,x=>.s (.ro (.ae ds x.1))::CL.an cs x.2
def eF:List AV→List Prop
 |[]=>[]
 |.ints _ n ws::aG=>(ws.length=n)::eF aG
 |_::aG=>eF aG
def ahF(k:IntKind):SV→Option Int
 |.int k' x|.aV k' x=>bif bG k k' then some x else none
 |_=>none
def acJ:SV→Option Bool
 |.bool x|.aA x=>some x
 |_=>none
def ahG:SV→Option ByteArray
 |.str x=>some x
 |_=>none
def acK(k:IntKind):SV→Option (List Int)
 |.ro (.ints k' zs)=>bif bG k k' then some zs else none
 |.ro (.ei _ 0 _)=>some []
 |_=>none
def acL:SV→Option (List ByteArray)
 |.ro (.strs zs)=>some zs
 |.ro (.ei _ 0 _)=>some []
 |_=>none
def yM:SV→Option (List Bool)
 |.ro (.bR zs)=>some zs
 |.ro (.ei _ 0 _)=>some []
 |_=>none
def acM(cs:List CK):SV→Option (List (CL cs))
 |.ro (.ae kU zs)=>(CL.eq kU cs).map fun h=>aav h zs
 |.ro (.ei _ 0 _)=>some []
 |_=>none
def CK.set:(c:CK)→c.V→Nat→SV→Option c.V
 |.int k,_,_,v=>ahF k v
 |.bool,_,_,v=>acJ v
 |.str,_,_,v=>ahG v
 |.ints k,_,_,v=>acK k v
 |.strs,_,_,v=>acL v
 |.bR,_,_,v=>yM v
 |.rows cs,_,_,v=>acM cs v
 |.arr _ _,_,_,_=>none
def CL.set:(cs:List CK)→CL cs→Nat→SV→Option (CL cs)
 |[],_,_,_=>none
 |c::cs,x,j,v=>bif j.blt c.wide then(c.set x.1 j v).map fun y=>(y,x.2)else(CL.set cs x.2 (j - c.wide) v).map fun y=>(x.1,y)
def CK.setRow:(c:CK)→IntKind→Nat→List Int→Option c.V
 |.arr k' n',k,n,ws=>bif bG k k'&&n.beq n' then some ws else none
 |_,_,_,_=>none
def CL.setRow:(cs:List CK)→CL cs→Nat→IntKind→Nat→List Int→Option (CL cs)
 |[],_,_,_,_,_=>none
 |c::cs,x,j,k,n,ws=>bif j.beq 0 then(c.setRow k n ws).map fun y=>(y,x.2)
   else bif c.wide.ble j then(CL.setRow cs x.2 (j - c.wide) k n ws).map fun y=>(x.1,y)else none
def p8(wL:Bool)(c:aI)(i j sz:Nat):RM bC:=
 bif wL then
  (match c with
   |.ae cs xs=>(match(fg (CL.an cs (xs.getD i (CL.d cs))) j).bind (fh · sz)with
     |some ss=>plain (eF (CL.an cs (xs.getD i (CL.d cs)))) (.kK ss)
     |none=>.fail "load: no such parts of the element")
   |c=>bif (j+sz).ble c.size then plain [] (.agg ((List.range sz).map fun l=>.s (c.cell i (j+l))))else .fail "load: beyond the element")
 else(bif j.blt c.size then plain [] (.s (c.cell i j))else .fail "load: beyond the element")
def aee(P:Program)(t:TypeId)(a:AV):RM bC:=
 match dF P t,gN P t with
 |some sz,some wL=>
  match a with
  |.ptr id off=>.look id fun
   |some (.own an _)=>bif wL then
    (match(fg an off).bind (fh · sz)with
     |some ss=>plain [] (.kK ss)
     |none=>.fail "load: no such parts")
    else(match cellAt an off with
     |some v=>plain [] v
     |none=>.fail "load: no such cell")
   |_=>.fail "load: no own object"
  |.jQ id off n i=>.look id fun
   |some (.own an _)=>match jf an off with
    |some (k,m,ws)=>bif m.beq n&& !wL then plain [] (.s (.int k (ws.getD i 0)))else .fail "load: a row of another length"
    |none=>.fail "load: no row"
   |_=>.fail "load: no own object"
  |.jx c i j=>p8 wL c i j sz
  |.gj id i j=>.look id fun
   |some (.vec c _)=>p8 wL c i j sz
   |_=>.fail "load: no vec"
  |_=>.fail "load: no address"
 |_,_=>.fail "load: no type"
def rj:aI→Nat→Nat→SV→Option aI
 |.ints k zs,i,_,v=>match v with
  |.int k' x|.aV k' x=>bif bG k k' then some (.ints k (zs.set i x))else none
  |_=>none
 |.strs ss,i,_,v=>match v with
  |.str x=>some (.strs (ss.set i x))
  |_=>none
 |.bR bs,i,_,v=>match v with
  |.bool x|.aA x=>some (.bR (bs.set i x))
  |_=>none
 |.ae cs xs,i,j,v=>(CL.set cs (xs.getD i (CL.d cs)) j v).map fun y=>.ae cs (xs.set i y)
 |.ei s n get,i,j,v=>some (.ei s n fun i' j'=>bif i'==i&&j'==j then v else get i' j')
def nU:aI→Nat→Nat→IntKind→Nat→List Int→Option aI
 |.ae cs xs,i,j,k,n,ws=>(CL.setRow cs (xs.getD i (CL.d cs)) j k n ws).map fun y=>.ae cs (xs.set i y)
 |_,_,_,_,_,_=>none
def eG(c:aI)(i j:Nat):List AV→Option aI
 |[]=>some c
 |.s v::aG=>(rj c i j v).bind fun c'=>eG c' i (j+1) aG
 |.ints k n ws::aG=>(nU c i j k n ws).bind fun c'=>eG c' i (j+n) aG
 |_=>none
def mQ(cs:List CK)(x:CL cs)(j:Nat):List AV→Option (CL cs)
 |[]=>some x
 |.s v::aG=>(CL.set cs x j v).bind fun y=>mQ cs y (j+1) aG
 |.ints k n ws::aG=>(CL.setRow cs x j k n ws).bind fun y=>mQ cs y (j+n) aG
 |_=>none
def aef(c:aI)(i j:Nat)(jr:List AV):Option aI:=match c with
 |.ae cs xs=>(mQ cs (xs.getD i (CL.d cs)) j jr).map fun y=>.ae cs (xs.set i y)
 |_=>eG c i j jr
def acN(P:Program)(t:TypeId)(a x:AV):RM bC:=
 match dF P t,gN P t with
 |some sz,some wL=>
  match a with
  |.ptr id off=>.look id fun
   |some (.own an e)=>
    bif wL then
     (match x.jq with
      |some jr=>bif (fM jr).beq sz&&(1:Nat).ble sz then
       (match tx an off jr with
        |some eH=>.ret ⟨[],[(id,.own eH e)],[],fun _=>.bo []⟩
        |none=>.fail "store: no such parts")else .fail "store: another size"
      |none=>.fail "store: no parts")
    else(bif x.single&&sz.beq 1 then
     (match gu an off x with
      |some eH=>.ret ⟨[],[(id,.own eH e)],[],fun _=>.bo []⟩
      |none=>.fail "store: no such cell")else .fail "store: no one cell")
   |_=>.fail "store: no own object"
  |.jQ id off n i=>.look id fun
   |some (.own an e)=>match jf an off,x.de with
    |some (k,m,ws),some (k',_,y)=>bif m.beq n&&bG k k'&& !wL&&sz.beq 1 then
     (match jR an off (ws.set i y)with
      |some eH=>.ret ⟨[],[(id,.own eH e)],[],fun _=>.bo []⟩
      |none=>.fail "store: no row")else .fail "store: a row of another length"
    |_,_=>.fail "store: no row"
   |_=>.fail "store: no own object"
  |.gj id i j=>.look id fun
   |some (.vec c e)=>match x.jq with
    |some jr=>bif (fM jr).beq sz&&(j+sz).ble c.size then
     (match aef c i j jr with
      |some c'=>.ret ⟨[],[(id,.vec c' e)],[],fun _=>.bo []⟩
      |none=>.fail "store: another kind of element")else .fail "store: another size"
    |none=>.fail "store: no parts"
   |_=>.fail "store: no vec"
  |_=>.fail "store: no own address"
 |_,_=>.fail "store: no type"
def ph(P:Program)(t:TypeId)(x:AV)(f:Nat):RM bC:=
 match P.underlying t with
 |some (.struct fs)=>match fs[f]? with
  |some fd=>bif (dF P fd.type).any (fun n=>(1:Nat).ble n)then
   (match x with
    |.ptr id off=>plain [] (.ptr id (off+fd.offset))
    |.jx c i j=>plain [] (.jx c i (j+fd.offset))
    |.gj id i j=>.look id fun
     |some (.vec c _)=>bif (j+fd.offset).blt c.size then plain [] (.gj id i (j+fd.offset))else .fail "fieldAddr: beyond"
     |_=>.fail "fieldAddr: no vec"
    |_=>.fail "fieldAddr: no address")else .fail "fieldAddr: an empty field"
  |none=>.fail "fieldAddr: no field"
 |_=>.fail "fieldAddr: no struct"
def pj(P:Program)(t:TypeId)(x i:AV):RM bC:=
 match i.de,P.underlying t with
 |some (_,_,n),some (.slice e)=>
  (match dF P e,x with
   |some sz,.s (.ro c)=>bif sz.beq c.size then plain [0≤n,n<c.n] (.jx c n.toNat 0)else .fail "indexAddr: size"
   |some sz,.vec id=>.look id fun
    |some (.vec c _)=>bif sz.beq c.size&&(1:Nat).ble sz then plain [0≤n,n<c.n] (.gj id n.toNat 0)else .fail "indexAddr: size"
    |_=>.fail "indexAddr: no vec"
   |some sz,.part id lo m=>.look id fun
    |some (.vec c _)=>bif sz.beq c.size&&(1:Nat).ble sz then plain [0≤n,n<m] (.gj id (lo+n.toNat) 0)else .fail "indexAddr: size"
    |_=>.fail "indexAddr: no vec"
   |_,_=>.fail "indexAddr: no slice")
 |some (_,lit,n),some (.array len e)=>
  (match dF P e,x with
   |some sz,.ptr id off=>bif lit then
    (bif decide (0≤n)&&decide (n<len)then plain [] (.ptr id (off+n.toNat*sz))else .fail "indexAddr: out of range")
    else(bif sz.beq 1 then plain [0≤n,n<len] (.jQ id off len n.toNat)else .fail "indexAddr: wide elements")
   |some sz,.gj id i0 0=>.look id fun
    |some (.vec c _)=>bif sz.beq c.size&&(1:Nat).ble sz then plain [0≤n,n<len,i0+n<c.n] (.gj id (i0+n.toNat) 0)else .fail "indexAddr: size"
    |_=>.fail "indexAddr: no vec"
   |_,_=>.fail "indexAddr: no array")
 |_,_=>.fail "indexAddr: no number or type"
def aW(s:ByteArray)(i:Nat):Int:=((s.data.toList.getD i 0).toNat:Int)
def acO(P:Program)(t:TypeId)(x i:AV):RM bC:=
 match i.de,P.underlying t,x with
 |some (_,_,n),some (.array len e),.ints k m ws=>bif len.beq m&&(gN P e).any (!·)&&(dF P e).any (·.beq 1)then plain [0≤n,n<len] (.s (.int k (ws.getD n.toNat 0)))else .fail "index: array"
 |some (_,_,n),some .string,.s (.str s)=>plain [0≤n,n<s.size] (.s (.int .u8 (aW s n.toNat)))
 |some (_,_,n),some (.array len e),.agg an=>bif (gN P e).any (!·)&&(dF P e).any (·.beq 1)then
  (match cellAt an n.toNat with
   |some v=>plain [0≤n,n<len] v
   |none=>.fail "index: no cell")else .fail "index: array of parts"
 |_,_,_=>.fail "index"
def acP(P:Program)(t:TypeId)(x:AV)(f:Nat):RM bC:=
 match P.underlying t,x with
 |some (.struct fs),.agg an=>match fs[f]? with
  |some fd=>match dF P fd.type,gN P fd.type with
   |some sz,some true=>match(fg an fd.offset).bind (fh · sz)with
    |some ss=>plain [] (.kK ss)
    |none=>.fail "field: parts"
   |some _,some false=>match cellAt an fd.offset with
    |some v=>plain [] v
    |none=>.fail "field: cell"
   |_,_=>.fail "field: type"
  |none=>.fail "field: none"
 |_,_=>.fail "field"
def tZ(x:AV)(i:Nat):RM bC:=
 match x with
 |.bo vs=>match vs[i]? with
  |some v=>plain [] v
  |none=>.fail "extract"
 |_=>.fail "extract: no tuple"
def yN(P:Program)(t:TypeId):Option Nat:=
 match P.underlying t,P.info? t with
 |some (.array n e),some i=>match P.underlying e,i.zero with
  |some .string,some z=>bif (4:Nat).ble n&&n.ble 4096&&z.cells.size.beq n&&z.cells.toList.all (fun v=>match v with|.string s=>s.size.beq 0|_=>false)then some n else none
  |_,_=>none
 |_,_=>none
def acQ(P:Program)(t:TypeId):RM bC:=
 match yN P t with
 |some n=>.ret ⟨[],[],[.vec (.strs (List.replicate n ByteArray.empty)) t],fun id=>.gj id 0 0⟩
 |none=>
 match(zeroOf P t).bind AV.jq with
 |some an=>.ret ⟨[],[],[.own an t],fun id=>.ptr id 0⟩
 |none=>.fail "alloc: zero"
def ao8(t:TypeId)(v:AV):RM bC:=
 match v.jq with
 |some an=>.ret ⟨[],[],[.own an t],fun id=>.ptr id 0⟩
 |none=>.fail "box"
def pn(place:Nat→Option (Nat×Nat))(an:List AV):List (Nat×AV)→Option (List AV)
 |[]=>some an
 |(i,v)::rest=>
  match place i,v.jq with
  |some (off,size),some jr=>bif (fM jr).beq size&&(1:Nat).ble size then(tx an off jr).bind fun s=>pn place s rest else none
  |_,_=>none
def acR(P:Program)(t:TypeId)(parts:List (Nat×AV)):RM bC:=
 match(zeroOf P t).bind AV.jq,P.underlying t with
 |some an,some (.struct fs)=>bif fs.toList.all (fun f=>(dF P f.type).isSome)then
  match pn (fun i=>(fs[i]?).bind fun f=>(dF P f.type).map fun n=>(f.offset,n)) an parts with
  |some ss=>plain [] (.kK ss)
  |none=>.fail "build: parts"
  else .fail "build: a field's size"
 |some an,some (.array _ e)=>
  match dF P e with
  |some sz=>match pn (fun i=>some (i*sz,sz)) an parts with
   |some ss=>plain [] (.kK ss)
   |none=>.fail "build: array"
  |none=>.fail "build: element"
 |_,_=>.fail "build: zero"
def AV.sv? :AV→Option SV
 |.s .aQ=>none
 |.s v=>some v
 |.emp=>some (.ro (.ei 1 0 fun _ _=>.aQ))
 |_=>none
def svs:List AV→Option (List SV)
 |[]=>some []
 |.ints _ _ _::_=>none
 |a::aG=>match a.sv?,svs aG with
  |some v,some vs=>some (v::vs)
  |_,_=>none
def pq(k:IntKind):List SV→Option (List Int)
 |[]=>some []
 |.int k' n::vs|.aV k' n::vs=>bif bG k k' then(pq k vs).map (n:: ·)else none
 |_=>none
def rk:List SV→Option (List ByteArray)
 |[]=>some []
 |.str s::vs=>(rk vs).map (s:: ·)
 |_=>none
def nX:List SV→Option (List Bool)
 |[]=>some []
 |.bool b::vs|.aA b::vs=>(nX vs).map (b:: ·)
 |_=>none
inductive Shape where
 |ints (k:IntKind)|strs|bR|ae (cs:List CK)|other
def ahH(P:Program):Nat→TypeId→Option (List CK)
 |0,_=>none
 |d+1,t=>
  match P.underlying t with
  |some (.int k)=>some [.int k]
  |some .bool=>some [.bool]
  |some .string=>some [.str]
  |some (.slice e)=>match P.underlying e with
   |some (.int k)=>some [.ints k]
   |some .string=>some [.strs]
   |some .bool=>some [.bR]
   |_=>(ahH P d e).map fun cs=>[.rows cs]
  |some (.struct fs)=>fs.toList.foldr (fun f acc=>match ahH P d f.type,acc with
   |some a,some b=>some (a++b)
   |_,_=>none) (some [])
  |some (.array n e)=>match P.underlying e with
   |some (.int k)=>some [.arr k n]
   |_=>none
  |_=>none
def shapeOf(P:Program)(e:TypeId):Shape:=
 match P.underlying e with
 |some (.int k)=>.ints k
 |some .string=>.strs
 |some .bool=>.bR
 |_=>match ahH P 8 e with
  |some cs=>.ae cs
  |none=>.other
def CL.ofs(cs:List CK)(f:Nat→SV):Option (CL cs):=(List.range (CL.wide cs)).foldl (fun acc j=>acc.bind fun x=>CL.set cs x j (f j)) (some (CL.d cs))
def xq(cs:List CK)(size:Nat)(cells:List SV):Nat→Nat→Option (List (CL cs))
 |_,0=>some []
 |i,n+1=>match CL.ofs cs (fun j=>cells.getD (i*size+j) .aQ),xq cs size cells (i+1) n with
  |some x,some xs=>some (x::xs)
  |_,_=>none
def sw(sh:Shape)(size n:Nat)(cells:List SV):aI:=
 let d:aI:=.ei size n fun i j=>cells.getD (i*size+j) .aQ
 match sh with
 |.ints k=>(pq k cells).elim d (.ints k)
 |.strs=>(rk cells).elim d .strs
 |.bR=>(nX cells).elim d .bR
 |.ae cs=>bif (CL.wide cs).beq size then(xq cs size cells 0 n).elim d (.ae cs)else d
 |.other=>d
def ahI(sh:Shape)(size:Nat):aI:=
 match sh with
 |.ints k=>.ints k []
 |.strs=>.strs []
 |.bR=>.bR []
 |.ae cs=>.ae cs []
 |.other=>.ei size 0 fun _ _=>.aQ
def rep{α:Type}(n:Nat)(x:List α):List α:=
 match n with
 |0=>[]
 |n+1=>x++rep n x
def mR(P:Program)(t:TypeId)(n:Nat)(parts:List (Nat×AV)):RM bC:=
 match P.underlying t with
 |some (.slice e)=>
  match dF P e,(zeroOf P e).bind AV.jq with
  |some sz,some z=>bif (1:Nat).ble sz&&(n*sz).ble 4096&&(fM z).beq sz then
   (match(pn (fun i=>some (i*sz,sz)) (rep n z) parts).bind svs with
    |some cells=>bif cells.length.beq (n*sz)&&(sw (shapeOf P e) sz n cells).n.beq n&&(sw (shapeOf P e) sz n cells).size.beq sz then .ret ⟨[],[],[.vec (sw (shapeOf P e) sz n cells) e],fun id=>.vec id⟩else .fail "buildSlice: length"
    |none=>.fail "buildSlice: parts")else .fail "buildSlice: size"
  |_,_=>.fail "buildSlice: zero"
 |_=>.fail "buildSlice: type"
def cZ:aI→aI→aI
 |.ints k xs,.ints k' ys=>bif bG k k' then .ints k (xs++ys)else .ei 1 (xs.length+ys.length) fun i j=>bif i.blt xs.length then(aI.ints k xs).cell i j else(aI.ints k' ys).cell (i - xs.length) j
 |.strs xs,.strs ys=>.strs (xs++ys)
 |.bR xs,.bR ys=>.bR (xs++ys)
 |.ae cs xs,.ae kU ys=>match CL.eq kU cs with
  |some h=>.ae cs (xs++aav h ys)
  |none=>.ei (CL.wide cs) (xs.length+ys.length) fun i j=>bif i.blt xs.length then(aI.ae cs xs).cell i j else(aI.ae kU ys).cell (i - xs.length) j
 |c,d=>.ei c.size (c.n+d.n) fun i j=>bif i.blt c.n then c.cell i j else d.cell (i - c.n) j
def dv:aI→Nat→Nat→aI
 |.ints k zs,l,h=>.ints k ((zs.take h).drop l)
 |.strs zs,l,h=>.strs ((zs.take h).drop l)
 |.bR zs,l,h=>.bR ((zs.take h).drop l)
 |.ae cs zs,l,h=>.ae cs ((zs.take h).drop l)
 |.ei s _ get,l,h=>.ei s (h - l) fun i j=>get (l+i) j
def over{α:Type}(xs:List α)(lo k:Nat)(ys:List α):List α:=xs.take lo++ys.take k++xs.drop (lo+k)
def dh:aI→Nat→Nat→aI→aI
 |.ints k1 xs,lo,k,.ints k2 ys=>bif bG k1 k2 then .ints k1 (over xs lo k ys)else .ei 1 xs.length fun i j=>bif lo.ble i&&i.blt (lo+k)then(aI.ints k2 ys).cell (i - lo) j else(aI.ints k1 xs).cell i j
 |.strs xs,lo,k,.strs ys=>.strs (over xs lo k ys)
 |.bR xs,lo,k,.bR ys=>.bR (over xs lo k ys)
 |.ae cs xs,lo,k,.ae kU ys=>match CL.eq kU cs with
  |some h=>.ae cs (over xs lo k (aav h ys))
  |none=>.ei (CL.wide cs) xs.length fun i j=>bif lo.ble i&&i.blt (lo+k)then(aI.ae kU ys).cell (i - lo) j else(aI.ae cs xs).cell i j
 |c,lo,k,d=>.ei c.size c.n fun i j=>bif lo.ble i&&i.blt (lo+k)then d.cell (i - lo) j else c.cell i j
def ao9:SV→Value→Bool
 |.int k n,.int k' n'=>bG k k'&&n==n'
 |.bool b,.bool b'=>b==b'
 |.str s,.string s'=>s.size.beq 0&&s'.size.beq 0
 |.ro c,.slice none 0 0=>c.n.beq 0
 |_,_=>false
def di(sh:Shape)(n:Nat):aI:=
 match sh with
 |.ints k=>.ints k (List.replicate n 0)
 |.strs=>.strs (List.replicate n ByteArray.empty)
 |.bR=>.bR (List.replicate n false)
 |.ae cs=>.ae cs (List.replicate n (CL.d cs))
 |.other=>.ei 1 n fun _ _=>.aQ
def fV(sh:Shape)(z:List Value):Bool:=(di sh 1).size.beq z.length&&(List.range z.length).all fun j=>ao9 ((di sh 1).cell 0 j) (z.getD j undef)
def rowOf(sh:Shape)(size:Nat)(x:AV)(k:aI→Option Nat→RM bC):RM bC:=
 match x with
 |.s v=>(match v with
  |.ro c=>k c none
  |_=>.fail "row")
 |.emp=>k (ahI sh size) none
 |.vec id=>.look id fun
  |some (.vec c _)=>k c (some id)
  |_=>.fail "row: no vec"
 |.part id lo n=>.look id fun
  |some (.vec c _)=>k (dv c lo (lo+n)) (some id)
  |_=>.fail "row: no vec"
 |_=>.fail "row"
def xr(sh:Shape)(size:Nat)(x:AV)(k:aI→Option Nat→RM bC):RM bC:=
 match x with
 |.s (.str s)=>k (.ints .u8 (s.data.toList.map fun b=>(b.toNat:Int))) none
 |x=>rowOf sh size x k
def yO(P:Program)(t:TypeId)(x y:AV):RM bC:=
 match P.underlying t with
 |some (.slice e)=>
  match P.info? e with
  |some i=>
   let sh:=shapeOf P e
   bif (1:Nat).ble i.size&&(1:Nat).ble i.bytes&&i.bytes.ble 256&&i.zero.any (fun z=>z.cells.size==i.size&&z.cells.toList.all (·.oneCell'))then
    xr sh i.size y fun d idy=>
     bif d.size.beq i.size then
      (match x with
       |.emp=>.ret ⟨[d.n*i.bytes≤140737488355328],[],[.vec d e],fun id=>.vec id⟩
       |.vec idx=>.look idx fun
        |some (.vec c e')=>bif c.size.beq i.size&&e'.beq e&& !(idy==some idx)then
         .ret ⟨[(c.n+d.n)*i.bytes≤140737488355328],[(idx,.dead)],[.vec (cZ c d) e],fun id=>.vec id⟩else .fail "append: size"
        |_=>.fail "append: no vec"
       |.part idx lo n=>.look idx fun
        |some (.vec c e')=>bif c.size.beq i.size then
         .ret ⟨[lo+n+d.n≤c.n],[(idx,.vec (dh c (lo+n) d.n d) e')],[],fun _=>.part idx lo (n+d.n)⟩else .fail "append: size"
        |_=>.fail "append: no vec"
       |_=>.fail "append: what is appended to is not own")
     else .fail "append: another size"
   else .fail "append: element"
  |none=>.fail "append: no element"
 |_=>.fail "append: type"
def ua(P:Program)(t t':TypeId)(x y:AV):RM bC:=
 match P.underlying t,P.underlying t',x,y.de with
 |some (.slice e),some (.int _),.s (.yK c k),some (_,_,j)=>
  (match P.info? e with
   |some i=>bif (1:Nat).ble i.size&&i.bytes.ble 256&&c.size.beq i.size&&i.zero.any (fun z=>fV (shapeOf P e) z.cells.toList&&z.cells.size==i.size)then
    .ret ⟨[0<j,(k:Int)≤c.n+j,(c.n:Int)+j≤4294967296],[],[.vec (cZ c (di (shapeOf P e) j.toNat)) e],fun id=>.vec id⟩else .fail "append: zeros"
   |none=>.fail "append: element")
 |_,_,_,_=>.fail "append: zeros?"
def apa(P:Program)(t:TypeId)(x:AV):RM bC:=
 match P.underlying t,x with
 |some .string,.s (.str s)=>plain [] (.s (.int .i64 s.size))
 |some (.array n _),_=>plain [] (.s (.aV .i64 n))
 |some (.slice _),.s (.ro c)=>plain [] (.s (.int .i64 c.n))
 |some (.slice _),.s (.yK c _)=>plain [] (.s (.int .i64 c.n))
 |some (.slice _),.emp=>plain [] (.s (.aV .i64 0))
 |some (.slice _),.vec id=>.look id fun
  |some (.vec c _)=>plain [] (.s (.int .i64 c.n))
  |_=>.fail "len: no vec"
 |some (.slice _),.part id _ n=>.look id fun
  |some (.vec _ _)=>plain [] (.s (.int .i64 n))
  |_=>.fail "len: no vec"
 |some (.map _ _),.ag id=>.look id fun
  |some (.map _ m)=>plain [] (.s (.int .i64 m.length))
  |_=>.fail "len: no map"
 |_,_=>.fail "len"
def apb(P:Program)(t:TypeId)(x:AV):RM bC:=
 match P.underlying t,x with
 |some (.slice _),.s (.yK _ k)=>plain [] (.s (.oN k))
 |some (.slice _),.vec id=>.look id fun
  |some (.vec c _)=>plain [] (.s (.mj c.n))
  |_=>.fail "cap: no vec"
 |some (.slice _),.part id lo _=>.look id fun
  |some (.vec c _)=>plain [] (.s (.mj (c.n - lo)))
  |_=>.fail "cap: no vec"
 |_,_=>.fail "cap"
def imax(a b:Int):Int:=if b>a then b else a
def pr(a b:Int):Int:=if b<a then b else a
def ak3(mx:Bool)(x y:AV):RM bC:=
 match x.de,y.de with
 |some (k,lx,a),some (k',ly,b)=>bif bG k k' then
  (bif mx then plain [] (mkInt (lx&&ly) k (imax a b))else plain [] (mkInt (lx&&ly) k (pr a b)))else .fail "min: kinds"
 |_,_=>.fail "min"
def gv(d:Int):Option AV→Option Int
 |none=>some d
 |some a=>(a.de).map fun(_,_,n)=>n
def aeg(P:Program)(e:TypeId)(c:aI)(id lo0 n:Nat)(lo hi mx:Option AV):RM bC:=
 match dF P e with
 |some sz=>bif sz.beq c.size then
  (match mx with
   |none=>(match gv 0 lo,gv n hi with
    |some l,some h=>plain [0≤l,l≤h,(lo0:Int)+h≤c.n] (.part id (lo0+l.toNat) (h.toNat - l.toNat))
    |_,_=>.fail "slice: bounds")
   |some m=>(match gv 0 lo,hi.bind AV.de,m.de with
    |some l,some (_,_,h),some (_,_,m)=>plain [0≤l,l≤h,h≤m,(lo0:Int)+m≤c.n] (.s .aQ)
    |_,_,_=>.fail "slice: three"))else .fail "slice: size"
 |none=>.fail "slice: element"
def ahJ(P:Program)(t:TypeId)(x y:AV):RM bC:=
 match P.underlying t with
 |some (.slice e)=>
  match dF P e with
  |some sz=>bif (1:Nat).ble sz then
   xr (shapeOf P e) sz y fun d _=>bif d.size.beq sz then
    (match x with
     |.vec id=>.look id fun
      |some (.vec c e')=>bif c.size.beq sz then
       .ret ⟨[],[(id,.vec (dh c 0 (min d.n c.n) d) e')],[],fun _=>.s (.int .i64 ((min d.n c.n:Nat):Int))⟩else .fail "copy: size"
      |_=>.fail "copy: no vec"
     |.part id lo n=>.look id fun
      |some (.vec c e')=>bif c.size.beq sz then
       .ret ⟨[],[(id,.vec (dh c lo (min d.n n) d) e')],[],fun _=>.s (.int .i64 ((min d.n n:Nat):Int))⟩else .fail "copy: size"
      |_=>.fail "copy: no vec"
     |_=>.fail "copy: not own")else .fail "copy: another size"
   else .fail "copy: size"
  |none=>.fail "copy: element"
 |_=>.fail "copy: type"
def mS{k:IntKind}{m:Nat}(x:CL [.arr k m]):List Int:=x.1
def ahK{k:IntKind}{m:Nat}(ws:List Int):CL [.arr k m]:=(ws,())
def tz(x:AV)(k:IntKind→List Int→Prop→RM bC):RM bC:=
 match x with
 |.s (.str s)=>k .u8 (s.data.toList.map fun b=>(b.toNat:Int)) True
 |.sub id off n=>.look id fun
  |some (.own [.ints q m ws] _)=>k q ((ws.drop off).take n) (off+n≤m)
  |_=>.fail "copy: no numbers"
 |_=>.fail "copy: from what?"
def acS(P:Program)(t:TypeId)(x y:AV):RM bC:=
 match P.underlying t with
 |some (.slice e)=>
  match dF P e with
  |some sz=>bif sz.beq 1 then
   (match x with
    |.sub id off n=>tz y fun q zs p=>.look id fun
      |some (.own [.ints k m ws] e')=>bif bG q k then
       .ret ⟨[p,off+n≤m],[(id,.own [.ints k m (over ws off (min zs.length n) zs)] e')],[],fun _=>.s (.int .i64 ((min zs.length n:Nat):Int))⟩else .fail "copy: kind"
      |_=>.fail "copy: no array"
    |.ko id i j n=>tz y fun q zs p=>.look id fun
      |some (.vec (.ae [.arr k m] xs) e')=>bif bG q k&&(1:Nat).ble m then
       .ret ⟨[p,(mS (xs.getD i (CL.d [.arr k m]))).length=m],[(id,.vec (.ae [.arr k m] (xs.set i (ahK (over (mS (xs.getD i (CL.d [.arr k m]))) j (min zs.length n) zs)))) e')],[],fun _=>.s (.int .i64 ((min zs.length n:Nat):Int))⟩else .fail "copy: kind"
      |_=>.fail "copy: no vec"
    |_=>.fail "copy: not an array")else .fail "copy: size"
  |none=>.fail "copy: element"
 |_=>.fail "copy: type"
def arD:AV→Bool
 |.sub _ _ _|.ko _ _ _ _=>true
 |_=>false
def acT(P:Program)(t:TypeId)(x:AV):RM bC:=
 match P.underlying t,x with
 |some (.slice e),.part id lo n=>
  (match P.info? e with
   |some i=>bif (1:Nat).ble i.size&&i.zero.any (fun z=>fV (shapeOf P e) z.cells.toList&&z.cells.size==i.size)then
    .look id fun
    |some (.vec c e')=>bif c.size.beq i.size then
     .ret ⟨[],[(id,.vec (dh c lo n (di (shapeOf P e) n)) e')],[],fun _=>.bo []⟩else .fail "clear: size"
    |_=>.fail "clear: no vec"
    else .fail "clear: zero"
   |none=>.fail "clear: element")
 |some (.map _ _),.ag id=>.look id fun
  |some (.map ck _)=>.ret ⟨[],[(id,.map ck [])],[],fun _=>.bo []⟩
  |_=>.fail "clear: no map"
 |_,_=>.fail "clear"
def pt(P:Program)(t:TypeId)(l c:AV):RM bC:=
 match P.underlying t,l.de,c.de with
 |some (.slice e),some (_,_,l),some (_,_,c)=>
  (match P.info? e with
   |some i=>bif (1:Nat).ble i.size&&i.bytes.ble 256&&i.zero.any (fun z=>fV (shapeOf P e) z.cells.toList&&z.cells.size==i.size)then
    .ret ⟨[0≤l,l≤c,c≤1073741824],[],[.vec (di (shapeOf P e) l.toNat) e],fun id=>.vec id⟩else .fail "makeSlice: zero"
   |none=>.fail "makeSlice: element")
 |_,_,_=>.fail "makeSlice"
def acU(P:Program)(t:TypeId)(x:AV)(lo hi mx:Option AV):RM bC:=
 match P.underlying t,x with
 |some .string,.s (.str s)=>
  (match gv 0 lo,gv s.size hi,mx with
   |some l,some h,none=>plain [0≤l,l≤h,h≤s.size] (.s (.str (s.extract l.toNat h.toNat)))
   |_,_,_=>.fail "slice: string")
 |some (.slice e),.emp=>(match dF P e,gv 0 lo,gv 0 hi,mx with
  |some _,some l,some h,none=>plain [l=0,h=0] .emp
  |_,_,_,_=>.fail "slice: emp")
 |some (.slice e),.s (.ro c)=>
  (match dF P e with
   |some sz=>bif sz.beq c.size then
    (match mx with
     |none=>(match gv 0 lo,gv c.n hi with
      |some l,some h=>plain [0≤l,l≤h,h≤c.n] (.s (.ro (dv c l.toNat h.toNat)))
      |_,_=>.fail "slice: bounds")
     |some m=>(match gv 0 lo,hi.bind AV.de,m.de with
      |some l,some (_,_,h),some (_,_,m)=>plain [l=0,h=0,m=0] .emp
      |_,_,_=>.fail "slice: three"))else .fail "slice: size"
   |none=>.fail "slice: element")
 |some (.slice e),.s (.yK c k)=>
  (match dF P e,mx with
   |some sz,none=>bif sz.beq c.size then
    (match lo,gv c.n hi with
     |none,some h=>plain [0≤h,h≤c.n] (.s (.yK (dv c 0 h.toNat) k))
     |some l,some h=>(match l.de with
      |some (_,_,l)=>plain [0≤l,l≤h,h≤c.n] (.s (.ro (dv c l.toNat h.toNat)))
      |none=>.fail "slice: bounds")
     |_,_=>.fail "slice: bounds")else .fail "slice: size"
   |_,_=>.fail "slice: element")
 |some (.slice e),.vec id=>.look id fun
  |some (.vec c _)=>aeg P e c id 0 c.n lo hi mx
  |_=>.fail "slice: no vec"
 |some (.slice e),.part id lo0 n=>.look id fun
  |some (.vec c _)=>aeg P e c id lo0 n lo hi mx
  |_=>.fail "slice: no vec"
 |some (.array n e),.ptr id off=>
  (match dF P e,gv 0 lo,gv n hi,mx with
   |some sz,some l,some h,none=>bif sz.beq 1 then plain [0≤l,l≤h,h≤n] (.sub id (off+l.toNat) (h.toNat - l.toNat))else .fail "slice: array"
   |_,_,_,_=>.fail "slice: array")
 |some (.array n e),.gj id i j=>
  (match dF P e,gv 0 lo,gv n hi,mx with
   |some sz,some l,some h,none=>.look id fun
    |some (.vec c _)=>bif sz.beq 1&&(j+n).ble c.size then plain [0≤l,l≤h,h≤n] (.ko id i (j+l.toNat) (h.toNat - l.toNat))else .fail "slice: array"
    |_=>.fail "slice: no vec"
   |_,_,_,_=>.fail "slice: array")
 |_,_=>.fail "slice"
def aL(zs:List Int):ByteArray:=⟨(zs.map fun n=>UInt8.ofNat n.toNat).toArray⟩
def uc(P:Program)(src dst:TypeId)(x:AV):RM bC:=
 match P.underlying src,P.underlying dst with
 |some _,some (.int k)=>(match x.de with
  |some (k',lit,n)=>bif lit then plain [] (.s (.aV k (k.wrap n)))else bif oO k&& !bG k' .u64 then plain [aF n] (.s (.int k n))else plain [] (.s (.int k (k.wrap n)))
  |none=>.fail "convert: no number")
 |some .string,some .string=>(match x with
  |.s (.str s)=>plain [] (.s (.str s))
  |_=>.fail "convert: no string")
 |some (.slice e),some .string=>(match kindOf P e with
  |some .u8=>(match x with
   |.sub id off n=>.look id fun
     |some (.own [.ints .u8 m ws] _)=>plain [off+n≤m] (.s (.str (aL ((ws.drop off).take n))))
     |_=>.fail "convert: no bytes"
   |_=>rowOf (.ints .u8) 1 x fun c _=>match c with
   |.ints .u8 zs=>plain [] (.s (.str (aL zs)))
   |_=>.fail "convert: no bytes")
  |_=>.fail "convert: no bytes")
 |_,_=>.fail "convert"
def bu(s:ByteArray):List Int:=s.data.toList.map fun b=>(b.toNat:Int)
def ud(P:Program)(src dst:TypeId)(x:AV):RM bC:=
 match P.underlying src,P.underlying dst,x with
 |some .string,some (.slice e),.s (.str s)=>(match kindOf P e with
  |some .u8=>plain [s.size≤4294967296] (.s (.ro (.ints .u8 (bu s))))
  |_=>.fail "convert: to bytes")
 |_,_,_=>.fail "convert: to bytes"
def ak4(P:Program)(src dst:TypeId):Bool:=
 match P.underlying src,P.underlying dst with
 |some .string,some (.slice _)=>true
 |_,_=>false
def ue(P:Program)(t:TypeId)(x:AV):RM bC:=
 match P.underlying t,x with
 |some (.array n _),.s (.ro (.ints k zs))=>bif (1:Nat).ble n then plain [n≤zs.length] (.jx (.ae [.arr k n] [(zs.take n,())]) 0 0)else .fail "array: none"
 |_,_=>.fail "array of a slice"
def rl(x:AV):RM bC:=
 match x with
 |.ptr _ _|.jQ _ _ _ _|.jx _ _ _|.fn _ _|.s (.kV _)=>plain [] x
 |_=>.fail "nilCheck"
def rm(fn:Fn)(first ey:List AV):RM bC:=
 match fn,first,ey with
 |.func f,[],[]=>plain [] (.s (.kV f))
 |.func f,[],c::cs=>plain [] (.fn f (c::cs))
 |_,_,_=>.fail "makeFunc"
def auL(P:Program)(t:TypeId):Option CK:=
 match P.underlying t with
 |some (.int k)=>some (.int k)
 |some .bool=>some .bool
 |some .string=>some .str
 |some (.array n e)=>match P.underlying e with
  |some (.int k)=>some (.arr k n)
  |_=>none
 |_=>none
def CK.plain:CK→Bool
 |.int _|.bool|.str|.arr _ _=>true
 |_=>false
def uf(P:Program)(t:TypeId)(ck:CK):Bool:=ck.plain&&
 match(P.info? t).bind (·.zero),ck with
 |some (.int k' 0),.int k=>bG k' k
 |some (.bool false),.bool=>true
 |some (.string s),.str=>s.size.beq 0
 |some (.agg cs),.arr k n=>mP k cs.toList&&cs.toList.length.beq n
 |_,_=>false
def CK.av:(c:CK)→c.V→AV
 |.int k,v=>.s (.int k v)
 |.bool,v=>.s (.bool v)
 |.str,v=>.s (.str v)
 |.arr k n,v=>.ints k n v
 |_,_=>.s .aQ
def CK.rdv:(c:CK)→AV→Option c.V
 |.int k,a=>match a with
  |.s (.int k' x)|.s (.aV k' x)=>bif bG k k' then some x else none
  |_=>none
 |.bool,a=>match a with
  |.s (.bool x)|.s (.aA x)=>some x
  |_=>none
 |.str,a=>match a with
  |.s (.str x)=>some x
  |_=>none
 |.arr k n,a=>match a with
  |.ints k' n' ws=>bif bG k k'&&n.beq n' then some ws else none
  |_=>none
 |_,_=>none
def aeh(P:Program)(t:TypeId):Bool:=
 match P.underlying t with
 |some (.int .i64)=>true
 |_=>false
def yP(P:Program)(t:TypeId)(x i:AV)(ok:Bool):RM bC:=
 match P.underlying t,x,i.de with
 |some (.map kt et),.ag id,some (k,_,n)=>bif aeh P kt&&oO k then
  .look id fun
  |some (.map ck m)=>bif uf P et ck then
   plain [] (bif ok then .bo [ck.av ((fO m n).getD ck.d),.s (.bool (pd m n))]else ck.av ((fO m n).getD ck.d))else .fail "lookup: elements"
  |_=>.fail "lookup: no map"
  else .fail "lookup: keys"
 |_,_,_=>.fail "lookup"
def pv(P:Program)(t:TypeId)(x i v:AV):RM bC:=
 match P.underlying t,x,i.de with
 |some (.map kt _),.ag id,some (k,_,n)=>bif aeh P kt&&oO k then
  .look id fun
  |some (.map ck m)=>(match ck.rdv v with
   |some y=>.ret ⟨[],[(id,.map ck (my m n y))],[],fun _=>.bo []⟩
   |none=>.fail "mapUpdate: elements")
  |_=>.fail "mapUpdate: no map"
  else .fail "mapUpdate: keys"
 |_,_,_=>.fail "mapUpdate"
def ug(P:Program)(t:TypeId)(r:Option AV):RM bC:=
 match P.underlying t,r with
 |some (.map _ et),none=>(match auL P et with
  |some ck=>.ret ⟨[],[],[.map ck []],fun id=>.ag id⟩
  |none=>.fail "makeMap: elements")
 |_,_=>.fail "makeMap"
def acV(x:AV):RM bC:=
 match x with
 |.ptr id 0=>.look id fun
  |some (.iter mid gid ck _ cur)=>.look mid fun
   |some (.wK _ _ arE)=>bif gid.beq arE&&ck.plain then(match cur with
    |some p=>plain [] (.bo [.s (.int .i64 p.1),ck.av p.2])
    |none=>.fail "entry: no step")else .fail "entry: another one"
   |_=>.fail "entry: no map"
  |_=>.fail "entry: no range"
 |_=>.fail "entry"
abbrev ak5:=FuncId→List AV→RM bC
abbrev fb:=Nat→ak5
def iP(P:Program)(f:FuncId):Bool:=
 match P.funcs[f]? with
 |some fn=>fn.body.isSome&& !(fn.name== "runtime.NumGoroutine")
 |none=>false
def apc(P:Program)(f:FuncId):Prop:=
 ∃(fn:Func) (t e tR:TypeId) (size:Nat),P.funcs[f]? =some fn∧(fn.name== "runtime.NumGoroutine")=false∧fn.body.isNone=true∧Extern.findNext fn=none∧Extern.find fn=some (Extern.SlicesOverlaps.overlaps #[t,t] #[tR])∧
  P.underlying t=some (.slice e)∧dF P e=some size
def ownRow:AV→Option Nat
 |.vec id=>some id
 |.part id _ _=>some id
 |_=>none
def rp(P:Program)(f:FuncId)(args:List AV):RM bC:=
 match args with
 |[x,y]=>match ownRow x,ownRow y with
  |some i,some j=>bif i.beq j then .fail "call: no Go body" else
   .look i fun o=>match o with
    |some (.vec c _)=>.look j fun o=>match o with
     |some (.vec d _)=>bif (1:Nat).ble c.size&&(1:Nat).ble d.size then plain [apc P f] (.s (.aA false))else .fail "call: no Go body"
     |_=>.fail "call: no Go body"
    |_=>.fail "call: no Go body"
  |_,_=>.fail "call: no Go body"
 |_=>.fail "call: no Go body"
def aei(P:Program)(S:ak5)(f:FuncId)(args:List AV):RM bC:=
 bif iP P f then S f args else rp P f args
def yQ(P:Program)(t:TypeId):Bool:=
 match P.underlying t with
 |some (.slice _)|some .string=>true
 |_=>false
def aaw(P:Program)(b:Builtin)(ts:List TypeId)(args:List AV):RM bC:=
 match b,ts,args with
 |.len,t::_,[x]=>apa P t x
 |.cap,t::_,[x]=>apb P t x
 |.append,[t,t'],[x,y]=>bif yQ P t' then yO P t x y else ua P t t' x y
 |.min,_,[x,y]=>ak3 false x y
 |.max,_,[x,y]=>ak3 true x y
 |.copy,[t,t'],[x,y]=>bif yQ P t' then(bif arD x then acS P t x y else ahJ P t x y)else .fail "copy: what?"
 |.clear,t::_,[x]=>acT P t x
 |_,_,_=>.fail "builtin"
def p9:BinOp→Bool
 |.eql=>true
 |_=>false
def apd(P:Program)(op:BinOp)(t:TypeId)(x:AV):RM bC:=
 match op with
 |.eql|.neq=>
  match P.underlying t with
  |some (.slice _)=>
   match x with
   |.s (.ro c)=>plain [] (.s (.lV c.n (p9 op)))
   |.emp=>plain [] (.s (.lV 0 (p9 op)))
   |.vec id=>.look id fun o=>match o with
    |some (.vec c _)=>plain [] (.s (.lV c.n (p9 op)))
    |_=>.fail "== nil: no row"
   |_=>.fail "== nil"
  |_=>.fail "== nil: the type"
 |_=>.fail "nil: what?"
def oP:AV→AV
 |.s .pe=>.emp
 |x=>x
def acW:AV→Bool
 |.s .pe=>true
 |_=>false
def ape(P:Program)(t:TypeId)(x:AV):RM bC:=
 match P.underlying t,x with
 |some (.interface _),_=>.fail "interface: of an interface"
 |some _,.s (.int k n)=>plain [] (.s (.ifi t k n))
 |some _,.s (.aV k n)=>plain [] (.s (.ifi t k n))
 |some _,.s (.str s)=>plain [] (.s (.ifs t s))
 |some _,.s (.bool b)=>plain [] (.s (.ifb t b))
 |some _,.s (.aA b)=>plain [] (.s (.ifb t b))
 |_,_=>.fail "interface: of what?"
def ahL(P:Program)(S:ak5)(ev:Operand→AV)(o:Oper):RM bC:=
 match o.op with
 |.move x|.assign x=>plain [] (ev x)
 |.pick c a b=>pf "pick" (ahB (ev c) (ev a) (ev b))
 |.alloc t=>acQ P t
 |.box t x=>ao8 t (ev x)
 |.makeInterface t x=>ape P t (ev x)
 |.build t ps=>acR P t (ps.toList.map fun p=>(p.1,ev p.2))
 |.buildSlice t n ps=>mR P t n (ps.toList.map fun p=>(p.1,ev p.2))
 |.load t a=>aee P t (ev a)
 |.store t a x=>acN P t (ev a) (ev x)
 |.nilCheck x=>rl (ev x)
 |.binOp op t x y _=>pf "binOp" (ak1 P op t (ev x) (ev y))
 |.unOp op _ x=>pf "unOp" (unR op (ev x))
 |.convert a b x=>bif ak4 P a b then ud P a b (ev x)else uc P a b (ev x)
 |.sliceToArrayPointer t x=>ue P t (ev x)
 |.entry x=>acV (ev x)
 |.makeFunc fn a b=>rm fn (a.toList.map ev) (b.toList.map ev)
 |.slice t x l h m=>acU P t (ev x) (l.map ev) (h.map ev) (m.map ev)
 |.fieldAddr t x f=>ph P t (ev x) f
 |.field t x f=>acP P t (ev x) f
 |.indexAddr t x i=>pj P t (ev x) (ev i)
 |.index t x i=>acO P t (ev x) (ev i)
 |.extract x i=>tZ (ev x) i
 |.lookup t x i ok=>yP P t (ev x) (ev i) ok
 |.mapUpdate t x i v|.insert t x i v=>pv P t (ev x) (ev i) (ev v)
 |.makeMap t r=>ug P t (r.map ev)
 |.makeSlice t l c=>pt P t (ev l) (ev c)
 |.call c=>match c.callee with
  |.value f=>match ev f with
   |.s (.kV f)=>aei P S f (c.args.toList.map ev)
   |.fn f ey=>aei P S f (c.args.toList.map ev++ey)
   |_=>.fail "call: what?"
  |.builtin b=>aaw P b c.argTypes.toList (c.args.toList.map ev)
  |_=>.fail "call: invoke"
 |_=>.fail "op"
def apf:AV→Bool
 |.s (.mj _)|.s (.oN _)=>true
 |_=>false
def yR(op:BinOp)(x y:AV):RM bC:=
 match op,x.de,y with
 |.gtr,some (.i64,_,a),.s (.mj b)=>plain [a≤(b:Int)] (.s (.aA false))
 |.gtr,some (.i64,_,a),.s (.oN b)=>plain [(b:Int)≤a] (.s (.aA true))
 |_,_,_=>.fail "cap: compared"
def RM.af5{α:Type}(id:Nat):RM α→RM α
 |.ret a=>.ret a
 |.look j k=>bif j.beq id then(k (some .dead)).af5 id else .look j fun o=>(k o).af5 id
 |.fail w=>.fail w
def RM.lX(id:Nat):RM bC→RM bC
 |.ret q=>.ret {q with up:=(id,.dead)::q.up}
 |.look j k=>.look j fun o=>(k o).lX id
 |.fail w=>.fail w
def ahM(id:Nat)(c:aI)(ev:Operand→AV):Operand→AV:=fun x=>match ev x with
 |.vec j=>bif j.beq id then .s (.ro c)else .vec j
 |a=>a
def giveUp:List Nat→(Operand→AV)→((Operand→AV)→RM bC)→RM bC
 |[],ev,k=>k ev
 |id::ids,ev,k=>.look id fun o=>match o with
  |some (.vec c _)=>((giveUp ids (ahM id c ev) k).af5 id).lX id
  |_=>.fail "give up: no row"
def ahN(ev:Operand→AV)(ps:List (Nat×Operand)):List Nat:=ps.filterMap fun p=>match ev p.2 with
 |.vec j=>some j
 |_=>none
def kf(P:Program)(S:ak5)(ev:Operand→AV)(o:Oper):RM bC:=
 match o.op with
 |.binOp op t x y _=>bif acW (ev y)then apd P op t (oP (ev x))else bif apf (ev y)then yR op (oP (ev x)) (ev y)else pf "binOp" (ak1 P op t (oP (ev x)) (ev y))
 |.buildSlice _ _ ps=>giveUp (ahN ev ps.toList) (fun x=>oP (ev x)) fun ev=>ahL P S ev o
 |_=>ahL P S (fun x=>oP (ev x)) o
end Go.Sx
namespace Go.Sx
open Go
def bw:List Prop→Prop
 |[]=>True
 |p::ps=>p∧bw ps
theorem aZ{k k':IntKind}(h:bG k k'=true):k=k':=by
 cases k<;>cases k'<;>first|rfl|(simp[bG]at h)
theorem mU{k:IntKind}(h:oO k=true):k=.i64:=by
 cases k<;>first|rfl|(simp[oO]at h)
theorem cg{n:Int}(h:aF n):IntKind.i64.wrap n=n:=by
 obtain⟨h1,h2⟩:=h;rw[IntKind.wrap_i64];omega
section
variable{ρ:Nat→Value}{H:aJ}{O:Nat→Prop}{w:World}{P:Program}
theorem aw{x:SV}{v:Value}(h:aR O w x v):ab ρ H O w (.s x) v:=by
 cases x<;>unfold ab<;>first|trivial|exact h
theorem ak{x:SV}{v:Value}(hx:x≠.aQ)(h:ab ρ H O w (.s x) v):aR O w x v:=by
 cases x<;>unfold ab at h<;>first|exact(hx rfl).elim|exact h
theorem bW{x:AV}{v:Value}{k:IntKind}{l:Bool}{n:Int}(h:x.de =some (k,l,n))(hd:ab ρ H O w x v):v=.int k n:=by
 cases x with
 |s x=>
  cases x<;>simp only[AV.de,Option.some.injEq,Prod.mk.injEq,reduceCtorEq]at h
  all_goals
   obtain⟨rfl, -,rfl⟩:=h;have:=ak (by simp) hd;cases this;rfl
 |_=>simp[AV.de]at h
theorem jH{x:AV}{v:Value}{l b:Bool}(h:x.je =some (l,b))(hd:ab ρ H O w x v):v=.bool b:=by
 cases x with
 |s x=>
  cases x<;>simp only[AV.je,Option.some.injEq,Prod.mk.injEq,reduceCtorEq]at h
  all_goals
   obtain⟨-,rfl⟩:=h;have:=ak (by simp) hd;cases this;rfl
 |_=>simp[AV.je]at h
theorem fc{s:ByteArray}{v:Value}(hd:ab ρ H O w (.s (.str s)) v):v=.string s:=by
 have:=ak (by simp) hd;cases this;rfl
theorem gw(l:Bool)(k:IntKind)(n:Int):ab ρ H O w (mkInt l k n) (.int k n):=by
 unfold mkInt;cases l
 ·exact aw (.int k n)
 ·exact aw (.aV k n)
theorem pw(l:Bool)(b:Bool):ab ρ H O w (kJ l b) (.bool b):=by
 unfold kJ;cases l
 ·exact aw (.bool b)
 ·exact aw (.aA b)
theorem kW{l:Bool}{k:IntKind}{n:Int}(h:bw (mO l k n).1):ab ρ H O w (mO l k n).2 (.int k (k.wrap n)):=by
 unfold mO at *;cases l
 ·cases hk:oO k
  ·exact aw (.int _ _)
  ·simp only[hk,cond_true,cond_false,bw,and_true]at h ⊢;obtain rfl:=mU hk;rw[cg h];exact aw (.int _ _)
 ·exact aw (.aV _ _)
theorem gx(op:BinOp)(t:TypeId)(x y:Operand)(k k':IntKind)(a b:Int):(eqGuard op t x y (.int k a) (.int k' b)).run P w=.ok () w:=by
 cases op<;>simp[eqGuard]
theorem aax(op:BinOp)(t:TypeId)(x y:Operand)(a b:ByteArray):(eqGuard op t x y (.string a) (.string b)).run P w=.ok () w:=by
 cases op<;>simp[eqGuard]
theorem yS(op:BinOp)(t:TypeId)(x y:Operand)(a b:Bool):(eqGuard op t x y (.bool a) (.bool b)).run P w=.ok () w:=by
 cases op<;>simp[eqGuard]
theorem mV(op:BinOp)(t:TypeId)(x y:Operand)(a b:Option Addr):(eqGuard op t x y (.pointer a) (.pointer b)).run P w=.ok () w:=by
 cases op<;>simp[eqGuard]
theorem ak6{l:Bool}{k:IntKind}{x y:Int}{q:List Prop×AV}
 (h:(bif l then([y≠0],AV.s (.aV k (k.wrap (x.tdiv y))))else bif oO k then([y≠0,aF (x.tdiv y)],.s (.int k (x.tdiv y)))else([y≠0],.s (.int k (k.wrap (x.tdiv y)))))=q)
 (hn:bw q.1):y≠0∧ab ρ H O w q.2 (.int k (k.wrap (x.tdiv y))):=by
 subst h;cases l
 ·cases hk:oO k
  ·simp only[hk,cond_false,bw,and_true]at hn ⊢;exact⟨hn,aw (.int _ _)⟩
  ·simp only[hk,cond_true,cond_false,bw,and_true]at hn ⊢;obtain rfl:=mU hk;rw[cg hn.2];exact⟨hn.1,aw (.int _ _)⟩
 ·simp only[cond_true,bw,and_true]at hn ⊢;exact⟨hn,aw (.aV _ _)⟩
theorem rq{op:BinOp}{t:TypeId}{k:IntKind}{lx ly:Bool}{x y:Int}{q:List Prop×AV}(h:tY op k lx ly x y=some q)(hn:bw q.1):
 ∃v,(binOp op t (.int k x) (.int k y)).run P w=.ok v w∧ab ρ H O w q.2 v:=by
 cases op<;>simp only[tY,Option.some.injEq,reduceCtorEq]at h
 case add=>subst h;exact⟨_,by simp[binOp,Op.intArith],kW hn⟩
 case sub=>subst h;exact⟨_,by simp[binOp,Op.intArith],kW hn⟩
 case mul=>subst h;exact⟨_,by simp[binOp,Op.intArith],kW hn⟩
 case quo=>
  obtain⟨h0,hd⟩:=ak6 (ρ:=ρ) (H:=H) (O:=O) (w:=w) h hn;exact⟨_,by simp[binOp,Op.intDiv,h0],hd⟩
 case rem=>
  subst h;have h0:y≠0:=by simpa[bw]using hn
  exact⟨_,by simp[binOp,Op.intDiv,h0],gw _ _ _⟩
 case and=>subst h;exact⟨.int k (bF .and k x y),by simp[binOp,Op.intBits,bF],gw _ _ _⟩
 case or=>subst h;exact⟨.int k (bF .or k x y),by simp[binOp,Op.intBits,bF],gw _ _ _⟩
 case xor=>subst h;exact⟨.int k (bF .xor k x y),by simp[binOp,Op.intBits,bF],gw _ _ _⟩
 case andNot=>subst h;exact⟨.int k (bF .andNot k x y),by simp[binOp,Op.intBits,bF],gw _ _ _⟩
 all_goals subst h;exact⟨_,by simp[binOp,Op.intCmp],pw _ _⟩
theorem xt{op:BinOp}{t:TypeId}{k k':IntKind}{l:Bool}{x y:Int}{q:List Prop×AV}(h:acF op k l x y=some q)(hn:bw q.1):
 ∃v,(binOp op t (.int k x) (.int k' y)).run P w=.ok v w∧ab ρ H O w q.2 v:=by
 cases op<;>simp only[acF,Option.some.injEq,reduceCtorEq]at h
 all_goals
  subst h;have h0:0≤y:=by simpa[bw]using hn
  exact⟨_,by simp[binOp,Op.shift,Int.not_lt.2 h0],gw _ _ _⟩
theorem acX(a b:ByteArray):(a.toList==b.toList)=decide (a=b):=by
 rw[ByteArray.toList_eq,ByteArray.toList_eq,Bool.eq_iff_iff];simp only[beq_iff_eq,decide_eq_true_eq];constructor
 ·intro h;cases a;cases b;simp only[ByteArray.mk.injEq]at *;exact Array.toList_inj.1 h
 ·rintro rfl;rfl
theorem af6{op:BinOp}{t:TypeId}{x y:ByteArray}{q:List Prop×AV}(h:acG op x y=some q)(hn:bw q.1):
 ∃v,(binOp op t (.string x) (.string y)).run P w=.ok v w∧ab ρ H O w q.2 v:=by
 cases op<;>simp only[acG,Option.some.injEq,reduceCtorEq]at h
 case add=>
  subst h;have h0:x.size+y.size≤4611686018427387904:=by simpa[bw]using hn
  exact⟨.string (x++y),by simp[binOp,Op.stringOp];omega,aw (.str _)⟩
 all_goals subst h;exact⟨_,by simp only[binOp,Op.stringOp,acX];rfl,by first|exact aw (.bool _)|(simp only[slt,ByteArray.toList_eq];exact aw (.bool _))⟩
theorem apg{op:UnOp}{x:AV}{vx:Value}{q:List Prop×AV}(h:unR op x=some q)(hn:bw q.1)(hx:ab ρ H O w x vx):
 ∃v,(Op.unary op vx).run P w=.ok v w∧ab ρ H O w q.2 v:=by
 unfold unR at h;split at h<;>simp only[Option.some.injEq,reduceCtorEq]at h<;>subst h
 ·have h1:=ak (by simp) hx;cases h1;exact⟨_,by simp only[Op.unary,Sem.run_pure],aw (.bool _)⟩
 ·have h1:=ak (by simp) hx;cases h1;exact⟨_,by simp only[Op.unary,Sem.run_pure],aw (.aA _)⟩
 ·have h1:=ak (by simp) hx;cases h1;exact⟨_,by simp only[Op.unary,Op.intArith,Sem.run_pure],kW hn⟩
 ·have h1:=ak (by simp) hx;cases h1;exact⟨_,by simp only[Op.unary,Op.intArith,Sem.run_pure],kW hn⟩
theorem ahO{c a b:AV}{vc va vb:Value}{q:List Prop×AV}(h:ahB c a b=some q)(hc:ab ρ H O w c vc)(ha:ab ρ H O w a va)(hb:ab ρ H O w b vb):
 ∃t,vc=.bool t∧ab ρ H O w q.2 (if t then va else vb):=by
 unfold ahB at h;split at h
 ·simp only[Option.some.injEq]at h;subst h;have h1:=ak (by simp) hc;cases h1;exact⟨true,rfl,ha⟩
 ·simp only[Option.some.injEq]at h;subst h;have h1:=ak (by simp) hc;cases h1;exact⟨false,rfl,hb⟩
 ·rename_i t;have h1:=ak (by simp) hc;cases h1;refine⟨t,rfl, ?_⟩;split at h
  ·rename_i la x lb y h2 h3;simp only[Option.some.injEq]at h;subst h;obtain rfl:=jH h2 ha;obtain rfl:=jH h3 hb;cases t
   ·exact aw (.bool _)
   ·exact aw (.bool _)
  ·split at h
   ·rename_i k la x k' lb y h2 h3;rw[Bool.cond_eq_ite]at h;split at h
    ·rename_i hk;obtain rfl:=aZ hk;simp only[Option.some.injEq]at h;subst h;obtain rfl:=bW h2 ha;obtain rfl:=bW h3 hb;cases t
     ·exact aw (.int _ _)
     ·exact aw (.int _ _)
    ·cases h
   ·cases h
 ·cases h
end
end Go.Sx
namespace Go.Sx
open Go
def yT(fr:Nat×Nat)(cells:List Value):Prop:=(∀off,off≤cells.length→¬(fr.1≤off∧off<fr.2))∧∀u∈cells,u.oneCell'=true
def unm(fr:Nat×Nat)(n:Nat):Prop:=∀off,off<n→¬(fr.1≤off∧off<fr.2)
theorem yT.unm{fr:Nat×Nat}{cells:List Value}(h:yT fr cells):unm fr cells.length:=fun off ho=>h.1 off (Nat.le_of_lt ho)
theorem yT.over{fr:Nat×Nat}{cells news:List Value}{k:Nat}(h:yT fr cells)(hn:∀v∈news,v.oneCell'=true)(hl:k+news.length≤cells.length):yT fr (cells.take k++news++cells.drop (k+news.length)):=by
 refine⟨fun off ho=>h.1 off ?_,fun u hu=> ?_⟩
 ·simp only[List.length_append,List.length_take,List.length_drop]at ho;omega
 ·simp only[List.mem_append]at hu;rcases hu with(hu|hu)|hu
  ·exact h.2 u (List.mem_of_mem_take hu)
  ·exact hn u hu
  ·exact h.2 u (List.mem_of_mem_drop hu)
def CK.val:(c:CK)→c.V→Value
 |.int k,v=>.int k v
 |.bool,v=>.bool v
 |.str,v=>.string v
 |.arr k _,v=>.agg (List.map (α:=Int) (Value.int k) v).toArray
 |_,_=>undef
def CK.fits:(c:CK)→c.V→Prop
 |.arr _ n,v=>List.length (α:=Int) v=n
 |_,_=>True
structure iQ (ck:CK) (m:List (Int×ck.V)) (es:List MapEntry) (clock:Nat):Prop where
 eq:es.map (fun e=>(e.key,e.val))=m.map (fun p=>(Value.int .i64 p.1,ck.val p.2))
 keys:(m.map (·.1)).Nodup
 xu:(es.map (·.born)).Nodup
 old:∀e∈es,e.born<clock
 fits:∀p∈m,ck.fits p.2
def af7(es:Array MapEntry)(clock:Nat):Value:=.tuple #[.int .i64 clock,.tuple (es.map fun e=>.tuple #[e.key,e.val,.int .i64 (e.born:Int)])]
structure uh (ck:CK) (left:List (Int×ck.V)) (cur:Option (Int×ck.V)) (es:Array MapEntry) (clock:Nat) (seen:Array Nat):Prop where
 eq:(es.toList.filter fun e=> !seen.contains e.born).map (fun e=>(e.key,e.val))=left.map (fun p=>(.int .i64 p.1,ck.val p.2))
 fits:∀p∈left,ck.fits p.2
 xu:(es.toList.map (·.born)).Nodup
 old:∀e∈es.toList,e.born<clock
 cur:∀p,cur=some p→ck.fits p.2∧∃e,e∈es.toList∧seen.back? =some e.born∧e.key=.int .i64 p.1∧e.val=ck.val p.2
def iv(ρ:Nat→Value)(H:aJ)(O:Nat→Prop)(w:World)(root:Value):ad→Prop
 |.dead=>True
 |.map ck m=>∃(b:Nat) (es:Array MapEntry) (clock:Nat),root=.map (some b)∧w.heap[b]? =some (.map es clock)∧iQ ck m es.toList clock
 |.wK ck m gid=>∃(b:Nat) (es:Array MapEntry) (clock:Nat),root=.map (some b)∧w.heap[b]? =some (.map es clock)∧iQ ck m es.toList clock∧ρ gid=af7 es clock∧(H gid).isSome=true
 |.iter mid gid ck left cur=>∃(b mb:Nat) (es:Array MapEntry) (clock:Nat) (seen:Array Nat),root=.pointer (some ⟨b,0,none⟩)∧w.heap[b]? =some (.mapIter (some mb) clock seen clock)∧uh ck left cur es clock seen∧
  ρ gid=af7 es clock∧(H gid).isSome=true∧ρ mid=.map (some mb)∧(H mid).isSome=true
 |.own an e=>∃(b:Nat) (cells:List Value) (fr:Nat×Nat),root=.pointer (some ⟨b,0,none⟩)∧w.heap[b]? =some (.cells cells.toArray e fr)∧unm fr cells.length∧ao ρ H O w an cells
 |.vec c e=>∃(a:Option Addr) (cap:Nat),root=.slice a c.n cap∧c.n≤cap∧cap≤maxLen∧(cap=0∨
  ∃(b o:Nat) (cells:List Value) (fr:Nat×Nat) (us:Nat→Nat→Value),a=some ⟨b,o,none⟩∧w.heap[b]? =some (.cells cells.toArray e fr)∧yT fr cells∧o+cap*c.size≤cells.length∧
   ∀i j,i<c.n→j<c.size→cells[o+i*c.size+j]? =some (us i j)∧aR O w (c.cell i j) (us i j))
structure Sat (ρ:Nat→Value) (H:aJ) (G:Nat→Prop) (w:World):Prop where
 obj:∀id o,H id=some o→iv ρ H (aN ρ H G) w (ρ id) o
 inj:∀i j oi oj b,H i=some oi→H j=some oj→oi.alive=true→oj.alive=true→er (ρ i)=some b→er (ρ j)=some b→i=j
 apart:∀b,Own ρ H b→¬G b
 low:∀b,G b→b<w.heap.size
structure Frm (ρ:Nat→Value) (H:aJ) (w w':World):Prop where
 os:w'.os=w.os
 tape:w'.tape=w.tape
 output:w'.output=w.output
 heap:∀b,b<w.heap.size→¬Own ρ H b→w'.heap[b]? =w.heap[b]?
def Good(ρ:Nat→Value)(H:aJ)(G:Nat→Prop)(w:World)(H':aJ)(r:AV)(v:Value)(w':World):Prop:=
 ∃aB,Sat aB H' G w'∧ab aB H' (aN aB H' G) w' r v∧Step ρ H (aN ρ H G) w aB H' (aN aB H' G) w'∧Frm ρ H w w'
section
variable{ρ aB:Nat→Value}{H H':aJ}{G O O':Nat→Prop}{w w':World}{P:Program}
theorem iv.step(st:Step ρ H O w aB H' O' w'){root:Value}{o:ad}(h:iv ρ H O w root o)(hb:∀b,o.alive=true→er root=some b→w'.heap[b]? =w.heap[b]?):
 iv aB H' O' w' root o:=by
 cases o with
 |dead=>trivial
 |map ck m=>
  obtain⟨b,es,clock,rfl,h1,h2⟩:=h;exact⟨b,es,clock,rfl,by rw[hb b rfl rfl];exact h1,h2⟩
 |wK ck m gid=>
  obtain⟨b,es,clock,rfl,h1,h2,h3,h4⟩:=h;obtain⟨o,ho⟩:=Option.isSome_iff_exists.1 h4;obtain⟨o',dg,_⟩:=st.ez gid o ho;exact⟨b,es,clock,rfl,by rw[hb b rfl rfl];exact h1,h2,by rw[st.xp gid o ho];exact h3,by rw[dg];rfl⟩
 |iter mid gid ck left cur=>
  obtain⟨b,mb,es,clock,seen,rfl,h1,h2,h3,h4,h5,h6⟩:=h;obtain⟨o,ho⟩:=Option.isSome_iff_exists.1 h4;obtain⟨o',dg,_⟩:=st.ez gid o ho;obtain⟨p,hp⟩:=Option.isSome_iff_exists.1 h6;obtain⟨p',yU,_⟩:=st.ez mid p hp;exact⟨b,mb,es,clock,seen,rfl,by rw[hb b rfl rfl];exact h1,h2,by rw[st.xp gid o ho];exact h3,by rw[dg];rfl,by rw[st.xp mid p hp];exact h5,by rw[yU];rfl⟩
 |own an e=>
  obtain⟨b,cells,fr,rfl,h1,h2,h3⟩:=h;exact⟨b,cells,fr,rfl,by rw[hb b rfl rfl];exact h1,h2,h3.step st⟩
 |vec c e=>
  obtain⟨a,cap,rfl,h1,h2,h3⟩:=h;refine⟨a,cap,rfl,h1,h2, ?_⟩;rcases h3 with h3|⟨b,o,cells,fr,us,rfl,h4,h5,h6,h7⟩
  ·exact .inl h3
  ·by_cases hc:cap=0
   ·exact .inl hc
   ·refine .inr ⟨b,o,cells,fr,us,rfl,by rw[hb b rfl (by simp[er,hc])];exact h4,h5,h6,fun i j hi hj=> ?_⟩;obtain⟨h8,h9⟩:=h7 i j hi hj;exact⟨h8,h9.step st.fP st.heap st.size⟩
theorem Good.val(hs:Sat ρ H G w){r:AV}{v:Value}(h:ab ρ H (aN ρ H G) w r v):Good ρ H G w H r v w:=
 ⟨ρ,hs,h,Step.refl _ _ _ _,rfl,rfl,rfl,fun _ _ _=>rfl⟩
theorem gP(hs:Sat ρ H G w){b:Nat}(h:Own ρ H b):b<w.heap.size:=by
 obtain⟨id,o,ho,ha,hb⟩:=h;have dV:=hs.obj id o ho;cases o with
 |dead=>simp[ad.alive]at ha
 |map ck m=>
  obtain⟨b',es,clock,h0,h1,_⟩:=dV;rw[h0]at hb;simp only[er,Option.some.injEq]at hb;subst hb;exact(Array.getElem?_eq_some_iff.1 h1).1
 |wK ck m gid=>
  obtain⟨b',es,clock,h0,h1,_⟩:=dV;rw[h0]at hb;simp only[er,Option.some.injEq]at hb;subst hb;exact(Array.getElem?_eq_some_iff.1 h1).1
 |iter mid gid ck left cur=>
  obtain⟨b',mb,es,clock,seen,h0,h1,_⟩:=dV;rw[h0]at hb;simp only[er,Option.some.injEq]at hb;subst hb;exact(Array.getElem?_eq_some_iff.1 h1).1
 |own an e=>
  obtain⟨b',cells,fr,h0,h1,_⟩:=dV;rw[h0]at hb;simp only[er,Option.some.injEq]at hb;subst hb;exact(Array.getElem?_eq_some_iff.1 h1).1
 |vec c e=>
  obtain⟨a,cap,h0,h1,_,h3⟩:=dV;rw[h0]at hb;rcases h3 with rfl|⟨b',o,cells,fr,us,rfl,h4,_⟩
  ·cases a<;>simp[er]at hb
  ·simp only[er]at hb;split at hb
   ·cases hb
   ·simp only[Option.some.injEq]at hb;subst hb;exact(Array.getElem?_eq_some_iff.1 h4).1
theorem yV(hs:Sat ρ H G w){b:Nat}(h:aN ρ H G b):b<w.heap.size:=h.elim (gP hs) (hs.low b)
theorem rr:∀(x:AV) (cs:List Value),aK ρ H O w x cs→cs.length=x.wide:=by
 intro x cs h;cases x<;>unfold aK at h
 case ints k n ws=>obtain⟨h1,rfl⟩:=h;simp[AV.wide,h1]
 case agg=>exact h.elim
 case bo=>exact h.elim
 all_goals (obtain⟨u,rfl,_⟩:=h;rfl)
theorem aq{cs:List Value}:ao ρ H O w [] cs↔cs=[]:=by unfold ao;exact Iff.rfl
theorem af{a:AV}{aG:List AV}{cs:List Value}:ao ρ H O w (a::aG) cs↔ ∃c1 c2,cs=c1++c2∧aK ρ H O w a c1∧ao ρ H O w aG c2:=by
 rw[ao]
theorem aU{cs:List Value}:bE ρ H O w [] cs↔cs=[]:=by unfold bE;exact Iff.rfl
theorem ax{a:AV}{aG:List AV}{cs:List Value}:bE ρ H O w (a::aG) cs↔ ∃v rest,cs=v::rest∧ab ρ H O w a v∧bE ρ H O w aG rest:=by
 rw[bE]
theorem fi{aG bs:List AV}:∀{cs:List Value},ao ρ H O w (aG++bs) cs↔ ∃c1 c2,cs=c1++c2∧ao ρ H O w aG c1∧ao ρ H O w bs c2:=by
 induction aG with
 |nil=>
  intro cs;simp only[List.nil_append,aq];exact⟨fun h=>⟨[],cs,rfl,rfl,h⟩,fun⟨c1,c2,h1,h2,h3⟩=>by subst h2;subst h1;exact h3⟩
 |cons a aG ih=>
  intro cs;simp only[List.cons_append,af,ih];constructor
  ·rintro⟨c1,c2,rfl,h1,c3,c4,rfl,h2,h3⟩;exact⟨c1++c3,c4,by simp,⟨c1,c3,rfl,h1,h2⟩,h3⟩
  ·rintro⟨c1,c2,rfl,⟨c3,c4,rfl,h1,h2⟩,h3⟩;exact⟨c3,c4++c2,by simp,h1,c4,c2,rfl,h2,h3⟩
theorem iR:∀{aG:List AV} {cs:List Value},ao ρ H O w aG cs→cs.length=fM aG
 |[],cs,h=>by rw[aq.1 h];rfl
 |a::aG,cs,h=>by
  obtain⟨c1,c2,rfl,h1,h2⟩:=af.1 h;simp[fM,rr a c1 h1,iR h2]
theorem fj:∀(an:List AV) (n:Nat) {cs:List Value} {ss:List AV},fg an n=some ss→ao ρ H O w an cs→n≤cs.length∧ao ρ H O w ss (cs.drop n)
 |an,0,cs,ss,h,hd=>by
  cases an<;>(simp only[fg,Option.some.injEq]at h;subst h;exact⟨Nat.zero_le _,by simpa using hd⟩)
 |[],n+1,cs,ss,h,hd=>by simp[fg]at h
 |a::aG,n+1,cs,ss,h,hd=>by
  obtain⟨c1,c2,rfl,h1,h2⟩:=af.1 hd;simp only[fg,Bool.cond_eq_ite]at h;split at h
  ·rename_i hw;have hw:=Nat.le_of_ble_eq_true hw;obtain⟨h3,h4⟩:=fj aG _ h h2;have hl:=rr a c1 h1;refine⟨by simp;omega, ?_⟩;rw[List.drop_append];have e1:c1.drop (n+1)=[]:=List.drop_eq_nil_of_le (by omega);rw[e1,List.nil_append,hl];exact h4
  ·cases h
theorem fk:∀(an:List AV) (n:Nat) {cs:List Value} {ss:List AV},fh an n=some ss→ao ρ H O w an cs→n≤cs.length∧ao ρ H O w ss (cs.take n)
 |an,0,cs,ss,h,hd=>by
  cases an<;>(simp only[fh,Option.some.injEq]at h;subst h;exact⟨Nat.zero_le _,by simp[aq]⟩)
 |[],n+1,cs,ss,h,hd=>by simp[fh]at h
 |a::aG,n+1,cs,ss,h,hd=>by
  obtain⟨c1,c2,rfl,h1,h2⟩:=af.1 hd;simp only[fh,Bool.cond_eq_ite]at h;split at h
  ·rename_i hw;simp only[Bool.and_eq_true]at hw;have hw1:=Nat.le_of_ble_eq_true hw.1;have hw2:=Nat.le_of_ble_eq_true hw.2;simp only[Option.map_eq_some_iff]at h;obtain⟨ss',h3,rfl⟩:=h;obtain⟨h4,h5⟩:=fk aG _ h3 h2;have hl:=rr a c1 h1;refine⟨by simp;omega,af.2 ⟨c1,c2.take (n+1 - a.wide), ?_,h1,h5⟩⟩;rw[List.take_append,hl,List.take_of_length_le (by omega)]
  ·cases h
theorem gy{a:AV}{cs:List Value}(h:aK ρ H O w a cs)(ha:a.wide=1)(hi:∀k n ws,a≠.ints k n ws):∃u,cs=[u]∧u.oneCell'=true∧ab ρ H O w a u:=by
 cases a<;>unfold aK at h
 case ints k n ws=>exact(hi k n ws rfl).elim
 case agg=>exact h.elim
 case bo=>exact h.elim
 case ag id=>obtain⟨u,rfl,h1⟩:=h;exact⟨u,rfl,by unfold az at h1;obtain⟨b,_,rfl,_⟩:=h1;rfl,by unfold ab;exact h1⟩
 case tag id=>obtain⟨u,rfl,h1⟩:=h;exact⟨u,rfl,by unfold az at h1;exact h1.2.1,by unfold ab;exact h1⟩
 case s x=>obtain⟨u,rfl,h1⟩:=h;exact⟨u,rfl,h1.one,aw h1⟩
 case ptr id off=>obtain⟨u,rfl,h1⟩:=h;exact⟨u,rfl,by unfold az at h1;obtain⟨b,_,rfl,_⟩:=h1;rfl,by unfold ab;exact h1⟩
 case jQ id off n i=>obtain⟨u,rfl,h1⟩:=h;exact⟨u,rfl,by unfold az at h1;obtain⟨_,b,_,rfl,_⟩:=h1;rfl,by unfold ab;exact h1⟩
 case jx c m j=>obtain⟨u,rfl,h1⟩:=h;exact⟨u,rfl,by unfold az at h1;obtain⟨b,o,us,rfl,_⟩:=h1;rfl,by unfold ab;exact h1⟩
 case vec id=>obtain⟨u,rfl,h1⟩:=h;exact⟨u,rfl,by unfold az at h1;exact h1.1,by unfold ab;exact h1⟩
 case gj id i j=>obtain⟨u,rfl,h1⟩:=h;exact⟨u,rfl,by unfold az at h1;exact h1.1,by unfold ab;exact h1⟩
 case part id lo n=>obtain⟨u,rfl,h1⟩:=h;exact⟨u,rfl,by unfold az at h1;exact h1.1,by unfold ab;exact h1⟩
 case sub id off n=>obtain⟨u,rfl,h1⟩:=h;exact⟨u,rfl,by unfold az at h1;exact h1.1,by unfold ab;exact h1⟩
 case ko id i j n=>obtain⟨u,rfl,h1⟩:=h;exact⟨u,rfl,by unfold az at h1;exact h1.1,by unfold ab;exact h1⟩
 case emp=>obtain⟨u,rfl,a,rfl⟩:=h;exact⟨_,rfl,rfl,by unfold ab;exact⟨a,rfl⟩⟩
 case fn f ey=>obtain⟨u,rfl,vs,rfl,h1⟩:=h;exact⟨_,rfl,rfl,by unfold ab;exact⟨vs,rfl,h1⟩⟩
theorem jS{a:AV}{u:Value}(ha:a.single=true)(h:ab ρ H O w a u):aK ρ H O w a [u]∧u.oneCell'=true:=by
 cases a<;>simp only[AV.single,reduceCtorEq]at ha
 case s x=>
  have h1:aR O w x u:=ak (by rintro rfl;simp at ha) h;exact⟨by unfold aK;exact⟨u,rfl,h1⟩,h1.one⟩
 case ptr id off=>unfold ab at h;exact⟨by unfold aK;exact⟨u,rfl,h⟩,by unfold az at h;obtain⟨b,_,rfl,_⟩:=h;rfl⟩
 case jQ id off n i=>unfold ab at h;exact⟨by unfold aK;exact⟨u,rfl,h⟩,by unfold az at h;obtain⟨_,b,_,rfl,_⟩:=h;rfl⟩
 case jx c m j=>unfold ab at h;exact⟨by unfold aK;exact⟨u,rfl,h⟩,by unfold az at h;obtain⟨b,o,us,rfl,_⟩:=h;rfl⟩
 case vec id=>unfold ab at h;exact⟨by unfold aK;exact⟨u,rfl,h⟩,by unfold az at h;exact h.1⟩
 case gj id i j=>unfold ab at h;exact⟨by unfold aK;exact⟨u,rfl,h⟩,by unfold az at h;exact h.1⟩
 case part id lo n=>unfold ab at h;exact⟨by unfold aK;exact⟨u,rfl,h⟩,by unfold az at h;exact h.1⟩
 case sub id off n=>unfold ab at h;exact⟨by unfold aK;exact⟨u,rfl,h⟩,by unfold az at h;exact h.1⟩
 case ko id i j n=>unfold ab at h;exact⟨by unfold aK;exact⟨u,rfl,h⟩,by unfold az at h;exact h.1⟩
 case emp=>unfold ab at h;exact⟨by unfold aK;exact⟨u,rfl,h⟩,by obtain⟨a,rfl⟩:=h;rfl⟩
 case fn f ey=>unfold ab at h;exact⟨by unfold aK;exact⟨u,rfl,h⟩,by obtain⟨vs,rfl,_⟩:=h;rfl⟩
 case ag id=>unfold ab at h;exact⟨by unfold aK;exact⟨u,rfl,h⟩,by unfold az at h;obtain⟨b,_,rfl,_⟩:=h;rfl⟩
 case tag id=>unfold ab at h;exact⟨by unfold aK;exact⟨u,rfl,h⟩,by unfold az at h;exact h.2.1⟩
theorem ix{a:AV}(h:∀k n ws,a≠.ints k n ws):a.wide=1:=by
 cases a<;>first|rfl|(exact(h _ _ _ rfl).elim)
end
end Go.Sx
namespace Go.Sx
open Go
section
variable{ρ aB:Nat→Value}{H H':aJ}{G O O':Nat→Prop}{w w':World}{P:Program}
theorem yW{a:AV}(h:∀k n ws,a≠.ints k n ws)(aG:List AV)(off:Nat):cellAt (a::aG) off=match off with|0=>some a|m+1=>cellAt aG m:=by
 cases a<;>first|(cases off<;>rfl)|(exact(h _ _ _ rfl).elim)
theorem tg{a:AV}(h:∀k n ws,a≠.ints k n ws)(aG:List AV)(off:Nat)(v:AV):gu (a::aG) off v=match off with|0=>some (v::aG)|m+1=>(gu aG m v).map (a:: ·):=by
 cases a<;>first|(cases off<;>rfl)|(exact(h _ _ _ rfl).elim)
theorem qa{a:AV}(h:∀k n ws,a≠.ints k n ws)(aG:List AV)(off:Nat):jf (a::aG) off=match off with|0=>none|m+1=>jf aG m:=by
 cases a<;>first|(cases off<;>rfl)|(exact(h _ _ _ rfl).elim)
theorem ui{a:AV}(h:∀k n ws,a≠.ints k n ws)(aG:List AV)(off:Nat)(v:List Int):jR (a::aG) off v=match off with|0=>none|m+1=>(jR aG m v).map (a:: ·):=by
 cases a<;>first|(cases off<;>rfl)|(exact(h _ _ _ rfl).elim)
theorem ru(a:AV):(∃k n ws,a=.ints k n ws)∨∀k n ws,a≠.ints k n ws:=by
 cases a<;>first|(exact .inl ⟨_,_,_,rfl⟩)|(exact .inr (by simp))
theorem cG{k:IntKind}{n:Nat}{ws:List Int}{cs:List Value}:aK ρ H O w (.ints k n ws) cs↔ws.length=n∧cs=ws.map (Value.int k):=by
 unfold aK;exact Iff.rfl
theorem kX:∀(an:List AV) (off:Nat) {cs:List Value} {v:AV},cellAt an off=some v→ao ρ H O w an cs→∃u,cs[off]? =some u∧u.oneCell'=true∧ab ρ H O w v u
 |[],off,cs,v,h,_=>by simp[cellAt]at h
 |a::aG,off,cs,v,h,hd=>by
  obtain⟨c1,c2,rfl,h1,h2⟩:=af.1 hd;rcases ru a with⟨k,n,ws,rfl⟩|ha
  ·obtain⟨hl,rfl⟩:=cG.1 h1;simp only[cellAt,Bool.cond_eq_ite]at h;split at h
   ·rename_i a8;have a8:off<n:=by simpa[Nat.blt,Nat.lt_iff_add_one_le]using a8
    simp only[Option.some.injEq]at h;subst h;have hx:off<ws.length:=by omega
    exact⟨.int k ws[off],by rw[List.getElem?_append_left (by simpa using hx)];simp[hx],rfl,by rw[show ws.getD off 0=ws[off]from by simp[List.getD,hx]];exact aw (.int _ _)⟩
   ·rename_i a8;have a8:¬off<n:=by simpa[Nat.blt,Nat.lt_iff_add_one_le]using a8
    obtain⟨u,h3,h4⟩:=kX aG (off - n) h h2;exact⟨u,by rw[List.getElem?_append_right (by simp;omega)];simpa[hl]using h3,h4⟩
  ·rw[yW ha]at h;obtain⟨u,rfl,h3,h4⟩:=gy h1 (ix ha) ha;cases off with
   |zero=>simp only[Option.some.injEq]at h;subst h;exact⟨u,rfl,h3,h4⟩
   |succ m=>
    obtain⟨u',h5,h6⟩:=kX aG m h h2;exact⟨u',by simpa using h5,h6⟩
theorem lY:∀(an:List AV) (off:Nat) {cs:List Value} {v:AV} {u:Value} {eH:List AV},gu an off v=some eH→ao ρ H O w an cs→v.single=true→ab ρ H O w v u→
 off<cs.length∧ao ρ H O w eH (cs.set off u)
 |[],off,cs,v,u,eH,h,_,_,_=>by simp[gu]at h
 |a::aG,off,cs,v,u,eH,h,hd,hv,hu=>by
  obtain⟨c1,c2,rfl,h1,h2⟩:=af.1 hd;rcases ru a with⟨k,n,ws,rfl⟩|ha
  ·obtain⟨hl,rfl⟩:=cG.1 h1;simp only[gu,Bool.cond_eq_ite]at h;split at h
   ·rename_i a8;have a8:off<n:=by simpa[Nat.blt,Nat.lt_iff_add_one_le]using a8
    split at h
    ·rename_i k' l x hx;split at h
     ·rename_i hk;obtain rfl:=aZ hk;simp only[Option.some.injEq]at h;subst h;obtain rfl:=bW hx hu;refine⟨by simp;omega,af.2 ⟨(ws.set off x).map (Value.int k),c2, ?_,cG.2 ⟨by simp[hl],rfl⟩,h2⟩⟩;rw[List.set_append_left _ _ (by simp;omega),List.map_set]
     ·cases h
    ·cases h
   ·rename_i a8;have a8:¬off<n:=by simpa[Nat.blt,Nat.lt_iff_add_one_le]using a8
    simp only[Option.map_eq_some_iff]at h;obtain⟨ss,h3,rfl⟩:=h;obtain⟨h4,h5⟩:=lY aG (off - n) h3 h2 hv hu;refine⟨by simp;omega,af.2 ⟨_,c2.set (off - n) u, ?_,cG.2 ⟨hl,rfl⟩,h5⟩⟩;rw[List.set_append_right _ _ (by simp;omega)];simp[hl]
  ·rw[tg ha]at h;obtain⟨u0,rfl,h3,h4⟩:=gy h1 (ix ha) ha;cases off with
   |zero=>
    simp only[Option.some.injEq]at h;subst h;exact⟨by simp,af.2 ⟨[u],c2,rfl,(jS hv hu).1,h2⟩⟩
   |succ m=>
    simp only[Option.map_eq_some_iff]at h;obtain⟨ss,h5,rfl⟩:=h;obtain⟨h6,h7⟩:=lY aG m h5 h2 hv hu;exact⟨by simp;omega,af.2 ⟨[u0],c2.set m u,rfl,h1,h7⟩⟩
theorem nY:∀(an:List AV) (off:Nat) {cs:List Value} {k:IntKind} {n:Nat} {ws:List Int},jf an off=some (k,n,ws)→ao ρ H O w an cs→
 ws.length=n∧∃pre post,cs=pre++ws.map (Value.int k)++post∧pre.length=off
 |[],off,cs,k,n,ws,h,_=>by simp[jf]at h
 |a::aG,off,cs,k,n,ws,h,hd=>by
  obtain⟨c1,c2,rfl,h1,h2⟩:=af.1 hd;rcases ru a with⟨k',n',mz,rfl⟩|ha
  ·obtain⟨hl,rfl⟩:=cG.1 h1;simp only[jf,Bool.cond_eq_ite]at h;split at h
   ·rename_i h0;have h0:off=0:=by simpa using h0
    subst h0;simp only[Option.some.injEq,Prod.mk.injEq]at h;obtain⟨rfl,rfl,rfl⟩:=h;exact⟨hl,[],c2,by simp,rfl⟩
   ·split at h
    ·cases h
    ·rename_i a8;have a8:¬off<n':=by simpa[Nat.blt,Nat.lt_iff_add_one_le]using a8
     obtain⟨h3,pre,post,rfl,h4⟩:=nY aG (off - n') h h2;exact⟨h3,mz.map (Value.int k')++pre,post,by simp,by simp;omega⟩
  ·rw[qa ha]at h;obtain⟨u0,rfl,h3,h4⟩:=gy h1 (ix ha) ha;cases off with
   |zero=>cases h
   |succ m=>
    obtain⟨h3,pre,post,rfl,h4⟩:=nY aG m h h2;exact⟨h3,u0::pre,post,by simp,by simp[h4]⟩
theorem mW:∀(an:List AV) (off:Nat) {pre post:List Value} {k:IntKind} {n:Nat} {ws mz:List Int} {eH:List AV},jf an off=some (k,n,ws)→jR an off mz=some eH→mz.length=ws.length→
 ao ρ H O w an (pre++ws.map (Value.int k)++post)→pre.length=off→ao ρ H O w eH (pre++mz.map (Value.int k)++post)
 |[],off,_,_,k,n,ws,_,_,h,_,_,_,_=>by simp[jf]at h
 |a::aG,off,pre,post,k,n,ws,mz,eH,h,hs,hlen,hd,hp=>by
  obtain⟨c1,c2,hc,h1,h2⟩:=af.1 hd;rcases ru a with⟨k',n',ws1,rfl⟩|ha
  ·obtain⟨hl,rfl⟩:=cG.1 h1;simp only[jf,jR,Bool.cond_eq_ite]at h hs;split at h
   ·rename_i h0;have h0':off=0:=by simpa using h0
    subst h0';simp only[Option.some.injEq,Prod.mk.injEq]at h;obtain⟨rfl,rfl,rfl⟩:=h;rw[if_pos h0]at hs;simp only[Option.some.injEq]at hs;subst hs;obtain rfl:pre=[]:=List.eq_nil_of_length_eq_zero hp;simp only[List.nil_append]at hc ⊢;have:=List.append_cancel_left hc;subst this;exact af.2 ⟨_,post,rfl,cG.2 ⟨by omega,rfl⟩,h2⟩
   ·rename_i h0;rw[if_neg h0]at hs;split at h
    ·cases h
    ·rename_i a8;rw[if_neg a8]at hs;have a8:¬off<n':=by simpa[Nat.blt,Nat.lt_iff_add_one_le]using a8
     simp only[Option.map_eq_some_iff]at hs;obtain⟨ss,h3,rfl⟩:=hs;have hpl:(ws1.map (Value.int k')).length≤pre.length:=by simp;omega
     obtain⟨ak7,rfl⟩:∃ak7,pre=ws1.map (Value.int k')++ak7:=by
      rw[List.append_assoc]at hc;obtain⟨x,hx⟩:=List.prefix_of_prefix_length_le (⟨_,rfl⟩:ws1.map (Value.int k')<+:ws1.map (Value.int k')++c2) (⟨_,hc⟩:pre<+:_) hpl;exact⟨x,hx.symm⟩
     simp only[List.append_assoc]at hc ⊢;have hc':=List.append_cancel_left hc;subst hc';have yU:ak7.length=off - n':=by simp at hp;omega
     exact af.2 ⟨_,_,rfl,h1,by simpa using mW aG (off - n') h h3 hlen (by simpa using h2) yU⟩
  ·rw[qa ha]at h;rw[ui ha]at hs;obtain⟨u0,rfl,h3,h4⟩:=gy h1 (ix ha) ha;cases off with
   |zero=>cases h
   |succ m=>
    simp only[Option.map_eq_some_iff]at hs;obtain⟨ss,h5,rfl⟩:=hs;cases pre with
    |nil=>simp at hp
    |cons p ak7=>
     simp only[List.cons_append,List.cons.injEq,List.nil_append]at hc;obtain⟨rfl,hc'⟩:=hc;simp only[List.length_cons,Nat.add_right_cancel_iff]at hp;rw[←hc']at h2;exact af.2 ⟨[p],_,rfl,h1,by simpa using mW aG m h h5 hlen (by simpa using h2) hp⟩
theorem af8{an jr eH:List AV}{off:Nat}{cs vs:List Value}(h:acH an off jr=some eH)(hd:ao ρ H O w an cs)(hb:ao ρ H O w jr vs):
 off+vs.length≤cs.length∧ao ρ H O w eH (cs.take off++vs++cs.drop (off+vs.length)):=by
 unfold acH at h;split at h
 ·rename_i k n ws x;split at h
  ·rename_i k' li z hx;rw[Bool.cond_eq_ite]at h;split at h
   ·rename_i hc;simp only[Bool.and_eq_true]at hc;obtain⟨hk,a8⟩:=hc;have a8:off<n:=Nat.lt_of_lt_of_le (Nat.lt_succ_self _) (Nat.le_of_ble_eq_true a8);obtain rfl:=aZ hk;simp only[Option.some.injEq]at h;subst h;obtain⟨c1,c2,rfl,h1,h2⟩:=af.1 hd;obtain rfl:=aq.1 h2;obtain⟨hl,rfl⟩:=cG.1 h1;obtain⟨d1,d2,rfl,h3,h4⟩:=af.1 hb;obtain rfl:=aq.1 h4
    have hv:d1=[.int k z]:=by
     cases x with
     |s y=>
      unfold aK at h3;obtain⟨u,rfl,h5⟩:=h3;cases y<;>simp only[AV.de,Option.some.injEq,Prod.mk.injEq,reduceCtorEq]at hx
      all_goals
       obtain⟨rfl,_,rfl⟩:=hx;cases h5;rfl
     |_=>simp only[AV.de,reduceCtorEq]at hx
    subst hv;simp only[List.append_nil,List.length_map,List.length_singleton];refine⟨by omega,af.2 ⟨_,[],(List.append_nil _).symm,cG.2 ⟨by rw[List.length_set];exact hl, ?_⟩,aq.2 rfl⟩⟩;rw[List.map_set,List.set_eq_take_append_cons_drop,if_pos (by rw[List.length_map];omega),List.append_assoc];rfl
   ·cases h
  ·cases h
 ·cases h
theorem uj{an jr eH:List AV}{off:Nat}{cs vs:List Value}(h:tx an off jr=some eH)(hd:ao ρ H O w an cs)(hb:ao ρ H O w jr vs):
 off+vs.length≤cs.length∧ao ρ H O w eH (cs.take off++vs++cs.drop (off+vs.length)):=by
 unfold tx at h;split at h
 ·rename_i r hr;simp only[Option.some.injEq]at h;subst h;exact af8 hr hd hb
 split at h
 ·rename_i pre post h1 h2;simp only[Option.some.injEq]at h;subst h;have hl:=iR hb;rw[←hl]at h2;obtain⟨h3,h4⟩:=fk _ _ h1 hd;obtain⟨h5,h6⟩:=fj _ _ h2 hd;exact⟨h5,fi.2 ⟨_,_,rfl,fi.2 ⟨_,_,rfl,h4,hb⟩,h6⟩⟩
 ·cases h
theorem uk(an:List AV){cs:List Value}(h:ao ρ H O w an cs):∀v∈cs,v.oneCell'=true:=by
 induction an generalizing cs with
 |nil=>rw[aq.1 h];simp
 |cons a aG ih=>
  obtain⟨c1,c2,rfl,h1,h2⟩:=af.1 h;intro v hv;rcases List.mem_append.1 hv with hv|hv
  ·rcases ru a with⟨k,n,ws,rfl⟩|ha
   ·obtain⟨hl,rfl⟩:=cG.1 h1;obtain⟨x,_,rfl⟩:=List.mem_map.1 hv;rfl
   ·obtain⟨u,rfl,h3,_⟩:=gy h1 (ix ha) ha;simp only[List.mem_singleton]at hv;subst hv;exact h3
  ·exact ih h2 v hv
theorem qb{x:AV}{v:Value}{an:List AV}(h:x.jq =some an)(hd:ab ρ H O w x v):ao ρ H O w an v.cells.toList:=by
 have one:∀a,a.single=true→ab ρ H O w a v→ao ρ H O w [a] v.cells.toList:=by
  intro a ha hv;obtain⟨h1,h2⟩:=jS ha hv;have:v.cells.toList=[v]:=by cases v<;>first|rfl|(simp[Value.oneCell']at h2)
  rw[this];exact af.2 ⟨[v],[],rfl,h1,aq.2 rfl⟩
 cases x with
 |agg ss=>
  simp only[AV.jq,Option.some.injEq]at h;subst h;unfold ab at hd;obtain⟨cs,rfl,h1⟩:=hd;simpa[Value.cells]using h1
 |ints k n ws=>
  simp only[AV.jq,Option.some.injEq]at h;subst h;unfold ab at hd;obtain⟨hl,rfl⟩:=hd;exact af.2 ⟨ws.map (Value.int k),[],by simp[Value.cells],cG.2 ⟨hl,rfl⟩,aq.2 rfl⟩
 |bo _=>simp[AV.jq]at h
 |s x=>cases x<;>simp only[AV.jq,Option.some.injEq,reduceCtorEq]at h<;>subst h<;>exact one _ rfl hd
 |_=>simp only[AV.jq,Option.some.injEq]at h;subst h;exact one _ rfl hd
theorem kY{an:List AV}{cs:List Value}(h:ao ρ H O w an cs):ab ρ H O w (.kK an) (.agg cs.toArray):=by
 unfold AV.kK;split
 ·obtain⟨c1,c2,rfl,h1,h2⟩:=af.1 h;obtain rfl:=aq.1 h2;obtain⟨hl,rfl⟩:=cG.1 h1;unfold ab;exact⟨hl,by simp⟩
 ·unfold ab;exact⟨cs,rfl,h⟩
end
end Go.Sx
namespace Go.Sx
open Go
def World.cf(w:World)(b:Nat)(o:Obj):World:={w with heap:=w.heap.setIfInBounds b o}
theorem acY{w:World}{b:Nat}{cells:Array Value}{e:TypeId}{fr:Nat×Nat}(hb:w.heap[b]? =some (.cells cells e fr))(hu:unm fr cells.size){off:Nat}(ho:off<cells.size):
 w.frozen? ⟨b,off,none⟩=false:=by
 have:=hu off ho;simp only[World.frozen?,hb,Bool.and_eq_false_imp,decide_eq_true_eq,decide_eq_false_iff_not];intro h1 h2;exact this ⟨h1,h2⟩
theorem aay{w:World}{b:Nat}{cells:Array Value}{e:TypeId}{fr:Nat×Nat}(hb:w.heap[b]? =some (.cells cells e fr))(off:Nat)(v:Value):
 w.setCell ⟨b,off,none⟩ v=World.cf w b (.cells (cells.setIfInBounds off v) e fr):=by
 simp only[World.setCell,World.cf];congr 1;apply Array.ext_getElem?;intro i;rw[Array.getElem?_modify,Array.getElem?_setIfInBounds];by_cases h:b=i
 ·subst h;obtain⟨a8,um⟩:=Array.getElem?_eq_some_iff.1 hb;simp[um,a8]
 ·simp[h]
theorem eO{w:World}{b:Nat}{o o':Obj}(hb:w.heap[b]? =some o):(World.cf w b o').heap[b]? =some o':=by
 have a8:b<w.heap.size:=(Array.getElem?_eq_some_iff.1 hb).1;simp[World.cf,a8]
theorem iy{w:World}{b i:Nat}{o:Obj}(h:i≠b):(World.cf w b o).heap[i]? =w.heap[i]? :=by
 simp only[World.cf];rw[Array.getElem?_setIfInBounds_ne (by omega)]
theorem iS{w:World}{b:Nat}{o:Obj}:(World.cf w b o).heap.size=w.heap.size:=by simp[World.cf]
theorem wM{w:World}{b:Nat}{o o':Obj}:World.cf (World.cf w b o) b o'=World.cf w b o':=by
 simp only[World.cf];congr 1;apply Array.ext_getElem?;intro i;by_cases h:b=i
 ·subst h;simp[Array.getElem?_setIfInBounds]
 ·simp[h]
theorem sC{w:World}{b:Nat}{o:Obj}(hb:w.heap[b]? =some o):World.cf w b o=w:=by
 have:w.heap.setIfInBounds b o=w.heap:=by
  apply Array.ext_getElem?;intro i;by_cases h:b=i
  ·subst h;obtain⟨a8,um⟩:=Array.getElem?_eq_some_iff.1 hb;simp[um,a8]
  ·rw[Array.getElem?_setIfInBounds_ne (by omega)]
 simp only[World.cf,this]
theorem wN{P:Program}{w:World}{b:Nat}{cells:List Value}{e:TypeId}{fr:Nat×Nat}(hb:w.heap[b]? =some (.cells cells.toArray e fr))(hu:unm fr cells.length){off:Nat}(ho:off<cells.length)
 {v:Value} (hv:v.oneCell'=true):(store ⟨b,off,none⟩ v).run P w=.ok () (World.cf w b (.cells (cells.set off v).toArray e fr)):=by
 rw[run_store P w _ v _ hv];have hc:w.cell? ⟨b,off,none⟩=some cells[off]:=by simp[World.cell?,hb,ho]
 have hf:=acY hb (by simpa using hu) (off:=off) (by simpa using ho);simp only[hc,hf,Bool.false_eq_true,if_false,aay hb,List.setIfInBounds_toArray]
theorem aY(b off i:Nat):(⟨b,off,none⟩:Addr).add i=⟨b,off+i,none⟩:=by
 unfold Addr.add;split
 ·rename_i h;subst h;rfl
 ·rfl
theorem bN{P:Program}{b:Nat}{e:TypeId}{fr:Nat×Nat}(off:Nat):∀(vs:List Value) (i:Nat) {w:World} {cells:List Value},w.heap[b]? =some (.cells cells.toArray e fr)→unm fr cells.length→
 off+i+vs.length≤cells.length→(∀v∈vs,v.oneCell'=true)→
 (storeCells ⟨b,off,none⟩ vs i).run P w=.ok () (World.cf w b (.cells (cells.take (off+i)++vs++cells.drop (off+i+vs.length)).toArray e fr))
 |[],i,w,cells,hb,hu,hl,hv=>by
  simp only[storeCells,Sem.run_pure,List.length_nil,Nat.add_zero,List.append_nil,List.take_append_drop];rw[sC hb]
 |v::vs,i,w,cells,hb,hu,hl,hv=>by
  simp only[List.length_cons]at hl;have a8:off+i<cells.length:=by omega
  simp only[storeCells,Sem.run_bind,aY,wN hb hu a8 (hv v (by simp)),Result.andThen_ok];rw[bN off vs (i+1) (eO hb) (by simpa using hu) (by simp;omega) (fun x hx=>hv x (by simp[hx])),wM];congr 4;rw[←Nat.add_assoc,List.take_set,List.drop_set_of_lt (by omega)]
  have e1:(cells.take (off+i+1)).set (off+i) v=cells.take (off+i)++[v]:=by
   rw[List.take_succ_eq_append_getElem a8];rw[List.set_append_right _ _ (by simp;omega)];simp[Nat.min_eq_left (Nat.le_of_lt a8)]
  rw[e1];simp only[List.append_assoc,List.length_cons,List.cons_append,List.nil_append];rw[show off+i+1+vs.length=off+i+(vs.length+1)from by omega]
theorem kZ{w:World}{o:Obj}:(w.alloc o).heap[w.heap.size]? =some o:=by
 show(w.heap.push o)[w.heap.size]? =_;simp
theorem alloc_old{w:World}{o:Obj}{i:Nat}(h:i<w.heap.size):(w.alloc o).heap[i]? =w.heap[i]? :=by
 show(w.heap.push o)[i]? =_;rw[Array.getElem?_push,if_neg (by omega)]
theorem fl{w:World}{o:Obj}:(w.alloc o).heap.size=w.heap.size+1:=by
 show(w.heap.push o).size=_;simp
section
variable{ρ aB:Nat→Value}{H H':aJ}{G O O':Nat→Prop}{w w':World}{P:Program}
def aD(H:aJ)(id:Nat)(o:ad):aJ:=fun j=>if j=id then some o else H j
theorem yX{id:Nat}{o o':ad}(ho:H id=some o)(ha:o.alive=o'.alive)(b:Nat):Own ρ (aD H id o') b↔Own ρ H b:=by
 constructor
 ·rintro⟨j,x,hx,h1,h2⟩;unfold aD at hx;split at hx
  ·rename_i hj;subst hj;simp only[Option.some.injEq]at hx;subst hx;exact⟨j,o,ho,ha.trans h1,h2⟩
  ·exact⟨j,x,hx,h1,h2⟩
 ·rintro⟨j,x,hx,h1,h2⟩;by_cases hj:j=id
  ·subst hj;rw[ho]at hx;cases hx;exact⟨j,o',by simp[aD],ha.symm.trans h1,h2⟩
  ·exact⟨j,x,by simp[aD,hj,hx],h1,h2⟩
theorem yY{id:Nat}{o o':ad}(ho:H id=some o)(ha:o.alive=o'.alive):aN ρ (aD H id o') G=aN ρ H G:=by
 funext b;exact propext (or_congr_left (yX ho ha b))
theorem Good.write(hs:Sat ρ H G w){id:Nat}{o o':ad}(ho:H id=some o)(ha:o.alive=true)(ha':o'.alive=true){b:Nat}(hb:er (ρ id)=some b)
 (ry:∀c' e',o'=.vec c' e'→∃c e,o=.vec c e∧c'.n=c.n∧c'.size=c.size)
 {rz:Obj} {r:AV} {v:Value}
 (dV:iv ρ (aD H id o') (aN ρ H G) (World.cf w b rz) (ρ id) o')
 (hr:ab ρ (aD H id o') (aN ρ H G) (World.cf w b rz) r v):
 Good ρ H G w (aD H id o') r v (World.cf w b rz):=by
 have hh:=yY (ρ:=ρ) (G:=G) ho (ha.trans ha'.symm);have dI:Own ρ H b:=⟨id,o,ho,ha,hb⟩
 have st:Step ρ H (aN ρ H G) w ρ (aD H id o') (aN ρ (aD H id o') G) (World.cf w b rz):=by
  refine⟨fun _ _ _=>rfl,fun j x hx=> ?_,fun c hc=>.inl (by rw[hh]at hc;exact hc),fun c hc hO=> ?_,by rw[iS];exact Nat.le_refl _⟩
  ·by_cases hj:j=id
   ·subst hj;rw[ho]at hx;cases hx;exact⟨o',by simp[aD],ry⟩
   ·exact⟨x,by simp[aD,hj,hx],fun c' e' hc=>⟨c',e',hc,rfl,rfl⟩⟩
  ·exact iy (fun e=>hO (.inl (by subst e;exact dI)))
 refine⟨ρ,⟨fun j x hx=> ?_,fun i j oi oj c h1 h2 h3 h4 h5 h6=> ?_,fun c hc=> ?_,fun c hc=> ?_⟩,by rw[hh];exact hr,st,⟨rfl,rfl,rfl,fun c hc hO=>iy (fun e=>hO (by subst e;exact dI))⟩⟩
 ·by_cases hj:j=id
  ·subst hj;simp only[aD,if_true,Option.some.injEq]at hx;subst hx;rw[hh];exact dV
  ·have xv:H j=some x:=by simpa[aD,hj]using hx
   refine(hs.obj j x xv).step st (fun c uo hc=>iy (fun e=>hj ?_));subst e;exact hs.inj j id x o c xv ho uo ha hc hb
 ·have f:∀i oi,aD H id o' i=some oi→oi.alive=true→∃x,H i=some x∧x.alive=true:=by
   intro i oi hi uo;by_cases eR:i=id
   ·subst eR;exact⟨o,ho,ha⟩
   ·exact⟨oi,by simpa[aD,eR]using hi,uo⟩
  obtain⟨x,hx,hxa⟩:=f i oi h1 h3;obtain⟨y,hy,hya⟩:=f j oj h2 h4;exact hs.inj i j x y c hx hy hxa hya h5 h6
 ·exact hs.apart c ((yX ho (ha.trans ha'.symm) c).1 hc)
 ·rw[iS];exact hs.low c hc
theorem Good.fresh(hs:Sat ρ H G w){n:Nat}(hn:H n=none){o:ad}{obj:Obj}{root:Value}{r:AV}{v:Value}
 {w1:World} (hw:w1.heap=w.heap) (ht:w1.tape=w.tape) (hos:w1.os=w.os) (oF:w1.output=w.output)
 (dP:∀b,er root=some b→b=w.heap.size)
 (dV:iv (fun j=>if j=n then root else ρ j) (aD H n o) (aN (fun j=>if j=n then root else ρ j) (aD H n o) G) (w1.alloc obj) root o)
 (hr:ab (fun j=>if j=n then root else ρ j) (aD H n o) (aN (fun j=>if j=n then root else ρ j) (aD H n o) G) (w1.alloc obj) r v):
 Good ρ H G w (aD H n o) r v (w1.alloc obj):=by
 have bK:(w1.alloc obj).heap.size=w.heap.size+1:=by rw[fl,hw]
 have hold:∀i,i<w.heap.size→(w1.alloc obj).heap[i]? =w.heap[i]? :=fun i hi=>by rw[alloc_old (by rw[hw];exact hi),hw]
 have ne:∀j x,H j=some x→j≠n:=fun j x hx e=>by subst e;rw[hn]at hx;cases hx
 have qc:∀b,Own (fun j=>if j=n then root else ρ j) (aD H n o) b→Own ρ H b∨b=w.heap.size:=by
  rintro b ⟨j,x,hx,h1,h2⟩;by_cases hj:j=n
  ·subst hj;simp only[if_true]at h2;exact .inr (dP b h2)
  ·simp only[aD,hj,if_false]at hx h2;exact .inl ⟨j,x,hx,h1,h2⟩
 have st:Step ρ H (aN ρ H G) w (fun j=>if j=n then root else ρ j) (aD H n o) (aN (fun j=>if j=n then root else ρ j) (aD H n o) G) (w1.alloc obj):=by
  refine⟨fun j x hx=>by simp[ne j x hx],fun j x hx=>⟨x,by simp[aD,ne j x hx,hx],fun c' e' hc=>⟨c',e',hc,rfl,rfl⟩⟩,fun b hb=> ?_,fun b hb _=>hold b hb,by omega⟩;rcases hb with hb|hb
  ·rcases qc b hb with h1|h1
   ·exact .inl (.inl h1)
   ·exact .inr (by omega)
  ·exact .inl (.inr hb)
 refine⟨_,⟨fun j x hx=> ?_,fun i j oi oj b h1 h2 h3 h4 h5 h6=> ?_,fun b hb=> ?_,fun b hb=> ?_⟩,hr,st,⟨hos,ht,oF,fun b hb _=>hold b hb⟩⟩
 ·by_cases hj:j=n
  ·subst hj;simp only[aD,if_true,Option.some.injEq]at hx;subst hx;simp only[if_true];exact dV
  ·have xv:H j=some x:=by simpa[aD,hj]using hx
   simp only[hj,if_false];exact(hs.obj j x xv).step st (fun b uo hb=>hold b (gP hs ⟨j,x,xv,uo,hb⟩))
 ·by_cases hi:i=n<;>by_cases hj:j=n
  ·rw[hi,hj]
  ·simp only[aD,hi,hj,if_true,if_false]at h1 h2 h5 h6;have e:=dP b h5;have:=gP hs ⟨j,oj,h2,h4,h6⟩;omega
  ·simp only[aD,hi,hj,if_true,if_false]at h1 h2 h5 h6;have e:=dP b h6;have:=gP hs ⟨i,oi,h1,h3,h5⟩;omega
  ·simp only[aD,hi,hj,if_false]at h1 h2 h5 h6;exact hs.inj i j oi oj b h1 h2 h3 h4 h5 h6
 ·rcases qc b hb with h1|h1
  ·exact hs.apart b h1
  ·intro hg;have:=hs.low b hg;omega
 ·have:=hs.low b hb;omega
end
end Go.Sx
namespace Go.Sx
open Go
def eW(P:Program)(ρ:Nat→Value)(H:aJ)(O:Nat→Prop)(w:World)(q:bC)(s:Sem Value):Prop:=
 q.up=[]∧q.new=[]∧∃v,s.run P w=.ok v w∧∀base,ab ρ H O w (q.r base) v
section
variable{ρ aB:Nat→Value}{H H':aJ}{G O O':Nat→Prop}{w w':World}{P:Program}
theorem ay{need:List Prop}{r:AV}{q:bC}{s:Sem Value}(h:(plain need r).eval H=some q)(f:bw need→∃v,s.run P w=.ok v w∧ab ρ H O w r v)(hn:bw q.need):eW P ρ H O w q s:=by
 simp only[plain,RM.eval,Option.some.injEq]at h;subst h;obtain⟨v,h1,h2⟩:=f hn;exact⟨rfl,rfl,v,h1,fun _=>h2⟩
theorem gA{t:TypeId}{b:Bool}(h:gN P t=some b)(w:World):(isAgg t).run P w=.ok b w:=by
 unfold gN at h;split at h<;>first|(cases h;rename_i ht;simp[isAgg,run_underlying ht];done)|cases h
theorem oQ{f:Nat→Value}{n j:Nat}{v:Value}(h:((List.range n).map f)[j]? =some v):j<n∧v=f j:=by
 by_cases hj:j<n
 ·rw[List.getElem?_map,List.getElem?_range hj]at h;simp at h;exact⟨hj,h.symm⟩
 ·rw[List.getElem?_eq_none (by simp;omega)]at h;cases h
theorem run_sizeOf{t:TypeId}{n:Nat}(h:dF P t=some n)(w:World):(sizeOf t).run P w=.ok n w:=by
 simp only[dF,Option.map_eq_some_iff]at h;obtain⟨i,hi,rfl⟩:=h;simp[sizeOf,typeInfo,hi]
theorem c8{b:Nat}{cells:List Value}{e:TypeId}{fr:Nat×Nat}(hb:w.heap[b]? =some (.cells cells.toArray e fr))(off:Nat):w.cell? ⟨b,off,none⟩=cells[off]? :=by
 simp[World.cell?,hb]
theorem jg{t:TypeId}{n b off:Nat}{cs:List Value}(ha:gN P t=some true)(hs:dF P t=some n)(hl:cs.length=n)(hc:∀j v,cs[j]? =some v→w.cell? ⟨b,off+j,none⟩=some v):
 (Instr.loadAt t (.pointer (some ⟨b,off,none⟩))).run P w=.ok (.agg cs.toArray) w:=by
 subst hl;have:=run_loadCells_list (P:=P) (w:=w) ⟨b,off,none⟩ cs (fun j v hj=>by rw[aY];exact hc j v hj);simp[Instr.loadAt,Instr.sureAddr,loadVar,gA ha,run_sizeOf hs,this]
theorem jh{t:TypeId}{b off:Nat}{v:Value}(ha:gN P t=some false)(hc:w.cell? ⟨b,off,none⟩=some v):
 (Instr.loadAt t (.pointer (some ⟨b,off,none⟩))).run P w=.ok v w:=by
 simp[Instr.loadAt,Instr.sureAddr,loadVar,gA ha,hc]
theorem nZ(hs:Sat ρ H G w){id b:Nat}{an:List AV}{e:TypeId}(ho:H id=some (.own an e))(hb:ρ id=.pointer (some ⟨b,0,none⟩)):
 ∃cells fr,w.heap[b]? =some (.cells cells.toArray e fr)∧unm fr cells.length∧ao ρ H (aN ρ H G) w an cells:=by
 obtain⟨b',cells,fr,h1,h2⟩:=hs.obj id _ ho;rw[hb]at h1;cases h1;exact⟨cells,fr,h2⟩
theorem af9(hs:Sat ρ H G w){id i b f n cap:Nat}{c:aI}{e:TypeId}(ho:H id=some (.vec c e))(hi:i<c.n)(dP:ρ id=.slice (some ⟨b,f,none⟩) n cap):
 ∃us:Nat→Nat→Value,∀i j,i<c.n→j<c.size→w.cell? ⟨b,f+i*c.size+j,none⟩=some (us i j)∧aR (aN ρ H G) w (c.cell i j) (us i j):=by
 obtain⟨a,af3,h1,h2,h3,h4⟩:=hs.obj id _ ho;rw[dP]at h1;cases h1;rcases h4 with rfl|⟨b',o,cells,fr,us,h5,h6,h7,h8,h9⟩
 ·omega
 ·cases h5;exact⟨us,fun i j hi hj=>⟨by rw[c8 h6];exact(h9 i j hi hj).1,(h9 i j hi hj).2⟩⟩
theorem aaz(n:Nat)(f:Nat→SV)(us:Nat→Value)(h:∀i,i<n→aR O w (f i) (us i)):ao ρ H O w ((List.range n).map fun i=>.s (f i)) ((List.range n).map us):=by
 induction n with
 |zero=>simp[aq]
 |succ n ih=>
  rw[List.range_succ,List.map_append,List.map_append];exact fi.2 ⟨_,_,rfl,ih (fun i hi=>h i (by omega)),af.2 ⟨[us n],[],rfl,by unfold aK;exact⟨_,rfl,h n (by omega)⟩,aq.2 rfl⟩⟩
theorem ml{a b:Nat}(h:a<b):a.blt b=true:=Nat.ble_eq_true_of_le h
theorem qd{a b:Nat}(h:b≤a):a.blt b=false:=by
 cases hh:a.blt b
 ·rfl
 ·exact absurd (Nat.le_of_ble_eq_true hh) (by omega)
theorem px:∀(cs:List CK) (x:CL cs) (us:Nat→Value) (off:Nat),(∀l,l<CL.wide cs→aR O w (CL.cell cs x l) (us (off+l)))→bw (eF (CL.an cs x))→
 ao ρ H O w (CL.an cs x) ((List.range (CL.wide cs)).map fun l=>us (off+l))
 |[],x,us,off,h,hn=>aq.2 (by simp[CL.wide])
 |c::cs,x,us,off,h,hn=>by
  have key:∀a:AV,CL.an (c::cs) x=a::CL.an cs x.2→c.wide=1→(∀y,aR O w (c.cell x.1 0) y→aK ρ H O w a [y])→bw (eF (CL.an cs x.2))→
   ao ρ H O w (CL.an (c::cs) x) ((List.range (CL.wide (c::cs))).map fun l=>us (off+l)):=by
   intro a e hw ha uq;rw[e];simp only[CL.wide,hw];rw[List.range_add,List.map_append,List.map_map];refine af.2 ⟨_,_,rfl, ?_, ?_⟩
   ·have:=h 0 (by simp only[CL.wide];omega);simp only[CL.cell,hw,ml (show 0<1 from by omega),cond_true]at this;simpa using ha _ this
   ·have ih:=px cs x.2 us (off+1) (fun l hl=> ?_) uq
    ·have e2:(fun l=>us (off+1+l))=(fun l=>us (off+l))∘(fun x=>1+x):=by funext l;simp[Function.comp,Nat.add_assoc]
     rw[e2]at ih;exact ih
    ·have:=h (1+l) (by simp only[CL.wide];omega);simp only[CL.cell,hw]at this;rw[qd (show 1≤1+l from by omega),cond_false,show 1+l - 1=l from by omega,←Nat.add_assoc]at this;exact this
  have one:∀{sv:SV} {y:Value},aR O w sv y→aK ρ H O w (.s sv) [y]:=fun hy=>by unfold aK;exact⟨_,rfl,hy⟩
  cases c with
  |arr k n=>
   obtain⟨x1,x2⟩:=x;change List Int at x1;simp only[CL.an,eF]at hn ⊢;obtain⟨hl,uq⟩:=hn;simp only[CL.wide,CK.wide];rw[List.range_add,List.map_append,List.map_map];refine af.2 ⟨_,_,rfl, ?_, ?_⟩
   ·unfold aK;refine⟨hl, ?_⟩;refine List.ext_getElem (by simp[hl]) fun i h1 h2=> ?_;have hi:i<n:=by simpa using h1
    have:=h i (by simp only[CL.wide,CK.wide];omega);simp only[CL.cell,CK.wide]at this;rw[ml hi,cond_true]at this;simp only[CK.cell]at this;have hx:x1.getD i 0=x1[i]'(by rw[hl];exact hi):=by simp[List.getD,hl,hi]
    rw[hx]at this;simp only[List.getElem_map,List.getElem_range];generalize us (off+i)=u at this ⊢;cases this;rfl
   ·have ih:=px cs x2 us (off+n) (fun l hl=> ?_) uq
    ·have e2:(fun l=>us (off+n+l))=(fun l=>us (off+l))∘(fun x=>n+x):=by funext l;simp[Function.comp,Nat.add_assoc]
     rw[e2]at ih;exact ih
    ·have:=h (n+l) (by simp only[CL.wide,CK.wide];omega);simp only[CL.cell,CK.wide]at this;rw[qd (show n≤n+l from by omega),cond_false,show n+l - n=l from by omega,←Nat.add_assoc]at this;exact this
  |int k=>exact key _ rfl rfl (fun y hy=>one hy) (by simpa[CL.an,eF]using hn)
  |bool=>exact key _ rfl rfl (fun y hy=>one hy) (by simpa[CL.an,eF]using hn)
  |str=>exact key _ rfl rfl (fun y hy=>one hy) (by simpa[CL.an,eF]using hn)
  |ints k=>exact key _ rfl rfl (fun y hy=>one hy) (by simpa[CL.an,eF]using hn)
  |strs=>exact key _ rfl rfl (fun y hy=>one hy) (by simpa[CL.an,eF]using hn)
  |bR=>exact key _ rfl rfl (fun y hy=>one hy) (by simpa[CL.an,eF]using hn)
  |rows ds=>exact key _ rfl rfl (fun y hy=>one hy) (by simpa[CL.an,eF]using hn)
theorem sD{wL:Bool}{c:aI}{i j sz:Nat}{t:TypeId}{q:bC}(h:(p8 wL c i j sz).eval H=some q)(hn:bw q.need)(pW:gN P t=some wL)(bK:dF P t=some sz){b o:Nat}{us:Nat→Value}
 (hc:∀l,l<c.size→w.cell? ⟨b,o+l,none⟩=some (us l)∧aR O w (c.cell i l) (us l)):eW P ρ H O w q (Instr.loadAt t (.pointer (some ⟨b,o+j,none⟩))):=by
 unfold p8 at h;cases wL
 ·simp only[cond_false]at h;rw[Bool.cond_eq_ite]at h;split at h
  ·rename_i a8;have a8:j<c.size:=by simpa[Nat.blt,Nat.lt_iff_add_one_le]using a8
   exact ay h (fun _=>⟨us j,jh pW (hc j a8).1,aw (hc j a8).2⟩) hn
  ·cases h
 ·simp only[cond_true]at h;split at h
  ·rename_i cs xs;split at h
   ·rename_i ss hss;refine ay h (fun arF=> ?_) hn;have hd:=px (ρ:=ρ) (H:=H) cs (xs.getD i (CL.d cs)) us 0 (fun l hl=>by rw[Nat.zero_add];exact(hc l hl).2) arF;simp only[Nat.zero_add]at hd;simp only[Option.bind_eq_some_iff]at hss;obtain⟨s1,h4,h5⟩:=hss;obtain⟨h6,h7⟩:=fj _ j h4 hd;obtain⟨h8,h9⟩:=fk s1 sz h5 h7;refine⟨_,jg (cs:=(((List.range (CL.wide cs)).map us).drop j).take sz) pW bK (by simp at h8 ⊢;omega) (fun l v hv=> ?_),kY h9⟩;rw[List.getElem?_take]at hv;split at hv
    ·rw[List.getElem?_drop]at hv;obtain⟨a8,rfl⟩:=oQ hv;rw[Nat.add_assoc];exact(hc (j+l) a8).1
    ·cases hv
   ·cases h
  ·rw[Bool.cond_eq_ite]at h;split at h
   ·rename_i hle;have hle:=Nat.le_of_ble_eq_true hle;refine ay h (fun _=>⟨_,jg (cs:=(List.range sz).map fun l=>us (j+l)) pW bK (by simp) (fun l v hv=> ?_), ?_⟩) hn
    ·obtain⟨a8,rfl⟩:=oQ hv;rw[Nat.add_assoc];exact(hc (j+l) (by omega)).1
    ·unfold ab;exact⟨_,rfl,aaz sz (fun l=>c.cell i (j+l)) (fun l=>us (j+l)) (fun l hl=>(hc (j+l) (by omega)).2)⟩
   ·cases h
theorem aaA{t:TypeId}{a:AV}{va:Value}{q:bC}(h:(aee P t a).eval H=some q)(hn:bw q.need)(hs:Sat ρ H G w)(hd:ab ρ H (aN ρ H G) w a va):
 eW P ρ H (aN ρ H G) w q (Instr.loadAt t va):=by
 unfold aee at h;split at h
 ·rename_i sz wL bK pW;split at h
  ·
   rename_i id off;unfold ab az at hd;obtain⟨b,hb,rfl,_⟩:=hd;simp only[RM.eval]at h;split at h
   ·rename_i an e ho;obtain⟨cells,fr,h1,h2,h3⟩:=nZ hs ho hb;cases wL
    ·simp only[cond_false]at h;split at h
     ·rename_i v hv;obtain⟨u,h4,h5,h6⟩:=kX an off hv h3;exact ay h (fun _=>⟨u,jh pW (by rw[c8 h1];exact h4),h6⟩) hn
     ·cases h
    ·simp only[cond_true]at h;split at h
     ·rename_i ss hss;simp only[Option.bind_eq_some_iff]at hss;obtain⟨s1,h4,h5⟩:=hss;obtain⟨h6,h7⟩:=fj an off h4 h3;obtain⟨h8,h9⟩:=fk s1 sz h5 h7;refine ay h (fun _=>⟨_,jg (cs:=(cells.drop off).take sz) pW bK (by simp at h8 ⊢;omega) (fun j v hj=> ?_),kY h9⟩) hn;rw[c8 h1];rw[List.getElem?_take]at hj;split at hj
      ·simpa using hj
      ·cases hj
     ·cases h
   ·cases h
  ·
   rename_i id off n i;unfold ab az at hd;obtain⟨dd,b,hb,rfl,_⟩:=hd;simp only[RM.eval]at h;split at h
   ·rename_i an e ho;obtain⟨cells,fr,h1,h2,h3⟩:=nZ hs ho hb;split at h
    ·rename_i k m ws ak8;rw[Bool.cond_eq_ite]at h;split at h
     ·rename_i hc;simp only[Bool.and_eq_true,Bool.not_eq_true',Nat.beq_eq]at hc;obtain⟨rfl,rfl⟩:=hc;obtain⟨hl,pre,post,rfl,hp⟩:=nY an off ak8 h3;have hi:i<ws.length:=by omega
      refine ay h (fun _=>⟨.int k (ws.getD i 0),jh pW ?_,aw (.int _ _)⟩) hn;rw[c8 h1,List.append_assoc,List.getElem?_append_right (by omega),List.getElem?_append_left (by simp;omega)];rw[show off+i - pre.length=i from by omega];simp[hi]
     ·cases h
    ·cases h
   ·cases h
  ·
   unfold ab az at hd;obtain⟨b,o,us,rfl,_,_,hc⟩:=hd;exact sD h hn pW bK hc
  ·
   rename_i id i j;unfold ab az at hd;obtain⟨_,o,ho,hv⟩:=hd;simp only[RM.eval]at h;split at h
   ·rename_i c e dg;rw[ho]at dg;cases dg;obtain⟨hi,hj,b,f,n,cap,dP,rfl⟩:=hv c e rfl;obtain⟨us,hc⟩:=af9 hs ho hi dP;exact sD (us:=fun l=>us i l) h hn pW bK (fun l hl=>hc i l hi hl)
   ·cases h
  ·cases h
 ·cases h
end
end Go.Sx
namespace Go.Sx
open Go
section
variable{ρ aB:Nat→Value}{H H':aJ}{G O O':Nat→Prop}{w w':World}{P:Program}
theorem slice_inj{a a':Option Addr}{n n' c c':Nat}(h:Value.slice a n c=.slice a' n' c'):a'=a∧c'=c:=by
 cases h;exact⟨rfl,rfl⟩
theorem mX{t:TypeId}{fs:Array Field}{f:Nat}{fd:Field}{n b off:Nat}(ht:P.underlying t=some (.struct fs))(hf:fs[f]? =some fd)(hs:dF P fd.type=some n)(hn:1≤n)(w:World):
 (Instr.fieldAt t (.pointer (some ⟨b,off,none⟩)) f).run P w=.ok (.pointer (some ⟨b,off+fd.offset,none⟩)) w:=by
 have h0:¬n=0:=by omega
 simp[Instr.fieldAt,run_underlying ht,hf,Instr.sureAddr,fieldPlace,run_sizeOf hs,h0,aY]
theorem wO{t:TypeId}{x:AV}{f:Nat}{vx:Value}{q:bC}(h:(ph P t x f).eval H=some q)(hn:bw q.need)(hd:ab ρ H O w x vx):
 eW P ρ H O w q (Instr.fieldAt t vx f):=by
 unfold ph at h;split at h
 ·rename_i fs ht;split at h
  ·rename_i fd hf;rw[Bool.cond_eq_ite]at h;split at h
   ·rename_i bK
    obtain⟨n,hs,hn1⟩:∃n,dF P fd.type=some n∧1≤n:=by
     cases hs:dF P fd.type with
     |none=>simp[hs]at bK
     |some n=>exact⟨n,rfl,Nat.le_of_ble_eq_true (by simpa[hs]using bK)⟩
    split at h
    ·rename_i id off;unfold ab az at hd;obtain⟨b,hb,rfl,hi⟩:=hd;exact ay h (fun _=>⟨_,mX ht hf hs hn1 w,by unfold ab az;exact⟨b,hb,rfl,hi⟩⟩) hn
    ·rename_i c m j;unfold ab az at hd;obtain⟨b,o,us,rfl,h1⟩:=hd;exact ay h (fun _=>⟨_,mX ht hf hs hn1 w,by unfold ab az;exact⟨b,o,us,by rw[Nat.add_assoc],h1⟩⟩) hn
    ·rename_i id i j;simp only[RM.eval]at h;split at h
     ·rename_i c e ho;rw[Bool.cond_eq_ite]at h;split at h
      ·rename_i a8;have a8:j+fd.offset<c.size:=by simpa[Nat.blt,Nat.lt_iff_add_one_le]using a8
       unfold ab az at hd;obtain⟨h1,o,dg,hv⟩:=hd;rw[ho]at dg;cases dg;obtain⟨hi,hj,b,f',n',cap,dP,rfl⟩:=hv c e rfl;refine ay h (fun _=>⟨_,mX ht hf hs hn1 w, ?_⟩) hn;unfold ab az;refine⟨rfl,_,ho,fun c' e' hc=> ?_⟩;cases hc;exact⟨hi,a8,b,f',n',cap,dP,by rw[Nat.add_assoc]⟩
      ·cases h
     ·cases h
    ·cases h
   ·cases h
  ·cases h
 ·cases h
theorem gQ{t e:TypeId}{n b o len cap:Nat}{k:IntKind}{i:Int}(ht:P.underlying t=some (.slice e))(hs:dF P e=some n)(h0:0≤i)(h1:i<len)(w:World):
 (Instr.indexAt t (.slice (some ⟨b,o,none⟩) len cap) (.int k i)).run P w=.ok (.pointer (some ⟨b,o+i.toNat*n,none⟩)) w:=by
 simp[Instr.indexAt,run_underlying ht,asIntOf,run_sizeOf hs,h0,h1,aY]
theorem gR{t e:TypeId}{n b o len:Nat}{k:IntKind}{i:Int}(ht:P.underlying t=some (.array len e))(hs:dF P e=some n)(h0:0≤i)(h1:i<len)(w:World):
 (Instr.indexAt t (.pointer (some ⟨b,o,none⟩)) (.int k i)).run P w=.ok (.pointer (some ⟨b,o+i.toNat*n,none⟩)) w:=by
 simp[Instr.indexAt,run_underlying ht,asIntOf,Instr.sureAddr,run_sizeOf hs,h0,h1,aY]
theorem wP{t:TypeId}{x i:AV}{vx vi:Value}{q:bC}(h:(pj P t x i).eval H=some q)(hn:bw q.need)(hs:Sat ρ H G w)(hd:ab ρ H (aN ρ H G) w x vx)(hi:ab ρ H (aN ρ H G) w i vi):
 eW P ρ H (aN ρ H G) w q (Instr.indexAt t vx vi):=by
 unfold pj at h;split at h
 ·rename_i k lit n e mY ht;obtain rfl:=bW mY hi;split at h
  ·rename_i sz c bK;rw[Bool.cond_eq_ite]at h;split at h
   ·rename_i he;have he:sz=c.size:=by simpa using he
    have hx:=ak (by simp) hd;cases hx with
    |ro _ a cap us b o h1 h2 h3 h4 h5=>
     refine ay h (fun cv=> ?_) hn;obtain⟨h6,h7,_⟩:=cv;have a8:n.toNat<c.n:=by omega
     obtain⟨rfl,h8,h9⟩:=h3 (by omega);refine⟨_,gQ ht bK h6 h7 w, ?_⟩;unfold ab az;refine⟨b,o+n.toNat*c.size,fun j=>us n.toNat j,by rw[he];rfl,h8,h9,fun j hj=>⟨h4 _ _ a8 hj,h5 _ _ a8 hj⟩⟩
   ·cases h
  ·rename_i sz id bK;simp only[RM.eval]at h;split at h
   ·rename_i c e' ho;rw[Bool.cond_eq_ite]at h;split at h
    ·rename_i he;simp only[Bool.and_eq_true,Nat.beq_eq]at he;obtain⟨rfl,hge⟩:=he;have hge:=Nat.le_of_ble_eq_true hge;unfold ab az at hd;obtain⟨_,o,dg,hv⟩:=hd;rw[ho]at dg;cases dg;obtain rfl:=hv c e' rfl;obtain⟨a,cap,hr,h2,h3,h4⟩:=hs.obj id _ ho;refine ay h (fun cv=> ?_) hn;obtain⟨h6,h7,_⟩:=cv;rcases h4 with h4|⟨b,o,cells,fr,us,rfl,h5,_⟩
     ·omega
     ·refine⟨.pointer (some ⟨b,o+n.toNat*c.size,none⟩),by rw[hr];exact gQ ht bK h6 h7 w, ?_⟩;unfold ab az;refine⟨rfl,_,ho,fun c' e'' hc=> ?_⟩;cases hc;exact⟨by omega,by omega,b,o,c.n,cap,hr,rfl⟩
    ·cases h
   ·cases h
  ·rename_i sz id lo m bK;simp only[RM.eval]at h;split at h
   ·rename_i c e' ho;rw[Bool.cond_eq_ite]at h;split at h
    ·rename_i he;simp only[Bool.and_eq_true,Nat.beq_eq]at he;obtain⟨rfl,hge⟩:=he;have hge:=Nat.le_of_ble_eq_true hge;unfold ab az at hd;obtain⟨_,o,dg,hv⟩:=hd;rw[ho]at dg;cases dg;obtain⟨hlm,a0,auM,a',hr0,awf,rfl,ha'⟩:=hv c e' rfl;obtain⟨a,cap,hr,h2,h3,h4⟩:=hs.obj id _ ho;obtain⟨rfl,rfl⟩:=slice_inj (hr0.symm.trans hr);refine ay h (fun cv=> ?_) hn;obtain⟨h6,h7,_⟩:=cv;rcases h4 with h4|⟨b,o,cells,fr,us,rfl,h5,_⟩
     ·omega
     ·refine⟨.pointer (some ⟨b,o+lo*c.size+n.toNat*c.size,none⟩), ?_, ?_⟩
      ·rw[ha' (by omega)];simp only[Option.map_some,aY];exact gQ ht bK h6 h7 w
      ·unfold ab az;refine⟨rfl,_,ho,fun c' e'' hc=> ?_⟩;cases hc;exact⟨by omega,by omega,b,o,c.n,cap,hr,by rw[Nat.add_mul,Nat.add_assoc];rfl⟩
    ·cases h
   ·cases h
  ·cases h
 ·rename_i k lit n len e mY ht;obtain rfl:=bW mY hi;split at h
  ·rename_i sz id off bK;unfold ab az at hd;obtain⟨b,hb,rfl,du⟩:=hd;cases lit
   ·simp only[cond_false]at h;rw[Bool.cond_eq_ite]at h;split at h
    ·rename_i h1;have h1:sz=1:=by simpa using h1
     subst h1;refine ay h (fun cv=> ?_) hn;obtain⟨h6,h7,_⟩:=cv;exact⟨_,gR ht bK h6 h7 w,by unfold ab az;exact⟨by omega,b,hb,by simp,du⟩⟩
    ·cases h
   ·simp only[cond_true]at h;rw[Bool.cond_eq_ite]at h;split at h
    ·rename_i h1;simp only[Bool.and_eq_true,decide_eq_true_eq]at h1;exact ay h (fun _=>⟨_,gR ht bK h1.1 h1.2 w,by unfold ab az;exact⟨b,hb,rfl,du⟩⟩) hn
    ·cases h
  ·rename_i sz id i0 bK;simp only[RM.eval]at h;split at h
   ·rename_i c e' ho;rw[Bool.cond_eq_ite]at h;split at h
    ·rename_i he;simp only[Bool.and_eq_true,Nat.beq_eq]at he;obtain⟨rfl,hge⟩:=he;unfold ab az at hd;obtain⟨_,o,dg,hv⟩:=hd;rw[ho]at dg;cases dg;obtain⟨hi0,hc0,b,f,n',cap,hr,rfl⟩:=hv c e' rfl;refine ay h (fun cv=> ?_) hn;obtain⟨h6,h7,h8,_⟩:=cv;refine⟨_,gR ht bK h6 h7 w, ?_⟩;unfold ab az;refine⟨rfl,_,ho,fun c' e'' hc=> ?_⟩;cases hc;exact⟨by omega,by omega,b,f,n',cap,hr,by rw[Nat.add_mul];congr 3;omega⟩
    ·cases h
   ·cases h
  ·cases h
 ·cases h
theorem aga{t:TypeId}{x i:AV}{vx vi:Value}{q:bC}(h:(acO P t x i).eval H=some q)(hn:bw q.need)(hd:ab ρ H O w x vx)(hi:ab ρ H O w i vi):
 eW P ρ H O w q (Instr.index t vx vi):=by
 unfold acO at h;split at h
 ·rename_i k lit n len e kk m ws mY ht;obtain rfl:=bW mY hi;rw[Bool.cond_eq_ite]at h;split at h
  ·rename_i hc;simp only[Bool.and_eq_true,Nat.beq_eq]at hc;obtain⟨⟨rfl,pW⟩,bK⟩:=hc;have aph:gN P e=some false:=by cases ha:gN P e with|none=>simp[ha]at pW|some b=>simp[ha]at pW;rw[pW]
   have agb:dF P e=some 1:=by cases ha:dF P e with|none=>simp[ha]at bK|some b=>simp[ha]at bK;rw[bK]
   unfold ab at hd;obtain⟨hl,rfl⟩:=hd;refine ay h (fun cv=> ?_) hn;obtain⟨h6,h7,_⟩:=cv;have a8:n.toNat<ws.length:=by omega
   refine⟨.int kk (ws.getD n.toNat 0), ?_,aw (.int _ _)⟩;simp[Instr.index,run_underlying ht,asIntOf,h6,h7,run_sizeOf agb,part,gA aph,a8]
  ·cases h
 ·rename_i k lit n s mY ht;obtain rfl:=bW mY hi;obtain rfl:=fc hd;refine ay h (fun cv=> ?_) hn;obtain⟨h6,h7,_⟩:=cv;have a8:n.toNat<s.size:=by omega
  refine⟨.int .u8 (aW s n.toNat), ?_,aw (.int _ _)⟩
  have hb:s[n.toNat]? =some s.data[n.toNat]:=by
   simp only[getElem?,decidableGetElem?];rw[dif_pos a8];rfl
  have api:n.toNat<s.data.size:=a8;simp[Instr.index,run_underlying ht,asIntOf,h6,hb,aW];rw[Array.getElem?_eq_getElem api];rfl
 ·rename_i k lit n len e an mY ht;obtain rfl:=bW mY hi;rw[Bool.cond_eq_ite]at h;split at h
  ·rename_i hc;simp only[Bool.and_eq_true]at hc;obtain⟨pW,bK⟩:=hc;have aph:gN P e=some false:=by cases ha:gN P e with|none=>simp[ha]at pW|some b=>simp[ha]at pW;rw[pW]
   have agb:dF P e=some 1:=by cases ha:dF P e with|none=>simp[ha]at bK|some b=>simp[ha]at bK;rw[bK]
   unfold ab at hd;obtain⟨cs,rfl,aej⟩:=hd;split at h
   ·rename_i v hv;obtain⟨u,h4,h5,h6⟩:=kX an _ hv aej;refine ay h (fun cv=>⟨u, ?_,h6⟩) hn;obtain⟨h7,h8,_⟩:=cv;simp[Instr.index,run_underlying ht,asIntOf,h7,h8,run_sizeOf agb,part,gA aph,h4]
   ·cases h
  ·cases h
 ·cases h
theorem agc{t:TypeId}{x:AV}{f:Nat}{vx:Value}{q:bC}(h:(acP P t x f).eval H=some q)(hn:bw q.need)(hd:ab ρ H O w x vx):
 eW P ρ H O w q (Instr.field t vx f):=by
 unfold acP at h;split at h
 ·rename_i fs an ht;unfold ab at hd;obtain⟨cs,rfl,aej⟩:=hd;split at h
  ·rename_i fd hf;split at h
   ·rename_i sz bK pW;split at h
    ·rename_i ss hss;simp only[Option.bind_eq_some_iff]at hss;obtain⟨s1,h4,h5⟩:=hss;obtain⟨h6,h7⟩:=fj an _ h4 aej;obtain⟨h8,h9⟩:=fk s1 sz h5 h7;refine ay h (fun _=>⟨.agg ((cs.drop fd.offset).take sz).toArray, ?_,kY h9⟩) hn;simp[Instr.field,run_underlying ht,hf,asAgg,part,gA pW,run_sizeOf bK,List.extract_eq_take_drop]
    ·cases h
   ·rename_i sz bK pW;split at h
    ·rename_i v hv;obtain⟨u,h4,h5,h6⟩:=kX an _ hv aej;refine ay h (fun _=>⟨u, ?_,h6⟩) hn;simp[Instr.field,run_underlying ht,hf,asAgg,part,gA pW,h4]
    ·cases h
   ·cases h
  ·cases h
 ·cases h
theorem aaB:∀{xs:List AV} {vs:List Value} {i:Nat} {x:AV},bE ρ H O w xs vs→xs[i]? =some x→∃v,vs[i]? =some v∧ab ρ H O w x v
 |[],vs,i,x,_,hx=>by simp at hx
 |a::aG,vs,i,x,h,hx=>by
  obtain⟨v,rest,rfl,h1,h2⟩:=ax.1 h;cases i with
  |zero=>simp at hx;subst hx;exact⟨v,rfl,h1⟩
  |succ i=>obtain⟨u,h3,h4⟩:=aaB (i:=i) h2 (by simpa using hx);exact⟨u,by simpa using h3,h4⟩
theorem aaC{x:AV}{i:Nat}{vx:Value}{q:bC}(h:(tZ x i).eval H=some q)(hn:bw q.need)(hd:ab ρ H O w x vx):
 eW P ρ H O w q (Instr.extract vx i):=by
 unfold tZ at h;split at h
 ·rename_i vs;unfold ab at hd;obtain⟨us,rfl,hl⟩:=hd;split at h
  ·rename_i v hv;obtain⟨u,h1,h2⟩:=aaB hl hv;exact ay h (fun _=>⟨u,by simp[Instr.extract,h1],h2⟩) hn
  ·cases h
 ·cases h
theorem jy(hs:Sat ρ H G w){id:Nat}{c:aI}{e:TypeId}{v:Value}(ho:H id=some (.vec c e))(hd:ab ρ H O w (.vec id) v):∃a cap,v=.slice a c.n cap∧ρ id=v∧c.n≤cap∧cap≤maxLen:=by
 unfold ab az at hd;obtain⟨_,o,dg,hv⟩:=hd;rw[ho]at dg;cases dg;obtain⟨a,cap,h1,h2,h3,_⟩:=hs.obj id _ ho;exact⟨a,cap,by rw[hv c e rfl,h1],(hv c e rfl).symm,h2,h3⟩
theorem iT(hs:Sat ρ H G w){id lo n:Nat}{c:aI}{e:TypeId}{v:Value}(ho:H id=some (.vec c e))(hd:ab ρ H O w (.part id lo n) v):
 lo+n≤c.n∧∃a cap a',ρ id=.slice a c.n cap∧c.n≤cap∧cap≤maxLen∧v=.slice a' n (cap - lo)∧(cap≠lo→a'=a.map (·.add (lo*c.size)))∧(cap≠0→∃b o,a=some ⟨b,o,none⟩):=by
 unfold ab az at hd;obtain⟨_,o,dg,hv⟩:=hd;rw[ho]at dg;cases dg;obtain⟨h0,a,cap,a',h1,h2,h3,h4⟩:=hv c e rfl;obtain⟨a2,qg,g1,g2,g3,g4⟩:=hs.obj id _ ho;obtain⟨rfl,rfl⟩:=slice_inj (h1.symm.trans g1);refine⟨h0,_,_,a',h1,h2,g3,h3,h4,fun hc=> ?_⟩;rcases g4 with g4|⟨b,o,_,_,_,g5,_⟩
 ·exact absurd g4 hc
 ·exact⟨b,o,g5⟩
theorem ak9{t ty:TypeId}{ts:List TypeId}{x:AV}{vx:Value}{q:bC}(h:(apa P t x).eval H=some q)(hn:bw q.need)(hs:Sat ρ H G w)(hd:ab ρ H O w x vx):
 eW P ρ H O w q (Builtin.len_ (t::ts).toArray ty #[vx]):=by
 unfold apa at h;split at h
 ·rename_i s ht;obtain rfl:=fc hd;exact ay h (fun _=>⟨_,by simp[Builtin.len_,run_underlying ht];rfl,aw (.int _ _)⟩) hn
 ·rename_i n e ht;exact ay h (fun _=>⟨_,by cases vx<;>simp[Builtin.len_,run_underlying ht]<;>rfl,aw (.aV _ _)⟩) hn
 ·rename_i e c ht;have hx:=ak (by simp) hd;cases hx;exact ay h (fun _=>⟨_,by simp[Builtin.len_,run_underlying ht];rfl,aw (.int _ _)⟩) hn
 ·rename_i e c k ht;have hx:=ak (by simp) hd;cases hx with
  |yK _ _ a n cap h1 h2=>
   cases h1;exact ay h (fun _=>⟨_,by simp[Builtin.len_,run_underlying ht];rfl,aw (.int _ _)⟩) hn
 ·rename_i e ht;unfold ab at hd;obtain⟨a,rfl⟩:=hd;exact ay h (fun _=>⟨_,by simp[Builtin.len_,run_underlying ht];rfl,aw (.aV _ _)⟩) hn
 ·rename_i e id ht;simp only[RM.eval]at h;split at h
  ·rename_i c e' ho;obtain⟨a,cap,rfl,_⟩:=jy hs ho hd;exact ay h (fun _=>⟨_,by simp[Builtin.len_,run_underlying ht];rfl,aw (.int _ _)⟩) hn
  ·cases h
 ·rename_i e id lo n ht;simp only[RM.eval]at h;split at h
  ·rename_i c e' ho;obtain⟨_,a,cap,a',_,_,_,rfl,_⟩:=iT hs ho hd;exact ay h (fun _=>⟨_,by simp[Builtin.len_,run_underlying ht];rfl,aw (.int _ _)⟩) hn
  ·cases h
 ·rename_i kt et id ht;simp only[RM.eval]at h;split at h
  ·rename_i ck m ho;unfold ab az at hd;obtain⟨b,hb,rfl,_⟩:=hd;obtain⟨b',es,clock,h1,h2,h3⟩:=hs.obj id _ ho;rw[hb]at h1;cases h1;have e1:(getObj b).run P w=.ok (.map es clock) w:=by simp[getObj,Sem.run,h2]
   have e2:es.size=m.length:=by have:=congrArg List.length h3.eq;simpa using this
   exact ay h (fun _=>⟨.int .i64 m.length,by simp[Builtin.len_,run_underlying ht,e1,e2];rfl,aw (.int _ _)⟩) hn
  ·cases h
 ·cases h
theorem ala{t ty:TypeId}{ts:List TypeId}{x:AV}{vx:Value}{q:bC}(h:(apb P t x).eval H=some q)(hn:bw q.need)(hs:Sat ρ H G w)(hd:ab ρ H O w x vx):
 eW P ρ H O w q (Builtin.cap_ (t::ts).toArray ty #[vx]):=by
 unfold apb at h;split at h
 ·rename_i e c k ht;have hx:=ak (by simp) hd;cases hx with
  |yK _ _ a n cap h1 h2=>exact ay h (fun _=>⟨_,by simp[Builtin.cap_,run_underlying ht];rfl,aw (.oN _ _ (by omega))⟩) hn
 ·rename_i e id ht;simp only[RM.eval]at h;split at h
  ·rename_i c e' ho;obtain⟨a,cap,rfl,_,hle,_⟩:=jy hs ho hd;exact ay h (fun _=>⟨_,by simp[Builtin.cap_,run_underlying ht];rfl,aw (.mj _ _ (by omega))⟩) hn
  ·cases h
 ·rename_i e id lo n ht;simp only[RM.eval]at h;split at h
  ·rename_i c e' ho;obtain⟨_,a,cap,a',_,hle,_,rfl,_⟩:=iT hs ho hd;exact ay h (fun _=>⟨_,by simp[Builtin.cap_,run_underlying ht];rfl,aw (.mj _ _ (by omega))⟩) hn
  ·cases h
 ·cases h
theorem oR(op:BinOp)(t:TypeId)(x y:Operand)(a b:Option Addr)(n c m d:Nat):(eqGuard op t x y (.slice a n c) (.slice b m d)).run P w=.ok () w:=by
 cases op<;>simp[eqGuard]
theorem alb{op:BinOp}{t:TypeId}{x:AV}{ox oy:Operand}{vx vy:Value}{q:bC}(h:(apd P op t x).eval H=some q)(hn:bw q.need)(hs:Sat ρ H G w)
 (hx:ab ρ H O w x vx) (hy:vy=.slice none 0 0):eW P ρ H O w q (do eqGuard op t ox oy vx vy;binOp op t vx vy:Sem Value):=by
 subst hy
 have key:∀e,P.underlying t=some (.slice e)→(op=.eql∨op=.neq)→∀a n c n',vx=.slice a n c→(a=none→n'=0)→(plain [] (.s (.lV n' (p9 op)))).eval H=some q→eW P ρ H O w q (do eqGuard op t ox oy vx (.slice none 0 0);binOp op t vx (.slice none 0 0):Sem Value):=by
  rintro e ht wI a n c n' rfl ha h;refine ay h (fun _=> ?_) hn;rcases wI with rfl|rfl
  ·exact⟨.bool a.isNone,by simp[oR,Lib.run_eql_slice_nil w t e a n c 0 0 ht],aw (.lV _ _ _ (fun e=>ha (by simpa[p9]using e)))⟩
  ·exact⟨.bool (!a.isNone),by simp[oR,run_neq_slice_nil_any w t e a n c 0 0 ht],aw (.lV _ _ _ (fun e=>ha (by simpa[p9]using e)))⟩
 have alc:∀x,ab ρ H O w x vx→(op=.eql∨op=.neq)→(match P.underlying t with
  |some (.slice _)=>
   match x with
   |.s (.ro c)=>plain [] (.s (.lV c.n (p9 op)))
   |.emp=>plain [] (.s (.lV 0 (p9 op)))
   |.vec id=>.look id fun o=>match o with
    |some (.vec c _)=>plain [] (.s (.lV c.n (p9 op)))
    |_=>.fail "== nil: no row"
   |_=>.fail "== nil"
  |_=>.fail "== nil: the type" :RM bC).eval H=some q→eW P ρ H O w q (do eqGuard op t ox oy vx (.slice none 0 0);binOp op t vx (.slice none 0 0):Sem Value):=by
  intro x hx wI h;split at h
  ·rename_i e ht;split at h
   ·have h1:=ak (by simp) hx;cases h1 with
    |ro c a cap us b o q1 q2 q3 q4 q5=>exact key e ht wI _ _ _ _ rfl (fun ha=>Decidable.byContradiction fun hn0=>by have:=(q3 (Nat.pos_of_ne_zero hn0)).1;rw[ha]at this;cases this) h
   ·unfold ab at hx;obtain⟨a,rfl⟩:=hx;exact key e ht wI _ _ _ _ rfl (fun _=>rfl) h
   ·simp only[RM.eval]at h;split at h
    ·rename_i ho;obtain⟨a,cap,rfl,dP,hle,_⟩:=jy hs ho hx;refine key e ht wI _ _ _ _ rfl (fun ha=> ?_) h;obtain⟨a2,qg,ahP,_,_,h3⟩:=hs.obj _ _ ho;rw[dP]at ahP;cases ahP;rcases h3 with h3|⟨_,_,_,_,_,h3,_⟩
     ·omega
     ·rw[ha]at h3;cases h3
    ·cases h
   ·cases h
  ·cases h
 unfold apd at h;split at h
 ·exact alc x hx (.inl rfl) h
 ·exact alc x hx (.inr rfl) h
 ·cases h
theorem acZ{op:BinOp}{t:TypeId}{x y:AV}{ox oy:Operand}{vx vy:Value}{q:bC}(h:(yR op x y).eval H=some q)(hn:bw q.need)
 (hx:ab ρ H O w x vx) (hy:ab ρ H O w y vy):eW P ρ H O w q (do eqGuard op t ox oy vx vy;binOp op t vx vy:Sem Value):=by
 unfold yR at h;split at h
 ·rename_i l a b h1;obtain rfl:=bW h1 hx;have hy:=ak (by simp) hy;cases hy with
  |mj _ n hge=>
   refine ay h (fun cv=> ?_) hn;obtain⟨h3,_⟩:=cv;refine⟨.bool false, ?_,aw (.aA _)⟩;have:¬a>n:=by omega
   simp[gx,binOp,Op.intCmp,this]
 ·rename_i l a b h1;obtain rfl:=bW h1 hx;have hy:=ak (by simp) hy;cases hy with
  |oN _ n a8=>
   refine ay h (fun cv=> ?_) hn;obtain⟨h3,_⟩:=cv;refine⟨.bool true, ?_,aw (.aA _)⟩;have:a>n:=by omega
   simp[gx,binOp,Op.intCmp,this]
 ·cases h
theorem k9{x:AV}{v:Value}(h:ab ρ H O w x v):ab ρ H O w (oP x) v:=by
 unfold oP;split
 ·have h1:=ak (by simp) h;cases h1;unfold ab;exact⟨none,rfl⟩
 ·exact h
theorem ahQ{x:AV}{v:Value}(h:ab ρ H O w x v)(hx:acW x=true):v=.slice none 0 0:=by
 unfold acW at hx;split at hx
 ·have h1:=ak (by simp) h;cases h1;rfl
 ·cases hx
theorem aek{ts:Array TypeId}{ty:TypeId}{mx:Bool}{x y:AV}{vx vy:Value}{q:bC}(h:(ak3 mx x y).eval H=some q)(hn:bw q.need)(hx:ab ρ H O w x vx)(hy:ab ρ H O w y vy):
 eW P ρ H O w q (if mx then Builtin.max_ ts ty #[vx,vy]else Builtin.min_ ts ty #[vx,vy]):=by
 unfold ak3 at h;split at h
 ·rename_i k lx a k' ly b h1 h2;obtain rfl:=bW h1 hx;obtain rfl:=bW h2 hy;rw[Bool.cond_eq_ite]at h;split at h
  ·rename_i hk;obtain rfl:=aZ hk;cases mx
   ·exact ay h (fun _=>⟨_,by simp[run_min_int2,pr],gw _ _ _⟩) hn
   ·exact ay h (fun _=>⟨_,by simp[run_max_int2,imax],gw _ _ _⟩) hn
  ·cases h
 ·cases h
theorem yZ{x:AV}{vx:Value}{q:bC}(h:(rl x).eval H=some q)(hn:bw q.need)(hd:ab ρ H O w x vx)(e:Operand→Value)(o:Oper)(y:Operand)(ho:o.op=.nilCheck y)(he:e y=vx):
 q.up=[]∧q.new=[]∧(execOp e o).run P w=.ok (.value vx) w∧∀base,ab ρ H O w (q.r base) vx:=by
 have fin:∀r,(plain [] r).eval H=some q→r=x→(execOp e o).run P w=.ok (.value vx) w→q.up=[]∧q.new=[]∧(execOp e o).run P w=.ok (.value vx) w∧∀base,ab ρ H O w (q.r base) vx:=by
  intro r hr hx ji;simp only[plain,RM.eval,Option.some.injEq]at hr;subst hr;subst hx;exact⟨rfl,rfl,ji,fun _=>hd⟩
 unfold rl at h;split at h
 ·unfold ab az at hd;obtain⟨b,_,rfl,_⟩:=hd;exact fin _ h rfl (by simp[execOp,ho,he])
 ·unfold ab az at hd;obtain⟨_,b,_,rfl,_⟩:=hd;exact fin _ h rfl (by simp[execOp,ho,he])
 ·unfold ab az at hd;obtain⟨b,o',us,rfl,_⟩:=hd;exact fin _ h rfl (by simp[execOp,ho,he])
 ·unfold ab at hd;obtain⟨vs,rfl,_⟩:=hd;exact fin _ h rfl (by simp[execOp,ho,he])
 ·have h1:=ak (by simp) hd;cases h1;exact fin _ h rfl (by simp[execOp,ho,he])
 ·cases h
theorem y3{fn:Fn}{first ey:List AV}{vf vc:List Value}{q:bC}(h:(rm fn first ey).eval H=some q)(hn:bw q.need)(hf:bE ρ H O w first vf)(hc:bE ρ H O w ey vc):
 eW P ρ H O w q (Instr.makeFunc fn vf.toArray vc.toArray):=by
 unfold rm at h;split at h
 ·rename_i f;obtain rfl:=aU.1 hf;obtain rfl:=aU.1 hc;exact ay h (fun _=>⟨_,rfl,aw (.kV f)⟩) hn
 ·rename_i f c cs;obtain rfl:=aU.1 hf;exact ay h (fun _=>⟨_,rfl,by unfold ab;exact⟨vc,rfl,hc⟩⟩) hn
 ·cases h
end
end Go.Sx
namespace Go.Sx
open Go
section
variable{ρ aB:Nat→Value}{H H':aJ}{G O O':Nat→Prop}{w w':World}{P:Program}
def mZ(ρ:Nat→Value)(H:aJ)(O:Nat→Prop)(w:World):Option AV→Option Value→Prop
 |none,none=>True
 |some a,some v=>ab ρ H O w a v
 |_,_=>False
theorem ch{d n:Int}{o:Option AV}{vo:Option Value}(h:gv d o=some n)(hd:mZ ρ H O w o vo):(vo=none∧n=d)∨∃k,vo=some (.int k n):=by
 cases o with
 |none=>
  cases vo with
  |none=>simp only[gv,Option.some.injEq]at h;exact .inl ⟨rfl,h.symm⟩
  |some v=>exact hd.elim
 |some a=>
  cases vo with
  |none=>exact hd.elim
  |some v=>
   simp only[gv,Option.map_eq_some_iff]at h;obtain⟨⟨k,l,m⟩,h1,rfl⟩:=h;exact .inr ⟨k,by rw[bW h1 hd]⟩
theorem n6(c:aI){l h:Nat}(_hl:l≤h)(hh:h≤c.n):(dv c l h).n=h - l:=by
 cases c<;>simp only[dv,aI.n,List.length_drop,List.length_take]at * <;>omega
theorem jz(c:aI)(l h:Nat):(dv c l h).size=c.size:=by cases c<;>rfl
theorem ahR{α:Type}(zs:List α)(d:α){l h i:Nat}(hi:i<h - l):((zs.take h).drop l).getD i d=zs.getD (l+i) d:=by
 simp only[List.getD,List.getElem?_drop,List.getElem?_take];rw[if_pos (by omega)]
theorem jA(c:aI){l h i:Nat}(j:Nat)(hi:i<h - l):(dv c l h).cell i j=c.cell (l+i) j:=by
 cases c<;>simp only[dv,aI.cell,ahR _ _ hi]
theorem aaD{s:ByteArray}{lo hi:Option Value}{l h:Int}(hl:(lo=none∧l=0)∨∃k,lo=some (.int k l))(hh:(hi=none∧h=(s.size:Int))∨∃k,hi=some (.int k h))
 (h0:0≤l) (h1:l≤h) (h2:h≤s.size) {t:TypeId} (ht:P.underlying t=some .string) (w:World):
 (Instr.sliceAt t (.string s) lo hi none).run P w=.ok (.string (s.extract l.toNat h.toNat)) w:=by
 have hle:l≤((h.toNat:Nat):Int):=by omega
 rcases hl with⟨rfl,rfl⟩|⟨k,rfl⟩<;>rcases hh with⟨rfl,rfl⟩|⟨k',rfl⟩
 ·simp[Instr.sliceAt,Instr.slice,run_underlying ht,Instr.sliceBounds]
 ·simp[Instr.sliceAt,Instr.slice,run_underlying ht,Instr.sliceBounds,run_sliceBound _ _ _ _ _ h1 h2]
 ·simp[Instr.sliceAt,Instr.slice,run_underlying ht,Instr.sliceBounds,run_sliceBound _ _ _ _ _ h0 h1]
 ·simp[Instr.sliceAt,Instr.slice,run_underlying ht,Instr.sliceBounds,run_sliceBound _ _ _ _ _ (show 0≤h by omega) h2,run_sliceBound _ _ _ _ _ h0 hle]
theorem ld{a:Option Addr}{n cap:Nat}{lo hi:Option Value}{l h:Int}(hl:(lo=none∧l=0)∨∃k,lo=some (.int k l))(hh:(hi=none∧h=(n:Int))∨∃k,hi=some (.int k h))
 (h0:0≤l) (h1:l≤h) (h2:h≤cap) {t e:TypeId} (ht:P.underlying t=some (.slice e)) {sz:Nat} (hs:dF P e=some sz) (w:World):
 (Instr.sliceAt t (.slice a n cap) lo hi none).run P w=.ok (.slice (if cap=l.toNat then a else a.map (·.add (l.toNat*sz))) (h.toNat - l.toNat) (cap - l.toNat)) w:=by
 have hle:l≤((h.toNat:Nat):Int):=by omega
 rcases hl with⟨rfl,rfl⟩|⟨k,rfl⟩<;>rcases hh with⟨rfl,rfl⟩|⟨k',rfl⟩
 ·simp[Instr.sliceAt,Instr.slice,run_underlying ht,Instr.sliceBounds,run_sizeOf hs]
 ·simp[Instr.sliceAt,Instr.slice,run_underlying ht,Instr.sliceBounds,run_sliceBound _ _ _ _ _ h1 h2,run_sizeOf hs]
 ·simp[Instr.sliceAt,Instr.slice,run_underlying ht,Instr.sliceBounds,run_sliceBound _ _ _ _ _ h0 h1,run_sizeOf hs]
 ·simp[Instr.sliceAt,Instr.slice,run_underlying ht,Instr.sliceBounds,run_sliceBound _ _ _ _ _ (show 0≤h by omega) h2,run_sliceBound _ _ _ _ _ h0 hle,run_sizeOf hs]
theorem sF{b o n:Nat}{lo hi:Option Value}{l h:Int}(hl:(lo=none∧l=0)∨∃k,lo=some (.int k l))(hh:(hi=none∧h=(n:Int))∨∃k,hi=some (.int k h))
 (h0:0≤l) (h1:l≤h) (h2:h≤n) {t e:TypeId} (ht:P.underlying t=some (.array n e)) (hs:dF P e=some 1) (w:World):
 ∃a,(Instr.sliceAt t (.pointer (some ⟨b,o,none⟩)) lo hi none).run P w=.ok (.slice a (h.toNat - l.toNat) (n - l.toNat)) w∧(h.toNat - l.toNat≠0→a=some ⟨b,o+l.toNat,none⟩):=by
 have hle:l≤((h.toNat:Nat):Int):=by omega
 refine⟨some (if n=l.toNat then⟨b,o,none⟩else(⟨b,o,none⟩:Addr).add (l.toNat*1)), ?_,fun cv=>by rw[if_neg (by omega),aY,Nat.mul_one]⟩;rcases hl with⟨rfl,rfl⟩|⟨k,rfl⟩<;>rcases hh with⟨rfl,rfl⟩|⟨k',rfl⟩
 ·simp[Instr.sliceAt,Instr.sureAddr,run_underlying ht,Instr.sliceBounds,run_sizeOf hs]
 ·simp[Instr.sliceAt,Instr.sureAddr,run_underlying ht,Instr.sliceBounds,run_sliceBound _ _ _ _ _ h1 h2,run_sizeOf hs]
 ·simp[Instr.sliceAt,Instr.sureAddr,run_underlying ht,Instr.sliceBounds,run_sliceBound _ _ _ _ _ h0 h1,run_sizeOf hs]
 ·simp[Instr.sliceAt,Instr.sureAddr,run_underlying ht,Instr.sliceBounds,run_sliceBound _ _ _ _ _ (show 0≤h by omega) h2,run_sliceBound _ _ _ _ _ h0 hle,run_sizeOf hs]
theorem ac0{c:aI}{v:Value}(hx:aR O w (.ro c) v){l h:Nat}(hl:l≤h)(hh:h≤c.n):∃a cap,v=.slice a c.n cap∧c.n≤cap∧
 ∀sz,sz=c.size→aR O w (.ro (dv c l h)) (.slice (if cap=l then a else a.map (·.add (l*sz))) (h - l) (cap - l)):=by
 cases hx with
 |ro _ a cap us b o h1 h2 h3 h4 h5=>
  refine⟨a,cap,rfl,h1, ?_⟩;rintro sz rfl;have hn:=n6 c hl hh;have bK:=jz c l h;have key:=aR.ro (O:=O) (w:=w) (dv c l h) (if cap=l then a else a.map (·.add (l*c.size))) (cap - l) (fun i j=>us (l+i) j) b (o+l*c.size) (by omega) (by omega)
   (fun h0=>by
     obtain⟨rfl,h6,h7⟩:=h3 (by omega);refine⟨?_,h6,h7⟩;rw[if_neg (by omega)];simp only[Option.map_some,aY])
   (fun i j hi hj=>by
     rw[hn]at hi;rw[bK]at hj ⊢;have:=h4 (l+i) j (by omega) hj;rw[show o+l*c.size+i*c.size+j=o+(l+i)*c.size+j from by rw[Nat.add_mul];omega];exact this)
   (fun i j hi hj=>by
     rw[hn]at hi;rw[bK]at hj;rw[jA c j hi];exact h5 _ _ (by omega) hj)
  rw[hn]at key;exact key
theorem ahS(a:Option Addr)(hf:∃b o,a=some ⟨b,o,none⟩)(x y:Nat):(a.map (·.add x)).map (·.add y)=a.map (·.add (x+y)):=by
 obtain⟨b,o,rfl⟩:=hf;simp only[Option.map_some,aY,Nat.add_assoc]
theorem aaE{t e e':TypeId}{c:aI}{id lo0 n:Nat}{lo hi mx:Option AV}{vlo vhi wQ:Option Value}{q:bC}(h:(aeg P e c id lo0 n lo hi mx).eval H=some q)(hn:bw q.need)
 (ht:P.underlying t=some (.slice e)) (ho:H id=some (.vec c e')) {a a':Option Addr} {cap:Nat} (hr:ρ id=.slice a c.n cap) (wR:c.n≤cap) (hln:lo0+n≤c.n) (ha':cap≠lo0→a'=a.map (·.add (lo0*c.size)))
 (hf:cap≠0→∃b o,a=some ⟨b,o,none⟩) (hlo:mZ ρ H O w lo vlo) (hhi:mZ ρ H O w hi vhi) (hmx:mZ ρ H O w mx wQ):
 eW P ρ H O w q (Instr.sliceAt t (.slice a' n (cap - lo0)) vlo vhi wQ):=by
 unfold aeg at h;split at h
 ·rename_i sz bK;rw[Bool.cond_eq_ite]at h;split at h
  ·rename_i hz;have hz:sz=c.size:=by simpa using hz
   subst hz;split at h
   ·obtain rfl:wQ=none:=by cases wQ<;>first|rfl|exact hmx.elim
    split at h
    ·rename_i l hh h1 h2;refine ay h (fun cv=> ?_) hn;obtain⟨h3,h4,h5,_⟩:=cv;refine⟨_,ld (ch h1 hlo) (ch h2 hhi) h3 h4 (by omega) ht bK w, ?_⟩;unfold ab az;refine⟨rfl,_,ho,fun c' e'' hc=> ?_⟩;cases hc;refine⟨by omega,a,cap,_,hr,wR,by rw[Nat.sub_sub],fun cv=> ?_⟩;have hc0:cap≠lo0:=by omega
     rw[if_neg (by omega),ha' hc0,ahS _ (hf (by omega)),Nat.add_mul]
    ·cases h
   ·rename_i m;split at h
    ·rename_i l kh lh hh km lm m' h1 h2 h3;refine ay h (fun cv=> ?_) hn;obtain⟨g1,g2,g3,g4,_⟩:=cv;simp only[Option.bind_eq_some_iff]at h2;obtain⟨ha,rfl,h2⟩:=h2;cases wQ with
     |none=>exact hmx.elim
     |some vm=>
      cases vhi with
      |none=>exact hhi.elim
      |some vh=>
       obtain rfl:=bW h3 hmx;obtain rfl:=bW h2 hhi;have e1:m'≤(((cap - lo0:Nat):Int)):=by omega
       have e2:hh≤((m'.toNat:Nat):Int):=by omega
       have e3:l≤((hh.toNat:Nat):Int):=by omega
       rcases ch h1 hlo with⟨rfl,rfl⟩|⟨k1,rfl⟩
       ·exact⟨_,by simp[Instr.sliceAt,Instr.slice,run_underlying ht,Instr.sliceBounds,run_sliceBound _ _ _ _ _ (show 0≤m' by omega) e1,run_sliceBound _ _ _ _ _ (show 0≤hh by omega) e2,run_sizeOf bK];rfl,by unfold ab;trivial⟩
       ·exact⟨_,by simp[Instr.sliceAt,Instr.slice,run_underlying ht,Instr.sliceBounds,run_sliceBound _ _ _ _ _ (show 0≤m' by omega) e1,run_sliceBound _ _ _ _ _ (show 0≤hh by omega) e2,run_sliceBound _ _ _ _ _ g1 e3,run_sizeOf bK];rfl,by unfold ab;trivial⟩
    ·cases h
  ·cases h
 ·cases h
theorem agd(hs:Sat ρ H G w){t:TypeId}{x:AV}{lo hi mx:Option AV}{vx:Value}{vlo vhi wQ:Option Value}{q:bC}(h:(acU P t x lo hi mx).eval H=some q)(hn:bw q.need)
 (hd:ab ρ H O w x vx) (hlo:mZ ρ H O w lo vlo) (hhi:mZ ρ H O w hi vhi) (hmx:mZ ρ H O w mx wQ):
 eW P ρ H O w q (Instr.sliceAt t vx vlo vhi wQ):=by
 unfold acU at h;split at h
 ·rename_i s ht;obtain rfl:=fc hd;split at h
  ·rename_i l hh h1 h2;obtain rfl:wQ=none:=by cases wQ<;>first|rfl|exact hmx.elim
   refine ay h (fun cv=> ?_) hn;obtain⟨h3,h4,h5,_⟩:=cv;exact⟨_,aaD (ch h1 hlo) (ch h2 hhi) h3 h4 h5 ht w,aw (.str _)⟩
  ·cases h
 ·rename_i e ht;unfold ab at hd;obtain⟨a,rfl⟩:=hd;split at h
  ·rename_i sz l hh bK h1 h2;obtain rfl:wQ=none:=by cases wQ<;>first|rfl|exact hmx.elim
   refine ay h (fun cv=> ?_) hn;obtain⟨rfl,rfl,_⟩:=cv;exact⟨_,ld (ch h1 hlo) (ch h2 hhi) (by omega) (by omega) (by omega) ht bK w,by unfold ab;exact⟨a,by simp⟩⟩
  ·cases h
 ·rename_i e c ht;have hx:=ak (by simp) hd;split at h
  ·rename_i sz bK;rw[Bool.cond_eq_ite]at h;split at h
   ·rename_i hz;have hz:sz=c.size:=by simpa using hz
    split at h
    ·obtain rfl:wQ=none:=by cases wQ<;>first|rfl|exact hmx.elim
     split at h
     ·rename_i l hh h1 h2;refine ay h (fun cv=> ?_) hn;obtain⟨h3,h4,h5,_⟩:=cv;obtain⟨a,cap,rfl,hle,ahT⟩:=ac0 hx (l:=l.toNat) (h:=hh.toNat) (by omega) (by omega);exact⟨_,ld (ch h1 hlo) (ch h2 hhi) h3 h4 (by omega) ht bK w,aw (ahT sz hz)⟩
     ·cases h
    ·rename_i m;split at h
     ·rename_i l kh lh hh km lm m' h1 h2 h3;refine ay h (fun cv=> ?_) hn;obtain⟨rfl,rfl,rfl,_⟩:=cv;simp only[Option.bind_eq_some_iff]at h2;obtain⟨ha,rfl,h2⟩:=h2;cases wQ with
      |none=>exact hmx.elim
      |some vm=>
       cases vhi with
       |none=>exact hhi.elim
       |some vh=>
        obtain rfl:=bW h3 hmx;obtain rfl:=bW h2 hhi;cases hx with
        |ro _ a cap us b o g1 g2 g3 g4 g5=>
         refine⟨.slice a 0 0, ?_,by unfold ab;exact⟨a,rfl⟩⟩
         have hb:∀(k:IntKind) (y:Nat) (code:BoundsCode) (w:World),(Instr.sliceBound (.int k 0) y code).run P w=.ok 0 w:=fun k y code w=>by
          rw[run_sliceBound _ _ _ _ _ (by omega) (by omega)];rfl
         rcases ch h1 hlo with⟨rfl,_⟩|⟨k1,rfl⟩
         ·simp[Instr.sliceAt,Instr.slice,run_underlying ht,Instr.sliceBounds,hb,run_sizeOf bK]
         ·simp[Instr.sliceAt,Instr.slice,run_underlying ht,Instr.sliceBounds,hb,run_sizeOf bK]
     ·cases h
   ·cases h
  ·cases h
 ·rename_i e c k ht;have hx:=ak (by simp) hd
  obtain⟨a0,n0,auM,rfl,hx,a8⟩:∃a n cap,vx=.slice a n cap∧aR O w (.ro c) vx∧cap<k:=by
   cases hx with
   |yK _ _ a n cap h1 h2=>exact⟨a,n,cap,rfl,h1,h2⟩
  split at h
  ·rename_i sz bK;rw[Bool.cond_eq_ite]at h;split at h
   ·rename_i hz;have hz:sz=c.size:=by simpa using hz
    obtain rfl:wQ=none:=by cases wQ<;>first|rfl|exact hmx.elim
    split at h
    ·rename_i hh h2;obtain rfl:vlo=none:=by cases vlo<;>first|rfl|exact hlo.elim
     refine ay h (fun cv=> ?_) hn;obtain⟨h4,h5,_⟩:=cv;obtain⟨a,cap,e0,hle,ahT⟩:=ac0 hx (l:=0) (h:=hh.toNat) (by omega) (by omega);cases e0;have hd2:=ahT sz hz;exact⟨_,ld (l:=0) (.inl ⟨rfl,rfl⟩) (ch h2 hhi) (by omega) h4 (by omega) ht bK w,aw (.yK _ _ _ _ _ hd2 (by omega))⟩
    ·rename_i l hh h2;split at h
     ·rename_i kl ll l' h1;refine ay h (fun cv=> ?_) hn;obtain⟨h3,h4,h5,_⟩:=cv;obtain⟨a,cap,e0,hle,ahT⟩:=ac0 hx (l:=l'.toNat) (h:=hh.toNat) (by omega) (by omega);cases e0;have h1':gv 0 (some l)=some l':=by simp[gv,h1]
      exact⟨_,ld (ch h1' hlo) (ch h2 hhi) h3 h4 (by omega) ht bK w,aw (ahT sz hz)⟩
     ·cases h
    ·cases h
   ·cases h
  ·cases h
 ·rename_i e id ht;simp only[RM.eval]at h;split at h
  ·rename_i c e' ho;obtain⟨a,cap,rfl,hr,hle,_⟩:=jy hs ho hd;have dV:=hs.obj id _ ho;rw[hr]at dV;obtain⟨a2,qg,g1,_,_,g4⟩:=dV;cases g1
   have hf:cap≠0→∃b o,a=some ⟨b,o,none⟩:=fun hc=>by
    rcases g4 with g4|⟨b,o,_,_,_,g5,_⟩
    ·exact absurd g4 hc
    ·exact⟨b,o,g5⟩
   have:=aaE (a':=a) h hn ht ho hr hle (by omega) (fun hc=>by
    obtain⟨b,o,rfl⟩:=hf hc;simp[aY]) hf hlo hhi hmx
   simpa using this
  ·cases h
 ·rename_i e id lo0 n ht;simp only[RM.eval]at h;split at h
  ·rename_i c e' ho;obtain⟨h0,a,cap,a',h1,h2,h3,rfl,h4,h5⟩:=iT hs ho hd;exact aaE h hn ht ho h1 h2 h0 h4 h5 hlo hhi hmx
  ·cases h
 ·rename_i n e id off ht;split at h
  ·rename_i sz l hh bK h1 h2;obtain rfl:wQ=none:=by cases wQ<;>first|rfl|exact hmx.elim
   rw[Bool.cond_eq_ite]at h;split at h
   ·rename_i h1s;obtain rfl:sz=1:=by simpa using h1s
    unfold ab az at hd;obtain⟨b,hb,rfl,hi⟩:=hd;refine ay h (fun cv=> ?_) hn;obtain⟨h3,h4,h5,_⟩:=cv;obtain⟨a,e1,e2⟩:=sF (b:=b) (o:=off) (ch h1 hlo) (ch h2 hhi) h3 h4 h5 ht bK w;refine⟨_,e1, ?_⟩;unfold ab az;exact⟨rfl,b,a,_,hb,rfl,e2,hi⟩
   ·cases h
  ·cases h
 ·rename_i n e id i j ht;split at h
  ·rename_i sz l hh bK h1 h2;obtain rfl:wQ=none:=by cases wQ<;>first|rfl|exact hmx.elim
   simp only[RM.eval]at h;split at h
   ·rename_i c e' ho;rw[Bool.cond_eq_ite]at h;split at h
    ·rename_i h1s;simp only[Bool.and_eq_true,Nat.beq_eq]at h1s;obtain⟨rfl,hjn⟩:=h1s;have hjn:=Nat.le_of_ble_eq_true hjn;unfold ab az at hd;obtain⟨h0,o,dg,hv⟩:=hd;rw[ho]at dg;cases dg;obtain⟨g1,g2,b,f,n',cap,g3,rfl⟩:=hv c e' rfl;refine ay h (fun cv=> ?_) hn;obtain⟨h3,h4,h5,_⟩:=cv;obtain⟨a,e1,e2⟩:=sF (b:=b) (o:=f+i*c.size+j) (ch h1 hlo) (ch h2 hhi) h3 h4 h5 ht bK w;refine⟨_,e1, ?_⟩;unfold ab az;refine⟨rfl,_,ho,fun c2 e2' hc=> ?_⟩;cases hc;exact⟨g1,by omega,b,f,n',cap,a,_,g3,rfl,fun hz=>by rw[e2 hz,Nat.add_assoc]⟩
    ·cases h
   ·cases h
  ·cases h
 ·cases h
theorem y4(zs:List Int):∀(l:List Value) (s:ByteArray) (w:World),l=zs.map (Value.int .u8)→
 (forIn (m:=Sem) l s fun c s=>do
   match c with
   |.int .u8 n=>pure (ForInStep.yield (s.push (UInt8.ofNat n.toNat)))
   |_=>do
    stuck "bytesToString: byte expected"
    pure (ForInStep.yield s)).run P w=.ok ⟨s.data++(zs.map fun n=>UInt8.ofNat n.toNat).toArray⟩ w:=by
 induction zs with
 |nil=>intro l s w h;subst h;simp
 |cons z zs ih=>
  intro l s w h;subst h;simp only[List.map_cons,List.forIn_cons,Sem.run_bind,Sem.run_pure,Result.andThen_ok];rw[ih _ _ _ rfl];congr 2;simp[ByteArray.push]
def py(O:Nat→Prop)(w:World)(c:aI)(v:Value):Prop:=
 ∃(a:Option Addr) (cap:Nat) (us:Nat→Nat→Value),v=.slice a c.n cap∧c.n≤cap∧cap≤maxLen∧(0<c.n→∃b o,a=some ⟨b,o,none⟩∧b<w.heap.size∧
  ∀i j,i<c.n→j<c.size→w.cell? ⟨b,o+i*c.size+j,none⟩=some (us i j)∧aR O w (c.cell i j) (us i j))
theorem ur(sh:Shape)(size:Nat):(ahI sh size).n=0:=by cases sh<;>rfl
theorem uu{sh:Shape}{size:Nat}{x:AV}{k:aI→Option Nat→RM bC}{v:Value}{q:bC}(h:(rowOf sh size x k).eval H=some q)(hs:Sat ρ H G w)(hd:ab ρ H (aN ρ H G) w x v):
 ∃c idy,(k c idy).eval H=some q∧py (aN ρ H G) w c v:=by
 unfold rowOf at h;split at h
 ·split at h
  ·rename_i c;have hx:=ak (by simp) hd;cases hx with
   |ro _ a cap us b o g1 g2 g3 g4 g5=>
    refine⟨c,none,h,a,cap,us,rfl,g1,g2,fun h0=> ?_⟩;obtain⟨rfl,_,h2⟩:=g3 h0;exact⟨b,o,rfl,h2,fun i j hi hj=>⟨g4 i j hi hj,g5 i j hi hj⟩⟩
  ·cases h
 ·unfold ab at hd;obtain⟨a,rfl⟩:=hd;exact⟨_,none,h,a,0,fun _ _=>undef,by rw[ur],by rw[ur];exact Nat.le_refl _,by simp[maxLen],by rw[ur];omega⟩
 ·rename_i id;simp only[RM.eval]at h;split at h
  ·rename_i c e ho;refine⟨c,some id,h, ?_⟩;unfold ab az at hd;obtain⟨_,o,dg,hv⟩:=hd;rw[ho]at dg;cases dg;obtain rfl:=hv c e rfl;obtain⟨a,cap,h1,h2,h3,h4⟩:=hs.obj id _ ho;rcases h4 with rfl|⟨b,o,cells,fr,us,rfl,h5,h6,h7,h8⟩
   ·exact⟨a,0,fun _ _=>undef,h1,h2,h3,fun h0=>by omega⟩
   ·refine⟨_,cap,us,h1,h2,h3,fun _=>⟨b,o,rfl,(Array.getElem?_eq_some_iff.1 h5).1,fun i j hi hj=> ?_⟩⟩;obtain⟨h9,y5⟩:=h8 i j hi hj;exact⟨by rw[c8 h5];exact h9,y5⟩
  ·cases h
 ·rename_i id lo n;simp only[RM.eval]at h;split at h
  ·rename_i c e ho;refine⟨_,some id,h, ?_⟩;obtain⟨g0,a,cap,a',g1,g2,g3,rfl,g4,g5⟩:=iT hs ho hd;have hn:(dv c lo (lo+n)).n=n:=by rw[n6 c (by omega) g0];omega
   have bK:=jz c lo (lo+n);obtain⟨a2,qg,k1,k2,k3,k4⟩:=hs.obj id _ ho;rw[g1]at k1;cases k1;rcases k4 with rfl|⟨b,o,cells,fr,us,rfl,h5,h6,h7,h8⟩
   ·exact⟨a',0 - lo,fun _ _=>undef,by rw[hn],by rw[hn];omega,by omega,fun h0=>by rw[hn]at h0;omega⟩
   ·refine⟨a',cap - lo,fun i j=>us (lo+i) j,by rw[hn],by rw[hn];omega,by omega,fun h0=> ?_⟩;rw[hn]at h0;refine⟨b,o+lo*c.size,by rw[g4 (by omega)];simp[aY],(Array.getElem?_eq_some_iff.1 h5).1,fun i j hi hj=> ?_⟩;rw[hn]at hi;rw[bK]at hj ⊢;obtain⟨h9,y5⟩:=h8 (lo+i) j (by omega) hj;refine⟨?_,by rw[jA c j (by omega)];exact y5⟩;rw[c8 h5,show o+lo*c.size+i*c.size+j=o+(lo+i)*c.size+j from by rw[Nat.add_mul];omega];exact h9
  ·cases h
 ·cases h
theorem wT(zs:List Int):zs.map (Value.int .u8)=(List.range zs.length).map fun i=>Value.int .u8 (zs.getD i 0):=by
 apply List.ext_getElem
 ·simp
 ·intro i h1 h2;simp at h1;simp[h1]
theorem jT{zs:List Int}{a:Option Addr}{cap:Nat}(h3:0<zs.length→∃b o,a=some ⟨b,o,none⟩∧∀j,j<zs.length→w.cell? ⟨b,o+j,none⟩=some (.int .u8 (zs.getD j 0))):
 (Conv.bytesToString (.slice a zs.length cap)).run P w=.ok (.string (aL zs)) w:=by
 cases a with
 |none=>
  have:zs.length=0:=by
   rcases Nat.eq_zero_or_pos zs.length with h0|h0
   ·exact h0
   ·obtain⟨b,o,e,_⟩:=h3 h0;cases e
  obtain rfl:=List.eq_nil_of_length_eq_zero this;rfl
 |some a=>
  have arG:(loadCells a zs.length).run P w=.ok (zs.map (Value.int .u8)).toArray w:=by
   rcases Nat.eq_zero_or_pos zs.length with h0|h0
   ·obtain rfl:=List.eq_nil_of_length_eq_zero h0;rfl
   ·obtain⟨b,o,e,hc⟩:=h3 h0;cases e;rw[wT];refine run_loadCells w _ _ (fun i=>Value.int .u8 (zs.getD i 0)) (fun j hj=> ?_);rw[aY];exact hc j hj
  simp only[Conv.bytesToString,Sem.run_bind,arG,Result.andThen_ok];rw[←Array.forIn_toList];have:=y4 (P:=P) zs (zs.map (Value.int .u8)) ByteArray.empty w rfl;erw [this];simp[aL]
theorem qh{zs:List Int}{v:Value}(h:py O w (.ints .u8 zs) v):(Conv.bytesToString v).run P w=.ok (.string (aL zs)) w:=by
 obtain⟨a,cap,us,rfl,h1,h2,h3⟩:=h;simp only[aI.n]at h1 h3 ⊢;refine jT fun h0=> ?_;obtain⟨b,o,e,_,hc⟩:=h3 h0;refine⟨b,o,e,fun j hj=> ?_⟩;obtain⟨g1,g2⟩:=hc j 0 hj (by simp[aI.size]);simp only[aI.size,Nat.mul_one,Nat.add_zero,aI.cell]at g1 g2;rw[g1];generalize us j 0=u at g2 ⊢;cases g2;rfl
theorem xw(hs:Sat ρ H G w){id b m off n:Nat}{k:IntKind}{ws:List Int}{e:TypeId}(ho:H id=some (.own [.ints k m ws] e))(hb:ρ id=.pointer (some ⟨b,0,none⟩))(hnm:off+n≤m):
 ((ws.drop off).take n).length=n∧∀j,j<n→w.cell? ⟨b,off+j,none⟩=some (.int k (((ws.drop off).take n).getD j 0)):=by
 obtain⟨cells,fr,e1,_,e2⟩:=nZ hs ho hb;obtain⟨c1,c2,rfl,e3,e4⟩:=af.1 e2;obtain⟨e5,rfl⟩:=cG.1 e3;obtain rfl:=aq.1 e4;refine⟨by rw[List.length_take,List.length_drop];omega,fun j hj=> ?_⟩;rw[c8 e1,List.append_nil,List.getElem?_map];have a8:off+j<ws.length:=by omega
 rw[List.getElem?_eq_getElem a8];simp[List.getD,List.getElem?_take,hj,List.getElem?_drop,a8]
theorem aaF{src dst:TypeId}{x:AV}{vx:Value}{q:bC}(h:(uc P src dst x).eval H=some q)(hn:bw q.need)(hs:Sat ρ H G w)(hd:ab ρ H (aN ρ H G) w x vx):
 eW P ρ H (aN ρ H G) w q (convert src dst vx):=by
 unfold uc at h;split at h
 ·rename_i d k oG lf;split at h
  ·rename_i k' lit n mY;obtain rfl:=bW mY hd
   have ji:(convert src dst (.int k' n)).run P w=.ok (.int k (k.wrap n)) w:=by
    simp[convert,run_underlying oG,run_underlying lf,Conv.intToInt]
   rw[Bool.cond_eq_ite]at h;split at h
   ·exact ay h (fun _=>⟨_,ji,aw (.aV _ _)⟩) hn
   ·rw[Bool.cond_eq_ite]at h;split at h
    ·rename_i hk;simp only[Bool.and_eq_true]at hk;obtain rfl:=mU hk.1;refine ay h (fun cv=>⟨_,ji, ?_⟩) hn;rw[cg cv.1];exact aw (.int _ _)
    ·exact ay h (fun _=>⟨_,ji,aw (.int _ _)⟩) hn
  ·cases h
 ·rename_i oG lf;split at h
  ·rename_i s;obtain rfl:=fc hd;exact ay h (fun _=>⟨_,by simp[convert,run_underlying oG,run_underlying lf],aw (.str _)⟩) hn
  ·cases h
 ·rename_i e oG lf;split at h
  ·rename_i hk
   have he:P.underlying e=some (.int .u8):=by
    unfold kindOf at hk;split at hk<;>first|(cases hk;assumption)|cases hk
   split at h
   ·rename_i id off n;simp only[RM.eval]at h;split at h
    ·rename_i m ws e' ho;unfold ab az at hd;obtain⟨_,b,a,cap,hb,rfl,ha,_⟩:=hd;refine ay h (fun cv=>⟨_, ?_,aw (.str _)⟩) hn;have hnm:off+n≤m:=cv.1;obtain⟨hl,hc⟩:=xw hs ho hb hnm;have:=jT (P:=P) (w:=w) (zs:=(ws.drop off).take n) (a:=a) (cap:=cap) (fun h0=>⟨b,off,ha (by omega),fun j hj=>hc j (by omega)⟩);rw[hl]at this;simp[convert,run_underlying oG,run_underlying lf,run_underlying he,this]
    ·cases h
   ·obtain⟨c,idy,h1,h2⟩:=uu h hs hd;split at h1
    ·rename_i zs;refine ay h1 (fun _=>⟨.string (aL zs), ?_,aw (.str _)⟩) hn;obtain⟨a,cap,us,rfl,_⟩:=id h2;simp[convert,run_underlying oG,run_underlying lf,run_underlying he,qh h2]
    ·cases h1
  ·cases h
 ·cases h
end
end Go.Sx
namespace Go.Sx
open Go
def cN:List (Nat×ad)→Nat→Option ad
 |[],_=>none
 |(id,o)::us,j=>match cN us j with
  |some x=>some x
  |none=>if j=id then some o else none
def c9(H:aJ)(up:List (Nat×ad))(base:Nat)(new:List ad):aJ:=fun j=>
 match cN up j with
 |some o=>some o
 |none=>if base≤j∧j<base+new.length then new[j - base]? else H j
section
variable{ρ aB:Nat→Value}{H H':aJ}{G O O':Nat→Prop}{w w':World}{P:Program}
theorem lg(base:Nat):c9 H [] base []=H:=by
 funext j;simp only[c9,cN,List.length_nil,Nat.add_zero];rw[if_neg (by omega)]
theorem fC(id:Nat)(o:ad)(base:Nat):c9 H [(id,o)] base []=aD H id o:=by
 funext j;simp only[c9,cN,aD,List.length_nil,Nat.add_zero];by_cases h:j=id
 ·simp[h]
 ·simp only[h,if_false];rw[if_neg (by omega)]
theorem iU(base:Nat)(o:ad):c9 H [] base [o]=aD H base o:=by
 funext j;simp only[c9,cN,aD,List.length_singleton];by_cases h:j=base
 ·subst h;simp
 ·rw[if_neg (by omega)];simp[h]
theorem age(id base:Nat)(x o:ad)(h:id≠base):c9 H [(id,x)] base [o]=aD (aD H id x) base o:=by
 funext j;simp only[c9,cN,aD,List.length_singleton];by_cases h1:j=id
 ·subst h1;simp[h]
 ·by_cases h2:j=base
  ·subst h2;simp[h1]
  ·simp only[h1,h2,if_false];rw[if_neg (by omega)]
theorem cH:ab ρ H O w (.bo []) undef:=by
 unfold ab;exact⟨[],rfl,aU.2 rfl⟩
theorem jU{id:Nat}{o o':ad}(ho:H id=some o)(ha:o.alive=true){b:Nat}(hb:er (ρ id)=some b)
 (ry:∀c' e',o'=.vec c' e'→∃c e,o=.vec c e∧c'.n=c.n∧c'.size=c.size) (rz:Obj):
 Step ρ H (aN ρ H G) w ρ (aD H id o') (aN ρ H G) (World.cf w b rz):=by
 have dI:Own ρ H b:=⟨id,o,ho,ha,hb⟩;refine⟨fun _ _ _=>rfl,fun j x hx=> ?_,fun c hc=>.inl hc,fun c hc hO=>iy (fun e=>hO (.inl (by subst e;exact dI))),by rw[iS];exact Nat.le_refl _⟩;by_cases hj:j=id
 ·subst hj;rw[ho]at hx;cases hx;exact⟨o',by simp[aD],ry⟩
 ·exact⟨x,by simp[aD,hj,hx],fun c' e' hc=>⟨c',e',hc,rfl,rfl⟩⟩
theorem Good.uv(hs:Sat ρ H G w){id b:Nat}{an eH:List AV}{e:TypeId}(ho:H id=some (.own an e))(hb:ρ id=.pointer (some ⟨b,0,none⟩))
 {cells dY:List Value} {fr:Nat×Nat} (h1:w.heap[b]? =some (.cells cells.toArray e fr)) (hu:unm fr cells.length) (hl:dY.length=cells.length)
 (hd:ao ρ H (aN ρ H G) w eH dY):
 Good ρ H G w (aD H id (.own eH e)) (.bo []) undef (World.cf w b (.cells dY.toArray e fr)):=by
 have lT:er (ρ id)=some b:=by rw[hb];rfl
 have st:=jU (G:=G) (w:=w) (o':=.own eH e) ho rfl lT (by simp) (.cells dY.toArray e fr);exact Good.write hs ho rfl rfl lT (by simp) ⟨b,dY,fr,hb,eO h1,by rw[hl];exact hu,hd.step st⟩ cH
theorem ky{t:TypeId}{b off:Nat}{v:Value}{n:Nat}(hs:dF P t=some n)(hl:v.cells.toList.length=n){w':World}
 (h:(storeCells ⟨b,off,none⟩ v.cells.toList 0).run P w=.ok () w'):(Instr.storeAt t (.pointer (some ⟨b,off,none⟩)) v).run P w=.ok () w':=by
 have:v.cells.size=n:=by simpa using hl
 simp[Instr.storeAt,Instr.sureAddr,storeVar,run_sizeOf hs,this,h]
theorem lj{v:Value}(h:v.oneCell'=true):v.cells.toList=[v]:=by
 cases v<;>first|rfl|(simp[Value.oneCell']at h)
theorem kL{α:Type}(l:List α)(i:Nat)(x:α)(h:i<l.length):l.take i++[x]++l.drop (i+1)=l.set i x:=by
 rw[List.set_eq_take_append_cons_drop,if_pos h];simp
theorem fm{c c':aI}{v:Value}(h0:c.n=0)(h1:c'.n=0)(h:aR O w (.ro c) v):aR O w (.ro c') v:=by
 cases h with
 |ro _ a cap us b o h2 h3 h4 h5 h6=>
  have:=aR.ro (O:=O) (w:=w) c' a cap us b o (by omega) h3 (fun h=>by omega) (fun i j hi hj=>by omega) (fun i j hi hj=>by omega);rw[h1]at this;rw[h0];exact this
theorem ahU{k:IntKind}{v:SV}{n:Int}{u:Value}(h:ahF k v=some n)(hu:aR O w v u):aR O w (.int k n) u:=by
 unfold ahF at h;split at h
 ·rw[Bool.cond_eq_ite]at h;split at h
  ·rename_i hk;obtain rfl:=aZ hk;cases h;exact hu
  ·cases h
 ·rw[Bool.cond_eq_ite]at h;split at h
  ·rename_i hk;obtain rfl:=aZ hk;cases h;cases hu;exact .int _ _
  ·cases h
 ·cases h
theorem agf{v:SV}{n:Bool}{u:Value}(h:acJ v=some n)(hu:aR O w v u):aR O w (.bool n) u:=by
 unfold acJ at h;split at h<;>cases h<;>cases hu<;>exact .bool _
theorem ahV{v:SV}{n:ByteArray}{u:Value}(h:ahG v=some n)(hu:aR O w v u):aR O w (.str n) u:=by
 unfold ahG at h;split at h<;>cases h;exact hu
theorem agh{k:IntKind}{v:SV}{n:List Int}{u:Value}(h:acK k v=some n)(hu:aR O w v u):aR O w (.ro (.ints k n)) u:=by
 unfold acK at h;split at h
 ·rw[Bool.cond_eq_ite]at h;split at h
  ·rename_i hk;obtain rfl:=aZ hk;cases h;exact hu
  ·cases h
 ·cases h;exact fm (by rfl) (by rfl) hu
 ·cases h
theorem agi{v:SV}{n:List ByteArray}{u:Value}(h:acL v=some n)(hu:aR O w v u):aR O w (.ro (.strs n)) u:=by
 unfold acL at h;split at h<;>cases h
 ·exact hu
 ·exact fm (by rfl) (by rfl) hu
theorem ac1{v:SV}{n:List Bool}{u:Value}(h:yM v=some n)(hu:aR O w v u):aR O w (.ro (.bR n)) u:=by
 unfold yM at h;split at h<;>cases h
 ·exact hu
 ·exact fm (by rfl) (by rfl) hu
theorem agj{cs:List CK}{v:SV}{n:List (CL cs)}{u:Value}(h:acM cs v=some n)(hu:aR O w v u):aR O w (.ro (.ae cs n)) u:=by
 unfold acM at h;split at h
 ·simp only[Option.map_eq_some_iff]at h;obtain⟨⟨e⟩,_,h2⟩:=h;subst e;rw[xo]at h2;subst h2;exact hu
 ·cases h;exact fm (by rfl) (by rfl) hu
 ·cases h
theorem agk{c:CK}{x y:c.V}{j:Nat}{v:SV}(h:c.set x j v=some y):c.wide=1∧∀(O:Nat→Prop) (w:World) (u:Value),aR O w v u→∀l,aR O w (c.cell y l) u:=by
 cases c with
 |int k=>exact⟨rfl,fun _ _ _ hu _=>ahU h hu⟩
 |bool=>exact⟨rfl,fun _ _ _ hu _=>agf h hu⟩
 |str=>exact⟨rfl,fun _ _ _ hu _=>ahV h hu⟩
 |ints k=>exact⟨rfl,fun _ _ _ hu _=>agh h hu⟩
 |strs=>exact⟨rfl,fun _ _ _ hu _=>agi h hu⟩
 |bR=>exact⟨rfl,fun _ _ _ hu _=>ac1 h hu⟩
 |rows cs=>exact⟨rfl,fun _ _ _ hu _=>agj h hu⟩
 |arr k n=>cases h
theorem rA:∀{cs:List CK} {x y:CL cs} {j:Nat} {v:SV},CL.set cs x j v=some y→(∀(O:Nat→Prop) (w:World) (u:Value),aR O w v u→aR O w (CL.cell cs y j) u)∧∀j',j'≠j→CL.cell cs y j'=CL.cell cs x j'
 |[],x,y,j,v,h=>by cases h
 |c::cs,x,y,j,v,h=>by
  simp only[CL.set]at h;rw[Bool.cond_eq_ite]at h;split at h
  ·rename_i a8;obtain⟨z,h1,rfl⟩:=Option.map_eq_some_iff.1 h;obtain⟨h2,h3⟩:=agk h1;refine⟨fun O w u hu=>by simp only[CL.cell,a8,cond_true];exact h3 O w u hu _,fun j' jB=> ?_⟩;have h4:j<1:=by rw[h2]at a8;exact Nat.le_of_ble_eq_true a8
   simp only[CL.cell,h2,qd (show 1≤j' from by omega),cond_false]
  ·rename_i a8;obtain⟨z,h1,rfl⟩:=Option.map_eq_some_iff.1 h;have a8:j.blt c.wide=false:=Bool.eq_false_iff.2 a8
   have hge:c.wide≤j:=by
    rcases Nat.lt_or_ge j c.wide with h5|h5
    ·rw[ml h5]at a8;cases a8
    ·exact h5
   obtain⟨h2,h3⟩:=rA h1;refine⟨fun O w u hu=>by simp only[CL.cell,a8,cond_false];exact h2 O w u hu,fun j' jB=> ?_⟩;simp only[CL.cell];rcases Nat.lt_or_ge j' c.wide with h5|h5
   ·rw[ml h5,cond_true,cond_true]
   ·rw[qd h5,cond_false,cond_false];exact h3 _ (by omega)
theorem qi:∀{cs:List CK} {x y:CL cs} {j:Nat} {k:IntKind} {n:Nat} {ws:List Int},CL.setRow cs x j k n ws=some y→
 (∀l,l<n→CL.cell cs y (j+l)=.int k (ws.getD l 0))∧∀j',(j'<j∨j+n≤j')→CL.cell cs y j'=CL.cell cs x j'
 |[],x,y,j,k,n,ws,h=>by cases h
 |c::cs,x,y,j,k,n,ws,h=>by
  simp only[CL.setRow]at h;rw[Bool.cond_eq_ite]at h;split at h
  ·rename_i hj;obtain rfl:j=0:=Nat.eq_of_beq_eq_true hj;obtain⟨z,h1,rfl⟩:=Option.map_eq_some_iff.1 h;cases c with
   |arr k' n'=>
    simp only[CK.setRow]at h1;rw[Bool.cond_eq_ite]at h1;split at h1
    ·rename_i hk;simp only[Bool.and_eq_true]at hk;obtain rfl:=aZ hk.1;obtain rfl:=Nat.eq_of_beq_eq_true hk.2;cases h1;refine⟨fun l hl=> ?_,fun j' jB=> ?_⟩
     ·rw[Nat.zero_add];simp only[CL.cell,CK.wide,ml hl,cond_true,CK.cell]
     ·simp only[CL.cell,CK.wide,qd (show n≤j' from by omega),cond_false]
    ·cases h1
   |_=>cases h1
  ·rw[Bool.cond_eq_ite]at h;split at h
   ·rename_i hle;have hle:=Nat.le_of_ble_eq_true hle;obtain⟨z,h1,rfl⟩:=Option.map_eq_some_iff.1 h;obtain⟨h2,h3⟩:=qi h1;refine⟨fun l hl=> ?_,fun j' jB=> ?_⟩
    ·simp only[CL.cell,qd (show c.wide≤j+l from by omega),cond_false];rw[show j+l - c.wide=j - c.wide+l from by omega];exact h2 l hl
    ·simp only[CL.cell];rcases Nat.lt_or_ge j' c.wide with h5|h5
     ·rw[ml h5,cond_true,cond_true]
     ·rw[qd h5,cond_false,cond_false];exact h3 _ (by omega)
   ·cases h
theorem ac2{c:aI}{i j:Nat}{k:IntKind}{n:Nat}{ws:List Int}{c':aI}(h:nU c i j k n ws=some c')(hi:i<c.n):
 c'.n=c.n∧c'.size=c.size∧(∀l,l<n→c'.cell i (j+l)=.int k (ws.getD l 0))∧∀i' j',(i'≠i∨j'<j∨j+n≤j')→c'.cell i' j'=c.cell i' j':=by
 cases c<;>simp only[nU,reduceCtorEq]at h;rename_i cs xs;simp only[Option.map_eq_some_iff]at h;obtain⟨y,h1,rfl⟩:=h;simp only[aI.n]at hi;obtain⟨h2,h3⟩:=qi h1;refine⟨by simp[aI.n],rfl,fun l hl=> ?_,fun i' j' cv=> ?_⟩
 ·simp only[aI.cell];rw[show(xs.set i y).getD i (CL.d cs)=y from by simp[List.getD,hi]];exact h2 l hl
 ·simp only[aI.cell];by_cases hii:i'=i
  ·subst hii;rw[show(xs.set i' y).getD i' (CL.d cs)=y from by simp[List.getD,hi]];exact h3 j' (by omega)
  ·have:i≠i':=fun e=>hii e.symm;simp[List.getD,List.getElem?_set_ne this]
theorem ald(c:aI){i j:Nat}{v:SV}{c':aI}(h:rj c i j v=some c'):c'.n=c.n∧c'.size=c.size:=by
 cases c<;>simp only[rj]at h
 case ei=>simp only[Option.some.injEq]at h;subst h;exact⟨rfl,rfl⟩
 case ae=>
  simp only[Option.map_eq_some_iff]at h;obtain⟨y,_,rfl⟩:=h;simp[aI.n,aI.size]
 all_goals
  split at h<;>first
   |(simp only[Option.some.injEq]at h;subst h;simp[aI.n,aI.size];done)
   |(rw[Bool.cond_eq_ite]at h;split at h<;>first|(simp only[Option.some.injEq]at h;subst h;simp[aI.n,aI.size];done)|cases h)
   |cases h
theorem y6(c:aI){i j:Nat}{v:SV}{c':aI}(h:rj c i j v=some c')(hi:i<c.n)(hj:j<c.size){u:Value}(hu:aR O w v u):
 aR O w (c'.cell i j) u∧∀i' j',i'<c.n→j'<c.size→(i'≠i∨j'≠j)→c'.cell i' j'=c.cell i' j':=by
 cases c<;>simp only[rj]at h
 case ints k zs=>
  simp only[aI.n,aI.size]at hi hj
  split at h<;>first
   |cases h
   |(rw[Bool.cond_eq_ite]at h
     split at h
     ·rename_i hk;obtain rfl:=aZ hk;simp only[Option.some.injEq]at h;subst h;cases hu;simp only[aI.cell,aI.n,aI.size];refine⟨by simp[List.getD,hi];exact .int _ _,fun i' j' eR jB cv=> ?_⟩;have:i≠i':=by omega
      simp[List.getD,List.getElem?_set_ne this]
     ·cases h)
 case strs zs=>
  simp only[aI.n,aI.size]at hi hj;split at h<;>simp only[Option.some.injEq,reduceCtorEq]at h;subst h;cases hu;simp only[aI.cell,aI.n,aI.size];refine⟨by simp[List.getD,hi];exact .str _,fun i' j' eR jB cv=> ?_⟩;have:i≠i':=by omega
  simp[List.getD,List.getElem?_set_ne this]
 case bR zs=>
  simp only[aI.n,aI.size]at hi hj;split at h<;>simp only[Option.some.injEq,reduceCtorEq]at h
  all_goals
   subst h;cases hu;simp only[aI.cell,aI.n,aI.size];refine⟨by simp[List.getD,hi];exact .bool _,fun i' j' eR jB cv=> ?_⟩;have:i≠i':=by omega
   simp[List.getD,List.getElem?_set_ne this]
 case ae cs xs=>
  simp only[aI.n,aI.size]at hi hj;simp only[Option.map_eq_some_iff]at h;obtain⟨y,h1,rfl⟩:=h;obtain⟨h2,h3⟩:=rA h1;simp only[aI.cell,aI.n,aI.size];refine⟨by rw[show(xs.set i y).getD i (CL.d cs)=y from by simp[List.getD,hi]];exact h2 O w u hu,fun i' j' eR jB cv=> ?_⟩;by_cases hii:i'=i
  ·subst hii;rw[show(xs.set i' y).getD i' (CL.d cs)=y from by simp[List.getD,hi]];exact h3 j' (by omega)
  ·have:i≠i':=fun e=>hii e.symm;simp[List.getD,List.getElem?_set_ne this]
 case ei s n get=>
  simp only[Option.some.injEq]at h;subst h;simp only[aI.cell];refine⟨by simp[hu],fun i' j' _ _ cv=> ?_⟩
  have:(i'==i&&j'==j)=false:=by
   rcases cv with h|h<;>simp[h]
  simp[this]
theorem rB:∀(jr:List AV) (c:aI) {i j:Nat} {c':aI} {vs:List Value},eG c i j jr=some c'→ao ρ H O w jr vs→i<c.n→j+fM jr≤c.size→
 c'.n=c.n∧c'.size=c.size∧vs.length=fM jr∧(∀l u,vs[l]? =some u→aR O w (c'.cell i (j+l)) u)∧
 ∀i' j',i'<c.n→j'<c.size→(i'≠i∨j'<j∨j+fM jr≤j')→c'.cell i' j'=c.cell i' j'
 |[],c,i,j,c',vs,h,hd,hi,hj=>by
  simp only[eG,Option.some.injEq]at h;subst h;obtain rfl:=aq.1 hd;exact⟨rfl,rfl,rfl,by simp,fun _ _ _ _ _=>rfl⟩
 |a::aG,c,i,j,c',vs,h,hd,hi,hj=>by
  cases a with
  |s v=>
   simp only[eG,Option.bind_eq_some_iff]at h;obtain⟨c1,h1,h2⟩:=h;obtain⟨cs1,cs2,rfl,hv,hr⟩:=af.1 hd;unfold aK at hv;obtain⟨u,rfl,hu⟩:=hv;simp only[fM,AV.wide]at hj;obtain⟨n1,s1⟩:=ald c h1;obtain⟨g1,g2⟩:=y6 c h1 hi (by omega) hu;obtain⟨k1,k2,k3,k4,k5⟩:=rB aG c1 h2 hr (by omega) (by omega);refine⟨k1.trans n1,k2.trans s1,by simp[k3,fM,AV.wide];omega,fun l x hx=> ?_,fun i' j' eR jB cv=> ?_⟩
   ·cases l with
    |zero=>
     simp at hx;subst hx;rw[Nat.add_zero,k5 i j (by omega) (by omega) (by omega)];exact g1
    |succ l=>
     have:=k4 l x (by simpa using hx);rw[show j+(l+1)=j+1+l from by omega];exact this
   ·simp only[fM,AV.wide]at cv;rw[k5 i' j' (by omega) (by omega) (by omega)];exact g2 i' j' eR jB (by omega)
  |ints k n ws=>
   simp only[eG,Option.bind_eq_some_iff]at h;obtain⟨c1,h1,h2⟩:=h;obtain⟨cs1,cs2,rfl,hv,hr⟩:=af.1 hd;unfold aK at hv;obtain⟨hl,rfl⟩:=hv;simp only[fM,AV.wide]at hj;obtain⟨n1,s1,g1,g2⟩:=ac2 h1 hi;obtain⟨k1,k2,k3,k4,k5⟩:=rB aG c1 h2 hr (by omega) (by omega);refine⟨k1.trans n1,k2.trans s1,by simp[k3,fM,AV.wide,hl],fun l x hx=> ?_,fun i' j' eR jB cv=> ?_⟩
   ·rcases Nat.lt_or_ge l n with h5|h5
    ·rw[List.getElem?_append_left (by simp;omega)]at hx;simp only[List.getElem?_map,Option.map_eq_some_iff]at hx;obtain⟨z,hz,rfl⟩:=hx;rw[k5 i (j+l) (by omega) (by omega) (by omega),g1 l h5,show ws.getD l 0=z from by simp[List.getD,hz]];exact .int _ _
    ·rw[List.getElem?_append_right (by simp;omega)]at hx;simp only[List.length_map,hl]at hx;have:=k4 (l - n) x hx;rw[show j+n+(l - n)=j+l from by omega]at this;exact this
   ·simp only[fM,AV.wide]at cv;rw[k5 i' j' (by omega) (by omega) (by omega)];exact g2 i' j' (by omega)
  |_=>simp[eG]at h
theorem xx(cs:List CK):∀(jr:List AV) (xs:List (CL cs)) (i j:Nat),i<xs.length→(mQ cs (xs.getD i (CL.d cs)) j jr).map (fun y=>aI.ae cs (xs.set i y))=eG (.ae cs xs) i j jr
 |[],xs,i,j,hi=>by
  simp only[mQ,eG,Option.map_some,Option.some.injEq,aI.ae.injEq,heq_eq_eq,true_and];have:xs.getD i (CL.d cs)=xs[i]:=by simp[List.getD,hi]
  rw[this,List.set_getElem_self]
 |a::aG,xs,i,j,hi=>by
  have step:∀(y:CL cs) (k:Nat),(mQ cs y k aG).map (fun y=>aI.ae cs (xs.set i y))=eG (.ae cs (xs.set i y)) i k aG:=fun y k=>by
   rw[←xx cs aG (xs.set i y) i k (by rw[List.length_set];exact hi)];have:(xs.set i y).getD i (CL.d cs)=y:=by simp[List.getD,hi]
   rw[this];congr 1;funext z;rw[List.set_set]
  cases a with
  |s v=>
   simp only[mQ,eG,rj];cases CL.set cs (xs.getD i (CL.d cs)) j v with
   |none=>rfl
   |some y=>exact step y (j+1)
  |ints k n ws=>
   simp only[mQ,eG,nU];cases CL.setRow cs (xs.getD i (CL.d cs)) j k n ws with
   |none=>rfl
   |some y=>exact step y (j+n)
  |_=>rfl
theorem ahW:∀(jr:List AV) (c:aI) {i j:Nat} {c':aI} {vs:List Value},aef c i j jr=some c'→ao ρ H O w jr vs→i<c.n→j+fM jr≤c.size→
 c'.n=c.n∧c'.size=c.size∧vs.length=fM jr∧(∀l u,vs[l]? =some u→aR O w (c'.cell i (j+l)) u)∧
 ∀i' j',i'<c.n→j'<c.size→(i'≠i∨j'<j∨j+fM jr≤j')→c'.cell i' j'=c.cell i' j':=by
 intro jr c i j c' vs h hd hi hj;refine rB jr c ?_ hd hi hj;cases c with
 |ae cs xs=>rw[←h];exact(xx cs jr xs i j hi).symm
 |_=>exact h
theorem y7(l vs:List Value)(o:Nat)(h:o+vs.length≤l.length)(i:Nat):(l.take o++vs++l.drop (o+vs.length))[i]? =if o≤i∧i<o+vs.length then vs[i - o]? else l[i]? :=by
 have hto:(l.take o).length=o:=by simp;omega
 by_cases h1:i<o
 ·rw[if_neg (by omega),List.append_assoc,List.getElem?_append_left (by omega),List.getElem?_take,if_pos h1]
 ·by_cases h2:i<o+vs.length
  ·rw[if_pos (by omega),List.getElem?_append_left (by simp;omega),List.getElem?_append_right (by omega),hto]
  ·rw[if_neg (by omega),List.getElem?_append_right (by simp;omega),List.getElem?_drop];congr 1;simp;omega
theorem gS{α:Type}(l:List α)(i:Nat)(d:α)(h:i<l.length):l[i]? =some (l.getD i d):=by
 simp[List.getD,List.getElem?_eq_getElem h]
theorem ahX{size i i' j j' f:Nat}(hj:j<size)(jB:j'<size)(h:f+i*size+j=f+i'*size+j'):i=i'∧j=j':=by
 have h1:i*size+j=i'*size+j':=by omega
 have h2:(i*size+j) / size=i:=by rw[Nat.mul_comm,Nat.mul_add_div (by omega),Nat.div_eq_of_lt hj];rfl
 have h3:(i'*size+j') / size=i':=by rw[Nat.mul_comm,Nat.mul_add_div (by omega),Nat.div_eq_of_lt jB];rfl
 have:i=i':=by rw[←h2,←h3,h1]
 subst this;exact⟨rfl,by omega⟩
theorem agl{t:TypeId}{a x:AV}{va vx:Value}{q:bC}(h:(acN P t a x).eval H=some q)(hs:Sat ρ H G w)
 (ha:ab ρ H (aN ρ H G) w a va) (hx:ab ρ H (aN ρ H G) w x vx):
 ∃w',(Instr.storeAt t va vx).run P w=.ok () w'∧∀base,Good ρ H G w (c9 H q.up base q.new) (q.r base) undef w':=by
 unfold acN at h;split at h
 ·rename_i sz wL bK pW;split at h
  ·
   rename_i id off;unfold ab az at ha;obtain⟨b,hb,rfl,_⟩:=ha;simp only[RM.eval]at h;split at h
   ·rename_i an e ho;obtain⟨cells,fr,h1,h2,h3⟩:=nZ hs ho hb;cases wL
    ·simp only[cond_false]at h;rw[Bool.cond_eq_ite]at h;split at h
     ·rename_i hc;simp only[Bool.and_eq_true,Nat.beq_eq]at hc;obtain⟨hsg,rfl⟩:=hc;split at h
      ·rename_i eH m5;simp only[RM.eval,Option.some.injEq]at h;subst h;obtain⟨h4,h5⟩:=lY an off m5 h3 hsg hx;obtain⟨h6,h7⟩:=jS hsg hx;refine⟨_,ky bK (by rw[lj h7];rfl) (bN off _ 0 h1 h2 (by rw[lj h7];simp;omega) (by rw[lj h7];simpa using h7)),fun base=> ?_⟩;simp only[fC,lj h7,Nat.add_zero,List.length_singleton];exact Good.uv hs ho hb h1 h2 (by simp;omega) (by rw[kL _ _ _ h4];exact h5)
      ·cases h
     ·cases h
    ·simp only[cond_true]at h;split at h
     ·rename_i jr hby;rw[Bool.cond_eq_ite]at h;split at h
      ·rename_i hc;simp only[Bool.and_eq_true,Nat.beq_eq]at hc;obtain⟨hw,_⟩:=hc;split at h
       ·rename_i eH apj;simp only[RM.eval,Option.some.injEq]at h;subst h;have h4:=qb hby hx;have h5:=iR h4;obtain⟨h6,h7⟩:=uj apj h3 h4;refine⟨_,ky bK (h5.trans hw) (bN off _ 0 h1 h2 (by omega) (uk jr h4)),fun base=> ?_⟩;simp only[fC,Nat.add_zero];exact Good.uv hs ho hb h1 h2 (by simp only[List.length_append,List.length_take,List.length_drop];omega) h7
       ·cases h
      ·cases h
     ·cases h
   ·cases h
  ·
   rename_i id off n i;unfold ab az at ha;obtain⟨dd,b,hb,rfl,_⟩:=ha;simp only[RM.eval]at h;split at h
   ·rename_i an e ho;obtain⟨cells,fr,h1,h2,h3⟩:=nZ hs ho hb;split at h
    ·rename_i k m ws k' l y ak8 mY;rw[Bool.cond_eq_ite]at h;split at h
     ·rename_i hc;simp only[Bool.and_eq_true,Bool.not_eq_true',Nat.beq_eq]at hc;obtain⟨⟨⟨rfl,hk⟩,rfl⟩,rfl⟩:=hc;obtain rfl:=aZ hk;split at h
      ·rename_i eH m5;simp only[RM.eval,Option.some.injEq]at h;subst h;obtain rfl:=bW mY hx;obtain⟨hl,pre,post,rfl,hp⟩:=nY an off ak8 h3;have h4:=mW an off ak8 m5 (by simp) h3 hp;have a8:off+i<(pre++ws.map (Value.int k)++post).length:=by simp;omega
       refine⟨_,ky bK rfl (bN (off+i) [.int k y] 0 h1 h2 (by simp;omega) (by simp[Value.oneCell'])),fun base=> ?_⟩;simp only[fC,Nat.add_zero,List.length_singleton];refine Good.uv hs ho hb h1 h2 (by rw[kL _ _ _ a8];simp) ?_;rw[kL _ _ _ a8,List.append_assoc,List.set_append_right _ _ (by omega),List.set_append_left _ _ (by simp;omega),show off+i - pre.length=i from by omega,←List.append_assoc];rw[List.map_set]at h4;exact h4
      ·cases h
     ·cases h
    ·cases h
   ·cases h
  ·
   rename_i id i j;unfold ab az at ha;obtain⟨_,o,ho,hv⟩:=ha;simp only[RM.eval]at h;split at h
   ·rename_i c e dg;rw[ho]at dg;cases dg;obtain⟨hi,hj,b,f,n,cap,dP,rfl⟩:=hv c e rfl;split at h
    ·rename_i jr hby;rw[Bool.cond_eq_ite]at h;split at h
     ·rename_i hc;simp only[Bool.and_eq_true,Nat.beq_eq]at hc;obtain⟨hw,hle⟩:=hc;have hle:=Nat.le_of_ble_eq_true hle;split at h
      ·rename_i c' m5;simp only[RM.eval,Option.some.injEq]at h;subst h;have h4:=qb hby hx;obtain⟨k1,k2,k3,k4,k5⟩:=ahW jr c m5 h4 hi (by omega);obtain⟨a,af3,h5,h6,h7,h8⟩:=hs.obj id _ ho;rw[dP]at h5;cases h5;rcases h8 with rfl|⟨b',o',cells,fr,us,e1,g1,g2,g3,g4⟩
       ·omega
       ·cases e1
        have lT:er (ρ id)=some b:=by
         rw[dP];simp only[er];rw[if_neg (by omega)]
        have hmul:i*c.size+c.size≤cap*c.size:=by
         rw[←Nat.succ_mul];exact Nat.mul_le_mul_right _ (by omega)
        have hlen:f+i*c.size+j+vx.cells.toList.length≤cells.length:=by omega
        have st:=jU (G:=G) (w:=w) (o':=.vec c' e) ho rfl lT (fun c1 e1 hc1=>by cases hc1;exact⟨c,e,rfl,k1,k2⟩)
         (.cells (cells.take (f+i*c.size+j)++vx.cells.toList++cells.drop (f+i*c.size+j+vx.cells.toList.length)).toArray e fr)
        refine⟨_,ky bK (k3.trans hw) (bN (f+i*c.size+j) _ 0 g1 g2.unm (by omega) (uk jr h4)),fun base=> ?_⟩;simp only[fC,Nat.add_zero];refine Good.write hs ho rfl rfl lT (fun c1 e1 hc1=>by cases hc1;exact⟨c,e,rfl,k1,k2⟩) ?_ cH;refine⟨some ⟨b,f,none⟩,cap,by rw[dP,k1],by omega,h7,.inr ⟨b,f,_,fr,fun i' j'=>if i'=i∧j≤j'∧j'<j+fM jr then(vx.cells.toList.getD (j' - j) undef)else us i' j',rfl,eO g1, ?_, ?_, ?_⟩⟩
        ·exact g2.over (uk jr h4) hlen
        ·simp only[List.length_append,List.length_take,List.length_drop];rw[k2];omega
        ·intro i' j' eR jB;rw[k1]at eR;rw[k2]at jB;rw[k2,y7 _ _ _ hlen];dsimp only;by_cases dd:i'=i∧j≤j'∧j'<j+fM jr
         ·obtain⟨rfl,h9,y5⟩:=dd;rw[if_pos ⟨by omega,by omega⟩,if_pos ⟨rfl,h9,y5⟩];have hx1:j' - j<vx.cells.toList.length:=by omega
          refine⟨by rw[show f+i'*c.size+j' - (f+i'*c.size+j)=j' - j from by omega];exact gS _ _ _ hx1, ?_⟩;have:=k4 (j' - j) _ (gS _ _ undef hx1);rw[show j+(j' - j)=j' from by omega]at this;exact this.step st.fP st.heap st.size
         ·rw[if_neg dd]
          have oF:¬(f+i*c.size+j≤f+i'*c.size+j'∧f+i'*c.size+j'<f+i*c.size+j+vx.cells.toList.length):=by
           rintro⟨h9,y5⟩;have hd:f+i*c.size+(f+i'*c.size+j' - (f+i*c.size))=f+i'*c.size+j':=by omega
           obtain⟨h11,h12⟩:=ahX (f:=f) (i:=i) (i':=i') (j:=f+i'*c.size+j' - (f+i*c.size)) (by omega) jB hd;subst h11;exact dd ⟨rfl,by omega,by omega⟩
          rw[if_neg oF,k5 i' j' eR jB (by omega)];obtain⟨h9,y5⟩:=g4 i' j' eR jB;exact⟨h9,y5.step st.fP st.heap st.size⟩
      ·cases h
     ·cases h
    ·cases h
   ·cases h
  ·cases h
 ·cases h
end
end Go.Sx
namespace Go.Sx
open Go
section
variable{ρ aB:Nat→Value}{H H':aJ}{G O O':Nat→Prop}{w w':World}{P:Program}
theorem y8{v:Value}{x:SV}(h:ak2 v=some x):aR O w x v:=by
 unfold ak2 at h;split at h<;>simp only[Option.some.injEq,reduceCtorEq]at h<;>subst h
 ·exact .aA _
 ·exact .aV _ _
 ·exact .str _
 ·exact .fU
 ·exact .acC
 ·exact .acD
 ·exact .acE
theorem uw{v:Value}{a:AV}(h:p6 v=some a):aK ρ H O w a [v]:=by
 unfold p6 at h;split at h
 ·simp only[Option.some.injEq]at h;subst h;unfold aK;exact⟨_,rfl,none,rfl⟩
 ·simp only[Option.map_eq_some_iff]at h;obtain⟨x,h1,rfl⟩:=h;unfold aK;exact⟨v,rfl,y8 h1⟩
theorem m6:∀(vs:List Value) {aG:List AV},p7 vs=some aG→ao ρ H O w aG vs
 |[],aG,h=>by simp only[p7,Option.some.injEq]at h;subst h;exact aq.2 rfl
 |v::vs,aG,h=>by
  simp only[p7]at h;split at h
  ·rename_i a dk h1 h2;simp only[Option.some.injEq]at h;subst h;exact af.2 ⟨[v],vs,rfl,uw h1,m6 vs h2⟩
  ·cases h
theorem m7(k:IntKind):∀(cs:List Value),mP k cs=true→cs=(List.replicate cs.length (0:Int)).map (Value.int k)
 |[],_=>rfl
 |v::vs,h=>by
  unfold mP at h;split at h
  ·rename_i hc;cases hc
  ·rename_i k' vs' hc;cases hc;simp only[Bool.and_eq_true]at h;obtain rfl:=aZ h.1;have:=m7 k vs h.2;simp only[List.length_cons,List.replicate_succ,List.map_cons,List.cons.injEq,true_and];exact this
  ·cases h
theorem aaG(P:Program)(d:Nat)(ih:∀t cs an,gO P d t cs=some an→ao ρ H O w an cs):∀(fs:List Field) (s0 s1:List AV) (r0 r1:List Value),
 fs.foldl (fun acc f=>match acc,dF P f.type with
  |some (an,rest),some n=>(gO P d f.type (rest.take n)).map fun s=>(an++s,rest.drop n)
  |_,_=>none) (some (s0,r0))=some (s1,r1)→∃s' c,s1=s0++s'∧r0=c++r1∧ao ρ H O w s' c
 |[],s0,s1,r0,r1,h=>by
  simp only[List.foldl_nil,Option.some.injEq,Prod.mk.injEq]at h;obtain⟨rfl,rfl⟩:=h;exact⟨[],[],by simp,rfl,aq.2 rfl⟩
 |f::fs,s0,s1,r0,r1,h=>by
  simp only[List.foldl_cons]at h
  have js:∀(fs:List Field),fs.foldl (fun(acc:Option (List AV×List Value)) f=>match acc,dF P f.type with
   |some (an,rest),some n=>(gO P d f.type (rest.take n)).map fun s=>(an++s,rest.drop n)
   |_,_=>none) none=none:=by
   intro fs
   induction fs with
   |nil=>rfl
   |cons f fs ih=>simp only[List.foldl_cons];exact ih
  cases bK:dF P f.type with
  |none=>rw[bK]at h;simp only[js]at h;cases h
  |some n=>
   rw[bK]at h;simp only[]at h;cases hz:gO P d f.type (r0.take n)with
   |none=>rw[hz]at h;simp only[Option.map_none,js]at h;cases h
   |some s=>
    rw[hz]at h;simp only[Option.map_some]at h;obtain⟨s',c,rfl,h1,h2⟩:=aaG P d ih fs _ _ _ _ h;refine⟨s++s',r0.take n++c,by simp, ?_,fi.2 ⟨_,_,rfl,ih _ _ _ hz,h2⟩⟩;rw[List.append_assoc,←h1,List.take_append_drop]
theorem sG(P:Program):∀(d:Nat) (t:TypeId) (cs:List Value) (an:List AV),gO P d t cs=some an→ao ρ H O w an cs
 |0,t,cs,an,h=>by simp[gO]at h
 |d+1,t,cs,an,h=>by
  simp only[gO]at h;split at h
  ·simp only[Option.bind_eq_some_iff]at h;obtain⟨⟨s,rest⟩,h1,h2⟩:=h;obtain⟨s',c,rfl,rfl,h3⟩:=aaG P d (sG P d) _ _ _ _ _ h1;simp only[]at h2;split at h2
   ·simp only[Option.some.injEq]at h2;subst h2;simpa using h3
   ·cases h2
  ·split at h
   ·rename_i k hk;rw[Bool.cond_eq_ite]at h;split at h
    ·rename_i hc;simp only[Bool.and_eq_true,beq_iff_eq]at hc;obtain⟨hz,rfl⟩:=hc;simp only[Option.some.injEq]at h;subst h;exact af.2 ⟨cs,[],by simp,cG.2 ⟨by simp,m7 k cs hz⟩,aq.2 rfl⟩
    ·exact m6 cs h
   ·exact m6 cs h
  ·exact m6 cs h
theorem aaH(an:List AV):(AV.kK an).jq=some an:=by
 unfold AV.kK;split<;>rfl
theorem n7{t:TypeId}{an:List AV}(h:(zeroOf P t).bind AV.jq =some an):∃i v,P.info? t=some i∧i.zero=some v∧ao ρ H O w an v.cells.toList:=by
 simp only[Option.bind_eq_some_iff]at h;obtain⟨z,h1,h2⟩:=h;unfold zeroOf at h1;split at h1
 ·rename_i cs hz ha;simp only[Option.bind_eq_some_iff]at hz;obtain⟨i,hi,hz⟩:=hz;simp only[Option.map_eq_some_iff]at h1;obtain⟨ss,h3,rfl⟩:=h1;rw[aaH]at h2;simp only[Option.some.injEq]at h2;subst h2;exact⟨i,_,hi,hz,by simpa[Value.cells]using sG P 20 t _ _ h3⟩
 ·skip;rename_i v hz ha;simp only[Option.bind_eq_some_iff]at hz;obtain⟨i,hi,hz⟩:=hz;refine⟨i,v,hi,hz, ?_⟩;have hc:=uw (ρ:=ρ) (H:=H) (O:=O) (w:=w) h1
  have hv:v.oneCell'=true∧z.jq =some [z]:=by
   unfold p6 at h1;split at h1
   ·simp only[Option.some.injEq]at h1;subst h1;exact⟨rfl,rfl⟩
   ·simp only[Option.map_eq_some_iff]at h1;obtain⟨x,h3,rfl⟩:=h1;refine⟨(y8 (O:=O) (w:=w) h3).one, ?_⟩;unfold ak2 at h3;split at h3<;>simp only[Option.some.injEq,reduceCtorEq]at h3<;>subst h3<;>rfl
  rw[hv.2]at h2;simp only[Option.some.injEq]at h2;subst h2;rw[lj hv.1];exact af.2 ⟨[v],[],rfl,hc,aq.2 rfl⟩
 ·cases h1
theorem xy(hs:Sat ρ H G w){n:Nat}(hn:H n=none){an:List AV}{e:TypeId}{cells:List Value}(hd:ao ρ H (aN ρ H G) w an cells):
 Good ρ H G w (aD H n (.own an e)) (.ptr n 0) (.pointer (some ⟨w.heap.size,0,none⟩)) (w.alloc (.cells cells.toArray e)):=by
 have st:Step ρ H (aN ρ H G) w (fun j=>if j=n then .pointer (some ⟨w.heap.size,0,none⟩)else ρ j) (aD H n (.own an e)) (aN (fun j=>if j=n then .pointer (some ⟨w.heap.size,0,none⟩)else ρ j) (aD H n (.own an e)) G) (w.alloc (.cells cells.toArray e)):=by
  have ne:∀j x,H j=some x→j≠n:=fun j x hx e=>by subst e;rw[hn]at hx;cases hx
  refine⟨fun j x hx=>by simp[ne j x hx],fun j x hx=>⟨x,by simp[aD,ne j x hx,hx],fun c' e' hc=>⟨c',e',hc,rfl,rfl⟩⟩,fun b hb=> ?_,fun b hb _=>alloc_old hb,by rw[fl];omega⟩;rcases hb with⟨j,x,hx,h1,h2⟩|hb
  ·by_cases hj:j=n
   ·subst hj;simp only[if_true,er,Option.some.injEq]at h2;exact .inr (by omega)
   ·simp only[aD,hj,if_false]at hx h2;exact .inl (.inl ⟨j,x,hx,h1,h2⟩)
  ·exact .inl (.inr hb)
 refine Good.fresh (root:=.pointer (some ⟨w.heap.size,0,none⟩)) hs hn rfl rfl rfl rfl (fun b hb=>by simpa[er]using hb.symm) ?_ ?_
 ·exact⟨w.heap.size,cells,(0,0),rfl,kZ,fun off _ h=>by omega,hd.step st⟩
 ·unfold ab az;exact⟨w.heap.size,by simp,rfl,by simp[aD]⟩
theorem ac3(hs:Sat ρ H G w){n:Nat}(hn:H n=none){k:Nat}(hk:1≤k)(rh:k≤maxLen){e:TypeId}:
 Good ρ H G w (aD H n (.vec (.strs (List.replicate k ByteArray.empty)) e)) (.gj n 0 0) (.pointer (some ⟨w.heap.size,0,none⟩)) (w.alloc (.cells (List.replicate k (Value.string ByteArray.empty)).toArray e)):=by
 have qj:∀b,er (.slice (some ⟨w.heap.size,0,none⟩) k k)=some b→b=w.heap.size:=by
  intro b hb;simp only[er]at hb;split at hb
  ·cases hb
  ·simpa using hb.symm
 refine Good.fresh (root:=.slice (some ⟨w.heap.size,0,none⟩) k k) hs hn rfl rfl rfl rfl qj ?_ ?_
 ·refine⟨some ⟨w.heap.size,0,none⟩,k,by simp[aI.n],by simp[aI.n],rh,.inr ⟨w.heap.size,0,List.replicate k (Value.string ByteArray.empty),(0,0),fun _ _=>.string ByteArray.empty,rfl,kZ,⟨fun off _ h=>by omega,fun u hu=> ?_⟩,by simp[aI.size],fun i j hi hj=> ?_⟩⟩
  ·rw[(List.mem_replicate.1 hu).2];rfl
  ·simp only[aI.n,List.length_replicate]at hi;simp only[aI.size]at hj ⊢;obtain rfl:j=0:=by omega
   refine⟨by simp[hi], ?_⟩;simp only[aI.cell];rw[show(List.replicate k ByteArray.empty).getD i ByteArray.empty=ByteArray.empty from by simp[List.getD,hi]];exact aR.str _
 ·unfold ab az
  exact⟨rfl,.vec (.strs (List.replicate k ByteArray.empty)) e,by simp[aD],fun c' e' hc=>by
   cases hc;exact⟨by simp[aI.n];omega,by simp[aI.size],w.heap.size,0,k,k,by simp,by simp[aI.size]⟩⟩
theorem ac4{t:TypeId}{n:Nat}(h:yN P t=some n):1≤n∧n≤4096∧∃i v,P.info? t=some i∧i.zero=some v∧v.cells=(List.replicate n (Value.string ByteArray.empty)).toArray:=by
 unfold yN at h;split at h
 ·rename_i m e i _ hi;split at h
  ·rename_i z _ hz;rw[Bool.cond_eq_ite]at h;split at h
   ·rename_i hc;simp only[Option.some.injEq]at h;subst h;simp only[Bool.and_eq_true,Nat.beq_eq]at hc;obtain⟨⟨⟨c1,c2⟩,c3⟩,c4⟩:=hc;have c1:=Nat.le_of_ble_eq_true c1;refine⟨by omega,Nat.le_of_ble_eq_true c2,i,z,hi,hz, ?_⟩;rw[List.all_eq_true]at c4
    have:z.cells.toList=List.replicate m (Value.string ByteArray.empty):=List.eq_replicate_iff.2 ⟨by rw[Array.length_toList];exact c3,fun b hb=>by
     have:=c4 b hb;split at this
     ·rename_i s;have h0:s.size=0:=by simpa using this
      have:s=ByteArray.empty:=ByteArray.ext (Array.eq_empty_of_size_eq_zero h0);rw[this]
     ·cases this⟩
    rw[←this]
   ·cases h
  ·cases h
 ·cases h
theorem agm{t:TypeId}{q:bC}(h:(acQ P t).eval H=some q)(hs:Sat ρ H G w){base:Nat}(hb:∀i,i<q.new.length→H (base+i)=none)(old:Value):
 ∃v w',(Instr.alloc t true old).run P w=.ok v w'∧Good ρ H G w (c9 H q.up base q.new) (q.r base) v w':=by
 unfold acQ at h;split at h
 ·rename_i n hz;simp only[RM.eval,Option.some.injEq]at h;subst h;obtain⟨h1,h2,i,v,hi,hv,hc⟩:=ac4 hz;have hn:H base=none:=by simpa using hb 0 (by simp)
  refine⟨.pointer (some ⟨w.heap.size,0,none⟩),w.alloc (.cells v.cells t), ?_, ?_⟩
  ·simp[Instr.alloc,zeroValue,typeInfo,hi,hv,newVar,newRow];try rfl
  ·simp only[iU];have:=ac3 hs hn h1 (by unfold maxLen;omega) (e:=t);rw[hc];simpa using this
 split at h
 ·rename_i an hz;simp only[RM.eval,Option.some.injEq]at h;subst h;obtain⟨i,v,hi,hv,hd⟩:=n7 (ρ:=ρ) (H:=H) (O:=aN ρ H G) (w:=w) hz;have hn:H base=none:=by simpa using hb 0 (by simp)
  refine⟨.pointer (some ⟨w.heap.size,0,none⟩),w.alloc (.cells v.cells t), ?_, ?_⟩
  ·simp[Instr.alloc,zeroValue,typeInfo,hi,hv,newVar,newRow];try rfl
  ·simp only[iU];have:=xy hs hn (e:=t) hd;simpa using this
 ·cases h
theorem ale{t:TypeId}{x:AV}{vx:Value}{q:bC}(h:(ao8 t x).eval H=some q)(hs:Sat ρ H G w)(hd:ab ρ H (aN ρ H G) w x vx){base:Nat}(hb:∀i,i<q.new.length→H (base+i)=none):
 ∃v w',(Instr.box t vx).run P w=.ok v w'∧Good ρ H G w (c9 H q.up base q.new) (q.r base) v w':=by
 unfold ao8 at h;split at h
 ·rename_i an hz;simp only[RM.eval,Option.some.injEq]at h;subst h;have hn:H base=none:=by simpa using hb 0 (by simp)
  refine⟨.pointer (some ⟨w.heap.size,0,none⟩),w.alloc (.cells vx.cells t), ?_, ?_⟩
  ·simp[Instr.box,newVar,newRow];try rfl
  ·simp only[iU];have:=xy hs hn (e:=t) (qb hz hd);simpa using this
 ·cases h
end
end Go.Sx
namespace Go.Sx
open Go
section
variable{ρ aB:Nat→Value}{H H':aJ}{G O O':Nat→Prop}{w w':World}{P:Program}
theorem xz(off:Nat):∀(vs:List Value) (k:Nat) (cells:Array Value),off+k+vs.length≤cells.size→
 ((vs.zipIdx k).foldl (fun(cs:Array Value) (x:Value×Nat)=>cs.setIfInBounds (off+x.2) x.1) cells).toList=cells.toList.take (off+k)++vs++cells.toList.drop (off+k+vs.length)
 |[],k,cells,_=>by simp
 |v::vs,k,cells,h=>by
  simp only[List.length_cons]at h;simp only[List.zipIdx_cons,List.foldl_cons];rw[xz off vs (k+1) _ (by simp;omega)];have a8:off+k<cells.toList.length:=by simp;omega
  simp only[Array.toList_setIfInBounds];rw[←Nat.add_assoc,List.take_set,List.drop_set_of_lt (by omega)]
  have e1:(cells.toList.take (off+k+1)).set (off+k) v=cells.toList.take (off+k)++[v]:=by
   rw[List.take_succ_eq_append_getElem a8];rw[List.set_append_right _ _ (by simp;omega)];simp at a8;simp[Nat.min_eq_left (Nat.le_of_lt a8)]
  rw[e1];simp only[List.append_assoc,List.length_cons,List.cons_append,List.nil_append];rw[show off+k+1+vs.length=off+k+(vs.length+1)from by omega]
theorem tA{place:Nat→Option (Nat×Nat)}{ev:Operand→AV}{e:Operand→Value}:∀(l:List (Nat×Operand)) (an ss:List AV) (cells:Array Value),(∀p∈l,ab ρ H O w (ev p.2) (e p.2))→
 pn place an (l.map fun p=>(p.1,ev p.2))=some ss→ao ρ H O w an cells.toList→
 ∃dY,Instr.fill place cells (l.map fun p=>(p.1,e p.2))=some dY∧ao ρ H O w ss dY.toList
 |[],an,ss,cells,_,h,hd=>by
  simp only[List.map_nil,pn,Option.some.injEq]at h;subst h;exact⟨cells,rfl,hd⟩
 |(i,x)::l,an,ss,cells,hp,h,hd=>by
  simp only[List.map_cons,pn]at h;split at h
  ·rename_i off size jr hpl hby;rw[Bool.cond_eq_ite]at h;split at h
   ·rename_i hc;simp only[Bool.and_eq_true,Nat.beq_eq]at hc;simp only[Option.bind_eq_some_iff]at h;obtain⟨s1,h1,h2⟩:=h;have hx:=qb hby (hp (i,x) (by simp));have hlen:=iR hx;obtain⟨h3,h4⟩:=uj h1 hd hx;simp only[Array.length_toList]at hlen h3
    obtain⟨dY,h5,h6⟩:=tA l s1 ss ((e x).cells.zipIdx.foldl (fun cs (c,j)=>cs.setIfInBounds (off+j) c) cells) (fun p yU=>hp p (by simp[yU])) h2 (by
     rw[←Array.foldl_toList,Array.toList_zipIdx];have:=xz off (e x).cells.toList 0 cells (by simpa using h3);simp only[Nat.add_zero]at this;rw[this];exact h4)
    refine⟨dY, ?_,h6⟩;simp only[List.map_cons,Instr.fill,hpl];rw[if_neg (by simp;omega)];exact h5
   ·cases h
  ·cases h
theorem sH(P:Program)(w:World):∀(fs:List Field),fs.all (fun f=>(dF P f.type).isSome)=true→
 (fs.mapM (m:=Sem) fun f=>do pure (f.offset,←sizeOf f.type)).run P w=.ok (fs.map fun f=>(f.offset,(dF P f.type).getD 0)) w
 |[],_=>by simp
 |f::fs,h=>by
  simp only[List.all_cons,Bool.and_eq_true]at h;obtain⟨n,hn⟩:=Option.isSome_iff_exists.1 h.1;have ih:=sH P w fs h.2;simp only[List.mapM_cons,Sem.run_bind,run_sizeOf hn,Result.andThen_ok,Sem.run_pure,ih,List.map_cons,hn,Option.getD_some]
theorem agn{t:TypeId}{ps:Array (Nat×Operand)}{ev:Operand→AV}{e:Operand→Value}{q:bC}(h:(acR P t (ps.toList.map fun p=>(p.1,ev p.2))).eval H=some q)(hn:bw q.need)
 (hp:∀p∈ps,ab ρ H O w (ev p.2) (e p.2)):eW P ρ H O w q (Instr.build t (ps.map fun(i,x)=>(i,e x))):=by
 have yU:∀p∈ps.toList,ab ρ H O w (ev p.2) (e p.2):=fun p hm=>hp p (Array.mem_toList_iff.1 hm);unfold acR at h;split at h
 ·rename_i an fs hz ht;obtain⟨i,v,hi,hv,hd⟩:=n7 (ρ:=ρ) (H:=H) (O:=O) (w:=w) hz;rw[Bool.cond_eq_ite]at h;split at h
  ·rename_i y9;split at h
   ·rename_i ss hss
    have hm:(fs.mapM (m:=Sem) fun f=>do pure (f.offset,←sizeOf f.type)).run P w=.ok (fs.toList.map fun f=>(f.offset,(dF P f.type).getD 0)).toArray w:=by
     rw[Array.mapM_eq_mapM_toList];simp only[Sem.run_map,sH P w fs.toList y9,Result.andThen_ok]
    have apk:(fun i=>((fs.toList.map fun(f:Field)=>(f.offset,(dF P f.type).getD 0)).toArray)[i]?)=(fun(i:Nat)=>(fs[i]?).bind fun(f:Field)=>(dF P f.type).map fun n=>(f.offset,n)):=by
     funext i;simp only[List.getElem?_toArray,List.getElem?_map,Array.getElem?_toList];cases hf:fs[i]? with
     |none=>rfl
     |some f=>
      have jC:f∈fs.toList:=Array.mem_toList_iff.2 (Array.mem_of_getElem? hf);obtain⟨n,hn⟩:=Option.isSome_iff_exists.1 (List.all_eq_true.1 y9 f jC);simp[hn]
    obtain⟨dY,h1,h2⟩:=tA ps.toList an ss v.cells yU hss hd;refine ay h (fun _=>⟨.agg dY, ?_,by simpa using kY h2⟩) hn;rw[←apk]at h1;simp only[Instr.build,zeroValue,typeInfo,Sem.run_bind,run_program,Result.andThen_ok,hi,Sem.run_pure,hv,run_underlying ht,hm];simp only[Array.toList_map];erw [h1];rfl
   ·cases h
  ·cases h
 ·rename_i an n el hz ht;obtain⟨i,v,hi,hv,hd⟩:=n7 (ρ:=ρ) (H:=H) (O:=O) (w:=w) hz;split at h
  ·rename_i sz bK;split at h
   ·rename_i ss hss;obtain⟨dY,h1,h2⟩:=tA ps.toList an ss v.cells yU hss hd;refine ay h (fun _=>⟨.agg dY, ?_,by simpa using kY h2⟩) hn;simp only[Instr.build,zeroValue,typeInfo,Sem.run_bind,run_program,Result.andThen_ok,hi,Sem.run_pure,hv,run_underlying ht,run_sizeOf bK];simp only[Array.toList_map];erw [h1];rfl
   ·cases h
  ·cases h
 ·cases h
end
end Go.Sx
namespace Go.Sx
open Go
section
variable{ρ aB:Nat→Value}{H H':aJ}{G O O':Nat→Prop}{w w':World}{P:Program}
def Pts(O:Nat→Prop)(w:World)(l:List SV)(cs:List Value):Prop:=l.length=cs.length∧∀(i:Nat) (v:SV),l[i]? =some v→∃u,cs[i]? =some u∧aR O w v u
theorem alf:Pts O w [] ([]:List Value):=⟨rfl,by simp⟩
theorem ux{v:SV}{l:List SV}{cs:List Value}(h:Pts O w (v::l) cs):∃u kU,cs=u::kU∧aR O w v u∧Pts O w l kU:=by
 obtain⟨h1,h2⟩:=h;cases cs with
 |nil=>simp at h1
 |cons u kU=>
  obtain⟨u',h3,h4⟩:=h2 0 v rfl;simp at h3;subst h3;exact⟨_,_,rfl,h4,by simpa using h1,fun i x hx=>by simpa using h2 (i+1) x (by simpa using hx)⟩
theorem ahY{v:SV}{l:List SV}{u:Value}{cs:List Value}(h1:aR O w v u)(h2:Pts O w l cs):Pts O w (v::l) (u::cs):=
 ⟨by simp[h2.1],fun i x hx=>by
   cases i with
   |zero=>simp at hx;subst hx;exact⟨u,rfl,h1⟩
   |succ i=>simpa using h2.2 i x (by simpa using hx)⟩
theorem ac5:∀(aG:List AV) {l:List SV} {cs:List Value},svs aG=some l→ao ρ H O w aG cs→Pts O w l cs
 |[],l,cs,h,hd=>by
  simp only[svs,Option.some.injEq]at h;subst h;obtain rfl:=aq.1 hd;exact alf
 |a::aG,l,cs,h,hd=>by
  obtain⟨c1,c2,rfl,h1,h2⟩:=af.1 hd;rcases ru a with⟨k,n,ws,rfl⟩|ha
  ·simp[svs]at h
  ·have hs:svs (a::aG)=match a.sv?,svs aG with|some v,some vs=>some (v::vs)|_,_=>none:=by
    cases a<;>first|rfl|(exact(ha _ _ _ rfl).elim)
   rw[hs]at h;split at h
   ·rename_i v vs hv hvs;simp only[Option.some.injEq]at h;subst h;cases a with
    |s x=>
     unfold aK at h1;obtain⟨u,rfl,hu⟩:=h1;have:x=v:=by cases x<;>simp only[AV.sv?,Option.some.injEq,reduceCtorEq]at hv<;>exact hv
     subst this;exact ahY hu (ac5 aG hvs h2)
    |emp=>
     unfold aK at h1;obtain⟨u,rfl,x,rfl⟩:=h1;simp only[AV.sv?,Option.some.injEq]at hv;subst hv;exact ahY (.ro (.ei 1 0 fun _ _=>.aQ) x 0 (fun _ _=>undef) 0 0 (Nat.le_refl _) (by simp[maxLen]) (by simp[aI.n]) (by simp[aI.n]) (by simp[aI.n])) (ac5 aG hvs h2)
    |_=>simp[AV.sv?]at hv
   ·cases h
theorem xA(k:IntKind):∀(l:List SV) {zs:List Int} {cs:List Value},pq k l=some zs→Pts O w l cs→zs.length=cs.length∧∀i,i<zs.length→∃u,cs[i]? =some u∧aR O w (.int k (zs.getD i 0)) u
 |[],zs,cs,h,hp=>by
  simp only[pq,Option.some.injEq]at h;subst h;exact⟨hp.1,by simp⟩
 |v::l,zs,cs,h,hp=>by
  obtain⟨u,kU,rfl,hu,yU⟩:=ux hp
  have key:∀k' n,aR O w (.int k' n) u→(bif bG k k' then(pq k l).map (n:: ·)else none)=some zs→zs.length=(u::kU).length∧∀i,i<zs.length→∃x,(u::kU)[i]? =some x∧aR O w (.int k (zs.getD i 0)) x:=by
   intro k' n hd h;rw[Bool.cond_eq_ite]at h;split at h
   ·rename_i hk;obtain rfl:=aZ hk;simp only[Option.map_eq_some_iff]at h;obtain⟨zs',h1,rfl⟩:=h;obtain⟨h2,h3⟩:=xA k l h1 yU;refine⟨by simp[h2],fun i hi=> ?_⟩;cases i with
    |zero=>exact⟨u,rfl,by simpa using hd⟩
    |succ i=>simpa using h3 i (by simpa using hi)
   ·cases h
  cases v<;>simp only[pq,reduceCtorEq]at h
  case int k' n=>exact key k' n hu h
  case aV k' n=>cases hu;exact key k' n (.int _ _) h
theorem xB:∀(l:List SV) {zs:List ByteArray} {cs:List Value},rk l=some zs→Pts O w l cs→zs.length=cs.length∧∀i,i<zs.length→∃u,cs[i]? =some u∧aR O w (.str (zs.getD i ByteArray.empty)) u
 |[],zs,cs,h,hp=>by
  simp only[rk,Option.some.injEq]at h;subst h;exact⟨hp.1,by simp⟩
 |v::l,zs,cs,h,hp=>by
  obtain⟨u,kU,rfl,hu,yU⟩:=ux hp;cases v<;>simp only[rk,reduceCtorEq]at h;simp only[Option.map_eq_some_iff]at h;obtain⟨zs',h1,rfl⟩:=h;obtain⟨h2,h3⟩:=xB l h1 yU;refine⟨by simp[h2],fun i hi=> ?_⟩;cases i with
  |zero=>exact⟨u,rfl,by simpa using hu⟩
  |succ i=>simpa using h3 i (by simpa using hi)
theorem pz:∀(l:List SV) {zs:List Bool} {cs:List Value},nX l=some zs→Pts O w l cs→zs.length=cs.length∧∀i,i<zs.length→∃u,cs[i]? =some u∧aR O w (.bool (zs.getD i false)) u
 |[],zs,cs,h,hp=>by
  simp only[nX,Option.some.injEq]at h;subst h;exact⟨hp.1,by simp⟩
 |v::l,zs,cs,h,hp=>by
  obtain⟨u,kU,rfl,hu,yU⟩:=ux hp;cases v<;>simp only[nX,reduceCtorEq]at h
  case bool b=>
   simp only[Option.map_eq_some_iff]at h;obtain⟨zs',h1,rfl⟩:=h;obtain⟨h2,h3⟩:=pz l h1 yU;refine⟨by simp[h2],fun i hi=> ?_⟩;cases i with
   |zero=>exact⟨u,rfl,by simpa using hu⟩
   |succ i=>simpa using h3 i (by simpa using hi)
  case aA b=>
   simp only[Option.map_eq_some_iff]at h;obtain⟨zs',h1,rfl⟩:=h;obtain⟨h2,h3⟩:=pz l h1 yU;refine⟨by simp[h2],fun i hi=> ?_⟩;cases i with
   |zero=>cases hu;exact⟨_,rfl,by simpa using aR.bool _⟩
   |succ i=>simpa using h3 i (by simpa using hi)
theorem ago{cs:List CK}{f:Nat→SV}{x:CL cs}(h:CL.ofs cs f=some x):∀j,j<CL.wide cs→∀(O:Nat→Prop) (w:World) (u:Value),aR O w (f j) u→aR O w (CL.cell cs x j) u:=by
 unfold CL.ofs at h;generalize CL.wide cs=m at h
 induction m generalizing x with
 |zero=>intro j hj;omega
 |succ m ih=>
  rw[List.range_succ,List.foldl_append]at h;simp only[List.foldl_cons,List.foldl_nil,Option.bind_eq_some_iff]at h;obtain⟨y,h1,h2⟩:=h;obtain⟨h3,h4⟩:=rA h2;intro j hj O w u hu;by_cases hjm:j=m
  ·subst hjm;exact h3 O w u hu
  ·rw[h4 j hjm];exact ih h1 j (by omega) O w u hu
theorem aaI{cs:List CK}{size:Nat}{cells:List SV}:∀{n i:Nat} {xs:List (CL cs)},xq cs size cells i n=some xs→xs.length=n∧∀k,k<n→∀j,j<CL.wide cs→∀(O:Nat→Prop) (w:World) (u:Value),
 aR O w (cells.getD ((i+k)*size+j) .aQ) u→aR O w (CL.cell cs (xs.getD k (CL.d cs)) j) u
 |0,i,xs,h=>by
  simp only[xq,Option.some.injEq]at h;subst h;exact⟨rfl,fun k hk=>by omega⟩
 |n+1,i,xs,h=>by
  simp only[xq]at h;split at h
  ·rename_i x ys h1 h2;simp only[Option.some.injEq]at h;subst h;obtain⟨h3,h4⟩:=aaI h2;refine⟨by simp[h3],fun k hk j hj O w u hu=> ?_⟩;cases k with
   |zero=>exact ago h1 j hj O w u (by simpa using hu)
   |succ k=>
    have:=h4 k (by omega) j hj O w u (by rw[show i+1+k=i+(k+1)from by omega];exact hu);simpa using this
  ·cases h
theorem ahZ{sh:Shape}{size n:Nat}{l:List SV}{cs:List Value}(hp:Pts O w l cs)(hl:l.length=n*size)(hn:(sw sh size n l).n=n)(hs:(sw sh size n l).size=size):
 ∀i j,i<n→j<size→∃u,cs[i*size+j]? =some u∧aR O w ((sw sh size n l).cell i j) u:=by
 have hd:∀i j,i<n→j<size→∃u,cs[i*size+j]? =some u∧aR O w ((aI.ei size n fun i j=>l.getD (i*size+j) .aQ).cell i j) u:=by
  intro i j hi hj
  have a8:i*size+j<l.length:=by
   rw[hl];have:(i+1)*size≤n*size:=Nat.mul_le_mul_right _ (by omega);rw[Nat.succ_mul]at this;omega
  obtain⟨u,h1,h2⟩:=hp.2 (i*size+j) l[i*size+j] (by simp[a8]);refine⟨u,h1, ?_⟩;simp only[aI.cell,List.getD,List.getElem?_eq_getElem a8,Option.getD_some];exact h2
 unfold sw at hn hs ⊢;cases sh with
 |ints k=>
  cases hx:pq k l with
  |none=>simp only[hx,Option.elim]at hn hs ⊢;exact hd
  |some zs=>
   simp only[hx,Option.elim,aI.n,aI.size]at hn hs ⊢;subst hs;intro i j hi hj;obtain rfl:j=0:=by omega
   obtain⟨h1,h2⟩:=xA k l hx hp;simpa[aI.cell]using h2 i (by omega)
 |strs=>
  cases hx:rk l with
  |none=>simp only[hx,Option.elim]at hn hs ⊢;exact hd
  |some zs=>
   simp only[hx,Option.elim,aI.n,aI.size]at hn hs ⊢;subst hs;intro i j hi hj;obtain rfl:j=0:=by omega
   obtain⟨h1,h2⟩:=xB l hx hp;simpa[aI.cell]using h2 i (by omega)
 |bR=>
  cases hx:nX l with
  |none=>simp only[hx,Option.elim]at hn hs ⊢;exact hd
  |some zs=>
   simp only[hx,Option.elim,aI.n,aI.size]at hn hs ⊢;subst hs;intro i j hi hj;obtain rfl:j=0:=by omega
   obtain⟨h1,h2⟩:=pz l hx hp;simpa[aI.cell]using h2 i (by omega)
 |ae ck=>
  simp only[Bool.cond_eq_ite]at hn hs ⊢;by_cases hw:(CL.wide ck).beq size=true
  ·simp only[hw,if_true]at hn hs ⊢;cases hx:xq ck size l 0 n with
   |none=>simp only[hx,Option.elim]at hn hs ⊢;exact hd
   |some zs=>
    simp only[hx,Option.elim,aI.n,aI.size]at hn hs ⊢;intro i j hi hj;obtain⟨h1,h2⟩:=aaI hx;obtain⟨u,h3,h4⟩:=hd i j hi hj;exact⟨u,h3,h2 i hi j (by omega) O w u (by rw[Nat.zero_add];exact h4)⟩
  ·simp only[hw]at hn hs ⊢;exact hd
 |other=>exact hd
theorem uy{α:Type}(l:List α):∀n,(rep n l).length=n*l.length
 |0=>by simp[rep]
 |n+1=>by simp[rep,uy l n,Nat.succ_mul,Nat.add_comm]
theorem ael{α:Type}(l:List α):∀(n k:Nat),k<n*l.length→(rep n l)[k]? =l[k%l.length]?
 |0,k,h=>by simp at h
 |n+1,k,h=>by
  simp only[rep];by_cases hk:k<l.length
  ·rw[List.getElem?_append_left hk,Nat.mod_eq_of_lt hk]
  ·rw[List.getElem?_append_right (by omega),ael l n (k - l.length) (by rw[Nat.succ_mul]at h;omega)];congr 1;rw[Nat.mod_eq_sub_mod (by omega:l.length≤k)]
theorem sI{z:List AV}{cs:List Value}(h:ao ρ H O w z cs):∀n,ao ρ H O w (rep n z) (rep n cs)
 |0=>aq.2 rfl
 |n+1=>fi.2 ⟨_,_,rfl,h,sI h n⟩
theorem agp(zc:Array Value)(n:Nat):((Array.range (n*zc.size)).map (zc[· %zc.size]!)).toList=rep n zc.toList:=by
 apply List.ext_getElem?;intro k;simp only[Array.toList_map,Array.toList_range,List.getElem?_map];by_cases hk:k<n*zc.size
 ·rw[List.getElem?_range hk,ael _ _ _ (by simpa using hk)]
  have hz:0<zc.size:=by
   rcases Nat.eq_zero_or_pos zc.size with h0|h0
   ·rw[h0]at hk;omega
   ·exact h0
  have hm:k%zc.size<zc.size:=Nat.mod_lt _ hz;simp[hm]
 ·rw[List.getElem?_eq_none (by simp;omega),List.getElem?_eq_none (by rw[uy];simp;omega)];rfl
end
end Go.Sx
namespace Go.Sx
open Go
section
variable{ρ aB:Nat→Value}{H H':aJ}{G O O':Nat→Prop}{w w':World}{P:Program}
theorem lq(hs:Sat ρ H G w){w1:World}(hw:w1.heap=w.heap)(ht:w1.tape=w.tape)(hos:w1.os=w.os)(oF:w1.output=w.output){n:Nat}(hn:H n=none){c:aI}{e:TypeId}{cells:List Value}{cap:Nat}
 (h1:c.n≤cap) (h2:cap≤maxLen) (h3:cap*c.size≤cells.length) (us:Nat→Nat→Value)
 (hd:∀i j,i<c.n→j<c.size→cells[i*c.size+j]? =some (us i j)∧aR (aN ρ H G) w (c.cell i j) (us i j)) (rC:∀u∈cells,u.oneCell'=true):
 Good ρ H G w (aD H n (.vec c e)) (.vec n) (.slice (some ⟨w.heap.size,0,none⟩) c.n cap) (w1.alloc (.cells cells.toArray e)):=by
 have qj:∀b,er (.slice (some ⟨w.heap.size,0,none⟩) c.n cap)=some b→b=w.heap.size:=by
  intro b hb;simp only[er]at hb;split at hb
  ·cases hb
  ·simpa using hb.symm
 have st:Step ρ H (aN ρ H G) w (fun j=>if j=n then .slice (some ⟨w.heap.size,0,none⟩) c.n cap else ρ j) (aD H n (.vec c e)) (aN (fun j=>if j=n then .slice (some ⟨w.heap.size,0,none⟩) c.n cap else ρ j) (aD H n (.vec c e)) G) (w1.alloc (.cells cells.toArray e)):=by
  have ne:∀j x,H j=some x→j≠n:=fun j x hx e=>by subst e;rw[hn]at hx;cases hx
  refine⟨fun j x hx=>by simp[ne j x hx],fun j x hx=>⟨x,by simp[aD,ne j x hx,hx],fun c' e' hc=>⟨c',e',hc,rfl,rfl⟩⟩,fun b hb=> ?_,fun b hb _=>by rw[alloc_old (by rw[hw];exact hb),hw],by rw[fl,hw];omega⟩;rcases hb with⟨j,x,hx,h1,h2⟩|hb
  ·by_cases hj:j=n
   ·subst hj;simp only[if_true]at h2;exact .inr (by rw[qj b h2];exact Nat.le_refl _)
   ·simp only[aD,hj,if_false]at hx h2;exact .inl (.inl ⟨j,x,hx,h1,h2⟩)
  ·exact .inl (.inr hb)
 refine Good.fresh (root:=.slice (some ⟨w.heap.size,0,none⟩) c.n cap) hs hn hw ht hos oF qj ?_ ?_
 ·refine⟨_,cap,rfl,h1,h2,.inr ⟨w.heap.size,0,cells,(0,0),us,rfl,by rw[←hw];exact kZ,⟨fun off _ h=>by omega,rC⟩,by omega,fun i j hi hj=> ?_⟩⟩;obtain⟨g1,g2⟩:=hd i j hi hj;exact⟨by rw[Nat.zero_add];exact g1,g2.step st.fP st.heap st.size⟩
 ·unfold ab az;exact⟨rfl,.vec c e,by simp[aD],fun c' e' hc=>by simp⟩
theorem uz{t:TypeId}{n:Nat}{ps:Array (Nat×Operand)}{ev:Operand→AV}{e:Operand→Value}{q:bC}(h:(mR P t n (ps.toList.map fun p=>(p.1,ev p.2))).eval H=some q)
 (hs:Sat ρ H G w) (hp:∀p∈ps,ab ρ H (aN ρ H G) w (ev p.2) (e p.2)) {base:Nat} (hb:∀i,i<q.new.length→H (base+i)=none):
 ∃v w',(Instr.buildSlice t n (ps.map fun(i,x)=>(i,e x))).run P w=.ok v w'∧Good ρ H G w (c9 H q.up base q.new) (q.r base) v w':=by
 have yU:∀p∈ps.toList,ab ρ H (aN ρ H G) w (ev p.2) (e p.2):=fun p hm=>hp p (Array.mem_toList_iff.1 hm);unfold mR at h;split at h
 ·rename_i el ht;split at h
  ·rename_i sz z bK hz;rw[Bool.cond_eq_ite]at h;split at h
   ·rename_i hc;simp only[Bool.and_eq_true,Nat.beq_eq]at hc;obtain⟨⟨c1,c2⟩,c3⟩:=hc;have c1:=Nat.le_of_ble_eq_true c1;have c2:=Nat.le_of_ble_eq_true c2;split at h
    ·rename_i l hl;simp only[Option.bind_eq_some_iff]at hl;obtain⟨ss,apj,hsv⟩:=hl;rw[Bool.cond_eq_ite]at h;split at h
     ·rename_i hc;simp only[Bool.and_eq_true,Nat.beq_eq]at hc;obtain⟨⟨d1,d2⟩,d3⟩:=hc;simp only[RM.eval,Option.some.injEq]at h;subst h;obtain⟨i,v,hi,hv,hd⟩:=n7 (ρ:=ρ) (H:=H) (O:=aN ρ H G) (w:=w) hz;have hlz:v.cells.size=sz:=by rw[←Array.length_toList,iR hd,c3]
      have za:((Array.range (n*sz)).map (v.cells[· %v.cells.size]!)).toList=rep n v.cells.toList:=by rw[←hlz];exact agp _ _
      obtain⟨dY,h1,h2⟩:=tA ps.toList _ ss ((Array.range (n*sz)).map (v.cells[· %v.cells.size]!)) yU apj (by rw[za];exact sI hd n);have arH:=ac5 ss hsv h2;have arI:=ahZ arH d1 d2 d3;have hcl:dY.toList.length=n*sz:=by rw[←arH.1,d1]
      have hn:H base=none:=by simpa using hb 0 (by simp)
      refine⟨.slice (some ⟨w.heap.size,0,none⟩) n n,w.alloc (.cells dY el), ?_, ?_⟩
      ·have aaJ:¬(n*sz>2^24):=by omega
       have key:∀zc:Array Value,((Array.range (n*sz)).map (zc[· %zc.size]!))=((Array.range (n*sz)).map (v.cells[· %v.cells.size]!))→
        (match Instr.fill (fun i=>some (i*sz,sz)) ((Array.range (n*sz)).map (zc[· %zc.size]!)) (ps.map fun(i,x)=>(i,e x)).toList with
          |some cells=>do
           let a ←newRow el cells
           pure (Value.slice (some a) n n)
          |_=>stuck "buildSlice: a part of the wrong size" :Sem Value).run P w=.ok (.slice (some ⟨w.heap.size,0,none⟩) n n) (w.alloc (.cells dY el)):=by
        intro zc hz;rw[hz];simp only[Array.toList_map];erw [h1];simp[newRow]
       simp only[Instr.buildSlice,Sem.run_bind,run_underlying ht,Result.andThen_ok,run_sizeOf bK,aaJ,if_false];by_cases h0:n*sz=0
       ·rw[if_pos h0];simp only[Sem.run_bind,Sem.run_pure,Result.andThen_ok]
        exact key #[] (by have:Array.range (n*sz)= #[]:=by rw[h0];rfl
                          rw[this];simp)
       ·rw[if_neg h0];simp only[Sem.run_bind,Sem.run_pure,Result.andThen_ok,zeroValue,typeInfo,run_program,hi,hv];exact key v.cells rfl
      ·simp only[iU];have:=lq hs (w1:=w) rfl rfl rfl rfl hn (c:=sw (shapeOf P el) sz n l) (e:=el) (cells:=dY.toList) (cap:=n) (by omega) (by simp only[maxLen];have:n≤n*sz:=Nat.le_mul_of_pos_right n (by omega);omega) (by rw[d3,hcl];exact Nat.le_refl _)
        (fun i j=>dY.toList.getD (i*sz+j) undef) (fun i j hi hj=>by
          rw[d2]at hi;rw[d3]at hj ⊢;obtain⟨u,g1,g2⟩:=arI i j hi hj;have a8:i*sz+j<dY.toList.length:=(List.getElem?_eq_some_iff.1 g1).1;rw[gS _ _ undef a8]at g1;simp only[Option.some.injEq]at g1;exact⟨gS _ _ _ a8,by rw[g1];exact g2⟩) (fun u hu=>by
          obtain⟨k,hk,rfl⟩:=List.getElem_of_mem hu;rw[hcl]at hk
          have hp:0<sz:=by rcases Nat.eq_zero_or_pos sz with h0|h0
                           ·rw[h0]at hk;omega
                           ·exact h0
          obtain⟨u,g1,g2⟩:=arI (k / sz) (k%sz) (Nat.div_lt_of_lt_mul (by rw[Nat.mul_comm];exact hk)) (Nat.mod_lt _ hp);rw[show k / sz*sz+k%sz=k from Nat.div_add_mod' k sz,List.getElem?_eq_getElem (by rw[hcl];exact hk)]at g1;cases g1;exact g2.one)
       simpa[d2]using this
     ·cases h
    ·cases h
   ·cases h
  ·cases h
 ·cases h
theorem xC:∀(r need c:Nat),c≤2*need+192→Builtin.growBy need r c≤2*need+192
 |0,need,c,h=>h
 |r+1,need,c,h=>by
  unfold Builtin.growBy;split
  ·exact h
  ·exact xC r need _ (by omega)
theorem nextslicecap_le{need old:Nat}(h:old<need):Builtin.nextslicecap need old≤2*need+192:=by
 unfold Builtin.nextslicecap;split
 ·omega
 ·split
  ·omega
  ·exact xC 4 need old (by omega)
theorem growBy_four(n c:Nat):Builtin.growBy n 4 c=
 if c≥n then c else
 if c+(c+768) / 4≥n then c+(c+768) / 4 else
 if c+(c+768) / 4+(c+(c+768) / 4+768) / 4≥n then c+(c+768) / 4+(c+(c+768) / 4+768) / 4 else
 if c+(c+768) / 4+(c+(c+768) / 4+768) / 4+(c+(c+768) / 4+(c+(c+768) / 4+768) / 4+768) / 4≥n
 then c+(c+768) / 4+(c+(c+768) / 4+768) / 4+(c+(c+768) / 4+(c+(c+768) / 4+768) / 4+768) / 4 else
 c+(c+768) / 4+(c+(c+768) / 4+768) / 4+(c+(c+768) / 4+(c+(c+768) / 4+768) / 4+768) / 4+
  (c+(c+768) / 4+(c+(c+768) / 4+768) / 4+(c+(c+768) / 4+(c+(c+768) / 4+768) / 4+768) / 4+768) / 4:=rfl
theorem rD{need old:Nat}(h:old<need):Builtin.nextslicecap need old≤2*need:=by
 unfold Builtin.nextslicecap;split
 ·omega
 ·split
  ·omega
  ·rw[growBy_four]
   repeat' split
   all_goals omega
structure Src (P:Program) (O:Nat→Prop) (w:World) (size:Nat) (d:aI) (v:Value) (news:List Value):Prop where
 len:(Builtin.lenOf v).run P w=.ok d.n w
 length:news.length=d.n*size
 first:∀w2:World,w2.heap=w.heap→(Builtin.firstCells size d.n v).run P w2=.ok news.toArray w2
 one:∀u∈news,u.oneCell'=true
 den:∀i j,i<d.n→j<size→∃u,news[i*size+j]? =some u∧aR O w (d.cell i j) u
theorem tB{size:Nat}{d:aI}{v:Value}(h:py O w d v)(hs:d.size=size)(h1:1≤size):∃news,Src P O w size d v news:=by
 obtain⟨a,cap,us,rfl,g1,g2,g3⟩:=h;subst hs
 have hdm:∀m,m<d.n*d.size→m / d.size<d.n∧m%d.size<d.size:=fun m hm=>
  ⟨Nat.div_lt_of_lt_mul (by rw[Nat.mul_comm];exact hm),Nat.mod_lt _ (by omega)⟩
 refine⟨(List.range (d.n*d.size)).map fun m=>us (m / d.size) (m%d.size), ?_,by simp,fun w2 hw2=> ?_,fun u hu=> ?_,fun i j hi hj=> ?_⟩
 ·simp[Builtin.lenOf]
 ·rcases Nat.eq_zero_or_pos d.n with h0|h0
  ·rw[h0];cases a<;>simp[Builtin.firstCells,loadCells,loadCellsFrom]
  ·obtain⟨b,o,rfl,_,hc⟩:=g3 h0;simp only[Builtin.firstCells];refine run_loadCells w2 _ _ (fun m=>us (m / d.size) (m%d.size)) (fun m hm=> ?_);obtain⟨k1,k2⟩:=hdm m hm;rw[aY];have:=(hc _ _ k1 k2).1;rw[Nat.add_assoc,show m / d.size*d.size+m%d.size=m from by rw[Nat.mul_comm];exact Nat.div_add_mod m d.size]at this;rw[←this];simp[World.cell?,hw2]
 ·obtain⟨m,hm,rfl⟩:=List.mem_map.1 hu;have hm:m<d.n*d.size:=List.mem_range.1 hm;obtain⟨k1,k2⟩:=hdm m hm;obtain⟨b,o,rfl,_,hc⟩:=g3 (Nat.lt_of_le_of_lt (Nat.zero_le _) k1);exact(hc _ _ k1 k2).2.one
 ·have a8:i*d.size+j<d.n*d.size:=by
   have:(i+1)*d.size≤d.n*d.size:=Nat.mul_le_mul_right _ (by omega);rw[Nat.succ_mul]at this;omega
  obtain⟨b,o,rfl,_,hc⟩:=g3 (by omega);have e1:(i*d.size+j) / d.size=i:=by rw[Nat.mul_comm,Nat.mul_add_div (by omega),Nat.div_eq_of_lt hj];rfl
  have e2:(i*d.size+j)%d.size=j:=by rw[Nat.mul_comm,Nat.mul_add_mod,Nat.mod_eq_of_lt hj]
  exact⟨us i j,by rw[List.getElem?_map,List.getElem?_range a8];simp[e1,e2],(hc i j hi hj).2⟩
theorem alg{s:ByteArray}:∃news,Src P O w 1 (.ints .u8 (s.data.toList.map fun b=>(b.toNat:Int))) (.string s) news:=by
 refine⟨s.data.toList.map fun b=>.int .u8 b.toNat, ?_,by simp[aI.n],fun w2 hw2=> ?_,fun u hu=> ?_,fun i j hi hj=> ?_⟩
 ·simp[Builtin.lenOf,aI.n]
 ·simp only[Builtin.firstCells,aI.n,Sem.run_pure,List.length_map];congr 1;have h:s.data.toList.length=s.size:=Array.length_toList;rw[h,ByteArray.extract_zero_size];apply Array.toList_inj.1;rw[Array.toList_map]
 ·obtain⟨b,_,rfl⟩:=List.mem_map.1 hu;rfl
 ·simp only[aI.n,List.length_map]at hi;obtain rfl:j=0:=by omega
  have eR:i<s.data.toList.length:=hi;refine⟨.int .u8 (s.data.toList[i].toNat),by rw[Nat.mul_one,Nat.add_zero,List.getElem?_map,List.getElem?_eq_getElem eR];rfl, ?_⟩;simp only[aI.cell]
  have:(s.data.toList.map fun b=>((b.toNat:Nat):Int)).getD i 0=(s.data.toList[i].toNat:Int):=by
   rw[List.getD,List.getElem?_map,List.getElem?_eq_getElem eR];rfl
  rw[this];exact .int _ _
end
end Go.Sx
namespace Go.Sx
open Go
section
variable{ρ aB:Nat→Value}{H H':aJ}{G O O':Nat→Prop}{w w':World}{P:Program}
theorem fo{α:Type}(xs ys:List α){lo k:Nat}(h:lo+k≤xs.length)(hk:k≤ys.length):(over xs lo k ys).length=xs.length:=by
 simp only[over,List.length_append,List.length_take,List.length_drop];omega
theorem jI{α:Type}(xs ys:List α)(d:α){lo k:Nat}(h:lo+k≤xs.length)(hk:k≤ys.length)(i:Nat):
 (over xs lo k ys).getD i d=if lo≤i∧i<lo+k then ys.getD (i - lo) d else xs.getD i d:=by
 have hto:(xs.take lo).length=lo:=by simp;omega
 have hty:(ys.take k).length=k:=by simp;omega
 simp only[over,List.getD];by_cases h1:i<lo
 ·rw[if_neg (by omega),List.append_assoc,List.getElem?_append_left (by omega),List.getElem?_take,if_pos h1]
 ·by_cases h2:i<lo+k
  ·rw[if_pos (by omega),List.append_assoc,List.getElem?_append_right (by omega),hto,List.getElem?_append_left (by omega),List.getElem?_take,if_pos (by omega)]
  ·rw[if_neg (by omega),List.append_assoc,List.getElem?_append_right (by omega),hto,List.getElem?_append_right (by omega),hty,List.getElem?_drop];congr 2;omega
theorem agq{α:Type}{lo i k:Nat}{a b:α}:(bif lo.ble i&&i.blt (lo+k)then a else b)=if lo≤i∧i<lo+k then a else b:=by
 rw[Bool.cond_eq_ite];congr 1;simp[Nat.blt,Nat.lt_iff_add_one_le,Nat.ble_eq]
theorem aaK{cs kU:List CK}(xs:List (CL cs))(ys:List (CL kU))(lo k:Nat)(p:aI→Prop)(h1:∀e:kU=cs,p (.ae cs (over xs lo k (e▸ys))))
 (h2:p (.ei (CL.wide cs) xs.length fun i j=>bif lo.ble i&&i.blt (lo+k)then(aI.ae kU ys).cell (i - lo) j else(aI.ae cs xs).cell i j)):p (dh (.ae cs xs) lo k (.ae kU ys)):=by
 simp only[dh];split
 ·rename_i h _;exact h1 h.down
 ·exact h2
theorem sK(c d:aI){lo k:Nat}(h:lo+k≤c.n)(hk:k≤d.n):
 (dh c lo k d).n=c.n∧(dh c lo k d).size=c.size∧∀i j,i<c.n→(dh c lo k d).cell i j=if lo≤i∧i<lo+k then d.cell (i - lo) j else c.cell i j:=by
 have other:∀c':aI,c'=.ei c.size c.n (fun i j=>bif lo.ble i&&i.blt (lo+k)then d.cell (i - lo) j else c.cell i j)→
  c'.n=c.n∧c'.size=c.size∧∀i j,i<c.n→c'.cell i j=if lo≤i∧i<lo+k then d.cell (i - lo) j else c.cell i j:=by
  rintro c' rfl;exact⟨rfl,rfl,fun i j _=>agq⟩
 cases c<;>cases d
 case ints.ints k1 xs k2 ys=>
  simp only[dh];cases hkk:bG k1 k2
  ·exact other _ rfl
  ·obtain rfl:=aZ hkk;simp only[aI.n]at h hk;refine⟨fo xs ys h hk,rfl,fun i j _=> ?_⟩;simp only[aI.cell,jI xs ys _ h hk,cond_true];split<;>rfl
 case strs.strs xs ys=>
  simp only[aI.n]at h hk;refine⟨fo xs ys h hk,rfl,fun i j _=> ?_⟩;simp only[dh,aI.cell,jI xs ys _ h hk];split<;>rfl
 case bR.bR xs ys=>
  simp only[aI.n]at h hk;refine⟨fo xs ys h hk,rfl,fun i j _=> ?_⟩;simp only[dh,aI.cell,jI xs ys _ h hk];split<;>rfl
 case ae.ae cs xs kU ys=>
  simp only[aI.n]at h hk;refine aaK xs ys lo k (fun c'=>c'.n=(aI.ae cs xs).n∧c'.size=(aI.ae cs xs).size∧∀i j,i<(aI.ae cs xs).n→c'.cell i j=if lo≤i∧i<lo+k then(aI.ae kU ys).cell (i - lo) j else(aI.ae cs xs).cell i j) ?_ (other _ rfl);rintro rfl;refine⟨fo xs ys h hk,rfl,fun i j _=> ?_⟩;simp only[aI.cell,jI xs ys _ h hk];split<;>rfl
 all_goals exact other _ rfl
theorem Good.upd(hs:Sat ρ H G w){id:Nat}{o o':ad}(ho:H id=some o)(ha:o.alive=o'.alive)
 (ry:∀c' e',o'=.vec c' e'→∃c e,o=.vec c e∧c'.n=c.n∧c'.size=c.size) {r:AV} {v:Value}
 (dV:iv ρ (aD H id o') (aN ρ H G) w (ρ id) o') (hr:ab ρ (aD H id o') (aN ρ H G) w r v):Good ρ H G w (aD H id o') r v w:=by
 have hh:=yY (ρ:=ρ) (G:=G) ho ha
 have st:Step ρ H (aN ρ H G) w ρ (aD H id o') (aN ρ (aD H id o') G) w:=by
  refine⟨fun _ _ _=>rfl,fun j x hx=> ?_,fun c hc=>.inl (by rw[hh]at hc;exact hc),fun c hc hO=>rfl,Nat.le_refl _⟩;by_cases hj:j=id
  ·subst hj;rw[ho]at hx;cases hx;exact⟨o',by simp[aD],ry⟩
  ·exact⟨x,by simp[aD,hj,hx],fun c' e' hc=>⟨c',e',hc,rfl,rfl⟩⟩
 refine⟨ρ,⟨fun j x hx=> ?_,fun i j oi oj c h1 h2 h3 h4 h5 h6=> ?_,fun c hc=> ?_,hs.low⟩,by rw[hh];exact hr,st,⟨rfl,rfl,rfl,fun _ _ _=>rfl⟩⟩
 ·by_cases hj:j=id
  ·subst hj;simp only[aD,if_true,Option.some.injEq]at hx;subst hx;rw[hh];exact dV
  ·have xv:H j=some x:=by simpa[aD,hj]using hx
   exact(hs.obj j x xv).step st (fun _ _ _=>rfl)
 ·have f:∀i oi,aD H id o' i=some oi→oi.alive=true→∃x,H i=some x∧x.alive=true:=by
   intro i oi hi uo;by_cases eR:i=id
   ·subst eR;simp only[aD,if_true,Option.some.injEq]at hi;subst hi;exact⟨o,ho,ha.trans uo⟩
   ·exact⟨oi,by simpa[aD,eR]using hi,uo⟩
  obtain⟨x,hx,hxa⟩:=f i oi h1 h3;obtain⟨y,hy,hya⟩:=f j oj h2 h4;exact hs.inj i j x y c hx hy hxa hya h5 h6
 ·exact hs.apart c ((yX ho ha c).1 hc)
theorem qk(hs:Sat ρ H G w){id:Nat}{c d:aI}{e:TypeId}(ho:H id=some (.vec c e)){lo k:Nat}(hlo:lo+k≤c.n)(hk:k≤d.n)(h1:1≤c.size){news:List Value}
 (hlen:news.length=k*c.size) (rC:∀u∈news,u.oneCell'=true) (lr:∀i j,i<k→j<c.size→∃u,news[i*c.size+j]? =some u∧aR (aN ρ H G) w (d.cell i j) u):
 ∃w',(∀a cap x,ρ id=.slice a c.n cap→(k=0∨a.map (·.add (lo*c.size))=some x)→(storeCells x news 0).run P w=.ok () w')∧(k=0→w'=w)∧
  ∀r v,(∀w2,ab ρ (aD H id (.vec (dh c lo k d) e)) (aN ρ H G) w2 r v)→Good ρ H G w (aD H id (.vec (dh c lo k d) e)) r v w':=by
 obtain⟨hn,bK,ql⟩:=sK c d hlo hk;obtain⟨a,cap,dP,q1,q2,q3⟩:=hs.obj id _ ho;have ry:∀c' e',ad.vec (dh c lo k d) e=.vec c' e'→∃c1 e1,ad.vec c e=.vec c1 e1∧c'.n=c1.n∧c'.size=c1.size:=fun c' e' hc=>by cases hc;exact⟨c,e,rfl,hn,bK⟩
 have hh:=yY (ρ:=ρ) (G:=G) ho (show(ad.vec c e).alive=(ad.vec (dh c lo k d) e).alive from rfl);rcases Nat.eq_zero_or_pos k with h0|h0
 ·subst h0;have jt:news=[]:=List.eq_nil_of_length_eq_zero (by rw[hlen];simp);subst jt;refine⟨w,fun a cap x _ _=>rfl,fun _=>rfl,fun r v hr=>Good.upd (o':=.vec (dh c lo 0 d) e) hs ho rfl ry ?_ (hr w)⟩;have hc:∀i j,i<c.n→(dh c lo 0 d).cell i j=c.cell i j:=fun i j hi=>by rw[ql i j hi,if_neg (by omega)]
  refine⟨a,cap,by rw[hn];exact dP,by omega,q2, ?_⟩;rcases q3 with q3|⟨b,o,cells,fr,us,e1,e2,e3,e4,e5⟩
  ·exact .inl q3
  ·exact .inr ⟨b,o,cells,fr,us,e1,e2,e3,by rw[bK];exact e4,fun i j hi hj=>by rw[hn]at hi;rw[bK]at hj ⊢;rw[hc i j hi];exact e5 i j hi hj⟩
 ·rcases q3 with q3|⟨b,o,cells,fr,us,rfl,e2,e3,e4,e5⟩
  ·omega
  ·have lT:er (ρ id)=some b:=by rw[dP];simp only[er];rw[if_neg (by omega)]
   have hm1:(lo+k)*c.size≤cap*c.size:=Nat.mul_le_mul_right _ (by omega);rw[Nat.add_mul]at hm1;have hl:o+lo*c.size+news.length≤cells.length:=by omega
   have xD:(cells.take (o+lo*c.size)++news++cells.drop (o+lo*c.size+news.length)).length=cells.length:=by
    simp only[List.length_append,List.length_take,List.length_drop];omega
   let obj:Obj:=.cells (cells.take (o+lo*c.size)++news++cells.drop (o+lo*c.size+news.length)).toArray e fr;refine⟨World.cf w b obj,fun a' af3 x hr hx=> ?_,fun h=>by omega,fun r v hr=> ?_⟩
   ·rw[dP]at hr;cases hr;rcases hx with hx|hx
    ·omega
    ·simp only[Option.map_some,aY,Option.some.injEq]at hx;subst hx;have:=bN (P:=P) (o+lo*c.size) news 0 e2 e3.unm (by omega) rC;rw[Nat.add_zero]at this;exact this
   ·have st:=jU (G:=G) (w:=w) (o':=.vec (dh c lo k d) e) ho rfl lT ry obj;refine Good.write hs ho rfl rfl lT ry ?_ (hr _);refine⟨some ⟨b,o,none⟩,cap,by rw[hn];exact dP,by omega,q2,.inr ⟨b,o,_,fr,fun i j=>if lo≤i∧i<lo+k then news.getD ((i - lo)*c.size+j) undef else us i j,rfl,eO e2,e3.over rC (by omega),by rw[xD,bK];exact e4,fun i j hi hj=> ?_⟩⟩;rw[hn]at hi;rw[bK]at hj ⊢;rw[ql i j hi,y7 _ _ _ hl];dsimp only;by_cases dd:lo≤i∧i<lo+k
    ·obtain⟨u,g1,g2⟩:=lr (i - lo) j (by omega) hj;have hmul:i*c.size=lo*c.size+(i - lo)*c.size:=by rw[←Nat.add_mul];congr 1;omega
     have a8:=(List.getElem?_eq_some_iff.1 g1).1;simp only[if_pos dd];rw[if_pos (by omega),show o+i*c.size+j - (o+lo*c.size)=(i - lo)*c.size+j from by omega,g1];have:news.getD ((i - lo)*c.size+j) undef=u:=by simp[List.getD,g1]
     rw[this];exact⟨rfl,g2.step st.fP st.heap st.size⟩
    ·simp only[if_neg dd]
     have oF:¬(o+lo*c.size≤o+i*c.size+j∧o+i*c.size+j<o+lo*c.size+news.length):=by
      intro hc;rcases Nat.lt_or_ge i lo with h2|h2
      ·have:(i+1)*c.size≤lo*c.size:=Nat.mul_le_mul_right _ (by omega);rw[Nat.succ_mul]at this;omega
      ·have:(lo+k)*c.size≤i*c.size:=Nat.mul_le_mul_right _ (by omega);rw[Nat.add_mul]at this;omega
     rw[if_neg oF];obtain⟨g1,g2⟩:=e5 i j hi hj;exact⟨g1,g2.step st.fP st.heap st.size⟩
end
end Go.Sx
namespace Go.Sx
open Go
section
variable{ρ aB:Nat→Value}{H H':aJ}{G O O':Nat→Prop}{w w':World}{P:Program}
theorem lZ{cs kU:List CK}(xs:List (CL cs))(ys:List (CL kU))(p:aI→Prop)(h1:∀e:kU=cs,p (.ae cs (xs++e▸ys)))
 (h2:p (.ei (CL.wide cs) (xs.length+ys.length) fun i j=>bif i.blt xs.length then(aI.ae cs xs).cell i j else(aI.ae kU ys).cell (i - xs.length) j)):p (cZ (.ae cs xs) (.ae kU ys)):=by
 simp only[cZ];split
 ·rename_i h _;exact h1 h.down
 ·exact h2
theorem uA(c d:aI):(cZ c d).n=c.n+d.n:=by
 by_cases ht:∃cs xs kU ys,c=.ae cs xs∧d=.ae kU ys
 ·obtain⟨cs,xs,kU,ys,rfl,rfl⟩:=ht;refine lZ xs ys (fun r=>r.n=_) (fun e=> ?_) rfl;subst e;simp[aI.n]
 cases c<;>cases d<;>first|(exact absurd ⟨_,_,_,_,rfl,rfl⟩ ht)|skip
 all_goals simp only[cZ,aI.n,List.length_append]
 rename_i k xs k' ys;cases bG k k'<;>simp
theorem m8(c d:aI)(h:d.size=c.size):(cZ c d).size=c.size:=by
 by_cases ht:∃cs xs kU ys,c=.ae cs xs∧d=.ae kU ys
 ·obtain⟨cs,xs,kU,ys,rfl,rfl⟩:=ht;exact lZ xs ys (fun r=>r.size=_) (fun e=>by subst e;rfl) rfl
 cases c<;>cases d<;>first|(exact absurd ⟨_,_,_,_,rfl,rfl⟩ ht)|skip
 all_goals simp only[cZ,aI.size]at h ⊢
 rename_i k xs k' ys;cases bG k k'<;>rfl
theorem rE{α:Type}(xs ys:List α)(d:α){i:Nat}(h:i<xs.length):(xs++ys).getD i d=xs.getD i d:=by
 simp[List.getD,List.getElem?_append_left h]
theorem rF{α:Type}(xs ys:List α)(d:α){i:Nat}(h:¬i<xs.length):(xs++ys).getD i d=ys.getD (i - xs.length) d:=by
 simp[List.getD,List.getElem?_append_right (Nat.le_of_not_lt h)]
theorem uB{i n:Nat}(h:i<n):i.blt n=true:=by simpa[Nat.blt,Nat.lt_iff_add_one_le]using h
theorem rG{i n:Nat}(h:¬i<n):i.blt n=false:=by
 cases hb:i.blt n with
 |false=>rfl
 |true=>exact absurd (by simpa[Nat.blt,Nat.lt_iff_add_one_le]using hb) h
theorem zb(c d:aI){i:Nat}(j:Nat)(h:i<c.n):(cZ c d).cell i j=c.cell i j:=by
 by_cases ht:∃cs xs kU ys,c=.ae cs xs∧d=.ae kU ys
 ·obtain⟨cs,xs,kU,ys,rfl,rfl⟩:=ht;simp only[aI.n]at h;refine lZ xs ys (fun r=>r.cell i j=_) (fun e=> ?_) ?_
  ·subst e;simp only[aI.cell,rE _ _ _ h]
  ·simp only[aI.cell,uB h,cond_true]
 cases c<;>cases d<;>first|(exact absurd ⟨_,_,_,_,rfl,rfl⟩ ht)|skip
 all_goals simp only[cZ,aI.cell,aI.n]at h ⊢
 all_goals first
  |(rw[rE _ _ _ h];done)
  |(simp only[uB h,cond_true];done)
  |(rename_i k xs k' ys
    cases hk:bG k k'
    ·simp only[cond_false,uB h,cond_true]
    ·simp only[cond_true,rE _ _ _ h])
theorem ze(c d:aI){i:Nat}(j:Nat)(h:¬i<c.n):(cZ c d).cell i j=d.cell (i - c.n) j:=by
 by_cases ht:∃cs xs kU ys,c=.ae cs xs∧d=.ae kU ys
 ·obtain⟨cs,xs,kU,ys,rfl,rfl⟩:=ht;simp only[aI.n]at h;refine lZ xs ys (fun r=>r.cell i j=_) (fun e=> ?_) ?_
  ·subst e;simp only[aI.cell,aI.n,rF _ _ _ h]
  ·simp only[aI.cell,aI.n,rG h,cond_false]
 cases c<;>cases d<;>first|(exact absurd ⟨_,_,_,_,rfl,rfl⟩ ht)|skip
 all_goals simp only[cZ,aI.cell,aI.n]at h ⊢
 all_goals first
  |(rw[rF _ _ _ h];done)
  |(simp only[rG h,cond_false];done)
  |(rename_i k xs k' ys
    cases hk:bG k k'
    ·simp only[cond_false,rG h]
    ·obtain rfl:=aZ hk;simp only[cond_true,rF _ _ _ h])
theorem fD{id:Nat}{o:ad}(ho:H id=some o):Step ρ H (aN ρ H G) w ρ (aD H id .dead) (aN ρ (aD H id .dead) G) w:=by
 refine⟨fun _ _ _=>rfl,fun j x hx=> ?_,fun b hb=> ?_,fun _ _ _=>rfl,Nat.le_refl _⟩
 ·by_cases hj:j=id
  ·subst hj;exact⟨.dead,by simp[aD],by simp⟩
  ·exact⟨x,by simp[aD,hj,hx],fun c' e' hc=>⟨c',e',hc,rfl,rfl⟩⟩
 ·rcases hb with⟨j,x,hx,h1,h2⟩|hb
  ·by_cases hj:j=id
   ·subst hj;simp only[aD,if_true,Option.some.injEq]at hx;subst hx;simp[ad.alive]at h1
   ·exact .inl (.inl ⟨j,x,by simpa[aD,hj]using hx,h1,h2⟩)
  ·exact .inl (.inr hb)
theorem fp{id:Nat}{b:Nat}(h:Own ρ (aD H id .dead) b):Own ρ H b:=by
 obtain⟨j,x,hx,h1,h2⟩:=h;by_cases hj:j=id
 ·subst hj;simp only[aD,if_true,Option.some.injEq]at hx;subst hx;simp[ad.alive]at h1
 ·exact⟨j,x,by simpa[aD,hj]using hx,h1,h2⟩
theorem Sat.kill(hs:Sat ρ H G w){id:Nat}{o:ad}(ho:H id=some o):Sat ρ (aD H id .dead) G w:=by
 have st:=fD (ρ:=ρ) (G:=G) (w:=w) ho;refine⟨fun j x hx=> ?_,fun i j oi oj b h1 h2 h3 h4 h5 h6=> ?_,fun b hb=>hs.apart b (fp hb),hs.low⟩
 ·by_cases hj:j=id
  ·subst hj;simp only[aD,if_true,Option.some.injEq]at hx;subst hx;trivial
  ·exact(hs.obj j x (by simpa[aD,hj]using hx)).step st (fun _ _ _=>rfl)
 ·have f:∀i oi,aD H id .dead i=some oi→oi.alive=true→H i=some oi:=by
   intro i oi hi uo;by_cases eR:i=id
   ·subst eR;simp only[aD,if_true,Option.some.injEq]at hi;subst hi;simp[ad.alive]at uo
   ·simpa[aD,eR]using hi
  exact hs.inj i j oi oj b (f i oi h1 h3) (f j oj h2 h4) h3 h4 h5 h6
theorem Good.after{H1 H2:aJ}(mA:Step ρ H (aN ρ H G) w ρ H1 (aN ρ H1 G) w)(dI:∀b,Own ρ H1 b→Own ρ H b){r:AV}{v:Value}(h:Good ρ H1 G w H2 r v w'):Good ρ H G w H2 r v w':=by
 obtain⟨aB,h1,h2,h3,h4⟩:=h;exact⟨aB,h1,h2,mA.trans h3,h4.os,h4.tape,h4.output,fun b hb hO=>h4.heap b hb (fun hx=>hO (dI b hx))⟩
theorem rH(hs:Sat ρ H G w){n:Nat}(hn:H n=none){c:aI}{e:TypeId}(h0:c.n=0)(a:Option Addr):
 Good ρ H G w (aD H n (.vec c e)) (.vec n) (.slice a c.n 0) w:=by
 have ne:∀j x,H j=some x→j≠n:=fun j x hx e=>by subst e;rw[hn]at hx;cases hx
 have hb:er (.slice a c.n 0)=none:=by cases a<;>simp[er]
 have qc:∀b,Own (fun j=>if j=n then .slice a c.n 0 else ρ j) (aD H n (.vec c e)) b→Own ρ H b:=by
  rintro b ⟨j,x,hx,h1,h2⟩;by_cases hj:j=n
  ·subst hj;simp only[if_true]at h2;rw[hb]at h2;cases h2
  ·simp only[aD,hj,if_false]at hx h2;exact⟨j,x,hx,h1,h2⟩
 have st:Step ρ H (aN ρ H G) w (fun j=>if j=n then .slice a c.n 0 else ρ j) (aD H n (.vec c e)) (aN (fun j=>if j=n then .slice a c.n 0 else ρ j) (aD H n (.vec c e)) G) w:=
  ⟨fun j x hx=>by simp[ne j x hx],fun j x hx=>⟨x,by simp[aD,ne j x hx,hx],fun c' e' hc=>⟨c',e',hc,rfl,rfl⟩⟩,fun b hb=>.inl (hb.imp (qc b) id),fun b hb _=>rfl,Nat.le_refl _⟩
 refine⟨_,⟨fun j x hx=> ?_,fun i j oi oj b h1 h2 h3 h4 h5 h6=> ?_,fun b hb=>hs.apart b (qc b hb),hs.low⟩, ?_,st,rfl,rfl,rfl,fun _ _ _=>rfl⟩
 ·by_cases hj:j=n
  ·subst hj;simp only[aD,if_true,Option.some.injEq]at hx;subst hx;simp only[if_true];exact⟨a,0,rfl,by omega,by simp[maxLen],.inl rfl⟩
  ·have xv:H j=some x:=by simpa[aD,hj]using hx
   simp only[hj,if_false];exact(hs.obj j x xv).step st (fun _ _ _=>rfl)
 ·by_cases hi:i=n
  ·subst hi;simp only[if_true]at h5;rw[hb]at h5;cases h5
  ·by_cases hj:j=n
   ·subst hj;simp only[if_true]at h6;rw[hb]at h6;cases h6
   ·simp only[aD,hi,hj,if_false]at h1 h2 h5 h6;exact hs.inj i j oi oj b h1 h2 h3 h4 h5 h6
 ·unfold ab az;exact⟨rfl,.vec c e,by simp[aD],fun c' e' hc=>by simp⟩
theorem xE{z:Array Value}(h:∀u∈z.toList,u.oneCell'=true)(n:Nat):∀u∈(Builtin.zeroCells z n).toList,u.oneCell'=true:=by
 intro u hu;simp only[Builtin.zeroCells,Array.toList_map,Array.toList_range,List.mem_map,List.mem_range]at hu;obtain⟨m,hm,rfl⟩:=hu
 have hp:0<z.size:=by
  rcases Nat.eq_zero_or_pos z.size with h0|h0
  ·rw[h0]at hm;omega
  ·exact h0
 have a8:m%z.size<z.size:=Nat.mod_lt _ hp;rw[getElem!_pos z (m%z.size) a8];exact h _ (Array.mem_toList_iff.2 (Array.getElem_mem a8))
theorem arJ(hs:Sat ρ H G w){id n:Nat}{o:ad}(ho:H id=some o)(ha:o.alive=true)(hn:H n=none){b f:Nat}(hb:er (ρ id)=some b){c:aI}{e:TypeId}{cap:Nat}{cells:List Value}{fr:Nat×Nat}{old:Obj}
 (hold:w.heap[b]? =some old) (hu:yT fr cells) (h1:c.n≤cap) (h2:cap≤maxLen) (h3:f+cap*c.size≤cells.length) (us:Nat→Nat→Value)
 (hd:∀i j,i<c.n→j<c.size→cells[f+i*c.size+j]? =some (us i j)∧aR (aN ρ H G) w (c.cell i j) (us i j)):
 Good ρ H G w (aD (aD H id .dead) n (.vec c e)) (.vec n) (.slice (some ⟨b,f,none⟩) c.n cap) (World.cf w b (.cells cells.toArray e fr)):=by
 have ne:∀j x,H j=some x→j≠n:=fun j x hx e=>by subst e;rw[hn]at hx;cases hx
 have apl:id≠n:=ne id o ho;have dI:Own ρ H b:=⟨id,o,ho,ha,hb⟩
 have qj:∀b',er (.slice (some ⟨b,f,none⟩) c.n cap)=some b'→b'=b:=by
  intro b' um;simp only[er]at um;split at um
  ·cases um
  ·simpa using um.symm
 have qc:∀b',Own (fun j=>if j=n then .slice (some ⟨b,f,none⟩) c.n cap else ρ j) (aD (aD H id .dead) n (.vec c e)) b'→Own ρ H b':=by
  rintro b' ⟨j,x,hx,g1,g2⟩;by_cases hj:j=n
  ·subst hj;simp only[if_true]at g2;rw[qj b' g2];exact dI
  ·by_cases hi:j=id
   ·subst hi;simp only[aD,hj,if_false,if_true,Option.some.injEq]at hx;subst hx;simp[ad.alive]at g1
   ·simp only[aD,hj,hi,if_false]at hx g2;exact⟨j,x,hx,g1,g2⟩
 have st:Step ρ H (aN ρ H G) w (fun j=>if j=n then .slice (some ⟨b,f,none⟩) c.n cap else ρ j) (aD (aD H id .dead) n (.vec c e)) (aN (fun j=>if j=n then .slice (some ⟨b,f,none⟩) c.n cap else ρ j) (aD (aD H id .dead) n (.vec c e)) G) (World.cf w b (.cells cells.toArray e fr)):=by
  refine⟨fun j x hx=>by simp[ne j x hx],fun j x hx=> ?_,fun b' um=>.inl (um.imp (qc b') _root_.id),fun b' um hO=>iy (fun e=>hO (.inl (by subst e;exact dI))),by rw[iS];exact Nat.le_refl _⟩;by_cases hi:j=id
  ·subst hi;exact⟨.dead,by simp[aD,apl],by simp⟩
  ·exact⟨x,by simp[aD,ne j x hx,hi,hx],fun c' e' hc=>⟨c',e',hc,rfl,rfl⟩⟩
 refine⟨_,⟨fun j x hx=> ?_,fun i j oi oj b' g1 g2 g3 g4 g5 g6=> ?_,fun b' um=>hs.apart b' (qc b' um),fun b' um=>by rw[iS];exact hs.low b' um⟩, ?_,st,rfl,rfl,rfl,fun b' um hO=>iy (fun e=>hO (by subst e;exact dI))⟩
 ·by_cases hj:j=n
  ·subst hj;simp only[aD,if_true,Option.some.injEq]at hx;subst hx;simp only[if_true];refine⟨_,cap,rfl,h1,h2,.inr ⟨b,f,cells,fr,us,rfl,eO hold,hu,h3,fun i j hi hj=> ?_⟩⟩;obtain⟨k1,k2⟩:=hd i j hi hj;exact⟨k1,k2.step st.fP st.heap st.size⟩
  ·by_cases hi:j=id
   ·subst hi;simp only[aD,hj,if_false,if_true,Option.some.injEq]at hx;subst hx;trivial
   ·have xv:H j=some x:=by simpa[aD,hj,hi]using hx
    simp only[hj,if_false];refine(hs.obj j x xv).step st (fun b' uo um=>iy (fun e=>hi ?_));subst e;exact hs.inj j id x o b' xv ho uo ha um hb
 ·have f':∀i oi,aD (aD H id .dead) n (.vec c e) i=some oi→oi.alive=true→i≠n→i≠id∧H i=some oi:=by
   intro i oi hi uo cv;by_cases eR:i=id
   ·subst eR;simp only[aD,cv,if_false,if_true,Option.some.injEq]at hi;subst hi;simp[ad.alive]at uo
   ·exact⟨eR,by simpa[aD,cv,eR]using hi⟩
  by_cases hi:i=n<;>by_cases hj:j=n
  ·rw[hi,hj]
  ·obtain⟨k1,k2⟩:=f' j oj g2 g4 hj;simp only[hi,hj,if_true,if_false]at g5 g6;have:=qj b' g5;subst this;exact absurd (hs.inj j id oj o b' k2 ho g4 ha g6 hb) k1
  ·obtain⟨k1,k2⟩:=f' i oi g1 g3 hi;simp only[hi,hj,if_true,if_false]at g5 g6;have:=qj b' g6;subst this;exact absurd (hs.inj i id oi o b' k2 ho g3 ha g5 hb) k1
  ·simp only[hi,hj,if_false]at g5 g6;exact hs.inj i j oi oj b' (f' i oi g1 g3 hi).2 (f' j oj g2 g4 hj).2 g3 g4 g5 g6
 ·unfold ab az;exact⟨rfl,.vec c e,by simp[aD],fun c' e' hc=>by simp⟩
theorem fW{t t' ty e:TypeId}{i:TypeInfo}{a:Option Addr}{n cap m:Nat}{vy:Value}{news:List Value}
 (ht:P.underlying t=some (.slice e)) (hi:P.info? e=some i) (hzero:(∃e',P.underlying t'=some (.slice e'))∨P.underlying t'=some .string)
 (hlen:(Builtin.lenOf vy).run P w=.ok m w) (jV:(Builtin.firstCells i.size m vy).run P w=.ok news.toArray w) (m9:n+m≤cap)
 (mA:∀x,a=some x→(storeCells (x.add (n*i.size)) news 0).run P w=.ok () w') (uC:a=none→w'=w):
 (Builtin.append_ #[t,t'] ty #[.slice a n cap,vy]).run P w=.ok (.slice a (n+m) cap) w':=by
 rcases hzero with⟨e',hd⟩|hd<;>cases a with
 |none=>
  rw[uC rfl];simp[Builtin.append_,run_underlying ht,run_underlying hd,sizeOf,typeInfo,hi,hlen,m9,jV]
 |some x=>
  have:=mA x rfl;simp[Builtin.append_,run_underlying ht,run_underlying hd,sizeOf,typeInfo,hi,hlen,m9,jV,this]
theorem na{t t' ty e:TypeId}{i:TypeInfo}{z:Value}{a:Option Addr}{n cap m:Nat}{vy:Value}{olds news:List Value}
 (ht:P.underlying t=some (.slice e)) (hi:P.info? e=some i) (hz:i.zero=some z) (hzero:(∃e',P.underlying t'=some (.slice e'))∨P.underlying t'=some .string)
 (hlen:(Builtin.lenOf vy).run P w=.ok m w) (hold:(Builtin.firstCells i.size n (.slice a n cap)).run P w.drew=.ok olds.toArray w.drew) (jV:(Builtin.firstCells i.size m vy).run P w.drew=.ok news.toArray w.drew) (m9:¬n+m≤cap)
 (hsm:(n+m)*i.bytes≤140737488355328) (hb1:1≤i.bytes):
 ∃nc,n+m≤nc∧nc≤maxLen∧(Builtin.append_ #[t,t'] ty #[.slice a n cap,vy]).run P w=
  .ok (.slice (some ⟨w.heap.size,0,none⟩) (n+m) nc) (w.drew.alloc (.cells (olds++news++(Builtin.zeroCells z.cells (nc - (n+m))).toList).toArray e)):=by
 have hnm:n+m≤140737488355328:=Nat.le_trans (by have:=Nat.mul_le_mul_left (n+m) hb1;omega) hsm;refine⟨grownCap w (n+m) cap e,grownCap_ge w _ _ _,grownCap_le_maxLen w _ _ _ (by simp only[maxLen];omega), ?_⟩
 have aaJ:¬(281474976710656<Builtin.nextslicecap (n+m) cap*i.bytes):=by
  have h1:=rD (need:=n+m) (old:=cap) (by omega);have h2:Builtin.nextslicecap (n+m) cap*i.bytes≤(2*(n+m))*i.bytes:=Nat.mul_le_mul_right _ h1;rw[Nat.mul_assoc]at h2;omega
 have ac6:¬(9223372036854775807<(n:Int)+(m:Int)):=by omega
 have alh:∀X:Array Value,olds.toArray++(news.toArray++X)=(olds++(news++X.toList)).toArray:=fun X=>by
  apply Array.toList_inj.1;simp
 have hq:¬((Question.appendCap (n+m) cap e).forced=true):=by simp[Question.forced]
 rcases hzero with⟨e',hd⟩|hd
 ·simp[Builtin.append_,run_underlying ht,run_underlying hd,sizeOf,typeInfo,hi,hlen,m9,ac6,aaJ,hold,jV,zeroValue,hz,newRow];rw[if_neg hq,alh];rfl
 ·simp[Builtin.append_,run_underlying ht,run_underlying hd,sizeOf,typeInfo,hi,hlen,m9,ac6,aaJ,hold,jV,zeroValue,hz,newRow];rw[if_neg hq,alh];rfl
theorem ali(hs:Sat ρ H G w){id:Nat}{c:aI}{e:TypeId}(ho:H id=some (.vec c e)):py (aN ρ H G) w c (ρ id):=by
 obtain⟨a,cap,h1,h2,h3,h4⟩:=hs.obj id _ ho;rcases h4 with rfl|⟨b,o,cells,fr,us,rfl,h5,h6,h7,h8⟩
 ·exact⟨a,0,fun _ _=>undef,h1,h2,h3,fun h0=>by omega⟩
 ·refine⟨_,cap,us,h1,h2,h3,fun _=>⟨b,o,rfl,(Array.getElem?_eq_some_iff.1 h5).1,fun i j hi hj=> ?_⟩⟩;obtain⟨h9,y5⟩:=h8 i j hi hj;exact⟨by rw[c8 h5];exact h9,y5⟩
theorem ah0{sh:Shape}{size:Nat}{x:AV}{k:aI→Option Nat→RM bC}{v:Value}{q:bC}(h:(xr sh size x k).eval H=some q)(hs:Sat ρ H G w)(hd:ab ρ H (aN ρ H G) w x v)(h1:1≤size):
 ∃c idy,(k c idy).eval H=some q∧(c.size=size→∃news,Src P (aN ρ H G) w size c v news):=by
 unfold xr at h;split at h
 ·rename_i s;obtain rfl:=fc hd;refine⟨_,_,h,fun bK=> ?_⟩;simp only[aI.size]at bK;subst bK;exact alg
 ·obtain⟨c,idy,h2,h3⟩:=uu h hs hd;exact⟨c,idy,h2,fun bK=>tB h3 bK h1⟩
theorem rI{c d:aI}{size:Nat}{olds news rest:List Value}(hc:c.size=size)(hdz:d.size=size)(_h1:1≤size)(ho:olds.length=c.n*size)(_hn:news.length=d.n*size)
 (h2:∀i j,i<c.n→j<size→∃u,olds[i*size+j]? =some u∧aR O w (c.cell i j) u) (h3:∀i j,i<d.n→j<size→∃u,news[i*size+j]? =some u∧aR O w (d.cell i j) u) (pre:List Value):
 ∀i j,i<(cZ c d).n→j<(cZ c d).size→(pre++(olds++news++rest))[pre.length+i*(cZ c d).size+j]? =some ((pre++(olds++news++rest)).getD (pre.length+i*(cZ c d).size+j) undef)∧
  aR O w ((cZ c d).cell i j) ((pre++(olds++news++rest)).getD (pre.length+i*(cZ c d).size+j) undef):=by
 intro i j hi hj;have bK:(cZ c d).size=size:=by rw[m8 c d (by omega),hc]
 rw[uA]at hi;rw[bK]at hj ⊢
 have key:∃u,(pre++(olds++news++rest))[pre.length+i*size+j]? =some u∧aR O w ((cZ c d).cell i j) u:=by
  rw[Nat.add_assoc,List.getElem?_append_right (by omega),Nat.add_sub_cancel_left,List.append_assoc];by_cases a8:i<c.n
  ·obtain⟨u,g1,g2⟩:=h2 i j a8 hj;refine⟨u, ?_,by rw[zb c d j a8];exact g2⟩;rw[List.getElem?_append_left (List.getElem?_eq_some_iff.1 g1).1];exact g1
  ·obtain⟨u,g1,g2⟩:=h3 (i - c.n) j (by omega) hj;refine⟨u, ?_,by rw[ze c d j a8];exact g2⟩;have hm:c.n*size+(i - c.n)*size=i*size:=by rw[←Nat.add_mul];congr 1;omega
   rw[List.getElem?_append_right (by omega)];rw[show i*size+j - olds.length=(i - c.n)*size+j from by omega];rw[List.getElem?_append_left (List.getElem?_eq_some_iff.1 g1).1];exact g1
 obtain⟨u,g1,g2⟩:=key;have a8:=(List.getElem?_eq_some_iff.1 g1).1;have g1':=g1;rw[gS _ _ undef a8]at g1';simp only[Option.some.injEq]at g1';exact⟨gS _ _ _ a8,by rw[g1'];exact g2⟩
theorem ac7{t t' ty:TypeId}{x y:AV}{vx vy:Value}{q:bC}(h:(yO P t x y).eval H=some q)(hn:bw q.need)(hs:Sat ρ H G w)
 (hx:ab ρ H (aN ρ H G) w x vx) (hy:ab ρ H (aN ρ H G) w y vy) (hzero:(∃e',P.underlying t'=some (.slice e'))∨P.underlying t'=some .string) {base:Nat} (hb:∀i,i<q.new.length→H (base+i)=none):
 ∃v w',(Builtin.append_ #[t,t'] ty #[vx,vy]).run P w=.ok v w'∧Good ρ H G w (c9 H q.up base q.new) (q.r base) v w':=by
 unfold yO at h;split at h
 ·rename_i e ht;split at h
  ·rename_i i hi;simp only[]at h;rw[Bool.cond_eq_ite]at h;split at h
   ·rename_i hc;simp only[Bool.and_eq_true]at hc;obtain⟨⟨⟨c1,cb⟩,c2⟩,c3⟩:=hc;have c1:=Nat.le_of_ble_eq_true c1;have cb:=Nat.le_of_ble_eq_true cb
    obtain⟨z,hz,hzs,hz1⟩:∃z,i.zero=some z∧z.cells.size=i.size∧∀u∈z.cells.toList,u.oneCell'=true:=by
     cases hz:i.zero with
     |none=>simp[hz]at c3
     |some z=>
      simp only[hz,Option.any_some,Bool.and_eq_true,beq_iff_eq,List.all_eq_true]at c3;exact⟨z,rfl,c3.1,c3.2⟩
    obtain⟨d,idy,h1,oG⟩:=ah0 (P:=P) h hs hy c1;rw[Bool.cond_eq_ite]at h1;split at h1
    ·rename_i hds;have hds:d.size=i.size:=by simpa using hds
     obtain⟨news,src⟩:=oG hds;split at h1
     ·
      simp only[RM.eval,Option.some.injEq]at h1;subst h1;have js:H base=none:=by simpa using hb 0 (by simp)
      have hsm:d.n*i.bytes≤140737488355328:=hn.1;unfold ab at hx;obtain⟨a,rfl⟩:=hx;simp only[iU];by_cases hm:d.n=0
      ·have jt:news=[]:=List.eq_nil_of_length_eq_zero (by rw[src.length,hm];simp);refine⟨.slice a (0+d.n) 0,w,fW ht hi hzero src.len (src.first w rfl) (by omega) (fun x _=>by rw[jt];rfl) (fun _=>rfl), ?_⟩;rw[Nat.zero_add];exact rH hs js hm a
      ·obtain⟨nc,g1,g2,g3⟩:=na (ty:=ty) (olds:=[]) (a:=a) (n:=0) (cap:=0) ht hi hz hzero src.len (by cases a<;>simp[Builtin.firstCells,loadCells,loadCellsFrom]) (src.first w.drew rfl) (by omega) (by rw[Nat.zero_add];exact hsm) cb;refine⟨_,_,g3, ?_⟩;rw[Nat.zero_add]at *;simp only[List.nil_append];refine lq (w1:=w.drew) hs rfl rfl rfl rfl js g1 g2 ?_ (fun i' j'=>(news++(Builtin.zeroCells z.cells (nc - d.n)).toList).getD (i'*d.size+j') undef) (fun i' j' eR jB=> ?_) (fun u hu=>(List.mem_append.1 hu).elim (src.one u) (xE hz1 _ u))
       ·simp only[List.length_append,src.length,Array.length_toList,size_zeroCells,hzs,hds];rw[←Nat.add_mul];exact Nat.mul_le_mul_right _ (by omega)
       ·obtain⟨u,k1,k2⟩:=src.den i' j' eR (by omega);rw[←hds]at k1;have a8:=(List.getElem?_eq_some_iff.1 k1).1;have k3:(news++(Builtin.zeroCells z.cells (nc - d.n)).toList)[i'*d.size+j']? =some u:=by rw[List.getElem?_append_left a8];exact k1
        have k4:=k3;rw[gS _ _ undef (List.getElem?_eq_some_iff.1 k3).1]at k4;simp only[Option.some.injEq]at k4;rw[k4];exact⟨k3,k2⟩
     ·
      rename_i idx;simp only[RM.eval]at h1;split at h1
      ·rename_i c e' ho;rw[Bool.cond_eq_ite]at h1;split at h1
       ·rename_i hc;simp only[Bool.and_eq_true,Nat.beq_eq]at hc;obtain⟨⟨pA,rfl⟩,_⟩:=hc;simp only[RM.eval,Option.some.injEq]at h1;subst h1;have js:H base=none:=by simpa using hb 0 (by simp)
        have hsm:(c.n+d.n)*i.bytes≤140737488355328:=hn.1;have aaL:idx≠base:=fun e=>by rw[←e,ho]at js;cases js
        unfold ab az at hx;obtain⟨_,o,dg,hv⟩:=hx;rw[ho]at dg;cases dg;obtain rfl:=hv c e' rfl;obtain⟨olds,uD⟩:=tB (P:=P) (ali hs ho) pA c1;obtain⟨a,cap,r1,r2,r3,r4⟩:=hs.obj idx _ ho;have hcd:d.size=c.size:=by omega
        have alj:=m8 c d hcd;have han:=uA c d;have hmul:(c.n+d.n)*i.size=c.n*i.size+d.n*i.size:=Nat.add_mul _ _ _;simp only[age _ _ _ _ aaL];by_cases m9:c.n+d.n≤cap
        ·rcases r4 with rfl|⟨b,o,cells,fr,us,rfl,q1,q2,q3,q4⟩
         ·
          have hd0:d.n=0:=by omega
          have jt:news=[]:=List.eq_nil_of_length_eq_zero (by rw[src.length,hd0];simp);refine⟨.slice a (c.n+d.n) 0,w,by rw[r1];exact fW ht hi hzero src.len (src.first w rfl) m9 (fun x _=>by rw[jt];rfl) (fun _=>rfl), ?_⟩;have st:=fD (ρ:=ρ) (G:=G) (w:=w) ho;refine Good.after st (fun b hb=>fp hb) ?_;rw[←han];exact rH (hs.kill ho) (by simp[aD,Ne.symm aaL,js]) (by omega) a
         ·by_cases wR:cap=0
          ·subst wR;have hd0:d.n=0:=by omega
           have jt:news=[]:=List.eq_nil_of_length_eq_zero (by rw[src.length,hd0];simp);refine⟨.slice (some ⟨b,o,none⟩) (c.n+d.n) 0,w,by rw[r1];exact fW ht hi hzero src.len (src.first w rfl) m9 (fun x _=>by rw[jt];rfl) (fun _=>rfl), ?_⟩;have st:=fD (ρ:=ρ) (G:=G) (w:=w) ho;refine Good.after st (fun b hb=>fp hb) ?_;rw[←han];exact rH (hs.kill ho) (by simp[aD,Ne.symm aaL,js]) (by omega) _
          ·have lT:er (ρ idx)=some b:=by rw[r1];simp[er,wR]
           have awg:(c.n+d.n)*i.size≤cap*i.size:=Nat.mul_le_mul_right _ m9;have hlen:o+c.n*i.size+news.length≤cells.length:=by rw[src.length];rw[pA]at q3;omega
           refine⟨.slice (some ⟨b,o,none⟩) (c.n+d.n) cap,World.cf w b (.cells (cells.take (o+c.n*i.size)++news++cells.drop (o+c.n*i.size+news.length)).toArray e' fr), ?_, ?_⟩
           ·rw[r1];refine fW ht hi hzero src.len (src.first w rfl) m9 (fun x hx=> ?_) (fun hx=>by cases hx);cases hx;rw[aY];have:=bN (P:=P) (o+c.n*i.size) news 0 q1 q2.unm (by omega) src.one;simpa using this
           ·rw[←han]
            have xD:(cells.take (o+c.n*i.size)++news++cells.drop (o+c.n*i.size+news.length)).length=cells.length:=by
             simp only[List.length_append,List.length_take,List.length_drop];omega
            have apm:cells.take (o+c.n*i.size)++news++cells.drop (o+c.n*i.size+news.length)=cells.take o++((cells.drop o).take (c.n*i.size)++news++cells.drop (o+c.n*i.size+news.length)):=by
             rw[List.take_add];simp only[List.append_assoc]
            have hto:(cells.take o).length=o:=by simp;omega
            refine arJ hs ho rfl js lT q1 (q2.over src.one hlen) (by omega) r3 (by rw[xD,alj];exact q3) (fun i' j'=>(cells.take o++((cells.drop o).take (c.n*i.size)++news++cells.drop (o+c.n*i.size+news.length))).getD ((cells.take o).length+i'*(cZ c d).size+j') undef) (fun i' j' eR jB=> ?_)
            have:=rI (O:=aN ρ H G) (w:=w) (c:=c) (d:=d) (size:=i.size) (olds:=(cells.drop o).take (c.n*i.size)) (news:=news) (rest:=cells.drop (o+c.n*i.size+news.length)) pA hds c1 (by simp;omega) src.length (fun i2 j2 hi2 uE=>by
             obtain⟨k1,k2⟩:=q4 i2 j2 hi2 (by omega);refine⟨_, ?_,k2⟩
             have hb2:i2*i.size+j2<c.n*i.size:=by
              have:(i2+1)*i.size≤c.n*i.size:=Nat.mul_le_mul_right _ (by omega);rw[Nat.succ_mul]at this;omega
             rw[List.getElem?_take,if_pos hb2,List.getElem?_drop,←Nat.add_assoc];rw[pA]at k1;exact k1) src.den (cells.take o) i' j' eR jB
            rw[apm];rw[hto]at this ⊢;exact this
        ·obtain⟨nc,g1,g2,g3⟩:=na (ty:=ty) (olds:=olds) (a:=a) (n:=c.n) (cap:=cap) ht hi hz hzero src.len (by rw[←r1];exact uD.first w.drew rfl) (src.first w.drew rfl) m9 hsm cb;refine⟨_,_,by rw[r1];exact g3, ?_⟩;have st:=fD (ρ:=ρ) (G:=G) (w:=w) ho;refine Good.after st (fun b hb=>fp hb) ?_;rw[←han];refine lq (w1:=w.drew) (hs.kill ho) rfl rfl rfl rfl (by simp[aD,Ne.symm aaL,js]) (by omega) g2 ?_ (fun i' j'=>(olds++news++(Builtin.zeroCells z.cells (nc - (cZ c d).n)).toList).getD (i'*(cZ c d).size+j') undef) (fun i' j' eR jB=> ?_) (fun u hu=>(List.mem_append.1 hu).elim (fun hu=>(List.mem_append.1 hu).elim (uD.one u) (src.one u)) (xE hz1 _ u))
         ·simp only[List.length_append,src.length,uD.length,Array.length_toList,size_zeroCells,hzs,alj,pA,han];rw[←Nat.add_mul,←Nat.add_mul];exact Nat.mul_le_mul_right _ (by omega)
         ·have:=rI (O:=aN ρ H G) (w:=w) (c:=c) (d:=d) (size:=i.size) (olds:=olds) (news:=news) (rest:=(Builtin.zeroCells z.cells (nc - (cZ c d).n)).toList) pA hds c1 uD.length src.length uD.den src.den [] i' j' eR jB;simp only[List.nil_append,List.length_nil,Nat.zero_add]at this;exact⟨this.1,this.2.step st.fP st.heap st.size⟩
       ·cases h1
      ·cases h1
     ·
      rename_i idx lo n;simp only[RM.eval]at h1;split at h1
      ·rename_i c e' ho;rw[Bool.cond_eq_ite]at h1;split at h1
       ·rename_i pA;have pA:c.size=i.size:=by simpa using pA
        simp only[RM.eval,Option.some.injEq]at h1;subst h1;have m9:lo+n+d.n≤c.n:=hn.1;obtain⟨g0,a,cap,a',g1,g2,g3,rfl,g4,g5⟩:=iT hs ho hx;obtain⟨w',k1,k2,k3⟩:=qk (P:=P) hs ho (lo:=lo+n) (k:=d.n) (d:=d) m9 (Nat.le_refl _) (by omega) (news:=news) (by rw[src.length,pA]) src.one (fun i' j' eR jB=>by rw[pA]at *;exact src.den i' j' eR jB);obtain⟨z1,z2,_⟩:=sK c d m9 (Nat.le_refl _);refine⟨.slice a' (n+d.n) (cap - lo),w',fW ht hi hzero src.len (src.first w rfl) (by omega) (fun x hx=> ?_) (fun hx=> ?_), ?_⟩
        ·refine k1 a cap _ g1 ?_;by_cases h0:d.n=0
         ·exact .inl h0
         ·refine .inr ?_;have cv:cap≠lo:=by omega
          rw[g4 cv]at hx;obtain⟨b,o,rfl⟩:=g5 (by omega);simp only[Option.map_some,aY,Option.some.injEq]at hx ⊢;subst hx;rw[aY,pA,Nat.add_mul,Nat.add_assoc]
        ·refine k2 ?_;by_cases cv:cap=lo
         ·omega
         ·rw[g4 cv]at hx;obtain⟨b,o,rfl⟩:=g5 (by omega);cases hx
        ·simp only[fC];refine k3 _ _ (fun w2=> ?_);unfold ab az;refine⟨rfl,.vec (dh c (lo+n) d.n d) e',by simp[aD],fun c1 e1 hc=> ?_⟩;cases hc;exact⟨by rw[z1];omega,a,cap,a',by rw[z1];exact g1,by omega,rfl,by rw[z2];exact g4⟩
       ·cases h1
      ·cases h1
     ·cases h1
    ·cases h1
   ·cases h
  ·cases h
 ·cases h
end
end Go.Sx
namespace Go.Sx
open Go
section
variable{P:Program}{w:World}{b:Nat}{es:Array MapEntry}{clock:Nat}{ck:CK}{m:List (Int×ck.V)}
theorem iQ.get(h:iQ ck m es.toList clock){j:Nat}{e:MapEntry}(hj:es.toList[j]? =some e):∃k v,m[j]? =some (k,v)∧e.key=.int .i64 k∧e.val=ck.val v:=by
 have h1:=congrArg (fun l=>l[j]?) h.eq;simp only[List.getElem?_map,hj,Option.map_some]at h1;cases hm:m[j]? with
 |none=>rw[hm]at h1;cases h1
 |some p=>
  rw[hm]at h1;simp only[Option.map_some,Option.some.injEq,Prod.mk.injEq]at h1;exact⟨p.1,p.2,rfl,h1.1,h1.2⟩
theorem iQ.key(h:iQ ck m es.toList clock):∀e∈es.toList,MapKept.IsKey (.int .i64) e.key:=by
 intro e he;obtain⟨j,hj⟩:=List.getElem?_of_mem he;obtain⟨k,v,_,h2,_⟩:=h.get hj;rw[h2];rfl
theorem pB{V:Type}:∀{m:List (Int×V)} {j:Nat} {k:Int} {v:V},(m.map (·.1)).Nodup→m[j]? =some (k,v)→m.find? (fun p=>p.1==k)=some (k,v)
 |[],j,k,v,_,h=>by simp at h
 |p::m,0,k,v,hn,h=>by
  simp only[List.getElem?_cons_zero,Option.some.injEq]at h;subst h;simp
 |p::m,j+1,k,v,hn,h=>by
  simp only[List.getElem?_cons_succ]at h;simp only[List.map_cons,List.nodup_cons]at hn
  have cv:(p.1==k)=false:=by
   rw[beq_eq_false_iff_ne];rintro rfl;exact hn.1 (List.mem_map.2 ⟨_,List.mem_of_getElem? h,rfl⟩)
  rw[List.find?_cons,cv];exact pB hn.2 h
theorem agr{V:Type}{m:List (Int×V)}{k:Int}(h:∀p∈m,p.1≠k):m.find? (fun p=>p.1==k)=none:=
 List.find?_eq_none.2 fun p hp=>by simpa using h p hp
theorem iQ.find(h:iQ ck m es.toList clock){kt:TypeId}(hk:P.underlying kt=some (.int .i64))(n:Int):
 ((Instr.findKey kt (.int .i64 n) es.toList).run P w=.ok none w∧fO m n=none∧pd m n=false)∨
 ∃j e v,(Instr.findKey kt (.int .i64 n) es.toList).run P w=.ok (some (j,ck.val v)) w∧es.toList[j]? =some e∧e.key=.int .i64 n∧e.val=ck.val v∧m[j]? =some (n,v)∧fO m n=some v∧pd m n=true:=by
 rcases MapKept.findNow_spec (d:=.int .i64) (k:=.int .i64 n) rfl es.toList 0 h.key with⟨h1,h2⟩|⟨j,e,h1,h2,h3⟩
 ·have uC:∀p∈m,p.1≠n:=by
   intro p hp e;obtain⟨j,hj⟩:=List.getElem?_of_mem hp;have hlen:es.toList.length=m.length:=by have:=congrArg List.length h.eq;simpa using this
   have a8:j<es.toList.length:=by rw[hlen];exact(List.getElem?_eq_some_iff.1 hj).1
   obtain⟨k,v,g1,g2,_⟩:=h.get (List.getElem?_eq_getElem a8);rw[hj]at g1;cases g1;exact h2 _ (List.getElem_mem a8) (by rw[g2];exact congrArg _ e)
  refine .inl ⟨MapKept.run_findKey hk h1,by simp[fO,agr uC], ?_⟩;simp only[pd,List.any_eq_false,beq_iff_eq];exact uC
 ·obtain⟨k,v,g1,g2,g3⟩:=h.get h2;rw[h3]at g2;cases g2;rw[Nat.zero_add]at h1;refine .inr ⟨j,e,v,by rw[←g3];exact MapKept.run_findKey hk h1,h2,h3,g3,g1,by simp[fO,pB h.keys g1], ?_⟩;simp only[pd,List.any_eq_true,beq_iff_eq];exact⟨_,List.mem_of_getElem? g1,rfl⟩
theorem ac8(h:iQ ck m es.toList clock)(hb:w.heap[b]? =some (.map es clock)){t kt et:TypeId}(ht:P.underlying t=some (.map kt et))(hk:P.underlying kt=some (.int .i64)){z:Value}(hz:(zeroValue et).run P w=.ok z w)(n:Int)(ok:Bool):
 (Instr.lookup t (.map (some b)) (.int .i64 n) ok).run P w=.ok (if ok=true then .tuple #[((fO m n).map ck.val).getD z,.bool (pd m n)]else((fO m n).map ck.val).getD z) w:=by
 have hc:=MapKept.run_checkKey (w:=w) hk (k:=.int .i64 n) rfl es.isEmpty 9999;rcases h.find (w:=w) hk n with⟨h1,h2,h3⟩|⟨j,e,v,h1,_,_,_,_,h2,h3⟩
 ·simp[Instr.lookup,run_underlying ht,MapKept.run_getObj_map hb,hc,h1,h2,h3,hz,Result.andThen]
 ·simp[Instr.lookup,run_underlying ht,MapKept.run_getObj_map hb,hc,h1,h2,h3,Result.andThen]
theorem stays(n:Int):(Instr.keyThatStays (.int .i64 n) (.int .i64 n)).run P w=.ok (.int .i64 n) w:=by
 simp[Instr.keyThatStays,Instr.sameBits]
theorem qm(m:List (Int×ck.V))(k:Int)(v:ck.V):((m.map fun p=>if p.1==k then(k,v)else p).map (·.1))=m.map (·.1):=by
 rw[List.map_map];refine List.map_congr_left fun p _=> ?_;simp only[Function.comp];by_cases h:p.1==k
 ·rw[if_pos h];exact(beq_iff_eq.1 h).symm
 ·rw[if_neg h]
theorem iQ.put(h:iQ ck m es.toList clock){n:Int}{v:ck.V}(hv:ck.fits v):
 (pd m n=false→iQ ck (my m n v) (es.push {key:=.int .i64 n,val:=ck.val v,born:=clock}).toList (clock+1))∧
 ∀(j:Nat) (e:MapEntry),es.toList[j]? =some e→e.key=.int .i64 n→pd m n=true→
  iQ ck (my m n v) (es.modify j fun e=>{e with key:=.int .i64 n,val:=ck.val v}).toList clock:=by
 constructor
 ·intro uC;have auN:∀p∈m,p.1≠n:=by simpa[pd]using uC
  unfold my;rw[if_neg (by rw[uC];simp)];refine⟨?_, ?_, ?_, ?_, ?_⟩
  ·simp only[Array.toList_push,List.map_append,h.eq,List.map_cons,List.map_nil]
  ·rw[List.map_append,List.nodup_append];refine⟨h.keys,by simp,fun a ha b hb=> ?_⟩;simp only[List.map_cons,List.map_nil,List.mem_singleton]at hb;obtain⟨p,hp,rfl⟩:=List.mem_map.1 ha;rw[hb];exact auN p hp
  ·rw[Array.toList_push,List.map_append,List.nodup_append];refine⟨h.xu,by simp,fun a ha b hb=> ?_⟩;simp only[List.map_cons,List.map_nil,List.mem_singleton]at hb;obtain⟨e,he,rfl⟩:=List.mem_map.1 ha;have:=h.old e he;omega
  ·intro e he;rw[Array.toList_push,List.mem_append]at he;rcases he with he|he
   ·have:=h.old e he;omega
   ·rw[List.mem_singleton.1 he];exact Nat.lt_succ_self _
  ·intro p hp;rcases List.mem_append.1 hp with hp|hp
   ·exact h.fits p hp
   ·rw[List.mem_singleton.1 hp];exact hv
 ·intro j e hj he auO;obtain⟨k,u,g1,g2,g3⟩:=h.get hj;rw[he]at g2;cases g2;have a8:j<es.toList.length:=(List.getElem?_eq_some_iff.1 hj).1;unfold my;rw[if_pos auO]
  have auP:(es.modify j fun e=>{e with key:=.int .i64 n,val:=ck.val v}).toList=es.toList.set j {e with key:=.int .i64 n,val:=ck.val v}:=by
   refine List.ext_getElem? fun i=> ?_;simp only[Array.toList_modify,List.getElem?_modify,List.getElem?_set];by_cases kp:j=i
   ·subst kp;have api:j<es.size:=by simpa using a8
    rw[hj];simp[api]
   ·simp[kp]
  rw[auP]
  have m5:(m.map fun p=>if p.1==n then(n,v)else p)=m.set j (n,v):=by
   refine List.ext_getElem? fun i=> ?_;rw[List.getElem?_map,List.getElem?_set];by_cases kp:j=i
   ·subst kp;have auQ:j<m.length:=(List.getElem?_eq_some_iff.1 g1).1;rw[g1];simp[auQ]
   ·rw[if_neg kp];cases hm:m[i]? with
    |none=>rfl
    |some p=>
     have cv:(p.1==n)=false:=by
      rw[beq_eq_false_iff_ne];intro e1;obtain⟨hi1,hi2⟩:=List.getElem?_eq_some_iff.1 hm;obtain⟨hj1,uE⟩:=List.getElem?_eq_some_iff.1 g1;refine kp ((List.getElem_inj (h₀:=by simpa using hj1) (h₁:=by simpa using hi1) h.keys).1 ?_);simp only[List.getElem_map,hi2,uE,e1]
     rw[Option.map_some,cv];rfl
  refine⟨?_,by rw[qm];exact h.keys, ?_, ?_, ?_⟩
  ·rw[m5,List.map_set,List.map_set,h.eq]
  ·rw[List.map_set]
   have:(es.toList.map (·.born)).set j e.born=es.toList.map (·.born):=by
    refine List.ext_getElem? fun i=> ?_;rw[List.getElem?_set];by_cases kp:j=i
    ·subst kp;rw[if_pos rfl,if_pos (by simpa using a8),List.getElem?_map,hj];rfl
    ·rw[if_neg kp]
   rw[this];exact h.xu
  ·intro x hx;rcases List.mem_or_eq_of_mem_set hx with hx|rfl
   ·exact h.old x hx
   ·exact h.old e (List.mem_of_getElem? hj)
  ·intro p hp;obtain⟨q,hq,rfl⟩:=List.mem_map.1 hp;split
   ·exact hv
   ·exact h.fits q hq
theorem wU(h:iQ ck m es.toList clock)(hb:w.heap[b]? =some (.map es clock)){t kt et:TypeId}(ht:P.underlying t=some (.map kt et))(hk:P.underlying kt=some (.int .i64))(n:Int){v:ck.V}(hv:ck.fits v):
 ∃lu uF,(Instr.mapUpdate t (.map (some b)) (.int .i64 n) (ck.val v)).run P w=.ok () {w with heap:=w.heap.setIfInBounds b (.map lu uF)}∧iQ ck (my m n v) lu.toList uF:=by
 have hc:=MapKept.run_checkKey (w:=w) hk (k:=.int .i64 n) rfl false 9999;rcases h.find (w:=w) hk n with⟨h1,h2,h3⟩|⟨j,e,u,h1,g1,g2,g3,g4,h2,h3⟩
 ·exact⟨_,_,by simp[Instr.mapUpdate,run_underlying ht,MapKept.run_getObj_map hb,hc,h1,Result.andThen,MapKept.run_setObj_map _ hb],(h.put hv).1 h3⟩
 ·have auR:((es[j]?).map (·.key)).getD (.int .i64 n)=.int .i64 n:=by
   rw[show es[j]? =some e from by rw[←Array.getElem?_toList];exact g1];exact g2
  refine⟨_,_, ?_,(h.put hv).2 j e g1 g2 h3⟩;simp[Instr.mapUpdate,run_underlying ht,MapKept.run_getObj_map hb,hc,h1,Result.andThen,MapKept.run_setObj_map _ hb,auR,stays]
end
end Go.Sx
namespace Go.Sx
open Go
section
variable{ρ aB:Nat→Value}{H H':aJ}{G O O':Nat→Prop}{w w':World}{P:Program}
theorem aaM{t:TypeId}(h:aeh P t=true):P.underlying t=some (.int .i64):=by
 unfold aeh at h;split at h
 ·assumption
 ·cases h
theorem ags{t:TypeId}{ck:CK}(h:uf P t ck=true):(zeroValue t).run P w=.ok (ck.val ck.d) w∧ck.fits ck.d:=by
 have key:∀v,(P.info? t).bind (·.zero)=some v→(zeroValue t).run P w=.ok v w:=by
  intro v hv;obtain⟨i,h1,h2⟩:=Option.bind_eq_some_iff.1 hv;simp[zeroValue,typeInfo,h1,h2]
 unfold uf at h;rw[Bool.and_eq_true]at h
 replace h:=h.2
 split at h
 ·rename_i k' k hz;obtain rfl:=aZ h;exact⟨key _ hz,trivial⟩
 ·rename_i hz;exact⟨key _ hz,trivial⟩
 ·rename_i s hz
  have:s=ByteArray.empty:=by
   have:=Nat.eq_of_beq_eq_true h;obtain⟨⟨l⟩⟩:=s;cases l with
   |nil=>rfl
   |cons a l=>simp[ByteArray.size]at this
  subst this;exact⟨key _ hz,trivial⟩
 ·rename_i cs k n hz;simp only[Bool.and_eq_true]at h;have h1:=m7 k _ h.1;have h2:=Nat.eq_of_beq_eq_true h.2;refine⟨?_,by show(List.replicate n (0:Int)).length=n;simp⟩;rw[key _ hz];congr 1;show Value.agg cs=.agg ((List.replicate n (0:Int)).map (Value.int k)).toArray;rw[←h2,←h1]
 ·cases h
theorem ac9{ck:CK}{v:ck.V}(h:ck.fits v)(hp:ck.av v≠.s .aQ):ab ρ H O w (ck.av v) (ck.val v):=by
 cases ck with
 |int k=>exact aw (.int _ _)
 |bool=>exact aw (.bool _)
 |str=>exact aw (.str _)
 |arr k n=>
  show ab ρ H O w (.ints k n v) _;unfold ab;exact⟨h,rfl⟩
 |_=>exact(hp rfl).elim
theorem qn{t:TypeId}{ck:CK}(h:uf P t ck=true)(v:ck.V):ck.av v≠.s .aQ:=by
 unfold uf at h;rw[Bool.and_eq_true]at h
 replace h:=h.1
 cases ck<;>first
  |(cases h;done)
  |(intro e;cases e;done)
theorem zf(hs:Sat ρ H G w){id b:Nat}{ck:CK}{m:List (Int×ck.V)}(ho:H id=some (.map ck m))(hb:ρ id=.map (some b)):∃es clock,w.heap[b]? =some (.map es clock)∧iQ ck m es.toList clock:=by
 obtain⟨b',es,clock,h1,h2,h3⟩:=hs.obj id _ ho;rw[hb]at h1;cases h1;exact⟨es,clock,h2,h3⟩
theorem agt{ck:CK}{m:List (Int×ck.V)}(h:∀p∈m,ck.fits p.2){n:Int}{v:ck.V}(hv:fO m n=some v):ck.fits v:=by
 simp only[fO,Option.map_eq_some_iff]at hv;obtain⟨p,hp,rfl⟩:=hv;exact h p (List.mem_of_find?_eq_some hp)
theorem ada{t:TypeId}{x i:AV}{ok:Bool}{vx vi:Value}{q:bC}(h:(yP P t x i ok).eval H=some q)(hn:bw q.need)(hs:Sat ρ H G w)(hx:ab ρ H (aN ρ H G) w x vx)(hi:ab ρ H (aN ρ H G) w i vi):
 eW P ρ H (aN ρ H G) w q (Instr.lookup t vx vi ok):=by
 unfold yP at h;split at h
 ·rename_i kt et id k lit n ht mY;rw[Bool.cond_eq_ite]at h;split at h
  ·rename_i hk;simp only[Bool.and_eq_true]at hk;obtain rfl:=mU hk.2;obtain rfl:=bW mY hi;simp only[RM.eval]at h;split at h
   ·rename_i ck m ho;rw[Bool.cond_eq_ite]at h;split at h
    ·rename_i hz;unfold ab az at hx;obtain⟨b,hb,rfl,_⟩:=hx;obtain⟨es,clock,h1,h2⟩:=zf hs ho hb;obtain⟨hz1,hz2⟩:=ags (w:=w) hz;have ji:=ac8 h2 h1 ht (aaM hk.1) hz1 n ok
     have tj:ab ρ H (aN ρ H G) w (ck.av ((fO m n).getD ck.d)) (((fO m n).map ck.val).getD (ck.val ck.d)):=by
      cases hg:fO m n with
      |none=>exact ac9 hz2 (qn hz _)
      |some v=>exact ac9 (agt h2.fits hg) (qn hz _)
     refine ay h (fun _=>⟨_,ji, ?_⟩) hn;cases ok
     ·exact tj
     ·simp only[cond_true,if_true];unfold ab;exact⟨[_,_],rfl,ax.2 ⟨_,_,rfl,tj,ax.2 ⟨_,_,rfl,aw (.bool _),aU.2 rfl⟩⟩⟩
    ·cases h
   ·cases h
  ·cases h
 ·cases h
theorem apn{ck:CK}{a:AV}{y:ck.V}{v:Value}(h:ck.rdv a=some y)(hd:ab ρ H O w a v):v=ck.val y∧ck.fits y:=by
 cases ck with
 |int k=>
  simp only[CK.rdv]at h;split at h
  ·rw[Bool.cond_eq_ite]at h;split at h
   ·rename_i hk;obtain rfl:=aZ hk;cases h;have:=ak (by simp) hd;cases this;exact⟨rfl,trivial⟩
   ·cases h
  ·rw[Bool.cond_eq_ite]at h;split at h
   ·rename_i hk;obtain rfl:=aZ hk;cases h;have:=ak (by simp) hd;cases this;exact⟨rfl,trivial⟩
   ·cases h
  ·cases h
 |bool=>
  simp only[CK.rdv]at h;split at h
  ·cases h;have:=ak (by simp) hd;cases this;exact⟨rfl,trivial⟩
  ·cases h;have:=ak (by simp) hd;cases this;exact⟨rfl,trivial⟩
  ·cases h
 |str=>
  simp only[CK.rdv]at h;split at h
  ·cases h;have:=ak (by simp) hd;cases this;exact⟨rfl,trivial⟩
  ·cases h
 |arr k n=>
  simp only[CK.rdv]at h;split at h
  ·rw[Bool.cond_eq_ite]at h;split at h
   ·rename_i hk;simp only[Bool.and_eq_true]at hk;obtain rfl:=aZ hk.1;obtain rfl:=Nat.eq_of_beq_eq_true hk.2;cases h;unfold ab at hd;exact⟨hd.2,hd.1⟩
   ·cases h
  ·cases h
 |_=>cases h
theorem oS{t:TypeId}{x i a:AV}{vx vi va:Value}{q:bC}(h:(pv P t x i a).eval H=some q)(hs:Sat ρ H G w)(hx:ab ρ H (aN ρ H G) w x vx)(hi:ab ρ H (aN ρ H G) w i vi)(ha:ab ρ H (aN ρ H G) w a va):
 ∃w',(Instr.mapUpdate t vx vi va).run P w=.ok () w'∧∀base,Good ρ H G w (c9 H q.up base q.new) (q.r base) undef w':=by
 unfold pv at h;split at h
 ·rename_i kt et id k lit n ht mY;rw[Bool.cond_eq_ite]at h;split at h
  ·rename_i hk;simp only[Bool.and_eq_true]at hk;obtain rfl:=mU hk.2;obtain rfl:=bW mY hi;simp only[RM.eval]at h;split at h
   ·rename_i ck m ho;split at h
    ·rename_i y hy;simp only[RM.eval,Option.some.injEq]at h;subst h;obtain⟨rfl,hf⟩:=apn hy ha;unfold ab az at hx;obtain⟨b,hb,rfl,_⟩:=hx;obtain⟨es,clock,h1,h2⟩:=zf hs ho hb;obtain⟨lu,uF,h3,h4⟩:=wU h2 h1 ht (aaM hk.1) n hf;refine⟨_,h3,fun base=> ?_⟩;simp only[fC];exact Good.write hs ho rfl rfl (by rw[hb];rfl) (fun _ _ hc=>by cases hc) ⟨b,lu,uF,hb,eO h1,h4⟩ cH
    ·cases h
   ·cases h
  ·cases h
 ·cases h
theorem aaN{t:TypeId}{r:Option AV}{q:bC}(h:(ug P t r).eval H=some q)(hs:Sat ρ H G w){base:Nat}(hb:∀i,i<q.new.length→H (base+i)=none):
 r=none∧∃v w',(Instr.makeMap t none).run P w=.ok v w'∧Good ρ H G w (c9 H q.up base q.new) (q.r base) v w':=by
 unfold ug at h;split at h
 ·split at h
  ·rename_i ck _;simp only[RM.eval,Option.some.injEq]at h;subst h;have hn:H base=none:=by simpa using hb 0 (by simp)
   refine⟨rfl,.map (some w.heap.size),w.alloc (.map #[] 0),RowKit.run_makeMap .., ?_⟩;simp only[iU];refine Good.fresh hs hn (root:=.map (some w.heap.size)) (w1:=w) rfl rfl rfl rfl (fun b hb=>by simpa[er]using hb.symm) ⟨w.heap.size,#[],0,rfl,(MapKept.heap_alloc w _).1,⟨rfl,by simp,by simp,by simp,by simp⟩⟩ ?_;unfold ab az;exact⟨w.heap.size,by simp,rfl,by simp[aD]⟩
  ·cases h
 ·cases h
end
end Go.Sx
