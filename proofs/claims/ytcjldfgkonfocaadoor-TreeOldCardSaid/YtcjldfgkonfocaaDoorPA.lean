/- Lemmas: SxKind, SxBase, SxExec, SxPure, SxSat, SxMem, SxHeap, SxLoad, SxRead, SxSlice, SxStore, SxNew, SxBuild, SxBuild2, SxAppend, SxOver, SxAppend2, SxMap, SxMapOp. -/
import Derived.WalkKit
import Derived.WalkSpells
import Derived.MapKept
import Derived.Carry
namespace Go.Sx
open Go
inductive CK where
 |int (k:IntKind)
 |bool
 |str
 |ints (k:IntKind)
 |strs
 |bB
 |rows (cs:List CK)
 |arr (k:IntKind) (n:Nat)
mutual
def CK.V:CK→Type
 |.int _=>Int
 |.bool=>Bool
 |.str=>ByteArray
 |.ints _=>List Int
 |.strs=>List ByteArray
 |.bB=>List Bool
 |.rows cs=>List (CL cs)
 |.arr _ _=>List Int
def CL:List CK→Type
 |[]=>Unit
 |c::cs=>c.V×CL cs
end
def CK.d:(c:CK)→c.V
 |.int _=>(0:Int)
 |.bool=>false
 |.str=>ByteArray.empty
 |.ints _=>([]:List Int)
 |.strs=>([]:List ByteArray)
 |.bB=>([]:List Bool)
 |.rows cs=>([]:List (CL cs))
 |.arr _ n=>List.replicate n (0:Int)
def CL.d:(cs:List CK)→CL cs
 |[]=>()
 |c::cs=>(c.d,CL.d cs)
def CK.wide:CK→Nat
 |.arr _ n=>n
 |_=>1
def CL.wide:List CK→Nat
 |[]=>0
 |c::cs=>c.wide+CL.wide cs
def kEq(a b:IntKind):Option (PLift (a=b)):=if h:a=b then some ⟨h⟩else none
mutual
def CK.eq:(a b:CK)→Option (PLift (a=b))
 |.int k,.int k'=>(kEq k k').map fun h=>⟨congrArg CK.int h.down⟩
 |.bool,.bool=>some ⟨rfl⟩
 |.str,.str=>some ⟨rfl⟩
 |.ints k,.ints k'=>(kEq k k').map fun h=>⟨congrArg CK.ints h.down⟩
 |.strs,.strs=>some ⟨rfl⟩
 |.bB,.bB=>some ⟨rfl⟩
 |.rows a,.rows b=>(CL.eq a b).map fun h=>⟨congrArg CK.rows h.down⟩
 |.arr k n,.arr k' n'=>if h:n=n' then(kEq k k').map fun h'=>⟨by rw[h,h'.down]⟩else none
 |_,_=>none
def CL.eq:(a b:List CK)→Option (PLift (a=b))
 |[],[]=>some ⟨rfl⟩
 |a::aA,b::bs=>match CK.eq a b,CL.eq aA bs with
  |some h,some h'=>some ⟨by rw[h.down,h'.down]⟩
  |_,_=>none
 |_,_=>none
end
def z6{a b:List CK}(h:PLift (a=b))(xs:List (CL a)):List (CL b):=h.down▸xs
def fD{V:Type}(m:List (Int×V))(k:Int):Option V:=(m.find? fun p=>p.1==k).map (·.2)
def oC{V:Type}(m:List (Int×V))(k:Int):Bool:=m.any fun p=>p.1==k
def mf{V:Type}(m:List (Int×V))(k:Int)(v:V):List (Int×V):=if oC m k=true then m.map fun p=>if p.1==k then(k,v)else p else m++[(k,v)]
theorem wV{a:List CK}(h:PLift (a=a))(xs:List (CL a)):z6 h xs=xs:=rfl
end Go.Sx
namespace Go.Sx
open Go
mutual
inductive SV where
 |aR
 |bool (b:Bool)
 |aI (b:Bool)
 |j8 (n:Nat) (eq:Bool)
 |nO (k:IntKind)
 |int (k:IntKind) (n:Int)
 |aZ (k:IntKind) (n:Int)
 |str (s:ByteArray)
 |oD
 |ace
 |acf
 |acg
 |oE
 |kM (f:FuncId)
 |ifi (t:TypeId) (k:IntKind) (n:Int)
 |ifs (t:TypeId) (s:ByteArray)
 |ifb (t:TypeId) (b:Bool)
 |raw (v:Value) (zs:List Int)
 |ro (c:aF)
 |yi (c:aF) (k:Nat)
 |l7 (k:Nat)
 |n7 (k:Nat)
inductive aF where
 |ints (k:IntKind) (zs:List Int)
 |strs (ss:List ByteArray)
 |bB (bs:List Bool)
 |ae (cs:List CK) (xs:List (CL cs))
 |dU (size n:Nat) (get:Nat→Nat→SV)
end
def aF.n:aF→Nat
 |.ints _ zs=>zs.length
 |.strs ss=>ss.length
 |.bB bs=>bs.length
 |.ae _ xs=>xs.length
 |.dU _ n _=>n
def aF.size:aF→Nat
 |.ints .. |.strs _|.bB _=>1
 |.ae cs _=>CL.wide cs
 |.dU s _ _=>s
def CK.cell:(c:CK)→c.V→Nat→SV
 |.int k,x,_=>.int k x
 |.bool,x,_=>.bool x
 |.str,x,_=>.str x
 |.ints k,x,_=>.ro (.ints k x)
 |.strs,x,_=>.ro (.strs x)
 |.bB,x,_=>.ro (.bB x)
 |.rows cs,x,_=>.ro (.ae cs x)
 |.arr k _,x,j=>.int k (List.getD (α:=Int) x j 0)
def CL.cell:(cs:List CK)→CL cs→Nat→SV
 |[],_,_=>.aR
 |c::cs,x,j=>bif j.blt c.wide then c.cell x.1 j else CL.cell cs x.2 (j - c.wide)
def aF.cell:aF→Nat→Nat→SV
 |.ints k zs,i,_=>.int k (zs.getD i 0)
 |.strs ss,i,_=>.str (ss.getD i ByteArray.empty)
 |.bB bs,i,_=>.bool (bs.getD i false)
 |.ae cs xs,i,j=>CL.cell cs (xs.getD i (CL.d cs)) j
 |.dU _ _ get,i,j=>get i j
inductive AV where
 |s (v:SV)
 |ptr (id off:Nat)
 |jF (id off n i:Nat)
 |jh (c:aF) (i j:Nat)
 |vec (id:Nat)
 |fT (id i j:Nat)
 |part (id lo n:Nat)
 |sub (id off n:Nat)
 |j9 (id i j n:Nat)
 |emp
 |agg (ak:List AV)
 |ints (k:IntKind) (n:Nat) (ws:List Int)
 |bh (vs:List AV)
 |fn (f:FuncId) (dY:List AV)
 |ag (id:Nat)
 |tag (id:Nat)
inductive ad where
 |own (ak:List AV) (elem:TypeId)
 |vec (c:aF) (elem:TypeId)
 |map (ck:CK) (m:List (Int×ck.V))
 |wc (ck:CK) (m:List (Int×ck.V)) (gid:Nat)
 |iter (mid gid:Nat) (ck:CK) (left:List (Int×ck.V)) (cur:Option (Int×ck.V))
 |dead
abbrev aH:=Nat→Option ad
def ad.alive:ad→Bool
 |.dead=>false
 |_=>true
def dW:Value→Option Nat
 |.pointer (some a)=>some a.block
 |.slice (some a) _ cap=>if cap=0 then none else some a.block
 |.map (some b)=>some b
 |_=>none
def Own(ρ:Nat→Value)(H:aH)(b:Nat):Prop:=∃id o,H id=some o∧o.alive=true∧dW (ρ id)=some b
def aM(ρ:Nat→Value)(H:aH)(G:Nat→Prop)(b:Nat):Prop:=Own ρ H b∨G b
inductive aL (O:Nat→Prop) (w:World):SV→Value→Prop
 |aR (v:Value):v.oneCell'=true→aL O w .aR v
 |bool (b:Bool):aL O w (.bool b) (.bool b)
 |aI (b:Bool):aL O w (.aI b) (.bool b)
 |j8 (n:Nat) (eq b:Bool):(b=eq→n=0)→aL O w (.j8 n eq) (.bool b)
 |nO (k:IntKind) (n:Int):aL O w (.nO k) (.int k n)
 |int (k:IntKind) (n:Int):aL O w (.int k n) (.int k n)
 |aZ (k:IntKind) (n:Int):aL O w (.aZ k n) (.int k n)
 |str (s:ByteArray):aL O w (.str s) (.string s)
 |oD:aL O w .oD (.pointer none)
 |ace:aL O w .ace .nilIface
 |acf:aL O w .acf .nilFunc
 |acg:aL O w .acg (.map none)
 |oE:aL O w .oE (.slice none 0 0)
 |kM (f:FuncId):aL O w (.kM f) (.func (.func f) #[] #[])
 |ifi (t:TypeId) (k:IntKind) (n:Int):aL O w (.ifi t k n) (.iface t (.int k n))
 |ifs (t:TypeId) (s:ByteArray):aL O w (.ifs t s) (.iface t (.string s))
 |ifb (t:TypeId) (b:Bool):aL O w (.ifb t b) (.iface t (.bool b))
 |raw (v:Value) (zs:List Int):v.oneCell'=true→aL O w (.raw v zs) v
 |ro (c:aF) (a:Option Addr) (cap:Nat) (us:Nat→Nat→Value) (b o:Nat):c.n≤cap→cap≤maxLen→
  (0<c.n→a=some ⟨b,o,none⟩∧¬O b∧b<w.heap.size)→
  (∀i j,i<c.n→j<c.size→w.cell? ⟨b,o+i*c.size+j,none⟩=some (us i j))→
  (∀i j,i<c.n→j<c.size→aL O w (c.cell i j) (us i j))→aL O w (.ro c) (.slice a c.n cap)
 |yi (c:aF) (k:Nat) (a:Option Addr) (n cap:Nat):aL O w (.ro c) (.slice a n cap)→cap<k→aL O w (.yi c k) (.slice a n cap)
 |l7 (k:Nat) (n:Int):(k:Int)≤n→aL O w (.l7 k) (.int .i64 n)
 |n7 (k:Nat) (n:Int):n<(k:Int)→aL O w (.n7 k) (.int .i64 n)
mutual
def ay(ρ:Nat→Value)(H:aH)(O:Nat→Prop)(w:World):AV→Value→Prop
 |.s x,v=>aL O w x v
 |.ptr id off,v=>∃b,ρ id=.pointer (some ⟨b,0,none⟩)∧v=.pointer (some ⟨b,off,none⟩)∧(H id).isSome=true
 |.jF id off n i,v=>i<n∧∃b,ρ id=.pointer (some ⟨b,0,none⟩)∧v=.pointer (some ⟨b,off+i,none⟩)∧(H id).isSome=true
 |.jh c i j,v=>∃(b o:Nat) (us:Nat→Value),v=.pointer (some ⟨b,o+j,none⟩)∧¬O b∧b<w.heap.size∧
  (∀l,l<c.size→w.cell? ⟨b,o+l,none⟩=some (us l)∧aL O w (c.cell i l) (us l))
 |.vec id,v=>v.oneCell'=true∧∃o,H id=some o∧∀c e,o=.vec c e→v=ρ id
 |.fT id i j,v=>v.oneCell'=true∧∃o,H id=some o∧∀c e,o=.vec c e→i<c.n∧j<c.size∧
  ∃b f n cap,ρ id=.slice (some ⟨b,f,none⟩) n cap∧v=.pointer (some ⟨b,f+i*c.size+j,none⟩)
 |.part id lo n,v=>v.oneCell'=true∧∃o,H id=some o∧∀c e,o=.vec c e→lo+n≤c.n∧
  ∃a cap a',ρ id=.slice a c.n cap∧c.n≤cap∧v=.slice a' n (cap - lo)∧(cap≠lo→a'=a.map (·.add (lo*c.size)))
 |.sub id off n,v=>v.oneCell'=true∧∃b a cap,ρ id=.pointer (some ⟨b,0,none⟩)∧v=.slice a n cap∧(n≠0→a=some ⟨b,off,none⟩)∧(H id).isSome=true
 |.j9 id i j n,v=>v.oneCell'=true∧∃o,H id=some o∧∀c e,o=.vec c e→i<c.n∧j+n≤c.size∧
  ∃b f n' cap a afE,ρ id=.slice (some ⟨b,f,none⟩) n' cap∧v=.slice a n afE∧(n≠0→a=some ⟨b,f+i*c.size+j,none⟩)
 |.emp,v=>∃a,v=.slice a 0 0
 |.fn f dY,v=>∃vs:List Value,v=.func (.func f) #[] vs.toArray∧bx ρ H O w dY vs
 |.agg _,_=>False
 |.ints _ _ _,_=>False
 |.bh _,_=>False
 |.ag id,v=>∃b,ρ id=.map (some b)∧v=.map (some b)∧(H id).isSome=true
 |.tag id,v=>v=ρ id∧v.oneCell'=true∧(H id).isSome=true
def bx(ρ:Nat→Value)(H:aH)(O:Nat→Prop)(w:World):List AV→List Value→Prop
 |[],vs=>vs=[]
 |a::aA,vs=>∃v rest,vs=v::rest∧ab ρ H O w a v∧bx ρ H O w aA rest
def an(ρ:Nat→Value)(H:aH)(O:Nat→Prop)(w:World):List AV→List Value→Prop
 |[],cs=>cs=[]
 |a::aA,cs=>∃c1 c2,cs=c1++c2∧aC ρ H O w a c1∧an ρ H O w aA c2
def aC(ρ:Nat→Value)(H:aH)(O:Nat→Prop)(w:World):AV→List Value→Prop
 |.agg _,_=>False
 |.ints k n ws,cs=>ws.length=n∧cs=ws.map (Value.int k)
 |.s x,cs=>∃u,cs=[u]∧aL O w x u
 |.ptr id off,cs=>∃u,cs=[u]∧ay ρ H O w (.ptr id off) u
 |.jF id off n i,cs=>∃u,cs=[u]∧ay ρ H O w (.jF id off n i) u
 |.jh c i j,cs=>∃u,cs=[u]∧ay ρ H O w (.jh c i j) u
 |.vec id,cs=>∃u,cs=[u]∧ay ρ H O w (.vec id) u
 |.fT id i j,cs=>∃u,cs=[u]∧ay ρ H O w (.fT id i j) u
 |.part id lo n,cs=>∃u,cs=[u]∧ay ρ H O w (.part id lo n) u
 |.sub id off n,cs=>∃u,cs=[u]∧ay ρ H O w (.sub id off n) u
 |.j9 id i j n,cs=>∃u,cs=[u]∧ay ρ H O w (.j9 id i j n) u
 |.emp,cs=>∃u,cs=[u]∧∃a,u=.slice a 0 0
 |.fn f dY,cs=>∃u,cs=[u]∧∃vs:List Value,u=.func (.func f) #[] vs.toArray∧bx ρ H O w dY vs
 |.bh _,_=>False
 |.ag id,cs=>∃u,cs=[u]∧ay ρ H O w (.ag id) u
 |.tag id,cs=>∃u,cs=[u]∧ay ρ H O w (.tag id) u
def ab(ρ:Nat→Value)(H:aH)(O:Nat→Prop)(w:World):AV→Value→Prop
 |.agg ak,v=>∃cs:List Value,v=.agg cs.toArray∧an ρ H O w ak cs
 |.ints k n ws,v=>ws.length=n∧v=.agg (ws.map (Value.int k)).toArray
 |.bh vs,v=>∃us:List Value,v=.tuple us.toArray∧bx ρ H O w vs us
 |.s .aR,_=>True
 |.s x,v=>aL O w x v
 |.ptr id off,v=>ay ρ H O w (.ptr id off) v
 |.jF id off n i,v=>ay ρ H O w (.jF id off n i) v
 |.jh c m j,v=>ay ρ H O w (.jh c m j) v
 |.vec id,v=>ay ρ H O w (.vec id) v
 |.fT id i j,v=>ay ρ H O w (.fT id i j) v
 |.part id lo n,v=>ay ρ H O w (.part id lo n) v
 |.sub id off n,v=>ay ρ H O w (.sub id off n) v
 |.j9 id i j n,v=>ay ρ H O w (.j9 id i j n) v
 |.emp,v=>∃a,v=.slice a 0 0
 |.fn f dY,v=>∃vs:List Value,v=.func (.func f) #[] vs.toArray∧bx ρ H O w dY vs
 |.ag id,v=>ay ρ H O w (.ag id) v
 |.tag id,v=>ay ρ H O w (.tag id) v
end
theorem aL.one{O:Nat→Prop}{w:World}{x:SV}{v:Value}(h:aL O w x v):v.oneCell'=true:=by
 cases h<;>first|rfl|assumption
structure Step (ρ:Nat→Value) (H:aH) (O:Nat→Prop) (w:World) (az:Nat→Value) (H':aH) (O':Nat→Prop) (w':World):Prop where
 wW:∀id o,H id=some o→az id=ρ id
 eH:∀id o,H id=some o→∃o',H' id=some o'∧∀c' e',o'=.vec c' e'→∃c e,o=.vec c e∧c'.n=c.n∧c'.size=c.size
 fE:∀b,O' b→O b∨w.heap.size≤b
 heap:∀b,b<w.heap.size→¬O b→w'.heap[b]? =w.heap[b]?
 size:w.heap.size≤w'.heap.size
theorem Step.refl(ρ:Nat→Value)(H:aH)(O:Nat→Prop)(w:World):Step ρ H O w ρ H O w:=
 ⟨fun _ _ _=>rfl,fun _ o h=>⟨o,h,fun c' e' e=>⟨c',e',e,rfl,rfl⟩⟩,fun _ h=>.inl h,fun _ _ _=>rfl,Nat.le_refl _⟩
theorem lO{w w':World}{b o:Nat}(h:w'.heap[b]? =w.heap[b]?):w'.cell? ⟨b,o,none⟩=w.cell? ⟨b,o,none⟩:=by
 simp[World.cell?,h]
section
variable{ρ az:Nat→Value}{H H':aH}{O O':Nat→Prop}{w w':World}
theorem Step.trans{aqI:Nat→Value}{H'':aH}{O'':Nat→Prop}{w'':World}(h:Step ρ H O w az H' O' w')(k:Step az H' O' w' aqI H'' O'' w'')
 :Step ρ H O w aqI H'' O'' w'':=by
 refine⟨fun id o ho=> ?_,fun id o ho=> ?_,fun b hb=> ?_,fun b hb hO=> ?_,Nat.le_trans h.size k.size⟩
 ·obtain⟨o',cP,_⟩:=h.eH id o ho
  rw[k.wW id o' cP,h.wW id o ho]
 ·obtain⟨o',cP,q⟩:=h.eH id o ho
  obtain⟨o'',atx,q'⟩:=k.eH id o' cP
  refine⟨o'',atx,fun c e hc=> ?_⟩
  obtain⟨c1,e1,h1,n1,s1⟩:=q' c e hc
  obtain⟨c2,e2,h2,n2,s2⟩:=q c1 e1 h1
  exact⟨c2,e2,h2,n1.trans n2,s1.trans s2⟩
 ·rcases k.fE b hb with h1|h1
  ·exact h.fE b h1
  ·exact .inr (Nat.le_trans h.size h1)
 ·have aty:¬O' b:=fun h1=>by rcases h.fE b h1 with h2|h2<;>first|exact hO h2|omega
  rw[k.heap b (by have:=h.size;omega) aty,h.heap b hb hO]
theorem aL.step(fE:∀b,O' b→O b∨w.heap.size≤b)(heap:∀b,b<w.heap.size→¬O b→w'.heap[b]? =w.heap[b]?)
 (size:w.heap.size≤w'.heap.size) {x:SV} {v:Value} (h:aL O w x v):aL O' w' x v:=by
 induction h with
 |aR v hv=>exact .aR v hv
 |bool b=>exact .bool b
 |aI b=>exact .aI b
 |j8 n eq b hb=>exact .j8 n eq b hb
 |nO k n=>exact .nO k n
 |int k n=>exact .int k n
 |aZ k n=>exact .aZ k n
 |str s=>exact .str s
 |oD=>exact .oD
 |ace=>exact .ace
 |acf=>exact .acf
 |acg=>exact .acg
 |oE=>exact .oE
 |kM f=>exact .kM f
 |ifi t k n=>exact .ifi t k n
 |ifs t s=>exact .ifs t s
 |ifb t b=>exact .ifb t b
 |raw v zs h=>exact .raw v zs h
 |yi c k a n cap _ hk ih=>exact .yi c k a n cap ih hk
 |l7 k n h=>exact .l7 k n h
 |n7 k n h=>exact .n7 k n h
 |ro c a cap us b o hn hm hb hc _ ih=>
  refine .ro c a cap us b o hn hm (fun h0=> ?_) (fun i j hi hj=> ?_) ih
  ·obtain⟨e,h1,h2⟩:=hb h0
   exact⟨e,fun h3=>by rcases fE b h3 with h4|h4<;>first|exact h1 h4|omega,by omega⟩
  ·obtain⟨_,h1,h2⟩:=hb (by omega)
   rw[lO (heap b h2 h1)]
   exact hc i j hi hj
mutual
theorem ay.step(st:Step ρ H O w az H' O' w'):∀(x:AV) (v:Value),ay ρ H O w x v→ay az H' O' w' x v
 |.s x,v,h=>by unfold ay at *;exact h.step st.fE st.heap st.size
 |.ptr id off,v,h=>by
  unfold ay at *
  obtain⟨b,h1,h2,h3⟩:=h
  obtain⟨o,ho⟩:=Option.isSome_iff_exists.1 h3
  obtain⟨o',cP,_⟩:=st.eH id o ho
  exact⟨b,by rw[st.wW id o ho,h1],h2,by rw[cP];rfl⟩
 |.jF id off n i,v,h=>by
  unfold ay at *
  obtain⟨hi,b,h1,h2,h3⟩:=h
  obtain⟨o,ho⟩:=Option.isSome_iff_exists.1 h3
  obtain⟨o',cP,_⟩:=st.eH id o ho
  exact⟨hi,b,by rw[st.wW id o ho,h1],h2,by rw[cP];rfl⟩
 |.jh c m j,v,h=>by
  unfold ay at *
  obtain⟨b,o,us,h1,h2,h3,h4⟩:=h
  refine⟨b,o,us,h1,fun h5=> ?_,by have:=st.size;omega,fun i hi=> ?_⟩
  ·rcases st.fE b h5 with h6|h6<;>first|exact h2 h6|omega
  ·obtain⟨h5,h6⟩:=h4 i hi
   exact⟨by rw[lO (st.heap b h3 h2)];exact h5,h6.step st.fE st.heap st.size⟩
 |.vec id,v,h=>by
  unfold ay at *
  obtain⟨h0,o,ho,h1⟩:=h
  obtain⟨o',cP,h2⟩:=st.eH id o ho
  refine⟨h0,o',cP,fun c e hc=> ?_⟩
  obtain⟨c1,e1,h3,_,_⟩:=h2 c e hc
  rw[st.wW id o ho]
  exact h1 c1 e1 h3
 |.fT id i j,v,h=>by
  unfold ay at *
  obtain⟨h0,o,ho,h1⟩:=h
  obtain⟨o',cP,h2⟩:=st.eH id o ho
  refine⟨h0,o',cP,fun c e hc=> ?_⟩
  obtain⟨c1,e1,h3,hn,hs⟩:=h2 c e hc
  rw[st.wW id o ho,hn,hs]
  exact h1 c1 e1 h3
 |.part id lo n,v,h=>by
  unfold ay at *
  obtain⟨h0,o,ho,h1⟩:=h
  obtain⟨o',cP,h2⟩:=st.eH id o ho
  refine⟨h0,o',cP,fun c e hc=> ?_⟩
  obtain⟨c1,e1,h3,hn,hs⟩:=h2 c e hc
  rw[st.wW id o ho,hn,hs]
  exact h1 c1 e1 h3
 |.sub id off n,v,h=>by
  unfold ay at *
  obtain⟨h0,b,a,cap,h1,h2,h4,h3⟩:=h
  obtain⟨o,ho⟩:=Option.isSome_iff_exists.1 h3
  obtain⟨o',cP,_⟩:=st.eH id o ho
  exact⟨h0,b,a,cap,by rw[st.wW id o ho,h1],h2,h4,by rw[cP];rfl⟩
 |.j9 id i j n,v,h=>by
  unfold ay at *
  obtain⟨h0,o,ho,h1⟩:=h
  obtain⟨o',cP,h2⟩:=st.eH id o ho
  refine⟨h0,o',cP,fun c e hc=> ?_⟩
  obtain⟨c1,e1,h3,hn,hs⟩:=h2 c e hc
  rw[st.wW id o ho,hn,hs]
  exact h1 c1 e1 h3
 |.emp,v,h=>by unfold ay at *;exact h
 |.fn f dY,v,h=>by
  unfold ay at *
  obtain⟨vs,h1,h2⟩:=h
  exact⟨vs,h1,bx.step st dY vs h2⟩
 |.agg _,v,h=>by unfold ay at h;exact h.elim
 |.ints _ _ _,v,h=>by unfold ay at h;exact h.elim
 |.bh _,v,h=>by unfold ay at h;exact h.elim
 |.ag id,v,h=>by
  unfold ay at *
  obtain⟨b,h1,h2,h3⟩:=h
  obtain⟨o,ho⟩:=Option.isSome_iff_exists.1 h3
  obtain⟨o',cP,_⟩:=st.eH id o ho
  exact⟨b,by rw[st.wW id o ho,h1],h2,by rw[cP];rfl⟩
 |.tag id,v,h=>by
  unfold ay at *
  obtain⟨h1,h2,h3⟩:=h
  obtain⟨o,ho⟩:=Option.isSome_iff_exists.1 h3
  obtain⟨o',cP,_⟩:=st.eH id o ho
  exact⟨by rw[st.wW id o ho,h1],h2,by rw[cP];rfl⟩
theorem bx.step(st:Step ρ H O w az H' O' w'):∀(xs:List AV) (vs:List Value),bx ρ H O w xs vs→bx az H' O' w' xs vs
 |[],vs,h=>by unfold bx at *;exact h
 |a::aA,vs,h=>by
  unfold bx at *
  obtain⟨v,rest,h1,h2,h3⟩:=h
  exact⟨v,rest,h1,ab.step st a v h2,bx.step st aA rest h3⟩
theorem an.step(st:Step ρ H O w az H' O' w'):∀(xs:List AV) (cs:List Value),an ρ H O w xs cs→an az H' O' w' xs cs
 |[],vs,h=>by unfold an at *;exact h
 |a::aA,vs,h=>by
  unfold an at *
  obtain⟨c1,c2,h1,h2,h3⟩:=h
  exact⟨c1,c2,h1,aC.step st a c1 h2,an.step st aA c2 h3⟩
theorem aC.step(st:Step ρ H O w az H' O' w'):∀(x:AV) (cs:List Value),aC ρ H O w x cs→aC az H' O' w' x cs
 |.agg _,cs,h=>by unfold aC at h;exact h.elim
 |.ints _ _ _,cs,h=>by unfold aC at *;exact h
 |.s x,cs,h=>by unfold aC at *;obtain⟨u,h1,h2⟩:=h;exact⟨u,h1,h2.step st.fE st.heap st.size⟩
 |.ptr id off,cs,h=>by unfold aC at *;obtain⟨u,h1,h2⟩:=h;exact⟨u,h1,ay.step st (.ptr id off) u h2⟩
 |.jF id off n i,cs,h=>by unfold aC at *;obtain⟨u,h1,h2⟩:=h;exact⟨u,h1,ay.step st (.jF id off n i) u h2⟩
 |.jh c m j,cs,h=>by unfold aC at *;obtain⟨u,h1,h2⟩:=h;exact⟨u,h1,ay.step st (.jh c m j) u h2⟩
 |.vec id,cs,h=>by unfold aC at *;obtain⟨u,h1,h2⟩:=h;exact⟨u,h1,ay.step st (.vec id) u h2⟩
 |.fT id i j,cs,h=>by unfold aC at *;obtain⟨u,h1,h2⟩:=h;exact⟨u,h1,ay.step st (.fT id i j) u h2⟩
 |.part id lo n,cs,h=>by unfold aC at *;obtain⟨u,h1,h2⟩:=h;exact⟨u,h1,ay.step st (.part id lo n) u h2⟩
 |.sub id off n,cs,h=>by unfold aC at *;obtain⟨u,h1,h2⟩:=h;exact⟨u,h1,ay.step st (.sub id off n) u h2⟩
 |.j9 id i j n,cs,h=>by unfold aC at *;obtain⟨u,h1,h2⟩:=h;exact⟨u,h1,ay.step st (.j9 id i j n) u h2⟩
 |.emp,cs,h=>by unfold aC at *;exact h
 |.fn f dY,cs,h=>by
  unfold aC at *
  obtain⟨u,h1,vs,h2,h3⟩:=h
  exact⟨u,h1,vs,h2,bx.step st dY vs h3⟩
 |.bh _,cs,h=>by unfold aC at h;exact h.elim
 |.ag id,cs,h=>by unfold aC at *;obtain⟨u,h1,h2⟩:=h;exact⟨u,h1,ay.step st (.ag id) u h2⟩
 |.tag id,cs,h=>by unfold aC at *;obtain⟨u,h1,h2⟩:=h;exact⟨u,h1,ay.step st (.tag id) u h2⟩
theorem ab.step(st:Step ρ H O w az H' O' w'):∀(x:AV) (v:Value),ab ρ H O w x v→ab az H' O' w' x v
 |.agg ak,v,h=>by unfold ab at *;obtain⟨cs,h1,h2⟩:=h;exact⟨cs,h1,an.step st ak cs h2⟩
 |.ints _ _ _,v,h=>by unfold ab at *;exact h
 |.bh vs,v,h=>by unfold ab at *;obtain⟨us,h1,h2⟩:=h;exact⟨us,h1,bx.step st vs us h2⟩
 |.s .aR,v,h=>by unfold ab;trivial
 |.s (.bool b),v,h=>by unfold ab at *;exact h.step st.fE st.heap st.size
 |.s (.aI b),v,h=>by unfold ab at *;exact h.step st.fE st.heap st.size
 |.s (.j8 _ _),v,h=>by unfold ab at *;exact h.step st.fE st.heap st.size
 |.s (.nO k),v,h=>by unfold ab at *;exact h.step st.fE st.heap st.size
 |.s (.int k n),v,h=>by unfold ab at *;exact h.step st.fE st.heap st.size
 |.s (.aZ k n),v,h=>by unfold ab at *;exact h.step st.fE st.heap st.size
 |.s (.str b),v,h=>by unfold ab at *;exact h.step st.fE st.heap st.size
 |.s .oD,v,h=>by unfold ab at *;exact h.step st.fE st.heap st.size
 |.s .ace,v,h=>by unfold ab at *;exact h.step st.fE st.heap st.size
 |.s .acf,v,h=>by unfold ab at *;exact h.step st.fE st.heap st.size
 |.s .acg,v,h=>by unfold ab at *;exact h.step st.fE st.heap st.size
 |.s .oE,v,h=>by unfold ab at *;exact h.step st.fE st.heap st.size
 |.s (.kM b),v,h=>by unfold ab at *;exact h.step st.fE st.heap st.size
 |.s (.ifi _ _ _),v,h=>by unfold ab at *;exact h.step st.fE st.heap st.size
 |.s (.ifs _ _),v,h=>by unfold ab at *;exact h.step st.fE st.heap st.size
 |.s (.ifb _ _),v,h=>by unfold ab at *;exact h.step st.fE st.heap st.size
 |.s (.raw _ _),v,h=>by unfold ab at *;exact h.step st.fE st.heap st.size
 |.s (.ro b),v,h=>by unfold ab at *;exact h.step st.fE st.heap st.size
 |.s (.yi _ _),v,h=>by unfold ab at *;exact h.step st.fE st.heap st.size
 |.s (.l7 _),v,h=>by unfold ab at *;exact h.step st.fE st.heap st.size
 |.s (.n7 _),v,h=>by unfold ab at *;exact h.step st.fE st.heap st.size
 |.ptr id off,v,h=>by unfold ab at *;exact ay.step st (.ptr id off) v h
 |.jF id off n i,v,h=>by unfold ab at *;exact ay.step st (.jF id off n i) v h
 |.jh c m j,v,h=>by unfold ab at *;exact ay.step st (.jh c m j) v h
 |.vec id,v,h=>by unfold ab at *;exact ay.step st (.vec id) v h
 |.fT id i j,v,h=>by unfold ab at *;exact ay.step st (.fT id i j) v h
 |.part id lo n,v,h=>by unfold ab at *;exact ay.step st (.part id lo n) v h
 |.sub id off n,v,h=>by unfold ab at *;exact ay.step st (.sub id off n) v h
 |.j9 id i j n,v,h=>by unfold ab at *;exact ay.step st (.j9 id i j n) v h
 |.emp,v,h=>by unfold ab at *;exact h
 |.fn f dY,v,h=>by
  unfold ab at *
  obtain⟨vs,h2,h3⟩:=h
  exact⟨vs,h2,bx.step st dY vs h3⟩
 |.ag id,v,h=>by unfold ab at *;exact ay.step st (.ag id) v h
 |.tag id,v,h=>by unfold ab at *;exact ay.step st (.tag id) v h
end
end
end Go.Sx
namespace Go.Sx
open Go
inductive RM (α:Type)where
 |ret (a:α)
 |look (id:Nat) (k:Option ad→RM α)
 |fail (why:String)
def RM.eval{α:Type}(H:aH):RM α→Option α
 |.ret a=>some a
 |.look id k=>(k (H id)).eval H
 |.fail _=>none
def RM.ids{α:Type}(H:aH):RM α→List Nat
 |.ret _=>[]
 |.look id k=>id::(k (H id)).ids H
 |.fail _=>[]
def RM.why{α:Type}(H:aH):RM α→String
 |.ret _=> ""
 |.look _ k=>(k (H id)).why H
 |.fail w=>w
where id:Nat:=0
structure bw where
 need:List Prop
 up:List (Nat×ad)
 new:List ad
 r:Nat→AV
def plain(need:List Prop)(r:AV):RM bw:=.ret ⟨need,[],[],fun _=>r⟩
def oF(why:String):Option (List Prop×AV)→RM bw
 |some (need,r)=>plain need r
 |none=>.fail why
def aD(n:Int):Prop:= -9223372036854775808≤n∧n≤9223372036854775807
def bC:IntKind→IntKind→Bool
 |.i8,.i8|.i16,.i16|.i32,.i32|.i64,.i64|.u8,.u8|.u16,.u16|.u32,.u32|.u64,.u64=>true
 |_,_=>false
def n8:IntKind→Bool
 |.i64=>true
 |_=>false
def bH(op:BinOp)(k:IntKind)(x y:Int):Int:=
 let a:=BitVec.ofInt k.bits x
 let b:=BitVec.ofInt k.bits y
 match op with
 |.and=>k.wrap (a &&& b).toNat
 |.or=>k.wrap (a ||| b).toNat
 |.xor=>k.wrap (a ^^^ b).toNat
 |_=>k.wrap (a &&& ~~~b).toNat
def mkInt(lit:Bool)(k:IntKind)(n:Int):AV:=.s (if lit then .aZ k n else .int k n)
def kA(lit:Bool)(b:Bool):AV:=.s (if lit then .aI b else .bool b)
def mo(lit:Bool)(k:IntKind)(n:Int):List Prop×AV:=
 bif lit then([],.s (.aZ k (k.wrap n)))
 else bif n8 k then([aD n],.s (.int k n))else([],.s (.int k (k.wrap n)))
def tq(op:BinOp)(k:IntKind)(lx ly:Bool)(x y:Int):Option (List Prop×AV):=
 let lit:=lx&&ly
 match op with
 |.add=>some (mo lit k (x+y))
 |.sub=>some (mo lit k (x - y))
 |.mul=>some (mo lit k (x*y))
 |.quo=>some (bif lit then([y≠0],.s (.aZ k (k.wrap (x.tdiv y))))else bif n8 k then([y≠0,aD (x.tdiv y)],.s (.int k (x.tdiv y)))else([y≠0],.s (.int k (k.wrap (x.tdiv y)))))
 |.rem=>some ([y≠0],mkInt lit k (x.tmod y))
 |.and|.or|.xor|.andNot=>some ([],mkInt lit k (bH op k x y))
 |.eql=>some ([],kA lit (x==y))
 |.neq=>some ([],kA lit (x !=y))
 |.lss=>some ([],kA lit (decide (x<y)))
 |.leq=>some ([],kA lit (decide (x≤y)))
 |.gtr=>some ([],kA lit (decide (x>y)))
 |.geq=>some ([],kA lit (decide (x≥y)))
 |_=>none
def ach(op:BinOp)(k:IntKind)(lit:Bool)(x y:Int):Option (List Prop×AV):=
 match op with
 |.shl=>some ([0≤y],mkInt lit k (k.wrap (x*2^(min y.toNat k.bits))))
 |.shr=>some ([0≤y],mkInt lit k (x.fdiv (2^(min y.toNat k.bits))))
 |_=>none
def slt(x y:ByteArray):Bool:=Op.bytesLess x.data.toList y.data.toList
def aci(op:BinOp)(x y:ByteArray):Option (List Prop×AV):=
 match op with
 |.add=>some ([x.size+y.size≤4611686018427387904],.s (.str (x++y)))
 |.eql=>some ([],.s (.bool (decide (x=y))))
 |.neq=>some ([],.s (.bool (!decide (x=y))))
 |.lss=>some ([],.s (.bool (slt x y)))
 |.leq=>some ([],.s (.bool (slt x y||decide (x=y))))
 |.gtr=>some ([],.s (.bool !(slt x y||decide (x=y))))
 |.geq=>some ([],.s (.bool !(slt x y)))
 |_=>none
def AV.cY :AV→Option (IntKind×Bool×Int)
 |.s (.int k n)=>some (k,false,n)
 |.s (.aZ k n)=>some (k,true,n)
 |_=>none
def AV.iN :AV→Option (Bool×Bool)
 |.s (.bool b)=>some (false,b)
 |.s (.aI b)=>some (true,b)
 |_=>none
def unR(op:UnOp)(x:AV):Option (List Prop×AV):=
 match op,x with
 |.not,.s (.bool b)=>some ([],.s (.bool !b))
 |.not,.s (.aI b)=>some ([],.s (.aI !b))
 |.neg,.s (.int k n)=>some (mo false k (0 - n))
 |.neg,.s (.aZ k n)=>some (mo true k (0 - n))
 |_,_=>none
def ahd(c a b:AV):Option (List Prop×AV):=
 match c with
 |.s (.aI true)=>some ([],a)
 |.s (.aI false)=>some ([],b)
 |.s (.bool c)=>
  match a.iN,b.iN with
  |some (_,x),some (_,y)=>some ([],.s (.bool (bif c then x else y)))
  |_,_=>
   match a.cY,b.cY with
   |some (k,_,x),some (k',_,y)=>bif bC k k' then some ([],.s (.int k (bif c then x else y)))else none
   |_,_=>none
 |_=>none
def dj(P:Program)(t:TypeId):Option Nat:=(P.info? t).map (·.size)
def gv(P:Program)(t:TypeId):Option Bool:=
 match P.underlying t with
 |some (.struct _)|some (.array _ _)=>some true
 |some _=>some false
 |none=>none
def kindOf(P:Program)(t:TypeId):Option IntKind:=
 match P.underlying t with
 |some (.int k)=>some k
 |_=>none
def AV.wide:AV→Nat
 |.ints _ n _=>n
 |_=>1
def eW:List AV→Nat→Option (List AV)
 |ak,0=>some ak
 |[],_+1=>none
 |a::aA,n+1=>bif a.wide.ble (n+1)then eW aA (n+1 - a.wide)else none
def eX:List AV→Nat→Option (List AV)
 |_,0=>some []
 |[],_+1=>none
 |a::aA,n+1=>bif a.wide.ble (n+1)&&(1:Nat).ble a.wide then(eX aA (n+1 - a.wide)).map (a:: ·)else none
def cellAt:List AV→Nat→Option AV
 |[],_=>none
 |.ints k n ws::aA,off=>bif off.blt n then some (.s (.int k (ws.getD off 0)))else cellAt aA (off - n)
 |a::_,0=>some a
 |_::aA,off+1=>cellAt aA off
def fY:List AV→Nat→AV→Option (List AV)
 |[],_,_=>none
 |.ints k n ws::aA,off,v=>bif off.blt n then
  (match v.cY with
   |some (k',_,x)=>bif bC k k' then some (.ints k n (ws.set off x)::aA)else none
   |none=>none)
  else(fY aA (off - n) v).map (.ints k n ws:: ·)
 |_::aA,0,v=>some (v::aA)
 |a::aA,off+1,v=>(fY aA off v).map (a:: ·)
def iP:List AV→Nat→Option (IntKind×Nat×List Int)
 |.ints k n ws::aA,off=>bif off.beq 0 then some (k,n,ws)else bif off.blt n then none else iP aA (off - n)
 |_::aA,off+1=>iP aA off
 |_,_=>none
def jG:List AV→Nat→List Int→Option (List AV)
 |.ints k n ws::aA,off,mg=>bif off.beq 0 then some (.ints k n mg::aA)else bif off.blt n then none else(jG aA (off - n) mg).map (.ints k n ws:: ·)
 |a::aA,off+1,mg=>(jG aA off mg).map (a:: ·)
 |_,_,_=>none
def AV.single:AV→Bool
 |.s .aR|.agg _|.ints _ _ _|.bh _=>false
 |_=>true
def AV.iZ :AV→Option (List AV)
 |.agg ak=>some ak
 |.ints k n ws=>some [.ints k n ws]
 |.bh _|.s .aR=>none
 |a=>some [a]
def AV.kB:List AV→AV
 |[.ints k n ws]=>.ints k n ws
 |ak=>.agg ak
def fA:List AV→Nat
 |[]=>0
 |a::aA=>a.wide+fA aA
def acj(ak:List AV)(off:Nat)(ja:List AV):Option (List AV):=
 match ak,ja with
 |[.ints k n ws],[x]=>match x.cY with
  |some (k',_,z)=>bif bC k k'&&off.blt n then some [.ints k n (ws.set off z)]else none
  |none=>none
 |_,_=>none
def sQ(ak:List AV)(off:Nat)(ja:List AV):Option (List AV):=
 match acj ak off ja with
 |some r=>some r
 |none=>
 match eX ak off,eW ak (off+fA ja)with
 |some pre,some post=>some (pre++ja++post)
 |_,_=>none
def afF(P:Program)(rec:TypeId→List AV→List AV→Option Bool):List Field→List AV→List AV→Option Bool
 |[],_,_=>some true
 |f::fs,xs,ys=>bif f.name== "_" then afF P rec fs xs ys else
  match dj P f.type,gv P f.type with
  |some sz,some we=>bif we||sz.beq 1 then(match(eW xs f.offset).bind (eX · sz),(eW ys f.offset).bind (eX · sz)with
   |some a,some b=>(match rec f.type a b,afF P rec fs xs ys with
    |some p,some q=>some (p&&q)
    |_,_=>none)
   |_,_=>none)else none
  |_,_=>none
def eqC(P:Program):Nat→TypeId→List AV→List AV→Option Bool
 |0,_,_,_=>none
 |d+1,t,xs,ys=>
  match P.underlying t with
  |some (.int _)=>(match xs,ys with
   |[x],[y]=>(match x.cY,y.cY with
    |some (k,_,a),some (k',_,b)=>bif bC k k' then some (a==b)else none
    |_,_=>none)
   |_,_=>none)
  |some .bool=>(match xs,ys with
   |[x],[y]=>(match x.iN,y.iN with
    |some (_,a),some (_,b)=>some (a==b)
    |_,_=>none)
   |_,_=>none)
  |some .string=>(match xs,ys with
   |[.s (.str a)],[.s (.str b)]=>some (decide (a=b))
   |_,_=>none)
  |some (.array n e)=>(match xs,ys with
   |[.ints k m ws],[.ints k' m' mg]=>
    (match P.underlying e with
     |some (.int k'')=>bif (1:Nat).ble d&&bC k k'&&bC k k''&&n==m&&m==m'&&(P.info? e).any (fun i=>i.size==1)then some (decide (ws=mg))else none
     |_=>none)
   |_,_=>none)
  |some (.struct fs)=>bif P.stoodInHeld t then none else afF P (eqC P d) fs.toList xs ys
  |_=>none
def ahe(P:Program)(t:TypeId):Bool:=match P.underlying t with|some (.int _)=>true|_=>false
def ahf(P:Program)(t:TypeId):Bool:=match P.underlying t with|some .string=>true|_=>false
def adR(P:Program)(t:TypeId):Bool:=match P.underlying t with|some .bool=>true|_=>false
def ahg(P:Program):AV→AV→Option Bool
 |.s (.ifi t k n),.s (.ifi t' k' n')=>bif t.beq t'&&bC k k'&&(P.info? t).any (·.comparable)&&ahe P t then some (n==n')else none
 |.s (.ifs t s),.s (.ifs t' s')=>bif t.beq t'&&(P.info? t).any (·.comparable)&&ahf P t then some (decide (s=s'))else none
 |.s (.ifb t b),.s (.ifb t' b')=>bif t.beq t'&&(P.info? t).any (·.comparable)&&adR P t then some (b==b')else none
 |_,_=>none
def eqI(P:Program):List AV→List AV→Option Bool
 |[],[]=>some true
 |x::xs,y::ys=>match ahg P x y,eqI P xs ys with
  |some a,some b=>some (a&&b)
  |_,_=>none
 |_,_=>none
def eqR(P:Program)(t:TypeId)(x y:AV):Option (Bool×Bool):=
 match P.underlying t,x,y with
 |some .bool,x,y=>match x.iN,y.iN with
  |some (lx,a),some (ly,b)=>some (lx&&ly,a==b)
  |_,_=>none
 |some (.array n e),.ints k m ws,.ints k' m' mg=>
  match P.underlying e with
  |some (.int k'')=>bif bC k k'&&bC k k''&&n==m&&m==m'&&(P.info? e).any (fun i=>i.size==1)&& !P.eqGuardType P.depth t then some (false,decide (ws=mg))else none
  |_=>none
 |some (.pointer _),.s .oD,.s .oD=>some (true,true)
 |some (.pointer _),.s .oD,.ptr _ _|some (.pointer _),.ptr _ _,.s .oD=>some (true,false)
 |some (.array n e),.agg xs,.agg ys=>
  match P.underlying e with
  |some (.interface _)=>bif n==xs.length&&n==ys.length&&(P.info? e).any (fun i=>i.size==1)&& !P.eqGuardType P.depth t then(eqI P xs ys).map fun b=>(false,b)else none
  |_=>none
 |some (.struct _),.agg xs,.agg ys=>bif P.eqGuardType P.depth t then none else(eqC P 20 t xs ys).map fun b=>(false,b)
 |_,_,_=>none
def AV.kind? :AV→Option IntKind
 |.s (.int k _)|.s (.aZ k _)|.s (.nO k)=>some k
 |_=>none
def ack(op:BinOp)(k:IntKind):Option AV:=
 match op with
 |.add|.sub|.mul|.and|.or|.xor|.andNot=>some (.s (.nO k))
 |.eql|.neq|.lss|.leq|.gtr|.geq=>some (.s (.j8 0 true))
 |_=>none
def akK(P:Program)(op:BinOp)(t:TypeId)(x y:AV):Option (List Prop×AV):=
 match x,y with
 |.s (.str a),.s (.str b)=>aci op a b
 |x,y=>
  match x.cY,y.cY with
  |some (k,lx,a),some (k',ly,b)=>
   match op with
   |.shl|.shr=>ach op k (lx&&ly) a b
   |_=>bif bC k k' then tq op k lx ly a b else none
  |_,_=>
   match x.kind?,y.kind? with
   |some k,some k'=>bif bC k k' then(ack op k).map fun r=>([],r)else none
   |_,_=>
   match op with
   |.eql=>(eqR P t x y).map fun(l,b)=>([],kA l b)
   |.neq=>(eqR P t x y).map fun(l,b)=>([],kA l (!b))
   |_=>none
def akL:Value→Option SV
 |.bool b=>some (.aI b)
 |.int k n=>some (.aZ k n)
 |.string s=>some (.str s)
 |.pointer none=>some .oD
 |.nilIface=>some .ace
 |.nilFunc=>some .acf
 |.map none=>some .acg
 |_=>none
def py:Value→Option AV
 |.slice none 0 0=>some .emp
 |v=>(akL v).map .s
def pz:List Value→Option (List AV)
 |[]=>some []
 |v::vs=>match py v,pz vs with
  |some a,some aA=>some (a::aA)
  |_,_=>none
def mq(k:IntKind):List Value→Bool
 |[]=>true
 |.int k' 0::vs=>bC k k'&&mq k vs
 |_=>false
def gw(P:Program):Nat→TypeId→List Value→Option (List AV)
 |0,_,_=>none
 |d+1,t,cs=>
  match P.underlying t with
  |some (.struct fs)=>fs.toList.foldl (fun acc f=>
   match acc,dj P f.type with
   |some (ak,rest),some n=>(gw P d f.type (rest.take n)).map fun s=>(ak++s,rest.drop n)
   |_,_=>none) (some ([],cs)) |>.bind fun(ak,rest)=>match rest with|[]=>some ak|_=>none
  |some (.array n e)=>match kindOf P e with
   |some k=>bif mq k cs&&cs.length==n then some [.ints k n (List.replicate n 0)]else pz cs
   |none=>pz cs
  |_=>pz cs
def yj:Value→AV
 |.agg cs=>match pz cs.toList with|some aA=>.agg aA|none=>.s .aR
 |v=>(py v).getD (.s .aR)
def zeroOf(P:Program)(t:TypeId):Option AV:=
 match(P.info? t).bind (·.zero),gv P t with
 |some (.agg cs),some true=>(gw P 20 t cs.toList).map .kB
 |some v,some false=>py v
 |_,_=>none
def CL.ak:(cs:List CK)→CL cs→List AV
 |[],_=>[]
 |.arr k n::cs,x=>.ints k n x.1::CL.ak cs x.2
 |.int k::cs,x=>.s (.int k x.1)::CL.ak cs x.2
 |.bool::cs,x=>.s (.bool x.1)::CL.ak cs x.2
 |.str::cs,x=>.s (.str x.1)::CL.ak cs x.2
 |.ints k::cs,x=>.s (.ro (.ints k x.1))::CL.ak cs x.2
 |.strs::cs,x=>.s (.ro (.strs x.1))::CL.ak cs x.2
 |.bB::cs,x=>.s (.ro (.bB x.1))::CL.ak cs x.2
 |.rows ds::cs,x=>.s (.ro (.ae ds x.1))::CL.ak cs x.2
def dZ:List AV→List Prop
 |[]=>[]
 |.ints _ n ws::aA=>(ws.length=n)::dZ aA
 |_::aA=>dZ aA
def ahh(k:IntKind):SV→Option Int
 |.int k' x|.aZ k' x=>bif bC k k' then some x else none
 |_=>none
def acm:SV→Option Bool
 |.bool x|.aI x=>some x
 |_=>none
def ahi:SV→Option ByteArray
 |.str x=>some x
 |_=>none
def acn(k:IntKind):SV→Option (List Int)
 |.ro (.ints k' zs)=>bif bC k k' then some zs else none
 |.ro (.dU _ 0 _)=>some []
 |_=>none
def aco:SV→Option (List ByteArray)
 |.ro (.strs zs)=>some zs
 |.ro (.dU _ 0 _)=>some []
 |_=>none
def yk:SV→Option (List Bool)
 |.ro (.bB zs)=>some zs
 |.ro (.dU _ 0 _)=>some []
 |_=>none
def acp(cs:List CK):SV→Option (List (CL cs))
 |.ro (.ae jb zs)=>(CL.eq jb cs).map fun h=>z6 h zs
 |.ro (.dU _ 0 _)=>some []
 |_=>none
def CK.set:(c:CK)→c.V→Nat→SV→Option c.V
 |.int k,_,_,v=>ahh k v
 |.bool,_,_,v=>acm v
 |.str,_,_,v=>ahi v
 |.ints k,_,_,v=>acn k v
 |.strs,_,_,v=>aco v
 |.bB,_,_,v=>yk v
 |.rows cs,_,_,v=>acp cs v
 |.arr _ _,_,_,_=>none
def CL.set:(cs:List CK)→CL cs→Nat→SV→Option (CL cs)
 |[],_,_,_=>none
 |c::cs,x,j,v=>bif j.blt c.wide then(c.set x.1 j v).map fun y=>(y,x.2)else(CL.set cs x.2 (j - c.wide) v).map fun y=>(x.1,y)
def CK.setRow:(c:CK)→IntKind→Nat→List Int→Option c.V
 |.arr k' n',k,n,ws=>bif bC k k'&&n.beq n' then some ws else none
 |_,_,_,_=>none
def CL.setRow:(cs:List CK)→CL cs→Nat→IntKind→Nat→List Int→Option (CL cs)
 |[],_,_,_,_,_=>none
 |c::cs,x,j,k,n,ws=>bif j.beq 0 then(c.setRow k n ws).map fun y=>(y,x.2)
   else bif c.wide.ble j then(CL.setRow cs x.2 (j - c.wide) k n ws).map fun y=>(x.1,y)else none
def pA(we:Bool)(c:aF)(i j sz:Nat):RM bw:=
 bif we then
  (match c with
   |.ae cs xs=>(match(eW (CL.ak cs (xs.getD i (CL.d cs))) j).bind (eX · sz)with
     |some ss=>plain (dZ (CL.ak cs (xs.getD i (CL.d cs)))) (.kB ss)
     |none=>.fail "load: no such parts of the element")
   |c=>bif (j+sz).ble c.size then plain [] (.agg ((List.range sz).map fun l=>.s (c.cell i (j+l))))else .fail "load: beyond the element")
 else(bif j.blt c.size then plain [] (.s (c.cell i j))else .fail "load: beyond the element")
def adS(P:Program)(t:TypeId)(a:AV):RM bw:=
 match dj P t,gv P t with
 |some sz,some we=>
  match a with
  |.ptr id off=>.look id fun
   |some (.own ak _)=>bif we then
    (match(eW ak off).bind (eX · sz)with
     |some ss=>plain [] (.kB ss)
     |none=>.fail "load: no such parts")
    else(match cellAt ak off with
     |some v=>plain [] v
     |none=>.fail "load: no such cell")
   |_=>.fail "load: no own object"
  |.jF id off n i=>.look id fun
   |some (.own ak _)=>match iP ak off with
    |some (k,m,ws)=>bif m.beq n&& !we then plain [] (.s (.int k (ws.getD i 0)))else .fail "load: a row of another length"
    |none=>.fail "load: no row"
   |_=>.fail "load: no own object"
  |.jh c i j=>pA we c i j sz
  |.fT id i j=>.look id fun
   |some (.vec c _)=>pA we c i j sz
   |_=>.fail "load: no vec"
  |_=>.fail "load: no address"
 |_,_=>.fail "load: no type"
def qM:aF→Nat→Nat→SV→Option aF
 |.ints k zs,i,_,v=>match v with
  |.int k' x|.aZ k' x=>bif bC k k' then some (.ints k (zs.set i x))else none
  |_=>none
 |.strs ss,i,_,v=>match v with
  |.str x=>some (.strs (ss.set i x))
  |_=>none
 |.bB bs,i,_,v=>match v with
  |.bool x|.aI x=>some (.bB (bs.set i x))
  |_=>none
 |.ae cs xs,i,j,v=>(CL.set cs (xs.getD i (CL.d cs)) j v).map fun y=>.ae cs (xs.set i y)
 |.dU s n get,i,j,v=>some (.dU s n fun i' j'=>bif i'==i&&j'==j then v else get i' j')
def nt:aF→Nat→Nat→IntKind→Nat→List Int→Option aF
 |.ae cs xs,i,j,k,n,ws=>(CL.setRow cs (xs.getD i (CL.d cs)) j k n ws).map fun y=>.ae cs (xs.set i y)
 |_,_,_,_,_,_=>none
def eb(c:aF)(i j:Nat):List AV→Option aF
 |[]=>some c
 |.s v::aA=>(qM c i j v).bind fun c'=>eb c' i (j+1) aA
 |.ints k n ws::aA=>(nt c i j k n ws).bind fun c'=>eb c' i (j+n) aA
 |_=>none
def mr(cs:List CK)(x:CL cs)(j:Nat):List AV→Option (CL cs)
 |[]=>some x
 |.s v::aA=>(CL.set cs x j v).bind fun y=>mr cs y (j+1) aA
 |.ints k n ws::aA=>(CL.setRow cs x j k n ws).bind fun y=>mr cs y (j+n) aA
 |_=>none
def adT(c:aF)(i j:Nat)(ja:List AV):Option aF:=match c with
 |.ae cs xs=>(mr cs (xs.getD i (CL.d cs)) j ja).map fun y=>.ae cs (xs.set i y)
 |_=>eb c i j ja
def acq(P:Program)(t:TypeId)(a x:AV):RM bw:=
 match dj P t,gv P t with
 |some sz,some we=>
  match a with
  |.ptr id off=>.look id fun
   |some (.own ak e)=>
    bif we then
     (match x.iZ with
      |some ja=>bif (fA ja).beq sz&&(1:Nat).ble sz then
       (match sQ ak off ja with
        |some ef=>.ret ⟨[],[(id,.own ef e)],[],fun _=>.bh []⟩
        |none=>.fail "store: no such parts")else .fail "store: another size"
      |none=>.fail "store: no parts")
    else(bif x.single&&sz.beq 1 then
     (match fY ak off x with
      |some ef=>.ret ⟨[],[(id,.own ef e)],[],fun _=>.bh []⟩
      |none=>.fail "store: no such cell")else .fail "store: no one cell")
   |_=>.fail "store: no own object"
  |.jF id off n i=>.look id fun
   |some (.own ak e)=>match iP ak off,x.cY with
    |some (k,m,ws),some (k',_,y)=>bif m.beq n&&bC k k'&& !we&&sz.beq 1 then
     (match jG ak off (ws.set i y)with
      |some ef=>.ret ⟨[],[(id,.own ef e)],[],fun _=>.bh []⟩
      |none=>.fail "store: no row")else .fail "store: a row of another length"
    |_,_=>.fail "store: no row"
   |_=>.fail "store: no own object"
  |.fT id i j=>.look id fun
   |some (.vec c e)=>match x.iZ with
    |some ja=>bif (fA ja).beq sz&&(j+sz).ble c.size then
     (match adT c i j ja with
      |some c'=>.ret ⟨[],[(id,.vec c' e)],[],fun _=>.bh []⟩
      |none=>.fail "store: another kind of element")else .fail "store: another size"
    |none=>.fail "store: no parts"
   |_=>.fail "store: no vec"
  |_=>.fail "store: no own address"
 |_,_=>.fail "store: no type"
def oG(P:Program)(t:TypeId)(x:AV)(f:Nat):RM bw:=
 match P.underlying t with
 |some (.struct fs)=>match fs[f]? with
  |some fd=>bif (dj P fd.type).any (fun n=>(1:Nat).ble n)then
   (match x with
    |.ptr id off=>plain [] (.ptr id (off+fd.offset))
    |.jh c i j=>plain [] (.jh c i (j+fd.offset))
    |.fT id i j=>.look id fun
     |some (.vec c _)=>bif (j+fd.offset).blt c.size then plain [] (.fT id i (j+fd.offset))else .fail "fieldAddr: beyond"
     |_=>.fail "fieldAddr: no vec"
    |_=>.fail "fieldAddr: no address")else .fail "fieldAddr: an empty field"
  |none=>.fail "fieldAddr: no field"
 |_=>.fail "fieldAddr: no struct"
def oH(P:Program)(t:TypeId)(x i:AV):RM bw:=
 match i.cY,P.underlying t with
 |some (_,_,n),some (.slice e)=>
  (match dj P e,x with
   |some sz,.s (.ro c)=>bif sz.beq c.size then plain [0≤n,n<c.n] (.jh c n.toNat 0)else .fail "indexAddr: size"
   |some sz,.vec id=>.look id fun
    |some (.vec c _)=>bif sz.beq c.size&&(1:Nat).ble sz then plain [0≤n,n<c.n] (.fT id n.toNat 0)else .fail "indexAddr: size"
    |_=>.fail "indexAddr: no vec"
   |some sz,.part id lo m=>.look id fun
    |some (.vec c _)=>bif sz.beq c.size&&(1:Nat).ble sz then plain [0≤n,n<m] (.fT id (lo+n.toNat) 0)else .fail "indexAddr: size"
    |_=>.fail "indexAddr: no vec"
   |_,_=>.fail "indexAddr: no slice")
 |some (_,lit,n),some (.array len e)=>
  (match dj P e,x with
   |some sz,.ptr id off=>bif lit then
    (bif decide (0≤n)&&decide (n<len)then plain [] (.ptr id (off+n.toNat*sz))else .fail "indexAddr: out of range")
    else(bif sz.beq 1 then plain [0≤n,n<len] (.jF id off len n.toNat)else .fail "indexAddr: wide elements")
   |some sz,.fT id i0 0=>.look id fun
    |some (.vec c _)=>bif sz.beq c.size&&(1:Nat).ble sz then plain [0≤n,n<len,i0+n<c.n] (.fT id (i0+n.toNat) 0)else .fail "indexAddr: size"
    |_=>.fail "indexAddr: no vec"
   |_,_=>.fail "indexAddr: no array")
 |_,_=>.fail "indexAddr: no number or type"
def aW(s:ByteArray)(i:Nat):Int:=((s.data.toList.getD i 0).toNat:Int)
def acr(P:Program)(t:TypeId)(x i:AV):RM bw:=
 match i.cY,P.underlying t,x with
 |some (_,_,n),some (.array len e),.ints k m ws=>bif len.beq m&&(gv P e).any (!·)&&(dj P e).any (·.beq 1)then plain [0≤n,n<len] (.s (.int k (ws.getD n.toNat 0)))else .fail "index: array"
 |some (_,_,n),some .string,.s (.str s)=>plain [0≤n,n<s.size] (.s (.int .u8 (aW s n.toNat)))
 |some (_,_,n),some (.array len e),.agg ak=>bif (gv P e).any (!·)&&(dj P e).any (·.beq 1)then
  (match cellAt ak n.toNat with
   |some v=>plain [0≤n,n<len] v
   |none=>.fail "index: no cell")else .fail "index: array of parts"
 |_,_,_=>.fail "index"
def acs(P:Program)(t:TypeId)(x:AV)(f:Nat):RM bw:=
 match P.underlying t,x with
 |some (.struct fs),.agg ak=>match fs[f]? with
  |some fd=>match dj P fd.type,gv P fd.type with
   |some sz,some true=>match(eW ak fd.offset).bind (eX · sz)with
    |some ss=>plain [] (.kB ss)
    |none=>.fail "field: parts"
   |some _,some false=>match cellAt ak fd.offset with
    |some v=>plain [] v
    |none=>.fail "field: cell"
   |_,_=>.fail "field: type"
  |none=>.fail "field: none"
 |_,_=>.fail "field"
def tu(x:AV)(i:Nat):RM bw:=
 match x with
 |.bh vs=>match vs[i]? with
  |some v=>plain [] v
  |none=>.fail "extract"
 |_=>.fail "extract: no tuple"
def yl(P:Program)(t:TypeId):Option Nat:=
 match P.underlying t,P.info? t with
 |some (.array n e),some i=>match P.underlying e,i.zero with
  |some .string,some z=>bif (4:Nat).ble n&&n.ble 4096&&z.cells.size.beq n&&z.cells.toList.all (fun v=>match v with|.string s=>s.size.beq 0|_=>false)then some n else none
  |_,_=>none
 |_,_=>none
def acu(P:Program)(t:TypeId):RM bw:=
 match yl P t with
 |some n=>.ret ⟨[],[],[.vec (.strs (List.replicate n ByteArray.empty)) t],fun id=>.fT id 0 0⟩
 |none=>
 match(zeroOf P t).bind AV.iZ with
 |some ak=>.ret ⟨[],[],[.own ak t],fun id=>.ptr id 0⟩
 |none=>.fail "alloc: zero"
def aoA(t:TypeId)(v:AV):RM bw:=
 match v.iZ with
 |some ak=>.ret ⟨[],[],[.own ak t],fun id=>.ptr id 0⟩
 |none=>.fail "box"
def oI(place:Nat→Option (Nat×Nat))(ak:List AV):List (Nat×AV)→Option (List AV)
 |[]=>some ak
 |(i,v)::rest=>
  match place i,v.iZ with
  |some (off,size),some ja=>bif (fA ja).beq size&&(1:Nat).ble size then(sQ ak off ja).bind fun s=>oI place s rest else none
  |_,_=>none
def acv(P:Program)(t:TypeId)(parts:List (Nat×AV)):RM bw:=
 match(zeroOf P t).bind AV.iZ,P.underlying t with
 |some ak,some (.struct fs)=>bif fs.toList.all (fun f=>(dj P f.type).isSome)then
  match oI (fun i=>(fs[i]?).bind fun f=>(dj P f.type).map fun n=>(f.offset,n)) ak parts with
  |some ss=>plain [] (.kB ss)
  |none=>.fail "build: parts"
  else .fail "build: a field's size"
 |some ak,some (.array _ e)=>
  match dj P e with
  |some sz=>match oI (fun i=>some (i*sz,sz)) ak parts with
   |some ss=>plain [] (.kB ss)
   |none=>.fail "build: array"
  |none=>.fail "build: element"
 |_,_=>.fail "build: zero"
def AV.sv? :AV→Option SV
 |.s .aR=>none
 |.s v=>some v
 |.emp=>some (.ro (.dU 1 0 fun _ _=>.aR))
 |_=>none
def svs:List AV→Option (List SV)
 |[]=>some []
 |.ints _ _ _::_=>none
 |a::aA=>match a.sv?,svs aA with
  |some v,some vs=>some (v::vs)
  |_,_=>none
def oJ(k:IntKind):List SV→Option (List Int)
 |[]=>some []
 |.int k' n::vs|.aZ k' n::vs=>bif bC k k' then(oJ k vs).map (n:: ·)else none
 |_=>none
def qN:List SV→Option (List ByteArray)
 |[]=>some []
 |.str s::vs=>(qN vs).map (s:: ·)
 |_=>none
def nu:List SV→Option (List Bool)
 |[]=>some []
 |.bool b::vs|.aI b::vs=>(nu vs).map (b:: ·)
 |_=>none
inductive Shape where
 |ints (k:IntKind)|strs|bB|ae (cs:List CK)|other
def ahj(P:Program):Nat→TypeId→Option (List CK)
 |0,_=>none
 |d+1,t=>
  match P.underlying t with
  |some (.int k)=>some [.int k]
  |some .bool=>some [.bool]
  |some .string=>some [.str]
  |some (.slice e)=>match P.underlying e with
   |some (.int k)=>some [.ints k]
   |some .string=>some [.strs]
   |some .bool=>some [.bB]
   |_=>(ahj P d e).map fun cs=>[.rows cs]
  |some (.struct fs)=>fs.toList.foldr (fun f acc=>match ahj P d f.type,acc with
   |some a,some b=>some (a++b)
   |_,_=>none) (some [])
  |some (.array n e)=>match P.underlying e with
   |some (.int k)=>some [.arr k n]
   |_=>none
  |_=>none
def shapeOf(P:Program)(e:TypeId):Shape:=
 match P.underlying e with
 |some (.int k)=>.ints k
 |some .string=>.strs
 |some .bool=>.bB
 |_=>match ahj P 8 e with
  |some cs=>.ae cs
  |none=>.other
def CL.ofs(cs:List CK)(f:Nat→SV):Option (CL cs):=(List.range (CL.wide cs)).foldl (fun acc j=>acc.bind fun x=>CL.set cs x j (f j)) (some (CL.d cs))
def wX(cs:List CK)(size:Nat)(cells:List SV):Nat→Nat→Option (List (CL cs))
 |_,0=>some []
 |i,n+1=>match CL.ofs cs (fun j=>cells.getD (i*size+j) .aR),wX cs size cells (i+1) n with
  |some x,some xs=>some (x::xs)
  |_,_=>none
def rS(sh:Shape)(size n:Nat)(cells:List SV):aF:=
 let d:aF:=.dU size n fun i j=>cells.getD (i*size+j) .aR
 match sh with
 |.ints k=>(oJ k cells).elim d (.ints k)
 |.strs=>(qN cells).elim d .strs
 |.bB=>(nu cells).elim d .bB
 |.ae cs=>bif (CL.wide cs).beq size then(wX cs size cells 0 n).elim d (.ae cs)else d
 |.other=>d
def ahk(sh:Shape)(size:Nat):aF:=
 match sh with
 |.ints k=>.ints k []
 |.strs=>.strs []
 |.bB=>.bB []
 |.ae cs=>.ae cs []
 |.other=>.dU size 0 fun _ _=>.aR
def rep{α:Type}(n:Nat)(x:List α):List α:=
 match n with
 |0=>[]
 |n+1=>x++rep n x
def mu(P:Program)(t:TypeId)(n:Nat)(parts:List (Nat×AV)):RM bw:=
 match P.underlying t with
 |some (.slice e)=>
  match dj P e,(zeroOf P e).bind AV.iZ with
  |some sz,some z=>bif (1:Nat).ble sz&&(n*sz).ble 4096&&(fA z).beq sz then
   (match(oI (fun i=>some (i*sz,sz)) (rep n z) parts).bind svs with
    |some cells=>bif cells.length.beq (n*sz)&&(rS (shapeOf P e) sz n cells).n.beq n&&(rS (shapeOf P e) sz n cells).size.beq sz then .ret ⟨[],[],[.vec (rS (shapeOf P e) sz n cells) e],fun id=>.vec id⟩else .fail "buildSlice: length"
    |none=>.fail "buildSlice: parts")else .fail "buildSlice: size"
  |_,_=>.fail "buildSlice: zero"
 |_=>.fail "buildSlice: type"
def cT:aF→aF→aF
 |.ints k xs,.ints k' ys=>bif bC k k' then .ints k (xs++ys)else .dU 1 (xs.length+ys.length) fun i j=>bif i.blt xs.length then(aF.ints k xs).cell i j else(aF.ints k' ys).cell (i - xs.length) j
 |.strs xs,.strs ys=>.strs (xs++ys)
 |.bB xs,.bB ys=>.bB (xs++ys)
 |.ae cs xs,.ae jb ys=>match CL.eq jb cs with
  |some h=>.ae cs (xs++z6 h ys)
  |none=>.dU (CL.wide cs) (xs.length+ys.length) fun i j=>bif i.blt xs.length then(aF.ae cs xs).cell i j else(aF.ae jb ys).cell (i - xs.length) j
 |c,d=>.dU c.size (c.n+d.n) fun i j=>bif i.blt c.n then c.cell i j else d.cell (i - c.n) j
def de:aF→Nat→Nat→aF
 |.ints k zs,l,h=>.ints k ((zs.take h).drop l)
 |.strs zs,l,h=>.strs ((zs.take h).drop l)
 |.bB zs,l,h=>.bB ((zs.take h).drop l)
 |.ae cs zs,l,h=>.ae cs ((zs.take h).drop l)
 |.dU s _ get,l,h=>.dU s (h - l) fun i j=>get (l+i) j
def over{α:Type}(xs:List α)(lo k:Nat)(ys:List α):List α:=xs.take lo++ys.take k++xs.drop (lo+k)
def cZ:aF→Nat→Nat→aF→aF
 |.ints k1 xs,lo,k,.ints k2 ys=>bif bC k1 k2 then .ints k1 (over xs lo k ys)else .dU 1 xs.length fun i j=>bif lo.ble i&&i.blt (lo+k)then(aF.ints k2 ys).cell (i - lo) j else(aF.ints k1 xs).cell i j
 |.strs xs,lo,k,.strs ys=>.strs (over xs lo k ys)
 |.bB xs,lo,k,.bB ys=>.bB (over xs lo k ys)
 |.ae cs xs,lo,k,.ae jb ys=>match CL.eq jb cs with
  |some h=>.ae cs (over xs lo k (z6 h ys))
  |none=>.dU (CL.wide cs) xs.length fun i j=>bif lo.ble i&&i.blt (lo+k)then(aF.ae jb ys).cell (i - lo) j else(aF.ae cs xs).cell i j
 |c,lo,k,d=>.dU c.size c.n fun i j=>bif lo.ble i&&i.blt (lo+k)then d.cell (i - lo) j else c.cell i j
def aoB:SV→Value→Bool
 |.int k n,.int k' n'=>bC k k'&&n==n'
 |.bool b,.bool b'=>b==b'
 |.str s,.string s'=>s.size.beq 0&&s'.size.beq 0
 |.ro c,.slice none 0 0=>c.n.beq 0
 |_,_=>false
def c7(sh:Shape)(n:Nat):aF:=
 match sh with
 |.ints k=>.ints k (List.replicate n 0)
 |.strs=>.strs (List.replicate n ByteArray.empty)
 |.bB=>.bB (List.replicate n false)
 |.ae cs=>.ae cs (List.replicate n (CL.d cs))
 |.other=>.dU 1 n fun _ _=>.aR
def fH(sh:Shape)(z:List Value):Bool:=(c7 sh 1).size.beq z.length&&(List.range z.length).all fun j=>aoB ((c7 sh 1).cell 0 j) (z.getD j undef)
def rowOf(sh:Shape)(size:Nat)(x:AV)(k:aF→Option Nat→RM bw):RM bw:=
 match x with
 |.s v=>(match v with
  |.ro c=>k c none
  |_=>.fail "row")
 |.emp=>k (ahk sh size) none
 |.vec id=>.look id fun
  |some (.vec c _)=>k c (some id)
  |_=>.fail "row: no vec"
 |.part id lo n=>.look id fun
  |some (.vec c _)=>k (de c lo (lo+n)) (some id)
  |_=>.fail "row: no vec"
 |_=>.fail "row"
def wY(sh:Shape)(size:Nat)(x:AV)(k:aF→Option Nat→RM bw):RM bw:=
 match x with
 |.s (.str s)=>k (.ints .u8 (s.data.toList.map fun b=>(b.toNat:Int))) none
 |x=>rowOf sh size x k
def ym(P:Program)(t:TypeId)(x y:AV):RM bw:=
 match P.underlying t with
 |some (.slice e)=>
  match P.info? e with
  |some i=>
   let sh:=shapeOf P e
   bif (1:Nat).ble i.size&&(1:Nat).ble i.bytes&&i.bytes.ble 256&&i.zero.any (fun z=>z.cells.size==i.size&&z.cells.toList.all (·.oneCell'))then
    wY sh i.size y fun d idy=>
     bif d.size.beq i.size then
      (match x with
       |.emp=>.ret ⟨[d.n*i.bytes≤140737488355328],[],[.vec d e],fun id=>.vec id⟩
       |.vec idx=>.look idx fun
        |some (.vec c e')=>bif c.size.beq i.size&&e'.beq e&& !(idy==some idx)then
         .ret ⟨[(c.n+d.n)*i.bytes≤140737488355328],[(idx,.dead)],[.vec (cT c d) e],fun id=>.vec id⟩else .fail "append: size"
        |_=>.fail "append: no vec"
       |.part idx lo n=>.look idx fun
        |some (.vec c e')=>bif c.size.beq i.size then
         .ret ⟨[lo+n+d.n≤c.n],[(idx,.vec (cZ c (lo+n) d.n d) e')],[],fun _=>.part idx lo (n+d.n)⟩else .fail "append: size"
        |_=>.fail "append: no vec"
       |_=>.fail "append: what is appended to is not own")
     else .fail "append: another size"
   else .fail "append: element"
  |none=>.fail "append: no element"
 |_=>.fail "append: type"
def tv(P:Program)(t t':TypeId)(x y:AV):RM bw:=
 match P.underlying t,P.underlying t',x,y.cY with
 |some (.slice e),some (.int _),.s (.yi c k),some (_,_,j)=>
  (match P.info? e with
   |some i=>bif (1:Nat).ble i.size&&i.bytes.ble 256&&c.size.beq i.size&&i.zero.any (fun z=>fH (shapeOf P e) z.cells.toList&&z.cells.size==i.size)then
    .ret ⟨[0<j,(k:Int)≤c.n+j,(c.n:Int)+j≤4294967296],[],[.vec (cT c (c7 (shapeOf P e) j.toNat)) e],fun id=>.vec id⟩else .fail "append: zeros"
   |none=>.fail "append: element")
 |_,_,_,_=>.fail "append: zeros?"
def aoC(P:Program)(t:TypeId)(x:AV):RM bw:=
 match P.underlying t,x with
 |some .string,.s (.str s)=>plain [] (.s (.int .i64 s.size))
 |some (.array n _),_=>plain [] (.s (.aZ .i64 n))
 |some (.slice _),.s (.ro c)=>plain [] (.s (.int .i64 c.n))
 |some (.slice _),.s (.yi c _)=>plain [] (.s (.int .i64 c.n))
 |some (.slice _),.emp=>plain [] (.s (.aZ .i64 0))
 |some (.slice _),.vec id=>.look id fun
  |some (.vec c _)=>plain [] (.s (.int .i64 c.n))
  |_=>.fail "len: no vec"
 |some (.slice _),.part id _ n=>.look id fun
  |some (.vec _ _)=>plain [] (.s (.int .i64 n))
  |_=>.fail "len: no vec"
 |some (.map _ _),.ag id=>.look id fun
  |some (.map _ m)=>plain [] (.s (.int .i64 m.length))
  |_=>.fail "len: no map"
 |_,_=>.fail "len"
def aoD(P:Program)(t:TypeId)(x:AV):RM bw:=
 match P.underlying t,x with
 |some (.slice _),.s (.yi _ k)=>plain [] (.s (.n7 k))
 |some (.slice _),.vec id=>.look id fun
  |some (.vec c _)=>plain [] (.s (.l7 c.n))
  |_=>.fail "cap: no vec"
 |some (.slice _),.part id lo _=>.look id fun
  |some (.vec c _)=>plain [] (.s (.l7 (c.n - lo)))
  |_=>.fail "cap: no vec"
 |_,_=>.fail "cap"
def imax(a b:Int):Int:=if b>a then b else a
def oK(a b:Int):Int:=if b<a then b else a
def akM(mx:Bool)(x y:AV):RM bw:=
 match x.cY,y.cY with
 |some (k,lx,a),some (k',ly,b)=>bif bC k k' then
  (bif mx then plain [] (mkInt (lx&&ly) k (imax a b))else plain [] (mkInt (lx&&ly) k (oK a b)))else .fail "min: kinds"
 |_,_=>.fail "min"
def fZ(d:Int):Option AV→Option Int
 |none=>some d
 |some a=>(a.cY).map fun(_,_,n)=>n
def adU(P:Program)(e:TypeId)(c:aF)(id lo0 n:Nat)(lo hi mx:Option AV):RM bw:=
 match dj P e with
 |some sz=>bif sz.beq c.size then
  (match mx with
   |none=>(match fZ 0 lo,fZ n hi with
    |some l,some h=>plain [0≤l,l≤h,(lo0:Int)+h≤c.n] (.part id (lo0+l.toNat) (h.toNat - l.toNat))
    |_,_=>.fail "slice: bounds")
   |some m=>(match fZ 0 lo,hi.bind AV.cY,m.cY with
    |some l,some (_,_,h),some (_,_,m)=>plain [0≤l,l≤h,h≤m,(lo0:Int)+m≤c.n] (.s .aR)
    |_,_,_=>.fail "slice: three"))else .fail "slice: size"
 |none=>.fail "slice: element"
def ahl(P:Program)(t:TypeId)(x y:AV):RM bw:=
 match P.underlying t with
 |some (.slice e)=>
  match dj P e with
  |some sz=>bif (1:Nat).ble sz then
   wY (shapeOf P e) sz y fun d _=>bif d.size.beq sz then
    (match x with
     |.vec id=>.look id fun
      |some (.vec c e')=>bif c.size.beq sz then
       .ret ⟨[],[(id,.vec (cZ c 0 (min d.n c.n) d) e')],[],fun _=>.s (.int .i64 ((min d.n c.n:Nat):Int))⟩else .fail "copy: size"
      |_=>.fail "copy: no vec"
     |.part id lo n=>.look id fun
      |some (.vec c e')=>bif c.size.beq sz then
       .ret ⟨[],[(id,.vec (cZ c lo (min d.n n) d) e')],[],fun _=>.s (.int .i64 ((min d.n n:Nat):Int))⟩else .fail "copy: size"
      |_=>.fail "copy: no vec"
     |_=>.fail "copy: not own")else .fail "copy: another size"
   else .fail "copy: size"
  |none=>.fail "copy: element"
 |_=>.fail "copy: type"
def mw{k:IntKind}{m:Nat}(x:CL [.arr k m]):List Int:=x.1
def ahm{k:IntKind}{m:Nat}(ws:List Int):CL [.arr k m]:=(ws,())
def sR(x:AV)(k:IntKind→List Int→Prop→RM bw):RM bw:=
 match x with
 |.s (.str s)=>k .u8 (s.data.toList.map fun b=>(b.toNat:Int)) True
 |.sub id off n=>.look id fun
  |some (.own [.ints q m ws] _)=>k q ((ws.drop off).take n) (off+n≤m)
  |_=>.fail "copy: no numbers"
 |_=>.fail "copy: from what?"
def acw(P:Program)(t:TypeId)(x y:AV):RM bw:=
 match P.underlying t with
 |some (.slice e)=>
  match dj P e with
  |some sz=>bif sz.beq 1 then
   (match x with
    |.sub id off n=>sR y fun q zs p=>.look id fun
      |some (.own [.ints k m ws] e')=>bif bC q k then
       .ret ⟨[p,off+n≤m],[(id,.own [.ints k m (over ws off (min zs.length n) zs)] e')],[],fun _=>.s (.int .i64 ((min zs.length n:Nat):Int))⟩else .fail "copy: kind"
      |_=>.fail "copy: no array"
    |.j9 id i j n=>sR y fun q zs p=>.look id fun
      |some (.vec (.ae [.arr k m] xs) e')=>bif bC q k&&(1:Nat).ble m then
       .ret ⟨[p,(mw (xs.getD i (CL.d [.arr k m]))).length=m],[(id,.vec (.ae [.arr k m] (xs.set i (ahm (over (mw (xs.getD i (CL.d [.arr k m]))) j (min zs.length n) zs)))) e')],[],fun _=>.s (.int .i64 ((min zs.length n:Nat):Int))⟩else .fail "copy: kind"
      |_=>.fail "copy: no vec"
    |_=>.fail "copy: not an array")else .fail "copy: size"
  |none=>.fail "copy: element"
 |_=>.fail "copy: type"
def aqJ:AV→Bool
 |.sub _ _ _|.j9 _ _ _ _=>true
 |_=>false
def acx(P:Program)(t:TypeId)(x:AV):RM bw:=
 match P.underlying t,x with
 |some (.slice e),.part id lo n=>
  (match P.info? e with
   |some i=>bif (1:Nat).ble i.size&&i.zero.any (fun z=>fH (shapeOf P e) z.cells.toList&&z.cells.size==i.size)then
    .look id fun
    |some (.vec c e')=>bif c.size.beq i.size then
     .ret ⟨[],[(id,.vec (cZ c lo n (c7 (shapeOf P e) n)) e')],[],fun _=>.bh []⟩else .fail "clear: size"
    |_=>.fail "clear: no vec"
    else .fail "clear: zero"
   |none=>.fail "clear: element")
 |some (.map _ _),.ag id=>.look id fun
  |some (.map ck _)=>.ret ⟨[],[(id,.map ck [])],[],fun _=>.bh []⟩
  |_=>.fail "clear: no map"
 |_,_=>.fail "clear"
def oL(P:Program)(t:TypeId)(l c:AV):RM bw:=
 match P.underlying t,l.cY,c.cY with
 |some (.slice e),some (_,_,l),some (_,_,c)=>
  (match P.info? e with
   |some i=>bif (1:Nat).ble i.size&&i.bytes.ble 256&&i.zero.any (fun z=>fH (shapeOf P e) z.cells.toList&&z.cells.size==i.size)then
    .ret ⟨[0≤l,l≤c,c≤1073741824],[],[.vec (c7 (shapeOf P e) l.toNat) e],fun id=>.vec id⟩else .fail "makeSlice: zero"
   |none=>.fail "makeSlice: element")
 |_,_,_=>.fail "makeSlice"
def acy(P:Program)(t:TypeId)(x:AV)(lo hi mx:Option AV):RM bw:=
 match P.underlying t,x with
 |some .string,.s (.str s)=>
  (match fZ 0 lo,fZ s.size hi,mx with
   |some l,some h,none=>plain [0≤l,l≤h,h≤s.size] (.s (.str (s.extract l.toNat h.toNat)))
   |_,_,_=>.fail "slice: string")
 |some (.slice e),.emp=>(match dj P e,fZ 0 lo,fZ 0 hi,mx with
  |some _,some l,some h,none=>plain [l=0,h=0] .emp
  |_,_,_,_=>.fail "slice: emp")
 |some (.slice e),.s (.ro c)=>
  (match dj P e with
   |some sz=>bif sz.beq c.size then
    (match mx with
     |none=>(match fZ 0 lo,fZ c.n hi with
      |some l,some h=>plain [0≤l,l≤h,h≤c.n] (.s (.ro (de c l.toNat h.toNat)))
      |_,_=>.fail "slice: bounds")
     |some m=>(match fZ 0 lo,hi.bind AV.cY,m.cY with
      |some l,some (_,_,h),some (_,_,m)=>plain [l=0,h=0,m=0] .emp
      |_,_,_=>.fail "slice: three"))else .fail "slice: size"
   |none=>.fail "slice: element")
 |some (.slice e),.s (.yi c k)=>
  (match dj P e,mx with
   |some sz,none=>bif sz.beq c.size then
    (match lo,fZ c.n hi with
     |none,some h=>plain [0≤h,h≤c.n] (.s (.yi (de c 0 h.toNat) k))
     |some l,some h=>(match l.cY with
      |some (_,_,l)=>plain [0≤l,l≤h,h≤c.n] (.s (.ro (de c l.toNat h.toNat)))
      |none=>.fail "slice: bounds")
     |_,_=>.fail "slice: bounds")else .fail "slice: size"
   |_,_=>.fail "slice: element")
 |some (.slice e),.vec id=>.look id fun
  |some (.vec c _)=>adU P e c id 0 c.n lo hi mx
  |_=>.fail "slice: no vec"
 |some (.slice e),.part id lo0 n=>.look id fun
  |some (.vec c _)=>adU P e c id lo0 n lo hi mx
  |_=>.fail "slice: no vec"
 |some (.array n e),.ptr id off=>
  (match dj P e,fZ 0 lo,fZ n hi,mx with
   |some sz,some l,some h,none=>bif sz.beq 1 then plain [0≤l,l≤h,h≤n] (.sub id (off+l.toNat) (h.toNat - l.toNat))else .fail "slice: array"
   |_,_,_,_=>.fail "slice: array")
 |some (.array n e),.fT id i j=>
  (match dj P e,fZ 0 lo,fZ n hi,mx with
   |some sz,some l,some h,none=>.look id fun
    |some (.vec c _)=>bif sz.beq 1&&(j+n).ble c.size then plain [0≤l,l≤h,h≤n] (.j9 id i (j+l.toNat) (h.toNat - l.toNat))else .fail "slice: array"
    |_=>.fail "slice: no vec"
   |_,_,_,_=>.fail "slice: array")
 |_,_=>.fail "slice"
def aO(zs:List Int):ByteArray:=⟨(zs.map fun n=>UInt8.ofNat n.toNat).toArray⟩
def tw(P:Program)(src dst:TypeId)(x:AV):RM bw:=
 match P.underlying src,P.underlying dst with
 |some _,some (.int k)=>(match x.cY with
  |some (k',lit,n)=>bif lit then plain [] (.s (.aZ k (k.wrap n)))else bif n8 k&& !bC k' .u64 then plain [aD n] (.s (.int k n))else plain [] (.s (.int k (k.wrap n)))
  |none=>.fail "convert: no number")
 |some .string,some .string=>(match x with
  |.s (.str s)=>plain [] (.s (.str s))
  |_=>.fail "convert: no string")
 |some (.slice e),some .string=>(match kindOf P e with
  |some .u8=>(match x with
   |.sub id off n=>.look id fun
     |some (.own [.ints .u8 m ws] _)=>plain [off+n≤m] (.s (.str (aO ((ws.drop off).take n))))
     |_=>.fail "convert: no bytes"
   |_=>rowOf (.ints .u8) 1 x fun c _=>match c with
   |.ints .u8 zs=>plain [] (.s (.str (aO zs)))
   |_=>.fail "convert: no bytes")
  |_=>.fail "convert: no bytes")
 |_,_=>.fail "convert"
def bp(s:ByteArray):List Int:=s.data.toList.map fun b=>(b.toNat:Int)
def tx(P:Program)(src dst:TypeId)(x:AV):RM bw:=
 match P.underlying src,P.underlying dst,x with
 |some .string,some (.slice e),.s (.str s)=>(match kindOf P e with
  |some .u8=>plain [s.size≤4294967296] (.s (.ro (.ints .u8 (bp s))))
  |_=>.fail "convert: to bytes")
 |_,_,_=>.fail "convert: to bytes"
def akN(P:Program)(src dst:TypeId):Bool:=
 match P.underlying src,P.underlying dst with
 |some .string,some (.slice _)=>true
 |_,_=>false
def tz(P:Program)(t:TypeId)(x:AV):RM bw:=
 match P.underlying t,x with
 |some (.array n _),.s (.ro (.ints k zs))=>bif (1:Nat).ble n then plain [n≤zs.length] (.jh (.ae [.arr k n] [(zs.take n,())]) 0 0)else .fail "array: none"
 |_,_=>.fail "array of a slice"
def qO(x:AV):RM bw:=
 match x with
 |.ptr _ _|.jF _ _ _ _|.jh _ _ _|.fn _ _|.s (.kM _)=>plain [] x
 |_=>.fail "nilCheck"
def qP(fn:Fn)(first dY:List AV):RM bw:=
 match fn,first,dY with
 |.func f,[],[]=>plain [] (.s (.kM f))
 |.func f,[],c::cs=>plain [] (.fn f (c::cs))
 |_,_,_=>.fail "makeFunc"
def atz(P:Program)(t:TypeId):Option CK:=
 match P.underlying t with
 |some (.int k)=>some (.int k)
 |some .bool=>some .bool
 |some .string=>some .str
 |some (.array n e)=>match P.underlying e with
  |some (.int k)=>some (.arr k n)
  |_=>none
 |_=>none
def CK.plain:CK→Bool
 |.int _|.bool|.str|.arr _ _=>true
 |_=>false
def tA(P:Program)(t:TypeId)(ck:CK):Bool:=ck.plain&&
 match(P.info? t).bind (·.zero),ck with
 |some (.int k' 0),.int k=>bC k' k
 |some (.bool false),.bool=>true
 |some (.string s),.str=>s.size.beq 0
 |some (.agg cs),.arr k n=>mq k cs.toList&&cs.toList.length.beq n
 |_,_=>false
def CK.av:(c:CK)→c.V→AV
 |.int k,v=>.s (.int k v)
 |.bool,v=>.s (.bool v)
 |.str,v=>.s (.str v)
 |.arr k n,v=>.ints k n v
 |_,_=>.s .aR
def CK.rdv:(c:CK)→AV→Option c.V
 |.int k,a=>match a with
  |.s (.int k' x)|.s (.aZ k' x)=>bif bC k k' then some x else none
  |_=>none
 |.bool,a=>match a with
  |.s (.bool x)|.s (.aI x)=>some x
  |_=>none
 |.str,a=>match a with
  |.s (.str x)=>some x
  |_=>none
 |.arr k n,a=>match a with
  |.ints k' n' ws=>bif bC k k'&&n.beq n' then some ws else none
  |_=>none
 |_,_=>none
def adV(P:Program)(t:TypeId):Bool:=
 match P.underlying t with
 |some (.int .i64)=>true
 |_=>false
def yn(P:Program)(t:TypeId)(x i:AV)(ok:Bool):RM bw:=
 match P.underlying t,x,i.cY with
 |some (.map kt et),.ag id,some (k,_,n)=>bif adV P kt&&n8 k then
  .look id fun
  |some (.map ck m)=>bif tA P et ck then
   plain [] (bif ok then .bh [ck.av ((fD m n).getD ck.d),.s (.bool (oC m n))]else ck.av ((fD m n).getD ck.d))else .fail "lookup: elements"
  |_=>.fail "lookup: no map"
  else .fail "lookup: keys"
 |_,_,_=>.fail "lookup"
def oM(P:Program)(t:TypeId)(x i v:AV):RM bw:=
 match P.underlying t,x,i.cY with
 |some (.map kt _),.ag id,some (k,_,n)=>bif adV P kt&&n8 k then
  .look id fun
  |some (.map ck m)=>(match ck.rdv v with
   |some y=>.ret ⟨[],[(id,.map ck (mf m n y))],[],fun _=>.bh []⟩
   |none=>.fail "mapUpdate: elements")
  |_=>.fail "mapUpdate: no map"
  else .fail "mapUpdate: keys"
 |_,_,_=>.fail "mapUpdate"
def tB(P:Program)(t:TypeId)(r:Option AV):RM bw:=
 match P.underlying t,r with
 |some (.map _ et),none=>(match atz P et with
  |some ck=>.ret ⟨[],[],[.map ck []],fun id=>.ag id⟩
  |none=>.fail "makeMap: elements")
 |_,_=>.fail "makeMap"
def acz(x:AV):RM bw:=
 match x with
 |.ptr id 0=>.look id fun
  |some (.iter mid gid ck _ cur)=>.look mid fun
   |some (.wc _ _ aqK)=>bif gid.beq aqK&&ck.plain then(match cur with
    |some p=>plain [] (.bh [.s (.int .i64 p.1),ck.av p.2])
    |none=>.fail "entry: no step")else .fail "entry: another one"
   |_=>.fail "entry: no map"
  |_=>.fail "entry: no range"
 |_=>.fail "entry"
abbrev akO:=FuncId→List AV→RM bw
abbrev eU:=Nat→akO
def iy(P:Program)(f:FuncId):Bool:=
 match P.funcs[f]? with
 |some fn=>fn.body.isSome&& !(fn.name== "runtime.NumGoroutine")
 |none=>false
def aoE(P:Program)(f:FuncId):Prop:=
 ∃(fn:Func) (t e tR:TypeId) (size:Nat),P.funcs[f]? =some fn∧(fn.name== "runtime.NumGoroutine")=false∧fn.body.isNone=true∧Extern.findNext fn=none∧Extern.find fn=some (Extern.SlicesOverlaps.overlaps #[t,t] #[tR])∧
  P.underlying t=some (.slice e)∧dj P e=some size
def ownRow:AV→Option Nat
 |.vec id=>some id
 |.part id _ _=>some id
 |_=>none
def qQ(P:Program)(f:FuncId)(args:List AV):RM bw:=
 match args with
 |[x,y]=>match ownRow x,ownRow y with
  |some i,some j=>bif i.beq j then .fail "call: no Go body" else
   .look i fun o=>match o with
    |some (.vec c _)=>.look j fun o=>match o with
     |some (.vec d _)=>bif (1:Nat).ble c.size&&(1:Nat).ble d.size then plain [aoE P f] (.s (.aI false))else .fail "call: no Go body"
     |_=>.fail "call: no Go body"
    |_=>.fail "call: no Go body"
  |_,_=>.fail "call: no Go body"
 |_=>.fail "call: no Go body"
def adW(P:Program)(S:akO)(f:FuncId)(args:List AV):RM bw:=
 bif iy P f then S f args else qQ P f args
def yo(P:Program)(t:TypeId):Bool:=
 match P.underlying t with
 |some (.slice _)|some .string=>true
 |_=>false
def z7(P:Program)(b:Builtin)(ts:List TypeId)(args:List AV):RM bw:=
 match b,ts,args with
 |.len,t::_,[x]=>aoC P t x
 |.cap,t::_,[x]=>aoD P t x
 |.append,[t,t'],[x,y]=>bif yo P t' then ym P t x y else tv P t t' x y
 |.min,_,[x,y]=>akM false x y
 |.max,_,[x,y]=>akM true x y
 |.copy,[t,t'],[x,y]=>bif yo P t' then(bif aqJ x then acw P t x y else ahl P t x y)else .fail "copy: what?"
 |.clear,t::_,[x]=>acx P t x
 |_,_,_=>.fail "builtin"
def pB:BinOp→Bool
 |.eql=>true
 |_=>false
def aoF(P:Program)(op:BinOp)(t:TypeId)(x:AV):RM bw:=
 match op with
 |.eql|.neq=>
  match P.underlying t with
  |some (.slice _)=>
   match x with
   |.s (.ro c)=>plain [] (.s (.j8 c.n (pB op)))
   |.emp=>plain [] (.s (.j8 0 (pB op)))
   |.vec id=>.look id fun o=>match o with
    |some (.vec c _)=>plain [] (.s (.j8 c.n (pB op)))
    |_=>.fail "== nil: no row"
   |_=>.fail "== nil"
  |_=>.fail "== nil: the type"
 |_=>.fail "nil: what?"
def n9:AV→AV
 |.s .oE=>.emp
 |x=>x
def acA:AV→Bool
 |.s .oE=>true
 |_=>false
def aoG(P:Program)(t:TypeId)(x:AV):RM bw:=
 match P.underlying t,x with
 |some (.interface _),_=>.fail "interface: of an interface"
 |some _,.s (.int k n)=>plain [] (.s (.ifi t k n))
 |some _,.s (.aZ k n)=>plain [] (.s (.ifi t k n))
 |some _,.s (.str s)=>plain [] (.s (.ifs t s))
 |some _,.s (.bool b)=>plain [] (.s (.ifb t b))
 |some _,.s (.aI b)=>plain [] (.s (.ifb t b))
 |_,_=>.fail "interface: of what?"
def ahn(P:Program)(S:akO)(ev:Operand→AV)(o:Oper):RM bw:=
 match o.op with
 |.move x|.assign x=>plain [] (ev x)
 |.pick c a b=>oF "pick" (ahd (ev c) (ev a) (ev b))
 |.alloc t=>acu P t
 |.box t x=>aoA t (ev x)
 |.makeInterface t x=>aoG P t (ev x)
 |.build t ps=>acv P t (ps.toList.map fun p=>(p.1,ev p.2))
 |.buildSlice t n ps=>mu P t n (ps.toList.map fun p=>(p.1,ev p.2))
 |.load t a=>adS P t (ev a)
 |.store t a x=>acq P t (ev a) (ev x)
 |.nilCheck x=>qO (ev x)
 |.binOp op t x y _=>oF "binOp" (akK P op t (ev x) (ev y))
 |.unOp op _ x=>oF "unOp" (unR op (ev x))
 |.convert a b x=>bif akN P a b then tx P a b (ev x)else tw P a b (ev x)
 |.sliceToArrayPointer t x=>tz P t (ev x)
 |.entry x=>acz (ev x)
 |.makeFunc fn a b=>qP fn (a.toList.map ev) (b.toList.map ev)
 |.slice t x l h m=>acy P t (ev x) (l.map ev) (h.map ev) (m.map ev)
 |.fieldAddr t x f=>oG P t (ev x) f
 |.field t x f=>acs P t (ev x) f
 |.indexAddr t x i=>oH P t (ev x) (ev i)
 |.index t x i=>acr P t (ev x) (ev i)
 |.extract x i=>tu (ev x) i
 |.lookup t x i ok=>yn P t (ev x) (ev i) ok
 |.mapUpdate t x i v|.insert t x i v=>oM P t (ev x) (ev i) (ev v)
 |.makeMap t r=>tB P t (r.map ev)
 |.makeSlice t l c=>oL P t (ev l) (ev c)
 |.call c=>match c.callee with
  |.value f=>match ev f with
   |.s (.kM f)=>adW P S f (c.args.toList.map ev)
   |.fn f dY=>adW P S f (c.args.toList.map ev++dY)
   |_=>.fail "call: what?"
  |.builtin b=>z7 P b c.argTypes.toList (c.args.toList.map ev)
  |_=>.fail "call: invoke"
 |_=>.fail "op"
def aoH:AV→Bool
 |.s (.l7 _)|.s (.n7 _)=>true
 |_=>false
def yp(op:BinOp)(x y:AV):RM bw:=
 match op,x.cY,y with
 |.gtr,some (.i64,_,a),.s (.l7 b)=>plain [a≤(b:Int)] (.s (.aI false))
 |.gtr,some (.i64,_,a),.s (.n7 b)=>plain [(b:Int)≤a] (.s (.aI true))
 |_,_,_=>.fail "cap: compared"
def RM.afG{α:Type}(id:Nat):RM α→RM α
 |.ret a=>.ret a
 |.look j k=>bif j.beq id then(k (some .dead)).afG id else .look j fun o=>(k o).afG id
 |.fail w=>.fail w
def RM.lP(id:Nat):RM bw→RM bw
 |.ret q=>.ret {q with up:=(id,.dead)::q.up}
 |.look j k=>.look j fun o=>(k o).lP id
 |.fail w=>.fail w
def aho(id:Nat)(c:aF)(ev:Operand→AV):Operand→AV:=fun x=>match ev x with
 |.vec j=>bif j.beq id then .s (.ro c)else .vec j
 |a=>a
def giveUp:List Nat→(Operand→AV)→((Operand→AV)→RM bw)→RM bw
 |[],ev,k=>k ev
 |id::ids,ev,k=>.look id fun o=>match o with
  |some (.vec c _)=>((giveUp ids (aho id c ev) k).afG id).lP id
  |_=>.fail "give up: no row"
def ahp(ev:Operand→AV)(ps:List (Nat×Operand)):List Nat:=ps.filterMap fun p=>match ev p.2 with
 |.vec j=>some j
 |_=>none
def v7(P:Program)(S:akO)(ev:Operand→AV)(o:Oper):RM bw:=
 match o.op with
 |.binOp op t x y _=>bif acA (ev y)then aoF P op t (n9 (ev x))else bif aoH (ev y)then yp op (n9 (ev x)) (ev y)else oF "binOp" (akK P op t (n9 (ev x)) (ev y))
 |.buildSlice _ _ ps=>giveUp (ahp ev ps.toList) (fun x=>n9 (ev x)) fun ev=>ahn P S ev o
 |_=>ahn P S (fun x=>n9 (ev x)) o
end Go.Sx
namespace Go.Sx
open Go
def bq:List Prop→Prop
 |[]=>True
 |p::ps=>p∧bq ps
theorem aX{k k':IntKind}(h:bC k k'=true):k=k':=by
 cases k<;>cases k'<;>first|rfl|(simp[bC]at h)
theorem my{k:IntKind}(h:n8 k=true):k=.i64:=by
 cases k<;>first|rfl|(simp[n8]at h)
theorem bZ{n:Int}(h:aD n):IntKind.i64.wrap n=n:=by
 obtain⟨h1,h2⟩:=h
 rw[IntKind.wrap_i64]
 omega
section
variable{ρ:Nat→Value}{H:aH}{O:Nat→Prop}{w:World}{P:Program}
theorem aq{x:SV}{v:Value}(h:aL O w x v):ab ρ H O w (.s x) v:=by
 cases x<;>unfold ab<;>first|trivial|exact h
theorem ah{x:SV}{v:Value}(hx:x≠.aR)(h:ab ρ H O w (.s x) v):aL O w x v:=by
 cases x<;>unfold ab at h<;>first|exact(hx rfl).elim|exact h
theorem bN{x:AV}{v:Value}{k:IntKind}{l:Bool}{n:Int}(h:x.cY =some (k,l,n))(hd:ab ρ H O w x v):v=.int k n:=by
 cases x with
 |s x=>
  cases x<;>simp only[AV.cY,Option.some.injEq,Prod.mk.injEq,reduceCtorEq]at h
  all_goals
   obtain⟨rfl, -,rfl⟩:=h
   have:=ah (by simp) hd
   cases this
   rfl
 |_=>simp[AV.cY]at h
theorem jw{x:AV}{v:Value}{l b:Bool}(h:x.iN =some (l,b))(hd:ab ρ H O w x v):v=.bool b:=by
 cases x with
 |s x=>
  cases x<;>simp only[AV.iN,Option.some.injEq,Prod.mk.injEq,reduceCtorEq]at h
  all_goals
   obtain⟨-,rfl⟩:=h
   have:=ah (by simp) hd
   cases this
   rfl
 |_=>simp[AV.iN]at h
theorem eV{s:ByteArray}{v:Value}(hd:ab ρ H O w (.s (.str s)) v):v=.string s:=by
 have:=ah (by simp) hd
 cases this
 rfl
theorem ga(l:Bool)(k:IntKind)(n:Int):ab ρ H O w (mkInt l k n) (.int k n):=by
 unfold mkInt
 cases l
 ·exact aq (.int k n)
 ·exact aq (.aZ k n)
theorem oN(l:Bool)(b:Bool):ab ρ H O w (kA l b) (.bool b):=by
 unfold kA
 cases l
 ·exact aq (.bool b)
 ·exact aq (.aI b)
theorem kN{l:Bool}{k:IntKind}{n:Int}(h:bq (mo l k n).1):ab ρ H O w (mo l k n).2 (.int k (k.wrap n)):=by
 unfold mo at *
 cases l
 ·cases hk:n8 k
  ·exact aq (.int _ _)
  ·simp only[hk,cond_true,cond_false,bq,and_true]at h ⊢
   obtain rfl:=my hk
   rw[bZ h]
   exact aq (.int _ _)
 ·exact aq (.aZ _ _)
theorem gb(op:BinOp)(t:TypeId)(x y:Operand)(k k':IntKind)(a b:Int):(eqGuard op t x y (.int k a) (.int k' b)).run P w=.ok () w:=by
 cases op<;>simp[eqGuard]
theorem z8(op:BinOp)(t:TypeId)(x y:Operand)(a b:ByteArray):(eqGuard op t x y (.string a) (.string b)).run P w=.ok () w:=by
 cases op<;>simp[eqGuard]
theorem yq(op:BinOp)(t:TypeId)(x y:Operand)(a b:Bool):(eqGuard op t x y (.bool a) (.bool b)).run P w=.ok () w:=by
 cases op<;>simp[eqGuard]
theorem mz(op:BinOp)(t:TypeId)(x y:Operand)(a b:Option Addr):(eqGuard op t x y (.pointer a) (.pointer b)).run P w=.ok () w:=by
 cases op<;>simp[eqGuard]
theorem akP{l:Bool}{k:IntKind}{x y:Int}{q:List Prop×AV}
 (h:(bif l then([y≠0],AV.s (.aZ k (k.wrap (x.tdiv y))))else bif n8 k then([y≠0,aD (x.tdiv y)],.s (.int k (x.tdiv y)))else([y≠0],.s (.int k (k.wrap (x.tdiv y)))))=q)
 (hn:bq q.1):y≠0∧ab ρ H O w q.2 (.int k (k.wrap (x.tdiv y))):=by
 subst h
 cases l
 ·cases hk:n8 k
  ·simp only[hk,cond_false,bq,and_true]at hn ⊢
   exact⟨hn,aq (.int _ _)⟩
  ·simp only[hk,cond_true,cond_false,bq,and_true]at hn ⊢
   obtain rfl:=my hk
   rw[bZ hn.2]
   exact⟨hn.1,aq (.int _ _)⟩
 ·simp only[cond_true,bq,and_true]at hn ⊢
  exact⟨hn,aq (.aZ _ _)⟩
theorem qR{op:BinOp}{t:TypeId}{k:IntKind}{lx ly:Bool}{x y:Int}{q:List Prop×AV}(h:tq op k lx ly x y=some q)(hn:bq q.1):
 ∃v,(binOp op t (.int k x) (.int k y)).run P w=.ok v w∧ab ρ H O w q.2 v:=by
 cases op<;>simp only[tq,Option.some.injEq,reduceCtorEq]at h
 case add=>subst h;exact⟨_,by simp[binOp,Op.intArith],kN hn⟩
 case sub=>subst h;exact⟨_,by simp[binOp,Op.intArith],kN hn⟩
 case mul=>subst h;exact⟨_,by simp[binOp,Op.intArith],kN hn⟩
 case quo=>
  obtain⟨h0,hd⟩:=akP (ρ:=ρ) (H:=H) (O:=O) (w:=w) h hn
  exact⟨_,by simp[binOp,Op.intDiv,h0],hd⟩
 case rem=>
  subst h
  have h0:y≠0:=by simpa[bq]using hn
  exact⟨_,by simp[binOp,Op.intDiv,h0],ga _ _ _⟩
 case and=>subst h;exact⟨.int k (bH .and k x y),by simp[binOp,Op.intBits,bH],ga _ _ _⟩
 case or=>subst h;exact⟨.int k (bH .or k x y),by simp[binOp,Op.intBits,bH],ga _ _ _⟩
 case xor=>subst h;exact⟨.int k (bH .xor k x y),by simp[binOp,Op.intBits,bH],ga _ _ _⟩
 case andNot=>subst h;exact⟨.int k (bH .andNot k x y),by simp[binOp,Op.intBits,bH],ga _ _ _⟩
 all_goals subst h;exact⟨_,by simp[binOp,Op.intCmp],oN _ _⟩
theorem wZ{op:BinOp}{t:TypeId}{k k':IntKind}{l:Bool}{x y:Int}{q:List Prop×AV}(h:ach op k l x y=some q)(hn:bq q.1):
 ∃v,(binOp op t (.int k x) (.int k' y)).run P w=.ok v w∧ab ρ H O w q.2 v:=by
 cases op<;>simp only[ach,Option.some.injEq,reduceCtorEq]at h
 all_goals
  subst h
  have h0:0≤y:=by simpa[bq]using hn
  exact⟨_,by simp[binOp,Op.shift,Int.not_lt.2 h0],ga _ _ _⟩
theorem acB(a b:ByteArray):(a.toList==b.toList)=decide (a=b):=by
 rw[ByteArray.toList_eq,ByteArray.toList_eq,Bool.eq_iff_iff]
 simp only[beq_iff_eq,decide_eq_true_eq]
 constructor
 ·intro h
  cases a;cases b
  simp only[ByteArray.mk.injEq]at *
  exact Array.toList_inj.1 h
 ·rintro rfl;rfl
theorem afH{op:BinOp}{t:TypeId}{x y:ByteArray}{q:List Prop×AV}(h:aci op x y=some q)(hn:bq q.1):
 ∃v,(binOp op t (.string x) (.string y)).run P w=.ok v w∧ab ρ H O w q.2 v:=by
 cases op<;>simp only[aci,Option.some.injEq,reduceCtorEq]at h
 case add=>
  subst h
  have h0:x.size+y.size≤4611686018427387904:=by simpa[bq]using hn
  exact⟨.string (x++y),by simp[binOp,Op.stringOp];omega,aq (.str _)⟩
 all_goals subst h;exact⟨_,by simp only[binOp,Op.stringOp,acB];rfl,by first|exact aq (.bool _)|(simp only[slt,ByteArray.toList_eq];exact aq (.bool _))⟩
theorem aoI{op:UnOp}{x:AV}{vx:Value}{q:List Prop×AV}(h:unR op x=some q)(hn:bq q.1)(hx:ab ρ H O w x vx):
 ∃v,(Op.unary op vx).run P w=.ok v w∧ab ρ H O w q.2 v:=by
 unfold unR at h
 split at h<;>simp only[Option.some.injEq,reduceCtorEq]at h<;>subst h
 ·have h1:=ah (by simp) hx
  cases h1
  exact⟨_,by simp only[Op.unary,Sem.run_pure],aq (.bool _)⟩
 ·have h1:=ah (by simp) hx
  cases h1
  exact⟨_,by simp only[Op.unary,Sem.run_pure],aq (.aI _)⟩
 ·have h1:=ah (by simp) hx
  cases h1
  exact⟨_,by simp only[Op.unary,Op.intArith,Sem.run_pure],kN hn⟩
 ·have h1:=ah (by simp) hx
  cases h1
  exact⟨_,by simp only[Op.unary,Op.intArith,Sem.run_pure],kN hn⟩
theorem ahq{c a b:AV}{vc va vb:Value}{q:List Prop×AV}(h:ahd c a b=some q)(hc:ab ρ H O w c vc)(ha:ab ρ H O w a va)(hb:ab ρ H O w b vb):
 ∃t,vc=.bool t∧ab ρ H O w q.2 (if t then va else vb):=by
 unfold ahd at h
 split at h
 ·simp only[Option.some.injEq]at h
  subst h
  have h1:=ah (by simp) hc
  cases h1
  exact⟨true,rfl,ha⟩
 ·simp only[Option.some.injEq]at h
  subst h
  have h1:=ah (by simp) hc
  cases h1
  exact⟨false,rfl,hb⟩
 ·rename_i t
  have h1:=ah (by simp) hc
  cases h1
  refine⟨t,rfl, ?_⟩
  split at h
  ·rename_i la x lb y h2 h3
   simp only[Option.some.injEq]at h
   subst h
   obtain rfl:=jw h2 ha
   obtain rfl:=jw h3 hb
   cases t
   ·exact aq (.bool _)
   ·exact aq (.bool _)
  ·split at h
   ·rename_i k la x k' lb y h2 h3
    rw[Bool.cond_eq_ite]at h
    split at h
    ·rename_i hk
     obtain rfl:=aX hk
     simp only[Option.some.injEq]at h
     subst h
     obtain rfl:=bN h2 ha
     obtain rfl:=bN h3 hb
     cases t
     ·exact aq (.int _ _)
     ·exact aq (.int _ _)
    ·cases h
   ·cases h
 ·cases h
end
end Go.Sx
namespace Go.Sx
open Go
def yr(fr:Nat×Nat)(cells:List Value):Prop:=(∀off,off≤cells.length→¬(fr.1≤off∧off<fr.2))∧∀u∈cells,u.oneCell'=true
def unm(fr:Nat×Nat)(n:Nat):Prop:=∀off,off<n→¬(fr.1≤off∧off<fr.2)
theorem yr.unm{fr:Nat×Nat}{cells:List Value}(h:yr fr cells):unm fr cells.length:=fun off ho=>h.1 off (Nat.le_of_lt ho)
theorem yr.over{fr:Nat×Nat}{cells news:List Value}{k:Nat}(h:yr fr cells)(hn:∀v∈news,v.oneCell'=true)(hl:k+news.length≤cells.length):yr fr (cells.take k++news++cells.drop (k+news.length)):=by
 refine⟨fun off ho=>h.1 off ?_,fun u hu=> ?_⟩
 ·simp only[List.length_append,List.length_take,List.length_drop]at ho;omega
 ·simp only[List.mem_append]at hu
  rcases hu with(hu|hu)|hu
  ·exact h.2 u (List.mem_of_mem_take hu)
  ·exact hn u hu
  ·exact h.2 u (List.mem_of_mem_drop hu)
def CK.val:(c:CK)→c.V→Value
 |.int k,v=>.int k v
 |.bool,v=>.bool v
 |.str,v=>.string v
 |.arr k _,v=>.agg (List.map (α:=Int) (Value.int k) v).toArray
 |_,_=>undef
def CK.fits:(c:CK)→c.V→Prop
 |.arr _ n,v=>List.length (α:=Int) v=n
 |_,_=>True
structure iz (ck:CK) (m:List (Int×ck.V)) (es:List MapEntry) (clock:Nat):Prop where
 eq:es.map (fun e=>(e.key,e.val))=m.map (fun p=>(Value.int .i64 p.1,ck.val p.2))
 keys:(m.map (·.1)).Nodup
 w4:(es.map (·.born)).Nodup
 old:∀e∈es,e.born<clock
 fits:∀p∈m,ck.fits p.2
def afI(es:Array MapEntry)(clock:Nat):Value:=.tuple #[.int .i64 clock,.tuple (es.map fun e=>.tuple #[e.key,e.val,.int .i64 (e.born:Int)])]
structure tC (ck:CK) (left:List (Int×ck.V)) (cur:Option (Int×ck.V)) (es:Array MapEntry) (clock:Nat) (seen:Array Nat):Prop where
 eq:(es.toList.filter fun e=> !seen.contains e.born).map (fun e=>(e.key,e.val))=left.map (fun p=>(.int .i64 p.1,ck.val p.2))
 fits:∀p∈left,ck.fits p.2
 w4:(es.toList.map (·.born)).Nodup
 old:∀e∈es.toList,e.born<clock
 cur:∀p,cur=some p→ck.fits p.2∧∃e,e∈es.toList∧seen.back? =some e.born∧e.key=.int .i64 p.1∧e.val=ck.val p.2
def gZ(ρ:Nat→Value)(H:aH)(O:Nat→Prop)(w:World)(root:Value):ad→Prop
 |.dead=>True
 |.map ck m=>∃(b:Nat) (es:Array MapEntry) (clock:Nat),root=.map (some b)∧w.heap[b]? =some (.map es clock)∧iz ck m es.toList clock
 |.wc ck m gid=>∃(b:Nat) (es:Array MapEntry) (clock:Nat),root=.map (some b)∧w.heap[b]? =some (.map es clock)∧iz ck m es.toList clock∧ρ gid=afI es clock∧(H gid).isSome=true
 |.iter mid gid ck left cur=>∃(b mb:Nat) (es:Array MapEntry) (clock:Nat) (seen:Array Nat),root=.pointer (some ⟨b,0,none⟩)∧w.heap[b]? =some (.mapIter (some mb) clock seen clock)∧tC ck left cur es clock seen∧
  ρ gid=afI es clock∧(H gid).isSome=true∧ρ mid=.map (some mb)∧(H mid).isSome=true
 |.own ak e=>∃(b:Nat) (cells:List Value) (fr:Nat×Nat),root=.pointer (some ⟨b,0,none⟩)∧w.heap[b]? =some (.cells cells.toArray e fr)∧unm fr cells.length∧an ρ H O w ak cells
 |.vec c e=>∃(a:Option Addr) (cap:Nat),root=.slice a c.n cap∧c.n≤cap∧cap≤maxLen∧(cap=0∨
  ∃(b o:Nat) (cells:List Value) (fr:Nat×Nat) (us:Nat→Nat→Value),a=some ⟨b,o,none⟩∧w.heap[b]? =some (.cells cells.toArray e fr)∧yr fr cells∧o+cap*c.size≤cells.length∧
   ∀i j,i<c.n→j<c.size→cells[o+i*c.size+j]? =some (us i j)∧aL O w (c.cell i j) (us i j))
structure Sat (ρ:Nat→Value) (H:aH) (G:Nat→Prop) (w:World):Prop where
 obj:∀id o,H id=some o→gZ ρ H (aM ρ H G) w (ρ id) o
 inj:∀i j oi oj b,H i=some oi→H j=some oj→oi.alive=true→oj.alive=true→dW (ρ i)=some b→dW (ρ j)=some b→i=j
 apart:∀b,Own ρ H b→¬G b
 low:∀b,G b→b<w.heap.size
structure Frm (ρ:Nat→Value) (H:aH) (w w':World):Prop where
 os:w'.os=w.os
 tape:w'.tape=w.tape
 output:w'.output=w.output
 heap:∀b,b<w.heap.size→¬Own ρ H b→w'.heap[b]? =w.heap[b]?
def Good(ρ:Nat→Value)(H:aH)(G:Nat→Prop)(w:World)(H':aH)(r:AV)(v:Value)(w':World):Prop:=
 ∃az,Sat az H' G w'∧ab az H' (aM az H' G) w' r v∧Step ρ H (aM ρ H G) w az H' (aM az H' G) w'∧Frm ρ H w w'
section
variable{ρ az:Nat→Value}{H H':aH}{G O O':Nat→Prop}{w w':World}{P:Program}
theorem gZ.step(st:Step ρ H O w az H' O' w'){root:Value}{o:ad}(h:gZ ρ H O w root o)(hb:∀b,o.alive=true→dW root=some b→w'.heap[b]? =w.heap[b]?):
 gZ az H' O' w' root o:=by
 cases o with
 |dead=>trivial
 |map ck m=>
  obtain⟨b,es,clock,rfl,h1,h2⟩:=h
  exact⟨b,es,clock,rfl,by rw[hb b rfl rfl];exact h1,h2⟩
 |wc ck m gid=>
  obtain⟨b,es,clock,rfl,h1,h2,h3,h4⟩:=h
  obtain⟨o,ho⟩:=Option.isSome_iff_exists.1 h4
  obtain⟨o',cP,_⟩:=st.eH gid o ho
  exact⟨b,es,clock,rfl,by rw[hb b rfl rfl];exact h1,h2,by rw[st.wW gid o ho];exact h3,by rw[cP];rfl⟩
 |iter mid gid ck left cur=>
  obtain⟨b,mb,es,clock,seen,rfl,h1,h2,h3,h4,h5,h6⟩:=h
  obtain⟨o,ho⟩:=Option.isSome_iff_exists.1 h4
  obtain⟨o',cP,_⟩:=st.eH gid o ho
  obtain⟨p,hp⟩:=Option.isSome_iff_exists.1 h6
  obtain⟨p',wg,_⟩:=st.eH mid p hp
  exact⟨b,mb,es,clock,seen,rfl,by rw[hb b rfl rfl];exact h1,h2,by rw[st.wW gid o ho];exact h3,by rw[cP];rfl,by rw[st.wW mid p hp];exact h5,by rw[wg];rfl⟩
 |own ak e=>
  obtain⟨b,cells,fr,rfl,h1,h2,h3⟩:=h
  exact⟨b,cells,fr,rfl,by rw[hb b rfl rfl];exact h1,h2,h3.step st⟩
 |vec c e=>
  obtain⟨a,cap,rfl,h1,h2,h3⟩:=h
  refine⟨a,cap,rfl,h1,h2, ?_⟩
  rcases h3 with h3|⟨b,o,cells,fr,us,rfl,h4,h5,h6,h7⟩
  ·exact .inl h3
  ·by_cases hc:cap=0
   ·exact .inl hc
   ·refine .inr ⟨b,o,cells,fr,us,rfl,by rw[hb b rfl (by simp[dW,hc])];exact h4,h5,h6,fun i j hi hj=> ?_⟩
    obtain⟨h8,h9⟩:=h7 i j hi hj
    exact⟨h8,h9.step st.fE st.heap st.size⟩
theorem Good.val(hs:Sat ρ H G w){r:AV}{v:Value}(h:ab ρ H (aM ρ H G) w r v):Good ρ H G w H r v w:=
 ⟨ρ,hs,h,Step.refl _ _ _ _,rfl,rfl,rfl,fun _ _ _=>rfl⟩
theorem gx(hs:Sat ρ H G w){b:Nat}(h:Own ρ H b):b<w.heap.size:=by
 obtain⟨id,o,ho,ha,hb⟩:=h
 have dL:=hs.obj id o ho
 cases o with
 |dead=>simp[ad.alive]at ha
 |map ck m=>
  obtain⟨b',es,clock,h0,h1,_⟩:=dL
  rw[h0]at hb
  simp only[dW,Option.some.injEq]at hb
  subst hb
  exact(Array.getElem?_eq_some_iff.1 h1).1
 |wc ck m gid=>
  obtain⟨b',es,clock,h0,h1,_⟩:=dL
  rw[h0]at hb
  simp only[dW,Option.some.injEq]at hb
  subst hb
  exact(Array.getElem?_eq_some_iff.1 h1).1
 |iter mid gid ck left cur=>
  obtain⟨b',mb,es,clock,seen,h0,h1,_⟩:=dL
  rw[h0]at hb
  simp only[dW,Option.some.injEq]at hb
  subst hb
  exact(Array.getElem?_eq_some_iff.1 h1).1
 |own ak e=>
  obtain⟨b',cells,fr,h0,h1,_⟩:=dL
  rw[h0]at hb
  simp only[dW,Option.some.injEq]at hb
  subst hb
  exact(Array.getElem?_eq_some_iff.1 h1).1
 |vec c e=>
  obtain⟨a,cap,h0,h1,_,h3⟩:=dL
  rw[h0]at hb
  rcases h3 with rfl|⟨b',o,cells,fr,us,rfl,h4,_⟩
  ·cases a<;>simp[dW]at hb
  ·simp only[dW]at hb
   split at hb
   ·cases hb
   ·simp only[Option.some.injEq]at hb
    subst hb
    exact(Array.getElem?_eq_some_iff.1 h4).1
theorem yt(hs:Sat ρ H G w){b:Nat}(h:aM ρ H G b):b<w.heap.size:=h.elim (gx hs) (hs.low b)
theorem qS:∀(x:AV) (cs:List Value),aC ρ H O w x cs→cs.length=x.wide:=by
 intro x cs h
 cases x<;>unfold aC at h
 case ints k n ws=>obtain⟨h1,rfl⟩:=h;simp[AV.wide,h1]
 case agg=>exact h.elim
 case bh=>exact h.elim
 all_goals (obtain⟨u,rfl,_⟩:=h;rfl)
theorem ao{cs:List Value}:an ρ H O w [] cs↔cs=[]:=by unfold an;exact Iff.rfl
theorem af{a:AV}{aA:List AV}{cs:List Value}:an ρ H O w (a::aA) cs↔ ∃c1 c2,cs=c1++c2∧aC ρ H O w a c1∧an ρ H O w aA c2:=by
 rw[an]
theorem aV{cs:List Value}:bx ρ H O w [] cs↔cs=[]:=by unfold bx;exact Iff.rfl
theorem au{a:AV}{aA:List AV}{cs:List Value}:bx ρ H O w (a::aA) cs↔ ∃v rest,cs=v::rest∧ab ρ H O w a v∧bx ρ H O w aA rest:=by
 rw[bx]
theorem eY{aA bs:List AV}:∀{cs:List Value},an ρ H O w (aA++bs) cs↔ ∃c1 c2,cs=c1++c2∧an ρ H O w aA c1∧an ρ H O w bs c2:=by
 induction aA with
 |nil=>
  intro cs
  simp only[List.nil_append,ao]
  exact⟨fun h=>⟨[],cs,rfl,rfl,h⟩,fun⟨c1,c2,h1,h2,h3⟩=>by subst h2;subst h1;exact h3⟩
 |cons a aA ih=>
  intro cs
  simp only[List.cons_append,af,ih]
  constructor
  ·rintro⟨c1,c2,rfl,h1,c3,c4,rfl,h2,h3⟩
   exact⟨c1++c3,c4,by simp,⟨c1,c3,rfl,h1,h2⟩,h3⟩
  ·rintro⟨c1,c2,rfl,⟨c3,c4,rfl,h1,h2⟩,h3⟩
   exact⟨c3,c4++c2,by simp,h1,c4,c2,rfl,h2,h3⟩
theorem iA:∀{aA:List AV} {cs:List Value},an ρ H O w aA cs→cs.length=fA aA
 |[],cs,h=>by rw[ao.1 h];rfl
 |a::aA,cs,h=>by
  obtain⟨c1,c2,rfl,h1,h2⟩:=af.1 h
  simp[fA,qS a c1 h1,iA h2]
theorem eZ:∀(ak:List AV) (n:Nat) {cs:List Value} {ss:List AV},eW ak n=some ss→an ρ H O w ak cs→n≤cs.length∧an ρ H O w ss (cs.drop n)
 |ak,0,cs,ss,h,hd=>by
  cases ak<;>(simp only[eW,Option.some.injEq]at h;subst h;exact⟨Nat.zero_le _,by simpa using hd⟩)
 |[],n+1,cs,ss,h,hd=>by simp[eW]at h
 |a::aA,n+1,cs,ss,h,hd=>by
  obtain⟨c1,c2,rfl,h1,h2⟩:=af.1 hd
  simp only[eW,Bool.cond_eq_ite]at h
  split at h
  ·rename_i hw
   have hw:=Nat.le_of_ble_eq_true hw
   obtain⟨h3,h4⟩:=eZ aA _ h h2
   have hl:=qS a c1 h1
   refine⟨by simp;omega, ?_⟩
   rw[List.drop_append]
   have e1:c1.drop (n+1)=[]:=List.drop_eq_nil_of_le (by omega)
   rw[e1,List.nil_append,hl]
   exact h4
  ·cases h
theorem e8:∀(ak:List AV) (n:Nat) {cs:List Value} {ss:List AV},eX ak n=some ss→an ρ H O w ak cs→n≤cs.length∧an ρ H O w ss (cs.take n)
 |ak,0,cs,ss,h,hd=>by
  cases ak<;>(simp only[eX,Option.some.injEq]at h;subst h;exact⟨Nat.zero_le _,by simp[ao]⟩)
 |[],n+1,cs,ss,h,hd=>by simp[eX]at h
 |a::aA,n+1,cs,ss,h,hd=>by
  obtain⟨c1,c2,rfl,h1,h2⟩:=af.1 hd
  simp only[eX,Bool.cond_eq_ite]at h
  split at h
  ·rename_i hw
   simp only[Bool.and_eq_true]at hw
   have hw1:=Nat.le_of_ble_eq_true hw.1
   have hw2:=Nat.le_of_ble_eq_true hw.2
   simp only[Option.map_eq_some_iff]at h
   obtain⟨ss',h3,rfl⟩:=h
   obtain⟨h4,h5⟩:=e8 aA _ h3 h2
   have hl:=qS a c1 h1
   refine⟨by simp;omega,af.2 ⟨c1,c2.take (n+1 - a.wide), ?_,h1,h5⟩⟩
   rw[List.take_append,hl,List.take_of_length_le (by omega)]
  ·cases h
theorem e9{a:AV}{cs:List Value}(h:aC ρ H O w a cs)(ha:a.wide=1)(hi:∀k n ws,a≠.ints k n ws):∃u,cs=[u]∧u.oneCell'=true∧ab ρ H O w a u:=by
 cases a<;>unfold aC at h
 case ints k n ws=>exact(hi k n ws rfl).elim
 case agg=>exact h.elim
 case bh=>exact h.elim
 case ag id=>obtain⟨u,rfl,h1⟩:=h;exact⟨u,rfl,by unfold ay at h1;obtain⟨b,_,rfl,_⟩:=h1;rfl,by unfold ab;exact h1⟩
 case tag id=>obtain⟨u,rfl,h1⟩:=h;exact⟨u,rfl,by unfold ay at h1;exact h1.2.1,by unfold ab;exact h1⟩
 case s x=>obtain⟨u,rfl,h1⟩:=h;exact⟨u,rfl,h1.one,aq h1⟩
 case ptr id off=>obtain⟨u,rfl,h1⟩:=h;exact⟨u,rfl,by unfold ay at h1;obtain⟨b,_,rfl,_⟩:=h1;rfl,by unfold ab;exact h1⟩
 case jF id off n i=>obtain⟨u,rfl,h1⟩:=h;exact⟨u,rfl,by unfold ay at h1;obtain⟨_,b,_,rfl,_⟩:=h1;rfl,by unfold ab;exact h1⟩
 case jh c m j=>obtain⟨u,rfl,h1⟩:=h;exact⟨u,rfl,by unfold ay at h1;obtain⟨b,o,us,rfl,_⟩:=h1;rfl,by unfold ab;exact h1⟩
 case vec id=>obtain⟨u,rfl,h1⟩:=h;exact⟨u,rfl,by unfold ay at h1;exact h1.1,by unfold ab;exact h1⟩
 case fT id i j=>obtain⟨u,rfl,h1⟩:=h;exact⟨u,rfl,by unfold ay at h1;exact h1.1,by unfold ab;exact h1⟩
 case part id lo n=>obtain⟨u,rfl,h1⟩:=h;exact⟨u,rfl,by unfold ay at h1;exact h1.1,by unfold ab;exact h1⟩
 case sub id off n=>obtain⟨u,rfl,h1⟩:=h;exact⟨u,rfl,by unfold ay at h1;exact h1.1,by unfold ab;exact h1⟩
 case j9 id i j n=>obtain⟨u,rfl,h1⟩:=h;exact⟨u,rfl,by unfold ay at h1;exact h1.1,by unfold ab;exact h1⟩
 case emp=>obtain⟨u,rfl,a,rfl⟩:=h;exact⟨_,rfl,rfl,by unfold ab;exact⟨a,rfl⟩⟩
 case fn f dY=>obtain⟨u,rfl,vs,rfl,h1⟩:=h;exact⟨_,rfl,rfl,by unfold ab;exact⟨vs,rfl,h1⟩⟩
theorem jH{a:AV}{u:Value}(ha:a.single=true)(h:ab ρ H O w a u):aC ρ H O w a [u]∧u.oneCell'=true:=by
 cases a<;>simp only[AV.single,reduceCtorEq]at ha
 case s x=>
  have h1:aL O w x u:=ah (by rintro rfl;simp at ha) h
  exact⟨by unfold aC;exact⟨u,rfl,h1⟩,h1.one⟩
 case ptr id off=>unfold ab at h;exact⟨by unfold aC;exact⟨u,rfl,h⟩,by unfold ay at h;obtain⟨b,_,rfl,_⟩:=h;rfl⟩
 case jF id off n i=>unfold ab at h;exact⟨by unfold aC;exact⟨u,rfl,h⟩,by unfold ay at h;obtain⟨_,b,_,rfl,_⟩:=h;rfl⟩
 case jh c m j=>unfold ab at h;exact⟨by unfold aC;exact⟨u,rfl,h⟩,by unfold ay at h;obtain⟨b,o,us,rfl,_⟩:=h;rfl⟩
 case vec id=>unfold ab at h;exact⟨by unfold aC;exact⟨u,rfl,h⟩,by unfold ay at h;exact h.1⟩
 case fT id i j=>unfold ab at h;exact⟨by unfold aC;exact⟨u,rfl,h⟩,by unfold ay at h;exact h.1⟩
 case part id lo n=>unfold ab at h;exact⟨by unfold aC;exact⟨u,rfl,h⟩,by unfold ay at h;exact h.1⟩
 case sub id off n=>unfold ab at h;exact⟨by unfold aC;exact⟨u,rfl,h⟩,by unfold ay at h;exact h.1⟩
 case j9 id i j n=>unfold ab at h;exact⟨by unfold aC;exact⟨u,rfl,h⟩,by unfold ay at h;exact h.1⟩
 case emp=>unfold ab at h;exact⟨by unfold aC;exact⟨u,rfl,h⟩,by obtain⟨a,rfl⟩:=h;rfl⟩
 case fn f dY=>unfold ab at h;exact⟨by unfold aC;exact⟨u,rfl,h⟩,by obtain⟨vs,rfl,_⟩:=h;rfl⟩
 case ag id=>unfold ab at h;exact⟨by unfold aC;exact⟨u,rfl,h⟩,by unfold ay at h;obtain⟨b,_,rfl,_⟩:=h;rfl⟩
 case tag id=>unfold ab at h;exact⟨by unfold aC;exact⟨u,rfl,h⟩,by unfold ay at h;exact h.2.1⟩
theorem fU{a:AV}(h:∀k n ws,a≠.ints k n ws):a.wide=1:=by
 cases a<;>first|rfl|(exact(h _ _ _ rfl).elim)
end
end Go.Sx
namespace Go.Sx
open Go
section
variable{ρ az:Nat→Value}{H H':aH}{G O O':Nat→Prop}{w w':World}{P:Program}
theorem yu{a:AV}(h:∀k n ws,a≠.ints k n ws)(aA:List AV)(off:Nat):cellAt (a::aA) off=match off with|0=>some a|m+1=>cellAt aA m:=by
 cases a<;>first|(cases off<;>rfl)|(exact(h _ _ _ rfl).elim)
theorem sF{a:AV}(h:∀k n ws,a≠.ints k n ws)(aA:List AV)(off:Nat)(v:AV):fY (a::aA) off v=match off with|0=>some (v::aA)|m+1=>(fY aA m v).map (a:: ·):=by
 cases a<;>first|(cases off<;>rfl)|(exact(h _ _ _ rfl).elim)
theorem pC{a:AV}(h:∀k n ws,a≠.ints k n ws)(aA:List AV)(off:Nat):iP (a::aA) off=match off with|0=>none|m+1=>iP aA m:=by
 cases a<;>first|(cases off<;>rfl)|(exact(h _ _ _ rfl).elim)
theorem tD{a:AV}(h:∀k n ws,a≠.ints k n ws)(aA:List AV)(off:Nat)(v:List Int):jG (a::aA) off v=match off with|0=>none|m+1=>(jG aA m v).map (a:: ·):=by
 cases a<;>first|(cases off<;>rfl)|(exact(h _ _ _ rfl).elim)
theorem qT(a:AV):(∃k n ws,a=.ints k n ws)∨∀k n ws,a≠.ints k n ws:=by
 cases a<;>first|(exact .inl ⟨_,_,_,rfl⟩)|(exact .inr (by simp))
theorem ct{k:IntKind}{n:Nat}{ws:List Int}{cs:List Value}:aC ρ H O w (.ints k n ws) cs↔ws.length=n∧cs=ws.map (Value.int k):=by
 unfold aC;exact Iff.rfl
theorem kO:∀(ak:List AV) (off:Nat) {cs:List Value} {v:AV},cellAt ak off=some v→an ρ H O w ak cs→∃u,cs[off]? =some u∧u.oneCell'=true∧ab ρ H O w v u
 |[],off,cs,v,h,_=>by simp[cellAt]at h
 |a::aA,off,cs,v,h,hd=>by
  obtain⟨c1,c2,rfl,h1,h2⟩:=af.1 hd
  rcases qT a with⟨k,n,ws,rfl⟩|ha
  ·obtain⟨hl,rfl⟩:=ct.1 h1
   simp only[cellAt,Bool.cond_eq_ite]at h
   split at h
   ·rename_i bc
    have bc:off<n:=by simpa[Nat.blt,Nat.lt_iff_add_one_le]using bc
    simp only[Option.some.injEq]at h
    subst h
    have hx:off<ws.length:=by omega
    exact⟨.int k ws[off],by rw[List.getElem?_append_left (by simpa using hx)];simp[hx],rfl,by rw[show ws.getD off 0=ws[off]from by simp[List.getD,hx]];exact aq (.int _ _)⟩
   ·rename_i bc
    have bc:¬off<n:=by simpa[Nat.blt,Nat.lt_iff_add_one_le]using bc
    obtain⟨u,h3,h4⟩:=kO aA (off - n) h h2
    exact⟨u,by rw[List.getElem?_append_right (by simp;omega)];simpa[hl]using h3,h4⟩
  ·rw[yu ha]at h
   obtain⟨u,rfl,h3,h4⟩:=e9 h1 (fU ha) ha
   cases off with
   |zero=>simp only[Option.some.injEq]at h;subst h;exact⟨u,rfl,h3,h4⟩
   |succ m=>
    obtain⟨u',h5,h6⟩:=kO aA m h h2
    exact⟨u',by simpa using h5,h6⟩
theorem lQ:∀(ak:List AV) (off:Nat) {cs:List Value} {v:AV} {u:Value} {ef:List AV},fY ak off v=some ef→an ρ H O w ak cs→v.single=true→ab ρ H O w v u→
 off<cs.length∧an ρ H O w ef (cs.set off u)
 |[],off,cs,v,u,ef,h,_,_,_=>by simp[fY]at h
 |a::aA,off,cs,v,u,ef,h,hd,hv,hu=>by
  obtain⟨c1,c2,rfl,h1,h2⟩:=af.1 hd
  rcases qT a with⟨k,n,ws,rfl⟩|ha
  ·obtain⟨hl,rfl⟩:=ct.1 h1
   simp only[fY,Bool.cond_eq_ite]at h
   split at h
   ·rename_i bc
    have bc:off<n:=by simpa[Nat.blt,Nat.lt_iff_add_one_le]using bc
    split at h
    ·rename_i k' l x hx
     split at h
     ·rename_i hk
      obtain rfl:=aX hk
      simp only[Option.some.injEq]at h
      subst h
      obtain rfl:=bN hx hu
      refine⟨by simp;omega,af.2 ⟨(ws.set off x).map (Value.int k),c2, ?_,ct.2 ⟨by simp[hl],rfl⟩,h2⟩⟩
      rw[List.set_append_left _ _ (by simp;omega),List.map_set]
     ·cases h
    ·cases h
   ·rename_i bc
    have bc:¬off<n:=by simpa[Nat.blt,Nat.lt_iff_add_one_le]using bc
    simp only[Option.map_eq_some_iff]at h
    obtain⟨ss,h3,rfl⟩:=h
    obtain⟨h4,h5⟩:=lQ aA (off - n) h3 h2 hv hu
    refine⟨by simp;omega,af.2 ⟨_,c2.set (off - n) u, ?_,ct.2 ⟨hl,rfl⟩,h5⟩⟩
    rw[List.set_append_right _ _ (by simp;omega)]
    simp[hl]
  ·rw[sF ha]at h
   obtain⟨u0,rfl,h3,h4⟩:=e9 h1 (fU ha) ha
   cases off with
   |zero=>
    simp only[Option.some.injEq]at h
    subst h
    exact⟨by simp,af.2 ⟨[u],c2,rfl,(jH hv hu).1,h2⟩⟩
   |succ m=>
    simp only[Option.map_eq_some_iff]at h
    obtain⟨ss,h5,rfl⟩:=h
    obtain⟨h6,h7⟩:=lQ aA m h5 h2 hv hu
    exact⟨by simp;omega,af.2 ⟨[u0],c2.set m u,rfl,h1,h7⟩⟩
theorem nv:∀(ak:List AV) (off:Nat) {cs:List Value} {k:IntKind} {n:Nat} {ws:List Int},iP ak off=some (k,n,ws)→an ρ H O w ak cs→
 ws.length=n∧∃pre post,cs=pre++ws.map (Value.int k)++post∧pre.length=off
 |[],off,cs,k,n,ws,h,_=>by simp[iP]at h
 |a::aA,off,cs,k,n,ws,h,hd=>by
  obtain⟨c1,c2,rfl,h1,h2⟩:=af.1 hd
  rcases qT a with⟨k',n',mg,rfl⟩|ha
  ·obtain⟨hl,rfl⟩:=ct.1 h1
   simp only[iP,Bool.cond_eq_ite]at h
   split at h
   ·rename_i h0
    have h0:off=0:=by simpa using h0
    subst h0
    simp only[Option.some.injEq,Prod.mk.injEq]at h
    obtain⟨rfl,rfl,rfl⟩:=h
    exact⟨hl,[],c2,by simp,rfl⟩
   ·split at h
    ·cases h
    ·rename_i bc
     have bc:¬off<n':=by simpa[Nat.blt,Nat.lt_iff_add_one_le]using bc
     obtain⟨h3,pre,post,rfl,h4⟩:=nv aA (off - n') h h2
     exact⟨h3,mg.map (Value.int k')++pre,post,by simp,by simp;omega⟩
  ·rw[pC ha]at h
   obtain⟨u0,rfl,h3,h4⟩:=e9 h1 (fU ha) ha
   cases off with
   |zero=>cases h
   |succ m=>
    obtain⟨h3,pre,post,rfl,h4⟩:=nv aA m h h2
    exact⟨h3,u0::pre,post,by simp,by simp[h4]⟩
theorem mA:∀(ak:List AV) (off:Nat) {pre post:List Value} {k:IntKind} {n:Nat} {ws mg:List Int} {ef:List AV},iP ak off=some (k,n,ws)→jG ak off mg=some ef→mg.length=ws.length→
 an ρ H O w ak (pre++ws.map (Value.int k)++post)→pre.length=off→an ρ H O w ef (pre++mg.map (Value.int k)++post)
 |[],off,_,_,k,n,ws,_,_,h,_,_,_,_=>by simp[iP]at h
 |a::aA,off,pre,post,k,n,ws,mg,ef,h,hs,hlen,hd,hp=>by
  obtain⟨c1,c2,hc,h1,h2⟩:=af.1 hd
  rcases qT a with⟨k',n',ws1,rfl⟩|ha
  ·obtain⟨hl,rfl⟩:=ct.1 h1
   simp only[iP,jG,Bool.cond_eq_ite]at h hs
   split at h
   ·rename_i h0
    have h0':off=0:=by simpa using h0
    subst h0'
    simp only[Option.some.injEq,Prod.mk.injEq]at h
    obtain⟨rfl,rfl,rfl⟩:=h
    rw[if_pos h0]at hs
    simp only[Option.some.injEq]at hs
    subst hs
    obtain rfl:pre=[]:=List.eq_nil_of_length_eq_zero hp
    simp only[List.nil_append]at hc ⊢
    have:=List.append_cancel_left hc
    subst this
    exact af.2 ⟨_,post,rfl,ct.2 ⟨by omega,rfl⟩,h2⟩
   ·rename_i h0
    rw[if_neg h0]at hs
    split at h
    ·cases h
    ·rename_i bc
     rw[if_neg bc]at hs
     have bc:¬off<n':=by simpa[Nat.blt,Nat.lt_iff_add_one_le]using bc
     simp only[Option.map_eq_some_iff]at hs
     obtain⟨ss,h3,rfl⟩:=hs
     have hpl:(ws1.map (Value.int k')).length≤pre.length:=by simp;omega
     obtain⟨akQ,rfl⟩:∃akQ,pre=ws1.map (Value.int k')++akQ:=by
      rw[List.append_assoc]at hc
      obtain⟨x,hx⟩:=List.prefix_of_prefix_length_le (⟨_,rfl⟩:ws1.map (Value.int k')<+:ws1.map (Value.int k')++c2) (⟨_,hc⟩:pre<+:_) hpl
      exact⟨x,hx.symm⟩
     simp only[List.append_assoc]at hc ⊢
     have hc':=List.append_cancel_left hc
     subst hc'
     have wg:akQ.length=off - n':=by simp at hp;omega
     exact af.2 ⟨_,_,rfl,h1,by simpa using mA aA (off - n') h h3 hlen (by simpa using h2) wg⟩
  ·rw[pC ha]at h
   rw[tD ha]at hs
   obtain⟨u0,rfl,h3,h4⟩:=e9 h1 (fU ha) ha
   cases off with
   |zero=>cases h
   |succ m=>
    simp only[Option.map_eq_some_iff]at hs
    obtain⟨ss,h5,rfl⟩:=hs
    cases pre with
    |nil=>simp at hp
    |cons p akQ=>
     simp only[List.cons_append,List.cons.injEq,List.nil_append]at hc
     obtain⟨rfl,hc'⟩:=hc
     simp only[List.length_cons,Nat.add_right_cancel_iff]at hp
     rw[←hc']at h2
     exact af.2 ⟨[p],_,rfl,h1,by simpa using mA aA m h h5 hlen (by simpa using h2) hp⟩
theorem afJ{ak ja ef:List AV}{off:Nat}{cs vs:List Value}(h:acj ak off ja=some ef)(hd:an ρ H O w ak cs)(hb:an ρ H O w ja vs):
 off+vs.length≤cs.length∧an ρ H O w ef (cs.take off++vs++cs.drop (off+vs.length)):=by
 unfold acj at h
 split at h
 ·rename_i k n ws x
  split at h
  ·rename_i k' li z hx
   rw[Bool.cond_eq_ite]at h
   split at h
   ·rename_i hc
    simp only[Bool.and_eq_true]at hc
    obtain⟨hk,bc⟩:=hc
    have bc:off<n:=Nat.lt_of_lt_of_le (Nat.lt_succ_self _) (Nat.le_of_ble_eq_true bc)
    obtain rfl:=aX hk
    simp only[Option.some.injEq]at h
    subst h
    obtain⟨c1,c2,rfl,h1,h2⟩:=af.1 hd
    obtain rfl:=ao.1 h2
    obtain⟨hl,rfl⟩:=ct.1 h1
    obtain⟨d1,d2,rfl,h3,h4⟩:=af.1 hb
    obtain rfl:=ao.1 h4
    have hv:d1=[.int k z]:=by
     cases x with
     |s y=>
      unfold aC at h3
      obtain⟨u,rfl,h5⟩:=h3
      cases y<;>simp only[AV.cY,Option.some.injEq,Prod.mk.injEq,reduceCtorEq]at hx
      all_goals
       obtain⟨rfl,_,rfl⟩:=hx
       cases h5
       rfl
     |_=>simp only[AV.cY,reduceCtorEq]at hx
    subst hv
    simp only[List.append_nil,List.length_map,List.length_singleton]
    refine⟨by omega,af.2 ⟨_,[],(List.append_nil _).symm,ct.2 ⟨by rw[List.length_set];exact hl, ?_⟩,ao.2 rfl⟩⟩
    rw[List.map_set,List.set_eq_take_append_cons_drop,if_pos (by rw[List.length_map];omega),List.append_assoc]
    rfl
   ·cases h
  ·cases h
 ·cases h
theorem tE{ak ja ef:List AV}{off:Nat}{cs vs:List Value}(h:sQ ak off ja=some ef)(hd:an ρ H O w ak cs)(hb:an ρ H O w ja vs):
 off+vs.length≤cs.length∧an ρ H O w ef (cs.take off++vs++cs.drop (off+vs.length)):=by
 unfold sQ at h
 split at h
 ·rename_i r hr
  simp only[Option.some.injEq]at h
  subst h
  exact afJ hr hd hb
 split at h
 ·rename_i pre post h1 h2
  simp only[Option.some.injEq]at h
  subst h
  have hl:=iA hb
  rw[←hl]at h2
  obtain⟨h3,h4⟩:=e8 _ _ h1 hd
  obtain⟨h5,h6⟩:=eZ _ _ h2 hd
  exact⟨h5,eY.2 ⟨_,_,rfl,eY.2 ⟨_,_,rfl,h4,hb⟩,h6⟩⟩
 ·cases h
theorem tF(ak:List AV){cs:List Value}(h:an ρ H O w ak cs):∀v∈cs,v.oneCell'=true:=by
 induction ak generalizing cs with
 |nil=>rw[ao.1 h];simp
 |cons a aA ih=>
  obtain⟨c1,c2,rfl,h1,h2⟩:=af.1 h
  intro v hv
  rcases List.mem_append.1 hv with hv|hv
  ·rcases qT a with⟨k,n,ws,rfl⟩|ha
   ·obtain⟨hl,rfl⟩:=ct.1 h1
    obtain⟨x,_,rfl⟩:=List.mem_map.1 hv
    rfl
   ·obtain⟨u,rfl,h3,_⟩:=e9 h1 (fU ha) ha
    simp only[List.mem_singleton]at hv
    subst hv
    exact h3
  ·exact ih h2 v hv
theorem pD{x:AV}{v:Value}{ak:List AV}(h:x.iZ =some ak)(hd:ab ρ H O w x v):an ρ H O w ak v.cells.toList:=by
 have one:∀a,a.single=true→ab ρ H O w a v→an ρ H O w [a] v.cells.toList:=by
  intro a ha hv
  obtain⟨h1,h2⟩:=jH ha hv
  have:v.cells.toList=[v]:=by cases v<;>first|rfl|(simp[Value.oneCell']at h2)
  rw[this]
  exact af.2 ⟨[v],[],rfl,h1,ao.2 rfl⟩
 cases x with
 |agg ss=>
  simp only[AV.iZ,Option.some.injEq]at h
  subst h
  unfold ab at hd
  obtain⟨cs,rfl,h1⟩:=hd
  simpa[Value.cells]using h1
 |ints k n ws=>
  simp only[AV.iZ,Option.some.injEq]at h
  subst h
  unfold ab at hd
  obtain⟨hl,rfl⟩:=hd
  exact af.2 ⟨ws.map (Value.int k),[],by simp[Value.cells],ct.2 ⟨hl,rfl⟩,ao.2 rfl⟩
 |bh _=>simp[AV.iZ]at h
 |s x=>cases x<;>simp only[AV.iZ,Option.some.injEq,reduceCtorEq]at h<;>subst h<;>exact one _ rfl hd
 |_=>simp only[AV.iZ,Option.some.injEq]at h;subst h;exact one _ rfl hd
theorem kP{ak:List AV}{cs:List Value}(h:an ρ H O w ak cs):ab ρ H O w (.kB ak) (.agg cs.toArray):=by
 unfold AV.kB
 split
 ·obtain⟨c1,c2,rfl,h1,h2⟩:=af.1 h
  obtain rfl:=ao.1 h2
  obtain⟨hl,rfl⟩:=ct.1 h1
  unfold ab
  exact⟨hl,by simp⟩
 ·unfold ab
  exact⟨cs,rfl,h⟩
end
end Go.Sx
namespace Go.Sx
open Go
def World.bX(w:World)(b:Nat)(o:Obj):World:={w with heap:=w.heap.setIfInBounds b o}
theorem acC{w:World}{b:Nat}{cells:Array Value}{e:TypeId}{fr:Nat×Nat}(hb:w.heap[b]? =some (.cells cells e fr))(hu:unm fr cells.size){off:Nat}(ho:off<cells.size):
 w.frozen? ⟨b,off,none⟩=false:=by
 have:=hu off ho
 simp only[World.frozen?,hb,Bool.and_eq_false_imp,decide_eq_true_eq,decide_eq_false_iff_not]
 intro h1 h2
 exact this ⟨h1,h2⟩
theorem aaa{w:World}{b:Nat}{cells:Array Value}{e:TypeId}{fr:Nat×Nat}(hb:w.heap[b]? =some (.cells cells e fr))(off:Nat)(v:Value):
 w.setCell ⟨b,off,none⟩ v=World.bX w b (.cells (cells.setIfInBounds off v) e fr):=by
 simp only[World.setCell,World.bX]
 congr 1
 apply Array.ext_getElem?
 intro i
 rw[Array.getElem?_modify,Array.getElem?_setIfInBounds]
 by_cases h:b=i
 ·subst h
  obtain⟨bc,tG⟩:=Array.getElem?_eq_some_iff.1 hb
  simp[tG,bc]
 ·simp[h]
theorem ey{w:World}{b:Nat}{o o':Obj}(hb:w.heap[b]? =some o):(World.bX w b o').heap[b]? =some o':=by
 have bc:b<w.heap.size:=(Array.getElem?_eq_some_iff.1 hb).1
 simp[World.bX,bc]
theorem hC{w:World}{b i:Nat}{o:Obj}(h:i≠b):(World.bX w b o).heap[i]? =w.heap[i]? :=by
 simp only[World.bX]
 rw[Array.getElem?_setIfInBounds_ne (by omega)]
theorem iB{w:World}{b:Nat}{o:Obj}:(World.bX w b o).heap.size=w.heap.size:=by simp[World.bX]
theorem wh{w:World}{b:Nat}{o o':Obj}:World.bX (World.bX w b o) b o'=World.bX w b o':=by
 simp only[World.bX]
 congr 1
 apply Array.ext_getElem?
 intro i
 by_cases h:b=i
 ·subst h;simp[Array.getElem?_setIfInBounds]
 ·simp[h]
theorem rT{w:World}{b:Nat}{o:Obj}(hb:w.heap[b]? =some o):World.bX w b o=w:=by
 have:w.heap.setIfInBounds b o=w.heap:=by
  apply Array.ext_getElem?
  intro i
  by_cases h:b=i
  ·subst h
   obtain⟨bc,tG⟩:=Array.getElem?_eq_some_iff.1 hb
   simp[tG,bc]
  ·rw[Array.getElem?_setIfInBounds_ne (by omega)]
 simp only[World.bX,this]
theorem wi{P:Program}{w:World}{b:Nat}{cells:List Value}{e:TypeId}{fr:Nat×Nat}(hb:w.heap[b]? =some (.cells cells.toArray e fr))(hu:unm fr cells.length){off:Nat}(ho:off<cells.length)
 {v:Value} (hv:v.oneCell'=true):(store ⟨b,off,none⟩ v).run P w=.ok () (World.bX w b (.cells (cells.set off v).toArray e fr)):=by
 rw[run_store P w _ v _ hv]
 have hc:w.cell? ⟨b,off,none⟩=some cells[off]:=by simp[World.cell?,hb,ho]
 have hf:=acC hb (by simpa using hu) (off:=off) (by simpa using ho)
 simp only[hc,hf,Bool.false_eq_true,if_false,aaa hb,List.setIfInBounds_toArray]
theorem aS(b off i:Nat):(⟨b,off,none⟩:Addr).add i=⟨b,off+i,none⟩:=by
 unfold Addr.add
 split
 ·rename_i h;subst h;rfl
 ·rfl
theorem bG{P:Program}{b:Nat}{e:TypeId}{fr:Nat×Nat}(off:Nat):∀(vs:List Value) (i:Nat) {w:World} {cells:List Value},w.heap[b]? =some (.cells cells.toArray e fr)→unm fr cells.length→
 off+i+vs.length≤cells.length→(∀v∈vs,v.oneCell'=true)→
 (storeCells ⟨b,off,none⟩ vs i).run P w=.ok () (World.bX w b (.cells (cells.take (off+i)++vs++cells.drop (off+i+vs.length)).toArray e fr))
 |[],i,w,cells,hb,hu,hl,hv=>by
  simp only[storeCells,Sem.run_pure,List.length_nil,Nat.add_zero,List.append_nil,List.take_append_drop]
  rw[rT hb]
 |v::vs,i,w,cells,hb,hu,hl,hv=>by
  simp only[List.length_cons]at hl
  have bc:off+i<cells.length:=by omega
  simp only[storeCells,Sem.run_bind,aS,wi hb hu bc (hv v (by simp)),Result.andThen_ok]
  rw[bG off vs (i+1) (ey hb) (by simpa using hu) (by simp;omega) (fun x hx=>hv x (by simp[hx])),wh]
  congr 4
  rw[←Nat.add_assoc,List.take_set,List.drop_set_of_lt (by omega)]
  have e1:(cells.take (off+i+1)).set (off+i) v=cells.take (off+i)++[v]:=by
   rw[List.take_succ_eq_append_getElem bc]
   rw[List.set_append_right _ _ (by simp;omega)]
   simp[Nat.min_eq_left (Nat.le_of_lt bc)]
  rw[e1]
  simp only[List.append_assoc,List.length_cons,List.cons_append,List.nil_append]
  rw[show off+i+1+vs.length=off+i+(vs.length+1)from by omega]
theorem kQ{w:World}{o:Obj}:(w.alloc o).heap[w.heap.size]? =some o:=by
 show(w.heap.push o)[w.heap.size]? =_
 simp
theorem alloc_old{w:World}{o:Obj}{i:Nat}(h:i<w.heap.size):(w.alloc o).heap[i]? =w.heap[i]? :=by
 show(w.heap.push o)[i]? =_
 rw[Array.getElem?_push,if_neg (by omega)]
theorem fa{w:World}{o:Obj}:(w.alloc o).heap.size=w.heap.size+1:=by
 show(w.heap.push o).size=_
 simp
section
variable{ρ az:Nat→Value}{H H':aH}{G O O':Nat→Prop}{w w':World}{P:Program}
def aB(H:aH)(id:Nat)(o:ad):aH:=fun j=>if j=id then some o else H j
theorem yv{id:Nat}{o o':ad}(ho:H id=some o)(ha:o.alive=o'.alive)(b:Nat):Own ρ (aB H id o') b↔Own ρ H b:=by
 constructor
 ·rintro⟨j,x,hx,h1,h2⟩
  unfold aB at hx
  split at hx
  ·rename_i hj
   subst hj
   simp only[Option.some.injEq]at hx
   subst hx
   exact⟨j,o,ho,ha.trans h1,h2⟩
  ·exact⟨j,x,hx,h1,h2⟩
 ·rintro⟨j,x,hx,h1,h2⟩
  by_cases hj:j=id
  ·subst hj
   rw[ho]at hx
   cases hx
   exact⟨j,o',by simp[aB],ha.symm.trans h1,h2⟩
  ·exact⟨j,x,by simp[aB,hj,hx],h1,h2⟩
theorem yw{id:Nat}{o o':ad}(ho:H id=some o)(ha:o.alive=o'.alive):aM ρ (aB H id o') G=aM ρ H G:=by
 funext b
 exact propext (or_congr_left (yv ho ha b))
theorem Good.write(hs:Sat ρ H G w){id:Nat}{o o':ad}(ho:H id=some o)(ha:o.alive=true)(ha':o'.alive=true){b:Nat}(hb:dW (ρ id)=some b)
 (qU:∀c' e',o'=.vec c' e'→∃c e,o=.vec c e∧c'.n=c.n∧c'.size=c.size)
 {qV:Obj} {r:AV} {v:Value}
 (dL:gZ ρ (aB H id o') (aM ρ H G) (World.bX w b qV) (ρ id) o')
 (hr:ab ρ (aB H id o') (aM ρ H G) (World.bX w b qV) r v):
 Good ρ H G w (aB H id o') r v (World.bX w b qV):=by
 have hh:=yw (ρ:=ρ) (G:=G) ho (ha.trans ha'.symm)
 have dv:Own ρ H b:=⟨id,o,ho,ha,hb⟩
 have st:Step ρ H (aM ρ H G) w ρ (aB H id o') (aM ρ (aB H id o') G) (World.bX w b qV):=by
  refine⟨fun _ _ _=>rfl,fun j x hx=> ?_,fun c hc=>.inl (by rw[hh]at hc;exact hc),fun c hc hO=> ?_,by rw[iB];exact Nat.le_refl _⟩
  ·by_cases hj:j=id
   ·subst hj
    rw[ho]at hx
    cases hx
    exact⟨o',by simp[aB],qU⟩
   ·exact⟨x,by simp[aB,hj,hx],fun c' e' hc=>⟨c',e',hc,rfl,rfl⟩⟩
  ·exact hC (fun e=>hO (.inl (by subst e;exact dv)))
 refine⟨ρ,⟨fun j x hx=> ?_,fun i j oi oj c h1 h2 h3 h4 h5 h6=> ?_,fun c hc=> ?_,fun c hc=> ?_⟩,by rw[hh];exact hr,st,⟨rfl,rfl,rfl,fun c hc hO=>hC (fun e=>hO (by subst e;exact dv))⟩⟩
 ·by_cases hj:j=id
  ·subst hj
   simp only[aB,if_true,Option.some.injEq]at hx
   subst hx
   rw[hh]
   exact dL
  ·have w5:H j=some x:=by simpa[aB,hj]using hx
   refine(hs.obj j x w5).step st (fun c tH hc=>hC (fun e=>hj ?_))
   subst e
   exact hs.inj j id x o c w5 ho tH ha hc hb
 ·have f:∀i oi,aB H id o' i=some oi→oi.alive=true→∃x,H i=some x∧x.alive=true:=by
   intro i oi hi tH
   by_cases ew:i=id
   ·subst ew;exact⟨o,ho,ha⟩
   ·exact⟨oi,by simpa[aB,ew]using hi,tH⟩
  obtain⟨x,hx,hxa⟩:=f i oi h1 h3
  obtain⟨y,hy,hya⟩:=f j oj h2 h4
  exact hs.inj i j x y c hx hy hxa hya h5 h6
 ·exact hs.apart c ((yv ho (ha.trans ha'.symm) c).1 hc)
 ·rw[iB];exact hs.low c hc
theorem Good.fresh(hs:Sat ρ H G w){n:Nat}(hn:H n=none){o:ad}{obj:Obj}{root:Value}{r:AV}{v:Value}
 {w1:World} (hw:w1.heap=w.heap) (ht:w1.tape=w.tape) (hos:w1.os=w.os) (nQ:w1.output=w.output)
 (dH:∀b,dW root=some b→b=w.heap.size)
 (dL:gZ (fun j=>if j=n then root else ρ j) (aB H n o) (aM (fun j=>if j=n then root else ρ j) (aB H n o) G) (w1.alloc obj) root o)
 (hr:ab (fun j=>if j=n then root else ρ j) (aB H n o) (aM (fun j=>if j=n then root else ρ j) (aB H n o) G) (w1.alloc obj) r v):
 Good ρ H G w (aB H n o) r v (w1.alloc obj):=by
 have bE:(w1.alloc obj).heap.size=w.heap.size+1:=by rw[fa,hw]
 have hold:∀i,i<w.heap.size→(w1.alloc obj).heap[i]? =w.heap[i]? :=fun i hi=>by rw[alloc_old (by rw[hw];exact hi),hw]
 have ne:∀j x,H j=some x→j≠n:=fun j x hx e=>by subst e;rw[hn]at hx;cases hx
 have pE:∀b,Own (fun j=>if j=n then root else ρ j) (aB H n o) b→Own ρ H b∨b=w.heap.size:=by
  rintro b ⟨j,x,hx,h1,h2⟩
  by_cases hj:j=n
  ·subst hj;simp only[if_true]at h2;exact .inr (dH b h2)
  ·simp only[aB,hj,if_false]at hx h2
   exact .inl ⟨j,x,hx,h1,h2⟩
 have st:Step ρ H (aM ρ H G) w (fun j=>if j=n then root else ρ j) (aB H n o) (aM (fun j=>if j=n then root else ρ j) (aB H n o) G) (w1.alloc obj):=by
  refine⟨fun j x hx=>by simp[ne j x hx],fun j x hx=>⟨x,by simp[aB,ne j x hx,hx],fun c' e' hc=>⟨c',e',hc,rfl,rfl⟩⟩,fun b hb=> ?_,fun b hb _=>hold b hb,by omega⟩
  rcases hb with hb|hb
  ·rcases pE b hb with h1|h1
   ·exact .inl (.inl h1)
   ·exact .inr (by omega)
  ·exact .inl (.inr hb)
 refine⟨_,⟨fun j x hx=> ?_,fun i j oi oj b h1 h2 h3 h4 h5 h6=> ?_,fun b hb=> ?_,fun b hb=> ?_⟩,hr,st,⟨hos,ht,nQ,fun b hb _=>hold b hb⟩⟩
 ·by_cases hj:j=n
  ·subst hj
   simp only[aB,if_true,Option.some.injEq]at hx
   subst hx
   simp only[if_true]
   exact dL
  ·have w5:H j=some x:=by simpa[aB,hj]using hx
   simp only[hj,if_false]
   exact(hs.obj j x w5).step st (fun b tH hb=>hold b (gx hs ⟨j,x,w5,tH,hb⟩))
 ·by_cases hi:i=n<;>by_cases hj:j=n
  ·rw[hi,hj]
  ·simp only[aB,hi,hj,if_true,if_false]at h1 h2 h5 h6
   have e:=dH b h5
   have:=gx hs ⟨j,oj,h2,h4,h6⟩
   omega
  ·simp only[aB,hi,hj,if_true,if_false]at h1 h2 h5 h6
   have e:=dH b h6
   have:=gx hs ⟨i,oi,h1,h3,h5⟩
   omega
  ·simp only[aB,hi,hj,if_false]at h1 h2 h5 h6
   exact hs.inj i j oi oj b h1 h2 h3 h4 h5 h6
 ·rcases pE b hb with h1|h1
  ·exact hs.apart b h1
  ·intro hg
   have:=hs.low b hg
   omega
 ·have:=hs.low b hb
  omega
end
end Go.Sx
namespace Go.Sx
open Go
def eI(P:Program)(ρ:Nat→Value)(H:aH)(O:Nat→Prop)(w:World)(q:bw)(s:Sem Value):Prop:=
 q.up=[]∧q.new=[]∧∃v,s.run P w=.ok v w∧∀base,ab ρ H O w (q.r base) v
section
variable{ρ az:Nat→Value}{H H':aH}{G O O':Nat→Prop}{w w':World}{P:Program}
theorem ax{need:List Prop}{r:AV}{q:bw}{s:Sem Value}(h:(plain need r).eval H=some q)(f:bq need→∃v,s.run P w=.ok v w∧ab ρ H O w r v)(hn:bq q.need):eI P ρ H O w q s:=by
 simp only[plain,RM.eval,Option.some.injEq]at h
 subst h
 obtain⟨v,h1,h2⟩:=f hn
 exact⟨rfl,rfl,v,h1,fun _=>h2⟩
theorem gf{t:TypeId}{b:Bool}(h:gv P t=some b)(w:World):(isAgg t).run P w=.ok b w:=by
 unfold gv at h
 split at h<;>first|(cases h;rename_i ht;simp[isAgg,run_underlying ht];done)|cases h
theorem oa{f:Nat→Value}{n j:Nat}{v:Value}(h:((List.range n).map f)[j]? =some v):j<n∧v=f j:=by
 by_cases hj:j<n
 ·rw[List.getElem?_map,List.getElem?_range hj]at h
  simp at h
  exact⟨hj,h.symm⟩
 ·rw[List.getElem?_eq_none (by simp;omega)]at h
  cases h
theorem run_sizeOf{t:TypeId}{n:Nat}(h:dj P t=some n)(w:World):(sizeOf t).run P w=.ok n w:=by
 simp only[dj,Option.map_eq_some_iff]at h
 obtain⟨i,hi,rfl⟩:=h
 simp[sizeOf,typeInfo,hi]
theorem cU{b:Nat}{cells:List Value}{e:TypeId}{fr:Nat×Nat}(hb:w.heap[b]? =some (.cells cells.toArray e fr))(off:Nat):w.cell? ⟨b,off,none⟩=cells[off]? :=by
 simp[World.cell?,hb]
theorem iQ{t:TypeId}{n b off:Nat}{cs:List Value}(ha:gv P t=some true)(hs:dj P t=some n)(hl:cs.length=n)(hc:∀j v,cs[j]? =some v→w.cell? ⟨b,off+j,none⟩=some v):
 (Instr.loadAt t (.pointer (some ⟨b,off,none⟩))).run P w=.ok (.agg cs.toArray) w:=by
 subst hl
 have:=run_loadCells_list (P:=P) (w:=w) ⟨b,off,none⟩ cs (fun j v hj=>by rw[aS];exact hc j v hj)
 simp[Instr.loadAt,Instr.sureAddr,loadVar,gf ha,run_sizeOf hs,this]
theorem iR{t:TypeId}{b off:Nat}{v:Value}(ha:gv P t=some false)(hc:w.cell? ⟨b,off,none⟩=some v):
 (Instr.loadAt t (.pointer (some ⟨b,off,none⟩))).run P w=.ok v w:=by
 simp[Instr.loadAt,Instr.sureAddr,loadVar,gf ha,hc]
theorem nw(hs:Sat ρ H G w){id b:Nat}{ak:List AV}{e:TypeId}(ho:H id=some (.own ak e))(hb:ρ id=.pointer (some ⟨b,0,none⟩)):
 ∃cells fr,w.heap[b]? =some (.cells cells.toArray e fr)∧unm fr cells.length∧an ρ H (aM ρ H G) w ak cells:=by
 obtain⟨b',cells,fr,h1,h2⟩:=hs.obj id _ ho
 rw[hb]at h1
 cases h1
 exact⟨cells,fr,h2⟩
theorem afK(hs:Sat ρ H G w){id i b f n cap:Nat}{c:aF}{e:TypeId}(ho:H id=some (.vec c e))(hi:i<c.n)(dH:ρ id=.slice (some ⟨b,f,none⟩) n cap):
 ∃us:Nat→Nat→Value,∀i j,i<c.n→j<c.size→w.cell? ⟨b,f+i*c.size+j,none⟩=some (us i j)∧aL (aM ρ H G) w (c.cell i j) (us i j):=by
 obtain⟨a,afE,h1,h2,h3,h4⟩:=hs.obj id _ ho
 rw[dH]at h1
 cases h1
 rcases h4 with rfl|⟨b',o,cells,fr,us,h5,h6,h7,h8,h9⟩
 ·omega
 ·cases h5
  exact⟨us,fun i j hi hj=>⟨by rw[cU h6];exact(h9 i j hi hj).1,(h9 i j hi hj).2⟩⟩
theorem aab(n:Nat)(f:Nat→SV)(us:Nat→Value)(h:∀i,i<n→aL O w (f i) (us i)):an ρ H O w ((List.range n).map fun i=>.s (f i)) ((List.range n).map us):=by
 induction n with
 |zero=>simp[ao]
 |succ n ih=>
  rw[List.range_succ,List.map_append,List.map_append]
  exact eY.2 ⟨_,_,rfl,ih (fun i hi=>h i (by omega)),af.2 ⟨[us n],[],rfl,by unfold aC;exact⟨_,rfl,h n (by omega)⟩,ao.2 rfl⟩⟩
theorem l8{a b:Nat}(h:a<b):a.blt b=true:=Nat.ble_eq_true_of_le h
theorem pF{a b:Nat}(h:b≤a):a.blt b=false:=by
 cases hh:a.blt b
 ·rfl
 ·exact absurd (Nat.le_of_ble_eq_true hh) (by omega)
theorem oO:∀(cs:List CK) (x:CL cs) (us:Nat→Value) (off:Nat),(∀l,l<CL.wide cs→aL O w (CL.cell cs x l) (us (off+l)))→bq (dZ (CL.ak cs x))→
 an ρ H O w (CL.ak cs x) ((List.range (CL.wide cs)).map fun l=>us (off+l))
 |[],x,us,off,h,hn=>ao.2 (by simp[CL.wide])
 |c::cs,x,us,off,h,hn=>by
  have key:∀a:AV,CL.ak (c::cs) x=a::CL.ak cs x.2→c.wide=1→(∀y,aL O w (c.cell x.1 0) y→aC ρ H O w a [y])→bq (dZ (CL.ak cs x.2))→
   an ρ H O w (CL.ak (c::cs) x) ((List.range (CL.wide (c::cs))).map fun l=>us (off+l)):=by
   intro a e hw ha tI
   rw[e]
   simp only[CL.wide,hw]
   rw[List.range_add,List.map_append,List.map_map]
   refine af.2 ⟨_,_,rfl, ?_, ?_⟩
   ·have:=h 0 (by simp only[CL.wide];omega)
    simp only[CL.cell,hw,l8 (show 0<1 from by omega),cond_true]at this
    simpa using ha _ this
   ·have ih:=oO cs x.2 us (off+1) (fun l hl=> ?_) tI
    ·have e2:(fun l=>us (off+1+l))=(fun l=>us (off+l))∘(fun x=>1+x):=by funext l;simp[Function.comp,Nat.add_assoc]
     rw[e2]at ih
     exact ih
    ·have:=h (1+l) (by simp only[CL.wide];omega)
     simp only[CL.cell,hw]at this
     rw[pF (show 1≤1+l from by omega),cond_false,show 1+l - 1=l from by omega,←Nat.add_assoc]at this
     exact this
  have one:∀{sv:SV} {y:Value},aL O w sv y→aC ρ H O w (.s sv) [y]:=fun hy=>by unfold aC;exact⟨_,rfl,hy⟩
  cases c with
  |arr k n=>
   obtain⟨x1,x2⟩:=x
   change List Int at x1
   simp only[CL.ak,dZ]at hn ⊢
   obtain⟨hl,tI⟩:=hn
   simp only[CL.wide,CK.wide]
   rw[List.range_add,List.map_append,List.map_map]
   refine af.2 ⟨_,_,rfl, ?_, ?_⟩
   ·unfold aC
    refine⟨hl, ?_⟩
    refine List.ext_getElem (by simp[hl]) fun i h1 h2=> ?_
    have hi:i<n:=by simpa using h1
    have:=h i (by simp only[CL.wide,CK.wide];omega)
    simp only[CL.cell,CK.wide]at this
    rw[l8 hi,cond_true]at this
    simp only[CK.cell]at this
    have hx:x1.getD i 0=x1[i]'(by rw[hl];exact hi):=by simp[List.getD,hl,hi]
    rw[hx]at this
    simp only[List.getElem_map,List.getElem_range]
    generalize us (off+i)=u at this ⊢
    cases this
    rfl
   ·have ih:=oO cs x2 us (off+n) (fun l hl=> ?_) tI
    ·have e2:(fun l=>us (off+n+l))=(fun l=>us (off+l))∘(fun x=>n+x):=by funext l;simp[Function.comp,Nat.add_assoc]
     rw[e2]at ih
     exact ih
    ·have:=h (n+l) (by simp only[CL.wide,CK.wide];omega)
     simp only[CL.cell,CK.wide]at this
     rw[pF (show n≤n+l from by omega),cond_false,show n+l - n=l from by omega,←Nat.add_assoc]at this
     exact this
  |int k=>exact key _ rfl rfl (fun y hy=>one hy) (by simpa[CL.ak,dZ]using hn)
  |bool=>exact key _ rfl rfl (fun y hy=>one hy) (by simpa[CL.ak,dZ]using hn)
  |str=>exact key _ rfl rfl (fun y hy=>one hy) (by simpa[CL.ak,dZ]using hn)
  |ints k=>exact key _ rfl rfl (fun y hy=>one hy) (by simpa[CL.ak,dZ]using hn)
  |strs=>exact key _ rfl rfl (fun y hy=>one hy) (by simpa[CL.ak,dZ]using hn)
  |bB=>exact key _ rfl rfl (fun y hy=>one hy) (by simpa[CL.ak,dZ]using hn)
  |rows ds=>exact key _ rfl rfl (fun y hy=>one hy) (by simpa[CL.ak,dZ]using hn)
theorem rU{we:Bool}{c:aF}{i j sz:Nat}{t:TypeId}{q:bw}(h:(pA we c i j sz).eval H=some q)(hn:bq q.need)(pt:gv P t=some we)(bE:dj P t=some sz){b o:Nat}{us:Nat→Value}
 (hc:∀l,l<c.size→w.cell? ⟨b,o+l,none⟩=some (us l)∧aL O w (c.cell i l) (us l)):eI P ρ H O w q (Instr.loadAt t (.pointer (some ⟨b,o+j,none⟩))):=by
 unfold pA at h
 cases we
 ·simp only[cond_false]at h
  rw[Bool.cond_eq_ite]at h
  split at h
  ·rename_i bc
   have bc:j<c.size:=by simpa[Nat.blt,Nat.lt_iff_add_one_le]using bc
   exact ax h (fun _=>⟨us j,iR pt (hc j bc).1,aq (hc j bc).2⟩) hn
  ·cases h
 ·simp only[cond_true]at h
  split at h
  ·rename_i cs xs
   split at h
   ·rename_i ss hss
    refine ax h (fun aqL=> ?_) hn
    have hd:=oO (ρ:=ρ) (H:=H) cs (xs.getD i (CL.d cs)) us 0 (fun l hl=>by rw[Nat.zero_add];exact(hc l hl).2) aqL
    simp only[Nat.zero_add]at hd
    simp only[Option.bind_eq_some_iff]at hss
    obtain⟨s1,h4,h5⟩:=hss
    obtain⟨h6,h7⟩:=eZ _ j h4 hd
    obtain⟨h8,h9⟩:=e8 s1 sz h5 h7
    refine⟨_,iQ (cs:=(((List.range (CL.wide cs)).map us).drop j).take sz) pt bE (by simp at h8 ⊢;omega) (fun l v hv=> ?_),kP h9⟩
    rw[List.getElem?_take]at hv
    split at hv
    ·rw[List.getElem?_drop]at hv
     obtain⟨bc,rfl⟩:=oa hv
     rw[Nat.add_assoc]
     exact(hc (j+l) bc).1
    ·cases hv
   ·cases h
  ·rw[Bool.cond_eq_ite]at h
   split at h
   ·rename_i hle
    have hle:=Nat.le_of_ble_eq_true hle
    refine ax h (fun _=>⟨_,iQ (cs:=(List.range sz).map fun l=>us (j+l)) pt bE (by simp) (fun l v hv=> ?_), ?_⟩) hn
    ·obtain⟨bc,rfl⟩:=oa hv
     rw[Nat.add_assoc]
     exact(hc (j+l) (by omega)).1
    ·unfold ab
     exact⟨_,rfl,aab sz (fun l=>c.cell i (j+l)) (fun l=>us (j+l)) (fun l hl=>(hc (j+l) (by omega)).2)⟩
   ·cases h
theorem aac{t:TypeId}{a:AV}{va:Value}{q:bw}(h:(adS P t a).eval H=some q)(hn:bq q.need)(hs:Sat ρ H G w)(hd:ab ρ H (aM ρ H G) w a va):
 eI P ρ H (aM ρ H G) w q (Instr.loadAt t va):=by
 unfold adS at h
 split at h
 ·rename_i sz we bE pt
  split at h
  ·
   rename_i id off
   unfold ab ay at hd
   obtain⟨b,hb,rfl,_⟩:=hd
   simp only[RM.eval]at h
   split at h
   ·rename_i ak e ho
    obtain⟨cells,fr,h1,h2,h3⟩:=nw hs ho hb
    cases we
    ·simp only[cond_false]at h
     split at h
     ·rename_i v hv
      obtain⟨u,h4,h5,h6⟩:=kO ak off hv h3
      exact ax h (fun _=>⟨u,iR pt (by rw[cU h1];exact h4),h6⟩) hn
     ·cases h
    ·simp only[cond_true]at h
     split at h
     ·rename_i ss hss
      simp only[Option.bind_eq_some_iff]at hss
      obtain⟨s1,h4,h5⟩:=hss
      obtain⟨h6,h7⟩:=eZ ak off h4 h3
      obtain⟨h8,h9⟩:=e8 s1 sz h5 h7
      refine ax h (fun _=>⟨_,iQ (cs:=(cells.drop off).take sz) pt bE (by simp at h8 ⊢;omega) (fun j v hj=> ?_),kP h9⟩) hn
      rw[cU h1]
      rw[List.getElem?_take]at hj
      split at hj
      ·simpa using hj
      ·cases hj
     ·cases h
   ·cases h
  ·
   rename_i id off n i
   unfold ab ay at hd
   obtain⟨c9,b,hb,rfl,_⟩:=hd
   simp only[RM.eval]at h
   split at h
   ·rename_i ak e ho
    obtain⟨cells,fr,h1,h2,h3⟩:=nw hs ho hb
    split at h
    ·rename_i k m ws akR
     rw[Bool.cond_eq_ite]at h
     split at h
     ·rename_i hc
      simp only[Bool.and_eq_true,Bool.not_eq_true',Nat.beq_eq]at hc
      obtain⟨rfl,rfl⟩:=hc
      obtain⟨hl,pre,post,rfl,hp⟩:=nv ak off akR h3
      have hi:i<ws.length:=by omega
      refine ax h (fun _=>⟨.int k (ws.getD i 0),iR pt ?_,aq (.int _ _)⟩) hn
      rw[cU h1,List.append_assoc,List.getElem?_append_right (by omega),List.getElem?_append_left (by simp;omega)]
      rw[show off+i - pre.length=i from by omega]
      simp[hi]
     ·cases h
    ·cases h
   ·cases h
  ·
   unfold ab ay at hd
   obtain⟨b,o,us,rfl,_,_,hc⟩:=hd
   exact rU h hn pt bE hc
  ·
   rename_i id i j
   unfold ab ay at hd
   obtain⟨_,o,ho,hv⟩:=hd
   simp only[RM.eval]at h
   split at h
   ·rename_i c e cP
    rw[ho]at cP
    cases cP
    obtain⟨hi,hj,b,f,n,cap,dH,rfl⟩:=hv c e rfl
    obtain⟨us,hc⟩:=afK hs ho hi dH
    exact rU (us:=fun l=>us i l) h hn pt bE (fun l hl=>hc i l hi hl)
   ·cases h
  ·cases h
 ·cases h
end
end Go.Sx
namespace Go.Sx
open Go
section
variable{ρ az:Nat→Value}{H H':aH}{G O O':Nat→Prop}{w w':World}{P:Program}
theorem slice_inj{a a':Option Addr}{n n' c c':Nat}(h:Value.slice a n c=.slice a' n' c'):a'=a∧c'=c:=by
 cases h;exact⟨rfl,rfl⟩
theorem mB{t:TypeId}{fs:Array Field}{f:Nat}{fd:Field}{n b off:Nat}(ht:P.underlying t=some (.struct fs))(hf:fs[f]? =some fd)(hs:dj P fd.type=some n)(hn:1≤n)(w:World):
 (Instr.fieldAt t (.pointer (some ⟨b,off,none⟩)) f).run P w=.ok (.pointer (some ⟨b,off+fd.offset,none⟩)) w:=by
 have h0:¬n=0:=by omega
 simp[Instr.fieldAt,run_underlying ht,hf,Instr.sureAddr,fieldPlace,run_sizeOf hs,h0,aS]
theorem wj{t:TypeId}{x:AV}{f:Nat}{vx:Value}{q:bw}(h:(oG P t x f).eval H=some q)(hn:bq q.need)(hd:ab ρ H O w x vx):
 eI P ρ H O w q (Instr.fieldAt t vx f):=by
 unfold oG at h
 split at h
 ·rename_i fs ht
  split at h
  ·rename_i fd hf
   rw[Bool.cond_eq_ite]at h
   split at h
   ·rename_i bE
    obtain⟨n,hs,hn1⟩:∃n,dj P fd.type=some n∧1≤n:=by
     cases hs:dj P fd.type with
     |none=>simp[hs]at bE
     |some n=>exact⟨n,rfl,Nat.le_of_ble_eq_true (by simpa[hs]using bE)⟩
    split at h
    ·rename_i id off
     unfold ab ay at hd
     obtain⟨b,hb,rfl,hi⟩:=hd
     exact ax h (fun _=>⟨_,mB ht hf hs hn1 w,by unfold ab ay;exact⟨b,hb,rfl,hi⟩⟩) hn
    ·rename_i c m j
     unfold ab ay at hd
     obtain⟨b,o,us,rfl,h1⟩:=hd
     exact ax h (fun _=>⟨_,mB ht hf hs hn1 w,by unfold ab ay;exact⟨b,o,us,by rw[Nat.add_assoc],h1⟩⟩) hn
    ·rename_i id i j
     simp only[RM.eval]at h
     split at h
     ·rename_i c e ho
      rw[Bool.cond_eq_ite]at h
      split at h
      ·rename_i bc
       have bc:j+fd.offset<c.size:=by simpa[Nat.blt,Nat.lt_iff_add_one_le]using bc
       unfold ab ay at hd
       obtain⟨h1,o,cP,hv⟩:=hd
       rw[ho]at cP
       cases cP
       obtain⟨hi,hj,b,f',n',cap,dH,rfl⟩:=hv c e rfl
       refine ax h (fun _=>⟨_,mB ht hf hs hn1 w, ?_⟩) hn
       unfold ab ay
       refine⟨rfl,_,ho,fun c' e' hc=> ?_⟩
       cases hc
       exact⟨hi,bc,b,f',n',cap,dH,by rw[Nat.add_assoc]⟩
      ·cases h
     ·cases h
    ·cases h
   ·cases h
  ·cases h
 ·cases h
theorem gy{t e:TypeId}{n b o len cap:Nat}{k:IntKind}{i:Int}(ht:P.underlying t=some (.slice e))(hs:dj P e=some n)(h0:0≤i)(h1:i<len)(w:World):
 (Instr.indexAt t (.slice (some ⟨b,o,none⟩) len cap) (.int k i)).run P w=.ok (.pointer (some ⟨b,o+i.toNat*n,none⟩)) w:=by
 simp[Instr.indexAt,run_underlying ht,asIntOf,run_sizeOf hs,h0,h1,aS]
theorem gA{t e:TypeId}{n b o len:Nat}{k:IntKind}{i:Int}(ht:P.underlying t=some (.array len e))(hs:dj P e=some n)(h0:0≤i)(h1:i<len)(w:World):
 (Instr.indexAt t (.pointer (some ⟨b,o,none⟩)) (.int k i)).run P w=.ok (.pointer (some ⟨b,o+i.toNat*n,none⟩)) w:=by
 simp[Instr.indexAt,run_underlying ht,asIntOf,Instr.sureAddr,run_sizeOf hs,h0,h1,aS]
theorem wk{t:TypeId}{x i:AV}{vx vi:Value}{q:bw}(h:(oH P t x i).eval H=some q)(hn:bq q.need)(hs:Sat ρ H G w)(hd:ab ρ H (aM ρ H G) w x vx)(hi:ab ρ H (aM ρ H G) w i vi):
 eI P ρ H (aM ρ H G) w q (Instr.indexAt t vx vi):=by
 unfold oH at h
 split at h
 ·rename_i k lit n e mC ht
  obtain rfl:=bN mC hi
  split at h
  ·rename_i sz c bE
   rw[Bool.cond_eq_ite]at h
   split at h
   ·rename_i he
    have he:sz=c.size:=by simpa using he
    have hx:=ah (by simp) hd
    cases hx with
    |ro _ a cap us b o h1 h2 h3 h4 h5=>
     refine ax h (fun cg=> ?_) hn
     obtain⟨h6,h7,_⟩:=cg
     have bc:n.toNat<c.n:=by omega
     obtain⟨rfl,h8,h9⟩:=h3 (by omega)
     refine⟨_,gy ht bE h6 h7 w, ?_⟩
     unfold ab ay
     refine⟨b,o+n.toNat*c.size,fun j=>us n.toNat j,by rw[he];rfl,h8,h9,fun j hj=>⟨h4 _ _ bc hj,h5 _ _ bc hj⟩⟩
   ·cases h
  ·rename_i sz id bE
   simp only[RM.eval]at h
   split at h
   ·rename_i c e' ho
    rw[Bool.cond_eq_ite]at h
    split at h
    ·rename_i he
     simp only[Bool.and_eq_true,Nat.beq_eq]at he
     obtain⟨rfl,hge⟩:=he
     have hge:=Nat.le_of_ble_eq_true hge
     unfold ab ay at hd
     obtain⟨_,o,cP,hv⟩:=hd
     rw[ho]at cP
     cases cP
     obtain rfl:=hv c e' rfl
     obtain⟨a,cap,hr,h2,h3,h4⟩:=hs.obj id _ ho
     refine ax h (fun cg=> ?_) hn
     obtain⟨h6,h7,_⟩:=cg
     rcases h4 with h4|⟨b,o,cells,fr,us,rfl,h5,_⟩
     ·omega
     ·refine⟨.pointer (some ⟨b,o+n.toNat*c.size,none⟩),by rw[hr];exact gy ht bE h6 h7 w, ?_⟩
      unfold ab ay
      refine⟨rfl,_,ho,fun c' e'' hc=> ?_⟩
      cases hc
      exact⟨by omega,by omega,b,o,c.n,cap,hr,rfl⟩
    ·cases h
   ·cases h
  ·rename_i sz id lo m bE
   simp only[RM.eval]at h
   split at h
   ·rename_i c e' ho
    rw[Bool.cond_eq_ite]at h
    split at h
    ·rename_i he
     simp only[Bool.and_eq_true,Nat.beq_eq]at he
     obtain⟨rfl,hge⟩:=he
     have hge:=Nat.le_of_ble_eq_true hge
     unfold ab ay at hd
     obtain⟨_,o,cP,hv⟩:=hd
     rw[ho]at cP
     cases cP
     obtain⟨hlm,a0,atA,a',hr0,auX,rfl,ha'⟩:=hv c e' rfl
     obtain⟨a,cap,hr,h2,h3,h4⟩:=hs.obj id _ ho
     obtain⟨rfl,rfl⟩:=slice_inj (hr0.symm.trans hr)
     refine ax h (fun cg=> ?_) hn
     obtain⟨h6,h7,_⟩:=cg
     rcases h4 with h4|⟨b,o,cells,fr,us,rfl,h5,_⟩
     ·omega
     ·refine⟨.pointer (some ⟨b,o+lo*c.size+n.toNat*c.size,none⟩), ?_, ?_⟩
      ·rw[ha' (by omega)]
       simp only[Option.map_some,aS]
       exact gy ht bE h6 h7 w
      ·unfold ab ay
       refine⟨rfl,_,ho,fun c' e'' hc=> ?_⟩
       cases hc
       exact⟨by omega,by omega,b,o,c.n,cap,hr,by rw[Nat.add_mul,Nat.add_assoc];rfl⟩
    ·cases h
   ·cases h
  ·cases h
 ·rename_i k lit n len e mC ht
  obtain rfl:=bN mC hi
  split at h
  ·rename_i sz id off bE
   unfold ab ay at hd
   obtain⟨b,hb,rfl,dd⟩:=hd
   cases lit
   ·simp only[cond_false]at h
    rw[Bool.cond_eq_ite]at h
    split at h
    ·rename_i h1
     have h1:sz=1:=by simpa using h1
     subst h1
     refine ax h (fun cg=> ?_) hn
     obtain⟨h6,h7,_⟩:=cg
     exact⟨_,gA ht bE h6 h7 w,by unfold ab ay;exact⟨by omega,b,hb,by simp,dd⟩⟩
    ·cases h
   ·simp only[cond_true]at h
    rw[Bool.cond_eq_ite]at h
    split at h
    ·rename_i h1
     simp only[Bool.and_eq_true,decide_eq_true_eq]at h1
     exact ax h (fun _=>⟨_,gA ht bE h1.1 h1.2 w,by unfold ab ay;exact⟨b,hb,rfl,dd⟩⟩) hn
    ·cases h
  ·rename_i sz id i0 bE
   simp only[RM.eval]at h
   split at h
   ·rename_i c e' ho
    rw[Bool.cond_eq_ite]at h
    split at h
    ·rename_i he
     simp only[Bool.and_eq_true,Nat.beq_eq]at he
     obtain⟨rfl,hge⟩:=he
     unfold ab ay at hd
     obtain⟨_,o,cP,hv⟩:=hd
     rw[ho]at cP
     cases cP
     obtain⟨hi0,hc0,b,f,n',cap,hr,rfl⟩:=hv c e' rfl
     refine ax h (fun cg=> ?_) hn
     obtain⟨h6,h7,h8,_⟩:=cg
     refine⟨_,gA ht bE h6 h7 w, ?_⟩
     unfold ab ay
     refine⟨rfl,_,ho,fun c' e'' hc=> ?_⟩
     cases hc
     exact⟨by omega,by omega,b,f,n',cap,hr,by rw[Nat.add_mul];congr 3;omega⟩
    ·cases h
   ·cases h
  ·cases h
 ·cases h
theorem afL{t:TypeId}{x i:AV}{vx vi:Value}{q:bw}(h:(acr P t x i).eval H=some q)(hn:bq q.need)(hd:ab ρ H O w x vx)(hi:ab ρ H O w i vi):
 eI P ρ H O w q (Instr.index t vx vi):=by
 unfold acr at h
 split at h
 ·rename_i k lit n len e kk m ws mC ht
  obtain rfl:=bN mC hi
  rw[Bool.cond_eq_ite]at h
  split at h
  ·rename_i hc
   simp only[Bool.and_eq_true,Nat.beq_eq]at hc
   obtain⟨⟨rfl,pt⟩,bE⟩:=hc
   have aoJ:gv P e=some false:=by cases ha:gv P e with|none=>simp[ha]at pt|some b=>simp[ha]at pt;rw[pt]
   have afM:dj P e=some 1:=by cases ha:dj P e with|none=>simp[ha]at bE|some b=>simp[ha]at bE;rw[bE]
   unfold ab at hd
   obtain⟨hl,rfl⟩:=hd
   refine ax h (fun cg=> ?_) hn
   obtain⟨h6,h7,_⟩:=cg
   have bc:n.toNat<ws.length:=by omega
   refine⟨.int kk (ws.getD n.toNat 0), ?_,aq (.int _ _)⟩
   simp[Instr.index,run_underlying ht,asIntOf,h6,h7,run_sizeOf afM,part,gf aoJ,bc]
  ·cases h
 ·rename_i k lit n s mC ht
  obtain rfl:=bN mC hi
  obtain rfl:=eV hd
  refine ax h (fun cg=> ?_) hn
  obtain⟨h6,h7,_⟩:=cg
  have bc:n.toNat<s.size:=by omega
  refine⟨.int .u8 (aW s n.toNat), ?_,aq (.int _ _)⟩
  have hb:s[n.toNat]? =some s.data[n.toNat]:=by
   simp only[getElem?,decidableGetElem?]
   rw[dif_pos bc]
   rfl
  have aoK:n.toNat<s.data.size:=bc
  simp[Instr.index,run_underlying ht,asIntOf,h6,hb,aW]
  rw[Array.getElem?_eq_getElem aoK]
  rfl
 ·rename_i k lit n len e ak mC ht
  obtain rfl:=bN mC hi
  rw[Bool.cond_eq_ite]at h
  split at h
  ·rename_i hc
   simp only[Bool.and_eq_true]at hc
   obtain⟨pt,bE⟩:=hc
   have aoJ:gv P e=some false:=by cases ha:gv P e with|none=>simp[ha]at pt|some b=>simp[ha]at pt;rw[pt]
   have afM:dj P e=some 1:=by cases ha:dj P e with|none=>simp[ha]at bE|some b=>simp[ha]at bE;rw[bE]
   unfold ab at hd
   obtain⟨cs,rfl,adX⟩:=hd
   split at h
   ·rename_i v hv
    obtain⟨u,h4,h5,h6⟩:=kO ak _ hv adX
    refine ax h (fun cg=>⟨u, ?_,h6⟩) hn
    obtain⟨h7,h8,_⟩:=cg
    simp[Instr.index,run_underlying ht,asIntOf,h7,h8,run_sizeOf afM,part,gf aoJ,h4]
   ·cases h
  ·cases h
 ·cases h
theorem afN{t:TypeId}{x:AV}{f:Nat}{vx:Value}{q:bw}(h:(acs P t x f).eval H=some q)(hn:bq q.need)(hd:ab ρ H O w x vx):
 eI P ρ H O w q (Instr.field t vx f):=by
 unfold acs at h
 split at h
 ·rename_i fs ak ht
  unfold ab at hd
  obtain⟨cs,rfl,adX⟩:=hd
  split at h
  ·rename_i fd hf
   split at h
   ·rename_i sz bE pt
    split at h
    ·rename_i ss hss
     simp only[Option.bind_eq_some_iff]at hss
     obtain⟨s1,h4,h5⟩:=hss
     obtain⟨h6,h7⟩:=eZ ak _ h4 adX
     obtain⟨h8,h9⟩:=e8 s1 sz h5 h7
     refine ax h (fun _=>⟨.agg ((cs.drop fd.offset).take sz).toArray, ?_,kP h9⟩) hn
     simp[Instr.field,run_underlying ht,hf,asAgg,part,gf pt,run_sizeOf bE,List.extract_eq_take_drop]
    ·cases h
   ·rename_i sz bE pt
    split at h
    ·rename_i v hv
     obtain⟨u,h4,h5,h6⟩:=kO ak _ hv adX
     refine ax h (fun _=>⟨u, ?_,h6⟩) hn
     simp[Instr.field,run_underlying ht,hf,asAgg,part,gf pt,h4]
    ·cases h
   ·cases h
  ·cases h
 ·cases h
theorem aad:∀{xs:List AV} {vs:List Value} {i:Nat} {x:AV},bx ρ H O w xs vs→xs[i]? =some x→∃v,vs[i]? =some v∧ab ρ H O w x v
 |[],vs,i,x,_,hx=>by simp at hx
 |a::aA,vs,i,x,h,hx=>by
  obtain⟨v,rest,rfl,h1,h2⟩:=au.1 h
  cases i with
  |zero=>simp at hx;subst hx;exact⟨v,rfl,h1⟩
  |succ i=>obtain⟨u,h3,h4⟩:=aad (i:=i) h2 (by simpa using hx);exact⟨u,by simpa using h3,h4⟩
theorem aae{x:AV}{i:Nat}{vx:Value}{q:bw}(h:(tu x i).eval H=some q)(hn:bq q.need)(hd:ab ρ H O w x vx):
 eI P ρ H O w q (Instr.extract vx i):=by
 unfold tu at h
 split at h
 ·rename_i vs
  unfold ab at hd
  obtain⟨us,rfl,hl⟩:=hd
  split at h
  ·rename_i v hv
   obtain⟨u,h1,h2⟩:=aad hl hv
   exact ax h (fun _=>⟨u,by simp[Instr.extract,h1],h2⟩) hn
  ·cases h
 ·cases h
theorem ji(hs:Sat ρ H G w){id:Nat}{c:aF}{e:TypeId}{v:Value}(ho:H id=some (.vec c e))(hd:ab ρ H O w (.vec id) v):∃a cap,v=.slice a c.n cap∧ρ id=v∧c.n≤cap∧cap≤maxLen:=by
 unfold ab ay at hd
 obtain⟨_,o,cP,hv⟩:=hd
 rw[ho]at cP
 cases cP
 obtain⟨a,cap,h1,h2,h3,_⟩:=hs.obj id _ ho
 exact⟨a,cap,by rw[hv c e rfl,h1],(hv c e rfl).symm,h2,h3⟩
theorem iC(hs:Sat ρ H G w){id lo n:Nat}{c:aF}{e:TypeId}{v:Value}(ho:H id=some (.vec c e))(hd:ab ρ H O w (.part id lo n) v):
 lo+n≤c.n∧∃a cap a',ρ id=.slice a c.n cap∧c.n≤cap∧cap≤maxLen∧v=.slice a' n (cap - lo)∧(cap≠lo→a'=a.map (·.add (lo*c.size)))∧(cap≠0→∃b o,a=some ⟨b,o,none⟩):=by
 unfold ab ay at hd
 obtain⟨_,o,cP,hv⟩:=hd
 rw[ho]at cP
 cases cP
 obtain⟨h0,a,cap,a',h1,h2,h3,h4⟩:=hv c e rfl
 obtain⟨a2,pG,g1,g2,g3,g4⟩:=hs.obj id _ ho
 obtain⟨rfl,rfl⟩:=slice_inj (h1.symm.trans g1)
 refine⟨h0,_,_,a',h1,h2,g3,h3,h4,fun hc=> ?_⟩
 rcases g4 with g4|⟨b,o,_,_,_,g5,_⟩
 ·exact absurd g4 hc
 ·exact⟨b,o,g5⟩
theorem akS{t ty:TypeId}{ts:List TypeId}{x:AV}{vx:Value}{q:bw}(h:(aoC P t x).eval H=some q)(hn:bq q.need)(hs:Sat ρ H G w)(hd:ab ρ H O w x vx):
 eI P ρ H O w q (Builtin.len_ (t::ts).toArray ty #[vx]):=by
 unfold aoC at h
 split at h
 ·rename_i s ht
  obtain rfl:=eV hd
  exact ax h (fun _=>⟨_,by simp[Builtin.len_,run_underlying ht];rfl,aq (.int _ _)⟩) hn
 ·rename_i n e ht
  exact ax h (fun _=>⟨_,by cases vx<;>simp[Builtin.len_,run_underlying ht]<;>rfl,aq (.aZ _ _)⟩) hn
 ·rename_i e c ht
  have hx:=ah (by simp) hd
  cases hx
  exact ax h (fun _=>⟨_,by simp[Builtin.len_,run_underlying ht];rfl,aq (.int _ _)⟩) hn
 ·rename_i e c k ht
  have hx:=ah (by simp) hd
  cases hx with
  |yi _ _ a n cap h1 h2=>
   cases h1
   exact ax h (fun _=>⟨_,by simp[Builtin.len_,run_underlying ht];rfl,aq (.int _ _)⟩) hn
 ·rename_i e ht
  unfold ab at hd
  obtain⟨a,rfl⟩:=hd
  exact ax h (fun _=>⟨_,by simp[Builtin.len_,run_underlying ht];rfl,aq (.aZ _ _)⟩) hn
 ·rename_i e id ht
  simp only[RM.eval]at h
  split at h
  ·rename_i c e' ho
   obtain⟨a,cap,rfl,_⟩:=ji hs ho hd
   exact ax h (fun _=>⟨_,by simp[Builtin.len_,run_underlying ht];rfl,aq (.int _ _)⟩) hn
  ·cases h
 ·rename_i e id lo n ht
  simp only[RM.eval]at h
  split at h
  ·rename_i c e' ho
   obtain⟨_,a,cap,a',_,_,_,rfl,_⟩:=iC hs ho hd
   exact ax h (fun _=>⟨_,by simp[Builtin.len_,run_underlying ht];rfl,aq (.int _ _)⟩) hn
  ·cases h
 ·rename_i kt et id ht
  simp only[RM.eval]at h
  split at h
  ·rename_i ck m ho
   unfold ab ay at hd
   obtain⟨b,hb,rfl,_⟩:=hd
   obtain⟨b',es,clock,h1,h2,h3⟩:=hs.obj id _ ho
   rw[hb]at h1
   cases h1
   have e1:(getObj b).run P w=.ok (.map es clock) w:=by simp[getObj,Sem.run,h2]
   have e2:es.size=m.length:=by have:=congrArg List.length h3.eq;simpa using this
   exact ax h (fun _=>⟨.int .i64 m.length,by simp[Builtin.len_,run_underlying ht,e1,e2];rfl,aq (.int _ _)⟩) hn
  ·cases h
 ·cases h
theorem akT{t ty:TypeId}{ts:List TypeId}{x:AV}{vx:Value}{q:bw}(h:(aoD P t x).eval H=some q)(hn:bq q.need)(hs:Sat ρ H G w)(hd:ab ρ H O w x vx):
 eI P ρ H O w q (Builtin.cap_ (t::ts).toArray ty #[vx]):=by
 unfold aoD at h
 split at h
 ·rename_i e c k ht
  have hx:=ah (by simp) hd
  cases hx with
  |yi _ _ a n cap h1 h2=>exact ax h (fun _=>⟨_,by simp[Builtin.cap_,run_underlying ht];rfl,aq (.n7 _ _ (by omega))⟩) hn
 ·rename_i e id ht
  simp only[RM.eval]at h
  split at h
  ·rename_i c e' ho
   obtain⟨a,cap,rfl,_,hle,_⟩:=ji hs ho hd
   exact ax h (fun _=>⟨_,by simp[Builtin.cap_,run_underlying ht];rfl,aq (.l7 _ _ (by omega))⟩) hn
  ·cases h
 ·rename_i e id lo n ht
  simp only[RM.eval]at h
  split at h
  ·rename_i c e' ho
   obtain⟨_,a,cap,a',_,hle,_,rfl,_⟩:=iC hs ho hd
   exact ax h (fun _=>⟨_,by simp[Builtin.cap_,run_underlying ht];rfl,aq (.l7 _ _ (by omega))⟩) hn
  ·cases h
 ·cases h
theorem ob(op:BinOp)(t:TypeId)(x y:Operand)(a b:Option Addr)(n c m d:Nat):(eqGuard op t x y (.slice a n c) (.slice b m d)).run P w=.ok () w:=by
 cases op<;>simp[eqGuard]
theorem akU{op:BinOp}{t:TypeId}{x:AV}{ox oy:Operand}{vx vy:Value}{q:bw}(h:(aoF P op t x).eval H=some q)(hn:bq q.need)(hs:Sat ρ H G w)
 (hx:ab ρ H O w x vx) (hy:vy=.slice none 0 0):eI P ρ H O w q (do eqGuard op t ox oy vx vy;binOp op t vx vy:Sem Value):=by
 subst hy
 have key:∀e,P.underlying t=some (.slice e)→(op=.eql∨op=.neq)→∀a n c n',vx=.slice a n c→(a=none→n'=0)→(plain [] (.s (.j8 n' (pB op)))).eval H=some q→eI P ρ H O w q (do eqGuard op t ox oy vx (.slice none 0 0);binOp op t vx (.slice none 0 0):Sem Value):=by
  rintro e ht v8 a n c n' rfl ha h
  refine ax h (fun _=> ?_) hn
  rcases v8 with rfl|rfl
  ·exact⟨.bool a.isNone,by simp[ob,Lib.run_eql_slice_nil w t e a n c 0 0 ht],aq (.j8 _ _ _ (fun e=>ha (by simpa[pB]using e)))⟩
  ·exact⟨.bool (!a.isNone),by simp[ob,run_neq_slice_nil_any w t e a n c 0 0 ht],aq (.j8 _ _ _ (fun e=>ha (by simpa[pB]using e)))⟩
 have akV:∀x,ab ρ H O w x vx→(op=.eql∨op=.neq)→(match P.underlying t with
  |some (.slice _)=>
   match x with
   |.s (.ro c)=>plain [] (.s (.j8 c.n (pB op)))
   |.emp=>plain [] (.s (.j8 0 (pB op)))
   |.vec id=>.look id fun o=>match o with
    |some (.vec c _)=>plain [] (.s (.j8 c.n (pB op)))
    |_=>.fail "== nil: no row"
   |_=>.fail "== nil"
  |_=>.fail "== nil: the type" :RM bw).eval H=some q→eI P ρ H O w q (do eqGuard op t ox oy vx (.slice none 0 0);binOp op t vx (.slice none 0 0):Sem Value):=by
  intro x hx v8 h
  split at h
  ·rename_i e ht
   split at h
   ·have h1:=ah (by simp) hx
    cases h1 with
    |ro c a cap us b o q1 q2 q3 q4 q5=>exact key e ht v8 _ _ _ _ rfl (fun ha=>Decidable.byContradiction fun hn0=>by have:=(q3 (Nat.pos_of_ne_zero hn0)).1;rw[ha]at this;cases this) h
   ·unfold ab at hx
    obtain⟨a,rfl⟩:=hx
    exact key e ht v8 _ _ _ _ rfl (fun _=>rfl) h
   ·simp only[RM.eval]at h
    split at h
    ·rename_i ho
     obtain⟨a,cap,rfl,dH,hle,_⟩:=ji hs ho hx
     refine key e ht v8 _ _ _ _ rfl (fun ha=> ?_) h
     obtain⟨a2,pG,ahr,_,_,h3⟩:=hs.obj _ _ ho
     rw[dH]at ahr
     cases ahr
     rcases h3 with h3|⟨_,_,_,_,_,h3,_⟩
     ·omega
     ·rw[ha]at h3;cases h3
    ·cases h
   ·cases h
  ·cases h
 unfold aoF at h
 split at h
 ·exact akV x hx (.inl rfl) h
 ·exact akV x hx (.inr rfl) h
 ·cases h
theorem acD{op:BinOp}{t:TypeId}{x y:AV}{ox oy:Operand}{vx vy:Value}{q:bw}(h:(yp op x y).eval H=some q)(hn:bq q.need)
 (hx:ab ρ H O w x vx) (hy:ab ρ H O w y vy):eI P ρ H O w q (do eqGuard op t ox oy vx vy;binOp op t vx vy:Sem Value):=by
 unfold yp at h
 split at h
 ·rename_i l a b h1
  obtain rfl:=bN h1 hx
  have hy:=ah (by simp) hy
  cases hy with
  |l7 _ n hge=>
   refine ax h (fun cg=> ?_) hn
   obtain⟨h3,_⟩:=cg
   refine⟨.bool false, ?_,aq (.aI _)⟩
   have:¬a>n:=by omega
   simp[gb,binOp,Op.intCmp,this]
 ·rename_i l a b h1
  obtain rfl:=bN h1 hx
  have hy:=ah (by simp) hy
  cases hy with
  |n7 _ n bc=>
   refine ax h (fun cg=> ?_) hn
   obtain⟨h3,_⟩:=cg
   refine⟨.bool true, ?_,aq (.aI _)⟩
   have:a>n:=by omega
   simp[gb,binOp,Op.intCmp,this]
 ·cases h
theorem kR{x:AV}{v:Value}(h:ab ρ H O w x v):ab ρ H O w (n9 x) v:=by
 unfold n9
 split
 ·have h1:=ah (by simp) h
  cases h1
  unfold ab
  exact⟨none,rfl⟩
 ·exact h
theorem ahs{x:AV}{v:Value}(h:ab ρ H O w x v)(hx:acA x=true):v=.slice none 0 0:=by
 unfold acA at hx
 split at hx
 ·have h1:=ah (by simp) h
  cases h1
  rfl
 ·cases hx
theorem adY{ts:Array TypeId}{ty:TypeId}{mx:Bool}{x y:AV}{vx vy:Value}{q:bw}(h:(akM mx x y).eval H=some q)(hn:bq q.need)(hx:ab ρ H O w x vx)(hy:ab ρ H O w y vy):
 eI P ρ H O w q (if mx then Builtin.max_ ts ty #[vx,vy]else Builtin.min_ ts ty #[vx,vy]):=by
 unfold akM at h
 split at h
 ·rename_i k lx a k' ly b h1 h2
  obtain rfl:=bN h1 hx
  obtain rfl:=bN h2 hy
  rw[Bool.cond_eq_ite]at h
  split at h
  ·rename_i hk
   obtain rfl:=aX hk
   cases mx
   ·exact ax h (fun _=>⟨_,by simp[run_min_int2,oK],ga _ _ _⟩) hn
   ·exact ax h (fun _=>⟨_,by simp[run_max_int2,imax],ga _ _ _⟩) hn
  ·cases h
 ·cases h
theorem yx{x:AV}{vx:Value}{q:bw}(h:(qO x).eval H=some q)(hn:bq q.need)(hd:ab ρ H O w x vx)(e:Operand→Value)(o:Oper)(y:Operand)(ho:o.op=.nilCheck y)(he:e y=vx):
 q.up=[]∧q.new=[]∧(execOp e o).run P w=.ok (.value vx) w∧∀base,ab ρ H O w (q.r base) vx:=by
 have fin:∀r,(plain [] r).eval H=some q→r=x→(execOp e o).run P w=.ok (.value vx) w→q.up=[]∧q.new=[]∧(execOp e o).run P w=.ok (.value vx) w∧∀base,ab ρ H O w (q.r base) vx:=by
  intro r hr hx iS
  simp only[plain,RM.eval,Option.some.injEq]at hr
  subst hr;subst hx
  exact⟨rfl,rfl,iS,fun _=>hd⟩
 unfold qO at h
 split at h
 ·unfold ab ay at hd;obtain⟨b,_,rfl,_⟩:=hd;exact fin _ h rfl (by simp[execOp,ho,he])
 ·unfold ab ay at hd;obtain⟨_,b,_,rfl,_⟩:=hd;exact fin _ h rfl (by simp[execOp,ho,he])
 ·unfold ab ay at hd;obtain⟨b,o',us,rfl,_⟩:=hd;exact fin _ h rfl (by simp[execOp,ho,he])
 ·unfold ab at hd;obtain⟨vs,rfl,_⟩:=hd;exact fin _ h rfl (by simp[execOp,ho,he])
 ·have h1:=ah (by simp) hd;cases h1;exact fin _ h rfl (by simp[execOp,ho,he])
 ·cases h
theorem yy{fn:Fn}{first dY:List AV}{vf vc:List Value}{q:bw}(h:(qP fn first dY).eval H=some q)(hn:bq q.need)(hf:bx ρ H O w first vf)(hc:bx ρ H O w dY vc):
 eI P ρ H O w q (Instr.makeFunc fn vf.toArray vc.toArray):=by
 unfold qP at h
 split at h
 ·rename_i f
  obtain rfl:=aV.1 hf
  obtain rfl:=aV.1 hc
  exact ax h (fun _=>⟨_,rfl,aq (.kM f)⟩) hn
 ·rename_i f c cs
  obtain rfl:=aV.1 hf
  exact ax h (fun _=>⟨_,rfl,by unfold ab;exact⟨vc,rfl,hc⟩⟩) hn
 ·cases h
end
end Go.Sx
namespace Go.Sx
open Go
section
variable{ρ az:Nat→Value}{H H':aH}{G O O':Nat→Prop}{w w':World}{P:Program}
def mE(ρ:Nat→Value)(H:aH)(O:Nat→Prop)(w:World):Option AV→Option Value→Prop
 |none,none=>True
 |some a,some v=>ab ρ H O w a v
 |_,_=>False
theorem b4{d n:Int}{o:Option AV}{vo:Option Value}(h:fZ d o=some n)(hd:mE ρ H O w o vo):(vo=none∧n=d)∨∃k,vo=some (.int k n):=by
 cases o with
 |none=>
  cases vo with
  |none=>simp only[fZ,Option.some.injEq]at h;exact .inl ⟨rfl,h.symm⟩
  |some v=>exact hd.elim
 |some a=>
  cases vo with
  |none=>exact hd.elim
  |some v=>
   simp only[fZ,Option.map_eq_some_iff]at h
   obtain⟨⟨k,l,m⟩,h1,rfl⟩:=h
   exact .inr ⟨k,by rw[bN h1 hd]⟩
theorem nx(c:aF){l h:Nat}(_hl:l≤h)(hh:h≤c.n):(de c l h).n=h - l:=by
 cases c<;>simp only[de,aF.n,List.length_drop,List.length_take]at * <;>omega
theorem jj(c:aF)(l h:Nat):(de c l h).size=c.size:=by cases c<;>rfl
theorem aht{α:Type}(zs:List α)(d:α){l h i:Nat}(hi:i<h - l):((zs.take h).drop l).getD i d=zs.getD (l+i) d:=by
 simp only[List.getD,List.getElem?_drop,List.getElem?_take]
 rw[if_pos (by omega)]
theorem jk(c:aF){l h i:Nat}(j:Nat)(hi:i<h - l):(de c l h).cell i j=c.cell (l+i) j:=by
 cases c<;>simp only[de,aF.cell,aht _ _ hi]
theorem aaf{s:ByteArray}{lo hi:Option Value}{l h:Int}(hl:(lo=none∧l=0)∨∃k,lo=some (.int k l))(hh:(hi=none∧h=(s.size:Int))∨∃k,hi=some (.int k h))
 (h0:0≤l) (h1:l≤h) (h2:h≤s.size) {t:TypeId} (ht:P.underlying t=some .string) (w:World):
 (Instr.sliceAt t (.string s) lo hi none).run P w=.ok (.string (s.extract l.toNat h.toNat)) w:=by
 have hle:l≤((h.toNat:Nat):Int):=by omega
 rcases hl with⟨rfl,rfl⟩|⟨k,rfl⟩<;>rcases hh with⟨rfl,rfl⟩|⟨k',rfl⟩
 ·simp[Instr.sliceAt,Instr.slice,run_underlying ht,Instr.sliceBounds]
 ·simp[Instr.sliceAt,Instr.slice,run_underlying ht,Instr.sliceBounds,run_sliceBound _ _ _ _ _ h1 h2]
 ·simp[Instr.sliceAt,Instr.slice,run_underlying ht,Instr.sliceBounds,run_sliceBound _ _ _ _ _ h0 h1]
 ·simp[Instr.sliceAt,Instr.slice,run_underlying ht,Instr.sliceBounds,run_sliceBound _ _ _ _ _ (show 0≤h by omega) h2,run_sliceBound _ _ _ _ _ h0 hle]
theorem kT{a:Option Addr}{n cap:Nat}{lo hi:Option Value}{l h:Int}(hl:(lo=none∧l=0)∨∃k,lo=some (.int k l))(hh:(hi=none∧h=(n:Int))∨∃k,hi=some (.int k h))
 (h0:0≤l) (h1:l≤h) (h2:h≤cap) {t e:TypeId} (ht:P.underlying t=some (.slice e)) {sz:Nat} (hs:dj P e=some sz) (w:World):
 (Instr.sliceAt t (.slice a n cap) lo hi none).run P w=.ok (.slice (if cap=l.toNat then a else a.map (·.add (l.toNat*sz))) (h.toNat - l.toNat) (cap - l.toNat)) w:=by
 have hle:l≤((h.toNat:Nat):Int):=by omega
 rcases hl with⟨rfl,rfl⟩|⟨k,rfl⟩<;>rcases hh with⟨rfl,rfl⟩|⟨k',rfl⟩
 ·simp[Instr.sliceAt,Instr.slice,run_underlying ht,Instr.sliceBounds,run_sizeOf hs]
 ·simp[Instr.sliceAt,Instr.slice,run_underlying ht,Instr.sliceBounds,run_sliceBound _ _ _ _ _ h1 h2,run_sizeOf hs]
 ·simp[Instr.sliceAt,Instr.slice,run_underlying ht,Instr.sliceBounds,run_sliceBound _ _ _ _ _ h0 h1,run_sizeOf hs]
 ·simp[Instr.sliceAt,Instr.slice,run_underlying ht,Instr.sliceBounds,run_sliceBound _ _ _ _ _ (show 0≤h by omega) h2,run_sliceBound _ _ _ _ _ h0 hle,run_sizeOf hs]
theorem rV{b o n:Nat}{lo hi:Option Value}{l h:Int}(hl:(lo=none∧l=0)∨∃k,lo=some (.int k l))(hh:(hi=none∧h=(n:Int))∨∃k,hi=some (.int k h))
 (h0:0≤l) (h1:l≤h) (h2:h≤n) {t e:TypeId} (ht:P.underlying t=some (.array n e)) (hs:dj P e=some 1) (w:World):
 ∃a,(Instr.sliceAt t (.pointer (some ⟨b,o,none⟩)) lo hi none).run P w=.ok (.slice a (h.toNat - l.toNat) (n - l.toNat)) w∧(h.toNat - l.toNat≠0→a=some ⟨b,o+l.toNat,none⟩):=by
 have hle:l≤((h.toNat:Nat):Int):=by omega
 refine⟨some (if n=l.toNat then⟨b,o,none⟩else(⟨b,o,none⟩:Addr).add (l.toNat*1)), ?_,fun cg=>by rw[if_neg (by omega),aS,Nat.mul_one]⟩
 rcases hl with⟨rfl,rfl⟩|⟨k,rfl⟩<;>rcases hh with⟨rfl,rfl⟩|⟨k',rfl⟩
 ·simp[Instr.sliceAt,Instr.sureAddr,run_underlying ht,Instr.sliceBounds,run_sizeOf hs]
 ·simp[Instr.sliceAt,Instr.sureAddr,run_underlying ht,Instr.sliceBounds,run_sliceBound _ _ _ _ _ h1 h2,run_sizeOf hs]
 ·simp[Instr.sliceAt,Instr.sureAddr,run_underlying ht,Instr.sliceBounds,run_sliceBound _ _ _ _ _ h0 h1,run_sizeOf hs]
 ·simp[Instr.sliceAt,Instr.sureAddr,run_underlying ht,Instr.sliceBounds,run_sliceBound _ _ _ _ _ (show 0≤h by omega) h2,run_sliceBound _ _ _ _ _ h0 hle,run_sizeOf hs]
theorem acE{c:aF}{v:Value}(hx:aL O w (.ro c) v){l h:Nat}(hl:l≤h)(hh:h≤c.n):∃a cap,v=.slice a c.n cap∧c.n≤cap∧
 ∀sz,sz=c.size→aL O w (.ro (de c l h)) (.slice (if cap=l then a else a.map (·.add (l*sz))) (h - l) (cap - l)):=by
 cases hx with
 |ro _ a cap us b o h1 h2 h3 h4 h5=>
  refine⟨a,cap,rfl,h1, ?_⟩
  rintro sz rfl
  have hn:=nx c hl hh
  have bE:=jj c l h
  have key:=aL.ro (O:=O) (w:=w) (de c l h) (if cap=l then a else a.map (·.add (l*c.size))) (cap - l) (fun i j=>us (l+i) j) b (o+l*c.size) (by omega) (by omega)
   (fun h0=>by
     obtain⟨rfl,h6,h7⟩:=h3 (by omega)
     refine⟨?_,h6,h7⟩
     rw[if_neg (by omega)]
     simp only[Option.map_some,aS])
   (fun i j hi hj=>by
     rw[hn]at hi
     rw[bE]at hj ⊢
     have:=h4 (l+i) j (by omega) hj
     rw[show o+l*c.size+i*c.size+j=o+(l+i)*c.size+j from by rw[Nat.add_mul];omega]
     exact this)
   (fun i j hi hj=>by
     rw[hn]at hi
     rw[bE]at hj
     rw[jk c j hi]
     exact h5 _ _ (by omega) hj)
  rw[hn]at key
  exact key
theorem ahu(a:Option Addr)(hf:∃b o,a=some ⟨b,o,none⟩)(x y:Nat):(a.map (·.add x)).map (·.add y)=a.map (·.add (x+y)):=by
 obtain⟨b,o,rfl⟩:=hf
 simp only[Option.map_some,aS,Nat.add_assoc]
theorem aag{t e e':TypeId}{c:aF}{id lo0 n:Nat}{lo hi mx:Option AV}{vlo vhi wm:Option Value}{q:bw}(h:(adU P e c id lo0 n lo hi mx).eval H=some q)(hn:bq q.need)
 (ht:P.underlying t=some (.slice e)) (ho:H id=some (.vec c e')) {a a':Option Addr} {cap:Nat} (hr:ρ id=.slice a c.n cap) (wo:c.n≤cap) (hln:lo0+n≤c.n) (ha':cap≠lo0→a'=a.map (·.add (lo0*c.size)))
 (hf:cap≠0→∃b o,a=some ⟨b,o,none⟩) (hlo:mE ρ H O w lo vlo) (hhi:mE ρ H O w hi vhi) (hmx:mE ρ H O w mx wm):
 eI P ρ H O w q (Instr.sliceAt t (.slice a' n (cap - lo0)) vlo vhi wm):=by
 unfold adU at h
 split at h
 ·rename_i sz bE
  rw[Bool.cond_eq_ite]at h
  split at h
  ·rename_i hz
   have hz:sz=c.size:=by simpa using hz
   subst hz
   split at h
   ·obtain rfl:wm=none:=by cases wm<;>first|rfl|exact hmx.elim
    split at h
    ·rename_i l hh h1 h2
     refine ax h (fun cg=> ?_) hn
     obtain⟨h3,h4,h5,_⟩:=cg
     refine⟨_,kT (b4 h1 hlo) (b4 h2 hhi) h3 h4 (by omega) ht bE w, ?_⟩
     unfold ab ay
     refine⟨rfl,_,ho,fun c' e'' hc=> ?_⟩
     cases hc
     refine⟨by omega,a,cap,_,hr,wo,by rw[Nat.sub_sub],fun cg=> ?_⟩
     have hc0:cap≠lo0:=by omega
     rw[if_neg (by omega),ha' hc0,ahu _ (hf (by omega)),Nat.add_mul]
    ·cases h
   ·rename_i m
    split at h
    ·rename_i l kh lh hh km lm m' h1 h2 h3
     refine ax h (fun cg=> ?_) hn
     obtain⟨g1,g2,g3,g4,_⟩:=cg
     simp only[Option.bind_eq_some_iff]at h2
     obtain⟨ha,rfl,h2⟩:=h2
     cases wm with
     |none=>exact hmx.elim
     |some vm=>
      cases vhi with
      |none=>exact hhi.elim
      |some vh=>
       obtain rfl:=bN h3 hmx
       obtain rfl:=bN h2 hhi
       have e1:m'≤(((cap - lo0:Nat):Int)):=by omega
       have e2:hh≤((m'.toNat:Nat):Int):=by omega
       have e3:l≤((hh.toNat:Nat):Int):=by omega
       rcases b4 h1 hlo with⟨rfl,rfl⟩|⟨k1,rfl⟩
       ·exact⟨_,by simp[Instr.sliceAt,Instr.slice,run_underlying ht,Instr.sliceBounds,run_sliceBound _ _ _ _ _ (show 0≤m' by omega) e1,run_sliceBound _ _ _ _ _ (show 0≤hh by omega) e2,run_sizeOf bE];rfl,by unfold ab;trivial⟩
       ·exact⟨_,by simp[Instr.sliceAt,Instr.slice,run_underlying ht,Instr.sliceBounds,run_sliceBound _ _ _ _ _ (show 0≤m' by omega) e1,run_sliceBound _ _ _ _ _ (show 0≤hh by omega) e2,run_sliceBound _ _ _ _ _ g1 e3,run_sizeOf bE];rfl,by unfold ab;trivial⟩
    ·cases h
  ·cases h
 ·cases h
theorem afO(hs:Sat ρ H G w){t:TypeId}{x:AV}{lo hi mx:Option AV}{vx:Value}{vlo vhi wm:Option Value}{q:bw}(h:(acy P t x lo hi mx).eval H=some q)(hn:bq q.need)
 (hd:ab ρ H O w x vx) (hlo:mE ρ H O w lo vlo) (hhi:mE ρ H O w hi vhi) (hmx:mE ρ H O w mx wm):
 eI P ρ H O w q (Instr.sliceAt t vx vlo vhi wm):=by
 unfold acy at h
 split at h
 ·rename_i s ht
  obtain rfl:=eV hd
  split at h
  ·rename_i l hh h1 h2
   obtain rfl:wm=none:=by cases wm<;>first|rfl|exact hmx.elim
   refine ax h (fun cg=> ?_) hn
   obtain⟨h3,h4,h5,_⟩:=cg
   exact⟨_,aaf (b4 h1 hlo) (b4 h2 hhi) h3 h4 h5 ht w,aq (.str _)⟩
  ·cases h
 ·rename_i e ht
  unfold ab at hd
  obtain⟨a,rfl⟩:=hd
  split at h
  ·rename_i sz l hh bE h1 h2
   obtain rfl:wm=none:=by cases wm<;>first|rfl|exact hmx.elim
   refine ax h (fun cg=> ?_) hn
   obtain⟨rfl,rfl,_⟩:=cg
   exact⟨_,kT (b4 h1 hlo) (b4 h2 hhi) (by omega) (by omega) (by omega) ht bE w,by unfold ab;exact⟨a,by simp⟩⟩
  ·cases h
 ·rename_i e c ht
  have hx:=ah (by simp) hd
  split at h
  ·rename_i sz bE
   rw[Bool.cond_eq_ite]at h
   split at h
   ·rename_i hz
    have hz:sz=c.size:=by simpa using hz
    split at h
    ·obtain rfl:wm=none:=by cases wm<;>first|rfl|exact hmx.elim
     split at h
     ·rename_i l hh h1 h2
      refine ax h (fun cg=> ?_) hn
      obtain⟨h3,h4,h5,_⟩:=cg
      obtain⟨a,cap,rfl,hle,ahv⟩:=acE hx (l:=l.toNat) (h:=hh.toNat) (by omega) (by omega)
      exact⟨_,kT (b4 h1 hlo) (b4 h2 hhi) h3 h4 (by omega) ht bE w,aq (ahv sz hz)⟩
     ·cases h
    ·rename_i m
     split at h
     ·rename_i l kh lh hh km lm m' h1 h2 h3
      refine ax h (fun cg=> ?_) hn
      obtain⟨rfl,rfl,rfl,_⟩:=cg
      simp only[Option.bind_eq_some_iff]at h2
      obtain⟨ha,rfl,h2⟩:=h2
      cases wm with
      |none=>exact hmx.elim
      |some vm=>
       cases vhi with
       |none=>exact hhi.elim
       |some vh=>
        obtain rfl:=bN h3 hmx
        obtain rfl:=bN h2 hhi
        cases hx with
        |ro _ a cap us b o g1 g2 g3 g4 g5=>
         refine⟨.slice a 0 0, ?_,by unfold ab;exact⟨a,rfl⟩⟩
         have hb:∀(k:IntKind) (y:Nat) (code:BoundsCode) (w:World),(Instr.sliceBound (.int k 0) y code).run P w=.ok 0 w:=fun k y code w=>by
          rw[run_sliceBound _ _ _ _ _ (by omega) (by omega)];rfl
         rcases b4 h1 hlo with⟨rfl,_⟩|⟨k1,rfl⟩
         ·simp[Instr.sliceAt,Instr.slice,run_underlying ht,Instr.sliceBounds,hb,run_sizeOf bE]
         ·simp[Instr.sliceAt,Instr.slice,run_underlying ht,Instr.sliceBounds,hb,run_sizeOf bE]
     ·cases h
   ·cases h
  ·cases h
 ·rename_i e c k ht
  have hx:=ah (by simp) hd
  obtain⟨a0,n0,atA,rfl,hx,bc⟩:∃a n cap,vx=.slice a n cap∧aL O w (.ro c) vx∧cap<k:=by
   cases hx with
   |yi _ _ a n cap h1 h2=>exact⟨a,n,cap,rfl,h1,h2⟩
  split at h
  ·rename_i sz bE
   rw[Bool.cond_eq_ite]at h
   split at h
   ·rename_i hz
    have hz:sz=c.size:=by simpa using hz
    obtain rfl:wm=none:=by cases wm<;>first|rfl|exact hmx.elim
    split at h
    ·rename_i hh h2
     obtain rfl:vlo=none:=by cases vlo<;>first|rfl|exact hlo.elim
     refine ax h (fun cg=> ?_) hn
     obtain⟨h4,h5,_⟩:=cg
     obtain⟨a,cap,e0,hle,ahv⟩:=acE hx (l:=0) (h:=hh.toNat) (by omega) (by omega)
     cases e0
     have hd2:=ahv sz hz
     exact⟨_,kT (l:=0) (.inl ⟨rfl,rfl⟩) (b4 h2 hhi) (by omega) h4 (by omega) ht bE w,aq (.yi _ _ _ _ _ hd2 (by omega))⟩
    ·rename_i l hh h2
     split at h
     ·rename_i kl ll l' h1
      refine ax h (fun cg=> ?_) hn
      obtain⟨h3,h4,h5,_⟩:=cg
      obtain⟨a,cap,e0,hle,ahv⟩:=acE hx (l:=l'.toNat) (h:=hh.toNat) (by omega) (by omega)
      cases e0
      have h1':fZ 0 (some l)=some l':=by simp[fZ,h1]
      exact⟨_,kT (b4 h1' hlo) (b4 h2 hhi) h3 h4 (by omega) ht bE w,aq (ahv sz hz)⟩
     ·cases h
    ·cases h
   ·cases h
  ·cases h
 ·rename_i e id ht
  simp only[RM.eval]at h
  split at h
  ·rename_i c e' ho
   obtain⟨a,cap,rfl,hr,hle,_⟩:=ji hs ho hd
   have dL:=hs.obj id _ ho
   rw[hr]at dL
   obtain⟨a2,pG,g1,_,_,g4⟩:=dL
   cases g1
   have hf:cap≠0→∃b o,a=some ⟨b,o,none⟩:=fun hc=>by
    rcases g4 with g4|⟨b,o,_,_,_,g5,_⟩
    ·exact absurd g4 hc
    ·exact⟨b,o,g5⟩
   have:=aag (a':=a) h hn ht ho hr hle (by omega) (fun hc=>by
    obtain⟨b,o,rfl⟩:=hf hc
    simp[aS]) hf hlo hhi hmx
   simpa using this
  ·cases h
 ·rename_i e id lo0 n ht
  simp only[RM.eval]at h
  split at h
  ·rename_i c e' ho
   obtain⟨h0,a,cap,a',h1,h2,h3,rfl,h4,h5⟩:=iC hs ho hd
   exact aag h hn ht ho h1 h2 h0 h4 h5 hlo hhi hmx
  ·cases h
 ·rename_i n e id off ht
  split at h
  ·rename_i sz l hh bE h1 h2
   obtain rfl:wm=none:=by cases wm<;>first|rfl|exact hmx.elim
   rw[Bool.cond_eq_ite]at h
   split at h
   ·rename_i h1s
    obtain rfl:sz=1:=by simpa using h1s
    unfold ab ay at hd
    obtain⟨b,hb,rfl,hi⟩:=hd
    refine ax h (fun cg=> ?_) hn
    obtain⟨h3,h4,h5,_⟩:=cg
    obtain⟨a,e1,e2⟩:=rV (b:=b) (o:=off) (b4 h1 hlo) (b4 h2 hhi) h3 h4 h5 ht bE w
    refine⟨_,e1, ?_⟩
    unfold ab ay
    exact⟨rfl,b,a,_,hb,rfl,e2,hi⟩
   ·cases h
  ·cases h
 ·rename_i n e id i j ht
  split at h
  ·rename_i sz l hh bE h1 h2
   obtain rfl:wm=none:=by cases wm<;>first|rfl|exact hmx.elim
   simp only[RM.eval]at h
   split at h
   ·rename_i c e' ho
    rw[Bool.cond_eq_ite]at h
    split at h
    ·rename_i h1s
     simp only[Bool.and_eq_true,Nat.beq_eq]at h1s
     obtain⟨rfl,hjn⟩:=h1s
     have hjn:=Nat.le_of_ble_eq_true hjn
     unfold ab ay at hd
     obtain⟨h0,o,cP,hv⟩:=hd
     rw[ho]at cP
     cases cP
     obtain⟨g1,g2,b,f,n',cap,g3,rfl⟩:=hv c e' rfl
     refine ax h (fun cg=> ?_) hn
     obtain⟨h3,h4,h5,_⟩:=cg
     obtain⟨a,e1,e2⟩:=rV (b:=b) (o:=f+i*c.size+j) (b4 h1 hlo) (b4 h2 hhi) h3 h4 h5 ht bE w
     refine⟨_,e1, ?_⟩
     unfold ab ay
     refine⟨rfl,_,ho,fun c2 e2' hc=> ?_⟩
     cases hc
     exact⟨g1,by omega,b,f,n',cap,a,_,g3,rfl,fun hz=>by rw[e2 hz,Nat.add_assoc]⟩
    ·cases h
   ·cases h
  ·cases h
 ·cases h
theorem yz(zs:List Int):∀(l:List Value) (s:ByteArray) (w:World),l=zs.map (Value.int .u8)→
 (forIn (m:=Sem) l s fun c s=>do
   match c with
   |.int .u8 n=>pure (ForInStep.yield (s.push (UInt8.ofNat n.toNat)))
   |_=>do
    stuck "bytesToString: byte expected"
    pure (ForInStep.yield s)).run P w=.ok ⟨s.data++(zs.map fun n=>UInt8.ofNat n.toNat).toArray⟩ w:=by
 induction zs with
 |nil=>intro l s w h;subst h;simp
 |cons z zs ih=>
  intro l s w h
  subst h
  simp only[List.map_cons,List.forIn_cons,Sem.run_bind,Sem.run_pure,Result.andThen_ok]
  rw[ih _ _ _ rfl]
  congr 2
  simp[ByteArray.push]
def oP(O:Nat→Prop)(w:World)(c:aF)(v:Value):Prop:=
 ∃(a:Option Addr) (cap:Nat) (us:Nat→Nat→Value),v=.slice a c.n cap∧c.n≤cap∧cap≤maxLen∧(0<c.n→∃b o,a=some ⟨b,o,none⟩∧b<w.heap.size∧
  ∀i j,i<c.n→j<c.size→w.cell? ⟨b,o+i*c.size+j,none⟩=some (us i j)∧aL O w (c.cell i j) (us i j))
theorem tJ(sh:Shape)(size:Nat):(ahk sh size).n=0:=by cases sh<;>rfl
theorem tK{sh:Shape}{size:Nat}{x:AV}{k:aF→Option Nat→RM bw}{v:Value}{q:bw}(h:(rowOf sh size x k).eval H=some q)(hs:Sat ρ H G w)(hd:ab ρ H (aM ρ H G) w x v):
 ∃c idy,(k c idy).eval H=some q∧oP (aM ρ H G) w c v:=by
 unfold rowOf at h
 split at h
 ·split at h
  ·rename_i c
   have hx:=ah (by simp) hd
   cases hx with
   |ro _ a cap us b o g1 g2 g3 g4 g5=>
    refine⟨c,none,h,a,cap,us,rfl,g1,g2,fun h0=> ?_⟩
    obtain⟨rfl,_,h2⟩:=g3 h0
    exact⟨b,o,rfl,h2,fun i j hi hj=>⟨g4 i j hi hj,g5 i j hi hj⟩⟩
  ·cases h
 ·unfold ab at hd
  obtain⟨a,rfl⟩:=hd
  exact⟨_,none,h,a,0,fun _ _=>undef,by rw[tJ],by rw[tJ];exact Nat.le_refl _,by simp[maxLen],by rw[tJ];omega⟩
 ·rename_i id
  simp only[RM.eval]at h
  split at h
  ·rename_i c e ho
   refine⟨c,some id,h, ?_⟩
   unfold ab ay at hd
   obtain⟨_,o,cP,hv⟩:=hd
   rw[ho]at cP
   cases cP
   obtain rfl:=hv c e rfl
   obtain⟨a,cap,h1,h2,h3,h4⟩:=hs.obj id _ ho
   rcases h4 with rfl|⟨b,o,cells,fr,us,rfl,h5,h6,h7,h8⟩
   ·exact⟨a,0,fun _ _=>undef,h1,h2,h3,fun h0=>by omega⟩
   ·refine⟨_,cap,us,h1,h2,h3,fun _=>⟨b,o,rfl,(Array.getElem?_eq_some_iff.1 h5).1,fun i j hi hj=> ?_⟩⟩
    obtain⟨h9,sG⟩:=h8 i j hi hj
    exact⟨by rw[cU h5];exact h9,sG⟩
  ·cases h
 ·rename_i id lo n
  simp only[RM.eval]at h
  split at h
  ·rename_i c e ho
   refine⟨_,some id,h, ?_⟩
   obtain⟨g0,a,cap,a',g1,g2,g3,rfl,g4,g5⟩:=iC hs ho hd
   have hn:(de c lo (lo+n)).n=n:=by rw[nx c (by omega) g0];omega
   have bE:=jj c lo (lo+n)
   obtain⟨a2,pG,k1,k2,k3,k4⟩:=hs.obj id _ ho
   rw[g1]at k1
   cases k1
   rcases k4 with rfl|⟨b,o,cells,fr,us,rfl,h5,h6,h7,h8⟩
   ·exact⟨a',0 - lo,fun _ _=>undef,by rw[hn],by rw[hn];omega,by omega,fun h0=>by rw[hn]at h0;omega⟩
   ·refine⟨a',cap - lo,fun i j=>us (lo+i) j,by rw[hn],by rw[hn];omega,by omega,fun h0=> ?_⟩
    rw[hn]at h0
    refine⟨b,o+lo*c.size,by rw[g4 (by omega)];simp[aS],(Array.getElem?_eq_some_iff.1 h5).1,fun i j hi hj=> ?_⟩
    rw[hn]at hi
    rw[bE]at hj ⊢
    obtain⟨h9,sG⟩:=h8 (lo+i) j (by omega) hj
    refine⟨?_,by rw[jk c j (by omega)];exact sG⟩
    rw[cU h5,show o+lo*c.size+i*c.size+j=o+(lo+i)*c.size+j from by rw[Nat.add_mul];omega]
    exact h9
  ·cases h
 ·cases h
theorem wq(zs:List Int):zs.map (Value.int .u8)=(List.range zs.length).map fun i=>Value.int .u8 (zs.getD i 0):=by
 apply List.ext_getElem
 ·simp
 ·intro i h1 h2
  simp at h1
  simp[h1]
theorem jI{zs:List Int}{a:Option Addr}{cap:Nat}(h3:0<zs.length→∃b o,a=some ⟨b,o,none⟩∧∀j,j<zs.length→w.cell? ⟨b,o+j,none⟩=some (.int .u8 (zs.getD j 0))):
 (Conv.bytesToString (.slice a zs.length cap)).run P w=.ok (.string (aO zs)) w:=by
 cases a with
 |none=>
  have:zs.length=0:=by
   rcases Nat.eq_zero_or_pos zs.length with h0|h0
   ·exact h0
   ·obtain⟨b,o,e,_⟩:=h3 h0
    cases e
  obtain rfl:=List.eq_nil_of_length_eq_zero this
  rfl
 |some a=>
  have aqM:(loadCells a zs.length).run P w=.ok (zs.map (Value.int .u8)).toArray w:=by
   rcases Nat.eq_zero_or_pos zs.length with h0|h0
   ·obtain rfl:=List.eq_nil_of_length_eq_zero h0
    rfl
   ·obtain⟨b,o,e,hc⟩:=h3 h0
    cases e
    rw[wq]
    refine run_loadCells w _ _ (fun i=>Value.int .u8 (zs.getD i 0)) (fun j hj=> ?_)
    rw[aS]
    exact hc j hj
  simp only[Conv.bytesToString,Sem.run_bind,aqM,Result.andThen_ok]
  rw[←Array.forIn_toList]
  have:=yz (P:=P) zs (zs.map (Value.int .u8)) ByteArray.empty w rfl
  erw [this]
  simp[aO]
theorem pH{zs:List Int}{v:Value}(h:oP O w (.ints .u8 zs) v):(Conv.bytesToString v).run P w=.ok (.string (aO zs)) w:=by
 obtain⟨a,cap,us,rfl,h1,h2,h3⟩:=h
 simp only[aF.n]at h1 h3 ⊢
 refine jI fun h0=> ?_
 obtain⟨b,o,e,_,hc⟩:=h3 h0
 refine⟨b,o,e,fun j hj=> ?_⟩
 obtain⟨g1,g2⟩:=hc j 0 hj (by simp[aF.size])
 simp only[aF.size,Nat.mul_one,Nat.add_zero,aF.cell]at g1 g2
 rw[g1]
 generalize us j 0=u at g2 ⊢
 cases g2
 rfl
theorem w6(hs:Sat ρ H G w){id b m off n:Nat}{k:IntKind}{ws:List Int}{e:TypeId}(ho:H id=some (.own [.ints k m ws] e))(hb:ρ id=.pointer (some ⟨b,0,none⟩))(hnm:off+n≤m):
 ((ws.drop off).take n).length=n∧∀j,j<n→w.cell? ⟨b,off+j,none⟩=some (.int k (((ws.drop off).take n).getD j 0)):=by
 obtain⟨cells,fr,e1,_,e2⟩:=nw hs ho hb
 obtain⟨c1,c2,rfl,e3,e4⟩:=af.1 e2
 obtain⟨e5,rfl⟩:=ct.1 e3
 obtain rfl:=ao.1 e4
 refine⟨by rw[List.length_take,List.length_drop];omega,fun j hj=> ?_⟩
 rw[cU e1,List.append_nil,List.getElem?_map]
 have bc:off+j<ws.length:=by omega
 rw[List.getElem?_eq_getElem bc]
 simp[List.getD,List.getElem?_take,hj,List.getElem?_drop,bc]
theorem aah{src dst:TypeId}{x:AV}{vx:Value}{q:bw}(h:(tw P src dst x).eval H=some q)(hn:bq q.need)(hs:Sat ρ H G w)(hd:ab ρ H (aM ρ H G) w x vx):
 eI P ρ H (aM ρ H G) w q (convert src dst vx):=by
 unfold tw at h
 split at h
 ·rename_i d k nS kU
  split at h
  ·rename_i k' lit n mC
   obtain rfl:=bN mC hd
   have iS:(convert src dst (.int k' n)).run P w=.ok (.int k (k.wrap n)) w:=by
    simp[convert,run_underlying nS,run_underlying kU,Conv.intToInt]
   rw[Bool.cond_eq_ite]at h
   split at h
   ·exact ax h (fun _=>⟨_,iS,aq (.aZ _ _)⟩) hn
   ·rw[Bool.cond_eq_ite]at h
    split at h
    ·rename_i hk
     simp only[Bool.and_eq_true]at hk
     obtain rfl:=my hk.1
     refine ax h (fun cg=>⟨_,iS, ?_⟩) hn
     rw[bZ cg.1]
     exact aq (.int _ _)
    ·exact ax h (fun _=>⟨_,iS,aq (.int _ _)⟩) hn
  ·cases h
 ·rename_i nS kU
  split at h
  ·rename_i s
   obtain rfl:=eV hd
   exact ax h (fun _=>⟨_,by simp[convert,run_underlying nS,run_underlying kU],aq (.str _)⟩) hn
  ·cases h
 ·rename_i e nS kU
  split at h
  ·rename_i hk
   have he:P.underlying e=some (.int .u8):=by
    unfold kindOf at hk
    split at hk<;>first|(cases hk;assumption)|cases hk
   split at h
   ·rename_i id off n
    simp only[RM.eval]at h
    split at h
    ·rename_i m ws e' ho
     unfold ab ay at hd
     obtain⟨_,b,a,cap,hb,rfl,ha,_⟩:=hd
     refine ax h (fun cg=>⟨_, ?_,aq (.str _)⟩) hn
     have hnm:off+n≤m:=cg.1
     obtain⟨hl,hc⟩:=w6 hs ho hb hnm
     have:=jI (P:=P) (w:=w) (zs:=(ws.drop off).take n) (a:=a) (cap:=cap) (fun h0=>⟨b,off,ha (by omega),fun j hj=>hc j (by omega)⟩)
     rw[hl]at this
     simp[convert,run_underlying nS,run_underlying kU,run_underlying he,this]
    ·cases h
   ·obtain⟨c,idy,h1,h2⟩:=tK h hs hd
    split at h1
    ·rename_i zs
     refine ax h1 (fun _=>⟨.string (aO zs), ?_,aq (.str _)⟩) hn
     obtain⟨a,cap,us,rfl,_⟩:=id h2
     simp[convert,run_underlying nS,run_underlying kU,run_underlying he,pH h2]
    ·cases h1
  ·cases h
 ·cases h
end
end Go.Sx
namespace Go.Sx
open Go
def cF:List (Nat×ad)→Nat→Option ad
 |[],_=>none
 |(id,o)::us,j=>match cF us j with
  |some x=>some x
  |none=>if j=id then some o else none
def cV(H:aH)(up:List (Nat×ad))(base:Nat)(new:List ad):aH:=fun j=>
 match cF up j with
 |some o=>some o
 |none=>if base≤j∧j<base+new.length then new[j - base]? else H j
section
variable{ρ az:Nat→Value}{H H':aH}{G O O':Nat→Prop}{w w':World}{P:Program}
theorem kV(base:Nat):cV H [] base []=H:=by
 funext j
 simp only[cV,cF,List.length_nil,Nat.add_zero]
 rw[if_neg (by omega)]
theorem fp(id:Nat)(o:ad)(base:Nat):cV H [(id,o)] base []=aB H id o:=by
 funext j
 simp only[cV,cF,aB,List.length_nil,Nat.add_zero]
 by_cases h:j=id
 ·simp[h]
 ·simp only[h,if_false]
  rw[if_neg (by omega)]
theorem iD(base:Nat)(o:ad):cV H [] base [o]=aB H base o:=by
 funext j
 simp only[cV,cF,aB,List.length_singleton]
 by_cases h:j=base
 ·subst h;simp
 ·rw[if_neg (by omega)]
  simp[h]
theorem afP(id base:Nat)(x o:ad)(h:id≠base):cV H [(id,x)] base [o]=aB (aB H id x) base o:=by
 funext j
 simp only[cV,cF,aB,List.length_singleton]
 by_cases h1:j=id
 ·subst h1;simp[h]
 ·by_cases h2:j=base
  ·subst h2;simp[h1]
  ·simp only[h1,h2,if_false]
   rw[if_neg (by omega)]
theorem cu:ab ρ H O w (.bh []) undef:=by
 unfold ab
 exact⟨[],rfl,aV.2 rfl⟩
theorem jJ{id:Nat}{o o':ad}(ho:H id=some o)(ha:o.alive=true){b:Nat}(hb:dW (ρ id)=some b)
 (qU:∀c' e',o'=.vec c' e'→∃c e,o=.vec c e∧c'.n=c.n∧c'.size=c.size) (qV:Obj):
 Step ρ H (aM ρ H G) w ρ (aB H id o') (aM ρ H G) (World.bX w b qV):=by
 have dv:Own ρ H b:=⟨id,o,ho,ha,hb⟩
 refine⟨fun _ _ _=>rfl,fun j x hx=> ?_,fun c hc=>.inl hc,fun c hc hO=>hC (fun e=>hO (.inl (by subst e;exact dv))),by rw[iB];exact Nat.le_refl _⟩
 by_cases hj:j=id
 ·subst hj
  rw[ho]at hx
  cases hx
  exact⟨o',by simp[aB],qU⟩
 ·exact⟨x,by simp[aB,hj,hx],fun c' e' hc=>⟨c',e',hc,rfl,rfl⟩⟩
theorem Good.tL(hs:Sat ρ H G w){id b:Nat}{ak ef:List AV}{e:TypeId}(ho:H id=some (.own ak e))(hb:ρ id=.pointer (some ⟨b,0,none⟩))
 {cells dQ:List Value} {fr:Nat×Nat} (h1:w.heap[b]? =some (.cells cells.toArray e fr)) (hu:unm fr cells.length) (hl:dQ.length=cells.length)
 (hd:an ρ H (aM ρ H G) w ef dQ):
 Good ρ H G w (aB H id (.own ef e)) (.bh []) undef (World.bX w b (.cells dQ.toArray e fr)):=by
 have lM:dW (ρ id)=some b:=by rw[hb];rfl
 have st:=jJ (G:=G) (w:=w) (o':=.own ef e) ho rfl lM (by simp) (.cells dQ.toArray e fr)
 exact Good.write hs ho rfl rfl lM (by simp) ⟨b,dQ,fr,hb,ey h1,by rw[hl];exact hu,hd.step st⟩ cu
theorem kg{t:TypeId}{b off:Nat}{v:Value}{n:Nat}(hs:dj P t=some n)(hl:v.cells.toList.length=n){w':World}
 (h:(storeCells ⟨b,off,none⟩ v.cells.toList 0).run P w=.ok () w'):(Instr.storeAt t (.pointer (some ⟨b,off,none⟩)) v).run P w=.ok () w':=by
 have:v.cells.size=n:=by simpa using hl
 simp[Instr.storeAt,Instr.sureAddr,storeVar,run_sizeOf hs,this,h]
theorem kW{v:Value}(h:v.oneCell'=true):v.cells.toList=[v]:=by
 cases v<;>first|rfl|(simp[Value.oneCell']at h)
theorem kC{α:Type}(l:List α)(i:Nat)(x:α)(h:i<l.length):l.take i++[x]++l.drop (i+1)=l.set i x:=by
 rw[List.set_eq_take_append_cons_drop,if_pos h]
 simp
theorem fb{c c':aF}{v:Value}(h0:c.n=0)(h1:c'.n=0)(h:aL O w (.ro c) v):aL O w (.ro c') v:=by
 cases h with
 |ro _ a cap us b o h2 h3 h4 h5 h6=>
  have:=aL.ro (O:=O) (w:=w) c' a cap us b o (by omega) h3 (fun h=>by omega) (fun i j hi hj=>by omega) (fun i j hi hj=>by omega)
  rw[h1]at this
  rw[h0]
  exact this
theorem ahw{k:IntKind}{v:SV}{n:Int}{u:Value}(h:ahh k v=some n)(hu:aL O w v u):aL O w (.int k n) u:=by
 unfold ahh at h
 split at h
 ·rw[Bool.cond_eq_ite]at h
  split at h
  ·rename_i hk
   obtain rfl:=aX hk
   cases h
   exact hu
  ·cases h
 ·rw[Bool.cond_eq_ite]at h
  split at h
  ·rename_i hk
   obtain rfl:=aX hk
   cases h
   cases hu
   exact .int _ _
  ·cases h
 ·cases h
theorem afQ{v:SV}{n:Bool}{u:Value}(h:acm v=some n)(hu:aL O w v u):aL O w (.bool n) u:=by
 unfold acm at h
 split at h<;>cases h<;>cases hu<;>exact .bool _
theorem ahx{v:SV}{n:ByteArray}{u:Value}(h:ahi v=some n)(hu:aL O w v u):aL O w (.str n) u:=by
 unfold ahi at h
 split at h<;>cases h
 exact hu
theorem afR{k:IntKind}{v:SV}{n:List Int}{u:Value}(h:acn k v=some n)(hu:aL O w v u):aL O w (.ro (.ints k n)) u:=by
 unfold acn at h
 split at h
 ·rw[Bool.cond_eq_ite]at h
  split at h
  ·rename_i hk
   obtain rfl:=aX hk
   cases h
   exact hu
  ·cases h
 ·cases h
  exact fb (by rfl) (by rfl) hu
 ·cases h
theorem afS{v:SV}{n:List ByteArray}{u:Value}(h:aco v=some n)(hu:aL O w v u):aL O w (.ro (.strs n)) u:=by
 unfold aco at h
 split at h<;>cases h
 ·exact hu
 ·exact fb (by rfl) (by rfl) hu
theorem acF{v:SV}{n:List Bool}{u:Value}(h:yk v=some n)(hu:aL O w v u):aL O w (.ro (.bB n)) u:=by
 unfold yk at h
 split at h<;>cases h
 ·exact hu
 ·exact fb (by rfl) (by rfl) hu
theorem afT{cs:List CK}{v:SV}{n:List (CL cs)}{u:Value}(h:acp cs v=some n)(hu:aL O w v u):aL O w (.ro (.ae cs n)) u:=by
 unfold acp at h
 split at h
 ·simp only[Option.map_eq_some_iff]at h
  obtain⟨⟨e⟩,_,h2⟩:=h
  subst e
  rw[wV]at h2
  subst h2
  exact hu
 ·cases h
  exact fb (by rfl) (by rfl) hu
 ·cases h
theorem afU{c:CK}{x y:c.V}{j:Nat}{v:SV}(h:c.set x j v=some y):c.wide=1∧∀(O:Nat→Prop) (w:World) (u:Value),aL O w v u→∀l,aL O w (c.cell y l) u:=by
 cases c with
 |int k=>exact⟨rfl,fun _ _ _ hu _=>ahw h hu⟩
 |bool=>exact⟨rfl,fun _ _ _ hu _=>afQ h hu⟩
 |str=>exact⟨rfl,fun _ _ _ hu _=>ahx h hu⟩
 |ints k=>exact⟨rfl,fun _ _ _ hu _=>afR h hu⟩
 |strs=>exact⟨rfl,fun _ _ _ hu _=>afS h hu⟩
 |bB=>exact⟨rfl,fun _ _ _ hu _=>acF h hu⟩
 |rows cs=>exact⟨rfl,fun _ _ _ hu _=>afT h hu⟩
 |arr k n=>cases h
theorem qW:∀{cs:List CK} {x y:CL cs} {j:Nat} {v:SV},CL.set cs x j v=some y→(∀(O:Nat→Prop) (w:World) (u:Value),aL O w v u→aL O w (CL.cell cs y j) u)∧∀j',j'≠j→CL.cell cs y j'=CL.cell cs x j'
 |[],x,y,j,v,h=>by cases h
 |c::cs,x,y,j,v,h=>by
  simp only[CL.set]at h
  rw[Bool.cond_eq_ite]at h
  split at h
  ·rename_i bc
   obtain⟨z,h1,rfl⟩:=Option.map_eq_some_iff.1 h
   obtain⟨h2,h3⟩:=afU h1
   refine⟨fun O w u hu=>by simp only[CL.cell,bc,cond_true];exact h3 O w u hu _,fun j' jl=> ?_⟩
   have h4:j<1:=by rw[h2]at bc;exact Nat.le_of_ble_eq_true bc
   simp only[CL.cell,h2,pF (show 1≤j' from by omega),cond_false]
  ·rename_i bc
   obtain⟨z,h1,rfl⟩:=Option.map_eq_some_iff.1 h
   have bc:j.blt c.wide=false:=Bool.eq_false_iff.2 bc
   have hge:c.wide≤j:=by
    rcases Nat.lt_or_ge j c.wide with h5|h5
    ·rw[l8 h5]at bc;cases bc
    ·exact h5
   obtain⟨h2,h3⟩:=qW h1
   refine⟨fun O w u hu=>by simp only[CL.cell,bc,cond_false];exact h2 O w u hu,fun j' jl=> ?_⟩
   simp only[CL.cell]
   rcases Nat.lt_or_ge j' c.wide with h5|h5
   ·rw[l8 h5,cond_true,cond_true]
   ·rw[pF h5,cond_false,cond_false]
    exact h3 _ (by omega)
theorem pI:∀{cs:List CK} {x y:CL cs} {j:Nat} {k:IntKind} {n:Nat} {ws:List Int},CL.setRow cs x j k n ws=some y→
 (∀l,l<n→CL.cell cs y (j+l)=.int k (ws.getD l 0))∧∀j',(j'<j∨j+n≤j')→CL.cell cs y j'=CL.cell cs x j'
 |[],x,y,j,k,n,ws,h=>by cases h
 |c::cs,x,y,j,k,n,ws,h=>by
  simp only[CL.setRow]at h
  rw[Bool.cond_eq_ite]at h
  split at h
  ·rename_i hj
   obtain rfl:j=0:=Nat.eq_of_beq_eq_true hj
   obtain⟨z,h1,rfl⟩:=Option.map_eq_some_iff.1 h
   cases c with
   |arr k' n'=>
    simp only[CK.setRow]at h1
    rw[Bool.cond_eq_ite]at h1
    split at h1
    ·rename_i hk
     simp only[Bool.and_eq_true]at hk
     obtain rfl:=aX hk.1
     obtain rfl:=Nat.eq_of_beq_eq_true hk.2
     cases h1
     refine⟨fun l hl=> ?_,fun j' jl=> ?_⟩
     ·rw[Nat.zero_add]
      simp only[CL.cell,CK.wide,l8 hl,cond_true,CK.cell]
     ·simp only[CL.cell,CK.wide,pF (show n≤j' from by omega),cond_false]
    ·cases h1
   |_=>cases h1
  ·rw[Bool.cond_eq_ite]at h
   split at h
   ·rename_i hle
    have hle:=Nat.le_of_ble_eq_true hle
    obtain⟨z,h1,rfl⟩:=Option.map_eq_some_iff.1 h
    obtain⟨h2,h3⟩:=pI h1
    refine⟨fun l hl=> ?_,fun j' jl=> ?_⟩
    ·simp only[CL.cell,pF (show c.wide≤j+l from by omega),cond_false]
     rw[show j+l - c.wide=j - c.wide+l from by omega]
     exact h2 l hl
    ·simp only[CL.cell]
     rcases Nat.lt_or_ge j' c.wide with h5|h5
     ·rw[l8 h5,cond_true,cond_true]
     ·rw[pF h5,cond_false,cond_false]
      exact h3 _ (by omega)
   ·cases h
theorem acG{c:aF}{i j:Nat}{k:IntKind}{n:Nat}{ws:List Int}{c':aF}(h:nt c i j k n ws=some c')(hi:i<c.n):
 c'.n=c.n∧c'.size=c.size∧(∀l,l<n→c'.cell i (j+l)=.int k (ws.getD l 0))∧∀i' j',(i'≠i∨j'<j∨j+n≤j')→c'.cell i' j'=c.cell i' j':=by
 cases c<;>simp only[nt,reduceCtorEq]at h
 rename_i cs xs
 simp only[Option.map_eq_some_iff]at h
 obtain⟨y,h1,rfl⟩:=h
 simp only[aF.n]at hi
 obtain⟨h2,h3⟩:=pI h1
 refine⟨by simp[aF.n],rfl,fun l hl=> ?_,fun i' j' cg=> ?_⟩
 ·simp only[aF.cell]
  rw[show(xs.set i y).getD i (CL.d cs)=y from by simp[List.getD,hi]]
  exact h2 l hl
 ·simp only[aF.cell]
  by_cases hii:i'=i
  ·subst hii
   rw[show(xs.set i' y).getD i' (CL.d cs)=y from by simp[List.getD,hi]]
   exact h3 j' (by omega)
  ·have:i≠i':=fun e=>hii e.symm
   simp[List.getD,List.getElem?_set_ne this]
theorem akW(c:aF){i j:Nat}{v:SV}{c':aF}(h:qM c i j v=some c'):c'.n=c.n∧c'.size=c.size:=by
 cases c<;>simp only[qM]at h
 case dU=>simp only[Option.some.injEq]at h;subst h;exact⟨rfl,rfl⟩
 case ae=>
  simp only[Option.map_eq_some_iff]at h
  obtain⟨y,_,rfl⟩:=h
  simp[aF.n,aF.size]
 all_goals
  split at h<;>first
   |(simp only[Option.some.injEq]at h;subst h;simp[aF.n,aF.size];done)
   |(rw[Bool.cond_eq_ite]at h;split at h<;>first|(simp only[Option.some.injEq]at h;subst h;simp[aF.n,aF.size];done)|cases h)
   |cases h
theorem yA(c:aF){i j:Nat}{v:SV}{c':aF}(h:qM c i j v=some c')(hi:i<c.n)(hj:j<c.size){u:Value}(hu:aL O w v u):
 aL O w (c'.cell i j) u∧∀i' j',i'<c.n→j'<c.size→(i'≠i∨j'≠j)→c'.cell i' j'=c.cell i' j':=by
 cases c<;>simp only[qM]at h
 case ints k zs=>
  simp only[aF.n,aF.size]at hi hj
  split at h<;>first
   |cases h
   |(rw[Bool.cond_eq_ite]at h
     split at h
     ·rename_i hk
      obtain rfl:=aX hk
      simp only[Option.some.injEq]at h
      subst h
      cases hu
      simp only[aF.cell,aF.n,aF.size]
      refine⟨by simp[List.getD,hi];exact .int _ _,fun i' j' ew jl cg=> ?_⟩
      have:i≠i':=by omega
      simp[List.getD,List.getElem?_set_ne this]
     ·cases h)
 case strs zs=>
  simp only[aF.n,aF.size]at hi hj
  split at h<;>simp only[Option.some.injEq,reduceCtorEq]at h
  subst h
  cases hu
  simp only[aF.cell,aF.n,aF.size]
  refine⟨by simp[List.getD,hi];exact .str _,fun i' j' ew jl cg=> ?_⟩
  have:i≠i':=by omega
  simp[List.getD,List.getElem?_set_ne this]
 case bB zs=>
  simp only[aF.n,aF.size]at hi hj
  split at h<;>simp only[Option.some.injEq,reduceCtorEq]at h
  all_goals
   subst h
   cases hu
   simp only[aF.cell,aF.n,aF.size]
   refine⟨by simp[List.getD,hi];exact .bool _,fun i' j' ew jl cg=> ?_⟩
   have:i≠i':=by omega
   simp[List.getD,List.getElem?_set_ne this]
 case ae cs xs=>
  simp only[aF.n,aF.size]at hi hj
  simp only[Option.map_eq_some_iff]at h
  obtain⟨y,h1,rfl⟩:=h
  obtain⟨h2,h3⟩:=qW h1
  simp only[aF.cell,aF.n,aF.size]
  refine⟨by rw[show(xs.set i y).getD i (CL.d cs)=y from by simp[List.getD,hi]];exact h2 O w u hu,fun i' j' ew jl cg=> ?_⟩
  by_cases hii:i'=i
  ·subst hii
   rw[show(xs.set i' y).getD i' (CL.d cs)=y from by simp[List.getD,hi]]
   exact h3 j' (by omega)
  ·have:i≠i':=fun e=>hii e.symm
   simp[List.getD,List.getElem?_set_ne this]
 case dU s n get=>
  simp only[Option.some.injEq]at h
  subst h
  simp only[aF.cell]
  refine⟨by simp[hu],fun i' j' _ _ cg=> ?_⟩
  have:(i'==i&&j'==j)=false:=by
   rcases cg with h|h<;>simp[h]
  simp[this]
theorem qX:∀(ja:List AV) (c:aF) {i j:Nat} {c':aF} {vs:List Value},eb c i j ja=some c'→an ρ H O w ja vs→i<c.n→j+fA ja≤c.size→
 c'.n=c.n∧c'.size=c.size∧vs.length=fA ja∧(∀l u,vs[l]? =some u→aL O w (c'.cell i (j+l)) u)∧
 ∀i' j',i'<c.n→j'<c.size→(i'≠i∨j'<j∨j+fA ja≤j')→c'.cell i' j'=c.cell i' j'
 |[],c,i,j,c',vs,h,hd,hi,hj=>by
  simp only[eb,Option.some.injEq]at h
  subst h
  obtain rfl:=ao.1 hd
  exact⟨rfl,rfl,rfl,by simp,fun _ _ _ _ _=>rfl⟩
 |a::aA,c,i,j,c',vs,h,hd,hi,hj=>by
  cases a with
  |s v=>
   simp only[eb,Option.bind_eq_some_iff]at h
   obtain⟨c1,h1,h2⟩:=h
   obtain⟨cs1,cs2,rfl,hv,hr⟩:=af.1 hd
   unfold aC at hv
   obtain⟨u,rfl,hu⟩:=hv
   simp only[fA,AV.wide]at hj
   obtain⟨n1,s1⟩:=akW c h1
   obtain⟨g1,g2⟩:=yA c h1 hi (by omega) hu
   obtain⟨k1,k2,k3,k4,k5⟩:=qX aA c1 h2 hr (by omega) (by omega)
   refine⟨k1.trans n1,k2.trans s1,by simp[k3,fA,AV.wide];omega,fun l x hx=> ?_,fun i' j' ew jl cg=> ?_⟩
   ·cases l with
    |zero=>
     simp at hx
     subst hx
     rw[Nat.add_zero,k5 i j (by omega) (by omega) (by omega)]
     exact g1
    |succ l=>
     have:=k4 l x (by simpa using hx)
     rw[show j+(l+1)=j+1+l from by omega]
     exact this
   ·simp only[fA,AV.wide]at cg
    rw[k5 i' j' (by omega) (by omega) (by omega)]
    exact g2 i' j' ew jl (by omega)
  |ints k n ws=>
   simp only[eb,Option.bind_eq_some_iff]at h
   obtain⟨c1,h1,h2⟩:=h
   obtain⟨cs1,cs2,rfl,hv,hr⟩:=af.1 hd
   unfold aC at hv
   obtain⟨hl,rfl⟩:=hv
   simp only[fA,AV.wide]at hj
   obtain⟨n1,s1,g1,g2⟩:=acG h1 hi
   obtain⟨k1,k2,k3,k4,k5⟩:=qX aA c1 h2 hr (by omega) (by omega)
   refine⟨k1.trans n1,k2.trans s1,by simp[k3,fA,AV.wide,hl],fun l x hx=> ?_,fun i' j' ew jl cg=> ?_⟩
   ·rcases Nat.lt_or_ge l n with h5|h5
    ·rw[List.getElem?_append_left (by simp;omega)]at hx
     simp only[List.getElem?_map,Option.map_eq_some_iff]at hx
     obtain⟨z,hz,rfl⟩:=hx
     rw[k5 i (j+l) (by omega) (by omega) (by omega),g1 l h5,show ws.getD l 0=z from by simp[List.getD,hz]]
     exact .int _ _
    ·rw[List.getElem?_append_right (by simp;omega)]at hx
     simp only[List.length_map,hl]at hx
     have:=k4 (l - n) x hx
     rw[show j+n+(l - n)=j+l from by omega]at this
     exact this
   ·simp only[fA,AV.wide]at cg
    rw[k5 i' j' (by omega) (by omega) (by omega)]
    exact g2 i' j' (by omega)
  |_=>simp[eb]at h
theorem w7(cs:List CK):∀(ja:List AV) (xs:List (CL cs)) (i j:Nat),i<xs.length→(mr cs (xs.getD i (CL.d cs)) j ja).map (fun y=>aF.ae cs (xs.set i y))=eb (.ae cs xs) i j ja
 |[],xs,i,j,hi=>by
  simp only[mr,eb,Option.map_some,Option.some.injEq,aF.ae.injEq,heq_eq_eq,true_and]
  have:xs.getD i (CL.d cs)=xs[i]:=by simp[List.getD,hi]
  rw[this,List.set_getElem_self]
 |a::aA,xs,i,j,hi=>by
  have step:∀(y:CL cs) (k:Nat),(mr cs y k aA).map (fun y=>aF.ae cs (xs.set i y))=eb (.ae cs (xs.set i y)) i k aA:=fun y k=>by
   rw[←w7 cs aA (xs.set i y) i k (by rw[List.length_set];exact hi)]
   have:(xs.set i y).getD i (CL.d cs)=y:=by simp[List.getD,hi]
   rw[this]
   congr 1
   funext z
   rw[List.set_set]
  cases a with
  |s v=>
   simp only[mr,eb,qM]
   cases CL.set cs (xs.getD i (CL.d cs)) j v with
   |none=>rfl
   |some y=>exact step y (j+1)
  |ints k n ws=>
   simp only[mr,eb,nt]
   cases CL.setRow cs (xs.getD i (CL.d cs)) j k n ws with
   |none=>rfl
   |some y=>exact step y (j+n)
  |_=>rfl
theorem ahy:∀(ja:List AV) (c:aF) {i j:Nat} {c':aF} {vs:List Value},adT c i j ja=some c'→an ρ H O w ja vs→i<c.n→j+fA ja≤c.size→
 c'.n=c.n∧c'.size=c.size∧vs.length=fA ja∧(∀l u,vs[l]? =some u→aL O w (c'.cell i (j+l)) u)∧
 ∀i' j',i'<c.n→j'<c.size→(i'≠i∨j'<j∨j+fA ja≤j')→c'.cell i' j'=c.cell i' j':=by
 intro ja c i j c' vs h hd hi hj
 refine qX ja c ?_ hd hi hj
 cases c with
 |ae cs xs=>rw[←h];exact(w7 cs ja xs i j hi).symm
 |_=>exact h
theorem yB(l vs:List Value)(o:Nat)(h:o+vs.length≤l.length)(i:Nat):(l.take o++vs++l.drop (o+vs.length))[i]? =if o≤i∧i<o+vs.length then vs[i - o]? else l[i]? :=by
 have hto:(l.take o).length=o:=by simp;omega
 by_cases h1:i<o
 ·rw[if_neg (by omega),List.append_assoc,List.getElem?_append_left (by omega),List.getElem?_take,if_pos h1]
 ·by_cases h2:i<o+vs.length
  ·rw[if_pos (by omega),List.getElem?_append_left (by simp;omega),List.getElem?_append_right (by omega),hto]
  ·rw[if_neg (by omega),List.getElem?_append_right (by simp;omega),List.getElem?_drop]
   congr 1
   simp
   omega
theorem gB{α:Type}(l:List α)(i:Nat)(d:α)(h:i<l.length):l[i]? =some (l.getD i d):=by
 simp[List.getD,List.getElem?_eq_getElem h]
theorem ahz{size i i' j j' f:Nat}(hj:j<size)(jl:j'<size)(h:f+i*size+j=f+i'*size+j'):i=i'∧j=j':=by
 have h1:i*size+j=i'*size+j':=by omega
 have h2:(i*size+j) / size=i:=by rw[Nat.mul_comm,Nat.mul_add_div (by omega),Nat.div_eq_of_lt hj];rfl
 have h3:(i'*size+j') / size=i':=by rw[Nat.mul_comm,Nat.mul_add_div (by omega),Nat.div_eq_of_lt jl];rfl
 have:i=i':=by rw[←h2,←h3,h1]
 subst this
 exact⟨rfl,by omega⟩
theorem afV{t:TypeId}{a x:AV}{va vx:Value}{q:bw}(h:(acq P t a x).eval H=some q)(hs:Sat ρ H G w)
 (ha:ab ρ H (aM ρ H G) w a va) (hx:ab ρ H (aM ρ H G) w x vx):
 ∃w',(Instr.storeAt t va vx).run P w=.ok () w'∧∀base,Good ρ H G w (cV H q.up base q.new) (q.r base) undef w':=by
 unfold acq at h
 split at h
 ·rename_i sz we bE pt
  split at h
  ·
   rename_i id off
   unfold ab ay at ha
   obtain⟨b,hb,rfl,_⟩:=ha
   simp only[RM.eval]at h
   split at h
   ·rename_i ak e ho
    obtain⟨cells,fr,h1,h2,h3⟩:=nw hs ho hb
    cases we
    ·simp only[cond_false]at h
     rw[Bool.cond_eq_ite]at h
     split at h
     ·rename_i hc
      simp only[Bool.and_eq_true,Nat.beq_eq]at hc
      obtain⟨hsg,rfl⟩:=hc
      split at h
      ·rename_i ef mF
       simp only[RM.eval,Option.some.injEq]at h
       subst h
       obtain⟨h4,h5⟩:=lQ ak off mF h3 hsg hx
       obtain⟨h6,h7⟩:=jH hsg hx
       refine⟨_,kg bE (by rw[kW h7];rfl) (bG off _ 0 h1 h2 (by rw[kW h7];simp;omega) (by rw[kW h7];simpa using h7)),fun base=> ?_⟩
       simp only[fp,kW h7,Nat.add_zero,List.length_singleton]
       exact Good.tL hs ho hb h1 h2 (by simp;omega) (by rw[kC _ _ _ h4];exact h5)
      ·cases h
     ·cases h
    ·simp only[cond_true]at h
     split at h
     ·rename_i ja hby
      rw[Bool.cond_eq_ite]at h
      split at h
      ·rename_i hc
       simp only[Bool.and_eq_true,Nat.beq_eq]at hc
       obtain⟨hw,_⟩:=hc
       split at h
       ·rename_i ef aoL
        simp only[RM.eval,Option.some.injEq]at h
        subst h
        have h4:=pD hby hx
        have h5:=iA h4
        obtain⟨h6,h7⟩:=tE aoL h3 h4
        refine⟨_,kg bE (h5.trans hw) (bG off _ 0 h1 h2 (by omega) (tF ja h4)),fun base=> ?_⟩
        simp only[fp,Nat.add_zero]
        exact Good.tL hs ho hb h1 h2 (by simp only[List.length_append,List.length_take,List.length_drop];omega) h7
       ·cases h
      ·cases h
     ·cases h
   ·cases h
  ·
   rename_i id off n i
   unfold ab ay at ha
   obtain⟨c9,b,hb,rfl,_⟩:=ha
   simp only[RM.eval]at h
   split at h
   ·rename_i ak e ho
    obtain⟨cells,fr,h1,h2,h3⟩:=nw hs ho hb
    split at h
    ·rename_i k m ws k' l y akR mC
     rw[Bool.cond_eq_ite]at h
     split at h
     ·rename_i hc
      simp only[Bool.and_eq_true,Bool.not_eq_true',Nat.beq_eq]at hc
      obtain⟨⟨⟨rfl,hk⟩,rfl⟩,rfl⟩:=hc
      obtain rfl:=aX hk
      split at h
      ·rename_i ef mF
       simp only[RM.eval,Option.some.injEq]at h
       subst h
       obtain rfl:=bN mC hx
       obtain⟨hl,pre,post,rfl,hp⟩:=nv ak off akR h3
       have h4:=mA ak off akR mF (by simp) h3 hp
       have bc:off+i<(pre++ws.map (Value.int k)++post).length:=by simp;omega
       refine⟨_,kg bE rfl (bG (off+i) [.int k y] 0 h1 h2 (by simp;omega) (by simp[Value.oneCell'])),fun base=> ?_⟩
       simp only[fp,Nat.add_zero,List.length_singleton]
       refine Good.tL hs ho hb h1 h2 (by rw[kC _ _ _ bc];simp) ?_
       rw[kC _ _ _ bc,List.append_assoc,List.set_append_right _ _ (by omega),List.set_append_left _ _ (by simp;omega),show off+i - pre.length=i from by omega,←List.append_assoc]
       rw[List.map_set]at h4
       exact h4
      ·cases h
     ·cases h
    ·cases h
   ·cases h
  ·
   rename_i id i j
   unfold ab ay at ha
   obtain⟨_,o,ho,hv⟩:=ha
   simp only[RM.eval]at h
   split at h
   ·rename_i c e cP
    rw[ho]at cP
    cases cP
    obtain⟨hi,hj,b,f,n,cap,dH,rfl⟩:=hv c e rfl
    split at h
    ·rename_i ja hby
     rw[Bool.cond_eq_ite]at h
     split at h
     ·rename_i hc
      simp only[Bool.and_eq_true,Nat.beq_eq]at hc
      obtain⟨hw,hle⟩:=hc
      have hle:=Nat.le_of_ble_eq_true hle
      split at h
      ·rename_i c' mF
       simp only[RM.eval,Option.some.injEq]at h
       subst h
       have h4:=pD hby hx
       obtain⟨k1,k2,k3,k4,k5⟩:=ahy ja c mF h4 hi (by omega)
       obtain⟨a,afE,h5,h6,h7,h8⟩:=hs.obj id _ ho
       rw[dH]at h5
       cases h5
       rcases h8 with rfl|⟨b',o',cells,fr,us,e1,g1,g2,g3,g4⟩
       ·omega
       ·cases e1
        have lM:dW (ρ id)=some b:=by
         rw[dH]
         simp only[dW]
         rw[if_neg (by omega)]
        have hmul:i*c.size+c.size≤cap*c.size:=by
         rw[←Nat.succ_mul]
         exact Nat.mul_le_mul_right _ (by omega)
        have hlen:f+i*c.size+j+vx.cells.toList.length≤cells.length:=by omega
        have st:=jJ (G:=G) (w:=w) (o':=.vec c' e) ho rfl lM (fun c1 e1 hc1=>by cases hc1;exact⟨c,e,rfl,k1,k2⟩)
         (.cells (cells.take (f+i*c.size+j)++vx.cells.toList++cells.drop (f+i*c.size+j+vx.cells.toList.length)).toArray e fr)
        refine⟨_,kg bE (k3.trans hw) (bG (f+i*c.size+j) _ 0 g1 g2.unm (by omega) (tF ja h4)),fun base=> ?_⟩
        simp only[fp,Nat.add_zero]
        refine Good.write hs ho rfl rfl lM (fun c1 e1 hc1=>by cases hc1;exact⟨c,e,rfl,k1,k2⟩) ?_ cu
        refine⟨some ⟨b,f,none⟩,cap,by rw[dH,k1],by omega,h7,.inr ⟨b,f,_,fr,fun i' j'=>if i'=i∧j≤j'∧j'<j+fA ja then(vx.cells.toList.getD (j' - j) undef)else us i' j',rfl,ey g1, ?_, ?_, ?_⟩⟩
        ·exact g2.over (tF ja h4) hlen
        ·simp only[List.length_append,List.length_take,List.length_drop]
         rw[k2];omega
        ·intro i' j' ew jl
         rw[k1]at ew
         rw[k2]at jl
         rw[k2,yB _ _ _ hlen]
         dsimp only
         by_cases c9:i'=i∧j≤j'∧j'<j+fA ja
         ·obtain⟨rfl,h9,sG⟩:=c9
          rw[if_pos ⟨by omega,by omega⟩,if_pos ⟨rfl,h9,sG⟩]
          have hx1:j' - j<vx.cells.toList.length:=by omega
          refine⟨by rw[show f+i'*c.size+j' - (f+i'*c.size+j)=j' - j from by omega];exact gB _ _ _ hx1, ?_⟩
          have:=k4 (j' - j) _ (gB _ _ undef hx1)
          rw[show j+(j' - j)=j' from by omega]at this
          exact this.step st.fE st.heap st.size
         ·rw[if_neg c9]
          have nQ:¬(f+i*c.size+j≤f+i'*c.size+j'∧f+i'*c.size+j'<f+i*c.size+j+vx.cells.toList.length):=by
           rintro⟨h9,sG⟩
           have hd:f+i*c.size+(f+i'*c.size+j' - (f+i*c.size))=f+i'*c.size+j':=by omega
           obtain⟨h11,h12⟩:=ahz (f:=f) (i:=i) (i':=i') (j:=f+i'*c.size+j' - (f+i*c.size)) (by omega) jl hd
           subst h11
           exact c9 ⟨rfl,by omega,by omega⟩
          rw[if_neg nQ,k5 i' j' ew jl (by omega)]
          obtain⟨h9,sG⟩:=g4 i' j' ew jl
          exact⟨h9,sG.step st.fE st.heap st.size⟩
      ·cases h
     ·cases h
    ·cases h
   ·cases h
  ·cases h
 ·cases h
end
end Go.Sx
namespace Go.Sx
open Go
section
variable{ρ az:Nat→Value}{H H':aH}{G O O':Nat→Prop}{w w':World}{P:Program}
theorem yC{v:Value}{x:SV}(h:akL v=some x):aL O w x v:=by
 unfold akL at h
 split at h<;>simp only[Option.some.injEq,reduceCtorEq]at h<;>subst h
 ·exact .aI _
 ·exact .aZ _ _
 ·exact .str _
 ·exact .oD
 ·exact .ace
 ·exact .acf
 ·exact .acg
theorem tM{v:Value}{a:AV}(h:py v=some a):aC ρ H O w a [v]:=by
 unfold py at h
 split at h
 ·simp only[Option.some.injEq]at h
  subst h
  unfold aC
  exact⟨_,rfl,none,rfl⟩
 ·simp only[Option.map_eq_some_iff]at h
  obtain⟨x,h1,rfl⟩:=h
  unfold aC
  exact⟨v,rfl,yC h1⟩
theorem mG:∀(vs:List Value) {aA:List AV},pz vs=some aA→an ρ H O w aA vs
 |[],aA,h=>by simp only[pz,Option.some.injEq]at h;subst h;exact ao.2 rfl
 |v::vs,aA,h=>by
  simp only[pz]at h
  split at h
  ·rename_i a db h1 h2
   simp only[Option.some.injEq]at h
   subst h
   exact af.2 ⟨[v],vs,rfl,tM h1,mG vs h2⟩
  ·cases h
theorem mH(k:IntKind):∀(cs:List Value),mq k cs=true→cs=(List.replicate cs.length (0:Int)).map (Value.int k)
 |[],_=>rfl
 |v::vs,h=>by
  unfold mq at h
  split at h
  ·rename_i hc;cases hc
  ·rename_i k' vs' hc
   cases hc
   simp only[Bool.and_eq_true]at h
   obtain rfl:=aX h.1
   have:=mH k vs h.2
   simp only[List.length_cons,List.replicate_succ,List.map_cons,List.cons.injEq,true_and]
   exact this
  ·cases h
theorem aai(P:Program)(d:Nat)(ih:∀t cs ak,gw P d t cs=some ak→an ρ H O w ak cs):∀(fs:List Field) (s0 s1:List AV) (r0 r1:List Value),
 fs.foldl (fun acc f=>match acc,dj P f.type with
  |some (ak,rest),some n=>(gw P d f.type (rest.take n)).map fun s=>(ak++s,rest.drop n)
  |_,_=>none) (some (s0,r0))=some (s1,r1)→∃s' c,s1=s0++s'∧r0=c++r1∧an ρ H O w s' c
 |[],s0,s1,r0,r1,h=>by
  simp only[List.foldl_nil,Option.some.injEq,Prod.mk.injEq]at h
  obtain⟨rfl,rfl⟩:=h
  exact⟨[],[],by simp,rfl,ao.2 rfl⟩
 |f::fs,s0,s1,r0,r1,h=>by
  simp only[List.foldl_cons]at h
  have jc:∀(fs:List Field),fs.foldl (fun(acc:Option (List AV×List Value)) f=>match acc,dj P f.type with
   |some (ak,rest),some n=>(gw P d f.type (rest.take n)).map fun s=>(ak++s,rest.drop n)
   |_,_=>none) none=none:=by
   intro fs
   induction fs with
   |nil=>rfl
   |cons f fs ih=>simp only[List.foldl_cons];exact ih
  cases bE:dj P f.type with
  |none=>rw[bE]at h;simp only[jc]at h;cases h
  |some n=>
   rw[bE]at h
   simp only[]at h
   cases hz:gw P d f.type (r0.take n)with
   |none=>rw[hz]at h;simp only[Option.map_none,jc]at h;cases h
   |some s=>
    rw[hz]at h
    simp only[Option.map_some]at h
    obtain⟨s',c,rfl,h1,h2⟩:=aai P d ih fs _ _ _ _ h
    refine⟨s++s',r0.take n++c,by simp, ?_,eY.2 ⟨_,_,rfl,ih _ _ _ hz,h2⟩⟩
    rw[List.append_assoc,←h1,List.take_append_drop]
theorem rW(P:Program):∀(d:Nat) (t:TypeId) (cs:List Value) (ak:List AV),gw P d t cs=some ak→an ρ H O w ak cs
 |0,t,cs,ak,h=>by simp[gw]at h
 |d+1,t,cs,ak,h=>by
  simp only[gw]at h
  split at h
  ·simp only[Option.bind_eq_some_iff]at h
   obtain⟨⟨s,rest⟩,h1,h2⟩:=h
   obtain⟨s',c,rfl,rfl,h3⟩:=aai P d (rW P d) _ _ _ _ _ h1
   simp only[]at h2
   split at h2
   ·simp only[Option.some.injEq]at h2
    subst h2
    simpa using h3
   ·cases h2
  ·split at h
   ·rename_i k hk
    rw[Bool.cond_eq_ite]at h
    split at h
    ·rename_i hc
     simp only[Bool.and_eq_true,beq_iff_eq]at hc
     obtain⟨hz,rfl⟩:=hc
     simp only[Option.some.injEq]at h
     subst h
     exact af.2 ⟨cs,[],by simp,ct.2 ⟨by simp,mH k cs hz⟩,ao.2 rfl⟩
    ·exact mG cs h
   ·exact mG cs h
  ·exact mG cs h
theorem aaj(ak:List AV):(AV.kB ak).iZ=some ak:=by
 unfold AV.kB
 split<;>rfl
theorem ny{t:TypeId}{ak:List AV}(h:(zeroOf P t).bind AV.iZ =some ak):∃i v,P.info? t=some i∧i.zero=some v∧an ρ H O w ak v.cells.toList:=by
 simp only[Option.bind_eq_some_iff]at h
 obtain⟨z,h1,h2⟩:=h
 unfold zeroOf at h1
 split at h1
 ·rename_i cs hz ha
  simp only[Option.bind_eq_some_iff]at hz
  obtain⟨i,hi,hz⟩:=hz
  simp only[Option.map_eq_some_iff]at h1
  obtain⟨ss,h3,rfl⟩:=h1
  rw[aaj]at h2
  simp only[Option.some.injEq]at h2
  subst h2
  exact⟨i,_,hi,hz,by simpa[Value.cells]using rW P 20 t _ _ h3⟩
 ·skip
  rename_i v hz ha
  simp only[Option.bind_eq_some_iff]at hz
  obtain⟨i,hi,hz⟩:=hz
  refine⟨i,v,hi,hz, ?_⟩
  have hc:=tM (ρ:=ρ) (H:=H) (O:=O) (w:=w) h1
  have hv:v.oneCell'=true∧z.iZ =some [z]:=by
   unfold py at h1
   split at h1
   ·simp only[Option.some.injEq]at h1;subst h1;exact⟨rfl,rfl⟩
   ·simp only[Option.map_eq_some_iff]at h1
    obtain⟨x,h3,rfl⟩:=h1
    refine⟨(yC (O:=O) (w:=w) h3).one, ?_⟩
    unfold akL at h3
    split at h3<;>simp only[Option.some.injEq,reduceCtorEq]at h3<;>subst h3<;>rfl
  rw[hv.2]at h2
  simp only[Option.some.injEq]at h2
  subst h2
  rw[kW hv.1]
  exact af.2 ⟨[v],[],rfl,hc,ao.2 rfl⟩
 ·cases h1
theorem w8(hs:Sat ρ H G w){n:Nat}(hn:H n=none){ak:List AV}{e:TypeId}{cells:List Value}(hd:an ρ H (aM ρ H G) w ak cells):
 Good ρ H G w (aB H n (.own ak e)) (.ptr n 0) (.pointer (some ⟨w.heap.size,0,none⟩)) (w.alloc (.cells cells.toArray e)):=by
 have st:Step ρ H (aM ρ H G) w (fun j=>if j=n then .pointer (some ⟨w.heap.size,0,none⟩)else ρ j) (aB H n (.own ak e)) (aM (fun j=>if j=n then .pointer (some ⟨w.heap.size,0,none⟩)else ρ j) (aB H n (.own ak e)) G) (w.alloc (.cells cells.toArray e)):=by
  have ne:∀j x,H j=some x→j≠n:=fun j x hx e=>by subst e;rw[hn]at hx;cases hx
  refine⟨fun j x hx=>by simp[ne j x hx],fun j x hx=>⟨x,by simp[aB,ne j x hx,hx],fun c' e' hc=>⟨c',e',hc,rfl,rfl⟩⟩,fun b hb=> ?_,fun b hb _=>alloc_old hb,by rw[fa];omega⟩
  rcases hb with⟨j,x,hx,h1,h2⟩|hb
  ·by_cases hj:j=n
   ·subst hj;simp only[if_true,dW,Option.some.injEq]at h2;exact .inr (by omega)
   ·simp only[aB,hj,if_false]at hx h2
    exact .inl (.inl ⟨j,x,hx,h1,h2⟩)
  ·exact .inl (.inr hb)
 refine Good.fresh (root:=.pointer (some ⟨w.heap.size,0,none⟩)) hs hn rfl rfl rfl rfl (fun b hb=>by simpa[dW]using hb.symm) ?_ ?_
 ·exact⟨w.heap.size,cells,(0,0),rfl,kQ,fun off _ h=>by omega,hd.step st⟩
 ·unfold ab ay
  exact⟨w.heap.size,by simp,rfl,by simp[aB]⟩
theorem acH(hs:Sat ρ H G w){n:Nat}(hn:H n=none){k:Nat}(hk:1≤k)(sH:k≤maxLen){e:TypeId}:
 Good ρ H G w (aB H n (.vec (.strs (List.replicate k ByteArray.empty)) e)) (.fT n 0 0) (.pointer (some ⟨w.heap.size,0,none⟩)) (w.alloc (.cells (List.replicate k (Value.string ByteArray.empty)).toArray e)):=by
 have pJ:∀b,dW (.slice (some ⟨w.heap.size,0,none⟩) k k)=some b→b=w.heap.size:=by
  intro b hb
  simp only[dW]at hb
  split at hb
  ·cases hb
  ·simpa using hb.symm
 refine Good.fresh (root:=.slice (some ⟨w.heap.size,0,none⟩) k k) hs hn rfl rfl rfl rfl pJ ?_ ?_
 ·refine⟨some ⟨w.heap.size,0,none⟩,k,by simp[aF.n],by simp[aF.n],sH,.inr ⟨w.heap.size,0,List.replicate k (Value.string ByteArray.empty),(0,0),fun _ _=>.string ByteArray.empty,rfl,kQ,⟨fun off _ h=>by omega,fun u hu=> ?_⟩,by simp[aF.size],fun i j hi hj=> ?_⟩⟩
  ·rw[(List.mem_replicate.1 hu).2];rfl
  ·simp only[aF.n,List.length_replicate]at hi
   simp only[aF.size]at hj ⊢
   obtain rfl:j=0:=by omega
   refine⟨by simp[hi], ?_⟩
   simp only[aF.cell]
   rw[show(List.replicate k ByteArray.empty).getD i ByteArray.empty=ByteArray.empty from by simp[List.getD,hi]]
   exact aL.str _
 ·unfold ab ay
  exact⟨rfl,.vec (.strs (List.replicate k ByteArray.empty)) e,by simp[aB],fun c' e' hc=>by
   cases hc
   exact⟨by simp[aF.n];omega,by simp[aF.size],w.heap.size,0,k,k,by simp,by simp[aF.size]⟩⟩
theorem acI{t:TypeId}{n:Nat}(h:yl P t=some n):1≤n∧n≤4096∧∃i v,P.info? t=some i∧i.zero=some v∧v.cells=(List.replicate n (Value.string ByteArray.empty)).toArray:=by
 unfold yl at h
 split at h
 ·rename_i m e i _ hi
  split at h
  ·rename_i z _ hz
   rw[Bool.cond_eq_ite]at h
   split at h
   ·rename_i hc
    simp only[Option.some.injEq]at h
    subst h
    simp only[Bool.and_eq_true,Nat.beq_eq]at hc
    obtain⟨⟨⟨c1,c2⟩,c3⟩,c4⟩:=hc
    have c1:=Nat.le_of_ble_eq_true c1
    refine⟨by omega,Nat.le_of_ble_eq_true c2,i,z,hi,hz, ?_⟩
    rw[List.all_eq_true]at c4
    have:z.cells.toList=List.replicate m (Value.string ByteArray.empty):=List.eq_replicate_iff.2 ⟨by rw[Array.length_toList];exact c3,fun b hb=>by
     have:=c4 b hb
     split at this
     ·rename_i s
      have h0:s.size=0:=by simpa using this
      have:s=ByteArray.empty:=ByteArray.ext (Array.eq_empty_of_size_eq_zero h0)
      rw[this]
     ·cases this⟩
    rw[←this]
   ·cases h
  ·cases h
 ·cases h
theorem afW{t:TypeId}{q:bw}(h:(acu P t).eval H=some q)(hs:Sat ρ H G w){base:Nat}(hb:∀i,i<q.new.length→H (base+i)=none)(old:Value):
 ∃v w',(Instr.alloc t true old).run P w=.ok v w'∧Good ρ H G w (cV H q.up base q.new) (q.r base) v w':=by
 unfold acu at h
 split at h
 ·rename_i n hz
  simp only[RM.eval,Option.some.injEq]at h
  subst h
  obtain⟨h1,h2,i,v,hi,hv,hc⟩:=acI hz
  have hn:H base=none:=by simpa using hb 0 (by simp)
  refine⟨.pointer (some ⟨w.heap.size,0,none⟩),w.alloc (.cells v.cells t), ?_, ?_⟩
  ·simp[Instr.alloc,zeroValue,typeInfo,hi,hv,newVar,newRow];try rfl
  ·simp only[iD]
   have:=acH hs hn h1 (by unfold maxLen;omega) (e:=t)
   rw[hc]
   simpa using this
 split at h
 ·rename_i ak hz
  simp only[RM.eval,Option.some.injEq]at h
  subst h
  obtain⟨i,v,hi,hv,hd⟩:=ny (ρ:=ρ) (H:=H) (O:=aM ρ H G) (w:=w) hz
  have hn:H base=none:=by simpa using hb 0 (by simp)
  refine⟨.pointer (some ⟨w.heap.size,0,none⟩),w.alloc (.cells v.cells t), ?_, ?_⟩
  ·simp[Instr.alloc,zeroValue,typeInfo,hi,hv,newVar,newRow];try rfl
  ·simp only[iD]
   have:=w8 hs hn (e:=t) hd
   simpa using this
 ·cases h
theorem akX{t:TypeId}{x:AV}{vx:Value}{q:bw}(h:(aoA t x).eval H=some q)(hs:Sat ρ H G w)(hd:ab ρ H (aM ρ H G) w x vx){base:Nat}(hb:∀i,i<q.new.length→H (base+i)=none):
 ∃v w',(Instr.box t vx).run P w=.ok v w'∧Good ρ H G w (cV H q.up base q.new) (q.r base) v w':=by
 unfold aoA at h
 split at h
 ·rename_i ak hz
  simp only[RM.eval,Option.some.injEq]at h
  subst h
  have hn:H base=none:=by simpa using hb 0 (by simp)
  refine⟨.pointer (some ⟨w.heap.size,0,none⟩),w.alloc (.cells vx.cells t), ?_, ?_⟩
  ·simp[Instr.box,newVar,newRow];try rfl
  ·simp only[iD]
   have:=w8 hs hn (e:=t) (pD hz hd)
   simpa using this
 ·cases h
end
end Go.Sx
namespace Go.Sx
open Go
section
variable{ρ az:Nat→Value}{H H':aH}{G O O':Nat→Prop}{w w':World}{P:Program}
theorem w9(off:Nat):∀(vs:List Value) (k:Nat) (cells:Array Value),off+k+vs.length≤cells.size→
 ((vs.zipIdx k).foldl (fun(cs:Array Value) (x:Value×Nat)=>cs.setIfInBounds (off+x.2) x.1) cells).toList=cells.toList.take (off+k)++vs++cells.toList.drop (off+k+vs.length)
 |[],k,cells,_=>by simp
 |v::vs,k,cells,h=>by
  simp only[List.length_cons]at h
  simp only[List.zipIdx_cons,List.foldl_cons]
  rw[w9 off vs (k+1) _ (by simp;omega)]
  have bc:off+k<cells.toList.length:=by simp;omega
  simp only[Array.toList_setIfInBounds]
  rw[←Nat.add_assoc,List.take_set,List.drop_set_of_lt (by omega)]
  have e1:(cells.toList.take (off+k+1)).set (off+k) v=cells.toList.take (off+k)++[v]:=by
   rw[List.take_succ_eq_append_getElem bc]
   rw[List.set_append_right _ _ (by simp;omega)]
   simp at bc
   simp[Nat.min_eq_left (Nat.le_of_lt bc)]
  rw[e1]
  simp only[List.append_assoc,List.length_cons,List.cons_append,List.nil_append]
  rw[show off+k+1+vs.length=off+k+(vs.length+1)from by omega]
theorem sT{place:Nat→Option (Nat×Nat)}{ev:Operand→AV}{e:Operand→Value}:∀(l:List (Nat×Operand)) (ak ss:List AV) (cells:Array Value),(∀p∈l,ab ρ H O w (ev p.2) (e p.2))→
 oI place ak (l.map fun p=>(p.1,ev p.2))=some ss→an ρ H O w ak cells.toList→
 ∃dQ,Instr.fill place cells (l.map fun p=>(p.1,e p.2))=some dQ∧an ρ H O w ss dQ.toList
 |[],ak,ss,cells,_,h,hd=>by
  simp only[List.map_nil,oI,Option.some.injEq]at h
  subst h
  exact⟨cells,rfl,hd⟩
 |(i,x)::l,ak,ss,cells,hp,h,hd=>by
  simp only[List.map_cons,oI]at h
  split at h
  ·rename_i off size ja hpl hby
   rw[Bool.cond_eq_ite]at h
   split at h
   ·rename_i hc
    simp only[Bool.and_eq_true,Nat.beq_eq]at hc
    simp only[Option.bind_eq_some_iff]at h
    obtain⟨s1,h1,h2⟩:=h
    have hx:=pD hby (hp (i,x) (by simp))
    have hlen:=iA hx
    obtain⟨h3,h4⟩:=tE h1 hd hx
    simp only[Array.length_toList]at hlen h3
    obtain⟨dQ,h5,h6⟩:=sT l s1 ss ((e x).cells.zipIdx.foldl (fun cs (c,j)=>cs.setIfInBounds (off+j) c) cells) (fun p wg=>hp p (by simp[wg])) h2 (by
     rw[←Array.foldl_toList,Array.toList_zipIdx]
     have:=w9 off (e x).cells.toList 0 cells (by simpa using h3)
     simp only[Nat.add_zero]at this
     rw[this]
     exact h4)
    refine⟨dQ, ?_,h6⟩
    simp only[List.map_cons,Instr.fill,hpl]
    rw[if_neg (by simp;omega)]
    exact h5
   ·cases h
  ·cases h
theorem rX(P:Program)(w:World):∀(fs:List Field),fs.all (fun f=>(dj P f.type).isSome)=true→
 (fs.mapM (m:=Sem) fun f=>do pure (f.offset,←sizeOf f.type)).run P w=.ok (fs.map fun f=>(f.offset,(dj P f.type).getD 0)) w
 |[],_=>by simp
 |f::fs,h=>by
  simp only[List.all_cons,Bool.and_eq_true]at h
  obtain⟨n,hn⟩:=Option.isSome_iff_exists.1 h.1
  have ih:=rX P w fs h.2
  simp only[List.mapM_cons,Sem.run_bind,run_sizeOf hn,Result.andThen_ok,Sem.run_pure,ih,List.map_cons,hn,Option.getD_some]
theorem afX{t:TypeId}{ps:Array (Nat×Operand)}{ev:Operand→AV}{e:Operand→Value}{q:bw}(h:(acv P t (ps.toList.map fun p=>(p.1,ev p.2))).eval H=some q)(hn:bq q.need)
 (hp:∀p∈ps,ab ρ H O w (ev p.2) (e p.2)):eI P ρ H O w q (Instr.build t (ps.map fun(i,x)=>(i,e x))):=by
 have wg:∀p∈ps.toList,ab ρ H O w (ev p.2) (e p.2):=fun p hm=>hp p (Array.mem_toList_iff.1 hm)
 unfold acv at h
 split at h
 ·rename_i ak fs hz ht
  obtain⟨i,v,hi,hv,hd⟩:=ny (ρ:=ρ) (H:=H) (O:=O) (w:=w) hz
  rw[Bool.cond_eq_ite]at h
  split at h
  ·rename_i yD
   split at h
   ·rename_i ss hss
    have hm:(fs.mapM (m:=Sem) fun f=>do pure (f.offset,←sizeOf f.type)).run P w=.ok (fs.toList.map fun f=>(f.offset,(dj P f.type).getD 0)).toArray w:=by
     rw[Array.mapM_eq_mapM_toList]
     simp only[Sem.run_map,rX P w fs.toList yD,Result.andThen_ok]
    have aoM:(fun i=>((fs.toList.map fun(f:Field)=>(f.offset,(dj P f.type).getD 0)).toArray)[i]?)=(fun(i:Nat)=>(fs[i]?).bind fun(f:Field)=>(dj P f.type).map fun n=>(f.offset,n)):=by
     funext i
     simp only[List.getElem?_toArray,List.getElem?_map,Array.getElem?_toList]
     cases hf:fs[i]? with
     |none=>rfl
     |some f=>
      have jm:f∈fs.toList:=Array.mem_toList_iff.2 (Array.mem_of_getElem? hf)
      obtain⟨n,hn⟩:=Option.isSome_iff_exists.1 (List.all_eq_true.1 yD f jm)
      simp[hn]
    obtain⟨dQ,h1,h2⟩:=sT ps.toList ak ss v.cells wg hss hd
    refine ax h (fun _=>⟨.agg dQ, ?_,by simpa using kP h2⟩) hn
    rw[←aoM]at h1
    simp only[Instr.build,zeroValue,typeInfo,Sem.run_bind,run_program,Result.andThen_ok,hi,Sem.run_pure,hv,run_underlying ht,hm]
    simp only[Array.toList_map]
    erw [h1]
    rfl
   ·cases h
  ·cases h
 ·rename_i ak n el hz ht
  obtain⟨i,v,hi,hv,hd⟩:=ny (ρ:=ρ) (H:=H) (O:=O) (w:=w) hz
  split at h
  ·rename_i sz bE
   split at h
   ·rename_i ss hss
    obtain⟨dQ,h1,h2⟩:=sT ps.toList ak ss v.cells wg hss hd
    refine ax h (fun _=>⟨.agg dQ, ?_,by simpa using kP h2⟩) hn
    simp only[Instr.build,zeroValue,typeInfo,Sem.run_bind,run_program,Result.andThen_ok,hi,Sem.run_pure,hv,run_underlying ht,run_sizeOf bE]
    simp only[Array.toList_map]
    erw [h1]
    rfl
   ·cases h
  ·cases h
 ·cases h
end
end Go.Sx
namespace Go.Sx
open Go
section
variable{ρ az:Nat→Value}{H H':aH}{G O O':Nat→Prop}{w w':World}{P:Program}
def Pts(O:Nat→Prop)(w:World)(l:List SV)(cs:List Value):Prop:=l.length=cs.length∧∀(i:Nat) (v:SV),l[i]? =some v→∃u,cs[i]? =some u∧aL O w v u
theorem akY:Pts O w [] ([]:List Value):=⟨rfl,by simp⟩
theorem tN{v:SV}{l:List SV}{cs:List Value}(h:Pts O w (v::l) cs):∃u jb,cs=u::jb∧aL O w v u∧Pts O w l jb:=by
 obtain⟨h1,h2⟩:=h
 cases cs with
 |nil=>simp at h1
 |cons u jb=>
  obtain⟨u',h3,h4⟩:=h2 0 v rfl
  simp at h3
  subst h3
  exact⟨_,_,rfl,h4,by simpa using h1,fun i x hx=>by simpa using h2 (i+1) x (by simpa using hx)⟩
theorem ahA{v:SV}{l:List SV}{u:Value}{cs:List Value}(h1:aL O w v u)(h2:Pts O w l cs):Pts O w (v::l) (u::cs):=
 ⟨by simp[h2.1],fun i x hx=>by
   cases i with
   |zero=>simp at hx;subst hx;exact⟨u,rfl,h1⟩
   |succ i=>simpa using h2.2 i x (by simpa using hx)⟩
theorem acJ:∀(aA:List AV) {l:List SV} {cs:List Value},svs aA=some l→an ρ H O w aA cs→Pts O w l cs
 |[],l,cs,h,hd=>by
  simp only[svs,Option.some.injEq]at h
  subst h
  obtain rfl:=ao.1 hd
  exact akY
 |a::aA,l,cs,h,hd=>by
  obtain⟨c1,c2,rfl,h1,h2⟩:=af.1 hd
  rcases qT a with⟨k,n,ws,rfl⟩|ha
  ·simp[svs]at h
  ·have hs:svs (a::aA)=match a.sv?,svs aA with|some v,some vs=>some (v::vs)|_,_=>none:=by
    cases a<;>first|rfl|(exact(ha _ _ _ rfl).elim)
   rw[hs]at h
   split at h
   ·rename_i v vs hv hvs
    simp only[Option.some.injEq]at h
    subst h
    cases a with
    |s x=>
     unfold aC at h1
     obtain⟨u,rfl,hu⟩:=h1
     have:x=v:=by cases x<;>simp only[AV.sv?,Option.some.injEq,reduceCtorEq]at hv<;>exact hv
     subst this
     exact ahA hu (acJ aA hvs h2)
    |emp=>
     unfold aC at h1
     obtain⟨u,rfl,x,rfl⟩:=h1
     simp only[AV.sv?,Option.some.injEq]at hv
     subst hv
     exact ahA (.ro (.dU 1 0 fun _ _=>.aR) x 0 (fun _ _=>undef) 0 0 (Nat.le_refl _) (by simp[maxLen]) (by simp[aF.n]) (by simp[aF.n]) (by simp[aF.n])) (acJ aA hvs h2)
    |_=>simp[AV.sv?]at hv
   ·cases h
theorem xa(k:IntKind):∀(l:List SV) {zs:List Int} {cs:List Value},oJ k l=some zs→Pts O w l cs→zs.length=cs.length∧∀i,i<zs.length→∃u,cs[i]? =some u∧aL O w (.int k (zs.getD i 0)) u
 |[],zs,cs,h,hp=>by
  simp only[oJ,Option.some.injEq]at h
  subst h
  exact⟨hp.1,by simp⟩
 |v::l,zs,cs,h,hp=>by
  obtain⟨u,jb,rfl,hu,wg⟩:=tN hp
  have key:∀k' n,aL O w (.int k' n) u→(bif bC k k' then(oJ k l).map (n:: ·)else none)=some zs→zs.length=(u::jb).length∧∀i,i<zs.length→∃x,(u::jb)[i]? =some x∧aL O w (.int k (zs.getD i 0)) x:=by
   intro k' n hd h
   rw[Bool.cond_eq_ite]at h
   split at h
   ·rename_i hk
    obtain rfl:=aX hk
    simp only[Option.map_eq_some_iff]at h
    obtain⟨zs',h1,rfl⟩:=h
    obtain⟨h2,h3⟩:=xa k l h1 wg
    refine⟨by simp[h2],fun i hi=> ?_⟩
    cases i with
    |zero=>exact⟨u,rfl,by simpa using hd⟩
    |succ i=>simpa using h3 i (by simpa using hi)
   ·cases h
  cases v<;>simp only[oJ,reduceCtorEq]at h
  case int k' n=>exact key k' n hu h
  case aZ k' n=>cases hu;exact key k' n (.int _ _) h
theorem xb:∀(l:List SV) {zs:List ByteArray} {cs:List Value},qN l=some zs→Pts O w l cs→zs.length=cs.length∧∀i,i<zs.length→∃u,cs[i]? =some u∧aL O w (.str (zs.getD i ByteArray.empty)) u
 |[],zs,cs,h,hp=>by
  simp only[qN,Option.some.injEq]at h
  subst h
  exact⟨hp.1,by simp⟩
 |v::l,zs,cs,h,hp=>by
  obtain⟨u,jb,rfl,hu,wg⟩:=tN hp
  cases v<;>simp only[qN,reduceCtorEq]at h
  simp only[Option.map_eq_some_iff]at h
  obtain⟨zs',h1,rfl⟩:=h
  obtain⟨h2,h3⟩:=xb l h1 wg
  refine⟨by simp[h2],fun i hi=> ?_⟩
  cases i with
  |zero=>exact⟨u,rfl,by simpa using hu⟩
  |succ i=>simpa using h3 i (by simpa using hi)
theorem oQ:∀(l:List SV) {zs:List Bool} {cs:List Value},nu l=some zs→Pts O w l cs→zs.length=cs.length∧∀i,i<zs.length→∃u,cs[i]? =some u∧aL O w (.bool (zs.getD i false)) u
 |[],zs,cs,h,hp=>by
  simp only[nu,Option.some.injEq]at h
  subst h
  exact⟨hp.1,by simp⟩
 |v::l,zs,cs,h,hp=>by
  obtain⟨u,jb,rfl,hu,wg⟩:=tN hp
  cases v<;>simp only[nu,reduceCtorEq]at h
  case bool b=>
   simp only[Option.map_eq_some_iff]at h
   obtain⟨zs',h1,rfl⟩:=h
   obtain⟨h2,h3⟩:=oQ l h1 wg
   refine⟨by simp[h2],fun i hi=> ?_⟩
   cases i with
   |zero=>exact⟨u,rfl,by simpa using hu⟩
   |succ i=>simpa using h3 i (by simpa using hi)
  case aI b=>
   simp only[Option.map_eq_some_iff]at h
   obtain⟨zs',h1,rfl⟩:=h
   obtain⟨h2,h3⟩:=oQ l h1 wg
   refine⟨by simp[h2],fun i hi=> ?_⟩
   cases i with
   |zero=>cases hu;exact⟨_,rfl,by simpa using aL.bool _⟩
   |succ i=>simpa using h3 i (by simpa using hi)
theorem afY{cs:List CK}{f:Nat→SV}{x:CL cs}(h:CL.ofs cs f=some x):∀j,j<CL.wide cs→∀(O:Nat→Prop) (w:World) (u:Value),aL O w (f j) u→aL O w (CL.cell cs x j) u:=by
 unfold CL.ofs at h
 generalize CL.wide cs=m at h
 induction m generalizing x with
 |zero=>intro j hj;omega
 |succ m ih=>
  rw[List.range_succ,List.foldl_append]at h
  simp only[List.foldl_cons,List.foldl_nil,Option.bind_eq_some_iff]at h
  obtain⟨y,h1,h2⟩:=h
  obtain⟨h3,h4⟩:=qW h2
  intro j hj O w u hu
  by_cases hjm:j=m
  ·subst hjm;exact h3 O w u hu
  ·rw[h4 j hjm]
   exact ih h1 j (by omega) O w u hu
theorem aak{cs:List CK}{size:Nat}{cells:List SV}:∀{n i:Nat} {xs:List (CL cs)},wX cs size cells i n=some xs→xs.length=n∧∀k,k<n→∀j,j<CL.wide cs→∀(O:Nat→Prop) (w:World) (u:Value),
 aL O w (cells.getD ((i+k)*size+j) .aR) u→aL O w (CL.cell cs (xs.getD k (CL.d cs)) j) u
 |0,i,xs,h=>by
  simp only[wX,Option.some.injEq]at h
  subst h
  exact⟨rfl,fun k hk=>by omega⟩
 |n+1,i,xs,h=>by
  simp only[wX]at h
  split at h
  ·rename_i x ys h1 h2
   simp only[Option.some.injEq]at h
   subst h
   obtain⟨h3,h4⟩:=aak h2
   refine⟨by simp[h3],fun k hk j hj O w u hu=> ?_⟩
   cases k with
   |zero=>exact afY h1 j hj O w u (by simpa using hu)
   |succ k=>
    have:=h4 k (by omega) j hj O w u (by rw[show i+1+k=i+(k+1)from by omega];exact hu)
    simpa using this
  ·cases h
theorem ahB{sh:Shape}{size n:Nat}{l:List SV}{cs:List Value}(hp:Pts O w l cs)(hl:l.length=n*size)(hn:(rS sh size n l).n=n)(hs:(rS sh size n l).size=size):
 ∀i j,i<n→j<size→∃u,cs[i*size+j]? =some u∧aL O w ((rS sh size n l).cell i j) u:=by
 have hd:∀i j,i<n→j<size→∃u,cs[i*size+j]? =some u∧aL O w ((aF.dU size n fun i j=>l.getD (i*size+j) .aR).cell i j) u:=by
  intro i j hi hj
  have bc:i*size+j<l.length:=by
   rw[hl]
   have:(i+1)*size≤n*size:=Nat.mul_le_mul_right _ (by omega)
   rw[Nat.succ_mul]at this
   omega
  obtain⟨u,h1,h2⟩:=hp.2 (i*size+j) l[i*size+j] (by simp[bc])
  refine⟨u,h1, ?_⟩
  simp only[aF.cell,List.getD,List.getElem?_eq_getElem bc,Option.getD_some]
  exact h2
 unfold rS at hn hs ⊢
 cases sh with
 |ints k=>
  cases hx:oJ k l with
  |none=>simp only[hx,Option.elim]at hn hs ⊢;exact hd
  |some zs=>
   simp only[hx,Option.elim,aF.n,aF.size]at hn hs ⊢
   subst hs
   intro i j hi hj
   obtain rfl:j=0:=by omega
   obtain⟨h1,h2⟩:=xa k l hx hp
   simpa[aF.cell]using h2 i (by omega)
 |strs=>
  cases hx:qN l with
  |none=>simp only[hx,Option.elim]at hn hs ⊢;exact hd
  |some zs=>
   simp only[hx,Option.elim,aF.n,aF.size]at hn hs ⊢
   subst hs
   intro i j hi hj
   obtain rfl:j=0:=by omega
   obtain⟨h1,h2⟩:=xb l hx hp
   simpa[aF.cell]using h2 i (by omega)
 |bB=>
  cases hx:nu l with
  |none=>simp only[hx,Option.elim]at hn hs ⊢;exact hd
  |some zs=>
   simp only[hx,Option.elim,aF.n,aF.size]at hn hs ⊢
   subst hs
   intro i j hi hj
   obtain rfl:j=0:=by omega
   obtain⟨h1,h2⟩:=oQ l hx hp
   simpa[aF.cell]using h2 i (by omega)
 |ae ck=>
  simp only[Bool.cond_eq_ite]at hn hs ⊢
  by_cases hw:(CL.wide ck).beq size=true
  ·simp only[hw,if_true]at hn hs ⊢
   cases hx:wX ck size l 0 n with
   |none=>simp only[hx,Option.elim]at hn hs ⊢;exact hd
   |some zs=>
    simp only[hx,Option.elim,aF.n,aF.size]at hn hs ⊢
    intro i j hi hj
    obtain⟨h1,h2⟩:=aak hx
    obtain⟨u,h3,h4⟩:=hd i j hi hj
    exact⟨u,h3,h2 i hi j (by omega) O w u (by rw[Nat.zero_add];exact h4)⟩
  ·simp only[hw]at hn hs ⊢
   exact hd
 |other=>exact hd
theorem tO{α:Type}(l:List α):∀n,(rep n l).length=n*l.length
 |0=>by simp[rep]
 |n+1=>by simp[rep,tO l n,Nat.succ_mul,Nat.add_comm]
theorem adZ{α:Type}(l:List α):∀(n k:Nat),k<n*l.length→(rep n l)[k]? =l[k%l.length]?
 |0,k,h=>by simp at h
 |n+1,k,h=>by
  simp only[rep]
  by_cases hk:k<l.length
  ·rw[List.getElem?_append_left hk,Nat.mod_eq_of_lt hk]
  ·rw[List.getElem?_append_right (by omega),adZ l n (k - l.length) (by rw[Nat.succ_mul]at h;omega)]
   congr 1
   rw[Nat.mod_eq_sub_mod (by omega:l.length≤k)]
theorem rY{z:List AV}{cs:List Value}(h:an ρ H O w z cs):∀n,an ρ H O w (rep n z) (rep n cs)
 |0=>ao.2 rfl
 |n+1=>eY.2 ⟨_,_,rfl,h,rY h n⟩
theorem afZ(zc:Array Value)(n:Nat):((Array.range (n*zc.size)).map (zc[· %zc.size]!)).toList=rep n zc.toList:=by
 apply List.ext_getElem?
 intro k
 simp only[Array.toList_map,Array.toList_range,List.getElem?_map]
 by_cases hk:k<n*zc.size
 ·rw[List.getElem?_range hk,adZ _ _ _ (by simpa using hk)]
  have hz:0<zc.size:=by
   rcases Nat.eq_zero_or_pos zc.size with h0|h0
   ·rw[h0]at hk;omega
   ·exact h0
  have hm:k%zc.size<zc.size:=Nat.mod_lt _ hz
  simp[hm]
 ·rw[List.getElem?_eq_none (by simp;omega),List.getElem?_eq_none (by rw[tO];simp;omega)]
  rfl
end
end Go.Sx
namespace Go.Sx
open Go
section
variable{ρ az:Nat→Value}{H H':aH}{G O O':Nat→Prop}{w w':World}{P:Program}
theorem kX(hs:Sat ρ H G w){w1:World}(hw:w1.heap=w.heap)(ht:w1.tape=w.tape)(hos:w1.os=w.os)(nQ:w1.output=w.output){n:Nat}(hn:H n=none){c:aF}{e:TypeId}{cells:List Value}{cap:Nat}
 (h1:c.n≤cap) (h2:cap≤maxLen) (h3:cap*c.size≤cells.length) (us:Nat→Nat→Value)
 (hd:∀i j,i<c.n→j<c.size→cells[i*c.size+j]? =some (us i j)∧aL (aM ρ H G) w (c.cell i j) (us i j)) (qY:∀u∈cells,u.oneCell'=true):
 Good ρ H G w (aB H n (.vec c e)) (.vec n) (.slice (some ⟨w.heap.size,0,none⟩) c.n cap) (w1.alloc (.cells cells.toArray e)):=by
 have pJ:∀b,dW (.slice (some ⟨w.heap.size,0,none⟩) c.n cap)=some b→b=w.heap.size:=by
  intro b hb
  simp only[dW]at hb
  split at hb
  ·cases hb
  ·simpa using hb.symm
 have st:Step ρ H (aM ρ H G) w (fun j=>if j=n then .slice (some ⟨w.heap.size,0,none⟩) c.n cap else ρ j) (aB H n (.vec c e)) (aM (fun j=>if j=n then .slice (some ⟨w.heap.size,0,none⟩) c.n cap else ρ j) (aB H n (.vec c e)) G) (w1.alloc (.cells cells.toArray e)):=by
  have ne:∀j x,H j=some x→j≠n:=fun j x hx e=>by subst e;rw[hn]at hx;cases hx
  refine⟨fun j x hx=>by simp[ne j x hx],fun j x hx=>⟨x,by simp[aB,ne j x hx,hx],fun c' e' hc=>⟨c',e',hc,rfl,rfl⟩⟩,fun b hb=> ?_,fun b hb _=>by rw[alloc_old (by rw[hw];exact hb),hw],by rw[fa,hw];omega⟩
  rcases hb with⟨j,x,hx,h1,h2⟩|hb
  ·by_cases hj:j=n
   ·subst hj
    simp only[if_true]at h2
    exact .inr (by rw[pJ b h2];exact Nat.le_refl _)
   ·simp only[aB,hj,if_false]at hx h2
    exact .inl (.inl ⟨j,x,hx,h1,h2⟩)
  ·exact .inl (.inr hb)
 refine Good.fresh (root:=.slice (some ⟨w.heap.size,0,none⟩) c.n cap) hs hn hw ht hos nQ pJ ?_ ?_
 ·refine⟨_,cap,rfl,h1,h2,.inr ⟨w.heap.size,0,cells,(0,0),us,rfl,by rw[←hw];exact kQ,⟨fun off _ h=>by omega,qY⟩,by omega,fun i j hi hj=> ?_⟩⟩
  obtain⟨g1,g2⟩:=hd i j hi hj
  exact⟨by rw[Nat.zero_add];exact g1,g2.step st.fE st.heap st.size⟩
 ·unfold ab ay
  exact⟨rfl,.vec c e,by simp[aB],fun c' e' hc=>by simp⟩
theorem tP{t:TypeId}{n:Nat}{ps:Array (Nat×Operand)}{ev:Operand→AV}{e:Operand→Value}{q:bw}(h:(mu P t n (ps.toList.map fun p=>(p.1,ev p.2))).eval H=some q)
 (hs:Sat ρ H G w) (hp:∀p∈ps,ab ρ H (aM ρ H G) w (ev p.2) (e p.2)) {base:Nat} (hb:∀i,i<q.new.length→H (base+i)=none):
 ∃v w',(Instr.buildSlice t n (ps.map fun(i,x)=>(i,e x))).run P w=.ok v w'∧Good ρ H G w (cV H q.up base q.new) (q.r base) v w':=by
 have wg:∀p∈ps.toList,ab ρ H (aM ρ H G) w (ev p.2) (e p.2):=fun p hm=>hp p (Array.mem_toList_iff.1 hm)
 unfold mu at h
 split at h
 ·rename_i el ht
  split at h
  ·rename_i sz z bE hz
   rw[Bool.cond_eq_ite]at h
   split at h
   ·rename_i hc
    simp only[Bool.and_eq_true,Nat.beq_eq]at hc
    obtain⟨⟨c1,c2⟩,c3⟩:=hc
    have c1:=Nat.le_of_ble_eq_true c1
    have c2:=Nat.le_of_ble_eq_true c2
    split at h
    ·rename_i l hl
     simp only[Option.bind_eq_some_iff]at hl
     obtain⟨ss,aoL,hsv⟩:=hl
     rw[Bool.cond_eq_ite]at h
     split at h
     ·rename_i hc
      simp only[Bool.and_eq_true,Nat.beq_eq]at hc
      obtain⟨⟨d1,d2⟩,d3⟩:=hc
      simp only[RM.eval,Option.some.injEq]at h
      subst h
      obtain⟨i,v,hi,hv,hd⟩:=ny (ρ:=ρ) (H:=H) (O:=aM ρ H G) (w:=w) hz
      have hlz:v.cells.size=sz:=by rw[←Array.length_toList,iA hd,c3]
      have yE:((Array.range (n*sz)).map (v.cells[· %v.cells.size]!)).toList=rep n v.cells.toList:=by rw[←hlz];exact afZ _ _
      obtain⟨dQ,h1,h2⟩:=sT ps.toList _ ss ((Array.range (n*sz)).map (v.cells[· %v.cells.size]!)) wg aoL (by rw[yE];exact rY hd n)
      have aqN:=acJ ss hsv h2
      have aqO:=ahB aqN d1 d2 d3
      have hcl:dQ.toList.length=n*sz:=by rw[←aqN.1,d1]
      have hn:H base=none:=by simpa using hb 0 (by simp)
      refine⟨.slice (some ⟨w.heap.size,0,none⟩) n n,w.alloc (.cells dQ el), ?_, ?_⟩
      ·have aal:¬(n*sz>2^24):=by omega
       have key:∀zc:Array Value,((Array.range (n*sz)).map (zc[· %zc.size]!))=((Array.range (n*sz)).map (v.cells[· %v.cells.size]!))→
        (match Instr.fill (fun i=>some (i*sz,sz)) ((Array.range (n*sz)).map (zc[· %zc.size]!)) (ps.map fun(i,x)=>(i,e x)).toList with
          |some cells=>do
           let a ←newRow el cells
           pure (Value.slice (some a) n n)
          |_=>stuck "buildSlice: a part of the wrong size" :Sem Value).run P w=.ok (.slice (some ⟨w.heap.size,0,none⟩) n n) (w.alloc (.cells dQ el)):=by
        intro zc hz
        rw[hz]
        simp only[Array.toList_map]
        erw [h1]
        simp[newRow]
       simp only[Instr.buildSlice,Sem.run_bind,run_underlying ht,Result.andThen_ok,run_sizeOf bE,aal,if_false]
       by_cases h0:n*sz=0
       ·rw[if_pos h0]
        simp only[Sem.run_bind,Sem.run_pure,Result.andThen_ok]
        exact key #[] (by have:Array.range (n*sz)= #[]:=by rw[h0];rfl
                          rw[this];simp)
       ·rw[if_neg h0]
        simp only[Sem.run_bind,Sem.run_pure,Result.andThen_ok,zeroValue,typeInfo,run_program,hi,hv]
        exact key v.cells rfl
      ·simp only[iD]
       have:=kX hs (w1:=w) rfl rfl rfl rfl hn (c:=rS (shapeOf P el) sz n l) (e:=el) (cells:=dQ.toList) (cap:=n) (by omega) (by simp only[maxLen];have:n≤n*sz:=Nat.le_mul_of_pos_right n (by omega);omega) (by rw[d3,hcl];exact Nat.le_refl _)
        (fun i j=>dQ.toList.getD (i*sz+j) undef) (fun i j hi hj=>by
          rw[d2]at hi
          rw[d3]at hj ⊢
          obtain⟨u,g1,g2⟩:=aqO i j hi hj
          have bc:i*sz+j<dQ.toList.length:=(List.getElem?_eq_some_iff.1 g1).1
          rw[gB _ _ undef bc]at g1
          simp only[Option.some.injEq]at g1
          exact⟨gB _ _ _ bc,by rw[g1];exact g2⟩) (fun u hu=>by
          obtain⟨k,hk,rfl⟩:=List.getElem_of_mem hu
          rw[hcl]at hk
          have hp:0<sz:=by rcases Nat.eq_zero_or_pos sz with h0|h0
                           ·rw[h0]at hk;omega
                           ·exact h0
          obtain⟨u,g1,g2⟩:=aqO (k / sz) (k%sz) (Nat.div_lt_of_lt_mul (by rw[Nat.mul_comm];exact hk)) (Nat.mod_lt _ hp)
          rw[show k / sz*sz+k%sz=k from Nat.div_add_mod' k sz,List.getElem?_eq_getElem (by rw[hcl];exact hk)]at g1
          cases g1
          exact g2.one)
       simpa[d2]using this
     ·cases h
    ·cases h
   ·cases h
  ·cases h
 ·cases h
theorem xc:∀(r need c:Nat),c≤2*need+192→Builtin.growBy need r c≤2*need+192
 |0,need,c,h=>h
 |r+1,need,c,h=>by
  unfold Builtin.growBy
  split
  ·exact h
  ·exact xc r need _ (by omega)
theorem nextslicecap_le{need old:Nat}(h:old<need):Builtin.nextslicecap need old≤2*need+192:=by
 unfold Builtin.nextslicecap
 split
 ·omega
 ·split
  ·omega
  ·exact xc 4 need old (by omega)
theorem growBy_four(n c:Nat):Builtin.growBy n 4 c=
 if c≥n then c else
 if c+(c+768) / 4≥n then c+(c+768) / 4 else
 if c+(c+768) / 4+(c+(c+768) / 4+768) / 4≥n then c+(c+768) / 4+(c+(c+768) / 4+768) / 4 else
 if c+(c+768) / 4+(c+(c+768) / 4+768) / 4+(c+(c+768) / 4+(c+(c+768) / 4+768) / 4+768) / 4≥n
 then c+(c+768) / 4+(c+(c+768) / 4+768) / 4+(c+(c+768) / 4+(c+(c+768) / 4+768) / 4+768) / 4 else
 c+(c+768) / 4+(c+(c+768) / 4+768) / 4+(c+(c+768) / 4+(c+(c+768) / 4+768) / 4+768) / 4+
  (c+(c+768) / 4+(c+(c+768) / 4+768) / 4+(c+(c+768) / 4+(c+(c+768) / 4+768) / 4+768) / 4+768) / 4:=rfl
theorem qZ{need old:Nat}(h:old<need):Builtin.nextslicecap need old≤2*need:=by
 unfold Builtin.nextslicecap
 split
 ·omega
 ·split
  ·omega
  ·rw[growBy_four]
   repeat' split
   all_goals omega
structure Src (P:Program) (O:Nat→Prop) (w:World) (size:Nat) (d:aF) (v:Value) (news:List Value):Prop where
 len:(Builtin.lenOf v).run P w=.ok d.n w
 length:news.length=d.n*size
 first:∀w2:World,w2.heap=w.heap→(Builtin.firstCells size d.n v).run P w2=.ok news.toArray w2
 one:∀u∈news,u.oneCell'=true
 den:∀i j,i<d.n→j<size→∃u,news[i*size+j]? =some u∧aL O w (d.cell i j) u
theorem sU{size:Nat}{d:aF}{v:Value}(h:oP O w d v)(hs:d.size=size)(h1:1≤size):∃news,Src P O w size d v news:=by
 obtain⟨a,cap,us,rfl,g1,g2,g3⟩:=h
 subst hs
 have hdm:∀m,m<d.n*d.size→m / d.size<d.n∧m%d.size<d.size:=fun m hm=>
  ⟨Nat.div_lt_of_lt_mul (by rw[Nat.mul_comm];exact hm),Nat.mod_lt _ (by omega)⟩
 refine⟨(List.range (d.n*d.size)).map fun m=>us (m / d.size) (m%d.size), ?_,by simp,fun w2 hw2=> ?_,fun u hu=> ?_,fun i j hi hj=> ?_⟩
 ·simp[Builtin.lenOf]
 ·rcases Nat.eq_zero_or_pos d.n with h0|h0
  ·rw[h0]
   cases a<;>simp[Builtin.firstCells,loadCells,loadCellsFrom]
  ·obtain⟨b,o,rfl,_,hc⟩:=g3 h0
   simp only[Builtin.firstCells]
   refine run_loadCells w2 _ _ (fun m=>us (m / d.size) (m%d.size)) (fun m hm=> ?_)
   obtain⟨k1,k2⟩:=hdm m hm
   rw[aS]
   have:=(hc _ _ k1 k2).1
   rw[Nat.add_assoc,show m / d.size*d.size+m%d.size=m from by rw[Nat.mul_comm];exact Nat.div_add_mod m d.size]at this
   rw[←this]
   simp[World.cell?,hw2]
 ·obtain⟨m,hm,rfl⟩:=List.mem_map.1 hu
  have hm:m<d.n*d.size:=List.mem_range.1 hm
  obtain⟨k1,k2⟩:=hdm m hm
  obtain⟨b,o,rfl,_,hc⟩:=g3 (Nat.lt_of_le_of_lt (Nat.zero_le _) k1)
  exact(hc _ _ k1 k2).2.one
 ·have bc:i*d.size+j<d.n*d.size:=by
   have:(i+1)*d.size≤d.n*d.size:=Nat.mul_le_mul_right _ (by omega)
   rw[Nat.succ_mul]at this
   omega
  obtain⟨b,o,rfl,_,hc⟩:=g3 (by omega)
  have e1:(i*d.size+j) / d.size=i:=by rw[Nat.mul_comm,Nat.mul_add_div (by omega),Nat.div_eq_of_lt hj];rfl
  have e2:(i*d.size+j)%d.size=j:=by rw[Nat.mul_comm,Nat.mul_add_mod,Nat.mod_eq_of_lt hj]
  exact⟨us i j,by rw[List.getElem?_map,List.getElem?_range bc];simp[e1,e2],(hc i j hi hj).2⟩
theorem akZ{s:ByteArray}:∃news,Src P O w 1 (.ints .u8 (s.data.toList.map fun b=>(b.toNat:Int))) (.string s) news:=by
 refine⟨s.data.toList.map fun b=>.int .u8 b.toNat, ?_,by simp[aF.n],fun w2 hw2=> ?_,fun u hu=> ?_,fun i j hi hj=> ?_⟩
 ·simp[Builtin.lenOf,aF.n]
 ·simp only[Builtin.firstCells,aF.n,Sem.run_pure,List.length_map]
  congr 1
  have h:s.data.toList.length=s.size:=Array.length_toList
  rw[h,ByteArray.extract_zero_size]
  apply Array.toList_inj.1
  rw[Array.toList_map]
 ·obtain⟨b,_,rfl⟩:=List.mem_map.1 hu
  rfl
 ·simp only[aF.n,List.length_map]at hi
  obtain rfl:j=0:=by omega
  have ew:i<s.data.toList.length:=hi
  refine⟨.int .u8 (s.data.toList[i].toNat),by rw[Nat.mul_one,Nat.add_zero,List.getElem?_map,List.getElem?_eq_getElem ew];rfl, ?_⟩
  simp only[aF.cell]
  have:(s.data.toList.map fun b=>((b.toNat:Nat):Int)).getD i 0=(s.data.toList[i].toNat:Int):=by
   rw[List.getD,List.getElem?_map,List.getElem?_eq_getElem ew]
   rfl
  rw[this]
  exact .int _ _
end
end Go.Sx
namespace Go.Sx
open Go
section
variable{ρ az:Nat→Value}{H H':aH}{G O O':Nat→Prop}{w w':World}{P:Program}
theorem fc{α:Type}(xs ys:List α){lo k:Nat}(h:lo+k≤xs.length)(hk:k≤ys.length):(over xs lo k ys).length=xs.length:=by
 simp only[over,List.length_append,List.length_take,List.length_drop];omega
theorem jx{α:Type}(xs ys:List α)(d:α){lo k:Nat}(h:lo+k≤xs.length)(hk:k≤ys.length)(i:Nat):
 (over xs lo k ys).getD i d=if lo≤i∧i<lo+k then ys.getD (i - lo) d else xs.getD i d:=by
 have hto:(xs.take lo).length=lo:=by simp;omega
 have hty:(ys.take k).length=k:=by simp;omega
 simp only[over,List.getD]
 by_cases h1:i<lo
 ·rw[if_neg (by omega),List.append_assoc,List.getElem?_append_left (by omega),List.getElem?_take,if_pos h1]
 ·by_cases h2:i<lo+k
  ·rw[if_pos (by omega),List.append_assoc,List.getElem?_append_right (by omega),hto,List.getElem?_append_left (by omega),List.getElem?_take,if_pos (by omega)]
  ·rw[if_neg (by omega),List.append_assoc,List.getElem?_append_right (by omega),hto,List.getElem?_append_right (by omega),hty,List.getElem?_drop]
   congr 2
   omega
theorem af0{α:Type}{lo i k:Nat}{a b:α}:(bif lo.ble i&&i.blt (lo+k)then a else b)=if lo≤i∧i<lo+k then a else b:=by
 rw[Bool.cond_eq_ite]
 congr 1
 simp[Nat.blt,Nat.lt_iff_add_one_le,Nat.ble_eq]
theorem aam{cs jb:List CK}(xs:List (CL cs))(ys:List (CL jb))(lo k:Nat)(p:aF→Prop)(h1:∀e:jb=cs,p (.ae cs (over xs lo k (e▸ys))))
 (h2:p (.dU (CL.wide cs) xs.length fun i j=>bif lo.ble i&&i.blt (lo+k)then(aF.ae jb ys).cell (i - lo) j else(aF.ae cs xs).cell i j)):p (cZ (.ae cs xs) lo k (.ae jb ys)):=by
 simp only[cZ]
 split
 ·rename_i h _;exact h1 h.down
 ·exact h2
theorem rZ(c d:aF){lo k:Nat}(h:lo+k≤c.n)(hk:k≤d.n):
 (cZ c lo k d).n=c.n∧(cZ c lo k d).size=c.size∧∀i j,i<c.n→(cZ c lo k d).cell i j=if lo≤i∧i<lo+k then d.cell (i - lo) j else c.cell i j:=by
 have other:∀c':aF,c'=.dU c.size c.n (fun i j=>bif lo.ble i&&i.blt (lo+k)then d.cell (i - lo) j else c.cell i j)→
  c'.n=c.n∧c'.size=c.size∧∀i j,i<c.n→c'.cell i j=if lo≤i∧i<lo+k then d.cell (i - lo) j else c.cell i j:=by
  rintro c' rfl
  exact⟨rfl,rfl,fun i j _=>af0⟩
 cases c<;>cases d
 case ints.ints k1 xs k2 ys=>
  simp only[cZ]
  cases hkk:bC k1 k2
  ·exact other _ rfl
  ·obtain rfl:=aX hkk
   simp only[aF.n]at h hk
   refine⟨fc xs ys h hk,rfl,fun i j _=> ?_⟩
   simp only[aF.cell,jx xs ys _ h hk,cond_true]
   split<;>rfl
 case strs.strs xs ys=>
  simp only[aF.n]at h hk
  refine⟨fc xs ys h hk,rfl,fun i j _=> ?_⟩
  simp only[cZ,aF.cell,jx xs ys _ h hk]
  split<;>rfl
 case bB.bB xs ys=>
  simp only[aF.n]at h hk
  refine⟨fc xs ys h hk,rfl,fun i j _=> ?_⟩
  simp only[cZ,aF.cell,jx xs ys _ h hk]
  split<;>rfl
 case ae.ae cs xs jb ys=>
  simp only[aF.n]at h hk
  refine aam xs ys lo k (fun c'=>c'.n=(aF.ae cs xs).n∧c'.size=(aF.ae cs xs).size∧∀i j,i<(aF.ae cs xs).n→c'.cell i j=if lo≤i∧i<lo+k then(aF.ae jb ys).cell (i - lo) j else(aF.ae cs xs).cell i j) ?_ (other _ rfl)
  rintro rfl
  refine⟨fc xs ys h hk,rfl,fun i j _=> ?_⟩
  simp only[aF.cell,jx xs ys _ h hk]
  split<;>rfl
 all_goals exact other _ rfl
theorem Good.upd(hs:Sat ρ H G w){id:Nat}{o o':ad}(ho:H id=some o)(ha:o.alive=o'.alive)
 (qU:∀c' e',o'=.vec c' e'→∃c e,o=.vec c e∧c'.n=c.n∧c'.size=c.size) {r:AV} {v:Value}
 (dL:gZ ρ (aB H id o') (aM ρ H G) w (ρ id) o') (hr:ab ρ (aB H id o') (aM ρ H G) w r v):Good ρ H G w (aB H id o') r v w:=by
 have hh:=yw (ρ:=ρ) (G:=G) ho ha
 have st:Step ρ H (aM ρ H G) w ρ (aB H id o') (aM ρ (aB H id o') G) w:=by
  refine⟨fun _ _ _=>rfl,fun j x hx=> ?_,fun c hc=>.inl (by rw[hh]at hc;exact hc),fun c hc hO=>rfl,Nat.le_refl _⟩
  by_cases hj:j=id
  ·subst hj
   rw[ho]at hx
   cases hx
   exact⟨o',by simp[aB],qU⟩
  ·exact⟨x,by simp[aB,hj,hx],fun c' e' hc=>⟨c',e',hc,rfl,rfl⟩⟩
 refine⟨ρ,⟨fun j x hx=> ?_,fun i j oi oj c h1 h2 h3 h4 h5 h6=> ?_,fun c hc=> ?_,hs.low⟩,by rw[hh];exact hr,st,⟨rfl,rfl,rfl,fun _ _ _=>rfl⟩⟩
 ·by_cases hj:j=id
  ·subst hj
   simp only[aB,if_true,Option.some.injEq]at hx
   subst hx
   rw[hh]
   exact dL
  ·have w5:H j=some x:=by simpa[aB,hj]using hx
   exact(hs.obj j x w5).step st (fun _ _ _=>rfl)
 ·have f:∀i oi,aB H id o' i=some oi→oi.alive=true→∃x,H i=some x∧x.alive=true:=by
   intro i oi hi tH
   by_cases ew:i=id
   ·subst ew
    simp only[aB,if_true,Option.some.injEq]at hi
    subst hi
    exact⟨o,ho,ha.trans tH⟩
   ·exact⟨oi,by simpa[aB,ew]using hi,tH⟩
  obtain⟨x,hx,hxa⟩:=f i oi h1 h3
  obtain⟨y,hy,hya⟩:=f j oj h2 h4
  exact hs.inj i j x y c hx hy hxa hya h5 h6
 ·exact hs.apart c ((yv ho ha c).1 hc)
theorem pK(hs:Sat ρ H G w){id:Nat}{c d:aF}{e:TypeId}(ho:H id=some (.vec c e)){lo k:Nat}(hlo:lo+k≤c.n)(hk:k≤d.n)(h1:1≤c.size){news:List Value}
 (hlen:news.length=k*c.size) (qY:∀u∈news,u.oneCell'=true) (ka:∀i j,i<k→j<c.size→∃u,news[i*c.size+j]? =some u∧aL (aM ρ H G) w (d.cell i j) u):
 ∃w',(∀a cap x,ρ id=.slice a c.n cap→(k=0∨a.map (·.add (lo*c.size))=some x)→(storeCells x news 0).run P w=.ok () w')∧(k=0→w'=w)∧
  ∀r v,(∀w2,ab ρ (aB H id (.vec (cZ c lo k d) e)) (aM ρ H G) w2 r v)→Good ρ H G w (aB H id (.vec (cZ c lo k d) e)) r v w':=by
 obtain⟨hn,bE,pL⟩:=rZ c d hlo hk
 obtain⟨a,cap,dH,q1,q2,q3⟩:=hs.obj id _ ho
 have qU:∀c' e',ad.vec (cZ c lo k d) e=.vec c' e'→∃c1 e1,ad.vec c e=.vec c1 e1∧c'.n=c1.n∧c'.size=c1.size:=fun c' e' hc=>by cases hc;exact⟨c,e,rfl,hn,bE⟩
 have hh:=yw (ρ:=ρ) (G:=G) ho (show(ad.vec c e).alive=(ad.vec (cZ c lo k d) e).alive from rfl)
 rcases Nat.eq_zero_or_pos k with h0|h0
 ·subst h0
  have jd:news=[]:=List.eq_nil_of_length_eq_zero (by rw[hlen];simp)
  subst jd
  refine⟨w,fun a cap x _ _=>rfl,fun _=>rfl,fun r v hr=>Good.upd (o':=.vec (cZ c lo 0 d) e) hs ho rfl qU ?_ (hr w)⟩
  have hc:∀i j,i<c.n→(cZ c lo 0 d).cell i j=c.cell i j:=fun i j hi=>by rw[pL i j hi,if_neg (by omega)]
  refine⟨a,cap,by rw[hn];exact dH,by omega,q2, ?_⟩
  rcases q3 with q3|⟨b,o,cells,fr,us,e1,e2,e3,e4,e5⟩
  ·exact .inl q3
  ·exact .inr ⟨b,o,cells,fr,us,e1,e2,e3,by rw[bE];exact e4,fun i j hi hj=>by rw[hn]at hi;rw[bE]at hj ⊢;rw[hc i j hi];exact e5 i j hi hj⟩
 ·rcases q3 with q3|⟨b,o,cells,fr,us,rfl,e2,e3,e4,e5⟩
  ·omega
  ·have lM:dW (ρ id)=some b:=by rw[dH];simp only[dW];rw[if_neg (by omega)]
   have hm1:(lo+k)*c.size≤cap*c.size:=Nat.mul_le_mul_right _ (by omega)
   rw[Nat.add_mul]at hm1
   have hl:o+lo*c.size+news.length≤cells.length:=by omega
   have sV:(cells.take (o+lo*c.size)++news++cells.drop (o+lo*c.size+news.length)).length=cells.length:=by
    simp only[List.length_append,List.length_take,List.length_drop];omega
   let obj:Obj:=.cells (cells.take (o+lo*c.size)++news++cells.drop (o+lo*c.size+news.length)).toArray e fr
   refine⟨World.bX w b obj,fun a' afE x hr hx=> ?_,fun h=>by omega,fun r v hr=> ?_⟩
   ·rw[dH]at hr
    cases hr
    rcases hx with hx|hx
    ·omega
    ·simp only[Option.map_some,aS,Option.some.injEq]at hx
     subst hx
     have:=bG (P:=P) (o+lo*c.size) news 0 e2 e3.unm (by omega) qY
     rw[Nat.add_zero]at this
     exact this
   ·have st:=jJ (G:=G) (w:=w) (o':=.vec (cZ c lo k d) e) ho rfl lM qU obj
    refine Good.write hs ho rfl rfl lM qU ?_ (hr _)
    refine⟨some ⟨b,o,none⟩,cap,by rw[hn];exact dH,by omega,q2,.inr ⟨b,o,_,fr,fun i j=>if lo≤i∧i<lo+k then news.getD ((i - lo)*c.size+j) undef else us i j,rfl,ey e2,e3.over qY (by omega),by rw[sV,bE];exact e4,fun i j hi hj=> ?_⟩⟩
    rw[hn]at hi
    rw[bE]at hj ⊢
    rw[pL i j hi,yB _ _ _ hl]
    dsimp only
    by_cases c9:lo≤i∧i<lo+k
    ·obtain⟨u,g1,g2⟩:=ka (i - lo) j (by omega) hj
     have hmul:i*c.size=lo*c.size+(i - lo)*c.size:=by rw[←Nat.add_mul];congr 1;omega
     have bc:=(List.getElem?_eq_some_iff.1 g1).1
     simp only[if_pos c9]
     rw[if_pos (by omega),show o+i*c.size+j - (o+lo*c.size)=(i - lo)*c.size+j from by omega,g1]
     have:news.getD ((i - lo)*c.size+j) undef=u:=by simp[List.getD,g1]
     rw[this]
     exact⟨rfl,g2.step st.fE st.heap st.size⟩
    ·simp only[if_neg c9]
     have nQ:¬(o+lo*c.size≤o+i*c.size+j∧o+i*c.size+j<o+lo*c.size+news.length):=by
      intro hc
      rcases Nat.lt_or_ge i lo with h2|h2
      ·have:(i+1)*c.size≤lo*c.size:=Nat.mul_le_mul_right _ (by omega)
       rw[Nat.succ_mul]at this
       omega
      ·have:(lo+k)*c.size≤i*c.size:=Nat.mul_le_mul_right _ (by omega)
       rw[Nat.add_mul]at this
       omega
     rw[if_neg nQ]
     obtain⟨g1,g2⟩:=e5 i j hi hj
     exact⟨g1,g2.step st.fE st.heap st.size⟩
end
end Go.Sx
namespace Go.Sx
open Go
section
variable{ρ az:Nat→Value}{H H':aH}{G O O':Nat→Prop}{w w':World}{P:Program}
theorem lR{cs jb:List CK}(xs:List (CL cs))(ys:List (CL jb))(p:aF→Prop)(h1:∀e:jb=cs,p (.ae cs (xs++e▸ys)))
 (h2:p (.dU (CL.wide cs) (xs.length+ys.length) fun i j=>bif i.blt xs.length then(aF.ae cs xs).cell i j else(aF.ae jb ys).cell (i - xs.length) j)):p (cT (.ae cs xs) (.ae jb ys)):=by
 simp only[cT]
 split
 ·rename_i h _
  exact h1 h.down
 ·exact h2
theorem tQ(c d:aF):(cT c d).n=c.n+d.n:=by
 by_cases ht:∃cs xs jb ys,c=.ae cs xs∧d=.ae jb ys
 ·obtain⟨cs,xs,jb,ys,rfl,rfl⟩:=ht
  refine lR xs ys (fun r=>r.n=_) (fun e=> ?_) rfl
  subst e
  simp[aF.n]
 cases c<;>cases d<;>first|(exact absurd ⟨_,_,_,_,rfl,rfl⟩ ht)|skip
 all_goals simp only[cT,aF.n,List.length_append]
 rename_i k xs k' ys
 cases bC k k'<;>simp
theorem mI(c d:aF)(h:d.size=c.size):(cT c d).size=c.size:=by
 by_cases ht:∃cs xs jb ys,c=.ae cs xs∧d=.ae jb ys
 ·obtain⟨cs,xs,jb,ys,rfl,rfl⟩:=ht
  exact lR xs ys (fun r=>r.size=_) (fun e=>by subst e;rfl) rfl
 cases c<;>cases d<;>first|(exact absurd ⟨_,_,_,_,rfl,rfl⟩ ht)|skip
 all_goals simp only[cT,aF.size]at h ⊢
 rename_i k xs k' ys
 cases bC k k'<;>rfl
theorem q7{α:Type}(xs ys:List α)(d:α){i:Nat}(h:i<xs.length):(xs++ys).getD i d=xs.getD i d:=by
 simp[List.getD,List.getElem?_append_left h]
theorem q8{α:Type}(xs ys:List α)(d:α){i:Nat}(h:¬i<xs.length):(xs++ys).getD i d=ys.getD (i - xs.length) d:=by
 simp[List.getD,List.getElem?_append_right (Nat.le_of_not_lt h)]
theorem tT{i n:Nat}(h:i<n):i.blt n=true:=by simpa[Nat.blt,Nat.lt_iff_add_one_le]using h
theorem q9{i n:Nat}(h:¬i<n):i.blt n=false:=by
 cases hb:i.blt n with
 |false=>rfl
 |true=>exact absurd (by simpa[Nat.blt,Nat.lt_iff_add_one_le]using hb) h
theorem yF(c d:aF){i:Nat}(j:Nat)(h:i<c.n):(cT c d).cell i j=c.cell i j:=by
 by_cases ht:∃cs xs jb ys,c=.ae cs xs∧d=.ae jb ys
 ·obtain⟨cs,xs,jb,ys,rfl,rfl⟩:=ht
  simp only[aF.n]at h
  refine lR xs ys (fun r=>r.cell i j=_) (fun e=> ?_) ?_
  ·subst e
   simp only[aF.cell,q7 _ _ _ h]
  ·simp only[aF.cell,tT h,cond_true]
 cases c<;>cases d<;>first|(exact absurd ⟨_,_,_,_,rfl,rfl⟩ ht)|skip
 all_goals simp only[cT,aF.cell,aF.n]at h ⊢
 all_goals first
  |(rw[q7 _ _ _ h];done)
  |(simp only[tT h,cond_true];done)
  |(rename_i k xs k' ys
    cases hk:bC k k'
    ·simp only[cond_false,tT h,cond_true]
    ·simp only[cond_true,q7 _ _ _ h])
theorem yG(c d:aF){i:Nat}(j:Nat)(h:¬i<c.n):(cT c d).cell i j=d.cell (i - c.n) j:=by
 by_cases ht:∃cs xs jb ys,c=.ae cs xs∧d=.ae jb ys
 ·obtain⟨cs,xs,jb,ys,rfl,rfl⟩:=ht
  simp only[aF.n]at h
  refine lR xs ys (fun r=>r.cell i j=_) (fun e=> ?_) ?_
  ·subst e
   simp only[aF.cell,aF.n,q8 _ _ _ h]
  ·simp only[aF.cell,aF.n,q9 h,cond_false]
 cases c<;>cases d<;>first|(exact absurd ⟨_,_,_,_,rfl,rfl⟩ ht)|skip
 all_goals simp only[cT,aF.cell,aF.n]at h ⊢
 all_goals first
  |(rw[q8 _ _ _ h];done)
  |(simp only[q9 h,cond_false];done)
  |(rename_i k xs k' ys
    cases hk:bC k k'
    ·simp only[cond_false,q9 h]
    ·obtain rfl:=aX hk
     simp only[cond_true,q8 _ _ _ h])
theorem fq{id:Nat}{o:ad}(ho:H id=some o):Step ρ H (aM ρ H G) w ρ (aB H id .dead) (aM ρ (aB H id .dead) G) w:=by
 refine⟨fun _ _ _=>rfl,fun j x hx=> ?_,fun b hb=> ?_,fun _ _ _=>rfl,Nat.le_refl _⟩
 ·by_cases hj:j=id
  ·subst hj
   exact⟨.dead,by simp[aB],by simp⟩
  ·exact⟨x,by simp[aB,hj,hx],fun c' e' hc=>⟨c',e',hc,rfl,rfl⟩⟩
 ·rcases hb with⟨j,x,hx,h1,h2⟩|hb
  ·by_cases hj:j=id
   ·subst hj
    simp only[aB,if_true,Option.some.injEq]at hx
    subst hx
    simp[ad.alive]at h1
   ·exact .inl (.inl ⟨j,x,by simpa[aB,hj]using hx,h1,h2⟩)
  ·exact .inl (.inr hb)
theorem fg{id:Nat}{b:Nat}(h:Own ρ (aB H id .dead) b):Own ρ H b:=by
 obtain⟨j,x,hx,h1,h2⟩:=h
 by_cases hj:j=id
 ·subst hj
  simp only[aB,if_true,Option.some.injEq]at hx
  subst hx
  simp[ad.alive]at h1
 ·exact⟨j,x,by simpa[aB,hj]using hx,h1,h2⟩
theorem Sat.kill(hs:Sat ρ H G w){id:Nat}{o:ad}(ho:H id=some o):Sat ρ (aB H id .dead) G w:=by
 have st:=fq (ρ:=ρ) (G:=G) (w:=w) ho
 refine⟨fun j x hx=> ?_,fun i j oi oj b h1 h2 h3 h4 h5 h6=> ?_,fun b hb=>hs.apart b (fg hb),hs.low⟩
 ·by_cases hj:j=id
  ·subst hj
   simp only[aB,if_true,Option.some.injEq]at hx
   subst hx
   trivial
  ·exact(hs.obj j x (by simpa[aB,hj]using hx)).step st (fun _ _ _=>rfl)
 ·have f:∀i oi,aB H id .dead i=some oi→oi.alive=true→H i=some oi:=by
   intro i oi hi tH
   by_cases ew:i=id
   ·subst ew
    simp only[aB,if_true,Option.some.injEq]at hi
    subst hi
    simp[ad.alive]at tH
   ·simpa[aB,ew]using hi
  exact hs.inj i j oi oj b (f i oi h1 h3) (f j oj h2 h4) h3 h4 h5 h6
theorem Good.after{H1 H2:aH}(kD:Step ρ H (aM ρ H G) w ρ H1 (aM ρ H1 G) w)(dv:∀b,Own ρ H1 b→Own ρ H b){r:AV}{v:Value}(h:Good ρ H1 G w H2 r v w'):Good ρ H G w H2 r v w':=by
 obtain⟨az,h1,h2,h3,h4⟩:=h
 exact⟨az,h1,h2,kD.trans h3,h4.os,h4.tape,h4.output,fun b hb hO=>h4.heap b hb (fun hx=>hO (dv b hx))⟩
theorem ra(hs:Sat ρ H G w){n:Nat}(hn:H n=none){c:aF}{e:TypeId}(h0:c.n=0)(a:Option Addr):
 Good ρ H G w (aB H n (.vec c e)) (.vec n) (.slice a c.n 0) w:=by
 have ne:∀j x,H j=some x→j≠n:=fun j x hx e=>by subst e;rw[hn]at hx;cases hx
 have hb:dW (.slice a c.n 0)=none:=by cases a<;>simp[dW]
 have pE:∀b,Own (fun j=>if j=n then .slice a c.n 0 else ρ j) (aB H n (.vec c e)) b→Own ρ H b:=by
  rintro b ⟨j,x,hx,h1,h2⟩
  by_cases hj:j=n
  ·subst hj;simp only[if_true]at h2;rw[hb]at h2;cases h2
  ·simp only[aB,hj,if_false]at hx h2
   exact⟨j,x,hx,h1,h2⟩
 have st:Step ρ H (aM ρ H G) w (fun j=>if j=n then .slice a c.n 0 else ρ j) (aB H n (.vec c e)) (aM (fun j=>if j=n then .slice a c.n 0 else ρ j) (aB H n (.vec c e)) G) w:=
  ⟨fun j x hx=>by simp[ne j x hx],fun j x hx=>⟨x,by simp[aB,ne j x hx,hx],fun c' e' hc=>⟨c',e',hc,rfl,rfl⟩⟩,fun b hb=>.inl (hb.imp (pE b) id),fun b hb _=>rfl,Nat.le_refl _⟩
 refine⟨_,⟨fun j x hx=> ?_,fun i j oi oj b h1 h2 h3 h4 h5 h6=> ?_,fun b hb=>hs.apart b (pE b hb),hs.low⟩, ?_,st,rfl,rfl,rfl,fun _ _ _=>rfl⟩
 ·by_cases hj:j=n
  ·subst hj
   simp only[aB,if_true,Option.some.injEq]at hx
   subst hx
   simp only[if_true]
   exact⟨a,0,rfl,by omega,by simp[maxLen],.inl rfl⟩
  ·have w5:H j=some x:=by simpa[aB,hj]using hx
   simp only[hj,if_false]
   exact(hs.obj j x w5).step st (fun _ _ _=>rfl)
 ·by_cases hi:i=n
  ·subst hi;simp only[if_true]at h5;rw[hb]at h5;cases h5
  ·by_cases hj:j=n
   ·subst hj;simp only[if_true]at h6;rw[hb]at h6;cases h6
   ·simp only[aB,hi,hj,if_false]at h1 h2 h5 h6
    exact hs.inj i j oi oj b h1 h2 h3 h4 h5 h6
 ·unfold ab ay
  exact⟨rfl,.vec c e,by simp[aB],fun c' e' hc=>by simp⟩
theorem xd{z:Array Value}(h:∀u∈z.toList,u.oneCell'=true)(n:Nat):∀u∈(Builtin.zeroCells z n).toList,u.oneCell'=true:=by
 intro u hu
 simp only[Builtin.zeroCells,Array.toList_map,Array.toList_range,List.mem_map,List.mem_range]at hu
 obtain⟨m,hm,rfl⟩:=hu
 have hp:0<z.size:=by
  rcases Nat.eq_zero_or_pos z.size with h0|h0
  ·rw[h0]at hm;omega
  ·exact h0
 have bc:m%z.size<z.size:=Nat.mod_lt _ hp
 rw[getElem!_pos z (m%z.size) bc]
 exact h _ (Array.mem_toList_iff.2 (Array.getElem_mem bc))
theorem aqP(hs:Sat ρ H G w){id n:Nat}{o:ad}(ho:H id=some o)(ha:o.alive=true)(hn:H n=none){b f:Nat}(hb:dW (ρ id)=some b){c:aF}{e:TypeId}{cap:Nat}{cells:List Value}{fr:Nat×Nat}{old:Obj}
 (hold:w.heap[b]? =some old) (hu:yr fr cells) (h1:c.n≤cap) (h2:cap≤maxLen) (h3:f+cap*c.size≤cells.length) (us:Nat→Nat→Value)
 (hd:∀i j,i<c.n→j<c.size→cells[f+i*c.size+j]? =some (us i j)∧aL (aM ρ H G) w (c.cell i j) (us i j)):
 Good ρ H G w (aB (aB H id .dead) n (.vec c e)) (.vec n) (.slice (some ⟨b,f,none⟩) c.n cap) (World.bX w b (.cells cells.toArray e fr)):=by
 have ne:∀j x,H j=some x→j≠n:=fun j x hx e=>by subst e;rw[hn]at hx;cases hx
 have aoN:id≠n:=ne id o ho
 have dv:Own ρ H b:=⟨id,o,ho,ha,hb⟩
 have pJ:∀b',dW (.slice (some ⟨b,f,none⟩) c.n cap)=some b'→b'=b:=by
  intro b' tG
  simp only[dW]at tG
  split at tG
  ·cases tG
  ·simpa using tG.symm
 have pE:∀b',Own (fun j=>if j=n then .slice (some ⟨b,f,none⟩) c.n cap else ρ j) (aB (aB H id .dead) n (.vec c e)) b'→Own ρ H b':=by
  rintro b' ⟨j,x,hx,g1,g2⟩
  by_cases hj:j=n
  ·subst hj
   simp only[if_true]at g2
   rw[pJ b' g2]
   exact dv
  ·by_cases hi:j=id
   ·subst hi
    simp only[aB,hj,if_false,if_true,Option.some.injEq]at hx
    subst hx
    simp[ad.alive]at g1
   ·simp only[aB,hj,hi,if_false]at hx g2
    exact⟨j,x,hx,g1,g2⟩
 have st:Step ρ H (aM ρ H G) w (fun j=>if j=n then .slice (some ⟨b,f,none⟩) c.n cap else ρ j) (aB (aB H id .dead) n (.vec c e)) (aM (fun j=>if j=n then .slice (some ⟨b,f,none⟩) c.n cap else ρ j) (aB (aB H id .dead) n (.vec c e)) G) (World.bX w b (.cells cells.toArray e fr)):=by
  refine⟨fun j x hx=>by simp[ne j x hx],fun j x hx=> ?_,fun b' tG=>.inl (tG.imp (pE b') _root_.id),fun b' tG hO=>hC (fun e=>hO (.inl (by subst e;exact dv))),by rw[iB];exact Nat.le_refl _⟩
  by_cases hi:j=id
  ·subst hi
   exact⟨.dead,by simp[aB,aoN],by simp⟩
  ·exact⟨x,by simp[aB,ne j x hx,hi,hx],fun c' e' hc=>⟨c',e',hc,rfl,rfl⟩⟩
 refine⟨_,⟨fun j x hx=> ?_,fun i j oi oj b' g1 g2 g3 g4 g5 g6=> ?_,fun b' tG=>hs.apart b' (pE b' tG),fun b' tG=>by rw[iB];exact hs.low b' tG⟩, ?_,st,rfl,rfl,rfl,fun b' tG hO=>hC (fun e=>hO (by subst e;exact dv))⟩
 ·by_cases hj:j=n
  ·subst hj
   simp only[aB,if_true,Option.some.injEq]at hx
   subst hx
   simp only[if_true]
   refine⟨_,cap,rfl,h1,h2,.inr ⟨b,f,cells,fr,us,rfl,ey hold,hu,h3,fun i j hi hj=> ?_⟩⟩
   obtain⟨k1,k2⟩:=hd i j hi hj
   exact⟨k1,k2.step st.fE st.heap st.size⟩
  ·by_cases hi:j=id
   ·subst hi
    simp only[aB,hj,if_false,if_true,Option.some.injEq]at hx
    subst hx
    trivial
   ·have w5:H j=some x:=by simpa[aB,hj,hi]using hx
    simp only[hj,if_false]
    refine(hs.obj j x w5).step st (fun b' tH tG=>hC (fun e=>hi ?_))
    subst e
    exact hs.inj j id x o b' w5 ho tH ha tG hb
 ·have f':∀i oi,aB (aB H id .dead) n (.vec c e) i=some oi→oi.alive=true→i≠n→i≠id∧H i=some oi:=by
   intro i oi hi tH cg
   by_cases ew:i=id
   ·subst ew
    simp only[aB,cg,if_false,if_true,Option.some.injEq]at hi
    subst hi
    simp[ad.alive]at tH
   ·exact⟨ew,by simpa[aB,cg,ew]using hi⟩
  by_cases hi:i=n<;>by_cases hj:j=n
  ·rw[hi,hj]
  ·obtain⟨k1,k2⟩:=f' j oj g2 g4 hj
   simp only[hi,hj,if_true,if_false]at g5 g6
   have:=pJ b' g5
   subst this
   exact absurd (hs.inj j id oj o b' k2 ho g4 ha g6 hb) k1
  ·obtain⟨k1,k2⟩:=f' i oi g1 g3 hi
   simp only[hi,hj,if_true,if_false]at g5 g6
   have:=pJ b' g6
   subst this
   exact absurd (hs.inj i id oi o b' k2 ho g3 ha g5 hb) k1
  ·simp only[hi,hj,if_false]at g5 g6
   exact hs.inj i j oi oj b' (f' i oi g1 g3 hi).2 (f' j oj g2 g4 hj).2 g3 g4 g5 g6
 ·unfold ab ay
  exact⟨rfl,.vec c e,by simp[aB],fun c' e' hc=>by simp⟩
theorem fI{t t' ty e:TypeId}{i:TypeInfo}{a:Option Addr}{n cap m:Nat}{vy:Value}{news:List Value}
 (ht:P.underlying t=some (.slice e)) (hi:P.info? e=some i) (hzero:(∃e',P.underlying t'=some (.slice e'))∨P.underlying t'=some .string)
 (hlen:(Builtin.lenOf vy).run P w=.ok m w) (jK:(Builtin.firstCells i.size m vy).run P w=.ok news.toArray w) (mJ:n+m≤cap)
 (kD:∀x,a=some x→(storeCells (x.add (n*i.size)) news 0).run P w=.ok () w') (tV:a=none→w'=w):
 (Builtin.append_ #[t,t'] ty #[.slice a n cap,vy]).run P w=.ok (.slice a (n+m) cap) w':=by
 rcases hzero with⟨e',hd⟩|hd<;>cases a with
 |none=>
  rw[tV rfl]
  simp[Builtin.append_,run_underlying ht,run_underlying hd,sizeOf,typeInfo,hi,hlen,mJ,jK]
 |some x=>
  have:=kD x rfl
  simp[Builtin.append_,run_underlying ht,run_underlying hd,sizeOf,typeInfo,hi,hlen,mJ,jK,this]
theorem mK{t t' ty e:TypeId}{i:TypeInfo}{z:Value}{a:Option Addr}{n cap m:Nat}{vy:Value}{olds news:List Value}
 (ht:P.underlying t=some (.slice e)) (hi:P.info? e=some i) (hz:i.zero=some z) (hzero:(∃e',P.underlying t'=some (.slice e'))∨P.underlying t'=some .string)
 (hlen:(Builtin.lenOf vy).run P w=.ok m w) (hold:(Builtin.firstCells i.size n (.slice a n cap)).run P w.drew=.ok olds.toArray w.drew) (jK:(Builtin.firstCells i.size m vy).run P w.drew=.ok news.toArray w.drew) (mJ:¬n+m≤cap)
 (hsm:(n+m)*i.bytes≤140737488355328) (hb1:1≤i.bytes):
 ∃mL,n+m≤mL∧mL≤maxLen∧(Builtin.append_ #[t,t'] ty #[.slice a n cap,vy]).run P w=
  .ok (.slice (some ⟨w.heap.size,0,none⟩) (n+m) mL) (w.drew.alloc (.cells (olds++news++(Builtin.zeroCells z.cells (mL - (n+m))).toList).toArray e)):=by
 have hnm:n+m≤140737488355328:=Nat.le_trans (by have:=Nat.mul_le_mul_left (n+m) hb1;omega) hsm
 refine⟨grownCap w (n+m) cap e,grownCap_ge w _ _ _,grownCap_le_maxLen w _ _ _ (by simp only[maxLen];omega), ?_⟩
 have aal:¬(281474976710656<Builtin.nextslicecap (n+m) cap*i.bytes):=by
  have h1:=qZ (need:=n+m) (old:=cap) (by omega)
  have h2:Builtin.nextslicecap (n+m) cap*i.bytes≤(2*(n+m))*i.bytes:=Nat.mul_le_mul_right _ h1
  rw[Nat.mul_assoc]at h2
  omega
 have acK:¬(9223372036854775807<(n:Int)+(m:Int)):=by omega
 have ak0:∀X:Array Value,olds.toArray++(news.toArray++X)=(olds++(news++X.toList)).toArray:=fun X=>by
  apply Array.toList_inj.1
  simp
 have hq:¬((Question.appendCap (n+m) cap e).forced=true):=by simp[Question.forced]
 rcases hzero with⟨e',hd⟩|hd
 ·simp[Builtin.append_,run_underlying ht,run_underlying hd,sizeOf,typeInfo,hi,hlen,mJ,acK,aal,hold,jK,zeroValue,hz,newRow]
  rw[if_neg hq,ak0]
  rfl
 ·simp[Builtin.append_,run_underlying ht,run_underlying hd,sizeOf,typeInfo,hi,hlen,mJ,acK,aal,hold,jK,zeroValue,hz,newRow]
  rw[if_neg hq,ak0]
  rfl
theorem ak1(hs:Sat ρ H G w){id:Nat}{c:aF}{e:TypeId}(ho:H id=some (.vec c e)):oP (aM ρ H G) w c (ρ id):=by
 obtain⟨a,cap,h1,h2,h3,h4⟩:=hs.obj id _ ho
 rcases h4 with rfl|⟨b,o,cells,fr,us,rfl,h5,h6,h7,h8⟩
 ·exact⟨a,0,fun _ _=>undef,h1,h2,h3,fun h0=>by omega⟩
 ·refine⟨_,cap,us,h1,h2,h3,fun _=>⟨b,o,rfl,(Array.getElem?_eq_some_iff.1 h5).1,fun i j hi hj=> ?_⟩⟩
  obtain⟨h9,sG⟩:=h8 i j hi hj
  exact⟨by rw[cU h5];exact h9,sG⟩
theorem ahC{sh:Shape}{size:Nat}{x:AV}{k:aF→Option Nat→RM bw}{v:Value}{q:bw}(h:(wY sh size x k).eval H=some q)(hs:Sat ρ H G w)(hd:ab ρ H (aM ρ H G) w x v)(h1:1≤size):
 ∃c idy,(k c idy).eval H=some q∧(c.size=size→∃news,Src P (aM ρ H G) w size c v news):=by
 unfold wY at h
 split at h
 ·rename_i s
  obtain rfl:=eV hd
  refine⟨_,_,h,fun bE=> ?_⟩
  simp only[aF.size]at bE
  subst bE
  exact akZ
 ·obtain⟨c,idy,h2,h3⟩:=tK h hs hd
  exact⟨c,idy,h2,fun bE=>sU h3 bE h1⟩
theorem rb{c d:aF}{size:Nat}{olds news rest:List Value}(hc:c.size=size)(hdz:d.size=size)(_h1:1≤size)(ho:olds.length=c.n*size)(_hn:news.length=d.n*size)
 (h2:∀i j,i<c.n→j<size→∃u,olds[i*size+j]? =some u∧aL O w (c.cell i j) u) (h3:∀i j,i<d.n→j<size→∃u,news[i*size+j]? =some u∧aL O w (d.cell i j) u) (pre:List Value):
 ∀i j,i<(cT c d).n→j<(cT c d).size→(pre++(olds++news++rest))[pre.length+i*(cT c d).size+j]? =some ((pre++(olds++news++rest)).getD (pre.length+i*(cT c d).size+j) undef)∧
  aL O w ((cT c d).cell i j) ((pre++(olds++news++rest)).getD (pre.length+i*(cT c d).size+j) undef):=by
 intro i j hi hj
 have bE:(cT c d).size=size:=by rw[mI c d (by omega),hc]
 rw[tQ]at hi
 rw[bE]at hj ⊢
 have key:∃u,(pre++(olds++news++rest))[pre.length+i*size+j]? =some u∧aL O w ((cT c d).cell i j) u:=by
  rw[Nat.add_assoc,List.getElem?_append_right (by omega),Nat.add_sub_cancel_left,List.append_assoc]
  by_cases bc:i<c.n
  ·obtain⟨u,g1,g2⟩:=h2 i j bc hj
   refine⟨u, ?_,by rw[yF c d j bc];exact g2⟩
   rw[List.getElem?_append_left (List.getElem?_eq_some_iff.1 g1).1]
   exact g1
  ·obtain⟨u,g1,g2⟩:=h3 (i - c.n) j (by omega) hj
   refine⟨u, ?_,by rw[yG c d j bc];exact g2⟩
   have hm:c.n*size+(i - c.n)*size=i*size:=by rw[←Nat.add_mul];congr 1;omega
   rw[List.getElem?_append_right (by omega)]
   rw[show i*size+j - olds.length=(i - c.n)*size+j from by omega]
   rw[List.getElem?_append_left (List.getElem?_eq_some_iff.1 g1).1]
   exact g1
 obtain⟨u,g1,g2⟩:=key
 have bc:=(List.getElem?_eq_some_iff.1 g1).1
 have g1':=g1
 rw[gB _ _ undef bc]at g1'
 simp only[Option.some.injEq]at g1'
 exact⟨gB _ _ _ bc,by rw[g1'];exact g2⟩
theorem acL{t t' ty:TypeId}{x y:AV}{vx vy:Value}{q:bw}(h:(ym P t x y).eval H=some q)(hn:bq q.need)(hs:Sat ρ H G w)
 (hx:ab ρ H (aM ρ H G) w x vx) (hy:ab ρ H (aM ρ H G) w y vy) (hzero:(∃e',P.underlying t'=some (.slice e'))∨P.underlying t'=some .string) {base:Nat} (hb:∀i,i<q.new.length→H (base+i)=none):
 ∃v w',(Builtin.append_ #[t,t'] ty #[vx,vy]).run P w=.ok v w'∧Good ρ H G w (cV H q.up base q.new) (q.r base) v w':=by
 unfold ym at h
 split at h
 ·rename_i e ht
  split at h
  ·rename_i i hi
   simp only[]at h
   rw[Bool.cond_eq_ite]at h
   split at h
   ·rename_i hc
    simp only[Bool.and_eq_true]at hc
    obtain⟨⟨⟨c1,cb⟩,c2⟩,c3⟩:=hc
    have c1:=Nat.le_of_ble_eq_true c1
    have cb:=Nat.le_of_ble_eq_true cb
    obtain⟨z,hz,hzs,hz1⟩:∃z,i.zero=some z∧z.cells.size=i.size∧∀u∈z.cells.toList,u.oneCell'=true:=by
     cases hz:i.zero with
     |none=>simp[hz]at c3
     |some z=>
      simp only[hz,Option.any_some,Bool.and_eq_true,beq_iff_eq,List.all_eq_true]at c3
      exact⟨z,rfl,c3.1,c3.2⟩
    obtain⟨d,idy,h1,nS⟩:=ahC (P:=P) h hs hy c1
    rw[Bool.cond_eq_ite]at h1
    split at h1
    ·rename_i hds
     have hds:d.size=i.size:=by simpa using hds
     obtain⟨news,src⟩:=nS hds
     split at h1
     ·
      simp only[RM.eval,Option.some.injEq]at h1
      subst h1
      have jc:H base=none:=by simpa using hb 0 (by simp)
      have hsm:d.n*i.bytes≤140737488355328:=hn.1
      unfold ab at hx
      obtain⟨a,rfl⟩:=hx
      simp only[iD]
      by_cases hm:d.n=0
      ·have jd:news=[]:=List.eq_nil_of_length_eq_zero (by rw[src.length,hm];simp)
       refine⟨.slice a (0+d.n) 0,w,fI ht hi hzero src.len (src.first w rfl) (by omega) (fun x _=>by rw[jd];rfl) (fun _=>rfl), ?_⟩
       rw[Nat.zero_add]
       exact ra hs jc hm a
      ·obtain⟨mL,g1,g2,g3⟩:=mK (ty:=ty) (olds:=[]) (a:=a) (n:=0) (cap:=0) ht hi hz hzero src.len (by cases a<;>simp[Builtin.firstCells,loadCells,loadCellsFrom]) (src.first w.drew rfl) (by omega) (by rw[Nat.zero_add];exact hsm) cb
       refine⟨_,_,g3, ?_⟩
       rw[Nat.zero_add]at *
       simp only[List.nil_append]
       refine kX (w1:=w.drew) hs rfl rfl rfl rfl jc g1 g2 ?_ (fun i' j'=>(news++(Builtin.zeroCells z.cells (mL - d.n)).toList).getD (i'*d.size+j') undef) (fun i' j' ew jl=> ?_) (fun u hu=>(List.mem_append.1 hu).elim (src.one u) (xd hz1 _ u))
       ·simp only[List.length_append,src.length,Array.length_toList,size_zeroCells,hzs,hds]
        rw[←Nat.add_mul]
        exact Nat.mul_le_mul_right _ (by omega)
       ·obtain⟨u,k1,k2⟩:=src.den i' j' ew (by omega)
        rw[←hds]at k1
        have bc:=(List.getElem?_eq_some_iff.1 k1).1
        have k3:(news++(Builtin.zeroCells z.cells (mL - d.n)).toList)[i'*d.size+j']? =some u:=by rw[List.getElem?_append_left bc];exact k1
        have k4:=k3
        rw[gB _ _ undef (List.getElem?_eq_some_iff.1 k3).1]at k4
        simp only[Option.some.injEq]at k4
        rw[k4]
        exact⟨k3,k2⟩
     ·
      rename_i idx
      simp only[RM.eval]at h1
      split at h1
      ·rename_i c e' ho
       rw[Bool.cond_eq_ite]at h1
       split at h1
       ·rename_i hc
        simp only[Bool.and_eq_true,Nat.beq_eq]at hc
        obtain⟨⟨oR,rfl⟩,_⟩:=hc
        simp only[RM.eval,Option.some.injEq]at h1
        subst h1
        have jc:H base=none:=by simpa using hb 0 (by simp)
        have hsm:(c.n+d.n)*i.bytes≤140737488355328:=hn.1
        have aan:idx≠base:=fun e=>by rw[←e,ho]at jc;cases jc
        unfold ab ay at hx
        obtain⟨_,o,cP,hv⟩:=hx
        rw[ho]at cP
        cases cP
        obtain rfl:=hv c e' rfl
        obtain⟨olds,tW⟩:=sU (P:=P) (ak1 hs ho) oR c1
        obtain⟨a,cap,r1,r2,r3,r4⟩:=hs.obj idx _ ho
        have hcd:d.size=c.size:=by omega
        have ak2:=mI c d hcd
        have han:=tQ c d
        have hmul:(c.n+d.n)*i.size=c.n*i.size+d.n*i.size:=Nat.add_mul _ _ _
        simp only[afP _ _ _ _ aan]
        by_cases mJ:c.n+d.n≤cap
        ·rcases r4 with rfl|⟨b,o,cells,fr,us,rfl,q1,q2,q3,q4⟩
         ·
          have hd0:d.n=0:=by omega
          have jd:news=[]:=List.eq_nil_of_length_eq_zero (by rw[src.length,hd0];simp)
          refine⟨.slice a (c.n+d.n) 0,w,by rw[r1];exact fI ht hi hzero src.len (src.first w rfl) mJ (fun x _=>by rw[jd];rfl) (fun _=>rfl), ?_⟩
          have st:=fq (ρ:=ρ) (G:=G) (w:=w) ho
          refine Good.after st (fun b hb=>fg hb) ?_
          rw[←han]
          exact ra (hs.kill ho) (by simp[aB,Ne.symm aan,jc]) (by omega) a
         ·by_cases wo:cap=0
          ·subst wo
           have hd0:d.n=0:=by omega
           have jd:news=[]:=List.eq_nil_of_length_eq_zero (by rw[src.length,hd0];simp)
           refine⟨.slice (some ⟨b,o,none⟩) (c.n+d.n) 0,w,by rw[r1];exact fI ht hi hzero src.len (src.first w rfl) mJ (fun x _=>by rw[jd];rfl) (fun _=>rfl), ?_⟩
           have st:=fq (ρ:=ρ) (G:=G) (w:=w) ho
           refine Good.after st (fun b hb=>fg hb) ?_
           rw[←han]
           exact ra (hs.kill ho) (by simp[aB,Ne.symm aan,jc]) (by omega) _
          ·have lM:dW (ρ idx)=some b:=by rw[r1];simp[dW,wo]
           have auY:(c.n+d.n)*i.size≤cap*i.size:=Nat.mul_le_mul_right _ mJ
           have hlen:o+c.n*i.size+news.length≤cells.length:=by rw[src.length];rw[oR]at q3;omega
           refine⟨.slice (some ⟨b,o,none⟩) (c.n+d.n) cap,World.bX w b (.cells (cells.take (o+c.n*i.size)++news++cells.drop (o+c.n*i.size+news.length)).toArray e' fr), ?_, ?_⟩
           ·rw[r1]
            refine fI ht hi hzero src.len (src.first w rfl) mJ (fun x hx=> ?_) (fun hx=>by cases hx)
            cases hx
            rw[aS]
            have:=bG (P:=P) (o+c.n*i.size) news 0 q1 q2.unm (by omega) src.one
            simpa using this
           ·rw[←han]
            have sV:(cells.take (o+c.n*i.size)++news++cells.drop (o+c.n*i.size+news.length)).length=cells.length:=by
             simp only[List.length_append,List.length_take,List.length_drop];omega
            have aoO:cells.take (o+c.n*i.size)++news++cells.drop (o+c.n*i.size+news.length)=cells.take o++((cells.drop o).take (c.n*i.size)++news++cells.drop (o+c.n*i.size+news.length)):=by
             rw[List.take_add]
             simp only[List.append_assoc]
            have hto:(cells.take o).length=o:=by simp;omega
            refine aqP hs ho rfl jc lM q1 (q2.over src.one hlen) (by omega) r3 (by rw[sV,ak2];exact q3) (fun i' j'=>(cells.take o++((cells.drop o).take (c.n*i.size)++news++cells.drop (o+c.n*i.size+news.length))).getD ((cells.take o).length+i'*(cT c d).size+j') undef) (fun i' j' ew jl=> ?_)
            have:=rb (O:=aM ρ H G) (w:=w) (c:=c) (d:=d) (size:=i.size) (olds:=(cells.drop o).take (c.n*i.size)) (news:=news) (rest:=cells.drop (o+c.n*i.size+news.length)) oR hds c1 (by simp;omega) src.length (fun i2 j2 hi2 xe=>by
             obtain⟨k1,k2⟩:=q4 i2 j2 hi2 (by omega)
             refine⟨_, ?_,k2⟩
             have hb2:i2*i.size+j2<c.n*i.size:=by
              have:(i2+1)*i.size≤c.n*i.size:=Nat.mul_le_mul_right _ (by omega)
              rw[Nat.succ_mul]at this
              omega
             rw[List.getElem?_take,if_pos hb2,List.getElem?_drop,←Nat.add_assoc]
             rw[oR]at k1
             exact k1) src.den (cells.take o) i' j' ew jl
            rw[aoO]
            rw[hto]at this ⊢
            exact this
        ·obtain⟨mL,g1,g2,g3⟩:=mK (ty:=ty) (olds:=olds) (a:=a) (n:=c.n) (cap:=cap) ht hi hz hzero src.len (by rw[←r1];exact tW.first w.drew rfl) (src.first w.drew rfl) mJ hsm cb
         refine⟨_,_,by rw[r1];exact g3, ?_⟩
         have st:=fq (ρ:=ρ) (G:=G) (w:=w) ho
         refine Good.after st (fun b hb=>fg hb) ?_
         rw[←han]
         refine kX (w1:=w.drew) (hs.kill ho) rfl rfl rfl rfl (by simp[aB,Ne.symm aan,jc]) (by omega) g2 ?_ (fun i' j'=>(olds++news++(Builtin.zeroCells z.cells (mL - (cT c d).n)).toList).getD (i'*(cT c d).size+j') undef) (fun i' j' ew jl=> ?_) (fun u hu=>(List.mem_append.1 hu).elim (fun hu=>(List.mem_append.1 hu).elim (tW.one u) (src.one u)) (xd hz1 _ u))
         ·simp only[List.length_append,src.length,tW.length,Array.length_toList,size_zeroCells,hzs,ak2,oR,han]
          rw[←Nat.add_mul,←Nat.add_mul]
          exact Nat.mul_le_mul_right _ (by omega)
         ·have:=rb (O:=aM ρ H G) (w:=w) (c:=c) (d:=d) (size:=i.size) (olds:=olds) (news:=news) (rest:=(Builtin.zeroCells z.cells (mL - (cT c d).n)).toList) oR hds c1 tW.length src.length tW.den src.den [] i' j' ew jl
          simp only[List.nil_append,List.length_nil,Nat.zero_add]at this
          exact⟨this.1,this.2.step st.fE st.heap st.size⟩
       ·cases h1
      ·cases h1
     ·
      rename_i idx lo n
      simp only[RM.eval]at h1
      split at h1
      ·rename_i c e' ho
       rw[Bool.cond_eq_ite]at h1
       split at h1
       ·rename_i oR
        have oR:c.size=i.size:=by simpa using oR
        simp only[RM.eval,Option.some.injEq]at h1
        subst h1
        have mJ:lo+n+d.n≤c.n:=hn.1
        obtain⟨g0,a,cap,a',g1,g2,g3,rfl,g4,g5⟩:=iC hs ho hx
        obtain⟨w',k1,k2,k3⟩:=pK (P:=P) hs ho (lo:=lo+n) (k:=d.n) (d:=d) mJ (Nat.le_refl _) (by omega) (news:=news) (by rw[src.length,oR]) src.one (fun i' j' ew jl=>by rw[oR]at *;exact src.den i' j' ew jl)
        obtain⟨z1,z2,_⟩:=rZ c d mJ (Nat.le_refl _)
        refine⟨.slice a' (n+d.n) (cap - lo),w',fI ht hi hzero src.len (src.first w rfl) (by omega) (fun x hx=> ?_) (fun hx=> ?_), ?_⟩
        ·refine k1 a cap _ g1 ?_
         by_cases h0:d.n=0
         ·exact .inl h0
         ·refine .inr ?_
          have cg:cap≠lo:=by omega
          rw[g4 cg]at hx
          obtain⟨b,o,rfl⟩:=g5 (by omega)
          simp only[Option.map_some,aS,Option.some.injEq]at hx ⊢
          subst hx
          rw[aS,oR,Nat.add_mul,Nat.add_assoc]
        ·refine k2 ?_
         by_cases cg:cap=lo
         ·omega
         ·rw[g4 cg]at hx
          obtain⟨b,o,rfl⟩:=g5 (by omega)
          cases hx
        ·simp only[fp]
         refine k3 _ _ (fun w2=> ?_)
         unfold ab ay
         refine⟨rfl,.vec (cZ c (lo+n) d.n d) e',by simp[aB],fun c1 e1 hc=> ?_⟩
         cases hc
         exact⟨by rw[z1];omega,a,cap,a',by rw[z1];exact g1,by omega,rfl,by rw[z2];exact g4⟩
       ·cases h1
      ·cases h1
     ·cases h1
    ·cases h1
   ·cases h
  ·cases h
 ·cases h
end
end Go.Sx
namespace Go.Sx
open Go
section
variable{P:Program}{w:World}{b:Nat}{es:Array MapEntry}{clock:Nat}{ck:CK}{m:List (Int×ck.V)}
theorem iz.get(h:iz ck m es.toList clock){j:Nat}{e:MapEntry}(hj:es.toList[j]? =some e):∃k v,m[j]? =some (k,v)∧e.key=.int .i64 k∧e.val=ck.val v:=by
 have h1:=congrArg (fun l=>l[j]?) h.eq
 simp only[List.getElem?_map,hj,Option.map_some]at h1
 cases hm:m[j]? with
 |none=>rw[hm]at h1;cases h1
 |some p=>
  rw[hm]at h1
  simp only[Option.map_some,Option.some.injEq,Prod.mk.injEq]at h1
  exact⟨p.1,p.2,rfl,h1.1,h1.2⟩
theorem iz.key(h:iz ck m es.toList clock):∀e∈es.toList,MapKept.IsKey (.int .i64) e.key:=by
 intro e he
 obtain⟨j,hj⟩:=List.getElem?_of_mem he
 obtain⟨k,v,_,h2,_⟩:=h.get hj
 rw[h2];rfl
theorem oS{V:Type}:∀{m:List (Int×V)} {j:Nat} {k:Int} {v:V},(m.map (·.1)).Nodup→m[j]? =some (k,v)→m.find? (fun p=>p.1==k)=some (k,v)
 |[],j,k,v,_,h=>by simp at h
 |p::m,0,k,v,hn,h=>by
  simp only[List.getElem?_cons_zero,Option.some.injEq]at h
  subst h
  simp
 |p::m,j+1,k,v,hn,h=>by
  simp only[List.getElem?_cons_succ]at h
  simp only[List.map_cons,List.nodup_cons]at hn
  have cg:(p.1==k)=false:=by
   rw[beq_eq_false_iff_ne]
   rintro rfl
   exact hn.1 (List.mem_map.2 ⟨_,List.mem_of_getElem? h,rfl⟩)
  rw[List.find?_cons,cg]
  exact oS hn.2 h
theorem af1{V:Type}{m:List (Int×V)}{k:Int}(h:∀p∈m,p.1≠k):m.find? (fun p=>p.1==k)=none:=
 List.find?_eq_none.2 fun p hp=>by simpa using h p hp
theorem iz.find(h:iz ck m es.toList clock){kt:TypeId}(hk:P.underlying kt=some (.int .i64))(n:Int):
 ((Instr.findKey kt (.int .i64 n) es.toList).run P w=.ok none w∧fD m n=none∧oC m n=false)∨
 ∃j e v,(Instr.findKey kt (.int .i64 n) es.toList).run P w=.ok (some (j,ck.val v)) w∧es.toList[j]? =some e∧e.key=.int .i64 n∧e.val=ck.val v∧m[j]? =some (n,v)∧fD m n=some v∧oC m n=true:=by
 rcases MapKept.findNow_spec (d:=.int .i64) (k:=.int .i64 n) rfl es.toList 0 h.key with⟨h1,h2⟩|⟨j,e,h1,h2,h3⟩
 ·have tV:∀p∈m,p.1≠n:=by
   intro p hp e
   obtain⟨j,hj⟩:=List.getElem?_of_mem hp
   have hlen:es.toList.length=m.length:=by have:=congrArg List.length h.eq;simpa using this
   have bc:j<es.toList.length:=by rw[hlen];exact(List.getElem?_eq_some_iff.1 hj).1
   obtain⟨k,v,g1,g2,_⟩:=h.get (List.getElem?_eq_getElem bc)
   rw[hj]at g1
   cases g1
   exact h2 _ (List.getElem_mem bc) (by rw[g2];exact congrArg _ e)
  refine .inl ⟨MapKept.run_findKey hk h1,by simp[fD,af1 tV], ?_⟩
  simp only[oC,List.any_eq_false,beq_iff_eq]
  exact tV
 ·obtain⟨k,v,g1,g2,g3⟩:=h.get h2
  rw[h3]at g2
  cases g2
  rw[Nat.zero_add]at h1
  refine .inr ⟨j,e,v,by rw[←g3];exact MapKept.run_findKey hk h1,h2,h3,g3,g1,by simp[fD,oS h.keys g1], ?_⟩
  simp only[oC,List.any_eq_true,beq_iff_eq]
  exact⟨_,List.mem_of_getElem? g1,rfl⟩
theorem acM(h:iz ck m es.toList clock)(hb:w.heap[b]? =some (.map es clock)){t kt et:TypeId}(ht:P.underlying t=some (.map kt et))(hk:P.underlying kt=some (.int .i64)){z:Value}(hz:(zeroValue et).run P w=.ok z w)(n:Int)(ok:Bool):
 (Instr.lookup t (.map (some b)) (.int .i64 n) ok).run P w=.ok (if ok=true then .tuple #[((fD m n).map ck.val).getD z,.bool (oC m n)]else((fD m n).map ck.val).getD z) w:=by
 have hc:=MapKept.run_checkKey (w:=w) hk (k:=.int .i64 n) rfl es.isEmpty 9999
 rcases h.find (w:=w) hk n with⟨h1,h2,h3⟩|⟨j,e,v,h1,_,_,_,_,h2,h3⟩
 ·simp[Instr.lookup,run_underlying ht,MapKept.run_getObj_map hb,hc,h1,h2,h3,hz,Result.andThen]
 ·simp[Instr.lookup,run_underlying ht,MapKept.run_getObj_map hb,hc,h1,h2,h3,Result.andThen]
theorem stays(n:Int):(Instr.keyThatStays (.int .i64 n) (.int .i64 n)).run P w=.ok (.int .i64 n) w:=by
 simp[Instr.keyThatStays,Instr.sameBits]
theorem pM(m:List (Int×ck.V))(k:Int)(v:ck.V):((m.map fun p=>if p.1==k then(k,v)else p).map (·.1))=m.map (·.1):=by
 rw[List.map_map]
 refine List.map_congr_left fun p _=> ?_
 simp only[Function.comp]
 by_cases h:p.1==k
 ·rw[if_pos h];exact(beq_iff_eq.1 h).symm
 ·rw[if_neg h]
theorem iz.put(h:iz ck m es.toList clock){n:Int}{v:ck.V}(hv:ck.fits v):
 (oC m n=false→iz ck (mf m n v) (es.push {key:=.int .i64 n,val:=ck.val v,born:=clock}).toList (clock+1))∧
 ∀(j:Nat) (e:MapEntry),es.toList[j]? =some e→e.key=.int .i64 n→oC m n=true→
  iz ck (mf m n v) (es.modify j fun e=>{e with key:=.int .i64 n,val:=ck.val v}).toList clock:=by
 constructor
 ·intro tV
  have atB:∀p∈m,p.1≠n:=by simpa[oC]using tV
  unfold mf
  rw[if_neg (by rw[tV];simp)]
  refine⟨?_, ?_, ?_, ?_, ?_⟩
  ·simp only[Array.toList_push,List.map_append,h.eq,List.map_cons,List.map_nil]
  ·rw[List.map_append,List.nodup_append]
   refine⟨h.keys,by simp,fun a ha b hb=> ?_⟩
   simp only[List.map_cons,List.map_nil,List.mem_singleton]at hb
   obtain⟨p,hp,rfl⟩:=List.mem_map.1 ha
   rw[hb];exact atB p hp
  ·rw[Array.toList_push,List.map_append,List.nodup_append]
   refine⟨h.w4,by simp,fun a ha b hb=> ?_⟩
   simp only[List.map_cons,List.map_nil,List.mem_singleton]at hb
   obtain⟨e,he,rfl⟩:=List.mem_map.1 ha
   have:=h.old e he
   omega
  ·intro e he
   rw[Array.toList_push,List.mem_append]at he
   rcases he with he|he
   ·have:=h.old e he;omega
   ·rw[List.mem_singleton.1 he];exact Nat.lt_succ_self _
  ·intro p hp
   rcases List.mem_append.1 hp with hp|hp
   ·exact h.fits p hp
   ·rw[List.mem_singleton.1 hp];exact hv
 ·intro j e hj he atC
  obtain⟨k,u,g1,g2,g3⟩:=h.get hj
  rw[he]at g2
  cases g2
  have bc:j<es.toList.length:=(List.getElem?_eq_some_iff.1 hj).1
  unfold mf
  rw[if_pos atC]
  have atD:(es.modify j fun e=>{e with key:=.int .i64 n,val:=ck.val v}).toList=es.toList.set j {e with key:=.int .i64 n,val:=ck.val v}:=by
   refine List.ext_getElem? fun i=> ?_
   simp only[Array.toList_modify,List.getElem?_modify,List.getElem?_set]
   by_cases kY:j=i
   ·subst kY
    have aoK:j<es.size:=by simpa using bc
    rw[hj]
    simp[aoK]
   ·simp[kY]
  rw[atD]
  have mF:(m.map fun p=>if p.1==n then(n,v)else p)=m.set j (n,v):=by
   refine List.ext_getElem? fun i=> ?_
   rw[List.getElem?_map,List.getElem?_set]
   by_cases kY:j=i
   ·subst kY
    have atE:j<m.length:=(List.getElem?_eq_some_iff.1 g1).1
    rw[g1]
    simp[atE]
   ·rw[if_neg kY]
    cases hm:m[i]? with
    |none=>rfl
    |some p=>
     have cg:(p.1==n)=false:=by
      rw[beq_eq_false_iff_ne]
      intro e1
      obtain⟨hi1,hi2⟩:=List.getElem?_eq_some_iff.1 hm
      obtain⟨hj1,xe⟩:=List.getElem?_eq_some_iff.1 g1
      refine kY ((List.getElem_inj (h₀:=by simpa using hj1) (h₁:=by simpa using hi1) h.keys).1 ?_)
      simp only[List.getElem_map,hi2,xe,e1]
     rw[Option.map_some,cg];rfl
  refine⟨?_,by rw[pM];exact h.keys, ?_, ?_, ?_⟩
  ·rw[mF,List.map_set,List.map_set,h.eq]
  ·rw[List.map_set]
   have:(es.toList.map (·.born)).set j e.born=es.toList.map (·.born):=by
    refine List.ext_getElem? fun i=> ?_
    rw[List.getElem?_set]
    by_cases kY:j=i
    ·subst kY
     rw[if_pos rfl,if_pos (by simpa using bc),List.getElem?_map,hj];rfl
    ·rw[if_neg kY]
   rw[this];exact h.w4
  ·intro x hx
   rcases List.mem_or_eq_of_mem_set hx with hx|rfl
   ·exact h.old x hx
   ·exact h.old e (List.mem_of_getElem? hj)
  ·intro p hp
   obtain⟨q,hq,rfl⟩:=List.mem_map.1 hp
   split
   ·exact hv
   ·exact h.fits q hq
theorem wu(h:iz ck m es.toList clock)(hb:w.heap[b]? =some (.map es clock)){t kt et:TypeId}(ht:P.underlying t=some (.map kt et))(hk:P.underlying kt=some (.int .i64))(n:Int){v:ck.V}(hv:ck.fits v):
 ∃kZ tX,(Instr.mapUpdate t (.map (some b)) (.int .i64 n) (ck.val v)).run P w=.ok () {w with heap:=w.heap.setIfInBounds b (.map kZ tX)}∧iz ck (mf m n v) kZ.toList tX:=by
 have hc:=MapKept.run_checkKey (w:=w) hk (k:=.int .i64 n) rfl false 9999
 rcases h.find (w:=w) hk n with⟨h1,h2,h3⟩|⟨j,e,u,h1,g1,g2,g3,g4,h2,h3⟩
 ·exact⟨_,_,by simp[Instr.mapUpdate,run_underlying ht,MapKept.run_getObj_map hb,hc,h1,Result.andThen,MapKept.run_setObj_map _ hb],(h.put hv).1 h3⟩
 ·have atF:((es[j]?).map (·.key)).getD (.int .i64 n)=.int .i64 n:=by
   rw[show es[j]? =some e from by rw[←Array.getElem?_toList];exact g1]
   exact g2
  refine⟨_,_, ?_,(h.put hv).2 j e g1 g2 h3⟩
  simp[Instr.mapUpdate,run_underlying ht,MapKept.run_getObj_map hb,hc,h1,Result.andThen,MapKept.run_setObj_map _ hb,atF,stays]
end
end Go.Sx
namespace Go.Sx
open Go
section
variable{ρ az:Nat→Value}{H H':aH}{G O O':Nat→Prop}{w w':World}{P:Program}
theorem aao{t:TypeId}(h:adV P t=true):P.underlying t=some (.int .i64):=by
 unfold adV at h
 split at h
 ·assumption
 ·cases h
theorem af2{t:TypeId}{ck:CK}(h:tA P t ck=true):(zeroValue t).run P w=.ok (ck.val ck.d) w∧ck.fits ck.d:=by
 have key:∀v,(P.info? t).bind (·.zero)=some v→(zeroValue t).run P w=.ok v w:=by
  intro v hv
  obtain⟨i,h1,h2⟩:=Option.bind_eq_some_iff.1 hv
  simp[zeroValue,typeInfo,h1,h2]
 unfold tA at h
 rw[Bool.and_eq_true]at h
 replace h:=h.2
 split at h
 ·rename_i k' k hz
  obtain rfl:=aX h
  exact⟨key _ hz,trivial⟩
 ·rename_i hz;exact⟨key _ hz,trivial⟩
 ·rename_i s hz
  have:s=ByteArray.empty:=by
   have:=Nat.eq_of_beq_eq_true h
   obtain⟨⟨l⟩⟩:=s
   cases l with
   |nil=>rfl
   |cons a l=>simp[ByteArray.size]at this
  subst this
  exact⟨key _ hz,trivial⟩
 ·rename_i cs k n hz
  simp only[Bool.and_eq_true]at h
  have h1:=mH k _ h.1
  have h2:=Nat.eq_of_beq_eq_true h.2
  refine⟨?_,by show(List.replicate n (0:Int)).length=n;simp⟩
  rw[key _ hz]
  congr 1
  show Value.agg cs=.agg ((List.replicate n (0:Int)).map (Value.int k)).toArray
  rw[←h2,←h1]
 ·cases h
theorem acN{ck:CK}{v:ck.V}(h:ck.fits v)(hp:ck.av v≠.s .aR):ab ρ H O w (ck.av v) (ck.val v):=by
 cases ck with
 |int k=>exact aq (.int _ _)
 |bool=>exact aq (.bool _)
 |str=>exact aq (.str _)
 |arr k n=>
  show ab ρ H O w (.ints k n v) _
  unfold ab
  exact⟨h,rfl⟩
 |_=>exact(hp rfl).elim
theorem pN{t:TypeId}{ck:CK}(h:tA P t ck=true)(v:ck.V):ck.av v≠.s .aR:=by
 unfold tA at h
 rw[Bool.and_eq_true]at h
 replace h:=h.1
 cases ck<;>first
  |(cases h;done)
  |(intro e;cases e;done)
theorem yH(hs:Sat ρ H G w){id b:Nat}{ck:CK}{m:List (Int×ck.V)}(ho:H id=some (.map ck m))(hb:ρ id=.map (some b)):∃es clock,w.heap[b]? =some (.map es clock)∧iz ck m es.toList clock:=by
 obtain⟨b',es,clock,h1,h2,h3⟩:=hs.obj id _ ho
 rw[hb]at h1
 cases h1
 exact⟨es,clock,h2,h3⟩
theorem af3{ck:CK}{m:List (Int×ck.V)}(h:∀p∈m,ck.fits p.2){n:Int}{v:ck.V}(hv:fD m n=some v):ck.fits v:=by
 simp only[fD,Option.map_eq_some_iff]at hv
 obtain⟨p,hp,rfl⟩:=hv
 exact h p (List.mem_of_find?_eq_some hp)
theorem acO{t:TypeId}{x i:AV}{ok:Bool}{vx vi:Value}{q:bw}(h:(yn P t x i ok).eval H=some q)(hn:bq q.need)(hs:Sat ρ H G w)(hx:ab ρ H (aM ρ H G) w x vx)(hi:ab ρ H (aM ρ H G) w i vi):
 eI P ρ H (aM ρ H G) w q (Instr.lookup t vx vi ok):=by
 unfold yn at h
 split at h
 ·rename_i kt et id k lit n ht mC
  rw[Bool.cond_eq_ite]at h
  split at h
  ·rename_i hk
   simp only[Bool.and_eq_true]at hk
   obtain rfl:=my hk.2
   obtain rfl:=bN mC hi
   simp only[RM.eval]at h
   split at h
   ·rename_i ck m ho
    rw[Bool.cond_eq_ite]at h
    split at h
    ·rename_i hz
     unfold ab ay at hx
     obtain⟨b,hb,rfl,_⟩:=hx
     obtain⟨es,clock,h1,h2⟩:=yH hs ho hb
     obtain⟨hz1,hz2⟩:=af2 (w:=w) hz
     have iS:=acM h2 h1 ht (aao hk.1) hz1 n ok
     have jo:ab ρ H (aM ρ H G) w (ck.av ((fD m n).getD ck.d)) (((fD m n).map ck.val).getD (ck.val ck.d)):=by
      cases hg:fD m n with
      |none=>exact acN hz2 (pN hz _)
      |some v=>exact acN (af3 h2.fits hg) (pN hz _)
     refine ax h (fun _=>⟨_,iS, ?_⟩) hn
     cases ok
     ·exact jo
     ·simp only[cond_true,if_true]
      unfold ab
      exact⟨[_,_],rfl,au.2 ⟨_,_,rfl,jo,au.2 ⟨_,_,rfl,aq (.bool _),aV.2 rfl⟩⟩⟩
    ·cases h
   ·cases h
  ·cases h
 ·cases h
theorem aoP{ck:CK}{a:AV}{y:ck.V}{v:Value}(h:ck.rdv a=some y)(hd:ab ρ H O w a v):v=ck.val y∧ck.fits y:=by
 cases ck with
 |int k=>
  simp only[CK.rdv]at h
  split at h
  ·rw[Bool.cond_eq_ite]at h
   split at h
   ·rename_i hk;obtain rfl:=aX hk;cases h
    have:=ah (by simp) hd
    cases this;exact⟨rfl,trivial⟩
   ·cases h
  ·rw[Bool.cond_eq_ite]at h
   split at h
   ·rename_i hk;obtain rfl:=aX hk;cases h
    have:=ah (by simp) hd
    cases this;exact⟨rfl,trivial⟩
   ·cases h
  ·cases h
 |bool=>
  simp only[CK.rdv]at h
  split at h
  ·cases h
   have:=ah (by simp) hd
   cases this;exact⟨rfl,trivial⟩
  ·cases h
   have:=ah (by simp) hd
   cases this;exact⟨rfl,trivial⟩
  ·cases h
 |str=>
  simp only[CK.rdv]at h
  split at h
  ·cases h
   have:=ah (by simp) hd
   cases this;exact⟨rfl,trivial⟩
  ·cases h
 |arr k n=>
  simp only[CK.rdv]at h
  split at h
  ·rw[Bool.cond_eq_ite]at h
   split at h
   ·rename_i hk
    simp only[Bool.and_eq_true]at hk
    obtain rfl:=aX hk.1
    obtain rfl:=Nat.eq_of_beq_eq_true hk.2
    cases h
    unfold ab at hd
    exact⟨hd.2,hd.1⟩
   ·cases h
  ·cases h
 |_=>cases h
theorem oc{t:TypeId}{x i a:AV}{vx vi va:Value}{q:bw}(h:(oM P t x i a).eval H=some q)(hs:Sat ρ H G w)(hx:ab ρ H (aM ρ H G) w x vx)(hi:ab ρ H (aM ρ H G) w i vi)(ha:ab ρ H (aM ρ H G) w a va):
 ∃w',(Instr.mapUpdate t vx vi va).run P w=.ok () w'∧∀base,Good ρ H G w (cV H q.up base q.new) (q.r base) undef w':=by
 unfold oM at h
 split at h
 ·rename_i kt et id k lit n ht mC
  rw[Bool.cond_eq_ite]at h
  split at h
  ·rename_i hk
   simp only[Bool.and_eq_true]at hk
   obtain rfl:=my hk.2
   obtain rfl:=bN mC hi
   simp only[RM.eval]at h
   split at h
   ·rename_i ck m ho
    split at h
    ·rename_i y hy
     simp only[RM.eval,Option.some.injEq]at h
     subst h
     obtain⟨rfl,hf⟩:=aoP hy ha
     unfold ab ay at hx
     obtain⟨b,hb,rfl,_⟩:=hx
     obtain⟨es,clock,h1,h2⟩:=yH hs ho hb
     obtain⟨kZ,tX,h3,h4⟩:=wu h2 h1 ht (aao hk.1) n hf
     refine⟨_,h3,fun base=> ?_⟩
     simp only[fp]
     exact Good.write hs ho rfl rfl (by rw[hb];rfl) (fun _ _ hc=>by cases hc) ⟨b,kZ,tX,hb,ey h1,h4⟩ cu
    ·cases h
   ·cases h
  ·cases h
 ·cases h
theorem aap{t:TypeId}{r:Option AV}{q:bw}(h:(tB P t r).eval H=some q)(hs:Sat ρ H G w){base:Nat}(hb:∀i,i<q.new.length→H (base+i)=none):
 r=none∧∃v w',(Instr.makeMap t none).run P w=.ok v w'∧Good ρ H G w (cV H q.up base q.new) (q.r base) v w':=by
 unfold tB at h
 split at h
 ·split at h
  ·rename_i ck _
   simp only[RM.eval,Option.some.injEq]at h
   subst h
   have hn:H base=none:=by simpa using hb 0 (by simp)
   refine⟨rfl,.map (some w.heap.size),w.alloc (.map #[] 0),RowKit.run_makeMap .., ?_⟩
   simp only[iD]
   refine Good.fresh hs hn (root:=.map (some w.heap.size)) (w1:=w) rfl rfl rfl rfl (fun b hb=>by simpa[dW]using hb.symm) ⟨w.heap.size,#[],0,rfl,(MapKept.heap_alloc w _).1,⟨rfl,by simp,by simp,by simp,by simp⟩⟩ ?_
   unfold ab ay
   exact⟨w.heap.size,by simp,rfl,by simp[aB]⟩
  ·cases h
 ·cases h
end
end Go.Sx
