/- Lemmas: SxKind, SxBase, SxExec, SxPure, SxSat, SxMem, SxHeap, SxLoad, SxRead, SxSlice, SxStore, SxNew, SxBuild, SxBuild2, SxAppend, SxOver, SxAppend2, SxMap, SxMapOp. -/
import Derived.WalkKit
import Derived.WalkSpells
import Derived.MapKept
import Derived.Carry
namespace Go.Sx
open Go
inductive CK where
 |int (k:IntKind)
 |bool
 |str
 |ints (k:IntKind)
 |strs
 |bD
 |rows (cs:List CK)
 |arr (k:IntKind) (n:Nat)
mutual
def CK.V:CK→Type
 |.int _=>Int
 |.bool=>Bool
 |.str=>ByteArray
 |.ints _=>List Int
 |.strs=>List ByteArray
 |.bD=>List Bool
 |.rows cs=>List (CL cs)
 |.arr _ _=>List Int
def CL:List CK→Type
 |[]=>Unit
 |c::cs=>c.V×CL cs
end
def CK.d:(c:CK)→c.V
 |.int _=>(0:Int)
 |.bool=>false
 |.str=>ByteArray.empty
 |.ints _=>([]:List Int)
 |.strs=>([]:List ByteArray)
 |.bD=>([]:List Bool)
 |.rows cs=>([]:List (CL cs))
 |.arr _ n=>List.replicate n (0:Int)
def CL.d:(cs:List CK)→CL cs
 |[]=>()
 |c::cs=>(c.d,CL.d cs)
def CK.wide:CK→Nat
 |.arr _ n=>n
 |_=>1
def CL.wide:List CK→Nat
 |[]=>0
 |c::cs=>c.wide+CL.wide cs
def kEq(a b:IntKind):Option (PLift (a=b)):=if h:a=b then some ⟨h⟩else none
mutual
def CK.eq:(a b:CK)→Option (PLift (a=b))
 |.int k,.int k'=>(kEq k k').map fun h=>⟨congrArg CK.int h.down⟩
 |.bool,.bool=>some ⟨rfl⟩
 |.str,.str=>some ⟨rfl⟩
 |.ints k,.ints k'=>(kEq k k').map fun h=>⟨congrArg CK.ints h.down⟩
 |.strs,.strs=>some ⟨rfl⟩
 |.bD,.bD=>some ⟨rfl⟩
 |.rows a,.rows b=>(CL.eq a b).map fun h=>⟨congrArg CK.rows h.down⟩
 |.arr k n,.arr k' n'=>if h:n=n' then(kEq k k').map fun h'=>⟨by rw[h,h'.down]⟩else none
 |_,_=>none
def CL.eq:(a b:List CK)→Option (PLift (a=b))
 |[],[]=>some ⟨rfl⟩
 |a::aA,b::bs=>match CK.eq a b,CL.eq aA bs with
  |some h,some h'=>some ⟨by rw[h.down,h'.down]⟩
  |_,_=>none
 |_,_=>none
end
def zW{a b:List CK}(h:PLift (a=b))(xs:List (CL a)):List (CL b):=h.down▸xs
def fH{V:Type}(m:List (Int×V))(k:Int):Option V:=(m.find? fun p=>p.1==k).map (·.2)
def oG{V:Type}(m:List (Int×V))(k:Int):Bool:=m.any fun p=>p.1==k
def mj{V:Type}(m:List (Int×V))(k:Int)(v:V):List (Int×V):=if oG m k=true then m.map fun p=>if p.1==k then(k,v)else p else m++[(k,v)]
theorem wU{a:List CK}(h:PLift (a=a))(xs:List (CL a)):zW h xs=xs:=rfl
end Go.Sx
namespace Go.Sx
open Go
mutual
inductive SV where
 |aN
 |bool (b:Bool)
 |aJ (b:Bool)
 |ka (n:Nat) (eq:Bool)
 |nZ (k:IntKind)
 |int (k:IntKind) (n:Int)
 |aW (k:IntKind) (n:Int)
 |str (s:ByteArray)
 |mw
 |acd
 |ace
 |acf
 |oH
 |kL (f:FuncId)
 |ifi (t:TypeId) (k:IntKind) (n:Int)
 |ifs (t:TypeId) (s:ByteArray)
 |ifb (t:TypeId) (b:Bool)
 |raw (v:Value) (zs:List Int)
 |ro (c:aF)
 |yf (c:aF) (k:Nat)
 |ma (k:Nat)
 |oc (k:Nat)
inductive aF where
 |ints (k:IntKind) (zs:List Int)
 |strs (ss:List ByteArray)
 |bD (bs:List Bool)
 |ad (cs:List CK) (xs:List (CL cs))
 |dZ (size n:Nat) (get:Nat→Nat→SV)
end
def aF.n:aF→Nat
 |.ints _ zs=>zs.length
 |.strs ss=>ss.length
 |.bD bs=>bs.length
 |.ad _ xs=>xs.length
 |.dZ _ n _=>n
def aF.size:aF→Nat
 |.ints .. |.strs _|.bD _=>1
 |.ad cs _=>CL.wide cs
 |.dZ s _ _=>s
def CK.cell:(c:CK)→c.V→Nat→SV
 |.int k,x,_=>.int k x
 |.bool,x,_=>.bool x
 |.str,x,_=>.str x
 |.ints k,x,_=>.ro (.ints k x)
 |.strs,x,_=>.ro (.strs x)
 |.bD,x,_=>.ro (.bD x)
 |.rows cs,x,_=>.ro (.ad cs x)
 |.arr k _,x,j=>.int k (List.getD (α:=Int) x j 0)
def CL.cell:(cs:List CK)→CL cs→Nat→SV
 |[],_,_=>.aN
 |c::cs,x,j=>bif j.blt c.wide then c.cell x.1 j else CL.cell cs x.2 (j - c.wide)
def aF.cell:aF→Nat→Nat→SV
 |.ints k zs,i,_=>.int k (zs.getD i 0)
 |.strs ss,i,_=>.str (ss.getD i ByteArray.empty)
 |.bD bs,i,_=>.bool (bs.getD i false)
 |.ad cs xs,i,j=>CL.cell cs (xs.getD i (CL.d cs)) j
 |.dZ _ _ get,i,j=>get i j
inductive AV where
 |s (v:SV)
 |ptr (id off:Nat)
 |jH (id off n i:Nat)
 |jm (c:aF) (i j:Nat)
 |vec (id:Nat)
 |fW (id i j:Nat)
 |part (id lo n:Nat)
 |sub (id off n:Nat)
 |kb (id i j n:Nat)
 |emp
 |agg (ak:List AV)
 |ints (k:IntKind) (n:Nat) (ws:List Int)
 |bp (vs:List AV)
 |fn (f:FuncId) (ei:List AV)
 |ag (id:Nat)
 |tag (id:Nat)
inductive ae where
 |own (ak:List AV) (elem:TypeId)
 |vec (c:aF) (elem:TypeId)
 |map (ck:CK) (m:List (Int×ck.V))
 |wb (ck:CK) (m:List (Int×ck.V)) (gid:Nat)
 |iter (mid gid:Nat) (ck:CK) (left:List (Int×ck.V)) (cur:Option (Int×ck.V))
 |dead
abbrev aG:=Nat→Option ae
def ae.alive:ae→Bool
 |.dead=>false
 |_=>true
def ef:Value→Option Nat
 |.pointer (some a)=>some a.block
 |.slice (some a) _ cap=>if cap=0 then none else some a.block
 |.map (some b)=>some b
 |_=>none
def Own(ρ:Nat→Value)(H:aG)(b:Nat):Prop:=∃id o,H id=some o∧o.alive=true∧ef (ρ id)=some b
def aL(ρ:Nat→Value)(H:aG)(G:Nat→Prop)(b:Nat):Prop:=Own ρ H b∨G b
inductive aK (O:Nat→Prop) (w:World):SV→Value→Prop
 |aN (v:Value):v.oneCell'=true→aK O w .aN v
 |bool (b:Bool):aK O w (.bool b) (.bool b)
 |aJ (b:Bool):aK O w (.aJ b) (.bool b)
 |ka (n:Nat) (eq b:Bool):(b=eq→n=0)→aK O w (.ka n eq) (.bool b)
 |nZ (k:IntKind) (n:Int):aK O w (.nZ k) (.int k n)
 |int (k:IntKind) (n:Int):aK O w (.int k n) (.int k n)
 |aW (k:IntKind) (n:Int):aK O w (.aW k n) (.int k n)
 |str (s:ByteArray):aK O w (.str s) (.string s)
 |mw:aK O w .mw (.pointer none)
 |acd:aK O w .acd .nilIface
 |ace:aK O w .ace .nilFunc
 |acf:aK O w .acf (.map none)
 |oH:aK O w .oH (.slice none 0 0)
 |kL (f:FuncId):aK O w (.kL f) (.func (.func f) #[] #[])
 |ifi (t:TypeId) (k:IntKind) (n:Int):aK O w (.ifi t k n) (.iface t (.int k n))
 |ifs (t:TypeId) (s:ByteArray):aK O w (.ifs t s) (.iface t (.string s))
 |ifb (t:TypeId) (b:Bool):aK O w (.ifb t b) (.iface t (.bool b))
 |raw (v:Value) (zs:List Int):v.oneCell'=true→aK O w (.raw v zs) v
 |ro (c:aF) (a:Option Addr) (cap:Nat) (us:Nat→Nat→Value) (b o:Nat):c.n≤cap→cap≤maxLen→
  (0<c.n→a=some ⟨b,o,none⟩∧¬O b∧b<w.heap.size)→
  (∀i j,i<c.n→j<c.size→w.cell? ⟨b,o+i*c.size+j,none⟩=some (us i j))→
  (∀i j,i<c.n→j<c.size→aK O w (c.cell i j) (us i j))→aK O w (.ro c) (.slice a c.n cap)
 |yf (c:aF) (k:Nat) (a:Option Addr) (n cap:Nat):aK O w (.ro c) (.slice a n cap)→cap<k→aK O w (.yf c k) (.slice a n cap)
 |ma (k:Nat) (n:Int):(k:Int)≤n→aK O w (.ma k) (.int .i64 n)
 |oc (k:Nat) (n:Int):n<(k:Int)→aK O w (.oc k) (.int .i64 n)
mutual
def ay(ρ:Nat→Value)(H:aG)(O:Nat→Prop)(w:World):AV→Value→Prop
 |.s x,v=>aK O w x v
 |.ptr id off,v=>∃b,ρ id=.pointer (some ⟨b,0,none⟩)∧v=.pointer (some ⟨b,off,none⟩)∧(H id).isSome=true
 |.jH id off n i,v=>i<n∧∃b,ρ id=.pointer (some ⟨b,0,none⟩)∧v=.pointer (some ⟨b,off+i,none⟩)∧(H id).isSome=true
 |.jm c i j,v=>∃(b o:Nat) (us:Nat→Value),v=.pointer (some ⟨b,o+j,none⟩)∧¬O b∧b<w.heap.size∧
  (∀l,l<c.size→w.cell? ⟨b,o+l,none⟩=some (us l)∧aK O w (c.cell i l) (us l))
 |.vec id,v=>v.oneCell'=true∧∃o,H id=some o∧∀c e,o=.vec c e→v=ρ id
 |.fW id i j,v=>v.oneCell'=true∧∃o,H id=some o∧∀c e,o=.vec c e→i<c.n∧j<c.size∧
  ∃b f n cap,ρ id=.slice (some ⟨b,f,none⟩) n cap∧v=.pointer (some ⟨b,f+i*c.size+j,none⟩)
 |.part id lo n,v=>v.oneCell'=true∧∃o,H id=some o∧∀c e,o=.vec c e→lo+n≤c.n∧
  ∃a cap a',ρ id=.slice a c.n cap∧c.n≤cap∧v=.slice a' n (cap - lo)∧(cap≠lo→a'=a.map (·.add (lo*c.size)))
 |.sub id off n,v=>v.oneCell'=true∧∃b a cap,ρ id=.pointer (some ⟨b,0,none⟩)∧v=.slice a n cap∧(n≠0→a=some ⟨b,off,none⟩)∧(H id).isSome=true
 |.kb id i j n,v=>v.oneCell'=true∧∃o,H id=some o∧∀c e,o=.vec c e→i<c.n∧j+n≤c.size∧
  ∃b f n' cap a afB,ρ id=.slice (some ⟨b,f,none⟩) n' cap∧v=.slice a n afB∧(n≠0→a=some ⟨b,f+i*c.size+j,none⟩)
 |.emp,v=>∃a,v=.slice a 0 0
 |.fn f ei,v=>∃vs:List Value,v=.func (.func f) #[] vs.toArray∧bz ρ H O w ei vs
 |.agg _,_=>False
 |.ints _ _ _,_=>False
 |.bp _,_=>False
 |.ag id,v=>∃b,ρ id=.map (some b)∧v=.map (some b)∧(H id).isSome=true
 |.tag id,v=>v=ρ id∧v.oneCell'=true∧(H id).isSome=true
def bz(ρ:Nat→Value)(H:aG)(O:Nat→Prop)(w:World):List AV→List Value→Prop
 |[],vs=>vs=[]
 |a::aA,vs=>∃v rest,vs=v::rest∧ab ρ H O w a v∧bz ρ H O w aA rest
def an(ρ:Nat→Value)(H:aG)(O:Nat→Prop)(w:World):List AV→List Value→Prop
 |[],cs=>cs=[]
 |a::aA,cs=>∃c1 c2,cs=c1++c2∧aC ρ H O w a c1∧an ρ H O w aA c2
def aC(ρ:Nat→Value)(H:aG)(O:Nat→Prop)(w:World):AV→List Value→Prop
 |.agg _,_=>False
 |.ints k n ws,cs=>ws.length=n∧cs=ws.map (Value.int k)
 |.s x,cs=>∃u,cs=[u]∧aK O w x u
 |.ptr id off,cs=>∃u,cs=[u]∧ay ρ H O w (.ptr id off) u
 |.jH id off n i,cs=>∃u,cs=[u]∧ay ρ H O w (.jH id off n i) u
 |.jm c i j,cs=>∃u,cs=[u]∧ay ρ H O w (.jm c i j) u
 |.vec id,cs=>∃u,cs=[u]∧ay ρ H O w (.vec id) u
 |.fW id i j,cs=>∃u,cs=[u]∧ay ρ H O w (.fW id i j) u
 |.part id lo n,cs=>∃u,cs=[u]∧ay ρ H O w (.part id lo n) u
 |.sub id off n,cs=>∃u,cs=[u]∧ay ρ H O w (.sub id off n) u
 |.kb id i j n,cs=>∃u,cs=[u]∧ay ρ H O w (.kb id i j n) u
 |.emp,cs=>∃u,cs=[u]∧∃a,u=.slice a 0 0
 |.fn f ei,cs=>∃u,cs=[u]∧∃vs:List Value,u=.func (.func f) #[] vs.toArray∧bz ρ H O w ei vs
 |.bp _,_=>False
 |.ag id,cs=>∃u,cs=[u]∧ay ρ H O w (.ag id) u
 |.tag id,cs=>∃u,cs=[u]∧ay ρ H O w (.tag id) u
def ab(ρ:Nat→Value)(H:aG)(O:Nat→Prop)(w:World):AV→Value→Prop
 |.agg ak,v=>∃cs:List Value,v=.agg cs.toArray∧an ρ H O w ak cs
 |.ints k n ws,v=>ws.length=n∧v=.agg (ws.map (Value.int k)).toArray
 |.bp vs,v=>∃us:List Value,v=.tuple us.toArray∧bz ρ H O w vs us
 |.s .aN,_=>True
 |.s x,v=>aK O w x v
 |.ptr id off,v=>ay ρ H O w (.ptr id off) v
 |.jH id off n i,v=>ay ρ H O w (.jH id off n i) v
 |.jm c m j,v=>ay ρ H O w (.jm c m j) v
 |.vec id,v=>ay ρ H O w (.vec id) v
 |.fW id i j,v=>ay ρ H O w (.fW id i j) v
 |.part id lo n,v=>ay ρ H O w (.part id lo n) v
 |.sub id off n,v=>ay ρ H O w (.sub id off n) v
 |.kb id i j n,v=>ay ρ H O w (.kb id i j n) v
 |.emp,v=>∃a,v=.slice a 0 0
 |.fn f ei,v=>∃vs:List Value,v=.func (.func f) #[] vs.toArray∧bz ρ H O w ei vs
 |.ag id,v=>ay ρ H O w (.ag id) v
 |.tag id,v=>ay ρ H O w (.tag id) v
end
theorem aK.one{O:Nat→Prop}{w:World}{x:SV}{v:Value}(h:aK O w x v):v.oneCell'=true:=by
 cases h<;>first|rfl|assumption
structure Step (ρ:Nat→Value) (H:aG) (O:Nat→Prop) (w:World) (az:Nat→Value) (H':aG) (O':Nat→Prop) (w':World):Prop where
 wV:∀id o,H id=some o→az id=ρ id
 eJ:∀id o,H id=some o→∃o',H' id=some o'∧∀c' e',o'=.vec c' e'→∃c e,o=.vec c e∧c'.n=c.n∧c'.size=c.size
 fI:∀b,O' b→O b∨w.heap.size≤b
 heap:∀b,b<w.heap.size→¬O b→w'.heap[b]? =w.heap[b]?
 size:w.heap.size≤w'.heap.size
theorem Step.refl(ρ:Nat→Value)(H:aG)(O:Nat→Prop)(w:World):Step ρ H O w ρ H O w:=
 ⟨fun _ _ _=>rfl,fun _ o h=>⟨o,h,fun c' e' e=>⟨c',e',e,rfl,rfl⟩⟩,fun _ h=>.inl h,fun _ _ _=>rfl,Nat.le_refl _⟩
theorem lQ{w w':World}{b o:Nat}(h:w'.heap[b]? =w.heap[b]?):w'.cell? ⟨b,o,none⟩=w.cell? ⟨b,o,none⟩:=by
 simp[World.cell?,h]
section
variable{ρ az:Nat→Value}{H H':aG}{O O':Nat→Prop}{w w':World}
theorem Step.trans{aqN:Nat→Value}{H'':aG}{O'':Nat→Prop}{w'':World}(h:Step ρ H O w az H' O' w')(k:Step az H' O' w' aqN H'' O'' w'')
 :Step ρ H O w aqN H'' O'' w'':=by
 refine⟨fun id o ho=> ?_,fun id o ho=> ?_,fun b hb=> ?_,fun b hb hO=> ?_,Nat.le_trans h.size k.size⟩
 ·obtain⟨o',de,_⟩:=h.eJ id o ho
  rw[k.wV id o' de,h.wV id o ho]
 ·obtain⟨o',de,q⟩:=h.eJ id o ho
  obtain⟨o'',atB,q'⟩:=k.eJ id o' de
  refine⟨o'',atB,fun c e hc=> ?_⟩
  obtain⟨c1,e1,h1,n1,s1⟩:=q' c e hc
  obtain⟨c2,e2,h2,n2,s2⟩:=q c1 e1 h1
  exact⟨c2,e2,h2,n1.trans n2,s1.trans s2⟩
 ·rcases k.fI b hb with h1|h1
  ·exact h.fI b h1
  ·exact .inr (Nat.le_trans h.size h1)
 ·have atC:¬O' b:=fun h1=>by rcases h.fI b h1 with h2|h2<;>first|exact hO h2|omega
  rw[k.heap b (by have:=h.size;omega) atC,h.heap b hb hO]
theorem aK.step(fI:∀b,O' b→O b∨w.heap.size≤b)(heap:∀b,b<w.heap.size→¬O b→w'.heap[b]? =w.heap[b]?)
 (size:w.heap.size≤w'.heap.size) {x:SV} {v:Value} (h:aK O w x v):aK O' w' x v:=by
 induction h with
 |aN v hv=>exact .aN v hv
 |bool b=>exact .bool b
 |aJ b=>exact .aJ b
 |ka n eq b hb=>exact .ka n eq b hb
 |nZ k n=>exact .nZ k n
 |int k n=>exact .int k n
 |aW k n=>exact .aW k n
 |str s=>exact .str s
 |mw=>exact .mw
 |acd=>exact .acd
 |ace=>exact .ace
 |acf=>exact .acf
 |oH=>exact .oH
 |kL f=>exact .kL f
 |ifi t k n=>exact .ifi t k n
 |ifs t s=>exact .ifs t s
 |ifb t b=>exact .ifb t b
 |raw v zs h=>exact .raw v zs h
 |yf c k a n cap _ hk ih=>exact .yf c k a n cap ih hk
 |ma k n h=>exact .ma k n h
 |oc k n h=>exact .oc k n h
 |ro c a cap us b o hn hm hb hc _ ih=>
  refine .ro c a cap us b o hn hm (fun h0=> ?_) (fun i j hi hj=> ?_) ih
  ·obtain⟨e,h1,h2⟩:=hb h0
   exact⟨e,fun h3=>by rcases fI b h3 with h4|h4<;>first|exact h1 h4|omega,by omega⟩
  ·obtain⟨_,h1,h2⟩:=hb (by omega)
   rw[lQ (heap b h2 h1)]
   exact hc i j hi hj
mutual
theorem ay.step(st:Step ρ H O w az H' O' w'):∀(x:AV) (v:Value),ay ρ H O w x v→ay az H' O' w' x v
 |.s x,v,h=>by unfold ay at *;exact h.step st.fI st.heap st.size
 |.ptr id off,v,h=>by
  unfold ay at *
  obtain⟨b,h1,h2,h3⟩:=h
  obtain⟨o,ho⟩:=Option.isSome_iff_exists.1 h3
  obtain⟨o',de,_⟩:=st.eJ id o ho
  exact⟨b,by rw[st.wV id o ho,h1],h2,by rw[de];rfl⟩
 |.jH id off n i,v,h=>by
  unfold ay at *
  obtain⟨hi,b,h1,h2,h3⟩:=h
  obtain⟨o,ho⟩:=Option.isSome_iff_exists.1 h3
  obtain⟨o',de,_⟩:=st.eJ id o ho
  exact⟨hi,b,by rw[st.wV id o ho,h1],h2,by rw[de];rfl⟩
 |.jm c m j,v,h=>by
  unfold ay at *
  obtain⟨b,o,us,h1,h2,h3,h4⟩:=h
  refine⟨b,o,us,h1,fun h5=> ?_,by have:=st.size;omega,fun i hi=> ?_⟩
  ·rcases st.fI b h5 with h6|h6<;>first|exact h2 h6|omega
  ·obtain⟨h5,h6⟩:=h4 i hi
   exact⟨by rw[lQ (st.heap b h3 h2)];exact h5,h6.step st.fI st.heap st.size⟩
 |.vec id,v,h=>by
  unfold ay at *
  obtain⟨h0,o,ho,h1⟩:=h
  obtain⟨o',de,h2⟩:=st.eJ id o ho
  refine⟨h0,o',de,fun c e hc=> ?_⟩
  obtain⟨c1,e1,h3,_,_⟩:=h2 c e hc
  rw[st.wV id o ho]
  exact h1 c1 e1 h3
 |.fW id i j,v,h=>by
  unfold ay at *
  obtain⟨h0,o,ho,h1⟩:=h
  obtain⟨o',de,h2⟩:=st.eJ id o ho
  refine⟨h0,o',de,fun c e hc=> ?_⟩
  obtain⟨c1,e1,h3,hn,hs⟩:=h2 c e hc
  rw[st.wV id o ho,hn,hs]
  exact h1 c1 e1 h3
 |.part id lo n,v,h=>by
  unfold ay at *
  obtain⟨h0,o,ho,h1⟩:=h
  obtain⟨o',de,h2⟩:=st.eJ id o ho
  refine⟨h0,o',de,fun c e hc=> ?_⟩
  obtain⟨c1,e1,h3,hn,hs⟩:=h2 c e hc
  rw[st.wV id o ho,hn,hs]
  exact h1 c1 e1 h3
 |.sub id off n,v,h=>by
  unfold ay at *
  obtain⟨h0,b,a,cap,h1,h2,h4,h3⟩:=h
  obtain⟨o,ho⟩:=Option.isSome_iff_exists.1 h3
  obtain⟨o',de,_⟩:=st.eJ id o ho
  exact⟨h0,b,a,cap,by rw[st.wV id o ho,h1],h2,h4,by rw[de];rfl⟩
 |.kb id i j n,v,h=>by
  unfold ay at *
  obtain⟨h0,o,ho,h1⟩:=h
  obtain⟨o',de,h2⟩:=st.eJ id o ho
  refine⟨h0,o',de,fun c e hc=> ?_⟩
  obtain⟨c1,e1,h3,hn,hs⟩:=h2 c e hc
  rw[st.wV id o ho,hn,hs]
  exact h1 c1 e1 h3
 |.emp,v,h=>by unfold ay at *;exact h
 |.fn f ei,v,h=>by
  unfold ay at *
  obtain⟨vs,h1,h2⟩:=h
  exact⟨vs,h1,bz.step st ei vs h2⟩
 |.agg _,v,h=>by unfold ay at h;exact h.elim
 |.ints _ _ _,v,h=>by unfold ay at h;exact h.elim
 |.bp _,v,h=>by unfold ay at h;exact h.elim
 |.ag id,v,h=>by
  unfold ay at *
  obtain⟨b,h1,h2,h3⟩:=h
  obtain⟨o,ho⟩:=Option.isSome_iff_exists.1 h3
  obtain⟨o',de,_⟩:=st.eJ id o ho
  exact⟨b,by rw[st.wV id o ho,h1],h2,by rw[de];rfl⟩
 |.tag id,v,h=>by
  unfold ay at *
  obtain⟨h1,h2,h3⟩:=h
  obtain⟨o,ho⟩:=Option.isSome_iff_exists.1 h3
  obtain⟨o',de,_⟩:=st.eJ id o ho
  exact⟨by rw[st.wV id o ho,h1],h2,by rw[de];rfl⟩
theorem bz.step(st:Step ρ H O w az H' O' w'):∀(xs:List AV) (vs:List Value),bz ρ H O w xs vs→bz az H' O' w' xs vs
 |[],vs,h=>by unfold bz at *;exact h
 |a::aA,vs,h=>by
  unfold bz at *
  obtain⟨v,rest,h1,h2,h3⟩:=h
  exact⟨v,rest,h1,ab.step st a v h2,bz.step st aA rest h3⟩
theorem an.step(st:Step ρ H O w az H' O' w'):∀(xs:List AV) (cs:List Value),an ρ H O w xs cs→an az H' O' w' xs cs
 |[],vs,h=>by unfold an at *;exact h
 |a::aA,vs,h=>by
  unfold an at *
  obtain⟨c1,c2,h1,h2,h3⟩:=h
  exact⟨c1,c2,h1,aC.step st a c1 h2,an.step st aA c2 h3⟩
theorem aC.step(st:Step ρ H O w az H' O' w'):∀(x:AV) (cs:List Value),aC ρ H O w x cs→aC az H' O' w' x cs
 |.agg _,cs,h=>by unfold aC at h;exact h.elim
 |.ints _ _ _,cs,h=>by unfold aC at *;exact h
 |.s x,cs,h=>by unfold aC at *;obtain⟨u,h1,h2⟩:=h;exact⟨u,h1,h2.step st.fI st.heap st.size⟩
 |.ptr id off,cs,h=>by unfold aC at *;obtain⟨u,h1,h2⟩:=h;exact⟨u,h1,ay.step st (.ptr id off) u h2⟩
 |.jH id off n i,cs,h=>by unfold aC at *;obtain⟨u,h1,h2⟩:=h;exact⟨u,h1,ay.step st (.jH id off n i) u h2⟩
 |.jm c m j,cs,h=>by unfold aC at *;obtain⟨u,h1,h2⟩:=h;exact⟨u,h1,ay.step st (.jm c m j) u h2⟩
 |.vec id,cs,h=>by unfold aC at *;obtain⟨u,h1,h2⟩:=h;exact⟨u,h1,ay.step st (.vec id) u h2⟩
 |.fW id i j,cs,h=>by unfold aC at *;obtain⟨u,h1,h2⟩:=h;exact⟨u,h1,ay.step st (.fW id i j) u h2⟩
 |.part id lo n,cs,h=>by unfold aC at *;obtain⟨u,h1,h2⟩:=h;exact⟨u,h1,ay.step st (.part id lo n) u h2⟩
 |.sub id off n,cs,h=>by unfold aC at *;obtain⟨u,h1,h2⟩:=h;exact⟨u,h1,ay.step st (.sub id off n) u h2⟩
 |.kb id i j n,cs,h=>by unfold aC at *;obtain⟨u,h1,h2⟩:=h;exact⟨u,h1,ay.step st (.kb id i j n) u h2⟩
 |.emp,cs,h=>by unfold aC at *;exact h
 |.fn f ei,cs,h=>by
  unfold aC at *
  obtain⟨u,h1,vs,h2,h3⟩:=h
  exact⟨u,h1,vs,h2,bz.step st ei vs h3⟩
 |.bp _,cs,h=>by unfold aC at h;exact h.elim
 |.ag id,cs,h=>by unfold aC at *;obtain⟨u,h1,h2⟩:=h;exact⟨u,h1,ay.step st (.ag id) u h2⟩
 |.tag id,cs,h=>by unfold aC at *;obtain⟨u,h1,h2⟩:=h;exact⟨u,h1,ay.step st (.tag id) u h2⟩
theorem ab.step(st:Step ρ H O w az H' O' w'):∀(x:AV) (v:Value),ab ρ H O w x v→ab az H' O' w' x v
 |.agg ak,v,h=>by unfold ab at *;obtain⟨cs,h1,h2⟩:=h;exact⟨cs,h1,an.step st ak cs h2⟩
 |.ints _ _ _,v,h=>by unfold ab at *;exact h
 |.bp vs,v,h=>by unfold ab at *;obtain⟨us,h1,h2⟩:=h;exact⟨us,h1,bz.step st vs us h2⟩
 |.s .aN,v,h=>by unfold ab;trivial
 |.s (.bool b),v,h=>by unfold ab at *;exact h.step st.fI st.heap st.size
 |.s (.aJ b),v,h=>by unfold ab at *;exact h.step st.fI st.heap st.size
 |.s (.ka _ _),v,h=>by unfold ab at *;exact h.step st.fI st.heap st.size
 |.s (.nZ k),v,h=>by unfold ab at *;exact h.step st.fI st.heap st.size
 |.s (.int k n),v,h=>by unfold ab at *;exact h.step st.fI st.heap st.size
 |.s (.aW k n),v,h=>by unfold ab at *;exact h.step st.fI st.heap st.size
 |.s (.str b),v,h=>by unfold ab at *;exact h.step st.fI st.heap st.size
 |.s .mw,v,h=>by unfold ab at *;exact h.step st.fI st.heap st.size
 |.s .acd,v,h=>by unfold ab at *;exact h.step st.fI st.heap st.size
 |.s .ace,v,h=>by unfold ab at *;exact h.step st.fI st.heap st.size
 |.s .acf,v,h=>by unfold ab at *;exact h.step st.fI st.heap st.size
 |.s .oH,v,h=>by unfold ab at *;exact h.step st.fI st.heap st.size
 |.s (.kL b),v,h=>by unfold ab at *;exact h.step st.fI st.heap st.size
 |.s (.ifi _ _ _),v,h=>by unfold ab at *;exact h.step st.fI st.heap st.size
 |.s (.ifs _ _),v,h=>by unfold ab at *;exact h.step st.fI st.heap st.size
 |.s (.ifb _ _),v,h=>by unfold ab at *;exact h.step st.fI st.heap st.size
 |.s (.raw _ _),v,h=>by unfold ab at *;exact h.step st.fI st.heap st.size
 |.s (.ro b),v,h=>by unfold ab at *;exact h.step st.fI st.heap st.size
 |.s (.yf _ _),v,h=>by unfold ab at *;exact h.step st.fI st.heap st.size
 |.s (.ma _),v,h=>by unfold ab at *;exact h.step st.fI st.heap st.size
 |.s (.oc _),v,h=>by unfold ab at *;exact h.step st.fI st.heap st.size
 |.ptr id off,v,h=>by unfold ab at *;exact ay.step st (.ptr id off) v h
 |.jH id off n i,v,h=>by unfold ab at *;exact ay.step st (.jH id off n i) v h
 |.jm c m j,v,h=>by unfold ab at *;exact ay.step st (.jm c m j) v h
 |.vec id,v,h=>by unfold ab at *;exact ay.step st (.vec id) v h
 |.fW id i j,v,h=>by unfold ab at *;exact ay.step st (.fW id i j) v h
 |.part id lo n,v,h=>by unfold ab at *;exact ay.step st (.part id lo n) v h
 |.sub id off n,v,h=>by unfold ab at *;exact ay.step st (.sub id off n) v h
 |.kb id i j n,v,h=>by unfold ab at *;exact ay.step st (.kb id i j n) v h
 |.emp,v,h=>by unfold ab at *;exact h
 |.fn f ei,v,h=>by
  unfold ab at *
  obtain⟨vs,h2,h3⟩:=h
  exact⟨vs,h2,bz.step st ei vs h3⟩
 |.ag id,v,h=>by unfold ab at *;exact ay.step st (.ag id) v h
 |.tag id,v,h=>by unfold ab at *;exact ay.step st (.tag id) v h
end
end
end Go.Sx
namespace Go.Sx
open Go
inductive RM (α:Type)where
 |ret (a:α)
 |look (id:Nat) (k:Option ae→RM α)
 |fail (why:String)
def RM.eval{α:Type}(H:aG):RM α→Option α
 |.ret a=>some a
 |.look id k=>(k (H id)).eval H
 |.fail _=>none
def RM.ids{α:Type}(H:aG):RM α→List Nat
 |.ret _=>[]
 |.look id k=>id::(k (H id)).ids H
 |.fail _=>[]
def RM.why{α:Type}(H:aG):RM α→String
 |.ret _=> ""
 |.look _ k=>(k (H id)).why H
 |.fail w=>w
where id:Nat:=0
structure bx where
 need:List Prop
 up:List (Nat×ae)
 new:List ae
 r:Nat→AV
def plain(need:List Prop)(r:AV):RM bx:=.ret ⟨need,[],[],fun _=>r⟩
def oI(why:String):Option (List Prop×AV)→RM bx
 |some (need,r)=>plain need r
 |none=>.fail why
def aD(n:Int):Prop:= -9223372036854775808≤n∧n≤9223372036854775807
def bE:IntKind→IntKind→Bool
 |.i8,.i8|.i16,.i16|.i32,.i32|.i64,.i64|.u8,.u8|.u16,.u16|.u32,.u32|.u64,.u64=>true
 |_,_=>false
def od:IntKind→Bool
 |.i64=>true
 |_=>false
def bA(op:BinOp)(k:IntKind)(x y:Int):Int:=
 let a:=BitVec.ofInt k.bits x
 let b:=BitVec.ofInt k.bits y
 match op with
 |.and=>k.wrap (a &&& b).toNat
 |.or=>k.wrap (a ||| b).toNat
 |.xor=>k.wrap (a ^^^ b).toNat
 |_=>k.wrap (a &&& ~~~b).toNat
def mkInt(lit:Bool)(k:IntKind)(n:Int):AV:=.s (if lit then .aW k n else .int k n)
def kA(lit:Bool)(b:Bool):AV:=.s (if lit then .aJ b else .bool b)
def my(lit:Bool)(k:IntKind)(n:Int):List Prop×AV:=
 bif lit then([],.s (.aW k (k.wrap n)))
 else bif od k then([aD n],.s (.int k n))else([],.s (.int k (k.wrap n)))
def tx(op:BinOp)(k:IntKind)(lx ly:Bool)(x y:Int):Option (List Prop×AV):=
 let lit:=lx&&ly
 match op with
 |.add=>some (my lit k (x+y))
 |.sub=>some (my lit k (x - y))
 |.mul=>some (my lit k (x*y))
 |.quo=>some (bif lit then([y≠0],.s (.aW k (k.wrap (x.tdiv y))))else bif od k then([y≠0,aD (x.tdiv y)],.s (.int k (x.tdiv y)))else([y≠0],.s (.int k (k.wrap (x.tdiv y)))))
 |.rem=>some ([y≠0],mkInt lit k (x.tmod y))
 |.and|.or|.xor|.andNot=>some ([],mkInt lit k (bA op k x y))
 |.eql=>some ([],kA lit (x==y))
 |.neq=>some ([],kA lit (x !=y))
 |.lss=>some ([],kA lit (decide (x<y)))
 |.leq=>some ([],kA lit (decide (x≤y)))
 |.gtr=>some ([],kA lit (decide (x>y)))
 |.geq=>some ([],kA lit (decide (x≥y)))
 |_=>none
def acg(op:BinOp)(k:IntKind)(lit:Bool)(x y:Int):Option (List Prop×AV):=
 match op with
 |.shl=>some ([0≤y],mkInt lit k (k.wrap (x*2^(min y.toNat k.bits))))
 |.shr=>some ([0≤y],mkInt lit k (x.fdiv (2^(min y.toNat k.bits))))
 |_=>none
def slt(x y:ByteArray):Bool:=Op.bytesLess x.data.toList y.data.toList
def ach(op:BinOp)(x y:ByteArray):Option (List Prop×AV):=
 match op with
 |.add=>some ([x.size+y.size≤4611686018427387904],.s (.str (x++y)))
 |.eql=>some ([],.s (.bool (decide (x=y))))
 |.neq=>some ([],.s (.bool (!decide (x=y))))
 |.lss=>some ([],.s (.bool (slt x y)))
 |.leq=>some ([],.s (.bool (slt x y||decide (x=y))))
 |.gtr=>some ([],.s (.bool !(slt x y||decide (x=y))))
 |.geq=>some ([],.s (.bool !(slt x y)))
 |_=>none
def AV.dk :AV→Option (IntKind×Bool×Int)
 |.s (.int k n)=>some (k,false,n)
 |.s (.aW k n)=>some (k,true,n)
 |_=>none
def AV.iS :AV→Option (Bool×Bool)
 |.s (.bool b)=>some (false,b)
 |.s (.aJ b)=>some (true,b)
 |_=>none
def unR(op:UnOp)(x:AV):Option (List Prop×AV):=
 match op,x with
 |.not,.s (.bool b)=>some ([],.s (.bool !b))
 |.not,.s (.aJ b)=>some ([],.s (.aJ !b))
 |.neg,.s (.int k n)=>some (my false k (0 - n))
 |.neg,.s (.aW k n)=>some (my true k (0 - n))
 |_,_=>none
def ag8(c a b:AV):Option (List Prop×AV):=
 match c with
 |.s (.aJ true)=>some ([],a)
 |.s (.aJ false)=>some ([],b)
 |.s (.bool c)=>
  match a.iS,b.iS with
  |some (_,x),some (_,y)=>some ([],.s (.bool (bif c then x else y)))
  |_,_=>
   match a.dk,b.dk with
   |some (k,_,x),some (k',_,y)=>bif bE k k' then some ([],.s (.int k (bif c then x else y)))else none
   |_,_=>none
 |_=>none
def dA(P:Program)(t:TypeId):Option Nat:=(P.info? t).map (·.size)
def gu(P:Program)(t:TypeId):Option Bool:=
 match P.underlying t with
 |some (.struct _)|some (.array _ _)=>some true
 |some _=>some false
 |none=>none
def kindOf(P:Program)(t:TypeId):Option IntKind:=
 match P.underlying t with
 |some (.int k)=>some k
 |_=>none
def AV.wide:AV→Nat
 |.ints _ n _=>n
 |_=>1
def e8:List AV→Nat→Option (List AV)
 |ak,0=>some ak
 |[],_+1=>none
 |a::aA,n+1=>bif a.wide.ble (n+1)then e8 aA (n+1 - a.wide)else none
def e9:List AV→Nat→Option (List AV)
 |_,0=>some []
 |[],_+1=>none
 |a::aA,n+1=>bif a.wide.ble (n+1)&&(1:Nat).ble a.wide then(e9 aA (n+1 - a.wide)).map (a:: ·)else none
def cellAt:List AV→Nat→Option AV
 |[],_=>none
 |.ints k n ws::aA,off=>bif off.blt n then some (.s (.int k (ws.getD off 0)))else cellAt aA (off - n)
 |a::_,0=>some a
 |_::aA,off+1=>cellAt aA off
def gb:List AV→Nat→AV→Option (List AV)
 |[],_,_=>none
 |.ints k n ws::aA,off,v=>bif off.blt n then
  (match v.dk with
   |some (k',_,x)=>bif bE k k' then some (.ints k n (ws.set off x)::aA)else none
   |none=>none)
  else(gb aA (off - n) v).map (.ints k n ws:: ·)
 |_::aA,0,v=>some (v::aA)
 |a::aA,off+1,v=>(gb aA off v).map (a:: ·)
def iT:List AV→Nat→Option (IntKind×Nat×List Int)
 |.ints k n ws::aA,off=>bif off.beq 0 then some (k,n,ws)else bif off.blt n then none else iT aA (off - n)
 |_::aA,off+1=>iT aA off
 |_,_=>none
def jI:List AV→Nat→List Int→Option (List AV)
 |.ints k n ws::aA,off,ml=>bif off.beq 0 then some (.ints k n ml::aA)else bif off.blt n then none else(jI aA (off - n) ml).map (.ints k n ws:: ·)
 |a::aA,off+1,ml=>(jI aA off ml).map (a:: ·)
 |_,_,_=>none
def AV.single:AV→Bool
 |.s .aN|.agg _|.ints _ _ _|.bp _=>false
 |_=>true
def AV.jd :AV→Option (List AV)
 |.agg ak=>some ak
 |.ints k n ws=>some [.ints k n ws]
 |.bp _|.s .aN=>none
 |a=>some [a]
def AV.kB:List AV→AV
 |[.ints k n ws]=>.ints k n ws
 |ak=>.agg ak
def fF:List AV→Nat
 |[]=>0
 |a::aA=>a.wide+fF aA
def aci(ak:List AV)(off:Nat)(je:List AV):Option (List AV):=
 match ak,je with
 |[.ints k n ws],[x]=>match x.dk with
  |some (k',_,z)=>bif bE k k'&&off.blt n then some [.ints k n (ws.set off z)]else none
  |none=>none
 |_,_=>none
def sW(ak:List AV)(off:Nat)(je:List AV):Option (List AV):=
 match aci ak off je with
 |some r=>some r
 |none=>
 match e9 ak off,e8 ak (off+fF je)with
 |some pre,some post=>some (pre++je++post)
 |_,_=>none
def afC(P:Program)(rec:TypeId→List AV→List AV→Option Bool):List Field→List AV→List AV→Option Bool
 |[],_,_=>some true
 |f::fs,xs,ys=>bif f.name== "_" then afC P rec fs xs ys else
  match dA P f.type,gu P f.type with
  |some sz,some wc=>bif wc||sz.beq 1 then(match(e8 xs f.offset).bind (e9 · sz),(e8 ys f.offset).bind (e9 · sz)with
   |some a,some b=>(match rec f.type a b,afC P rec fs xs ys with
    |some p,some q=>some (p&&q)
    |_,_=>none)
   |_,_=>none)else none
  |_,_=>none
def eqC(P:Program):Nat→TypeId→List AV→List AV→Option Bool
 |0,_,_,_=>none
 |d+1,t,xs,ys=>
  match P.underlying t with
  |some (.int _)=>(match xs,ys with
   |[x],[y]=>(match x.dk,y.dk with
    |some (k,_,a),some (k',_,b)=>bif bE k k' then some (a==b)else none
    |_,_=>none)
   |_,_=>none)
  |some .bool=>(match xs,ys with
   |[x],[y]=>(match x.iS,y.iS with
    |some (_,a),some (_,b)=>some (a==b)
    |_,_=>none)
   |_,_=>none)
  |some .string=>(match xs,ys with
   |[.s (.str a)],[.s (.str b)]=>some (decide (a=b))
   |_,_=>none)
  |some (.array n e)=>(match xs,ys with
   |[.ints k m ws],[.ints k' m' ml]=>
    (match P.underlying e with
     |some (.int k'')=>bif (1:Nat).ble d&&bE k k'&&bE k k''&&n==m&&m==m'&&(P.info? e).any (fun i=>i.size==1)then some (decide (ws=ml))else none
     |_=>none)
   |_,_=>none)
  |some (.struct fs)=>bif P.stoodInHeld t then none else afC P (eqC P d) fs.toList xs ys
  |_=>none
def ag9(P:Program)(t:TypeId):Bool:=match P.underlying t with|some (.int _)=>true|_=>false
def aha(P:Program)(t:TypeId):Bool:=match P.underlying t with|some .string=>true|_=>false
def adT(P:Program)(t:TypeId):Bool:=match P.underlying t with|some .bool=>true|_=>false
def ahb(P:Program):AV→AV→Option Bool
 |.s (.ifi t k n),.s (.ifi t' k' n')=>bif t.beq t'&&bE k k'&&(P.info? t).any (·.comparable)&&ag9 P t then some (n==n')else none
 |.s (.ifs t s),.s (.ifs t' s')=>bif t.beq t'&&(P.info? t).any (·.comparable)&&aha P t then some (decide (s=s'))else none
 |.s (.ifb t b),.s (.ifb t' b')=>bif t.beq t'&&(P.info? t).any (·.comparable)&&adT P t then some (b==b')else none
 |_,_=>none
def eqI(P:Program):List AV→List AV→Option Bool
 |[],[]=>some true
 |x::xs,y::ys=>match ahb P x y,eqI P xs ys with
  |some a,some b=>some (a&&b)
  |_,_=>none
 |_,_=>none
def eqR(P:Program)(t:TypeId)(x y:AV):Option (Bool×Bool):=
 match P.underlying t,x,y with
 |some .bool,x,y=>match x.iS,y.iS with
  |some (lx,a),some (ly,b)=>some (lx&&ly,a==b)
  |_,_=>none
 |some (.array n e),.ints k m ws,.ints k' m' ml=>
  match P.underlying e with
  |some (.int k'')=>bif bE k k'&&bE k k''&&n==m&&m==m'&&(P.info? e).any (fun i=>i.size==1)&& !P.eqGuardType P.depth t then some (false,decide (ws=ml))else none
  |_=>none
 |some (.pointer _),.s .mw,.s .mw=>some (true,true)
 |some (.pointer _),.s .mw,.ptr _ _|some (.pointer _),.ptr _ _,.s .mw=>some (true,false)
 |some (.array n e),.agg xs,.agg ys=>
  match P.underlying e with
  |some (.interface _)=>bif n==xs.length&&n==ys.length&&(P.info? e).any (fun i=>i.size==1)&& !P.eqGuardType P.depth t then(eqI P xs ys).map fun b=>(false,b)else none
  |_=>none
 |some (.struct _),.agg xs,.agg ys=>bif P.eqGuardType P.depth t then none else(eqC P 20 t xs ys).map fun b=>(false,b)
 |_,_,_=>none
def AV.kind? :AV→Option IntKind
 |.s (.int k _)|.s (.aW k _)|.s (.nZ k)=>some k
 |_=>none
def acj(op:BinOp)(k:IntKind):Option AV:=
 match op with
 |.add|.sub|.mul|.and|.or|.xor|.andNot=>some (.s (.nZ k))
 |.eql|.neq|.lss|.leq|.gtr|.geq=>some (.s (.ka 0 true))
 |_=>none
def akz(P:Program)(op:BinOp)(t:TypeId)(x y:AV):Option (List Prop×AV):=
 match x,y with
 |.s (.str a),.s (.str b)=>ach op a b
 |x,y=>
  match x.dk,y.dk with
  |some (k,lx,a),some (k',ly,b)=>
   match op with
   |.shl|.shr=>acg op k (lx&&ly) a b
   |_=>bif bE k k' then tx op k lx ly a b else none
  |_,_=>
   match x.kind?,y.kind? with
   |some k,some k'=>bif bE k k' then(acj op k).map fun r=>([],r)else none
   |_,_=>
   match op with
   |.eql=>(eqR P t x y).map fun(l,b)=>([],kA l b)
   |.neq=>(eqR P t x y).map fun(l,b)=>([],kA l (!b))
   |_=>none
def akA:Value→Option SV
 |.bool b=>some (.aJ b)
 |.int k n=>some (.aW k n)
 |.string s=>some (.str s)
 |.pointer none=>some .mw
 |.nilIface=>some .acd
 |.nilFunc=>some .ace
 |.map none=>some .acf
 |_=>none
def pC:Value→Option AV
 |.slice none 0 0=>some .emp
 |v=>(akA v).map .s
def pD:List Value→Option (List AV)
 |[]=>some []
 |v::vs=>match pC v,pD vs with
  |some a,some aA=>some (a::aA)
  |_,_=>none
def mz(k:IntKind):List Value→Bool
 |[]=>true
 |.int k' 0::vs=>bE k k'&&mz k vs
 |_=>false
def gv(P:Program):Nat→TypeId→List Value→Option (List AV)
 |0,_,_=>none
 |d+1,t,cs=>
  match P.underlying t with
  |some (.struct fs)=>fs.toList.foldl (fun acc f=>
   match acc,dA P f.type with
   |some (ak,rest),some n=>(gv P d f.type (rest.take n)).map fun s=>(ak++s,rest.drop n)
   |_,_=>none) (some ([],cs)) |>.bind fun(ak,rest)=>match rest with|[]=>some ak|_=>none
  |some (.array n e)=>match kindOf P e with
   |some k=>bif mz k cs&&cs.length==n then some [.ints k n (List.replicate n 0)]else pD cs
   |none=>pD cs
  |_=>pD cs
def yg:Value→AV
 |.agg cs=>match pD cs.toList with|some aA=>.agg aA|none=>.s .aN
 |v=>(pC v).getD (.s .aN)
def zeroOf(P:Program)(t:TypeId):Option AV:=
 match(P.info? t).bind (·.zero),gu P t with
 |some (.agg cs),some true=>(gv P 20 t cs.toList).map .kB
 |some v,some false=>pC v
 |_,_=>none
def CL.ak:(cs:List CK)→CL cs→List AV
 |[],_=>[]
 |.arr k n::cs,x=>.ints k n x.1::CL.ak cs x.2
 |.int k::cs,x=>.s (.int k x.1)::CL.ak cs x.2
 |.bool::cs,x=>.s (.bool x.1)::CL.ak cs x.2
 |.str::cs,x=>.s (.str x.1)::CL.ak cs x.2
 |.ints k::cs,x=>.s (.ro (.ints k x.1))::CL.ak cs x.2
 |.strs::cs,x=>.s (.ro (.strs x.1))::CL.ak cs x.2
 |.bD::cs,x=>.s (.ro (.bD x.1))::CL.ak cs x.2
 |.rows ds::cs,x=>.s (.ro (.ad ds x.1))::CL.ak cs x.2
def ej:List AV→List Prop
 |[]=>[]
 |.ints _ n ws::aA=>(ws.length=n)::ej aA
 |_::aA=>ej aA
def ahc(k:IntKind):SV→Option Int
 |.int k' x|.aW k' x=>bif bE k k' then some x else none
 |_=>none
def ack:SV→Option Bool
 |.bool x|.aJ x=>some x
 |_=>none
def ahd:SV→Option ByteArray
 |.str x=>some x
 |_=>none
def acm(k:IntKind):SV→Option (List Int)
 |.ro (.ints k' zs)=>bif bE k k' then some zs else none
 |.ro (.dZ _ 0 _)=>some []
 |_=>none
def acn:SV→Option (List ByteArray)
 |.ro (.strs zs)=>some zs
 |.ro (.dZ _ 0 _)=>some []
 |_=>none
def yh:SV→Option (List Bool)
 |.ro (.bD zs)=>some zs
 |.ro (.dZ _ 0 _)=>some []
 |_=>none
def aco(cs:List CK):SV→Option (List (CL cs))
 |.ro (.ad jf zs)=>(CL.eq jf cs).map fun h=>zW h zs
 |.ro (.dZ _ 0 _)=>some []
 |_=>none
def CK.set:(c:CK)→c.V→Nat→SV→Option c.V
 |.int k,_,_,v=>ahc k v
 |.bool,_,_,v=>ack v
 |.str,_,_,v=>ahd v
 |.ints k,_,_,v=>acm k v
 |.strs,_,_,v=>acn v
 |.bD,_,_,v=>yh v
 |.rows cs,_,_,v=>aco cs v
 |.arr _ _,_,_,_=>none
def CL.set:(cs:List CK)→CL cs→Nat→SV→Option (CL cs)
 |[],_,_,_=>none
 |c::cs,x,j,v=>bif j.blt c.wide then(c.set x.1 j v).map fun y=>(y,x.2)else(CL.set cs x.2 (j - c.wide) v).map fun y=>(x.1,y)
def CK.setRow:(c:CK)→IntKind→Nat→List Int→Option c.V
 |.arr k' n',k,n,ws=>bif bE k k'&&n.beq n' then some ws else none
 |_,_,_,_=>none
def CL.setRow:(cs:List CK)→CL cs→Nat→IntKind→Nat→List Int→Option (CL cs)
 |[],_,_,_,_,_=>none
 |c::cs,x,j,k,n,ws=>bif j.beq 0 then(c.setRow k n ws).map fun y=>(y,x.2)
   else bif c.wide.ble j then(CL.setRow cs x.2 (j - c.wide) k n ws).map fun y=>(x.1,y)else none
def pE(wc:Bool)(c:aF)(i j sz:Nat):RM bx:=
 bif wc then
  (match c with
   |.ad cs xs=>(match(e8 (CL.ak cs (xs.getD i (CL.d cs))) j).bind (e9 · sz)with
     |some ss=>plain (ej (CL.ak cs (xs.getD i (CL.d cs)))) (.kB ss)
     |none=>.fail "load: no such parts of the element")
   |c=>bif (j+sz).ble c.size then plain [] (.agg ((List.range sz).map fun l=>.s (c.cell i (j+l))))else .fail "load: beyond the element")
 else(bif j.blt c.size then plain [] (.s (c.cell i j))else .fail "load: beyond the element")
def adU(P:Program)(t:TypeId)(a:AV):RM bx:=
 match dA P t,gu P t with
 |some sz,some wc=>
  match a with
  |.ptr id off=>.look id fun
   |some (.own ak _)=>bif wc then
    (match(e8 ak off).bind (e9 · sz)with
     |some ss=>plain [] (.kB ss)
     |none=>.fail "load: no such parts")
    else(match cellAt ak off with
     |some v=>plain [] v
     |none=>.fail "load: no such cell")
   |_=>.fail "load: no own object"
  |.jH id off n i=>.look id fun
   |some (.own ak _)=>match iT ak off with
    |some (k,m,ws)=>bif m.beq n&& !wc then plain [] (.s (.int k (ws.getD i 0)))else .fail "load: a row of another length"
    |none=>.fail "load: no row"
   |_=>.fail "load: no own object"
  |.jm c i j=>pE wc c i j sz
  |.fW id i j=>.look id fun
   |some (.vec c _)=>pE wc c i j sz
   |_=>.fail "load: no vec"
  |_=>.fail "load: no address"
 |_,_=>.fail "load: no type"
def qM:aF→Nat→Nat→SV→Option aF
 |.ints k zs,i,_,v=>match v with
  |.int k' x|.aW k' x=>bif bE k k' then some (.ints k (zs.set i x))else none
  |_=>none
 |.strs ss,i,_,v=>match v with
  |.str x=>some (.strs (ss.set i x))
  |_=>none
 |.bD bs,i,_,v=>match v with
  |.bool x|.aJ x=>some (.bD (bs.set i x))
  |_=>none
 |.ad cs xs,i,j,v=>(CL.set cs (xs.getD i (CL.d cs)) j v).map fun y=>.ad cs (xs.set i y)
 |.dZ s n get,i,j,v=>some (.dZ s n fun i' j'=>bif i'==i&&j'==j then v else get i' j')
def nA:aF→Nat→Nat→IntKind→Nat→List Int→Option aF
 |.ad cs xs,i,j,k,n,ws=>(CL.setRow cs (xs.getD i (CL.d cs)) j k n ws).map fun y=>.ad cs (xs.set i y)
 |_,_,_,_,_,_=>none
def er(c:aF)(i j:Nat):List AV→Option aF
 |[]=>some c
 |.s v::aA=>(qM c i j v).bind fun c'=>er c' i (j+1) aA
 |.ints k n ws::aA=>(nA c i j k n ws).bind fun c'=>er c' i (j+n) aA
 |_=>none
def mA(cs:List CK)(x:CL cs)(j:Nat):List AV→Option (CL cs)
 |[]=>some x
 |.s v::aA=>(CL.set cs x j v).bind fun y=>mA cs y (j+1) aA
 |.ints k n ws::aA=>(CL.setRow cs x j k n ws).bind fun y=>mA cs y (j+n) aA
 |_=>none
def adV(c:aF)(i j:Nat)(je:List AV):Option aF:=match c with
 |.ad cs xs=>(mA cs (xs.getD i (CL.d cs)) j je).map fun y=>.ad cs (xs.set i y)
 |_=>er c i j je
def acp(P:Program)(t:TypeId)(a x:AV):RM bx:=
 match dA P t,gu P t with
 |some sz,some wc=>
  match a with
  |.ptr id off=>.look id fun
   |some (.own ak e)=>
    bif wc then
     (match x.jd with
      |some je=>bif (fF je).beq sz&&(1:Nat).ble sz then
       (match sW ak off je with
        |some eu=>.ret ⟨[],[(id,.own eu e)],[],fun _=>.bp []⟩
        |none=>.fail "store: no such parts")else .fail "store: another size"
      |none=>.fail "store: no parts")
    else(bif x.single&&sz.beq 1 then
     (match gb ak off x with
      |some eu=>.ret ⟨[],[(id,.own eu e)],[],fun _=>.bp []⟩
      |none=>.fail "store: no such cell")else .fail "store: no one cell")
   |_=>.fail "store: no own object"
  |.jH id off n i=>.look id fun
   |some (.own ak e)=>match iT ak off,x.dk with
    |some (k,m,ws),some (k',_,y)=>bif m.beq n&&bE k k'&& !wc&&sz.beq 1 then
     (match jI ak off (ws.set i y)with
      |some eu=>.ret ⟨[],[(id,.own eu e)],[],fun _=>.bp []⟩
      |none=>.fail "store: no row")else .fail "store: a row of another length"
    |_,_=>.fail "store: no row"
   |_=>.fail "store: no own object"
  |.fW id i j=>.look id fun
   |some (.vec c e)=>match x.jd with
    |some je=>bif (fF je).beq sz&&(j+sz).ble c.size then
     (match adV c i j je with
      |some c'=>.ret ⟨[],[(id,.vec c' e)],[],fun _=>.bp []⟩
      |none=>.fail "store: another kind of element")else .fail "store: another size"
    |none=>.fail "store: no parts"
   |_=>.fail "store: no vec"
  |_=>.fail "store: no own address"
 |_,_=>.fail "store: no type"
def oJ(P:Program)(t:TypeId)(x:AV)(f:Nat):RM bx:=
 match P.underlying t with
 |some (.struct fs)=>match fs[f]? with
  |some fd=>bif (dA P fd.type).any (fun n=>(1:Nat).ble n)then
   (match x with
    |.ptr id off=>plain [] (.ptr id (off+fd.offset))
    |.jm c i j=>plain [] (.jm c i (j+fd.offset))
    |.fW id i j=>.look id fun
     |some (.vec c _)=>bif (j+fd.offset).blt c.size then plain [] (.fW id i (j+fd.offset))else .fail "fieldAddr: beyond"
     |_=>.fail "fieldAddr: no vec"
    |_=>.fail "fieldAddr: no address")else .fail "fieldAddr: an empty field"
  |none=>.fail "fieldAddr: no field"
 |_=>.fail "fieldAddr: no struct"
def oK(P:Program)(t:TypeId)(x i:AV):RM bx:=
 match i.dk,P.underlying t with
 |some (_,_,n),some (.slice e)=>
  (match dA P e,x with
   |some sz,.s (.ro c)=>bif sz.beq c.size then plain [0≤n,n<c.n] (.jm c n.toNat 0)else .fail "indexAddr: size"
   |some sz,.vec id=>.look id fun
    |some (.vec c _)=>bif sz.beq c.size&&(1:Nat).ble sz then plain [0≤n,n<c.n] (.fW id n.toNat 0)else .fail "indexAddr: size"
    |_=>.fail "indexAddr: no vec"
   |some sz,.part id lo m=>.look id fun
    |some (.vec c _)=>bif sz.beq c.size&&(1:Nat).ble sz then plain [0≤n,n<m] (.fW id (lo+n.toNat) 0)else .fail "indexAddr: size"
    |_=>.fail "indexAddr: no vec"
   |_,_=>.fail "indexAddr: no slice")
 |some (_,lit,n),some (.array len e)=>
  (match dA P e,x with
   |some sz,.ptr id off=>bif lit then
    (bif decide (0≤n)&&decide (n<len)then plain [] (.ptr id (off+n.toNat*sz))else .fail "indexAddr: out of range")
    else(bif sz.beq 1 then plain [0≤n,n<len] (.jH id off len n.toNat)else .fail "indexAddr: wide elements")
   |some sz,.fW id i0 0=>.look id fun
    |some (.vec c _)=>bif sz.beq c.size&&(1:Nat).ble sz then plain [0≤n,n<len,i0+n<c.n] (.fW id (i0+n.toNat) 0)else .fail "indexAddr: size"
    |_=>.fail "indexAddr: no vec"
   |_,_=>.fail "indexAddr: no array")
 |_,_=>.fail "indexAddr: no number or type"
def aV(s:ByteArray)(i:Nat):Int:=((s.data.toList.getD i 0).toNat:Int)
def acq(P:Program)(t:TypeId)(x i:AV):RM bx:=
 match i.dk,P.underlying t,x with
 |some (_,_,n),some (.array len e),.ints k m ws=>bif len.beq m&&(gu P e).any (!·)&&(dA P e).any (·.beq 1)then plain [0≤n,n<len] (.s (.int k (ws.getD n.toNat 0)))else .fail "index: array"
 |some (_,_,n),some .string,.s (.str s)=>plain [0≤n,n<s.size] (.s (.int .u8 (aV s n.toNat)))
 |some (_,_,n),some (.array len e),.agg ak=>bif (gu P e).any (!·)&&(dA P e).any (·.beq 1)then
  (match cellAt ak n.toNat with
   |some v=>plain [0≤n,n<len] v
   |none=>.fail "index: no cell")else .fail "index: array of parts"
 |_,_,_=>.fail "index"
def acr(P:Program)(t:TypeId)(x:AV)(f:Nat):RM bx:=
 match P.underlying t,x with
 |some (.struct fs),.agg ak=>match fs[f]? with
  |some fd=>match dA P fd.type,gu P fd.type with
   |some sz,some true=>match(e8 ak fd.offset).bind (e9 · sz)with
    |some ss=>plain [] (.kB ss)
    |none=>.fail "field: parts"
   |some _,some false=>match cellAt ak fd.offset with
    |some v=>plain [] v
    |none=>.fail "field: cell"
   |_,_=>.fail "field: type"
  |none=>.fail "field: none"
 |_,_=>.fail "field"
def tz(x:AV)(i:Nat):RM bx:=
 match x with
 |.bp vs=>match vs[i]? with
  |some v=>plain [] v
  |none=>.fail "extract"
 |_=>.fail "extract: no tuple"
def yi(P:Program)(t:TypeId):Option Nat:=
 match P.underlying t,P.info? t with
 |some (.array n e),some i=>match P.underlying e,i.zero with
  |some .string,some z=>bif (4:Nat).ble n&&n.ble 4096&&z.cells.size.beq n&&z.cells.toList.all (fun v=>match v with|.string s=>s.size.beq 0|_=>false)then some n else none
  |_,_=>none
 |_,_=>none
def acs(P:Program)(t:TypeId):RM bx:=
 match yi P t with
 |some n=>.ret ⟨[],[],[.vec (.strs (List.replicate n ByteArray.empty)) t],fun id=>.fW id 0 0⟩
 |none=>
 match(zeroOf P t).bind AV.jd with
 |some ak=>.ret ⟨[],[],[.own ak t],fun id=>.ptr id 0⟩
 |none=>.fail "alloc: zero"
def aot(t:TypeId)(v:AV):RM bx:=
 match v.jd with
 |some ak=>.ret ⟨[],[],[.own ak t],fun id=>.ptr id 0⟩
 |none=>.fail "box"
def oL(place:Nat→Option (Nat×Nat))(ak:List AV):List (Nat×AV)→Option (List AV)
 |[]=>some ak
 |(i,v)::rest=>
  match place i,v.jd with
  |some (off,size),some je=>bif (fF je).beq size&&(1:Nat).ble size then(sW ak off je).bind fun s=>oL place s rest else none
  |_,_=>none
def acu(P:Program)(t:TypeId)(parts:List (Nat×AV)):RM bx:=
 match(zeroOf P t).bind AV.jd,P.underlying t with
 |some ak,some (.struct fs)=>bif fs.toList.all (fun f=>(dA P f.type).isSome)then
  match oL (fun i=>(fs[i]?).bind fun f=>(dA P f.type).map fun n=>(f.offset,n)) ak parts with
  |some ss=>plain [] (.kB ss)
  |none=>.fail "build: parts"
  else .fail "build: a field's size"
 |some ak,some (.array _ e)=>
  match dA P e with
  |some sz=>match oL (fun i=>some (i*sz,sz)) ak parts with
   |some ss=>plain [] (.kB ss)
   |none=>.fail "build: array"
  |none=>.fail "build: element"
 |_,_=>.fail "build: zero"
def AV.sv? :AV→Option SV
 |.s .aN=>none
 |.s v=>some v
 |.emp=>some (.ro (.dZ 1 0 fun _ _=>.aN))
 |_=>none
def svs:List AV→Option (List SV)
 |[]=>some []
 |.ints _ _ _::_=>none
 |a::aA=>match a.sv?,svs aA with
  |some v,some vs=>some (v::vs)
  |_,_=>none
def oM(k:IntKind):List SV→Option (List Int)
 |[]=>some []
 |.int k' n::vs|.aW k' n::vs=>bif bE k k' then(oM k vs).map (n:: ·)else none
 |_=>none
def qN:List SV→Option (List ByteArray)
 |[]=>some []
 |.str s::vs=>(qN vs).map (s:: ·)
 |_=>none
def nB:List SV→Option (List Bool)
 |[]=>some []
 |.bool b::vs|.aJ b::vs=>(nB vs).map (b:: ·)
 |_=>none
inductive Shape where
 |ints (k:IntKind)|strs|bD|ad (cs:List CK)|other
def ahe(P:Program):Nat→TypeId→Option (List CK)
 |0,_=>none
 |d+1,t=>
  match P.underlying t with
  |some (.int k)=>some [.int k]
  |some .bool=>some [.bool]
  |some .string=>some [.str]
  |some (.slice e)=>match P.underlying e with
   |some (.int k)=>some [.ints k]
   |some .string=>some [.strs]
   |some .bool=>some [.bD]
   |_=>(ahe P d e).map fun cs=>[.rows cs]
  |some (.struct fs)=>fs.toList.foldr (fun f acc=>match ahe P d f.type,acc with
   |some a,some b=>some (a++b)
   |_,_=>none) (some [])
  |some (.array n e)=>match P.underlying e with
   |some (.int k)=>some [.arr k n]
   |_=>none
  |_=>none
def shapeOf(P:Program)(e:TypeId):Shape:=
 match P.underlying e with
 |some (.int k)=>.ints k
 |some .string=>.strs
 |some .bool=>.bD
 |_=>match ahe P 8 e with
  |some cs=>.ad cs
  |none=>.other
def CL.ofs(cs:List CK)(f:Nat→SV):Option (CL cs):=(List.range (CL.wide cs)).foldl (fun acc j=>acc.bind fun x=>CL.set cs x j (f j)) (some (CL.d cs))
def wW(cs:List CK)(size:Nat)(cells:List SV):Nat→Nat→Option (List (CL cs))
 |_,0=>some []
 |i,n+1=>match CL.ofs cs (fun j=>cells.getD (i*size+j) .aN),wW cs size cells (i+1) n with
  |some x,some xs=>some (x::xs)
  |_,_=>none
def rP(sh:Shape)(size n:Nat)(cells:List SV):aF:=
 let d:aF:=.dZ size n fun i j=>cells.getD (i*size+j) .aN
 match sh with
 |.ints k=>(oM k cells).elim d (.ints k)
 |.strs=>(qN cells).elim d .strs
 |.bD=>(nB cells).elim d .bD
 |.ad cs=>bif (CL.wide cs).beq size then(wW cs size cells 0 n).elim d (.ad cs)else d
 |.other=>d
def ahf(sh:Shape)(size:Nat):aF:=
 match sh with
 |.ints k=>.ints k []
 |.strs=>.strs []
 |.bD=>.bD []
 |.ad cs=>.ad cs []
 |.other=>.dZ size 0 fun _ _=>.aN
def rep{α:Type}(n:Nat)(x:List α):List α:=
 match n with
 |0=>[]
 |n+1=>x++rep n x
def mB(P:Program)(t:TypeId)(n:Nat)(parts:List (Nat×AV)):RM bx:=
 match P.underlying t with
 |some (.slice e)=>
  match dA P e,(zeroOf P e).bind AV.jd with
  |some sz,some z=>bif (1:Nat).ble sz&&(n*sz).ble 4096&&(fF z).beq sz then
   (match(oL (fun i=>some (i*sz,sz)) (rep n z) parts).bind svs with
    |some cells=>bif cells.length.beq (n*sz)&&(rP (shapeOf P e) sz n cells).n.beq n&&(rP (shapeOf P e) sz n cells).size.beq sz then .ret ⟨[],[],[.vec (rP (shapeOf P e) sz n cells) e],fun id=>.vec id⟩else .fail "buildSlice: length"
    |none=>.fail "buildSlice: parts")else .fail "buildSlice: size"
  |_,_=>.fail "buildSlice: zero"
 |_=>.fail "buildSlice: type"
def cY:aF→aF→aF
 |.ints k xs,.ints k' ys=>bif bE k k' then .ints k (xs++ys)else .dZ 1 (xs.length+ys.length) fun i j=>bif i.blt xs.length then(aF.ints k xs).cell i j else(aF.ints k' ys).cell (i - xs.length) j
 |.strs xs,.strs ys=>.strs (xs++ys)
 |.bD xs,.bD ys=>.bD (xs++ys)
 |.ad cs xs,.ad jf ys=>match CL.eq jf cs with
  |some h=>.ad cs (xs++zW h ys)
  |none=>.dZ (CL.wide cs) (xs.length+ys.length) fun i j=>bif i.blt xs.length then(aF.ad cs xs).cell i j else(aF.ad jf ys).cell (i - xs.length) j
 |c,d=>.dZ c.size (c.n+d.n) fun i j=>bif i.blt c.n then c.cell i j else d.cell (i - c.n) j
def dv:aF→Nat→Nat→aF
 |.ints k zs,l,h=>.ints k ((zs.take h).drop l)
 |.strs zs,l,h=>.strs ((zs.take h).drop l)
 |.bD zs,l,h=>.bD ((zs.take h).drop l)
 |.ad cs zs,l,h=>.ad cs ((zs.take h).drop l)
 |.dZ s _ get,l,h=>.dZ s (h - l) fun i j=>get (l+i) j
def over{α:Type}(xs:List α)(lo k:Nat)(ys:List α):List α:=xs.take lo++ys.take k++xs.drop (lo+k)
def dg:aF→Nat→Nat→aF→aF
 |.ints k1 xs,lo,k,.ints k2 ys=>bif bE k1 k2 then .ints k1 (over xs lo k ys)else .dZ 1 xs.length fun i j=>bif lo.ble i&&i.blt (lo+k)then(aF.ints k2 ys).cell (i - lo) j else(aF.ints k1 xs).cell i j
 |.strs xs,lo,k,.strs ys=>.strs (over xs lo k ys)
 |.bD xs,lo,k,.bD ys=>.bD (over xs lo k ys)
 |.ad cs xs,lo,k,.ad jf ys=>match CL.eq jf cs with
  |some h=>.ad cs (over xs lo k (zW h ys))
  |none=>.dZ (CL.wide cs) xs.length fun i j=>bif lo.ble i&&i.blt (lo+k)then(aF.ad jf ys).cell (i - lo) j else(aF.ad cs xs).cell i j
 |c,lo,k,d=>.dZ c.size c.n fun i j=>bif lo.ble i&&i.blt (lo+k)then d.cell (i - lo) j else c.cell i j
def aou:SV→Value→Bool
 |.int k n,.int k' n'=>bE k k'&&n==n'
 |.bool b,.bool b'=>b==b'
 |.str s,.string s'=>s.size.beq 0&&s'.size.beq 0
 |.ro c,.slice none 0 0=>c.n.beq 0
 |_,_=>false
def dh(sh:Shape)(n:Nat):aF:=
 match sh with
 |.ints k=>.ints k (List.replicate n 0)
 |.strs=>.strs (List.replicate n ByteArray.empty)
 |.bD=>.bD (List.replicate n false)
 |.ad cs=>.ad cs (List.replicate n (CL.d cs))
 |.other=>.dZ 1 n fun _ _=>.aN
def fL(sh:Shape)(z:List Value):Bool:=(dh sh 1).size.beq z.length&&(List.range z.length).all fun j=>aou ((dh sh 1).cell 0 j) (z.getD j undef)
def rowOf(sh:Shape)(size:Nat)(x:AV)(k:aF→Option Nat→RM bx):RM bx:=
 match x with
 |.s v=>(match v with
  |.ro c=>k c none
  |_=>.fail "row")
 |.emp=>k (ahf sh size) none
 |.vec id=>.look id fun
  |some (.vec c _)=>k c (some id)
  |_=>.fail "row: no vec"
 |.part id lo n=>.look id fun
  |some (.vec c _)=>k (dv c lo (lo+n)) (some id)
  |_=>.fail "row: no vec"
 |_=>.fail "row"
def wX(sh:Shape)(size:Nat)(x:AV)(k:aF→Option Nat→RM bx):RM bx:=
 match x with
 |.s (.str s)=>k (.ints .u8 (s.data.toList.map fun b=>(b.toNat:Int))) none
 |x=>rowOf sh size x k
def yj(P:Program)(t:TypeId)(x y:AV):RM bx:=
 match P.underlying t with
 |some (.slice e)=>
  match P.info? e with
  |some i=>
   let sh:=shapeOf P e
   bif (1:Nat).ble i.size&&(1:Nat).ble i.bytes&&i.bytes.ble 256&&i.zero.any (fun z=>z.cells.size==i.size&&z.cells.toList.all (·.oneCell'))then
    wX sh i.size y fun d idy=>
     bif d.size.beq i.size then
      (match x with
       |.emp=>.ret ⟨[d.n*i.bytes≤140737488355328],[],[.vec d e],fun id=>.vec id⟩
       |.vec idx=>.look idx fun
        |some (.vec c e')=>bif c.size.beq i.size&&e'.beq e&& !(idy==some idx)then
         .ret ⟨[(c.n+d.n)*i.bytes≤140737488355328],[(idx,.dead)],[.vec (cY c d) e],fun id=>.vec id⟩else .fail "append: size"
        |_=>.fail "append: no vec"
       |.part idx lo n=>.look idx fun
        |some (.vec c e')=>bif c.size.beq i.size then
         .ret ⟨[lo+n+d.n≤c.n],[(idx,.vec (dg c (lo+n) d.n d) e')],[],fun _=>.part idx lo (n+d.n)⟩else .fail "append: size"
        |_=>.fail "append: no vec"
       |_=>.fail "append: what is appended to is not own")
     else .fail "append: another size"
   else .fail "append: element"
  |none=>.fail "append: no element"
 |_=>.fail "append: type"
def tA(P:Program)(t t':TypeId)(x y:AV):RM bx:=
 match P.underlying t,P.underlying t',x,y.dk with
 |some (.slice e),some (.int _),.s (.yf c k),some (_,_,j)=>
  (match P.info? e with
   |some i=>bif (1:Nat).ble i.size&&i.bytes.ble 256&&c.size.beq i.size&&i.zero.any (fun z=>fL (shapeOf P e) z.cells.toList&&z.cells.size==i.size)then
    .ret ⟨[0<j,(k:Int)≤c.n+j,(c.n:Int)+j≤4294967296],[],[.vec (cY c (dh (shapeOf P e) j.toNat)) e],fun id=>.vec id⟩else .fail "append: zeros"
   |none=>.fail "append: element")
 |_,_,_,_=>.fail "append: zeros?"
def aov(P:Program)(t:TypeId)(x:AV):RM bx:=
 match P.underlying t,x with
 |some .string,.s (.str s)=>plain [] (.s (.int .i64 s.size))
 |some (.array n _),_=>plain [] (.s (.aW .i64 n))
 |some (.slice _),.s (.ro c)=>plain [] (.s (.int .i64 c.n))
 |some (.slice _),.s (.yf c _)=>plain [] (.s (.int .i64 c.n))
 |some (.slice _),.emp=>plain [] (.s (.aW .i64 0))
 |some (.slice _),.vec id=>.look id fun
  |some (.vec c _)=>plain [] (.s (.int .i64 c.n))
  |_=>.fail "len: no vec"
 |some (.slice _),.part id _ n=>.look id fun
  |some (.vec _ _)=>plain [] (.s (.int .i64 n))
  |_=>.fail "len: no vec"
 |some (.map _ _),.ag id=>.look id fun
  |some (.map _ m)=>plain [] (.s (.int .i64 m.length))
  |_=>.fail "len: no map"
 |_,_=>.fail "len"
def aow(P:Program)(t:TypeId)(x:AV):RM bx:=
 match P.underlying t,x with
 |some (.slice _),.s (.yf _ k)=>plain [] (.s (.oc k))
 |some (.slice _),.vec id=>.look id fun
  |some (.vec c _)=>plain [] (.s (.ma c.n))
  |_=>.fail "cap: no vec"
 |some (.slice _),.part id lo _=>.look id fun
  |some (.vec c _)=>plain [] (.s (.ma (c.n - lo)))
  |_=>.fail "cap: no vec"
 |_,_=>.fail "cap"
def imax(a b:Int):Int:=if b>a then b else a
def oN(a b:Int):Int:=if b<a then b else a
def akB(mx:Bool)(x y:AV):RM bx:=
 match x.dk,y.dk with
 |some (k,lx,a),some (k',ly,b)=>bif bE k k' then
  (bif mx then plain [] (mkInt (lx&&ly) k (imax a b))else plain [] (mkInt (lx&&ly) k (oN a b)))else .fail "min: kinds"
 |_,_=>.fail "min"
def gf(d:Int):Option AV→Option Int
 |none=>some d
 |some a=>(a.dk).map fun(_,_,n)=>n
def adW(P:Program)(e:TypeId)(c:aF)(id lo0 n:Nat)(lo hi mx:Option AV):RM bx:=
 match dA P e with
 |some sz=>bif sz.beq c.size then
  (match mx with
   |none=>(match gf 0 lo,gf n hi with
    |some l,some h=>plain [0≤l,l≤h,(lo0:Int)+h≤c.n] (.part id (lo0+l.toNat) (h.toNat - l.toNat))
    |_,_=>.fail "slice: bounds")
   |some m=>(match gf 0 lo,hi.bind AV.dk,m.dk with
    |some l,some (_,_,h),some (_,_,m)=>plain [0≤l,l≤h,h≤m,(lo0:Int)+m≤c.n] (.s .aN)
    |_,_,_=>.fail "slice: three"))else .fail "slice: size"
 |none=>.fail "slice: element"
def ahg(P:Program)(t:TypeId)(x y:AV):RM bx:=
 match P.underlying t with
 |some (.slice e)=>
  match dA P e with
  |some sz=>bif (1:Nat).ble sz then
   wX (shapeOf P e) sz y fun d _=>bif d.size.beq sz then
    (match x with
     |.vec id=>.look id fun
      |some (.vec c e')=>bif c.size.beq sz then
       .ret ⟨[],[(id,.vec (dg c 0 (min d.n c.n) d) e')],[],fun _=>.s (.int .i64 ((min d.n c.n:Nat):Int))⟩else .fail "copy: size"
      |_=>.fail "copy: no vec"
     |.part id lo n=>.look id fun
      |some (.vec c e')=>bif c.size.beq sz then
       .ret ⟨[],[(id,.vec (dg c lo (min d.n n) d) e')],[],fun _=>.s (.int .i64 ((min d.n n:Nat):Int))⟩else .fail "copy: size"
      |_=>.fail "copy: no vec"
     |_=>.fail "copy: not own")else .fail "copy: another size"
   else .fail "copy: size"
  |none=>.fail "copy: element"
 |_=>.fail "copy: type"
def mC{k:IntKind}{m:Nat}(x:CL [.arr k m]):List Int:=x.1
def adX{k:IntKind}{m:Nat}(ws:List Int):CL [.arr k m]:=(ws,())
def sX(x:AV)(k:IntKind→List Int→Prop→RM bx):RM bx:=
 match x with
 |.s (.str s)=>k .u8 (s.data.toList.map fun b=>(b.toNat:Int)) True
 |.sub id off n=>.look id fun
  |some (.own [.ints q m ws] _)=>k q ((ws.drop off).take n) (off+n≤m)
  |_=>.fail "copy: no numbers"
 |_=>.fail "copy: from what?"
def acv(P:Program)(t:TypeId)(x y:AV):RM bx:=
 match P.underlying t with
 |some (.slice e)=>
  match dA P e with
  |some sz=>bif sz.beq 1 then
   (match x with
    |.sub id off n=>sX y fun q zs p=>.look id fun
      |some (.own [.ints k m ws] e')=>bif bE q k then
       .ret ⟨[p,off+n≤m],[(id,.own [.ints k m (over ws off (min zs.length n) zs)] e')],[],fun _=>.s (.int .i64 ((min zs.length n:Nat):Int))⟩else .fail "copy: kind"
      |_=>.fail "copy: no array"
    |.kb id i j n=>sX y fun q zs p=>.look id fun
      |some (.vec (.ad [.arr k m] xs) e')=>bif bE q k&&(1:Nat).ble m then
       .ret ⟨[p,(mC (xs.getD i (CL.d [.arr k m]))).length=m],[(id,.vec (.ad [.arr k m] (xs.set i (adX (over (mC (xs.getD i (CL.d [.arr k m]))) j (min zs.length n) zs)))) e')],[],fun _=>.s (.int .i64 ((min zs.length n:Nat):Int))⟩else .fail "copy: kind"
      |_=>.fail "copy: no vec"
    |_=>.fail "copy: not an array")else .fail "copy: size"
  |none=>.fail "copy: element"
 |_=>.fail "copy: type"
def aqO:AV→Bool
 |.sub _ _ _|.kb _ _ _ _=>true
 |_=>false
def acw(P:Program)(t:TypeId)(x:AV):RM bx:=
 match P.underlying t,x with
 |some (.slice e),.part id lo n=>
  (match P.info? e with
   |some i=>bif (1:Nat).ble i.size&&i.zero.any (fun z=>fL (shapeOf P e) z.cells.toList&&z.cells.size==i.size)then
    .look id fun
    |some (.vec c e')=>bif c.size.beq i.size then
     .ret ⟨[],[(id,.vec (dg c lo n (dh (shapeOf P e) n)) e')],[],fun _=>.bp []⟩else .fail "clear: size"
    |_=>.fail "clear: no vec"
    else .fail "clear: zero"
   |none=>.fail "clear: element")
 |some (.map _ _),.ag id=>.look id fun
  |some (.map ck _)=>.ret ⟨[],[(id,.map ck [])],[],fun _=>.bp []⟩
  |_=>.fail "clear: no map"
 |_,_=>.fail "clear"
def oO(P:Program)(t:TypeId)(l c:AV):RM bx:=
 match P.underlying t,l.dk,c.dk with
 |some (.slice e),some (_,_,l),some (_,_,c)=>
  (match P.info? e with
   |some i=>bif (1:Nat).ble i.size&&i.bytes.ble 256&&i.zero.any (fun z=>fL (shapeOf P e) z.cells.toList&&z.cells.size==i.size)then
    .ret ⟨[0≤l,l≤c,c≤1073741824],[],[.vec (dh (shapeOf P e) l.toNat) e],fun id=>.vec id⟩else .fail "makeSlice: zero"
   |none=>.fail "makeSlice: element")
 |_,_,_=>.fail "makeSlice"
def acx(P:Program)(t:TypeId)(x:AV)(lo hi mx:Option AV):RM bx:=
 match P.underlying t,x with
 |some .string,.s (.str s)=>
  (match gf 0 lo,gf s.size hi,mx with
   |some l,some h,none=>plain [0≤l,l≤h,h≤s.size] (.s (.str (s.extract l.toNat h.toNat)))
   |_,_,_=>.fail "slice: string")
 |some (.slice e),.emp=>(match dA P e,gf 0 lo,gf 0 hi,mx with
  |some _,some l,some h,none=>plain [l=0,h=0] .emp
  |_,_,_,_=>.fail "slice: emp")
 |some (.slice e),.s (.ro c)=>
  (match dA P e with
   |some sz=>bif sz.beq c.size then
    (match mx with
     |none=>(match gf 0 lo,gf c.n hi with
      |some l,some h=>plain [0≤l,l≤h,h≤c.n] (.s (.ro (dv c l.toNat h.toNat)))
      |_,_=>.fail "slice: bounds")
     |some m=>(match gf 0 lo,hi.bind AV.dk,m.dk with
      |some l,some (_,_,h),some (_,_,m)=>plain [l=0,h=0,m=0] .emp
      |_,_,_=>.fail "slice: three"))else .fail "slice: size"
   |none=>.fail "slice: element")
 |some (.slice e),.s (.yf c k)=>
  (match dA P e,mx with
   |some sz,none=>bif sz.beq c.size then
    (match lo,gf c.n hi with
     |none,some h=>plain [0≤h,h≤c.n] (.s (.yf (dv c 0 h.toNat) k))
     |some l,some h=>(match l.dk with
      |some (_,_,l)=>plain [0≤l,l≤h,h≤c.n] (.s (.ro (dv c l.toNat h.toNat)))
      |none=>.fail "slice: bounds")
     |_,_=>.fail "slice: bounds")else .fail "slice: size"
   |_,_=>.fail "slice: element")
 |some (.slice e),.vec id=>.look id fun
  |some (.vec c _)=>adW P e c id 0 c.n lo hi mx
  |_=>.fail "slice: no vec"
 |some (.slice e),.part id lo0 n=>.look id fun
  |some (.vec c _)=>adW P e c id lo0 n lo hi mx
  |_=>.fail "slice: no vec"
 |some (.array n e),.ptr id off=>
  (match dA P e,gf 0 lo,gf n hi,mx with
   |some sz,some l,some h,none=>bif sz.beq 1 then plain [0≤l,l≤h,h≤n] (.sub id (off+l.toNat) (h.toNat - l.toNat))else .fail "slice: array"
   |_,_,_,_=>.fail "slice: array")
 |some (.array n e),.fW id i j=>
  (match dA P e,gf 0 lo,gf n hi,mx with
   |some sz,some l,some h,none=>.look id fun
    |some (.vec c _)=>bif sz.beq 1&&(j+n).ble c.size then plain [0≤l,l≤h,h≤n] (.kb id i (j+l.toNat) (h.toNat - l.toNat))else .fail "slice: array"
    |_=>.fail "slice: no vec"
   |_,_,_,_=>.fail "slice: array")
 |_,_=>.fail "slice"
def aM(zs:List Int):ByteArray:=⟨(zs.map fun n=>UInt8.ofNat n.toNat).toArray⟩
def tB(P:Program)(src dst:TypeId)(x:AV):RM bx:=
 match P.underlying src,P.underlying dst with
 |some _,some (.int k)=>(match x.dk with
  |some (k',lit,n)=>bif lit then plain [] (.s (.aW k (k.wrap n)))else bif od k&& !bE k' .u64 then plain [aD n] (.s (.int k n))else plain [] (.s (.int k (k.wrap n)))
  |none=>.fail "convert: no number")
 |some .string,some .string=>(match x with
  |.s (.str s)=>plain [] (.s (.str s))
  |_=>.fail "convert: no string")
 |some (.slice e),some .string=>(match kindOf P e with
  |some .u8=>(match x with
   |.sub id off n=>.look id fun
     |some (.own [.ints .u8 m ws] _)=>plain [off+n≤m] (.s (.str (aM ((ws.drop off).take n))))
     |_=>.fail "convert: no bytes"
   |_=>rowOf (.ints .u8) 1 x fun c _=>match c with
   |.ints .u8 zs=>plain [] (.s (.str (aM zs)))
   |_=>.fail "convert: no bytes")
  |_=>.fail "convert: no bytes")
 |_,_=>.fail "convert"
def br(s:ByteArray):List Int:=s.data.toList.map fun b=>(b.toNat:Int)
def tC(P:Program)(src dst:TypeId)(x:AV):RM bx:=
 match P.underlying src,P.underlying dst,x with
 |some .string,some (.slice e),.s (.str s)=>(match kindOf P e with
  |some .u8=>plain [s.size≤4294967296] (.s (.ro (.ints .u8 (br s))))
  |_=>.fail "convert: to bytes")
 |_,_,_=>.fail "convert: to bytes"
def akC(P:Program)(src dst:TypeId):Bool:=
 match P.underlying src,P.underlying dst with
 |some .string,some (.slice _)=>true
 |_,_=>false
def tD(P:Program)(t:TypeId)(x:AV):RM bx:=
 match P.underlying t,x with
 |some (.array n _),.s (.ro (.ints k zs))=>bif (1:Nat).ble n then plain [n≤zs.length] (.jm (.ad [.arr k n] [(zs.take n,())]) 0 0)else .fail "array: none"
 |_,_=>.fail "array of a slice"
def qO(x:AV):RM bx:=
 match x with
 |.ptr _ _|.jH _ _ _ _|.jm _ _ _|.fn _ _|.s (.kL _)=>plain [] x
 |_=>.fail "nilCheck"
def qP(fn:Fn)(first ei:List AV):RM bx:=
 match fn,first,ei with
 |.func f,[],[]=>plain [] (.s (.kL f))
 |.func f,[],c::cs=>plain [] (.fn f (c::cs))
 |_,_,_=>.fail "makeFunc"
def atD(P:Program)(t:TypeId):Option CK:=
 match P.underlying t with
 |some (.int k)=>some (.int k)
 |some .bool=>some .bool
 |some .string=>some .str
 |some (.array n e)=>match P.underlying e with
  |some (.int k)=>some (.arr k n)
  |_=>none
 |_=>none
def CK.plain:CK→Bool
 |.int _|.bool|.str|.arr _ _=>true
 |_=>false
def tE(P:Program)(t:TypeId)(ck:CK):Bool:=ck.plain&&
 match(P.info? t).bind (·.zero),ck with
 |some (.int k' 0),.int k=>bE k' k
 |some (.bool false),.bool=>true
 |some (.string s),.str=>s.size.beq 0
 |some (.agg cs),.arr k n=>mz k cs.toList&&cs.toList.length.beq n
 |_,_=>false
def CK.av:(c:CK)→c.V→AV
 |.int k,v=>.s (.int k v)
 |.bool,v=>.s (.bool v)
 |.str,v=>.s (.str v)
 |.arr k n,v=>.ints k n v
 |_,_=>.s .aN
def CK.rdv:(c:CK)→AV→Option c.V
 |.int k,a=>match a with
  |.s (.int k' x)|.s (.aW k' x)=>bif bE k k' then some x else none
  |_=>none
 |.bool,a=>match a with
  |.s (.bool x)|.s (.aJ x)=>some x
  |_=>none
 |.str,a=>match a with
  |.s (.str x)=>some x
  |_=>none
 |.arr k n,a=>match a with
  |.ints k' n' ws=>bif bE k k'&&n.beq n' then some ws else none
  |_=>none
 |_,_=>none
def adY(P:Program)(t:TypeId):Bool:=
 match P.underlying t with
 |some (.int .i64)=>true
 |_=>false
def yk(P:Program)(t:TypeId)(x i:AV)(ok:Bool):RM bx:=
 match P.underlying t,x,i.dk with
 |some (.map kt et),.ag id,some (k,_,n)=>bif adY P kt&&od k then
  .look id fun
  |some (.map ck m)=>bif tE P et ck then
   plain [] (bif ok then .bp [ck.av ((fH m n).getD ck.d),.s (.bool (oG m n))]else ck.av ((fH m n).getD ck.d))else .fail "lookup: elements"
  |_=>.fail "lookup: no map"
  else .fail "lookup: keys"
 |_,_,_=>.fail "lookup"
def oP(P:Program)(t:TypeId)(x i v:AV):RM bx:=
 match P.underlying t,x,i.dk with
 |some (.map kt _),.ag id,some (k,_,n)=>bif adY P kt&&od k then
  .look id fun
  |some (.map ck m)=>(match ck.rdv v with
   |some y=>.ret ⟨[],[(id,.map ck (mj m n y))],[],fun _=>.bp []⟩
   |none=>.fail "mapUpdate: elements")
  |_=>.fail "mapUpdate: no map"
  else .fail "mapUpdate: keys"
 |_,_,_=>.fail "mapUpdate"
def tF(P:Program)(t:TypeId)(r:Option AV):RM bx:=
 match P.underlying t,r with
 |some (.map _ et),none=>(match atD P et with
  |some ck=>.ret ⟨[],[],[.map ck []],fun id=>.ag id⟩
  |none=>.fail "makeMap: elements")
 |_,_=>.fail "makeMap"
def acy(x:AV):RM bx:=
 match x with
 |.ptr id 0=>.look id fun
  |some (.iter mid gid ck _ cur)=>.look mid fun
   |some (.wb _ _ aqP)=>bif gid.beq aqP&&ck.plain then(match cur with
    |some p=>plain [] (.bp [.s (.int .i64 p.1),ck.av p.2])
    |none=>.fail "entry: no step")else .fail "entry: another one"
   |_=>.fail "entry: no map"
  |_=>.fail "entry: no range"
 |_=>.fail "entry"
abbrev akD:=FuncId→List AV→RM bx
abbrev eY:=Nat→akD
def iB(P:Program)(f:FuncId):Bool:=
 match P.funcs[f]? with
 |some fn=>fn.body.isSome&& !(fn.name== "runtime.NumGoroutine")
 |none=>false
def aox(P:Program)(f:FuncId):Prop:=
 ∃(fn:Func) (t e tR:TypeId) (size:Nat),P.funcs[f]? =some fn∧(fn.name== "runtime.NumGoroutine")=false∧fn.body.isNone=true∧Extern.findNext fn=none∧Extern.find fn=some (Extern.SlicesOverlaps.overlaps #[t,t] #[tR])∧
  P.underlying t=some (.slice e)∧dA P e=some size
def ownRow:AV→Option Nat
 |.vec id=>some id
 |.part id _ _=>some id
 |_=>none
def qQ(P:Program)(f:FuncId)(args:List AV):RM bx:=
 match args with
 |[x,y]=>match ownRow x,ownRow y with
  |some i,some j=>bif i.beq j then .fail "call: no Go body" else
   .look i fun o=>match o with
    |some (.vec c _)=>.look j fun o=>match o with
     |some (.vec d _)=>bif (1:Nat).ble c.size&&(1:Nat).ble d.size then plain [aox P f] (.s (.aJ false))else .fail "call: no Go body"
     |_=>.fail "call: no Go body"
    |_=>.fail "call: no Go body"
  |_,_=>.fail "call: no Go body"
 |_=>.fail "call: no Go body"
def adZ(P:Program)(S:akD)(f:FuncId)(args:List AV):RM bx:=
 bif iB P f then S f args else qQ P f args
def yl(P:Program)(t:TypeId):Bool:=
 match P.underlying t with
 |some (.slice _)|some .string=>true
 |_=>false
def zX(P:Program)(b:Builtin)(ts:List TypeId)(args:List AV):RM bx:=
 match b,ts,args with
 |.len,t::_,[x]=>aov P t x
 |.cap,t::_,[x]=>aow P t x
 |.append,[t,t'],[x,y]=>bif yl P t' then yj P t x y else tA P t t' x y
 |.min,_,[x,y]=>akB false x y
 |.max,_,[x,y]=>akB true x y
 |.copy,[t,t'],[x,y]=>bif yl P t' then(bif aqO x then acv P t x y else ahg P t x y)else .fail "copy: what?"
 |.clear,t::_,[x]=>acw P t x
 |_,_,_=>.fail "builtin"
def pF:BinOp→Bool
 |.eql=>true
 |_=>false
def aoy(P:Program)(op:BinOp)(t:TypeId)(x:AV):RM bx:=
 match op with
 |.eql|.neq=>
  match P.underlying t with
  |some (.slice _)=>
   match x with
   |.s (.ro c)=>plain [] (.s (.ka c.n (pF op)))
   |.emp=>plain [] (.s (.ka 0 (pF op)))
   |.vec id=>.look id fun o=>match o with
    |some (.vec c _)=>plain [] (.s (.ka c.n (pF op)))
    |_=>.fail "== nil: no row"
   |_=>.fail "== nil"
  |_=>.fail "== nil: the type"
 |_=>.fail "nil: what?"
def oe:AV→AV
 |.s .oH=>.emp
 |x=>x
def acz:AV→Bool
 |.s .oH=>true
 |_=>false
def aoz(P:Program)(t:TypeId)(x:AV):RM bx:=
 match P.underlying t,x with
 |some (.interface _),_=>.fail "interface: of an interface"
 |some _,.s (.int k n)=>plain [] (.s (.ifi t k n))
 |some _,.s (.aW k n)=>plain [] (.s (.ifi t k n))
 |some _,.s (.str s)=>plain [] (.s (.ifs t s))
 |some _,.s (.bool b)=>plain [] (.s (.ifb t b))
 |some _,.s (.aJ b)=>plain [] (.s (.ifb t b))
 |_,_=>.fail "interface: of what?"
def ahh(P:Program)(S:akD)(ev:Operand→AV)(o:Oper):RM bx:=
 match o.op with
 |.move x|.assign x=>plain [] (ev x)
 |.pick c a b=>oI "pick" (ag8 (ev c) (ev a) (ev b))
 |.alloc t=>acs P t
 |.box t x=>aot t (ev x)
 |.makeInterface t x=>aoz P t (ev x)
 |.build t ps=>acu P t (ps.toList.map fun p=>(p.1,ev p.2))
 |.buildSlice t n ps=>mB P t n (ps.toList.map fun p=>(p.1,ev p.2))
 |.load t a=>adU P t (ev a)
 |.store t a x=>acp P t (ev a) (ev x)
 |.nilCheck x=>qO (ev x)
 |.binOp op t x y _=>oI "binOp" (akz P op t (ev x) (ev y))
 |.unOp op _ x=>oI "unOp" (unR op (ev x))
 |.convert a b x=>bif akC P a b then tC P a b (ev x)else tB P a b (ev x)
 |.sliceToArrayPointer t x=>tD P t (ev x)
 |.entry x=>acy (ev x)
 |.makeFunc fn a b=>qP fn (a.toList.map ev) (b.toList.map ev)
 |.slice t x l h m=>acx P t (ev x) (l.map ev) (h.map ev) (m.map ev)
 |.fieldAddr t x f=>oJ P t (ev x) f
 |.field t x f=>acr P t (ev x) f
 |.indexAddr t x i=>oK P t (ev x) (ev i)
 |.index t x i=>acq P t (ev x) (ev i)
 |.extract x i=>tz (ev x) i
 |.lookup t x i ok=>yk P t (ev x) (ev i) ok
 |.mapUpdate t x i v|.insert t x i v=>oP P t (ev x) (ev i) (ev v)
 |.makeMap t r=>tF P t (r.map ev)
 |.makeSlice t l c=>oO P t (ev l) (ev c)
 |.call c=>match c.callee with
  |.value f=>match ev f with
   |.s (.kL f)=>adZ P S f (c.args.toList.map ev)
   |.fn f ei=>adZ P S f (c.args.toList.map ev++ei)
   |_=>.fail "call: what?"
  |.builtin b=>zX P b c.argTypes.toList (c.args.toList.map ev)
  |_=>.fail "call: invoke"
 |_=>.fail "op"
def aoA:AV→Bool
 |.s (.ma _)|.s (.oc _)=>true
 |_=>false
def ym(op:BinOp)(x y:AV):RM bx:=
 match op,x.dk,y with
 |.gtr,some (.i64,_,a),.s (.ma b)=>plain [a≤(b:Int)] (.s (.aJ false))
 |.gtr,some (.i64,_,a),.s (.oc b)=>plain [(b:Int)≤a] (.s (.aJ true))
 |_,_,_=>.fail "cap: compared"
def RM.afD{α:Type}(id:Nat):RM α→RM α
 |.ret a=>.ret a
 |.look j k=>bif j.beq id then(k (some .dead)).afD id else .look j fun o=>(k o).afD id
 |.fail w=>.fail w
def RM.lR(id:Nat):RM bx→RM bx
 |.ret q=>.ret {q with up:=(id,.dead)::q.up}
 |.look j k=>.look j fun o=>(k o).lR id
 |.fail w=>.fail w
def ahi(id:Nat)(c:aF)(ev:Operand→AV):Operand→AV:=fun x=>match ev x with
 |.vec j=>bif j.beq id then .s (.ro c)else .vec j
 |a=>a
def giveUp:List Nat→(Operand→AV)→((Operand→AV)→RM bx)→RM bx
 |[],ev,k=>k ev
 |id::ids,ev,k=>.look id fun o=>match o with
  |some (.vec c _)=>((giveUp ids (ahi id c ev) k).afD id).lR id
  |_=>.fail "give up: no row"
def ahj(ev:Operand→AV)(ps:List (Nat×Operand)):List Nat:=ps.filterMap fun p=>match ev p.2 with
 |.vec j=>some j
 |_=>none
def v7(P:Program)(S:akD)(ev:Operand→AV)(o:Oper):RM bx:=
 match o.op with
 |.binOp op t x y _=>bif acz (ev y)then aoy P op t (oe (ev x))else bif aoA (ev y)then ym op (oe (ev x)) (ev y)else oI "binOp" (akz P op t (oe (ev x)) (ev y))
 |.buildSlice _ _ ps=>giveUp (ahj ev ps.toList) (fun x=>oe (ev x)) fun ev=>ahh P S ev o
 |_=>ahh P S (fun x=>oe (ev x)) o
end Go.Sx
namespace Go.Sx
open Go
def bt:List Prop→Prop
 |[]=>True
 |p::ps=>p∧bt ps
theorem aY{k k':IntKind}(h:bE k k'=true):k=k':=by
 cases k<;>cases k'<;>first|rfl|(simp[bE]at h)
theorem mE{k:IntKind}(h:od k=true):k=.i64:=by
 cases k<;>first|rfl|(simp[od]at h)
theorem bV{n:Int}(h:aD n):IntKind.i64.wrap n=n:=by
 obtain⟨h1,h2⟩:=h
 rw[IntKind.wrap_i64]
 omega
section
variable{ρ:Nat→Value}{H:aG}{O:Nat→Prop}{w:World}{P:Program}
theorem au{x:SV}{v:Value}(h:aK O w x v):ab ρ H O w (.s x) v:=by
 cases x<;>unfold ab<;>first|trivial|exact h
theorem ah{x:SV}{v:Value}(hx:x≠.aN)(h:ab ρ H O w (.s x) v):aK O w x v:=by
 cases x<;>unfold ab at h<;>first|exact(hx rfl).elim|exact h
theorem bL{x:AV}{v:Value}{k:IntKind}{l:Bool}{n:Int}(h:x.dk =some (k,l,n))(hd:ab ρ H O w x v):v=.int k n:=by
 cases x with
 |s x=>
  cases x<;>simp only[AV.dk,Option.some.injEq,Prod.mk.injEq,reduceCtorEq]at h
  all_goals
   obtain⟨rfl, -,rfl⟩:=h
   have:=ah (by simp) hd
   cases this
   rfl
 |_=>simp[AV.dk]at h
theorem jz{x:AV}{v:Value}{l b:Bool}(h:x.iS =some (l,b))(hd:ab ρ H O w x v):v=.bool b:=by
 cases x with
 |s x=>
  cases x<;>simp only[AV.iS,Option.some.injEq,Prod.mk.injEq,reduceCtorEq]at h
  all_goals
   obtain⟨-,rfl⟩:=h
   have:=ah (by simp) hd
   cases this
   rfl
 |_=>simp[AV.iS]at h
theorem eZ{s:ByteArray}{v:Value}(hd:ab ρ H O w (.s (.str s)) v):v=.string s:=by
 have:=ah (by simp) hd
 cases this
 rfl
theorem gg(l:Bool)(k:IntKind)(n:Int):ab ρ H O w (mkInt l k n) (.int k n):=by
 unfold mkInt
 cases l
 ·exact au (.int k n)
 ·exact au (.aW k n)
theorem oQ(l:Bool)(b:Bool):ab ρ H O w (kA l b) (.bool b):=by
 unfold kA
 cases l
 ·exact au (.bool b)
 ·exact au (.aJ b)
theorem kM{l:Bool}{k:IntKind}{n:Int}(h:bt (my l k n).1):ab ρ H O w (my l k n).2 (.int k (k.wrap n)):=by
 unfold my at *
 cases l
 ·cases hk:od k
  ·exact au (.int _ _)
  ·simp only[hk,cond_true,cond_false,bt,and_true]at h ⊢
   obtain rfl:=mE hk
   rw[bV h]
   exact au (.int _ _)
 ·exact au (.aW _ _)
theorem gh(op:BinOp)(t:TypeId)(x y:Operand)(k k':IntKind)(a b:Int):(eqGuard op t x y (.int k a) (.int k' b)).run P w=.ok () w:=by
 cases op<;>simp[eqGuard]
theorem zY(op:BinOp)(t:TypeId)(x y:Operand)(a b:ByteArray):(eqGuard op t x y (.string a) (.string b)).run P w=.ok () w:=by
 cases op<;>simp[eqGuard]
theorem yn(op:BinOp)(t:TypeId)(x y:Operand)(a b:Bool):(eqGuard op t x y (.bool a) (.bool b)).run P w=.ok () w:=by
 cases op<;>simp[eqGuard]
theorem mF(op:BinOp)(t:TypeId)(x y:Operand)(a b:Option Addr):(eqGuard op t x y (.pointer a) (.pointer b)).run P w=.ok () w:=by
 cases op<;>simp[eqGuard]
theorem akE{l:Bool}{k:IntKind}{x y:Int}{q:List Prop×AV}
 (h:(bif l then([y≠0],AV.s (.aW k (k.wrap (x.tdiv y))))else bif od k then([y≠0,aD (x.tdiv y)],.s (.int k (x.tdiv y)))else([y≠0],.s (.int k (k.wrap (x.tdiv y)))))=q)
 (hn:bt q.1):y≠0∧ab ρ H O w q.2 (.int k (k.wrap (x.tdiv y))):=by
 subst h
 cases l
 ·cases hk:od k
  ·simp only[hk,cond_false,bt,and_true]at hn ⊢
   exact⟨hn,au (.int _ _)⟩
  ·simp only[hk,cond_true,cond_false,bt,and_true]at hn ⊢
   obtain rfl:=mE hk
   rw[bV hn.2]
   exact⟨hn.1,au (.int _ _)⟩
 ·simp only[cond_true,bt,and_true]at hn ⊢
  exact⟨hn,au (.aW _ _)⟩
theorem qR{op:BinOp}{t:TypeId}{k:IntKind}{lx ly:Bool}{x y:Int}{q:List Prop×AV}(h:tx op k lx ly x y=some q)(hn:bt q.1):
 ∃v,(binOp op t (.int k x) (.int k y)).run P w=.ok v w∧ab ρ H O w q.2 v:=by
 cases op<;>simp only[tx,Option.some.injEq,reduceCtorEq]at h
 case add=>subst h;exact⟨_,by simp[binOp,Op.intArith],kM hn⟩
 case sub=>subst h;exact⟨_,by simp[binOp,Op.intArith],kM hn⟩
 case mul=>subst h;exact⟨_,by simp[binOp,Op.intArith],kM hn⟩
 case quo=>
  obtain⟨h0,hd⟩:=akE (ρ:=ρ) (H:=H) (O:=O) (w:=w) h hn
  exact⟨_,by simp[binOp,Op.intDiv,h0],hd⟩
 case rem=>
  subst h
  have h0:y≠0:=by simpa[bt]using hn
  exact⟨_,by simp[binOp,Op.intDiv,h0],gg _ _ _⟩
 case and=>subst h;exact⟨.int k (bA .and k x y),by simp[binOp,Op.intBits,bA],gg _ _ _⟩
 case or=>subst h;exact⟨.int k (bA .or k x y),by simp[binOp,Op.intBits,bA],gg _ _ _⟩
 case xor=>subst h;exact⟨.int k (bA .xor k x y),by simp[binOp,Op.intBits,bA],gg _ _ _⟩
 case andNot=>subst h;exact⟨.int k (bA .andNot k x y),by simp[binOp,Op.intBits,bA],gg _ _ _⟩
 all_goals subst h;exact⟨_,by simp[binOp,Op.intCmp],oQ _ _⟩
theorem wY{op:BinOp}{t:TypeId}{k k':IntKind}{l:Bool}{x y:Int}{q:List Prop×AV}(h:acg op k l x y=some q)(hn:bt q.1):
 ∃v,(binOp op t (.int k x) (.int k' y)).run P w=.ok v w∧ab ρ H O w q.2 v:=by
 cases op<;>simp only[acg,Option.some.injEq,reduceCtorEq]at h
 all_goals
  subst h
  have h0:0≤y:=by simpa[bt]using hn
  exact⟨_,by simp[binOp,Op.shift,Int.not_lt.2 h0],gg _ _ _⟩
theorem acA(a b:ByteArray):(a.toList==b.toList)=decide (a=b):=by
 rw[ByteArray.toList_eq,ByteArray.toList_eq,Bool.eq_iff_iff]
 simp only[beq_iff_eq,decide_eq_true_eq]
 constructor
 ·intro h
  cases a;cases b
  simp only[ByteArray.mk.injEq]at *
  exact Array.toList_inj.1 h
 ·rintro rfl;rfl
theorem afE{op:BinOp}{t:TypeId}{x y:ByteArray}{q:List Prop×AV}(h:ach op x y=some q)(hn:bt q.1):
 ∃v,(binOp op t (.string x) (.string y)).run P w=.ok v w∧ab ρ H O w q.2 v:=by
 cases op<;>simp only[ach,Option.some.injEq,reduceCtorEq]at h
 case add=>
  subst h
  have h0:x.size+y.size≤4611686018427387904:=by simpa[bt]using hn
  exact⟨.string (x++y),by simp[binOp,Op.stringOp];omega,au (.str _)⟩
 all_goals subst h;exact⟨_,by simp only[binOp,Op.stringOp,acA];rfl,by first|exact au (.bool _)|(simp only[slt,ByteArray.toList_eq];exact au (.bool _))⟩
theorem aoB{op:UnOp}{x:AV}{vx:Value}{q:List Prop×AV}(h:unR op x=some q)(hn:bt q.1)(hx:ab ρ H O w x vx):
 ∃v,(Op.unary op vx).run P w=.ok v w∧ab ρ H O w q.2 v:=by
 unfold unR at h
 split at h<;>simp only[Option.some.injEq,reduceCtorEq]at h<;>subst h
 ·have h1:=ah (by simp) hx
  cases h1
  exact⟨_,by simp only[Op.unary,Sem.run_pure],au (.bool _)⟩
 ·have h1:=ah (by simp) hx
  cases h1
  exact⟨_,by simp only[Op.unary,Sem.run_pure],au (.aJ _)⟩
 ·have h1:=ah (by simp) hx
  cases h1
  exact⟨_,by simp only[Op.unary,Op.intArith,Sem.run_pure],kM hn⟩
 ·have h1:=ah (by simp) hx
  cases h1
  exact⟨_,by simp only[Op.unary,Op.intArith,Sem.run_pure],kM hn⟩
theorem ahk{c a b:AV}{vc va vb:Value}{q:List Prop×AV}(h:ag8 c a b=some q)(hc:ab ρ H O w c vc)(ha:ab ρ H O w a va)(hb:ab ρ H O w b vb):
 ∃t,vc=.bool t∧ab ρ H O w q.2 (if t then va else vb):=by
 unfold ag8 at h
 split at h
 ·simp only[Option.some.injEq]at h
  subst h
  have h1:=ah (by simp) hc
  cases h1
  exact⟨true,rfl,ha⟩
 ·simp only[Option.some.injEq]at h
  subst h
  have h1:=ah (by simp) hc
  cases h1
  exact⟨false,rfl,hb⟩
 ·rename_i t
  have h1:=ah (by simp) hc
  cases h1
  refine⟨t,rfl, ?_⟩
  split at h
  ·rename_i la x lb y h2 h3
   simp only[Option.some.injEq]at h
   subst h
   obtain rfl:=jz h2 ha
   obtain rfl:=jz h3 hb
   cases t
   ·exact au (.bool _)
   ·exact au (.bool _)
  ·split at h
   ·rename_i k la x k' lb y h2 h3
    rw[Bool.cond_eq_ite]at h
    split at h
    ·rename_i hk
     obtain rfl:=aY hk
     simp only[Option.some.injEq]at h
     subst h
     obtain rfl:=bL h2 ha
     obtain rfl:=bL h3 hb
     cases t
     ·exact au (.int _ _)
     ·exact au (.int _ _)
    ·cases h
   ·cases h
 ·cases h
end
end Go.Sx
namespace Go.Sx
open Go
def yo(fr:Nat×Nat)(cells:List Value):Prop:=(∀off,off≤cells.length→¬(fr.1≤off∧off<fr.2))∧∀u∈cells,u.oneCell'=true
def unm(fr:Nat×Nat)(n:Nat):Prop:=∀off,off<n→¬(fr.1≤off∧off<fr.2)
theorem yo.unm{fr:Nat×Nat}{cells:List Value}(h:yo fr cells):unm fr cells.length:=fun off ho=>h.1 off (Nat.le_of_lt ho)
theorem yo.over{fr:Nat×Nat}{cells news:List Value}{k:Nat}(h:yo fr cells)(hn:∀v∈news,v.oneCell'=true)(hl:k+news.length≤cells.length):yo fr (cells.take k++news++cells.drop (k+news.length)):=by
 refine⟨fun off ho=>h.1 off ?_,fun u hu=> ?_⟩
 ·simp only[List.length_append,List.length_take,List.length_drop]at ho;omega
 ·simp only[List.mem_append]at hu
  rcases hu with(hu|hu)|hu
  ·exact h.2 u (List.mem_of_mem_take hu)
  ·exact hn u hu
  ·exact h.2 u (List.mem_of_mem_drop hu)
def CK.val:(c:CK)→c.V→Value
 |.int k,v=>.int k v
 |.bool,v=>.bool v
 |.str,v=>.string v
 |.arr k _,v=>.agg (List.map (α:=Int) (Value.int k) v).toArray
 |_,_=>undef
def CK.fits:(c:CK)→c.V→Prop
 |.arr _ n,v=>List.length (α:=Int) v=n
 |_,_=>True
structure iC (ck:CK) (m:List (Int×ck.V)) (es:List MapEntry) (clock:Nat):Prop where
 eq:es.map (fun e=>(e.key,e.val))=m.map (fun p=>(Value.int .i64 p.1,ck.val p.2))
 keys:(m.map (·.1)).Nodup
 wZ:(es.map (·.born)).Nodup
 old:∀e∈es,e.born<clock
 fits:∀p∈m,ck.fits p.2
def afF(es:Array MapEntry)(clock:Nat):Value:=.tuple #[.int .i64 clock,.tuple (es.map fun e=>.tuple #[e.key,e.val,.int .i64 (e.born:Int)])]
structure tG (ck:CK) (left:List (Int×ck.V)) (cur:Option (Int×ck.V)) (es:Array MapEntry) (clock:Nat) (seen:Array Nat):Prop where
 eq:(es.toList.filter fun e=> !seen.contains e.born).map (fun e=>(e.key,e.val))=left.map (fun p=>(.int .i64 p.1,ck.val p.2))
 fits:∀p∈left,ck.fits p.2
 wZ:(es.toList.map (·.born)).Nodup
 old:∀e∈es.toList,e.born<clock
 cur:∀p,cur=some p→ck.fits p.2∧∃e,e∈es.toList∧seen.back? =some e.born∧e.key=.int .i64 p.1∧e.val=ck.val p.2
def hP(ρ:Nat→Value)(H:aG)(O:Nat→Prop)(w:World)(root:Value):ae→Prop
 |.dead=>True
 |.map ck m=>∃(b:Nat) (es:Array MapEntry) (clock:Nat),root=.map (some b)∧w.heap[b]? =some (.map es clock)∧iC ck m es.toList clock
 |.wb ck m gid=>∃(b:Nat) (es:Array MapEntry) (clock:Nat),root=.map (some b)∧w.heap[b]? =some (.map es clock)∧iC ck m es.toList clock∧ρ gid=afF es clock∧(H gid).isSome=true
 |.iter mid gid ck left cur=>∃(b mb:Nat) (es:Array MapEntry) (clock:Nat) (seen:Array Nat),root=.pointer (some ⟨b,0,none⟩)∧w.heap[b]? =some (.mapIter (some mb) clock seen clock)∧tG ck left cur es clock seen∧
  ρ gid=afF es clock∧(H gid).isSome=true∧ρ mid=.map (some mb)∧(H mid).isSome=true
 |.own ak e=>∃(b:Nat) (cells:List Value) (fr:Nat×Nat),root=.pointer (some ⟨b,0,none⟩)∧w.heap[b]? =some (.cells cells.toArray e fr)∧unm fr cells.length∧an ρ H O w ak cells
 |.vec c e=>∃(a:Option Addr) (cap:Nat),root=.slice a c.n cap∧c.n≤cap∧cap≤maxLen∧(cap=0∨
  ∃(b o:Nat) (cells:List Value) (fr:Nat×Nat) (us:Nat→Nat→Value),a=some ⟨b,o,none⟩∧w.heap[b]? =some (.cells cells.toArray e fr)∧yo fr cells∧o+cap*c.size≤cells.length∧
   ∀i j,i<c.n→j<c.size→cells[o+i*c.size+j]? =some (us i j)∧aK O w (c.cell i j) (us i j))
structure Sat (ρ:Nat→Value) (H:aG) (G:Nat→Prop) (w:World):Prop where
 obj:∀id o,H id=some o→hP ρ H (aL ρ H G) w (ρ id) o
 inj:∀i j oi oj b,H i=some oi→H j=some oj→oi.alive=true→oj.alive=true→ef (ρ i)=some b→ef (ρ j)=some b→i=j
 apart:∀b,Own ρ H b→¬G b
 low:∀b,G b→b<w.heap.size
structure Frm (ρ:Nat→Value) (H:aG) (w w':World):Prop where
 os:w'.os=w.os
 tape:w'.tape=w.tape
 output:w'.output=w.output
 heap:∀b,b<w.heap.size→¬Own ρ H b→w'.heap[b]? =w.heap[b]?
def Good(ρ:Nat→Value)(H:aG)(G:Nat→Prop)(w:World)(H':aG)(r:AV)(v:Value)(w':World):Prop:=
 ∃az,Sat az H' G w'∧ab az H' (aL az H' G) w' r v∧Step ρ H (aL ρ H G) w az H' (aL az H' G) w'∧Frm ρ H w w'
section
variable{ρ az:Nat→Value}{H H':aG}{G O O':Nat→Prop}{w w':World}{P:Program}
theorem hP.step(st:Step ρ H O w az H' O' w'){root:Value}{o:ae}(h:hP ρ H O w root o)(hb:∀b,o.alive=true→ef root=some b→w'.heap[b]? =w.heap[b]?):
 hP az H' O' w' root o:=by
 cases o with
 |dead=>trivial
 |map ck m=>
  obtain⟨b,es,clock,rfl,h1,h2⟩:=h
  exact⟨b,es,clock,rfl,by rw[hb b rfl rfl];exact h1,h2⟩
 |wb ck m gid=>
  obtain⟨b,es,clock,rfl,h1,h2,h3,h4⟩:=h
  obtain⟨o,ho⟩:=Option.isSome_iff_exists.1 h4
  obtain⟨o',de,_⟩:=st.eJ gid o ho
  exact⟨b,es,clock,rfl,by rw[hb b rfl rfl];exact h1,h2,by rw[st.wV gid o ho];exact h3,by rw[de];rfl⟩
 |iter mid gid ck left cur=>
  obtain⟨b,mb,es,clock,seen,rfl,h1,h2,h3,h4,h5,h6⟩:=h
  obtain⟨o,ho⟩:=Option.isSome_iff_exists.1 h4
  obtain⟨o',de,_⟩:=st.eJ gid o ho
  obtain⟨p,hp⟩:=Option.isSome_iff_exists.1 h6
  obtain⟨p',w4,_⟩:=st.eJ mid p hp
  exact⟨b,mb,es,clock,seen,rfl,by rw[hb b rfl rfl];exact h1,h2,by rw[st.wV gid o ho];exact h3,by rw[de];rfl,by rw[st.wV mid p hp];exact h5,by rw[w4];rfl⟩
 |own ak e=>
  obtain⟨b,cells,fr,rfl,h1,h2,h3⟩:=h
  exact⟨b,cells,fr,rfl,by rw[hb b rfl rfl];exact h1,h2,h3.step st⟩
 |vec c e=>
  obtain⟨a,cap,rfl,h1,h2,h3⟩:=h
  refine⟨a,cap,rfl,h1,h2, ?_⟩
  rcases h3 with h3|⟨b,o,cells,fr,us,rfl,h4,h5,h6,h7⟩
  ·exact .inl h3
  ·by_cases hc:cap=0
   ·exact .inl hc
   ·refine .inr ⟨b,o,cells,fr,us,rfl,by rw[hb b rfl (by simp[ef,hc])];exact h4,h5,h6,fun i j hi hj=> ?_⟩
    obtain⟨h8,h9⟩:=h7 i j hi hj
    exact⟨h8,h9.step st.fI st.heap st.size⟩
theorem Good.val(hs:Sat ρ H G w){r:AV}{v:Value}(h:ab ρ H (aL ρ H G) w r v):Good ρ H G w H r v w:=
 ⟨ρ,hs,h,Step.refl _ _ _ _,rfl,rfl,rfl,fun _ _ _=>rfl⟩
theorem gw(hs:Sat ρ H G w){b:Nat}(h:Own ρ H b):b<w.heap.size:=by
 obtain⟨id,o,ho,ha,hb⟩:=h
 have dR:=hs.obj id o ho
 cases o with
 |dead=>simp[ae.alive]at ha
 |map ck m=>
  obtain⟨b',es,clock,h0,h1,_⟩:=dR
  rw[h0]at hb
  simp only[ef,Option.some.injEq]at hb
  subst hb
  exact(Array.getElem?_eq_some_iff.1 h1).1
 |wb ck m gid=>
  obtain⟨b',es,clock,h0,h1,_⟩:=dR
  rw[h0]at hb
  simp only[ef,Option.some.injEq]at hb
  subst hb
  exact(Array.getElem?_eq_some_iff.1 h1).1
 |iter mid gid ck left cur=>
  obtain⟨b',mb,es,clock,seen,h0,h1,_⟩:=dR
  rw[h0]at hb
  simp only[ef,Option.some.injEq]at hb
  subst hb
  exact(Array.getElem?_eq_some_iff.1 h1).1
 |own ak e=>
  obtain⟨b',cells,fr,h0,h1,_⟩:=dR
  rw[h0]at hb
  simp only[ef,Option.some.injEq]at hb
  subst hb
  exact(Array.getElem?_eq_some_iff.1 h1).1
 |vec c e=>
  obtain⟨a,cap,h0,h1,_,h3⟩:=dR
  rw[h0]at hb
  rcases h3 with rfl|⟨b',o,cells,fr,us,rfl,h4,_⟩
  ·cases a<;>simp[ef]at hb
  ·simp only[ef]at hb
   split at hb
   ·cases hb
   ·simp only[Option.some.injEq]at hb
    subst hb
    exact(Array.getElem?_eq_some_iff.1 h4).1
theorem yp(hs:Sat ρ H G w){b:Nat}(h:aL ρ H G b):b<w.heap.size:=h.elim (gw hs) (hs.low b)
theorem qS:∀(x:AV) (cs:List Value),aC ρ H O w x cs→cs.length=x.wide:=by
 intro x cs h
 cases x<;>unfold aC at h
 case ints k n ws=>obtain⟨h1,rfl⟩:=h;simp[AV.wide,h1]
 case agg=>exact h.elim
 case bp=>exact h.elim
 all_goals (obtain⟨u,rfl,_⟩:=h;rfl)
theorem ao{cs:List Value}:an ρ H O w [] cs↔cs=[]:=by unfold an;exact Iff.rfl
theorem af{a:AV}{aA:List AV}{cs:List Value}:an ρ H O w (a::aA) cs↔ ∃c1 c2,cs=c1++c2∧aC ρ H O w a c1∧an ρ H O w aA c2:=by
 rw[an]
theorem aU{cs:List Value}:bz ρ H O w [] cs↔cs=[]:=by unfold bz;exact Iff.rfl
theorem aw{a:AV}{aA:List AV}{cs:List Value}:bz ρ H O w (a::aA) cs↔ ∃v rest,cs=v::rest∧ab ρ H O w a v∧bz ρ H O w aA rest:=by
 rw[bz]
theorem fa{aA bs:List AV}:∀{cs:List Value},an ρ H O w (aA++bs) cs↔ ∃c1 c2,cs=c1++c2∧an ρ H O w aA c1∧an ρ H O w bs c2:=by
 induction aA with
 |nil=>
  intro cs
  simp only[List.nil_append,ao]
  exact⟨fun h=>⟨[],cs,rfl,rfl,h⟩,fun⟨c1,c2,h1,h2,h3⟩=>by subst h2;subst h1;exact h3⟩
 |cons a aA ih=>
  intro cs
  simp only[List.cons_append,af,ih]
  constructor
  ·rintro⟨c1,c2,rfl,h1,c3,c4,rfl,h2,h3⟩
   exact⟨c1++c3,c4,by simp,⟨c1,c3,rfl,h1,h2⟩,h3⟩
  ·rintro⟨c1,c2,rfl,⟨c3,c4,rfl,h1,h2⟩,h3⟩
   exact⟨c3,c4++c2,by simp,h1,c4,c2,rfl,h2,h3⟩
theorem iD:∀{aA:List AV} {cs:List Value},an ρ H O w aA cs→cs.length=fF aA
 |[],cs,h=>by rw[ao.1 h];rfl
 |a::aA,cs,h=>by
  obtain⟨c1,c2,rfl,h1,h2⟩:=af.1 h
  simp[fF,qS a c1 h1,iD h2]
theorem fb:∀(ak:List AV) (n:Nat) {cs:List Value} {ss:List AV},e8 ak n=some ss→an ρ H O w ak cs→n≤cs.length∧an ρ H O w ss (cs.drop n)
 |ak,0,cs,ss,h,hd=>by
  cases ak<;>(simp only[e8,Option.some.injEq]at h;subst h;exact⟨Nat.zero_le _,by simpa using hd⟩)
 |[],n+1,cs,ss,h,hd=>by simp[e8]at h
 |a::aA,n+1,cs,ss,h,hd=>by
  obtain⟨c1,c2,rfl,h1,h2⟩:=af.1 hd
  simp only[e8,Bool.cond_eq_ite]at h
  split at h
  ·rename_i hw
   have hw:=Nat.le_of_ble_eq_true hw
   obtain⟨h3,h4⟩:=fb aA _ h h2
   have hl:=qS a c1 h1
   refine⟨by simp;omega, ?_⟩
   rw[List.drop_append]
   have e1:c1.drop (n+1)=[]:=List.drop_eq_nil_of_le (by omega)
   rw[e1,List.nil_append,hl]
   exact h4
  ·cases h
theorem fc:∀(ak:List AV) (n:Nat) {cs:List Value} {ss:List AV},e9 ak n=some ss→an ρ H O w ak cs→n≤cs.length∧an ρ H O w ss (cs.take n)
 |ak,0,cs,ss,h,hd=>by
  cases ak<;>(simp only[e9,Option.some.injEq]at h;subst h;exact⟨Nat.zero_le _,by simp[ao]⟩)
 |[],n+1,cs,ss,h,hd=>by simp[e9]at h
 |a::aA,n+1,cs,ss,h,hd=>by
  obtain⟨c1,c2,rfl,h1,h2⟩:=af.1 hd
  simp only[e9,Bool.cond_eq_ite]at h
  split at h
  ·rename_i hw
   simp only[Bool.and_eq_true]at hw
   have hw1:=Nat.le_of_ble_eq_true hw.1
   have hw2:=Nat.le_of_ble_eq_true hw.2
   simp only[Option.map_eq_some_iff]at h
   obtain⟨ss',h3,rfl⟩:=h
   obtain⟨h4,h5⟩:=fc aA _ h3 h2
   have hl:=qS a c1 h1
   refine⟨by simp;omega,af.2 ⟨c1,c2.take (n+1 - a.wide), ?_,h1,h5⟩⟩
   rw[List.take_append,hl,List.take_of_length_le (by omega)]
  ·cases h
theorem fg{a:AV}{cs:List Value}(h:aC ρ H O w a cs)(ha:a.wide=1)(hi:∀k n ws,a≠.ints k n ws):∃u,cs=[u]∧u.oneCell'=true∧ab ρ H O w a u:=by
 cases a<;>unfold aC at h
 case ints k n ws=>exact(hi k n ws rfl).elim
 case agg=>exact h.elim
 case bp=>exact h.elim
 case ag id=>obtain⟨u,rfl,h1⟩:=h;exact⟨u,rfl,by unfold ay at h1;obtain⟨b,_,rfl,_⟩:=h1;rfl,by unfold ab;exact h1⟩
 case tag id=>obtain⟨u,rfl,h1⟩:=h;exact⟨u,rfl,by unfold ay at h1;exact h1.2.1,by unfold ab;exact h1⟩
 case s x=>obtain⟨u,rfl,h1⟩:=h;exact⟨u,rfl,h1.one,au h1⟩
 case ptr id off=>obtain⟨u,rfl,h1⟩:=h;exact⟨u,rfl,by unfold ay at h1;obtain⟨b,_,rfl,_⟩:=h1;rfl,by unfold ab;exact h1⟩
 case jH id off n i=>obtain⟨u,rfl,h1⟩:=h;exact⟨u,rfl,by unfold ay at h1;obtain⟨_,b,_,rfl,_⟩:=h1;rfl,by unfold ab;exact h1⟩
 case jm c m j=>obtain⟨u,rfl,h1⟩:=h;exact⟨u,rfl,by unfold ay at h1;obtain⟨b,o,us,rfl,_⟩:=h1;rfl,by unfold ab;exact h1⟩
 case vec id=>obtain⟨u,rfl,h1⟩:=h;exact⟨u,rfl,by unfold ay at h1;exact h1.1,by unfold ab;exact h1⟩
 case fW id i j=>obtain⟨u,rfl,h1⟩:=h;exact⟨u,rfl,by unfold ay at h1;exact h1.1,by unfold ab;exact h1⟩
 case part id lo n=>obtain⟨u,rfl,h1⟩:=h;exact⟨u,rfl,by unfold ay at h1;exact h1.1,by unfold ab;exact h1⟩
 case sub id off n=>obtain⟨u,rfl,h1⟩:=h;exact⟨u,rfl,by unfold ay at h1;exact h1.1,by unfold ab;exact h1⟩
 case kb id i j n=>obtain⟨u,rfl,h1⟩:=h;exact⟨u,rfl,by unfold ay at h1;exact h1.1,by unfold ab;exact h1⟩
 case emp=>obtain⟨u,rfl,a,rfl⟩:=h;exact⟨_,rfl,rfl,by unfold ab;exact⟨a,rfl⟩⟩
 case fn f ei=>obtain⟨u,rfl,vs,rfl,h1⟩:=h;exact⟨_,rfl,rfl,by unfold ab;exact⟨vs,rfl,h1⟩⟩
theorem jJ{a:AV}{u:Value}(ha:a.single=true)(h:ab ρ H O w a u):aC ρ H O w a [u]∧u.oneCell'=true:=by
 cases a<;>simp only[AV.single,reduceCtorEq]at ha
 case s x=>
  have h1:aK O w x u:=ah (by rintro rfl;simp at ha) h
  exact⟨by unfold aC;exact⟨u,rfl,h1⟩,h1.one⟩
 case ptr id off=>unfold ab at h;exact⟨by unfold aC;exact⟨u,rfl,h⟩,by unfold ay at h;obtain⟨b,_,rfl,_⟩:=h;rfl⟩
 case jH id off n i=>unfold ab at h;exact⟨by unfold aC;exact⟨u,rfl,h⟩,by unfold ay at h;obtain⟨_,b,_,rfl,_⟩:=h;rfl⟩
 case jm c m j=>unfold ab at h;exact⟨by unfold aC;exact⟨u,rfl,h⟩,by unfold ay at h;obtain⟨b,o,us,rfl,_⟩:=h;rfl⟩
 case vec id=>unfold ab at h;exact⟨by unfold aC;exact⟨u,rfl,h⟩,by unfold ay at h;exact h.1⟩
 case fW id i j=>unfold ab at h;exact⟨by unfold aC;exact⟨u,rfl,h⟩,by unfold ay at h;exact h.1⟩
 case part id lo n=>unfold ab at h;exact⟨by unfold aC;exact⟨u,rfl,h⟩,by unfold ay at h;exact h.1⟩
 case sub id off n=>unfold ab at h;exact⟨by unfold aC;exact⟨u,rfl,h⟩,by unfold ay at h;exact h.1⟩
 case kb id i j n=>unfold ab at h;exact⟨by unfold aC;exact⟨u,rfl,h⟩,by unfold ay at h;exact h.1⟩
 case emp=>unfold ab at h;exact⟨by unfold aC;exact⟨u,rfl,h⟩,by obtain⟨a,rfl⟩:=h;rfl⟩
 case fn f ei=>unfold ab at h;exact⟨by unfold aC;exact⟨u,rfl,h⟩,by obtain⟨vs,rfl,_⟩:=h;rfl⟩
 case ag id=>unfold ab at h;exact⟨by unfold aC;exact⟨u,rfl,h⟩,by unfold ay at h;obtain⟨b,_,rfl,_⟩:=h;rfl⟩
 case tag id=>unfold ab at h;exact⟨by unfold aC;exact⟨u,rfl,h⟩,by unfold ay at h;exact h.2.1⟩
theorem fX{a:AV}(h:∀k n ws,a≠.ints k n ws):a.wide=1:=by
 cases a<;>first|rfl|(exact(h _ _ _ rfl).elim)
end
end Go.Sx
namespace Go.Sx
open Go
section
variable{ρ az:Nat→Value}{H H':aG}{G O O':Nat→Prop}{w w':World}{P:Program}
theorem yq{a:AV}(h:∀k n ws,a≠.ints k n ws)(aA:List AV)(off:Nat):cellAt (a::aA) off=match off with|0=>some a|m+1=>cellAt aA m:=by
 cases a<;>first|(cases off<;>rfl)|(exact(h _ _ _ rfl).elim)
theorem sH{a:AV}(h:∀k n ws,a≠.ints k n ws)(aA:List AV)(off:Nat)(v:AV):gb (a::aA) off v=match off with|0=>some (v::aA)|m+1=>(gb aA m v).map (a:: ·):=by
 cases a<;>first|(cases off<;>rfl)|(exact(h _ _ _ rfl).elim)
theorem pG{a:AV}(h:∀k n ws,a≠.ints k n ws)(aA:List AV)(off:Nat):iT (a::aA) off=match off with|0=>none|m+1=>iT aA m:=by
 cases a<;>first|(cases off<;>rfl)|(exact(h _ _ _ rfl).elim)
theorem tH{a:AV}(h:∀k n ws,a≠.ints k n ws)(aA:List AV)(off:Nat)(v:List Int):jI (a::aA) off v=match off with|0=>none|m+1=>(jI aA m v).map (a:: ·):=by
 cases a<;>first|(cases off<;>rfl)|(exact(h _ _ _ rfl).elim)
theorem qT(a:AV):(∃k n ws,a=.ints k n ws)∨∀k n ws,a≠.ints k n ws:=by
 cases a<;>first|(exact .inl ⟨_,_,_,rfl⟩)|(exact .inr (by simp))
theorem cF{k:IntKind}{n:Nat}{ws:List Int}{cs:List Value}:aC ρ H O w (.ints k n ws) cs↔ws.length=n∧cs=ws.map (Value.int k):=by
 unfold aC;exact Iff.rfl
theorem kN:∀(ak:List AV) (off:Nat) {cs:List Value} {v:AV},cellAt ak off=some v→an ρ H O w ak cs→∃u,cs[off]? =some u∧u.oneCell'=true∧ab ρ H O w v u
 |[],off,cs,v,h,_=>by simp[cellAt]at h
 |a::aA,off,cs,v,h,hd=>by
  obtain⟨c1,c2,rfl,h1,h2⟩:=af.1 hd
  rcases qT a with⟨k,n,ws,rfl⟩|ha
  ·obtain⟨hl,rfl⟩:=cF.1 h1
   simp only[cellAt,Bool.cond_eq_ite]at h
   split at h
   ·rename_i bd
    have bd:off<n:=by simpa[Nat.blt,Nat.lt_iff_add_one_le]using bd
    simp only[Option.some.injEq]at h
    subst h
    have hx:off<ws.length:=by omega
    exact⟨.int k ws[off],by rw[List.getElem?_append_left (by simpa using hx)];simp[hx],rfl,by rw[show ws.getD off 0=ws[off]from by simp[List.getD,hx]];exact au (.int _ _)⟩
   ·rename_i bd
    have bd:¬off<n:=by simpa[Nat.blt,Nat.lt_iff_add_one_le]using bd
    obtain⟨u,h3,h4⟩:=kN aA (off - n) h h2
    exact⟨u,by rw[List.getElem?_append_right (by simp;omega)];simpa[hl]using h3,h4⟩
  ·rw[yq ha]at h
   obtain⟨u,rfl,h3,h4⟩:=fg h1 (fX ha) ha
   cases off with
   |zero=>simp only[Option.some.injEq]at h;subst h;exact⟨u,rfl,h3,h4⟩
   |succ m=>
    obtain⟨u',h5,h6⟩:=kN aA m h h2
    exact⟨u',by simpa using h5,h6⟩
theorem lS:∀(ak:List AV) (off:Nat) {cs:List Value} {v:AV} {u:Value} {eu:List AV},gb ak off v=some eu→an ρ H O w ak cs→v.single=true→ab ρ H O w v u→
 off<cs.length∧an ρ H O w eu (cs.set off u)
 |[],off,cs,v,u,eu,h,_,_,_=>by simp[gb]at h
 |a::aA,off,cs,v,u,eu,h,hd,hv,hu=>by
  obtain⟨c1,c2,rfl,h1,h2⟩:=af.1 hd
  rcases qT a with⟨k,n,ws,rfl⟩|ha
  ·obtain⟨hl,rfl⟩:=cF.1 h1
   simp only[gb,Bool.cond_eq_ite]at h
   split at h
   ·rename_i bd
    have bd:off<n:=by simpa[Nat.blt,Nat.lt_iff_add_one_le]using bd
    split at h
    ·rename_i k' l x hx
     split at h
     ·rename_i hk
      obtain rfl:=aY hk
      simp only[Option.some.injEq]at h
      subst h
      obtain rfl:=bL hx hu
      refine⟨by simp;omega,af.2 ⟨(ws.set off x).map (Value.int k),c2, ?_,cF.2 ⟨by simp[hl],rfl⟩,h2⟩⟩
      rw[List.set_append_left _ _ (by simp;omega),List.map_set]
     ·cases h
    ·cases h
   ·rename_i bd
    have bd:¬off<n:=by simpa[Nat.blt,Nat.lt_iff_add_one_le]using bd
    simp only[Option.map_eq_some_iff]at h
    obtain⟨ss,h3,rfl⟩:=h
    obtain⟨h4,h5⟩:=lS aA (off - n) h3 h2 hv hu
    refine⟨by simp;omega,af.2 ⟨_,c2.set (off - n) u, ?_,cF.2 ⟨hl,rfl⟩,h5⟩⟩
    rw[List.set_append_right _ _ (by simp;omega)]
    simp[hl]
  ·rw[sH ha]at h
   obtain⟨u0,rfl,h3,h4⟩:=fg h1 (fX ha) ha
   cases off with
   |zero=>
    simp only[Option.some.injEq]at h
    subst h
    exact⟨by simp,af.2 ⟨[u],c2,rfl,(jJ hv hu).1,h2⟩⟩
   |succ m=>
    simp only[Option.map_eq_some_iff]at h
    obtain⟨ss,h5,rfl⟩:=h
    obtain⟨h6,h7⟩:=lS aA m h5 h2 hv hu
    exact⟨by simp;omega,af.2 ⟨[u0],c2.set m u,rfl,h1,h7⟩⟩
theorem nC:∀(ak:List AV) (off:Nat) {cs:List Value} {k:IntKind} {n:Nat} {ws:List Int},iT ak off=some (k,n,ws)→an ρ H O w ak cs→
 ws.length=n∧∃pre post,cs=pre++ws.map (Value.int k)++post∧pre.length=off
 |[],off,cs,k,n,ws,h,_=>by simp[iT]at h
 |a::aA,off,cs,k,n,ws,h,hd=>by
  obtain⟨c1,c2,rfl,h1,h2⟩:=af.1 hd
  rcases qT a with⟨k',n',ml,rfl⟩|ha
  ·obtain⟨hl,rfl⟩:=cF.1 h1
   simp only[iT,Bool.cond_eq_ite]at h
   split at h
   ·rename_i h0
    have h0:off=0:=by simpa using h0
    subst h0
    simp only[Option.some.injEq,Prod.mk.injEq]at h
    obtain⟨rfl,rfl,rfl⟩:=h
    exact⟨hl,[],c2,by simp,rfl⟩
   ·split at h
    ·cases h
    ·rename_i bd
     have bd:¬off<n':=by simpa[Nat.blt,Nat.lt_iff_add_one_le]using bd
     obtain⟨h3,pre,post,rfl,h4⟩:=nC aA (off - n') h h2
     exact⟨h3,ml.map (Value.int k')++pre,post,by simp,by simp;omega⟩
  ·rw[pG ha]at h
   obtain⟨u0,rfl,h3,h4⟩:=fg h1 (fX ha) ha
   cases off with
   |zero=>cases h
   |succ m=>
    obtain⟨h3,pre,post,rfl,h4⟩:=nC aA m h h2
    exact⟨h3,u0::pre,post,by simp,by simp[h4]⟩
theorem mG:∀(ak:List AV) (off:Nat) {pre post:List Value} {k:IntKind} {n:Nat} {ws ml:List Int} {eu:List AV},iT ak off=some (k,n,ws)→jI ak off ml=some eu→ml.length=ws.length→
 an ρ H O w ak (pre++ws.map (Value.int k)++post)→pre.length=off→an ρ H O w eu (pre++ml.map (Value.int k)++post)
 |[],off,_,_,k,n,ws,_,_,h,_,_,_,_=>by simp[iT]at h
 |a::aA,off,pre,post,k,n,ws,ml,eu,h,hs,hlen,hd,hp=>by
  obtain⟨c1,c2,hc,h1,h2⟩:=af.1 hd
  rcases qT a with⟨k',n',ws1,rfl⟩|ha
  ·obtain⟨hl,rfl⟩:=cF.1 h1
   simp only[iT,jI,Bool.cond_eq_ite]at h hs
   split at h
   ·rename_i h0
    have h0':off=0:=by simpa using h0
    subst h0'
    simp only[Option.some.injEq,Prod.mk.injEq]at h
    obtain⟨rfl,rfl,rfl⟩:=h
    rw[if_pos h0]at hs
    simp only[Option.some.injEq]at hs
    subst hs
    obtain rfl:pre=[]:=List.eq_nil_of_length_eq_zero hp
    simp only[List.nil_append]at hc ⊢
    have:=List.append_cancel_left hc
    subst this
    exact af.2 ⟨_,post,rfl,cF.2 ⟨by omega,rfl⟩,h2⟩
   ·rename_i h0
    rw[if_neg h0]at hs
    split at h
    ·cases h
    ·rename_i bd
     rw[if_neg bd]at hs
     have bd:¬off<n':=by simpa[Nat.blt,Nat.lt_iff_add_one_le]using bd
     simp only[Option.map_eq_some_iff]at hs
     obtain⟨ss,h3,rfl⟩:=hs
     have hpl:(ws1.map (Value.int k')).length≤pre.length:=by simp;omega
     obtain⟨akF,rfl⟩:∃akF,pre=ws1.map (Value.int k')++akF:=by
      rw[List.append_assoc]at hc
      obtain⟨x,hx⟩:=List.prefix_of_prefix_length_le (⟨_,rfl⟩:ws1.map (Value.int k')<+:ws1.map (Value.int k')++c2) (⟨_,hc⟩:pre<+:_) hpl
      exact⟨x,hx.symm⟩
     simp only[List.append_assoc]at hc ⊢
     have hc':=List.append_cancel_left hc
     subst hc'
     have w4:akF.length=off - n':=by simp at hp;omega
     exact af.2 ⟨_,_,rfl,h1,by simpa using mG aA (off - n') h h3 hlen (by simpa using h2) w4⟩
  ·rw[pG ha]at h
   rw[tH ha]at hs
   obtain⟨u0,rfl,h3,h4⟩:=fg h1 (fX ha) ha
   cases off with
   |zero=>cases h
   |succ m=>
    simp only[Option.map_eq_some_iff]at hs
    obtain⟨ss,h5,rfl⟩:=hs
    cases pre with
    |nil=>simp at hp
    |cons p akF=>
     simp only[List.cons_append,List.cons.injEq,List.nil_append]at hc
     obtain⟨rfl,hc'⟩:=hc
     simp only[List.length_cons,Nat.add_right_cancel_iff]at hp
     rw[←hc']at h2
     exact af.2 ⟨[p],_,rfl,h1,by simpa using mG aA m h h5 hlen (by simpa using h2) hp⟩
theorem afG{ak je eu:List AV}{off:Nat}{cs vs:List Value}(h:aci ak off je=some eu)(hd:an ρ H O w ak cs)(hb:an ρ H O w je vs):
 off+vs.length≤cs.length∧an ρ H O w eu (cs.take off++vs++cs.drop (off+vs.length)):=by
 unfold aci at h
 split at h
 ·rename_i k n ws x
  split at h
  ·rename_i k' li z hx
   rw[Bool.cond_eq_ite]at h
   split at h
   ·rename_i hc
    simp only[Bool.and_eq_true]at hc
    obtain⟨hk,bd⟩:=hc
    have bd:off<n:=Nat.lt_of_lt_of_le (Nat.lt_succ_self _) (Nat.le_of_ble_eq_true bd)
    obtain rfl:=aY hk
    simp only[Option.some.injEq]at h
    subst h
    obtain⟨c1,c2,rfl,h1,h2⟩:=af.1 hd
    obtain rfl:=ao.1 h2
    obtain⟨hl,rfl⟩:=cF.1 h1
    obtain⟨d1,d2,rfl,h3,h4⟩:=af.1 hb
    obtain rfl:=ao.1 h4
    have hv:d1=[.int k z]:=by
     cases x with
     |s y=>
      unfold aC at h3
      obtain⟨u,rfl,h5⟩:=h3
      cases y<;>simp only[AV.dk,Option.some.injEq,Prod.mk.injEq,reduceCtorEq]at hx
      all_goals
       obtain⟨rfl,_,rfl⟩:=hx
       cases h5
       rfl
     |_=>simp only[AV.dk,reduceCtorEq]at hx
    subst hv
    simp only[List.append_nil,List.length_map,List.length_singleton]
    refine⟨by omega,af.2 ⟨_,[],(List.append_nil _).symm,cF.2 ⟨by rw[List.length_set];exact hl, ?_⟩,ao.2 rfl⟩⟩
    rw[List.map_set,List.set_eq_take_append_cons_drop,if_pos (by rw[List.length_map];omega),List.append_assoc]
    rfl
   ·cases h
  ·cases h
 ·cases h
theorem tI{ak je eu:List AV}{off:Nat}{cs vs:List Value}(h:sW ak off je=some eu)(hd:an ρ H O w ak cs)(hb:an ρ H O w je vs):
 off+vs.length≤cs.length∧an ρ H O w eu (cs.take off++vs++cs.drop (off+vs.length)):=by
 unfold sW at h
 split at h
 ·rename_i r hr
  simp only[Option.some.injEq]at h
  subst h
  exact afG hr hd hb
 split at h
 ·rename_i pre post h1 h2
  simp only[Option.some.injEq]at h
  subst h
  have hl:=iD hb
  rw[←hl]at h2
  obtain⟨h3,h4⟩:=fc _ _ h1 hd
  obtain⟨h5,h6⟩:=fb _ _ h2 hd
  exact⟨h5,fa.2 ⟨_,_,rfl,fa.2 ⟨_,_,rfl,h4,hb⟩,h6⟩⟩
 ·cases h
theorem tJ(ak:List AV){cs:List Value}(h:an ρ H O w ak cs):∀v∈cs,v.oneCell'=true:=by
 induction ak generalizing cs with
 |nil=>rw[ao.1 h];simp
 |cons a aA ih=>
  obtain⟨c1,c2,rfl,h1,h2⟩:=af.1 h
  intro v hv
  rcases List.mem_append.1 hv with hv|hv
  ·rcases qT a with⟨k,n,ws,rfl⟩|ha
   ·obtain⟨hl,rfl⟩:=cF.1 h1
    obtain⟨x,_,rfl⟩:=List.mem_map.1 hv
    rfl
   ·obtain⟨u,rfl,h3,_⟩:=fg h1 (fX ha) ha
    simp only[List.mem_singleton]at hv
    subst hv
    exact h3
  ·exact ih h2 v hv
theorem pH{x:AV}{v:Value}{ak:List AV}(h:x.jd =some ak)(hd:ab ρ H O w x v):an ρ H O w ak v.cells.toList:=by
 have one:∀a,a.single=true→ab ρ H O w a v→an ρ H O w [a] v.cells.toList:=by
  intro a ha hv
  obtain⟨h1,h2⟩:=jJ ha hv
  have:v.cells.toList=[v]:=by cases v<;>first|rfl|(simp[Value.oneCell']at h2)
  rw[this]
  exact af.2 ⟨[v],[],rfl,h1,ao.2 rfl⟩
 cases x with
 |agg ss=>
  simp only[AV.jd,Option.some.injEq]at h
  subst h
  unfold ab at hd
  obtain⟨cs,rfl,h1⟩:=hd
  simpa[Value.cells]using h1
 |ints k n ws=>
  simp only[AV.jd,Option.some.injEq]at h
  subst h
  unfold ab at hd
  obtain⟨hl,rfl⟩:=hd
  exact af.2 ⟨ws.map (Value.int k),[],by simp[Value.cells],cF.2 ⟨hl,rfl⟩,ao.2 rfl⟩
 |bp _=>simp[AV.jd]at h
 |s x=>cases x<;>simp only[AV.jd,Option.some.injEq,reduceCtorEq]at h<;>subst h<;>exact one _ rfl hd
 |_=>simp only[AV.jd,Option.some.injEq]at h;subst h;exact one _ rfl hd
theorem kO{ak:List AV}{cs:List Value}(h:an ρ H O w ak cs):ab ρ H O w (.kB ak) (.agg cs.toArray):=by
 unfold AV.kB
 split
 ·obtain⟨c1,c2,rfl,h1,h2⟩:=af.1 h
  obtain rfl:=ao.1 h2
  obtain⟨hl,rfl⟩:=cF.1 h1
  unfold ab
  exact⟨hl,by simp⟩
 ·unfold ab
  exact⟨cs,rfl,h⟩
end
end Go.Sx
namespace Go.Sx
open Go
def World.b8(w:World)(b:Nat)(o:Obj):World:={w with heap:=w.heap.setIfInBounds b o}
theorem acB{w:World}{b:Nat}{cells:Array Value}{e:TypeId}{fr:Nat×Nat}(hb:w.heap[b]? =some (.cells cells e fr))(hu:unm fr cells.size){off:Nat}(ho:off<cells.size):
 w.frozen? ⟨b,off,none⟩=false:=by
 have:=hu off ho
 simp only[World.frozen?,hb,Bool.and_eq_false_imp,decide_eq_true_eq,decide_eq_false_iff_not]
 intro h1 h2
 exact this ⟨h1,h2⟩
theorem zZ{w:World}{b:Nat}{cells:Array Value}{e:TypeId}{fr:Nat×Nat}(hb:w.heap[b]? =some (.cells cells e fr))(off:Nat)(v:Value):
 w.setCell ⟨b,off,none⟩ v=World.b8 w b (.cells (cells.setIfInBounds off v) e fr):=by
 simp only[World.setCell,World.b8]
 congr 1
 apply Array.ext_getElem?
 intro i
 rw[Array.getElem?_modify,Array.getElem?_setIfInBounds]
 by_cases h:b=i
 ·subst h
  obtain⟨bd,tK⟩:=Array.getElem?_eq_some_iff.1 hb
  simp[tK,bd]
 ·simp[h]
theorem eG{w:World}{b:Nat}{o o':Obj}(hb:w.heap[b]? =some o):(World.b8 w b o').heap[b]? =some o':=by
 have bd:b<w.heap.size:=(Array.getElem?_eq_some_iff.1 hb).1
 simp[World.b8,bd]
theorem hU{w:World}{b i:Nat}{o:Obj}(h:i≠b):(World.b8 w b o).heap[i]? =w.heap[i]? :=by
 simp only[World.b8]
 rw[Array.getElem?_setIfInBounds_ne (by omega)]
theorem iE{w:World}{b:Nat}{o:Obj}:(World.b8 w b o).heap.size=w.heap.size:=by simp[World.b8]
theorem we{w:World}{b:Nat}{o o':Obj}:World.b8 (World.b8 w b o) b o'=World.b8 w b o':=by
 simp only[World.b8]
 congr 1
 apply Array.ext_getElem?
 intro i
 by_cases h:b=i
 ·subst h;simp[Array.getElem?_setIfInBounds]
 ·simp[h]
theorem rQ{w:World}{b:Nat}{o:Obj}(hb:w.heap[b]? =some o):World.b8 w b o=w:=by
 have:w.heap.setIfInBounds b o=w.heap:=by
  apply Array.ext_getElem?
  intro i
  by_cases h:b=i
  ·subst h
   obtain⟨bd,tK⟩:=Array.getElem?_eq_some_iff.1 hb
   simp[tK,bd]
  ·rw[Array.getElem?_setIfInBounds_ne (by omega)]
 simp only[World.b8,this]
theorem wg{P:Program}{w:World}{b:Nat}{cells:List Value}{e:TypeId}{fr:Nat×Nat}(hb:w.heap[b]? =some (.cells cells.toArray e fr))(hu:unm fr cells.length){off:Nat}(ho:off<cells.length)
 {v:Value} (hv:v.oneCell'=true):(store ⟨b,off,none⟩ v).run P w=.ok () (World.b8 w b (.cells (cells.set off v).toArray e fr)):=by
 rw[run_store P w _ v _ hv]
 have hc:w.cell? ⟨b,off,none⟩=some cells[off]:=by simp[World.cell?,hb,ho]
 have hf:=acB hb (by simpa using hu) (off:=off) (by simpa using ho)
 simp only[hc,hf,Bool.false_eq_true,if_false,zZ hb,List.setIfInBounds_toArray]
theorem aS(b off i:Nat):(⟨b,off,none⟩:Addr).add i=⟨b,off+i,none⟩:=by
 unfold Addr.add
 split
 ·rename_i h;subst h;rfl
 ·rfl
theorem bH{P:Program}{b:Nat}{e:TypeId}{fr:Nat×Nat}(off:Nat):∀(vs:List Value) (i:Nat) {w:World} {cells:List Value},w.heap[b]? =some (.cells cells.toArray e fr)→unm fr cells.length→
 off+i+vs.length≤cells.length→(∀v∈vs,v.oneCell'=true)→
 (storeCells ⟨b,off,none⟩ vs i).run P w=.ok () (World.b8 w b (.cells (cells.take (off+i)++vs++cells.drop (off+i+vs.length)).toArray e fr))
 |[],i,w,cells,hb,hu,hl,hv=>by
  simp only[storeCells,Sem.run_pure,List.length_nil,Nat.add_zero,List.append_nil,List.take_append_drop]
  rw[rQ hb]
 |v::vs,i,w,cells,hb,hu,hl,hv=>by
  simp only[List.length_cons]at hl
  have bd:off+i<cells.length:=by omega
  simp only[storeCells,Sem.run_bind,aS,wg hb hu bd (hv v (by simp)),Result.andThen_ok]
  rw[bH off vs (i+1) (eG hb) (by simpa using hu) (by simp;omega) (fun x hx=>hv x (by simp[hx])),we]
  congr 4
  rw[←Nat.add_assoc,List.take_set,List.drop_set_of_lt (by omega)]
  have e1:(cells.take (off+i+1)).set (off+i) v=cells.take (off+i)++[v]:=by
   rw[List.take_succ_eq_append_getElem bd]
   rw[List.set_append_right _ _ (by simp;omega)]
   simp[Nat.min_eq_left (Nat.le_of_lt bd)]
  rw[e1]
  simp only[List.append_assoc,List.length_cons,List.cons_append,List.nil_append]
  rw[show off+i+1+vs.length=off+i+(vs.length+1)from by omega]
theorem kP{w:World}{o:Obj}:(w.alloc o).heap[w.heap.size]? =some o:=by
 show(w.heap.push o)[w.heap.size]? =_
 simp
theorem alloc_old{w:World}{o:Obj}{i:Nat}(h:i<w.heap.size):(w.alloc o).heap[i]? =w.heap[i]? :=by
 show(w.heap.push o)[i]? =_
 rw[Array.getElem?_push,if_neg (by omega)]
theorem fh{w:World}{o:Obj}:(w.alloc o).heap.size=w.heap.size+1:=by
 show(w.heap.push o).size=_
 simp
section
variable{ρ az:Nat→Value}{H H':aG}{G O O':Nat→Prop}{w w':World}{P:Program}
def aB(H:aG)(id:Nat)(o:ae):aG:=fun j=>if j=id then some o else H j
theorem yr{id:Nat}{o o':ae}(ho:H id=some o)(ha:o.alive=o'.alive)(b:Nat):Own ρ (aB H id o') b↔Own ρ H b:=by
 constructor
 ·rintro⟨j,x,hx,h1,h2⟩
  unfold aB at hx
  split at hx
  ·rename_i hj
   subst hj
   simp only[Option.some.injEq]at hx
   subst hx
   exact⟨j,o,ho,ha.trans h1,h2⟩
  ·exact⟨j,x,hx,h1,h2⟩
 ·rintro⟨j,x,hx,h1,h2⟩
  by_cases hj:j=id
  ·subst hj
   rw[ho]at hx
   cases hx
   exact⟨j,o',by simp[aB],ha.symm.trans h1,h2⟩
  ·exact⟨j,x,by simp[aB,hj,hx],h1,h2⟩
theorem yt{id:Nat}{o o':ae}(ho:H id=some o)(ha:o.alive=o'.alive):aL ρ (aB H id o') G=aL ρ H G:=by
 funext b
 exact propext (or_congr_left (yr ho ha b))
theorem Good.write(hs:Sat ρ H G w){id:Nat}{o o':ae}(ho:H id=some o)(ha:o.alive=true)(ha':o'.alive=true){b:Nat}(hb:ef (ρ id)=some b)
 (qU:∀c' e',o'=.vec c' e'→∃c e,o=.vec c e∧c'.n=c.n∧c'.size=c.size)
 {qV:Obj} {r:AV} {v:Value}
 (dR:hP ρ (aB H id o') (aL ρ H G) (World.b8 w b qV) (ρ id) o')
 (hr:ab ρ (aB H id o') (aL ρ H G) (World.b8 w b qV) r v):
 Good ρ H G w (aB H id o') r v (World.b8 w b qV):=by
 have hh:=yt (ρ:=ρ) (G:=G) ho (ha.trans ha'.symm)
 have dD:Own ρ H b:=⟨id,o,ho,ha,hb⟩
 have st:Step ρ H (aL ρ H G) w ρ (aB H id o') (aL ρ (aB H id o') G) (World.b8 w b qV):=by
  refine⟨fun _ _ _=>rfl,fun j x hx=> ?_,fun c hc=>.inl (by rw[hh]at hc;exact hc),fun c hc hO=> ?_,by rw[iE];exact Nat.le_refl _⟩
  ·by_cases hj:j=id
   ·subst hj
    rw[ho]at hx
    cases hx
    exact⟨o',by simp[aB],qU⟩
   ·exact⟨x,by simp[aB,hj,hx],fun c' e' hc=>⟨c',e',hc,rfl,rfl⟩⟩
  ·exact hU (fun e=>hO (.inl (by subst e;exact dD)))
 refine⟨ρ,⟨fun j x hx=> ?_,fun i j oi oj c h1 h2 h3 h4 h5 h6=> ?_,fun c hc=> ?_,fun c hc=> ?_⟩,by rw[hh];exact hr,st,⟨rfl,rfl,rfl,fun c hc hO=>hU (fun e=>hO (by subst e;exact dD))⟩⟩
 ·by_cases hj:j=id
  ·subst hj
   simp only[aB,if_true,Option.some.injEq]at hx
   subst hx
   rw[hh]
   exact dR
  ·have w5:H j=some x:=by simpa[aB,hj]using hx
   refine(hs.obj j x w5).step st (fun c tL hc=>hU (fun e=>hj ?_))
   subst e
   exact hs.inj j id x o c w5 ho tL ha hc hb
 ·have f:∀i oi,aB H id o' i=some oi→oi.alive=true→∃x,H i=some x∧x.alive=true:=by
   intro i oi hi tL
   by_cases eF:i=id
   ·subst eF;exact⟨o,ho,ha⟩
   ·exact⟨oi,by simpa[aB,eF]using hi,tL⟩
  obtain⟨x,hx,hxa⟩:=f i oi h1 h3
  obtain⟨y,hy,hya⟩:=f j oj h2 h4
  exact hs.inj i j x y c hx hy hxa hya h5 h6
 ·exact hs.apart c ((yr ho (ha.trans ha'.symm) c).1 hc)
 ·rw[iE];exact hs.low c hc
theorem Good.fresh(hs:Sat ρ H G w){n:Nat}(hn:H n=none){o:ae}{obj:Obj}{root:Value}{r:AV}{v:Value}
 {w1:World} (hw:w1.heap=w.heap) (ht:w1.tape=w.tape) (hos:w1.os=w.os) (n6:w1.output=w.output)
 (dM:∀b,ef root=some b→b=w.heap.size)
 (dR:hP (fun j=>if j=n then root else ρ j) (aB H n o) (aL (fun j=>if j=n then root else ρ j) (aB H n o) G) (w1.alloc obj) root o)
 (hr:ab (fun j=>if j=n then root else ρ j) (aB H n o) (aL (fun j=>if j=n then root else ρ j) (aB H n o) G) (w1.alloc obj) r v):
 Good ρ H G w (aB H n o) r v (w1.alloc obj):=by
 have bI:(w1.alloc obj).heap.size=w.heap.size+1:=by rw[fh,hw]
 have hold:∀i,i<w.heap.size→(w1.alloc obj).heap[i]? =w.heap[i]? :=fun i hi=>by rw[alloc_old (by rw[hw];exact hi),hw]
 have ne:∀j x,H j=some x→j≠n:=fun j x hx e=>by subst e;rw[hn]at hx;cases hx
 have pI:∀b,Own (fun j=>if j=n then root else ρ j) (aB H n o) b→Own ρ H b∨b=w.heap.size:=by
  rintro b ⟨j,x,hx,h1,h2⟩
  by_cases hj:j=n
  ·subst hj;simp only[if_true]at h2;exact .inr (dM b h2)
  ·simp only[aB,hj,if_false]at hx h2
   exact .inl ⟨j,x,hx,h1,h2⟩
 have st:Step ρ H (aL ρ H G) w (fun j=>if j=n then root else ρ j) (aB H n o) (aL (fun j=>if j=n then root else ρ j) (aB H n o) G) (w1.alloc obj):=by
  refine⟨fun j x hx=>by simp[ne j x hx],fun j x hx=>⟨x,by simp[aB,ne j x hx,hx],fun c' e' hc=>⟨c',e',hc,rfl,rfl⟩⟩,fun b hb=> ?_,fun b hb _=>hold b hb,by omega⟩
  rcases hb with hb|hb
  ·rcases pI b hb with h1|h1
   ·exact .inl (.inl h1)
   ·exact .inr (by omega)
  ·exact .inl (.inr hb)
 refine⟨_,⟨fun j x hx=> ?_,fun i j oi oj b h1 h2 h3 h4 h5 h6=> ?_,fun b hb=> ?_,fun b hb=> ?_⟩,hr,st,⟨hos,ht,n6,fun b hb _=>hold b hb⟩⟩
 ·by_cases hj:j=n
  ·subst hj
   simp only[aB,if_true,Option.some.injEq]at hx
   subst hx
   simp only[if_true]
   exact dR
  ·have w5:H j=some x:=by simpa[aB,hj]using hx
   simp only[hj,if_false]
   exact(hs.obj j x w5).step st (fun b tL hb=>hold b (gw hs ⟨j,x,w5,tL,hb⟩))
 ·by_cases hi:i=n<;>by_cases hj:j=n
  ·rw[hi,hj]
  ·simp only[aB,hi,hj,if_true,if_false]at h1 h2 h5 h6
   have e:=dM b h5
   have:=gw hs ⟨j,oj,h2,h4,h6⟩
   omega
  ·simp only[aB,hi,hj,if_true,if_false]at h1 h2 h5 h6
   have e:=dM b h6
   have:=gw hs ⟨i,oi,h1,h3,h5⟩
   omega
  ·simp only[aB,hi,hj,if_false]at h1 h2 h5 h6
   exact hs.inj i j oi oj b h1 h2 h3 h4 h5 h6
 ·rcases pI b hb with h1|h1
  ·exact hs.apart b h1
  ·intro hg
   have:=hs.low b hg
   omega
 ·have:=hs.low b hb
  omega
end
end Go.Sx
namespace Go.Sx
open Go
def eK(P:Program)(ρ:Nat→Value)(H:aG)(O:Nat→Prop)(w:World)(q:bx)(s:Sem Value):Prop:=
 q.up=[]∧q.new=[]∧∃v,s.run P w=.ok v w∧∀base,ab ρ H O w (q.r base) v
section
variable{ρ az:Nat→Value}{H H':aG}{G O O':Nat→Prop}{w w':World}{P:Program}
theorem ax{need:List Prop}{r:AV}{q:bx}{s:Sem Value}(h:(plain need r).eval H=some q)(f:bt need→∃v,s.run P w=.ok v w∧ab ρ H O w r v)(hn:bt q.need):eK P ρ H O w q s:=by
 simp only[plain,RM.eval,Option.some.injEq]at h
 subst h
 obtain⟨v,h1,h2⟩:=f hn
 exact⟨rfl,rfl,v,h1,fun _=>h2⟩
theorem gi{t:TypeId}{b:Bool}(h:gu P t=some b)(w:World):(isAgg t).run P w=.ok b w:=by
 unfold gu at h
 split at h<;>first|(cases h;rename_i ht;simp[isAgg,run_underlying ht];done)|cases h
theorem og{f:Nat→Value}{n j:Nat}{v:Value}(h:((List.range n).map f)[j]? =some v):j<n∧v=f j:=by
 by_cases hj:j<n
 ·rw[List.getElem?_map,List.getElem?_range hj]at h
  simp at h
  exact⟨hj,h.symm⟩
 ·rw[List.getElem?_eq_none (by simp;omega)]at h
  cases h
theorem run_sizeOf{t:TypeId}{n:Nat}(h:dA P t=some n)(w:World):(sizeOf t).run P w=.ok n w:=by
 simp only[dA,Option.map_eq_some_iff]at h
 obtain⟨i,hi,rfl⟩:=h
 simp[sizeOf,typeInfo,hi]
theorem cZ{b:Nat}{cells:List Value}{e:TypeId}{fr:Nat×Nat}(hb:w.heap[b]? =some (.cells cells.toArray e fr))(off:Nat):w.cell? ⟨b,off,none⟩=cells[off]? :=by
 simp[World.cell?,hb]
theorem iU{t:TypeId}{n b off:Nat}{cs:List Value}(ha:gu P t=some true)(hs:dA P t=some n)(hl:cs.length=n)(hc:∀j v,cs[j]? =some v→w.cell? ⟨b,off+j,none⟩=some v):
 (Instr.loadAt t (.pointer (some ⟨b,off,none⟩))).run P w=.ok (.agg cs.toArray) w:=by
 subst hl
 have:=run_loadCells_list (P:=P) (w:=w) ⟨b,off,none⟩ cs (fun j v hj=>by rw[aS];exact hc j v hj)
 simp[Instr.loadAt,Instr.sureAddr,loadVar,gi ha,run_sizeOf hs,this]
theorem iV{t:TypeId}{b off:Nat}{v:Value}(ha:gu P t=some false)(hc:w.cell? ⟨b,off,none⟩=some v):
 (Instr.loadAt t (.pointer (some ⟨b,off,none⟩))).run P w=.ok v w:=by
 simp[Instr.loadAt,Instr.sureAddr,loadVar,gi ha,hc]
theorem nD(hs:Sat ρ H G w){id b:Nat}{ak:List AV}{e:TypeId}(ho:H id=some (.own ak e))(hb:ρ id=.pointer (some ⟨b,0,none⟩)):
 ∃cells fr,w.heap[b]? =some (.cells cells.toArray e fr)∧unm fr cells.length∧an ρ H (aL ρ H G) w ak cells:=by
 obtain⟨b',cells,fr,h1,h2⟩:=hs.obj id _ ho
 rw[hb]at h1
 cases h1
 exact⟨cells,fr,h2⟩
theorem afH(hs:Sat ρ H G w){id i b f n cap:Nat}{c:aF}{e:TypeId}(ho:H id=some (.vec c e))(hi:i<c.n)(dM:ρ id=.slice (some ⟨b,f,none⟩) n cap):
 ∃us:Nat→Nat→Value,∀i j,i<c.n→j<c.size→w.cell? ⟨b,f+i*c.size+j,none⟩=some (us i j)∧aK (aL ρ H G) w (c.cell i j) (us i j):=by
 obtain⟨a,afB,h1,h2,h3,h4⟩:=hs.obj id _ ho
 rw[dM]at h1
 cases h1
 rcases h4 with rfl|⟨b',o,cells,fr,us,h5,h6,h7,h8,h9⟩
 ·omega
 ·cases h5
  exact⟨us,fun i j hi hj=>⟨by rw[cZ h6];exact(h9 i j hi hj).1,(h9 i j hi hj).2⟩⟩
theorem z6(n:Nat)(f:Nat→SV)(us:Nat→Value)(h:∀i,i<n→aK O w (f i) (us i)):an ρ H O w ((List.range n).map fun i=>.s (f i)) ((List.range n).map us):=by
 induction n with
 |zero=>simp[ao]
 |succ n ih=>
  rw[List.range_succ,List.map_append,List.map_append]
  exact fa.2 ⟨_,_,rfl,ih (fun i hi=>h i (by omega)),af.2 ⟨[us n],[],rfl,by unfold aC;exact⟨_,rfl,h n (by omega)⟩,ao.2 rfl⟩⟩
theorem mc{a b:Nat}(h:a<b):a.blt b=true:=Nat.ble_eq_true_of_le h
theorem pJ{a b:Nat}(h:b≤a):a.blt b=false:=by
 cases hh:a.blt b
 ·rfl
 ·exact absurd (Nat.le_of_ble_eq_true hh) (by omega)
theorem oR:∀(cs:List CK) (x:CL cs) (us:Nat→Value) (off:Nat),(∀l,l<CL.wide cs→aK O w (CL.cell cs x l) (us (off+l)))→bt (ej (CL.ak cs x))→
 an ρ H O w (CL.ak cs x) ((List.range (CL.wide cs)).map fun l=>us (off+l))
 |[],x,us,off,h,hn=>ao.2 (by simp[CL.wide])
 |c::cs,x,us,off,h,hn=>by
  have key:∀a:AV,CL.ak (c::cs) x=a::CL.ak cs x.2→c.wide=1→(∀y,aK O w (c.cell x.1 0) y→aC ρ H O w a [y])→bt (ej (CL.ak cs x.2))→
   an ρ H O w (CL.ak (c::cs) x) ((List.range (CL.wide (c::cs))).map fun l=>us (off+l)):=by
   intro a e hw ha tM
   rw[e]
   simp only[CL.wide,hw]
   rw[List.range_add,List.map_append,List.map_map]
   refine af.2 ⟨_,_,rfl, ?_, ?_⟩
   ·have:=h 0 (by simp only[CL.wide];omega)
    simp only[CL.cell,hw,mc (show 0<1 from by omega),cond_true]at this
    simpa using ha _ this
   ·have ih:=oR cs x.2 us (off+1) (fun l hl=> ?_) tM
    ·have e2:(fun l=>us (off+1+l))=(fun l=>us (off+l))∘(fun x=>1+x):=by funext l;simp[Function.comp,Nat.add_assoc]
     rw[e2]at ih
     exact ih
    ·have:=h (1+l) (by simp only[CL.wide];omega)
     simp only[CL.cell,hw]at this
     rw[pJ (show 1≤1+l from by omega),cond_false,show 1+l - 1=l from by omega,←Nat.add_assoc]at this
     exact this
  have one:∀{sv:SV} {y:Value},aK O w sv y→aC ρ H O w (.s sv) [y]:=fun hy=>by unfold aC;exact⟨_,rfl,hy⟩
  cases c with
  |arr k n=>
   obtain⟨x1,x2⟩:=x
   change List Int at x1
   simp only[CL.ak,ej]at hn ⊢
   obtain⟨hl,tM⟩:=hn
   simp only[CL.wide,CK.wide]
   rw[List.range_add,List.map_append,List.map_map]
   refine af.2 ⟨_,_,rfl, ?_, ?_⟩
   ·unfold aC
    refine⟨hl, ?_⟩
    refine List.ext_getElem (by simp[hl]) fun i h1 h2=> ?_
    have hi:i<n:=by simpa using h1
    have:=h i (by simp only[CL.wide,CK.wide];omega)
    simp only[CL.cell,CK.wide]at this
    rw[mc hi,cond_true]at this
    simp only[CK.cell]at this
    have hx:x1.getD i 0=x1[i]'(by rw[hl];exact hi):=by simp[List.getD,hl,hi]
    rw[hx]at this
    simp only[List.getElem_map,List.getElem_range]
    generalize us (off+i)=u at this ⊢
    cases this
    rfl
   ·have ih:=oR cs x2 us (off+n) (fun l hl=> ?_) tM
    ·have e2:(fun l=>us (off+n+l))=(fun l=>us (off+l))∘(fun x=>n+x):=by funext l;simp[Function.comp,Nat.add_assoc]
     rw[e2]at ih
     exact ih
    ·have:=h (n+l) (by simp only[CL.wide,CK.wide];omega)
     simp only[CL.cell,CK.wide]at this
     rw[pJ (show n≤n+l from by omega),cond_false,show n+l - n=l from by omega,←Nat.add_assoc]at this
     exact this
  |int k=>exact key _ rfl rfl (fun y hy=>one hy) (by simpa[CL.ak,ej]using hn)
  |bool=>exact key _ rfl rfl (fun y hy=>one hy) (by simpa[CL.ak,ej]using hn)
  |str=>exact key _ rfl rfl (fun y hy=>one hy) (by simpa[CL.ak,ej]using hn)
  |ints k=>exact key _ rfl rfl (fun y hy=>one hy) (by simpa[CL.ak,ej]using hn)
  |strs=>exact key _ rfl rfl (fun y hy=>one hy) (by simpa[CL.ak,ej]using hn)
  |bD=>exact key _ rfl rfl (fun y hy=>one hy) (by simpa[CL.ak,ej]using hn)
  |rows ds=>exact key _ rfl rfl (fun y hy=>one hy) (by simpa[CL.ak,ej]using hn)
theorem rR{wc:Bool}{c:aF}{i j sz:Nat}{t:TypeId}{q:bx}(h:(pE wc c i j sz).eval H=some q)(hn:bt q.need)(px:gu P t=some wc)(bI:dA P t=some sz){b o:Nat}{us:Nat→Value}
 (hc:∀l,l<c.size→w.cell? ⟨b,o+l,none⟩=some (us l)∧aK O w (c.cell i l) (us l)):eK P ρ H O w q (Instr.loadAt t (.pointer (some ⟨b,o+j,none⟩))):=by
 unfold pE at h
 cases wc
 ·simp only[cond_false]at h
  rw[Bool.cond_eq_ite]at h
  split at h
  ·rename_i bd
   have bd:j<c.size:=by simpa[Nat.blt,Nat.lt_iff_add_one_le]using bd
   exact ax h (fun _=>⟨us j,iV px (hc j bd).1,au (hc j bd).2⟩) hn
  ·cases h
 ·simp only[cond_true]at h
  split at h
  ·rename_i cs xs
   split at h
   ·rename_i ss hss
    refine ax h (fun aqQ=> ?_) hn
    have hd:=oR (ρ:=ρ) (H:=H) cs (xs.getD i (CL.d cs)) us 0 (fun l hl=>by rw[Nat.zero_add];exact(hc l hl).2) aqQ
    simp only[Nat.zero_add]at hd
    simp only[Option.bind_eq_some_iff]at hss
    obtain⟨s1,h4,h5⟩:=hss
    obtain⟨h6,h7⟩:=fb _ j h4 hd
    obtain⟨h8,h9⟩:=fc s1 sz h5 h7
    refine⟨_,iU (cs:=(((List.range (CL.wide cs)).map us).drop j).take sz) px bI (by simp at h8 ⊢;omega) (fun l v hv=> ?_),kO h9⟩
    rw[List.getElem?_take]at hv
    split at hv
    ·rw[List.getElem?_drop]at hv
     obtain⟨bd,rfl⟩:=og hv
     rw[Nat.add_assoc]
     exact(hc (j+l) bd).1
    ·cases hv
   ·cases h
  ·rw[Bool.cond_eq_ite]at h
   split at h
   ·rename_i hle
    have hle:=Nat.le_of_ble_eq_true hle
    refine ax h (fun _=>⟨_,iU (cs:=(List.range sz).map fun l=>us (j+l)) px bI (by simp) (fun l v hv=> ?_), ?_⟩) hn
    ·obtain⟨bd,rfl⟩:=og hv
     rw[Nat.add_assoc]
     exact(hc (j+l) (by omega)).1
    ·unfold ab
     exact⟨_,rfl,z6 sz (fun l=>c.cell i (j+l)) (fun l=>us (j+l)) (fun l hl=>(hc (j+l) (by omega)).2)⟩
   ·cases h
theorem z7{t:TypeId}{a:AV}{va:Value}{q:bx}(h:(adU P t a).eval H=some q)(hn:bt q.need)(hs:Sat ρ H G w)(hd:ab ρ H (aL ρ H G) w a va):
 eK P ρ H (aL ρ H G) w q (Instr.loadAt t va):=by
 unfold adU at h
 split at h
 ·rename_i sz wc bI px
  split at h
  ·
   rename_i id off
   unfold ab ay at hd
   obtain⟨b,hb,rfl,_⟩:=hd
   simp only[RM.eval]at h
   split at h
   ·rename_i ak e ho
    obtain⟨cells,fr,h1,h2,h3⟩:=nD hs ho hb
    cases wc
    ·simp only[cond_false]at h
     split at h
     ·rename_i v hv
      obtain⟨u,h4,h5,h6⟩:=kN ak off hv h3
      exact ax h (fun _=>⟨u,iV px (by rw[cZ h1];exact h4),h6⟩) hn
     ·cases h
    ·simp only[cond_true]at h
     split at h
     ·rename_i ss hss
      simp only[Option.bind_eq_some_iff]at hss
      obtain⟨s1,h4,h5⟩:=hss
      obtain⟨h6,h7⟩:=fb ak off h4 h3
      obtain⟨h8,h9⟩:=fc s1 sz h5 h7
      refine ax h (fun _=>⟨_,iU (cs:=(cells.drop off).take sz) px bI (by simp at h8 ⊢;omega) (fun j v hj=> ?_),kO h9⟩) hn
      rw[cZ h1]
      rw[List.getElem?_take]at hj
      split at hj
      ·simpa using hj
      ·cases hj
     ·cases h
   ·cases h
  ·
   rename_i id off n i
   unfold ab ay at hd
   obtain⟨dm,b,hb,rfl,_⟩:=hd
   simp only[RM.eval]at h
   split at h
   ·rename_i ak e ho
    obtain⟨cells,fr,h1,h2,h3⟩:=nD hs ho hb
    split at h
    ·rename_i k m ws akG
     rw[Bool.cond_eq_ite]at h
     split at h
     ·rename_i hc
      simp only[Bool.and_eq_true,Bool.not_eq_true',Nat.beq_eq]at hc
      obtain⟨rfl,rfl⟩:=hc
      obtain⟨hl,pre,post,rfl,hp⟩:=nC ak off akG h3
      have hi:i<ws.length:=by omega
      refine ax h (fun _=>⟨.int k (ws.getD i 0),iV px ?_,au (.int _ _)⟩) hn
      rw[cZ h1,List.append_assoc,List.getElem?_append_right (by omega),List.getElem?_append_left (by simp;omega)]
      rw[show off+i - pre.length=i from by omega]
      simp[hi]
     ·cases h
    ·cases h
   ·cases h
  ·
   unfold ab ay at hd
   obtain⟨b,o,us,rfl,_,_,hc⟩:=hd
   exact rR h hn px bI hc
  ·
   rename_i id i j
   unfold ab ay at hd
   obtain⟨_,o,ho,hv⟩:=hd
   simp only[RM.eval]at h
   split at h
   ·rename_i c e de
    rw[ho]at de
    cases de
    obtain⟨hi,hj,b,f,n,cap,dM,rfl⟩:=hv c e rfl
    obtain⟨us,hc⟩:=afH hs ho hi dM
    exact rR (us:=fun l=>us i l) h hn px bI (fun l hl=>hc i l hi hl)
   ·cases h
  ·cases h
 ·cases h
end
end Go.Sx
namespace Go.Sx
open Go
section
variable{ρ az:Nat→Value}{H H':aG}{G O O':Nat→Prop}{w w':World}{P:Program}
theorem slice_inj{a a':Option Addr}{n n' c c':Nat}(h:Value.slice a n c=.slice a' n' c'):a'=a∧c'=c:=by
 cases h;exact⟨rfl,rfl⟩
theorem mH{t:TypeId}{fs:Array Field}{f:Nat}{fd:Field}{n b off:Nat}(ht:P.underlying t=some (.struct fs))(hf:fs[f]? =some fd)(hs:dA P fd.type=some n)(hn:1≤n)(w:World):
 (Instr.fieldAt t (.pointer (some ⟨b,off,none⟩)) f).run P w=.ok (.pointer (some ⟨b,off+fd.offset,none⟩)) w:=by
 have h0:¬n=0:=by omega
 simp[Instr.fieldAt,run_underlying ht,hf,Instr.sureAddr,fieldPlace,run_sizeOf hs,h0,aS]
theorem wh{t:TypeId}{x:AV}{f:Nat}{vx:Value}{q:bx}(h:(oJ P t x f).eval H=some q)(hn:bt q.need)(hd:ab ρ H O w x vx):
 eK P ρ H O w q (Instr.fieldAt t vx f):=by
 unfold oJ at h
 split at h
 ·rename_i fs ht
  split at h
  ·rename_i fd hf
   rw[Bool.cond_eq_ite]at h
   split at h
   ·rename_i bI
    obtain⟨n,hs,hn1⟩:∃n,dA P fd.type=some n∧1≤n:=by
     cases hs:dA P fd.type with
     |none=>simp[hs]at bI
     |some n=>exact⟨n,rfl,Nat.le_of_ble_eq_true (by simpa[hs]using bI)⟩
    split at h
    ·rename_i id off
     unfold ab ay at hd
     obtain⟨b,hb,rfl,hi⟩:=hd
     exact ax h (fun _=>⟨_,mH ht hf hs hn1 w,by unfold ab ay;exact⟨b,hb,rfl,hi⟩⟩) hn
    ·rename_i c m j
     unfold ab ay at hd
     obtain⟨b,o,us,rfl,h1⟩:=hd
     exact ax h (fun _=>⟨_,mH ht hf hs hn1 w,by unfold ab ay;exact⟨b,o,us,by rw[Nat.add_assoc],h1⟩⟩) hn
    ·rename_i id i j
     simp only[RM.eval]at h
     split at h
     ·rename_i c e ho
      rw[Bool.cond_eq_ite]at h
      split at h
      ·rename_i bd
       have bd:j+fd.offset<c.size:=by simpa[Nat.blt,Nat.lt_iff_add_one_le]using bd
       unfold ab ay at hd
       obtain⟨h1,o,de,hv⟩:=hd
       rw[ho]at de
       cases de
       obtain⟨hi,hj,b,f',n',cap,dM,rfl⟩:=hv c e rfl
       refine ax h (fun _=>⟨_,mH ht hf hs hn1 w, ?_⟩) hn
       unfold ab ay
       refine⟨rfl,_,ho,fun c' e' hc=> ?_⟩
       cases hc
       exact⟨hi,bd,b,f',n',cap,dM,by rw[Nat.add_assoc]⟩
      ·cases h
     ·cases h
    ·cases h
   ·cases h
  ·cases h
 ·cases h
theorem gx{t e:TypeId}{n b o len cap:Nat}{k:IntKind}{i:Int}(ht:P.underlying t=some (.slice e))(hs:dA P e=some n)(h0:0≤i)(h1:i<len)(w:World):
 (Instr.indexAt t (.slice (some ⟨b,o,none⟩) len cap) (.int k i)).run P w=.ok (.pointer (some ⟨b,o+i.toNat*n,none⟩)) w:=by
 simp[Instr.indexAt,run_underlying ht,asIntOf,run_sizeOf hs,h0,h1,aS]
theorem gy{t e:TypeId}{n b o len:Nat}{k:IntKind}{i:Int}(ht:P.underlying t=some (.array len e))(hs:dA P e=some n)(h0:0≤i)(h1:i<len)(w:World):
 (Instr.indexAt t (.pointer (some ⟨b,o,none⟩)) (.int k i)).run P w=.ok (.pointer (some ⟨b,o+i.toNat*n,none⟩)) w:=by
 simp[Instr.indexAt,run_underlying ht,asIntOf,Instr.sureAddr,run_sizeOf hs,h0,h1,aS]
theorem wi{t:TypeId}{x i:AV}{vx vi:Value}{q:bx}(h:(oK P t x i).eval H=some q)(hn:bt q.need)(hs:Sat ρ H G w)(hd:ab ρ H (aL ρ H G) w x vx)(hi:ab ρ H (aL ρ H G) w i vi):
 eK P ρ H (aL ρ H G) w q (Instr.indexAt t vx vi):=by
 unfold oK at h
 split at h
 ·rename_i k lit n e mI ht
  obtain rfl:=bL mI hi
  split at h
  ·rename_i sz c bI
   rw[Bool.cond_eq_ite]at h
   split at h
   ·rename_i he
    have he:sz=c.size:=by simpa using he
    have hx:=ah (by simp) hd
    cases hx with
    |ro _ a cap us b o h1 h2 h3 h4 h5=>
     refine ax h (fun cu=> ?_) hn
     obtain⟨h6,h7,_⟩:=cu
     have bd:n.toNat<c.n:=by omega
     obtain⟨rfl,h8,h9⟩:=h3 (by omega)
     refine⟨_,gx ht bI h6 h7 w, ?_⟩
     unfold ab ay
     refine⟨b,o+n.toNat*c.size,fun j=>us n.toNat j,by rw[he];rfl,h8,h9,fun j hj=>⟨h4 _ _ bd hj,h5 _ _ bd hj⟩⟩
   ·cases h
  ·rename_i sz id bI
   simp only[RM.eval]at h
   split at h
   ·rename_i c e' ho
    rw[Bool.cond_eq_ite]at h
    split at h
    ·rename_i he
     simp only[Bool.and_eq_true,Nat.beq_eq]at he
     obtain⟨rfl,hge⟩:=he
     have hge:=Nat.le_of_ble_eq_true hge
     unfold ab ay at hd
     obtain⟨_,o,de,hv⟩:=hd
     rw[ho]at de
     cases de
     obtain rfl:=hv c e' rfl
     obtain⟨a,cap,hr,h2,h3,h4⟩:=hs.obj id _ ho
     refine ax h (fun cu=> ?_) hn
     obtain⟨h6,h7,_⟩:=cu
     rcases h4 with h4|⟨b,o,cells,fr,us,rfl,h5,_⟩
     ·omega
     ·refine⟨.pointer (some ⟨b,o+n.toNat*c.size,none⟩),by rw[hr];exact gx ht bI h6 h7 w, ?_⟩
      unfold ab ay
      refine⟨rfl,_,ho,fun c' e'' hc=> ?_⟩
      cases hc
      exact⟨by omega,by omega,b,o,c.n,cap,hr,rfl⟩
    ·cases h
   ·cases h
  ·rename_i sz id lo m bI
   simp only[RM.eval]at h
   split at h
   ·rename_i c e' ho
    rw[Bool.cond_eq_ite]at h
    split at h
    ·rename_i he
     simp only[Bool.and_eq_true,Nat.beq_eq]at he
     obtain⟨rfl,hge⟩:=he
     have hge:=Nat.le_of_ble_eq_true hge
     unfold ab ay at hd
     obtain⟨_,o,de,hv⟩:=hd
     rw[ho]at de
     cases de
     obtain⟨hlm,a0,atE,a',hr0,au0,rfl,ha'⟩:=hv c e' rfl
     obtain⟨a,cap,hr,h2,h3,h4⟩:=hs.obj id _ ho
     obtain⟨rfl,rfl⟩:=slice_inj (hr0.symm.trans hr)
     refine ax h (fun cu=> ?_) hn
     obtain⟨h6,h7,_⟩:=cu
     rcases h4 with h4|⟨b,o,cells,fr,us,rfl,h5,_⟩
     ·omega
     ·refine⟨.pointer (some ⟨b,o+lo*c.size+n.toNat*c.size,none⟩), ?_, ?_⟩
      ·rw[ha' (by omega)]
       simp only[Option.map_some,aS]
       exact gx ht bI h6 h7 w
      ·unfold ab ay
       refine⟨rfl,_,ho,fun c' e'' hc=> ?_⟩
       cases hc
       exact⟨by omega,by omega,b,o,c.n,cap,hr,by rw[Nat.add_mul,Nat.add_assoc];rfl⟩
    ·cases h
   ·cases h
  ·cases h
 ·rename_i k lit n len e mI ht
  obtain rfl:=bL mI hi
  split at h
  ·rename_i sz id off bI
   unfold ab ay at hd
   obtain⟨b,hb,rfl,du⟩:=hd
   cases lit
   ·simp only[cond_false]at h
    rw[Bool.cond_eq_ite]at h
    split at h
    ·rename_i h1
     have h1:sz=1:=by simpa using h1
     subst h1
     refine ax h (fun cu=> ?_) hn
     obtain⟨h6,h7,_⟩:=cu
     exact⟨_,gy ht bI h6 h7 w,by unfold ab ay;exact⟨by omega,b,hb,by simp,du⟩⟩
    ·cases h
   ·simp only[cond_true]at h
    rw[Bool.cond_eq_ite]at h
    split at h
    ·rename_i h1
     simp only[Bool.and_eq_true,decide_eq_true_eq]at h1
     exact ax h (fun _=>⟨_,gy ht bI h1.1 h1.2 w,by unfold ab ay;exact⟨b,hb,rfl,du⟩⟩) hn
    ·cases h
  ·rename_i sz id i0 bI
   simp only[RM.eval]at h
   split at h
   ·rename_i c e' ho
    rw[Bool.cond_eq_ite]at h
    split at h
    ·rename_i he
     simp only[Bool.and_eq_true,Nat.beq_eq]at he
     obtain⟨rfl,hge⟩:=he
     unfold ab ay at hd
     obtain⟨_,o,de,hv⟩:=hd
     rw[ho]at de
     cases de
     obtain⟨hi0,hc0,b,f,n',cap,hr,rfl⟩:=hv c e' rfl
     refine ax h (fun cu=> ?_) hn
     obtain⟨h6,h7,h8,_⟩:=cu
     refine⟨_,gy ht bI h6 h7 w, ?_⟩
     unfold ab ay
     refine⟨rfl,_,ho,fun c' e'' hc=> ?_⟩
     cases hc
     exact⟨by omega,by omega,b,f,n',cap,hr,by rw[Nat.add_mul];congr 3;omega⟩
    ·cases h
   ·cases h
  ·cases h
 ·cases h
theorem afI{t:TypeId}{x i:AV}{vx vi:Value}{q:bx}(h:(acq P t x i).eval H=some q)(hn:bt q.need)(hd:ab ρ H O w x vx)(hi:ab ρ H O w i vi):
 eK P ρ H O w q (Instr.index t vx vi):=by
 unfold acq at h
 split at h
 ·rename_i k lit n len e kk m ws mI ht
  obtain rfl:=bL mI hi
  rw[Bool.cond_eq_ite]at h
  split at h
  ·rename_i hc
   simp only[Bool.and_eq_true,Nat.beq_eq]at hc
   obtain⟨⟨rfl,px⟩,bI⟩:=hc
   have aoC:gu P e=some false:=by cases ha:gu P e with|none=>simp[ha]at px|some b=>simp[ha]at px;rw[px]
   have afJ:dA P e=some 1:=by cases ha:dA P e with|none=>simp[ha]at bI|some b=>simp[ha]at bI;rw[bI]
   unfold ab at hd
   obtain⟨hl,rfl⟩:=hd
   refine ax h (fun cu=> ?_) hn
   obtain⟨h6,h7,_⟩:=cu
   have bd:n.toNat<ws.length:=by omega
   refine⟨.int kk (ws.getD n.toNat 0), ?_,au (.int _ _)⟩
   simp[Instr.index,run_underlying ht,asIntOf,h6,h7,run_sizeOf afJ,part,gi aoC,bd]
  ·cases h
 ·rename_i k lit n s mI ht
  obtain rfl:=bL mI hi
  obtain rfl:=eZ hd
  refine ax h (fun cu=> ?_) hn
  obtain⟨h6,h7,_⟩:=cu
  have bd:n.toNat<s.size:=by omega
  refine⟨.int .u8 (aV s n.toNat), ?_,au (.int _ _)⟩
  have hb:s[n.toNat]? =some s.data[n.toNat]:=by
   simp only[getElem?,decidableGetElem?]
   rw[dif_pos bd]
   rfl
  have aoD:n.toNat<s.data.size:=bd
  simp[Instr.index,run_underlying ht,asIntOf,h6,hb,aV]
  rw[Array.getElem?_eq_getElem aoD]
  rfl
 ·rename_i k lit n len e ak mI ht
  obtain rfl:=bL mI hi
  rw[Bool.cond_eq_ite]at h
  split at h
  ·rename_i hc
   simp only[Bool.and_eq_true]at hc
   obtain⟨px,bI⟩:=hc
   have aoC:gu P e=some false:=by cases ha:gu P e with|none=>simp[ha]at px|some b=>simp[ha]at px;rw[px]
   have afJ:dA P e=some 1:=by cases ha:dA P e with|none=>simp[ha]at bI|some b=>simp[ha]at bI;rw[bI]
   unfold ab at hd
   obtain⟨cs,rfl,ad0⟩:=hd
   split at h
   ·rename_i v hv
    obtain⟨u,h4,h5,h6⟩:=kN ak _ hv ad0
    refine ax h (fun cu=>⟨u, ?_,h6⟩) hn
    obtain⟨h7,h8,_⟩:=cu
    simp[Instr.index,run_underlying ht,asIntOf,h7,h8,run_sizeOf afJ,part,gi aoC,h4]
   ·cases h
  ·cases h
 ·cases h
theorem afK{t:TypeId}{x:AV}{f:Nat}{vx:Value}{q:bx}(h:(acr P t x f).eval H=some q)(hn:bt q.need)(hd:ab ρ H O w x vx):
 eK P ρ H O w q (Instr.field t vx f):=by
 unfold acr at h
 split at h
 ·rename_i fs ak ht
  unfold ab at hd
  obtain⟨cs,rfl,ad0⟩:=hd
  split at h
  ·rename_i fd hf
   split at h
   ·rename_i sz bI px
    split at h
    ·rename_i ss hss
     simp only[Option.bind_eq_some_iff]at hss
     obtain⟨s1,h4,h5⟩:=hss
     obtain⟨h6,h7⟩:=fb ak _ h4 ad0
     obtain⟨h8,h9⟩:=fc s1 sz h5 h7
     refine ax h (fun _=>⟨.agg ((cs.drop fd.offset).take sz).toArray, ?_,kO h9⟩) hn
     simp[Instr.field,run_underlying ht,hf,asAgg,part,gi px,run_sizeOf bI,List.extract_eq_take_drop]
    ·cases h
   ·rename_i sz bI px
    split at h
    ·rename_i v hv
     obtain⟨u,h4,h5,h6⟩:=kN ak _ hv ad0
     refine ax h (fun _=>⟨u, ?_,h6⟩) hn
     simp[Instr.field,run_underlying ht,hf,asAgg,part,gi px,h4]
    ·cases h
   ·cases h
  ·cases h
 ·cases h
theorem z8:∀{xs:List AV} {vs:List Value} {i:Nat} {x:AV},bz ρ H O w xs vs→xs[i]? =some x→∃v,vs[i]? =some v∧ab ρ H O w x v
 |[],vs,i,x,_,hx=>by simp at hx
 |a::aA,vs,i,x,h,hx=>by
  obtain⟨v,rest,rfl,h1,h2⟩:=aw.1 h
  cases i with
  |zero=>simp at hx;subst hx;exact⟨v,rfl,h1⟩
  |succ i=>obtain⟨u,h3,h4⟩:=z8 (i:=i) h2 (by simpa using hx);exact⟨u,by simpa using h3,h4⟩
theorem aaa{x:AV}{i:Nat}{vx:Value}{q:bx}(h:(tz x i).eval H=some q)(hn:bt q.need)(hd:ab ρ H O w x vx):
 eK P ρ H O w q (Instr.extract vx i):=by
 unfold tz at h
 split at h
 ·rename_i vs
  unfold ab at hd
  obtain⟨us,rfl,hl⟩:=hd
  split at h
  ·rename_i v hv
   obtain⟨u,h1,h2⟩:=z8 hl hv
   exact ax h (fun _=>⟨u,by simp[Instr.extract,h1],h2⟩) hn
  ·cases h
 ·cases h
theorem jo(hs:Sat ρ H G w){id:Nat}{c:aF}{e:TypeId}{v:Value}(ho:H id=some (.vec c e))(hd:ab ρ H O w (.vec id) v):∃a cap,v=.slice a c.n cap∧ρ id=v∧c.n≤cap∧cap≤maxLen:=by
 unfold ab ay at hd
 obtain⟨_,o,de,hv⟩:=hd
 rw[ho]at de
 cases de
 obtain⟨a,cap,h1,h2,h3,_⟩:=hs.obj id _ ho
 exact⟨a,cap,by rw[hv c e rfl,h1],(hv c e rfl).symm,h2,h3⟩
theorem iF(hs:Sat ρ H G w){id lo n:Nat}{c:aF}{e:TypeId}{v:Value}(ho:H id=some (.vec c e))(hd:ab ρ H O w (.part id lo n) v):
 lo+n≤c.n∧∃a cap a',ρ id=.slice a c.n cap∧c.n≤cap∧cap≤maxLen∧v=.slice a' n (cap - lo)∧(cap≠lo→a'=a.map (·.add (lo*c.size)))∧(cap≠0→∃b o,a=some ⟨b,o,none⟩):=by
 unfold ab ay at hd
 obtain⟨_,o,de,hv⟩:=hd
 rw[ho]at de
 cases de
 obtain⟨h0,a,cap,a',h1,h2,h3,h4⟩:=hv c e rfl
 obtain⟨a2,pK,g1,g2,g3,g4⟩:=hs.obj id _ ho
 obtain⟨rfl,rfl⟩:=slice_inj (h1.symm.trans g1)
 refine⟨h0,_,_,a',h1,h2,g3,h3,h4,fun hc=> ?_⟩
 rcases g4 with g4|⟨b,o,_,_,_,g5,_⟩
 ·exact absurd g4 hc
 ·exact⟨b,o,g5⟩
theorem akH{t ty:TypeId}{ts:List TypeId}{x:AV}{vx:Value}{q:bx}(h:(aov P t x).eval H=some q)(hn:bt q.need)(hs:Sat ρ H G w)(hd:ab ρ H O w x vx):
 eK P ρ H O w q (Builtin.len_ (t::ts).toArray ty #[vx]):=by
 unfold aov at h
 split at h
 ·rename_i s ht
  obtain rfl:=eZ hd
  exact ax h (fun _=>⟨_,by simp[Builtin.len_,run_underlying ht];rfl,au (.int _ _)⟩) hn
 ·rename_i n e ht
  exact ax h (fun _=>⟨_,by cases vx<;>simp[Builtin.len_,run_underlying ht]<;>rfl,au (.aW _ _)⟩) hn
 ·rename_i e c ht
  have hx:=ah (by simp) hd
  cases hx
  exact ax h (fun _=>⟨_,by simp[Builtin.len_,run_underlying ht];rfl,au (.int _ _)⟩) hn
 ·rename_i e c k ht
  have hx:=ah (by simp) hd
  cases hx with
  |yf _ _ a n cap h1 h2=>
   cases h1
   exact ax h (fun _=>⟨_,by simp[Builtin.len_,run_underlying ht];rfl,au (.int _ _)⟩) hn
 ·rename_i e ht
  unfold ab at hd
  obtain⟨a,rfl⟩:=hd
  exact ax h (fun _=>⟨_,by simp[Builtin.len_,run_underlying ht];rfl,au (.aW _ _)⟩) hn
 ·rename_i e id ht
  simp only[RM.eval]at h
  split at h
  ·rename_i c e' ho
   obtain⟨a,cap,rfl,_⟩:=jo hs ho hd
   exact ax h (fun _=>⟨_,by simp[Builtin.len_,run_underlying ht];rfl,au (.int _ _)⟩) hn
  ·cases h
 ·rename_i e id lo n ht
  simp only[RM.eval]at h
  split at h
  ·rename_i c e' ho
   obtain⟨_,a,cap,a',_,_,_,rfl,_⟩:=iF hs ho hd
   exact ax h (fun _=>⟨_,by simp[Builtin.len_,run_underlying ht];rfl,au (.int _ _)⟩) hn
  ·cases h
 ·rename_i kt et id ht
  simp only[RM.eval]at h
  split at h
  ·rename_i ck m ho
   unfold ab ay at hd
   obtain⟨b,hb,rfl,_⟩:=hd
   obtain⟨b',es,clock,h1,h2,h3⟩:=hs.obj id _ ho
   rw[hb]at h1
   cases h1
   have e1:(getObj b).run P w=.ok (.map es clock) w:=by simp[getObj,Sem.run,h2]
   have e2:es.size=m.length:=by have:=congrArg List.length h3.eq;simpa using this
   exact ax h (fun _=>⟨.int .i64 m.length,by simp[Builtin.len_,run_underlying ht,e1,e2];rfl,au (.int _ _)⟩) hn
  ·cases h
 ·cases h
theorem akI{t ty:TypeId}{ts:List TypeId}{x:AV}{vx:Value}{q:bx}(h:(aow P t x).eval H=some q)(hn:bt q.need)(hs:Sat ρ H G w)(hd:ab ρ H O w x vx):
 eK P ρ H O w q (Builtin.cap_ (t::ts).toArray ty #[vx]):=by
 unfold aow at h
 split at h
 ·rename_i e c k ht
  have hx:=ah (by simp) hd
  cases hx with
  |yf _ _ a n cap h1 h2=>exact ax h (fun _=>⟨_,by simp[Builtin.cap_,run_underlying ht];rfl,au (.oc _ _ (by omega))⟩) hn
 ·rename_i e id ht
  simp only[RM.eval]at h
  split at h
  ·rename_i c e' ho
   obtain⟨a,cap,rfl,_,hle,_⟩:=jo hs ho hd
   exact ax h (fun _=>⟨_,by simp[Builtin.cap_,run_underlying ht];rfl,au (.ma _ _ (by omega))⟩) hn
  ·cases h
 ·rename_i e id lo n ht
  simp only[RM.eval]at h
  split at h
  ·rename_i c e' ho
   obtain⟨_,a,cap,a',_,hle,_,rfl,_⟩:=iF hs ho hd
   exact ax h (fun _=>⟨_,by simp[Builtin.cap_,run_underlying ht];rfl,au (.ma _ _ (by omega))⟩) hn
  ·cases h
 ·cases h
theorem oh(op:BinOp)(t:TypeId)(x y:Operand)(a b:Option Addr)(n c m d:Nat):(eqGuard op t x y (.slice a n c) (.slice b m d)).run P w=.ok () w:=by
 cases op<;>simp[eqGuard]
theorem akJ{op:BinOp}{t:TypeId}{x:AV}{ox oy:Operand}{vx vy:Value}{q:bx}(h:(aoy P op t x).eval H=some q)(hn:bt q.need)(hs:Sat ρ H G w)
 (hx:ab ρ H O w x vx) (hy:vy=.slice none 0 0):eK P ρ H O w q (do eqGuard op t ox oy vx vy;binOp op t vx vy:Sem Value):=by
 subst hy
 have key:∀e,P.underlying t=some (.slice e)→(op=.eql∨op=.neq)→∀a n c n',vx=.slice a n c→(a=none→n'=0)→(plain [] (.s (.ka n' (pF op)))).eval H=some q→eK P ρ H O w q (do eqGuard op t ox oy vx (.slice none 0 0);binOp op t vx (.slice none 0 0):Sem Value):=by
  rintro e ht v8 a n c n' rfl ha h
  refine ax h (fun _=> ?_) hn
  rcases v8 with rfl|rfl
  ·exact⟨.bool a.isNone,by simp[oh,Lib.run_eql_slice_nil w t e a n c 0 0 ht],au (.ka _ _ _ (fun e=>ha (by simpa[pF]using e)))⟩
  ·exact⟨.bool (!a.isNone),by simp[oh,run_neq_slice_nil_any w t e a n c 0 0 ht],au (.ka _ _ _ (fun e=>ha (by simpa[pF]using e)))⟩
 have akK:∀x,ab ρ H O w x vx→(op=.eql∨op=.neq)→(match P.underlying t with
  |some (.slice _)=>
   match x with
   |.s (.ro c)=>plain [] (.s (.ka c.n (pF op)))
   |.emp=>plain [] (.s (.ka 0 (pF op)))
   |.vec id=>.look id fun o=>match o with
    |some (.vec c _)=>plain [] (.s (.ka c.n (pF op)))
    |_=>.fail "== nil: no row"
   |_=>.fail "== nil"
  |_=>.fail "== nil: the type" :RM bx).eval H=some q→eK P ρ H O w q (do eqGuard op t ox oy vx (.slice none 0 0);binOp op t vx (.slice none 0 0):Sem Value):=by
  intro x hx v8 h
  split at h
  ·rename_i e ht
   split at h
   ·have h1:=ah (by simp) hx
    cases h1 with
    |ro c a cap us b o q1 q2 q3 q4 q5=>exact key e ht v8 _ _ _ _ rfl (fun ha=>Decidable.byContradiction fun hn0=>by have:=(q3 (Nat.pos_of_ne_zero hn0)).1;rw[ha]at this;cases this) h
   ·unfold ab at hx
    obtain⟨a,rfl⟩:=hx
    exact key e ht v8 _ _ _ _ rfl (fun _=>rfl) h
   ·simp only[RM.eval]at h
    split at h
    ·rename_i ho
     obtain⟨a,cap,rfl,dM,hle,_⟩:=jo hs ho hx
     refine key e ht v8 _ _ _ _ rfl (fun ha=> ?_) h
     obtain⟨a2,pK,ahl,_,_,h3⟩:=hs.obj _ _ ho
     rw[dM]at ahl
     cases ahl
     rcases h3 with h3|⟨_,_,_,_,_,h3,_⟩
     ·omega
     ·rw[ha]at h3;cases h3
    ·cases h
   ·cases h
  ·cases h
 unfold aoy at h
 split at h
 ·exact akK x hx (.inl rfl) h
 ·exact akK x hx (.inr rfl) h
 ·cases h
theorem acC{op:BinOp}{t:TypeId}{x y:AV}{ox oy:Operand}{vx vy:Value}{q:bx}(h:(ym op x y).eval H=some q)(hn:bt q.need)
 (hx:ab ρ H O w x vx) (hy:ab ρ H O w y vy):eK P ρ H O w q (do eqGuard op t ox oy vx vy;binOp op t vx vy:Sem Value):=by
 unfold ym at h
 split at h
 ·rename_i l a b h1
  obtain rfl:=bL h1 hx
  have hy:=ah (by simp) hy
  cases hy with
  |ma _ n hge=>
   refine ax h (fun cu=> ?_) hn
   obtain⟨h3,_⟩:=cu
   refine⟨.bool false, ?_,au (.aJ _)⟩
   have:¬a>n:=by omega
   simp[gh,binOp,Op.intCmp,this]
 ·rename_i l a b h1
  obtain rfl:=bL h1 hx
  have hy:=ah (by simp) hy
  cases hy with
  |oc _ n bd=>
   refine ax h (fun cu=> ?_) hn
   obtain⟨h3,_⟩:=cu
   refine⟨.bool true, ?_,au (.aJ _)⟩
   have:a>n:=by omega
   simp[gh,binOp,Op.intCmp,this]
 ·cases h
theorem kQ{x:AV}{v:Value}(h:ab ρ H O w x v):ab ρ H O w (oe x) v:=by
 unfold oe
 split
 ·have h1:=ah (by simp) h
  cases h1
  unfold ab
  exact⟨none,rfl⟩
 ·exact h
theorem ahm{x:AV}{v:Value}(h:ab ρ H O w x v)(hx:acz x=true):v=.slice none 0 0:=by
 unfold acz at hx
 split at hx
 ·have h1:=ah (by simp) h
  cases h1
  rfl
 ·cases hx
theorem ad1{ts:Array TypeId}{ty:TypeId}{mx:Bool}{x y:AV}{vx vy:Value}{q:bx}(h:(akB mx x y).eval H=some q)(hn:bt q.need)(hx:ab ρ H O w x vx)(hy:ab ρ H O w y vy):
 eK P ρ H O w q (if mx then Builtin.max_ ts ty #[vx,vy]else Builtin.min_ ts ty #[vx,vy]):=by
 unfold akB at h
 split at h
 ·rename_i k lx a k' ly b h1 h2
  obtain rfl:=bL h1 hx
  obtain rfl:=bL h2 hy
  rw[Bool.cond_eq_ite]at h
  split at h
  ·rename_i hk
   obtain rfl:=aY hk
   cases mx
   ·exact ax h (fun _=>⟨_,by simp[run_min_int2,oN],gg _ _ _⟩) hn
   ·exact ax h (fun _=>⟨_,by simp[run_max_int2,imax],gg _ _ _⟩) hn
  ·cases h
 ·cases h
theorem yu{x:AV}{vx:Value}{q:bx}(h:(qO x).eval H=some q)(hn:bt q.need)(hd:ab ρ H O w x vx)(e:Operand→Value)(o:Oper)(y:Operand)(ho:o.op=.nilCheck y)(he:e y=vx):
 q.up=[]∧q.new=[]∧(execOp e o).run P w=.ok (.value vx) w∧∀base,ab ρ H O w (q.r base) vx:=by
 have fin:∀r,(plain [] r).eval H=some q→r=x→(execOp e o).run P w=.ok (.value vx) w→q.up=[]∧q.new=[]∧(execOp e o).run P w=.ok (.value vx) w∧∀base,ab ρ H O w (q.r base) vx:=by
  intro r hr hx iW
  simp only[plain,RM.eval,Option.some.injEq]at hr
  subst hr;subst hx
  exact⟨rfl,rfl,iW,fun _=>hd⟩
 unfold qO at h
 split at h
 ·unfold ab ay at hd;obtain⟨b,_,rfl,_⟩:=hd;exact fin _ h rfl (by simp[execOp,ho,he])
 ·unfold ab ay at hd;obtain⟨_,b,_,rfl,_⟩:=hd;exact fin _ h rfl (by simp[execOp,ho,he])
 ·unfold ab ay at hd;obtain⟨b,o',us,rfl,_⟩:=hd;exact fin _ h rfl (by simp[execOp,ho,he])
 ·unfold ab at hd;obtain⟨vs,rfl,_⟩:=hd;exact fin _ h rfl (by simp[execOp,ho,he])
 ·have h1:=ah (by simp) hd;cases h1;exact fin _ h rfl (by simp[execOp,ho,he])
 ·cases h
theorem yv{fn:Fn}{first ei:List AV}{vf vc:List Value}{q:bx}(h:(qP fn first ei).eval H=some q)(hn:bt q.need)(hf:bz ρ H O w first vf)(hc:bz ρ H O w ei vc):
 eK P ρ H O w q (Instr.makeFunc fn vf.toArray vc.toArray):=by
 unfold qP at h
 split at h
 ·rename_i f
  obtain rfl:=aU.1 hf
  obtain rfl:=aU.1 hc
  exact ax h (fun _=>⟨_,rfl,au (.kL f)⟩) hn
 ·rename_i f c cs
  obtain rfl:=aU.1 hf
  exact ax h (fun _=>⟨_,rfl,by unfold ab;exact⟨vc,rfl,hc⟩⟩) hn
 ·cases h
end
end Go.Sx
namespace Go.Sx
open Go
section
variable{ρ az:Nat→Value}{H H':aG}{G O O':Nat→Prop}{w w':World}{P:Program}
def mJ(ρ:Nat→Value)(H:aG)(O:Nat→Prop)(w:World):Option AV→Option Value→Prop
 |none,none=>True
 |some a,some v=>ab ρ H O w a v
 |_,_=>False
theorem cf{d n:Int}{o:Option AV}{vo:Option Value}(h:gf d o=some n)(hd:mJ ρ H O w o vo):(vo=none∧n=d)∨∃k,vo=some (.int k n):=by
 cases o with
 |none=>
  cases vo with
  |none=>simp only[gf,Option.some.injEq]at h;exact .inl ⟨rfl,h.symm⟩
  |some v=>exact hd.elim
 |some a=>
  cases vo with
  |none=>exact hd.elim
  |some v=>
   simp only[gf,Option.map_eq_some_iff]at h
   obtain⟨⟨k,l,m⟩,h1,rfl⟩:=h
   exact .inr ⟨k,by rw[bL h1 hd]⟩
theorem nE(c:aF){l h:Nat}(_hl:l≤h)(hh:h≤c.n):(dv c l h).n=h - l:=by
 cases c<;>simp only[dv,aF.n,List.length_drop,List.length_take]at * <;>omega
theorem jq(c:aF)(l h:Nat):(dv c l h).size=c.size:=by cases c<;>rfl
theorem ahn{α:Type}(zs:List α)(d:α){l h i:Nat}(hi:i<h - l):((zs.take h).drop l).getD i d=zs.getD (l+i) d:=by
 simp only[List.getD,List.getElem?_drop,List.getElem?_take]
 rw[if_pos (by omega)]
theorem jr(c:aF){l h i:Nat}(j:Nat)(hi:i<h - l):(dv c l h).cell i j=c.cell (l+i) j:=by
 cases c<;>simp only[dv,aF.cell,ahn _ _ hi]
theorem aab{s:ByteArray}{lo hi:Option Value}{l h:Int}(hl:(lo=none∧l=0)∨∃k,lo=some (.int k l))(hh:(hi=none∧h=(s.size:Int))∨∃k,hi=some (.int k h))
 (h0:0≤l) (h1:l≤h) (h2:h≤s.size) {t:TypeId} (ht:P.underlying t=some .string) (w:World):
 (Instr.sliceAt t (.string s) lo hi none).run P w=.ok (.string (s.extract l.toNat h.toNat)) w:=by
 have hle:l≤((h.toNat:Nat):Int):=by omega
 rcases hl with⟨rfl,rfl⟩|⟨k,rfl⟩<;>rcases hh with⟨rfl,rfl⟩|⟨k',rfl⟩
 ·simp[Instr.sliceAt,Instr.slice,run_underlying ht,Instr.sliceBounds]
 ·simp[Instr.sliceAt,Instr.slice,run_underlying ht,Instr.sliceBounds,run_sliceBound _ _ _ _ _ h1 h2]
 ·simp[Instr.sliceAt,Instr.slice,run_underlying ht,Instr.sliceBounds,run_sliceBound _ _ _ _ _ h0 h1]
 ·simp[Instr.sliceAt,Instr.slice,run_underlying ht,Instr.sliceBounds,run_sliceBound _ _ _ _ _ (show 0≤h by omega) h2,run_sliceBound _ _ _ _ _ h0 hle]
theorem kR{a:Option Addr}{n cap:Nat}{lo hi:Option Value}{l h:Int}(hl:(lo=none∧l=0)∨∃k,lo=some (.int k l))(hh:(hi=none∧h=(n:Int))∨∃k,hi=some (.int k h))
 (h0:0≤l) (h1:l≤h) (h2:h≤cap) {t e:TypeId} (ht:P.underlying t=some (.slice e)) {sz:Nat} (hs:dA P e=some sz) (w:World):
 (Instr.sliceAt t (.slice a n cap) lo hi none).run P w=.ok (.slice (if cap=l.toNat then a else a.map (·.add (l.toNat*sz))) (h.toNat - l.toNat) (cap - l.toNat)) w:=by
 have hle:l≤((h.toNat:Nat):Int):=by omega
 rcases hl with⟨rfl,rfl⟩|⟨k,rfl⟩<;>rcases hh with⟨rfl,rfl⟩|⟨k',rfl⟩
 ·simp[Instr.sliceAt,Instr.slice,run_underlying ht,Instr.sliceBounds,run_sizeOf hs]
 ·simp[Instr.sliceAt,Instr.slice,run_underlying ht,Instr.sliceBounds,run_sliceBound _ _ _ _ _ h1 h2,run_sizeOf hs]
 ·simp[Instr.sliceAt,Instr.slice,run_underlying ht,Instr.sliceBounds,run_sliceBound _ _ _ _ _ h0 h1,run_sizeOf hs]
 ·simp[Instr.sliceAt,Instr.slice,run_underlying ht,Instr.sliceBounds,run_sliceBound _ _ _ _ _ (show 0≤h by omega) h2,run_sliceBound _ _ _ _ _ h0 hle,run_sizeOf hs]
theorem rS{b o n:Nat}{lo hi:Option Value}{l h:Int}(hl:(lo=none∧l=0)∨∃k,lo=some (.int k l))(hh:(hi=none∧h=(n:Int))∨∃k,hi=some (.int k h))
 (h0:0≤l) (h1:l≤h) (h2:h≤n) {t e:TypeId} (ht:P.underlying t=some (.array n e)) (hs:dA P e=some 1) (w:World):
 ∃a,(Instr.sliceAt t (.pointer (some ⟨b,o,none⟩)) lo hi none).run P w=.ok (.slice a (h.toNat - l.toNat) (n - l.toNat)) w∧(h.toNat - l.toNat≠0→a=some ⟨b,o+l.toNat,none⟩):=by
 have hle:l≤((h.toNat:Nat):Int):=by omega
 refine⟨some (if n=l.toNat then⟨b,o,none⟩else(⟨b,o,none⟩:Addr).add (l.toNat*1)), ?_,fun cu=>by rw[if_neg (by omega),aS,Nat.mul_one]⟩
 rcases hl with⟨rfl,rfl⟩|⟨k,rfl⟩<;>rcases hh with⟨rfl,rfl⟩|⟨k',rfl⟩
 ·simp[Instr.sliceAt,Instr.sureAddr,run_underlying ht,Instr.sliceBounds,run_sizeOf hs]
 ·simp[Instr.sliceAt,Instr.sureAddr,run_underlying ht,Instr.sliceBounds,run_sliceBound _ _ _ _ _ h1 h2,run_sizeOf hs]
 ·simp[Instr.sliceAt,Instr.sureAddr,run_underlying ht,Instr.sliceBounds,run_sliceBound _ _ _ _ _ h0 h1,run_sizeOf hs]
 ·simp[Instr.sliceAt,Instr.sureAddr,run_underlying ht,Instr.sliceBounds,run_sliceBound _ _ _ _ _ (show 0≤h by omega) h2,run_sliceBound _ _ _ _ _ h0 hle,run_sizeOf hs]
theorem acD{c:aF}{v:Value}(hx:aK O w (.ro c) v){l h:Nat}(hl:l≤h)(hh:h≤c.n):∃a cap,v=.slice a c.n cap∧c.n≤cap∧
 ∀sz,sz=c.size→aK O w (.ro (dv c l h)) (.slice (if cap=l then a else a.map (·.add (l*sz))) (h - l) (cap - l)):=by
 cases hx with
 |ro _ a cap us b o h1 h2 h3 h4 h5=>
  refine⟨a,cap,rfl,h1, ?_⟩
  rintro sz rfl
  have hn:=nE c hl hh
  have bI:=jq c l h
  have key:=aK.ro (O:=O) (w:=w) (dv c l h) (if cap=l then a else a.map (·.add (l*c.size))) (cap - l) (fun i j=>us (l+i) j) b (o+l*c.size) (by omega) (by omega)
   (fun h0=>by
     obtain⟨rfl,h6,h7⟩:=h3 (by omega)
     refine⟨?_,h6,h7⟩
     rw[if_neg (by omega)]
     simp only[Option.map_some,aS])
   (fun i j hi hj=>by
     rw[hn]at hi
     rw[bI]at hj ⊢
     have:=h4 (l+i) j (by omega) hj
     rw[show o+l*c.size+i*c.size+j=o+(l+i)*c.size+j from by rw[Nat.add_mul];omega]
     exact this)
   (fun i j hi hj=>by
     rw[hn]at hi
     rw[bI]at hj
     rw[jr c j hi]
     exact h5 _ _ (by omega) hj)
  rw[hn]at key
  exact key
theorem aho(a:Option Addr)(hf:∃b o,a=some ⟨b,o,none⟩)(x y:Nat):(a.map (·.add x)).map (·.add y)=a.map (·.add (x+y)):=by
 obtain⟨b,o,rfl⟩:=hf
 simp only[Option.map_some,aS,Nat.add_assoc]
theorem aac{t e e':TypeId}{c:aF}{id lo0 n:Nat}{lo hi mx:Option AV}{vlo vhi wj:Option Value}{q:bx}(h:(adW P e c id lo0 n lo hi mx).eval H=some q)(hn:bt q.need)
 (ht:P.underlying t=some (.slice e)) (ho:H id=some (.vec c e')) {a a':Option Addr} {cap:Nat} (hr:ρ id=.slice a c.n cap) (wk:c.n≤cap) (hln:lo0+n≤c.n) (ha':cap≠lo0→a'=a.map (·.add (lo0*c.size)))
 (hf:cap≠0→∃b o,a=some ⟨b,o,none⟩) (hlo:mJ ρ H O w lo vlo) (hhi:mJ ρ H O w hi vhi) (hmx:mJ ρ H O w mx wj):
 eK P ρ H O w q (Instr.sliceAt t (.slice a' n (cap - lo0)) vlo vhi wj):=by
 unfold adW at h
 split at h
 ·rename_i sz bI
  rw[Bool.cond_eq_ite]at h
  split at h
  ·rename_i hz
   have hz:sz=c.size:=by simpa using hz
   subst hz
   split at h
   ·obtain rfl:wj=none:=by cases wj<;>first|rfl|exact hmx.elim
    split at h
    ·rename_i l hh h1 h2
     refine ax h (fun cu=> ?_) hn
     obtain⟨h3,h4,h5,_⟩:=cu
     refine⟨_,kR (cf h1 hlo) (cf h2 hhi) h3 h4 (by omega) ht bI w, ?_⟩
     unfold ab ay
     refine⟨rfl,_,ho,fun c' e'' hc=> ?_⟩
     cases hc
     refine⟨by omega,a,cap,_,hr,wk,by rw[Nat.sub_sub],fun cu=> ?_⟩
     have hc0:cap≠lo0:=by omega
     rw[if_neg (by omega),ha' hc0,aho _ (hf (by omega)),Nat.add_mul]
    ·cases h
   ·rename_i m
    split at h
    ·rename_i l kh lh hh km lm m' h1 h2 h3
     refine ax h (fun cu=> ?_) hn
     obtain⟨g1,g2,g3,g4,_⟩:=cu
     simp only[Option.bind_eq_some_iff]at h2
     obtain⟨ha,rfl,h2⟩:=h2
     cases wj with
     |none=>exact hmx.elim
     |some vm=>
      cases vhi with
      |none=>exact hhi.elim
      |some vh=>
       obtain rfl:=bL h3 hmx
       obtain rfl:=bL h2 hhi
       have e1:m'≤(((cap - lo0:Nat):Int)):=by omega
       have e2:hh≤((m'.toNat:Nat):Int):=by omega
       have e3:l≤((hh.toNat:Nat):Int):=by omega
       rcases cf h1 hlo with⟨rfl,rfl⟩|⟨k1,rfl⟩
       ·exact⟨_,by simp[Instr.sliceAt,Instr.slice,run_underlying ht,Instr.sliceBounds,run_sliceBound _ _ _ _ _ (show 0≤m' by omega) e1,run_sliceBound _ _ _ _ _ (show 0≤hh by omega) e2,run_sizeOf bI];rfl,by unfold ab;trivial⟩
       ·exact⟨_,by simp[Instr.sliceAt,Instr.slice,run_underlying ht,Instr.sliceBounds,run_sliceBound _ _ _ _ _ (show 0≤m' by omega) e1,run_sliceBound _ _ _ _ _ (show 0≤hh by omega) e2,run_sliceBound _ _ _ _ _ g1 e3,run_sizeOf bI];rfl,by unfold ab;trivial⟩
    ·cases h
  ·cases h
 ·cases h
theorem afL(hs:Sat ρ H G w){t:TypeId}{x:AV}{lo hi mx:Option AV}{vx:Value}{vlo vhi wj:Option Value}{q:bx}(h:(acx P t x lo hi mx).eval H=some q)(hn:bt q.need)
 (hd:ab ρ H O w x vx) (hlo:mJ ρ H O w lo vlo) (hhi:mJ ρ H O w hi vhi) (hmx:mJ ρ H O w mx wj):
 eK P ρ H O w q (Instr.sliceAt t vx vlo vhi wj):=by
 unfold acx at h
 split at h
 ·rename_i s ht
  obtain rfl:=eZ hd
  split at h
  ·rename_i l hh h1 h2
   obtain rfl:wj=none:=by cases wj<;>first|rfl|exact hmx.elim
   refine ax h (fun cu=> ?_) hn
   obtain⟨h3,h4,h5,_⟩:=cu
   exact⟨_,aab (cf h1 hlo) (cf h2 hhi) h3 h4 h5 ht w,au (.str _)⟩
  ·cases h
 ·rename_i e ht
  unfold ab at hd
  obtain⟨a,rfl⟩:=hd
  split at h
  ·rename_i sz l hh bI h1 h2
   obtain rfl:wj=none:=by cases wj<;>first|rfl|exact hmx.elim
   refine ax h (fun cu=> ?_) hn
   obtain⟨rfl,rfl,_⟩:=cu
   exact⟨_,kR (cf h1 hlo) (cf h2 hhi) (by omega) (by omega) (by omega) ht bI w,by unfold ab;exact⟨a,by simp⟩⟩
  ·cases h
 ·rename_i e c ht
  have hx:=ah (by simp) hd
  split at h
  ·rename_i sz bI
   rw[Bool.cond_eq_ite]at h
   split at h
   ·rename_i hz
    have hz:sz=c.size:=by simpa using hz
    split at h
    ·obtain rfl:wj=none:=by cases wj<;>first|rfl|exact hmx.elim
     split at h
     ·rename_i l hh h1 h2
      refine ax h (fun cu=> ?_) hn
      obtain⟨h3,h4,h5,_⟩:=cu
      obtain⟨a,cap,rfl,hle,ahp⟩:=acD hx (l:=l.toNat) (h:=hh.toNat) (by omega) (by omega)
      exact⟨_,kR (cf h1 hlo) (cf h2 hhi) h3 h4 (by omega) ht bI w,au (ahp sz hz)⟩
     ·cases h
    ·rename_i m
     split at h
     ·rename_i l kh lh hh km lm m' h1 h2 h3
      refine ax h (fun cu=> ?_) hn
      obtain⟨rfl,rfl,rfl,_⟩:=cu
      simp only[Option.bind_eq_some_iff]at h2
      obtain⟨ha,rfl,h2⟩:=h2
      cases wj with
      |none=>exact hmx.elim
      |some vm=>
       cases vhi with
       |none=>exact hhi.elim
       |some vh=>
        obtain rfl:=bL h3 hmx
        obtain rfl:=bL h2 hhi
        cases hx with
        |ro _ a cap us b o g1 g2 g3 g4 g5=>
         refine⟨.slice a 0 0, ?_,by unfold ab;exact⟨a,rfl⟩⟩
         have hb:∀(k:IntKind) (y:Nat) (code:BoundsCode) (w:World),(Instr.sliceBound (.int k 0) y code).run P w=.ok 0 w:=fun k y code w=>by
          rw[run_sliceBound _ _ _ _ _ (by omega) (by omega)];rfl
         rcases cf h1 hlo with⟨rfl,_⟩|⟨k1,rfl⟩
         ·simp[Instr.sliceAt,Instr.slice,run_underlying ht,Instr.sliceBounds,hb,run_sizeOf bI]
         ·simp[Instr.sliceAt,Instr.slice,run_underlying ht,Instr.sliceBounds,hb,run_sizeOf bI]
     ·cases h
   ·cases h
  ·cases h
 ·rename_i e c k ht
  have hx:=ah (by simp) hd
  obtain⟨a0,n0,atE,rfl,hx,bd⟩:∃a n cap,vx=.slice a n cap∧aK O w (.ro c) vx∧cap<k:=by
   cases hx with
   |yf _ _ a n cap h1 h2=>exact⟨a,n,cap,rfl,h1,h2⟩
  split at h
  ·rename_i sz bI
   rw[Bool.cond_eq_ite]at h
   split at h
   ·rename_i hz
    have hz:sz=c.size:=by simpa using hz
    obtain rfl:wj=none:=by cases wj<;>first|rfl|exact hmx.elim
    split at h
    ·rename_i hh h2
     obtain rfl:vlo=none:=by cases vlo<;>first|rfl|exact hlo.elim
     refine ax h (fun cu=> ?_) hn
     obtain⟨h4,h5,_⟩:=cu
     obtain⟨a,cap,e0,hle,ahp⟩:=acD hx (l:=0) (h:=hh.toNat) (by omega) (by omega)
     cases e0
     have hd2:=ahp sz hz
     exact⟨_,kR (l:=0) (.inl ⟨rfl,rfl⟩) (cf h2 hhi) (by omega) h4 (by omega) ht bI w,au (.yf _ _ _ _ _ hd2 (by omega))⟩
    ·rename_i l hh h2
     split at h
     ·rename_i kl ll l' h1
      refine ax h (fun cu=> ?_) hn
      obtain⟨h3,h4,h5,_⟩:=cu
      obtain⟨a,cap,e0,hle,ahp⟩:=acD hx (l:=l'.toNat) (h:=hh.toNat) (by omega) (by omega)
      cases e0
      have h1':gf 0 (some l)=some l':=by simp[gf,h1]
      exact⟨_,kR (cf h1' hlo) (cf h2 hhi) h3 h4 (by omega) ht bI w,au (ahp sz hz)⟩
     ·cases h
    ·cases h
   ·cases h
  ·cases h
 ·rename_i e id ht
  simp only[RM.eval]at h
  split at h
  ·rename_i c e' ho
   obtain⟨a,cap,rfl,hr,hle,_⟩:=jo hs ho hd
   have dR:=hs.obj id _ ho
   rw[hr]at dR
   obtain⟨a2,pK,g1,_,_,g4⟩:=dR
   cases g1
   have hf:cap≠0→∃b o,a=some ⟨b,o,none⟩:=fun hc=>by
    rcases g4 with g4|⟨b,o,_,_,_,g5,_⟩
    ·exact absurd g4 hc
    ·exact⟨b,o,g5⟩
   have:=aac (a':=a) h hn ht ho hr hle (by omega) (fun hc=>by
    obtain⟨b,o,rfl⟩:=hf hc
    simp[aS]) hf hlo hhi hmx
   simpa using this
  ·cases h
 ·rename_i e id lo0 n ht
  simp only[RM.eval]at h
  split at h
  ·rename_i c e' ho
   obtain⟨h0,a,cap,a',h1,h2,h3,rfl,h4,h5⟩:=iF hs ho hd
   exact aac h hn ht ho h1 h2 h0 h4 h5 hlo hhi hmx
  ·cases h
 ·rename_i n e id off ht
  split at h
  ·rename_i sz l hh bI h1 h2
   obtain rfl:wj=none:=by cases wj<;>first|rfl|exact hmx.elim
   rw[Bool.cond_eq_ite]at h
   split at h
   ·rename_i h1s
    obtain rfl:sz=1:=by simpa using h1s
    unfold ab ay at hd
    obtain⟨b,hb,rfl,hi⟩:=hd
    refine ax h (fun cu=> ?_) hn
    obtain⟨h3,h4,h5,_⟩:=cu
    obtain⟨a,e1,e2⟩:=rS (b:=b) (o:=off) (cf h1 hlo) (cf h2 hhi) h3 h4 h5 ht bI w
    refine⟨_,e1, ?_⟩
    unfold ab ay
    exact⟨rfl,b,a,_,hb,rfl,e2,hi⟩
   ·cases h
  ·cases h
 ·rename_i n e id i j ht
  split at h
  ·rename_i sz l hh bI h1 h2
   obtain rfl:wj=none:=by cases wj<;>first|rfl|exact hmx.elim
   simp only[RM.eval]at h
   split at h
   ·rename_i c e' ho
    rw[Bool.cond_eq_ite]at h
    split at h
    ·rename_i h1s
     simp only[Bool.and_eq_true,Nat.beq_eq]at h1s
     obtain⟨rfl,hjn⟩:=h1s
     have hjn:=Nat.le_of_ble_eq_true hjn
     unfold ab ay at hd
     obtain⟨h0,o,de,hv⟩:=hd
     rw[ho]at de
     cases de
     obtain⟨g1,g2,b,f,n',cap,g3,rfl⟩:=hv c e' rfl
     refine ax h (fun cu=> ?_) hn
     obtain⟨h3,h4,h5,_⟩:=cu
     obtain⟨a,e1,e2⟩:=rS (b:=b) (o:=f+i*c.size+j) (cf h1 hlo) (cf h2 hhi) h3 h4 h5 ht bI w
     refine⟨_,e1, ?_⟩
     unfold ab ay
     refine⟨rfl,_,ho,fun c2 e2' hc=> ?_⟩
     cases hc
     exact⟨g1,by omega,b,f,n',cap,a,_,g3,rfl,fun hz=>by rw[e2 hz,Nat.add_assoc]⟩
    ·cases h
   ·cases h
  ·cases h
 ·cases h
theorem yw(zs:List Int):∀(l:List Value) (s:ByteArray) (w:World),l=zs.map (Value.int .u8)→
 (forIn (m:=Sem) l s fun c s=>do
   match c with
   |.int .u8 n=>pure (ForInStep.yield (s.push (UInt8.ofNat n.toNat)))
   |_=>do
    stuck "bytesToString: byte expected"
    pure (ForInStep.yield s)).run P w=.ok ⟨s.data++(zs.map fun n=>UInt8.ofNat n.toNat).toArray⟩ w:=by
 induction zs with
 |nil=>intro l s w h;subst h;simp
 |cons z zs ih=>
  intro l s w h
  subst h
  simp only[List.map_cons,List.forIn_cons,Sem.run_bind,Sem.run_pure,Result.andThen_ok]
  rw[ih _ _ _ rfl]
  congr 2
  simp[ByteArray.push]
def oS(O:Nat→Prop)(w:World)(c:aF)(v:Value):Prop:=
 ∃(a:Option Addr) (cap:Nat) (us:Nat→Nat→Value),v=.slice a c.n cap∧c.n≤cap∧cap≤maxLen∧(0<c.n→∃b o,a=some ⟨b,o,none⟩∧b<w.heap.size∧
  ∀i j,i<c.n→j<c.size→w.cell? ⟨b,o+i*c.size+j,none⟩=some (us i j)∧aK O w (c.cell i j) (us i j))
theorem tN(sh:Shape)(size:Nat):(ahf sh size).n=0:=by cases sh<;>rfl
theorem tO{sh:Shape}{size:Nat}{x:AV}{k:aF→Option Nat→RM bx}{v:Value}{q:bx}(h:(rowOf sh size x k).eval H=some q)(hs:Sat ρ H G w)(hd:ab ρ H (aL ρ H G) w x v):
 ∃c idy,(k c idy).eval H=some q∧oS (aL ρ H G) w c v:=by
 unfold rowOf at h
 split at h
 ·split at h
  ·rename_i c
   have hx:=ah (by simp) hd
   cases hx with
   |ro _ a cap us b o g1 g2 g3 g4 g5=>
    refine⟨c,none,h,a,cap,us,rfl,g1,g2,fun h0=> ?_⟩
    obtain⟨rfl,_,h2⟩:=g3 h0
    exact⟨b,o,rfl,h2,fun i j hi hj=>⟨g4 i j hi hj,g5 i j hi hj⟩⟩
  ·cases h
 ·unfold ab at hd
  obtain⟨a,rfl⟩:=hd
  exact⟨_,none,h,a,0,fun _ _=>undef,by rw[tN],by rw[tN];exact Nat.le_refl _,by simp[maxLen],by rw[tN];omega⟩
 ·rename_i id
  simp only[RM.eval]at h
  split at h
  ·rename_i c e ho
   refine⟨c,some id,h, ?_⟩
   unfold ab ay at hd
   obtain⟨_,o,de,hv⟩:=hd
   rw[ho]at de
   cases de
   obtain rfl:=hv c e rfl
   obtain⟨a,cap,h1,h2,h3,h4⟩:=hs.obj id _ ho
   rcases h4 with rfl|⟨b,o,cells,fr,us,rfl,h5,h6,h7,h8⟩
   ·exact⟨a,0,fun _ _=>undef,h1,h2,h3,fun h0=>by omega⟩
   ·refine⟨_,cap,us,h1,h2,h3,fun _=>⟨b,o,rfl,(Array.getElem?_eq_some_iff.1 h5).1,fun i j hi hj=> ?_⟩⟩
    obtain⟨h9,sI⟩:=h8 i j hi hj
    exact⟨by rw[cZ h5];exact h9,sI⟩
  ·cases h
 ·rename_i id lo n
  simp only[RM.eval]at h
  split at h
  ·rename_i c e ho
   refine⟨_,some id,h, ?_⟩
   obtain⟨g0,a,cap,a',g1,g2,g3,rfl,g4,g5⟩:=iF hs ho hd
   have hn:(dv c lo (lo+n)).n=n:=by rw[nE c (by omega) g0];omega
   have bI:=jq c lo (lo+n)
   obtain⟨a2,pK,k1,k2,k3,k4⟩:=hs.obj id _ ho
   rw[g1]at k1
   cases k1
   rcases k4 with rfl|⟨b,o,cells,fr,us,rfl,h5,h6,h7,h8⟩
   ·exact⟨a',0 - lo,fun _ _=>undef,by rw[hn],by rw[hn];omega,by omega,fun h0=>by rw[hn]at h0;omega⟩
   ·refine⟨a',cap - lo,fun i j=>us (lo+i) j,by rw[hn],by rw[hn];omega,by omega,fun h0=> ?_⟩
    rw[hn]at h0
    refine⟨b,o+lo*c.size,by rw[g4 (by omega)];simp[aS],(Array.getElem?_eq_some_iff.1 h5).1,fun i j hi hj=> ?_⟩
    rw[hn]at hi
    rw[bI]at hj ⊢
    obtain⟨h9,sI⟩:=h8 (lo+i) j (by omega) hj
    refine⟨?_,by rw[jr c j (by omega)];exact sI⟩
    rw[cZ h5,show o+lo*c.size+i*c.size+j=o+(lo+i)*c.size+j from by rw[Nat.add_mul];omega]
    exact h9
  ·cases h
 ·cases h
theorem wm(zs:List Int):zs.map (Value.int .u8)=(List.range zs.length).map fun i=>Value.int .u8 (zs.getD i 0):=by
 apply List.ext_getElem
 ·simp
 ·intro i h1 h2
  simp at h1
  simp[h1]
theorem jK{zs:List Int}{a:Option Addr}{cap:Nat}(h3:0<zs.length→∃b o,a=some ⟨b,o,none⟩∧∀j,j<zs.length→w.cell? ⟨b,o+j,none⟩=some (.int .u8 (zs.getD j 0))):
 (Conv.bytesToString (.slice a zs.length cap)).run P w=.ok (.string (aM zs)) w:=by
 cases a with
 |none=>
  have:zs.length=0:=by
   rcases Nat.eq_zero_or_pos zs.length with h0|h0
   ·exact h0
   ·obtain⟨b,o,e,_⟩:=h3 h0
    cases e
  obtain rfl:=List.eq_nil_of_length_eq_zero this
  rfl
 |some a=>
  have aqR:(loadCells a zs.length).run P w=.ok (zs.map (Value.int .u8)).toArray w:=by
   rcases Nat.eq_zero_or_pos zs.length with h0|h0
   ·obtain rfl:=List.eq_nil_of_length_eq_zero h0
    rfl
   ·obtain⟨b,o,e,hc⟩:=h3 h0
    cases e
    rw[wm]
    refine run_loadCells w _ _ (fun i=>Value.int .u8 (zs.getD i 0)) (fun j hj=> ?_)
    rw[aS]
    exact hc j hj
  simp only[Conv.bytesToString,Sem.run_bind,aqR,Result.andThen_ok]
  rw[←Array.forIn_toList]
  have:=yw (P:=P) zs (zs.map (Value.int .u8)) ByteArray.empty w rfl
  erw [this]
  simp[aM]
theorem pL{zs:List Int}{v:Value}(h:oS O w (.ints .u8 zs) v):(Conv.bytesToString v).run P w=.ok (.string (aM zs)) w:=by
 obtain⟨a,cap,us,rfl,h1,h2,h3⟩:=h
 simp only[aF.n]at h1 h3 ⊢
 refine jK fun h0=> ?_
 obtain⟨b,o,e,_,hc⟩:=h3 h0
 refine⟨b,o,e,fun j hj=> ?_⟩
 obtain⟨g1,g2⟩:=hc j 0 hj (by simp[aF.size])
 simp only[aF.size,Nat.mul_one,Nat.add_zero,aF.cell]at g1 g2
 rw[g1]
 generalize us j 0=u at g2 ⊢
 cases g2
 rfl
theorem w6(hs:Sat ρ H G w){id b m off n:Nat}{k:IntKind}{ws:List Int}{e:TypeId}(ho:H id=some (.own [.ints k m ws] e))(hb:ρ id=.pointer (some ⟨b,0,none⟩))(hnm:off+n≤m):
 ((ws.drop off).take n).length=n∧∀j,j<n→w.cell? ⟨b,off+j,none⟩=some (.int k (((ws.drop off).take n).getD j 0)):=by
 obtain⟨cells,fr,e1,_,e2⟩:=nD hs ho hb
 obtain⟨c1,c2,rfl,e3,e4⟩:=af.1 e2
 obtain⟨e5,rfl⟩:=cF.1 e3
 obtain rfl:=ao.1 e4
 refine⟨by rw[List.length_take,List.length_drop];omega,fun j hj=> ?_⟩
 rw[cZ e1,List.append_nil,List.getElem?_map]
 have bd:off+j<ws.length:=by omega
 rw[List.getElem?_eq_getElem bd]
 simp[List.getD,List.getElem?_take,hj,List.getElem?_drop,bd]
theorem aad{src dst:TypeId}{x:AV}{vx:Value}{q:bx}(h:(tB P src dst x).eval H=some q)(hn:bt q.need)(hs:Sat ρ H G w)(hd:ab ρ H (aL ρ H G) w x vx):
 eK P ρ H (aL ρ H G) w q (convert src dst vx):=by
 unfold tB at h
 split at h
 ·rename_i d k n7 kT
  split at h
  ·rename_i k' lit n mI
   obtain rfl:=bL mI hd
   have iW:(convert src dst (.int k' n)).run P w=.ok (.int k (k.wrap n)) w:=by
    simp[convert,run_underlying n7,run_underlying kT,Conv.intToInt]
   rw[Bool.cond_eq_ite]at h
   split at h
   ·exact ax h (fun _=>⟨_,iW,au (.aW _ _)⟩) hn
   ·rw[Bool.cond_eq_ite]at h
    split at h
    ·rename_i hk
     simp only[Bool.and_eq_true]at hk
     obtain rfl:=mE hk.1
     refine ax h (fun cu=>⟨_,iW, ?_⟩) hn
     rw[bV cu.1]
     exact au (.int _ _)
    ·exact ax h (fun _=>⟨_,iW,au (.int _ _)⟩) hn
  ·cases h
 ·rename_i n7 kT
  split at h
  ·rename_i s
   obtain rfl:=eZ hd
   exact ax h (fun _=>⟨_,by simp[convert,run_underlying n7,run_underlying kT],au (.str _)⟩) hn
  ·cases h
 ·rename_i e n7 kT
  split at h
  ·rename_i hk
   have he:P.underlying e=some (.int .u8):=by
    unfold kindOf at hk
    split at hk<;>first|(cases hk;assumption)|cases hk
   split at h
   ·rename_i id off n
    simp only[RM.eval]at h
    split at h
    ·rename_i m ws e' ho
     unfold ab ay at hd
     obtain⟨_,b,a,cap,hb,rfl,ha,_⟩:=hd
     refine ax h (fun cu=>⟨_, ?_,au (.str _)⟩) hn
     have hnm:off+n≤m:=cu.1
     obtain⟨hl,hc⟩:=w6 hs ho hb hnm
     have:=jK (P:=P) (w:=w) (zs:=(ws.drop off).take n) (a:=a) (cap:=cap) (fun h0=>⟨b,off,ha (by omega),fun j hj=>hc j (by omega)⟩)
     rw[hl]at this
     simp[convert,run_underlying n7,run_underlying kT,run_underlying he,this]
    ·cases h
   ·obtain⟨c,idy,h1,h2⟩:=tO h hs hd
    split at h1
    ·rename_i zs
     refine ax h1 (fun _=>⟨.string (aM zs), ?_,au (.str _)⟩) hn
     obtain⟨a,cap,us,rfl,_⟩:=id h2
     simp[convert,run_underlying n7,run_underlying kT,run_underlying he,pL h2]
    ·cases h1
  ·cases h
 ·cases h
end
end Go.Sx
namespace Go.Sx
open Go
def cN:List (Nat×ae)→Nat→Option ae
 |[],_=>none
 |(id,o)::us,j=>match cN us j with
  |some x=>some x
  |none=>if j=id then some o else none
def c8(H:aG)(up:List (Nat×ae))(base:Nat)(new:List ae):aG:=fun j=>
 match cN up j with
 |some o=>some o
 |none=>if base≤j∧j<base+new.length then new[j - base]? else H j
section
variable{ρ az:Nat→Value}{H H':aG}{G O O':Nat→Prop}{w w':World}{P:Program}
theorem kU(base:Nat):c8 H [] base []=H:=by
 funext j
 simp only[c8,cN,List.length_nil,Nat.add_zero]
 rw[if_neg (by omega)]
theorem fw(id:Nat)(o:ae)(base:Nat):c8 H [(id,o)] base []=aB H id o:=by
 funext j
 simp only[c8,cN,aB,List.length_nil,Nat.add_zero]
 by_cases h:j=id
 ·simp[h]
 ·simp only[h,if_false]
  rw[if_neg (by omega)]
theorem iG(base:Nat)(o:ae):c8 H [] base [o]=aB H base o:=by
 funext j
 simp only[c8,cN,aB,List.length_singleton]
 by_cases h:j=base
 ·subst h;simp
 ·rw[if_neg (by omega)]
  simp[h]
theorem afM(id base:Nat)(x o:ae)(h:id≠base):c8 H [(id,x)] base [o]=aB (aB H id x) base o:=by
 funext j
 simp only[c8,cN,aB,List.length_singleton]
 by_cases h1:j=id
 ·subst h1;simp[h]
 ·by_cases h2:j=base
  ·subst h2;simp[h1]
  ·simp only[h1,h2,if_false]
   rw[if_neg (by omega)]
theorem cG:ab ρ H O w (.bp []) undef:=by
 unfold ab
 exact⟨[],rfl,aU.2 rfl⟩
theorem jL{id:Nat}{o o':ae}(ho:H id=some o)(ha:o.alive=true){b:Nat}(hb:ef (ρ id)=some b)
 (qU:∀c' e',o'=.vec c' e'→∃c e,o=.vec c e∧c'.n=c.n∧c'.size=c.size) (qV:Obj):
 Step ρ H (aL ρ H G) w ρ (aB H id o') (aL ρ H G) (World.b8 w b qV):=by
 have dD:Own ρ H b:=⟨id,o,ho,ha,hb⟩
 refine⟨fun _ _ _=>rfl,fun j x hx=> ?_,fun c hc=>.inl hc,fun c hc hO=>hU (fun e=>hO (.inl (by subst e;exact dD))),by rw[iE];exact Nat.le_refl _⟩
 by_cases hj:j=id
 ·subst hj
  rw[ho]at hx
  cases hx
  exact⟨o',by simp[aB],qU⟩
 ·exact⟨x,by simp[aB,hj,hx],fun c' e' hc=>⟨c',e',hc,rfl,rfl⟩⟩
theorem Good.tP(hs:Sat ρ H G w){id b:Nat}{ak eu:List AV}{e:TypeId}(ho:H id=some (.own ak e))(hb:ρ id=.pointer (some ⟨b,0,none⟩))
 {cells dV:List Value} {fr:Nat×Nat} (h1:w.heap[b]? =some (.cells cells.toArray e fr)) (hu:unm fr cells.length) (hl:dV.length=cells.length)
 (hd:an ρ H (aL ρ H G) w eu dV):
 Good ρ H G w (aB H id (.own eu e)) (.bp []) undef (World.b8 w b (.cells dV.toArray e fr)):=by
 have lO:ef (ρ id)=some b:=by rw[hb];rfl
 have st:=jL (G:=G) (w:=w) (o':=.own eu e) ho rfl lO (by simp) (.cells dV.toArray e fr)
 exact Good.write hs ho rfl rfl lO (by simp) ⟨b,dV,fr,hb,eG h1,by rw[hl];exact hu,hd.step st⟩ cG
theorem ki{t:TypeId}{b off:Nat}{v:Value}{n:Nat}(hs:dA P t=some n)(hl:v.cells.toList.length=n){w':World}
 (h:(storeCells ⟨b,off,none⟩ v.cells.toList 0).run P w=.ok () w'):(Instr.storeAt t (.pointer (some ⟨b,off,none⟩)) v).run P w=.ok () w':=by
 have:v.cells.size=n:=by simpa using hl
 simp[Instr.storeAt,Instr.sureAddr,storeVar,run_sizeOf hs,this,h]
theorem kV{v:Value}(h:v.oneCell'=true):v.cells.toList=[v]:=by
 cases v<;>first|rfl|(simp[Value.oneCell']at h)
theorem kC{α:Type}(l:List α)(i:Nat)(x:α)(h:i<l.length):l.take i++[x]++l.drop (i+1)=l.set i x:=by
 rw[List.set_eq_take_append_cons_drop,if_pos h]
 simp
theorem fi{c c':aF}{v:Value}(h0:c.n=0)(h1:c'.n=0)(h:aK O w (.ro c) v):aK O w (.ro c') v:=by
 cases h with
 |ro _ a cap us b o h2 h3 h4 h5 h6=>
  have:=aK.ro (O:=O) (w:=w) c' a cap us b o (by omega) h3 (fun h=>by omega) (fun i j hi hj=>by omega) (fun i j hi hj=>by omega)
  rw[h1]at this
  rw[h0]
  exact this
theorem ahq{k:IntKind}{v:SV}{n:Int}{u:Value}(h:ahc k v=some n)(hu:aK O w v u):aK O w (.int k n) u:=by
 unfold ahc at h
 split at h
 ·rw[Bool.cond_eq_ite]at h
  split at h
  ·rename_i hk
   obtain rfl:=aY hk
   cases h
   exact hu
  ·cases h
 ·rw[Bool.cond_eq_ite]at h
  split at h
  ·rename_i hk
   obtain rfl:=aY hk
   cases h
   cases hu
   exact .int _ _
  ·cases h
 ·cases h
theorem afN{v:SV}{n:Bool}{u:Value}(h:ack v=some n)(hu:aK O w v u):aK O w (.bool n) u:=by
 unfold ack at h
 split at h<;>cases h<;>cases hu<;>exact .bool _
theorem ahr{v:SV}{n:ByteArray}{u:Value}(h:ahd v=some n)(hu:aK O w v u):aK O w (.str n) u:=by
 unfold ahd at h
 split at h<;>cases h
 exact hu
theorem afO{k:IntKind}{v:SV}{n:List Int}{u:Value}(h:acm k v=some n)(hu:aK O w v u):aK O w (.ro (.ints k n)) u:=by
 unfold acm at h
 split at h
 ·rw[Bool.cond_eq_ite]at h
  split at h
  ·rename_i hk
   obtain rfl:=aY hk
   cases h
   exact hu
  ·cases h
 ·cases h
  exact fi (by rfl) (by rfl) hu
 ·cases h
theorem afP{v:SV}{n:List ByteArray}{u:Value}(h:acn v=some n)(hu:aK O w v u):aK O w (.ro (.strs n)) u:=by
 unfold acn at h
 split at h<;>cases h
 ·exact hu
 ·exact fi (by rfl) (by rfl) hu
theorem acE{v:SV}{n:List Bool}{u:Value}(h:yh v=some n)(hu:aK O w v u):aK O w (.ro (.bD n)) u:=by
 unfold yh at h
 split at h<;>cases h
 ·exact hu
 ·exact fi (by rfl) (by rfl) hu
theorem afQ{cs:List CK}{v:SV}{n:List (CL cs)}{u:Value}(h:aco cs v=some n)(hu:aK O w v u):aK O w (.ro (.ad cs n)) u:=by
 unfold aco at h
 split at h
 ·simp only[Option.map_eq_some_iff]at h
  obtain⟨⟨e⟩,_,h2⟩:=h
  subst e
  rw[wU]at h2
  subst h2
  exact hu
 ·cases h
  exact fi (by rfl) (by rfl) hu
 ·cases h
theorem afR{c:CK}{x y:c.V}{j:Nat}{v:SV}(h:c.set x j v=some y):c.wide=1∧∀(O:Nat→Prop) (w:World) (u:Value),aK O w v u→∀l,aK O w (c.cell y l) u:=by
 cases c with
 |int k=>exact⟨rfl,fun _ _ _ hu _=>ahq h hu⟩
 |bool=>exact⟨rfl,fun _ _ _ hu _=>afN h hu⟩
 |str=>exact⟨rfl,fun _ _ _ hu _=>ahr h hu⟩
 |ints k=>exact⟨rfl,fun _ _ _ hu _=>afO h hu⟩
 |strs=>exact⟨rfl,fun _ _ _ hu _=>afP h hu⟩
 |bD=>exact⟨rfl,fun _ _ _ hu _=>acE h hu⟩
 |rows cs=>exact⟨rfl,fun _ _ _ hu _=>afQ h hu⟩
 |arr k n=>cases h
theorem qW:∀{cs:List CK} {x y:CL cs} {j:Nat} {v:SV},CL.set cs x j v=some y→(∀(O:Nat→Prop) (w:World) (u:Value),aK O w v u→aK O w (CL.cell cs y j) u)∧∀j',j'≠j→CL.cell cs y j'=CL.cell cs x j'
 |[],x,y,j,v,h=>by cases h
 |c::cs,x,y,j,v,h=>by
  simp only[CL.set]at h
  rw[Bool.cond_eq_ite]at h
  split at h
  ·rename_i bd
   obtain⟨z,h1,rfl⟩:=Option.map_eq_some_iff.1 h
   obtain⟨h2,h3⟩:=afR h1
   refine⟨fun O w u hu=>by simp only[CL.cell,bd,cond_true];exact h3 O w u hu _,fun j' js=> ?_⟩
   have h4:j<1:=by rw[h2]at bd;exact Nat.le_of_ble_eq_true bd
   simp only[CL.cell,h2,pJ (show 1≤j' from by omega),cond_false]
  ·rename_i bd
   obtain⟨z,h1,rfl⟩:=Option.map_eq_some_iff.1 h
   have bd:j.blt c.wide=false:=Bool.eq_false_iff.2 bd
   have hge:c.wide≤j:=by
    rcases Nat.lt_or_ge j c.wide with h5|h5
    ·rw[mc h5]at bd;cases bd
    ·exact h5
   obtain⟨h2,h3⟩:=qW h1
   refine⟨fun O w u hu=>by simp only[CL.cell,bd,cond_false];exact h2 O w u hu,fun j' js=> ?_⟩
   simp only[CL.cell]
   rcases Nat.lt_or_ge j' c.wide with h5|h5
   ·rw[mc h5,cond_true,cond_true]
   ·rw[pJ h5,cond_false,cond_false]
    exact h3 _ (by omega)
theorem pM:∀{cs:List CK} {x y:CL cs} {j:Nat} {k:IntKind} {n:Nat} {ws:List Int},CL.setRow cs x j k n ws=some y→
 (∀l,l<n→CL.cell cs y (j+l)=.int k (ws.getD l 0))∧∀j',(j'<j∨j+n≤j')→CL.cell cs y j'=CL.cell cs x j'
 |[],x,y,j,k,n,ws,h=>by cases h
 |c::cs,x,y,j,k,n,ws,h=>by
  simp only[CL.setRow]at h
  rw[Bool.cond_eq_ite]at h
  split at h
  ·rename_i hj
   obtain rfl:j=0:=Nat.eq_of_beq_eq_true hj
   obtain⟨z,h1,rfl⟩:=Option.map_eq_some_iff.1 h
   cases c with
   |arr k' n'=>
    simp only[CK.setRow]at h1
    rw[Bool.cond_eq_ite]at h1
    split at h1
    ·rename_i hk
     simp only[Bool.and_eq_true]at hk
     obtain rfl:=aY hk.1
     obtain rfl:=Nat.eq_of_beq_eq_true hk.2
     cases h1
     refine⟨fun l hl=> ?_,fun j' js=> ?_⟩
     ·rw[Nat.zero_add]
      simp only[CL.cell,CK.wide,mc hl,cond_true,CK.cell]
     ·simp only[CL.cell,CK.wide,pJ (show n≤j' from by omega),cond_false]
    ·cases h1
   |_=>cases h1
  ·rw[Bool.cond_eq_ite]at h
   split at h
   ·rename_i hle
    have hle:=Nat.le_of_ble_eq_true hle
    obtain⟨z,h1,rfl⟩:=Option.map_eq_some_iff.1 h
    obtain⟨h2,h3⟩:=pM h1
    refine⟨fun l hl=> ?_,fun j' js=> ?_⟩
    ·simp only[CL.cell,pJ (show c.wide≤j+l from by omega),cond_false]
     rw[show j+l - c.wide=j - c.wide+l from by omega]
     exact h2 l hl
    ·simp only[CL.cell]
     rcases Nat.lt_or_ge j' c.wide with h5|h5
     ·rw[mc h5,cond_true,cond_true]
     ·rw[pJ h5,cond_false,cond_false]
      exact h3 _ (by omega)
   ·cases h
theorem acF{c:aF}{i j:Nat}{k:IntKind}{n:Nat}{ws:List Int}{c':aF}(h:nA c i j k n ws=some c')(hi:i<c.n):
 c'.n=c.n∧c'.size=c.size∧(∀l,l<n→c'.cell i (j+l)=.int k (ws.getD l 0))∧∀i' j',(i'≠i∨j'<j∨j+n≤j')→c'.cell i' j'=c.cell i' j':=by
 cases c<;>simp only[nA,reduceCtorEq]at h
 rename_i cs xs
 simp only[Option.map_eq_some_iff]at h
 obtain⟨y,h1,rfl⟩:=h
 simp only[aF.n]at hi
 obtain⟨h2,h3⟩:=pM h1
 refine⟨by simp[aF.n],rfl,fun l hl=> ?_,fun i' j' cu=> ?_⟩
 ·simp only[aF.cell]
  rw[show(xs.set i y).getD i (CL.d cs)=y from by simp[List.getD,hi]]
  exact h2 l hl
 ·simp only[aF.cell]
  by_cases hii:i'=i
  ·subst hii
   rw[show(xs.set i' y).getD i' (CL.d cs)=y from by simp[List.getD,hi]]
   exact h3 j' (by omega)
  ·have:i≠i':=fun e=>hii e.symm
   simp[List.getD,List.getElem?_set_ne this]
theorem akL(c:aF){i j:Nat}{v:SV}{c':aF}(h:qM c i j v=some c'):c'.n=c.n∧c'.size=c.size:=by
 cases c<;>simp only[qM]at h
 case dZ=>simp only[Option.some.injEq]at h;subst h;exact⟨rfl,rfl⟩
 case ad=>
  simp only[Option.map_eq_some_iff]at h
  obtain⟨y,_,rfl⟩:=h
  simp[aF.n,aF.size]
 all_goals
  split at h<;>first
   |(simp only[Option.some.injEq]at h;subst h;simp[aF.n,aF.size];done)
   |(rw[Bool.cond_eq_ite]at h;split at h<;>first|(simp only[Option.some.injEq]at h;subst h;simp[aF.n,aF.size];done)|cases h)
   |cases h
theorem yx(c:aF){i j:Nat}{v:SV}{c':aF}(h:qM c i j v=some c')(hi:i<c.n)(hj:j<c.size){u:Value}(hu:aK O w v u):
 aK O w (c'.cell i j) u∧∀i' j',i'<c.n→j'<c.size→(i'≠i∨j'≠j)→c'.cell i' j'=c.cell i' j':=by
 cases c<;>simp only[qM]at h
 case ints k zs=>
  simp only[aF.n,aF.size]at hi hj
  split at h<;>first
   |cases h
   |(rw[Bool.cond_eq_ite]at h
     split at h
     ·rename_i hk
      obtain rfl:=aY hk
      simp only[Option.some.injEq]at h
      subst h
      cases hu
      simp only[aF.cell,aF.n,aF.size]
      refine⟨by simp[List.getD,hi];exact .int _ _,fun i' j' eF js cu=> ?_⟩
      have:i≠i':=by omega
      simp[List.getD,List.getElem?_set_ne this]
     ·cases h)
 case strs zs=>
  simp only[aF.n,aF.size]at hi hj
  split at h<;>simp only[Option.some.injEq,reduceCtorEq]at h
  subst h
  cases hu
  simp only[aF.cell,aF.n,aF.size]
  refine⟨by simp[List.getD,hi];exact .str _,fun i' j' eF js cu=> ?_⟩
  have:i≠i':=by omega
  simp[List.getD,List.getElem?_set_ne this]
 case bD zs=>
  simp only[aF.n,aF.size]at hi hj
  split at h<;>simp only[Option.some.injEq,reduceCtorEq]at h
  all_goals
   subst h
   cases hu
   simp only[aF.cell,aF.n,aF.size]
   refine⟨by simp[List.getD,hi];exact .bool _,fun i' j' eF js cu=> ?_⟩
   have:i≠i':=by omega
   simp[List.getD,List.getElem?_set_ne this]
 case ad cs xs=>
  simp only[aF.n,aF.size]at hi hj
  simp only[Option.map_eq_some_iff]at h
  obtain⟨y,h1,rfl⟩:=h
  obtain⟨h2,h3⟩:=qW h1
  simp only[aF.cell,aF.n,aF.size]
  refine⟨by rw[show(xs.set i y).getD i (CL.d cs)=y from by simp[List.getD,hi]];exact h2 O w u hu,fun i' j' eF js cu=> ?_⟩
  by_cases hii:i'=i
  ·subst hii
   rw[show(xs.set i' y).getD i' (CL.d cs)=y from by simp[List.getD,hi]]
   exact h3 j' (by omega)
  ·have:i≠i':=fun e=>hii e.symm
   simp[List.getD,List.getElem?_set_ne this]
 case dZ s n get=>
  simp only[Option.some.injEq]at h
  subst h
  simp only[aF.cell]
  refine⟨by simp[hu],fun i' j' _ _ cu=> ?_⟩
  have:(i'==i&&j'==j)=false:=by
   rcases cu with h|h<;>simp[h]
  simp[this]
theorem qX:∀(je:List AV) (c:aF) {i j:Nat} {c':aF} {vs:List Value},er c i j je=some c'→an ρ H O w je vs→i<c.n→j+fF je≤c.size→
 c'.n=c.n∧c'.size=c.size∧vs.length=fF je∧(∀l u,vs[l]? =some u→aK O w (c'.cell i (j+l)) u)∧
 ∀i' j',i'<c.n→j'<c.size→(i'≠i∨j'<j∨j+fF je≤j')→c'.cell i' j'=c.cell i' j'
 |[],c,i,j,c',vs,h,hd,hi,hj=>by
  simp only[er,Option.some.injEq]at h
  subst h
  obtain rfl:=ao.1 hd
  exact⟨rfl,rfl,rfl,by simp,fun _ _ _ _ _=>rfl⟩
 |a::aA,c,i,j,c',vs,h,hd,hi,hj=>by
  cases a with
  |s v=>
   simp only[er,Option.bind_eq_some_iff]at h
   obtain⟨c1,h1,h2⟩:=h
   obtain⟨cs1,cs2,rfl,hv,hr⟩:=af.1 hd
   unfold aC at hv
   obtain⟨u,rfl,hu⟩:=hv
   simp only[fF,AV.wide]at hj
   obtain⟨n1,s1⟩:=akL c h1
   obtain⟨g1,g2⟩:=yx c h1 hi (by omega) hu
   obtain⟨k1,k2,k3,k4,k5⟩:=qX aA c1 h2 hr (by omega) (by omega)
   refine⟨k1.trans n1,k2.trans s1,by simp[k3,fF,AV.wide];omega,fun l x hx=> ?_,fun i' j' eF js cu=> ?_⟩
   ·cases l with
    |zero=>
     simp at hx
     subst hx
     rw[Nat.add_zero,k5 i j (by omega) (by omega) (by omega)]
     exact g1
    |succ l=>
     have:=k4 l x (by simpa using hx)
     rw[show j+(l+1)=j+1+l from by omega]
     exact this
   ·simp only[fF,AV.wide]at cu
    rw[k5 i' j' (by omega) (by omega) (by omega)]
    exact g2 i' j' eF js (by omega)
  |ints k n ws=>
   simp only[er,Option.bind_eq_some_iff]at h
   obtain⟨c1,h1,h2⟩:=h
   obtain⟨cs1,cs2,rfl,hv,hr⟩:=af.1 hd
   unfold aC at hv
   obtain⟨hl,rfl⟩:=hv
   simp only[fF,AV.wide]at hj
   obtain⟨n1,s1,g1,g2⟩:=acF h1 hi
   obtain⟨k1,k2,k3,k4,k5⟩:=qX aA c1 h2 hr (by omega) (by omega)
   refine⟨k1.trans n1,k2.trans s1,by simp[k3,fF,AV.wide,hl],fun l x hx=> ?_,fun i' j' eF js cu=> ?_⟩
   ·rcases Nat.lt_or_ge l n with h5|h5
    ·rw[List.getElem?_append_left (by simp;omega)]at hx
     simp only[List.getElem?_map,Option.map_eq_some_iff]at hx
     obtain⟨z,hz,rfl⟩:=hx
     rw[k5 i (j+l) (by omega) (by omega) (by omega),g1 l h5,show ws.getD l 0=z from by simp[List.getD,hz]]
     exact .int _ _
    ·rw[List.getElem?_append_right (by simp;omega)]at hx
     simp only[List.length_map,hl]at hx
     have:=k4 (l - n) x hx
     rw[show j+n+(l - n)=j+l from by omega]at this
     exact this
   ·simp only[fF,AV.wide]at cu
    rw[k5 i' j' (by omega) (by omega) (by omega)]
    exact g2 i' j' (by omega)
  |_=>simp[er]at h
theorem w7(cs:List CK):∀(je:List AV) (xs:List (CL cs)) (i j:Nat),i<xs.length→(mA cs (xs.getD i (CL.d cs)) j je).map (fun y=>aF.ad cs (xs.set i y))=er (.ad cs xs) i j je
 |[],xs,i,j,hi=>by
  simp only[mA,er,Option.map_some,Option.some.injEq,aF.ad.injEq,heq_eq_eq,true_and]
  have:xs.getD i (CL.d cs)=xs[i]:=by simp[List.getD,hi]
  rw[this,List.set_getElem_self]
 |a::aA,xs,i,j,hi=>by
  have step:∀(y:CL cs) (k:Nat),(mA cs y k aA).map (fun y=>aF.ad cs (xs.set i y))=er (.ad cs (xs.set i y)) i k aA:=fun y k=>by
   rw[←w7 cs aA (xs.set i y) i k (by rw[List.length_set];exact hi)]
   have:(xs.set i y).getD i (CL.d cs)=y:=by simp[List.getD,hi]
   rw[this]
   congr 1
   funext z
   rw[List.set_set]
  cases a with
  |s v=>
   simp only[mA,er,qM]
   cases CL.set cs (xs.getD i (CL.d cs)) j v with
   |none=>rfl
   |some y=>exact step y (j+1)
  |ints k n ws=>
   simp only[mA,er,nA]
   cases CL.setRow cs (xs.getD i (CL.d cs)) j k n ws with
   |none=>rfl
   |some y=>exact step y (j+n)
  |_=>rfl
theorem ahs:∀(je:List AV) (c:aF) {i j:Nat} {c':aF} {vs:List Value},adV c i j je=some c'→an ρ H O w je vs→i<c.n→j+fF je≤c.size→
 c'.n=c.n∧c'.size=c.size∧vs.length=fF je∧(∀l u,vs[l]? =some u→aK O w (c'.cell i (j+l)) u)∧
 ∀i' j',i'<c.n→j'<c.size→(i'≠i∨j'<j∨j+fF je≤j')→c'.cell i' j'=c.cell i' j':=by
 intro je c i j c' vs h hd hi hj
 refine qX je c ?_ hd hi hj
 cases c with
 |ad cs xs=>rw[←h];exact(w7 cs je xs i j hi).symm
 |_=>exact h
theorem yy(l vs:List Value)(o:Nat)(h:o+vs.length≤l.length)(i:Nat):(l.take o++vs++l.drop (o+vs.length))[i]? =if o≤i∧i<o+vs.length then vs[i - o]? else l[i]? :=by
 have hto:(l.take o).length=o:=by simp;omega
 by_cases h1:i<o
 ·rw[if_neg (by omega),List.append_assoc,List.getElem?_append_left (by omega),List.getElem?_take,if_pos h1]
 ·by_cases h2:i<o+vs.length
  ·rw[if_pos (by omega),List.getElem?_append_left (by simp;omega),List.getElem?_append_right (by omega),hto]
  ·rw[if_neg (by omega),List.getElem?_append_right (by simp;omega),List.getElem?_drop]
   congr 1
   simp
   omega
theorem gA{α:Type}(l:List α)(i:Nat)(d:α)(h:i<l.length):l[i]? =some (l.getD i d):=by
 simp[List.getD,List.getElem?_eq_getElem h]
theorem aht{size i i' j j' f:Nat}(hj:j<size)(js:j'<size)(h:f+i*size+j=f+i'*size+j'):i=i'∧j=j':=by
 have h1:i*size+j=i'*size+j':=by omega
 have h2:(i*size+j) / size=i:=by rw[Nat.mul_comm,Nat.mul_add_div (by omega),Nat.div_eq_of_lt hj];rfl
 have h3:(i'*size+j') / size=i':=by rw[Nat.mul_comm,Nat.mul_add_div (by omega),Nat.div_eq_of_lt js];rfl
 have:i=i':=by rw[←h2,←h3,h1]
 subst this
 exact⟨rfl,by omega⟩
theorem afS{t:TypeId}{a x:AV}{va vx:Value}{q:bx}(h:(acp P t a x).eval H=some q)(hs:Sat ρ H G w)
 (ha:ab ρ H (aL ρ H G) w a va) (hx:ab ρ H (aL ρ H G) w x vx):
 ∃w',(Instr.storeAt t va vx).run P w=.ok () w'∧∀base,Good ρ H G w (c8 H q.up base q.new) (q.r base) undef w':=by
 unfold acp at h
 split at h
 ·rename_i sz wc bI px
  split at h
  ·
   rename_i id off
   unfold ab ay at ha
   obtain⟨b,hb,rfl,_⟩:=ha
   simp only[RM.eval]at h
   split at h
   ·rename_i ak e ho
    obtain⟨cells,fr,h1,h2,h3⟩:=nD hs ho hb
    cases wc
    ·simp only[cond_false]at h
     rw[Bool.cond_eq_ite]at h
     split at h
     ·rename_i hc
      simp only[Bool.and_eq_true,Nat.beq_eq]at hc
      obtain⟨hsg,rfl⟩:=hc
      split at h
      ·rename_i eu mK
       simp only[RM.eval,Option.some.injEq]at h
       subst h
       obtain⟨h4,h5⟩:=lS ak off mK h3 hsg hx
       obtain⟨h6,h7⟩:=jJ hsg hx
       refine⟨_,ki bI (by rw[kV h7];rfl) (bH off _ 0 h1 h2 (by rw[kV h7];simp;omega) (by rw[kV h7];simpa using h7)),fun base=> ?_⟩
       simp only[fw,kV h7,Nat.add_zero,List.length_singleton]
       exact Good.tP hs ho hb h1 h2 (by simp;omega) (by rw[kC _ _ _ h4];exact h5)
      ·cases h
     ·cases h
    ·simp only[cond_true]at h
     split at h
     ·rename_i je hby
      rw[Bool.cond_eq_ite]at h
      split at h
      ·rename_i hc
       simp only[Bool.and_eq_true,Nat.beq_eq]at hc
       obtain⟨hw,_⟩:=hc
       split at h
       ·rename_i eu aoE
        simp only[RM.eval,Option.some.injEq]at h
        subst h
        have h4:=pH hby hx
        have h5:=iD h4
        obtain⟨h6,h7⟩:=tI aoE h3 h4
        refine⟨_,ki bI (h5.trans hw) (bH off _ 0 h1 h2 (by omega) (tJ je h4)),fun base=> ?_⟩
        simp only[fw,Nat.add_zero]
        exact Good.tP hs ho hb h1 h2 (by simp only[List.length_append,List.length_take,List.length_drop];omega) h7
       ·cases h
      ·cases h
     ·cases h
   ·cases h
  ·
   rename_i id off n i
   unfold ab ay at ha
   obtain⟨dm,b,hb,rfl,_⟩:=ha
   simp only[RM.eval]at h
   split at h
   ·rename_i ak e ho
    obtain⟨cells,fr,h1,h2,h3⟩:=nD hs ho hb
    split at h
    ·rename_i k m ws k' l y akG mI
     rw[Bool.cond_eq_ite]at h
     split at h
     ·rename_i hc
      simp only[Bool.and_eq_true,Bool.not_eq_true',Nat.beq_eq]at hc
      obtain⟨⟨⟨rfl,hk⟩,rfl⟩,rfl⟩:=hc
      obtain rfl:=aY hk
      split at h
      ·rename_i eu mK
       simp only[RM.eval,Option.some.injEq]at h
       subst h
       obtain rfl:=bL mI hx
       obtain⟨hl,pre,post,rfl,hp⟩:=nC ak off akG h3
       have h4:=mG ak off akG mK (by simp) h3 hp
       have bd:off+i<(pre++ws.map (Value.int k)++post).length:=by simp;omega
       refine⟨_,ki bI rfl (bH (off+i) [.int k y] 0 h1 h2 (by simp;omega) (by simp[Value.oneCell'])),fun base=> ?_⟩
       simp only[fw,Nat.add_zero,List.length_singleton]
       refine Good.tP hs ho hb h1 h2 (by rw[kC _ _ _ bd];simp) ?_
       rw[kC _ _ _ bd,List.append_assoc,List.set_append_right _ _ (by omega),List.set_append_left _ _ (by simp;omega),show off+i - pre.length=i from by omega,←List.append_assoc]
       rw[List.map_set]at h4
       exact h4
      ·cases h
     ·cases h
    ·cases h
   ·cases h
  ·
   rename_i id i j
   unfold ab ay at ha
   obtain⟨_,o,ho,hv⟩:=ha
   simp only[RM.eval]at h
   split at h
   ·rename_i c e de
    rw[ho]at de
    cases de
    obtain⟨hi,hj,b,f,n,cap,dM,rfl⟩:=hv c e rfl
    split at h
    ·rename_i je hby
     rw[Bool.cond_eq_ite]at h
     split at h
     ·rename_i hc
      simp only[Bool.and_eq_true,Nat.beq_eq]at hc
      obtain⟨hw,hle⟩:=hc
      have hle:=Nat.le_of_ble_eq_true hle
      split at h
      ·rename_i c' mK
       simp only[RM.eval,Option.some.injEq]at h
       subst h
       have h4:=pH hby hx
       obtain⟨k1,k2,k3,k4,k5⟩:=ahs je c mK h4 hi (by omega)
       obtain⟨a,afB,h5,h6,h7,h8⟩:=hs.obj id _ ho
       rw[dM]at h5
       cases h5
       rcases h8 with rfl|⟨b',o',cells,fr,us,e1,g1,g2,g3,g4⟩
       ·omega
       ·cases e1
        have lO:ef (ρ id)=some b:=by
         rw[dM]
         simp only[ef]
         rw[if_neg (by omega)]
        have hmul:i*c.size+c.size≤cap*c.size:=by
         rw[←Nat.succ_mul]
         exact Nat.mul_le_mul_right _ (by omega)
        have hlen:f+i*c.size+j+vx.cells.toList.length≤cells.length:=by omega
        have st:=jL (G:=G) (w:=w) (o':=.vec c' e) ho rfl lO (fun c1 e1 hc1=>by cases hc1;exact⟨c,e,rfl,k1,k2⟩)
         (.cells (cells.take (f+i*c.size+j)++vx.cells.toList++cells.drop (f+i*c.size+j+vx.cells.toList.length)).toArray e fr)
        refine⟨_,ki bI (k3.trans hw) (bH (f+i*c.size+j) _ 0 g1 g2.unm (by omega) (tJ je h4)),fun base=> ?_⟩
        simp only[fw,Nat.add_zero]
        refine Good.write hs ho rfl rfl lO (fun c1 e1 hc1=>by cases hc1;exact⟨c,e,rfl,k1,k2⟩) ?_ cG
        refine⟨some ⟨b,f,none⟩,cap,by rw[dM,k1],by omega,h7,.inr ⟨b,f,_,fr,fun i' j'=>if i'=i∧j≤j'∧j'<j+fF je then(vx.cells.toList.getD (j' - j) undef)else us i' j',rfl,eG g1, ?_, ?_, ?_⟩⟩
        ·exact g2.over (tJ je h4) hlen
        ·simp only[List.length_append,List.length_take,List.length_drop]
         rw[k2];omega
        ·intro i' j' eF js
         rw[k1]at eF
         rw[k2]at js
         rw[k2,yy _ _ _ hlen]
         dsimp only
         by_cases dm:i'=i∧j≤j'∧j'<j+fF je
         ·obtain⟨rfl,h9,sI⟩:=dm
          rw[if_pos ⟨by omega,by omega⟩,if_pos ⟨rfl,h9,sI⟩]
          have hx1:j' - j<vx.cells.toList.length:=by omega
          refine⟨by rw[show f+i'*c.size+j' - (f+i'*c.size+j)=j' - j from by omega];exact gA _ _ _ hx1, ?_⟩
          have:=k4 (j' - j) _ (gA _ _ undef hx1)
          rw[show j+(j' - j)=j' from by omega]at this
          exact this.step st.fI st.heap st.size
         ·rw[if_neg dm]
          have n6:¬(f+i*c.size+j≤f+i'*c.size+j'∧f+i'*c.size+j'<f+i*c.size+j+vx.cells.toList.length):=by
           rintro⟨h9,sI⟩
           have hd:f+i*c.size+(f+i'*c.size+j' - (f+i*c.size))=f+i'*c.size+j':=by omega
           obtain⟨h11,h12⟩:=aht (f:=f) (i:=i) (i':=i') (j:=f+i'*c.size+j' - (f+i*c.size)) (by omega) js hd
           subst h11
           exact dm ⟨rfl,by omega,by omega⟩
          rw[if_neg n6,k5 i' j' eF js (by omega)]
          obtain⟨h9,sI⟩:=g4 i' j' eF js
          exact⟨h9,sI.step st.fI st.heap st.size⟩
      ·cases h
     ·cases h
    ·cases h
   ·cases h
  ·cases h
 ·cases h
end
end Go.Sx
namespace Go.Sx
open Go
section
variable{ρ az:Nat→Value}{H H':aG}{G O O':Nat→Prop}{w w':World}{P:Program}
theorem yz{v:Value}{x:SV}(h:akA v=some x):aK O w x v:=by
 unfold akA at h
 split at h<;>simp only[Option.some.injEq,reduceCtorEq]at h<;>subst h
 ·exact .aJ _
 ·exact .aW _ _
 ·exact .str _
 ·exact .mw
 ·exact .acd
 ·exact .ace
 ·exact .acf
theorem tQ{v:Value}{a:AV}(h:pC v=some a):aC ρ H O w a [v]:=by
 unfold pC at h
 split at h
 ·simp only[Option.some.injEq]at h
  subst h
  unfold aC
  exact⟨_,rfl,none,rfl⟩
 ·simp only[Option.map_eq_some_iff]at h
  obtain⟨x,h1,rfl⟩:=h
  unfold aC
  exact⟨v,rfl,yz h1⟩
theorem mL:∀(vs:List Value) {aA:List AV},pD vs=some aA→an ρ H O w aA vs
 |[],aA,h=>by simp only[pD,Option.some.injEq]at h;subst h;exact ao.2 rfl
 |v::vs,aA,h=>by
  simp only[pD]at h
  split at h
  ·rename_i a dq h1 h2
   simp only[Option.some.injEq]at h
   subst h
   exact af.2 ⟨[v],vs,rfl,tQ h1,mL vs h2⟩
  ·cases h
theorem mM(k:IntKind):∀(cs:List Value),mz k cs=true→cs=(List.replicate cs.length (0:Int)).map (Value.int k)
 |[],_=>rfl
 |v::vs,h=>by
  unfold mz at h
  split at h
  ·rename_i hc;cases hc
  ·rename_i k' vs' hc
   cases hc
   simp only[Bool.and_eq_true]at h
   obtain rfl:=aY h.1
   have:=mM k vs h.2
   simp only[List.length_cons,List.replicate_succ,List.map_cons,List.cons.injEq,true_and]
   exact this
  ·cases h
theorem aae(P:Program)(d:Nat)(ih:∀t cs ak,gv P d t cs=some ak→an ρ H O w ak cs):∀(fs:List Field) (s0 s1:List AV) (r0 r1:List Value),
 fs.foldl (fun acc f=>match acc,dA P f.type with
  |some (ak,rest),some n=>(gv P d f.type (rest.take n)).map fun s=>(ak++s,rest.drop n)
  |_,_=>none) (some (s0,r0))=some (s1,r1)→∃s' c,s1=s0++s'∧r0=c++r1∧an ρ H O w s' c
 |[],s0,s1,r0,r1,h=>by
  simp only[List.foldl_nil,Option.some.injEq,Prod.mk.injEq]at h
  obtain⟨rfl,rfl⟩:=h
  exact⟨[],[],by simp,rfl,ao.2 rfl⟩
 |f::fs,s0,s1,r0,r1,h=>by
  simp only[List.foldl_cons]at h
  have jg:∀(fs:List Field),fs.foldl (fun(acc:Option (List AV×List Value)) f=>match acc,dA P f.type with
   |some (ak,rest),some n=>(gv P d f.type (rest.take n)).map fun s=>(ak++s,rest.drop n)
   |_,_=>none) none=none:=by
   intro fs
   induction fs with
   |nil=>rfl
   |cons f fs ih=>simp only[List.foldl_cons];exact ih
  cases bI:dA P f.type with
  |none=>rw[bI]at h;simp only[jg]at h;cases h
  |some n=>
   rw[bI]at h
   simp only[]at h
   cases hz:gv P d f.type (r0.take n)with
   |none=>rw[hz]at h;simp only[Option.map_none,jg]at h;cases h
   |some s=>
    rw[hz]at h
    simp only[Option.map_some]at h
    obtain⟨s',c,rfl,h1,h2⟩:=aae P d ih fs _ _ _ _ h
    refine⟨s++s',r0.take n++c,by simp, ?_,fa.2 ⟨_,_,rfl,ih _ _ _ hz,h2⟩⟩
    rw[List.append_assoc,←h1,List.take_append_drop]
theorem rT(P:Program):∀(d:Nat) (t:TypeId) (cs:List Value) (ak:List AV),gv P d t cs=some ak→an ρ H O w ak cs
 |0,t,cs,ak,h=>by simp[gv]at h
 |d+1,t,cs,ak,h=>by
  simp only[gv]at h
  split at h
  ·simp only[Option.bind_eq_some_iff]at h
   obtain⟨⟨s,rest⟩,h1,h2⟩:=h
   obtain⟨s',c,rfl,rfl,h3⟩:=aae P d (rT P d) _ _ _ _ _ h1
   simp only[]at h2
   split at h2
   ·simp only[Option.some.injEq]at h2
    subst h2
    simpa using h3
   ·cases h2
  ·split at h
   ·rename_i k hk
    rw[Bool.cond_eq_ite]at h
    split at h
    ·rename_i hc
     simp only[Bool.and_eq_true,beq_iff_eq]at hc
     obtain⟨hz,rfl⟩:=hc
     simp only[Option.some.injEq]at h
     subst h
     exact af.2 ⟨cs,[],by simp,cF.2 ⟨by simp,mM k cs hz⟩,ao.2 rfl⟩
    ·exact mL cs h
   ·exact mL cs h
  ·exact mL cs h
theorem aaf(ak:List AV):(AV.kB ak).jd=some ak:=by
 unfold AV.kB
 split<;>rfl
theorem nF{t:TypeId}{ak:List AV}(h:(zeroOf P t).bind AV.jd =some ak):∃i v,P.info? t=some i∧i.zero=some v∧an ρ H O w ak v.cells.toList:=by
 simp only[Option.bind_eq_some_iff]at h
 obtain⟨z,h1,h2⟩:=h
 unfold zeroOf at h1
 split at h1
 ·rename_i cs hz ha
  simp only[Option.bind_eq_some_iff]at hz
  obtain⟨i,hi,hz⟩:=hz
  simp only[Option.map_eq_some_iff]at h1
  obtain⟨ss,h3,rfl⟩:=h1
  rw[aaf]at h2
  simp only[Option.some.injEq]at h2
  subst h2
  exact⟨i,_,hi,hz,by simpa[Value.cells]using rT P 20 t _ _ h3⟩
 ·skip
  rename_i v hz ha
  simp only[Option.bind_eq_some_iff]at hz
  obtain⟨i,hi,hz⟩:=hz
  refine⟨i,v,hi,hz, ?_⟩
  have hc:=tQ (ρ:=ρ) (H:=H) (O:=O) (w:=w) h1
  have hv:v.oneCell'=true∧z.jd =some [z]:=by
   unfold pC at h1
   split at h1
   ·simp only[Option.some.injEq]at h1;subst h1;exact⟨rfl,rfl⟩
   ·simp only[Option.map_eq_some_iff]at h1
    obtain⟨x,h3,rfl⟩:=h1
    refine⟨(yz (O:=O) (w:=w) h3).one, ?_⟩
    unfold akA at h3
    split at h3<;>simp only[Option.some.injEq,reduceCtorEq]at h3<;>subst h3<;>rfl
  rw[hv.2]at h2
  simp only[Option.some.injEq]at h2
  subst h2
  rw[kV hv.1]
  exact af.2 ⟨[v],[],rfl,hc,ao.2 rfl⟩
 ·cases h1
theorem w8(hs:Sat ρ H G w){n:Nat}(hn:H n=none){ak:List AV}{e:TypeId}{cells:List Value}(hd:an ρ H (aL ρ H G) w ak cells):
 Good ρ H G w (aB H n (.own ak e)) (.ptr n 0) (.pointer (some ⟨w.heap.size,0,none⟩)) (w.alloc (.cells cells.toArray e)):=by
 have st:Step ρ H (aL ρ H G) w (fun j=>if j=n then .pointer (some ⟨w.heap.size,0,none⟩)else ρ j) (aB H n (.own ak e)) (aL (fun j=>if j=n then .pointer (some ⟨w.heap.size,0,none⟩)else ρ j) (aB H n (.own ak e)) G) (w.alloc (.cells cells.toArray e)):=by
  have ne:∀j x,H j=some x→j≠n:=fun j x hx e=>by subst e;rw[hn]at hx;cases hx
  refine⟨fun j x hx=>by simp[ne j x hx],fun j x hx=>⟨x,by simp[aB,ne j x hx,hx],fun c' e' hc=>⟨c',e',hc,rfl,rfl⟩⟩,fun b hb=> ?_,fun b hb _=>alloc_old hb,by rw[fh];omega⟩
  rcases hb with⟨j,x,hx,h1,h2⟩|hb
  ·by_cases hj:j=n
   ·subst hj;simp only[if_true,ef,Option.some.injEq]at h2;exact .inr (by omega)
   ·simp only[aB,hj,if_false]at hx h2
    exact .inl (.inl ⟨j,x,hx,h1,h2⟩)
  ·exact .inl (.inr hb)
 refine Good.fresh (root:=.pointer (some ⟨w.heap.size,0,none⟩)) hs hn rfl rfl rfl rfl (fun b hb=>by simpa[ef]using hb.symm) ?_ ?_
 ·exact⟨w.heap.size,cells,(0,0),rfl,kP,fun off _ h=>by omega,hd.step st⟩
 ·unfold ab ay
  exact⟨w.heap.size,by simp,rfl,by simp[aB]⟩
theorem acG(hs:Sat ρ H G w){n:Nat}(hn:H n=none){k:Nat}(hk:1≤k)(sK:k≤maxLen){e:TypeId}:
 Good ρ H G w (aB H n (.vec (.strs (List.replicate k ByteArray.empty)) e)) (.fW n 0 0) (.pointer (some ⟨w.heap.size,0,none⟩)) (w.alloc (.cells (List.replicate k (Value.string ByteArray.empty)).toArray e)):=by
 have pN:∀b,ef (.slice (some ⟨w.heap.size,0,none⟩) k k)=some b→b=w.heap.size:=by
  intro b hb
  simp only[ef]at hb
  split at hb
  ·cases hb
  ·simpa using hb.symm
 refine Good.fresh (root:=.slice (some ⟨w.heap.size,0,none⟩) k k) hs hn rfl rfl rfl rfl pN ?_ ?_
 ·refine⟨some ⟨w.heap.size,0,none⟩,k,by simp[aF.n],by simp[aF.n],sK,.inr ⟨w.heap.size,0,List.replicate k (Value.string ByteArray.empty),(0,0),fun _ _=>.string ByteArray.empty,rfl,kP,⟨fun off _ h=>by omega,fun u hu=> ?_⟩,by simp[aF.size],fun i j hi hj=> ?_⟩⟩
  ·rw[(List.mem_replicate.1 hu).2];rfl
  ·simp only[aF.n,List.length_replicate]at hi
   simp only[aF.size]at hj ⊢
   obtain rfl:j=0:=by omega
   refine⟨by simp[hi], ?_⟩
   simp only[aF.cell]
   rw[show(List.replicate k ByteArray.empty).getD i ByteArray.empty=ByteArray.empty from by simp[List.getD,hi]]
   exact aK.str _
 ·unfold ab ay
  exact⟨rfl,.vec (.strs (List.replicate k ByteArray.empty)) e,by simp[aB],fun c' e' hc=>by
   cases hc
   exact⟨by simp[aF.n];omega,by simp[aF.size],w.heap.size,0,k,k,by simp,by simp[aF.size]⟩⟩
theorem acH{t:TypeId}{n:Nat}(h:yi P t=some n):1≤n∧n≤4096∧∃i v,P.info? t=some i∧i.zero=some v∧v.cells=(List.replicate n (Value.string ByteArray.empty)).toArray:=by
 unfold yi at h
 split at h
 ·rename_i m e i _ hi
  split at h
  ·rename_i z _ hz
   rw[Bool.cond_eq_ite]at h
   split at h
   ·rename_i hc
    simp only[Option.some.injEq]at h
    subst h
    simp only[Bool.and_eq_true,Nat.beq_eq]at hc
    obtain⟨⟨⟨c1,c2⟩,c3⟩,c4⟩:=hc
    have c1:=Nat.le_of_ble_eq_true c1
    refine⟨by omega,Nat.le_of_ble_eq_true c2,i,z,hi,hz, ?_⟩
    rw[List.all_eq_true]at c4
    have:z.cells.toList=List.replicate m (Value.string ByteArray.empty):=List.eq_replicate_iff.2 ⟨by rw[Array.length_toList];exact c3,fun b hb=>by
     have:=c4 b hb
     split at this
     ·rename_i s
      have h0:s.size=0:=by simpa using this
      have:s=ByteArray.empty:=ByteArray.ext (Array.eq_empty_of_size_eq_zero h0)
      rw[this]
     ·cases this⟩
    rw[←this]
   ·cases h
  ·cases h
 ·cases h
theorem afT{t:TypeId}{q:bx}(h:(acs P t).eval H=some q)(hs:Sat ρ H G w){base:Nat}(hb:∀i,i<q.new.length→H (base+i)=none)(old:Value):
 ∃v w',(Instr.alloc t true old).run P w=.ok v w'∧Good ρ H G w (c8 H q.up base q.new) (q.r base) v w':=by
 unfold acs at h
 split at h
 ·rename_i n hz
  simp only[RM.eval,Option.some.injEq]at h
  subst h
  obtain⟨h1,h2,i,v,hi,hv,hc⟩:=acH hz
  have hn:H base=none:=by simpa using hb 0 (by simp)
  refine⟨.pointer (some ⟨w.heap.size,0,none⟩),w.alloc (.cells v.cells t), ?_, ?_⟩
  ·simp[Instr.alloc,zeroValue,typeInfo,hi,hv,newVar,newRow];try rfl
  ·simp only[iG]
   have:=acG hs hn h1 (by unfold maxLen;omega) (e:=t)
   rw[hc]
   simpa using this
 split at h
 ·rename_i ak hz
  simp only[RM.eval,Option.some.injEq]at h
  subst h
  obtain⟨i,v,hi,hv,hd⟩:=nF (ρ:=ρ) (H:=H) (O:=aL ρ H G) (w:=w) hz
  have hn:H base=none:=by simpa using hb 0 (by simp)
  refine⟨.pointer (some ⟨w.heap.size,0,none⟩),w.alloc (.cells v.cells t), ?_, ?_⟩
  ·simp[Instr.alloc,zeroValue,typeInfo,hi,hv,newVar,newRow];try rfl
  ·simp only[iG]
   have:=w8 hs hn (e:=t) hd
   simpa using this
 ·cases h
theorem akM{t:TypeId}{x:AV}{vx:Value}{q:bx}(h:(aot t x).eval H=some q)(hs:Sat ρ H G w)(hd:ab ρ H (aL ρ H G) w x vx){base:Nat}(hb:∀i,i<q.new.length→H (base+i)=none):
 ∃v w',(Instr.box t vx).run P w=.ok v w'∧Good ρ H G w (c8 H q.up base q.new) (q.r base) v w':=by
 unfold aot at h
 split at h
 ·rename_i ak hz
  simp only[RM.eval,Option.some.injEq]at h
  subst h
  have hn:H base=none:=by simpa using hb 0 (by simp)
  refine⟨.pointer (some ⟨w.heap.size,0,none⟩),w.alloc (.cells vx.cells t), ?_, ?_⟩
  ·simp[Instr.box,newVar,newRow];try rfl
  ·simp only[iG]
   have:=w8 hs hn (e:=t) (pH hz hd)
   simpa using this
 ·cases h
end
end Go.Sx
namespace Go.Sx
open Go
section
variable{ρ az:Nat→Value}{H H':aG}{G O O':Nat→Prop}{w w':World}{P:Program}
theorem w9(off:Nat):∀(vs:List Value) (k:Nat) (cells:Array Value),off+k+vs.length≤cells.size→
 ((vs.zipIdx k).foldl (fun(cs:Array Value) (x:Value×Nat)=>cs.setIfInBounds (off+x.2) x.1) cells).toList=cells.toList.take (off+k)++vs++cells.toList.drop (off+k+vs.length)
 |[],k,cells,_=>by simp
 |v::vs,k,cells,h=>by
  simp only[List.length_cons]at h
  simp only[List.zipIdx_cons,List.foldl_cons]
  rw[w9 off vs (k+1) _ (by simp;omega)]
  have bd:off+k<cells.toList.length:=by simp;omega
  simp only[Array.toList_setIfInBounds]
  rw[←Nat.add_assoc,List.take_set,List.drop_set_of_lt (by omega)]
  have e1:(cells.toList.take (off+k+1)).set (off+k) v=cells.toList.take (off+k)++[v]:=by
   rw[List.take_succ_eq_append_getElem bd]
   rw[List.set_append_right _ _ (by simp;omega)]
   simp at bd
   simp[Nat.min_eq_left (Nat.le_of_lt bd)]
  rw[e1]
  simp only[List.append_assoc,List.length_cons,List.cons_append,List.nil_append]
  rw[show off+k+1+vs.length=off+k+(vs.length+1)from by omega]
theorem sY{place:Nat→Option (Nat×Nat)}{ev:Operand→AV}{e:Operand→Value}:∀(l:List (Nat×Operand)) (ak ss:List AV) (cells:Array Value),(∀p∈l,ab ρ H O w (ev p.2) (e p.2))→
 oL place ak (l.map fun p=>(p.1,ev p.2))=some ss→an ρ H O w ak cells.toList→
 ∃dV,Instr.fill place cells (l.map fun p=>(p.1,e p.2))=some dV∧an ρ H O w ss dV.toList
 |[],ak,ss,cells,_,h,hd=>by
  simp only[List.map_nil,oL,Option.some.injEq]at h
  subst h
  exact⟨cells,rfl,hd⟩
 |(i,x)::l,ak,ss,cells,hp,h,hd=>by
  simp only[List.map_cons,oL]at h
  split at h
  ·rename_i off size je hpl hby
   rw[Bool.cond_eq_ite]at h
   split at h
   ·rename_i hc
    simp only[Bool.and_eq_true,Nat.beq_eq]at hc
    simp only[Option.bind_eq_some_iff]at h
    obtain⟨s1,h1,h2⟩:=h
    have hx:=pH hby (hp (i,x) (by simp))
    have hlen:=iD hx
    obtain⟨h3,h4⟩:=tI h1 hd hx
    simp only[Array.length_toList]at hlen h3
    obtain⟨dV,h5,h6⟩:=sY l s1 ss ((e x).cells.zipIdx.foldl (fun cs (c,j)=>cs.setIfInBounds (off+j) c) cells) (fun p w4=>hp p (by simp[w4])) h2 (by
     rw[←Array.foldl_toList,Array.toList_zipIdx]
     have:=w9 off (e x).cells.toList 0 cells (by simpa using h3)
     simp only[Nat.add_zero]at this
     rw[this]
     exact h4)
    refine⟨dV, ?_,h6⟩
    simp only[List.map_cons,Instr.fill,hpl]
    rw[if_neg (by simp;omega)]
    exact h5
   ·cases h
  ·cases h
theorem rU(P:Program)(w:World):∀(fs:List Field),fs.all (fun f=>(dA P f.type).isSome)=true→
 (fs.mapM (m:=Sem) fun f=>do pure (f.offset,←sizeOf f.type)).run P w=.ok (fs.map fun f=>(f.offset,(dA P f.type).getD 0)) w
 |[],_=>by simp
 |f::fs,h=>by
  simp only[List.all_cons,Bool.and_eq_true]at h
  obtain⟨n,hn⟩:=Option.isSome_iff_exists.1 h.1
  have ih:=rU P w fs h.2
  simp only[List.mapM_cons,Sem.run_bind,run_sizeOf hn,Result.andThen_ok,Sem.run_pure,ih,List.map_cons,hn,Option.getD_some]
theorem afU{t:TypeId}{ps:Array (Nat×Operand)}{ev:Operand→AV}{e:Operand→Value}{q:bx}(h:(acu P t (ps.toList.map fun p=>(p.1,ev p.2))).eval H=some q)(hn:bt q.need)
 (hp:∀p∈ps,ab ρ H O w (ev p.2) (e p.2)):eK P ρ H O w q (Instr.build t (ps.map fun(i,x)=>(i,e x))):=by
 have w4:∀p∈ps.toList,ab ρ H O w (ev p.2) (e p.2):=fun p hm=>hp p (Array.mem_toList_iff.1 hm)
 unfold acu at h
 split at h
 ·rename_i ak fs hz ht
  obtain⟨i,v,hi,hv,hd⟩:=nF (ρ:=ρ) (H:=H) (O:=O) (w:=w) hz
  rw[Bool.cond_eq_ite]at h
  split at h
  ·rename_i yA
   split at h
   ·rename_i ss hss
    have hm:(fs.mapM (m:=Sem) fun f=>do pure (f.offset,←sizeOf f.type)).run P w=.ok (fs.toList.map fun f=>(f.offset,(dA P f.type).getD 0)).toArray w:=by
     rw[Array.mapM_eq_mapM_toList]
     simp only[Sem.run_map,rU P w fs.toList yA,Result.andThen_ok]
    have aoF:(fun i=>((fs.toList.map fun(f:Field)=>(f.offset,(dA P f.type).getD 0)).toArray)[i]?)=(fun(i:Nat)=>(fs[i]?).bind fun(f:Field)=>(dA P f.type).map fun n=>(f.offset,n)):=by
     funext i
     simp only[List.getElem?_toArray,List.getElem?_map,Array.getElem?_toList]
     cases hf:fs[i]? with
     |none=>rfl
     |some f=>
      have jt:f∈fs.toList:=Array.mem_toList_iff.2 (Array.mem_of_getElem? hf)
      obtain⟨n,hn⟩:=Option.isSome_iff_exists.1 (List.all_eq_true.1 yA f jt)
      simp[hn]
    obtain⟨dV,h1,h2⟩:=sY ps.toList ak ss v.cells w4 hss hd
    refine ax h (fun _=>⟨.agg dV, ?_,by simpa using kO h2⟩) hn
    rw[←aoF]at h1
    simp only[Instr.build,zeroValue,typeInfo,Sem.run_bind,run_program,Result.andThen_ok,hi,Sem.run_pure,hv,run_underlying ht,hm]
    simp only[Array.toList_map]
    erw [h1]
    rfl
   ·cases h
  ·cases h
 ·rename_i ak n el hz ht
  obtain⟨i,v,hi,hv,hd⟩:=nF (ρ:=ρ) (H:=H) (O:=O) (w:=w) hz
  split at h
  ·rename_i sz bI
   split at h
   ·rename_i ss hss
    obtain⟨dV,h1,h2⟩:=sY ps.toList ak ss v.cells w4 hss hd
    refine ax h (fun _=>⟨.agg dV, ?_,by simpa using kO h2⟩) hn
    simp only[Instr.build,zeroValue,typeInfo,Sem.run_bind,run_program,Result.andThen_ok,hi,Sem.run_pure,hv,run_underlying ht,run_sizeOf bI]
    simp only[Array.toList_map]
    erw [h1]
    rfl
   ·cases h
  ·cases h
 ·cases h
end
end Go.Sx
namespace Go.Sx
open Go
section
variable{ρ az:Nat→Value}{H H':aG}{G O O':Nat→Prop}{w w':World}{P:Program}
def Pts(O:Nat→Prop)(w:World)(l:List SV)(cs:List Value):Prop:=l.length=cs.length∧∀(i:Nat) (v:SV),l[i]? =some v→∃u,cs[i]? =some u∧aK O w v u
theorem akN:Pts O w [] ([]:List Value):=⟨rfl,by simp⟩
theorem tT{v:SV}{l:List SV}{cs:List Value}(h:Pts O w (v::l) cs):∃u jf,cs=u::jf∧aK O w v u∧Pts O w l jf:=by
 obtain⟨h1,h2⟩:=h
 cases cs with
 |nil=>simp at h1
 |cons u jf=>
  obtain⟨u',h3,h4⟩:=h2 0 v rfl
  simp at h3
  subst h3
  exact⟨_,_,rfl,h4,by simpa using h1,fun i x hx=>by simpa using h2 (i+1) x (by simpa using hx)⟩
theorem ahu{v:SV}{l:List SV}{u:Value}{cs:List Value}(h1:aK O w v u)(h2:Pts O w l cs):Pts O w (v::l) (u::cs):=
 ⟨by simp[h2.1],fun i x hx=>by
   cases i with
   |zero=>simp at hx;subst hx;exact⟨u,rfl,h1⟩
   |succ i=>simpa using h2.2 i x (by simpa using hx)⟩
theorem acI:∀(aA:List AV) {l:List SV} {cs:List Value},svs aA=some l→an ρ H O w aA cs→Pts O w l cs
 |[],l,cs,h,hd=>by
  simp only[svs,Option.some.injEq]at h
  subst h
  obtain rfl:=ao.1 hd
  exact akN
 |a::aA,l,cs,h,hd=>by
  obtain⟨c1,c2,rfl,h1,h2⟩:=af.1 hd
  rcases qT a with⟨k,n,ws,rfl⟩|ha
  ·simp[svs]at h
  ·have hs:svs (a::aA)=match a.sv?,svs aA with|some v,some vs=>some (v::vs)|_,_=>none:=by
    cases a<;>first|rfl|(exact(ha _ _ _ rfl).elim)
   rw[hs]at h
   split at h
   ·rename_i v vs hv hvs
    simp only[Option.some.injEq]at h
    subst h
    cases a with
    |s x=>
     unfold aC at h1
     obtain⟨u,rfl,hu⟩:=h1
     have:x=v:=by cases x<;>simp only[AV.sv?,Option.some.injEq,reduceCtorEq]at hv<;>exact hv
     subst this
     exact ahu hu (acI aA hvs h2)
    |emp=>
     unfold aC at h1
     obtain⟨u,rfl,x,rfl⟩:=h1
     simp only[AV.sv?,Option.some.injEq]at hv
     subst hv
     exact ahu (.ro (.dZ 1 0 fun _ _=>.aN) x 0 (fun _ _=>undef) 0 0 (Nat.le_refl _) (by simp[maxLen]) (by simp[aF.n]) (by simp[aF.n]) (by simp[aF.n])) (acI aA hvs h2)
    |_=>simp[AV.sv?]at hv
   ·cases h
theorem xa(k:IntKind):∀(l:List SV) {zs:List Int} {cs:List Value},oM k l=some zs→Pts O w l cs→zs.length=cs.length∧∀i,i<zs.length→∃u,cs[i]? =some u∧aK O w (.int k (zs.getD i 0)) u
 |[],zs,cs,h,hp=>by
  simp only[oM,Option.some.injEq]at h
  subst h
  exact⟨hp.1,by simp⟩
 |v::l,zs,cs,h,hp=>by
  obtain⟨u,jf,rfl,hu,w4⟩:=tT hp
  have key:∀k' n,aK O w (.int k' n) u→(bif bE k k' then(oM k l).map (n:: ·)else none)=some zs→zs.length=(u::jf).length∧∀i,i<zs.length→∃x,(u::jf)[i]? =some x∧aK O w (.int k (zs.getD i 0)) x:=by
   intro k' n hd h
   rw[Bool.cond_eq_ite]at h
   split at h
   ·rename_i hk
    obtain rfl:=aY hk
    simp only[Option.map_eq_some_iff]at h
    obtain⟨zs',h1,rfl⟩:=h
    obtain⟨h2,h3⟩:=xa k l h1 w4
    refine⟨by simp[h2],fun i hi=> ?_⟩
    cases i with
    |zero=>exact⟨u,rfl,by simpa using hd⟩
    |succ i=>simpa using h3 i (by simpa using hi)
   ·cases h
  cases v<;>simp only[oM,reduceCtorEq]at h
  case int k' n=>exact key k' n hu h
  case aW k' n=>cases hu;exact key k' n (.int _ _) h
theorem xb:∀(l:List SV) {zs:List ByteArray} {cs:List Value},qN l=some zs→Pts O w l cs→zs.length=cs.length∧∀i,i<zs.length→∃u,cs[i]? =some u∧aK O w (.str (zs.getD i ByteArray.empty)) u
 |[],zs,cs,h,hp=>by
  simp only[qN,Option.some.injEq]at h
  subst h
  exact⟨hp.1,by simp⟩
 |v::l,zs,cs,h,hp=>by
  obtain⟨u,jf,rfl,hu,w4⟩:=tT hp
  cases v<;>simp only[qN,reduceCtorEq]at h
  simp only[Option.map_eq_some_iff]at h
  obtain⟨zs',h1,rfl⟩:=h
  obtain⟨h2,h3⟩:=xb l h1 w4
  refine⟨by simp[h2],fun i hi=> ?_⟩
  cases i with
  |zero=>exact⟨u,rfl,by simpa using hu⟩
  |succ i=>simpa using h3 i (by simpa using hi)
theorem oT:∀(l:List SV) {zs:List Bool} {cs:List Value},nB l=some zs→Pts O w l cs→zs.length=cs.length∧∀i,i<zs.length→∃u,cs[i]? =some u∧aK O w (.bool (zs.getD i false)) u
 |[],zs,cs,h,hp=>by
  simp only[nB,Option.some.injEq]at h
  subst h
  exact⟨hp.1,by simp⟩
 |v::l,zs,cs,h,hp=>by
  obtain⟨u,jf,rfl,hu,w4⟩:=tT hp
  cases v<;>simp only[nB,reduceCtorEq]at h
  case bool b=>
   simp only[Option.map_eq_some_iff]at h
   obtain⟨zs',h1,rfl⟩:=h
   obtain⟨h2,h3⟩:=oT l h1 w4
   refine⟨by simp[h2],fun i hi=> ?_⟩
   cases i with
   |zero=>exact⟨u,rfl,by simpa using hu⟩
   |succ i=>simpa using h3 i (by simpa using hi)
  case aJ b=>
   simp only[Option.map_eq_some_iff]at h
   obtain⟨zs',h1,rfl⟩:=h
   obtain⟨h2,h3⟩:=oT l h1 w4
   refine⟨by simp[h2],fun i hi=> ?_⟩
   cases i with
   |zero=>cases hu;exact⟨_,rfl,by simpa using aK.bool _⟩
   |succ i=>simpa using h3 i (by simpa using hi)
theorem afV{cs:List CK}{f:Nat→SV}{x:CL cs}(h:CL.ofs cs f=some x):∀j,j<CL.wide cs→∀(O:Nat→Prop) (w:World) (u:Value),aK O w (f j) u→aK O w (CL.cell cs x j) u:=by
 unfold CL.ofs at h
 generalize CL.wide cs=m at h
 induction m generalizing x with
 |zero=>intro j hj;omega
 |succ m ih=>
  rw[List.range_succ,List.foldl_append]at h
  simp only[List.foldl_cons,List.foldl_nil,Option.bind_eq_some_iff]at h
  obtain⟨y,h1,h2⟩:=h
  obtain⟨h3,h4⟩:=qW h2
  intro j hj O w u hu
  by_cases hjm:j=m
  ·subst hjm;exact h3 O w u hu
  ·rw[h4 j hjm]
   exact ih h1 j (by omega) O w u hu
theorem aag{cs:List CK}{size:Nat}{cells:List SV}:∀{n i:Nat} {xs:List (CL cs)},wW cs size cells i n=some xs→xs.length=n∧∀k,k<n→∀j,j<CL.wide cs→∀(O:Nat→Prop) (w:World) (u:Value),
 aK O w (cells.getD ((i+k)*size+j) .aN) u→aK O w (CL.cell cs (xs.getD k (CL.d cs)) j) u
 |0,i,xs,h=>by
  simp only[wW,Option.some.injEq]at h
  subst h
  exact⟨rfl,fun k hk=>by omega⟩
 |n+1,i,xs,h=>by
  simp only[wW]at h
  split at h
  ·rename_i x ys h1 h2
   simp only[Option.some.injEq]at h
   subst h
   obtain⟨h3,h4⟩:=aag h2
   refine⟨by simp[h3],fun k hk j hj O w u hu=> ?_⟩
   cases k with
   |zero=>exact afV h1 j hj O w u (by simpa using hu)
   |succ k=>
    have:=h4 k (by omega) j hj O w u (by rw[show i+1+k=i+(k+1)from by omega];exact hu)
    simpa using this
  ·cases h
theorem ahv{sh:Shape}{size n:Nat}{l:List SV}{cs:List Value}(hp:Pts O w l cs)(hl:l.length=n*size)(hn:(rP sh size n l).n=n)(hs:(rP sh size n l).size=size):
 ∀i j,i<n→j<size→∃u,cs[i*size+j]? =some u∧aK O w ((rP sh size n l).cell i j) u:=by
 have hd:∀i j,i<n→j<size→∃u,cs[i*size+j]? =some u∧aK O w ((aF.dZ size n fun i j=>l.getD (i*size+j) .aN).cell i j) u:=by
  intro i j hi hj
  have bd:i*size+j<l.length:=by
   rw[hl]
   have:(i+1)*size≤n*size:=Nat.mul_le_mul_right _ (by omega)
   rw[Nat.succ_mul]at this
   omega
  obtain⟨u,h1,h2⟩:=hp.2 (i*size+j) l[i*size+j] (by simp[bd])
  refine⟨u,h1, ?_⟩
  simp only[aF.cell,List.getD,List.getElem?_eq_getElem bd,Option.getD_some]
  exact h2
 unfold rP at hn hs ⊢
 cases sh with
 |ints k=>
  cases hx:oM k l with
  |none=>simp only[hx,Option.elim]at hn hs ⊢;exact hd
  |some zs=>
   simp only[hx,Option.elim,aF.n,aF.size]at hn hs ⊢
   subst hs
   intro i j hi hj
   obtain rfl:j=0:=by omega
   obtain⟨h1,h2⟩:=xa k l hx hp
   simpa[aF.cell]using h2 i (by omega)
 |strs=>
  cases hx:qN l with
  |none=>simp only[hx,Option.elim]at hn hs ⊢;exact hd
  |some zs=>
   simp only[hx,Option.elim,aF.n,aF.size]at hn hs ⊢
   subst hs
   intro i j hi hj
   obtain rfl:j=0:=by omega
   obtain⟨h1,h2⟩:=xb l hx hp
   simpa[aF.cell]using h2 i (by omega)
 |bD=>
  cases hx:nB l with
  |none=>simp only[hx,Option.elim]at hn hs ⊢;exact hd
  |some zs=>
   simp only[hx,Option.elim,aF.n,aF.size]at hn hs ⊢
   subst hs
   intro i j hi hj
   obtain rfl:j=0:=by omega
   obtain⟨h1,h2⟩:=oT l hx hp
   simpa[aF.cell]using h2 i (by omega)
 |ad ck=>
  simp only[Bool.cond_eq_ite]at hn hs ⊢
  by_cases hw:(CL.wide ck).beq size=true
  ·simp only[hw,if_true]at hn hs ⊢
   cases hx:wW ck size l 0 n with
   |none=>simp only[hx,Option.elim]at hn hs ⊢;exact hd
   |some zs=>
    simp only[hx,Option.elim,aF.n,aF.size]at hn hs ⊢
    intro i j hi hj
    obtain⟨h1,h2⟩:=aag hx
    obtain⟨u,h3,h4⟩:=hd i j hi hj
    exact⟨u,h3,h2 i hi j (by omega) O w u (by rw[Nat.zero_add];exact h4)⟩
  ·simp only[hw]at hn hs ⊢
   exact hd
 |other=>exact hd
theorem tV{α:Type}(l:List α):∀n,(rep n l).length=n*l.length
 |0=>by simp[rep]
 |n+1=>by simp[rep,tV l n,Nat.succ_mul,Nat.add_comm]
theorem ad2{α:Type}(l:List α):∀(n k:Nat),k<n*l.length→(rep n l)[k]? =l[k%l.length]?
 |0,k,h=>by simp at h
 |n+1,k,h=>by
  simp only[rep]
  by_cases hk:k<l.length
  ·rw[List.getElem?_append_left hk,Nat.mod_eq_of_lt hk]
  ·rw[List.getElem?_append_right (by omega),ad2 l n (k - l.length) (by rw[Nat.succ_mul]at h;omega)]
   congr 1
   rw[Nat.mod_eq_sub_mod (by omega:l.length≤k)]
theorem rV{z:List AV}{cs:List Value}(h:an ρ H O w z cs):∀n,an ρ H O w (rep n z) (rep n cs)
 |0=>ao.2 rfl
 |n+1=>fa.2 ⟨_,_,rfl,h,rV h n⟩
theorem afW(zc:Array Value)(n:Nat):((Array.range (n*zc.size)).map (zc[· %zc.size]!)).toList=rep n zc.toList:=by
 apply List.ext_getElem?
 intro k
 simp only[Array.toList_map,Array.toList_range,List.getElem?_map]
 by_cases hk:k<n*zc.size
 ·rw[List.getElem?_range hk,ad2 _ _ _ (by simpa using hk)]
  have hz:0<zc.size:=by
   rcases Nat.eq_zero_or_pos zc.size with h0|h0
   ·rw[h0]at hk;omega
   ·exact h0
  have hm:k%zc.size<zc.size:=Nat.mod_lt _ hz
  simp[hm]
 ·rw[List.getElem?_eq_none (by simp;omega),List.getElem?_eq_none (by rw[tV];simp;omega)]
  rfl
end
end Go.Sx
namespace Go.Sx
open Go
section
variable{ρ az:Nat→Value}{H H':aG}{G O O':Nat→Prop}{w w':World}{P:Program}
theorem kW(hs:Sat ρ H G w){w1:World}(hw:w1.heap=w.heap)(ht:w1.tape=w.tape)(hos:w1.os=w.os)(n6:w1.output=w.output){n:Nat}(hn:H n=none){c:aF}{e:TypeId}{cells:List Value}{cap:Nat}
 (h1:c.n≤cap) (h2:cap≤maxLen) (h3:cap*c.size≤cells.length) (us:Nat→Nat→Value)
 (hd:∀i j,i<c.n→j<c.size→cells[i*c.size+j]? =some (us i j)∧aK (aL ρ H G) w (c.cell i j) (us i j)) (qY:∀u∈cells,u.oneCell'=true):
 Good ρ H G w (aB H n (.vec c e)) (.vec n) (.slice (some ⟨w.heap.size,0,none⟩) c.n cap) (w1.alloc (.cells cells.toArray e)):=by
 have pN:∀b,ef (.slice (some ⟨w.heap.size,0,none⟩) c.n cap)=some b→b=w.heap.size:=by
  intro b hb
  simp only[ef]at hb
  split at hb
  ·cases hb
  ·simpa using hb.symm
 have st:Step ρ H (aL ρ H G) w (fun j=>if j=n then .slice (some ⟨w.heap.size,0,none⟩) c.n cap else ρ j) (aB H n (.vec c e)) (aL (fun j=>if j=n then .slice (some ⟨w.heap.size,0,none⟩) c.n cap else ρ j) (aB H n (.vec c e)) G) (w1.alloc (.cells cells.toArray e)):=by
  have ne:∀j x,H j=some x→j≠n:=fun j x hx e=>by subst e;rw[hn]at hx;cases hx
  refine⟨fun j x hx=>by simp[ne j x hx],fun j x hx=>⟨x,by simp[aB,ne j x hx,hx],fun c' e' hc=>⟨c',e',hc,rfl,rfl⟩⟩,fun b hb=> ?_,fun b hb _=>by rw[alloc_old (by rw[hw];exact hb),hw],by rw[fh,hw];omega⟩
  rcases hb with⟨j,x,hx,h1,h2⟩|hb
  ·by_cases hj:j=n
   ·subst hj
    simp only[if_true]at h2
    exact .inr (by rw[pN b h2];exact Nat.le_refl _)
   ·simp only[aB,hj,if_false]at hx h2
    exact .inl (.inl ⟨j,x,hx,h1,h2⟩)
  ·exact .inl (.inr hb)
 refine Good.fresh (root:=.slice (some ⟨w.heap.size,0,none⟩) c.n cap) hs hn hw ht hos n6 pN ?_ ?_
 ·refine⟨_,cap,rfl,h1,h2,.inr ⟨w.heap.size,0,cells,(0,0),us,rfl,by rw[←hw];exact kP,⟨fun off _ h=>by omega,qY⟩,by omega,fun i j hi hj=> ?_⟩⟩
  obtain⟨g1,g2⟩:=hd i j hi hj
  exact⟨by rw[Nat.zero_add];exact g1,g2.step st.fI st.heap st.size⟩
 ·unfold ab ay
  exact⟨rfl,.vec c e,by simp[aB],fun c' e' hc=>by simp⟩
theorem tW{t:TypeId}{n:Nat}{ps:Array (Nat×Operand)}{ev:Operand→AV}{e:Operand→Value}{q:bx}(h:(mB P t n (ps.toList.map fun p=>(p.1,ev p.2))).eval H=some q)
 (hs:Sat ρ H G w) (hp:∀p∈ps,ab ρ H (aL ρ H G) w (ev p.2) (e p.2)) {base:Nat} (hb:∀i,i<q.new.length→H (base+i)=none):
 ∃v w',(Instr.buildSlice t n (ps.map fun(i,x)=>(i,e x))).run P w=.ok v w'∧Good ρ H G w (c8 H q.up base q.new) (q.r base) v w':=by
 have w4:∀p∈ps.toList,ab ρ H (aL ρ H G) w (ev p.2) (e p.2):=fun p hm=>hp p (Array.mem_toList_iff.1 hm)
 unfold mB at h
 split at h
 ·rename_i el ht
  split at h
  ·rename_i sz z bI hz
   rw[Bool.cond_eq_ite]at h
   split at h
   ·rename_i hc
    simp only[Bool.and_eq_true,Nat.beq_eq]at hc
    obtain⟨⟨c1,c2⟩,c3⟩:=hc
    have c1:=Nat.le_of_ble_eq_true c1
    have c2:=Nat.le_of_ble_eq_true c2
    split at h
    ·rename_i l hl
     simp only[Option.bind_eq_some_iff]at hl
     obtain⟨ss,aoE,hsv⟩:=hl
     rw[Bool.cond_eq_ite]at h
     split at h
     ·rename_i hc
      simp only[Bool.and_eq_true,Nat.beq_eq]at hc
      obtain⟨⟨d1,d2⟩,d3⟩:=hc
      simp only[RM.eval,Option.some.injEq]at h
      subst h
      obtain⟨i,v,hi,hv,hd⟩:=nF (ρ:=ρ) (H:=H) (O:=aL ρ H G) (w:=w) hz
      have hlz:v.cells.size=sz:=by rw[←Array.length_toList,iD hd,c3]
      have yB:((Array.range (n*sz)).map (v.cells[· %v.cells.size]!)).toList=rep n v.cells.toList:=by rw[←hlz];exact afW _ _
      obtain⟨dV,h1,h2⟩:=sY ps.toList _ ss ((Array.range (n*sz)).map (v.cells[· %v.cells.size]!)) w4 aoE (by rw[yB];exact rV hd n)
      have aqS:=acI ss hsv h2
      have aqT:=ahv aqS d1 d2 d3
      have hcl:dV.toList.length=n*sz:=by rw[←aqS.1,d1]
      have hn:H base=none:=by simpa using hb 0 (by simp)
      refine⟨.slice (some ⟨w.heap.size,0,none⟩) n n,w.alloc (.cells dV el), ?_, ?_⟩
      ·have aah:¬(n*sz>2^24):=by omega
       have key:∀zc:Array Value,((Array.range (n*sz)).map (zc[· %zc.size]!))=((Array.range (n*sz)).map (v.cells[· %v.cells.size]!))→
        (match Instr.fill (fun i=>some (i*sz,sz)) ((Array.range (n*sz)).map (zc[· %zc.size]!)) (ps.map fun(i,x)=>(i,e x)).toList with
          |some cells=>do
           let a ←newRow el cells
           pure (Value.slice (some a) n n)
          |_=>stuck "buildSlice: a part of the wrong size" :Sem Value).run P w=.ok (.slice (some ⟨w.heap.size,0,none⟩) n n) (w.alloc (.cells dV el)):=by
        intro zc hz
        rw[hz]
        simp only[Array.toList_map]
        erw [h1]
        simp[newRow]
       simp only[Instr.buildSlice,Sem.run_bind,run_underlying ht,Result.andThen_ok,run_sizeOf bI,aah,if_false]
       by_cases h0:n*sz=0
       ·rw[if_pos h0]
        simp only[Sem.run_bind,Sem.run_pure,Result.andThen_ok]
        exact key #[] (by have:Array.range (n*sz)= #[]:=by rw[h0];rfl
                          rw[this];simp)
       ·rw[if_neg h0]
        simp only[Sem.run_bind,Sem.run_pure,Result.andThen_ok,zeroValue,typeInfo,run_program,hi,hv]
        exact key v.cells rfl
      ·simp only[iG]
       have:=kW hs (w1:=w) rfl rfl rfl rfl hn (c:=rP (shapeOf P el) sz n l) (e:=el) (cells:=dV.toList) (cap:=n) (by omega) (by simp only[maxLen];have:n≤n*sz:=Nat.le_mul_of_pos_right n (by omega);omega) (by rw[d3,hcl];exact Nat.le_refl _)
        (fun i j=>dV.toList.getD (i*sz+j) undef) (fun i j hi hj=>by
          rw[d2]at hi
          rw[d3]at hj ⊢
          obtain⟨u,g1,g2⟩:=aqT i j hi hj
          have bd:i*sz+j<dV.toList.length:=(List.getElem?_eq_some_iff.1 g1).1
          rw[gA _ _ undef bd]at g1
          simp only[Option.some.injEq]at g1
          exact⟨gA _ _ _ bd,by rw[g1];exact g2⟩) (fun u hu=>by
          obtain⟨k,hk,rfl⟩:=List.getElem_of_mem hu
          rw[hcl]at hk
          have hp:0<sz:=by rcases Nat.eq_zero_or_pos sz with h0|h0
                           ·rw[h0]at hk;omega
                           ·exact h0
          obtain⟨u,g1,g2⟩:=aqT (k / sz) (k%sz) (Nat.div_lt_of_lt_mul (by rw[Nat.mul_comm];exact hk)) (Nat.mod_lt _ hp)
          rw[show k / sz*sz+k%sz=k from Nat.div_add_mod' k sz,List.getElem?_eq_getElem (by rw[hcl];exact hk)]at g1
          cases g1
          exact g2.one)
       simpa[d2]using this
     ·cases h
    ·cases h
   ·cases h
  ·cases h
 ·cases h
theorem xc:∀(r need c:Nat),c≤2*need+192→Builtin.growBy need r c≤2*need+192
 |0,need,c,h=>h
 |r+1,need,c,h=>by
  unfold Builtin.growBy
  split
  ·exact h
  ·exact xc r need _ (by omega)
theorem nextslicecap_le{need old:Nat}(h:old<need):Builtin.nextslicecap need old≤2*need+192:=by
 unfold Builtin.nextslicecap
 split
 ·omega
 ·split
  ·omega
  ·exact xc 4 need old (by omega)
theorem growBy_four(n c:Nat):Builtin.growBy n 4 c=
 if c≥n then c else
 if c+(c+768) / 4≥n then c+(c+768) / 4 else
 if c+(c+768) / 4+(c+(c+768) / 4+768) / 4≥n then c+(c+768) / 4+(c+(c+768) / 4+768) / 4 else
 if c+(c+768) / 4+(c+(c+768) / 4+768) / 4+(c+(c+768) / 4+(c+(c+768) / 4+768) / 4+768) / 4≥n
 then c+(c+768) / 4+(c+(c+768) / 4+768) / 4+(c+(c+768) / 4+(c+(c+768) / 4+768) / 4+768) / 4 else
 c+(c+768) / 4+(c+(c+768) / 4+768) / 4+(c+(c+768) / 4+(c+(c+768) / 4+768) / 4+768) / 4+
  (c+(c+768) / 4+(c+(c+768) / 4+768) / 4+(c+(c+768) / 4+(c+(c+768) / 4+768) / 4+768) / 4+768) / 4:=rfl
theorem qZ{need old:Nat}(h:old<need):Builtin.nextslicecap need old≤2*need:=by
 unfold Builtin.nextslicecap
 split
 ·omega
 ·split
  ·omega
  ·rw[growBy_four]
   repeat' split
   all_goals omega
structure Src (P:Program) (O:Nat→Prop) (w:World) (size:Nat) (d:aF) (v:Value) (news:List Value):Prop where
 len:(Builtin.lenOf v).run P w=.ok d.n w
 length:news.length=d.n*size
 first:∀w2:World,w2.heap=w.heap→(Builtin.firstCells size d.n v).run P w2=.ok news.toArray w2
 one:∀u∈news,u.oneCell'=true
 den:∀i j,i<d.n→j<size→∃u,news[i*size+j]? =some u∧aK O w (d.cell i j) u
theorem sZ{size:Nat}{d:aF}{v:Value}(h:oS O w d v)(hs:d.size=size)(h1:1≤size):∃news,Src P O w size d v news:=by
 obtain⟨a,cap,us,rfl,g1,g2,g3⟩:=h
 subst hs
 have hdm:∀m,m<d.n*d.size→m / d.size<d.n∧m%d.size<d.size:=fun m hm=>
  ⟨Nat.div_lt_of_lt_mul (by rw[Nat.mul_comm];exact hm),Nat.mod_lt _ (by omega)⟩
 refine⟨(List.range (d.n*d.size)).map fun m=>us (m / d.size) (m%d.size), ?_,by simp,fun w2 hw2=> ?_,fun u hu=> ?_,fun i j hi hj=> ?_⟩
 ·simp[Builtin.lenOf]
 ·rcases Nat.eq_zero_or_pos d.n with h0|h0
  ·rw[h0]
   cases a<;>simp[Builtin.firstCells,loadCells,loadCellsFrom]
  ·obtain⟨b,o,rfl,_,hc⟩:=g3 h0
   simp only[Builtin.firstCells]
   refine run_loadCells w2 _ _ (fun m=>us (m / d.size) (m%d.size)) (fun m hm=> ?_)
   obtain⟨k1,k2⟩:=hdm m hm
   rw[aS]
   have:=(hc _ _ k1 k2).1
   rw[Nat.add_assoc,show m / d.size*d.size+m%d.size=m from by rw[Nat.mul_comm];exact Nat.div_add_mod m d.size]at this
   rw[←this]
   simp[World.cell?,hw2]
 ·obtain⟨m,hm,rfl⟩:=List.mem_map.1 hu
  have hm:m<d.n*d.size:=List.mem_range.1 hm
  obtain⟨k1,k2⟩:=hdm m hm
  obtain⟨b,o,rfl,_,hc⟩:=g3 (Nat.lt_of_le_of_lt (Nat.zero_le _) k1)
  exact(hc _ _ k1 k2).2.one
 ·have bd:i*d.size+j<d.n*d.size:=by
   have:(i+1)*d.size≤d.n*d.size:=Nat.mul_le_mul_right _ (by omega)
   rw[Nat.succ_mul]at this
   omega
  obtain⟨b,o,rfl,_,hc⟩:=g3 (by omega)
  have e1:(i*d.size+j) / d.size=i:=by rw[Nat.mul_comm,Nat.mul_add_div (by omega),Nat.div_eq_of_lt hj];rfl
  have e2:(i*d.size+j)%d.size=j:=by rw[Nat.mul_comm,Nat.mul_add_mod,Nat.mod_eq_of_lt hj]
  exact⟨us i j,by rw[List.getElem?_map,List.getElem?_range bd];simp[e1,e2],(hc i j hi hj).2⟩
theorem akO{s:ByteArray}:∃news,Src P O w 1 (.ints .u8 (s.data.toList.map fun b=>(b.toNat:Int))) (.string s) news:=by
 refine⟨s.data.toList.map fun b=>.int .u8 b.toNat, ?_,by simp[aF.n],fun w2 hw2=> ?_,fun u hu=> ?_,fun i j hi hj=> ?_⟩
 ·simp[Builtin.lenOf,aF.n]
 ·simp only[Builtin.firstCells,aF.n,Sem.run_pure,List.length_map]
  congr 1
  have h:s.data.toList.length=s.size:=Array.length_toList
  rw[h,ByteArray.extract_zero_size]
  apply Array.toList_inj.1
  rw[Array.toList_map]
 ·obtain⟨b,_,rfl⟩:=List.mem_map.1 hu
  rfl
 ·simp only[aF.n,List.length_map]at hi
  obtain rfl:j=0:=by omega
  have eF:i<s.data.toList.length:=hi
  refine⟨.int .u8 (s.data.toList[i].toNat),by rw[Nat.mul_one,Nat.add_zero,List.getElem?_map,List.getElem?_eq_getElem eF];rfl, ?_⟩
  simp only[aF.cell]
  have:(s.data.toList.map fun b=>((b.toNat:Nat):Int)).getD i 0=(s.data.toList[i].toNat:Int):=by
   rw[List.getD,List.getElem?_map,List.getElem?_eq_getElem eF]
   rfl
  rw[this]
  exact .int _ _
end
end Go.Sx
namespace Go.Sx
open Go
section
variable{ρ az:Nat→Value}{H H':aG}{G O O':Nat→Prop}{w w':World}{P:Program}
theorem fj{α:Type}(xs ys:List α){lo k:Nat}(h:lo+k≤xs.length)(hk:k≤ys.length):(over xs lo k ys).length=xs.length:=by
 simp only[over,List.length_append,List.length_take,List.length_drop];omega
theorem jA{α:Type}(xs ys:List α)(d:α){lo k:Nat}(h:lo+k≤xs.length)(hk:k≤ys.length)(i:Nat):
 (over xs lo k ys).getD i d=if lo≤i∧i<lo+k then ys.getD (i - lo) d else xs.getD i d:=by
 have hto:(xs.take lo).length=lo:=by simp;omega
 have hty:(ys.take k).length=k:=by simp;omega
 simp only[over,List.getD]
 by_cases h1:i<lo
 ·rw[if_neg (by omega),List.append_assoc,List.getElem?_append_left (by omega),List.getElem?_take,if_pos h1]
 ·by_cases h2:i<lo+k
  ·rw[if_pos (by omega),List.append_assoc,List.getElem?_append_right (by omega),hto,List.getElem?_append_left (by omega),List.getElem?_take,if_pos (by omega)]
  ·rw[if_neg (by omega),List.append_assoc,List.getElem?_append_right (by omega),hto,List.getElem?_append_right (by omega),hty,List.getElem?_drop]
   congr 2
   omega
theorem afX{α:Type}{lo i k:Nat}{a b:α}:(bif lo.ble i&&i.blt (lo+k)then a else b)=if lo≤i∧i<lo+k then a else b:=by
 rw[Bool.cond_eq_ite]
 congr 1
 simp[Nat.blt,Nat.lt_iff_add_one_le,Nat.ble_eq]
theorem aai{cs jf:List CK}(xs:List (CL cs))(ys:List (CL jf))(lo k:Nat)(p:aF→Prop)(h1:∀e:jf=cs,p (.ad cs (over xs lo k (e▸ys))))
 (h2:p (.dZ (CL.wide cs) xs.length fun i j=>bif lo.ble i&&i.blt (lo+k)then(aF.ad jf ys).cell (i - lo) j else(aF.ad cs xs).cell i j)):p (dg (.ad cs xs) lo k (.ad jf ys)):=by
 simp only[dg]
 split
 ·rename_i h _;exact h1 h.down
 ·exact h2
theorem rW(c d:aF){lo k:Nat}(h:lo+k≤c.n)(hk:k≤d.n):
 (dg c lo k d).n=c.n∧(dg c lo k d).size=c.size∧∀i j,i<c.n→(dg c lo k d).cell i j=if lo≤i∧i<lo+k then d.cell (i - lo) j else c.cell i j:=by
 have other:∀c':aF,c'=.dZ c.size c.n (fun i j=>bif lo.ble i&&i.blt (lo+k)then d.cell (i - lo) j else c.cell i j)→
  c'.n=c.n∧c'.size=c.size∧∀i j,i<c.n→c'.cell i j=if lo≤i∧i<lo+k then d.cell (i - lo) j else c.cell i j:=by
  rintro c' rfl
  exact⟨rfl,rfl,fun i j _=>afX⟩
 cases c<;>cases d
 case ints.ints k1 xs k2 ys=>
  simp only[dg]
  cases hkk:bE k1 k2
  ·exact other _ rfl
  ·obtain rfl:=aY hkk
   simp only[aF.n]at h hk
   refine⟨fj xs ys h hk,rfl,fun i j _=> ?_⟩
   simp only[aF.cell,jA xs ys _ h hk,cond_true]
   split<;>rfl
 case strs.strs xs ys=>
  simp only[aF.n]at h hk
  refine⟨fj xs ys h hk,rfl,fun i j _=> ?_⟩
  simp only[dg,aF.cell,jA xs ys _ h hk]
  split<;>rfl
 case bD.bD xs ys=>
  simp only[aF.n]at h hk
  refine⟨fj xs ys h hk,rfl,fun i j _=> ?_⟩
  simp only[dg,aF.cell,jA xs ys _ h hk]
  split<;>rfl
 case ad.ad cs xs jf ys=>
  simp only[aF.n]at h hk
  refine aai xs ys lo k (fun c'=>c'.n=(aF.ad cs xs).n∧c'.size=(aF.ad cs xs).size∧∀i j,i<(aF.ad cs xs).n→c'.cell i j=if lo≤i∧i<lo+k then(aF.ad jf ys).cell (i - lo) j else(aF.ad cs xs).cell i j) ?_ (other _ rfl)
  rintro rfl
  refine⟨fj xs ys h hk,rfl,fun i j _=> ?_⟩
  simp only[aF.cell,jA xs ys _ h hk]
  split<;>rfl
 all_goals exact other _ rfl
theorem Good.upd(hs:Sat ρ H G w){id:Nat}{o o':ae}(ho:H id=some o)(ha:o.alive=o'.alive)
 (qU:∀c' e',o'=.vec c' e'→∃c e,o=.vec c e∧c'.n=c.n∧c'.size=c.size) {r:AV} {v:Value}
 (dR:hP ρ (aB H id o') (aL ρ H G) w (ρ id) o') (hr:ab ρ (aB H id o') (aL ρ H G) w r v):Good ρ H G w (aB H id o') r v w:=by
 have hh:=yt (ρ:=ρ) (G:=G) ho ha
 have st:Step ρ H (aL ρ H G) w ρ (aB H id o') (aL ρ (aB H id o') G) w:=by
  refine⟨fun _ _ _=>rfl,fun j x hx=> ?_,fun c hc=>.inl (by rw[hh]at hc;exact hc),fun c hc hO=>rfl,Nat.le_refl _⟩
  by_cases hj:j=id
  ·subst hj
   rw[ho]at hx
   cases hx
   exact⟨o',by simp[aB],qU⟩
  ·exact⟨x,by simp[aB,hj,hx],fun c' e' hc=>⟨c',e',hc,rfl,rfl⟩⟩
 refine⟨ρ,⟨fun j x hx=> ?_,fun i j oi oj c h1 h2 h3 h4 h5 h6=> ?_,fun c hc=> ?_,hs.low⟩,by rw[hh];exact hr,st,⟨rfl,rfl,rfl,fun _ _ _=>rfl⟩⟩
 ·by_cases hj:j=id
  ·subst hj
   simp only[aB,if_true,Option.some.injEq]at hx
   subst hx
   rw[hh]
   exact dR
  ·have w5:H j=some x:=by simpa[aB,hj]using hx
   exact(hs.obj j x w5).step st (fun _ _ _=>rfl)
 ·have f:∀i oi,aB H id o' i=some oi→oi.alive=true→∃x,H i=some x∧x.alive=true:=by
   intro i oi hi tL
   by_cases eF:i=id
   ·subst eF
    simp only[aB,if_true,Option.some.injEq]at hi
    subst hi
    exact⟨o,ho,ha.trans tL⟩
   ·exact⟨oi,by simpa[aB,eF]using hi,tL⟩
  obtain⟨x,hx,hxa⟩:=f i oi h1 h3
  obtain⟨y,hy,hya⟩:=f j oj h2 h4
  exact hs.inj i j x y c hx hy hxa hya h5 h6
 ·exact hs.apart c ((yr ho ha c).1 hc)
theorem pO(hs:Sat ρ H G w){id:Nat}{c d:aF}{e:TypeId}(ho:H id=some (.vec c e)){lo k:Nat}(hlo:lo+k≤c.n)(hk:k≤d.n)(h1:1≤c.size){news:List Value}
 (hlen:news.length=k*c.size) (qY:∀u∈news,u.oneCell'=true) (kc:∀i j,i<k→j<c.size→∃u,news[i*c.size+j]? =some u∧aK (aL ρ H G) w (d.cell i j) u):
 ∃w',(∀a cap x,ρ id=.slice a c.n cap→(k=0∨a.map (·.add (lo*c.size))=some x)→(storeCells x news 0).run P w=.ok () w')∧(k=0→w'=w)∧
  ∀r v,(∀w2,ab ρ (aB H id (.vec (dg c lo k d) e)) (aL ρ H G) w2 r v)→Good ρ H G w (aB H id (.vec (dg c lo k d) e)) r v w':=by
 obtain⟨hn,bI,pP⟩:=rW c d hlo hk
 obtain⟨a,cap,dM,q1,q2,q3⟩:=hs.obj id _ ho
 have qU:∀c' e',ae.vec (dg c lo k d) e=.vec c' e'→∃c1 e1,ae.vec c e=.vec c1 e1∧c'.n=c1.n∧c'.size=c1.size:=fun c' e' hc=>by cases hc;exact⟨c,e,rfl,hn,bI⟩
 have hh:=yt (ρ:=ρ) (G:=G) ho (show(ae.vec c e).alive=(ae.vec (dg c lo k d) e).alive from rfl)
 rcases Nat.eq_zero_or_pos k with h0|h0
 ·subst h0
  have jh:news=[]:=List.eq_nil_of_length_eq_zero (by rw[hlen];simp)
  subst jh
  refine⟨w,fun a cap x _ _=>rfl,fun _=>rfl,fun r v hr=>Good.upd (o':=.vec (dg c lo 0 d) e) hs ho rfl qU ?_ (hr w)⟩
  have hc:∀i j,i<c.n→(dg c lo 0 d).cell i j=c.cell i j:=fun i j hi=>by rw[pP i j hi,if_neg (by omega)]
  refine⟨a,cap,by rw[hn];exact dM,by omega,q2, ?_⟩
  rcases q3 with q3|⟨b,o,cells,fr,us,e1,e2,e3,e4,e5⟩
  ·exact .inl q3
  ·exact .inr ⟨b,o,cells,fr,us,e1,e2,e3,by rw[bI];exact e4,fun i j hi hj=>by rw[hn]at hi;rw[bI]at hj ⊢;rw[hc i j hi];exact e5 i j hi hj⟩
 ·rcases q3 with q3|⟨b,o,cells,fr,us,rfl,e2,e3,e4,e5⟩
  ·omega
  ·have lO:ef (ρ id)=some b:=by rw[dM];simp only[ef];rw[if_neg (by omega)]
   have hm1:(lo+k)*c.size≤cap*c.size:=Nat.mul_le_mul_right _ (by omega)
   rw[Nat.add_mul]at hm1
   have hl:o+lo*c.size+news.length≤cells.length:=by omega
   have xd:(cells.take (o+lo*c.size)++news++cells.drop (o+lo*c.size+news.length)).length=cells.length:=by
    simp only[List.length_append,List.length_take,List.length_drop];omega
   let obj:Obj:=.cells (cells.take (o+lo*c.size)++news++cells.drop (o+lo*c.size+news.length)).toArray e fr
   refine⟨World.b8 w b obj,fun a' afB x hr hx=> ?_,fun h=>by omega,fun r v hr=> ?_⟩
   ·rw[dM]at hr
    cases hr
    rcases hx with hx|hx
    ·omega
    ·simp only[Option.map_some,aS,Option.some.injEq]at hx
     subst hx
     have:=bH (P:=P) (o+lo*c.size) news 0 e2 e3.unm (by omega) qY
     rw[Nat.add_zero]at this
     exact this
   ·have st:=jL (G:=G) (w:=w) (o':=.vec (dg c lo k d) e) ho rfl lO qU obj
    refine Good.write hs ho rfl rfl lO qU ?_ (hr _)
    refine⟨some ⟨b,o,none⟩,cap,by rw[hn];exact dM,by omega,q2,.inr ⟨b,o,_,fr,fun i j=>if lo≤i∧i<lo+k then news.getD ((i - lo)*c.size+j) undef else us i j,rfl,eG e2,e3.over qY (by omega),by rw[xd,bI];exact e4,fun i j hi hj=> ?_⟩⟩
    rw[hn]at hi
    rw[bI]at hj ⊢
    rw[pP i j hi,yy _ _ _ hl]
    dsimp only
    by_cases dm:lo≤i∧i<lo+k
    ·obtain⟨u,g1,g2⟩:=kc (i - lo) j (by omega) hj
     have hmul:i*c.size=lo*c.size+(i - lo)*c.size:=by rw[←Nat.add_mul];congr 1;omega
     have bd:=(List.getElem?_eq_some_iff.1 g1).1
     simp only[if_pos dm]
     rw[if_pos (by omega),show o+i*c.size+j - (o+lo*c.size)=(i - lo)*c.size+j from by omega,g1]
     have:news.getD ((i - lo)*c.size+j) undef=u:=by simp[List.getD,g1]
     rw[this]
     exact⟨rfl,g2.step st.fI st.heap st.size⟩
    ·simp only[if_neg dm]
     have n6:¬(o+lo*c.size≤o+i*c.size+j∧o+i*c.size+j<o+lo*c.size+news.length):=by
      intro hc
      rcases Nat.lt_or_ge i lo with h2|h2
      ·have:(i+1)*c.size≤lo*c.size:=Nat.mul_le_mul_right _ (by omega)
       rw[Nat.succ_mul]at this
       omega
      ·have:(lo+k)*c.size≤i*c.size:=Nat.mul_le_mul_right _ (by omega)
       rw[Nat.add_mul]at this
       omega
     rw[if_neg n6]
     obtain⟨g1,g2⟩:=e5 i j hi hj
     exact⟨g1,g2.step st.fI st.heap st.size⟩
end
end Go.Sx
namespace Go.Sx
open Go
section
variable{ρ az:Nat→Value}{H H':aG}{G O O':Nat→Prop}{w w':World}{P:Program}
theorem lT{cs jf:List CK}(xs:List (CL cs))(ys:List (CL jf))(p:aF→Prop)(h1:∀e:jf=cs,p (.ad cs (xs++e▸ys)))
 (h2:p (.dZ (CL.wide cs) (xs.length+ys.length) fun i j=>bif i.blt xs.length then(aF.ad cs xs).cell i j else(aF.ad jf ys).cell (i - xs.length) j)):p (cY (.ad cs xs) (.ad jf ys)):=by
 simp only[cY]
 split
 ·rename_i h _
  exact h1 h.down
 ·exact h2
theorem tX(c d:aF):(cY c d).n=c.n+d.n:=by
 by_cases ht:∃cs xs jf ys,c=.ad cs xs∧d=.ad jf ys
 ·obtain⟨cs,xs,jf,ys,rfl,rfl⟩:=ht
  refine lT xs ys (fun r=>r.n=_) (fun e=> ?_) rfl
  subst e
  simp[aF.n]
 cases c<;>cases d<;>first|(exact absurd ⟨_,_,_,_,rfl,rfl⟩ ht)|skip
 all_goals simp only[cY,aF.n,List.length_append]
 rename_i k xs k' ys
 cases bE k k'<;>simp
theorem mN(c d:aF)(h:d.size=c.size):(cY c d).size=c.size:=by
 by_cases ht:∃cs xs jf ys,c=.ad cs xs∧d=.ad jf ys
 ·obtain⟨cs,xs,jf,ys,rfl,rfl⟩:=ht
  exact lT xs ys (fun r=>r.size=_) (fun e=>by subst e;rfl) rfl
 cases c<;>cases d<;>first|(exact absurd ⟨_,_,_,_,rfl,rfl⟩ ht)|skip
 all_goals simp only[cY,aF.size]at h ⊢
 rename_i k xs k' ys
 cases bE k k'<;>rfl
theorem q7{α:Type}(xs ys:List α)(d:α){i:Nat}(h:i<xs.length):(xs++ys).getD i d=xs.getD i d:=by
 simp[List.getD,List.getElem?_append_left h]
theorem q8{α:Type}(xs ys:List α)(d:α){i:Nat}(h:¬i<xs.length):(xs++ys).getD i d=ys.getD (i - xs.length) d:=by
 simp[List.getD,List.getElem?_append_right (Nat.le_of_not_lt h)]
theorem tY{i n:Nat}(h:i<n):i.blt n=true:=by simpa[Nat.blt,Nat.lt_iff_add_one_le]using h
theorem q9{i n:Nat}(h:¬i<n):i.blt n=false:=by
 cases hb:i.blt n with
 |false=>rfl
 |true=>exact absurd (by simpa[Nat.blt,Nat.lt_iff_add_one_le]using hb) h
theorem yC(c d:aF){i:Nat}(j:Nat)(h:i<c.n):(cY c d).cell i j=c.cell i j:=by
 by_cases ht:∃cs xs jf ys,c=.ad cs xs∧d=.ad jf ys
 ·obtain⟨cs,xs,jf,ys,rfl,rfl⟩:=ht
  simp only[aF.n]at h
  refine lT xs ys (fun r=>r.cell i j=_) (fun e=> ?_) ?_
  ·subst e
   simp only[aF.cell,q7 _ _ _ h]
  ·simp only[aF.cell,tY h,cond_true]
 cases c<;>cases d<;>first|(exact absurd ⟨_,_,_,_,rfl,rfl⟩ ht)|skip
 all_goals simp only[cY,aF.cell,aF.n]at h ⊢
 all_goals first
  |(rw[q7 _ _ _ h];done)
  |(simp only[tY h,cond_true];done)
  |(rename_i k xs k' ys
    cases hk:bE k k'
    ·simp only[cond_false,tY h,cond_true]
    ·simp only[cond_true,q7 _ _ _ h])
theorem yD(c d:aF){i:Nat}(j:Nat)(h:¬i<c.n):(cY c d).cell i j=d.cell (i - c.n) j:=by
 by_cases ht:∃cs xs jf ys,c=.ad cs xs∧d=.ad jf ys
 ·obtain⟨cs,xs,jf,ys,rfl,rfl⟩:=ht
  simp only[aF.n]at h
  refine lT xs ys (fun r=>r.cell i j=_) (fun e=> ?_) ?_
  ·subst e
   simp only[aF.cell,aF.n,q8 _ _ _ h]
  ·simp only[aF.cell,aF.n,q9 h,cond_false]
 cases c<;>cases d<;>first|(exact absurd ⟨_,_,_,_,rfl,rfl⟩ ht)|skip
 all_goals simp only[cY,aF.cell,aF.n]at h ⊢
 all_goals first
  |(rw[q8 _ _ _ h];done)
  |(simp only[q9 h,cond_false];done)
  |(rename_i k xs k' ys
    cases hk:bE k k'
    ·simp only[cond_false,q9 h]
    ·obtain rfl:=aY hk
     simp only[cond_true,q8 _ _ _ h])
theorem fx{id:Nat}{o:ae}(ho:H id=some o):Step ρ H (aL ρ H G) w ρ (aB H id .dead) (aL ρ (aB H id .dead) G) w:=by
 refine⟨fun _ _ _=>rfl,fun j x hx=> ?_,fun b hb=> ?_,fun _ _ _=>rfl,Nat.le_refl _⟩
 ·by_cases hj:j=id
  ·subst hj
   exact⟨.dead,by simp[aB],by simp⟩
  ·exact⟨x,by simp[aB,hj,hx],fun c' e' hc=>⟨c',e',hc,rfl,rfl⟩⟩
 ·rcases hb with⟨j,x,hx,h1,h2⟩|hb
  ·by_cases hj:j=id
   ·subst hj
    simp only[aB,if_true,Option.some.injEq]at hx
    subst hx
    simp[ae.alive]at h1
   ·exact .inl (.inl ⟨j,x,by simpa[aB,hj]using hx,h1,h2⟩)
  ·exact .inl (.inr hb)
theorem fk{id:Nat}{b:Nat}(h:Own ρ (aB H id .dead) b):Own ρ H b:=by
 obtain⟨j,x,hx,h1,h2⟩:=h
 by_cases hj:j=id
 ·subst hj
  simp only[aB,if_true,Option.some.injEq]at hx
  subst hx
  simp[ae.alive]at h1
 ·exact⟨j,x,by simpa[aB,hj]using hx,h1,h2⟩
theorem Sat.kill(hs:Sat ρ H G w){id:Nat}{o:ae}(ho:H id=some o):Sat ρ (aB H id .dead) G w:=by
 have st:=fx (ρ:=ρ) (G:=G) (w:=w) ho
 refine⟨fun j x hx=> ?_,fun i j oi oj b h1 h2 h3 h4 h5 h6=> ?_,fun b hb=>hs.apart b (fk hb),hs.low⟩
 ·by_cases hj:j=id
  ·subst hj
   simp only[aB,if_true,Option.some.injEq]at hx
   subst hx
   trivial
  ·exact(hs.obj j x (by simpa[aB,hj]using hx)).step st (fun _ _ _=>rfl)
 ·have f:∀i oi,aB H id .dead i=some oi→oi.alive=true→H i=some oi:=by
   intro i oi hi tL
   by_cases eF:i=id
   ·subst eF
    simp only[aB,if_true,Option.some.injEq]at hi
    subst hi
    simp[ae.alive]at tL
   ·simpa[aB,eF]using hi
  exact hs.inj i j oi oj b (f i oi h1 h3) (f j oj h2 h4) h3 h4 h5 h6
theorem Good.after{H1 H2:aG}(mm:Step ρ H (aL ρ H G) w ρ H1 (aL ρ H1 G) w)(dD:∀b,Own ρ H1 b→Own ρ H b){r:AV}{v:Value}(h:Good ρ H1 G w H2 r v w'):Good ρ H G w H2 r v w':=by
 obtain⟨az,h1,h2,h3,h4⟩:=h
 exact⟨az,h1,h2,mm.trans h3,h4.os,h4.tape,h4.output,fun b hb hO=>h4.heap b hb (fun hx=>hO (dD b hx))⟩
theorem ra(hs:Sat ρ H G w){n:Nat}(hn:H n=none){c:aF}{e:TypeId}(h0:c.n=0)(a:Option Addr):
 Good ρ H G w (aB H n (.vec c e)) (.vec n) (.slice a c.n 0) w:=by
 have ne:∀j x,H j=some x→j≠n:=fun j x hx e=>by subst e;rw[hn]at hx;cases hx
 have hb:ef (.slice a c.n 0)=none:=by cases a<;>simp[ef]
 have pI:∀b,Own (fun j=>if j=n then .slice a c.n 0 else ρ j) (aB H n (.vec c e)) b→Own ρ H b:=by
  rintro b ⟨j,x,hx,h1,h2⟩
  by_cases hj:j=n
  ·subst hj;simp only[if_true]at h2;rw[hb]at h2;cases h2
  ·simp only[aB,hj,if_false]at hx h2
   exact⟨j,x,hx,h1,h2⟩
 have st:Step ρ H (aL ρ H G) w (fun j=>if j=n then .slice a c.n 0 else ρ j) (aB H n (.vec c e)) (aL (fun j=>if j=n then .slice a c.n 0 else ρ j) (aB H n (.vec c e)) G) w:=
  ⟨fun j x hx=>by simp[ne j x hx],fun j x hx=>⟨x,by simp[aB,ne j x hx,hx],fun c' e' hc=>⟨c',e',hc,rfl,rfl⟩⟩,fun b hb=>.inl (hb.imp (pI b) id),fun b hb _=>rfl,Nat.le_refl _⟩
 refine⟨_,⟨fun j x hx=> ?_,fun i j oi oj b h1 h2 h3 h4 h5 h6=> ?_,fun b hb=>hs.apart b (pI b hb),hs.low⟩, ?_,st,rfl,rfl,rfl,fun _ _ _=>rfl⟩
 ·by_cases hj:j=n
  ·subst hj
   simp only[aB,if_true,Option.some.injEq]at hx
   subst hx
   simp only[if_true]
   exact⟨a,0,rfl,by omega,by simp[maxLen],.inl rfl⟩
  ·have w5:H j=some x:=by simpa[aB,hj]using hx
   simp only[hj,if_false]
   exact(hs.obj j x w5).step st (fun _ _ _=>rfl)
 ·by_cases hi:i=n
  ·subst hi;simp only[if_true]at h5;rw[hb]at h5;cases h5
  ·by_cases hj:j=n
   ·subst hj;simp only[if_true]at h6;rw[hb]at h6;cases h6
   ·simp only[aB,hi,hj,if_false]at h1 h2 h5 h6
    exact hs.inj i j oi oj b h1 h2 h3 h4 h5 h6
 ·unfold ab ay
  exact⟨rfl,.vec c e,by simp[aB],fun c' e' hc=>by simp⟩
theorem xe{z:Array Value}(h:∀u∈z.toList,u.oneCell'=true)(n:Nat):∀u∈(Builtin.zeroCells z n).toList,u.oneCell'=true:=by
 intro u hu
 simp only[Builtin.zeroCells,Array.toList_map,Array.toList_range,List.mem_map,List.mem_range]at hu
 obtain⟨m,hm,rfl⟩:=hu
 have hp:0<z.size:=by
  rcases Nat.eq_zero_or_pos z.size with h0|h0
  ·rw[h0]at hm;omega
  ·exact h0
 have bd:m%z.size<z.size:=Nat.mod_lt _ hp
 rw[getElem!_pos z (m%z.size) bd]
 exact h _ (Array.mem_toList_iff.2 (Array.getElem_mem bd))
theorem aqU(hs:Sat ρ H G w){id n:Nat}{o:ae}(ho:H id=some o)(ha:o.alive=true)(hn:H n=none){b f:Nat}(hb:ef (ρ id)=some b){c:aF}{e:TypeId}{cap:Nat}{cells:List Value}{fr:Nat×Nat}{old:Obj}
 (hold:w.heap[b]? =some old) (hu:yo fr cells) (h1:c.n≤cap) (h2:cap≤maxLen) (h3:f+cap*c.size≤cells.length) (us:Nat→Nat→Value)
 (hd:∀i j,i<c.n→j<c.size→cells[f+i*c.size+j]? =some (us i j)∧aK (aL ρ H G) w (c.cell i j) (us i j)):
 Good ρ H G w (aB (aB H id .dead) n (.vec c e)) (.vec n) (.slice (some ⟨b,f,none⟩) c.n cap) (World.b8 w b (.cells cells.toArray e fr)):=by
 have ne:∀j x,H j=some x→j≠n:=fun j x hx e=>by subst e;rw[hn]at hx;cases hx
 have aoG:id≠n:=ne id o ho
 have dD:Own ρ H b:=⟨id,o,ho,ha,hb⟩
 have pN:∀b',ef (.slice (some ⟨b,f,none⟩) c.n cap)=some b'→b'=b:=by
  intro b' tK
  simp only[ef]at tK
  split at tK
  ·cases tK
  ·simpa using tK.symm
 have pI:∀b',Own (fun j=>if j=n then .slice (some ⟨b,f,none⟩) c.n cap else ρ j) (aB (aB H id .dead) n (.vec c e)) b'→Own ρ H b':=by
  rintro b' ⟨j,x,hx,g1,g2⟩
  by_cases hj:j=n
  ·subst hj
   simp only[if_true]at g2
   rw[pN b' g2]
   exact dD
  ·by_cases hi:j=id
   ·subst hi
    simp only[aB,hj,if_false,if_true,Option.some.injEq]at hx
    subst hx
    simp[ae.alive]at g1
   ·simp only[aB,hj,hi,if_false]at hx g2
    exact⟨j,x,hx,g1,g2⟩
 have st:Step ρ H (aL ρ H G) w (fun j=>if j=n then .slice (some ⟨b,f,none⟩) c.n cap else ρ j) (aB (aB H id .dead) n (.vec c e)) (aL (fun j=>if j=n then .slice (some ⟨b,f,none⟩) c.n cap else ρ j) (aB (aB H id .dead) n (.vec c e)) G) (World.b8 w b (.cells cells.toArray e fr)):=by
  refine⟨fun j x hx=>by simp[ne j x hx],fun j x hx=> ?_,fun b' tK=>.inl (tK.imp (pI b') _root_.id),fun b' tK hO=>hU (fun e=>hO (.inl (by subst e;exact dD))),by rw[iE];exact Nat.le_refl _⟩
  by_cases hi:j=id
  ·subst hi
   exact⟨.dead,by simp[aB,aoG],by simp⟩
  ·exact⟨x,by simp[aB,ne j x hx,hi,hx],fun c' e' hc=>⟨c',e',hc,rfl,rfl⟩⟩
 refine⟨_,⟨fun j x hx=> ?_,fun i j oi oj b' g1 g2 g3 g4 g5 g6=> ?_,fun b' tK=>hs.apart b' (pI b' tK),fun b' tK=>by rw[iE];exact hs.low b' tK⟩, ?_,st,rfl,rfl,rfl,fun b' tK hO=>hU (fun e=>hO (by subst e;exact dD))⟩
 ·by_cases hj:j=n
  ·subst hj
   simp only[aB,if_true,Option.some.injEq]at hx
   subst hx
   simp only[if_true]
   refine⟨_,cap,rfl,h1,h2,.inr ⟨b,f,cells,fr,us,rfl,eG hold,hu,h3,fun i j hi hj=> ?_⟩⟩
   obtain⟨k1,k2⟩:=hd i j hi hj
   exact⟨k1,k2.step st.fI st.heap st.size⟩
  ·by_cases hi:j=id
   ·subst hi
    simp only[aB,hj,if_false,if_true,Option.some.injEq]at hx
    subst hx
    trivial
   ·have w5:H j=some x:=by simpa[aB,hj,hi]using hx
    simp only[hj,if_false]
    refine(hs.obj j x w5).step st (fun b' tL tK=>hU (fun e=>hi ?_))
    subst e
    exact hs.inj j id x o b' w5 ho tL ha tK hb
 ·have f':∀i oi,aB (aB H id .dead) n (.vec c e) i=some oi→oi.alive=true→i≠n→i≠id∧H i=some oi:=by
   intro i oi hi tL cu
   by_cases eF:i=id
   ·subst eF
    simp only[aB,cu,if_false,if_true,Option.some.injEq]at hi
    subst hi
    simp[ae.alive]at tL
   ·exact⟨eF,by simpa[aB,cu,eF]using hi⟩
  by_cases hi:i=n<;>by_cases hj:j=n
  ·rw[hi,hj]
  ·obtain⟨k1,k2⟩:=f' j oj g2 g4 hj
   simp only[hi,hj,if_true,if_false]at g5 g6
   have:=pN b' g5
   subst this
   exact absurd (hs.inj j id oj o b' k2 ho g4 ha g6 hb) k1
  ·obtain⟨k1,k2⟩:=f' i oi g1 g3 hi
   simp only[hi,hj,if_true,if_false]at g5 g6
   have:=pN b' g6
   subst this
   exact absurd (hs.inj i id oi o b' k2 ho g3 ha g5 hb) k1
  ·simp only[hi,hj,if_false]at g5 g6
   exact hs.inj i j oi oj b' (f' i oi g1 g3 hi).2 (f' j oj g2 g4 hj).2 g3 g4 g5 g6
 ·unfold ab ay
  exact⟨rfl,.vec c e,by simp[aB],fun c' e' hc=>by simp⟩
theorem fM{t t' ty e:TypeId}{i:TypeInfo}{a:Option Addr}{n cap m:Nat}{vy:Value}{news:List Value}
 (ht:P.underlying t=some (.slice e)) (hi:P.info? e=some i) (hzero:(∃e',P.underlying t'=some (.slice e'))∨P.underlying t'=some .string)
 (hlen:(Builtin.lenOf vy).run P w=.ok m w) (jM:(Builtin.firstCells i.size m vy).run P w=.ok news.toArray w) (mO:n+m≤cap)
 (mm:∀x,a=some x→(storeCells (x.add (n*i.size)) news 0).run P w=.ok () w') (tZ:a=none→w'=w):
 (Builtin.append_ #[t,t'] ty #[.slice a n cap,vy]).run P w=.ok (.slice a (n+m) cap) w':=by
 rcases hzero with⟨e',hd⟩|hd<;>cases a with
 |none=>
  rw[tZ rfl]
  simp[Builtin.append_,run_underlying ht,run_underlying hd,sizeOf,typeInfo,hi,hlen,mO,jM]
 |some x=>
  have:=mm x rfl
  simp[Builtin.append_,run_underlying ht,run_underlying hd,sizeOf,typeInfo,hi,hlen,mO,jM,this]
theorem mP{t t' ty e:TypeId}{i:TypeInfo}{z:Value}{a:Option Addr}{n cap m:Nat}{vy:Value}{olds news:List Value}
 (ht:P.underlying t=some (.slice e)) (hi:P.info? e=some i) (hz:i.zero=some z) (hzero:(∃e',P.underlying t'=some (.slice e'))∨P.underlying t'=some .string)
 (hlen:(Builtin.lenOf vy).run P w=.ok m w) (hold:(Builtin.firstCells i.size n (.slice a n cap)).run P w.drew=.ok olds.toArray w.drew) (jM:(Builtin.firstCells i.size m vy).run P w.drew=.ok news.toArray w.drew) (mO:¬n+m≤cap)
 (hsm:(n+m)*i.bytes≤140737488355328) (hb1:1≤i.bytes):
 ∃mQ,n+m≤mQ∧mQ≤maxLen∧(Builtin.append_ #[t,t'] ty #[.slice a n cap,vy]).run P w=
  .ok (.slice (some ⟨w.heap.size,0,none⟩) (n+m) mQ) (w.drew.alloc (.cells (olds++news++(Builtin.zeroCells z.cells (mQ - (n+m))).toList).toArray e)):=by
 have hnm:n+m≤140737488355328:=Nat.le_trans (by have:=Nat.mul_le_mul_left (n+m) hb1;omega) hsm
 refine⟨grownCap w (n+m) cap e,grownCap_ge w _ _ _,grownCap_le_maxLen w _ _ _ (by simp only[maxLen];omega), ?_⟩
 have aah:¬(281474976710656<Builtin.nextslicecap (n+m) cap*i.bytes):=by
  have h1:=qZ (need:=n+m) (old:=cap) (by omega)
  have h2:Builtin.nextslicecap (n+m) cap*i.bytes≤(2*(n+m))*i.bytes:=Nat.mul_le_mul_right _ h1
  rw[Nat.mul_assoc]at h2
  omega
 have acJ:¬(9223372036854775807<(n:Int)+(m:Int)):=by omega
 have akP:∀X:Array Value,olds.toArray++(news.toArray++X)=(olds++(news++X.toList)).toArray:=fun X=>by
  apply Array.toList_inj.1
  simp
 have hq:¬((Question.appendCap (n+m) cap e).forced=true):=by simp[Question.forced]
 rcases hzero with⟨e',hd⟩|hd
 ·simp[Builtin.append_,run_underlying ht,run_underlying hd,sizeOf,typeInfo,hi,hlen,mO,acJ,aah,hold,jM,zeroValue,hz,newRow]
  rw[if_neg hq,akP]
  rfl
 ·simp[Builtin.append_,run_underlying ht,run_underlying hd,sizeOf,typeInfo,hi,hlen,mO,acJ,aah,hold,jM,zeroValue,hz,newRow]
  rw[if_neg hq,akP]
  rfl
theorem akQ(hs:Sat ρ H G w){id:Nat}{c:aF}{e:TypeId}(ho:H id=some (.vec c e)):oS (aL ρ H G) w c (ρ id):=by
 obtain⟨a,cap,h1,h2,h3,h4⟩:=hs.obj id _ ho
 rcases h4 with rfl|⟨b,o,cells,fr,us,rfl,h5,h6,h7,h8⟩
 ·exact⟨a,0,fun _ _=>undef,h1,h2,h3,fun h0=>by omega⟩
 ·refine⟨_,cap,us,h1,h2,h3,fun _=>⟨b,o,rfl,(Array.getElem?_eq_some_iff.1 h5).1,fun i j hi hj=> ?_⟩⟩
  obtain⟨h9,sI⟩:=h8 i j hi hj
  exact⟨by rw[cZ h5];exact h9,sI⟩
theorem ahw{sh:Shape}{size:Nat}{x:AV}{k:aF→Option Nat→RM bx}{v:Value}{q:bx}(h:(wX sh size x k).eval H=some q)(hs:Sat ρ H G w)(hd:ab ρ H (aL ρ H G) w x v)(h1:1≤size):
 ∃c idy,(k c idy).eval H=some q∧(c.size=size→∃news,Src P (aL ρ H G) w size c v news):=by
 unfold wX at h
 split at h
 ·rename_i s
  obtain rfl:=eZ hd
  refine⟨_,_,h,fun bI=> ?_⟩
  simp only[aF.size]at bI
  subst bI
  exact akO
 ·obtain⟨c,idy,h2,h3⟩:=tO h hs hd
  exact⟨c,idy,h2,fun bI=>sZ h3 bI h1⟩
theorem rb{c d:aF}{size:Nat}{olds news rest:List Value}(hc:c.size=size)(hdz:d.size=size)(_h1:1≤size)(ho:olds.length=c.n*size)(_hn:news.length=d.n*size)
 (h2:∀i j,i<c.n→j<size→∃u,olds[i*size+j]? =some u∧aK O w (c.cell i j) u) (h3:∀i j,i<d.n→j<size→∃u,news[i*size+j]? =some u∧aK O w (d.cell i j) u) (pre:List Value):
 ∀i j,i<(cY c d).n→j<(cY c d).size→(pre++(olds++news++rest))[pre.length+i*(cY c d).size+j]? =some ((pre++(olds++news++rest)).getD (pre.length+i*(cY c d).size+j) undef)∧
  aK O w ((cY c d).cell i j) ((pre++(olds++news++rest)).getD (pre.length+i*(cY c d).size+j) undef):=by
 intro i j hi hj
 have bI:(cY c d).size=size:=by rw[mN c d (by omega),hc]
 rw[tX]at hi
 rw[bI]at hj ⊢
 have key:∃u,(pre++(olds++news++rest))[pre.length+i*size+j]? =some u∧aK O w ((cY c d).cell i j) u:=by
  rw[Nat.add_assoc,List.getElem?_append_right (by omega),Nat.add_sub_cancel_left,List.append_assoc]
  by_cases bd:i<c.n
  ·obtain⟨u,g1,g2⟩:=h2 i j bd hj
   refine⟨u, ?_,by rw[yC c d j bd];exact g2⟩
   rw[List.getElem?_append_left (List.getElem?_eq_some_iff.1 g1).1]
   exact g1
  ·obtain⟨u,g1,g2⟩:=h3 (i - c.n) j (by omega) hj
   refine⟨u, ?_,by rw[yD c d j bd];exact g2⟩
   have hm:c.n*size+(i - c.n)*size=i*size:=by rw[←Nat.add_mul];congr 1;omega
   rw[List.getElem?_append_right (by omega)]
   rw[show i*size+j - olds.length=(i - c.n)*size+j from by omega]
   rw[List.getElem?_append_left (List.getElem?_eq_some_iff.1 g1).1]
   exact g1
 obtain⟨u,g1,g2⟩:=key
 have bd:=(List.getElem?_eq_some_iff.1 g1).1
 have g1':=g1
 rw[gA _ _ undef bd]at g1'
 simp only[Option.some.injEq]at g1'
 exact⟨gA _ _ _ bd,by rw[g1'];exact g2⟩
theorem acK{t t' ty:TypeId}{x y:AV}{vx vy:Value}{q:bx}(h:(yj P t x y).eval H=some q)(hn:bt q.need)(hs:Sat ρ H G w)
 (hx:ab ρ H (aL ρ H G) w x vx) (hy:ab ρ H (aL ρ H G) w y vy) (hzero:(∃e',P.underlying t'=some (.slice e'))∨P.underlying t'=some .string) {base:Nat} (hb:∀i,i<q.new.length→H (base+i)=none):
 ∃v w',(Builtin.append_ #[t,t'] ty #[vx,vy]).run P w=.ok v w'∧Good ρ H G w (c8 H q.up base q.new) (q.r base) v w':=by
 unfold yj at h
 split at h
 ·rename_i e ht
  split at h
  ·rename_i i hi
   simp only[]at h
   rw[Bool.cond_eq_ite]at h
   split at h
   ·rename_i hc
    simp only[Bool.and_eq_true]at hc
    obtain⟨⟨⟨c1,cb⟩,c2⟩,c3⟩:=hc
    have c1:=Nat.le_of_ble_eq_true c1
    have cb:=Nat.le_of_ble_eq_true cb
    obtain⟨z,hz,hzs,hz1⟩:∃z,i.zero=some z∧z.cells.size=i.size∧∀u∈z.cells.toList,u.oneCell'=true:=by
     cases hz:i.zero with
     |none=>simp[hz]at c3
     |some z=>
      simp only[hz,Option.any_some,Bool.and_eq_true,beq_iff_eq,List.all_eq_true]at c3
      exact⟨z,rfl,c3.1,c3.2⟩
    obtain⟨d,idy,h1,n7⟩:=ahw (P:=P) h hs hy c1
    rw[Bool.cond_eq_ite]at h1
    split at h1
    ·rename_i hds
     have hds:d.size=i.size:=by simpa using hds
     obtain⟨news,src⟩:=n7 hds
     split at h1
     ·
      simp only[RM.eval,Option.some.injEq]at h1
      subst h1
      have jg:H base=none:=by simpa using hb 0 (by simp)
      have hsm:d.n*i.bytes≤140737488355328:=hn.1
      unfold ab at hx
      obtain⟨a,rfl⟩:=hx
      simp only[iG]
      by_cases hm:d.n=0
      ·have jh:news=[]:=List.eq_nil_of_length_eq_zero (by rw[src.length,hm];simp)
       refine⟨.slice a (0+d.n) 0,w,fM ht hi hzero src.len (src.first w rfl) (by omega) (fun x _=>by rw[jh];rfl) (fun _=>rfl), ?_⟩
       rw[Nat.zero_add]
       exact ra hs jg hm a
      ·obtain⟨mQ,g1,g2,g3⟩:=mP (ty:=ty) (olds:=[]) (a:=a) (n:=0) (cap:=0) ht hi hz hzero src.len (by cases a<;>simp[Builtin.firstCells,loadCells,loadCellsFrom]) (src.first w.drew rfl) (by omega) (by rw[Nat.zero_add];exact hsm) cb
       refine⟨_,_,g3, ?_⟩
       rw[Nat.zero_add]at *
       simp only[List.nil_append]
       refine kW (w1:=w.drew) hs rfl rfl rfl rfl jg g1 g2 ?_ (fun i' j'=>(news++(Builtin.zeroCells z.cells (mQ - d.n)).toList).getD (i'*d.size+j') undef) (fun i' j' eF js=> ?_) (fun u hu=>(List.mem_append.1 hu).elim (src.one u) (xe hz1 _ u))
       ·simp only[List.length_append,src.length,Array.length_toList,size_zeroCells,hzs,hds]
        rw[←Nat.add_mul]
        exact Nat.mul_le_mul_right _ (by omega)
       ·obtain⟨u,k1,k2⟩:=src.den i' j' eF (by omega)
        rw[←hds]at k1
        have bd:=(List.getElem?_eq_some_iff.1 k1).1
        have k3:(news++(Builtin.zeroCells z.cells (mQ - d.n)).toList)[i'*d.size+j']? =some u:=by rw[List.getElem?_append_left bd];exact k1
        have k4:=k3
        rw[gA _ _ undef (List.getElem?_eq_some_iff.1 k3).1]at k4
        simp only[Option.some.injEq]at k4
        rw[k4]
        exact⟨k3,k2⟩
     ·
      rename_i idx
      simp only[RM.eval]at h1
      split at h1
      ·rename_i c e' ho
       rw[Bool.cond_eq_ite]at h1
       split at h1
       ·rename_i hc
        simp only[Bool.and_eq_true,Nat.beq_eq]at hc
        obtain⟨⟨oU,rfl⟩,_⟩:=hc
        simp only[RM.eval,Option.some.injEq]at h1
        subst h1
        have jg:H base=none:=by simpa using hb 0 (by simp)
        have hsm:(c.n+d.n)*i.bytes≤140737488355328:=hn.1
        have aaj:idx≠base:=fun e=>by rw[←e,ho]at jg;cases jg
        unfold ab ay at hx
        obtain⟨_,o,de,hv⟩:=hx
        rw[ho]at de
        cases de
        obtain rfl:=hv c e' rfl
        obtain⟨olds,ua⟩:=sZ (P:=P) (akQ hs ho) oU c1
        obtain⟨a,cap,r1,r2,r3,r4⟩:=hs.obj idx _ ho
        have hcd:d.size=c.size:=by omega
        have akR:=mN c d hcd
        have han:=tX c d
        have hmul:(c.n+d.n)*i.size=c.n*i.size+d.n*i.size:=Nat.add_mul _ _ _
        simp only[afM _ _ _ _ aaj]
        by_cases mO:c.n+d.n≤cap
        ·rcases r4 with rfl|⟨b,o,cells,fr,us,rfl,q1,q2,q3,q4⟩
         ·
          have hd0:d.n=0:=by omega
          have jh:news=[]:=List.eq_nil_of_length_eq_zero (by rw[src.length,hd0];simp)
          refine⟨.slice a (c.n+d.n) 0,w,by rw[r1];exact fM ht hi hzero src.len (src.first w rfl) mO (fun x _=>by rw[jh];rfl) (fun _=>rfl), ?_⟩
          have st:=fx (ρ:=ρ) (G:=G) (w:=w) ho
          refine Good.after st (fun b hb=>fk hb) ?_
          rw[←han]
          exact ra (hs.kill ho) (by simp[aB,Ne.symm aaj,jg]) (by omega) a
         ·by_cases wk:cap=0
          ·subst wk
           have hd0:d.n=0:=by omega
           have jh:news=[]:=List.eq_nil_of_length_eq_zero (by rw[src.length,hd0];simp)
           refine⟨.slice (some ⟨b,o,none⟩) (c.n+d.n) 0,w,by rw[r1];exact fM ht hi hzero src.len (src.first w rfl) mO (fun x _=>by rw[jh];rfl) (fun _=>rfl), ?_⟩
           have st:=fx (ρ:=ρ) (G:=G) (w:=w) ho
           refine Good.after st (fun b hb=>fk hb) ?_
           rw[←han]
           exact ra (hs.kill ho) (by simp[aB,Ne.symm aaj,jg]) (by omega) _
          ·have lO:ef (ρ idx)=some b:=by rw[r1];simp[ef,wk]
           have au1:(c.n+d.n)*i.size≤cap*i.size:=Nat.mul_le_mul_right _ mO
           have hlen:o+c.n*i.size+news.length≤cells.length:=by rw[src.length];rw[oU]at q3;omega
           refine⟨.slice (some ⟨b,o,none⟩) (c.n+d.n) cap,World.b8 w b (.cells (cells.take (o+c.n*i.size)++news++cells.drop (o+c.n*i.size+news.length)).toArray e' fr), ?_, ?_⟩
           ·rw[r1]
            refine fM ht hi hzero src.len (src.first w rfl) mO (fun x hx=> ?_) (fun hx=>by cases hx)
            cases hx
            rw[aS]
            have:=bH (P:=P) (o+c.n*i.size) news 0 q1 q2.unm (by omega) src.one
            simpa using this
           ·rw[←han]
            have xd:(cells.take (o+c.n*i.size)++news++cells.drop (o+c.n*i.size+news.length)).length=cells.length:=by
             simp only[List.length_append,List.length_take,List.length_drop];omega
            have aoH:cells.take (o+c.n*i.size)++news++cells.drop (o+c.n*i.size+news.length)=cells.take o++((cells.drop o).take (c.n*i.size)++news++cells.drop (o+c.n*i.size+news.length)):=by
             rw[List.take_add]
             simp only[List.append_assoc]
            have hto:(cells.take o).length=o:=by simp;omega
            refine aqU hs ho rfl jg lO q1 (q2.over src.one hlen) (by omega) r3 (by rw[xd,akR];exact q3) (fun i' j'=>(cells.take o++((cells.drop o).take (c.n*i.size)++news++cells.drop (o+c.n*i.size+news.length))).getD ((cells.take o).length+i'*(cY c d).size+j') undef) (fun i' j' eF js=> ?_)
            have:=rb (O:=aL ρ H G) (w:=w) (c:=c) (d:=d) (size:=i.size) (olds:=(cells.drop o).take (c.n*i.size)) (news:=news) (rest:=cells.drop (o+c.n*i.size+news.length)) oU hds c1 (by simp;omega) src.length (fun i2 j2 hi2 xf=>by
             obtain⟨k1,k2⟩:=q4 i2 j2 hi2 (by omega)
             refine⟨_, ?_,k2⟩
             have hb2:i2*i.size+j2<c.n*i.size:=by
              have:(i2+1)*i.size≤c.n*i.size:=Nat.mul_le_mul_right _ (by omega)
              rw[Nat.succ_mul]at this
              omega
             rw[List.getElem?_take,if_pos hb2,List.getElem?_drop,←Nat.add_assoc]
             rw[oU]at k1
             exact k1) src.den (cells.take o) i' j' eF js
            rw[aoH]
            rw[hto]at this ⊢
            exact this
        ·obtain⟨mQ,g1,g2,g3⟩:=mP (ty:=ty) (olds:=olds) (a:=a) (n:=c.n) (cap:=cap) ht hi hz hzero src.len (by rw[←r1];exact ua.first w.drew rfl) (src.first w.drew rfl) mO hsm cb
         refine⟨_,_,by rw[r1];exact g3, ?_⟩
         have st:=fx (ρ:=ρ) (G:=G) (w:=w) ho
         refine Good.after st (fun b hb=>fk hb) ?_
         rw[←han]
         refine kW (w1:=w.drew) (hs.kill ho) rfl rfl rfl rfl (by simp[aB,Ne.symm aaj,jg]) (by omega) g2 ?_ (fun i' j'=>(olds++news++(Builtin.zeroCells z.cells (mQ - (cY c d).n)).toList).getD (i'*(cY c d).size+j') undef) (fun i' j' eF js=> ?_) (fun u hu=>(List.mem_append.1 hu).elim (fun hu=>(List.mem_append.1 hu).elim (ua.one u) (src.one u)) (xe hz1 _ u))
         ·simp only[List.length_append,src.length,ua.length,Array.length_toList,size_zeroCells,hzs,akR,oU,han]
          rw[←Nat.add_mul,←Nat.add_mul]
          exact Nat.mul_le_mul_right _ (by omega)
         ·have:=rb (O:=aL ρ H G) (w:=w) (c:=c) (d:=d) (size:=i.size) (olds:=olds) (news:=news) (rest:=(Builtin.zeroCells z.cells (mQ - (cY c d).n)).toList) oU hds c1 ua.length src.length ua.den src.den [] i' j' eF js
          simp only[List.nil_append,List.length_nil,Nat.zero_add]at this
          exact⟨this.1,this.2.step st.fI st.heap st.size⟩
       ·cases h1
      ·cases h1
     ·
      rename_i idx lo n
      simp only[RM.eval]at h1
      split at h1
      ·rename_i c e' ho
       rw[Bool.cond_eq_ite]at h1
       split at h1
       ·rename_i oU
        have oU:c.size=i.size:=by simpa using oU
        simp only[RM.eval,Option.some.injEq]at h1
        subst h1
        have mO:lo+n+d.n≤c.n:=hn.1
        obtain⟨g0,a,cap,a',g1,g2,g3,rfl,g4,g5⟩:=iF hs ho hx
        obtain⟨w',k1,k2,k3⟩:=pO (P:=P) hs ho (lo:=lo+n) (k:=d.n) (d:=d) mO (Nat.le_refl _) (by omega) (news:=news) (by rw[src.length,oU]) src.one (fun i' j' eF js=>by rw[oU]at *;exact src.den i' j' eF js)
        obtain⟨z1,z2,_⟩:=rW c d mO (Nat.le_refl _)
        refine⟨.slice a' (n+d.n) (cap - lo),w',fM ht hi hzero src.len (src.first w rfl) (by omega) (fun x hx=> ?_) (fun hx=> ?_), ?_⟩
        ·refine k1 a cap _ g1 ?_
         by_cases h0:d.n=0
         ·exact .inl h0
         ·refine .inr ?_
          have cu:cap≠lo:=by omega
          rw[g4 cu]at hx
          obtain⟨b,o,rfl⟩:=g5 (by omega)
          simp only[Option.map_some,aS,Option.some.injEq]at hx ⊢
          subst hx
          rw[aS,oU,Nat.add_mul,Nat.add_assoc]
        ·refine k2 ?_
         by_cases cu:cap=lo
         ·omega
         ·rw[g4 cu]at hx
          obtain⟨b,o,rfl⟩:=g5 (by omega)
          cases hx
        ·simp only[fw]
         refine k3 _ _ (fun w2=> ?_)
         unfold ab ay
         refine⟨rfl,.vec (dg c (lo+n) d.n d) e',by simp[aB],fun c1 e1 hc=> ?_⟩
         cases hc
         exact⟨by rw[z1];omega,a,cap,a',by rw[z1];exact g1,by omega,rfl,by rw[z2];exact g4⟩
       ·cases h1
      ·cases h1
     ·cases h1
    ·cases h1
   ·cases h
  ·cases h
 ·cases h
end
end Go.Sx
namespace Go.Sx
open Go
section
variable{P:Program}{w:World}{b:Nat}{es:Array MapEntry}{clock:Nat}{ck:CK}{m:List (Int×ck.V)}
theorem iC.get(h:iC ck m es.toList clock){j:Nat}{e:MapEntry}(hj:es.toList[j]? =some e):∃k v,m[j]? =some (k,v)∧e.key=.int .i64 k∧e.val=ck.val v:=by
 have h1:=congrArg (fun l=>l[j]?) h.eq
 simp only[List.getElem?_map,hj,Option.map_some]at h1
 cases hm:m[j]? with
 |none=>rw[hm]at h1;cases h1
 |some p=>
  rw[hm]at h1
  simp only[Option.map_some,Option.some.injEq,Prod.mk.injEq]at h1
  exact⟨p.1,p.2,rfl,h1.1,h1.2⟩
theorem iC.key(h:iC ck m es.toList clock):∀e∈es.toList,MapKept.IsKey (.int .i64) e.key:=by
 intro e he
 obtain⟨j,hj⟩:=List.getElem?_of_mem he
 obtain⟨k,v,_,h2,_⟩:=h.get hj
 rw[h2];rfl
theorem oV{V:Type}:∀{m:List (Int×V)} {j:Nat} {k:Int} {v:V},(m.map (·.1)).Nodup→m[j]? =some (k,v)→m.find? (fun p=>p.1==k)=some (k,v)
 |[],j,k,v,_,h=>by simp at h
 |p::m,0,k,v,hn,h=>by
  simp only[List.getElem?_cons_zero,Option.some.injEq]at h
  subst h
  simp
 |p::m,j+1,k,v,hn,h=>by
  simp only[List.getElem?_cons_succ]at h
  simp only[List.map_cons,List.nodup_cons]at hn
  have cu:(p.1==k)=false:=by
   rw[beq_eq_false_iff_ne]
   rintro rfl
   exact hn.1 (List.mem_map.2 ⟨_,List.mem_of_getElem? h,rfl⟩)
  rw[List.find?_cons,cu]
  exact oV hn.2 h
theorem afY{V:Type}{m:List (Int×V)}{k:Int}(h:∀p∈m,p.1≠k):m.find? (fun p=>p.1==k)=none:=
 List.find?_eq_none.2 fun p hp=>by simpa using h p hp
theorem iC.find(h:iC ck m es.toList clock){kt:TypeId}(hk:P.underlying kt=some (.int .i64))(n:Int):
 ((Instr.findKey kt (.int .i64 n) es.toList).run P w=.ok none w∧fH m n=none∧oG m n=false)∨
 ∃j e v,(Instr.findKey kt (.int .i64 n) es.toList).run P w=.ok (some (j,ck.val v)) w∧es.toList[j]? =some e∧e.key=.int .i64 n∧e.val=ck.val v∧m[j]? =some (n,v)∧fH m n=some v∧oG m n=true:=by
 rcases MapKept.findNow_spec (d:=.int .i64) (k:=.int .i64 n) rfl es.toList 0 h.key with⟨h1,h2⟩|⟨j,e,h1,h2,h3⟩
 ·have tZ:∀p∈m,p.1≠n:=by
   intro p hp e
   obtain⟨j,hj⟩:=List.getElem?_of_mem hp
   have hlen:es.toList.length=m.length:=by have:=congrArg List.length h.eq;simpa using this
   have bd:j<es.toList.length:=by rw[hlen];exact(List.getElem?_eq_some_iff.1 hj).1
   obtain⟨k,v,g1,g2,_⟩:=h.get (List.getElem?_eq_getElem bd)
   rw[hj]at g1
   cases g1
   exact h2 _ (List.getElem_mem bd) (by rw[g2];exact congrArg _ e)
  refine .inl ⟨MapKept.run_findKey hk h1,by simp[fH,afY tZ], ?_⟩
  simp only[oG,List.any_eq_false,beq_iff_eq]
  exact tZ
 ·obtain⟨k,v,g1,g2,g3⟩:=h.get h2
  rw[h3]at g2
  cases g2
  rw[Nat.zero_add]at h1
  refine .inr ⟨j,e,v,by rw[←g3];exact MapKept.run_findKey hk h1,h2,h3,g3,g1,by simp[fH,oV h.keys g1], ?_⟩
  simp only[oG,List.any_eq_true,beq_iff_eq]
  exact⟨_,List.mem_of_getElem? g1,rfl⟩
theorem acL(h:iC ck m es.toList clock)(hb:w.heap[b]? =some (.map es clock)){t kt et:TypeId}(ht:P.underlying t=some (.map kt et))(hk:P.underlying kt=some (.int .i64)){z:Value}(hz:(zeroValue et).run P w=.ok z w)(n:Int)(ok:Bool):
 (Instr.lookup t (.map (some b)) (.int .i64 n) ok).run P w=.ok (if ok=true then .tuple #[((fH m n).map ck.val).getD z,.bool (oG m n)]else((fH m n).map ck.val).getD z) w:=by
 have hc:=MapKept.run_checkKey (w:=w) hk (k:=.int .i64 n) rfl es.isEmpty 9999
 rcases h.find (w:=w) hk n with⟨h1,h2,h3⟩|⟨j,e,v,h1,_,_,_,_,h2,h3⟩
 ·simp[Instr.lookup,run_underlying ht,MapKept.run_getObj_map hb,hc,h1,h2,h3,hz,Result.andThen]
 ·simp[Instr.lookup,run_underlying ht,MapKept.run_getObj_map hb,hc,h1,h2,h3,Result.andThen]
theorem stays(n:Int):(Instr.keyThatStays (.int .i64 n) (.int .i64 n)).run P w=.ok (.int .i64 n) w:=by
 simp[Instr.keyThatStays,Instr.sameBits]
theorem pQ(m:List (Int×ck.V))(k:Int)(v:ck.V):((m.map fun p=>if p.1==k then(k,v)else p).map (·.1))=m.map (·.1):=by
 rw[List.map_map]
 refine List.map_congr_left fun p _=> ?_
 simp only[Function.comp]
 by_cases h:p.1==k
 ·rw[if_pos h];exact(beq_iff_eq.1 h).symm
 ·rw[if_neg h]
theorem iC.put(h:iC ck m es.toList clock){n:Int}{v:ck.V}(hv:ck.fits v):
 (oG m n=false→iC ck (mj m n v) (es.push {key:=.int .i64 n,val:=ck.val v,born:=clock}).toList (clock+1))∧
 ∀(j:Nat) (e:MapEntry),es.toList[j]? =some e→e.key=.int .i64 n→oG m n=true→
  iC ck (mj m n v) (es.modify j fun e=>{e with key:=.int .i64 n,val:=ck.val v}).toList clock:=by
 constructor
 ·intro tZ
  have atF:∀p∈m,p.1≠n:=by simpa[oG]using tZ
  unfold mj
  rw[if_neg (by rw[tZ];simp)]
  refine⟨?_, ?_, ?_, ?_, ?_⟩
  ·simp only[Array.toList_push,List.map_append,h.eq,List.map_cons,List.map_nil]
  ·rw[List.map_append,List.nodup_append]
   refine⟨h.keys,by simp,fun a ha b hb=> ?_⟩
   simp only[List.map_cons,List.map_nil,List.mem_singleton]at hb
   obtain⟨p,hp,rfl⟩:=List.mem_map.1 ha
   rw[hb];exact atF p hp
  ·rw[Array.toList_push,List.map_append,List.nodup_append]
   refine⟨h.wZ,by simp,fun a ha b hb=> ?_⟩
   simp only[List.map_cons,List.map_nil,List.mem_singleton]at hb
   obtain⟨e,he,rfl⟩:=List.mem_map.1 ha
   have:=h.old e he
   omega
  ·intro e he
   rw[Array.toList_push,List.mem_append]at he
   rcases he with he|he
   ·have:=h.old e he;omega
   ·rw[List.mem_singleton.1 he];exact Nat.lt_succ_self _
  ·intro p hp
   rcases List.mem_append.1 hp with hp|hp
   ·exact h.fits p hp
   ·rw[List.mem_singleton.1 hp];exact hv
 ·intro j e hj he atG
  obtain⟨k,u,g1,g2,g3⟩:=h.get hj
  rw[he]at g2
  cases g2
  have bd:j<es.toList.length:=(List.getElem?_eq_some_iff.1 hj).1
  unfold mj
  rw[if_pos atG]
  have atH:(es.modify j fun e=>{e with key:=.int .i64 n,val:=ck.val v}).toList=es.toList.set j {e with key:=.int .i64 n,val:=ck.val v}:=by
   refine List.ext_getElem? fun i=> ?_
   simp only[Array.toList_modify,List.getElem?_modify,List.getElem?_set]
   by_cases kX:j=i
   ·subst kX
    have aoD:j<es.size:=by simpa using bd
    rw[hj]
    simp[aoD]
   ·simp[kX]
  rw[atH]
  have mK:(m.map fun p=>if p.1==n then(n,v)else p)=m.set j (n,v):=by
   refine List.ext_getElem? fun i=> ?_
   rw[List.getElem?_map,List.getElem?_set]
   by_cases kX:j=i
   ·subst kX
    have atI:j<m.length:=(List.getElem?_eq_some_iff.1 g1).1
    rw[g1]
    simp[atI]
   ·rw[if_neg kX]
    cases hm:m[i]? with
    |none=>rfl
    |some p=>
     have cu:(p.1==n)=false:=by
      rw[beq_eq_false_iff_ne]
      intro e1
      obtain⟨hi1,hi2⟩:=List.getElem?_eq_some_iff.1 hm
      obtain⟨hj1,xf⟩:=List.getElem?_eq_some_iff.1 g1
      refine kX ((List.getElem_inj (h₀:=by simpa using hj1) (h₁:=by simpa using hi1) h.keys).1 ?_)
      simp only[List.getElem_map,hi2,xf,e1]
     rw[Option.map_some,cu];rfl
  refine⟨?_,by rw[pQ];exact h.keys, ?_, ?_, ?_⟩
  ·rw[mK,List.map_set,List.map_set,h.eq]
  ·rw[List.map_set]
   have:(es.toList.map (·.born)).set j e.born=es.toList.map (·.born):=by
    refine List.ext_getElem? fun i=> ?_
    rw[List.getElem?_set]
    by_cases kX:j=i
    ·subst kX
     rw[if_pos rfl,if_pos (by simpa using bd),List.getElem?_map,hj];rfl
    ·rw[if_neg kX]
   rw[this];exact h.wZ
  ·intro x hx
   rcases List.mem_or_eq_of_mem_set hx with hx|rfl
   ·exact h.old x hx
   ·exact h.old e (List.mem_of_getElem? hj)
  ·intro p hp
   obtain⟨q,hq,rfl⟩:=List.mem_map.1 hp
   split
   ·exact hv
   ·exact h.fits q hq
theorem wo(h:iC ck m es.toList clock)(hb:w.heap[b]? =some (.map es clock)){t kt et:TypeId}(ht:P.underlying t=some (.map kt et))(hk:P.underlying kt=some (.int .i64))(n:Int){v:ck.V}(hv:ck.fits v):
 ∃kY uc,(Instr.mapUpdate t (.map (some b)) (.int .i64 n) (ck.val v)).run P w=.ok () {w with heap:=w.heap.setIfInBounds b (.map kY uc)}∧iC ck (mj m n v) kY.toList uc:=by
 have hc:=MapKept.run_checkKey (w:=w) hk (k:=.int .i64 n) rfl false 9999
 rcases h.find (w:=w) hk n with⟨h1,h2,h3⟩|⟨j,e,u,h1,g1,g2,g3,g4,h2,h3⟩
 ·exact⟨_,_,by simp[Instr.mapUpdate,run_underlying ht,MapKept.run_getObj_map hb,hc,h1,Result.andThen,MapKept.run_setObj_map _ hb],(h.put hv).1 h3⟩
 ·have atJ:((es[j]?).map (·.key)).getD (.int .i64 n)=.int .i64 n:=by
   rw[show es[j]? =some e from by rw[←Array.getElem?_toList];exact g1]
   exact g2
  refine⟨_,_, ?_,(h.put hv).2 j e g1 g2 h3⟩
  simp[Instr.mapUpdate,run_underlying ht,MapKept.run_getObj_map hb,hc,h1,Result.andThen,MapKept.run_setObj_map _ hb,atJ,stays]
end
end Go.Sx
namespace Go.Sx
open Go
section
variable{ρ az:Nat→Value}{H H':aG}{G O O':Nat→Prop}{w w':World}{P:Program}
theorem aak{t:TypeId}(h:adY P t=true):P.underlying t=some (.int .i64):=by
 unfold adY at h
 split at h
 ·assumption
 ·cases h
theorem afZ{t:TypeId}{ck:CK}(h:tE P t ck=true):(zeroValue t).run P w=.ok (ck.val ck.d) w∧ck.fits ck.d:=by
 have key:∀v,(P.info? t).bind (·.zero)=some v→(zeroValue t).run P w=.ok v w:=by
  intro v hv
  obtain⟨i,h1,h2⟩:=Option.bind_eq_some_iff.1 hv
  simp[zeroValue,typeInfo,h1,h2]
 unfold tE at h
 rw[Bool.and_eq_true]at h
 replace h:=h.2
 split at h
 ·rename_i k' k hz
  obtain rfl:=aY h
  exact⟨key _ hz,trivial⟩
 ·rename_i hz;exact⟨key _ hz,trivial⟩
 ·rename_i s hz
  have:s=ByteArray.empty:=by
   have:=Nat.eq_of_beq_eq_true h
   obtain⟨⟨l⟩⟩:=s
   cases l with
   |nil=>rfl
   |cons a l=>simp[ByteArray.size]at this
  subst this
  exact⟨key _ hz,trivial⟩
 ·rename_i cs k n hz
  simp only[Bool.and_eq_true]at h
  have h1:=mM k _ h.1
  have h2:=Nat.eq_of_beq_eq_true h.2
  refine⟨?_,by show(List.replicate n (0:Int)).length=n;simp⟩
  rw[key _ hz]
  congr 1
  show Value.agg cs=.agg ((List.replicate n (0:Int)).map (Value.int k)).toArray
  rw[←h2,←h1]
 ·cases h
theorem acM{ck:CK}{v:ck.V}(h:ck.fits v)(hp:ck.av v≠.s .aN):ab ρ H O w (ck.av v) (ck.val v):=by
 cases ck with
 |int k=>exact au (.int _ _)
 |bool=>exact au (.bool _)
 |str=>exact au (.str _)
 |arr k n=>
  show ab ρ H O w (.ints k n v) _
  unfold ab
  exact⟨h,rfl⟩
 |_=>exact(hp rfl).elim
theorem pR{t:TypeId}{ck:CK}(h:tE P t ck=true)(v:ck.V):ck.av v≠.s .aN:=by
 unfold tE at h
 rw[Bool.and_eq_true]at h
 replace h:=h.1
 cases ck<;>first
  |(cases h;done)
  |(intro e;cases e;done)
theorem yE(hs:Sat ρ H G w){id b:Nat}{ck:CK}{m:List (Int×ck.V)}(ho:H id=some (.map ck m))(hb:ρ id=.map (some b)):∃es clock,w.heap[b]? =some (.map es clock)∧iC ck m es.toList clock:=by
 obtain⟨b',es,clock,h1,h2,h3⟩:=hs.obj id _ ho
 rw[hb]at h1
 cases h1
 exact⟨es,clock,h2,h3⟩
theorem af0{ck:CK}{m:List (Int×ck.V)}(h:∀p∈m,ck.fits p.2){n:Int}{v:ck.V}(hv:fH m n=some v):ck.fits v:=by
 simp only[fH,Option.map_eq_some_iff]at hv
 obtain⟨p,hp,rfl⟩:=hv
 exact h p (List.mem_of_find?_eq_some hp)
theorem acN{t:TypeId}{x i:AV}{ok:Bool}{vx vi:Value}{q:bx}(h:(yk P t x i ok).eval H=some q)(hn:bt q.need)(hs:Sat ρ H G w)(hx:ab ρ H (aL ρ H G) w x vx)(hi:ab ρ H (aL ρ H G) w i vi):
 eK P ρ H (aL ρ H G) w q (Instr.lookup t vx vi ok):=by
 unfold yk at h
 split at h
 ·rename_i kt et id k lit n ht mI
  rw[Bool.cond_eq_ite]at h
  split at h
  ·rename_i hk
   simp only[Bool.and_eq_true]at hk
   obtain rfl:=mE hk.2
   obtain rfl:=bL mI hi
   simp only[RM.eval]at h
   split at h
   ·rename_i ck m ho
    rw[Bool.cond_eq_ite]at h
    split at h
    ·rename_i hz
     unfold ab ay at hx
     obtain⟨b,hb,rfl,_⟩:=hx
     obtain⟨es,clock,h1,h2⟩:=yE hs ho hb
     obtain⟨hz1,hz2⟩:=afZ (w:=w) hz
     have iW:=acL h2 h1 ht (aak hk.1) hz1 n ok
     have iX:ab ρ H (aL ρ H G) w (ck.av ((fH m n).getD ck.d)) (((fH m n).map ck.val).getD (ck.val ck.d)):=by
      cases hg:fH m n with
      |none=>exact acM hz2 (pR hz _)
      |some v=>exact acM (af0 h2.fits hg) (pR hz _)
     refine ax h (fun _=>⟨_,iW, ?_⟩) hn
     cases ok
     ·exact iX
     ·simp only[cond_true,if_true]
      unfold ab
      exact⟨[_,_],rfl,aw.2 ⟨_,_,rfl,iX,aw.2 ⟨_,_,rfl,au (.bool _),aU.2 rfl⟩⟩⟩
    ·cases h
   ·cases h
  ·cases h
 ·cases h
theorem aoI{ck:CK}{a:AV}{y:ck.V}{v:Value}(h:ck.rdv a=some y)(hd:ab ρ H O w a v):v=ck.val y∧ck.fits y:=by
 cases ck with
 |int k=>
  simp only[CK.rdv]at h
  split at h
  ·rw[Bool.cond_eq_ite]at h
   split at h
   ·rename_i hk;obtain rfl:=aY hk;cases h
    have:=ah (by simp) hd
    cases this;exact⟨rfl,trivial⟩
   ·cases h
  ·rw[Bool.cond_eq_ite]at h
   split at h
   ·rename_i hk;obtain rfl:=aY hk;cases h
    have:=ah (by simp) hd
    cases this;exact⟨rfl,trivial⟩
   ·cases h
  ·cases h
 |bool=>
  simp only[CK.rdv]at h
  split at h
  ·cases h
   have:=ah (by simp) hd
   cases this;exact⟨rfl,trivial⟩
  ·cases h
   have:=ah (by simp) hd
   cases this;exact⟨rfl,trivial⟩
  ·cases h
 |str=>
  simp only[CK.rdv]at h
  split at h
  ·cases h
   have:=ah (by simp) hd
   cases this;exact⟨rfl,trivial⟩
  ·cases h
 |arr k n=>
  simp only[CK.rdv]at h
  split at h
  ·rw[Bool.cond_eq_ite]at h
   split at h
   ·rename_i hk
    simp only[Bool.and_eq_true]at hk
    obtain rfl:=aY hk.1
    obtain rfl:=Nat.eq_of_beq_eq_true hk.2
    cases h
    unfold ab at hd
    exact⟨hd.2,hd.1⟩
   ·cases h
  ·cases h
 |_=>cases h
theorem om{t:TypeId}{x i a:AV}{vx vi va:Value}{q:bx}(h:(oP P t x i a).eval H=some q)(hs:Sat ρ H G w)(hx:ab ρ H (aL ρ H G) w x vx)(hi:ab ρ H (aL ρ H G) w i vi)(ha:ab ρ H (aL ρ H G) w a va):
 ∃w',(Instr.mapUpdate t vx vi va).run P w=.ok () w'∧∀base,Good ρ H G w (c8 H q.up base q.new) (q.r base) undef w':=by
 unfold oP at h
 split at h
 ·rename_i kt et id k lit n ht mI
  rw[Bool.cond_eq_ite]at h
  split at h
  ·rename_i hk
   simp only[Bool.and_eq_true]at hk
   obtain rfl:=mE hk.2
   obtain rfl:=bL mI hi
   simp only[RM.eval]at h
   split at h
   ·rename_i ck m ho
    split at h
    ·rename_i y hy
     simp only[RM.eval,Option.some.injEq]at h
     subst h
     obtain⟨rfl,hf⟩:=aoI hy ha
     unfold ab ay at hx
     obtain⟨b,hb,rfl,_⟩:=hx
     obtain⟨es,clock,h1,h2⟩:=yE hs ho hb
     obtain⟨kY,uc,h3,h4⟩:=wo h2 h1 ht (aak hk.1) n hf
     refine⟨_,h3,fun base=> ?_⟩
     simp only[fw]
     exact Good.write hs ho rfl rfl (by rw[hb];rfl) (fun _ _ hc=>by cases hc) ⟨b,kY,uc,hb,eG h1,h4⟩ cG
    ·cases h
   ·cases h
  ·cases h
 ·cases h
theorem aal{t:TypeId}{r:Option AV}{q:bx}(h:(tF P t r).eval H=some q)(hs:Sat ρ H G w){base:Nat}(hb:∀i,i<q.new.length→H (base+i)=none):
 r=none∧∃v w',(Instr.makeMap t none).run P w=.ok v w'∧Good ρ H G w (c8 H q.up base q.new) (q.r base) v w':=by
 unfold tF at h
 split at h
 ·split at h
  ·rename_i ck _
   simp only[RM.eval,Option.some.injEq]at h
   subst h
   have hn:H base=none:=by simpa using hb 0 (by simp)
   refine⟨rfl,.map (some w.heap.size),w.alloc (.map #[] 0),RowKit.run_makeMap .., ?_⟩
   simp only[iG]
   refine Good.fresh hs hn (root:=.map (some w.heap.size)) (w1:=w) rfl rfl rfl rfl (fun b hb=>by simpa[ef]using hb.symm) ⟨w.heap.size,#[],0,rfl,(MapKept.heap_alloc w _).1,⟨rfl,by simp,by simp,by simp,by simp⟩⟩ ?_
   unfold ab ay
   exact⟨w.heap.size,by simp,rfl,by simp[aB]⟩
  ·cases h
 ·cases h
end
end Go.Sx
