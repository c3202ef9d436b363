/- Lemmas: SxKind, SxBase, SxExec, SxPure, SxSat, SxMem, SxHeap, SxLoad, SxRead, SxSlice, SxStore, SxNew, SxBuild, SxBuild2, SxAppend, SxOver, SxAppend2, SxMap, SxMapOp. -/
import Derived.WalkKit
import Derived.WalkSpells
import Derived.MapKept
import Derived.Carry
namespace Go.Sx
open Go
inductive CK where
 |int (k:IntKind)
 |bool
 |str
 |ints (k:IntKind)
 |strs
 |bQ
 |rows (cs:List CK)
 |arr (k:IntKind) (n:Nat)
mutual
def CK.V:CK→Type
 |.int _=>Int
 |.bool=>Bool
 |.str=>ByteArray
 |.ints _=>List Int
 |.strs=>List ByteArray
 |.bQ=>List Bool
 |.rows cs=>List (CL cs)
 |.arr _ _=>List Int
def CL:List CK→Type
 |[]=>Unit
 |c::cs=>c.V×CL cs
end
def CK.d:(c:CK)→c.V
 |.int _=>(0:Int)
 |.bool=>false
 |.str=>ByteArray.empty
 |.ints _=>([]:List Int)
 |.strs=>([]:List ByteArray)
 |.bQ=>([]:List Bool)
 |.rows cs=>([]:List (CL cs))
 |.arr _ n=>List.replicate n (0:Int)
def CL.d:(cs:List CK)→CL cs
 |[]=>()
 |c::cs=>(c.d,CL.d cs)
def CK.wide:CK→Nat
 |.arr _ n=>n
 |_=>1
def CL.wide:List CK→Nat
 |[]=>0
 |c::cs=>c.wide+CL.wide cs
def kEq(a b:IntKind):Option (PLift (a=b)):=if h:a=b then some ⟨h⟩else none
mutual
def CK.eq:(a b:CK)→Option (PLift (a=b))
 |.int k,.int k'=>(kEq k k').map fun h=>⟨congrArg CK.int h.down⟩
 |.bool,.bool=>some ⟨rfl⟩
 |.str,.str=>some ⟨rfl⟩
 |.ints k,.ints k'=>(kEq k k').map fun h=>⟨congrArg CK.ints h.down⟩
 |.strs,.strs=>some ⟨rfl⟩
 |.bQ,.bQ=>some ⟨rfl⟩
 |.rows a,.rows b=>(CL.eq a b).map fun h=>⟨congrArg CK.rows h.down⟩
 |.arr k n,.arr k' n'=>if h:n=n' then(kEq k k').map fun h'=>⟨by rw[h,h'.down]⟩else none
 |_,_=>none
def CL.eq:(a b:List CK)→Option (PLift (a=b))
 |[],[]=>some ⟨rfl⟩
 |a::aJ,b::bs=>match CK.eq a b,CL.eq aJ bs with
  |some h,some h'=>some ⟨by rw[h.down,h'.down]⟩
  |_,_=>none
 |_,_=>none
end
def yw{a b:List CK}(h:PLift (a=b))(xs:List (CL a)):List (CL b):=h.down▸xs
def fl{V:Type}(m:List (Int×V))(k:Int):Option V:=(m.find? fun p=>p.1==k).map (·.2)
def ow{V:Type}(m:List (Int×V))(k:Int):Bool:=m.any fun p=>p.1==k
def pR{V:Type}(m:List (Int×V))(k:Int)(v:V):List (Int×V):=if ow m k=true then m.map fun p=>if p.1==k then(k,v)else p else m++[(k,v)]
theorem vj{a:List CK}(h:PLift (a=a))(xs:List (CL a)):yw h xs=xs:=rfl
end Go.Sx
namespace Go.Sx
open Go
mutual
inductive SV where
 |aR
 |bool (b:Bool)
 |aC (b:Bool)
 |kJ (n:Nat) (eq:Bool)
 |wH (k:IntKind)
 |int (k:IntKind) (n:Int)
 |aK (k:IntKind) (n:Int)
 |str (s:ByteArray)
 |bV
 |aaU
 |aaV
 |aaW
 |nH
 |j8 (f:FuncId)
 |ifi (t:TypeId) (k:IntKind) (n:Int)
 |ifs (t:TypeId) (s:ByteArray)
 |ifb (t:TypeId) (b:Bool)
 |raw (v:Value) (zs:List Int)
 |ro (c:aL)
 |wI (c:aL) (k:Nat)
 |lF (k:Nat)
 |nr (k:Nat)
inductive aL where
 |ints (k:IntKind) (zs:List Int)
 |strs (ss:List ByteArray)
 |bQ (bs:List Bool)
 |ad (cs:List CK) (xs:List (CL cs))
 |ef (size n:Nat) (get:Nat→Nat→SV)
end
def aL.n:aL→Nat
 |.ints _ zs=>zs.length
 |.strs ss=>ss.length
 |.bQ bs=>bs.length
 |.ad _ xs=>xs.length
 |.ef _ n _=>n
def aL.size:aL→Nat
 |.ints .. |.strs _|.bQ _=>1
 |.ad cs _=>CL.wide cs
 |.ef s _ _=>s
def CK.cell:(c:CK)→c.V→Nat→SV
 |.int k,x,_=>.int k x
 |.bool,x,_=>.bool x
 |.str,x,_=>.str x
 |.ints k,x,_=>.ro (.ints k x)
 |.strs,x,_=>.ro (.strs x)
 |.bQ,x,_=>.ro (.bQ x)
 |.rows cs,x,_=>.ro (.ad cs x)
 |.arr k _,x,j=>.int k (List.getD (α:=Int) x j 0)
def CL.cell:(cs:List CK)→CL cs→Nat→SV
 |[],_,_=>.aR
 |c::cs,x,j=>bif j.blt c.wide then c.cell x.1 j else CL.cell cs x.2 (j - c.wide)
def aL.cell:aL→Nat→Nat→SV
 |.ints k zs,i,_=>.int k (zs.getD i 0)
 |.strs ss,i,_=>.str (ss.getD i ByteArray.empty)
 |.bQ bs,i,_=>.bool (bs.getD i false)
 |.ad cs xs,i,j=>CL.cell cs (xs.getD i (CL.d cs)) j
 |.ef _ _ get,i,j=>get i j
inductive AV where
 |s (v:SV)
 |ptr (id off:Nat)
 |jd (id off n i:Nat)
 |iK (c:aL) (i j:Nat)
 |vec (id:Nat)
 |fR (id i j:Nat)
 |part (id lo n:Nat)
 |sub (id off n:Nat)
 |jz (id i j n:Nat)
 |emp
 |agg (ao:List AV)
 |ints (k:IntKind) (n:Nat) (ws:List Int)
 |bg (vs:List AV)
 |fn (f:FuncId) (da:List AV)
 |mQ (f:FuncId) (first:List AV)
 |ag (id:Nat)
 |tag (id:Nat)
inductive ab where
 |own (ao:List AV) (elem:TypeId)
 |vec (c:aL) (elem:TypeId)
 |map (ck:CK) (m:List (Int×ck.V))
 |gK (ck:CK) (m:List (Int×ck.V)) (gid:Nat)
 |iter (mid gid:Nat) (ck:CK) (left:List (Int×ck.V)) (cur:Option (Int×ck.V))
 |dead
abbrev aM:=Nat→Option ab
def ab.alive:ab→Bool
 |.dead=>false
 |_=>true
def eg:Value→Option Nat
 |.pointer (some a)=>some a.block
 |.slice (some a) _ cap=>if cap=0 then none else some a.block
 |.map (some b)=>some b
 |_=>none
def Own(ρ:Nat→Value)(H:aM)(b:Nat):Prop:=∃id o,H id=some o∧o.alive=true∧eg (ρ id)=some b
def aP(ρ:Nat→Value)(H:aM)(G:Nat→Prop)(b:Nat):Prop:=Own ρ H b∨G b
inductive aT (O:Nat→Prop) (w:World):SV→Value→Prop
 |aR (v:Value):v.oneCell'=true→aT O w .aR v
 |bool (b:Bool):aT O w (.bool b) (.bool b)
 |aC (b:Bool):aT O w (.aC b) (.bool b)
 |kJ (n:Nat) (eq b:Bool):(b=eq→n=0)→aT O w (.kJ n eq) (.bool b)
 |wH (k:IntKind) (n:Int):aT O w (.wH k) (.int k n)
 |int (k:IntKind) (n:Int):aT O w (.int k n) (.int k n)
 |aK (k:IntKind) (n:Int):aT O w (.aK k n) (.int k n)
 |str (s:ByteArray):aT O w (.str s) (.string s)
 |bV:aT O w .bV (.pointer none)
 |aaU:aT O w .aaU .nilIface
 |aaV:aT O w .aaV .nilFunc
 |aaW:aT O w .aaW (.map none)
 |nH:aT O w .nH (.slice none 0 0)
 |j8 (f:FuncId):aT O w (.j8 f) (.func (.func f) #[] #[])
 |ifi (t:TypeId) (k:IntKind) (n:Int):aT O w (.ifi t k n) (.iface t (.int k n))
 |ifs (t:TypeId) (s:ByteArray):aT O w (.ifs t s) (.iface t (.string s))
 |ifb (t:TypeId) (b:Bool):aT O w (.ifb t b) (.iface t (.bool b))
 |raw (v:Value) (zs:List Int):v.oneCell'=true→aT O w (.raw v zs) v
 |ro (c:aL) (a:Option Addr) (cap:Nat) (us:Nat→Nat→Value) (b o:Nat):c.n≤cap→cap≤maxLen→
  (0<c.n→a=some ⟨b,o,none⟩∧¬O b∧b<w.heap.size)→
  (∀i j,i<c.n→j<c.size→w.cell? ⟨b,o+i*c.size+j,none⟩=some (us i j))→
  (∀i j,i<c.n→j<c.size→aT O w (c.cell i j) (us i j))→aT O w (.ro c) (.slice a c.n cap)
 |wI (c:aL) (k:Nat) (a:Option Addr) (n cap:Nat):aT O w (.ro c) (.slice a n cap)→cap<k→aT O w (.wI c k) (.slice a n cap)
 |lF (k:Nat) (n:Int):(k:Int)≤n→aT O w (.lF k) (.int .i64 n)
 |nr (k:Nat) (n:Int):n<(k:Int)→aT O w (.nr k) (.int .i64 n)
mutual
def aD(ρ:Nat→Value)(H:aM)(O:Nat→Prop)(w:World):AV→Value→Prop
 |.s x,v=>aT O w x v
 |.ptr id off,v=>∃b,ρ id=.pointer (some ⟨b,0,none⟩)∧v=.pointer (some ⟨b,off,none⟩)∧(H id).isSome=true
 |.jd id off n i,v=>i<n∧∃b,ρ id=.pointer (some ⟨b,0,none⟩)∧v=.pointer (some ⟨b,off+i,none⟩)∧(H id).isSome=true
 |.iK c i j,v=>∃(b o:Nat) (us:Nat→Value),v=.pointer (some ⟨b,o+j,none⟩)∧¬O b∧b<w.heap.size∧
  (∀l,l<c.size→w.cell? ⟨b,o+l,none⟩=some (us l)∧aT O w (c.cell i l) (us l))
 |.vec id,v=>v.oneCell'=true∧∃o,H id=some o∧∀c e,o=.vec c e→v=ρ id
 |.fR id i j,v=>v.oneCell'=true∧∃o,H id=some o∧∀c e,o=.vec c e→i<c.n∧j<c.size∧
  ∃b f n cap,ρ id=.slice (some ⟨b,f,none⟩) n cap∧v=.pointer (some ⟨b,f+i*c.size+j,none⟩)
 |.part id lo n,v=>v.oneCell'=true∧∃o,H id=some o∧∀c e,o=.vec c e→lo+n≤c.n∧
  ∃a cap a',ρ id=.slice a c.n cap∧c.n≤cap∧v=.slice a' n (cap - lo)∧(cap≠lo→a'=a.map (·.add (lo*c.size)))
 |.sub id off n,v=>v.oneCell'=true∧∃b a cap,ρ id=.pointer (some ⟨b,0,none⟩)∧v=.slice a n cap∧(n≠0→a=some ⟨b,off,none⟩)∧(H id).isSome=true
 |.jz id i j n,v=>v.oneCell'=true∧∃o,H id=some o∧∀c e,o=.vec c e→i<c.n∧j+n≤c.size∧
  ∃b f n' cap a adX,ρ id=.slice (some ⟨b,f,none⟩) n' cap∧v=.slice a n adX∧(n≠0→a=some ⟨b,f+i*c.size+j,none⟩)
 |.emp,v=>∃a,v=.slice a 0 0
 |.fn f da,v=>∃vs:List Value,v=.func (.func f) #[] vs.toArray∧bI ρ H O w da vs
 |.mQ f first,v=>∃vs:List Value,v=.func (.func f) vs.toArray #[]∧bI ρ H O w first vs
 |.agg _,_=>False
 |.ints _ _ _,_=>False
 |.bg _,_=>False
 |.ag id,v=>∃b,ρ id=.map (some b)∧v=.map (some b)∧(H id).isSome=true
 |.tag id,v=>v=ρ id∧v.oneCell'=true∧(H id).isSome=true
def bI(ρ:Nat→Value)(H:aM)(O:Nat→Prop)(w:World):List AV→List Value→Prop
 |[],vs=>vs=[]
 |a::aJ,vs=>∃v rest,vs=v::rest∧af ρ H O w a v∧bI ρ H O w aJ rest
def aq(ρ:Nat→Value)(H:aM)(O:Nat→Prop)(w:World):List AV→List Value→Prop
 |[],cs=>cs=[]
 |a::aJ,cs=>∃c1 c2,cs=c1++c2∧aN ρ H O w a c1∧aq ρ H O w aJ c2
def aN(ρ:Nat→Value)(H:aM)(O:Nat→Prop)(w:World):AV→List Value→Prop
 |.agg _,_=>False
 |.ints k n ws,cs=>ws.length=n∧cs=ws.map (Value.int k)
 |.s x,cs=>∃u,cs=[u]∧aT O w x u
 |.ptr id off,cs=>∃u,cs=[u]∧aD ρ H O w (.ptr id off) u
 |.jd id off n i,cs=>∃u,cs=[u]∧aD ρ H O w (.jd id off n i) u
 |.iK c i j,cs=>∃u,cs=[u]∧aD ρ H O w (.iK c i j) u
 |.vec id,cs=>∃u,cs=[u]∧aD ρ H O w (.vec id) u
 |.fR id i j,cs=>∃u,cs=[u]∧aD ρ H O w (.fR id i j) u
 |.part id lo n,cs=>∃u,cs=[u]∧aD ρ H O w (.part id lo n) u
 |.sub id off n,cs=>∃u,cs=[u]∧aD ρ H O w (.sub id off n) u
 |.jz id i j n,cs=>∃u,cs=[u]∧aD ρ H O w (.jz id i j n) u
 |.emp,cs=>∃u,cs=[u]∧∃a,u=.slice a 0 0
 |.fn f da,cs=>∃u,cs=[u]∧∃vs:List Value,u=.func (.func f) #[] vs.toArray∧bI ρ H O w da vs
 |.mQ f first,cs=>∃u,cs=[u]∧∃vs:List Value,u=.func (.func f) vs.toArray #[]∧bI ρ H O w first vs
 |.bg _,_=>False
 |.ag id,cs=>∃u,cs=[u]∧aD ρ H O w (.ag id) u
 |.tag id,cs=>∃u,cs=[u]∧aD ρ H O w (.tag id) u
def af(ρ:Nat→Value)(H:aM)(O:Nat→Prop)(w:World):AV→Value→Prop
 |.agg ao,v=>∃cs:List Value,v=.agg cs.toArray∧aq ρ H O w ao cs
 |.ints k n ws,v=>ws.length=n∧v=.agg (ws.map (Value.int k)).toArray
 |.bg vs,v=>∃us:List Value,v=.tuple us.toArray∧bI ρ H O w vs us
 |.s .aR,_=>True
 |.s x,v=>aT O w x v
 |.ptr id off,v=>aD ρ H O w (.ptr id off) v
 |.jd id off n i,v=>aD ρ H O w (.jd id off n i) v
 |.iK c m j,v=>aD ρ H O w (.iK c m j) v
 |.vec id,v=>aD ρ H O w (.vec id) v
 |.fR id i j,v=>aD ρ H O w (.fR id i j) v
 |.part id lo n,v=>aD ρ H O w (.part id lo n) v
 |.sub id off n,v=>aD ρ H O w (.sub id off n) v
 |.jz id i j n,v=>aD ρ H O w (.jz id i j n) v
 |.emp,v=>∃a,v=.slice a 0 0
 |.fn f da,v=>∃vs:List Value,v=.func (.func f) #[] vs.toArray∧bI ρ H O w da vs
 |.mQ f first,v=>∃vs:List Value,v=.func (.func f) vs.toArray #[]∧bI ρ H O w first vs
 |.ag id,v=>aD ρ H O w (.ag id) v
 |.tag id,v=>aD ρ H O w (.tag id) v
end
theorem aT.one{O:Nat→Prop}{w:World}{x:SV}{v:Value}(h:aT O w x v):v.oneCell'=true:=by
 cases h<;>first|rfl|assumption
structure Step (ρ:Nat→Value) (H:aM) (O:Nat→Prop) (w:World) (aF:Nat→Value) (H':aM) (O':Nat→Prop) (w':World):Prop where
 r5:∀id o,H id=some o→aF id=ρ id
 dO:∀id o,H id=some o→∃o',H' id=some o'∧∀c' e',o'=.vec c' e'→∃c e,o=.vec c e∧c'.n=c.n∧c'.size=c.size
 fz:∀b,O' b→O b∨w.heap.size≤b
 heap:∀b,b<w.heap.size→¬O b→w'.heap[b]? =w.heap[b]?
 size:w.heap.size≤w'.heap.size
theorem Step.refl(ρ:Nat→Value)(H:aM)(O:Nat→Prop)(w:World):Step ρ H O w ρ H O w:=
 ⟨fun _ _ _=>rfl,fun _ o h=>⟨o,h,fun c' e' e=>⟨c',e',e,rfl,rfl⟩⟩,fun _ h=>.inl h,fun _ _ _=>rfl,Nat.le_refl _⟩
theorem kK{w w':World}{b o:Nat}(h:w'.heap[b]? =w.heap[b]?):w'.cell? ⟨b,o,none⟩=w.cell? ⟨b,o,none⟩:=by
 simp[World.cell?,h]
section
variable{ρ aF:Nat→Value}{H H':aM}{O O':Nat→Prop}{w w':World}
theorem Step.trans{apg:Nat→Value}{H'':aM}{O'':Nat→Prop}{w'':World}(h:Step ρ H O w aF H' O' w')(k:Step aF H' O' w' apg H'' O'' w'')
 :Step ρ H O w apg H'' O'' w'':=by
 refine⟨fun id o ho=> ?_,fun id o ho=> ?_,fun b hb=> ?_,fun b hb hO=> ?_,Nat.le_trans h.size k.size⟩
 ·obtain⟨o',dg,_⟩:=h.dO id o ho;rw[k.r5 id o' dg,h.r5 id o ho]
 ·obtain⟨o',dg,q⟩:=h.dO id o ho;obtain⟨o'',asr,q'⟩:=k.dO id o' dg;refine⟨o'',asr,fun c e hc=> ?_⟩;obtain⟨c1,e1,h1,n1,s1⟩:=q' c e hc;obtain⟨c2,e2,h2,n2,s2⟩:=q c1 e1 h1;exact⟨c2,e2,h2,n1.trans n2,s1.trans s2⟩
 ·rcases k.fz b hb with h1|h1
  ·exact h.fz b h1
  ·exact .inr (Nat.le_trans h.size h1)
 ·have ass:¬O' b:=fun h1=>by rcases h.fz b h1 with h2|h2<;>first|exact hO h2|omega
  rw[k.heap b (by have:=h.size;omega) ass,h.heap b hb hO]
theorem aT.step(fz:∀b,O' b→O b∨w.heap.size≤b)(heap:∀b,b<w.heap.size→¬O b→w'.heap[b]? =w.heap[b]?)
 (size:w.heap.size≤w'.heap.size) {x:SV} {v:Value} (h:aT O w x v):aT O' w' x v:=by
 induction h with
 |aR v hv=>exact .aR v hv
 |bool b=>exact .bool b
 |aC b=>exact .aC b
 |kJ n eq b hb=>exact .kJ n eq b hb
 |wH k n=>exact .wH k n
 |int k n=>exact .int k n
 |aK k n=>exact .aK k n
 |str s=>exact .str s
 |bV=>exact .bV
 |aaU=>exact .aaU
 |aaV=>exact .aaV
 |aaW=>exact .aaW
 |nH=>exact .nH
 |j8 f=>exact .j8 f
 |ifi t k n=>exact .ifi t k n
 |ifs t s=>exact .ifs t s
 |ifb t b=>exact .ifb t b
 |raw v zs h=>exact .raw v zs h
 |wI c k a n cap _ hk ih=>exact .wI c k a n cap ih hk
 |lF k n h=>exact .lF k n h
 |nr k n h=>exact .nr k n h
 |ro c a cap us b o hn hm hb hc _ ih=>
  refine .ro c a cap us b o hn hm (fun h0=> ?_) (fun i j hi hj=> ?_) ih
  ·obtain⟨e,h1,h2⟩:=hb h0;exact⟨e,fun h3=>by rcases fz b h3 with h4|h4<;>first|exact h1 h4|omega,by omega⟩
  ·obtain⟨_,h1,h2⟩:=hb (by omega);rw[kK (heap b h2 h1)];exact hc i j hi hj
mutual
theorem aD.step(st:Step ρ H O w aF H' O' w'):∀(x:AV) (v:Value),aD ρ H O w x v→aD aF H' O' w' x v
 |.s x,v,h=>by unfold aD at *;exact h.step st.fz st.heap st.size
 |.ptr id off,v,h=>by
  unfold aD at *;obtain⟨b,h1,h2,h3⟩:=h;obtain⟨o,ho⟩:=Option.isSome_iff_exists.1 h3;obtain⟨o',dg,_⟩:=st.dO id o ho;exact⟨b,by rw[st.r5 id o ho,h1],h2,by rw[dg];rfl⟩
 |.jd id off n i,v,h=>by
  unfold aD at *;obtain⟨hi,b,h1,h2,h3⟩:=h;obtain⟨o,ho⟩:=Option.isSome_iff_exists.1 h3;obtain⟨o',dg,_⟩:=st.dO id o ho;exact⟨hi,b,by rw[st.r5 id o ho,h1],h2,by rw[dg];rfl⟩
 |.iK c m j,v,h=>by
  unfold aD at *;obtain⟨b,o,us,h1,h2,h3,h4⟩:=h;refine⟨b,o,us,h1,fun h5=> ?_,by have:=st.size;omega,fun i hi=> ?_⟩
  ·rcases st.fz b h5 with h6|h6<;>first|exact h2 h6|omega
  ·obtain⟨h5,h6⟩:=h4 i hi;exact⟨by rw[kK (st.heap b h3 h2)];exact h5,h6.step st.fz st.heap st.size⟩
 |.vec id,v,h=>by
  unfold aD at *;obtain⟨h0,o,ho,h1⟩:=h;obtain⟨o',dg,h2⟩:=st.dO id o ho;refine⟨h0,o',dg,fun c e hc=> ?_⟩;obtain⟨c1,e1,h3,_,_⟩:=h2 c e hc;rw[st.r5 id o ho];exact h1 c1 e1 h3
 |.fR id i j,v,h=>by
  unfold aD at *;obtain⟨h0,o,ho,h1⟩:=h;obtain⟨o',dg,h2⟩:=st.dO id o ho;refine⟨h0,o',dg,fun c e hc=> ?_⟩;obtain⟨c1,e1,h3,hn,hs⟩:=h2 c e hc;rw[st.r5 id o ho,hn,hs];exact h1 c1 e1 h3
 |.part id lo n,v,h=>by
  unfold aD at *;obtain⟨h0,o,ho,h1⟩:=h;obtain⟨o',dg,h2⟩:=st.dO id o ho;refine⟨h0,o',dg,fun c e hc=> ?_⟩;obtain⟨c1,e1,h3,hn,hs⟩:=h2 c e hc;rw[st.r5 id o ho,hn,hs];exact h1 c1 e1 h3
 |.sub id off n,v,h=>by
  unfold aD at *;obtain⟨h0,b,a,cap,h1,h2,h4,h3⟩:=h;obtain⟨o,ho⟩:=Option.isSome_iff_exists.1 h3;obtain⟨o',dg,_⟩:=st.dO id o ho;exact⟨h0,b,a,cap,by rw[st.r5 id o ho,h1],h2,h4,by rw[dg];rfl⟩
 |.jz id i j n,v,h=>by
  unfold aD at *;obtain⟨h0,o,ho,h1⟩:=h;obtain⟨o',dg,h2⟩:=st.dO id o ho;refine⟨h0,o',dg,fun c e hc=> ?_⟩;obtain⟨c1,e1,h3,hn,hs⟩:=h2 c e hc;rw[st.r5 id o ho,hn,hs];exact h1 c1 e1 h3
 |.emp,v,h=>by unfold aD at *;exact h
 |.fn f da,v,h=>by
  unfold aD at *;obtain⟨vs,h1,h2⟩:=h;exact⟨vs,h1,bI.step st da vs h2⟩
 |.mQ f da,v,h=>by
  unfold aD at *;obtain⟨vs,h1,h2⟩:=h;exact⟨vs,h1,bI.step st da vs h2⟩
 |.agg _,v,h=>by unfold aD at h;exact h.elim
 |.ints _ _ _,v,h=>by unfold aD at h;exact h.elim
 |.bg _,v,h=>by unfold aD at h;exact h.elim
 |.ag id,v,h=>by
  unfold aD at *;obtain⟨b,h1,h2,h3⟩:=h;obtain⟨o,ho⟩:=Option.isSome_iff_exists.1 h3;obtain⟨o',dg,_⟩:=st.dO id o ho;exact⟨b,by rw[st.r5 id o ho,h1],h2,by rw[dg];rfl⟩
 |.tag id,v,h=>by
  unfold aD at *;obtain⟨h1,h2,h3⟩:=h;obtain⟨o,ho⟩:=Option.isSome_iff_exists.1 h3;obtain⟨o',dg,_⟩:=st.dO id o ho;exact⟨by rw[st.r5 id o ho,h1],h2,by rw[dg];rfl⟩
theorem bI.step(st:Step ρ H O w aF H' O' w'):∀(xs:List AV) (vs:List Value),bI ρ H O w xs vs→bI aF H' O' w' xs vs
 |[],vs,h=>by unfold bI at *;exact h
 |a::aJ,vs,h=>by
  unfold bI at *;obtain⟨v,rest,h1,h2,h3⟩:=h;exact⟨v,rest,h1,af.step st a v h2,bI.step st aJ rest h3⟩
theorem aq.step(st:Step ρ H O w aF H' O' w'):∀(xs:List AV) (cs:List Value),aq ρ H O w xs cs→aq aF H' O' w' xs cs
 |[],vs,h=>by unfold aq at *;exact h
 |a::aJ,vs,h=>by
  unfold aq at *;obtain⟨c1,c2,h1,h2,h3⟩:=h;exact⟨c1,c2,h1,aN.step st a c1 h2,aq.step st aJ c2 h3⟩
theorem aN.step(st:Step ρ H O w aF H' O' w'):∀(x:AV) (cs:List Value),aN ρ H O w x cs→aN aF H' O' w' x cs
 |.agg _,cs,h=>by unfold aN at h;exact h.elim
 |.ints _ _ _,cs,h=>by unfold aN at *;exact h
 |.s x,cs,h=>by unfold aN at *;obtain⟨u,h1,h2⟩:=h;exact⟨u,h1,h2.step st.fz st.heap st.size⟩
 |.ptr id off,cs,h=>by unfold aN at *;obtain⟨u,h1,h2⟩:=h;exact⟨u,h1,aD.step st (.ptr id off) u h2⟩
 |.jd id off n i,cs,h=>by unfold aN at *;obtain⟨u,h1,h2⟩:=h;exact⟨u,h1,aD.step st (.jd id off n i) u h2⟩
 |.iK c m j,cs,h=>by unfold aN at *;obtain⟨u,h1,h2⟩:=h;exact⟨u,h1,aD.step st (.iK c m j) u h2⟩
 |.vec id,cs,h=>by unfold aN at *;obtain⟨u,h1,h2⟩:=h;exact⟨u,h1,aD.step st (.vec id) u h2⟩
 |.fR id i j,cs,h=>by unfold aN at *;obtain⟨u,h1,h2⟩:=h;exact⟨u,h1,aD.step st (.fR id i j) u h2⟩
 |.part id lo n,cs,h=>by unfold aN at *;obtain⟨u,h1,h2⟩:=h;exact⟨u,h1,aD.step st (.part id lo n) u h2⟩
 |.sub id off n,cs,h=>by unfold aN at *;obtain⟨u,h1,h2⟩:=h;exact⟨u,h1,aD.step st (.sub id off n) u h2⟩
 |.jz id i j n,cs,h=>by unfold aN at *;obtain⟨u,h1,h2⟩:=h;exact⟨u,h1,aD.step st (.jz id i j n) u h2⟩
 |.emp,cs,h=>by unfold aN at *;exact h
 |.fn f da,cs,h=>by
  unfold aN at *;obtain⟨u,h1,vs,h2,h3⟩:=h;exact⟨u,h1,vs,h2,bI.step st da vs h3⟩
 |.mQ f da,cs,h=>by
  unfold aN at *;obtain⟨u,h1,vs,h2,h3⟩:=h;exact⟨u,h1,vs,h2,bI.step st da vs h3⟩
 |.bg _,cs,h=>by unfold aN at h;exact h.elim
 |.ag id,cs,h=>by unfold aN at *;obtain⟨u,h1,h2⟩:=h;exact⟨u,h1,aD.step st (.ag id) u h2⟩
 |.tag id,cs,h=>by unfold aN at *;obtain⟨u,h1,h2⟩:=h;exact⟨u,h1,aD.step st (.tag id) u h2⟩
theorem af.step(st:Step ρ H O w aF H' O' w'):∀(x:AV) (v:Value),af ρ H O w x v→af aF H' O' w' x v
 |.agg ao,v,h=>by unfold af at *;obtain⟨cs,h1,h2⟩:=h;exact⟨cs,h1,aq.step st ao cs h2⟩
 |.ints _ _ _,v,h=>by unfold af at *;exact h
 |.bg vs,v,h=>by unfold af at *;obtain⟨us,h1,h2⟩:=h;exact⟨us,h1,bI.step st vs us h2⟩
 |.s .aR,v,h=>by unfold af;trivial
 |.s (.bool b),v,h=>by unfold af at *;exact h.step st.fz st.heap st.size
 |.s (.aC b),v,h=>by unfold af at *;exact h.step st.fz st.heap st.size
 |.s (.kJ _ _),v,h=>by unfold af at *;exact h.step st.fz st.heap st.size
 |.s (.wH k),v,h=>by unfold af at *;exact h.step st.fz st.heap st.size
 |.s (.int k n),v,h=>by unfold af at *;exact h.step st.fz st.heap st.size
 |.s (.aK k n),v,h=>by unfold af at *;exact h.step st.fz st.heap st.size
 |.s (.str b),v,h=>by unfold af at *;exact h.step st.fz st.heap st.size
 |.s .bV,v,h=>by unfold af at *;exact h.step st.fz st.heap st.size
 |.s .aaU,v,h=>by unfold af at *;exact h.step st.fz st.heap st.size
 |.s .aaV,v,h=>by unfold af at *;exact h.step st.fz st.heap st.size
 |.s .aaW,v,h=>by unfold af at *;exact h.step st.fz st.heap st.size
 |.s .nH,v,h=>by unfold af at *;exact h.step st.fz st.heap st.size
 |.s (.j8 b),v,h=>by unfold af at *;exact h.step st.fz st.heap st.size
 |.s (.ifi _ _ _),v,h=>by unfold af at *;exact h.step st.fz st.heap st.size
 |.s (.ifs _ _),v,h=>by unfold af at *;exact h.step st.fz st.heap st.size
 |.s (.ifb _ _),v,h=>by unfold af at *;exact h.step st.fz st.heap st.size
 |.s (.raw _ _),v,h=>by unfold af at *;exact h.step st.fz st.heap st.size
 |.s (.ro b),v,h=>by unfold af at *;exact h.step st.fz st.heap st.size
 |.s (.wI _ _),v,h=>by unfold af at *;exact h.step st.fz st.heap st.size
 |.s (.lF _),v,h=>by unfold af at *;exact h.step st.fz st.heap st.size
 |.s (.nr _),v,h=>by unfold af at *;exact h.step st.fz st.heap st.size
 |.ptr id off,v,h=>by unfold af at *;exact aD.step st (.ptr id off) v h
 |.jd id off n i,v,h=>by unfold af at *;exact aD.step st (.jd id off n i) v h
 |.iK c m j,v,h=>by unfold af at *;exact aD.step st (.iK c m j) v h
 |.vec id,v,h=>by unfold af at *;exact aD.step st (.vec id) v h
 |.fR id i j,v,h=>by unfold af at *;exact aD.step st (.fR id i j) v h
 |.part id lo n,v,h=>by unfold af at *;exact aD.step st (.part id lo n) v h
 |.sub id off n,v,h=>by unfold af at *;exact aD.step st (.sub id off n) v h
 |.jz id i j n,v,h=>by unfold af at *;exact aD.step st (.jz id i j n) v h
 |.emp,v,h=>by unfold af at *;exact h
 |.fn f da,v,h=>by
  unfold af at *;obtain⟨vs,h2,h3⟩:=h;exact⟨vs,h2,bI.step st da vs h3⟩
 |.mQ f da,v,h=>by
  unfold af at *;obtain⟨vs,h2,h3⟩:=h;exact⟨vs,h2,bI.step st da vs h3⟩
 |.ag id,v,h=>by unfold af at *;exact aD.step st (.ag id) v h
 |.tag id,v,h=>by unfold af at *;exact aD.step st (.tag id) v h
end
end
end Go.Sx
namespace Go.Sx
open Go
inductive RM (α:Type)where
 |ret (a:α)
 |look (id:Nat) (k:Option ab→RM α)
 |fail (why:String)
def RM.eval{α:Type}(H:aM):RM α→Option α
 |.ret a=>some a
 |.look id k=>(k (H id)).eval H
 |.fail _=>none
def RM.ids{α:Type}(H:aM):RM α→List Nat
 |.ret _=>[]
 |.look id k=>id::(k (H id)).ids H
 |.fail _=>[]
def RM.why{α:Type}(H:aM):RM α→String
 |.ret _=> ""
 |.look _ k=>(k (H id)).why H
 |.fail w=>w
where id:Nat:=0
structure bH where
 need:List Prop
 up:List (Nat×ab)
 new:List ab
 r:Nat→AV
def plain(need:List Prop)(r:AV):RM bH:=.ret ⟨need,[],[],fun _=>r⟩
def nI(why:String):Option (List Prop×AV)→RM bH
 |some (need,r)=>plain need r
 |none=>.fail why
def ay(n:Int):Prop:= -9223372036854775808≤n∧n≤9223372036854775807
def bK:IntKind→IntKind→Bool
 |.i8,.i8|.i16,.i16|.i32,.i32|.i64,.i64|.u8,.u8|.u16,.u16|.u32,.u32|.u64,.u64=>true
 |_,_=>false
def nt:IntKind→Bool
 |.i64=>true
 |_=>false
def bt(op:BinOp)(k:IntKind)(x y:Int):Int:=
 let a:=BitVec.ofInt k.bits x;let b:=BitVec.ofInt k.bits y
 match op with
 |.and=>k.wrap (a &&& b).toNat
 |.or=>k.wrap (a ||| b).toNat
 |.xor=>k.wrap (a ^^^ b).toNat
 |_=>k.wrap (a &&& ~~~b).toNat
def mkInt(lit:Bool)(k:IntKind)(n:Int):AV:=.s (if lit then .aK k n else .int k n)
def jO(lit:Bool)(b:Bool):AV:=.s (if lit then .aC b else .bool b)
def lS(lit:Bool)(k:IntKind)(n:Int):List Prop×AV:=
 bif lit then([],.s (.aK k (k.wrap n)))
 else bif nt k then([ay n],.s (.int k n))else([],.s (.int k (k.wrap n)))
def r6(op:BinOp)(k:IntKind)(lx ly:Bool)(x y:Int):Option (List Prop×AV):=
 let lit:=lx&&ly
 match op with
 |.add=>some (lS lit k (x+y))
 |.sub=>some (lS lit k (x - y))
 |.mul=>some (lS lit k (x*y))
 |.quo=>some (bif lit then([y≠0],.s (.aK k (k.wrap (x.tdiv y))))else bif nt k then([y≠0,ay (x.tdiv y)],.s (.int k (x.tdiv y)))else([y≠0],.s (.int k (k.wrap (x.tdiv y)))))
 |.rem=>some ([y≠0],mkInt lit k (x.tmod y))
 |.and|.or|.xor|.andNot=>some ([],mkInt lit k (bt op k x y))
 |.eql=>some ([],jO lit (x==y))
 |.neq=>some ([],jO lit (x !=y))
 |.lss=>some ([],jO lit (decide (x<y)))
 |.leq=>some ([],jO lit (decide (x≤y)))
 |.gtr=>some ([],jO lit (decide (x>y)))
 |.geq=>some ([],jO lit (decide (x≥y)))
 |_=>none
def aaX(op:BinOp)(k:IntKind)(lit:Bool)(x y:Int):Option (List Prop×AV):=
 match op with
 |.shl=>some ([0≤y],mkInt lit k (k.wrap (x*2^(min y.toNat k.bits))))
 |.shr=>some ([0≤y],mkInt lit k (x.fdiv (2^(min y.toNat k.bits))))
 |_=>none
def slt(x y:ByteArray):Bool:=Op.bytesLess x.data.toList y.data.toList
def aaY(op:BinOp)(x y:ByteArray):Option (List Prop×AV):=
 match op with
 |.add=>some ([x.size+y.size≤4611686018427387904],.s (.str (x++y)))
 |.eql=>some ([],.s (.bool (decide (x=y))))
 |.neq=>some ([],.s (.bool (!decide (x=y))))
 |.lss=>some ([],.s (.bool (slt x y)))
 |.leq=>some ([],.s (.bool (slt x y||decide (x=y))))
 |.gtr=>some ([],.s (.bool !(slt x y||decide (x=y))))
 |.geq=>some ([],.s (.bool !(slt x y)))
 |_=>none
def AV.cu :AV→Option (IntKind×Bool×Int)
 |.s (.int k n)=>some (k,false,n)
 |.s (.aK k n)=>some (k,true,n)
 |_=>none
def AV.eW :AV→Option (Bool×Bool)
 |.s (.bool b)=>some (false,b)
 |.s (.aC b)=>some (true,b)
 |_=>none
def unR(op:UnOp)(x:AV):Option (List Prop×AV):=
 match op,x with
 |.not,.s (.bool b)=>some ([],.s (.bool !b))
 |.not,.s (.aC b)=>some ([],.s (.aC !b))
 |.neg,.s (.int k n)=>some (lS false k (0 - n))
 |.neg,.s (.aK k n)=>some (lS true k (0 - n))
 |_,_=>none
def afA(c a b:AV):Option (List Prop×AV):=
 match c with
 |.s (.aC true)=>some ([],a)
 |.s (.aC false)=>some ([],b)
 |.s (.bool c)=>
  match a.eW,b.eW with
  |some (_,x),some (_,y)=>some ([],.s (.bool (bif c then x else y)))
  |_,_=>
   match a.cu,b.cu with
   |some (k,_,x),some (k',_,y)=>bif bK k k' then some ([],.s (.int k (bif c then x else y)))else none
   |_,_=>none
 |_=>none
def du(P:Program)(t:TypeId):Option Nat:=(P.info? t).map (·.size)
def gq(P:Program)(t:TypeId):Option Bool:=
 match P.underlying t with
 |some (.struct _)|some (.array _ _)=>some true
 |some _=>some false
 |none=>none
def kindOf(P:Program)(t:TypeId):Option IntKind:=
 match P.underlying t with
 |some (.int k)=>some k
 |_=>none
def AV.wide:AV→Nat
 |.ints _ n _=>n
 |_=>1
def eX:List AV→Nat→Option (List AV)
 |ao,0=>some ao
 |[],_+1=>none
 |a::aJ,n+1=>bif a.wide.ble (n+1)then eX aJ (n+1 - a.wide)else none
def eY:List AV→Nat→Option (List AV)
 |_,0=>some []
 |[],_+1=>none
 |a::aJ,n+1=>bif a.wide.ble (n+1)&&(1:Nat).ble a.wide then(eY aJ (n+1 - a.wide)).map (a:: ·)else none
def cellAt:List AV→Nat→Option AV
 |[],_=>none
 |.ints k n ws::aJ,off=>bif off.blt n then some (.s (.int k (ws.getD off 0)))else cellAt aJ (off - n)
 |a::_,0=>some a
 |_::aJ,off+1=>cellAt aJ off
def fX:List AV→Nat→AV→Option (List AV)
 |[],_,_=>none
 |.ints k n ws::aJ,off,v=>bif off.blt n then
  (match v.cu with
   |some (k',_,x)=>bif bK k k' then some (.ints k n (ws.set off x)::aJ)else none
   |none=>none)
  else(fX aJ (off - n) v).map (.ints k n ws:: ·)
 |_::aJ,0,v=>some (v::aJ)
 |a::aJ,off+1,v=>(fX aJ off v).map (a:: ·)
def iy:List AV→Nat→Option (IntKind×Nat×List Int)
 |.ints k n ws::aJ,off=>bif off.beq 0 then some (k,n,ws)else bif off.blt n then none else iy aJ (off - n)
 |_::aJ,off+1=>iy aJ off
 |_,_=>none
def je:List AV→Nat→List Int→Option (List AV)
 |.ints k n ws::aJ,off,lL=>bif off.beq 0 then some (.ints k n lL::aJ)else bif off.blt n then none else(je aJ (off - n) lL).map (.ints k n ws:: ·)
 |a::aJ,off+1,lL=>(je aJ off lL).map (a:: ·)
 |_,_,_=>none
def AV.single:AV→Bool
 |.s .aR|.agg _|.ints _ _ _|.bg _=>false
 |_=>true
def AV.iE :AV→Option (List AV)
 |.agg ao=>some ao
 |.ints k n ws=>some [.ints k n ws]
 |.bg _|.s .aR=>none
 |a=>some [a]
def AV.jP:List AV→AV
 |[.ints k n ws]=>.ints k n ws
 |ao=>.agg ao
def fA:List AV→Nat
 |[]=>0
 |a::aJ=>a.wide+fA aJ
def aaZ(ao:List AV)(off:Nat)(iF:List AV):Option (List AV):=
 match ao,iF with
 |[.ints k n ws],[x]=>match x.cu with
  |some (k',_,z)=>bif bK k k'&&off.blt n then some [.ints k n (ws.set off z)]else none
  |none=>none
 |_,_=>none
def rE(ao:List AV)(off:Nat)(iF:List AV):Option (List AV):=
 match aaZ ao off iF with
 |some r=>some r
 |none=>
 match eY ao off,eX ao (off+fA iF)with
 |some pre,some post=>some (pre++iF++post)
 |_,_=>none
def adY(P:Program)(rec:TypeId→List AV→List AV→Option Bool):List Field→List AV→List AV→Option Bool
 |[],_,_=>some true
 |f::fs,xs,ys=>bif f.name== "_" then adY P rec fs xs ys else
  match du P f.type,gq P f.type with
  |some sz,some uE=>bif uE||sz.beq 1 then(match(eX xs f.offset).bind (eY · sz),(eX ys f.offset).bind (eY · sz)with
   |some a,some b=>(match rec f.type a b,adY P rec fs xs ys with
    |some p,some q=>some (p&&q)
    |_,_=>none)
   |_,_=>none)else none
  |_,_=>none
def eqC(P:Program):Nat→TypeId→List AV→List AV→Option Bool
 |0,_,_,_=>none
 |d+1,t,xs,ys=>
  match P.underlying t with
  |some (.int _)=>(match xs,ys with
   |[x],[y]=>(match x.cu,y.cu with
    |some (k,_,a),some (k',_,b)=>bif bK k k' then some (a==b)else none
    |_,_=>none)
   |_,_=>none)
  |some .bool=>(match xs,ys with
   |[x],[y]=>(match x.eW,y.eW with
    |some (_,a),some (_,b)=>some (a==b)
    |_,_=>none)
   |_,_=>none)
  |some .string=>(match xs,ys with
   |[.s (.str a)],[.s (.str b)]=>some (decide (a=b))
   |_,_=>none)
  |some (.array n e)=>(match xs,ys with
   |[.ints k m ws],[.ints k' m' lL]=>
    (match P.underlying e with
     |some (.int k'')=>bif (1:Nat).ble d&&bK k k'&&bK k k''&&n==m&&m==m'&&(P.info? e).any (fun i=>i.size==1)then some (decide (ws=lL))else none
     |_=>none)
   |_,_=>none)
  |some (.struct fs)=>bif P.stoodInHeld t then none else adY P (eqC P d) fs.toList xs ys
  |_=>none
def afB(P:Program)(t:TypeId):Bool:=match P.underlying t with|some (.int _)=>true|_=>false
def afC(P:Program)(t:TypeId):Bool:=match P.underlying t with|some .string=>true|_=>false
def acr(P:Program)(t:TypeId):Bool:=match P.underlying t with|some .bool=>true|_=>false
def afD(P:Program):AV→AV→Option Bool
 |.s (.ifi t k n),.s (.ifi t' k' n')=>bif t.beq t'&&bK k k'&&(P.info? t).any (·.comparable)&&afB P t then some (n==n')else none
 |.s (.ifs t s),.s (.ifs t' s')=>bif t.beq t'&&(P.info? t).any (·.comparable)&&afC P t then some (decide (s=s'))else none
 |.s (.ifb t b),.s (.ifb t' b')=>bif t.beq t'&&(P.info? t).any (·.comparable)&&acr P t then some (b==b')else none
 |_,_=>none
def eqI(P:Program):List AV→List AV→Option Bool
 |[],[]=>some true
 |x::xs,y::ys=>match afD P x y,eqI P xs ys with
  |some a,some b=>some (a&&b)
  |_,_=>none
 |_,_=>none
def eqR(P:Program)(t:TypeId)(x y:AV):Option (Bool×Bool):=
 match P.underlying t,x,y with
 |some .bool,x,y=>match x.eW,y.eW with
  |some (lx,a),some (ly,b)=>some (lx&&ly,a==b)
  |_,_=>none
 |some (.array n e),.ints k m ws,.ints k' m' lL=>
  match P.underlying e with
  |some (.int k'')=>bif bK k k'&&bK k k''&&n==m&&m==m'&&(P.info? e).any (fun i=>i.size==1)&& !P.eqGuardType P.depth t then some (false,decide (ws=lL))else none
  |_=>none
 |some (.pointer _),.s .bV,.s .bV=>some (true,true)
 |some (.pointer _),.s .bV,.ptr _ _|some (.pointer _),.ptr _ _,.s .bV=>some (true,false)
 |some (.array n e),.agg xs,.agg ys=>
  match P.underlying e with
  |some (.interface _)=>bif n==xs.length&&n==ys.length&&(P.info? e).any (fun i=>i.size==1)&& !P.eqGuardType P.depth t then(eqI P xs ys).map fun b=>(false,b)else none
  |_=>none
 |some (.struct _),.agg xs,.agg ys=>bif P.eqGuardType P.depth t then none else(eqC P 20 t xs ys).map fun b=>(false,b)
 |_,_,_=>none
def AV.kind? :AV→Option IntKind
 |.s (.int k _)|.s (.aK k _)|.s (.wH k)=>some k
 |_=>none
def aa0(op:BinOp)(k:IntKind):Option AV:=
 match op with
 |.add|.sub|.mul|.and|.or|.xor|.andNot=>some (.s (.wH k))
 |.eql|.neq|.lss|.leq|.gtr|.geq=>some (.s (.kJ 0 true))
 |_=>none
def aiY(P:Program)(op:BinOp)(t:TypeId)(x y:AV):Option (List Prop×AV):=
 match x,y with
 |.s (.str a),.s (.str b)=>aaY op a b
 |x,y=>
  match x.cu,y.cu with
  |some (k,lx,a),some (k',ly,b)=>
   match op with
   |.shl|.shr=>aaX op k (lx&&ly) a b
   |_=>bif bK k k' then r6 op k lx ly a b else none
  |_,_=>
   match x.kind?,y.kind? with
   |some k,some k'=>bif bK k k' then(aa0 op k).map fun r=>([],r)else none
   |_,_=>
   match op with
   |.eql=>(eqR P t x y).map fun(l,b)=>([],jO l b)
   |.neq=>(eqR P t x y).map fun(l,b)=>([],jO l (!b))
   |_=>none
def aiZ:Value→Option SV
 |.bool b=>some (.aC b)
 |.int k n=>some (.aK k n)
 |.string s=>some (.str s)
 |.pointer none=>some .bV
 |.nilIface=>some .aaU
 |.nilFunc=>some .aaV
 |.map none=>some .aaW
 |_=>none
def oz:Value→Option AV
 |.slice none 0 0=>some .emp
 |v=>(aiZ v).map .s
def oA:List Value→Option (List AV)
 |[]=>some []
 |v::vs=>match oz v,oA vs with
  |some a,some aJ=>some (a::aJ)
  |_,_=>none
def lT(k:IntKind):List Value→Bool
 |[]=>true
 |.int k' 0::vs=>bK k k'&&lT k vs
 |_=>false
def gr(P:Program):Nat→TypeId→List Value→Option (List AV)
 |0,_,_=>none
 |d+1,t,cs=>
  match P.underlying t with
  |some (.struct fs)=>fs.toList.foldl (fun acc f=>
   match acc,du P f.type with
   |some (ao,rest),some n=>(gr P d f.type (rest.take n)).map fun s=>(ao++s,rest.drop n)
   |_,_=>none) (some ([],cs)) |>.bind fun(ao,rest)=>match rest with|[]=>some ao|_=>none
  |some (.array n e)=>match kindOf P e with
   |some k=>bif lT k cs&&cs.length==n then some [.ints k n (List.replicate n 0)]else oA cs
   |none=>oA cs
  |_=>oA cs
def wJ:Value→AV
 |.agg cs=>match oA cs.toList with|some aJ=>.agg aJ|none=>.s .aR
 |v=>(oz v).getD (.s .aR)
def zeroOf(P:Program)(t:TypeId):Option AV:=
 match(P.info? t).bind (·.zero),gq P t with
 |some (.agg cs),some true=>(gr P 20 t cs.toList).map .jP
 |some v,some false=>oz v
 |_,_=>none
def CL.ao:(cs:List CK)→CL cs→List AV
 |[],_=>[]
 |.arr k n::cs,x=>.ints k n x.1::CL.ao cs x.2
 |.int k::cs,x=>.s (.int k x.1)::CL.ao cs x.2
 |.bool::cs,x=>.s (.bool x.1)::CL.ao cs x.2
 |.str::cs,x=>.s (.str x.1)::CL.ao cs x.2
 |.ints k::cs,x=>.s (.ro (.ints k x.1))::CL.ao cs x.2
 |.strs::cs,x=>.s (.ro (.strs x.1))::CL.ao cs x.2
 |.bQ::cs,x=>.s (.ro (.bQ x.1))::CL.ao cs x.2
 |.rows ds::cs,x=>.s (.ro (.ad ds x.1))::CL.ao cs x.2
def ei:List AV→List Prop
 |[]=>[]
 |.ints _ n ws::aJ=>(ws.length=n)::ei aJ
 |_::aJ=>ei aJ
def afE(k:IntKind):SV→Option Int
 |.int k' x|.aK k' x=>bif bK k k' then some x else none
 |_=>none
def aa1:SV→Option Bool
 |.bool x|.aC x=>some x
 |_=>none
def afF:SV→Option ByteArray
 |.str x=>some x
 |_=>none
def aa2(k:IntKind):SV→Option (List Int)
 |.ro (.ints k' zs)=>bif bK k k' then some zs else none
 |.ro (.ef _ 0 _)=>some []
 |_=>none
def aa3:SV→Option (List ByteArray)
 |.ro (.strs zs)=>some zs
 |.ro (.ef _ 0 _)=>some []
 |_=>none
def wK:SV→Option (List Bool)
 |.ro (.bQ zs)=>some zs
 |.ro (.ef _ 0 _)=>some []
 |_=>none
def aa4(cs:List CK):SV→Option (List (CL cs))
 |.ro (.ad j5 zs)=>(CL.eq j5 cs).map fun h=>yw h zs
 |.ro (.ef _ 0 _)=>some []
 |_=>none
def CK.set:(c:CK)→c.V→Nat→SV→Option c.V
 |.int k,_,_,v=>afE k v
 |.bool,_,_,v=>aa1 v
 |.str,_,_,v=>afF v
 |.ints k,_,_,v=>aa2 k v
 |.strs,_,_,v=>aa3 v
 |.bQ,_,_,v=>wK v
 |.rows cs,_,_,v=>aa4 cs v
 |.arr _ _,_,_,_=>none
def CL.set:(cs:List CK)→CL cs→Nat→SV→Option (CL cs)
 |[],_,_,_=>none
 |c::cs,x,j,v=>bif j.blt c.wide then(c.set x.1 j v).map fun y=>(y,x.2)else(CL.set cs x.2 (j - c.wide) v).map fun y=>(x.1,y)
def CK.setRow:(c:CK)→IntKind→Nat→List Int→Option c.V
 |.arr k' n',k,n,ws=>bif bK k k'&&n.beq n' then some ws else none
 |_,_,_,_=>none
def CL.setRow:(cs:List CK)→CL cs→Nat→IntKind→Nat→List Int→Option (CL cs)
 |[],_,_,_,_,_=>none
 |c::cs,x,j,k,n,ws=>bif j.beq 0 then(c.setRow k n ws).map fun y=>(y,x.2)
   else bif c.wide.ble j then(CL.setRow cs x.2 (j - c.wide) k n ws).map fun y=>(x.1,y)else none
def oB(uE:Bool)(c:aL)(i j sz:Nat):RM bH:=
 bif uE then
  (match c with
   |.ad cs xs=>(match(eX (CL.ao cs (xs.getD i (CL.d cs))) j).bind (eY · sz)with
     |some ss=>plain (ei (CL.ao cs (xs.getD i (CL.d cs)))) (.jP ss)
     |none=>.fail "load: no such parts of the element")
   |c=>bif (j+sz).ble c.size then plain [] (.agg ((List.range sz).map fun l=>.s (c.cell i (j+l))))else .fail "load: beyond the element")
 else(bif j.blt c.size then plain [] (.s (c.cell i j))else .fail "load: beyond the element")
def acs(P:Program)(t:TypeId)(a:AV):RM bH:=
 match du P t,gq P t with
 |some sz,some uE=>
  match a with
  |.ptr id off=>.look id fun
   |some (.own ao _)=>bif uE then
    (match(eX ao off).bind (eY · sz)with
     |some ss=>plain [] (.jP ss)
     |none=>.fail "load: no such parts")
    else(match cellAt ao off with
     |some v=>plain [] v
     |none=>.fail "load: no such cell")
   |_=>.fail "load: no own object"
  |.jd id off n i=>.look id fun
   |some (.own ao _)=>match iy ao off with
    |some (k,m,ws)=>bif m.beq n&& !uE then plain [] (.s (.int k (ws.getD i 0)))else .fail "load: a row of another length"
    |none=>.fail "load: no row"
   |_=>.fail "load: no own object"
  |.iK c i j=>oB uE c i j sz
  |.fR id i j=>.look id fun
   |some (.vec c _)=>oB uE c i j sz
   |_=>.fail "load: no vec"
  |_=>.fail "load: no address"
 |_,_=>.fail "load: no type"
def pS:aL→Nat→Nat→SV→Option aL
 |.ints k zs,i,_,v=>match v with
  |.int k' x|.aK k' x=>bif bK k k' then some (.ints k (zs.set i x))else none
  |_=>none
 |.strs ss,i,_,v=>match v with
  |.str x=>some (.strs (ss.set i x))
  |_=>none
 |.bQ bs,i,_,v=>match v with
  |.bool x|.aC x=>some (.bQ (bs.set i x))
  |_=>none
 |.ad cs xs,i,j,v=>(CL.set cs (xs.getD i (CL.d cs)) j v).map fun y=>.ad cs (xs.set i y)
 |.ef s n get,i,j,v=>some (.ef s n fun i' j'=>bif i'==i&&j'==j then v else get i' j')
def mR:aL→Nat→Nat→IntKind→Nat→List Int→Option aL
 |.ad cs xs,i,j,k,n,ws=>(CL.setRow cs (xs.getD i (CL.d cs)) j k n ws).map fun y=>.ad cs (xs.set i y)
 |_,_,_,_,_,_=>none
def ej(c:aL)(i j:Nat):List AV→Option aL
 |[]=>some c
 |.s v::aJ=>(pS c i j v).bind fun c'=>ej c' i (j+1) aJ
 |.ints k n ws::aJ=>(mR c i j k n ws).bind fun c'=>ej c' i (j+n) aJ
 |_=>none
def lU(cs:List CK)(x:CL cs)(j:Nat):List AV→Option (CL cs)
 |[]=>some x
 |.s v::aJ=>(CL.set cs x j v).bind fun y=>lU cs y (j+1) aJ
 |.ints k n ws::aJ=>(CL.setRow cs x j k n ws).bind fun y=>lU cs y (j+n) aJ
 |_=>none
def acu(c:aL)(i j:Nat)(iF:List AV):Option aL:=match c with
 |.ad cs xs=>(lU cs (xs.getD i (CL.d cs)) j iF).map fun y=>.ad cs (xs.set i y)
 |_=>ej c i j iF
def aa5(P:Program)(t:TypeId)(a x:AV):RM bH:=
 match du P t,gq P t with
 |some sz,some uE=>
  match a with
  |.ptr id off=>.look id fun
   |some (.own ao e)=>
    bif uE then
     (match x.iE with
      |some iF=>bif (fA iF).beq sz&&(1:Nat).ble sz then
       (match rE ao off iF with
        |some ek=>.ret ⟨[],[(id,.own ek e)],[],fun _=>.bg []⟩
        |none=>.fail "store: no such parts")else .fail "store: another size"
      |none=>.fail "store: no parts")
    else(bif x.single&&sz.beq 1 then
     (match fX ao off x with
      |some ek=>.ret ⟨[],[(id,.own ek e)],[],fun _=>.bg []⟩
      |none=>.fail "store: no such cell")else .fail "store: no one cell")
   |_=>.fail "store: no own object"
  |.jd id off n i=>.look id fun
   |some (.own ao e)=>match iy ao off,x.cu with
    |some (k,m,ws),some (k',_,y)=>bif m.beq n&&bK k k'&& !uE&&sz.beq 1 then
     (match je ao off (ws.set i y)with
      |some ek=>.ret ⟨[],[(id,.own ek e)],[],fun _=>.bg []⟩
      |none=>.fail "store: no row")else .fail "store: a row of another length"
    |_,_=>.fail "store: no row"
   |_=>.fail "store: no own object"
  |.fR id i j=>.look id fun
   |some (.vec c e)=>match x.iE with
    |some iF=>bif (fA iF).beq sz&&(j+sz).ble c.size then
     (match acu c i j iF with
      |some c'=>.ret ⟨[],[(id,.vec c' e)],[],fun _=>.bg []⟩
      |none=>.fail "store: another kind of element")else .fail "store: another size"
    |none=>.fail "store: no parts"
   |_=>.fail "store: no vec"
  |_=>.fail "store: no own address"
 |_,_=>.fail "store: no type"
def nJ(P:Program)(t:TypeId)(x:AV)(f:Nat):RM bH:=
 match P.underlying t with
 |some (.struct fs)=>match fs[f]? with
  |some fd=>bif (du P fd.type).any (fun n=>(1:Nat).ble n)then
   (match x with
    |.ptr id off=>plain [] (.ptr id (off+fd.offset))
    |.iK c i j=>plain [] (.iK c i (j+fd.offset))
    |.fR id i j=>.look id fun
     |some (.vec c _)=>bif (j+fd.offset).blt c.size then plain [] (.fR id i (j+fd.offset))else .fail "fieldAddr: beyond"
     |_=>.fail "fieldAddr: no vec"
    |_=>.fail "fieldAddr: no address")else .fail "fieldAddr: an empty field"
  |none=>.fail "fieldAddr: no field"
 |_=>.fail "fieldAddr: no struct"
def nK(P:Program)(t:TypeId)(x i:AV):RM bH:=
 match i.cu,P.underlying t with
 |some (_,_,n),some (.slice e)=>
  (match du P e,x with
   |some sz,.s (.ro c)=>bif sz.beq c.size then plain [0≤n,n<c.n] (.iK c n.toNat 0)else .fail "indexAddr: size"
   |some sz,.vec id=>.look id fun
    |some (.vec c _)=>bif sz.beq c.size&&(1:Nat).ble sz then plain [0≤n,n<c.n] (.fR id n.toNat 0)else .fail "indexAddr: size"
    |_=>.fail "indexAddr: no vec"
   |some sz,.part id lo m=>.look id fun
    |some (.vec c _)=>bif sz.beq c.size&&(1:Nat).ble sz then plain [0≤n,n<m] (.fR id (lo+n.toNat) 0)else .fail "indexAddr: size"
    |_=>.fail "indexAddr: no vec"
   |_,_=>.fail "indexAddr: no slice")
 |some (_,lit,n),some (.array len e)=>
  (match du P e,x with
   |some sz,.ptr id off=>bif lit then
    (bif decide (0≤n)&&decide (n<len)then plain [] (.ptr id (off+n.toNat*sz))else .fail "indexAddr: out of range")
    else(bif sz.beq 1 then plain [0≤n,n<len] (.jd id off len n.toNat)else .fail "indexAddr: wide elements")
   |some sz,.fR id i0 0=>.look id fun
    |some (.vec c _)=>bif sz.beq c.size&&(1:Nat).ble sz then plain [0≤n,n<len,i0+n<c.n] (.fR id (i0+n.toNat) 0)else .fail "indexAddr: size"
    |_=>.fail "indexAddr: no vec"
   |_,_=>.fail "indexAddr: no array")
 |_,_=>.fail "indexAddr: no number or type"
def aG(s:ByteArray)(i:Nat):Int:=((s.data.toList.getD i 0).toNat:Int)
def aa6(P:Program)(t:TypeId)(x i:AV):RM bH:=
 match i.cu,P.underlying t,x with
 |some (_,_,n),some (.array len e),.ints k m ws=>bif len.beq m&&(gq P e).any (!·)&&(du P e).any (·.beq 1)then plain [0≤n,n<len] (.s (.int k (ws.getD n.toNat 0)))else .fail "index: array"
 |some (_,_,n),some .string,.s (.str s)=>plain [0≤n,n<s.size] (.s (.int .u8 (aG s n.toNat)))
 |some (_,_,n),some (.array len e),.agg ao=>bif (gq P e).any (!·)&&(du P e).any (·.beq 1)then
  (match cellAt ao n.toNat with
   |some v=>plain [0≤n,n<len] v
   |none=>.fail "index: no cell")else .fail "index: array of parts"
 |_,_,_=>.fail "index"
def aa7(P:Program)(t:TypeId)(x:AV)(f:Nat):RM bH:=
 match P.underlying t,x with
 |some (.struct fs),.agg ao=>match fs[f]? with
  |some fd=>match du P fd.type,gq P fd.type with
   |some sz,some true=>match(eX ao fd.offset).bind (eY · sz)with
    |some ss=>plain [] (.jP ss)
    |none=>.fail "field: parts"
   |some _,some false=>match cellAt ao fd.offset with
    |some v=>plain [] v
    |none=>.fail "field: cell"
   |_,_=>.fail "field: type"
  |none=>.fail "field: none"
 |_,_=>.fail "field"
def r7(x:AV)(i:Nat):RM bH:=
 match x with
 |.bg vs=>match vs[i]? with
  |some v=>plain [] v
  |none=>.fail "extract"
 |_=>.fail "extract: no tuple"
def wL(P:Program)(t:TypeId):Option Nat:=
 match P.underlying t,P.info? t with
 |some (.array n e),some i=>match P.underlying e,i.zero with
  |some .string,some z=>bif (4:Nat).ble n&&n.ble 4096&&z.cells.size.beq n&&z.cells.toList.all (fun v=>match v with|.string s=>s.size.beq 0|_=>false)then some n else none
  |_,_=>none
 |_,_=>none
def aa8(P:Program)(t:TypeId):RM bH:=
 match wL P t with
 |some n=>.ret ⟨[],[],[.vec (.strs (List.replicate n ByteArray.empty)) t],fun id=>.fR id 0 0⟩
 |none=>
 match(zeroOf P t).bind AV.iE with
 |some ao=>.ret ⟨[],[],[.own ao t],fun id=>.ptr id 0⟩
 |none=>.fail "alloc: zero"
def amL(t:TypeId)(v:AV):RM bH:=
 match v.iE with
 |some ao=>.ret ⟨[],[],[.own ao t],fun id=>.ptr id 0⟩
 |none=>.fail "box"
def nL(place:Nat→Option (Nat×Nat))(ao:List AV):List (Nat×AV)→Option (List AV)
 |[]=>some ao
 |(i,v)::rest=>
  match place i,v.iE with
  |some (off,size),some iF=>bif (fA iF).beq size&&(1:Nat).ble size then(rE ao off iF).bind fun s=>nL place s rest else none
  |_,_=>none
def aa9(P:Program)(t:TypeId)(parts:List (Nat×AV)):RM bH:=
 match(zeroOf P t).bind AV.iE,P.underlying t with
 |some ao,some (.struct fs)=>bif fs.toList.all (fun f=>(du P f.type).isSome)then
  match nL (fun i=>(fs[i]?).bind fun f=>(du P f.type).map fun n=>(f.offset,n)) ao parts with
  |some ss=>plain [] (.jP ss)
  |none=>.fail "build: parts"
  else .fail "build: a field's size"
 |some ao,some (.array _ e)=>
  match du P e with
  |some sz=>match nL (fun i=>some (i*sz,sz)) ao parts with
   |some ss=>plain [] (.jP ss)
   |none=>.fail "build: array"
  |none=>.fail "build: element"
 |_,_=>.fail "build: zero"
def AV.sv? :AV→Option SV
 |.s .aR=>none
 |.s v=>some v
 |.emp=>some (.ro (.ef 1 0 fun _ _=>.aR))
 |_=>none
def svs:List AV→Option (List SV)
 |[]=>some []
 |.ints _ _ _::_=>none
 |a::aJ=>match a.sv?,svs aJ with
  |some v,some vs=>some (v::vs)
  |_,_=>none
def nM(k:IntKind):List SV→Option (List Int)
 |[]=>some []
 |.int k' n::vs|.aK k' n::vs=>bif bK k k' then(nM k vs).map (n:: ·)else none
 |_=>none
def pT:List SV→Option (List ByteArray)
 |[]=>some []
 |.str s::vs=>(pT vs).map (s:: ·)
 |_=>none
def mS:List SV→Option (List Bool)
 |[]=>some []
 |.bool b::vs|.aC b::vs=>(mS vs).map (b:: ·)
 |_=>none
inductive Shape where
 |ints (k:IntKind)|strs|bQ|ad (cs:List CK)|other
def afG(P:Program):Nat→TypeId→Option (List CK)
 |0,_=>none
 |d+1,t=>
  match P.underlying t with
  |some (.int k)=>some [.int k]
  |some .bool=>some [.bool]
  |some .string=>some [.str]
  |some (.slice e)=>match P.underlying e with
   |some (.int k)=>some [.ints k]
   |some .string=>some [.strs]
   |some .bool=>some [.bQ]
   |_=>(afG P d e).map fun cs=>[.rows cs]
  |some (.struct fs)=>fs.toList.foldr (fun f acc=>match afG P d f.type,acc with
   |some a,some b=>some (a++b)
   |_,_=>none) (some [])
  |some (.array n e)=>match P.underlying e with
   |some (.int k)=>some [.arr k n]
   |_=>none
  |_=>none
def shapeOf(P:Program)(e:TypeId):Shape:=
 match P.underlying e with
 |some (.int k)=>.ints k
 |some .string=>.strs
 |some .bool=>.bQ
 |_=>match afG P 8 e with
  |some cs=>.ad cs
  |none=>.other
def CL.ofs(cs:List CK)(f:Nat→SV):Option (CL cs):=(List.range (CL.wide cs)).foldl (fun acc j=>acc.bind fun x=>CL.set cs x j (f j)) (some (CL.d cs))
def vk(cs:List CK)(size:Nat)(cells:List SV):Nat→Nat→Option (List (CL cs))
 |_,0=>some []
 |i,n+1=>match CL.ofs cs (fun j=>cells.getD (i*size+j) .aR),vk cs size cells (i+1) n with
  |some x,some xs=>some (x::xs)
  |_,_=>none
def qJ(sh:Shape)(size n:Nat)(cells:List SV):aL:=
 let d:aL:=.ef size n fun i j=>cells.getD (i*size+j) .aR
 match sh with
 |.ints k=>(nM k cells).elim d (.ints k)
 |.strs=>(pT cells).elim d .strs
 |.bQ=>(mS cells).elim d .bQ
 |.ad cs=>bif (CL.wide cs).beq size then(vk cs size cells 0 n).elim d (.ad cs)else d
 |.other=>d
def afH(sh:Shape)(size:Nat):aL:=
 match sh with
 |.ints k=>.ints k []
 |.strs=>.strs []
 |.bQ=>.bQ []
 |.ad cs=>.ad cs []
 |.other=>.ef size 0 fun _ _=>.aR
def rep{α:Type}(n:Nat)(x:List α):List α:=
 match n with
 |0=>[]
 |n+1=>x++rep n x
def lV(P:Program)(t:TypeId)(n:Nat)(parts:List (Nat×AV)):RM bH:=
 match P.underlying t with
 |some (.slice e)=>
  match du P e,(zeroOf P e).bind AV.iE with
  |some sz,some z=>bif (1:Nat).ble sz&&(n*sz).ble 4096&&(fA z).beq sz then
   (match(nL (fun i=>some (i*sz,sz)) (rep n z) parts).bind svs with
    |some cells=>bif cells.length.beq (n*sz)&&(qJ (shapeOf P e) sz n cells).n.beq n&&(qJ (shapeOf P e) sz n cells).size.beq sz then .ret ⟨[],[],[.vec (qJ (shapeOf P e) sz n cells) e],fun id=>.vec id⟩else .fail "buildSlice: length"
    |none=>.fail "buildSlice: parts")else .fail "buildSlice: size"
  |_,_=>.fail "buildSlice: zero"
 |_=>.fail "buildSlice: type"
def db:aL→aL→aL
 |.ints k xs,.ints k' ys=>bif bK k k' then .ints k (xs++ys)else .ef 1 (xs.length+ys.length) fun i j=>bif i.blt xs.length then(aL.ints k xs).cell i j else(aL.ints k' ys).cell (i - xs.length) j
 |.strs xs,.strs ys=>.strs (xs++ys)
 |.bQ xs,.bQ ys=>.bQ (xs++ys)
 |.ad cs xs,.ad j5 ys=>match CL.eq j5 cs with
  |some h=>.ad cs (xs++yw h ys)
  |none=>.ef (CL.wide cs) (xs.length+ys.length) fun i j=>bif i.blt xs.length then(aL.ad cs xs).cell i j else(aL.ad j5 ys).cell (i - xs.length) j
 |c,d=>.ef c.size (c.n+d.n) fun i j=>bif i.blt c.n then c.cell i j else d.cell (i - c.n) j
def dq:aL→Nat→Nat→aL
 |.ints k zs,l,h=>.ints k ((zs.take h).drop l)
 |.strs zs,l,h=>.strs ((zs.take h).drop l)
 |.bQ zs,l,h=>.bQ ((zs.take h).drop l)
 |.ad cs zs,l,h=>.ad cs ((zs.take h).drop l)
 |.ef s _ get,l,h=>.ef s (h - l) fun i j=>get (l+i) j
def over{α:Type}(xs:List α)(lo k:Nat)(ys:List α):List α:=xs.take lo++ys.take k++xs.drop (lo+k)
def dh:aL→Nat→Nat→aL→aL
 |.ints k1 xs,lo,k,.ints k2 ys=>bif bK k1 k2 then .ints k1 (over xs lo k ys)else .ef 1 xs.length fun i j=>bif lo.ble i&&i.blt (lo+k)then(aL.ints k2 ys).cell (i - lo) j else(aL.ints k1 xs).cell i j
 |.strs xs,lo,k,.strs ys=>.strs (over xs lo k ys)
 |.bQ xs,lo,k,.bQ ys=>.bQ (over xs lo k ys)
 |.ad cs xs,lo,k,.ad j5 ys=>match CL.eq j5 cs with
  |some h=>.ad cs (over xs lo k (yw h ys))
  |none=>.ef (CL.wide cs) xs.length fun i j=>bif lo.ble i&&i.blt (lo+k)then(aL.ad j5 ys).cell (i - lo) j else(aL.ad cs xs).cell i j
 |c,lo,k,d=>.ef c.size c.n fun i j=>bif lo.ble i&&i.blt (lo+k)then d.cell (i - lo) j else c.cell i j
def amM:SV→Value→Bool
 |.int k n,.int k' n'=>bK k k'&&n==n'
 |.bool b,.bool b'=>b==b'
 |.str s,.string s'=>s.size.beq 0&&s'.size.beq 0
 |.ro c,.slice none 0 0=>c.n.beq 0
 |_,_=>false
def di(sh:Shape)(n:Nat):aL:=
 match sh with
 |.ints k=>.ints k (List.replicate n 0)
 |.strs=>.strs (List.replicate n ByteArray.empty)
 |.bQ=>.bQ (List.replicate n false)
 |.ad cs=>.ad cs (List.replicate n (CL.d cs))
 |.other=>.ef 1 n fun _ _=>.aR
def fG(sh:Shape)(z:List Value):Bool:=(di sh 1).size.beq z.length&&(List.range z.length).all fun j=>amM ((di sh 1).cell 0 j) (z.getD j undef)
def rowOf(sh:Shape)(size:Nat)(x:AV)(k:aL→Option Nat→RM bH):RM bH:=
 match x with
 |.s v=>(match v with
  |.ro c=>k c none
  |_=>.fail "row")
 |.emp=>k (afH sh size) none
 |.vec id=>.look id fun
  |some (.vec c _)=>k c (some id)
  |_=>.fail "row: no vec"
 |.part id lo n=>.look id fun
  |some (.vec c _)=>k (dq c lo (lo+n)) (some id)
  |_=>.fail "row: no vec"
 |_=>.fail "row"
def vn(sh:Shape)(size:Nat)(x:AV)(k:aL→Option Nat→RM bH):RM bH:=
 match x with
 |.s (.str s)=>k (.ints .u8 (s.data.toList.map fun b=>(b.toNat:Int))) none
 |x=>rowOf sh size x k
def wM(P:Program)(t:TypeId)(x y:AV):RM bH:=
 match P.underlying t with
 |some (.slice e)=>
  match P.info? e with
  |some i=>
   let sh:=shapeOf P e
   bif (1:Nat).ble i.size&&(1:Nat).ble i.bytes&&i.bytes.ble 256&&i.zero.any (fun z=>z.cells.size==i.size&&z.cells.toList.all (·.oneCell'))then
    vn sh i.size y fun d idy=>
     bif d.size.beq i.size then
      (match x with
       |.emp=>.ret ⟨[d.n*i.bytes≤140737488355328],[],[.vec d e],fun id=>.vec id⟩
       |.vec idx=>.look idx fun
        |some (.vec c e')=>bif c.size.beq i.size&&e'.beq e&& !(idy==some idx)then
         .ret ⟨[(c.n+d.n)*i.bytes≤140737488355328],[(idx,.dead)],[.vec (db c d) e],fun id=>.vec id⟩else .fail "append: size"
        |_=>.fail "append: no vec"
       |.part idx lo n=>.look idx fun
        |some (.vec c e')=>bif c.size.beq i.size then
         .ret ⟨[lo+n+d.n≤c.n],[(idx,.vec (dh c (lo+n) d.n d) e')],[],fun _=>.part idx lo (n+d.n)⟩else .fail "append: size"
        |_=>.fail "append: no vec"
       |_=>.fail "append: what is appended to is not own")
     else .fail "append: another size"
   else .fail "append: element"
  |none=>.fail "append: no element"
 |_=>.fail "append: type"
def r8(P:Program)(t t':TypeId)(x y:AV):RM bH:=
 match P.underlying t,P.underlying t',x,y.cu with
 |some (.slice e),some (.int _),.s (.wI c k),some (_,_,j)=>
  (match P.info? e with
   |some i=>bif (1:Nat).ble i.size&&i.bytes.ble 256&&c.size.beq i.size&&i.zero.any (fun z=>fG (shapeOf P e) z.cells.toList&&z.cells.size==i.size)then
    .ret ⟨[0<j,(k:Int)≤c.n+j,(c.n:Int)+j≤4294967296],[],[.vec (db c (di (shapeOf P e) j.toNat)) e],fun id=>.vec id⟩else .fail "append: zeros"
   |none=>.fail "append: element")
 |_,_,_,_=>.fail "append: zeros?"
def amN(P:Program)(t:TypeId)(x:AV):RM bH:=
 match P.underlying t,x with
 |some .string,.s (.str s)=>plain [] (.s (.int .i64 s.size))
 |some (.array n _),_=>plain [] (.s (.aK .i64 n))
 |some (.slice _),.s (.ro c)=>plain [] (.s (.int .i64 c.n))
 |some (.slice _),.s (.wI c _)=>plain [] (.s (.int .i64 c.n))
 |some (.slice _),.emp=>plain [] (.s (.aK .i64 0))
 |some (.slice _),.vec id=>.look id fun
  |some (.vec c _)=>plain [] (.s (.int .i64 c.n))
  |_=>.fail "len: no vec"
 |some (.slice _),.part id _ n=>.look id fun
  |some (.vec _ _)=>plain [] (.s (.int .i64 n))
  |_=>.fail "len: no vec"
 |some (.map _ _),.ag id=>.look id fun
  |some (.map _ m)=>plain [] (.s (.int .i64 m.length))
  |_=>.fail "len: no map"
 |_,_=>.fail "len"
def amO(P:Program)(t:TypeId)(x:AV):RM bH:=
 match P.underlying t,x with
 |some (.slice _),.s (.wI _ k)=>plain [] (.s (.nr k))
 |some (.slice _),.vec id=>.look id fun
  |some (.vec c _)=>plain [] (.s (.lF c.n))
  |_=>.fail "cap: no vec"
 |some (.slice _),.part id lo _=>.look id fun
  |some (.vec c _)=>plain [] (.s (.lF (c.n - lo)))
  |_=>.fail "cap: no vec"
 |_,_=>.fail "cap"
def imax(a b:Int):Int:=if b>a then b else a
def nN(a b:Int):Int:=if b<a then b else a
def ai0(mx:Bool)(x y:AV):RM bH:=
 match x.cu,y.cu with
 |some (k,lx,a),some (k',ly,b)=>bif bK k k' then
  (bif mx then plain [] (mkInt (lx&&ly) k (imax a b))else plain [] (mkInt (lx&&ly) k (nN a b)))else .fail "min: kinds"
 |_,_=>.fail "min"
def fY(d:Int):Option AV→Option Int
 |none=>some d
 |some a=>(a.cu).map fun(_,_,n)=>n
def acv(P:Program)(e:TypeId)(c:aL)(id lo0 n:Nat)(lo hi mx:Option AV):RM bH:=
 match du P e with
 |some sz=>bif sz.beq c.size then
  (match mx with
   |none=>(match fY 0 lo,fY n hi with
    |some l,some h=>plain [0≤l,l≤h,(lo0:Int)+h≤c.n] (.part id (lo0+l.toNat) (h.toNat - l.toNat))
    |_,_=>.fail "slice: bounds")
   |some m=>(match fY 0 lo,hi.bind AV.cu,m.cu with
    |some l,some (_,_,h),some (_,_,m)=>plain [0≤l,l≤h,h≤m,(lo0:Int)+m≤c.n] (.s .aR)
    |_,_,_=>.fail "slice: three"))else .fail "slice: size"
 |none=>.fail "slice: element"
def afI(P:Program)(t:TypeId)(x y:AV):RM bH:=
 match P.underlying t with
 |some (.slice e)=>
  match du P e with
  |some sz=>bif (1:Nat).ble sz then
   vn (shapeOf P e) sz y fun d _=>bif d.size.beq sz then
    (match x with
     |.vec id=>.look id fun
      |some (.vec c e')=>bif c.size.beq sz then
       .ret ⟨[],[(id,.vec (dh c 0 (min d.n c.n) d) e')],[],fun _=>.s (.int .i64 ((min d.n c.n:Nat):Int))⟩else .fail "copy: size"
      |_=>.fail "copy: no vec"
     |.part id lo n=>.look id fun
      |some (.vec c e')=>bif c.size.beq sz then
       .ret ⟨[],[(id,.vec (dh c lo (min d.n n) d) e')],[],fun _=>.s (.int .i64 ((min d.n n:Nat):Int))⟩else .fail "copy: size"
      |_=>.fail "copy: no vec"
     |_=>.fail "copy: not own")else .fail "copy: another size"
   else .fail "copy: size"
  |none=>.fail "copy: element"
 |_=>.fail "copy: type"
def jf{k:IntKind}{m:Nat}(x:CL [.arr k m]):List Int:=x.1
def vp{k:IntKind}{m:Nat}(ws:List Int):CL [.arr k m]:=(ws,())
def rF(x:AV)(k:IntKind→List Int→Prop→RM bH):RM bH:=
 match x with
 |.s (.str s)=>k .u8 (s.data.toList.map fun b=>(b.toNat:Int)) True
 |.sub id off n=>.look id fun
  |some (.own [.ints q m ws] _)=>k q ((ws.drop off).take n) (off+n≤m)
  |_=>.fail "copy: no numbers"
 |_=>.fail "copy: from what?"
def aba(P:Program)(t:TypeId)(x y:AV):RM bH:=
 match P.underlying t with
 |some (.slice e)=>
  match du P e with
  |some sz=>bif sz.beq 1 then
   (match x with
    |.sub id off n=>rF y fun q zs p=>.look id fun
      |some (.own [.ints k m ws] e')=>bif bK q k then
       .ret ⟨[p,off+n≤m],[(id,.own [.ints k m (over ws off (min zs.length n) zs)] e')],[],fun _=>.s (.int .i64 ((min zs.length n:Nat):Int))⟩else .fail "copy: kind"
      |_=>.fail "copy: no array"
    |.jz id i j n=>rF y fun q zs p=>.look id fun
      |some (.vec (.ad [.arr k m] xs) e')=>bif bK q k&&(1:Nat).ble m then
       .ret ⟨[p,(jf (xs.getD i (CL.d [.arr k m]))).length=m],[(id,.vec (.ad [.arr k m] (xs.set i (vp (over (jf (xs.getD i (CL.d [.arr k m]))) j (min zs.length n) zs)))) e')],[],fun _=>.s (.int .i64 ((min zs.length n:Nat):Int))⟩else .fail "copy: kind"
      |_=>.fail "copy: no vec"
    |_=>.fail "copy: not an array")else .fail "copy: size"
  |none=>.fail "copy: element"
 |_=>.fail "copy: type"
def aph:AV→Bool
 |.sub _ _ _|.jz _ _ _ _=>true
 |_=>false
def abb(P:Program)(t:TypeId)(x:AV):RM bH:=
 match P.underlying t,x with
 |some (.slice e),.part id lo n=>
  (match P.info? e with
   |some i=>bif (1:Nat).ble i.size&&i.zero.any (fun z=>fG (shapeOf P e) z.cells.toList&&z.cells.size==i.size)then
    .look id fun
    |some (.vec c e')=>bif c.size.beq i.size then
     .ret ⟨[],[(id,.vec (dh c lo n (di (shapeOf P e) n)) e')],[],fun _=>.bg []⟩else .fail "clear: size"
    |_=>.fail "clear: no vec"
    else .fail "clear: zero"
   |none=>.fail "clear: element")
 |some (.map _ _),.ag id=>.look id fun
  |some (.map ck _)=>.ret ⟨[],[(id,.map ck [])],[],fun _=>.bg []⟩
  |_=>.fail "clear: no map"
 |_,_=>.fail "clear"
def nO(P:Program)(t:TypeId)(l c:AV):RM bH:=
 match P.underlying t,l.cu,c.cu with
 |some (.slice e),some (_,_,l),some (_,_,c)=>
  (match P.info? e with
   |some i=>bif (1:Nat).ble i.size&&i.bytes.ble 256&&i.zero.any (fun z=>fG (shapeOf P e) z.cells.toList&&z.cells.size==i.size)then
    .ret ⟨[0≤l,l≤c,c≤1073741824],[],[.vec (di (shapeOf P e) l.toNat) e],fun id=>.vec id⟩else .fail "makeSlice: zero"
   |none=>.fail "makeSlice: element")
 |_,_,_=>.fail "makeSlice"
def abc(P:Program)(t:TypeId)(x:AV)(lo hi mx:Option AV):RM bH:=
 match P.underlying t,x with
 |some .string,.s (.str s)=>
  (match fY 0 lo,fY s.size hi,mx with
   |some l,some h,none=>plain [0≤l,l≤h,h≤s.size] (.s (.str (s.extract l.toNat h.toNat)))
   |_,_,_=>.fail "slice: string")
 |some (.slice e),.emp=>(match du P e,fY 0 lo,fY 0 hi,mx with
  |some _,some l,some h,none=>plain [l=0,h=0] .emp
  |_,_,_,_=>.fail "slice: emp")
 |some (.slice e),.s (.ro c)=>
  (match du P e with
   |some sz=>bif sz.beq c.size then
    (match mx with
     |none=>(match fY 0 lo,fY c.n hi with
      |some l,some h=>plain [0≤l,l≤h,h≤c.n] (.s (.ro (dq c l.toNat h.toNat)))
      |_,_=>.fail "slice: bounds")
     |some m=>(match fY 0 lo,hi.bind AV.cu,m.cu with
      |some l,some (_,_,h),some (_,_,m)=>plain [l=0,h=0,m=0] .emp
      |_,_,_=>.fail "slice: three"))else .fail "slice: size"
   |none=>.fail "slice: element")
 |some (.slice e),.s (.wI c k)=>
  (match du P e,mx with
   |some sz,none=>bif sz.beq c.size then
    (match lo,fY c.n hi with
     |none,some h=>plain [0≤h,h≤c.n] (.s (.wI (dq c 0 h.toNat) k))
     |some l,some h=>(match l.cu with
      |some (_,_,l)=>plain [0≤l,l≤h,h≤c.n] (.s (.ro (dq c l.toNat h.toNat)))
      |none=>.fail "slice: bounds")
     |_,_=>.fail "slice: bounds")else .fail "slice: size"
   |_,_=>.fail "slice: element")
 |some (.slice e),.vec id=>.look id fun
  |some (.vec c _)=>acv P e c id 0 c.n lo hi mx
  |_=>.fail "slice: no vec"
 |some (.slice e),.part id lo0 n=>.look id fun
  |some (.vec c _)=>acv P e c id lo0 n lo hi mx
  |_=>.fail "slice: no vec"
 |some (.array n e),.ptr id off=>
  (match du P e,fY 0 lo,fY n hi,mx with
   |some sz,some l,some h,none=>bif sz.beq 1 then plain [0≤l,l≤h,h≤n] (.sub id (off+l.toNat) (h.toNat - l.toNat))else .fail "slice: array"
   |_,_,_,_=>.fail "slice: array")
 |some (.array n e),.fR id i j=>
  (match du P e,fY 0 lo,fY n hi,mx with
   |some sz,some l,some h,none=>.look id fun
    |some (.vec c _)=>bif sz.beq 1&&(j+n).ble c.size then plain [0≤l,l≤h,h≤n] (.jz id i (j+l.toNat) (h.toNat - l.toNat))else .fail "slice: array"
    |_=>.fail "slice: no vec"
   |_,_,_,_=>.fail "slice: array")
 |_,_=>.fail "slice"
def bc(zs:List Int):ByteArray:=⟨(zs.map fun n=>UInt8.ofNat n.toNat).toArray⟩
def r9(P:Program)(src dst:TypeId)(x:AV):RM bH:=
 match P.underlying src,P.underlying dst with
 |some _,some (.int k)=>(match x.cu with
  |some (k',lit,n)=>bif lit then plain [] (.s (.aK k (k.wrap n)))else bif nt k&& !bK k' .u64 then plain [ay n] (.s (.int k n))else plain [] (.s (.int k (k.wrap n)))
  |none=>.fail "convert: no number")
 |some .string,some .string=>(match x with
  |.s (.str s)=>plain [] (.s (.str s))
  |_=>.fail "convert: no string")
 |some (.slice e),some .string=>(match kindOf P e with
  |some .u8=>(match x with
   |.sub id off n=>.look id fun
     |some (.own [.ints .u8 m ws] _)=>plain [off+n≤m] (.s (.str (bc ((ws.drop off).take n))))
     |_=>.fail "convert: no bytes"
   |_=>rowOf (.ints .u8) 1 x fun c _=>match c with
   |.ints .u8 zs=>plain [] (.s (.str (bc zs)))
   |_=>.fail "convert: no bytes")
  |_=>.fail "convert: no bytes")
 |_,_=>.fail "convert"
def ch(s:ByteArray):List Int:=s.data.toList.map fun b=>(b.toNat:Int)
def sc(P:Program)(src dst:TypeId)(x:AV):RM bH:=
 match P.underlying src,P.underlying dst,x with
 |some .string,some (.slice e),.s (.str s)=>(match kindOf P e with
  |some .u8=>plain [s.size≤4294967296] (.s (.ro (.ints .u8 (ch s))))
  |_=>.fail "convert: to bytes")
 |_,_,_=>.fail "convert: to bytes"
def ai1(P:Program)(src dst:TypeId):Bool:=
 match P.underlying src,P.underlying dst with
 |some .string,some (.slice _)=>true
 |_,_=>false
def sd(P:Program)(t:TypeId)(x:AV):RM bH:=
 match P.underlying t,x with
 |some (.array n _),.s (.ro (.ints k zs))=>bif (1:Nat).ble n then plain [n≤zs.length] (.iK (.ad [.arr k n] [(zs.take n,())]) 0 0)else .fail "array: none"
 |_,_=>.fail "array of a slice"
def pU(x:AV):RM bH:=
 match x with
 |.ptr _ _|.jd _ _ _ _|.iK _ _ _|.fn _ _|.s (.j8 _)=>plain [] x
 |_=>.fail "nilCheck"
def pV(fn:Fn)(first da:List AV):RM bH:=
 match fn,first,da with
 |.func f,[],[]=>plain [] (.s (.j8 f))
 |.func f,[],c::cs=>plain [] (.fn f (c::cs))
 |.func f,x::xs,[]=>plain [] (.mQ f (x::xs))
 |_,_,_=>.fail "makeFunc"
def ast(P:Program)(t:TypeId):Option CK:=
 match P.underlying t with
 |some (.int k)=>some (.int k)
 |some .bool=>some .bool
 |some .string=>some .str
 |some (.array n e)=>match P.underlying e with
  |some (.int k)=>some (.arr k n)
  |_=>none
 |_=>none
def CK.plain:CK→Bool
 |.int _|.bool|.str|.arr _ _=>true
 |_=>false
def se(P:Program)(t:TypeId)(ck:CK):Bool:=ck.plain&&
 match(P.info? t).bind (·.zero),ck with
 |some (.int k' 0),.int k=>bK k' k
 |some (.bool false),.bool=>true
 |some (.string s),.str=>s.size.beq 0
 |some (.agg cs),.arr k n=>lT k cs.toList&&cs.toList.length.beq n
 |_,_=>false
def CK.av:(c:CK)→c.V→AV
 |.int k,v=>.s (.int k v)
 |.bool,v=>.s (.bool v)
 |.str,v=>.s (.str v)
 |.arr k n,v=>.ints k n v
 |_,_=>.s .aR
def CK.rdv:(c:CK)→AV→Option c.V
 |.int k,a=>match a with
  |.s (.int k' x)|.s (.aK k' x)=>bif bK k k' then some x else none
  |_=>none
 |.bool,a=>match a with
  |.s (.bool x)|.s (.aC x)=>some x
  |_=>none
 |.str,a=>match a with
  |.s (.str x)=>some x
  |_=>none
 |.arr k n,a=>match a with
  |.ints k' n' ws=>bif bK k k'&&n.beq n' then some ws else none
  |_=>none
 |_,_=>none
def acw(P:Program)(t:TypeId):Bool:=
 match P.underlying t with
 |some (.int .i64)=>true
 |_=>false
def wN(P:Program)(t:TypeId)(x i:AV)(ok:Bool):RM bH:=
 match P.underlying t,x,i.cu with
 |some (.map kt et),.ag id,some (k,_,n)=>bif acw P kt&&nt k then
  .look id fun
  |some (.map ck m)=>bif se P et ck then
   plain [] (bif ok then .bg [ck.av ((fl m n).getD ck.d),.s (.bool (ow m n))]else ck.av ((fl m n).getD ck.d))else .fail "lookup: elements"
  |_=>.fail "lookup: no map"
  else .fail "lookup: keys"
 |_,_,_=>.fail "lookup"
def nP(P:Program)(t:TypeId)(x i v:AV):RM bH:=
 match P.underlying t,x,i.cu with
 |some (.map kt _),.ag id,some (k,_,n)=>bif acw P kt&&nt k then
  .look id fun
  |some (.map ck m)=>(match ck.rdv v with
   |some y=>.ret ⟨[],[(id,.map ck (pR m n y))],[],fun _=>.bg []⟩
   |none=>.fail "mapUpdate: elements")
  |_=>.fail "mapUpdate: no map"
  else .fail "mapUpdate: keys"
 |_,_,_=>.fail "mapUpdate"
def sf(P:Program)(t:TypeId)(r:Option AV):RM bH:=
 match P.underlying t,r with
 |some (.map _ et),none=>(match ast P et with
  |some ck=>.ret ⟨[],[],[.map ck []],fun id=>.ag id⟩
  |none=>.fail "makeMap: elements")
 |_,_=>.fail "makeMap"
def abd(x:AV):RM bH:=
 match x with
 |.ptr id 0=>.look id fun
  |some (.iter mid gid ck _ cur)=>.look mid fun
   |some (.gK _ _ api)=>bif gid.beq api&&ck.plain then(match cur with
    |some p=>plain [] (.bg [.s (.int .i64 p.1),ck.av p.2])
    |none=>.fail "entry: no step")else .fail "entry: another one"
   |_=>.fail "entry: no map"
  |_=>.fail "entry: no range"
 |_=>.fail "entry"
abbrev ai2:=FuncId→List AV→RM bH
abbrev eU:=Nat→ai2
def hY(P:Program)(f:FuncId):Bool:=
 match P.funcs[f]? with
 |some fn=>fn.body.isSome&& !(fn.name== "runtime.NumGoroutine")
 |none=>false
def amP(P:Program)(f:FuncId):Prop:=
 ∃(fn:Func) (t e tR:TypeId) (size:Nat),P.funcs[f]? =some fn∧(fn.name== "runtime.NumGoroutine")=false∧fn.body.isNone=true∧Extern.findNext fn=none∧Extern.find fn=some (Extern.SlicesOverlaps.overlaps #[t,t] #[tR])∧
  P.underlying t=some (.slice e)∧du P e=some size
def ownRow:AV→Option Nat
 |.vec id=>some id
 |.part id _ _=>some id
 |_=>none
def pW(P:Program)(f:FuncId)(args:List AV):RM bH:=
 match args with
 |[x,y]=>match ownRow x,ownRow y with
  |some i,some j=>bif i.beq j then .fail "call: no Go body" else
   .look i fun o=>match o with
    |some (.vec c _)=>.look j fun o=>match o with
     |some (.vec d _)=>bif (1:Nat).ble c.size&&(1:Nat).ble d.size then plain [amP P f] (.s (.aC false))else .fail "call: no Go body"
     |_=>.fail "call: no Go body"
    |_=>.fail "call: no Go body"
  |_,_=>.fail "call: no Go body"
 |_=>.fail "call: no Go body"
def vq(P:Program)(S:ai2)(f:FuncId)(args:List AV):RM bH:=
 bif hY P f then S f args else pW P f args
def wO(P:Program)(t:TypeId):Bool:=
 match P.underlying t with
 |some (.slice _)|some .string=>true
 |_=>false
def yx(P:Program)(b:Builtin)(ts:List TypeId)(args:List AV):RM bH:=
 match b,ts,args with
 |.len,t::_,[x]=>amN P t x
 |.cap,t::_,[x]=>amO P t x
 |.append,[t,t'],[x,y]=>bif wO P t' then wM P t x y else r8 P t t' x y
 |.min,_,[x,y]=>ai0 false x y
 |.max,_,[x,y]=>ai0 true x y
 |.copy,[t,t'],[x,y]=>bif wO P t' then(bif aph x then aba P t x y else afI P t x y)else .fail "copy: what?"
 |.clear,t::_,[x]=>abb P t x
 |_,_,_=>.fail "builtin"
def oC:BinOp→Bool
 |.eql=>true
 |_=>false
def amQ(P:Program)(op:BinOp)(t:TypeId)(x:AV):RM bH:=
 match op with
 |.eql|.neq=>
  match P.underlying t with
  |some (.slice _)=>
   match x with
   |.s (.ro c)=>plain [] (.s (.kJ c.n (oC op)))
   |.emp=>plain [] (.s (.kJ 0 (oC op)))
   |.vec id=>.look id fun o=>match o with
    |some (.vec c _)=>plain [] (.s (.kJ c.n (oC op)))
    |_=>.fail "== nil: no row"
   |_=>.fail "== nil"
  |_=>.fail "== nil: the type"
 |_=>.fail "nil: what?"
def nu:AV→AV
 |.s .nH=>.emp
 |x=>x
def abe:AV→Bool
 |.s .nH=>true
 |_=>false
def amR(P:Program)(t:TypeId)(x:AV):RM bH:=
 match P.underlying t,x with
 |some (.interface _),_=>.fail "interface: of an interface"
 |some _,.s (.int k n)=>plain [] (.s (.ifi t k n))
 |some _,.s (.aK k n)=>plain [] (.s (.ifi t k n))
 |some _,.s (.str s)=>plain [] (.s (.ifs t s))
 |some _,.s (.bool b)=>plain [] (.s (.ifb t b))
 |some _,.s (.aC b)=>plain [] (.s (.ifb t b))
 |_,_=>.fail "interface: of what?"
def afJ(P:Program)(S:ai2)(ev:Operand→AV)(o:Oper):RM bH:=
 match o.op with
 |.move x|.assign x=>plain [] (ev x)
 |.pick c a b=>nI "pick" (afA (ev c) (ev a) (ev b))
 |.alloc t=>aa8 P t
 |.box t x=>amL t (ev x)
 |.makeInterface t x=>amR P t (ev x)
 |.build t ps=>aa9 P t (ps.toList.map fun p=>(p.1,ev p.2))
 |.buildSlice t n ps=>lV P t n (ps.toList.map fun p=>(p.1,ev p.2))
 |.load t a=>acs P t (ev a)
 |.store t a x=>aa5 P t (ev a) (ev x)
 |.nilCheck x=>pU (ev x)
 |.binOp op t x y _=>nI "binOp" (aiY P op t (ev x) (ev y))
 |.unOp op _ x=>nI "unOp" (unR op (ev x))
 |.convert a b x=>bif ai1 P a b then sc P a b (ev x)else r9 P a b (ev x)
 |.sliceToArrayPointer t x=>sd P t (ev x)
 |.entry x=>abd (ev x)
 |.makeFunc fn a b=>pV fn (a.toList.map ev) (b.toList.map ev)
 |.slice t x l h m=>abc P t (ev x) (l.map ev) (h.map ev) (m.map ev)
 |.fieldAddr t x f=>nJ P t (ev x) f
 |.field t x f=>aa7 P t (ev x) f
 |.indexAddr t x i=>nK P t (ev x) (ev i)
 |.index t x i=>aa6 P t (ev x) (ev i)
 |.extract x i=>r7 (ev x) i
 |.lookup t x i ok=>wN P t (ev x) (ev i) ok
 |.mapUpdate t x i v|.insert t x i v=>nP P t (ev x) (ev i) (ev v)
 |.makeMap t r=>sf P t (r.map ev)
 |.makeSlice t l c=>nO P t (ev l) (ev c)
 |.call c=>match c.callee with
  |.value f=>match ev f with
   |.s (.j8 f)=>vq P S f (c.args.toList.map ev)
   |.fn f da=>vq P S f (c.args.toList.map ev++da)
   |.mQ f first=>vq P S f (first++c.args.toList.map ev)
   |_=>.fail "call: what?"
  |.builtin b=>yx P b c.argTypes.toList (c.args.toList.map ev)
  |_=>.fail "call: invoke"
 |_=>.fail "op"
def amS:AV→Bool
 |.s (.lF _)|.s (.nr _)=>true
 |_=>false
def wP(op:BinOp)(x y:AV):RM bH:=
 match op,x.cu,y with
 |.gtr,some (.i64,_,a),.s (.lF b)=>plain [a≤(b:Int)] (.s (.aC false))
 |.gtr,some (.i64,_,a),.s (.nr b)=>plain [(b:Int)≤a] (.s (.aC true))
 |_,_,_=>.fail "cap: compared"
def RM.abf{α:Type}(id:Nat):RM α→RM α
 |.ret a=>.ret a
 |.look j k=>bif j.beq id then(k (some .dead)).abf id else .look j fun o=>(k o).abf id
 |.fail w=>.fail w
def RM.kL(id:Nat):RM bH→RM bH
 |.ret q=>.ret {q with up:=(id,.dead)::q.up}
 |.look j k=>.look j fun o=>(k o).kL id
 |.fail w=>.fail w
def afK(id:Nat)(c:aL)(ev:Operand→AV):Operand→AV:=fun x=>match ev x with
 |.vec j=>bif j.beq id then .s (.ro c)else .vec j
 |a=>a
def giveUp:List Nat→(Operand→AV)→((Operand→AV)→RM bH)→RM bH
 |[],ev,k=>k ev
 |id::ids,ev,k=>.look id fun o=>match o with
  |some (.vec c _)=>((giveUp ids (afK id c ev) k).abf id).kL id
  |_=>.fail "give up: no row"
def afL(ev:Operand→AV)(ps:List (Nat×Operand)):List Nat:=ps.filterMap fun p=>match ev p.2 with
 |.vec j=>some j
 |_=>none
def uF(P:Program)(S:ai2)(ev:Operand→AV)(o:Oper):RM bH:=
 match o.op with
 |.binOp op t x y _=>bif abe (ev y)then amQ P op t (nu (ev x))else bif amS (ev y)then wP op (nu (ev x)) (ev y)else nI "binOp" (aiY P op t (nu (ev x)) (ev y))
 |.buildSlice _ _ ps=>giveUp (afL ev ps.toList) (fun x=>nu (ev x)) fun ev=>afJ P S ev o
 |_=>afJ P S (fun x=>nu (ev x)) o
end Go.Sx
namespace Go.Sx
open Go
def bD:List Prop→Prop
 |[]=>True
 |p::ps=>p∧bD ps
theorem bd{k k':IntKind}(h:bK k k'=true):k=k':=by
 cases k<;>cases k'<;>first|rfl|(simp[bK]at h)
theorem lW{k:IntKind}(h:nt k=true):k=.i64:=by
 cases k<;>first|rfl|(simp[nt]at h)
theorem cn{n:Int}(h:ay n):IntKind.i64.wrap n=n:=by
 obtain⟨h1,h2⟩:=h;rw[IntKind.wrap_i64];omega
section
variable{ρ:Nat→Value}{H:aM}{O:Nat→Prop}{w:World}{P:Program}
theorem az{x:SV}{v:Value}(h:aT O w x v):af ρ H O w (.s x) v:=by
 cases x<;>unfold af<;>first|trivial|exact h
theorem ak{x:SV}{v:Value}(hx:x≠.aR)(h:af ρ H O w (.s x) v):aT O w x v:=by
 cases x<;>unfold af at h<;>first|exact(hx rfl).elim|exact h
theorem b8{x:AV}{v:Value}{k:IntKind}{l:Bool}{n:Int}(h:x.cu =some (k,l,n))(hd:af ρ H O w x v):v=.int k n:=by
 cases x with
 |s x=>
  cases x<;>simp only[AV.cu,Option.some.injEq,Prod.mk.injEq,reduceCtorEq]at h
  all_goals
   obtain⟨rfl, -,rfl⟩:=h;have:=ak (by simp) hd;cases this;rfl
 |_=>simp[AV.cu]at h
theorem iX{x:AV}{v:Value}{l b:Bool}(h:x.eW =some (l,b))(hd:af ρ H O w x v):v=.bool b:=by
 cases x with
 |s x=>
  cases x<;>simp only[AV.eW,Option.some.injEq,Prod.mk.injEq,reduceCtorEq]at h
  all_goals
   obtain⟨-,rfl⟩:=h;have:=ak (by simp) hd;cases this;rfl
 |_=>simp[AV.eW]at h
theorem eV{s:ByteArray}{v:Value}(hd:af ρ H O w (.s (.str s)) v):v=.string s:=by
 have:=ak (by simp) hd;cases this;rfl
theorem fZ(l:Bool)(k:IntKind)(n:Int):af ρ H O w (mkInt l k n) (.int k n):=by
 unfold mkInt;cases l
 ·exact az (.int k n)
 ·exact az (.aK k n)
theorem nQ(l:Bool)(b:Bool):af ρ H O w (jO l b) (.bool b):=by
 unfold jO;cases l
 ·exact az (.bool b)
 ·exact az (.aC b)
theorem j9{l:Bool}{k:IntKind}{n:Int}(h:bD (lS l k n).1):af ρ H O w (lS l k n).2 (.int k (k.wrap n)):=by
 unfold lS at *;cases l
 ·cases hk:nt k
  ·exact az (.int _ _)
  ·simp only[hk,cond_true,cond_false,bD,and_true]at h ⊢;obtain rfl:=lW hk;rw[cn h];exact az (.int _ _)
 ·exact az (.aK _ _)
theorem ga(op:BinOp)(t:TypeId)(x y:Operand)(k k':IntKind)(a b:Int):(eqGuard op t x y (.int k a) (.int k' b)).run P w=.ok () w:=by
 cases op<;>simp[eqGuard]
theorem yy(op:BinOp)(t:TypeId)(x y:Operand)(a b:ByteArray):(eqGuard op t x y (.string a) (.string b)).run P w=.ok () w:=by
 cases op<;>simp[eqGuard]
theorem wQ(op:BinOp)(t:TypeId)(x y:Operand)(a b:Bool):(eqGuard op t x y (.bool a) (.bool b)).run P w=.ok () w:=by
 cases op<;>simp[eqGuard]
theorem lX(op:BinOp)(t:TypeId)(x y:Operand)(a b:Option Addr):(eqGuard op t x y (.pointer a) (.pointer b)).run P w=.ok () w:=by
 cases op<;>simp[eqGuard]
theorem ai3{l:Bool}{k:IntKind}{x y:Int}{q:List Prop×AV}
 (h:(bif l then([y≠0],AV.s (.aK k (k.wrap (x.tdiv y))))else bif nt k then([y≠0,ay (x.tdiv y)],.s (.int k (x.tdiv y)))else([y≠0],.s (.int k (k.wrap (x.tdiv y)))))=q)
 (hn:bD q.1):y≠0∧af ρ H O w q.2 (.int k (k.wrap (x.tdiv y))):=by
 subst h;cases l
 ·cases hk:nt k
  ·simp only[hk,cond_false,bD,and_true]at hn ⊢;exact⟨hn,az (.int _ _)⟩
  ·simp only[hk,cond_true,cond_false,bD,and_true]at hn ⊢;obtain rfl:=lW hk;rw[cn hn.2];exact⟨hn.1,az (.int _ _)⟩
 ·simp only[cond_true,bD,and_true]at hn ⊢;exact⟨hn,az (.aK _ _)⟩
theorem pX{op:BinOp}{t:TypeId}{k:IntKind}{lx ly:Bool}{x y:Int}{q:List Prop×AV}(h:r6 op k lx ly x y=some q)(hn:bD q.1):
 ∃v,(binOp op t (.int k x) (.int k y)).run P w=.ok v w∧af ρ H O w q.2 v:=by
 cases op<;>simp only[r6,Option.some.injEq,reduceCtorEq]at h
 case add=>subst h;exact⟨_,by simp[binOp,Op.intArith],j9 hn⟩
 case sub=>subst h;exact⟨_,by simp[binOp,Op.intArith],j9 hn⟩
 case mul=>subst h;exact⟨_,by simp[binOp,Op.intArith],j9 hn⟩
 case quo=>
  obtain⟨h0,hd⟩:=ai3 (ρ:=ρ) (H:=H) (O:=O) (w:=w) h hn;exact⟨_,by simp[binOp,Op.intDiv,h0],hd⟩
 case rem=>
  subst h;have h0:y≠0:=by simpa[bD]using hn
  exact⟨_,by simp[binOp,Op.intDiv,h0],fZ _ _ _⟩
 case and=>subst h;exact⟨.int k (bt .and k x y),by simp[binOp,Op.intBits,bt],fZ _ _ _⟩
 case or=>subst h;exact⟨.int k (bt .or k x y),by simp[binOp,Op.intBits,bt],fZ _ _ _⟩
 case xor=>subst h;exact⟨.int k (bt .xor k x y),by simp[binOp,Op.intBits,bt],fZ _ _ _⟩
 case andNot=>subst h;exact⟨.int k (bt .andNot k x y),by simp[binOp,Op.intBits,bt],fZ _ _ _⟩
 all_goals subst h;exact⟨_,by simp[binOp,Op.intCmp],nQ _ _⟩
theorem vr{op:BinOp}{t:TypeId}{k k':IntKind}{l:Bool}{x y:Int}{q:List Prop×AV}(h:aaX op k l x y=some q)(hn:bD q.1):
 ∃v,(binOp op t (.int k x) (.int k' y)).run P w=.ok v w∧af ρ H O w q.2 v:=by
 cases op<;>simp only[aaX,Option.some.injEq,reduceCtorEq]at h
 all_goals
  subst h;have h0:0≤y:=by simpa[bD]using hn
  exact⟨_,by simp[binOp,Op.shift,Int.not_lt.2 h0],fZ _ _ _⟩
theorem abg(a b:ByteArray):(a.toList==b.toList)=decide (a=b):=by
 rw[ByteArray.toList_eq,ByteArray.toList_eq,Bool.eq_iff_iff];simp only[beq_iff_eq,decide_eq_true_eq];constructor
 ·intro h;cases a;cases b;simp only[ByteArray.mk.injEq]at *;exact Array.toList_inj.1 h
 ·rintro rfl;rfl
theorem adZ{op:BinOp}{t:TypeId}{x y:ByteArray}{q:List Prop×AV}(h:aaY op x y=some q)(hn:bD q.1):
 ∃v,(binOp op t (.string x) (.string y)).run P w=.ok v w∧af ρ H O w q.2 v:=by
 cases op<;>simp only[aaY,Option.some.injEq,reduceCtorEq]at h
 case add=>
  subst h;have h0:x.size+y.size≤4611686018427387904:=by simpa[bD]using hn
  exact⟨.string (x++y),by simp[binOp,Op.stringOp];omega,az (.str _)⟩
 all_goals subst h;exact⟨_,by simp only[binOp,Op.stringOp,abg];rfl,by first|exact az (.bool _)|(simp only[slt,ByteArray.toList_eq];exact az (.bool _))⟩
theorem amT{op:UnOp}{x:AV}{vx:Value}{q:List Prop×AV}(h:unR op x=some q)(hn:bD q.1)(hx:af ρ H O w x vx):
 ∃v,(Op.unary op vx).run P w=.ok v w∧af ρ H O w q.2 v:=by
 unfold unR at h;split at h<;>simp only[Option.some.injEq,reduceCtorEq]at h<;>subst h
 ·have h1:=ak (by simp) hx;cases h1;exact⟨_,by simp only[Op.unary,Sem.run_pure],az (.bool _)⟩
 ·have h1:=ak (by simp) hx;cases h1;exact⟨_,by simp only[Op.unary,Sem.run_pure],az (.aC _)⟩
 ·have h1:=ak (by simp) hx;cases h1;exact⟨_,by simp only[Op.unary,Op.intArith,Sem.run_pure],j9 hn⟩
 ·have h1:=ak (by simp) hx;cases h1;exact⟨_,by simp only[Op.unary,Op.intArith,Sem.run_pure],j9 hn⟩
theorem afM{c a b:AV}{vc va vb:Value}{q:List Prop×AV}(h:afA c a b=some q)(hc:af ρ H O w c vc)(ha:af ρ H O w a va)(hb:af ρ H O w b vb):
 ∃t,vc=.bool t∧af ρ H O w q.2 (if t then va else vb):=by
 unfold afA at h;split at h
 ·simp only[Option.some.injEq]at h;subst h;have h1:=ak (by simp) hc;cases h1;exact⟨true,rfl,ha⟩
 ·simp only[Option.some.injEq]at h;subst h;have h1:=ak (by simp) hc;cases h1;exact⟨false,rfl,hb⟩
 ·rename_i t;have h1:=ak (by simp) hc;cases h1;refine⟨t,rfl, ?_⟩;split at h
  ·rename_i la x lb y h2 h3;simp only[Option.some.injEq]at h;subst h;obtain rfl:=iX h2 ha;obtain rfl:=iX h3 hb;cases t
   ·exact az (.bool _)
   ·exact az (.bool _)
  ·split at h
   ·rename_i k la x k' lb y h2 h3;rw[Bool.cond_eq_ite]at h;split at h
    ·rename_i hk;obtain rfl:=bd hk;simp only[Option.some.injEq]at h;subst h;obtain rfl:=b8 h2 ha;obtain rfl:=b8 h3 hb;cases t
     ·exact az (.int _ _)
     ·exact az (.int _ _)
    ·cases h
   ·cases h
 ·cases h
end
end Go.Sx
namespace Go.Sx
open Go
def wR(fr:Nat×Nat)(cells:List Value):Prop:=(∀off,off≤cells.length→¬(fr.1≤off∧off<fr.2))∧∀u∈cells,u.oneCell'=true
def unm(fr:Nat×Nat)(n:Nat):Prop:=∀off,off<n→¬(fr.1≤off∧off<fr.2)
theorem wR.unm{fr:Nat×Nat}{cells:List Value}(h:wR fr cells):unm fr cells.length:=fun off ho=>h.1 off (Nat.le_of_lt ho)
theorem wR.over{fr:Nat×Nat}{cells news:List Value}{k:Nat}(h:wR fr cells)(hn:∀v∈news,v.oneCell'=true)(hl:k+news.length≤cells.length):wR fr (cells.take k++news++cells.drop (k+news.length)):=by
 refine⟨fun off ho=>h.1 off ?_,fun u hu=> ?_⟩
 ·simp only[List.length_append,List.length_take,List.length_drop]at ho;omega
 ·simp only[List.mem_append]at hu;rcases hu with(hu|hu)|hu
  ·exact h.2 u (List.mem_of_mem_take hu)
  ·exact hn u hu
  ·exact h.2 u (List.mem_of_mem_drop hu)
def CK.val:(c:CK)→c.V→Value
 |.int k,v=>.int k v
 |.bool,v=>.bool v
 |.str,v=>.string v
 |.arr k _,v=>.agg (List.map (α:=Int) (Value.int k) v).toArray
 |_,_=>undef
def CK.fits:(c:CK)→c.V→Prop
 |.arr _ n,v=>List.length (α:=Int) v=n
 |_,_=>True
structure hZ (ck:CK) (m:List (Int×ck.V)) (es:List MapEntry) (clock:Nat):Prop where
 eq:es.map (fun e=>(e.key,e.val))=m.map (fun p=>(Value.int .i64 p.1,ck.val p.2))
 keys:(m.map (·.1)).Nodup
 sg:(es.map (·.born)).Nodup
 old:∀e∈es,e.born<clock
 fits:∀p∈m,ck.fits p.2
def yz(es:Array MapEntry)(clock:Nat):Value:=.tuple #[.int .i64 clock,.tuple (es.map fun e=>.tuple #[e.key,e.val,.int .i64 (e.born:Int)])]
structure si (ck:CK) (left:List (Int×ck.V)) (cur:Option (Int×ck.V)) (es:Array MapEntry) (clock:Nat) (seen:Array Nat):Prop where
 eq:(es.toList.filter fun e=> !seen.contains e.born).map (fun e=>(e.key,e.val))=left.map (fun p=>(.int .i64 p.1,ck.val p.2))
 fits:∀p∈left,ck.fits p.2
 sg:(es.toList.map (·.born)).Nodup
 old:∀e∈es.toList,e.born<clock
 cur:∀p,cur=some p→ck.fits p.2∧∃e,e∈es.toList∧seen.back? =some e.born∧e.key=.int .i64 p.1∧e.val=ck.val p.2
def gQ(ρ:Nat→Value)(H:aM)(O:Nat→Prop)(w:World)(root:Value):ab→Prop
 |.dead=>True
 |.map ck m=>∃(b:Nat) (es:Array MapEntry) (clock:Nat),root=.map (some b)∧w.heap[b]? =some (.map es clock)∧hZ ck m es.toList clock
 |.gK ck m gid=>∃(b:Nat) (es:Array MapEntry) (clock:Nat),root=.map (some b)∧w.heap[b]? =some (.map es clock)∧hZ ck m es.toList clock∧ρ gid=yz es clock∧(H gid).isSome=true
 |.iter mid gid ck left cur=>∃(b mb:Nat) (es:Array MapEntry) (clock:Nat) (seen:Array Nat),root=.pointer (some ⟨b,0,none⟩)∧w.heap[b]? =some (.mapIter (some mb) clock seen clock)∧si ck left cur es clock seen∧
  ρ gid=yz es clock∧(H gid).isSome=true∧ρ mid=.map (some mb)∧(H mid).isSome=true
 |.own ao e=>∃(b:Nat) (cells:List Value) (fr:Nat×Nat),root=.pointer (some ⟨b,0,none⟩)∧w.heap[b]? =some (.cells cells.toArray e fr)∧unm fr cells.length∧aq ρ H O w ao cells
 |.vec c e=>∃(a:Option Addr) (cap:Nat),root=.slice a c.n cap∧c.n≤cap∧cap≤maxLen∧(cap=0∨
  ∃(b o:Nat) (cells:List Value) (fr:Nat×Nat) (us:Nat→Nat→Value),a=some ⟨b,o,none⟩∧w.heap[b]? =some (.cells cells.toArray e fr)∧wR fr cells∧o+cap*c.size≤cells.length∧
   ∀i j,i<c.n→j<c.size→cells[o+i*c.size+j]? =some (us i j)∧aT O w (c.cell i j) (us i j))
structure Sat (ρ:Nat→Value) (H:aM) (G:Nat→Prop) (w:World):Prop where
 obj:∀id o,H id=some o→gQ ρ H (aP ρ H G) w (ρ id) o
 inj:∀i j oi oj b,H i=some oi→H j=some oj→oi.alive=true→oj.alive=true→eg (ρ i)=some b→eg (ρ j)=some b→i=j
 apart:∀b,Own ρ H b→¬G b
 low:∀b,G b→b<w.heap.size
structure wS (ρ:Nat→Value) (H:aM) (w w':World):Prop where
 os:w'.os=w.os
 tape:w'.tape=w.tape
 output:w'.output=w.output
 heap:∀b,b<w.heap.size→¬Own ρ H b→w'.heap[b]? =w.heap[b]?
def Good(ρ:Nat→Value)(H:aM)(G:Nat→Prop)(w:World)(H':aM)(r:AV)(v:Value)(w':World):Prop:=
 ∃aF,Sat aF H' G w'∧af aF H' (aP aF H' G) w' r v∧Step ρ H (aP ρ H G) w aF H' (aP aF H' G) w'∧wS ρ H w w'
section
variable{ρ aF:Nat→Value}{H H':aM}{G O O':Nat→Prop}{w w':World}{P:Program}
theorem gQ.step(st:Step ρ H O w aF H' O' w'){root:Value}{o:ab}(h:gQ ρ H O w root o)(hb:∀b,o.alive=true→eg root=some b→w'.heap[b]? =w.heap[b]?):
 gQ aF H' O' w' root o:=by
 cases o with
 |dead=>trivial
 |map ck m=>
  obtain⟨b,es,clock,rfl,h1,h2⟩:=h;exact⟨b,es,clock,rfl,by rw[hb b rfl rfl];exact h1,h2⟩
 |gK ck m gid=>
  obtain⟨b,es,clock,rfl,h1,h2,h3,h4⟩:=h;obtain⟨o,ho⟩:=Option.isSome_iff_exists.1 h4;obtain⟨o',dg,_⟩:=st.dO gid o ho;exact⟨b,es,clock,rfl,by rw[hb b rfl rfl];exact h1,h2,by rw[st.r5 gid o ho];exact h3,by rw[dg];rfl⟩
 |iter mid gid ck left cur=>
  obtain⟨b,mb,es,clock,seen,rfl,h1,h2,h3,h4,h5,h6⟩:=h;obtain⟨o,ho⟩:=Option.isSome_iff_exists.1 h4;obtain⟨o',dg,_⟩:=st.dO gid o ho;obtain⟨p,hp⟩:=Option.isSome_iff_exists.1 h6;obtain⟨p',wT,_⟩:=st.dO mid p hp;exact⟨b,mb,es,clock,seen,rfl,by rw[hb b rfl rfl];exact h1,h2,by rw[st.r5 gid o ho];exact h3,by rw[dg];rfl,by rw[st.r5 mid p hp];exact h5,by rw[wT];rfl⟩
 |own ao e=>
  obtain⟨b,cells,fr,rfl,h1,h2,h3⟩:=h;exact⟨b,cells,fr,rfl,by rw[hb b rfl rfl];exact h1,h2,h3.step st⟩
 |vec c e=>
  obtain⟨a,cap,rfl,h1,h2,h3⟩:=h;refine⟨a,cap,rfl,h1,h2, ?_⟩;rcases h3 with h3|⟨b,o,cells,fr,us,rfl,h4,h5,h6,h7⟩
  ·exact .inl h3
  ·by_cases hc:cap=0
   ·exact .inl hc
   ·refine .inr ⟨b,o,cells,fr,us,rfl,by rw[hb b rfl (by simp[eg,hc])];exact h4,h5,h6,fun i j hi hj=> ?_⟩;obtain⟨h8,h9⟩:=h7 i j hi hj;exact⟨h8,h9.step st.fz st.heap st.size⟩
theorem Good.val(hs:Sat ρ H G w){r:AV}{v:Value}(h:af ρ H (aP ρ H G) w r v):Good ρ H G w H r v w:=
 ⟨ρ,hs,h,Step.refl _ _ _ _,rfl,rfl,rfl,fun _ _ _=>rfl⟩
theorem gu(hs:Sat ρ H G w){b:Nat}(h:Own ρ H b):b<w.heap.size:=by
 obtain⟨id,o,ho,ha,hb⟩:=h;have dQ:=hs.obj id o ho;cases o with
 |dead=>simp[ab.alive]at ha
 |map ck m=>
  obtain⟨b',es,clock,h0,h1,_⟩:=dQ;rw[h0]at hb;simp only[eg,Option.some.injEq]at hb;subst hb;exact(Array.getElem?_eq_some_iff.1 h1).1
 |gK ck m gid=>
  obtain⟨b',es,clock,h0,h1,_⟩:=dQ;rw[h0]at hb;simp only[eg,Option.some.injEq]at hb;subst hb;exact(Array.getElem?_eq_some_iff.1 h1).1
 |iter mid gid ck left cur=>
  obtain⟨b',mb,es,clock,seen,h0,h1,_⟩:=dQ;rw[h0]at hb;simp only[eg,Option.some.injEq]at hb;subst hb;exact(Array.getElem?_eq_some_iff.1 h1).1
 |own ao e=>
  obtain⟨b',cells,fr,h0,h1,_⟩:=dQ;rw[h0]at hb;simp only[eg,Option.some.injEq]at hb;subst hb;exact(Array.getElem?_eq_some_iff.1 h1).1
 |vec c e=>
  obtain⟨a,cap,h0,h1,_,h3⟩:=dQ;rw[h0]at hb;rcases h3 with rfl|⟨b',o,cells,fr,us,rfl,h4,_⟩
  ·cases a<;>simp[eg]at hb
  ·simp only[eg]at hb;split at hb
   ·cases hb
   ·simp only[Option.some.injEq]at hb;subst hb;exact(Array.getElem?_eq_some_iff.1 h4).1
theorem wU(hs:Sat ρ H G w){b:Nat}(h:aP ρ H G b):b<w.heap.size:=h.elim (gu hs) (hs.low b)
theorem pY:∀(x:AV) (cs:List Value),aN ρ H O w x cs→cs.length=x.wide:=by
 intro x cs h;cases x<;>unfold aN at h
 case ints k n ws=>obtain⟨h1,rfl⟩:=h;simp[AV.wide,h1]
 case agg=>exact h.elim
 case bg=>exact h.elim
 all_goals (obtain⟨u,rfl,_⟩:=h;rfl)
theorem aw{cs:List Value}:aq ρ H O w [] cs↔cs=[]:=by unfold aq;exact Iff.rfl
theorem ah{a:AV}{aJ:List AV}{cs:List Value}:aq ρ H O w (a::aJ) cs↔ ∃c1 c2,cs=c1++c2∧aN ρ H O w a c1∧aq ρ H O w aJ c2:=by
 rw[aq]
theorem aU{cs:List Value}:bI ρ H O w [] cs↔cs=[]:=by unfold bI;exact Iff.rfl
theorem aA{a:AV}{aJ:List AV}{cs:List Value}:bI ρ H O w (a::aJ) cs↔ ∃v rest,cs=v::rest∧af ρ H O w a v∧bI ρ H O w aJ rest:=by
 rw[bI]
theorem eZ{aJ bs:List AV}:∀{cs:List Value},aq ρ H O w (aJ++bs) cs↔ ∃c1 c2,cs=c1++c2∧aq ρ H O w aJ c1∧aq ρ H O w bs c2:=by
 induction aJ with
 |nil=>
  intro cs;simp only[List.nil_append,aw];exact⟨fun h=>⟨[],cs,rfl,rfl,h⟩,fun⟨c1,c2,h1,h2,h3⟩=>by subst h2;subst h1;exact h3⟩
 |cons a aJ ih=>
  intro cs;simp only[List.cons_append,ah,ih];constructor
  ·rintro⟨c1,c2,rfl,h1,c3,c4,rfl,h2,h3⟩;exact⟨c1++c3,c4,by simp,⟨c1,c3,rfl,h1,h2⟩,h3⟩
  ·rintro⟨c1,c2,rfl,⟨c3,c4,rfl,h1,h2⟩,h3⟩;exact⟨c3,c4++c2,by simp,h1,c4,c2,rfl,h2,h3⟩
theorem ia:∀{aJ:List AV} {cs:List Value},aq ρ H O w aJ cs→cs.length=fA aJ
 |[],cs,h=>by rw[aw.1 h];rfl
 |a::aJ,cs,h=>by
  obtain⟨c1,c2,rfl,h1,h2⟩:=ah.1 h;simp[fA,pY a c1 h1,ia h2]
theorem e8:∀(ao:List AV) (n:Nat) {cs:List Value} {ss:List AV},eX ao n=some ss→aq ρ H O w ao cs→n≤cs.length∧aq ρ H O w ss (cs.drop n)
 |ao,0,cs,ss,h,hd=>by
  cases ao<;>(simp only[eX,Option.some.injEq]at h;subst h;exact⟨Nat.zero_le _,by simpa using hd⟩)
 |[],n+1,cs,ss,h,hd=>by simp[eX]at h
 |a::aJ,n+1,cs,ss,h,hd=>by
  obtain⟨c1,c2,rfl,h1,h2⟩:=ah.1 hd;simp only[eX,Bool.cond_eq_ite]at h;split at h
  ·rename_i hw;have hw:=Nat.le_of_ble_eq_true hw;obtain⟨h3,h4⟩:=e8 aJ _ h h2;have hl:=pY a c1 h1;refine⟨by simp;omega, ?_⟩;rw[List.drop_append];have e1:c1.drop (n+1)=[]:=List.drop_eq_nil_of_le (by omega);rw[e1,List.nil_append,hl];exact h4
  ·cases h
theorem e9:∀(ao:List AV) (n:Nat) {cs:List Value} {ss:List AV},eY ao n=some ss→aq ρ H O w ao cs→n≤cs.length∧aq ρ H O w ss (cs.take n)
 |ao,0,cs,ss,h,hd=>by
  cases ao<;>(simp only[eY,Option.some.injEq]at h;subst h;exact⟨Nat.zero_le _,by simp[aw]⟩)
 |[],n+1,cs,ss,h,hd=>by simp[eY]at h
 |a::aJ,n+1,cs,ss,h,hd=>by
  obtain⟨c1,c2,rfl,h1,h2⟩:=ah.1 hd;simp only[eY,Bool.cond_eq_ite]at h;split at h
  ·rename_i hw;simp only[Bool.and_eq_true]at hw;have hw1:=Nat.le_of_ble_eq_true hw.1;have hw2:=Nat.le_of_ble_eq_true hw.2;simp only[Option.map_eq_some_iff]at h;obtain⟨ss',h3,rfl⟩:=h;obtain⟨h4,h5⟩:=e9 aJ _ h3 h2;have hl:=pY a c1 h1;refine⟨by simp;omega,ah.2 ⟨c1,c2.take (n+1 - a.wide), ?_,h1,h5⟩⟩;rw[List.take_append,hl,List.take_of_length_le (by omega)]
  ·cases h
theorem gb{a:AV}{cs:List Value}(h:aN ρ H O w a cs)(ha:a.wide=1)(hi:∀k n ws,a≠.ints k n ws):∃u,cs=[u]∧u.oneCell'=true∧af ρ H O w a u:=by
 cases a<;>unfold aN at h
 case ints k n ws=>exact(hi k n ws rfl).elim
 case agg=>exact h.elim
 case bg=>exact h.elim
 case ag id=>obtain⟨u,rfl,h1⟩:=h;exact⟨u,rfl,by unfold aD at h1;obtain⟨b,_,rfl,_⟩:=h1;rfl,by unfold af;exact h1⟩
 case tag id=>obtain⟨u,rfl,h1⟩:=h;exact⟨u,rfl,by unfold aD at h1;exact h1.2.1,by unfold af;exact h1⟩
 case s x=>obtain⟨u,rfl,h1⟩:=h;exact⟨u,rfl,h1.one,az h1⟩
 case ptr id off=>obtain⟨u,rfl,h1⟩:=h;exact⟨u,rfl,by unfold aD at h1;obtain⟨b,_,rfl,_⟩:=h1;rfl,by unfold af;exact h1⟩
 case jd id off n i=>obtain⟨u,rfl,h1⟩:=h;exact⟨u,rfl,by unfold aD at h1;obtain⟨_,b,_,rfl,_⟩:=h1;rfl,by unfold af;exact h1⟩
 case iK c m j=>obtain⟨u,rfl,h1⟩:=h;exact⟨u,rfl,by unfold aD at h1;obtain⟨b,o,us,rfl,_⟩:=h1;rfl,by unfold af;exact h1⟩
 case vec id=>obtain⟨u,rfl,h1⟩:=h;exact⟨u,rfl,by unfold aD at h1;exact h1.1,by unfold af;exact h1⟩
 case fR id i j=>obtain⟨u,rfl,h1⟩:=h;exact⟨u,rfl,by unfold aD at h1;exact h1.1,by unfold af;exact h1⟩
 case part id lo n=>obtain⟨u,rfl,h1⟩:=h;exact⟨u,rfl,by unfold aD at h1;exact h1.1,by unfold af;exact h1⟩
 case sub id off n=>obtain⟨u,rfl,h1⟩:=h;exact⟨u,rfl,by unfold aD at h1;exact h1.1,by unfold af;exact h1⟩
 case jz id i j n=>obtain⟨u,rfl,h1⟩:=h;exact⟨u,rfl,by unfold aD at h1;exact h1.1,by unfold af;exact h1⟩
 case emp=>obtain⟨u,rfl,a,rfl⟩:=h;exact⟨_,rfl,rfl,by unfold af;exact⟨a,rfl⟩⟩
 case fn f da=>obtain⟨u,rfl,vs,rfl,h1⟩:=h;exact⟨_,rfl,rfl,by unfold af;exact⟨vs,rfl,h1⟩⟩
 case mQ f da=>obtain⟨u,rfl,vs,rfl,h1⟩:=h;exact⟨_,rfl,rfl,by unfold af;exact⟨vs,rfl,h1⟩⟩
theorem jg{a:AV}{u:Value}(ha:a.single=true)(h:af ρ H O w a u):aN ρ H O w a [u]∧u.oneCell'=true:=by
 cases a<;>simp only[AV.single,reduceCtorEq]at ha
 case s x=>
  have h1:aT O w x u:=ak (by rintro rfl;simp at ha) h;exact⟨by unfold aN;exact⟨u,rfl,h1⟩,h1.one⟩
 case ptr id off=>unfold af at h;exact⟨by unfold aN;exact⟨u,rfl,h⟩,by unfold aD at h;obtain⟨b,_,rfl,_⟩:=h;rfl⟩
 case jd id off n i=>unfold af at h;exact⟨by unfold aN;exact⟨u,rfl,h⟩,by unfold aD at h;obtain⟨_,b,_,rfl,_⟩:=h;rfl⟩
 case iK c m j=>unfold af at h;exact⟨by unfold aN;exact⟨u,rfl,h⟩,by unfold aD at h;obtain⟨b,o,us,rfl,_⟩:=h;rfl⟩
 case vec id=>unfold af at h;exact⟨by unfold aN;exact⟨u,rfl,h⟩,by unfold aD at h;exact h.1⟩
 case fR id i j=>unfold af at h;exact⟨by unfold aN;exact⟨u,rfl,h⟩,by unfold aD at h;exact h.1⟩
 case part id lo n=>unfold af at h;exact⟨by unfold aN;exact⟨u,rfl,h⟩,by unfold aD at h;exact h.1⟩
 case sub id off n=>unfold af at h;exact⟨by unfold aN;exact⟨u,rfl,h⟩,by unfold aD at h;exact h.1⟩
 case jz id i j n=>unfold af at h;exact⟨by unfold aN;exact⟨u,rfl,h⟩,by unfold aD at h;exact h.1⟩
 case emp=>unfold af at h;exact⟨by unfold aN;exact⟨u,rfl,h⟩,by obtain⟨a,rfl⟩:=h;rfl⟩
 case fn f da=>unfold af at h;exact⟨by unfold aN;exact⟨u,rfl,h⟩,by obtain⟨vs,rfl,_⟩:=h;rfl⟩
 case mQ f da=>unfold af at h;exact⟨by unfold aN;exact⟨u,rfl,h⟩,by obtain⟨vs,rfl,_⟩:=h;rfl⟩
 case ag id=>unfold af at h;exact⟨by unfold aN;exact⟨u,rfl,h⟩,by unfold aD at h;obtain⟨b,_,rfl,_⟩:=h;rfl⟩
 case tag id=>unfold af at h;exact⟨by unfold aN;exact⟨u,rfl,h⟩,by unfold aD at h;exact h.2.1⟩
theorem gR{a:AV}(h:∀k n ws,a≠.ints k n ws):a.wide=1:=by
 cases a<;>first|rfl|(exact(h _ _ _ rfl).elim)
end
end Go.Sx
namespace Go.Sx
open Go
section
variable{ρ aF:Nat→Value}{H H':aM}{G O O':Nat→Prop}{w w':World}{P:Program}
theorem wV{a:AV}(h:∀k n ws,a≠.ints k n ws)(aJ:List AV)(off:Nat):cellAt (a::aJ) off=match off with|0=>some a|m+1=>cellAt aJ m:=by
 cases a<;>first|(cases off<;>rfl)|(exact(h _ _ _ rfl).elim)
theorem rk{a:AV}(h:∀k n ws,a≠.ints k n ws)(aJ:List AV)(off:Nat)(v:AV):fX (a::aJ) off v=match off with|0=>some (v::aJ)|m+1=>(fX aJ m v).map (a:: ·):=by
 cases a<;>first|(cases off<;>rfl)|(exact(h _ _ _ rfl).elim)
theorem oD{a:AV}(h:∀k n ws,a≠.ints k n ws)(aJ:List AV)(off:Nat):iy (a::aJ) off=match off with|0=>none|m+1=>iy aJ m:=by
 cases a<;>first|(cases off<;>rfl)|(exact(h _ _ _ rfl).elim)
theorem sj{a:AV}(h:∀k n ws,a≠.ints k n ws)(aJ:List AV)(off:Nat)(v:List Int):je (a::aJ) off v=match off with|0=>none|m+1=>(je aJ m v).map (a:: ·):=by
 cases a<;>first|(cases off<;>rfl)|(exact(h _ _ _ rfl).elim)
theorem pZ(a:AV):(∃k n ws,a=.ints k n ws)∨∀k n ws,a≠.ints k n ws:=by
 cases a<;>first|(exact .inl ⟨_,_,_,rfl⟩)|(exact .inr (by simp))
theorem cQ{k:IntKind}{n:Nat}{ws:List Int}{cs:List Value}:aN ρ H O w (.ints k n ws) cs↔ws.length=n∧cs=ws.map (Value.int k):=by
 unfold aN;exact Iff.rfl
theorem ka:∀(ao:List AV) (off:Nat) {cs:List Value} {v:AV},cellAt ao off=some v→aq ρ H O w ao cs→∃u,cs[off]? =some u∧u.oneCell'=true∧af ρ H O w v u
 |[],off,cs,v,h,_=>by simp[cellAt]at h
 |a::aJ,off,cs,v,h,hd=>by
  obtain⟨c1,c2,rfl,h1,h2⟩:=ah.1 hd;rcases pZ a with⟨k,n,ws,rfl⟩|ha
  ·obtain⟨hl,rfl⟩:=cQ.1 h1;simp only[cellAt,Bool.cond_eq_ite]at h;split at h
   ·rename_i bm;have bm:off<n:=by simpa[Nat.blt,Nat.lt_iff_add_one_le]using bm
    simp only[Option.some.injEq]at h;subst h;have hx:off<ws.length:=by omega
    exact⟨.int k ws[off],by rw[List.getElem?_append_left (by simpa using hx)];simp[hx],rfl,by rw[show ws.getD off 0=ws[off]from by simp[List.getD,hx]];exact az (.int _ _)⟩
   ·rename_i bm;have bm:¬off<n:=by simpa[Nat.blt,Nat.lt_iff_add_one_le]using bm
    obtain⟨u,h3,h4⟩:=ka aJ (off - n) h h2;exact⟨u,by rw[List.getElem?_append_right (by simp;omega)];simpa[hl]using h3,h4⟩
  ·rw[wV ha]at h;obtain⟨u,rfl,h3,h4⟩:=gb h1 (gR ha) ha;cases off with
   |zero=>simp only[Option.some.injEq]at h;subst h;exact⟨u,rfl,h3,h4⟩
   |succ m=>
    obtain⟨u',h5,h6⟩:=ka aJ m h h2;exact⟨u',by simpa using h5,h6⟩
theorem kM:∀(ao:List AV) (off:Nat) {cs:List Value} {v:AV} {u:Value} {ek:List AV},fX ao off v=some ek→aq ρ H O w ao cs→v.single=true→af ρ H O w v u→
 off<cs.length∧aq ρ H O w ek (cs.set off u)
 |[],off,cs,v,u,ek,h,_,_,_=>by simp[fX]at h
 |a::aJ,off,cs,v,u,ek,h,hd,hv,hu=>by
  obtain⟨c1,c2,rfl,h1,h2⟩:=ah.1 hd;rcases pZ a with⟨k,n,ws,rfl⟩|ha
  ·obtain⟨hl,rfl⟩:=cQ.1 h1;simp only[fX,Bool.cond_eq_ite]at h;split at h
   ·rename_i bm;have bm:off<n:=by simpa[Nat.blt,Nat.lt_iff_add_one_le]using bm
    split at h
    ·rename_i k' l x hx;split at h
     ·rename_i hk;obtain rfl:=bd hk;simp only[Option.some.injEq]at h;subst h;obtain rfl:=b8 hx hu;refine⟨by simp;omega,ah.2 ⟨(ws.set off x).map (Value.int k),c2, ?_,cQ.2 ⟨by simp[hl],rfl⟩,h2⟩⟩;rw[List.set_append_left _ _ (by simp;omega),List.map_set]
     ·cases h
    ·cases h
   ·rename_i bm;have bm:¬off<n:=by simpa[Nat.blt,Nat.lt_iff_add_one_le]using bm
    simp only[Option.map_eq_some_iff]at h;obtain⟨ss,h3,rfl⟩:=h;obtain⟨h4,h5⟩:=kM aJ (off - n) h3 h2 hv hu;refine⟨by simp;omega,ah.2 ⟨_,c2.set (off - n) u, ?_,cQ.2 ⟨hl,rfl⟩,h5⟩⟩;rw[List.set_append_right _ _ (by simp;omega)];simp[hl]
  ·rw[rk ha]at h;obtain⟨u0,rfl,h3,h4⟩:=gb h1 (gR ha) ha;cases off with
   |zero=>
    simp only[Option.some.injEq]at h;subst h;exact⟨by simp,ah.2 ⟨[u],c2,rfl,(jg hv hu).1,h2⟩⟩
   |succ m=>
    simp only[Option.map_eq_some_iff]at h;obtain⟨ss,h5,rfl⟩:=h;obtain⟨h6,h7⟩:=kM aJ m h5 h2 hv hu;exact⟨by simp;omega,ah.2 ⟨[u0],c2.set m u,rfl,h1,h7⟩⟩
theorem mU:∀(ao:List AV) (off:Nat) {cs:List Value} {k:IntKind} {n:Nat} {ws:List Int},iy ao off=some (k,n,ws)→aq ρ H O w ao cs→
 ws.length=n∧∃pre post,cs=pre++ws.map (Value.int k)++post∧pre.length=off
 |[],off,cs,k,n,ws,h,_=>by simp[iy]at h
 |a::aJ,off,cs,k,n,ws,h,hd=>by
  obtain⟨c1,c2,rfl,h1,h2⟩:=ah.1 hd;rcases pZ a with⟨k',n',lL,rfl⟩|ha
  ·obtain⟨hl,rfl⟩:=cQ.1 h1;simp only[iy,Bool.cond_eq_ite]at h;split at h
   ·rename_i h0;have h0:off=0:=by simpa using h0
    subst h0;simp only[Option.some.injEq,Prod.mk.injEq]at h;obtain⟨rfl,rfl,rfl⟩:=h;exact⟨hl,[],c2,by simp,rfl⟩
   ·split at h
    ·cases h
    ·rename_i bm;have bm:¬off<n':=by simpa[Nat.blt,Nat.lt_iff_add_one_le]using bm
     obtain⟨h3,pre,post,rfl,h4⟩:=mU aJ (off - n') h h2;exact⟨h3,lL.map (Value.int k')++pre,post,by simp,by simp;omega⟩
  ·rw[oD ha]at h;obtain⟨u0,rfl,h3,h4⟩:=gb h1 (gR ha) ha;cases off with
   |zero=>cases h
   |succ m=>
    obtain⟨h3,pre,post,rfl,h4⟩:=mU aJ m h h2;exact⟨h3,u0::pre,post,by simp,by simp[h4]⟩
theorem lY:∀(ao:List AV) (off:Nat) {pre post:List Value} {k:IntKind} {n:Nat} {ws lL:List Int} {ek:List AV},iy ao off=some (k,n,ws)→je ao off lL=some ek→lL.length=ws.length→
 aq ρ H O w ao (pre++ws.map (Value.int k)++post)→pre.length=off→aq ρ H O w ek (pre++lL.map (Value.int k)++post)
 |[],off,_,_,k,n,ws,_,_,h,_,_,_,_=>by simp[iy]at h
 |a::aJ,off,pre,post,k,n,ws,lL,ek,h,hs,hlen,hd,hp=>by
  obtain⟨c1,c2,hc,h1,h2⟩:=ah.1 hd;rcases pZ a with⟨k',n',ws1,rfl⟩|ha
  ·obtain⟨hl,rfl⟩:=cQ.1 h1;simp only[iy,je,Bool.cond_eq_ite]at h hs;split at h
   ·rename_i h0;have h0':off=0:=by simpa using h0
    subst h0';simp only[Option.some.injEq,Prod.mk.injEq]at h;obtain⟨rfl,rfl,rfl⟩:=h;rw[if_pos h0]at hs;simp only[Option.some.injEq]at hs;subst hs;obtain rfl:pre=[]:=List.eq_nil_of_length_eq_zero hp;simp only[List.nil_append]at hc ⊢;have:=List.append_cancel_left hc;subst this;exact ah.2 ⟨_,post,rfl,cQ.2 ⟨by omega,rfl⟩,h2⟩
   ·rename_i h0;rw[if_neg h0]at hs;split at h
    ·cases h
    ·rename_i bm;rw[if_neg bm]at hs;have bm:¬off<n':=by simpa[Nat.blt,Nat.lt_iff_add_one_le]using bm
     simp only[Option.map_eq_some_iff]at hs;obtain⟨ss,h3,rfl⟩:=hs;have hpl:(ws1.map (Value.int k')).length≤pre.length:=by simp;omega
     obtain⟨ai4,rfl⟩:∃ai4,pre=ws1.map (Value.int k')++ai4:=by
      rw[List.append_assoc]at hc;obtain⟨x,hx⟩:=List.prefix_of_prefix_length_le (⟨_,rfl⟩:ws1.map (Value.int k')<+:ws1.map (Value.int k')++c2) (⟨_,hc⟩:pre<+:_) hpl;exact⟨x,hx.symm⟩
     simp only[List.append_assoc]at hc ⊢;have hc':=List.append_cancel_left hc;subst hc';have wT:ai4.length=off - n':=by simp at hp;omega
     exact ah.2 ⟨_,_,rfl,h1,by simpa using lY aJ (off - n') h h3 hlen (by simpa using h2) wT⟩
  ·rw[oD ha]at h;rw[sj ha]at hs;obtain⟨u0,rfl,h3,h4⟩:=gb h1 (gR ha) ha;cases off with
   |zero=>cases h
   |succ m=>
    simp only[Option.map_eq_some_iff]at hs;obtain⟨ss,h5,rfl⟩:=hs;cases pre with
    |nil=>simp at hp
    |cons p ai4=>
     simp only[List.cons_append,List.cons.injEq,List.nil_append]at hc;obtain⟨rfl,hc'⟩:=hc;simp only[List.length_cons,Nat.add_right_cancel_iff]at hp;rw[←hc']at h2;exact ah.2 ⟨[p],_,rfl,h1,by simpa using lY aJ m h h5 hlen (by simpa using h2) hp⟩
theorem ad0{ao iF ek:List AV}{off:Nat}{cs vs:List Value}(h:aaZ ao off iF=some ek)(hd:aq ρ H O w ao cs)(hb:aq ρ H O w iF vs):
 off+vs.length≤cs.length∧aq ρ H O w ek (cs.take off++vs++cs.drop (off+vs.length)):=by
 unfold aaZ at h;split at h
 ·rename_i k n ws x;split at h
  ·rename_i k' li z hx;rw[Bool.cond_eq_ite]at h;split at h
   ·rename_i hc;simp only[Bool.and_eq_true]at hc;obtain⟨hk,bm⟩:=hc;have bm:off<n:=Nat.lt_of_lt_of_le (Nat.lt_succ_self _) (Nat.le_of_ble_eq_true bm);obtain rfl:=bd hk;simp only[Option.some.injEq]at h;subst h;obtain⟨c1,c2,rfl,h1,h2⟩:=ah.1 hd;obtain rfl:=aw.1 h2;obtain⟨hl,rfl⟩:=cQ.1 h1;obtain⟨d1,d2,rfl,h3,h4⟩:=ah.1 hb;obtain rfl:=aw.1 h4
    have hv:d1=[.int k z]:=by
     cases x with
     |s y=>
      unfold aN at h3;obtain⟨u,rfl,h5⟩:=h3;cases y<;>simp only[AV.cu,Option.some.injEq,Prod.mk.injEq,reduceCtorEq]at hx
      all_goals
       obtain⟨rfl,_,rfl⟩:=hx;cases h5;rfl
     |_=>simp only[AV.cu,reduceCtorEq]at hx
    subst hv;simp only[List.append_nil,List.length_map,List.length_singleton];refine⟨by omega,ah.2 ⟨_,[],(List.append_nil _).symm,cQ.2 ⟨by rw[List.length_set];exact hl, ?_⟩,aw.2 rfl⟩⟩;rw[List.map_set,List.set_eq_take_append_cons_drop,if_pos (by rw[List.length_map];omega),List.append_assoc];rfl
   ·cases h
  ·cases h
 ·cases h
theorem sk{ao iF ek:List AV}{off:Nat}{cs vs:List Value}(h:rE ao off iF=some ek)(hd:aq ρ H O w ao cs)(hb:aq ρ H O w iF vs):
 off+vs.length≤cs.length∧aq ρ H O w ek (cs.take off++vs++cs.drop (off+vs.length)):=by
 unfold rE at h;split at h
 ·rename_i r hr;simp only[Option.some.injEq]at h;subst h;exact ad0 hr hd hb
 split at h
 ·rename_i pre post h1 h2;simp only[Option.some.injEq]at h;subst h;have hl:=ia hb;rw[←hl]at h2;obtain⟨h3,h4⟩:=e9 _ _ h1 hd;obtain⟨h5,h6⟩:=e8 _ _ h2 hd;exact⟨h5,eZ.2 ⟨_,_,rfl,eZ.2 ⟨_,_,rfl,h4,hb⟩,h6⟩⟩
 ·cases h
theorem sn(ao:List AV){cs:List Value}(h:aq ρ H O w ao cs):∀v∈cs,v.oneCell'=true:=by
 induction ao generalizing cs with
 |nil=>rw[aw.1 h];simp
 |cons a aJ ih=>
  obtain⟨c1,c2,rfl,h1,h2⟩:=ah.1 h;intro v hv;rcases List.mem_append.1 hv with hv|hv
  ·rcases pZ a with⟨k,n,ws,rfl⟩|ha
   ·obtain⟨hl,rfl⟩:=cQ.1 h1;obtain⟨x,_,rfl⟩:=List.mem_map.1 hv;rfl
   ·obtain⟨u,rfl,h3,_⟩:=gb h1 (gR ha) ha;simp only[List.mem_singleton]at hv;subst hv;exact h3
  ·exact ih h2 v hv
theorem oE{x:AV}{v:Value}{ao:List AV}(h:x.iE =some ao)(hd:af ρ H O w x v):aq ρ H O w ao v.cells.toList:=by
 have one:∀a,a.single=true→af ρ H O w a v→aq ρ H O w [a] v.cells.toList:=by
  intro a ha hv;obtain⟨h1,h2⟩:=jg ha hv;have:v.cells.toList=[v]:=by cases v<;>first|rfl|(simp[Value.oneCell']at h2)
  rw[this];exact ah.2 ⟨[v],[],rfl,h1,aw.2 rfl⟩
 cases x with
 |agg ss=>
  simp only[AV.iE,Option.some.injEq]at h;subst h;unfold af at hd;obtain⟨cs,rfl,h1⟩:=hd;simpa[Value.cells]using h1
 |ints k n ws=>
  simp only[AV.iE,Option.some.injEq]at h;subst h;unfold af at hd;obtain⟨hl,rfl⟩:=hd;exact ah.2 ⟨ws.map (Value.int k),[],by simp[Value.cells],cQ.2 ⟨hl,rfl⟩,aw.2 rfl⟩
 |bg _=>simp[AV.iE]at h
 |s x=>cases x<;>simp only[AV.iE,Option.some.injEq,reduceCtorEq]at h<;>subst h<;>exact one _ rfl hd
 |_=>simp only[AV.iE,Option.some.injEq]at h;subst h;exact one _ rfl hd
theorem kb{ao:List AV}{cs:List Value}(h:aq ρ H O w ao cs):af ρ H O w (.jP ao) (.agg cs.toArray):=by
 unfold AV.jP;split
 ·obtain⟨c1,c2,rfl,h1,h2⟩:=ah.1 h;obtain rfl:=aw.1 h2;obtain⟨hl,rfl⟩:=cQ.1 h1;unfold af;exact⟨hl,by simp⟩
 ·unfold af;exact⟨cs,rfl,h⟩
end
end Go.Sx
namespace Go.Sx
open Go
def World.cw(w:World)(b:Nat)(o:Obj):World:={w with heap:=w.heap.setIfInBounds b o}
theorem abh{w:World}{b:Nat}{cells:Array Value}{e:TypeId}{fr:Nat×Nat}(hb:w.heap[b]? =some (.cells cells e fr))(hu:unm fr cells.size){off:Nat}(ho:off<cells.size):
 w.frozen? ⟨b,off,none⟩=false:=by
 have:=hu off ho;simp only[World.frozen?,hb,Bool.and_eq_false_imp,decide_eq_true_eq,decide_eq_false_iff_not];intro h1 h2;exact this ⟨h1,h2⟩
theorem yA{w:World}{b:Nat}{cells:Array Value}{e:TypeId}{fr:Nat×Nat}(hb:w.heap[b]? =some (.cells cells e fr))(off:Nat)(v:Value):
 w.setCell ⟨b,off,none⟩ v=World.cw w b (.cells (cells.setIfInBounds off v) e fr):=by
 simp only[World.setCell,World.cw];congr 1;apply Array.ext_getElem?;intro i;rw[Array.getElem?_modify,Array.getElem?_setIfInBounds];by_cases h:b=i
 ·subst h;obtain⟨bm,rl⟩:=Array.getElem?_eq_some_iff.1 hb;simp[rl,bm]
 ·simp[h]
theorem dT{w:World}{b:Nat}{o o':Obj}(hb:w.heap[b]? =some o):(World.cw w b o').heap[b]? =some o':=by
 have bm:b<w.heap.size:=(Array.getElem?_eq_some_iff.1 hb).1;simp[World.cw,bm]
theorem gS{w:World}{b i:Nat}{o:Obj}(h:i≠b):(World.cw w b o).heap[i]? =w.heap[i]? :=by
 simp only[World.cw];rw[Array.getElem?_setIfInBounds_ne (by omega)]
theorem ib{w:World}{b:Nat}{o:Obj}:(World.cw w b o).heap.size=w.heap.size:=by simp[World.cw]
theorem uG{w:World}{b:Nat}{o o':Obj}:World.cw (World.cw w b o) b o'=World.cw w b o':=by
 simp only[World.cw];congr 1;apply Array.ext_getElem?;intro i;by_cases h:b=i
 ·subst h;simp[Array.getElem?_setIfInBounds]
 ·simp[h]
theorem qK{w:World}{b:Nat}{o:Obj}(hb:w.heap[b]? =some o):World.cw w b o=w:=by
 have:w.heap.setIfInBounds b o=w.heap:=by
  apply Array.ext_getElem?;intro i;by_cases h:b=i
  ·subst h;obtain⟨bm,rl⟩:=Array.getElem?_eq_some_iff.1 hb;simp[rl,bm]
  ·rw[Array.getElem?_setIfInBounds_ne (by omega)]
 simp only[World.cw,this]
theorem uH{P:Program}{w:World}{b:Nat}{cells:List Value}{e:TypeId}{fr:Nat×Nat}(hb:w.heap[b]? =some (.cells cells.toArray e fr))(hu:unm fr cells.length){off:Nat}(ho:off<cells.length)
 {v:Value} (hv:v.oneCell'=true):(store ⟨b,off,none⟩ v).run P w=.ok () (World.cw w b (.cells (cells.set off v).toArray e fr)):=by
 rw[run_store P w _ v _ hv];have hc:w.cell? ⟨b,off,none⟩=some cells[off]:=by simp[World.cell?,hb,ho]
 have hf:=abh hb (by simpa using hu) (off:=off) (by simpa using ho);simp only[hc,hf,Bool.false_eq_true,if_false,yA hb,List.setIfInBounds_toArray]
theorem a8(b off i:Nat):(⟨b,off,none⟩:Addr).add i=⟨b,off+i,none⟩:=by
 unfold Addr.add;split
 ·rename_i h;subst h;rfl
 ·rfl
theorem bL{P:Program}{b:Nat}{e:TypeId}{fr:Nat×Nat}(off:Nat):∀(vs:List Value) (i:Nat) {w:World} {cells:List Value},w.heap[b]? =some (.cells cells.toArray e fr)→unm fr cells.length→
 off+i+vs.length≤cells.length→(∀v∈vs,v.oneCell'=true)→
 (storeCells ⟨b,off,none⟩ vs i).run P w=.ok () (World.cw w b (.cells (cells.take (off+i)++vs++cells.drop (off+i+vs.length)).toArray e fr))
 |[],i,w,cells,hb,hu,hl,hv=>by
  simp only[storeCells,Sem.run_pure,List.length_nil,Nat.add_zero,List.append_nil,List.take_append_drop];rw[qK hb]
 |v::vs,i,w,cells,hb,hu,hl,hv=>by
  simp only[List.length_cons]at hl;have bm:off+i<cells.length:=by omega
  simp only[storeCells,Sem.run_bind,a8,uH hb hu bm (hv v (by simp)),Result.andThen_ok];rw[bL off vs (i+1) (dT hb) (by simpa using hu) (by simp;omega) (fun x hx=>hv x (by simp[hx])),uG];congr 4;rw[←Nat.add_assoc,List.take_set,List.drop_set_of_lt (by omega)]
  have e1:(cells.take (off+i+1)).set (off+i) v=cells.take (off+i)++[v]:=by
   rw[List.take_succ_eq_append_getElem bm];rw[List.set_append_right _ _ (by simp;omega)];simp[Nat.min_eq_left (Nat.le_of_lt bm)]
  rw[e1];simp only[List.append_assoc,List.length_cons,List.cons_append,List.nil_append];rw[show off+i+1+vs.length=off+i+(vs.length+1)from by omega]
theorem iY{w:World}{o:Obj}:(w.alloc o).heap[w.heap.size]? =some o:=by
 show(w.heap.push o)[w.heap.size]? =_;simp
theorem alloc_old{w:World}{o:Obj}{i:Nat}(h:i<w.heap.size):(w.alloc o).heap[i]? =w.heap[i]? :=by
 show(w.heap.push o)[i]? =_;rw[Array.getElem?_push,if_neg (by omega)]
theorem fa{w:World}{o:Obj}:(w.alloc o).heap.size=w.heap.size+1:=by
 show(w.heap.push o).size=_;simp
section
variable{ρ aF:Nat→Value}{H H':aM}{G O O':Nat→Prop}{w w':World}{P:Program}
def ax(H:aM)(id:Nat)(o:ab):aM:=fun j=>if j=id then some o else H j
theorem wW{id:Nat}{o o':ab}(ho:H id=some o)(ha:o.alive=o'.alive)(b:Nat):Own ρ (ax H id o') b↔Own ρ H b:=by
 constructor
 ·rintro⟨j,x,hx,h1,h2⟩;unfold ax at hx;split at hx
  ·rename_i hj;subst hj;simp only[Option.some.injEq]at hx;subst hx;exact⟨j,o,ho,ha.trans h1,h2⟩
  ·exact⟨j,x,hx,h1,h2⟩
 ·rintro⟨j,x,hx,h1,h2⟩;by_cases hj:j=id
  ·subst hj;rw[ho]at hx;cases hx;exact⟨j,o',by simp[ax],ha.symm.trans h1,h2⟩
  ·exact⟨j,x,by simp[ax,hj,hx],h1,h2⟩
theorem wX{id:Nat}{o o':ab}(ho:H id=some o)(ha:o.alive=o'.alive):aP ρ (ax H id o') G=aP ρ H G:=by
 funext b;exact propext (or_congr_left (wW ho ha b))
theorem Good.write(hs:Sat ρ H G w){id:Nat}{o o':ab}(ho:H id=some o)(ha:o.alive=true)(ha':o'.alive=true){b:Nat}(hb:eg (ρ id)=some b)
 (p6:∀c' e',o'=.vec c' e'→∃c e,o=.vec c e∧c'.n=c.n∧c'.size=c.size)
 {p7:Obj} {r:AV} {v:Value}
 (dQ:gQ ρ (ax H id o') (aP ρ H G) (World.cw w b p7) (ρ id) o')
 (hr:af ρ (ax H id o') (aP ρ H G) (World.cw w b p7) r v):
 Good ρ H G w (ax H id o') r v (World.cw w b p7):=by
 have hh:=wX (ρ:=ρ) (G:=G) ho (ha.trans ha'.symm);have dC:Own ρ H b:=⟨id,o,ho,ha,hb⟩
 have st:Step ρ H (aP ρ H G) w ρ (ax H id o') (aP ρ (ax H id o') G) (World.cw w b p7):=by
  refine⟨fun _ _ _=>rfl,fun j x hx=> ?_,fun c hc=>.inl (by rw[hh]at hc;exact hc),fun c hc hO=> ?_,by rw[ib];exact Nat.le_refl _⟩
  ·by_cases hj:j=id
   ·subst hj;rw[ho]at hx;cases hx;exact⟨o',by simp[ax],p6⟩
   ·exact⟨x,by simp[ax,hj,hx],fun c' e' hc=>⟨c',e',hc,rfl,rfl⟩⟩
  ·exact gS (fun e=>hO (.inl (by subst e;exact dC)))
 refine⟨ρ,⟨fun j x hx=> ?_,fun i j oi oj c h1 h2 h3 h4 h5 h6=> ?_,fun c hc=> ?_,fun c hc=> ?_⟩,by rw[hh];exact hr,st,⟨rfl,rfl,rfl,fun c hc hO=>gS (fun e=>hO (by subst e;exact dC))⟩⟩
 ·by_cases hj:j=id
  ·subst hj;simp only[ax,if_true,Option.some.injEq]at hx;subst hx;rw[hh];exact dQ
  ·have hx':H j=some x:=by simpa[ax,hj]using hx
   refine(hs.obj j x hx').step st (fun c so hc=>gS (fun e=>hj ?_));subst e;exact hs.inj j id x o c hx' ho so ha hc hb
 ·have f:∀i oi,ax H id o' i=some oi→oi.alive=true→∃x,H i=some x∧x.alive=true:=by
   intro i oi hi so;by_cases eF:i=id
   ·subst eF;exact⟨o,ho,ha⟩
   ·exact⟨oi,by simpa[ax,eF]using hi,so⟩
  obtain⟨x,hx,hxa⟩:=f i oi h1 h3;obtain⟨y,hy,hya⟩:=f j oj h2 h4;exact hs.inj i j x y c hx hy hxa hya h5 h6
 ·exact hs.apart c ((wW ho (ha.trans ha'.symm) c).1 hc)
 ·rw[ib];exact hs.low c hc
theorem Good.fresh(hs:Sat ρ H G w){n:Nat}(hn:H n=none){o:ab}{obj:Obj}{root:Value}{r:AV}{v:Value}
 {w1:World} (hw:w1.heap=w.heap) (ht:w1.tape=w.tape) (hos:w1.os=w.os) (nj:w1.output=w.output)
 (dK:∀b,eg root=some b→b=w.heap.size)
 (dQ:gQ (fun j=>if j=n then root else ρ j) (ax H n o) (aP (fun j=>if j=n then root else ρ j) (ax H n o) G) (w1.alloc obj) root o)
 (hr:af (fun j=>if j=n then root else ρ j) (ax H n o) (aP (fun j=>if j=n then root else ρ j) (ax H n o) G) (w1.alloc obj) r v):
 Good ρ H G w (ax H n o) r v (w1.alloc obj):=by
 have bR:(w1.alloc obj).heap.size=w.heap.size+1:=by rw[fa,hw]
 have hold:∀i,i<w.heap.size→(w1.alloc obj).heap[i]? =w.heap[i]? :=fun i hi=>by rw[alloc_old (by rw[hw];exact hi),hw]
 have ne:∀j x,H j=some x→j≠n:=fun j x hx e=>by subst e;rw[hn]at hx;cases hx
 have oF:∀b,Own (fun j=>if j=n then root else ρ j) (ax H n o) b→Own ρ H b∨b=w.heap.size:=by
  rintro b ⟨j,x,hx,h1,h2⟩;by_cases hj:j=n
  ·subst hj;simp only[if_true]at h2;exact .inr (dK b h2)
  ·simp only[ax,hj,if_false]at hx h2;exact .inl ⟨j,x,hx,h1,h2⟩
 have st:Step ρ H (aP ρ H G) w (fun j=>if j=n then root else ρ j) (ax H n o) (aP (fun j=>if j=n then root else ρ j) (ax H n o) G) (w1.alloc obj):=by
  refine⟨fun j x hx=>by simp[ne j x hx],fun j x hx=>⟨x,by simp[ax,ne j x hx,hx],fun c' e' hc=>⟨c',e',hc,rfl,rfl⟩⟩,fun b hb=> ?_,fun b hb _=>hold b hb,by omega⟩;rcases hb with hb|hb
  ·rcases oF b hb with h1|h1
   ·exact .inl (.inl h1)
   ·exact .inr (by omega)
  ·exact .inl (.inr hb)
 refine⟨_,⟨fun j x hx=> ?_,fun i j oi oj b h1 h2 h3 h4 h5 h6=> ?_,fun b hb=> ?_,fun b hb=> ?_⟩,hr,st,⟨hos,ht,nj,fun b hb _=>hold b hb⟩⟩
 ·by_cases hj:j=n
  ·subst hj;simp only[ax,if_true,Option.some.injEq]at hx;subst hx;simp only[if_true];exact dQ
  ·have hx':H j=some x:=by simpa[ax,hj]using hx
   simp only[hj,if_false];exact(hs.obj j x hx').step st (fun b so hb=>hold b (gu hs ⟨j,x,hx',so,hb⟩))
 ·by_cases hi:i=n<;>by_cases hj:j=n
  ·rw[hi,hj]
  ·simp only[ax,hi,hj,if_true,if_false]at h1 h2 h5 h6;have e:=dK b h5;have:=gu hs ⟨j,oj,h2,h4,h6⟩;omega
  ·simp only[ax,hi,hj,if_true,if_false]at h1 h2 h5 h6;have e:=dK b h6;have:=gu hs ⟨i,oi,h1,h3,h5⟩;omega
  ·simp only[ax,hi,hj,if_false]at h1 h2 h5 h6;exact hs.inj i j oi oj b h1 h2 h3 h4 h5 h6
 ·rcases oF b hb with h1|h1
  ·exact hs.apart b h1
  ·intro hg;have:=hs.low b hg;omega
 ·have:=hs.low b hb;omega
end
end Go.Sx
namespace Go.Sx
open Go
def eG(P:Program)(ρ:Nat→Value)(H:aM)(O:Nat→Prop)(w:World)(q:bH)(s:Sem Value):Prop:=
 q.up=[]∧q.new=[]∧∃v,s.run P w=.ok v w∧∀base,af ρ H O w (q.r base) v
section
variable{ρ aF:Nat→Value}{H H':aM}{G O O':Nat→Prop}{w w':World}{P:Program}
theorem aE{need:List Prop}{r:AV}{q:bH}{s:Sem Value}(h:(plain need r).eval H=some q)(f:bD need→∃v,s.run P w=.ok v w∧af ρ H O w r v)(hn:bD q.need):eG P ρ H O w q s:=by
 simp only[plain,RM.eval,Option.some.injEq]at h;subst h;obtain⟨v,h1,h2⟩:=f hn;exact⟨rfl,rfl,v,h1,fun _=>h2⟩
theorem gf{t:TypeId}{b:Bool}(h:gq P t=some b)(w:World):(isAgg t).run P w=.ok b w:=by
 unfold gq at h;split at h<;>first|(cases h;rename_i ht;simp[isAgg,run_underlying ht];done)|cases h
theorem nv{f:Nat→Value}{n j:Nat}{v:Value}(h:((List.range n).map f)[j]? =some v):j<n∧v=f j:=by
 by_cases hj:j<n
 ·rw[List.getElem?_map,List.getElem?_range hj]at h;simp at h;exact⟨hj,h.symm⟩
 ·rw[List.getElem?_eq_none (by simp;omega)]at h;cases h
theorem run_sizeOf{t:TypeId}{n:Nat}(h:du P t=some n)(w:World):(sizeOf t).run P w=.ok n w:=by
 simp only[du,Option.map_eq_some_iff]at h;obtain⟨i,hi,rfl⟩:=h;simp[sizeOf,typeInfo,hi]
theorem dc{b:Nat}{cells:List Value}{e:TypeId}{fr:Nat×Nat}(hb:w.heap[b]? =some (.cells cells.toArray e fr))(off:Nat):w.cell? ⟨b,off,none⟩=cells[off]? :=by
 simp[World.cell?,hb]
theorem iz{t:TypeId}{n b off:Nat}{cs:List Value}(ha:gq P t=some true)(hs:du P t=some n)(hl:cs.length=n)(hc:∀j v,cs[j]? =some v→w.cell? ⟨b,off+j,none⟩=some v):
 (Instr.loadAt t (.pointer (some ⟨b,off,none⟩))).run P w=.ok (.agg cs.toArray) w:=by
 subst hl;have:=run_loadCells_list (P:=P) (w:=w) ⟨b,off,none⟩ cs (fun j v hj=>by rw[a8];exact hc j v hj);simp[Instr.loadAt,Instr.sureAddr,loadVar,gf ha,run_sizeOf hs,this]
theorem iA{t:TypeId}{b off:Nat}{v:Value}(ha:gq P t=some false)(hc:w.cell? ⟨b,off,none⟩=some v):
 (Instr.loadAt t (.pointer (some ⟨b,off,none⟩))).run P w=.ok v w:=by
 simp[Instr.loadAt,Instr.sureAddr,loadVar,gf ha,hc]
theorem mV(hs:Sat ρ H G w){id b:Nat}{ao:List AV}{e:TypeId}(ho:H id=some (.own ao e))(hb:ρ id=.pointer (some ⟨b,0,none⟩)):
 ∃cells fr,w.heap[b]? =some (.cells cells.toArray e fr)∧unm fr cells.length∧aq ρ H (aP ρ H G) w ao cells:=by
 obtain⟨b',cells,fr,h1,h2⟩:=hs.obj id _ ho;rw[hb]at h1;cases h1;exact⟨cells,fr,h2⟩
theorem ad1(hs:Sat ρ H G w){id i b f n cap:Nat}{c:aL}{e:TypeId}(ho:H id=some (.vec c e))(hi:i<c.n)(dK:ρ id=.slice (some ⟨b,f,none⟩) n cap):
 ∃us:Nat→Nat→Value,∀i j,i<c.n→j<c.size→w.cell? ⟨b,f+i*c.size+j,none⟩=some (us i j)∧aT (aP ρ H G) w (c.cell i j) (us i j):=by
 obtain⟨a,adX,h1,h2,h3,h4⟩:=hs.obj id _ ho;rw[dK]at h1;cases h1;rcases h4 with rfl|⟨b',o,cells,fr,us,h5,h6,h7,h8,h9⟩
 ·omega
 ·cases h5;exact⟨us,fun i j hi hj=>⟨by rw[dc h6];exact(h9 i j hi hj).1,(h9 i j hi hj).2⟩⟩
theorem yB(n:Nat)(f:Nat→SV)(us:Nat→Value)(h:∀i,i<n→aT O w (f i) (us i)):aq ρ H O w ((List.range n).map fun i=>.s (f i)) ((List.range n).map us):=by
 induction n with
 |zero=>simp[aw]
 |succ n ih=>
  rw[List.range_succ,List.map_append,List.map_append];exact eZ.2 ⟨_,_,rfl,ih (fun i hi=>h i (by omega)),ah.2 ⟨[us n],[],rfl,by unfold aN;exact⟨_,rfl,h n (by omega)⟩,aw.2 rfl⟩⟩
theorem lG{a b:Nat}(h:a<b):a.blt b=true:=Nat.ble_eq_true_of_le h
theorem oG{a b:Nat}(h:b≤a):a.blt b=false:=by
 cases hh:a.blt b
 ·rfl
 ·exact absurd (Nat.le_of_ble_eq_true hh) (by omega)
theorem nR:∀(cs:List CK) (x:CL cs) (us:Nat→Value) (off:Nat),(∀l,l<CL.wide cs→aT O w (CL.cell cs x l) (us (off+l)))→bD (ei (CL.ao cs x))→
 aq ρ H O w (CL.ao cs x) ((List.range (CL.wide cs)).map fun l=>us (off+l))
 |[],x,us,off,h,hn=>aw.2 (by simp[CL.wide])
 |c::cs,x,us,off,h,hn=>by
  have key:∀a:AV,CL.ao (c::cs) x=a::CL.ao cs x.2→c.wide=1→(∀y,aT O w (c.cell x.1 0) y→aN ρ H O w a [y])→bD (ei (CL.ao cs x.2))→
   aq ρ H O w (CL.ao (c::cs) x) ((List.range (CL.wide (c::cs))).map fun l=>us (off+l)):=by
   intro a e hw ha uI;rw[e];simp only[CL.wide,hw];rw[List.range_add,List.map_append,List.map_map];refine ah.2 ⟨_,_,rfl, ?_, ?_⟩
   ·have:=h 0 (by simp only[CL.wide];omega);simp only[CL.cell,hw,lG (show 0<1 from by omega),cond_true]at this;simpa using ha _ this
   ·have ih:=nR cs x.2 us (off+1) (fun l hl=> ?_) uI
    ·have e2:(fun l=>us (off+1+l))=(fun l=>us (off+l))∘(fun x=>1+x):=by funext l;simp[Function.comp,Nat.add_assoc]
     rw[e2]at ih;exact ih
    ·have:=h (1+l) (by simp only[CL.wide];omega);simp only[CL.cell,hw]at this;rw[oG (show 1≤1+l from by omega),cond_false,show 1+l - 1=l from by omega,←Nat.add_assoc]at this;exact this
  have one:∀{sv:SV} {y:Value},aT O w sv y→aN ρ H O w (.s sv) [y]:=fun hy=>by unfold aN;exact⟨_,rfl,hy⟩
  cases c with
  |arr k n=>
   obtain⟨x1,x2⟩:=x;change List Int at x1;simp only[CL.ao,ei]at hn ⊢;obtain⟨hl,uI⟩:=hn;simp only[CL.wide,CK.wide];rw[List.range_add,List.map_append,List.map_map];refine ah.2 ⟨_,_,rfl, ?_, ?_⟩
   ·unfold aN;refine⟨hl, ?_⟩;refine List.ext_getElem (by simp[hl]) fun i h1 h2=> ?_;have hi:i<n:=by simpa using h1
    have:=h i (by simp only[CL.wide,CK.wide];omega);simp only[CL.cell,CK.wide]at this;rw[lG hi,cond_true]at this;simp only[CK.cell]at this;have hx:x1.getD i 0=x1[i]'(by rw[hl];exact hi):=by simp[List.getD,hl,hi]
    rw[hx]at this;simp only[List.getElem_map,List.getElem_range];generalize us (off+i)=u at this ⊢;cases this;rfl
   ·have ih:=nR cs x2 us (off+n) (fun l hl=> ?_) uI
    ·have e2:(fun l=>us (off+n+l))=(fun l=>us (off+l))∘(fun x=>n+x):=by funext l;simp[Function.comp,Nat.add_assoc]
     rw[e2]at ih;exact ih
    ·have:=h (n+l) (by simp only[CL.wide,CK.wide];omega);simp only[CL.cell,CK.wide]at this;rw[oG (show n≤n+l from by omega),cond_false,show n+l - n=l from by omega,←Nat.add_assoc]at this;exact this
  |int k=>exact key _ rfl rfl (fun y hy=>one hy) (by simpa[CL.ao,ei]using hn)
  |bool=>exact key _ rfl rfl (fun y hy=>one hy) (by simpa[CL.ao,ei]using hn)
  |str=>exact key _ rfl rfl (fun y hy=>one hy) (by simpa[CL.ao,ei]using hn)
  |ints k=>exact key _ rfl rfl (fun y hy=>one hy) (by simpa[CL.ao,ei]using hn)
  |strs=>exact key _ rfl rfl (fun y hy=>one hy) (by simpa[CL.ao,ei]using hn)
  |bQ=>exact key _ rfl rfl (fun y hy=>one hy) (by simpa[CL.ao,ei]using hn)
  |rows ds=>exact key _ rfl rfl (fun y hy=>one hy) (by simpa[CL.ao,ei]using hn)
theorem qL{uE:Bool}{c:aL}{i j sz:Nat}{t:TypeId}{q:bH}(h:(oB uE c i j sz).eval H=some q)(hn:bD q.need)(om:gq P t=some uE)(bR:du P t=some sz){b o:Nat}{us:Nat→Value}
 (hc:∀l,l<c.size→w.cell? ⟨b,o+l,none⟩=some (us l)∧aT O w (c.cell i l) (us l)):eG P ρ H O w q (Instr.loadAt t (.pointer (some ⟨b,o+j,none⟩))):=by
 unfold oB at h;cases uE
 ·simp only[cond_false]at h;rw[Bool.cond_eq_ite]at h;split at h
  ·rename_i bm;have bm:j<c.size:=by simpa[Nat.blt,Nat.lt_iff_add_one_le]using bm
   exact aE h (fun _=>⟨us j,iA om (hc j bm).1,az (hc j bm).2⟩) hn
  ·cases h
 ·simp only[cond_true]at h;split at h
  ·rename_i cs xs;split at h
   ·rename_i ss hss;refine aE h (fun apj=> ?_) hn;have hd:=nR (ρ:=ρ) (H:=H) cs (xs.getD i (CL.d cs)) us 0 (fun l hl=>by rw[Nat.zero_add];exact(hc l hl).2) apj;simp only[Nat.zero_add]at hd;simp only[Option.bind_eq_some_iff]at hss;obtain⟨s1,h4,h5⟩:=hss;obtain⟨h6,h7⟩:=e8 _ j h4 hd;obtain⟨h8,h9⟩:=e9 s1 sz h5 h7;refine⟨_,iz (cs:=(((List.range (CL.wide cs)).map us).drop j).take sz) om bR (by simp at h8 ⊢;omega) (fun l v hv=> ?_),kb h9⟩;rw[List.getElem?_take]at hv;split at hv
    ·rw[List.getElem?_drop]at hv;obtain⟨bm,rfl⟩:=nv hv;rw[Nat.add_assoc];exact(hc (j+l) bm).1
    ·cases hv
   ·cases h
  ·rw[Bool.cond_eq_ite]at h;split at h
   ·rename_i hle;have hle:=Nat.le_of_ble_eq_true hle;refine aE h (fun _=>⟨_,iz (cs:=(List.range sz).map fun l=>us (j+l)) om bR (by simp) (fun l v hv=> ?_), ?_⟩) hn
    ·obtain⟨bm,rfl⟩:=nv hv;rw[Nat.add_assoc];exact(hc (j+l) (by omega)).1
    ·unfold af;exact⟨_,rfl,yB sz (fun l=>c.cell i (j+l)) (fun l=>us (j+l)) (fun l hl=>(hc (j+l) (by omega)).2)⟩
   ·cases h
theorem yC{t:TypeId}{a:AV}{va:Value}{q:bH}(h:(acs P t a).eval H=some q)(hn:bD q.need)(hs:Sat ρ H G w)(hd:af ρ H (aP ρ H G) w a va):
 eG P ρ H (aP ρ H G) w q (Instr.loadAt t va):=by
 unfold acs at h;split at h
 ·rename_i sz uE bR om;split at h
  ·
   rename_i id off;unfold af aD at hd;obtain⟨b,hb,rfl,_⟩:=hd;simp only[RM.eval]at h;split at h
   ·rename_i ao e ho;obtain⟨cells,fr,h1,h2,h3⟩:=mV hs ho hb;cases uE
    ·simp only[cond_false]at h;split at h
     ·rename_i v hv;obtain⟨u,h4,h5,h6⟩:=ka ao off hv h3;exact aE h (fun _=>⟨u,iA om (by rw[dc h1];exact h4),h6⟩) hn
     ·cases h
    ·simp only[cond_true]at h;split at h
     ·rename_i ss hss;simp only[Option.bind_eq_some_iff]at hss;obtain⟨s1,h4,h5⟩:=hss;obtain⟨h6,h7⟩:=e8 ao off h4 h3;obtain⟨h8,h9⟩:=e9 s1 sz h5 h7;refine aE h (fun _=>⟨_,iz (cs:=(cells.drop off).take sz) om bR (by simp at h8 ⊢;omega) (fun j v hj=> ?_),kb h9⟩) hn;rw[dc h1];rw[List.getElem?_take]at hj;split at hj
      ·simpa using hj
      ·cases hj
     ·cases h
   ·cases h
  ·
   rename_i id off n i;unfold af aD at hd;obtain⟨dz,b,hb,rfl,_⟩:=hd;simp only[RM.eval]at h;split at h
   ·rename_i ao e ho;obtain⟨cells,fr,h1,h2,h3⟩:=mV hs ho hb;split at h
    ·rename_i k m ws ai5;rw[Bool.cond_eq_ite]at h;split at h
     ·rename_i hc;simp only[Bool.and_eq_true,Bool.not_eq_true',Nat.beq_eq]at hc;obtain⟨rfl,rfl⟩:=hc;obtain⟨hl,pre,post,rfl,hp⟩:=mU ao off ai5 h3;have hi:i<ws.length:=by omega
      refine aE h (fun _=>⟨.int k (ws.getD i 0),iA om ?_,az (.int _ _)⟩) hn;rw[dc h1,List.append_assoc,List.getElem?_append_right (by omega),List.getElem?_append_left (by simp;omega)];rw[show off+i - pre.length=i from by omega];simp[hi]
     ·cases h
    ·cases h
   ·cases h
  ·
   unfold af aD at hd;obtain⟨b,o,us,rfl,_,_,hc⟩:=hd;exact qL h hn om bR hc
  ·
   rename_i id i j;unfold af aD at hd;obtain⟨_,o,ho,hv⟩:=hd;simp only[RM.eval]at h;split at h
   ·rename_i c e dg;rw[ho]at dg;cases dg;obtain⟨hi,hj,b,f,n,cap,dK,rfl⟩:=hv c e rfl;obtain⟨us,hc⟩:=ad1 hs ho hi dK;exact qL (us:=fun l=>us i l) h hn om bR (fun l hl=>hc i l hi hl)
   ·cases h
  ·cases h
 ·cases h
end
end Go.Sx
namespace Go.Sx
open Go
section
variable{ρ aF:Nat→Value}{H H':aM}{G O O':Nat→Prop}{w w':World}{P:Program}
theorem slice_inj{a a':Option Addr}{n n' c c':Nat}(h:Value.slice a n c=.slice a' n' c'):a'=a∧c'=c:=by
 cases h;exact⟨rfl,rfl⟩
theorem lZ{t:TypeId}{fs:Array Field}{f:Nat}{fd:Field}{n b off:Nat}(ht:P.underlying t=some (.struct fs))(hf:fs[f]? =some fd)(hs:du P fd.type=some n)(hn:1≤n)(w:World):
 (Instr.fieldAt t (.pointer (some ⟨b,off,none⟩)) f).run P w=.ok (.pointer (some ⟨b,off+fd.offset,none⟩)) w:=by
 have h0:¬n=0:=by omega
 simp[Instr.fieldAt,run_underlying ht,hf,Instr.sureAddr,fieldPlace,run_sizeOf hs,h0,a8]
theorem uJ{t:TypeId}{x:AV}{f:Nat}{vx:Value}{q:bH}(h:(nJ P t x f).eval H=some q)(hn:bD q.need)(hd:af ρ H O w x vx):
 eG P ρ H O w q (Instr.fieldAt t vx f):=by
 unfold nJ at h;split at h
 ·rename_i fs ht;split at h
  ·rename_i fd hf;rw[Bool.cond_eq_ite]at h;split at h
   ·rename_i bR
    obtain⟨n,hs,hn1⟩:∃n,du P fd.type=some n∧1≤n:=by
     cases hs:du P fd.type with
     |none=>simp[hs]at bR
     |some n=>exact⟨n,rfl,Nat.le_of_ble_eq_true (by simpa[hs]using bR)⟩
    split at h
    ·rename_i id off;unfold af aD at hd;obtain⟨b,hb,rfl,hi⟩:=hd;exact aE h (fun _=>⟨_,lZ ht hf hs hn1 w,by unfold af aD;exact⟨b,hb,rfl,hi⟩⟩) hn
    ·rename_i c m j;unfold af aD at hd;obtain⟨b,o,us,rfl,h1⟩:=hd;exact aE h (fun _=>⟨_,lZ ht hf hs hn1 w,by unfold af aD;exact⟨b,o,us,by rw[Nat.add_assoc],h1⟩⟩) hn
    ·rename_i id i j;simp only[RM.eval]at h;split at h
     ·rename_i c e ho;rw[Bool.cond_eq_ite]at h;split at h
      ·rename_i bm;have bm:j+fd.offset<c.size:=by simpa[Nat.blt,Nat.lt_iff_add_one_le]using bm
       unfold af aD at hd;obtain⟨h1,o,dg,hv⟩:=hd;rw[ho]at dg;cases dg;obtain⟨hi,hj,b,f',n',cap,dK,rfl⟩:=hv c e rfl;refine aE h (fun _=>⟨_,lZ ht hf hs hn1 w, ?_⟩) hn;unfold af aD;refine⟨rfl,_,ho,fun c' e' hc=> ?_⟩;cases hc;exact⟨hi,bm,b,f',n',cap,dK,by rw[Nat.add_assoc]⟩
      ·cases h
     ·cases h
    ·cases h
   ·cases h
  ·cases h
 ·cases h
theorem gv{t e:TypeId}{n b o len cap:Nat}{k:IntKind}{i:Int}(ht:P.underlying t=some (.slice e))(hs:du P e=some n)(h0:0≤i)(h1:i<len)(w:World):
 (Instr.indexAt t (.slice (some ⟨b,o,none⟩) len cap) (.int k i)).run P w=.ok (.pointer (some ⟨b,o+i.toNat*n,none⟩)) w:=by
 simp[Instr.indexAt,run_underlying ht,asIntOf,run_sizeOf hs,h0,h1,a8]
theorem gw{t e:TypeId}{n b o len:Nat}{k:IntKind}{i:Int}(ht:P.underlying t=some (.array len e))(hs:du P e=some n)(h0:0≤i)(h1:i<len)(w:World):
 (Instr.indexAt t (.pointer (some ⟨b,o,none⟩)) (.int k i)).run P w=.ok (.pointer (some ⟨b,o+i.toNat*n,none⟩)) w:=by
 simp[Instr.indexAt,run_underlying ht,asIntOf,Instr.sureAddr,run_sizeOf hs,h0,h1,a8]
theorem uK{t:TypeId}{x i:AV}{vx vi:Value}{q:bH}(h:(nK P t x i).eval H=some q)(hn:bD q.need)(hs:Sat ρ H G w)(hd:af ρ H (aP ρ H G) w x vx)(hi:af ρ H (aP ρ H G) w i vi):
 eG P ρ H (aP ρ H G) w q (Instr.indexAt t vx vi):=by
 unfold nK at h;split at h
 ·rename_i k lit n e l3 ht;obtain rfl:=b8 l3 hi;split at h
  ·rename_i sz c bR;rw[Bool.cond_eq_ite]at h;split at h
   ·rename_i he;have he:sz=c.size:=by simpa using he
    have hx:=ak (by simp) hd;cases hx with
    |ro _ a cap us b o h1 h2 h3 h4 h5=>
     refine aE h (fun cL=> ?_) hn;obtain⟨h6,h7,_⟩:=cL;have bm:n.toNat<c.n:=by omega
     obtain⟨rfl,h8,h9⟩:=h3 (by omega);refine⟨_,gv ht bR h6 h7 w, ?_⟩;unfold af aD;refine⟨b,o+n.toNat*c.size,fun j=>us n.toNat j,by rw[he];rfl,h8,h9,fun j hj=>⟨h4 _ _ bm hj,h5 _ _ bm hj⟩⟩
   ·cases h
  ·rename_i sz id bR;simp only[RM.eval]at h;split at h
   ·rename_i c e' ho;rw[Bool.cond_eq_ite]at h;split at h
    ·rename_i he;simp only[Bool.and_eq_true,Nat.beq_eq]at he;obtain⟨rfl,hge⟩:=he;have hge:=Nat.le_of_ble_eq_true hge;unfold af aD at hd;obtain⟨_,o,dg,hv⟩:=hd;rw[ho]at dg;cases dg;obtain rfl:=hv c e' rfl;obtain⟨a,cap,hr,h2,h3,h4⟩:=hs.obj id _ ho;refine aE h (fun cL=> ?_) hn;obtain⟨h6,h7,_⟩:=cL;rcases h4 with h4|⟨b,o,cells,fr,us,rfl,h5,_⟩
     ·omega
     ·refine⟨.pointer (some ⟨b,o+n.toNat*c.size,none⟩),by rw[hr];exact gv ht bR h6 h7 w, ?_⟩;unfold af aD;refine⟨rfl,_,ho,fun c' e'' hc=> ?_⟩;cases hc;exact⟨by omega,by omega,b,o,c.n,cap,hr,rfl⟩
    ·cases h
   ·cases h
  ·rename_i sz id lo m bR;simp only[RM.eval]at h;split at h
   ·rename_i c e' ho;rw[Bool.cond_eq_ite]at h;split at h
    ·rename_i he;simp only[Bool.and_eq_true,Nat.beq_eq]at he;obtain⟨rfl,hge⟩:=he;have hge:=Nat.le_of_ble_eq_true hge;unfold af aD at hd;obtain⟨_,o,dg,hv⟩:=hd;rw[ho]at dg;cases dg;obtain⟨hlm,a0,asu,a',hr0,atS,rfl,ha'⟩:=hv c e' rfl;obtain⟨a,cap,hr,h2,h3,h4⟩:=hs.obj id _ ho;obtain⟨rfl,rfl⟩:=slice_inj (hr0.symm.trans hr);refine aE h (fun cL=> ?_) hn;obtain⟨h6,h7,_⟩:=cL;rcases h4 with h4|⟨b,o,cells,fr,us,rfl,h5,_⟩
     ·omega
     ·refine⟨.pointer (some ⟨b,o+lo*c.size+n.toNat*c.size,none⟩), ?_, ?_⟩
      ·rw[ha' (by omega)];simp only[Option.map_some,a8];exact gv ht bR h6 h7 w
      ·unfold af aD;refine⟨rfl,_,ho,fun c' e'' hc=> ?_⟩;cases hc;exact⟨by omega,by omega,b,o,c.n,cap,hr,by rw[Nat.add_mul,Nat.add_assoc];rfl⟩
    ·cases h
   ·cases h
  ·cases h
 ·rename_i k lit n len e l3 ht;obtain rfl:=b8 l3 hi;split at h
  ·rename_i sz id off bR;unfold af aD at hd;obtain⟨b,hb,rfl,de⟩:=hd;cases lit
   ·simp only[cond_false]at h;rw[Bool.cond_eq_ite]at h;split at h
    ·rename_i h1;have h1:sz=1:=by simpa using h1
     subst h1;refine aE h (fun cL=> ?_) hn;obtain⟨h6,h7,_⟩:=cL;exact⟨_,gw ht bR h6 h7 w,by unfold af aD;exact⟨by omega,b,hb,by simp,de⟩⟩
    ·cases h
   ·simp only[cond_true]at h;rw[Bool.cond_eq_ite]at h;split at h
    ·rename_i h1;simp only[Bool.and_eq_true,decide_eq_true_eq]at h1;exact aE h (fun _=>⟨_,gw ht bR h1.1 h1.2 w,by unfold af aD;exact⟨b,hb,rfl,de⟩⟩) hn
    ·cases h
  ·rename_i sz id i0 bR;simp only[RM.eval]at h;split at h
   ·rename_i c e' ho;rw[Bool.cond_eq_ite]at h;split at h
    ·rename_i he;simp only[Bool.and_eq_true,Nat.beq_eq]at he;obtain⟨rfl,hge⟩:=he;unfold af aD at hd;obtain⟨_,o,dg,hv⟩:=hd;rw[ho]at dg;cases dg;obtain⟨hi0,hc0,b,f,n',cap,hr,rfl⟩:=hv c e' rfl;refine aE h (fun cL=> ?_) hn;obtain⟨h6,h7,h8,_⟩:=cL;refine⟨_,gw ht bR h6 h7 w, ?_⟩;unfold af aD;refine⟨rfl,_,ho,fun c' e'' hc=> ?_⟩;cases hc;exact⟨by omega,by omega,b,f,n',cap,hr,by rw[Nat.add_mul];congr 3;omega⟩
    ·cases h
   ·cases h
  ·cases h
 ·cases h
theorem ad2{t:TypeId}{x i:AV}{vx vi:Value}{q:bH}(h:(aa6 P t x i).eval H=some q)(hn:bD q.need)(hd:af ρ H O w x vx)(hi:af ρ H O w i vi):
 eG P ρ H O w q (Instr.index t vx vi):=by
 unfold aa6 at h;split at h
 ·rename_i k lit n len e kk m ws l3 ht;obtain rfl:=b8 l3 hi;rw[Bool.cond_eq_ite]at h;split at h
  ·rename_i hc;simp only[Bool.and_eq_true,Nat.beq_eq]at hc;obtain⟨⟨rfl,om⟩,bR⟩:=hc;have amU:gq P e=some false:=by cases ha:gq P e with|none=>simp[ha]at om|some b=>simp[ha]at om;rw[om]
   have ad3:du P e=some 1:=by cases ha:du P e with|none=>simp[ha]at bR|some b=>simp[ha]at bR;rw[bR]
   unfold af at hd;obtain⟨hl,rfl⟩:=hd;refine aE h (fun cL=> ?_) hn;obtain⟨h6,h7,_⟩:=cL;have bm:n.toNat<ws.length:=by omega
   refine⟨.int kk (ws.getD n.toNat 0), ?_,az (.int _ _)⟩;simp[Instr.index,run_underlying ht,asIntOf,h6,h7,run_sizeOf ad3,part,gf amU,bm]
  ·cases h
 ·rename_i k lit n s l3 ht;obtain rfl:=b8 l3 hi;obtain rfl:=eV hd;refine aE h (fun cL=> ?_) hn;obtain⟨h6,h7,_⟩:=cL;have bm:n.toNat<s.size:=by omega
  refine⟨.int .u8 (aG s n.toNat), ?_,az (.int _ _)⟩
  have hb:s[n.toNat]? =some s.data[n.toNat]:=by
   simp only[getElem?,decidableGetElem?];rw[dif_pos bm];rfl
  have amV:n.toNat<s.data.size:=bm;simp[Instr.index,run_underlying ht,asIntOf,h6,hb,aG];rw[Array.getElem?_eq_getElem amV];rfl
 ·rename_i k lit n len e ao l3 ht;obtain rfl:=b8 l3 hi;rw[Bool.cond_eq_ite]at h;split at h
  ·rename_i hc;simp only[Bool.and_eq_true]at hc;obtain⟨om,bR⟩:=hc;have amU:gq P e=some false:=by cases ha:gq P e with|none=>simp[ha]at om|some b=>simp[ha]at om;rw[om]
   have ad3:du P e=some 1:=by cases ha:du P e with|none=>simp[ha]at bR|some b=>simp[ha]at bR;rw[bR]
   unfold af at hd;obtain⟨cs,rfl,acx⟩:=hd;split at h
   ·rename_i v hv;obtain⟨u,h4,h5,h6⟩:=ka ao _ hv acx;refine aE h (fun cL=>⟨u, ?_,h6⟩) hn;obtain⟨h7,h8,_⟩:=cL;simp[Instr.index,run_underlying ht,asIntOf,h7,h8,run_sizeOf ad3,part,gf amU,h4]
   ·cases h
  ·cases h
 ·cases h
theorem ad4{t:TypeId}{x:AV}{f:Nat}{vx:Value}{q:bH}(h:(aa7 P t x f).eval H=some q)(hn:bD q.need)(hd:af ρ H O w x vx):
 eG P ρ H O w q (Instr.field t vx f):=by
 unfold aa7 at h;split at h
 ·rename_i fs ao ht;unfold af at hd;obtain⟨cs,rfl,acx⟩:=hd;split at h
  ·rename_i fd hf;split at h
   ·rename_i sz bR om;split at h
    ·rename_i ss hss;simp only[Option.bind_eq_some_iff]at hss;obtain⟨s1,h4,h5⟩:=hss;obtain⟨h6,h7⟩:=e8 ao _ h4 acx;obtain⟨h8,h9⟩:=e9 s1 sz h5 h7;refine aE h (fun _=>⟨.agg ((cs.drop fd.offset).take sz).toArray, ?_,kb h9⟩) hn;simp[Instr.field,run_underlying ht,hf,asAgg,part,gf om,run_sizeOf bR,List.extract_eq_take_drop]
    ·cases h
   ·rename_i sz bR om;split at h
    ·rename_i v hv;obtain⟨u,h4,h5,h6⟩:=ka ao _ hv acx;refine aE h (fun _=>⟨u, ?_,h6⟩) hn;simp[Instr.field,run_underlying ht,hf,asAgg,part,gf om,h4]
    ·cases h
   ·cases h
  ·cases h
 ·cases h
theorem yD:∀{xs:List AV} {vs:List Value} {i:Nat} {x:AV},bI ρ H O w xs vs→xs[i]? =some x→∃v,vs[i]? =some v∧af ρ H O w x v
 |[],vs,i,x,_,hx=>by simp at hx
 |a::aJ,vs,i,x,h,hx=>by
  obtain⟨v,rest,rfl,h1,h2⟩:=aA.1 h;cases i with
  |zero=>simp at hx;subst hx;exact⟨v,rfl,h1⟩
  |succ i=>obtain⟨u,h3,h4⟩:=yD (i:=i) h2 (by simpa using hx);exact⟨u,by simpa using h3,h4⟩
theorem yE{x:AV}{i:Nat}{vx:Value}{q:bH}(h:(r7 x i).eval H=some q)(hn:bD q.need)(hd:af ρ H O w x vx):
 eG P ρ H O w q (Instr.extract vx i):=by
 unfold r7 at h;split at h
 ·rename_i vs;unfold af at hd;obtain⟨us,rfl,hl⟩:=hd;split at h
  ·rename_i v hv;obtain⟨u,h1,h2⟩:=yD hl hv;exact aE h (fun _=>⟨u,by simp[Instr.extract,h1],h2⟩) hn
  ·cases h
 ·cases h
theorem iL(hs:Sat ρ H G w){id:Nat}{c:aL}{e:TypeId}{v:Value}(ho:H id=some (.vec c e))(hd:af ρ H O w (.vec id) v):∃a cap,v=.slice a c.n cap∧ρ id=v∧c.n≤cap∧cap≤maxLen:=by
 unfold af aD at hd;obtain⟨_,o,dg,hv⟩:=hd;rw[ho]at dg;cases dg;obtain⟨a,cap,h1,h2,h3,_⟩:=hs.obj id _ ho;exact⟨a,cap,by rw[hv c e rfl,h1],(hv c e rfl).symm,h2,h3⟩
theorem ic(hs:Sat ρ H G w){id lo n:Nat}{c:aL}{e:TypeId}{v:Value}(ho:H id=some (.vec c e))(hd:af ρ H O w (.part id lo n) v):
 lo+n≤c.n∧∃a cap a',ρ id=.slice a c.n cap∧c.n≤cap∧cap≤maxLen∧v=.slice a' n (cap - lo)∧(cap≠lo→a'=a.map (·.add (lo*c.size)))∧(cap≠0→∃b o,a=some ⟨b,o,none⟩):=by
 unfold af aD at hd;obtain⟨_,o,dg,hv⟩:=hd;rw[ho]at dg;cases dg;obtain⟨h0,a,cap,a',h1,h2,h3,h4⟩:=hv c e rfl;obtain⟨a2,oH,g1,g2,g3,g4⟩:=hs.obj id _ ho;obtain⟨rfl,rfl⟩:=slice_inj (h1.symm.trans g1);refine⟨h0,_,_,a',h1,h2,g3,h3,h4,fun hc=> ?_⟩;rcases g4 with g4|⟨b,o,_,_,_,g5,_⟩
 ·exact absurd g4 hc
 ·exact⟨b,o,g5⟩
theorem ai6{t ty:TypeId}{ts:List TypeId}{x:AV}{vx:Value}{q:bH}(h:(amN P t x).eval H=some q)(hn:bD q.need)(hs:Sat ρ H G w)(hd:af ρ H O w x vx):
 eG P ρ H O w q (Builtin.len_ (t::ts).toArray ty #[vx]):=by
 unfold amN at h;split at h
 ·rename_i s ht;obtain rfl:=eV hd;exact aE h (fun _=>⟨_,by simp[Builtin.len_,run_underlying ht];rfl,az (.int _ _)⟩) hn
 ·rename_i n e ht;exact aE h (fun _=>⟨_,by cases vx<;>simp[Builtin.len_,run_underlying ht]<;>rfl,az (.aK _ _)⟩) hn
 ·rename_i e c ht;have hx:=ak (by simp) hd;cases hx;exact aE h (fun _=>⟨_,by simp[Builtin.len_,run_underlying ht];rfl,az (.int _ _)⟩) hn
 ·rename_i e c k ht;have hx:=ak (by simp) hd;cases hx with
  |wI _ _ a n cap h1 h2=>
   cases h1;exact aE h (fun _=>⟨_,by simp[Builtin.len_,run_underlying ht];rfl,az (.int _ _)⟩) hn
 ·rename_i e ht;unfold af at hd;obtain⟨a,rfl⟩:=hd;exact aE h (fun _=>⟨_,by simp[Builtin.len_,run_underlying ht];rfl,az (.aK _ _)⟩) hn
 ·rename_i e id ht;simp only[RM.eval]at h;split at h
  ·rename_i c e' ho;obtain⟨a,cap,rfl,_⟩:=iL hs ho hd;exact aE h (fun _=>⟨_,by simp[Builtin.len_,run_underlying ht];rfl,az (.int _ _)⟩) hn
  ·cases h
 ·rename_i e id lo n ht;simp only[RM.eval]at h;split at h
  ·rename_i c e' ho;obtain⟨_,a,cap,a',_,_,_,rfl,_⟩:=ic hs ho hd;exact aE h (fun _=>⟨_,by simp[Builtin.len_,run_underlying ht];rfl,az (.int _ _)⟩) hn
  ·cases h
 ·rename_i kt et id ht;simp only[RM.eval]at h;split at h
  ·rename_i ck m ho;unfold af aD at hd;obtain⟨b,hb,rfl,_⟩:=hd;obtain⟨b',es,clock,h1,h2,h3⟩:=hs.obj id _ ho;rw[hb]at h1;cases h1;have e1:(getObj b).run P w=.ok (.map es clock) w:=by simp[getObj,Sem.run,h2]
   have e2:es.size=m.length:=by have:=congrArg List.length h3.eq;simpa using this
   exact aE h (fun _=>⟨.int .i64 m.length,by simp[Builtin.len_,run_underlying ht,e1,e2];rfl,az (.int _ _)⟩) hn
  ·cases h
 ·cases h
theorem ai7{t ty:TypeId}{ts:List TypeId}{x:AV}{vx:Value}{q:bH}(h:(amO P t x).eval H=some q)(hn:bD q.need)(hs:Sat ρ H G w)(hd:af ρ H O w x vx):
 eG P ρ H O w q (Builtin.cap_ (t::ts).toArray ty #[vx]):=by
 unfold amO at h;split at h
 ·rename_i e c k ht;have hx:=ak (by simp) hd;cases hx with
  |wI _ _ a n cap h1 h2=>exact aE h (fun _=>⟨_,by simp[Builtin.cap_,run_underlying ht];rfl,az (.nr _ _ (by omega))⟩) hn
 ·rename_i e id ht;simp only[RM.eval]at h;split at h
  ·rename_i c e' ho;obtain⟨a,cap,rfl,_,hle,_⟩:=iL hs ho hd;exact aE h (fun _=>⟨_,by simp[Builtin.cap_,run_underlying ht];rfl,az (.lF _ _ (by omega))⟩) hn
  ·cases h
 ·rename_i e id lo n ht;simp only[RM.eval]at h;split at h
  ·rename_i c e' ho;obtain⟨_,a,cap,a',_,hle,_,rfl,_⟩:=ic hs ho hd;exact aE h (fun _=>⟨_,by simp[Builtin.cap_,run_underlying ht];rfl,az (.lF _ _ (by omega))⟩) hn
  ·cases h
 ·cases h
theorem nw(op:BinOp)(t:TypeId)(x y:Operand)(a b:Option Addr)(n c m d:Nat):(eqGuard op t x y (.slice a n c) (.slice b m d)).run P w=.ok () w:=by
 cases op<;>simp[eqGuard]
theorem ai8{op:BinOp}{t:TypeId}{x:AV}{ox oy:Operand}{vx vy:Value}{q:bH}(h:(amQ P op t x).eval H=some q)(hn:bD q.need)(hs:Sat ρ H G w)
 (hx:af ρ H O w x vx) (hy:vy=.slice none 0 0):eG P ρ H O w q (do eqGuard op t ox oy vx vy;binOp op t vx vy:Sem Value):=by
 subst hy
 have key:∀e,P.underlying t=some (.slice e)→(op=.eql∨op=.neq)→∀a n c n',vx=.slice a n c→(a=none→n'=0)→(plain [] (.s (.kJ n' (oC op)))).eval H=some q→eG P ρ H O w q (do eqGuard op t ox oy vx (.slice none 0 0);binOp op t vx (.slice none 0 0):Sem Value):=by
  rintro e ht uy a n c n' rfl ha h;refine aE h (fun _=> ?_) hn;rcases uy with rfl|rfl
  ·exact⟨.bool a.isNone,by simp[nw,Lib.run_eql_slice_nil w t e a n c 0 0 ht],az (.kJ _ _ _ (fun e=>ha (by simpa[oC]using e)))⟩
  ·exact⟨.bool (!a.isNone),by simp[nw,run_neq_slice_nil_any w t e a n c 0 0 ht],az (.kJ _ _ _ (fun e=>ha (by simpa[oC]using e)))⟩
 have ai9:∀x,af ρ H O w x vx→(op=.eql∨op=.neq)→(match P.underlying t with
  |some (.slice _)=>
   match x with
   |.s (.ro c)=>plain [] (.s (.kJ c.n (oC op)))
   |.emp=>plain [] (.s (.kJ 0 (oC op)))
   |.vec id=>.look id fun o=>match o with
    |some (.vec c _)=>plain [] (.s (.kJ c.n (oC op)))
    |_=>.fail "== nil: no row"
   |_=>.fail "== nil"
  |_=>.fail "== nil: the type" :RM bH).eval H=some q→eG P ρ H O w q (do eqGuard op t ox oy vx (.slice none 0 0);binOp op t vx (.slice none 0 0):Sem Value):=by
  intro x hx uy h;split at h
  ·rename_i e ht;split at h
   ·have h1:=ak (by simp) hx;cases h1 with
    |ro c a cap us b o q1 q2 q3 q4 q5=>exact key e ht uy _ _ _ _ rfl (fun ha=>Decidable.byContradiction fun hn0=>by have:=(q3 (Nat.pos_of_ne_zero hn0)).1;rw[ha]at this;cases this) h
   ·unfold af at hx;obtain⟨a,rfl⟩:=hx;exact key e ht uy _ _ _ _ rfl (fun _=>rfl) h
   ·simp only[RM.eval]at h;split at h
    ·rename_i ho;obtain⟨a,cap,rfl,dK,hle,_⟩:=iL hs ho hx;refine key e ht uy _ _ _ _ rfl (fun ha=> ?_) h;obtain⟨a2,oH,afN,_,_,h3⟩:=hs.obj _ _ ho;rw[dK]at afN;cases afN;rcases h3 with h3|⟨_,_,_,_,_,h3,_⟩
     ·omega
     ·rw[ha]at h3;cases h3
    ·cases h
   ·cases h
  ·cases h
 unfold amQ at h;split at h
 ·exact ai9 x hx (.inl rfl) h
 ·exact ai9 x hx (.inr rfl) h
 ·cases h
theorem abi{op:BinOp}{t:TypeId}{x y:AV}{ox oy:Operand}{vx vy:Value}{q:bH}(h:(wP op x y).eval H=some q)(hn:bD q.need)
 (hx:af ρ H O w x vx) (hy:af ρ H O w y vy):eG P ρ H O w q (do eqGuard op t ox oy vx vy;binOp op t vx vy:Sem Value):=by
 unfold wP at h;split at h
 ·rename_i l a b h1;obtain rfl:=b8 h1 hx;have hy:=ak (by simp) hy;cases hy with
  |lF _ n hge=>
   refine aE h (fun cL=> ?_) hn;obtain⟨h3,_⟩:=cL;refine⟨.bool false, ?_,az (.aC _)⟩;have:¬a>n:=by omega
   simp[ga,binOp,Op.intCmp,this]
 ·rename_i l a b h1;obtain rfl:=b8 h1 hx;have hy:=ak (by simp) hy;cases hy with
  |nr _ n bm=>
   refine aE h (fun cL=> ?_) hn;obtain⟨h3,_⟩:=cL;refine⟨.bool true, ?_,az (.aC _)⟩;have:a>n:=by omega
   simp[ga,binOp,Op.intCmp,this]
 ·cases h
theorem kc{x:AV}{v:Value}(h:af ρ H O w x v):af ρ H O w (nu x) v:=by
 unfold nu;split
 ·have h1:=ak (by simp) h;cases h1;unfold af;exact⟨none,rfl⟩
 ·exact h
theorem afO{x:AV}{v:Value}(h:af ρ H O w x v)(hx:abe x=true):v=.slice none 0 0:=by
 unfold abe at hx;split at hx
 ·have h1:=ak (by simp) h;cases h1;rfl
 ·cases hx
theorem acy{ts:Array TypeId}{ty:TypeId}{mx:Bool}{x y:AV}{vx vy:Value}{q:bH}(h:(ai0 mx x y).eval H=some q)(hn:bD q.need)(hx:af ρ H O w x vx)(hy:af ρ H O w y vy):
 eG P ρ H O w q (if mx then Builtin.max_ ts ty #[vx,vy]else Builtin.min_ ts ty #[vx,vy]):=by
 unfold ai0 at h;split at h
 ·rename_i k lx a k' ly b h1 h2;obtain rfl:=b8 h1 hx;obtain rfl:=b8 h2 hy;rw[Bool.cond_eq_ite]at h;split at h
  ·rename_i hk;obtain rfl:=bd hk;cases mx
   ·exact aE h (fun _=>⟨_,by simp[run_min_int2,nN],fZ _ _ _⟩) hn
   ·exact aE h (fun _=>⟨_,by simp[run_max_int2,imax],fZ _ _ _⟩) hn
  ·cases h
 ·cases h
theorem wY{x:AV}{vx:Value}{q:bH}(h:(pU x).eval H=some q)(hn:bD q.need)(hd:af ρ H O w x vx)(e:Operand→Value)(o:Oper)(y:Operand)(ho:o.op=.nilCheck y)(he:e y=vx):
 q.up=[]∧q.new=[]∧(execOp e o).run P w=.ok (.value vx) w∧∀base,af ρ H O w (q.r base) vx:=by
 have fin:∀r,(plain [] r).eval H=some q→r=x→(execOp e o).run P w=.ok (.value vx) w→q.up=[]∧q.new=[]∧(execOp e o).run P w=.ok (.value vx) w∧∀base,af ρ H O w (q.r base) vx:=by
  intro r hr hx gT;simp only[plain,RM.eval,Option.some.injEq]at hr;subst hr;subst hx;exact⟨rfl,rfl,gT,fun _=>hd⟩
 unfold pU at h;split at h
 ·unfold af aD at hd;obtain⟨b,_,rfl,_⟩:=hd;exact fin _ h rfl (by simp[execOp,ho,he])
 ·unfold af aD at hd;obtain⟨_,b,_,rfl,_⟩:=hd;exact fin _ h rfl (by simp[execOp,ho,he])
 ·unfold af aD at hd;obtain⟨b,o',us,rfl,_⟩:=hd;exact fin _ h rfl (by simp[execOp,ho,he])
 ·unfold af at hd;obtain⟨vs,rfl,_⟩:=hd;exact fin _ h rfl (by simp[execOp,ho,he])
 ·have h1:=ak (by simp) hd;cases h1;exact fin _ h rfl (by simp[execOp,ho,he])
 ·cases h
theorem wZ{fn:Fn}{first da:List AV}{vf vc:List Value}{q:bH}(h:(pV fn first da).eval H=some q)(hn:bD q.need)(hf:bI ρ H O w first vf)(hc:bI ρ H O w da vc):
 eG P ρ H O w q (Instr.makeFunc fn vf.toArray vc.toArray):=by
 unfold pV at h;split at h
 ·rename_i f;obtain rfl:=aU.1 hf;obtain rfl:=aU.1 hc;exact aE h (fun _=>⟨_,rfl,az (.j8 f)⟩) hn
 ·rename_i f c cs;obtain rfl:=aU.1 hf;exact aE h (fun _=>⟨_,rfl,by unfold af;exact⟨vc,rfl,hc⟩⟩) hn
 ·rename_i f c cs;obtain rfl:=aU.1 hc;exact aE h (fun _=>⟨_,rfl,by unfold af;exact⟨vf,rfl,hf⟩⟩) hn
 ·cases h
end
end Go.Sx
namespace Go.Sx
open Go
section
variable{ρ aF:Nat→Value}{H H':aM}{G O O':Nat→Prop}{w w':World}{P:Program}
def l4(ρ:Nat→Value)(H:aM)(O:Nat→Prop)(w:World):Option AV→Option Value→Prop
 |none,none=>True
 |some a,some v=>af ρ H O w a v
 |_,_=>False
theorem cz{d n:Int}{o:Option AV}{vo:Option Value}(h:fY d o=some n)(hd:l4 ρ H O w o vo):(vo=none∧n=d)∨∃k,vo=some (.int k n):=by
 cases o with
 |none=>
  cases vo with
  |none=>simp only[fY,Option.some.injEq]at h;exact .inl ⟨rfl,h.symm⟩
  |some v=>exact hd.elim
 |some a=>
  cases vo with
  |none=>exact hd.elim
  |some v=>
   simp only[fY,Option.map_eq_some_iff]at h;obtain⟨⟨k,l,m⟩,h1,rfl⟩:=h;exact .inr ⟨k,by rw[b8 h1 hd]⟩
theorem mW(c:aL){l h:Nat}(_hl:l≤h)(hh:h≤c.n):(dq c l h).n=h - l:=by
 cases c<;>simp only[dq,aL.n,List.length_drop,List.length_take]at * <;>omega
theorem iM(c:aL)(l h:Nat):(dq c l h).size=c.size:=by cases c<;>rfl
theorem afP{α:Type}(zs:List α)(d:α){l h i:Nat}(hi:i<h - l):((zs.take h).drop l).getD i d=zs.getD (l+i) d:=by
 simp only[List.getD,List.getElem?_drop,List.getElem?_take];rw[if_pos (by omega)]
theorem iN(c:aL){l h i:Nat}(j:Nat)(hi:i<h - l):(dq c l h).cell i j=c.cell (l+i) j:=by
 cases c<;>simp only[dq,aL.cell,afP _ _ hi]
theorem yF{s:ByteArray}{lo hi:Option Value}{l h:Int}(hl:(lo=none∧l=0)∨∃k,lo=some (.int k l))(hh:(hi=none∧h=(s.size:Int))∨∃k,hi=some (.int k h))
 (h0:0≤l) (h1:l≤h) (h2:h≤s.size) {t:TypeId} (ht:P.underlying t=some .string) (w:World):
 (Instr.sliceAt t (.string s) lo hi none).run P w=.ok (.string (s.extract l.toNat h.toNat)) w:=by
 have hle:l≤((h.toNat:Nat):Int):=by omega
 rcases hl with⟨rfl,rfl⟩|⟨k,rfl⟩<;>rcases hh with⟨rfl,rfl⟩|⟨k',rfl⟩
 ·simp[Instr.sliceAt,Instr.slice,run_underlying ht,Instr.sliceBounds]
 ·simp[Instr.sliceAt,Instr.slice,run_underlying ht,Instr.sliceBounds,run_sliceBound _ _ _ _ _ h1 h2]
 ·simp[Instr.sliceAt,Instr.slice,run_underlying ht,Instr.sliceBounds,run_sliceBound _ _ _ _ _ h0 h1]
 ·simp[Instr.sliceAt,Instr.slice,run_underlying ht,Instr.sliceBounds,run_sliceBound _ _ _ _ _ (show 0≤h by omega) h2,run_sliceBound _ _ _ _ _ h0 hle]
theorem ke{a:Option Addr}{n cap:Nat}{lo hi:Option Value}{l h:Int}(hl:(lo=none∧l=0)∨∃k,lo=some (.int k l))(hh:(hi=none∧h=(n:Int))∨∃k,hi=some (.int k h))
 (h0:0≤l) (h1:l≤h) (h2:h≤cap) {t e:TypeId} (ht:P.underlying t=some (.slice e)) {sz:Nat} (hs:du P e=some sz) (w:World):
 (Instr.sliceAt t (.slice a n cap) lo hi none).run P w=.ok (.slice (if cap=l.toNat then a else a.map (·.add (l.toNat*sz))) (h.toNat - l.toNat) (cap - l.toNat)) w:=by
 have hle:l≤((h.toNat:Nat):Int):=by omega
 rcases hl with⟨rfl,rfl⟩|⟨k,rfl⟩<;>rcases hh with⟨rfl,rfl⟩|⟨k',rfl⟩
 ·simp[Instr.sliceAt,Instr.slice,run_underlying ht,Instr.sliceBounds,run_sizeOf hs]
 ·simp[Instr.sliceAt,Instr.slice,run_underlying ht,Instr.sliceBounds,run_sliceBound _ _ _ _ _ h1 h2,run_sizeOf hs]
 ·simp[Instr.sliceAt,Instr.slice,run_underlying ht,Instr.sliceBounds,run_sliceBound _ _ _ _ _ h0 h1,run_sizeOf hs]
 ·simp[Instr.sliceAt,Instr.slice,run_underlying ht,Instr.sliceBounds,run_sliceBound _ _ _ _ _ (show 0≤h by omega) h2,run_sliceBound _ _ _ _ _ h0 hle,run_sizeOf hs]
theorem qM{b o n:Nat}{lo hi:Option Value}{l h:Int}(hl:(lo=none∧l=0)∨∃k,lo=some (.int k l))(hh:(hi=none∧h=(n:Int))∨∃k,hi=some (.int k h))
 (h0:0≤l) (h1:l≤h) (h2:h≤n) {t e:TypeId} (ht:P.underlying t=some (.array n e)) (hs:du P e=some 1) (w:World):
 ∃a,(Instr.sliceAt t (.pointer (some ⟨b,o,none⟩)) lo hi none).run P w=.ok (.slice a (h.toNat - l.toNat) (n - l.toNat)) w∧(h.toNat - l.toNat≠0→a=some ⟨b,o+l.toNat,none⟩):=by
 have hle:l≤((h.toNat:Nat):Int):=by omega
 refine⟨some (if n=l.toNat then⟨b,o,none⟩else(⟨b,o,none⟩:Addr).add (l.toNat*1)), ?_,fun cL=>by rw[if_neg (by omega),a8,Nat.mul_one]⟩;rcases hl with⟨rfl,rfl⟩|⟨k,rfl⟩<;>rcases hh with⟨rfl,rfl⟩|⟨k',rfl⟩
 ·simp[Instr.sliceAt,Instr.sureAddr,run_underlying ht,Instr.sliceBounds,run_sizeOf hs]
 ·simp[Instr.sliceAt,Instr.sureAddr,run_underlying ht,Instr.sliceBounds,run_sliceBound _ _ _ _ _ h1 h2,run_sizeOf hs]
 ·simp[Instr.sliceAt,Instr.sureAddr,run_underlying ht,Instr.sliceBounds,run_sliceBound _ _ _ _ _ h0 h1,run_sizeOf hs]
 ·simp[Instr.sliceAt,Instr.sureAddr,run_underlying ht,Instr.sliceBounds,run_sliceBound _ _ _ _ _ (show 0≤h by omega) h2,run_sliceBound _ _ _ _ _ h0 hle,run_sizeOf hs]
theorem abj{c:aL}{v:Value}(hx:aT O w (.ro c) v){l h:Nat}(hl:l≤h)(hh:h≤c.n):∃a cap,v=.slice a c.n cap∧c.n≤cap∧
 ∀sz,sz=c.size→aT O w (.ro (dq c l h)) (.slice (if cap=l then a else a.map (·.add (l*sz))) (h - l) (cap - l)):=by
 cases hx with
 |ro _ a cap us b o h1 h2 h3 h4 h5=>
  refine⟨a,cap,rfl,h1, ?_⟩;rintro sz rfl;have hn:=mW c hl hh;have bR:=iM c l h;have key:=aT.ro (O:=O) (w:=w) (dq c l h) (if cap=l then a else a.map (·.add (l*c.size))) (cap - l) (fun i j=>us (l+i) j) b (o+l*c.size) (by omega) (by omega)
   (fun h0=>by
     obtain⟨rfl,h6,h7⟩:=h3 (by omega);refine⟨?_,h6,h7⟩;rw[if_neg (by omega)];simp only[Option.map_some,a8])
   (fun i j hi hj=>by
     rw[hn]at hi;rw[bR]at hj ⊢;have:=h4 (l+i) j (by omega) hj;rw[show o+l*c.size+i*c.size+j=o+(l+i)*c.size+j from by rw[Nat.add_mul];omega];exact this)
   (fun i j hi hj=>by
     rw[hn]at hi;rw[bR]at hj;rw[iN c j hi];exact h5 _ _ (by omega) hj)
  rw[hn]at key;exact key
theorem afQ(a:Option Addr)(hf:∃b o,a=some ⟨b,o,none⟩)(x y:Nat):(a.map (·.add x)).map (·.add y)=a.map (·.add (x+y)):=by
 obtain⟨b,o,rfl⟩:=hf;simp only[Option.map_some,a8,Nat.add_assoc]
theorem yG{t e e':TypeId}{c:aL}{id lo0 n:Nat}{lo hi mx:Option AV}{vlo vhi uL:Option Value}{q:bH}(h:(acv P e c id lo0 n lo hi mx).eval H=some q)(hn:bD q.need)
 (ht:P.underlying t=some (.slice e)) (ho:H id=some (.vec c e')) {a a':Option Addr} {cap:Nat} (hr:ρ id=.slice a c.n cap) (uM:c.n≤cap) (hln:lo0+n≤c.n) (ha':cap≠lo0→a'=a.map (·.add (lo0*c.size)))
 (hf:cap≠0→∃b o,a=some ⟨b,o,none⟩) (hlo:l4 ρ H O w lo vlo) (hhi:l4 ρ H O w hi vhi) (hmx:l4 ρ H O w mx uL):
 eG P ρ H O w q (Instr.sliceAt t (.slice a' n (cap - lo0)) vlo vhi uL):=by
 unfold acv at h;split at h
 ·rename_i sz bR;rw[Bool.cond_eq_ite]at h;split at h
  ·rename_i hz;have hz:sz=c.size:=by simpa using hz
   subst hz;split at h
   ·obtain rfl:uL=none:=by cases uL<;>first|rfl|exact hmx.elim
    split at h
    ·rename_i l hh h1 h2;refine aE h (fun cL=> ?_) hn;obtain⟨h3,h4,h5,_⟩:=cL;refine⟨_,ke (cz h1 hlo) (cz h2 hhi) h3 h4 (by omega) ht bR w, ?_⟩;unfold af aD;refine⟨rfl,_,ho,fun c' e'' hc=> ?_⟩;cases hc;refine⟨by omega,a,cap,_,hr,uM,by rw[Nat.sub_sub],fun cL=> ?_⟩;have hc0:cap≠lo0:=by omega
     rw[if_neg (by omega),ha' hc0,afQ _ (hf (by omega)),Nat.add_mul]
    ·cases h
   ·rename_i m;split at h
    ·rename_i l kh lh hh km lm m' h1 h2 h3;refine aE h (fun cL=> ?_) hn;obtain⟨g1,g2,g3,g4,_⟩:=cL;simp only[Option.bind_eq_some_iff]at h2;obtain⟨ha,rfl,h2⟩:=h2;cases uL with
     |none=>exact hmx.elim
     |some vm=>
      cases vhi with
      |none=>exact hhi.elim
      |some vh=>
       obtain rfl:=b8 h3 hmx;obtain rfl:=b8 h2 hhi;have e1:m'≤(((cap - lo0:Nat):Int)):=by omega
       have e2:hh≤((m'.toNat:Nat):Int):=by omega
       have e3:l≤((hh.toNat:Nat):Int):=by omega
       rcases cz h1 hlo with⟨rfl,rfl⟩|⟨k1,rfl⟩
       ·exact⟨_,by simp[Instr.sliceAt,Instr.slice,run_underlying ht,Instr.sliceBounds,run_sliceBound _ _ _ _ _ (show 0≤m' by omega) e1,run_sliceBound _ _ _ _ _ (show 0≤hh by omega) e2,run_sizeOf bR];rfl,by unfold af;trivial⟩
       ·exact⟨_,by simp[Instr.sliceAt,Instr.slice,run_underlying ht,Instr.sliceBounds,run_sliceBound _ _ _ _ _ (show 0≤m' by omega) e1,run_sliceBound _ _ _ _ _ (show 0≤hh by omega) e2,run_sliceBound _ _ _ _ _ g1 e3,run_sizeOf bR];rfl,by unfold af;trivial⟩
    ·cases h
  ·cases h
 ·cases h
theorem ad5(hs:Sat ρ H G w){t:TypeId}{x:AV}{lo hi mx:Option AV}{vx:Value}{vlo vhi uL:Option Value}{q:bH}(h:(abc P t x lo hi mx).eval H=some q)(hn:bD q.need)
 (hd:af ρ H O w x vx) (hlo:l4 ρ H O w lo vlo) (hhi:l4 ρ H O w hi vhi) (hmx:l4 ρ H O w mx uL):
 eG P ρ H O w q (Instr.sliceAt t vx vlo vhi uL):=by
 unfold abc at h;split at h
 ·rename_i s ht;obtain rfl:=eV hd;split at h
  ·rename_i l hh h1 h2;obtain rfl:uL=none:=by cases uL<;>first|rfl|exact hmx.elim
   refine aE h (fun cL=> ?_) hn;obtain⟨h3,h4,h5,_⟩:=cL;exact⟨_,yF (cz h1 hlo) (cz h2 hhi) h3 h4 h5 ht w,az (.str _)⟩
  ·cases h
 ·rename_i e ht;unfold af at hd;obtain⟨a,rfl⟩:=hd;split at h
  ·rename_i sz l hh bR h1 h2;obtain rfl:uL=none:=by cases uL<;>first|rfl|exact hmx.elim
   refine aE h (fun cL=> ?_) hn;obtain⟨rfl,rfl,_⟩:=cL;exact⟨_,ke (cz h1 hlo) (cz h2 hhi) (by omega) (by omega) (by omega) ht bR w,by unfold af;exact⟨a,by simp⟩⟩
  ·cases h
 ·rename_i e c ht;have hx:=ak (by simp) hd;split at h
  ·rename_i sz bR;rw[Bool.cond_eq_ite]at h;split at h
   ·rename_i hz;have hz:sz=c.size:=by simpa using hz
    split at h
    ·obtain rfl:uL=none:=by cases uL<;>first|rfl|exact hmx.elim
     split at h
     ·rename_i l hh h1 h2;refine aE h (fun cL=> ?_) hn;obtain⟨h3,h4,h5,_⟩:=cL;obtain⟨a,cap,rfl,hle,afR⟩:=abj hx (l:=l.toNat) (h:=hh.toNat) (by omega) (by omega);exact⟨_,ke (cz h1 hlo) (cz h2 hhi) h3 h4 (by omega) ht bR w,az (afR sz hz)⟩
     ·cases h
    ·rename_i m;split at h
     ·rename_i l kh lh hh km lm m' h1 h2 h3;refine aE h (fun cL=> ?_) hn;obtain⟨rfl,rfl,rfl,_⟩:=cL;simp only[Option.bind_eq_some_iff]at h2;obtain⟨ha,rfl,h2⟩:=h2;cases uL with
      |none=>exact hmx.elim
      |some vm=>
       cases vhi with
       |none=>exact hhi.elim
       |some vh=>
        obtain rfl:=b8 h3 hmx;obtain rfl:=b8 h2 hhi;cases hx with
        |ro _ a cap us b o g1 g2 g3 g4 g5=>
         refine⟨.slice a 0 0, ?_,by unfold af;exact⟨a,rfl⟩⟩
         have hb:∀(k:IntKind) (y:Nat) (code:BoundsCode) (w:World),(Instr.sliceBound (.int k 0) y code).run P w=.ok 0 w:=fun k y code w=>by
          rw[run_sliceBound _ _ _ _ _ (by omega) (by omega)];rfl
         rcases cz h1 hlo with⟨rfl,_⟩|⟨k1,rfl⟩
         ·simp[Instr.sliceAt,Instr.slice,run_underlying ht,Instr.sliceBounds,hb,run_sizeOf bR]
         ·simp[Instr.sliceAt,Instr.slice,run_underlying ht,Instr.sliceBounds,hb,run_sizeOf bR]
     ·cases h
   ·cases h
  ·cases h
 ·rename_i e c k ht;have hx:=ak (by simp) hd
  obtain⟨a0,n0,asu,rfl,hx,bm⟩:∃a n cap,vx=.slice a n cap∧aT O w (.ro c) vx∧cap<k:=by
   cases hx with
   |wI _ _ a n cap h1 h2=>exact⟨a,n,cap,rfl,h1,h2⟩
  split at h
  ·rename_i sz bR;rw[Bool.cond_eq_ite]at h;split at h
   ·rename_i hz;have hz:sz=c.size:=by simpa using hz
    obtain rfl:uL=none:=by cases uL<;>first|rfl|exact hmx.elim
    split at h
    ·rename_i hh h2;obtain rfl:vlo=none:=by cases vlo<;>first|rfl|exact hlo.elim
     refine aE h (fun cL=> ?_) hn;obtain⟨h4,h5,_⟩:=cL;obtain⟨a,cap,e0,hle,afR⟩:=abj hx (l:=0) (h:=hh.toNat) (by omega) (by omega);cases e0;have hd2:=afR sz hz;exact⟨_,ke (l:=0) (.inl ⟨rfl,rfl⟩) (cz h2 hhi) (by omega) h4 (by omega) ht bR w,az (.wI _ _ _ _ _ hd2 (by omega))⟩
    ·rename_i l hh h2;split at h
     ·rename_i kl ll l' h1;refine aE h (fun cL=> ?_) hn;obtain⟨h3,h4,h5,_⟩:=cL;obtain⟨a,cap,e0,hle,afR⟩:=abj hx (l:=l'.toNat) (h:=hh.toNat) (by omega) (by omega);cases e0;have h1':fY 0 (some l)=some l':=by simp[fY,h1]
      exact⟨_,ke (cz h1' hlo) (cz h2 hhi) h3 h4 (by omega) ht bR w,az (afR sz hz)⟩
     ·cases h
    ·cases h
   ·cases h
  ·cases h
 ·rename_i e id ht;simp only[RM.eval]at h;split at h
  ·rename_i c e' ho;obtain⟨a,cap,rfl,hr,hle,_⟩:=iL hs ho hd;have dQ:=hs.obj id _ ho;rw[hr]at dQ;obtain⟨a2,oH,g1,_,_,g4⟩:=dQ;cases g1
   have hf:cap≠0→∃b o,a=some ⟨b,o,none⟩:=fun hc=>by
    rcases g4 with g4|⟨b,o,_,_,_,g5,_⟩
    ·exact absurd g4 hc
    ·exact⟨b,o,g5⟩
   have:=yG (a':=a) h hn ht ho hr hle (by omega) (fun hc=>by
    obtain⟨b,o,rfl⟩:=hf hc;simp[a8]) hf hlo hhi hmx
   simpa using this
  ·cases h
 ·rename_i e id lo0 n ht;simp only[RM.eval]at h;split at h
  ·rename_i c e' ho;obtain⟨h0,a,cap,a',h1,h2,h3,rfl,h4,h5⟩:=ic hs ho hd;exact yG h hn ht ho h1 h2 h0 h4 h5 hlo hhi hmx
  ·cases h
 ·rename_i n e id off ht;split at h
  ·rename_i sz l hh bR h1 h2;obtain rfl:uL=none:=by cases uL<;>first|rfl|exact hmx.elim
   rw[Bool.cond_eq_ite]at h;split at h
   ·rename_i h1s;obtain rfl:sz=1:=by simpa using h1s
    unfold af aD at hd;obtain⟨b,hb,rfl,hi⟩:=hd;refine aE h (fun cL=> ?_) hn;obtain⟨h3,h4,h5,_⟩:=cL;obtain⟨a,e1,e2⟩:=qM (b:=b) (o:=off) (cz h1 hlo) (cz h2 hhi) h3 h4 h5 ht bR w;refine⟨_,e1, ?_⟩;unfold af aD;exact⟨rfl,b,a,_,hb,rfl,e2,hi⟩
   ·cases h
  ·cases h
 ·rename_i n e id i j ht;split at h
  ·rename_i sz l hh bR h1 h2;obtain rfl:uL=none:=by cases uL<;>first|rfl|exact hmx.elim
   simp only[RM.eval]at h;split at h
   ·rename_i c e' ho;rw[Bool.cond_eq_ite]at h;split at h
    ·rename_i h1s;simp only[Bool.and_eq_true,Nat.beq_eq]at h1s;obtain⟨rfl,hjn⟩:=h1s;have hjn:=Nat.le_of_ble_eq_true hjn;unfold af aD at hd;obtain⟨h0,o,dg,hv⟩:=hd;rw[ho]at dg;cases dg;obtain⟨g1,g2,b,f,n',cap,g3,rfl⟩:=hv c e' rfl;refine aE h (fun cL=> ?_) hn;obtain⟨h3,h4,h5,_⟩:=cL;obtain⟨a,e1,e2⟩:=qM (b:=b) (o:=f+i*c.size+j) (cz h1 hlo) (cz h2 hhi) h3 h4 h5 ht bR w;refine⟨_,e1, ?_⟩;unfold af aD;refine⟨rfl,_,ho,fun c2 e2' hc=> ?_⟩;cases hc;exact⟨g1,by omega,b,f,n',cap,a,_,g3,rfl,fun hz=>by rw[e2 hz,Nat.add_assoc]⟩
    ·cases h
   ·cases h
  ·cases h
 ·cases h
theorem w4(zs:List Int):∀(l:List Value) (s:ByteArray) (w:World),l=zs.map (Value.int .u8)→
 (forIn (m:=Sem) l s fun c s=>do
   match c with
   |.int .u8 n=>pure (ForInStep.yield (s.push (UInt8.ofNat n.toNat)))
   |_=>do
    stuck "bytesToString: byte expected"
    pure (ForInStep.yield s)).run P w=.ok ⟨s.data++(zs.map fun n=>UInt8.ofNat n.toNat).toArray⟩ w:=by
 induction zs with
 |nil=>intro l s w h;subst h;simp
 |cons z zs ih=>
  intro l s w h;subst h;simp only[List.map_cons,List.forIn_cons,Sem.run_bind,Sem.run_pure,Result.andThen_ok];rw[ih _ _ _ rfl];congr 2;simp[ByteArray.push]
def nS(O:Nat→Prop)(w:World)(c:aL)(v:Value):Prop:=
 ∃(a:Option Addr) (cap:Nat) (us:Nat→Nat→Value),v=.slice a c.n cap∧c.n≤cap∧cap≤maxLen∧(0<c.n→∃b o,a=some ⟨b,o,none⟩∧b<w.heap.size∧
  ∀i j,i<c.n→j<c.size→w.cell? ⟨b,o+i*c.size+j,none⟩=some (us i j)∧aT O w (c.cell i j) (us i j))
theorem sq(sh:Shape)(size:Nat):(afH sh size).n=0:=by cases sh<;>rfl
theorem sr{sh:Shape}{size:Nat}{x:AV}{k:aL→Option Nat→RM bH}{v:Value}{q:bH}(h:(rowOf sh size x k).eval H=some q)(hs:Sat ρ H G w)(hd:af ρ H (aP ρ H G) w x v):
 ∃c idy,(k c idy).eval H=some q∧nS (aP ρ H G) w c v:=by
 unfold rowOf at h;split at h
 ·split at h
  ·rename_i c;have hx:=ak (by simp) hd;cases hx with
   |ro _ a cap us b o g1 g2 g3 g4 g5=>
    refine⟨c,none,h,a,cap,us,rfl,g1,g2,fun h0=> ?_⟩;obtain⟨rfl,_,h2⟩:=g3 h0;exact⟨b,o,rfl,h2,fun i j hi hj=>⟨g4 i j hi hj,g5 i j hi hj⟩⟩
  ·cases h
 ·unfold af at hd;obtain⟨a,rfl⟩:=hd;exact⟨_,none,h,a,0,fun _ _=>undef,by rw[sq],by rw[sq];exact Nat.le_refl _,by simp[maxLen],by rw[sq];omega⟩
 ·rename_i id;simp only[RM.eval]at h;split at h
  ·rename_i c e ho;refine⟨c,some id,h, ?_⟩;unfold af aD at hd;obtain⟨_,o,dg,hv⟩:=hd;rw[ho]at dg;cases dg;obtain rfl:=hv c e rfl;obtain⟨a,cap,h1,h2,h3,h4⟩:=hs.obj id _ ho;rcases h4 with rfl|⟨b,o,cells,fr,us,rfl,h5,h6,h7,h8⟩
   ·exact⟨a,0,fun _ _=>undef,h1,h2,h3,fun h0=>by omega⟩
   ·refine⟨_,cap,us,h1,h2,h3,fun _=>⟨b,o,rfl,(Array.getElem?_eq_some_iff.1 h5).1,fun i j hi hj=> ?_⟩⟩;obtain⟨h9,w5⟩:=h8 i j hi hj;exact⟨by rw[dc h5];exact h9,w5⟩
  ·cases h
 ·rename_i id lo n;simp only[RM.eval]at h;split at h
  ·rename_i c e ho;refine⟨_,some id,h, ?_⟩;obtain⟨g0,a,cap,a',g1,g2,g3,rfl,g4,g5⟩:=ic hs ho hd;have hn:(dq c lo (lo+n)).n=n:=by rw[mW c (by omega) g0];omega
   have bR:=iM c lo (lo+n);obtain⟨a2,oH,k1,k2,k3,k4⟩:=hs.obj id _ ho;rw[g1]at k1;cases k1;rcases k4 with rfl|⟨b,o,cells,fr,us,rfl,h5,h6,h7,h8⟩
   ·exact⟨a',0 - lo,fun _ _=>undef,by rw[hn],by rw[hn];omega,by omega,fun h0=>by rw[hn]at h0;omega⟩
   ·refine⟨a',cap - lo,fun i j=>us (lo+i) j,by rw[hn],by rw[hn];omega,by omega,fun h0=> ?_⟩;rw[hn]at h0;refine⟨b,o+lo*c.size,by rw[g4 (by omega)];simp[a8],(Array.getElem?_eq_some_iff.1 h5).1,fun i j hi hj=> ?_⟩;rw[hn]at hi;rw[bR]at hj ⊢;obtain⟨h9,w5⟩:=h8 (lo+i) j (by omega) hj;refine⟨?_,by rw[iN c j (by omega)];exact w5⟩;rw[dc h5,show o+lo*c.size+i*c.size+j=o+(lo+i)*c.size+j from by rw[Nat.add_mul];omega];exact h9
  ·cases h
 ·cases h
theorem uN(zs:List Int):zs.map (Value.int .u8)=(List.range zs.length).map fun i=>Value.int .u8 (zs.getD i 0):=by
 apply List.ext_getElem
 ·simp
 ·intro i h1 h2;simp at h1;simp[h1]
theorem jh{zs:List Int}{a:Option Addr}{cap:Nat}(h3:0<zs.length→∃b o,a=some ⟨b,o,none⟩∧∀j,j<zs.length→w.cell? ⟨b,o+j,none⟩=some (.int .u8 (zs.getD j 0))):
 (Conv.bytesToString (.slice a zs.length cap)).run P w=.ok (.string (bc zs)) w:=by
 cases a with
 |none=>
  have:zs.length=0:=by
   rcases Nat.eq_zero_or_pos zs.length with h0|h0
   ·exact h0
   ·obtain⟨b,o,e,_⟩:=h3 h0;cases e
  obtain rfl:=List.eq_nil_of_length_eq_zero this;rfl
 |some a=>
  have apk:(loadCells a zs.length).run P w=.ok (zs.map (Value.int .u8)).toArray w:=by
   rcases Nat.eq_zero_or_pos zs.length with h0|h0
   ·obtain rfl:=List.eq_nil_of_length_eq_zero h0;rfl
   ·obtain⟨b,o,e,hc⟩:=h3 h0;cases e;rw[uN];refine run_loadCells w _ _ (fun i=>Value.int .u8 (zs.getD i 0)) (fun j hj=> ?_);rw[a8];exact hc j hj
  simp only[Conv.bytesToString,Sem.run_bind,apk,Result.andThen_ok];rw[←Array.forIn_toList];have:=w4 (P:=P) zs (zs.map (Value.int .u8)) ByteArray.empty w rfl;erw [this];simp[bc]
theorem oI{zs:List Int}{v:Value}(h:nS O w (.ints .u8 zs) v):(Conv.bytesToString v).run P w=.ok (.string (bc zs)) w:=by
 obtain⟨a,cap,us,rfl,h1,h2,h3⟩:=h;simp only[aL.n]at h1 h3 ⊢;refine jh fun h0=> ?_;obtain⟨b,o,e,_,hc⟩:=h3 h0;refine⟨b,o,e,fun j hj=> ?_⟩;obtain⟨g1,g2⟩:=hc j 0 hj (by simp[aL.size]);simp only[aL.size,Nat.mul_one,Nat.add_zero,aL.cell]at g1 g2;rw[g1];generalize us j 0=u at g2 ⊢;cases g2;rfl
theorem vt(hs:Sat ρ H G w){id b m off n:Nat}{k:IntKind}{ws:List Int}{e:TypeId}(ho:H id=some (.own [.ints k m ws] e))(hb:ρ id=.pointer (some ⟨b,0,none⟩))(hnm:off+n≤m):
 ((ws.drop off).take n).length=n∧∀j,j<n→w.cell? ⟨b,off+j,none⟩=some (.int k (((ws.drop off).take n).getD j 0)):=by
 obtain⟨cells,fr,e1,_,e2⟩:=mV hs ho hb;obtain⟨c1,c2,rfl,e3,e4⟩:=ah.1 e2;obtain⟨e5,rfl⟩:=cQ.1 e3;obtain rfl:=aw.1 e4;refine⟨by rw[List.length_take,List.length_drop];omega,fun j hj=> ?_⟩;rw[dc e1,List.append_nil,List.getElem?_map];have bm:off+j<ws.length:=by omega
 rw[List.getElem?_eq_getElem bm];simp[List.getD,List.getElem?_take,hj,List.getElem?_drop,bm]
theorem yH{src dst:TypeId}{x:AV}{vx:Value}{q:bH}(h:(r9 P src dst x).eval H=some q)(hn:bD q.need)(hs:Sat ρ H G w)(hd:af ρ H (aP ρ H G) w x vx):
 eG P ρ H (aP ρ H G) w q (convert src dst vx):=by
 unfold r9 at h;split at h
 ·rename_i d k nk jA;split at h
  ·rename_i k' lit n l3;obtain rfl:=b8 l3 hd
   have gT:(convert src dst (.int k' n)).run P w=.ok (.int k (k.wrap n)) w:=by
    simp[convert,run_underlying nk,run_underlying jA,Conv.intToInt]
   rw[Bool.cond_eq_ite]at h;split at h
   ·exact aE h (fun _=>⟨_,gT,az (.aK _ _)⟩) hn
   ·rw[Bool.cond_eq_ite]at h;split at h
    ·rename_i hk;simp only[Bool.and_eq_true]at hk;obtain rfl:=lW hk.1;refine aE h (fun cL=>⟨_,gT, ?_⟩) hn;rw[cn cL.1];exact az (.int _ _)
    ·exact aE h (fun _=>⟨_,gT,az (.int _ _)⟩) hn
  ·cases h
 ·rename_i nk jA;split at h
  ·rename_i s;obtain rfl:=eV hd;exact aE h (fun _=>⟨_,by simp[convert,run_underlying nk,run_underlying jA],az (.str _)⟩) hn
  ·cases h
 ·rename_i e nk jA;split at h
  ·rename_i hk
   have he:P.underlying e=some (.int .u8):=by
    unfold kindOf at hk;split at hk<;>first|(cases hk;assumption)|cases hk
   split at h
   ·rename_i id off n;simp only[RM.eval]at h;split at h
    ·rename_i m ws e' ho;unfold af aD at hd;obtain⟨_,b,a,cap,hb,rfl,ha,_⟩:=hd;refine aE h (fun cL=>⟨_, ?_,az (.str _)⟩) hn;have hnm:off+n≤m:=cL.1;obtain⟨hl,hc⟩:=vt hs ho hb hnm;have:=jh (P:=P) (w:=w) (zs:=(ws.drop off).take n) (a:=a) (cap:=cap) (fun h0=>⟨b,off,ha (by omega),fun j hj=>hc j (by omega)⟩);rw[hl]at this;simp[convert,run_underlying nk,run_underlying jA,run_underlying he,this]
    ·cases h
   ·obtain⟨c,idy,h1,h2⟩:=sr h hs hd;split at h1
    ·rename_i zs;refine aE h1 (fun _=>⟨.string (bc zs), ?_,az (.str _)⟩) hn;obtain⟨a,cap,us,rfl,_⟩:=id h2;simp[convert,run_underlying nk,run_underlying jA,run_underlying he,oI h2]
    ·cases h1
  ·cases h
 ·cases h
end
end Go.Sx
namespace Go.Sx
open Go
def cr:List (Nat×ab)→Nat→Option ab
 |[],_=>none
 |(id,o)::us,j=>match cr us j with
  |some x=>some x
  |none=>if j=id then some o else none
def cW(H:aM)(up:List (Nat×ab))(base:Nat)(new:List ab):aM:=fun j=>
 match cr up j with
 |some o=>some o
 |none=>if base≤j∧j<base+new.length then new[j - base]? else H j
section
variable{ρ aF:Nat→Value}{H H':aM}{G O O':Nat→Prop}{w w':World}{P:Program}
theorem kf(base:Nat):cW H [] base []=H:=by
 funext j;simp only[cW,cr,List.length_nil,Nat.add_zero];rw[if_neg (by omega)]
theorem fm(id:Nat)(o:ab)(base:Nat):cW H [(id,o)] base []=ax H id o:=by
 funext j;simp only[cW,cr,ax,List.length_nil,Nat.add_zero];by_cases h:j=id
 ·simp[h]
 ·simp only[h,if_false];rw[if_neg (by omega)]
theorem ie(base:Nat)(o:ab):cW H [] base [o]=ax H base o:=by
 funext j;simp only[cW,cr,ax,List.length_singleton];by_cases h:j=base
 ·subst h;simp
 ·rw[if_neg (by omega)];simp[h]
theorem ad6(id base:Nat)(x o:ab)(h:id≠base):cW H [(id,x)] base [o]=ax (ax H id x) base o:=by
 funext j;simp only[cW,cr,ax,List.length_singleton];by_cases h1:j=id
 ·subst h1;simp[h]
 ·by_cases h2:j=base
  ·subst h2;simp[h1]
  ·simp only[h1,h2,if_false];rw[if_neg (by omega)]
theorem cC:af ρ H O w (.bg []) undef:=by
 unfold af;exact⟨[],rfl,aU.2 rfl⟩
theorem ji{id:Nat}{o o':ab}(ho:H id=some o)(ha:o.alive=true){b:Nat}(hb:eg (ρ id)=some b)
 (p6:∀c' e',o'=.vec c' e'→∃c e,o=.vec c e∧c'.n=c.n∧c'.size=c.size) (p7:Obj):
 Step ρ H (aP ρ H G) w ρ (ax H id o') (aP ρ H G) (World.cw w b p7):=by
 have dC:Own ρ H b:=⟨id,o,ho,ha,hb⟩;refine⟨fun _ _ _=>rfl,fun j x hx=> ?_,fun c hc=>.inl hc,fun c hc hO=>gS (fun e=>hO (.inl (by subst e;exact dC))),by rw[ib];exact Nat.le_refl _⟩;by_cases hj:j=id
 ·subst hj;rw[ho]at hx;cases hx;exact⟨o',by simp[ax],p6⟩
 ·exact⟨x,by simp[ax,hj,hx],fun c' e' hc=>⟨c',e',hc,rfl,rfl⟩⟩
theorem Good.su(hs:Sat ρ H G w){id b:Nat}{ao ek:List AV}{e:TypeId}(ho:H id=some (.own ao e))(hb:ρ id=.pointer (some ⟨b,0,none⟩))
 {cells dU:List Value} {fr:Nat×Nat} (h1:w.heap[b]? =some (.cells cells.toArray e fr)) (hu:unm fr cells.length) (hl:dU.length=cells.length)
 (hd:aq ρ H (aP ρ H G) w ek dU):
 Good ρ H G w (ax H id (.own ek e)) (.bg []) undef (World.cw w b (.cells dU.toArray e fr)):=by
 have kI:eg (ρ id)=some b:=by rw[hb];rfl
 have st:=ji (G:=G) (w:=w) (o':=.own ek e) ho rfl kI (by simp) (.cells dU.toArray e fr);exact Good.write hs ho rfl rfl kI (by simp) ⟨b,dU,fr,hb,dT h1,by rw[hl];exact hu,hd.step st⟩ cC
theorem jD{t:TypeId}{b off:Nat}{v:Value}{n:Nat}(hs:du P t=some n)(hl:v.cells.toList.length=n){w':World}
 (h:(storeCells ⟨b,off,none⟩ v.cells.toList 0).run P w=.ok () w'):(Instr.storeAt t (.pointer (some ⟨b,off,none⟩)) v).run P w=.ok () w':=by
 have:v.cells.size=n:=by simpa using hl
 simp[Instr.storeAt,Instr.sureAddr,storeVar,run_sizeOf hs,this,h]
theorem kg{v:Value}(h:v.oneCell'=true):v.cells.toList=[v]:=by
 cases v<;>first|rfl|(simp[Value.oneCell']at h)
theorem jQ{α:Type}(l:List α)(i:Nat)(x:α)(h:i<l.length):l.take i++[x]++l.drop (i+1)=l.set i x:=by
 rw[List.set_eq_take_append_cons_drop,if_pos h];simp
theorem fb{c c':aL}{v:Value}(h0:c.n=0)(h1:c'.n=0)(h:aT O w (.ro c) v):aT O w (.ro c') v:=by
 cases h with
 |ro _ a cap us b o h2 h3 h4 h5 h6=>
  have:=aT.ro (O:=O) (w:=w) c' a cap us b o (by omega) h3 (fun h=>by omega) (fun i j hi hj=>by omega) (fun i j hi hj=>by omega);rw[h1]at this;rw[h0];exact this
theorem afS{k:IntKind}{v:SV}{n:Int}{u:Value}(h:afE k v=some n)(hu:aT O w v u):aT O w (.int k n) u:=by
 unfold afE at h;split at h
 ·rw[Bool.cond_eq_ite]at h;split at h
  ·rename_i hk;obtain rfl:=bd hk;cases h;exact hu
  ·cases h
 ·rw[Bool.cond_eq_ite]at h;split at h
  ·rename_i hk;obtain rfl:=bd hk;cases h;cases hu;exact .int _ _
  ·cases h
 ·cases h
theorem ad7{v:SV}{n:Bool}{u:Value}(h:aa1 v=some n)(hu:aT O w v u):aT O w (.bool n) u:=by
 unfold aa1 at h;split at h<;>cases h<;>cases hu<;>exact .bool _
theorem afT{v:SV}{n:ByteArray}{u:Value}(h:afF v=some n)(hu:aT O w v u):aT O w (.str n) u:=by
 unfold afF at h;split at h<;>cases h;exact hu
theorem ad8{k:IntKind}{v:SV}{n:List Int}{u:Value}(h:aa2 k v=some n)(hu:aT O w v u):aT O w (.ro (.ints k n)) u:=by
 unfold aa2 at h;split at h
 ·rw[Bool.cond_eq_ite]at h;split at h
  ·rename_i hk;obtain rfl:=bd hk;cases h;exact hu
  ·cases h
 ·cases h;exact fb (by rfl) (by rfl) hu
 ·cases h
theorem ad9{v:SV}{n:List ByteArray}{u:Value}(h:aa3 v=some n)(hu:aT O w v u):aT O w (.ro (.strs n)) u:=by
 unfold aa3 at h;split at h<;>cases h
 ·exact hu
 ·exact fb (by rfl) (by rfl) hu
theorem abk{v:SV}{n:List Bool}{u:Value}(h:wK v=some n)(hu:aT O w v u):aT O w (.ro (.bQ n)) u:=by
 unfold wK at h;split at h<;>cases h
 ·exact hu
 ·exact fb (by rfl) (by rfl) hu
theorem aea{cs:List CK}{v:SV}{n:List (CL cs)}{u:Value}(h:aa4 cs v=some n)(hu:aT O w v u):aT O w (.ro (.ad cs n)) u:=by
 unfold aa4 at h;split at h
 ·simp only[Option.map_eq_some_iff]at h;obtain⟨⟨e⟩,_,h2⟩:=h;subst e;rw[vj]at h2;subst h2;exact hu
 ·cases h;exact fb (by rfl) (by rfl) hu
 ·cases h
theorem aeb{c:CK}{x y:c.V}{j:Nat}{v:SV}(h:c.set x j v=some y):c.wide=1∧∀(O:Nat→Prop) (w:World) (u:Value),aT O w v u→∀l,aT O w (c.cell y l) u:=by
 cases c with
 |int k=>exact⟨rfl,fun _ _ _ hu _=>afS h hu⟩
 |bool=>exact⟨rfl,fun _ _ _ hu _=>ad7 h hu⟩
 |str=>exact⟨rfl,fun _ _ _ hu _=>afT h hu⟩
 |ints k=>exact⟨rfl,fun _ _ _ hu _=>ad8 h hu⟩
 |strs=>exact⟨rfl,fun _ _ _ hu _=>ad9 h hu⟩
 |bQ=>exact⟨rfl,fun _ _ _ hu _=>abk h hu⟩
 |rows cs=>exact⟨rfl,fun _ _ _ hu _=>aea h hu⟩
 |arr k n=>cases h
theorem p8:∀{cs:List CK} {x y:CL cs} {j:Nat} {v:SV},CL.set cs x j v=some y→(∀(O:Nat→Prop) (w:World) (u:Value),aT O w v u→aT O w (CL.cell cs y j) u)∧∀j',j'≠j→CL.cell cs y j'=CL.cell cs x j'
 |[],x,y,j,v,h=>by cases h
 |c::cs,x,y,j,v,h=>by
  simp only[CL.set]at h;rw[Bool.cond_eq_ite]at h;split at h
  ·rename_i bm;obtain⟨z,h1,rfl⟩:=Option.map_eq_some_iff.1 h;obtain⟨h2,h3⟩:=aeb h1;refine⟨fun O w u hu=>by simp only[CL.cell,bm,cond_true];exact h3 O w u hu _,fun j' iP=> ?_⟩;have h4:j<1:=by rw[h2]at bm;exact Nat.le_of_ble_eq_true bm
   simp only[CL.cell,h2,oG (show 1≤j' from by omega),cond_false]
  ·rename_i bm;obtain⟨z,h1,rfl⟩:=Option.map_eq_some_iff.1 h;have bm:j.blt c.wide=false:=Bool.eq_false_iff.2 bm
   have hge:c.wide≤j:=by
    rcases Nat.lt_or_ge j c.wide with h5|h5
    ·rw[lG h5]at bm;cases bm
    ·exact h5
   obtain⟨h2,h3⟩:=p8 h1;refine⟨fun O w u hu=>by simp only[CL.cell,bm,cond_false];exact h2 O w u hu,fun j' iP=> ?_⟩;simp only[CL.cell];rcases Nat.lt_or_ge j' c.wide with h5|h5
   ·rw[lG h5,cond_true,cond_true]
   ·rw[oG h5,cond_false,cond_false];exact h3 _ (by omega)
theorem oJ:∀{cs:List CK} {x y:CL cs} {j:Nat} {k:IntKind} {n:Nat} {ws:List Int},CL.setRow cs x j k n ws=some y→
 (∀l,l<n→CL.cell cs y (j+l)=.int k (ws.getD l 0))∧∀j',(j'<j∨j+n≤j')→CL.cell cs y j'=CL.cell cs x j'
 |[],x,y,j,k,n,ws,h=>by cases h
 |c::cs,x,y,j,k,n,ws,h=>by
  simp only[CL.setRow]at h;rw[Bool.cond_eq_ite]at h;split at h
  ·rename_i hj;obtain rfl:j=0:=Nat.eq_of_beq_eq_true hj;obtain⟨z,h1,rfl⟩:=Option.map_eq_some_iff.1 h;cases c with
   |arr k' n'=>
    simp only[CK.setRow]at h1;rw[Bool.cond_eq_ite]at h1;split at h1
    ·rename_i hk;simp only[Bool.and_eq_true]at hk;obtain rfl:=bd hk.1;obtain rfl:=Nat.eq_of_beq_eq_true hk.2;cases h1;refine⟨fun l hl=> ?_,fun j' iP=> ?_⟩
     ·rw[Nat.zero_add];simp only[CL.cell,CK.wide,lG hl,cond_true,CK.cell]
     ·simp only[CL.cell,CK.wide,oG (show n≤j' from by omega),cond_false]
    ·cases h1
   |_=>cases h1
  ·rw[Bool.cond_eq_ite]at h;split at h
   ·rename_i hle;have hle:=Nat.le_of_ble_eq_true hle;obtain⟨z,h1,rfl⟩:=Option.map_eq_some_iff.1 h;obtain⟨h2,h3⟩:=oJ h1;refine⟨fun l hl=> ?_,fun j' iP=> ?_⟩
    ·simp only[CL.cell,oG (show c.wide≤j+l from by omega),cond_false];rw[show j+l - c.wide=j - c.wide+l from by omega];exact h2 l hl
    ·simp only[CL.cell];rcases Nat.lt_or_ge j' c.wide with h5|h5
     ·rw[lG h5,cond_true,cond_true]
     ·rw[oG h5,cond_false,cond_false];exact h3 _ (by omega)
   ·cases h
theorem abl{c:aL}{i j:Nat}{k:IntKind}{n:Nat}{ws:List Int}{c':aL}(h:mR c i j k n ws=some c')(hi:i<c.n):
 c'.n=c.n∧c'.size=c.size∧(∀l,l<n→c'.cell i (j+l)=.int k (ws.getD l 0))∧∀i' j',(i'≠i∨j'<j∨j+n≤j')→c'.cell i' j'=c.cell i' j':=by
 cases c<;>simp only[mR,reduceCtorEq]at h;rename_i cs xs;simp only[Option.map_eq_some_iff]at h;obtain⟨y,h1,rfl⟩:=h;simp only[aL.n]at hi;obtain⟨h2,h3⟩:=oJ h1;refine⟨by simp[aL.n],rfl,fun l hl=> ?_,fun i' j' cL=> ?_⟩
 ·simp only[aL.cell];rw[show(xs.set i y).getD i (CL.d cs)=y from by simp[List.getD,hi]];exact h2 l hl
 ·simp only[aL.cell];by_cases hii:i'=i
  ·subst hii;rw[show(xs.set i' y).getD i' (CL.d cs)=y from by simp[List.getD,hi]];exact h3 j' (by omega)
  ·have:i≠i':=fun e=>hii e.symm;simp[List.getD,List.getElem?_set_ne this]
theorem aja(c:aL){i j:Nat}{v:SV}{c':aL}(h:pS c i j v=some c'):c'.n=c.n∧c'.size=c.size:=by
 cases c<;>simp only[pS]at h
 case ef=>simp only[Option.some.injEq]at h;subst h;exact⟨rfl,rfl⟩
 case ad=>
  simp only[Option.map_eq_some_iff]at h;obtain⟨y,_,rfl⟩:=h;simp[aL.n,aL.size]
 all_goals
  split at h<;>first
   |(simp only[Option.some.injEq]at h;subst h;simp[aL.n,aL.size];done)
   |(rw[Bool.cond_eq_ite]at h;split at h<;>first|(simp only[Option.some.injEq]at h;subst h;simp[aL.n,aL.size];done)|cases h)
   |cases h
theorem w6(c:aL){i j:Nat}{v:SV}{c':aL}(h:pS c i j v=some c')(hi:i<c.n)(hj:j<c.size){u:Value}(hu:aT O w v u):
 aT O w (c'.cell i j) u∧∀i' j',i'<c.n→j'<c.size→(i'≠i∨j'≠j)→c'.cell i' j'=c.cell i' j':=by
 cases c<;>simp only[pS]at h
 case ints k zs=>
  simp only[aL.n,aL.size]at hi hj
  split at h<;>first
   |cases h
   |(rw[Bool.cond_eq_ite]at h
     split at h
     ·rename_i hk;obtain rfl:=bd hk;simp only[Option.some.injEq]at h;subst h;cases hu;simp only[aL.cell,aL.n,aL.size];refine⟨by simp[List.getD,hi];exact .int _ _,fun i' j' eF iP cL=> ?_⟩;have:i≠i':=by omega
      simp[List.getD,List.getElem?_set_ne this]
     ·cases h)
 case strs zs=>
  simp only[aL.n,aL.size]at hi hj;split at h<;>simp only[Option.some.injEq,reduceCtorEq]at h;subst h;cases hu;simp only[aL.cell,aL.n,aL.size];refine⟨by simp[List.getD,hi];exact .str _,fun i' j' eF iP cL=> ?_⟩;have:i≠i':=by omega
  simp[List.getD,List.getElem?_set_ne this]
 case bQ zs=>
  simp only[aL.n,aL.size]at hi hj;split at h<;>simp only[Option.some.injEq,reduceCtorEq]at h
  all_goals
   subst h;cases hu;simp only[aL.cell,aL.n,aL.size];refine⟨by simp[List.getD,hi];exact .bool _,fun i' j' eF iP cL=> ?_⟩;have:i≠i':=by omega
   simp[List.getD,List.getElem?_set_ne this]
 case ad cs xs=>
  simp only[aL.n,aL.size]at hi hj;simp only[Option.map_eq_some_iff]at h;obtain⟨y,h1,rfl⟩:=h;obtain⟨h2,h3⟩:=p8 h1;simp only[aL.cell,aL.n,aL.size];refine⟨by rw[show(xs.set i y).getD i (CL.d cs)=y from by simp[List.getD,hi]];exact h2 O w u hu,fun i' j' eF iP cL=> ?_⟩;by_cases hii:i'=i
  ·subst hii;rw[show(xs.set i' y).getD i' (CL.d cs)=y from by simp[List.getD,hi]];exact h3 j' (by omega)
  ·have:i≠i':=fun e=>hii e.symm;simp[List.getD,List.getElem?_set_ne this]
 case ef s n get=>
  simp only[Option.some.injEq]at h;subst h;simp only[aL.cell];refine⟨by simp[hu],fun i' j' _ _ cL=> ?_⟩
  have:(i'==i&&j'==j)=false:=by
   rcases cL with h|h<;>simp[h]
  simp[this]
theorem p9:∀(iF:List AV) (c:aL) {i j:Nat} {c':aL} {vs:List Value},ej c i j iF=some c'→aq ρ H O w iF vs→i<c.n→j+fA iF≤c.size→
 c'.n=c.n∧c'.size=c.size∧vs.length=fA iF∧(∀l u,vs[l]? =some u→aT O w (c'.cell i (j+l)) u)∧
 ∀i' j',i'<c.n→j'<c.size→(i'≠i∨j'<j∨j+fA iF≤j')→c'.cell i' j'=c.cell i' j'
 |[],c,i,j,c',vs,h,hd,hi,hj=>by
  simp only[ej,Option.some.injEq]at h;subst h;obtain rfl:=aw.1 hd;exact⟨rfl,rfl,rfl,by simp,fun _ _ _ _ _=>rfl⟩
 |a::aJ,c,i,j,c',vs,h,hd,hi,hj=>by
  cases a with
  |s v=>
   simp only[ej,Option.bind_eq_some_iff]at h;obtain⟨c1,h1,h2⟩:=h;obtain⟨cs1,cs2,rfl,hv,hr⟩:=ah.1 hd;unfold aN at hv;obtain⟨u,rfl,hu⟩:=hv;simp only[fA,AV.wide]at hj;obtain⟨n1,s1⟩:=aja c h1;obtain⟨g1,g2⟩:=w6 c h1 hi (by omega) hu;obtain⟨k1,k2,k3,k4,k5⟩:=p9 aJ c1 h2 hr (by omega) (by omega);refine⟨k1.trans n1,k2.trans s1,by simp[k3,fA,AV.wide];omega,fun l x hx=> ?_,fun i' j' eF iP cL=> ?_⟩
   ·cases l with
    |zero=>
     simp at hx;subst hx;rw[Nat.add_zero,k5 i j (by omega) (by omega) (by omega)];exact g1
    |succ l=>
     have:=k4 l x (by simpa using hx);rw[show j+(l+1)=j+1+l from by omega];exact this
   ·simp only[fA,AV.wide]at cL;rw[k5 i' j' (by omega) (by omega) (by omega)];exact g2 i' j' eF iP (by omega)
  |ints k n ws=>
   simp only[ej,Option.bind_eq_some_iff]at h;obtain⟨c1,h1,h2⟩:=h;obtain⟨cs1,cs2,rfl,hv,hr⟩:=ah.1 hd;unfold aN at hv;obtain⟨hl,rfl⟩:=hv;simp only[fA,AV.wide]at hj;obtain⟨n1,s1,g1,g2⟩:=abl h1 hi;obtain⟨k1,k2,k3,k4,k5⟩:=p9 aJ c1 h2 hr (by omega) (by omega);refine⟨k1.trans n1,k2.trans s1,by simp[k3,fA,AV.wide,hl],fun l x hx=> ?_,fun i' j' eF iP cL=> ?_⟩
   ·rcases Nat.lt_or_ge l n with h5|h5
    ·rw[List.getElem?_append_left (by simp;omega)]at hx;simp only[List.getElem?_map,Option.map_eq_some_iff]at hx;obtain⟨z,hz,rfl⟩:=hx;rw[k5 i (j+l) (by omega) (by omega) (by omega),g1 l h5,show ws.getD l 0=z from by simp[List.getD,hz]];exact .int _ _
    ·rw[List.getElem?_append_right (by simp;omega)]at hx;simp only[List.length_map,hl]at hx;have:=k4 (l - n) x hx;rw[show j+n+(l - n)=j+l from by omega]at this;exact this
   ·simp only[fA,AV.wide]at cL;rw[k5 i' j' (by omega) (by omega) (by omega)];exact g2 i' j' (by omega)
  |_=>simp[ej]at h
theorem vu(cs:List CK):∀(iF:List AV) (xs:List (CL cs)) (i j:Nat),i<xs.length→(lU cs (xs.getD i (CL.d cs)) j iF).map (fun y=>aL.ad cs (xs.set i y))=ej (.ad cs xs) i j iF
 |[],xs,i,j,hi=>by
  simp only[lU,ej,Option.map_some,Option.some.injEq,aL.ad.injEq,heq_eq_eq,true_and];have:xs.getD i (CL.d cs)=xs[i]:=by simp[List.getD,hi]
  rw[this,List.set_getElem_self]
 |a::aJ,xs,i,j,hi=>by
  have step:∀(y:CL cs) (k:Nat),(lU cs y k aJ).map (fun y=>aL.ad cs (xs.set i y))=ej (.ad cs (xs.set i y)) i k aJ:=fun y k=>by
   rw[←vu cs aJ (xs.set i y) i k (by rw[List.length_set];exact hi)];have:(xs.set i y).getD i (CL.d cs)=y:=by simp[List.getD,hi]
   rw[this];congr 1;funext z;rw[List.set_set]
  cases a with
  |s v=>
   simp only[lU,ej,pS];cases CL.set cs (xs.getD i (CL.d cs)) j v with
   |none=>rfl
   |some y=>exact step y (j+1)
  |ints k n ws=>
   simp only[lU,ej,mR];cases CL.setRow cs (xs.getD i (CL.d cs)) j k n ws with
   |none=>rfl
   |some y=>exact step y (j+n)
  |_=>rfl
theorem afU:∀(iF:List AV) (c:aL) {i j:Nat} {c':aL} {vs:List Value},acu c i j iF=some c'→aq ρ H O w iF vs→i<c.n→j+fA iF≤c.size→
 c'.n=c.n∧c'.size=c.size∧vs.length=fA iF∧(∀l u,vs[l]? =some u→aT O w (c'.cell i (j+l)) u)∧
 ∀i' j',i'<c.n→j'<c.size→(i'≠i∨j'<j∨j+fA iF≤j')→c'.cell i' j'=c.cell i' j':=by
 intro iF c i j c' vs h hd hi hj;refine p9 iF c ?_ hd hi hj;cases c with
 |ad cs xs=>rw[←h];exact(vu cs iF xs i j hi).symm
 |_=>exact h
theorem w7(l vs:List Value)(o:Nat)(h:o+vs.length≤l.length)(i:Nat):(l.take o++vs++l.drop (o+vs.length))[i]? =if o≤i∧i<o+vs.length then vs[i - o]? else l[i]? :=by
 have hto:(l.take o).length=o:=by simp;omega
 by_cases h1:i<o
 ·rw[if_neg (by omega),List.append_assoc,List.getElem?_append_left (by omega),List.getElem?_take,if_pos h1]
 ·by_cases h2:i<o+vs.length
  ·rw[if_pos (by omega),List.getElem?_append_left (by simp;omega),List.getElem?_append_right (by omega),hto]
  ·rw[if_neg (by omega),List.getElem?_append_right (by simp;omega),List.getElem?_drop];congr 1;simp;omega
theorem gx{α:Type}(l:List α)(i:Nat)(d:α)(h:i<l.length):l[i]? =some (l.getD i d):=by
 simp[List.getD,List.getElem?_eq_getElem h]
theorem afV{size i i' j j' f:Nat}(hj:j<size)(iP:j'<size)(h:f+i*size+j=f+i'*size+j'):i=i'∧j=j':=by
 have h1:i*size+j=i'*size+j':=by omega
 have h2:(i*size+j) / size=i:=by rw[Nat.mul_comm,Nat.mul_add_div (by omega),Nat.div_eq_of_lt hj];rfl
 have h3:(i'*size+j') / size=i':=by rw[Nat.mul_comm,Nat.mul_add_div (by omega),Nat.div_eq_of_lt iP];rfl
 have:i=i':=by rw[←h2,←h3,h1]
 subst this;exact⟨rfl,by omega⟩
theorem aec{t:TypeId}{a x:AV}{va vx:Value}{q:bH}(h:(aa5 P t a x).eval H=some q)(hs:Sat ρ H G w)
 (ha:af ρ H (aP ρ H G) w a va) (hx:af ρ H (aP ρ H G) w x vx):
 ∃w',(Instr.storeAt t va vx).run P w=.ok () w'∧∀base,Good ρ H G w (cW H q.up base q.new) (q.r base) undef w':=by
 unfold aa5 at h;split at h
 ·rename_i sz uE bR om;split at h
  ·
   rename_i id off;unfold af aD at ha;obtain⟨b,hb,rfl,_⟩:=ha;simp only[RM.eval]at h;split at h
   ·rename_i ao e ho;obtain⟨cells,fr,h1,h2,h3⟩:=mV hs ho hb;cases uE
    ·simp only[cond_false]at h;rw[Bool.cond_eq_ite]at h;split at h
     ·rename_i hc;simp only[Bool.and_eq_true,Nat.beq_eq]at hc;obtain⟨hsg,rfl⟩:=hc;split at h
      ·rename_i ek l5;simp only[RM.eval,Option.some.injEq]at h;subst h;obtain⟨h4,h5⟩:=kM ao off l5 h3 hsg hx;obtain⟨h6,h7⟩:=jg hsg hx;refine⟨_,jD bR (by rw[kg h7];rfl) (bL off _ 0 h1 h2 (by rw[kg h7];simp;omega) (by rw[kg h7];simpa using h7)),fun base=> ?_⟩;simp only[fm,kg h7,Nat.add_zero,List.length_singleton];exact Good.su hs ho hb h1 h2 (by simp;omega) (by rw[jQ _ _ _ h4];exact h5)
      ·cases h
     ·cases h
    ·simp only[cond_true]at h;split at h
     ·rename_i iF hby;rw[Bool.cond_eq_ite]at h;split at h
      ·rename_i hc;simp only[Bool.and_eq_true,Nat.beq_eq]at hc;obtain⟨hw,_⟩:=hc;split at h
       ·rename_i ek afW;simp only[RM.eval,Option.some.injEq]at h;subst h;have h4:=oE hby hx;have h5:=ia h4;obtain⟨h6,h7⟩:=sk afW h3 h4;refine⟨_,jD bR (h5.trans hw) (bL off _ 0 h1 h2 (by omega) (sn iF h4)),fun base=> ?_⟩;simp only[fm,Nat.add_zero];exact Good.su hs ho hb h1 h2 (by simp only[List.length_append,List.length_take,List.length_drop];omega) h7
       ·cases h
      ·cases h
     ·cases h
   ·cases h
  ·
   rename_i id off n i;unfold af aD at ha;obtain⟨dz,b,hb,rfl,_⟩:=ha;simp only[RM.eval]at h;split at h
   ·rename_i ao e ho;obtain⟨cells,fr,h1,h2,h3⟩:=mV hs ho hb;split at h
    ·rename_i k m ws k' l y ai5 l3;rw[Bool.cond_eq_ite]at h;split at h
     ·rename_i hc;simp only[Bool.and_eq_true,Bool.not_eq_true',Nat.beq_eq]at hc;obtain⟨⟨⟨rfl,hk⟩,rfl⟩,rfl⟩:=hc;obtain rfl:=bd hk;split at h
      ·rename_i ek l5;simp only[RM.eval,Option.some.injEq]at h;subst h;obtain rfl:=b8 l3 hx;obtain⟨hl,pre,post,rfl,hp⟩:=mU ao off ai5 h3;have h4:=lY ao off ai5 l5 (by simp) h3 hp;have bm:off+i<(pre++ws.map (Value.int k)++post).length:=by simp;omega
       refine⟨_,jD bR rfl (bL (off+i) [.int k y] 0 h1 h2 (by simp;omega) (by simp[Value.oneCell'])),fun base=> ?_⟩;simp only[fm,Nat.add_zero,List.length_singleton];refine Good.su hs ho hb h1 h2 (by rw[jQ _ _ _ bm];simp) ?_;rw[jQ _ _ _ bm,List.append_assoc,List.set_append_right _ _ (by omega),List.set_append_left _ _ (by simp;omega),show off+i - pre.length=i from by omega,←List.append_assoc];rw[List.map_set]at h4;exact h4
      ·cases h
     ·cases h
    ·cases h
   ·cases h
  ·
   rename_i id i j;unfold af aD at ha;obtain⟨_,o,ho,hv⟩:=ha;simp only[RM.eval]at h;split at h
   ·rename_i c e dg;rw[ho]at dg;cases dg;obtain⟨hi,hj,b,f,n,cap,dK,rfl⟩:=hv c e rfl;split at h
    ·rename_i iF hby;rw[Bool.cond_eq_ite]at h;split at h
     ·rename_i hc;simp only[Bool.and_eq_true,Nat.beq_eq]at hc;obtain⟨hw,hle⟩:=hc;have hle:=Nat.le_of_ble_eq_true hle;split at h
      ·rename_i c' l5;simp only[RM.eval,Option.some.injEq]at h;subst h;have h4:=oE hby hx;obtain⟨k1,k2,k3,k4,k5⟩:=afU iF c l5 h4 hi (by omega);obtain⟨a,adX,h5,h6,h7,h8⟩:=hs.obj id _ ho;rw[dK]at h5;cases h5;rcases h8 with rfl|⟨b',o',cells,fr,us,e1,g1,g2,g3,g4⟩
       ·omega
       ·cases e1
        have kI:eg (ρ id)=some b:=by
         rw[dK];simp only[eg];rw[if_neg (by omega)]
        have hmul:i*c.size+c.size≤cap*c.size:=by
         rw[←Nat.succ_mul];exact Nat.mul_le_mul_right _ (by omega)
        have hlen:f+i*c.size+j+vx.cells.toList.length≤cells.length:=by omega
        have st:=ji (G:=G) (w:=w) (o':=.vec c' e) ho rfl kI (fun c1 e1 hc1=>by cases hc1;exact⟨c,e,rfl,k1,k2⟩)
         (.cells (cells.take (f+i*c.size+j)++vx.cells.toList++cells.drop (f+i*c.size+j+vx.cells.toList.length)).toArray e fr)
        refine⟨_,jD bR (k3.trans hw) (bL (f+i*c.size+j) _ 0 g1 g2.unm (by omega) (sn iF h4)),fun base=> ?_⟩;simp only[fm,Nat.add_zero];refine Good.write hs ho rfl rfl kI (fun c1 e1 hc1=>by cases hc1;exact⟨c,e,rfl,k1,k2⟩) ?_ cC;refine⟨some ⟨b,f,none⟩,cap,by rw[dK,k1],by omega,h7,.inr ⟨b,f,_,fr,fun i' j'=>if i'=i∧j≤j'∧j'<j+fA iF then(vx.cells.toList.getD (j' - j) undef)else us i' j',rfl,dT g1, ?_, ?_, ?_⟩⟩
        ·exact g2.over (sn iF h4) hlen
        ·simp only[List.length_append,List.length_take,List.length_drop];rw[k2];omega
        ·intro i' j' eF iP;rw[k1]at eF;rw[k2]at iP;rw[k2,w7 _ _ _ hlen];dsimp only;by_cases dz:i'=i∧j≤j'∧j'<j+fA iF
         ·obtain⟨rfl,h9,w5⟩:=dz;rw[if_pos ⟨by omega,by omega⟩,if_pos ⟨rfl,h9,w5⟩];have hx1:j' - j<vx.cells.toList.length:=by omega
          refine⟨by rw[show f+i'*c.size+j' - (f+i'*c.size+j)=j' - j from by omega];exact gx _ _ _ hx1, ?_⟩;have:=k4 (j' - j) _ (gx _ _ undef hx1);rw[show j+(j' - j)=j' from by omega]at this;exact this.step st.fz st.heap st.size
         ·rw[if_neg dz]
          have nj:¬(f+i*c.size+j≤f+i'*c.size+j'∧f+i'*c.size+j'<f+i*c.size+j+vx.cells.toList.length):=by
           rintro⟨h9,w5⟩;have hd:f+i*c.size+(f+i'*c.size+j' - (f+i*c.size))=f+i'*c.size+j':=by omega
           obtain⟨h11,h12⟩:=afV (f:=f) (i:=i) (i':=i') (j:=f+i'*c.size+j' - (f+i*c.size)) (by omega) iP hd;subst h11;exact dz ⟨rfl,by omega,by omega⟩
          rw[if_neg nj,k5 i' j' eF iP (by omega)];obtain⟨h9,w5⟩:=g4 i' j' eF iP;exact⟨h9,w5.step st.fz st.heap st.size⟩
      ·cases h
     ·cases h
    ·cases h
   ·cases h
  ·cases h
 ·cases h
end
end Go.Sx
namespace Go.Sx
open Go
section
variable{ρ aF:Nat→Value}{H H':aM}{G O O':Nat→Prop}{w w':World}{P:Program}
theorem w8{v:Value}{x:SV}(h:aiZ v=some x):aT O w x v:=by
 unfold aiZ at h;split at h<;>simp only[Option.some.injEq,reduceCtorEq]at h<;>subst h
 ·exact .aC _
 ·exact .aK _ _
 ·exact .str _
 ·exact .bV
 ·exact .aaU
 ·exact .aaV
 ·exact .aaW
theorem sw{v:Value}{a:AV}(h:oz v=some a):aN ρ H O w a [v]:=by
 unfold oz at h;split at h
 ·simp only[Option.some.injEq]at h;subst h;unfold aN;exact⟨_,rfl,none,rfl⟩
 ·simp only[Option.map_eq_some_iff]at h;obtain⟨x,h1,rfl⟩:=h;unfold aN;exact⟨v,rfl,w8 h1⟩
theorem l6:∀(vs:List Value) {aJ:List AV},oA vs=some aJ→aq ρ H O w aJ vs
 |[],aJ,h=>by simp only[oA,Option.some.injEq]at h;subst h;exact aw.2 rfl
 |v::vs,aJ,h=>by
  simp only[oA]at h;split at h
  ·rename_i a dj h1 h2;simp only[Option.some.injEq]at h;subst h;exact ah.2 ⟨[v],vs,rfl,sw h1,l6 vs h2⟩
  ·cases h
theorem l7(k:IntKind):∀(cs:List Value),lT k cs=true→cs=(List.replicate cs.length (0:Int)).map (Value.int k)
 |[],_=>rfl
 |v::vs,h=>by
  unfold lT at h;split at h
  ·rename_i hc;cases hc
  ·rename_i k' vs' hc;cases hc;simp only[Bool.and_eq_true]at h;obtain rfl:=bd h.1;have:=l7 k vs h.2;simp only[List.length_cons,List.replicate_succ,List.map_cons,List.cons.injEq,true_and];exact this
  ·cases h
theorem yI(P:Program)(d:Nat)(ih:∀t cs ao,gr P d t cs=some ao→aq ρ H O w ao cs):∀(fs:List Field) (s0 s1:List AV) (r0 r1:List Value),
 fs.foldl (fun acc f=>match acc,du P f.type with
  |some (ao,rest),some n=>(gr P d f.type (rest.take n)).map fun s=>(ao++s,rest.drop n)
  |_,_=>none) (some (s0,r0))=some (s1,r1)→∃s' c,s1=s0++s'∧r0=c++r1∧aq ρ H O w s' c
 |[],s0,s1,r0,r1,h=>by
  simp only[List.foldl_nil,Option.some.injEq,Prod.mk.injEq]at h;obtain⟨rfl,rfl⟩:=h;exact⟨[],[],by simp,rfl,aw.2 rfl⟩
 |f::fs,s0,s1,r0,r1,h=>by
  simp only[List.foldl_cons]at h
  have iG:∀(fs:List Field),fs.foldl (fun(acc:Option (List AV×List Value)) f=>match acc,du P f.type with
   |some (ao,rest),some n=>(gr P d f.type (rest.take n)).map fun s=>(ao++s,rest.drop n)
   |_,_=>none) none=none:=by
   intro fs
   induction fs with
   |nil=>rfl
   |cons f fs ih=>simp only[List.foldl_cons];exact ih
  cases bR:du P f.type with
  |none=>rw[bR]at h;simp only[iG]at h;cases h
  |some n=>
   rw[bR]at h;simp only[]at h;cases hz:gr P d f.type (r0.take n)with
   |none=>rw[hz]at h;simp only[Option.map_none,iG]at h;cases h
   |some s=>
    rw[hz]at h;simp only[Option.map_some]at h;obtain⟨s',c,rfl,h1,h2⟩:=yI P d ih fs _ _ _ _ h;refine⟨s++s',r0.take n++c,by simp, ?_,eZ.2 ⟨_,_,rfl,ih _ _ _ hz,h2⟩⟩;rw[List.append_assoc,←h1,List.take_append_drop]
theorem qN(P:Program):∀(d:Nat) (t:TypeId) (cs:List Value) (ao:List AV),gr P d t cs=some ao→aq ρ H O w ao cs
 |0,t,cs,ao,h=>by simp[gr]at h
 |d+1,t,cs,ao,h=>by
  simp only[gr]at h;split at h
  ·simp only[Option.bind_eq_some_iff]at h;obtain⟨⟨s,rest⟩,h1,h2⟩:=h;obtain⟨s',c,rfl,rfl,h3⟩:=yI P d (qN P d) _ _ _ _ _ h1;simp only[]at h2;split at h2
   ·simp only[Option.some.injEq]at h2;subst h2;simpa using h3
   ·cases h2
  ·split at h
   ·rename_i k hk;rw[Bool.cond_eq_ite]at h;split at h
    ·rename_i hc;simp only[Bool.and_eq_true,beq_iff_eq]at hc;obtain⟨hz,rfl⟩:=hc;simp only[Option.some.injEq]at h;subst h;exact ah.2 ⟨cs,[],by simp,cQ.2 ⟨by simp,l7 k cs hz⟩,aw.2 rfl⟩
    ·exact l6 cs h
   ·exact l6 cs h
  ·exact l6 cs h
theorem yJ(ao:List AV):(AV.jP ao).iE=some ao:=by
 unfold AV.jP;split<;>rfl
theorem mX{t:TypeId}{ao:List AV}(h:(zeroOf P t).bind AV.iE =some ao):∃i v,P.info? t=some i∧i.zero=some v∧aq ρ H O w ao v.cells.toList:=by
 simp only[Option.bind_eq_some_iff]at h;obtain⟨z,h1,h2⟩:=h;unfold zeroOf at h1;split at h1
 ·rename_i cs hz ha;simp only[Option.bind_eq_some_iff]at hz;obtain⟨i,hi,hz⟩:=hz;simp only[Option.map_eq_some_iff]at h1;obtain⟨ss,h3,rfl⟩:=h1;rw[yJ]at h2;simp only[Option.some.injEq]at h2;subst h2;exact⟨i,_,hi,hz,by simpa[Value.cells]using qN P 20 t _ _ h3⟩
 ·skip;rename_i v hz ha;simp only[Option.bind_eq_some_iff]at hz;obtain⟨i,hi,hz⟩:=hz;refine⟨i,v,hi,hz, ?_⟩;have hc:=sw (ρ:=ρ) (H:=H) (O:=O) (w:=w) h1
  have hv:v.oneCell'=true∧z.iE =some [z]:=by
   unfold oz at h1;split at h1
   ·simp only[Option.some.injEq]at h1;subst h1;exact⟨rfl,rfl⟩
   ·simp only[Option.map_eq_some_iff]at h1;obtain⟨x,h3,rfl⟩:=h1;refine⟨(w8 (O:=O) (w:=w) h3).one, ?_⟩;unfold aiZ at h3;split at h3<;>simp only[Option.some.injEq,reduceCtorEq]at h3<;>subst h3<;>rfl
  rw[hv.2]at h2;simp only[Option.some.injEq]at h2;subst h2;rw[kg hv.1];exact ah.2 ⟨[v],[],rfl,hc,aw.2 rfl⟩
 ·cases h1
theorem vv(hs:Sat ρ H G w){n:Nat}(hn:H n=none){ao:List AV}{e:TypeId}{cells:List Value}(hd:aq ρ H (aP ρ H G) w ao cells):
 Good ρ H G w (ax H n (.own ao e)) (.ptr n 0) (.pointer (some ⟨w.heap.size,0,none⟩)) (w.alloc (.cells cells.toArray e)):=by
 have st:Step ρ H (aP ρ H G) w (fun j=>if j=n then .pointer (some ⟨w.heap.size,0,none⟩)else ρ j) (ax H n (.own ao e)) (aP (fun j=>if j=n then .pointer (some ⟨w.heap.size,0,none⟩)else ρ j) (ax H n (.own ao e)) G) (w.alloc (.cells cells.toArray e)):=by
  have ne:∀j x,H j=some x→j≠n:=fun j x hx e=>by subst e;rw[hn]at hx;cases hx
  refine⟨fun j x hx=>by simp[ne j x hx],fun j x hx=>⟨x,by simp[ax,ne j x hx,hx],fun c' e' hc=>⟨c',e',hc,rfl,rfl⟩⟩,fun b hb=> ?_,fun b hb _=>alloc_old hb,by rw[fa];omega⟩;rcases hb with⟨j,x,hx,h1,h2⟩|hb
  ·by_cases hj:j=n
   ·subst hj;simp only[if_true,eg,Option.some.injEq]at h2;exact .inr (by omega)
   ·simp only[ax,hj,if_false]at hx h2;exact .inl (.inl ⟨j,x,hx,h1,h2⟩)
  ·exact .inl (.inr hb)
 refine Good.fresh (root:=.pointer (some ⟨w.heap.size,0,none⟩)) hs hn rfl rfl rfl rfl (fun b hb=>by simpa[eg]using hb.symm) ?_ ?_
 ·exact⟨w.heap.size,cells,(0,0),rfl,iY,fun off _ h=>by omega,hd.step st⟩
 ·unfold af aD;exact⟨w.heap.size,by simp,rfl,by simp[ax]⟩
theorem abm(hs:Sat ρ H G w){n:Nat}(hn:H n=none){k:Nat}(hk:1≤k)(yK:k≤maxLen){e:TypeId}:
 Good ρ H G w (ax H n (.vec (.strs (List.replicate k ByteArray.empty)) e)) (.fR n 0 0) (.pointer (some ⟨w.heap.size,0,none⟩)) (w.alloc (.cells (List.replicate k (Value.string ByteArray.empty)).toArray e)):=by
 have oK:∀b,eg (.slice (some ⟨w.heap.size,0,none⟩) k k)=some b→b=w.heap.size:=by
  intro b hb;simp only[eg]at hb;split at hb
  ·cases hb
  ·simpa using hb.symm
 refine Good.fresh (root:=.slice (some ⟨w.heap.size,0,none⟩) k k) hs hn rfl rfl rfl rfl oK ?_ ?_
 ·refine⟨some ⟨w.heap.size,0,none⟩,k,by simp[aL.n],by simp[aL.n],yK,.inr ⟨w.heap.size,0,List.replicate k (Value.string ByteArray.empty),(0,0),fun _ _=>.string ByteArray.empty,rfl,iY,⟨fun off _ h=>by omega,fun u hu=> ?_⟩,by simp[aL.size],fun i j hi hj=> ?_⟩⟩
  ·rw[(List.mem_replicate.1 hu).2];rfl
  ·simp only[aL.n,List.length_replicate]at hi;simp only[aL.size]at hj ⊢;obtain rfl:j=0:=by omega
   refine⟨by simp[hi], ?_⟩;simp only[aL.cell];rw[show(List.replicate k ByteArray.empty).getD i ByteArray.empty=ByteArray.empty from by simp[List.getD,hi]];exact aT.str _
 ·unfold af aD
  exact⟨rfl,.vec (.strs (List.replicate k ByteArray.empty)) e,by simp[ax],fun c' e' hc=>by
   cases hc;exact⟨by simp[aL.n];omega,by simp[aL.size],w.heap.size,0,k,k,by simp,by simp[aL.size]⟩⟩
theorem abn{t:TypeId}{n:Nat}(h:wL P t=some n):1≤n∧n≤4096∧∃i v,P.info? t=some i∧i.zero=some v∧v.cells=(List.replicate n (Value.string ByteArray.empty)).toArray:=by
 unfold wL at h;split at h
 ·rename_i m e i _ hi;split at h
  ·rename_i z _ hz;rw[Bool.cond_eq_ite]at h;split at h
   ·rename_i hc;simp only[Option.some.injEq]at h;subst h;simp only[Bool.and_eq_true,Nat.beq_eq]at hc;obtain⟨⟨⟨c1,c2⟩,c3⟩,c4⟩:=hc;have c1:=Nat.le_of_ble_eq_true c1;refine⟨by omega,Nat.le_of_ble_eq_true c2,i,z,hi,hz, ?_⟩;rw[List.all_eq_true]at c4
    have:z.cells.toList=List.replicate m (Value.string ByteArray.empty):=List.eq_replicate_iff.2 ⟨by rw[Array.length_toList];exact c3,fun b hb=>by
     have:=c4 b hb;split at this
     ·rename_i s;have h0:s.size=0:=by simpa using this
      have:s=ByteArray.empty:=ByteArray.ext (Array.eq_empty_of_size_eq_zero h0);rw[this]
     ·cases this⟩
    rw[←this]
   ·cases h
  ·cases h
 ·cases h
theorem aed{t:TypeId}{q:bH}(h:(aa8 P t).eval H=some q)(hs:Sat ρ H G w){base:Nat}(hb:∀i,i<q.new.length→H (base+i)=none)(old:Value):
 ∃v w',(Instr.alloc t true old).run P w=.ok v w'∧Good ρ H G w (cW H q.up base q.new) (q.r base) v w':=by
 unfold aa8 at h;split at h
 ·rename_i n hz;simp only[RM.eval,Option.some.injEq]at h;subst h;obtain⟨h1,h2,i,v,hi,hv,hc⟩:=abn hz;have hn:H base=none:=by simpa using hb 0 (by simp)
  refine⟨.pointer (some ⟨w.heap.size,0,none⟩),w.alloc (.cells v.cells t), ?_, ?_⟩
  ·simp[Instr.alloc,zeroValue,typeInfo,hi,hv,newVar,newRow];try rfl
  ·simp only[ie];have:=abm hs hn h1 (by unfold maxLen;omega) (e:=t);rw[hc];simpa using this
 split at h
 ·rename_i ao hz;simp only[RM.eval,Option.some.injEq]at h;subst h;obtain⟨i,v,hi,hv,hd⟩:=mX (ρ:=ρ) (H:=H) (O:=aP ρ H G) (w:=w) hz;have hn:H base=none:=by simpa using hb 0 (by simp)
  refine⟨.pointer (some ⟨w.heap.size,0,none⟩),w.alloc (.cells v.cells t), ?_, ?_⟩
  ·simp[Instr.alloc,zeroValue,typeInfo,hi,hv,newVar,newRow];try rfl
  ·simp only[ie];have:=vv hs hn (e:=t) hd;simpa using this
 ·cases h
theorem ajb{t:TypeId}{x:AV}{vx:Value}{q:bH}(h:(amL t x).eval H=some q)(hs:Sat ρ H G w)(hd:af ρ H (aP ρ H G) w x vx){base:Nat}(hb:∀i,i<q.new.length→H (base+i)=none):
 ∃v w',(Instr.box t vx).run P w=.ok v w'∧Good ρ H G w (cW H q.up base q.new) (q.r base) v w':=by
 unfold amL at h;split at h
 ·rename_i ao hz;simp only[RM.eval,Option.some.injEq]at h;subst h;have hn:H base=none:=by simpa using hb 0 (by simp)
  refine⟨.pointer (some ⟨w.heap.size,0,none⟩),w.alloc (.cells vx.cells t), ?_, ?_⟩
  ·simp[Instr.box,newVar,newRow];try rfl
  ·simp only[ie];have:=vv hs hn (e:=t) (oE hz hd);simpa using this
 ·cases h
end
end Go.Sx
namespace Go.Sx
open Go
section
variable{ρ aF:Nat→Value}{H H':aM}{G O O':Nat→Prop}{w w':World}{P:Program}
theorem vw(off:Nat):∀(vs:List Value) (k:Nat) (cells:Array Value),off+k+vs.length≤cells.size→
 ((vs.zipIdx k).foldl (fun(cs:Array Value) (x:Value×Nat)=>cs.setIfInBounds (off+x.2) x.1) cells).toList=cells.toList.take (off+k)++vs++cells.toList.drop (off+k+vs.length)
 |[],k,cells,_=>by simp
 |v::vs,k,cells,h=>by
  simp only[List.length_cons]at h;simp only[List.zipIdx_cons,List.foldl_cons];rw[vw off vs (k+1) _ (by simp;omega)];have bm:off+k<cells.toList.length:=by simp;omega
  simp only[Array.toList_setIfInBounds];rw[←Nat.add_assoc,List.take_set,List.drop_set_of_lt (by omega)]
  have e1:(cells.toList.take (off+k+1)).set (off+k) v=cells.toList.take (off+k)++[v]:=by
   rw[List.take_succ_eq_append_getElem bm];rw[List.set_append_right _ _ (by simp;omega)];simp at bm;simp[Nat.min_eq_left (Nat.le_of_lt bm)]
  rw[e1];simp only[List.append_assoc,List.length_cons,List.cons_append,List.nil_append];rw[show off+k+1+vs.length=off+k+(vs.length+1)from by omega]
theorem rG{place:Nat→Option (Nat×Nat)}{ev:Operand→AV}{e:Operand→Value}:∀(l:List (Nat×Operand)) (ao ss:List AV) (cells:Array Value),(∀p∈l,af ρ H O w (ev p.2) (e p.2))→
 nL place ao (l.map fun p=>(p.1,ev p.2))=some ss→aq ρ H O w ao cells.toList→
 ∃dU,Instr.fill place cells (l.map fun p=>(p.1,e p.2))=some dU∧aq ρ H O w ss dU.toList
 |[],ao,ss,cells,_,h,hd=>by
  simp only[List.map_nil,nL,Option.some.injEq]at h;subst h;exact⟨cells,rfl,hd⟩
 |(i,x)::l,ao,ss,cells,hp,h,hd=>by
  simp only[List.map_cons,nL]at h;split at h
  ·rename_i off size iF hpl hby;rw[Bool.cond_eq_ite]at h;split at h
   ·rename_i hc;simp only[Bool.and_eq_true,Nat.beq_eq]at hc;simp only[Option.bind_eq_some_iff]at h;obtain⟨s1,h1,h2⟩:=h;have hx:=oE hby (hp (i,x) (by simp));have hlen:=ia hx;obtain⟨h3,h4⟩:=sk h1 hd hx;simp only[Array.length_toList]at hlen h3
    obtain⟨dU,h5,h6⟩:=rG l s1 ss ((e x).cells.zipIdx.foldl (fun cs (c,j)=>cs.setIfInBounds (off+j) c) cells) (fun p wT=>hp p (by simp[wT])) h2 (by
     rw[←Array.foldl_toList,Array.toList_zipIdx];have:=vw off (e x).cells.toList 0 cells (by simpa using h3);simp only[Nat.add_zero]at this;rw[this];exact h4)
    refine⟨dU, ?_,h6⟩;simp only[List.map_cons,Instr.fill,hpl];rw[if_neg (by simp;omega)];exact h5
   ·cases h
  ·cases h
theorem qO(P:Program)(w:World):∀(fs:List Field),fs.all (fun f=>(du P f.type).isSome)=true→
 (fs.mapM (m:=Sem) fun f=>do pure (f.offset,←sizeOf f.type)).run P w=.ok (fs.map fun f=>(f.offset,(du P f.type).getD 0)) w
 |[],_=>by simp
 |f::fs,h=>by
  simp only[List.all_cons,Bool.and_eq_true]at h;obtain⟨n,hn⟩:=Option.isSome_iff_exists.1 h.1;have ih:=qO P w fs h.2;simp only[List.mapM_cons,Sem.run_bind,run_sizeOf hn,Result.andThen_ok,Sem.run_pure,ih,List.map_cons,hn,Option.getD_some]
theorem aee{t:TypeId}{ps:Array (Nat×Operand)}{ev:Operand→AV}{e:Operand→Value}{q:bH}(h:(aa9 P t (ps.toList.map fun p=>(p.1,ev p.2))).eval H=some q)(hn:bD q.need)
 (hp:∀p∈ps,af ρ H O w (ev p.2) (e p.2)):eG P ρ H O w q (Instr.build t (ps.map fun(i,x)=>(i,e x))):=by
 have wT:∀p∈ps.toList,af ρ H O w (ev p.2) (e p.2):=fun p hm=>hp p (Array.mem_toList_iff.1 hm);unfold aa9 at h;split at h
 ·rename_i ao fs hz ht;obtain⟨i,v,hi,hv,hd⟩:=mX (ρ:=ρ) (H:=H) (O:=O) (w:=w) hz;rw[Bool.cond_eq_ite]at h;split at h
  ·rename_i w9;split at h
   ·rename_i ss hss
    have hm:(fs.mapM (m:=Sem) fun f=>do pure (f.offset,←sizeOf f.type)).run P w=.ok (fs.toList.map fun f=>(f.offset,(du P f.type).getD 0)).toArray w:=by
     rw[Array.mapM_eq_mapM_toList];simp only[Sem.run_map,qO P w fs.toList w9,Result.andThen_ok]
    have amW:(fun i=>((fs.toList.map fun(f:Field)=>(f.offset,(du P f.type).getD 0)).toArray)[i]?)=(fun(i:Nat)=>(fs[i]?).bind fun(f:Field)=>(du P f.type).map fun n=>(f.offset,n)):=by
     funext i;simp only[List.getElem?_toArray,List.getElem?_map,Array.getElem?_toList];cases hf:fs[i]? with
     |none=>rfl
     |some f=>
      have iQ:f∈fs.toList:=Array.mem_toList_iff.2 (Array.mem_of_getElem? hf);obtain⟨n,hn⟩:=Option.isSome_iff_exists.1 (List.all_eq_true.1 w9 f iQ);simp[hn]
    obtain⟨dU,h1,h2⟩:=rG ps.toList ao ss v.cells wT hss hd;refine aE h (fun _=>⟨.agg dU, ?_,by simpa using kb h2⟩) hn;rw[←amW]at h1;simp only[Instr.build,zeroValue,typeInfo,Sem.run_bind,run_program,Result.andThen_ok,hi,Sem.run_pure,hv,run_underlying ht,hm];simp only[Array.toList_map];erw [h1];rfl
   ·cases h
  ·cases h
 ·rename_i ao n el hz ht;obtain⟨i,v,hi,hv,hd⟩:=mX (ρ:=ρ) (H:=H) (O:=O) (w:=w) hz;split at h
  ·rename_i sz bR;split at h
   ·rename_i ss hss;obtain⟨dU,h1,h2⟩:=rG ps.toList ao ss v.cells wT hss hd;refine aE h (fun _=>⟨.agg dU, ?_,by simpa using kb h2⟩) hn;simp only[Instr.build,zeroValue,typeInfo,Sem.run_bind,run_program,Result.andThen_ok,hi,Sem.run_pure,hv,run_underlying ht,run_sizeOf bR];simp only[Array.toList_map];erw [h1];rfl
   ·cases h
  ·cases h
 ·cases h
end
end Go.Sx
namespace Go.Sx
open Go
section
variable{ρ aF:Nat→Value}{H H':aM}{G O O':Nat→Prop}{w w':World}{P:Program}
def Pts(O:Nat→Prop)(w:World)(l:List SV)(cs:List Value):Prop:=l.length=cs.length∧∀(i:Nat) (v:SV),l[i]? =some v→∃u,cs[i]? =some u∧aT O w v u
theorem ajc:Pts O w [] ([]:List Value):=⟨rfl,by simp⟩
theorem sA{v:SV}{l:List SV}{cs:List Value}(h:Pts O w (v::l) cs):∃u j5,cs=u::j5∧aT O w v u∧Pts O w l j5:=by
 obtain⟨h1,h2⟩:=h;cases cs with
 |nil=>simp at h1
 |cons u j5=>
  obtain⟨u',h3,h4⟩:=h2 0 v rfl;simp at h3;subst h3;exact⟨_,_,rfl,h4,by simpa using h1,fun i x hx=>by simpa using h2 (i+1) x (by simpa using hx)⟩
theorem afX{v:SV}{l:List SV}{u:Value}{cs:List Value}(h1:aT O w v u)(h2:Pts O w l cs):Pts O w (v::l) (u::cs):=
 ⟨by simp[h2.1],fun i x hx=>by
   cases i with
   |zero=>simp at hx;subst hx;exact⟨u,rfl,h1⟩
   |succ i=>simpa using h2.2 i x (by simpa using hx)⟩
theorem abo:∀(aJ:List AV) {l:List SV} {cs:List Value},svs aJ=some l→aq ρ H O w aJ cs→Pts O w l cs
 |[],l,cs,h,hd=>by
  simp only[svs,Option.some.injEq]at h;subst h;obtain rfl:=aw.1 hd;exact ajc
 |a::aJ,l,cs,h,hd=>by
  obtain⟨c1,c2,rfl,h1,h2⟩:=ah.1 hd;rcases pZ a with⟨k,n,ws,rfl⟩|ha
  ·simp[svs]at h
  ·have hs:svs (a::aJ)=match a.sv?,svs aJ with|some v,some vs=>some (v::vs)|_,_=>none:=by
    cases a<;>first|rfl|(exact(ha _ _ _ rfl).elim)
   rw[hs]at h;split at h
   ·rename_i v vs hv hvs;simp only[Option.some.injEq]at h;subst h;cases a with
    |s x=>
     unfold aN at h1;obtain⟨u,rfl,hu⟩:=h1;have:x=v:=by cases x<;>simp only[AV.sv?,Option.some.injEq,reduceCtorEq]at hv<;>exact hv
     subst this;exact afX hu (abo aJ hvs h2)
    |emp=>
     unfold aN at h1;obtain⟨u,rfl,x,rfl⟩:=h1;simp only[AV.sv?,Option.some.injEq]at hv;subst hv;exact afX (.ro (.ef 1 0 fun _ _=>.aR) x 0 (fun _ _=>undef) 0 0 (Nat.le_refl _) (by simp[maxLen]) (by simp[aL.n]) (by simp[aL.n]) (by simp[aL.n])) (abo aJ hvs h2)
    |_=>simp[AV.sv?]at hv
   ·cases h
theorem vz(k:IntKind):∀(l:List SV) {zs:List Int} {cs:List Value},nM k l=some zs→Pts O w l cs→zs.length=cs.length∧∀i,i<zs.length→∃u,cs[i]? =some u∧aT O w (.int k (zs.getD i 0)) u
 |[],zs,cs,h,hp=>by
  simp only[nM,Option.some.injEq]at h;subst h;exact⟨hp.1,by simp⟩
 |v::l,zs,cs,h,hp=>by
  obtain⟨u,j5,rfl,hu,wT⟩:=sA hp
  have key:∀k' n,aT O w (.int k' n) u→(bif bK k k' then(nM k l).map (n:: ·)else none)=some zs→zs.length=(u::j5).length∧∀i,i<zs.length→∃x,(u::j5)[i]? =some x∧aT O w (.int k (zs.getD i 0)) x:=by
   intro k' n hd h;rw[Bool.cond_eq_ite]at h;split at h
   ·rename_i hk;obtain rfl:=bd hk;simp only[Option.map_eq_some_iff]at h;obtain⟨zs',h1,rfl⟩:=h;obtain⟨h2,h3⟩:=vz k l h1 wT;refine⟨by simp[h2],fun i hi=> ?_⟩;cases i with
    |zero=>exact⟨u,rfl,by simpa using hd⟩
    |succ i=>simpa using h3 i (by simpa using hi)
   ·cases h
  cases v<;>simp only[nM,reduceCtorEq]at h
  case int k' n=>exact key k' n hu h
  case aK k' n=>cases hu;exact key k' n (.int _ _) h
theorem vA:∀(l:List SV) {zs:List ByteArray} {cs:List Value},pT l=some zs→Pts O w l cs→zs.length=cs.length∧∀i,i<zs.length→∃u,cs[i]? =some u∧aT O w (.str (zs.getD i ByteArray.empty)) u
 |[],zs,cs,h,hp=>by
  simp only[pT,Option.some.injEq]at h;subst h;exact⟨hp.1,by simp⟩
 |v::l,zs,cs,h,hp=>by
  obtain⟨u,j5,rfl,hu,wT⟩:=sA hp;cases v<;>simp only[pT,reduceCtorEq]at h;simp only[Option.map_eq_some_iff]at h;obtain⟨zs',h1,rfl⟩:=h;obtain⟨h2,h3⟩:=vA l h1 wT;refine⟨by simp[h2],fun i hi=> ?_⟩;cases i with
  |zero=>exact⟨u,rfl,by simpa using hu⟩
  |succ i=>simpa using h3 i (by simpa using hi)
theorem nT:∀(l:List SV) {zs:List Bool} {cs:List Value},mS l=some zs→Pts O w l cs→zs.length=cs.length∧∀i,i<zs.length→∃u,cs[i]? =some u∧aT O w (.bool (zs.getD i false)) u
 |[],zs,cs,h,hp=>by
  simp only[mS,Option.some.injEq]at h;subst h;exact⟨hp.1,by simp⟩
 |v::l,zs,cs,h,hp=>by
  obtain⟨u,j5,rfl,hu,wT⟩:=sA hp;cases v<;>simp only[mS,reduceCtorEq]at h
  case bool b=>
   simp only[Option.map_eq_some_iff]at h;obtain⟨zs',h1,rfl⟩:=h;obtain⟨h2,h3⟩:=nT l h1 wT;refine⟨by simp[h2],fun i hi=> ?_⟩;cases i with
   |zero=>exact⟨u,rfl,by simpa using hu⟩
   |succ i=>simpa using h3 i (by simpa using hi)
  case aC b=>
   simp only[Option.map_eq_some_iff]at h;obtain⟨zs',h1,rfl⟩:=h;obtain⟨h2,h3⟩:=nT l h1 wT;refine⟨by simp[h2],fun i hi=> ?_⟩;cases i with
   |zero=>cases hu;exact⟨_,rfl,by simpa using aT.bool _⟩
   |succ i=>simpa using h3 i (by simpa using hi)
theorem aef{cs:List CK}{f:Nat→SV}{x:CL cs}(h:CL.ofs cs f=some x):∀j,j<CL.wide cs→∀(O:Nat→Prop) (w:World) (u:Value),aT O w (f j) u→aT O w (CL.cell cs x j) u:=by
 unfold CL.ofs at h;generalize CL.wide cs=m at h
 induction m generalizing x with
 |zero=>intro j hj;omega
 |succ m ih=>
  rw[List.range_succ,List.foldl_append]at h;simp only[List.foldl_cons,List.foldl_nil,Option.bind_eq_some_iff]at h;obtain⟨y,h1,h2⟩:=h;obtain⟨h3,h4⟩:=p8 h2;intro j hj O w u hu;by_cases hjm:j=m
  ·subst hjm;exact h3 O w u hu
  ·rw[h4 j hjm];exact ih h1 j (by omega) O w u hu
theorem yL{cs:List CK}{size:Nat}{cells:List SV}:∀{n i:Nat} {xs:List (CL cs)},vk cs size cells i n=some xs→xs.length=n∧∀k,k<n→∀j,j<CL.wide cs→∀(O:Nat→Prop) (w:World) (u:Value),
 aT O w (cells.getD ((i+k)*size+j) .aR) u→aT O w (CL.cell cs (xs.getD k (CL.d cs)) j) u
 |0,i,xs,h=>by
  simp only[vk,Option.some.injEq]at h;subst h;exact⟨rfl,fun k hk=>by omega⟩
 |n+1,i,xs,h=>by
  simp only[vk]at h;split at h
  ·rename_i x ys h1 h2;simp only[Option.some.injEq]at h;subst h;obtain⟨h3,h4⟩:=yL h2;refine⟨by simp[h3],fun k hk j hj O w u hu=> ?_⟩;cases k with
   |zero=>exact aef h1 j hj O w u (by simpa using hu)
   |succ k=>
    have:=h4 k (by omega) j hj O w u (by rw[show i+1+k=i+(k+1)from by omega];exact hu);simpa using this
  ·cases h
theorem afY{sh:Shape}{size n:Nat}{l:List SV}{cs:List Value}(hp:Pts O w l cs)(hl:l.length=n*size)(hn:(qJ sh size n l).n=n)(hs:(qJ sh size n l).size=size):
 ∀i j,i<n→j<size→∃u,cs[i*size+j]? =some u∧aT O w ((qJ sh size n l).cell i j) u:=by
 have hd:∀i j,i<n→j<size→∃u,cs[i*size+j]? =some u∧aT O w ((aL.ef size n fun i j=>l.getD (i*size+j) .aR).cell i j) u:=by
  intro i j hi hj
  have bm:i*size+j<l.length:=by
   rw[hl];have:(i+1)*size≤n*size:=Nat.mul_le_mul_right _ (by omega);rw[Nat.succ_mul]at this;omega
  obtain⟨u,h1,h2⟩:=hp.2 (i*size+j) l[i*size+j] (by simp[bm]);refine⟨u,h1, ?_⟩;simp only[aL.cell,List.getD,List.getElem?_eq_getElem bm,Option.getD_some];exact h2
 unfold qJ at hn hs ⊢;cases sh with
 |ints k=>
  cases hx:nM k l with
  |none=>simp only[hx,Option.elim]at hn hs ⊢;exact hd
  |some zs=>
   simp only[hx,Option.elim,aL.n,aL.size]at hn hs ⊢;subst hs;intro i j hi hj;obtain rfl:j=0:=by omega
   obtain⟨h1,h2⟩:=vz k l hx hp;simpa[aL.cell]using h2 i (by omega)
 |strs=>
  cases hx:pT l with
  |none=>simp only[hx,Option.elim]at hn hs ⊢;exact hd
  |some zs=>
   simp only[hx,Option.elim,aL.n,aL.size]at hn hs ⊢;subst hs;intro i j hi hj;obtain rfl:j=0:=by omega
   obtain⟨h1,h2⟩:=vA l hx hp;simpa[aL.cell]using h2 i (by omega)
 |bQ=>
  cases hx:mS l with
  |none=>simp only[hx,Option.elim]at hn hs ⊢;exact hd
  |some zs=>
   simp only[hx,Option.elim,aL.n,aL.size]at hn hs ⊢;subst hs;intro i j hi hj;obtain rfl:j=0:=by omega
   obtain⟨h1,h2⟩:=nT l hx hp;simpa[aL.cell]using h2 i (by omega)
 |ad ck=>
  simp only[Bool.cond_eq_ite]at hn hs ⊢;by_cases hw:(CL.wide ck).beq size=true
  ·simp only[hw,if_true]at hn hs ⊢;cases hx:vk ck size l 0 n with
   |none=>simp only[hx,Option.elim]at hn hs ⊢;exact hd
   |some zs=>
    simp only[hx,Option.elim,aL.n,aL.size]at hn hs ⊢;intro i j hi hj;obtain⟨h1,h2⟩:=yL hx;obtain⟨u,h3,h4⟩:=hd i j hi hj;exact⟨u,h3,h2 i hi j (by omega) O w u (by rw[Nat.zero_add];exact h4)⟩
  ·simp only[hw]at hn hs ⊢;exact hd
 |other=>exact hd
theorem sB{α:Type}(l:List α):∀n,(rep n l).length=n*l.length
 |0=>by simp[rep]
 |n+1=>by simp[rep,sB l n,Nat.succ_mul,Nat.add_comm]
theorem acz{α:Type}(l:List α):∀(n k:Nat),k<n*l.length→(rep n l)[k]? =l[k%l.length]?
 |0,k,h=>by simp at h
 |n+1,k,h=>by
  simp only[rep];by_cases hk:k<l.length
  ·rw[List.getElem?_append_left hk,Nat.mod_eq_of_lt hk]
  ·rw[List.getElem?_append_right (by omega),acz l n (k - l.length) (by rw[Nat.succ_mul]at h;omega)];congr 1;rw[Nat.mod_eq_sub_mod (by omega:l.length≤k)]
theorem qP{z:List AV}{cs:List Value}(h:aq ρ H O w z cs):∀n,aq ρ H O w (rep n z) (rep n cs)
 |0=>aw.2 rfl
 |n+1=>eZ.2 ⟨_,_,rfl,h,qP h n⟩
theorem aeg(zc:Array Value)(n:Nat):((Array.range (n*zc.size)).map (zc[· %zc.size]!)).toList=rep n zc.toList:=by
 apply List.ext_getElem?;intro k;simp only[Array.toList_map,Array.toList_range,List.getElem?_map];by_cases hk:k<n*zc.size
 ·rw[List.getElem?_range hk,acz _ _ _ (by simpa using hk)]
  have hz:0<zc.size:=by
   rcases Nat.eq_zero_or_pos zc.size with h0|h0
   ·rw[h0]at hk;omega
   ·exact h0
  have hm:k%zc.size<zc.size:=Nat.mod_lt _ hz;simp[hm]
 ·rw[List.getElem?_eq_none (by simp;omega),List.getElem?_eq_none (by rw[sB];simp;omega)];rfl
end
end Go.Sx
namespace Go.Sx
open Go
section
variable{ρ aF:Nat→Value}{H H':aM}{G O O':Nat→Prop}{w w':World}{P:Program}
theorem kj(hs:Sat ρ H G w){w1:World}(hw:w1.heap=w.heap)(ht:w1.tape=w.tape)(hos:w1.os=w.os)(nj:w1.output=w.output){n:Nat}(hn:H n=none){c:aL}{e:TypeId}{cells:List Value}{cap:Nat}
 (h1:c.n≤cap) (h2:cap≤maxLen) (h3:cap*c.size≤cells.length) (us:Nat→Nat→Value)
 (hd:∀i j,i<c.n→j<c.size→cells[i*c.size+j]? =some (us i j)∧aT (aP ρ H G) w (c.cell i j) (us i j)) (qa:∀u∈cells,u.oneCell'=true):
 Good ρ H G w (ax H n (.vec c e)) (.vec n) (.slice (some ⟨w.heap.size,0,none⟩) c.n cap) (w1.alloc (.cells cells.toArray e)):=by
 have oK:∀b,eg (.slice (some ⟨w.heap.size,0,none⟩) c.n cap)=some b→b=w.heap.size:=by
  intro b hb;simp only[eg]at hb;split at hb
  ·cases hb
  ·simpa using hb.symm
 have st:Step ρ H (aP ρ H G) w (fun j=>if j=n then .slice (some ⟨w.heap.size,0,none⟩) c.n cap else ρ j) (ax H n (.vec c e)) (aP (fun j=>if j=n then .slice (some ⟨w.heap.size,0,none⟩) c.n cap else ρ j) (ax H n (.vec c e)) G) (w1.alloc (.cells cells.toArray e)):=by
  have ne:∀j x,H j=some x→j≠n:=fun j x hx e=>by subst e;rw[hn]at hx;cases hx
  refine⟨fun j x hx=>by simp[ne j x hx],fun j x hx=>⟨x,by simp[ax,ne j x hx,hx],fun c' e' hc=>⟨c',e',hc,rfl,rfl⟩⟩,fun b hb=> ?_,fun b hb _=>by rw[alloc_old (by rw[hw];exact hb),hw],by rw[fa,hw];omega⟩;rcases hb with⟨j,x,hx,h1,h2⟩|hb
  ·by_cases hj:j=n
   ·subst hj;simp only[if_true]at h2;exact .inr (by rw[oK b h2];exact Nat.le_refl _)
   ·simp only[ax,hj,if_false]at hx h2;exact .inl (.inl ⟨j,x,hx,h1,h2⟩)
  ·exact .inl (.inr hb)
 refine Good.fresh (root:=.slice (some ⟨w.heap.size,0,none⟩) c.n cap) hs hn hw ht hos nj oK ?_ ?_
 ·refine⟨_,cap,rfl,h1,h2,.inr ⟨w.heap.size,0,cells,(0,0),us,rfl,by rw[←hw];exact iY,⟨fun off _ h=>by omega,qa⟩,by omega,fun i j hi hj=> ?_⟩⟩;obtain⟨g1,g2⟩:=hd i j hi hj;exact⟨by rw[Nat.zero_add];exact g1,g2.step st.fz st.heap st.size⟩
 ·unfold af aD;exact⟨rfl,.vec c e,by simp[ax],fun c' e' hc=>by simp⟩
theorem sC{t:TypeId}{n:Nat}{ps:Array (Nat×Operand)}{ev:Operand→AV}{e:Operand→Value}{q:bH}(h:(lV P t n (ps.toList.map fun p=>(p.1,ev p.2))).eval H=some q)
 (hs:Sat ρ H G w) (hp:∀p∈ps,af ρ H (aP ρ H G) w (ev p.2) (e p.2)) {base:Nat} (hb:∀i,i<q.new.length→H (base+i)=none):
 ∃v w',(Instr.buildSlice t n (ps.map fun(i,x)=>(i,e x))).run P w=.ok v w'∧Good ρ H G w (cW H q.up base q.new) (q.r base) v w':=by
 have wT:∀p∈ps.toList,af ρ H (aP ρ H G) w (ev p.2) (e p.2):=fun p hm=>hp p (Array.mem_toList_iff.1 hm);unfold lV at h;split at h
 ·rename_i el ht;split at h
  ·rename_i sz z bR hz;rw[Bool.cond_eq_ite]at h;split at h
   ·rename_i hc;simp only[Bool.and_eq_true,Nat.beq_eq]at hc;obtain⟨⟨c1,c2⟩,c3⟩:=hc;have c1:=Nat.le_of_ble_eq_true c1;have c2:=Nat.le_of_ble_eq_true c2;split at h
    ·rename_i l hl;simp only[Option.bind_eq_some_iff]at hl;obtain⟨ss,afW,hsv⟩:=hl;rw[Bool.cond_eq_ite]at h;split at h
     ·rename_i hc;simp only[Bool.and_eq_true,Nat.beq_eq]at hc;obtain⟨⟨d1,d2⟩,d3⟩:=hc;simp only[RM.eval,Option.some.injEq]at h;subst h;obtain⟨i,v,hi,hv,hd⟩:=mX (ρ:=ρ) (H:=H) (O:=aP ρ H G) (w:=w) hz;have hlz:v.cells.size=sz:=by rw[←Array.length_toList,ia hd,c3]
      have qb:((Array.range (n*sz)).map (v.cells[· %v.cells.size]!)).toList=rep n v.cells.toList:=by rw[←hlz];exact aeg _ _
      obtain⟨dU,h1,h2⟩:=rG ps.toList _ ss ((Array.range (n*sz)).map (v.cells[· %v.cells.size]!)) wT afW (by rw[qb];exact qP hd n);have apl:=abo ss hsv h2;have apm:=afY apl d1 d2 d3;have hcl:dU.toList.length=n*sz:=by rw[←apl.1,d1]
      have hn:H base=none:=by simpa using hb 0 (by simp)
      refine⟨.slice (some ⟨w.heap.size,0,none⟩) n n,w.alloc (.cells dU el), ?_, ?_⟩
      ·have yM:¬(n*sz>2^24):=by omega
       have key:∀zc:Array Value,((Array.range (n*sz)).map (zc[· %zc.size]!))=((Array.range (n*sz)).map (v.cells[· %v.cells.size]!))→
        (match Instr.fill (fun i=>some (i*sz,sz)) ((Array.range (n*sz)).map (zc[· %zc.size]!)) (ps.map fun(i,x)=>(i,e x)).toList with
          |some cells=>do
           let a ←newRow el cells
           pure (Value.slice (some a) n n)
          |_=>stuck "buildSlice: a part of the wrong size" :Sem Value).run P w=.ok (.slice (some ⟨w.heap.size,0,none⟩) n n) (w.alloc (.cells dU el)):=by
        intro zc hz;rw[hz];simp only[Array.toList_map];erw [h1];simp[newRow]
       simp only[Instr.buildSlice,Sem.run_bind,run_underlying ht,Result.andThen_ok,run_sizeOf bR,yM,if_false];by_cases h0:n*sz=0
       ·rw[if_pos h0];simp only[Sem.run_bind,Sem.run_pure,Result.andThen_ok]
        exact key #[] (by have:Array.range (n*sz)= #[]:=by rw[h0];rfl
                          rw[this];simp)
       ·rw[if_neg h0];simp only[Sem.run_bind,Sem.run_pure,Result.andThen_ok,zeroValue,typeInfo,run_program,hi,hv];exact key v.cells rfl
      ·simp only[ie];have:=kj hs (w1:=w) rfl rfl rfl rfl hn (c:=qJ (shapeOf P el) sz n l) (e:=el) (cells:=dU.toList) (cap:=n) (by omega) (by simp only[maxLen];have:n≤n*sz:=Nat.le_mul_of_pos_right n (by omega);omega) (by rw[d3,hcl];exact Nat.le_refl _)
        (fun i j=>dU.toList.getD (i*sz+j) undef) (fun i j hi hj=>by
          rw[d2]at hi;rw[d3]at hj ⊢;obtain⟨u,g1,g2⟩:=apm i j hi hj;have bm:i*sz+j<dU.toList.length:=(List.getElem?_eq_some_iff.1 g1).1;rw[gx _ _ undef bm]at g1;simp only[Option.some.injEq]at g1;exact⟨gx _ _ _ bm,by rw[g1];exact g2⟩) (fun u hu=>by
          obtain⟨k,hk,rfl⟩:=List.getElem_of_mem hu;rw[hcl]at hk
          have hp:0<sz:=by rcases Nat.eq_zero_or_pos sz with h0|h0
                           ·rw[h0]at hk;omega
                           ·exact h0
          obtain⟨u,g1,g2⟩:=apm (k / sz) (k%sz) (Nat.div_lt_of_lt_mul (by rw[Nat.mul_comm];exact hk)) (Nat.mod_lt _ hp);rw[show k / sz*sz+k%sz=k from Nat.div_add_mod' k sz,List.getElem?_eq_getElem (by rw[hcl];exact hk)]at g1;cases g1;exact g2.one)
       simpa[d2]using this
     ·cases h
    ·cases h
   ·cases h
  ·cases h
 ·cases h
theorem vB:∀(r need c:Nat),c≤2*need+192→Builtin.growBy need r c≤2*need+192
 |0,need,c,h=>h
 |r+1,need,c,h=>by
  unfold Builtin.growBy;split
  ·exact h
  ·exact vB r need _ (by omega)
theorem nextslicecap_le{need old:Nat}(h:old<need):Builtin.nextslicecap need old≤2*need+192:=by
 unfold Builtin.nextslicecap;split
 ·omega
 ·split
  ·omega
  ·exact vB 4 need old (by omega)
theorem growBy_four(n c:Nat):Builtin.growBy n 4 c=
 if c≥n then c else
 if c+(c+768) / 4≥n then c+(c+768) / 4 else
 if c+(c+768) / 4+(c+(c+768) / 4+768) / 4≥n then c+(c+768) / 4+(c+(c+768) / 4+768) / 4 else
 if c+(c+768) / 4+(c+(c+768) / 4+768) / 4+(c+(c+768) / 4+(c+(c+768) / 4+768) / 4+768) / 4≥n
 then c+(c+768) / 4+(c+(c+768) / 4+768) / 4+(c+(c+768) / 4+(c+(c+768) / 4+768) / 4+768) / 4 else
 c+(c+768) / 4+(c+(c+768) / 4+768) / 4+(c+(c+768) / 4+(c+(c+768) / 4+768) / 4+768) / 4+
  (c+(c+768) / 4+(c+(c+768) / 4+768) / 4+(c+(c+768) / 4+(c+(c+768) / 4+768) / 4+768) / 4+768) / 4:=rfl
theorem qc{need old:Nat}(h:old<need):Builtin.nextslicecap need old≤2*need:=by
 unfold Builtin.nextslicecap;split
 ·omega
 ·split
  ·omega
  ·rw[growBy_four]
   repeat' split
   all_goals omega
structure Src (P:Program) (O:Nat→Prop) (w:World) (size:Nat) (d:aL) (v:Value) (news:List Value):Prop where
 len:(Builtin.lenOf v).run P w=.ok d.n w
 length:news.length=d.n*size
 first:∀w2:World,w2.heap=w.heap→(Builtin.firstCells size d.n v).run P w2=.ok news.toArray w2
 one:∀u∈news,u.oneCell'=true
 den:∀i j,i<d.n→j<size→∃u,news[i*size+j]? =some u∧aT O w (d.cell i j) u
theorem rH{size:Nat}{d:aL}{v:Value}(h:nS O w d v)(hs:d.size=size)(h1:1≤size):∃news,Src P O w size d v news:=by
 obtain⟨a,cap,us,rfl,g1,g2,g3⟩:=h;subst hs
 have hdm:∀m,m<d.n*d.size→m / d.size<d.n∧m%d.size<d.size:=fun m hm=>
  ⟨Nat.div_lt_of_lt_mul (by rw[Nat.mul_comm];exact hm),Nat.mod_lt _ (by omega)⟩
 refine⟨(List.range (d.n*d.size)).map fun m=>us (m / d.size) (m%d.size), ?_,by simp,fun w2 hw2=> ?_,fun u hu=> ?_,fun i j hi hj=> ?_⟩
 ·simp[Builtin.lenOf]
 ·rcases Nat.eq_zero_or_pos d.n with h0|h0
  ·rw[h0];cases a<;>simp[Builtin.firstCells,loadCells,loadCellsFrom]
  ·obtain⟨b,o,rfl,_,hc⟩:=g3 h0;simp only[Builtin.firstCells];refine run_loadCells w2 _ _ (fun m=>us (m / d.size) (m%d.size)) (fun m hm=> ?_);obtain⟨k1,k2⟩:=hdm m hm;rw[a8];have:=(hc _ _ k1 k2).1;rw[Nat.add_assoc,show m / d.size*d.size+m%d.size=m from by rw[Nat.mul_comm];exact Nat.div_add_mod m d.size]at this;rw[←this];simp[World.cell?,hw2]
 ·obtain⟨m,hm,rfl⟩:=List.mem_map.1 hu;have hm:m<d.n*d.size:=List.mem_range.1 hm;obtain⟨k1,k2⟩:=hdm m hm;obtain⟨b,o,rfl,_,hc⟩:=g3 (Nat.lt_of_le_of_lt (Nat.zero_le _) k1);exact(hc _ _ k1 k2).2.one
 ·have bm:i*d.size+j<d.n*d.size:=by
   have:(i+1)*d.size≤d.n*d.size:=Nat.mul_le_mul_right _ (by omega);rw[Nat.succ_mul]at this;omega
  obtain⟨b,o,rfl,_,hc⟩:=g3 (by omega);have e1:(i*d.size+j) / d.size=i:=by rw[Nat.mul_comm,Nat.mul_add_div (by omega),Nat.div_eq_of_lt hj];rfl
  have e2:(i*d.size+j)%d.size=j:=by rw[Nat.mul_comm,Nat.mul_add_mod,Nat.mod_eq_of_lt hj]
  exact⟨us i j,by rw[List.getElem?_map,List.getElem?_range bm];simp[e1,e2],(hc i j hi hj).2⟩
theorem ajd{s:ByteArray}:∃news,Src P O w 1 (.ints .u8 (s.data.toList.map fun b=>(b.toNat:Int))) (.string s) news:=by
 refine⟨s.data.toList.map fun b=>.int .u8 b.toNat, ?_,by simp[aL.n],fun w2 hw2=> ?_,fun u hu=> ?_,fun i j hi hj=> ?_⟩
 ·simp[Builtin.lenOf,aL.n]
 ·simp only[Builtin.firstCells,aL.n,Sem.run_pure,List.length_map];congr 1;have h:s.data.toList.length=s.size:=Array.length_toList;rw[h,ByteArray.extract_zero_size];apply Array.toList_inj.1;rw[Array.toList_map]
 ·obtain⟨b,_,rfl⟩:=List.mem_map.1 hu;rfl
 ·simp only[aL.n,List.length_map]at hi;obtain rfl:j=0:=by omega
  have eF:i<s.data.toList.length:=hi;refine⟨.int .u8 (s.data.toList[i].toNat),by rw[Nat.mul_one,Nat.add_zero,List.getElem?_map,List.getElem?_eq_getElem eF];rfl, ?_⟩;simp only[aL.cell]
  have:(s.data.toList.map fun b=>((b.toNat:Nat):Int)).getD i 0=(s.data.toList[i].toNat:Int):=by
   rw[List.getD,List.getElem?_map,List.getElem?_eq_getElem eF];rfl
  rw[this];exact .int _ _
end
end Go.Sx
namespace Go.Sx
open Go
section
variable{ρ aF:Nat→Value}{H H':aM}{G O O':Nat→Prop}{w w':World}{P:Program}
theorem fc{α:Type}(xs ys:List α){lo k:Nat}(h:lo+k≤xs.length)(hk:k≤ys.length):(over xs lo k ys).length=xs.length:=by
 simp only[over,List.length_append,List.length_take,List.length_drop];omega
theorem iZ{α:Type}(xs ys:List α)(d:α){lo k:Nat}(h:lo+k≤xs.length)(hk:k≤ys.length)(i:Nat):
 (over xs lo k ys).getD i d=if lo≤i∧i<lo+k then ys.getD (i - lo) d else xs.getD i d:=by
 have hto:(xs.take lo).length=lo:=by simp;omega
 have hty:(ys.take k).length=k:=by simp;omega
 simp only[over,List.getD];by_cases h1:i<lo
 ·rw[if_neg (by omega),List.append_assoc,List.getElem?_append_left (by omega),List.getElem?_take,if_pos h1]
 ·by_cases h2:i<lo+k
  ·rw[if_pos (by omega),List.append_assoc,List.getElem?_append_right (by omega),hto,List.getElem?_append_left (by omega),List.getElem?_take,if_pos (by omega)]
  ·rw[if_neg (by omega),List.append_assoc,List.getElem?_append_right (by omega),hto,List.getElem?_append_right (by omega),hty,List.getElem?_drop];congr 2;omega
theorem aeh{α:Type}{lo i k:Nat}{a b:α}:(bif lo.ble i&&i.blt (lo+k)then a else b)=if lo≤i∧i<lo+k then a else b:=by
 rw[Bool.cond_eq_ite];congr 1;simp[Nat.blt,Nat.lt_iff_add_one_le,Nat.ble_eq]
theorem yN{cs j5:List CK}(xs:List (CL cs))(ys:List (CL j5))(lo k:Nat)(p:aL→Prop)(h1:∀e:j5=cs,p (.ad cs (over xs lo k (e▸ys))))
 (h2:p (.ef (CL.wide cs) xs.length fun i j=>bif lo.ble i&&i.blt (lo+k)then(aL.ad j5 ys).cell (i - lo) j else(aL.ad cs xs).cell i j)):p (dh (.ad cs xs) lo k (.ad j5 ys)):=by
 simp only[dh];split
 ·rename_i h _;exact h1 h.down
 ·exact h2
theorem qQ(c d:aL){lo k:Nat}(h:lo+k≤c.n)(hk:k≤d.n):
 (dh c lo k d).n=c.n∧(dh c lo k d).size=c.size∧∀i j,i<c.n→(dh c lo k d).cell i j=if lo≤i∧i<lo+k then d.cell (i - lo) j else c.cell i j:=by
 have other:∀c':aL,c'=.ef c.size c.n (fun i j=>bif lo.ble i&&i.blt (lo+k)then d.cell (i - lo) j else c.cell i j)→
  c'.n=c.n∧c'.size=c.size∧∀i j,i<c.n→c'.cell i j=if lo≤i∧i<lo+k then d.cell (i - lo) j else c.cell i j:=by
  rintro c' rfl;exact⟨rfl,rfl,fun i j _=>aeh⟩
 cases c<;>cases d
 case ints.ints k1 xs k2 ys=>
  simp only[dh];cases hkk:bK k1 k2
  ·exact other _ rfl
  ·obtain rfl:=bd hkk;simp only[aL.n]at h hk;refine⟨fc xs ys h hk,rfl,fun i j _=> ?_⟩;simp only[aL.cell,iZ xs ys _ h hk,cond_true];split<;>rfl
 case strs.strs xs ys=>
  simp only[aL.n]at h hk;refine⟨fc xs ys h hk,rfl,fun i j _=> ?_⟩;simp only[dh,aL.cell,iZ xs ys _ h hk];split<;>rfl
 case bQ.bQ xs ys=>
  simp only[aL.n]at h hk;refine⟨fc xs ys h hk,rfl,fun i j _=> ?_⟩;simp only[dh,aL.cell,iZ xs ys _ h hk];split<;>rfl
 case ad.ad cs xs j5 ys=>
  simp only[aL.n]at h hk;refine yN xs ys lo k (fun c'=>c'.n=(aL.ad cs xs).n∧c'.size=(aL.ad cs xs).size∧∀i j,i<(aL.ad cs xs).n→c'.cell i j=if lo≤i∧i<lo+k then(aL.ad j5 ys).cell (i - lo) j else(aL.ad cs xs).cell i j) ?_ (other _ rfl);rintro rfl;refine⟨fc xs ys h hk,rfl,fun i j _=> ?_⟩;simp only[aL.cell,iZ xs ys _ h hk];split<;>rfl
 all_goals exact other _ rfl
theorem Good.upd(hs:Sat ρ H G w){id:Nat}{o o':ab}(ho:H id=some o)(ha:o.alive=o'.alive)
 (p6:∀c' e',o'=.vec c' e'→∃c e,o=.vec c e∧c'.n=c.n∧c'.size=c.size) {r:AV} {v:Value}
 (dQ:gQ ρ (ax H id o') (aP ρ H G) w (ρ id) o') (hr:af ρ (ax H id o') (aP ρ H G) w r v):Good ρ H G w (ax H id o') r v w:=by
 have hh:=wX (ρ:=ρ) (G:=G) ho ha
 have st:Step ρ H (aP ρ H G) w ρ (ax H id o') (aP ρ (ax H id o') G) w:=by
  refine⟨fun _ _ _=>rfl,fun j x hx=> ?_,fun c hc=>.inl (by rw[hh]at hc;exact hc),fun c hc hO=>rfl,Nat.le_refl _⟩;by_cases hj:j=id
  ·subst hj;rw[ho]at hx;cases hx;exact⟨o',by simp[ax],p6⟩
  ·exact⟨x,by simp[ax,hj,hx],fun c' e' hc=>⟨c',e',hc,rfl,rfl⟩⟩
 refine⟨ρ,⟨fun j x hx=> ?_,fun i j oi oj c h1 h2 h3 h4 h5 h6=> ?_,fun c hc=> ?_,hs.low⟩,by rw[hh];exact hr,st,⟨rfl,rfl,rfl,fun _ _ _=>rfl⟩⟩
 ·by_cases hj:j=id
  ·subst hj;simp only[ax,if_true,Option.some.injEq]at hx;subst hx;rw[hh];exact dQ
  ·have hx':H j=some x:=by simpa[ax,hj]using hx
   exact(hs.obj j x hx').step st (fun _ _ _=>rfl)
 ·have f:∀i oi,ax H id o' i=some oi→oi.alive=true→∃x,H i=some x∧x.alive=true:=by
   intro i oi hi so;by_cases eF:i=id
   ·subst eF;simp only[ax,if_true,Option.some.injEq]at hi;subst hi;exact⟨o,ho,ha.trans so⟩
   ·exact⟨oi,by simpa[ax,eF]using hi,so⟩
  obtain⟨x,hx,hxa⟩:=f i oi h1 h3;obtain⟨y,hy,hya⟩:=f j oj h2 h4;exact hs.inj i j x y c hx hy hxa hya h5 h6
 ·exact hs.apart c ((wW ho ha c).1 hc)
theorem oL(hs:Sat ρ H G w){id:Nat}{c d:aL}{e:TypeId}(ho:H id=some (.vec c e)){lo k:Nat}(hlo:lo+k≤c.n)(hk:k≤d.n)(h1:1≤c.size){news:List Value}
 (hlen:news.length=k*c.size) (qa:∀u∈news,u.oneCell'=true) (ko:∀i j,i<k→j<c.size→∃u,news[i*c.size+j]? =some u∧aT (aP ρ H G) w (d.cell i j) u):
 ∃w',(∀a cap x,ρ id=.slice a c.n cap→(k=0∨a.map (·.add (lo*c.size))=some x)→(storeCells x news 0).run P w=.ok () w')∧(k=0→w'=w)∧
  ∀r v,(∀w2,af ρ (ax H id (.vec (dh c lo k d) e)) (aP ρ H G) w2 r v)→Good ρ H G w (ax H id (.vec (dh c lo k d) e)) r v w':=by
 obtain⟨hn,bR,oM⟩:=qQ c d hlo hk;obtain⟨a,cap,dK,q1,q2,q3⟩:=hs.obj id _ ho;have p6:∀c' e',ab.vec (dh c lo k d) e=.vec c' e'→∃c1 e1,ab.vec c e=.vec c1 e1∧c'.n=c1.n∧c'.size=c1.size:=fun c' e' hc=>by cases hc;exact⟨c,e,rfl,hn,bR⟩
 have hh:=wX (ρ:=ρ) (G:=G) ho (show(ab.vec c e).alive=(ab.vec (dh c lo k d) e).alive from rfl);rcases Nat.eq_zero_or_pos k with h0|h0
 ·subst h0;have iH:news=[]:=List.eq_nil_of_length_eq_zero (by rw[hlen];simp);subst iH;refine⟨w,fun a cap x _ _=>rfl,fun _=>rfl,fun r v hr=>Good.upd (o':=.vec (dh c lo 0 d) e) hs ho rfl p6 ?_ (hr w)⟩;have hc:∀i j,i<c.n→(dh c lo 0 d).cell i j=c.cell i j:=fun i j hi=>by rw[oM i j hi,if_neg (by omega)]
  refine⟨a,cap,by rw[hn];exact dK,by omega,q2, ?_⟩;rcases q3 with q3|⟨b,o,cells,fr,us,e1,e2,e3,e4,e5⟩
  ·exact .inl q3
  ·exact .inr ⟨b,o,cells,fr,us,e1,e2,e3,by rw[bR];exact e4,fun i j hi hj=>by rw[hn]at hi;rw[bR]at hj ⊢;rw[hc i j hi];exact e5 i j hi hj⟩
 ·rcases q3 with q3|⟨b,o,cells,fr,us,rfl,e2,e3,e4,e5⟩
  ·omega
  ·have kI:eg (ρ id)=some b:=by rw[dK];simp only[eg];rw[if_neg (by omega)]
   have hm1:(lo+k)*c.size≤cap*c.size:=Nat.mul_le_mul_right _ (by omega);rw[Nat.add_mul]at hm1;have hl:o+lo*c.size+news.length≤cells.length:=by omega
   have vC:(cells.take (o+lo*c.size)++news++cells.drop (o+lo*c.size+news.length)).length=cells.length:=by
    simp only[List.length_append,List.length_take,List.length_drop];omega
   let obj:Obj:=.cells (cells.take (o+lo*c.size)++news++cells.drop (o+lo*c.size+news.length)).toArray e fr;refine⟨World.cw w b obj,fun a' adX x hr hx=> ?_,fun h=>by omega,fun r v hr=> ?_⟩
   ·rw[dK]at hr;cases hr;rcases hx with hx|hx
    ·omega
    ·simp only[Option.map_some,a8,Option.some.injEq]at hx;subst hx;have:=bL (P:=P) (o+lo*c.size) news 0 e2 e3.unm (by omega) qa;rw[Nat.add_zero]at this;exact this
   ·have st:=ji (G:=G) (w:=w) (o':=.vec (dh c lo k d) e) ho rfl kI p6 obj;refine Good.write hs ho rfl rfl kI p6 ?_ (hr _);refine⟨some ⟨b,o,none⟩,cap,by rw[hn];exact dK,by omega,q2,.inr ⟨b,o,_,fr,fun i j=>if lo≤i∧i<lo+k then news.getD ((i - lo)*c.size+j) undef else us i j,rfl,dT e2,e3.over qa (by omega),by rw[vC,bR];exact e4,fun i j hi hj=> ?_⟩⟩;rw[hn]at hi;rw[bR]at hj ⊢;rw[oM i j hi,w7 _ _ _ hl];dsimp only;by_cases dz:lo≤i∧i<lo+k
    ·obtain⟨u,g1,g2⟩:=ko (i - lo) j (by omega) hj;have hmul:i*c.size=lo*c.size+(i - lo)*c.size:=by rw[←Nat.add_mul];congr 1;omega
     have bm:=(List.getElem?_eq_some_iff.1 g1).1;simp only[if_pos dz];rw[if_pos (by omega),show o+i*c.size+j - (o+lo*c.size)=(i - lo)*c.size+j from by omega,g1];have:news.getD ((i - lo)*c.size+j) undef=u:=by simp[List.getD,g1]
     rw[this];exact⟨rfl,g2.step st.fz st.heap st.size⟩
    ·simp only[if_neg dz]
     have nj:¬(o+lo*c.size≤o+i*c.size+j∧o+i*c.size+j<o+lo*c.size+news.length):=by
      intro hc;rcases Nat.lt_or_ge i lo with h2|h2
      ·have:(i+1)*c.size≤lo*c.size:=Nat.mul_le_mul_right _ (by omega);rw[Nat.succ_mul]at this;omega
      ·have:(lo+k)*c.size≤i*c.size:=Nat.mul_le_mul_right _ (by omega);rw[Nat.add_mul]at this;omega
     rw[if_neg nj];obtain⟨g1,g2⟩:=e5 i j hi hj;exact⟨g1,g2.step st.fz st.heap st.size⟩
end
end Go.Sx
namespace Go.Sx
open Go
section
variable{ρ aF:Nat→Value}{H H':aM}{G O O':Nat→Prop}{w w':World}{P:Program}
theorem kN{cs j5:List CK}(xs:List (CL cs))(ys:List (CL j5))(p:aL→Prop)(h1:∀e:j5=cs,p (.ad cs (xs++e▸ys)))
 (h2:p (.ef (CL.wide cs) (xs.length+ys.length) fun i j=>bif i.blt xs.length then(aL.ad cs xs).cell i j else(aL.ad j5 ys).cell (i - xs.length) j)):p (db (.ad cs xs) (.ad j5 ys)):=by
 simp only[db];split
 ·rename_i h _;exact h1 h.down
 ·exact h2
theorem sD(c d:aL):(db c d).n=c.n+d.n:=by
 by_cases ht:∃cs xs j5 ys,c=.ad cs xs∧d=.ad j5 ys
 ·obtain⟨cs,xs,j5,ys,rfl,rfl⟩:=ht;refine kN xs ys (fun r=>r.n=_) (fun e=> ?_) rfl;subst e;simp[aL.n]
 cases c<;>cases d<;>first|(exact absurd ⟨_,_,_,_,rfl,rfl⟩ ht)|skip
 all_goals simp only[db,aL.n,List.length_append]
 rename_i k xs k' ys;cases bK k k'<;>simp
theorem l8(c d:aL)(h:d.size=c.size):(db c d).size=c.size:=by
 by_cases ht:∃cs xs j5 ys,c=.ad cs xs∧d=.ad j5 ys
 ·obtain⟨cs,xs,j5,ys,rfl,rfl⟩:=ht;exact kN xs ys (fun r=>r.size=_) (fun e=>by subst e;rfl) rfl
 cases c<;>cases d<;>first|(exact absurd ⟨_,_,_,_,rfl,rfl⟩ ht)|skip
 all_goals simp only[db,aL.size]at h ⊢
 rename_i k xs k' ys;cases bK k k'<;>rfl
theorem qd{α:Type}(xs ys:List α)(d:α){i:Nat}(h:i<xs.length):(xs++ys).getD i d=xs.getD i d:=by
 simp[List.getD,List.getElem?_append_left h]
theorem qg{α:Type}(xs ys:List α)(d:α){i:Nat}(h:¬i<xs.length):(xs++ys).getD i d=ys.getD (i - xs.length) d:=by
 simp[List.getD,List.getElem?_append_right (Nat.le_of_not_lt h)]
theorem sE{i n:Nat}(h:i<n):i.blt n=true:=by simpa[Nat.blt,Nat.lt_iff_add_one_le]using h
theorem qh{i n:Nat}(h:¬i<n):i.blt n=false:=by
 cases hb:i.blt n with
 |false=>rfl
 |true=>exact absurd (by simpa[Nat.blt,Nat.lt_iff_add_one_le]using hb) h
theorem xa(c d:aL){i:Nat}(j:Nat)(h:i<c.n):(db c d).cell i j=c.cell i j:=by
 by_cases ht:∃cs xs j5 ys,c=.ad cs xs∧d=.ad j5 ys
 ·obtain⟨cs,xs,j5,ys,rfl,rfl⟩:=ht;simp only[aL.n]at h;refine kN xs ys (fun r=>r.cell i j=_) (fun e=> ?_) ?_
  ·subst e;simp only[aL.cell,qd _ _ _ h]
  ·simp only[aL.cell,sE h,cond_true]
 cases c<;>cases d<;>first|(exact absurd ⟨_,_,_,_,rfl,rfl⟩ ht)|skip
 all_goals simp only[db,aL.cell,aL.n]at h ⊢
 all_goals first
  |(rw[qd _ _ _ h];done)
  |(simp only[sE h,cond_true];done)
  |(rename_i k xs k' ys
    cases hk:bK k k'
    ·simp only[cond_false,sE h,cond_true]
    ·simp only[cond_true,qd _ _ _ h])
theorem xb(c d:aL){i:Nat}(j:Nat)(h:¬i<c.n):(db c d).cell i j=d.cell (i - c.n) j:=by
 by_cases ht:∃cs xs j5 ys,c=.ad cs xs∧d=.ad j5 ys
 ·obtain⟨cs,xs,j5,ys,rfl,rfl⟩:=ht;simp only[aL.n]at h;refine kN xs ys (fun r=>r.cell i j=_) (fun e=> ?_) ?_
  ·subst e;simp only[aL.cell,aL.n,qg _ _ _ h]
  ·simp only[aL.cell,aL.n,qh h,cond_false]
 cases c<;>cases d<;>first|(exact absurd ⟨_,_,_,_,rfl,rfl⟩ ht)|skip
 all_goals simp only[db,aL.cell,aL.n]at h ⊢
 all_goals first
  |(rw[qg _ _ _ h];done)
  |(simp only[qh h,cond_false];done)
  |(rename_i k xs k' ys
    cases hk:bK k k'
    ·simp only[cond_false,qh h]
    ·obtain rfl:=bd hk;simp only[cond_true,qg _ _ _ h])
theorem eK{id:Nat}{o:ab}(ho:H id=some o):Step ρ H (aP ρ H G) w ρ (ax H id .dead) (aP ρ (ax H id .dead) G) w:=by
 refine⟨fun _ _ _=>rfl,fun j x hx=> ?_,fun b hb=> ?_,fun _ _ _=>rfl,Nat.le_refl _⟩
 ·by_cases hj:j=id
  ·subst hj;exact⟨.dead,by simp[ax],by simp⟩
  ·exact⟨x,by simp[ax,hj,hx],fun c' e' hc=>⟨c',e',hc,rfl,rfl⟩⟩
 ·rcases hb with⟨j,x,hx,h1,h2⟩|hb
  ·by_cases hj:j=id
   ·subst hj;simp only[ax,if_true,Option.some.injEq]at hx;subst hx;simp[ab.alive]at h1
   ·exact .inl (.inl ⟨j,x,by simpa[ax,hj]using hx,h1,h2⟩)
  ·exact .inl (.inr hb)
theorem fe{id:Nat}{b:Nat}(h:Own ρ (ax H id .dead) b):Own ρ H b:=by
 obtain⟨j,x,hx,h1,h2⟩:=h;by_cases hj:j=id
 ·subst hj;simp only[ax,if_true,Option.some.injEq]at hx;subst hx;simp[ab.alive]at h1
 ·exact⟨j,x,by simpa[ax,hj]using hx,h1,h2⟩
theorem Sat.kill(hs:Sat ρ H G w){id:Nat}{o:ab}(ho:H id=some o):Sat ρ (ax H id .dead) G w:=by
 have st:=eK (ρ:=ρ) (G:=G) (w:=w) ho;refine⟨fun j x hx=> ?_,fun i j oi oj b h1 h2 h3 h4 h5 h6=> ?_,fun b hb=>hs.apart b (fe hb),hs.low⟩
 ·by_cases hj:j=id
  ·subst hj;simp only[ax,if_true,Option.some.injEq]at hx;subst hx;trivial
  ·exact(hs.obj j x (by simpa[ax,hj]using hx)).step st (fun _ _ _=>rfl)
 ·have f:∀i oi,ax H id .dead i=some oi→oi.alive=true→H i=some oi:=by
   intro i oi hi so;by_cases eF:i=id
   ·subst eF;simp only[ax,if_true,Option.some.injEq]at hi;subst hi;simp[ab.alive]at so
   ·simpa[ax,eF]using hi
  exact hs.inj i j oi oj b (f i oi h1 h3) (f j oj h2 h4) h3 h4 h5 h6
theorem Good.after{H1 H2:aM}(kO:Step ρ H (aP ρ H G) w ρ H1 (aP ρ H1 G) w)(dC:∀b,Own ρ H1 b→Own ρ H b){r:AV}{v:Value}(h:Good ρ H1 G w H2 r v w'):Good ρ H G w H2 r v w':=by
 obtain⟨aF,h1,h2,h3,h4⟩:=h;exact⟨aF,h1,h2,kO.trans h3,h4.os,h4.tape,h4.output,fun b hb hO=>h4.heap b hb (fun hx=>hO (dC b hx))⟩
theorem qi(hs:Sat ρ H G w){n:Nat}(hn:H n=none){c:aL}{e:TypeId}(h0:c.n=0)(a:Option Addr):
 Good ρ H G w (ax H n (.vec c e)) (.vec n) (.slice a c.n 0) w:=by
 have ne:∀j x,H j=some x→j≠n:=fun j x hx e=>by subst e;rw[hn]at hx;cases hx
 have hb:eg (.slice a c.n 0)=none:=by cases a<;>simp[eg]
 have oF:∀b,Own (fun j=>if j=n then .slice a c.n 0 else ρ j) (ax H n (.vec c e)) b→Own ρ H b:=by
  rintro b ⟨j,x,hx,h1,h2⟩;by_cases hj:j=n
  ·subst hj;simp only[if_true]at h2;rw[hb]at h2;cases h2
  ·simp only[ax,hj,if_false]at hx h2;exact⟨j,x,hx,h1,h2⟩
 have st:Step ρ H (aP ρ H G) w (fun j=>if j=n then .slice a c.n 0 else ρ j) (ax H n (.vec c e)) (aP (fun j=>if j=n then .slice a c.n 0 else ρ j) (ax H n (.vec c e)) G) w:=
  ⟨fun j x hx=>by simp[ne j x hx],fun j x hx=>⟨x,by simp[ax,ne j x hx,hx],fun c' e' hc=>⟨c',e',hc,rfl,rfl⟩⟩,fun b hb=>.inl (hb.imp (oF b) id),fun b hb _=>rfl,Nat.le_refl _⟩
 refine⟨_,⟨fun j x hx=> ?_,fun i j oi oj b h1 h2 h3 h4 h5 h6=> ?_,fun b hb=>hs.apart b (oF b hb),hs.low⟩, ?_,st,rfl,rfl,rfl,fun _ _ _=>rfl⟩
 ·by_cases hj:j=n
  ·subst hj;simp only[ax,if_true,Option.some.injEq]at hx;subst hx;simp only[if_true];exact⟨a,0,rfl,by omega,by simp[maxLen],.inl rfl⟩
  ·have hx':H j=some x:=by simpa[ax,hj]using hx
   simp only[hj,if_false];exact(hs.obj j x hx').step st (fun _ _ _=>rfl)
 ·by_cases hi:i=n
  ·subst hi;simp only[if_true]at h5;rw[hb]at h5;cases h5
  ·by_cases hj:j=n
   ·subst hj;simp only[if_true]at h6;rw[hb]at h6;cases h6
   ·simp only[ax,hi,hj,if_false]at h1 h2 h5 h6;exact hs.inj i j oi oj b h1 h2 h3 h4 h5 h6
 ·unfold af aD;exact⟨rfl,.vec c e,by simp[ax],fun c' e' hc=>by simp⟩
theorem vD{z:Array Value}(h:∀u∈z.toList,u.oneCell'=true)(n:Nat):∀u∈(Builtin.zeroCells z n).toList,u.oneCell'=true:=by
 intro u hu;simp only[Builtin.zeroCells,Array.toList_map,Array.toList_range,List.mem_map,List.mem_range]at hu;obtain⟨m,hm,rfl⟩:=hu
 have hp:0<z.size:=by
  rcases Nat.eq_zero_or_pos z.size with h0|h0
  ·rw[h0]at hm;omega
  ·exact h0
 have bm:m%z.size<z.size:=Nat.mod_lt _ hp;rw[getElem!_pos z (m%z.size) bm];exact h _ (Array.mem_toList_iff.2 (Array.getElem_mem bm))
theorem apn(hs:Sat ρ H G w){id n:Nat}{o:ab}(ho:H id=some o)(ha:o.alive=true)(hn:H n=none){b f:Nat}(hb:eg (ρ id)=some b){c:aL}{e:TypeId}{cap:Nat}{cells:List Value}{fr:Nat×Nat}{old:Obj}
 (hold:w.heap[b]? =some old) (hu:wR fr cells) (h1:c.n≤cap) (h2:cap≤maxLen) (h3:f+cap*c.size≤cells.length) (us:Nat→Nat→Value)
 (hd:∀i j,i<c.n→j<c.size→cells[f+i*c.size+j]? =some (us i j)∧aT (aP ρ H G) w (c.cell i j) (us i j)):
 Good ρ H G w (ax (ax H id .dead) n (.vec c e)) (.vec n) (.slice (some ⟨b,f,none⟩) c.n cap) (World.cw w b (.cells cells.toArray e fr)):=by
 have ne:∀j x,H j=some x→j≠n:=fun j x hx e=>by subst e;rw[hn]at hx;cases hx
 have amX:id≠n:=ne id o ho;have dC:Own ρ H b:=⟨id,o,ho,ha,hb⟩
 have oK:∀b',eg (.slice (some ⟨b,f,none⟩) c.n cap)=some b'→b'=b:=by
  intro b' rl;simp only[eg]at rl;split at rl
  ·cases rl
  ·simpa using rl.symm
 have oF:∀b',Own (fun j=>if j=n then .slice (some ⟨b,f,none⟩) c.n cap else ρ j) (ax (ax H id .dead) n (.vec c e)) b'→Own ρ H b':=by
  rintro b' ⟨j,x,hx,g1,g2⟩;by_cases hj:j=n
  ·subst hj;simp only[if_true]at g2;rw[oK b' g2];exact dC
  ·by_cases hi:j=id
   ·subst hi;simp only[ax,hj,if_false,if_true,Option.some.injEq]at hx;subst hx;simp[ab.alive]at g1
   ·simp only[ax,hj,hi,if_false]at hx g2;exact⟨j,x,hx,g1,g2⟩
 have st:Step ρ H (aP ρ H G) w (fun j=>if j=n then .slice (some ⟨b,f,none⟩) c.n cap else ρ j) (ax (ax H id .dead) n (.vec c e)) (aP (fun j=>if j=n then .slice (some ⟨b,f,none⟩) c.n cap else ρ j) (ax (ax H id .dead) n (.vec c e)) G) (World.cw w b (.cells cells.toArray e fr)):=by
  refine⟨fun j x hx=>by simp[ne j x hx],fun j x hx=> ?_,fun b' rl=>.inl (rl.imp (oF b') _root_.id),fun b' rl hO=>gS (fun e=>hO (.inl (by subst e;exact dC))),by rw[ib];exact Nat.le_refl _⟩;by_cases hi:j=id
  ·subst hi;exact⟨.dead,by simp[ax,amX],by simp⟩
  ·exact⟨x,by simp[ax,ne j x hx,hi,hx],fun c' e' hc=>⟨c',e',hc,rfl,rfl⟩⟩
 refine⟨_,⟨fun j x hx=> ?_,fun i j oi oj b' g1 g2 g3 g4 g5 g6=> ?_,fun b' rl=>hs.apart b' (oF b' rl),fun b' rl=>by rw[ib];exact hs.low b' rl⟩, ?_,st,rfl,rfl,rfl,fun b' rl hO=>gS (fun e=>hO (by subst e;exact dC))⟩
 ·by_cases hj:j=n
  ·subst hj;simp only[ax,if_true,Option.some.injEq]at hx;subst hx;simp only[if_true];refine⟨_,cap,rfl,h1,h2,.inr ⟨b,f,cells,fr,us,rfl,dT hold,hu,h3,fun i j hi hj=> ?_⟩⟩;obtain⟨k1,k2⟩:=hd i j hi hj;exact⟨k1,k2.step st.fz st.heap st.size⟩
  ·by_cases hi:j=id
   ·subst hi;simp only[ax,hj,if_false,if_true,Option.some.injEq]at hx;subst hx;trivial
   ·have hx':H j=some x:=by simpa[ax,hj,hi]using hx
    simp only[hj,if_false];refine(hs.obj j x hx').step st (fun b' so rl=>gS (fun e=>hi ?_));subst e;exact hs.inj j id x o b' hx' ho so ha rl hb
 ·have f':∀i oi,ax (ax H id .dead) n (.vec c e) i=some oi→oi.alive=true→i≠n→i≠id∧H i=some oi:=by
   intro i oi hi so cL;by_cases eF:i=id
   ·subst eF;simp only[ax,cL,if_false,if_true,Option.some.injEq]at hi;subst hi;simp[ab.alive]at so
   ·exact⟨eF,by simpa[ax,cL,eF]using hi⟩
  by_cases hi:i=n<;>by_cases hj:j=n
  ·rw[hi,hj]
  ·obtain⟨k1,k2⟩:=f' j oj g2 g4 hj;simp only[hi,hj,if_true,if_false]at g5 g6;have:=oK b' g5;subst this;exact absurd (hs.inj j id oj o b' k2 ho g4 ha g6 hb) k1
  ·obtain⟨k1,k2⟩:=f' i oi g1 g3 hi;simp only[hi,hj,if_true,if_false]at g5 g6;have:=oK b' g6;subst this;exact absurd (hs.inj i id oi o b' k2 ho g3 ha g5 hb) k1
  ·simp only[hi,hj,if_false]at g5 g6;exact hs.inj i j oi oj b' (f' i oi g1 g3 hi).2 (f' j oj g2 g4 hj).2 g3 g4 g5 g6
 ·unfold af aD;exact⟨rfl,.vec c e,by simp[ax],fun c' e' hc=>by simp⟩
theorem fH{t t' ty e:TypeId}{i:TypeInfo}{a:Option Addr}{n cap m:Nat}{vy:Value}{news:List Value}
 (ht:P.underlying t=some (.slice e)) (hi:P.info? e=some i) (hzero:(∃e',P.underlying t'=some (.slice e'))∨P.underlying t'=some .string)
 (hlen:(Builtin.lenOf vy).run P w=.ok m w) (jj:(Builtin.firstCells i.size m vy).run P w=.ok news.toArray w) (l9:n+m≤cap)
 (kO:∀x,a=some x→(storeCells (x.add (n*i.size)) news 0).run P w=.ok () w') (rm:a=none→w'=w):
 (Builtin.append_ #[t,t'] ty #[.slice a n cap,vy]).run P w=.ok (.slice a (n+m) cap) w':=by
 rcases hzero with⟨e',hd⟩|hd<;>cases a with
 |none=>
  rw[rm rfl];simp[Builtin.append_,run_underlying ht,run_underlying hd,sizeOf,typeInfo,hi,hlen,l9,jj]
 |some x=>
  have:=kO x rfl;simp[Builtin.append_,run_underlying ht,run_underlying hd,sizeOf,typeInfo,hi,hlen,l9,jj,this]
theorem ma{t t' ty e:TypeId}{i:TypeInfo}{z:Value}{a:Option Addr}{n cap m:Nat}{vy:Value}{olds news:List Value}
 (ht:P.underlying t=some (.slice e)) (hi:P.info? e=some i) (hz:i.zero=some z) (hzero:(∃e',P.underlying t'=some (.slice e'))∨P.underlying t'=some .string)
 (hlen:(Builtin.lenOf vy).run P w=.ok m w) (hold:(Builtin.firstCells i.size n (.slice a n cap)).run P w.drew=.ok olds.toArray w.drew) (jj:(Builtin.firstCells i.size m vy).run P w.drew=.ok news.toArray w.drew) (l9:¬n+m≤cap)
 (hsm:(n+m)*i.bytes≤140737488355328) (hb1:1≤i.bytes):
 ∃mc,n+m≤mc∧mc≤maxLen∧(Builtin.append_ #[t,t'] ty #[.slice a n cap,vy]).run P w=
  .ok (.slice (some ⟨w.heap.size,0,none⟩) (n+m) mc) (w.drew.alloc (.cells (olds++news++(Builtin.zeroCells z.cells (mc - (n+m))).toList).toArray e)):=by
 have hnm:n+m≤140737488355328:=Nat.le_trans (by have:=Nat.mul_le_mul_left (n+m) hb1;omega) hsm;refine⟨grownCap w (n+m) cap e,grownCap_ge w _ _ _,grownCap_le_maxLen w _ _ _ (by simp only[maxLen];omega), ?_⟩
 have yM:¬(281474976710656<Builtin.nextslicecap (n+m) cap*i.bytes):=by
  have h1:=qc (need:=n+m) (old:=cap) (by omega);have h2:Builtin.nextslicecap (n+m) cap*i.bytes≤(2*(n+m))*i.bytes:=Nat.mul_le_mul_right _ h1;rw[Nat.mul_assoc]at h2;omega
 have abp:¬(9223372036854775807<(n:Int)+(m:Int)):=by omega
 have aje:∀X:Array Value,olds.toArray++(news.toArray++X)=(olds++(news++X.toList)).toArray:=fun X=>by
  apply Array.toList_inj.1;simp
 have hq:¬((Question.appendCap (n+m) cap e).forced=true):=by simp[Question.forced]
 rcases hzero with⟨e',hd⟩|hd
 ·simp[Builtin.append_,run_underlying ht,run_underlying hd,sizeOf,typeInfo,hi,hlen,l9,abp,yM,hold,jj,zeroValue,hz,newRow];rw[if_neg hq,aje];rfl
 ·simp[Builtin.append_,run_underlying ht,run_underlying hd,sizeOf,typeInfo,hi,hlen,l9,abp,yM,hold,jj,zeroValue,hz,newRow];rw[if_neg hq,aje];rfl
theorem ajf(hs:Sat ρ H G w){id:Nat}{c:aL}{e:TypeId}(ho:H id=some (.vec c e)):nS (aP ρ H G) w c (ρ id):=by
 obtain⟨a,cap,h1,h2,h3,h4⟩:=hs.obj id _ ho;rcases h4 with rfl|⟨b,o,cells,fr,us,rfl,h5,h6,h7,h8⟩
 ·exact⟨a,0,fun _ _=>undef,h1,h2,h3,fun h0=>by omega⟩
 ·refine⟨_,cap,us,h1,h2,h3,fun _=>⟨b,o,rfl,(Array.getElem?_eq_some_iff.1 h5).1,fun i j hi hj=> ?_⟩⟩;obtain⟨h9,w5⟩:=h8 i j hi hj;exact⟨by rw[dc h5];exact h9,w5⟩
theorem afZ{sh:Shape}{size:Nat}{x:AV}{k:aL→Option Nat→RM bH}{v:Value}{q:bH}(h:(vn sh size x k).eval H=some q)(hs:Sat ρ H G w)(hd:af ρ H (aP ρ H G) w x v)(h1:1≤size):
 ∃c idy,(k c idy).eval H=some q∧(c.size=size→∃news,Src P (aP ρ H G) w size c v news):=by
 unfold vn at h;split at h
 ·rename_i s;obtain rfl:=eV hd;refine⟨_,_,h,fun bR=> ?_⟩;simp only[aL.size]at bR;subst bR;exact ajd
 ·obtain⟨c,idy,h2,h3⟩:=sr h hs hd;exact⟨c,idy,h2,fun bR=>rH h3 bR h1⟩
theorem qj{c d:aL}{size:Nat}{olds news rest:List Value}(hc:c.size=size)(hdz:d.size=size)(_h1:1≤size)(ho:olds.length=c.n*size)(_hn:news.length=d.n*size)
 (h2:∀i j,i<c.n→j<size→∃u,olds[i*size+j]? =some u∧aT O w (c.cell i j) u) (h3:∀i j,i<d.n→j<size→∃u,news[i*size+j]? =some u∧aT O w (d.cell i j) u) (pre:List Value):
 ∀i j,i<(db c d).n→j<(db c d).size→(pre++(olds++news++rest))[pre.length+i*(db c d).size+j]? =some ((pre++(olds++news++rest)).getD (pre.length+i*(db c d).size+j) undef)∧
  aT O w ((db c d).cell i j) ((pre++(olds++news++rest)).getD (pre.length+i*(db c d).size+j) undef):=by
 intro i j hi hj;have bR:(db c d).size=size:=by rw[l8 c d (by omega),hc]
 rw[sD]at hi;rw[bR]at hj ⊢
 have key:∃u,(pre++(olds++news++rest))[pre.length+i*size+j]? =some u∧aT O w ((db c d).cell i j) u:=by
  rw[Nat.add_assoc,List.getElem?_append_right (by omega),Nat.add_sub_cancel_left,List.append_assoc];by_cases bm:i<c.n
  ·obtain⟨u,g1,g2⟩:=h2 i j bm hj;refine⟨u, ?_,by rw[xa c d j bm];exact g2⟩;rw[List.getElem?_append_left (List.getElem?_eq_some_iff.1 g1).1];exact g1
  ·obtain⟨u,g1,g2⟩:=h3 (i - c.n) j (by omega) hj;refine⟨u, ?_,by rw[xb c d j bm];exact g2⟩;have hm:c.n*size+(i - c.n)*size=i*size:=by rw[←Nat.add_mul];congr 1;omega
   rw[List.getElem?_append_right (by omega)];rw[show i*size+j - olds.length=(i - c.n)*size+j from by omega];rw[List.getElem?_append_left (List.getElem?_eq_some_iff.1 g1).1];exact g1
 obtain⟨u,g1,g2⟩:=key;have bm:=(List.getElem?_eq_some_iff.1 g1).1;have g1':=g1;rw[gx _ _ undef bm]at g1';simp only[Option.some.injEq]at g1';exact⟨gx _ _ _ bm,by rw[g1'];exact g2⟩
theorem abq{t t' ty:TypeId}{x y:AV}{vx vy:Value}{q:bH}(h:(wM P t x y).eval H=some q)(hn:bD q.need)(hs:Sat ρ H G w)
 (hx:af ρ H (aP ρ H G) w x vx) (hy:af ρ H (aP ρ H G) w y vy) (hzero:(∃e',P.underlying t'=some (.slice e'))∨P.underlying t'=some .string) {base:Nat} (hb:∀i,i<q.new.length→H (base+i)=none):
 ∃v w',(Builtin.append_ #[t,t'] ty #[vx,vy]).run P w=.ok v w'∧Good ρ H G w (cW H q.up base q.new) (q.r base) v w':=by
 unfold wM at h;split at h
 ·rename_i e ht;split at h
  ·rename_i i hi;simp only[]at h;rw[Bool.cond_eq_ite]at h;split at h
   ·rename_i hc;simp only[Bool.and_eq_true]at hc;obtain⟨⟨⟨c1,cb⟩,c2⟩,c3⟩:=hc;have c1:=Nat.le_of_ble_eq_true c1;have cb:=Nat.le_of_ble_eq_true cb
    obtain⟨z,hz,hzs,hz1⟩:∃z,i.zero=some z∧z.cells.size=i.size∧∀u∈z.cells.toList,u.oneCell'=true:=by
     cases hz:i.zero with
     |none=>simp[hz]at c3
     |some z=>
      simp only[hz,Option.any_some,Bool.and_eq_true,beq_iff_eq,List.all_eq_true]at c3;exact⟨z,rfl,c3.1,c3.2⟩
    obtain⟨d,idy,h1,nk⟩:=afZ (P:=P) h hs hy c1;rw[Bool.cond_eq_ite]at h1;split at h1
    ·rename_i hds;have hds:d.size=i.size:=by simpa using hds
     obtain⟨news,src⟩:=nk hds;split at h1
     ·
      simp only[RM.eval,Option.some.injEq]at h1;subst h1;have iG:H base=none:=by simpa using hb 0 (by simp)
      have hsm:d.n*i.bytes≤140737488355328:=hn.1;unfold af at hx;obtain⟨a,rfl⟩:=hx;simp only[ie];by_cases hm:d.n=0
      ·have iH:news=[]:=List.eq_nil_of_length_eq_zero (by rw[src.length,hm];simp);refine⟨.slice a (0+d.n) 0,w,fH ht hi hzero src.len (src.first w rfl) (by omega) (fun x _=>by rw[iH];rfl) (fun _=>rfl), ?_⟩;rw[Nat.zero_add];exact qi hs iG hm a
      ·obtain⟨mc,g1,g2,g3⟩:=ma (ty:=ty) (olds:=[]) (a:=a) (n:=0) (cap:=0) ht hi hz hzero src.len (by cases a<;>simp[Builtin.firstCells,loadCells,loadCellsFrom]) (src.first w.drew rfl) (by omega) (by rw[Nat.zero_add];exact hsm) cb;refine⟨_,_,g3, ?_⟩;rw[Nat.zero_add]at *;simp only[List.nil_append];refine kj (w1:=w.drew) hs rfl rfl rfl rfl iG g1 g2 ?_ (fun i' j'=>(news++(Builtin.zeroCells z.cells (mc - d.n)).toList).getD (i'*d.size+j') undef) (fun i' j' eF iP=> ?_) (fun u hu=>(List.mem_append.1 hu).elim (src.one u) (vD hz1 _ u))
       ·simp only[List.length_append,src.length,Array.length_toList,size_zeroCells,hzs,hds];rw[←Nat.add_mul];exact Nat.mul_le_mul_right _ (by omega)
       ·obtain⟨u,k1,k2⟩:=src.den i' j' eF (by omega);rw[←hds]at k1;have bm:=(List.getElem?_eq_some_iff.1 k1).1;have k3:(news++(Builtin.zeroCells z.cells (mc - d.n)).toList)[i'*d.size+j']? =some u:=by rw[List.getElem?_append_left bm];exact k1
        have k4:=k3;rw[gx _ _ undef (List.getElem?_eq_some_iff.1 k3).1]at k4;simp only[Option.some.injEq]at k4;rw[k4];exact⟨k3,k2⟩
     ·
      rename_i idx;simp only[RM.eval]at h1;split at h1
      ·rename_i c e' ho;rw[Bool.cond_eq_ite]at h1;split at h1
       ·rename_i hc;simp only[Bool.and_eq_true,Nat.beq_eq]at hc;obtain⟨⟨nU,rfl⟩,_⟩:=hc;simp only[RM.eval,Option.some.injEq]at h1;subst h1;have iG:H base=none:=by simpa using hb 0 (by simp)
        have hsm:(c.n+d.n)*i.bytes≤140737488355328:=hn.1;have yO:idx≠base:=fun e=>by rw[←e,ho]at iG;cases iG
        unfold af aD at hx;obtain⟨_,o,dg,hv⟩:=hx;rw[ho]at dg;cases dg;obtain rfl:=hv c e' rfl;obtain⟨olds,sF⟩:=rH (P:=P) (ajf hs ho) nU c1;obtain⟨a,cap,r1,r2,r3,r4⟩:=hs.obj idx _ ho;have hcd:d.size=c.size:=by omega
        have ajg:=l8 c d hcd;have han:=sD c d;have hmul:(c.n+d.n)*i.size=c.n*i.size+d.n*i.size:=Nat.add_mul _ _ _;simp only[ad6 _ _ _ _ yO];by_cases l9:c.n+d.n≤cap
        ·rcases r4 with rfl|⟨b,o,cells,fr,us,rfl,q1,q2,q3,q4⟩
         ·
          have yP:d.n=0:=by omega
          have iH:news=[]:=List.eq_nil_of_length_eq_zero (by rw[src.length,yP];simp);refine⟨.slice a (c.n+d.n) 0,w,by rw[r1];exact fH ht hi hzero src.len (src.first w rfl) l9 (fun x _=>by rw[iH];rfl) (fun _=>rfl), ?_⟩;have st:=eK (ρ:=ρ) (G:=G) (w:=w) ho;refine Good.after st (fun b hb=>fe hb) ?_;rw[←han];exact qi (hs.kill ho) (by simp[ax,Ne.symm yO,iG]) (by omega) a
         ·by_cases uM:cap=0
          ·subst uM;have yP:d.n=0:=by omega
           have iH:news=[]:=List.eq_nil_of_length_eq_zero (by rw[src.length,yP];simp);refine⟨.slice (some ⟨b,o,none⟩) (c.n+d.n) 0,w,by rw[r1];exact fH ht hi hzero src.len (src.first w rfl) l9 (fun x _=>by rw[iH];rfl) (fun _=>rfl), ?_⟩;have st:=eK (ρ:=ρ) (G:=G) (w:=w) ho;refine Good.after st (fun b hb=>fe hb) ?_;rw[←han];exact qi (hs.kill ho) (by simp[ax,Ne.symm yO,iG]) (by omega) _
          ·have kI:eg (ρ idx)=some b:=by rw[r1];simp[eg,uM]
           have atT:(c.n+d.n)*i.size≤cap*i.size:=Nat.mul_le_mul_right _ l9;have hlen:o+c.n*i.size+news.length≤cells.length:=by rw[src.length];rw[nU]at q3;omega
           refine⟨.slice (some ⟨b,o,none⟩) (c.n+d.n) cap,World.cw w b (.cells (cells.take (o+c.n*i.size)++news++cells.drop (o+c.n*i.size+news.length)).toArray e' fr), ?_, ?_⟩
           ·rw[r1];refine fH ht hi hzero src.len (src.first w rfl) l9 (fun x hx=> ?_) (fun hx=>by cases hx);cases hx;rw[a8];have:=bL (P:=P) (o+c.n*i.size) news 0 q1 q2.unm (by omega) src.one;simpa using this
           ·rw[←han]
            have vC:(cells.take (o+c.n*i.size)++news++cells.drop (o+c.n*i.size+news.length)).length=cells.length:=by
             simp only[List.length_append,List.length_take,List.length_drop];omega
            have amY:cells.take (o+c.n*i.size)++news++cells.drop (o+c.n*i.size+news.length)=cells.take o++((cells.drop o).take (c.n*i.size)++news++cells.drop (o+c.n*i.size+news.length)):=by
             rw[List.take_add];simp only[List.append_assoc]
            have hto:(cells.take o).length=o:=by simp;omega
            refine apn hs ho rfl iG kI q1 (q2.over src.one hlen) (by omega) r3 (by rw[vC,ajg];exact q3) (fun i' j'=>(cells.take o++((cells.drop o).take (c.n*i.size)++news++cells.drop (o+c.n*i.size+news.length))).getD ((cells.take o).length+i'*(db c d).size+j') undef) (fun i' j' eF iP=> ?_)
            have:=qj (O:=aP ρ H G) (w:=w) (c:=c) (d:=d) (size:=i.size) (olds:=(cells.drop o).take (c.n*i.size)) (news:=news) (rest:=cells.drop (o+c.n*i.size+news.length)) nU hds c1 (by simp;omega) src.length (fun i2 j2 hi2 rI=>by
             obtain⟨k1,k2⟩:=q4 i2 j2 hi2 (by omega);refine⟨_, ?_,k2⟩
             have hb2:i2*i.size+j2<c.n*i.size:=by
              have:(i2+1)*i.size≤c.n*i.size:=Nat.mul_le_mul_right _ (by omega);rw[Nat.succ_mul]at this;omega
             rw[List.getElem?_take,if_pos hb2,List.getElem?_drop,←Nat.add_assoc];rw[nU]at k1;exact k1) src.den (cells.take o) i' j' eF iP
            rw[amY];rw[hto]at this ⊢;exact this
        ·obtain⟨mc,g1,g2,g3⟩:=ma (ty:=ty) (olds:=olds) (a:=a) (n:=c.n) (cap:=cap) ht hi hz hzero src.len (by rw[←r1];exact sF.first w.drew rfl) (src.first w.drew rfl) l9 hsm cb;refine⟨_,_,by rw[r1];exact g3, ?_⟩;have st:=eK (ρ:=ρ) (G:=G) (w:=w) ho;refine Good.after st (fun b hb=>fe hb) ?_;rw[←han];refine kj (w1:=w.drew) (hs.kill ho) rfl rfl rfl rfl (by simp[ax,Ne.symm yO,iG]) (by omega) g2 ?_ (fun i' j'=>(olds++news++(Builtin.zeroCells z.cells (mc - (db c d).n)).toList).getD (i'*(db c d).size+j') undef) (fun i' j' eF iP=> ?_) (fun u hu=>(List.mem_append.1 hu).elim (fun hu=>(List.mem_append.1 hu).elim (sF.one u) (src.one u)) (vD hz1 _ u))
         ·simp only[List.length_append,src.length,sF.length,Array.length_toList,size_zeroCells,hzs,ajg,nU,han];rw[←Nat.add_mul,←Nat.add_mul];exact Nat.mul_le_mul_right _ (by omega)
         ·have:=qj (O:=aP ρ H G) (w:=w) (c:=c) (d:=d) (size:=i.size) (olds:=olds) (news:=news) (rest:=(Builtin.zeroCells z.cells (mc - (db c d).n)).toList) nU hds c1 sF.length src.length sF.den src.den [] i' j' eF iP;simp only[List.nil_append,List.length_nil,Nat.zero_add]at this;exact⟨this.1,this.2.step st.fz st.heap st.size⟩
       ·cases h1
      ·cases h1
     ·
      rename_i idx lo n;simp only[RM.eval]at h1;split at h1
      ·rename_i c e' ho;rw[Bool.cond_eq_ite]at h1;split at h1
       ·rename_i nU;have nU:c.size=i.size:=by simpa using nU
        simp only[RM.eval,Option.some.injEq]at h1;subst h1;have l9:lo+n+d.n≤c.n:=hn.1;obtain⟨g0,a,cap,a',g1,g2,g3,rfl,g4,g5⟩:=ic hs ho hx;obtain⟨w',k1,k2,k3⟩:=oL (P:=P) hs ho (lo:=lo+n) (k:=d.n) (d:=d) l9 (Nat.le_refl _) (by omega) (news:=news) (by rw[src.length,nU]) src.one (fun i' j' eF iP=>by rw[nU]at *;exact src.den i' j' eF iP);obtain⟨z1,z2,_⟩:=qQ c d l9 (Nat.le_refl _);refine⟨.slice a' (n+d.n) (cap - lo),w',fH ht hi hzero src.len (src.first w rfl) (by omega) (fun x hx=> ?_) (fun hx=> ?_), ?_⟩
        ·refine k1 a cap _ g1 ?_;by_cases h0:d.n=0
         ·exact .inl h0
         ·refine .inr ?_;have cL:cap≠lo:=by omega
          rw[g4 cL]at hx;obtain⟨b,o,rfl⟩:=g5 (by omega);simp only[Option.map_some,a8,Option.some.injEq]at hx ⊢;subst hx;rw[a8,nU,Nat.add_mul,Nat.add_assoc]
        ·refine k2 ?_;by_cases cL:cap=lo
         ·omega
         ·rw[g4 cL]at hx;obtain⟨b,o,rfl⟩:=g5 (by omega);cases hx
        ·simp only[fm];refine k3 _ _ (fun w2=> ?_);unfold af aD;refine⟨rfl,.vec (dh c (lo+n) d.n d) e',by simp[ax],fun c1 e1 hc=> ?_⟩;cases hc;exact⟨by rw[z1];omega,a,cap,a',by rw[z1];exact g1,by omega,rfl,by rw[z2];exact g4⟩
       ·cases h1
      ·cases h1
     ·cases h1
    ·cases h1
   ·cases h
  ·cases h
 ·cases h
end
end Go.Sx
namespace Go.Sx
open Go
section
variable{P:Program}{w:World}{b:Nat}{es:Array MapEntry}{clock:Nat}{ck:CK}{m:List (Int×ck.V)}
theorem hZ.get(h:hZ ck m es.toList clock){j:Nat}{e:MapEntry}(hj:es.toList[j]? =some e):∃k v,m[j]? =some (k,v)∧e.key=.int .i64 k∧e.val=ck.val v:=by
 have h1:=congrArg (fun l=>l[j]?) h.eq;simp only[List.getElem?_map,hj,Option.map_some]at h1;cases hm:m[j]? with
 |none=>rw[hm]at h1;cases h1
 |some p=>
  rw[hm]at h1;simp only[Option.map_some,Option.some.injEq,Prod.mk.injEq]at h1;exact⟨p.1,p.2,rfl,h1.1,h1.2⟩
theorem hZ.key(h:hZ ck m es.toList clock):∀e∈es.toList,MapKept.IsKey (.int .i64) e.key:=by
 intro e he;obtain⟨j,hj⟩:=List.getElem?_of_mem he;obtain⟨k,v,_,h2,_⟩:=h.get hj;rw[h2];rfl
theorem nV{V:Type}:∀{m:List (Int×V)} {j:Nat} {k:Int} {v:V},(m.map (·.1)).Nodup→m[j]? =some (k,v)→m.find? (fun p=>p.1==k)=some (k,v)
 |[],j,k,v,_,h=>by simp at h
 |p::m,0,k,v,hn,h=>by
  simp only[List.getElem?_cons_zero,Option.some.injEq]at h;subst h;simp
 |p::m,j+1,k,v,hn,h=>by
  simp only[List.getElem?_cons_succ]at h;simp only[List.map_cons,List.nodup_cons]at hn
  have cL:(p.1==k)=false:=by
   rw[beq_eq_false_iff_ne];rintro rfl;exact hn.1 (List.mem_map.2 ⟨_,List.mem_of_getElem? h,rfl⟩)
  rw[List.find?_cons,cL];exact nV hn.2 h
theorem aei{V:Type}{m:List (Int×V)}{k:Int}(h:∀p∈m,p.1≠k):m.find? (fun p=>p.1==k)=none:=
 List.find?_eq_none.2 fun p hp=>by simpa using h p hp
theorem hZ.find(h:hZ ck m es.toList clock){kt:TypeId}(hk:P.underlying kt=some (.int .i64))(n:Int):
 ((Instr.findKey kt (.int .i64 n) es.toList).run P w=.ok none w∧fl m n=none∧ow m n=false)∨
 ∃j e v,(Instr.findKey kt (.int .i64 n) es.toList).run P w=.ok (some (j,ck.val v)) w∧es.toList[j]? =some e∧e.key=.int .i64 n∧e.val=ck.val v∧m[j]? =some (n,v)∧fl m n=some v∧ow m n=true:=by
 rcases MapKept.findNow_spec (d:=.int .i64) (k:=.int .i64 n) rfl es.toList 0 h.key with⟨h1,h2⟩|⟨j,e,h1,h2,h3⟩
 ·have rm:∀p∈m,p.1≠n:=by
   intro p hp e;obtain⟨j,hj⟩:=List.getElem?_of_mem hp;have hlen:es.toList.length=m.length:=by have:=congrArg List.length h.eq;simpa using this
   have bm:j<es.toList.length:=by rw[hlen];exact(List.getElem?_eq_some_iff.1 hj).1
   obtain⟨k,v,g1,g2,_⟩:=h.get (List.getElem?_eq_getElem bm);rw[hj]at g1;cases g1;exact h2 _ (List.getElem_mem bm) (by rw[g2];exact congrArg _ e)
  refine .inl ⟨MapKept.run_findKey hk h1,by simp[fl,aei rm], ?_⟩;simp only[ow,List.any_eq_false,beq_iff_eq];exact rm
 ·obtain⟨k,v,g1,g2,g3⟩:=h.get h2;rw[h3]at g2;cases g2;rw[Nat.zero_add]at h1;refine .inr ⟨j,e,v,by rw[←g3];exact MapKept.run_findKey hk h1,h2,h3,g3,g1,by simp[fl,nV h.keys g1], ?_⟩;simp only[ow,List.any_eq_true,beq_iff_eq];exact⟨_,List.mem_of_getElem? g1,rfl⟩
theorem abr(h:hZ ck m es.toList clock)(hb:w.heap[b]? =some (.map es clock)){t kt et:TypeId}(ht:P.underlying t=some (.map kt et))(hk:P.underlying kt=some (.int .i64)){z:Value}(hz:(zeroValue et).run P w=.ok z w)(n:Int)(ok:Bool):
 (Instr.lookup t (.map (some b)) (.int .i64 n) ok).run P w=.ok (if ok=true then .tuple #[((fl m n).map ck.val).getD z,.bool (ow m n)]else((fl m n).map ck.val).getD z) w:=by
 have hc:=MapKept.run_checkKey (w:=w) hk (k:=.int .i64 n) rfl es.isEmpty 9999;rcases h.find (w:=w) hk n with⟨h1,h2,h3⟩|⟨j,e,v,h1,_,_,_,_,h2,h3⟩
 ·simp[Instr.lookup,run_underlying ht,MapKept.run_getObj_map hb,hc,h1,h2,h3,hz,Result.andThen]
 ·simp[Instr.lookup,run_underlying ht,MapKept.run_getObj_map hb,hc,h1,h2,h3,Result.andThen]
theorem stays(n:Int):(Instr.keyThatStays (.int .i64 n) (.int .i64 n)).run P w=.ok (.int .i64 n) w:=by
 simp[Instr.keyThatStays,Instr.sameBits]
theorem oN(m:List (Int×ck.V))(k:Int)(v:ck.V):((m.map fun p=>if p.1==k then(k,v)else p).map (·.1))=m.map (·.1):=by
 rw[List.map_map];refine List.map_congr_left fun p _=> ?_;simp only[Function.comp];by_cases h:p.1==k
 ·rw[if_pos h];exact(beq_iff_eq.1 h).symm
 ·rw[if_neg h]
theorem hZ.put(h:hZ ck m es.toList clock){n:Int}{v:ck.V}(hv:ck.fits v):
 (ow m n=false→hZ ck (pR m n v) (es.push {key:=.int .i64 n,val:=ck.val v,born:=clock}).toList (clock+1))∧
 ∀(j:Nat) (e:MapEntry),es.toList[j]? =some e→e.key=.int .i64 n→ow m n=true→
  hZ ck (pR m n v) (es.modify j fun e=>{e with key:=.int .i64 n,val:=ck.val v}).toList clock:=by
 constructor
 ·intro rm;have asv:∀p∈m,p.1≠n:=by simpa[ow]using rm
  unfold pR;rw[if_neg (by rw[rm];simp)];refine⟨?_, ?_, ?_, ?_, ?_⟩
  ·simp only[Array.toList_push,List.map_append,h.eq,List.map_cons,List.map_nil]
  ·rw[List.map_append,List.nodup_append];refine⟨h.keys,by simp,fun a ha b hb=> ?_⟩;simp only[List.map_cons,List.map_nil,List.mem_singleton]at hb;obtain⟨p,hp,rfl⟩:=List.mem_map.1 ha;rw[hb];exact asv p hp
  ·rw[Array.toList_push,List.map_append,List.nodup_append];refine⟨h.sg,by simp,fun a ha b hb=> ?_⟩;simp only[List.map_cons,List.map_nil,List.mem_singleton]at hb;obtain⟨e,he,rfl⟩:=List.mem_map.1 ha;have:=h.old e he;omega
  ·intro e he;rw[Array.toList_push,List.mem_append]at he;rcases he with he|he
   ·have:=h.old e he;omega
   ·rw[List.mem_singleton.1 he];exact Nat.lt_succ_self _
  ·intro p hp;rcases List.mem_append.1 hp with hp|hp
   ·exact h.fits p hp
   ·rw[List.mem_singleton.1 hp];exact hv
 ·intro j e hj he asw;obtain⟨k,u,g1,g2,g3⟩:=h.get hj;rw[he]at g2;cases g2;have bm:j<es.toList.length:=(List.getElem?_eq_some_iff.1 hj).1;unfold pR;rw[if_pos asw]
  have asx:(es.modify j fun e=>{e with key:=.int .i64 n,val:=ck.val v}).toList=es.toList.set j {e with key:=.int .i64 n,val:=ck.val v}:=by
   refine List.ext_getElem? fun i=> ?_;simp only[Array.toList_modify,List.getElem?_modify,List.getElem?_set];by_cases kP:j=i
   ·subst kP;have amV:j<es.size:=by simpa using bm
    rw[hj];simp[amV]
   ·simp[kP]
  rw[asx]
  have l5:(m.map fun p=>if p.1==n then(n,v)else p)=m.set j (n,v):=by
   refine List.ext_getElem? fun i=> ?_;rw[List.getElem?_map,List.getElem?_set];by_cases kP:j=i
   ·subst kP;have amZ:j<m.length:=(List.getElem?_eq_some_iff.1 g1).1;rw[g1];simp[amZ]
   ·rw[if_neg kP];cases hm:m[i]? with
    |none=>rfl
    |some p=>
     have cL:(p.1==n)=false:=by
      rw[beq_eq_false_iff_ne];intro e1;obtain⟨hi1,hi2⟩:=List.getElem?_eq_some_iff.1 hm;obtain⟨hj1,rI⟩:=List.getElem?_eq_some_iff.1 g1;refine kP ((List.getElem_inj (h₀:=by simpa using hj1) (h₁:=by simpa using hi1) h.keys).1 ?_);simp only[List.getElem_map,hi2,rI,e1]
     rw[Option.map_some,cL];rfl
  refine⟨?_,by rw[oN];exact h.keys, ?_, ?_, ?_⟩
  ·rw[l5,List.map_set,List.map_set,h.eq]
  ·rw[List.map_set]
   have:(es.toList.map (·.born)).set j e.born=es.toList.map (·.born):=by
    refine List.ext_getElem? fun i=> ?_;rw[List.getElem?_set];by_cases kP:j=i
    ·subst kP;rw[if_pos rfl,if_pos (by simpa using bm),List.getElem?_map,hj];rfl
    ·rw[if_neg kP]
   rw[this];exact h.sg
  ·intro x hx;rcases List.mem_or_eq_of_mem_set hx with hx|rfl
   ·exact h.old x hx
   ·exact h.old e (List.mem_of_getElem? hj)
  ·intro p hp;obtain⟨q,hq,rfl⟩:=List.mem_map.1 hp;split
   ·exact hv
   ·exact h.fits q hq
theorem uO(h:hZ ck m es.toList clock)(hb:w.heap[b]? =some (.map es clock)){t kt et:TypeId}(ht:P.underlying t=some (.map kt et))(hk:P.underlying kt=some (.int .i64))(n:Int){v:ck.V}(hv:ck.fits v):
 ∃kp sG,(Instr.mapUpdate t (.map (some b)) (.int .i64 n) (ck.val v)).run P w=.ok () {w with heap:=w.heap.setIfInBounds b (.map kp sG)}∧hZ ck (pR m n v) kp.toList sG:=by
 have hc:=MapKept.run_checkKey (w:=w) hk (k:=.int .i64 n) rfl false 9999;rcases h.find (w:=w) hk n with⟨h1,h2,h3⟩|⟨j,e,u,h1,g1,g2,g3,g4,h2,h3⟩
 ·exact⟨_,_,by simp[Instr.mapUpdate,run_underlying ht,MapKept.run_getObj_map hb,hc,h1,Result.andThen,MapKept.run_setObj_map _ hb],(h.put hv).1 h3⟩
 ·have asy:((es[j]?).map (·.key)).getD (.int .i64 n)=.int .i64 n:=by
   rw[show es[j]? =some e from by rw[←Array.getElem?_toList];exact g1];exact g2
  refine⟨_,_, ?_,(h.put hv).2 j e g1 g2 h3⟩;simp[Instr.mapUpdate,run_underlying ht,MapKept.run_getObj_map hb,hc,h1,Result.andThen,MapKept.run_setObj_map _ hb,asy,stays]
end
end Go.Sx
namespace Go.Sx
open Go
section
variable{ρ aF:Nat→Value}{H H':aM}{G O O':Nat→Prop}{w w':World}{P:Program}
theorem yQ{t:TypeId}(h:acw P t=true):P.underlying t=some (.int .i64):=by
 unfold acw at h;split at h
 ·assumption
 ·cases h
theorem aej{t:TypeId}{ck:CK}(h:se P t ck=true):(zeroValue t).run P w=.ok (ck.val ck.d) w∧ck.fits ck.d:=by
 have key:∀v,(P.info? t).bind (·.zero)=some v→(zeroValue t).run P w=.ok v w:=by
  intro v hv;obtain⟨i,h1,h2⟩:=Option.bind_eq_some_iff.1 hv;simp[zeroValue,typeInfo,h1,h2]
 unfold se at h;rw[Bool.and_eq_true]at h
 replace h:=h.2
 split at h
 ·rename_i k' k hz;obtain rfl:=bd h;exact⟨key _ hz,trivial⟩
 ·rename_i hz;exact⟨key _ hz,trivial⟩
 ·rename_i s hz
  have:s=ByteArray.empty:=by
   have:=Nat.eq_of_beq_eq_true h;obtain⟨⟨l⟩⟩:=s;cases l with
   |nil=>rfl
   |cons a l=>simp[ByteArray.size]at this
  subst this;exact⟨key _ hz,trivial⟩
 ·rename_i cs k n hz;simp only[Bool.and_eq_true]at h;have h1:=l7 k _ h.1;have h2:=Nat.eq_of_beq_eq_true h.2;refine⟨?_,by show(List.replicate n (0:Int)).length=n;simp⟩;rw[key _ hz];congr 1;show Value.agg cs=.agg ((List.replicate n (0:Int)).map (Value.int k)).toArray;rw[←h2,←h1]
 ·cases h
theorem xc{ck:CK}{v:ck.V}(h:ck.fits v)(hp:ck.av v≠.s .aR):af ρ H O w (ck.av v) (ck.val v):=by
 cases ck with
 |int k=>exact az (.int _ _)
 |bool=>exact az (.bool _)
 |str=>exact az (.str _)
 |arr k n=>
  show af ρ H O w (.ints k n v) _;unfold af;exact⟨h,rfl⟩
 |_=>exact(hp rfl).elim
theorem oO{t:TypeId}{ck:CK}(h:se P t ck=true)(v:ck.V):ck.av v≠.s .aR:=by
 unfold se at h;rw[Bool.and_eq_true]at h
 replace h:=h.1
 cases ck<;>first
  |(cases h;done)
  |(intro e;cases e;done)
theorem xd(hs:Sat ρ H G w){id b:Nat}{ck:CK}{m:List (Int×ck.V)}(ho:H id=some (.map ck m))(hb:ρ id=.map (some b)):∃es clock,w.heap[b]? =some (.map es clock)∧hZ ck m es.toList clock:=by
 obtain⟨b',es,clock,h1,h2,h3⟩:=hs.obj id _ ho;rw[hb]at h1;cases h1;exact⟨es,clock,h2,h3⟩
theorem aek{ck:CK}{m:List (Int×ck.V)}(h:∀p∈m,ck.fits p.2){n:Int}{v:ck.V}(hv:fl m n=some v):ck.fits v:=by
 simp only[fl,Option.map_eq_some_iff]at hv;obtain⟨p,hp,rfl⟩:=hv;exact h p (List.mem_of_find?_eq_some hp)
theorem abt{t:TypeId}{x i:AV}{ok:Bool}{vx vi:Value}{q:bH}(h:(wN P t x i ok).eval H=some q)(hn:bD q.need)(hs:Sat ρ H G w)(hx:af ρ H (aP ρ H G) w x vx)(hi:af ρ H (aP ρ H G) w i vi):
 eG P ρ H (aP ρ H G) w q (Instr.lookup t vx vi ok):=by
 unfold wN at h;split at h
 ·rename_i kt et id k lit n ht l3;rw[Bool.cond_eq_ite]at h;split at h
  ·rename_i hk;simp only[Bool.and_eq_true]at hk;obtain rfl:=lW hk.2;obtain rfl:=b8 l3 hi;simp only[RM.eval]at h;split at h
   ·rename_i ck m ho;rw[Bool.cond_eq_ite]at h;split at h
    ·rename_i hz;unfold af aD at hx;obtain⟨b,hb,rfl,_⟩:=hx;obtain⟨es,clock,h1,h2⟩:=xd hs ho hb;obtain⟨hz1,hz2⟩:=aej (w:=w) hz;have gT:=abr h2 h1 ht (yQ hk.1) hz1 n ok
     have rp:af ρ H (aP ρ H G) w (ck.av ((fl m n).getD ck.d)) (((fl m n).map ck.val).getD (ck.val ck.d)):=by
      cases hg:fl m n with
      |none=>exact xc hz2 (oO hz _)
      |some v=>exact xc (aek h2.fits hg) (oO hz _)
     refine aE h (fun _=>⟨_,gT, ?_⟩) hn;cases ok
     ·exact rp
     ·simp only[cond_true,if_true];unfold af;exact⟨[_,_],rfl,aA.2 ⟨_,_,rfl,rp,aA.2 ⟨_,_,rfl,az (.bool _),aU.2 rfl⟩⟩⟩
    ·cases h
   ·cases h
  ·cases h
 ·cases h
theorem am0{ck:CK}{a:AV}{y:ck.V}{v:Value}(h:ck.rdv a=some y)(hd:af ρ H O w a v):v=ck.val y∧ck.fits y:=by
 cases ck with
 |int k=>
  simp only[CK.rdv]at h;split at h
  ·rw[Bool.cond_eq_ite]at h;split at h
   ·rename_i hk;obtain rfl:=bd hk;cases h;have:=ak (by simp) hd;cases this;exact⟨rfl,trivial⟩
   ·cases h
  ·rw[Bool.cond_eq_ite]at h;split at h
   ·rename_i hk;obtain rfl:=bd hk;cases h;have:=ak (by simp) hd;cases this;exact⟨rfl,trivial⟩
   ·cases h
  ·cases h
 |bool=>
  simp only[CK.rdv]at h;split at h
  ·cases h;have:=ak (by simp) hd;cases this;exact⟨rfl,trivial⟩
  ·cases h;have:=ak (by simp) hd;cases this;exact⟨rfl,trivial⟩
  ·cases h
 |str=>
  simp only[CK.rdv]at h;split at h
  ·cases h;have:=ak (by simp) hd;cases this;exact⟨rfl,trivial⟩
  ·cases h
 |arr k n=>
  simp only[CK.rdv]at h;split at h
  ·rw[Bool.cond_eq_ite]at h;split at h
   ·rename_i hk;simp only[Bool.and_eq_true]at hk;obtain rfl:=bd hk.1;obtain rfl:=Nat.eq_of_beq_eq_true hk.2;cases h;unfold af at hd;exact⟨hd.2,hd.1⟩
   ·cases h
  ·cases h
 |_=>cases h
theorem nx{t:TypeId}{x i a:AV}{vx vi va:Value}{q:bH}(h:(nP P t x i a).eval H=some q)(hs:Sat ρ H G w)(hx:af ρ H (aP ρ H G) w x vx)(hi:af ρ H (aP ρ H G) w i vi)(ha:af ρ H (aP ρ H G) w a va):
 ∃w',(Instr.mapUpdate t vx vi va).run P w=.ok () w'∧∀base,Good ρ H G w (cW H q.up base q.new) (q.r base) undef w':=by
 unfold nP at h;split at h
 ·rename_i kt et id k lit n ht l3;rw[Bool.cond_eq_ite]at h;split at h
  ·rename_i hk;simp only[Bool.and_eq_true]at hk;obtain rfl:=lW hk.2;obtain rfl:=b8 l3 hi;simp only[RM.eval]at h;split at h
   ·rename_i ck m ho;split at h
    ·rename_i y hy;simp only[RM.eval,Option.some.injEq]at h;subst h;obtain⟨rfl,hf⟩:=am0 hy ha;unfold af aD at hx;obtain⟨b,hb,rfl,_⟩:=hx;obtain⟨es,clock,h1,h2⟩:=xd hs ho hb;obtain⟨kp,sG,h3,h4⟩:=uO h2 h1 ht (yQ hk.1) n hf;refine⟨_,h3,fun base=> ?_⟩;simp only[fm];exact Good.write hs ho rfl rfl (by rw[hb];rfl) (fun _ _ hc=>by cases hc) ⟨b,kp,sG,hb,dT h1,h4⟩ cC
    ·cases h
   ·cases h
  ·cases h
 ·cases h
theorem yR{t:TypeId}{r:Option AV}{q:bH}(h:(sf P t r).eval H=some q)(hs:Sat ρ H G w){base:Nat}(hb:∀i,i<q.new.length→H (base+i)=none):
 r=none∧∃v w',(Instr.makeMap t none).run P w=.ok v w'∧Good ρ H G w (cW H q.up base q.new) (q.r base) v w':=by
 unfold sf at h;split at h
 ·split at h
  ·rename_i ck _;simp only[RM.eval,Option.some.injEq]at h;subst h;have hn:H base=none:=by simpa using hb 0 (by simp)
   refine⟨rfl,.map (some w.heap.size),w.alloc (.map #[] 0),RowKit.run_makeMap .., ?_⟩;simp only[ie];refine Good.fresh hs hn (root:=.map (some w.heap.size)) (w1:=w) rfl rfl rfl rfl (fun b hb=>by simpa[eg]using hb.symm) ⟨w.heap.size,#[],0,rfl,(MapKept.heap_alloc w _).1,⟨rfl,by simp,by simp,by simp,by simp⟩⟩ ?_;unfold af aD;exact⟨w.heap.size,by simp,rfl,by simp[ax]⟩
  ·cases h
 ·cases h
end
end Go.Sx
