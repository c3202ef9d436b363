/- Lemmas: SxKind, SxBase, SxExec, SxPure, SxSat, SxMem, SxHeap, SxLoad, SxRead, SxSlice, SxStore, SxNew, SxBuild, SxBuild2, SxAppend, SxOver, SxAppend2, SxMap, SxMapOp, SxPart. -/
import Derived.WalkKit
import Derived.WalkSpells
import Derived.MapKept
import Derived.Carry
open Array (length_toList toList_inj)
open Bool (and_eq_true cond_eq_ite not_eq_true')
open ByteArray (empty)
open List (all_cons all_eq_true append_assoc append_nil cons_append getElem?_append_left getElem?_append_right getElem?_eq_getElem getElem?_eq_none getElem?_eq_some_iff getElem?_map getElem?_set getElem?_take getElem_mem length_append length_cons length_drop length_map length_nil length_take map_append map_cons map_nil mem_append mem_map mem_range mem_singleton nil_append nodup_append replicate take_of_length_le)
open Nat (add_assoc add_mul add_zero beq_eq le_of_ble_eq_true le_refl le_trans lt_or_ge zero_add zero_le)
open Option (bind_eq_some_iff getD_some isSome_iff_exists map_eq_some_iff map_some)
open Result (andThen_ok)
open World (cell?)
namespace Go.Sx
open Go
inductive CK where
 |int (k:IntKind)
 |bool
 |ag
 |aw (k:IntKind)
 |strs
 |bY
 |rows (cs:List CK)
 |arr (k:IntKind) (n:Nat)
mutual
def CK.V:CK->Type
 |.int _=>Int
 |.bool=>Bool
 |.ag=>ByteArray
 |.aw _=>List Int
 |.strs=>List ByteArray
 |.bY=>List Bool
 |.rows cs=>List (CL cs)
 |.arr _ _=>List Int
def CL:List CK->Type
 |[]=>Unit
 |c::cs=>c.V×CL cs
end
def CK.d:(c:CK)->c.V
 |.int _=>(0:Int)
 |.bool=>false
 |.ag=>empty
 |.aw _=>([]:List Int)
 |.strs=>([]:List ByteArray)
 |.bY=>([]:List Bool)
 |.rows cs=>([]:List (CL cs))
 |.arr _ n=>replicate n (0:Int)
def CL.d:(cs:List CK)->CL cs
 |[]=>()
 |c::cs=>(c.d,CL.d cs)
def CK.wide:CK->Nat
 |.arr _ n=>n
 |_=>1
def CL.wide:List CK->Nat
 |[]=>0
 |c::cs=>c.wide+CL.wide cs
def kEq(a b:IntKind):Option (PLift (a=b)):=if h:a=b then some ⟨h⟩else none
mutual
def CK.eq:(a b:CK)->Option (PLift (a=b))
 |.int k,.int k'=>(kEq k k').map λh=>⟨congrArg CK.int h.down⟩
 |.bool,.bool=>some ⟨rfl⟩
 |.ag,.ag=>some ⟨rfl⟩
 |.aw k,.aw k'=>(kEq k k').map λh=>⟨congrArg CK.aw h.down⟩
 |.strs,.strs=>some ⟨rfl⟩
 |.bY,.bY=>some ⟨rfl⟩
 |.rows a,.rows b=>(CL.eq a b).map λh=>⟨congrArg CK.rows h.down⟩
 |.arr k n,.arr k' n'=>if h:n=n' then(kEq k k').map λh'=>⟨by rw[h,h'.down]⟩else none
 |_,_=>none
def CL.eq:(a b:List CK)->Option (PLift (a=b))
 |[],[]=>some ⟨rfl⟩
 |a::aS,b::bs=>match CK.eq a b,CL.eq aS bs with
  |some h,some h'=>some ⟨by rw[h.down,h'.down]⟩
  |_,_=>none
 |_,_=>none
end
def abZ{a b:List CK}(h:PLift (a=b))(xs:List (CL a)):List (CL b):=h.down▸xs
def cW{V:Type}(m:List (Int×V))(k:Int):Option V:=(m.find? λp=>p.1==k).map (·.2)
def qa{V:Type}(m:List (Int×V))(k:Int):Bool:=m.any λp=>p.1==k
def l8{V:Type}(m:List (Int×V))(k:Int)(v:V):List (Int×V):=if qa m k=true then m.map λp=>if p.1==k then(k,v)else p else m++[(k,v)]
theorem y7{a:List CK}(h:PLift (a=a))(xs:List (CL a)):abZ h xs=xs:=rfl
mutual
inductive SV where
 |bk
 |bool (b:Bool)
 |aT (b:Bool)
 |lD (n:Nat) (eq:Bool)
 |aat (k:IntKind)
 |int (k:IntKind) (n:Int)
 |aZ (k:IntKind) (n:Int)
 |ag (s:ByteArray)
 |jz
 |aeF
 |aeG
 |aeH
 |qb
 |qW (f:FuncId)
 |ifi (t:TypeId) (k:IntKind) (n:Int)
 |ifs (t:TypeId) (s:ByteArray)
 |ifb (t:TypeId) (b:Bool)
 |raw (v:Value) (zs:List Int)
 |ro (c:a8)
 |rot (c:a8) (k:Nat)
 |nr (k:Nat)
 |pO (k:Nat)
inductive a8 where
 |aw (k:IntKind) (zs:List Int)
 |strs (ss:List ByteArray)
 |bY (bs:List Bool)
 |az (cs:List CK) (xs:List (CL cs))
 |fo (size n:Nat) (get:Nat->Nat->SV)
end
def a8.n:a8->Nat
 |.aw _ zs=>zs.length
 |.strs ss=>ss.length
 |.bY bs=>bs.length
 |.az _ xs=>xs.length
 |.fo _ n _=>n
def a8.size:a8->Nat
 |.aw .. |.strs _|.bY _=>1
 |.az cs _=>CL.wide cs
 |.fo s _ _=>s
def CK.cell:(c:CK)->c.V->Nat->SV
 |.int k,x,_=>.int k x
 |.bool,x,_=>.bool x
 |.ag,x,_=>.ag x
 |.aw k,x,_=>.ro (.aw k x)
 |.strs,x,_=>.ro (.strs x)
 |.bY,x,_=>.ro (.bY x)
 |.rows cs,x,_=>.ro (.az cs x)
 |.arr k _,x,j=>.int k (List.getD (α:=Int) x j 0)
def CL.cell:(cs:List CK)->CL cs->Nat->SV
 |[],_,_=>.bk
 |c::cs,x,j=>bif j.blt c.wide then c.cell x.1 j else CL.cell cs x.2 (j - c.wide)
def a8.cell:a8->Nat->Nat->SV
 |.aw k zs,i,_=>.int k (zs.getD i 0)
 |.strs ss,i,_=>.ag (ss.getD i empty)
 |.bY bs,i,_=>.bool (bs.getD i false)
 |.az cs xs,i,j=>CL.cell cs (xs.getD i (CL.d cs)) j
 |.fo _ _ get,i,j=>get i j
inductive AV where
 |s (v:SV)
 |an (id off:Nat)
 |kQ (id off n i:Nat)
 |kj (c:a8) (i j:Nat)
 |aq (id:Nat)
 |gU (id i j:Nat)
 |part (id lo n:Nat)
 |sub (id off n:Nat)
 |lF (id i j n:Nat)
 |emp
 |agg (aD:List AV)
 |aw (k:IntKind) (n:Nat) (ws:List Int)
 |bD (vs:List AV)
 |fn (f:FuncId) (dF:List AV)
 |y8 (f:FuncId) (first:List AV)
 |gV (id:Nat)
 |tag (id:Nat)
inductive au where
 |ay (aD:List AV) (elem:TypeId)
 |aq (c:a8) (elem:TypeId)
 |map (ck:CK) (m:List (Int×ck.V))
 |jA (ck:CK) (m:List (Int×ck.V)) (gid:Nat)
 |iter (mid gid:Nat) (ck:CK) (left:List (Int×ck.V)) (cur:Option (Int×ck.V))
 |aB
abbrev aV:=Nat->Option au
def au.alive:au->Bool
 |.aB=>false
 |_=>true
def fp:Value->Option Nat
 |.pointer (some a)=>some a.block
 |.slice (some a) _ cap=>if cap=0 then none else some a.block
 |.map (some b)=>some b
 |_=>none
def Own(ρ:Nat->Value)(H:aV)(b:Nat):Prop:=∃id o,H id=some o/\o.alive=true/\fp (ρ id)=some b
def bd(ρ:Nat->Value)(H:aV)(G:Nat->Prop)(b:Nat):Prop:=Own ρ H b\/G b
inductive bg (O:Nat->Prop) (w:World):SV->Value->Prop
 |bk (v:Value):v.oneCell'=true->bg O w .bk v
 |bool (b:Bool):bg O w (.bool b) (.bool b)
 |aT (b:Bool):bg O w (.aT b) (.bool b)
 |lD (n:Nat) (eq b:Bool):(b=eq->n=0)->bg O w (.lD n eq) (.bool b)
 |aat (k:IntKind) (n:Int):bg O w (.aat k) (.int k n)
 |int (k:IntKind) (n:Int):bg O w (.int k n) (.int k n)
 |aZ (k:IntKind) (n:Int):bg O w (.aZ k n) (.int k n)
 |ag (s:ByteArray):bg O w (.ag s) (.string s)
 |jz:bg O w .jz (.pointer none)
 |aeF:bg O w .aeF .nilIface
 |aeG:bg O w .aeG .nilFunc
 |aeH:bg O w .aeH (.map none)
 |qb:bg O w .qb (.slice none 0 0)
 |qW (f:FuncId):bg O w (.qW f) (.func (.func f) #[] #[])
 |ifi (t:TypeId) (k:IntKind) (n:Int):bg O w (.ifi t k n) (.iface t (.int k n))
 |ifs (t:TypeId) (s:ByteArray):bg O w (.ifs t s) (.iface t (.string s))
 |ifb (t:TypeId) (b:Bool):bg O w (.ifb t b) (.iface t (.bool b))
 |raw (v:Value) (zs:List Int):v.oneCell'=true->bg O w (.raw v zs) v
 |ro (c:a8) (a:Option Addr) (cap:Nat) (us:Nat->Nat->Value) (b o:Nat):c.n<=cap->cap<=maxLen->
  (0<c.n->a=some ⟨b,o,none⟩/\¬O b/\b<w.heap.size)->
  (∀i j,i<c.n->j<c.size->w.cell? ⟨b,o+i*c.size+j,none⟩=some (us i j))->
  (∀i j,i<c.n->j<c.size->bg O w (c.cell i j) (us i j))->bg O w (.ro c) (.slice a c.n cap)
 |rot (c:a8) (k:Nat) (a:Option Addr) (n cap:Nat):bg O w (.ro c) (.slice a n cap)->cap<k->bg O w (.rot c k) (.slice a n cap)
 |nr (k:Nat) (n:Int):(k:Int)<=n->bg O w (.nr k) (.int .i64 n)
 |pO (k:Nat) (n:Int):n<(k:Int)->bg O w (.pO k) (.int .i64 n)
mutual
def aO(ρ:Nat->Value)(H:aV)(O:Nat->Prop)(w:World):AV->Value->Prop
 |.s x,v=>bg O w x v
 |.an id off,v=>∃b,ρ id=.pointer (some ⟨b,0,none⟩)/\v=.pointer (some ⟨b,off,none⟩)/\(H id).isSome=true
 |.kQ id off n i,v=>i<n/\∃b,ρ id=.pointer (some ⟨b,0,none⟩)/\v=.pointer (some ⟨b,off+i,none⟩)/\(H id).isSome=true
 |.kj c i j,v=>∃(b o:Nat) (us:Nat->Value),v=.pointer (some ⟨b,o+j,none⟩)/\¬O b/\b<w.heap.size/\
  (∀l,l<c.size->w.cell? ⟨b,o+l,none⟩=some (us l)/\bg O w (c.cell i l) (us l))
 |.aq id,v=>v.oneCell'=true/\∃o,H id=some o/\∀c e,o=.aq c e->v=ρ id
 |.gU id i j,v=>v.oneCell'=true/\∃o,H id=some o/\∀c e,o=.aq c e->i<c.n/\j<c.size/\
  ∃b f n cap,ρ id=.slice (some ⟨b,f,none⟩) n cap/\v=.pointer (some ⟨b,f+i*c.size+j,none⟩)
 |.part id lo n,v=>v.oneCell'=true/\∃o,H id=some o/\∀c e,o=.aq c e->lo+n<=c.n/\
  ∃a cap a',ρ id=.slice a c.n cap/\c.n<=cap/\v=.slice a' n (cap - lo)/\(cap≠lo->a'=a.map (·.add (lo*c.size)))
 |.sub id off n,v=>v.oneCell'=true/\∃b a cap,ρ id=.pointer (some ⟨b,0,none⟩)/\v=.slice a n cap/\(n≠0->a=some ⟨b,off,none⟩)/\(H id).isSome=true
 |.lF id i j n,v=>v.oneCell'=true/\∃o,H id=some o/\∀c e,o=.aq c e->i<c.n/\j+n<=c.size/\
  ∃b f n' cap a aiw,ρ id=.slice (some ⟨b,f,none⟩) n' cap/\v=.slice a n aiw/\(n≠0->a=some ⟨b,f+i*c.size+j,none⟩)
 |.emp,v=>∃a,v=.slice a 0 0
 |.fn f dF,v=>∃vs:List Value,v=.func (.func f) #[] vs.toArray/\bV ρ H O w dF vs
 |.y8 f first,v=>∃vs:List Value,v=.func (.func f) vs.toArray #[]/\bV ρ H O w first vs
 |.agg _,_=>False
 |.aw _ _ _,_=>False
 |.bD _,_=>False
 |.gV id,v=>∃b,ρ id=.map (some b)/\v=.map (some b)/\(H id).isSome=true
 |.tag id,v=>v=ρ id/\v.oneCell'=true/\(H id).isSome=true
def bV(ρ:Nat->Value)(H:aV)(O:Nat->Prop)(w:World):List AV->List Value->Prop
 |[],vs=>vs=[]
 |a::aS,vs=>∃v rest,vs=v::rest/\ak ρ H O w a v/\bV ρ H O w aS rest
def aE(ρ:Nat->Value)(H:aV)(O:Nat->Prop)(w:World):List AV->List Value->Prop
 |[],cs=>cs=[]
 |a::aS,cs=>∃c1 c2,cs=c1++c2/\aU ρ H O w a c1/\aE ρ H O w aS c2
def aU(ρ:Nat->Value)(H:aV)(O:Nat->Prop)(w:World):AV->List Value->Prop
 |.agg _,_=>False
 |.aw k n ws,cs=>ws.length=n/\cs=ws.map (Value.int k)
 |.s x,cs=>∃u,cs=[u]/\bg O w x u
 |.an id off,cs=>∃u,cs=[u]/\aO ρ H O w (.an id off) u
 |.kQ id off n i,cs=>∃u,cs=[u]/\aO ρ H O w (.kQ id off n i) u
 |.kj c i j,cs=>∃u,cs=[u]/\aO ρ H O w (.kj c i j) u
 |.aq id,cs=>∃u,cs=[u]/\aO ρ H O w (.aq id) u
 |.gU id i j,cs=>∃u,cs=[u]/\aO ρ H O w (.gU id i j) u
 |.part id lo n,cs=>∃u,cs=[u]/\aO ρ H O w (.part id lo n) u
 |.sub id off n,cs=>∃u,cs=[u]/\aO ρ H O w (.sub id off n) u
 |.lF id i j n,cs=>∃u,cs=[u]/\aO ρ H O w (.lF id i j n) u
 |.emp,cs=>∃u,cs=[u]/\∃a,u=.slice a 0 0
 |.fn f dF,cs=>∃u,cs=[u]/\∃vs:List Value,u=.func (.func f) #[] vs.toArray/\bV ρ H O w dF vs
 |.y8 f first,cs=>∃u,cs=[u]/\∃vs:List Value,u=.func (.func f) vs.toArray #[]/\bV ρ H O w first vs
 |.bD _,_=>False
 |.gV id,cs=>∃u,cs=[u]/\aO ρ H O w (.gV id) u
 |.tag id,cs=>∃u,cs=[u]/\aO ρ H O w (.tag id) u
def ak(ρ:Nat->Value)(H:aV)(O:Nat->Prop)(w:World):AV->Value->Prop
 |.agg aD,v=>∃cs:List Value,v=.agg cs.toArray/\aE ρ H O w aD cs
 |.aw k n ws,v=>ws.length=n/\v=.agg (ws.map (Value.int k)).toArray
 |.bD vs,v=>∃us:List Value,v=.tuple us.toArray/\bV ρ H O w vs us
 |.s .bk,_=>True
 |.s x,v=>bg O w x v
 |.an id off,v=>aO ρ H O w (.an id off) v
 |.kQ id off n i,v=>aO ρ H O w (.kQ id off n i) v
 |.kj c m j,v=>aO ρ H O w (.kj c m j) v
 |.aq id,v=>aO ρ H O w (.aq id) v
 |.gU id i j,v=>aO ρ H O w (.gU id i j) v
 |.part id lo n,v=>aO ρ H O w (.part id lo n) v
 |.sub id off n,v=>aO ρ H O w (.sub id off n) v
 |.lF id i j n,v=>aO ρ H O w (.lF id i j n) v
 |.emp,v=>∃a,v=.slice a 0 0
 |.fn f dF,v=>∃vs:List Value,v=.func (.func f) #[] vs.toArray/\bV ρ H O w dF vs
 |.y8 f first,v=>∃vs:List Value,v=.func (.func f) vs.toArray #[]/\bV ρ H O w first vs
 |.gV id,v=>aO ρ H O w (.gV id) v
 |.tag id,v=>aO ρ H O w (.tag id) v
end
theorem bg.one{O:Nat->Prop}{w:World}{x:SV}{v:Value}(h:bg O w x v):v.oneCell'=true:=by
 cases h<;>first|rfl|assumption
structure Step (ρ:Nat->Value) (H:aV) (O:Nat->Prop) (w:World) (aQ:Nat->Value) (H':aV) (O':Nat->Prop) (w':World):Prop where
 vH:∀id o,H id=some o->aQ id=ρ id
 fq:∀id o,H id=some o->∃o',H' id=some o'/\∀c' e',o'=.aq c' e'->∃c e,o=.aq c e/\c'.n=c.n/\c'.size=c.size
 gy:∀b,O' b->O b\/w.heap.size<=b
 heap:∀b,b<w.heap.size->¬O b->w'.heap[b]? =w.heap[b]?
 size:w.heap.size<=w'.heap.size
theorem Step.refl(ρ:Nat->Value)(H:aV)(O:Nat->Prop)(w:World):Step ρ H O w ρ H O w:=
 ⟨λ_ _ _=>rfl,λ_ o h=>⟨o,h,λc' e' e=>⟨c',e',e,rfl,rfl⟩⟩,λ_ h=>.inl h,λ_ _ _=>rfl,le_refl _⟩
theorem mU{w w':World}{b o:Nat}(h:w'.heap[b]? =w.heap[b]?):w'.cell? ⟨b,o,none⟩=w.cell? ⟨b,o,none⟩:=by
 simp[cell?,h]
section
variable{ρ aQ:Nat->Value}{H H':aV}{O O':Nat->Prop}{w w':World}
theorem Step.trans{auQ:Nat->Value}{H'':aV}{O'':Nat->Prop}{w'':World}(h:Step ρ H O w aQ H' O' w')(k:Step aQ H' O' w' auQ H'' O'' w'')
 :Step ρ H O w auQ H'' O'' w'':=by
 refine⟨λid o ho=> ?_,λid o ho=> ?_,λb hb=> ?_,λb hb hO=> ?_,le_trans h.size k.size⟩;have⟨o',dP,_⟩:=h.fq id o ho;rw[k.vH id o' dP,h.vH id o ho];have⟨o',dP,q⟩:=h.fq id o ho;have⟨o'',axy,q'⟩:=k.fq id o' dP;refine⟨o'',axy,λc e hc=> ?_⟩;have⟨c1,e1,h1,n1,s1⟩:=q' c e hc;have⟨c2,e2,h2,n2,s2⟩:=q c1 e1 h1;exact⟨c2,e2,h2,n1.trans n2,s1.trans s2⟩;rcases k.gy b hb with h1|h1;exact h.gy b h1;exact .inr (le_trans h.size h1);have axz:¬O' b:=λh1=>by rcases h.gy b h1 with h2|h2<;>first|exact hO h2|omega
 rw[k.heap b (by have:=h.size;omega) axz,h.heap b hb hO]
theorem bg.step(gy:∀b,O' b->O b\/w.heap.size<=b)(heap:∀b,b<w.heap.size->¬O b->w'.heap[b]? =w.heap[b]?)
 (size:w.heap.size<=w'.heap.size) {x:SV} {v:Value} (h:bg O w x v):bg O' w' x v:=by
 induction h with
 |bk v hv=>exact .bk v hv
 |bool b=>exact .bool b
 |aT b=>exact .aT b
 |lD n eq b hb=>exact .lD n eq b hb
 |aat k n=>exact .aat k n
 |int k n=>exact .int k n
 |aZ k n=>exact .aZ k n
 |ag s=>exact .ag s
 |jz=>exact .jz
 |aeF=>exact .aeF
 |aeG=>exact .aeG
 |aeH=>exact .aeH
 |qb=>exact .qb
 |qW f=>exact .qW f
 |ifi t k n=>exact .ifi t k n
 |ifs t s=>exact .ifs t s
 |ifb t b=>exact .ifb t b
 |raw v zs h=>exact .raw v zs h
 |rot c k a n cap _ hk ih=>exact .rot c k a n cap ih hk
 |nr k n h=>exact .nr k n h
 |pO k n h=>exact .pO k n h
 |ro c a cap us b o hn hm hb hc _ ih=>
  refine .ro c a cap us b o hn hm (λh0=> ?_) (λi j hi hj=> ?_) ih;have⟨e,h1,h2⟩:=hb h0;exact⟨e,λh3=>by rcases gy b h3 with h4|h4<;>first|exact h1 h4|omega,by omega⟩;have⟨_,h1,h2⟩:=hb (by omega);rw[mU (heap b h2 h1)];exact hc i j hi hj
mutual
theorem aO.step(st:Step ρ H O w aQ H' O' w'):∀(x:AV) (v:Value),aO ρ H O w x v->aO aQ H' O' w' x v
 |.s x,v,h=>by unfold aO at *;exact h.step st.gy st.heap st.size
 |.an id off,v,h=>by
  unfold aO at *;have⟨b,h1,h2,h3⟩:=h;have⟨o,ho⟩:=isSome_iff_exists.1 h3;have⟨o',dP,_⟩:=st.fq id o ho;exact⟨b,by rw[st.vH id o ho,h1],h2,by rw[dP];rfl⟩
 |.kQ id off n i,v,h=>by
  unfold aO at *;have⟨hi,b,h1,h2,h3⟩:=h;have⟨o,ho⟩:=isSome_iff_exists.1 h3;have⟨o',dP,_⟩:=st.fq id o ho;exact⟨hi,b,by rw[st.vH id o ho,h1],h2,by rw[dP];rfl⟩
 |.kj c m j,v,h=>by
  unfold aO at *;have⟨b,o,us,h1,h2,h3,h4⟩:=h;refine⟨b,o,us,h1,λh5=> ?_,by have:=st.size;omega,λi hi=> ?_⟩;rcases st.gy b h5 with h6|h6<;>first|exact h2 h6|omega
  have⟨h5,h6⟩:=h4 i hi;exact⟨by rw[mU (st.heap b h3 h2)];exact h5,h6.step st.gy st.heap st.size⟩
 |.aq id,v,h=>by
  unfold aO at *;have⟨h0,o,ho,h1⟩:=h;have⟨o',dP,h2⟩:=st.fq id o ho;refine⟨h0,o',dP,λc e hc=> ?_⟩;have⟨c1,e1,h3,_,_⟩:=h2 c e hc;rw[st.vH id o ho];exact h1 c1 e1 h3
 |.gU id i j,v,h=>by
  unfold aO at *;have⟨h0,o,ho,h1⟩:=h;have⟨o',dP,h2⟩:=st.fq id o ho;refine⟨h0,o',dP,λc e hc=> ?_⟩;have⟨c1,e1,h3,hn,hs⟩:=h2 c e hc;rw[st.vH id o ho,hn,hs];exact h1 c1 e1 h3
 |.part id lo n,v,h=>by
  unfold aO at *;have⟨h0,o,ho,h1⟩:=h;have⟨o',dP,h2⟩:=st.fq id o ho;refine⟨h0,o',dP,λc e hc=> ?_⟩;have⟨c1,e1,h3,hn,hs⟩:=h2 c e hc;rw[st.vH id o ho,hn,hs];exact h1 c1 e1 h3
 |.sub id off n,v,h=>by
  unfold aO at *;have⟨h0,b,a,cap,h1,h2,h4,h3⟩:=h;have⟨o,ho⟩:=isSome_iff_exists.1 h3;have⟨o',dP,_⟩:=st.fq id o ho;exact⟨h0,b,a,cap,by rw[st.vH id o ho,h1],h2,h4,by rw[dP];rfl⟩
 |.lF id i j n,v,h=>by
  unfold aO at *;have⟨h0,o,ho,h1⟩:=h;have⟨o',dP,h2⟩:=st.fq id o ho;refine⟨h0,o',dP,λc e hc=> ?_⟩;have⟨c1,e1,h3,hn,hs⟩:=h2 c e hc;rw[st.vH id o ho,hn,hs];exact h1 c1 e1 h3
 |.emp,v,h=>by unfold aO at *;exact h
 |.fn f dF,v,h=>by
  unfold aO at *;have⟨vs,h1,h2⟩:=h;exact⟨vs,h1,bV.step st dF vs h2⟩
 |.y8 f dF,v,h=>by
  unfold aO at *;have⟨vs,h1,h2⟩:=h;exact⟨vs,h1,bV.step st dF vs h2⟩
 |.agg _,v,h=>by unfold aO at h;exact h.elim
 |.aw _ _ _,v,h=>by unfold aO at h;exact h.elim
 |.bD _,v,h=>by unfold aO at h;exact h.elim
 |.gV id,v,h=>by
  unfold aO at *;have⟨b,h1,h2,h3⟩:=h;have⟨o,ho⟩:=isSome_iff_exists.1 h3;have⟨o',dP,_⟩:=st.fq id o ho;exact⟨b,by rw[st.vH id o ho,h1],h2,by rw[dP];rfl⟩
 |.tag id,v,h=>by
  unfold aO at *;have⟨h1,h2,h3⟩:=h;have⟨o,ho⟩:=isSome_iff_exists.1 h3;have⟨o',dP,_⟩:=st.fq id o ho;exact⟨by rw[st.vH id o ho,h1],h2,by rw[dP];rfl⟩
theorem bV.step(st:Step ρ H O w aQ H' O' w'):∀(xs:List AV) (vs:List Value),bV ρ H O w xs vs->bV aQ H' O' w' xs vs
 |[],vs,h=>by unfold bV at *;exact h
 |a::aS,vs,h=>by
  unfold bV at *;have⟨v,rest,h1,h2,h3⟩:=h;exact⟨v,rest,h1,ak.step st a v h2,bV.step st aS rest h3⟩
theorem aE.step(st:Step ρ H O w aQ H' O' w'):∀(xs:List AV) (cs:List Value),aE ρ H O w xs cs->aE aQ H' O' w' xs cs
 |[],vs,h=>by unfold aE at *;exact h
 |a::aS,vs,h=>by
  unfold aE at *;have⟨c1,c2,h1,h2,h3⟩:=h;exact⟨c1,c2,h1,aU.step st a c1 h2,aE.step st aS c2 h3⟩
theorem aU.step(st:Step ρ H O w aQ H' O' w'):∀(x:AV) (cs:List Value),aU ρ H O w x cs->aU aQ H' O' w' x cs
 |.agg _,cs,h=>by unfold aU at h;exact h.elim
 |.aw _ _ _,cs,h=>by unfold aU at *;exact h
 |.s x,cs,h=>by unfold aU at *;have⟨u,h1,h2⟩:=h;exact⟨u,h1,h2.step st.gy st.heap st.size⟩
 |.an id off,cs,h=>by unfold aU at *;have⟨u,h1,h2⟩:=h;exact⟨u,h1,aO.step st (.an id off) u h2⟩
 |.kQ id off n i,cs,h=>by unfold aU at *;have⟨u,h1,h2⟩:=h;exact⟨u,h1,aO.step st (.kQ id off n i) u h2⟩
 |.kj c m j,cs,h=>by unfold aU at *;have⟨u,h1,h2⟩:=h;exact⟨u,h1,aO.step st (.kj c m j) u h2⟩
 |.aq id,cs,h=>by unfold aU at *;have⟨u,h1,h2⟩:=h;exact⟨u,h1,aO.step st (.aq id) u h2⟩
 |.gU id i j,cs,h=>by unfold aU at *;have⟨u,h1,h2⟩:=h;exact⟨u,h1,aO.step st (.gU id i j) u h2⟩
 |.part id lo n,cs,h=>by unfold aU at *;have⟨u,h1,h2⟩:=h;exact⟨u,h1,aO.step st (.part id lo n) u h2⟩
 |.sub id off n,cs,h=>by unfold aU at *;have⟨u,h1,h2⟩:=h;exact⟨u,h1,aO.step st (.sub id off n) u h2⟩
 |.lF id i j n,cs,h=>by unfold aU at *;have⟨u,h1,h2⟩:=h;exact⟨u,h1,aO.step st (.lF id i j n) u h2⟩
 |.emp,cs,h=>by unfold aU at *;exact h
 |.fn f dF,cs,h=>by
  unfold aU at *;have⟨u,h1,vs,h2,h3⟩:=h;exact⟨u,h1,vs,h2,bV.step st dF vs h3⟩
 |.y8 f dF,cs,h=>by
  unfold aU at *;have⟨u,h1,vs,h2,h3⟩:=h;exact⟨u,h1,vs,h2,bV.step st dF vs h3⟩
 |.bD _,cs,h=>by unfold aU at h;exact h.elim
 |.gV id,cs,h=>by unfold aU at *;have⟨u,h1,h2⟩:=h;exact⟨u,h1,aO.step st (.gV id) u h2⟩
 |.tag id,cs,h=>by unfold aU at *;have⟨u,h1,h2⟩:=h;exact⟨u,h1,aO.step st (.tag id) u h2⟩
theorem ak.step(st:Step ρ H O w aQ H' O' w'):∀(x:AV) (v:Value),ak ρ H O w x v->ak aQ H' O' w' x v
 |.agg aD,v,h=>by unfold ak at *;have⟨cs,h1,h2⟩:=h;exact⟨cs,h1,aE.step st aD cs h2⟩
 |.aw _ _ _,v,h=>by unfold ak at *;exact h
 |.bD vs,v,h=>by unfold ak at *;have⟨us,h1,h2⟩:=h;exact⟨us,h1,bV.step st vs us h2⟩
 |.s .bk,v,h=>by unfold ak;trivial
 |.s (.bool b),v,h=>by unfold ak at *;exact h.step st.gy st.heap st.size
 |.s (.aT b),v,h=>by unfold ak at *;exact h.step st.gy st.heap st.size
 |.s (.lD _ _),v,h=>by unfold ak at *;exact h.step st.gy st.heap st.size
 |.s (.aat k),v,h=>by unfold ak at *;exact h.step st.gy st.heap st.size
 |.s (.int k n),v,h=>by unfold ak at *;exact h.step st.gy st.heap st.size
 |.s (.aZ k n),v,h=>by unfold ak at *;exact h.step st.gy st.heap st.size
 |.s (.ag b),v,h=>by unfold ak at *;exact h.step st.gy st.heap st.size
 |.s .jz,v,h=>by unfold ak at *;exact h.step st.gy st.heap st.size
 |.s .aeF,v,h=>by unfold ak at *;exact h.step st.gy st.heap st.size
 |.s .aeG,v,h=>by unfold ak at *;exact h.step st.gy st.heap st.size
 |.s .aeH,v,h=>by unfold ak at *;exact h.step st.gy st.heap st.size
 |.s .qb,v,h=>by unfold ak at *;exact h.step st.gy st.heap st.size
 |.s (.qW b),v,h=>by unfold ak at *;exact h.step st.gy st.heap st.size
 |.s (.ifi _ _ _),v,h=>by unfold ak at *;exact h.step st.gy st.heap st.size
 |.s (.ifs _ _),v,h=>by unfold ak at *;exact h.step st.gy st.heap st.size
 |.s (.ifb _ _),v,h=>by unfold ak at *;exact h.step st.gy st.heap st.size
 |.s (.raw _ _),v,h=>by unfold ak at *;exact h.step st.gy st.heap st.size
 |.s (.ro b),v,h=>by unfold ak at *;exact h.step st.gy st.heap st.size
 |.s (.rot _ _),v,h=>by unfold ak at *;exact h.step st.gy st.heap st.size
 |.s (.nr _),v,h=>by unfold ak at *;exact h.step st.gy st.heap st.size
 |.s (.pO _),v,h=>by unfold ak at *;exact h.step st.gy st.heap st.size
 |.an id off,v,h=>by unfold ak at *;exact aO.step st (.an id off) v h
 |.kQ id off n i,v,h=>by unfold ak at *;exact aO.step st (.kQ id off n i) v h
 |.kj c m j,v,h=>by unfold ak at *;exact aO.step st (.kj c m j) v h
 |.aq id,v,h=>by unfold ak at *;exact aO.step st (.aq id) v h
 |.gU id i j,v,h=>by unfold ak at *;exact aO.step st (.gU id i j) v h
 |.part id lo n,v,h=>by unfold ak at *;exact aO.step st (.part id lo n) v h
 |.sub id off n,v,h=>by unfold ak at *;exact aO.step st (.sub id off n) v h
 |.lF id i j n,v,h=>by unfold ak at *;exact aO.step st (.lF id i j n) v h
 |.emp,v,h=>by unfold ak at *;exact h
 |.fn f dF,v,h=>by
  unfold ak at *;have⟨vs,h2,h3⟩:=h;exact⟨vs,h2,bV.step st dF vs h3⟩
 |.y8 f dF,v,h=>by
  unfold ak at *;have⟨vs,h2,h3⟩:=h;exact⟨vs,h2,bV.step st dF vs h3⟩
 |.gV id,v,h=>by unfold ak at *;exact aO.step st (.gV id) v h
 |.tag id,v,h=>by unfold ak at *;exact aO.step st (.tag id) v h
end
end
inductive RM (α:Type)where
 |ret (a:α)
 |aA (id:Nat) (k:Option au->RM α)
 |fail (why:String)
def RM.eval{α:Type}(H:aV):RM α->Option α
 |.ret a=>some a
 |.aA id k=>(k (H id)).eval H
 |.fail _=>none
def RM.ids{α:Type}(H:aV):RM α->List Nat
 |.ret _=>[]
 |.aA id k=>id::(k (H id)).ids H
 |.fail _=>[]
def RM.why{α:Type}(H:aV):RM α->String
 |.ret _=> ""
 |.aA _ k=>(k (H id)).why H
 |.fail w=>w
where id:Nat:=0
structure b8 where
 ab:List Prop
 up:List (Nat×au)
 new:List au
 r:Nat->AV
def plain(ab:List Prop)(r:AV):RM b8:=.ret ⟨ab,[],[],λ_=>r⟩
def qc(why:String):Option (List Prop×AV)->RM b8
 |some (ab,r)=>plain ab r
 |none=>.fail why
def aG(n:Int):Prop:= -9223372036854775808<=n/\n<=9223372036854775807
def cp:IntKind->IntKind->Bool
 |.i8,.i8|.i16,.i16|.i32,.i32|.i64,.i64|.u8,.u8|.u16,.u16|.u32,.u32|.u64,.u64=>true
 |_,_=>false
def pP:IntKind->Bool
 |.i64=>true
 |_=>false
def bJ(op:BinOp)(k:IntKind)(x y:Int):Int:=
 let a:=BitVec.ofInt k.bits x;let b:=BitVec.ofInt k.bits y
 match op with
 |.and=>k.wrap (a &&& b).toNat
 |.or=>k.wrap (a ||| b).toNat
 |.xor=>k.wrap (a ^^^ b).toNat
 |_=>k.wrap (a &&& ~~~b).toNat
def mkInt(lit:Bool)(k:IntKind)(n:Int):AV:=.s (if lit then .aZ k n else .int k n)
def lV(lit:Bool)(b:Bool):AV:=.s (if lit then .aT b else .bool b)
def nJ(lit:Bool)(k:IntKind)(n:Int):List Prop×AV:=
 bif lit then([],.s (.aZ k (k.wrap n)))
 else bif pP k then([aG n],.s (.int k n))else([],.s (.int k (k.wrap n)))
def vI(op:BinOp)(k:IntKind)(lx ly:Bool)(x y:Int):Option (List Prop×AV):=
 let lit:=lx&&ly
 match op with
 |.add=>some (nJ lit k (x+y))
 |.sub=>some (nJ lit k (x - y))
 |.mul=>some (nJ lit k (x*y))
 |.quo=>some (bif lit then([y≠0],.s (.aZ k (k.wrap (x.tdiv y))))else bif pP k then([y≠0,aG (x.tdiv y)],.s (.int k (x.tdiv y)))else([y≠0],.s (.int k (k.wrap (x.tdiv y)))))
 |.rem=>some ([y≠0],mkInt lit k (x.tmod y))
 |.and|.or|.xor|.andNot=>some ([],mkInt lit k (bJ op k x y))
 |.eql=>some ([],lV lit (x==y))
 |.neq=>some ([],lV lit (x !=y))
 |.lss=>some ([],lV lit (decide (x<y)))
 |.leq=>some ([],lV lit (decide (x<=y)))
 |.gtr=>some ([],lV lit (decide (x>y)))
 |.geq=>some ([],lV lit (decide (x>=y)))
 |_=>none
def aeI(op:BinOp)(k:IntKind)(lit:Bool)(x y:Int):Option (List Prop×AV):=
 match op with
 |.shl=>some ([0<=y],mkInt lit k (k.wrap (x*2^(min y.toNat k.bits))))
 |.shr=>some ([0<=y],mkInt lit k (x.fdiv (2^(min y.toNat k.bits))))
 |_=>none
def slt(x y:ByteArray):Bool:=Op.bytesLess x.data.toList y.data.toList
def aeJ(op:BinOp)(x y:ByteArray):Option (List Prop×AV):=
 match op with
 |.add=>some ([x.size+y.size<=4611686018427387904],.s (.ag (x++y)))
 |.eql=>some ([],.s (.bool (decide (x=y))))
 |.neq=>some ([],.s (.bool (!decide (x=y))))
 |.lss=>some ([],.s (.bool (slt x y)))
 |.leq=>some ([],.s (.bool (slt x y||decide (x=y))))
 |.gtr=>some ([],.s (.bool !(slt x y||decide (x=y))))
 |.geq=>some ([],.s (.bool !(slt x y)))
 |_=>none
def AV.cP :AV->Option (IntKind×Bool×Int)
 |.s (.int k n)=>some (k,false,n)
 |.s (.aZ k n)=>some (k,true,n)
 |_=>none
def AV.fT :AV->Option (Bool×Bool)
 |.s (.bool b)=>some (false,b)
 |.s (.aT b)=>some (true,b)
 |_=>none
def unR(op:UnOp)(x:AV):Option (List Prop×AV):=
 match op,x with
 |.not,.s (.bool b)=>some ([],.s (.bool !b))
 |.not,.s (.aT b)=>some ([],.s (.aT !b))
 |.neg,.s (.int k n)=>some (nJ false k (0 - n))
 |.neg,.s (.aZ k n)=>some (nJ true k (0 - n))
 |_,_=>none
def aj8(c a b:AV):Option (List Prop×AV):=
 match c with
 |.s (.aT true)=>some ([],a)
 |.s (.aT false)=>some ([],b)
 |.s (.bool c)=>
  match a.fT,b.fT with
  |some (_,x),some (_,y)=>some ([],.s (.bool (bif c then x else y)))
  |_,_=>
   match a.cP,b.cP with
   |some (k,_,x),some (k',_,y)=>bif cp k k' then some ([],.s (.int k (bif c then x else y)))else none
   |_,_=>none
 |_=>none
def eh(P:Program)(t:TypeId):Option Nat:=(P.info? t).map (·.size)
def iv(P:Program)(t:TypeId):Option Bool:=
 match P.underlying t with
 |some (.struct _)|some (.array _ _)=>some true
 |some _=>some false
 |none=>none
def kindOf(P:Program)(t:TypeId):Option IntKind:=
 match P.underlying t with
 |some (.int k)=>some k
 |_=>none
def AV.wide:AV->Nat
 |.aw _ n _=>n
 |_=>1
def fU:List AV->Nat->Option (List AV)
 |aD,0=>some aD
 |[],_+1=>none
 |a::aS,n+1=>bif a.wide.ble (n+1)then fU aS (n+1 - a.wide)else none
def fV:List AV->Nat->Option (List AV)
 |_,0=>some []
 |[],_+1=>none
 |a::aS,n+1=>bif a.wide.ble (n+1)&&(1:Nat).ble a.wide then(fV aS (n+1 - a.wide)).map (a:: ·)else none
def cellAt:List AV->Nat->Option AV
 |[],_=>none
 |.aw k n ws::aS,off=>bif off.blt n then some (.s (.int k (ws.getD off 0)))else cellAt aS (off - n)
 |a::_,0=>some a
 |_::aS,off+1=>cellAt aS off
def gZ:List AV->Nat->AV->Option (List AV)
 |[],_,_=>none
 |.aw k n ws::aS,off,v=>bif off.blt n then
  (match v.cP with
   |some (k',_,x)=>bif cp k k' then some (.aw k n (ws.set off x)::aS)else none
   |none=>none)
  else(gZ aS (off - n) v).map (.aw k n ws:: ·)
 |_::aS,0,v=>some (v::aS)
 |a::aS,off+1,v=>(gZ aS off v).map (a:: ·)
def jT:List AV->Nat->Option (IntKind×Nat×List Int)
 |.aw k n ws::aS,off=>bif off.beq 0 then some (k,n,ws)else bif off.blt n then none else jT aS (off - n)
 |_::aS,off+1=>jT aS off
 |_,_=>none
def kR:List AV->Nat->List Int->Option (List AV)
 |.aw k n ws::aS,off,nA=>bif off.beq 0 then some (.aw k n nA::aS)else bif off.blt n then none else(kR aS (off - n) nA).map (.aw k n ws:: ·)
 |a::aS,off+1,nA=>(kR aS off nA).map (a:: ·)
 |_,_,_=>none
def AV.single:AV->Bool
 |.s .bk|.agg _|.aw _ _ _|.bD _=>false
 |_=>true
def AV.jZ :AV->Option (List AV)
 |.agg aD=>some aD
 |.aw k n ws=>some [.aw k n ws]
 |.bD _|.s .bk=>none
 |a=>some [a]
def AV.lW:List AV->AV
 |[.aw k n ws]=>.aw k n ws
 |aD=>.agg aD
def gA:List AV->Nat
 |[]=>0
 |a::aS=>a.wide+gA aS
def aeK(aD:List AV)(off:Nat)(j7:List AV):Option (List AV):=
 match aD,j7 with
 |[.aw k n ws],[x]=>match x.cP with
  |some (k',_,z)=>bif cp k k'&&off.blt n then some [.aw k n (ws.set off z)]else none
  |none=>none
 |_,_=>none
def uY(aD:List AV)(off:Nat)(j7:List AV):Option (List AV):=
 match aeK aD off j7 with
 |some r=>some r
 |none=>
 match fV aD off,fU aD (off+gA j7)with
 |some pre,some post=>some (pre++j7++post)
 |_,_=>none
def aix(P:Program)(rec:TypeId->List AV->List AV->Option Bool):List Field->List AV->List AV->Option Bool
 |[],_,_=>some true
 |f::fs,xs,ys=>bif f.name== "_" then aix P rec fs xs ys else
  match eh P f.type,iv P f.type with
  |some sz,some yn=>bif yn||sz.beq 1 then(match(fU xs f.offset).bind (fV · sz),(fU ys f.offset).bind (fV · sz)with
   |some a,some b=>(match rec f.type a b,aix P rec fs xs ys with
    |some p,some q=>some (p&&q)
    |_,_=>none)
   |_,_=>none)else none
  |_,_=>none
def eqC(P:Program):Nat->TypeId->List AV->List AV->Option Bool
 |0,_,_,_=>none
 |d+1,t,xs,ys=>
  match P.underlying t with
  |some (.int _)=>(match xs,ys with
   |[x],[y]=>(match x.cP,y.cP with
    |some (k,_,a),some (k',_,b)=>bif cp k k' then some (a==b)else none
    |_,_=>none)
   |_,_=>none)
  |some .bool=>(match xs,ys with
   |[x],[y]=>(match x.fT,y.fT with
    |some (_,a),some (_,b)=>some (a==b)
    |_,_=>none)
   |_,_=>none)
  |some .string=>(match xs,ys with
   |[.s (.ag a)],[.s (.ag b)]=>some (decide (a=b))
   |_,_=>none)
  |some (.array n e)=>(match xs,ys with
   |[.aw k m ws],[.aw k' m' nA]=>
    (match P.underlying e with
     |some (.int k'')=>bif (1:Nat).ble d&&cp k k'&&cp k k''&&n==m&&m==m'&&(P.info? e).any (λi=>i.size==1)then some (decide (ws=nA))else none
     |_=>none)
   |_,_=>none)
  |some (.struct fs)=>bif P.stoodInHeld t then none else aix P (eqC P d) fs.toList xs ys
  |_=>none
def aj9(P:Program)(t:TypeId):Bool:=match P.underlying t with|some (.int _)=>true|_=>false
def aka(P:Program)(t:TypeId):Bool:=match P.underlying t with|some .string=>true|_=>false
def agu(P:Program)(t:TypeId):Bool:=match P.underlying t with|some .bool=>true|_=>false
def akb(P:Program):AV->AV->Option Bool
 |.s (.ifi t k n),.s (.ifi t' k' n')=>bif t.beq t'&&cp k k'&&(P.info? t).any (·.comparable)&&aj9 P t then some (n==n')else none
 |.s (.ifs t s),.s (.ifs t' s')=>bif t.beq t'&&(P.info? t).any (·.comparable)&&aka P t then some (decide (s=s'))else none
 |.s (.ifb t b),.s (.ifb t' b')=>bif t.beq t'&&(P.info? t).any (·.comparable)&&agu P t then some (b==b')else none
 |_,_=>none
def eqI(P:Program):List AV->List AV->Option Bool
 |[],[]=>some true
 |x::xs,y::ys=>match akb P x y,eqI P xs ys with
  |some a,some b=>some (a&&b)
  |_,_=>none
 |_,_=>none
def eqR(P:Program)(t:TypeId)(x y:AV):Option (Bool×Bool):=
 match P.underlying t,x,y with
 |some .bool,x,y=>match x.fT,y.fT with
  |some (lx,a),some (ly,b)=>some (lx&&ly,a==b)
  |_,_=>none
 |some (.array n e),.aw k m ws,.aw k' m' nA=>
  match P.underlying e with
  |some (.int k'')=>bif cp k k'&&cp k k''&&n==m&&m==m'&&(P.info? e).any (λi=>i.size==1)&& !P.eqGuardType P.depth t then some (false,decide (ws=nA))else none
  |_=>none
 |some (.pointer _),.s .jz,.s .jz=>some (true,true)
 |some (.pointer _),.s .jz,.an _ _|some (.pointer _),.an _ _,.s .jz=>some (true,false)
 |some (.array n e),.agg xs,.agg ys=>
  match P.underlying e with
  |some (.interface _)=>bif n==xs.length&&n==ys.length&&(P.info? e).any (λi=>i.size==1)&& !P.eqGuardType P.depth t then(eqI P xs ys).map λb=>(false,b)else none
  |_=>none
 |some (.struct _),.agg xs,.agg ys=>bif P.eqGuardType P.depth t then none else(eqC P 20 t xs ys).map λb=>(false,b)
 |_,_,_=>none
def AV.kind? :AV->Option IntKind
 |.s (.int k _)|.s (.aZ k _)|.s (.aat k)=>some k
 |_=>none
def aeL(op:BinOp)(k:IntKind):Option AV:=
 match op with
 |.add|.sub|.mul|.and|.or|.xor|.andNot=>some (.s (.aat k))
 |.eql|.neq|.lss|.leq|.gtr|.geq=>some (.s (.lD 0 true))
 |_=>none
def aod(P:Program)(op:BinOp)(t:TypeId)(x y:AV):Option (List Prop×AV):=
 match x,y with
 |.s (.ag a),.s (.ag b)=>aeJ op a b
 |x,y=>
  match x.cP,y.cP with
  |some (k,lx,a),some (k',ly,b)=>
   match op with
   |.shl|.shr=>aeI op k (lx&&ly) a b
   |_=>bif cp k k' then vI op k lx ly a b else none
  |_,_=>
   match x.kind?,y.kind? with
   |some k,some k'=>bif cp k k' then(aeL op k).map λr=>([],r)else none
   |_,_=>
   match op with
   |.eql=>(eqR P t x y).map λ(l,b)=>([],lV l b)
   |.neq=>(eqR P t x y).map λ(l,b)=>([],lV l (!b))
   |_=>none
def aoe:Value->Option SV
 |.bool b=>some (.aT b)
 |.int k n=>some (.aZ k n)
 |.string s=>some (.ag s)
 |.pointer none=>some .jz
 |.nilIface=>some .aeF
 |.nilFunc=>some .aeG
 |.map none=>some .aeH
 |_=>none
def qX:Value->Option AV
 |.slice none 0 0=>some .emp
 |v=>(aoe v).map .s
def qY:List Value->Option (List AV)
 |[]=>some []
 |v::vs=>match qX v,qY vs with
  |some a,some aS=>some (a::aS)
  |_,_=>none
def nK(k:IntKind):List Value->Bool
 |[]=>true
 |.int k' 0::vs=>cp k k'&&nK k vs
 |_=>false
def ix(P:Program):Nat->TypeId->List Value->Option (List AV)
 |0,_,_=>none
 |d+1,t,cs=>
  match P.underlying t with
  |some (.struct fs)=>fs.toList.foldl (λacc f=>
   match acc,eh P f.type with
   |some (aD,rest),some n=>(ix P d f.type (rest.take n)).map λs=>(aD++s,rest.drop n)
   |_,_=>none) (some ([],cs)) |>.bind λ(aD,rest)=>match rest with|[]=>some aD|_=>none
  |some (.array n e)=>match kindOf P e with
   |some k=>bif nK k cs&&cs.length==n then some [.aw k n (replicate n 0)]else qY cs
   |none=>qY cs
  |_=>qY cs
def aau:Value->AV
 |.agg cs=>match qY cs.toList with|some aS=>.agg aS|none=>.s .bk
 |v=>(qX v).getD (.s .bk)
def zeroOf(P:Program)(t:TypeId):Option AV:=
 match(P.info? t).bind (·.zero),iv P t with
 |some (.agg cs),some true=>(ix P 20 t cs.toList).map .lW
 |some v,some false=>qX v
 |_,_=>none
def CL.aD:(cs:List CK)->CL cs->List AV
 |[],_=>[]
 |.arr k n::cs,x=>.aw k n x.1::CL.aD cs x.2
 |.int k::cs,x=>.s (.int k x.1)::CL.aD cs x.2
 |.bool::cs,x=>.s (.bool x.1)::CL.aD cs x.2
 |.ag::cs,x=>.s (.ag x.1)::CL.aD cs x.2
 |.aw k::cs,x=>.s (.ro (.aw k x.1))::CL.aD cs x.2
 |.strs::cs,x=>.s (.ro (.strs x.1))::CL.aD cs x.2
 |.bY::cs,x=>.s (.ro (.bY x.1))::CL.aD cs x.2
 |.rows ds::cs,x=>.s (.ro (.az ds x.1))::CL.aD cs x.2
def ft:List AV->List Prop
 |[]=>[]
 |.aw _ n ws::aS=>(ws.length=n)::ft aS
 |_::aS=>ft aS
def akc(k:IntKind):SV->Option Int
 |.int k' x|.aZ k' x=>bif cp k k' then some x else none
 |_=>none
def aeM:SV->Option Bool
 |.bool x|.aT x=>some x
 |_=>none
def akd:SV->Option ByteArray
 |.ag x=>some x
 |_=>none
def aeN(k:IntKind):SV->Option (List Int)
 |.ro (.aw k' zs)=>bif cp k k' then some zs else none
 |.ro (.fo _ 0 _)=>some []
 |_=>none
def aeO:SV->Option (List ByteArray)
 |.ro (.strs zs)=>some zs
 |.ro (.fo _ 0 _)=>some []
 |_=>none
def aav:SV->Option (List Bool)
 |.ro (.bY zs)=>some zs
 |.ro (.fo _ 0 _)=>some []
 |_=>none
def aeP(cs:List CK):SV->Option (List (CL cs))
 |.ro (.az j8 zs)=>(CL.eq j8 cs).map λh=>abZ h zs
 |.ro (.fo _ 0 _)=>some []
 |_=>none
def CK.set:(c:CK)->c.V->Nat->SV->Option c.V
 |.int k,_,_,v=>akc k v
 |.bool,_,_,v=>aeM v
 |.ag,_,_,v=>akd v
 |.aw k,_,_,v=>aeN k v
 |.strs,_,_,v=>aeO v
 |.bY,_,_,v=>aav v
 |.rows cs,_,_,v=>aeP cs v
 |.arr _ _,_,_,_=>none
def CL.set:(cs:List CK)->CL cs->Nat->SV->Option (CL cs)
 |[],_,_,_=>none
 |c::cs,x,j,v=>bif j.blt c.wide then(c.set x.1 j v).map λy=>(y,x.2)else(CL.set cs x.2 (j - c.wide) v).map λy=>(x.1,y)
def CK.setRow:(c:CK)->IntKind->Nat->List Int->Option c.V
 |.arr k' n',k,n,ws=>bif cp k k'&&n.beq n' then some ws else none
 |_,_,_,_=>none
def CL.setRow:(cs:List CK)->CL cs->Nat->IntKind->Nat->List Int->Option (CL cs)
 |[],_,_,_,_,_=>none
 |c::cs,x,j,k,n,ws=>bif j.beq 0 then(c.setRow k n ws).map λy=>(y,x.2)
   else bif c.wide.ble j then(CL.setRow cs x.2 (j - c.wide) k n ws).map λy=>(x.1,y)else none
def qZ(yn:Bool)(c:a8)(i j sz:Nat):RM b8:=
 bif yn then
  (match c with
   |.az cs xs=>(match(fU (CL.aD cs (xs.getD i (CL.d cs))) j).bind (fV · sz)with
     |some ss=>plain (ft (CL.aD cs (xs.getD i (CL.d cs)))) (.lW ss)
     |none=>.fail "load: no such parts of the element")
   |c=>bif (j+sz).ble c.size then plain [] (.agg ((List.range sz).map λl=>.s (c.cell i (j+l))))else .fail "load: beyond the element")
 else(bif j.blt c.size then plain [] (.s (c.cell i j))else .fail "load: beyond the element")
def agv(P:Program)(t:TypeId)(a:AV):RM b8:=
 match eh P t,iv P t with
 |some sz,some yn=>
  match a with
  |.an id off=>.aA id λ
   |some (.ay aD _)=>bif yn then
    (match(fU aD off).bind (fV · sz)with
     |some ss=>plain [] (.lW ss)
     |none=>.fail "load: no such parts")
    else(match cellAt aD off with
     |some v=>plain [] v
     |none=>.fail "load: no such cell")
   |_=>.fail "load: no own object"
  |.kQ id off n i=>.aA id λ
   |some (.ay aD _)=>match jT aD off with
    |some (k,m,ws)=>bif m.beq n&& !yn then plain [] (.s (.int k (ws.getD i 0)))else .fail "load: a row of another length"
    |none=>.fail "load: no row"
   |_=>.fail "load: no own object"
  |.kj c i j=>qZ yn c i j sz
  |.gU id i j=>.aA id λ
   |some (.aq c _)=>qZ yn c i j sz
   |_=>.fail "load: no vec"
  |_=>.fail "load: no address"
 |_,_=>.fail "load: no type"
def sM:a8->Nat->Nat->SV->Option a8
 |.aw k zs,i,_,v=>match v with
  |.int k' x|.aZ k' x=>bif cp k k' then some (.aw k (zs.set i x))else none
  |_=>none
 |.strs ss,i,_,v=>match v with
  |.ag x=>some (.strs (ss.set i x))
  |_=>none
 |.bY bs,i,_,v=>match v with
  |.bool x|.aT x=>some (.bY (bs.set i x))
  |_=>none
 |.az cs xs,i,j,v=>(CL.set cs (xs.getD i (CL.d cs)) j v).map λy=>.az cs (xs.set i y)
 |.fo s n get,i,j,v=>some (.fo s n λi' j'=>bif i'==i&&j'==j then v else get i' j')
def oY:a8->Nat->Nat->IntKind->Nat->List Int->Option a8
 |.az cs xs,i,j,k,n,ws=>(CL.setRow cs (xs.getD i (CL.d cs)) j k n ws).map λy=>.az cs (xs.set i y)
 |_,_,_,_,_,_=>none
def fv(c:a8)(i j:Nat):List AV->Option a8
 |[]=>some c
 |.s v::aS=>(sM c i j v).bind λc'=>fv c' i (j+1) aS
 |.aw k n ws::aS=>(oY c i j k n ws).bind λc'=>fv c' i (j+n) aS
 |_=>none
def nL(cs:List CK)(x:CL cs)(j:Nat):List AV->Option (CL cs)
 |[]=>some x
 |.s v::aS=>(CL.set cs x j v).bind λy=>nL cs y (j+1) aS
 |.aw k n ws::aS=>(CL.setRow cs x j k n ws).bind λy=>nL cs y (j+n) aS
 |_=>none
def agw(c:a8)(i j:Nat)(j7:List AV):Option a8:=match c with
 |.az cs xs=>(nL cs (xs.getD i (CL.d cs)) j j7).map λy=>.az cs (xs.set i y)
 |_=>fv c i j j7
def aeQ(P:Program)(t:TypeId)(a x:AV):RM b8:=
 match eh P t,iv P t with
 |some sz,some yn=>
  match a with
  |.an id off=>.aA id λ
   |some (.ay aD e)=>
    bif yn then
     (match x.jZ with
      |some j7=>bif (gA j7).beq sz&&(1:Nat).ble sz then
       (match uY aD off j7 with
        |some fy=>.ret ⟨[],[(id,.ay fy e)],[],λ_=>.bD []⟩
        |none=>.fail "store: no such parts")else .fail "store: another size"
      |none=>.fail "store: no parts")
    else(bif x.single&&sz.beq 1 then
     (match gZ aD off x with
      |some fy=>.ret ⟨[],[(id,.ay fy e)],[],λ_=>.bD []⟩
      |none=>.fail "store: no such cell")else .fail "store: no one cell")
   |_=>.fail "store: no own object"
  |.kQ id off n i=>.aA id λ
   |some (.ay aD e)=>match jT aD off,x.cP with
    |some (k,m,ws),some (k',_,y)=>bif m.beq n&&cp k k'&& !yn&&sz.beq 1 then
     (match kR aD off (ws.set i y)with
      |some fy=>.ret ⟨[],[(id,.ay fy e)],[],λ_=>.bD []⟩
      |none=>.fail "store: no row")else .fail "store: a row of another length"
    |_,_=>.fail "store: no row"
   |_=>.fail "store: no own object"
  |.gU id i j=>.aA id λ
   |some (.aq c e)=>match x.jZ with
    |some j7=>bif (gA j7).beq sz&&(j+sz).ble c.size then
     (match agw c i j j7 with
      |some c'=>.ret ⟨[],[(id,.aq c' e)],[],λ_=>.bD []⟩
      |none=>.fail "store: another kind of element")else .fail "store: another size"
    |none=>.fail "store: no parts"
   |_=>.fail "store: no vec"
  |_=>.fail "store: no own address"
 |_,_=>.fail "store: no type"
def qd(P:Program)(t:TypeId)(x:AV)(f:Nat):RM b8:=
 match P.underlying t with
 |some (.struct fs)=>match fs[f]? with
  |some fd=>bif (eh P fd.type).any (λn=>(1:Nat).ble n)then
   (match x with
    |.an id off=>plain [] (.an id (off+fd.offset))
    |.kj c i j=>plain [] (.kj c i (j+fd.offset))
    |.gU id i j=>.aA id λ
     |some (.aq c _)=>bif (j+fd.offset).blt c.size then plain [] (.gU id i (j+fd.offset))else .fail "fieldAddr: beyond"
     |_=>.fail "fieldAddr: no vec"
    |_=>.fail "fieldAddr: no address")else .fail "fieldAddr: an empty field"
  |none=>.fail "fieldAddr: no field"
 |_=>.fail "fieldAddr: no struct"
def qg(P:Program)(t:TypeId)(x i:AV):RM b8:=
 match i.cP,P.underlying t with
 |some (_,_,n),some (.slice e)=>
  (match eh P e,x with
   |some sz,.s (.ro c)=>bif sz.beq c.size then plain [0<=n,n<c.n] (.kj c n.toNat 0)else .fail "indexAddr: size"
   |some sz,.aq id=>.aA id λ
    |some (.aq c _)=>bif sz.beq c.size&&(1:Nat).ble sz then plain [0<=n,n<c.n] (.gU id n.toNat 0)else .fail "indexAddr: size"
    |_=>.fail "indexAddr: no vec"
   |some sz,.part id lo m=>.aA id λ
    |some (.aq c _)=>bif sz.beq c.size&&(1:Nat).ble sz then plain [0<=n,n<m] (.gU id (lo+n.toNat) 0)else .fail "indexAddr: size"
    |_=>.fail "indexAddr: no vec"
   |_,_=>.fail "indexAddr: no slice")
 |some (_,lit,n),some (.array len e)=>
  (match eh P e,x with
   |some sz,.an id off=>bif lit then
    (bif decide (0<=n)&&decide (n<len)then plain [] (.an id (off+n.toNat*sz))else .fail "indexAddr: out of range")
    else(bif sz.beq 1 then plain [0<=n,n<len] (.kQ id off len n.toNat)else .fail "indexAddr: wide elements")
   |some sz,.gU id i0 0=>.aA id λ
    |some (.aq c _)=>bif sz.beq c.size&&(1:Nat).ble sz then plain [0<=n,n<len,i0+n<c.n] (.gU id (i0+n.toNat) 0)else .fail "indexAddr: size"
    |_=>.fail "indexAddr: no vec"
   |_,_=>.fail "indexAddr: no array")
 |_,_=>.fail "indexAddr: no number or type"
def aN(s:ByteArray)(i:Nat):Int:=((s.data.toList.getD i 0).toNat:Int)
def aeR(P:Program)(t:TypeId)(x i:AV):RM b8:=
 match i.cP,P.underlying t,x with
 |some (_,_,n),some (.array len e),.aw k m ws=>bif len.beq m&&(iv P e).any (!·)&&(eh P e).any (·.beq 1)then plain [0<=n,n<len] (.s (.int k (ws.getD n.toNat 0)))else .fail "index: array"
 |some (_,_,n),some .string,.s (.ag s)=>plain [0<=n,n<s.size] (.s (.int .u8 (aN s n.toNat)))
 |some (_,_,n),some (.array len e),.agg aD=>bif (iv P e).any (!·)&&(eh P e).any (·.beq 1)then
  (match cellAt aD n.toNat with
   |some v=>plain [0<=n,n<len] v
   |none=>.fail "index: no cell")else .fail "index: array of parts"
 |_,_,_=>.fail "index"
def aeS(P:Program)(t:TypeId)(x:AV)(f:Nat):RM b8:=
 match P.underlying t,x with
 |some (.struct fs),.agg aD=>match fs[f]? with
  |some fd=>match eh P fd.type,iv P fd.type with
   |some sz,some true=>match(fU aD fd.offset).bind (fV · sz)with
    |some ss=>plain [] (.lW ss)
    |none=>.fail "field: parts"
   |some _,some false=>match cellAt aD fd.offset with
    |some v=>plain [] v
    |none=>.fail "field: cell"
   |_,_=>.fail "field: type"
  |none=>.fail "field: none"
 |_,_=>.fail "field"
def vJ(x:AV)(i:Nat):RM b8:=
 match x with
 |.bD vs=>match vs[i]? with
  |some v=>plain [] v
  |none=>.fail "extract"
 |_=>.fail "extract: no tuple"
def aaw(P:Program)(t:TypeId):Option Nat:=
 match P.underlying t,P.info? t with
 |some (.array n e),some i=>match P.underlying e,i.zero with
  |some .string,some z=>bif (4:Nat).ble n&&n.ble 4096&&z.cells.size.beq n&&z.cells.toList.all (λv=>match v with|.string s=>s.size.beq 0|_=>false)then some n else none
  |_,_=>none
 |_,_=>none
def aeT(P:Program)(t:TypeId):RM b8:=
 match aaw P t with
 |some n=>.ret ⟨[],[],[.aq (.strs (replicate n empty)) t],λid=>.gU id 0 0⟩
 |none=>
 match(zeroOf P t).bind AV.jZ with
 |some aD=>.ret ⟨[],[],[.ay aD t],λid=>.an id 0⟩
 |none=>.fail "alloc: zero"
def ase(t:TypeId)(v:AV):RM b8:=
 match v.jZ with
 |some aD=>.ret ⟨[],[],[.ay aD t],λid=>.an id 0⟩
 |none=>.fail "box"
def qh(place:Nat->Option (Nat×Nat))(aD:List AV):List (Nat×AV)->Option (List AV)
 |[]=>some aD
 |(i,v)::rest=>
  match place i,v.jZ with
  |some (off,size),some j7=>bif (gA j7).beq size&&(1:Nat).ble size then(uY aD off j7).bind λs=>qh place s rest else none
  |_,_=>none
def aeU(P:Program)(t:TypeId)(parts:List (Nat×AV)):RM b8:=
 match(zeroOf P t).bind AV.jZ,P.underlying t with
 |some aD,some (.struct fs)=>bif fs.toList.all (λf=>(eh P f.type).isSome)then
  match qh (λi=>(fs[i]?).bind λf=>(eh P f.type).map λn=>(f.offset,n)) aD parts with
  |some ss=>plain [] (.lW ss)
  |none=>.fail "build: parts"
  else .fail "build: a field's size"
 |some aD,some (.array _ e)=>
  match eh P e with
  |some sz=>match qh (λi=>some (i*sz,sz)) aD parts with
   |some ss=>plain [] (.lW ss)
   |none=>.fail "build: array"
  |none=>.fail "build: element"
 |_,_=>.fail "build: zero"
def AV.sv? :AV->Option SV
 |.s .bk=>none
 |.s v=>some v
 |.emp=>some (.ro (.fo 1 0 λ_ _=>.bk))
 |_=>none
def svs:List AV->Option (List SV)
 |[]=>some []
 |.aw _ _ _::_=>none
 |a::aS=>match a.sv?,svs aS with
  |some v,some vs=>some (v::vs)
  |_,_=>none
def qi(k:IntKind):List SV->Option (List Int)
 |[]=>some []
 |.int k' n::vs|.aZ k' n::vs=>bif cp k k' then(qi k vs).map (n:: ·)else none
 |_=>none
def sN:List SV->Option (List ByteArray)
 |[]=>some []
 |.ag s::vs=>(sN vs).map (s:: ·)
 |_=>none
def oZ:List SV->Option (List Bool)
 |[]=>some []
 |.bool b::vs|.aT b::vs=>(oZ vs).map (b:: ·)
 |_=>none
inductive Shape where
 |aw (k:IntKind)|strs|bY|az (cs:List CK)|other
def ake(P:Program):Nat->TypeId->Option (List CK)
 |0,_=>none
 |d+1,t=>
  match P.underlying t with
  |some (.int k)=>some [.int k]
  |some .bool=>some [.bool]
  |some .string=>some [.ag]
  |some (.slice e)=>match P.underlying e with
   |some (.int k)=>some [.aw k]
   |some .string=>some [.strs]
   |some .bool=>some [.bY]
   |_=>(ake P d e).map λcs=>[.rows cs]
  |some (.struct fs)=>fs.toList.foldr (λf acc=>match ake P d f.type,acc with
   |some a,some b=>some (a++b)
   |_,_=>none) (some [])
  |some (.array n e)=>match P.underlying e with
   |some (.int k)=>some [.arr k n]
   |_=>none
  |_=>none
def shapeOf(P:Program)(e:TypeId):Shape:=
 match P.underlying e with
 |some (.int k)=>.aw k
 |some .string=>.strs
 |some .bool=>.bY
 |_=>match ake P 8 e with
  |some cs=>.az cs
  |none=>.other
def CL.ofs(cs:List CK)(f:Nat->SV):Option (CL cs):=(List.range (CL.wide cs)).foldl (λacc j=>acc.bind λx=>CL.set cs x j (f j)) (some (CL.d cs))
def y9(cs:List CK)(size:Nat)(cells:List SV):Nat->Nat->Option (List (CL cs))
 |_,0=>some []
 |i,n+1=>match CL.ofs cs (λj=>cells.getD (i*size+j) .bk),y9 cs size cells (i+1) n with
  |some x,some xs=>some (x::xs)
  |_,_=>none
def ue(sh:Shape)(size n:Nat)(cells:List SV):a8:=
 let d:a8:=.fo size n λi j=>cells.getD (i*size+j) .bk
 match sh with
 |.aw k=>(qi k cells).elim d (.aw k)
 |.strs=>(sN cells).elim d .strs
 |.bY=>(oZ cells).elim d .bY
 |.az cs=>bif (CL.wide cs).beq size then(y9 cs size cells 0 n).elim d (.az cs)else d
 |.other=>d
def akf(sh:Shape)(size:Nat):a8:=
 match sh with
 |.aw k=>.aw k []
 |.strs=>.strs []
 |.bY=>.bY []
 |.az cs=>.az cs []
 |.other=>.fo size 0 λ_ _=>.bk
def rep{α:Type}(n:Nat)(x:List α):List α:=
 match n with
 |0=>[]
 |n+1=>x++rep n x
def nM(P:Program)(t:TypeId)(n:Nat)(parts:List (Nat×AV)):RM b8:=
 match P.underlying t with
 |some (.slice e)=>
  match eh P e,(zeroOf P e).bind AV.jZ with
  |some sz,some z=>bif (1:Nat).ble sz&&(n*sz).ble 4096&&(gA z).beq sz then
   (match(qh (λi=>some (i*sz,sz)) (rep n z) parts).bind svs with
    |some cells=>bif cells.length.beq (n*sz)&&(ue (shapeOf P e) sz n cells).n.beq n&&(ue (shapeOf P e) sz n cells).size.beq sz then .ret ⟨[],[],[.aq (ue (shapeOf P e) sz n cells) e],λid=>.aq id⟩else .fail "buildSlice: length"
    |none=>.fail "buildSlice: parts")else .fail "buildSlice: size"
  |_,_=>.fail "buildSlice: zero"
 |_=>.fail "buildSlice: type"
def dI:a8->a8->a8
 |.aw k xs,.aw k' ys=>bif cp k k' then .aw k (xs++ys)else .fo 1 (xs.length+ys.length) λi j=>bif i.blt xs.length then(a8.aw k xs).cell i j else(a8.aw k' ys).cell (i - xs.length) j
 |.strs xs,.strs ys=>.strs (xs++ys)
 |.bY xs,.bY ys=>.bY (xs++ys)
 |.az cs xs,.az j8 ys=>match CL.eq j8 cs with
  |some h=>.az cs (xs++abZ h ys)
  |none=>.fo (CL.wide cs) (xs.length+ys.length) λi j=>bif i.blt xs.length then(a8.az cs xs).cell i j else(a8.az j8 ys).cell (i - xs.length) j
 |c,d=>.fo c.size (c.n+d.n) λi j=>bif i.blt c.n then c.cell i j else d.cell (i - c.n) j
def dY:a8->Nat->Nat->a8
 |.aw k zs,l,h=>.aw k ((zs.take h).drop l)
 |.strs zs,l,h=>.strs ((zs.take h).drop l)
 |.bY zs,l,h=>.bY ((zs.take h).drop l)
 |.az cs zs,l,h=>.az cs ((zs.take h).drop l)
 |.fo s _ get,l,h=>.fo s (h - l) λi j=>get (l+i) j
def over{α:Type}(xs:List α)(lo k:Nat)(ys:List α):List α:=xs.take lo++ys.take k++xs.drop (lo+k)
def dQ:a8->Nat->Nat->a8->a8
 |.aw k1 xs,lo,k,.aw k2 ys=>bif cp k1 k2 then .aw k1 (over xs lo k ys)else .fo 1 xs.length λi j=>bif lo.ble i&&i.blt (lo+k)then(a8.aw k2 ys).cell (i - lo) j else(a8.aw k1 xs).cell i j
 |.strs xs,lo,k,.strs ys=>.strs (over xs lo k ys)
 |.bY xs,lo,k,.bY ys=>.bY (over xs lo k ys)
 |.az cs xs,lo,k,.az j8 ys=>match CL.eq j8 cs with
  |some h=>.az cs (over xs lo k (abZ h ys))
  |none=>.fo (CL.wide cs) xs.length λi j=>bif lo.ble i&&i.blt (lo+k)then(a8.az j8 ys).cell (i - lo) j else(a8.az cs xs).cell i j
 |c,lo,k,d=>.fo c.size c.n λi j=>bif lo.ble i&&i.blt (lo+k)then d.cell (i - lo) j else c.cell i j
def asf:SV->Value->Bool
 |.int k n,.int k' n'=>cp k k'&&n==n'
 |.bool b,.bool b'=>b==b'
 |.ag s,.string s'=>s.size.beq 0&&s'.size.beq 0
 |.ro c,.slice none 0 0=>c.n.beq 0
 |_,_=>false
def dR(sh:Shape)(n:Nat):a8:=
 match sh with
 |.aw k=>.aw k (replicate n 0)
 |.strs=>.strs (replicate n empty)
 |.bY=>.bY (replicate n false)
 |.az cs=>.az cs (replicate n (CL.d cs))
 |.other=>.fo 1 n λ_ _=>.bk
def gG(sh:Shape)(z:List Value):Bool:=(dR sh 1).size.beq z.length&&(List.range z.length).all λj=>asf ((dR sh 1).cell 0 j) (z.getD j undef)
def rowOf(sh:Shape)(size:Nat)(x:AV)(k:a8->Option Nat->RM b8):RM b8:=
 match x with
 |.s v=>(match v with
  |.ro c=>k c none
  |_=>.fail "row")
 |.emp=>k (akf sh size) none
 |.aq id=>.aA id λ
  |some (.aq c _)=>k c (some id)
  |_=>.fail "row: no vec"
 |.part id lo n=>.aA id λ
  |some (.aq c _)=>k (dY c lo (lo+n)) (some id)
  |_=>.fail "row: no vec"
 |_=>.fail "row"
def za(sh:Shape)(size:Nat)(x:AV)(k:a8->Option Nat->RM b8):RM b8:=
 match x with
 |.s (.ag s)=>k (.aw .u8 (s.data.toList.map λb=>(b.toNat:Int))) none
 |x=>rowOf sh size x k
def aax(P:Program)(t:TypeId)(x y:AV):RM b8:=
 match P.underlying t with
 |some (.slice e)=>
  match P.info? e with
  |some i=>
   let sh:=shapeOf P e
   bif (1:Nat).ble i.size&&(1:Nat).ble i.bytes&&i.bytes.ble 256&&i.zero.any (λz=>z.cells.size==i.size&&z.cells.toList.all (·.oneCell'))then
    za sh i.size y λd idy=>
     bif d.size.beq i.size then
      (match x with
       |.emp=>.ret ⟨[d.n*i.bytes<=140737488355328],[],[.aq d e],λid=>.aq id⟩
       |.aq idx=>.aA idx λ
        |some (.aq c e')=>bif c.size.beq i.size&&e'.beq e&& !(idy==some idx)then
         .ret ⟨[(c.n+d.n)*i.bytes<=140737488355328],[(idx,.aB)],[.aq (dI c d) e],λid=>.aq id⟩else .fail "append: size"
        |_=>.fail "append: no vec"
       |.part idx lo n=>.aA idx λ
        |some (.aq c e')=>bif c.size.beq i.size then
         .ret ⟨[lo+n+d.n<=c.n],[(idx,.aq (dQ c (lo+n) d.n d) e')],[],λ_=>.part idx lo (n+d.n)⟩else .fail "append: size"
        |_=>.fail "append: no vec"
       |_=>.fail "append: what is appended to is not own")
     else .fail "append: another size"
   else .fail "append: element"
  |none=>.fail "append: no element"
 |_=>.fail "append: type"
def vK(P:Program)(t t':TypeId)(x y:AV):RM b8:=
 match P.underlying t,P.underlying t',x,y.cP with
 |some (.slice e),some (.int _),.s (.rot c k),some (_,_,j)=>
  (match P.info? e with
   |some i=>bif (1:Nat).ble i.size&&i.bytes.ble 256&&c.size.beq i.size&&i.zero.any (λz=>gG (shapeOf P e) z.cells.toList&&z.cells.size==i.size)then
    .ret ⟨[0<j,(k:Int)<=c.n+j,(c.n:Int)+j<=4294967296],[],[.aq (dI c (dR (shapeOf P e) j.toNat)) e],λid=>.aq id⟩else .fail "append: zeros"
   |none=>.fail "append: element")
 |_,_,_,_=>.fail "append: zeros?"
def ash(P:Program)(t:TypeId)(x:AV):RM b8:=
 match P.underlying t,x with
 |some .string,.s (.ag s)=>plain [] (.s (.int .i64 s.size))
 |some (.array n _),_=>plain [] (.s (.aZ .i64 n))
 |some (.slice _),.s (.ro c)=>plain [] (.s (.int .i64 c.n))
 |some (.slice _),.s (.rot c _)=>plain [] (.s (.int .i64 c.n))
 |some (.slice _),.emp=>plain [] (.s (.aZ .i64 0))
 |some (.slice _),.aq id=>.aA id λ
  |some (.aq c _)=>plain [] (.s (.int .i64 c.n))
  |_=>.fail "len: no vec"
 |some (.slice _),.part id _ n=>.aA id λ
  |some (.aq _ _)=>plain [] (.s (.int .i64 n))
  |_=>.fail "len: no vec"
 |some (.map _ _),.gV id=>.aA id λ
  |some (.map _ m)=>plain [] (.s (.int .i64 m.length))
  |_=>.fail "len: no map"
 |_,_=>.fail "len"
def asi(P:Program)(t:TypeId)(x:AV):RM b8:=
 match P.underlying t,x with
 |some (.slice _),.s (.rot _ k)=>plain [] (.s (.pO k))
 |some (.slice _),.aq id=>.aA id λ
  |some (.aq c _)=>plain [] (.s (.nr c.n))
  |_=>.fail "cap: no vec"
 |some (.slice _),.part id lo _=>.aA id λ
  |some (.aq c _)=>plain [] (.s (.nr (c.n - lo)))
  |_=>.fail "cap: no vec"
 |_,_=>.fail "cap"
def imax(a b:Int):Int:=if b>a then b else a
def qj(a b:Int):Int:=if b<a then b else a
def aof(mx:Bool)(x y:AV):RM b8:=
 match x.cP,y.cP with
 |some (k,lx,a),some (k',ly,b)=>bif cp k k' then
  (bif mx then plain [] (mkInt (lx&&ly) k (imax a b))else plain [] (mkInt (lx&&ly) k (qj a b)))else .fail "min: kinds"
 |_,_=>.fail "min"
def hM(d:Int):Option AV->Option Int
 |none=>some d
 |some a=>(a.cP).map λ(_,_,n)=>n
def agx(P:Program)(e:TypeId)(c:a8)(id lo0 n:Nat)(lo hi mx:Option AV):RM b8:=
 match eh P e with
 |some sz=>bif sz.beq c.size then
  (match mx with
   |none=>(match hM 0 lo,hM n hi with
    |some l,some h=>plain [0<=l,l<=h,(lo0:Int)+h<=c.n] (.part id (lo0+l.toNat) (h.toNat - l.toNat))
    |_,_=>.fail "slice: bounds")
   |some m=>(match hM 0 lo,hi.bind AV.cP,m.cP with
    |some l,some (_,_,h),some (_,_,m)=>plain [0<=l,l<=h,h<=m,(lo0:Int)+m<=c.n] (.s .bk)
    |_,_,_=>.fail "slice: three"))else .fail "slice: size"
 |none=>.fail "slice: element"
def akg(P:Program)(t:TypeId)(x y:AV):RM b8:=
 match P.underlying t with
 |some (.slice e)=>
  match eh P e with
  |some sz=>bif (1:Nat).ble sz then
   za (shapeOf P e) sz y λd _=>bif d.size.beq sz then
    (match x with
     |.aq id=>.aA id λ
      |some (.aq c e')=>bif c.size.beq sz then
       .ret ⟨[],[(id,.aq (dQ c 0 (min d.n c.n) d) e')],[],λ_=>.s (.int .i64 ((min d.n c.n:Nat):Int))⟩else .fail "copy: size"
      |_=>.fail "copy: no vec"
     |.part id lo n=>.aA id λ
      |some (.aq c e')=>bif c.size.beq sz then
       .ret ⟨[],[(id,.aq (dQ c lo (min d.n n) d) e')],[],λ_=>.s (.int .i64 ((min d.n n:Nat):Int))⟩else .fail "copy: size"
      |_=>.fail "copy: no vec"
     |_=>.fail "copy: not own")else .fail "copy: another size"
   else .fail "copy: size"
  |none=>.fail "copy: element"
 |_=>.fail "copy: type"
def j9{k:IntKind}{m:Nat}(x:CL [.arr k m]):List Int:=x.1
def zb{k:IntKind}{m:Nat}(ws:List Int):CL [.arr k m]:=(ws,())
def uZ(x:AV)(k:IntKind->List Int->Prop->RM b8):RM b8:=
 match x with
 |.s (.ag s)=>k .u8 (s.data.toList.map λb=>(b.toNat:Int)) True
 |.sub id off n=>.aA id λ
  |some (.ay [.aw q m ws] _)=>k q ((ws.drop off).take n) (off+n<=m)
  |_=>.fail "copy: no numbers"
 |_=>.fail "copy: from what?"
def aeV(P:Program)(t:TypeId)(x y:AV):RM b8:=
 match P.underlying t with
 |some (.slice e)=>
  match eh P e with
  |some sz=>bif sz.beq 1 then
   (match x with
    |.sub id off n=>uZ y λq zs p=>.aA id λ
      |some (.ay [.aw k m ws] e')=>bif cp q k then
       .ret ⟨[p,off+n<=m],[(id,.ay [.aw k m (over ws off (min zs.length n) zs)] e')],[],λ_=>.s (.int .i64 ((min zs.length n:Nat):Int))⟩else .fail "copy: kind"
      |_=>.fail "copy: no array"
    |.lF id i j n=>uZ y λq zs p=>.aA id λ
      |some (.aq (.az [.arr k m] xs) e')=>bif cp q k&&(1:Nat).ble m then
       .ret ⟨[p,(j9 (xs.getD i (CL.d [.arr k m]))).length=m],[(id,.aq (.az [.arr k m] (xs.set i (zb (over (j9 (xs.getD i (CL.d [.arr k m]))) j (min zs.length n) zs)))) e')],[],λ_=>.s (.int .i64 ((min zs.length n:Nat):Int))⟩else .fail "copy: kind"
      |_=>.fail "copy: no vec"
    |_=>.fail "copy: not an array")else .fail "copy: size"
  |none=>.fail "copy: element"
 |_=>.fail "copy: type"
def auR:AV->Bool
 |.sub _ _ _|.lF _ _ _ _=>true
 |_=>false
def aeW(P:Program)(t:TypeId)(x:AV):RM b8:=
 match P.underlying t,x with
 |some (.slice e),.part id lo n=>
  (match P.info? e with
   |some i=>bif (1:Nat).ble i.size&&i.zero.any (λz=>gG (shapeOf P e) z.cells.toList&&z.cells.size==i.size)then
    .aA id λ
    |some (.aq c e')=>bif c.size.beq i.size then
     .ret ⟨[],[(id,.aq (dQ c lo n (dR (shapeOf P e) n)) e')],[],λ_=>.bD []⟩else .fail "clear: size"
    |_=>.fail "clear: no vec"
    else .fail "clear: zero"
   |none=>.fail "clear: element")
 |some (.map _ _),.gV id=>.aA id λ
  |some (.map ck _)=>.ret ⟨[],[(id,.map ck [])],[],λ_=>.bD []⟩
  |_=>.fail "clear: no map"
 |_,_=>.fail "clear"
def qk(P:Program)(t:TypeId)(l c:AV):RM b8:=
 match P.underlying t,l.cP,c.cP with
 |some (.slice e),some (_,_,l),some (_,_,c)=>
  (match P.info? e with
   |some i=>bif (1:Nat).ble i.size&&i.bytes.ble 256&&i.zero.any (λz=>gG (shapeOf P e) z.cells.toList&&z.cells.size==i.size)then
    .ret ⟨[0<=l,l<=c,c<=1073741824],[],[.aq (dR (shapeOf P e) l.toNat) e],λid=>.aq id⟩else .fail "makeSlice: zero"
   |none=>.fail "makeSlice: element")
 |_,_,_=>.fail "makeSlice"
def aeX(P:Program)(t:TypeId)(x:AV)(lo hi mx:Option AV):RM b8:=
 match P.underlying t,x with
 |some .string,.s (.ag s)=>
  (match hM 0 lo,hM s.size hi,mx with
   |some l,some h,none=>plain [0<=l,l<=h,h<=s.size] (.s (.ag (s.extract l.toNat h.toNat)))
   |_,_,_=>.fail "slice: string")
 |some (.slice e),.emp=>(match eh P e,hM 0 lo,hM 0 hi,mx with
  |some _,some l,some h,none=>plain [l=0,h=0] .emp
  |_,_,_,_=>.fail "slice: emp")
 |some (.slice e),.s (.ro c)=>
  (match eh P e with
   |some sz=>bif sz.beq c.size then
    (match mx with
     |none=>(match hM 0 lo,hM c.n hi with
      |some l,some h=>plain [0<=l,l<=h,h<=c.n] (.s (.ro (dY c l.toNat h.toNat)))
      |_,_=>.fail "slice: bounds")
     |some m=>(match hM 0 lo,hi.bind AV.cP,m.cP with
      |some l,some (_,_,h),some (_,_,m)=>plain [l=0,h=0,m=0] .emp
      |_,_,_=>.fail "slice: three"))else .fail "slice: size"
   |none=>.fail "slice: element")
 |some (.slice e),.s (.rot c k)=>
  (match eh P e,mx with
   |some sz,none=>bif sz.beq c.size then
    (match lo,hM c.n hi with
     |none,some h=>plain [0<=h,h<=c.n] (.s (.rot (dY c 0 h.toNat) k))
     |some l,some h=>(match l.cP with
      |some (_,_,l)=>plain [0<=l,l<=h,h<=c.n] (.s (.ro (dY c l.toNat h.toNat)))
      |none=>.fail "slice: bounds")
     |_,_=>.fail "slice: bounds")else .fail "slice: size"
   |_,_=>.fail "slice: element")
 |some (.slice e),.aq id=>.aA id λ
  |some (.aq c _)=>agx P e c id 0 c.n lo hi mx
  |_=>.fail "slice: no vec"
 |some (.slice e),.part id lo0 n=>.aA id λ
  |some (.aq c _)=>agx P e c id lo0 n lo hi mx
  |_=>.fail "slice: no vec"
 |some (.array n e),.an id off=>
  (match eh P e,hM 0 lo,hM n hi,mx with
   |some sz,some l,some h,none=>bif sz.beq 1 then plain [0<=l,l<=h,h<=n] (.sub id (off+l.toNat) (h.toNat - l.toNat))else .fail "slice: array"
   |_,_,_,_=>.fail "slice: array")
 |some (.array n e),.gU id i j=>
  (match eh P e,hM 0 lo,hM n hi,mx with
   |some sz,some l,some h,none=>.aA id λ
    |some (.aq c _)=>bif sz.beq 1&&(j+n).ble c.size then plain [0<=l,l<=h,h<=n] (.lF id i (j+l.toNat) (h.toNat - l.toNat))else .fail "slice: array"
    |_=>.fail "slice: no vec"
   |_,_,_,_=>.fail "slice: array")
 |_,_=>.fail "slice"
def aW(zs:List Int):ByteArray:=⟨(zs.map λn=>UInt8.ofNat n.toNat).toArray⟩
def vL(P:Program)(src dst:TypeId)(x:AV):RM b8:=
 match P.underlying src,P.underlying dst with
 |some _,some (.int k)=>(match x.cP with
  |some (k',lit,n)=>bif lit then plain [] (.s (.aZ k (k.wrap n)))else bif pP k&& !cp k' .u64 then plain [aG n] (.s (.int k n))else plain [] (.s (.int k (k.wrap n)))
  |none=>.fail "convert: no number")
 |some .string,some .string=>(match x with
  |.s (.ag s)=>plain [] (.s (.ag s))
  |_=>.fail "convert: no string")
 |some (.slice e),some .string=>(match kindOf P e with
  |some .u8=>(match x with
   |.sub id off n=>.aA id λ
     |some (.ay [.aw .u8 m ws] _)=>plain [off+n<=m] (.s (.ag (aW ((ws.drop off).take n))))
     |_=>.fail "convert: no bytes"
   |_=>rowOf (.aw .u8) 1 x λc _=>match c with
   |.aw .u8 zs=>plain [] (.s (.ag (aW zs)))
   |_=>.fail "convert: no bytes")
  |_=>.fail "convert: no bytes")
 |_,_=>.fail "convert"
def bP(s:ByteArray):List Int:=s.data.toList.map λb=>(b.toNat:Int)
def vM(P:Program)(src dst:TypeId)(x:AV):RM b8:=
 match P.underlying src,P.underlying dst,x with
 |some .string,some (.slice e),.s (.ag s)=>(match kindOf P e with
  |some .u8=>plain [s.size<=4294967296] (.s (.ro (.aw .u8 (bP s))))
  |_=>.fail "convert: to bytes")
 |_,_,_=>.fail "convert: to bytes"
def aog(P:Program)(src dst:TypeId):Bool:=
 match P.underlying src,P.underlying dst with
 |some .string,some (.slice _)=>true
 |_,_=>false
def vN(P:Program)(t:TypeId)(x:AV):RM b8:=
 match P.underlying t,x with
 |some (.array n _),.s (.ro (.aw k zs))=>bif (1:Nat).ble n then plain [n<=zs.length] (.kj (.az [.arr k n] [(zs.take n,())]) 0 0)else .fail "array: none"
 |_,_=>.fail "array of a slice"
def sO(x:AV):RM b8:=
 match x with
 |.an _ _|.kQ _ _ _ _|.kj _ _ _|.fn _ _|.s (.qW _)=>plain [] x
 |_=>.fail "nilCheck"
def sP(fn:Fn)(first dF:List AV):RM b8:=
 match fn,first,dF with
 |.func f,[],[]=>plain [] (.s (.qW f))
 |.func f,[],c::cs=>plain [] (.fn f (c::cs))
 |.func f,x::xs,[]=>plain [] (.y8 f (x::xs))
 |_,_,_=>.fail "makeFunc"
def axA(P:Program)(t:TypeId):Option CK:=
 match P.underlying t with
 |some (.int k)=>some (.int k)
 |some .bool=>some .bool
 |some .string=>some .ag
 |some (.array n e)=>match P.underlying e with
  |some (.int k)=>some (.arr k n)
  |_=>none
 |_=>none
def CK.plain:CK->Bool
 |.int _|.bool|.ag|.arr _ _=>true
 |_=>false
def vO(P:Program)(t:TypeId)(ck:CK):Bool:=ck.plain&&
 match(P.info? t).bind (·.zero),ck with
 |some (.int k' 0),.int k=>cp k' k
 |some (.bool false),.bool=>true
 |some (.string s),.ag=>s.size.beq 0
 |some (.agg cs),.arr k n=>nK k cs.toList&&cs.toList.length.beq n
 |_,_=>false
def CK.av:(c:CK)->c.V->AV
 |.int k,v=>.s (.int k v)
 |.bool,v=>.s (.bool v)
 |.ag,v=>.s (.ag v)
 |.arr k n,v=>.aw k n v
 |_,_=>.s .bk
def CK.rdv:(c:CK)->AV->Option c.V
 |.int k,a=>match a with
  |.s (.int k' x)|.s (.aZ k' x)=>bif cp k k' then some x else none
  |_=>none
 |.bool,a=>match a with
  |.s (.bool x)|.s (.aT x)=>some x
  |_=>none
 |.ag,a=>match a with
  |.s (.ag x)=>some x
  |_=>none
 |.arr k n,a=>match a with
  |.aw k' n' ws=>bif cp k k'&&n.beq n' then some ws else none
  |_=>none
 |_,_=>none
def agy(P:Program)(t:TypeId):Bool:=
 match P.underlying t with
 |some (.int .i64)=>true
 |_=>false
def aay(P:Program)(t:TypeId)(x i:AV)(ok:Bool):RM b8:=
 match P.underlying t,x,i.cP with
 |some (.map kt et),.gV id,some (k,_,n)=>bif agy P kt&&pP k then
  .aA id λ
  |some (.map ck m)=>bif vO P et ck then
   plain [] (bif ok then .bD [ck.av ((cW m n).getD ck.d),.s (.bool (qa m n))]else ck.av ((cW m n).getD ck.d))else .fail "lookup: elements"
  |_=>.fail "lookup: no map"
  else .fail "lookup: keys"
 |_,_,_=>.fail "lookup"
def ql(P:Program)(t:TypeId)(x i v:AV):RM b8:=
 match P.underlying t,x,i.cP with
 |some (.map kt _),.gV id,some (k,_,n)=>bif agy P kt&&pP k then
  .aA id λ
  |some (.map ck m)=>(match ck.rdv v with
   |some y=>.ret ⟨[],[(id,.map ck (l8 m n y))],[],λ_=>.bD []⟩
   |none=>.fail "mapUpdate: elements")
  |_=>.fail "mapUpdate: no map"
  else .fail "mapUpdate: keys"
 |_,_,_=>.fail "mapUpdate"
def vP(P:Program)(t:TypeId)(r:Option AV):RM b8:=
 match P.underlying t,r with
 |some (.map _ et),none=>(match axA P et with
  |some ck=>.ret ⟨[],[],[.map ck []],λid=>.gV id⟩
  |none=>.fail "makeMap: elements")
 |_,_=>.fail "makeMap"
def aeY(x:AV):RM b8:=
 match x with
 |.an id 0=>.aA id λ
  |some (.iter mid gid ck _ cur)=>.aA mid λ
   |some (.jA _ _ auS)=>bif gid.beq auS&&ck.plain then(match cur with
    |some p=>plain [] (.bD [.s (.int .i64 p.1),ck.av p.2])
    |none=>.fail "entry: no step")else .fail "entry: another one"
   |_=>.fail "entry: no map"
  |_=>.fail "entry: no range"
 |_=>.fail "entry"
abbrev aoh:=FuncId->List AV->RM b8
abbrev fO:=Nat->aoh
def jB(P:Program)(f:FuncId):Bool:=
 match P.funcs[f]? with
 |some fn=>fn.body.isSome&& !(fn.name== "runtime.NumGoroutine")
 |none=>false
def asj(P:Program)(f:FuncId):Prop:=
 ∃(fn:Func) (t e tR:TypeId) (size:Nat),P.funcs[f]? =some fn/\(fn.name== "runtime.NumGoroutine")=false/\fn.body.isNone=true/\Extern.findNext fn=none/\Extern.find fn=some (Extern.SlicesOverlaps.overlaps #[t,t] #[tR])/\
  P.underlying t=some (.slice e)/\eh P e=some size
def ownRow:AV->Option Nat
 |.aq id=>some id
 |.part id _ _=>some id
 |_=>none
def sQ(P:Program)(f:FuncId)(args:List AV):RM b8:=
 match args with
 |[x,y]=>match ownRow x,ownRow y with
  |some i,some j=>bif i.beq j then .fail "call: no Go body" else
   .aA i λo=>match o with
    |some (.aq c _)=>.aA j λo=>match o with
     |some (.aq d _)=>bif (1:Nat).ble c.size&&(1:Nat).ble d.size then plain [asj P f] (.s (.aT false))else .fail "call: no Go body"
     |_=>.fail "call: no Go body"
    |_=>.fail "call: no Go body"
  |_,_=>.fail "call: no Go body"
 |_=>.fail "call: no Go body"
def ze(P:Program)(S:aoh)(f:FuncId)(args:List AV):RM b8:=
 bif jB P f then S f args else sQ P f args
def aaz(P:Program)(t:TypeId):Bool:=
 match P.underlying t with
 |some (.slice _)|some .string=>true
 |_=>false
def ab0(P:Program)(b:Builtin)(ts:List TypeId)(args:List AV):RM b8:=
 match b,ts,args with
 |.len,t::_,[x]=>ash P t x
 |.cap,t::_,[x]=>asi P t x
 |.append,[t,t'],[x,y]=>bif aaz P t' then aax P t x y else vK P t t' x y
 |.min,_,[x,y]=>aof false x y
 |.max,_,[x,y]=>aof true x y
 |.copy,[t,t'],[x,y]=>bif aaz P t' then(bif auR x then aeV P t x y else akg P t x y)else .fail "copy: what?"
 |.clear,t::_,[x]=>aeW P t x
 |_,_,_=>.fail "builtin"
def q7:BinOp->Bool
 |.eql=>true
 |_=>false
def asl(P:Program)(op:BinOp)(t:TypeId)(x:AV):RM b8:=
 match op with
 |.eql|.neq=>
  match P.underlying t with
  |some (.slice _)=>
   match x with
   |.s (.ro c)=>plain [] (.s (.lD c.n (q7 op)))
   |.emp=>plain [] (.s (.lD 0 (q7 op)))
   |.aq id=>.aA id λo=>match o with
    |some (.aq c _)=>plain [] (.s (.lD c.n (q7 op)))
    |_=>.fail "== nil: no row"
   |_=>.fail "== nil"
  |_=>.fail "== nil: the type"
 |_=>.fail "nil: what?"
def pQ:AV->AV
 |.s .qb=>.emp
 |x=>x
def aeZ:AV->Bool
 |.s .qb=>true
 |_=>false
def asm(P:Program)(t:TypeId)(x:AV):RM b8:=
 match P.underlying t,x with
 |some (.interface _),_=>.fail "interface: of an interface"
 |some _,.s (.int k n)=>plain [] (.s (.ifi t k n))
 |some _,.s (.aZ k n)=>plain [] (.s (.ifi t k n))
 |some _,.s (.ag s)=>plain [] (.s (.ifs t s))
 |some _,.s (.bool b)=>plain [] (.s (.ifb t b))
 |some _,.s (.aT b)=>plain [] (.s (.ifb t b))
 |_,_=>.fail "interface: of what?"
def akh(P:Program)(S:aoh)(ev:Operand->AV)(o:Oper):RM b8:=
 match o.op with
 |.move x|.assign x=>plain [] (ev x)
 |.pick c a b=>qc "pick" (aj8 (ev c) (ev a) (ev b))
 |.alloc t=>aeT P t
 |.box t x=>ase t (ev x)
 |.makeInterface t x=>asm P t (ev x)
 |.build t ps=>aeU P t (ps.toList.map λp=>(p.1,ev p.2))
 |.buildSlice t n ps=>nM P t n (ps.toList.map λp=>(p.1,ev p.2))
 |.load t a=>agv P t (ev a)
 |.store t a x=>aeQ P t (ev a) (ev x)
 |.nilCheck x=>sO (ev x)
 |.binOp op t x y _=>qc "binOp" (aod P op t (ev x) (ev y))
 |.unOp op _ x=>qc "unOp" (unR op (ev x))
 |.convert a b x=>bif aog P a b then vM P a b (ev x)else vL P a b (ev x)
 |.sliceToArrayPointer t x=>vN P t (ev x)
 |.entry x=>aeY (ev x)
 |.makeFunc fn a b=>sP fn (a.toList.map ev) (b.toList.map ev)
 |.slice t x l h m=>aeX P t (ev x) (l.map ev) (h.map ev) (m.map ev)
 |.fieldAddr t x f=>qd P t (ev x) f
 |.field t x f=>aeS P t (ev x) f
 |.indexAddr t x i=>qg P t (ev x) (ev i)
 |.index t x i=>aeR P t (ev x) (ev i)
 |.extract x i=>vJ (ev x) i
 |.lookup t x i ok=>aay P t (ev x) (ev i) ok
 |.mapUpdate t x i v|.insert t x i v=>ql P t (ev x) (ev i) (ev v)
 |.makeMap t r=>vP P t (r.map ev)
 |.makeSlice t l c=>qk P t (ev l) (ev c)
 |.call c=>match c.callee with
  |.value f=>match ev f with
   |.s (.qW f)=>ze P S f (c.args.toList.map ev)
   |.fn f dF=>ze P S f (c.args.toList.map ev++dF)
   |.y8 f first=>ze P S f (first++c.args.toList.map ev)
   |_=>.fail "call: what?"
  |.builtin b=>ab0 P b c.argTypes.toList (c.args.toList.map ev)
  |_=>.fail "call: invoke"
 |_=>.fail "op"
def asn:AV->Bool
 |.s (.nr _)|.s (.pO _)=>true
 |_=>false
def aaA(op:BinOp)(x y:AV):RM b8:=
 match op,x.cP,y with
 |.gtr,some (.i64,_,a),.s (.nr b)=>plain [a<=(b:Int)] (.s (.aT false))
 |.gtr,some (.i64,_,a),.s (.pO b)=>plain [(b:Int)<=a] (.s (.aT true))
 |_,_,_=>.fail "cap: compared"
def RM.ae0{α:Type}(id:Nat):RM α->RM α
 |.ret a=>.ret a
 |.aA j k=>bif j.beq id then(k (some .aB)).ae0 id else .aA j λo=>(k o).ae0 id
 |.fail w=>.fail w
def RM.mV(id:Nat):RM b8->RM b8
 |.ret q=>.ret {q with up:=(id,.aB)::q.up}
 |.aA j k=>.aA j λo=>(k o).mV id
 |.fail w=>.fail w
def aki(id:Nat)(c:a8)(ev:Operand->AV):Operand->AV:=λx=>match ev x with
 |.aq j=>bif j.beq id then .s (.ro c)else .aq j
 |a=>a
def giveUp:List Nat->(Operand->AV)->((Operand->AV)->RM b8)->RM b8
 |[],ev,k=>k ev
 |id::ids,ev,k=>.aA id λo=>match o with
  |some (.aq c _)=>((giveUp ids (aki id c ev) k).ae0 id).mV id
  |_=>.fail "give up: no row"
def akj(ev:Operand->AV)(ps:List (Nat×Operand)):List Nat:=ps.filterMap λp=>match ev p.2 with
 |.aq j=>some j
 |_=>none
def uL(P:Program)(S:aoh)(ev:Operand->AV)(o:Oper):RM b8:=
 match o.op with
 |.binOp op t x y _=>bif aeZ (ev y)then asl P op t (pQ (ev x))else bif asn (ev y)then aaA op (pQ (ev x)) (ev y)else qc "binOp" (aod P op t (pQ (ev x)) (ev y))
 |.buildSlice _ _ ps=>giveUp (akj ev ps.toList) (λx=>pQ (ev x)) λev=>akh P S ev o
 |_=>akh P S (λx=>pQ (ev x)) o
def bT:List Prop->Prop
 |[]=>True
 |p::ps=>p/\bT ps
theorem bC{k k':IntKind}(h:cp k k'=true):k=k':=by
 cases k<;>cases k'<;>first|rfl|(simp[cp]at h)
theorem nN{k:IntKind}(h:pP k=true):k=.i64:=by
 cases k<;>first|rfl|(simp[pP]at h)
theorem cM{n:Int}(h:aG n):IntKind.i64.wrap n=n:=by
 have⟨h1,h2⟩:=h;rw[IntKind.wrap_i64];omega
section
variable{ρ:Nat->Value}{H:aV}{O:Nat->Prop}{w:World}{P:Program}
theorem aJ{x:SV}{v:Value}(h:bg O w x v):ak ρ H O w (.s x) v:=by
 cases x<;>unfold ak<;>first|trivial|exact h
theorem aC{x:SV}{v:Value}(hx:x≠.bk)(h:ak ρ H O w (.s x) v):bg O w x v:=by
 cases x<;>unfold ak at h<;>first|exact(hx rfl).elim|exact h
theorem cG{x:AV}{v:Value}{k:IntKind}{l:Bool}{n:Int}(h:x.cP =some (k,l,n))(hd:ak ρ H O w x v):v=.int k n:=by
 cases x with
 |s x=>
  cases x<;>simp only[AV.cP,Option.some.injEq,Prod.mk.injEq,reduceCtorEq]at h
  all_goals
   obtain⟨rfl, -,rfl⟩:=h;have:=aC (by simp) hd;cases this;rfl
 |_=>simp[AV.cP]at h
theorem kG{x:AV}{v:Value}{l b:Bool}(h:x.fT =some (l,b))(hd:ak ρ H O w x v):v=.bool b:=by
 cases x with
 |s x=>
  cases x<;>simp only[AV.fT,Option.some.injEq,Prod.mk.injEq,reduceCtorEq]at h
  all_goals
   obtain⟨-,rfl⟩:=h;have:=aC (by simp) hd;cases this;rfl
 |_=>simp[AV.fT]at h
theorem fP{s:ByteArray}{v:Value}(hd:ak ρ H O w (.s (.ag s)) v):v=.string s:=by
 have:=aC (by simp) hd;cases this;rfl
theorem hU(l:Bool)(k:IntKind)(n:Int):ak ρ H O w (mkInt l k n) (.int k n):=by
 unfold mkInt;cases l;exact aJ (.int k n);exact aJ (.aZ k n)
theorem qm(l:Bool)(b:Bool):ak ρ H O w (lV l b) (.bool b):=by
 unfold lV;cases l;exact aJ (.bool b);exact aJ (.aT b)
theorem l9{l:Bool}{k:IntKind}{n:Int}(h:bT (nJ l k n).1):ak ρ H O w (nJ l k n).2 (.int k (k.wrap n)):=by
 unfold nJ at *;cases l;cases hk:pP k;exact aJ (.int _ _);simp only[hk,cond_true,cond_false,bT,and_true]at h ⊢;obtain rfl:=nN hk;rw[cM h];exact aJ (.int _ _);exact aJ (.aZ _ _)
theorem hY(op:BinOp)(t:TypeId)(x y:Operand)(k k':IntKind)(a b:Int):(eqGuard op t x y (.int k a) (.int k' b)).run P w=.ok () w:=by
 cases op<;>simp[eqGuard]
theorem ab1(op:BinOp)(t:TypeId)(x y:Operand)(a b:ByteArray):(eqGuard op t x y (.string a) (.string b)).run P w=.ok () w:=by
 cases op<;>simp[eqGuard]
theorem aaB(op:BinOp)(t:TypeId)(x y:Operand)(a b:Bool):(eqGuard op t x y (.bool a) (.bool b)).run P w=.ok () w:=by
 cases op<;>simp[eqGuard]
theorem nO(op:BinOp)(t:TypeId)(x y:Operand)(a b:Option Addr):(eqGuard op t x y (.pointer a) (.pointer b)).run P w=.ok () w:=by
 cases op<;>simp[eqGuard]
theorem aoi{l:Bool}{k:IntKind}{x y:Int}{q:List Prop×AV}
 (h:(bif l then([y≠0],AV.s (.aZ k (k.wrap (x.tdiv y))))else bif pP k then([y≠0,aG (x.tdiv y)],.s (.int k (x.tdiv y)))else([y≠0],.s (.int k (k.wrap (x.tdiv y)))))=q)
 (hn:bT q.1):y≠0/\ak ρ H O w q.2 (.int k (k.wrap (x.tdiv y))):=by
 subst h;cases l;cases hk:pP k;simp only[hk,cond_false,bT,and_true]at hn ⊢;exact⟨hn,aJ (.int _ _)⟩;simp only[hk,cond_true,cond_false,bT,and_true]at hn ⊢;obtain rfl:=nN hk;rw[cM hn.2];exact⟨hn.1,aJ (.int _ _)⟩;simp only[cond_true,bT,and_true]at hn ⊢;exact⟨hn,aJ (.aZ _ _)⟩
theorem sR{op:BinOp}{t:TypeId}{k:IntKind}{lx ly:Bool}{x y:Int}{q:List Prop×AV}(h:vI op k lx ly x y=some q)(hn:bT q.1):
 ∃v,(binOp op t (.int k x) (.int k y)).run P w=.ok v w/\ak ρ H O w q.2 v:=by
 cases op<;>simp only[vI,Option.some.injEq,reduceCtorEq]at h
 case add=>subst h;exact⟨_,by simp[binOp,Op.intArith],l9 hn⟩
 case sub=>subst h;exact⟨_,by simp[binOp,Op.intArith],l9 hn⟩
 case mul=>subst h;exact⟨_,by simp[binOp,Op.intArith],l9 hn⟩
 case quo=>
  have⟨h0,hd⟩:=aoi (ρ:=ρ) (H:=H) (O:=O) (w:=w) h hn;exact⟨_,by simp[binOp,Op.intDiv,h0],hd⟩
 case rem=>
  subst h;have h0:y≠0:=by simpa[bT]using hn
  exact⟨_,by simp[binOp,Op.intDiv,h0],hU _ _ _⟩
 case and=>subst h;exact⟨.int k (bJ .and k x y),by simp[binOp,Op.intBits,bJ],hU _ _ _⟩
 case or=>subst h;exact⟨.int k (bJ .or k x y),by simp[binOp,Op.intBits,bJ],hU _ _ _⟩
 case xor=>subst h;exact⟨.int k (bJ .xor k x y),by simp[binOp,Op.intBits,bJ],hU _ _ _⟩
 case andNot=>subst h;exact⟨.int k (bJ .andNot k x y),by simp[binOp,Op.intBits,bJ],hU _ _ _⟩
 all_goals subst h;exact⟨_,by simp[binOp,Op.intCmp],qm _ _⟩
theorem zf{op:BinOp}{t:TypeId}{k k':IntKind}{l:Bool}{x y:Int}{q:List Prop×AV}(h:aeI op k l x y=some q)(hn:bT q.1):
 ∃v,(binOp op t (.int k x) (.int k' y)).run P w=.ok v w/\ak ρ H O w q.2 v:=by
 cases op<;>simp only[aeI,Option.some.injEq,reduceCtorEq]at h
 all_goals
  subst h;have h0:0<=y:=by simpa[bT]using hn
  exact⟨_,by simp[binOp,Op.shift,Int.not_lt.2 h0],hU _ _ _⟩
theorem ae1(a b:ByteArray):(a.toList==b.toList)=decide (a=b):=by
 rw[ByteArray.toList_eq,ByteArray.toList_eq,Bool.eq_iff_iff];simp only[beq_iff_eq,decide_eq_true_eq];constructor;intro h;cases a;cases b;simp only[ByteArray.mk.injEq]at *;exact toList_inj.1 h;rintro rfl;rfl
theorem aiy{op:BinOp}{t:TypeId}{x y:ByteArray}{q:List Prop×AV}(h:aeJ op x y=some q)(hn:bT q.1):
 ∃v,(binOp op t (.string x) (.string y)).run P w=.ok v w/\ak ρ H O w q.2 v:=by
 cases op<;>simp only[aeJ,Option.some.injEq,reduceCtorEq]at h
 case add=>
  subst h;have h0:x.size+y.size<=4611686018427387904:=by simpa[bT]using hn
  exact⟨.string (x++y),by simp[binOp,Op.stringOp];omega,aJ (.ag _)⟩
 all_goals subst h;exact⟨_,by simp only[binOp,Op.stringOp,ae1];rfl,by first|exact aJ (.bool _)|(simp only[slt,ByteArray.toList_eq];exact aJ (.bool _))⟩
theorem aso{op:UnOp}{x:AV}{vx:Value}{q:List Prop×AV}(h:unR op x=some q)(hn:bT q.1)(hx:ak ρ H O w x vx):
 ∃v,(Op.unary op vx).run P w=.ok v w/\ak ρ H O w q.2 v:=by
 unfold unR at h;split at h<;>simp only[Option.some.injEq,reduceCtorEq]at h<;>subst h;have h1:=aC (by simp) hx;cases h1;exact⟨_,by simp only[Op.unary,Sem.run_pure],aJ (.bool _)⟩;have h1:=aC (by simp) hx;cases h1;exact⟨_,by simp only[Op.unary,Sem.run_pure],aJ (.aT _)⟩;have h1:=aC (by simp) hx;cases h1;exact⟨_,by simp only[Op.unary,Op.intArith,Sem.run_pure],l9 hn⟩;have h1:=aC (by simp) hx;cases h1;exact⟨_,by simp only[Op.unary,Op.intArith,Sem.run_pure],l9 hn⟩
theorem akk{c a b:AV}{vc va vb:Value}{q:List Prop×AV}(h:aj8 c a b=some q)(hc:ak ρ H O w c vc)(ha:ak ρ H O w a va)(hb:ak ρ H O w b vb):
 ∃t,vc=.bool t/\ak ρ H O w q.2 (if t then va else vb):=by
 unfold aj8 at h;split at h;simp only[Option.some.injEq]at h;subst h;have h1:=aC (by simp) hc;cases h1;exact⟨true,rfl,ha⟩;simp only[Option.some.injEq]at h;subst h;have h1:=aC (by simp) hc;cases h1;exact⟨false,rfl,hb⟩;rename_i t;have h1:=aC (by simp) hc;cases h1;refine⟨t,rfl, ?_⟩;split at h;rename_i la x lb y h2 h3;simp only[Option.some.injEq]at h;subst h;obtain rfl:=kG h2 ha;obtain rfl:=kG h3 hb;cases t;exact aJ (.bool _);exact aJ (.bool _);split at h;rename_i k la x k' lb y h2 h3;rw[cond_eq_ite]at h;split at h;rename_i hk;obtain rfl:=bC hk;simp only[Option.some.injEq]at h;subst h;obtain rfl:=cG h2 ha;obtain rfl:=cG h3 hb;cases t;exact aJ (.int _ _);exact aJ (.int _ _);cases h;cases h;cases h
end
def aaC(fr:Nat×Nat)(cells:List Value):Prop:=(∀off,off<=cells.length->¬(fr.1<=off/\off<fr.2))/\∀u∈cells,u.oneCell'=true
def unm(fr:Nat×Nat)(n:Nat):Prop:=∀off,off<n->¬(fr.1<=off/\off<fr.2)
theorem aaC.unm{fr:Nat×Nat}{cells:List Value}(h:aaC fr cells):unm fr cells.length:=λoff ho=>h.1 off (Nat.le_of_lt ho)
theorem aaC.over{fr:Nat×Nat}{cells bW:List Value}{k:Nat}(h:aaC fr cells)(hn:∀v∈bW,v.oneCell'=true)(hl:k+bW.length<=cells.length):aaC fr (cells.take k++bW++cells.drop (k+bW.length)):=by
 refine⟨λoff ho=>h.1 off ?_,λu hu=> ?_⟩;simp only[length_append,length_take,length_drop]at ho;omega;simp only[mem_append]at hu;rcases hu with(hu|hu)|hu;exact h.2 u (List.mem_of_mem_take hu);exact hn u hu;exact h.2 u (List.mem_of_mem_drop hu)
def CK.val:(c:CK)->c.V->Value
 |.int k,v=>.int k v
 |.bool,v=>.bool v
 |.ag,v=>.string v
 |.arr k _,v=>.agg (List.map (α:=Int) (Value.int k) v).toArray
 |_,_=>undef
def CK.fits:(c:CK)->c.V->Prop
 |.arr _ n,v=>List.length (α:=Int) v=n
 |_,_=>True
structure jC (ck:CK) (m:List (Int×ck.V)) (es:List MapEntry) (clock:Nat):Prop where
 eq:es.map (λe=>(e.ad,e.val))=m.map (λp=>(Value.int .i64 p.1,ck.val p.2))
 keys:(m.map (·.1)).Nodup
 vQ:(es.map (·.born)).Nodup
 old:∀e∈es,e.born<clock
 fits:∀p∈m,ck.fits p.2
def ab2(es:Array MapEntry)(clock:Nat):Value:=.tuple #[.int .i64 clock,.tuple (es.map λe=>.tuple #[e.ad,e.val,.int .i64 (e.born:Int)])]
structure vR (ck:CK) (left:List (Int×ck.V)) (cur:Option (Int×ck.V)) (es:Array MapEntry) (clock:Nat) (seen:Array Nat):Prop where
 eq:(es.toList.filter λe=> !seen.contains e.born).map (λe=>(e.ad,e.val))=left.map (λp=>(.int .i64 p.1,ck.val p.2))
 fits:∀p∈left,ck.fits p.2
 vQ:(es.toList.map (·.born)).Nodup
 old:∀e∈es.toList,e.born<clock
 cur:∀p,cur=some p->ck.fits p.2/\∃e,e∈es.toList/\seen.back? =some e.born/\e.ad=.int .i64 p.1/\e.val=ck.val p.2
def jd(ρ:Nat->Value)(H:aV)(O:Nat->Prop)(w:World)(aa:Value):au->Prop
 |.aB=>True
 |.map ck m=>∃(b:Nat) (es:Array MapEntry) (clock:Nat),aa=.map (some b)/\w.heap[b]? =some (.map es clock)/\jC ck m es.toList clock
 |.jA ck m gid=>∃(b:Nat) (es:Array MapEntry) (clock:Nat),aa=.map (some b)/\w.heap[b]? =some (.map es clock)/\jC ck m es.toList clock/\ρ gid=ab2 es clock/\(H gid).isSome=true
 |.iter mid gid ck left cur=>∃(b mb:Nat) (es:Array MapEntry) (clock:Nat) (seen:Array Nat),aa=.pointer (some ⟨b,0,none⟩)/\w.heap[b]? =some (.mapIter (some mb) clock seen clock)/\vR ck left cur es clock seen/\
  ρ gid=ab2 es clock/\(H gid).isSome=true/\ρ mid=.map (some mb)/\(H mid).isSome=true
 |.ay aD e=>∃(b:Nat) (cells:List Value) (fr:Nat×Nat),aa=.pointer (some ⟨b,0,none⟩)/\w.heap[b]? =some (.cells cells.toArray e fr)/\unm fr cells.length/\aE ρ H O w aD cells
 |.aq c e=>∃(a:Option Addr) (cap:Nat),aa=.slice a c.n cap/\c.n<=cap/\cap<=maxLen/\(cap=0\/
  ∃(b o:Nat) (cells:List Value) (fr:Nat×Nat) (us:Nat->Nat->Value),a=some ⟨b,o,none⟩/\w.heap[b]? =some (.cells cells.toArray e fr)/\aaC fr cells/\o+cap*c.size<=cells.length/\
   ∀i j,i<c.n->j<c.size->cells[o+i*c.size+j]? =some (us i j)/\bg O w (c.cell i j) (us i j))
structure Sat (ρ:Nat->Value) (H:aV) (G:Nat->Prop) (w:World):Prop where
 obj:∀id o,H id=some o->jd ρ H (bd ρ H G) w (ρ id) o
 inj:∀i j oi oj b,H i=some oi->H j=some oj->oi.alive=true->oj.alive=true->fp (ρ i)=some b->fp (ρ j)=some b->i=j
 apart:∀b,Own ρ H b->¬G b
 low:∀b,G b->b<w.heap.size
structure Frm (ρ:Nat->Value) (H:aV) (w w':World):Prop where
 os:w'.os=w.os
 tape:w'.tape=w.tape
 output:w'.output=w.output
 heap:∀b,b<w.heap.size->¬Own ρ H b->w'.heap[b]? =w.heap[b]?
def Good(ρ:Nat->Value)(H:aV)(G:Nat->Prop)(w:World)(H':aV)(r:AV)(v:Value)(w':World):Prop:=
 ∃aQ,Sat aQ H' G w'/\ak aQ H' (bd aQ H' G) w' r v/\Step ρ H (bd ρ H G) w aQ H' (bd aQ H' G) w'/\Frm ρ H w w'
section
variable{ρ aQ:Nat->Value}{H H':aV}{G O O':Nat->Prop}{w w':World}{P:Program}
theorem jd.step(st:Step ρ H O w aQ H' O' w'){aa:Value}{o:au}(h:jd ρ H O w aa o)(hb:∀b,o.alive=true->fp aa=some b->w'.heap[b]? =w.heap[b]?):
 jd aQ H' O' w' aa o:=by
 cases o with
 |aB=>trivial
 |map ck m=>
  obtain⟨b,es,clock,rfl,h1,h2⟩:=h;exact⟨b,es,clock,rfl,by rw[hb b rfl rfl];exact h1,h2⟩
 |jA ck m gid=>
  obtain⟨b,es,clock,rfl,h1,h2,h3,h4⟩:=h;have⟨o,ho⟩:=isSome_iff_exists.1 h4;have⟨o',dP,_⟩:=st.fq gid o ho;exact⟨b,es,clock,rfl,by rw[hb b rfl rfl];exact h1,h2,by rw[st.vH gid o ho];exact h3,by rw[dP];rfl⟩
 |iter mid gid ck left cur=>
  obtain⟨b,mb,es,clock,seen,rfl,h1,h2,h3,h4,h5,h6⟩:=h;have⟨o,ho⟩:=isSome_iff_exists.1 h4;have⟨o',dP,_⟩:=st.fq gid o ho;have⟨p,hp⟩:=isSome_iff_exists.1 h6;have⟨p',hp',_⟩:=st.fq mid p hp;exact⟨b,mb,es,clock,seen,rfl,by rw[hb b rfl rfl];exact h1,h2,by rw[st.vH gid o ho];exact h3,by rw[dP];rfl,by rw[st.vH mid p hp];exact h5,by rw[hp'];rfl⟩
 |ay aD e=>
  obtain⟨b,cells,fr,rfl,h1,h2,h3⟩:=h;exact⟨b,cells,fr,rfl,by rw[hb b rfl rfl];exact h1,h2,h3.step st⟩
 |aq c e=>
  obtain⟨a,cap,rfl,h1,h2,h3⟩:=h;refine⟨a,cap,rfl,h1,h2, ?_⟩;rcases h3 with h3|⟨b,o,cells,fr,us,rfl,h4,h5,h6,h7⟩;exact .inl h3;by_cases hc:cap=0;exact .inl hc;refine .inr ⟨b,o,cells,fr,us,rfl,by rw[hb b rfl (by simp[fp,hc])];exact h4,h5,h6,λi j hi hj=> ?_⟩;have⟨h8,h9⟩:=h7 i j hi hj;exact⟨h8,h9.step st.gy st.heap st.size⟩
theorem Good.val(hs:Sat ρ H G w){r:AV}{v:Value}(h:ak ρ H (bd ρ H G) w r v):Good ρ H G w H r v w:=
 ⟨ρ,hs,h,Step.refl _ _ _ _,rfl,rfl,rfl,λ_ _ _=>rfl⟩
theorem iy(hs:Sat ρ H G w){b:Nat}(h:Own ρ H b):b<w.heap.size:=by
 have⟨id,o,ho,ha,hb⟩:=h;have e9:=hs.obj id o ho;cases o with
 |aB=>simp[au.alive]at ha
 |map ck m=>
  have⟨b',es,clock,h0,h1,_⟩:=e9;rw[h0]at hb;simp only[fp,Option.some.injEq]at hb;subst hb;exact(Array.getElem?_eq_some_iff.1 h1).1
 |jA ck m gid=>
  have⟨b',es,clock,h0,h1,_⟩:=e9;rw[h0]at hb;simp only[fp,Option.some.injEq]at hb;subst hb;exact(Array.getElem?_eq_some_iff.1 h1).1
 |iter mid gid ck left cur=>
  have⟨b',mb,es,clock,seen,h0,h1,_⟩:=e9;rw[h0]at hb;simp only[fp,Option.some.injEq]at hb;subst hb;exact(Array.getElem?_eq_some_iff.1 h1).1
 |ay aD e=>
  have⟨b',cells,fr,h0,h1,_⟩:=e9;rw[h0]at hb;simp only[fp,Option.some.injEq]at hb;subst hb;exact(Array.getElem?_eq_some_iff.1 h1).1
 |aq c e=>
  have⟨a,cap,h0,h1,_,h3⟩:=e9;rw[h0]at hb;rcases h3 with rfl|⟨b',o,cells,fr,us,rfl,h4,_⟩;cases a<;>simp[fp]at hb;simp only[fp]at hb;split at hb;cases hb;simp only[Option.some.injEq]at hb;subst hb;exact(Array.getElem?_eq_some_iff.1 h4).1
theorem aaD(hs:Sat ρ H G w){b:Nat}(h:bd ρ H G b):b<w.heap.size:=h.elim (iy hs) (hs.low b)
theorem sT:∀(x:AV) (cs:List Value),aU ρ H O w x cs->cs.length=x.wide:=by
 intro x cs h;cases x<;>unfold aU at h
 case aw k n ws=>obtain⟨h1,rfl⟩:=h;simp[AV.wide,h1]
 case agg=>exact h.elim
 case bD=>exact h.elim
 all_goals (obtain⟨u,rfl,_⟩:=h;rfl)
theorem aH{cs:List Value}:aE ρ H O w [] cs↔cs=[]:=by unfold aE;exact Iff.rfl
theorem ao{a:AV}{aS:List AV}{cs:List Value}:aE ρ H O w (a::aS) cs↔ ∃c1 c2,cs=c1++c2/\aU ρ H O w a c1/\aE ρ H O w aS c2:=by
 rw[aE]
theorem bo{cs:List Value}:bV ρ H O w [] cs↔cs=[]:=by unfold bV;exact Iff.rfl
theorem aI{a:AV}{aS:List AV}{cs:List Value}:bV ρ H O w (a::aS) cs↔ ∃v rest,cs=v::rest/\ak ρ H O w a v/\bV ρ H O w aS rest:=by
 rw[bV]
theorem fW{aS bs:List AV}:∀{cs:List Value},aE ρ H O w (aS++bs) cs↔ ∃c1 c2,cs=c1++c2/\aE ρ H O w aS c1/\aE ρ H O w bs c2:=by
 induction aS with
 |nil=>
  intro cs;simp only[nil_append,aH];exact⟨λh=>⟨[],cs,rfl,rfl,h⟩,λ⟨c1,c2,h1,h2,h3⟩=>by subst h2;subst h1;exact h3⟩
 |cons a aS ih=>
  intro cs;simp only[cons_append,ao,ih];constructor;rintro⟨c1,c2,rfl,h1,c3,c4,rfl,h2,h3⟩;exact⟨c1++c3,c4,by simp,⟨c1,c3,rfl,h1,h2⟩,h3⟩;rintro⟨c1,c2,rfl,⟨c3,c4,rfl,h1,h2⟩,h3⟩;exact⟨c3,c4++c2,by simp,h1,c4,c2,rfl,h2,h3⟩
theorem jD:∀{aS:List AV} {cs:List Value},aE ρ H O w aS cs->cs.length=gA aS
 |[],cs,h=>by rw[aH.1 h];rfl
 |a::aS,cs,h=>by
  obtain⟨c1,c2,rfl,h1,h2⟩:=ao.1 h;simp[gA,sT a c1 h1,jD h2]
theorem fX:∀(aD:List AV) (n:Nat) {cs:List Value} {ss:List AV},fU aD n=some ss->aE ρ H O w aD cs->n<=cs.length/\aE ρ H O w ss (cs.drop n)
 |aD,0,cs,ss,h,hd=>by
  cases aD<;>(simp only[fU,Option.some.injEq]at h;subst h;exact⟨zero_le _,by simpa using hd⟩)
 |[],n+1,cs,ss,h,hd=>by simp[fU]at h
 |a::aS,n+1,cs,ss,h,hd=>by
  obtain⟨c1,c2,rfl,h1,h2⟩:=ao.1 hd;simp only[fU,cond_eq_ite]at h;split at h;rename_i hw;have hw:=le_of_ble_eq_true hw;have⟨h3,h4⟩:=fX aS _ h h2;have hl:=sT a c1 h1;refine⟨by simp;omega, ?_⟩;rw[List.drop_append];have e1:c1.drop (n+1)=[]:=List.drop_eq_nil_of_le (by omega);rw[e1,nil_append,hl];exact h4;cases h
theorem fY:∀(aD:List AV) (n:Nat) {cs:List Value} {ss:List AV},fV aD n=some ss->aE ρ H O w aD cs->n<=cs.length/\aE ρ H O w ss (cs.take n)
 |aD,0,cs,ss,h,hd=>by
  cases aD<;>(simp only[fV,Option.some.injEq]at h;subst h;exact⟨zero_le _,by simp[aH]⟩)
 |[],n+1,cs,ss,h,hd=>by simp[fV]at h
 |a::aS,n+1,cs,ss,h,hd=>by
  obtain⟨c1,c2,rfl,h1,h2⟩:=ao.1 hd;simp only[fV,cond_eq_ite]at h;split at h;rename_i hw;simp only[and_eq_true]at hw;have hw1:=le_of_ble_eq_true hw.1;have hw2:=le_of_ble_eq_true hw.2;simp only[map_eq_some_iff]at h;obtain⟨ss',h3,rfl⟩:=h;have⟨h4,h5⟩:=fY aS _ h3 h2;have hl:=sT a c1 h1;refine⟨by simp;omega,ao.2 ⟨c1,c2.take (n+1 - a.wide), ?_,h1,h5⟩⟩;rw[List.take_append,hl,take_of_length_le (by omega)];cases h
theorem fZ{a:AV}{cs:List Value}(h:aU ρ H O w a cs)(ha:a.wide=1)(hi:∀k n ws,a≠.aw k n ws):∃u,cs=[u]/\u.oneCell'=true/\ak ρ H O w a u:=by
 cases a<;>unfold aU at h
 case aw k n ws=>exact(hi k n ws rfl).elim
 case agg=>exact h.elim
 case bD=>exact h.elim
 case gV id=>obtain⟨u,rfl,h1⟩:=h;exact⟨u,rfl,by unfold aO at h1;obtain⟨b,_,rfl,_⟩:=h1;rfl,by unfold ak;exact h1⟩
 case tag id=>obtain⟨u,rfl,h1⟩:=h;exact⟨u,rfl,by unfold aO at h1;exact h1.2.1,by unfold ak;exact h1⟩
 case s x=>obtain⟨u,rfl,h1⟩:=h;exact⟨u,rfl,h1.one,aJ h1⟩
 case an id off=>obtain⟨u,rfl,h1⟩:=h;exact⟨u,rfl,by unfold aO at h1;obtain⟨b,_,rfl,_⟩:=h1;rfl,by unfold ak;exact h1⟩
 case kQ id off n i=>obtain⟨u,rfl,h1⟩:=h;exact⟨u,rfl,by unfold aO at h1;obtain⟨_,b,_,rfl,_⟩:=h1;rfl,by unfold ak;exact h1⟩
 case kj c m j=>obtain⟨u,rfl,h1⟩:=h;exact⟨u,rfl,by unfold aO at h1;obtain⟨b,o,us,rfl,_⟩:=h1;rfl,by unfold ak;exact h1⟩
 case aq id=>obtain⟨u,rfl,h1⟩:=h;exact⟨u,rfl,by unfold aO at h1;exact h1.1,by unfold ak;exact h1⟩
 case gU id i j=>obtain⟨u,rfl,h1⟩:=h;exact⟨u,rfl,by unfold aO at h1;exact h1.1,by unfold ak;exact h1⟩
 case part id lo n=>obtain⟨u,rfl,h1⟩:=h;exact⟨u,rfl,by unfold aO at h1;exact h1.1,by unfold ak;exact h1⟩
 case sub id off n=>obtain⟨u,rfl,h1⟩:=h;exact⟨u,rfl,by unfold aO at h1;exact h1.1,by unfold ak;exact h1⟩
 case lF id i j n=>obtain⟨u,rfl,h1⟩:=h;exact⟨u,rfl,by unfold aO at h1;exact h1.1,by unfold ak;exact h1⟩
 case emp=>obtain⟨u,rfl,a,rfl⟩:=h;exact⟨_,rfl,rfl,by unfold ak;exact⟨a,rfl⟩⟩
 case fn f dF=>obtain⟨u,rfl,vs,rfl,h1⟩:=h;exact⟨_,rfl,rfl,by unfold ak;exact⟨vs,rfl,h1⟩⟩
 case y8 f dF=>obtain⟨u,rfl,vs,rfl,h1⟩:=h;exact⟨_,rfl,rfl,by unfold ak;exact⟨vs,rfl,h1⟩⟩
theorem kT{a:AV}{u:Value}(ha:a.single=true)(h:ak ρ H O w a u):aU ρ H O w a [u]/\u.oneCell'=true:=by
 cases a<;>simp only[AV.single,reduceCtorEq]at ha
 case s x=>
  have h1:bg O w x u:=aC (by rintro rfl;simp at ha) h;exact⟨by unfold aU;exact⟨u,rfl,h1⟩,h1.one⟩
 case an id off=>unfold ak at h;exact⟨by unfold aU;exact⟨u,rfl,h⟩,by unfold aO at h;obtain⟨b,_,rfl,_⟩:=h;rfl⟩
 case kQ id off n i=>unfold ak at h;exact⟨by unfold aU;exact⟨u,rfl,h⟩,by unfold aO at h;obtain⟨_,b,_,rfl,_⟩:=h;rfl⟩
 case kj c m j=>unfold ak at h;exact⟨by unfold aU;exact⟨u,rfl,h⟩,by unfold aO at h;obtain⟨b,o,us,rfl,_⟩:=h;rfl⟩
 case aq id=>unfold ak at h;exact⟨by unfold aU;exact⟨u,rfl,h⟩,by unfold aO at h;exact h.1⟩
 case gU id i j=>unfold ak at h;exact⟨by unfold aU;exact⟨u,rfl,h⟩,by unfold aO at h;exact h.1⟩
 case part id lo n=>unfold ak at h;exact⟨by unfold aU;exact⟨u,rfl,h⟩,by unfold aO at h;exact h.1⟩
 case sub id off n=>unfold ak at h;exact⟨by unfold aU;exact⟨u,rfl,h⟩,by unfold aO at h;exact h.1⟩
 case lF id i j n=>unfold ak at h;exact⟨by unfold aU;exact⟨u,rfl,h⟩,by unfold aO at h;exact h.1⟩
 case emp=>unfold ak at h;exact⟨by unfold aU;exact⟨u,rfl,h⟩,by obtain⟨a,rfl⟩:=h;rfl⟩
 case fn f dF=>unfold ak at h;exact⟨by unfold aU;exact⟨u,rfl,h⟩,by obtain⟨vs,rfl,_⟩:=h;rfl⟩
 case y8 f dF=>unfold ak at h;exact⟨by unfold aU;exact⟨u,rfl,h⟩,by obtain⟨vs,rfl,_⟩:=h;rfl⟩
 case gV id=>unfold ak at h;exact⟨by unfold aU;exact⟨u,rfl,h⟩,by unfold aO at h;obtain⟨b,_,rfl,_⟩:=h;rfl⟩
 case tag id=>unfold ak at h;exact⟨by unfold aU;exact⟨u,rfl,h⟩,by unfold aO at h;exact h.2.1⟩
theorem gW{a:AV}(h:∀k n ws,a≠.aw k n ws):a.wide=1:=by
 cases a<;>first|rfl|(exact(h _ _ _ rfl).elim)
end
section
variable{ρ aQ:Nat->Value}{H H':aV}{G O O':Nat->Prop}{w w':World}{P:Program}
theorem aaE{a:AV}(h:∀k n ws,a≠.aw k n ws)(aS:List AV)(off:Nat):cellAt (a::aS) off=match off with|0=>some a|m+1=>cellAt aS m:=by
 cases a<;>first|(cases off<;>rfl)|(exact(h _ _ _ rfl).elim)
theorem uM{a:AV}(h:∀k n ws,a≠.aw k n ws)(aS:List AV)(off:Nat)(v:AV):gZ (a::aS) off v=match off with|0=>some (v::aS)|m+1=>(gZ aS m v).map (a:: ·):=by
 cases a<;>first|(cases off<;>rfl)|(exact(h _ _ _ rfl).elim)
theorem q8{a:AV}(h:∀k n ws,a≠.aw k n ws)(aS:List AV)(off:Nat):jT (a::aS) off=match off with|0=>none|m+1=>jT aS m:=by
 cases a<;>first|(cases off<;>rfl)|(exact(h _ _ _ rfl).elim)
theorem vS{a:AV}(h:∀k n ws,a≠.aw k n ws)(aS:List AV)(off:Nat)(v:List Int):kR (a::aS) off v=match off with|0=>none|m+1=>(kR aS m v).map (a:: ·):=by
 cases a<;>first|(cases off<;>rfl)|(exact(h _ _ _ rfl).elim)
theorem sU(a:AV):(∃k n ws,a=.aw k n ws)\/∀k n ws,a≠.aw k n ws:=by
 cases a<;>first|(exact .inl ⟨_,_,_,rfl⟩)|(exact .inr (by simp))
theorem dt{k:IntKind}{n:Nat}{ws:List Int}{cs:List Value}:aU ρ H O w (.aw k n ws) cs↔ws.length=n/\cs=ws.map (Value.int k):=by
 unfold aU;exact Iff.rfl
theorem ma:∀(aD:List AV) (off:Nat) {cs:List Value} {v:AV},cellAt aD off=some v->aE ρ H O w aD cs->∃u,cs[off]? =some u/\u.oneCell'=true/\ak ρ H O w v u
 |[],off,cs,v,h,_=>by simp[cellAt]at h
 |a::aS,off,cs,v,h,hd=>by
  obtain⟨c1,c2,rfl,h1,h2⟩:=ao.1 hd;rcases sU a with⟨k,n,ws,rfl⟩|ha;obtain⟨hl,rfl⟩:=dt.1 h1;simp only[cellAt,cond_eq_ite]at h;split at h;rename_i bA;have bA:off<n:=by simpa[Nat.blt,Nat.lt_iff_add_one_le]using bA
  simp only[Option.some.injEq]at h;subst h;have hx:off<ws.length:=by omega
  exact⟨.int k ws[off],by rw[getElem?_append_left (by simpa using hx)];simp[hx],rfl,by rw[show ws.getD off 0=ws[off]from by simp[List.getD,hx]];exact aJ (.int _ _)⟩;rename_i bA;have bA:¬off<n:=by simpa[Nat.blt,Nat.lt_iff_add_one_le]using bA
  have⟨u,h3,h4⟩:=ma aS (off - n) h h2;exact⟨u,by rw[getElem?_append_right (by simp;omega)];simpa[hl]using h3,h4⟩;rw[aaE ha]at h;obtain⟨u,rfl,h3,h4⟩:=fZ h1 (gW ha) ha;cases off with
  |zero=>simp only[Option.some.injEq]at h;subst h;exact⟨u,rfl,h3,h4⟩
  |succ m=>
   have⟨u',h5,h6⟩:=ma aS m h h2;exact⟨u',by simpa using h5,h6⟩
theorem mW:∀(aD:List AV) (off:Nat) {cs:List Value} {v:AV} {u:Value} {fy:List AV},gZ aD off v=some fy->aE ρ H O w aD cs->v.single=true->ak ρ H O w v u->
 off<cs.length/\aE ρ H O w fy (cs.set off u)
 |[],off,cs,v,u,fy,h,_,_,_=>by simp[gZ]at h
 |a::aS,off,cs,v,u,fy,h,hd,hv,hu=>by
  obtain⟨c1,c2,rfl,h1,h2⟩:=ao.1 hd;rcases sU a with⟨k,n,ws,rfl⟩|ha;obtain⟨hl,rfl⟩:=dt.1 h1;simp only[gZ,cond_eq_ite]at h;split at h;rename_i bA;have bA:off<n:=by simpa[Nat.blt,Nat.lt_iff_add_one_le]using bA
  split at h;rename_i k' l x hx;split at h;rename_i hk;obtain rfl:=bC hk;simp only[Option.some.injEq]at h;subst h;obtain rfl:=cG hx hu;refine⟨by simp;omega,ao.2 ⟨(ws.set off x).map (Value.int k),c2, ?_,dt.2 ⟨by simp[hl],rfl⟩,h2⟩⟩;rw[List.set_append_left _ _ (by simp;omega),List.map_set];cases h;cases h;rename_i bA;have bA:¬off<n:=by simpa[Nat.blt,Nat.lt_iff_add_one_le]using bA
  simp only[map_eq_some_iff]at h;obtain⟨ss,h3,rfl⟩:=h;have⟨h4,h5⟩:=mW aS (off - n) h3 h2 hv hu;refine⟨by simp;omega,ao.2 ⟨_,c2.set (off - n) u, ?_,dt.2 ⟨hl,rfl⟩,h5⟩⟩;rw[List.set_append_right _ _ (by simp;omega)];simp[hl];rw[uM ha]at h;obtain⟨u0,rfl,h3,h4⟩:=fZ h1 (gW ha) ha;cases off with
  |zero=>
   simp only[Option.some.injEq]at h;subst h;exact⟨by simp,ao.2 ⟨[u],c2,rfl,(kT hv hu).1,h2⟩⟩
  |succ m=>
   simp only[map_eq_some_iff]at h;obtain⟨ss,h5,rfl⟩:=h;have⟨h6,h7⟩:=mW aS m h5 h2 hv hu;exact⟨by simp;omega,ao.2 ⟨[u0],c2.set m u,rfl,h1,h7⟩⟩
theorem o8:∀(aD:List AV) (off:Nat) {cs:List Value} {k:IntKind} {n:Nat} {ws:List Int},jT aD off=some (k,n,ws)->aE ρ H O w aD cs->
 ws.length=n/\∃pre post,cs=pre++ws.map (Value.int k)++post/\pre.length=off
 |[],off,cs,k,n,ws,h,_=>by simp[jT]at h
 |a::aS,off,cs,k,n,ws,h,hd=>by
  obtain⟨c1,c2,rfl,h1,h2⟩:=ao.1 hd;rcases sU a with⟨k',n',nA,rfl⟩|ha;obtain⟨hl,rfl⟩:=dt.1 h1;simp only[jT,cond_eq_ite]at h;split at h;rename_i h0;have h0:off=0:=by simpa using h0
  subst h0;simp only[Option.some.injEq,Prod.mk.injEq]at h;obtain⟨rfl,rfl,rfl⟩:=h;exact⟨hl,[],c2,by simp,rfl⟩;split at h;cases h;rename_i bA;have bA:¬off<n':=by simpa[Nat.blt,Nat.lt_iff_add_one_le]using bA
  obtain⟨h3,pre,post,rfl,h4⟩:=o8 aS (off - n') h h2;exact⟨h3,nA.map (Value.int k')++pre,post,by simp,by simp;omega⟩;rw[q8 ha]at h;obtain⟨u0,rfl,h3,h4⟩:=fZ h1 (gW ha) ha;cases off with
  |zero=>cases h
  |succ m=>
   obtain⟨h3,pre,post,rfl,h4⟩:=o8 aS m h h2;exact⟨h3,u0::pre,post,by simp,by simp[h4]⟩
theorem nQ:∀(aD:List AV) (off:Nat) {pre post:List Value} {k:IntKind} {n:Nat} {ws nA:List Int} {fy:List AV},jT aD off=some (k,n,ws)->kR aD off nA=some fy->nA.length=ws.length->
 aE ρ H O w aD (pre++ws.map (Value.int k)++post)->pre.length=off->aE ρ H O w fy (pre++nA.map (Value.int k)++post)
 |[],off,_,_,k,n,ws,_,_,h,_,_,_,_=>by simp[jT]at h
 |a::aS,off,pre,post,k,n,ws,nA,fy,h,hs,bK,hd,hp=>by
  have⟨c1,c2,hc,h1,h2⟩:=ao.1 hd;rcases sU a with⟨k',n',ws1,rfl⟩|ha;obtain⟨hl,rfl⟩:=dt.1 h1;simp only[jT,kR,cond_eq_ite]at h hs;split at h;rename_i h0;have h0':off=0:=by simpa using h0
  subst h0';simp only[Option.some.injEq,Prod.mk.injEq]at h;obtain⟨rfl,rfl,rfl⟩:=h;rw[if_pos h0]at hs;simp only[Option.some.injEq]at hs;subst hs;obtain rfl:pre=[]:=List.eq_nil_of_length_eq_zero hp;simp only[nil_append]at hc ⊢;have:=List.append_cancel_left hc;subst this;exact ao.2 ⟨_,post,rfl,dt.2 ⟨by omega,rfl⟩,h2⟩;rename_i h0;rw[if_neg h0]at hs;split at h;cases h;rename_i bA;rw[if_neg bA]at hs;have bA:¬off<n':=by simpa[Nat.blt,Nat.lt_iff_add_one_le]using bA
  simp only[map_eq_some_iff]at hs;obtain⟨ss,h3,rfl⟩:=hs;have hpl:(ws1.map (Value.int k')).length<=pre.length:=by simp;omega
  obtain⟨aoj,rfl⟩:∃aoj,pre=ws1.map (Value.int k')++aoj:=by
   rw[append_assoc]at hc;have⟨x,hx⟩:=List.prefix_of_prefix_length_le (⟨_,rfl⟩:ws1.map (Value.int k')<+:ws1.map (Value.int k')++c2) (⟨_,hc⟩:pre<+:_) hpl;exact⟨x,hx.symm⟩
  simp only[append_assoc]at hc ⊢;have hc':=List.append_cancel_left hc;subst hc';have hp':aoj.length=off - n':=by simp at hp;omega
  exact ao.2 ⟨_,_,rfl,h1,by simpa using nQ aS (off - n') h h3 bK (by simpa using h2) hp'⟩;rw[q8 ha]at h;rw[vS ha]at hs;obtain⟨u0,rfl,h3,h4⟩:=fZ h1 (gW ha) ha;cases off with
  |zero=>cases h
  |succ m=>
   simp only[map_eq_some_iff]at hs;obtain⟨ss,h5,rfl⟩:=hs;cases pre with
   |nil=>simp at hp
   |cons p aoj=>
    simp only[cons_append,List.cons.injEq,nil_append]at hc;obtain⟨rfl,hc'⟩:=hc;simp only[length_cons,Nat.add_right_cancel_iff]at hp;rw[<-hc']at h2;exact ao.2 ⟨[p],_,rfl,h1,by simpa using nQ aS m h h5 bK (by simpa using h2) hp⟩
theorem aiz{aD j7 fy:List AV}{off:Nat}{cs vs:List Value}(h:aeK aD off j7=some fy)(hd:aE ρ H O w aD cs)(hb:aE ρ H O w j7 vs):
 off+vs.length<=cs.length/\aE ρ H O w fy (cs.take off++vs++cs.drop (off+vs.length)):=by
 unfold aeK at h;split at h;rename_i k n ws x;split at h;rename_i k' li z hx;rw[cond_eq_ite]at h;split at h;rename_i hc;simp only[and_eq_true]at hc;have⟨hk,bA⟩:=hc;have bA:off<n:=Nat.lt_of_lt_of_le (Nat.lt_succ_self _) (le_of_ble_eq_true bA);obtain rfl:=bC hk;simp only[Option.some.injEq]at h;subst h;obtain⟨c1,c2,rfl,h1,h2⟩:=ao.1 hd;obtain rfl:=aH.1 h2;obtain⟨hl,rfl⟩:=dt.1 h1;obtain⟨d1,d2,rfl,h3,h4⟩:=ao.1 hb;obtain rfl:=aH.1 h4
 have hv:d1=[.int k z]:=by
  cases x with
  |s y=>
   unfold aU at h3;obtain⟨u,rfl,h5⟩:=h3;cases y<;>simp only[AV.cP,Option.some.injEq,Prod.mk.injEq,reduceCtorEq]at hx
   all_goals
    obtain⟨rfl,_,rfl⟩:=hx;cases h5;rfl
  |_=>simp only[AV.cP,reduceCtorEq]at hx
 subst hv;simp only[append_nil,length_map,List.length_singleton];refine⟨by omega,ao.2 ⟨_,[],(append_nil _).symm,dt.2 ⟨by rw[List.length_set];exact hl, ?_⟩,aH.2 rfl⟩⟩;rw[List.map_set,List.set_eq_take_append_cons_drop,if_pos (by rw[length_map];omega),append_assoc];rfl;cases h;cases h;cases h
theorem vT{aD j7 fy:List AV}{off:Nat}{cs vs:List Value}(h:uY aD off j7=some fy)(hd:aE ρ H O w aD cs)(hb:aE ρ H O w j7 vs):
 off+vs.length<=cs.length/\aE ρ H O w fy (cs.take off++vs++cs.drop (off+vs.length)):=by
 unfold uY at h;split at h;rename_i r hr;simp only[Option.some.injEq]at h;subst h;exact aiz hr hd hb;split at h;rename_i pre post h1 h2;simp only[Option.some.injEq]at h;subst h;have hl:=jD hb;rw[<-hl]at h2;have⟨h3,h4⟩:=fY _ _ h1 hd;have⟨h5,h6⟩:=fX _ _ h2 hd;exact⟨h5,fW.2 ⟨_,_,rfl,fW.2 ⟨_,_,rfl,h4,hb⟩,h6⟩⟩;cases h
theorem vU(aD:List AV){cs:List Value}(h:aE ρ H O w aD cs):∀v∈cs,v.oneCell'=true:=by
 induction aD generalizing cs with
 |nil=>rw[aH.1 h];simp
 |cons a aS ih=>
  obtain⟨c1,c2,rfl,h1,h2⟩:=ao.1 h;intro v hv;rcases mem_append.1 hv with hv|hv;rcases sU a with⟨k,n,ws,rfl⟩|ha;obtain⟨hl,rfl⟩:=dt.1 h1;obtain⟨x,_,rfl⟩:=mem_map.1 hv;rfl;obtain⟨u,rfl,h3,_⟩:=fZ h1 (gW ha) ha;simp only[mem_singleton]at hv;subst hv;exact h3;exact ih h2 v hv
theorem q9{x:AV}{v:Value}{aD:List AV}(h:x.jZ =some aD)(hd:ak ρ H O w x v):aE ρ H O w aD v.cells.toList:=by
 have one:∀a,a.single=true->ak ρ H O w a v->aE ρ H O w [a] v.cells.toList:=by
  intro a ha hv;have⟨h1,h2⟩:=kT ha hv;have:v.cells.toList=[v]:=by cases v<;>first|rfl|(simp[Value.oneCell']at h2)
  rw[this];exact ao.2 ⟨[v],[],rfl,h1,aH.2 rfl⟩
 cases x with
 |agg ss=>
  simp only[AV.jZ,Option.some.injEq]at h;subst h;unfold ak at hd;obtain⟨cs,rfl,h1⟩:=hd;simpa[Value.cells]using h1
 |aw k n ws=>
  simp only[AV.jZ,Option.some.injEq]at h;subst h;unfold ak at hd;obtain⟨hl,rfl⟩:=hd;exact ao.2 ⟨ws.map (Value.int k),[],by simp[Value.cells],dt.2 ⟨hl,rfl⟩,aH.2 rfl⟩
 |bD _=>simp[AV.jZ]at h
 |s x=>cases x<;>simp only[AV.jZ,Option.some.injEq,reduceCtorEq]at h<;>subst h<;>exact one _ rfl hd
 |_=>simp only[AV.jZ,Option.some.injEq]at h;subst h;exact one _ rfl hd
theorem mc{aD:List AV}{cs:List Value}(h:aE ρ H O w aD cs):ak ρ H O w (.lW aD) (.agg cs.toArray):=by
 unfold AV.lW;split;obtain⟨c1,c2,rfl,h1,h2⟩:=ao.1 h;obtain rfl:=aH.1 h2;obtain⟨hl,rfl⟩:=dt.1 h1;unfold ak;exact⟨hl,by simp⟩;unfold ak;exact⟨cs,rfl,h⟩
end
def World.cV(w:World)(b:Nat)(o:Obj):World:={w with heap:=w.heap.setIfInBounds b o}
theorem ae2{w:World}{b:Nat}{cells:Array Value}{e:TypeId}{fr:Nat×Nat}(hb:w.heap[b]? =some (.cells cells e fr))(hu:unm fr cells.size){off:Nat}(ho:off<cells.size):
 w.frozen? ⟨b,off,none⟩=false:=by
 have:=hu off ho;simp only[World.frozen?,hb,Bool.and_eq_false_imp,decide_eq_true_eq,decide_eq_false_iff_not];intro h1 h2;exact this ⟨h1,h2⟩
theorem ab3{w:World}{b:Nat}{cells:Array Value}{e:TypeId}{fr:Nat×Nat}(hb:w.heap[b]? =some (.cells cells e fr))(off:Nat)(v:Value):
 w.setCell ⟨b,off,none⟩ v=World.cV w b (.cells (cells.setIfInBounds off v) e fr):=by
 simp only[World.setCell,World.cV];congr 1;apply Array.ext_getElem?;intro i;rw[Array.getElem?_modify,Array.getElem?_setIfInBounds];by_cases h:b=i;subst h;have⟨bA,uN⟩:=Array.getElem?_eq_some_iff.1 hb;simp[uN,bA];simp[h]
theorem fi{w:World}{b:Nat}{o o':Obj}(hb:w.heap[b]? =some o):(World.cV w b o').heap[b]? =some o':=by
 have bA:b<w.heap.size:=(Array.getElem?_eq_some_iff.1 hb).1;simp[World.cV,bA]
theorem je{w:World}{b i:Nat}{o:Obj}(h:i≠b):(World.cV w b o).heap[i]? =w.heap[i]? :=by
 simp only[World.cV];rw[Array.getElem?_setIfInBounds_ne (by omega)]
theorem jE{w:World}{b:Nat}{o:Obj}:(World.cV w b o).heap.size=w.heap.size:=by simp[World.cV]
theorem yo{w:World}{b:Nat}{o o':Obj}:World.cV (World.cV w b o) b o'=World.cV w b o':=by
 simp only[World.cV];congr 1;apply Array.ext_getElem?;intro i;by_cases h:b=i;subst h;simp[Array.getElem?_setIfInBounds];simp[h]
theorem uf{w:World}{b:Nat}{o:Obj}(hb:w.heap[b]? =some o):World.cV w b o=w:=by
 have:w.heap.setIfInBounds b o=w.heap:=by
  apply Array.ext_getElem?;intro i;by_cases h:b=i;subst h;have⟨bA,uN⟩:=Array.getElem?_eq_some_iff.1 hb;simp[uN,bA];rw[Array.getElem?_setIfInBounds_ne (by omega)]
 simp only[World.cV,this]
theorem yp{P:Program}{w:World}{b:Nat}{cells:List Value}{e:TypeId}{fr:Nat×Nat}(hb:w.heap[b]? =some (.cells cells.toArray e fr))(hu:unm fr cells.length){off:Nat}(ho:off<cells.length)
 {v:Value} (hv:v.oneCell'=true):(store ⟨b,off,none⟩ v).run P w=.ok () (World.cV w b (.cells (cells.set off v).toArray e fr)):=by
 rw[run_store P w _ v _ hv];have hc:w.cell? ⟨b,off,none⟩=some cells[off]:=by simp[cell?,hb,ho]
 have hf:=ae2 hb (by simpa using hu) (off:=off) (by simpa using ho);simp only[hc,hf,Bool.false_eq_true,if_false,ab3 hb,List.setIfInBounds_toArray]
theorem bp(b off i:Nat):(⟨b,off,none⟩:Addr).add i=⟨b,off+i,none⟩:=by
 unfold Addr.add;split;rename_i h;subst h;rfl;rfl
theorem cu{P:Program}{b:Nat}{e:TypeId}{fr:Nat×Nat}(off:Nat):∀(vs:List Value) (i:Nat) {w:World} {cells:List Value},w.heap[b]? =some (.cells cells.toArray e fr)->unm fr cells.length->
 off+i+vs.length<=cells.length->(∀v∈vs,v.oneCell'=true)->
 (storeCells ⟨b,off,none⟩ vs i).run P w=.ok () (World.cV w b (.cells (cells.take (off+i)++vs++cells.drop (off+i+vs.length)).toArray e fr))
 |[],i,w,cells,hb,hu,hl,hv=>by
  simp only[storeCells,Sem.run_pure,length_nil,add_zero,append_nil,List.take_append_drop];rw[uf hb]
 |v::vs,i,w,cells,hb,hu,hl,hv=>by
  simp only[length_cons]at hl;have bA:off+i<cells.length:=by omega
  simp only[storeCells,Sem.run_bind,bp,yp hb hu bA (hv v (by simp)),andThen_ok];rw[cu off vs (i+1) (fi hb) (by simpa using hu) (by simp;omega) (λx hx=>hv x (by simp[hx])),yo];congr 4;rw[<-add_assoc,List.take_set,List.drop_set_of_lt (by omega)]
  have e1:(cells.take (off+i+1)).set (off+i) v=cells.take (off+i)++[v]:=by
   rw[List.take_succ_eq_append_getElem bA];rw[List.set_append_right _ _ (by simp;omega)];simp[Nat.min_eq_left (Nat.le_of_lt bA)]
  rw[e1];simp only[append_assoc,length_cons,cons_append,nil_append];rw[show off+i+1+vs.length=off+i+(vs.length+1)from by omega]
theorem kH{w:World}{o:Obj}:(w.alloc o).heap[w.heap.size]? =some o:=by
 show(w.heap.push o)[w.heap.size]? =_;simp
theorem alloc_old{w:World}{o:Obj}{i:Nat}(h:i<w.heap.size):(w.alloc o).heap[i]? =w.heap[i]? :=by
 show(w.heap.push o)[i]? =_;rw[Array.getElem?_push,if_neg (by omega)]
theorem ga{w:World}{o:Obj}:(w.alloc o).heap.size=w.heap.size+1:=by
 show(w.heap.push o).size=_;simp
section
variable{ρ aQ:Nat->Value}{H H':aV}{G O O':Nat->Prop}{w w':World}{P:Program}
def aF(H:aV)(id:Nat)(o:au):aV:=λj=>if j=id then some o else H j
theorem aaF{id:Nat}{o o':au}(ho:H id=some o)(ha:o.alive=o'.alive)(b:Nat):Own ρ (aF H id o') b↔Own ρ H b:=by
 constructor;rintro⟨j,x,hx,h1,h2⟩;unfold aF at hx;split at hx;rename_i hj;subst hj;simp only[Option.some.injEq]at hx;subst hx;exact⟨j,o,ho,ha.trans h1,h2⟩;exact⟨j,x,hx,h1,h2⟩;rintro⟨j,x,hx,h1,h2⟩;by_cases hj:j=id;subst hj;rw[ho]at hx;cases hx;exact⟨j,o',by simp[aF],ha.symm.trans h1,h2⟩;exact⟨j,x,by simp[aF,hj,hx],h1,h2⟩
theorem aaG{id:Nat}{o o':au}(ho:H id=some o)(ha:o.alive=o'.alive):bd ρ (aF H id o') G=bd ρ H G:=by
 funext b;exact propext (or_congr_left (aaF ho ha b))
theorem Good.write(hs:Sat ρ H G w){id:Nat}{o o':au}(ho:H id=some o)(ha:o.alive=true)(ha':o'.alive=true){b:Nat}(hb:fp (ρ id)=some b)
 (sV:∀c' e',o'=.aq c' e'->∃c e,o=.aq c e/\c'.n=c.n/\c'.size=c.size)
 {sW:Obj} {r:AV} {v:Value}
 (e9:jd ρ (aF H id o') (bd ρ H G) (World.cV w b sW) (ρ id) o')
 (hr:ak ρ (aF H id o') (bd ρ H G) (World.cV w b sW) r v):
 Good ρ H G w (aF H id o') r v (World.cV w b sW):=by
 have hh:=aaG (ρ:=ρ) (G:=G) ho (ha.trans ha'.symm);have ew:Own ρ H b:=⟨id,o,ho,ha,hb⟩
 have st:Step ρ H (bd ρ H G) w ρ (aF H id o') (bd ρ (aF H id o') G) (World.cV w b sW):=by
  refine⟨λ_ _ _=>rfl,λj x hx=> ?_,λc hc=>.inl (by rw[hh]at hc;exact hc),λc hc hO=> ?_,by rw[jE];exact le_refl _⟩;by_cases hj:j=id;subst hj;rw[ho]at hx;cases hx;exact⟨o',by simp[aF],sV⟩;exact⟨x,by simp[aF,hj,hx],λc' e' hc=>⟨c',e',hc,rfl,rfl⟩⟩;exact je (λe=>hO (.inl (by subst e;exact ew)))
 refine⟨ρ,⟨λj x hx=> ?_,λi j oi oj c h1 h2 h3 h4 h5 h6=> ?_,λc hc=> ?_,λc hc=> ?_⟩,by rw[hh];exact hr,st,⟨rfl,rfl,rfl,λc hc hO=>je (λe=>hO (by subst e;exact ew))⟩⟩;by_cases hj:j=id;subst hj;simp only[aF,if_true,Option.some.injEq]at hx;subst hx;rw[hh];exact e9;have zg:H j=some x:=by simpa[aF,hj]using hx
 refine(hs.obj j x zg).step st (λc vV hc=>je (λe=>hj ?_));subst e;exact hs.inj j id x o c zg ho vV ha hc hb
 have f:∀i oi,aF H id o' i=some oi->oi.alive=true->∃x,H i=some x/\x.alive=true:=by
  intro i oi hi vV;by_cases fG:i=id;subst fG;exact⟨o,ho,ha⟩;exact⟨oi,by simpa[aF,fG]using hi,vV⟩
 have⟨x,hx,hxa⟩:=f i oi h1 h3;have⟨y,hy,hya⟩:=f j oj h2 h4;exact hs.inj i j x y c hx hy hxa hya h5 h6;exact hs.apart c ((aaF ho (ha.trans ha'.symm) c).1 hc);rw[jE];exact hs.low c hc
theorem Good.fresh(hs:Sat ρ H G w){n:Nat}(hn:H n=none){o:au}{obj:Obj}{aa:Value}{r:AV}{v:Value}
 {w1:World} (hw:w1.heap=w.heap) (ht:w1.tape=w.tape) (hos:w1.os=w.os) (pH:w1.output=w.output)
 (eW:∀b,fp aa=some b->b=w.heap.size)
 (e9:jd (λj=>if j=n then aa else ρ j) (aF H n o) (bd (λj=>if j=n then aa else ρ j) (aF H n o) G) (w1.alloc obj) aa o)
 (hr:ak (λj=>if j=n then aa else ρ j) (aF H n o) (bd (λj=>if j=n then aa else ρ j) (aF H n o) G) (w1.alloc obj) r v):
 Good ρ H G w (aF H n o) r v (w1.alloc obj):=by
 have cq:(w1.alloc obj).heap.size=w.heap.size+1:=by rw[ga,hw]
 have hold:∀i,i<w.heap.size->(w1.alloc obj).heap[i]? =w.heap[i]? :=λi hi=>by rw[alloc_old (by rw[hw];exact hi),hw]
 have ne:∀j x,H j=some x->j≠n:=λj x hx e=>by subst e;rw[hn]at hx;cases hx
 have ra:∀b,Own (λj=>if j=n then aa else ρ j) (aF H n o) b->Own ρ H b\/b=w.heap.size:=by
  rintro b ⟨j,x,hx,h1,h2⟩;by_cases hj:j=n;subst hj;simp only[if_true]at h2;exact .inr (eW b h2);simp only[aF,hj,if_false]at hx h2;exact .inl ⟨j,x,hx,h1,h2⟩
 have st:Step ρ H (bd ρ H G) w (λj=>if j=n then aa else ρ j) (aF H n o) (bd (λj=>if j=n then aa else ρ j) (aF H n o) G) (w1.alloc obj):=by
  refine⟨λj x hx=>by simp[ne j x hx],λj x hx=>⟨x,by simp[aF,ne j x hx,hx],λc' e' hc=>⟨c',e',hc,rfl,rfl⟩⟩,λb hb=> ?_,λb hb _=>hold b hb,by omega⟩;rcases hb with hb|hb;rcases ra b hb with h1|h1;exact .inl (.inl h1);exact .inr (by omega);exact .inl (.inr hb)
 refine⟨_,⟨λj x hx=> ?_,λi j oi oj b h1 h2 h3 h4 h5 h6=> ?_,λb hb=> ?_,λb hb=> ?_⟩,hr,st,⟨hos,ht,pH,λb hb _=>hold b hb⟩⟩;by_cases hj:j=n;subst hj;simp only[aF,if_true,Option.some.injEq]at hx;subst hx;simp only[if_true];exact e9;have zg:H j=some x:=by simpa[aF,hj]using hx
 simp only[hj,if_false];exact(hs.obj j x zg).step st (λb vV hb=>hold b (iy hs ⟨j,x,zg,vV,hb⟩));by_cases hi:i=n<;>by_cases hj:j=n;rw[hi,hj];simp only[aF,hi,hj,if_true,if_false]at h1 h2 h5 h6;have e:=eW b h5;have:=iy hs ⟨j,oj,h2,h4,h6⟩;omega;simp only[aF,hi,hj,if_true,if_false]at h1 h2 h5 h6;have e:=eW b h6;have:=iy hs ⟨i,oi,h1,h3,h5⟩;omega;simp only[aF,hi,hj,if_false]at h1 h2 h5 h6;exact hs.inj i j oi oj b h1 h2 h3 h4 h5 h6;rcases ra b hb with h1|h1;exact hs.apart b h1;intro hg;have:=hs.low b hg;omega;have:=hs.low b hb;omega
end
def fI(P:Program)(ρ:Nat->Value)(H:aV)(O:Nat->Prop)(w:World)(q:b8)(s:Sem Value):Prop:=
 q.up=[]/\q.new=[]/\∃v,s.run P w=.ok v w/\∀base,ak ρ H O w (q.r base) v
section
variable{ρ aQ:Nat->Value}{H H':aV}{G O O':Nat->Prop}{w w':World}{P:Program}
theorem aP{ab:List Prop}{r:AV}{q:b8}{s:Sem Value}(h:(plain ab r).eval H=some q)(f:bT ab->∃v,s.run P w=.ok v w/\ak ρ H O w r v)(hn:bT q.ab):fI P ρ H O w q s:=by
 simp only[plain,RM.eval,Option.some.injEq]at h;subst h;have⟨v,h1,h2⟩:=f hn;exact⟨rfl,rfl,v,h1,λ_=>h2⟩
theorem hZ{t:TypeId}{b:Bool}(h:iv P t=some b)(w:World):(isAgg t).run P w=.ok b w:=by
 unfold iv at h;split at h<;>first|(cases h;rename_i ht;simp[isAgg,run_underlying ht];done)|cases h
theorem pR{f:Nat->Value}{n j:Nat}{v:Value}(h:((List.range n).map f)[j]? =some v):j<n/\v=f j:=by
 by_cases hj:j<n;rw[getElem?_map,List.getElem?_range hj]at h;simp at h;exact⟨hj,h.symm⟩;rw[getElem?_eq_none (by simp;omega)]at h;cases h
theorem run_sizeOf{t:TypeId}{n:Nat}(h:eh P t=some n)(w:World):(sizeOf t).run P w=.ok n w:=by
 simp only[eh,map_eq_some_iff]at h;obtain⟨i,hi,rfl⟩:=h;simp[sizeOf,typeInfo,hi]
theorem dJ{b:Nat}{cells:List Value}{e:TypeId}{fr:Nat×Nat}(hb:w.heap[b]? =some (.cells cells.toArray e fr))(off:Nat):w.cell? ⟨b,off,none⟩=cells[off]? :=by
 simp[cell?,hb]
theorem jU{t:TypeId}{n b off:Nat}{cs:List Value}(ha:iv P t=some true)(hs:eh P t=some n)(hl:cs.length=n)(hc:∀j v,cs[j]? =some v->w.cell? ⟨b,off+j,none⟩=some v):
 (Instr.loadAt t (.pointer (some ⟨b,off,none⟩))).run P w=.ok (.agg cs.toArray) w:=by
 subst hl;have:=run_loadCells_list (P:=P) (w:=w) ⟨b,off,none⟩ cs (λj v hj=>by rw[bp];exact hc j v hj);simp[Instr.loadAt,Instr.sureAddr,loadVar,hZ ha,run_sizeOf hs,this]
theorem jV{t:TypeId}{b off:Nat}{v:Value}(ha:iv P t=some false)(hc:w.cell? ⟨b,off,none⟩=some v):
 (Instr.loadAt t (.pointer (some ⟨b,off,none⟩))).run P w=.ok v w:=by
 simp[Instr.loadAt,Instr.sureAddr,loadVar,hZ ha,hc]
theorem o9(hs:Sat ρ H G w){id b:Nat}{aD:List AV}{e:TypeId}(ho:H id=some (.ay aD e))(hb:ρ id=.pointer (some ⟨b,0,none⟩)):
 ∃cells fr,w.heap[b]? =some (.cells cells.toArray e fr)/\unm fr cells.length/\aE ρ H (bd ρ H G) w aD cells:=by
 have⟨b',cells,fr,h1,h2⟩:=hs.obj id _ ho;rw[hb]at h1;cases h1;exact⟨cells,fr,h2⟩
theorem aiA(hs:Sat ρ H G w){id i b f n cap:Nat}{c:a8}{e:TypeId}(ho:H id=some (.aq c e))(hi:i<c.n)(eW:ρ id=.slice (some ⟨b,f,none⟩) n cap):
 ∃us:Nat->Nat->Value,∀i j,i<c.n->j<c.size->w.cell? ⟨b,f+i*c.size+j,none⟩=some (us i j)/\bg (bd ρ H G) w (c.cell i j) (us i j):=by
 have⟨a,aiw,h1,h2,h3,h4⟩:=hs.obj id _ ho;rw[eW]at h1;cases h1;rcases h4 with rfl|⟨b',o,cells,fr,us,h5,h6,h7,h8,h9⟩;omega;cases h5;exact⟨us,λi j hi hj=>⟨by rw[dJ h6];exact(h9 i j hi hj).1,(h9 i j hi hj).2⟩⟩
theorem ab4(n:Nat)(f:Nat->SV)(us:Nat->Value)(h:∀i,i<n->bg O w (f i) (us i)):aE ρ H O w ((List.range n).map λi=>.s (f i)) ((List.range n).map us):=by
 induction n with
 |zero=>simp[aH]
 |succ n ih=>
  rw[List.range_succ,map_append,map_append];exact fW.2 ⟨_,_,rfl,ih (λi hi=>h i (by omega)),ao.2 ⟨[us n],[],rfl,by unfold aU;exact⟨_,rfl,h n (by omega)⟩,aH.2 rfl⟩⟩
theorem nt{a b:Nat}(h:a<b):a.blt b=true:=Nat.ble_eq_true_of_le h
theorem rb{a b:Nat}(h:b<=a):a.blt b=false:=by
 cases hh:a.blt b;rfl;exact absurd (le_of_ble_eq_true hh) (by omega)
theorem qn:∀(cs:List CK) (x:CL cs) (us:Nat->Value) (off:Nat),(∀l,l<CL.wide cs->bg O w (CL.cell cs x l) (us (off+l)))->bT (ft (CL.aD cs x))->
 aE ρ H O w (CL.aD cs x) ((List.range (CL.wide cs)).map λl=>us (off+l))
 |[],x,us,off,h,hn=>aH.2 (by simp[CL.wide])
 |c::cs,x,us,off,h,hn=>by
  have ad:∀a:AV,CL.aD (c::cs) x=a::CL.aD cs x.2->c.wide=1->(∀y,bg O w (c.cell x.1 0) y->aU ρ H O w a [y])->bT (ft (CL.aD cs x.2))->
   aE ρ H O w (CL.aD (c::cs) x) ((List.range (CL.wide (c::cs))).map λl=>us (off+l)):=by
   intro a e hw ha uO;rw[e];simp only[CL.wide,hw];rw[List.range_add,map_append,List.map_map];refine ao.2 ⟨_,_,rfl, ?_, ?_⟩;have:=h 0 (by simp only[CL.wide];omega);simp only[CL.cell,hw,nt (show 0<1 from by omega),cond_true]at this;simpa using ha _ this;have ih:=qn cs x.2 us (off+1) (λl hl=> ?_) uO;have e2:(λl=>us (off+1+l))=(λl=>us (off+l))∘(λx=>1+x):=by funext l;simp[Function.comp,add_assoc]
   rw[e2]at ih;exact ih;have:=h (1+l) (by simp only[CL.wide];omega);simp only[CL.cell,hw]at this;rw[rb (show 1<=1+l from by omega),cond_false,show 1+l - 1=l from by omega,<-add_assoc]at this;exact this
  have one:∀{sv:SV} {y:Value},bg O w sv y->aU ρ H O w (.s sv) [y]:=λhy=>by unfold aU;exact⟨_,rfl,hy⟩
  cases c with
  |arr k n=>
   have⟨x1,x2⟩:=x;change List Int at x1;simp only[CL.aD,ft]at hn ⊢;have⟨hl,uO⟩:=hn;simp only[CL.wide,CK.wide];rw[List.range_add,map_append,List.map_map];refine ao.2 ⟨_,_,rfl, ?_, ?_⟩;unfold aU;refine⟨hl, ?_⟩;refine List.ext_getElem (by simp[hl]) λi h1 h2=> ?_;have hi:i<n:=by simpa using h1
   have:=h i (by simp only[CL.wide,CK.wide];omega);simp only[CL.cell,CK.wide]at this;rw[nt hi,cond_true]at this;simp only[CK.cell]at this;have hx:x1.getD i 0=x1[i]'(by rw[hl];exact hi):=by simp[List.getD,hl,hi]
   rw[hx]at this;simp only[List.getElem_map,List.getElem_range];generalize us (off+i)=u at this ⊢;cases this;rfl;have ih:=qn cs x2 us (off+n) (λl hl=> ?_) uO;have e2:(λl=>us (off+n+l))=(λl=>us (off+l))∘(λx=>n+x):=by funext l;simp[Function.comp,add_assoc]
   rw[e2]at ih;exact ih;have:=h (n+l) (by simp only[CL.wide,CK.wide];omega);simp only[CL.cell,CK.wide]at this;rw[rb (show n<=n+l from by omega),cond_false,show n+l - n=l from by omega,<-add_assoc]at this;exact this
  |int k=>exact ad _ rfl rfl (λy hy=>one hy) (by simpa[CL.aD,ft]using hn)
  |bool=>exact ad _ rfl rfl (λy hy=>one hy) (by simpa[CL.aD,ft]using hn)
  |ag=>exact ad _ rfl rfl (λy hy=>one hy) (by simpa[CL.aD,ft]using hn)
  |aw k=>exact ad _ rfl rfl (λy hy=>one hy) (by simpa[CL.aD,ft]using hn)
  |strs=>exact ad _ rfl rfl (λy hy=>one hy) (by simpa[CL.aD,ft]using hn)
  |bY=>exact ad _ rfl rfl (λy hy=>one hy) (by simpa[CL.aD,ft]using hn)
  |rows ds=>exact ad _ rfl rfl (λy hy=>one hy) (by simpa[CL.aD,ft]using hn)
theorem ug{yn:Bool}{c:a8}{i j sz:Nat}{t:TypeId}{q:b8}(h:(qZ yn c i j sz).eval H=some q)(hn:bT q.ab)(qQ:iv P t=some yn)(cq:eh P t=some sz){b o:Nat}{us:Nat->Value}
 (hc:∀l,l<c.size->w.cell? ⟨b,o+l,none⟩=some (us l)/\bg O w (c.cell i l) (us l)):fI P ρ H O w q (Instr.loadAt t (.pointer (some ⟨b,o+j,none⟩))):=by
 unfold qZ at h;cases yn;simp only[cond_false]at h;rw[cond_eq_ite]at h;split at h;rename_i bA;have bA:j<c.size:=by simpa[Nat.blt,Nat.lt_iff_add_one_le]using bA
 exact aP h (λ_=>⟨us j,jV qQ (hc j bA).1,aJ (hc j bA).2⟩) hn;cases h;simp only[cond_true]at h;split at h;rename_i cs xs;split at h;rename_i ss hss;refine aP h (λauT=> ?_) hn;have hd:=qn (ρ:=ρ) (H:=H) cs (xs.getD i (CL.d cs)) us 0 (λl hl=>by rw[zero_add];exact(hc l hl).2) auT;simp only[zero_add]at hd;simp only[bind_eq_some_iff]at hss;have⟨s1,h4,h5⟩:=hss;have⟨h6,h7⟩:=fX _ j h4 hd;have⟨h8,h9⟩:=fY s1 sz h5 h7;refine⟨_,jU (cs:=(((List.range (CL.wide cs)).map us).drop j).take sz) qQ cq (by simp at h8 ⊢;omega) (λl v hv=> ?_),mc h9⟩;rw[getElem?_take]at hv;split at hv;rw[List.getElem?_drop]at hv;obtain⟨bA,rfl⟩:=pR hv;rw[add_assoc];exact(hc (j+l) bA).1;cases hv;cases h;rw[cond_eq_ite]at h;split at h;rename_i hle;have hle:=le_of_ble_eq_true hle;refine aP h (λ_=>⟨_,jU (cs:=(List.range sz).map λl=>us (j+l)) qQ cq (by simp) (λl v hv=> ?_), ?_⟩) hn;obtain⟨bA,rfl⟩:=pR hv;rw[add_assoc];exact(hc (j+l) (by omega)).1;unfold ak;exact⟨_,rfl,ab4 sz (λl=>c.cell i (j+l)) (λl=>us (j+l)) (λl hl=>(hc (j+l) (by omega)).2)⟩;cases h
theorem ab5{t:TypeId}{a:AV}{va:Value}{q:b8}(h:(agv P t a).eval H=some q)(hn:bT q.ab)(hs:Sat ρ H G w)(hd:ak ρ H (bd ρ H G) w a va):
 fI P ρ H (bd ρ H G) w q (Instr.loadAt t va):=by
 unfold agv at h;split at h;rename_i sz yn cq qQ;split at h;rename_i id off;unfold ak aO at hd;obtain⟨b,hb,rfl,_⟩:=hd;simp only[RM.eval]at h;split at h;rename_i aD e ho;have⟨cells,fr,h1,h2,h3⟩:=o9 hs ho hb;cases yn;simp only[cond_false]at h;split at h;rename_i v hv;have⟨u,h4,h5,h6⟩:=ma aD off hv h3;exact aP h (λ_=>⟨u,jV qQ (by rw[dJ h1];exact h4),h6⟩) hn;cases h;simp only[cond_true]at h;split at h;rename_i ss hss;simp only[bind_eq_some_iff]at hss;have⟨s1,h4,h5⟩:=hss;have⟨h6,h7⟩:=fX aD off h4 h3;have⟨h8,h9⟩:=fY s1 sz h5 h7;refine aP h (λ_=>⟨_,jU (cs:=(cells.drop off).take sz) qQ cq (by simp at h8 ⊢;omega) (λj v hj=> ?_),mc h9⟩) hn;rw[dJ h1];rw[getElem?_take]at hj;split at hj;simpa using hj;cases hj;cases h;cases h;rename_i id off n i;unfold ak aO at hd;obtain⟨dv,b,hb,rfl,_⟩:=hd;simp only[RM.eval]at h;split at h;rename_i aD e ho;have⟨cells,fr,h1,h2,h3⟩:=o9 hs ho hb;split at h;rename_i k m ws aok;rw[cond_eq_ite]at h;split at h;rename_i hc;simp only[and_eq_true,not_eq_true',beq_eq]at hc;obtain⟨rfl,rfl⟩:=hc;obtain⟨hl,pre,post,rfl,hp⟩:=o8 aD off aok h3;have hi:i<ws.length:=by omega
 refine aP h (λ_=>⟨.int k (ws.getD i 0),jV qQ ?_,aJ (.int _ _)⟩) hn;rw[dJ h1,append_assoc,getElem?_append_right (by omega),getElem?_append_left (by simp;omega)];rw[show off+i - pre.length=i from by omega];simp[hi];cases h;cases h;cases h;unfold ak aO at hd;obtain⟨b,o,us,rfl,_,_,hc⟩:=hd;exact ug h hn qQ cq hc;rename_i id i j;unfold ak aO at hd;have⟨_,o,ho,hv⟩:=hd;simp only[RM.eval]at h;split at h;rename_i c e dP;rw[ho]at dP;cases dP;obtain⟨hi,hj,b,f,n,cap,eW,rfl⟩:=hv c e rfl;have⟨us,hc⟩:=aiA hs ho hi eW;exact ug (us:=λl=>us i l) h hn qQ cq (λl hl=>hc i l hi hl);cases h;cases h;cases h
end
section
variable{ρ aQ:Nat->Value}{H H':aV}{G O O':Nat->Prop}{w w':World}{P:Program}
theorem slice_inj{a a':Option Addr}{n n' c c':Nat}(h:Value.slice a n c=.slice a' n' c'):a'=a/\c'=c:=by
 cases h;exact⟨rfl,rfl⟩
theorem nS{t:TypeId}{fs:Array Field}{f:Nat}{fd:Field}{n b off:Nat}(ht:P.underlying t=some (.struct fs))(hf:fs[f]? =some fd)(hs:eh P fd.type=some n)(hn:1<=n)(w:World):
 (Instr.fieldAt t (.pointer (some ⟨b,off,none⟩)) f).run P w=.ok (.pointer (some ⟨b,off+fd.offset,none⟩)) w:=by
 have h0:¬n=0:=by omega
 simp[Instr.fieldAt,run_underlying ht,hf,Instr.sureAddr,fieldPlace,run_sizeOf hs,h0,bp]
theorem yq{t:TypeId}{x:AV}{f:Nat}{vx:Value}{q:b8}(h:(qd P t x f).eval H=some q)(hn:bT q.ab)(hd:ak ρ H O w x vx):
 fI P ρ H O w q (Instr.fieldAt t vx f):=by
 unfold qd at h;split at h;rename_i fs ht;split at h;rename_i fd hf;rw[cond_eq_ite]at h;split at h;rename_i cq
 obtain⟨n,hs,hn1⟩:∃n,eh P fd.type=some n/\1<=n:=by
  cases hs:eh P fd.type with
  |none=>simp[hs]at cq
  |some n=>exact⟨n,rfl,le_of_ble_eq_true (by simpa[hs]using cq)⟩
 split at h;rename_i id off;unfold ak aO at hd;obtain⟨b,hb,rfl,hi⟩:=hd;exact aP h (λ_=>⟨_,nS ht hf hs hn1 w,by unfold ak aO;exact⟨b,hb,rfl,hi⟩⟩) hn;rename_i c m j;unfold ak aO at hd;obtain⟨b,o,us,rfl,h1⟩:=hd;exact aP h (λ_=>⟨_,nS ht hf hs hn1 w,by unfold ak aO;exact⟨b,o,us,by rw[add_assoc],h1⟩⟩) hn;rename_i id i j;simp only[RM.eval]at h;split at h;rename_i c e ho;rw[cond_eq_ite]at h;split at h;rename_i bA;have bA:j+fd.offset<c.size:=by simpa[Nat.blt,Nat.lt_iff_add_one_le]using bA
 unfold ak aO at hd;have⟨h1,o,dP,hv⟩:=hd;rw[ho]at dP;cases dP;obtain⟨hi,hj,b,f',n',cap,eW,rfl⟩:=hv c e rfl;refine aP h (λ_=>⟨_,nS ht hf hs hn1 w, ?_⟩) hn;unfold ak aO;refine⟨rfl,_,ho,λc' e' hc=> ?_⟩;cases hc;exact⟨hi,bA,b,f',n',cap,eW,by rw[add_assoc]⟩;cases h;cases h;cases h;cases h;cases h;cases h
theorem iz{t e:TypeId}{n b o len cap:Nat}{k:IntKind}{i:Int}(ht:P.underlying t=some (.slice e))(hs:eh P e=some n)(h0:0<=i)(h1:i<len)(w:World):
 (Instr.indexAt t (.slice (some ⟨b,o,none⟩) len cap) (.int k i)).run P w=.ok (.pointer (some ⟨b,o+i.toNat*n,none⟩)) w:=by
 simp[Instr.indexAt,run_underlying ht,asIntOf,run_sizeOf hs,h0,h1,bp]
theorem iA{t e:TypeId}{n b o len:Nat}{k:IntKind}{i:Int}(ht:P.underlying t=some (.array len e))(hs:eh P e=some n)(h0:0<=i)(h1:i<len)(w:World):
 (Instr.indexAt t (.pointer (some ⟨b,o,none⟩)) (.int k i)).run P w=.ok (.pointer (some ⟨b,o+i.toNat*n,none⟩)) w:=by
 simp[Instr.indexAt,run_underlying ht,asIntOf,Instr.sureAddr,run_sizeOf hs,h0,h1,bp]
theorem yr{t:TypeId}{x i:AV}{vx vi:Value}{q:b8}(h:(qg P t x i).eval H=some q)(hn:bT q.ab)(hs:Sat ρ H G w)(hd:ak ρ H (bd ρ H G) w x vx)(hi:ak ρ H (bd ρ H G) w i vi):
 fI P ρ H (bd ρ H G) w q (Instr.indexAt t vx vi):=by
 unfold qg at h;split at h;rename_i k lit n e nT ht;obtain rfl:=cG nT hi;split at h;rename_i sz c cq;rw[cond_eq_ite]at h;split at h;rename_i he;have he:sz=c.size:=by simpa using he
 have hx:=aC (by simp) hd;cases hx with
 |ro _ a cap us b o h1 h2 h3 h4 h5=>
  refine aP h (λcX=> ?_) hn;have⟨h6,h7,_⟩:=cX;have bA:n.toNat<c.n:=by omega
  obtain⟨rfl,h8,h9⟩:=h3 (by omega);refine⟨_,iz ht cq h6 h7 w, ?_⟩;unfold ak aO;refine⟨b,o+n.toNat*c.size,λj=>us n.toNat j,by rw[he];rfl,h8,h9,λj hj=>⟨h4 _ _ bA hj,h5 _ _ bA hj⟩⟩
 cases h;rename_i sz id cq;simp only[RM.eval]at h;split at h;rename_i c e' ho;rw[cond_eq_ite]at h;split at h;rename_i he;simp only[and_eq_true,beq_eq]at he;obtain⟨rfl,hge⟩:=he;have hge:=le_of_ble_eq_true hge;unfold ak aO at hd;have⟨_,o,dP,hv⟩:=hd;rw[ho]at dP;cases dP;obtain rfl:=hv c e' rfl;have⟨a,cap,hr,h2,h3,h4⟩:=hs.obj id _ ho;refine aP h (λcX=> ?_) hn;have⟨h6,h7,_⟩:=cX;rcases h4 with h4|⟨b,o,cells,fr,us,rfl,h5,_⟩;omega;refine⟨.pointer (some ⟨b,o+n.toNat*c.size,none⟩),by rw[hr];exact iz ht cq h6 h7 w, ?_⟩;unfold ak aO;refine⟨rfl,_,ho,λc' e'' hc=> ?_⟩;cases hc;exact⟨by omega,by omega,b,o,c.n,cap,hr,rfl⟩;cases h;cases h;rename_i sz id lo m cq;simp only[RM.eval]at h;split at h;rename_i c e' ho;rw[cond_eq_ite]at h;split at h;rename_i he;simp only[and_eq_true,beq_eq]at he;obtain⟨rfl,hge⟩:=he;have hge:=le_of_ble_eq_true hge;unfold ak aO at hd;have⟨_,o,dP,hv⟩:=hd;rw[ho]at dP;cases dP;obtain⟨hlm,a0,axB,a',hr0,azo,rfl,ha'⟩:=hv c e' rfl;have⟨a,cap,hr,h2,h3,h4⟩:=hs.obj id _ ho;obtain⟨rfl,rfl⟩:=slice_inj (hr0.symm.trans hr);refine aP h (λcX=> ?_) hn;have⟨h6,h7,_⟩:=cX;rcases h4 with h4|⟨b,o,cells,fr,us,rfl,h5,_⟩;omega;refine⟨.pointer (some ⟨b,o+lo*c.size+n.toNat*c.size,none⟩), ?_, ?_⟩;rw[ha' (by omega)];simp only[map_some,bp];exact iz ht cq h6 h7 w;unfold ak aO;refine⟨rfl,_,ho,λc' e'' hc=> ?_⟩;cases hc;exact⟨by omega,by omega,b,o,c.n,cap,hr,by rw[add_mul,add_assoc];rfl⟩;cases h;cases h;cases h;rename_i k lit n len e nT ht;obtain rfl:=cG nT hi;split at h;rename_i sz id off cq;unfold ak aO at hd;obtain⟨b,hb,rfl,dN⟩:=hd;cases lit;simp only[cond_false]at h;rw[cond_eq_ite]at h;split at h;rename_i h1;have h1:sz=1:=by simpa using h1
 subst h1;refine aP h (λcX=> ?_) hn;have⟨h6,h7,_⟩:=cX;exact⟨_,iA ht cq h6 h7 w,by unfold ak aO;exact⟨by omega,b,hb,by simp,dN⟩⟩;cases h;simp only[cond_true]at h;rw[cond_eq_ite]at h;split at h;rename_i h1;simp only[and_eq_true,decide_eq_true_eq]at h1;exact aP h (λ_=>⟨_,iA ht cq h1.1 h1.2 w,by unfold ak aO;exact⟨b,hb,rfl,dN⟩⟩) hn;cases h;rename_i sz id i0 cq;simp only[RM.eval]at h;split at h;rename_i c e' ho;rw[cond_eq_ite]at h;split at h;rename_i he;simp only[and_eq_true,beq_eq]at he;obtain⟨rfl,hge⟩:=he;unfold ak aO at hd;have⟨_,o,dP,hv⟩:=hd;rw[ho]at dP;cases dP;obtain⟨hi0,hc0,b,f,n',cap,hr,rfl⟩:=hv c e' rfl;refine aP h (λcX=> ?_) hn;have⟨h6,h7,h8,_⟩:=cX;refine⟨_,iA ht cq h6 h7 w, ?_⟩;unfold ak aO;refine⟨rfl,_,ho,λc' e'' hc=> ?_⟩;cases hc;exact⟨by omega,by omega,b,f,n',cap,hr,by rw[add_mul];congr 3;omega⟩;cases h;cases h;cases h;cases h
theorem aiB{t:TypeId}{x i:AV}{vx vi:Value}{q:b8}(h:(aeR P t x i).eval H=some q)(hn:bT q.ab)(hd:ak ρ H O w x vx)(hi:ak ρ H O w i vi):
 fI P ρ H O w q (Instr.index t vx vi):=by
 unfold aeR at h;split at h;rename_i k lit n len e kk m ws nT ht;obtain rfl:=cG nT hi;rw[cond_eq_ite]at h;split at h;rename_i hc;simp only[and_eq_true,beq_eq]at hc;obtain⟨⟨rfl,qQ⟩,cq⟩:=hc;have asp:iv P e=some false:=by cases ha:iv P e with|none=>simp[ha]at qQ|some b=>simp[ha]at qQ;rw[qQ]
 have aiC:eh P e=some 1:=by cases ha:eh P e with|none=>simp[ha]at cq|some b=>simp[ha]at cq;rw[cq]
 unfold ak at hd;obtain⟨hl,rfl⟩:=hd;refine aP h (λcX=> ?_) hn;have⟨h6,h7,_⟩:=cX;have bA:n.toNat<ws.length:=by omega
 refine⟨.int kk (ws.getD n.toNat 0), ?_,aJ (.int _ _)⟩;simp[Instr.index,run_underlying ht,asIntOf,h6,h7,run_sizeOf aiC,part,hZ asp,bA];cases h;rename_i k lit n s nT ht;obtain rfl:=cG nT hi;obtain rfl:=fP hd;refine aP h (λcX=> ?_) hn;have⟨h6,h7,_⟩:=cX;have bA:n.toNat<s.size:=by omega
 refine⟨.int .u8 (aN s n.toNat), ?_,aJ (.int _ _)⟩
 have hb:s[n.toNat]? =some s.data[n.toNat]:=by
  simp only[getElem?,decidableGetElem?];rw[dif_pos bA];rfl
 have asq:n.toNat<s.data.size:=bA;simp[Instr.index,run_underlying ht,asIntOf,h6,hb,aN];rw[Array.getElem?_eq_getElem asq];rfl;rename_i k lit n len e aD nT ht;obtain rfl:=cG nT hi;rw[cond_eq_ite]at h;split at h;rename_i hc;simp only[and_eq_true]at hc;have⟨qQ,cq⟩:=hc;have asp:iv P e=some false:=by cases ha:iv P e with|none=>simp[ha]at qQ|some b=>simp[ha]at qQ;rw[qQ]
 have aiC:eh P e=some 1:=by cases ha:eh P e with|none=>simp[ha]at cq|some b=>simp[ha]at cq;rw[cq]
 unfold ak at hd;obtain⟨cs,rfl,agz⟩:=hd;split at h;rename_i v hv;have⟨u,h4,h5,h6⟩:=ma aD _ hv agz;refine aP h (λcX=>⟨u, ?_,h6⟩) hn;have⟨h7,h8,_⟩:=cX;simp[Instr.index,run_underlying ht,asIntOf,h7,h8,run_sizeOf aiC,part,hZ asp,h4];cases h;cases h;cases h
theorem aiD{t:TypeId}{x:AV}{f:Nat}{vx:Value}{q:b8}(h:(aeS P t x f).eval H=some q)(hn:bT q.ab)(hd:ak ρ H O w x vx):
 fI P ρ H O w q (Instr.field t vx f):=by
 unfold aeS at h;split at h;rename_i fs aD ht;unfold ak at hd;obtain⟨cs,rfl,agz⟩:=hd;split at h;rename_i fd hf;split at h;rename_i sz cq qQ;split at h;rename_i ss hss;simp only[bind_eq_some_iff]at hss;have⟨s1,h4,h5⟩:=hss;have⟨h6,h7⟩:=fX aD _ h4 agz;have⟨h8,h9⟩:=fY s1 sz h5 h7;refine aP h (λ_=>⟨.agg ((cs.drop fd.offset).take sz).toArray, ?_,mc h9⟩) hn;simp[Instr.field,run_underlying ht,hf,asAgg,part,hZ qQ,run_sizeOf cq,List.extract_eq_take_drop];cases h;rename_i sz cq qQ;split at h;rename_i v hv;have⟨u,h4,h5,h6⟩:=ma aD _ hv agz;refine aP h (λ_=>⟨u, ?_,h6⟩) hn;simp[Instr.field,run_underlying ht,hf,asAgg,part,hZ qQ,h4];cases h;cases h;cases h;cases h
theorem ab6:∀{xs:List AV} {vs:List Value} {i:Nat} {x:AV},bV ρ H O w xs vs→xs[i]? =some x→∃v,vs[i]? =some v∧ak ρ H O w x v
 |[],vs,i,x,_,hx=>by simp at hx
 |a::aS,vs,i,x,h,hx=>by
  obtain⟨v,rest,rfl,h1,h2⟩:=aI.1 h;cases i with
  |zero=>simp at hx;subst hx;exact⟨v,rfl,h1⟩
  |succ i=>obtain⟨u,h3,h4⟩:=ab6 (i:=i) h2 (by simpa using hx);exact⟨u,by simpa using h3,h4⟩
theorem ab7{x:AV}{i:Nat}{vx:Value}{q:b8}(h:(vJ x i).eval H=some q)(hn:bT q.ab)(hd:ak ρ H O w x vx):
 fI P ρ H O w q (Instr.extract vx i):=by
 unfold vJ at h;split at h;rename_i vs;unfold ak at hd;obtain⟨us,rfl,hl⟩:=hd;split at h;rename_i v hv;have⟨u,h1,h2⟩:=ab6 hl hv;exact aP h (λ_=>⟨u,by simp[Instr.extract,h1],h2⟩) hn;cases h;cases h
theorem js(hs:Sat ρ H G w){id:Nat}{c:a8}{e:TypeId}{v:Value}(ho:H id=some (.aq c e))(hd:ak ρ H O w (.aq id) v):∃a cap,v=.slice a c.n cap/\ρ id=v/\c.n<=cap/\cap<=maxLen:=by
 unfold ak aO at hd;have⟨_,o,dP,hv⟩:=hd;rw[ho]at dP;cases dP;have⟨a,cap,h1,h2,h3,_⟩:=hs.obj id _ ho;exact⟨a,cap,by rw[hv c e rfl,h1],(hv c e rfl).symm,h2,h3⟩
theorem jF(hs:Sat ρ H G w){id lo n:Nat}{c:a8}{e:TypeId}{v:Value}(ho:H id=some (.aq c e))(hd:ak ρ H O w (.part id lo n) v):
 lo+n<=c.n/\∃a cap a',ρ id=.slice a c.n cap/\c.n<=cap/\cap<=maxLen/\v=.slice a' n (cap - lo)/\(cap≠lo->a'=a.map (·.add (lo*c.size)))/\(cap≠0->∃b o,a=some ⟨b,o,none⟩):=by
 unfold ak aO at hd;have⟨_,o,dP,hv⟩:=hd;rw[ho]at dP;cases dP;have⟨h0,a,cap,a',h1,h2,h3,h4⟩:=hv c e rfl;have⟨a2,re,g1,g2,g3,g4⟩:=hs.obj id _ ho;obtain⟨rfl,rfl⟩:=slice_inj (h1.symm.trans g1);refine⟨h0,_,_,a',h1,h2,g3,h3,h4,λhc=> ?_⟩;rcases g4 with g4|⟨b,o,_,_,_,g5,_⟩;exact absurd g4 hc;exact⟨b,o,g5⟩
theorem aol{t ty:TypeId}{ts:List TypeId}{x:AV}{vx:Value}{q:b8}(h:(ash P t x).eval H=some q)(hn:bT q.ab)(hs:Sat ρ H G w)(hd:ak ρ H O w x vx):
 fI P ρ H O w q (Builtin.len_ (t::ts).toArray ty #[vx]):=by
 unfold ash at h;split at h;rename_i s ht;obtain rfl:=fP hd;exact aP h (λ_=>⟨_,by simp[Builtin.len_,run_underlying ht];rfl,aJ (.int _ _)⟩) hn;rename_i n e ht;exact aP h (λ_=>⟨_,by cases vx<;>simp[Builtin.len_,run_underlying ht]<;>rfl,aJ (.aZ _ _)⟩) hn;rename_i e c ht;have hx:=aC (by simp) hd;cases hx;exact aP h (λ_=>⟨_,by simp[Builtin.len_,run_underlying ht];rfl,aJ (.int _ _)⟩) hn;rename_i e c k ht;have hx:=aC (by simp) hd;cases hx with
 |rot _ _ a n cap h1 h2=>
  cases h1;exact aP h (λ_=>⟨_,by simp[Builtin.len_,run_underlying ht];rfl,aJ (.int _ _)⟩) hn
 rename_i e ht;unfold ak at hd;obtain⟨a,rfl⟩:=hd;exact aP h (λ_=>⟨_,by simp[Builtin.len_,run_underlying ht];rfl,aJ (.aZ _ _)⟩) hn;rename_i e id ht;simp only[RM.eval]at h;split at h;rename_i c e' ho;obtain⟨a,cap,rfl,_⟩:=js hs ho hd;exact aP h (λ_=>⟨_,by simp[Builtin.len_,run_underlying ht];rfl,aJ (.int _ _)⟩) hn;cases h;rename_i e id lo n ht;simp only[RM.eval]at h;split at h;rename_i c e' ho;obtain⟨_,a,cap,a',_,_,_,rfl,_⟩:=jF hs ho hd;exact aP h (λ_=>⟨_,by simp[Builtin.len_,run_underlying ht];rfl,aJ (.int _ _)⟩) hn;cases h;rename_i kt et id ht;simp only[RM.eval]at h;split at h;rename_i ck m ho;unfold ak aO at hd;obtain⟨b,hb,rfl,_⟩:=hd;have⟨b',es,clock,h1,h2,h3⟩:=hs.obj id _ ho;rw[hb]at h1;cases h1;have e1:(getObj b).run P w=.ok (.map es clock) w:=by simp[getObj,Sem.run,h2]
 have e2:es.size=m.length:=by have:=congrArg List.length h3.eq;simpa using this
 exact aP h (λ_=>⟨.int .i64 m.length,by simp[Builtin.len_,run_underlying ht,e1,e2];rfl,aJ (.int _ _)⟩) hn;cases h;cases h
theorem aom{t ty:TypeId}{ts:List TypeId}{x:AV}{vx:Value}{q:b8}(h:(asi P t x).eval H=some q)(hn:bT q.ab)(hs:Sat ρ H G w)(hd:ak ρ H O w x vx):
 fI P ρ H O w q (Builtin.cap_ (t::ts).toArray ty #[vx]):=by
 unfold asi at h;split at h;rename_i e c k ht;have hx:=aC (by simp) hd;cases hx with
 |rot _ _ a n cap h1 h2=>exact aP h (λ_=>⟨_,by simp[Builtin.cap_,run_underlying ht];rfl,aJ (.pO _ _ (by omega))⟩) hn
 rename_i e id ht;simp only[RM.eval]at h;split at h;rename_i c e' ho;obtain⟨a,cap,rfl,_,hle,_⟩:=js hs ho hd;exact aP h (λ_=>⟨_,by simp[Builtin.cap_,run_underlying ht];rfl,aJ (.nr _ _ (by omega))⟩) hn;cases h;rename_i e id lo n ht;simp only[RM.eval]at h;split at h;rename_i c e' ho;obtain⟨_,a,cap,a',_,hle,_,rfl,_⟩:=jF hs ho hd;exact aP h (λ_=>⟨_,by simp[Builtin.cap_,run_underlying ht];rfl,aJ (.nr _ _ (by omega))⟩) hn;cases h;cases h
theorem pS(op:BinOp)(t:TypeId)(x y:Operand)(a b:Option Addr)(n c m d:Nat):(eqGuard op t x y (.slice a n c) (.slice b m d)).run P w=.ok () w:=by
 cases op<;>simp[eqGuard]
theorem aon{op:BinOp}{t:TypeId}{x:AV}{ox oy:Operand}{vx vy:Value}{q:b8}(h:(asl P op t x).eval H=some q)(hn:bT q.ab)(hs:Sat ρ H G w)
 (hx:ak ρ H O w x vx) (hy:vy=.slice none 0 0):fI P ρ H O w q (do eqGuard op t ox oy vx vy;binOp op t vx vy:Sem Value):=by
 subst hy
 have ad:∀e,P.underlying t=some (.slice e)->(op=.eql\/op=.neq)->∀a n c n',vx=.slice a n c->(a=none->n'=0)->(plain [] (.s (.lD n' (q7 op)))).eval H=some q->fI P ρ H O w q (do eqGuard op t ox oy vx (.slice none 0 0);binOp op t vx (.slice none 0 0):Sem Value):=by
  rintro e ht yj a n c n' rfl ha h;refine aP h (λ_=> ?_) hn;rcases yj with rfl|rfl;exact⟨.bool a.isNone,by simp[pS,Lib.run_eql_slice_nil w t e a n c 0 0 ht],aJ (.lD _ _ _ (λe=>ha (by simpa[q7]using e)))⟩;exact⟨.bool (!a.isNone),by simp[pS,run_neq_slice_nil_any w t e a n c 0 0 ht],aJ (.lD _ _ _ (λe=>ha (by simpa[q7]using e)))⟩
 have aoo:∀x,ak ρ H O w x vx->(op=.eql\/op=.neq)->(match P.underlying t with
  |some (.slice _)=>
   match x with
   |.s (.ro c)=>plain [] (.s (.lD c.n (q7 op)))
   |.emp=>plain [] (.s (.lD 0 (q7 op)))
   |.aq id=>.aA id λo=>match o with
    |some (.aq c _)=>plain [] (.s (.lD c.n (q7 op)))
    |_=>.fail "== nil: no row"
   |_=>.fail "== nil"
  |_=>.fail "== nil: the type" :RM b8).eval H=some q->fI P ρ H O w q (do eqGuard op t ox oy vx (.slice none 0 0);binOp op t vx (.slice none 0 0):Sem Value):=by
  intro x hx yj h;split at h;rename_i e ht;split at h;have h1:=aC (by simp) hx;cases h1 with
  |ro c a cap us b o q1 q2 q3 q4 q5=>exact ad e ht yj _ _ _ _ rfl (λha=>Decidable.byContradiction λhn0=>by have:=(q3 (Nat.pos_of_ne_zero hn0)).1;rw[ha]at this;cases this) h
  unfold ak at hx;obtain⟨a,rfl⟩:=hx;exact ad e ht yj _ _ _ _ rfl (λ_=>rfl) h;simp only[RM.eval]at h;split at h;rename_i ho;obtain⟨a,cap,rfl,eW,hle,_⟩:=js hs ho hx;refine ad e ht yj _ _ _ _ rfl (λha=> ?_) h;have⟨a2,re,akl,_,_,h3⟩:=hs.obj _ _ ho;rw[eW]at akl;cases akl;rcases h3 with h3|⟨_,_,_,_,_,h3,_⟩;omega;rw[ha]at h3;cases h3;cases h;cases h;cases h
 unfold asl at h;split at h;exact aoo x hx (.inl rfl) h;exact aoo x hx (.inr rfl) h;cases h
theorem ae3{op:BinOp}{t:TypeId}{x y:AV}{ox oy:Operand}{vx vy:Value}{q:b8}(h:(aaA op x y).eval H=some q)(hn:bT q.ab)
 (hx:ak ρ H O w x vx) (hy:ak ρ H O w y vy):fI P ρ H O w q (do eqGuard op t ox oy vx vy;binOp op t vx vy:Sem Value):=by
 unfold aaA at h;split at h;rename_i l a b h1;obtain rfl:=cG h1 hx;have hy:=aC (by simp) hy;cases hy with
 |nr _ n hge=>
  refine aP h (λcX=> ?_) hn;have⟨h3,_⟩:=cX;refine⟨.bool false, ?_,aJ (.aT _)⟩;have:¬a>n:=by omega
  simp[hY,binOp,Op.intCmp,this]
 rename_i l a b h1;obtain rfl:=cG h1 hx;have hy:=aC (by simp) hy;cases hy with
 |pO _ n bA=>
  refine aP h (λcX=> ?_) hn;have⟨h3,_⟩:=cX;refine⟨.bool true, ?_,aJ (.aT _)⟩;have:a>n:=by omega
  simp[hY,binOp,Op.intCmp,this]
 cases h
theorem mf{x:AV}{v:Value}(h:ak ρ H O w x v):ak ρ H O w (pQ x) v:=by
 unfold pQ;split;have h1:=aC (by simp) h;cases h1;unfold ak;exact⟨none,rfl⟩;exact h
theorem akm{x:AV}{v:Value}(h:ak ρ H O w x v)(hx:aeZ x=true):v=.slice none 0 0:=by
 unfold aeZ at hx;split at hx;have h1:=aC (by simp) h;cases h1;rfl;cases hx
theorem agA{ts:Array TypeId}{ty:TypeId}{mx:Bool}{x y:AV}{vx vy:Value}{q:b8}(h:(aof mx x y).eval H=some q)(hn:bT q.ab)(hx:ak ρ H O w x vx)(hy:ak ρ H O w y vy):
 fI P ρ H O w q (if mx then Builtin.max_ ts ty #[vx,vy]else Builtin.min_ ts ty #[vx,vy]):=by
 unfold aof at h;split at h;rename_i k lx a k' ly b h1 h2;obtain rfl:=cG h1 hx;obtain rfl:=cG h2 hy;rw[cond_eq_ite]at h;split at h;rename_i hk;obtain rfl:=bC hk;cases mx;exact aP h (λ_=>⟨_,by simp[run_min_int2,qj],hU _ _ _⟩) hn;exact aP h (λ_=>⟨_,by simp[run_max_int2,imax],hU _ _ _⟩) hn;cases h;cases h
theorem aaH{x:AV}{vx:Value}{q:b8}(h:(sO x).eval H=some q)(hn:bT q.ab)(hd:ak ρ H O w x vx)(e:Operand->Value)(o:Oper)(y:Operand)(ho:o.op=.nilCheck y)(he:e y=vx):
 q.up=[]/\q.new=[]/\(execOp e o).run P w=.ok (.value vx) w/\∀base,ak ρ H O w (q.r base) vx:=by
 have fin:∀r,(plain [] r).eval H=some q->r=x->(execOp e o).run P w=.ok (.value vx) w->q.up=[]/\q.new=[]/\(execOp e o).run P w=.ok (.value vx) w/\∀base,ak ρ H O w (q.r base) vx:=by
  intro r hr hx jf;simp only[plain,RM.eval,Option.some.injEq]at hr;subst hr;subst hx;exact⟨rfl,rfl,jf,λ_=>hd⟩
 unfold sO at h;split at h;unfold ak aO at hd;obtain⟨b,_,rfl,_⟩:=hd;exact fin _ h rfl (by simp[execOp,ho,he]);unfold ak aO at hd;obtain⟨_,b,_,rfl,_⟩:=hd;exact fin _ h rfl (by simp[execOp,ho,he]);unfold ak aO at hd;obtain⟨b,o',us,rfl,_⟩:=hd;exact fin _ h rfl (by simp[execOp,ho,he]);unfold ak at hd;obtain⟨vs,rfl,_⟩:=hd;exact fin _ h rfl (by simp[execOp,ho,he]);have h1:=aC (by simp) hd;cases h1;exact fin _ h rfl (by simp[execOp,ho,he]);cases h
theorem aaI{fn:Fn}{first dF:List AV}{vf vc:List Value}{q:b8}(h:(sP fn first dF).eval H=some q)(hn:bT q.ab)(hf:bV ρ H O w first vf)(hc:bV ρ H O w dF vc):
 fI P ρ H O w q (Instr.makeFunc fn vf.toArray vc.toArray):=by
 unfold sP at h;split at h;rename_i f;obtain rfl:=bo.1 hf;obtain rfl:=bo.1 hc;exact aP h (λ_=>⟨_,rfl,aJ (.qW f)⟩) hn;rename_i f c cs;obtain rfl:=bo.1 hf;exact aP h (λ_=>⟨_,rfl,by unfold ak;exact⟨vc,rfl,hc⟩⟩) hn;rename_i f c cs;obtain rfl:=bo.1 hc;exact aP h (λ_=>⟨_,rfl,by unfold ak;exact⟨vf,rfl,hf⟩⟩) hn;cases h
end
section
variable{ρ aQ:Nat->Value}{H H':aV}{G O O':Nat->Prop}{w w':World}{P:Program}
def nU(ρ:Nat->Value)(H:aV)(O:Nat->Prop)(w:World):Option AV->Option Value->Prop
 |none,none=>True
 |some a,some v=>ak ρ H O w a v
 |_,_=>False
theorem cY{d n:Int}{o:Option AV}{vo:Option Value}(h:hM d o=some n)(hd:nU ρ H O w o vo):(vo=none/\n=d)\/∃k,vo=some (.int k n):=by
 cases o with
 |none=>
  cases vo with
  |none=>simp only[hM,Option.some.injEq]at h;exact .inl ⟨rfl,h.symm⟩
  |some v=>exact hd.elim
 |some a=>
  cases vo with
  |none=>exact hd.elim
  |some v=>
   simp only[hM,map_eq_some_iff]at h;obtain⟨⟨k,l,m⟩,h1,rfl⟩:=h;exact .inr ⟨k,by rw[cG h1 hd]⟩
theorem pa(c:a8){l h:Nat}(_hl:l<=h)(hh:h<=c.n):(dY c l h).n=h - l:=by
 cases c<;>simp only[dY,a8.n,length_drop,length_take]at * <;>omega
theorem ko(c:a8)(l h:Nat):(dY c l h).size=c.size:=by cases c<;>rfl
theorem akn{α:Type}(zs:List α)(d:α){l h i:Nat}(hi:i<h - l):((zs.take h).drop l).getD i d=zs.getD (l+i) d:=by
 simp only[List.getD,List.getElem?_drop,getElem?_take];rw[if_pos (by omega)]
theorem kp(c:a8){l h i:Nat}(j:Nat)(hi:i<h - l):(dY c l h).cell i j=c.cell (l+i) j:=by
 cases c<;>simp only[dY,a8.cell,akn _ _ hi]
theorem ab8{s:ByteArray}{lo hi:Option Value}{l h:Int}(hl:(lo=none/\l=0)\/∃k,lo=some (.int k l))(hh:(hi=none/\h=(s.size:Int))\/∃k,hi=some (.int k h))
 (h0:0<=l) (h1:l<=h) (h2:h<=s.size) {t:TypeId} (ht:P.underlying t=some .string) (w:World):
 (Instr.sliceAt t (.string s) lo hi none).run P w=.ok (.string (s.extract l.toNat h.toNat)) w:=by
 have hle:l<=((h.toNat:Nat):Int):=by omega
 rcases hl with⟨rfl,rfl⟩|⟨k,rfl⟩<;>rcases hh with⟨rfl,rfl⟩|⟨k',rfl⟩;simp[Instr.sliceAt,Instr.slice,run_underlying ht,Instr.sliceBounds];simp[Instr.sliceAt,Instr.slice,run_underlying ht,Instr.sliceBounds,run_sliceBound _ _ _ _ _ h1 h2];simp[Instr.sliceAt,Instr.slice,run_underlying ht,Instr.sliceBounds,run_sliceBound _ _ _ _ _ h0 h1];simp[Instr.sliceAt,Instr.slice,run_underlying ht,Instr.sliceBounds,run_sliceBound _ _ _ _ _ (show 0<=h by omega) h2,run_sliceBound _ _ _ _ _ h0 hle]
theorem mg{a:Option Addr}{n cap:Nat}{lo hi:Option Value}{l h:Int}(hl:(lo=none/\l=0)\/∃k,lo=some (.int k l))(hh:(hi=none/\h=(n:Int))\/∃k,hi=some (.int k h))
 (h0:0<=l) (h1:l<=h) (h2:h<=cap) {t e:TypeId} (ht:P.underlying t=some (.slice e)) {sz:Nat} (hs:eh P e=some sz) (w:World):
 (Instr.sliceAt t (.slice a n cap) lo hi none).run P w=.ok (.slice (if cap=l.toNat then a else a.map (·.add (l.toNat*sz))) (h.toNat - l.toNat) (cap - l.toNat)) w:=by
 have hle:l<=((h.toNat:Nat):Int):=by omega
 rcases hl with⟨rfl,rfl⟩|⟨k,rfl⟩<;>rcases hh with⟨rfl,rfl⟩|⟨k',rfl⟩;simp[Instr.sliceAt,Instr.slice,run_underlying ht,Instr.sliceBounds,run_sizeOf hs];simp[Instr.sliceAt,Instr.slice,run_underlying ht,Instr.sliceBounds,run_sliceBound _ _ _ _ _ h1 h2,run_sizeOf hs];simp[Instr.sliceAt,Instr.slice,run_underlying ht,Instr.sliceBounds,run_sliceBound _ _ _ _ _ h0 h1,run_sizeOf hs];simp[Instr.sliceAt,Instr.slice,run_underlying ht,Instr.sliceBounds,run_sliceBound _ _ _ _ _ (show 0<=h by omega) h2,run_sliceBound _ _ _ _ _ h0 hle,run_sizeOf hs]
theorem uh{b o n:Nat}{lo hi:Option Value}{l h:Int}(hl:(lo=none/\l=0)\/∃k,lo=some (.int k l))(hh:(hi=none/\h=(n:Int))\/∃k,hi=some (.int k h))
 (h0:0<=l) (h1:l<=h) (h2:h<=n) {t e:TypeId} (ht:P.underlying t=some (.array n e)) (hs:eh P e=some 1) (w:World):
 ∃a,(Instr.sliceAt t (.pointer (some ⟨b,o,none⟩)) lo hi none).run P w=.ok (.slice a (h.toNat - l.toNat) (n - l.toNat)) w/\(h.toNat - l.toNat≠0->a=some ⟨b,o+l.toNat,none⟩):=by
 have hle:l<=((h.toNat:Nat):Int):=by omega
 refine⟨some (if n=l.toNat then⟨b,o,none⟩else(⟨b,o,none⟩:Addr).add (l.toNat*1)), ?_,λcX=>by rw[if_neg (by omega),bp,Nat.mul_one]⟩;rcases hl with⟨rfl,rfl⟩|⟨k,rfl⟩<;>rcases hh with⟨rfl,rfl⟩|⟨k',rfl⟩;simp[Instr.sliceAt,Instr.sureAddr,run_underlying ht,Instr.sliceBounds,run_sizeOf hs];simp[Instr.sliceAt,Instr.sureAddr,run_underlying ht,Instr.sliceBounds,run_sliceBound _ _ _ _ _ h1 h2,run_sizeOf hs];simp[Instr.sliceAt,Instr.sureAddr,run_underlying ht,Instr.sliceBounds,run_sliceBound _ _ _ _ _ h0 h1,run_sizeOf hs];simp[Instr.sliceAt,Instr.sureAddr,run_underlying ht,Instr.sliceBounds,run_sliceBound _ _ _ _ _ (show 0<=h by omega) h2,run_sliceBound _ _ _ _ _ h0 hle,run_sizeOf hs]
theorem ae4{c:a8}{v:Value}(hx:bg O w (.ro c) v){l h:Nat}(hl:l<=h)(hh:h<=c.n):∃a cap,v=.slice a c.n cap/\c.n<=cap/\
 ∀sz,sz=c.size->bg O w (.ro (dY c l h)) (.slice (if cap=l then a else a.map (·.add (l*sz))) (h - l) (cap - l)):=by
 cases hx with
 |ro _ a cap us b o h1 h2 h3 h4 h5=>
  refine⟨a,cap,rfl,h1, ?_⟩;rintro sz rfl;have hn:=pa c hl hh;have cq:=ko c l h;have ad:=bg.ro (O:=O) (w:=w) (dY c l h) (if cap=l then a else a.map (·.add (l*c.size))) (cap - l) (λi j=>us (l+i) j) b (o+l*c.size) (by omega) (by omega)
   (λh0=>by
     obtain⟨rfl,h6,h7⟩:=h3 (by omega);refine⟨?_,h6,h7⟩;rw[if_neg (by omega)];simp only[map_some,bp])
   (λi j hi hj=>by
     rw[hn]at hi;rw[cq]at hj ⊢;have:=h4 (l+i) j (by omega) hj;rw[show o+l*c.size+i*c.size+j=o+(l+i)*c.size+j from by rw[add_mul];omega];exact this)
   (λi j hi hj=>by
     rw[hn]at hi;rw[cq]at hj;rw[kp c j hi];exact h5 _ _ (by omega) hj)
  rw[hn]at ad;exact ad
theorem ako(a:Option Addr)(hf:∃b o,a=some ⟨b,o,none⟩)(x y:Nat):(a.map (·.add x)).map (·.add y)=a.map (·.add (x+y)):=by
 obtain⟨b,o,rfl⟩:=hf;simp only[map_some,bp,add_assoc]
theorem ab9{t e e':TypeId}{c:a8}{id lo0 n:Nat}{lo hi mx:Option AV}{vlo vhi yt:Option Value}{q:b8}(h:(agx P e c id lo0 n lo hi mx).eval H=some q)(hn:bT q.ab)
 (ht:P.underlying t=some (.slice e)) (ho:H id=some (.aq c e')) {a a':Option Addr} {cap:Nat} (hr:ρ id=.slice a c.n cap) (yu:c.n<=cap) (hln:lo0+n<=c.n) (ha':cap≠lo0->a'=a.map (·.add (lo0*c.size)))
 (hf:cap≠0->∃b o,a=some ⟨b,o,none⟩) (hlo:nU ρ H O w lo vlo) (hhi:nU ρ H O w hi vhi) (hmx:nU ρ H O w mx yt):
 fI P ρ H O w q (Instr.sliceAt t (.slice a' n (cap - lo0)) vlo vhi yt):=by
 unfold agx at h;split at h;rename_i sz cq;rw[cond_eq_ite]at h;split at h;rename_i hz;have hz:sz=c.size:=by simpa using hz
 subst hz;split at h;obtain rfl:yt=none:=by cases yt<;>first|rfl|exact hmx.elim
 split at h;rename_i l hh h1 h2;refine aP h (λcX=> ?_) hn;have⟨h3,h4,h5,_⟩:=cX;refine⟨_,mg (cY h1 hlo) (cY h2 hhi) h3 h4 (by omega) ht cq w, ?_⟩;unfold ak aO;refine⟨rfl,_,ho,λc' e'' hc=> ?_⟩;cases hc;refine⟨by omega,a,cap,_,hr,yu,by rw[Nat.sub_sub],λcX=> ?_⟩;have hc0:cap≠lo0:=by omega
 rw[if_neg (by omega),ha' hc0,ako _ (hf (by omega)),add_mul];cases h;rename_i m;split at h;rename_i l kh lh hh km lm m' h1 h2 h3;refine aP h (λcX=> ?_) hn;have⟨g1,g2,g3,g4,_⟩:=cX;simp only[bind_eq_some_iff]at h2;obtain⟨ha,rfl,h2⟩:=h2;cases yt with
 |none=>exact hmx.elim
 |some vm=>
  cases vhi with
  |none=>exact hhi.elim
  |some vh=>
   obtain rfl:=cG h3 hmx;obtain rfl:=cG h2 hhi;have e1:m'<=(((cap - lo0:Nat):Int)):=by omega
   have e2:hh<=((m'.toNat:Nat):Int):=by omega
   have e3:l<=((hh.toNat:Nat):Int):=by omega
   rcases cY h1 hlo with⟨rfl,rfl⟩|⟨k1,rfl⟩;exact⟨_,by simp[Instr.sliceAt,Instr.slice,run_underlying ht,Instr.sliceBounds,run_sliceBound _ _ _ _ _ (show 0<=m' by omega) e1,run_sliceBound _ _ _ _ _ (show 0<=hh by omega) e2,run_sizeOf cq];rfl,by unfold ak;trivial⟩;exact⟨_,by simp[Instr.sliceAt,Instr.slice,run_underlying ht,Instr.sliceBounds,run_sliceBound _ _ _ _ _ (show 0<=m' by omega) e1,run_sliceBound _ _ _ _ _ (show 0<=hh by omega) e2,run_sliceBound _ _ _ _ _ g1 e3,run_sizeOf cq];rfl,by unfold ak;trivial⟩
 cases h;cases h;cases h
theorem aiE(hs:Sat ρ H G w){t:TypeId}{x:AV}{lo hi mx:Option AV}{vx:Value}{vlo vhi yt:Option Value}{q:b8}(h:(aeX P t x lo hi mx).eval H=some q)(hn:bT q.ab)
 (hd:ak ρ H O w x vx) (hlo:nU ρ H O w lo vlo) (hhi:nU ρ H O w hi vhi) (hmx:nU ρ H O w mx yt):
 fI P ρ H O w q (Instr.sliceAt t vx vlo vhi yt):=by
 unfold aeX at h;split at h;rename_i s ht;obtain rfl:=fP hd;split at h;rename_i l hh h1 h2;obtain rfl:yt=none:=by cases yt<;>first|rfl|exact hmx.elim
 refine aP h (λcX=> ?_) hn;have⟨h3,h4,h5,_⟩:=cX;exact⟨_,ab8 (cY h1 hlo) (cY h2 hhi) h3 h4 h5 ht w,aJ (.ag _)⟩;cases h;rename_i e ht;unfold ak at hd;obtain⟨a,rfl⟩:=hd;split at h;rename_i sz l hh cq h1 h2;obtain rfl:yt=none:=by cases yt<;>first|rfl|exact hmx.elim
 refine aP h (λcX=> ?_) hn;obtain⟨rfl,rfl,_⟩:=cX;exact⟨_,mg (cY h1 hlo) (cY h2 hhi) (by omega) (by omega) (by omega) ht cq w,by unfold ak;exact⟨a,by simp⟩⟩;cases h;rename_i e c ht;have hx:=aC (by simp) hd;split at h;rename_i sz cq;rw[cond_eq_ite]at h;split at h;rename_i hz;have hz:sz=c.size:=by simpa using hz
 split at h;obtain rfl:yt=none:=by cases yt<;>first|rfl|exact hmx.elim
 split at h;rename_i l hh h1 h2;refine aP h (λcX=> ?_) hn;have⟨h3,h4,h5,_⟩:=cX;obtain⟨a,cap,rfl,hle,akp⟩:=ae4 hx (l:=l.toNat) (h:=hh.toNat) (by omega) (by omega);exact⟨_,mg (cY h1 hlo) (cY h2 hhi) h3 h4 (by omega) ht cq w,aJ (akp sz hz)⟩;cases h;rename_i m;split at h;rename_i l kh lh hh km lm m' h1 h2 h3;refine aP h (λcX=> ?_) hn;obtain⟨rfl,rfl,rfl,_⟩:=cX;simp only[bind_eq_some_iff]at h2;obtain⟨ha,rfl,h2⟩:=h2;cases yt with
 |none=>exact hmx.elim
 |some vm=>
  cases vhi with
  |none=>exact hhi.elim
  |some vh=>
   obtain rfl:=cG h3 hmx;obtain rfl:=cG h2 hhi;cases hx with
   |ro _ a cap us b o g1 g2 g3 g4 g5=>
    refine⟨.slice a 0 0, ?_,by unfold ak;exact⟨a,rfl⟩⟩
    have hb:∀(k:IntKind) (y:Nat) (code:BoundsCode) (w:World),(Instr.sliceBound (.int k 0) y code).run P w=.ok 0 w:=λk y code w=>by
     rw[run_sliceBound _ _ _ _ _ (by omega) (by omega)];rfl
    rcases cY h1 hlo with⟨rfl,_⟩|⟨k1,rfl⟩;simp[Instr.sliceAt,Instr.slice,run_underlying ht,Instr.sliceBounds,hb,run_sizeOf cq];simp[Instr.sliceAt,Instr.slice,run_underlying ht,Instr.sliceBounds,hb,run_sizeOf cq]
 cases h;cases h;cases h;rename_i e c k ht;have hx:=aC (by simp) hd
 obtain⟨a0,n0,axB,rfl,hx,bA⟩:∃a n cap,vx=.slice a n cap/\bg O w (.ro c) vx/\cap<k:=by
  cases hx with
  |rot _ _ a n cap h1 h2=>exact⟨a,n,cap,rfl,h1,h2⟩
 split at h;rename_i sz cq;rw[cond_eq_ite]at h;split at h;rename_i hz;have hz:sz=c.size:=by simpa using hz
 obtain rfl:yt=none:=by cases yt<;>first|rfl|exact hmx.elim
 split at h;rename_i hh h2;obtain rfl:vlo=none:=by cases vlo<;>first|rfl|exact hlo.elim
 refine aP h (λcX=> ?_) hn;have⟨h4,h5,_⟩:=cX;have⟨a,cap,e0,hle,akp⟩:=ae4 hx (l:=0) (h:=hh.toNat) (by omega) (by omega);cases e0;have hd2:=akp sz hz;exact⟨_,mg (l:=0) (.inl ⟨rfl,rfl⟩) (cY h2 hhi) (by omega) h4 (by omega) ht cq w,aJ (.rot _ _ _ _ _ hd2 (by omega))⟩;rename_i l hh h2;split at h;rename_i kl ll l' h1;refine aP h (λcX=> ?_) hn;have⟨h3,h4,h5,_⟩:=cX;have⟨a,cap,e0,hle,akp⟩:=ae4 hx (l:=l'.toNat) (h:=hh.toNat) (by omega) (by omega);cases e0;have h1':hM 0 (some l)=some l':=by simp[hM,h1]
 exact⟨_,mg (cY h1' hlo) (cY h2 hhi) h3 h4 (by omega) ht cq w,aJ (akp sz hz)⟩;cases h;cases h;cases h;cases h;rename_i e id ht;simp only[RM.eval]at h;split at h;rename_i c e' ho;obtain⟨a,cap,rfl,hr,hle,_⟩:=js hs ho hd;have e9:=hs.obj id _ ho;rw[hr]at e9;have⟨a2,re,g1,_,_,g4⟩:=e9;cases g1
 have hf:cap≠0->∃b o,a=some ⟨b,o,none⟩:=λhc=>by
  rcases g4 with g4|⟨b,o,_,_,_,g5,_⟩;exact absurd g4 hc;exact⟨b,o,g5⟩
 have:=ab9 (a':=a) h hn ht ho hr hle (by omega) (λhc=>by
  obtain⟨b,o,rfl⟩:=hf hc;simp[bp]) hf hlo hhi hmx
 simpa using this;cases h;rename_i e id lo0 n ht;simp only[RM.eval]at h;split at h;rename_i c e' ho;obtain⟨h0,a,cap,a',h1,h2,h3,rfl,h4,h5⟩:=jF hs ho hd;exact ab9 h hn ht ho h1 h2 h0 h4 h5 hlo hhi hmx;cases h;rename_i n e id off ht;split at h;rename_i sz l hh cq h1 h2;obtain rfl:yt=none:=by cases yt<;>first|rfl|exact hmx.elim
 rw[cond_eq_ite]at h;split at h;rename_i h1s;obtain rfl:sz=1:=by simpa using h1s
 unfold ak aO at hd;obtain⟨b,hb,rfl,hi⟩:=hd;refine aP h (λcX=> ?_) hn;have⟨h3,h4,h5,_⟩:=cX;have⟨a,e1,e2⟩:=uh (b:=b) (o:=off) (cY h1 hlo) (cY h2 hhi) h3 h4 h5 ht cq w;refine⟨_,e1, ?_⟩;unfold ak aO;exact⟨rfl,b,a,_,hb,rfl,e2,hi⟩;cases h;cases h;rename_i n e id i j ht;split at h;rename_i sz l hh cq h1 h2;obtain rfl:yt=none:=by cases yt<;>first|rfl|exact hmx.elim
 simp only[RM.eval]at h;split at h;rename_i c e' ho;rw[cond_eq_ite]at h;split at h;rename_i h1s;simp only[and_eq_true,beq_eq]at h1s;obtain⟨rfl,hjn⟩:=h1s;have hjn:=le_of_ble_eq_true hjn;unfold ak aO at hd;have⟨h0,o,dP,hv⟩:=hd;rw[ho]at dP;cases dP;obtain⟨g1,g2,b,f,n',cap,g3,rfl⟩:=hv c e' rfl;refine aP h (λcX=> ?_) hn;have⟨h3,h4,h5,_⟩:=cX;have⟨a,e1,e2⟩:=uh (b:=b) (o:=f+i*c.size+j) (cY h1 hlo) (cY h2 hhi) h3 h4 h5 ht cq w;refine⟨_,e1, ?_⟩;unfold ak aO;refine⟨rfl,_,ho,λc2 e2' hc=> ?_⟩;cases hc;exact⟨g1,by omega,b,f,n',cap,a,_,g3,rfl,λhz=>by rw[e2 hz,add_assoc]⟩;cases h;cases h;cases h;cases h
theorem aaJ(zs:List Int):∀(l:List Value) (s:ByteArray) (w:World),l=zs.map (Value.int .u8)->
 (forIn (m:=Sem) l s λc s=>do
   match c with
   |.int .u8 n=>pure (ForInStep.yield (s.push (UInt8.ofNat n.toNat)))
   |_=>do
    stuck "bytesToString: byte expected"
    pure (ForInStep.yield s)).run P w=.ok ⟨s.data++(zs.map λn=>UInt8.ofNat n.toNat).toArray⟩ w:=by
 induction zs with
 |nil=>intro l s w h;subst h;simp
 |cons z zs ih=>
  intro l s w h;subst h;simp only[map_cons,List.forIn_cons,Sem.run_bind,Sem.run_pure,andThen_ok];rw[ih _ _ _ rfl];congr 2;simp[ByteArray.push]
def qo(O:Nat->Prop)(w:World)(c:a8)(v:Value):Prop:=
 ∃(a:Option Addr) (cap:Nat) (us:Nat->Nat->Value),v=.slice a c.n cap/\c.n<=cap/\cap<=maxLen/\(0<c.n->∃b o,a=some ⟨b,o,none⟩/\b<w.heap.size/\
  ∀i j,i<c.n->j<c.size->w.cell? ⟨b,o+i*c.size+j,none⟩=some (us i j)/\bg O w (c.cell i j) (us i j))
theorem vW(sh:Shape)(size:Nat):(akf sh size).n=0:=by cases sh<;>rfl
theorem vX{sh:Shape}{size:Nat}{x:AV}{k:a8->Option Nat->RM b8}{v:Value}{q:b8}(h:(rowOf sh size x k).eval H=some q)(hs:Sat ρ H G w)(hd:ak ρ H (bd ρ H G) w x v):
 ∃c idy,(k c idy).eval H=some q/\qo (bd ρ H G) w c v:=by
 unfold rowOf at h;split at h;split at h;rename_i c;have hx:=aC (by simp) hd;cases hx with
 |ro _ a cap us b o g1 g2 g3 g4 g5=>
  refine⟨c,none,h,a,cap,us,rfl,g1,g2,λh0=> ?_⟩;obtain⟨rfl,_,h2⟩:=g3 h0;exact⟨b,o,rfl,h2,λi j hi hj=>⟨g4 i j hi hj,g5 i j hi hj⟩⟩
 cases h;unfold ak at hd;obtain⟨a,rfl⟩:=hd;exact⟨_,none,h,a,0,λ_ _=>undef,by rw[vW],by rw[vW];exact le_refl _,by simp[maxLen],by rw[vW];omega⟩;rename_i id;simp only[RM.eval]at h;split at h;rename_i c e ho;refine⟨c,some id,h, ?_⟩;unfold ak aO at hd;have⟨_,o,dP,hv⟩:=hd;rw[ho]at dP;cases dP;obtain rfl:=hv c e rfl;have⟨a,cap,h1,h2,h3,h4⟩:=hs.obj id _ ho;rcases h4 with rfl|⟨b,o,cells,fr,us,rfl,h5,h6,h7,h8⟩;exact⟨a,0,λ_ _=>undef,h1,h2,h3,λh0=>by omega⟩;refine⟨_,cap,us,h1,h2,h3,λ_=>⟨b,o,rfl,(Array.getElem?_eq_some_iff.1 h5).1,λi j hi hj=> ?_⟩⟩;have⟨h9,uP⟩:=h8 i j hi hj;exact⟨by rw[dJ h5];exact h9,uP⟩;cases h;rename_i id lo n;simp only[RM.eval]at h;split at h;rename_i c e ho;refine⟨_,some id,h, ?_⟩;obtain⟨g0,a,cap,a',g1,g2,g3,rfl,g4,g5⟩:=jF hs ho hd;have hn:(dY c lo (lo+n)).n=n:=by rw[pa c (by omega) g0];omega
 have cq:=ko c lo (lo+n);have⟨a2,re,k1,k2,k3,k4⟩:=hs.obj id _ ho;rw[g1]at k1;cases k1;rcases k4 with rfl|⟨b,o,cells,fr,us,rfl,h5,h6,h7,h8⟩;exact⟨a',0 - lo,λ_ _=>undef,by rw[hn],by rw[hn];omega,by omega,λh0=>by rw[hn]at h0;omega⟩;refine⟨a',cap - lo,λi j=>us (lo+i) j,by rw[hn],by rw[hn];omega,by omega,λh0=> ?_⟩;rw[hn]at h0;refine⟨b,o+lo*c.size,by rw[g4 (by omega)];simp[bp],(Array.getElem?_eq_some_iff.1 h5).1,λi j hi hj=> ?_⟩;rw[hn]at hi;rw[cq]at hj ⊢;have⟨h9,uP⟩:=h8 (lo+i) j (by omega) hj;refine⟨?_,by rw[kp c j (by omega)];exact uP⟩;rw[dJ h5,show o+lo*c.size+i*c.size+j=o+(lo+i)*c.size+j from by rw[add_mul];omega];exact h9;cases h;cases h
theorem yv(zs:List Int):zs.map (Value.int .u8)=(List.range zs.length).map λi=>Value.int .u8 (zs.getD i 0):=by
 apply List.ext_getElem;simp;intro i h1 h2;simp at h1;simp[h1]
theorem kU{zs:List Int}{a:Option Addr}{cap:Nat}(h3:0<zs.length->∃b o,a=some ⟨b,o,none⟩/\∀j,j<zs.length->w.cell? ⟨b,o+j,none⟩=some (.int .u8 (zs.getD j 0))):
 (Conv.bytesToString (.slice a zs.length cap)).run P w=.ok (.string (aW zs)) w:=by
 cases a with
 |none=>
  have:zs.length=0:=by
   rcases Nat.eq_zero_or_pos zs.length with h0|h0;exact h0;have⟨b,o,e,_⟩:=h3 h0;cases e
  obtain rfl:=List.eq_nil_of_length_eq_zero this;rfl
 |some a=>
  have auU:(loadCells a zs.length).run P w=.ok (zs.map (Value.int .u8)).toArray w:=by
   rcases Nat.eq_zero_or_pos zs.length with h0|h0;obtain rfl:=List.eq_nil_of_length_eq_zero h0;rfl;have⟨b,o,e,hc⟩:=h3 h0;cases e;rw[yv];refine run_loadCells w _ _ (λi=>Value.int .u8 (zs.getD i 0)) (λj hj=> ?_);rw[bp];exact hc j hj
  simp only[Conv.bytesToString,Sem.run_bind,auU,andThen_ok];rw[<-Array.forIn_toList];have:=aaJ (P:=P) zs (zs.map (Value.int .u8)) empty w rfl;erw [this];simp[aW]
theorem rf{zs:List Int}{v:Value}(h:qo O w (.aw .u8 zs) v):(Conv.bytesToString v).run P w=.ok (.string (aW zs)) w:=by
 obtain⟨a,cap,us,rfl,h1,h2,h3⟩:=h;simp only[a8.n]at h1 h3 ⊢;refine kU λh0=> ?_;have⟨b,o,e,_,hc⟩:=h3 h0;refine⟨b,o,e,λj hj=> ?_⟩;have⟨g1,g2⟩:=hc j 0 hj (by simp[a8.size]);simp only[a8.size,Nat.mul_one,add_zero,a8.cell]at g1 g2;rw[g1];generalize us j 0=u at g2 ⊢;cases g2;rfl
theorem zh(hs:Sat ρ H G w){id b m off n:Nat}{k:IntKind}{ws:List Int}{e:TypeId}(ho:H id=some (.ay [.aw k m ws] e))(hb:ρ id=.pointer (some ⟨b,0,none⟩))(hnm:off+n<=m):
 ((ws.drop off).take n).length=n/\∀j,j<n->w.cell? ⟨b,off+j,none⟩=some (.int k (((ws.drop off).take n).getD j 0)):=by
 have⟨cells,fr,e1,_,e2⟩:=o9 hs ho hb;obtain⟨c1,c2,rfl,e3,e4⟩:=ao.1 e2;obtain⟨e5,rfl⟩:=dt.1 e3;obtain rfl:=aH.1 e4;refine⟨by rw[length_take,length_drop];omega,λj hj=> ?_⟩;rw[dJ e1,append_nil,getElem?_map];have bA:off+j<ws.length:=by omega
 rw[getElem?_eq_getElem bA];simp[List.getD,getElem?_take,hj,List.getElem?_drop,bA]
theorem aca{src dst:TypeId}{x:AV}{vx:Value}{q:b8}(h:(vL P src dst x).eval H=some q)(hn:bT q.ab)(hs:Sat ρ H G w)(hd:ak ρ H (bd ρ H G) w x vx):
 fI P ρ H (bd ρ H G) w q (convert src dst vx):=by
 unfold vL at h;split at h;rename_i d k pI lG;split at h;rename_i k' lit n nT;obtain rfl:=cG nT hd
 have jf:(convert src dst (.int k' n)).run P w=.ok (.int k (k.wrap n)) w:=by
  simp[convert,run_underlying pI,run_underlying lG,Conv.intToInt]
 rw[cond_eq_ite]at h;split at h;exact aP h (λ_=>⟨_,jf,aJ (.aZ _ _)⟩) hn;rw[cond_eq_ite]at h;split at h;rename_i hk;simp only[and_eq_true]at hk;obtain rfl:=nN hk.1;refine aP h (λcX=>⟨_,jf, ?_⟩) hn;rw[cM cX.1];exact aJ (.int _ _);exact aP h (λ_=>⟨_,jf,aJ (.int _ _)⟩) hn;cases h;rename_i pI lG;split at h;rename_i s;obtain rfl:=fP hd;exact aP h (λ_=>⟨_,by simp[convert,run_underlying pI,run_underlying lG],aJ (.ag _)⟩) hn;cases h;rename_i e pI lG;split at h;rename_i hk
 have he:P.underlying e=some (.int .u8):=by
  unfold kindOf at hk;split at hk<;>first|(cases hk;assumption)|cases hk
 split at h;rename_i id off n;simp only[RM.eval]at h;split at h;rename_i m ws e' ho;unfold ak aO at hd;obtain⟨_,b,a,cap,hb,rfl,ha,_⟩:=hd;refine aP h (λcX=>⟨_, ?_,aJ (.ag _)⟩) hn;have hnm:off+n<=m:=cX.1;have⟨hl,hc⟩:=zh hs ho hb hnm;have:=kU (P:=P) (w:=w) (zs:=(ws.drop off).take n) (a:=a) (cap:=cap) (λh0=>⟨b,off,ha (by omega),λj hj=>hc j (by omega)⟩);rw[hl]at this;simp[convert,run_underlying pI,run_underlying lG,run_underlying he,this];cases h;have⟨c,idy,h1,h2⟩:=vX h hs hd;split at h1;rename_i zs;refine aP h1 (λ_=>⟨.string (aW zs), ?_,aJ (.ag _)⟩) hn;obtain⟨a,cap,us,rfl,_⟩:=id h2;simp[convert,run_underlying pI,run_underlying lG,run_underlying he,rf h2];cases h1;cases h;cases h
end
def cK:List (Nat×au)->Nat->Option au
 |[],_=>none
 |(id,o)::us,j=>match cK us j with
  |some x=>some x
  |none=>if j=id then some o else none
def di(H:aV)(up:List (Nat×au))(base:Nat)(new:List au):aV:=λj=>
 match cK up j with
 |some o=>some o
 |none=>if base<=j/\j<base+new.length then new[j - base]? else H j
section
variable{ρ aQ:Nat->Value}{H H':aV}{G O O':Nat->Prop}{w w':World}{P:Program}
theorem mh(base:Nat):di H [] base []=H:=by
 funext j;simp only[di,cK,length_nil,add_zero];rw[if_neg (by omega)]
theorem gl(id:Nat)(o:au)(base:Nat):di H [(id,o)] base []=aF H id o:=by
 funext j;simp only[di,cK,aF,length_nil,add_zero];by_cases h:j=id;simp[h];simp only[h,if_false];rw[if_neg (by omega)]
theorem jG(base:Nat)(o:au):di H [] base [o]=aF H base o:=by
 funext j;simp only[di,cK,aF,List.length_singleton];by_cases h:j=base;subst h;simp;rw[if_neg (by omega)];simp[h]
theorem aiF(id base:Nat)(x o:au)(h:id≠base):di H [(id,x)] base [o]=aF (aF H id x) base o:=by
 funext j;simp only[di,cK,aF,List.length_singleton];by_cases h1:j=id;subst h1;simp[h];by_cases h2:j=base;subst h2;simp[h1];simp only[h1,h2,if_false];rw[if_neg (by omega)]
theorem cZ:ak ρ H O w (.bD []) undef:=by
 unfold ak;exact⟨[],rfl,bo.2 rfl⟩
theorem kV{id:Nat}{o o':au}(ho:H id=some o)(ha:o.alive=true){b:Nat}(hb:fp (ρ id)=some b)
 (sV:∀c' e',o'=.aq c' e'->∃c e,o=.aq c e/\c'.n=c.n/\c'.size=c.size) (sW:Obj):
 Step ρ H (bd ρ H G) w ρ (aF H id o') (bd ρ H G) (World.cV w b sW):=by
 have ew:Own ρ H b:=⟨id,o,ho,ha,hb⟩;refine⟨λ_ _ _=>rfl,λj x hx=> ?_,λc hc=>.inl hc,λc hc hO=>je (λe=>hO (.inl (by subst e;exact ew))),by rw[jE];exact le_refl _⟩;by_cases hj:j=id;subst hj;rw[ho]at hx;cases hx;exact⟨o',by simp[aF],sV⟩;exact⟨x,by simp[aF,hj,hx],λc' e' hc=>⟨c',e',hc,rfl,rfl⟩⟩
theorem Good.vY(hs:Sat ρ H G w){id b:Nat}{aD fy:List AV}{e:TypeId}(ho:H id=some (.ay aD e))(hb:ρ id=.pointer (some ⟨b,0,none⟩))
 {cells fj:List Value} {fr:Nat×Nat} (h1:w.heap[b]? =some (.cells cells.toArray e fr)) (hu:unm fr cells.length) (hl:fj.length=cells.length)
 (hd:aE ρ H (bd ρ H G) w fy fj):
 Good ρ H G w (aF H id (.ay fy e)) (.bD []) undef (World.cV w b (.cells fj.toArray e fr)):=by
 have mR:fp (ρ id)=some b:=by rw[hb];rfl
 have st:=kV (G:=G) (w:=w) (o':=.ay fy e) ho rfl mR (by simp) (.cells fj.toArray e fr);exact Good.write hs ho rfl rfl mR (by simp) ⟨b,fj,fr,hb,fi h1,by rw[hl];exact hu,hd.step st⟩ cZ
theorem lM{t:TypeId}{b off:Nat}{v:Value}{n:Nat}(hs:eh P t=some n)(hl:v.cells.toList.length=n){w':World}
 (h:(storeCells ⟨b,off,none⟩ v.cells.toList 0).run P w=.ok () w'):(Instr.storeAt t (.pointer (some ⟨b,off,none⟩)) v).run P w=.ok () w':=by
 have:v.cells.size=n:=by simpa using hl
 simp[Instr.storeAt,Instr.sureAddr,storeVar,run_sizeOf hs,this,h]
theorem mi{v:Value}(h:v.oneCell'=true):v.cells.toList=[v]:=by
 cases v<;>first|rfl|(simp[Value.oneCell']at h)
theorem lX{α:Type}(l:List α)(i:Nat)(x:α)(h:i<l.length):l.take i++[x]++l.drop (i+1)=l.set i x:=by
 rw[List.set_eq_take_append_cons_drop,if_pos h];simp
theorem gb{c c':a8}{v:Value}(h0:c.n=0)(h1:c'.n=0)(h:bg O w (.ro c) v):bg O w (.ro c') v:=by
 cases h with
 |ro _ a cap us b o h2 h3 h4 h5 h6=>
  have:=bg.ro (O:=O) (w:=w) c' a cap us b o (by omega) h3 (λh=>by omega) (λi j hi hj=>by omega) (λi j hi hj=>by omega);rw[h1]at this;rw[h0];exact this
theorem akq{k:IntKind}{v:SV}{n:Int}{u:Value}(h:akc k v=some n)(hu:bg O w v u):bg O w (.int k n) u:=by
 unfold akc at h;split at h;rw[cond_eq_ite]at h;split at h;rename_i hk;obtain rfl:=bC hk;cases h;exact hu;cases h;rw[cond_eq_ite]at h;split at h;rename_i hk;obtain rfl:=bC hk;cases h;cases hu;exact .int _ _;cases h;cases h
theorem aiG{v:SV}{n:Bool}{u:Value}(h:aeM v=some n)(hu:bg O w v u):bg O w (.bool n) u:=by
 unfold aeM at h;split at h<;>cases h<;>cases hu<;>exact .bool _
theorem akr{v:SV}{n:ByteArray}{u:Value}(h:akd v=some n)(hu:bg O w v u):bg O w (.ag n) u:=by
 unfold akd at h;split at h<;>cases h;exact hu
theorem aiH{k:IntKind}{v:SV}{n:List Int}{u:Value}(h:aeN k v=some n)(hu:bg O w v u):bg O w (.ro (.aw k n)) u:=by
 unfold aeN at h;split at h;rw[cond_eq_ite]at h;split at h;rename_i hk;obtain rfl:=bC hk;cases h;exact hu;cases h;cases h;exact gb (by rfl) (by rfl) hu;cases h
theorem aiI{v:SV}{n:List ByteArray}{u:Value}(h:aeO v=some n)(hu:bg O w v u):bg O w (.ro (.strs n)) u:=by
 unfold aeO at h;split at h<;>cases h;exact hu;exact gb (by rfl) (by rfl) hu
theorem ae5{v:SV}{n:List Bool}{u:Value}(h:aav v=some n)(hu:bg O w v u):bg O w (.ro (.bY n)) u:=by
 unfold aav at h;split at h<;>cases h;exact hu;exact gb (by rfl) (by rfl) hu
theorem aiJ{cs:List CK}{v:SV}{n:List (CL cs)}{u:Value}(h:aeP cs v=some n)(hu:bg O w v u):bg O w (.ro (.az cs n)) u:=by
 unfold aeP at h;split at h;simp only[map_eq_some_iff]at h;have⟨⟨e⟩,_,h2⟩:=h;subst e;rw[y7]at h2;subst h2;exact hu;cases h;exact gb (by rfl) (by rfl) hu;cases h
theorem aiK{c:CK}{x y:c.V}{j:Nat}{v:SV}(h:c.set x j v=some y):c.wide=1/\∀(O:Nat->Prop) (w:World) (u:Value),bg O w v u->∀l,bg O w (c.cell y l) u:=by
 cases c with
 |int k=>exact⟨rfl,λ_ _ _ hu _=>akq h hu⟩
 |bool=>exact⟨rfl,λ_ _ _ hu _=>aiG h hu⟩
 |ag=>exact⟨rfl,λ_ _ _ hu _=>akr h hu⟩
 |aw k=>exact⟨rfl,λ_ _ _ hu _=>aiH h hu⟩
 |strs=>exact⟨rfl,λ_ _ _ hu _=>aiI h hu⟩
 |bY=>exact⟨rfl,λ_ _ _ hu _=>ae5 h hu⟩
 |rows cs=>exact⟨rfl,λ_ _ _ hu _=>aiJ h hu⟩
 |arr k n=>cases h
theorem sX:∀{cs:List CK} {x y:CL cs} {j:Nat} {v:SV},CL.set cs x j v=some y->(∀(O:Nat->Prop) (w:World) (u:Value),bg O w v u->bg O w (CL.cell cs y j) u)/\∀j',j'≠j->CL.cell cs y j'=CL.cell cs x j'
 |[],x,y,j,v,h=>by cases h
 |c::cs,x,y,j,v,h=>by
  simp only[CL.set]at h;rw[cond_eq_ite]at h;split at h;rename_i bA;obtain⟨z,h1,rfl⟩:=map_eq_some_iff.1 h;have⟨h2,h3⟩:=aiK h1;refine⟨λO w u hu=>by simp only[CL.cell,bA,cond_true];exact h3 O w u hu _,λj' kq=> ?_⟩;have h4:j<1:=by rw[h2]at bA;exact le_of_ble_eq_true bA
  simp only[CL.cell,h2,rb (show 1<=j' from by omega),cond_false];rename_i bA;obtain⟨z,h1,rfl⟩:=map_eq_some_iff.1 h;have bA:j.blt c.wide=false:=Bool.eq_false_iff.2 bA
  have hge:c.wide<=j:=by
   rcases lt_or_ge j c.wide with h5|h5;rw[nt h5]at bA;cases bA;exact h5
  have⟨h2,h3⟩:=sX h1;refine⟨λO w u hu=>by simp only[CL.cell,bA,cond_false];exact h2 O w u hu,λj' kq=> ?_⟩;simp only[CL.cell];rcases lt_or_ge j' c.wide with h5|h5;rw[nt h5,cond_true,cond_true];rw[rb h5,cond_false,cond_false];exact h3 _ (by omega)
theorem rh:∀{cs:List CK} {x y:CL cs} {j:Nat} {k:IntKind} {n:Nat} {ws:List Int},CL.setRow cs x j k n ws=some y->
 (∀l,l<n->CL.cell cs y (j+l)=.int k (ws.getD l 0))/\∀j',(j'<j\/j+n<=j')->CL.cell cs y j'=CL.cell cs x j'
 |[],x,y,j,k,n,ws,h=>by cases h
 |c::cs,x,y,j,k,n,ws,h=>by
  simp only[CL.setRow]at h;rw[cond_eq_ite]at h;split at h;rename_i hj;obtain rfl:j=0:=Nat.eq_of_beq_eq_true hj;obtain⟨z,h1,rfl⟩:=map_eq_some_iff.1 h;cases c with
  |arr k' n'=>
   simp only[CK.setRow]at h1;rw[cond_eq_ite]at h1;split at h1;rename_i hk;simp only[and_eq_true]at hk;obtain rfl:=bC hk.1;obtain rfl:=Nat.eq_of_beq_eq_true hk.2;cases h1;refine⟨λl hl=> ?_,λj' kq=> ?_⟩;rw[zero_add];simp only[CL.cell,CK.wide,nt hl,cond_true,CK.cell];simp only[CL.cell,CK.wide,rb (show n<=j' from by omega),cond_false];cases h1
  |_=>cases h1
  rw[cond_eq_ite]at h;split at h;rename_i hle;have hle:=le_of_ble_eq_true hle;obtain⟨z,h1,rfl⟩:=map_eq_some_iff.1 h;have⟨h2,h3⟩:=rh h1;refine⟨λl hl=> ?_,λj' kq=> ?_⟩;simp only[CL.cell,rb (show c.wide<=j+l from by omega),cond_false];rw[show j+l - c.wide=j - c.wide+l from by omega];exact h2 l hl;simp only[CL.cell];rcases lt_or_ge j' c.wide with h5|h5;rw[nt h5,cond_true,cond_true];rw[rb h5,cond_false,cond_false];exact h3 _ (by omega);cases h
theorem ae6{c:a8}{i j:Nat}{k:IntKind}{n:Nat}{ws:List Int}{c':a8}(h:oY c i j k n ws=some c')(hi:i<c.n):
 c'.n=c.n/\c'.size=c.size/\(∀l,l<n->c'.cell i (j+l)=.int k (ws.getD l 0))/\∀i' j',(i'≠i\/j'<j\/j+n<=j')->c'.cell i' j'=c.cell i' j':=by
 cases c<;>simp only[oY,reduceCtorEq]at h;rename_i cs xs;simp only[map_eq_some_iff]at h;obtain⟨y,h1,rfl⟩:=h;simp only[a8.n]at hi;have⟨h2,h3⟩:=rh h1;refine⟨by simp[a8.n],rfl,λl hl=> ?_,λi' j' cX=> ?_⟩;simp only[a8.cell];rw[show(xs.set i y).getD i (CL.d cs)=y from by simp[List.getD,hi]];exact h2 l hl;simp only[a8.cell];by_cases hii:i'=i;subst hii;rw[show(xs.set i' y).getD i' (CL.d cs)=y from by simp[List.getD,hi]];exact h3 j' (by omega);have:i≠i':=λe=>hii e.symm;simp[List.getD,List.getElem?_set_ne this]
theorem aop(c:a8){i j:Nat}{v:SV}{c':a8}(h:sM c i j v=some c'):c'.n=c.n/\c'.size=c.size:=by
 cases c<;>simp only[sM]at h
 case fo=>simp only[Option.some.injEq]at h;subst h;exact⟨rfl,rfl⟩
 case az=>
  simp only[map_eq_some_iff]at h;obtain⟨y,_,rfl⟩:=h;simp[a8.n,a8.size]
 all_goals
  split at h<;>first
   |(simp only[Option.some.injEq]at h;subst h;simp[a8.n,a8.size];done)
   |(rw[cond_eq_ite]at h;split at h<;>first|(simp only[Option.some.injEq]at h;subst h;simp[a8.n,a8.size];done)|cases h)
   |cases h
theorem aaK(c:a8){i j:Nat}{v:SV}{c':a8}(h:sM c i j v=some c')(hi:i<c.n)(hj:j<c.size){u:Value}(hu:bg O w v u):
 bg O w (c'.cell i j) u/\∀i' j',i'<c.n->j'<c.size->(i'≠i\/j'≠j)->c'.cell i' j'=c.cell i' j':=by
 cases c<;>simp only[sM]at h
 case aw k zs=>
  simp only[a8.n,a8.size]at hi hj
  split at h<;>first
   |cases h
   |(rw[cond_eq_ite]at h
     split at h;rename_i hk;obtain rfl:=bC hk;simp only[Option.some.injEq]at h;subst h;cases hu;simp only[a8.cell,a8.n,a8.size];refine⟨by simp[List.getD,hi];exact .int _ _,λi' j' fG kq cX=> ?_⟩;have:i≠i':=by omega
     simp[List.getD,List.getElem?_set_ne this];cases h)
 case strs zs=>
  simp only[a8.n,a8.size]at hi hj;split at h<;>simp only[Option.some.injEq,reduceCtorEq]at h;subst h;cases hu;simp only[a8.cell,a8.n,a8.size];refine⟨by simp[List.getD,hi];exact .ag _,λi' j' fG kq cX=> ?_⟩;have:i≠i':=by omega
  simp[List.getD,List.getElem?_set_ne this]
 case bY zs=>
  simp only[a8.n,a8.size]at hi hj;split at h<;>simp only[Option.some.injEq,reduceCtorEq]at h
  all_goals
   subst h;cases hu;simp only[a8.cell,a8.n,a8.size];refine⟨by simp[List.getD,hi];exact .bool _,λi' j' fG kq cX=> ?_⟩;have:i≠i':=by omega
   simp[List.getD,List.getElem?_set_ne this]
 case az cs xs=>
  simp only[a8.n,a8.size]at hi hj;simp only[map_eq_some_iff]at h;obtain⟨y,h1,rfl⟩:=h;have⟨h2,h3⟩:=sX h1;simp only[a8.cell,a8.n,a8.size];refine⟨by rw[show(xs.set i y).getD i (CL.d cs)=y from by simp[List.getD,hi]];exact h2 O w u hu,λi' j' fG kq cX=> ?_⟩;by_cases hii:i'=i;subst hii;rw[show(xs.set i' y).getD i' (CL.d cs)=y from by simp[List.getD,hi]];exact h3 j' (by omega);have:i≠i':=λe=>hii e.symm;simp[List.getD,List.getElem?_set_ne this]
 case fo s n get=>
  simp only[Option.some.injEq]at h;subst h;simp only[a8.cell];refine⟨by simp[hu],λi' j' _ _ cX=> ?_⟩
  have:(i'==i&&j'==j)=false:=by
   rcases cX with h|h<;>simp[h]
  simp[this]
theorem sY:∀(j7:List AV) (c:a8) {i j:Nat} {c':a8} {vs:List Value},fv c i j j7=some c'->aE ρ H O w j7 vs->i<c.n->j+gA j7<=c.size->
 c'.n=c.n/\c'.size=c.size/\vs.length=gA j7/\(∀l u,vs[l]? =some u->bg O w (c'.cell i (j+l)) u)/\
 ∀i' j',i'<c.n->j'<c.size->(i'≠i\/j'<j\/j+gA j7<=j')->c'.cell i' j'=c.cell i' j'
 |[],c,i,j,c',vs,h,hd,hi,hj=>by
  simp only[fv,Option.some.injEq]at h;subst h;obtain rfl:=aH.1 hd;exact⟨rfl,rfl,rfl,by simp,λ_ _ _ _ _=>rfl⟩
 |a::aS,c,i,j,c',vs,h,hd,hi,hj=>by
  cases a with
  |s v=>
   simp only[fv,bind_eq_some_iff]at h;have⟨c1,h1,h2⟩:=h;obtain⟨cs1,cs2,rfl,hv,hr⟩:=ao.1 hd;unfold aU at hv;obtain⟨u,rfl,hu⟩:=hv;simp only[gA,AV.wide]at hj;have⟨n1,s1⟩:=aop c h1;have⟨g1,g2⟩:=aaK c h1 hi (by omega) hu;have⟨k1,k2,k3,k4,k5⟩:=sY aS c1 h2 hr (by omega) (by omega);refine⟨k1.trans n1,k2.trans s1,by simp[k3,gA,AV.wide];omega,λl x hx=> ?_,λi' j' fG kq cX=> ?_⟩;cases l with
   |zero=>
    simp at hx;subst hx;rw[add_zero,k5 i j (by omega) (by omega) (by omega)];exact g1
   |succ l=>
    have:=k4 l x (by simpa using hx);rw[show j+(l+1)=j+1+l from by omega];exact this
   simp only[gA,AV.wide]at cX;rw[k5 i' j' (by omega) (by omega) (by omega)];exact g2 i' j' fG kq (by omega)
  |aw k n ws=>
   simp only[fv,bind_eq_some_iff]at h;have⟨c1,h1,h2⟩:=h;obtain⟨cs1,cs2,rfl,hv,hr⟩:=ao.1 hd;unfold aU at hv;obtain⟨hl,rfl⟩:=hv;simp only[gA,AV.wide]at hj;have⟨n1,s1,g1,g2⟩:=ae6 h1 hi;have⟨k1,k2,k3,k4,k5⟩:=sY aS c1 h2 hr (by omega) (by omega);refine⟨k1.trans n1,k2.trans s1,by simp[k3,gA,AV.wide,hl],λl x hx=> ?_,λi' j' fG kq cX=> ?_⟩;rcases lt_or_ge l n with h5|h5;rw[getElem?_append_left (by simp;omega)]at hx;simp only[getElem?_map,map_eq_some_iff]at hx;obtain⟨z,hz,rfl⟩:=hx;rw[k5 i (j+l) (by omega) (by omega) (by omega),g1 l h5,show ws.getD l 0=z from by simp[List.getD,hz]];exact .int _ _;rw[getElem?_append_right (by simp;omega)]at hx;simp only[length_map,hl]at hx;have:=k4 (l - n) x hx;rw[show j+n+(l - n)=j+l from by omega]at this;exact this;simp only[gA,AV.wide]at cX;rw[k5 i' j' (by omega) (by omega) (by omega)];exact g2 i' j' (by omega)
  |_=>simp[fv]at h
theorem zi(cs:List CK):∀(j7:List AV) (xs:List (CL cs)) (i j:Nat),i<xs.length->(nL cs (xs.getD i (CL.d cs)) j j7).map (λy=>a8.az cs (xs.set i y))=fv (.az cs xs) i j j7
 |[],xs,i,j,hi=>by
  simp only[nL,fv,map_some,Option.some.injEq,a8.az.injEq,heq_eq_eq,true_and];have:xs.getD i (CL.d cs)=xs[i]:=by simp[List.getD,hi]
  rw[this,List.set_getElem_self]
 |a::aS,xs,i,j,hi=>by
  have step:∀(y:CL cs) (k:Nat),(nL cs y k aS).map (λy=>a8.az cs (xs.set i y))=fv (.az cs (xs.set i y)) i k aS:=λy k=>by
   rw[<-zi cs aS (xs.set i y) i k (by rw[List.length_set];exact hi)];have:(xs.set i y).getD i (CL.d cs)=y:=by simp[List.getD,hi]
   rw[this];congr 1;funext z;rw[List.set_set]
  cases a with
  |s v=>
   simp only[nL,fv,sM];cases CL.set cs (xs.getD i (CL.d cs)) j v with
   |none=>rfl
   |some y=>exact step y (j+1)
  |aw k n ws=>
   simp only[nL,fv,oY];cases CL.setRow cs (xs.getD i (CL.d cs)) j k n ws with
   |none=>rfl
   |some y=>exact step y (j+n)
  |_=>rfl
theorem aks:∀(j7:List AV) (c:a8) {i j:Nat} {c':a8} {vs:List Value},agw c i j j7=some c'->aE ρ H O w j7 vs->i<c.n->j+gA j7<=c.size->
 c'.n=c.n/\c'.size=c.size/\vs.length=gA j7/\(∀l u,vs[l]? =some u->bg O w (c'.cell i (j+l)) u)/\
 ∀i' j',i'<c.n->j'<c.size->(i'≠i\/j'<j\/j+gA j7<=j')->c'.cell i' j'=c.cell i' j':=by
 intro j7 c i j c' vs h hd hi hj;refine sY j7 c ?_ hd hi hj;cases c with
 |az cs xs=>rw[<-h];exact(zi cs j7 xs i j hi).symm
 |_=>exact h
theorem aaL(l vs:List Value)(o:Nat)(h:o+vs.length<=l.length)(i:Nat):(l.take o++vs++l.drop (o+vs.length))[i]? =if o<=i/\i<o+vs.length then vs[i - o]? else l[i]? :=by
 have hto:(l.take o).length=o:=by simp;omega
 by_cases h1:i<o;rw[if_neg (by omega),append_assoc,getElem?_append_left (by omega),getElem?_take,if_pos h1];by_cases h2:i<o+vs.length;rw[if_pos (by omega),getElem?_append_left (by simp;omega),getElem?_append_right (by omega),hto];rw[if_neg (by omega),getElem?_append_right (by simp;omega),List.getElem?_drop];congr 1;simp;omega
theorem iB{α:Type}(l:List α)(i:Nat)(d:α)(h:i<l.length):l[i]? =some (l.getD i d):=by
 simp[List.getD,getElem?_eq_getElem h]
theorem akt{size i i' j j' f:Nat}(hj:j<size)(kq:j'<size)(h:f+i*size+j=f+i'*size+j'):i=i'/\j=j':=by
 have h1:i*size+j=i'*size+j':=by omega
 have h2:(i*size+j) / size=i:=by rw[Nat.mul_comm,Nat.mul_add_div (by omega),Nat.div_eq_of_lt hj];rfl
 have h3:(i'*size+j') / size=i':=by rw[Nat.mul_comm,Nat.mul_add_div (by omega),Nat.div_eq_of_lt kq];rfl
 have:i=i':=by rw[<-h2,<-h3,h1]
 subst this;exact⟨rfl,by omega⟩
theorem aiL{t:TypeId}{a x:AV}{va vx:Value}{q:b8}(h:(aeQ P t a x).eval H=some q)(hs:Sat ρ H G w)
 (ha:ak ρ H (bd ρ H G) w a va) (hx:ak ρ H (bd ρ H G) w x vx):
 ∃w',(Instr.storeAt t va vx).run P w=.ok () w'/\∀base,Good ρ H G w (di H q.up base q.new) (q.r base) undef w':=by
 unfold aeQ at h;split at h;rename_i sz yn cq qQ;split at h;rename_i id off;unfold ak aO at ha;obtain⟨b,hb,rfl,_⟩:=ha;simp only[RM.eval]at h;split at h;rename_i aD e ho;have⟨cells,fr,h1,h2,h3⟩:=o9 hs ho hb;cases yn;simp only[cond_false]at h;rw[cond_eq_ite]at h;split at h;rename_i hc;simp only[and_eq_true,beq_eq]at hc;obtain⟨hsg,rfl⟩:=hc;split at h;rename_i fy nX;simp only[RM.eval,Option.some.injEq]at h;subst h;have⟨h4,h5⟩:=mW aD off nX h3 hsg hx;have⟨h6,h7⟩:=kT hsg hx;refine⟨_,lM cq (by rw[mi h7];rfl) (cu off _ 0 h1 h2 (by rw[mi h7];simp;omega) (by rw[mi h7];simpa using h7)),λbase=> ?_⟩;simp only[gl,mi h7,add_zero,List.length_singleton];exact Good.vY hs ho hb h1 h2 (by simp;omega) (by rw[lX _ _ _ h4];exact h5);cases h;cases h;simp only[cond_true]at h;split at h;rename_i j7 hby;rw[cond_eq_ite]at h;split at h;rename_i hc;simp only[and_eq_true,beq_eq]at hc;have⟨hw,_⟩:=hc;split at h;rename_i fy aku;simp only[RM.eval,Option.some.injEq]at h;subst h;have h4:=q9 hby hx;have h5:=jD h4;have⟨h6,h7⟩:=vT aku h3 h4;refine⟨_,lM cq (h5.trans hw) (cu off _ 0 h1 h2 (by omega) (vU j7 h4)),λbase=> ?_⟩;simp only[gl,add_zero];exact Good.vY hs ho hb h1 h2 (by simp only[length_append,length_take,length_drop];omega) h7;cases h;cases h;cases h;cases h;rename_i id off n i;unfold ak aO at ha;obtain⟨dv,b,hb,rfl,_⟩:=ha;simp only[RM.eval]at h;split at h;rename_i aD e ho;have⟨cells,fr,h1,h2,h3⟩:=o9 hs ho hb;split at h;rename_i k m ws k' l y aok nT;rw[cond_eq_ite]at h;split at h;rename_i hc;simp only[and_eq_true,not_eq_true',beq_eq]at hc;obtain⟨⟨⟨rfl,hk⟩,rfl⟩,rfl⟩:=hc;obtain rfl:=bC hk;split at h;rename_i fy nX;simp only[RM.eval,Option.some.injEq]at h;subst h;obtain rfl:=cG nT hx;obtain⟨hl,pre,post,rfl,hp⟩:=o8 aD off aok h3;have h4:=nQ aD off aok nX (by simp) h3 hp;have bA:off+i<(pre++ws.map (Value.int k)++post).length:=by simp;omega
 refine⟨_,lM cq rfl (cu (off+i) [.int k y] 0 h1 h2 (by simp;omega) (by simp[Value.oneCell'])),λbase=> ?_⟩;simp only[gl,add_zero,List.length_singleton];refine Good.vY hs ho hb h1 h2 (by rw[lX _ _ _ bA];simp) ?_;rw[lX _ _ _ bA,append_assoc,List.set_append_right _ _ (by omega),List.set_append_left _ _ (by simp;omega),show off+i - pre.length=i from by omega,<-append_assoc];rw[List.map_set]at h4;exact h4;cases h;cases h;cases h;cases h;rename_i id i j;unfold ak aO at ha;have⟨_,o,ho,hv⟩:=ha;simp only[RM.eval]at h;split at h;rename_i c e dP;rw[ho]at dP;cases dP;obtain⟨hi,hj,b,f,n,cap,eW,rfl⟩:=hv c e rfl;split at h;rename_i j7 hby;rw[cond_eq_ite]at h;split at h;rename_i hc;simp only[and_eq_true,beq_eq]at hc;have⟨hw,hle⟩:=hc;have hle:=le_of_ble_eq_true hle;split at h;rename_i c' nX;simp only[RM.eval,Option.some.injEq]at h;subst h;have h4:=q9 hby hx;have⟨k1,k2,k3,k4,k5⟩:=aks j7 c nX h4 hi (by omega);have⟨a,aiw,h5,h6,h7,h8⟩:=hs.obj id _ ho;rw[eW]at h5;cases h5;rcases h8 with rfl|⟨b',o',cells,fr,us,e1,g1,g2,g3,g4⟩;omega;cases e1
 have mR:fp (ρ id)=some b:=by
  rw[eW];simp only[fp];rw[if_neg (by omega)]
 have hmul:i*c.size+c.size<=cap*c.size:=by
  rw[<-Nat.succ_mul];exact Nat.mul_le_mul_right _ (by omega)
 have bK:f+i*c.size+j+vx.cells.toList.length<=cells.length:=by omega
 have st:=kV (G:=G) (w:=w) (o':=.aq c' e) ho rfl mR (λc1 e1 hc1=>by cases hc1;exact⟨c,e,rfl,k1,k2⟩)
  (.cells (cells.take (f+i*c.size+j)++vx.cells.toList++cells.drop (f+i*c.size+j+vx.cells.toList.length)).toArray e fr)
 refine⟨_,lM cq (k3.trans hw) (cu (f+i*c.size+j) _ 0 g1 g2.unm (by omega) (vU j7 h4)),λbase=> ?_⟩;simp only[gl,add_zero];refine Good.write hs ho rfl rfl mR (λc1 e1 hc1=>by cases hc1;exact⟨c,e,rfl,k1,k2⟩) ?_ cZ;refine⟨some ⟨b,f,none⟩,cap,by rw[eW,k1],by omega,h7,.inr ⟨b,f,_,fr,λi' j'=>if i'=i/\j<=j'/\j'<j+gA j7 then(vx.cells.toList.getD (j' - j) undef)else us i' j',rfl,fi g1, ?_, ?_, ?_⟩⟩;exact g2.over (vU j7 h4) bK;simp only[length_append,length_take,length_drop];rw[k2];omega;intro i' j' fG kq;rw[k1]at fG;rw[k2]at kq;rw[k2,aaL _ _ _ bK];dsimp only;by_cases dv:i'=i/\j<=j'/\j'<j+gA j7;obtain⟨rfl,h9,uP⟩:=dv;rw[if_pos ⟨by omega,by omega⟩,if_pos ⟨rfl,h9,uP⟩];have hx1:j' - j<vx.cells.toList.length:=by omega
 refine⟨by rw[show f+i'*c.size+j' - (f+i'*c.size+j)=j' - j from by omega];exact iB _ _ _ hx1, ?_⟩;have:=k4 (j' - j) _ (iB _ _ undef hx1);rw[show j+(j' - j)=j' from by omega]at this;exact this.step st.gy st.heap st.size;rw[if_neg dv]
 have pH:¬(f+i*c.size+j<=f+i'*c.size+j'/\f+i'*c.size+j'<f+i*c.size+j+vx.cells.toList.length):=by
  rintro⟨h9,uP⟩;have hd:f+i*c.size+(f+i'*c.size+j' - (f+i*c.size))=f+i'*c.size+j':=by omega
  have⟨h11,h12⟩:=akt (f:=f) (i:=i) (i':=i') (j:=f+i'*c.size+j' - (f+i*c.size)) (by omega) kq hd;subst h11;exact dv ⟨rfl,by omega,by omega⟩
 rw[if_neg pH,k5 i' j' fG kq (by omega)];have⟨h9,uP⟩:=g4 i' j' fG kq;exact⟨h9,uP.step st.gy st.heap st.size⟩;cases h;cases h;cases h;cases h;cases h;cases h
end
section
variable{ρ aQ:Nat->Value}{H H':aV}{G O O':Nat->Prop}{w w':World}{P:Program}
theorem aaM{v:Value}{x:SV}(h:aoe v=some x):bg O w x v:=by
 unfold aoe at h;split at h<;>simp only[Option.some.injEq,reduceCtorEq]at h<;>subst h;exact .aT _;exact .aZ _ _;exact .ag _;exact .jz;exact .aeF;exact .aeG;exact .aeH
theorem vZ{v:Value}{a:AV}(h:qX v=some a):aU ρ H O w a [v]:=by
 unfold qX at h;split at h;simp only[Option.some.injEq]at h;subst h;unfold aU;exact⟨_,rfl,none,rfl⟩;simp only[map_eq_some_iff]at h;obtain⟨x,h1,rfl⟩:=h;unfold aU;exact⟨v,rfl,aaM h1⟩
theorem nY:∀(vs:List Value) {aS:List AV},qY vs=some aS->aE ρ H O w aS vs
 |[],aS,h=>by simp only[qY,Option.some.injEq]at h;subst h;exact aH.2 rfl
 |v::vs,aS,h=>by
  simp only[qY]at h;split at h;rename_i a dU h1 h2;simp only[Option.some.injEq]at h;subst h;exact ao.2 ⟨[v],vs,rfl,vZ h1,nY vs h2⟩;cases h
theorem nZ(k:IntKind):∀(cs:List Value),nK k cs=true->cs=(replicate cs.length (0:Int)).map (Value.int k)
 |[],_=>rfl
 |v::vs,h=>by
  unfold nK at h;split at h;rename_i hc;cases hc;rename_i k' vs' hc;cases hc;simp only[and_eq_true]at h;obtain rfl:=bC h.1;have:=nZ k vs h.2;simp only[length_cons,List.replicate_succ,map_cons,List.cons.injEq,true_and];exact this;cases h
theorem acb(P:Program)(d:Nat)(ih:∀t cs aD,ix P d t cs=some aD->aE ρ H O w aD cs):∀(fs:List Field) (s0 s1:List AV) (r0 r1:List Value),
 fs.foldl (λacc f=>match acc,eh P f.type with
  |some (aD,rest),some n=>(ix P d f.type (rest.take n)).map λs=>(aD++s,rest.drop n)
  |_,_=>none) (some (s0,r0))=some (s1,r1)->∃s' c,s1=s0++s'/\r0=c++r1/\aE ρ H O w s' c
 |[],s0,s1,r0,r1,h=>by
  simp only[List.foldl_nil,Option.some.injEq,Prod.mk.injEq]at h;obtain⟨rfl,rfl⟩:=h;exact⟨[],[],by simp,rfl,aH.2 rfl⟩
 |f::fs,s0,s1,r0,r1,h=>by
  simp only[List.foldl_cons]at h
  have ka:∀(fs:List Field),fs.foldl (λ(acc:Option (List AV×List Value)) f=>match acc,eh P f.type with
   |some (aD,rest),some n=>(ix P d f.type (rest.take n)).map λs=>(aD++s,rest.drop n)
   |_,_=>none) none=none:=by
   intro fs
   induction fs with
   |nil=>rfl
   |cons f fs ih=>simp only[List.foldl_cons];exact ih
  cases cq:eh P f.type with
  |none=>rw[cq]at h;simp only[ka]at h;cases h
  |some n=>
   rw[cq]at h;simp only[]at h;cases hz:ix P d f.type (r0.take n)with
   |none=>rw[hz]at h;simp only[Option.map_none,ka]at h;cases h
   |some s=>
    rw[hz]at h;simp only[map_some]at h;obtain⟨s',c,rfl,h1,h2⟩:=acb P d ih fs _ _ _ _ h;refine⟨s++s',r0.take n++c,by simp, ?_,fW.2 ⟨_,_,rfl,ih _ _ _ hz,h2⟩⟩;rw[append_assoc,<-h1,List.take_append_drop]
theorem ui(P:Program):∀(d:Nat) (t:TypeId) (cs:List Value) (aD:List AV),ix P d t cs=some aD->aE ρ H O w aD cs
 |0,t,cs,aD,h=>by simp[ix]at h
 |d+1,t,cs,aD,h=>by
  simp only[ix]at h;split at h;simp only[bind_eq_some_iff]at h;have⟨⟨s,rest⟩,h1,h2⟩:=h;obtain⟨s',c,rfl,rfl,h3⟩:=acb P d (ui P d) _ _ _ _ _ h1;simp only[]at h2;split at h2;simp only[Option.some.injEq]at h2;subst h2;simpa using h3;cases h2;split at h;rename_i k hk;rw[cond_eq_ite]at h;split at h;rename_i hc;simp only[and_eq_true,beq_iff_eq]at hc;obtain⟨hz,rfl⟩:=hc;simp only[Option.some.injEq]at h;subst h;exact ao.2 ⟨cs,[],by simp,dt.2 ⟨by simp,nZ k cs hz⟩,aH.2 rfl⟩;exact nY cs h;exact nY cs h;exact nY cs h
theorem acd(aD:List AV):(AV.lW aD).jZ=some aD:=by
 unfold AV.lW;split<;>rfl
theorem pb{t:TypeId}{aD:List AV}(h:(zeroOf P t).bind AV.jZ =some aD):∃i v,P.info? t=some i/\i.zero=some v/\aE ρ H O w aD v.cells.toList:=by
 simp only[bind_eq_some_iff]at h;have⟨z,h1,h2⟩:=h;unfold zeroOf at h1;split at h1;rename_i cs hz ha;simp only[bind_eq_some_iff]at hz;have⟨i,hi,hz⟩:=hz;simp only[map_eq_some_iff]at h1;obtain⟨ss,h3,rfl⟩:=h1;rw[acd]at h2;simp only[Option.some.injEq]at h2;subst h2;exact⟨i,_,hi,hz,by simpa[Value.cells]using ui P 20 t _ _ h3⟩;skip;rename_i v hz ha;simp only[bind_eq_some_iff]at hz;have⟨i,hi,hz⟩:=hz;refine⟨i,v,hi,hz, ?_⟩;have hc:=vZ (ρ:=ρ) (H:=H) (O:=O) (w:=w) h1
 have hv:v.oneCell'=true/\z.jZ =some [z]:=by
  unfold qX at h1;split at h1;simp only[Option.some.injEq]at h1;subst h1;exact⟨rfl,rfl⟩;simp only[map_eq_some_iff]at h1;obtain⟨x,h3,rfl⟩:=h1;refine⟨(aaM (O:=O) (w:=w) h3).one, ?_⟩;unfold aoe at h3;split at h3<;>simp only[Option.some.injEq,reduceCtorEq]at h3<;>subst h3<;>rfl
 rw[hv.2]at h2;simp only[Option.some.injEq]at h2;subst h2;rw[mi hv.1];exact ao.2 ⟨[v],[],rfl,hc,aH.2 rfl⟩;cases h1
theorem zj(hs:Sat ρ H G w){n:Nat}(hn:H n=none){aD:List AV}{e:TypeId}{cells:List Value}(hd:aE ρ H (bd ρ H G) w aD cells):
 Good ρ H G w (aF H n (.ay aD e)) (.an n 0) (.pointer (some ⟨w.heap.size,0,none⟩)) (w.alloc (.cells cells.toArray e)):=by
 have st:Step ρ H (bd ρ H G) w (λj=>if j=n then .pointer (some ⟨w.heap.size,0,none⟩)else ρ j) (aF H n (.ay aD e)) (bd (λj=>if j=n then .pointer (some ⟨w.heap.size,0,none⟩)else ρ j) (aF H n (.ay aD e)) G) (w.alloc (.cells cells.toArray e)):=by
  have ne:∀j x,H j=some x->j≠n:=λj x hx e=>by subst e;rw[hn]at hx;cases hx
  refine⟨λj x hx=>by simp[ne j x hx],λj x hx=>⟨x,by simp[aF,ne j x hx,hx],λc' e' hc=>⟨c',e',hc,rfl,rfl⟩⟩,λb hb=> ?_,λb hb _=>alloc_old hb,by rw[ga];omega⟩;rcases hb with⟨j,x,hx,h1,h2⟩|hb;by_cases hj:j=n;subst hj;simp only[if_true,fp,Option.some.injEq]at h2;exact .inr (by omega);simp only[aF,hj,if_false]at hx h2;exact .inl (.inl ⟨j,x,hx,h1,h2⟩);exact .inl (.inr hb)
 refine Good.fresh (aa:=.pointer (some ⟨w.heap.size,0,none⟩)) hs hn rfl rfl rfl rfl (λb hb=>by simpa[fp]using hb.symm) ?_ ?_;exact⟨w.heap.size,cells,(0,0),rfl,kH,λoff _ h=>by omega,hd.step st⟩;unfold ak aO;exact⟨w.heap.size,by simp,rfl,by simp[aF]⟩
theorem ae7(hs:Sat ρ H G w){n:Nat}(hn:H n=none){k:Nat}(hk:1<=k)(ri:k<=maxLen){e:TypeId}:
 Good ρ H G w (aF H n (.aq (.strs (replicate k empty)) e)) (.gU n 0 0) (.pointer (some ⟨w.heap.size,0,none⟩)) (w.alloc (.cells (replicate k (Value.string empty)).toArray e)):=by
 have rj:∀b,fp (.slice (some ⟨w.heap.size,0,none⟩) k k)=some b->b=w.heap.size:=by
  intro b hb;simp only[fp]at hb;split at hb;cases hb;simpa using hb.symm
 refine Good.fresh (aa:=.slice (some ⟨w.heap.size,0,none⟩) k k) hs hn rfl rfl rfl rfl rj ?_ ?_;refine⟨some ⟨w.heap.size,0,none⟩,k,by simp[a8.n],by simp[a8.n],ri,.inr ⟨w.heap.size,0,replicate k (Value.string empty),(0,0),λ_ _=>.string empty,rfl,kH,⟨λoff _ h=>by omega,λu hu=> ?_⟩,by simp[a8.size],λi j hi hj=> ?_⟩⟩;rw[(List.mem_replicate.1 hu).2];rfl;simp only[a8.n,List.length_replicate]at hi;simp only[a8.size]at hj ⊢;obtain rfl:j=0:=by omega
 refine⟨by simp[hi], ?_⟩;simp only[a8.cell];rw[show(replicate k empty).getD i empty=empty from by simp[List.getD,hi]];exact bg.ag _;unfold ak aO
 exact⟨rfl,.aq (.strs (replicate k empty)) e,by simp[aF],λc' e' hc=>by
  cases hc;exact⟨by simp[a8.n];omega,by simp[a8.size],w.heap.size,0,k,k,by simp,by simp[a8.size]⟩⟩
theorem ae8{t:TypeId}{n:Nat}(h:aaw P t=some n):1<=n/\n<=4096/\∃i v,P.info? t=some i/\i.zero=some v/\v.cells=(replicate n (Value.string empty)).toArray:=by
 unfold aaw at h;split at h;rename_i m e i _ hi;split at h;rename_i z _ hz;rw[cond_eq_ite]at h;split at h;rename_i hc;simp only[Option.some.injEq]at h;subst h;simp only[and_eq_true,beq_eq]at hc;have⟨⟨⟨c1,c2⟩,c3⟩,c4⟩:=hc;have c1:=le_of_ble_eq_true c1;refine⟨by omega,le_of_ble_eq_true c2,i,z,hi,hz, ?_⟩;rw[all_eq_true]at c4
 have:z.cells.toList=replicate m (Value.string empty):=List.eq_replicate_iff.2 ⟨by rw[length_toList];exact c3,λb hb=>by
  have:=c4 b hb;split at this;rename_i s;have h0:s.size=0:=by simpa using this
  have:s=empty:=ByteArray.ext (Array.eq_empty_of_size_eq_zero h0);rw[this];cases this⟩
 rw[<-this];cases h;cases h;cases h
theorem aiM{t:TypeId}{q:b8}(h:(aeT P t).eval H=some q)(hs:Sat ρ H G w){base:Nat}(hb:∀i,i<q.new.length->H (base+i)=none)(old:Value):
 ∃v w',(Instr.alloc t true old).run P w=.ok v w'/\Good ρ H G w (di H q.up base q.new) (q.r base) v w':=by
 unfold aeT at h;split at h;rename_i n hz;simp only[RM.eval,Option.some.injEq]at h;subst h;have⟨h1,h2,i,v,hi,hv,hc⟩:=ae8 hz;have hn:H base=none:=by simpa using hb 0 (by simp)
 refine⟨.pointer (some ⟨w.heap.size,0,none⟩),w.alloc (.cells v.cells t), ?_, ?_⟩;simp[Instr.alloc,zeroValue,typeInfo,hi,hv,newVar,newRow];try rfl
 simp only[jG];have:=ae7 hs hn h1 (by unfold maxLen;omega) (e:=t);rw[hc];simpa using this;split at h;rename_i aD hz;simp only[RM.eval,Option.some.injEq]at h;subst h;have⟨i,v,hi,hv,hd⟩:=pb (ρ:=ρ) (H:=H) (O:=bd ρ H G) (w:=w) hz;have hn:H base=none:=by simpa using hb 0 (by simp)
 refine⟨.pointer (some ⟨w.heap.size,0,none⟩),w.alloc (.cells v.cells t), ?_, ?_⟩;simp[Instr.alloc,zeroValue,typeInfo,hi,hv,newVar,newRow];try rfl
 simp only[jG];have:=zj hs hn (e:=t) hd;simpa using this;cases h
theorem aoq{t:TypeId}{x:AV}{vx:Value}{q:b8}(h:(ase t x).eval H=some q)(hs:Sat ρ H G w)(hd:ak ρ H (bd ρ H G) w x vx){base:Nat}(hb:∀i,i<q.new.length->H (base+i)=none):
 ∃v w',(Instr.box t vx).run P w=.ok v w'/\Good ρ H G w (di H q.up base q.new) (q.r base) v w':=by
 unfold ase at h;split at h;rename_i aD hz;simp only[RM.eval,Option.some.injEq]at h;subst h;have hn:H base=none:=by simpa using hb 0 (by simp)
 refine⟨.pointer (some ⟨w.heap.size,0,none⟩),w.alloc (.cells vx.cells t), ?_, ?_⟩;simp[Instr.box,newVar,newRow];try rfl
 simp only[jG];have:=zj hs hn (e:=t) (q9 hz hd);simpa using this;cases h
end
section
variable{ρ aQ:Nat->Value}{H H':aV}{G O O':Nat->Prop}{w w':World}{P:Program}
theorem zk(off:Nat):∀(vs:List Value) (k:Nat) (cells:Array Value),off+k+vs.length<=cells.size->
 ((vs.zipIdx k).foldl (λ(cs:Array Value) (x:Value×Nat)=>cs.setIfInBounds (off+x.2) x.1) cells).toList=cells.toList.take (off+k)++vs++cells.toList.drop (off+k+vs.length)
 |[],k,cells,_=>by simp
 |v::vs,k,cells,h=>by
  simp only[length_cons]at h;simp only[List.zipIdx_cons,List.foldl_cons];rw[zk off vs (k+1) _ (by simp;omega)];have bA:off+k<cells.toList.length:=by simp;omega
  simp only[Array.toList_setIfInBounds];rw[<-add_assoc,List.take_set,List.drop_set_of_lt (by omega)]
  have e1:(cells.toList.take (off+k+1)).set (off+k) v=cells.toList.take (off+k)++[v]:=by
   rw[List.take_succ_eq_append_getElem bA];rw[List.set_append_right _ _ (by simp;omega)];simp at bA;simp[Nat.min_eq_left (Nat.le_of_lt bA)]
  rw[e1];simp only[append_assoc,length_cons,cons_append,nil_append];rw[show off+k+1+vs.length=off+k+(vs.length+1)from by omega]
theorem u5{place:Nat->Option (Nat×Nat)}{ev:Operand->AV}{e:Operand->Value}:∀(l:List (Nat×Operand)) (aD ss:List AV) (cells:Array Value),(∀p∈l,ak ρ H O w (ev p.2) (e p.2))->
 qh place aD (l.map λp=>(p.1,ev p.2))=some ss->aE ρ H O w aD cells.toList->
 ∃fj,Instr.fill place cells (l.map λp=>(p.1,e p.2))=some fj/\aE ρ H O w ss fj.toList
 |[],aD,ss,cells,_,h,hd=>by
  simp only[map_nil,qh,Option.some.injEq]at h;subst h;exact⟨cells,rfl,hd⟩
 |(i,x)::l,aD,ss,cells,hp,h,hd=>by
  simp only[map_cons,qh]at h;split at h;rename_i off size j7 hpl hby;rw[cond_eq_ite]at h;split at h;rename_i hc;simp only[and_eq_true,beq_eq]at hc;simp only[bind_eq_some_iff]at h;have⟨s1,h1,h2⟩:=h;have hx:=q9 hby (hp (i,x) (by simp));have bK:=jD hx;have⟨h3,h4⟩:=vT h1 hd hx;simp only[length_toList]at bK h3
  have⟨fj,h5,h6⟩:=u5 l s1 ss ((e x).cells.zipIdx.foldl (λcs (c,j)=>cs.setIfInBounds (off+j) c) cells) (λp hp'=>hp p (by simp[hp'])) h2 (by
   rw[<-Array.foldl_toList,Array.toList_zipIdx];have:=zk off (e x).cells.toList 0 cells (by simpa using h3);simp only[add_zero]at this;rw[this];exact h4)
  refine⟨fj, ?_,h6⟩;simp only[map_cons,Instr.fill,hpl];rw[if_neg (by simp;omega)];exact h5;cases h;cases h
theorem uj(P:Program)(w:World):∀(fs:List Field),fs.all (λf=>(eh P f.type).isSome)=true->
 (fs.mapM (m:=Sem) λf=>do pure (f.offset,<-sizeOf f.type)).run P w=.ok (fs.map λf=>(f.offset,(eh P f.type).getD 0)) w
 |[],_=>by simp
 |f::fs,h=>by
  simp only[all_cons,and_eq_true]at h;have⟨n,hn⟩:=isSome_iff_exists.1 h.1;have ih:=uj P w fs h.2;simp only[List.mapM_cons,Sem.run_bind,run_sizeOf hn,andThen_ok,Sem.run_pure,ih,map_cons,hn,getD_some]
theorem aiN{t:TypeId}{ps:Array (Nat×Operand)}{ev:Operand->AV}{e:Operand->Value}{q:b8}(h:(aeU P t (ps.toList.map λp=>(p.1,ev p.2))).eval H=some q)(hn:bT q.ab)
 (hp:∀p∈ps,ak ρ H O w (ev p.2) (e p.2)):fI P ρ H O w q (Instr.build t (ps.map λ(i,x)=>(i,e x))):=by
 have hp':∀p∈ps.toList,ak ρ H O w (ev p.2) (e p.2):=λp hm=>hp p (Array.mem_toList_iff.1 hm);unfold aeU at h;split at h;rename_i aD fs hz ht;have⟨i,v,hi,hv,hd⟩:=pb (ρ:=ρ) (H:=H) (O:=O) (w:=w) hz;rw[cond_eq_ite]at h;split at h;rename_i aaN;split at h;rename_i ss hss
 have hm:(fs.mapM (m:=Sem) λf=>do pure (f.offset,<-sizeOf f.type)).run P w=.ok (fs.toList.map λf=>(f.offset,(eh P f.type).getD 0)).toArray w:=by
  rw[Array.mapM_eq_mapM_toList];simp only[Sem.run_map,uj P w fs.toList aaN,andThen_ok]
 have asr:(λi=>((fs.toList.map λ(f:Field)=>(f.offset,(eh P f.type).getD 0)).toArray)[i]?)=(λ(i:Nat)=>(fs[i]?).bind λ(f:Field)=>(eh P f.type).map λn=>(f.offset,n)):=by
  funext i;simp only[List.getElem?_toArray,getElem?_map,Array.getElem?_toList];cases hf:fs[i]? with
  |none=>rfl
  |some f=>
   have kr:f∈fs.toList:=Array.mem_toList_iff.2 (Array.mem_of_getElem? hf);have⟨n,hn⟩:=isSome_iff_exists.1 (all_eq_true.1 aaN f kr);simp[hn]
 have⟨fj,h1,h2⟩:=u5 ps.toList aD ss v.cells hp' hss hd;refine aP h (λ_=>⟨.agg fj, ?_,by simpa using mc h2⟩) hn;rw[<-asr]at h1;simp only[Instr.build,zeroValue,typeInfo,Sem.run_bind,run_program,andThen_ok,hi,Sem.run_pure,hv,run_underlying ht,hm];simp only[Array.toList_map];erw [h1];rfl;cases h;cases h;rename_i aD n el hz ht;have⟨i,v,hi,hv,hd⟩:=pb (ρ:=ρ) (H:=H) (O:=O) (w:=w) hz;split at h;rename_i sz cq;split at h;rename_i ss hss;have⟨fj,h1,h2⟩:=u5 ps.toList aD ss v.cells hp' hss hd;refine aP h (λ_=>⟨.agg fj, ?_,by simpa using mc h2⟩) hn;simp only[Instr.build,zeroValue,typeInfo,Sem.run_bind,run_program,andThen_ok,hi,Sem.run_pure,hv,run_underlying ht,run_sizeOf cq];simp only[Array.toList_map];erw [h1];rfl;cases h;cases h;cases h
end
section
variable{ρ aQ:Nat->Value}{H H':aV}{G O O':Nat->Prop}{w w':World}{P:Program}
def Pts(O:Nat->Prop)(w:World)(l:List SV)(cs:List Value):Prop:=l.length=cs.length/\∀(i:Nat) (v:SV),l[i]? =some v->∃u,cs[i]? =some u/\bg O w v u
theorem aor:Pts O w [] ([]:List Value):=⟨rfl,by simp⟩
theorem v7{v:SV}{l:List SV}{cs:List Value}(h:Pts O w (v::l) cs):∃u j8,cs=u::j8/\bg O w v u/\Pts O w l j8:=by
 have⟨h1,h2⟩:=h;cases cs with
 |nil=>simp at h1
 |cons u j8=>
  have⟨u',h3,h4⟩:=h2 0 v rfl;simp at h3;subst h3;exact⟨_,_,rfl,h4,by simpa using h1,λi x hx=>by simpa using h2 (i+1) x (by simpa using hx)⟩
theorem akv{v:SV}{l:List SV}{u:Value}{cs:List Value}(h1:bg O w v u)(h2:Pts O w l cs):Pts O w (v::l) (u::cs):=
 ⟨by simp[h2.1],λi x hx=>by
   cases i with
   |zero=>simp at hx;subst hx;exact⟨u,rfl,h1⟩
   |succ i=>simpa using h2.2 i x (by simpa using hx)⟩
theorem ae9:∀(aS:List AV) {l:List SV} {cs:List Value},svs aS=some l->aE ρ H O w aS cs->Pts O w l cs
 |[],l,cs,h,hd=>by
  simp only[svs,Option.some.injEq]at h;subst h;obtain rfl:=aH.1 hd;exact aor
 |a::aS,l,cs,h,hd=>by
  obtain⟨c1,c2,rfl,h1,h2⟩:=ao.1 hd;rcases sU a with⟨k,n,ws,rfl⟩|ha;simp[svs]at h
  have hs:svs (a::aS)=match a.sv?,svs aS with|some v,some vs=>some (v::vs)|_,_=>none:=by
   cases a<;>first|rfl|(exact(ha _ _ _ rfl).elim)
  rw[hs]at h;split at h;rename_i v vs hv hvs;simp only[Option.some.injEq]at h;subst h;cases a with
  |s x=>
   unfold aU at h1;obtain⟨u,rfl,hu⟩:=h1;have:x=v:=by cases x<;>simp only[AV.sv?,Option.some.injEq,reduceCtorEq]at hv<;>exact hv
   subst this;exact akv hu (ae9 aS hvs h2)
  |emp=>
   unfold aU at h1;obtain⟨u,rfl,x,rfl⟩:=h1;simp only[AV.sv?,Option.some.injEq]at hv;subst hv;exact akv (.ro (.fo 1 0 λ_ _=>.bk) x 0 (λ_ _=>undef) 0 0 (le_refl _) (by simp[maxLen]) (by simp[a8.n]) (by simp[a8.n]) (by simp[a8.n])) (ae9 aS hvs h2)
  |_=>simp[AV.sv?]at hv
  cases h
theorem zl(k:IntKind):∀(l:List SV) {zs:List Int} {cs:List Value},qi k l=some zs->Pts O w l cs->zs.length=cs.length/\∀i,i<zs.length->∃u,cs[i]? =some u/\bg O w (.int k (zs.getD i 0)) u
 |[],zs,cs,h,hp=>by
  simp only[qi,Option.some.injEq]at h;subst h;exact⟨hp.1,by simp⟩
 |v::l,zs,cs,h,hp=>by
  obtain⟨u,j8,rfl,hu,hp'⟩:=v7 hp
  have ad:∀k' n,bg O w (.int k' n) u->(bif cp k k' then(qi k l).map (n:: ·)else none)=some zs->zs.length=(u::j8).length/\∀i,i<zs.length->∃x,(u::j8)[i]? =some x/\bg O w (.int k (zs.getD i 0)) x:=by
   intro k' n hd h;rw[cond_eq_ite]at h;split at h;rename_i hk;obtain rfl:=bC hk;simp only[map_eq_some_iff]at h;obtain⟨zs',h1,rfl⟩:=h;have⟨h2,h3⟩:=zl k l h1 hp';refine⟨by simp[h2],λi hi=> ?_⟩;cases i with
   |zero=>exact⟨u,rfl,by simpa using hd⟩
   |succ i=>simpa using h3 i (by simpa using hi)
   cases h
  cases v<;>simp only[qi,reduceCtorEq]at h
  case int k' n=>exact ad k' n hu h
  case aZ k' n=>cases hu;exact ad k' n (.int _ _) h
theorem zm:∀(l:List SV) {zs:List ByteArray} {cs:List Value},sN l=some zs->Pts O w l cs->zs.length=cs.length/\∀i,i<zs.length->∃u,cs[i]? =some u/\bg O w (.ag (zs.getD i empty)) u
 |[],zs,cs,h,hp=>by
  simp only[sN,Option.some.injEq]at h;subst h;exact⟨hp.1,by simp⟩
 |v::l,zs,cs,h,hp=>by
  obtain⟨u,j8,rfl,hu,hp'⟩:=v7 hp;cases v<;>simp only[sN,reduceCtorEq]at h;simp only[map_eq_some_iff]at h;obtain⟨zs',h1,rfl⟩:=h;have⟨h2,h3⟩:=zm l h1 hp';refine⟨by simp[h2],λi hi=> ?_⟩;cases i with
  |zero=>exact⟨u,rfl,by simpa using hu⟩
  |succ i=>simpa using h3 i (by simpa using hi)
theorem qp:∀(l:List SV) {zs:List Bool} {cs:List Value},oZ l=some zs->Pts O w l cs->zs.length=cs.length/\∀i,i<zs.length->∃u,cs[i]? =some u/\bg O w (.bool (zs.getD i false)) u
 |[],zs,cs,h,hp=>by
  simp only[oZ,Option.some.injEq]at h;subst h;exact⟨hp.1,by simp⟩
 |v::l,zs,cs,h,hp=>by
  obtain⟨u,j8,rfl,hu,hp'⟩:=v7 hp;cases v<;>simp only[oZ,reduceCtorEq]at h
  case bool b=>
   simp only[map_eq_some_iff]at h;obtain⟨zs',h1,rfl⟩:=h;have⟨h2,h3⟩:=qp l h1 hp';refine⟨by simp[h2],λi hi=> ?_⟩;cases i with
   |zero=>exact⟨u,rfl,by simpa using hu⟩
   |succ i=>simpa using h3 i (by simpa using hi)
  case aT b=>
   simp only[map_eq_some_iff]at h;obtain⟨zs',h1,rfl⟩:=h;have⟨h2,h3⟩:=qp l h1 hp';refine⟨by simp[h2],λi hi=> ?_⟩;cases i with
   |zero=>cases hu;exact⟨_,rfl,by simpa using bg.bool _⟩
   |succ i=>simpa using h3 i (by simpa using hi)
theorem aiO{cs:List CK}{f:Nat->SV}{x:CL cs}(h:CL.ofs cs f=some x):∀j,j<CL.wide cs->∀(O:Nat->Prop) (w:World) (u:Value),bg O w (f j) u->bg O w (CL.cell cs x j) u:=by
 unfold CL.ofs at h;generalize CL.wide cs=m at h
 induction m generalizing x with
 |zero=>intro j hj;omega
 |succ m ih=>
  rw[List.range_succ,List.foldl_append]at h;simp only[List.foldl_cons,List.foldl_nil,bind_eq_some_iff]at h;have⟨y,h1,h2⟩:=h;have⟨h3,h4⟩:=sX h2;intro j hj O w u hu;by_cases hjm:j=m;subst hjm;exact h3 O w u hu;rw[h4 j hjm];exact ih h1 j (by omega) O w u hu
theorem ace{cs:List CK}{size:Nat}{cells:List SV}:∀{n i:Nat} {xs:List (CL cs)},y9 cs size cells i n=some xs->xs.length=n/\∀k,k<n->∀j,j<CL.wide cs->∀(O:Nat->Prop) (w:World) (u:Value),
 bg O w (cells.getD ((i+k)*size+j) .bk) u->bg O w (CL.cell cs (xs.getD k (CL.d cs)) j) u
 |0,i,xs,h=>by
  simp only[y9,Option.some.injEq]at h;subst h;exact⟨rfl,λk hk=>by omega⟩
 |n+1,i,xs,h=>by
  simp only[y9]at h;split at h;rename_i x ys h1 h2;simp only[Option.some.injEq]at h;subst h;have⟨h3,h4⟩:=ace h2;refine⟨by simp[h3],λk hk j hj O w u hu=> ?_⟩;cases k with
  |zero=>exact aiO h1 j hj O w u (by simpa using hu)
  |succ k=>
   have:=h4 k (by omega) j hj O w u (by rw[show i+1+k=i+(k+1)from by omega];exact hu);simpa using this
  cases h
theorem akw{sh:Shape}{size n:Nat}{l:List SV}{cs:List Value}(hp:Pts O w l cs)(hl:l.length=n*size)(hn:(ue sh size n l).n=n)(hs:(ue sh size n l).size=size):
 ∀i j,i<n->j<size->∃u,cs[i*size+j]? =some u/\bg O w ((ue sh size n l).cell i j) u:=by
 have hd:∀i j,i<n->j<size->∃u,cs[i*size+j]? =some u/\bg O w ((a8.fo size n λi j=>l.getD (i*size+j) .bk).cell i j) u:=by
  intro i j hi hj
  have bA:i*size+j<l.length:=by
   rw[hl];have:(i+1)*size<=n*size:=Nat.mul_le_mul_right _ (by omega);rw[Nat.succ_mul]at this;omega
  have⟨u,h1,h2⟩:=hp.2 (i*size+j) l[i*size+j] (by simp[bA]);refine⟨u,h1, ?_⟩;simp only[a8.cell,List.getD,getElem?_eq_getElem bA,getD_some];exact h2
 unfold ue at hn hs ⊢;cases sh with
 |aw k=>
  cases hx:qi k l with
  |none=>simp only[hx,Option.elim]at hn hs ⊢;exact hd
  |some zs=>
   simp only[hx,Option.elim,a8.n,a8.size]at hn hs ⊢;subst hs;intro i j hi hj;obtain rfl:j=0:=by omega
   have⟨h1,h2⟩:=zl k l hx hp;simpa[a8.cell]using h2 i (by omega)
 |strs=>
  cases hx:sN l with
  |none=>simp only[hx,Option.elim]at hn hs ⊢;exact hd
  |some zs=>
   simp only[hx,Option.elim,a8.n,a8.size]at hn hs ⊢;subst hs;intro i j hi hj;obtain rfl:j=0:=by omega
   have⟨h1,h2⟩:=zm l hx hp;simpa[a8.cell]using h2 i (by omega)
 |bY=>
  cases hx:oZ l with
  |none=>simp only[hx,Option.elim]at hn hs ⊢;exact hd
  |some zs=>
   simp only[hx,Option.elim,a8.n,a8.size]at hn hs ⊢;subst hs;intro i j hi hj;obtain rfl:j=0:=by omega
   have⟨h1,h2⟩:=qp l hx hp;simpa[a8.cell]using h2 i (by omega)
 |az ck=>
  simp only[cond_eq_ite]at hn hs ⊢;by_cases hw:(CL.wide ck).beq size=true;simp only[hw,if_true]at hn hs ⊢;cases hx:y9 ck size l 0 n with
  |none=>simp only[hx,Option.elim]at hn hs ⊢;exact hd
  |some zs=>
   simp only[hx,Option.elim,a8.n,a8.size]at hn hs ⊢;intro i j hi hj;have⟨h1,h2⟩:=ace hx;have⟨u,h3,h4⟩:=hd i j hi hj;exact⟨u,h3,h2 i hi j (by omega) O w u (by rw[zero_add];exact h4)⟩
  simp only[hw]at hn hs ⊢;exact hd
 |other=>exact hd
theorem v8{α:Type}(l:List α):∀n,(rep n l).length=n*l.length
 |0=>by simp[rep]
 |n+1=>by simp[rep,v8 l n,Nat.succ_mul,Nat.add_comm]
theorem agB{α:Type}(l:List α):∀(n k:Nat),k<n*l.length->(rep n l)[k]? =l[k%l.length]?
 |0,k,h=>by simp at h
 |n+1,k,h=>by
  simp only[rep];by_cases hk:k<l.length;rw[getElem?_append_left hk,Nat.mod_eq_of_lt hk];rw[getElem?_append_right (by omega),agB l n (k - l.length) (by rw[Nat.succ_mul]at h;omega)];congr 1;rw[Nat.mod_eq_sub_mod (by omega:l.length<=k)]
theorem uk{z:List AV}{cs:List Value}(h:aE ρ H O w z cs):∀n,aE ρ H O w (rep n z) (rep n cs)
 |0=>aH.2 rfl
 |n+1=>fW.2 ⟨_,_,rfl,h,uk h n⟩
theorem aiP(zc:Array Value)(n:Nat):((Array.range (n*zc.size)).map (zc[· %zc.size]!)).toList=rep n zc.toList:=by
 apply List.ext_getElem?;intro k;simp only[Array.toList_map,Array.toList_range,getElem?_map];by_cases hk:k<n*zc.size;rw[List.getElem?_range hk,agB _ _ _ (by simpa using hk)]
 have hz:0<zc.size:=by
  rcases Nat.eq_zero_or_pos zc.size with h0|h0;rw[h0]at hk;omega;exact h0
 have hm:k%zc.size<zc.size:=Nat.mod_lt _ hz;simp[hm];rw[getElem?_eq_none (by simp;omega),getElem?_eq_none (by rw[v8];simp;omega)];rfl
end
section
variable{ρ aQ:Nat->Value}{H H':aV}{G O O':Nat->Prop}{w w':World}{P:Program}
theorem mj(hs:Sat ρ H G w){w1:World}(hw:w1.heap=w.heap)(ht:w1.tape=w.tape)(hos:w1.os=w.os)(pH:w1.output=w.output){n:Nat}(hn:H n=none){c:a8}{e:TypeId}{cells:List Value}{cap:Nat}
 (h1:c.n<=cap) (h2:cap<=maxLen) (h3:cap*c.size<=cells.length) (us:Nat->Nat->Value)
 (hd:∀i j,i<c.n->j<c.size->cells[i*c.size+j]? =some (us i j)/\bg (bd ρ H G) w (c.cell i j) (us i j)) (sZ:∀u∈cells,u.oneCell'=true):
 Good ρ H G w (aF H n (.aq c e)) (.aq n) (.slice (some ⟨w.heap.size,0,none⟩) c.n cap) (w1.alloc (.cells cells.toArray e)):=by
 have rj:∀b,fp (.slice (some ⟨w.heap.size,0,none⟩) c.n cap)=some b->b=w.heap.size:=by
  intro b hb;simp only[fp]at hb;split at hb;cases hb;simpa using hb.symm
 have st:Step ρ H (bd ρ H G) w (λj=>if j=n then .slice (some ⟨w.heap.size,0,none⟩) c.n cap else ρ j) (aF H n (.aq c e)) (bd (λj=>if j=n then .slice (some ⟨w.heap.size,0,none⟩) c.n cap else ρ j) (aF H n (.aq c e)) G) (w1.alloc (.cells cells.toArray e)):=by
  have ne:∀j x,H j=some x->j≠n:=λj x hx e=>by subst e;rw[hn]at hx;cases hx
  refine⟨λj x hx=>by simp[ne j x hx],λj x hx=>⟨x,by simp[aF,ne j x hx,hx],λc' e' hc=>⟨c',e',hc,rfl,rfl⟩⟩,λb hb=> ?_,λb hb _=>by rw[alloc_old (by rw[hw];exact hb),hw],by rw[ga,hw];omega⟩;rcases hb with⟨j,x,hx,h1,h2⟩|hb;by_cases hj:j=n;subst hj;simp only[if_true]at h2;exact .inr (by rw[rj b h2];exact le_refl _);simp only[aF,hj,if_false]at hx h2;exact .inl (.inl ⟨j,x,hx,h1,h2⟩);exact .inl (.inr hb)
 refine Good.fresh (aa:=.slice (some ⟨w.heap.size,0,none⟩) c.n cap) hs hn hw ht hos pH rj ?_ ?_;refine⟨_,cap,rfl,h1,h2,.inr ⟨w.heap.size,0,cells,(0,0),us,rfl,by rw[<-hw];exact kH,⟨λoff _ h=>by omega,sZ⟩,by omega,λi j hi hj=> ?_⟩⟩;have⟨g1,g2⟩:=hd i j hi hj;exact⟨by rw[zero_add];exact g1,g2.step st.gy st.heap st.size⟩;unfold ak aO;exact⟨rfl,.aq c e,by simp[aF],λc' e' hc=>by simp⟩
theorem wa{t:TypeId}{n:Nat}{ps:Array (Nat×Operand)}{ev:Operand->AV}{e:Operand->Value}{q:b8}(h:(nM P t n (ps.toList.map λp=>(p.1,ev p.2))).eval H=some q)
 (hs:Sat ρ H G w) (hp:∀p∈ps,ak ρ H (bd ρ H G) w (ev p.2) (e p.2)) {base:Nat} (hb:∀i,i<q.new.length->H (base+i)=none):
 ∃v w',(Instr.buildSlice t n (ps.map λ(i,x)=>(i,e x))).run P w=.ok v w'/\Good ρ H G w (di H q.up base q.new) (q.r base) v w':=by
 have hp':∀p∈ps.toList,ak ρ H (bd ρ H G) w (ev p.2) (e p.2):=λp hm=>hp p (Array.mem_toList_iff.1 hm);unfold nM at h;split at h;rename_i el ht;split at h;rename_i sz z cq hz;rw[cond_eq_ite]at h;split at h;rename_i hc;simp only[and_eq_true,beq_eq]at hc;have⟨⟨c1,c2⟩,c3⟩:=hc;have c1:=le_of_ble_eq_true c1;have c2:=le_of_ble_eq_true c2;split at h;rename_i l hl;simp only[bind_eq_some_iff]at hl;have⟨ss,aku,hsv⟩:=hl;rw[cond_eq_ite]at h;split at h;rename_i hc;simp only[and_eq_true,beq_eq]at hc;have⟨⟨d1,d2⟩,d3⟩:=hc;simp only[RM.eval,Option.some.injEq]at h;subst h;have⟨i,v,hi,hv,hd⟩:=pb (ρ:=ρ) (H:=H) (O:=bd ρ H G) (w:=w) hz;have hlz:v.cells.size=sz:=by rw[<-length_toList,jD hd,c3]
 have s5:((Array.range (n*sz)).map (v.cells[· %v.cells.size]!)).toList=rep n v.cells.toList:=by rw[<-hlz];exact aiP _ _
 have⟨fj,h1,h2⟩:=u5 ps.toList _ ss ((Array.range (n*sz)).map (v.cells[· %v.cells.size]!)) hp' aku (by rw[s5];exact uk hd n);have auV:=ae9 ss hsv h2;have auW:=akw auV d1 d2 d3;have hcl:fj.toList.length=n*sz:=by rw[<-auV.1,d1]
 have hn:H base=none:=by simpa using hb 0 (by simp)
 refine⟨.slice (some ⟨w.heap.size,0,none⟩) n n,w.alloc (.cells fj el), ?_, ?_⟩;have acf:¬(n*sz>2^24):=by omega
 have ad:∀zc:Array Value,((Array.range (n*sz)).map (zc[· %zc.size]!))=((Array.range (n*sz)).map (v.cells[· %v.cells.size]!))->
  (match Instr.fill (λi=>some (i*sz,sz)) ((Array.range (n*sz)).map (zc[· %zc.size]!)) (ps.map λ(i,x)=>(i,e x)).toList with
    |some cells=>do
     let a <-newRow el cells
     pure (Value.slice (some a) n n)
    |_=>stuck "buildSlice: a part of the wrong size" :Sem Value).run P w=.ok (.slice (some ⟨w.heap.size,0,none⟩) n n) (w.alloc (.cells fj el)):=by
  intro zc hz;rw[hz];simp only[Array.toList_map];erw [h1];simp[newRow]
 simp only[Instr.buildSlice,Sem.run_bind,run_underlying ht,andThen_ok,run_sizeOf cq,acf,if_false];by_cases h0:n*sz=0;rw[if_pos h0];simp only[Sem.run_bind,Sem.run_pure,andThen_ok]
 exact ad #[] (by have:Array.range (n*sz)= #[]:=by rw[h0];rfl
                  rw[this];simp)
 rw[if_neg h0];simp only[Sem.run_bind,Sem.run_pure,andThen_ok,zeroValue,typeInfo,run_program,hi,hv];exact ad v.cells rfl;simp only[jG];have:=mj hs (w1:=w) rfl rfl rfl rfl hn (c:=ue (shapeOf P el) sz n l) (e:=el) (cells:=fj.toList) (cap:=n) (by omega) (by simp only[maxLen];have:n<=n*sz:=Nat.le_mul_of_pos_right n (by omega);omega) (by rw[d3,hcl];exact le_refl _)
  (λi j=>fj.toList.getD (i*sz+j) undef) (λi j hi hj=>by
    rw[d2]at hi;rw[d3]at hj ⊢;have⟨u,g1,g2⟩:=auW i j hi hj;have bA:i*sz+j<fj.toList.length:=(getElem?_eq_some_iff.1 g1).1;rw[iB _ _ undef bA]at g1;simp only[Option.some.injEq]at g1;exact⟨iB _ _ _ bA,by rw[g1];exact g2⟩) (λu hu=>by
    obtain⟨k,hk,rfl⟩:=List.getElem_of_mem hu;rw[hcl]at hk
    have hp:0<sz:=by rcases Nat.eq_zero_or_pos sz with h0|h0
                     rw[h0]at hk;omega;exact h0
    have⟨u,g1,g2⟩:=auW (k / sz) (k%sz) (Nat.div_lt_of_lt_mul (by rw[Nat.mul_comm];exact hk)) (Nat.mod_lt _ hp);rw[show k / sz*sz+k%sz=k from Nat.div_add_mod' k sz,getElem?_eq_getElem (by rw[hcl];exact hk)]at g1;cases g1;exact g2.one)
 simpa[d2]using this;cases h;cases h;cases h;cases h;cases h
theorem zn:∀(r ab c:Nat),c<=2*ab+192->Builtin.growBy ab r c<=2*ab+192
 |0,ab,c,h=>h
 |r+1,ab,c,h=>by
  unfold Builtin.growBy;split;exact h;exact zn r ab _ (by omega)
theorem nextslicecap_le{ab old:Nat}(h:old<ab):Builtin.nextslicecap ab old<=2*ab+192:=by
 unfold Builtin.nextslicecap;split;omega;split;omega;exact zn 4 ab old (by omega)
theorem growBy_four(n c:Nat):Builtin.growBy n 4 c=
 if c>=n then c else
 if c+(c+768) / 4>=n then c+(c+768) / 4 else
 if c+(c+768) / 4+(c+(c+768) / 4+768) / 4>=n then c+(c+768) / 4+(c+(c+768) / 4+768) / 4 else
 if c+(c+768) / 4+(c+(c+768) / 4+768) / 4+(c+(c+768) / 4+(c+(c+768) / 4+768) / 4+768) / 4>=n
 then c+(c+768) / 4+(c+(c+768) / 4+768) / 4+(c+(c+768) / 4+(c+(c+768) / 4+768) / 4+768) / 4 else
 c+(c+768) / 4+(c+(c+768) / 4+768) / 4+(c+(c+768) / 4+(c+(c+768) / 4+768) / 4+768) / 4+
  (c+(c+768) / 4+(c+(c+768) / 4+768) / 4+(c+(c+768) / 4+(c+(c+768) / 4+768) / 4+768) / 4+768) / 4:=rfl
theorem s7{ab old:Nat}(h:old<ab):Builtin.nextslicecap ab old<=2*ab:=by
 unfold Builtin.nextslicecap;split;omega;split;omega;rw[growBy_four]
 repeat' split
 all_goals omega
structure Src (P:Program) (O:Nat->Prop) (w:World) (size:Nat) (d:a8) (v:Value) (bW:List Value):Prop where
 len:(Builtin.lenOf v).run P w=.ok d.n w
 length:bW.length=d.n*size
 first:∀w2:World,w2.heap=w.heap->(Builtin.firstCells size d.n v).run P w2=.ok bW.toArray w2
 one:∀u∈bW,u.oneCell'=true
 den:∀i j,i<d.n->j<size->∃u,bW[i*size+j]? =some u/\bg O w (d.cell i j) u
theorem u6{size:Nat}{d:a8}{v:Value}(h:qo O w d v)(hs:d.size=size)(h1:1<=size):∃bW,Src P O w size d v bW:=by
 obtain⟨a,cap,us,rfl,g1,g2,g3⟩:=h;subst hs
 have hdm:∀m,m<d.n*d.size->m / d.size<d.n/\m%d.size<d.size:=λm hm=>
  ⟨Nat.div_lt_of_lt_mul (by rw[Nat.mul_comm];exact hm),Nat.mod_lt _ (by omega)⟩
 refine⟨(List.range (d.n*d.size)).map λm=>us (m / d.size) (m%d.size), ?_,by simp,λw2 hw2=> ?_,λu hu=> ?_,λi j hi hj=> ?_⟩;simp[Builtin.lenOf];rcases Nat.eq_zero_or_pos d.n with h0|h0;rw[h0];cases a<;>simp[Builtin.firstCells,loadCells,loadCellsFrom];obtain⟨b,o,rfl,_,hc⟩:=g3 h0;simp only[Builtin.firstCells];refine run_loadCells w2 _ _ (λm=>us (m / d.size) (m%d.size)) (λm hm=> ?_);have⟨k1,k2⟩:=hdm m hm;rw[bp];have:=(hc _ _ k1 k2).1;rw[add_assoc,show m / d.size*d.size+m%d.size=m from by rw[Nat.mul_comm];exact Nat.div_add_mod m d.size]at this;rw[<-this];simp[cell?,hw2];obtain⟨m,hm,rfl⟩:=mem_map.1 hu;have hm:m<d.n*d.size:=mem_range.1 hm;have⟨k1,k2⟩:=hdm m hm;obtain⟨b,o,rfl,_,hc⟩:=g3 (Nat.lt_of_le_of_lt (zero_le _) k1);exact(hc _ _ k1 k2).2.one
 have bA:i*d.size+j<d.n*d.size:=by
  have:(i+1)*d.size<=d.n*d.size:=Nat.mul_le_mul_right _ (by omega);rw[Nat.succ_mul]at this;omega
 obtain⟨b,o,rfl,_,hc⟩:=g3 (by omega);have e1:(i*d.size+j) / d.size=i:=by rw[Nat.mul_comm,Nat.mul_add_div (by omega),Nat.div_eq_of_lt hj];rfl
 have e2:(i*d.size+j)%d.size=j:=by rw[Nat.mul_comm,Nat.mul_add_mod,Nat.mod_eq_of_lt hj]
 exact⟨us i j,by rw[getElem?_map,List.getElem?_range bA];simp[e1,e2],(hc i j hi hj).2⟩
theorem aos{s:ByteArray}:∃bW,Src P O w 1 (.aw .u8 (s.data.toList.map λb=>(b.toNat:Int))) (.string s) bW:=by
 refine⟨s.data.toList.map λb=>.int .u8 b.toNat, ?_,by simp[a8.n],λw2 hw2=> ?_,λu hu=> ?_,λi j hi hj=> ?_⟩;simp[Builtin.lenOf,a8.n];simp only[Builtin.firstCells,a8.n,Sem.run_pure,length_map];congr 1;have h:s.data.toList.length=s.size:=length_toList;rw[h,ByteArray.extract_zero_size];apply toList_inj.1;rw[Array.toList_map];obtain⟨b,_,rfl⟩:=mem_map.1 hu;rfl;simp only[a8.n,length_map]at hi;obtain rfl:j=0:=by omega
 have fG:i<s.data.toList.length:=hi;refine⟨.int .u8 (s.data.toList[i].toNat),by rw[Nat.mul_one,add_zero,getElem?_map,getElem?_eq_getElem fG];rfl, ?_⟩;simp only[a8.cell]
 have:(s.data.toList.map λb=>((b.toNat:Nat):Int)).getD i 0=(s.data.toList[i].toNat:Int):=by
  rw[List.getD,getElem?_map,getElem?_eq_getElem fG];rfl
 rw[this];exact .int _ _
end
section
variable{ρ aQ:Nat->Value}{H H':aV}{G O O':Nat->Prop}{w w':World}{P:Program}
theorem gf{α:Type}(xs ys:List α){lo k:Nat}(h:lo+k<=xs.length)(hk:k<=ys.length):(over xs lo k ys).length=xs.length:=by
 simp only[over,length_append,length_take,length_drop];omega
theorem kI{α:Type}(xs ys:List α)(d:α){lo k:Nat}(h:lo+k<=xs.length)(hk:k<=ys.length)(i:Nat):
 (over xs lo k ys).getD i d=if lo<=i/\i<lo+k then ys.getD (i - lo) d else xs.getD i d:=by
 have hto:(xs.take lo).length=lo:=by simp;omega
 have hty:(ys.take k).length=k:=by simp;omega
 simp only[over,List.getD];by_cases h1:i<lo;rw[if_neg (by omega),append_assoc,getElem?_append_left (by omega),getElem?_take,if_pos h1];by_cases h2:i<lo+k;rw[if_pos (by omega),append_assoc,getElem?_append_right (by omega),hto,getElem?_append_left (by omega),getElem?_take,if_pos (by omega)];rw[if_neg (by omega),append_assoc,getElem?_append_right (by omega),hto,getElem?_append_right (by omega),hty,List.getElem?_drop];congr 2;omega
theorem aiQ{α:Type}{lo i k:Nat}{a b:α}:(bif lo.ble i&&i.blt (lo+k)then a else b)=if lo<=i/\i<lo+k then a else b:=by
 rw[cond_eq_ite];congr 1;simp[Nat.blt,Nat.lt_iff_add_one_le,Nat.ble_eq]
theorem acg{cs j8:List CK}(xs:List (CL cs))(ys:List (CL j8))(lo k:Nat)(p:a8->Prop)(h1:∀e:j8=cs,p (.az cs (over xs lo k (e▸ys))))
 (h2:p (.fo (CL.wide cs) xs.length λi j=>bif lo.ble i&&i.blt (lo+k)then(a8.az j8 ys).cell (i - lo) j else(a8.az cs xs).cell i j)):p (dQ (.az cs xs) lo k (.az j8 ys)):=by
 simp only[dQ];split;rename_i h _;exact h1 h.down;exact h2
theorem um(c d:a8){lo k:Nat}(h:lo+k<=c.n)(hk:k<=d.n):
 (dQ c lo k d).n=c.n/\(dQ c lo k d).size=c.size/\∀i j,i<c.n->(dQ c lo k d).cell i j=if lo<=i/\i<lo+k then d.cell (i - lo) j else c.cell i j:=by
 have other:∀c':a8,c'=.fo c.size c.n (λi j=>bif lo.ble i&&i.blt (lo+k)then d.cell (i - lo) j else c.cell i j)->
  c'.n=c.n/\c'.size=c.size/\∀i j,i<c.n->c'.cell i j=if lo<=i/\i<lo+k then d.cell (i - lo) j else c.cell i j:=by
  rintro c' rfl;exact⟨rfl,rfl,λi j _=>aiQ⟩
 cases c<;>cases d
 case aw.aw k1 xs k2 ys=>
  simp only[dQ];cases hkk:cp k1 k2;exact other _ rfl;obtain rfl:=bC hkk;simp only[a8.n]at h hk;refine⟨gf xs ys h hk,rfl,λi j _=> ?_⟩;simp only[a8.cell,kI xs ys _ h hk,cond_true];split<;>rfl
 case strs.strs xs ys=>
  simp only[a8.n]at h hk;refine⟨gf xs ys h hk,rfl,λi j _=> ?_⟩;simp only[dQ,a8.cell,kI xs ys _ h hk];split<;>rfl
 case bY.bY xs ys=>
  simp only[a8.n]at h hk;refine⟨gf xs ys h hk,rfl,λi j _=> ?_⟩;simp only[dQ,a8.cell,kI xs ys _ h hk];split<;>rfl
 case az.az cs xs j8 ys=>
  simp only[a8.n]at h hk;refine acg xs ys lo k (λc'=>c'.n=(a8.az cs xs).n/\c'.size=(a8.az cs xs).size/\∀i j,i<(a8.az cs xs).n->c'.cell i j=if lo<=i/\i<lo+k then(a8.az j8 ys).cell (i - lo) j else(a8.az cs xs).cell i j) ?_ (other _ rfl);rintro rfl;refine⟨gf xs ys h hk,rfl,λi j _=> ?_⟩;simp only[a8.cell,kI xs ys _ h hk];split<;>rfl
 all_goals exact other _ rfl
theorem Good.upd(hs:Sat ρ H G w){id:Nat}{o o':au}(ho:H id=some o)(ha:o.alive=o'.alive)
 (sV:∀c' e',o'=.aq c' e'->∃c e,o=.aq c e/\c'.n=c.n/\c'.size=c.size) {r:AV} {v:Value}
 (e9:jd ρ (aF H id o') (bd ρ H G) w (ρ id) o') (hr:ak ρ (aF H id o') (bd ρ H G) w r v):Good ρ H G w (aF H id o') r v w:=by
 have hh:=aaG (ρ:=ρ) (G:=G) ho ha
 have st:Step ρ H (bd ρ H G) w ρ (aF H id o') (bd ρ (aF H id o') G) w:=by
  refine⟨λ_ _ _=>rfl,λj x hx=> ?_,λc hc=>.inl (by rw[hh]at hc;exact hc),λc hc hO=>rfl,le_refl _⟩;by_cases hj:j=id;subst hj;rw[ho]at hx;cases hx;exact⟨o',by simp[aF],sV⟩;exact⟨x,by simp[aF,hj,hx],λc' e' hc=>⟨c',e',hc,rfl,rfl⟩⟩
 refine⟨ρ,⟨λj x hx=> ?_,λi j oi oj c h1 h2 h3 h4 h5 h6=> ?_,λc hc=> ?_,hs.low⟩,by rw[hh];exact hr,st,⟨rfl,rfl,rfl,λ_ _ _=>rfl⟩⟩;by_cases hj:j=id;subst hj;simp only[aF,if_true,Option.some.injEq]at hx;subst hx;rw[hh];exact e9;have zg:H j=some x:=by simpa[aF,hj]using hx
 exact(hs.obj j x zg).step st (λ_ _ _=>rfl)
 have f:∀i oi,aF H id o' i=some oi->oi.alive=true->∃x,H i=some x/\x.alive=true:=by
  intro i oi hi vV;by_cases fG:i=id;subst fG;simp only[aF,if_true,Option.some.injEq]at hi;subst hi;exact⟨o,ho,ha.trans vV⟩;exact⟨oi,by simpa[aF,fG]using hi,vV⟩
 have⟨x,hx,hxa⟩:=f i oi h1 h3;have⟨y,hy,hya⟩:=f j oj h2 h4;exact hs.inj i j x y c hx hy hxa hya h5 h6;exact hs.apart c ((aaF ho ha c).1 hc)
theorem rk(hs:Sat ρ H G w){id:Nat}{c d:a8}{e:TypeId}(ho:H id=some (.aq c e)){lo k:Nat}(hlo:lo+k<=c.n)(hk:k<=d.n)(h1:1<=c.size){bW:List Value}
 (bK:bW.length=k*c.size) (sZ:∀u∈bW,u.oneCell'=true) (lH:∀i j,i<k->j<c.size->∃u,bW[i*c.size+j]? =some u/\bg (bd ρ H G) w (d.cell i j) u):
 ∃w',(∀a cap x,ρ id=.slice a c.n cap->(k=0\/a.map (·.add (lo*c.size))=some x)->(storeCells x bW 0).run P w=.ok () w')/\(k=0->w'=w)/\
  ∀r v,(∀w2,ak ρ (aF H id (.aq (dQ c lo k d) e)) (bd ρ H G) w2 r v)->Good ρ H G w (aF H id (.aq (dQ c lo k d) e)) r v w':=by
 have⟨hn,cq,rl⟩:=um c d hlo hk;have⟨a,cap,eW,q1,q2,q3⟩:=hs.obj id _ ho;have sV:∀c' e',au.aq (dQ c lo k d) e=.aq c' e'->∃c1 e1,au.aq c e=.aq c1 e1/\c'.n=c1.n/\c'.size=c1.size:=λc' e' hc=>by cases hc;exact⟨c,e,rfl,hn,cq⟩
 have hh:=aaG (ρ:=ρ) (G:=G) ho (show(au.aq c e).alive=(au.aq (dQ c lo k d) e).alive from rfl);rcases Nat.eq_zero_or_pos k with h0|h0;subst h0;have kb:bW=[]:=List.eq_nil_of_length_eq_zero (by rw[bK];simp);subst kb;refine⟨w,λa cap x _ _=>rfl,λ_=>rfl,λr v hr=>Good.upd (o':=.aq (dQ c lo 0 d) e) hs ho rfl sV ?_ (hr w)⟩;have hc:∀i j,i<c.n->(dQ c lo 0 d).cell i j=c.cell i j:=λi j hi=>by rw[rl i j hi,if_neg (by omega)]
 refine⟨a,cap,by rw[hn];exact eW,by omega,q2, ?_⟩;rcases q3 with q3|⟨b,o,cells,fr,us,e1,e2,e3,e4,e5⟩;exact .inl q3;exact .inr ⟨b,o,cells,fr,us,e1,e2,e3,by rw[cq];exact e4,λi j hi hj=>by rw[hn]at hi;rw[cq]at hj ⊢;rw[hc i j hi];exact e5 i j hi hj⟩;rcases q3 with q3|⟨b,o,cells,fr,us,rfl,e2,e3,e4,e5⟩;omega;have mR:fp (ρ id)=some b:=by rw[eW];simp only[fp];rw[if_neg (by omega)]
 have hm1:(lo+k)*c.size<=cap*c.size:=Nat.mul_le_mul_right _ (by omega);rw[add_mul]at hm1;have hl:o+lo*c.size+bW.length<=cells.length:=by omega
 have zo:(cells.take (o+lo*c.size)++bW++cells.drop (o+lo*c.size+bW.length)).length=cells.length:=by
  simp only[length_append,length_take,length_drop];omega
 let obj:Obj:=.cells (cells.take (o+lo*c.size)++bW++cells.drop (o+lo*c.size+bW.length)).toArray e fr;refine⟨World.cV w b obj,λa' aiw x hr hx=> ?_,λh=>by omega,λr v hr=> ?_⟩;rw[eW]at hr;cases hr;rcases hx with hx|hx;omega;simp only[map_some,bp,Option.some.injEq]at hx;subst hx;have:=cu (P:=P) (o+lo*c.size) bW 0 e2 e3.unm (by omega) sZ;rw[add_zero]at this;exact this;have st:=kV (G:=G) (w:=w) (o':=.aq (dQ c lo k d) e) ho rfl mR sV obj;refine Good.write hs ho rfl rfl mR sV ?_ (hr _);refine⟨some ⟨b,o,none⟩,cap,by rw[hn];exact eW,by omega,q2,.inr ⟨b,o,_,fr,λi j=>if lo<=i/\i<lo+k then bW.getD ((i - lo)*c.size+j) undef else us i j,rfl,fi e2,e3.over sZ (by omega),by rw[zo,cq];exact e4,λi j hi hj=> ?_⟩⟩;rw[hn]at hi;rw[cq]at hj ⊢;rw[rl i j hi,aaL _ _ _ hl];dsimp only;by_cases dv:lo<=i/\i<lo+k;have⟨u,g1,g2⟩:=lH (i - lo) j (by omega) hj;have hmul:i*c.size=lo*c.size+(i - lo)*c.size:=by rw[<-add_mul];congr 1;omega
 have bA:=(getElem?_eq_some_iff.1 g1).1;simp only[if_pos dv];rw[if_pos (by omega),show o+i*c.size+j - (o+lo*c.size)=(i - lo)*c.size+j from by omega,g1];have:bW.getD ((i - lo)*c.size+j) undef=u:=by simp[List.getD,g1]
 rw[this];exact⟨rfl,g2.step st.gy st.heap st.size⟩;simp only[if_neg dv]
 have pH:¬(o+lo*c.size<=o+i*c.size+j/\o+i*c.size+j<o+lo*c.size+bW.length):=by
  intro hc;rcases lt_or_ge i lo with h2|h2;have:(i+1)*c.size<=lo*c.size:=Nat.mul_le_mul_right _ (by omega);rw[Nat.succ_mul]at this;omega;have:(lo+k)*c.size<=i*c.size:=Nat.mul_le_mul_right _ (by omega);rw[add_mul]at this;omega
 rw[if_neg pH];have⟨g1,g2⟩:=e5 i j hi hj;exact⟨g1,g2.step st.gy st.heap st.size⟩
end
section
variable{ρ aQ:Nat->Value}{H H':aV}{G O O':Nat->Prop}{w w':World}{P:Program}
theorem mX{cs j8:List CK}(xs:List (CL cs))(ys:List (CL j8))(p:a8->Prop)(h1:∀e:j8=cs,p (.az cs (xs++e▸ys)))
 (h2:p (.fo (CL.wide cs) (xs.length+ys.length) λi j=>bif i.blt xs.length then(a8.az cs xs).cell i j else(a8.az j8 ys).cell (i - xs.length) j)):p (dI (.az cs xs) (.az j8 ys)):=by
 simp only[dI];split;rename_i h _;exact h1 h.down;exact h2
theorem wb(c d:a8):(dI c d).n=c.n+d.n:=by
 by_cases ht:∃cs xs j8 ys,c=.az cs xs/\d=.az j8 ys;obtain⟨cs,xs,j8,ys,rfl,rfl⟩:=ht;refine mX xs ys (λr=>r.n=_) (λe=> ?_) rfl;subst e;simp[a8.n];cases c<;>cases d<;>first|(exact absurd ⟨_,_,_,_,rfl,rfl⟩ ht)|skip
 all_goals simp only[dI,a8.n,length_append]
 rename_i k xs k' ys;cases cp k k'<;>simp
theorem n6(c d:a8)(h:d.size=c.size):(dI c d).size=c.size:=by
 by_cases ht:∃cs xs j8 ys,c=.az cs xs/\d=.az j8 ys;obtain⟨cs,xs,j8,ys,rfl,rfl⟩:=ht;exact mX xs ys (λr=>r.size=_) (λe=>by subst e;rfl) rfl;cases c<;>cases d<;>first|(exact absurd ⟨_,_,_,_,rfl,rfl⟩ ht)|skip
 all_goals simp only[dI,a8.size]at h ⊢
 rename_i k xs k' ys;cases cp k k'<;>rfl
theorem s8{α:Type}(xs ys:List α)(d:α){i:Nat}(h:i<xs.length):(xs++ys).getD i d=xs.getD i d:=by
 simp[List.getD,getElem?_append_left h]
theorem s9{α:Type}(xs ys:List α)(d:α){i:Nat}(h:¬i<xs.length):(xs++ys).getD i d=ys.getD (i - xs.length) d:=by
 simp[List.getD,getElem?_append_right (Nat.le_of_not_lt h)]
theorem wc{i n:Nat}(h:i<n):i.blt n=true:=by simpa[Nat.blt,Nat.lt_iff_add_one_le]using h
theorem ta{i n:Nat}(h:¬i<n):i.blt n=false:=by
 cases hb:i.blt n with
 |false=>rfl
 |true=>exact absurd (by simpa[Nat.blt,Nat.lt_iff_add_one_le]using hb) h
theorem aaO(c d:a8){i:Nat}(j:Nat)(h:i<c.n):(dI c d).cell i j=c.cell i j:=by
 by_cases ht:∃cs xs j8 ys,c=.az cs xs/\d=.az j8 ys;obtain⟨cs,xs,j8,ys,rfl,rfl⟩:=ht;simp only[a8.n]at h;refine mX xs ys (λr=>r.cell i j=_) (λe=> ?_) ?_;subst e;simp only[a8.cell,s8 _ _ _ h];simp only[a8.cell,wc h,cond_true];cases c<;>cases d<;>first|(exact absurd ⟨_,_,_,_,rfl,rfl⟩ ht)|skip
 all_goals simp only[dI,a8.cell,a8.n]at h ⊢
 all_goals first
  |(rw[s8 _ _ _ h];done)
  |(simp only[wc h,cond_true];done)
  |(rename_i k xs k' ys
    cases hk:cp k k';simp only[cond_false,wc h,cond_true];simp only[cond_true,s8 _ _ _ h])
theorem aaP(c d:a8){i:Nat}(j:Nat)(h:¬i<c.n):(dI c d).cell i j=d.cell (i - c.n) j:=by
 by_cases ht:∃cs xs j8 ys,c=.az cs xs/\d=.az j8 ys;obtain⟨cs,xs,j8,ys,rfl,rfl⟩:=ht;simp only[a8.n]at h;refine mX xs ys (λr=>r.cell i j=_) (λe=> ?_) ?_;subst e;simp only[a8.cell,a8.n,s9 _ _ _ h];simp only[a8.cell,a8.n,ta h,cond_false];cases c<;>cases d<;>first|(exact absurd ⟨_,_,_,_,rfl,rfl⟩ ht)|skip
 all_goals simp only[dI,a8.cell,a8.n]at h ⊢
 all_goals first
  |(rw[s9 _ _ _ h];done)
  |(simp only[ta h,cond_false];done)
  |(rename_i k xs k' ys
    cases hk:cp k k';simp only[cond_false,ta h];obtain rfl:=bC hk;simp only[cond_true,s9 _ _ _ h])
theorem fz{id:Nat}{o:au}(ho:H id=some o):Step ρ H (bd ρ H G) w ρ (aF H id .aB) (bd ρ (aF H id .aB) G) w:=by
 refine⟨λ_ _ _=>rfl,λj x hx=> ?_,λb hb=> ?_,λ_ _ _=>rfl,le_refl _⟩;by_cases hj:j=id;subst hj;exact⟨.aB,by simp[aF],by simp⟩;exact⟨x,by simp[aF,hj,hx],λc' e' hc=>⟨c',e',hc,rfl,rfl⟩⟩;rcases hb with⟨j,x,hx,h1,h2⟩|hb;by_cases hj:j=id;subst hj;simp only[aF,if_true,Option.some.injEq]at hx;subst hx;simp[au.alive]at h1;exact .inl (.inl ⟨j,x,by simpa[aF,hj]using hx,h1,h2⟩);exact .inl (.inr hb)
theorem fA{id:Nat}{b:Nat}(h:Own ρ (aF H id .aB) b):Own ρ H b:=by
 have⟨j,x,hx,h1,h2⟩:=h;by_cases hj:j=id;subst hj;simp only[aF,if_true,Option.some.injEq]at hx;subst hx;simp[au.alive]at h1;exact⟨j,x,by simpa[aF,hj]using hx,h1,h2⟩
theorem Sat.kill(hs:Sat ρ H G w){id:Nat}{o:au}(ho:H id=some o):Sat ρ (aF H id .aB) G w:=by
 have st:=fz (ρ:=ρ) (G:=G) (w:=w) ho;refine⟨λj x hx=> ?_,λi j oi oj b h1 h2 h3 h4 h5 h6=> ?_,λb hb=>hs.apart b (fA hb),hs.low⟩;by_cases hj:j=id;subst hj;simp only[aF,if_true,Option.some.injEq]at hx;subst hx;trivial;exact(hs.obj j x (by simpa[aF,hj]using hx)).step st (λ_ _ _=>rfl)
 have f:∀i oi,aF H id .aB i=some oi->oi.alive=true->H i=some oi:=by
  intro i oi hi vV;by_cases fG:i=id;subst fG;simp only[aF,if_true,Option.some.injEq]at hi;subst hi;simp[au.alive]at vV;simpa[aF,fG]using hi
 exact hs.inj i j oi oj b (f i oi h1 h3) (f j oj h2 h4) h3 h4 h5 h6
theorem Good.after{H1 H2:aV}(mY:Step ρ H (bd ρ H G) w ρ H1 (bd ρ H1 G) w)(ew:∀b,Own ρ H1 b->Own ρ H b){r:AV}{v:Value}(h:Good ρ H1 G w H2 r v w'):Good ρ H G w H2 r v w':=by
 have⟨aQ,h1,h2,h3,h4⟩:=h;exact⟨aQ,h1,h2,mY.trans h3,h4.os,h4.tape,h4.output,λb hb hO=>h4.heap b hb (λhx=>hO (ew b hx))⟩
theorem tc(hs:Sat ρ H G w){n:Nat}(hn:H n=none){c:a8}{e:TypeId}(h0:c.n=0)(a:Option Addr):
 Good ρ H G w (aF H n (.aq c e)) (.aq n) (.slice a c.n 0) w:=by
 have ne:∀j x,H j=some x->j≠n:=λj x hx e=>by subst e;rw[hn]at hx;cases hx
 have hb:fp (.slice a c.n 0)=none:=by cases a<;>simp[fp]
 have ra:∀b,Own (λj=>if j=n then .slice a c.n 0 else ρ j) (aF H n (.aq c e)) b->Own ρ H b:=by
  rintro b ⟨j,x,hx,h1,h2⟩;by_cases hj:j=n;subst hj;simp only[if_true]at h2;rw[hb]at h2;cases h2;simp only[aF,hj,if_false]at hx h2;exact⟨j,x,hx,h1,h2⟩
 have st:Step ρ H (bd ρ H G) w (λj=>if j=n then .slice a c.n 0 else ρ j) (aF H n (.aq c e)) (bd (λj=>if j=n then .slice a c.n 0 else ρ j) (aF H n (.aq c e)) G) w:=
  ⟨λj x hx=>by simp[ne j x hx],λj x hx=>⟨x,by simp[aF,ne j x hx,hx],λc' e' hc=>⟨c',e',hc,rfl,rfl⟩⟩,λb hb=>.inl (hb.imp (ra b) id),λb hb _=>rfl,le_refl _⟩
 refine⟨_,⟨λj x hx=> ?_,λi j oi oj b h1 h2 h3 h4 h5 h6=> ?_,λb hb=>hs.apart b (ra b hb),hs.low⟩, ?_,st,rfl,rfl,rfl,λ_ _ _=>rfl⟩;by_cases hj:j=n;subst hj;simp only[aF,if_true,Option.some.injEq]at hx;subst hx;simp only[if_true];exact⟨a,0,rfl,by omega,by simp[maxLen],.inl rfl⟩;have zg:H j=some x:=by simpa[aF,hj]using hx
 simp only[hj,if_false];exact(hs.obj j x zg).step st (λ_ _ _=>rfl);by_cases hi:i=n;subst hi;simp only[if_true]at h5;rw[hb]at h5;cases h5;by_cases hj:j=n;subst hj;simp only[if_true]at h6;rw[hb]at h6;cases h6;simp only[aF,hi,hj,if_false]at h1 h2 h5 h6;exact hs.inj i j oi oj b h1 h2 h3 h4 h5 h6;unfold ak aO;exact⟨rfl,.aq c e,by simp[aF],λc' e' hc=>by simp⟩
theorem zp{z:Array Value}(h:∀u∈z.toList,u.oneCell'=true)(n:Nat):∀u∈(Builtin.zeroCells z n).toList,u.oneCell'=true:=by
 intro u hu;simp only[Builtin.zeroCells,Array.toList_map,Array.toList_range,mem_map,mem_range]at hu;obtain⟨m,hm,rfl⟩:=hu
 have hp:0<z.size:=by
  rcases Nat.eq_zero_or_pos z.size with h0|h0;rw[h0]at hm;omega;exact h0
 have bA:m%z.size<z.size:=Nat.mod_lt _ hp;rw[getElem!_pos z (m%z.size) bA];exact h _ (Array.mem_toList_iff.2 (Array.getElem_mem bA))
theorem auX(hs:Sat ρ H G w){id n:Nat}{o:au}(ho:H id=some o)(ha:o.alive=true)(hn:H n=none){b f:Nat}(hb:fp (ρ id)=some b){c:a8}{e:TypeId}{cap:Nat}{cells:List Value}{fr:Nat×Nat}{old:Obj}
 (hold:w.heap[b]? =some old) (hu:aaC fr cells) (h1:c.n<=cap) (h2:cap<=maxLen) (h3:f+cap*c.size<=cells.length) (us:Nat->Nat->Value)
 (hd:∀i j,i<c.n->j<c.size->cells[f+i*c.size+j]? =some (us i j)/\bg (bd ρ H G) w (c.cell i j) (us i j)):
 Good ρ H G w (aF (aF H id .aB) n (.aq c e)) (.aq n) (.slice (some ⟨b,f,none⟩) c.n cap) (World.cV w b (.cells cells.toArray e fr)):=by
 have ne:∀j x,H j=some x->j≠n:=λj x hx e=>by subst e;rw[hn]at hx;cases hx
 have ass:id≠n:=ne id o ho;have ew:Own ρ H b:=⟨id,o,ho,ha,hb⟩
 have rj:∀b',fp (.slice (some ⟨b,f,none⟩) c.n cap)=some b'->b'=b:=by
  intro b' uN;simp only[fp]at uN;split at uN;cases uN;simpa using uN.symm
 have ra:∀b',Own (λj=>if j=n then .slice (some ⟨b,f,none⟩) c.n cap else ρ j) (aF (aF H id .aB) n (.aq c e)) b'->Own ρ H b':=by
  rintro b' ⟨j,x,hx,g1,g2⟩;by_cases hj:j=n;subst hj;simp only[if_true]at g2;rw[rj b' g2];exact ew;by_cases hi:j=id;subst hi;simp only[aF,hj,if_false,if_true,Option.some.injEq]at hx;subst hx;simp[au.alive]at g1;simp only[aF,hj,hi,if_false]at hx g2;exact⟨j,x,hx,g1,g2⟩
 have st:Step ρ H (bd ρ H G) w (λj=>if j=n then .slice (some ⟨b,f,none⟩) c.n cap else ρ j) (aF (aF H id .aB) n (.aq c e)) (bd (λj=>if j=n then .slice (some ⟨b,f,none⟩) c.n cap else ρ j) (aF (aF H id .aB) n (.aq c e)) G) (World.cV w b (.cells cells.toArray e fr)):=by
  refine⟨λj x hx=>by simp[ne j x hx],λj x hx=> ?_,λb' uN=>.inl (uN.imp (ra b') _root_.id),λb' uN hO=>je (λe=>hO (.inl (by subst e;exact ew))),by rw[jE];exact le_refl _⟩;by_cases hi:j=id;subst hi;exact⟨.aB,by simp[aF,ass],by simp⟩;exact⟨x,by simp[aF,ne j x hx,hi,hx],λc' e' hc=>⟨c',e',hc,rfl,rfl⟩⟩
 refine⟨_,⟨λj x hx=> ?_,λi j oi oj b' g1 g2 g3 g4 g5 g6=> ?_,λb' uN=>hs.apart b' (ra b' uN),λb' uN=>by rw[jE];exact hs.low b' uN⟩, ?_,st,rfl,rfl,rfl,λb' uN hO=>je (λe=>hO (by subst e;exact ew))⟩;by_cases hj:j=n;subst hj;simp only[aF,if_true,Option.some.injEq]at hx;subst hx;simp only[if_true];refine⟨_,cap,rfl,h1,h2,.inr ⟨b,f,cells,fr,us,rfl,fi hold,hu,h3,λi j hi hj=> ?_⟩⟩;have⟨k1,k2⟩:=hd i j hi hj;exact⟨k1,k2.step st.gy st.heap st.size⟩;by_cases hi:j=id;subst hi;simp only[aF,hj,if_false,if_true,Option.some.injEq]at hx;subst hx;trivial;have zg:H j=some x:=by simpa[aF,hj,hi]using hx
 simp only[hj,if_false];refine(hs.obj j x zg).step st (λb' vV uN=>je (λe=>hi ?_));subst e;exact hs.inj j id x o b' zg ho vV ha uN hb
 have f':∀i oi,aF (aF H id .aB) n (.aq c e) i=some oi->oi.alive=true->i≠n->i≠id/\H i=some oi:=by
  intro i oi hi vV cX;by_cases fG:i=id;subst fG;simp only[aF,cX,if_false,if_true,Option.some.injEq]at hi;subst hi;simp[au.alive]at vV;exact⟨fG,by simpa[aF,cX,fG]using hi⟩
 by_cases hi:i=n<;>by_cases hj:j=n;rw[hi,hj];have⟨k1,k2⟩:=f' j oj g2 g4 hj;simp only[hi,hj,if_true,if_false]at g5 g6;have:=rj b' g5;subst this;exact absurd (hs.inj j id oj o b' k2 ho g4 ha g6 hb) k1;have⟨k1,k2⟩:=f' i oi g1 g3 hi;simp only[hi,hj,if_true,if_false]at g5 g6;have:=rj b' g6;subst this;exact absurd (hs.inj i id oi o b' k2 ho g3 ha g5 hb) k1;simp only[hi,hj,if_false]at g5 g6;exact hs.inj i j oi oj b' (f' i oi g1 g3 hi).2 (f' j oj g2 g4 hj).2 g3 g4 g5 g6;unfold ak aO;exact⟨rfl,.aq c e,by simp[aF],λc' e' hc=>by simp⟩
theorem gH{t t' ty e:TypeId}{i:TypeInfo}{a:Option Addr}{n cap m:Nat}{vy:Value}{bW:List Value}
 (ht:P.underlying t=some (.slice e)) (hi:P.info? e=some i) (hzero:(∃e',P.underlying t'=some (.slice e'))\/P.underlying t'=some .string)
 (bK:(Builtin.lenOf vy).run P w=.ok m w) (kW:(Builtin.firstCells i.size m vy).run P w=.ok bW.toArray w) (n7:n+m<=cap)
 (mY:∀x,a=some x->(storeCells (x.add (n*i.size)) bW 0).run P w=.ok () w') (te:a=none->w'=w):
 (Builtin.append_ #[t,t'] ty #[.slice a n cap,vy]).run P w=.ok (.slice a (n+m) cap) w':=by
 rcases hzero with⟨e',hd⟩|hd<;>cases a with
 |none=>
  rw[te rfl];simp[Builtin.append_,run_underlying ht,run_underlying hd,sizeOf,typeInfo,hi,bK,n7,kW]
 |some x=>
  have:=mY x rfl;simp[Builtin.append_,run_underlying ht,run_underlying hd,sizeOf,typeInfo,hi,bK,n7,kW,this]
theorem n8{t t' ty e:TypeId}{i:TypeInfo}{z:Value}{a:Option Addr}{n cap m:Nat}{vy:Value}{olds bW:List Value}
 (ht:P.underlying t=some (.slice e)) (hi:P.info? e=some i) (hz:i.zero=some z) (hzero:(∃e',P.underlying t'=some (.slice e'))\/P.underlying t'=some .string)
 (bK:(Builtin.lenOf vy).run P w=.ok m w) (hold:(Builtin.firstCells i.size n (.slice a n cap)).run P w.drew=.ok olds.toArray w.drew) (kW:(Builtin.firstCells i.size m vy).run P w.drew=.ok bW.toArray w.drew) (n7:¬n+m<=cap)
 (hsm:(n+m)*i.bytes<=140737488355328) (hb1:1<=i.bytes):
 ∃n9,n+m<=n9/\n9<=maxLen/\(Builtin.append_ #[t,t'] ty #[.slice a n cap,vy]).run P w=
  .ok (.slice (some ⟨w.heap.size,0,none⟩) (n+m) n9) (w.drew.alloc (.cells (olds++bW++(Builtin.zeroCells z.cells (n9 - (n+m))).toList).toArray e)):=by
 have hnm:n+m<=140737488355328:=le_trans (by have:=Nat.mul_le_mul_left (n+m) hb1;omega) hsm;refine⟨grownCap w (n+m) cap e,grownCap_ge w _ _ _,grownCap_le_maxLen w _ _ _ (by simp only[maxLen];omega), ?_⟩
 have acf:¬(281474976710656<Builtin.nextslicecap (n+m) cap*i.bytes):=by
  have h1:=s7 (ab:=n+m) (old:=cap) (by omega);have h2:Builtin.nextslicecap (n+m) cap*i.bytes<=(2*(n+m))*i.bytes:=Nat.mul_le_mul_right _ h1;rw[Nat.mul_assoc]at h2;omega
 have afa:¬(9223372036854775807<(n:Int)+(m:Int)):=by omega
 have aot:∀X:Array Value,olds.toArray++(bW.toArray++X)=(olds++(bW++X.toList)).toArray:=λX=>by
  apply toList_inj.1;simp
 have hq:¬((Question.appendCap (n+m) cap e).forced=true):=by simp[Question.forced]
 rcases hzero with⟨e',hd⟩|hd;simp[Builtin.append_,run_underlying ht,run_underlying hd,sizeOf,typeInfo,hi,bK,n7,afa,acf,hold,kW,zeroValue,hz,newRow];rw[if_neg hq,aot];rfl;simp[Builtin.append_,run_underlying ht,run_underlying hd,sizeOf,typeInfo,hi,bK,n7,afa,acf,hold,kW,zeroValue,hz,newRow];rw[if_neg hq,aot];rfl
theorem aou(hs:Sat ρ H G w){id:Nat}{c:a8}{e:TypeId}(ho:H id=some (.aq c e)):qo (bd ρ H G) w c (ρ id):=by
 have⟨a,cap,h1,h2,h3,h4⟩:=hs.obj id _ ho;rcases h4 with rfl|⟨b,o,cells,fr,us,rfl,h5,h6,h7,h8⟩;exact⟨a,0,λ_ _=>undef,h1,h2,h3,λh0=>by omega⟩;refine⟨_,cap,us,h1,h2,h3,λ_=>⟨b,o,rfl,(Array.getElem?_eq_some_iff.1 h5).1,λi j hi hj=> ?_⟩⟩;have⟨h9,uP⟩:=h8 i j hi hj;exact⟨by rw[dJ h5];exact h9,uP⟩
theorem akx{sh:Shape}{size:Nat}{x:AV}{k:a8->Option Nat->RM b8}{v:Value}{q:b8}(h:(za sh size x k).eval H=some q)(hs:Sat ρ H G w)(hd:ak ρ H (bd ρ H G) w x v)(h1:1<=size):
 ∃c idy,(k c idy).eval H=some q/\(c.size=size->∃bW,Src P (bd ρ H G) w size c v bW):=by
 unfold za at h;split at h;rename_i s;obtain rfl:=fP hd;refine⟨_,_,h,λcq=> ?_⟩;simp only[a8.size]at cq;subst cq;exact aos;have⟨c,idy,h2,h3⟩:=vX h hs hd;exact⟨c,idy,h2,λcq=>u6 h3 cq h1⟩
theorem tg{c d:a8}{size:Nat}{olds bW rest:List Value}(hc:c.size=size)(hdz:d.size=size)(_h1:1<=size)(ho:olds.length=c.n*size)(_hn:bW.length=d.n*size)
 (h2:∀i j,i<c.n->j<size->∃u,olds[i*size+j]? =some u/\bg O w (c.cell i j) u) (h3:∀i j,i<d.n->j<size->∃u,bW[i*size+j]? =some u/\bg O w (d.cell i j) u) (pre:List Value):
 ∀i j,i<(dI c d).n->j<(dI c d).size->(pre++(olds++bW++rest))[pre.length+i*(dI c d).size+j]? =some ((pre++(olds++bW++rest)).getD (pre.length+i*(dI c d).size+j) undef)/\
  bg O w ((dI c d).cell i j) ((pre++(olds++bW++rest)).getD (pre.length+i*(dI c d).size+j) undef):=by
 intro i j hi hj;have cq:(dI c d).size=size:=by rw[n6 c d (by omega),hc]
 rw[wb]at hi;rw[cq]at hj ⊢
 have ad:∃u,(pre++(olds++bW++rest))[pre.length+i*size+j]? =some u/\bg O w ((dI c d).cell i j) u:=by
  rw[add_assoc,getElem?_append_right (by omega),Nat.add_sub_cancel_left,append_assoc];by_cases bA:i<c.n;have⟨u,g1,g2⟩:=h2 i j bA hj;refine⟨u, ?_,by rw[aaO c d j bA];exact g2⟩;rw[getElem?_append_left (getElem?_eq_some_iff.1 g1).1];exact g1;have⟨u,g1,g2⟩:=h3 (i - c.n) j (by omega) hj;refine⟨u, ?_,by rw[aaP c d j bA];exact g2⟩;have hm:c.n*size+(i - c.n)*size=i*size:=by rw[<-add_mul];congr 1;omega
  rw[getElem?_append_right (by omega)];rw[show i*size+j - olds.length=(i - c.n)*size+j from by omega];rw[getElem?_append_left (getElem?_eq_some_iff.1 g1).1];exact g1
 have⟨u,g1,g2⟩:=ad;have bA:=(getElem?_eq_some_iff.1 g1).1;have g1':=g1;rw[iB _ _ undef bA]at g1';simp only[Option.some.injEq]at g1';exact⟨iB _ _ _ bA,by rw[g1'];exact g2⟩
theorem afb{t t' ty:TypeId}{x y:AV}{vx vy:Value}{q:b8}(h:(aax P t x y).eval H=some q)(hn:bT q.ab)(hs:Sat ρ H G w)
 (hx:ak ρ H (bd ρ H G) w x vx) (hy:ak ρ H (bd ρ H G) w y vy) (hzero:(∃e',P.underlying t'=some (.slice e'))\/P.underlying t'=some .string) {base:Nat} (hb:∀i,i<q.new.length->H (base+i)=none):
 ∃v w',(Builtin.append_ #[t,t'] ty #[vx,vy]).run P w=.ok v w'/\Good ρ H G w (di H q.up base q.new) (q.r base) v w':=by
 unfold aax at h;split at h;rename_i e ht;split at h;rename_i i hi;simp only[]at h;rw[cond_eq_ite]at h;split at h;rename_i hc;simp only[and_eq_true]at hc;have⟨⟨⟨c1,cb⟩,c2⟩,c3⟩:=hc;have c1:=le_of_ble_eq_true c1;have cb:=le_of_ble_eq_true cb
 obtain⟨z,hz,hzs,hz1⟩:∃z,i.zero=some z/\z.cells.size=i.size/\∀u∈z.cells.toList,u.oneCell'=true:=by
  cases hz:i.zero with
  |none=>simp[hz]at c3
  |some z=>
   simp only[hz,Option.any_some,and_eq_true,beq_iff_eq,all_eq_true]at c3;exact⟨z,rfl,c3.1,c3.2⟩
 have⟨d,idy,h1,pI⟩:=akx (P:=P) h hs hy c1;rw[cond_eq_ite]at h1;split at h1;rename_i hds;have hds:d.size=i.size:=by simpa using hds
 have⟨bW,src⟩:=pI hds;split at h1;simp only[RM.eval,Option.some.injEq]at h1;subst h1;have ka:H base=none:=by simpa using hb 0 (by simp)
 have hsm:d.n*i.bytes<=140737488355328:=hn.1;unfold ak at hx;obtain⟨a,rfl⟩:=hx;simp only[jG];by_cases hm:d.n=0;have kb:bW=[]:=List.eq_nil_of_length_eq_zero (by rw[src.length,hm];simp);refine⟨.slice a (0+d.n) 0,w,gH ht hi hzero src.len (src.first w rfl) (by omega) (λx _=>by rw[kb];rfl) (λ_=>rfl), ?_⟩;rw[zero_add];exact tc hs ka hm a;have⟨n9,g1,g2,g3⟩:=n8 (ty:=ty) (olds:=[]) (a:=a) (n:=0) (cap:=0) ht hi hz hzero src.len (by cases a<;>simp[Builtin.firstCells,loadCells,loadCellsFrom]) (src.first w.drew rfl) (by omega) (by rw[zero_add];exact hsm) cb;refine⟨_,_,g3, ?_⟩;rw[zero_add]at *;simp only[nil_append];refine mj (w1:=w.drew) hs rfl rfl rfl rfl ka g1 g2 ?_ (λi' j'=>(bW++(Builtin.zeroCells z.cells (n9 - d.n)).toList).getD (i'*d.size+j') undef) (λi' j' fG kq=> ?_) (λu hu=>(mem_append.1 hu).elim (src.one u) (zp hz1 _ u));simp only[length_append,src.length,length_toList,size_zeroCells,hzs,hds];rw[<-add_mul];exact Nat.mul_le_mul_right _ (by omega);have⟨u,k1,k2⟩:=src.den i' j' fG (by omega);rw[<-hds]at k1;have bA:=(getElem?_eq_some_iff.1 k1).1;have k3:(bW++(Builtin.zeroCells z.cells (n9 - d.n)).toList)[i'*d.size+j']? =some u:=by rw[getElem?_append_left bA];exact k1
 have k4:=k3;rw[iB _ _ undef (getElem?_eq_some_iff.1 k3).1]at k4;simp only[Option.some.injEq]at k4;rw[k4];exact⟨k3,k2⟩;rename_i idx;simp only[RM.eval]at h1;split at h1;rename_i c e' ho;rw[cond_eq_ite]at h1;split at h1;rename_i hc;simp only[and_eq_true,beq_eq]at hc;obtain⟨⟨qq,rfl⟩,_⟩:=hc;simp only[RM.eval,Option.some.injEq]at h1;subst h1;have ka:H base=none:=by simpa using hb 0 (by simp)
 have hsm:(c.n+d.n)*i.bytes<=140737488355328:=hn.1;have ach:idx≠base:=λe=>by rw[<-e,ho]at ka;cases ka
 unfold ak aO at hx;have⟨_,o,dP,hv⟩:=hx;rw[ho]at dP;cases dP;obtain rfl:=hv c e' rfl;have⟨olds,we⟩:=u6 (P:=P) (aou hs ho) qq c1;have⟨a,cap,r1,r2,r3,r4⟩:=hs.obj idx _ ho;have hcd:d.size=c.size:=by omega
 have aov:=n6 c d hcd;have han:=wb c d;have hmul:(c.n+d.n)*i.size=c.n*i.size+d.n*i.size:=add_mul _ _ _;simp only[aiF _ _ _ _ ach];by_cases n7:c.n+d.n<=cap;rcases r4 with rfl|⟨b,o,cells,fr,us,rfl,q1,q2,q3,q4⟩
 have hd0:d.n=0:=by omega
 have kb:bW=[]:=List.eq_nil_of_length_eq_zero (by rw[src.length,hd0];simp);refine⟨.slice a (c.n+d.n) 0,w,by rw[r1];exact gH ht hi hzero src.len (src.first w rfl) n7 (λx _=>by rw[kb];rfl) (λ_=>rfl), ?_⟩;have st:=fz (ρ:=ρ) (G:=G) (w:=w) ho;refine Good.after st (λb hb=>fA hb) ?_;rw[<-han];exact tc (hs.kill ho) (by simp[aF,Ne.symm ach,ka]) (by omega) a;by_cases yu:cap=0;subst yu;have hd0:d.n=0:=by omega
 have kb:bW=[]:=List.eq_nil_of_length_eq_zero (by rw[src.length,hd0];simp);refine⟨.slice (some ⟨b,o,none⟩) (c.n+d.n) 0,w,by rw[r1];exact gH ht hi hzero src.len (src.first w rfl) n7 (λx _=>by rw[kb];rfl) (λ_=>rfl), ?_⟩;have st:=fz (ρ:=ρ) (G:=G) (w:=w) ho;refine Good.after st (λb hb=>fA hb) ?_;rw[<-han];exact tc (hs.kill ho) (by simp[aF,Ne.symm ach,ka]) (by omega) _;have mR:fp (ρ idx)=some b:=by rw[r1];simp[fp,yu]
 have azp:(c.n+d.n)*i.size<=cap*i.size:=Nat.mul_le_mul_right _ n7;have bK:o+c.n*i.size+bW.length<=cells.length:=by rw[src.length];rw[qq]at q3;omega
 refine⟨.slice (some ⟨b,o,none⟩) (c.n+d.n) cap,World.cV w b (.cells (cells.take (o+c.n*i.size)++bW++cells.drop (o+c.n*i.size+bW.length)).toArray e' fr), ?_, ?_⟩;rw[r1];refine gH ht hi hzero src.len (src.first w rfl) n7 (λx hx=> ?_) (λhx=>by cases hx);cases hx;rw[bp];have:=cu (P:=P) (o+c.n*i.size) bW 0 q1 q2.unm (by omega) src.one;simpa using this;rw[<-han]
 have zo:(cells.take (o+c.n*i.size)++bW++cells.drop (o+c.n*i.size+bW.length)).length=cells.length:=by
  simp only[length_append,length_take,length_drop];omega
 have ast:cells.take (o+c.n*i.size)++bW++cells.drop (o+c.n*i.size+bW.length)=cells.take o++((cells.drop o).take (c.n*i.size)++bW++cells.drop (o+c.n*i.size+bW.length)):=by
  rw[List.take_add];simp only[append_assoc]
 have hto:(cells.take o).length=o:=by simp;omega
 refine auX hs ho rfl ka mR q1 (q2.over src.one bK) (by omega) r3 (by rw[zo,aov];exact q3) (λi' j'=>(cells.take o++((cells.drop o).take (c.n*i.size)++bW++cells.drop (o+c.n*i.size+bW.length))).getD ((cells.take o).length+i'*(dI c d).size+j') undef) (λi' j' fG kq=> ?_)
 have:=tg (O:=bd ρ H G) (w:=w) (c:=c) (d:=d) (size:=i.size) (olds:=(cells.drop o).take (c.n*i.size)) (bW:=bW) (rest:=cells.drop (o+c.n*i.size+bW.length)) qq hds c1 (by simp;omega) src.length (λi2 j2 hi2 u7=>by
  have⟨k1,k2⟩:=q4 i2 j2 hi2 (by omega);refine⟨_, ?_,k2⟩
  have hb2:i2*i.size+j2<c.n*i.size:=by
   have:(i2+1)*i.size<=c.n*i.size:=Nat.mul_le_mul_right _ (by omega);rw[Nat.succ_mul]at this;omega
  rw[getElem?_take,if_pos hb2,List.getElem?_drop,<-add_assoc];rw[qq]at k1;exact k1) src.den (cells.take o) i' j' fG kq
 rw[ast];rw[hto]at this ⊢;exact this;have⟨n9,g1,g2,g3⟩:=n8 (ty:=ty) (olds:=olds) (a:=a) (n:=c.n) (cap:=cap) ht hi hz hzero src.len (by rw[<-r1];exact we.first w.drew rfl) (src.first w.drew rfl) n7 hsm cb;refine⟨_,_,by rw[r1];exact g3, ?_⟩;have st:=fz (ρ:=ρ) (G:=G) (w:=w) ho;refine Good.after st (λb hb=>fA hb) ?_;rw[<-han];refine mj (w1:=w.drew) (hs.kill ho) rfl rfl rfl rfl (by simp[aF,Ne.symm ach,ka]) (by omega) g2 ?_ (λi' j'=>(olds++bW++(Builtin.zeroCells z.cells (n9 - (dI c d).n)).toList).getD (i'*(dI c d).size+j') undef) (λi' j' fG kq=> ?_) (λu hu=>(mem_append.1 hu).elim (λhu=>(mem_append.1 hu).elim (we.one u) (src.one u)) (zp hz1 _ u));simp only[length_append,src.length,we.length,length_toList,size_zeroCells,hzs,aov,qq,han];rw[<-add_mul,<-add_mul];exact Nat.mul_le_mul_right _ (by omega);have:=tg (O:=bd ρ H G) (w:=w) (c:=c) (d:=d) (size:=i.size) (olds:=olds) (bW:=bW) (rest:=(Builtin.zeroCells z.cells (n9 - (dI c d).n)).toList) qq hds c1 we.length src.length we.den src.den [] i' j' fG kq;simp only[nil_append,length_nil,zero_add]at this;exact⟨this.1,this.2.step st.gy st.heap st.size⟩;cases h1;cases h1;rename_i idx lo n;simp only[RM.eval]at h1;split at h1;rename_i c e' ho;rw[cond_eq_ite]at h1;split at h1;rename_i qq;have qq:c.size=i.size:=by simpa using qq
 simp only[RM.eval,Option.some.injEq]at h1;subst h1;have n7:lo+n+d.n<=c.n:=hn.1;obtain⟨g0,a,cap,a',g1,g2,g3,rfl,g4,g5⟩:=jF hs ho hx;have⟨w',k1,k2,k3⟩:=rk (P:=P) hs ho (lo:=lo+n) (k:=d.n) (d:=d) n7 (le_refl _) (by omega) (bW:=bW) (by rw[src.length,qq]) src.one (λi' j' fG kq=>by rw[qq]at *;exact src.den i' j' fG kq);have⟨z1,z2,_⟩:=um c d n7 (le_refl _);refine⟨.slice a' (n+d.n) (cap - lo),w',gH ht hi hzero src.len (src.first w rfl) (by omega) (λx hx=> ?_) (λhx=> ?_), ?_⟩;refine k1 a cap _ g1 ?_;by_cases h0:d.n=0;exact .inl h0;refine .inr ?_;have cX:cap≠lo:=by omega
 rw[g4 cX]at hx;obtain⟨b,o,rfl⟩:=g5 (by omega);simp only[map_some,bp,Option.some.injEq]at hx ⊢;subst hx;rw[bp,qq,add_mul,add_assoc];refine k2 ?_;by_cases cX:cap=lo;omega;rw[g4 cX]at hx;obtain⟨b,o,rfl⟩:=g5 (by omega);cases hx;simp only[gl];refine k3 _ _ (λw2=> ?_);unfold ak aO;refine⟨rfl,.aq (dQ c (lo+n) d.n d) e',by simp[aF],λc1 e1 hc=> ?_⟩;cases hc;exact⟨by rw[z1];omega,a,cap,a',by rw[z1];exact g1,by omega,rfl,by rw[z2];exact g4⟩;cases h1;cases h1;cases h1;cases h1;cases h;cases h;cases h
end
section
variable{P:Program}{w:World}{b:Nat}{es:Array MapEntry}{clock:Nat}{ck:CK}{m:List (Int×ck.V)}
theorem jC.get(h:jC ck m es.toList clock){j:Nat}{e:MapEntry}(hj:es.toList[j]? =some e):∃k v,m[j]? =some (k,v)/\e.ad=.int .i64 k/\e.val=ck.val v:=by
 have h1:=congrArg (λl=>l[j]?) h.eq;simp only[getElem?_map,hj,map_some]at h1;cases hm:m[j]? with
 |none=>rw[hm]at h1;cases h1
 |some p=>
  rw[hm]at h1;simp only[map_some,Option.some.injEq,Prod.mk.injEq]at h1;exact⟨p.1,p.2,rfl,h1.1,h1.2⟩
theorem jC.ad(h:jC ck m es.toList clock):∀e∈es.toList,MapKept.IsKey (.int .i64) e.ad:=by
 intro e he;have⟨j,hj⟩:=List.getElem?_of_mem he;have⟨k,v,_,h2,_⟩:=h.get hj;rw[h2];rfl
theorem qs{V:Type}:∀{m:List (Int×V)} {j:Nat} {k:Int} {v:V},(m.map (·.1)).Nodup->m[j]? =some (k,v)->m.find? (λp=>p.1==k)=some (k,v)
 |[],j,k,v,_,h=>by simp at h
 |p::m,0,k,v,hn,h=>by
  simp only[List.getElem?_cons_zero,Option.some.injEq]at h;subst h;simp
 |p::m,j+1,k,v,hn,h=>by
  simp only[List.getElem?_cons_succ]at h;simp only[map_cons,List.nodup_cons]at hn
  have cX:(p.1==k)=false:=by
   rw[beq_eq_false_iff_ne];rintro rfl;exact hn.1 (mem_map.2 ⟨_,List.mem_of_getElem? h,rfl⟩)
  rw[List.find?_cons,cX];exact qs hn.2 h
theorem aiR{V:Type}{m:List (Int×V)}{k:Int}(h:∀p∈m,p.1≠k):m.find? (λp=>p.1==k)=none:=
 List.find?_eq_none.2 λp hp=>by simpa using h p hp
theorem jC.find(h:jC ck m es.toList clock){kt:TypeId}(hk:P.underlying kt=some (.int .i64))(n:Int):
 ((Instr.findKey kt (.int .i64 n) es.toList).run P w=.ok none w/\cW m n=none/\qa m n=false)\/
 ∃j e v,(Instr.findKey kt (.int .i64 n) es.toList).run P w=.ok (some (j,ck.val v)) w/\es.toList[j]? =some e/\e.ad=.int .i64 n/\e.val=ck.val v/\m[j]? =some (n,v)/\cW m n=some v/\qa m n=true:=by
 rcases MapKept.findNow_spec (d:=.int .i64) (k:=.int .i64 n) rfl es.toList 0 h.ad with⟨h1,h2⟩|⟨j,e,h1,h2,h3⟩
 have te:∀p∈m,p.1≠n:=by
  intro p hp e;have⟨j,hj⟩:=List.getElem?_of_mem hp;have bK:es.toList.length=m.length:=by have:=congrArg List.length h.eq;simpa using this
  have bA:j<es.toList.length:=by rw[bK];exact(getElem?_eq_some_iff.1 hj).1
  have⟨k,v,g1,g2,_⟩:=h.get (getElem?_eq_getElem bA);rw[hj]at g1;cases g1;exact h2 _ (getElem_mem bA) (by rw[g2];exact congrArg _ e)
 refine .inl ⟨MapKept.run_findKey hk h1,by simp[cW,aiR te], ?_⟩;simp only[qa,List.any_eq_false,beq_iff_eq];exact te;have⟨k,v,g1,g2,g3⟩:=h.get h2;rw[h3]at g2;cases g2;rw[zero_add]at h1;refine .inr ⟨j,e,v,by rw[<-g3];exact MapKept.run_findKey hk h1,h2,h3,g3,g1,by simp[cW,qs h.keys g1], ?_⟩;simp only[qa,List.any_eq_true,beq_iff_eq];exact⟨_,List.mem_of_getElem? g1,rfl⟩
theorem afc(h:jC ck m es.toList clock)(hb:w.heap[b]? =some (.map es clock)){t kt et:TypeId}(ht:P.underlying t=some (.map kt et))(hk:P.underlying kt=some (.int .i64)){z:Value}(hz:(zeroValue et).run P w=.ok z w)(n:Int)(ok:Bool):
 (Instr.lookup t (.map (some b)) (.int .i64 n) ok).run P w=.ok (if ok=true then .tuple #[((cW m n).map ck.val).getD z,.bool (qa m n)]else((cW m n).map ck.val).getD z) w:=by
 have hc:=MapKept.run_checkKey (w:=w) hk (k:=.int .i64 n) rfl es.isEmpty 9999;rcases h.find (w:=w) hk n with⟨h1,h2,h3⟩|⟨j,e,v,h1,_,_,_,_,h2,h3⟩;simp[Instr.lookup,run_underlying ht,MapKept.run_getObj_map hb,hc,h1,h2,h3,hz,Result.andThen];simp[Instr.lookup,run_underlying ht,MapKept.run_getObj_map hb,hc,h1,h2,h3,Result.andThen]
theorem stays(n:Int):(Instr.keyThatStays (.int .i64 n) (.int .i64 n)).run P w=.ok (.int .i64 n) w:=by
 simp[Instr.keyThatStays,Instr.sameBits]
theorem rm(m:List (Int×ck.V))(k:Int)(v:ck.V):((m.map λp=>if p.1==k then(k,v)else p).map (·.1))=m.map (·.1):=by
 rw[List.map_map];refine List.map_congr_left λp _=> ?_;simp only[Function.comp];by_cases h:p.1==k;rw[if_pos h];exact(beq_iff_eq.1 h).symm;rw[if_neg h]
theorem jC.put(h:jC ck m es.toList clock){n:Int}{v:ck.V}(hv:ck.fits v):
 (qa m n=false->jC ck (l8 m n v) (es.push {ad:=.int .i64 n,val:=ck.val v,born:=clock}).toList (clock+1))/\
 ∀(j:Nat) (e:MapEntry),es.toList[j]? =some e->e.ad=.int .i64 n->qa m n=true->
  jC ck (l8 m n v) (es.modify j λe=>{e with ad:=.int .i64 n,val:=ck.val v}).toList clock:=by
 constructor;intro te;have axC:∀p∈m,p.1≠n:=by simpa[qa]using te
 unfold l8;rw[if_neg (by rw[te];simp)];refine⟨?_, ?_, ?_, ?_, ?_⟩;simp only[Array.toList_push,map_append,h.eq,map_cons,map_nil];rw[map_append,nodup_append];refine⟨h.keys,by simp,λa ha b hb=> ?_⟩;simp only[map_cons,map_nil,mem_singleton]at hb;obtain⟨p,hp,rfl⟩:=mem_map.1 ha;rw[hb];exact axC p hp;rw[Array.toList_push,map_append,nodup_append];refine⟨h.vQ,by simp,λa ha b hb=> ?_⟩;simp only[map_cons,map_nil,mem_singleton]at hb;obtain⟨e,he,rfl⟩:=mem_map.1 ha;have:=h.old e he;omega;intro e he;rw[Array.toList_push,mem_append]at he;rcases he with he|he;have:=h.old e he;omega;rw[mem_singleton.1 he];exact Nat.lt_succ_self _;intro p hp;rcases mem_append.1 hp with hp|hp;exact h.fits p hp;rw[mem_singleton.1 hp];exact hv;intro j e hj he axD;have⟨k,u,g1,g2,g3⟩:=h.get hj;rw[he]at g2;cases g2;have bA:j<es.toList.length:=(getElem?_eq_some_iff.1 hj).1;unfold l8;rw[if_pos axD]
 have axE:(es.modify j λe=>{e with ad:=.int .i64 n,val:=ck.val v}).toList=es.toList.set j {e with ad:=.int .i64 n,val:=ck.val v}:=by
  refine List.ext_getElem? λi=> ?_;simp only[Array.toList_modify,List.getElem?_modify,getElem?_set];by_cases lI:j=i;subst lI;have asq:j<es.size:=by simpa using bA
  rw[hj];simp[asq];simp[lI]
 rw[axE]
 have nX:(m.map λp=>if p.1==n then(n,v)else p)=m.set j (n,v):=by
  refine List.ext_getElem? λi=> ?_;rw[getElem?_map,getElem?_set];by_cases lI:j=i;subst lI;have asu:j<m.length:=(getElem?_eq_some_iff.1 g1).1;rw[g1];simp[asu];rw[if_neg lI];cases hm:m[i]? with
  |none=>rfl
  |some p=>
   have cX:(p.1==n)=false:=by
    rw[beq_eq_false_iff_ne];intro e1;have⟨hi1,hi2⟩:=getElem?_eq_some_iff.1 hm;have⟨hj1,u7⟩:=getElem?_eq_some_iff.1 g1;refine lI ((List.getElem_inj (h₀:=by simpa using hj1) (h₁:=by simpa using hi1) h.keys).1 ?_);simp only[List.getElem_map,hi2,u7,e1]
   rw[map_some,cX];rfl
 refine⟨?_,by rw[rm];exact h.keys, ?_, ?_, ?_⟩;rw[nX,List.map_set,List.map_set,h.eq];rw[List.map_set]
 have:(es.toList.map (·.born)).set j e.born=es.toList.map (·.born):=by
  refine List.ext_getElem? λi=> ?_;rw[getElem?_set];by_cases lI:j=i;subst lI;rw[if_pos rfl,if_pos (by simpa using bA),getElem?_map,hj];rfl;rw[if_neg lI]
 rw[this];exact h.vQ;intro x hx;rcases List.mem_or_eq_of_mem_set hx with hx|rfl;exact h.old x hx;exact h.old e (List.mem_of_getElem? hj);intro p hp;obtain⟨q,hq,rfl⟩:=mem_map.1 hp;split;exact hv;exact h.fits q hq
theorem yw(h:jC ck m es.toList clock)(hb:w.heap[b]? =some (.map es clock)){t kt et:TypeId}(ht:P.underlying t=some (.map kt et))(hk:P.underlying kt=some (.int .i64))(n:Int){v:ck.V}(hv:ck.fits v):
 ∃ml wg,(Instr.mapUpdate t (.map (some b)) (.int .i64 n) (ck.val v)).run P w=.ok () {w with heap:=w.heap.setIfInBounds b (.map ml wg)}/\jC ck (l8 m n v) ml.toList wg:=by
 have hc:=MapKept.run_checkKey (w:=w) hk (k:=.int .i64 n) rfl false 9999;rcases h.find (w:=w) hk n with⟨h1,h2,h3⟩|⟨j,e,u,h1,g1,g2,g3,g4,h2,h3⟩;exact⟨_,_,by simp[Instr.mapUpdate,run_underlying ht,MapKept.run_getObj_map hb,hc,h1,Result.andThen,MapKept.run_setObj_map _ hb],(h.put hv).1 h3⟩
 have axF:((es[j]?).map (·.ad)).getD (.int .i64 n)=.int .i64 n:=by
  rw[show es[j]? =some e from by rw[<-Array.getElem?_toList];exact g1];exact g2
 refine⟨_,_, ?_,(h.put hv).2 j e g1 g2 h3⟩;simp[Instr.mapUpdate,run_underlying ht,MapKept.run_getObj_map hb,hc,h1,Result.andThen,MapKept.run_setObj_map _ hb,axF,stays]
end
section
variable{ρ aQ:Nat->Value}{H H':aV}{G O O':Nat->Prop}{w w':World}{P:Program}
theorem aci{t:TypeId}(h:agy P t=true):P.underlying t=some (.int .i64):=by
 unfold agy at h;split at h;assumption;cases h
theorem aiS{t:TypeId}{ck:CK}(h:vO P t ck=true):(zeroValue t).run P w=.ok (ck.val ck.d) w/\ck.fits ck.d:=by
 have ad:∀v,(P.info? t).bind (·.zero)=some v->(zeroValue t).run P w=.ok v w:=by
  intro v hv;have⟨i,h1,h2⟩:=bind_eq_some_iff.1 hv;simp[zeroValue,typeInfo,h1,h2]
 unfold vO at h;rw[and_eq_true]at h
 replace h:=h.2
 split at h;rename_i k' k hz;obtain rfl:=bC h;exact⟨ad _ hz,trivial⟩;rename_i hz;exact⟨ad _ hz,trivial⟩;rename_i s hz
 have:s=empty:=by
  have:=Nat.eq_of_beq_eq_true h;have⟨⟨l⟩⟩:=s;cases l with
  |nil=>rfl
  |cons a l=>simp[ByteArray.size]at this
 subst this;exact⟨ad _ hz,trivial⟩;rename_i cs k n hz;simp only[and_eq_true]at h;have h1:=nZ k _ h.1;have h2:=Nat.eq_of_beq_eq_true h.2;refine⟨?_,by show(replicate n (0:Int)).length=n;simp⟩;rw[ad _ hz];congr 1;show Value.agg cs=.agg ((replicate n (0:Int)).map (Value.int k)).toArray;rw[<-h2,<-h1];cases h
theorem aaQ{ck:CK}{v:ck.V}(h:ck.fits v)(hp:ck.av v≠.s .bk):ak ρ H O w (ck.av v) (ck.val v):=by
 cases ck with
 |int k=>exact aJ (.int _ _)
 |bool=>exact aJ (.bool _)
 |ag=>exact aJ (.ag _)
 |arr k n=>
  show ak ρ H O w (.aw k n v) _;unfold ak;exact⟨h,rfl⟩
 |_=>exact(hp rfl).elim
theorem rp{t:TypeId}{ck:CK}(h:vO P t ck=true)(v:ck.V):ck.av v≠.s .bk:=by
 unfold vO at h;rw[and_eq_true]at h
 replace h:=h.1
 cases ck<;>first
  |(cases h;done)
  |(intro e;cases e;done)
theorem aaR(hs:Sat ρ H G w){id b:Nat}{ck:CK}{m:List (Int×ck.V)}(ho:H id=some (.map ck m))(hb:ρ id=.map (some b)):∃es clock,w.heap[b]? =some (.map es clock)/\jC ck m es.toList clock:=by
 have⟨b',es,clock,h1,h2,h3⟩:=hs.obj id _ ho;rw[hb]at h1;cases h1;exact⟨es,clock,h2,h3⟩
theorem aiT{ck:CK}{m:List (Int×ck.V)}(h:∀p∈m,ck.fits p.2){n:Int}{v:ck.V}(hv:cW m n=some v):ck.fits v:=by
 simp only[cW,map_eq_some_iff]at hv;obtain⟨p,hp,rfl⟩:=hv;exact h p (List.mem_of_find?_eq_some hp)
theorem afd{t:TypeId}{x i:AV}{ok:Bool}{vx vi:Value}{q:b8}(h:(aay P t x i ok).eval H=some q)(hn:bT q.ab)(hs:Sat ρ H G w)(hx:ak ρ H (bd ρ H G) w x vx)(hi:ak ρ H (bd ρ H G) w i vi):
 fI P ρ H (bd ρ H G) w q (Instr.lookup t vx vi ok):=by
 unfold aay at h;split at h;rename_i kt et id k lit n ht nT;rw[cond_eq_ite]at h;split at h;rename_i hk;simp only[and_eq_true]at hk;obtain rfl:=nN hk.2;obtain rfl:=cG nT hi;simp only[RM.eval]at h;split at h;rename_i ck m ho;rw[cond_eq_ite]at h;split at h;rename_i hz;unfold ak aO at hx;obtain⟨b,hb,rfl,_⟩:=hx;have⟨es,clock,h1,h2⟩:=aaR hs ho hb;have⟨hz1,hz2⟩:=aiS (w:=w) hz;have jf:=afc h2 h1 ht (aci hk.1) hz1 n ok
 have kX:ak ρ H (bd ρ H G) w (ck.av ((cW m n).getD ck.d)) (((cW m n).map ck.val).getD (ck.val ck.d)):=by
  cases hg:cW m n with
  |none=>exact aaQ hz2 (rp hz _)
  |some v=>exact aaQ (aiT h2.fits hg) (rp hz _)
 refine aP h (λ_=>⟨_,jf, ?_⟩) hn;cases ok;exact kX;simp only[cond_true,if_true];unfold ak;exact⟨[_,_],rfl,aI.2 ⟨_,_,rfl,kX,aI.2 ⟨_,_,rfl,aJ (.bool _),bo.2 rfl⟩⟩⟩;cases h;cases h;cases h;cases h
theorem asv{ck:CK}{a:AV}{y:ck.V}{v:Value}(h:ck.rdv a=some y)(hd:ak ρ H O w a v):v=ck.val y/\ck.fits y:=by
 cases ck with
 |int k=>
  simp only[CK.rdv]at h;split at h;rw[cond_eq_ite]at h;split at h;rename_i hk;obtain rfl:=bC hk;cases h;have:=aC (by simp) hd;cases this;exact⟨rfl,trivial⟩;cases h;rw[cond_eq_ite]at h;split at h;rename_i hk;obtain rfl:=bC hk;cases h;have:=aC (by simp) hd;cases this;exact⟨rfl,trivial⟩;cases h;cases h
 |bool=>
  simp only[CK.rdv]at h;split at h;cases h;have:=aC (by simp) hd;cases this;exact⟨rfl,trivial⟩;cases h;have:=aC (by simp) hd;cases this;exact⟨rfl,trivial⟩;cases h
 |ag=>
  simp only[CK.rdv]at h;split at h;cases h;have:=aC (by simp) hd;cases this;exact⟨rfl,trivial⟩;cases h
 |arr k n=>
  simp only[CK.rdv]at h;split at h;rw[cond_eq_ite]at h;split at h;rename_i hk;simp only[and_eq_true]at hk;obtain rfl:=bC hk.1;obtain rfl:=Nat.eq_of_beq_eq_true hk.2;cases h;unfold ak at hd;exact⟨hd.2,hd.1⟩;cases h;cases h
 |_=>cases h
theorem pT{t:TypeId}{x i a:AV}{vx vi va:Value}{q:b8}(h:(ql P t x i a).eval H=some q)(hs:Sat ρ H G w)(hx:ak ρ H (bd ρ H G) w x vx)(hi:ak ρ H (bd ρ H G) w i vi)(ha:ak ρ H (bd ρ H G) w a va):
 ∃w',(Instr.mapUpdate t vx vi va).run P w=.ok () w'/\∀base,Good ρ H G w (di H q.up base q.new) (q.r base) undef w':=by
 unfold ql at h;split at h;rename_i kt et id k lit n ht nT;rw[cond_eq_ite]at h;split at h;rename_i hk;simp only[and_eq_true]at hk;obtain rfl:=nN hk.2;obtain rfl:=cG nT hi;simp only[RM.eval]at h;split at h;rename_i ck m ho;split at h;rename_i y hy;simp only[RM.eval,Option.some.injEq]at h;subst h;obtain⟨rfl,hf⟩:=asv hy ha;unfold ak aO at hx;obtain⟨b,hb,rfl,_⟩:=hx;have⟨es,clock,h1,h2⟩:=aaR hs ho hb;have⟨ml,wg,h3,h4⟩:=yw h2 h1 ht (aci hk.1) n hf;refine⟨_,h3,λbase=> ?_⟩;simp only[gl];exact Good.write hs ho rfl rfl (by rw[hb];rfl) (λ_ _ hc=>by cases hc) ⟨b,ml,wg,hb,fi h1,h4⟩ cZ;cases h;cases h;cases h;cases h
theorem acj{t:TypeId}{r:Option AV}{q:b8}(h:(vP P t r).eval H=some q)(hs:Sat ρ H G w){base:Nat}(hb:∀i,i<q.new.length->H (base+i)=none):
 r=none/\∃v w',(Instr.makeMap t none).run P w=.ok v w'/\Good ρ H G w (di H q.up base q.new) (q.r base) v w':=by
 unfold vP at h;split at h;split at h;rename_i ck _;simp only[RM.eval,Option.some.injEq]at h;subst h;have hn:H base=none:=by simpa using hb 0 (by simp)
 refine⟨rfl,.map (some w.heap.size),w.alloc (.map #[] 0),RowKit.run_makeMap .., ?_⟩;simp only[jG];refine Good.fresh hs hn (aa:=.map (some w.heap.size)) (w1:=w) rfl rfl rfl rfl (λb hb=>by simpa[fp]using hb.symm) ⟨w.heap.size,#[],0,rfl,(MapKept.heap_alloc w _).1,⟨rfl,by simp,by simp,by simp,by simp⟩⟩ ?_;unfold ak aO;exact⟨w.heap.size,by simp,rfl,by simp[aF]⟩;cases h;cases h
end
section
variable{ρ aQ:Nat->Value}{H H':aV}{G O O':Nat->Prop}{w w':World}{P:Program}
structure asw (P:Program) (O:Nat->Prop) (w:World) (size k:Nat) (d:a8) (v:Value) (bW:List Value):Prop where
 length:bW.length=k*size
 first:(Builtin.firstCells size k v).run P w=.ok bW.toArray w
 one:∀u∈bW,u.oneCell'=true
 den:∀i j,i<k->j<size->∃u,bW[i*size+j]? =some u/\bg O w (d.cell i j) u
theorem aky{size k:Nat}{d:a8}{v:Value}(h:qo O w d v)(hs:d.size=size)(h1:1<=size)(hk:k<=d.n):∃bW,asw P O w size k d v bW:=by
 obtain⟨a,cap,us,rfl,g1,g2,g3⟩:=h;have hn:(dY d 0 k).n=k:=by rw[pa d (zero_le _) hk];omega
 have cq:=ko d 0 k;have rl:∀i j,i<k->(dY d 0 k).cell i j=d.cell i j:=λi j hi=>by rw[kp d j (by omega),zero_add]
 have hr:qo O w (dY d 0 k) (.slice a k cap):=by
  refine⟨a,cap,us,by rw[hn],by rw[hn];omega,g2,λh0=> ?_⟩;rw[hn]at h0;have⟨b,o,e1,e2,e3⟩:=g3 (by omega);refine⟨b,o,e1,e2,λi j hi hj=> ?_⟩;rw[hn]at hi;rw[cq]at hj ⊢;rw[rl i j hi];exact e3 i j (by omega) hj
 have⟨bW,src⟩:=u6 (P:=P) hr (by rw[cq];exact hs) h1;refine⟨bW,by rw[src.length,hn], ?_,src.one,λi j hi hj=> ?_⟩;have:=src.first w rfl;rw[hn]at this;rw[<-this];cases a<;>rfl;have⟨u,e1,e2⟩:=src.den i j (by rw[hn];exact hi) hj;rw[rl i j hi]at e2;exact⟨u,e1,e2⟩
theorem akz{s:ByteArray}{k:Nat}(hk:k<=s.data.toList.length):∃bW,asw P O w 1 k (.aw .u8 (s.data.toList.map λb=>(b.toNat:Int))) (.string s) bW:=by
 refine⟨(s.data.toList.take k).map λb=>.int .u8 b.toNat,by rw[length_map,length_take];omega, ?_,λu hu=> ?_,λi j hi hj=> ?_⟩;simp only[Builtin.firstCells,Sem.run_pure];congr 1;apply toList_inj.1;rw[Array.toList_map];simp[ByteArray.data_extract];obtain⟨b,_,rfl⟩:=mem_map.1 hu;rfl;obtain rfl:j=0:=by omega
 have fG:i<s.data.toList.length:=by omega
 refine⟨.int .u8 (s.data.toList[i].toNat),by rw[Nat.mul_one,add_zero,getElem?_map,getElem?_take,if_pos hi,getElem?_eq_getElem fG];rfl, ?_⟩;simp only[a8.cell]
 have:(s.data.toList.map λb=>((b.toNat:Nat):Int)).getD i 0=(s.data.toList[i].toNat:Int):=by
  rw[List.getD,getElem?_map,getElem?_eq_getElem fG];rfl
 rw[this];exact .int _ _
theorem aiU{sh:Shape}{size:Nat}{x:AV}{k:a8->Option Nat->RM b8}{v:Value}{q:b8}(h:(za sh size x k).eval H=some q)(hs:Sat ρ H G w)(hd:ak ρ H (bd ρ H G) w x v)(h1:1<=size):
 ∃c idy,(k c idy).eval H=some q/\(c.size=size->(Builtin.lenOf v).run P w=.ok c.n w/\∀m,m<=c.n->∃bW,asw P (bd ρ H G) w size m c v bW):=by
 unfold za at h;split at h;rename_i s;obtain rfl:=fP hd;refine⟨_,_,h,λcq=> ?_⟩;simp only[a8.size]at cq;subst cq;refine⟨by simp[Builtin.lenOf,a8.n],λm hm=>akz (by simpa[a8.n]using hm)⟩;have⟨c,idy,h2,h3⟩:=vX h hs hd;refine⟨c,idy,h2,λcq=>⟨?_,λm hm=>aky h3 cq h1 hm⟩⟩;obtain⟨a,cap,us,rfl,_⟩:=h3;simp[Builtin.lenOf]
theorem mm{t t' ty e:TypeId}{sz:Nat}{a:Option Addr}{n cap m:Nat}{vy:Value}{bW:List Value}(ht:P.underlying t=some (.slice e))(hs:eh P e=some sz)
 (bK:(Builtin.lenOf vy).run P w=.ok m w) (kW:(Builtin.firstCells sz (min m n) vy).run P w=.ok bW.toArray w)
 (mY:∀x,a=some x->(storeCells x bW 0).run P w=.ok () w') (te:a=none->w'=w):
 (Builtin.copy_ #[t,t'] ty #[.slice a n cap,vy]).run P w=.ok (.int .i64 ((min m n:Nat):Int)) w':=by
 have hf:(Builtin.firstCells sz (Nat.min m n) vy).run P w=.ok bW.toArray w:=kW;cases a with
 |none=>
  rw[te rfl];simp[Builtin.copy_,run_underlying ht,run_sizeOf hs,bK,hf];rfl
 |some x=>
  have:=mY x rfl;simp[Builtin.copy_,run_underlying ht,run_sizeOf hs,bK,hf,this];rfl
theorem akA{t t' ty:TypeId}{x y:AV}{vx vy:Value}{q:b8}(h:(akg P t x y).eval H=some q)(hs:Sat ρ H G w)
 (hx:ak ρ H (bd ρ H G) w x vx) (hy:ak ρ H (bd ρ H G) w y vy):
 ∃v w',(Builtin.copy_ #[t,t'] ty #[vx,vy]).run P w=.ok v w'/\∀base,Good ρ H G w (di H q.up base q.new) (q.r base) v w':=by
 unfold akg at h;split at h;rename_i e ht;split at h;rename_i sz cq;rw[cond_eq_ite]at h;split at h;rename_i h1;have h1:=le_of_ble_eq_true h1;have⟨d,idy,h2,pI⟩:=aiU (P:=P) h hs hy h1;rw[cond_eq_ite]at h2;split at h2;rename_i hds;have hds:d.size=sz:=by simpa using hds
 have⟨bK,kb⟩:=pI hds;split at h2;rename_i id;simp only[RM.eval]at h2;split at h2;rename_i c e' ho;rw[cond_eq_ite]at h2;split at h2;rename_i qq;have qq:c.size=sz:=by simpa using qq
 simp only[RM.eval,Option.some.injEq]at h2;subst h2;have⟨bW,src⟩:=kb (min d.n c.n) (Nat.min_le_left _ _);obtain⟨a,cap,rfl,hr,hle,_⟩:=js hs ho hx;have e9:=hs.obj id _ ho;rw[hr]at e9;have⟨a2,re,g1,_,_,g4⟩:=e9;cases g1;have⟨w',k1,k2,k3⟩:=rk (P:=P) hs ho (lo:=0) (k:=min d.n c.n) (d:=d) (by omega) (by omega) (by omega) (bW:=bW) (by rw[src.length,qq]) src.one (λi' j' fG kq=>by rw[qq]at *;exact src.den i' j' fG kq);refine⟨_,w',mm ht cq bK src.first (λx hx=> ?_) (λhx=> ?_),λbase=> ?_⟩;refine k1 a cap _ hr ?_;subst hx;rcases g4 with g4|⟨b,o,_,_,_,g5,_⟩;exact .inl (by omega);cases g5;exact .inr (by simp[bp]);refine k2 ?_;subst hx;rcases g4 with g4|⟨b,o,_,_,_,g5,_⟩;omega;cases g5;simp only[gl];exact k3 _ _ (λw2=>aJ (.int _ _));cases h2;cases h2
 rename_i id lo n;simp only[RM.eval]at h2;split at h2;rename_i c e' ho;rw[cond_eq_ite]at h2;split at h2;rename_i qq;have qq:c.size=sz:=by simpa using qq
 simp only[RM.eval,Option.some.injEq]at h2;subst h2;have⟨bW,src⟩:=kb (min d.n n) (Nat.min_le_left _ _);obtain⟨g0,a,cap,a',g1,g2,g3,rfl,g4,g5⟩:=jF hs ho hx;have⟨w',k1,k2,k3⟩:=rk (P:=P) hs ho (lo:=lo) (k:=min d.n n) (d:=d) (by omega) (by omega) (by omega) (bW:=bW) (by rw[src.length,qq]) src.one (λi' j' fG kq=>by rw[qq]at *;exact src.den i' j' fG kq);refine⟨_,w',mm ht cq bK src.first (λx hx=> ?_) (λhx=> ?_),λbase=> ?_⟩;refine k1 a cap _ g1 ?_;by_cases cX:cap=lo;exact .inl (by omega);exact .inr (by rw[<-g4 cX];exact hx);refine k2 ?_;by_cases cX:cap=lo;omega;rw[g4 cX]at hx;obtain⟨b,o,rfl⟩:=g5 (by omega);cases hx;simp only[gl];exact k3 _ _ (λw2=>aJ (.int _ _));cases h2;cases h2;cases h2;cases h2;cases h;cases h;cases h
theorem mq(sh:Shape)(n:Nat):(dR sh n).n=n:=by cases sh<;>simp[dR,a8.n]
theorem aaS(sh:Shape)(n m:Nat):(dR sh n).size=(dR sh m).size:=by cases sh<;>rfl
theorem aaT(sh:Shape){n i:Nat}(j:Nat)(hi:i<n):(dR sh n).cell i j=(dR sh 1).cell 0 j:=by
 cases sh<;>simp only[dR,a8.cell,List.getD,List.getElem?_replicate,hi,Nat.zero_lt_one,if_true]
theorem aow{x:SV}{v:Value}(h:asf x v=true):bg O w x v:=by
 unfold asf at h;split at h;simp only[and_eq_true,beq_iff_eq]at h;obtain⟨h1,rfl⟩:=h;obtain rfl:=bC h1;exact .int _ _;simp only[beq_iff_eq]at h;subst h;exact .bool _;rename_i s s';simp only[and_eq_true,beq_eq]at h
 have e:∀t:ByteArray,t.size=0->t=empty:=λt ht=>by
  cases t with
  |mk d=>
   have:d= #[]:=Array.size_eq_zero_iff.1 ht;subst this;rfl
 rw[e s h.1,e s' h.2];exact .ag _;rename_i c;have h:c.n=0:=by simpa using h
 have:=bg.ro (O:=O) (w:=w) c none 0 (λ_ _=>undef) 0 0 (by omega) (zero_le _) (λh=>by omega) (λi j hi hj=>by omega) (λi j hi hj=>by omega);rwa[h]at this;cases h
theorem lN{sh:Shape}{z:List Value}(h:gG sh z=true)(n:Nat):(dR sh n).size=z.length/\∀i j,i<n->j<z.length->∃u,z[j]? =some u/\bg O w ((dR sh n).cell i j) u:=by
 simp only[gG,and_eq_true,beq_eq,all_eq_true,mem_range]at h;refine⟨by rw[aaS sh n 1];exact h.1,λi j hi hj=>⟨z[j],getElem?_eq_getElem hj, ?_⟩⟩;rw[aaT sh j hi];have:=aow (O:=O) (w:=w) (h.2 j hj);simpa[List.getD,getElem?_eq_getElem hj]using this
theorem lY{z:Array Value}(n:Nat){i j:Nat}(hi:i<n)(hj:j<z.size):(Builtin.zeroCells z n).toList[i*z.size+j]? =z.toList[j]? :=by
 have bA:i*z.size+j<n*z.size:=by
  have:(i+1)*z.size<=n*z.size:=Nat.mul_le_mul_right _ (by omega);rw[Nat.succ_mul]at this;omega
 have e2:(i*z.size+j)%z.size=j:=by rw[Nat.mul_comm,Nat.mul_add_mod,Nat.mod_eq_of_lt hj]
 simp[Builtin.zeroCells,bA,e2,hj]
theorem akB{z:List Value}{sh:Shape}(h:gG sh z=true):∀u∈z,u.oneCell'=true:=by
 intro u hu;obtain⟨j,hj,rfl⟩:=List.getElem_of_mem hu;have⟨_,h2⟩:=lN (O:=λ_=>False) (w:=default) h 1;have⟨u,e1,e2⟩:=h2 0 j (by omega) hj;rw[getElem?_eq_getElem hj]at e1;cases e1;exact e2.one
theorem jt{z:Array Value}{sh:Shape}(h:gG sh z.toList=true)(n:Nat):∀u∈(Builtin.zeroCells z n).toList,u.oneCell'=true:=by
 intro u hu;simp only[Builtin.zeroCells,Array.toList_map,Array.toList_range,mem_map,mem_range]at hu;obtain⟨m,hm,rfl⟩:=hu
 have hp:0<z.size:=by
  rcases Nat.eq_zero_or_pos z.size with h0|h0;rw[h0]at hm;omega;exact h0
 have bA:m%z.size<z.size:=Nat.mod_lt _ hp;rw[getElem!_pos z (m%z.size) bA];exact akB h _ (Array.mem_toList_iff.2 (Array.getElem_mem bA))
theorem aiV{t e ty:TypeId}{z:Value}(ht:P.underlying t=some (.slice e))(hz:∀w,(zeroValue e).run P w=.ok z w){a:Option Addr}{n cap:Nat}(mY:∀x,a=some x->(storeCells x (Builtin.zeroCells z.cells n).toList 0).run P w=.ok () w')
 (te:(a=none\/n=0)->w'=w):(Builtin.clear_ #[t] ty #[.slice a n cap]).run P w=.ok (.tuple #[]) w':=by
 cases a with
 |none=>
  rw[te (.inl rfl)];simp[Builtin.clear_,run_underlying ht]
 |some x=>
  cases n with
  |zero=>
   rw[te (.inr rfl)];simp[Builtin.clear_,run_underlying ht]
  |succ n=>
   have:=mY x rfl;simp[Builtin.clear_,run_underlying ht,hz,this]
theorem aiW{t ty:TypeId}{ts:List TypeId}{x:AV}{vx:Value}{q:b8}(h:(aeW P t x).eval H=some q)(hs:Sat ρ H G w)(hx:ak ρ H (bd ρ H G) w x vx):
 ∃v w',(Builtin.clear_ (t::ts).toArray ty #[vx]).run P w=.ok v w'/\∀base,Good ρ H G w (di H q.up base q.new) (q.r base) v w':=by
 have hts:(Builtin.clear_ (t::ts).toArray ty #[vx])=(Builtin.clear_ #[t] ty #[vx]):=by
  simp[Builtin.clear_]
 rw[hts];unfold aeW at h;split at h;rename_i e id lo n ht;split at h;rename_i i hi;rw[cond_eq_ite]at h;split at h;rename_i hc;simp only[and_eq_true]at hc;have⟨c1,c2⟩:=hc;have c1:=le_of_ble_eq_true c1
 obtain⟨z,hz,hzf,hzs⟩:∃z,i.zero=some z/\gG (shapeOf P e) z.cells.toList=true/\z.cells.size=i.size:=by
  cases hz:i.zero with
  |none=>simp[hz]at c2
  |some z=>
   simp only[hz,Option.any_some,and_eq_true,beq_iff_eq]at c2;exact⟨z,rfl,c2.1,c2.2⟩
 have hzv:∀w,(zeroValue e).run P w=.ok z w:=λw=>by simp[zeroValue,typeInfo,hi,hz]
 simp only[RM.eval]at h;split at h;rename_i c e' ho;rw[cond_eq_ite]at h;split at h;rename_i qq;have qq:c.size=i.size:=by simpa using qq
 simp only[RM.eval,Option.some.injEq]at h;subst h;obtain⟨g0,a,cap,a',g1,g2,g3,rfl,g4,g5⟩:=jF hs ho hx;have⟨y1,y2⟩:=lN (O:=bd ρ H G) (w:=w) hzf n
 have⟨w',k1,k2,k3⟩:=rk (P:=P) hs ho (lo:=lo) (k:=n) (d:=dR (shapeOf P e) n) (by omega) (by rw[mq];exact le_refl _) (by omega) (bW:=(Builtin.zeroCells z.cells n).toList) (by rw[length_toList,size_zeroCells,hzs,qq]) (jt hzf n) (λi' j' fG kq=>by
  rw[qq]at kq ⊢;have⟨u,e1,e2⟩:=y2 i' j' fG (by rw[length_toList,hzs];exact kq);refine⟨u, ?_,e2⟩;rw[<-hzs,lY n fG (by omega)];exact e1)
 refine⟨_,w',aiV ht hzv (λx hx=> ?_) (λhx=> ?_),λbase=> ?_⟩;refine k1 a cap _ g1 ?_;by_cases cX:cap=lo;exact .inl (by omega);exact .inr (by rw[<-g4 cX];exact hx);refine k2 ?_;rcases hx with hx|hx;by_cases cX:cap=lo;omega;rw[g4 cX]at hx;obtain⟨b,o,rfl⟩:=g5 (by omega);cases hx;exact hx;simp only[gl];exact k3 _ _ (λw2=>cZ);cases h;cases h;cases h;cases h;rename_i kt et id ht;simp only[RM.eval]at h;split at h;rename_i ck m ho;simp only[RM.eval,Option.some.injEq]at h;subst h;unfold ak aO at hx;obtain⟨b,hb,rfl,_⟩:=hx;have⟨es,clock,h1,h2⟩:=aaR hs ho hb;refine⟨.tuple #[],World.cV w b (.map #[] clock), ?_,λbase=> ?_⟩;have e1:(getObj b).run P w=.ok (.map es clock) w:=by simp[getObj,Sem.run,h1]
 have e2:(setObj b (.map #[] clock)).run P w=.ok () (World.cV w b (.map #[] clock)):=by simp[setObj,Sem.run,World.cV,h1]
 simp only[Builtin.clear_,List.getElem?_toArray,List.getElem?_cons_zero,Sem.run_bind,run_underlying ht,andThen_ok,e1,e2,Sem.run_pure];simp only[gl];refine Good.write hs ho rfl rfl (by rw[hb];rfl) (λc' e' hc=>by cases hc) ?_ cZ;exact⟨b,#[],clock,hb,fi h1,⟨rfl,List.nodup_nil,List.nodup_nil,λe he=>by simp at he,λp hp=>by simp at hp⟩⟩;cases h;cases h
theorem run_makeSlice{t e:TypeId}{i:TypeInfo}{z:Value}(ht:P.underlying t=some (.slice e))(hi:P.info? e=some i)(hz:i.zero=some z)(hzs:z.cells.size=i.size)(h1:1<=i.size)(hby:i.bytes<=256)
 {k k':IntKind} {l c:Int} (h0:0<=l) (hlc:l<=c) (hc:c<=1073741824):
 ∃w1:World,(w1.heap=w.heap/\w1.tape=w.tape/\w1.os=w.os/\w1.output=w.output)/\
 (Instr.makeSlice t (.int k l) (.int k' c)).run P w=.ok (.slice (some ⟨w.heap.size,0,none⟩) l.toNat c.toNat) (w1.alloc (.cells (Builtin.zeroCells z.cells c.toNat).toList.toArray e)):=by
 refine⟨w,⟨rfl,rfl,rfl,rfl⟩, ?_⟩;have e1:IntKind.i64.wrap l=l:=cM ⟨by omega,by omega⟩;have e2:IntKind.i64.wrap c=c:=cM ⟨by omega,by omega⟩
 have acf:¬(281474976710656<(i.bytes:Int)*c):=by
  have h3:(i.bytes:Int)*c<=256*c:=Int.mul_le_mul_of_nonneg_right (by omega) (by omega);omega
 have hl0:¬l<0:=by omega
 have hc0:¬c<0:=by omega
 have axG:¬l>c:=by omega
 simp[Instr.makeSlice,run_underlying ht,typeInfo,sizeOf,hi,e1,e2,hl0,hc0,axG,acf,zeroValue,hz,newRow,asInt,asIntOf];have nB:Builtin.zeroCells z.cells c.toNat=(Array.range (c.toNat*i.size)).map λx=>z.cells[x%z.cells.size]! :=by simp[Builtin.zeroCells,hzs]
 rw[nB];by_cases h0:c.toNat*i.size=0;have hr:∀f:Nat->Value,Array.map f (Array.range 0)= #[]:=λf=>by simp
 rw[if_pos h0,h0,hr,hr];rw[if_neg h0]
theorem yx{t:TypeId}{l c:AV}{vl vc:Value}{q:b8}(h:(qk P t l c).eval H=some q)(hn:bT q.ab)(hs:Sat ρ H G w)(hl:ak ρ H (bd ρ H G) w l vl)(hc:ak ρ H (bd ρ H G) w c vc)
 {base:Nat} (hb:∀i,i<q.new.length->H (base+i)=none):∃v w',(Instr.makeSlice t vl vc).run P w=.ok v w'/\Good ρ H G w (di H q.up base q.new) (q.r base) v w':=by
 unfold qk at h;split at h;rename_i e k lit l k' azx c ht h1 h2;obtain rfl:=cG h1 hl;obtain rfl:=cG h2 hc;split at h;rename_i i hi;rw[cond_eq_ite]at h;split at h;rename_i hc;simp only[and_eq_true]at hc;have⟨⟨c1,c2⟩,c3⟩:=hc;have c1:=le_of_ble_eq_true c1;have c2:=le_of_ble_eq_true c2
 obtain⟨z,hz,hzf,hzs⟩:∃z,i.zero=some z/\gG (shapeOf P e) z.cells.toList=true/\z.cells.size=i.size:=by
  cases hz:i.zero with
  |none=>simp[hz]at c3
  |some z=>
   simp only[hz,Option.any_some,and_eq_true,beq_iff_eq]at c3;exact⟨z,rfl,c3.1,c3.2⟩
 simp only[RM.eval,Option.some.injEq]at h;subst h;have⟨n1,n2,n3,_⟩:=hn;have ka:H base=none:=by simpa using hb 0 (by simp)
 have⟨w1,⟨a1,a2,a3,a4⟩,jf⟩:=run_makeSlice (w:=w) (k:=k) (k':=k') ht hi hz hzs c1 c2 n1 n2 n3;refine⟨_,_,jf, ?_⟩;simp only[jG];have⟨y1,y2⟩:=lN (O:=bd ρ H G) (w:=w) hzf l.toNat;have:=mq (shapeOf P e) l.toNat
 have ad:=mj (w1:=w1) (e:=e) (c:=dR (shapeOf P e) l.toNat) (cap:=c.toNat) hs a1 a2 a3 a4 ka (cells:=(Builtin.zeroCells z.cells c.toNat).toList) (by omega) (by simp only[maxLen];omega) (by
  rw[y1,length_toList,length_toList,size_zeroCells]
  exact le_refl _) (λi' j'=>(Builtin.zeroCells z.cells c.toNat).toList.getD (i'*(dR (shapeOf P e) l.toNat).size+j') undef) (λi' j' fG kq=>by
   rw[this]at fG;rw[y1,length_toList]at kq ⊢;have⟨u,e1,e2⟩:=y2 i' j' fG (by rw[length_toList];exact kq);have hg:=lY (z:=z.cells) c.toNat (i:=i') (by omega) kq;rw[e1]at hg;have:(Builtin.zeroCells z.cells c.toNat).toList.getD (i'*z.cells.size+j') undef=u:=by simp[List.getD,hg]
   rw[this];exact⟨hg,e2⟩)
 rw[this]at ad;exact ad (jt hzf _);cases h;cases h;cases h
end
end Go.Sx
