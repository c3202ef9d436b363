/- Lemmas: SxKind, SxBase, SxExec, SxPure, SxSat, SxMem, SxHeap, SxLoad, SxRead, SxSlice, SxStore, SxNew, SxBuild, SxBuild2, SxAppend, SxOver, SxAppend2, SxMap, SxMapOp, SxPart. -/
import Derived.WalkKit
import Derived.WalkSpells
import Derived.MapKept
import Derived.Carry
open Go.IntKind (i64 u64 u8)
open Array (length_toList toList_inj)
open Bool (and_eq_true)
open ByteArray (empty)
open List (all_cons all_eq_true append_assoc append_nil cons_append getElem?_append_left getElem?_eq_getElem getElem?_eq_none getElem?_map getElem?_take getElem_mem length_append length_cons length_drop length_map length_nil length_take map_append map_cons mem_append mem_map mem_range nodup_append replicate)
open Nat (add_assoc add_mul add_zero beq_eq le_of_ble_eq_true le_refl le_trans lt_or_ge zero_add zero_le)
open Option (bind_eq_some_iff getD_some isSome_iff_exists map_eq_some_iff map_some)
noncomputable section
namespace Go.Sx
open Go
inductive CK where
 |int (k:IntKind)|bool|str|ay (k:IntKind)|strs|bM|rows (cs:List CK)|arr (k:IntKind) (n:Nat)
mutual
def CK.V:CK->Type
 |.int _=>Int|.bool=>Bool|.str=>ByteArray|.ay _=>List Int|.strs=>List ByteArray|.bM=>List Bool|.rows cs=>List (CL cs)|.arr _ _=>List Int
def CL:List CK->Type
 |[]=>Unit|c::cs=>c.V×CL cs
end
def CK.d:(c:CK)->c.V
 |.int _=>(0:Int)|.bool=>false|.str=>empty|.ay _=>([]:List Int)|.strs=>([]:List ByteArray)|.bM=>([]:List Bool)|.rows cs=>([]:List (CL cs))|.arr _ n=>replicate n (0:Int)
def CL.d:(cs:List CK)->CL cs
 |[]=>()|c::cs=>(c.d,CL.d cs)
def CK.wide:CK->Nat
 |.arr _ n=>n|_=>1
def CL.wide:List CK->Nat
 |[]=>0|c::cs=>c.wide+CL.wide cs
def kEq(a b:IntKind):Option (PLift (a=b)):=if h:a=b then some ⟨h⟩else none
mutual
def CK.eq:(a b:CK)->Option (PLift (a=b))
 |.int k,.int k'=>(kEq k k').map λh=>⟨congrArg CK.int h.down⟩|.bool,.bool=>some ⟨rfl⟩|.str,.str=>some ⟨rfl⟩|.ay k,.ay k'=>(kEq k k').map λh=>⟨congrArg CK.ay h.down⟩|.strs,.strs=>some ⟨rfl⟩|.bM,.bM=>some ⟨rfl⟩|.rows a,.rows b=>(CL.eq a b).map λh=>⟨congrArg CK.rows h.down⟩|.arr k n,.arr k' n'=>if h:n=n' then(kEq k k').map λh'=>⟨by rw[h,h'.down]⟩else none
 |_,_=>none
def CL.eq:(a b:List CK)->Option (PLift (a=b))
 |[],[]=>some ⟨rfl⟩|a::aI,b::bs=>match CK.eq a b,CL.eq aI bs with
  |some h,some h'=>some ⟨by rw[h.down,h'.down]⟩
  |_,_=>none
 |_,_=>none
end
def aae{a b:List CK}(h:PLift (a=b))(xs:List (CL a)):List (CL b):=h.down▸xs
def iP{V:Type}(m:List (Int×V))(k:Int):Option V:=(m.find? λp=>p.1==k).map (·.2)
def mB{V:Type}(m:List (Int×V))(k:Int):Bool:=m.any λp=>p.1==k
def oc{V:Type}(m:List (Int×V))(k:Int)(v:V):List (Int×V):=if mB m k=true then m.map λp=>if p.1==k then(k,v)else p else m++[(k,v)]
theorem xp{a:List CK}(h:PLift (a=a))(xs:List (CL a)):aae h xs=xs:=rfl
mutual
inductive SV where
 |aF|bool (b:Bool)|ao (b:Bool)|c7 (n:Nat) (eq:Bool)|ax (k:IntKind)|int (k:IntKind) (n:Int)|aq (k:IntKind) (n:Int)|str (s:ByteArray)|tP|abY|abZ|ab0|oJ|sM (f:FuncId)|ifi (t:TypeId) (k:IntKind) (n:Int)|ifs (t:TypeId) (s:ByteArray)|ifb (t:TypeId) (b:Bool)|raw (v:Value) (zs:List Int)|ro (c:aS)|rot (c:aS) (k:Nat)|ml (k:Nat)|ot (k:Nat)
inductive aS where
 |ay (k:IntKind) (zs:List Int)|strs (ss:List ByteArray)|bM (bs:List Bool)|ab (cs:List CK) (xs:List (CL cs))|bD (size n:Nat) (get:Nat->Nat->SV)
end
def aS.n:aS->Nat
 |.ay _ zs=>zs.length|.strs ss=>ss.length|.bM bs=>bs.length|.ab _ xs=>xs.length|.bD _ n _=>n
def aS.size:aS->Nat
 |.ay .. |.strs _|.bM _=>1|.ab cs _=>CL.wide cs|.bD s _ _=>s
def CK.cell:(c:CK)->c.V->Nat->SV
 |.int k,x,_=>.int k x|.bool,x,_=>.bool x|.str,x,_=>.str x|.ay k,x,_=>.ro (.ay k x)|.strs,x,_=>.ro (.strs x)|.bM,x,_=>.ro (.bM x)|.rows cs,x,_=>.ro (.ab cs x)|.arr k _,x,j=>.int k (List.getD (α:=Int) x j 0)
def CL.cell:(cs:List CK)->CL cs->Nat->SV
 |[],_,_=>.aF|c::cs,x,j=>bif j.blt c.wide then c.cell x.1 j else CL.cell cs x.2 (j - c.wide)
def aS.cell:aS->Nat->Nat->SV
 |.ay k zs,i,_=>.int k (zs.getD i 0)|.strs ss,i,_=>.str (ss.getD i empty)|.bM bs,i,_=>.bool (bs.getD i false)|.ab cs xs,i,j=>CL.cell cs (xs.getD i (CL.d cs)) j|.bD _ _ get,i,j=>get i j
inductive AV where
 |s (v:SV)|ptr (id off:Nat)|jM (id off n i:Nat)|jo (c:aS) (i j:Nat)|vec (id:Nat)|gw (id i j:Nat)|part (id lo n:Nat)|sub (id off n:Nat)|ke (id i j n:Nat)|emp|agg (segs:List AV)|ay (k:IntKind) (n:Nat) (ws:List Int)|bO (vs:List AV)|fn (f:FuncId) (c8:List AV)|fnb (f:FuncId) (first:List AV)
 |iy (id:Nat)|tag (id:Nat)
inductive au where
 |ad (segs:List AV) (elem:TypeId)|vec (c:aS) (elem:TypeId)|map (ck:CK) (m:List (Int×ck.V))|wZ (ck:CK) (m:List (Int×ck.V)) (gid:Nat)|iter (mid gid:Nat) (ck:CK) (left:List (Int×ck.V)) (cur:Option (Int×ck.V))|aW
abbrev aJ:=Nat->Option au
def au.alive:au->Bool
 |.aW=>false|_=>true
def eD:Value->Option Nat
 |.pointer (some a)=>some a.block|.slice (some a) _ cap=>if cap=0 then none else some a.block
 |.map (some b)=>some b|_=>none
def Own(ρ:Nat->Value)(H:aJ)(b:Nat):Prop:=∃id o,H id=some o/\o.alive=true/\eD (ρ id)=some b
def aV(ρ:Nat->Value)(H:aJ)(G:Nat->Prop)(b:Nat):Prop:=Own ρ H b\/G b
inductive aX (O:Nat->Prop) (w:World):SV->Value->Prop
 |aF (v:Value):v.oneCell'=true->aX O w .aF v|bool (b:Bool):aX O w (.bool b) (.bool b)|ao (b:Bool):aX O w (.ao b) (.bool b)|c7 (n:Nat) (eq b:Bool):(b=eq->n=0)->aX O w (.c7 n eq) (.bool b)|ax (k:IntKind) (n:Int):aX O w (.ax k) (.int k n)|int (k:IntKind) (n:Int):aX O w (.int k n) (.int k n)|aq (k:IntKind) (n:Int):aX O w (.aq k n) (.int k n)|str (s:ByteArray):aX O w (.str s) (.string s)|tP:aX O w .tP (.pointer none)|abY:aX O w .abY .nilIface|abZ:aX O w .abZ .nilFunc|ab0:aX O w .ab0 (.map none)|oJ:aX O w .oJ (.slice none 0 0)|sM (f:FuncId):aX O w (.sM f) (.func (.func f) #[] #[])|ifi (t:TypeId) (k:IntKind) (n:Int):aX O w (.ifi t k n) (.iface t (.int k n))|ifs (t:TypeId) (s:ByteArray):aX O w (.ifs t s) (.iface t (.string s))|ifb (t:TypeId) (b:Bool):aX O w (.ifb t b) (.iface t (.bool b))|raw (v:Value) (zs:List Int):v.oneCell'=true->aX O w (.raw v zs) v|ro (c:aS) (a:Option Addr) (cap:Nat) (us:Nat->Nat->Value) (b o:Nat):c.n<=cap->cap<=maxLen->
  (0<c.n->a=some ⟨b,o,none⟩/\¬O b/\b<w.heap.size)->
  (∀i j,i<c.n->j<c.size->w.cell? ⟨b,o+i*c.size+j,none⟩=some (us i j))->
  (∀i j,i<c.n->j<c.size->aX O w (c.cell i j) (us i j))->aX O w (.ro c) (.slice a c.n cap)
 |rot (c:aS) (k:Nat) (a:Option Addr) (n cap:Nat):aX O w (.ro c) (.slice a n cap)->cap<k->aX O w (.rot c k) (.slice a n cap)|ml (k:Nat) (n:Int):(k:Int)<=n->aX O w (.ml k) (.int .i64 n)|ot (k:Nat) (n:Int):n<(k:Int)->aX O w (.ot k) (.int .i64 n)
mutual
def aH(ρ:Nat->Value)(H:aJ)(O:Nat->Prop)(w:World):AV->Value->Prop
 |.s x,v=>aX O w x v|.ptr id off,v=>∃b,ρ id=.pointer (some ⟨b,0,none⟩)/\v=.pointer (some ⟨b,off,none⟩)/\(H id).isSome=true|.jM id off n i,v=>i<n/\∃b,ρ id=.pointer (some ⟨b,0,none⟩)/\v=.pointer (some ⟨b,off+i,none⟩)/\(H id).isSome=true|.jo c i j,v=>∃(b o:Nat) (us:Nat->Value),v=.pointer (some ⟨b,o+j,none⟩)/\¬O b/\b<w.heap.size/\
  (∀l,l<c.size->w.cell? ⟨b,o+l,none⟩=some (us l)/\aX O w (c.cell i l) (us l))
 |.vec id,v=>v.oneCell'=true/\∃o,H id=some o/\∀c e,o=.vec c e->v=ρ id|.gw id i j,v=>v.oneCell'=true/\∃o,H id=some o/\∀c e,o=.vec c e->i<c.n/\j<c.size/\
  ∃b f n cap,ρ id=.slice (some ⟨b,f,none⟩) n cap/\v=.pointer (some ⟨b,f+i*c.size+j,none⟩)
 |.part id lo n,v=>v.oneCell'=true/\∃o,H id=some o/\∀c e,o=.vec c e->lo+n<=c.n/\
  ∃a cap a',ρ id=.slice a c.n cap/\c.n<=cap/\v=.slice a' n (cap - lo)/\(cap≠lo->a'=a.map (·.add (lo*c.size)))
 |.sub id off n,v=>v.oneCell'=true/\∃b a cap,ρ id=.pointer (some ⟨b,0,none⟩)/\v=.slice a n cap/\(n≠0->a=some ⟨b,off,none⟩)/\(H id).isSome=true|.ke id i j n,v=>v.oneCell'=true/\∃o,H id=some o/\∀c e,o=.vec c e->i<c.n/\j+n<=c.size/\
  ∃b f n' cap a ae6,ρ id=.slice (some ⟨b,f,none⟩) n' cap/\v=.slice a n ae6/\(n≠0->a=some ⟨b,f+i*c.size+j,none⟩)
 |.emp,v=>∃a,v=.slice a 0 0|.fn f c8,v=>∃vs:List Value,v=.func (.func f) #[] vs.toArray/\bH ρ H O w c8 vs|.fnb f first,v=>∃vs:List Value,v=.func (.func f) vs.toArray #[]/\bH ρ H O w first vs
 |.agg _,_=>False|.ay _ _ _,_=>False|.bO _,_=>False|.iy id,v=>∃b,ρ id=.map (some b)/\v=.map (some b)/\(H id).isSome=true|.tag id,v=>v=ρ id/\v.oneCell'=true/\(H id).isSome=true
def bH(ρ:Nat->Value)(H:aJ)(O:Nat->Prop)(w:World):List AV->List Value->Prop
 |[],vs=>vs=[]|a::aI,vs=>∃v rest,vs=v::rest/\ae ρ H O w a v/\bH ρ H O w aI rest
def aA(ρ:Nat->Value)(H:aJ)(O:Nat->Prop)(w:World):List AV->List Value->Prop
 |[],cs=>cs=[]|a::aI,cs=>∃c1 c2,cs=c1++c2/\aN ρ H O w a c1/\aA ρ H O w aI c2
def aN(ρ:Nat->Value)(H:aJ)(O:Nat->Prop)(w:World):AV->List Value->Prop
 |.agg _,_=>False|.ay k n ws,cs=>ws.length=n/\cs=ws.map (Value.int k)|.s x,cs=>∃u,cs=[u]/\aX O w x u|.ptr id off,cs=>∃u,cs=[u]/\aH ρ H O w (.ptr id off) u|.jM id off n i,cs=>∃u,cs=[u]/\aH ρ H O w (.jM id off n i) u|.jo c i j,cs=>∃u,cs=[u]/\aH ρ H O w (.jo c i j) u|.vec id,cs=>∃u,cs=[u]/\aH ρ H O w (.vec id) u|.gw id i j,cs=>∃u,cs=[u]/\aH ρ H O w (.gw id i j) u|.part id lo n,cs=>∃u,cs=[u]/\aH ρ H O w (.part id lo n) u|.sub id off n,cs=>∃u,cs=[u]/\aH ρ H O w (.sub id off n) u|.ke id i j n,cs=>∃u,cs=[u]/\aH ρ H O w (.ke id i j n) u|.emp,cs=>∃u,cs=[u]/\∃a,u=.slice a 0 0|.fn f c8,cs=>∃u,cs=[u]/\∃vs:List Value,u=.func (.func f) #[] vs.toArray/\bH ρ H O w c8 vs|.fnb f first,cs=>∃u,cs=[u]/\∃vs:List Value,u=.func (.func f) vs.toArray #[]/\bH ρ H O w first vs
 |.bO _,_=>False|.iy id,cs=>∃u,cs=[u]/\aH ρ H O w (.iy id) u|.tag id,cs=>∃u,cs=[u]/\aH ρ H O w (.tag id) u
def ae(ρ:Nat->Value)(H:aJ)(O:Nat->Prop)(w:World):AV->Value->Prop
 |.agg segs,v=>∃cs:List Value,v=.agg cs.toArray/\aA ρ H O w segs cs|.ay k n ws,v=>ws.length=n/\v=.agg (ws.map (Value.int k)).toArray|.bO vs,v=>∃us:List Value,v=.tuple us.toArray/\bH ρ H O w vs us|.s .aF,_=>True|.s x,v=>aX O w x v|.ptr id off,v=>aH ρ H O w (.ptr id off) v|.jM id off n i,v=>aH ρ H O w (.jM id off n i) v|.jo c m j,v=>aH ρ H O w (.jo c m j) v|.vec id,v=>aH ρ H O w (.vec id) v|.gw id i j,v=>aH ρ H O w (.gw id i j) v|.part id lo n,v=>aH ρ H O w (.part id lo n) v|.sub id off n,v=>aH ρ H O w (.sub id off n) v|.ke id i j n,v=>aH ρ H O w (.ke id i j n) v|.emp,v=>∃a,v=.slice a 0 0|.fn f c8,v=>∃vs:List Value,v=.func (.func f) #[] vs.toArray/\bH ρ H O w c8 vs|.fnb f first,v=>∃vs:List Value,v=.func (.func f) vs.toArray #[]/\bH ρ H O w first vs
 |.iy id,v=>aH ρ H O w (.iy id) v|.tag id,v=>aH ρ H O w (.tag id) v
end
theorem aX.one{O:Nat->Prop}{w:World}{x:SV}{v:Value}(h:aX O w x v):v.oneCell'=true:=by
 cases h<;>first|rfl|assumption
structure Step (ρ:Nat->Value) (H:aJ) (O:Nat->Prop) (w:World) (aO:Nat->Value) (H':aJ) (O':Nat->Prop) (w':World):Prop where
 pt:∀id o,H id=some o->aO id=ρ id
 eT:∀id o,H id=some o->∃o',H' id=some o'/\∀c' e',o'=.vec c' e'->∃c e,o=.vec c e/\c'.n=c.n/\c'.size=c.size
 ft:∀b,O' b->O b\/w.heap.size<=b
 heap:∀b,b<w.heap.size->¬O b->w'.heap[b]? =w.heap[b]?
 size:w.heap.size<=w'.heap.size
theorem Step.refl(ρ:Nat->Value)(H:aJ)(O:Nat->Prop)(w:World):Step ρ H O w ρ H O w:=
 ⟨λ_ _ _=>rfl,λ_ o h=>⟨o,h,λc' e' e=>⟨c',e',e,rfl,rfl⟩⟩,λ_ h=>.inl h,λ_ _ _=>rfl,le_refl _⟩
theorem oK{w w':World}{b o:Nat}(h:w'.heap[b]? =w.heap[b]?):w'.cell? ⟨b,o,none⟩=w.cell? ⟨b,o,none⟩:=by
 simp[World.cell?,h]
section
variable{ρ aO:Nat->Value}{H H':aJ}{O O':Nat->Prop}{w w':World}
theorem Step.trans{aqJ:Nat->Value}{H'':aJ}{O'':Nat->Prop}{w'':World}(h:Step ρ H O w aO H' O' w')(k:Step aO H' O' w' aqJ H'' O'' w'')
 :Step ρ H O w aqJ H'' O'' w'':=by
 refine⟨λid o ho=> ?_,λid o ho=> ?_,λb hb=> ?_,λb hb hO=> ?_,le_trans h.size k.size⟩;have⟨o',c5,_⟩:=h.eT id o ho;rw[k.pt id o' c5,h.pt id o ho];have⟨o',c5,q⟩:=h.eT id o ho;have⟨o'',atw,q'⟩:=k.eT id o' c5;refine⟨o'',atw,λc e hc=> ?_⟩;have⟨c1,e1,h1,n1,s1⟩:=q' c e hc;have⟨c2,e2,h2,n2,s2⟩:=q c1 e1 h1;exact⟨c2,e2,h2,n1.trans n2,s1.trans s2⟩;rcases k.ft b hb with h1|h1;exact h.ft b h1;exact .inr (le_trans h.size h1);have atx:¬O' b:=λh1=>by rcases h.ft b h1 with h2|h2<;>first|exact hO h2|omega
 rw[k.heap b (by have:=h.size;omega) atx,h.heap b hb hO]
theorem aX.step(ft:∀b,O' b->O b\/w.heap.size<=b)(heap:∀b,b<w.heap.size->¬O b->w'.heap[b]? =w.heap[b]?)
 (size:w.heap.size<=w'.heap.size) {x:SV} {v:Value} (h:aX O w x v):aX O' w' x v:=by
 induction h with
 |aF v hv=>exact .aF v hv|bool b=>exact .bool b|ao b=>exact .ao b|c7 n eq b hb=>exact .c7 n eq b hb|ax k n=>exact .ax k n|int k n=>exact .int k n|aq k n=>exact .aq k n|str s=>exact .str s|tP=>exact .tP|abY=>exact .abY|abZ=>exact .abZ|ab0=>exact .ab0|oJ=>exact .oJ|sM f=>exact .sM f|ifi t k n=>exact .ifi t k n|ifs t s=>exact .ifs t s|ifb t b=>exact .ifb t b|raw v zs h=>exact .raw v zs h|rot c k a n cap _ hk ih=>exact .rot c k a n cap ih hk|ml k n h=>exact .ml k n h|ot k n h=>exact .ot k n h|ro c a cap us b o hn hm hb hc _ ih=>
  refine .ro c a cap us b o hn hm (λh0=> ?_) (λi j hi hj=> ?_) ih;have⟨e,h1,h2⟩:=hb h0;exact⟨e,λh3=>by rcases ft b h3 with h4|h4<;>first|exact h1 h4|omega,by omega⟩;have⟨_,h1,h2⟩:=hb (by omega);rw[oK (heap b h2 h1)];exact hc i j hi hj
mutual
theorem aH.step(st:Step ρ H O w aO H' O' w'):∀(x:AV) (v:Value),aH ρ H O w x v->aH aO H' O' w' x v
 |.s x,v,h=>by unfold aH at *;exact h.step st.ft st.heap st.size
 |.ptr id off,v,h=>by
  unfold aH at *;have⟨b,h1,h2,h3⟩:=h;have⟨o,ho⟩:=isSome_iff_exists.1 h3;have⟨o',c5,_⟩:=st.eT id o ho;exact⟨b,by rw[st.pt id o ho,h1],h2,by rw[c5];rfl⟩
 |.jM id off n i,v,h=>by
  unfold aH at *;have⟨hi,b,h1,h2,h3⟩:=h;have⟨o,ho⟩:=isSome_iff_exists.1 h3;have⟨o',c5,_⟩:=st.eT id o ho;exact⟨hi,b,by rw[st.pt id o ho,h1],h2,by rw[c5];rfl⟩
 |.jo c m j,v,h=>by
  unfold aH at *;have⟨b,o,us,h1,h2,h3,h4⟩:=h;refine⟨b,o,us,h1,λh5=> ?_,by have:=st.size;omega,λi hi=> ?_⟩;rcases st.ft b h5 with h6|h6<;>first|exact h2 h6|omega
  have⟨h5,h6⟩:=h4 i hi;exact⟨by rw[oK (st.heap b h3 h2)];exact h5,h6.step st.ft st.heap st.size⟩
 |.vec id,v,h=>by
  unfold aH at *;have⟨h0,o,ho,h1⟩:=h;have⟨o',c5,h2⟩:=st.eT id o ho;refine⟨h0,o',c5,λc e hc=> ?_⟩;have⟨c1,e1,h3,_,_⟩:=h2 c e hc;rw[st.pt id o ho];exact h1 c1 e1 h3
 |.gw id i j,v,h=>by
  unfold aH at *;have⟨h0,o,ho,h1⟩:=h;have⟨o',c5,h2⟩:=st.eT id o ho;refine⟨h0,o',c5,λc e hc=> ?_⟩;have⟨c1,e1,h3,hn,hs⟩:=h2 c e hc;rw[st.pt id o ho,hn,hs];exact h1 c1 e1 h3
 |.part id lo n,v,h=>by
  unfold aH at *;have⟨h0,o,ho,h1⟩:=h;have⟨o',c5,h2⟩:=st.eT id o ho;refine⟨h0,o',c5,λc e hc=> ?_⟩;have⟨c1,e1,h3,hn,hs⟩:=h2 c e hc;rw[st.pt id o ho,hn,hs];exact h1 c1 e1 h3
 |.sub id off n,v,h=>by
  unfold aH at *;have⟨h0,b,a,cap,h1,h2,h4,h3⟩:=h;have⟨o,ho⟩:=isSome_iff_exists.1 h3;have⟨o',c5,_⟩:=st.eT id o ho;exact⟨h0,b,a,cap,by rw[st.pt id o ho,h1],h2,h4,by rw[c5];rfl⟩
 |.ke id i j n,v,h=>by
  unfold aH at *;have⟨h0,o,ho,h1⟩:=h;have⟨o',c5,h2⟩:=st.eT id o ho;refine⟨h0,o',c5,λc e hc=> ?_⟩;have⟨c1,e1,h3,hn,hs⟩:=h2 c e hc;rw[st.pt id o ho,hn,hs];exact h1 c1 e1 h3
 |.emp,v,h=>by unfold aH at *;exact h
 |.fn f c8,v,h=>by
  unfold aH at *;have⟨vs,h1,h2⟩:=h;exact⟨vs,h1,bH.step st c8 vs h2⟩
 |.fnb f c8,v,h=>by
  unfold aH at *;have⟨vs,h1,h2⟩:=h;exact⟨vs,h1,bH.step st c8 vs h2⟩
 |.agg _,v,h=>by unfold aH at h;exact h.elim
 |.ay _ _ _,v,h=>by unfold aH at h;exact h.elim
 |.bO _,v,h=>by unfold aH at h;exact h.elim
 |.iy id,v,h=>by
  unfold aH at *;have⟨b,h1,h2,h3⟩:=h;have⟨o,ho⟩:=isSome_iff_exists.1 h3;have⟨o',c5,_⟩:=st.eT id o ho;exact⟨b,by rw[st.pt id o ho,h1],h2,by rw[c5];rfl⟩
 |.tag id,v,h=>by
  unfold aH at *;have⟨h1,h2,h3⟩:=h;have⟨o,ho⟩:=isSome_iff_exists.1 h3;have⟨o',c5,_⟩:=st.eT id o ho;exact⟨by rw[st.pt id o ho,h1],h2,by rw[c5];rfl⟩
theorem bH.step(st:Step ρ H O w aO H' O' w'):∀(xs:List AV) (vs:List Value),bH ρ H O w xs vs->bH aO H' O' w' xs vs
 |[],vs,h=>by unfold bH at *;exact h
 |a::aI,vs,h=>by
  unfold bH at *;have⟨v,rest,h1,h2,h3⟩:=h;exact⟨v,rest,h1,ae.step st a v h2,bH.step st aI rest h3⟩
theorem aA.step(st:Step ρ H O w aO H' O' w'):∀(xs:List AV) (cs:List Value),aA ρ H O w xs cs->aA aO H' O' w' xs cs
 |[],vs,h=>by unfold aA at *;exact h
 |a::aI,vs,h=>by
  unfold aA at *;have⟨c1,c2,h1,h2,h3⟩:=h;exact⟨c1,c2,h1,aN.step st a c1 h2,aA.step st aI c2 h3⟩
theorem aN.step(st:Step ρ H O w aO H' O' w'):∀(x:AV) (cs:List Value),aN ρ H O w x cs->aN aO H' O' w' x cs
 |.agg _,cs,h=>by unfold aN at h;exact h.elim
 |.ay _ _ _,cs,h=>by unfold aN at *;exact h
 |.s x,cs,h=>by unfold aN at *;have⟨u,h1,h2⟩:=h;exact⟨u,h1,h2.step st.ft st.heap st.size⟩
 |.ptr id off,cs,h=>by unfold aN at *;have⟨u,h1,h2⟩:=h;exact⟨u,h1,aH.step st (.ptr id off) u h2⟩
 |.jM id off n i,cs,h=>by unfold aN at *;have⟨u,h1,h2⟩:=h;exact⟨u,h1,aH.step st (.jM id off n i) u h2⟩
 |.jo c m j,cs,h=>by unfold aN at *;have⟨u,h1,h2⟩:=h;exact⟨u,h1,aH.step st (.jo c m j) u h2⟩
 |.vec id,cs,h=>by unfold aN at *;have⟨u,h1,h2⟩:=h;exact⟨u,h1,aH.step st (.vec id) u h2⟩
 |.gw id i j,cs,h=>by unfold aN at *;have⟨u,h1,h2⟩:=h;exact⟨u,h1,aH.step st (.gw id i j) u h2⟩
 |.part id lo n,cs,h=>by unfold aN at *;have⟨u,h1,h2⟩:=h;exact⟨u,h1,aH.step st (.part id lo n) u h2⟩
 |.sub id off n,cs,h=>by unfold aN at *;have⟨u,h1,h2⟩:=h;exact⟨u,h1,aH.step st (.sub id off n) u h2⟩
 |.ke id i j n,cs,h=>by unfold aN at *;have⟨u,h1,h2⟩:=h;exact⟨u,h1,aH.step st (.ke id i j n) u h2⟩
 |.emp,cs,h=>by unfold aN at *;exact h
 |.fn f c8,cs,h=>by
  unfold aN at *;have⟨u,h1,vs,h2,h3⟩:=h;exact⟨u,h1,vs,h2,bH.step st c8 vs h3⟩
 |.fnb f c8,cs,h=>by
  unfold aN at *;have⟨u,h1,vs,h2,h3⟩:=h;exact⟨u,h1,vs,h2,bH.step st c8 vs h3⟩
 |.bO _,cs,h=>by unfold aN at h;exact h.elim
 |.iy id,cs,h=>by unfold aN at *;have⟨u,h1,h2⟩:=h;exact⟨u,h1,aH.step st (.iy id) u h2⟩
 |.tag id,cs,h=>by unfold aN at *;have⟨u,h1,h2⟩:=h;exact⟨u,h1,aH.step st (.tag id) u h2⟩
theorem ae.step(st:Step ρ H O w aO H' O' w'):∀(x:AV) (v:Value),ae ρ H O w x v->ae aO H' O' w' x v
 |.agg segs,v,h=>by unfold ae at *;have⟨cs,h1,h2⟩:=h;exact⟨cs,h1,aA.step st segs cs h2⟩
 |.ay _ _ _,v,h=>by unfold ae at *;exact h
 |.bO vs,v,h=>by unfold ae at *;have⟨us,h1,h2⟩:=h;exact⟨us,h1,bH.step st vs us h2⟩
 |.s .aF,v,h=>by unfold ae;trivial
 |.s (.bool b),v,h=>by unfold ae at *;exact h.step st.ft st.heap st.size
 |.s (.ao b),v,h=>by unfold ae at *;exact h.step st.ft st.heap st.size
 |.s (.c7 _ _),v,h=>by unfold ae at *;exact h.step st.ft st.heap st.size
 |.s (.ax k),v,h=>by unfold ae at *;exact h.step st.ft st.heap st.size
 |.s (.int k n),v,h=>by unfold ae at *;exact h.step st.ft st.heap st.size
 |.s (.aq k n),v,h=>by unfold ae at *;exact h.step st.ft st.heap st.size
 |.s (.str b),v,h=>by unfold ae at *;exact h.step st.ft st.heap st.size
 |.s .tP,v,h=>by unfold ae at *;exact h.step st.ft st.heap st.size
 |.s .abY,v,h=>by unfold ae at *;exact h.step st.ft st.heap st.size
 |.s .abZ,v,h=>by unfold ae at *;exact h.step st.ft st.heap st.size
 |.s .ab0,v,h=>by unfold ae at *;exact h.step st.ft st.heap st.size
 |.s .oJ,v,h=>by unfold ae at *;exact h.step st.ft st.heap st.size
 |.s (.sM b),v,h=>by unfold ae at *;exact h.step st.ft st.heap st.size
 |.s (.ifi _ _ _),v,h=>by unfold ae at *;exact h.step st.ft st.heap st.size
 |.s (.ifs _ _),v,h=>by unfold ae at *;exact h.step st.ft st.heap st.size
 |.s (.ifb _ _),v,h=>by unfold ae at *;exact h.step st.ft st.heap st.size
 |.s (.raw _ _),v,h=>by unfold ae at *;exact h.step st.ft st.heap st.size
 |.s (.ro b),v,h=>by unfold ae at *;exact h.step st.ft st.heap st.size
 |.s (.rot _ _),v,h=>by unfold ae at *;exact h.step st.ft st.heap st.size
 |.s (.ml _),v,h=>by unfold ae at *;exact h.step st.ft st.heap st.size
 |.s (.ot _),v,h=>by unfold ae at *;exact h.step st.ft st.heap st.size
 |.ptr id off,v,h=>by unfold ae at *;exact aH.step st (.ptr id off) v h
 |.jM id off n i,v,h=>by unfold ae at *;exact aH.step st (.jM id off n i) v h
 |.jo c m j,v,h=>by unfold ae at *;exact aH.step st (.jo c m j) v h
 |.vec id,v,h=>by unfold ae at *;exact aH.step st (.vec id) v h
 |.gw id i j,v,h=>by unfold ae at *;exact aH.step st (.gw id i j) v h
 |.part id lo n,v,h=>by unfold ae at *;exact aH.step st (.part id lo n) v h
 |.sub id off n,v,h=>by unfold ae at *;exact aH.step st (.sub id off n) v h
 |.ke id i j n,v,h=>by unfold ae at *;exact aH.step st (.ke id i j n) v h
 |.emp,v,h=>by unfold ae at *;exact h
 |.fn f c8,v,h=>by
  unfold ae at *;have⟨vs,h2,h3⟩:=h;exact⟨vs,h2,bH.step st c8 vs h3⟩
 |.fnb f c8,v,h=>by
  unfold ae at *;have⟨vs,h2,h3⟩:=h;exact⟨vs,h2,bH.step st c8 vs h3⟩
 |.iy id,v,h=>by unfold ae at *;exact aH.step st (.iy id) v h
 |.tag id,v,h=>by unfold ae at *;exact aH.step st (.tag id) v h
end
end
inductive RM (α:Type)where
 |ret (a:α)|look (id:Nat) (k:Option au->RM α)|fail (why:String)
def RM.eval{α:Type}(H:aJ):RM α->Option α
 |.ret a=>some a|.look id k=>(k (H id)).eval H|.fail _=>none
def RM.ids{α:Type}(H:aJ):RM α->List Nat
 |.ret _=>[]|.look id k=>id::(k (H id)).ids H|.fail _=>[]
def RM.why{α:Type}(H:aJ):RM α->String
 |.ret _=> ""|.look _ k=>(k (H id)).why H|.fail w=>w
where id:Nat:=0
structure bK where
 aa:List Prop
 up:List (Nat×au)
 new:List au
 r:Nat->AV
def plain(aa:List Prop)(r:AV):RM bK:=.ret ⟨aa,[],[],λ_=>r⟩
def oL(why:String):Option (List Prop×AV)->RM bK
 |some (aa,r)=>plain aa r|none=>.fail why
def aD(n:Int):Prop:= -9223372036854775808<=n/\n<=9223372036854775807
def bP:IntKind->IntKind->Bool
 |.i8,.i8|.i16,.i16|.i32,.i32|.i64,.i64|.u8,.u8|.u16,.u16|.u32,.u32|.u64,.u64=>true|_,_=>false
def ou:IntKind->Bool
 |.i64=>true|_=>false
def pv(op:BinOp)(k:IntKind)(x y:Int):Int:=
 let a:=BitVec.ofInt k.bits x;let b:=BitVec.ofInt k.bits y
 match op with
 |.and=>k.wrap (a &&& b).toNat|.or=>k.wrap (a ||| b).toNat|.xor=>k.wrap (a ^^^ b).toNat|_=>k.wrap (a &&& ~~~b).toNat
def mkInt(lit:Bool)(k:IntKind)(n:Int):AV:=.s (if lit then .aq k n else .int k n)
def kE(lit:Bool)(b:Bool):AV:=.s (if lit then .ao b else .bool b)
def mE(lit:Bool)(k:IntKind)(n:Int):List Prop×AV:=
 bif lit then([],.s (.aq k (k.wrap n)))
 else bif ou k then([aD n],.s (.int k n))else([],.s (.int k (k.wrap n)))
def tQ(op:BinOp)(k:IntKind)(lx ly:Bool)(x y:Int):Option (List Prop×AV):=
 let lit:=lx&&ly
 match op with
 |.add=>some (mE lit k (x+y))|.sub=>some (mE lit k (x - y))|.mul=>some (mE lit k (x*y))|.quo=>some (bif lit then([y≠0],.s (.aq k (k.wrap (x.tdiv y))))else bif ou k then([y≠0,aD (x.tdiv y)],.s (.int k (x.tdiv y)))else([y≠0],.s (.int k (k.wrap (x.tdiv y)))))|.rem=>some ([y≠0],mkInt lit k (x.tmod y))|.and|.or|.xor|.andNot=>some ([],mkInt lit k (pv op k x y))|.eql=>some ([],kE lit (x==y))|.neq=>some ([],kE lit (x !=y))|.lss=>some ([],kE lit (decide (x<y)))|.leq=>some ([],kE lit (decide (x<=y)))|.gtr=>some ([],kE lit (decide (x>y)))|.geq=>some ([],kE lit (decide (x>=y)))|_=>none
def ab1(op:BinOp)(k:IntKind)(lit:Bool)(x y:Int):Option (List Prop×AV):=
 match op with
 |.shl=>some ([0<=y],mkInt lit k (k.wrap (x*2^(min y.toNat k.bits))))|.shr=>some ([0<=y],mkInt lit k (x.fdiv (2^(min y.toNat k.bits))))|_=>none
def slt(x y:ByteArray):Bool:=Op.bytesLess x.data.toList y.data.toList
def ab2(op:BinOp)(x y:ByteArray):Option (List Prop×AV):=
 match op with
 |.add=>some ([x.size+y.size<=4611686018427387904],.s (.str (x++y)))|.eql=>some ([],.s (.bool (decide (x=y))))|.neq=>some ([],.s (.bool (!decide (x=y))))|.lss=>some ([],.s (.bool (slt x y)))|.leq=>some ([],.s (.bool (slt x y||decide (x=y))))|.gtr=>some ([],.s (.bool !(slt x y||decide (x=y))))|.geq=>some ([],.s (.bool !(slt x y)))|_=>none
def AV.gd :AV->Option (IntKind×Bool×Int)
 |.s (.int k n)=>some (k,false,n)|.s (.aq k n)=>some (k,true,n)|_=>none
def AV.jN :AV->Option (Bool×Bool)
 |.s (.bool b)=>some (false,b)|.s (.ao b)=>some (true,b)|_=>none
def unR(op:UnOp)(x:AV):Option (List Prop×AV):=
 match op,x with
 |.not,.s (.bool b)=>some ([],.s (.bool !b))|.not,.s (.ao b)=>some ([],.s (.ao !b))|.not,.s (.c7 n e)=>some ([],.s (.c7 n !e))|.neg,.s (.int k n)=>some (mE false k (0 - n))|.neg,.s (.aq k n)=>some (mE true k (0 - n))|_,_=>none
def ahE(c a b:AV):Option (List Prop×AV):=
 match c with
 |.s (.ao true)=>some ([],a)|.s (.ao false)=>some ([],b)|.s (.bool c)=>
  match a.jN,b.jN with
  |some (_,x),some (_,y)=>some ([],.s (.bool (bif c then x else y)))|_,_=>
   match a.gd,b.gd with
   |some (k,_,x),some (k',_,y)=>bif bP k k' then some ([],.s (.int k (bif c then x else y)))else none|_,_=>none
 |_=>none
def dK(P:Program)(t:TypeId):Option Nat:=(P.info? t).map (·.size)
def gT(P:Program)(t:TypeId):Option Bool:=
 match P.underlying t with
 |some (.struct _)|some (.array _ _)=>some true|some _=>some false|none=>none
def kindOf(P:Program)(t:TypeId):Option IntKind:=
 match P.underlying t with
 |some (.int k)=>some k|_=>none
def AV.wide:AV->Nat
 |.ay _ n _=>n|_=>1
def fu:List AV->Nat->Option (List AV)
 |segs,0=>some segs|[],_+1=>none|a::aI,n+1=>bif a.wide.ble (n+1)then fu aI (n+1 - a.wide)else none
def fv:List AV->Nat->Option (List AV)
 |_,0=>some []|[],_+1=>none|a::aI,n+1=>bif a.wide.ble (n+1)&&(1:Nat).ble a.wide then(fv aI (n+1 - a.wide)).map (a:: ·)else none
def cellAt:List AV->Nat->Option AV
 |[],_=>none|.ay k n ws::aI,off=>bif off.blt n then some (.s (.int k (ws.getD off 0)))else cellAt aI (off - n)|a::_,0=>some a|_::aI,off+1=>cellAt aI off
def gD:List AV->Nat->AV->Option (List AV)
 |[],_,_=>none|.ay k n ws::aI,off,v=>bif off.blt n then
  (match v.gd with
   |some (k',_,x)=>bif bP k k' then some (.ay k n (ws.set off x)::aI)else none|none=>none)
  else(gD aI (off - n) v).map (.ay k n ws:: ·)
 |_::aI,0,v=>some (v::aI)|a::aI,off+1,v=>(gD aI off v).map (a:: ·)
def jf:List AV->Nat->Option (IntKind×Nat×List Int)
 |.ay k n ws::aI,off=>bif off.beq 0 then some (k,n,ws)else bif off.blt n then none else jf aI (off - n)|_::aI,off+1=>jf aI off|_,_=>none
def jO:List AV->Nat->List Int->Option (List AV)
 |.ay k n ws::aI,off,mr=>bif off.beq 0 then some (.ay k n mr::aI)else bif off.blt n then none else(jO aI (off - n) mr).map (.ay k n ws:: ·)|a::aI,off+1,mr=>(jO aI off mr).map (a:: ·)|_,_,_=>none
def AV.single:AV->Bool
 |.s .aF|.agg _|.ay _ _ _|.bO _=>false|_=>true
def AV.jj :AV->Option (List AV)
 |.agg segs=>some segs|.ay k n ws=>some [.ay k n ws]|.bO _|.s .aF=>none|a=>some [a]
def AV.kF:List AV->AV
 |[.ay k n ws]=>.ay k n ws|segs=>.agg segs
def fZ:List AV->Nat
 |[]=>0|a::aI=>a.wide+fZ aI
def ab3(segs:List AV)(off:Nat)(jk:List AV):Option (List AV):=
 match segs,jk with
 |[.ay k n ws],[x]=>match x.gd with
  |some (k',_,z)=>bif bP k k'&&off.blt n then some [.ay k n (ws.set off z)]else none|none=>none
 |_,_=>none
def sY(segs:List AV)(off:Nat)(jk:List AV):Option (List AV):=
 match ab3 segs off jk with
 |some r=>some r|none=>
 match fv segs off,fu segs (off+fZ jk)with
 |some pre,some post=>some (pre++jk++post)|_,_=>none
def ae7(P:Program)(rec:TypeId->List AV->List AV->Option Bool):List Field->List AV->List AV->Option Bool
 |[],_,_=>some true|f::fs,xs,ys=>bif f.name== "_" then ae7 P rec fs xs ys else
  match dK P f.type,gT P f.type with
  |some sz,some w6=>bif w6||sz.beq 1 then(match(fu xs f.offset).bind (fv · sz),(fu ys f.offset).bind (fv · sz)with
   |some a,some b=>(match rec f.type a b,ae7 P rec fs xs ys with
    |some p,some q=>some (p&&q)|_,_=>none)
   |_,_=>none)else none
  |_,_=>none
def eqC(P:Program):Nat->TypeId->List AV->List AV->Option Bool
 |0,_,_,_=>none|d+1,t,xs,ys=>
  match P.underlying t with
  |some (.int _)=>(match xs,ys with
   |[x],[y]=>(match x.gd,y.gd with
    |some (k,_,a),some (k',_,b)=>bif bP k k' then some (a==b)else none|_,_=>none)
   |_,_=>none)
  |some .bool=>(match xs,ys with
   |[x],[y]=>(match x.jN,y.jN with
    |some (_,a),some (_,b)=>some (a==b)|_,_=>none)
   |_,_=>none)
  |some .string=>(match xs,ys with
   |[.s (.str a)],[.s (.str b)]=>some (decide (a=b))|_,_=>none)
  |some (.array n e)=>(match xs,ys with
   |[.ay k m ws],[.ay k' m' mr]=>
    (match P.underlying e with
     |some (.int k'')=>bif (1:Nat).ble d&&bP k k'&&bP k k''&&n==m&&m==m'&&(P.info? e).any (λi=>i.size==1)then some (decide (ws=mr))else none|_=>none)
   |_,_=>none)
  |some (.struct fs)=>bif P.stoodInHeld t then none else ae7 P (eqC P d) fs.toList xs ys|_=>none
def ahF(P:Program)(t:TypeId):Bool:=match P.underlying t with|some (.int _)=>true|_=>false
def ahG(P:Program)(t:TypeId):Bool:=match P.underlying t with|some .string=>true|_=>false
def adE(P:Program)(t:TypeId):Bool:=match P.underlying t with|some .bool=>true|_=>false
def ahH(P:Program):AV->AV->Option Bool
 |.s (.ifi t k n),.s (.ifi t' k' n')=>bif t.beq t'&&bP k k'&&(P.info? t).any (·.comparable)&&ahF P t then some (n==n')else none|.s (.ifs t s),.s (.ifs t' s')=>bif t.beq t'&&(P.info? t).any (·.comparable)&&ahG P t then some (decide (s=s'))else none|.s (.ifb t b),.s (.ifb t' b')=>bif t.beq t'&&(P.info? t).any (·.comparable)&&adE P t then some (b==b')else none|_,_=>none
def eqI(P:Program):List AV->List AV->Option Bool
 |[],[]=>some true|x::xs,y::ys=>match ahH P x y,eqI P xs ys with
  |some a,some b=>some (a&&b)|_,_=>none
 |_,_=>none
def eqR(P:Program)(t:TypeId)(x y:AV):Option (Bool×Bool):=
 match P.underlying t,x,y with
 |some .bool,x,y=>match x.jN,y.jN with
  |some (lx,a),some (ly,b)=>some (lx&&ly,a==b)|_,_=>none
 |some (.array n e),.ay k m ws,.ay k' m' mr=>
  match P.underlying e with
  |some (.int k'')=>bif bP k k'&&bP k k''&&n==m&&m==m'&&(P.info? e).any (λi=>i.size==1)&& !P.eqGuardType P.depth t then some (false,decide (ws=mr))else none|_=>none
 |some (.pointer _),.s .tP,.s .tP=>some (true,true)|some (.pointer _),.s .tP,.ptr _ _|some (.pointer _),.ptr _ _,.s .tP=>some (true,false)|some (.array n e),.agg xs,.agg ys=>
  match P.underlying e with
  |some (.interface _)=>bif n==xs.length&&n==ys.length&&(P.info? e).any (λi=>i.size==1)&& !P.eqGuardType P.depth t then(eqI P xs ys).map λb=>(false,b)else none|_=>none
 |some (.struct _),.agg xs,.agg ys=>bif P.eqGuardType P.depth t then none else(eqC P 20 t xs ys).map λb=>(false,b)|_,_,_=>none
def AV.kind? :AV->Option IntKind
 |.s (.int k _)|.s (.aq k _)|.s (.ax k)=>some k|_=>none
def ab4(op:BinOp)(k:IntKind):Option AV:=
 match op with
 |.add|.sub|.mul|.and|.or|.xor|.andNot=>some (.s (.ax k))|.eql|.neq|.lss|.leq|.gtr|.geq=>some (.s (.c7 0 true))|_=>none
def alw(P:Program)(op:BinOp)(t:TypeId)(x y:AV):Option (List Prop×AV):=
 match x,y with
 |.s (.str a),.s (.str b)=>ab2 op a b|x,y=>
  match x.gd,y.gd with
  |some (k,lx,a),some (k',ly,b)=>
   match op with
   |.shl|.shr=>ab1 op k (lx&&ly) a b|_=>bif bP k k' then tQ op k lx ly a b else none
  |_,_=>
   match x.kind?,y.kind? with
   |some k,some k'=>bif bP k k' then(ab4 op k).map λr=>([],r)else none|_,_=>
   match op with
   |.eql=>(eqR P t x y).map λ(l,b)=>([],kE l b)|.neq=>(eqR P t x y).map λ(l,b)=>([],kE l (!b))|_=>none
def alx:Value->Option SV
 |.bool b=>some (.ao b)|.int k n=>some (.aq k n)|.string s=>some (.str s)|.pointer none=>some .tP|.nilIface=>some .abY|.nilFunc=>some .abZ|.map none=>some .ab0|_=>none
def pw:Value->Option AV
 |.slice none 0 0=>some .emp|v=>(alx v).map .s
def px:List Value->Option (List AV)
 |[]=>some []|v::vs=>match pw v,px vs with
  |some a,some aI=>some (a::aI)|_,_=>none
def mF(k:IntKind):List Value->Bool
 |[]=>true|.int k' 0::vs=>bP k k'&&mF k vs|_=>false
def gU(P:Program):Nat->TypeId->List Value->Option (List AV)
 |0,_,_=>none|d+1,t,cs=>
  match P.underlying t with
  |some (.struct fs)=>fs.toList.foldl (λacc f=>
   match acc,dK P f.type with
   |some (segs,rest),some n=>(gU P d f.type (rest.take n)).map λs=>(segs++s,rest.drop n)|_,_=>none) (some ([],cs)) |>.bind λ(segs,rest)=>match rest with|[]=>some segs|_=>none
  |some (.array n e)=>match kindOf P e with
   |some k=>bif mF k cs&&cs.length==n then some [.ay k n (replicate n 0)]else px cs|none=>px cs
  |_=>px cs
def yf:Value->AV
 |.agg cs=>match px cs.toList with|some aI=>.agg aI|none=>.s .aF
 |v=>(pw v).getD (.s .aF)
def zeroOf(P:Program)(t:TypeId):Option AV:=
 match(P.info? t).bind (·.zero),gT P t with
 |some (.agg cs),some true=>(gU P 20 t cs.toList).map .kF|some v,some false=>pw v|_,_=>none
def CL.segs:(cs:List CK)->CL cs->List AV
 |[],_=>[]|.arr k n::cs,x=>.ay k n x.1::CL.segs cs x.2|.int k::cs,x=>.s (.int k x.1)::CL.segs cs x.2|.bool::cs,x=>.s (.bool x.1)::CL.segs cs x.2|.str::cs,x=>.s (.str x.1)::CL.segs cs x.2|.ay k::cs,x=>.s (.ro (.ay k x.1))::CL.segs cs x.2|.strs::cs,x=>.s (.ro (.strs x.1))::CL.segs cs x.2|.bM::cs,x=>.s (.ro (.bM x.1))::CL.segs cs x.2|.rows ds::cs,x=>.s (.ro (.ab ds x.1))::CL.segs cs x.2
def ej:List AV->List Prop
 |[]=>[]|.ay _ n ws::aI=>(ws.length=n)::ej aI|_::aI=>ej aI
def ahI(k:IntKind):SV->Option Int
 |.int k' x|.aq k' x=>bif bP k k' then some x else none|_=>none
def ab5:SV->Option Bool
 |.bool x|.ao x=>some x|_=>none
def ahJ:SV->Option ByteArray
 |.str x=>some x|_=>none
def ab6(k:IntKind):SV->Option (List Int)
 |.ro (.ay k' zs)=>bif bP k k' then some zs else none|.ro (.bD _ 0 _)=>some []|_=>none
def ab7:SV->Option (List ByteArray)
 |.ro (.strs zs)=>some zs|.ro (.bD _ 0 _)=>some []|_=>none
def yg:SV->Option (List Bool)
 |.ro (.bM zs)=>some zs|.ro (.bD _ 0 _)=>some []|_=>none
def ab8(cs:List CK):SV->Option (List (CL cs))
 |.ro (.ab e9 zs)=>(CL.eq e9 cs).map λh=>aae h zs|.ro (.bD _ 0 _)=>some []|_=>none
def CK.set:(c:CK)->c.V->Nat->SV->Option c.V
 |.int k,_,_,v=>ahI k v|.bool,_,_,v=>ab5 v|.str,_,_,v=>ahJ v|.ay k,_,_,v=>ab6 k v|.strs,_,_,v=>ab7 v|.bM,_,_,v=>yg v|.rows cs,_,_,v=>ab8 cs v|.arr _ _,_,_,_=>none
def CL.set:(cs:List CK)->CL cs->Nat->SV->Option (CL cs)
 |[],_,_,_=>none|c::cs,x,j,v=>bif j.blt c.wide then(c.set x.1 j v).map λy=>(y,x.2)else(CL.set cs x.2 (j - c.wide) v).map λy=>(x.1,y)
def CK.setRow:(c:CK)->IntKind->Nat->List Int->Option c.V
 |.arr k' n',k,n,ws=>bif bP k k'&&n.beq n' then some ws else none|_,_,_,_=>none
def CL.setRow:(cs:List CK)->CL cs->Nat->IntKind->Nat->List Int->Option (CL cs)
 |[],_,_,_,_,_=>none|c::cs,x,j,k,n,ws=>bif j.beq 0 then(c.setRow k n ws).map λy=>(y,x.2)
   else bif c.wide.ble j then(CL.setRow cs x.2 (j - c.wide) k n ws).map λy=>(x.1,y)else none
def py(w6:Bool)(c:aS)(i j sz:Nat):RM bK:=
 bif w6 then
  (match c with
   |.ab cs xs=>(match(fu (CL.segs cs (xs.getD i (CL.d cs))) j).bind (fv · sz)with
     |some ss=>plain (ej (CL.segs cs (xs.getD i (CL.d cs)))) (.kF ss)|none=>.fail "")
   |c=>bif (j+sz).ble c.size then plain [] (.agg ((List.range sz).map λl=>.s (c.cell i (j+l))))else .fail "")
 else(bif j.blt c.size then plain [] (.s (c.cell i j))else .fail "")
def adF(P:Program)(t:TypeId)(a:AV):RM bK:=
 match dK P t,gT P t with
 |some sz,some w6=>
  match a with
  |.ptr id off=>.look id λ
   |some (.ad segs _)=>bif w6 then
    (match(fu segs off).bind (fv · sz)with
     |some ss=>plain [] (.kF ss)|none=>.fail "")
    else(match cellAt segs off with
     |some v=>plain [] v|none=>.fail "")
   |_=>.fail ""
  |.jM id off n i=>.look id λ
   |some (.ad segs _)=>match jf segs off with
    |some (k,m,ws)=>bif m.beq n&& !w6 then plain [] (.s (.int k (ws.getD i 0)))else .fail ""|none=>.fail ""
   |_=>.fail ""
  |.jo c i j=>py w6 c i j sz|.gw id i j=>.look id λ
   |some (.vec c _)=>py w6 c i j sz|_=>.fail ""
  |_=>.fail ""
 |_,_=>.fail ""
def q9:aS->Nat->Nat->SV->Option aS
 |.ay k zs,i,_,v=>match v with
  |.int k' x|.aq k' x=>bif bP k k' then some (.ay k (zs.set i x))else none|_=>none
 |.strs ss,i,_,v=>match v with
  |.str x=>some (.strs (ss.set i x))|_=>none
 |.bM bs,i,_,v=>match v with
  |.bool x|.ao x=>some (.bM (bs.set i x))|_=>none
 |.ab cs xs,i,j,v=>(CL.set cs (xs.getD i (CL.d cs)) j v).map λy=>.ab cs (xs.set i y)|.bD s n get,i,j,v=>some (.bD s n λi' j'=>bif i'==i&&j'==j then v else get i' j')
def nt:aS->Nat->Nat->IntKind->Nat->List Int->Option aS
 |.ab cs xs,i,j,k,n,ws=>(CL.setRow cs (xs.getD i (CL.d cs)) j k n ws).map λy=>.ab cs (xs.set i y)|_,_,_,_,_,_=>none
def ek(c:aS)(i j:Nat):List AV->Option aS
 |[]=>some c|.s v::aI=>(q9 c i j v).bind λc'=>ek c' i (j+1) aI|.ay k n ws::aI=>(nt c i j k n ws).bind λc'=>ek c' i (j+n) aI|_=>none
def mG(cs:List CK)(x:CL cs)(j:Nat):List AV->Option (CL cs)
 |[]=>some x|.s v::aI=>(CL.set cs x j v).bind λy=>mG cs y (j+1) aI|.ay k n ws::aI=>(CL.setRow cs x j k n ws).bind λy=>mG cs y (j+n) aI|_=>none
def adG(c:aS)(i j:Nat)(jk:List AV):Option aS:=match c with
 |.ab cs xs=>(mG cs (xs.getD i (CL.d cs)) j jk).map λy=>.ab cs (xs.set i y)|_=>ek c i j jk
def ab9(P:Program)(t:TypeId)(a x:AV):RM bK:=
 match dK P t,gT P t with
 |some sz,some w6=>
  match a with
  |.ptr id off=>.look id λ
   |some (.ad segs e)=>
    bif w6 then
     (match x.jj with
      |some jk=>bif (fZ jk).beq sz&&(1:Nat).ble sz then
       (match sY segs off jk with
        |some segs'=>.ret ⟨[],[(id,.ad segs' e)],[],λ_=>.bO []⟩|none=>.fail "")else .fail ""
      |none=>.fail "")
    else(bif x.single&&sz.beq 1 then
     (match gD segs off x with
      |some segs'=>.ret ⟨[],[(id,.ad segs' e)],[],λ_=>.bO []⟩|none=>.fail "")else .fail "")
   |_=>.fail ""
  |.jM id off n i=>.look id λ
   |some (.ad segs e)=>match jf segs off,x.gd with
    |some (k,m,ws),some (k',_,y)=>bif m.beq n&&bP k k'&& !w6&&sz.beq 1 then
     (match jO segs off (ws.set i y)with
      |some segs'=>.ret ⟨[],[(id,.ad segs' e)],[],λ_=>.bO []⟩|none=>.fail "")else .fail ""
    |_,_=>.fail ""
   |_=>.fail ""
  |.gw id i j=>.look id λ
   |some (.vec c e)=>match x.jj with
    |some jk=>bif (fZ jk).beq sz&&(j+sz).ble c.size then
     (match adG c i j jk with
      |some c'=>.ret ⟨[],[(id,.vec c' e)],[],λ_=>.bO []⟩|none=>.fail "")else .fail ""
    |none=>.fail ""
   |_=>.fail ""
  |_=>.fail ""
 |_,_=>.fail ""
def oM(P:Program)(t:TypeId)(x:AV)(f:Nat):RM bK:=
 match P.underlying t with
 |some (.struct fs)=>match fs[f]? with
  |some fd=>bif (dK P fd.type).any (λn=>(1:Nat).ble n)then
   (match x with
    |.ptr id off=>plain [] (.ptr id (off+fd.offset))|.jo c i j=>plain [] (.jo c i (j+fd.offset))|.gw id i j=>.look id λ
     |some (.vec c _)=>bif (j+fd.offset).blt c.size then plain [] (.gw id i (j+fd.offset))else .fail ""|_=>.fail ""
    |_=>.fail "")else .fail ""
  |none=>.fail ""
 |_=>.fail ""
def oN(P:Program)(t:TypeId)(x i:AV):RM bK:=
 match i.gd,P.underlying t with
 |some (_,_,n),some (.slice e)=>
  (match dK P e,x with
   |some sz,.s (.ro c)=>bif sz.beq c.size then plain [0<=n,n<c.n] (.jo c n.toNat 0)else .fail "indexAddr: size"|some sz,.vec id=>.look id λ
    |some (.vec c _)=>bif sz.beq c.size&&(1:Nat).ble sz then plain [0<=n,n<c.n] (.gw id n.toNat 0)else .fail "indexAddr: size"|_=>.fail ""
   |some sz,.part id lo m=>.look id λ
    |some (.vec c _)=>bif sz.beq c.size&&(1:Nat).ble sz then plain [0<=n,n<m] (.gw id (lo+n.toNat) 0)else .fail "indexAddr: size"|_=>.fail ""
   |_,_=>.fail "")
 |some (_,lit,n),some (.array len e)=>
  (match dK P e,x with
   |some sz,.ptr id off=>bif lit then
    (bif decide (0<=n)&&decide (n<len)then plain [] (.ptr id (off+n.toNat*sz))else .fail "")
    else(bif sz.beq 1 then plain [0<=n,n<len] (.jM id off len n.toNat)else .fail "")
   |some sz,.gw id i0 0=>.look id λ
    |some (.vec c _)=>bif sz.beq c.size&&(1:Nat).ble sz then plain [0<=n,n<len,i0+n<c.n] (.gw id (i0+n.toNat) 0)else .fail "indexAddr: size"|_=>.fail ""
   |_,_=>.fail "")
 |_,_=>.fail ""
def b9(s:ByteArray)(i:Nat):Int:=((s.data.toList.getD i 0).toNat:Int)
def aca(P:Program)(t:TypeId)(x i:AV):RM bK:=
 match i.gd,P.underlying t,x with
 |some (_,_,n),some (.array len e),.ay k m ws=>bif len.beq m&&(gT P e).any (!·)&&(dK P e).any (·.beq 1)then plain [0<=n,n<len] (.s (.int k (ws.getD n.toNat 0)))else .fail ""|some (_,_,n),some .string,.s (.str s)=>plain [0<=n,n<s.size] (.s (.int .u8 (b9 s n.toNat)))|some (_,_,n),some (.array len e),.agg segs=>bif (gT P e).any (!·)&&(dK P e).any (·.beq 1)then
  (match cellAt segs n.toNat with
   |some v=>plain [0<=n,n<len] v|none=>.fail "")else .fail ""
 |_,_,_=>.fail ""
def acb(P:Program)(t:TypeId)(x:AV)(f:Nat):RM bK:=
 match P.underlying t,x with
 |some (.struct fs),.agg segs=>match fs[f]? with
  |some fd=>match dK P fd.type,gT P fd.type with
   |some sz,some true=>match(fu segs fd.offset).bind (fv · sz)with
    |some ss=>plain [] (.kF ss)|none=>.fail ""
   |some _,some false=>match cellAt segs fd.offset with
    |some v=>plain [] v|none=>.fail ""
   |_,_=>.fail ""
  |none=>.fail ""
 |_,_=>.fail ""
def tS(x:AV)(i:Nat):RM bK:=
 match x with
 |.bO vs=>match vs[i]? with
  |some v=>plain [] v|none=>.fail ""
 |_=>.fail ""
def yh(P:Program)(t:TypeId):Option Nat:=
 match P.underlying t,P.info? t with
 |some (.array n e),some i=>match P.underlying e,i.zero with
  |some .string,some z=>bif (4:Nat).ble n&&n.ble 4096&&z.cells.size.beq n&&z.cells.toList.all (λv=>match v with|.string s=>s.size.beq 0|_=>false)then some n else none|_,_=>none
 |_,_=>none
def acd(P:Program)(t:TypeId):RM bK:=
 match yh P t with
 |some n=>.ret ⟨[],[],[.vec (.strs (replicate n empty)) t],λid=>.gw id 0 0⟩|none=>
 match(zeroOf P t).bind AV.jj with
 |some segs=>.ret ⟨[],[],[.ad segs t],λid=>.ptr id 0⟩|none=>.fail ""
def aom(t:TypeId)(v:AV):RM bK:=
 match v.jj with
 |some segs=>.ret ⟨[],[],[.ad segs t],λid=>.ptr id 0⟩|none=>.fail ""
def oO(place:Nat->Option (Nat×Nat))(segs:List AV):List (Nat×AV)->Option (List AV)
 |[]=>some segs|(i,v)::rest=>
  match place i,v.jj with
  |some (off,size),some jk=>bif (fZ jk).beq size&&(1:Nat).ble size then(sY segs off jk).bind λs=>oO place s rest else none|_,_=>none
def ace(P:Program)(t:TypeId)(parts:List (Nat×AV)):RM bK:=
 match(zeroOf P t).bind AV.jj,P.underlying t with
 |some segs,some (.struct fs)=>bif fs.toList.all (λf=>(dK P f.type).isSome)then
  match oO (λi=>(fs[i]?).bind λf=>(dK P f.type).map λn=>(f.offset,n)) segs parts with
  |some ss=>plain [] (.kF ss)|none=>.fail ""
  else .fail ""
 |some segs,some (.array _ e)=>
  match dK P e with
  |some sz=>match oO (λi=>some (i*sz,sz)) segs parts with
   |some ss=>plain [] (.kF ss)|none=>.fail ""
  |none=>.fail ""
 |_,_=>.fail ""
def AV.sv? :AV->Option SV
 |.s .aF=>none|.s v=>some v|.emp=>some (.ro (.bD 1 0 λ_ _=>.aF))|_=>none
def svs:List AV->Option (List SV)
 |[]=>some []|.ay _ _ _::_=>none|a::aI=>match a.sv?,svs aI with
  |some v,some vs=>some (v::vs)|_,_=>none
def oP(k:IntKind):List SV->Option (List Int)
 |[]=>some []|.int k' n::vs|.aq k' n::vs=>bif bP k k' then(oP k vs).map (n:: ·)else none|_=>none
def ra:List SV->Option (List ByteArray)
 |[]=>some []|.str s::vs=>(ra vs).map (s:: ·)|_=>none
def nu:List SV->Option (List Bool)
 |[]=>some []|.bool b::vs|.ao b::vs=>(nu vs).map (b:: ·)|_=>none
inductive Shape where
 |ay (k:IntKind)|strs|bM|ab (cs:List CK)|other
def ahK(P:Program):Nat->TypeId->Option (List CK)
 |0,_=>none|d+1,t=>
  match P.underlying t with
  |some (.int k)=>some [.int k]|some .bool=>some [.bool]|some .string=>some [.str]|some (.slice e)=>match P.underlying e with
   |some (.int k)=>some [.ay k]|some .string=>some [.strs]|some .bool=>some [.bM]|_=>(ahK P d e).map λcs=>[.rows cs]
  |some (.struct fs)=>fs.toList.foldr (λf acc=>match ahK P d f.type,acc with
   |some a,some b=>some (a++b)|_,_=>none) (some [])
  |some (.array n e)=>match P.underlying e with
   |some (.int k)=>some [.arr k n]|_=>none
  |_=>none
def shapeOf(P:Program)(e:TypeId):Shape:=
 match P.underlying e with
 |some (.int k)=>.ay k|some .string=>.strs|some .bool=>.bM|_=>match ahK P 8 e with
  |some cs=>.ab cs|none=>.other
def CL.ofs(cs:List CK)(f:Nat->SV):Option (CL cs):=(List.range (CL.wide cs)).foldl (λacc j=>acc.bind λx=>CL.set cs x j (f j)) (some (CL.d cs))
def xq(cs:List CK)(size:Nat)(cells:List SV):Nat->Nat->Option (List (CL cs))
 |_,0=>some []|i,n+1=>match CL.ofs cs (λj=>cells.getD (i*size+j) .aF),xq cs size cells (i+1) n with
  |some x,some xs=>some (x::xs)|_,_=>none
def rW(sh:Shape)(size n:Nat)(cells:List SV):aS:=
 let d:aS:=.bD size n λi j=>cells.getD (i*size+j) .aF
 match sh with
 |.ay k=>(oP k cells).elim d (.ay k)|.strs=>(ra cells).elim d .strs|.bM=>(nu cells).elim d .bM|.ab cs=>bif (CL.wide cs).beq size then(xq cs size cells 0 n).elim d (.ab cs)else d|.other=>d
def ahL(sh:Shape)(size:Nat):aS:=
 match sh with
 |.ay k=>.ay k []|.strs=>.strs []|.bM=>.bM []|.ab cs=>.ab cs []|.other=>.bD size 0 λ_ _=>.aF
def rep{α:Type}(n:Nat)(x:List α):List α:=
 match n with
 |0=>[]|n+1=>x++rep n x
def mH(P:Program)(t:TypeId)(n:Nat)(parts:List (Nat×AV)):RM bK:=
 match P.underlying t with
 |some (.slice e)=>
  match dK P e,(zeroOf P e).bind AV.jj with
  |some sz,some z=>bif (1:Nat).ble sz&&(n*sz).ble 4096&&(fZ z).beq sz then
   (match(oO (λi=>some (i*sz,sz)) (rep n z) parts).bind svs with
    |some cells=>bif cells.length.beq (n*sz)&&(rW (shapeOf P e) sz n cells).n.beq n&&(rW (shapeOf P e) sz n cells).size.beq sz then .ret ⟨[],[],[.vec (rW (shapeOf P e) sz n cells) e],λid=>.vec id⟩else .fail ""|none=>.fail "")else .fail ""
  |_,_=>.fail ""
 |_=>.fail ""
def dh:aS->aS->aS
 |.ay k xs,.ay k' ys=>bif bP k k' then .ay k (xs++ys)else .bD 1 (xs.length+ys.length) λi j=>bif i.blt xs.length then(aS.ay k xs).cell i j else(aS.ay k' ys).cell (i - xs.length) j|.strs xs,.strs ys=>.strs (xs++ys)|.bM xs,.bM ys=>.bM (xs++ys)|.ab cs xs,.ab e9 ys=>match CL.eq e9 cs with
  |some h=>.ab cs (xs++aae h ys)|none=>.bD (CL.wide cs) (xs.length+ys.length) λi j=>bif i.blt xs.length then(aS.ab cs xs).cell i j else(aS.ab e9 ys).cell (i - xs.length) j
 |c,d=>.bD c.size (c.n+d.n) λi j=>bif i.blt c.n then c.cell i j else d.cell (i - c.n) j
def c6:aS->Nat->Nat->aS
 |.ay k zs,l,h=>.ay k ((zs.take h).drop l)|.strs zs,l,h=>.strs ((zs.take h).drop l)|.bM zs,l,h=>.bM ((zs.take h).drop l)|.ab cs zs,l,h=>.ab cs ((zs.take h).drop l)|.bD s _ get,l,h=>.bD s (h - l) λi j=>get (l+i) j
def over{α:Type}(xs:List α)(lo k:Nat)(ys:List α):List α:=xs.take lo++ys.take k++xs.drop (lo+k)
def dq:aS->Nat->Nat->aS->aS
 |.ay k1 xs,lo,k,.ay k2 ys=>bif bP k1 k2 then .ay k1 (over xs lo k ys)else .bD 1 xs.length λi j=>bif lo.ble i&&i.blt (lo+k)then(aS.ay k2 ys).cell (i - lo) j else(aS.ay k1 xs).cell i j|.strs xs,lo,k,.strs ys=>.strs (over xs lo k ys)|.bM xs,lo,k,.bM ys=>.bM (over xs lo k ys)|.ab cs xs,lo,k,.ab e9 ys=>match CL.eq e9 cs with
  |some h=>.ab cs (over xs lo k (aae h ys))|none=>.bD (CL.wide cs) xs.length λi j=>bif lo.ble i&&i.blt (lo+k)then(aS.ab e9 ys).cell (i - lo) j else(aS.ab cs xs).cell i j
 |c,lo,k,d=>.bD c.size c.n λi j=>bif lo.ble i&&i.blt (lo+k)then d.cell (i - lo) j else c.cell i j
def aon:SV->Value->Bool
 |.int k n,.int k' n'=>bP k k'&&n==n'|.bool b,.bool b'=>b==b'|.str s,.string s'=>s.size.beq 0&&s'.size.beq 0|.ro c,.slice none 0 0=>c.n.beq 0|_,_=>false
def dr(sh:Shape)(n:Nat):aS:=
 match sh with
 |.ay k=>.ay k (replicate n 0)|.strs=>.strs (replicate n empty)|.bM=>.bM (replicate n false)|.ab cs=>.ab cs (replicate n (CL.d cs))|.other=>.bD 1 n λ_ _=>.aF
def gi(sh:Shape)(z:List Value):Bool:=(dr sh 1).size.beq z.length&&(List.range z.length).all λj=>aon ((dr sh 1).cell 0 j) (z.getD j undef)
def rowOf(sh:Shape)(size:Nat)(x:AV)(k:aS->Option Nat->RM bK):RM bK:=
 match x with
 |.s v=>(match v with
  |.ro c=>k c none|_=>.fail "")
 |.emp=>k (ahL sh size) none|.vec id=>.look id λ
  |some (.vec c _)=>k c (some id)|_=>.fail ""
 |.part id lo n=>.look id λ
  |some (.vec c _)=>k (c6 c lo (lo+n)) (some id)|_=>.fail ""
 |_=>.fail ""
def xr(sh:Shape)(size:Nat)(x:AV)(k:aS->Option Nat->RM bK):RM bK:=
 match x with
 |.s (.str s)=>k (.ay .u8 (s.data.toList.map λb=>(b.toNat:Int))) none|x=>rowOf sh size x k
def yi(P:Program)(t:TypeId)(x y:AV):RM bK:=
 match P.underlying t with
 |some (.slice e)=>
  match P.info? e with
  |some i=>
   let sh:=shapeOf P e
   bif (1:Nat).ble i.size&&(1:Nat).ble i.bytes&&i.bytes.ble 256&&i.zero.any (λz=>z.cells.size==i.size&&z.cells.toList.all (·.oneCell'))then
    xr sh i.size y λd idy=>
     bif d.size.beq i.size then
      (match x with
       |.emp=>.ret ⟨[d.n*i.bytes<=140737488355328],[],[.vec d e],λid=>.vec id⟩|.vec idx=>.look idx λ
        |some (.vec c e')=>bif c.size.beq i.size&&e'.beq e&& !(idy==some idx)then
         .ret ⟨[(c.n+d.n)*i.bytes<=140737488355328],[(idx,.aW)],[.vec (dh c d) e],λid=>.vec id⟩else .fail ""
        |_=>.fail ""
       |.part idx lo n=>.look idx λ
        |some (.vec c e')=>bif c.size.beq i.size then
         .ret ⟨[lo+n+d.n<=c.n],[(idx,.vec (dq c (lo+n) d.n d) e')],[],λ_=>.part idx lo (n+d.n)⟩else .fail ""
        |_=>.fail ""
       |_=>.fail "")
     else .fail ""
   else .fail ""
  |none=>.fail ""
 |_=>.fail ""
def tT(P:Program)(t t':TypeId)(x y:AV):RM bK:=
 match P.underlying t,P.underlying t',x,y.gd with
 |some (.slice e),some (.int _),.s (.rot c k),some (_,_,j)=>
  (match P.info? e with
   |some i=>bif (1:Nat).ble i.size&&i.bytes.ble 256&&c.size.beq i.size&&i.zero.any (λz=>gi (shapeOf P e) z.cells.toList&&z.cells.size==i.size)then
    .ret ⟨[0<j,(k:Int)<=c.n+j,(c.n:Int)+j<=4294967296],[],[.vec (dh c (dr (shapeOf P e) j.toNat)) e],λid=>.vec id⟩else .fail ""
   |none=>.fail "")
 |_,_,_,_=>.fail ""
def aoo(P:Program)(t:TypeId)(x:AV):RM bK:=
 match P.underlying t,x with
 |some .string,.s (.str s)=>plain [] (.s (.int .i64 s.size))|some (.array n _),_=>plain [] (.s (.aq .i64 n))|some (.slice _),.s (.ro c)=>plain [] (.s (.int .i64 c.n))|some (.slice _),.s (.rot c _)=>plain [] (.s (.int .i64 c.n))|some (.slice _),.emp=>plain [] (.s (.aq .i64 0))|some (.slice _),.vec id=>.look id λ
  |some (.vec c _)=>plain [] (.s (.int .i64 c.n))|_=>.fail ""
 |some (.slice _),.part id _ n=>.look id λ
  |some (.vec _ _)=>plain [] (.s (.int .i64 n))|_=>.fail ""
 |some (.map _ _),.iy id=>.look id λ
  |some (.map _ m)=>plain [] (.s (.int .i64 m.length))|_=>.fail ""
 |_,_=>.fail ""
def aop(P:Program)(t:TypeId)(x:AV):RM bK:=
 match P.underlying t,x with
 |some (.slice _),.s (.rot _ k)=>plain [] (.s (.ot k))|some (.slice _),.vec id=>.look id λ
  |some (.vec c _)=>plain [] (.s (.ml c.n))|_=>.fail ""
 |some (.slice _),.part id lo _=>.look id λ
  |some (.vec c _)=>plain [] (.s (.ml (c.n - lo)))|_=>.fail ""
 |_,_=>.fail ""
def imax(a b:Int):Int:=if b>a then b else a
def aqK(a b:Int):Int:=if b<a then b else a
def aly(mx:Bool)(x y:AV):RM bK:=
 match x.gd,y.gd with
 |some (k,lx,a),some (k',ly,b)=>bif bP k k' then
  (bif mx then plain [] (mkInt (lx&&ly) k (imax a b))else plain [] (mkInt (lx&&ly) k (aqK a b)))else .fail ""
 |_,_=>.fail ""
def gE(d:Int):Option AV->Option Int
 |none=>some d|some a=>(a.gd).map λ(_,_,n)=>n
def adH(P:Program)(e:TypeId)(c:aS)(id lo0 n:Nat)(lo hi mx:Option AV):RM bK:=
 match dK P e with
 |some sz=>bif sz.beq c.size then
  (match mx with
   |none=>(match gE 0 lo,gE n hi with
    |some l,some h=>plain [0<=l,l<=h,(lo0:Int)+h<=c.n] (.part id (lo0+l.toNat) (h.toNat - l.toNat))|_,_=>.fail "")
   |some m=>(match gE 0 lo,hi.bind AV.gd,m.gd with
    |some l,some (_,_,h),some (_,_,m)=>plain [0<=l,l<=h,h<=m,(lo0:Int)+m<=c.n] (.s .aF)|_,_,_=>.fail ""))else .fail ""
 |none=>.fail ""
def ahM(P:Program)(t:TypeId)(x y:AV):RM bK:=
 match P.underlying t with
 |some (.slice e)=>
  match dK P e with
  |some sz=>bif (1:Nat).ble sz then
   xr (shapeOf P e) sz y λd _=>bif d.size.beq sz then
    (match x with
     |.vec id=>.look id λ
      |some (.vec c e')=>bif c.size.beq sz then
       .ret ⟨[],[(id,.vec (dq c 0 (min d.n c.n) d) e')],[],λ_=>.s (.int .i64 ((min d.n c.n:Nat):Int))⟩else .fail ""
      |_=>.fail ""
     |.part id lo n=>.look id λ
      |some (.vec c e')=>bif c.size.beq sz then
       .ret ⟨[],[(id,.vec (dq c lo (min d.n n) d) e')],[],λ_=>.s (.int .i64 ((min d.n n:Nat):Int))⟩else .fail ""
      |_=>.fail ""
     |_=>.fail "")else .fail ""
   else .fail ""
  |none=>.fail ""
 |_=>.fail ""
def aaf{k:IntKind}{m:Nat}(x:CL [.arr k m]):List Int:=x.1
def ahN{k:IntKind}{m:Nat}(ws:List Int):CL [.arr k m]:=(ws,())
def sZ(x:AV)(k:IntKind->List Int->Prop->RM bK):RM bK:=
 match x with
 |.s (.str s)=>k .u8 (s.data.toList.map λb=>(b.toNat:Int)) True|.sub id off n=>.look id λ
  |some (.ad [.ay q m ws] _)=>k q ((ws.drop off).take n) (off+n<=m)|_=>.fail ""
 |_=>.fail ""
def acf(P:Program)(t:TypeId)(x y:AV):RM bK:=
 match P.underlying t with
 |some (.slice e)=>
  match dK P e with
  |some sz=>bif sz.beq 1 then
   (match x with
    |.sub id off n=>sZ y λq zs p=>.look id λ
      |some (.ad [.ay k m ws] e')=>bif bP q k then
       .ret ⟨[p,off+n<=m],[(id,.ad [.ay k m (over ws off (min zs.length n) zs)] e')],[],λ_=>.s (.int .i64 ((min zs.length n:Nat):Int))⟩else .fail ""
      |_=>.fail ""
    |.ke id i j n=>sZ y λq zs p=>.look id λ
      |some (.vec (.ab [.arr k m] xs) e')=>bif bP q k&&(1:Nat).ble m then
       .ret ⟨[p,(aaf (xs.getD i (CL.d [.arr k m]))).length=m],[(id,.vec (.ab [.arr k m] (xs.set i (ahN (over (aaf (xs.getD i (CL.d [.arr k m]))) j (min zs.length n) zs)))) e')],[],λ_=>.s (.int .i64 ((min zs.length n:Nat):Int))⟩else .fail ""
      |_=>.fail ""
    |_=>.fail "")else .fail ""
  |none=>.fail ""
 |_=>.fail ""
def aqL:AV->Bool
 |.sub _ _ _|.ke _ _ _ _=>true|_=>false
def acg(P:Program)(t:TypeId)(x:AV):RM bK:=
 match P.underlying t,x with
 |some (.slice e),.part id lo n=>
  (match P.info? e with
   |some i=>bif (1:Nat).ble i.size&&i.zero.any (λz=>gi (shapeOf P e) z.cells.toList&&z.cells.size==i.size)then
    .look id λ
    |some (.vec c e')=>bif c.size.beq i.size then
     .ret ⟨[],[(id,.vec (dq c lo n (dr (shapeOf P e) n)) e')],[],λ_=>.bO []⟩else .fail ""
    |_=>.fail ""
    else .fail ""
   |none=>.fail "")
 |some (.map _ _),.iy id=>.look id λ
  |some (.map ck _)=>.ret ⟨[],[(id,.map ck [])],[],λ_=>.bO []⟩|_=>.fail ""
 |_,_=>.fail ""
def oQ(P:Program)(t:TypeId)(l c:AV):RM bK:=
 match P.underlying t,l.gd,c.gd with
 |some (.slice e),some (_,_,l),some (_,_,c)=>
  (match P.info? e with
   |some i=>bif (1:Nat).ble i.size&&i.bytes.ble 256&&i.zero.any (λz=>gi (shapeOf P e) z.cells.toList&&z.cells.size==i.size)then
    .ret ⟨[0<=l,l<=c,c<=1073741824],[],[.vec (dr (shapeOf P e) l.toNat) e],λid=>.vec id⟩else .fail ""
   |none=>.fail "")
 |_,_,_=>.fail ""
def ach(P:Program)(t:TypeId)(x:AV)(lo hi mx:Option AV):RM bK:=
 match P.underlying t,x with
 |some .string,.s (.str s)=>
  (match gE 0 lo,gE s.size hi,mx with
   |some l,some h,none=>plain [0<=l,l<=h,h<=s.size] (.s (.str (s.extract l.toNat h.toNat)))|_,_,_=>.fail "")
 |some (.slice e),.emp=>(match dK P e,gE 0 lo,gE 0 hi,mx with
  |some _,some l,some h,none=>plain [l=0,h=0] .emp|_,_,_,_=>.fail "")
 |some (.slice e),.s (.ro c)=>
  (match dK P e with
   |some sz=>bif sz.beq c.size then
    (match mx with
     |none=>(match gE 0 lo,gE c.n hi with
      |some l,some h=>plain [0<=l,l<=h,h<=c.n] (.s (.ro (c6 c l.toNat h.toNat)))|_,_=>.fail "")
     |some m=>(match gE 0 lo,hi.bind AV.gd,m.gd with
      |some l,some (_,_,h),some (_,_,m)=>plain [l=0,h=0,m=0] .emp|_,_,_=>.fail ""))else .fail ""
   |none=>.fail "")
 |some (.slice e),.s (.rot c k)=>
  (match dK P e,mx with
   |some sz,none=>bif sz.beq c.size then
    (match lo,gE c.n hi with
     |none,some h=>plain [0<=h,h<=c.n] (.s (.rot (c6 c 0 h.toNat) k))|some l,some h=>(match l.gd with
      |some (_,_,l)=>plain [0<=l,l<=h,h<=c.n] (.s (.ro (c6 c l.toNat h.toNat)))|none=>.fail "")
     |_,_=>.fail "")else .fail ""
   |_,_=>.fail "")
 |some (.slice e),.vec id=>.look id λ
  |some (.vec c _)=>adH P e c id 0 c.n lo hi mx|_=>.fail ""
 |some (.slice e),.part id lo0 n=>.look id λ
  |some (.vec c _)=>adH P e c id lo0 n lo hi mx|_=>.fail ""
 |some (.array n e),.ptr id off=>
  (match dK P e,gE 0 lo,gE n hi,mx with
   |some sz,some l,some h,none=>bif sz.beq 1 then plain [0<=l,l<=h,h<=n] (.sub id (off+l.toNat) (h.toNat - l.toNat))else .fail ""|_,_,_,_=>.fail "")
 |some (.array n e),.gw id i j=>
  (match dK P e,gE 0 lo,gE n hi,mx with
   |some sz,some l,some h,none=>.look id λ
    |some (.vec c _)=>bif sz.beq 1&&(j+n).ble c.size then plain [0<=l,l<=h,h<=n] (.ke id i (j+l.toNat) (h.toNat - l.toNat))else .fail ""|_=>.fail ""
   |_,_,_,_=>.fail "")
 |_,_=>.fail ""
def kU(zs:List Int):ByteArray:=⟨(zs.map λn=>UInt8.ofNat n.toNat).toArray⟩
def tU(P:Program)(src dst:TypeId)(x:AV):RM bK:=
 match P.underlying src,P.underlying dst with
 |some _,some (.int k)=>(match x.gd with
  |some (k',lit,n)=>bif lit then plain [] (.s (.aq k (k.wrap n)))else bif ou k&& !bP k' .u64 then plain [aD n] (.s (.int k n))else plain [] (.s (.int k (k.wrap n)))|none=>.fail "")
 |some .string,some .string=>(match x with
  |.s (.str s)=>plain [] (.s (.str s))|_=>.fail "")
 |some (.slice e),some .string=>(match kindOf P e with
  |some .u8=>(match x with
   |.sub id off n=>.look id λ
     |some (.ad [.ay .u8 m ws] _)=>plain [off+n<=m] (.s (.str (kU ((ws.drop off).take n))))|_=>.fail ""
   |_=>rowOf (.ay .u8) 1 x λc _=>match c with
   |.ay .u8 zs=>plain [] (.s (.str (kU zs)))|_=>.fail "")
  |_=>.fail "")
 |_,_=>.fail ""
def lV(s:ByteArray):List Int:=s.data.toList.map λb=>(b.toNat:Int)
def tV(P:Program)(src dst:TypeId)(x:AV):RM bK:=
 match P.underlying src,P.underlying dst,x with
 |some .string,some (.slice e),.s (.str s)=>(match kindOf P e with
  |some .u8=>plain [s.size<=4294967296] (.s (.ro (.ay .u8 (lV s))))|_=>.fail "")
 |_,_,_=>.fail ""
def alz(P:Program)(src dst:TypeId):Bool:=
 match P.underlying src,P.underlying dst with
 |some .string,some (.slice _)=>true|_,_=>false
def tW(P:Program)(t:TypeId)(x:AV):RM bK:=
 match P.underlying t,x with
 |some (.array n _),.s (.ro (.ay k zs))=>bif (1:Nat).ble n then plain [n<=zs.length] (.jo (.ab [.arr k n] [(zs.take n,())]) 0 0)else .fail ""|_,_=>.fail ""
def rb(x:AV):RM bK:=
 match x with
 |.ptr _ _|.jM _ _ _ _|.jo _ _ _|.fn _ _|.s (.sM _)=>plain [] x|_=>.fail ""
def re(fn:Fn)(first c8:List AV):RM bK:=
 match fn,first,c8 with
 |.func f,[],[]=>plain [] (.s (.sM f))|.func f,[],c::cs=>plain [] (.fn f (c::cs))|.func f,x::xs,[]=>plain [] (.fnb f (x::xs))|_,_,_=>.fail ""
def aty(P:Program)(t:TypeId):Option CK:=
 match P.underlying t with
 |some (.int k)=>some (.int k)|some .bool=>some .bool|some .string=>some .str|some (.array n e)=>match P.underlying e with
  |some (.int k)=>some (.arr k n)|_=>none
 |_=>none
def CK.plain:CK->Bool
 |.int _|.bool|.str|.arr _ _=>true|_=>false
def tX(P:Program)(t:TypeId)(ck:CK):Bool:=ck.plain&&
 match(P.info? t).bind (·.zero),ck with
 |some (.int k' 0),.int k=>bP k' k|some (.bool false),.bool=>true|some (.string s),.str=>s.size.beq 0|some (.agg cs),.arr k n=>mF k cs.toList&&cs.toList.length.beq n|_,_=>false
def CK.av:(c:CK)->c.V->AV
 |.int k,v=>.s (.int k v)|.bool,v=>.s (.bool v)|.str,v=>.s (.str v)|.arr k n,v=>.ay k n v|_,_=>.s .aF
def CK.rdv:(c:CK)->AV->Option c.V
 |.int k,a=>match a with
  |.s (.int k' x)|.s (.aq k' x)=>bif bP k k' then some x else none|_=>none
 |.bool,a=>match a with
  |.s (.bool x)|.s (.ao x)=>some x|_=>none
 |.str,a=>match a with
  |.s (.str x)=>some x|_=>none
 |.arr k n,a=>match a with
  |.ay k' n' ws=>bif bP k k'&&n.beq n' then some ws else none|_=>none
 |_,_=>none
def adI(P:Program)(t:TypeId):Bool:=
 match P.underlying t with
 |some (.int .i64)=>true|_=>false
def yj(P:Program)(t:TypeId)(x i:AV)(ok:Bool):RM bK:=
 match P.underlying t,x,i.gd with
 |some (.map kt et),.iy id,some (k,_,n)=>bif adI P kt&&ou k then
  .look id λ
  |some (.map ck m)=>bif tX P et ck then
   plain [] (bif ok then .bO [ck.av ((iP m n).getD ck.d),.s (.bool (mB m n))]else ck.av ((iP m n).getD ck.d))else .fail ""
  |_=>.fail ""
  else .fail ""
 |_,_,_=>.fail ""
def oR(P:Program)(t:TypeId)(x i v:AV):RM bK:=
 match P.underlying t,x,i.gd with
 |some (.map kt _),.iy id,some (k,_,n)=>bif adI P kt&&ou k then
  .look id λ
  |some (.map ck m)=>(match ck.rdv v with
   |some y=>.ret ⟨[],[(id,.map ck (oc m n y))],[],λ_=>.bO []⟩|none=>.fail "")
  |_=>.fail ""
  else .fail ""
 |_,_,_=>.fail ""
def tY(P:Program)(t:TypeId)(r:Option AV):RM bK:=
 match P.underlying t,r with
 |some (.map _ et),none=>(match aty P et with
  |some ck=>.ret ⟨[],[],[.map ck []],λid=>.iy id⟩|none=>.fail "")
 |_,_=>.fail ""
def aci(x:AV):RM bK:=
 match x with
 |.ptr id 0=>.look id λ
  |some (.iter mid gid ck _ cur)=>.look mid λ
   |some (.wZ _ _ aqM)=>bif gid.beq aqM&&ck.plain then(match cur with
    |some p=>plain [] (.bO [.s (.int .i64 p.1),ck.av p.2])|none=>.fail "")else .fail ""
   |_=>.fail ""
  |_=>.fail ""
 |_=>.fail ""
abbrev alA:=FuncId->List AV->RM bK
abbrev fa:=Nat->alA
def di(P:Program)(f:FuncId):Bool:=
 match P.funcs[f]? with
 |some fn=>fn.body.isSome&& !(fn.name== "runtime.NumGoroutine")|none=>false
def atz(P:Program)(f:FuncId):Prop:=
 ∃(fn:Func) (t e tR:TypeId) (size:Nat),P.funcs[f]? =some fn/\(fn.name== "runtime.NumGoroutine")=false/\fn.body.isNone=true/\Extern.findNext fn=none/\Extern.find fn=some (Extern.SlicesOverlaps.overlaps #[t,t] #[tR])/\
  P.underlying t=some (.slice e)/\dK P e=some size
def ownRow:AV->Option Nat
 |.vec id=>some id|.part id _ _=>some id|_=>none
def rf(P:Program)(f:FuncId)(args:List AV):RM bK:=
 match args with
 |[x,y]=>match ownRow x,ownRow y with
  |some i,some j=>bif i.beq j then .fail "" else
   .look i λo=>match o with
    |some (.vec c _)=>.look j λo=>match o with
     |some (.vec d _)=>bif (1:Nat).ble c.size&&(1:Nat).ble d.size then plain [atz P f] (.s (.ao false))else .fail ""|_=>.fail ""
    |_=>.fail ""
  |_,_=>.fail ""
 |_=>.fail ""
def xt(P:Program)(S:alA)(f:FuncId)(args:List AV):RM bK:=
 bif di P f then S f args else rf P f args
def yk(P:Program)(t:TypeId):Bool:=
 match P.underlying t with
 |some (.slice _)|some .string=>true|_=>false
def aag(P:Program)(b:Builtin)(ts:List TypeId)(args:List AV):RM bK:=
 match b,ts,args with
 |.len,t::_,[x]=>aoo P t x|.cap,t::_,[x]=>aop P t x|.append,[t,t'],[x,y]=>bif yk P t' then yi P t x y else tT P t t' x y|.min,_,[x,y]=>aly false x y|.max,_,[x,y]=>aly true x y|.copy,[t,t'],[x,y]=>bif yk P t' then(bif aqL x then acf P t x y else ahM P t x y)else .fail ""|.clear,t::_,[x]=>acg P t x|_,_,_=>.fail ""
def pz:BinOp->Bool
 |.eql=>true|_=>false
def aoq(P:Program)(op:BinOp)(t:TypeId)(x:AV):RM bK:=
 match op with
 |.eql|.neq=>
  match P.underlying t with
  |some (.slice _)=>
   match x with
   |.s (.ro c)=>plain [] (.s (.c7 c.n (pz op)))|.emp=>plain [] (.s (.c7 0 (pz op)))|.vec id=>.look id λo=>match o with
    |some (.vec c _)=>plain [] (.s (.c7 c.n (pz op)))|_=>.fail ""
   |_=>.fail ""
  |_=>.fail ""
 |_=>.fail ""
def ov:AV->AV
 |.s .oJ=>.emp|x=>x
def acj:AV->Bool
 |.s .oJ=>true|_=>false
def aor(P:Program)(t:TypeId)(x:AV):RM bK:=
 match P.underlying t,x with
 |some (.interface _),_=>.fail ""|some _,.s (.int k n)=>plain [] (.s (.ifi t k n))|some _,.s (.aq k n)=>plain [] (.s (.ifi t k n))|some _,.s (.str s)=>plain [] (.s (.ifs t s))|some _,.s (.bool b)=>plain [] (.s (.ifb t b))|some _,.s (.ao b)=>plain [] (.s (.ifb t b))|_,_=>.fail ""
def ahO(P:Program)(S:alA)(ev:Operand->AV)(o:Oper):RM bK:=
 match o.op with
 |.move x|.assign x=>plain [] (ev x)|.pick c a b=>oL "pick" (ahE (ev c) (ev a) (ev b))|.alloc t=>acd P t|.box t x=>aom t (ev x)|.makeInterface t x=>aor P t (ev x)|.build t ps=>ace P t (ps.toList.map λp=>(p.1,ev p.2))|.buildSlice t n ps=>mH P t n (ps.toList.map λp=>(p.1,ev p.2))|.load t a=>adF P t (ev a)|.store t a x=>ab9 P t (ev a) (ev x)|.nilCheck x=>rb (ev x)|.binOp op t x y _=>oL "binOp" (alw P op t (ev x) (ev y))|.unOp op _ x=>oL "unOp" (unR op (ev x))|.convert a b x=>bif alz P a b then tV P a b (ev x)else tU P a b (ev x)|.sliceToArrayPointer t x=>tW P t (ev x)|.entry x=>aci (ev x)|.makeFunc fn a b=>re fn (a.toList.map ev) (b.toList.map ev)|.slice t x l h m=>ach P t (ev x) (l.map ev) (h.map ev) (m.map ev)|.fieldAddr t x f=>oM P t (ev x) f|.field t x f=>acb P t (ev x) f|.indexAddr t x i=>oN P t (ev x) (ev i)|.index t x i=>aca P t (ev x) (ev i)|.extract x i=>tS (ev x) i|.lookup t x i ok=>yj P t (ev x) (ev i) ok|.mapUpdate t x i v|.insert t x i v=>oR P t (ev x) (ev i) (ev v)|.makeMap t r=>tY P t (r.map ev)|.makeSlice t l c=>oQ P t (ev l) (ev c)|.call c=>match c.callee with
  |.value f=>match ev f with
   |.s (.sM f)=>xt P S f (c.args.toList.map ev)|.fn f c8=>xt P S f (c.args.toList.map ev++c8)|.fnb f first=>xt P S f (first++c.args.toList.map ev)
   |_=>.fail ""
  |.builtin b=>aag P b c.argTypes.toList (c.args.toList.map ev)|_=>.fail ""
 |_=>.fail ""
def aos:AV->Bool
 |.s (.ml _)|.s (.ot _)=>true|_=>false
def yl(op:BinOp)(x y:AV):RM bK:=
 match op,x.gd,y with
 |.gtr,some (.i64,_,a),.s (.ml b)=>plain [a<=(b:Int)] (.s (.ao false))|.gtr,some (.i64,_,a),.s (.ot b)=>plain [(b:Int)<=a] (.s (.ao true))|_,_,_=>.fail ""
def RM.ahP{α:Type}(id:Nat):RM α->RM α
 |.ret a=>.ret a|.look j k=>bif j.beq id then(k (some .aW)).ahP id else .look j λo=>(k o).ahP id|.fail w=>.fail w
def RM.nv(id:Nat):RM bK->RM bK
 |.ret q=>.ret {q with up:=(id,.aW)::q.up}|.look j k=>.look j λo=>(k o).nv id|.fail w=>.fail w
def ahQ(id:Nat)(c:aS)(ev:Operand->AV):Operand->AV:=λx=>match ev x with
 |.vec j=>bif j.beq id then .s (.ro c)else .vec j|a=>a
def giveUp:List Nat->(Operand->AV)->((Operand->AV)->RM bK)->RM bK
 |[],ev,k=>k ev|id::ids,ev,k=>.look id λo=>match o with
  |some (.vec c _)=>((giveUp ids (ahQ id c ev) k).ahP id).nv id|_=>.fail ""
def ahR(ev:Operand->AV)(ps:List (Nat×Operand)):List Nat:=ps.filterMap λp=>match ev p.2 with
 |.vec j=>some j|_=>none
def opR(P:Program)(S:alA)(ev:Operand->AV)(o:Oper):RM bK:=
 match o.op with
 |.binOp op t x y _=>bif acj (ev y)then aoq P op t (ov (ev x))else bif aos (ev y)then yl op (ov (ev x)) (ev y)else oL "binOp" (alw P op t (ov (ev x)) (ev y))|.buildSlice _ _ ps=>giveUp (ahR ev ps.toList) (λx=>ov (ev x)) λev=>ahO P S ev o|_=>ahO P S (λx=>ov (ev x)) o
def bd:List Prop->Prop
 |[]=>True|p::ps=>p/\bd ps
theorem bf{k k':IntKind}(h:bP k k'=true):k=k':=by
 cases k<;>cases k'<;>first|rfl|(simp[bP]at h)
theorem mI{k:IntKind}(h:ou k=true):k=.i64:=by
 cases k<;>first|rfl|(simp[ou]at h)
theorem fw{n:Int}(h:aD n):i64.wrap n=n:=by
 have⟨h1,h2⟩:=h;rw[IntKind.wrap_i64];omega
section
variable{ρ:Nat->Value}{H:aJ}{O:Nat->Prop}{w:World}{P:Program}
theorem aC{x:SV}{v:Value}(h:aX O w x v):ae ρ H O w (.s x) v:=by
 cases x<;>unfold ae<;>first|trivial|exact h
theorem aw{x:SV}{v:Value}(hx:x≠.aF)(h:ae ρ H O w (.s x) v):aX O w x v:=by
 cases x<;>unfold ae at h<;>first|exact(hx rfl).elim|exact h
theorem cp{x:AV}{v:Value}{k:IntKind}{l:Bool}{n:Int}(h:x.gd =some (k,l,n))(hd:ae ρ H O w x v):v=.int k n:=by
 cases x with
 |s x=>
  cases x<;>simp only[AV.gd,Option.some.injEq,Prod.mk.injEq,reduceCtorEq]at h
  all_goals
   obtain⟨rfl, -,rfl⟩:=h;have:=aw (by simp) hd;cases this;rfl
 |_=>simp[AV.gd]at h
theorem jH{x:AV}{v:Value}{l b:Bool}(h:x.jN =some (l,b))(hd:ae ρ H O w x v):v=.bool b:=by
 cases x with
 |s x=>
  cases x<;>simp only[AV.jN,Option.some.injEq,Prod.mk.injEq,reduceCtorEq]at h
  all_goals
   obtain⟨-,rfl⟩:=h;have:=aw (by simp) hd;cases this;rfl
 |_=>simp[AV.jN]at h
theorem gr{s:ByteArray}{v:Value}(hd:ae ρ H O w (.s (.str s)) v):v=.string s:=by
 have:=aw (by simp) hd;cases this;rfl
theorem gF(l:Bool)(k:IntKind)(n:Int):ae ρ H O w (mkInt l k n) (.int k n):=by
 unfold mkInt;cases l;exact aC (.int k n);exact aC (.aq k n)
theorem oS(l:Bool)(b:Bool):ae ρ H O w (kE l b) (.bool b):=by
 unfold kE;cases l;exact aC (.bool b);exact aC (.ao b)
theorem kV{l:Bool}{k:IntKind}{n:Int}(h:bd (mE l k n).1):ae ρ H O w (mE l k n).2 (.int k (k.wrap n)):=by
 unfold mE at *;cases l;cases hk:ou k;exact aC (.int _ _);simp only[hk,cond_true,cond_false,bd,and_true]at h ⊢;obtain rfl:=mI hk;rw[fw h];exact aC (.int _ _);exact aC (.aq _ _)
theorem gG(op:BinOp)(t:TypeId)(x y:Operand)(k k':IntKind)(a b:Int):(eqGuard op t x y (.int k a) (.int k' b)).run P w=.ok () w:=by
 cases op<;>simp[eqGuard]
theorem aah(op:BinOp)(t:TypeId)(x y:Operand)(a b:ByteArray):(eqGuard op t x y (.string a) (.string b)).run P w=.ok () w:=by
 cases op<;>simp[eqGuard]
theorem ym(op:BinOp)(t:TypeId)(x y:Operand)(a b:Bool):(eqGuard op t x y (.bool a) (.bool b)).run P w=.ok () w:=by
 cases op<;>simp[eqGuard]
theorem mJ(op:BinOp)(t:TypeId)(x y:Operand)(a b:Option Addr):(eqGuard op t x y (.pointer a) (.pointer b)).run P w=.ok () w:=by
 cases op<;>simp[eqGuard]
theorem alB{l:Bool}{k:IntKind}{x y:Int}{q:List Prop×AV}
 (h:(bif l then([y≠0],AV.s (.aq k (k.wrap (x.tdiv y))))else bif ou k then([y≠0,aD (x.tdiv y)],.s (.int k (x.tdiv y)))else([y≠0],.s (.int k (k.wrap (x.tdiv y)))))=q)
 (hn:bd q.1):y≠0/\ae ρ H O w q.2 (.int k (k.wrap (x.tdiv y))):=by
 subst h;cases l;cases hk:ou k;simp only[hk,cond_false,bd,and_true]at hn ⊢;exact⟨hn,aC (.int _ _)⟩;simp only[hk,cond_true,cond_false,bd,and_true]at hn ⊢;obtain rfl:=mI hk;rw[fw hn.2];exact⟨hn.1,aC (.int _ _)⟩;simp only[cond_true,bd,and_true]at hn ⊢;exact⟨hn,aC (.aq _ _)⟩
theorem rh{op:BinOp}{t:TypeId}{k:IntKind}{lx ly:Bool}{x y:Int}{q:List Prop×AV}(h:tQ op k lx ly x y=some q)(hn:bd q.1):
 ∃v,(binOp op t (.int k x) (.int k y)).run P w=.ok v w/\ae ρ H O w q.2 v:=by
 cases op<;>simp only[tQ,Option.some.injEq,reduceCtorEq]at h
 case add=>subst h;exact⟨_,by simp[binOp,Op.intArith],kV hn⟩
 case sub=>subst h;exact⟨_,by simp[binOp,Op.intArith],kV hn⟩
 case mul=>subst h;exact⟨_,by simp[binOp,Op.intArith],kV hn⟩
 case quo=>
  have⟨h0,hd⟩:=alB (ρ:=ρ) (H:=H) (O:=O) (w:=w) h hn;exact⟨_,by simp[binOp,Op.intDiv,h0],hd⟩
 case rem=>
  subst h;have h0:y≠0:=by simpa[bd]using hn
  exact⟨_,by simp[binOp,Op.intDiv,h0],gF _ _ _⟩
 case and=>subst h;exact⟨.int k (pv .and k x y),by simp[binOp,Op.intBits,pv],gF _ _ _⟩
 case or=>subst h;exact⟨.int k (pv .or k x y),by simp[binOp,Op.intBits,pv],gF _ _ _⟩
 case xor=>subst h;exact⟨.int k (pv .xor k x y),by simp[binOp,Op.intBits,pv],gF _ _ _⟩
 case andNot=>subst h;exact⟨.int k (pv .andNot k x y),by simp[binOp,Op.intBits,pv],gF _ _ _⟩
 all_goals subst h;exact⟨_,by simp[binOp,Op.intCmp],oS _ _⟩
theorem xu{op:BinOp}{t:TypeId}{k k':IntKind}{l:Bool}{x y:Int}{q:List Prop×AV}(h:ab1 op k l x y=some q)(hn:bd q.1):
 ∃v,(binOp op t (.int k x) (.int k' y)).run P w=.ok v w/\ae ρ H O w q.2 v:=by
 cases op<;>simp only[ab1,Option.some.injEq,reduceCtorEq]at h
 all_goals
  subst h;have h0:0<=y:=by simpa[bd]using hn
  exact⟨_,by simp[binOp,Op.shift,Int.not_lt.2 h0],gF _ _ _⟩
theorem ack(a b:ByteArray):(a.toList==b.toList)=decide (a=b):=by
 rw[ByteArray.toList_eq,ByteArray.toList_eq,Bool.eq_iff_iff];simp only[beq_iff_eq,decide_eq_true_eq];constructor;intro h;cases a;cases b;simp only[ByteArray.mk.injEq]at *;exact toList_inj.1 h;rintro rfl;rfl
theorem ae8{op:BinOp}{t:TypeId}{x y:ByteArray}{q:List Prop×AV}(h:ab2 op x y=some q)(hn:bd q.1):
 ∃v,(binOp op t (.string x) (.string y)).run P w=.ok v w/\ae ρ H O w q.2 v:=by
 cases op<;>simp only[ab2,Option.some.injEq,reduceCtorEq]at h
 case add=>
  subst h;have h0:x.size+y.size<=4611686018427387904:=by simpa[bd]using hn
  exact⟨.string (x++y),by simp[binOp,Op.stringOp];omega,aC (.str _)⟩
 all_goals subst h;exact⟨_,by simp only[binOp,Op.stringOp,ack];rfl,by first|exact aC (.bool _)|(simp only[slt,ByteArray.toList_eq];exact aC (.bool _))⟩
theorem aot{op:UnOp}{x:AV}{vx:Value}{q:List Prop×AV}(h:unR op x=some q)(hn:bd q.1)(hx:ae ρ H O w x vx):
 ∃v,(Op.unary op vx).run P w=.ok v w/\ae ρ H O w q.2 v:=by
 unfold unR at h;split at h<;>simp only[Option.some.injEq,reduceCtorEq]at h<;>subst h;have h1:=aw (by simp) hx;cases h1;exact⟨_,by simp only[Op.unary,Sem.run_pure],aC (.bool _)⟩;have h1:=aw (by simp) hx;cases h1;exact⟨_,by simp only[Op.unary,Sem.run_pure],aC (.ao _)⟩;rename_i n e;have h1:=aw (by simp) hx;cases h1;rename_i b hp;exact⟨_,by simp only[Op.unary,Sem.run_pure],aC (.c7 n (!e) (!b) (λh=>hp (by revert h;cases b<;>cases e<;>decide)))⟩;have h1:=aw (by simp) hx;cases h1;exact⟨_,by simp only[Op.unary,Op.intArith,Sem.run_pure],kV hn⟩;have h1:=aw (by simp) hx;cases h1;exact⟨_,by simp only[Op.unary,Op.intArith,Sem.run_pure],kV hn⟩
theorem ahS{c a b:AV}{vc va vb:Value}{q:List Prop×AV}(h:ahE c a b=some q)(hc:ae ρ H O w c vc)(ha:ae ρ H O w a va)(hb:ae ρ H O w b vb):
 ∃t,vc=.bool t/\ae ρ H O w q.2 (if t then va else vb):=by
 unfold ahE at h;split at h;simp only[Option.some.injEq]at h;subst h;have h1:=aw (by simp) hc;cases h1;exact⟨true,rfl,ha⟩;simp only[Option.some.injEq]at h;subst h;have h1:=aw (by simp) hc;cases h1;exact⟨false,rfl,hb⟩;rename_i t;have h1:=aw (by simp) hc;cases h1;refine⟨t,rfl, ?_⟩;split at h;rename_i la x lb y h2 h3;simp only[Option.some.injEq]at h;subst h;obtain rfl:=jH h2 ha;obtain rfl:=jH h3 hb;cases t;exact aC (.bool _);exact aC (.bool _);split at h;rename_i k la x k' lb y h2 h3;rw[Bool.cond_eq_ite]at h;split at h;rename_i hk;obtain rfl:=bf hk;simp only[Option.some.injEq]at h;subst h;obtain rfl:=cp h2 ha;obtain rfl:=cp h3 hb;cases t;exact aC (.int _ _);exact aC (.int _ _);cases h;cases h;cases h
end
def yn(fr:Nat×Nat)(cells:List Value):Prop:=(∀off,off<=cells.length->¬(fr.1<=off/\off<fr.2))/\∀u∈cells,u.oneCell'=true
def ow(fr:Nat×Nat)(n:Nat):Prop:=∀off,off<n->¬(fr.1<=off/\off<fr.2)
theorem yn.ow{fr:Nat×Nat}{cells:List Value}(h:yn fr cells):ow fr cells.length:=λoff ho=>h.1 off (Nat.le_of_lt ho)
theorem yn.over{fr:Nat×Nat}{cells bz:List Value}{k:Nat}(h:yn fr cells)(hn:∀v∈bz,v.oneCell'=true)(hl:k+bz.length<=cells.length):yn fr (cells.take k++bz++cells.drop (k+bz.length)):=by
 refine⟨λoff ho=>h.1 off ?_,λu hu=> ?_⟩;simp only[length_append,length_take,length_drop]at ho;omega;simp only[mem_append]at hu;rcases hu with(hu|hu)|hu;exact h.2 u (List.mem_of_mem_take hu);exact hn u hu;exact h.2 u (List.mem_of_mem_drop hu)
def CK.val:(c:CK)->c.V->Value
 |.int k,v=>.int k v|.bool,v=>.bool v|.str,v=>.string v|.arr k _,v=>.agg (List.map (α:=Int) (Value.int k) v).toArray|_,_=>undef
def CK.fits:(c:CK)->c.V->Prop
 |.arr _ n,v=>List.length (α:=Int) v=n|_,_=>True
structure iQ (ck:CK) (m:List (Int×ck.V)) (es:List MapEntry) (clock:Nat):Prop where
 eq:es.map (λe=>(e.key,e.val))=m.map (λp=>(Value.int .i64 p.1,ck.val p.2))
 keys:(m.map (·.1)).Nodup
 xv:(es.map (·.born)).Nodup
 old:∀e∈es,e.born<clock
 fits:∀p∈m,ck.fits p.2
def ae9(es:Array MapEntry)(clock:Nat):Value:=.tuple #[.int .i64 clock,.tuple (es.map λe=>.tuple #[e.key,e.val,.int .i64 (e.born:Int)])]
structure tZ (ck:CK) (left:List (Int×ck.V)) (cur:Option (Int×ck.V)) (es:Array MapEntry) (clock:Nat) (seen:Array Nat):Prop where
 eq:(es.toList.filter λe=> !seen.contains e.born).map (λe=>(e.key,e.val))=left.map (λp=>(.int .i64 p.1,ck.val p.2))
 fits:∀p∈left,ck.fits p.2
 xv:(es.toList.map (·.born)).Nodup
 old:∀e∈es.toList,e.born<clock
 cur:∀p,cur=some p->ck.fits p.2/\∃e,e∈es.toList/\seen.back? =some e.born/\e.key=.int .i64 p.1/\e.val=ck.val p.2
def kG(ρ:Nat->Value)(H:aJ)(O:Nat->Prop)(w:World)(iR:Value):au->Prop
 |.aW=>True|.map ck m=>∃(b:Nat) (es:Array MapEntry) (clock:Nat),iR=.map (some b)/\w.heap[b]? =some (.map es clock)/\iQ ck m es.toList clock|.wZ ck m gid=>∃(b:Nat) (es:Array MapEntry) (clock:Nat),iR=.map (some b)/\w.heap[b]? =some (.map es clock)/\iQ ck m es.toList clock/\ρ gid=ae9 es clock/\(H gid).isSome=true|.iter mid gid ck left cur=>∃(b mb:Nat) (es:Array MapEntry) (clock:Nat) (seen:Array Nat),iR=.pointer (some ⟨b,0,none⟩)/\w.heap[b]? =some (.mapIter (some mb) clock seen clock)/\tZ ck left cur es clock seen/\
  ρ gid=ae9 es clock/\(H gid).isSome=true/\ρ mid=.map (some mb)/\(H mid).isSome=true
 |.ad segs e=>∃(b:Nat) (cells:List Value) (fr:Nat×Nat),iR=.pointer (some ⟨b,0,none⟩)/\w.heap[b]? =some (.cells cells.toArray e fr)/\ow fr cells.length/\aA ρ H O w segs cells|.vec c e=>∃(a:Option Addr) (cap:Nat),iR=.slice a c.n cap/\c.n<=cap/\cap<=maxLen/\(cap=0\/
  ∃(b o:Nat) (cells:List Value) (fr:Nat×Nat) (us:Nat->Nat->Value),a=some ⟨b,o,none⟩/\w.heap[b]? =some (.cells cells.toArray e fr)/\yn fr cells/\o+cap*c.size<=cells.length/\
   ∀i j,i<c.n->j<c.size->cells[o+i*c.size+j]? =some (us i j)/\aX O w (c.cell i j) (us i j))
structure Sat (ρ:Nat->Value) (H:aJ) (G:Nat->Prop) (w:World):Prop where
 obj:∀id o,H id=some o->kG ρ H (aV ρ H G) w (ρ id) o
 inj:∀i j oi oj b,H i=some oi->H j=some oj->oi.alive=true->oj.alive=true->eD (ρ i)=some b->eD (ρ j)=some b->i=j
 apart:∀b,Own ρ H b->¬G b
 low:∀b,G b->b<w.heap.size
structure xw (ρ:Nat->Value) (H:aJ) (w w':World):Prop where
 os:w'.os=w.os
 tape:w'.tape=w.tape
 output:w'.output=w.output
 heap:∀b,b<w.heap.size->¬Own ρ H b->w'.heap[b]? =w.heap[b]?
def Good(ρ:Nat->Value)(H:aJ)(G:Nat->Prop)(w:World)(H':aJ)(r:AV)(v:Value)(w':World):Prop:=
 ∃aO,Sat aO H' G w'/\ae aO H' (aV aO H' G) w' r v/\Step ρ H (aV ρ H G) w aO H' (aV aO H' G) w'/\xw ρ H w w'
section
variable{ρ aO:Nat->Value}{H H':aJ}{G O O':Nat->Prop}{w w':World}{P:Program}
theorem kG.step(st:Step ρ H O w aO H' O' w'){iR:Value}{o:au}(h:kG ρ H O w iR o)(hb:∀b,o.alive=true->eD iR=some b->w'.heap[b]? =w.heap[b]?):
 kG aO H' O' w' iR o:=by
 cases o with
 |aW=>trivial|map ck m=>
  obtain⟨b,es,clock,rfl,h1,h2⟩:=h;exact⟨b,es,clock,rfl,by rw[hb b rfl rfl];exact h1,h2⟩
 |wZ ck m gid=>
  obtain⟨b,es,clock,rfl,h1,h2,h3,h4⟩:=h;have⟨o,ho⟩:=isSome_iff_exists.1 h4;have⟨o',c5,_⟩:=st.eT gid o ho;exact⟨b,es,clock,rfl,by rw[hb b rfl rfl];exact h1,h2,by rw[st.pt gid o ho];exact h3,by rw[c5];rfl⟩
 |iter mid gid ck left cur=>
  obtain⟨b,mb,es,clock,seen,rfl,h1,h2,h3,h4,h5,h6⟩:=h;have⟨o,ho⟩:=isSome_iff_exists.1 h4;have⟨o',c5,_⟩:=st.eT gid o ho;have⟨p,hp⟩:=isSome_iff_exists.1 h6;have⟨p',ri,_⟩:=st.eT mid p hp;exact⟨b,mb,es,clock,seen,rfl,by rw[hb b rfl rfl];exact h1,h2,by rw[st.pt gid o ho];exact h3,by rw[c5];rfl,by rw[st.pt mid p hp];exact h5,by rw[ri];rfl⟩
 |ad segs e=>
  obtain⟨b,cells,fr,rfl,h1,h2,h3⟩:=h;exact⟨b,cells,fr,rfl,by rw[hb b rfl rfl];exact h1,h2,h3.step st⟩
 |vec c e=>
  obtain⟨a,cap,rfl,h1,h2,h3⟩:=h;refine⟨a,cap,rfl,h1,h2, ?_⟩;rcases h3 with h3|⟨b,o,cells,fr,us,rfl,h4,h5,h6,h7⟩;exact .inl h3;by_cases hc:cap=0;exact .inl hc;refine .inr ⟨b,o,cells,fr,us,rfl,by rw[hb b rfl (by simp[eD,hc])];exact h4,h5,h6,λi j hi hj=> ?_⟩;have⟨h8,h9⟩:=h7 i j hi hj;exact⟨h8,h9.step st.ft st.heap st.size⟩
theorem Good.val(hs:Sat ρ H G w){r:AV}{v:Value}(h:ae ρ H (aV ρ H G) w r v):Good ρ H G w H r v w:=
 ⟨ρ,hs,h,Step.refl _ _ _ _,rfl,rfl,rfl,λ_ _ _=>rfl⟩
theorem gf(hs:Sat ρ H G w){b:Nat}(h:Own ρ H b):b<w.heap.size:=by
 have⟨id,o,ho,ha,hb⟩:=h;have eW:=hs.obj id o ho;cases o with
 |aW=>simp[au.alive]at ha|map ck m=>
  have⟨b',es,clock,h0,h1,_⟩:=eW;rw[h0]at hb;simp only[eD,Option.some.injEq]at hb;subst hb;exact(Array.getElem?_eq_some_iff.1 h1).1
 |wZ ck m gid=>
  have⟨b',es,clock,h0,h1,_⟩:=eW;rw[h0]at hb;simp only[eD,Option.some.injEq]at hb;subst hb;exact(Array.getElem?_eq_some_iff.1 h1).1
 |iter mid gid ck left cur=>
  have⟨b',mb,es,clock,seen,h0,h1,_⟩:=eW;rw[h0]at hb;simp only[eD,Option.some.injEq]at hb;subst hb;exact(Array.getElem?_eq_some_iff.1 h1).1
 |ad segs e=>
  have⟨b',cells,fr,h0,h1,_⟩:=eW;rw[h0]at hb;simp only[eD,Option.some.injEq]at hb;subst hb;exact(Array.getElem?_eq_some_iff.1 h1).1
 |vec c e=>
  have⟨a,cap,h0,h1,_,h3⟩:=eW;rw[h0]at hb;rcases h3 with rfl|⟨b',o,cells,fr,us,rfl,h4,_⟩;cases a<;>simp[eD]at hb;simp only[eD]at hb;split at hb;cases hb;simp only[Option.some.injEq]at hb;subst hb;exact(Array.getElem?_eq_some_iff.1 h4).1
theorem ua(hs:Sat ρ H G w){b:Nat}(h:aV ρ H G b):b<w.heap.size:=h.elim (gf hs) (hs.low b)
theorem rj:∀(x:AV) (cs:List Value),aN ρ H O w x cs->cs.length=x.wide:=by
 intro x cs h;cases x<;>unfold aN at h
 case ay k n ws=>obtain⟨h1,rfl⟩:=h;simp[AV.wide,h1]
 case agg=>exact h.elim
 case bO=>exact h.elim
 all_goals (obtain⟨u,rfl,_⟩:=h;rfl)
theorem aB{cs:List Value}:aA ρ H O w [] cs↔cs=[]:=by unfold aA;exact Iff.rfl
theorem ah{a:AV}{aI:List AV}{cs:List Value}:aA ρ H O w (a::aI) cs↔ ∃c1 c2,cs=c1++c2/\aN ρ H O w a c1/\aA ρ H O w aI c2:=by
 rw[aA]
theorem bc{cs:List Value}:bH ρ H O w [] cs↔cs=[]:=by unfold bH;exact Iff.rfl
theorem aG{a:AV}{aI:List AV}{cs:List Value}:bH ρ H O w (a::aI) cs↔ ∃v rest,cs=v::rest/\ae ρ H O w a v/\bH ρ H O w aI rest:=by
 rw[bH]
theorem fx{aI bs:List AV}:∀{cs:List Value},aA ρ H O w (aI++bs) cs↔ ∃c1 c2,cs=c1++c2/\aA ρ H O w aI c1/\aA ρ H O w bs c2:=by
 induction aI with
 |nil=>
  intro cs;simp only[List.nil_append,aB];exact⟨λh=>⟨[],cs,rfl,rfl,h⟩,λ⟨c1,c2,h1,h2,h3⟩=>by subst h2;subst h1;exact h3⟩
 |cons a aI ih=>
  intro cs;simp only[cons_append,ah,ih];constructor;rintro⟨c1,c2,rfl,h1,c3,c4,rfl,h2,h3⟩;exact⟨c1++c3,c4,by simp,⟨c1,c3,rfl,h1,h2⟩,h3⟩;rintro⟨c1,c2,rfl,⟨c3,c4,rfl,h1,h2⟩,h3⟩;exact⟨c3,c4++c2,by simp,h1,c4,c2,rfl,h2,h3⟩
theorem iS:∀{aI:List AV} {cs:List Value},aA ρ H O w aI cs->cs.length=fZ aI
 |[],cs,h=>by rw[aB.1 h];rfl
 |a::aI,cs,h=>by
  obtain⟨c1,c2,rfl,h1,h2⟩:=ah.1 h;simp[fZ,rj a c1 h1,iS h2]
theorem fy:∀(segs:List AV) (n:Nat) {cs:List Value} {ss:List AV},fu segs n=some ss->aA ρ H O w segs cs->n<=cs.length/\aA ρ H O w ss (cs.drop n)
 |segs,0,cs,ss,h,hd=>by
  cases segs<;>(simp only[fu,Option.some.injEq]at h;subst h;exact⟨zero_le _,by simpa using hd⟩)
 |[],n+1,cs,ss,h,hd=>by simp[fu]at h
 |a::aI,n+1,cs,ss,h,hd=>by
  obtain⟨c1,c2,rfl,h1,h2⟩:=ah.1 hd;simp only[fu,Bool.cond_eq_ite]at h;split at h;rename_i hw;have hw:=le_of_ble_eq_true hw;have⟨h3,h4⟩:=fy aI _ h h2;have hl:=rj a c1 h1;refine⟨by simp;omega, ?_⟩;rw[List.drop_append];have e1:c1.drop (n+1)=[]:=List.drop_eq_nil_of_le (by omega);rw[e1,List.nil_append,hl];exact h4;cases h
theorem fz:∀(segs:List AV) (n:Nat) {cs:List Value} {ss:List AV},fv segs n=some ss->aA ρ H O w segs cs->n<=cs.length/\aA ρ H O w ss (cs.take n)
 |segs,0,cs,ss,h,hd=>by
  cases segs<;>(simp only[fv,Option.some.injEq]at h;subst h;exact⟨zero_le _,by simp[aB]⟩)
 |[],n+1,cs,ss,h,hd=>by simp[fv]at h
 |a::aI,n+1,cs,ss,h,hd=>by
  obtain⟨c1,c2,rfl,h1,h2⟩:=ah.1 hd;simp only[fv,Bool.cond_eq_ite]at h;split at h;rename_i hw;simp only[and_eq_true]at hw;have hw1:=le_of_ble_eq_true hw.1;have hw2:=le_of_ble_eq_true hw.2;simp only[map_eq_some_iff]at h;obtain⟨ss',h3,rfl⟩:=h;have⟨h4,h5⟩:=fz aI _ h3 h2;have hl:=rj a c1 h1;refine⟨by simp;omega,ah.2 ⟨c1,c2.take (n+1 - a.wide), ?_,h1,h5⟩⟩;rw[List.take_append,hl,List.take_of_length_le (by omega)];cases h
theorem dV{a:AV}{cs:List Value}(h:aN ρ H O w a cs)(ha:a.wide=1)(hi:∀k n ws,a≠.ay k n ws):∃u,cs=[u]/\u.oneCell'=true/\ae ρ H O w a u:=by
 cases a<;>unfold aN at h
 case ay k n ws=>exact(hi k n ws rfl).elim
 case agg=>exact h.elim
 case bO=>exact h.elim
 case iy id=>obtain⟨u,rfl,h1⟩:=h;exact⟨u,rfl,by unfold aH at h1;obtain⟨b,_,rfl,_⟩:=h1;rfl,by unfold ae;exact h1⟩
 case tag id=>obtain⟨u,rfl,h1⟩:=h;exact⟨u,rfl,by unfold aH at h1;exact h1.2.1,by unfold ae;exact h1⟩
 case s x=>obtain⟨u,rfl,h1⟩:=h;exact⟨u,rfl,h1.one,aC h1⟩
 case ptr id off=>obtain⟨u,rfl,h1⟩:=h;exact⟨u,rfl,by unfold aH at h1;obtain⟨b,_,rfl,_⟩:=h1;rfl,by unfold ae;exact h1⟩
 case jM id off n i=>obtain⟨u,rfl,h1⟩:=h;exact⟨u,rfl,by unfold aH at h1;obtain⟨_,b,_,rfl,_⟩:=h1;rfl,by unfold ae;exact h1⟩
 case jo c m j=>obtain⟨u,rfl,h1⟩:=h;exact⟨u,rfl,by unfold aH at h1;obtain⟨b,o,us,rfl,_⟩:=h1;rfl,by unfold ae;exact h1⟩
 case vec id=>obtain⟨u,rfl,h1⟩:=h;exact⟨u,rfl,by unfold aH at h1;exact h1.1,by unfold ae;exact h1⟩
 case gw id i j=>obtain⟨u,rfl,h1⟩:=h;exact⟨u,rfl,by unfold aH at h1;exact h1.1,by unfold ae;exact h1⟩
 case part id lo n=>obtain⟨u,rfl,h1⟩:=h;exact⟨u,rfl,by unfold aH at h1;exact h1.1,by unfold ae;exact h1⟩
 case sub id off n=>obtain⟨u,rfl,h1⟩:=h;exact⟨u,rfl,by unfold aH at h1;exact h1.1,by unfold ae;exact h1⟩
 case ke id i j n=>obtain⟨u,rfl,h1⟩:=h;exact⟨u,rfl,by unfold aH at h1;exact h1.1,by unfold ae;exact h1⟩
 case emp=>obtain⟨u,rfl,a,rfl⟩:=h;exact⟨_,rfl,rfl,by unfold ae;exact⟨a,rfl⟩⟩
 case fn f c8=>obtain⟨u,rfl,vs,rfl,h1⟩:=h;exact⟨_,rfl,rfl,by unfold ae;exact⟨vs,rfl,h1⟩⟩
 case fnb f c8=>obtain⟨u,rfl,vs,rfl,h1⟩:=h;exact⟨_,rfl,rfl,by unfold ae;exact⟨vs,rfl,h1⟩⟩
theorem gV{a:AV}{u:Value}(ha:a.single=true)(h:ae ρ H O w a u):aN ρ H O w a [u]/\u.oneCell'=true:=by
 cases a<;>simp only[AV.single,reduceCtorEq]at ha
 case s x=>
  have h1:aX O w x u:=aw (by rintro rfl;simp at ha) h;exact⟨by unfold aN;exact⟨u,rfl,h1⟩,h1.one⟩
 case ptr id off=>unfold ae at h;exact⟨by unfold aN;exact⟨u,rfl,h⟩,by unfold aH at h;obtain⟨b,_,rfl,_⟩:=h;rfl⟩
 case jM id off n i=>unfold ae at h;exact⟨by unfold aN;exact⟨u,rfl,h⟩,by unfold aH at h;obtain⟨_,b,_,rfl,_⟩:=h;rfl⟩
 case jo c m j=>unfold ae at h;exact⟨by unfold aN;exact⟨u,rfl,h⟩,by unfold aH at h;obtain⟨b,o,us,rfl,_⟩:=h;rfl⟩
 case vec id=>unfold ae at h;exact⟨by unfold aN;exact⟨u,rfl,h⟩,by unfold aH at h;exact h.1⟩
 case gw id i j=>unfold ae at h;exact⟨by unfold aN;exact⟨u,rfl,h⟩,by unfold aH at h;exact h.1⟩
 case part id lo n=>unfold ae at h;exact⟨by unfold aN;exact⟨u,rfl,h⟩,by unfold aH at h;exact h.1⟩
 case sub id off n=>unfold ae at h;exact⟨by unfold aN;exact⟨u,rfl,h⟩,by unfold aH at h;exact h.1⟩
 case ke id i j n=>unfold ae at h;exact⟨by unfold aN;exact⟨u,rfl,h⟩,by unfold aH at h;exact h.1⟩
 case emp=>unfold ae at h;exact⟨by unfold aN;exact⟨u,rfl,h⟩,by obtain⟨a,rfl⟩:=h;rfl⟩
 case fn f c8=>unfold ae at h;exact⟨by unfold aN;exact⟨u,rfl,h⟩,by obtain⟨vs,rfl,_⟩:=h;rfl⟩
 case fnb f c8=>unfold ae at h;exact⟨by unfold aN;exact⟨u,rfl,h⟩,by obtain⟨vs,rfl,_⟩:=h;rfl⟩
 case iy id=>unfold ae at h;exact⟨by unfold aN;exact⟨u,rfl,h⟩,by unfold aH at h;obtain⟨b,_,rfl,_⟩:=h;rfl⟩
 case tag id=>unfold ae at h;exact⟨by unfold aN;exact⟨u,rfl,h⟩,by unfold aH at h;exact h.2.1⟩
theorem gx{a:AV}(h:∀k n ws,a≠.ay k n ws):a.wide=1:=by
 cases a<;>first|rfl|(exact(h _ _ _ rfl).elim)
end
section
variable{ρ aO:Nat->Value}{H H':aJ}{G O O':Nat->Prop}{w w':World}{P:Program}
theorem yo{a:AV}(h:∀k n ws,a≠.ay k n ws)(aI:List AV)(off:Nat):cellAt (a::aI) off=match off with|0=>some a|m+1=>cellAt aI m:=by
 cases a<;>first|(cases off<;>rfl)|(exact(h _ _ _ rfl).elim)
theorem sO{a:AV}(h:∀k n ws,a≠.ay k n ws)(aI:List AV)(off:Nat)(v:AV):gD (a::aI) off v=match off with|0=>some (v::aI)|m+1=>(gD aI m v).map (a:: ·):=by
 cases a<;>first|(cases off<;>rfl)|(exact(h _ _ _ rfl).elim)
theorem pA{a:AV}(h:∀k n ws,a≠.ay k n ws)(aI:List AV)(off:Nat):jf (a::aI) off=match off with|0=>none|m+1=>jf aI m:=by
 cases a<;>first|(cases off<;>rfl)|(exact(h _ _ _ rfl).elim)
theorem ub{a:AV}(h:∀k n ws,a≠.ay k n ws)(aI:List AV)(off:Nat)(v:List Int):jO (a::aI) off v=match off with|0=>none|m+1=>(jO aI m v).map (a:: ·):=by
 cases a<;>first|(cases off<;>rfl)|(exact(h _ _ _ rfl).elim)
theorem rk(a:AV):(∃k n ws,a=.ay k n ws)\/∀k n ws,a≠.ay k n ws:=by
 cases a<;>first|(exact .inl ⟨_,_,_,rfl⟩)|(exact .inr (by simp))
theorem cT{k:IntKind}{n:Nat}{ws:List Int}{cs:List Value}:aN ρ H O w (.ay k n ws) cs↔ws.length=n/\cs=ws.map (Value.int k):=by
 unfold aN;exact Iff.rfl
theorem kW:∀(segs:List AV) (off:Nat) {cs:List Value} {v:AV},cellAt segs off=some v->aA ρ H O w segs cs->∃u,cs[off]? =some u/\u.oneCell'=true/\ae ρ H O w v u
 |[],off,cs,v,h,_=>by simp[cellAt]at h
 |a::aI,off,cs,v,h,hd=>by
  obtain⟨c1,c2,rfl,h1,h2⟩:=ah.1 hd;rcases rk a with⟨k,n,ws,rfl⟩|ha;obtain⟨hl,rfl⟩:=cT.1 h1;simp only[cellAt,Bool.cond_eq_ite]at h;split at h;rename_i a8;have a8:off<n:=by simpa[Nat.blt,Nat.lt_iff_add_one_le]using a8
  simp only[Option.some.injEq]at h;subst h;have hx:off<ws.length:=by omega
  exact⟨.int k ws[off],by rw[getElem?_append_left (by simpa using hx)];simp[hx],rfl,by rw[show ws.getD off 0=ws[off]from by simp[List.getD,hx]];exact aC (.int _ _)⟩;rename_i a8;have a8:¬off<n:=by simpa[Nat.blt,Nat.lt_iff_add_one_le]using a8
  have⟨u,h3,h4⟩:=kW aI (off - n) h h2;exact⟨u,by rw[List.getElem?_append_right (by simp;omega)];simpa[hl]using h3,h4⟩;rw[yo ha]at h;obtain⟨u,rfl,h3,h4⟩:=dV h1 (gx ha) ha;cases off with
  |zero=>simp only[Option.some.injEq]at h;subst h;exact⟨u,rfl,h3,h4⟩|succ m=>
   have⟨u',h5,h6⟩:=kW aI m h h2;exact⟨u',by simpa using h5,h6⟩
theorem lW:∀(segs:List AV) (off:Nat) {cs:List Value} {v:AV} {u:Value} {segs':List AV},gD segs off v=some segs'->aA ρ H O w segs cs->v.single=true->ae ρ H O w v u->
 off<cs.length/\aA ρ H O w segs' (cs.set off u)
 |[],off,cs,v,u,segs',h,_,_,_=>by simp[gD]at h
 |a::aI,off,cs,v,u,segs',h,hd,hv,hu=>by
  obtain⟨c1,c2,rfl,h1,h2⟩:=ah.1 hd;rcases rk a with⟨k,n,ws,rfl⟩|ha;obtain⟨hl,rfl⟩:=cT.1 h1;simp only[gD,Bool.cond_eq_ite]at h;split at h;rename_i a8;have a8:off<n:=by simpa[Nat.blt,Nat.lt_iff_add_one_le]using a8
  split at h;rename_i k' l x hx;split at h;rename_i hk;obtain rfl:=bf hk;simp only[Option.some.injEq]at h;subst h;obtain rfl:=cp hx hu;refine⟨by simp;omega,ah.2 ⟨(ws.set off x).map (Value.int k),c2, ?_,cT.2 ⟨by simp[hl],rfl⟩,h2⟩⟩;rw[List.set_append_left _ _ (by simp;omega),List.map_set];cases h;cases h;rename_i a8;have a8:¬off<n:=by simpa[Nat.blt,Nat.lt_iff_add_one_le]using a8
  simp only[map_eq_some_iff]at h;obtain⟨ss,h3,rfl⟩:=h;have⟨h4,h5⟩:=lW aI (off - n) h3 h2 hv hu;refine⟨by simp;omega,ah.2 ⟨_,c2.set (off - n) u, ?_,cT.2 ⟨hl,rfl⟩,h5⟩⟩;rw[List.set_append_right _ _ (by simp;omega)];simp[hl];rw[sO ha]at h;obtain⟨u0,rfl,h3,h4⟩:=dV h1 (gx ha) ha;cases off with
  |zero=>
   simp only[Option.some.injEq]at h;subst h;exact⟨by simp,ah.2 ⟨[u],c2,rfl,(gV hv hu).1,h2⟩⟩
  |succ m=>
   simp only[map_eq_some_iff]at h;obtain⟨ss,h5,rfl⟩:=h;have⟨h6,h7⟩:=lW aI m h5 h2 hv hu;exact⟨by simp;omega,ah.2 ⟨[u0],c2.set m u,rfl,h1,h7⟩⟩
theorem nw:∀(segs:List AV) (off:Nat) {cs:List Value} {k:IntKind} {n:Nat} {ws:List Int},jf segs off=some (k,n,ws)->aA ρ H O w segs cs->
 ws.length=n/\∃pre post,cs=pre++ws.map (Value.int k)++post/\pre.length=off
 |[],off,cs,k,n,ws,h,_=>by simp[jf]at h
 |a::aI,off,cs,k,n,ws,h,hd=>by
  obtain⟨c1,c2,rfl,h1,h2⟩:=ah.1 hd;rcases rk a with⟨k',n',mr,rfl⟩|ha;obtain⟨hl,rfl⟩:=cT.1 h1;simp only[jf,Bool.cond_eq_ite]at h;split at h;rename_i h0;have h0:off=0:=by simpa using h0
  subst h0;simp only[Option.some.injEq,Prod.mk.injEq]at h;obtain⟨rfl,rfl,rfl⟩:=h;exact⟨hl,[],c2,by simp,rfl⟩;split at h;cases h;rename_i a8;have a8:¬off<n':=by simpa[Nat.blt,Nat.lt_iff_add_one_le]using a8
  obtain⟨h3,pre,post,rfl,h4⟩:=nw aI (off - n') h h2;exact⟨h3,mr.map (Value.int k')++pre,post,by simp,by simp;omega⟩;rw[pA ha]at h;obtain⟨u0,rfl,h3,h4⟩:=dV h1 (gx ha) ha;cases off with
  |zero=>cases h
  |succ m=>
   obtain⟨h3,pre,post,rfl,h4⟩:=nw aI m h h2;exact⟨h3,u0::pre,post,by simp,by simp[h4]⟩
theorem mK:∀(segs:List AV) (off:Nat) {pre post:List Value} {k:IntKind} {n:Nat} {ws mr:List Int} {segs':List AV},jf segs off=some (k,n,ws)->jO segs off mr=some segs'->mr.length=ws.length->
 aA ρ H O w segs (pre++ws.map (Value.int k)++post)->pre.length=off->aA ρ H O w segs' (pre++mr.map (Value.int k)++post)
 |[],off,_,_,k,n,ws,_,_,h,_,_,_,_=>by simp[jf]at h
 |a::aI,off,pre,post,k,n,ws,mr,segs',h,hs,bL,hd,hp=>by
  have⟨c1,c2,hc,h1,h2⟩:=ah.1 hd;rcases rk a with⟨k',n',ws1,rfl⟩|ha;obtain⟨hl,rfl⟩:=cT.1 h1;simp only[jf,jO,Bool.cond_eq_ite]at h hs;split at h;rename_i h0;have h0':off=0:=by simpa using h0
  subst h0';simp only[Option.some.injEq,Prod.mk.injEq]at h;obtain⟨rfl,rfl,rfl⟩:=h;rw[if_pos h0]at hs;simp only[Option.some.injEq]at hs;subst hs;obtain rfl:pre=[]:=List.eq_nil_of_length_eq_zero hp;simp only[List.nil_append]at hc ⊢;have:=List.append_cancel_left hc;subst this;exact ah.2 ⟨_,post,rfl,cT.2 ⟨by omega,rfl⟩,h2⟩;rename_i h0;rw[if_neg h0]at hs;split at h;cases h;rename_i a8;rw[if_neg a8]at hs;have a8:¬off<n':=by simpa[Nat.blt,Nat.lt_iff_add_one_le]using a8
  simp only[map_eq_some_iff]at hs;obtain⟨ss,h3,rfl⟩:=hs;have hpl:(ws1.map (Value.int k')).length<=pre.length:=by simp;omega
  obtain⟨alC,rfl⟩:∃alC,pre=ws1.map (Value.int k')++alC:=by
   rw[append_assoc]at hc;have⟨x,hx⟩:=List.prefix_of_prefix_length_le (⟨_,rfl⟩:ws1.map (Value.int k')<+:ws1.map (Value.int k')++c2) (⟨_,hc⟩:pre<+:_) hpl;exact⟨x,hx.symm⟩
  simp only[append_assoc]at hc ⊢;have hc':=List.append_cancel_left hc;subst hc';have ri:alC.length=off - n':=by simp at hp;omega
  exact ah.2 ⟨_,_,rfl,h1,by simpa using mK aI (off - n') h h3 bL (by simpa using h2) ri⟩;rw[pA ha]at h;rw[ub ha]at hs;obtain⟨u0,rfl,h3,h4⟩:=dV h1 (gx ha) ha;cases off with
  |zero=>cases h
  |succ m=>
   simp only[map_eq_some_iff]at hs;obtain⟨ss,h5,rfl⟩:=hs;cases pre with
   |nil=>simp at hp|cons p alC=>
    simp only[cons_append,List.cons.injEq,List.nil_append]at hc;obtain⟨rfl,hc'⟩:=hc;simp only[length_cons,Nat.add_right_cancel_iff]at hp;rw[<-hc']at h2;exact ah.2 ⟨[p],_,rfl,h1,by simpa using mK aI m h h5 bL (by simpa using h2) hp⟩
theorem afa{segs jk segs':List AV}{off:Nat}{cs vs:List Value}(h:ab3 segs off jk=some segs')(hd:aA ρ H O w segs cs)(hb:aA ρ H O w jk vs):
 off+vs.length<=cs.length/\aA ρ H O w segs' (cs.take off++vs++cs.drop (off+vs.length)):=by
 unfold ab3 at h;split at h;rename_i k n ws x;split at h;rename_i k' li z hx;rw[Bool.cond_eq_ite]at h;split at h;rename_i hc;simp only[and_eq_true]at hc;have⟨hk,a8⟩:=hc;have a8:off<n:=Nat.lt_of_lt_of_le (Nat.lt_succ_self _) (le_of_ble_eq_true a8);obtain rfl:=bf hk;simp only[Option.some.injEq]at h;subst h;obtain⟨c1,c2,rfl,h1,h2⟩:=ah.1 hd;obtain rfl:=aB.1 h2;obtain⟨hl,rfl⟩:=cT.1 h1;obtain⟨d1,d2,rfl,h3,h4⟩:=ah.1 hb;obtain rfl:=aB.1 h4
 have hv:d1=[.int k z]:=by
  cases x with
  |s y=>
   unfold aN at h3;obtain⟨u,rfl,h5⟩:=h3;cases y<;>simp only[AV.gd,Option.some.injEq,Prod.mk.injEq,reduceCtorEq]at hx
   all_goals
    obtain⟨rfl,_,rfl⟩:=hx;cases h5;rfl
  |_=>simp only[AV.gd,reduceCtorEq]at hx
 subst hv;simp only[append_nil,length_map,List.length_singleton];refine⟨by omega,ah.2 ⟨_,[],(append_nil _).symm,cT.2 ⟨by rw[List.length_set];exact hl, ?_⟩,aB.2 rfl⟩⟩;rw[List.map_set,List.set_eq_take_append_cons_drop,if_pos (by rw[length_map];omega),append_assoc];rfl;cases h;cases h;cases h
theorem uc{segs jk segs':List AV}{off:Nat}{cs vs:List Value}(h:sY segs off jk=some segs')(hd:aA ρ H O w segs cs)(hb:aA ρ H O w jk vs):
 off+vs.length<=cs.length/\aA ρ H O w segs' (cs.take off++vs++cs.drop (off+vs.length)):=by
 unfold sY at h;split at h;rename_i r hr;simp only[Option.some.injEq]at h;subst h;exact afa hr hd hb;split at h;rename_i pre post h1 h2;simp only[Option.some.injEq]at h;subst h;have hl:=iS hb;rw[<-hl]at h2;have⟨h3,h4⟩:=fz _ _ h1 hd;have⟨h5,h6⟩:=fy _ _ h2 hd;exact⟨h5,fx.2 ⟨_,_,rfl,fx.2 ⟨_,_,rfl,h4,hb⟩,h6⟩⟩;cases h
theorem ud(segs:List AV){cs:List Value}(h:aA ρ H O w segs cs):∀v∈cs,v.oneCell'=true:=by
 induction segs generalizing cs with
 |nil=>rw[aB.1 h];simp|cons a aI ih=>
  obtain⟨c1,c2,rfl,h1,h2⟩:=ah.1 h;intro v hv;rcases mem_append.1 hv with hv|hv;rcases rk a with⟨k,n,ws,rfl⟩|ha;obtain⟨hl,rfl⟩:=cT.1 h1;obtain⟨x,_,rfl⟩:=mem_map.1 hv;rfl;obtain⟨u,rfl,h3,_⟩:=dV h1 (gx ha) ha;simp only[List.mem_singleton]at hv;subst hv;exact h3;exact ih h2 v hv
theorem pB{x:AV}{v:Value}{segs:List AV}(h:x.jj =some segs)(hd:ae ρ H O w x v):aA ρ H O w segs v.cells.toList:=by
 have one:∀a,a.single=true->ae ρ H O w a v->aA ρ H O w [a] v.cells.toList:=by
  intro a ha hv;have⟨h1,h2⟩:=gV ha hv;have:v.cells.toList=[v]:=by cases v<;>first|rfl|(simp[Value.oneCell']at h2)
  rw[this];exact ah.2 ⟨[v],[],rfl,h1,aB.2 rfl⟩
 cases x with
 |agg ss=>
  simp only[AV.jj,Option.some.injEq]at h;subst h;unfold ae at hd;obtain⟨cs,rfl,h1⟩:=hd;simpa[Value.cells]using h1
 |ay k n ws=>
  simp only[AV.jj,Option.some.injEq]at h;subst h;unfold ae at hd;obtain⟨hl,rfl⟩:=hd;exact ah.2 ⟨ws.map (Value.int k),[],by simp[Value.cells],cT.2 ⟨hl,rfl⟩,aB.2 rfl⟩
 |bO _=>simp[AV.jj]at h|s x=>cases x<;>simp only[AV.jj,Option.some.injEq,reduceCtorEq]at h<;>subst h<;>exact one _ rfl hd
 |_=>simp only[AV.jj,Option.some.injEq]at h;subst h;exact one _ rfl hd
theorem kX{segs:List AV}{cs:List Value}(h:aA ρ H O w segs cs):ae ρ H O w (.kF segs) (.agg cs.toArray):=by
 unfold AV.kF;split;obtain⟨c1,c2,rfl,h1,h2⟩:=ah.1 h;obtain rfl:=aB.1 h2;obtain⟨hl,rfl⟩:=cT.1 h1;unfold ae;exact⟨hl,by simp⟩;unfold ae;exact⟨cs,rfl,h⟩
end
def World.cc(w:World)(b:Nat)(o:Obj):World:={w with heap:=w.heap.setIfInBounds b o}
theorem oT{w:World}{b:Nat}{cells:Array Value}{e:TypeId}{fr:Nat×Nat}(hb:w.heap[b]? =some (.cells cells e fr))(hu:ow fr cells.size){off:Nat}(ho:off<cells.size):
 w.frozen? ⟨b,off,none⟩=false:=by
 have:=hu off ho;simp only[World.frozen?,hb,Bool.and_eq_false_imp,decide_eq_true_eq,decide_eq_false_iff_not];intro h1 h2;exact this ⟨h1,h2⟩
theorem mL{w:World}{b:Nat}{cells:Array Value}{e:TypeId}{fr:Nat×Nat}(hb:w.heap[b]? =some (.cells cells e fr))(off:Nat)(v:Value):
 w.setCell ⟨b,off,none⟩ v=World.cc w b (.cells (cells.setIfInBounds off v) e fr):=by
 simp only[World.setCell,World.cc];congr 1;apply Array.ext_getElem?;intro i;rw[Array.getElem?_modify,Array.getElem?_setIfInBounds];by_cases h:b=i;subst h;have⟨a8,ue⟩:=Array.getElem?_eq_some_iff.1 hb;simp[ue,a8];simp[h]
theorem dM{w:World}{b:Nat}{o o':Obj}(hb:w.heap[b]? =some o):(World.cc w b o').heap[b]? =some o':=by
 have a8:b<w.heap.size:=(Array.getElem?_eq_some_iff.1 hb).1;simp[World.cc,a8]
theorem iE{w:World}{b i:Nat}{o:Obj}(h:i≠b):(World.cc w b o).heap[i]? =w.heap[i]? :=by
 simp only[World.cc];rw[Array.getElem?_setIfInBounds_ne (by omega)]
theorem iT{w:World}{b:Nat}{o:Obj}:(World.cc w b o).heap.size=w.heap.size:=by simp[World.cc]
theorem oz{w:World}{b:Nat}{o o':Obj}:World.cc (World.cc w b o) b o'=World.cc w b o':=by
 simp only[World.cc];congr 1;apply Array.ext_getElem?;intro i;by_cases h:b=i;subst h;simp[Array.getElem?_setIfInBounds];simp[h]
theorem rX{w:World}{b:Nat}{o:Obj}(hb:w.heap[b]? =some o):World.cc w b o=w:=by
 have:w.heap.setIfInBounds b o=w.heap:=by
  apply Array.ext_getElem?;intro i;by_cases h:b=i;subst h;have⟨a8,ue⟩:=Array.getElem?_eq_some_iff.1 hb;simp[ue,a8];rw[Array.getElem?_setIfInBounds_ne (by omega)]
 simp only[World.cc,this]
theorem w7{P:Program}{w:World}{b:Nat}{cells:List Value}{e:TypeId}{fr:Nat×Nat}(hb:w.heap[b]? =some (.cells cells.toArray e fr))(hu:ow fr cells.length){off:Nat}(ho:off<cells.length)
 {v:Value} (hv:v.oneCell'=true):(store ⟨b,off,none⟩ v).run P w=.ok () (World.cc w b (.cells (cells.set off v).toArray e fr)):=by
 rw[run_store P w _ v _ hv];have hc:w.cell? ⟨b,off,none⟩=some cells[off]:=by simp[World.cell?,hb,ho]
 have hf:=oT hb (by simpa using hu) (off:=off) (by simpa using ho);simp only[hc,hf,Bool.false_eq_true,if_false,mL hb,List.setIfInBounds_toArray]
theorem a7(b off i:Nat):(⟨b,off,none⟩:Addr).add i=⟨b,off+i,none⟩:=by
 unfold Addr.add;split;rename_i h;subst h;rfl;rfl
theorem bY{P:Program}{b:Nat}{e:TypeId}{fr:Nat×Nat}(off:Nat):∀(vs:List Value) (i:Nat) {w:World} {cells:List Value},w.heap[b]? =some (.cells cells.toArray e fr)->ow fr cells.length->
 off+i+vs.length<=cells.length->(∀v∈vs,v.oneCell'=true)->
 (storeCells ⟨b,off,none⟩ vs i).run P w=.ok () (World.cc w b (.cells (cells.take (off+i)++vs++cells.drop (off+i+vs.length)).toArray e fr))
 |[],i,w,cells,hb,hu,hl,hv=>by
  simp only[storeCells,Sem.run_pure,length_nil,add_zero,append_nil,List.take_append_drop];rw[rX hb]
 |v::vs,i,w,cells,hb,hu,hl,hv=>by
  simp only[length_cons]at hl;have a8:off+i<cells.length:=by omega
  simp only[storeCells,Sem.run_bind,a7,w7 hb hu a8 (hv v (by simp)),Result.andThen_ok];rw[bY off vs (i+1) (dM hb) (by simpa using hu) (by simp;omega) (λx hx=>hv x (by simp[hx])),oz];congr 4;rw[<-add_assoc,List.take_set,List.drop_set_of_lt (by omega)]
  have e1:(cells.take (off+i+1)).set (off+i) v=cells.take (off+i)++[v]:=by
   rw[List.take_succ_eq_append_getElem a8];rw[List.set_append_right _ _ (by simp;omega)];simp[Nat.min_eq_left (Nat.le_of_lt a8)]
  rw[e1];simp only[append_assoc,length_cons,cons_append,List.nil_append];rw[show off+i+1+vs.length=off+i+(vs.length+1)from by omega]
theorem kY{w:World}{o:Obj}:(w.alloc o).heap[w.heap.size]? =some o:=by
 show(w.heap.push o)[w.heap.size]? =_;simp
theorem gH{w:World}{o:Obj}{i:Nat}(h:i<w.heap.size):(w.alloc o).heap[i]? =w.heap[i]? :=by
 show(w.heap.push o)[i]? =_;rw[Array.getElem?_push,if_neg (by omega)]
theorem dN{w:World}{o:Obj}:(w.alloc o).heap.size=w.heap.size+1:=by
 show(w.heap.push o).size=_;simp
section
variable{ρ aO:Nat->Value}{H H':aJ}{G O O':Nat->Prop}{w w':World}{P:Program}
def aK(H:aJ)(id:Nat)(o:au):aJ:=λj=>if j=id then some o else H j
theorem yp{id:Nat}{o o':au}(ho:H id=some o)(ha:o.alive=o'.alive)(b:Nat):Own ρ (aK H id o') b↔Own ρ H b:=by
 constructor;rintro⟨j,x,hx,h1,h2⟩;unfold aK at hx;split at hx;rename_i hj;subst hj;simp only[Option.some.injEq]at hx;subst hx;exact⟨j,o,ho,ha.trans h1,h2⟩;exact⟨j,x,hx,h1,h2⟩;rintro⟨j,x,hx,h1,h2⟩;by_cases hj:j=id;subst hj;rw[ho]at hx;cases hx;exact⟨j,o',by simp[aK],ha.symm.trans h1,h2⟩;exact⟨j,x,by simp[aK,hj,hx],h1,h2⟩
theorem yq{id:Nat}{o o':au}(ho:H id=some o)(ha:o.alive=o'.alive):aV ρ (aK H id o') G=aV ρ H G:=by
 funext b;exact propext (or_congr_left (yp ho ha b))
theorem Good.write(hs:Sat ρ H G w){id:Nat}{o o':au}(ho:H id=some o)(ha:o.alive=true)(ha':o'.alive=true){b:Nat}(hb:eD (ρ id)=some b)
 (rl:∀c' e',o'=.vec c' e'->∃c e,o=.vec c e/\c'.n=c.n/\c'.size=c.size)
 {rm:Obj} {r:AV} {v:Value}
 (eW:kG ρ (aK H id o') (aV ρ H G) (World.cc w b rm) (ρ id) o')
 (hr:ae ρ (aK H id o') (aV ρ H G) (World.cc w b rm) r v):
 Good ρ H G w (aK H id o') r v (World.cc w b rm):=by
 have hh:=yq (ρ:=ρ) (G:=G) ho (ha.trans ha'.symm);have dD:Own ρ H b:=⟨id,o,ho,ha,hb⟩
 have st:Step ρ H (aV ρ H G) w ρ (aK H id o') (aV ρ (aK H id o') G) (World.cc w b rm):=by
  refine⟨λ_ _ _=>rfl,λj x hx=> ?_,λc hc=>.inl (by rw[hh]at hc;exact hc),λc hc hO=> ?_,by rw[iT];exact le_refl _⟩;by_cases hj:j=id;subst hj;rw[ho]at hx;cases hx;exact⟨o',by simp[aK],rl⟩;exact⟨x,by simp[aK,hj,hx],λc' e' hc=>⟨c',e',hc,rfl,rfl⟩⟩;exact iE (λe=>hO (.inl (by subst e;exact dD)))
 refine⟨ρ,⟨λj x hx=> ?_,λi j oi oj c h1 h2 h3 h4 h5 h6=> ?_,λc hc=> ?_,λc hc=> ?_⟩,by rw[hh];exact hr,st,⟨rfl,rfl,rfl,λc hc hO=>iE (λe=>hO (by subst e;exact dD))⟩⟩;by_cases hj:j=id;subst hj;simp only[aK,if_true,Option.some.injEq]at hx;subst hx;rw[hh];exact eW;have hx':H j=some x:=by simpa[aK,hj]using hx
 refine(hs.obj j x hx').step st (λc rY hc=>iE (λe=>hj ?_));subst e;exact hs.inj j id x o c hx' ho rY ha hc hb
 have f:∀i oi,aK H id o' i=some oi->oi.alive=true->∃x,H i=some x/\x.alive=true:=by
  intro i oi hi rY;by_cases ep:i=id;subst ep;exact⟨o,ho,ha⟩;exact⟨oi,by simpa[aK,ep]using hi,rY⟩
 have⟨x,hx,hxa⟩:=f i oi h1 h3;have⟨y,hy,hya⟩:=f j oj h2 h4;exact hs.inj i j x y c hx hy hxa hya h5 h6;exact hs.apart c ((yp ho (ha.trans ha'.symm) c).1 hc);rw[iT];exact hs.low c hc
theorem Good.fresh(hs:Sat ρ H G w){n:Nat}(hn:H n=none){o:au}{obj:Obj}{iR:Value}{r:AV}{v:Value}
 {w1:World} (hw:w1.heap=w.heap) (ht:w1.tape=w.tape) (hos:w1.os=w.os) (gW:w1.output=w.output)
 (dS:∀b,eD iR=some b->b=w.heap.size)
 (eW:kG (λj=>if j=n then iR else ρ j) (aK H n o) (aV (λj=>if j=n then iR else ρ j) (aK H n o) G) (w1.alloc obj) iR o)
 (hr:ae (λj=>if j=n then iR else ρ j) (aK H n o) (aV (λj=>if j=n then iR else ρ j) (aK H n o) G) (w1.alloc obj) r v):
 Good ρ H G w (aK H n o) r v (w1.alloc obj):=by
 have cn:(w1.alloc obj).heap.size=w.heap.size+1:=by rw[dN,hw]
 have hold:∀i,i<w.heap.size->(w1.alloc obj).heap[i]? =w.heap[i]? :=λi hi=>by rw[gH (by rw[hw];exact hi),hw]
 have ne:∀j x,H j=some x->j≠n:=λj x hx e=>by subst e;rw[hn]at hx;cases hx
 have pC:∀b,Own (λj=>if j=n then iR else ρ j) (aK H n o) b->Own ρ H b\/b=w.heap.size:=by
  rintro b ⟨j,x,hx,h1,h2⟩;by_cases hj:j=n;subst hj;simp only[if_true]at h2;exact .inr (dS b h2);simp only[aK,hj,if_false]at hx h2;exact .inl ⟨j,x,hx,h1,h2⟩
 have st:Step ρ H (aV ρ H G) w (λj=>if j=n then iR else ρ j) (aK H n o) (aV (λj=>if j=n then iR else ρ j) (aK H n o) G) (w1.alloc obj):=by
  refine⟨λj x hx=>by simp[ne j x hx],λj x hx=>⟨x,by simp[aK,ne j x hx,hx],λc' e' hc=>⟨c',e',hc,rfl,rfl⟩⟩,λb hb=> ?_,λb hb _=>hold b hb,by omega⟩;rcases hb with hb|hb;rcases pC b hb with h1|h1;exact .inl (.inl h1);exact .inr (by omega);exact .inl (.inr hb)
 refine⟨_,⟨λj x hx=> ?_,λi j oi oj b h1 h2 h3 h4 h5 h6=> ?_,λb hb=> ?_,λb hb=> ?_⟩,hr,st,⟨hos,ht,gW,λb hb _=>hold b hb⟩⟩;by_cases hj:j=n;subst hj;simp only[aK,if_true,Option.some.injEq]at hx;subst hx;simp only[if_true];exact eW;have hx':H j=some x:=by simpa[aK,hj]using hx
 simp only[hj,if_false];exact(hs.obj j x hx').step st (λb rY hb=>hold b (gf hs ⟨j,x,hx',rY,hb⟩));by_cases hi:i=n<;>by_cases hj:j=n;rw[hi,hj];simp only[aK,hi,hj,if_true,if_false]at h1 h2 h5 h6;have e:=dS b h5;have:=gf hs ⟨j,oj,h2,h4,h6⟩;omega;simp only[aK,hi,hj,if_true,if_false]at h1 h2 h5 h6;have e:=dS b h6;have:=gf hs ⟨i,oi,h1,h3,h5⟩;omega;simp only[aK,hi,hj,if_false]at h1 h2 h5 h6;exact hs.inj i j oi oj b h1 h2 h3 h4 h5 h6;rcases pC b hb with h1|h1;exact hs.apart b h1;intro hg;have:=hs.low b hg;omega;have:=hs.low b hb;omega
end
def eR(P:Program)(ρ:Nat->Value)(H:aJ)(O:Nat->Prop)(w:World)(q:bK)(s:Sem Value):Prop:=
 q.up=[]/\q.new=[]/\∃v,s.run P w=.ok v w/\∀base,ae ρ H O w (q.r base) v
section
variable{ρ aO:Nat->Value}{H H':aJ}{G O O':Nat->Prop}{w w':World}{P:Program}
theorem aE{aa:List Prop}{r:AV}{q:bK}{s:Sem Value}(h:(plain aa r).eval H=some q)(f:bd aa->∃v,s.run P w=.ok v w/\ae ρ H O w r v)(hn:bd q.aa):eR P ρ H O w q s:=by
 simp only[plain,RM.eval,Option.some.injEq]at h;subst h;have⟨v,h1,h2⟩:=f hn;exact⟨rfl,rfl,v,h1,λ_=>h2⟩
theorem gI{t:TypeId}{b:Bool}(h:gT P t=some b)(w:World):(isAgg t).run P w=.ok b w:=by
 unfold gT at h;split at h<;>first|(cases h;rename_i ht;simp[isAgg,run_underlying ht];done)|cases h
theorem oA{f:Nat->Value}{n j:Nat}{v:Value}(h:((List.range n).map f)[j]? =some v):j<n/\v=f j:=by
 by_cases hj:j<n;rw[getElem?_map,List.getElem?_range hj]at h;simp at h;exact⟨hj,h.symm⟩;rw[getElem?_eq_none (by simp;omega)]at h;cases h
theorem run_sizeOf{t:TypeId}{n:Nat}(h:dK P t=some n)(w:World):(sizeOf t).run P w=.ok n w:=by
 simp only[dK,map_eq_some_iff]at h;obtain⟨i,hi,rfl⟩:=h;simp[sizeOf,typeInfo,hi]
theorem cX{b:Nat}{cells:List Value}{e:TypeId}{fr:Nat×Nat}(hb:w.heap[b]? =some (.cells cells.toArray e fr))(off:Nat):w.cell? ⟨b,off,none⟩=cells[off]? :=by
 simp[World.cell?,hb]
theorem jg{t:TypeId}{n b off:Nat}{cs:List Value}(ha:gT P t=some true)(hs:dK P t=some n)(hl:cs.length=n)(hc:∀j v,cs[j]? =some v->w.cell? ⟨b,off+j,none⟩=some v):
 (Instr.loadAt t (.pointer (some ⟨b,off,none⟩))).run P w=.ok (.agg cs.toArray) w:=by
 subst hl;have:=run_loadCells_list (P:=P) (w:=w) ⟨b,off,none⟩ cs (λj v hj=>by rw[a7];exact hc j v hj);simp[Instr.loadAt,Instr.sureAddr,loadVar,gI ha,run_sizeOf hs,this]
theorem jh{t:TypeId}{b off:Nat}{v:Value}(ha:gT P t=some false)(hc:w.cell? ⟨b,off,none⟩=some v):
 (Instr.loadAt t (.pointer (some ⟨b,off,none⟩))).run P w=.ok v w:=by
 simp[Instr.loadAt,Instr.sureAddr,loadVar,gI ha,hc]
theorem nx(hs:Sat ρ H G w){id b:Nat}{segs:List AV}{e:TypeId}(ho:H id=some (.ad segs e))(hb:ρ id=.pointer (some ⟨b,0,none⟩)):
 ∃cells fr,w.heap[b]? =some (.cells cells.toArray e fr)/\ow fr cells.length/\aA ρ H (aV ρ H G) w segs cells:=by
 have⟨b',cells,fr,h1,h2⟩:=hs.obj id _ ho;rw[hb]at h1;cases h1;exact⟨cells,fr,h2⟩
theorem afb(hs:Sat ρ H G w){id i b f n cap:Nat}{c:aS}{e:TypeId}(ho:H id=some (.vec c e))(hi:i<c.n)(dS:ρ id=.slice (some ⟨b,f,none⟩) n cap):
 ∃us:Nat->Nat->Value,∀i j,i<c.n->j<c.size->w.cell? ⟨b,f+i*c.size+j,none⟩=some (us i j)/\aX (aV ρ H G) w (c.cell i j) (us i j):=by
 have⟨a,ae6,h1,h2,h3,h4⟩:=hs.obj id _ ho;rw[dS]at h1;cases h1;rcases h4 with rfl|⟨b',o,cells,fr,us,h5,h6,h7,h8,h9⟩;omega;cases h5;exact⟨us,λi j hi hj=>⟨by rw[cX h6];exact(h9 i j hi hj).1,(h9 i j hi hj).2⟩⟩
theorem aai(n:Nat)(f:Nat->SV)(us:Nat->Value)(h:∀i,i<n->aX O w (f i) (us i)):aA ρ H O w ((List.range n).map λi=>.s (f i)) ((List.range n).map us):=by
 induction n with
 |zero=>simp[aB]|succ n ih=>
  rw[List.range_succ,map_append,map_append];exact fx.2 ⟨_,_,rfl,ih (λi hi=>h i (by omega)),ah.2 ⟨[us n],[],rfl,by unfold aN;exact⟨_,rfl,h n (by omega)⟩,aB.2 rfl⟩⟩
theorem jP{a b:Nat}(h:a<b):a.blt b=true:=Nat.ble_eq_true_of_le h
theorem oB{a b:Nat}(h:b<=a):a.blt b=false:=by
 cases hh:a.blt b;rfl;exact absurd (le_of_ble_eq_true hh) (by omega)
theorem oU:∀(cs:List CK) (x:CL cs) (us:Nat->Value) (off:Nat),(∀l,l<CL.wide cs->aX O w (CL.cell cs x l) (us (off+l)))->bd (ej (CL.segs cs x))->
 aA ρ H O w (CL.segs cs x) ((List.range (CL.wide cs)).map λl=>us (off+l))
 |[],x,us,off,h,hn=>aB.2 (by simp[CL.wide])
 |c::cs,x,us,off,h,hn=>by
  have key:∀a:AV,CL.segs (c::cs) x=a::CL.segs cs x.2->c.wide=1->(∀y,aX O w (c.cell x.1 0) y->aN ρ H O w a [y])->bd (ej (CL.segs cs x.2))->
   aA ρ H O w (CL.segs (c::cs) x) ((List.range (CL.wide (c::cs))).map λl=>us (off+l)):=by
   intro a e hw ha yr;rw[e];simp only[CL.wide,hw];rw[List.range_add,map_append,List.map_map];refine ah.2 ⟨_,_,rfl, ?_, ?_⟩;have:=h 0 (by simp only[CL.wide];omega);simp only[CL.cell,hw,jP (show 0<1 from by omega),cond_true]at this;simpa using ha _ this;have ih:=oU cs x.2 us (off+1) (λl hl=> ?_) yr;have e2:(λl=>us (off+1+l))=(λl=>us (off+l))∘(λx=>1+x):=by funext l;simp[Function.comp,add_assoc]
   rw[e2]at ih;exact ih;have:=h (1+l) (by simp only[CL.wide];omega);simp only[CL.cell,hw]at this;rw[oB (show 1<=1+l from by omega),cond_false,show 1+l - 1=l from by omega,<-add_assoc]at this;exact this
  have one:∀{sv:SV} {y:Value},aX O w sv y->aN ρ H O w (.s sv) [y]:=λhy=>by unfold aN;exact⟨_,rfl,hy⟩
  cases c with
  |arr k n=>
   have⟨x1,x2⟩:=x;change List Int at x1;simp only[CL.segs,ej]at hn ⊢;have⟨hl,yr⟩:=hn;simp only[CL.wide,CK.wide];rw[List.range_add,map_append,List.map_map];refine ah.2 ⟨_,_,rfl, ?_, ?_⟩;unfold aN;refine⟨hl, ?_⟩;refine List.ext_getElem (by simp[hl]) λi h1 h2=> ?_;have hi:i<n:=by simpa using h1
   have:=h i (by simp only[CL.wide,CK.wide];omega);simp only[CL.cell,CK.wide]at this;rw[jP hi,cond_true]at this;simp only[CK.cell]at this;have hx:x1.getD i 0=x1[i]'(by rw[hl];exact hi):=by simp[List.getD,hl,hi]
   rw[hx]at this;simp only[List.getElem_map,List.getElem_range];generalize us (off+i)=u at this ⊢;cases this;rfl;have ih:=oU cs x2 us (off+n) (λl hl=> ?_) yr;have e2:(λl=>us (off+n+l))=(λl=>us (off+l))∘(λx=>n+x):=by funext l;simp[Function.comp,add_assoc]
   rw[e2]at ih;exact ih;have:=h (n+l) (by simp only[CL.wide,CK.wide];omega);simp only[CL.cell,CK.wide]at this;rw[oB (show n<=n+l from by omega),cond_false,show n+l - n=l from by omega,<-add_assoc]at this;exact this
  |int k=>exact key _ rfl rfl (λy hy=>one hy) (by simpa[CL.segs,ej]using hn)
  |bool=>exact key _ rfl rfl (λy hy=>one hy) (by simpa[CL.segs,ej]using hn)
  |str=>exact key _ rfl rfl (λy hy=>one hy) (by simpa[CL.segs,ej]using hn)
  |ay k=>exact key _ rfl rfl (λy hy=>one hy) (by simpa[CL.segs,ej]using hn)
  |strs=>exact key _ rfl rfl (λy hy=>one hy) (by simpa[CL.segs,ej]using hn)
  |bM=>exact key _ rfl rfl (λy hy=>one hy) (by simpa[CL.segs,ej]using hn)
  |rows ds=>exact key _ rfl rfl (λy hy=>one hy) (by simpa[CL.segs,ej]using hn)
theorem rZ{w6:Bool}{c:aS}{i j sz:Nat}{t:TypeId}{q:bK}(h:(py w6 c i j sz).eval H=some q)(hn:bd q.aa)(pk:gT P t=some w6)(cn:dK P t=some sz){b o:Nat}{us:Nat->Value}
 (hc:∀l,l<c.size->w.cell? ⟨b,o+l,none⟩=some (us l)/\aX O w (c.cell i l) (us l)):eR P ρ H O w q (Instr.loadAt t (.pointer (some ⟨b,o+j,none⟩))):=by
 unfold py at h;cases w6;simp only[cond_false]at h;rw[Bool.cond_eq_ite]at h;split at h;rename_i a8;have a8:j<c.size:=by simpa[Nat.blt,Nat.lt_iff_add_one_le]using a8
 exact aE h (λ_=>⟨us j,jh pk (hc j a8).1,aC (hc j a8).2⟩) hn;cases h;simp only[cond_true]at h;split at h;rename_i cs xs;split at h;rename_i ss hss;refine aE h (λaqN=> ?_) hn;have hd:=oU (ρ:=ρ) (H:=H) cs (xs.getD i (CL.d cs)) us 0 (λl hl=>by rw[zero_add];exact(hc l hl).2) aqN;simp only[zero_add]at hd;simp only[bind_eq_some_iff]at hss;have⟨s1,h4,h5⟩:=hss;have⟨h6,h7⟩:=fy _ j h4 hd;have⟨h8,h9⟩:=fz s1 sz h5 h7;refine⟨_,jg (cs:=(((List.range (CL.wide cs)).map us).drop j).take sz) pk cn (by simp at h8 ⊢;omega) (λl v hv=> ?_),kX h9⟩;rw[getElem?_take]at hv;split at hv;rw[List.getElem?_drop]at hv;obtain⟨a8,rfl⟩:=oA hv;rw[add_assoc];exact(hc (j+l) a8).1;cases hv;cases h;rw[Bool.cond_eq_ite]at h;split at h;rename_i hle;have hle:=le_of_ble_eq_true hle;refine aE h (λ_=>⟨_,jg (cs:=(List.range sz).map λl=>us (j+l)) pk cn (by simp) (λl v hv=> ?_), ?_⟩) hn;obtain⟨a8,rfl⟩:=oA hv;rw[add_assoc];exact(hc (j+l) (by omega)).1;unfold ae;exact⟨_,rfl,aai sz (λl=>c.cell i (j+l)) (λl=>us (j+l)) (λl hl=>(hc (j+l) (by omega)).2)⟩;cases h
theorem aaj{t:TypeId}{a:AV}{va:Value}{q:bK}(h:(adF P t a).eval H=some q)(hn:bd q.aa)(hs:Sat ρ H G w)(hd:ae ρ H (aV ρ H G) w a va):
 eR P ρ H (aV ρ H G) w q (Instr.loadAt t va):=by
 unfold adF at h;split at h;rename_i sz w6 cn pk;split at h;rename_i id off;unfold ae aH at hd;obtain⟨b,hb,rfl,_⟩:=hd;simp only[RM.eval]at h;split at h;rename_i segs e ho;have⟨cells,fr,h1,h2,h3⟩:=nx hs ho hb;cases w6;simp only[cond_false]at h;split at h;rename_i v hv;have⟨u,h4,h5,h6⟩:=kW segs off hv h3;exact aE h (λ_=>⟨u,jh pk (by rw[cX h1];exact h4),h6⟩) hn;cases h;simp only[cond_true]at h;split at h;rename_i ss hss;simp only[bind_eq_some_iff]at hss;have⟨s1,h4,h5⟩:=hss;have⟨h6,h7⟩:=fy segs off h4 h3;have⟨h8,h9⟩:=fz s1 sz h5 h7;refine aE h (λ_=>⟨_,jg (cs:=(cells.drop off).take sz) pk cn (by simp at h8 ⊢;omega) (λj v hj=> ?_),kX h9⟩) hn;rw[cX h1];rw[getElem?_take]at hj;split at hj;simpa using hj;cases hj;cases h;cases h;rename_i id off n i;unfold ae aH at hd;obtain⟨c9,b,hb,rfl,_⟩:=hd;simp only[RM.eval]at h;split at h;rename_i segs e ho;have⟨cells,fr,h1,h2,h3⟩:=nx hs ho hb;split at h;rename_i k m ws alD;rw[Bool.cond_eq_ite]at h;split at h;rename_i hc;simp only[and_eq_true,Bool.not_eq_true',beq_eq]at hc;obtain⟨rfl,rfl⟩:=hc;obtain⟨hl,pre,post,rfl,hp⟩:=nw segs off alD h3;have hi:i<ws.length:=by omega
 refine aE h (λ_=>⟨.int k (ws.getD i 0),jh pk ?_,aC (.int _ _)⟩) hn;rw[cX h1,append_assoc,List.getElem?_append_right (by omega),getElem?_append_left (by simp;omega)];rw[show off+i - pre.length=i from by omega];simp[hi];cases h;cases h;cases h;unfold ae aH at hd;obtain⟨b,o,us,rfl,_,_,hc⟩:=hd;exact rZ h hn pk cn hc;rename_i id i j;unfold ae aH at hd;have⟨_,o,ho,hv⟩:=hd;simp only[RM.eval]at h;split at h;rename_i c e c5;rw[ho]at c5;cases c5;obtain⟨hi,hj,b,f,n,cap,dS,rfl⟩:=hv c e rfl;have⟨us,hc⟩:=afb hs ho hi dS;exact rZ (us:=λl=>us i l) h hn pk cn (λl hl=>hc i l hi hl);cases h;cases h;cases h
end
section
variable{ρ aO:Nat->Value}{H H':aJ}{G O O':Nat->Prop}{w w':World}{P:Program}
theorem slice_inj{a a':Option Addr}{n n' c c':Nat}(h:Value.slice a n c=.slice a' n' c'):a'=a/\c'=c:=by
 cases h;exact⟨rfl,rfl⟩
theorem mM{t:TypeId}{fs:Array Field}{f:Nat}{fd:Field}{n b off:Nat}(ht:P.underlying t=some (.struct fs))(hf:fs[f]? =some fd)(hs:dK P fd.type=some n)(hn:1<=n)(w:World):
 (Instr.fieldAt t (.pointer (some ⟨b,off,none⟩)) f).run P w=.ok (.pointer (some ⟨b,off+fd.offset,none⟩)) w:=by
 have h0:¬n=0:=by omega
 simp[Instr.fieldAt,run_underlying ht,hf,Instr.sureAddr,fieldPlace,run_sizeOf hs,h0,a7]
theorem w8{t:TypeId}{x:AV}{f:Nat}{vx:Value}{q:bK}(h:(oM P t x f).eval H=some q)(hn:bd q.aa)(hd:ae ρ H O w x vx):
 eR P ρ H O w q (Instr.fieldAt t vx f):=by
 unfold oM at h;split at h;rename_i fs ht;split at h;rename_i fd hf;rw[Bool.cond_eq_ite]at h;split at h;rename_i cn
 obtain⟨n,hs,hn1⟩:∃n,dK P fd.type=some n/\1<=n:=by
  cases hs:dK P fd.type with
  |none=>simp[hs]at cn|some n=>exact⟨n,rfl,le_of_ble_eq_true (by simpa[hs]using cn)⟩
 split at h;rename_i id off;unfold ae aH at hd;obtain⟨b,hb,rfl,hi⟩:=hd;exact aE h (λ_=>⟨_,mM ht hf hs hn1 w,by unfold ae aH;exact⟨b,hb,rfl,hi⟩⟩) hn;rename_i c m j;unfold ae aH at hd;obtain⟨b,o,us,rfl,h1⟩:=hd;exact aE h (λ_=>⟨_,mM ht hf hs hn1 w,by unfold ae aH;exact⟨b,o,us,by rw[add_assoc],h1⟩⟩) hn;rename_i id i j;simp only[RM.eval]at h;split at h;rename_i c e ho;rw[Bool.cond_eq_ite]at h;split at h;rename_i a8;have a8:j+fd.offset<c.size:=by simpa[Nat.blt,Nat.lt_iff_add_one_le]using a8
 unfold ae aH at hd;have⟨h1,o,c5,hv⟩:=hd;rw[ho]at c5;cases c5;obtain⟨hi,hj,b,f',n',cap,dS,rfl⟩:=hv c e rfl;refine aE h (λ_=>⟨_,mM ht hf hs hn1 w, ?_⟩) hn;unfold ae aH;refine⟨rfl,_,ho,λc' e' hc=> ?_⟩;cases hc;exact⟨hi,a8,b,f',n',cap,dS,by rw[add_assoc]⟩;cases h;cases h;cases h;cases h;cases h;cases h
theorem gX{t e:TypeId}{n b o len cap:Nat}{k:IntKind}{i:Int}(ht:P.underlying t=some (.slice e))(hs:dK P e=some n)(h0:0<=i)(h1:i<len)(w:World):
 (Instr.indexAt t (.slice (some ⟨b,o,none⟩) len cap) (.int k i)).run P w=.ok (.pointer (some ⟨b,o+i.toNat*n,none⟩)) w:=by
 simp[Instr.indexAt,run_underlying ht,asIntOf,run_sizeOf hs,h0,h1,a7]
theorem gY{t e:TypeId}{n b o len:Nat}{k:IntKind}{i:Int}(ht:P.underlying t=some (.array len e))(hs:dK P e=some n)(h0:0<=i)(h1:i<len)(w:World):
 (Instr.indexAt t (.pointer (some ⟨b,o,none⟩)) (.int k i)).run P w=.ok (.pointer (some ⟨b,o+i.toNat*n,none⟩)) w:=by
 simp[Instr.indexAt,run_underlying ht,asIntOf,Instr.sureAddr,run_sizeOf hs,h0,h1,a7]
theorem w9{t:TypeId}{x i:AV}{vx vi:Value}{q:bK}(h:(oN P t x i).eval H=some q)(hn:bd q.aa)(hs:Sat ρ H G w)(hd:ae ρ H (aV ρ H G) w x vx)(hi:ae ρ H (aV ρ H G) w i vi):
 eR P ρ H (aV ρ H G) w q (Instr.indexAt t vx vi):=by
 unfold oN at h;split at h;rename_i k lit n e mN ht;obtain rfl:=cp mN hi;split at h;rename_i sz c cn;rw[Bool.cond_eq_ite]at h;split at h;rename_i he;have he:sz=c.size:=by simpa using he
 have hx:=aw (by simp) hd;cases hx with
 |ro _ a cap us b o h1 h2 h3 h4 h5=>
  refine aE h (λcG=> ?_) hn;have⟨h6,h7,_⟩:=cG;have a8:n.toNat<c.n:=by omega
  obtain⟨rfl,h8,h9⟩:=h3 (by omega);refine⟨_,gX ht cn h6 h7 w, ?_⟩;unfold ae aH;refine⟨b,o+n.toNat*c.size,λj=>us n.toNat j,by rw[he];rfl,h8,h9,λj hj=>⟨h4 _ _ a8 hj,h5 _ _ a8 hj⟩⟩
 cases h;rename_i sz id cn;simp only[RM.eval]at h;split at h;rename_i c e' ho;rw[Bool.cond_eq_ite]at h;split at h;rename_i he;simp only[and_eq_true,beq_eq]at he;obtain⟨rfl,hge⟩:=he;have hge:=le_of_ble_eq_true hge;unfold ae aH at hd;have⟨_,o,c5,hv⟩:=hd;rw[ho]at c5;cases c5;obtain rfl:=hv c e' rfl;have⟨a,cap,hr,h2,h3,h4⟩:=hs.obj id _ ho;refine aE h (λcG=> ?_) hn;have⟨h6,h7,_⟩:=cG;rcases h4 with h4|⟨b,o,cells,fr,us,rfl,h5,_⟩;omega;refine⟨.pointer (some ⟨b,o+n.toNat*c.size,none⟩),by rw[hr];exact gX ht cn h6 h7 w, ?_⟩;unfold ae aH;refine⟨rfl,_,ho,λc' e'' hc=> ?_⟩;cases hc;exact⟨by omega,by omega,b,o,c.n,cap,hr,rfl⟩;cases h;cases h;rename_i sz id lo m cn;simp only[RM.eval]at h;split at h;rename_i c e' ho;rw[Bool.cond_eq_ite]at h;split at h;rename_i he;simp only[and_eq_true,beq_eq]at he;obtain⟨rfl,hge⟩:=he;have hge:=le_of_ble_eq_true hge;unfold ae aH at hd;have⟨_,o,c5,hv⟩:=hd;rw[ho]at c5;cases c5;obtain⟨hlm,a0,atA,a',hr0,au8,rfl,ha'⟩:=hv c e' rfl;have⟨a,cap,hr,h2,h3,h4⟩:=hs.obj id _ ho;obtain⟨rfl,rfl⟩:=slice_inj (hr0.symm.trans hr);refine aE h (λcG=> ?_) hn;have⟨h6,h7,_⟩:=cG;rcases h4 with h4|⟨b,o,cells,fr,us,rfl,h5,_⟩;omega;refine⟨.pointer (some ⟨b,o+lo*c.size+n.toNat*c.size,none⟩), ?_, ?_⟩;rw[ha' (by omega)];simp only[map_some,a7];exact gX ht cn h6 h7 w;unfold ae aH;refine⟨rfl,_,ho,λc' e'' hc=> ?_⟩;cases hc;exact⟨by omega,by omega,b,o,c.n,cap,hr,by rw[add_mul,add_assoc];rfl⟩;cases h;cases h;cases h;rename_i k lit n len e mN ht;obtain rfl:=cp mN hi;split at h;rename_i sz id off cn;unfold ae aH at hd;obtain⟨b,hb,rfl,dU⟩:=hd;cases lit;simp only[cond_false]at h;rw[Bool.cond_eq_ite]at h;split at h;rename_i h1;have h1:sz=1:=by simpa using h1
 subst h1;refine aE h (λcG=> ?_) hn;have⟨h6,h7,_⟩:=cG;exact⟨_,gY ht cn h6 h7 w,by unfold ae aH;exact⟨by omega,b,hb,by simp,dU⟩⟩;cases h;simp only[cond_true]at h;rw[Bool.cond_eq_ite]at h;split at h;rename_i h1;simp only[and_eq_true,decide_eq_true_eq]at h1;exact aE h (λ_=>⟨_,gY ht cn h1.1 h1.2 w,by unfold ae aH;exact⟨b,hb,rfl,dU⟩⟩) hn;cases h;rename_i sz id i0 cn;simp only[RM.eval]at h;split at h;rename_i c e' ho;rw[Bool.cond_eq_ite]at h;split at h;rename_i he;simp only[and_eq_true,beq_eq]at he;obtain⟨rfl,hge⟩:=he;unfold ae aH at hd;have⟨_,o,c5,hv⟩:=hd;rw[ho]at c5;cases c5;obtain⟨hi0,hc0,b,f,n',cap,hr,rfl⟩:=hv c e' rfl;refine aE h (λcG=> ?_) hn;have⟨h6,h7,h8,_⟩:=cG;refine⟨_,gY ht cn h6 h7 w, ?_⟩;unfold ae aH;refine⟨rfl,_,ho,λc' e'' hc=> ?_⟩;cases hc;exact⟨by omega,by omega,b,f,n',cap,hr,by rw[add_mul];congr 3;omega⟩;cases h;cases h;cases h;cases h
theorem afc{t:TypeId}{x i:AV}{vx vi:Value}{q:bK}(h:(aca P t x i).eval H=some q)(hn:bd q.aa)(hd:ae ρ H O w x vx)(hi:ae ρ H O w i vi):
 eR P ρ H O w q (Instr.index t vx vi):=by
 unfold aca at h;split at h;rename_i k lit n len e kk m ws mN ht;obtain rfl:=cp mN hi;rw[Bool.cond_eq_ite]at h;split at h;rename_i hc;simp only[and_eq_true,beq_eq]at hc;obtain⟨⟨rfl,pk⟩,cn⟩:=hc;have aou:gT P e=some false:=by cases ha:gT P e with|none=>simp[ha]at pk|some b=>simp[ha]at pk;rw[pk]
 have afd:dK P e=some 1:=by cases ha:dK P e with|none=>simp[ha]at cn|some b=>simp[ha]at cn;rw[cn]
 unfold ae at hd;obtain⟨hl,rfl⟩:=hd;refine aE h (λcG=> ?_) hn;have⟨h6,h7,_⟩:=cG;have a8:n.toNat<ws.length:=by omega
 refine⟨.int kk (ws.getD n.toNat 0), ?_,aC (.int _ _)⟩;simp[Instr.index,run_underlying ht,asIntOf,h6,h7,run_sizeOf afd,part,gI aou,a8];cases h;rename_i k lit n s mN ht;obtain rfl:=cp mN hi;obtain rfl:=gr hd;refine aE h (λcG=> ?_) hn;have⟨h6,h7,_⟩:=cG;have a8:n.toNat<s.size:=by omega
 refine⟨.int .u8 (b9 s n.toNat), ?_,aC (.int _ _)⟩
 have hb:s[n.toNat]? =some s.data[n.toNat]:=by
  simp only[getElem?,decidableGetElem?];rw[dif_pos a8];rfl
 have aov:n.toNat<s.data.size:=a8;simp[Instr.index,run_underlying ht,asIntOf,h6,hb,b9];rw[Array.getElem?_eq_getElem aov];rfl;rename_i k lit n len e segs mN ht;obtain rfl:=cp mN hi;rw[Bool.cond_eq_ite]at h;split at h;rename_i hc;simp only[and_eq_true]at hc;have⟨pk,cn⟩:=hc;have aou:gT P e=some false:=by cases ha:gT P e with|none=>simp[ha]at pk|some b=>simp[ha]at pk;rw[pk]
 have afd:dK P e=some 1:=by cases ha:dK P e with|none=>simp[ha]at cn|some b=>simp[ha]at cn;rw[cn]
 unfold ae at hd;obtain⟨cs,rfl,adJ⟩:=hd;split at h;rename_i v hv;have⟨u,h4,h5,h6⟩:=kW segs _ hv adJ;refine aE h (λcG=>⟨u, ?_,h6⟩) hn;have⟨h7,h8,_⟩:=cG;simp[Instr.index,run_underlying ht,asIntOf,h7,h8,run_sizeOf afd,part,gI aou,h4];cases h;cases h;cases h
theorem afe{t:TypeId}{x:AV}{f:Nat}{vx:Value}{q:bK}(h:(acb P t x f).eval H=some q)(hn:bd q.aa)(hd:ae ρ H O w x vx):
 eR P ρ H O w q (Instr.field t vx f):=by
 unfold acb at h;split at h;rename_i fs segs ht;unfold ae at hd;obtain⟨cs,rfl,adJ⟩:=hd;split at h;rename_i fd hf;split at h;rename_i sz cn pk;split at h;rename_i ss hss;simp only[bind_eq_some_iff]at hss;have⟨s1,h4,h5⟩:=hss;have⟨h6,h7⟩:=fy segs _ h4 adJ;have⟨h8,h9⟩:=fz s1 sz h5 h7;refine aE h (λ_=>⟨.agg ((cs.drop fd.offset).take sz).toArray, ?_,kX h9⟩) hn;simp[Instr.field,run_underlying ht,hf,asAgg,part,gI pk,run_sizeOf cn,List.extract_eq_take_drop];cases h;rename_i sz cn pk;split at h;rename_i v hv;have⟨u,h4,h5,h6⟩:=kW segs _ hv adJ;refine aE h (λ_=>⟨u, ?_,h6⟩) hn;simp[Instr.field,run_underlying ht,hf,asAgg,part,gI pk,h4];cases h;cases h;cases h;cases h
theorem aak:∀{xs:List AV} {vs:List Value} {i:Nat} {x:AV},bH ρ H O w xs vs→xs[i]? =some x→∃v,vs[i]? =some v∧ae ρ H O w x v
 |[],vs,i,x,_,hx=>by simp at hx
 |a::aI,vs,i,x,h,hx=>by
  obtain⟨v,rest,rfl,h1,h2⟩:=aG.1 h;cases i with
  |zero=>simp at hx;subst hx;exact⟨v,rfl,h1⟩
  |succ i=>obtain⟨u,h3,h4⟩:=aak (i:=i) h2 (by simpa using hx);exact⟨u,by simpa using h3,h4⟩
theorem aal{x:AV}{i:Nat}{vx:Value}{q:bK}(h:(tS x i).eval H=some q)(hn:bd q.aa)(hd:ae ρ H O w x vx):
 eR P ρ H O w q (Instr.extract vx i):=by
 unfold tS at h;split at h;rename_i vs;unfold ae at hd;obtain⟨us,rfl,hl⟩:=hd;split at h;rename_i v hv;have⟨u,h1,h2⟩:=aak hl hv;exact aE h (λ_=>⟨u,by simp[Instr.extract,h1],h2⟩) hn;cases h;cases h
theorem lX(hs:Sat ρ H G w){id:Nat}{c:aS}{e:TypeId}{v:Value}(ho:H id=some (.vec c e))(hd:ae ρ H O w (.vec id) v):∃a cap,v=.slice a c.n cap/\ρ id=v/\c.n<=cap/\cap<=maxLen:=by
 unfold ae aH at hd;have⟨_,o,c5,hv⟩:=hd;rw[ho]at c5;cases c5;have⟨a,cap,h1,h2,h3,_⟩:=hs.obj id _ ho;exact⟨a,cap,by rw[hv c e rfl,h1],(hv c e rfl).symm,h2,h3⟩
theorem iU(hs:Sat ρ H G w){id lo n:Nat}{c:aS}{e:TypeId}{v:Value}(ho:H id=some (.vec c e))(hd:ae ρ H O w (.part id lo n) v):
 lo+n<=c.n/\∃a cap a',ρ id=.slice a c.n cap/\c.n<=cap/\cap<=maxLen/\v=.slice a' n (cap - lo)/\(cap≠lo->a'=a.map (·.add (lo*c.size)))/\(cap≠0->∃b o,a=some ⟨b,o,none⟩):=by
 unfold ae aH at hd;have⟨_,o,c5,hv⟩:=hd;rw[ho]at c5;cases c5;have⟨h0,a,cap,a',h1,h2,h3,h4⟩:=hv c e rfl;have⟨a2,uf,g1,g2,g3,g4⟩:=hs.obj id _ ho;obtain⟨rfl,rfl⟩:=slice_inj (h1.symm.trans g1);refine⟨h0,_,_,a',h1,h2,g3,h3,h4,λhc=> ?_⟩;rcases g4 with g4|⟨b,o,_,_,_,g5,_⟩;exact absurd g4 hc;exact⟨b,o,g5⟩
theorem alE{t ty:TypeId}{ts:List TypeId}{x:AV}{vx:Value}{q:bK}(h:(aoo P t x).eval H=some q)(hn:bd q.aa)(hs:Sat ρ H G w)(hd:ae ρ H O w x vx):
 eR P ρ H O w q (Builtin.len_ (t::ts).toArray ty #[vx]):=by
 unfold aoo at h;split at h;rename_i s ht;obtain rfl:=gr hd;exact aE h (λ_=>⟨_,by simp[Builtin.len_,run_underlying ht];rfl,aC (.int _ _)⟩) hn;rename_i n e ht;exact aE h (λ_=>⟨_,by cases vx<;>simp[Builtin.len_,run_underlying ht]<;>rfl,aC (.aq _ _)⟩) hn;rename_i e c ht;have hx:=aw (by simp) hd;cases hx;exact aE h (λ_=>⟨_,by simp[Builtin.len_,run_underlying ht];rfl,aC (.int _ _)⟩) hn;rename_i e c k ht;have hx:=aw (by simp) hd;cases hx with
 |rot _ _ a n cap h1 h2=>
  cases h1;exact aE h (λ_=>⟨_,by simp[Builtin.len_,run_underlying ht];rfl,aC (.int _ _)⟩) hn
 rename_i e ht;unfold ae at hd;obtain⟨a,rfl⟩:=hd;exact aE h (λ_=>⟨_,by simp[Builtin.len_,run_underlying ht];rfl,aC (.aq _ _)⟩) hn;rename_i e id ht;simp only[RM.eval]at h;split at h;rename_i c e' ho;obtain⟨a,cap,rfl,_⟩:=lX hs ho hd;exact aE h (λ_=>⟨_,by simp[Builtin.len_,run_underlying ht];rfl,aC (.int _ _)⟩) hn;cases h;rename_i e id lo n ht;simp only[RM.eval]at h;split at h;rename_i c e' ho;obtain⟨_,a,cap,a',_,_,_,rfl,_⟩:=iU hs ho hd;exact aE h (λ_=>⟨_,by simp[Builtin.len_,run_underlying ht];rfl,aC (.int _ _)⟩) hn;cases h;rename_i kt et id ht;simp only[RM.eval]at h;split at h;rename_i ck m ho;unfold ae aH at hd;obtain⟨b,hb,rfl,_⟩:=hd;have⟨b',es,clock,h1,h2,h3⟩:=hs.obj id _ ho;rw[hb]at h1;cases h1;have e1:(getObj b).run P w=.ok (.map es clock) w:=by simp[getObj,Sem.run,h2]
 have e2:es.size=m.length:=by have:=congrArg List.length h3.eq;simpa using this
 exact aE h (λ_=>⟨.int .i64 m.length,by simp[Builtin.len_,run_underlying ht,e1,e2];rfl,aC (.int _ _)⟩) hn;cases h;cases h
theorem alF{t ty:TypeId}{ts:List TypeId}{x:AV}{vx:Value}{q:bK}(h:(aop P t x).eval H=some q)(hn:bd q.aa)(hs:Sat ρ H G w)(hd:ae ρ H O w x vx):
 eR P ρ H O w q (Builtin.cap_ (t::ts).toArray ty #[vx]):=by
 unfold aop at h;split at h;rename_i e c k ht;have hx:=aw (by simp) hd;cases hx with
 |rot _ _ a n cap h1 h2=>exact aE h (λ_=>⟨_,by simp[Builtin.cap_,run_underlying ht];rfl,aC (.ot _ _ (by omega))⟩) hn
 rename_i e id ht;simp only[RM.eval]at h;split at h;rename_i c e' ho;obtain⟨a,cap,rfl,_,hle,_⟩:=lX hs ho hd;exact aE h (λ_=>⟨_,by simp[Builtin.cap_,run_underlying ht];rfl,aC (.ml _ _ (by omega))⟩) hn;cases h;rename_i e id lo n ht;simp only[RM.eval]at h;split at h;rename_i c e' ho;obtain⟨_,a,cap,a',_,hle,_,rfl,_⟩:=iU hs ho hd;exact aE h (λ_=>⟨_,by simp[Builtin.cap_,run_underlying ht];rfl,aC (.ml _ _ (by omega))⟩) hn;cases h;cases h
theorem oC(op:BinOp)(t:TypeId)(x y:Operand)(a b:Option Addr)(n c m d:Nat):(eqGuard op t x y (.slice a n c) (.slice b m d)).run P w=.ok () w:=by
 cases op<;>simp[eqGuard]
theorem alG{op:BinOp}{t:TypeId}{x:AV}{ox oy:Operand}{vx vy:Value}{q:bK}(h:(aoq P op t x).eval H=some q)(hn:bd q.aa)(hs:Sat ρ H G w)
 (hx:ae ρ H O w x vx) (hy:vy=.slice none 0 0):eR P ρ H O w q (do eqGuard op t ox oy vx vy;binOp op t vx vy:Sem Value):=by
 subst hy
 have key:∀e,P.underlying t=some (.slice e)->(op=.eql\/op=.neq)->∀a n c n',vx=.slice a n c->(a=none->n'=0)->(plain [] (.s (.c7 n' (pz op)))).eval H=some q->eR P ρ H O w q (do eqGuard op t ox oy vx (.slice none 0 0);binOp op t vx (.slice none 0 0):Sem Value):=by
  rintro e ht hop a n c n' rfl ha h;refine aE h (λ_=> ?_) hn;rcases hop with rfl|rfl;exact⟨.bool a.isNone,by simp[oC,Lib.run_eql_slice_nil w t e a n c 0 0 ht],aC (.c7 _ _ _ (λe=>ha (by simpa[pz]using e)))⟩;exact⟨.bool (!a.isNone),by simp[oC,run_neq_slice_nil_any w t e a n c 0 0 ht],aC (.c7 _ _ _ (λe=>ha (by simpa[pz]using e)))⟩
 have alH:∀x,ae ρ H O w x vx->(op=.eql\/op=.neq)->(match P.underlying t with
  |some (.slice _)=>
   match x with
   |.s (.ro c)=>plain [] (.s (.c7 c.n (pz op)))|.emp=>plain [] (.s (.c7 0 (pz op)))|.vec id=>.look id λo=>match o with
    |some (.vec c _)=>plain [] (.s (.c7 c.n (pz op)))|_=>.fail ""
   |_=>.fail ""
  |_=>.fail "" :RM bK).eval H=some q->eR P ρ H O w q (do eqGuard op t ox oy vx (.slice none 0 0);binOp op t vx (.slice none 0 0):Sem Value):=by
  intro x hx hop h;split at h;rename_i e ht;split at h;have h1:=aw (by simp) hx;cases h1 with
  |ro c a cap us b o q1 q2 q3 q4 q5=>exact key e ht hop _ _ _ _ rfl (λha=>Decidable.byContradiction λhn0=>by have:=(q3 (Nat.pos_of_ne_zero hn0)).1;rw[ha]at this;cases this) h
  unfold ae at hx;obtain⟨a,rfl⟩:=hx;exact key e ht hop _ _ _ _ rfl (λ_=>rfl) h;simp only[RM.eval]at h;split at h;rename_i ho;obtain⟨a,cap,rfl,dS,hle,_⟩:=lX hs ho hx;refine key e ht hop _ _ _ _ rfl (λha=> ?_) h;have⟨a2,uf,ahT,_,_,h3⟩:=hs.obj _ _ ho;rw[dS]at ahT;cases ahT;rcases h3 with h3|⟨_,_,_,_,_,h3,_⟩;omega;rw[ha]at h3;cases h3;cases h;cases h;cases h
 unfold aoq at h;split at h;exact alH x hx (.inl rfl) h;exact alH x hx (.inr rfl) h;cases h
theorem acm{op:BinOp}{t:TypeId}{x y:AV}{ox oy:Operand}{vx vy:Value}{q:bK}(h:(yl op x y).eval H=some q)(hn:bd q.aa)
 (hx:ae ρ H O w x vx) (hy:ae ρ H O w y vy):eR P ρ H O w q (do eqGuard op t ox oy vx vy;binOp op t vx vy:Sem Value):=by
 unfold yl at h;split at h;rename_i l a b h1;obtain rfl:=cp h1 hx;have hy:=aw (by simp) hy;cases hy with
 |ml _ n hge=>
  refine aE h (λcG=> ?_) hn;have⟨h3,_⟩:=cG;refine⟨.bool false, ?_,aC (.ao _)⟩;have:¬a>n:=by omega
  simp[gG,binOp,Op.intCmp,this]
 rename_i l a b h1;obtain rfl:=cp h1 hx;have hy:=aw (by simp) hy;cases hy with
 |ot _ n a8=>
  refine aE h (λcG=> ?_) hn;have⟨h3,_⟩:=cG;refine⟨.bool true, ?_,aC (.ao _)⟩;have:a>n:=by omega
  simp[gG,binOp,Op.intCmp,this]
 cases h
theorem kZ{x:AV}{v:Value}(h:ae ρ H O w x v):ae ρ H O w (ov x) v:=by
 unfold ov;split;have h1:=aw (by simp) h;cases h1;unfold ae;exact⟨none,rfl⟩;exact h
theorem ahU{x:AV}{v:Value}(h:ae ρ H O w x v)(hx:acj x=true):v=.slice none 0 0:=by
 unfold acj at hx;split at hx;have h1:=aw (by simp) h;cases h1;rfl;cases hx
theorem adK{ts:Array TypeId}{ty:TypeId}{mx:Bool}{x y:AV}{vx vy:Value}{q:bK}(h:(aly mx x y).eval H=some q)(hn:bd q.aa)(hx:ae ρ H O w x vx)(hy:ae ρ H O w y vy):
 eR P ρ H O w q (if mx then Builtin.max_ ts ty #[vx,vy]else Builtin.min_ ts ty #[vx,vy]):=by
 unfold aly at h;split at h;rename_i k lx a k' ly b h1 h2;obtain rfl:=cp h1 hx;obtain rfl:=cp h2 hy;rw[Bool.cond_eq_ite]at h;split at h;rename_i hk;obtain rfl:=bf hk;cases mx;exact aE h (λ_=>⟨_,by simp[run_min_int2,aqK],gF _ _ _⟩) hn;exact aE h (λ_=>⟨_,by simp[run_max_int2,imax],gF _ _ _⟩) hn;cases h;cases h
theorem yt{x:AV}{vx:Value}{q:bK}(h:(rb x).eval H=some q)(hn:bd q.aa)(hd:ae ρ H O w x vx)(e:Operand->Value)(o:Oper)(y:Operand)(ho:o.op=.nilCheck y)(he:e y=vx):
 q.up=[]/\q.new=[]/\(execOp e o).run P w=.ok (.value vx) w/\∀base,ae ρ H O w (q.r base) vx:=by
 have fin:∀r,(plain [] r).eval H=some q->r=x->(execOp e o).run P w=.ok (.value vx) w->q.up=[]/\q.new=[]/\(execOp e o).run P w=.ok (.value vx) w/\∀base,ae ρ H O w (q.r base) vx:=by
  intro r hr hx eG;simp only[plain,RM.eval,Option.some.injEq]at hr;subst hr;subst hx;exact⟨rfl,rfl,eG,λ_=>hd⟩
 unfold rb at h;split at h;unfold ae aH at hd;obtain⟨b,_,rfl,_⟩:=hd;exact fin _ h rfl (by simp[execOp,ho,he]);unfold ae aH at hd;obtain⟨_,b,_,rfl,_⟩:=hd;exact fin _ h rfl (by simp[execOp,ho,he]);unfold ae aH at hd;obtain⟨b,o',us,rfl,_⟩:=hd;exact fin _ h rfl (by simp[execOp,ho,he]);unfold ae at hd;obtain⟨vs,rfl,_⟩:=hd;exact fin _ h rfl (by simp[execOp,ho,he]);have h1:=aw (by simp) hd;cases h1;exact fin _ h rfl (by simp[execOp,ho,he]);cases h
theorem yu{fn:Fn}{first c8:List AV}{vf vc:List Value}{q:bK}(h:(re fn first c8).eval H=some q)(hn:bd q.aa)(hf:bH ρ H O w first vf)(hc:bH ρ H O w c8 vc):
 eR P ρ H O w q (Instr.makeFunc fn vf.toArray vc.toArray):=by
 unfold re at h;split at h;rename_i f;obtain rfl:=bc.1 hf;obtain rfl:=bc.1 hc;exact aE h (λ_=>⟨_,rfl,aC (.sM f)⟩) hn;rename_i f c cs;obtain rfl:=bc.1 hf;exact aE h (λ_=>⟨_,rfl,by unfold ae;exact⟨vc,rfl,hc⟩⟩) hn;rename_i f c cs;obtain rfl:=bc.1 hc;exact aE h (λ_=>⟨_,rfl,by unfold ae;exact⟨vf,rfl,hf⟩⟩) hn;cases h
end
section
variable{ρ aO:Nat->Value}{H H':aJ}{G O O':Nat->Prop}{w w':World}{P:Program}
def mO(ρ:Nat->Value)(H:aJ)(O:Nat->Prop)(w:World):Option AV->Option Value->Prop
 |none,none=>True|some a,some v=>ae ρ H O w a v|_,_=>False
theorem cH{d n:Int}{o:Option AV}{vo:Option Value}(h:gE d o=some n)(hd:mO ρ H O w o vo):(vo=none/\n=d)\/∃k,vo=some (.int k n):=by
 cases o with
 |none=>
  cases vo with
  |none=>simp only[gE,Option.some.injEq]at h;exact .inl ⟨rfl,h.symm⟩|some v=>exact hd.elim
 |some a=>
  cases vo with
  |none=>exact hd.elim|some v=>
   simp only[gE,map_eq_some_iff]at h;obtain⟨⟨k,l,m⟩,h1,rfl⟩:=h;exact .inr ⟨k,by rw[cp h1 hd]⟩
theorem ny(c:aS){l h:Nat}(_hl:l<=h)(hh:h<=c.n):(c6 c l h).n=h - l:=by
 cases c<;>simp only[c6,aS.n,length_drop,length_take]at * <;>omega
theorem jq(c:aS)(l h:Nat):(c6 c l h).size=c.size:=by cases c<;>rfl
theorem ahV{α:Type}(zs:List α)(d:α){l h i:Nat}(hi:i<h - l):((zs.take h).drop l).getD i d=zs.getD (l+i) d:=by
 simp only[List.getD,List.getElem?_drop,getElem?_take];rw[if_pos (by omega)]
theorem jr(c:aS){l h i:Nat}(j:Nat)(hi:i<h - l):(c6 c l h).cell i j=c.cell (l+i) j:=by
 cases c<;>simp only[c6,aS.cell,ahV _ _ hi]
theorem aam{s:ByteArray}{lo hi:Option Value}{l h:Int}(hl:(lo=none/\l=0)\/∃k,lo=some (.int k l))(hh:(hi=none/\h=(s.size:Int))\/∃k,hi=some (.int k h))
 (h0:0<=l) (h1:l<=h) (h2:h<=s.size) {t:TypeId} (ht:P.underlying t=some .string) (w:World):
 (Instr.sliceAt t (.string s) lo hi none).run P w=.ok (.string (s.extract l.toNat h.toNat)) w:=by
 have hle:l<=((h.toNat:Nat):Int):=by omega
 rcases hl with⟨rfl,rfl⟩|⟨k,rfl⟩<;>rcases hh with⟨rfl,rfl⟩|⟨k',rfl⟩;simp[Instr.sliceAt,Instr.slice,run_underlying ht,Instr.sliceBounds];simp[Instr.sliceAt,Instr.slice,run_underlying ht,Instr.sliceBounds,run_sliceBound _ _ _ _ _ h1 h2];simp[Instr.sliceAt,Instr.slice,run_underlying ht,Instr.sliceBounds,run_sliceBound _ _ _ _ _ h0 h1];simp[Instr.sliceAt,Instr.slice,run_underlying ht,Instr.sliceBounds,run_sliceBound _ _ _ _ _ (show 0<=h by omega) h2,run_sliceBound _ _ _ _ _ h0 hle]
theorem lf{a:Option Addr}{n cap:Nat}{lo hi:Option Value}{l h:Int}(hl:(lo=none/\l=0)\/∃k,lo=some (.int k l))(hh:(hi=none/\h=(n:Int))\/∃k,hi=some (.int k h))
 (h0:0<=l) (h1:l<=h) (h2:h<=cap) {t e:TypeId} (ht:P.underlying t=some (.slice e)) {sz:Nat} (hs:dK P e=some sz) (w:World):
 (Instr.sliceAt t (.slice a n cap) lo hi none).run P w=.ok (.slice (if cap=l.toNat then a else a.map (·.add (l.toNat*sz))) (h.toNat - l.toNat) (cap - l.toNat)) w:=by
 have hle:l<=((h.toNat:Nat):Int):=by omega
 rcases hl with⟨rfl,rfl⟩|⟨k,rfl⟩<;>rcases hh with⟨rfl,rfl⟩|⟨k',rfl⟩;simp[Instr.sliceAt,Instr.slice,run_underlying ht,Instr.sliceBounds,run_sizeOf hs];simp[Instr.sliceAt,Instr.slice,run_underlying ht,Instr.sliceBounds,run_sliceBound _ _ _ _ _ h1 h2,run_sizeOf hs];simp[Instr.sliceAt,Instr.slice,run_underlying ht,Instr.sliceBounds,run_sliceBound _ _ _ _ _ h0 h1,run_sizeOf hs];simp[Instr.sliceAt,Instr.slice,run_underlying ht,Instr.sliceBounds,run_sliceBound _ _ _ _ _ (show 0<=h by omega) h2,run_sliceBound _ _ _ _ _ h0 hle,run_sizeOf hs]
theorem r7{b o n:Nat}{lo hi:Option Value}{l h:Int}(hl:(lo=none/\l=0)\/∃k,lo=some (.int k l))(hh:(hi=none/\h=(n:Int))\/∃k,hi=some (.int k h))
 (h0:0<=l) (h1:l<=h) (h2:h<=n) {t e:TypeId} (ht:P.underlying t=some (.array n e)) (hs:dK P e=some 1) (w:World):
 ∃a,(Instr.sliceAt t (.pointer (some ⟨b,o,none⟩)) lo hi none).run P w=.ok (.slice a (h.toNat - l.toNat) (n - l.toNat)) w/\(h.toNat - l.toNat≠0->a=some ⟨b,o+l.toNat,none⟩):=by
 have hle:l<=((h.toNat:Nat):Int):=by omega
 refine⟨some (if n=l.toNat then⟨b,o,none⟩else(⟨b,o,none⟩:Addr).add (l.toNat*1)), ?_,λcG=>by rw[if_neg (by omega),a7,Nat.mul_one]⟩;rcases hl with⟨rfl,rfl⟩|⟨k,rfl⟩<;>rcases hh with⟨rfl,rfl⟩|⟨k',rfl⟩;simp[Instr.sliceAt,Instr.sureAddr,run_underlying ht,Instr.sliceBounds,run_sizeOf hs];simp[Instr.sliceAt,Instr.sureAddr,run_underlying ht,Instr.sliceBounds,run_sliceBound _ _ _ _ _ h1 h2,run_sizeOf hs];simp[Instr.sliceAt,Instr.sureAddr,run_underlying ht,Instr.sliceBounds,run_sliceBound _ _ _ _ _ h0 h1,run_sizeOf hs];simp[Instr.sliceAt,Instr.sureAddr,run_underlying ht,Instr.sliceBounds,run_sliceBound _ _ _ _ _ (show 0<=h by omega) h2,run_sliceBound _ _ _ _ _ h0 hle,run_sizeOf hs]
theorem acn{c:aS}{v:Value}(hx:aX O w (.ro c) v){l h:Nat}(hl:l<=h)(hh:h<=c.n):∃a cap,v=.slice a c.n cap/\c.n<=cap/\
 ∀sz,sz=c.size->aX O w (.ro (c6 c l h)) (.slice (if cap=l then a else a.map (·.add (l*sz))) (h - l) (cap - l)):=by
 cases hx with
 |ro _ a cap us b o h1 h2 h3 h4 h5=>
  refine⟨a,cap,rfl,h1, ?_⟩;rintro sz rfl;have hn:=ny c hl hh;have cn:=jq c l h;have key:=aX.ro (O:=O) (w:=w) (c6 c l h) (if cap=l then a else a.map (·.add (l*c.size))) (cap - l) (λi j=>us (l+i) j) b (o+l*c.size) (by omega) (by omega)
   (λh0=>by
     obtain⟨rfl,h6,h7⟩:=h3 (by omega);refine⟨?_,h6,h7⟩;rw[if_neg (by omega)];simp only[map_some,a7])
   (λi j hi hj=>by
     rw[hn]at hi;rw[cn]at hj ⊢;have:=h4 (l+i) j (by omega) hj;rw[show o+l*c.size+i*c.size+j=o+(l+i)*c.size+j from by rw[add_mul];omega];exact this)
   (λi j hi hj=>by
     rw[hn]at hi;rw[cn]at hj;rw[jr c j hi];exact h5 _ _ (by omega) hj)
  rw[hn]at key;exact key
theorem ahW(a:Option Addr)(hf:∃b o,a=some ⟨b,o,none⟩)(x y:Nat):(a.map (·.add x)).map (·.add y)=a.map (·.add (x+y)):=by
 obtain⟨b,o,rfl⟩:=hf;simp only[map_some,a7,add_assoc]
theorem aan{t e e':TypeId}{c:aS}{id lo0 n:Nat}{lo hi mx:Option AV}{vlo vhi xa:Option Value}{q:bK}(h:(adH P e c id lo0 n lo hi mx).eval H=some q)(hn:bd q.aa)
 (ht:P.underlying t=some (.slice e)) (ho:H id=some (.vec c e')) {a a':Option Addr} {cap:Nat} (hr:ρ id=.slice a c.n cap) (ug:c.n<=cap) (hln:lo0+n<=c.n) (ha':cap≠lo0->a'=a.map (·.add (lo0*c.size)))
 (hf:cap≠0->∃b o,a=some ⟨b,o,none⟩) (hlo:mO ρ H O w lo vlo) (hhi:mO ρ H O w hi vhi) (hmx:mO ρ H O w mx xa):
 eR P ρ H O w q (Instr.sliceAt t (.slice a' n (cap - lo0)) vlo vhi xa):=by
 unfold adH at h;split at h;rename_i sz cn;rw[Bool.cond_eq_ite]at h;split at h;rename_i hz;have hz:sz=c.size:=by simpa using hz
 subst hz;split at h;obtain rfl:xa=none:=by cases xa<;>first|rfl|exact hmx.elim
 split at h;rename_i l hh h1 h2;refine aE h (λcG=> ?_) hn;have⟨h3,h4,h5,_⟩:=cG;refine⟨_,lf (cH h1 hlo) (cH h2 hhi) h3 h4 (by omega) ht cn w, ?_⟩;unfold ae aH;refine⟨rfl,_,ho,λc' e'' hc=> ?_⟩;cases hc;refine⟨by omega,a,cap,_,hr,ug,by rw[Nat.sub_sub],λcG=> ?_⟩;have hc0:cap≠lo0:=by omega
 rw[if_neg (by omega),ha' hc0,ahW _ (hf (by omega)),add_mul];cases h;rename_i m;split at h;rename_i l kh lh hh km lm m' h1 h2 h3;refine aE h (λcG=> ?_) hn;have⟨g1,g2,g3,g4,_⟩:=cG;simp only[bind_eq_some_iff]at h2;obtain⟨ha,rfl,h2⟩:=h2;cases xa with
 |none=>exact hmx.elim|some vm=>
  cases vhi with
  |none=>exact hhi.elim|some vh=>
   obtain rfl:=cp h3 hmx;obtain rfl:=cp h2 hhi;have e1:m'<=(((cap - lo0:Nat):Int)):=by omega
   have e2:hh<=((m'.toNat:Nat):Int):=by omega
   have e3:l<=((hh.toNat:Nat):Int):=by omega
   rcases cH h1 hlo with⟨rfl,rfl⟩|⟨k1,rfl⟩;exact⟨_,by simp[Instr.sliceAt,Instr.slice,run_underlying ht,Instr.sliceBounds,run_sliceBound _ _ _ _ _ (show 0<=m' by omega) e1,run_sliceBound _ _ _ _ _ (show 0<=hh by omega) e2,run_sizeOf cn];rfl,by unfold ae;trivial⟩;exact⟨_,by simp[Instr.sliceAt,Instr.slice,run_underlying ht,Instr.sliceBounds,run_sliceBound _ _ _ _ _ (show 0<=m' by omega) e1,run_sliceBound _ _ _ _ _ (show 0<=hh by omega) e2,run_sliceBound _ _ _ _ _ g1 e3,run_sizeOf cn];rfl,by unfold ae;trivial⟩
 cases h;cases h;cases h
theorem aff(hs:Sat ρ H G w){t:TypeId}{x:AV}{lo hi mx:Option AV}{vx:Value}{vlo vhi xa:Option Value}{q:bK}(h:(ach P t x lo hi mx).eval H=some q)(hn:bd q.aa)
 (hd:ae ρ H O w x vx) (hlo:mO ρ H O w lo vlo) (hhi:mO ρ H O w hi vhi) (hmx:mO ρ H O w mx xa):
 eR P ρ H O w q (Instr.sliceAt t vx vlo vhi xa):=by
 unfold ach at h;split at h;rename_i s ht;obtain rfl:=gr hd;split at h;rename_i l hh h1 h2;obtain rfl:xa=none:=by cases xa<;>first|rfl|exact hmx.elim
 refine aE h (λcG=> ?_) hn;have⟨h3,h4,h5,_⟩:=cG;exact⟨_,aam (cH h1 hlo) (cH h2 hhi) h3 h4 h5 ht w,aC (.str _)⟩;cases h;rename_i e ht;unfold ae at hd;obtain⟨a,rfl⟩:=hd;split at h;rename_i sz l hh cn h1 h2;obtain rfl:xa=none:=by cases xa<;>first|rfl|exact hmx.elim
 refine aE h (λcG=> ?_) hn;obtain⟨rfl,rfl,_⟩:=cG;exact⟨_,lf (cH h1 hlo) (cH h2 hhi) (by omega) (by omega) (by omega) ht cn w,by unfold ae;exact⟨a,by simp⟩⟩;cases h;rename_i e c ht;have hx:=aw (by simp) hd;split at h;rename_i sz cn;rw[Bool.cond_eq_ite]at h;split at h;rename_i hz;have hz:sz=c.size:=by simpa using hz
 split at h;obtain rfl:xa=none:=by cases xa<;>first|rfl|exact hmx.elim
 split at h;rename_i l hh h1 h2;refine aE h (λcG=> ?_) hn;have⟨h3,h4,h5,_⟩:=cG;obtain⟨a,cap,rfl,hle,ahX⟩:=acn hx (l:=l.toNat) (h:=hh.toNat) (by omega) (by omega);exact⟨_,lf (cH h1 hlo) (cH h2 hhi) h3 h4 (by omega) ht cn w,aC (ahX sz hz)⟩;cases h;rename_i m;split at h;rename_i l kh lh hh km lm m' h1 h2 h3;refine aE h (λcG=> ?_) hn;obtain⟨rfl,rfl,rfl,_⟩:=cG;simp only[bind_eq_some_iff]at h2;obtain⟨ha,rfl,h2⟩:=h2;cases xa with
 |none=>exact hmx.elim|some vm=>
  cases vhi with
  |none=>exact hhi.elim|some vh=>
   obtain rfl:=cp h3 hmx;obtain rfl:=cp h2 hhi;cases hx with
   |ro _ a cap us b o g1 g2 g3 g4 g5=>
    refine⟨.slice a 0 0, ?_,by unfold ae;exact⟨a,rfl⟩⟩
    have hb:∀(k:IntKind) (y:Nat) (code:BoundsCode) (w:World),(Instr.sliceBound (.int k 0) y code).run P w=.ok 0 w:=λk y code w=>by
     rw[run_sliceBound _ _ _ _ _ (by omega) (by omega)];rfl
    rcases cH h1 hlo with⟨rfl,_⟩|⟨k1,rfl⟩;simp[Instr.sliceAt,Instr.slice,run_underlying ht,Instr.sliceBounds,hb,run_sizeOf cn];simp[Instr.sliceAt,Instr.slice,run_underlying ht,Instr.sliceBounds,hb,run_sizeOf cn]
 cases h;cases h;cases h;rename_i e c k ht;have hx:=aw (by simp) hd
 obtain⟨a0,n0,atA,rfl,hx,a8⟩:∃a n cap,vx=.slice a n cap/\aX O w (.ro c) vx/\cap<k:=by
  cases hx with
  |rot _ _ a n cap h1 h2=>exact⟨a,n,cap,rfl,h1,h2⟩
 split at h;rename_i sz cn;rw[Bool.cond_eq_ite]at h;split at h;rename_i hz;have hz:sz=c.size:=by simpa using hz
 obtain rfl:xa=none:=by cases xa<;>first|rfl|exact hmx.elim
 split at h;rename_i hh h2;obtain rfl:vlo=none:=by cases vlo<;>first|rfl|exact hlo.elim
 refine aE h (λcG=> ?_) hn;have⟨h4,h5,_⟩:=cG;have⟨a,cap,e0,hle,ahX⟩:=acn hx (l:=0) (h:=hh.toNat) (by omega) (by omega);cases e0;have hd2:=ahX sz hz;exact⟨_,lf (l:=0) (.inl ⟨rfl,rfl⟩) (cH h2 hhi) (by omega) h4 (by omega) ht cn w,aC (.rot _ _ _ _ _ hd2 (by omega))⟩;rename_i l hh h2;split at h;rename_i kl ll l' h1;refine aE h (λcG=> ?_) hn;have⟨h3,h4,h5,_⟩:=cG;have⟨a,cap,e0,hle,ahX⟩:=acn hx (l:=l'.toNat) (h:=hh.toNat) (by omega) (by omega);cases e0;have h1':gE 0 (some l)=some l':=by simp[gE,h1]
 exact⟨_,lf (cH h1' hlo) (cH h2 hhi) h3 h4 (by omega) ht cn w,aC (ahX sz hz)⟩;cases h;cases h;cases h;cases h;rename_i e id ht;simp only[RM.eval]at h;split at h;rename_i c e' ho;obtain⟨a,cap,rfl,hr,hle,_⟩:=lX hs ho hd;have eW:=hs.obj id _ ho;rw[hr]at eW;have⟨a2,uf,g1,_,_,g4⟩:=eW;cases g1
 have hf:cap≠0->∃b o,a=some ⟨b,o,none⟩:=λhc=>by
  rcases g4 with g4|⟨b,o,_,_,_,g5,_⟩;exact absurd g4 hc;exact⟨b,o,g5⟩
 have:=aan (a':=a) h hn ht ho hr hle (by omega) (λhc=>by
  obtain⟨b,o,rfl⟩:=hf hc;simp[a7]) hf hlo hhi hmx
 simpa using this;cases h;rename_i e id lo0 n ht;simp only[RM.eval]at h;split at h;rename_i c e' ho;obtain⟨h0,a,cap,a',h1,h2,h3,rfl,h4,h5⟩:=iU hs ho hd;exact aan h hn ht ho h1 h2 h0 h4 h5 hlo hhi hmx;cases h;rename_i n e id off ht;split at h;rename_i sz l hh cn h1 h2;obtain rfl:xa=none:=by cases xa<;>first|rfl|exact hmx.elim
 rw[Bool.cond_eq_ite]at h;split at h;rename_i h1s;obtain rfl:sz=1:=by simpa using h1s
 unfold ae aH at hd;obtain⟨b,hb,rfl,hi⟩:=hd;refine aE h (λcG=> ?_) hn;have⟨h3,h4,h5,_⟩:=cG;have⟨a,e1,e2⟩:=r7 (b:=b) (o:=off) (cH h1 hlo) (cH h2 hhi) h3 h4 h5 ht cn w;refine⟨_,e1, ?_⟩;unfold ae aH;exact⟨rfl,b,a,_,hb,rfl,e2,hi⟩;cases h;cases h;rename_i n e id i j ht;split at h;rename_i sz l hh cn h1 h2;obtain rfl:xa=none:=by cases xa<;>first|rfl|exact hmx.elim
 simp only[RM.eval]at h;split at h;rename_i c e' ho;rw[Bool.cond_eq_ite]at h;split at h;rename_i h1s;simp only[and_eq_true,beq_eq]at h1s;obtain⟨rfl,hjn⟩:=h1s;have hjn:=le_of_ble_eq_true hjn;unfold ae aH at hd;have⟨h0,o,c5,hv⟩:=hd;rw[ho]at c5;cases c5;obtain⟨g1,g2,b,f,n',cap,g3,rfl⟩:=hv c e' rfl;refine aE h (λcG=> ?_) hn;have⟨h3,h4,h5,_⟩:=cG;have⟨a,e1,e2⟩:=r7 (b:=b) (o:=f+i*c.size+j) (cH h1 hlo) (cH h2 hhi) h3 h4 h5 ht cn w;refine⟨_,e1, ?_⟩;unfold ae aH;refine⟨rfl,_,ho,λc2 e2' hc=> ?_⟩;cases hc;exact⟨g1,by omega,b,f,n',cap,a,_,g3,rfl,λhz=>by rw[e2 hz,add_assoc]⟩;cases h;cases h;cases h;cases h
theorem yv(zs:List Int):∀(l:List Value) (s:ByteArray) (w:World),l=zs.map (Value.int .u8)->
 (forIn (m:=Sem) l s λc s=>do
   match c with
   |.int .u8 n=>pure (ForInStep.yield (s.push (UInt8.ofNat n.toNat)))|_=>do
    stuck "bytesToString: byte expected"
    pure (ForInStep.yield s)).run P w=.ok ⟨s.data++(zs.map λn=>UInt8.ofNat n.toNat).toArray⟩ w:=by
 induction zs with
 |nil=>intro l s w h;subst h;simp
 |cons z zs ih=>
  intro l s w h;subst h;simp only[map_cons,List.forIn_cons,Sem.run_bind,Sem.run_pure,Result.andThen_ok];rw[ih _ _ _ rfl];congr 2;simp[ByteArray.push]
def oV(O:Nat->Prop)(w:World)(c:aS)(v:Value):Prop:=
 ∃(a:Option Addr) (cap:Nat) (us:Nat->Nat->Value),v=.slice a c.n cap/\c.n<=cap/\cap<=maxLen/\(0<c.n->∃b o,a=some ⟨b,o,none⟩/\b<w.heap.size/\
  ∀i j,i<c.n->j<c.size->w.cell? ⟨b,o+i*c.size+j,none⟩=some (us i j)/\aX O w (c.cell i j) (us i j))
theorem uh(sh:Shape)(size:Nat):(ahL sh size).n=0:=by cases sh<;>rfl
theorem ui{sh:Shape}{size:Nat}{x:AV}{k:aS->Option Nat->RM bK}{v:Value}{q:bK}(h:(rowOf sh size x k).eval H=some q)(hs:Sat ρ H G w)(hd:ae ρ H (aV ρ H G) w x v):
 ∃c idy,(k c idy).eval H=some q/\oV (aV ρ H G) w c v:=by
 unfold rowOf at h;split at h;split at h;rename_i c;have hx:=aw (by simp) hd;cases hx with
 |ro _ a cap us b o g1 g2 g3 g4 g5=>
  refine⟨c,none,h,a,cap,us,rfl,g1,g2,λh0=> ?_⟩;obtain⟨rfl,_,h2⟩:=g3 h0;exact⟨b,o,rfl,h2,λi j hi hj=>⟨g4 i j hi hj,g5 i j hi hj⟩⟩
 cases h;unfold ae at hd;obtain⟨a,rfl⟩:=hd;exact⟨_,none,h,a,0,λ_ _=>undef,by rw[uh],by rw[uh];exact le_refl _,by simp[maxLen],by rw[uh];omega⟩;rename_i id;simp only[RM.eval]at h;split at h;rename_i c e ho;refine⟨c,some id,h, ?_⟩;unfold ae aH at hd;have⟨_,o,c5,hv⟩:=hd;rw[ho]at c5;cases c5;obtain rfl:=hv c e rfl;have⟨a,cap,h1,h2,h3,h4⟩:=hs.obj id _ ho;rcases h4 with rfl|⟨b,o,cells,fr,us,rfl,h5,h6,h7,h8⟩;exact⟨a,0,λ_ _=>undef,h1,h2,h3,λh0=>by omega⟩;refine⟨_,cap,us,h1,h2,h3,λ_=>⟨b,o,rfl,(Array.getElem?_eq_some_iff.1 h5).1,λi j hi hj=> ?_⟩⟩;have⟨h9,iz⟩:=h8 i j hi hj;exact⟨by rw[cX h5];exact h9,iz⟩;cases h;rename_i id lo n;simp only[RM.eval]at h;split at h;rename_i c e ho;refine⟨_,some id,h, ?_⟩;obtain⟨g0,a,cap,a',g1,g2,g3,rfl,g4,g5⟩:=iU hs ho hd;have hn:(c6 c lo (lo+n)).n=n:=by rw[ny c (by omega) g0];omega
 have cn:=jq c lo (lo+n);have⟨a2,uf,k1,k2,k3,k4⟩:=hs.obj id _ ho;rw[g1]at k1;cases k1;rcases k4 with rfl|⟨b,o,cells,fr,us,rfl,h5,h6,h7,h8⟩;exact⟨a',0 - lo,λ_ _=>undef,by rw[hn],by rw[hn];omega,by omega,λh0=>by rw[hn]at h0;omega⟩;refine⟨a',cap - lo,λi j=>us (lo+i) j,by rw[hn],by rw[hn];omega,by omega,λh0=> ?_⟩;rw[hn]at h0;refine⟨b,o+lo*c.size,by rw[g4 (by omega)];simp[a7],(Array.getElem?_eq_some_iff.1 h5).1,λi j hi hj=> ?_⟩;rw[hn]at hi;rw[cn]at hj ⊢;have⟨h9,iz⟩:=h8 (lo+i) j (by omega) hj;refine⟨?_,by rw[jr c j (by omega)];exact iz⟩;rw[cX h5,show o+lo*c.size+i*c.size+j=o+(lo+i)*c.size+j from by rw[add_mul];omega];exact h9;cases h;cases h
theorem xc(zs:List Int):zs.map (Value.int .u8)=(List.range zs.length).map λi=>Value.int .u8 (zs.getD i 0):=by
 apply List.ext_getElem;simp;intro i h1 h2;simp at h1;simp[h1]
theorem jQ{zs:List Int}{a:Option Addr}{cap:Nat}(h3:0<zs.length->∃b o,a=some ⟨b,o,none⟩/\∀j,j<zs.length->w.cell? ⟨b,o+j,none⟩=some (.int .u8 (zs.getD j 0))):
 (Conv.bytesToString (.slice a zs.length cap)).run P w=.ok (.string (kU zs)) w:=by
 cases a with
 |none=>
  have:zs.length=0:=by
   rcases Nat.eq_zero_or_pos zs.length with h0|h0;exact h0;have⟨b,o,e,_⟩:=h3 h0;cases e
  obtain rfl:=List.eq_nil_of_length_eq_zero this;rfl
 |some a=>
  have aqO:(loadCells a zs.length).run P w=.ok (zs.map (Value.int .u8)).toArray w:=by
   rcases Nat.eq_zero_or_pos zs.length with h0|h0;obtain rfl:=List.eq_nil_of_length_eq_zero h0;rfl;have⟨b,o,e,hc⟩:=h3 h0;cases e;rw[xc];refine run_loadCells w _ _ (λi=>Value.int .u8 (zs.getD i 0)) (λj hj=> ?_);rw[a7];exact hc j hj
  simp only[Conv.bytesToString,Sem.run_bind,aqO,Result.andThen_ok];rw[<-Array.forIn_toList];have:=yv (P:=P) zs (zs.map (Value.int .u8)) empty w rfl;erw [this];simp[kU]
theorem pD{zs:List Int}{v:Value}(h:oV O w (.ay .u8 zs) v):(Conv.bytesToString v).run P w=.ok (.string (kU zs)) w:=by
 obtain⟨a,cap,us,rfl,h1,h2,h3⟩:=h;simp only[aS.n]at h1 h3 ⊢;refine jQ λh0=> ?_;have⟨b,o,e,_,hc⟩:=h3 h0;refine⟨b,o,e,λj hj=> ?_⟩;have⟨g1,g2⟩:=hc j 0 hj (by simp[aS.size]);simp only[aS.size,Nat.mul_one,add_zero,aS.cell]at g1 g2;rw[g1];generalize us j 0=u at g2 ⊢;cases g2;rfl
theorem xx(hs:Sat ρ H G w){id b m off n:Nat}{k:IntKind}{ws:List Int}{e:TypeId}(ho:H id=some (.ad [.ay k m ws] e))(hb:ρ id=.pointer (some ⟨b,0,none⟩))(hnm:off+n<=m):
 ((ws.drop off).take n).length=n/\∀j,j<n->w.cell? ⟨b,off+j,none⟩=some (.int k (((ws.drop off).take n).getD j 0)):=by
 have⟨cells,fr,e1,_,e2⟩:=nx hs ho hb;obtain⟨c1,c2,rfl,e3,e4⟩:=ah.1 e2;obtain⟨e5,rfl⟩:=cT.1 e3;obtain rfl:=aB.1 e4;refine⟨by rw[length_take,length_drop];omega,λj hj=> ?_⟩;rw[cX e1,append_nil,getElem?_map];have a8:off+j<ws.length:=by omega
 rw[getElem?_eq_getElem a8];simp[List.getD,getElem?_take,hj,List.getElem?_drop,a8]
theorem aao{src dst:TypeId}{x:AV}{vx:Value}{q:bK}(h:(tU P src dst x).eval H=some q)(hn:bd q.aa)(hs:Sat ρ H G w)(hd:ae ρ H (aV ρ H G) w x vx):
 eR P ρ H (aV ρ H G) w q (convert src dst vx):=by
 unfold tU at h;split at h;rename_i d k od kf;split at h;rename_i k' lit n mN;obtain rfl:=cp mN hd
 have eG:(convert src dst (.int k' n)).run P w=.ok (.int k (k.wrap n)) w:=by
  simp[convert,run_underlying od,run_underlying kf,Conv.intToInt]
 rw[Bool.cond_eq_ite]at h;split at h;exact aE h (λ_=>⟨_,eG,aC (.aq _ _)⟩) hn;rw[Bool.cond_eq_ite]at h;split at h;rename_i hk;simp only[and_eq_true]at hk;obtain rfl:=mI hk.1;refine aE h (λcG=>⟨_,eG, ?_⟩) hn;rw[fw cG.1];exact aC (.int _ _);exact aE h (λ_=>⟨_,eG,aC (.int _ _)⟩) hn;cases h;rename_i od kf;split at h;rename_i s;obtain rfl:=gr hd;exact aE h (λ_=>⟨_,by simp[convert,run_underlying od,run_underlying kf],aC (.str _)⟩) hn;cases h;rename_i e od kf;split at h;rename_i hk
 have he:P.underlying e=some (.int .u8):=by
  unfold kindOf at hk;split at hk<;>first|(cases hk;assumption)|cases hk
 split at h;rename_i id off n;simp only[RM.eval]at h;split at h;rename_i m ws e' ho;unfold ae aH at hd;obtain⟨_,b,a,cap,hb,rfl,ha,_⟩:=hd;refine aE h (λcG=>⟨_, ?_,aC (.str _)⟩) hn;have hnm:off+n<=m:=cG.1;have⟨hl,hc⟩:=xx hs ho hb hnm;have:=jQ (P:=P) (w:=w) (zs:=(ws.drop off).take n) (a:=a) (cap:=cap) (λh0=>⟨b,off,ha (by omega),λj hj=>hc j (by omega)⟩);rw[hl]at this;simp[convert,run_underlying od,run_underlying kf,run_underlying he,this];cases h;have⟨c,idy,h1,h2⟩:=ui h hs hd;split at h1;rename_i zs;refine aE h1 (λ_=>⟨.string (kU zs), ?_,aC (.str _)⟩) hn;obtain⟨a,cap,us,rfl,_⟩:=id h2;simp[convert,run_underlying od,run_underlying kf,run_underlying he,pD h2];cases h1;cases h;cases h
end
def cD:List (Nat×au)->Nat->Option au
 |[],_=>none|(id,o)::us,j=>match cD us j with
  |some x=>some x|none=>if j=id then some o else none
def cL(H:aJ)(up:List (Nat×au))(base:Nat)(new:List au):aJ:=λj=>
 match cD up j with
 |some o=>some o|none=>if base<=j/\j<base+new.length then new[j - base]? else H j
section
variable{ρ aO:Nat->Value}{H H':aJ}{G O O':Nat->Prop}{w w':World}{P:Program}
theorem lg(base:Nat):cL H [] base []=H:=by
 funext j;simp only[cL,cD,length_nil,add_zero];rw[if_neg (by omega)]
theorem fT(id:Nat)(o:au)(base:Nat):cL H [(id,o)] base []=aK H id o:=by
 funext j;simp only[cL,cD,aK,length_nil,add_zero];by_cases h:j=id;simp[h];simp only[h,if_false];rw[if_neg (by omega)]
theorem iV(base:Nat)(o:au):cL H [] base [o]=aK H base o:=by
 funext j;simp only[cL,cD,aK,List.length_singleton];by_cases h:j=base;subst h;simp;rw[if_neg (by omega)];simp[h]
theorem afg(id base:Nat)(x o:au)(h:id≠base):cL H [(id,x)] base [o]=aK (aK H id x) base o:=by
 funext j;simp only[cL,cD,aK,List.length_singleton];by_cases h1:j=id;subst h1;simp[h];by_cases h2:j=base;subst h2;simp[h1];simp only[h1,h2,if_false];rw[if_neg (by omega)]
theorem cv:ae ρ H O w (.bO []) undef:=by
 unfold ae;exact⟨[],rfl,bc.2 rfl⟩
theorem jR{id:Nat}{o o':au}(ho:H id=some o)(ha:o.alive=true){b:Nat}(hb:eD (ρ id)=some b)
 (rl:∀c' e',o'=.vec c' e'->∃c e,o=.vec c e/\c'.n=c.n/\c'.size=c.size) (rm:Obj):
 Step ρ H (aV ρ H G) w ρ (aK H id o') (aV ρ H G) (World.cc w b rm):=by
 have dD:Own ρ H b:=⟨id,o,ho,ha,hb⟩;refine⟨λ_ _ _=>rfl,λj x hx=> ?_,λc hc=>.inl hc,λc hc hO=>iE (λe=>hO (.inl (by subst e;exact dD))),by rw[iT];exact le_refl _⟩;by_cases hj:j=id;subst hj;rw[ho]at hx;cases hx;exact⟨o',by simp[aK],rl⟩;exact⟨x,by simp[aK,hj,hx],λc' e' hc=>⟨c',e',hc,rfl,rfl⟩⟩
theorem Good.pE(hs:Sat ρ H G w){id b:Nat}{segs segs':List AV}{e:TypeId}(ho:H id=some (.ad segs e))(hb:ρ id=.pointer (some ⟨b,0,none⟩))
 {cells cells':List Value} {fr:Nat×Nat} (h1:w.heap[b]? =some (.cells cells.toArray e fr)) (hu:ow fr cells.length) (hl:cells'.length=cells.length)
 (hd:aA ρ H (aV ρ H G) w segs' cells'):
 Good ρ H G w (aK H id (.ad segs' e)) (.bO []) undef (World.cc w b (.cells cells'.toArray e fr)):=by
 have ko:eD (ρ id)=some b:=by rw[hb];rfl
 have st:=jR (G:=G) (w:=w) (o':=.ad segs' e) ho rfl ko (by simp) (.cells cells'.toArray e fr);exact Good.write hs ho rfl rfl ko (by simp) ⟨b,cells',fr,hb,dM h1,by rw[hl];exact hu,hd.step st⟩ cv
theorem kp{t:TypeId}{b off:Nat}{v:Value}{n:Nat}(hs:dK P t=some n)(hl:v.cells.toList.length=n){w':World}
 (h:(storeCells ⟨b,off,none⟩ v.cells.toList 0).run P w=.ok () w'):(Instr.storeAt t (.pointer (some ⟨b,off,none⟩)) v).run P w=.ok () w':=by
 have:v.cells.size=n:=by simpa using hl
 simp[Instr.storeAt,Instr.sureAddr,storeVar,run_sizeOf hs,this,h]
theorem lj{v:Value}(h:v.oneCell'=true):v.cells.toList=[v]:=by
 cases v<;>first|rfl|(simp[Value.oneCell']at h)
theorem kH{α:Type}(l:List α)(i:Nat)(x:α)(h:i<l.length):l.take i++[x]++l.drop (i+1)=l.set i x:=by
 rw[List.set_eq_take_append_cons_drop,if_pos h];simp
theorem fE{c c':aS}{v:Value}(h0:c.n=0)(h1:c'.n=0)(h:aX O w (.ro c) v):aX O w (.ro c') v:=by
 cases h with
 |ro _ a cap us b o h2 h3 h4 h5 h6=>
  have:=aX.ro (O:=O) (w:=w) c' a cap us b o (by omega) h3 (λh=>by omega) (λi j hi hj=>by omega) (λi j hi hj=>by omega);rw[h1]at this;rw[h0];exact this
theorem ahY{k:IntKind}{v:SV}{n:Int}{u:Value}(h:ahI k v=some n)(hu:aX O w v u):aX O w (.int k n) u:=by
 unfold ahI at h;split at h;rw[Bool.cond_eq_ite]at h;split at h;rename_i hk;obtain rfl:=bf hk;cases h;exact hu;cases h;rw[Bool.cond_eq_ite]at h;split at h;rename_i hk;obtain rfl:=bf hk;cases h;cases hu;exact .int _ _;cases h;cases h
theorem afh{v:SV}{n:Bool}{u:Value}(h:ab5 v=some n)(hu:aX O w v u):aX O w (.bool n) u:=by
 unfold ab5 at h;split at h<;>cases h<;>cases hu<;>exact .bool _
theorem ahZ{v:SV}{n:ByteArray}{u:Value}(h:ahJ v=some n)(hu:aX O w v u):aX O w (.str n) u:=by
 unfold ahJ at h;split at h<;>cases h;exact hu
theorem afi{k:IntKind}{v:SV}{n:List Int}{u:Value}(h:ab6 k v=some n)(hu:aX O w v u):aX O w (.ro (.ay k n)) u:=by
 unfold ab6 at h;split at h;rw[Bool.cond_eq_ite]at h;split at h;rename_i hk;obtain rfl:=bf hk;cases h;exact hu;cases h;cases h;exact fE (by rfl) (by rfl) hu;cases h
theorem afj{v:SV}{n:List ByteArray}{u:Value}(h:ab7 v=some n)(hu:aX O w v u):aX O w (.ro (.strs n)) u:=by
 unfold ab7 at h;split at h<;>cases h;exact hu;exact fE (by rfl) (by rfl) hu
theorem aco{v:SV}{n:List Bool}{u:Value}(h:yg v=some n)(hu:aX O w v u):aX O w (.ro (.bM n)) u:=by
 unfold yg at h;split at h<;>cases h;exact hu;exact fE (by rfl) (by rfl) hu
theorem afk{cs:List CK}{v:SV}{n:List (CL cs)}{u:Value}(h:ab8 cs v=some n)(hu:aX O w v u):aX O w (.ro (.ab cs n)) u:=by
 unfold ab8 at h;split at h;simp only[map_eq_some_iff]at h;have⟨⟨e⟩,_,h2⟩:=h;subst e;rw[xp]at h2;subst h2;exact hu;cases h;exact fE (by rfl) (by rfl) hu;cases h
theorem afl{c:CK}{x y:c.V}{j:Nat}{v:SV}(h:c.set x j v=some y):c.wide=1/\∀(O:Nat->Prop) (w:World) (u:Value),aX O w v u->∀l,aX O w (c.cell y l) u:=by
 cases c with
 |int k=>exact⟨rfl,λ_ _ _ hu _=>ahY h hu⟩|bool=>exact⟨rfl,λ_ _ _ hu _=>afh h hu⟩|str=>exact⟨rfl,λ_ _ _ hu _=>ahZ h hu⟩|ay k=>exact⟨rfl,λ_ _ _ hu _=>afi h hu⟩|strs=>exact⟨rfl,λ_ _ _ hu _=>afj h hu⟩|bM=>exact⟨rfl,λ_ _ _ hu _=>aco h hu⟩|rows cs=>exact⟨rfl,λ_ _ _ hu _=>afk h hu⟩|arr k n=>cases h
theorem rp:∀{cs:List CK} {x y:CL cs} {j:Nat} {v:SV},CL.set cs x j v=some y->(∀(O:Nat->Prop) (w:World) (u:Value),aX O w v u->aX O w (CL.cell cs y j) u)/\∀j',j'≠j->CL.cell cs y j'=CL.cell cs x j'
 |[],x,y,j,v,h=>by cases h
 |c::cs,x,y,j,v,h=>by
  simp only[CL.set]at h;rw[Bool.cond_eq_ite]at h;split at h;rename_i a8;obtain⟨z,h1,rfl⟩:=map_eq_some_iff.1 h;have⟨h2,h3⟩:=afl h1;refine⟨λO w u hu=>by simp only[CL.cell,a8,cond_true];exact h3 O w u hu _,λj' js=> ?_⟩;have h4:j<1:=by rw[h2]at a8;exact le_of_ble_eq_true a8
  simp only[CL.cell,h2,oB (show 1<=j' from by omega),cond_false];rename_i a8;obtain⟨z,h1,rfl⟩:=map_eq_some_iff.1 h;have a8:j.blt c.wide=false:=Bool.eq_false_iff.2 a8
  have hge:c.wide<=j:=by
   rcases lt_or_ge j c.wide with h5|h5;rw[jP h5]at a8;cases a8;exact h5
  have⟨h2,h3⟩:=rp h1;refine⟨λO w u hu=>by simp only[CL.cell,a8,cond_false];exact h2 O w u hu,λj' js=> ?_⟩;simp only[CL.cell];rcases lt_or_ge j' c.wide with h5|h5;rw[jP h5,cond_true,cond_true];rw[oB h5,cond_false,cond_false];exact h3 _ (by omega)
theorem pG:∀{cs:List CK} {x y:CL cs} {j:Nat} {k:IntKind} {n:Nat} {ws:List Int},CL.setRow cs x j k n ws=some y->
 (∀l,l<n->CL.cell cs y (j+l)=.int k (ws.getD l 0))/\∀j',(j'<j\/j+n<=j')->CL.cell cs y j'=CL.cell cs x j'
 |[],x,y,j,k,n,ws,h=>by cases h
 |c::cs,x,y,j,k,n,ws,h=>by
  simp only[CL.setRow]at h;rw[Bool.cond_eq_ite]at h;split at h;rename_i hj;obtain rfl:j=0:=Nat.eq_of_beq_eq_true hj;obtain⟨z,h1,rfl⟩:=map_eq_some_iff.1 h;cases c with
  |arr k' n'=>
   simp only[CK.setRow]at h1;rw[Bool.cond_eq_ite]at h1;split at h1;rename_i hk;simp only[and_eq_true]at hk;obtain rfl:=bf hk.1;obtain rfl:=Nat.eq_of_beq_eq_true hk.2;cases h1;refine⟨λl hl=> ?_,λj' js=> ?_⟩;rw[zero_add];simp only[CL.cell,CK.wide,jP hl,cond_true,CK.cell];simp only[CL.cell,CK.wide,oB (show n<=j' from by omega),cond_false];cases h1
  |_=>cases h1
  rw[Bool.cond_eq_ite]at h;split at h;rename_i hle;have hle:=le_of_ble_eq_true hle;obtain⟨z,h1,rfl⟩:=map_eq_some_iff.1 h;have⟨h2,h3⟩:=pG h1;refine⟨λl hl=> ?_,λj' js=> ?_⟩;simp only[CL.cell,oB (show c.wide<=j+l from by omega),cond_false];rw[show j+l - c.wide=j - c.wide+l from by omega];exact h2 l hl;simp only[CL.cell];rcases lt_or_ge j' c.wide with h5|h5;rw[jP h5,cond_true,cond_true];rw[oB h5,cond_false,cond_false];exact h3 _ (by omega);cases h
theorem acp{c:aS}{i j:Nat}{k:IntKind}{n:Nat}{ws:List Int}{c':aS}(h:nt c i j k n ws=some c')(hi:i<c.n):
 c'.n=c.n/\c'.size=c.size/\(∀l,l<n->c'.cell i (j+l)=.int k (ws.getD l 0))/\∀i' j',(i'≠i\/j'<j\/j+n<=j')->c'.cell i' j'=c.cell i' j':=by
 cases c<;>simp only[nt,reduceCtorEq]at h;rename_i cs xs;simp only[map_eq_some_iff]at h;obtain⟨y,h1,rfl⟩:=h;simp only[aS.n]at hi;have⟨h2,h3⟩:=pG h1;refine⟨by simp[aS.n],rfl,λl hl=> ?_,λi' j' cG=> ?_⟩;simp only[aS.cell];rw[show(xs.set i y).getD i (CL.d cs)=y from by simp[List.getD,hi]];exact h2 l hl;simp only[aS.cell];by_cases hii:i'=i;subst hii;rw[show(xs.set i' y).getD i' (CL.d cs)=y from by simp[List.getD,hi]];exact h3 j' (by omega);have:i≠i':=λe=>hii e.symm;simp[List.getD,List.getElem?_set_ne this]
theorem alI(c:aS){i j:Nat}{v:SV}{c':aS}(h:q9 c i j v=some c'):c'.n=c.n/\c'.size=c.size:=by
 cases c<;>simp only[q9]at h
 case bD=>simp only[Option.some.injEq]at h;subst h;exact⟨rfl,rfl⟩
 case ab=>
  simp only[map_eq_some_iff]at h;obtain⟨y,_,rfl⟩:=h;simp[aS.n,aS.size]
 all_goals
  split at h<;>first
   |(simp only[Option.some.injEq]at h;subst h;simp[aS.n,aS.size];done)|(rw[Bool.cond_eq_ite]at h;split at h<;>first|(simp only[Option.some.injEq]at h;subst h;simp[aS.n,aS.size];done)|cases h)
   |cases h
theorem yw(c:aS){i j:Nat}{v:SV}{c':aS}(h:q9 c i j v=some c')(hi:i<c.n)(hj:j<c.size){u:Value}(hu:aX O w v u):
 aX O w (c'.cell i j) u/\∀i' j',i'<c.n->j'<c.size->(i'≠i\/j'≠j)->c'.cell i' j'=c.cell i' j':=by
 cases c<;>simp only[q9]at h
 case ay k zs=>
  simp only[aS.n,aS.size]at hi hj
  split at h<;>first
   |cases h
   |(rw[Bool.cond_eq_ite]at h
     split at h;rename_i hk;obtain rfl:=bf hk;simp only[Option.some.injEq]at h;subst h;cases hu;simp only[aS.cell,aS.n,aS.size];refine⟨by simp[List.getD,hi];exact .int _ _,λi' j' ep js cG=> ?_⟩;have:i≠i':=by omega
     simp[List.getD,List.getElem?_set_ne this];cases h)
 case strs zs=>
  simp only[aS.n,aS.size]at hi hj;split at h<;>simp only[Option.some.injEq,reduceCtorEq]at h;subst h;cases hu;simp only[aS.cell,aS.n,aS.size];refine⟨by simp[List.getD,hi];exact .str _,λi' j' ep js cG=> ?_⟩;have:i≠i':=by omega
  simp[List.getD,List.getElem?_set_ne this]
 case bM zs=>
  simp only[aS.n,aS.size]at hi hj;split at h<;>simp only[Option.some.injEq,reduceCtorEq]at h
  all_goals
   subst h;cases hu;simp only[aS.cell,aS.n,aS.size];refine⟨by simp[List.getD,hi];exact .bool _,λi' j' ep js cG=> ?_⟩;have:i≠i':=by omega
   simp[List.getD,List.getElem?_set_ne this]
 case ab cs xs=>
  simp only[aS.n,aS.size]at hi hj;simp only[map_eq_some_iff]at h;obtain⟨y,h1,rfl⟩:=h;have⟨h2,h3⟩:=rp h1;simp only[aS.cell,aS.n,aS.size];refine⟨by rw[show(xs.set i y).getD i (CL.d cs)=y from by simp[List.getD,hi]];exact h2 O w u hu,λi' j' ep js cG=> ?_⟩;by_cases hii:i'=i;subst hii;rw[show(xs.set i' y).getD i' (CL.d cs)=y from by simp[List.getD,hi]];exact h3 j' (by omega);have:i≠i':=λe=>hii e.symm;simp[List.getD,List.getElem?_set_ne this]
 case bD s n get=>
  simp only[Option.some.injEq]at h;subst h;simp only[aS.cell];refine⟨by simp[hu],λi' j' _ _ cG=> ?_⟩
  have:(i'==i&&j'==j)=false:=by
   rcases cG with h|h<;>simp[h]
  simp[this]
theorem rq:∀(jk:List AV) (c:aS) {i j:Nat} {c':aS} {vs:List Value},ek c i j jk=some c'->aA ρ H O w jk vs->i<c.n->j+fZ jk<=c.size->
 c'.n=c.n/\c'.size=c.size/\vs.length=fZ jk/\(∀l u,vs[l]? =some u->aX O w (c'.cell i (j+l)) u)/\
 ∀i' j',i'<c.n->j'<c.size->(i'≠i\/j'<j\/j+fZ jk<=j')->c'.cell i' j'=c.cell i' j'
 |[],c,i,j,c',vs,h,hd,hi,hj=>by
  simp only[ek,Option.some.injEq]at h;subst h;obtain rfl:=aB.1 hd;exact⟨rfl,rfl,rfl,by simp,λ_ _ _ _ _=>rfl⟩
 |a::aI,c,i,j,c',vs,h,hd,hi,hj=>by
  cases a with
  |s v=>
   simp only[ek,bind_eq_some_iff]at h;have⟨c1,h1,h2⟩:=h;obtain⟨cs1,cs2,rfl,hv,hr⟩:=ah.1 hd;unfold aN at hv;obtain⟨u,rfl,hu⟩:=hv;simp only[fZ,AV.wide]at hj;have⟨n1,s1⟩:=alI c h1;have⟨g1,g2⟩:=yw c h1 hi (by omega) hu;have⟨k1,k2,k3,k4,k5⟩:=rq aI c1 h2 hr (by omega) (by omega);refine⟨k1.trans n1,k2.trans s1,by simp[k3,fZ,AV.wide];omega,λl x hx=> ?_,λi' j' ep js cG=> ?_⟩;cases l with
   |zero=>
    simp at hx;subst hx;rw[add_zero,k5 i j (by omega) (by omega) (by omega)];exact g1
   |succ l=>
    have:=k4 l x (by simpa using hx);rw[show j+(l+1)=j+1+l from by omega];exact this
   simp only[fZ,AV.wide]at cG;rw[k5 i' j' (by omega) (by omega) (by omega)];exact g2 i' j' ep js (by omega)
  |ay k n ws=>
   simp only[ek,bind_eq_some_iff]at h;have⟨c1,h1,h2⟩:=h;obtain⟨cs1,cs2,rfl,hv,hr⟩:=ah.1 hd;unfold aN at hv;obtain⟨hl,rfl⟩:=hv;simp only[fZ,AV.wide]at hj;have⟨n1,s1,g1,g2⟩:=acp h1 hi;have⟨k1,k2,k3,k4,k5⟩:=rq aI c1 h2 hr (by omega) (by omega);refine⟨k1.trans n1,k2.trans s1,by simp[k3,fZ,AV.wide,hl],λl x hx=> ?_,λi' j' ep js cG=> ?_⟩;rcases lt_or_ge l n with h5|h5;rw[getElem?_append_left (by simp;omega)]at hx;simp only[getElem?_map,map_eq_some_iff]at hx;obtain⟨z,hz,rfl⟩:=hx;rw[k5 i (j+l) (by omega) (by omega) (by omega),g1 l h5,show ws.getD l 0=z from by simp[List.getD,hz]];exact .int _ _;rw[List.getElem?_append_right (by simp;omega)]at hx;simp only[length_map,hl]at hx;have:=k4 (l - n) x hx;rw[show j+n+(l - n)=j+l from by omega]at this;exact this;simp only[fZ,AV.wide]at cG;rw[k5 i' j' (by omega) (by omega) (by omega)];exact g2 i' j' (by omega)
  |_=>simp[ek]at h
theorem xy(cs:List CK):∀(jk:List AV) (xs:List (CL cs)) (i j:Nat),i<xs.length->(mG cs (xs.getD i (CL.d cs)) j jk).map (λy=>aS.ab cs (xs.set i y))=ek (.ab cs xs) i j jk
 |[],xs,i,j,hi=>by
  simp only[mG,ek,map_some,Option.some.injEq,aS.ab.injEq,heq_eq_eq,true_and];have:xs.getD i (CL.d cs)=xs[i]:=by simp[List.getD,hi]
  rw[this,List.set_getElem_self]
 |a::aI,xs,i,j,hi=>by
  have step:∀(y:CL cs) (k:Nat),(mG cs y k aI).map (λy=>aS.ab cs (xs.set i y))=ek (.ab cs (xs.set i y)) i k aI:=λy k=>by
   rw[<-xy cs aI (xs.set i y) i k (by rw[List.length_set];exact hi)];have:(xs.set i y).getD i (CL.d cs)=y:=by simp[List.getD,hi]
   rw[this];congr 1;funext z;rw[List.set_set]
  cases a with
  |s v=>
   simp only[mG,ek,q9];cases CL.set cs (xs.getD i (CL.d cs)) j v with
   |none=>rfl|some y=>exact step y (j+1)
  |ay k n ws=>
   simp only[mG,ek,nt];cases CL.setRow cs (xs.getD i (CL.d cs)) j k n ws with
   |none=>rfl|some y=>exact step y (j+n)
  |_=>rfl
theorem ah0:∀(jk:List AV) (c:aS) {i j:Nat} {c':aS} {vs:List Value},adG c i j jk=some c'->aA ρ H O w jk vs->i<c.n->j+fZ jk<=c.size->
 c'.n=c.n/\c'.size=c.size/\vs.length=fZ jk/\(∀l u,vs[l]? =some u->aX O w (c'.cell i (j+l)) u)/\
 ∀i' j',i'<c.n->j'<c.size->(i'≠i\/j'<j\/j+fZ jk<=j')->c'.cell i' j'=c.cell i' j':=by
 intro jk c i j c' vs h hd hi hj;refine rq jk c ?_ hd hi hj;cases c with
 |ab cs xs=>rw[<-h];exact(xy cs jk xs i j hi).symm|_=>exact h
theorem yx(l vs:List Value)(o:Nat)(h:o+vs.length<=l.length)(i:Nat):(l.take o++vs++l.drop (o+vs.length))[i]? =if o<=i/\i<o+vs.length then vs[i - o]? else l[i]? :=by
 have hto:(l.take o).length=o:=by simp;omega
 by_cases h1:i<o;rw[if_neg (by omega),append_assoc,getElem?_append_left (by omega),getElem?_take,if_pos h1];by_cases h2:i<o+vs.length;rw[if_pos (by omega),getElem?_append_left (by simp;omega),List.getElem?_append_right (by omega),hto];rw[if_neg (by omega),List.getElem?_append_right (by simp;omega),List.getElem?_drop];congr 1;simp;omega
theorem gZ{α:Type}(l:List α)(i:Nat)(d:α)(h:i<l.length):l[i]? =some (l.getD i d):=by
 simp[List.getD,getElem?_eq_getElem h]
theorem ah1{size i i' j j' f:Nat}(hj:j<size)(js:j'<size)(h:f+i*size+j=f+i'*size+j'):i=i'/\j=j':=by
 have h1:i*size+j=i'*size+j':=by omega
 have h2:(i*size+j) / size=i:=by rw[Nat.mul_comm,Nat.mul_add_div (by omega),Nat.div_eq_of_lt hj];rfl
 have h3:(i'*size+j') / size=i':=by rw[Nat.mul_comm,Nat.mul_add_div (by omega),Nat.div_eq_of_lt js];rfl
 have:i=i':=by rw[<-h2,<-h3,h1]
 subst this;exact⟨rfl,by omega⟩
theorem afm{t:TypeId}{a x:AV}{va vx:Value}{q:bK}(h:(ab9 P t a x).eval H=some q)(hs:Sat ρ H G w)
 (ha:ae ρ H (aV ρ H G) w a va) (hx:ae ρ H (aV ρ H G) w x vx):
 ∃w',(Instr.storeAt t va vx).run P w=.ok () w'/\∀base,Good ρ H G w (cL H q.up base q.new) (q.r base) undef w':=by
 unfold ab9 at h;split at h;rename_i sz w6 cn pk;split at h;rename_i id off;unfold ae aH at ha;obtain⟨b,hb,rfl,_⟩:=ha;simp only[RM.eval]at h;split at h;rename_i segs e ho;have⟨cells,fr,h1,h2,h3⟩:=nx hs ho hb;cases w6;simp only[cond_false]at h;rw[Bool.cond_eq_ite]at h;split at h;rename_i hc;simp only[and_eq_true,beq_eq]at hc;obtain⟨hsg,rfl⟩:=hc;split at h;rename_i segs' mQ;simp only[RM.eval,Option.some.injEq]at h;subst h;have⟨h4,h5⟩:=lW segs off mQ h3 hsg hx;have⟨h6,h7⟩:=gV hsg hx;refine⟨_,kp cn (by rw[lj h7];rfl) (bY off _ 0 h1 h2 (by rw[lj h7];simp;omega) (by rw[lj h7];simpa using h7)),λbase=> ?_⟩;simp only[fT,lj h7,add_zero,List.length_singleton];exact Good.pE hs ho hb h1 h2 (by simp;omega) (by rw[kH _ _ _ h4];exact h5);cases h;cases h;simp only[cond_true]at h;split at h;rename_i jk hby;rw[Bool.cond_eq_ite]at h;split at h;rename_i hc;simp only[and_eq_true,beq_eq]at hc;have⟨hw,_⟩:=hc;split at h;rename_i segs' acq;simp only[RM.eval,Option.some.injEq]at h;subst h;have h4:=pB hby hx;have h5:=iS h4;have⟨h6,h7⟩:=uc acq h3 h4;refine⟨_,kp cn (h5.trans hw) (bY off _ 0 h1 h2 (by omega) (ud jk h4)),λbase=> ?_⟩;simp only[fT,add_zero];exact Good.pE hs ho hb h1 h2 (by simp only[length_append,length_take,length_drop];omega) h7;cases h;cases h;cases h;cases h;rename_i id off n i;unfold ae aH at ha;obtain⟨c9,b,hb,rfl,_⟩:=ha;simp only[RM.eval]at h;split at h;rename_i segs e ho;have⟨cells,fr,h1,h2,h3⟩:=nx hs ho hb;split at h;rename_i k m ws k' l y alD mN;rw[Bool.cond_eq_ite]at h;split at h;rename_i hc;simp only[and_eq_true,Bool.not_eq_true',beq_eq]at hc;obtain⟨⟨⟨rfl,hk⟩,rfl⟩,rfl⟩:=hc;obtain rfl:=bf hk;split at h;rename_i segs' mQ;simp only[RM.eval,Option.some.injEq]at h;subst h;obtain rfl:=cp mN hx;obtain⟨hl,pre,post,rfl,hp⟩:=nw segs off alD h3;have h4:=mK segs off alD mQ (by simp) h3 hp;have a8:off+i<(pre++ws.map (Value.int k)++post).length:=by simp;omega
 refine⟨_,kp cn rfl (bY (off+i) [.int k y] 0 h1 h2 (by simp;omega) (by simp[Value.oneCell'])),λbase=> ?_⟩;simp only[fT,add_zero,List.length_singleton];refine Good.pE hs ho hb h1 h2 (by rw[kH _ _ _ a8];simp) ?_;rw[kH _ _ _ a8,append_assoc,List.set_append_right _ _ (by omega),List.set_append_left _ _ (by simp;omega),show off+i - pre.length=i from by omega,<-append_assoc];rw[List.map_set]at h4;exact h4;cases h;cases h;cases h;cases h;rename_i id i j;unfold ae aH at ha;have⟨_,o,ho,hv⟩:=ha;simp only[RM.eval]at h;split at h;rename_i c e c5;rw[ho]at c5;cases c5;obtain⟨hi,hj,b,f,n,cap,dS,rfl⟩:=hv c e rfl;split at h;rename_i jk hby;rw[Bool.cond_eq_ite]at h;split at h;rename_i hc;simp only[and_eq_true,beq_eq]at hc;have⟨hw,hle⟩:=hc;have hle:=le_of_ble_eq_true hle;split at h;rename_i c' mQ;simp only[RM.eval,Option.some.injEq]at h;subst h;have h4:=pB hby hx;have⟨k1,k2,k3,k4,k5⟩:=ah0 jk c mQ h4 hi (by omega);have⟨a,ae6,h5,h6,h7,h8⟩:=hs.obj id _ ho;rw[dS]at h5;cases h5;rcases h8 with rfl|⟨b',o',cells,fr,us,e1,g1,g2,g3,g4⟩;omega;cases e1
 have ko:eD (ρ id)=some b:=by
  rw[dS];simp only[eD];rw[if_neg (by omega)]
 have hmul:i*c.size+c.size<=cap*c.size:=by
  rw[<-Nat.succ_mul];exact Nat.mul_le_mul_right _ (by omega)
 have bL:f+i*c.size+j+vx.cells.toList.length<=cells.length:=by omega
 have st:=jR (G:=G) (w:=w) (o':=.vec c' e) ho rfl ko (λc1 e1 hc1=>by cases hc1;exact⟨c,e,rfl,k1,k2⟩)
  (.cells (cells.take (f+i*c.size+j)++vx.cells.toList++cells.drop (f+i*c.size+j+vx.cells.toList.length)).toArray e fr)
 refine⟨_,kp cn (k3.trans hw) (bY (f+i*c.size+j) _ 0 g1 g2.ow (by omega) (ud jk h4)),λbase=> ?_⟩;simp only[fT,add_zero];refine Good.write hs ho rfl rfl ko (λc1 e1 hc1=>by cases hc1;exact⟨c,e,rfl,k1,k2⟩) ?_ cv;refine⟨some ⟨b,f,none⟩,cap,by rw[dS,k1],by omega,h7,.inr ⟨b,f,_,fr,λi' j'=>if i'=i/\j<=j'/\j'<j+fZ jk then(vx.cells.toList.getD (j' - j) undef)else us i' j',rfl,dM g1, ?_, ?_, ?_⟩⟩;exact g2.over (ud jk h4) bL;simp only[length_append,length_take,length_drop];rw[k2];omega;intro i' j' ep js;rw[k1]at ep;rw[k2]at js;rw[k2,yx _ _ _ bL];dsimp only;by_cases c9:i'=i/\j<=j'/\j'<j+fZ jk;obtain⟨rfl,h9,iz⟩:=c9;rw[if_pos ⟨by omega,by omega⟩,if_pos ⟨rfl,h9,iz⟩];have hx1:j' - j<vx.cells.toList.length:=by omega
 refine⟨by rw[show f+i'*c.size+j' - (f+i'*c.size+j)=j' - j from by omega];exact gZ _ _ _ hx1, ?_⟩;have:=k4 (j' - j) _ (gZ _ _ undef hx1);rw[show j+(j' - j)=j' from by omega]at this;exact this.step st.ft st.heap st.size;rw[if_neg c9]
 have gW:¬(f+i*c.size+j<=f+i'*c.size+j'/\f+i'*c.size+j'<f+i*c.size+j+vx.cells.toList.length):=by
  rintro⟨h9,iz⟩;have hd:f+i*c.size+(f+i'*c.size+j' - (f+i*c.size))=f+i'*c.size+j':=by omega
  have⟨oe,oW⟩:=ah1 (f:=f) (i:=i) (i':=i') (j:=f+i'*c.size+j' - (f+i*c.size)) (by omega) js hd;subst oe;exact c9 ⟨rfl,by omega,by omega⟩
 rw[if_neg gW,k5 i' j' ep js (by omega)];have⟨h9,iz⟩:=g4 i' j' ep js;exact⟨h9,iz.step st.ft st.heap st.size⟩;cases h;cases h;cases h;cases h;cases h;cases h
end
section
variable{ρ aO:Nat->Value}{H H':aJ}{G O O':Nat->Prop}{w w':World}{P:Program}
theorem yy{v:Value}{x:SV}(h:alx v=some x):aX O w x v:=by
 unfold alx at h;split at h<;>simp only[Option.some.injEq,reduceCtorEq]at h<;>subst h;exact .ao _;exact .aq _ _;exact .str _;exact .tP;exact .abY;exact .abZ;exact .ab0
theorem uj{v:Value}{a:AV}(h:pw v=some a):aN ρ H O w a [v]:=by
 unfold pw at h;split at h;simp only[Option.some.injEq]at h;subst h;unfold aN;exact⟨_,rfl,none,rfl⟩;simp only[map_eq_some_iff]at h;obtain⟨x,h1,rfl⟩:=h;unfold aN;exact⟨v,rfl,yy h1⟩
theorem mR:∀(vs:List Value) {aI:List AV},px vs=some aI->aA ρ H O w aI vs
 |[],aI,h=>by simp only[px,Option.some.injEq]at h;subst h;exact aB.2 rfl
 |v::vs,aI,h=>by
  simp only[px]at h;split at h;rename_i a dB h1 h2;simp only[Option.some.injEq]at h;subst h;exact ah.2 ⟨[v],vs,rfl,uj h1,mR vs h2⟩;cases h
theorem mS(k:IntKind):∀(cs:List Value),mF k cs=true->cs=(replicate cs.length (0:Int)).map (Value.int k)
 |[],_=>rfl|v::vs,h=>by
  unfold mF at h;split at h;rename_i hc;cases hc;rename_i k' vs' hc;cases hc;simp only[and_eq_true]at h;obtain rfl:=bf h.1;have:=mS k vs h.2;simp only[length_cons,List.replicate_succ,map_cons,List.cons.injEq,true_and];exact this;cases h
theorem aap(P:Program)(d:Nat)(ih:∀t cs segs,gU P d t cs=some segs->aA ρ H O w segs cs):∀(fs:List Field) (s0 s1:List AV) (r0 r1:List Value),
 fs.foldl (λacc f=>match acc,dK P f.type with
  |some (segs,rest),some n=>(gU P d f.type (rest.take n)).map λs=>(segs++s,rest.drop n)|_,_=>none) (some (s0,r0))=some (s1,r1)->∃s' c,s1=s0++s'/\r0=c++r1/\aA ρ H O w s' c
 |[],s0,s1,r0,r1,h=>by
  simp only[List.foldl_nil,Option.some.injEq,Prod.mk.injEq]at h;obtain⟨rfl,rfl⟩:=h;exact⟨[],[],by simp,rfl,aB.2 rfl⟩
 |f::fs,s0,s1,r0,r1,h=>by
  simp only[List.foldl_cons]at h
  have jl:∀(fs:List Field),fs.foldl (λ(acc:Option (List AV×List Value)) f=>match acc,dK P f.type with
   |some (segs,rest),some n=>(gU P d f.type (rest.take n)).map λs=>(segs++s,rest.drop n)|_,_=>none) none=none:=by
   intro fs
   induction fs with
   |nil=>rfl|cons f fs ih=>simp only[List.foldl_cons];exact ih
  cases cn:dK P f.type with
  |none=>rw[cn]at h;simp only[jl]at h;cases h
  |some n=>
   rw[cn]at h;simp only[]at h;cases hz:gU P d f.type (r0.take n)with
   |none=>rw[hz]at h;simp only[Option.map_none,jl]at h;cases h
   |some s=>
    rw[hz]at h;simp only[map_some]at h;obtain⟨s',c,rfl,h1,h2⟩:=aap P d ih fs _ _ _ _ h;refine⟨s++s',r0.take n++c,by simp, ?_,fx.2 ⟨_,_,rfl,ih _ _ _ hz,h2⟩⟩;rw[append_assoc,<-h1,List.take_append_drop]
theorem r8(P:Program):∀(d:Nat) (t:TypeId) (cs:List Value) (segs:List AV),gU P d t cs=some segs->aA ρ H O w segs cs
 |0,t,cs,segs,h=>by simp[gU]at h
 |d+1,t,cs,segs,h=>by
  simp only[gU]at h;split at h;simp only[bind_eq_some_iff]at h;have⟨⟨s,rest⟩,h1,h2⟩:=h;obtain⟨s',c,rfl,rfl,h3⟩:=aap P d (r8 P d) _ _ _ _ _ h1;simp only[]at h2;split at h2;simp only[Option.some.injEq]at h2;subst h2;simpa using h3;cases h2;split at h;rename_i k hk;rw[Bool.cond_eq_ite]at h;split at h;rename_i hc;simp only[and_eq_true,beq_iff_eq]at hc;obtain⟨hz,rfl⟩:=hc;simp only[Option.some.injEq]at h;subst h;exact ah.2 ⟨cs,[],by simp,cT.2 ⟨by simp,mS k cs hz⟩,aB.2 rfl⟩;exact mR cs h;exact mR cs h;exact mR cs h
theorem aaq(segs:List AV):(AV.kF segs).jj=some segs:=by
 unfold AV.kF;split<;>rfl
theorem nz{t:TypeId}{segs:List AV}(h:(zeroOf P t).bind AV.jj =some segs):∃i v,P.info? t=some i/\i.zero=some v/\aA ρ H O w segs v.cells.toList:=by
 simp only[bind_eq_some_iff]at h;have⟨z,h1,h2⟩:=h;unfold zeroOf at h1;split at h1;rename_i cs hz ha;simp only[bind_eq_some_iff]at hz;have⟨i,hi,hz⟩:=hz;simp only[map_eq_some_iff]at h1;obtain⟨ss,h3,rfl⟩:=h1;rw[aaq]at h2;simp only[Option.some.injEq]at h2;subst h2;exact⟨i,_,hi,hz,by simpa[Value.cells]using r8 P 20 t _ _ h3⟩;skip;rename_i v hz ha;simp only[bind_eq_some_iff]at hz;have⟨i,hi,hz⟩:=hz;refine⟨i,v,hi,hz, ?_⟩;have hc:=uj (ρ:=ρ) (H:=H) (O:=O) (w:=w) h1
 have hv:v.oneCell'=true/\z.jj =some [z]:=by
  unfold pw at h1;split at h1;simp only[Option.some.injEq]at h1;subst h1;exact⟨rfl,rfl⟩;simp only[map_eq_some_iff]at h1;obtain⟨x,h3,rfl⟩:=h1;refine⟨(yy (O:=O) (w:=w) h3).one, ?_⟩;unfold alx at h3;split at h3<;>simp only[Option.some.injEq,reduceCtorEq]at h3<;>subst h3<;>rfl
 rw[hv.2]at h2;simp only[Option.some.injEq]at h2;subst h2;rw[lj hv.1];exact ah.2 ⟨[v],[],rfl,hc,aB.2 rfl⟩;cases h1
theorem lq(hs:Sat ρ H G w){n:Nat}(hn:H n=none){segs:List AV}{e:TypeId}{cells:List Value}(hd:aA ρ H (aV ρ H G) w segs cells):
 Good ρ H G w (aK H n (.ad segs e)) (.ptr n 0) (.pointer (some ⟨w.heap.size,0,none⟩)) (w.alloc (.cells cells.toArray e)):=by
 have st:Step ρ H (aV ρ H G) w (λj=>if j=n then .pointer (some ⟨w.heap.size,0,none⟩)else ρ j) (aK H n (.ad segs e)) (aV (λj=>if j=n then .pointer (some ⟨w.heap.size,0,none⟩)else ρ j) (aK H n (.ad segs e)) G) (w.alloc (.cells cells.toArray e)):=by
  have ne:∀j x,H j=some x->j≠n:=λj x hx e=>by subst e;rw[hn]at hx;cases hx
  refine⟨λj x hx=>by simp[ne j x hx],λj x hx=>⟨x,by simp[aK,ne j x hx,hx],λc' e' hc=>⟨c',e',hc,rfl,rfl⟩⟩,λb hb=> ?_,λb hb _=>gH hb,by rw[dN];omega⟩;rcases hb with⟨j,x,hx,h1,h2⟩|hb;by_cases hj:j=n;subst hj;simp only[if_true,eD,Option.some.injEq]at h2;exact .inr (by omega);simp only[aK,hj,if_false]at hx h2;exact .inl (.inl ⟨j,x,hx,h1,h2⟩);exact .inl (.inr hb)
 refine Good.fresh (iR:=.pointer (some ⟨w.heap.size,0,none⟩)) hs hn rfl rfl rfl rfl (λb hb=>by simpa[eD]using hb.symm) ?_ ?_;exact⟨w.heap.size,cells,(0,0),rfl,kY,λoff _ h=>by omega,hd.step st⟩;unfold ae aH;exact⟨w.heap.size,by simp,rfl,by simp[aK]⟩
theorem acr(hs:Sat ρ H G w){n:Nat}(hn:H n=none){k:Nat}(hk:1<=k)(hk2:k<=maxLen){e:TypeId}:
 Good ρ H G w (aK H n (.vec (.strs (replicate k empty)) e)) (.gw n 0 0) (.pointer (some ⟨w.heap.size,0,none⟩)) (w.alloc (.cells (replicate k (Value.string empty)).toArray e)):=by
 have uk:∀b,eD (.slice (some ⟨w.heap.size,0,none⟩) k k)=some b->b=w.heap.size:=by
  intro b hb;simp only[eD]at hb;split at hb;cases hb;simpa using hb.symm
 refine Good.fresh (iR:=.slice (some ⟨w.heap.size,0,none⟩) k k) hs hn rfl rfl rfl rfl uk ?_ ?_;refine⟨some ⟨w.heap.size,0,none⟩,k,by simp[aS.n],by simp[aS.n],hk2,.inr ⟨w.heap.size,0,replicate k (Value.string empty),(0,0),λ_ _=>.string empty,rfl,kY,⟨λoff _ h=>by omega,λu hu=> ?_⟩,by simp[aS.size],λi j hi hj=> ?_⟩⟩;rw[(List.mem_replicate.1 hu).2];rfl;simp only[aS.n,List.length_replicate]at hi;simp only[aS.size]at hj ⊢;obtain rfl:j=0:=by omega
 refine⟨by simp[hi], ?_⟩;simp only[aS.cell];rw[show(replicate k empty).getD i empty=empty from by simp[List.getD,hi]];exact aX.str _;unfold ae aH
 exact⟨rfl,.vec (.strs (replicate k empty)) e,by simp[aK],λc' e' hc=>by
  cases hc;exact⟨by simp[aS.n];omega,by simp[aS.size],w.heap.size,0,k,k,by simp,by simp[aS.size]⟩⟩
theorem acs{t:TypeId}{n:Nat}(h:yh P t=some n):1<=n/\n<=4096/\∃i v,P.info? t=some i/\i.zero=some v/\v.cells=(replicate n (Value.string empty)).toArray:=by
 unfold yh at h;split at h;rename_i m e i _ hi;split at h;rename_i z _ hz;rw[Bool.cond_eq_ite]at h;split at h;rename_i hc;simp only[Option.some.injEq]at h;subst h;simp only[and_eq_true,beq_eq]at hc;have⟨⟨⟨c1,c2⟩,c3⟩,c4⟩:=hc;have c1:=le_of_ble_eq_true c1;refine⟨by omega,le_of_ble_eq_true c2,i,z,hi,hz, ?_⟩;rw[all_eq_true]at c4
 have:z.cells.toList=replicate m (Value.string empty):=List.eq_replicate_iff.2 ⟨by rw[length_toList];exact c3,λb hb=>by
  have:=c4 b hb;split at this;rename_i s;have h0:s.size=0:=by simpa using this
  have:s=empty:=ByteArray.ext (Array.eq_empty_of_size_eq_zero h0);rw[this];cases this⟩
 rw[<-this];cases h;cases h;cases h
theorem afn{t:TypeId}{q:bK}(h:(acd P t).eval H=some q)(hs:Sat ρ H G w){base:Nat}(hb:∀i,i<q.new.length->H (base+i)=none)(old:Value):
 ∃v w',(Instr.alloc t true old).run P w=.ok v w'/\Good ρ H G w (cL H q.up base q.new) (q.r base) v w':=by
 unfold acd at h;split at h;rename_i n hz;simp only[RM.eval,Option.some.injEq]at h;subst h;have⟨h1,h2,i,v,hi,hv,hc⟩:=acs hz;have hn:H base=none:=by simpa using hb 0 (by simp)
 refine⟨.pointer (some ⟨w.heap.size,0,none⟩),w.alloc (.cells v.cells t), ?_, ?_⟩;simp[Instr.alloc,zeroValue,typeInfo,hi,hv,newVar,newRow];try rfl
 simp only[iV];have:=acr hs hn h1 (by unfold maxLen;omega) (e:=t);rw[hc];simpa using this;split at h;rename_i segs hz;simp only[RM.eval,Option.some.injEq]at h;subst h;have⟨i,v,hi,hv,hd⟩:=nz (ρ:=ρ) (H:=H) (O:=aV ρ H G) (w:=w) hz;have hn:H base=none:=by simpa using hb 0 (by simp)
 refine⟨.pointer (some ⟨w.heap.size,0,none⟩),w.alloc (.cells v.cells t), ?_, ?_⟩;simp[Instr.alloc,zeroValue,typeInfo,hi,hv,newVar,newRow];try rfl
 simp only[iV];have:=lq hs hn (e:=t) hd;simpa using this;cases h
theorem alJ{t:TypeId}{x:AV}{vx:Value}{q:bK}(h:(aom t x).eval H=some q)(hs:Sat ρ H G w)(hd:ae ρ H (aV ρ H G) w x vx){base:Nat}(hb:∀i,i<q.new.length->H (base+i)=none):
 ∃v w',(Instr.box t vx).run P w=.ok v w'/\Good ρ H G w (cL H q.up base q.new) (q.r base) v w':=by
 unfold aom at h;split at h;rename_i segs hz;simp only[RM.eval,Option.some.injEq]at h;subst h;have hn:H base=none:=by simpa using hb 0 (by simp)
 refine⟨.pointer (some ⟨w.heap.size,0,none⟩),w.alloc (.cells vx.cells t), ?_, ?_⟩;simp[Instr.box,newVar,newRow];try rfl
 simp only[iV];have:=lq hs hn (e:=t) (pB hz hd);simpa using this;cases h
end
section
variable{ρ aO:Nat->Value}{H H':aJ}{G O O':Nat->Prop}{w w':World}{P:Program}
theorem xz(off:Nat):∀(vs:List Value) (k:Nat) (cells:Array Value),off+k+vs.length<=cells.size->
 ((vs.zipIdx k).foldl (λ(cs:Array Value) (x:Value×Nat)=>cs.setIfInBounds (off+x.2) x.1) cells).toList=cells.toList.take (off+k)++vs++cells.toList.drop (off+k+vs.length)
 |[],k,cells,_=>by simp
 |v::vs,k,cells,h=>by
  simp only[length_cons]at h;simp only[List.zipIdx_cons,List.foldl_cons];rw[xz off vs (k+1) _ (by simp;omega)];have a8:off+k<cells.toList.length:=by simp;omega
  simp only[Array.toList_setIfInBounds];rw[<-add_assoc,List.take_set,List.drop_set_of_lt (by omega)]
  have e1:(cells.toList.take (off+k+1)).set (off+k) v=cells.toList.take (off+k)++[v]:=by
   rw[List.take_succ_eq_append_getElem a8];rw[List.set_append_right _ _ (by simp;omega)];simp at a8;simp[Nat.min_eq_left (Nat.le_of_lt a8)]
  rw[e1];simp only[append_assoc,length_cons,cons_append,List.nil_append];rw[show off+k+1+vs.length=off+k+(vs.length+1)from by omega]
theorem s8{place:Nat->Option (Nat×Nat)}{ev:Operand->AV}{e:Operand->Value}:∀(l:List (Nat×Operand)) (segs ss:List AV) (cells:Array Value),(∀p∈l,ae ρ H O w (ev p.2) (e p.2))->
 oO place segs (l.map λp=>(p.1,ev p.2))=some ss->aA ρ H O w segs cells.toList->
 ∃cells',Instr.fill place cells (l.map λp=>(p.1,e p.2))=some cells'/\aA ρ H O w ss cells'.toList
 |[],segs,ss,cells,_,h,hd=>by
  simp only[List.map_nil,oO,Option.some.injEq]at h;subst h;exact⟨cells,rfl,hd⟩
 |(i,x)::l,segs,ss,cells,hp,h,hd=>by
  simp only[map_cons,oO]at h;split at h;rename_i off size jk hpl hby;rw[Bool.cond_eq_ite]at h;split at h;rename_i hc;simp only[and_eq_true,beq_eq]at hc;simp only[bind_eq_some_iff]at h;have⟨s1,h1,h2⟩:=h;have hx:=pB hby (hp (i,x) (by simp));have bL:=iS hx;have⟨h3,h4⟩:=uc h1 hd hx;simp only[length_toList]at bL h3
  have⟨cells',h5,h6⟩:=s8 l s1 ss ((e x).cells.zipIdx.foldl (λcs (c,j)=>cs.setIfInBounds (off+j) c) cells) (λp ri=>hp p (by simp[ri])) h2 (by
   rw[<-Array.foldl_toList,Array.toList_zipIdx];have:=xz off (e x).cells.toList 0 cells (by simpa using h3);simp only[add_zero]at this;rw[this];exact h4)
  refine⟨cells', ?_,h6⟩;simp only[map_cons,Instr.fill,hpl];rw[if_neg (by simp;omega)];exact h5;cases h;cases h
theorem r9(P:Program)(w:World):∀(fs:List Field),fs.all (λf=>(dK P f.type).isSome)=true->
 (fs.mapM (m:=Sem) λf=>do pure (f.offset,<-sizeOf f.type)).run P w=.ok (fs.map λf=>(f.offset,(dK P f.type).getD 0)) w
 |[],_=>by simp
 |f::fs,h=>by
  simp only[all_cons,and_eq_true]at h;have⟨n,hn⟩:=isSome_iff_exists.1 h.1;have ih:=r9 P w fs h.2;simp only[List.mapM_cons,Sem.run_bind,run_sizeOf hn,Result.andThen_ok,Sem.run_pure,ih,map_cons,hn,getD_some]
theorem afo{t:TypeId}{ps:Array (Nat×Operand)}{ev:Operand->AV}{e:Operand->Value}{q:bK}(h:(ace P t (ps.toList.map λp=>(p.1,ev p.2))).eval H=some q)(hn:bd q.aa)
 (hp:∀p∈ps,ae ρ H O w (ev p.2) (e p.2)):eR P ρ H O w q (Instr.build t (ps.map λ(i,x)=>(i,e x))):=by
 have ri:∀p∈ps.toList,ae ρ H O w (ev p.2) (e p.2):=λp hm=>hp p (Array.mem_toList_iff.1 hm);unfold ace at h;split at h;rename_i segs fs hz ht;have⟨i,v,hi,hv,hd⟩:=nz (ρ:=ρ) (H:=H) (O:=O) (w:=w) hz;rw[Bool.cond_eq_ite]at h;split at h;rename_i acu;split at h;rename_i ss hss
 have hm:(fs.mapM (m:=Sem) λf=>do pure (f.offset,<-sizeOf f.type)).run P w=.ok (fs.toList.map λf=>(f.offset,(dK P f.type).getD 0)).toArray w:=by
  rw[Array.mapM_eq_mapM_toList];simp only[Sem.run_map,r9 P w fs.toList acu,Result.andThen_ok]
 have aow:(λi=>((fs.toList.map λ(f:Field)=>(f.offset,(dK P f.type).getD 0)).toArray)[i]?)=(λ(i:Nat)=>(fs[i]?).bind λ(f:Field)=>(dK P f.type).map λn=>(f.offset,n)):=by
  funext i;simp only[List.getElem?_toArray,getElem?_map,Array.getElem?_toList];cases hf:fs[i]? with
  |none=>rfl|some f=>
   have jt:f∈fs.toList:=Array.mem_toList_iff.2 (Array.mem_of_getElem? hf);have⟨n,hn⟩:=isSome_iff_exists.1 (all_eq_true.1 acu f jt);simp[hn]
 have⟨cells',h1,h2⟩:=s8 ps.toList segs ss v.cells ri hss hd;refine aE h (λ_=>⟨.agg cells', ?_,by simpa using kX h2⟩) hn;rw[<-aow]at h1;simp only[Instr.build,zeroValue,typeInfo,Sem.run_bind,run_program,Result.andThen_ok,hi,Sem.run_pure,hv,run_underlying ht,hm];simp only[Array.toList_map];erw [h1];rfl;cases h;cases h;rename_i segs n el hz ht;have⟨i,v,hi,hv,hd⟩:=nz (ρ:=ρ) (H:=H) (O:=O) (w:=w) hz;split at h;rename_i sz cn;split at h;rename_i ss hss;have⟨cells',h1,h2⟩:=s8 ps.toList segs ss v.cells ri hss hd;refine aE h (λ_=>⟨.agg cells', ?_,by simpa using kX h2⟩) hn;simp only[Instr.build,zeroValue,typeInfo,Sem.run_bind,run_program,Result.andThen_ok,hi,Sem.run_pure,hv,run_underlying ht,run_sizeOf cn];simp only[Array.toList_map];erw [h1];rfl;cases h;cases h;cases h
end
section
variable{ρ aO:Nat->Value}{H H':aJ}{G O O':Nat->Prop}{w w':World}{P:Program}
def Pts(O:Nat->Prop)(w:World)(l:List SV)(cs:List Value):Prop:=l.length=cs.length/\∀(i:Nat) (v:SV),l[i]? =some v->∃u,cs[i]? =some u/\aX O w v u
theorem alK:Pts O w [] ([]:List Value):=⟨rfl,by simp⟩
theorem um{v:SV}{l:List SV}{cs:List Value}(h:Pts O w (v::l) cs):∃u e9,cs=u::e9/\aX O w v u/\Pts O w l e9:=by
 have⟨h1,h2⟩:=h;cases cs with
 |nil=>simp at h1|cons u e9=>
  have⟨u',h3,h4⟩:=h2 0 v rfl;simp at h3;subst h3;exact⟨_,_,rfl,h4,by simpa using h1,λi x hx=>by simpa using h2 (i+1) x (by simpa using hx)⟩
theorem ah2{v:SV}{l:List SV}{u:Value}{cs:List Value}(h1:aX O w v u)(h2:Pts O w l cs):Pts O w (v::l) (u::cs):=
 ⟨by simp[h2.1],λi x hx=>by
   cases i with
   |zero=>simp at hx;subst hx;exact⟨u,rfl,h1⟩|succ i=>simpa using h2.2 i x (by simpa using hx)⟩
theorem acv:∀(aI:List AV) {l:List SV} {cs:List Value},svs aI=some l->aA ρ H O w aI cs->Pts O w l cs
 |[],l,cs,h,hd=>by
  simp only[svs,Option.some.injEq]at h;subst h;obtain rfl:=aB.1 hd;exact alK
 |a::aI,l,cs,h,hd=>by
  obtain⟨c1,c2,rfl,h1,h2⟩:=ah.1 hd;rcases rk a with⟨k,n,ws,rfl⟩|ha;simp[svs]at h
  have hs:svs (a::aI)=match a.sv?,svs aI with|some v,some vs=>some (v::vs)|_,_=>none:=by
   cases a<;>first|rfl|(exact(ha _ _ _ rfl).elim)
  rw[hs]at h;split at h;rename_i v vs hv hvs;simp only[Option.some.injEq]at h;subst h;cases a with
  |s x=>
   unfold aN at h1;obtain⟨u,rfl,hu⟩:=h1;have:x=v:=by cases x<;>simp only[AV.sv?,Option.some.injEq,reduceCtorEq]at hv<;>exact hv
   subst this;exact ah2 hu (acv aI hvs h2)
  |emp=>
   unfold aN at h1;obtain⟨u,rfl,x,rfl⟩:=h1;simp only[AV.sv?,Option.some.injEq]at hv;subst hv;exact ah2 (.ro (.bD 1 0 λ_ _=>.aF) x 0 (λ_ _=>undef) 0 0 (le_refl _) (by simp[maxLen]) (by simp[aS.n]) (by simp[aS.n]) (by simp[aS.n])) (acv aI hvs h2)
  |_=>simp[AV.sv?]at hv
  cases h
theorem xA(k:IntKind):∀(l:List SV) {zs:List Int} {cs:List Value},oP k l=some zs->Pts O w l cs->zs.length=cs.length/\∀i,i<zs.length->∃u,cs[i]? =some u/\aX O w (.int k (zs.getD i 0)) u
 |[],zs,cs,h,hp=>by
  simp only[oP,Option.some.injEq]at h;subst h;exact⟨hp.1,by simp⟩
 |v::l,zs,cs,h,hp=>by
  obtain⟨u,e9,rfl,hu,ri⟩:=um hp
  have key:∀k' n,aX O w (.int k' n) u->(bif bP k k' then(oP k l).map (n:: ·)else none)=some zs->zs.length=(u::e9).length/\∀i,i<zs.length->∃x,(u::e9)[i]? =some x/\aX O w (.int k (zs.getD i 0)) x:=by
   intro k' n hd h;rw[Bool.cond_eq_ite]at h;split at h;rename_i hk;obtain rfl:=bf hk;simp only[map_eq_some_iff]at h;obtain⟨zs',h1,rfl⟩:=h;have⟨h2,h3⟩:=xA k l h1 ri;refine⟨by simp[h2],λi hi=> ?_⟩;cases i with
   |zero=>exact⟨u,rfl,by simpa using hd⟩
   |succ i=>simpa using h3 i (by simpa using hi)
   cases h
  cases v<;>simp only[oP,reduceCtorEq]at h
  case int k' n=>exact key k' n hu h
  case aq k' n=>cases hu;exact key k' n (.int _ _) h
theorem xB:∀(l:List SV) {zs:List ByteArray} {cs:List Value},ra l=some zs->Pts O w l cs->zs.length=cs.length/\∀i,i<zs.length->∃u,cs[i]? =some u/\aX O w (.str (zs.getD i empty)) u
 |[],zs,cs,h,hp=>by
  simp only[ra,Option.some.injEq]at h;subst h;exact⟨hp.1,by simp⟩
 |v::l,zs,cs,h,hp=>by
  obtain⟨u,e9,rfl,hu,ri⟩:=um hp;cases v<;>simp only[ra,reduceCtorEq]at h;simp only[map_eq_some_iff]at h;obtain⟨zs',h1,rfl⟩:=h;have⟨h2,h3⟩:=xB l h1 ri;refine⟨by simp[h2],λi hi=> ?_⟩;cases i with
  |zero=>exact⟨u,rfl,by simpa using hu⟩
  |succ i=>simpa using h3 i (by simpa using hi)
theorem oX:∀(l:List SV) {zs:List Bool} {cs:List Value},nu l=some zs->Pts O w l cs->zs.length=cs.length/\∀i,i<zs.length->∃u,cs[i]? =some u/\aX O w (.bool (zs.getD i false)) u
 |[],zs,cs,h,hp=>by
  simp only[nu,Option.some.injEq]at h;subst h;exact⟨hp.1,by simp⟩
 |v::l,zs,cs,h,hp=>by
  obtain⟨u,e9,rfl,hu,ri⟩:=um hp;cases v<;>simp only[nu,reduceCtorEq]at h
  case bool b=>
   simp only[map_eq_some_iff]at h;obtain⟨zs',h1,rfl⟩:=h;have⟨h2,h3⟩:=oX l h1 ri;refine⟨by simp[h2],λi hi=> ?_⟩;cases i with
   |zero=>exact⟨u,rfl,by simpa using hu⟩
   |succ i=>simpa using h3 i (by simpa using hi)
  case ao b=>
   simp only[map_eq_some_iff]at h;obtain⟨zs',h1,rfl⟩:=h;have⟨h2,h3⟩:=oX l h1 ri;refine⟨by simp[h2],λi hi=> ?_⟩;cases i with
   |zero=>cases hu;exact⟨_,rfl,by simpa using aX.bool _⟩
   |succ i=>simpa using h3 i (by simpa using hi)
theorem afp{cs:List CK}{f:Nat->SV}{x:CL cs}(h:CL.ofs cs f=some x):∀j,j<CL.wide cs->∀(O:Nat->Prop) (w:World) (u:Value),aX O w (f j) u->aX O w (CL.cell cs x j) u:=by
 unfold CL.ofs at h;generalize CL.wide cs=m at h
 induction m generalizing x with
 |zero=>intro j hj;omega
 |succ m ih=>
  rw[List.range_succ,List.foldl_append]at h;simp only[List.foldl_cons,List.foldl_nil,bind_eq_some_iff]at h;have⟨y,h1,h2⟩:=h;have⟨h3,h4⟩:=rp h2;intro j hj O w u hu;by_cases hjm:j=m;subst hjm;exact h3 O w u hu;rw[h4 j hjm];exact ih h1 j (by omega) O w u hu
theorem aar{cs:List CK}{size:Nat}{cells:List SV}:∀{n i:Nat} {xs:List (CL cs)},xq cs size cells i n=some xs->xs.length=n/\∀k,k<n->∀j,j<CL.wide cs->∀(O:Nat->Prop) (w:World) (u:Value),
 aX O w (cells.getD ((i+k)*size+j) .aF) u->aX O w (CL.cell cs (xs.getD k (CL.d cs)) j) u
 |0,i,xs,h=>by
  simp only[xq,Option.some.injEq]at h;subst h;exact⟨rfl,λk hk=>by omega⟩
 |n+1,i,xs,h=>by
  simp only[xq]at h;split at h;rename_i x ys h1 h2;simp only[Option.some.injEq]at h;subst h;have⟨h3,h4⟩:=aar h2;refine⟨by simp[h3],λk hk j hj O w u hu=> ?_⟩;cases k with
  |zero=>exact afp h1 j hj O w u (by simpa using hu)
  |succ k=>
   have:=h4 k (by omega) j hj O w u (by rw[show i+1+k=i+(k+1)from by omega];exact hu);simpa using this
  cases h
theorem ah3{sh:Shape}{size n:Nat}{l:List SV}{cs:List Value}(hp:Pts O w l cs)(hl:l.length=n*size)(hn:(rW sh size n l).n=n)(hs:(rW sh size n l).size=size):
 ∀i j,i<n->j<size->∃u,cs[i*size+j]? =some u/\aX O w ((rW sh size n l).cell i j) u:=by
 have hd:∀i j,i<n->j<size->∃u,cs[i*size+j]? =some u/\aX O w ((aS.bD size n λi j=>l.getD (i*size+j) .aF).cell i j) u:=by
  intro i j hi hj
  have a8:i*size+j<l.length:=by
   rw[hl];have:(i+1)*size<=n*size:=Nat.mul_le_mul_right _ (by omega);rw[Nat.succ_mul]at this;omega
  have⟨u,h1,h2⟩:=hp.2 (i*size+j) l[i*size+j] (by simp[a8]);refine⟨u,h1, ?_⟩;simp only[aS.cell,List.getD,getElem?_eq_getElem a8,getD_some];exact h2
 unfold rW at hn hs ⊢;cases sh with
 |ay k=>
  cases hx:oP k l with
  |none=>simp only[hx,Option.elim]at hn hs ⊢;exact hd|some zs=>
   simp only[hx,Option.elim,aS.n,aS.size]at hn hs ⊢;subst hs;intro i j hi hj;obtain rfl:j=0:=by omega
   have⟨h1,h2⟩:=xA k l hx hp;simpa[aS.cell]using h2 i (by omega)
 |strs=>
  cases hx:ra l with
  |none=>simp only[hx,Option.elim]at hn hs ⊢;exact hd|some zs=>
   simp only[hx,Option.elim,aS.n,aS.size]at hn hs ⊢;subst hs;intro i j hi hj;obtain rfl:j=0:=by omega
   have⟨h1,h2⟩:=xB l hx hp;simpa[aS.cell]using h2 i (by omega)
 |bM=>
  cases hx:nu l with
  |none=>simp only[hx,Option.elim]at hn hs ⊢;exact hd|some zs=>
   simp only[hx,Option.elim,aS.n,aS.size]at hn hs ⊢;subst hs;intro i j hi hj;obtain rfl:j=0:=by omega
   have⟨h1,h2⟩:=oX l hx hp;simpa[aS.cell]using h2 i (by omega)
 |ab ck=>
  simp only[Bool.cond_eq_ite]at hn hs ⊢;by_cases hw:(CL.wide ck).beq size=true;simp only[hw,if_true]at hn hs ⊢;cases hx:xq ck size l 0 n with
  |none=>simp only[hx,Option.elim]at hn hs ⊢;exact hd|some zs=>
   simp only[hx,Option.elim,aS.n,aS.size]at hn hs ⊢;intro i j hi hj;have⟨h1,h2⟩:=aar hx;have⟨u,h3,h4⟩:=hd i j hi hj;exact⟨u,h3,h2 i hi j (by omega) O w u (by rw[zero_add];exact h4)⟩
  simp only[hw]at hn hs ⊢;exact hd
 |other=>exact hd
theorem uo{α:Type}(l:List α):∀n,(rep n l).length=n*l.length
 |0=>by simp[rep]
 |n+1=>by simp[rep,uo l n,Nat.succ_mul,Nat.add_comm]
theorem adL{α:Type}(l:List α):∀(n k:Nat),k<n*l.length->(rep n l)[k]? =l[k%l.length]?
 |0,k,h=>by simp at h
 |n+1,k,h=>by
  simp only[rep];by_cases hk:k<l.length;rw[getElem?_append_left hk,Nat.mod_eq_of_lt hk];rw[List.getElem?_append_right (by omega),adL l n (k - l.length) (by rw[Nat.succ_mul]at h;omega)];congr 1;rw[Nat.mod_eq_sub_mod (by omega:l.length<=k)]
theorem sd{z:List AV}{cs:List Value}(h:aA ρ H O w z cs):∀n,aA ρ H O w (rep n z) (rep n cs)
 |0=>aB.2 rfl|n+1=>fx.2 ⟨_,_,rfl,h,sd h n⟩
theorem afq(zc:Array Value)(n:Nat):((Array.range (n*zc.size)).map (zc[· %zc.size]!)).toList=rep n zc.toList:=by
 apply List.ext_getElem?;intro k;simp only[Array.toList_map,Array.toList_range,getElem?_map];by_cases hk:k<n*zc.size;rw[List.getElem?_range hk,adL _ _ _ (by simpa using hk)]
 have hz:0<zc.size:=by
  rcases Nat.eq_zero_or_pos zc.size with h0|h0;rw[h0]at hk;omega;exact h0
 have hm:k%zc.size<zc.size:=Nat.mod_lt _ hz;simp[hm];rw[getElem?_eq_none (by simp;omega),getElem?_eq_none (by rw[uo];simp;omega)];rfl
end
section
variable{ρ aO:Nat->Value}{H H':aJ}{G O O':Nat->Prop}{w w':World}{P:Program}
theorem lr(hs:Sat ρ H G w){w1:World}(hw:w1.heap=w.heap)(ht:w1.tape=w.tape)(hos:w1.os=w.os)(gW:w1.output=w.output){n:Nat}(hn:H n=none){c:aS}{e:TypeId}{cells:List Value}{cap:Nat}
 (h1:c.n<=cap) (h2:cap<=maxLen) (h3:cap*c.size<=cells.length) (us:Nat->Nat->Value)
 (hd:∀i j,i<c.n->j<c.size->cells[i*c.size+j]? =some (us i j)/\aX (aV ρ H G) w (c.cell i j) (us i j)) (rr:∀u∈cells,u.oneCell'=true):
 Good ρ H G w (aK H n (.vec c e)) (.vec n) (.slice (some ⟨w.heap.size,0,none⟩) c.n cap) (w1.alloc (.cells cells.toArray e)):=by
 have uk:∀b,eD (.slice (some ⟨w.heap.size,0,none⟩) c.n cap)=some b->b=w.heap.size:=by
  intro b hb;simp only[eD]at hb;split at hb;cases hb;simpa using hb.symm
 have st:Step ρ H (aV ρ H G) w (λj=>if j=n then .slice (some ⟨w.heap.size,0,none⟩) c.n cap else ρ j) (aK H n (.vec c e)) (aV (λj=>if j=n then .slice (some ⟨w.heap.size,0,none⟩) c.n cap else ρ j) (aK H n (.vec c e)) G) (w1.alloc (.cells cells.toArray e)):=by
  have ne:∀j x,H j=some x->j≠n:=λj x hx e=>by subst e;rw[hn]at hx;cases hx
  refine⟨λj x hx=>by simp[ne j x hx],λj x hx=>⟨x,by simp[aK,ne j x hx,hx],λc' e' hc=>⟨c',e',hc,rfl,rfl⟩⟩,λb hb=> ?_,λb hb _=>by rw[gH (by rw[hw];exact hb),hw],by rw[dN,hw];omega⟩;rcases hb with⟨j,x,hx,h1,h2⟩|hb;by_cases hj:j=n;subst hj;simp only[if_true]at h2;exact .inr (by rw[uk b h2];exact le_refl _);simp only[aK,hj,if_false]at hx h2;exact .inl (.inl ⟨j,x,hx,h1,h2⟩);exact .inl (.inr hb)
 refine Good.fresh (iR:=.slice (some ⟨w.heap.size,0,none⟩) c.n cap) hs hn hw ht hos gW uk ?_ ?_;refine⟨_,cap,rfl,h1,h2,.inr ⟨w.heap.size,0,cells,(0,0),us,rfl,by rw[<-hw];exact kY,⟨λoff _ h=>by omega,rr⟩,by omega,λi j hi hj=> ?_⟩⟩;have⟨g1,g2⟩:=hd i j hi hj;exact⟨by rw[zero_add];exact g1,g2.step st.ft st.heap st.size⟩;unfold ae aH;exact⟨rfl,.vec c e,by simp[aK],λc' e' hc=>by simp⟩
theorem uq{t:TypeId}{n:Nat}{ps:Array (Nat×Operand)}{ev:Operand->AV}{e:Operand->Value}{q:bK}(h:(mH P t n (ps.toList.map λp=>(p.1,ev p.2))).eval H=some q)
 (hs:Sat ρ H G w) (hp:∀p∈ps,ae ρ H (aV ρ H G) w (ev p.2) (e p.2)) {base:Nat} (hb:∀i,i<q.new.length->H (base+i)=none):
 ∃v w',(Instr.buildSlice t n (ps.map λ(i,x)=>(i,e x))).run P w=.ok v w'/\Good ρ H G w (cL H q.up base q.new) (q.r base) v w':=by
 have ri:∀p∈ps.toList,ae ρ H (aV ρ H G) w (ev p.2) (e p.2):=λp hm=>hp p (Array.mem_toList_iff.1 hm);unfold mH at h;split at h;rename_i el ht;split at h;rename_i sz z cn hz;rw[Bool.cond_eq_ite]at h;split at h;rename_i hc;simp only[and_eq_true,beq_eq]at hc;have⟨⟨c1,c2⟩,c3⟩:=hc;have c1:=le_of_ble_eq_true c1;have c2:=le_of_ble_eq_true c2;split at h;rename_i l hl;simp only[bind_eq_some_iff]at hl;have⟨ss,acq,hsv⟩:=hl;rw[Bool.cond_eq_ite]at h;split at h;rename_i hc;simp only[and_eq_true,beq_eq]at hc;have⟨⟨d1,d2⟩,d3⟩:=hc;simp only[RM.eval,Option.some.injEq]at h;subst h;have⟨i,v,hi,hv,hd⟩:=nz (ρ:=ρ) (H:=H) (O:=aV ρ H G) (w:=w) hz;have hlz:v.cells.size=sz:=by rw[<-length_toList,iS hd,c3]
 have mT:((Array.range (n*sz)).map (v.cells[· %v.cells.size]!)).toList=rep n v.cells.toList:=by rw[<-hlz];exact afq _ _
 have⟨cells',h1,h2⟩:=s8 ps.toList _ ss ((Array.range (n*sz)).map (v.cells[· %v.cells.size]!)) ri acq (by rw[mT];exact sd hd n);have aqP:=acv ss hsv h2;have aqQ:=ah3 aqP d1 d2 d3;have hcl:cells'.toList.length=n*sz:=by rw[<-aqP.1,d1]
 have hn:H base=none:=by simpa using hb 0 (by simp)
 refine⟨.slice (some ⟨w.heap.size,0,none⟩) n n,w.alloc (.cells cells' el), ?_, ?_⟩;have aas:¬(n*sz>2^24):=by omega
 have key:∀zc:Array Value,((Array.range (n*sz)).map (zc[· %zc.size]!))=((Array.range (n*sz)).map (v.cells[· %v.cells.size]!))->
  (match Instr.fill (λi=>some (i*sz,sz)) ((Array.range (n*sz)).map (zc[· %zc.size]!)) (ps.map λ(i,x)=>(i,e x)).toList with
    |some cells=>do
     let a <-newRow el cells
     pure (Value.slice (some a) n n)
    |_=>stuck "buildSlice: a part of the wrong size" :Sem Value).run P w=.ok (.slice (some ⟨w.heap.size,0,none⟩) n n) (w.alloc (.cells cells' el)):=by
  intro zc hz;rw[hz];simp only[Array.toList_map];erw [h1];simp[newRow]
 simp only[Instr.buildSlice,Sem.run_bind,run_underlying ht,Result.andThen_ok,run_sizeOf cn,aas,if_false];by_cases h0:n*sz=0;rw[if_pos h0];simp only[Sem.run_bind,Sem.run_pure,Result.andThen_ok]
 exact key #[] (by have:Array.range (n*sz)= #[]:=by rw[h0];rfl
                   rw[this];simp)
 rw[if_neg h0];simp only[Sem.run_bind,Sem.run_pure,Result.andThen_ok,zeroValue,typeInfo,run_program,hi,hv];exact key v.cells rfl;simp only[iV];have:=lr hs (w1:=w) rfl rfl rfl rfl hn (c:=rW (shapeOf P el) sz n l) (e:=el) (cells:=cells'.toList) (cap:=n) (by omega) (by simp only[maxLen];have:n<=n*sz:=Nat.le_mul_of_pos_right n (by omega);omega) (by rw[d3,hcl];exact le_refl _)
  (λi j=>cells'.toList.getD (i*sz+j) undef) (λi j hi hj=>by
    rw[d2]at hi;rw[d3]at hj ⊢;have⟨u,g1,g2⟩:=aqQ i j hi hj;have a8:i*sz+j<cells'.toList.length:=(List.getElem?_eq_some_iff.1 g1).1;rw[gZ _ _ undef a8]at g1;simp only[Option.some.injEq]at g1;exact⟨gZ _ _ _ a8,by rw[g1];exact g2⟩) (λu hu=>by
    obtain⟨k,hk,rfl⟩:=List.getElem_of_mem hu;rw[hcl]at hk
    have hp:0<sz:=by rcases Nat.eq_zero_or_pos sz with h0|h0
                     rw[h0]at hk;omega;exact h0
    have⟨u,g1,g2⟩:=aqQ (k / sz) (k%sz) (Nat.div_lt_of_lt_mul (by rw[Nat.mul_comm];exact hk)) (Nat.mod_lt _ hp);rw[show k / sz*sz+k%sz=k from Nat.div_add_mod' k sz,getElem?_eq_getElem (by rw[hcl];exact hk)]at g1;cases g1;exact g2.one)
 simpa[d2]using this;cases h;cases h;cases h;cases h;cases h
theorem xC:∀(r aa c:Nat),c<=2*aa+192->Builtin.growBy aa r c<=2*aa+192
 |0,aa,c,h=>h|r+1,aa,c,h=>by
  unfold Builtin.growBy;split;exact h;exact xC r aa _ (by omega)
theorem nextslicecap_le{aa old:Nat}(h:old<aa):Builtin.nextslicecap aa old<=2*aa+192:=by
 unfold Builtin.nextslicecap;split;omega;split;omega;exact xC 4 aa old (by omega)
theorem growBy_four(n c:Nat):Builtin.growBy n 4 c=
 if c>=n then c else
 if c+(c+768) / 4>=n then c+(c+768) / 4 else
 if c+(c+768) / 4+(c+(c+768) / 4+768) / 4>=n then c+(c+768) / 4+(c+(c+768) / 4+768) / 4 else
 if c+(c+768) / 4+(c+(c+768) / 4+768) / 4+(c+(c+768) / 4+(c+(c+768) / 4+768) / 4+768) / 4>=n
 then c+(c+768) / 4+(c+(c+768) / 4+768) / 4+(c+(c+768) / 4+(c+(c+768) / 4+768) / 4+768) / 4 else
 c+(c+768) / 4+(c+(c+768) / 4+768) / 4+(c+(c+768) / 4+(c+(c+768) / 4+768) / 4+768) / 4+
  (c+(c+768) / 4+(c+(c+768) / 4+768) / 4+(c+(c+768) / 4+(c+(c+768) / 4+768) / 4+768) / 4+768) / 4:=rfl
theorem ru{aa old:Nat}(h:old<aa):Builtin.nextslicecap aa old<=2*aa:=by
 unfold Builtin.nextslicecap;split;omega;split;omega;rw[growBy_four]
 repeat' split
 all_goals omega
structure Src (P:Program) (O:Nat->Prop) (w:World) (size:Nat) (d:aS) (v:Value) (bz:List Value):Prop where
 len:(Builtin.lenOf v).run P w=.ok d.n w
 length:bz.length=d.n*size
 first:∀w2:World,w2.heap=w.heap->(Builtin.firstCells size d.n v).run P w2=.ok bz.toArray w2
 one:∀u∈bz,u.oneCell'=true
 den:∀i j,i<d.n->j<size->∃u,bz[i*size+j]? =some u/\aX O w (d.cell i j) u
theorem s9{size:Nat}{d:aS}{v:Value}(h:oV O w d v)(hs:d.size=size)(h1:1<=size):∃bz,Src P O w size d v bz:=by
 obtain⟨a,cap,us,rfl,g1,g2,g3⟩:=h;subst hs
 have hdm:∀m,m<d.n*d.size->m / d.size<d.n/\m%d.size<d.size:=λm hm=>
  ⟨Nat.div_lt_of_lt_mul (by rw[Nat.mul_comm];exact hm),Nat.mod_lt _ (by omega)⟩
 refine⟨(List.range (d.n*d.size)).map λm=>us (m / d.size) (m%d.size), ?_,by simp,λw2 hw2=> ?_,λu hu=> ?_,λi j hi hj=> ?_⟩;simp[Builtin.lenOf];rcases Nat.eq_zero_or_pos d.n with h0|h0;rw[h0];cases a<;>simp[Builtin.firstCells,loadCells,loadCellsFrom];obtain⟨b,o,rfl,_,hc⟩:=g3 h0;simp only[Builtin.firstCells];refine run_loadCells w2 _ _ (λm=>us (m / d.size) (m%d.size)) (λm hm=> ?_);have⟨k1,k2⟩:=hdm m hm;rw[a7];have:=(hc _ _ k1 k2).1;rw[add_assoc,show m / d.size*d.size+m%d.size=m from by rw[Nat.mul_comm];exact Nat.div_add_mod m d.size]at this;rw[<-this];simp[World.cell?,hw2];obtain⟨m,hm,rfl⟩:=mem_map.1 hu;have hm:m<d.n*d.size:=mem_range.1 hm;have⟨k1,k2⟩:=hdm m hm;obtain⟨b,o,rfl,_,hc⟩:=g3 (Nat.lt_of_le_of_lt (zero_le _) k1);exact(hc _ _ k1 k2).2.one
 have a8:i*d.size+j<d.n*d.size:=by
  have:(i+1)*d.size<=d.n*d.size:=Nat.mul_le_mul_right _ (by omega);rw[Nat.succ_mul]at this;omega
 obtain⟨b,o,rfl,_,hc⟩:=g3 (by omega);have e1:(i*d.size+j) / d.size=i:=by rw[Nat.mul_comm,Nat.mul_add_div (by omega),Nat.div_eq_of_lt hj];rfl
 have e2:(i*d.size+j)%d.size=j:=by rw[Nat.mul_comm,Nat.mul_add_mod,Nat.mod_eq_of_lt hj]
 exact⟨us i j,by rw[getElem?_map,List.getElem?_range a8];simp[e1,e2],(hc i j hi hj).2⟩
theorem alL{s:ByteArray}:∃bz,Src P O w 1 (.ay .u8 (s.data.toList.map λb=>(b.toNat:Int))) (.string s) bz:=by
 refine⟨s.data.toList.map λb=>.int .u8 b.toNat, ?_,by simp[aS.n],λw2 hw2=> ?_,λu hu=> ?_,λi j hi hj=> ?_⟩;simp[Builtin.lenOf,aS.n];simp only[Builtin.firstCells,aS.n,Sem.run_pure,length_map];congr 1;have h:s.data.toList.length=s.size:=length_toList;rw[h,ByteArray.extract_zero_size];apply toList_inj.1;rw[Array.toList_map];obtain⟨b,_,rfl⟩:=mem_map.1 hu;rfl;simp only[aS.n,length_map]at hi;obtain rfl:j=0:=by omega
 have ep:i<s.data.toList.length:=hi;refine⟨.int .u8 (s.data.toList[i].toNat),by rw[Nat.mul_one,add_zero,getElem?_map,getElem?_eq_getElem ep];rfl, ?_⟩;simp only[aS.cell]
 have:(s.data.toList.map λb=>((b.toNat:Nat):Int)).getD i 0=(s.data.toList[i].toNat:Int):=by
  rw[List.getD,getElem?_map,getElem?_eq_getElem ep];rfl
 rw[this];exact .int _ _
end
section
variable{ρ aO:Nat->Value}{H H':aJ}{G O O':Nat->Prop}{w w':World}{P:Program}
theorem gJ{α:Type}(xs ys:List α){lo k:Nat}(h:lo+k<=xs.length)(hk:k<=ys.length):(over xs lo k ys).length=xs.length:=by
 simp only[over,length_append,length_take,length_drop];omega
theorem jI{α:Type}(xs ys:List α)(d:α){lo k:Nat}(h:lo+k<=xs.length)(hk:k<=ys.length)(i:Nat):
 (over xs lo k ys).getD i d=if lo<=i/\i<lo+k then ys.getD (i - lo) d else xs.getD i d:=by
 have hto:(xs.take lo).length=lo:=by simp;omega
 have hty:(ys.take k).length=k:=by simp;omega
 simp only[over,List.getD];by_cases h1:i<lo;rw[if_neg (by omega),append_assoc,getElem?_append_left (by omega),getElem?_take,if_pos h1];by_cases h2:i<lo+k;rw[if_pos (by omega),append_assoc,List.getElem?_append_right (by omega),hto,getElem?_append_left (by omega),getElem?_take,if_pos (by omega)];rw[if_neg (by omega),append_assoc,List.getElem?_append_right (by omega),hto,List.getElem?_append_right (by omega),hty,List.getElem?_drop];congr 2;omega
theorem afr{α:Type}{lo i k:Nat}{a b:α}:(bif lo.ble i&&i.blt (lo+k)then a else b)=if lo<=i/\i<lo+k then a else b:=by
 rw[Bool.cond_eq_ite];congr 1;simp[Nat.blt,Nat.lt_iff_add_one_le,Nat.ble_eq]
theorem aat{cs e9:List CK}(xs:List (CL cs))(ys:List (CL e9))(lo k:Nat)(p:aS->Prop)(h1:∀e:e9=cs,p (.ab cs (over xs lo k (e▸ys))))
 (h2:p (.bD (CL.wide cs) xs.length λi j=>bif lo.ble i&&i.blt (lo+k)then(aS.ab e9 ys).cell (i - lo) j else(aS.ab cs xs).cell i j)):p (dq (.ab cs xs) lo k (.ab e9 ys)):=by
 simp only[dq];split;rename_i h _;exact h1 h.down;exact h2
theorem se(c d:aS){lo k:Nat}(h:lo+k<=c.n)(hk:k<=d.n):
 (dq c lo k d).n=c.n/\(dq c lo k d).size=c.size/\∀i j,i<c.n->(dq c lo k d).cell i j=if lo<=i/\i<lo+k then d.cell (i - lo) j else c.cell i j:=by
 have other:∀c':aS,c'=.bD c.size c.n (λi j=>bif lo.ble i&&i.blt (lo+k)then d.cell (i - lo) j else c.cell i j)->
  c'.n=c.n/\c'.size=c.size/\∀i j,i<c.n->c'.cell i j=if lo<=i/\i<lo+k then d.cell (i - lo) j else c.cell i j:=by
  rintro c' rfl;exact⟨rfl,rfl,λi j _=>afr⟩
 cases c<;>cases d
 case ay.ay k1 xs k2 ys=>
  simp only[dq];cases hkk:bP k1 k2;exact other _ rfl;obtain rfl:=bf hkk;simp only[aS.n]at h hk;refine⟨gJ xs ys h hk,rfl,λi j _=> ?_⟩;simp only[aS.cell,jI xs ys _ h hk,cond_true];split<;>rfl
 case strs.strs xs ys=>
  simp only[aS.n]at h hk;refine⟨gJ xs ys h hk,rfl,λi j _=> ?_⟩;simp only[dq,aS.cell,jI xs ys _ h hk];split<;>rfl
 case bM.bM xs ys=>
  simp only[aS.n]at h hk;refine⟨gJ xs ys h hk,rfl,λi j _=> ?_⟩;simp only[dq,aS.cell,jI xs ys _ h hk];split<;>rfl
 case ab.ab cs xs e9 ys=>
  simp only[aS.n]at h hk;refine aat xs ys lo k (λc'=>c'.n=(aS.ab cs xs).n/\c'.size=(aS.ab cs xs).size/\∀i j,i<(aS.ab cs xs).n->c'.cell i j=if lo<=i/\i<lo+k then(aS.ab e9 ys).cell (i - lo) j else(aS.ab cs xs).cell i j) ?_ (other _ rfl);rintro rfl;refine⟨gJ xs ys h hk,rfl,λi j _=> ?_⟩;simp only[aS.cell,jI xs ys _ h hk];split<;>rfl
 all_goals exact other _ rfl
theorem Good.upd(hs:Sat ρ H G w){id:Nat}{o o':au}(ho:H id=some o)(ha:o.alive=o'.alive)
 (rl:∀c' e',o'=.vec c' e'->∃c e,o=.vec c e/\c'.n=c.n/\c'.size=c.size) {r:AV} {v:Value}
 (eW:kG ρ (aK H id o') (aV ρ H G) w (ρ id) o') (hr:ae ρ (aK H id o') (aV ρ H G) w r v):Good ρ H G w (aK H id o') r v w:=by
 have hh:=yq (ρ:=ρ) (G:=G) ho ha
 have st:Step ρ H (aV ρ H G) w ρ (aK H id o') (aV ρ (aK H id o') G) w:=by
  refine⟨λ_ _ _=>rfl,λj x hx=> ?_,λc hc=>.inl (by rw[hh]at hc;exact hc),λc hc hO=>rfl,le_refl _⟩;by_cases hj:j=id;subst hj;rw[ho]at hx;cases hx;exact⟨o',by simp[aK],rl⟩;exact⟨x,by simp[aK,hj,hx],λc' e' hc=>⟨c',e',hc,rfl,rfl⟩⟩
 refine⟨ρ,⟨λj x hx=> ?_,λi j oi oj c h1 h2 h3 h4 h5 h6=> ?_,λc hc=> ?_,hs.low⟩,by rw[hh];exact hr,st,⟨rfl,rfl,rfl,λ_ _ _=>rfl⟩⟩;by_cases hj:j=id;subst hj;simp only[aK,if_true,Option.some.injEq]at hx;subst hx;rw[hh];exact eW;have hx':H j=some x:=by simpa[aK,hj]using hx
 exact(hs.obj j x hx').step st (λ_ _ _=>rfl)
 have f:∀i oi,aK H id o' i=some oi->oi.alive=true->∃x,H i=some x/\x.alive=true:=by
  intro i oi hi rY;by_cases ep:i=id;subst ep;simp only[aK,if_true,Option.some.injEq]at hi;subst hi;exact⟨o,ho,ha.trans rY⟩;exact⟨oi,by simpa[aK,ep]using hi,rY⟩
 have⟨x,hx,hxa⟩:=f i oi h1 h3;have⟨y,hy,hya⟩:=f j oj h2 h4;exact hs.inj i j x y c hx hy hxa hya h5 h6;exact hs.apart c ((yp ho ha c).1 hc)
theorem pH(hs:Sat ρ H G w){id:Nat}{c d:aS}{e:TypeId}(ho:H id=some (.vec c e)){lo k:Nat}(hlo:lo+k<=c.n)(hk:k<=d.n)(h1:1<=c.size){bz:List Value}
 (bL:bz.length=k*c.size) (rr:∀u∈bz,u.oneCell'=true) (kg:∀i j,i<k->j<c.size->∃u,bz[i*c.size+j]? =some u/\aX (aV ρ H G) w (d.cell i j) u):
 ∃w',(∀a cap x,ρ id=.slice a c.n cap->(k=0\/a.map (·.add (lo*c.size))=some x)->(storeCells x bz 0).run P w=.ok () w')/\(k=0->w'=w)/\
  ∀r v,(∀w2,ae ρ (aK H id (.vec (dq c lo k d) e)) (aV ρ H G) w2 r v)->Good ρ H G w (aK H id (.vec (dq c lo k d) e)) r v w':=by
 have⟨hn,cn,ur⟩:=se c d hlo hk;have⟨a,cap,dS,q1,q2,q3⟩:=hs.obj id _ ho;have rl:∀c' e',au.vec (dq c lo k d) e=.vec c' e'->∃c1 e1,au.vec c e=.vec c1 e1/\c'.n=c1.n/\c'.size=c1.size:=λc' e' hc=>by cases hc;exact⟨c,e,rfl,hn,cn⟩
 have hh:=yq (ρ:=ρ) (G:=G) ho (show(au.vec c e).alive=(au.vec (dq c lo k d) e).alive from rfl);rcases Nat.eq_zero_or_pos k with h0|h0;subst h0;have jm:bz=[]:=List.eq_nil_of_length_eq_zero (by rw[bL];simp);subst jm;refine⟨w,λa cap x _ _=>rfl,λ_=>rfl,λr v hr=>Good.upd (o':=.vec (dq c lo 0 d) e) hs ho rfl rl ?_ (hr w)⟩;have hc:∀i j,i<c.n->(dq c lo 0 d).cell i j=c.cell i j:=λi j hi=>by rw[ur i j hi,if_neg (by omega)]
 refine⟨a,cap,by rw[hn];exact dS,by omega,q2, ?_⟩;rcases q3 with q3|⟨b,o,cells,fr,us,e1,e2,e3,e4,e5⟩;exact .inl q3;exact .inr ⟨b,o,cells,fr,us,e1,e2,e3,by rw[cn];exact e4,λi j hi hj=>by rw[hn]at hi;rw[cn]at hj ⊢;rw[hc i j hi];exact e5 i j hi hj⟩;rcases q3 with q3|⟨b,o,cells,fr,us,rfl,e2,e3,e4,e5⟩;omega;have ko:eD (ρ id)=some b:=by rw[dS];simp only[eD];rw[if_neg (by omega)]
 have hm1:(lo+k)*c.size<=cap*c.size:=Nat.mul_le_mul_right _ (by omega);rw[add_mul]at hm1;have hl:o+lo*c.size+bz.length<=cells.length:=by omega
 have pn:(cells.take (o+lo*c.size)++bz++cells.drop (o+lo*c.size+bz.length)).length=cells.length:=by
  simp only[length_append,length_take,length_drop];omega
 let obj:Obj:=.cells (cells.take (o+lo*c.size)++bz++cells.drop (o+lo*c.size+bz.length)).toArray e fr;refine⟨World.cc w b obj,λa' ae6 x hr hx=> ?_,λh=>by omega,λr v hr=> ?_⟩;rw[dS]at hr;cases hr;rcases hx with hx|hx;omega;simp only[map_some,a7,Option.some.injEq]at hx;subst hx;have:=bY (P:=P) (o+lo*c.size) bz 0 e2 e3.ow (by omega) rr;rw[add_zero]at this;exact this;have st:=jR (G:=G) (w:=w) (o':=.vec (dq c lo k d) e) ho rfl ko rl obj;refine Good.write hs ho rfl rfl ko rl ?_ (hr _);refine⟨some ⟨b,o,none⟩,cap,by rw[hn];exact dS,by omega,q2,.inr ⟨b,o,_,fr,λi j=>if lo<=i/\i<lo+k then bz.getD ((i - lo)*c.size+j) undef else us i j,rfl,dM e2,e3.over rr (by omega),by rw[pn,cn];exact e4,λi j hi hj=> ?_⟩⟩;rw[hn]at hi;rw[cn]at hj ⊢;rw[ur i j hi,yx _ _ _ hl];dsimp only;by_cases c9:lo<=i/\i<lo+k;have⟨u,g1,g2⟩:=kg (i - lo) j (by omega) hj;have hmul:i*c.size=lo*c.size+(i - lo)*c.size:=by rw[<-add_mul];congr 1;omega
 have a8:=(List.getElem?_eq_some_iff.1 g1).1;simp only[if_pos c9];rw[if_pos (by omega),show o+i*c.size+j - (o+lo*c.size)=(i - lo)*c.size+j from by omega,g1];have:bz.getD ((i - lo)*c.size+j) undef=u:=by simp[List.getD,g1]
 rw[this];exact⟨rfl,g2.step st.ft st.heap st.size⟩;simp only[if_neg c9]
 have gW:¬(o+lo*c.size<=o+i*c.size+j/\o+i*c.size+j<o+lo*c.size+bz.length):=by
  intro hc;rcases lt_or_ge i lo with h2|h2;have:(i+1)*c.size<=lo*c.size:=Nat.mul_le_mul_right _ (by omega);rw[Nat.succ_mul]at this;omega;have:(lo+k)*c.size<=i*c.size:=Nat.mul_le_mul_right _ (by omega);rw[add_mul]at this;omega
 rw[if_neg gW];have⟨g1,g2⟩:=e5 i j hi hj;exact⟨g1,g2.step st.ft st.heap st.size⟩
end
section
variable{ρ aO:Nat->Value}{H H':aJ}{G O O':Nat->Prop}{w w':World}{P:Program}
theorem lY{cs e9:List CK}(xs:List (CL cs))(ys:List (CL e9))(p:aS->Prop)(h1:∀e:e9=cs,p (.ab cs (xs++e▸ys)))
 (h2:p (.bD (CL.wide cs) (xs.length+ys.length) λi j=>bif i.blt xs.length then(aS.ab cs xs).cell i j else(aS.ab e9 ys).cell (i - xs.length) j)):p (dh (.ab cs xs) (.ab e9 ys)):=by
 simp only[dh];split;rename_i h _;exact h1 h.down;exact h2
theorem uu(c d:aS):(dh c d).n=c.n+d.n:=by
 by_cases ht:∃cs xs e9 ys,c=.ab cs xs/\d=.ab e9 ys;obtain⟨cs,xs,e9,ys,rfl,rfl⟩:=ht;refine lY xs ys (λr=>r.n=_) (λe=> ?_) rfl;subst e;simp[aS.n];cases c<;>cases d<;>first|(exact absurd ⟨_,_,_,_,rfl,rfl⟩ ht)|skip
 all_goals simp only[dh,aS.n,length_append]
 rename_i k xs k' ys;cases bP k k'<;>simp
theorem mU(c d:aS)(h:d.size=c.size):(dh c d).size=c.size:=by
 by_cases ht:∃cs xs e9 ys,c=.ab cs xs/\d=.ab e9 ys;obtain⟨cs,xs,e9,ys,rfl,rfl⟩:=ht;exact lY xs ys (λr=>r.size=_) (λe=>by subst e;rfl) rfl;cases c<;>cases d<;>first|(exact absurd ⟨_,_,_,_,rfl,rfl⟩ ht)|skip
 all_goals simp only[dh,aS.size]at h ⊢
 rename_i k xs k' ys;cases bP k k'<;>rfl
theorem ry{α:Type}(xs ys:List α)(d:α){i:Nat}(h:i<xs.length):(xs++ys).getD i d=xs.getD i d:=by
 simp[List.getD,getElem?_append_left h]
theorem rz{α:Type}(xs ys:List α)(d:α){i:Nat}(h:¬i<xs.length):(xs++ys).getD i d=ys.getD (i - xs.length) d:=by
 simp[List.getD,List.getElem?_append_right (Nat.le_of_not_lt h)]
theorem uv{i n:Nat}(h:i<n):i.blt n=true:=by simpa[Nat.blt,Nat.lt_iff_add_one_le]using h
theorem rA{i n:Nat}(h:¬i<n):i.blt n=false:=by
 cases hb:i.blt n with
 |false=>rfl|true=>exact absurd (by simpa[Nat.blt,Nat.lt_iff_add_one_le]using hb) h
theorem yz(c d:aS){i:Nat}(j:Nat)(h:i<c.n):(dh c d).cell i j=c.cell i j:=by
 by_cases ht:∃cs xs e9 ys,c=.ab cs xs/\d=.ab e9 ys;obtain⟨cs,xs,e9,ys,rfl,rfl⟩:=ht;simp only[aS.n]at h;refine lY xs ys (λr=>r.cell i j=_) (λe=> ?_) ?_;subst e;simp only[aS.cell,ry _ _ _ h];simp only[aS.cell,uv h,cond_true];cases c<;>cases d<;>first|(exact absurd ⟨_,_,_,_,rfl,rfl⟩ ht)|skip
 all_goals simp only[dh,aS.cell,aS.n]at h ⊢
 all_goals first
  |(rw[ry _ _ _ h];done)
  |(simp only[uv h,cond_true];done)
  |(rename_i k xs k' ys
    cases hk:bP k k';simp only[cond_false,uv h,cond_true];simp only[cond_true,ry _ _ _ h])
theorem yA(c d:aS){i:Nat}(j:Nat)(h:¬i<c.n):(dh c d).cell i j=d.cell (i - c.n) j:=by
 by_cases ht:∃cs xs e9 ys,c=.ab cs xs/\d=.ab e9 ys;obtain⟨cs,xs,e9,ys,rfl,rfl⟩:=ht;simp only[aS.n]at h;refine lY xs ys (λr=>r.cell i j=_) (λe=> ?_) ?_;subst e;simp only[aS.cell,aS.n,rz _ _ _ h];simp only[aS.cell,aS.n,rA h,cond_false];cases c<;>cases d<;>first|(exact absurd ⟨_,_,_,_,rfl,rfl⟩ ht)|skip
 all_goals simp only[dh,aS.cell,aS.n]at h ⊢
 all_goals first
  |(rw[rz _ _ _ h];done)
  |(simp only[rA h,cond_false];done)
  |(rename_i k xs k' ys
    cases hk:bP k k';simp only[cond_false,rA h];obtain rfl:=bf hk;simp only[cond_true,rz _ _ _ h])
theorem jJ{id:Nat}{o:au}(ho:H id=some o):Step ρ H (aV ρ H G) w ρ (aK H id .aW) (aV ρ (aK H id .aW) G) w:=by
 refine⟨λ_ _ _=>rfl,λj x hx=> ?_,λb hb=> ?_,λ_ _ _=>rfl,le_refl _⟩;by_cases hj:j=id;subst hj;exact⟨.aW,by simp[aK],by simp⟩;exact⟨x,by simp[aK,hj,hx],λc' e' hc=>⟨c',e',hc,rfl,rfl⟩⟩;rcases hb with⟨j,x,hx,h1,h2⟩|hb;by_cases hj:j=id;subst hj;simp only[aK,if_true,Option.some.injEq]at hx;subst hx;simp[au.alive]at h1;exact .inl (.inl ⟨j,x,by simpa[aK,hj]using hx,h1,h2⟩);exact .inl (.inr hb)
theorem g9{id:Nat}{b:Nat}(h:Own ρ (aK H id .aW) b):Own ρ H b:=by
 have⟨j,x,hx,h1,h2⟩:=h;by_cases hj:j=id;subst hj;simp only[aK,if_true,Option.some.injEq]at hx;subst hx;simp[au.alive]at h1;exact⟨j,x,by simpa[aK,hj]using hx,h1,h2⟩
theorem Sat.kill(hs:Sat ρ H G w){id:Nat}{o:au}(ho:H id=some o):Sat ρ (aK H id .aW) G w:=by
 have st:=jJ (ρ:=ρ) (G:=G) (w:=w) ho;refine⟨λj x hx=> ?_,λi j oi oj b h1 h2 h3 h4 h5 h6=> ?_,λb hb=>hs.apart b (g9 hb),hs.low⟩;by_cases hj:j=id;subst hj;simp only[aK,if_true,Option.some.injEq]at hx;subst hx;trivial;exact(hs.obj j x (by simpa[aK,hj]using hx)).step st (λ_ _ _=>rfl)
 have f:∀i oi,aK H id .aW i=some oi->oi.alive=true->H i=some oi:=by
  intro i oi hi rY;by_cases ep:i=id;subst ep;simp only[aK,if_true,Option.some.injEq]at hi;subst hi;simp[au.alive]at rY;simpa[aK,ep]using hi
 exact hs.inj i j oi oj b (f i oi h1 h3) (f j oj h2 h4) h3 h4 h5 h6
theorem Good.after{H1 H2:aJ}(q7:Step ρ H (aV ρ H G) w ρ H1 (aV ρ H1 G) w)(dD:∀b,Own ρ H1 b->Own ρ H b){r:AV}{v:Value}(h:Good ρ H1 G w H2 r v w'):Good ρ H G w H2 r v w':=by
 have⟨aO,h1,h2,h3,h4⟩:=h;exact⟨aO,h1,h2,q7.trans h3,h4.os,h4.tape,h4.output,λb hb hO=>h4.heap b hb (λhx=>hO (dD b hx))⟩
theorem rB(hs:Sat ρ H G w){n:Nat}(hn:H n=none){c:aS}{e:TypeId}(h0:c.n=0)(a:Option Addr):
 Good ρ H G w (aK H n (.vec c e)) (.vec n) (.slice a c.n 0) w:=by
 have ne:∀j x,H j=some x->j≠n:=λj x hx e=>by subst e;rw[hn]at hx;cases hx
 have hb:eD (.slice a c.n 0)=none:=by cases a<;>simp[eD]
 have pC:∀b,Own (λj=>if j=n then .slice a c.n 0 else ρ j) (aK H n (.vec c e)) b->Own ρ H b:=by
  rintro b ⟨j,x,hx,h1,h2⟩;by_cases hj:j=n;subst hj;simp only[if_true]at h2;rw[hb]at h2;cases h2;simp only[aK,hj,if_false]at hx h2;exact⟨j,x,hx,h1,h2⟩
 have st:Step ρ H (aV ρ H G) w (λj=>if j=n then .slice a c.n 0 else ρ j) (aK H n (.vec c e)) (aV (λj=>if j=n then .slice a c.n 0 else ρ j) (aK H n (.vec c e)) G) w:=
  ⟨λj x hx=>by simp[ne j x hx],λj x hx=>⟨x,by simp[aK,ne j x hx,hx],λc' e' hc=>⟨c',e',hc,rfl,rfl⟩⟩,λb hb=>.inl (hb.imp (pC b) id),λb hb _=>rfl,le_refl _⟩
 refine⟨_,⟨λj x hx=> ?_,λi j oi oj b h1 h2 h3 h4 h5 h6=> ?_,λb hb=>hs.apart b (pC b hb),hs.low⟩, ?_,st,rfl,rfl,rfl,λ_ _ _=>rfl⟩;by_cases hj:j=n;subst hj;simp only[aK,if_true,Option.some.injEq]at hx;subst hx;simp only[if_true];exact⟨a,0,rfl,by omega,by simp[maxLen],.inl rfl⟩;have hx':H j=some x:=by simpa[aK,hj]using hx
 simp only[hj,if_false];exact(hs.obj j x hx').step st (λ_ _ _=>rfl);by_cases hi:i=n;subst hi;simp only[if_true]at h5;rw[hb]at h5;cases h5;by_cases hj:j=n;subst hj;simp only[if_true]at h6;rw[hb]at h6;cases h6;simp only[aK,hi,hj,if_false]at h1 h2 h5 h6;exact hs.inj i j oi oj b h1 h2 h3 h4 h5 h6;unfold ae aH;exact⟨rfl,.vec c e,by simp[aK],λc' e' hc=>by simp⟩
theorem xD{z:Array Value}(h:∀u∈z.toList,u.oneCell'=true)(n:Nat):∀u∈(Builtin.zeroCells z n).toList,u.oneCell'=true:=by
 intro u hu;simp only[Builtin.zeroCells,Array.toList_map,Array.toList_range,mem_map,mem_range]at hu;obtain⟨m,hm,rfl⟩:=hu
 have hp:0<z.size:=by
  rcases Nat.eq_zero_or_pos z.size with h0|h0;rw[h0]at hm;omega;exact h0
 have a8:m%z.size<z.size:=Nat.mod_lt _ hp;rw[getElem!_pos z (m%z.size) a8];exact h _ (Array.mem_toList_iff.2 (Array.getElem_mem a8))
theorem aqR(hs:Sat ρ H G w){id n:Nat}{o:au}(ho:H id=some o)(ha:o.alive=true)(hn:H n=none){b f:Nat}(hb:eD (ρ id)=some b){c:aS}{e:TypeId}{cap:Nat}{cells:List Value}{fr:Nat×Nat}{old:Obj}
 (hold:w.heap[b]? =some old) (hu:yn fr cells) (h1:c.n<=cap) (h2:cap<=maxLen) (h3:f+cap*c.size<=cells.length) (us:Nat->Nat->Value)
 (hd:∀i j,i<c.n->j<c.size->cells[f+i*c.size+j]? =some (us i j)/\aX (aV ρ H G) w (c.cell i j) (us i j)):
 Good ρ H G w (aK (aK H id .aW) n (.vec c e)) (.vec n) (.slice (some ⟨b,f,none⟩) c.n cap) (World.cc w b (.cells cells.toArray e fr)):=by
 have ne:∀j x,H j=some x->j≠n:=λj x hx e=>by subst e;rw[hn]at hx;cases hx
 have aox:id≠n:=ne id o ho;have dD:Own ρ H b:=⟨id,o,ho,ha,hb⟩
 have uk:∀b',eD (.slice (some ⟨b,f,none⟩) c.n cap)=some b'->b'=b:=by
  intro b' ue;simp only[eD]at ue;split at ue;cases ue;simpa using ue.symm
 have pC:∀b',Own (λj=>if j=n then .slice (some ⟨b,f,none⟩) c.n cap else ρ j) (aK (aK H id .aW) n (.vec c e)) b'->Own ρ H b':=by
  rintro b' ⟨j,x,hx,g1,g2⟩;by_cases hj:j=n;subst hj;simp only[if_true]at g2;rw[uk b' g2];exact dD;by_cases hi:j=id;subst hi;simp only[aK,hj,if_false,if_true,Option.some.injEq]at hx;subst hx;simp[au.alive]at g1;simp only[aK,hj,hi,if_false]at hx g2;exact⟨j,x,hx,g1,g2⟩
 have st:Step ρ H (aV ρ H G) w (λj=>if j=n then .slice (some ⟨b,f,none⟩) c.n cap else ρ j) (aK (aK H id .aW) n (.vec c e)) (aV (λj=>if j=n then .slice (some ⟨b,f,none⟩) c.n cap else ρ j) (aK (aK H id .aW) n (.vec c e)) G) (World.cc w b (.cells cells.toArray e fr)):=by
  refine⟨λj x hx=>by simp[ne j x hx],λj x hx=> ?_,λb' ue=>.inl (ue.imp (pC b') _root_.id),λb' ue hO=>iE (λe=>hO (.inl (by subst e;exact dD))),by rw[iT];exact le_refl _⟩;by_cases hi:j=id;subst hi;exact⟨.aW,by simp[aK,aox],by simp⟩;exact⟨x,by simp[aK,ne j x hx,hi,hx],λc' e' hc=>⟨c',e',hc,rfl,rfl⟩⟩
 refine⟨_,⟨λj x hx=> ?_,λi j oi oj b' g1 g2 g3 g4 g5 g6=> ?_,λb' ue=>hs.apart b' (pC b' ue),λb' ue=>by rw[iT];exact hs.low b' ue⟩, ?_,st,rfl,rfl,rfl,λb' ue hO=>iE (λe=>hO (by subst e;exact dD))⟩;by_cases hj:j=n;subst hj;simp only[aK,if_true,Option.some.injEq]at hx;subst hx;simp only[if_true];refine⟨_,cap,rfl,h1,h2,.inr ⟨b,f,cells,fr,us,rfl,dM hold,hu,h3,λi j hi hj=> ?_⟩⟩;have⟨k1,k2⟩:=hd i j hi hj;exact⟨k1,k2.step st.ft st.heap st.size⟩;by_cases hi:j=id;subst hi;simp only[aK,hj,if_false,if_true,Option.some.injEq]at hx;subst hx;trivial;have hx':H j=some x:=by simpa[aK,hj,hi]using hx
 simp only[hj,if_false];refine(hs.obj j x hx').step st (λb' rY ue=>iE (λe=>hi ?_));subst e;exact hs.inj j id x o b' hx' ho rY ha ue hb
 have f':∀i oi,aK (aK H id .aW) n (.vec c e) i=some oi->oi.alive=true->i≠n->i≠id/\H i=some oi:=by
  intro i oi hi rY cG;by_cases ep:i=id;subst ep;simp only[aK,cG,if_false,if_true,Option.some.injEq]at hi;subst hi;simp[au.alive]at rY;exact⟨ep,by simpa[aK,cG,ep]using hi⟩
 by_cases hi:i=n<;>by_cases hj:j=n;rw[hi,hj];have⟨k1,k2⟩:=f' j oj g2 g4 hj;simp only[hi,hj,if_true,if_false]at g5 g6;have:=uk b' g5;subst this;exact absurd (hs.inj j id oj o b' k2 ho g4 ha g6 hb) k1;have⟨k1,k2⟩:=f' i oi g1 g3 hi;simp only[hi,hj,if_true,if_false]at g5 g6;have:=uk b' g6;subst this;exact absurd (hs.inj i id oi o b' k2 ho g3 ha g5 hb) k1;simp only[hi,hj,if_false]at g5 g6;exact hs.inj i j oi oj b' (f' i oi g1 g3 hi).2 (f' j oj g2 g4 hj).2 g3 g4 g5 g6;unfold ae aH;exact⟨rfl,.vec c e,by simp[aK],λc' e' hc=>by simp⟩
theorem gj{t t' ty e:TypeId}{i:TypeInfo}{a:Option Addr}{n cap m:Nat}{vy:Value}{bz:List Value}
 (ht:P.underlying t=some (.slice e)) (hi:P.info? e=some i) (hzero:(∃e',P.underlying t'=some (.slice e'))\/P.underlying t'=some .string)
 (bL:(Builtin.lenOf vy).run P w=.ok m w) (jS:(Builtin.firstCells i.size m vy).run P w=.ok bz.toArray w) (mV:n+m<=cap)
 (q7:∀x,a=some x->(storeCells (x.add (n*i.size)) bz 0).run P w=.ok () w') (uw:a=none->w'=w):
 (Builtin.append_ #[t,t'] ty #[.slice a n cap,vy]).run P w=.ok (.slice a (n+m) cap) w':=by
 rcases hzero with⟨e',hd⟩|hd<;>cases a with
 |none=>
  rw[uw rfl];simp[Builtin.append_,run_underlying ht,run_underlying hd,sizeOf,typeInfo,hi,bL,mV,jS]
 |some x=>
  have:=q7 x rfl;simp[Builtin.append_,run_underlying ht,run_underlying hd,sizeOf,typeInfo,hi,bL,mV,jS,this]
theorem mW{t t' ty e:TypeId}{i:TypeInfo}{z:Value}{a:Option Addr}{n cap m:Nat}{vy:Value}{olds bz:List Value}
 (ht:P.underlying t=some (.slice e)) (hi:P.info? e=some i) (hz:i.zero=some z) (hzero:(∃e',P.underlying t'=some (.slice e'))\/P.underlying t'=some .string)
 (bL:(Builtin.lenOf vy).run P w=.ok m w) (hold:(Builtin.firstCells i.size n (.slice a n cap)).run P w.drew=.ok olds.toArray w.drew) (jS:(Builtin.firstCells i.size m vy).run P w.drew=.ok bz.toArray w.drew) (mV:¬n+m<=cap)
 (hsm:(n+m)*i.bytes<=140737488355328) (hb1:1<=i.bytes):
 ∃mY,n+m<=mY/\mY<=maxLen/\(Builtin.append_ #[t,t'] ty #[.slice a n cap,vy]).run P w=
  .ok (.slice (some ⟨w.heap.size,0,none⟩) (n+m) mY) (w.drew.alloc (.cells (olds++bz++(Builtin.zeroCells z.cells (mY - (n+m))).toList).toArray e)):=by
 have hnm:n+m<=140737488355328:=le_trans (by have:=Nat.mul_le_mul_left (n+m) hb1;omega) hsm;refine⟨grownCap w (n+m) cap e,grownCap_ge w _ _ _,grownCap_le_maxLen w _ _ _ (by simp only[maxLen];omega), ?_⟩
 have aas:¬(281474976710656<Builtin.nextslicecap (n+m) cap*i.bytes):=by
  have h1:=ru (aa:=n+m) (old:=cap) (by omega);have h2:Builtin.nextslicecap (n+m) cap*i.bytes<=(2*(n+m))*i.bytes:=Nat.mul_le_mul_right _ h1;rw[Nat.mul_assoc]at h2;omega
 have ah4:¬(9223372036854775807<(n:Int)+(m:Int)):=by omega
 have alM:∀X:Array Value,olds.toArray++(bz.toArray++X)=(olds++(bz++X.toList)).toArray:=λX=>by
  apply toList_inj.1;simp
 have hq:¬((Question.appendCap (n+m) cap e).forced=true):=by simp[Question.forced]
 rcases hzero with⟨e',hd⟩|hd;simp[Builtin.append_,run_underlying ht,run_underlying hd,sizeOf,typeInfo,hi,bL,mV,ah4,aas,hold,jS,zeroValue,hz,newRow];rw[if_neg hq,alM];rfl;simp[Builtin.append_,run_underlying ht,run_underlying hd,sizeOf,typeInfo,hi,bL,mV,ah4,aas,hold,jS,zeroValue,hz,newRow];rw[if_neg hq,alM];rfl
theorem alN(hs:Sat ρ H G w){id:Nat}{c:aS}{e:TypeId}(ho:H id=some (.vec c e)):oV (aV ρ H G) w c (ρ id):=by
 have⟨a,cap,h1,h2,h3,h4⟩:=hs.obj id _ ho;rcases h4 with rfl|⟨b,o,cells,fr,us,rfl,h5,h6,h7,h8⟩;exact⟨a,0,λ_ _=>undef,h1,h2,h3,λh0=>by omega⟩;refine⟨_,cap,us,h1,h2,h3,λ_=>⟨b,o,rfl,(Array.getElem?_eq_some_iff.1 h5).1,λi j hi hj=> ?_⟩⟩;have⟨h9,iz⟩:=h8 i j hi hj;exact⟨by rw[cX h5];exact h9,iz⟩
theorem ah5{sh:Shape}{size:Nat}{x:AV}{k:aS->Option Nat->RM bK}{v:Value}{q:bK}(h:(xr sh size x k).eval H=some q)(hs:Sat ρ H G w)(hd:ae ρ H (aV ρ H G) w x v)(h1:1<=size):
 ∃c idy,(k c idy).eval H=some q/\(c.size=size->∃bz,Src P (aV ρ H G) w size c v bz):=by
 unfold xr at h;split at h;rename_i s;obtain rfl:=gr hd;refine⟨_,_,h,λcn=> ?_⟩;simp only[aS.size]at cn;subst cn;exact alL;have⟨c,idy,h2,h3⟩:=ui h hs hd;exact⟨c,idy,h2,λcn=>s9 h3 cn h1⟩
theorem rC{c d:aS}{size:Nat}{olds bz rest:List Value}(hc:c.size=size)(hdz:d.size=size)(_h1:1<=size)(ho:olds.length=c.n*size)(_hn:bz.length=d.n*size)
 (h2:∀i j,i<c.n->j<size->∃u,olds[i*size+j]? =some u/\aX O w (c.cell i j) u) (h3:∀i j,i<d.n->j<size->∃u,bz[i*size+j]? =some u/\aX O w (d.cell i j) u) (pre:List Value):
 ∀i j,i<(dh c d).n->j<(dh c d).size->(pre++(olds++bz++rest))[pre.length+i*(dh c d).size+j]? =some ((pre++(olds++bz++rest)).getD (pre.length+i*(dh c d).size+j) undef)/\
  aX O w ((dh c d).cell i j) ((pre++(olds++bz++rest)).getD (pre.length+i*(dh c d).size+j) undef):=by
 intro i j hi hj;have cn:(dh c d).size=size:=by rw[mU c d (by omega),hc]
 rw[uu]at hi;rw[cn]at hj ⊢
 have key:∃u,(pre++(olds++bz++rest))[pre.length+i*size+j]? =some u/\aX O w ((dh c d).cell i j) u:=by
  rw[add_assoc,List.getElem?_append_right (by omega),Nat.add_sub_cancel_left,append_assoc];by_cases a8:i<c.n;have⟨u,g1,g2⟩:=h2 i j a8 hj;refine⟨u, ?_,by rw[yz c d j a8];exact g2⟩;rw[getElem?_append_left (List.getElem?_eq_some_iff.1 g1).1];exact g1;have⟨u,g1,g2⟩:=h3 (i - c.n) j (by omega) hj;refine⟨u, ?_,by rw[yA c d j a8];exact g2⟩;have hm:c.n*size+(i - c.n)*size=i*size:=by rw[<-add_mul];congr 1;omega
  rw[List.getElem?_append_right (by omega)];rw[show i*size+j - olds.length=(i - c.n)*size+j from by omega];rw[getElem?_append_left (List.getElem?_eq_some_iff.1 g1).1];exact g1
 have⟨u,g1,g2⟩:=key;have a8:=(List.getElem?_eq_some_iff.1 g1).1;have g1':=g1;rw[gZ _ _ undef a8]at g1';simp only[Option.some.injEq]at g1';exact⟨gZ _ _ _ a8,by rw[g1'];exact g2⟩
theorem acw{t t' ty:TypeId}{x y:AV}{vx vy:Value}{q:bK}(h:(yi P t x y).eval H=some q)(hn:bd q.aa)(hs:Sat ρ H G w)
 (hx:ae ρ H (aV ρ H G) w x vx) (hy:ae ρ H (aV ρ H G) w y vy) (hzero:(∃e',P.underlying t'=some (.slice e'))\/P.underlying t'=some .string) {base:Nat} (hb:∀i,i<q.new.length->H (base+i)=none):
 ∃v w',(Builtin.append_ #[t,t'] ty #[vx,vy]).run P w=.ok v w'/\Good ρ H G w (cL H q.up base q.new) (q.r base) v w':=by
 unfold yi at h;split at h;rename_i e ht;split at h;rename_i i hi;simp only[]at h;rw[Bool.cond_eq_ite]at h;split at h;rename_i hc;simp only[and_eq_true]at hc;have⟨⟨⟨c1,cb⟩,c2⟩,c3⟩:=hc;have c1:=le_of_ble_eq_true c1;have cb:=le_of_ble_eq_true cb
 obtain⟨z,hz,hzs,hz1⟩:∃z,i.zero=some z/\z.cells.size=i.size/\∀u∈z.cells.toList,u.oneCell'=true:=by
  cases hz:i.zero with
  |none=>simp[hz]at c3|some z=>
   simp only[hz,Option.any_some,and_eq_true,beq_iff_eq,all_eq_true]at c3;exact⟨z,rfl,c3.1,c3.2⟩
 have⟨d,idy,h1,od⟩:=ah5 (P:=P) h hs hy c1;rw[Bool.cond_eq_ite]at h1;split at h1;rename_i hds;have hds:d.size=i.size:=by simpa using hds
 have⟨bz,src⟩:=od hds;split at h1;simp only[RM.eval,Option.some.injEq]at h1;subst h1;have jl:H base=none:=by simpa using hb 0 (by simp)
 have hsm:d.n*i.bytes<=140737488355328:=hn.1;unfold ae at hx;obtain⟨a,rfl⟩:=hx;simp only[iV];by_cases hm:d.n=0;have jm:bz=[]:=List.eq_nil_of_length_eq_zero (by rw[src.length,hm];simp);refine⟨.slice a (0+d.n) 0,w,gj ht hi hzero src.len (src.first w rfl) (by omega) (λx _=>by rw[jm];rfl) (λ_=>rfl), ?_⟩;rw[zero_add];exact rB hs jl hm a;have⟨mY,g1,g2,g3⟩:=mW (ty:=ty) (olds:=[]) (a:=a) (n:=0) (cap:=0) ht hi hz hzero src.len (by cases a<;>simp[Builtin.firstCells,loadCells,loadCellsFrom]) (src.first w.drew rfl) (by omega) (by rw[zero_add];exact hsm) cb;refine⟨_,_,g3, ?_⟩;rw[zero_add]at *;simp only[List.nil_append];refine lr (w1:=w.drew) hs rfl rfl rfl rfl jl g1 g2 ?_ (λi' j'=>(bz++(Builtin.zeroCells z.cells (mY - d.n)).toList).getD (i'*d.size+j') undef) (λi' j' ep js=> ?_) (λu hu=>(mem_append.1 hu).elim (src.one u) (xD hz1 _ u));simp only[length_append,src.length,length_toList,size_zeroCells,hzs,hds];rw[<-add_mul];exact Nat.mul_le_mul_right _ (by omega);have⟨u,k1,k2⟩:=src.den i' j' ep (by omega);rw[<-hds]at k1;have a8:=(List.getElem?_eq_some_iff.1 k1).1;have k3:(bz++(Builtin.zeroCells z.cells (mY - d.n)).toList)[i'*d.size+j']? =some u:=by rw[getElem?_append_left a8];exact k1
 have k4:=k3;rw[gZ _ _ undef (List.getElem?_eq_some_iff.1 k3).1]at k4;simp only[Option.some.injEq]at k4;rw[k4];exact⟨k3,k2⟩;rename_i idx;simp only[RM.eval]at h1;split at h1;rename_i c e' ho;rw[Bool.cond_eq_ite]at h1;split at h1;rename_i hc;simp only[and_eq_true,beq_eq]at hc;obtain⟨⟨oY,rfl⟩,_⟩:=hc;simp only[RM.eval,Option.some.injEq]at h1;subst h1;have jl:H base=none:=by simpa using hb 0 (by simp)
 have hsm:(c.n+d.n)*i.bytes<=140737488355328:=hn.1;have aau:idx≠base:=λe=>by rw[<-e,ho]at jl;cases jl
 unfold ae aH at hx;have⟨_,o,c5,hv⟩:=hx;rw[ho]at c5;cases c5;obtain rfl:=hv c e' rfl;have⟨olds,ux⟩:=s9 (P:=P) (alN hs ho) oY c1;have⟨a,cap,r1,r2,r3,r4⟩:=hs.obj idx _ ho;have hcd:d.size=c.size:=by omega
 have alO:=mU c d hcd;have han:=uu c d;have hmul:(c.n+d.n)*i.size=c.n*i.size+d.n*i.size:=add_mul _ _ _;simp only[afg _ _ _ _ aau];by_cases mV:c.n+d.n<=cap;rcases r4 with rfl|⟨b,o,cells,fr,us,rfl,q1,q2,q3,q4⟩
 have hd0:d.n=0:=by omega
 have jm:bz=[]:=List.eq_nil_of_length_eq_zero (by rw[src.length,hd0];simp);refine⟨.slice a (c.n+d.n) 0,w,by rw[r1];exact gj ht hi hzero src.len (src.first w rfl) mV (λx _=>by rw[jm];rfl) (λ_=>rfl), ?_⟩;have st:=jJ (ρ:=ρ) (G:=G) (w:=w) ho;refine Good.after st (λb hb=>g9 hb) ?_;rw[<-han];exact rB (hs.kill ho) (by simp[aK,Ne.symm aau,jl]) (by omega) a;by_cases ug:cap=0;subst ug;have hd0:d.n=0:=by omega
 have jm:bz=[]:=List.eq_nil_of_length_eq_zero (by rw[src.length,hd0];simp);refine⟨.slice (some ⟨b,o,none⟩) (c.n+d.n) 0,w,by rw[r1];exact gj ht hi hzero src.len (src.first w rfl) mV (λx _=>by rw[jm];rfl) (λ_=>rfl), ?_⟩;have st:=jJ (ρ:=ρ) (G:=G) (w:=w) ho;refine Good.after st (λb hb=>g9 hb) ?_;rw[<-han];exact rB (hs.kill ho) (by simp[aK,Ne.symm aau,jl]) (by omega) _;have ko:eD (ρ idx)=some b:=by rw[r1];simp[eD,ug]
 have au9:(c.n+d.n)*i.size<=cap*i.size:=Nat.mul_le_mul_right _ mV;have bL:o+c.n*i.size+bz.length<=cells.length:=by rw[src.length];rw[oY]at q3;omega
 refine⟨.slice (some ⟨b,o,none⟩) (c.n+d.n) cap,World.cc w b (.cells (cells.take (o+c.n*i.size)++bz++cells.drop (o+c.n*i.size+bz.length)).toArray e' fr), ?_, ?_⟩;rw[r1];refine gj ht hi hzero src.len (src.first w rfl) mV (λx hx=> ?_) (λhx=>by cases hx);cases hx;rw[a7];have:=bY (P:=P) (o+c.n*i.size) bz 0 q1 q2.ow (by omega) src.one;simpa using this;rw[<-han]
 have pn:(cells.take (o+c.n*i.size)++bz++cells.drop (o+c.n*i.size+bz.length)).length=cells.length:=by
  simp only[length_append,length_take,length_drop];omega
 have aoy:cells.take (o+c.n*i.size)++bz++cells.drop (o+c.n*i.size+bz.length)=cells.take o++((cells.drop o).take (c.n*i.size)++bz++cells.drop (o+c.n*i.size+bz.length)):=by
  rw[List.take_add];simp only[append_assoc]
 have hto:(cells.take o).length=o:=by simp;omega
 refine aqR hs ho rfl jl ko q1 (q2.over src.one bL) (by omega) r3 (by rw[pn,alO];exact q3) (λi' j'=>(cells.take o++((cells.drop o).take (c.n*i.size)++bz++cells.drop (o+c.n*i.size+bz.length))).getD ((cells.take o).length+i'*(dh c d).size+j') undef) (λi' j' ep js=> ?_)
 have:=rC (O:=aV ρ H G) (w:=w) (c:=c) (d:=d) (size:=i.size) (olds:=(cells.drop o).take (c.n*i.size)) (bz:=bz) (rest:=cells.drop (o+c.n*i.size+bz.length)) oY hds c1 (by simp;omega) src.length (λi2 j2 xd hj2=>by
  have⟨k1,k2⟩:=q4 i2 j2 xd (by omega);refine⟨_, ?_,k2⟩
  have hb2:i2*i.size+j2<c.n*i.size:=by
   have:(i2+1)*i.size<=c.n*i.size:=Nat.mul_le_mul_right _ (by omega);rw[Nat.succ_mul]at this;omega
  rw[getElem?_take,if_pos hb2,List.getElem?_drop,<-add_assoc];rw[oY]at k1;exact k1) src.den (cells.take o) i' j' ep js
 rw[aoy];rw[hto]at this ⊢;exact this;have⟨mY,g1,g2,g3⟩:=mW (ty:=ty) (olds:=olds) (a:=a) (n:=c.n) (cap:=cap) ht hi hz hzero src.len (by rw[<-r1];exact ux.first w.drew rfl) (src.first w.drew rfl) mV hsm cb;refine⟨_,_,by rw[r1];exact g3, ?_⟩;have st:=jJ (ρ:=ρ) (G:=G) (w:=w) ho;refine Good.after st (λb hb=>g9 hb) ?_;rw[<-han];refine lr (w1:=w.drew) (hs.kill ho) rfl rfl rfl rfl (by simp[aK,Ne.symm aau,jl]) (by omega) g2 ?_ (λi' j'=>(olds++bz++(Builtin.zeroCells z.cells (mY - (dh c d).n)).toList).getD (i'*(dh c d).size+j') undef) (λi' j' ep js=> ?_) (λu hu=>(mem_append.1 hu).elim (λhu=>(mem_append.1 hu).elim (ux.one u) (src.one u)) (xD hz1 _ u));simp only[length_append,src.length,ux.length,length_toList,size_zeroCells,hzs,alO,oY,han];rw[<-add_mul,<-add_mul];exact Nat.mul_le_mul_right _ (by omega);have:=rC (O:=aV ρ H G) (w:=w) (c:=c) (d:=d) (size:=i.size) (olds:=olds) (bz:=bz) (rest:=(Builtin.zeroCells z.cells (mY - (dh c d).n)).toList) oY hds c1 ux.length src.length ux.den src.den [] i' j' ep js;simp only[List.nil_append,length_nil,zero_add]at this;exact⟨this.1,this.2.step st.ft st.heap st.size⟩;cases h1;cases h1;rename_i idx lo n;simp only[RM.eval]at h1;split at h1;rename_i c e' ho;rw[Bool.cond_eq_ite]at h1;split at h1;rename_i oY;have oY:c.size=i.size:=by simpa using oY
 simp only[RM.eval,Option.some.injEq]at h1;subst h1;have mV:lo+n+d.n<=c.n:=hn.1;obtain⟨g0,a,cap,a',g1,g2,g3,rfl,g4,g5⟩:=iU hs ho hx;have⟨w',k1,k2,k3⟩:=pH (P:=P) hs ho (lo:=lo+n) (k:=d.n) (d:=d) mV (le_refl _) (by omega) (bz:=bz) (by rw[src.length,oY]) src.one (λi' j' ep js=>by rw[oY]at *;exact src.den i' j' ep js);have⟨z1,z2,_⟩:=se c d mV (le_refl _);refine⟨.slice a' (n+d.n) (cap - lo),w',gj ht hi hzero src.len (src.first w rfl) (by omega) (λx hx=> ?_) (λhx=> ?_), ?_⟩;refine k1 a cap _ g1 ?_;by_cases h0:d.n=0;exact .inl h0;refine .inr ?_;have cG:cap≠lo:=by omega
 rw[g4 cG]at hx;obtain⟨b,o,rfl⟩:=g5 (by omega);simp only[map_some,a7,Option.some.injEq]at hx ⊢;subst hx;rw[a7,oY,add_mul,add_assoc];refine k2 ?_;by_cases cG:cap=lo;omega;rw[g4 cG]at hx;obtain⟨b,o,rfl⟩:=g5 (by omega);cases hx;simp only[fT];refine k3 _ _ (λw2=> ?_);unfold ae aH;refine⟨rfl,.vec (dq c (lo+n) d.n d) e',by simp[aK],λc1 e1 hc=> ?_⟩;cases hc;exact⟨by rw[z1];omega,a,cap,a',by rw[z1];exact g1,by omega,rfl,by rw[z2];exact g4⟩;cases h1;cases h1;cases h1;cases h1;cases h;cases h;cases h
end
section
variable{P:Program}{w:World}{b:Nat}{es:Array MapEntry}{clock:Nat}{ck:CK}{m:List (Int×ck.V)}
theorem iQ.get(h:iQ ck m es.toList clock){j:Nat}{e:MapEntry}(hj:es.toList[j]? =some e):∃k v,m[j]? =some (k,v)/\e.key=.int .i64 k/\e.val=ck.val v:=by
 have h1:=congrArg (λl=>l[j]?) h.eq;simp only[getElem?_map,hj,map_some]at h1;cases hm:m[j]? with
 |none=>rw[hm]at h1;cases h1
 |some p=>
  rw[hm]at h1;simp only[map_some,Option.some.injEq,Prod.mk.injEq]at h1;exact⟨p.1,p.2,rfl,h1.1,h1.2⟩
theorem iQ.key(h:iQ ck m es.toList clock):∀e∈es.toList,MapKept.IsKey (.int .i64) e.key:=by
 intro e he;have⟨j,hj⟩:=List.getElem?_of_mem he;have⟨k,v,_,h2,_⟩:=h.get hj;rw[h2];rfl
theorem uy{V:Type}:∀{m:List (Int×V)} {j:Nat} {k:Int} {v:V},(m.map (·.1)).Nodup->m[j]? =some (k,v)->m.find? (λp=>p.1==k)=some (k,v)
 |[],j,k,v,_,h=>by simp at h
 |p::m,0,k,v,hn,h=>by
  simp only[List.getElem?_cons_zero,Option.some.injEq]at h;subst h;simp
 |p::m,j+1,k,v,hn,h=>by
  simp only[List.getElem?_cons_succ]at h;simp only[map_cons,List.nodup_cons]at hn
  have cG:(p.1==k)=false:=by
   rw[beq_eq_false_iff_ne];rintro rfl;exact hn.1 (mem_map.2 ⟨_,List.mem_of_getElem? h,rfl⟩)
  rw[List.find?_cons,cG];exact uy hn.2 h
theorem afs{V:Type}{m:List (Int×V)}{k:Int}(h:∀p∈m,p.1≠k):m.find? (λp=>p.1==k)=none:=
 List.find?_eq_none.2 λp hp=>by simpa using h p hp
theorem iQ.find(h:iQ ck m es.toList clock){kt:TypeId}(hk:P.underlying kt=some (.int .i64))(n:Int):
 ((Instr.findKey kt (.int .i64 n) es.toList).run P w=.ok none w/\iP m n=none/\mB m n=false)\/
 ∃j e v,(Instr.findKey kt (.int .i64 n) es.toList).run P w=.ok (some (j,ck.val v)) w/\es.toList[j]? =some e/\e.key=.int .i64 n/\e.val=ck.val v/\m[j]? =some (n,v)/\iP m n=some v/\mB m n=true:=by
 rcases MapKept.findNow_spec (d:=.int .i64) (k:=.int .i64 n) rfl es.toList 0 h.key with⟨h1,h2⟩|⟨j,e,h1,h2,h3⟩
 have uw:∀p∈m,p.1≠n:=by
  intro p hp e;have⟨j,hj⟩:=List.getElem?_of_mem hp;have bL:es.toList.length=m.length:=by have:=congrArg List.length h.eq;simpa using this
  have a8:j<es.toList.length:=by rw[bL];exact(List.getElem?_eq_some_iff.1 hj).1
  have⟨k,v,g1,g2,_⟩:=h.get (getElem?_eq_getElem a8);rw[hj]at g1;cases g1;exact h2 _ (getElem_mem a8) (by rw[g2];exact congrArg _ e)
 refine .inl ⟨MapKept.run_findKey hk h1,by simp[iP,afs uw], ?_⟩;simp only[mB,List.any_eq_false,beq_iff_eq];exact uw;have⟨k,v,g1,g2,g3⟩:=h.get h2;rw[h3]at g2;cases g2;rw[zero_add]at h1;refine .inr ⟨j,e,v,by rw[<-g3];exact MapKept.run_findKey hk h1,h2,h3,g3,g1,by simp[iP,uy h.keys g1], ?_⟩;simp only[mB,List.any_eq_true,beq_iff_eq];exact⟨_,List.mem_of_getElem? g1,rfl⟩
theorem acx(h:iQ ck m es.toList clock)(hb:w.heap[b]? =some (.map es clock)){t kt et:TypeId}(ht:P.underlying t=some (.map kt et))(hk:P.underlying kt=some (.int .i64)){z:Value}(hz:(zeroValue et).run P w=.ok z w)(n:Int)(ok:Bool):
 (Instr.lookup t (.map (some b)) (.int .i64 n) ok).run P w=.ok (if ok=true then .tuple #[((iP m n).map ck.val).getD z,.bool (mB m n)]else((iP m n).map ck.val).getD z) w:=by
 have hc:=MapKept.run_checkKey (w:=w) hk (k:=.int .i64 n) rfl es.isEmpty 9999;rcases h.find (w:=w) hk n with⟨h1,h2,h3⟩|⟨j,e,v,h1,_,_,_,_,h2,h3⟩;simp[Instr.lookup,run_underlying ht,MapKept.run_getObj_map hb,hc,h1,h2,h3,hz,Result.andThen];simp[Instr.lookup,run_underlying ht,MapKept.run_getObj_map hb,hc,h1,h2,h3,Result.andThen]
theorem stays(n:Int):(Instr.keyThatStays (.int .i64 n) (.int .i64 n)).run P w=.ok (.int .i64 n) w:=by
 simp[Instr.keyThatStays,Instr.sameBits]
theorem yB(m:List (Int×ck.V))(k:Int)(v:ck.V):((m.map λp=>if p.1==k then(k,v)else p).map (·.1))=m.map (·.1):=by
 rw[List.map_map];refine List.map_congr_left λp _=> ?_;simp only[Function.comp];by_cases h:p.1==k;rw[if_pos h];exact(beq_iff_eq.1 h).symm;rw[if_neg h]
theorem iQ.put(h:iQ ck m es.toList clock){n:Int}{v:ck.V}(hv:ck.fits v):
 (mB m n=false->iQ ck (oc m n v) (es.push {key:=.int .i64 n,val:=ck.val v,born:=clock}).toList (clock+1))/\
 ∀(j:Nat) (e:MapEntry),es.toList[j]? =some e->e.key=.int .i64 n->mB m n=true->
  iQ ck (oc m n v) (es.modify j λe=>{e with key:=.int .i64 n,val:=ck.val v}).toList clock:=by
 constructor;intro uw;have atB:∀p∈m,p.1≠n:=by simpa[mB]using uw
 unfold oc;rw[if_neg (by rw[uw];simp)];refine⟨?_, ?_, ?_, ?_, ?_⟩;simp only[Array.toList_push,map_append,h.eq,map_cons,List.map_nil];rw[map_append,nodup_append];refine⟨h.keys,by simp,λa ha b hb=> ?_⟩;simp only[map_cons,List.map_nil,List.mem_singleton]at hb;obtain⟨p,hp,rfl⟩:=mem_map.1 ha;rw[hb];exact atB p hp;rw[Array.toList_push,map_append,nodup_append];refine⟨h.xv,by simp,λa ha b hb=> ?_⟩;simp only[map_cons,List.map_nil,List.mem_singleton]at hb;obtain⟨e,he,rfl⟩:=mem_map.1 ha;have:=h.old e he;omega;intro e he;rw[Array.toList_push,mem_append]at he;rcases he with he|he;have:=h.old e he;omega;rw[List.mem_singleton.1 he];exact Nat.lt_succ_self _;intro p hp;rcases mem_append.1 hp with hp|hp;exact h.fits p hp;rw[List.mem_singleton.1 hp];exact hv;intro j e hj he ah6;have⟨k,u,g1,g2,g3⟩:=h.get hj;rw[he]at g2;cases g2;have a8:j<es.toList.length:=(List.getElem?_eq_some_iff.1 hj).1;unfold oc;rw[if_pos ah6]
 have atC:(es.modify j λe=>{e with key:=.int .i64 n,val:=ck.val v}).toList=es.toList.set j {e with key:=.int .i64 n,val:=ck.val v}:=by
  refine List.ext_getElem? λi=> ?_;simp only[Array.toList_modify,List.getElem?_modify,List.getElem?_set];by_cases kT:j=i;subst kT;have aov:j<es.size:=by simpa using a8
  rw[hj];simp[aov];simp[kT]
 rw[atC]
 have mQ:(m.map λp=>if p.1==n then(n,v)else p)=m.set j (n,v):=by
  refine List.ext_getElem? λi=> ?_;rw[getElem?_map,List.getElem?_set];by_cases kT:j=i;subst kT;have alP:j<m.length:=(List.getElem?_eq_some_iff.1 g1).1;rw[g1];simp[alP];rw[if_neg kT];cases hm:m[i]? with
  |none=>rfl|some p=>
   have cG:(p.1==n)=false:=by
    rw[beq_eq_false_iff_ne];intro e1;have⟨wY,xd⟩:=List.getElem?_eq_some_iff.1 hm;have⟨hj1,hj2⟩:=List.getElem?_eq_some_iff.1 g1;refine kT ((List.getElem_inj (h₀:=by simpa using hj1) (h₁:=by simpa using wY) h.keys).1 ?_);simp only[List.getElem_map,xd,hj2,e1]
   rw[map_some,cG];rfl
 refine⟨?_,by rw[yB];exact h.keys, ?_, ?_, ?_⟩;rw[mQ,List.map_set,List.map_set,h.eq];rw[List.map_set]
 have:(es.toList.map (·.born)).set j e.born=es.toList.map (·.born):=by
  refine List.ext_getElem? λi=> ?_;rw[List.getElem?_set];by_cases kT:j=i;subst kT;rw[if_pos rfl,if_pos (by simpa using a8),getElem?_map,hj];rfl;rw[if_neg kT]
 rw[this];exact h.xv;intro x hx;rcases List.mem_or_eq_of_mem_set hx with hx|rfl;exact h.old x hx;exact h.old e (List.mem_of_getElem? hj);intro p hp;obtain⟨q,hq,rfl⟩:=mem_map.1 hp;split;exact hv;exact h.fits q hq
theorem xe(h:iQ ck m es.toList clock)(hb:w.heap[b]? =some (.map es clock)){t kt et:TypeId}(ht:P.underlying t=some (.map kt et))(hk:P.underlying kt=some (.int .i64))(n:Int){v:ck.V}(hv:ck.fits v):
 ∃es' uz,(Instr.mapUpdate t (.map (some b)) (.int .i64 n) (ck.val v)).run P w=.ok () {w with heap:=w.heap.setIfInBounds b (.map es' uz)}/\iQ ck (oc m n v) es'.toList uz:=by
 have hc:=MapKept.run_checkKey (w:=w) hk (k:=.int .i64 n) rfl false 9999;rcases h.find (w:=w) hk n with⟨h1,h2,h3⟩|⟨j,e,u,h1,g1,g2,g3,g4,h2,h3⟩;exact⟨_,_,by simp[Instr.mapUpdate,run_underlying ht,MapKept.run_getObj_map hb,hc,h1,Result.andThen,MapKept.run_setObj_map _ hb],(h.put hv).1 h3⟩
 have atD:((es[j]?).map (·.key)).getD (.int .i64 n)=.int .i64 n:=by
  rw[show es[j]? =some e from by rw[<-Array.getElem?_toList];exact g1];exact g2
 refine⟨_,_, ?_,(h.put hv).2 j e g1 g2 h3⟩;simp[Instr.mapUpdate,run_underlying ht,MapKept.run_getObj_map hb,hc,h1,Result.andThen,MapKept.run_setObj_map _ hb,atD,stays]
end
section
variable{ρ aO:Nat->Value}{H H':aJ}{G O O':Nat->Prop}{w w':World}{P:Program}
theorem aav{t:TypeId}(h:adI P t=true):P.underlying t=some (.int .i64):=by
 unfold adI at h;split at h;assumption;cases h
theorem aft{t:TypeId}{ck:CK}(h:tX P t ck=true):(zeroValue t).run P w=.ok (ck.val ck.d) w/\ck.fits ck.d:=by
 have key:∀v,(P.info? t).bind (·.zero)=some v->(zeroValue t).run P w=.ok v w:=by
  intro v hv;have⟨i,h1,h2⟩:=bind_eq_some_iff.1 hv;simp[zeroValue,typeInfo,h1,h2]
 unfold tX at h;rw[and_eq_true]at h
 replace h:=h.2
 split at h;rename_i k' k hz;obtain rfl:=bf h;exact⟨key _ hz,trivial⟩;rename_i hz;exact⟨key _ hz,trivial⟩;rename_i s hz
 have:s=empty:=by
  have:=Nat.eq_of_beq_eq_true h;have⟨⟨l⟩⟩:=s;cases l with
  |nil=>rfl|cons a l=>simp[ByteArray.size]at this
 subst this;exact⟨key _ hz,trivial⟩;rename_i cs k n hz;simp only[and_eq_true]at h;have h1:=mS k _ h.1;have h2:=Nat.eq_of_beq_eq_true h.2;refine⟨?_,by show(replicate n (0:Int)).length=n;simp⟩;rw[key _ hz];congr 1;show Value.agg cs=.agg ((replicate n (0:Int)).map (Value.int k)).toArray;rw[<-h2,<-h1];cases h
theorem acy{ck:CK}{v:ck.V}(h:ck.fits v)(hp:ck.av v≠.s .aF):ae ρ H O w (ck.av v) (ck.val v):=by
 cases ck with
 |int k=>exact aC (.int _ _)|bool=>exact aC (.bool _)|str=>exact aC (.str _)|arr k n=>
  show ae ρ H O w (.ay k n v) _;unfold ae;exact⟨h,rfl⟩
 |_=>exact(hp rfl).elim
theorem pI{t:TypeId}{ck:CK}(h:tX P t ck=true)(v:ck.V):ck.av v≠.s .aF:=by
 unfold tX at h;rw[and_eq_true]at h
 replace h:=h.1
 cases ck<;>first
  |(cases h;done)
  |(intro e;cases e;done)
theorem yC(hs:Sat ρ H G w){id b:Nat}{ck:CK}{m:List (Int×ck.V)}(ho:H id=some (.map ck m))(hb:ρ id=.map (some b)):∃es clock,w.heap[b]? =some (.map es clock)/\iQ ck m es.toList clock:=by
 have⟨b',es,clock,h1,h2,h3⟩:=hs.obj id _ ho;rw[hb]at h1;cases h1;exact⟨es,clock,h2,h3⟩
theorem afu{ck:CK}{m:List (Int×ck.V)}(h:∀p∈m,ck.fits p.2){n:Int}{v:ck.V}(hv:iP m n=some v):ck.fits v:=by
 simp only[iP,map_eq_some_iff]at hv;obtain⟨p,hp,rfl⟩:=hv;exact h p (List.mem_of_find?_eq_some hp)
theorem acz{t:TypeId}{x i:AV}{ok:Bool}{vx vi:Value}{q:bK}(h:(yj P t x i ok).eval H=some q)(hn:bd q.aa)(hs:Sat ρ H G w)(hx:ae ρ H (aV ρ H G) w x vx)(hi:ae ρ H (aV ρ H G) w i vi):
 eR P ρ H (aV ρ H G) w q (Instr.lookup t vx vi ok):=by
 unfold yj at h;split at h;rename_i kt et id k lit n ht mN;rw[Bool.cond_eq_ite]at h;split at h;rename_i hk;simp only[and_eq_true]at hk;obtain rfl:=mI hk.2;obtain rfl:=cp mN hi;simp only[RM.eval]at h;split at h;rename_i ck m ho;rw[Bool.cond_eq_ite]at h;split at h;rename_i hz;unfold ae aH at hx;obtain⟨b,hb,rfl,_⟩:=hx;have⟨es,clock,h1,h2⟩:=yC hs ho hb;have⟨hz1,hz2⟩:=aft (w:=w) hz;have eG:=acx h2 h1 ht (aav hk.1) hz1 n ok
 have iF:ae ρ H (aV ρ H G) w (ck.av ((iP m n).getD ck.d)) (((iP m n).map ck.val).getD (ck.val ck.d)):=by
  cases hg:iP m n with
  |none=>exact acy hz2 (pI hz _)|some v=>exact acy (afu h2.fits hg) (pI hz _)
 refine aE h (λ_=>⟨_,eG, ?_⟩) hn;cases ok;exact iF;simp only[cond_true,if_true];unfold ae;exact⟨[_,_],rfl,aG.2 ⟨_,_,rfl,iF,aG.2 ⟨_,_,rfl,aC (.bool _),bc.2 rfl⟩⟩⟩;cases h;cases h;cases h;cases h
theorem aoz{ck:CK}{a:AV}{y:ck.V}{v:Value}(h:ck.rdv a=some y)(hd:ae ρ H O w a v):v=ck.val y/\ck.fits y:=by
 cases ck with
 |int k=>
  simp only[CK.rdv]at h;split at h;rw[Bool.cond_eq_ite]at h;split at h;rename_i hk;obtain rfl:=bf hk;cases h;have:=aw (by simp) hd;cases this;exact⟨rfl,trivial⟩;cases h;rw[Bool.cond_eq_ite]at h;split at h;rename_i hk;obtain rfl:=bf hk;cases h;have:=aw (by simp) hd;cases this;exact⟨rfl,trivial⟩;cases h;cases h
 |bool=>
  simp only[CK.rdv]at h;split at h;cases h;have:=aw (by simp) hd;cases this;exact⟨rfl,trivial⟩;cases h;have:=aw (by simp) hd;cases this;exact⟨rfl,trivial⟩;cases h
 |str=>
  simp only[CK.rdv]at h;split at h;cases h;have:=aw (by simp) hd;cases this;exact⟨rfl,trivial⟩;cases h
 |arr k n=>
  simp only[CK.rdv]at h;split at h;rw[Bool.cond_eq_ite]at h;split at h;rename_i hk;simp only[and_eq_true]at hk;obtain rfl:=bf hk.1;obtain rfl:=Nat.eq_of_beq_eq_true hk.2;cases h;unfold ae at hd;exact⟨hd.2,hd.1⟩;cases h;cases h
 |_=>cases h
theorem oD{t:TypeId}{x i a:AV}{vx vi va:Value}{q:bK}(h:(oR P t x i a).eval H=some q)(hs:Sat ρ H G w)(hx:ae ρ H (aV ρ H G) w x vx)(hi:ae ρ H (aV ρ H G) w i vi)(ha:ae ρ H (aV ρ H G) w a va):
 ∃w',(Instr.mapUpdate t vx vi va).run P w=.ok () w'/\∀base,Good ρ H G w (cL H q.up base q.new) (q.r base) undef w':=by
 unfold oR at h;split at h;rename_i kt et id k lit n ht mN;rw[Bool.cond_eq_ite]at h;split at h;rename_i hk;simp only[and_eq_true]at hk;obtain rfl:=mI hk.2;obtain rfl:=cp mN hi;simp only[RM.eval]at h;split at h;rename_i ck m ho;split at h;rename_i y hy;simp only[RM.eval,Option.some.injEq]at h;subst h;obtain⟨rfl,hf⟩:=aoz hy ha;unfold ae aH at hx;obtain⟨b,hb,rfl,_⟩:=hx;have⟨es,clock,h1,h2⟩:=yC hs ho hb;have⟨es',uz,h3,h4⟩:=xe h2 h1 ht (aav hk.1) n hf;refine⟨_,h3,λbase=> ?_⟩;simp only[fT];exact Good.write hs ho rfl rfl (by rw[hb];rfl) (λ_ _ hc=>by cases hc) ⟨b,es',uz,hb,dM h1,h4⟩ cv;cases h;cases h;cases h;cases h
theorem aaw{t:TypeId}{r:Option AV}{q:bK}(h:(tY P t r).eval H=some q)(hs:Sat ρ H G w){base:Nat}(hb:∀i,i<q.new.length->H (base+i)=none):
 r=none/\∃v w',(Instr.makeMap t none).run P w=.ok v w'/\Good ρ H G w (cL H q.up base q.new) (q.r base) v w':=by
 unfold tY at h;split at h;split at h;rename_i ck _;simp only[RM.eval,Option.some.injEq]at h;subst h;have hn:H base=none:=by simpa using hb 0 (by simp)
 refine⟨rfl,.map (some w.heap.size),w.alloc (.map #[] 0),RowKit.run_makeMap .., ?_⟩;simp only[iV];refine Good.fresh hs hn (iR:=.map (some w.heap.size)) (w1:=w) rfl rfl rfl rfl (λb hb=>by simpa[eD]using hb.symm) ⟨w.heap.size,#[],0,rfl,(MapKept.heap_alloc w _).1,⟨rfl,by simp,by simp,by simp,by simp⟩⟩ ?_;unfold ae aH;exact⟨w.heap.size,by simp,rfl,by simp[aK]⟩;cases h;cases h
end
section
variable{ρ aO:Nat->Value}{H H':aJ}{G O O':Nat->Prop}{w w':World}{P:Program}
structure aoA (P:Program) (O:Nat->Prop) (w:World) (size k:Nat) (d:aS) (v:Value) (bz:List Value):Prop where
 length:bz.length=k*size
 first:(Builtin.firstCells size k v).run P w=.ok bz.toArray w
 one:∀u∈bz,u.oneCell'=true
 den:∀i j,i<k->j<size->∃u,bz[i*size+j]? =some u/\aX O w (d.cell i j) u
theorem ah7{size k:Nat}{d:aS}{v:Value}(h:oV O w d v)(hs:d.size=size)(h1:1<=size)(hk:k<=d.n):∃bz,aoA P O w size k d v bz:=by
 obtain⟨a,cap,us,rfl,g1,g2,g3⟩:=h;have hn:(c6 d 0 k).n=k:=by rw[ny d (zero_le _) hk];omega
 have cn:=jq d 0 k;have ur:∀i j,i<k->(c6 d 0 k).cell i j=d.cell i j:=λi j hi=>by rw[jr d j (by omega),zero_add]
 have hr:oV O w (c6 d 0 k) (.slice a k cap):=by
  refine⟨a,cap,us,by rw[hn],by rw[hn];omega,g2,λh0=> ?_⟩;rw[hn]at h0;have⟨b,o,e1,e2,e3⟩:=g3 (by omega);refine⟨b,o,e1,e2,λi j hi hj=> ?_⟩;rw[hn]at hi;rw[cn]at hj ⊢;rw[ur i j hi];exact e3 i j (by omega) hj
 have⟨bz,src⟩:=s9 (P:=P) hr (by rw[cn];exact hs) h1;refine⟨bz,by rw[src.length,hn], ?_,src.one,λi j hi hj=> ?_⟩;have:=src.first w rfl;rw[hn]at this;rw[<-this];cases a<;>rfl;have⟨u,e1,e2⟩:=src.den i j (by rw[hn];exact hi) hj;rw[ur i j hi]at e2;exact⟨u,e1,e2⟩
theorem ah8{s:ByteArray}{k:Nat}(hk:k<=s.data.toList.length):∃bz,aoA P O w 1 k (.ay .u8 (s.data.toList.map λb=>(b.toNat:Int))) (.string s) bz:=by
 refine⟨(s.data.toList.take k).map λb=>.int .u8 b.toNat,by rw[length_map,length_take];omega, ?_,λu hu=> ?_,λi j hi hj=> ?_⟩;simp only[Builtin.firstCells,Sem.run_pure];congr 1;apply toList_inj.1;rw[Array.toList_map];simp[ByteArray.data_extract];obtain⟨b,_,rfl⟩:=mem_map.1 hu;rfl;obtain rfl:j=0:=by omega
 have ep:i<s.data.toList.length:=by omega
 refine⟨.int .u8 (s.data.toList[i].toNat),by rw[Nat.mul_one,add_zero,getElem?_map,getElem?_take,if_pos hi,getElem?_eq_getElem ep];rfl, ?_⟩;simp only[aS.cell]
 have:(s.data.toList.map λb=>((b.toNat:Nat):Int)).getD i 0=(s.data.toList[i].toNat:Int):=by
  rw[List.getD,getElem?_map,getElem?_eq_getElem ep];rfl
 rw[this];exact .int _ _
theorem afv{sh:Shape}{size:Nat}{x:AV}{k:aS->Option Nat->RM bK}{v:Value}{q:bK}(h:(xr sh size x k).eval H=some q)(hs:Sat ρ H G w)(hd:ae ρ H (aV ρ H G) w x v)(h1:1<=size):
 ∃c idy,(k c idy).eval H=some q/\(c.size=size->(Builtin.lenOf v).run P w=.ok c.n w/\∀m,m<=c.n->∃bz,aoA P (aV ρ H G) w size m c v bz):=by
 unfold xr at h;split at h;rename_i s;obtain rfl:=gr hd;refine⟨_,_,h,λcn=> ?_⟩;simp only[aS.size]at cn;subst cn;refine⟨by simp[Builtin.lenOf,aS.n],λm hm=>ah8 (by simpa[aS.n]using hm)⟩;have⟨c,idy,h2,h3⟩:=ui h hs hd;refine⟨c,idy,h2,λcn=>⟨?_,λm hm=>ah7 h3 cn h1 hm⟩⟩;obtain⟨a,cap,us,rfl,_⟩:=h3;simp[Builtin.lenOf]
theorem lu{t t' ty e:TypeId}{sz:Nat}{a:Option Addr}{n cap m:Nat}{vy:Value}{bz:List Value}(ht:P.underlying t=some (.slice e))(hs:dK P e=some sz)
 (bL:(Builtin.lenOf vy).run P w=.ok m w) (jS:(Builtin.firstCells sz (min m n) vy).run P w=.ok bz.toArray w)
 (q7:∀x,a=some x->(storeCells x bz 0).run P w=.ok () w') (uw:a=none->w'=w):
 (Builtin.copy_ #[t,t'] ty #[.slice a n cap,vy]).run P w=.ok (.int .i64 ((min m n:Nat):Int)) w':=by
 have hf:(Builtin.firstCells sz (Nat.min m n) vy).run P w=.ok bz.toArray w:=jS;cases a with
 |none=>
  rw[uw rfl];simp[Builtin.copy_,run_underlying ht,run_sizeOf hs,bL,hf];rfl
 |some x=>
  have:=q7 x rfl;simp[Builtin.copy_,run_underlying ht,run_sizeOf hs,bL,hf,this];rfl
theorem ah9{t t' ty:TypeId}{x y:AV}{vx vy:Value}{q:bK}(h:(ahM P t x y).eval H=some q)(hs:Sat ρ H G w)
 (hx:ae ρ H (aV ρ H G) w x vx) (hy:ae ρ H (aV ρ H G) w y vy):
 ∃v w',(Builtin.copy_ #[t,t'] ty #[vx,vy]).run P w=.ok v w'/\∀base,Good ρ H G w (cL H q.up base q.new) (q.r base) v w':=by
 unfold ahM at h;split at h;rename_i e ht;split at h;rename_i sz cn;rw[Bool.cond_eq_ite]at h;split at h;rename_i h1;have h1:=le_of_ble_eq_true h1;have⟨d,idy,h2,od⟩:=afv (P:=P) h hs hy h1;rw[Bool.cond_eq_ite]at h2;split at h2;rename_i hds;have hds:d.size=sz:=by simpa using hds
 have⟨bL,jm⟩:=od hds;split at h2;rename_i id;simp only[RM.eval]at h2;split at h2;rename_i c e' ho;rw[Bool.cond_eq_ite]at h2;split at h2;rename_i oY;have oY:c.size=sz:=by simpa using oY
 simp only[RM.eval,Option.some.injEq]at h2;subst h2;have⟨bz,src⟩:=jm (min d.n c.n) (Nat.min_le_left _ _);obtain⟨a,cap,rfl,hr,hle,_⟩:=lX hs ho hx;have eW:=hs.obj id _ ho;rw[hr]at eW;have⟨a2,uf,g1,_,_,g4⟩:=eW;cases g1;have⟨w',k1,k2,k3⟩:=pH (P:=P) hs ho (lo:=0) (k:=min d.n c.n) (d:=d) (by omega) (by omega) (by omega) (bz:=bz) (by rw[src.length,oY]) src.one (λi' j' ep js=>by rw[oY]at *;exact src.den i' j' ep js);refine⟨_,w',lu ht cn bL src.first (λx hx=> ?_) (λhx=> ?_),λbase=> ?_⟩;refine k1 a cap _ hr ?_;subst hx;rcases g4 with g4|⟨b,o,_,_,_,g5,_⟩;exact .inl (by omega);cases g5;exact .inr (by simp[a7]);refine k2 ?_;subst hx;rcases g4 with g4|⟨b,o,_,_,_,g5,_⟩;omega;cases g5;simp only[fT];exact k3 _ _ (λw2=>aC (.int _ _));cases h2;cases h2
 rename_i id lo n;simp only[RM.eval]at h2;split at h2;rename_i c e' ho;rw[Bool.cond_eq_ite]at h2;split at h2;rename_i oY;have oY:c.size=sz:=by simpa using oY
 simp only[RM.eval,Option.some.injEq]at h2;subst h2;have⟨bz,src⟩:=jm (min d.n n) (Nat.min_le_left _ _);obtain⟨g0,a,cap,a',g1,g2,g3,rfl,g4,g5⟩:=iU hs ho hx;have⟨w',k1,k2,k3⟩:=pH (P:=P) hs ho (lo:=lo) (k:=min d.n n) (d:=d) (by omega) (by omega) (by omega) (bz:=bz) (by rw[src.length,oY]) src.one (λi' j' ep js=>by rw[oY]at *;exact src.den i' j' ep js);refine⟨_,w',lu ht cn bL src.first (λx hx=> ?_) (λhx=> ?_),λbase=> ?_⟩;refine k1 a cap _ g1 ?_;by_cases cG:cap=lo;exact .inl (by omega);exact .inr (by rw[<-g4 cG];exact hx);refine k2 ?_;by_cases cG:cap=lo;omega;rw[g4 cG]at hx;obtain⟨b,o,rfl⟩:=g5 (by omega);cases hx;simp only[fT];exact k3 _ _ (λw2=>aC (.int _ _));cases h2;cases h2;cases h2;cases h2;cases h;cases h;cases h
theorem lz(sh:Shape)(n:Nat):(dr sh n).n=n:=by cases sh<;>simp[dr,aS.n]
theorem yD(sh:Shape)(n m:Nat):(dr sh n).size=(dr sh m).size:=by cases sh<;>rfl
theorem yE(sh:Shape){n i:Nat}(j:Nat)(hi:i<n):(dr sh n).cell i j=(dr sh 1).cell 0 j:=by
 cases sh<;>simp only[dr,aS.cell,List.getD,List.getElem?_replicate,hi,Nat.zero_lt_one,if_true]
theorem alQ{x:SV}{v:Value}(h:aon x v=true):aX O w x v:=by
 unfold aon at h;split at h;simp only[and_eq_true,beq_iff_eq]at h;obtain⟨h1,rfl⟩:=h;obtain rfl:=bf h1;exact .int _ _;simp only[beq_iff_eq]at h;subst h;exact .bool _;rename_i s s';simp only[and_eq_true,beq_eq]at h
 have e:∀t:ByteArray,t.size=0->t=empty:=λt ht=>by
  cases t with
  |mk d=>
   have:d= #[]:=Array.size_eq_zero_iff.1 ht;subst this;rfl
 rw[e s h.1,e s' h.2];exact .str _;rename_i c;have h:c.n=0:=by simpa using h
 have:=aX.ro (O:=O) (w:=w) c none 0 (λ_ _=>undef) 0 0 (by omega) (zero_le _) (λh=>by omega) (λi j hi hj=>by omega) (λi j hi hj=>by omega);rwa[h]at this;cases h
theorem kq{sh:Shape}{z:List Value}(h:gi sh z=true)(n:Nat):(dr sh n).size=z.length/\∀i j,i<n->j<z.length->∃u,z[j]? =some u/\aX O w ((dr sh n).cell i j) u:=by
 simp only[gi,and_eq_true,beq_eq,all_eq_true,mem_range]at h;refine⟨by rw[yD sh n 1];exact h.1,λi j hi hj=>⟨z[j],getElem?_eq_getElem hj, ?_⟩⟩;rw[yE sh j hi];have:=alQ (O:=O) (w:=w) (h.2 j hj);simpa[List.getD,getElem?_eq_getElem hj]using this
theorem kI{z:Array Value}(n:Nat){i j:Nat}(hi:i<n)(hj:j<z.size):(Builtin.zeroCells z n).toList[i*z.size+j]? =z.toList[j]? :=by
 have a8:i*z.size+j<n*z.size:=by
  have:(i+1)*z.size<=n*z.size:=Nat.mul_le_mul_right _ (by omega);rw[Nat.succ_mul]at this;omega
 have e2:(i*z.size+j)%z.size=j:=by rw[Nat.mul_comm,Nat.mul_add_mod,Nat.mod_eq_of_lt hj]
 simp[Builtin.zeroCells,a8,e2,hj]
theorem aia{z:List Value}{sh:Shape}(h:gi sh z=true):∀u∈z,u.oneCell'=true:=by
 intro u hu;obtain⟨j,hj,rfl⟩:=List.getElem_of_mem hu;have⟨_,h2⟩:=kq (O:=λ_=>False) (w:=default) h 1;have⟨u,e1,e2⟩:=h2 0 j (by omega) hj;rw[getElem?_eq_getElem hj]at e1;cases e1;exact e2.one
theorem iJ{z:Array Value}{sh:Shape}(h:gi sh z.toList=true)(n:Nat):∀u∈(Builtin.zeroCells z n).toList,u.oneCell'=true:=by
 intro u hu;simp only[Builtin.zeroCells,Array.toList_map,Array.toList_range,mem_map,mem_range]at hu;obtain⟨m,hm,rfl⟩:=hu
 have hp:0<z.size:=by
  rcases Nat.eq_zero_or_pos z.size with h0|h0;rw[h0]at hm;omega;exact h0
 have a8:m%z.size<z.size:=Nat.mod_lt _ hp;rw[getElem!_pos z (m%z.size) a8];exact aia h _ (Array.mem_toList_iff.2 (Array.getElem_mem a8))
theorem afw{t e ty:TypeId}{z:Value}(ht:P.underlying t=some (.slice e))(hz:∀w,(zeroValue e).run P w=.ok z w){a:Option Addr}{n cap:Nat}(q7:∀x,a=some x->(storeCells x (Builtin.zeroCells z.cells n).toList 0).run P w=.ok () w')
 (uw:(a=none\/n=0)->w'=w):(Builtin.clear_ #[t] ty #[.slice a n cap]).run P w=.ok (.tuple #[]) w':=by
 cases a with
 |none=>
  rw[uw (.inl rfl)];simp[Builtin.clear_,run_underlying ht]
 |some x=>
  cases n with
  |zero=>
   rw[uw (.inr rfl)];simp[Builtin.clear_,run_underlying ht]
  |succ n=>
   have:=q7 x rfl;simp[Builtin.clear_,run_underlying ht,hz,this]
theorem afx{t ty:TypeId}{ts:List TypeId}{x:AV}{vx:Value}{q:bK}(h:(acg P t x).eval H=some q)(hs:Sat ρ H G w)(hx:ae ρ H (aV ρ H G) w x vx):
 ∃v w',(Builtin.clear_ (t::ts).toArray ty #[vx]).run P w=.ok v w'/\∀base,Good ρ H G w (cL H q.up base q.new) (q.r base) v w':=by
 have hts:(Builtin.clear_ (t::ts).toArray ty #[vx])=(Builtin.clear_ #[t] ty #[vx]):=by
  simp[Builtin.clear_]
 rw[hts];unfold acg at h;split at h;rename_i e id lo n ht;split at h;rename_i i hi;rw[Bool.cond_eq_ite]at h;split at h;rename_i hc;simp only[and_eq_true]at hc;have⟨c1,c2⟩:=hc;have c1:=le_of_ble_eq_true c1
 obtain⟨z,hz,hzf,hzs⟩:∃z,i.zero=some z/\gi (shapeOf P e) z.cells.toList=true/\z.cells.size=i.size:=by
  cases hz:i.zero with
  |none=>simp[hz]at c2|some z=>
   simp only[hz,Option.any_some,and_eq_true,beq_iff_eq]at c2;exact⟨z,rfl,c2.1,c2.2⟩
 have hzv:∀w,(zeroValue e).run P w=.ok z w:=λw=>by simp[zeroValue,typeInfo,hi,hz]
 simp only[RM.eval]at h;split at h;rename_i c e' ho;rw[Bool.cond_eq_ite]at h;split at h;rename_i oY;have oY:c.size=i.size:=by simpa using oY
 simp only[RM.eval,Option.some.injEq]at h;subst h;obtain⟨g0,a,cap,a',g1,g2,g3,rfl,g4,g5⟩:=iU hs ho hx;have⟨y1,y2⟩:=kq (O:=aV ρ H G) (w:=w) hzf n
 have⟨w',k1,k2,k3⟩:=pH (P:=P) hs ho (lo:=lo) (k:=n) (d:=dr (shapeOf P e) n) (by omega) (by rw[lz];exact le_refl _) (by omega) (bz:=(Builtin.zeroCells z.cells n).toList) (by rw[length_toList,size_zeroCells,hzs,oY]) (iJ hzf n) (λi' j' ep js=>by
  rw[oY]at js ⊢;have⟨u,e1,e2⟩:=y2 i' j' ep (by rw[length_toList,hzs];exact js);refine⟨u, ?_,e2⟩;rw[<-hzs,kI n ep (by omega)];exact e1)
 refine⟨_,w',afw ht hzv (λx hx=> ?_) (λhx=> ?_),λbase=> ?_⟩;refine k1 a cap _ g1 ?_;by_cases cG:cap=lo;exact .inl (by omega);exact .inr (by rw[<-g4 cG];exact hx);refine k2 ?_;rcases hx with hx|hx;by_cases cG:cap=lo;omega;rw[g4 cG]at hx;obtain⟨b,o,rfl⟩:=g5 (by omega);cases hx;exact hx;simp only[fT];exact k3 _ _ (λw2=>cv);cases h;cases h;cases h;cases h;rename_i kt et id ht;simp only[RM.eval]at h;split at h;rename_i ck m ho;simp only[RM.eval,Option.some.injEq]at h;subst h;unfold ae aH at hx;obtain⟨b,hb,rfl,_⟩:=hx;have⟨es,clock,h1,h2⟩:=yC hs ho hb;refine⟨.tuple #[],World.cc w b (.map #[] clock), ?_,λbase=> ?_⟩;have e1:(getObj b).run P w=.ok (.map es clock) w:=by simp[getObj,Sem.run,h1]
 have e2:(setObj b (.map #[] clock)).run P w=.ok () (World.cc w b (.map #[] clock)):=by simp[setObj,Sem.run,World.cc,h1]
 simp only[Builtin.clear_,List.getElem?_toArray,List.getElem?_cons_zero,Sem.run_bind,run_underlying ht,Result.andThen_ok,e1,e2,Sem.run_pure];simp only[fT];refine Good.write hs ho rfl rfl (by rw[hb];rfl) (λc' e' hc=>by cases hc) ?_ cv;exact⟨b,#[],clock,hb,dM h1,⟨rfl,List.nodup_nil,List.nodup_nil,λe he=>by simp at he,λp hp=>by simp at hp⟩⟩;cases h;cases h
theorem run_makeSlice{t e:TypeId}{i:TypeInfo}{z:Value}(ht:P.underlying t=some (.slice e))(hi:P.info? e=some i)(hz:i.zero=some z)(hzs:z.cells.size=i.size)(h1:1<=i.size)(hby:i.bytes<=256)
 {k k':IntKind} {l c:Int} (h0:0<=l) (hlc:l<=c) (hc:c<=1073741824):
 ∃w1:World,(w1.heap=w.heap/\w1.tape=w.tape/\w1.os=w.os/\w1.output=w.output)/\
 (Instr.makeSlice t (.int k l) (.int k' c)).run P w=.ok (.slice (some ⟨w.heap.size,0,none⟩) l.toNat c.toNat) (w1.alloc (.cells (Builtin.zeroCells z.cells c.toNat).toList.toArray e)):=by
 refine⟨w,⟨rfl,rfl,rfl,rfl⟩, ?_⟩;have e1:i64.wrap l=l:=fw ⟨by omega,by omega⟩;have e2:i64.wrap c=c:=fw ⟨by omega,by omega⟩
 have aas:¬(281474976710656<(i.bytes:Int)*c):=by
  have h3:(i.bytes:Int)*c<=256*c:=Int.mul_le_mul_of_nonneg_right (by omega) (by omega);omega
 have hl0:¬l<0:=by omega
 have hc0:¬c<0:=by omega
 have atE:¬l>c:=by omega
 simp[Instr.makeSlice,run_underlying ht,typeInfo,sizeOf,hi,e1,e2,hl0,hc0,atE,aas,zeroValue,hz,newRow,asInt,asIntOf];have mu:Builtin.zeroCells z.cells c.toNat=(Array.range (c.toNat*i.size)).map λx=>z.cells[x%z.cells.size]! :=by simp[Builtin.zeroCells,hzs]
 rw[mu];by_cases h0:c.toNat*i.size=0;have hr:∀f:Nat->Value,Array.map f (Array.range 0)= #[]:=λf=>by simp
 rw[if_pos h0,h0,hr,hr];rw[if_neg h0]
theorem xf{t:TypeId}{l c:AV}{vl vc:Value}{q:bK}(h:(oQ P t l c).eval H=some q)(hn:bd q.aa)(hs:Sat ρ H G w)(hl:ae ρ H (aV ρ H G) w l vl)(hc:ae ρ H (aV ρ H G) w c vc)
 {base:Nat} (hb:∀i,i<q.new.length->H (base+i)=none):∃v w',(Instr.makeSlice t vl vc).run P w=.ok v w'/\Good ρ H G w (cL H q.up base q.new) (q.r base) v w':=by
 unfold oQ at h;split at h;rename_i e k lit l k' avf c ht h1 h2;obtain rfl:=cp h1 hl;obtain rfl:=cp h2 hc;split at h;rename_i i hi;rw[Bool.cond_eq_ite]at h;split at h;rename_i hc;simp only[and_eq_true]at hc;have⟨⟨c1,c2⟩,c3⟩:=hc;have c1:=le_of_ble_eq_true c1;have c2:=le_of_ble_eq_true c2
 obtain⟨z,hz,hzf,hzs⟩:∃z,i.zero=some z/\gi (shapeOf P e) z.cells.toList=true/\z.cells.size=i.size:=by
  cases hz:i.zero with
  |none=>simp[hz]at c3|some z=>
   simp only[hz,Option.any_some,and_eq_true,beq_iff_eq]at c3;exact⟨z,rfl,c3.1,c3.2⟩
 simp only[RM.eval,Option.some.injEq]at h;subst h;have⟨n1,n2,n3,_⟩:=hn;have jl:H base=none:=by simpa using hb 0 (by simp)
 have⟨w1,⟨a1,a2,a3,a4⟩,eG⟩:=run_makeSlice (w:=w) (k:=k) (k':=k') ht hi hz hzs c1 c2 n1 n2 n3;refine⟨_,_,eG, ?_⟩;simp only[iV];have⟨y1,y2⟩:=kq (O:=aV ρ H G) (w:=w) hzf l.toNat;have:=lz (shapeOf P e) l.toNat
 have key:=lr (w1:=w1) (e:=e) (c:=dr (shapeOf P e) l.toNat) (cap:=c.toNat) hs a1 a2 a3 a4 jl (cells:=(Builtin.zeroCells z.cells c.toNat).toList) (by omega) (by simp only[maxLen];omega) (by
  rw[y1,length_toList,length_toList,size_zeroCells]
  exact le_refl _) (λi' j'=>(Builtin.zeroCells z.cells c.toNat).toList.getD (i'*(dr (shapeOf P e) l.toNat).size+j') undef) (λi' j' ep js=>by
   rw[this]at ep;rw[y1,length_toList]at js ⊢;have⟨u,e1,e2⟩:=y2 i' j' ep (by rw[length_toList];exact js);have hg:=kI (z:=z.cells) c.toNat (i:=i') (by omega) js;rw[e1]at hg;have:(Builtin.zeroCells z.cells c.toNat).toList.getD (i'*z.cells.size+j') undef=u:=by simp[List.getD,hg]
   rw[this];exact⟨hg,e2⟩)
 rw[this]at key;exact key (iJ hzf _);cases h;cases h;cases h
end
end Go.Sx
