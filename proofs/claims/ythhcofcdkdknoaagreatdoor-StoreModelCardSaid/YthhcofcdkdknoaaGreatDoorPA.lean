/- Lemmas: SxKind, SxBase, SxExec, SxPure, SxSat, SxMem, SxHeap, SxLoad, SxRead, SxSlice, SxStore, SxNew, SxBuild, SxBuild2, SxAppend, SxOver, SxAppend2, SxMap, SxMapOp, SxPart. -/
import Derived.WalkKit
import Derived.WalkSpells
import Derived.MapKept
import Derived.Carry
open Go.IntKind (i64 u64 u8)
open Array (length_toList toList_inj)
open Bool (and_eq_true cond_eq_ite not_eq_true')
open ByteArray (empty ext)
open List (all_cons all_eq_true append_assoc append_nil cons_append getElem?_append_left getElem?_append_right getElem?_eq_getElem getElem?_eq_none getElem?_map getElem?_set getElem?_take getElem_mem length_append length_cons length_drop length_map length_nil length_set length_take map_append map_cons map_nil mem_append mem_map mem_range mem_singleton nil_append nodup_append replicate take_of_length_le)
open Nat (add_assoc add_mul add_zero beq_eq le_of_ble_eq_true le_refl le_trans lt_or_ge zero_add zero_le)
open Option (bind_eq_some_iff getD_some isSome_iff_exists map_eq_some_iff map_some)
namespace Go.Sx
open Go
inductive CK where
 |int (k:IntKind)|bool|str|ah (k:IntKind)|strs|bG|rows (cs:List CK)|arr (k:IntKind) (n:Nat)
mutual
def CK.V:CK->Type
 |.int _=>Int|.bool=>Bool|.str=>ByteArray|.ah _=>List Int|.strs=>List ByteArray|.bG=>List Bool|.rows cs=>List (CL cs)|.arr _ _=>List Int
def CL:List CK->Type
 |[]=>Unit|c::cs=>c.V×CL cs
end
def CK.d:(c:CK)->c.V
 |.int _=>(0:Int)|.bool=>false|.str=>empty|.ah _=>([]:List Int)|.strs=>([]:List ByteArray)|.bG=>([]:List Bool)|.rows cs=>([]:List (CL cs))|.arr _ n=>replicate n (0:Int)
def CL.d:(cs:List CK)->CL cs
 |[]=>()|c::cs=>(c.d,CL.d cs)
def CK.wide:CK->Nat
 |.arr _ n=>n|_=>1
def CL.wide:List CK->Nat
 |[]=>0|c::cs=>c.wide+CL.wide cs
def kEq(a b:IntKind):Option (PLift (a=b)):=if h:a=b then some ⟨h⟩else none
mutual
def CK.eq:(a b:CK)->Option (PLift (a=b))
 |.int k,.int k'=>(kEq k k').map λh=>⟨congrArg CK.int h.down⟩|.bool,.bool=>some ⟨rfl⟩|.str,.str=>some ⟨rfl⟩|.ah k,.ah k'=>(kEq k k').map λh=>⟨congrArg CK.ah h.down⟩|.strs,.strs=>some ⟨rfl⟩|.bG,.bG=>some ⟨rfl⟩|.rows a,.rows b=>(CL.eq a b).map λh=>⟨congrArg CK.rows h.down⟩|.arr k n,.arr k' n'=>if h:n=n' then(kEq k k').map λh'=>⟨by rw[h,h'.down]⟩else none
 |_,_=>none
def CL.eq:(a b:List CK)->Option (PLift (a=b))
 |[],[]=>some ⟨rfl⟩|a::aQ,b::bs=>match CK.eq a b,CL.eq aQ bs with
  |some h,some h'=>some ⟨by rw[h.down,h'.down]⟩
  |_,_=>none
 |_,_=>none
end
def acQ{a b:List CK}(h:PLift (a=b))(xs:List (CL a)):List (CL b):=h.down▸xs
def ct{V:Type}(m:List (Int×V))(k:Int):Option V:=(m.find? λp=>p.1==k).map (·.2)
def om{V:Type}(m:List (Int×V))(k:Int):Bool:=m.any λp=>p.1==k
def mu{V:Type}(m:List (Int×V))(k:Int)(v:V):List (Int×V):=if om m k=true then m.map λp=>if p.1==k then(k,v)else p else m++[(k,v)]
theorem aad{a:List CK}(h:PLift (a=a))(xs:List (CL a)):acQ h xs=xs:=rfl
mutual
inductive SV where
 |aZ|bool (b:Bool)|aK (b:Bool)|lN (n:Nat) (eq:Bool)|abf (k:IntKind)|int (k:IntKind) (n:Int)|aS (k:IntKind) (n:Int)|str (s:ByteArray)|jD|afz|afA|afB|qL|rK (f:FuncId)|ifi (t:TypeId) (k:IntKind) (n:Int)|ifs (t:TypeId) (s:ByteArray)|ifb (t:TypeId) (b:Bool)|raw (v:Value) (zs:List Int)|ro (c:aV)|rot (c:aV) (k:Nat)|nL (k:Nat)|qq (k:Nat)
inductive aV where
 |ah (k:IntKind) (zs:List Int)|strs (ss:List ByteArray)|bG (bs:List Bool)|au (cs:List CK) (xs:List (CL cs))|fh (size n:Nat) (get:Nat->Nat->SV)
end
def aV.n:aV->Nat
 |.ah _ zs=>zs.length|.strs ss=>ss.length|.bG bs=>bs.length|.au _ xs=>xs.length|.fh _ n _=>n
def aV.size:aV->Nat
 |.ah .. |.strs _|.bG _=>1|.au cs _=>CL.wide cs|.fh s _ _=>s
def CK.cell:(c:CK)->c.V->Nat->SV
 |.int k,x,_=>.int k x|.bool,x,_=>.bool x|.str,x,_=>.str x|.ah k,x,_=>.ro (.ah k x)|.strs,x,_=>.ro (.strs x)|.bG,x,_=>.ro (.bG x)|.rows cs,x,_=>.ro (.au cs x)|.arr k _,x,j=>.int k (List.getD (α:=Int) x j 0)
def CL.cell:(cs:List CK)->CL cs->Nat->SV
 |[],_,_=>.aZ|c::cs,x,j=>bif j.blt c.wide then c.cell x.1 j else CL.cell cs x.2 (j - c.wide)
def aV.cell:aV->Nat->Nat->SV
 |.ah k zs,i,_=>.int k (zs.getD i 0)|.strs ss,i,_=>.str (ss.getD i empty)|.bG bs,i,_=>.bool (bs.getD i false)|.au cs xs,i,j=>CL.cell cs (xs.getD i (CL.d cs)) j|.fh _ _ get,i,j=>get i j
inductive AV where
 |s (v:SV)|ptr (id off:Nat)|kT (id off n i:Nat)|kp (c:aV) (i j:Nat)|vec (id:Nat)|gR (id i j:Nat)|part (id lo n:Nat)|sub (id off n:Nat)|lO (id i j n:Nat)|emp|agg (az:List AV)|ah (k:IntKind) (n:Nat) (ws:List Int)|bt (vs:List AV)|fn (f:FuncId) (dw:List AV)|fnb (f:FuncId) (first:List AV)
 |fA (id:Nat)|tag (id:Nat)
inductive ak where
 |aq (az:List AV) (elem:TypeId)|vec (c:aV) (elem:TypeId)|map (ck:CK) (m:List (Int×ck.V))|im (ck:CK) (m:List (Int×ck.V)) (gid:Nat)|iter (mid gid:Nat) (ck:CK) (left:List (Int×ck.V)) (cur:Option (Int×ck.V))|ax
abbrev aT:=Nat->Option ak
def ak.alive:ak->Bool
 |.ax=>false|_=>true
def eZ:Value->Option Nat
 |.pointer (some a)=>some a.block|.slice (some a) _ cap=>if cap=0 then none else some a.block
 |.map (some b)=>some b|_=>none
def Own(ρ:Nat->Value)(H:aT)(b:Nat):Prop:=∃id o,H id=some o/\o.alive=true/\eZ (ρ id)=some b
def aW(ρ:Nat->Value)(H:aT)(G:Nat->Prop)(b:Nat):Prop:=Own ρ H b\/G b
inductive aX (O:Nat->Prop) (w:World):SV->Value->Prop
 |aZ (v:Value):v.oneCell'=true->aX O w .aZ v|bool (b:Bool):aX O w (.bool b) (.bool b)|aK (b:Bool):aX O w (.aK b) (.bool b)|lN (n:Nat) (eq b:Bool):(b=eq->n=0)->aX O w (.lN n eq) (.bool b)|abf (k:IntKind) (n:Int):aX O w (.abf k) (.int k n)|int (k:IntKind) (n:Int):aX O w (.int k n) (.int k n)|aS (k:IntKind) (n:Int):aX O w (.aS k n) (.int k n)|str (s:ByteArray):aX O w (.str s) (.string s)|jD:aX O w .jD (.pointer none)|afz:aX O w .afz .nilIface|afA:aX O w .afA .nilFunc|afB:aX O w .afB (.map none)|qL:aX O w .qL (.slice none 0 0)|rK (f:FuncId):aX O w (.rK f) (.func (.func f) #[] #[])|ifi (t:TypeId) (k:IntKind) (n:Int):aX O w (.ifi t k n) (.iface t (.int k n))|ifs (t:TypeId) (s:ByteArray):aX O w (.ifs t s) (.iface t (.string s))|ifb (t:TypeId) (b:Bool):aX O w (.ifb t b) (.iface t (.bool b))|raw (v:Value) (zs:List Int):v.oneCell'=true->aX O w (.raw v zs) v|ro (c:aV) (a:Option Addr) (cap:Nat) (us:Nat->Nat->Value) (b o:Nat):c.n<=cap->cap<=maxLen->
  (0<c.n->a=some ⟨b,o,none⟩/\¬O b/\b<w.heap.size)->
  (∀i j,i<c.n->j<c.size->w.cell? ⟨b,o+i*c.size+j,none⟩=some (us i j))->
  (∀i j,i<c.n->j<c.size->aX O w (c.cell i j) (us i j))->aX O w (.ro c) (.slice a c.n cap)
 |rot (c:aV) (k:Nat) (a:Option Addr) (n cap:Nat):aX O w (.ro c) (.slice a n cap)->cap<k->aX O w (.rot c k) (.slice a n cap)|nL (k:Nat) (n:Int):(k:Int)<=n->aX O w (.nL k) (.int .i64 n)|qq (k:Nat) (n:Int):n<(k:Int)->aX O w (.qq k) (.int .i64 n)
mutual
def aO(ρ:Nat->Value)(H:aT)(O:Nat->Prop)(w:World):AV->Value->Prop
 |.s x,v=>aX O w x v|.ptr id off,v=>∃b,ρ id=.pointer (some ⟨b,0,none⟩)/\v=.pointer (some ⟨b,off,none⟩)/\(H id).isSome=true|.kT id off n i,v=>i<n/\∃b,ρ id=.pointer (some ⟨b,0,none⟩)/\v=.pointer (some ⟨b,off+i,none⟩)/\(H id).isSome=true|.kp c i j,v=>∃(b o:Nat) (us:Nat->Value),v=.pointer (some ⟨b,o+j,none⟩)/\¬O b/\b<w.heap.size/\
  (∀l,l<c.size->w.cell? ⟨b,o+l,none⟩=some (us l)/\aX O w (c.cell i l) (us l))
 |.vec id,v=>v.oneCell'=true/\∃o,H id=some o/\∀c e,o=.vec c e->v=ρ id|.gR id i j,v=>v.oneCell'=true/\∃o,H id=some o/\∀c e,o=.vec c e->i<c.n/\j<c.size/\
  ∃b f n cap,ρ id=.slice (some ⟨b,f,none⟩) n cap/\v=.pointer (some ⟨b,f+i*c.size+j,none⟩)
 |.part id lo n,v=>v.oneCell'=true/\∃o,H id=some o/\∀c e,o=.vec c e->lo+n<=c.n/\
  ∃a cap a',ρ id=.slice a c.n cap/\c.n<=cap/\v=.slice a' n (cap - lo)/\(cap≠lo->a'=a.map (·.add (lo*c.size)))
 |.sub id off n,v=>v.oneCell'=true/\∃b a cap,ρ id=.pointer (some ⟨b,0,none⟩)/\v=.slice a n cap/\(n≠0->a=some ⟨b,off,none⟩)/\(H id).isSome=true|.lO id i j n,v=>v.oneCell'=true/\∃o,H id=some o/\∀c e,o=.vec c e->i<c.n/\j+n<=c.size/\
  ∃b f n' cap a ajv,ρ id=.slice (some ⟨b,f,none⟩) n' cap/\v=.slice a n ajv/\(n≠0->a=some ⟨b,f+i*c.size+j,none⟩)
 |.emp,v=>∃a,v=.slice a 0 0|.fn f dw,v=>∃vs:List Value,v=.func (.func f) #[] vs.toArray/\bM ρ H O w dw vs|.fnb f first,v=>∃vs:List Value,v=.func (.func f) vs.toArray #[]/\bM ρ H O w first vs
 |.agg _,_=>False|.ah _ _ _,_=>False|.bt _,_=>False|.fA id,v=>∃b,ρ id=.map (some b)/\v=.map (some b)/\(H id).isSome=true|.tag id,v=>v=ρ id/\v.oneCell'=true/\(H id).isSome=true
def bM(ρ:Nat->Value)(H:aT)(O:Nat->Prop)(w:World):List AV->List Value->Prop
 |[],vs=>vs=[]|a::aQ,vs=>∃v rest,vs=v::rest/\af ρ H O w a v/\bM ρ H O w aQ rest
def aA(ρ:Nat->Value)(H:aT)(O:Nat->Prop)(w:World):List AV->List Value->Prop
 |[],cs=>cs=[]|a::aQ,cs=>∃c1 c2,cs=c1++c2/\aR ρ H O w a c1/\aA ρ H O w aQ c2
def aR(ρ:Nat->Value)(H:aT)(O:Nat->Prop)(w:World):AV->List Value->Prop
 |.agg _,_=>False|.ah k n ws,cs=>ws.length=n/\cs=ws.map (Value.int k)|.s x,cs=>∃u,cs=[u]/\aX O w x u|.ptr id off,cs=>∃u,cs=[u]/\aO ρ H O w (.ptr id off) u|.kT id off n i,cs=>∃u,cs=[u]/\aO ρ H O w (.kT id off n i) u|.kp c i j,cs=>∃u,cs=[u]/\aO ρ H O w (.kp c i j) u|.vec id,cs=>∃u,cs=[u]/\aO ρ H O w (.vec id) u|.gR id i j,cs=>∃u,cs=[u]/\aO ρ H O w (.gR id i j) u|.part id lo n,cs=>∃u,cs=[u]/\aO ρ H O w (.part id lo n) u|.sub id off n,cs=>∃u,cs=[u]/\aO ρ H O w (.sub id off n) u|.lO id i j n,cs=>∃u,cs=[u]/\aO ρ H O w (.lO id i j n) u|.emp,cs=>∃u,cs=[u]/\∃a,u=.slice a 0 0|.fn f dw,cs=>∃u,cs=[u]/\∃vs:List Value,u=.func (.func f) #[] vs.toArray/\bM ρ H O w dw vs|.fnb f first,cs=>∃u,cs=[u]/\∃vs:List Value,u=.func (.func f) vs.toArray #[]/\bM ρ H O w first vs
 |.bt _,_=>False|.fA id,cs=>∃u,cs=[u]/\aO ρ H O w (.fA id) u|.tag id,cs=>∃u,cs=[u]/\aO ρ H O w (.tag id) u
def af(ρ:Nat->Value)(H:aT)(O:Nat->Prop)(w:World):AV->Value->Prop
 |.agg az,v=>∃cs:List Value,v=.agg cs.toArray/\aA ρ H O w az cs|.ah k n ws,v=>ws.length=n/\v=.agg (ws.map (Value.int k)).toArray|.bt vs,v=>∃us:List Value,v=.tuple us.toArray/\bM ρ H O w vs us|.s .aZ,_=>True|.s x,v=>aX O w x v|.ptr id off,v=>aO ρ H O w (.ptr id off) v|.kT id off n i,v=>aO ρ H O w (.kT id off n i) v|.kp c m j,v=>aO ρ H O w (.kp c m j) v|.vec id,v=>aO ρ H O w (.vec id) v|.gR id i j,v=>aO ρ H O w (.gR id i j) v|.part id lo n,v=>aO ρ H O w (.part id lo n) v|.sub id off n,v=>aO ρ H O w (.sub id off n) v|.lO id i j n,v=>aO ρ H O w (.lO id i j n) v|.emp,v=>∃a,v=.slice a 0 0|.fn f dw,v=>∃vs:List Value,v=.func (.func f) #[] vs.toArray/\bM ρ H O w dw vs|.fnb f first,v=>∃vs:List Value,v=.func (.func f) vs.toArray #[]/\bM ρ H O w first vs
 |.fA id,v=>aO ρ H O w (.fA id) v|.tag id,v=>aO ρ H O w (.tag id) v
end
theorem aX.one{O:Nat->Prop}{w:World}{x:SV}{v:Value}(h:aX O w x v):v.oneCell'=true:=by
 cases h<;>first|rfl|assumption
structure Step (ρ:Nat->Value) (H:aT) (O:Nat->Prop) (w:World) (aN:Nat->Value) (H':aT) (O':Nat->Prop) (w':World):Prop where
 wX:∀id o,H id=some o->aN id=ρ id
 aBG:∀id o,H id=some o->∃o',H' id=some o'/\∀c' e',o'=.vec c' e'->∃c e,o=.vec c e/\c'.n=c.n/\c'.size=c.size
 gu:∀b,O' b->O b\/w.heap.size<=b
 heap:∀b,b<w.heap.size->¬O b->w'.heap[b]? =w.heap[b]?
 size:w.heap.size<=w'.heap.size
theorem Step.refl(ρ:Nat->Value)(H:aT)(O:Nat->Prop)(w:World):Step ρ H O w ρ H O w:=
 ⟨λ_ _ _=>rfl,λ_ o h=>⟨o,h,λc' e' e=>⟨c',e',e,rfl,rfl⟩⟩,λ_ h=>.inl h,λ_ _ _=>rfl,le_refl _⟩
theorem ni{w w':World}{b o:Nat}(h:w'.heap[b]? =w.heap[b]?):w'.cell? ⟨b,o,none⟩=w.cell? ⟨b,o,none⟩:=by
 simp[World.cell?,h]
section
variable{ρ aN:Nat->Value}{H H':aT}{O O':Nat->Prop}{w w':World}
theorem Step.trans{awA:Nat->Value}{H'':aT}{O'':Nat->Prop}{w'':World}(h:Step ρ H O w aN H' O' w')(k:Step aN H' O' w' awA H'' O'' w'')
 :Step ρ H O w awA H'' O'' w'':=by
 refine⟨λid o ho=> ?_,λid o ho=> ?_,λb hb=> ?_,λb hb hO=> ?_,le_trans h.size k.size⟩;have⟨o',dI,_⟩:=h.aBG id o ho;rw[k.wX id o' dI,h.wX id o ho];have⟨o',dI,q⟩:=h.aBG id o ho;have⟨o'',azm,q'⟩:=k.aBG id o' dI;refine⟨o'',azm,λc e hc=> ?_⟩;have⟨c1,e1,h1,n1,s1⟩:=q' c e hc;have⟨c2,e2,h2,n2,s2⟩:=q c1 e1 h1;exact⟨c2,e2,h2,n1.trans n2,s1.trans s2⟩;rcases k.gu b hb with h1|h1;exact h.gu b h1;exact .inr (le_trans h.size h1);have azn:¬O' b:=λh1=>by rcases h.gu b h1 with h2|h2<;>first|exact hO h2|omega
 rw[k.heap b (by have:=h.size;omega) azn,h.heap b hb hO]
theorem aX.step(gu:∀b,O' b->O b\/w.heap.size<=b)(heap:∀b,b<w.heap.size->¬O b->w'.heap[b]? =w.heap[b]?)
 (size:w.heap.size<=w'.heap.size) {x:SV} {v:Value} (h:aX O w x v):aX O' w' x v:=by
 induction h with
 |aZ v hv=>exact .aZ v hv|bool b=>exact .bool b|aK b=>exact .aK b|lN n eq b hb=>exact .lN n eq b hb|abf k n=>exact .abf k n|int k n=>exact .int k n|aS k n=>exact .aS k n|str s=>exact .str s|jD=>exact .jD|afz=>exact .afz|afA=>exact .afA|afB=>exact .afB|qL=>exact .qL|rK f=>exact .rK f|ifi t k n=>exact .ifi t k n|ifs t s=>exact .ifs t s|ifb t b=>exact .ifb t b|raw v zs h=>exact .raw v zs h|rot c k a n cap _ hk ih=>exact .rot c k a n cap ih hk|nL k n h=>exact .nL k n h|qq k n h=>exact .qq k n h|ro c a cap us b o hn hm hb hc _ ih=>
  refine .ro c a cap us b o hn hm (λh0=> ?_) (λi j hi hj=> ?_) ih;have⟨e,h1,h2⟩:=hb h0;exact⟨e,λh3=>by rcases gu b h3 with h4|h4<;>first|exact h1 h4|omega,by omega⟩;have⟨_,h1,h2⟩:=hb (by omega);rw[ni (heap b h2 h1)];exact hc i j hi hj
mutual
theorem aO.step(st:Step ρ H O w aN H' O' w'):∀(x:AV) (v:Value),aO ρ H O w x v->aO aN H' O' w' x v
 |.s x,v,h=>by unfold aO at *;exact h.step st.gu st.heap st.size
 |.ptr id off,v,h=>by
  unfold aO at *;have⟨b,h1,h2,h3⟩:=h;have⟨o,ho⟩:=isSome_iff_exists.1 h3;have⟨o',dI,_⟩:=st.aBG id o ho;exact⟨b,by rw[st.wX id o ho,h1],h2,by rw[dI];rfl⟩
 |.kT id off n i,v,h=>by
  unfold aO at *;have⟨hi,b,h1,h2,h3⟩:=h;have⟨o,ho⟩:=isSome_iff_exists.1 h3;have⟨o',dI,_⟩:=st.aBG id o ho;exact⟨hi,b,by rw[st.wX id o ho,h1],h2,by rw[dI];rfl⟩
 |.kp c m j,v,h=>by
  unfold aO at *;have⟨b,o,us,h1,h2,h3,h4⟩:=h;refine⟨b,o,us,h1,λh5=> ?_,by have:=st.size;omega,λi hi=> ?_⟩;rcases st.gu b h5 with h6|h6<;>first|exact h2 h6|omega
  have⟨h5,h6⟩:=h4 i hi;exact⟨by rw[ni (st.heap b h3 h2)];exact h5,h6.step st.gu st.heap st.size⟩
 |.vec id,v,h=>by
  unfold aO at *;have⟨h0,o,ho,h1⟩:=h;have⟨o',dI,h2⟩:=st.aBG id o ho;refine⟨h0,o',dI,λc e hc=> ?_⟩;have⟨c1,e1,h3,_,_⟩:=h2 c e hc;rw[st.wX id o ho];exact h1 c1 e1 h3
 |.gR id i j,v,h=>by
  unfold aO at *;have⟨h0,o,ho,h1⟩:=h;have⟨o',dI,h2⟩:=st.aBG id o ho;refine⟨h0,o',dI,λc e hc=> ?_⟩;have⟨c1,e1,h3,hn,hs⟩:=h2 c e hc;rw[st.wX id o ho,hn,hs];exact h1 c1 e1 h3
 |.part id lo n,v,h=>by
  unfold aO at *;have⟨h0,o,ho,h1⟩:=h;have⟨o',dI,h2⟩:=st.aBG id o ho;refine⟨h0,o',dI,λc e hc=> ?_⟩;have⟨c1,e1,h3,hn,hs⟩:=h2 c e hc;rw[st.wX id o ho,hn,hs];exact h1 c1 e1 h3
 |.sub id off n,v,h=>by
  unfold aO at *;have⟨h0,b,a,cap,h1,h2,h4,h3⟩:=h;have⟨o,ho⟩:=isSome_iff_exists.1 h3;have⟨o',dI,_⟩:=st.aBG id o ho;exact⟨h0,b,a,cap,by rw[st.wX id o ho,h1],h2,h4,by rw[dI];rfl⟩
 |.lO id i j n,v,h=>by
  unfold aO at *;have⟨h0,o,ho,h1⟩:=h;have⟨o',dI,h2⟩:=st.aBG id o ho;refine⟨h0,o',dI,λc e hc=> ?_⟩;have⟨c1,e1,h3,hn,hs⟩:=h2 c e hc;rw[st.wX id o ho,hn,hs];exact h1 c1 e1 h3
 |.emp,v,h=>by unfold aO at *;exact h
 |.fn f dw,v,h=>by
  unfold aO at *;have⟨vs,h1,h2⟩:=h;exact⟨vs,h1,bM.step st dw vs h2⟩
 |.fnb f dw,v,h=>by
  unfold aO at *;have⟨vs,h1,h2⟩:=h;exact⟨vs,h1,bM.step st dw vs h2⟩
 |.agg _,v,h=>by unfold aO at h;exact h.elim
 |.ah _ _ _,v,h=>by unfold aO at h;exact h.elim
 |.bt _,v,h=>by unfold aO at h;exact h.elim
 |.fA id,v,h=>by
  unfold aO at *;have⟨b,h1,h2,h3⟩:=h;have⟨o,ho⟩:=isSome_iff_exists.1 h3;have⟨o',dI,_⟩:=st.aBG id o ho;exact⟨b,by rw[st.wX id o ho,h1],h2,by rw[dI];rfl⟩
 |.tag id,v,h=>by
  unfold aO at *;have⟨h1,h2,h3⟩:=h;have⟨o,ho⟩:=isSome_iff_exists.1 h3;have⟨o',dI,_⟩:=st.aBG id o ho;exact⟨by rw[st.wX id o ho,h1],h2,by rw[dI];rfl⟩
theorem bM.step(st:Step ρ H O w aN H' O' w'):∀(xs:List AV) (vs:List Value),bM ρ H O w xs vs->bM aN H' O' w' xs vs
 |[],vs,h=>by unfold bM at *;exact h
 |a::aQ,vs,h=>by
  unfold bM at *;have⟨v,rest,h1,h2,h3⟩:=h;exact⟨v,rest,h1,af.step st a v h2,bM.step st aQ rest h3⟩
theorem aA.step(st:Step ρ H O w aN H' O' w'):∀(xs:List AV) (cs:List Value),aA ρ H O w xs cs->aA aN H' O' w' xs cs
 |[],vs,h=>by unfold aA at *;exact h
 |a::aQ,vs,h=>by
  unfold aA at *;have⟨c1,c2,h1,h2,h3⟩:=h;exact⟨c1,c2,h1,aR.step st a c1 h2,aA.step st aQ c2 h3⟩
theorem aR.step(st:Step ρ H O w aN H' O' w'):∀(x:AV) (cs:List Value),aR ρ H O w x cs->aR aN H' O' w' x cs
 |.agg _,cs,h=>by unfold aR at h;exact h.elim
 |.ah _ _ _,cs,h=>by unfold aR at *;exact h
 |.s x,cs,h=>by unfold aR at *;have⟨u,h1,h2⟩:=h;exact⟨u,h1,h2.step st.gu st.heap st.size⟩
 |.ptr id off,cs,h=>by unfold aR at *;have⟨u,h1,h2⟩:=h;exact⟨u,h1,aO.step st (.ptr id off) u h2⟩
 |.kT id off n i,cs,h=>by unfold aR at *;have⟨u,h1,h2⟩:=h;exact⟨u,h1,aO.step st (.kT id off n i) u h2⟩
 |.kp c m j,cs,h=>by unfold aR at *;have⟨u,h1,h2⟩:=h;exact⟨u,h1,aO.step st (.kp c m j) u h2⟩
 |.vec id,cs,h=>by unfold aR at *;have⟨u,h1,h2⟩:=h;exact⟨u,h1,aO.step st (.vec id) u h2⟩
 |.gR id i j,cs,h=>by unfold aR at *;have⟨u,h1,h2⟩:=h;exact⟨u,h1,aO.step st (.gR id i j) u h2⟩
 |.part id lo n,cs,h=>by unfold aR at *;have⟨u,h1,h2⟩:=h;exact⟨u,h1,aO.step st (.part id lo n) u h2⟩
 |.sub id off n,cs,h=>by unfold aR at *;have⟨u,h1,h2⟩:=h;exact⟨u,h1,aO.step st (.sub id off n) u h2⟩
 |.lO id i j n,cs,h=>by unfold aR at *;have⟨u,h1,h2⟩:=h;exact⟨u,h1,aO.step st (.lO id i j n) u h2⟩
 |.emp,cs,h=>by unfold aR at *;exact h
 |.fn f dw,cs,h=>by
  unfold aR at *;have⟨u,h1,vs,h2,h3⟩:=h;exact⟨u,h1,vs,h2,bM.step st dw vs h3⟩
 |.fnb f dw,cs,h=>by
  unfold aR at *;have⟨u,h1,vs,h2,h3⟩:=h;exact⟨u,h1,vs,h2,bM.step st dw vs h3⟩
 |.bt _,cs,h=>by unfold aR at h;exact h.elim
 |.fA id,cs,h=>by unfold aR at *;have⟨u,h1,h2⟩:=h;exact⟨u,h1,aO.step st (.fA id) u h2⟩
 |.tag id,cs,h=>by unfold aR at *;have⟨u,h1,h2⟩:=h;exact⟨u,h1,aO.step st (.tag id) u h2⟩
theorem af.step(st:Step ρ H O w aN H' O' w'):∀(x:AV) (v:Value),af ρ H O w x v->af aN H' O' w' x v
 |.agg az,v,h=>by unfold af at *;have⟨cs,h1,h2⟩:=h;exact⟨cs,h1,aA.step st az cs h2⟩
 |.ah _ _ _,v,h=>by unfold af at *;exact h
 |.bt vs,v,h=>by unfold af at *;have⟨us,h1,h2⟩:=h;exact⟨us,h1,bM.step st vs us h2⟩
 |.s .aZ,v,h=>by unfold af;trivial
 |.s (.bool b),v,h=>by unfold af at *;exact h.step st.gu st.heap st.size
 |.s (.aK b),v,h=>by unfold af at *;exact h.step st.gu st.heap st.size
 |.s (.lN _ _),v,h=>by unfold af at *;exact h.step st.gu st.heap st.size
 |.s (.abf k),v,h=>by unfold af at *;exact h.step st.gu st.heap st.size
 |.s (.int k n),v,h=>by unfold af at *;exact h.step st.gu st.heap st.size
 |.s (.aS k n),v,h=>by unfold af at *;exact h.step st.gu st.heap st.size
 |.s (.str b),v,h=>by unfold af at *;exact h.step st.gu st.heap st.size
 |.s .jD,v,h=>by unfold af at *;exact h.step st.gu st.heap st.size
 |.s .afz,v,h=>by unfold af at *;exact h.step st.gu st.heap st.size
 |.s .afA,v,h=>by unfold af at *;exact h.step st.gu st.heap st.size
 |.s .afB,v,h=>by unfold af at *;exact h.step st.gu st.heap st.size
 |.s .qL,v,h=>by unfold af at *;exact h.step st.gu st.heap st.size
 |.s (.rK b),v,h=>by unfold af at *;exact h.step st.gu st.heap st.size
 |.s (.ifi _ _ _),v,h=>by unfold af at *;exact h.step st.gu st.heap st.size
 |.s (.ifs _ _),v,h=>by unfold af at *;exact h.step st.gu st.heap st.size
 |.s (.ifb _ _),v,h=>by unfold af at *;exact h.step st.gu st.heap st.size
 |.s (.raw _ _),v,h=>by unfold af at *;exact h.step st.gu st.heap st.size
 |.s (.ro b),v,h=>by unfold af at *;exact h.step st.gu st.heap st.size
 |.s (.rot _ _),v,h=>by unfold af at *;exact h.step st.gu st.heap st.size
 |.s (.nL _),v,h=>by unfold af at *;exact h.step st.gu st.heap st.size
 |.s (.qq _),v,h=>by unfold af at *;exact h.step st.gu st.heap st.size
 |.ptr id off,v,h=>by unfold af at *;exact aO.step st (.ptr id off) v h
 |.kT id off n i,v,h=>by unfold af at *;exact aO.step st (.kT id off n i) v h
 |.kp c m j,v,h=>by unfold af at *;exact aO.step st (.kp c m j) v h
 |.vec id,v,h=>by unfold af at *;exact aO.step st (.vec id) v h
 |.gR id i j,v,h=>by unfold af at *;exact aO.step st (.gR id i j) v h
 |.part id lo n,v,h=>by unfold af at *;exact aO.step st (.part id lo n) v h
 |.sub id off n,v,h=>by unfold af at *;exact aO.step st (.sub id off n) v h
 |.lO id i j n,v,h=>by unfold af at *;exact aO.step st (.lO id i j n) v h
 |.emp,v,h=>by unfold af at *;exact h
 |.fn f dw,v,h=>by
  unfold af at *;have⟨vs,h2,h3⟩:=h;exact⟨vs,h2,bM.step st dw vs h3⟩
 |.fnb f dw,v,h=>by
  unfold af at *;have⟨vs,h2,h3⟩:=h;exact⟨vs,h2,bM.step st dw vs h3⟩
 |.fA id,v,h=>by unfold af at *;exact aO.step st (.fA id) v h
 |.tag id,v,h=>by unfold af at *;exact aO.step st (.tag id) v h
end
end
inductive RM (α:Type)where
 |ret (a:α)|look (id:Nat) (k:Option ak->RM α)|fail (why:String)
def RM.eval{α:Type}(H:aT):RM α->Option α
 |.ret a=>some a|.look id k=>(k (H id)).eval H|.fail _=>none
def RM.ids{α:Type}(H:aT):RM α->List Nat
 |.ret _=>[]|.look id k=>id::(k (H id)).ids H|.fail _=>[]
def RM.why{α:Type}(H:aT):RM α->String
 |.ret _=> ""|.look _ k=>(k (H id)).why H|.fail w=>w
where id:Nat:=0
structure bR where
 ab:List Prop
 up:List (Nat×ak)
 new:List ak
 r:Nat->AV
def plain(ab:List Prop)(r:AV):RM bR:=.ret ⟨ab,[],[],λ_=>r⟩
def qM(why:String):Option (List Prop×AV)->RM bR
 |some (ab,r)=>plain ab r|none=>.fail why
def aB(n:Int):Prop:= -9223372036854775808<=n/\n<=9223372036854775807
def bU:IntKind->IntKind->Bool
 |.i8,.i8|.i16,.i16|.i32,.i32|.i64,.i64|.u8,.u8|.u16,.u16|.u32,.u32|.u64,.u64=>true|_,_=>false
def qs:IntKind->Bool
 |.i64=>true|_=>false
def bF(op:BinOp)(k:IntKind)(x y:Int):Int:=
 let a:=BitVec.ofInt k.bits x;let b:=BitVec.ofInt k.bits y
 match op with
 |.and=>k.wrap (a &&& b).toNat|.or=>k.wrap (a ||| b).toNat|.xor=>k.wrap (a ^^^ b).toNat|_=>k.wrap (a &&& ~~~b).toNat
def mkInt(lit:Bool)(k:IntKind)(n:Int):AV:=.s (if lit then .aS k n else .int k n)
def mc(lit:Bool)(b:Bool):AV:=.s (if lit then .aK b else .bool b)
def oo(lit:Bool)(k:IntKind)(n:Int):List Prop×AV:=
 bif lit then([],.s (.aS k (k.wrap n)))
 else bif qs k then([aB n],.s (.int k n))else([],.s (.int k (k.wrap n)))
def wY(op:BinOp)(k:IntKind)(lx ly:Bool)(x y:Int):Option (List Prop×AV):=
 let lit:=lx&&ly
 match op with
 |.add=>some (oo lit k (x+y))|.sub=>some (oo lit k (x - y))|.mul=>some (oo lit k (x*y))|.quo=>some (bif lit then([y≠0],.s (.aS k (k.wrap (x.tdiv y))))else bif qs k then([y≠0,aB (x.tdiv y)],.s (.int k (x.tdiv y)))else([y≠0],.s (.int k (k.wrap (x.tdiv y)))))|.rem=>some ([y≠0],mkInt lit k (x.tmod y))|.and|.or|.xor|.andNot=>some ([],mkInt lit k (bF op k x y))|.eql=>some ([],mc lit (x==y))|.neq=>some ([],mc lit (x !=y))|.lss=>some ([],mc lit (decide (x<y)))|.leq=>some ([],mc lit (decide (x<=y)))|.gtr=>some ([],mc lit (decide (x>y)))|.geq=>some ([],mc lit (decide (x>=y)))|_=>none
def afC(op:BinOp)(k:IntKind)(lit:Bool)(x y:Int):Option (List Prop×AV):=
 match op with
 |.shl=>some ([0<=y],mkInt lit k (k.wrap (x*2^(min y.toNat k.bits))))|.shr=>some ([0<=y],mkInt lit k (x.fdiv (2^(min y.toNat k.bits))))|_=>none
def slt(x y:ByteArray):Bool:=Op.bytesLess x.data.toList y.data.toList
def afD(op:BinOp)(x y:ByteArray):Option (List Prop×AV):=
 match op with
 |.add=>some ([x.size+y.size<=4611686018427387904],.s (.str (x++y)))|.eql=>some ([],.s (.bool (decide (x=y))))|.neq=>some ([],.s (.bool (!decide (x=y))))|.lss=>some ([],.s (.bool (slt x y)))|.leq=>some ([],.s (.bool (slt x y||decide (x=y))))|.gtr=>some ([],.s (.bool !(slt x y||decide (x=y))))|.geq=>some ([],.s (.bool !(slt x y)))|_=>none
def AV.cD :AV->Option (IntKind×Bool×Int)
 |.s (.int k n)=>some (k,false,n)|.s (.aS k n)=>some (k,true,n)|_=>none
def AV.fO :AV->Option (Bool×Bool)
 |.s (.bool b)=>some (false,b)|.s (.aK b)=>some (true,b)|_=>none
def unR(op:UnOp)(x:AV):Option (List Prop×AV):=
 match op,x with
 |.not,.s (.bool b)=>some ([],.s (.bool !b))|.not,.s (.aK b)=>some ([],.s (.aK !b))|.neg,.s (.int k n)=>some (oo false k (0 - n))|.neg,.s (.aS k n)=>some (oo true k (0 - n))|_,_=>none
def alc(c a b:AV):Option (List Prop×AV):=
 match c with
 |.s (.aK true)=>some ([],a)|.s (.aK false)=>some ([],b)|.s (.bool c)=>
  match a.fO,b.fO with
  |some (_,x),some (_,y)=>some ([],.s (.bool (bif c then x else y)))|_,_=>
   match a.cD,b.cD with
   |some (k,_,x),some (k',_,y)=>bif bU k k' then some ([],.s (.int k (bif c then x else y)))else none|_,_=>none
 |_=>none
def dY(P:Program)(t:TypeId):Option Nat:=(P.info? t).map (·.size)
def iy(P:Program)(t:TypeId):Option Bool:=
 match P.underlying t with
 |some (.struct _)|some (.array _ _)=>some true|some _=>some false|none=>none
def kindOf(P:Program)(t:TypeId):Option IntKind:=
 match P.underlying t with
 |some (.int k)=>some k|_=>none
def AV.wide:AV->Nat
 |.ah _ n _=>n|_=>1
def fP:List AV->Nat->Option (List AV)
 |az,0=>some az|[],_+1=>none|a::aQ,n+1=>bif a.wide.ble (n+1)then fP aQ (n+1 - a.wide)else none
def fQ:List AV->Nat->Option (List AV)
 |_,0=>some []|[],_+1=>none|a::aQ,n+1=>bif a.wide.ble (n+1)&&(1:Nat).ble a.wide then(fQ aQ (n+1 - a.wide)).map (a:: ·)else none
def cellAt:List AV->Nat->Option AV
 |[],_=>none|.ah k n ws::aQ,off=>bif off.blt n then some (.s (.int k (ws.getD off 0)))else cellAt aQ (off - n)|a::_,0=>some a|_::aQ,off+1=>cellAt aQ off
def gW:List AV->Nat->AV->Option (List AV)
 |[],_,_=>none|.ah k n ws::aQ,off,v=>bif off.blt n then
  (match v.cD with
   |some (k',_,x)=>bif bU k k' then some (.ah k n (ws.set off x)::aQ)else none|none=>none)
  else(gW aQ (off - n) v).map (.ah k n ws:: ·)
 |_::aQ,0,v=>some (v::aQ)|a::aQ,off+1,v=>(gW aQ off v).map (a:: ·)
def jV:List AV->Nat->Option (IntKind×Nat×List Int)
 |.ah k n ws::aQ,off=>bif off.beq 0 then some (k,n,ws)else bif off.blt n then none else jV aQ (off - n)|_::aQ,off+1=>jV aQ off|_,_=>none
def kU:List AV->Nat->List Int->Option (List AV)
 |.ah k n ws::aQ,off,nU=>bif off.beq 0 then some (.ah k n nU::aQ)else bif off.blt n then none else(kU aQ (off - n) nU).map (.ah k n ws:: ·)|a::aQ,off+1,nU=>(kU aQ off nU).map (a:: ·)|_,_,_=>none
def AV.single:AV->Bool
 |.s .aZ|.agg _|.ah _ _ _|.bt _=>false|_=>true
def AV.ka :AV->Option (List AV)
 |.agg az=>some az|.ah k n ws=>some [.ah k n ws]|.bt _|.s .aZ=>none|a=>some [a]
def AV.mf:List AV->AV
 |[.ah k n ws]=>.ah k n ws|az=>.agg az
def gv:List AV->Nat
 |[]=>0|a::aQ=>a.wide+gv aQ
def afE(az:List AV)(off:Nat)(kb:List AV):Option (List AV):=
 match az,kb with
 |[.ah k n ws],[x]=>match x.cD with
  |some (k',_,z)=>bif bU k k'&&off.blt n then some [.ah k n (ws.set off z)]else none|none=>none
 |_,_=>none
def wm(az:List AV)(off:Nat)(kb:List AV):Option (List AV):=
 match afE az off kb with
 |some r=>some r|none=>
 match fQ az off,fP az (off+gv kb)with
 |some pre,some post=>some (pre++kb++post)|_,_=>none
def ajw(P:Program)(rec:TypeId->List AV->List AV->Option Bool):List Field->List AV->List AV->Option Bool
 |[],_,_=>some true|f::fs,xs,ys=>bif f.name== "_" then ajw P rec fs xs ys else
  match dY P f.type,iy P f.type with
  |some sz,some zv=>bif zv||sz.beq 1 then(match(fP xs f.offset).bind (fQ · sz),(fP ys f.offset).bind (fQ · sz)with
   |some a,some b=>(match rec f.type a b,ajw P rec fs xs ys with
    |some p,some q=>some (p&&q)|_,_=>none)
   |_,_=>none)else none
  |_,_=>none
def eqC(P:Program):Nat->TypeId->List AV->List AV->Option Bool
 |0,_,_,_=>none|d+1,t,xs,ys=>
  match P.underlying t with
  |some (.int _)=>(match xs,ys with
   |[x],[y]=>(match x.cD,y.cD with
    |some (k,_,a),some (k',_,b)=>bif bU k k' then some (a==b)else none|_,_=>none)
   |_,_=>none)
  |some .bool=>(match xs,ys with
   |[x],[y]=>(match x.fO,y.fO with
    |some (_,a),some (_,b)=>some (a==b)|_,_=>none)
   |_,_=>none)
  |some .string=>(match xs,ys with
   |[.s (.str a)],[.s (.str b)]=>some (decide (a=b))|_,_=>none)
  |some (.array n e)=>(match xs,ys with
   |[.ah k m ws],[.ah k' m' nU]=>
    (match P.underlying e with
     |some (.int k'')=>bif (1:Nat).ble d&&bU k k'&&bU k k''&&n==m&&m==m'&&(P.info? e).any (λi=>i.size==1)then some (decide (ws=nU))else none|_=>none)
   |_,_=>none)
  |some (.struct fs)=>bif P.stoodInHeld t then none else ajw P (eqC P d) fs.toList xs ys|_=>none
def ald(P:Program)(t:TypeId):Bool:=match P.underlying t with|some (.int _)=>true|_=>false
def ale(P:Program)(t:TypeId):Bool:=match P.underlying t with|some .string=>true|_=>false
def ahn(P:Program)(t:TypeId):Bool:=match P.underlying t with|some .bool=>true|_=>false
def alf(P:Program):AV->AV->Option Bool
 |.s (.ifi t k n),.s (.ifi t' k' n')=>bif t.beq t'&&bU k k'&&(P.info? t).any (·.comparable)&&ald P t then some (n==n')else none|.s (.ifs t s),.s (.ifs t' s')=>bif t.beq t'&&(P.info? t).any (·.comparable)&&ale P t then some (decide (s=s'))else none|.s (.ifb t b),.s (.ifb t' b')=>bif t.beq t'&&(P.info? t).any (·.comparable)&&ahn P t then some (b==b')else none|_,_=>none
def eqI(P:Program):List AV->List AV->Option Bool
 |[],[]=>some true|x::xs,y::ys=>match alf P x y,eqI P xs ys with
  |some a,some b=>some (a&&b)|_,_=>none
 |_,_=>none
def eqR(P:Program)(t:TypeId)(x y:AV):Option (Bool×Bool):=
 match P.underlying t,x,y with
 |some .bool,x,y=>match x.fO,y.fO with
  |some (lx,a),some (ly,b)=>some (lx&&ly,a==b)|_,_=>none
 |some (.array n e),.ah k m ws,.ah k' m' nU=>
  match P.underlying e with
  |some (.int k'')=>bif bU k k'&&bU k k''&&n==m&&m==m'&&(P.info? e).any (λi=>i.size==1)&& !P.eqGuardType P.depth t then some (false,decide (ws=nU))else none|_=>none
 |some (.pointer _),.s .jD,.s .jD=>some (true,true)|some (.pointer _),.s .jD,.ptr _ _|some (.pointer _),.ptr _ _,.s .jD=>some (true,false)|some (.array n e),.agg xs,.agg ys=>
  match P.underlying e with
  |some (.interface _)=>bif n==xs.length&&n==ys.length&&(P.info? e).any (λi=>i.size==1)&& !P.eqGuardType P.depth t then(eqI P xs ys).map λb=>(false,b)else none|_=>none
 |some (.struct _),.agg xs,.agg ys=>bif P.eqGuardType P.depth t then none else(eqC P 20 t xs ys).map λb=>(false,b)|_,_,_=>none
def AV.kind? :AV->Option IntKind
 |.s (.int k _)|.s (.aS k _)|.s (.abf k)=>some k|_=>none
def afF(op:BinOp)(k:IntKind):Option AV:=
 match op with
 |.add|.sub|.mul|.and|.or|.xor|.andNot=>some (.s (.abf k))|.eql|.neq|.lss|.leq|.gtr|.geq=>some (.s (.lN 0 true))|_=>none
def apt(P:Program)(op:BinOp)(t:TypeId)(x y:AV):Option (List Prop×AV):=
 match x,y with
 |.s (.str a),.s (.str b)=>afD op a b|x,y=>
  match x.cD,y.cD with
  |some (k,lx,a),some (k',ly,b)=>
   match op with
   |.shl|.shr=>afC op k (lx&&ly) a b|_=>bif bU k k' then wY op k lx ly a b else none
  |_,_=>
   match x.kind?,y.kind? with
   |some k,some k'=>bif bU k k' then(afF op k).map λr=>([],r)else none|_,_=>
   match op with
   |.eql=>(eqR P t x y).map λ(l,b)=>([],mc l b)|.neq=>(eqR P t x y).map λ(l,b)=>([],mc l (!b))|_=>none
def apu:Value->Option SV
 |.bool b=>some (.aK b)|.int k n=>some (.aS k n)|.string s=>some (.str s)|.pointer none=>some .jD|.nilIface=>some .afz|.nilFunc=>some .afA|.map none=>some .afB|_=>none
def rL:Value->Option AV
 |.slice none 0 0=>some .emp|v=>(apu v).map .s
def rM:List Value->Option (List AV)
 |[]=>some []|v::vs=>match rL v,rM vs with
  |some a,some aQ=>some (a::aQ)|_,_=>none
def oq(k:IntKind):List Value->Bool
 |[]=>true|.int k' 0::vs=>bU k k'&&oq k vs|_=>false
def iz(P:Program):Nat->TypeId->List Value->Option (List AV)
 |0,_,_=>none|d+1,t,cs=>
  match P.underlying t with
  |some (.struct fs)=>fs.toList.foldl (λacc f=>
   match acc,dY P f.type with
   |some (az,rest),some n=>(iz P d f.type (rest.take n)).map λs=>(az++s,rest.drop n)|_,_=>none) (some ([],cs)) |>.bind λ(az,rest)=>match rest with|[]=>some az|_=>none
  |some (.array n e)=>match kindOf P e with
   |some k=>bif oq k cs&&cs.length==n then some [.ah k n (replicate n 0)]else rM cs|none=>rM cs
  |_=>rM cs
def abg:Value->AV
 |.agg cs=>match rM cs.toList with|some aQ=>.agg aQ|none=>.s .aZ
 |v=>(rL v).getD (.s .aZ)
def zeroOf(P:Program)(t:TypeId):Option AV:=
 match(P.info? t).bind (·.zero),iy P t with
 |some (.agg cs),some true=>(iz P 20 t cs.toList).map .mf|some v,some false=>rL v|_,_=>none
def CL.az:(cs:List CK)->CL cs->List AV
 |[],_=>[]|.arr k n::cs,x=>.ah k n x.1::CL.az cs x.2|.int k::cs,x=>.s (.int k x.1)::CL.az cs x.2|.bool::cs,x=>.s (.bool x.1)::CL.az cs x.2|.str::cs,x=>.s (.str x.1)::CL.az cs x.2|.ah k::cs,x=>.s (.ro (.ah k x.1))::CL.az cs x.2|.strs::cs,x=>.s (.ro (.strs x.1))::CL.az cs x.2|.bG::cs,x=>.s (.ro (.bG x.1))::CL.az cs x.2|.rows ds::cs,x=>.s (.ro (.au ds x.1))::CL.az cs x.2
def fi:List AV->List Prop
 |[]=>[]|.ah _ n ws::aQ=>(ws.length=n)::fi aQ|_::aQ=>fi aQ
def alg(k:IntKind):SV->Option Int
 |.int k' x|.aS k' x=>bif bU k k' then some x else none|_=>none
def afG:SV->Option Bool
 |.bool x|.aK x=>some x|_=>none
def alh:SV->Option ByteArray
 |.str x=>some x|_=>none
def afH(k:IntKind):SV->Option (List Int)
 |.ro (.ah k' zs)=>bif bU k k' then some zs else none|.ro (.fh _ 0 _)=>some []|_=>none
def afI:SV->Option (List ByteArray)
 |.ro (.strs zs)=>some zs|.ro (.fh _ 0 _)=>some []|_=>none
def abh:SV->Option (List Bool)
 |.ro (.bG zs)=>some zs|.ro (.fh _ 0 _)=>some []|_=>none
def afJ(cs:List CK):SV->Option (List (CL cs))
 |.ro (.au kc zs)=>(CL.eq kc cs).map λh=>acQ h zs|.ro (.fh _ 0 _)=>some []|_=>none
def CK.set:(c:CK)->c.V->Nat->SV->Option c.V
 |.int k,_,_,v=>alg k v|.bool,_,_,v=>afG v|.str,_,_,v=>alh v|.ah k,_,_,v=>afH k v|.strs,_,_,v=>afI v|.bG,_,_,v=>abh v|.rows cs,_,_,v=>afJ cs v|.arr _ _,_,_,_=>none
def CL.set:(cs:List CK)->CL cs->Nat->SV->Option (CL cs)
 |[],_,_,_=>none|c::cs,x,j,v=>bif j.blt c.wide then(c.set x.1 j v).map λy=>(y,x.2)else(CL.set cs x.2 (j - c.wide) v).map λy=>(x.1,y)
def CK.setRow:(c:CK)->IntKind->Nat->List Int->Option c.V
 |.arr k' n',k,n,ws=>bif bU k k'&&n.beq n' then some ws else none|_,_,_,_=>none
def CL.setRow:(cs:List CK)->CL cs->Nat->IntKind->Nat->List Int->Option (CL cs)
 |[],_,_,_,_,_=>none|c::cs,x,j,k,n,ws=>bif j.beq 0 then(c.setRow k n ws).map λy=>(y,x.2)
   else bif c.wide.ble j then(CL.setRow cs x.2 (j - c.wide) k n ws).map λy=>(x.1,y)else none
def rN(zv:Bool)(c:aV)(i j sz:Nat):RM bR:=
 bif zv then
  (match c with
   |.au cs xs=>(match(fP (CL.az cs (xs.getD i (CL.d cs))) j).bind (fQ · sz)with
     |some ss=>plain (fi (CL.az cs (xs.getD i (CL.d cs)))) (.mf ss)|none=>.fail "load: no such parts of the element")
   |c=>bif (j+sz).ble c.size then plain [] (.agg ((List.range sz).map λl=>.s (c.cell i (j+l))))else .fail "load: beyond the element")
 else(bif j.blt c.size then plain [] (.s (c.cell i j))else .fail "load: beyond the element")
def aho(P:Program)(t:TypeId)(a:AV):RM bR:=
 match dY P t,iy P t with
 |some sz,some zv=>
  match a with
  |.ptr id off=>.look id λ
   |some (.aq az _)=>bif zv then
    (match(fP az off).bind (fQ · sz)with
     |some ss=>plain [] (.mf ss)|none=>.fail "load: no such parts")
    else(match cellAt az off with
     |some v=>plain [] v|none=>.fail "load: no such cell")
   |_=>.fail "load: no own object"
  |.kT id off n i=>.look id λ
   |some (.aq az _)=>match jV az off with
    |some (k,m,ws)=>bif m.beq n&& !zv then plain [] (.s (.int k (ws.getD i 0)))else .fail "load: a row of another length"|none=>.fail "load: no row"
   |_=>.fail "load: no own object"
  |.kp c i j=>rN zv c i j sz|.gR id i j=>.look id λ
   |some (.vec c _)=>rN zv c i j sz|_=>.fail "load: no vec"
  |_=>.fail "load: no address"
 |_,_=>.fail "load: no type"
def tL:aV->Nat->Nat->SV->Option aV
 |.ah k zs,i,_,v=>match v with
  |.int k' x|.aS k' x=>bif bU k k' then some (.ah k (zs.set i x))else none|_=>none
 |.strs ss,i,_,v=>match v with
  |.str x=>some (.strs (ss.set i x))|_=>none
 |.bG bs,i,_,v=>match v with
  |.bool x|.aK x=>some (.bG (bs.set i x))|_=>none
 |.au cs xs,i,j,v=>(CL.set cs (xs.getD i (CL.d cs)) j v).map λy=>.au cs (xs.set i y)|.fh s n get,i,j,v=>some (.fh s n λi' j'=>bif i'==i&&j'==j then v else get i' j')
def pK:aV->Nat->Nat->IntKind->Nat->List Int->Option aV
 |.au cs xs,i,j,k,n,ws=>(CL.setRow cs (xs.getD i (CL.d cs)) j k n ws).map λy=>.au cs (xs.set i y)|_,_,_,_,_,_=>none
def fj(c:aV)(i j:Nat):List AV->Option aV
 |[]=>some c|.s v::aQ=>(tL c i j v).bind λc'=>fj c' i (j+1) aQ|.ah k n ws::aQ=>(pK c i j k n ws).bind λc'=>fj c' i (j+n) aQ|_=>none
def ou(cs:List CK)(x:CL cs)(j:Nat):List AV->Option (CL cs)
 |[]=>some x|.s v::aQ=>(CL.set cs x j v).bind λy=>ou cs y (j+1) aQ|.ah k n ws::aQ=>(CL.setRow cs x j k n ws).bind λy=>ou cs y (j+n) aQ|_=>none
def ahp(c:aV)(i j:Nat)(kb:List AV):Option aV:=match c with
 |.au cs xs=>(ou cs (xs.getD i (CL.d cs)) j kb).map λy=>.au cs (xs.set i y)|_=>fj c i j kb
def afK(P:Program)(t:TypeId)(a x:AV):RM bR:=
 match dY P t,iy P t with
 |some sz,some zv=>
  match a with
  |.ptr id off=>.look id λ
   |some (.aq az e)=>
    bif zv then
     (match x.ka with
      |some kb=>bif (gv kb).beq sz&&(1:Nat).ble sz then
       (match wm az off kb with
        |some de=>.ret ⟨[],[(id,.aq de e)],[],λ_=>.bt []⟩|none=>.fail "store: no such parts")else .fail "store: another size"
      |none=>.fail "store: no parts")
    else(bif x.single&&sz.beq 1 then
     (match gW az off x with
      |some de=>.ret ⟨[],[(id,.aq de e)],[],λ_=>.bt []⟩|none=>.fail "store: no such cell")else .fail "store: no one cell")
   |_=>.fail "store: no own object"
  |.kT id off n i=>.look id λ
   |some (.aq az e)=>match jV az off,x.cD with
    |some (k,m,ws),some (k',_,y)=>bif m.beq n&&bU k k'&& !zv&&sz.beq 1 then
     (match kU az off (ws.set i y)with
      |some de=>.ret ⟨[],[(id,.aq de e)],[],λ_=>.bt []⟩|none=>.fail "store: no row")else .fail "store: a row of another length"
    |_,_=>.fail "store: no row"
   |_=>.fail "store: no own object"
  |.gR id i j=>.look id λ
   |some (.vec c e)=>match x.ka with
    |some kb=>bif (gv kb).beq sz&&(j+sz).ble c.size then
     (match ahp c i j kb with
      |some c'=>.ret ⟨[],[(id,.vec c' e)],[],λ_=>.bt []⟩|none=>.fail "store: another kind of element")else .fail "store: another size"
    |none=>.fail "store: no parts"
   |_=>.fail "store: no vec"
  |_=>.fail "store: no own address"
 |_,_=>.fail "store: no type"
def qN(P:Program)(t:TypeId)(x:AV)(f:Nat):RM bR:=
 match P.underlying t with
 |some (.struct fs)=>match fs[f]? with
  |some fd=>bif (dY P fd.type).any (λn=>(1:Nat).ble n)then
   (match x with
    |.ptr id off=>plain [] (.ptr id (off+fd.offset))|.kp c i j=>plain [] (.kp c i (j+fd.offset))|.gR id i j=>.look id λ
     |some (.vec c _)=>bif (j+fd.offset).blt c.size then plain [] (.gR id i (j+fd.offset))else .fail "fieldAddr: beyond"|_=>.fail "fieldAddr: no vec"
    |_=>.fail "fieldAddr: no address")else .fail "fieldAddr: an empty field"
  |none=>.fail "fieldAddr: no field"
 |_=>.fail "fieldAddr: no struct"
def qO(P:Program)(t:TypeId)(x i:AV):RM bR:=
 match i.cD,P.underlying t with
 |some (_,_,n),some (.slice e)=>
  (match dY P e,x with
   |some sz,.s (.ro c)=>bif sz.beq c.size then plain [0<=n,n<c.n] (.kp c n.toNat 0)else .fail "indexAddr: size"|some sz,.vec id=>.look id λ
    |some (.vec c _)=>bif sz.beq c.size&&(1:Nat).ble sz then plain [0<=n,n<c.n] (.gR id n.toNat 0)else .fail "indexAddr: size"|_=>.fail "indexAddr: no vec"
   |some sz,.part id lo m=>.look id λ
    |some (.vec c _)=>bif sz.beq c.size&&(1:Nat).ble sz then plain [0<=n,n<m] (.gR id (lo+n.toNat) 0)else .fail "indexAddr: size"|_=>.fail "indexAddr: no vec"
   |_,_=>.fail "indexAddr: no slice")
 |some (_,lit,n),some (.array len e)=>
  (match dY P e,x with
   |some sz,.ptr id off=>bif lit then
    (bif decide (0<=n)&&decide (n<len)then plain [] (.ptr id (off+n.toNat*sz))else .fail "indexAddr: out of range")
    else(bif sz.beq 1 then plain [0<=n,n<len] (.kT id off len n.toNat)else .fail "indexAddr: wide elements")
   |some sz,.gR id i0 0=>.look id λ
    |some (.vec c _)=>bif sz.beq c.size&&(1:Nat).ble sz then plain [0<=n,n<len,i0+n<c.n] (.gR id (i0+n.toNat) 0)else .fail "indexAddr: size"|_=>.fail "indexAddr: no vec"
   |_,_=>.fail "indexAddr: no array")
 |_,_=>.fail "indexAddr: no number or type"
def aL(s:ByteArray)(i:Nat):Int:=((s.data.toList.getD i 0).toNat:Int)
def afL(P:Program)(t:TypeId)(x i:AV):RM bR:=
 match i.cD,P.underlying t,x with
 |some (_,_,n),some (.array len e),.ah k m ws=>bif len.beq m&&(iy P e).any (!·)&&(dY P e).any (·.beq 1)then plain [0<=n,n<len] (.s (.int k (ws.getD n.toNat 0)))else .fail "index: array"|some (_,_,n),some .string,.s (.str s)=>plain [0<=n,n<s.size] (.s (.int .u8 (aL s n.toNat)))|some (_,_,n),some (.array len e),.agg az=>bif (iy P e).any (!·)&&(dY P e).any (·.beq 1)then
  (match cellAt az n.toNat with
   |some v=>plain [0<=n,n<len] v|none=>.fail "index: no cell")else .fail "index: array of parts"
 |_,_,_=>.fail "index"
def afM(P:Program)(t:TypeId)(x:AV)(f:Nat):RM bR:=
 match P.underlying t,x with
 |some (.struct fs),.agg az=>match fs[f]? with
  |some fd=>match dY P fd.type,iy P fd.type with
   |some sz,some true=>match(fP az fd.offset).bind (fQ · sz)with
    |some ss=>plain [] (.mf ss)|none=>.fail "field: parts"
   |some _,some false=>match cellAt az fd.offset with
    |some v=>plain [] v|none=>.fail "field: cell"
   |_,_=>.fail "field: type"
  |none=>.fail "field: none"
 |_,_=>.fail "field"
def wZ(x:AV)(i:Nat):RM bR:=
 match x with
 |.bt vs=>match vs[i]? with
  |some v=>plain [] v|none=>.fail "extract"
 |_=>.fail "extract: no tuple"
def abi(P:Program)(t:TypeId):Option Nat:=
 match P.underlying t,P.info? t with
 |some (.array n e),some i=>match P.underlying e,i.zero with
  |some .string,some z=>bif (4:Nat).ble n&&n.ble 4096&&z.cells.size.beq n&&z.cells.toList.all (λv=>match v with|.string s=>s.size.beq 0|_=>false)then some n else none|_,_=>none
 |_,_=>none
def afN(P:Program)(t:TypeId):RM bR:=
 match abi P t with
 |some n=>.ret ⟨[],[],[.vec (.strs (replicate n empty)) t],λid=>.gR id 0 0⟩|none=>
 match(zeroOf P t).bind AV.ka with
 |some az=>.ret ⟨[],[],[.aq az t],λid=>.ptr id 0⟩|none=>.fail "alloc: zero"
def atN(t:TypeId)(v:AV):RM bR:=
 match v.ka with
 |some az=>.ret ⟨[],[],[.aq az t],λid=>.ptr id 0⟩|none=>.fail "box"
def qP(place:Nat->Option (Nat×Nat))(az:List AV):List (Nat×AV)->Option (List AV)
 |[]=>some az|(i,v)::rest=>
  match place i,v.ka with
  |some (off,size),some kb=>bif (gv kb).beq size&&(1:Nat).ble size then(wm az off kb).bind λs=>qP place s rest else none|_,_=>none
def afO(P:Program)(t:TypeId)(parts:List (Nat×AV)):RM bR:=
 match(zeroOf P t).bind AV.ka,P.underlying t with
 |some az,some (.struct fs)=>bif fs.toList.all (λf=>(dY P f.type).isSome)then
  match qP (λi=>(fs[i]?).bind λf=>(dY P f.type).map λn=>(f.offset,n)) az parts with
  |some ss=>plain [] (.mf ss)|none=>.fail "build: parts"
  else .fail "build: a field's size"
 |some az,some (.array _ e)=>
  match dY P e with
  |some sz=>match qP (λi=>some (i*sz,sz)) az parts with
   |some ss=>plain [] (.mf ss)|none=>.fail "build: array"
  |none=>.fail "build: element"
 |_,_=>.fail "build: zero"
def AV.sv? :AV->Option SV
 |.s .aZ=>none|.s v=>some v|.emp=>some (.ro (.fh 1 0 λ_ _=>.aZ))|_=>none
def svs:List AV->Option (List SV)
 |[]=>some []|.ah _ _ _::_=>none|a::aQ=>match a.sv?,svs aQ with
  |some v,some vs=>some (v::vs)|_,_=>none
def qQ(k:IntKind):List SV->Option (List Int)
 |[]=>some []|.int k' n::vs|.aS k' n::vs=>bif bU k k' then(qQ k vs).map (n:: ·)else none|_=>none
def tM:List SV->Option (List ByteArray)
 |[]=>some []|.str s::vs=>(tM vs).map (s:: ·)|_=>none
def pL:List SV->Option (List Bool)
 |[]=>some []|.bool b::vs|.aK b::vs=>(pL vs).map (b:: ·)|_=>none
inductive Shape where
 |ah (k:IntKind)|strs|bG|au (cs:List CK)|other
def ali(P:Program):Nat->TypeId->Option (List CK)
 |0,_=>none|d+1,t=>
  match P.underlying t with
  |some (.int k)=>some [.int k]|some .bool=>some [.bool]|some .string=>some [.str]|some (.slice e)=>match P.underlying e with
   |some (.int k)=>some [.ah k]|some .string=>some [.strs]|some .bool=>some [.bG]|_=>(ali P d e).map λcs=>[.rows cs]
  |some (.struct fs)=>fs.toList.foldr (λf acc=>match ali P d f.type,acc with
   |some a,some b=>some (a++b)|_,_=>none) (some [])
  |some (.array n e)=>match P.underlying e with
   |some (.int k)=>some [.arr k n]|_=>none
  |_=>none
def shapeOf(P:Program)(e:TypeId):Shape:=
 match P.underlying e with
 |some (.int k)=>.ah k|some .string=>.strs|some .bool=>.bG|_=>match ali P 8 e with
  |some cs=>.au cs|none=>.other
def CL.ofs(cs:List CK)(f:Nat->SV):Option (CL cs):=(List.range (CL.wide cs)).foldl (λacc j=>acc.bind λx=>CL.set cs x j (f j)) (some (CL.d cs))
def aae(cs:List CK)(size:Nat)(cells:List SV):Nat->Nat->Option (List (CL cs))
 |_,0=>some []|i,n+1=>match CL.ofs cs (λj=>cells.getD (i*size+j) .aZ),aae cs size cells (i+1) n with
  |some x,some xs=>some (x::xs)|_,_=>none
def vk(sh:Shape)(size n:Nat)(cells:List SV):aV:=
 let d:aV:=.fh size n λi j=>cells.getD (i*size+j) .aZ
 match sh with
 |.ah k=>(qQ k cells).elim d (.ah k)|.strs=>(tM cells).elim d .strs|.bG=>(pL cells).elim d .bG|.au cs=>bif (CL.wide cs).beq size then(aae cs size cells 0 n).elim d (.au cs)else d|.other=>d
def alj(sh:Shape)(size:Nat):aV:=
 match sh with
 |.ah k=>.ah k []|.strs=>.strs []|.bG=>.bG []|.au cs=>.au cs []|.other=>.fh size 0 λ_ _=>.aZ
def rep{α:Type}(n:Nat)(x:List α):List α:=
 match n with
 |0=>[]|n+1=>x++rep n x
def ov(P:Program)(t:TypeId)(n:Nat)(parts:List (Nat×AV)):RM bR:=
 match P.underlying t with
 |some (.slice e)=>
  match dY P e,(zeroOf P e).bind AV.ka with
  |some sz,some z=>bif (1:Nat).ble sz&&(n*sz).ble 4096&&(gv z).beq sz then
   (match(qP (λi=>some (i*sz,sz)) (rep n z) parts).bind svs with
    |some cells=>bif cells.length.beq (n*sz)&&(vk (shapeOf P e) sz n cells).n.beq n&&(vk (shapeOf P e) sz n cells).size.beq sz then .ret ⟨[],[],[.vec (vk (shapeOf P e) sz n cells) e],λid=>.vec id⟩else .fail "buildSlice: length"|none=>.fail "buildSlice: parts")else .fail "buildSlice: size"
  |_,_=>.fail "buildSlice: zero"
 |_=>.fail "buildSlice: type"
def dA:aV->aV->aV
 |.ah k xs,.ah k' ys=>bif bU k k' then .ah k (xs++ys)else .fh 1 (xs.length+ys.length) λi j=>bif i.blt xs.length then(aV.ah k xs).cell i j else(aV.ah k' ys).cell (i - xs.length) j|.strs xs,.strs ys=>.strs (xs++ys)|.bG xs,.bG ys=>.bG (xs++ys)|.au cs xs,.au kc ys=>match CL.eq kc cs with
  |some h=>.au cs (xs++acQ h ys)|none=>.fh (CL.wide cs) (xs.length+ys.length) λi j=>bif i.blt xs.length then(aV.au cs xs).cell i j else(aV.au kc ys).cell (i - xs.length) j
 |c,d=>.fh c.size (c.n+d.n) λi j=>bif i.blt c.n then c.cell i j else d.cell (i - c.n) j
def dT:aV->Nat->Nat->aV
 |.ah k zs,l,h=>.ah k ((zs.take h).drop l)|.strs zs,l,h=>.strs ((zs.take h).drop l)|.bG zs,l,h=>.bG ((zs.take h).drop l)|.au cs zs,l,h=>.au cs ((zs.take h).drop l)|.fh s _ get,l,h=>.fh s (h - l) λi j=>get (l+i) j
def over{α:Type}(xs:List α)(lo k:Nat)(ys:List α):List α:=xs.take lo++ys.take k++xs.drop (lo+k)
def dJ:aV->Nat->Nat->aV->aV
 |.ah k1 xs,lo,k,.ah k2 ys=>bif bU k1 k2 then .ah k1 (over xs lo k ys)else .fh 1 xs.length λi j=>bif lo.ble i&&i.blt (lo+k)then(aV.ah k2 ys).cell (i - lo) j else(aV.ah k1 xs).cell i j|.strs xs,lo,k,.strs ys=>.strs (over xs lo k ys)|.bG xs,lo,k,.bG ys=>.bG (over xs lo k ys)|.au cs xs,lo,k,.au kc ys=>match CL.eq kc cs with
  |some h=>.au cs (over xs lo k (acQ h ys))|none=>.fh (CL.wide cs) xs.length λi j=>bif lo.ble i&&i.blt (lo+k)then(aV.au kc ys).cell (i - lo) j else(aV.au cs xs).cell i j
 |c,lo,k,d=>.fh c.size c.n λi j=>bif lo.ble i&&i.blt (lo+k)then d.cell (i - lo) j else c.cell i j
def atO:SV->Value->Bool
 |.int k n,.int k' n'=>bU k k'&&n==n'|.bool b,.bool b'=>b==b'|.str s,.string s'=>s.size.beq 0&&s'.size.beq 0|.ro c,.slice none 0 0=>c.n.beq 0|_,_=>false
def dK(sh:Shape)(n:Nat):aV:=
 match sh with
 |.ah k=>.ah k (replicate n 0)|.strs=>.strs (replicate n empty)|.bG=>.bG (replicate n false)|.au cs=>.au cs (replicate n (CL.d cs))|.other=>.fh 1 n λ_ _=>.aZ
def gC(sh:Shape)(z:List Value):Bool:=(dK sh 1).size.beq z.length&&(List.range z.length).all λj=>atO ((dK sh 1).cell 0 j) (z.getD j undef)
def rowOf(sh:Shape)(size:Nat)(x:AV)(k:aV->Option Nat->RM bR):RM bR:=
 match x with
 |.s v=>(match v with
  |.ro c=>k c none|_=>.fail "row")
 |.emp=>k (alj sh size) none|.vec id=>.look id λ
  |some (.vec c _)=>k c (some id)|_=>.fail "row: no vec"
 |.part id lo n=>.look id λ
  |some (.vec c _)=>k (dT c lo (lo+n)) (some id)|_=>.fail "row: no vec"
 |_=>.fail "row"
def aaf(sh:Shape)(size:Nat)(x:AV)(k:aV->Option Nat->RM bR):RM bR:=
 match x with
 |.s (.str s)=>k (.ah .u8 (s.data.toList.map λb=>(b.toNat:Int))) none|x=>rowOf sh size x k
def abj(P:Program)(t:TypeId)(x y:AV):RM bR:=
 match P.underlying t with
 |some (.slice e)=>
  match P.info? e with
  |some i=>
   let sh:=shapeOf P e
   bif (1:Nat).ble i.size&&(1:Nat).ble i.bytes&&i.bytes.ble 256&&i.zero.any (λz=>z.cells.size==i.size&&z.cells.toList.all (·.oneCell'))then
    aaf sh i.size y λd idy=>
     bif d.size.beq i.size then
      (match x with
       |.emp=>.ret ⟨[d.n*i.bytes<=140737488355328],[],[.vec d e],λid=>.vec id⟩|.vec idx=>.look idx λ
        |some (.vec c e')=>bif c.size.beq i.size&&e'.beq e&& !(idy==some idx)then
         .ret ⟨[(c.n+d.n)*i.bytes<=140737488355328],[(idx,.ax)],[.vec (dA c d) e],λid=>.vec id⟩else .fail "append: size"
        |_=>.fail "append: no vec"
       |.part idx lo n=>.look idx λ
        |some (.vec c e')=>bif c.size.beq i.size then
         .ret ⟨[lo+n+d.n<=c.n],[(idx,.vec (dJ c (lo+n) d.n d) e')],[],λ_=>.part idx lo (n+d.n)⟩else .fail "append: size"
        |_=>.fail "append: no vec"
       |_=>.fail "append: what is appended to is not own")
     else .fail "append: another size"
   else .fail "append: element"
  |none=>.fail "append: no element"
 |_=>.fail "append: type"
def w4(P:Program)(t t':TypeId)(x y:AV):RM bR:=
 match P.underlying t,P.underlying t',x,y.cD with
 |some (.slice e),some (.int _),.s (.rot c k),some (_,_,j)=>
  (match P.info? e with
   |some i=>bif (1:Nat).ble i.size&&i.bytes.ble 256&&c.size.beq i.size&&i.zero.any (λz=>gC (shapeOf P e) z.cells.toList&&z.cells.size==i.size)then
    .ret ⟨[0<j,(k:Int)<=c.n+j,(c.n:Int)+j<=4294967296],[],[.vec (dA c (dK (shapeOf P e) j.toNat)) e],λid=>.vec id⟩else .fail "append: zeros"
   |none=>.fail "append: element")
 |_,_,_,_=>.fail "append: zeros?"
def atP(P:Program)(t:TypeId)(x:AV):RM bR:=
 match P.underlying t,x with
 |some .string,.s (.str s)=>plain [] (.s (.int .i64 s.size))|some (.array n _),_=>plain [] (.s (.aS .i64 n))|some (.slice _),.s (.ro c)=>plain [] (.s (.int .i64 c.n))|some (.slice _),.s (.rot c _)=>plain [] (.s (.int .i64 c.n))|some (.slice _),.emp=>plain [] (.s (.aS .i64 0))|some (.slice _),.vec id=>.look id λ
  |some (.vec c _)=>plain [] (.s (.int .i64 c.n))|_=>.fail "len: no vec"
 |some (.slice _),.part id _ n=>.look id λ
  |some (.vec _ _)=>plain [] (.s (.int .i64 n))|_=>.fail "len: no vec"
 |some (.map _ _),.fA id=>.look id λ
  |some (.map _ m)=>plain [] (.s (.int .i64 m.length))|_=>.fail "len: no map"
 |_,_=>.fail "len"
def atQ(P:Program)(t:TypeId)(x:AV):RM bR:=
 match P.underlying t,x with
 |some (.slice _),.s (.rot _ k)=>plain [] (.s (.qq k))|some (.slice _),.vec id=>.look id λ
  |some (.vec c _)=>plain [] (.s (.nL c.n))|_=>.fail "cap: no vec"
 |some (.slice _),.part id lo _=>.look id λ
  |some (.vec c _)=>plain [] (.s (.nL (c.n - lo)))|_=>.fail "cap: no vec"
 |_,_=>.fail "cap"
def imax(a b:Int):Int:=if b>a then b else a
def qR(a b:Int):Int:=if b<a then b else a
def apv(mx:Bool)(x y:AV):RM bR:=
 match x.cD,y.cD with
 |some (k,lx,a),some (k',ly,b)=>bif bU k k' then
  (bif mx then plain [] (mkInt (lx&&ly) k (imax a b))else plain [] (mkInt (lx&&ly) k (qR a b)))else .fail "min: kinds"
 |_,_=>.fail "min"
def gX(d:Int):Option AV->Option Int
 |none=>some d|some a=>(a.cD).map λ(_,_,n)=>n
def ahq(P:Program)(e:TypeId)(c:aV)(id lo0 n:Nat)(lo hi mx:Option AV):RM bR:=
 match dY P e with
 |some sz=>bif sz.beq c.size then
  (match mx with
   |none=>(match gX 0 lo,gX n hi with
    |some l,some h=>plain [0<=l,l<=h,(lo0:Int)+h<=c.n] (.part id (lo0+l.toNat) (h.toNat - l.toNat))|_,_=>.fail "slice: bounds")
   |some m=>(match gX 0 lo,hi.bind AV.cD,m.cD with
    |some l,some (_,_,h),some (_,_,m)=>plain [0<=l,l<=h,h<=m,(lo0:Int)+m<=c.n] (.s .aZ)|_,_,_=>.fail "slice: three"))else .fail "slice: size"
 |none=>.fail "slice: element"
def alk(P:Program)(t:TypeId)(x y:AV):RM bR:=
 match P.underlying t with
 |some (.slice e)=>
  match dY P e with
  |some sz=>bif (1:Nat).ble sz then
   aaf (shapeOf P e) sz y λd _=>bif d.size.beq sz then
    (match x with
     |.vec id=>.look id λ
      |some (.vec c e')=>bif c.size.beq sz then
       .ret ⟨[],[(id,.vec (dJ c 0 (min d.n c.n) d) e')],[],λ_=>.s (.int .i64 ((min d.n c.n:Nat):Int))⟩else .fail "copy: size"
      |_=>.fail "copy: no vec"
     |.part id lo n=>.look id λ
      |some (.vec c e')=>bif c.size.beq sz then
       .ret ⟨[],[(id,.vec (dJ c lo (min d.n n) d) e')],[],λ_=>.s (.int .i64 ((min d.n n:Nat):Int))⟩else .fail "copy: size"
      |_=>.fail "copy: no vec"
     |_=>.fail "copy: not own")else .fail "copy: another size"
   else .fail "copy: size"
  |none=>.fail "copy: element"
 |_=>.fail "copy: type"
def fH{k:IntKind}{m:Nat}(x:CL [.arr k m]):List Int:=x.1
def qt{k:IntKind}{m:Nat}(ws:List Int):CL [.arr k m]:=(ws,())
def wo(x:AV)(k:IntKind->List Int->Prop->RM bR):RM bR:=
 match x with
 |.s (.str s)=>k .u8 (s.data.toList.map λb=>(b.toNat:Int)) True|.sub id off n=>.look id λ
  |some (.aq [.ah q m ws] _)=>k q ((ws.drop off).take n) (off+n<=m)|_=>.fail "copy: no numbers"
 |_=>.fail "copy: from what?"
def afP(P:Program)(t:TypeId)(x y:AV):RM bR:=
 match P.underlying t with
 |some (.slice e)=>
  match dY P e with
  |some sz=>bif sz.beq 1 then
   (match x with
    |.sub id off n=>wo y λq zs p=>.look id λ
      |some (.aq [.ah k m ws] e')=>bif bU q k then
       .ret ⟨[p,off+n<=m],[(id,.aq [.ah k m (over ws off (min zs.length n) zs)] e')],[],λ_=>.s (.int .i64 ((min zs.length n:Nat):Int))⟩else .fail "copy: kind"
      |_=>.fail "copy: no array"
    |.lO id i j n=>wo y λq zs p=>.look id λ
      |some (.vec (.au [.arr k m] xs) e')=>bif bU q k&&(1:Nat).ble m then
       .ret ⟨[p,(fH (xs.getD i (CL.d [.arr k m]))).length=m],[(id,.vec (.au [.arr k m] (xs.set i (qt (over (fH (xs.getD i (CL.d [.arr k m]))) j (min zs.length n) zs)))) e')],[],λ_=>.s (.int .i64 ((min zs.length n:Nat):Int))⟩else .fail "copy: kind"
      |_=>.fail "copy: no vec"
    |_=>.fail "copy: not an array")else .fail "copy: size"
  |none=>.fail "copy: element"
 |_=>.fail "copy: type"
def awB:AV->Bool
 |.sub _ _ _|.lO _ _ _ _=>true|_=>false
def afQ(P:Program)(t:TypeId)(x:AV):RM bR:=
 match P.underlying t,x with
 |some (.slice e),.part id lo n=>
  (match P.info? e with
   |some i=>bif (1:Nat).ble i.size&&i.zero.any (λz=>gC (shapeOf P e) z.cells.toList&&z.cells.size==i.size)then
    .look id λ
    |some (.vec c e')=>bif c.size.beq i.size then
     .ret ⟨[],[(id,.vec (dJ c lo n (dK (shapeOf P e) n)) e')],[],λ_=>.bt []⟩else .fail "clear: size"
    |_=>.fail "clear: no vec"
    else .fail "clear: zero"
   |none=>.fail "clear: element")
 |some (.map _ _),.fA id=>.look id λ
  |some (.map ck _)=>.ret ⟨[],[(id,.map ck [])],[],λ_=>.bt []⟩|_=>.fail "clear: no map"
 |_,_=>.fail "clear"
def qS(P:Program)(t:TypeId)(l c:AV):RM bR:=
 match P.underlying t,l.cD,c.cD with
 |some (.slice e),some (_,_,l),some (_,_,c)=>
  (match P.info? e with
   |some i=>bif (1:Nat).ble i.size&&i.bytes.ble 256&&i.zero.any (λz=>gC (shapeOf P e) z.cells.toList&&z.cells.size==i.size)then
    .ret ⟨[0<=l,l<=c,c<=1073741824],[],[.vec (dK (shapeOf P e) l.toNat) e],λid=>.vec id⟩else .fail "makeSlice: zero"
   |none=>.fail "makeSlice: element")
 |_,_,_=>.fail "makeSlice"
def afR(P:Program)(t:TypeId)(x:AV)(lo hi mx:Option AV):RM bR:=
 match P.underlying t,x with
 |some .string,.s (.str s)=>
  (match gX 0 lo,gX s.size hi,mx with
   |some l,some h,none=>plain [0<=l,l<=h,h<=s.size] (.s (.str (s.extract l.toNat h.toNat)))|_,_,_=>.fail "slice: string")
 |some (.slice e),.emp=>(match dY P e,gX 0 lo,gX 0 hi,mx with
  |some _,some l,some h,none=>plain [l=0,h=0] .emp|_,_,_,_=>.fail "slice: emp")
 |some (.slice e),.s (.ro c)=>
  (match dY P e with
   |some sz=>bif sz.beq c.size then
    (match mx with
     |none=>(match gX 0 lo,gX c.n hi with
      |some l,some h=>plain [0<=l,l<=h,h<=c.n] (.s (.ro (dT c l.toNat h.toNat)))|_,_=>.fail "slice: bounds")
     |some m=>(match gX 0 lo,hi.bind AV.cD,m.cD with
      |some l,some (_,_,h),some (_,_,m)=>plain [l=0,h=0,m=0] .emp|_,_,_=>.fail "slice: three"))else .fail "slice: size"
   |none=>.fail "slice: element")
 |some (.slice e),.s (.rot c k)=>
  (match dY P e,mx with
   |some sz,none=>bif sz.beq c.size then
    (match lo,gX c.n hi with
     |none,some h=>plain [0<=h,h<=c.n] (.s (.rot (dT c 0 h.toNat) k))|some l,some h=>(match l.cD with
      |some (_,_,l)=>plain [0<=l,l<=h,h<=c.n] (.s (.ro (dT c l.toNat h.toNat)))|none=>.fail "slice: bounds")
     |_,_=>.fail "slice: bounds")else .fail "slice: size"
   |_,_=>.fail "slice: element")
 |some (.slice e),.vec id=>.look id λ
  |some (.vec c _)=>ahq P e c id 0 c.n lo hi mx|_=>.fail "slice: no vec"
 |some (.slice e),.part id lo0 n=>.look id λ
  |some (.vec c _)=>ahq P e c id lo0 n lo hi mx|_=>.fail "slice: no vec"
 |some (.array n e),.ptr id off=>
  (match dY P e,gX 0 lo,gX n hi,mx with
   |some sz,some l,some h,none=>bif sz.beq 1 then plain [0<=l,l<=h,h<=n] (.sub id (off+l.toNat) (h.toNat - l.toNat))else .fail "slice: array"|_,_,_,_=>.fail "slice: array")
 |some (.array n e),.gR id i j=>
  (match dY P e,gX 0 lo,gX n hi,mx with
   |some sz,some l,some h,none=>.look id λ
    |some (.vec c _)=>bif sz.beq 1&&(j+n).ble c.size then plain [0<=l,l<=h,h<=n] (.lO id i (j+l.toNat) (h.toNat - l.toNat))else .fail "slice: array"|_=>.fail "slice: no vec"
   |_,_,_,_=>.fail "slice: array")
 |_,_=>.fail "slice"
def aG(zs:List Int):ByteArray:=⟨(zs.map λn=>UInt8.ofNat n.toNat).toArray⟩
def w5(P:Program)(src dst:TypeId)(x:AV):RM bR:=
 match P.underlying src,P.underlying dst with
 |some _,some (.int k)=>(match x.cD with
  |some (k',lit,n)=>bif lit then plain [] (.s (.aS k (k.wrap n)))else bif qs k&& !bU k' .u64 then plain [aB n] (.s (.int k n))else plain [] (.s (.int k (k.wrap n)))|none=>.fail "convert: no number")
 |some .string,some .string=>(match x with
  |.s (.str s)=>plain [] (.s (.str s))|_=>.fail "convert: no string")
 |some (.slice e),some .string=>(match kindOf P e with
  |some .u8=>(match x with
   |.sub id off n=>.look id λ
     |some (.aq [.ah .u8 m ws] _)=>plain [off+n<=m] (.s (.str (aG ((ws.drop off).take n))))|_=>.fail "convert: no bytes"
   |_=>rowOf (.ah .u8) 1 x λc _=>match c with
   |.ah .u8 zs=>plain [] (.s (.str (aG zs)))|_=>.fail "convert: no bytes")
  |_=>.fail "convert: no bytes")
 |_,_=>.fail "convert"
def bx(s:ByteArray):List Int:=s.data.toList.map λb=>(b.toNat:Int)
def w6(P:Program)(src dst:TypeId)(x:AV):RM bR:=
 match P.underlying src,P.underlying dst,x with
 |some .string,some (.slice e),.s (.str s)=>(match kindOf P e with
  |some .u8=>plain [s.size<=4294967296] (.s (.ro (.ah .u8 (bx s))))|_=>.fail "convert: to bytes")
 |_,_,_=>.fail "convert: to bytes"
def apw(P:Program)(src dst:TypeId):Bool:=
 match P.underlying src,P.underlying dst with
 |some .string,some (.slice _)=>true|_,_=>false
def w7(P:Program)(t:TypeId)(x:AV):RM bR:=
 match P.underlying t,x with
 |some (.array n _),.s (.ro (.ah k zs))=>bif (1:Nat).ble n then plain [n<=zs.length] (.kp (.au [.arr k n] [(zs.take n,())]) 0 0)else .fail "array: none"|_,_=>.fail "array of a slice"
def tN(x:AV):RM bR:=
 match x with
 |.ptr _ _|.kT _ _ _ _|.kp _ _ _|.fn _ _|.s (.rK _)=>plain [] x|_=>.fail "nilCheck"
def tO(fn:Fn)(first dw:List AV):RM bR:=
 match fn,first,dw with
 |.func f,[],[]=>plain [] (.s (.rK f))|.func f,[],c::cs=>plain [] (.fn f (c::cs))|.func f,x::xs,[]=>plain [] (.fnb f (x::xs))|_,_,_=>.fail "makeFunc"
def azo(P:Program)(t:TypeId):Option CK:=
 match P.underlying t with
 |some (.int k)=>some (.int k)|some .bool=>some .bool|some .string=>some .str|some (.array n e)=>match P.underlying e with
  |some (.int k)=>some (.arr k n)|_=>none
 |_=>none
def CK.plain:CK->Bool
 |.int _|.bool|.str|.arr _ _=>true|_=>false
def w8(P:Program)(t:TypeId)(ck:CK):Bool:=ck.plain&&
 match(P.info? t).bind (·.zero),ck with
 |some (.int k' 0),.int k=>bU k' k|some (.bool false),.bool=>true|some (.string s),.str=>s.size.beq 0|some (.agg cs),.arr k n=>oq k cs.toList&&cs.toList.length.beq n|_,_=>false
def CK.av:(c:CK)->c.V->AV
 |.int k,v=>.s (.int k v)|.bool,v=>.s (.bool v)|.str,v=>.s (.str v)|.arr k n,v=>.ah k n v|_,_=>.s .aZ
def CK.rdv:(c:CK)->AV->Option c.V
 |.int k,a=>match a with
  |.s (.int k' x)|.s (.aS k' x)=>bif bU k k' then some x else none|_=>none
 |.bool,a=>match a with
  |.s (.bool x)|.s (.aK x)=>some x|_=>none
 |.str,a=>match a with
  |.s (.str x)=>some x|_=>none
 |.arr k n,a=>match a with
  |.ah k' n' ws=>bif bU k k'&&n.beq n' then some ws else none|_=>none
 |_,_=>none
def ahr(P:Program)(t:TypeId):Bool:=
 match P.underlying t with
 |some (.int .i64)=>true|_=>false
def abk(P:Program)(t:TypeId)(x i:AV)(ok:Bool):RM bR:=
 match P.underlying t,x,i.cD with
 |some (.map kt et),.fA id,some (k,_,n)=>bif ahr P kt&&qs k then
  .look id λ
  |some (.map ck m)=>bif w8 P et ck then
   plain [] (bif ok then .bt [ck.av ((ct m n).getD ck.d),.s (.bool (om m n))]else ck.av ((ct m n).getD ck.d))else .fail "lookup: elements"
  |_=>.fail "lookup: no map"
  else .fail "lookup: keys"
 |_,_,_=>.fail "lookup"
def qT(P:Program)(t:TypeId)(x i v:AV):RM bR:=
 match P.underlying t,x,i.cD with
 |some (.map kt _),.fA id,some (k,_,n)=>bif ahr P kt&&qs k then
  .look id λ
  |some (.map ck m)=>(match ck.rdv v with
   |some y=>.ret ⟨[],[(id,.map ck (mu m n y))],[],λ_=>.bt []⟩|none=>.fail "mapUpdate: elements")
  |_=>.fail "mapUpdate: no map"
  else .fail "mapUpdate: keys"
 |_,_,_=>.fail "mapUpdate"
def w9(P:Program)(t:TypeId)(r:Option AV):RM bR:=
 match P.underlying t,r with
 |some (.map _ et),none=>(match azo P et with
  |some ck=>.ret ⟨[],[],[.map ck []],λid=>.fA id⟩|none=>.fail "makeMap: elements")
 |_,_=>.fail "makeMap"
def afS(x:AV):RM bR:=
 match x with
 |.ptr id 0=>.look id λ
  |some (.iter mid gid ck _ cur)=>.look mid λ
   |some (.im _ _ awC)=>bif gid.beq awC&&ck.plain then(match cur with
    |some p=>plain [] (.bt [.s (.int .i64 p.1),ck.av p.2])|none=>.fail "entry: no step")else .fail "entry: another one"
   |_=>.fail "entry: no map"
  |_=>.fail "entry: no range"
 |_=>.fail "entry"
abbrev apx:=FuncId->List AV->RM bR
abbrev fI:=Nat->apx
def jE(P:Program)(f:FuncId):Bool:=
 match P.funcs[f]? with
 |some fn=>fn.body.isSome&& !(fn.name== "runtime.NumGoroutine")|none=>false
def atT(P:Program)(f:FuncId):Prop:=
 ∃(fn:Func) (t e tR:TypeId) (size:Nat),P.funcs[f]? =some fn/\(fn.name== "runtime.NumGoroutine")=false/\fn.body.isNone=true/\Extern.findNext fn=none/\Extern.find fn=some (Extern.SlicesOverlaps.overlaps #[t,t] #[tR])/\
  P.underlying t=some (.slice e)/\dY P e=some size
def ownRow:AV->Option Nat
 |.vec id=>some id|.part id _ _=>some id|_=>none
def tP(P:Program)(f:FuncId)(args:List AV):RM bR:=
 match args with
 |[x,y]=>match ownRow x,ownRow y with
  |some i,some j=>bif i.beq j then .fail "call: no Go body" else
   .look i λo=>match o with
    |some (.vec c _)=>.look j λo=>match o with
     |some (.vec d _)=>bif (1:Nat).ble c.size&&(1:Nat).ble d.size then plain [atT P f] (.s (.aK false))else .fail "call: no Go body"|_=>.fail "call: no Go body"
    |_=>.fail "call: no Go body"
  |_,_=>.fail "call: no Go body"
 |_=>.fail "call: no Go body"
def aag(P:Program)(S:apx)(f:FuncId)(args:List AV):RM bR:=
 bif jE P f then S f args else tP P f args
def abl(P:Program)(t:TypeId):Bool:=
 match P.underlying t with
 |some (.slice _)|some .string=>true|_=>false
def acR(P:Program)(b:Builtin)(ts:List TypeId)(args:List AV):RM bR:=
 match b,ts,args with
 |.len,t::_,[x]=>atP P t x|.cap,t::_,[x]=>atQ P t x|.append,[t,t'],[x,y]=>bif abl P t' then abj P t x y else w4 P t t' x y|.min,_,[x,y]=>apv false x y|.max,_,[x,y]=>apv true x y|.copy,[t,t'],[x,y]=>bif abl P t' then(bif awB x then afP P t x y else alk P t x y)else .fail "copy: what?"|.clear,t::_,[x]=>afQ P t x|_,_,_=>.fail "builtin"
def rO:BinOp->Bool
 |.eql=>true|_=>false
def atU(P:Program)(op:BinOp)(t:TypeId)(x:AV):RM bR:=
 match op with
 |.eql|.neq=>
  match P.underlying t with
  |some (.slice _)=>
   match x with
   |.s (.ro c)=>plain [] (.s (.lN c.n (rO op)))|.emp=>plain [] (.s (.lN 0 (rO op)))|.vec id=>.look id λo=>match o with
    |some (.vec c _)=>plain [] (.s (.lN c.n (rO op)))|_=>.fail "== nil: no row"
   |_=>.fail "== nil"
  |_=>.fail "== nil: the type"
 |_=>.fail "nil: what?"
def qu:AV->AV
 |.s .qL=>.emp|x=>x
def afT:AV->Bool
 |.s .qL=>true|_=>false
def atV(P:Program)(t:TypeId)(x:AV):RM bR:=
 match P.underlying t,x with
 |some (.interface _),_=>.fail "interface: of an interface"|some _,.s (.int k n)=>plain [] (.s (.ifi t k n))|some _,.s (.aS k n)=>plain [] (.s (.ifi t k n))|some _,.s (.str s)=>plain [] (.s (.ifs t s))|some _,.s (.bool b)=>plain [] (.s (.ifb t b))|some _,.s (.aK b)=>plain [] (.s (.ifb t b))|_,_=>.fail "interface: of what?"
def alm(P:Program)(S:apx)(ev:Operand->AV)(o:Oper):RM bR:=
 match o.op with
 |.move x|.assign x=>plain [] (ev x)|.pick c a b=>qM "pick" (alc (ev c) (ev a) (ev b))|.alloc t=>afN P t|.box t x=>atN t (ev x)|.makeInterface t x=>atV P t (ev x)|.build t ps=>afO P t (ps.toList.map λp=>(p.1,ev p.2))|.buildSlice t n ps=>ov P t n (ps.toList.map λp=>(p.1,ev p.2))|.load t a=>aho P t (ev a)|.store t a x=>afK P t (ev a) (ev x)|.nilCheck x=>tN (ev x)|.binOp op t x y _=>qM "binOp" (apt P op t (ev x) (ev y))|.unOp op _ x=>qM "unOp" (unR op (ev x))|.convert a b x=>bif apw P a b then w6 P a b (ev x)else w5 P a b (ev x)|.sliceToArrayPointer t x=>w7 P t (ev x)|.entry x=>afS (ev x)|.makeFunc fn a b=>tO fn (a.toList.map ev) (b.toList.map ev)|.slice t x l h m=>afR P t (ev x) (l.map ev) (h.map ev) (m.map ev)|.fieldAddr t x f=>qN P t (ev x) f|.field t x f=>afM P t (ev x) f|.indexAddr t x i=>qO P t (ev x) (ev i)|.index t x i=>afL P t (ev x) (ev i)|.extract x i=>wZ (ev x) i|.lookup t x i ok=>abk P t (ev x) (ev i) ok|.mapUpdate t x i v|.insert t x i v=>qT P t (ev x) (ev i) (ev v)|.makeMap t r=>w9 P t (r.map ev)|.makeSlice t l c=>qS P t (ev l) (ev c)|.call c=>match c.callee with
  |.value f=>match ev f with
   |.s (.rK f)=>aag P S f (c.args.toList.map ev)|.fn f dw=>aag P S f (c.args.toList.map ev++dw)|.fnb f first=>aag P S f (first++c.args.toList.map ev)
   |_=>.fail "call: what?"
  |.builtin b=>acR P b c.argTypes.toList (c.args.toList.map ev)|_=>.fail "call: invoke"
 |_=>.fail "op"
def atW:AV->Bool
 |.s (.nL _)|.s (.qq _)=>true|_=>false
def abm(op:BinOp)(x y:AV):RM bR:=
 match op,x.cD,y with
 |.gtr,some (.i64,_,a),.s (.nL b)=>plain [a<=(b:Int)] (.s (.aK false))|.gtr,some (.i64,_,a),.s (.qq b)=>plain [(b:Int)<=a] (.s (.aK true))|_,_,_=>.fail "cap: compared"
def RM.afU{α:Type}(id:Nat):RM α->RM α
 |.ret a=>.ret a|.look j k=>bif j.beq id then(k (some .ax)).afU id else .look j λo=>(k o).afU id|.fail w=>.fail w
def RM.nj(id:Nat):RM bR->RM bR
 |.ret q=>.ret {q with up:=(id,.ax)::q.up}|.look j k=>.look j λo=>(k o).nj id|.fail w=>.fail w
def aln(id:Nat)(c:aV)(ev:Operand->AV):Operand->AV:=λx=>match ev x with
 |.vec j=>bif j.beq id then .s (.ro c)else .vec j|a=>a
def giveUp:List Nat->(Operand->AV)->((Operand->AV)->RM bR)->RM bR
 |[],ev,k=>k ev|id::ids,ev,k=>.look id λo=>match o with
  |some (.vec c _)=>((giveUp ids (aln id c ev) k).afU id).nj id|_=>.fail "give up: no row"
def alo(ev:Operand->AV)(ps:List (Nat×Operand)):List Nat:=ps.filterMap λp=>match ev p.2 with
 |.vec j=>some j|_=>none
def vT(P:Program)(S:apx)(ev:Operand->AV)(o:Oper):RM bR:=
 match o.op with
 |.binOp op t x y _=>bif afT (ev y)then atU P op t (qu (ev x))else bif atW (ev y)then abm op (qu (ev x)) (ev y)else qM "binOp" (apt P op t (qu (ev x)) (ev y))|.buildSlice _ _ ps=>giveUp (alo ev ps.toList) (λx=>qu (ev x)) λev=>alm P S ev o|_=>alm P S (λx=>qu (ev x)) o
def bK:List Prop->Prop
 |[]=>True|p::ps=>p/\bK ps
theorem bu{k k':IntKind}(h:bU k k'=true):k=k':=by
 cases k<;>cases k'<;>first|rfl|(simp[bU]at h)
theorem ow{k:IntKind}(h:qs k=true):k=.i64:=by
 cases k<;>first|rfl|(simp[qs]at h)
theorem cu{n:Int}(h:aB n):i64.wrap n=n:=by
 have⟨h1,h2⟩:=h;rw[IntKind.wrap_i64];omega
section
variable{ρ:Nat->Value}{H:aT}{O:Nat->Prop}{w:World}{P:Program}
theorem aF{x:SV}{v:Value}(h:aX O w x v):af ρ H O w (.s x) v:=by
 cases x<;>unfold af<;>first|trivial|exact h
theorem ay{x:SV}{v:Value}(hx:x≠.aZ)(h:af ρ H O w (.s x) v):aX O w x v:=by
 cases x<;>unfold af at h<;>first|exact(hx rfl).elim|exact h
theorem cq{x:AV}{v:Value}{k:IntKind}{l:Bool}{n:Int}(h:x.cD =some (k,l,n))(hd:af ρ H O w x v):v=.int k n:=by
 cases x with
 |s x=>
  cases x<;>simp only[AV.cD,Option.some.injEq,Prod.mk.injEq,reduceCtorEq]at h
  all_goals
   obtain⟨rfl, -,rfl⟩:=h;have:=ay (by simp) hd;cases this;rfl
 |_=>simp[AV.cD]at h
theorem kH{x:AV}{v:Value}{l b:Bool}(h:x.fO =some (l,b))(hd:af ρ H O w x v):v=.bool b:=by
 cases x with
 |s x=>
  cases x<;>simp only[AV.fO,Option.some.injEq,Prod.mk.injEq,reduceCtorEq]at h
  all_goals
   obtain⟨-,rfl⟩:=h;have:=ay (by simp) hd;cases this;rfl
 |_=>simp[AV.fO]at h
theorem fJ{s:ByteArray}{v:Value}(hd:af ρ H O w (.s (.str s)) v):v=.string s:=by
 have:=ay (by simp) hd;cases this;rfl
theorem gY(l:Bool)(k:IntKind)(n:Int):af ρ H O w (mkInt l k n) (.int k n):=by
 unfold mkInt;cases l;exact aF (.int k n);exact aF (.aS k n)
theorem qU(l:Bool)(b:Bool):af ρ H O w (mc l b) (.bool b):=by
 unfold mc;cases l;exact aF (.bool b);exact aF (.aK b)
theorem mw{l:Bool}{k:IntKind}{n:Int}(h:bK (oo l k n).1):af ρ H O w (oo l k n).2 (.int k (k.wrap n)):=by
 unfold oo at *;cases l;cases hk:qs k;exact aF (.int _ _);simp only[hk,cond_true,cond_false,bK,and_true]at h ⊢;obtain rfl:=ow hk;rw[cu h];exact aF (.int _ _);exact aF (.aS _ _)
theorem gZ(op:BinOp)(t:TypeId)(x y:Operand)(k k':IntKind)(a b:Int):(eqGuard op t x y (.int k a) (.int k' b)).run P w=.ok () w:=by
 cases op<;>simp[eqGuard]
theorem acS(op:BinOp)(t:TypeId)(x y:Operand)(a b:ByteArray):(eqGuard op t x y (.string a) (.string b)).run P w=.ok () w:=by
 cases op<;>simp[eqGuard]
theorem abn(op:BinOp)(t:TypeId)(x y:Operand)(a b:Bool):(eqGuard op t x y (.bool a) (.bool b)).run P w=.ok () w:=by
 cases op<;>simp[eqGuard]
theorem oz(op:BinOp)(t:TypeId)(x y:Operand)(a b:Option Addr):(eqGuard op t x y (.pointer a) (.pointer b)).run P w=.ok () w:=by
 cases op<;>simp[eqGuard]
theorem apy{l:Bool}{k:IntKind}{x y:Int}{q:List Prop×AV}
 (h:(bif l then([y≠0],AV.s (.aS k (k.wrap (x.tdiv y))))else bif qs k then([y≠0,aB (x.tdiv y)],.s (.int k (x.tdiv y)))else([y≠0],.s (.int k (k.wrap (x.tdiv y)))))=q)
 (hn:bK q.1):y≠0/\af ρ H O w q.2 (.int k (k.wrap (x.tdiv y))):=by
 subst h;cases l;cases hk:qs k;simp only[hk,cond_false,bK,and_true]at hn ⊢;exact⟨hn,aF (.int _ _)⟩;simp only[hk,cond_true,cond_false,bK,and_true]at hn ⊢;obtain rfl:=ow hk;rw[cu hn.2];exact⟨hn.1,aF (.int _ _)⟩;simp only[cond_true,bK,and_true]at hn ⊢;exact⟨hn,aF (.aS _ _)⟩
theorem tQ{op:BinOp}{t:TypeId}{k:IntKind}{lx ly:Bool}{x y:Int}{q:List Prop×AV}(h:wY op k lx ly x y=some q)(hn:bK q.1):
 ∃v,(binOp op t (.int k x) (.int k y)).run P w=.ok v w/\af ρ H O w q.2 v:=by
 cases op<;>simp only[wY,Option.some.injEq,reduceCtorEq]at h
 case add=>subst h;exact⟨_,by simp[binOp,Op.intArith],mw hn⟩
 case sub=>subst h;exact⟨_,by simp[binOp,Op.intArith],mw hn⟩
 case mul=>subst h;exact⟨_,by simp[binOp,Op.intArith],mw hn⟩
 case quo=>
  have⟨h0,hd⟩:=apy (ρ:=ρ) (H:=H) (O:=O) (w:=w) h hn;exact⟨_,by simp[binOp,Op.intDiv,h0],hd⟩
 case rem=>
  subst h;have h0:y≠0:=by simpa[bK]using hn
  exact⟨_,by simp[binOp,Op.intDiv,h0],gY _ _ _⟩
 case and=>subst h;exact⟨.int k (bF .and k x y),by simp[binOp,Op.intBits,bF],gY _ _ _⟩
 case or=>subst h;exact⟨.int k (bF .or k x y),by simp[binOp,Op.intBits,bF],gY _ _ _⟩
 case xor=>subst h;exact⟨.int k (bF .xor k x y),by simp[binOp,Op.intBits,bF],gY _ _ _⟩
 case andNot=>subst h;exact⟨.int k (bF .andNot k x y),by simp[binOp,Op.intBits,bF],gY _ _ _⟩
 all_goals subst h;exact⟨_,by simp[binOp,Op.intCmp],qU _ _⟩
theorem aah{op:BinOp}{t:TypeId}{k k':IntKind}{l:Bool}{x y:Int}{q:List Prop×AV}(h:afC op k l x y=some q)(hn:bK q.1):
 ∃v,(binOp op t (.int k x) (.int k' y)).run P w=.ok v w/\af ρ H O w q.2 v:=by
 cases op<;>simp only[afC,Option.some.injEq,reduceCtorEq]at h
 all_goals
  subst h;have h0:0<=y:=by simpa[bK]using hn
  exact⟨_,by simp[binOp,Op.shift,Int.not_lt.2 h0],gY _ _ _⟩
theorem afV(a b:ByteArray):(a.toList==b.toList)=decide (a=b):=by
 rw[ByteArray.toList_eq,ByteArray.toList_eq,Bool.eq_iff_iff];simp only[beq_iff_eq,decide_eq_true_eq];constructor;intro h;cases a;cases b;simp only[ByteArray.mk.injEq]at *;exact toList_inj.1 h;rintro rfl;rfl
theorem ajx{op:BinOp}{t:TypeId}{x y:ByteArray}{q:List Prop×AV}(h:afD op x y=some q)(hn:bK q.1):
 ∃v,(binOp op t (.string x) (.string y)).run P w=.ok v w/\af ρ H O w q.2 v:=by
 cases op<;>simp only[afD,Option.some.injEq,reduceCtorEq]at h
 case add=>
  subst h;have h0:x.size+y.size<=4611686018427387904:=by simpa[bK]using hn
  exact⟨.string (x++y),by simp[binOp,Op.stringOp];omega,aF (.str _)⟩
 all_goals subst h;exact⟨_,by simp only[binOp,Op.stringOp,afV];rfl,by first|exact aF (.bool _)|(simp only[slt,ByteArray.toList_eq];exact aF (.bool _))⟩
theorem atX{op:UnOp}{x:AV}{vx:Value}{q:List Prop×AV}(h:unR op x=some q)(hn:bK q.1)(hx:af ρ H O w x vx):
 ∃v,(Op.unary op vx).run P w=.ok v w/\af ρ H O w q.2 v:=by
 unfold unR at h;split at h<;>simp only[Option.some.injEq,reduceCtorEq]at h<;>subst h;have h1:=ay (by simp) hx;cases h1;exact⟨_,by simp only[Op.unary,Sem.run_pure],aF (.bool _)⟩;have h1:=ay (by simp) hx;cases h1;exact⟨_,by simp only[Op.unary,Sem.run_pure],aF (.aK _)⟩;have h1:=ay (by simp) hx;cases h1;exact⟨_,by simp only[Op.unary,Op.intArith,Sem.run_pure],mw hn⟩;have h1:=ay (by simp) hx;cases h1;exact⟨_,by simp only[Op.unary,Op.intArith,Sem.run_pure],mw hn⟩
theorem alp{c a b:AV}{vc va vb:Value}{q:List Prop×AV}(h:alc c a b=some q)(hc:af ρ H O w c vc)(ha:af ρ H O w a va)(hb:af ρ H O w b vb):
 ∃t,vc=.bool t/\af ρ H O w q.2 (if t then va else vb):=by
 unfold alc at h;split at h;simp only[Option.some.injEq]at h;subst h;have h1:=ay (by simp) hc;cases h1;exact⟨true,rfl,ha⟩;simp only[Option.some.injEq]at h;subst h;have h1:=ay (by simp) hc;cases h1;exact⟨false,rfl,hb⟩;rename_i t;have h1:=ay (by simp) hc;cases h1;refine⟨t,rfl, ?_⟩;split at h;rename_i la x lb y h2 h3;simp only[Option.some.injEq]at h;subst h;obtain rfl:=kH h2 ha;obtain rfl:=kH h3 hb;cases t;exact aF (.bool _);exact aF (.bool _);split at h;rename_i k la x k' lb y h2 h3;rw[cond_eq_ite]at h;split at h;rename_i hk;obtain rfl:=bu hk;simp only[Option.some.injEq]at h;subst h;obtain rfl:=cq h2 ha;obtain rfl:=cq h3 hb;cases t;exact aF (.int _ _);exact aF (.int _ _);cases h;cases h;cases h
end
def abo(fr:Nat×Nat)(cells:List Value):Prop:=(∀off,off<=cells.length->¬(fr.1<=off/\off<fr.2))/\∀u∈cells,u.oneCell'=true
def unm(fr:Nat×Nat)(n:Nat):Prop:=∀off,off<n->¬(fr.1<=off/\off<fr.2)
theorem abo.unm{fr:Nat×Nat}{cells:List Value}(h:abo fr cells):unm fr cells.length:=λoff ho=>h.1 off (Nat.le_of_lt ho)
theorem abo.over{fr:Nat×Nat}{cells bN:List Value}{k:Nat}(h:abo fr cells)(hn:∀v∈bN,v.oneCell'=true)(hl:k+bN.length<=cells.length):abo fr (cells.take k++bN++cells.drop (k+bN.length)):=by
 refine⟨λoff ho=>h.1 off ?_,λu hu=> ?_⟩;simp only[length_append,length_take,length_drop]at ho;omega;simp only[mem_append]at hu;rcases hu with(hu|hu)|hu;exact h.2 u (List.mem_of_mem_take hu);exact hn u hu;exact h.2 u (List.mem_of_mem_drop hu)
def CK.val:(c:CK)->c.V->Value
 |.int k,v=>.int k v|.bool,v=>.bool v|.str,v=>.string v|.arr k _,v=>.agg (List.map (α:=Int) (Value.int k) v).toArray|_,_=>undef
def CK.fits:(c:CK)->c.V->Prop
 |.arr _ n,v=>List.length (α:=Int) v=n|_,_=>True
structure jF (ck:CK) (m:List (Int×ck.V)) (es:List MapEntry) (clock:Nat):Prop where
 eq:es.map (λe=>(e.key,e.val))=m.map (λp=>(Value.int .i64 p.1,ck.val p.2))
 keys:(m.map (·.1)).Nodup
 xa:(es.map (·.born)).Nodup
 old:∀e∈es,e.born<clock
 fits:∀p∈m,ck.fits p.2
def acT(es:Array MapEntry)(clock:Nat):Value:=.tuple #[.int .i64 clock,.tuple (es.map λe=>.tuple #[e.key,e.val,.int .i64 (e.born:Int)])]
structure xb (ck:CK) (left:List (Int×ck.V)) (cur:Option (Int×ck.V)) (es:Array MapEntry) (clock:Nat) (seen:Array Nat):Prop where
 eq:(es.toList.filter λe=> !seen.contains e.born).map (λe=>(e.key,e.val))=left.map (λp=>(.int .i64 p.1,ck.val p.2))
 fits:∀p∈left,ck.fits p.2
 xa:(es.toList.map (·.born)).Nodup
 old:∀e∈es.toList,e.born<clock
 cur:∀p,cur=some p->ck.fits p.2/\∃e,e∈es.toList/\seen.back? =some e.born/\e.key=.int .i64 p.1/\e.val=ck.val p.2
def iA(ρ:Nat->Value)(H:aT)(O:Nat->Prop)(w:World)(aa:Value):ak->Prop
 |.ax=>True|.map ck m=>∃(b:Nat) (es:Array MapEntry) (clock:Nat),aa=.map (some b)/\w.heap[b]? =some (.map es clock)/\jF ck m es.toList clock|.im ck m gid=>∃(b:Nat) (es:Array MapEntry) (clock:Nat),aa=.map (some b)/\w.heap[b]? =some (.map es clock)/\jF ck m es.toList clock/\ρ gid=acT es clock/\(H gid).isSome=true|.iter mid gid ck left cur=>∃(b mb:Nat) (es:Array MapEntry) (clock:Nat) (seen:Array Nat),aa=.pointer (some ⟨b,0,none⟩)/\w.heap[b]? =some (.mapIter (some mb) clock seen clock)/\xb ck left cur es clock seen/\
  ρ gid=acT es clock/\(H gid).isSome=true/\ρ mid=.map (some mb)/\(H mid).isSome=true
 |.aq az e=>∃(b:Nat) (cells:List Value) (fr:Nat×Nat),aa=.pointer (some ⟨b,0,none⟩)/\w.heap[b]? =some (.cells cells.toArray e fr)/\unm fr cells.length/\aA ρ H O w az cells|.vec c e=>∃(a:Option Addr) (cap:Nat),aa=.slice a c.n cap/\c.n<=cap/\cap<=maxLen/\(cap=0\/
  ∃(b o:Nat) (cells:List Value) (fr:Nat×Nat) (us:Nat->Nat->Value),a=some ⟨b,o,none⟩/\w.heap[b]? =some (.cells cells.toArray e fr)/\abo fr cells/\o+cap*c.size<=cells.length/\
   ∀i j,i<c.n->j<c.size->cells[o+i*c.size+j]? =some (us i j)/\aX O w (c.cell i j) (us i j))
structure Sat (ρ:Nat->Value) (H:aT) (G:Nat->Prop) (w:World):Prop where
 obj:∀id o,H id=some o->iA ρ H (aW ρ H G) w (ρ id) o
 inj:∀i j oi oj b,H i=some oi->H j=some oj->oi.alive=true->oj.alive=true->eZ (ρ i)=some b->eZ (ρ j)=some b->i=j
 apart:∀b,Own ρ H b->¬G b
 low:∀b,G b->b<w.heap.size
structure Frm (ρ:Nat->Value) (H:aT) (w w':World):Prop where
 os:w'.os=w.os
 tape:w'.tape=w.tape
 output:w'.output=w.output
 heap:∀b,b<w.heap.size->¬Own ρ H b->w'.heap[b]? =w.heap[b]?
def Good(ρ:Nat->Value)(H:aT)(G:Nat->Prop)(w:World)(H':aT)(r:AV)(v:Value)(w':World):Prop:=
 ∃aN,Sat aN H' G w'/\af aN H' (aW aN H' G) w' r v/\Step ρ H (aW ρ H G) w aN H' (aW aN H' G) w'/\Frm ρ H w w'
section
variable{ρ aN:Nat->Value}{H H':aT}{G O O':Nat->Prop}{w w':World}{P:Program}
theorem iA.step(st:Step ρ H O w aN H' O' w'){aa:Value}{o:ak}(h:iA ρ H O w aa o)(hb:∀b,o.alive=true->eZ aa=some b->w'.heap[b]? =w.heap[b]?):
 iA aN H' O' w' aa o:=by
 cases o with
 |ax=>trivial|map ck m=>
  obtain⟨b,es,clock,rfl,h1,h2⟩:=h;exact⟨b,es,clock,rfl,by rw[hb b rfl rfl];exact h1,h2⟩
 |im ck m gid=>
  obtain⟨b,es,clock,rfl,h1,h2,h3,h4⟩:=h;have⟨o,ho⟩:=isSome_iff_exists.1 h4;have⟨o',dI,_⟩:=st.aBG gid o ho;exact⟨b,es,clock,rfl,by rw[hb b rfl rfl];exact h1,h2,by rw[st.wX gid o ho];exact h3,by rw[dI];rfl⟩
 |iter mid gid ck left cur=>
  obtain⟨b,mb,es,clock,seen,rfl,h1,h2,h3,h4,h5,h6⟩:=h;have⟨o,ho⟩:=isSome_iff_exists.1 h4;have⟨o',dI,_⟩:=st.aBG gid o ho;have⟨p,hp⟩:=isSome_iff_exists.1 h6;have⟨p',hp',_⟩:=st.aBG mid p hp;exact⟨b,mb,es,clock,seen,rfl,by rw[hb b rfl rfl];exact h1,h2,by rw[st.wX gid o ho];exact h3,by rw[dI];rfl,by rw[st.wX mid p hp];exact h5,by rw[hp'];rfl⟩
 |aq az e=>
  obtain⟨b,cells,fr,rfl,h1,h2,h3⟩:=h;exact⟨b,cells,fr,rfl,by rw[hb b rfl rfl];exact h1,h2,h3.step st⟩
 |vec c e=>
  obtain⟨a,cap,rfl,h1,h2,h3⟩:=h;refine⟨a,cap,rfl,h1,h2, ?_⟩;rcases h3 with h3|⟨b,o,cells,fr,us,rfl,h4,h5,h6,h7⟩;exact .inl h3;by_cases hc:cap=0;exact .inl hc;refine .inr ⟨b,o,cells,fr,us,rfl,by rw[hb b rfl (by simp[eZ,hc])];exact h4,h5,h6,λi j hi hj=> ?_⟩;have⟨h8,h9⟩:=h7 i j hi hj;exact⟨h8,h9.step st.gu st.heap st.size⟩
theorem Good.val(hs:Sat ρ H G w){r:AV}{v:Value}(h:af ρ H (aW ρ H G) w r v):Good ρ H G w H r v w:=
 ⟨ρ,hs,h,Step.refl _ _ _ _,rfl,rfl,rfl,λ_ _ _=>rfl⟩
theorem gS(hs:Sat ρ H G w){b:Nat}(h:Own ρ H b):b<w.heap.size:=by
 have⟨id,o,ho,ha,hb⟩:=h;have dU:=hs.obj id o ho;cases o with
 |ax=>simp[ak.alive]at ha|map ck m=>
  have⟨b',es,clock,h0,h1,_⟩:=dU;rw[h0]at hb;simp only[eZ,Option.some.injEq]at hb;subst hb;exact(Array.getElem?_eq_some_iff.1 h1).1
 |im ck m gid=>
  have⟨b',es,clock,h0,h1,_⟩:=dU;rw[h0]at hb;simp only[eZ,Option.some.injEq]at hb;subst hb;exact(Array.getElem?_eq_some_iff.1 h1).1
 |iter mid gid ck left cur=>
  have⟨b',mb,es,clock,seen,h0,h1,_⟩:=dU;rw[h0]at hb;simp only[eZ,Option.some.injEq]at hb;subst hb;exact(Array.getElem?_eq_some_iff.1 h1).1
 |aq az e=>
  have⟨b',cells,fr,h0,h1,_⟩:=dU;rw[h0]at hb;simp only[eZ,Option.some.injEq]at hb;subst hb;exact(Array.getElem?_eq_some_iff.1 h1).1
 |vec c e=>
  have⟨a,cap,h0,h1,_,h3⟩:=dU;rw[h0]at hb;rcases h3 with rfl|⟨b',o,cells,fr,us,rfl,h4,_⟩;cases a<;>simp[eZ]at hb;simp only[eZ]at hb;split at hb;cases hb;simp only[Option.some.injEq]at hb;subst hb;exact(Array.getElem?_eq_some_iff.1 h4).1
theorem abp(hs:Sat ρ H G w){b:Nat}(h:aW ρ H G b):b<w.heap.size:=h.elim (gS hs) (hs.low b)
theorem tT:∀(x:AV) (cs:List Value),aR ρ H O w x cs->cs.length=x.wide:=by
 intro x cs h;cases x<;>unfold aR at h
 case ah k n ws=>obtain⟨h1,rfl⟩:=h;simp[AV.wide,h1]
 case agg=>exact h.elim
 case bt=>exact h.elim
 all_goals (obtain⟨u,rfl,_⟩:=h;rfl)
theorem aD{cs:List Value}:aA ρ H O w [] cs↔cs=[]:=by unfold aA;exact Iff.rfl
theorem ag{a:AV}{aQ:List AV}{cs:List Value}:aA ρ H O w (a::aQ) cs↔ ∃c1 c2,cs=c1++c2/\aR ρ H O w a c1/\aA ρ H O w aQ c2:=by
 rw[aA]
theorem ba{cs:List Value}:bM ρ H O w [] cs↔cs=[]:=by unfold bM;exact Iff.rfl
theorem aE{a:AV}{aQ:List AV}{cs:List Value}:bM ρ H O w (a::aQ) cs↔ ∃v rest,cs=v::rest/\af ρ H O w a v/\bM ρ H O w aQ rest:=by
 rw[bM]
theorem fR{aQ bs:List AV}:∀{cs:List Value},aA ρ H O w (aQ++bs) cs↔ ∃c1 c2,cs=c1++c2/\aA ρ H O w aQ c1/\aA ρ H O w bs c2:=by
 induction aQ with
 |nil=>
  intro cs;simp only[nil_append,aD];exact⟨λh=>⟨[],cs,rfl,rfl,h⟩,λ⟨c1,c2,h1,h2,h3⟩=>by subst h2;subst h1;exact h3⟩
 |cons a aQ ih=>
  intro cs;simp only[cons_append,ag,ih];constructor;rintro⟨c1,c2,rfl,h1,c3,c4,rfl,h2,h3⟩;exact⟨c1++c3,c4,by simp,⟨c1,c3,rfl,h1,h2⟩,h3⟩;rintro⟨c1,c2,rfl,⟨c3,c4,rfl,h1,h2⟩,h3⟩;exact⟨c3,c4++c2,by simp,h1,c4,c2,rfl,h2,h3⟩
theorem jG:∀{aQ:List AV} {cs:List Value},aA ρ H O w aQ cs->cs.length=gv aQ
 |[],cs,h=>by rw[aD.1 h];rfl
 |a::aQ,cs,h=>by
  obtain⟨c1,c2,rfl,h1,h2⟩:=ag.1 h;simp[gv,tT a c1 h1,jG h2]
theorem fT:∀(az:List AV) (n:Nat) {cs:List Value} {ss:List AV},fP az n=some ss->aA ρ H O w az cs->n<=cs.length/\aA ρ H O w ss (cs.drop n)
 |az,0,cs,ss,h,hd=>by
  cases az<;>(simp only[fP,Option.some.injEq]at h;subst h;exact⟨zero_le _,by simpa using hd⟩)
 |[],n+1,cs,ss,h,hd=>by simp[fP]at h
 |a::aQ,n+1,cs,ss,h,hd=>by
  obtain⟨c1,c2,rfl,h1,h2⟩:=ag.1 hd;simp only[fP,cond_eq_ite]at h;split at h;rename_i hw;have hw:=le_of_ble_eq_true hw;have⟨h3,h4⟩:=fT aQ _ h h2;have hl:=tT a c1 h1;refine⟨by simp;omega, ?_⟩;rw[List.drop_append];have e1:c1.drop (n+1)=[]:=List.drop_eq_nil_of_le (by omega);rw[e1,nil_append,hl];exact h4;cases h
theorem fU:∀(az:List AV) (n:Nat) {cs:List Value} {ss:List AV},fQ az n=some ss->aA ρ H O w az cs->n<=cs.length/\aA ρ H O w ss (cs.take n)
 |az,0,cs,ss,h,hd=>by
  cases az<;>(simp only[fQ,Option.some.injEq]at h;subst h;exact⟨zero_le _,by simp[aD]⟩)
 |[],n+1,cs,ss,h,hd=>by simp[fQ]at h
 |a::aQ,n+1,cs,ss,h,hd=>by
  obtain⟨c1,c2,rfl,h1,h2⟩:=ag.1 hd;simp only[fQ,cond_eq_ite]at h;split at h;rename_i hw;simp only[and_eq_true]at hw;have hw1:=le_of_ble_eq_true hw.1;have hw2:=le_of_ble_eq_true hw.2;simp only[map_eq_some_iff]at h;obtain⟨ss',h3,rfl⟩:=h;have⟨h4,h5⟩:=fU aQ _ h3 h2;have hl:=tT a c1 h1;refine⟨by simp;omega,ag.2 ⟨c1,c2.take (n+1 - a.wide), ?_,h1,h5⟩⟩;rw[List.take_append,hl,take_of_length_le (by omega)];cases h
theorem fV{a:AV}{cs:List Value}(h:aR ρ H O w a cs)(ha:a.wide=1)(hi:∀k n ws,a≠.ah k n ws):∃u,cs=[u]/\u.oneCell'=true/\af ρ H O w a u:=by
 cases a<;>unfold aR at h
 case ah k n ws=>exact(hi k n ws rfl).elim
 case agg=>exact h.elim
 case bt=>exact h.elim
 case fA id=>obtain⟨u,rfl,h1⟩:=h;exact⟨u,rfl,by unfold aO at h1;obtain⟨b,_,rfl,_⟩:=h1;rfl,by unfold af;exact h1⟩
 case tag id=>obtain⟨u,rfl,h1⟩:=h;exact⟨u,rfl,by unfold aO at h1;exact h1.2.1,by unfold af;exact h1⟩
 case s x=>obtain⟨u,rfl,h1⟩:=h;exact⟨u,rfl,h1.one,aF h1⟩
 case ptr id off=>obtain⟨u,rfl,h1⟩:=h;exact⟨u,rfl,by unfold aO at h1;obtain⟨b,_,rfl,_⟩:=h1;rfl,by unfold af;exact h1⟩
 case kT id off n i=>obtain⟨u,rfl,h1⟩:=h;exact⟨u,rfl,by unfold aO at h1;obtain⟨_,b,_,rfl,_⟩:=h1;rfl,by unfold af;exact h1⟩
 case kp c m j=>obtain⟨u,rfl,h1⟩:=h;exact⟨u,rfl,by unfold aO at h1;obtain⟨b,o,us,rfl,_⟩:=h1;rfl,by unfold af;exact h1⟩
 case vec id=>obtain⟨u,rfl,h1⟩:=h;exact⟨u,rfl,by unfold aO at h1;exact h1.1,by unfold af;exact h1⟩
 case gR id i j=>obtain⟨u,rfl,h1⟩:=h;exact⟨u,rfl,by unfold aO at h1;exact h1.1,by unfold af;exact h1⟩
 case part id lo n=>obtain⟨u,rfl,h1⟩:=h;exact⟨u,rfl,by unfold aO at h1;exact h1.1,by unfold af;exact h1⟩
 case sub id off n=>obtain⟨u,rfl,h1⟩:=h;exact⟨u,rfl,by unfold aO at h1;exact h1.1,by unfold af;exact h1⟩
 case lO id i j n=>obtain⟨u,rfl,h1⟩:=h;exact⟨u,rfl,by unfold aO at h1;exact h1.1,by unfold af;exact h1⟩
 case emp=>obtain⟨u,rfl,a,rfl⟩:=h;exact⟨_,rfl,rfl,by unfold af;exact⟨a,rfl⟩⟩
 case fn f dw=>obtain⟨u,rfl,vs,rfl,h1⟩:=h;exact⟨_,rfl,rfl,by unfold af;exact⟨vs,rfl,h1⟩⟩
 case fnb f dw=>obtain⟨u,rfl,vs,rfl,h1⟩:=h;exact⟨_,rfl,rfl,by unfold af;exact⟨vs,rfl,h1⟩⟩
theorem kV{a:AV}{u:Value}(ha:a.single=true)(h:af ρ H O w a u):aR ρ H O w a [u]/\u.oneCell'=true:=by
 cases a<;>simp only[AV.single,reduceCtorEq]at ha
 case s x=>
  have h1:aX O w x u:=ay (by rintro rfl;simp at ha) h;exact⟨by unfold aR;exact⟨u,rfl,h1⟩,h1.one⟩
 case ptr id off=>unfold af at h;exact⟨by unfold aR;exact⟨u,rfl,h⟩,by unfold aO at h;obtain⟨b,_,rfl,_⟩:=h;rfl⟩
 case kT id off n i=>unfold af at h;exact⟨by unfold aR;exact⟨u,rfl,h⟩,by unfold aO at h;obtain⟨_,b,_,rfl,_⟩:=h;rfl⟩
 case kp c m j=>unfold af at h;exact⟨by unfold aR;exact⟨u,rfl,h⟩,by unfold aO at h;obtain⟨b,o,us,rfl,_⟩:=h;rfl⟩
 case vec id=>unfold af at h;exact⟨by unfold aR;exact⟨u,rfl,h⟩,by unfold aO at h;exact h.1⟩
 case gR id i j=>unfold af at h;exact⟨by unfold aR;exact⟨u,rfl,h⟩,by unfold aO at h;exact h.1⟩
 case part id lo n=>unfold af at h;exact⟨by unfold aR;exact⟨u,rfl,h⟩,by unfold aO at h;exact h.1⟩
 case sub id off n=>unfold af at h;exact⟨by unfold aR;exact⟨u,rfl,h⟩,by unfold aO at h;exact h.1⟩
 case lO id i j n=>unfold af at h;exact⟨by unfold aR;exact⟨u,rfl,h⟩,by unfold aO at h;exact h.1⟩
 case emp=>unfold af at h;exact⟨by unfold aR;exact⟨u,rfl,h⟩,by obtain⟨a,rfl⟩:=h;rfl⟩
 case fn f dw=>unfold af at h;exact⟨by unfold aR;exact⟨u,rfl,h⟩,by obtain⟨vs,rfl,_⟩:=h;rfl⟩
 case fnb f dw=>unfold af at h;exact⟨by unfold aR;exact⟨u,rfl,h⟩,by obtain⟨vs,rfl,_⟩:=h;rfl⟩
 case fA id=>unfold af at h;exact⟨by unfold aR;exact⟨u,rfl,h⟩,by unfold aO at h;obtain⟨b,_,rfl,_⟩:=h;rfl⟩
 case tag id=>unfold af at h;exact⟨by unfold aR;exact⟨u,rfl,h⟩,by unfold aO at h;exact h.2.1⟩
theorem gT{a:AV}(h:∀k n ws,a≠.ah k n ws):a.wide=1:=by
 cases a<;>first|rfl|(exact(h _ _ _ rfl).elim)
end
section
variable{ρ aN:Nat->Value}{H H':aT}{G O O':Nat->Prop}{w w':World}{P:Program}
theorem abq{a:AV}(h:∀k n ws,a≠.ah k n ws)(aQ:List AV)(off:Nat):cellAt (a::aQ) off=match off with|0=>some a|m+1=>cellAt aQ m:=by
 cases a<;>first|(cases off<;>rfl)|(exact(h _ _ _ rfl).elim)
theorem vU{a:AV}(h:∀k n ws,a≠.ah k n ws)(aQ:List AV)(off:Nat)(v:AV):gW (a::aQ) off v=match off with|0=>some (v::aQ)|m+1=>(gW aQ m v).map (a:: ·):=by
 cases a<;>first|(cases off<;>rfl)|(exact(h _ _ _ rfl).elim)
theorem rP{a:AV}(h:∀k n ws,a≠.ah k n ws)(aQ:List AV)(off:Nat):jV (a::aQ) off=match off with|0=>none|m+1=>jV aQ m:=by
 cases a<;>first|(cases off<;>rfl)|(exact(h _ _ _ rfl).elim)
theorem xc{a:AV}(h:∀k n ws,a≠.ah k n ws)(aQ:List AV)(off:Nat)(v:List Int):kU (a::aQ) off v=match off with|0=>none|m+1=>(kU aQ m v).map (a:: ·):=by
 cases a<;>first|(cases off<;>rfl)|(exact(h _ _ _ rfl).elim)
theorem tV(a:AV):(∃k n ws,a=.ah k n ws)\/∀k n ws,a≠.ah k n ws:=by
 cases a<;>first|(exact .inl ⟨_,_,_,rfl⟩)|(exact .inr (by simp))
theorem dd{k:IntKind}{n:Nat}{ws:List Int}{cs:List Value}:aR ρ H O w (.ah k n ws) cs↔ws.length=n/\cs=ws.map (Value.int k):=by
 unfold aR;exact Iff.rfl
theorem my:∀(az:List AV) (off:Nat) {cs:List Value} {v:AV},cellAt az off=some v->aA ρ H O w az cs->∃u,cs[off]? =some u/\u.oneCell'=true/\af ρ H O w v u
 |[],off,cs,v,h,_=>by simp[cellAt]at h
 |a::aQ,off,cs,v,h,hd=>by
  obtain⟨c1,c2,rfl,h1,h2⟩:=ag.1 hd;rcases tV a with⟨k,n,ws,rfl⟩|ha;obtain⟨hl,rfl⟩:=dd.1 h1;simp only[cellAt,cond_eq_ite]at h;split at h;rename_i bq;have bq:off<n:=by simpa[Nat.blt,Nat.lt_iff_add_one_le]using bq
  simp only[Option.some.injEq]at h;subst h;have hx:off<ws.length:=by omega
  exact⟨.int k ws[off],by rw[getElem?_append_left (by simpa using hx)];simp[hx],rfl,by rw[show ws.getD off 0=ws[off]from by simp[List.getD,hx]];exact aF (.int _ _)⟩;rename_i bq;have bq:¬off<n:=by simpa[Nat.blt,Nat.lt_iff_add_one_le]using bq
  have⟨u,h3,h4⟩:=my aQ (off - n) h h2;exact⟨u,by rw[getElem?_append_right (by simp;omega)];simpa[hl]using h3,h4⟩;rw[abq ha]at h;obtain⟨u,rfl,h3,h4⟩:=fV h1 (gT ha) ha;cases off with
  |zero=>simp only[Option.some.injEq]at h;subst h;exact⟨u,rfl,h3,h4⟩|succ m=>
   have⟨u',h5,h6⟩:=my aQ m h h2;exact⟨u',by simpa using h5,h6⟩
theorem nk:∀(az:List AV) (off:Nat) {cs:List Value} {v:AV} {u:Value} {de:List AV},gW az off v=some de->aA ρ H O w az cs->v.single=true->af ρ H O w v u->
 off<cs.length/\aA ρ H O w de (cs.set off u)
 |[],off,cs,v,u,de,h,_,_,_=>by simp[gW]at h
 |a::aQ,off,cs,v,u,de,h,hd,hv,hu=>by
  obtain⟨c1,c2,rfl,h1,h2⟩:=ag.1 hd;rcases tV a with⟨k,n,ws,rfl⟩|ha;obtain⟨hl,rfl⟩:=dd.1 h1;simp only[gW,cond_eq_ite]at h;split at h;rename_i bq;have bq:off<n:=by simpa[Nat.blt,Nat.lt_iff_add_one_le]using bq
  split at h;rename_i k' l x hx;split at h;rename_i hk;obtain rfl:=bu hk;simp only[Option.some.injEq]at h;subst h;obtain rfl:=cq hx hu;refine⟨by simp;omega,ag.2 ⟨(ws.set off x).map (Value.int k),c2, ?_,dd.2 ⟨by simp[hl],rfl⟩,h2⟩⟩;rw[List.set_append_left _ _ (by simp;omega),List.map_set];cases h;cases h;rename_i bq;have bq:¬off<n:=by simpa[Nat.blt,Nat.lt_iff_add_one_le]using bq
  simp only[map_eq_some_iff]at h;obtain⟨ss,h3,rfl⟩:=h;have⟨h4,h5⟩:=nk aQ (off - n) h3 h2 hv hu;refine⟨by simp;omega,ag.2 ⟨_,c2.set (off - n) u, ?_,dd.2 ⟨hl,rfl⟩,h5⟩⟩;rw[List.set_append_right _ _ (by simp;omega)];simp[hl];rw[vU ha]at h;obtain⟨u0,rfl,h3,h4⟩:=fV h1 (gT ha) ha;cases off with
  |zero=>
   simp only[Option.some.injEq]at h;subst h;exact⟨by simp,ag.2 ⟨[u],c2,rfl,(kV hv hu).1,h2⟩⟩
  |succ m=>
   simp only[map_eq_some_iff]at h;obtain⟨ss,h5,rfl⟩:=h;have⟨h6,h7⟩:=nk aQ m h5 h2 hv hu;exact⟨by simp;omega,ag.2 ⟨[u0],c2.set m u,rfl,h1,h7⟩⟩
theorem pM:∀(az:List AV) (off:Nat) {cs:List Value} {k:IntKind} {n:Nat} {ws:List Int},jV az off=some (k,n,ws)->aA ρ H O w az cs->
 ws.length=n/\∃pre post,cs=pre++ws.map (Value.int k)++post/\pre.length=off
 |[],off,cs,k,n,ws,h,_=>by simp[jV]at h
 |a::aQ,off,cs,k,n,ws,h,hd=>by
  obtain⟨c1,c2,rfl,h1,h2⟩:=ag.1 hd;rcases tV a with⟨k',n',nU,rfl⟩|ha;obtain⟨hl,rfl⟩:=dd.1 h1;simp only[jV,cond_eq_ite]at h;split at h;rename_i h0;have h0:off=0:=by simpa using h0
  subst h0;simp only[Option.some.injEq,Prod.mk.injEq]at h;obtain⟨rfl,rfl,rfl⟩:=h;exact⟨hl,[],c2,by simp,rfl⟩;split at h;cases h;rename_i bq;have bq:¬off<n':=by simpa[Nat.blt,Nat.lt_iff_add_one_le]using bq
  obtain⟨h3,pre,post,rfl,h4⟩:=pM aQ (off - n') h h2;exact⟨h3,nU.map (Value.int k')++pre,post,by simp,by simp;omega⟩;rw[rP ha]at h;obtain⟨u0,rfl,h3,h4⟩:=fV h1 (gT ha) ha;cases off with
  |zero=>cases h
  |succ m=>
   obtain⟨h3,pre,post,rfl,h4⟩:=pM aQ m h h2;exact⟨h3,u0::pre,post,by simp,by simp[h4]⟩
theorem oC:∀(az:List AV) (off:Nat) {pre post:List Value} {k:IntKind} {n:Nat} {ws nU:List Int} {de:List AV},jV az off=some (k,n,ws)->kU az off nU=some de->nU.length=ws.length->
 aA ρ H O w az (pre++ws.map (Value.int k)++post)->pre.length=off->aA ρ H O w de (pre++nU.map (Value.int k)++post)
 |[],off,_,_,k,n,ws,_,_,h,_,_,_,_=>by simp[jV]at h
 |a::aQ,off,pre,post,k,n,ws,nU,de,h,hs,bC,hd,hp=>by
  have⟨c1,c2,hc,h1,h2⟩:=ag.1 hd;rcases tV a with⟨k',n',ws1,rfl⟩|ha;obtain⟨hl,rfl⟩:=dd.1 h1;simp only[jV,kU,cond_eq_ite]at h hs;split at h;rename_i h0;have h0':off=0:=by simpa using h0
  subst h0';simp only[Option.some.injEq,Prod.mk.injEq]at h;obtain⟨rfl,rfl,rfl⟩:=h;rw[if_pos h0]at hs;simp only[Option.some.injEq]at hs;subst hs;obtain rfl:pre=[]:=List.eq_nil_of_length_eq_zero hp;simp only[nil_append]at hc ⊢;have:=List.append_cancel_left hc;subst this;exact ag.2 ⟨_,post,rfl,dd.2 ⟨by omega,rfl⟩,h2⟩;rename_i h0;rw[if_neg h0]at hs;split at h;cases h;rename_i bq;rw[if_neg bq]at hs;have bq:¬off<n':=by simpa[Nat.blt,Nat.lt_iff_add_one_le]using bq
  simp only[map_eq_some_iff]at hs;obtain⟨ss,h3,rfl⟩:=hs;have hpl:(ws1.map (Value.int k')).length<=pre.length:=by simp;omega
  obtain⟨apz,rfl⟩:∃apz,pre=ws1.map (Value.int k')++apz:=by
   rw[append_assoc]at hc;have⟨x,hx⟩:=List.prefix_of_prefix_length_le (⟨_,rfl⟩:ws1.map (Value.int k')<+:ws1.map (Value.int k')++c2) (⟨_,hc⟩:pre<+:_) hpl;exact⟨x,hx.symm⟩
  simp only[append_assoc]at hc ⊢;have hc':=List.append_cancel_left hc;subst hc';have hp':apz.length=off - n':=by simp at hp;omega
  exact ag.2 ⟨_,_,rfl,h1,by simpa using oC aQ (off - n') h h3 bC (by simpa using h2) hp'⟩;rw[rP ha]at h;rw[xc ha]at hs;obtain⟨u0,rfl,h3,h4⟩:=fV h1 (gT ha) ha;cases off with
  |zero=>cases h
  |succ m=>
   simp only[map_eq_some_iff]at hs;obtain⟨ss,h5,rfl⟩:=hs;cases pre with
   |nil=>simp at hp|cons p apz=>
    simp only[cons_append,List.cons.injEq,nil_append]at hc;obtain⟨rfl,hc'⟩:=hc;simp only[length_cons,Nat.add_right_cancel_iff]at hp;rw[<-hc']at h2;exact ag.2 ⟨[p],_,rfl,h1,by simpa using oC aQ m h h5 bC (by simpa using h2) hp⟩
theorem ajy{az kb de:List AV}{off:Nat}{cs vs:List Value}(h:afE az off kb=some de)(hd:aA ρ H O w az cs)(hb:aA ρ H O w kb vs):
 off+vs.length<=cs.length/\aA ρ H O w de (cs.take off++vs++cs.drop (off+vs.length)):=by
 unfold afE at h;split at h;rename_i k n ws x;split at h;rename_i k' li z hx;rw[cond_eq_ite]at h;split at h;rename_i hc;simp only[and_eq_true]at hc;have⟨hk,bq⟩:=hc;have bq:off<n:=Nat.lt_of_lt_of_le (Nat.lt_succ_self _) (le_of_ble_eq_true bq);obtain rfl:=bu hk;simp only[Option.some.injEq]at h;subst h;obtain⟨c1,c2,rfl,h1,h2⟩:=ag.1 hd;obtain rfl:=aD.1 h2;obtain⟨hl,rfl⟩:=dd.1 h1;obtain⟨d1,d2,rfl,h3,h4⟩:=ag.1 hb;obtain rfl:=aD.1 h4
 have hv:d1=[.int k z]:=by
  cases x with
  |s y=>
   unfold aR at h3;obtain⟨u,rfl,h5⟩:=h3;cases y<;>simp only[AV.cD,Option.some.injEq,Prod.mk.injEq,reduceCtorEq]at hx
   all_goals
    obtain⟨rfl,_,rfl⟩:=hx;cases h5;rfl
  |_=>simp only[AV.cD,reduceCtorEq]at hx
 subst hv;simp only[append_nil,length_map,List.length_singleton];refine⟨by omega,ag.2 ⟨_,[],(append_nil _).symm,dd.2 ⟨by rw[length_set];exact hl, ?_⟩,aD.2 rfl⟩⟩;rw[List.map_set,List.set_eq_take_append_cons_drop,if_pos (by rw[length_map];omega),append_assoc];rfl;cases h;cases h;cases h
theorem xd{az kb de:List AV}{off:Nat}{cs vs:List Value}(h:wm az off kb=some de)(hd:aA ρ H O w az cs)(hb:aA ρ H O w kb vs):
 off+vs.length<=cs.length/\aA ρ H O w de (cs.take off++vs++cs.drop (off+vs.length)):=by
 unfold wm at h;split at h;rename_i r hr;simp only[Option.some.injEq]at h;subst h;exact ajy hr hd hb;split at h;rename_i pre post h1 h2;simp only[Option.some.injEq]at h;subst h;have hl:=jG hb;rw[<-hl]at h2;have⟨h3,h4⟩:=fU _ _ h1 hd;have⟨h5,h6⟩:=fT _ _ h2 hd;exact⟨h5,fR.2 ⟨_,_,rfl,fR.2 ⟨_,_,rfl,h4,hb⟩,h6⟩⟩;cases h
theorem xe(az:List AV){cs:List Value}(h:aA ρ H O w az cs):∀v∈cs,v.oneCell'=true:=by
 induction az generalizing cs with
 |nil=>rw[aD.1 h];simp|cons a aQ ih=>
  obtain⟨c1,c2,rfl,h1,h2⟩:=ag.1 h;intro v hv;rcases mem_append.1 hv with hv|hv;rcases tV a with⟨k,n,ws,rfl⟩|ha;obtain⟨hl,rfl⟩:=dd.1 h1;obtain⟨x,_,rfl⟩:=mem_map.1 hv;rfl;obtain⟨u,rfl,h3,_⟩:=fV h1 (gT ha) ha;simp only[mem_singleton]at hv;subst hv;exact h3;exact ih h2 v hv
theorem rQ{x:AV}{v:Value}{az:List AV}(h:x.ka =some az)(hd:af ρ H O w x v):aA ρ H O w az v.cells.toList:=by
 have one:∀a,a.single=true->af ρ H O w a v->aA ρ H O w [a] v.cells.toList:=by
  intro a ha hv;have⟨h1,h2⟩:=kV ha hv;have:v.cells.toList=[v]:=by cases v<;>first|rfl|(simp[Value.oneCell']at h2)
  rw[this];exact ag.2 ⟨[v],[],rfl,h1,aD.2 rfl⟩
 cases x with
 |agg ss=>
  simp only[AV.ka,Option.some.injEq]at h;subst h;unfold af at hd;obtain⟨cs,rfl,h1⟩:=hd;simpa[Value.cells]using h1
 |ah k n ws=>
  simp only[AV.ka,Option.some.injEq]at h;subst h;unfold af at hd;obtain⟨hl,rfl⟩:=hd;exact ag.2 ⟨ws.map (Value.int k),[],by simp[Value.cells],dd.2 ⟨hl,rfl⟩,aD.2 rfl⟩
 |bt _=>simp[AV.ka]at h|s x=>cases x<;>simp only[AV.ka,Option.some.injEq,reduceCtorEq]at h<;>subst h<;>exact one _ rfl hd
 |_=>simp only[AV.ka,Option.some.injEq]at h;subst h;exact one _ rfl hd
theorem mz{az:List AV}{cs:List Value}(h:aA ρ H O w az cs):af ρ H O w (.mf az) (.agg cs.toArray):=by
 unfold AV.mf;split;obtain⟨c1,c2,rfl,h1,h2⟩:=ag.1 h;obtain rfl:=aD.1 h2;obtain⟨hl,rfl⟩:=dd.1 h1;unfold af;exact⟨hl,by simp⟩;unfold af;exact⟨cs,rfl,h⟩
end
def World.cF(w:World)(b:Nat)(o:Obj):World:={w with heap:=w.heap.setIfInBounds b o}
theorem xf{w:World}{b:Nat}{cells:Array Value}{e:TypeId}{fr:Nat×Nat}(hb:w.heap[b]? =some (.cells cells e fr))(hu:unm fr cells.size){off:Nat}(ho:off<cells.size):
 w.frozen? ⟨b,off,none⟩=false:=by
 have:=hu off ho;simp only[World.frozen?,hb,Bool.and_eq_false_imp,decide_eq_true_eq,decide_eq_false_iff_not];intro h1 h2;exact this ⟨h1,h2⟩
theorem acU{w:World}{b:Nat}{cells:Array Value}{e:TypeId}{fr:Nat×Nat}(hb:w.heap[b]? =some (.cells cells e fr))(off:Nat)(v:Value):
 w.setCell ⟨b,off,none⟩ v=World.cF w b (.cells (cells.setIfInBounds off v) e fr):=by
 simp only[World.setCell,World.cF];congr 1;apply Array.ext_getElem?;intro i;rw[Array.getElem?_modify,Array.getElem?_setIfInBounds];by_cases h:b=i;subst h;have⟨bq,vV⟩:=Array.getElem?_eq_some_iff.1 hb;simp[vV,bq];simp[h]
theorem ei{w:World}{b:Nat}{o o':Obj}(hb:w.heap[b]? =some o):(World.cF w b o').heap[b]? =some o':=by
 have bq:b<w.heap.size:=(Array.getElem?_eq_some_iff.1 hb).1;simp[World.cF,bq]
theorem jg{w:World}{b i:Nat}{o:Obj}(h:i≠b):(World.cF w b o).heap[i]? =w.heap[i]? :=by
 simp only[World.cF];rw[Array.getElem?_setIfInBounds_ne (by omega)]
theorem jH{w:World}{b:Nat}{o:Obj}:(World.cF w b o).heap.size=w.heap.size:=by simp[World.cF]
theorem zw{w:World}{b:Nat}{o o':Obj}:World.cF (World.cF w b o) b o'=World.cF w b o':=by
 simp only[World.cF];congr 1;apply Array.ext_getElem?;intro i;by_cases h:b=i;subst h;simp[Array.getElem?_setIfInBounds];simp[h]
theorem vn{w:World}{b:Nat}{o:Obj}(hb:w.heap[b]? =some o):World.cF w b o=w:=by
 have:w.heap.setIfInBounds b o=w.heap:=by
  apply Array.ext_getElem?;intro i;by_cases h:b=i;subst h;have⟨bq,vV⟩:=Array.getElem?_eq_some_iff.1 hb;simp[vV,bq];rw[Array.getElem?_setIfInBounds_ne (by omega)]
 simp only[World.cF,this]
theorem zx{P:Program}{w:World}{b:Nat}{cells:List Value}{e:TypeId}{fr:Nat×Nat}(hb:w.heap[b]? =some (.cells cells.toArray e fr))(hu:unm fr cells.length){off:Nat}(ho:off<cells.length)
 {v:Value} (hv:v.oneCell'=true):(store ⟨b,off,none⟩ v).run P w=.ok () (World.cF w b (.cells (cells.set off v).toArray e fr)):=by
 rw[run_store P w _ v _ hv];have hc:w.cell? ⟨b,off,none⟩=some cells[off]:=by simp[World.cell?,hb,ho]
 have hf:=xf hb (by simpa using hu) (off:=off) (by simpa using ho);simp only[hc,hf,Bool.false_eq_true,if_false,acU hb,List.setIfInBounds_toArray]
theorem bd(b off i:Nat):(⟨b,off,none⟩:Addr).add i=⟨b,off+i,none⟩:=by
 unfold Addr.add;split;rename_i h;subst h;rfl;rfl
theorem bY{P:Program}{b:Nat}{e:TypeId}{fr:Nat×Nat}(off:Nat):∀(vs:List Value) (i:Nat) {w:World} {cells:List Value},w.heap[b]? =some (.cells cells.toArray e fr)->unm fr cells.length->
 off+i+vs.length<=cells.length->(∀v∈vs,v.oneCell'=true)->
 (storeCells ⟨b,off,none⟩ vs i).run P w=.ok () (World.cF w b (.cells (cells.take (off+i)++vs++cells.drop (off+i+vs.length)).toArray e fr))
 |[],i,w,cells,hb,hu,hl,hv=>by
  simp only[storeCells,Sem.run_pure,length_nil,add_zero,append_nil,List.take_append_drop];rw[vn hb]
 |v::vs,i,w,cells,hb,hu,hl,hv=>by
  simp only[length_cons]at hl;have bq:off+i<cells.length:=by omega
  simp only[storeCells,Sem.run_bind,bd,zx hb hu bq (hv v (by simp)),Result.andThen_ok];rw[bY off vs (i+1) (ei hb) (by simpa using hu) (by simp;omega) (λx hx=>hv x (by simp[hx])),zw];congr 4;rw[<-add_assoc,List.take_set,List.drop_set_of_lt (by omega)]
  have e1:(cells.take (off+i+1)).set (off+i) v=cells.take (off+i)++[v]:=by
   rw[List.take_succ_eq_append_getElem bq];rw[List.set_append_right _ _ (by simp;omega)];simp[Nat.min_eq_left (Nat.le_of_lt bq)]
  rw[e1];simp only[append_assoc,length_cons,cons_append,nil_append];rw[show off+i+1+vs.length=off+i+(vs.length+1)from by omega]
theorem kI{w:World}{o:Obj}:(w.alloc o).heap[w.heap.size]? =some o:=by
 show(w.heap.push o)[w.heap.size]? =_;simp
theorem alloc_old{w:World}{o:Obj}{i:Nat}(h:i<w.heap.size):(w.alloc o).heap[i]? =w.heap[i]? :=by
 show(w.heap.push o)[i]? =_;rw[Array.getElem?_push,if_neg (by omega)]
theorem fW{w:World}{o:Obj}:(w.alloc o).heap.size=w.heap.size+1:=by
 show(w.heap.push o).size=_;simp
section
variable{ρ aN:Nat->Value}{H H':aT}{G O O':Nat->Prop}{w w':World}{P:Program}
def aC(H:aT)(id:Nat)(o:ak):aT:=λj=>if j=id then some o else H j
theorem abr{id:Nat}{o o':ak}(ho:H id=some o)(ha:o.alive=o'.alive)(b:Nat):Own ρ (aC H id o') b↔Own ρ H b:=by
 constructor;rintro⟨j,x,hx,h1,h2⟩;unfold aC at hx;split at hx;rename_i hj;subst hj;simp only[Option.some.injEq]at hx;subst hx;exact⟨j,o,ho,ha.trans h1,h2⟩;exact⟨j,x,hx,h1,h2⟩;rintro⟨j,x,hx,h1,h2⟩;by_cases hj:j=id;subst hj;rw[ho]at hx;cases hx;exact⟨j,o',by simp[aC],ha.symm.trans h1,h2⟩;exact⟨j,x,by simp[aC,hj,hx],h1,h2⟩
theorem abt{id:Nat}{o o':ak}(ho:H id=some o)(ha:o.alive=o'.alive):aW ρ (aC H id o') G=aW ρ H G:=by
 funext b;exact propext (or_congr_left (abr ho ha b))
theorem Good.write(hs:Sat ρ H G w){id:Nat}{o o':ak}(ho:H id=some o)(ha:o.alive=true)(ha':o'.alive=true){b:Nat}(hb:eZ (ρ id)=some b)
 (tW:∀c' e',o'=.vec c' e'->∃c e,o=.vec c e/\c'.n=c.n/\c'.size=c.size)
 {tX:Obj} {r:AV} {v:Value}
 (dU:iA ρ (aC H id o') (aW ρ H G) (World.cF w b tX) (ρ id) o')
 (hr:af ρ (aC H id o') (aW ρ H G) (World.cF w b tX) r v):
 Good ρ H G w (aC H id o') r v (World.cF w b tX):=by
 have hh:=abt (ρ:=ρ) (G:=G) ho (ha.trans ha'.symm);have ej:Own ρ H b:=⟨id,o,ho,ha,hb⟩
 have st:Step ρ H (aW ρ H G) w ρ (aC H id o') (aW ρ (aC H id o') G) (World.cF w b tX):=by
  refine⟨λ_ _ _=>rfl,λj x hx=> ?_,λc hc=>.inl (by rw[hh]at hc;exact hc),λc hc hO=> ?_,by rw[jH];exact le_refl _⟩;by_cases hj:j=id;subst hj;rw[ho]at hx;cases hx;exact⟨o',by simp[aC],tW⟩;exact⟨x,by simp[aC,hj,hx],λc' e' hc=>⟨c',e',hc,rfl,rfl⟩⟩;exact jg (λe=>hO (.inl (by subst e;exact ej)))
 refine⟨ρ,⟨λj x hx=> ?_,λi j oi oj c h1 h2 h3 h4 h5 h6=> ?_,λc hc=> ?_,λc hc=> ?_⟩,by rw[hh];exact hr,st,⟨rfl,rfl,rfl,λc hc hO=>jg (λe=>hO (by subst e;exact ej))⟩⟩;by_cases hj:j=id;subst hj;simp only[aC,if_true,Option.some.injEq]at hx;subst hx;rw[hh];exact dU;have hx':H j=some x:=by simpa[aC,hj]using hx
 refine(hs.obj j x hx').step st (λc xg hc=>jg (λe=>hj ?_));subst e;exact hs.inj j id x o c hx' ho xg ha hc hb
 have f:∀i oi,aC H id o' i=some oi->oi.alive=true->∃x,H i=some x/\x.alive=true:=by
  intro i oi hi xg;by_cases fy:i=id;subst fy;exact⟨o,ho,ha⟩;exact⟨oi,by simpa[aC,fy]using hi,xg⟩
 have⟨x,hx,hxa⟩:=f i oi h1 h3;have⟨y,hy,hya⟩:=f j oj h2 h4;exact hs.inj i j x y c hx hy hxa hya h5 h6;exact hs.apart c ((abr ho (ha.trans ha'.symm) c).1 hc);rw[jH];exact hs.low c hc
theorem Good.fresh(hs:Sat ρ H G w){n:Nat}(hn:H n=none){o:ak}{obj:Obj}{aa:Value}{r:AV}{v:Value}
 {w1:World} (hw:w1.heap=w.heap) (ht:w1.tape=w.tape) (hos:w1.os=w.os) (qj:w1.output=w.output)
 (dL:∀b,eZ aa=some b->b=w.heap.size)
 (dU:iA (λj=>if j=n then aa else ρ j) (aC H n o) (aW (λj=>if j=n then aa else ρ j) (aC H n o) G) (w1.alloc obj) aa o)
 (hr:af (λj=>if j=n then aa else ρ j) (aC H n o) (aW (λj=>if j=n then aa else ρ j) (aC H n o) G) (w1.alloc obj) r v):
 Good ρ H G w (aC H n o) r v (w1.alloc obj):=by
 have bV:(w1.alloc obj).heap.size=w.heap.size+1:=by rw[fW,hw]
 have hold:∀i,i<w.heap.size->(w1.alloc obj).heap[i]? =w.heap[i]? :=λi hi=>by rw[alloc_old (by rw[hw];exact hi),hw]
 have ne:∀j x,H j=some x->j≠n:=λj x hx e=>by subst e;rw[hn]at hx;cases hx
 have rR:∀b,Own (λj=>if j=n then aa else ρ j) (aC H n o) b->Own ρ H b\/b=w.heap.size:=by
  rintro b ⟨j,x,hx,h1,h2⟩;by_cases hj:j=n;subst hj;simp only[if_true]at h2;exact .inr (dL b h2);simp only[aC,hj,if_false]at hx h2;exact .inl ⟨j,x,hx,h1,h2⟩
 have st:Step ρ H (aW ρ H G) w (λj=>if j=n then aa else ρ j) (aC H n o) (aW (λj=>if j=n then aa else ρ j) (aC H n o) G) (w1.alloc obj):=by
  refine⟨λj x hx=>by simp[ne j x hx],λj x hx=>⟨x,by simp[aC,ne j x hx,hx],λc' e' hc=>⟨c',e',hc,rfl,rfl⟩⟩,λb hb=> ?_,λb hb _=>hold b hb,by omega⟩;rcases hb with hb|hb;rcases rR b hb with h1|h1;exact .inl (.inl h1);exact .inr (by omega);exact .inl (.inr hb)
 refine⟨_,⟨λj x hx=> ?_,λi j oi oj b h1 h2 h3 h4 h5 h6=> ?_,λb hb=> ?_,λb hb=> ?_⟩,hr,st,⟨hos,ht,qj,λb hb _=>hold b hb⟩⟩;by_cases hj:j=n;subst hj;simp only[aC,if_true,Option.some.injEq]at hx;subst hx;simp only[if_true];exact dU;have hx':H j=some x:=by simpa[aC,hj]using hx
 simp only[hj,if_false];exact(hs.obj j x hx').step st (λb xg hb=>hold b (gS hs ⟨j,x,hx',xg,hb⟩));by_cases hi:i=n<;>by_cases hj:j=n;rw[hi,hj];simp only[aC,hi,hj,if_true,if_false]at h1 h2 h5 h6;have e:=dL b h5;have:=gS hs ⟨j,oj,h2,h4,h6⟩;omega;simp only[aC,hi,hj,if_true,if_false]at h1 h2 h5 h6;have e:=dL b h6;have:=gS hs ⟨i,oi,h1,h3,h5⟩;omega;simp only[aC,hi,hj,if_false]at h1 h2 h5 h6;exact hs.inj i j oi oj b h1 h2 h3 h4 h5 h6;rcases rR b hb with h1|h1;exact hs.apart b h1;intro hg;have:=hs.low b hg;omega;have:=hs.low b hb;omega
end
def fC(P:Program)(ρ:Nat->Value)(H:aT)(O:Nat->Prop)(w:World)(q:bR)(s:Sem Value):Prop:=
 q.up=[]/\q.new=[]/\∃v,s.run P w=.ok v w/\∀base,af ρ H O w (q.r base) v
section
variable{ρ aN:Nat->Value}{H H':aT}{G O O':Nat->Prop}{w w':World}{P:Program}
theorem aP{ab:List Prop}{r:AV}{q:bR}{s:Sem Value}(h:(plain ab r).eval H=some q)(f:bK ab->∃v,s.run P w=.ok v w/\af ρ H O w r v)(hn:bK q.ab):fC P ρ H O w q s:=by
 simp only[plain,RM.eval,Option.some.injEq]at h;subst h;have⟨v,h1,h2⟩:=f hn;exact⟨rfl,rfl,v,h1,λ_=>h2⟩
theorem hM{t:TypeId}{b:Bool}(h:iy P t=some b)(w:World):(isAgg t).run P w=.ok b w:=by
 unfold iy at h;split at h<;>first|(cases h;rename_i ht;simp[isAgg,run_underlying ht];done)|cases h
theorem qv{f:Nat->Value}{n j:Nat}{v:Value}(h:((List.range n).map f)[j]? =some v):j<n/\v=f j:=by
 by_cases hj:j<n;rw[getElem?_map,List.getElem?_range hj]at h;simp at h;exact⟨hj,h.symm⟩;rw[getElem?_eq_none (by simp;omega)]at h;cases h
theorem run_sizeOf{t:TypeId}{n:Nat}(h:dY P t=some n)(w:World):(sizeOf t).run P w=.ok n w:=by
 simp only[dY,map_eq_some_iff]at h;obtain⟨i,hi,rfl⟩:=h;simp[sizeOf,typeInfo,hi]
theorem dg{b:Nat}{cells:List Value}{e:TypeId}{fr:Nat×Nat}(hb:w.heap[b]? =some (.cells cells.toArray e fr))(off:Nat):w.cell? ⟨b,off,none⟩=cells[off]? :=by
 simp[World.cell?,hb]
theorem jW{t:TypeId}{n b off:Nat}{cs:List Value}(ha:iy P t=some true)(hs:dY P t=some n)(hl:cs.length=n)(hc:∀j v,cs[j]? =some v->w.cell? ⟨b,off+j,none⟩=some v):
 (Instr.loadAt t (.pointer (some ⟨b,off,none⟩))).run P w=.ok (.agg cs.toArray) w:=by
 subst hl;have:=run_loadCells_list (P:=P) (w:=w) ⟨b,off,none⟩ cs (λj v hj=>by rw[bd];exact hc j v hj);simp[Instr.loadAt,Instr.sureAddr,loadVar,hM ha,run_sizeOf hs,this]
theorem jX{t:TypeId}{b off:Nat}{v:Value}(ha:iy P t=some false)(hc:w.cell? ⟨b,off,none⟩=some v):
 (Instr.loadAt t (.pointer (some ⟨b,off,none⟩))).run P w=.ok v w:=by
 simp[Instr.loadAt,Instr.sureAddr,loadVar,hM ha,hc]
theorem pN(hs:Sat ρ H G w){id b:Nat}{az:List AV}{e:TypeId}(ho:H id=some (.aq az e))(hb:ρ id=.pointer (some ⟨b,0,none⟩)):
 ∃cells fr,w.heap[b]? =some (.cells cells.toArray e fr)/\unm fr cells.length/\aA ρ H (aW ρ H G) w az cells:=by
 have⟨b',cells,fr,h1,h2⟩:=hs.obj id _ ho;rw[hb]at h1;cases h1;exact⟨cells,fr,h2⟩
theorem ajz(hs:Sat ρ H G w){id i b f n cap:Nat}{c:aV}{e:TypeId}(ho:H id=some (.vec c e))(hi:i<c.n)(dL:ρ id=.slice (some ⟨b,f,none⟩) n cap):
 ∃us:Nat->Nat->Value,∀i j,i<c.n->j<c.size->w.cell? ⟨b,f+i*c.size+j,none⟩=some (us i j)/\aX (aW ρ H G) w (c.cell i j) (us i j):=by
 have⟨a,ajv,h1,h2,h3,h4⟩:=hs.obj id _ ho;rw[dL]at h1;cases h1;rcases h4 with rfl|⟨b',o,cells,fr,us,h5,h6,h7,h8,h9⟩;omega;cases h5;exact⟨us,λi j hi hj=>⟨by rw[dg h6];exact(h9 i j hi hj).1,(h9 i j hi hj).2⟩⟩
theorem acV(n:Nat)(f:Nat->SV)(us:Nat->Value)(h:∀i,i<n->aX O w (f i) (us i)):aA ρ H O w ((List.range n).map λi=>.s (f i)) ((List.range n).map us):=by
 induction n with
 |zero=>simp[aD]|succ n ih=>
  rw[List.range_succ,map_append,map_append];exact fR.2 ⟨_,_,rfl,ih (λi hi=>h i (by omega)),ag.2 ⟨[us n],[],rfl,by unfold aR;exact⟨_,rfl,h n (by omega)⟩,aD.2 rfl⟩⟩
theorem nM{a b:Nat}(h:a<b):a.blt b=true:=Nat.ble_eq_true_of_le h
theorem rS{a b:Nat}(h:b<=a):a.blt b=false:=by
 cases hh:a.blt b;rfl;exact absurd (le_of_ble_eq_true hh) (by omega)
theorem qV:∀(cs:List CK) (x:CL cs) (us:Nat->Value) (off:Nat),(∀l,l<CL.wide cs->aX O w (CL.cell cs x l) (us (off+l)))->bK (fi (CL.az cs x))->
 aA ρ H O w (CL.az cs x) ((List.range (CL.wide cs)).map λl=>us (off+l))
 |[],x,us,off,h,hn=>aD.2 (by simp[CL.wide])
 |c::cs,x,us,off,h,hn=>by
  have key:∀a:AV,CL.az (c::cs) x=a::CL.az cs x.2->c.wide=1->(∀y,aX O w (c.cell x.1 0) y->aR ρ H O w a [y])->bK (fi (CL.az cs x.2))->
   aA ρ H O w (CL.az (c::cs) x) ((List.range (CL.wide (c::cs))).map λl=>us (off+l)):=by
   intro a e hw ha tG;rw[e];simp only[CL.wide,hw];rw[List.range_add,map_append,List.map_map];refine ag.2 ⟨_,_,rfl, ?_, ?_⟩;have:=h 0 (by simp only[CL.wide];omega);simp only[CL.cell,hw,nM (show 0<1 from by omega),cond_true]at this;simpa using ha _ this;have ih:=qV cs x.2 us (off+1) (λl hl=> ?_) tG;have e2:(λl=>us (off+1+l))=(λl=>us (off+l))∘(λx=>1+x):=by funext l;simp[Function.comp,add_assoc]
   rw[e2]at ih;exact ih;have:=h (1+l) (by simp only[CL.wide];omega);simp only[CL.cell,hw]at this;rw[rS (show 1<=1+l from by omega),cond_false,show 1+l - 1=l from by omega,<-add_assoc]at this;exact this
  have one:∀{sv:SV} {y:Value},aX O w sv y->aR ρ H O w (.s sv) [y]:=λhy=>by unfold aR;exact⟨_,rfl,hy⟩
  cases c with
  |arr k n=>
   have⟨x1,x2⟩:=x;change List Int at x1;simp only[CL.az,fi]at hn ⊢;have⟨hl,tG⟩:=hn;simp only[CL.wide,CK.wide];rw[List.range_add,map_append,List.map_map];refine ag.2 ⟨_,_,rfl, ?_, ?_⟩;unfold aR;refine⟨hl, ?_⟩;refine List.ext_getElem (by simp[hl]) λi h1 h2=> ?_;have hi:i<n:=by simpa using h1
   have:=h i (by simp only[CL.wide,CK.wide];omega);simp only[CL.cell,CK.wide]at this;rw[nM hi,cond_true]at this;simp only[CK.cell]at this;have hx:x1.getD i 0=x1[i]'(by rw[hl];exact hi):=by simp[List.getD,hl,hi]
   rw[hx]at this;simp only[List.getElem_map,List.getElem_range];generalize us (off+i)=u at this ⊢;cases this;rfl;have ih:=qV cs x2 us (off+n) (λl hl=> ?_) tG;have e2:(λl=>us (off+n+l))=(λl=>us (off+l))∘(λx=>n+x):=by funext l;simp[Function.comp,add_assoc]
   rw[e2]at ih;exact ih;have:=h (n+l) (by simp only[CL.wide,CK.wide];omega);simp only[CL.cell,CK.wide]at this;rw[rS (show n<=n+l from by omega),cond_false,show n+l - n=l from by omega,<-add_assoc]at this;exact this
  |int k=>exact key _ rfl rfl (λy hy=>one hy) (by simpa[CL.az,fi]using hn)
  |bool=>exact key _ rfl rfl (λy hy=>one hy) (by simpa[CL.az,fi]using hn)
  |str=>exact key _ rfl rfl (λy hy=>one hy) (by simpa[CL.az,fi]using hn)
  |ah k=>exact key _ rfl rfl (λy hy=>one hy) (by simpa[CL.az,fi]using hn)
  |strs=>exact key _ rfl rfl (λy hy=>one hy) (by simpa[CL.az,fi]using hn)
  |bG=>exact key _ rfl rfl (λy hy=>one hy) (by simpa[CL.az,fi]using hn)
  |rows ds=>exact key _ rfl rfl (λy hy=>one hy) (by simpa[CL.az,fi]using hn)
theorem vp{zv:Bool}{c:aV}{i j sz:Nat}{t:TypeId}{q:bR}(h:(rN zv c i j sz).eval H=some q)(hn:bK q.ab)(rF:iy P t=some zv)(bV:dY P t=some sz){b o:Nat}{us:Nat->Value}
 (hc:∀l,l<c.size->w.cell? ⟨b,o+l,none⟩=some (us l)/\aX O w (c.cell i l) (us l)):fC P ρ H O w q (Instr.loadAt t (.pointer (some ⟨b,o+j,none⟩))):=by
 unfold rN at h;cases zv;simp only[cond_false]at h;rw[cond_eq_ite]at h;split at h;rename_i bq;have bq:j<c.size:=by simpa[Nat.blt,Nat.lt_iff_add_one_le]using bq
 exact aP h (λ_=>⟨us j,jX rF (hc j bq).1,aF (hc j bq).2⟩) hn;cases h;simp only[cond_true]at h;split at h;rename_i cs xs;split at h;rename_i ss hss;refine aP h (λawD=> ?_) hn;have hd:=qV (ρ:=ρ) (H:=H) cs (xs.getD i (CL.d cs)) us 0 (λl hl=>by rw[zero_add];exact(hc l hl).2) awD;simp only[zero_add]at hd;simp only[bind_eq_some_iff]at hss;have⟨s1,h4,h5⟩:=hss;have⟨h6,h7⟩:=fT _ j h4 hd;have⟨h8,h9⟩:=fU s1 sz h5 h7;refine⟨_,jW (cs:=(((List.range (CL.wide cs)).map us).drop j).take sz) rF bV (by simp at h8 ⊢;omega) (λl v hv=> ?_),mz h9⟩;rw[getElem?_take]at hv;split at hv;rw[List.getElem?_drop]at hv;obtain⟨bq,rfl⟩:=qv hv;rw[add_assoc];exact(hc (j+l) bq).1;cases hv;cases h;rw[cond_eq_ite]at h;split at h;rename_i hle;have hle:=le_of_ble_eq_true hle;refine aP h (λ_=>⟨_,jW (cs:=(List.range sz).map λl=>us (j+l)) rF bV (by simp) (λl v hv=> ?_), ?_⟩) hn;obtain⟨bq,rfl⟩:=qv hv;rw[add_assoc];exact(hc (j+l) (by omega)).1;unfold af;exact⟨_,rfl,acV sz (λl=>c.cell i (j+l)) (λl=>us (j+l)) (λl hl=>(hc (j+l) (by omega)).2)⟩;cases h
theorem acW{t:TypeId}{a:AV}{va:Value}{q:bR}(h:(aho P t a).eval H=some q)(hn:bK q.ab)(hs:Sat ρ H G w)(hd:af ρ H (aW ρ H G) w a va):
 fC P ρ H (aW ρ H G) w q (Instr.loadAt t va):=by
 unfold aho at h;split at h;rename_i sz zv bV rF;split at h;rename_i id off;unfold af aO at hd;obtain⟨b,hb,rfl,_⟩:=hd;simp only[RM.eval]at h;split at h;rename_i az e ho;have⟨cells,fr,h1,h2,h3⟩:=pN hs ho hb;cases zv;simp only[cond_false]at h;split at h;rename_i v hv;have⟨u,h4,h5,h6⟩:=my az off hv h3;exact aP h (λ_=>⟨u,jX rF (by rw[dg h1];exact h4),h6⟩) hn;cases h;simp only[cond_true]at h;split at h;rename_i ss hss;simp only[bind_eq_some_iff]at hss;have⟨s1,h4,h5⟩:=hss;have⟨h6,h7⟩:=fT az off h4 h3;have⟨h8,h9⟩:=fU s1 sz h5 h7;refine aP h (λ_=>⟨_,jW (cs:=(cells.drop off).take sz) rF bV (by simp at h8 ⊢;omega) (λj v hj=> ?_),mz h9⟩) hn;rw[dg h1];rw[getElem?_take]at hj;split at hj;simpa using hj;cases hj;cases h;cases h;rename_i id off n i;unfold af aO at hd;obtain⟨cP,b,hb,rfl,_⟩:=hd;simp only[RM.eval]at h;split at h;rename_i az e ho;have⟨cells,fr,h1,h2,h3⟩:=pN hs ho hb;split at h;rename_i k m ws apA;rw[cond_eq_ite]at h;split at h;rename_i hc;simp only[and_eq_true,not_eq_true',beq_eq]at hc;obtain⟨rfl,rfl⟩:=hc;obtain⟨hl,pre,post,rfl,hp⟩:=pM az off apA h3;have hi:i<ws.length:=by omega
 refine aP h (λ_=>⟨.int k (ws.getD i 0),jX rF ?_,aF (.int _ _)⟩) hn;rw[dg h1,append_assoc,getElem?_append_right (by omega),getElem?_append_left (by simp;omega)];rw[show off+i - pre.length=i from by omega];simp[hi];cases h;cases h;cases h;unfold af aO at hd;obtain⟨b,o,us,rfl,_,_,hc⟩:=hd;exact vp h hn rF bV hc;rename_i id i j;unfold af aO at hd;have⟨_,o,ho,hv⟩:=hd;simp only[RM.eval]at h;split at h;rename_i c e dI;rw[ho]at dI;cases dI;obtain⟨hi,hj,b,f,n,cap,dL,rfl⟩:=hv c e rfl;have⟨us,hc⟩:=ajz hs ho hi dL;exact vp (us:=λl=>us i l) h hn rF bV (λl hl=>hc i l hi hl);cases h;cases h;cases h
end
section
variable{ρ aN:Nat->Value}{H H':aT}{G O O':Nat->Prop}{w w':World}{P:Program}
theorem slice_inj{a a':Option Addr}{n n' c c':Nat}(h:Value.slice a n c=.slice a' n' c'):a'=a/\c'=c:=by
 cases h;exact⟨rfl,rfl⟩
theorem oD{t:TypeId}{fs:Array Field}{f:Nat}{fd:Field}{n b off:Nat}(ht:P.underlying t=some (.struct fs))(hf:fs[f]? =some fd)(hs:dY P fd.type=some n)(hn:1<=n)(w:World):
 (Instr.fieldAt t (.pointer (some ⟨b,off,none⟩)) f).run P w=.ok (.pointer (some ⟨b,off+fd.offset,none⟩)) w:=by
 have h0:¬n=0:=by omega
 simp[Instr.fieldAt,run_underlying ht,hf,Instr.sureAddr,fieldPlace,run_sizeOf hs,h0,bd]
theorem zy{t:TypeId}{x:AV}{f:Nat}{vx:Value}{q:bR}(h:(qN P t x f).eval H=some q)(hn:bK q.ab)(hd:af ρ H O w x vx):
 fC P ρ H O w q (Instr.fieldAt t vx f):=by
 unfold qN at h;split at h;rename_i fs ht;split at h;rename_i fd hf;rw[cond_eq_ite]at h;split at h;rename_i bV
 obtain⟨n,hs,hn1⟩:∃n,dY P fd.type=some n/\1<=n:=by
  cases hs:dY P fd.type with
  |none=>simp[hs]at bV|some n=>exact⟨n,rfl,le_of_ble_eq_true (by simpa[hs]using bV)⟩
 split at h;rename_i id off;unfold af aO at hd;obtain⟨b,hb,rfl,hi⟩:=hd;exact aP h (λ_=>⟨_,oD ht hf hs hn1 w,by unfold af aO;exact⟨b,hb,rfl,hi⟩⟩) hn;rename_i c m j;unfold af aO at hd;obtain⟨b,o,us,rfl,h1⟩:=hd;exact aP h (λ_=>⟨_,oD ht hf hs hn1 w,by unfold af aO;exact⟨b,o,us,by rw[add_assoc],h1⟩⟩) hn;rename_i id i j;simp only[RM.eval]at h;split at h;rename_i c e ho;rw[cond_eq_ite]at h;split at h;rename_i bq;have bq:j+fd.offset<c.size:=by simpa[Nat.blt,Nat.lt_iff_add_one_le]using bq
 unfold af aO at hd;have⟨h1,o,dI,hv⟩:=hd;rw[ho]at dI;cases dI;obtain⟨hi,hj,b,f',n',cap,dL,rfl⟩:=hv c e rfl;refine aP h (λ_=>⟨_,oD ht hf hs hn1 w, ?_⟩) hn;unfold af aO;refine⟨rfl,_,ho,λc' e' hc=> ?_⟩;cases hc;exact⟨hi,bq,b,f',n',cap,dL,by rw[add_assoc]⟩;cases h;cases h;cases h;cases h;cases h;cases h
theorem iB{t e:TypeId}{n b o len cap:Nat}{k:IntKind}{i:Int}(ht:P.underlying t=some (.slice e))(hs:dY P e=some n)(h0:0<=i)(h1:i<len)(w:World):
 (Instr.indexAt t (.slice (some ⟨b,o,none⟩) len cap) (.int k i)).run P w=.ok (.pointer (some ⟨b,o+i.toNat*n,none⟩)) w:=by
 simp[Instr.indexAt,run_underlying ht,asIntOf,run_sizeOf hs,h0,h1,bd]
theorem iC{t e:TypeId}{n b o len:Nat}{k:IntKind}{i:Int}(ht:P.underlying t=some (.array len e))(hs:dY P e=some n)(h0:0<=i)(h1:i<len)(w:World):
 (Instr.indexAt t (.pointer (some ⟨b,o,none⟩)) (.int k i)).run P w=.ok (.pointer (some ⟨b,o+i.toNat*n,none⟩)) w:=by
 simp[Instr.indexAt,run_underlying ht,asIntOf,Instr.sureAddr,run_sizeOf hs,h0,h1,bd]
theorem zz{t:TypeId}{x i:AV}{vx vi:Value}{q:bR}(h:(qO P t x i).eval H=some q)(hn:bK q.ab)(hs:Sat ρ H G w)(hd:af ρ H (aW ρ H G) w x vx)(hi:af ρ H (aW ρ H G) w i vi):
 fC P ρ H (aW ρ H G) w q (Instr.indexAt t vx vi):=by
 unfold qO at h;split at h;rename_i k lit n e oE ht;obtain rfl:=cq oE hi;split at h;rename_i sz c bV;rw[cond_eq_ite]at h;split at h;rename_i he;have he:sz=c.size:=by simpa using he
 have hx:=ay (by simp) hd;cases hx with
 |ro _ a cap us b o h1 h2 h3 h4 h5=>
  refine aP h (λcQ=> ?_) hn;have⟨h6,h7,_⟩:=cQ;have bq:n.toNat<c.n:=by omega
  obtain⟨rfl,h8,h9⟩:=h3 (by omega);refine⟨_,iB ht bV h6 h7 w, ?_⟩;unfold af aO;refine⟨b,o+n.toNat*c.size,λj=>us n.toNat j,by rw[he];rfl,h8,h9,λj hj=>⟨h4 _ _ bq hj,h5 _ _ bq hj⟩⟩
 cases h;rename_i sz id bV;simp only[RM.eval]at h;split at h;rename_i c e' ho;rw[cond_eq_ite]at h;split at h;rename_i he;simp only[and_eq_true,beq_eq]at he;obtain⟨rfl,hge⟩:=he;have hge:=le_of_ble_eq_true hge;unfold af aO at hd;have⟨_,o,dI,hv⟩:=hd;rw[ho]at dI;cases dI;obtain rfl:=hv c e' rfl;have⟨a,cap,hr,h2,h3,h4⟩:=hs.obj id _ ho;refine aP h (λcQ=> ?_) hn;have⟨h6,h7,_⟩:=cQ;rcases h4 with h4|⟨b,o,cells,fr,us,rfl,h5,_⟩;omega;refine⟨.pointer (some ⟨b,o+n.toNat*c.size,none⟩),by rw[hr];exact iB ht bV h6 h7 w, ?_⟩;unfold af aO;refine⟨rfl,_,ho,λc' e'' hc=> ?_⟩;cases hc;exact⟨by omega,by omega,b,o,c.n,cap,hr,rfl⟩;cases h;cases h;rename_i sz id lo m bV;simp only[RM.eval]at h;split at h;rename_i c e' ho;rw[cond_eq_ite]at h;split at h;rename_i he;simp only[and_eq_true,beq_eq]at he;obtain⟨rfl,hge⟩:=he;have hge:=le_of_ble_eq_true hge;unfold af aO at hd;have⟨_,o,dI,hv⟩:=hd;rw[ho]at dI;cases dI;obtain⟨hlm,a0,azp,a',hr0,aBp,rfl,ha'⟩:=hv c e' rfl;have⟨a,cap,hr,h2,h3,h4⟩:=hs.obj id _ ho;obtain⟨rfl,rfl⟩:=slice_inj (hr0.symm.trans hr);refine aP h (λcQ=> ?_) hn;have⟨h6,h7,_⟩:=cQ;rcases h4 with h4|⟨b,o,cells,fr,us,rfl,h5,_⟩;omega;refine⟨.pointer (some ⟨b,o+lo*c.size+n.toNat*c.size,none⟩), ?_, ?_⟩;rw[ha' (by omega)];simp only[map_some,bd];exact iB ht bV h6 h7 w;unfold af aO;refine⟨rfl,_,ho,λc' e'' hc=> ?_⟩;cases hc;exact⟨by omega,by omega,b,o,c.n,cap,hr,by rw[add_mul,add_assoc];rfl⟩;cases h;cases h;cases h;rename_i k lit n len e oE ht;obtain rfl:=cq oE hi;split at h;rename_i sz id off bV;unfold af aO at hd;obtain⟨b,hb,rfl,dt⟩:=hd;cases lit;simp only[cond_false]at h;rw[cond_eq_ite]at h;split at h;rename_i h1;have h1:sz=1:=by simpa using h1
 subst h1;refine aP h (λcQ=> ?_) hn;have⟨h6,h7,_⟩:=cQ;exact⟨_,iC ht bV h6 h7 w,by unfold af aO;exact⟨by omega,b,hb,by simp,dt⟩⟩;cases h;simp only[cond_true]at h;rw[cond_eq_ite]at h;split at h;rename_i h1;simp only[and_eq_true,decide_eq_true_eq]at h1;exact aP h (λ_=>⟨_,iC ht bV h1.1 h1.2 w,by unfold af aO;exact⟨b,hb,rfl,dt⟩⟩) hn;cases h;rename_i sz id i0 bV;simp only[RM.eval]at h;split at h;rename_i c e' ho;rw[cond_eq_ite]at h;split at h;rename_i he;simp only[and_eq_true,beq_eq]at he;obtain⟨rfl,hge⟩:=he;unfold af aO at hd;have⟨_,o,dI,hv⟩:=hd;rw[ho]at dI;cases dI;obtain⟨hi0,hc0,b,f,n',cap,hr,rfl⟩:=hv c e' rfl;refine aP h (λcQ=> ?_) hn;have⟨h6,h7,h8,_⟩:=cQ;refine⟨_,iC ht bV h6 h7 w, ?_⟩;unfold af aO;refine⟨rfl,_,ho,λc' e'' hc=> ?_⟩;cases hc;exact⟨by omega,by omega,b,f,n',cap,hr,by rw[add_mul];congr 3;omega⟩;cases h;cases h;cases h;cases h
theorem ajA{t:TypeId}{x i:AV}{vx vi:Value}{q:bR}(h:(afL P t x i).eval H=some q)(hn:bK q.ab)(hd:af ρ H O w x vx)(hi:af ρ H O w i vi):
 fC P ρ H O w q (Instr.index t vx vi):=by
 unfold afL at h;split at h;rename_i k lit n len e kk m ws oE ht;obtain rfl:=cq oE hi;rw[cond_eq_ite]at h;split at h;rename_i hc;simp only[and_eq_true,beq_eq]at hc;obtain⟨⟨rfl,rF⟩,bV⟩:=hc;have atY:iy P e=some false:=by cases ha:iy P e with|none=>simp[ha]at rF|some b=>simp[ha]at rF;rw[rF]
 have ajB:dY P e=some 1:=by cases ha:dY P e with|none=>simp[ha]at bV|some b=>simp[ha]at bV;rw[bV]
 unfold af at hd;obtain⟨hl,rfl⟩:=hd;refine aP h (λcQ=> ?_) hn;have⟨h6,h7,_⟩:=cQ;have bq:n.toNat<ws.length:=by omega
 refine⟨.int kk (ws.getD n.toNat 0), ?_,aF (.int _ _)⟩;simp[Instr.index,run_underlying ht,asIntOf,h6,h7,run_sizeOf ajB,part,hM atY,bq];cases h;rename_i k lit n s oE ht;obtain rfl:=cq oE hi;obtain rfl:=fJ hd;refine aP h (λcQ=> ?_) hn;have⟨h6,h7,_⟩:=cQ;have bq:n.toNat<s.size:=by omega
 refine⟨.int .u8 (aL s n.toNat), ?_,aF (.int _ _)⟩
 have hb:s[n.toNat]? =some s.data[n.toNat]:=by
  simp only[getElem?,decidableGetElem?];rw[dif_pos bq];rfl
 have atZ:n.toNat<s.data.size:=bq;simp[Instr.index,run_underlying ht,asIntOf,h6,hb,aL];rw[Array.getElem?_eq_getElem atZ];rfl;rename_i k lit n len e az oE ht;obtain rfl:=cq oE hi;rw[cond_eq_ite]at h;split at h;rename_i hc;simp only[and_eq_true]at hc;have⟨rF,bV⟩:=hc;have atY:iy P e=some false:=by cases ha:iy P e with|none=>simp[ha]at rF|some b=>simp[ha]at rF;rw[rF]
 have ajB:dY P e=some 1:=by cases ha:dY P e with|none=>simp[ha]at bV|some b=>simp[ha]at bV;rw[bV]
 unfold af at hd;obtain⟨cs,rfl,ahs⟩:=hd;split at h;rename_i v hv;have⟨u,h4,h5,h6⟩:=my az _ hv ahs;refine aP h (λcQ=>⟨u, ?_,h6⟩) hn;have⟨h7,h8,_⟩:=cQ;simp[Instr.index,run_underlying ht,asIntOf,h7,h8,run_sizeOf ajB,part,hM atY,h4];cases h;cases h;cases h
theorem ajC{t:TypeId}{x:AV}{f:Nat}{vx:Value}{q:bR}(h:(afM P t x f).eval H=some q)(hn:bK q.ab)(hd:af ρ H O w x vx):
 fC P ρ H O w q (Instr.field t vx f):=by
 unfold afM at h;split at h;rename_i fs az ht;unfold af at hd;obtain⟨cs,rfl,ahs⟩:=hd;split at h;rename_i fd hf;split at h;rename_i sz bV rF;split at h;rename_i ss hss;simp only[bind_eq_some_iff]at hss;have⟨s1,h4,h5⟩:=hss;have⟨h6,h7⟩:=fT az _ h4 ahs;have⟨h8,h9⟩:=fU s1 sz h5 h7;refine aP h (λ_=>⟨.agg ((cs.drop fd.offset).take sz).toArray, ?_,mz h9⟩) hn;simp[Instr.field,run_underlying ht,hf,asAgg,part,hM rF,run_sizeOf bV,List.extract_eq_take_drop];cases h;rename_i sz bV rF;split at h;rename_i v hv;have⟨u,h4,h5,h6⟩:=my az _ hv ahs;refine aP h (λ_=>⟨u, ?_,h6⟩) hn;simp[Instr.field,run_underlying ht,hf,asAgg,part,hM rF,h4];cases h;cases h;cases h;cases h
theorem acX:∀{xs:List AV} {vs:List Value} {i:Nat} {x:AV},bM ρ H O w xs vs→xs[i]? =some x→∃v,vs[i]? =some v∧af ρ H O w x v
 |[],vs,i,x,_,hx=>by simp at hx
 |a::aQ,vs,i,x,h,hx=>by
  obtain⟨v,rest,rfl,h1,h2⟩:=aE.1 h;cases i with
  |zero=>simp at hx;subst hx;exact⟨v,rfl,h1⟩
  |succ i=>obtain⟨u,h3,h4⟩:=acX (i:=i) h2 (by simpa using hx);exact⟨u,by simpa using h3,h4⟩
theorem acY{x:AV}{i:Nat}{vx:Value}{q:bR}(h:(wZ x i).eval H=some q)(hn:bK q.ab)(hd:af ρ H O w x vx):
 fC P ρ H O w q (Instr.extract vx i):=by
 unfold wZ at h;split at h;rename_i vs;unfold af at hd;obtain⟨us,rfl,hl⟩:=hd;split at h;rename_i v hv;have⟨u,h1,h2⟩:=acX hl hv;exact aP h (λ_=>⟨u,by simp[Instr.extract,h1],h2⟩) hn;cases h;cases h
theorem iD(hs:Sat ρ H G w){id:Nat}{c:aV}{e:TypeId}{v:Value}(ho:H id=some (.vec c e))(hd:af ρ H O w (.vec id) v):∃a cap,v=.slice a c.n cap/\ρ id=v/\c.n<=cap/\cap<=maxLen:=by
 unfold af aO at hd;have⟨_,o,dI,hv⟩:=hd;rw[ho]at dI;cases dI;have⟨a,cap,h1,h2,h3,_⟩:=hs.obj id _ ho;exact⟨a,cap,by rw[hv c e rfl,h1],(hv c e rfl).symm,h2,h3⟩
theorem jI(hs:Sat ρ H G w){id lo n:Nat}{c:aV}{e:TypeId}{v:Value}(ho:H id=some (.vec c e))(hd:af ρ H O w (.part id lo n) v):
 lo+n<=c.n/\∃a cap a',ρ id=.slice a c.n cap/\c.n<=cap/\cap<=maxLen/\v=.slice a' n (cap - lo)/\(cap≠lo->a'=a.map (·.add (lo*c.size)))/\(cap≠0->∃b o,a=some ⟨b,o,none⟩):=by
 unfold af aO at hd;have⟨_,o,dI,hv⟩:=hd;rw[ho]at dI;cases dI;have⟨h0,a,cap,a',h1,h2,h3,h4⟩:=hv c e rfl;have⟨a2,qW,g1,g2,g3,g4⟩:=hs.obj id _ ho;obtain⟨rfl,rfl⟩:=slice_inj (h1.symm.trans g1);refine⟨h0,_,_,a',h1,h2,g3,h3,h4,λhc=> ?_⟩;rcases g4 with g4|⟨b,o,_,_,_,g5,_⟩;exact absurd g4 hc;exact⟨b,o,g5⟩
theorem apB{t ty:TypeId}{ts:List TypeId}{x:AV}{vx:Value}{q:bR}(h:(atP P t x).eval H=some q)(hn:bK q.ab)(hs:Sat ρ H G w)(hd:af ρ H O w x vx):
 fC P ρ H O w q (Builtin.len_ (t::ts).toArray ty #[vx]):=by
 unfold atP at h;split at h;rename_i s ht;obtain rfl:=fJ hd;exact aP h (λ_=>⟨_,by simp[Builtin.len_,run_underlying ht];rfl,aF (.int _ _)⟩) hn;rename_i n e ht;exact aP h (λ_=>⟨_,by cases vx<;>simp[Builtin.len_,run_underlying ht]<;>rfl,aF (.aS _ _)⟩) hn;rename_i e c ht;have hx:=ay (by simp) hd;cases hx;exact aP h (λ_=>⟨_,by simp[Builtin.len_,run_underlying ht];rfl,aF (.int _ _)⟩) hn;rename_i e c k ht;have hx:=ay (by simp) hd;cases hx with
 |rot _ _ a n cap h1 h2=>
  cases h1;exact aP h (λ_=>⟨_,by simp[Builtin.len_,run_underlying ht];rfl,aF (.int _ _)⟩) hn
 rename_i e ht;unfold af at hd;obtain⟨a,rfl⟩:=hd;exact aP h (λ_=>⟨_,by simp[Builtin.len_,run_underlying ht];rfl,aF (.aS _ _)⟩) hn;rename_i e id ht;simp only[RM.eval]at h;split at h;rename_i c e' ho;obtain⟨a,cap,rfl,_⟩:=iD hs ho hd;exact aP h (λ_=>⟨_,by simp[Builtin.len_,run_underlying ht];rfl,aF (.int _ _)⟩) hn;cases h;rename_i e id lo n ht;simp only[RM.eval]at h;split at h;rename_i c e' ho;obtain⟨_,a,cap,a',_,_,_,rfl,_⟩:=jI hs ho hd;exact aP h (λ_=>⟨_,by simp[Builtin.len_,run_underlying ht];rfl,aF (.int _ _)⟩) hn;cases h;rename_i kt et id ht;simp only[RM.eval]at h;split at h;rename_i ck m ho;unfold af aO at hd;obtain⟨b,hb,rfl,_⟩:=hd;have⟨b',es,clock,h1,h2,h3⟩:=hs.obj id _ ho;rw[hb]at h1;cases h1;have e1:(getObj b).run P w=.ok (.map es clock) w:=by simp[getObj,Sem.run,h2]
 have e2:es.size=m.length:=by have:=congrArg List.length h3.eq;simpa using this
 exact aP h (λ_=>⟨.int .i64 m.length,by simp[Builtin.len_,run_underlying ht,e1,e2];rfl,aF (.int _ _)⟩) hn;cases h;cases h
theorem apC{t ty:TypeId}{ts:List TypeId}{x:AV}{vx:Value}{q:bR}(h:(atQ P t x).eval H=some q)(hn:bK q.ab)(hs:Sat ρ H G w)(hd:af ρ H O w x vx):
 fC P ρ H O w q (Builtin.cap_ (t::ts).toArray ty #[vx]):=by
 unfold atQ at h;split at h;rename_i e c k ht;have hx:=ay (by simp) hd;cases hx with
 |rot _ _ a n cap h1 h2=>exact aP h (λ_=>⟨_,by simp[Builtin.cap_,run_underlying ht];rfl,aF (.qq _ _ (by omega))⟩) hn
 rename_i e id ht;simp only[RM.eval]at h;split at h;rename_i c e' ho;obtain⟨a,cap,rfl,_,hle,_⟩:=iD hs ho hd;exact aP h (λ_=>⟨_,by simp[Builtin.cap_,run_underlying ht];rfl,aF (.nL _ _ (by omega))⟩) hn;cases h;rename_i e id lo n ht;simp only[RM.eval]at h;split at h;rename_i c e' ho;obtain⟨_,a,cap,a',_,hle,_,rfl,_⟩:=jI hs ho hd;exact aP h (λ_=>⟨_,by simp[Builtin.cap_,run_underlying ht];rfl,aF (.nL _ _ (by omega))⟩) hn;cases h;cases h
theorem qw(op:BinOp)(t:TypeId)(x y:Operand)(a b:Option Addr)(n c m d:Nat):(eqGuard op t x y (.slice a n c) (.slice b m d)).run P w=.ok () w:=by
 cases op<;>simp[eqGuard]
theorem apD{op:BinOp}{t:TypeId}{x:AV}{ox oy:Operand}{vx vy:Value}{q:bR}(h:(atU P op t x).eval H=some q)(hn:bK q.ab)(hs:Sat ρ H G w)
 (hx:af ρ H O w x vx) (hy:vy=.slice none 0 0):fC P ρ H O w q (do eqGuard op t ox oy vx vy;binOp op t vx vy:Sem Value):=by
 subst hy
 have key:∀e,P.underlying t=some (.slice e)->(op=.eql\/op=.neq)->∀a n c n',vx=.slice a n c->(a=none->n'=0)->(plain [] (.s (.lN n' (rO op)))).eval H=some q->fC P ρ H O w q (do eqGuard op t ox oy vx (.slice none 0 0);binOp op t vx (.slice none 0 0):Sem Value):=by
  rintro e ht zr a n c n' rfl ha h;refine aP h (λ_=> ?_) hn;rcases zr with rfl|rfl;exact⟨.bool a.isNone,by simp[qw,Lib.run_eql_slice_nil w t e a n c 0 0 ht],aF (.lN _ _ _ (λe=>ha (by simpa[rO]using e)))⟩;exact⟨.bool (!a.isNone),by simp[qw,run_neq_slice_nil_any w t e a n c 0 0 ht],aF (.lN _ _ _ (λe=>ha (by simpa[rO]using e)))⟩
 have apE:∀x,af ρ H O w x vx->(op=.eql\/op=.neq)->(match P.underlying t with
  |some (.slice _)=>
   match x with
   |.s (.ro c)=>plain [] (.s (.lN c.n (rO op)))|.emp=>plain [] (.s (.lN 0 (rO op)))|.vec id=>.look id λo=>match o with
    |some (.vec c _)=>plain [] (.s (.lN c.n (rO op)))|_=>.fail "== nil: no row"
   |_=>.fail "== nil"
  |_=>.fail "== nil: the type" :RM bR).eval H=some q->fC P ρ H O w q (do eqGuard op t ox oy vx (.slice none 0 0);binOp op t vx (.slice none 0 0):Sem Value):=by
  intro x hx zr h;split at h;rename_i e ht;split at h;have h1:=ay (by simp) hx;cases h1 with
  |ro c a cap us b o q1 q2 q3 q4 q5=>exact key e ht zr _ _ _ _ rfl (λha=>Decidable.byContradiction λhn0=>by have:=(q3 (Nat.pos_of_ne_zero hn0)).1;rw[ha]at this;cases this) h
  unfold af at hx;obtain⟨a,rfl⟩:=hx;exact key e ht zr _ _ _ _ rfl (λ_=>rfl) h;simp only[RM.eval]at h;split at h;rename_i ho;obtain⟨a,cap,rfl,dL,hle,_⟩:=iD hs ho hx;refine key e ht zr _ _ _ _ rfl (λha=> ?_) h;have⟨a2,qW,alq,_,_,h3⟩:=hs.obj _ _ ho;rw[dL]at alq;cases alq;rcases h3 with h3|⟨_,_,_,_,_,h3,_⟩;omega;rw[ha]at h3;cases h3;cases h;cases h;cases h
 unfold atU at h;split at h;exact apE x hx (.inl rfl) h;exact apE x hx (.inr rfl) h;cases h
theorem afW{op:BinOp}{t:TypeId}{x y:AV}{ox oy:Operand}{vx vy:Value}{q:bR}(h:(abm op x y).eval H=some q)(hn:bK q.ab)
 (hx:af ρ H O w x vx) (hy:af ρ H O w y vy):fC P ρ H O w q (do eqGuard op t ox oy vx vy;binOp op t vx vy:Sem Value):=by
 unfold abm at h;split at h;rename_i l a b h1;obtain rfl:=cq h1 hx;have hy:=ay (by simp) hy;cases hy with
 |nL _ n hge=>
  refine aP h (λcQ=> ?_) hn;have⟨h3,_⟩:=cQ;refine⟨.bool false, ?_,aF (.aK _)⟩;have:¬a>n:=by omega
  simp[gZ,binOp,Op.intCmp,this]
 rename_i l a b h1;obtain rfl:=cq h1 hx;have hy:=ay (by simp) hy;cases hy with
 |qq _ n bq=>
  refine aP h (λcQ=> ?_) hn;have⟨h3,_⟩:=cQ;refine⟨.bool true, ?_,aF (.aK _)⟩;have:a>n:=by omega
  simp[gZ,binOp,Op.intCmp,this]
 cases h
theorem mA{x:AV}{v:Value}(h:af ρ H O w x v):af ρ H O w (qu x) v:=by
 unfold qu;split;have h1:=ay (by simp) h;cases h1;unfold af;exact⟨none,rfl⟩;exact h
theorem alr{x:AV}{v:Value}(h:af ρ H O w x v)(hx:afT x=true):v=.slice none 0 0:=by
 unfold afT at hx;split at hx;have h1:=ay (by simp) h;cases h1;rfl;cases hx
theorem aht{ts:Array TypeId}{ty:TypeId}{mx:Bool}{x y:AV}{vx vy:Value}{q:bR}(h:(apv mx x y).eval H=some q)(hn:bK q.ab)(hx:af ρ H O w x vx)(hy:af ρ H O w y vy):
 fC P ρ H O w q (if mx then Builtin.max_ ts ty #[vx,vy]else Builtin.min_ ts ty #[vx,vy]):=by
 unfold apv at h;split at h;rename_i k lx a k' ly b h1 h2;obtain rfl:=cq h1 hx;obtain rfl:=cq h2 hy;rw[cond_eq_ite]at h;split at h;rename_i hk;obtain rfl:=bu hk;cases mx;exact aP h (λ_=>⟨_,by simp[run_min_int2,qR],gY _ _ _⟩) hn;exact aP h (λ_=>⟨_,by simp[run_max_int2,imax],gY _ _ _⟩) hn;cases h;cases h
theorem abu{x:AV}{vx:Value}{q:bR}(h:(tN x).eval H=some q)(hn:bK q.ab)(hd:af ρ H O w x vx)(e:Operand->Value)(o:Oper)(y:Operand)(ho:o.op=.nilCheck y)(he:e y=vx):
 q.up=[]/\q.new=[]/\(execOp e o).run P w=.ok (.value vx) w/\∀base,af ρ H O w (q.r base) vx:=by
 have fin:∀r,(plain [] r).eval H=some q->r=x->(execOp e o).run P w=.ok (.value vx) w->q.up=[]/\q.new=[]/\(execOp e o).run P w=.ok (.value vx) w/\∀base,af ρ H O w (q.r base) vx:=by
  intro r hr hx jh;simp only[plain,RM.eval,Option.some.injEq]at hr;subst hr;subst hx;exact⟨rfl,rfl,jh,λ_=>hd⟩
 unfold tN at h;split at h;unfold af aO at hd;obtain⟨b,_,rfl,_⟩:=hd;exact fin _ h rfl (by simp[execOp,ho,he]);unfold af aO at hd;obtain⟨_,b,_,rfl,_⟩:=hd;exact fin _ h rfl (by simp[execOp,ho,he]);unfold af aO at hd;obtain⟨b,o',us,rfl,_⟩:=hd;exact fin _ h rfl (by simp[execOp,ho,he]);unfold af at hd;obtain⟨vs,rfl,_⟩:=hd;exact fin _ h rfl (by simp[execOp,ho,he]);have h1:=ay (by simp) hd;cases h1;exact fin _ h rfl (by simp[execOp,ho,he]);cases h
theorem abv{fn:Fn}{first dw:List AV}{vf vc:List Value}{q:bR}(h:(tO fn first dw).eval H=some q)(hn:bK q.ab)(hf:bM ρ H O w first vf)(hc:bM ρ H O w dw vc):
 fC P ρ H O w q (Instr.makeFunc fn vf.toArray vc.toArray):=by
 unfold tO at h;split at h;rename_i f;obtain rfl:=ba.1 hf;obtain rfl:=ba.1 hc;exact aP h (λ_=>⟨_,rfl,aF (.rK f)⟩) hn;rename_i f c cs;obtain rfl:=ba.1 hf;exact aP h (λ_=>⟨_,rfl,by unfold af;exact⟨vc,rfl,hc⟩⟩) hn;rename_i f c cs;obtain rfl:=ba.1 hc;exact aP h (λ_=>⟨_,rfl,by unfold af;exact⟨vf,rfl,hf⟩⟩) hn;cases h
end
section
variable{ρ aN:Nat->Value}{H H':aT}{G O O':Nat->Prop}{w w':World}{P:Program}
def oF(ρ:Nat->Value)(H:aT)(O:Nat->Prop)(w:World):Option AV->Option Value->Prop
 |none,none=>True|some a,some v=>af ρ H O w a v|_,_=>False
theorem cR{d n:Int}{o:Option AV}{vo:Option Value}(h:gX d o=some n)(hd:oF ρ H O w o vo):(vo=none/\n=d)\/∃k,vo=some (.int k n):=by
 cases o with
 |none=>
  cases vo with
  |none=>simp only[gX,Option.some.injEq]at h;exact .inl ⟨rfl,h.symm⟩|some v=>exact hd.elim
 |some a=>
  cases vo with
  |none=>exact hd.elim|some v=>
   simp only[gX,map_eq_some_iff]at h;obtain⟨⟨k,l,m⟩,h1,rfl⟩:=h;exact .inr ⟨k,by rw[cq h1 hd]⟩
theorem pO(c:aV){l h:Nat}(_hl:l<=h)(hh:h<=c.n):(dT c l h).n=h - l:=by
 cases c<;>simp only[dT,aV.n,length_drop,length_take]at * <;>omega
theorem kq(c:aV)(l h:Nat):(dT c l h).size=c.size:=by cases c<;>rfl
theorem als{α:Type}(zs:List α)(d:α){l h i:Nat}(hi:i<h - l):((zs.take h).drop l).getD i d=zs.getD (l+i) d:=by
 simp only[List.getD,List.getElem?_drop,getElem?_take];rw[if_pos (by omega)]
theorem kr(c:aV){l h i:Nat}(j:Nat)(hi:i<h - l):(dT c l h).cell i j=c.cell (l+i) j:=by
 cases c<;>simp only[dT,aV.cell,als _ _ hi]
theorem acZ{s:ByteArray}{lo hi:Option Value}{l h:Int}(hl:(lo=none/\l=0)\/∃k,lo=some (.int k l))(hh:(hi=none/\h=(s.size:Int))\/∃k,hi=some (.int k h))
 (h0:0<=l) (h1:l<=h) (h2:h<=s.size) {t:TypeId} (ht:P.underlying t=some .string) (w:World):
 (Instr.sliceAt t (.string s) lo hi none).run P w=.ok (.string (s.extract l.toNat h.toNat)) w:=by
 have hle:l<=((h.toNat:Nat):Int):=by omega
 rcases hl with⟨rfl,rfl⟩|⟨k,rfl⟩<;>rcases hh with⟨rfl,rfl⟩|⟨k',rfl⟩;simp[Instr.sliceAt,Instr.slice,run_underlying ht,Instr.sliceBounds];simp[Instr.sliceAt,Instr.slice,run_underlying ht,Instr.sliceBounds,run_sliceBound _ _ _ _ _ h1 h2];simp[Instr.sliceAt,Instr.slice,run_underlying ht,Instr.sliceBounds,run_sliceBound _ _ _ _ _ h0 h1];simp[Instr.sliceAt,Instr.slice,run_underlying ht,Instr.sliceBounds,run_sliceBound _ _ _ _ _ (show 0<=h by omega) h2,run_sliceBound _ _ _ _ _ h0 hle]
theorem mB{a:Option Addr}{n cap:Nat}{lo hi:Option Value}{l h:Int}(hl:(lo=none/\l=0)\/∃k,lo=some (.int k l))(hh:(hi=none/\h=(n:Int))\/∃k,hi=some (.int k h))
 (h0:0<=l) (h1:l<=h) (h2:h<=cap) {t e:TypeId} (ht:P.underlying t=some (.slice e)) {sz:Nat} (hs:dY P e=some sz) (w:World):
 (Instr.sliceAt t (.slice a n cap) lo hi none).run P w=.ok (.slice (if cap=l.toNat then a else a.map (·.add (l.toNat*sz))) (h.toNat - l.toNat) (cap - l.toNat)) w:=by
 have hle:l<=((h.toNat:Nat):Int):=by omega
 rcases hl with⟨rfl,rfl⟩|⟨k,rfl⟩<;>rcases hh with⟨rfl,rfl⟩|⟨k',rfl⟩;simp[Instr.sliceAt,Instr.slice,run_underlying ht,Instr.sliceBounds,run_sizeOf hs];simp[Instr.sliceAt,Instr.slice,run_underlying ht,Instr.sliceBounds,run_sliceBound _ _ _ _ _ h1 h2,run_sizeOf hs];simp[Instr.sliceAt,Instr.slice,run_underlying ht,Instr.sliceBounds,run_sliceBound _ _ _ _ _ h0 h1,run_sizeOf hs];simp[Instr.sliceAt,Instr.slice,run_underlying ht,Instr.sliceBounds,run_sliceBound _ _ _ _ _ (show 0<=h by omega) h2,run_sliceBound _ _ _ _ _ h0 hle,run_sizeOf hs]
theorem vq{b o n:Nat}{lo hi:Option Value}{l h:Int}(hl:(lo=none/\l=0)\/∃k,lo=some (.int k l))(hh:(hi=none/\h=(n:Int))\/∃k,hi=some (.int k h))
 (h0:0<=l) (h1:l<=h) (h2:h<=n) {t e:TypeId} (ht:P.underlying t=some (.array n e)) (hs:dY P e=some 1) (w:World):
 ∃a,(Instr.sliceAt t (.pointer (some ⟨b,o,none⟩)) lo hi none).run P w=.ok (.slice a (h.toNat - l.toNat) (n - l.toNat)) w/\(h.toNat - l.toNat≠0->a=some ⟨b,o+l.toNat,none⟩):=by
 have hle:l<=((h.toNat:Nat):Int):=by omega
 refine⟨some (if n=l.toNat then⟨b,o,none⟩else(⟨b,o,none⟩:Addr).add (l.toNat*1)), ?_,λcQ=>by rw[if_neg (by omega),bd,Nat.mul_one]⟩;rcases hl with⟨rfl,rfl⟩|⟨k,rfl⟩<;>rcases hh with⟨rfl,rfl⟩|⟨k',rfl⟩;simp[Instr.sliceAt,Instr.sureAddr,run_underlying ht,Instr.sliceBounds,run_sizeOf hs];simp[Instr.sliceAt,Instr.sureAddr,run_underlying ht,Instr.sliceBounds,run_sliceBound _ _ _ _ _ h1 h2,run_sizeOf hs];simp[Instr.sliceAt,Instr.sureAddr,run_underlying ht,Instr.sliceBounds,run_sliceBound _ _ _ _ _ h0 h1,run_sizeOf hs];simp[Instr.sliceAt,Instr.sureAddr,run_underlying ht,Instr.sliceBounds,run_sliceBound _ _ _ _ _ (show 0<=h by omega) h2,run_sliceBound _ _ _ _ _ h0 hle,run_sizeOf hs]
theorem afX{c:aV}{v:Value}(hx:aX O w (.ro c) v){l h:Nat}(hl:l<=h)(hh:h<=c.n):∃a cap,v=.slice a c.n cap/\c.n<=cap/\
 ∀sz,sz=c.size->aX O w (.ro (dT c l h)) (.slice (if cap=l then a else a.map (·.add (l*sz))) (h - l) (cap - l)):=by
 cases hx with
 |ro _ a cap us b o h1 h2 h3 h4 h5=>
  refine⟨a,cap,rfl,h1, ?_⟩;rintro sz rfl;have hn:=pO c hl hh;have bV:=kq c l h;have key:=aX.ro (O:=O) (w:=w) (dT c l h) (if cap=l then a else a.map (·.add (l*c.size))) (cap - l) (λi j=>us (l+i) j) b (o+l*c.size) (by omega) (by omega)
   (λh0=>by
     obtain⟨rfl,h6,h7⟩:=h3 (by omega);refine⟨?_,h6,h7⟩;rw[if_neg (by omega)];simp only[map_some,bd])
   (λi j hi hj=>by
     rw[hn]at hi;rw[bV]at hj ⊢;have:=h4 (l+i) j (by omega) hj;rw[show o+l*c.size+i*c.size+j=o+(l+i)*c.size+j from by rw[add_mul];omega];exact this)
   (λi j hi hj=>by
     rw[hn]at hi;rw[bV]at hj;rw[kr c j hi];exact h5 _ _ (by omega) hj)
  rw[hn]at key;exact key
theorem alu(a:Option Addr)(hf:∃b o,a=some ⟨b,o,none⟩)(x y:Nat):(a.map (·.add x)).map (·.add y)=a.map (·.add (x+y)):=by
 obtain⟨b,o,rfl⟩:=hf;simp only[map_some,bd,add_assoc]
theorem ac0{t e e':TypeId}{c:aV}{id lo0 n:Nat}{lo hi mx:Option AV}{vlo vhi zA:Option Value}{q:bR}(h:(ahq P e c id lo0 n lo hi mx).eval H=some q)(hn:bK q.ab)
 (ht:P.underlying t=some (.slice e)) (ho:H id=some (.vec c e')) {a a':Option Addr} {cap:Nat} (hr:ρ id=.slice a c.n cap) (zB:c.n<=cap) (hln:lo0+n<=c.n) (ha':cap≠lo0->a'=a.map (·.add (lo0*c.size)))
 (hf:cap≠0->∃b o,a=some ⟨b,o,none⟩) (hlo:oF ρ H O w lo vlo) (hhi:oF ρ H O w hi vhi) (hmx:oF ρ H O w mx zA):
 fC P ρ H O w q (Instr.sliceAt t (.slice a' n (cap - lo0)) vlo vhi zA):=by
 unfold ahq at h;split at h;rename_i sz bV;rw[cond_eq_ite]at h;split at h;rename_i hz;have hz:sz=c.size:=by simpa using hz
 subst hz;split at h;obtain rfl:zA=none:=by cases zA<;>first|rfl|exact hmx.elim
 split at h;rename_i l hh h1 h2;refine aP h (λcQ=> ?_) hn;have⟨h3,h4,h5,_⟩:=cQ;refine⟨_,mB (cR h1 hlo) (cR h2 hhi) h3 h4 (by omega) ht bV w, ?_⟩;unfold af aO;refine⟨rfl,_,ho,λc' e'' hc=> ?_⟩;cases hc;refine⟨by omega,a,cap,_,hr,zB,by rw[Nat.sub_sub],λcQ=> ?_⟩;have hc0:cap≠lo0:=by omega
 rw[if_neg (by omega),ha' hc0,alu _ (hf (by omega)),add_mul];cases h;rename_i m;split at h;rename_i l kh lh hh km lm m' h1 h2 h3;refine aP h (λcQ=> ?_) hn;have⟨g1,g2,g3,g4,_⟩:=cQ;simp only[bind_eq_some_iff]at h2;obtain⟨ha,rfl,h2⟩:=h2;cases zA with
 |none=>exact hmx.elim|some vm=>
  cases vhi with
  |none=>exact hhi.elim|some vh=>
   obtain rfl:=cq h3 hmx;obtain rfl:=cq h2 hhi;have e1:m'<=(((cap - lo0:Nat):Int)):=by omega
   have e2:hh<=((m'.toNat:Nat):Int):=by omega
   have e3:l<=((hh.toNat:Nat):Int):=by omega
   rcases cR h1 hlo with⟨rfl,rfl⟩|⟨k1,rfl⟩;exact⟨_,by simp[Instr.sliceAt,Instr.slice,run_underlying ht,Instr.sliceBounds,run_sliceBound _ _ _ _ _ (show 0<=m' by omega) e1,run_sliceBound _ _ _ _ _ (show 0<=hh by omega) e2,run_sizeOf bV];rfl,by unfold af;trivial⟩;exact⟨_,by simp[Instr.sliceAt,Instr.slice,run_underlying ht,Instr.sliceBounds,run_sliceBound _ _ _ _ _ (show 0<=m' by omega) e1,run_sliceBound _ _ _ _ _ (show 0<=hh by omega) e2,run_sliceBound _ _ _ _ _ g1 e3,run_sizeOf bV];rfl,by unfold af;trivial⟩
 cases h;cases h;cases h
theorem ajD(hs:Sat ρ H G w){t:TypeId}{x:AV}{lo hi mx:Option AV}{vx:Value}{vlo vhi zA:Option Value}{q:bR}(h:(afR P t x lo hi mx).eval H=some q)(hn:bK q.ab)
 (hd:af ρ H O w x vx) (hlo:oF ρ H O w lo vlo) (hhi:oF ρ H O w hi vhi) (hmx:oF ρ H O w mx zA):
 fC P ρ H O w q (Instr.sliceAt t vx vlo vhi zA):=by
 unfold afR at h;split at h;rename_i s ht;obtain rfl:=fJ hd;split at h;rename_i l hh h1 h2;obtain rfl:zA=none:=by cases zA<;>first|rfl|exact hmx.elim
 refine aP h (λcQ=> ?_) hn;have⟨h3,h4,h5,_⟩:=cQ;exact⟨_,acZ (cR h1 hlo) (cR h2 hhi) h3 h4 h5 ht w,aF (.str _)⟩;cases h;rename_i e ht;unfold af at hd;obtain⟨a,rfl⟩:=hd;split at h;rename_i sz l hh bV h1 h2;obtain rfl:zA=none:=by cases zA<;>first|rfl|exact hmx.elim
 refine aP h (λcQ=> ?_) hn;obtain⟨rfl,rfl,_⟩:=cQ;exact⟨_,mB (cR h1 hlo) (cR h2 hhi) (by omega) (by omega) (by omega) ht bV w,by unfold af;exact⟨a,by simp⟩⟩;cases h;rename_i e c ht;have hx:=ay (by simp) hd;split at h;rename_i sz bV;rw[cond_eq_ite]at h;split at h;rename_i hz;have hz:sz=c.size:=by simpa using hz
 split at h;obtain rfl:zA=none:=by cases zA<;>first|rfl|exact hmx.elim
 split at h;rename_i l hh h1 h2;refine aP h (λcQ=> ?_) hn;have⟨h3,h4,h5,_⟩:=cQ;obtain⟨a,cap,rfl,hle,alv⟩:=afX hx (l:=l.toNat) (h:=hh.toNat) (by omega) (by omega);exact⟨_,mB (cR h1 hlo) (cR h2 hhi) h3 h4 (by omega) ht bV w,aF (alv sz hz)⟩;cases h;rename_i m;split at h;rename_i l kh lh hh km lm m' h1 h2 h3;refine aP h (λcQ=> ?_) hn;obtain⟨rfl,rfl,rfl,_⟩:=cQ;simp only[bind_eq_some_iff]at h2;obtain⟨ha,rfl,h2⟩:=h2;cases zA with
 |none=>exact hmx.elim|some vm=>
  cases vhi with
  |none=>exact hhi.elim|some vh=>
   obtain rfl:=cq h3 hmx;obtain rfl:=cq h2 hhi;cases hx with
   |ro _ a cap us b o g1 g2 g3 g4 g5=>
    refine⟨.slice a 0 0, ?_,by unfold af;exact⟨a,rfl⟩⟩
    have hb:∀(k:IntKind) (y:Nat) (code:BoundsCode) (w:World),(Instr.sliceBound (.int k 0) y code).run P w=.ok 0 w:=λk y code w=>by
     rw[run_sliceBound _ _ _ _ _ (by omega) (by omega)];rfl
    rcases cR h1 hlo with⟨rfl,_⟩|⟨k1,rfl⟩;simp[Instr.sliceAt,Instr.slice,run_underlying ht,Instr.sliceBounds,hb,run_sizeOf bV];simp[Instr.sliceAt,Instr.slice,run_underlying ht,Instr.sliceBounds,hb,run_sizeOf bV]
 cases h;cases h;cases h;rename_i e c k ht;have hx:=ay (by simp) hd
 obtain⟨a0,n0,azp,rfl,hx,bq⟩:∃a n cap,vx=.slice a n cap/\aX O w (.ro c) vx/\cap<k:=by
  cases hx with
  |rot _ _ a n cap h1 h2=>exact⟨a,n,cap,rfl,h1,h2⟩
 split at h;rename_i sz bV;rw[cond_eq_ite]at h;split at h;rename_i hz;have hz:sz=c.size:=by simpa using hz
 obtain rfl:zA=none:=by cases zA<;>first|rfl|exact hmx.elim
 split at h;rename_i hh h2;obtain rfl:vlo=none:=by cases vlo<;>first|rfl|exact hlo.elim
 refine aP h (λcQ=> ?_) hn;have⟨h4,h5,_⟩:=cQ;have⟨a,cap,e0,hle,alv⟩:=afX hx (l:=0) (h:=hh.toNat) (by omega) (by omega);cases e0;have hd2:=alv sz hz;exact⟨_,mB (l:=0) (.inl ⟨rfl,rfl⟩) (cR h2 hhi) (by omega) h4 (by omega) ht bV w,aF (.rot _ _ _ _ _ hd2 (by omega))⟩;rename_i l hh h2;split at h;rename_i kl ll l' h1;refine aP h (λcQ=> ?_) hn;have⟨h3,h4,h5,_⟩:=cQ;have⟨a,cap,e0,hle,alv⟩:=afX hx (l:=l'.toNat) (h:=hh.toNat) (by omega) (by omega);cases e0;have h1':gX 0 (some l)=some l':=by simp[gX,h1]
 exact⟨_,mB (cR h1' hlo) (cR h2 hhi) h3 h4 (by omega) ht bV w,aF (alv sz hz)⟩;cases h;cases h;cases h;cases h;rename_i e id ht;simp only[RM.eval]at h;split at h;rename_i c e' ho;obtain⟨a,cap,rfl,hr,hle,_⟩:=iD hs ho hd;have dU:=hs.obj id _ ho;rw[hr]at dU;have⟨a2,qW,g1,_,_,g4⟩:=dU;cases g1
 have hf:cap≠0->∃b o,a=some ⟨b,o,none⟩:=λhc=>by
  rcases g4 with g4|⟨b,o,_,_,_,g5,_⟩;exact absurd g4 hc;exact⟨b,o,g5⟩
 have:=ac0 (a':=a) h hn ht ho hr hle (by omega) (λhc=>by
  obtain⟨b,o,rfl⟩:=hf hc;simp[bd]) hf hlo hhi hmx
 simpa using this;cases h;rename_i e id lo0 n ht;simp only[RM.eval]at h;split at h;rename_i c e' ho;obtain⟨h0,a,cap,a',h1,h2,h3,rfl,h4,h5⟩:=jI hs ho hd;exact ac0 h hn ht ho h1 h2 h0 h4 h5 hlo hhi hmx;cases h;rename_i n e id off ht;split at h;rename_i sz l hh bV h1 h2;obtain rfl:zA=none:=by cases zA<;>first|rfl|exact hmx.elim
 rw[cond_eq_ite]at h;split at h;rename_i h1s;obtain rfl:sz=1:=by simpa using h1s
 unfold af aO at hd;obtain⟨b,hb,rfl,hi⟩:=hd;refine aP h (λcQ=> ?_) hn;have⟨h3,h4,h5,_⟩:=cQ;have⟨a,e1,e2⟩:=vq (b:=b) (o:=off) (cR h1 hlo) (cR h2 hhi) h3 h4 h5 ht bV w;refine⟨_,e1, ?_⟩;unfold af aO;exact⟨rfl,b,a,_,hb,rfl,e2,hi⟩;cases h;cases h;rename_i n e id i j ht;split at h;rename_i sz l hh bV h1 h2;obtain rfl:zA=none:=by cases zA<;>first|rfl|exact hmx.elim
 simp only[RM.eval]at h;split at h;rename_i c e' ho;rw[cond_eq_ite]at h;split at h;rename_i h1s;simp only[and_eq_true,beq_eq]at h1s;obtain⟨rfl,hjn⟩:=h1s;have hjn:=le_of_ble_eq_true hjn;unfold af aO at hd;have⟨h0,o,dI,hv⟩:=hd;rw[ho]at dI;cases dI;obtain⟨g1,g2,b,f,n',cap,g3,rfl⟩:=hv c e' rfl;refine aP h (λcQ=> ?_) hn;have⟨h3,h4,h5,_⟩:=cQ;have⟨a,e1,e2⟩:=vq (b:=b) (o:=f+i*c.size+j) (cR h1 hlo) (cR h2 hhi) h3 h4 h5 ht bV w;refine⟨_,e1, ?_⟩;unfold af aO;refine⟨rfl,_,ho,λc2 e2' hc=> ?_⟩;cases hc;exact⟨g1,by omega,b,f,n',cap,a,_,g3,rfl,λhz=>by rw[e2 hz,add_assoc]⟩;cases h;cases h;cases h;cases h
theorem abw(zs:List Int):∀(l:List Value) (s:ByteArray) (w:World),l=zs.map (Value.int .u8)->
 (forIn (m:=Sem) l s λc s=>do
   match c with
   |.int .u8 n=>pure (ForInStep.yield (s.push (UInt8.ofNat n.toNat)))|_=>do
    stuck "bytesToString: byte expected"
    pure (ForInStep.yield s)).run P w=.ok ⟨s.data++(zs.map λn=>UInt8.ofNat n.toNat).toArray⟩ w:=by
 induction zs with
 |nil=>intro l s w h;subst h;simp
 |cons z zs ih=>
  intro l s w h;subst h;simp only[map_cons,List.forIn_cons,Sem.run_bind,Sem.run_pure,Result.andThen_ok];rw[ih _ _ _ rfl];congr 2;simp[ByteArray.push]
def qX(O:Nat->Prop)(w:World)(c:aV)(v:Value):Prop:=
 ∃(a:Option Addr) (cap:Nat) (us:Nat->Nat->Value),v=.slice a c.n cap/\c.n<=cap/\cap<=maxLen/\(0<c.n->∃b o,a=some ⟨b,o,none⟩/\b<w.heap.size/\
  ∀i j,i<c.n->j<c.size->w.cell? ⟨b,o+i*c.size+j,none⟩=some (us i j)/\aX O w (c.cell i j) (us i j))
theorem xh(sh:Shape)(size:Nat):(alj sh size).n=0:=by cases sh<;>rfl
theorem xi{sh:Shape}{size:Nat}{x:AV}{k:aV->Option Nat->RM bR}{v:Value}{q:bR}(h:(rowOf sh size x k).eval H=some q)(hs:Sat ρ H G w)(hd:af ρ H (aW ρ H G) w x v):
 ∃c idy,(k c idy).eval H=some q/\qX (aW ρ H G) w c v:=by
 unfold rowOf at h;split at h;split at h;rename_i c;have hx:=ay (by simp) hd;cases hx with
 |ro _ a cap us b o g1 g2 g3 g4 g5=>
  refine⟨c,none,h,a,cap,us,rfl,g1,g2,λh0=> ?_⟩;obtain⟨rfl,_,h2⟩:=g3 h0;exact⟨b,o,rfl,h2,λi j hi hj=>⟨g4 i j hi hj,g5 i j hi hj⟩⟩
 cases h;unfold af at hd;obtain⟨a,rfl⟩:=hd;exact⟨_,none,h,a,0,λ_ _=>undef,by rw[xh],by rw[xh];exact le_refl _,by simp[maxLen],by rw[xh];omega⟩;rename_i id;simp only[RM.eval]at h;split at h;rename_i c e ho;refine⟨c,some id,h, ?_⟩;unfold af aO at hd;have⟨_,o,dI,hv⟩:=hd;rw[ho]at dI;cases dI;obtain rfl:=hv c e rfl;have⟨a,cap,h1,h2,h3,h4⟩:=hs.obj id _ ho;rcases h4 with rfl|⟨b,o,cells,fr,us,rfl,h5,h6,h7,h8⟩;exact⟨a,0,λ_ _=>undef,h1,h2,h3,λh0=>by omega⟩;refine⟨_,cap,us,h1,h2,h3,λ_=>⟨b,o,rfl,(Array.getElem?_eq_some_iff.1 h5).1,λi j hi hj=> ?_⟩⟩;have⟨h9,vW⟩:=h8 i j hi hj;exact⟨by rw[dg h5];exact h9,vW⟩;cases h;rename_i id lo n;simp only[RM.eval]at h;split at h;rename_i c e ho;refine⟨_,some id,h, ?_⟩;obtain⟨g0,a,cap,a',g1,g2,g3,rfl,g4,g5⟩:=jI hs ho hd;have hn:(dT c lo (lo+n)).n=n:=by rw[pO c (by omega) g0];omega
 have bV:=kq c lo (lo+n);have⟨a2,qW,k1,k2,k3,k4⟩:=hs.obj id _ ho;rw[g1]at k1;cases k1;rcases k4 with rfl|⟨b,o,cells,fr,us,rfl,h5,h6,h7,h8⟩;exact⟨a',0 - lo,λ_ _=>undef,by rw[hn],by rw[hn];omega,by omega,λh0=>by rw[hn]at h0;omega⟩;refine⟨a',cap - lo,λi j=>us (lo+i) j,by rw[hn],by rw[hn];omega,by omega,λh0=> ?_⟩;rw[hn]at h0;refine⟨b,o+lo*c.size,by rw[g4 (by omega)];simp[bd],(Array.getElem?_eq_some_iff.1 h5).1,λi j hi hj=> ?_⟩;rw[hn]at hi;rw[bV]at hj ⊢;have⟨h9,vW⟩:=h8 (lo+i) j (by omega) hj;refine⟨?_,by rw[kr c j (by omega)];exact vW⟩;rw[dg h5,show o+lo*c.size+i*c.size+j=o+(lo+i)*c.size+j from by rw[add_mul];omega];exact h9;cases h;cases h
theorem zC(zs:List Int):zs.map (Value.int .u8)=(List.range zs.length).map λi=>Value.int .u8 (zs.getD i 0):=by
 apply List.ext_getElem;simp;intro i h1 h2;simp at h1;simp[h1]
theorem kW{zs:List Int}{a:Option Addr}{cap:Nat}(h3:0<zs.length->∃b o,a=some ⟨b,o,none⟩/\∀j,j<zs.length->w.cell? ⟨b,o+j,none⟩=some (.int .u8 (zs.getD j 0))):
 (Conv.bytesToString (.slice a zs.length cap)).run P w=.ok (.string (aG zs)) w:=by
 cases a with
 |none=>
  have:zs.length=0:=by
   rcases Nat.eq_zero_or_pos zs.length with h0|h0;exact h0;have⟨b,o,e,_⟩:=h3 h0;cases e
  obtain rfl:=List.eq_nil_of_length_eq_zero this;rfl
 |some a=>
  have awE:(loadCells a zs.length).run P w=.ok (zs.map (Value.int .u8)).toArray w:=by
   rcases Nat.eq_zero_or_pos zs.length with h0|h0;obtain rfl:=List.eq_nil_of_length_eq_zero h0;rfl;have⟨b,o,e,hc⟩:=h3 h0;cases e;rw[zC];refine run_loadCells w _ _ (λi=>Value.int .u8 (zs.getD i 0)) (λj hj=> ?_);rw[bd];exact hc j hj
  simp only[Conv.bytesToString,Sem.run_bind,awE,Result.andThen_ok];rw[<-Array.forIn_toList];have:=abw (P:=P) zs (zs.map (Value.int .u8)) empty w rfl;erw [this];simp[aG]
theorem rT{zs:List Int}{v:Value}(h:qX O w (.ah .u8 zs) v):(Conv.bytesToString v).run P w=.ok (.string (aG zs)) w:=by
 obtain⟨a,cap,us,rfl,h1,h2,h3⟩:=h;simp only[aV.n]at h1 h3 ⊢;refine kW λh0=> ?_;have⟨b,o,e,_,hc⟩:=h3 h0;refine⟨b,o,e,λj hj=> ?_⟩;have⟨g1,g2⟩:=hc j 0 hj (by simp[aV.size]);simp only[aV.size,Nat.mul_one,add_zero,aV.cell]at g1 g2;rw[g1];generalize us j 0=u at g2 ⊢;cases g2;rfl
theorem aai(hs:Sat ρ H G w){id b m off n:Nat}{k:IntKind}{ws:List Int}{e:TypeId}(ho:H id=some (.aq [.ah k m ws] e))(hb:ρ id=.pointer (some ⟨b,0,none⟩))(hnm:off+n<=m):
 ((ws.drop off).take n).length=n/\∀j,j<n->w.cell? ⟨b,off+j,none⟩=some (.int k (((ws.drop off).take n).getD j 0)):=by
 have⟨cells,fr,e1,_,e2⟩:=pN hs ho hb;obtain⟨c1,c2,rfl,e3,e4⟩:=ag.1 e2;obtain⟨e5,rfl⟩:=dd.1 e3;obtain rfl:=aD.1 e4;refine⟨by rw[length_take,length_drop];omega,λj hj=> ?_⟩;rw[dg e1,append_nil,getElem?_map];have bq:off+j<ws.length:=by omega
 rw[getElem?_eq_getElem bq];simp[List.getD,getElem?_take,hj,List.getElem?_drop,bq]
theorem ac1{src dst:TypeId}{x:AV}{vx:Value}{q:bR}(h:(w5 P src dst x).eval H=some q)(hn:bK q.ab)(hs:Sat ρ H G w)(hd:af ρ H (aW ρ H G) w x vx):
 fC P ρ H (aW ρ H G) w q (convert src dst vx):=by
 unfold w5 at h;split at h;rename_i d k qk lP;split at h;rename_i k' lit n oE;obtain rfl:=cq oE hd
 have jh:(convert src dst (.int k' n)).run P w=.ok (.int k (k.wrap n)) w:=by
  simp[convert,run_underlying qk,run_underlying lP,Conv.intToInt]
 rw[cond_eq_ite]at h;split at h;exact aP h (λ_=>⟨_,jh,aF (.aS _ _)⟩) hn;rw[cond_eq_ite]at h;split at h;rename_i hk;simp only[and_eq_true]at hk;obtain rfl:=ow hk.1;refine aP h (λcQ=>⟨_,jh, ?_⟩) hn;rw[cu cQ.1];exact aF (.int _ _);exact aP h (λ_=>⟨_,jh,aF (.int _ _)⟩) hn;cases h;rename_i qk lP;split at h;rename_i s;obtain rfl:=fJ hd;exact aP h (λ_=>⟨_,by simp[convert,run_underlying qk,run_underlying lP],aF (.str _)⟩) hn;cases h;rename_i e qk lP;split at h;rename_i hk
 have he:P.underlying e=some (.int .u8):=by
  unfold kindOf at hk;split at hk<;>first|(cases hk;assumption)|cases hk
 split at h;rename_i id off n;simp only[RM.eval]at h;split at h;rename_i m ws e' ho;unfold af aO at hd;obtain⟨_,b,a,cap,hb,rfl,ha,_⟩:=hd;refine aP h (λcQ=>⟨_, ?_,aF (.str _)⟩) hn;have hnm:off+n<=m:=cQ.1;have⟨hl,hc⟩:=aai hs ho hb hnm;have:=kW (P:=P) (w:=w) (zs:=(ws.drop off).take n) (a:=a) (cap:=cap) (λh0=>⟨b,off,ha (by omega),λj hj=>hc j (by omega)⟩);rw[hl]at this;simp[convert,run_underlying qk,run_underlying lP,run_underlying he,this];cases h;have⟨c,idy,h1,h2⟩:=xi h hs hd;split at h1;rename_i zs;refine aP h1 (λ_=>⟨.string (aG zs), ?_,aF (.str _)⟩) hn;obtain⟨a,cap,us,rfl,_⟩:=id h2;simp[convert,run_underlying qk,run_underlying lP,run_underlying he,rT h2];cases h1;cases h;cases h
end
def cz:List (Nat×ak)->Nat->Option ak
 |[],_=>none|(id,o)::us,j=>match cz us j with
  |some x=>some x|none=>if j=id then some o else none
def c8(H:aT)(up:List (Nat×ak))(base:Nat)(new:List ak):aT:=λj=>
 match cz up j with
 |some o=>some o|none=>if base<=j/\j<base+new.length then new[j - base]? else H j
section
variable{ρ aN:Nat->Value}{H H':aT}{G O O':Nat->Prop}{w w':World}{P:Program}
theorem mC(base:Nat):c8 H [] base []=H:=by
 funext j;simp only[c8,cz,length_nil,add_zero];rw[if_neg (by omega)]
theorem gg(id:Nat)(o:ak)(base:Nat):c8 H [(id,o)] base []=aC H id o:=by
 funext j;simp only[c8,cz,aC,length_nil,add_zero];by_cases h:j=id;simp[h];simp only[h,if_false];rw[if_neg (by omega)]
theorem jJ(base:Nat)(o:ak):c8 H [] base [o]=aC H base o:=by
 funext j;simp only[c8,cz,aC,List.length_singleton];by_cases h:j=base;subst h;simp;rw[if_neg (by omega)];simp[h]
theorem ajE(id base:Nat)(x o:ak)(h:id≠base):c8 H [(id,x)] base [o]=aC (aC H id x) base o:=by
 funext j;simp only[c8,cz,aC,List.length_singleton];by_cases h1:j=id;subst h1;simp[h];by_cases h2:j=base;subst h2;simp[h1];simp only[h1,h2,if_false];rw[if_neg (by omega)]
theorem cC:af ρ H O w (.bt []) undef:=by
 unfold af;exact⟨[],rfl,ba.2 rfl⟩
theorem kX{id:Nat}{o o':ak}(ho:H id=some o)(ha:o.alive=true){b:Nat}(hb:eZ (ρ id)=some b)
 (tW:∀c' e',o'=.vec c' e'->∃c e,o=.vec c e/\c'.n=c.n/\c'.size=c.size) (tX:Obj):
 Step ρ H (aW ρ H G) w ρ (aC H id o') (aW ρ H G) (World.cF w b tX):=by
 have ej:Own ρ H b:=⟨id,o,ho,ha,hb⟩;refine⟨λ_ _ _=>rfl,λj x hx=> ?_,λc hc=>.inl hc,λc hc hO=>jg (λe=>hO (.inl (by subst e;exact ej))),by rw[jH];exact le_refl _⟩;by_cases hj:j=id;subst hj;rw[ho]at hx;cases hx;exact⟨o',by simp[aC],tW⟩;exact⟨x,by simp[aC,hj,hx],λc' e' hc=>⟨c',e',hc,rfl,rfl⟩⟩
theorem Good.xj(hs:Sat ρ H G w){id b:Nat}{az de:List AV}{e:TypeId}(ho:H id=some (.aq az e))(hb:ρ id=.pointer (some ⟨b,0,none⟩))
 {cells e9:List Value} {fr:Nat×Nat} (h1:w.heap[b]? =some (.cells cells.toArray e fr)) (hu:unm fr cells.length) (hl:e9.length=cells.length)
 (hd:aA ρ H (aW ρ H G) w de e9):
 Good ρ H G w (aC H id (.aq de e)) (.bt []) undef (World.cF w b (.cells e9.toArray e fr)):=by
 have mq:eZ (ρ id)=some b:=by rw[hb];rfl
 have st:=kX (G:=G) (w:=w) (o':=.aq de e) ho rfl mq (by simp) (.cells e9.toArray e fr);exact Good.write hs ho rfl rfl mq (by simp) ⟨b,e9,fr,hb,ei h1,by rw[hl];exact hu,hd.step st⟩ cC
theorem lX{t:TypeId}{b off:Nat}{v:Value}{n:Nat}(hs:dY P t=some n)(hl:v.cells.toList.length=n){w':World}
 (h:(storeCells ⟨b,off,none⟩ v.cells.toList 0).run P w=.ok () w'):(Instr.storeAt t (.pointer (some ⟨b,off,none⟩)) v).run P w=.ok () w':=by
 have:v.cells.size=n:=by simpa using hl
 simp[Instr.storeAt,Instr.sureAddr,storeVar,run_sizeOf hs,this,h]
theorem mE{v:Value}(h:v.oneCell'=true):v.cells.toList=[v]:=by
 cases v<;>first|rfl|(simp[Value.oneCell']at h)
theorem mg{α:Type}(l:List α)(i:Nat)(x:α)(h:i<l.length):l.take i++[x]++l.drop (i+1)=l.set i x:=by
 rw[List.set_eq_take_append_cons_drop,if_pos h];simp
theorem fX{c c':aV}{v:Value}(h0:c.n=0)(h1:c'.n=0)(h:aX O w (.ro c) v):aX O w (.ro c') v:=by
 cases h with
 |ro _ a cap us b o h2 h3 h4 h5 h6=>
  have:=aX.ro (O:=O) (w:=w) c' a cap us b o (by omega) h3 (λh=>by omega) (λi j hi hj=>by omega) (λi j hi hj=>by omega);rw[h1]at this;rw[h0];exact this
theorem alw{k:IntKind}{v:SV}{n:Int}{u:Value}(h:alg k v=some n)(hu:aX O w v u):aX O w (.int k n) u:=by
 unfold alg at h;split at h;rw[cond_eq_ite]at h;split at h;rename_i hk;obtain rfl:=bu hk;cases h;exact hu;cases h;rw[cond_eq_ite]at h;split at h;rename_i hk;obtain rfl:=bu hk;cases h;cases hu;exact .int _ _;cases h;cases h
theorem ajF{v:SV}{n:Bool}{u:Value}(h:afG v=some n)(hu:aX O w v u):aX O w (.bool n) u:=by
 unfold afG at h;split at h<;>cases h<;>cases hu<;>exact .bool _
theorem alx{v:SV}{n:ByteArray}{u:Value}(h:alh v=some n)(hu:aX O w v u):aX O w (.str n) u:=by
 unfold alh at h;split at h<;>cases h;exact hu
theorem ajG{k:IntKind}{v:SV}{n:List Int}{u:Value}(h:afH k v=some n)(hu:aX O w v u):aX O w (.ro (.ah k n)) u:=by
 unfold afH at h;split at h;rw[cond_eq_ite]at h;split at h;rename_i hk;obtain rfl:=bu hk;cases h;exact hu;cases h;cases h;exact fX (by rfl) (by rfl) hu;cases h
theorem ajH{v:SV}{n:List ByteArray}{u:Value}(h:afI v=some n)(hu:aX O w v u):aX O w (.ro (.strs n)) u:=by
 unfold afI at h;split at h<;>cases h;exact hu;exact fX (by rfl) (by rfl) hu
theorem afY{v:SV}{n:List Bool}{u:Value}(h:abh v=some n)(hu:aX O w v u):aX O w (.ro (.bG n)) u:=by
 unfold abh at h;split at h<;>cases h;exact hu;exact fX (by rfl) (by rfl) hu
theorem ajI{cs:List CK}{v:SV}{n:List (CL cs)}{u:Value}(h:afJ cs v=some n)(hu:aX O w v u):aX O w (.ro (.au cs n)) u:=by
 unfold afJ at h;split at h;simp only[map_eq_some_iff]at h;have⟨⟨e⟩,_,h2⟩:=h;subst e;rw[aad]at h2;subst h2;exact hu;cases h;exact fX (by rfl) (by rfl) hu;cases h
theorem ajJ{c:CK}{x y:c.V}{j:Nat}{v:SV}(h:c.set x j v=some y):c.wide=1/\∀(O:Nat->Prop) (w:World) (u:Value),aX O w v u->∀l,aX O w (c.cell y l) u:=by
 cases c with
 |int k=>exact⟨rfl,λ_ _ _ hu _=>alw h hu⟩|bool=>exact⟨rfl,λ_ _ _ hu _=>ajF h hu⟩|str=>exact⟨rfl,λ_ _ _ hu _=>alx h hu⟩|ah k=>exact⟨rfl,λ_ _ _ hu _=>ajG h hu⟩|strs=>exact⟨rfl,λ_ _ _ hu _=>ajH h hu⟩|bG=>exact⟨rfl,λ_ _ _ hu _=>afY h hu⟩|rows cs=>exact⟨rfl,λ_ _ _ hu _=>ajI h hu⟩|arr k n=>cases h
theorem tY:∀{cs:List CK} {x y:CL cs} {j:Nat} {v:SV},CL.set cs x j v=some y->(∀(O:Nat->Prop) (w:World) (u:Value),aX O w v u->aX O w (CL.cell cs y j) u)/\∀j',j'≠j->CL.cell cs y j'=CL.cell cs x j'
 |[],x,y,j,v,h=>by cases h
 |c::cs,x,y,j,v,h=>by
  simp only[CL.set]at h;rw[cond_eq_ite]at h;split at h;rename_i bq;obtain⟨z,h1,rfl⟩:=map_eq_some_iff.1 h;have⟨h2,h3⟩:=ajJ h1;refine⟨λO w u hu=>by simp only[CL.cell,bq,cond_true];exact h3 O w u hu _,λj' ku=> ?_⟩;have h4:j<1:=by rw[h2]at bq;exact le_of_ble_eq_true bq
  simp only[CL.cell,h2,rS (show 1<=j' from by omega),cond_false];rename_i bq;obtain⟨z,h1,rfl⟩:=map_eq_some_iff.1 h;have bq:j.blt c.wide=false:=Bool.eq_false_iff.2 bq
  have hge:c.wide<=j:=by
   rcases lt_or_ge j c.wide with h5|h5;rw[nM h5]at bq;cases bq;exact h5
  have⟨h2,h3⟩:=tY h1;refine⟨λO w u hu=>by simp only[CL.cell,bq,cond_false];exact h2 O w u hu,λj' ku=> ?_⟩;simp only[CL.cell];rcases lt_or_ge j' c.wide with h5|h5;rw[nM h5,cond_true,cond_true];rw[rS h5,cond_false,cond_false];exact h3 _ (by omega)
theorem rU:∀{cs:List CK} {x y:CL cs} {j:Nat} {k:IntKind} {n:Nat} {ws:List Int},CL.setRow cs x j k n ws=some y->
 (∀l,l<n->CL.cell cs y (j+l)=.int k (ws.getD l 0))/\∀j',(j'<j\/j+n<=j')->CL.cell cs y j'=CL.cell cs x j'
 |[],x,y,j,k,n,ws,h=>by cases h
 |c::cs,x,y,j,k,n,ws,h=>by
  simp only[CL.setRow]at h;rw[cond_eq_ite]at h;split at h;rename_i hj;obtain rfl:j=0:=Nat.eq_of_beq_eq_true hj;obtain⟨z,h1,rfl⟩:=map_eq_some_iff.1 h;cases c with
  |arr k' n'=>
   simp only[CK.setRow]at h1;rw[cond_eq_ite]at h1;split at h1;rename_i hk;simp only[and_eq_true]at hk;obtain rfl:=bu hk.1;obtain rfl:=Nat.eq_of_beq_eq_true hk.2;cases h1;refine⟨λl hl=> ?_,λj' ku=> ?_⟩;rw[zero_add];simp only[CL.cell,CK.wide,nM hl,cond_true,CK.cell];simp only[CL.cell,CK.wide,rS (show n<=j' from by omega),cond_false];cases h1
  |_=>cases h1
  rw[cond_eq_ite]at h;split at h;rename_i hle;have hle:=le_of_ble_eq_true hle;obtain⟨z,h1,rfl⟩:=map_eq_some_iff.1 h;have⟨h2,h3⟩:=rU h1;refine⟨λl hl=> ?_,λj' ku=> ?_⟩;simp only[CL.cell,rS (show c.wide<=j+l from by omega),cond_false];rw[show j+l - c.wide=j - c.wide+l from by omega];exact h2 l hl;simp only[CL.cell];rcases lt_or_ge j' c.wide with h5|h5;rw[nM h5,cond_true,cond_true];rw[rS h5,cond_false,cond_false];exact h3 _ (by omega);cases h
theorem afZ{c:aV}{i j:Nat}{k:IntKind}{n:Nat}{ws:List Int}{c':aV}(h:pK c i j k n ws=some c')(hi:i<c.n):
 c'.n=c.n/\c'.size=c.size/\(∀l,l<n->c'.cell i (j+l)=.int k (ws.getD l 0))/\∀i' j',(i'≠i\/j'<j\/j+n<=j')->c'.cell i' j'=c.cell i' j':=by
 cases c<;>simp only[pK,reduceCtorEq]at h;rename_i cs xs;simp only[map_eq_some_iff]at h;obtain⟨y,h1,rfl⟩:=h;simp only[aV.n]at hi;have⟨h2,h3⟩:=rU h1;refine⟨by simp[aV.n],rfl,λl hl=> ?_,λi' j' cQ=> ?_⟩;simp only[aV.cell];rw[show(xs.set i y).getD i (CL.d cs)=y from by simp[List.getD,hi]];exact h2 l hl;simp only[aV.cell];by_cases hii:i'=i;subst hii;rw[show(xs.set i' y).getD i' (CL.d cs)=y from by simp[List.getD,hi]];exact h3 j' (by omega);have:i≠i':=λe=>hii e.symm;simp[List.getD,List.getElem?_set_ne this]
theorem apF(c:aV){i j:Nat}{v:SV}{c':aV}(h:tL c i j v=some c'):c'.n=c.n/\c'.size=c.size:=by
 cases c<;>simp only[tL]at h
 case fh=>simp only[Option.some.injEq]at h;subst h;exact⟨rfl,rfl⟩
 case au=>
  simp only[map_eq_some_iff]at h;obtain⟨y,_,rfl⟩:=h;simp[aV.n,aV.size]
 all_goals
  split at h<;>first
   |(simp only[Option.some.injEq]at h;subst h;simp[aV.n,aV.size];done)|(rw[cond_eq_ite]at h;split at h<;>first|(simp only[Option.some.injEq]at h;subst h;simp[aV.n,aV.size];done)|cases h)
   |cases h
theorem abx(c:aV){i j:Nat}{v:SV}{c':aV}(h:tL c i j v=some c')(hi:i<c.n)(hj:j<c.size){u:Value}(hu:aX O w v u):
 aX O w (c'.cell i j) u/\∀i' j',i'<c.n->j'<c.size->(i'≠i\/j'≠j)->c'.cell i' j'=c.cell i' j':=by
 cases c<;>simp only[tL]at h
 case ah k zs=>
  simp only[aV.n,aV.size]at hi hj
  split at h<;>first
   |cases h
   |(rw[cond_eq_ite]at h
     split at h;rename_i hk;obtain rfl:=bu hk;simp only[Option.some.injEq]at h;subst h;cases hu;simp only[aV.cell,aV.n,aV.size];refine⟨by simp[List.getD,hi];exact .int _ _,λi' j' fy ku cQ=> ?_⟩;have:i≠i':=by omega
     simp[List.getD,List.getElem?_set_ne this];cases h)
 case strs zs=>
  simp only[aV.n,aV.size]at hi hj;split at h<;>simp only[Option.some.injEq,reduceCtorEq]at h;subst h;cases hu;simp only[aV.cell,aV.n,aV.size];refine⟨by simp[List.getD,hi];exact .str _,λi' j' fy ku cQ=> ?_⟩;have:i≠i':=by omega
  simp[List.getD,List.getElem?_set_ne this]
 case bG zs=>
  simp only[aV.n,aV.size]at hi hj;split at h<;>simp only[Option.some.injEq,reduceCtorEq]at h
  all_goals
   subst h;cases hu;simp only[aV.cell,aV.n,aV.size];refine⟨by simp[List.getD,hi];exact .bool _,λi' j' fy ku cQ=> ?_⟩;have:i≠i':=by omega
   simp[List.getD,List.getElem?_set_ne this]
 case au cs xs=>
  simp only[aV.n,aV.size]at hi hj;simp only[map_eq_some_iff]at h;obtain⟨y,h1,rfl⟩:=h;have⟨h2,h3⟩:=tY h1;simp only[aV.cell,aV.n,aV.size];refine⟨by rw[show(xs.set i y).getD i (CL.d cs)=y from by simp[List.getD,hi]];exact h2 O w u hu,λi' j' fy ku cQ=> ?_⟩;by_cases hii:i'=i;subst hii;rw[show(xs.set i' y).getD i' (CL.d cs)=y from by simp[List.getD,hi]];exact h3 j' (by omega);have:i≠i':=λe=>hii e.symm;simp[List.getD,List.getElem?_set_ne this]
 case fh s n get=>
  simp only[Option.some.injEq]at h;subst h;simp only[aV.cell];refine⟨by simp[hu],λi' j' _ _ cQ=> ?_⟩
  have:(i'==i&&j'==j)=false:=by
   rcases cQ with h|h<;>simp[h]
  simp[this]
theorem tZ:∀(kb:List AV) (c:aV) {i j:Nat} {c':aV} {vs:List Value},fj c i j kb=some c'->aA ρ H O w kb vs->i<c.n->j+gv kb<=c.size->
 c'.n=c.n/\c'.size=c.size/\vs.length=gv kb/\(∀l u,vs[l]? =some u->aX O w (c'.cell i (j+l)) u)/\
 ∀i' j',i'<c.n->j'<c.size->(i'≠i\/j'<j\/j+gv kb<=j')->c'.cell i' j'=c.cell i' j'
 |[],c,i,j,c',vs,h,hd,hi,hj=>by
  simp only[fj,Option.some.injEq]at h;subst h;obtain rfl:=aD.1 hd;exact⟨rfl,rfl,rfl,by simp,λ_ _ _ _ _=>rfl⟩
 |a::aQ,c,i,j,c',vs,h,hd,hi,hj=>by
  cases a with
  |s v=>
   simp only[fj,bind_eq_some_iff]at h;have⟨c1,h1,h2⟩:=h;obtain⟨cs1,cs2,rfl,hv,hr⟩:=ag.1 hd;unfold aR at hv;obtain⟨u,rfl,hu⟩:=hv;simp only[gv,AV.wide]at hj;have⟨n1,s1⟩:=apF c h1;have⟨g1,g2⟩:=abx c h1 hi (by omega) hu;have⟨k1,k2,k3,k4,k5⟩:=tZ aQ c1 h2 hr (by omega) (by omega);refine⟨k1.trans n1,k2.trans s1,by simp[k3,gv,AV.wide];omega,λl x hx=> ?_,λi' j' fy ku cQ=> ?_⟩;cases l with
   |zero=>
    simp at hx;subst hx;rw[add_zero,k5 i j (by omega) (by omega) (by omega)];exact g1
   |succ l=>
    have:=k4 l x (by simpa using hx);rw[show j+(l+1)=j+1+l from by omega];exact this
   simp only[gv,AV.wide]at cQ;rw[k5 i' j' (by omega) (by omega) (by omega)];exact g2 i' j' fy ku (by omega)
  |ah k n ws=>
   simp only[fj,bind_eq_some_iff]at h;have⟨c1,h1,h2⟩:=h;obtain⟨cs1,cs2,rfl,hv,hr⟩:=ag.1 hd;unfold aR at hv;obtain⟨hl,rfl⟩:=hv;simp only[gv,AV.wide]at hj;have⟨n1,s1,g1,g2⟩:=afZ h1 hi;have⟨k1,k2,k3,k4,k5⟩:=tZ aQ c1 h2 hr (by omega) (by omega);refine⟨k1.trans n1,k2.trans s1,by simp[k3,gv,AV.wide,hl],λl x hx=> ?_,λi' j' fy ku cQ=> ?_⟩;rcases lt_or_ge l n with h5|h5;rw[getElem?_append_left (by simp;omega)]at hx;simp only[getElem?_map,map_eq_some_iff]at hx;obtain⟨z,hz,rfl⟩:=hx;rw[k5 i (j+l) (by omega) (by omega) (by omega),g1 l h5,show ws.getD l 0=z from by simp[List.getD,hz]];exact .int _ _;rw[getElem?_append_right (by simp;omega)]at hx;simp only[length_map,hl]at hx;have:=k4 (l - n) x hx;rw[show j+n+(l - n)=j+l from by omega]at this;exact this;simp only[gv,AV.wide]at cQ;rw[k5 i' j' (by omega) (by omega) (by omega)];exact g2 i' j' (by omega)
  |_=>simp[fj]at h
theorem aaj(cs:List CK):∀(kb:List AV) (xs:List (CL cs)) (i j:Nat),i<xs.length->(ou cs (xs.getD i (CL.d cs)) j kb).map (λy=>aV.au cs (xs.set i y))=fj (.au cs xs) i j kb
 |[],xs,i,j,hi=>by
  simp only[ou,fj,map_some,Option.some.injEq,aV.au.injEq,heq_eq_eq,true_and];have:xs.getD i (CL.d cs)=xs[i]:=by simp[List.getD,hi]
  rw[this,List.set_getElem_self]
 |a::aQ,xs,i,j,hi=>by
  have step:∀(y:CL cs) (k:Nat),(ou cs y k aQ).map (λy=>aV.au cs (xs.set i y))=fj (.au cs (xs.set i y)) i k aQ:=λy k=>by
   rw[<-aaj cs aQ (xs.set i y) i k (by rw[length_set];exact hi)];have:(xs.set i y).getD i (CL.d cs)=y:=by simp[List.getD,hi]
   rw[this];congr 1;funext z;rw[List.set_set]
  cases a with
  |s v=>
   simp only[ou,fj,tL];cases CL.set cs (xs.getD i (CL.d cs)) j v with
   |none=>rfl|some y=>exact step y (j+1)
  |ah k n ws=>
   simp only[ou,fj,pK];cases CL.setRow cs (xs.getD i (CL.d cs)) j k n ws with
   |none=>rfl|some y=>exact step y (j+n)
  |_=>rfl
theorem aly:∀(kb:List AV) (c:aV) {i j:Nat} {c':aV} {vs:List Value},ahp c i j kb=some c'->aA ρ H O w kb vs->i<c.n->j+gv kb<=c.size->
 c'.n=c.n/\c'.size=c.size/\vs.length=gv kb/\(∀l u,vs[l]? =some u->aX O w (c'.cell i (j+l)) u)/\
 ∀i' j',i'<c.n->j'<c.size->(i'≠i\/j'<j\/j+gv kb<=j')->c'.cell i' j'=c.cell i' j':=by
 intro kb c i j c' vs h hd hi hj;refine tZ kb c ?_ hd hi hj;cases c with
 |au cs xs=>rw[<-h];exact(aaj cs kb xs i j hi).symm|_=>exact h
theorem aby(l vs:List Value)(o:Nat)(h:o+vs.length<=l.length)(i:Nat):(l.take o++vs++l.drop (o+vs.length))[i]? =if o<=i/\i<o+vs.length then vs[i - o]? else l[i]? :=by
 have hto:(l.take o).length=o:=by simp;omega
 by_cases h1:i<o;rw[if_neg (by omega),append_assoc,getElem?_append_left (by omega),getElem?_take,if_pos h1];by_cases h2:i<o+vs.length;rw[if_pos (by omega),getElem?_append_left (by simp;omega),getElem?_append_right (by omega),hto];rw[if_neg (by omega),getElem?_append_right (by simp;omega),List.getElem?_drop];congr 1;simp;omega
theorem iE{α:Type}(l:List α)(i:Nat)(d:α)(h:i<l.length):l[i]? =some (l.getD i d):=by
 simp[List.getD,getElem?_eq_getElem h]
theorem alz{size i i' j j' f:Nat}(hj:j<size)(ku:j'<size)(h:f+i*size+j=f+i'*size+j'):i=i'/\j=j':=by
 have h1:i*size+j=i'*size+j':=by omega
 have h2:(i*size+j) / size=i:=by rw[Nat.mul_comm,Nat.mul_add_div (by omega),Nat.div_eq_of_lt hj];rfl
 have h3:(i'*size+j') / size=i':=by rw[Nat.mul_comm,Nat.mul_add_div (by omega),Nat.div_eq_of_lt ku];rfl
 have:i=i':=by rw[<-h2,<-h3,h1]
 subst this;exact⟨rfl,by omega⟩
theorem ajK{t:TypeId}{a x:AV}{va vx:Value}{q:bR}(h:(afK P t a x).eval H=some q)(hs:Sat ρ H G w)
 (ha:af ρ H (aW ρ H G) w a va) (hx:af ρ H (aW ρ H G) w x vx):
 ∃w',(Instr.storeAt t va vx).run P w=.ok () w'/\∀base,Good ρ H G w (c8 H q.up base q.new) (q.r base) undef w':=by
 unfold afK at h;split at h;rename_i sz zv bV rF;split at h;rename_i id off;unfold af aO at ha;obtain⟨b,hb,rfl,_⟩:=ha;simp only[RM.eval]at h;split at h;rename_i az e ho;have⟨cells,fr,h1,h2,h3⟩:=pN hs ho hb;cases zv;simp only[cond_false]at h;rw[cond_eq_ite]at h;split at h;rename_i hc;simp only[and_eq_true,beq_eq]at hc;obtain⟨hsg,rfl⟩:=hc;split at h;rename_i de oG;simp only[RM.eval,Option.some.injEq]at h;subst h;have⟨h4,h5⟩:=nk az off oG h3 hsg hx;have⟨h6,h7⟩:=kV hsg hx;refine⟨_,lX bV (by rw[mE h7];rfl) (bY off _ 0 h1 h2 (by rw[mE h7];simp;omega) (by rw[mE h7];simpa using h7)),λbase=> ?_⟩;simp only[gg,mE h7,add_zero,List.length_singleton];exact Good.xj hs ho hb h1 h2 (by simp;omega) (by rw[mg _ _ _ h4];exact h5);cases h;cases h;simp only[cond_true]at h;split at h;rename_i kb hby;rw[cond_eq_ite]at h;split at h;rename_i hc;simp only[and_eq_true,beq_eq]at hc;have⟨hw,_⟩:=hc;split at h;rename_i de af0;simp only[RM.eval,Option.some.injEq]at h;subst h;have h4:=rQ hby hx;have h5:=jG h4;have⟨h6,h7⟩:=xd af0 h3 h4;refine⟨_,lX bV (h5.trans hw) (bY off _ 0 h1 h2 (by omega) (xe kb h4)),λbase=> ?_⟩;simp only[gg,add_zero];exact Good.xj hs ho hb h1 h2 (by simp only[length_append,length_take,length_drop];omega) h7;cases h;cases h;cases h;cases h;rename_i id off n i;unfold af aO at ha;obtain⟨cP,b,hb,rfl,_⟩:=ha;simp only[RM.eval]at h;split at h;rename_i az e ho;have⟨cells,fr,h1,h2,h3⟩:=pN hs ho hb;split at h;rename_i k m ws k' l y apA oE;rw[cond_eq_ite]at h;split at h;rename_i hc;simp only[and_eq_true,not_eq_true',beq_eq]at hc;obtain⟨⟨⟨rfl,hk⟩,rfl⟩,rfl⟩:=hc;obtain rfl:=bu hk;split at h;rename_i de oG;simp only[RM.eval,Option.some.injEq]at h;subst h;obtain rfl:=cq oE hx;obtain⟨hl,pre,post,rfl,hp⟩:=pM az off apA h3;have h4:=oC az off apA oG (by simp) h3 hp;have bq:off+i<(pre++ws.map (Value.int k)++post).length:=by simp;omega
 refine⟨_,lX bV rfl (bY (off+i) [.int k y] 0 h1 h2 (by simp;omega) (by simp[Value.oneCell'])),λbase=> ?_⟩;simp only[gg,add_zero,List.length_singleton];refine Good.xj hs ho hb h1 h2 (by rw[mg _ _ _ bq];simp) ?_;rw[mg _ _ _ bq,append_assoc,List.set_append_right _ _ (by omega),List.set_append_left _ _ (by simp;omega),show off+i - pre.length=i from by omega,<-append_assoc];rw[List.map_set]at h4;exact h4;cases h;cases h;cases h;cases h;rename_i id i j;unfold af aO at ha;have⟨_,o,ho,hv⟩:=ha;simp only[RM.eval]at h;split at h;rename_i c e dI;rw[ho]at dI;cases dI;obtain⟨hi,hj,b,f,n,cap,dL,rfl⟩:=hv c e rfl;split at h;rename_i kb hby;rw[cond_eq_ite]at h;split at h;rename_i hc;simp only[and_eq_true,beq_eq]at hc;have⟨hw,hle⟩:=hc;have hle:=le_of_ble_eq_true hle;split at h;rename_i c' oG;simp only[RM.eval,Option.some.injEq]at h;subst h;have h4:=rQ hby hx;have⟨k1,k2,k3,k4,k5⟩:=aly kb c oG h4 hi (by omega);have⟨a,ajv,h5,h6,h7,h8⟩:=hs.obj id _ ho;rw[dL]at h5;cases h5;rcases h8 with rfl|⟨b',o',cells,fr,us,e1,g1,g2,g3,g4⟩;omega;cases e1
 have mq:eZ (ρ id)=some b:=by
  rw[dL];simp only[eZ];rw[if_neg (by omega)]
 have hmul:i*c.size+c.size<=cap*c.size:=by
  rw[<-Nat.succ_mul];exact Nat.mul_le_mul_right _ (by omega)
 have bC:f+i*c.size+j+vx.cells.toList.length<=cells.length:=by omega
 have st:=kX (G:=G) (w:=w) (o':=.vec c' e) ho rfl mq (λc1 e1 hc1=>by cases hc1;exact⟨c,e,rfl,k1,k2⟩)
  (.cells (cells.take (f+i*c.size+j)++vx.cells.toList++cells.drop (f+i*c.size+j+vx.cells.toList.length)).toArray e fr)
 refine⟨_,lX bV (k3.trans hw) (bY (f+i*c.size+j) _ 0 g1 g2.unm (by omega) (xe kb h4)),λbase=> ?_⟩;simp only[gg,add_zero];refine Good.write hs ho rfl rfl mq (λc1 e1 hc1=>by cases hc1;exact⟨c,e,rfl,k1,k2⟩) ?_ cC;refine⟨some ⟨b,f,none⟩,cap,by rw[dL,k1],by omega,h7,.inr ⟨b,f,_,fr,λi' j'=>if i'=i/\j<=j'/\j'<j+gv kb then(vx.cells.toList.getD (j' - j) undef)else us i' j',rfl,ei g1, ?_, ?_, ?_⟩⟩;exact g2.over (xe kb h4) bC;simp only[length_append,length_take,length_drop];rw[k2];omega;intro i' j' fy ku;rw[k1]at fy;rw[k2]at ku;rw[k2,aby _ _ _ bC];dsimp only;by_cases cP:i'=i/\j<=j'/\j'<j+gv kb;obtain⟨rfl,h9,vW⟩:=cP;rw[if_pos ⟨by omega,by omega⟩,if_pos ⟨rfl,h9,vW⟩];have hx1:j' - j<vx.cells.toList.length:=by omega
 refine⟨by rw[show f+i'*c.size+j' - (f+i'*c.size+j)=j' - j from by omega];exact iE _ _ _ hx1, ?_⟩;have:=k4 (j' - j) _ (iE _ _ undef hx1);rw[show j+(j' - j)=j' from by omega]at this;exact this.step st.gu st.heap st.size;rw[if_neg cP]
 have qj:¬(f+i*c.size+j<=f+i'*c.size+j'/\f+i'*c.size+j'<f+i*c.size+j+vx.cells.toList.length):=by
  rintro⟨h9,vW⟩;have hd:f+i*c.size+(f+i'*c.size+j' - (f+i*c.size))=f+i'*c.size+j':=by omega
  have⟨h11,h12⟩:=alz (f:=f) (i:=i) (i':=i') (j:=f+i'*c.size+j' - (f+i*c.size)) (by omega) ku hd;subst h11;exact cP ⟨rfl,by omega,by omega⟩
 rw[if_neg qj,k5 i' j' fy ku (by omega)];have⟨h9,vW⟩:=g4 i' j' fy ku;exact⟨h9,vW.step st.gu st.heap st.size⟩;cases h;cases h;cases h;cases h;cases h;cases h
end
section
variable{ρ aN:Nat->Value}{H H':aT}{G O O':Nat->Prop}{w w':World}{P:Program}
theorem abz{v:Value}{x:SV}(h:apu v=some x):aX O w x v:=by
 unfold apu at h;split at h<;>simp only[Option.some.injEq,reduceCtorEq]at h<;>subst h;exact .aK _;exact .aS _ _;exact .str _;exact .jD;exact .afz;exact .afA;exact .afB
theorem xk{v:Value}{a:AV}(h:rL v=some a):aR ρ H O w a [v]:=by
 unfold rL at h;split at h;simp only[Option.some.injEq]at h;subst h;unfold aR;exact⟨_,rfl,none,rfl⟩;simp only[map_eq_some_iff]at h;obtain⟨x,h1,rfl⟩:=h;unfold aR;exact⟨v,rfl,abz h1⟩
theorem oH:∀(vs:List Value) {aQ:List AV},rM vs=some aQ->aA ρ H O w aQ vs
 |[],aQ,h=>by simp only[rM,Option.some.injEq]at h;subst h;exact aD.2 rfl
 |v::vs,aQ,h=>by
  simp only[rM]at h;split at h;rename_i a dN h1 h2;simp only[Option.some.injEq]at h;subst h;exact ag.2 ⟨[v],vs,rfl,xk h1,oH vs h2⟩;cases h
theorem oI(k:IntKind):∀(cs:List Value),oq k cs=true->cs=(replicate cs.length (0:Int)).map (Value.int k)
 |[],_=>rfl|v::vs,h=>by
  unfold oq at h;split at h;rename_i hc;cases hc;rename_i k' vs' hc;cases hc;simp only[and_eq_true]at h;obtain rfl:=bu h.1;have:=oI k vs h.2;simp only[length_cons,List.replicate_succ,map_cons,List.cons.injEq,true_and];exact this;cases h
theorem ac2(P:Program)(d:Nat)(ih:∀t cs az,iz P d t cs=some az->aA ρ H O w az cs):∀(fs:List Field) (s0 s1:List AV) (r0 r1:List Value),
 fs.foldl (λacc f=>match acc,dY P f.type with
  |some (az,rest),some n=>(iz P d f.type (rest.take n)).map λs=>(az++s,rest.drop n)|_,_=>none) (some (s0,r0))=some (s1,r1)->∃s' c,s1=s0++s'/\r0=c++r1/\aA ρ H O w s' c
 |[],s0,s1,r0,r1,h=>by
  simp only[List.foldl_nil,Option.some.injEq,Prod.mk.injEq]at h;obtain⟨rfl,rfl⟩:=h;exact⟨[],[],by simp,rfl,aD.2 rfl⟩
 |f::fs,s0,s1,r0,r1,h=>by
  simp only[List.foldl_cons]at h
  have ke:∀(fs:List Field),fs.foldl (λ(acc:Option (List AV×List Value)) f=>match acc,dY P f.type with
   |some (az,rest),some n=>(iz P d f.type (rest.take n)).map λs=>(az++s,rest.drop n)|_,_=>none) none=none:=by
   intro fs
   induction fs with
   |nil=>rfl|cons f fs ih=>simp only[List.foldl_cons];exact ih
  cases bV:dY P f.type with
  |none=>rw[bV]at h;simp only[ke]at h;cases h
  |some n=>
   rw[bV]at h;simp only[]at h;cases hz:iz P d f.type (r0.take n)with
   |none=>rw[hz]at h;simp only[Option.map_none,ke]at h;cases h
   |some s=>
    rw[hz]at h;simp only[map_some]at h;obtain⟨s',c,rfl,h1,h2⟩:=ac2 P d ih fs _ _ _ _ h;refine⟨s++s',r0.take n++c,by simp, ?_,fR.2 ⟨_,_,rfl,ih _ _ _ hz,h2⟩⟩;rw[append_assoc,<-h1,List.take_append_drop]
theorem vr(P:Program):∀(d:Nat) (t:TypeId) (cs:List Value) (az:List AV),iz P d t cs=some az->aA ρ H O w az cs
 |0,t,cs,az,h=>by simp[iz]at h
 |d+1,t,cs,az,h=>by
  simp only[iz]at h;split at h;simp only[bind_eq_some_iff]at h;have⟨⟨s,rest⟩,h1,h2⟩:=h;obtain⟨s',c,rfl,rfl,h3⟩:=ac2 P d (vr P d) _ _ _ _ _ h1;simp only[]at h2;split at h2;simp only[Option.some.injEq]at h2;subst h2;simpa using h3;cases h2;split at h;rename_i k hk;rw[cond_eq_ite]at h;split at h;rename_i hc;simp only[and_eq_true,beq_iff_eq]at hc;obtain⟨hz,rfl⟩:=hc;simp only[Option.some.injEq]at h;subst h;exact ag.2 ⟨cs,[],by simp,dd.2 ⟨by simp,oI k cs hz⟩,aD.2 rfl⟩;exact oH cs h;exact oH cs h;exact oH cs h
theorem ac3(az:List AV):(AV.mf az).ka=some az:=by
 unfold AV.mf;split<;>rfl
theorem pP{t:TypeId}{az:List AV}(h:(zeroOf P t).bind AV.ka =some az):∃i v,P.info? t=some i/\i.zero=some v/\aA ρ H O w az v.cells.toList:=by
 simp only[bind_eq_some_iff]at h;have⟨z,h1,h2⟩:=h;unfold zeroOf at h1;split at h1;rename_i cs hz ha;simp only[bind_eq_some_iff]at hz;have⟨i,hi,hz⟩:=hz;simp only[map_eq_some_iff]at h1;obtain⟨ss,h3,rfl⟩:=h1;rw[ac3]at h2;simp only[Option.some.injEq]at h2;subst h2;exact⟨i,_,hi,hz,by simpa[Value.cells]using vr P 20 t _ _ h3⟩;skip;rename_i v hz ha;simp only[bind_eq_some_iff]at hz;have⟨i,hi,hz⟩:=hz;refine⟨i,v,hi,hz, ?_⟩;have hc:=xk (ρ:=ρ) (H:=H) (O:=O) (w:=w) h1
 have hv:v.oneCell'=true/\z.ka =some [z]:=by
  unfold rL at h1;split at h1;simp only[Option.some.injEq]at h1;subst h1;exact⟨rfl,rfl⟩;simp only[map_eq_some_iff]at h1;obtain⟨x,h3,rfl⟩:=h1;refine⟨(abz (O:=O) (w:=w) h3).one, ?_⟩;unfold apu at h3;split at h3<;>simp only[Option.some.injEq,reduceCtorEq]at h3<;>subst h3<;>rfl
 rw[hv.2]at h2;simp only[Option.some.injEq]at h2;subst h2;rw[mE hv.1];exact ag.2 ⟨[v],[],rfl,hc,aD.2 rfl⟩;cases h1
theorem aak(hs:Sat ρ H G w){n:Nat}(hn:H n=none){az:List AV}{e:TypeId}{cells:List Value}(hd:aA ρ H (aW ρ H G) w az cells):
 Good ρ H G w (aC H n (.aq az e)) (.ptr n 0) (.pointer (some ⟨w.heap.size,0,none⟩)) (w.alloc (.cells cells.toArray e)):=by
 have st:Step ρ H (aW ρ H G) w (λj=>if j=n then .pointer (some ⟨w.heap.size,0,none⟩)else ρ j) (aC H n (.aq az e)) (aW (λj=>if j=n then .pointer (some ⟨w.heap.size,0,none⟩)else ρ j) (aC H n (.aq az e)) G) (w.alloc (.cells cells.toArray e)):=by
  have ne:∀j x,H j=some x->j≠n:=λj x hx e=>by subst e;rw[hn]at hx;cases hx
  refine⟨λj x hx=>by simp[ne j x hx],λj x hx=>⟨x,by simp[aC,ne j x hx,hx],λc' e' hc=>⟨c',e',hc,rfl,rfl⟩⟩,λb hb=> ?_,λb hb _=>alloc_old hb,by rw[fW];omega⟩;rcases hb with⟨j,x,hx,h1,h2⟩|hb;by_cases hj:j=n;subst hj;simp only[if_true,eZ,Option.some.injEq]at h2;exact .inr (by omega);simp only[aC,hj,if_false]at hx h2;exact .inl (.inl ⟨j,x,hx,h1,h2⟩);exact .inl (.inr hb)
 refine Good.fresh (aa:=.pointer (some ⟨w.heap.size,0,none⟩)) hs hn rfl rfl rfl rfl (λb hb=>by simpa[eZ]using hb.symm) ?_ ?_;exact⟨w.heap.size,cells,(0,0),rfl,kI,λoff _ h=>by omega,hd.step st⟩;unfold af aO;exact⟨w.heap.size,by simp,rfl,by simp[aC]⟩
theorem af1(hs:Sat ρ H G w){n:Nat}(hn:H n=none){k:Nat}(hk:1<=k)(rV:k<=maxLen){e:TypeId}:
 Good ρ H G w (aC H n (.vec (.strs (replicate k empty)) e)) (.gR n 0 0) (.pointer (some ⟨w.heap.size,0,none⟩)) (w.alloc (.cells (replicate k (Value.string empty)).toArray e)):=by
 have rW:∀b,eZ (.slice (some ⟨w.heap.size,0,none⟩) k k)=some b->b=w.heap.size:=by
  intro b hb;simp only[eZ]at hb;split at hb;cases hb;simpa using hb.symm
 refine Good.fresh (aa:=.slice (some ⟨w.heap.size,0,none⟩) k k) hs hn rfl rfl rfl rfl rW ?_ ?_;refine⟨some ⟨w.heap.size,0,none⟩,k,by simp[aV.n],by simp[aV.n],rV,.inr ⟨w.heap.size,0,replicate k (Value.string empty),(0,0),λ_ _=>.string empty,rfl,kI,⟨λoff _ h=>by omega,λu hu=> ?_⟩,by simp[aV.size],λi j hi hj=> ?_⟩⟩;rw[(List.mem_replicate.1 hu).2];rfl;simp only[aV.n,List.length_replicate]at hi;simp only[aV.size]at hj ⊢;obtain rfl:j=0:=by omega
 refine⟨by simp[hi], ?_⟩;simp only[aV.cell];rw[show(replicate k empty).getD i empty=empty from by simp[List.getD,hi]];exact aX.str _;unfold af aO
 exact⟨rfl,.vec (.strs (replicate k empty)) e,by simp[aC],λc' e' hc=>by
  cases hc;exact⟨by simp[aV.n];omega,by simp[aV.size],w.heap.size,0,k,k,by simp,by simp[aV.size]⟩⟩
theorem af2{t:TypeId}{n:Nat}(h:abi P t=some n):1<=n/\n<=4096/\∃i v,P.info? t=some i/\i.zero=some v/\v.cells=(replicate n (Value.string empty)).toArray:=by
 unfold abi at h;split at h;rename_i m e i _ hi;split at h;rename_i z _ hz;rw[cond_eq_ite]at h;split at h;rename_i hc;simp only[Option.some.injEq]at h;subst h;simp only[and_eq_true,beq_eq]at hc;have⟨⟨⟨c1,c2⟩,c3⟩,c4⟩:=hc;have c1:=le_of_ble_eq_true c1;refine⟨by omega,le_of_ble_eq_true c2,i,z,hi,hz, ?_⟩;rw[all_eq_true]at c4
 have:z.cells.toList=replicate m (Value.string empty):=List.eq_replicate_iff.2 ⟨by rw[length_toList];exact c3,λb hb=>by
  have:=c4 b hb;split at this;rename_i s;have h0:s.size=0:=by simpa using this
  have:s=empty:=ext (Array.eq_empty_of_size_eq_zero h0);rw[this];cases this⟩
 rw[<-this];cases h;cases h;cases h
theorem ajL{t:TypeId}{q:bR}(h:(afN P t).eval H=some q)(hs:Sat ρ H G w){base:Nat}(hb:∀i,i<q.new.length->H (base+i)=none)(old:Value):
 ∃v w',(Instr.alloc t true old).run P w=.ok v w'/\Good ρ H G w (c8 H q.up base q.new) (q.r base) v w':=by
 unfold afN at h;split at h;rename_i n hz;simp only[RM.eval,Option.some.injEq]at h;subst h;have⟨h1,h2,i,v,hi,hv,hc⟩:=af2 hz;have hn:H base=none:=by simpa using hb 0 (by simp)
 refine⟨.pointer (some ⟨w.heap.size,0,none⟩),w.alloc (.cells v.cells t), ?_, ?_⟩;simp[Instr.alloc,zeroValue,typeInfo,hi,hv,newVar,newRow];try rfl
 simp only[jJ];have:=af1 hs hn h1 (by unfold maxLen;omega) (e:=t);rw[hc];simpa using this;split at h;rename_i az hz;simp only[RM.eval,Option.some.injEq]at h;subst h;have⟨i,v,hi,hv,hd⟩:=pP (ρ:=ρ) (H:=H) (O:=aW ρ H G) (w:=w) hz;have hn:H base=none:=by simpa using hb 0 (by simp)
 refine⟨.pointer (some ⟨w.heap.size,0,none⟩),w.alloc (.cells v.cells t), ?_, ?_⟩;simp[Instr.alloc,zeroValue,typeInfo,hi,hv,newVar,newRow];try rfl
 simp only[jJ];have:=aak hs hn (e:=t) hd;simpa using this;cases h
theorem apG{t:TypeId}{x:AV}{vx:Value}{q:bR}(h:(atN t x).eval H=some q)(hs:Sat ρ H G w)(hd:af ρ H (aW ρ H G) w x vx){base:Nat}(hb:∀i,i<q.new.length->H (base+i)=none):
 ∃v w',(Instr.box t vx).run P w=.ok v w'/\Good ρ H G w (c8 H q.up base q.new) (q.r base) v w':=by
 unfold atN at h;split at h;rename_i az hz;simp only[RM.eval,Option.some.injEq]at h;subst h;have hn:H base=none:=by simpa using hb 0 (by simp)
 refine⟨.pointer (some ⟨w.heap.size,0,none⟩),w.alloc (.cells vx.cells t), ?_, ?_⟩;simp[Instr.box,newVar,newRow];try rfl
 simp only[jJ];have:=aak hs hn (e:=t) (rQ hz hd);simpa using this;cases h
end
section
variable{ρ aN:Nat->Value}{H H':aT}{G O O':Nat->Prop}{w w':World}{P:Program}
theorem aal(off:Nat):∀(vs:List Value) (k:Nat) (cells:Array Value),off+k+vs.length<=cells.size->
 ((vs.zipIdx k).foldl (λ(cs:Array Value) (x:Value×Nat)=>cs.setIfInBounds (off+x.2) x.1) cells).toList=cells.toList.take (off+k)++vs++cells.toList.drop (off+k+vs.length)
 |[],k,cells,_=>by simp
 |v::vs,k,cells,h=>by
  simp only[length_cons]at h;simp only[List.zipIdx_cons,List.foldl_cons];rw[aal off vs (k+1) _ (by simp;omega)];have bq:off+k<cells.toList.length:=by simp;omega
  simp only[Array.toList_setIfInBounds];rw[<-add_assoc,List.take_set,List.drop_set_of_lt (by omega)]
  have e1:(cells.toList.take (off+k+1)).set (off+k) v=cells.toList.take (off+k)++[v]:=by
   rw[List.take_succ_eq_append_getElem bq];rw[List.set_append_right _ _ (by simp;omega)];simp at bq;simp[Nat.min_eq_left (Nat.le_of_lt bq)]
  rw[e1];simp only[append_assoc,length_cons,cons_append,nil_append];rw[show off+k+1+vs.length=off+k+(vs.length+1)from by omega]
theorem wq{place:Nat->Option (Nat×Nat)}{ev:Operand->AV}{e:Operand->Value}:∀(l:List (Nat×Operand)) (az ss:List AV) (cells:Array Value),(∀p∈l,af ρ H O w (ev p.2) (e p.2))->
 qP place az (l.map λp=>(p.1,ev p.2))=some ss->aA ρ H O w az cells.toList->
 ∃e9,Instr.fill place cells (l.map λp=>(p.1,e p.2))=some e9/\aA ρ H O w ss e9.toList
 |[],az,ss,cells,_,h,hd=>by
  simp only[map_nil,qP,Option.some.injEq]at h;subst h;exact⟨cells,rfl,hd⟩
 |(i,x)::l,az,ss,cells,hp,h,hd=>by
  simp only[map_cons,qP]at h;split at h;rename_i off size kb hpl hby;rw[cond_eq_ite]at h;split at h;rename_i hc;simp only[and_eq_true,beq_eq]at hc;simp only[bind_eq_some_iff]at h;have⟨s1,h1,h2⟩:=h;have hx:=rQ hby (hp (i,x) (by simp));have bC:=jG hx;have⟨h3,h4⟩:=xd h1 hd hx;simp only[length_toList]at bC h3
  have⟨e9,h5,h6⟩:=wq l s1 ss ((e x).cells.zipIdx.foldl (λcs (c,j)=>cs.setIfInBounds (off+j) c) cells) (λp hp'=>hp p (by simp[hp'])) h2 (by
   rw[<-Array.foldl_toList,Array.toList_zipIdx];have:=aal off (e x).cells.toList 0 cells (by simpa using h3);simp only[add_zero]at this;rw[this];exact h4)
  refine⟨e9, ?_,h6⟩;simp only[map_cons,Instr.fill,hpl];rw[if_neg (by simp;omega)];exact h5;cases h;cases h
theorem vt(P:Program)(w:World):∀(fs:List Field),fs.all (λf=>(dY P f.type).isSome)=true->
 (fs.mapM (m:=Sem) λf=>do pure (f.offset,<-sizeOf f.type)).run P w=.ok (fs.map λf=>(f.offset,(dY P f.type).getD 0)) w
 |[],_=>by simp
 |f::fs,h=>by
  simp only[all_cons,and_eq_true]at h;have⟨n,hn⟩:=isSome_iff_exists.1 h.1;have ih:=vt P w fs h.2;simp only[List.mapM_cons,Sem.run_bind,run_sizeOf hn,Result.andThen_ok,Sem.run_pure,ih,map_cons,hn,getD_some]
theorem ajM{t:TypeId}{ps:Array (Nat×Operand)}{ev:Operand->AV}{e:Operand->Value}{q:bR}(h:(afO P t (ps.toList.map λp=>(p.1,ev p.2))).eval H=some q)(hn:bK q.ab)
 (hp:∀p∈ps,af ρ H O w (ev p.2) (e p.2)):fC P ρ H O w q (Instr.build t (ps.map λ(i,x)=>(i,e x))):=by
 have hp':∀p∈ps.toList,af ρ H O w (ev p.2) (e p.2):=λp hm=>hp p (Array.mem_toList_iff.1 hm);unfold afO at h;split at h;rename_i az fs hz ht;have⟨i,v,hi,hv,hd⟩:=pP (ρ:=ρ) (H:=H) (O:=O) (w:=w) hz;rw[cond_eq_ite]at h;split at h;rename_i abA;split at h;rename_i ss hss
 have hm:(fs.mapM (m:=Sem) λf=>do pure (f.offset,<-sizeOf f.type)).run P w=.ok (fs.toList.map λf=>(f.offset,(dY P f.type).getD 0)).toArray w:=by
  rw[Array.mapM_eq_mapM_toList];simp only[Sem.run_map,vt P w fs.toList abA,Result.andThen_ok]
 have at0:(λi=>((fs.toList.map λ(f:Field)=>(f.offset,(dY P f.type).getD 0)).toArray)[i]?)=(λ(i:Nat)=>(fs[i]?).bind λ(f:Field)=>(dY P f.type).map λn=>(f.offset,n)):=by
  funext i;simp only[List.getElem?_toArray,getElem?_map,Array.getElem?_toList];cases hf:fs[i]? with
  |none=>rfl|some f=>
   have kv:f∈fs.toList:=Array.mem_toList_iff.2 (Array.mem_of_getElem? hf);have⟨n,hn⟩:=isSome_iff_exists.1 (all_eq_true.1 abA f kv);simp[hn]
 have⟨e9,h1,h2⟩:=wq ps.toList az ss v.cells hp' hss hd;refine aP h (λ_=>⟨.agg e9, ?_,by simpa using mz h2⟩) hn;rw[<-at0]at h1;simp only[Instr.build,zeroValue,typeInfo,Sem.run_bind,run_program,Result.andThen_ok,hi,Sem.run_pure,hv,run_underlying ht,hm];simp only[Array.toList_map];erw [h1];rfl;cases h;cases h;rename_i az n el hz ht;have⟨i,v,hi,hv,hd⟩:=pP (ρ:=ρ) (H:=H) (O:=O) (w:=w) hz;split at h;rename_i sz bV;split at h;rename_i ss hss;have⟨e9,h1,h2⟩:=wq ps.toList az ss v.cells hp' hss hd;refine aP h (λ_=>⟨.agg e9, ?_,by simpa using mz h2⟩) hn;simp only[Instr.build,zeroValue,typeInfo,Sem.run_bind,run_program,Result.andThen_ok,hi,Sem.run_pure,hv,run_underlying ht,run_sizeOf bV];simp only[Array.toList_map];erw [h1];rfl;cases h;cases h;cases h
end
section
variable{ρ aN:Nat->Value}{H H':aT}{G O O':Nat->Prop}{w w':World}{P:Program}
def Pts(O:Nat->Prop)(w:World)(l:List SV)(cs:List Value):Prop:=l.length=cs.length/\∀(i:Nat) (v:SV),l[i]? =some v->∃u,cs[i]? =some u/\aX O w v u
theorem apH:Pts O w [] ([]:List Value):=⟨rfl,by simp⟩
theorem xl{v:SV}{l:List SV}{cs:List Value}(h:Pts O w (v::l) cs):∃u kc,cs=u::kc/\aX O w v u/\Pts O w l kc:=by
 have⟨h1,h2⟩:=h;cases cs with
 |nil=>simp at h1|cons u kc=>
  have⟨u',h3,h4⟩:=h2 0 v rfl;simp at h3;subst h3;exact⟨_,_,rfl,h4,by simpa using h1,λi x hx=>by simpa using h2 (i+1) x (by simpa using hx)⟩
theorem alA{v:SV}{l:List SV}{u:Value}{cs:List Value}(h1:aX O w v u)(h2:Pts O w l cs):Pts O w (v::l) (u::cs):=
 ⟨by simp[h2.1],λi x hx=>by
   cases i with
   |zero=>simp at hx;subst hx;exact⟨u,rfl,h1⟩|succ i=>simpa using h2.2 i x (by simpa using hx)⟩
theorem af3:∀(aQ:List AV) {l:List SV} {cs:List Value},svs aQ=some l->aA ρ H O w aQ cs->Pts O w l cs
 |[],l,cs,h,hd=>by
  simp only[svs,Option.some.injEq]at h;subst h;obtain rfl:=aD.1 hd;exact apH
 |a::aQ,l,cs,h,hd=>by
  obtain⟨c1,c2,rfl,h1,h2⟩:=ag.1 hd;rcases tV a with⟨k,n,ws,rfl⟩|ha;simp[svs]at h
  have hs:svs (a::aQ)=match a.sv?,svs aQ with|some v,some vs=>some (v::vs)|_,_=>none:=by
   cases a<;>first|rfl|(exact(ha _ _ _ rfl).elim)
  rw[hs]at h;split at h;rename_i v vs hv hvs;simp only[Option.some.injEq]at h;subst h;cases a with
  |s x=>
   unfold aR at h1;obtain⟨u,rfl,hu⟩:=h1;have:x=v:=by cases x<;>simp only[AV.sv?,Option.some.injEq,reduceCtorEq]at hv<;>exact hv
   subst this;exact alA hu (af3 aQ hvs h2)
  |emp=>
   unfold aR at h1;obtain⟨u,rfl,x,rfl⟩:=h1;simp only[AV.sv?,Option.some.injEq]at hv;subst hv;exact alA (.ro (.fh 1 0 λ_ _=>.aZ) x 0 (λ_ _=>undef) 0 0 (le_refl _) (by simp[maxLen]) (by simp[aV.n]) (by simp[aV.n]) (by simp[aV.n])) (af3 aQ hvs h2)
  |_=>simp[AV.sv?]at hv
  cases h
theorem aam(k:IntKind):∀(l:List SV) {zs:List Int} {cs:List Value},qQ k l=some zs->Pts O w l cs->zs.length=cs.length/\∀i,i<zs.length->∃u,cs[i]? =some u/\aX O w (.int k (zs.getD i 0)) u
 |[],zs,cs,h,hp=>by
  simp only[qQ,Option.some.injEq]at h;subst h;exact⟨hp.1,by simp⟩
 |v::l,zs,cs,h,hp=>by
  obtain⟨u,kc,rfl,hu,hp'⟩:=xl hp
  have key:∀k' n,aX O w (.int k' n) u->(bif bU k k' then(qQ k l).map (n:: ·)else none)=some zs->zs.length=(u::kc).length/\∀i,i<zs.length->∃x,(u::kc)[i]? =some x/\aX O w (.int k (zs.getD i 0)) x:=by
   intro k' n hd h;rw[cond_eq_ite]at h;split at h;rename_i hk;obtain rfl:=bu hk;simp only[map_eq_some_iff]at h;obtain⟨zs',h1,rfl⟩:=h;have⟨h2,h3⟩:=aam k l h1 hp';refine⟨by simp[h2],λi hi=> ?_⟩;cases i with
   |zero=>exact⟨u,rfl,by simpa using hd⟩
   |succ i=>simpa using h3 i (by simpa using hi)
   cases h
  cases v<;>simp only[qQ,reduceCtorEq]at h
  case int k' n=>exact key k' n hu h
  case aS k' n=>cases hu;exact key k' n (.int _ _) h
theorem aan:∀(l:List SV) {zs:List ByteArray} {cs:List Value},tM l=some zs->Pts O w l cs->zs.length=cs.length/\∀i,i<zs.length->∃u,cs[i]? =some u/\aX O w (.str (zs.getD i empty)) u
 |[],zs,cs,h,hp=>by
  simp only[tM,Option.some.injEq]at h;subst h;exact⟨hp.1,by simp⟩
 |v::l,zs,cs,h,hp=>by
  obtain⟨u,kc,rfl,hu,hp'⟩:=xl hp;cases v<;>simp only[tM,reduceCtorEq]at h;simp only[map_eq_some_iff]at h;obtain⟨zs',h1,rfl⟩:=h;have⟨h2,h3⟩:=aan l h1 hp';refine⟨by simp[h2],λi hi=> ?_⟩;cases i with
  |zero=>exact⟨u,rfl,by simpa using hu⟩
  |succ i=>simpa using h3 i (by simpa using hi)
theorem qY:∀(l:List SV) {zs:List Bool} {cs:List Value},pL l=some zs->Pts O w l cs->zs.length=cs.length/\∀i,i<zs.length->∃u,cs[i]? =some u/\aX O w (.bool (zs.getD i false)) u
 |[],zs,cs,h,hp=>by
  simp only[pL,Option.some.injEq]at h;subst h;exact⟨hp.1,by simp⟩
 |v::l,zs,cs,h,hp=>by
  obtain⟨u,kc,rfl,hu,hp'⟩:=xl hp;cases v<;>simp only[pL,reduceCtorEq]at h
  case bool b=>
   simp only[map_eq_some_iff]at h;obtain⟨zs',h1,rfl⟩:=h;have⟨h2,h3⟩:=qY l h1 hp';refine⟨by simp[h2],λi hi=> ?_⟩;cases i with
   |zero=>exact⟨u,rfl,by simpa using hu⟩
   |succ i=>simpa using h3 i (by simpa using hi)
  case aK b=>
   simp only[map_eq_some_iff]at h;obtain⟨zs',h1,rfl⟩:=h;have⟨h2,h3⟩:=qY l h1 hp';refine⟨by simp[h2],λi hi=> ?_⟩;cases i with
   |zero=>cases hu;exact⟨_,rfl,by simpa using aX.bool _⟩
   |succ i=>simpa using h3 i (by simpa using hi)
theorem ajN{cs:List CK}{f:Nat->SV}{x:CL cs}(h:CL.ofs cs f=some x):∀j,j<CL.wide cs->∀(O:Nat->Prop) (w:World) (u:Value),aX O w (f j) u->aX O w (CL.cell cs x j) u:=by
 unfold CL.ofs at h;generalize CL.wide cs=m at h
 induction m generalizing x with
 |zero=>intro j hj;omega
 |succ m ih=>
  rw[List.range_succ,List.foldl_append]at h;simp only[List.foldl_cons,List.foldl_nil,bind_eq_some_iff]at h;have⟨y,h1,h2⟩:=h;have⟨h3,h4⟩:=tY h2;intro j hj O w u hu;by_cases hjm:j=m;subst hjm;exact h3 O w u hu;rw[h4 j hjm];exact ih h1 j (by omega) O w u hu
theorem ac4{cs:List CK}{size:Nat}{cells:List SV}:∀{n i:Nat} {xs:List (CL cs)},aae cs size cells i n=some xs->xs.length=n/\∀k,k<n->∀j,j<CL.wide cs->∀(O:Nat->Prop) (w:World) (u:Value),
 aX O w (cells.getD ((i+k)*size+j) .aZ) u->aX O w (CL.cell cs (xs.getD k (CL.d cs)) j) u
 |0,i,xs,h=>by
  simp only[aae,Option.some.injEq]at h;subst h;exact⟨rfl,λk hk=>by omega⟩
 |n+1,i,xs,h=>by
  simp only[aae]at h;split at h;rename_i x ys h1 h2;simp only[Option.some.injEq]at h;subst h;have⟨h3,h4⟩:=ac4 h2;refine⟨by simp[h3],λk hk j hj O w u hu=> ?_⟩;cases k with
  |zero=>exact ajN h1 j hj O w u (by simpa using hu)
  |succ k=>
   have:=h4 k (by omega) j hj O w u (by rw[show i+1+k=i+(k+1)from by omega];exact hu);simpa using this
  cases h
theorem alB{sh:Shape}{size n:Nat}{l:List SV}{cs:List Value}(hp:Pts O w l cs)(hl:l.length=n*size)(hn:(vk sh size n l).n=n)(hs:(vk sh size n l).size=size):
 ∀i j,i<n->j<size->∃u,cs[i*size+j]? =some u/\aX O w ((vk sh size n l).cell i j) u:=by
 have hd:∀i j,i<n->j<size->∃u,cs[i*size+j]? =some u/\aX O w ((aV.fh size n λi j=>l.getD (i*size+j) .aZ).cell i j) u:=by
  intro i j hi hj
  have bq:i*size+j<l.length:=by
   rw[hl];have:(i+1)*size<=n*size:=Nat.mul_le_mul_right _ (by omega);rw[Nat.succ_mul]at this;omega
  have⟨u,h1,h2⟩:=hp.2 (i*size+j) l[i*size+j] (by simp[bq]);refine⟨u,h1, ?_⟩;simp only[aV.cell,List.getD,getElem?_eq_getElem bq,getD_some];exact h2
 unfold vk at hn hs ⊢;cases sh with
 |ah k=>
  cases hx:qQ k l with
  |none=>simp only[hx,Option.elim]at hn hs ⊢;exact hd|some zs=>
   simp only[hx,Option.elim,aV.n,aV.size]at hn hs ⊢;subst hs;intro i j hi hj;obtain rfl:j=0:=by omega
   have⟨h1,h2⟩:=aam k l hx hp;simpa[aV.cell]using h2 i (by omega)
 |strs=>
  cases hx:tM l with
  |none=>simp only[hx,Option.elim]at hn hs ⊢;exact hd|some zs=>
   simp only[hx,Option.elim,aV.n,aV.size]at hn hs ⊢;subst hs;intro i j hi hj;obtain rfl:j=0:=by omega
   have⟨h1,h2⟩:=aan l hx hp;simpa[aV.cell]using h2 i (by omega)
 |bG=>
  cases hx:pL l with
  |none=>simp only[hx,Option.elim]at hn hs ⊢;exact hd|some zs=>
   simp only[hx,Option.elim,aV.n,aV.size]at hn hs ⊢;subst hs;intro i j hi hj;obtain rfl:j=0:=by omega
   have⟨h1,h2⟩:=qY l hx hp;simpa[aV.cell]using h2 i (by omega)
 |au ck=>
  simp only[cond_eq_ite]at hn hs ⊢;by_cases hw:(CL.wide ck).beq size=true;simp only[hw,if_true]at hn hs ⊢;cases hx:aae ck size l 0 n with
  |none=>simp only[hx,Option.elim]at hn hs ⊢;exact hd|some zs=>
   simp only[hx,Option.elim,aV.n,aV.size]at hn hs ⊢;intro i j hi hj;have⟨h1,h2⟩:=ac4 hx;have⟨u,h3,h4⟩:=hd i j hi hj;exact⟨u,h3,h2 i hi j (by omega) O w u (by rw[zero_add];exact h4)⟩
  simp only[hw]at hn hs ⊢;exact hd
 |other=>exact hd
theorem xm{α:Type}(l:List α):∀n,(rep n l).length=n*l.length
 |0=>by simp[rep]
 |n+1=>by simp[rep,xm l n,Nat.succ_mul,Nat.add_comm]
theorem ahu{α:Type}(l:List α):∀(n k:Nat),k<n*l.length->(rep n l)[k]? =l[k%l.length]?
 |0,k,h=>by simp at h
 |n+1,k,h=>by
  simp only[rep];by_cases hk:k<l.length;rw[getElem?_append_left hk,Nat.mod_eq_of_lt hk];rw[getElem?_append_right (by omega),ahu l n (k - l.length) (by rw[Nat.succ_mul]at h;omega)];congr 1;rw[Nat.mod_eq_sub_mod (by omega:l.length<=k)]
theorem vu{z:List AV}{cs:List Value}(h:aA ρ H O w z cs):∀n,aA ρ H O w (rep n z) (rep n cs)
 |0=>aD.2 rfl|n+1=>fR.2 ⟨_,_,rfl,h,vu h n⟩
theorem ajO(zc:Array Value)(n:Nat):((Array.range (n*zc.size)).map (zc[· %zc.size]!)).toList=rep n zc.toList:=by
 apply List.ext_getElem?;intro k;simp only[Array.toList_map,Array.toList_range,getElem?_map];by_cases hk:k<n*zc.size;rw[List.getElem?_range hk,ahu _ _ _ (by simpa using hk)]
 have hz:0<zc.size:=by
  rcases Nat.eq_zero_or_pos zc.size with h0|h0;rw[h0]at hk;omega;exact h0
 have hm:k%zc.size<zc.size:=Nat.mod_lt _ hz;simp[hm];rw[getElem?_eq_none (by simp;omega),getElem?_eq_none (by rw[xm];simp;omega)];rfl
end
section
variable{ρ aN:Nat->Value}{H H':aT}{G O O':Nat->Prop}{w w':World}{P:Program}
theorem mF(hs:Sat ρ H G w){w1:World}(hw:w1.heap=w.heap)(ht:w1.tape=w.tape)(hos:w1.os=w.os)(qj:w1.output=w.output){n:Nat}(hn:H n=none){c:aV}{e:TypeId}{cells:List Value}{cap:Nat}
 (h1:c.n<=cap) (h2:cap<=maxLen) (h3:cap*c.size<=cells.length) (us:Nat->Nat->Value)
 (hd:∀i j,i<c.n->j<c.size->cells[i*c.size+j]? =some (us i j)/\aX (aW ρ H G) w (c.cell i j) (us i j)) (ua:∀u∈cells,u.oneCell'=true):
 Good ρ H G w (aC H n (.vec c e)) (.vec n) (.slice (some ⟨w.heap.size,0,none⟩) c.n cap) (w1.alloc (.cells cells.toArray e)):=by
 have rW:∀b,eZ (.slice (some ⟨w.heap.size,0,none⟩) c.n cap)=some b->b=w.heap.size:=by
  intro b hb;simp only[eZ]at hb;split at hb;cases hb;simpa using hb.symm
 have st:Step ρ H (aW ρ H G) w (λj=>if j=n then .slice (some ⟨w.heap.size,0,none⟩) c.n cap else ρ j) (aC H n (.vec c e)) (aW (λj=>if j=n then .slice (some ⟨w.heap.size,0,none⟩) c.n cap else ρ j) (aC H n (.vec c e)) G) (w1.alloc (.cells cells.toArray e)):=by
  have ne:∀j x,H j=some x->j≠n:=λj x hx e=>by subst e;rw[hn]at hx;cases hx
  refine⟨λj x hx=>by simp[ne j x hx],λj x hx=>⟨x,by simp[aC,ne j x hx,hx],λc' e' hc=>⟨c',e',hc,rfl,rfl⟩⟩,λb hb=> ?_,λb hb _=>by rw[alloc_old (by rw[hw];exact hb),hw],by rw[fW,hw];omega⟩;rcases hb with⟨j,x,hx,h1,h2⟩|hb;by_cases hj:j=n;subst hj;simp only[if_true]at h2;exact .inr (by rw[rW b h2];exact le_refl _);simp only[aC,hj,if_false]at hx h2;exact .inl (.inl ⟨j,x,hx,h1,h2⟩);exact .inl (.inr hb)
 refine Good.fresh (aa:=.slice (some ⟨w.heap.size,0,none⟩) c.n cap) hs hn hw ht hos qj rW ?_ ?_;refine⟨_,cap,rfl,h1,h2,.inr ⟨w.heap.size,0,cells,(0,0),us,rfl,by rw[<-hw];exact kI,⟨λoff _ h=>by omega,ua⟩,by omega,λi j hi hj=> ?_⟩⟩;have⟨g1,g2⟩:=hd i j hi hj;exact⟨by rw[zero_add];exact g1,g2.step st.gu st.heap st.size⟩;unfold af aO;exact⟨rfl,.vec c e,by simp[aC],λc' e' hc=>by simp⟩
theorem xn{t:TypeId}{n:Nat}{ps:Array (Nat×Operand)}{ev:Operand->AV}{e:Operand->Value}{q:bR}(h:(ov P t n (ps.toList.map λp=>(p.1,ev p.2))).eval H=some q)
 (hs:Sat ρ H G w) (hp:∀p∈ps,af ρ H (aW ρ H G) w (ev p.2) (e p.2)) {base:Nat} (hb:∀i,i<q.new.length->H (base+i)=none):
 ∃v w',(Instr.buildSlice t n (ps.map λ(i,x)=>(i,e x))).run P w=.ok v w'/\Good ρ H G w (c8 H q.up base q.new) (q.r base) v w':=by
 have hp':∀p∈ps.toList,af ρ H (aW ρ H G) w (ev p.2) (e p.2):=λp hm=>hp p (Array.mem_toList_iff.1 hm);unfold ov at h;split at h;rename_i el ht;split at h;rename_i sz z bV hz;rw[cond_eq_ite]at h;split at h;rename_i hc;simp only[and_eq_true,beq_eq]at hc;have⟨⟨c1,c2⟩,c3⟩:=hc;have c1:=le_of_ble_eq_true c1;have c2:=le_of_ble_eq_true c2;split at h;rename_i l hl;simp only[bind_eq_some_iff]at hl;have⟨ss,af0,hsv⟩:=hl;rw[cond_eq_ite]at h;split at h;rename_i hc;simp only[and_eq_true,beq_eq]at hc;have⟨⟨d1,d2⟩,d3⟩:=hc;simp only[RM.eval,Option.some.injEq]at h;subst h;have⟨i,v,hi,hv,hd⟩:=pP (ρ:=ρ) (H:=H) (O:=aW ρ H G) (w:=w) hz;have hlz:v.cells.size=sz:=by rw[<-length_toList,jG hd,c3]
 have uc:((Array.range (n*sz)).map (v.cells[· %v.cells.size]!)).toList=rep n v.cells.toList:=by rw[<-hlz];exact ajO _ _
 have⟨e9,h1,h2⟩:=wq ps.toList _ ss ((Array.range (n*sz)).map (v.cells[· %v.cells.size]!)) hp' af0 (by rw[uc];exact vu hd n);have awF:=af3 ss hsv h2;have awG:=alB awF d1 d2 d3;have hcl:e9.toList.length=n*sz:=by rw[<-awF.1,d1]
 have hn:H base=none:=by simpa using hb 0 (by simp)
 refine⟨.slice (some ⟨w.heap.size,0,none⟩) n n,w.alloc (.cells e9 el), ?_, ?_⟩;have ac5:¬(n*sz>2^24):=by omega
 have key:∀zc:Array Value,((Array.range (n*sz)).map (zc[· %zc.size]!))=((Array.range (n*sz)).map (v.cells[· %v.cells.size]!))->
  (match Instr.fill (λi=>some (i*sz,sz)) ((Array.range (n*sz)).map (zc[· %zc.size]!)) (ps.map λ(i,x)=>(i,e x)).toList with
    |some cells=>do
     let a <-newRow el cells
     pure (Value.slice (some a) n n)
    |_=>stuck "buildSlice: a part of the wrong size" :Sem Value).run P w=.ok (.slice (some ⟨w.heap.size,0,none⟩) n n) (w.alloc (.cells e9 el)):=by
  intro zc hz;rw[hz];simp only[Array.toList_map];erw [h1];simp[newRow]
 simp only[Instr.buildSlice,Sem.run_bind,run_underlying ht,Result.andThen_ok,run_sizeOf bV,ac5,if_false];by_cases h0:n*sz=0;rw[if_pos h0];simp only[Sem.run_bind,Sem.run_pure,Result.andThen_ok]
 exact key #[] (by have:Array.range (n*sz)= #[]:=by rw[h0];rfl
                   rw[this];simp)
 rw[if_neg h0];simp only[Sem.run_bind,Sem.run_pure,Result.andThen_ok,zeroValue,typeInfo,run_program,hi,hv];exact key v.cells rfl;simp only[jJ];have:=mF hs (w1:=w) rfl rfl rfl rfl hn (c:=vk (shapeOf P el) sz n l) (e:=el) (cells:=e9.toList) (cap:=n) (by omega) (by simp only[maxLen];have:n<=n*sz:=Nat.le_mul_of_pos_right n (by omega);omega) (by rw[d3,hcl];exact le_refl _)
  (λi j=>e9.toList.getD (i*sz+j) undef) (λi j hi hj=>by
    rw[d2]at hi;rw[d3]at hj ⊢;have⟨u,g1,g2⟩:=awG i j hi hj;have bq:i*sz+j<e9.toList.length:=(List.getElem?_eq_some_iff.1 g1).1;rw[iE _ _ undef bq]at g1;simp only[Option.some.injEq]at g1;exact⟨iE _ _ _ bq,by rw[g1];exact g2⟩) (λu hu=>by
    obtain⟨k,hk,rfl⟩:=List.getElem_of_mem hu;rw[hcl]at hk
    have hp:0<sz:=by rcases Nat.eq_zero_or_pos sz with h0|h0
                     rw[h0]at hk;omega;exact h0
    have⟨u,g1,g2⟩:=awG (k / sz) (k%sz) (Nat.div_lt_of_lt_mul (by rw[Nat.mul_comm];exact hk)) (Nat.mod_lt _ hp);rw[show k / sz*sz+k%sz=k from Nat.div_add_mod' k sz,getElem?_eq_getElem (by rw[hcl];exact hk)]at g1;cases g1;exact g2.one)
 simpa[d2]using this;cases h;cases h;cases h;cases h;cases h
theorem aao:∀(r ab c:Nat),c<=2*ab+192->Builtin.growBy ab r c<=2*ab+192
 |0,ab,c,h=>h|r+1,ab,c,h=>by
  unfold Builtin.growBy;split;exact h;exact aao r ab _ (by omega)
theorem nextslicecap_le{ab old:Nat}(h:old<ab):Builtin.nextslicecap ab old<=2*ab+192:=by
 unfold Builtin.nextslicecap;split;omega;split;omega;exact aao 4 ab old (by omega)
theorem growBy_four(n c:Nat):Builtin.growBy n 4 c=
 if c>=n then c else
 if c+(c+768) / 4>=n then c+(c+768) / 4 else
 if c+(c+768) / 4+(c+(c+768) / 4+768) / 4>=n then c+(c+768) / 4+(c+(c+768) / 4+768) / 4 else
 if c+(c+768) / 4+(c+(c+768) / 4+768) / 4+(c+(c+768) / 4+(c+(c+768) / 4+768) / 4+768) / 4>=n
 then c+(c+768) / 4+(c+(c+768) / 4+768) / 4+(c+(c+768) / 4+(c+(c+768) / 4+768) / 4+768) / 4 else
 c+(c+768) / 4+(c+(c+768) / 4+768) / 4+(c+(c+768) / 4+(c+(c+768) / 4+768) / 4+768) / 4+
  (c+(c+768) / 4+(c+(c+768) / 4+768) / 4+(c+(c+768) / 4+(c+(c+768) / 4+768) / 4+768) / 4+768) / 4:=rfl
theorem ud{ab old:Nat}(h:old<ab):Builtin.nextslicecap ab old<=2*ab:=by
 unfold Builtin.nextslicecap;split;omega;split;omega;rw[growBy_four]
 repeat' split
 all_goals omega
structure Src (P:Program) (O:Nat->Prop) (w:World) (size:Nat) (d:aV) (v:Value) (bN:List Value):Prop where
 len:(Builtin.lenOf v).run P w=.ok d.n w
 length:bN.length=d.n*size
 first:∀w2:World,w2.heap=w.heap->(Builtin.firstCells size d.n v).run P w2=.ok bN.toArray w2
 one:∀u∈bN,u.oneCell'=true
 den:∀i j,i<d.n->j<size->∃u,bN[i*size+j]? =some u/\aX O w (d.cell i j) u
theorem wu{size:Nat}{d:aV}{v:Value}(h:qX O w d v)(hs:d.size=size)(h1:1<=size):∃bN,Src P O w size d v bN:=by
 obtain⟨a,cap,us,rfl,g1,g2,g3⟩:=h;subst hs
 have hdm:∀m,m<d.n*d.size->m / d.size<d.n/\m%d.size<d.size:=λm hm=>
  ⟨Nat.div_lt_of_lt_mul (by rw[Nat.mul_comm];exact hm),Nat.mod_lt _ (by omega)⟩
 refine⟨(List.range (d.n*d.size)).map λm=>us (m / d.size) (m%d.size), ?_,by simp,λw2 hw2=> ?_,λu hu=> ?_,λi j hi hj=> ?_⟩;simp[Builtin.lenOf];rcases Nat.eq_zero_or_pos d.n with h0|h0;rw[h0];cases a<;>simp[Builtin.firstCells,loadCells,loadCellsFrom];obtain⟨b,o,rfl,_,hc⟩:=g3 h0;simp only[Builtin.firstCells];refine run_loadCells w2 _ _ (λm=>us (m / d.size) (m%d.size)) (λm hm=> ?_);have⟨k1,k2⟩:=hdm m hm;rw[bd];have:=(hc _ _ k1 k2).1;rw[add_assoc,show m / d.size*d.size+m%d.size=m from by rw[Nat.mul_comm];exact Nat.div_add_mod m d.size]at this;rw[<-this];simp[World.cell?,hw2];obtain⟨m,hm,rfl⟩:=mem_map.1 hu;have hm:m<d.n*d.size:=mem_range.1 hm;have⟨k1,k2⟩:=hdm m hm;obtain⟨b,o,rfl,_,hc⟩:=g3 (Nat.lt_of_le_of_lt (zero_le _) k1);exact(hc _ _ k1 k2).2.one
 have bq:i*d.size+j<d.n*d.size:=by
  have:(i+1)*d.size<=d.n*d.size:=Nat.mul_le_mul_right _ (by omega);rw[Nat.succ_mul]at this;omega
 obtain⟨b,o,rfl,_,hc⟩:=g3 (by omega);have e1:(i*d.size+j) / d.size=i:=by rw[Nat.mul_comm,Nat.mul_add_div (by omega),Nat.div_eq_of_lt hj];rfl
 have e2:(i*d.size+j)%d.size=j:=by rw[Nat.mul_comm,Nat.mul_add_mod,Nat.mod_eq_of_lt hj]
 exact⟨us i j,by rw[getElem?_map,List.getElem?_range bq];simp[e1,e2],(hc i j hi hj).2⟩
theorem apI{s:ByteArray}:∃bN,Src P O w 1 (.ah .u8 (s.data.toList.map λb=>(b.toNat:Int))) (.string s) bN:=by
 refine⟨s.data.toList.map λb=>.int .u8 b.toNat, ?_,by simp[aV.n],λw2 hw2=> ?_,λu hu=> ?_,λi j hi hj=> ?_⟩;simp[Builtin.lenOf,aV.n];simp only[Builtin.firstCells,aV.n,Sem.run_pure,length_map];congr 1;have h:s.data.toList.length=s.size:=length_toList;rw[h,ByteArray.extract_zero_size];apply toList_inj.1;rw[Array.toList_map];obtain⟨b,_,rfl⟩:=mem_map.1 hu;rfl;simp only[aV.n,length_map]at hi;obtain rfl:j=0:=by omega
 have fy:i<s.data.toList.length:=hi;refine⟨.int .u8 (s.data.toList[i].toNat),by rw[Nat.mul_one,add_zero,getElem?_map,getElem?_eq_getElem fy];rfl, ?_⟩;simp only[aV.cell]
 have:(s.data.toList.map λb=>((b.toNat:Nat):Int)).getD i 0=(s.data.toList[i].toNat:Int):=by
  rw[List.getD,getElem?_map,getElem?_eq_getElem fy];rfl
 rw[this];exact .int _ _
end
section
variable{ρ aN:Nat->Value}{H H':aT}{G O O':Nat->Prop}{w w':World}{P:Program}
theorem eV{α:Type}(xs ys:List α){lo k:Nat}(h:lo+k<=xs.length)(hk:k<=ys.length):(over xs lo k ys).length=xs.length:=by
 simp only[over,length_append,length_take,length_drop];omega
theorem kJ{α:Type}(xs ys:List α)(d:α){lo k:Nat}(h:lo+k<=xs.length)(hk:k<=ys.length)(i:Nat):
 (over xs lo k ys).getD i d=if lo<=i/\i<lo+k then ys.getD (i - lo) d else xs.getD i d:=by
 have hto:(xs.take lo).length=lo:=by simp;omega
 have hty:(ys.take k).length=k:=by simp;omega
 simp only[over,List.getD];by_cases h1:i<lo;rw[if_neg (by omega),append_assoc,getElem?_append_left (by omega),getElem?_take,if_pos h1];by_cases h2:i<lo+k;rw[if_pos (by omega),append_assoc,getElem?_append_right (by omega),hto,getElem?_append_left (by omega),getElem?_take,if_pos (by omega)];rw[if_neg (by omega),append_assoc,getElem?_append_right (by omega),hto,getElem?_append_right (by omega),hty,List.getElem?_drop];congr 2;omega
theorem ajP{α:Type}{lo i k:Nat}{a b:α}:(bif lo.ble i&&i.blt (lo+k)then a else b)=if lo<=i/\i<lo+k then a else b:=by
 rw[cond_eq_ite];congr 1;simp[Nat.blt,Nat.lt_iff_add_one_le,Nat.ble_eq]
theorem ac6{cs kc:List CK}(xs:List (CL cs))(ys:List (CL kc))(lo k:Nat)(p:aV->Prop)(h1:∀e:kc=cs,p (.au cs (over xs lo k (e▸ys))))
 (h2:p (.fh (CL.wide cs) xs.length λi j=>bif lo.ble i&&i.blt (lo+k)then(aV.au kc ys).cell (i - lo) j else(aV.au cs xs).cell i j)):p (dJ (.au cs xs) lo k (.au kc ys)):=by
 simp only[dJ];split;rename_i h _;exact h1 h.down;exact h2
theorem vv(c d:aV){lo k:Nat}(h:lo+k<=c.n)(hk:k<=d.n):
 (dJ c lo k d).n=c.n/\(dJ c lo k d).size=c.size/\∀i j,i<c.n->(dJ c lo k d).cell i j=if lo<=i/\i<lo+k then d.cell (i - lo) j else c.cell i j:=by
 have other:∀c':aV,c'=.fh c.size c.n (λi j=>bif lo.ble i&&i.blt (lo+k)then d.cell (i - lo) j else c.cell i j)->
  c'.n=c.n/\c'.size=c.size/\∀i j,i<c.n->c'.cell i j=if lo<=i/\i<lo+k then d.cell (i - lo) j else c.cell i j:=by
  rintro c' rfl;exact⟨rfl,rfl,λi j _=>ajP⟩
 cases c<;>cases d
 case ah.ah k1 xs k2 ys=>
  simp only[dJ];cases hkk:bU k1 k2;exact other _ rfl;obtain rfl:=bu hkk;simp only[aV.n]at h hk;refine⟨eV xs ys h hk,rfl,λi j _=> ?_⟩;simp only[aV.cell,kJ xs ys _ h hk,cond_true];split<;>rfl
 case strs.strs xs ys=>
  simp only[aV.n]at h hk;refine⟨eV xs ys h hk,rfl,λi j _=> ?_⟩;simp only[dJ,aV.cell,kJ xs ys _ h hk];split<;>rfl
 case bG.bG xs ys=>
  simp only[aV.n]at h hk;refine⟨eV xs ys h hk,rfl,λi j _=> ?_⟩;simp only[dJ,aV.cell,kJ xs ys _ h hk];split<;>rfl
 case au.au cs xs kc ys=>
  simp only[aV.n]at h hk;refine ac6 xs ys lo k (λc'=>c'.n=(aV.au cs xs).n/\c'.size=(aV.au cs xs).size/\∀i j,i<(aV.au cs xs).n->c'.cell i j=if lo<=i/\i<lo+k then(aV.au kc ys).cell (i - lo) j else(aV.au cs xs).cell i j) ?_ (other _ rfl);rintro rfl;refine⟨eV xs ys h hk,rfl,λi j _=> ?_⟩;simp only[aV.cell,kJ xs ys _ h hk];split<;>rfl
 all_goals exact other _ rfl
theorem Good.upd(hs:Sat ρ H G w){id:Nat}{o o':ak}(ho:H id=some o)(ha:o.alive=o'.alive)
 (tW:∀c' e',o'=.vec c' e'->∃c e,o=.vec c e/\c'.n=c.n/\c'.size=c.size) {r:AV} {v:Value}
 (dU:iA ρ (aC H id o') (aW ρ H G) w (ρ id) o') (hr:af ρ (aC H id o') (aW ρ H G) w r v):Good ρ H G w (aC H id o') r v w:=by
 have hh:=abt (ρ:=ρ) (G:=G) ho ha
 have st:Step ρ H (aW ρ H G) w ρ (aC H id o') (aW ρ (aC H id o') G) w:=by
  refine⟨λ_ _ _=>rfl,λj x hx=> ?_,λc hc=>.inl (by rw[hh]at hc;exact hc),λc hc hO=>rfl,le_refl _⟩;by_cases hj:j=id;subst hj;rw[ho]at hx;cases hx;exact⟨o',by simp[aC],tW⟩;exact⟨x,by simp[aC,hj,hx],λc' e' hc=>⟨c',e',hc,rfl,rfl⟩⟩
 refine⟨ρ,⟨λj x hx=> ?_,λi j oi oj c h1 h2 h3 h4 h5 h6=> ?_,λc hc=> ?_,hs.low⟩,by rw[hh];exact hr,st,⟨rfl,rfl,rfl,λ_ _ _=>rfl⟩⟩;by_cases hj:j=id;subst hj;simp only[aC,if_true,Option.some.injEq]at hx;subst hx;rw[hh];exact dU;have hx':H j=some x:=by simpa[aC,hj]using hx
 exact(hs.obj j x hx').step st (λ_ _ _=>rfl)
 have f:∀i oi,aC H id o' i=some oi->oi.alive=true->∃x,H i=some x/\x.alive=true:=by
  intro i oi hi xg;by_cases fy:i=id;subst fy;simp only[aC,if_true,Option.some.injEq]at hi;subst hi;exact⟨o,ho,ha.trans xg⟩;exact⟨oi,by simpa[aC,fy]using hi,xg⟩
 have⟨x,hx,hxa⟩:=f i oi h1 h3;have⟨y,hy,hya⟩:=f j oj h2 h4;exact hs.inj i j x y c hx hy hxa hya h5 h6;exact hs.apart c ((abr ho ha c).1 hc)
theorem rX(hs:Sat ρ H G w){id:Nat}{c d:aV}{e:TypeId}(ho:H id=some (.vec c e)){lo k:Nat}(hlo:lo+k<=c.n)(hk:k<=d.n)(h1:1<=c.size){bN:List Value}
 (bC:bN.length=k*c.size) (ua:∀u∈bN,u.oneCell'=true) (lQ:∀i j,i<k->j<c.size->∃u,bN[i*c.size+j]? =some u/\aX (aW ρ H G) w (d.cell i j) u):
 ∃w',(∀a cap x,ρ id=.slice a c.n cap->(k=0\/a.map (·.add (lo*c.size))=some x)->(storeCells x bN 0).run P w=.ok () w')/\(k=0->w'=w)/\
  ∀r v,(∀w2,af ρ (aC H id (.vec (dJ c lo k d) e)) (aW ρ H G) w2 r v)->Good ρ H G w (aC H id (.vec (dJ c lo k d) e)) r v w':=by
 have⟨hn,bV,oJ⟩:=vv c d hlo hk;have⟨a,cap,dL,q1,q2,q3⟩:=hs.obj id _ ho;have tW:∀c' e',ak.vec (dJ c lo k d) e=.vec c' e'->∃c1 e1,ak.vec c e=.vec c1 e1/\c'.n=c1.n/\c'.size=c1.size:=λc' e' hc=>by cases hc;exact⟨c,e,rfl,hn,bV⟩
 have hh:=abt (ρ:=ρ) (G:=G) ho (show(ak.vec c e).alive=(ak.vec (dJ c lo k d) e).alive from rfl);rcases Nat.eq_zero_or_pos k with h0|h0;subst h0;have kf:bN=[]:=List.eq_nil_of_length_eq_zero (by rw[bC];simp);subst kf;refine⟨w,λa cap x _ _=>rfl,λ_=>rfl,λr v hr=>Good.upd (o':=.vec (dJ c lo 0 d) e) hs ho rfl tW ?_ (hr w)⟩;have hc:∀i j,i<c.n->(dJ c lo 0 d).cell i j=c.cell i j:=λi j hi=>by rw[oJ i j hi,if_neg (by omega)]
 refine⟨a,cap,by rw[hn];exact dL,by omega,q2, ?_⟩;rcases q3 with q3|⟨b,o,cells,fr,us,e1,e2,e3,e4,e5⟩;exact .inl q3;exact .inr ⟨b,o,cells,fr,us,e1,e2,e3,by rw[bV];exact e4,λi j hi hj=>by rw[hn]at hi;rw[bV]at hj ⊢;rw[hc i j hi];exact e5 i j hi hj⟩;rcases q3 with q3|⟨b,o,cells,fr,us,rfl,e2,e3,e4,e5⟩;omega;have mq:eZ (ρ id)=some b:=by rw[dL];simp only[eZ];rw[if_neg (by omega)]
 have hm1:(lo+k)*c.size<=cap*c.size:=Nat.mul_le_mul_right _ (by omega);rw[add_mul]at hm1;have hl:o+lo*c.size+bN.length<=cells.length:=by omega
 have hl2:(cells.take (o+lo*c.size)++bN++cells.drop (o+lo*c.size+bN.length)).length=cells.length:=by
  simp only[length_append,length_take,length_drop];omega
 let obj:Obj:=.cells (cells.take (o+lo*c.size)++bN++cells.drop (o+lo*c.size+bN.length)).toArray e fr;refine⟨World.cF w b obj,λa' ajv x hr hx=> ?_,λh=>by omega,λr v hr=> ?_⟩;rw[dL]at hr;cases hr;rcases hx with hx|hx;omega;simp only[map_some,bd,Option.some.injEq]at hx;subst hx;have:=bY (P:=P) (o+lo*c.size) bN 0 e2 e3.unm (by omega) ua;rw[add_zero]at this;exact this;have st:=kX (G:=G) (w:=w) (o':=.vec (dJ c lo k d) e) ho rfl mq tW obj;refine Good.write hs ho rfl rfl mq tW ?_ (hr _);refine⟨some ⟨b,o,none⟩,cap,by rw[hn];exact dL,by omega,q2,.inr ⟨b,o,_,fr,λi j=>if lo<=i/\i<lo+k then bN.getD ((i - lo)*c.size+j) undef else us i j,rfl,ei e2,e3.over ua (by omega),by rw[hl2,bV];exact e4,λi j hi hj=> ?_⟩⟩;rw[hn]at hi;rw[bV]at hj ⊢;rw[oJ i j hi,aby _ _ _ hl];dsimp only;by_cases cP:lo<=i/\i<lo+k;have⟨u,g1,g2⟩:=lQ (i - lo) j (by omega) hj;have hmul:i*c.size=lo*c.size+(i - lo)*c.size:=by rw[<-add_mul];congr 1;omega
 have bq:=(List.getElem?_eq_some_iff.1 g1).1;simp only[if_pos cP];rw[if_pos (by omega),show o+i*c.size+j - (o+lo*c.size)=(i - lo)*c.size+j from by omega,g1];have:bN.getD ((i - lo)*c.size+j) undef=u:=by simp[List.getD,g1]
 rw[this];exact⟨rfl,g2.step st.gu st.heap st.size⟩;simp only[if_neg cP]
 have qj:¬(o+lo*c.size<=o+i*c.size+j/\o+i*c.size+j<o+lo*c.size+bN.length):=by
  intro hc;rcases lt_or_ge i lo with h2|h2;have:(i+1)*c.size<=lo*c.size:=Nat.mul_le_mul_right _ (by omega);rw[Nat.succ_mul]at this;omega;have:(lo+k)*c.size<=i*c.size:=Nat.mul_le_mul_right _ (by omega);rw[add_mul]at this;omega
 rw[if_neg qj];have⟨g1,g2⟩:=e5 i j hi hj;exact⟨g1,g2.step st.gu st.heap st.size⟩
end
section
variable{ρ aN:Nat->Value}{H H':aT}{G O O':Nat->Prop}{w w':World}{P:Program}
theorem nn{cs kc:List CK}(xs:List (CL cs))(ys:List (CL kc))(p:aV->Prop)(h1:∀e:kc=cs,p (.au cs (xs++e▸ys)))
 (h2:p (.fh (CL.wide cs) (xs.length+ys.length) λi j=>bif i.blt xs.length then(aV.au cs xs).cell i j else(aV.au kc ys).cell (i - xs.length) j)):p (dA (.au cs xs) (.au kc ys)):=by
 simp only[dA];split;rename_i h _;exact h1 h.down;exact h2
theorem xo(c d:aV):(dA c d).n=c.n+d.n:=by
 by_cases ht:∃cs xs kc ys,c=.au cs xs/\d=.au kc ys;obtain⟨cs,xs,kc,ys,rfl,rfl⟩:=ht;refine nn xs ys (λr=>r.n=_) (λe=> ?_) rfl;subst e;simp[aV.n];cases c<;>cases d<;>first|(exact absurd ⟨_,_,_,_,rfl,rfl⟩ ht)|skip
 all_goals simp only[dA,aV.n,length_append]
 rename_i k xs k' ys;cases bU k k'<;>simp
theorem oK(c d:aV)(h:d.size=c.size):(dA c d).size=c.size:=by
 by_cases ht:∃cs xs kc ys,c=.au cs xs/\d=.au kc ys;obtain⟨cs,xs,kc,ys,rfl,rfl⟩:=ht;exact nn xs ys (λr=>r.size=_) (λe=>by subst e;rfl) rfl;cases c<;>cases d<;>first|(exact absurd ⟨_,_,_,_,rfl,rfl⟩ ht)|skip
 all_goals simp only[dA,aV.size]at h ⊢
 rename_i k xs k' ys;cases bU k k'<;>rfl
theorem ue{α:Type}(xs ys:List α)(d:α){i:Nat}(h:i<xs.length):(xs++ys).getD i d=xs.getD i d:=by
 simp[List.getD,getElem?_append_left h]
theorem uf{α:Type}(xs ys:List α)(d:α){i:Nat}(h:¬i<xs.length):(xs++ys).getD i d=ys.getD (i - xs.length) d:=by
 simp[List.getD,getElem?_append_right (Nat.le_of_not_lt h)]
theorem xp{i n:Nat}(h:i<n):i.blt n=true:=by simpa[Nat.blt,Nat.lt_iff_add_one_le]using h
theorem ug{i n:Nat}(h:¬i<n):i.blt n=false:=by
 cases hb:i.blt n with
 |false=>rfl|true=>exact absurd (by simpa[Nat.blt,Nat.lt_iff_add_one_le]using hb) h
theorem abB(c d:aV){i:Nat}(j:Nat)(h:i<c.n):(dA c d).cell i j=c.cell i j:=by
 by_cases ht:∃cs xs kc ys,c=.au cs xs/\d=.au kc ys;obtain⟨cs,xs,kc,ys,rfl,rfl⟩:=ht;simp only[aV.n]at h;refine nn xs ys (λr=>r.cell i j=_) (λe=> ?_) ?_;subst e;simp only[aV.cell,ue _ _ _ h];simp only[aV.cell,xp h,cond_true];cases c<;>cases d<;>first|(exact absurd ⟨_,_,_,_,rfl,rfl⟩ ht)|skip
 all_goals simp only[dA,aV.cell,aV.n]at h ⊢
 all_goals first
  |(rw[ue _ _ _ h];done)
  |(simp only[xp h,cond_true];done)
  |(rename_i k xs k' ys
    cases hk:bU k k';simp only[cond_false,xp h,cond_true];simp only[cond_true,ue _ _ _ h])
theorem abC(c d:aV){i:Nat}(j:Nat)(h:¬i<c.n):(dA c d).cell i j=d.cell (i - c.n) j:=by
 by_cases ht:∃cs xs kc ys,c=.au cs xs/\d=.au kc ys;obtain⟨cs,xs,kc,ys,rfl,rfl⟩:=ht;simp only[aV.n]at h;refine nn xs ys (λr=>r.cell i j=_) (λe=> ?_) ?_;subst e;simp only[aV.cell,aV.n,uf _ _ _ h];simp only[aV.cell,aV.n,ug h,cond_false];cases c<;>cases d<;>first|(exact absurd ⟨_,_,_,_,rfl,rfl⟩ ht)|skip
 all_goals simp only[dA,aV.cell,aV.n]at h ⊢
 all_goals first
  |(rw[uf _ _ _ h];done)
  |(simp only[ug h,cond_false];done)
  |(rename_i k xs k' ys
    cases hk:bU k k';simp only[cond_false,ug h];obtain rfl:=bu hk;simp only[cond_true,uf _ _ _ h])
theorem fk{id:Nat}{o:ak}(ho:H id=some o):Step ρ H (aW ρ H G) w ρ (aC H id .ax) (aW ρ (aC H id .ax) G) w:=by
 refine⟨λ_ _ _=>rfl,λj x hx=> ?_,λb hb=> ?_,λ_ _ _=>rfl,le_refl _⟩;by_cases hj:j=id;subst hj;exact⟨.ax,by simp[aC],by simp⟩;exact⟨x,by simp[aC,hj,hx],λc' e' hc=>⟨c',e',hc,rfl,rfl⟩⟩;rcases hb with⟨j,x,hx,h1,h2⟩|hb;by_cases hj:j=id;subst hj;simp only[aC,if_true,Option.some.injEq]at hx;subst hx;simp[ak.alive]at h1;exact .inl (.inl ⟨j,x,by simpa[aC,hj]using hx,h1,h2⟩);exact .inl (.inr hb)
theorem fl{id:Nat}{b:Nat}(h:Own ρ (aC H id .ax) b):Own ρ H b:=by
 have⟨j,x,hx,h1,h2⟩:=h;by_cases hj:j=id;subst hj;simp only[aC,if_true,Option.some.injEq]at hx;subst hx;simp[ak.alive]at h1;exact⟨j,x,by simpa[aC,hj]using hx,h1,h2⟩
theorem Sat.kill(hs:Sat ρ H G w){id:Nat}{o:ak}(ho:H id=some o):Sat ρ (aC H id .ax) G w:=by
 have st:=fk (ρ:=ρ) (G:=G) (w:=w) ho;refine⟨λj x hx=> ?_,λi j oi oj b h1 h2 h3 h4 h5 h6=> ?_,λb hb=>hs.apart b (fl hb),hs.low⟩;by_cases hj:j=id;subst hj;simp only[aC,if_true,Option.some.injEq]at hx;subst hx;trivial;exact(hs.obj j x (by simpa[aC,hj]using hx)).step st (λ_ _ _=>rfl)
 have f:∀i oi,aC H id .ax i=some oi->oi.alive=true->H i=some oi:=by
  intro i oi hi xg;by_cases fy:i=id;subst fy;simp only[aC,if_true,Option.some.injEq]at hi;subst hi;simp[ak.alive]at xg;simpa[aC,fy]using hi
 exact hs.inj i j oi oj b (f i oi h1 h3) (f j oj h2 h4) h3 h4 h5 h6
theorem Good.after{H1 H2:aT}(np:Step ρ H (aW ρ H G) w ρ H1 (aW ρ H1 G) w)(ej:∀b,Own ρ H1 b->Own ρ H b){r:AV}{v:Value}(h:Good ρ H1 G w H2 r v w'):Good ρ H G w H2 r v w':=by
 have⟨aN,h1,h2,h3,h4⟩:=h;exact⟨aN,h1,h2,np.trans h3,h4.os,h4.tape,h4.output,λb hb hO=>h4.heap b hb (λhx=>hO (ej b hx))⟩
theorem uh(hs:Sat ρ H G w){n:Nat}(hn:H n=none){c:aV}{e:TypeId}(h0:c.n=0)(a:Option Addr):
 Good ρ H G w (aC H n (.vec c e)) (.vec n) (.slice a c.n 0) w:=by
 have ne:∀j x,H j=some x->j≠n:=λj x hx e=>by subst e;rw[hn]at hx;cases hx
 have hb:eZ (.slice a c.n 0)=none:=by cases a<;>simp[eZ]
 have rR:∀b,Own (λj=>if j=n then .slice a c.n 0 else ρ j) (aC H n (.vec c e)) b->Own ρ H b:=by
  rintro b ⟨j,x,hx,h1,h2⟩;by_cases hj:j=n;subst hj;simp only[if_true]at h2;rw[hb]at h2;cases h2;simp only[aC,hj,if_false]at hx h2;exact⟨j,x,hx,h1,h2⟩
 have st:Step ρ H (aW ρ H G) w (λj=>if j=n then .slice a c.n 0 else ρ j) (aC H n (.vec c e)) (aW (λj=>if j=n then .slice a c.n 0 else ρ j) (aC H n (.vec c e)) G) w:=
  ⟨λj x hx=>by simp[ne j x hx],λj x hx=>⟨x,by simp[aC,ne j x hx,hx],λc' e' hc=>⟨c',e',hc,rfl,rfl⟩⟩,λb hb=>.inl (hb.imp (rR b) id),λb hb _=>rfl,le_refl _⟩
 refine⟨_,⟨λj x hx=> ?_,λi j oi oj b h1 h2 h3 h4 h5 h6=> ?_,λb hb=>hs.apart b (rR b hb),hs.low⟩, ?_,st,rfl,rfl,rfl,λ_ _ _=>rfl⟩;by_cases hj:j=n;subst hj;simp only[aC,if_true,Option.some.injEq]at hx;subst hx;simp only[if_true];exact⟨a,0,rfl,by omega,by simp[maxLen],.inl rfl⟩;have hx':H j=some x:=by simpa[aC,hj]using hx
 simp only[hj,if_false];exact(hs.obj j x hx').step st (λ_ _ _=>rfl);by_cases hi:i=n;subst hi;simp only[if_true]at h5;rw[hb]at h5;cases h5;by_cases hj:j=n;subst hj;simp only[if_true]at h6;rw[hb]at h6;cases h6;simp only[aC,hi,hj,if_false]at h1 h2 h5 h6;exact hs.inj i j oi oj b h1 h2 h3 h4 h5 h6;unfold af aO;exact⟨rfl,.vec c e,by simp[aC],λc' e' hc=>by simp⟩
theorem aap{z:Array Value}(h:∀u∈z.toList,u.oneCell'=true)(n:Nat):∀u∈(Builtin.zeroCells z n).toList,u.oneCell'=true:=by
 intro u hu;simp only[Builtin.zeroCells,Array.toList_map,Array.toList_range,mem_map,mem_range]at hu;obtain⟨m,hm,rfl⟩:=hu
 have hp:0<z.size:=by
  rcases Nat.eq_zero_or_pos z.size with h0|h0;rw[h0]at hm;omega;exact h0
 have bq:m%z.size<z.size:=Nat.mod_lt _ hp;rw[getElem!_pos z (m%z.size) bq];exact h _ (Array.mem_toList_iff.2 (Array.getElem_mem bq))
theorem awH(hs:Sat ρ H G w){id n:Nat}{o:ak}(ho:H id=some o)(ha:o.alive=true)(hn:H n=none){b f:Nat}(hb:eZ (ρ id)=some b){c:aV}{e:TypeId}{cap:Nat}{cells:List Value}{fr:Nat×Nat}{old:Obj}
 (hold:w.heap[b]? =some old) (hu:abo fr cells) (h1:c.n<=cap) (h2:cap<=maxLen) (h3:f+cap*c.size<=cells.length) (us:Nat->Nat->Value)
 (hd:∀i j,i<c.n->j<c.size->cells[f+i*c.size+j]? =some (us i j)/\aX (aW ρ H G) w (c.cell i j) (us i j)):
 Good ρ H G w (aC (aC H id .ax) n (.vec c e)) (.vec n) (.slice (some ⟨b,f,none⟩) c.n cap) (World.cF w b (.cells cells.toArray e fr)):=by
 have ne:∀j x,H j=some x->j≠n:=λj x hx e=>by subst e;rw[hn]at hx;cases hx
 have at2:id≠n:=ne id o ho;have ej:Own ρ H b:=⟨id,o,ho,ha,hb⟩
 have rW:∀b',eZ (.slice (some ⟨b,f,none⟩) c.n cap)=some b'->b'=b:=by
  intro b' vV;simp only[eZ]at vV;split at vV;cases vV;simpa using vV.symm
 have rR:∀b',Own (λj=>if j=n then .slice (some ⟨b,f,none⟩) c.n cap else ρ j) (aC (aC H id .ax) n (.vec c e)) b'->Own ρ H b':=by
  rintro b' ⟨j,x,hx,g1,g2⟩;by_cases hj:j=n;subst hj;simp only[if_true]at g2;rw[rW b' g2];exact ej;by_cases hi:j=id;subst hi;simp only[aC,hj,if_false,if_true,Option.some.injEq]at hx;subst hx;simp[ak.alive]at g1;simp only[aC,hj,hi,if_false]at hx g2;exact⟨j,x,hx,g1,g2⟩
 have st:Step ρ H (aW ρ H G) w (λj=>if j=n then .slice (some ⟨b,f,none⟩) c.n cap else ρ j) (aC (aC H id .ax) n (.vec c e)) (aW (λj=>if j=n then .slice (some ⟨b,f,none⟩) c.n cap else ρ j) (aC (aC H id .ax) n (.vec c e)) G) (World.cF w b (.cells cells.toArray e fr)):=by
  refine⟨λj x hx=>by simp[ne j x hx],λj x hx=> ?_,λb' vV=>.inl (vV.imp (rR b') _root_.id),λb' vV hO=>jg (λe=>hO (.inl (by subst e;exact ej))),by rw[jH];exact le_refl _⟩;by_cases hi:j=id;subst hi;exact⟨.ax,by simp[aC,at2],by simp⟩;exact⟨x,by simp[aC,ne j x hx,hi,hx],λc' e' hc=>⟨c',e',hc,rfl,rfl⟩⟩
 refine⟨_,⟨λj x hx=> ?_,λi j oi oj b' g1 g2 g3 g4 g5 g6=> ?_,λb' vV=>hs.apart b' (rR b' vV),λb' vV=>by rw[jH];exact hs.low b' vV⟩, ?_,st,rfl,rfl,rfl,λb' vV hO=>jg (λe=>hO (by subst e;exact ej))⟩;by_cases hj:j=n;subst hj;simp only[aC,if_true,Option.some.injEq]at hx;subst hx;simp only[if_true];refine⟨_,cap,rfl,h1,h2,.inr ⟨b,f,cells,fr,us,rfl,ei hold,hu,h3,λi j hi hj=> ?_⟩⟩;have⟨k1,k2⟩:=hd i j hi hj;exact⟨k1,k2.step st.gu st.heap st.size⟩;by_cases hi:j=id;subst hi;simp only[aC,hj,if_false,if_true,Option.some.injEq]at hx;subst hx;trivial;have hx':H j=some x:=by simpa[aC,hj,hi]using hx
 simp only[hj,if_false];refine(hs.obj j x hx').step st (λb' xg vV=>jg (λe=>hi ?_));subst e;exact hs.inj j id x o b' hx' ho xg ha vV hb
 have f':∀i oi,aC (aC H id .ax) n (.vec c e) i=some oi->oi.alive=true->i≠n->i≠id/\H i=some oi:=by
  intro i oi hi xg cQ;by_cases fy:i=id;subst fy;simp only[aC,cQ,if_false,if_true,Option.some.injEq]at hi;subst hi;simp[ak.alive]at xg;exact⟨fy,by simpa[aC,cQ,fy]using hi⟩
 by_cases hi:i=n<;>by_cases hj:j=n;rw[hi,hj];have⟨k1,k2⟩:=f' j oj g2 g4 hj;simp only[hi,hj,if_true,if_false]at g5 g6;have:=rW b' g5;subst this;exact absurd (hs.inj j id oj o b' k2 ho g4 ha g6 hb) k1;have⟨k1,k2⟩:=f' i oi g1 g3 hi;simp only[hi,hj,if_true,if_false]at g5 g6;have:=rW b' g6;subst this;exact absurd (hs.inj i id oi o b' k2 ho g3 ha g5 hb) k1;simp only[hi,hj,if_false]at g5 g6;exact hs.inj i j oi oj b' (f' i oi g1 g3 hi).2 (f' j oj g2 g4 hj).2 g3 g4 g5 g6;unfold af aO;exact⟨rfl,.vec c e,by simp[aC],λc' e' hc=>by simp⟩
theorem gD{t t' ty e:TypeId}{i:TypeInfo}{a:Option Addr}{n cap m:Nat}{vy:Value}{bN:List Value}
 (ht:P.underlying t=some (.slice e)) (hi:P.info? e=some i) (hzero:(∃e',P.underlying t'=some (.slice e'))\/P.underlying t'=some .string)
 (bC:(Builtin.lenOf vy).run P w=.ok m w) (kY:(Builtin.firstCells i.size m vy).run P w=.ok bN.toArray w) (oL:n+m<=cap)
 (np:∀x,a=some x->(storeCells (x.add (n*i.size)) bN 0).run P w=.ok () w') (ui:a=none->w'=w):
 (Builtin.append_ #[t,t'] ty #[.slice a n cap,vy]).run P w=.ok (.slice a (n+m) cap) w':=by
 rcases hzero with⟨e',hd⟩|hd<;>cases a with
 |none=>
  rw[ui rfl];simp[Builtin.append_,run_underlying ht,run_underlying hd,sizeOf,typeInfo,hi,bC,oL,kY]
 |some x=>
  have:=np x rfl;simp[Builtin.append_,run_underlying ht,run_underlying hd,sizeOf,typeInfo,hi,bC,oL,kY,this]
theorem oM{t t' ty e:TypeId}{i:TypeInfo}{z:Value}{a:Option Addr}{n cap m:Nat}{vy:Value}{olds bN:List Value}
 (ht:P.underlying t=some (.slice e)) (hi:P.info? e=some i) (hz:i.zero=some z) (hzero:(∃e',P.underlying t'=some (.slice e'))\/P.underlying t'=some .string)
 (bC:(Builtin.lenOf vy).run P w=.ok m w) (hold:(Builtin.firstCells i.size n (.slice a n cap)).run P w.drew=.ok olds.toArray w.drew) (kY:(Builtin.firstCells i.size m vy).run P w.drew=.ok bN.toArray w.drew) (oL:¬n+m<=cap)
 (hsm:(n+m)*i.bytes<=140737488355328) (hb1:1<=i.bytes):
 ∃oN,n+m<=oN/\oN<=maxLen/\(Builtin.append_ #[t,t'] ty #[.slice a n cap,vy]).run P w=
  .ok (.slice (some ⟨w.heap.size,0,none⟩) (n+m) oN) (w.drew.alloc (.cells (olds++bN++(Builtin.zeroCells z.cells (oN - (n+m))).toList).toArray e)):=by
 have hnm:n+m<=140737488355328:=le_trans (by have:=Nat.mul_le_mul_left (n+m) hb1;omega) hsm;refine⟨grownCap w (n+m) cap e,grownCap_ge w _ _ _,grownCap_le_maxLen w _ _ _ (by simp only[maxLen];omega), ?_⟩
 have ac5:¬(281474976710656<Builtin.nextslicecap (n+m) cap*i.bytes):=by
  have h1:=ud (ab:=n+m) (old:=cap) (by omega);have h2:Builtin.nextslicecap (n+m) cap*i.bytes<=(2*(n+m))*i.bytes:=Nat.mul_le_mul_right _ h1;rw[Nat.mul_assoc]at h2;omega
 have ac7:¬(9223372036854775807<(n:Int)+(m:Int)):=by omega
 have apJ:∀X:Array Value,olds.toArray++(bN.toArray++X)=(olds++(bN++X.toList)).toArray:=λX=>by
  apply toList_inj.1;simp
 have hq:¬((Question.appendCap (n+m) cap e).forced=true):=by simp[Question.forced]
 rcases hzero with⟨e',hd⟩|hd;simp[Builtin.append_,run_underlying ht,run_underlying hd,sizeOf,typeInfo,hi,bC,oL,ac7,ac5,hold,kY,zeroValue,hz,newRow];rw[if_neg hq,apJ];rfl;simp[Builtin.append_,run_underlying ht,run_underlying hd,sizeOf,typeInfo,hi,bC,oL,ac7,ac5,hold,kY,zeroValue,hz,newRow];rw[if_neg hq,apJ];rfl
theorem apK(hs:Sat ρ H G w){id:Nat}{c:aV}{e:TypeId}(ho:H id=some (.vec c e)):qX (aW ρ H G) w c (ρ id):=by
 have⟨a,cap,h1,h2,h3,h4⟩:=hs.obj id _ ho;rcases h4 with rfl|⟨b,o,cells,fr,us,rfl,h5,h6,h7,h8⟩;exact⟨a,0,λ_ _=>undef,h1,h2,h3,λh0=>by omega⟩;refine⟨_,cap,us,h1,h2,h3,λ_=>⟨b,o,rfl,(Array.getElem?_eq_some_iff.1 h5).1,λi j hi hj=> ?_⟩⟩;have⟨h9,vW⟩:=h8 i j hi hj;exact⟨by rw[dg h5];exact h9,vW⟩
theorem alC{sh:Shape}{size:Nat}{x:AV}{k:aV->Option Nat->RM bR}{v:Value}{q:bR}(h:(aaf sh size x k).eval H=some q)(hs:Sat ρ H G w)(hd:af ρ H (aW ρ H G) w x v)(h1:1<=size):
 ∃c idy,(k c idy).eval H=some q/\(c.size=size->∃bN,Src P (aW ρ H G) w size c v bN):=by
 unfold aaf at h;split at h;rename_i s;obtain rfl:=fJ hd;refine⟨_,_,h,λbV=> ?_⟩;simp only[aV.size]at bV;subst bV;exact apI;have⟨c,idy,h2,h3⟩:=xi h hs hd;exact⟨c,idy,h2,λbV=>wu h3 bV h1⟩
theorem uj{c d:aV}{size:Nat}{olds bN rest:List Value}(hc:c.size=size)(hdz:d.size=size)(_h1:1<=size)(ho:olds.length=c.n*size)(_hn:bN.length=d.n*size)
 (h2:∀i j,i<c.n->j<size->∃u,olds[i*size+j]? =some u/\aX O w (c.cell i j) u) (h3:∀i j,i<d.n->j<size->∃u,bN[i*size+j]? =some u/\aX O w (d.cell i j) u) (pre:List Value):
 ∀i j,i<(dA c d).n->j<(dA c d).size->(pre++(olds++bN++rest))[pre.length+i*(dA c d).size+j]? =some ((pre++(olds++bN++rest)).getD (pre.length+i*(dA c d).size+j) undef)/\
  aX O w ((dA c d).cell i j) ((pre++(olds++bN++rest)).getD (pre.length+i*(dA c d).size+j) undef):=by
 intro i j hi hj;have bV:(dA c d).size=size:=by rw[oK c d (by omega),hc]
 rw[xo]at hi;rw[bV]at hj ⊢
 have key:∃u,(pre++(olds++bN++rest))[pre.length+i*size+j]? =some u/\aX O w ((dA c d).cell i j) u:=by
  rw[add_assoc,getElem?_append_right (by omega),Nat.add_sub_cancel_left,append_assoc];by_cases bq:i<c.n;have⟨u,g1,g2⟩:=h2 i j bq hj;refine⟨u, ?_,by rw[abB c d j bq];exact g2⟩;rw[getElem?_append_left (List.getElem?_eq_some_iff.1 g1).1];exact g1;have⟨u,g1,g2⟩:=h3 (i - c.n) j (by omega) hj;refine⟨u, ?_,by rw[abC c d j bq];exact g2⟩;have hm:c.n*size+(i - c.n)*size=i*size:=by rw[<-add_mul];congr 1;omega
  rw[getElem?_append_right (by omega)];rw[show i*size+j - olds.length=(i - c.n)*size+j from by omega];rw[getElem?_append_left (List.getElem?_eq_some_iff.1 g1).1];exact g1
 have⟨u,g1,g2⟩:=key;have bq:=(List.getElem?_eq_some_iff.1 g1).1;have g1':=g1;rw[iE _ _ undef bq]at g1';simp only[Option.some.injEq]at g1';exact⟨iE _ _ _ bq,by rw[g1'];exact g2⟩
theorem af4{t t' ty:TypeId}{x y:AV}{vx vy:Value}{q:bR}(h:(abj P t x y).eval H=some q)(hn:bK q.ab)(hs:Sat ρ H G w)
 (hx:af ρ H (aW ρ H G) w x vx) (hy:af ρ H (aW ρ H G) w y vy) (hzero:(∃e',P.underlying t'=some (.slice e'))\/P.underlying t'=some .string) {base:Nat} (hb:∀i,i<q.new.length->H (base+i)=none):
 ∃v w',(Builtin.append_ #[t,t'] ty #[vx,vy]).run P w=.ok v w'/\Good ρ H G w (c8 H q.up base q.new) (q.r base) v w':=by
 unfold abj at h;split at h;rename_i e ht;split at h;rename_i i hi;simp only[]at h;rw[cond_eq_ite]at h;split at h;rename_i hc;simp only[and_eq_true]at hc;have⟨⟨⟨c1,cb⟩,c2⟩,c3⟩:=hc;have c1:=le_of_ble_eq_true c1;have cb:=le_of_ble_eq_true cb
 obtain⟨z,hz,hzs,hz1⟩:∃z,i.zero=some z/\z.cells.size=i.size/\∀u∈z.cells.toList,u.oneCell'=true:=by
  cases hz:i.zero with
  |none=>simp[hz]at c3|some z=>
   simp only[hz,Option.any_some,and_eq_true,beq_iff_eq,all_eq_true]at c3;exact⟨z,rfl,c3.1,c3.2⟩
 have⟨d,idy,h1,qk⟩:=alC (P:=P) h hs hy c1;rw[cond_eq_ite]at h1;split at h1;rename_i hds;have hds:d.size=i.size:=by simpa using hds
 have⟨bN,src⟩:=qk hds;split at h1;simp only[RM.eval,Option.some.injEq]at h1;subst h1;have ke:H base=none:=by simpa using hb 0 (by simp)
 have hsm:d.n*i.bytes<=140737488355328:=hn.1;unfold af at hx;obtain⟨a,rfl⟩:=hx;simp only[jJ];by_cases hm:d.n=0;have kf:bN=[]:=List.eq_nil_of_length_eq_zero (by rw[src.length,hm];simp);refine⟨.slice a (0+d.n) 0,w,gD ht hi hzero src.len (src.first w rfl) (by omega) (λx _=>by rw[kf];rfl) (λ_=>rfl), ?_⟩;rw[zero_add];exact uh hs ke hm a;have⟨oN,g1,g2,g3⟩:=oM (ty:=ty) (olds:=[]) (a:=a) (n:=0) (cap:=0) ht hi hz hzero src.len (by cases a<;>simp[Builtin.firstCells,loadCells,loadCellsFrom]) (src.first w.drew rfl) (by omega) (by rw[zero_add];exact hsm) cb;refine⟨_,_,g3, ?_⟩;rw[zero_add]at *;simp only[nil_append];refine mF (w1:=w.drew) hs rfl rfl rfl rfl ke g1 g2 ?_ (λi' j'=>(bN++(Builtin.zeroCells z.cells (oN - d.n)).toList).getD (i'*d.size+j') undef) (λi' j' fy ku=> ?_) (λu hu=>(mem_append.1 hu).elim (src.one u) (aap hz1 _ u));simp only[length_append,src.length,length_toList,size_zeroCells,hzs,hds];rw[<-add_mul];exact Nat.mul_le_mul_right _ (by omega);have⟨u,k1,k2⟩:=src.den i' j' fy (by omega);rw[<-hds]at k1;have bq:=(List.getElem?_eq_some_iff.1 k1).1;have k3:(bN++(Builtin.zeroCells z.cells (oN - d.n)).toList)[i'*d.size+j']? =some u:=by rw[getElem?_append_left bq];exact k1
 have k4:=k3;rw[iE _ _ undef (List.getElem?_eq_some_iff.1 k3).1]at k4;simp only[Option.some.injEq]at k4;rw[k4];exact⟨k3,k2⟩;rename_i idx;simp only[RM.eval]at h1;split at h1;rename_i c e' ho;rw[cond_eq_ite]at h1;split at h1;rename_i hc;simp only[and_eq_true,beq_eq]at hc;obtain⟨⟨qZ,rfl⟩,_⟩:=hc;simp only[RM.eval,Option.some.injEq]at h1;subst h1;have ke:H base=none:=by simpa using hb 0 (by simp)
 have hsm:(c.n+d.n)*i.bytes<=140737488355328:=hn.1;have ac8:idx≠base:=λe=>by rw[<-e,ho]at ke;cases ke
 unfold af aO at hx;have⟨_,o,dI,hv⟩:=hx;rw[ho]at dI;cases dI;obtain rfl:=hv c e' rfl;have⟨olds,xq⟩:=wu (P:=P) (apK hs ho) qZ c1;have⟨a,cap,r1,r2,r3,r4⟩:=hs.obj idx _ ho;have hcd:d.size=c.size:=by omega
 have apL:=oK c d hcd;have han:=xo c d;have hmul:(c.n+d.n)*i.size=c.n*i.size+d.n*i.size:=add_mul _ _ _;simp only[ajE _ _ _ _ ac8];by_cases oL:c.n+d.n<=cap;rcases r4 with rfl|⟨b,o,cells,fr,us,rfl,q1,q2,q3,q4⟩
 have hd0:d.n=0:=by omega
 have kf:bN=[]:=List.eq_nil_of_length_eq_zero (by rw[src.length,hd0];simp);refine⟨.slice a (c.n+d.n) 0,w,by rw[r1];exact gD ht hi hzero src.len (src.first w rfl) oL (λx _=>by rw[kf];rfl) (λ_=>rfl), ?_⟩;have st:=fk (ρ:=ρ) (G:=G) (w:=w) ho;refine Good.after st (λb hb=>fl hb) ?_;rw[<-han];exact uh (hs.kill ho) (by simp[aC,Ne.symm ac8,ke]) (by omega) a;by_cases zB:cap=0;subst zB;have hd0:d.n=0:=by omega
 have kf:bN=[]:=List.eq_nil_of_length_eq_zero (by rw[src.length,hd0];simp);refine⟨.slice (some ⟨b,o,none⟩) (c.n+d.n) 0,w,by rw[r1];exact gD ht hi hzero src.len (src.first w rfl) oL (λx _=>by rw[kf];rfl) (λ_=>rfl), ?_⟩;have st:=fk (ρ:=ρ) (G:=G) (w:=w) ho;refine Good.after st (λb hb=>fl hb) ?_;rw[<-han];exact uh (hs.kill ho) (by simp[aC,Ne.symm ac8,ke]) (by omega) _;have mq:eZ (ρ idx)=some b:=by rw[r1];simp[eZ,zB]
 have aBq:(c.n+d.n)*i.size<=cap*i.size:=Nat.mul_le_mul_right _ oL;have bC:o+c.n*i.size+bN.length<=cells.length:=by rw[src.length];rw[qZ]at q3;omega
 refine⟨.slice (some ⟨b,o,none⟩) (c.n+d.n) cap,World.cF w b (.cells (cells.take (o+c.n*i.size)++bN++cells.drop (o+c.n*i.size+bN.length)).toArray e' fr), ?_, ?_⟩;rw[r1];refine gD ht hi hzero src.len (src.first w rfl) oL (λx hx=> ?_) (λhx=>by cases hx);cases hx;rw[bd];have:=bY (P:=P) (o+c.n*i.size) bN 0 q1 q2.unm (by omega) src.one;simpa using this;rw[<-han]
 have hl2:(cells.take (o+c.n*i.size)++bN++cells.drop (o+c.n*i.size+bN.length)).length=cells.length:=by
  simp only[length_append,length_take,length_drop];omega
 have at3:cells.take (o+c.n*i.size)++bN++cells.drop (o+c.n*i.size+bN.length)=cells.take o++((cells.drop o).take (c.n*i.size)++bN++cells.drop (o+c.n*i.size+bN.length)):=by
  rw[List.take_add];simp only[append_assoc]
 have hto:(cells.take o).length=o:=by simp;omega
 refine awH hs ho rfl ke mq q1 (q2.over src.one bC) (by omega) r3 (by rw[hl2,apL];exact q3) (λi' j'=>(cells.take o++((cells.drop o).take (c.n*i.size)++bN++cells.drop (o+c.n*i.size+bN.length))).getD ((cells.take o).length+i'*(dA c d).size+j') undef) (λi' j' fy ku=> ?_)
 have:=uj (O:=aW ρ H G) (w:=w) (c:=c) (d:=d) (size:=i.size) (olds:=(cells.drop o).take (c.n*i.size)) (bN:=bN) (rest:=cells.drop (o+c.n*i.size+bN.length)) qZ hds c1 (by simp;omega) src.length (λi2 j2 hi2 wv=>by
  have⟨k1,k2⟩:=q4 i2 j2 hi2 (by omega);refine⟨_, ?_,k2⟩
  have hb2:i2*i.size+j2<c.n*i.size:=by
   have:(i2+1)*i.size<=c.n*i.size:=Nat.mul_le_mul_right _ (by omega);rw[Nat.succ_mul]at this;omega
  rw[getElem?_take,if_pos hb2,List.getElem?_drop,<-add_assoc];rw[qZ]at k1;exact k1) src.den (cells.take o) i' j' fy ku
 rw[at3];rw[hto]at this ⊢;exact this;have⟨oN,g1,g2,g3⟩:=oM (ty:=ty) (olds:=olds) (a:=a) (n:=c.n) (cap:=cap) ht hi hz hzero src.len (by rw[<-r1];exact xq.first w.drew rfl) (src.first w.drew rfl) oL hsm cb;refine⟨_,_,by rw[r1];exact g3, ?_⟩;have st:=fk (ρ:=ρ) (G:=G) (w:=w) ho;refine Good.after st (λb hb=>fl hb) ?_;rw[<-han];refine mF (w1:=w.drew) (hs.kill ho) rfl rfl rfl rfl (by simp[aC,Ne.symm ac8,ke]) (by omega) g2 ?_ (λi' j'=>(olds++bN++(Builtin.zeroCells z.cells (oN - (dA c d).n)).toList).getD (i'*(dA c d).size+j') undef) (λi' j' fy ku=> ?_) (λu hu=>(mem_append.1 hu).elim (λhu=>(mem_append.1 hu).elim (xq.one u) (src.one u)) (aap hz1 _ u));simp only[length_append,src.length,xq.length,length_toList,size_zeroCells,hzs,apL,qZ,han];rw[<-add_mul,<-add_mul];exact Nat.mul_le_mul_right _ (by omega);have:=uj (O:=aW ρ H G) (w:=w) (c:=c) (d:=d) (size:=i.size) (olds:=olds) (bN:=bN) (rest:=(Builtin.zeroCells z.cells (oN - (dA c d).n)).toList) qZ hds c1 xq.length src.length xq.den src.den [] i' j' fy ku;simp only[nil_append,length_nil,zero_add]at this;exact⟨this.1,this.2.step st.gu st.heap st.size⟩;cases h1;cases h1;rename_i idx lo n;simp only[RM.eval]at h1;split at h1;rename_i c e' ho;rw[cond_eq_ite]at h1;split at h1;rename_i qZ;have qZ:c.size=i.size:=by simpa using qZ
 simp only[RM.eval,Option.some.injEq]at h1;subst h1;have oL:lo+n+d.n<=c.n:=hn.1;obtain⟨g0,a,cap,a',g1,g2,g3,rfl,g4,g5⟩:=jI hs ho hx;have⟨w',k1,k2,k3⟩:=rX (P:=P) hs ho (lo:=lo+n) (k:=d.n) (d:=d) oL (le_refl _) (by omega) (bN:=bN) (by rw[src.length,qZ]) src.one (λi' j' fy ku=>by rw[qZ]at *;exact src.den i' j' fy ku);have⟨z1,z2,_⟩:=vv c d oL (le_refl _);refine⟨.slice a' (n+d.n) (cap - lo),w',gD ht hi hzero src.len (src.first w rfl) (by omega) (λx hx=> ?_) (λhx=> ?_), ?_⟩;refine k1 a cap _ g1 ?_;by_cases h0:d.n=0;exact .inl h0;refine .inr ?_;have cQ:cap≠lo:=by omega
 rw[g4 cQ]at hx;obtain⟨b,o,rfl⟩:=g5 (by omega);simp only[map_some,bd,Option.some.injEq]at hx ⊢;subst hx;rw[bd,qZ,add_mul,add_assoc];refine k2 ?_;by_cases cQ:cap=lo;omega;rw[g4 cQ]at hx;obtain⟨b,o,rfl⟩:=g5 (by omega);cases hx;simp only[gg];refine k3 _ _ (λw2=> ?_);unfold af aO;refine⟨rfl,.vec (dJ c (lo+n) d.n d) e',by simp[aC],λc1 e1 hc=> ?_⟩;cases hc;exact⟨by rw[z1];omega,a,cap,a',by rw[z1];exact g1,by omega,rfl,by rw[z2];exact g4⟩;cases h1;cases h1;cases h1;cases h1;cases h;cases h;cases h
end
section
variable{P:Program}{w:World}{b:Nat}{es:Array MapEntry}{clock:Nat}{ck:CK}{m:List (Int×ck.V)}
theorem jF.get(h:jF ck m es.toList clock){j:Nat}{e:MapEntry}(hj:es.toList[j]? =some e):∃k v,m[j]? =some (k,v)/\e.key=.int .i64 k/\e.val=ck.val v:=by
 have h1:=congrArg (λl=>l[j]?) h.eq;simp only[getElem?_map,hj,map_some]at h1;cases hm:m[j]? with
 |none=>rw[hm]at h1;cases h1
 |some p=>
  rw[hm]at h1;simp only[map_some,Option.some.injEq,Prod.mk.injEq]at h1;exact⟨p.1,p.2,rfl,h1.1,h1.2⟩
theorem jF.key(h:jF ck m es.toList clock):∀e∈es.toList,MapKept.IsKey (.int .i64) e.key:=by
 intro e he;have⟨j,hj⟩:=List.getElem?_of_mem he;have⟨k,v,_,h2,_⟩:=h.get hj;rw[h2];rfl
theorem q7{V:Type}:∀{m:List (Int×V)} {j:Nat} {k:Int} {v:V},(m.map (·.1)).Nodup->m[j]? =some (k,v)->m.find? (λp=>p.1==k)=some (k,v)
 |[],j,k,v,_,h=>by simp at h
 |p::m,0,k,v,hn,h=>by
  simp only[List.getElem?_cons_zero,Option.some.injEq]at h;subst h;simp
 |p::m,j+1,k,v,hn,h=>by
  simp only[List.getElem?_cons_succ]at h;simp only[map_cons,List.nodup_cons]at hn
  have cQ:(p.1==k)=false:=by
   rw[beq_eq_false_iff_ne];rintro rfl;exact hn.1 (mem_map.2 ⟨_,List.mem_of_getElem? h,rfl⟩)
  rw[List.find?_cons,cQ];exact q7 hn.2 h
theorem ajQ{V:Type}{m:List (Int×V)}{k:Int}(h:∀p∈m,p.1≠k):m.find? (λp=>p.1==k)=none:=
 List.find?_eq_none.2 λp hp=>by simpa using h p hp
theorem jF.find(h:jF ck m es.toList clock){kt:TypeId}(hk:P.underlying kt=some (.int .i64))(n:Int):
 ((Instr.findKey kt (.int .i64 n) es.toList).run P w=.ok none w/\ct m n=none/\om m n=false)\/
 ∃j e v,(Instr.findKey kt (.int .i64 n) es.toList).run P w=.ok (some (j,ck.val v)) w/\es.toList[j]? =some e/\e.key=.int .i64 n/\e.val=ck.val v/\m[j]? =some (n,v)/\ct m n=some v/\om m n=true:=by
 rcases MapKept.findNow_spec (d:=.int .i64) (k:=.int .i64 n) rfl es.toList 0 h.key with⟨h1,h2⟩|⟨j,e,h1,h2,h3⟩
 have ui:∀p∈m,p.1≠n:=by
  intro p hp e;have⟨j,hj⟩:=List.getElem?_of_mem hp;have bC:es.toList.length=m.length:=by have:=congrArg List.length h.eq;simpa using this
  have bq:j<es.toList.length:=by rw[bC];exact(List.getElem?_eq_some_iff.1 hj).1
  have⟨k,v,g1,g2,_⟩:=h.get (getElem?_eq_getElem bq);rw[hj]at g1;cases g1;exact h2 _ (getElem_mem bq) (by rw[g2];exact congrArg _ e)
 refine .inl ⟨MapKept.run_findKey hk h1,by simp[ct,ajQ ui], ?_⟩;simp only[om,List.any_eq_false,beq_iff_eq];exact ui;have⟨k,v,g1,g2,g3⟩:=h.get h2;rw[h3]at g2;cases g2;rw[zero_add]at h1;refine .inr ⟨j,e,v,by rw[<-g3];exact MapKept.run_findKey hk h1,h2,h3,g3,g1,by simp[ct,q7 h.keys g1], ?_⟩;simp only[om,List.any_eq_true,beq_iff_eq];exact⟨_,List.mem_of_getElem? g1,rfl⟩
theorem af5(h:jF ck m es.toList clock)(hb:w.heap[b]? =some (.map es clock)){t kt et:TypeId}(ht:P.underlying t=some (.map kt et))(hk:P.underlying kt=some (.int .i64)){z:Value}(hz:(zeroValue et).run P w=.ok z w)(n:Int)(ok:Bool):
 (Instr.lookup t (.map (some b)) (.int .i64 n) ok).run P w=.ok (if ok=true then .tuple #[((ct m n).map ck.val).getD z,.bool (om m n)]else((ct m n).map ck.val).getD z) w:=by
 have hc:=MapKept.run_checkKey (w:=w) hk (k:=.int .i64 n) rfl es.isEmpty 9999;rcases h.find (w:=w) hk n with⟨h1,h2,h3⟩|⟨j,e,v,h1,_,_,_,_,h2,h3⟩;simp[Instr.lookup,run_underlying ht,MapKept.run_getObj_map hb,hc,h1,h2,h3,hz,Result.andThen];simp[Instr.lookup,run_underlying ht,MapKept.run_getObj_map hb,hc,h1,h2,h3,Result.andThen]
theorem stays(n:Int):(Instr.keyThatStays (.int .i64 n) (.int .i64 n)).run P w=.ok (.int .i64 n) w:=by
 simp[Instr.keyThatStays,Instr.sameBits]
theorem rY(m:List (Int×ck.V))(k:Int)(v:ck.V):((m.map λp=>if p.1==k then(k,v)else p).map (·.1))=m.map (·.1):=by
 rw[List.map_map];refine List.map_congr_left λp _=> ?_;simp only[Function.comp];by_cases h:p.1==k;rw[if_pos h];exact(beq_iff_eq.1 h).symm;rw[if_neg h]
theorem jF.put(h:jF ck m es.toList clock){n:Int}{v:ck.V}(hv:ck.fits v):
 (om m n=false->jF ck (mu m n v) (es.push {key:=.int .i64 n,val:=ck.val v,born:=clock}).toList (clock+1))/\
 ∀(j:Nat) (e:MapEntry),es.toList[j]? =some e->e.key=.int .i64 n->om m n=true->
  jF ck (mu m n v) (es.modify j λe=>{e with key:=.int .i64 n,val:=ck.val v}).toList clock:=by
 constructor;intro ui;have azq:∀p∈m,p.1≠n:=by simpa[om]using ui
 unfold mu;rw[if_neg (by rw[ui];simp)];refine⟨?_, ?_, ?_, ?_, ?_⟩;simp only[Array.toList_push,map_append,h.eq,map_cons,map_nil];rw[map_append,nodup_append];refine⟨h.keys,by simp,λa ha b hb=> ?_⟩;simp only[map_cons,map_nil,mem_singleton]at hb;obtain⟨p,hp,rfl⟩:=mem_map.1 ha;rw[hb];exact azq p hp;rw[Array.toList_push,map_append,nodup_append];refine⟨h.xa,by simp,λa ha b hb=> ?_⟩;simp only[map_cons,map_nil,mem_singleton]at hb;obtain⟨e,he,rfl⟩:=mem_map.1 ha;have:=h.old e he;omega;intro e he;rw[Array.toList_push,mem_append]at he;rcases he with he|he;have:=h.old e he;omega;rw[mem_singleton.1 he];exact Nat.lt_succ_self _;intro p hp;rcases mem_append.1 hp with hp|hp;exact h.fits p hp;rw[mem_singleton.1 hp];exact hv;intro j e hj he azr;have⟨k,u,g1,g2,g3⟩:=h.get hj;rw[he]at g2;cases g2;have bq:j<es.toList.length:=(List.getElem?_eq_some_iff.1 hj).1;unfold mu;rw[if_pos azr]
 have azt:(es.modify j λe=>{e with key:=.int .i64 n,val:=ck.val v}).toList=es.toList.set j {e with key:=.int .i64 n,val:=ck.val v}:=by
  refine List.ext_getElem? λi=> ?_;simp only[Array.toList_modify,List.getElem?_modify,getElem?_set];by_cases lR:j=i;subst lR;have atZ:j<es.size:=by simpa using bq
  rw[hj];simp[atZ];simp[lR]
 rw[azt]
 have oG:(m.map λp=>if p.1==n then(n,v)else p)=m.set j (n,v):=by
  refine List.ext_getElem? λi=> ?_;rw[getElem?_map,getElem?_set];by_cases lR:j=i;subst lR;have at4:j<m.length:=(List.getElem?_eq_some_iff.1 g1).1;rw[g1];simp[at4];rw[if_neg lR];cases hm:m[i]? with
  |none=>rfl|some p=>
   have cQ:(p.1==n)=false:=by
    rw[beq_eq_false_iff_ne];intro e1;have⟨hi1,hi2⟩:=List.getElem?_eq_some_iff.1 hm;have⟨hj1,wv⟩:=List.getElem?_eq_some_iff.1 g1;refine lR ((List.getElem_inj (h₀:=by simpa using hj1) (h₁:=by simpa using hi1) h.keys).1 ?_);simp only[List.getElem_map,hi2,wv,e1]
   rw[map_some,cQ];rfl
 refine⟨?_,by rw[rY];exact h.keys, ?_, ?_, ?_⟩;rw[oG,List.map_set,List.map_set,h.eq];rw[List.map_set]
 have:(es.toList.map (·.born)).set j e.born=es.toList.map (·.born):=by
  refine List.ext_getElem? λi=> ?_;rw[getElem?_set];by_cases lR:j=i;subst lR;rw[if_pos rfl,if_pos (by simpa using bq),getElem?_map,hj];rfl;rw[if_neg lR]
 rw[this];exact h.xa;intro x hx;rcases List.mem_or_eq_of_mem_set hx with hx|rfl;exact h.old x hx;exact h.old e (List.mem_of_getElem? hj);intro p hp;obtain⟨q,hq,rfl⟩:=mem_map.1 hp;split;exact hv;exact h.fits q hq
theorem zD(h:jF ck m es.toList clock)(hb:w.heap[b]? =some (.map es clock)){t kt et:TypeId}(ht:P.underlying t=some (.map kt et))(hk:P.underlying kt=some (.int .i64))(n:Int){v:ck.V}(hv:ck.fits v):
 ∃mG xr,(Instr.mapUpdate t (.map (some b)) (.int .i64 n) (ck.val v)).run P w=.ok () {w with heap:=w.heap.setIfInBounds b (.map mG xr)}/\jF ck (mu m n v) mG.toList xr:=by
 have hc:=MapKept.run_checkKey (w:=w) hk (k:=.int .i64 n) rfl false 9999;rcases h.find (w:=w) hk n with⟨h1,h2,h3⟩|⟨j,e,u,h1,g1,g2,g3,g4,h2,h3⟩;exact⟨_,_,by simp[Instr.mapUpdate,run_underlying ht,MapKept.run_getObj_map hb,hc,h1,Result.andThen,MapKept.run_setObj_map _ hb],(h.put hv).1 h3⟩
 have azu:((es[j]?).map (·.key)).getD (.int .i64 n)=.int .i64 n:=by
  rw[show es[j]? =some e from by rw[<-Array.getElem?_toList];exact g1];exact g2
 refine⟨_,_, ?_,(h.put hv).2 j e g1 g2 h3⟩;simp[Instr.mapUpdate,run_underlying ht,MapKept.run_getObj_map hb,hc,h1,Result.andThen,MapKept.run_setObj_map _ hb,azu,stays]
end
section
variable{ρ aN:Nat->Value}{H H':aT}{G O O':Nat->Prop}{w w':World}{P:Program}
theorem ac9{t:TypeId}(h:ahr P t=true):P.underlying t=some (.int .i64):=by
 unfold ahr at h;split at h;assumption;cases h
theorem ajR{t:TypeId}{ck:CK}(h:w8 P t ck=true):(zeroValue t).run P w=.ok (ck.val ck.d) w/\ck.fits ck.d:=by
 have key:∀v,(P.info? t).bind (·.zero)=some v->(zeroValue t).run P w=.ok v w:=by
  intro v hv;have⟨i,h1,h2⟩:=bind_eq_some_iff.1 hv;simp[zeroValue,typeInfo,h1,h2]
 unfold w8 at h;rw[and_eq_true]at h
 replace h:=h.2
 split at h;rename_i k' k hz;obtain rfl:=bu h;exact⟨key _ hz,trivial⟩;rename_i hz;exact⟨key _ hz,trivial⟩;rename_i s hz
 have:s=empty:=by
  have:=Nat.eq_of_beq_eq_true h;have⟨⟨l⟩⟩:=s;cases l with
  |nil=>rfl|cons a l=>simp[ByteArray.size]at this
 subst this;exact⟨key _ hz,trivial⟩;rename_i cs k n hz;simp only[and_eq_true]at h;have h1:=oI k _ h.1;have h2:=Nat.eq_of_beq_eq_true h.2;refine⟨?_,by show(replicate n (0:Int)).length=n;simp⟩;rw[key _ hz];congr 1;show Value.agg cs=.agg ((replicate n (0:Int)).map (Value.int k)).toArray;rw[<-h2,<-h1];cases h
theorem abD{ck:CK}{v:ck.V}(h:ck.fits v)(hp:ck.av v≠.s .aZ):af ρ H O w (ck.av v) (ck.val v):=by
 cases ck with
 |int k=>exact aF (.int _ _)|bool=>exact aF (.bool _)|str=>exact aF (.str _)|arr k n=>
  show af ρ H O w (.ah k n v) _;unfold af;exact⟨h,rfl⟩
 |_=>exact(hp rfl).elim
theorem rZ{t:TypeId}{ck:CK}(h:w8 P t ck=true)(v:ck.V):ck.av v≠.s .aZ:=by
 unfold w8 at h;rw[and_eq_true]at h
 replace h:=h.1
 cases ck<;>first
  |(cases h;done)
  |(intro e;cases e;done)
theorem abE(hs:Sat ρ H G w){id b:Nat}{ck:CK}{m:List (Int×ck.V)}(ho:H id=some (.map ck m))(hb:ρ id=.map (some b)):∃es clock,w.heap[b]? =some (.map es clock)/\jF ck m es.toList clock:=by
 have⟨b',es,clock,h1,h2,h3⟩:=hs.obj id _ ho;rw[hb]at h1;cases h1;exact⟨es,clock,h2,h3⟩
theorem ajS{ck:CK}{m:List (Int×ck.V)}(h:∀p∈m,ck.fits p.2){n:Int}{v:ck.V}(hv:ct m n=some v):ck.fits v:=by
 simp only[ct,map_eq_some_iff]at hv;obtain⟨p,hp,rfl⟩:=hv;exact h p (List.mem_of_find?_eq_some hp)
theorem af6{t:TypeId}{x i:AV}{ok:Bool}{vx vi:Value}{q:bR}(h:(abk P t x i ok).eval H=some q)(hn:bK q.ab)(hs:Sat ρ H G w)(hx:af ρ H (aW ρ H G) w x vx)(hi:af ρ H (aW ρ H G) w i vi):
 fC P ρ H (aW ρ H G) w q (Instr.lookup t vx vi ok):=by
 unfold abk at h;split at h;rename_i kt et id k lit n ht oE;rw[cond_eq_ite]at h;split at h;rename_i hk;simp only[and_eq_true]at hk;obtain rfl:=ow hk.2;obtain rfl:=cq oE hi;simp only[RM.eval]at h;split at h;rename_i ck m ho;rw[cond_eq_ite]at h;split at h;rename_i hz;unfold af aO at hx;obtain⟨b,hb,rfl,_⟩:=hx;have⟨es,clock,h1,h2⟩:=abE hs ho hb;have⟨hz1,hz2⟩:=ajR (w:=w) hz;have jh:=af5 h2 h1 ht (ac9 hk.1) hz1 n ok
 have kZ:af ρ H (aW ρ H G) w (ck.av ((ct m n).getD ck.d)) (((ct m n).map ck.val).getD (ck.val ck.d)):=by
  cases hg:ct m n with
  |none=>exact abD hz2 (rZ hz _)|some v=>exact abD (ajS h2.fits hg) (rZ hz _)
 refine aP h (λ_=>⟨_,jh, ?_⟩) hn;cases ok;exact kZ;simp only[cond_true,if_true];unfold af;exact⟨[_,_],rfl,aE.2 ⟨_,_,rfl,kZ,aE.2 ⟨_,_,rfl,aF (.bool _),ba.2 rfl⟩⟩⟩;cases h;cases h;cases h;cases h
theorem at5{ck:CK}{a:AV}{y:ck.V}{v:Value}(h:ck.rdv a=some y)(hd:af ρ H O w a v):v=ck.val y/\ck.fits y:=by
 cases ck with
 |int k=>
  simp only[CK.rdv]at h;split at h;rw[cond_eq_ite]at h;split at h;rename_i hk;obtain rfl:=bu hk;cases h;have:=ay (by simp) hd;cases this;exact⟨rfl,trivial⟩;cases h;rw[cond_eq_ite]at h;split at h;rename_i hk;obtain rfl:=bu hk;cases h;have:=ay (by simp) hd;cases this;exact⟨rfl,trivial⟩;cases h;cases h
 |bool=>
  simp only[CK.rdv]at h;split at h;cases h;have:=ay (by simp) hd;cases this;exact⟨rfl,trivial⟩;cases h;have:=ay (by simp) hd;cases this;exact⟨rfl,trivial⟩;cases h
 |str=>
  simp only[CK.rdv]at h;split at h;cases h;have:=ay (by simp) hd;cases this;exact⟨rfl,trivial⟩;cases h
 |arr k n=>
  simp only[CK.rdv]at h;split at h;rw[cond_eq_ite]at h;split at h;rename_i hk;simp only[and_eq_true]at hk;obtain rfl:=bu hk.1;obtain rfl:=Nat.eq_of_beq_eq_true hk.2;cases h;unfold af at hd;exact⟨hd.2,hd.1⟩;cases h;cases h
 |_=>cases h
theorem qx{t:TypeId}{x i a:AV}{vx vi va:Value}{q:bR}(h:(qT P t x i a).eval H=some q)(hs:Sat ρ H G w)(hx:af ρ H (aW ρ H G) w x vx)(hi:af ρ H (aW ρ H G) w i vi)(ha:af ρ H (aW ρ H G) w a va):
 ∃w',(Instr.mapUpdate t vx vi va).run P w=.ok () w'/\∀base,Good ρ H G w (c8 H q.up base q.new) (q.r base) undef w':=by
 unfold qT at h;split at h;rename_i kt et id k lit n ht oE;rw[cond_eq_ite]at h;split at h;rename_i hk;simp only[and_eq_true]at hk;obtain rfl:=ow hk.2;obtain rfl:=cq oE hi;simp only[RM.eval]at h;split at h;rename_i ck m ho;split at h;rename_i y hy;simp only[RM.eval,Option.some.injEq]at h;subst h;obtain⟨rfl,hf⟩:=at5 hy ha;unfold af aO at hx;obtain⟨b,hb,rfl,_⟩:=hx;have⟨es,clock,h1,h2⟩:=abE hs ho hb;have⟨mG,xr,h3,h4⟩:=zD h2 h1 ht (ac9 hk.1) n hf;refine⟨_,h3,λbase=> ?_⟩;simp only[gg];exact Good.write hs ho rfl rfl (by rw[hb];rfl) (λ_ _ hc=>by cases hc) ⟨b,mG,xr,hb,ei h1,h4⟩ cC;cases h;cases h;cases h;cases h
theorem ada{t:TypeId}{r:Option AV}{q:bR}(h:(w9 P t r).eval H=some q)(hs:Sat ρ H G w){base:Nat}(hb:∀i,i<q.new.length->H (base+i)=none):
 r=none/\∃v w',(Instr.makeMap t none).run P w=.ok v w'/\Good ρ H G w (c8 H q.up base q.new) (q.r base) v w':=by
 unfold w9 at h;split at h;split at h;rename_i ck _;simp only[RM.eval,Option.some.injEq]at h;subst h;have hn:H base=none:=by simpa using hb 0 (by simp)
 refine⟨rfl,.map (some w.heap.size),w.alloc (.map #[] 0),RowKit.run_makeMap .., ?_⟩;simp only[jJ];refine Good.fresh hs hn (aa:=.map (some w.heap.size)) (w1:=w) rfl rfl rfl rfl (λb hb=>by simpa[eZ]using hb.symm) ⟨w.heap.size,#[],0,rfl,(MapKept.heap_alloc w _).1,⟨rfl,by simp,by simp,by simp,by simp⟩⟩ ?_;unfold af aO;exact⟨w.heap.size,by simp,rfl,by simp[aC]⟩;cases h;cases h
end
section
variable{ρ aN:Nat->Value}{H H':aT}{G O O':Nat->Prop}{w w':World}{P:Program}
structure at6 (P:Program) (O:Nat->Prop) (w:World) (size k:Nat) (d:aV) (v:Value) (bN:List Value):Prop where
 length:bN.length=k*size
 first:(Builtin.firstCells size k v).run P w=.ok bN.toArray w
 one:∀u∈bN,u.oneCell'=true
 den:∀i j,i<k->j<size->∃u,bN[i*size+j]? =some u/\aX O w (d.cell i j) u
theorem alD{size k:Nat}{d:aV}{v:Value}(h:qX O w d v)(hs:d.size=size)(h1:1<=size)(hk:k<=d.n):∃bN,at6 P O w size k d v bN:=by
 obtain⟨a,cap,us,rfl,g1,g2,g3⟩:=h;have hn:(dT d 0 k).n=k:=by rw[pO d (zero_le _) hk];omega
 have bV:=kq d 0 k;have oJ:∀i j,i<k->(dT d 0 k).cell i j=d.cell i j:=λi j hi=>by rw[kr d j (by omega),zero_add]
 have hr:qX O w (dT d 0 k) (.slice a k cap):=by
  refine⟨a,cap,us,by rw[hn],by rw[hn];omega,g2,λh0=> ?_⟩;rw[hn]at h0;have⟨b,o,e1,e2,e3⟩:=g3 (by omega);refine⟨b,o,e1,e2,λi j hi hj=> ?_⟩;rw[hn]at hi;rw[bV]at hj ⊢;rw[oJ i j hi];exact e3 i j (by omega) hj
 have⟨bN,src⟩:=wu (P:=P) hr (by rw[bV];exact hs) h1;refine⟨bN,by rw[src.length,hn], ?_,src.one,λi j hi hj=> ?_⟩;have:=src.first w rfl;rw[hn]at this;rw[<-this];cases a<;>rfl;have⟨u,e1,e2⟩:=src.den i j (by rw[hn];exact hi) hj;rw[oJ i j hi]at e2;exact⟨u,e1,e2⟩
theorem alE{s:ByteArray}{k:Nat}(hk:k<=s.data.toList.length):∃bN,at6 P O w 1 k (.ah .u8 (s.data.toList.map λb=>(b.toNat:Int))) (.string s) bN:=by
 refine⟨(s.data.toList.take k).map λb=>.int .u8 b.toNat,by rw[length_map,length_take];omega, ?_,λu hu=> ?_,λi j hi hj=> ?_⟩;simp only[Builtin.firstCells,Sem.run_pure];congr 1;apply toList_inj.1;rw[Array.toList_map];simp[ByteArray.data_extract];obtain⟨b,_,rfl⟩:=mem_map.1 hu;rfl;obtain rfl:j=0:=by omega
 have fy:i<s.data.toList.length:=by omega
 refine⟨.int .u8 (s.data.toList[i].toNat),by rw[Nat.mul_one,add_zero,getElem?_map,getElem?_take,if_pos hi,getElem?_eq_getElem fy];rfl, ?_⟩;simp only[aV.cell]
 have:(s.data.toList.map λb=>((b.toNat:Nat):Int)).getD i 0=(s.data.toList[i].toNat:Int):=by
  rw[List.getD,getElem?_map,getElem?_eq_getElem fy];rfl
 rw[this];exact .int _ _
theorem ajT{sh:Shape}{size:Nat}{x:AV}{k:aV->Option Nat->RM bR}{v:Value}{q:bR}(h:(aaf sh size x k).eval H=some q)(hs:Sat ρ H G w)(hd:af ρ H (aW ρ H G) w x v)(h1:1<=size):
 ∃c idy,(k c idy).eval H=some q/\(c.size=size->(Builtin.lenOf v).run P w=.ok c.n w/\∀m,m<=c.n->∃bN,at6 P (aW ρ H G) w size m c v bN):=by
 unfold aaf at h;split at h;rename_i s;obtain rfl:=fJ hd;refine⟨_,_,h,λbV=> ?_⟩;simp only[aV.size]at bV;subst bV;refine⟨by simp[Builtin.lenOf,aV.n],λm hm=>alE (by simpa[aV.n]using hm)⟩;have⟨c,idy,h2,h3⟩:=xi h hs hd;refine⟨c,idy,h2,λbV=>⟨?_,λm hm=>alD h3 bV h1 hm⟩⟩;obtain⟨a,cap,us,rfl,_⟩:=h3;simp[Builtin.lenOf]
theorem mH{t t' ty e:TypeId}{sz:Nat}{a:Option Addr}{n cap m:Nat}{vy:Value}{bN:List Value}(ht:P.underlying t=some (.slice e))(hs:dY P e=some sz)
 (bC:(Builtin.lenOf vy).run P w=.ok m w) (kY:(Builtin.firstCells sz (min m n) vy).run P w=.ok bN.toArray w)
 (np:∀x,a=some x->(storeCells x bN 0).run P w=.ok () w') (ui:a=none->w'=w):
 (Builtin.copy_ #[t,t'] ty #[.slice a n cap,vy]).run P w=.ok (.int .i64 ((min m n:Nat):Int)) w':=by
 have hf:(Builtin.firstCells sz (Nat.min m n) vy).run P w=.ok bN.toArray w:=kY;cases a with
 |none=>
  rw[ui rfl];simp[Builtin.copy_,run_underlying ht,run_sizeOf hs,bC,hf];rfl
 |some x=>
  have:=np x rfl;simp[Builtin.copy_,run_underlying ht,run_sizeOf hs,bC,hf,this];rfl
theorem alF{t t' ty:TypeId}{x y:AV}{vx vy:Value}{q:bR}(h:(alk P t x y).eval H=some q)(hs:Sat ρ H G w)
 (hx:af ρ H (aW ρ H G) w x vx) (hy:af ρ H (aW ρ H G) w y vy):
 ∃v w',(Builtin.copy_ #[t,t'] ty #[vx,vy]).run P w=.ok v w'/\∀base,Good ρ H G w (c8 H q.up base q.new) (q.r base) v w':=by
 unfold alk at h;split at h;rename_i e ht;split at h;rename_i sz bV;rw[cond_eq_ite]at h;split at h;rename_i h1;have h1:=le_of_ble_eq_true h1;have⟨d,idy,h2,qk⟩:=ajT (P:=P) h hs hy h1;rw[cond_eq_ite]at h2;split at h2;rename_i hds;have hds:d.size=sz:=by simpa using hds
 have⟨bC,kf⟩:=qk hds;split at h2;rename_i id;simp only[RM.eval]at h2;split at h2;rename_i c e' ho;rw[cond_eq_ite]at h2;split at h2;rename_i qZ;have qZ:c.size=sz:=by simpa using qZ
 simp only[RM.eval,Option.some.injEq]at h2;subst h2;have⟨bN,src⟩:=kf (min d.n c.n) (Nat.min_le_left _ _);obtain⟨a,cap,rfl,hr,hle,_⟩:=iD hs ho hx;have dU:=hs.obj id _ ho;rw[hr]at dU;have⟨a2,qW,g1,_,_,g4⟩:=dU;cases g1;have⟨w',k1,k2,k3⟩:=rX (P:=P) hs ho (lo:=0) (k:=min d.n c.n) (d:=d) (by omega) (by omega) (by omega) (bN:=bN) (by rw[src.length,qZ]) src.one (λi' j' fy ku=>by rw[qZ]at *;exact src.den i' j' fy ku);refine⟨_,w',mH ht bV bC src.first (λx hx=> ?_) (λhx=> ?_),λbase=> ?_⟩;refine k1 a cap _ hr ?_;subst hx;rcases g4 with g4|⟨b,o,_,_,_,g5,_⟩;exact .inl (by omega);cases g5;exact .inr (by simp[bd]);refine k2 ?_;subst hx;rcases g4 with g4|⟨b,o,_,_,_,g5,_⟩;omega;cases g5;simp only[gg];exact k3 _ _ (λw2=>aF (.int _ _));cases h2;cases h2
 rename_i id lo n;simp only[RM.eval]at h2;split at h2;rename_i c e' ho;rw[cond_eq_ite]at h2;split at h2;rename_i qZ;have qZ:c.size=sz:=by simpa using qZ
 simp only[RM.eval,Option.some.injEq]at h2;subst h2;have⟨bN,src⟩:=kf (min d.n n) (Nat.min_le_left _ _);obtain⟨g0,a,cap,a',g1,g2,g3,rfl,g4,g5⟩:=jI hs ho hx;have⟨w',k1,k2,k3⟩:=rX (P:=P) hs ho (lo:=lo) (k:=min d.n n) (d:=d) (by omega) (by omega) (by omega) (bN:=bN) (by rw[src.length,qZ]) src.one (λi' j' fy ku=>by rw[qZ]at *;exact src.den i' j' fy ku);refine⟨_,w',mH ht bV bC src.first (λx hx=> ?_) (λhx=> ?_),λbase=> ?_⟩;refine k1 a cap _ g1 ?_;by_cases cQ:cap=lo;exact .inl (by omega);exact .inr (by rw[<-g4 cQ];exact hx);refine k2 ?_;by_cases cQ:cap=lo;omega;rw[g4 cQ]at hx;obtain⟨b,o,rfl⟩:=g5 (by omega);cases hx;simp only[gg];exact k3 _ _ (λw2=>aF (.int _ _));cases h2;cases h2;cases h2;cases h2;cases h;cases h;cases h
theorem mI(sh:Shape)(n:Nat):(dK sh n).n=n:=by cases sh<;>simp[dK,aV.n]
theorem abF(sh:Shape)(n m:Nat):(dK sh n).size=(dK sh m).size:=by cases sh<;>rfl
theorem abG(sh:Shape){n i:Nat}(j:Nat)(hi:i<n):(dK sh n).cell i j=(dK sh 1).cell 0 j:=by
 cases sh<;>simp only[dK,aV.cell,List.getD,List.getElem?_replicate,hi,Nat.zero_lt_one,if_true]
theorem apM{x:SV}{v:Value}(h:atO x v=true):aX O w x v:=by
 unfold atO at h;split at h;simp only[and_eq_true,beq_iff_eq]at h;obtain⟨h1,rfl⟩:=h;obtain rfl:=bu h1;exact .int _ _;simp only[beq_iff_eq]at h;subst h;exact .bool _;rename_i s s';simp only[and_eq_true,beq_eq]at h
 have e:∀t:ByteArray,t.size=0->t=empty:=λt ht=>by
  cases t with
  |mk d=>
   have:d= #[]:=Array.size_eq_zero_iff.1 ht;subst this;rfl
 rw[e s h.1,e s' h.2];exact .str _;rename_i c;have h:c.n=0:=by simpa using h
 have:=aX.ro (O:=O) (w:=w) c none 0 (λ_ _=>undef) 0 0 (by omega) (zero_le _) (λh=>by omega) (λi j hi hj=>by omega) (λi j hi hj=>by omega);rwa[h]at this;cases h
theorem lY{sh:Shape}{z:List Value}(h:gC sh z=true)(n:Nat):(dK sh n).size=z.length/\∀i j,i<n->j<z.length->∃u,z[j]? =some u/\aX O w ((dK sh n).cell i j) u:=by
 simp only[gC,and_eq_true,beq_eq,all_eq_true,mem_range]at h;refine⟨by rw[abF sh n 1];exact h.1,λi j hi hj=>⟨z[j],getElem?_eq_getElem hj, ?_⟩⟩;rw[abG sh j hi];have:=apM (O:=O) (w:=w) (h.2 j hj);simpa[List.getD,getElem?_eq_getElem hj]using this
theorem mh{z:Array Value}(n:Nat){i j:Nat}(hi:i<n)(hj:j<z.size):(Builtin.zeroCells z n).toList[i*z.size+j]? =z.toList[j]? :=by
 have bq:i*z.size+j<n*z.size:=by
  have:(i+1)*z.size<=n*z.size:=Nat.mul_le_mul_right _ (by omega);rw[Nat.succ_mul]at this;omega
 have e2:(i*z.size+j)%z.size=j:=by rw[Nat.mul_comm,Nat.mul_add_mod,Nat.mod_eq_of_lt hj]
 simp[Builtin.zeroCells,bq,e2,hj]
theorem alG{z:List Value}{sh:Shape}(h:gC sh z=true):∀u∈z,u.oneCell'=true:=by
 intro u hu;obtain⟨j,hj,rfl⟩:=List.getElem_of_mem hu;have⟨_,h2⟩:=lY (O:=λ_=>False) (w:=default) h 1;have⟨u,e1,e2⟩:=h2 0 j (by omega) hj;rw[getElem?_eq_getElem hj]at e1;cases e1;exact e2.one
theorem jx{z:Array Value}{sh:Shape}(h:gC sh z.toList=true)(n:Nat):∀u∈(Builtin.zeroCells z n).toList,u.oneCell'=true:=by
 intro u hu;simp only[Builtin.zeroCells,Array.toList_map,Array.toList_range,mem_map,mem_range]at hu;obtain⟨m,hm,rfl⟩:=hu
 have hp:0<z.size:=by
  rcases Nat.eq_zero_or_pos z.size with h0|h0;rw[h0]at hm;omega;exact h0
 have bq:m%z.size<z.size:=Nat.mod_lt _ hp;rw[getElem!_pos z (m%z.size) bq];exact alG h _ (Array.mem_toList_iff.2 (Array.getElem_mem bq))
theorem ajU{t e ty:TypeId}{z:Value}(ht:P.underlying t=some (.slice e))(hz:∀w,(zeroValue e).run P w=.ok z w){a:Option Addr}{n cap:Nat}(np:∀x,a=some x->(storeCells x (Builtin.zeroCells z.cells n).toList 0).run P w=.ok () w')
 (ui:(a=none\/n=0)->w'=w):(Builtin.clear_ #[t] ty #[.slice a n cap]).run P w=.ok (.tuple #[]) w':=by
 cases a with
 |none=>
  rw[ui (.inl rfl)];simp[Builtin.clear_,run_underlying ht]
 |some x=>
  cases n with
  |zero=>
   rw[ui (.inr rfl)];simp[Builtin.clear_,run_underlying ht]
  |succ n=>
   have:=np x rfl;simp[Builtin.clear_,run_underlying ht,hz,this]
theorem ajV{t ty:TypeId}{ts:List TypeId}{x:AV}{vx:Value}{q:bR}(h:(afQ P t x).eval H=some q)(hs:Sat ρ H G w)(hx:af ρ H (aW ρ H G) w x vx):
 ∃v w',(Builtin.clear_ (t::ts).toArray ty #[vx]).run P w=.ok v w'/\∀base,Good ρ H G w (c8 H q.up base q.new) (q.r base) v w':=by
 have hts:(Builtin.clear_ (t::ts).toArray ty #[vx])=(Builtin.clear_ #[t] ty #[vx]):=by
  simp[Builtin.clear_]
 rw[hts];unfold afQ at h;split at h;rename_i e id lo n ht;split at h;rename_i i hi;rw[cond_eq_ite]at h;split at h;rename_i hc;simp only[and_eq_true]at hc;have⟨c1,c2⟩:=hc;have c1:=le_of_ble_eq_true c1
 obtain⟨z,hz,hzf,hzs⟩:∃z,i.zero=some z/\gC (shapeOf P e) z.cells.toList=true/\z.cells.size=i.size:=by
  cases hz:i.zero with
  |none=>simp[hz]at c2|some z=>
   simp only[hz,Option.any_some,and_eq_true,beq_iff_eq]at c2;exact⟨z,rfl,c2.1,c2.2⟩
 have hzv:∀w,(zeroValue e).run P w=.ok z w:=λw=>by simp[zeroValue,typeInfo,hi,hz]
 simp only[RM.eval]at h;split at h;rename_i c e' ho;rw[cond_eq_ite]at h;split at h;rename_i qZ;have qZ:c.size=i.size:=by simpa using qZ
 simp only[RM.eval,Option.some.injEq]at h;subst h;obtain⟨g0,a,cap,a',g1,g2,g3,rfl,g4,g5⟩:=jI hs ho hx;have⟨y1,y2⟩:=lY (O:=aW ρ H G) (w:=w) hzf n
 have⟨w',k1,k2,k3⟩:=rX (P:=P) hs ho (lo:=lo) (k:=n) (d:=dK (shapeOf P e) n) (by omega) (by rw[mI];exact le_refl _) (by omega) (bN:=(Builtin.zeroCells z.cells n).toList) (by rw[length_toList,size_zeroCells,hzs,qZ]) (jx hzf n) (λi' j' fy ku=>by
  rw[qZ]at ku ⊢;have⟨u,e1,e2⟩:=y2 i' j' fy (by rw[length_toList,hzs];exact ku);refine⟨u, ?_,e2⟩;rw[<-hzs,mh n fy (by omega)];exact e1)
 refine⟨_,w',ajU ht hzv (λx hx=> ?_) (λhx=> ?_),λbase=> ?_⟩;refine k1 a cap _ g1 ?_;by_cases cQ:cap=lo;exact .inl (by omega);exact .inr (by rw[<-g4 cQ];exact hx);refine k2 ?_;rcases hx with hx|hx;by_cases cQ:cap=lo;omega;rw[g4 cQ]at hx;obtain⟨b,o,rfl⟩:=g5 (by omega);cases hx;exact hx;simp only[gg];exact k3 _ _ (λw2=>cC);cases h;cases h;cases h;cases h;rename_i kt et id ht;simp only[RM.eval]at h;split at h;rename_i ck m ho;simp only[RM.eval,Option.some.injEq]at h;subst h;unfold af aO at hx;obtain⟨b,hb,rfl,_⟩:=hx;have⟨es,clock,h1,h2⟩:=abE hs ho hb;refine⟨.tuple #[],World.cF w b (.map #[] clock), ?_,λbase=> ?_⟩;have e1:(getObj b).run P w=.ok (.map es clock) w:=by simp[getObj,Sem.run,h1]
 have e2:(setObj b (.map #[] clock)).run P w=.ok () (World.cF w b (.map #[] clock)):=by simp[setObj,Sem.run,World.cF,h1]
 simp only[Builtin.clear_,List.getElem?_toArray,List.getElem?_cons_zero,Sem.run_bind,run_underlying ht,Result.andThen_ok,e1,e2,Sem.run_pure];simp only[gg];refine Good.write hs ho rfl rfl (by rw[hb];rfl) (λc' e' hc=>by cases hc) ?_ cC;exact⟨b,#[],clock,hb,ei h1,⟨rfl,List.nodup_nil,List.nodup_nil,λe he=>by simp at he,λp hp=>by simp at hp⟩⟩;cases h;cases h
theorem run_makeSlice{t e:TypeId}{i:TypeInfo}{z:Value}(ht:P.underlying t=some (.slice e))(hi:P.info? e=some i)(hz:i.zero=some z)(hzs:z.cells.size=i.size)(h1:1<=i.size)(hby:i.bytes<=256)
 {k k':IntKind} {l c:Int} (h0:0<=l) (hlc:l<=c) (hc:c<=1073741824):
 ∃w1:World,(w1.heap=w.heap/\w1.tape=w.tape/\w1.os=w.os/\w1.output=w.output)/\
 (Instr.makeSlice t (.int k l) (.int k' c)).run P w=.ok (.slice (some ⟨w.heap.size,0,none⟩) l.toNat c.toNat) (w1.alloc (.cells (Builtin.zeroCells z.cells c.toNat).toList.toArray e)):=by
 refine⟨w,⟨rfl,rfl,rfl,rfl⟩, ?_⟩;have e1:i64.wrap l=l:=cu ⟨by omega,by omega⟩;have e2:i64.wrap c=c:=cu ⟨by omega,by omega⟩
 have ac5:¬(281474976710656<(i.bytes:Int)*c):=by
  have h3:(i.bytes:Int)*c<=256*c:=Int.mul_le_mul_of_nonneg_right (by omega) (by omega);omega
 have hl0:¬l<0:=by omega
 have hc0:¬c<0:=by omega
 have azv:¬l>c:=by omega
 simp[Instr.makeSlice,run_underlying ht,typeInfo,sizeOf,hi,e1,e2,hl0,hc0,azv,ac5,zeroValue,hz,newRow,asInt,asIntOf];have nX:Builtin.zeroCells z.cells c.toNat=(Array.range (c.toNat*i.size)).map λx=>z.cells[x%z.cells.size]! :=by simp[Builtin.zeroCells,hzs]
 rw[nX];by_cases h0:c.toNat*i.size=0;have hr:∀f:Nat->Value,Array.map f (Array.range 0)= #[]:=λf=>by simp
 rw[if_pos h0,h0,hr,hr];rw[if_neg h0]
theorem zE{t:TypeId}{l c:AV}{vl vc:Value}{q:bR}(h:(qS P t l c).eval H=some q)(hn:bK q.ab)(hs:Sat ρ H G w)(hl:af ρ H (aW ρ H G) w l vl)(hc:af ρ H (aW ρ H G) w c vc)
 {base:Nat} (hb:∀i,i<q.new.length->H (base+i)=none):∃v w',(Instr.makeSlice t vl vc).run P w=.ok v w'/\Good ρ H G w (c8 H q.up base q.new) (q.r base) v w':=by
 unfold qS at h;split at h;rename_i e k lit l k' aBx c ht h1 h2;obtain rfl:=cq h1 hl;obtain rfl:=cq h2 hc;split at h;rename_i i hi;rw[cond_eq_ite]at h;split at h;rename_i hc;simp only[and_eq_true]at hc;have⟨⟨c1,c2⟩,c3⟩:=hc;have c1:=le_of_ble_eq_true c1;have c2:=le_of_ble_eq_true c2
 obtain⟨z,hz,hzf,hzs⟩:∃z,i.zero=some z/\gC (shapeOf P e) z.cells.toList=true/\z.cells.size=i.size:=by
  cases hz:i.zero with
  |none=>simp[hz]at c3|some z=>
   simp only[hz,Option.any_some,and_eq_true,beq_iff_eq]at c3;exact⟨z,rfl,c3.1,c3.2⟩
 simp only[RM.eval,Option.some.injEq]at h;subst h;have⟨n1,n2,n3,_⟩:=hn;have ke:H base=none:=by simpa using hb 0 (by simp)
 have⟨w1,⟨a1,a2,a3,a4⟩,jh⟩:=run_makeSlice (w:=w) (k:=k) (k':=k') ht hi hz hzs c1 c2 n1 n2 n3;refine⟨_,_,jh, ?_⟩;simp only[jJ];have⟨y1,y2⟩:=lY (O:=aW ρ H G) (w:=w) hzf l.toNat;have:=mI (shapeOf P e) l.toNat
 have key:=mF (w1:=w1) (e:=e) (c:=dK (shapeOf P e) l.toNat) (cap:=c.toNat) hs a1 a2 a3 a4 ke (cells:=(Builtin.zeroCells z.cells c.toNat).toList) (by omega) (by simp only[maxLen];omega) (by
  rw[y1,length_toList,length_toList,size_zeroCells]
  exact le_refl _) (λi' j'=>(Builtin.zeroCells z.cells c.toNat).toList.getD (i'*(dK (shapeOf P e) l.toNat).size+j') undef) (λi' j' fy ku=>by
   rw[this]at fy;rw[y1,length_toList]at ku ⊢;have⟨u,e1,e2⟩:=y2 i' j' fy (by rw[length_toList];exact ku);have hg:=mh (z:=z.cells) c.toNat (i:=i') (by omega) ku;rw[e1]at hg;have:(Builtin.zeroCells z.cells c.toNat).toList.getD (i'*z.cells.size+j') undef=u:=by simp[List.getD,hg]
   rw[this];exact⟨hg,e2⟩)
 rw[this]at key;exact key (jx hzf _);cases h;cases h;cases h
end
end Go.Sx
