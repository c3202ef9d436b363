/- Lemmas: SxKind, SxBase, SxExec, SxPure, SxSat, SxMem, SxHeap, SxLoad, SxRead, SxSlice, SxStore, SxNew, SxBuild, SxBuild2, SxAppend, SxOver, SxAppend2, SxMap, SxMapOp, SxPart. -/
import Derived.WalkKit
import Derived.WalkSpells
import Derived.MapKept
import Derived.Carry
open Go.IntKind (i64 u64 u8)
open Array (length_toList toList_inj)
open Bool (and_eq_true cond_eq_ite not_eq_true')
open ByteArray (empty ext)
open List (all_cons all_eq_true append_assoc append_nil cons_append getElem?_append_left getElem?_append_right getElem?_eq_getElem getElem?_eq_none getElem?_map getElem?_set getElem?_take getElem_mem length_append length_cons length_drop length_map length_nil length_take map_append map_cons map_nil mem_append mem_map mem_range mem_singleton nil_append nodup_append replicate take_of_length_le)
open Nat (add_assoc add_mul add_zero beq_eq le_of_ble_eq_true le_refl lt_or_ge zero_add zero_le)
open Option (bind_eq_some_iff getD_some isSome_iff_exists map_eq_some_iff map_some)
noncomputable section
namespace Go.Sx
open Go
inductive CK where
 |int (k:IntKind)|bool|str|af (k:IntKind)|strs|bS|rows (cs:List CK)|arr (k:IntKind) (n:Nat)
mutual
def CK.V:CK->Type
 |.int _=>Int|.bool=>Bool|.str=>ByteArray|.af _=>List Int|.strs=>List ByteArray|.bS=>List Bool|.rows cs=>List (CL cs)|.arr _ _=>List Int
def CL:List CK->Type
 |[]=>Unit|c::cs=>c.V×CL cs
end
def CK.d:(c:CK)->c.V
 |.int _=>(0:Int)|.bool=>false|.str=>empty|.af _=>([]:List Int)|.strs=>([]:List ByteArray)|.bS=>([]:List Bool)|.rows cs=>([]:List (CL cs))|.arr _ n=>replicate n (0:Int)
def CL.d:(cs:List CK)->CL cs
 |[]=>()|c::cs=>(c.d,CL.d cs)
def CK.wide:CK->Nat
 |.arr _ n=>n|_=>1
def CL.wide:List CK->Nat
 |[]=>0|c::cs=>c.wide+CL.wide cs
def kEq(a b:IntKind):Option (PLift (a=b)):=if h:a=b then some ⟨h⟩else none
mutual
def CK.eq:(a b:CK)->Option (PLift (a=b))
 |.int k,.int k'=>(kEq k k').map λh=>⟨congrArg CK.int h.down⟩|.bool,.bool=>some ⟨rfl⟩|.str,.str=>some ⟨rfl⟩|.af k,.af k'=>(kEq k k').map λh=>⟨congrArg CK.af h.down⟩|.strs,.strs=>some ⟨rfl⟩|.bS,.bS=>some ⟨rfl⟩|.rows a,.rows b=>(CL.eq a b).map λh=>⟨congrArg CK.rows h.down⟩|.arr k n,.arr k' n'=>if h:n=n' then(kEq k k').map λh'=>⟨by rw[h,h'.down]⟩else none
 |_,_=>none
def CL.eq:(a b:List CK)->Option (PLift (a=b))
 |[],[]=>some ⟨rfl⟩|a::aT,b::bs=>match CK.eq a b,CL.eq aT bs with
  |some h,some h'=>some ⟨by rw[h.down,h'.down]⟩
  |_,_=>none
 |_,_=>none
end
def abD{a b:List CK}(h:PLift (a=b))(xs:List (CL a)):List (CL b):=h.down▸xs
def fi{V:Type}(m:List (Int×V))(k:Int):Option V:=(m.find? λp=>p.1==k).map (·.2)
def nH{V:Type}(m:List (Int×V))(k:Int):Bool:=m.any λp=>p.1==k
def js{V:Type}(m:List (Int×V))(k:Int)(v:V):List (Int×V):=if nH m k=true then m.map λp=>if p.1==k then(k,v)else p else m++[(k,v)]
theorem yp{a:List CK}(h:PLift (a=a))(xs:List (CL a)):abD h xs=xs:=rfl
mutual
inductive SV where
 |bm|bool (b:Bool)|aN (b:Bool)|kG (n:Nat) (eq:Bool)|r7 (k:IntKind)|int (k:IntKind) (n:Int)|aO (k:IntKind) (n:Int)|str (s:ByteArray)|pS|aee|aef|aeg|pT|qF (f:FuncId)|ifi (t:TypeId) (k:IntKind) (n:Int)|ifs (t:TypeId) (s:ByteArray)|ifb (t:TypeId) (b:Bool)|raw (v:Value) (zs:List Int)|ro (c:ba)|zM (c:ba) (k:Nat)|nj (k:Nat)|px (k:Nat)
inductive ba where
 |af (k:IntKind) (zs:List Int)|strs (ss:List ByteArray)|bS (bs:List Bool)|ah (cs:List CK) (xs:List (CL cs))|eM (size n:Nat) (get:Nat->Nat->SV)
end
def ba.n:ba->Nat
 |.af _ zs=>zs.length|.strs ss=>ss.length|.bS bs=>bs.length|.ah _ xs=>xs.length|.eM _ n _=>n
def ba.size:ba->Nat
 |.af .. |.strs _|.bS _=>1|.ah cs _=>CL.wide cs|.eM s _ _=>s
def CK.cell:(c:CK)->c.V->Nat->SV
 |.int k,x,_=>.int k x|.bool,x,_=>.bool x|.str,x,_=>.str x|.af k,x,_=>.ro (.af k x)|.strs,x,_=>.ro (.strs x)|.bS,x,_=>.ro (.bS x)|.rows cs,x,_=>.ro (.ah cs x)|.arr k _,x,j=>.int k (List.getD (α:=Int) x j 0)
def CL.cell:(cs:List CK)->CL cs->Nat->SV
 |[],_,_=>.bm|c::cs,x,j=>bif j.blt c.wide then c.cell x.1 j else CL.cell cs x.2 (j - c.wide)
def ba.cell:ba->Nat->Nat->SV
 |.af k zs,i,_=>.int k (zs.getD i 0)|.strs ss,i,_=>.str (ss.getD i empty)|.bS bs,i,_=>.bool (bs.getD i false)|.ah cs xs,i,j=>CL.cell cs (xs.getD i (CL.d cs)) j|.eM _ _ get,i,j=>get i j
inductive AV where
 |s (v:SV)|ptr (id off:Nat)|j9 (id off n i:Nat)|jG (c:ba) (i j:Nat)|vec (id:Nat)|gC (id i j:Nat)|part (id lo n:Nat)|sub (id off n:Nat)|kH (id i j n:Nat)|emp|agg (aD:List AV)|af (k:IntKind) (n:Nat) (ws:List Int)|bd (vs:List AV)|fn (f:FuncId) (dh:List AV)|fnb (f:FuncId) (first:List AV)
 |iz (id:Nat)|tag (id:Nat)
inductive au where
 |ak (aD:List AV) (elem:TypeId)|vec (c:ba) (elem:TypeId)|map (ck:CK) (m:List (Int×ck.V))|xP (ck:CK) (m:List (Int×ck.V)) (gid:Nat)|iter (mid gid:Nat) (ck:CK) (left:List (Int×ck.V)) (cur:Option (Int×ck.V))|aH
abbrev a8:=Nat->Option au
def au.alive:au->Bool
 |.aH=>false|_=>true
def eQ:Value->Option Nat
 |.pointer (some a)=>some a.block|.slice (some a) _ cap=>if cap=0 then none else some a.block
 |.map (some b)=>some b|_=>none
def Own(ρ:Nat->Value)(H:a8)(b:Nat):Prop:=∃id o,H id=some o/\o.alive=true/\eQ (ρ id)=some b
def bg(ρ:Nat->Value)(H:a8)(G:Nat->Prop)(b:Nat):Prop:=Own ρ H b\/G b
inductive bh (O:Nat->Prop) (w:World):SV->Value->Prop
 |bm (v:Value):v.oneCell'=true->bh O w .bm v|bool (b:Bool):bh O w (.bool b) (.bool b)|aN (b:Bool):bh O w (.aN b) (.bool b)|kG (n:Nat) (eq b:Bool):(b=eq->n=0)->bh O w (.kG n eq) (.bool b)|r7 (k:IntKind) (n:Int):bh O w (.r7 k) (.int k n)|int (k:IntKind) (n:Int):bh O w (.int k n) (.int k n)|aO (k:IntKind) (n:Int):bh O w (.aO k n) (.int k n)|str (s:ByteArray):bh O w (.str s) (.string s)|pS:bh O w .pS (.pointer none)|aee:bh O w .aee .nilIface|aef:bh O w .aef .nilFunc|aeg:bh O w .aeg (.map none)|pT:bh O w .pT (.slice none 0 0)|qF (f:FuncId):bh O w (.qF f) (.func (.func f) #[] #[])|ifi (t:TypeId) (k:IntKind) (n:Int):bh O w (.ifi t k n) (.iface t (.int k n))|ifs (t:TypeId) (s:ByteArray):bh O w (.ifs t s) (.iface t (.string s))|ifb (t:TypeId) (b:Bool):bh O w (.ifb t b) (.iface t (.bool b))|raw (v:Value) (zs:List Int):v.oneCell'=true->bh O w (.raw v zs) v|ro (c:ba) (a:Option Addr) (cap:Nat) (us:Nat->Nat->Value) (b o:Nat):c.n<=cap->cap<=maxLen->
  (0<c.n->a=some ⟨b,o,none⟩/\¬O b/\b<w.heap.size)->
  (∀i j,i<c.n->j<c.size->w.cell? ⟨b,o+i*c.size+j,none⟩=some (us i j))->
  (∀i j,i<c.n->j<c.size->bh O w (c.cell i j) (us i j))->bh O w (.ro c) (.slice a c.n cap)
 |zM (c:ba) (k:Nat) (a:Option Addr) (n cap:Nat):bh O w (.ro c) (.slice a n cap)->cap<k->bh O w (.zM c k) (.slice a n cap)|nj (k:Nat) (n:Int):(k:Int)<=n->bh O w (.nj k) (.int .i64 n)|px (k:Nat) (n:Int):n<(k:Int)->bh O w (.px k) (.int .i64 n)
mutual
def aS(ρ:Nat->Value)(H:a8)(O:Nat->Prop)(w:World):AV->Value->Prop
 |.s x,v=>bh O w x v|.ptr id off,v=>∃b,ρ id=.pointer (some ⟨b,0,none⟩)/\v=.pointer (some ⟨b,off,none⟩)/\(H id).isSome=true|.j9 id off n i,v=>i<n/\∃b,ρ id=.pointer (some ⟨b,0,none⟩)/\v=.pointer (some ⟨b,off+i,none⟩)/\(H id).isSome=true|.jG c i j,v=>∃(b o:Nat) (us:Nat->Value),v=.pointer (some ⟨b,o+j,none⟩)/\¬O b/\b<w.heap.size/\
  (∀l,l<c.size->w.cell? ⟨b,o+l,none⟩=some (us l)/\bh O w (c.cell i l) (us l))
 |.vec id,v=>v.oneCell'=true/\∃o,H id=some o/\∀c e,o=.vec c e->v=ρ id|.gC id i j,v=>v.oneCell'=true/\∃o,H id=some o/\∀c e,o=.vec c e->i<c.n/\j<c.size/\
  ∃b f n cap,ρ id=.slice (some ⟨b,f,none⟩) n cap/\v=.pointer (some ⟨b,f+i*c.size+j,none⟩)
 |.part id lo n,v=>v.oneCell'=true/\∃o,H id=some o/\∀c e,o=.vec c e->lo+n<=c.n/\
  ∃a cap a',ρ id=.slice a c.n cap/\c.n<=cap/\v=.slice a' n (cap - lo)/\(cap≠lo->a'=a.map (·.add (lo*c.size)))
 |.sub id off n,v=>v.oneCell'=true/\∃b a cap,ρ id=.pointer (some ⟨b,0,none⟩)/\v=.slice a n cap/\(n≠0->a=some ⟨b,off,none⟩)/\(H id).isSome=true|.kH id i j n,v=>v.oneCell'=true/\∃o,H id=some o/\∀c e,o=.vec c e->i<c.n/\j+n<=c.size/\
  ∃b f n' cap a ahG,ρ id=.slice (some ⟨b,f,none⟩) n' cap/\v=.slice a n ahG/\(n≠0->a=some ⟨b,f+i*c.size+j,none⟩)
 |.emp,v=>∃a,v=.slice a 0 0|.fn f dh,v=>∃vs:List Value,v=.func (.func f) #[] vs.toArray/\bI ρ H O w dh vs|.fnb f first,v=>∃vs:List Value,v=.func (.func f) vs.toArray #[]/\bI ρ H O w first vs
 |.agg _,_=>False|.af _ _ _,_=>False|.bd _,_=>False|.iz id,v=>∃b,ρ id=.map (some b)/\v=.map (some b)/\(H id).isSome=true|.tag id,v=>v=ρ id/\v.oneCell'=true/\(H id).isSome=true
def bI(ρ:Nat->Value)(H:a8)(O:Nat->Prop)(w:World):List AV->List Value->Prop
 |[],vs=>vs=[]|a::aT,vs=>∃v rest,vs=v::rest/\ag ρ H O w a v/\bI ρ H O w aT rest
def aE(ρ:Nat->Value)(H:a8)(O:Nat->Prop)(w:World):List AV->List Value->Prop
 |[],cs=>cs=[]|a::aT,cs=>∃c1 c2,cs=c1++c2/\aX ρ H O w a c1/\aE ρ H O w aT c2
def aX(ρ:Nat->Value)(H:a8)(O:Nat->Prop)(w:World):AV->List Value->Prop
 |.agg _,_=>False|.af k n ws,cs=>ws.length=n/\cs=ws.map (Value.int k)|.s x,cs=>∃u,cs=[u]/\bh O w x u|.ptr id off,cs=>∃u,cs=[u]/\aS ρ H O w (.ptr id off) u|.j9 id off n i,cs=>∃u,cs=[u]/\aS ρ H O w (.j9 id off n i) u|.jG c i j,cs=>∃u,cs=[u]/\aS ρ H O w (.jG c i j) u|.vec id,cs=>∃u,cs=[u]/\aS ρ H O w (.vec id) u|.gC id i j,cs=>∃u,cs=[u]/\aS ρ H O w (.gC id i j) u|.part id lo n,cs=>∃u,cs=[u]/\aS ρ H O w (.part id lo n) u|.sub id off n,cs=>∃u,cs=[u]/\aS ρ H O w (.sub id off n) u|.kH id i j n,cs=>∃u,cs=[u]/\aS ρ H O w (.kH id i j n) u|.emp,cs=>∃u,cs=[u]/\∃a,u=.slice a 0 0|.fn f dh,cs=>∃u,cs=[u]/\∃vs:List Value,u=.func (.func f) #[] vs.toArray/\bI ρ H O w dh vs|.fnb f first,cs=>∃u,cs=[u]/\∃vs:List Value,u=.func (.func f) vs.toArray #[]/\bI ρ H O w first vs
 |.bd _,_=>False|.iz id,cs=>∃u,cs=[u]/\aS ρ H O w (.iz id) u|.tag id,cs=>∃u,cs=[u]/\aS ρ H O w (.tag id) u
def ag(ρ:Nat->Value)(H:a8)(O:Nat->Prop)(w:World):AV->Value->Prop
 |.agg aD,v=>∃cs:List Value,v=.agg cs.toArray/\aE ρ H O w aD cs|.af k n ws,v=>ws.length=n/\v=.agg (ws.map (Value.int k)).toArray|.bd vs,v=>∃us:List Value,v=.tuple us.toArray/\bI ρ H O w vs us|.s .bm,_=>True|.s x,v=>bh O w x v|.ptr id off,v=>aS ρ H O w (.ptr id off) v|.j9 id off n i,v=>aS ρ H O w (.j9 id off n i) v|.jG c m j,v=>aS ρ H O w (.jG c m j) v|.vec id,v=>aS ρ H O w (.vec id) v|.gC id i j,v=>aS ρ H O w (.gC id i j) v|.part id lo n,v=>aS ρ H O w (.part id lo n) v|.sub id off n,v=>aS ρ H O w (.sub id off n) v|.kH id i j n,v=>aS ρ H O w (.kH id i j n) v|.emp,v=>∃a,v=.slice a 0 0|.fn f dh,v=>∃vs:List Value,v=.func (.func f) #[] vs.toArray/\bI ρ H O w dh vs|.fnb f first,v=>∃vs:List Value,v=.func (.func f) vs.toArray #[]/\bI ρ H O w first vs
 |.iz id,v=>aS ρ H O w (.iz id) v|.tag id,v=>aS ρ H O w (.tag id) v
end
theorem bh.one{O:Nat->Prop}{w:World}{x:SV}{v:Value}(h:bh O w x v):v.oneCell'=true:=by
 cases h<;>first|rfl|assumption
structure Step (ρ:Nat->Value) (H:a8) (O:Nat->Prop) (w:World) (aU:Nat->Value) (H':a8) (O':Nat->Prop) (w':World):Prop where
 yq:∀id o,H id=some o->aU id=ρ id
 fj:∀id o,H id=some o->∃o',H' id=some o'/\∀c' e',o'=.vec c' e'->∃c e,o=.vec c e/\c'.n=c.n/\c'.size=c.size
 gf:∀b,O' b->O b\/w.heap.size<=b
 heap:∀b,b<w.heap.size->¬O b->w'.heap[b]? =w.heap[b]?
 size:w.heap.size<=w'.heap.size
theorem Step.refl(ρ:Nat->Value)(H:a8)(O:Nat->Prop)(w:World):Step ρ H O w ρ H O w:=
 ⟨λ_ _ _=>rfl,λ_ o h=>⟨o,h,λc' e' e=>⟨c',e',e,rfl,rfl⟩⟩,λ_ h=>.inl h,λ_ _ _=>rfl,le_refl _⟩
theorem mC{w w':World}{b o:Nat}(h:w'.heap[b]? =w.heap[b]?):w'.cell? ⟨b,o,none⟩=w.cell? ⟨b,o,none⟩:=by
 simp[World.cell?,h]
section
variable{ρ aU:Nat->Value}{H H':a8}{O O':Nat->Prop}{w w':World}
theorem Step.trans{avf:Nat->Value}{H'':a8}{O'':Nat->Prop}{w'':World}(h:Step ρ H O w aU H' O' w')(k:Step aU H' O' w' avf H'' O'' w'')
 :Step ρ H O w avf H'' O'' w'':=by
 refine⟨λid o ho=> ?_,λid o ho=> ?_,λb hb=> ?_,λb hb hO=> ?_,Nat.le_trans h.size k.size⟩;have⟨o',du,_⟩:=h.fj id o ho;rw[k.yq id o' du,h.yq id o ho];have⟨o',du,q⟩:=h.fj id o ho;have⟨o'',ax9,q'⟩:=k.fj id o' du;refine⟨o'',ax9,λc e hc=> ?_⟩;have⟨c1,e1,h1,n1,s1⟩:=q' c e hc;have⟨c2,e2,h2,n2,s2⟩:=q c1 e1 h1;exact⟨c2,e2,h2,n1.trans n2,s1.trans s2⟩;rcases k.gf b hb with h1|h1;exact h.gf b h1;exact .inr (Nat.le_trans h.size h1);have aya:¬O' b:=λh1=>by rcases h.gf b h1 with h2|h2<;>first|exact hO h2|omega
 rw[k.heap b (by have:=h.size;omega) aya,h.heap b hb hO]
theorem bh.step(gf:∀b,O' b->O b\/w.heap.size<=b)(heap:∀b,b<w.heap.size->¬O b->w'.heap[b]? =w.heap[b]?)
 (size:w.heap.size<=w'.heap.size) {x:SV} {v:Value} (h:bh O w x v):bh O' w' x v:=by
 induction h with
 |bm v hv=>exact .bm v hv|bool b=>exact .bool b|aN b=>exact .aN b|kG n eq b hb=>exact .kG n eq b hb|r7 k n=>exact .r7 k n|int k n=>exact .int k n|aO k n=>exact .aO k n|str s=>exact .str s|pS=>exact .pS|aee=>exact .aee|aef=>exact .aef|aeg=>exact .aeg|pT=>exact .pT|qF f=>exact .qF f|ifi t k n=>exact .ifi t k n|ifs t s=>exact .ifs t s|ifb t b=>exact .ifb t b|raw v zs h=>exact .raw v zs h|zM c k a n cap _ hk ih=>exact .zM c k a n cap ih hk|nj k n h=>exact .nj k n h|px k n h=>exact .px k n h|ro c a cap us b o hn hm hb hc _ ih=>
  refine .ro c a cap us b o hn hm (λh0=> ?_) (λi j hi hj=> ?_) ih;have⟨e,h1,h2⟩:=hb h0;exact⟨e,λh3=>by rcases gf b h3 with h4|h4<;>first|exact h1 h4|omega,by omega⟩;have⟨_,h1,h2⟩:=hb (by omega);rw[mC (heap b h2 h1)];exact hc i j hi hj
mutual
theorem aS.step(st:Step ρ H O w aU H' O' w'):∀(x:AV) (v:Value),aS ρ H O w x v->aS aU H' O' w' x v
 |.s x,v,h=>by unfold aS at *;exact h.step st.gf st.heap st.size
 |.ptr id off,v,h=>by
  unfold aS at *;have⟨b,h1,h2,h3⟩:=h;have⟨o,ho⟩:=isSome_iff_exists.1 h3;have⟨o',du,_⟩:=st.fj id o ho;exact⟨b,by rw[st.yq id o ho,h1],h2,by rw[du];rfl⟩
 |.j9 id off n i,v,h=>by
  unfold aS at *;have⟨hi,b,h1,h2,h3⟩:=h;have⟨o,ho⟩:=isSome_iff_exists.1 h3;have⟨o',du,_⟩:=st.fj id o ho;exact⟨hi,b,by rw[st.yq id o ho,h1],h2,by rw[du];rfl⟩
 |.jG c m j,v,h=>by
  unfold aS at *;have⟨b,o,us,h1,h2,h3,h4⟩:=h;refine⟨b,o,us,h1,λh5=> ?_,by have:=st.size;omega,λi hi=> ?_⟩;rcases st.gf b h5 with h6|h6<;>first|exact h2 h6|omega
  have⟨h5,h6⟩:=h4 i hi;exact⟨by rw[mC (st.heap b h3 h2)];exact h5,h6.step st.gf st.heap st.size⟩
 |.vec id,v,h=>by
  unfold aS at *;have⟨h0,o,ho,h1⟩:=h;have⟨o',du,h2⟩:=st.fj id o ho;refine⟨h0,o',du,λc e hc=> ?_⟩;have⟨c1,e1,h3,_,_⟩:=h2 c e hc;rw[st.yq id o ho];exact h1 c1 e1 h3
 |.gC id i j,v,h=>by
  unfold aS at *;have⟨h0,o,ho,h1⟩:=h;have⟨o',du,h2⟩:=st.fj id o ho;refine⟨h0,o',du,λc e hc=> ?_⟩;have⟨c1,e1,h3,hn,hs⟩:=h2 c e hc;rw[st.yq id o ho,hn,hs];exact h1 c1 e1 h3
 |.part id lo n,v,h=>by
  unfold aS at *;have⟨h0,o,ho,h1⟩:=h;have⟨o',du,h2⟩:=st.fj id o ho;refine⟨h0,o',du,λc e hc=> ?_⟩;have⟨c1,e1,h3,hn,hs⟩:=h2 c e hc;rw[st.yq id o ho,hn,hs];exact h1 c1 e1 h3
 |.sub id off n,v,h=>by
  unfold aS at *;have⟨h0,b,a,cap,h1,h2,h4,h3⟩:=h;have⟨o,ho⟩:=isSome_iff_exists.1 h3;have⟨o',du,_⟩:=st.fj id o ho;exact⟨h0,b,a,cap,by rw[st.yq id o ho,h1],h2,h4,by rw[du];rfl⟩
 |.kH id i j n,v,h=>by
  unfold aS at *;have⟨h0,o,ho,h1⟩:=h;have⟨o',du,h2⟩:=st.fj id o ho;refine⟨h0,o',du,λc e hc=> ?_⟩;have⟨c1,e1,h3,hn,hs⟩:=h2 c e hc;rw[st.yq id o ho,hn,hs];exact h1 c1 e1 h3
 |.emp,v,h=>by unfold aS at *;exact h
 |.fn f dh,v,h=>by
  unfold aS at *;have⟨vs,h1,h2⟩:=h;exact⟨vs,h1,bI.step st dh vs h2⟩
 |.fnb f dh,v,h=>by
  unfold aS at *;have⟨vs,h1,h2⟩:=h;exact⟨vs,h1,bI.step st dh vs h2⟩
 |.agg _,v,h=>by unfold aS at h;exact h.elim
 |.af _ _ _,v,h=>by unfold aS at h;exact h.elim
 |.bd _,v,h=>by unfold aS at h;exact h.elim
 |.iz id,v,h=>by
  unfold aS at *;have⟨b,h1,h2,h3⟩:=h;have⟨o,ho⟩:=isSome_iff_exists.1 h3;have⟨o',du,_⟩:=st.fj id o ho;exact⟨b,by rw[st.yq id o ho,h1],h2,by rw[du];rfl⟩
 |.tag id,v,h=>by
  unfold aS at *;have⟨h1,h2,h3⟩:=h;have⟨o,ho⟩:=isSome_iff_exists.1 h3;have⟨o',du,_⟩:=st.fj id o ho;exact⟨by rw[st.yq id o ho,h1],h2,by rw[du];rfl⟩
theorem bI.step(st:Step ρ H O w aU H' O' w'):∀(xs:List AV) (vs:List Value),bI ρ H O w xs vs->bI aU H' O' w' xs vs
 |[],vs,h=>by unfold bI at *;exact h
 |a::aT,vs,h=>by
  unfold bI at *;have⟨v,rest,h1,h2,h3⟩:=h;exact⟨v,rest,h1,ag.step st a v h2,bI.step st aT rest h3⟩
theorem aE.step(st:Step ρ H O w aU H' O' w'):∀(xs:List AV) (cs:List Value),aE ρ H O w xs cs->aE aU H' O' w' xs cs
 |[],vs,h=>by unfold aE at *;exact h
 |a::aT,vs,h=>by
  unfold aE at *;have⟨c1,c2,h1,h2,h3⟩:=h;exact⟨c1,c2,h1,aX.step st a c1 h2,aE.step st aT c2 h3⟩
theorem aX.step(st:Step ρ H O w aU H' O' w'):∀(x:AV) (cs:List Value),aX ρ H O w x cs->aX aU H' O' w' x cs
 |.agg _,cs,h=>by unfold aX at h;exact h.elim
 |.af _ _ _,cs,h=>by unfold aX at *;exact h
 |.s x,cs,h=>by unfold aX at *;have⟨u,h1,h2⟩:=h;exact⟨u,h1,h2.step st.gf st.heap st.size⟩
 |.ptr id off,cs,h=>by unfold aX at *;have⟨u,h1,h2⟩:=h;exact⟨u,h1,aS.step st (.ptr id off) u h2⟩
 |.j9 id off n i,cs,h=>by unfold aX at *;have⟨u,h1,h2⟩:=h;exact⟨u,h1,aS.step st (.j9 id off n i) u h2⟩
 |.jG c m j,cs,h=>by unfold aX at *;have⟨u,h1,h2⟩:=h;exact⟨u,h1,aS.step st (.jG c m j) u h2⟩
 |.vec id,cs,h=>by unfold aX at *;have⟨u,h1,h2⟩:=h;exact⟨u,h1,aS.step st (.vec id) u h2⟩
 |.gC id i j,cs,h=>by unfold aX at *;have⟨u,h1,h2⟩:=h;exact⟨u,h1,aS.step st (.gC id i j) u h2⟩
 |.part id lo n,cs,h=>by unfold aX at *;have⟨u,h1,h2⟩:=h;exact⟨u,h1,aS.step st (.part id lo n) u h2⟩
 |.sub id off n,cs,h=>by unfold aX at *;have⟨u,h1,h2⟩:=h;exact⟨u,h1,aS.step st (.sub id off n) u h2⟩
 |.kH id i j n,cs,h=>by unfold aX at *;have⟨u,h1,h2⟩:=h;exact⟨u,h1,aS.step st (.kH id i j n) u h2⟩
 |.emp,cs,h=>by unfold aX at *;exact h
 |.fn f dh,cs,h=>by
  unfold aX at *;have⟨u,h1,vs,h2,h3⟩:=h;exact⟨u,h1,vs,h2,bI.step st dh vs h3⟩
 |.fnb f dh,cs,h=>by
  unfold aX at *;have⟨u,h1,vs,h2,h3⟩:=h;exact⟨u,h1,vs,h2,bI.step st dh vs h3⟩
 |.bd _,cs,h=>by unfold aX at h;exact h.elim
 |.iz id,cs,h=>by unfold aX at *;have⟨u,h1,h2⟩:=h;exact⟨u,h1,aS.step st (.iz id) u h2⟩
 |.tag id,cs,h=>by unfold aX at *;have⟨u,h1,h2⟩:=h;exact⟨u,h1,aS.step st (.tag id) u h2⟩
theorem ag.step(st:Step ρ H O w aU H' O' w'):∀(x:AV) (v:Value),ag ρ H O w x v->ag aU H' O' w' x v
 |.agg aD,v,h=>by unfold ag at *;have⟨cs,h1,h2⟩:=h;exact⟨cs,h1,aE.step st aD cs h2⟩
 |.af _ _ _,v,h=>by unfold ag at *;exact h
 |.bd vs,v,h=>by unfold ag at *;have⟨us,h1,h2⟩:=h;exact⟨us,h1,bI.step st vs us h2⟩
 |.s .bm,v,h=>by unfold ag;trivial
 |.s (.bool b),v,h=>by unfold ag at *;exact h.step st.gf st.heap st.size
 |.s (.aN b),v,h=>by unfold ag at *;exact h.step st.gf st.heap st.size
 |.s (.kG _ _),v,h=>by unfold ag at *;exact h.step st.gf st.heap st.size
 |.s (.r7 k),v,h=>by unfold ag at *;exact h.step st.gf st.heap st.size
 |.s (.int k n),v,h=>by unfold ag at *;exact h.step st.gf st.heap st.size
 |.s (.aO k n),v,h=>by unfold ag at *;exact h.step st.gf st.heap st.size
 |.s (.str b),v,h=>by unfold ag at *;exact h.step st.gf st.heap st.size
 |.s .pS,v,h=>by unfold ag at *;exact h.step st.gf st.heap st.size
 |.s .aee,v,h=>by unfold ag at *;exact h.step st.gf st.heap st.size
 |.s .aef,v,h=>by unfold ag at *;exact h.step st.gf st.heap st.size
 |.s .aeg,v,h=>by unfold ag at *;exact h.step st.gf st.heap st.size
 |.s .pT,v,h=>by unfold ag at *;exact h.step st.gf st.heap st.size
 |.s (.qF b),v,h=>by unfold ag at *;exact h.step st.gf st.heap st.size
 |.s (.ifi _ _ _),v,h=>by unfold ag at *;exact h.step st.gf st.heap st.size
 |.s (.ifs _ _),v,h=>by unfold ag at *;exact h.step st.gf st.heap st.size
 |.s (.ifb _ _),v,h=>by unfold ag at *;exact h.step st.gf st.heap st.size
 |.s (.raw _ _),v,h=>by unfold ag at *;exact h.step st.gf st.heap st.size
 |.s (.ro b),v,h=>by unfold ag at *;exact h.step st.gf st.heap st.size
 |.s (.zM _ _),v,h=>by unfold ag at *;exact h.step st.gf st.heap st.size
 |.s (.nj _),v,h=>by unfold ag at *;exact h.step st.gf st.heap st.size
 |.s (.px _),v,h=>by unfold ag at *;exact h.step st.gf st.heap st.size
 |.ptr id off,v,h=>by unfold ag at *;exact aS.step st (.ptr id off) v h
 |.j9 id off n i,v,h=>by unfold ag at *;exact aS.step st (.j9 id off n i) v h
 |.jG c m j,v,h=>by unfold ag at *;exact aS.step st (.jG c m j) v h
 |.vec id,v,h=>by unfold ag at *;exact aS.step st (.vec id) v h
 |.gC id i j,v,h=>by unfold ag at *;exact aS.step st (.gC id i j) v h
 |.part id lo n,v,h=>by unfold ag at *;exact aS.step st (.part id lo n) v h
 |.sub id off n,v,h=>by unfold ag at *;exact aS.step st (.sub id off n) v h
 |.kH id i j n,v,h=>by unfold ag at *;exact aS.step st (.kH id i j n) v h
 |.emp,v,h=>by unfold ag at *;exact h
 |.fn f dh,v,h=>by
  unfold ag at *;have⟨vs,h2,h3⟩:=h;exact⟨vs,h2,bI.step st dh vs h3⟩
 |.fnb f dh,v,h=>by
  unfold ag at *;have⟨vs,h2,h3⟩:=h;exact⟨vs,h2,bI.step st dh vs h3⟩
 |.iz id,v,h=>by unfold ag at *;exact aS.step st (.iz id) v h
 |.tag id,v,h=>by unfold ag at *;exact aS.step st (.tag id) v h
end
end
inductive RM (α:Type)where
 |ret (a:α)|look (id:Nat) (k:Option au->RM α)|fail (why:String)
def RM.eval{α:Type}(H:a8):RM α->Option α
 |.ret a=>some a|.look id k=>(k (H id)).eval H|.fail _=>none
def RM.ids{α:Type}(H:a8):RM α->List Nat
 |.ret _=>[]|.look id k=>id::(k (H id)).ids H|.fail _=>[]
def RM.why{α:Type}(H:a8):RM α->String
 |.ret _=> ""|.look _ k=>(k (H id)).why H|.fail w=>w
where id:Nat:=0
structure bP where
 ab:List Prop
 up:List (Nat×au)
 new:List au
 r:Nat->AV
def plain(ab:List Prop)(r:AV):RM bP:=.ret ⟨ab,[],[],λ_=>r⟩
def pU(why:String):Option (List Prop×AV)->RM bP
 |some (ab,r)=>plain ab r|none=>.fail why
def aw(n:Int):Prop:= -9223372036854775808<=n/\n<=9223372036854775807
def bU:IntKind->IntKind->Bool
 |.i8,.i8|.i16,.i16|.i32,.i32|.i64,.i64|.u8,.u8|.u16,.u16|.u32,.u32|.u64,.u64=>true|_,_=>false
def py:IntKind->Bool
 |.i64=>true|_=>false
def bX(op:BinOp)(k:IntKind)(x y:Int):Int:=
 let a:=BitVec.ofInt k.bits x;let b:=BitVec.ofInt k.bits y
 match op with
 |.and=>k.wrap (a &&& b).toNat|.or=>k.wrap (a ||| b).toNat|.xor=>k.wrap (a ^^^ b).toNat|_=>k.wrap (a &&& ~~~b).toNat
def mkInt(lit:Bool)(k:IntKind)(n:Int):AV:=.s (if lit then .aO k n else .int k n)
def lq(lit:Bool)(b:Bool):AV:=.s (if lit then .aN b else .bool b)
def nI(lit:Bool)(k:IntKind)(n:Int):List Prop×AV:=
 bif lit then([],.s (.aO k (k.wrap n)))
 else bif py k then([aw n],.s (.int k n))else([],.s (.int k (k.wrap n)))
def vq(op:BinOp)(k:IntKind)(lx ly:Bool)(x y:Int):Option (List Prop×AV):=
 let lit:=lx&&ly
 match op with
 |.add=>some (nI lit k (x+y))|.sub=>some (nI lit k (x - y))|.mul=>some (nI lit k (x*y))|.quo=>some (bif lit then([y≠0],.s (.aO k (k.wrap (x.tdiv y))))else bif py k then([y≠0,aw (x.tdiv y)],.s (.int k (x.tdiv y)))else([y≠0],.s (.int k (k.wrap (x.tdiv y)))))|.rem=>some ([y≠0],mkInt lit k (x.tmod y))|.and|.or|.xor|.andNot=>some ([],mkInt lit k (bX op k x y))|.eql=>some ([],lq lit (x==y))|.neq=>some ([],lq lit (x !=y))|.lss=>some ([],lq lit (decide (x<y)))|.leq=>some ([],lq lit (decide (x<=y)))|.gtr=>some ([],lq lit (decide (x>y)))|.geq=>some ([],lq lit (decide (x>=y)))|_=>none
def aeh(op:BinOp)(k:IntKind)(lit:Bool)(x y:Int):Option (List Prop×AV):=
 match op with
 |.shl=>some ([0<=y],mkInt lit k (k.wrap (x*2^(min y.toNat k.bits))))|.shr=>some ([0<=y],mkInt lit k (x.fdiv (2^(min y.toNat k.bits))))|_=>none
def slt(x y:ByteArray):Bool:=Op.bytesLess x.data.toList y.data.toList
def aei(op:BinOp)(x y:ByteArray):Option (List Prop×AV):=
 match op with
 |.add=>some ([x.size+y.size<=4611686018427387904],.s (.str (x++y)))|.eql=>some ([],.s (.bool (decide (x=y))))|.neq=>some ([],.s (.bool (!decide (x=y))))|.lss=>some ([],.s (.bool (slt x y)))|.leq=>some ([],.s (.bool (slt x y||decide (x=y))))|.gtr=>some ([],.s (.bool !(slt x y||decide (x=y))))|.geq=>some ([],.s (.bool !(slt x y)))|_=>none
def AV.cD :AV->Option (IntKind×Bool×Int)
 |.s (.int k n)=>some (k,false,n)|.s (.aO k n)=>some (k,true,n)|_=>none
def AV.iA :AV->Option (Bool×Bool)
 |.s (.bool b)=>some (false,b)|.s (.aN b)=>some (true,b)|_=>none
def unR(op:UnOp)(x:AV):Option (List Prop×AV):=
 match op,x with
 |.not,.s (.bool b)=>some ([],.s (.bool !b))|.not,.s (.aN b)=>some ([],.s (.aN !b))|.neg,.s (.int k n)=>some (nI false k (0 - n))|.neg,.s (.aO k n)=>some (nI true k (0 - n))|_,_=>none
def ajq(c a b:AV):Option (List Prop×AV):=
 match c with
 |.s (.aN true)=>some ([],a)|.s (.aN false)=>some ([],b)|.s (.bool c)=>
  match a.iA,b.iA with
  |some (_,x),some (_,y)=>some ([],.s (.bool (bif c then x else y)))|_,_=>
   match a.cD,b.cD with
   |some (k,_,x),some (k',_,y)=>bif bU k k' then some ([],.s (.int k (bif c then x else y)))else none|_,_=>none
 |_=>none
def dO(P:Program)(t:TypeId):Option Nat:=(P.info? t).map (·.size)
def gU(P:Program)(t:TypeId):Option Bool:=
 match P.underlying t with
 |some (.struct _)|some (.array _ _)=>some true|some _=>some false|none=>none
def kindOf(P:Program)(t:TypeId):Option IntKind:=
 match P.underlying t with
 |some (.int k)=>some k|_=>none
def AV.wide:AV->Nat
 |.af _ n _=>n|_=>1
def fF:List AV->Nat->Option (List AV)
 |aD,0=>some aD|[],_+1=>none|a::aT,n+1=>bif a.wide.ble (n+1)then fF aT (n+1 - a.wide)else none
def fG:List AV->Nat->Option (List AV)
 |_,0=>some []|[],_+1=>none|a::aT,n+1=>bif a.wide.ble (n+1)&&(1:Nat).ble a.wide then(fG aT (n+1 - a.wide)).map (a:: ·)else none
def cellAt:List AV->Nat->Option AV
 |[],_=>none|.af k n ws::aT,off=>bif off.blt n then some (.s (.int k (ws.getD off 0)))else cellAt aT (off - n)|a::_,0=>some a|_::aT,off+1=>cellAt aT off
def gJ:List AV->Nat->AV->Option (List AV)
 |[],_,_=>none|.af k n ws::aT,off,v=>bif off.blt n then
  (match v.cD with
   |some (k',_,x)=>bif bU k k' then some (.af k n (ws.set off x)::aT)else none|none=>none)
  else(gJ aT (off - n) v).map (.af k n ws:: ·)
 |_::aT,0,v=>some (v::aT)|a::aT,off+1,v=>(gJ aT off v).map (a:: ·)
def jt:List AV->Nat->Option (IntKind×Nat×List Int)
 |.af k n ws::aT,off=>bif off.beq 0 then some (k,n,ws)else bif off.blt n then none else jt aT (off - n)|_::aT,off+1=>jt aT off|_,_=>none
def ka:List AV->Nat->List Int->Option (List AV)
 |.af k n ws::aT,off,nv=>bif off.beq 0 then some (.af k n nv::aT)else bif off.blt n then none else(ka aT (off - n) nv).map (.af k n ws:: ·)|a::aT,off+1,nv=>(ka aT off nv).map (a:: ·)|_,_,_=>none
def AV.single:AV->Bool
 |.s .bm|.agg _|.af _ _ _|.bd _=>false|_=>true
def AV.jx :AV->Option (List AV)
 |.agg aD=>some aD|.af k n ws=>some [.af k n ws]|.bd _|.s .bm=>none|a=>some [a]
def AV.lr:List AV->AV
 |[.af k n ws]=>.af k n ws|aD=>.agg aD
def ga:List AV->Nat
 |[]=>0|a::aT=>a.wide+ga aT
def aej(aD:List AV)(off:Nat)(jy:List AV):Option (List AV):=
 match aD,jy with
 |[.af k n ws],[x]=>match x.cD with
  |some (k',_,z)=>bif bU k k'&&off.blt n then some [.af k n (ws.set off z)]else none|none=>none
 |_,_=>none
def uF(aD:List AV)(off:Nat)(jy:List AV):Option (List AV):=
 match aej aD off jy with
 |some r=>some r|none=>
 match fG aD off,fF aD (off+ga jy)with
 |some pre,some post=>some (pre++jy++post)|_,_=>none
def ahH(P:Program)(rec:TypeId->List AV->List AV->Option Bool):List Field->List AV->List AV->Option Bool
 |[],_,_=>some true|f::fs,xs,ys=>bif f.name== "_" then ahH P rec fs xs ys else
  match dO P f.type,gU P f.type with
  |some sz,some xQ=>bif xQ||sz.beq 1 then(match(fF xs f.offset).bind (fG · sz),(fF ys f.offset).bind (fG · sz)with
   |some a,some b=>(match rec f.type a b,ahH P rec fs xs ys with
    |some p,some q=>some (p&&q)|_,_=>none)
   |_,_=>none)else none
  |_,_=>none
def eqC(P:Program):Nat->TypeId->List AV->List AV->Option Bool
 |0,_,_,_=>none|d+1,t,xs,ys=>
  match P.underlying t with
  |some (.int _)=>(match xs,ys with
   |[x],[y]=>(match x.cD,y.cD with
    |some (k,_,a),some (k',_,b)=>bif bU k k' then some (a==b)else none|_,_=>none)
   |_,_=>none)
  |some .bool=>(match xs,ys with
   |[x],[y]=>(match x.iA,y.iA with
    |some (_,a),some (_,b)=>some (a==b)|_,_=>none)
   |_,_=>none)
  |some .string=>(match xs,ys with
   |[.s (.str a)],[.s (.str b)]=>some (decide (a=b))|_,_=>none)
  |some (.array n e)=>(match xs,ys with
   |[.af k m ws],[.af k' m' nv]=>
    (match P.underlying e with
     |some (.int k'')=>bif (1:Nat).ble d&&bU k k'&&bU k k''&&n==m&&m==m'&&(P.info? e).any (λi=>i.size==1)then some (decide (ws=nv))else none|_=>none)
   |_,_=>none)
  |some (.struct fs)=>bif P.stoodInHeld t then none else ahH P (eqC P d) fs.toList xs ys|_=>none
def ajr(P:Program)(t:TypeId):Bool:=match P.underlying t with|some (.int _)=>true|_=>false
def ajs(P:Program)(t:TypeId):Bool:=match P.underlying t with|some .string=>true|_=>false
def afN(P:Program)(t:TypeId):Bool:=match P.underlying t with|some .bool=>true|_=>false
def ajt(P:Program):AV->AV->Option Bool
 |.s (.ifi t k n),.s (.ifi t' k' n')=>bif t.beq t'&&bU k k'&&(P.info? t).any (·.comparable)&&ajr P t then some (n==n')else none|.s (.ifs t s),.s (.ifs t' s')=>bif t.beq t'&&(P.info? t).any (·.comparable)&&ajs P t then some (decide (s=s'))else none|.s (.ifb t b),.s (.ifb t' b')=>bif t.beq t'&&(P.info? t).any (·.comparable)&&afN P t then some (b==b')else none|_,_=>none
def eqI(P:Program):List AV->List AV->Option Bool
 |[],[]=>some true|x::xs,y::ys=>match ajt P x y,eqI P xs ys with
  |some a,some b=>some (a&&b)|_,_=>none
 |_,_=>none
def eqR(P:Program)(t:TypeId)(x y:AV):Option (Bool×Bool):=
 match P.underlying t,x,y with
 |some .bool,x,y=>match x.iA,y.iA with
  |some (lx,a),some (ly,b)=>some (lx&&ly,a==b)|_,_=>none
 |some (.array n e),.af k m ws,.af k' m' nv=>
  match P.underlying e with
  |some (.int k'')=>bif bU k k'&&bU k k''&&n==m&&m==m'&&(P.info? e).any (λi=>i.size==1)&& !P.eqGuardType P.depth t then some (false,decide (ws=nv))else none|_=>none
 |some (.pointer _),.s .pS,.s .pS=>some (true,true)|some (.pointer _),.s .pS,.ptr _ _|some (.pointer _),.ptr _ _,.s .pS=>some (true,false)|some (.array n e),.agg xs,.agg ys=>
  match P.underlying e with
  |some (.interface _)=>bif n==xs.length&&n==ys.length&&(P.info? e).any (λi=>i.size==1)&& !P.eqGuardType P.depth t then(eqI P xs ys).map λb=>(false,b)else none|_=>none
 |some (.struct _),.agg xs,.agg ys=>bif P.eqGuardType P.depth t then none else(eqC P 20 t xs ys).map λb=>(false,b)|_,_,_=>none
def AV.kind? :AV->Option IntKind
 |.s (.int k _)|.s (.aO k _)|.s (.r7 k)=>some k|_=>none
def aek(op:BinOp)(k:IntKind):Option AV:=
 match op with
 |.add|.sub|.mul|.and|.or|.xor|.andNot=>some (.s (.r7 k))|.eql|.neq|.lss|.leq|.gtr|.geq=>some (.s (.kG 0 true))|_=>none
def anT(P:Program)(op:BinOp)(t:TypeId)(x y:AV):Option (List Prop×AV):=
 match x,y with
 |.s (.str a),.s (.str b)=>aei op a b|x,y=>
  match x.cD,y.cD with
  |some (k,lx,a),some (k',ly,b)=>
   match op with
   |.shl|.shr=>aeh op k (lx&&ly) a b|_=>bif bU k k' then vq op k lx ly a b else none
  |_,_=>
   match x.kind?,y.kind? with
   |some k,some k'=>bif bU k k' then(aek op k).map λr=>([],r)else none|_,_=>
   match op with
   |.eql=>(eqR P t x y).map λ(l,b)=>([],lq l b)|.neq=>(eqR P t x y).map λ(l,b)=>([],lq l (!b))|_=>none
def anU:Value->Option SV
 |.bool b=>some (.aN b)|.int k n=>some (.aO k n)|.string s=>some (.str s)|.pointer none=>some .pS|.nilIface=>some .aee|.nilFunc=>some .aef|.map none=>some .aeg|_=>none
def qG:Value->Option AV
 |.slice none 0 0=>some .emp|v=>(anU v).map .s
def qH:List Value->Option (List AV)
 |[]=>some []|v::vs=>match qG v,qH vs with
  |some a,some aT=>some (a::aT)|_,_=>none
def nJ(k:IntKind):List Value->Bool
 |[]=>true|.int k' 0::vs=>bU k k'&&nJ k vs|_=>false
def gW(P:Program):Nat->TypeId->List Value->Option (List AV)
 |0,_,_=>none|d+1,t,cs=>
  match P.underlying t with
  |some (.struct fs)=>fs.toList.foldl (λacc f=>
   match acc,dO P f.type with
   |some (aD,rest),some n=>(gW P d f.type (rest.take n)).map λs=>(aD++s,rest.drop n)|_,_=>none) (some ([],cs)) |>.bind λ(aD,rest)=>match rest with|[]=>some aD|_=>none
  |some (.array n e)=>match kindOf P e with
   |some k=>bif nJ k cs&&cs.length==n then some [.af k n (replicate n 0)]else qH cs|none=>qH cs
  |_=>qH cs
def zN:Value->AV
 |.agg cs=>match qH cs.toList with|some aT=>.agg aT|none=>.s .bm
 |v=>(qG v).getD (.s .bm)
def zeroOf(P:Program)(t:TypeId):Option AV:=
 match(P.info? t).bind (·.zero),gU P t with
 |some (.agg cs),some true=>(gW P 20 t cs.toList).map .lr|some v,some false=>qG v|_,_=>none
def CL.aD:(cs:List CK)->CL cs->List AV
 |[],_=>[]|.arr k n::cs,x=>.af k n x.1::CL.aD cs x.2|.int k::cs,x=>.s (.int k x.1)::CL.aD cs x.2|.bool::cs,x=>.s (.bool x.1)::CL.aD cs x.2|.str::cs,x=>.s (.str x.1)::CL.aD cs x.2|.af k::cs,x=>.s (.ro (.af k x.1))::CL.aD cs x.2|.strs::cs,x=>.s (.ro (.strs x.1))::CL.aD cs x.2|.bS::cs,x=>.s (.ro (.bS x.1))::CL.aD cs x.2|.rows ds::cs,x=>.s (.ro (.ah ds x.1))::CL.aD cs x.2
def eV:List AV->List Prop
 |[]=>[]|.af _ n ws::aT=>(ws.length=n)::eV aT|_::aT=>eV aT
def aju(k:IntKind):SV->Option Int
 |.int k' x|.aO k' x=>bif bU k k' then some x else none|_=>none
def ael:SV->Option Bool
 |.bool x|.aN x=>some x|_=>none
def ajv:SV->Option ByteArray
 |.str x=>some x|_=>none
def aem(k:IntKind):SV->Option (List Int)
 |.ro (.af k' zs)=>bif bU k k' then some zs else none|.ro (.eM _ 0 _)=>some []|_=>none
def aen:SV->Option (List ByteArray)
 |.ro (.strs zs)=>some zs|.ro (.eM _ 0 _)=>some []|_=>none
def zO:SV->Option (List Bool)
 |.ro (.bS zs)=>some zs|.ro (.eM _ 0 _)=>some []|_=>none
def aeo(cs:List CK):SV->Option (List (CL cs))
 |.ro (.ah jz zs)=>(CL.eq jz cs).map λh=>abD h zs|.ro (.eM _ 0 _)=>some []|_=>none
def CK.set:(c:CK)->c.V->Nat->SV->Option c.V
 |.int k,_,_,v=>aju k v|.bool,_,_,v=>ael v|.str,_,_,v=>ajv v|.af k,_,_,v=>aem k v|.strs,_,_,v=>aen v|.bS,_,_,v=>zO v|.rows cs,_,_,v=>aeo cs v|.arr _ _,_,_,_=>none
def CL.set:(cs:List CK)->CL cs->Nat->SV->Option (CL cs)
 |[],_,_,_=>none|c::cs,x,j,v=>bif j.blt c.wide then(c.set x.1 j v).map λy=>(y,x.2)else(CL.set cs x.2 (j - c.wide) v).map λy=>(x.1,y)
def CK.setRow:(c:CK)->IntKind->Nat->List Int->Option c.V
 |.arr k' n',k,n,ws=>bif bU k k'&&n.beq n' then some ws else none|_,_,_,_=>none
def CL.setRow:(cs:List CK)->CL cs->Nat->IntKind->Nat->List Int->Option (CL cs)
 |[],_,_,_,_,_=>none|c::cs,x,j,k,n,ws=>bif j.beq 0 then(c.setRow k n ws).map λy=>(y,x.2)
   else bif c.wide.ble j then(CL.setRow cs x.2 (j - c.wide) k n ws).map λy=>(x.1,y)else none
def qI(xQ:Bool)(c:ba)(i j sz:Nat):RM bP:=
 bif xQ then
  (match c with
   |.ah cs xs=>(match(fF (CL.aD cs (xs.getD i (CL.d cs))) j).bind (fG · sz)with
     |some ss=>plain (eV (CL.aD cs (xs.getD i (CL.d cs)))) (.lr ss)|none=>.fail "")
   |c=>bif (j+sz).ble c.size then plain [] (.agg ((List.range sz).map λl=>.s (c.cell i (j+l))))else .fail "")
 else(bif j.blt c.size then plain [] (.s (c.cell i j))else .fail "")
def afO(P:Program)(t:TypeId)(a:AV):RM bP:=
 match dO P t,gU P t with
 |some sz,some xQ=>
  match a with
  |.ptr id off=>.look id λ
   |some (.ak aD _)=>bif xQ then
    (match(fF aD off).bind (fG · sz)with
     |some ss=>plain [] (.lr ss)|none=>.fail "")
    else(match cellAt aD off with
     |some v=>plain [] v|none=>.fail "")
   |_=>.fail ""
  |.j9 id off n i=>.look id λ
   |some (.ak aD _)=>match jt aD off with
    |some (k,m,ws)=>bif m.beq n&& !xQ then plain [] (.s (.int k (ws.getD i 0)))else .fail ""|none=>.fail ""
   |_=>.fail ""
  |.jG c i j=>qI xQ c i j sz|.gC id i j=>.look id λ
   |some (.vec c _)=>qI xQ c i j sz|_=>.fail ""
  |_=>.fail ""
 |_,_=>.fail ""
def r8:ba->Nat->Nat->SV->Option ba
 |.af k zs,i,_,v=>match v with
  |.int k' x|.aO k' x=>bif bU k k' then some (.af k (zs.set i x))else none|_=>none
 |.strs ss,i,_,v=>match v with
  |.str x=>some (.strs (ss.set i x))|_=>none
 |.bS bs,i,_,v=>match v with
  |.bool x|.aN x=>some (.bS (bs.set i x))|_=>none
 |.ah cs xs,i,j,v=>(CL.set cs (xs.getD i (CL.d cs)) j v).map λy=>.ah cs (xs.set i y)|.eM s n get,i,j,v=>some (.eM s n λi' j'=>bif i'==i&&j'==j then v else get i' j')
def oO:ba->Nat->Nat->IntKind->Nat->List Int->Option ba
 |.ah cs xs,i,j,k,n,ws=>(CL.setRow cs (xs.getD i (CL.d cs)) j k n ws).map λy=>.ah cs (xs.set i y)|_,_,_,_,_,_=>none
def eW(c:ba)(i j:Nat):List AV->Option ba
 |[]=>some c|.s v::aT=>(r8 c i j v).bind λc'=>eW c' i (j+1) aT|.af k n ws::aT=>(oO c i j k n ws).bind λc'=>eW c' i (j+n) aT|_=>none
def nK(cs:List CK)(x:CL cs)(j:Nat):List AV->Option (CL cs)
 |[]=>some x|.s v::aT=>(CL.set cs x j v).bind λy=>nK cs y (j+1) aT|.af k n ws::aT=>(CL.setRow cs x j k n ws).bind λy=>nK cs y (j+n) aT|_=>none
def afP(c:ba)(i j:Nat)(jy:List AV):Option ba:=match c with
 |.ah cs xs=>(nK cs (xs.getD i (CL.d cs)) j jy).map λy=>.ah cs (xs.set i y)|_=>eW c i j jy
def aep(P:Program)(t:TypeId)(a x:AV):RM bP:=
 match dO P t,gU P t with
 |some sz,some xQ=>
  match a with
  |.ptr id off=>.look id λ
   |some (.ak aD e)=>
    bif xQ then
     (match x.jx with
      |some jy=>bif (ga jy).beq sz&&(1:Nat).ble sz then
       (match uF aD off jy with
        |some eX=>.ret ⟨[],[(id,.ak eX e)],[],λ_=>.bd []⟩|none=>.fail "")else .fail ""
      |none=>.fail "")
    else(bif x.single&&sz.beq 1 then
     (match gJ aD off x with
      |some eX=>.ret ⟨[],[(id,.ak eX e)],[],λ_=>.bd []⟩|none=>.fail "")else .fail "")
   |_=>.fail ""
  |.j9 id off n i=>.look id λ
   |some (.ak aD e)=>match jt aD off,x.cD with
    |some (k,m,ws),some (k',_,y)=>bif m.beq n&&bU k k'&& !xQ&&sz.beq 1 then
     (match ka aD off (ws.set i y)with
      |some eX=>.ret ⟨[],[(id,.ak eX e)],[],λ_=>.bd []⟩|none=>.fail "")else .fail ""
    |_,_=>.fail ""
   |_=>.fail ""
  |.gC id i j=>.look id λ
   |some (.vec c e)=>match x.jx with
    |some jy=>bif (ga jy).beq sz&&(j+sz).ble c.size then
     (match afP c i j jy with
      |some c'=>.ret ⟨[],[(id,.vec c' e)],[],λ_=>.bd []⟩|none=>.fail "")else .fail ""
    |none=>.fail ""
   |_=>.fail ""
  |_=>.fail ""
 |_,_=>.fail ""
def pV(P:Program)(t:TypeId)(x:AV)(f:Nat):RM bP:=
 match P.underlying t with
 |some (.struct fs)=>match fs[f]? with
  |some fd=>bif (dO P fd.type).any (λn=>(1:Nat).ble n)then
   (match x with
    |.ptr id off=>plain [] (.ptr id (off+fd.offset))|.jG c i j=>plain [] (.jG c i (j+fd.offset))|.gC id i j=>.look id λ
     |some (.vec c _)=>bif (j+fd.offset).blt c.size then plain [] (.gC id i (j+fd.offset))else .fail ""|_=>.fail ""
    |_=>.fail "")else .fail ""
  |none=>.fail ""
 |_=>.fail ""
def pW(P:Program)(t:TypeId)(x i:AV):RM bP:=
 match i.cD,P.underlying t with
 |some (_,_,n),some (.slice e)=>
  (match dO P e,x with
   |some sz,.s (.ro c)=>bif sz.beq c.size then plain [0<=n,n<c.n] (.jG c n.toNat 0)else .fail ""|some sz,.vec id=>.look id λ
    |some (.vec c _)=>bif sz.beq c.size&&(1:Nat).ble sz then plain [0<=n,n<c.n] (.gC id n.toNat 0)else .fail ""|_=>.fail ""
   |some sz,.part id lo m=>.look id λ
    |some (.vec c _)=>bif sz.beq c.size&&(1:Nat).ble sz then plain [0<=n,n<m] (.gC id (lo+n.toNat) 0)else .fail ""|_=>.fail ""
   |_,_=>.fail "")
 |some (_,lit,n),some (.array len e)=>
  (match dO P e,x with
   |some sz,.ptr id off=>bif lit then
    (bif decide (0<=n)&&decide (n<len)then plain [] (.ptr id (off+n.toNat*sz))else .fail "")
    else(bif sz.beq 1 then plain [0<=n,n<len] (.j9 id off len n.toNat)else .fail "")
   |some sz,.gC id i0 0=>.look id λ
    |some (.vec c _)=>bif sz.beq c.size&&(1:Nat).ble sz then plain [0<=n,n<len,i0+n<c.n] (.gC id (i0+n.toNat) 0)else .fail ""|_=>.fail ""
   |_,_=>.fail "")
 |_,_=>.fail ""
def ax(s:ByteArray)(i:Nat):Int:=((s.data.toList.getD i 0).toNat:Int)
def aeq(P:Program)(t:TypeId)(x i:AV):RM bP:=
 match i.cD,P.underlying t,x with
 |some (_,_,n),some (.array len e),.af k m ws=>bif len.beq m&&(gU P e).any (!·)&&(dO P e).any (·.beq 1)then plain [0<=n,n<len] (.s (.int k (ws.getD n.toNat 0)))else .fail ""|some (_,_,n),some .string,.s (.str s)=>plain [0<=n,n<s.size] (.s (.int .u8 (ax s n.toNat)))|some (_,_,n),some (.array len e),.agg aD=>bif (gU P e).any (!·)&&(dO P e).any (·.beq 1)then
  (match cellAt aD n.toNat with
   |some v=>plain [0<=n,n<len] v|none=>.fail "")else .fail ""
 |_,_,_=>.fail ""
def aer(P:Program)(t:TypeId)(x:AV)(f:Nat):RM bP:=
 match P.underlying t,x with
 |some (.struct fs),.agg aD=>match fs[f]? with
  |some fd=>match dO P fd.type,gU P fd.type with
   |some sz,some true=>match(fF aD fd.offset).bind (fG · sz)with
    |some ss=>plain [] (.lr ss)|none=>.fail ""
   |some _,some false=>match cellAt aD fd.offset with
    |some v=>plain [] v|none=>.fail ""
   |_,_=>.fail ""
  |none=>.fail ""
 |_,_=>.fail ""
def vr(x:AV)(i:Nat):RM bP:=
 match x with
 |.bd vs=>match vs[i]? with
  |some v=>plain [] v|none=>.fail ""
 |_=>.fail ""
def zP(P:Program)(t:TypeId):Option Nat:=
 match P.underlying t,P.info? t with
 |some (.array n e),some i=>match P.underlying e,i.zero with
  |some .string,some z=>bif (4:Nat).ble n&&n.ble 4096&&z.cells.size.beq n&&z.cells.toList.all (λv=>match v with|.string s=>s.size.beq 0|_=>false)then some n else none|_,_=>none
 |_,_=>none
def aes(P:Program)(t:TypeId):RM bP:=
 match zP P t with
 |some n=>.ret ⟨[],[],[.vec (.strs (replicate n empty)) t],λid=>.gC id 0 0⟩|none=>
 match(zeroOf P t).bind AV.jx with
 |some aD=>.ret ⟨[],[],[.ak aD t],λid=>.ptr id 0⟩|none=>.fail ""
def asa(t:TypeId)(v:AV):RM bP:=
 match v.jx with
 |some aD=>.ret ⟨[],[],[.ak aD t],λid=>.ptr id 0⟩|none=>.fail ""
def pX(place:Nat->Option (Nat×Nat))(aD:List AV):List (Nat×AV)->Option (List AV)
 |[]=>some aD|(i,v)::rest=>
  match place i,v.jx with
  |some (off,size),some jy=>bif (ga jy).beq size&&(1:Nat).ble size then(uF aD off jy).bind λs=>pX place s rest else none|_,_=>none
def aet(P:Program)(t:TypeId)(parts:List (Nat×AV)):RM bP:=
 match(zeroOf P t).bind AV.jx,P.underlying t with
 |some aD,some (.struct fs)=>bif fs.toList.all (λf=>(dO P f.type).isSome)then
  match pX (λi=>(fs[i]?).bind λf=>(dO P f.type).map λn=>(f.offset,n)) aD parts with
  |some ss=>plain [] (.lr ss)|none=>.fail ""
  else .fail ""
 |some aD,some (.array _ e)=>
  match dO P e with
  |some sz=>match pX (λi=>some (i*sz,sz)) aD parts with
   |some ss=>plain [] (.lr ss)|none=>.fail ""
  |none=>.fail ""
 |_,_=>.fail ""
def AV.sv? :AV->Option SV
 |.s .bm=>none|.s v=>some v|.emp=>some (.ro (.eM 1 0 λ_ _=>.bm))|_=>none
def svs:List AV->Option (List SV)
 |[]=>some []|.af _ _ _::_=>none|a::aT=>match a.sv?,svs aT with
  |some v,some vs=>some (v::vs)|_,_=>none
def pY(k:IntKind):List SV->Option (List Int)
 |[]=>some []|.int k' n::vs|.aO k' n::vs=>bif bU k k' then(pY k vs).map (n:: ·)else none|_=>none
def r9:List SV->Option (List ByteArray)
 |[]=>some []|.str s::vs=>(r9 vs).map (s:: ·)|_=>none
def oP:List SV->Option (List Bool)
 |[]=>some []|.bool b::vs|.aN b::vs=>(oP vs).map (b:: ·)|_=>none
inductive Shape where
 |af (k:IntKind)|strs|bS|ah (cs:List CK)|other
def ajw(P:Program):Nat->TypeId->Option (List CK)
 |0,_=>none|d+1,t=>
  match P.underlying t with
  |some (.int k)=>some [.int k]|some .bool=>some [.bool]|some .string=>some [.str]|some (.slice e)=>match P.underlying e with
   |some (.int k)=>some [.af k]|some .string=>some [.strs]|some .bool=>some [.bS]|_=>(ajw P d e).map λcs=>[.rows cs]
  |some (.struct fs)=>fs.toList.foldr (λf acc=>match ajw P d f.type,acc with
   |some a,some b=>some (a++b)|_,_=>none) (some [])
  |some (.array n e)=>match P.underlying e with
   |some (.int k)=>some [.arr k n]|_=>none
  |_=>none
def shapeOf(P:Program)(e:TypeId):Shape:=
 match P.underlying e with
 |some (.int k)=>.af k|some .string=>.strs|some .bool=>.bS|_=>match ajw P 8 e with
  |some cs=>.ah cs|none=>.other
def CL.ofs(cs:List CK)(f:Nat->SV):Option (CL cs):=(List.range (CL.wide cs)).foldl (λacc j=>acc.bind λx=>CL.set cs x j (f j)) (some (CL.d cs))
def yr(cs:List CK)(size:Nat)(cells:List SV):Nat->Nat->Option (List (CL cs))
 |_,0=>some []|i,n+1=>match CL.ofs cs (λj=>cells.getD (i*size+j) .bm),yr cs size cells (i+1) n with
  |some x,some xs=>some (x::xs)|_,_=>none
def tq(sh:Shape)(size n:Nat)(cells:List SV):ba:=
 let d:ba:=.eM size n λi j=>cells.getD (i*size+j) .bm
 match sh with
 |.af k=>(pY k cells).elim d (.af k)|.strs=>(r9 cells).elim d .strs|.bS=>(oP cells).elim d .bS|.ah cs=>bif (CL.wide cs).beq size then(yr cs size cells 0 n).elim d (.ah cs)else d|.other=>d
def ajx(sh:Shape)(size:Nat):ba:=
 match sh with
 |.af k=>.af k []|.strs=>.strs []|.bS=>.bS []|.ah cs=>.ah cs []|.other=>.eM size 0 λ_ _=>.bm
def rep{α:Type}(n:Nat)(x:List α):List α:=
 match n with
 |0=>[]|n+1=>x++rep n x
def nL(P:Program)(t:TypeId)(n:Nat)(parts:List (Nat×AV)):RM bP:=
 match P.underlying t with
 |some (.slice e)=>
  match dO P e,(zeroOf P e).bind AV.jx with
  |some sz,some z=>bif (1:Nat).ble sz&&(n*sz).ble 4096&&(ga z).beq sz then
   (match(pX (λi=>some (i*sz,sz)) (rep n z) parts).bind svs with
    |some cells=>bif cells.length.beq (n*sz)&&(tq (shapeOf P e) sz n cells).n.beq n&&(tq (shapeOf P e) sz n cells).size.beq sz then .ret ⟨[],[],[.vec (tq (shapeOf P e) sz n cells) e],λid=>.vec id⟩else .fail ""|none=>.fail "")else .fail ""
  |_,_=>.fail ""
 |_=>.fail ""
def dk:ba->ba->ba
 |.af k xs,.af k' ys=>bif bU k k' then .af k (xs++ys)else .eM 1 (xs.length+ys.length) λi j=>bif i.blt xs.length then(ba.af k xs).cell i j else(ba.af k' ys).cell (i - xs.length) j|.strs xs,.strs ys=>.strs (xs++ys)|.bS xs,.bS ys=>.bS (xs++ys)|.ah cs xs,.ah jz ys=>match CL.eq jz cs with
  |some h=>.ah cs (xs++abD h ys)|none=>.eM (CL.wide cs) (xs.length+ys.length) λi j=>bif i.blt xs.length then(ba.ah cs xs).cell i j else(ba.ah jz ys).cell (i - xs.length) j
 |c,d=>.eM c.size (c.n+d.n) λi j=>bif i.blt c.n then c.cell i j else d.cell (i - c.n) j
def dJ:ba->Nat->Nat->ba
 |.af k zs,l,h=>.af k ((zs.take h).drop l)|.strs zs,l,h=>.strs ((zs.take h).drop l)|.bS zs,l,h=>.bS ((zs.take h).drop l)|.ah cs zs,l,h=>.ah cs ((zs.take h).drop l)|.eM s _ get,l,h=>.eM s (h - l) λi j=>get (l+i) j
def over{α:Type}(xs:List α)(lo k:Nat)(ys:List α):List α:=xs.take lo++ys.take k++xs.drop (lo+k)
def dv:ba->Nat->Nat->ba->ba
 |.af k1 xs,lo,k,.af k2 ys=>bif bU k1 k2 then .af k1 (over xs lo k ys)else .eM 1 xs.length λi j=>bif lo.ble i&&i.blt (lo+k)then(ba.af k2 ys).cell (i - lo) j else(ba.af k1 xs).cell i j|.strs xs,lo,k,.strs ys=>.strs (over xs lo k ys)|.bS xs,lo,k,.bS ys=>.bS (over xs lo k ys)|.ah cs xs,lo,k,.ah jz ys=>match CL.eq jz cs with
  |some h=>.ah cs (over xs lo k (abD h ys))|none=>.eM (CL.wide cs) xs.length λi j=>bif lo.ble i&&i.blt (lo+k)then(ba.ah jz ys).cell (i - lo) j else(ba.ah cs xs).cell i j
 |c,lo,k,d=>.eM c.size c.n λi j=>bif lo.ble i&&i.blt (lo+k)then d.cell (i - lo) j else c.cell i j
def asb:SV->Value->Bool
 |.int k n,.int k' n'=>bU k k'&&n==n'|.bool b,.bool b'=>b==b'|.str s,.string s'=>s.size.beq 0&&s'.size.beq 0|.ro c,.slice none 0 0=>c.n.beq 0|_,_=>false
def dw(sh:Shape)(n:Nat):ba:=
 match sh with
 |.af k=>.af k (replicate n 0)|.strs=>.strs (replicate n empty)|.bS=>.bS (replicate n false)|.ah cs=>.ah cs (replicate n (CL.d cs))|.other=>.eM 1 n λ_ _=>.bm
def gk(sh:Shape)(z:List Value):Bool:=(dw sh 1).size.beq z.length&&(List.range z.length).all λj=>asb ((dw sh 1).cell 0 j) (z.getD j undef)
def rowOf(sh:Shape)(size:Nat)(x:AV)(k:ba->Option Nat->RM bP):RM bP:=
 match x with
 |.s v=>(match v with
  |.ro c=>k c none|_=>.fail "")
 |.emp=>k (ajx sh size) none|.vec id=>.look id λ
  |some (.vec c _)=>k c (some id)|_=>.fail ""
 |.part id lo n=>.look id λ
  |some (.vec c _)=>k (dJ c lo (lo+n)) (some id)|_=>.fail ""
 |_=>.fail ""
def yt(sh:Shape)(size:Nat)(x:AV)(k:ba->Option Nat->RM bP):RM bP:=
 match x with
 |.s (.str s)=>k (.af .u8 (s.data.toList.map λb=>(b.toNat:Int))) none|x=>rowOf sh size x k
def zQ(P:Program)(t:TypeId)(x y:AV):RM bP:=
 match P.underlying t with
 |some (.slice e)=>
  match P.info? e with
  |some i=>
   let sh:=shapeOf P e
   bif (1:Nat).ble i.size&&(1:Nat).ble i.bytes&&i.bytes.ble 256&&i.zero.any (λz=>z.cells.size==i.size&&z.cells.toList.all (·.oneCell'))then
    yt sh i.size y λd idy=>
     bif d.size.beq i.size then
      (match x with
       |.emp=>.ret ⟨[d.n*i.bytes<=140737488355328],[],[.vec d e],λid=>.vec id⟩|.vec idx=>.look idx λ
        |some (.vec c e')=>bif c.size.beq i.size&&e'.beq e&& !(idy==some idx)then
         .ret ⟨[(c.n+d.n)*i.bytes<=140737488355328],[(idx,.aH)],[.vec (dk c d) e],λid=>.vec id⟩else .fail ""
        |_=>.fail ""
       |.part idx lo n=>.look idx λ
        |some (.vec c e')=>bif c.size.beq i.size then
         .ret ⟨[lo+n+d.n<=c.n],[(idx,.vec (dv c (lo+n) d.n d) e')],[],λ_=>.part idx lo (n+d.n)⟩else .fail ""
        |_=>.fail ""
       |_=>.fail "")
     else .fail ""
   else .fail ""
  |none=>.fail ""
 |_=>.fail ""
def vt(P:Program)(t t':TypeId)(x y:AV):RM bP:=
 match P.underlying t,P.underlying t',x,y.cD with
 |some (.slice e),some (.int _),.s (.zM c k),some (_,_,j)=>
  (match P.info? e with
   |some i=>bif (1:Nat).ble i.size&&i.bytes.ble 256&&c.size.beq i.size&&i.zero.any (λz=>gk (shapeOf P e) z.cells.toList&&z.cells.size==i.size)then
    .ret ⟨[0<j,(k:Int)<=c.n+j,(c.n:Int)+j<=4294967296],[],[.vec (dk c (dw (shapeOf P e) j.toNat)) e],λid=>.vec id⟩else .fail ""
   |none=>.fail "")
 |_,_,_,_=>.fail ""
def asc(P:Program)(t:TypeId)(x:AV):RM bP:=
 match P.underlying t,x with
 |some .string,.s (.str s)=>plain [] (.s (.int .i64 s.size))|some (.array n _),_=>plain [] (.s (.aO .i64 n))|some (.slice _),.s (.ro c)=>plain [] (.s (.int .i64 c.n))|some (.slice _),.s (.zM c _)=>plain [] (.s (.int .i64 c.n))|some (.slice _),.emp=>plain [] (.s (.aO .i64 0))|some (.slice _),.vec id=>.look id λ
  |some (.vec c _)=>plain [] (.s (.int .i64 c.n))|_=>.fail ""
 |some (.slice _),.part id _ n=>.look id λ
  |some (.vec _ _)=>plain [] (.s (.int .i64 n))|_=>.fail ""
 |some (.map _ _),.iz id=>.look id λ
  |some (.map _ m)=>plain [] (.s (.int .i64 m.length))|_=>.fail ""
 |_,_=>.fail ""
def asd(P:Program)(t:TypeId)(x:AV):RM bP:=
 match P.underlying t,x with
 |some (.slice _),.s (.zM _ k)=>plain [] (.s (.px k))|some (.slice _),.vec id=>.look id λ
  |some (.vec c _)=>plain [] (.s (.nj c.n))|_=>.fail ""
 |some (.slice _),.part id lo _=>.look id λ
  |some (.vec c _)=>plain [] (.s (.nj (c.n - lo)))|_=>.fail ""
 |_,_=>.fail ""
def imax(a b:Int):Int:=if b>a then b else a
def pZ(a b:Int):Int:=if b<a then b else a
def anV(mx:Bool)(x y:AV):RM bP:=
 match x.cD,y.cD with
 |some (k,lx,a),some (k',ly,b)=>bif bU k k' then
  (bif mx then plain [] (mkInt (lx&&ly) k (imax a b))else plain [] (mkInt (lx&&ly) k (pZ a b)))else .fail ""
 |_,_=>.fail ""
def gL(d:Int):Option AV->Option Int
 |none=>some d|some a=>(a.cD).map λ(_,_,n)=>n
def afQ(P:Program)(e:TypeId)(c:ba)(id lo0 n:Nat)(lo hi mx:Option AV):RM bP:=
 match dO P e with
 |some sz=>bif sz.beq c.size then
  (match mx with
   |none=>(match gL 0 lo,gL n hi with
    |some l,some h=>plain [0<=l,l<=h,(lo0:Int)+h<=c.n] (.part id (lo0+l.toNat) (h.toNat - l.toNat))|_,_=>.fail "")
   |some m=>(match gL 0 lo,hi.bind AV.cD,m.cD with
    |some l,some (_,_,h),some (_,_,m)=>plain [0<=l,l<=h,h<=m,(lo0:Int)+m<=c.n] (.s .bm)|_,_,_=>.fail ""))else .fail ""
 |none=>.fail ""
def ajy(P:Program)(t:TypeId)(x y:AV):RM bP:=
 match P.underlying t with
 |some (.slice e)=>
  match dO P e with
  |some sz=>bif (1:Nat).ble sz then
   yt (shapeOf P e) sz y λd _=>bif d.size.beq sz then
    (match x with
     |.vec id=>.look id λ
      |some (.vec c e')=>bif c.size.beq sz then
       .ret ⟨[],[(id,.vec (dv c 0 (min d.n c.n) d) e')],[],λ_=>.s (.int .i64 ((min d.n c.n:Nat):Int))⟩else .fail ""
      |_=>.fail ""
     |.part id lo n=>.look id λ
      |some (.vec c e')=>bif c.size.beq sz then
       .ret ⟨[],[(id,.vec (dv c lo (min d.n n) d) e')],[],λ_=>.s (.int .i64 ((min d.n n:Nat):Int))⟩else .fail ""
      |_=>.fail ""
     |_=>.fail "")else .fail ""
   else .fail ""
  |none=>.fail ""
 |_=>.fail ""
def lN{k:IntKind}{m:Nat}(x:CL [.arr k m]):List Int:=x.1
def ajz{k:IntKind}{m:Nat}(ws:List Int):CL [.arr k m]:=(ws,())
def uG(x:AV)(k:IntKind->List Int->Prop->RM bP):RM bP:=
 match x with
 |.s (.str s)=>k .u8 (s.data.toList.map λb=>(b.toNat:Int)) True|.sub id off n=>.look id λ
  |some (.ak [.af q m ws] _)=>k q ((ws.drop off).take n) (off+n<=m)|_=>.fail ""
 |_=>.fail ""
def aeu(P:Program)(t:TypeId)(x y:AV):RM bP:=
 match P.underlying t with
 |some (.slice e)=>
  match dO P e with
  |some sz=>bif sz.beq 1 then
   (match x with
    |.sub id off n=>uG y λq zs p=>.look id λ
      |some (.ak [.af k m ws] e')=>bif bU q k then
       .ret ⟨[p,off+n<=m],[(id,.ak [.af k m (over ws off (min zs.length n) zs)] e')],[],λ_=>.s (.int .i64 ((min zs.length n:Nat):Int))⟩else .fail ""
      |_=>.fail ""
    |.kH id i j n=>uG y λq zs p=>.look id λ
      |some (.vec (.ah [.arr k m] xs) e')=>bif bU q k&&(1:Nat).ble m then
       .ret ⟨[p,(lN (xs.getD i (CL.d [.arr k m]))).length=m],[(id,.vec (.ah [.arr k m] (xs.set i (ajz (over (lN (xs.getD i (CL.d [.arr k m]))) j (min zs.length n) zs)))) e')],[],λ_=>.s (.int .i64 ((min zs.length n:Nat):Int))⟩else .fail ""
      |_=>.fail ""
    |_=>.fail "")else .fail ""
  |none=>.fail ""
 |_=>.fail ""
def avg:AV->Bool
 |.sub _ _ _|.kH _ _ _ _=>true|_=>false
def aev(P:Program)(t:TypeId)(x:AV):RM bP:=
 match P.underlying t,x with
 |some (.slice e),.part id lo n=>
  (match P.info? e with
   |some i=>bif (1:Nat).ble i.size&&i.zero.any (λz=>gk (shapeOf P e) z.cells.toList&&z.cells.size==i.size)then
    .look id λ
    |some (.vec c e')=>bif c.size.beq i.size then
     .ret ⟨[],[(id,.vec (dv c lo n (dw (shapeOf P e) n)) e')],[],λ_=>.bd []⟩else .fail ""
    |_=>.fail ""
    else .fail ""
   |none=>.fail "")
 |some (.map _ _),.iz id=>.look id λ
  |some (.map ck _)=>.ret ⟨[],[(id,.map ck [])],[],λ_=>.bd []⟩|_=>.fail ""
 |_,_=>.fail ""
def p6(P:Program)(t:TypeId)(l c:AV):RM bP:=
 match P.underlying t,l.cD,c.cD with
 |some (.slice e),some (_,_,l),some (_,_,c)=>
  (match P.info? e with
   |some i=>bif (1:Nat).ble i.size&&i.bytes.ble 256&&i.zero.any (λz=>gk (shapeOf P e) z.cells.toList&&z.cells.size==i.size)then
    .ret ⟨[0<=l,l<=c,c<=1073741824],[],[.vec (dw (shapeOf P e) l.toNat) e],λid=>.vec id⟩else .fail ""
   |none=>.fail "")
 |_,_,_=>.fail ""
def aew(P:Program)(t:TypeId)(x:AV)(lo hi mx:Option AV):RM bP:=
 match P.underlying t,x with
 |some .string,.s (.str s)=>
  (match gL 0 lo,gL s.size hi,mx with
   |some l,some h,none=>plain [0<=l,l<=h,h<=s.size] (.s (.str (s.extract l.toNat h.toNat)))|_,_,_=>.fail "")
 |some (.slice e),.emp=>(match dO P e,gL 0 lo,gL 0 hi,mx with
  |some _,some l,some h,none=>plain [l=0,h=0] .emp|_,_,_,_=>.fail "")
 |some (.slice e),.s (.ro c)=>
  (match dO P e with
   |some sz=>bif sz.beq c.size then
    (match mx with
     |none=>(match gL 0 lo,gL c.n hi with
      |some l,some h=>plain [0<=l,l<=h,h<=c.n] (.s (.ro (dJ c l.toNat h.toNat)))|_,_=>.fail "")
     |some m=>(match gL 0 lo,hi.bind AV.cD,m.cD with
      |some l,some (_,_,h),some (_,_,m)=>plain [l=0,h=0,m=0] .emp|_,_,_=>.fail ""))else .fail ""
   |none=>.fail "")
 |some (.slice e),.s (.zM c k)=>
  (match dO P e,mx with
   |some sz,none=>bif sz.beq c.size then
    (match lo,gL c.n hi with
     |none,some h=>plain [0<=h,h<=c.n] (.s (.zM (dJ c 0 h.toNat) k))|some l,some h=>(match l.cD with
      |some (_,_,l)=>plain [0<=l,l<=h,h<=c.n] (.s (.ro (dJ c l.toNat h.toNat)))|none=>.fail "")
     |_,_=>.fail "")else .fail ""
   |_,_=>.fail "")
 |some (.slice e),.vec id=>.look id λ
  |some (.vec c _)=>afQ P e c id 0 c.n lo hi mx|_=>.fail ""
 |some (.slice e),.part id lo0 n=>.look id λ
  |some (.vec c _)=>afQ P e c id lo0 n lo hi mx|_=>.fail ""
 |some (.array n e),.ptr id off=>
  (match dO P e,gL 0 lo,gL n hi,mx with
   |some sz,some l,some h,none=>bif sz.beq 1 then plain [0<=l,l<=h,h<=n] (.sub id (off+l.toNat) (h.toNat - l.toNat))else .fail ""|_,_,_,_=>.fail "")
 |some (.array n e),.gC id i j=>
  (match dO P e,gL 0 lo,gL n hi,mx with
   |some sz,some l,some h,none=>.look id λ
    |some (.vec c _)=>bif sz.beq 1&&(j+n).ble c.size then plain [0<=l,l<=h,h<=n] (.kH id i (j+l.toNat) (h.toNat - l.toNat))else .fail ""|_=>.fail ""
   |_,_,_,_=>.fail "")
 |_,_=>.fail ""
def aB(zs:List Int):ByteArray:=⟨(zs.map λn=>UInt8.ofNat n.toNat).toArray⟩
def vu(P:Program)(src dst:TypeId)(x:AV):RM bP:=
 match P.underlying src,P.underlying dst with
 |some _,some (.int k)=>(match x.cD with
  |some (k',lit,n)=>bif lit then plain [] (.s (.aO k (k.wrap n)))else bif py k&& !bU k' .u64 then plain [aw n] (.s (.int k n))else plain [] (.s (.int k (k.wrap n)))|none=>.fail "")
 |some .string,some .string=>(match x with
  |.s (.str s)=>plain [] (.s (.str s))|_=>.fail "")
 |some (.slice e),some .string=>(match kindOf P e with
  |some .u8=>(match x with
   |.sub id off n=>.look id λ
     |some (.ak [.af .u8 m ws] _)=>plain [off+n<=m] (.s (.str (aB ((ws.drop off).take n))))|_=>.fail ""
   |_=>rowOf (.af .u8) 1 x λc _=>match c with
   |.af .u8 zs=>plain [] (.s (.str (aB zs)))|_=>.fail "")
  |_=>.fail "")
 |_,_=>.fail ""
def bF(s:ByteArray):List Int:=s.data.toList.map λb=>(b.toNat:Int)
def vv(P:Program)(src dst:TypeId)(x:AV):RM bP:=
 match P.underlying src,P.underlying dst,x with
 |some .string,some (.slice e),.s (.str s)=>(match kindOf P e with
  |some .u8=>plain [s.size<=4294967296] (.s (.ro (.af .u8 (bF s))))|_=>.fail "")
 |_,_,_=>.fail ""
def anW(P:Program)(src dst:TypeId):Bool:=
 match P.underlying src,P.underlying dst with
 |some .string,some (.slice _)=>true|_,_=>false
def vw(P:Program)(t:TypeId)(x:AV):RM bP:=
 match P.underlying t,x with
 |some (.array n _),.s (.ro (.af k zs))=>bif (1:Nat).ble n then plain [n<=zs.length] (.jG (.ah [.arr k n] [(zs.take n,())]) 0 0)else .fail ""|_,_=>.fail ""
def sd(x:AV):RM bP:=
 match x with
 |.ptr _ _|.j9 _ _ _ _|.jG _ _ _|.fn _ _|.s (.qF _)=>plain [] x|_=>.fail ""
def se(fn:Fn)(first dh:List AV):RM bP:=
 match fn,first,dh with
 |.func f,[],[]=>plain [] (.s (.qF f))|.func f,[],c::cs=>plain [] (.fn f (c::cs))|.func f,x::xs,[]=>plain [] (.fnb f (x::xs))|_,_,_=>.fail ""
def ayb(P:Program)(t:TypeId):Option CK:=
 match P.underlying t with
 |some (.int k)=>some (.int k)|some .bool=>some .bool|some .string=>some .str|some (.array n e)=>match P.underlying e with
  |some (.int k)=>some (.arr k n)|_=>none
 |_=>none
def CK.plain:CK->Bool
 |.int _|.bool|.str|.arr _ _=>true|_=>false
def vz(P:Program)(t:TypeId)(ck:CK):Bool:=ck.plain&&
 match(P.info? t).bind (·.zero),ck with
 |some (.int k' 0),.int k=>bU k' k|some (.bool false),.bool=>true|some (.string s),.str=>s.size.beq 0|some (.agg cs),.arr k n=>nJ k cs.toList&&cs.toList.length.beq n|_,_=>false
def CK.av:(c:CK)->c.V->AV
 |.int k,v=>.s (.int k v)|.bool,v=>.s (.bool v)|.str,v=>.s (.str v)|.arr k n,v=>.af k n v|_,_=>.s .bm
def CK.rdv:(c:CK)->AV->Option c.V
 |.int k,a=>match a with
  |.s (.int k' x)|.s (.aO k' x)=>bif bU k k' then some x else none|_=>none
 |.bool,a=>match a with
  |.s (.bool x)|.s (.aN x)=>some x|_=>none
 |.str,a=>match a with
  |.s (.str x)=>some x|_=>none
 |.arr k n,a=>match a with
  |.af k' n' ws=>bif bU k k'&&n.beq n' then some ws else none|_=>none
 |_,_=>none
def afR(P:Program)(t:TypeId):Bool:=
 match P.underlying t with
 |some (.int .i64)=>true|_=>false
def zR(P:Program)(t:TypeId)(x i:AV)(ok:Bool):RM bP:=
 match P.underlying t,x,i.cD with
 |some (.map kt et),.iz id,some (k,_,n)=>bif afR P kt&&py k then
  .look id λ
  |some (.map ck m)=>bif vz P et ck then
   plain [] (bif ok then .bd [ck.av ((fi m n).getD ck.d),.s (.bool (nH m n))]else ck.av ((fi m n).getD ck.d))else .fail ""
  |_=>.fail ""
  else .fail ""
 |_,_,_=>.fail ""
def p7(P:Program)(t:TypeId)(x i v:AV):RM bP:=
 match P.underlying t,x,i.cD with
 |some (.map kt _),.iz id,some (k,_,n)=>bif afR P kt&&py k then
  .look id λ
  |some (.map ck m)=>(match ck.rdv v with
   |some y=>.ret ⟨[],[(id,.map ck (js m n y))],[],λ_=>.bd []⟩|none=>.fail "")
  |_=>.fail ""
  else .fail ""
 |_,_,_=>.fail ""
def vA(P:Program)(t:TypeId)(r:Option AV):RM bP:=
 match P.underlying t,r with
 |some (.map _ et),none=>(match ayb P et with
  |some ck=>.ret ⟨[],[],[.map ck []],λid=>.iz id⟩|none=>.fail "")
 |_,_=>.fail ""
def aex(x:AV):RM bP:=
 match x with
 |.ptr id 0=>.look id λ
  |some (.iter mid gid ck _ cur)=>.look mid λ
   |some (.xP _ _ avh)=>bif gid.beq avh&&ck.plain then(match cur with
    |some p=>plain [] (.bd [.s (.int .i64 p.1),ck.av p.2])|none=>.fail "")else .fail ""
   |_=>.fail ""
  |_=>.fail ""
 |_=>.fail ""
abbrev anX:=FuncId->List AV->RM bP
abbrev fA:=Nat->anX
def iY(P:Program)(f:FuncId):Bool:=
 match P.funcs[f]? with
 |some fn=>fn.body.isSome&& !(fn.name== "runtime.NumGoroutine")|none=>false
def ase(P:Program)(f:FuncId):Prop:=
 ∃(fn:Func) (t e tR:TypeId) (size:Nat),P.funcs[f]? =some fn/\(fn.name== "runtime.NumGoroutine")=false/\fn.body.isNone=true/\Extern.findNext fn=none/\Extern.find fn=some (Extern.SlicesOverlaps.overlaps #[t,t] #[tR])/\
  P.underlying t=some (.slice e)/\dO P e=some size
def ownRow:AV->Option Nat
 |.vec id=>some id|.part id _ _=>some id|_=>none
def sg(P:Program)(f:FuncId)(args:List AV):RM bP:=
 match args with
 |[x,y]=>match ownRow x,ownRow y with
  |some i,some j=>bif i.beq j then .fail "" else
   .look i λo=>match o with
    |some (.vec c _)=>.look j λo=>match o with
     |some (.vec d _)=>bif (1:Nat).ble c.size&&(1:Nat).ble d.size then plain [ase P f] (.s (.aN false))else .fail ""|_=>.fail ""
    |_=>.fail ""
  |_,_=>.fail ""
 |_=>.fail ""
def yu(P:Program)(S:anX)(f:FuncId)(args:List AV):RM bP:=
 bif iY P f then S f args else sg P f args
def zS(P:Program)(t:TypeId):Bool:=
 match P.underlying t with
 |some (.slice _)|some .string=>true|_=>false
def abE(P:Program)(b:Builtin)(ts:List TypeId)(args:List AV):RM bP:=
 match b,ts,args with
 |.len,t::_,[x]=>asc P t x|.cap,t::_,[x]=>asd P t x|.append,[t,t'],[x,y]=>bif zS P t' then zQ P t x y else vt P t t' x y|.min,_,[x,y]=>anV false x y|.max,_,[x,y]=>anV true x y|.copy,[t,t'],[x,y]=>bif zS P t' then(bif avg x then aeu P t x y else ajy P t x y)else .fail ""|.clear,t::_,[x]=>aev P t x|_,_,_=>.fail ""
def qJ:BinOp->Bool
 |.eql=>true|_=>false
def asf(P:Program)(op:BinOp)(t:TypeId)(x:AV):RM bP:=
 match op with
 |.eql|.neq=>
  match P.underlying t with
  |some (.slice _)=>
   match x with
   |.s (.ro c)=>plain [] (.s (.kG c.n (qJ op)))|.emp=>plain [] (.s (.kG 0 (qJ op)))|.vec id=>.look id λo=>match o with
    |some (.vec c _)=>plain [] (.s (.kG c.n (qJ op)))|_=>.fail ""
   |_=>.fail ""
  |_=>.fail ""
 |_=>.fail ""
def pz:AV->AV
 |.s .pT=>.emp|x=>x
def aey:AV->Bool
 |.s .pT=>true|_=>false
def ash(P:Program)(t:TypeId)(x:AV):RM bP:=
 match P.underlying t,x with
 |some (.interface _),_=>.fail ""|some _,.s (.int k n)=>plain [] (.s (.ifi t k n))|some _,.s (.aO k n)=>plain [] (.s (.ifi t k n))|some _,.s (.str s)=>plain [] (.s (.ifs t s))|some _,.s (.bool b)=>plain [] (.s (.ifb t b))|some _,.s (.aN b)=>plain [] (.s (.ifb t b))|_,_=>.fail ""
def ajA(P:Program)(S:anX)(ev:Operand->AV)(o:Oper):RM bP:=
 match o.op with
 |.move x|.assign x=>plain [] (ev x)|.pick c a b=>pU "pick" (ajq (ev c) (ev a) (ev b))|.alloc t=>aes P t|.box t x=>asa t (ev x)|.makeInterface t x=>ash P t (ev x)|.build t ps=>aet P t (ps.toList.map λp=>(p.1,ev p.2))|.buildSlice t n ps=>nL P t n (ps.toList.map λp=>(p.1,ev p.2))|.load t a=>afO P t (ev a)|.store t a x=>aep P t (ev a) (ev x)|.nilCheck x=>sd (ev x)|.binOp op t x y _=>pU "binOp" (anT P op t (ev x) (ev y))|.unOp op _ x=>pU "unOp" (unR op (ev x))|.convert a b x=>bif anW P a b then vv P a b (ev x)else vu P a b (ev x)|.sliceToArrayPointer t x=>vw P t (ev x)|.entry x=>aex (ev x)|.makeFunc fn a b=>se fn (a.toList.map ev) (b.toList.map ev)|.slice t x l h m=>aew P t (ev x) (l.map ev) (h.map ev) (m.map ev)|.fieldAddr t x f=>pV P t (ev x) f|.field t x f=>aer P t (ev x) f|.indexAddr t x i=>pW P t (ev x) (ev i)|.index t x i=>aeq P t (ev x) (ev i)|.extract x i=>vr (ev x) i|.lookup t x i ok=>zR P t (ev x) (ev i) ok|.mapUpdate t x i v|.insert t x i v=>p7 P t (ev x) (ev i) (ev v)|.makeMap t r=>vA P t (r.map ev)|.makeSlice t l c=>p6 P t (ev l) (ev c)|.call c=>match c.callee with
  |.value f=>match ev f with
   |.s (.qF f)=>yu P S f (c.args.toList.map ev)|.fn f dh=>yu P S f (c.args.toList.map ev++dh)|.fnb f first=>yu P S f (first++c.args.toList.map ev)
   |_=>.fail ""
  |.builtin b=>abE P b c.argTypes.toList (c.args.toList.map ev)|_=>.fail ""
 |_=>.fail ""
def asi:AV->Bool
 |.s (.nj _)|.s (.px _)=>true|_=>false
def zT(op:BinOp)(x y:AV):RM bP:=
 match op,x.cD,y with
 |.gtr,some (.i64,_,a),.s (.nj b)=>plain [a<=(b:Int)] (.s (.aN false))|.gtr,some (.i64,_,a),.s (.px b)=>plain [(b:Int)<=a] (.s (.aN true))|_,_,_=>.fail ""
def RM.aez{α:Type}(id:Nat):RM α->RM α
 |.ret a=>.ret a|.look j k=>bif j.beq id then(k (some .aH)).aez id else .look j λo=>(k o).aez id|.fail w=>.fail w
def RM.mD(id:Nat):RM bP->RM bP
 |.ret q=>.ret {q with up:=(id,.aH)::q.up}|.look j k=>.look j λo=>(k o).mD id|.fail w=>.fail w
def ajB(id:Nat)(c:ba)(ev:Operand->AV):Operand->AV:=λx=>match ev x with
 |.vec j=>bif j.beq id then .s (.ro c)else .vec j|a=>a
def giveUp:List Nat->(Operand->AV)->((Operand->AV)->RM bP)->RM bP
 |[],ev,k=>k ev|id::ids,ev,k=>.look id λo=>match o with
  |some (.vec c _)=>((giveUp ids (ajB id c ev) k).aez id).mD id|_=>.fail ""
def ajC(ev:Operand->AV)(ps:List (Nat×Operand)):List Nat:=ps.filterMap λp=>match ev p.2 with
 |.vec j=>some j|_=>none
def rZ(P:Program)(S:anX)(ev:Operand->AV)(o:Oper):RM bP:=
 match o.op with
 |.binOp op t x y _=>bif aey (ev y)then asf P op t (pz (ev x))else bif asi (ev y)then zT op (pz (ev x)) (ev y)else pU "binOp" (anT P op t (pz (ev x)) (ev y))|.buildSlice _ _ ps=>giveUp (ajC ev ps.toList) (λx=>pz (ev x)) λev=>ajA P S ev o|_=>ajA P S (λx=>pz (ev x)) o
def bE:List Prop->Prop
 |[]=>True|p::ps=>p/\bE ps
theorem bu{k k':IntKind}(h:bU k k'=true):k=k':=by
 cases k<;>cases k'<;>first|rfl|(simp[bU]at h)
theorem nM{k:IntKind}(h:py k=true):k=.i64:=by
 cases k<;>first|rfl|(simp[py]at h)
theorem cL{n:Int}(h:aw n):i64.wrap n=n:=by
 have⟨h1,h2⟩:=h;rw[IntKind.wrap_i64];omega
section
variable{ρ:Nat->Value}{H:a8}{O:Nat->Prop}{w:World}{P:Program}
theorem aK{x:SV}{v:Value}(h:bh O w x v):ag ρ H O w (.s x) v:=by
 cases x<;>unfold ag<;>first|trivial|exact h
theorem aC{x:SV}{v:Value}(hx:x≠.bm)(h:ag ρ H O w (.s x) v):bh O w x v:=by
 cases x<;>unfold ag at h<;>first|exact(hx rfl).elim|exact h
theorem cp{x:AV}{v:Value}{k:IntKind}{l:Bool}{n:Int}(h:x.cD =some (k,l,n))(hd:ag ρ H O w x v):v=.int k n:=by
 cases x with
 |s x=>
  cases x<;>simp only[AV.cD,Option.some.injEq,Prod.mk.injEq,reduceCtorEq]at h
  all_goals
   obtain⟨rfl, -,rfl⟩:=h;have:=aC (by simp) hd;cases this;rfl
 |_=>simp[AV.cD]at h
theorem jT{x:AV}{v:Value}{l b:Bool}(h:x.iA =some (l,b))(hd:ag ρ H O w x v):v=.bool b:=by
 cases x with
 |s x=>
  cases x<;>simp only[AV.iA,Option.some.injEq,Prod.mk.injEq,reduceCtorEq]at h
  all_goals
   obtain⟨-,rfl⟩:=h;have:=aC (by simp) hd;cases this;rfl
 |_=>simp[AV.iA]at h
theorem fB{s:ByteArray}{v:Value}(hd:ag ρ H O w (.s (.str s)) v):v=.string s:=by
 have:=aC (by simp) hd;cases this;rfl
theorem gM(l:Bool)(k:IntKind)(n:Int):ag ρ H O w (mkInt l k n) (.int k n):=by
 unfold mkInt;cases l;exact aK (.int k n);exact aK (.aO k n)
theorem p8(l:Bool)(b:Bool):ag ρ H O w (lq l b) (.bool b):=by
 unfold lq;cases l;exact aK (.bool b);exact aK (.aN b)
theorem lP{l:Bool}{k:IntKind}{n:Int}(h:bE (nI l k n).1):ag ρ H O w (nI l k n).2 (.int k (k.wrap n)):=by
 unfold nI at *;cases l;cases hk:py k;exact aK (.int _ _);simp only[hk,cond_true,cond_false,bE,and_true]at h ⊢;obtain rfl:=nM hk;rw[cL h];exact aK (.int _ _);exact aK (.aO _ _)
theorem gN(op:BinOp)(t:TypeId)(x y:Operand)(k k':IntKind)(a b:Int):(eqGuard op t x y (.int k a) (.int k' b)).run P w=.ok () w:=by
 cases op<;>simp[eqGuard]
theorem abF(op:BinOp)(t:TypeId)(x y:Operand)(a b:ByteArray):(eqGuard op t x y (.string a) (.string b)).run P w=.ok () w:=by
 cases op<;>simp[eqGuard]
theorem zU(op:BinOp)(t:TypeId)(x y:Operand)(a b:Bool):(eqGuard op t x y (.bool a) (.bool b)).run P w=.ok () w:=by
 cases op<;>simp[eqGuard]
theorem nN(op:BinOp)(t:TypeId)(x y:Operand)(a b:Option Addr):(eqGuard op t x y (.pointer a) (.pointer b)).run P w=.ok () w:=by
 cases op<;>simp[eqGuard]
theorem anY{l:Bool}{k:IntKind}{x y:Int}{q:List Prop×AV}
 (h:(bif l then([y≠0],AV.s (.aO k (k.wrap (x.tdiv y))))else bif py k then([y≠0,aw (x.tdiv y)],.s (.int k (x.tdiv y)))else([y≠0],.s (.int k (k.wrap (x.tdiv y)))))=q)
 (hn:bE q.1):y≠0/\ag ρ H O w q.2 (.int k (k.wrap (x.tdiv y))):=by
 subst h;cases l;cases hk:py k;simp only[hk,cond_false,bE,and_true]at hn ⊢;exact⟨hn,aK (.int _ _)⟩;simp only[hk,cond_true,cond_false,bE,and_true]at hn ⊢;obtain rfl:=nM hk;rw[cL hn.2];exact⟨hn.1,aK (.int _ _)⟩;simp only[cond_true,bE,and_true]at hn ⊢;exact⟨hn,aK (.aO _ _)⟩
theorem si{op:BinOp}{t:TypeId}{k:IntKind}{lx ly:Bool}{x y:Int}{q:List Prop×AV}(h:vq op k lx ly x y=some q)(hn:bE q.1):
 ∃v,(binOp op t (.int k x) (.int k y)).run P w=.ok v w/\ag ρ H O w q.2 v:=by
 cases op<;>simp only[vq,Option.some.injEq,reduceCtorEq]at h
 case add=>subst h;exact⟨_,by simp[binOp,Op.intArith],lP hn⟩
 case sub=>subst h;exact⟨_,by simp[binOp,Op.intArith],lP hn⟩
 case mul=>subst h;exact⟨_,by simp[binOp,Op.intArith],lP hn⟩
 case quo=>
  have⟨h0,hd⟩:=anY (ρ:=ρ) (H:=H) (O:=O) (w:=w) h hn;exact⟨_,by simp[binOp,Op.intDiv,h0],hd⟩
 case rem=>
  subst h;have h0:y≠0:=by simpa[bE]using hn
  exact⟨_,by simp[binOp,Op.intDiv,h0],gM _ _ _⟩
 case and=>subst h;exact⟨.int k (bX .and k x y),by simp[binOp,Op.intBits,bX],gM _ _ _⟩
 case or=>subst h;exact⟨.int k (bX .or k x y),by simp[binOp,Op.intBits,bX],gM _ _ _⟩
 case xor=>subst h;exact⟨.int k (bX .xor k x y),by simp[binOp,Op.intBits,bX],gM _ _ _⟩
 case andNot=>subst h;exact⟨.int k (bX .andNot k x y),by simp[binOp,Op.intBits,bX],gM _ _ _⟩
 all_goals subst h;exact⟨_,by simp[binOp,Op.intCmp],p8 _ _⟩
theorem yv{op:BinOp}{t:TypeId}{k k':IntKind}{l:Bool}{x y:Int}{q:List Prop×AV}(h:aeh op k l x y=some q)(hn:bE q.1):
 ∃v,(binOp op t (.int k x) (.int k' y)).run P w=.ok v w/\ag ρ H O w q.2 v:=by
 cases op<;>simp only[aeh,Option.some.injEq,reduceCtorEq]at h
 all_goals
  subst h;have h0:0<=y:=by simpa[bE]using hn
  exact⟨_,by simp[binOp,Op.shift,Int.not_lt.2 h0],gM _ _ _⟩
theorem aeA(a b:ByteArray):(a.toList==b.toList)=decide (a=b):=by
 rw[ByteArray.toList_eq,ByteArray.toList_eq,Bool.eq_iff_iff];simp only[beq_iff_eq,decide_eq_true_eq];constructor;intro h;cases a;cases b;simp only[ByteArray.mk.injEq]at *;exact toList_inj.1 h;rintro rfl;rfl
theorem ahI{op:BinOp}{t:TypeId}{x y:ByteArray}{q:List Prop×AV}(h:aei op x y=some q)(hn:bE q.1):
 ∃v,(binOp op t (.string x) (.string y)).run P w=.ok v w/\ag ρ H O w q.2 v:=by
 cases op<;>simp only[aei,Option.some.injEq,reduceCtorEq]at h
 case add=>
  subst h;have h0:x.size+y.size<=4611686018427387904:=by simpa[bE]using hn
  exact⟨.string (x++y),by simp[binOp,Op.stringOp];omega,aK (.str _)⟩
 all_goals subst h;exact⟨_,by simp only[binOp,Op.stringOp,aeA];rfl,by first|exact aK (.bool _)|(simp only[slt,ByteArray.toList_eq];exact aK (.bool _))⟩
theorem asj{op:UnOp}{x:AV}{vx:Value}{q:List Prop×AV}(h:unR op x=some q)(hn:bE q.1)(hx:ag ρ H O w x vx):
 ∃v,(Op.unary op vx).run P w=.ok v w/\ag ρ H O w q.2 v:=by
 unfold unR at h;split at h<;>simp only[Option.some.injEq,reduceCtorEq]at h<;>subst h;have h1:=aC (by simp) hx;cases h1;exact⟨_,by simp only[Op.unary,Sem.run_pure],aK (.bool _)⟩;have h1:=aC (by simp) hx;cases h1;exact⟨_,by simp only[Op.unary,Sem.run_pure],aK (.aN _)⟩;have h1:=aC (by simp) hx;cases h1;exact⟨_,by simp only[Op.unary,Op.intArith,Sem.run_pure],lP hn⟩;have h1:=aC (by simp) hx;cases h1;exact⟨_,by simp only[Op.unary,Op.intArith,Sem.run_pure],lP hn⟩
theorem ajD{c a b:AV}{vc va vb:Value}{q:List Prop×AV}(h:ajq c a b=some q)(hc:ag ρ H O w c vc)(ha:ag ρ H O w a va)(hb:ag ρ H O w b vb):
 ∃t,vc=.bool t/\ag ρ H O w q.2 (if t then va else vb):=by
 unfold ajq at h;split at h;simp only[Option.some.injEq]at h;subst h;have h1:=aC (by simp) hc;cases h1;exact⟨true,rfl,ha⟩;simp only[Option.some.injEq]at h;subst h;have h1:=aC (by simp) hc;cases h1;exact⟨false,rfl,hb⟩;rename_i t;have h1:=aC (by simp) hc;cases h1;refine⟨t,rfl, ?_⟩;split at h;rename_i la x lb y h2 h3;simp only[Option.some.injEq]at h;subst h;obtain rfl:=jT h2 ha;obtain rfl:=jT h3 hb;cases t;exact aK (.bool _);exact aK (.bool _);split at h;rename_i k la x k' lb y h2 h3;rw[cond_eq_ite]at h;split at h;rename_i hk;obtain rfl:=bu hk;simp only[Option.some.injEq]at h;subst h;obtain rfl:=cp h2 ha;obtain rfl:=cp h3 hb;cases t;exact aK (.int _ _);exact aK (.int _ _);cases h;cases h;cases h
end
def zV(fr:Nat×Nat)(cells:List Value):Prop:=(∀off,off<=cells.length->¬(fr.1<=off/\off<fr.2))/\∀u∈cells,u.oneCell'=true
def unm(fr:Nat×Nat)(n:Nat):Prop:=∀off,off<n->¬(fr.1<=off/\off<fr.2)
theorem zV.unm{fr:Nat×Nat}{cells:List Value}(h:zV fr cells):unm fr cells.length:=λoff ho=>h.1 off (Nat.le_of_lt ho)
theorem zV.over{fr:Nat×Nat}{cells bJ:List Value}{k:Nat}(h:zV fr cells)(hn:∀v∈bJ,v.oneCell'=true)(hl:k+bJ.length<=cells.length):zV fr (cells.take k++bJ++cells.drop (k+bJ.length)):=by
 refine⟨λoff ho=>h.1 off ?_,λu hu=> ?_⟩;simp only[length_append,length_take,length_drop]at ho;omega;simp only[mem_append]at hu;rcases hu with(hu|hu)|hu;exact h.2 u (List.mem_of_mem_take hu);exact hn u hu;exact h.2 u (List.mem_of_mem_drop hu)
def CK.val:(c:CK)->c.V->Value
 |.int k,v=>.int k v|.bool,v=>.bool v|.str,v=>.string v|.arr k _,v=>.agg (List.map (α:=Int) (Value.int k) v).toArray|_,_=>undef
def CK.fits:(c:CK)->c.V->Prop
 |.arr _ n,v=>List.length (α:=Int) v=n|_,_=>True
structure iZ (ck:CK) (m:List (Int×ck.V)) (es:List MapEntry) (clock:Nat):Prop where
 eq:es.map (λe=>(e.key,e.val))=m.map (λp=>(Value.int .i64 p.1,ck.val p.2))
 keys:(m.map (·.1)).Nodup
 yw:(es.map (·.born)).Nodup
 old:∀e∈es,e.born<clock
 fits:∀p∈m,ck.fits p.2
def ahJ(es:Array MapEntry)(clock:Nat):Value:=.tuple #[.int .i64 clock,.tuple (es.map λe=>.tuple #[e.key,e.val,.int .i64 (e.born:Int)])]
structure vB (ck:CK) (left:List (Int×ck.V)) (cur:Option (Int×ck.V)) (es:Array MapEntry) (clock:Nat) (seen:Array Nat):Prop where
 eq:(es.toList.filter λe=> !seen.contains e.born).map (λe=>(e.key,e.val))=left.map (λp=>(.int .i64 p.1,ck.val p.2))
 fits:∀p∈left,ck.fits p.2
 yw:(es.toList.map (·.born)).Nodup
 old:∀e∈es.toList,e.born<clock
 cur:∀p,cur=some p->ck.fits p.2/\∃e,e∈es.toList/\seen.back? =some e.born/\e.key=.int .i64 p.1/\e.val=ck.val p.2
def iB(ρ:Nat->Value)(H:a8)(O:Nat->Prop)(w:World)(aa:Value):au->Prop
 |.aH=>True|.map ck m=>∃(b:Nat) (es:Array MapEntry) (clock:Nat),aa=.map (some b)/\w.heap[b]? =some (.map es clock)/\iZ ck m es.toList clock|.xP ck m gid=>∃(b:Nat) (es:Array MapEntry) (clock:Nat),aa=.map (some b)/\w.heap[b]? =some (.map es clock)/\iZ ck m es.toList clock/\ρ gid=ahJ es clock/\(H gid).isSome=true|.iter mid gid ck left cur=>∃(b mb:Nat) (es:Array MapEntry) (clock:Nat) (seen:Array Nat),aa=.pointer (some ⟨b,0,none⟩)/\w.heap[b]? =some (.mapIter (some mb) clock seen clock)/\vB ck left cur es clock seen/\
  ρ gid=ahJ es clock/\(H gid).isSome=true/\ρ mid=.map (some mb)/\(H mid).isSome=true
 |.ak aD e=>∃(b:Nat) (cells:List Value) (fr:Nat×Nat),aa=.pointer (some ⟨b,0,none⟩)/\w.heap[b]? =some (.cells cells.toArray e fr)/\unm fr cells.length/\aE ρ H O w aD cells|.vec c e=>∃(a:Option Addr) (cap:Nat),aa=.slice a c.n cap/\c.n<=cap/\cap<=maxLen/\(cap=0\/
  ∃(b o:Nat) (cells:List Value) (fr:Nat×Nat) (us:Nat->Nat->Value),a=some ⟨b,o,none⟩/\w.heap[b]? =some (.cells cells.toArray e fr)/\zV fr cells/\o+cap*c.size<=cells.length/\
   ∀i j,i<c.n->j<c.size->cells[o+i*c.size+j]? =some (us i j)/\bh O w (c.cell i j) (us i j))
structure Sat (ρ:Nat->Value) (H:a8) (G:Nat->Prop) (w:World):Prop where
 obj:∀id o,H id=some o->iB ρ H (bg ρ H G) w (ρ id) o
 inj:∀i j oi oj b,H i=some oi->H j=some oj->oi.alive=true->oj.alive=true->eQ (ρ i)=some b->eQ (ρ j)=some b->i=j
 apart:∀b,Own ρ H b->¬G b
 low:∀b,G b->b<w.heap.size
structure Frm (ρ:Nat->Value) (H:a8) (w w':World):Prop where
 os:w'.os=w.os
 tape:w'.tape=w.tape
 output:w'.output=w.output
 heap:∀b,b<w.heap.size->¬Own ρ H b->w'.heap[b]? =w.heap[b]?
def Good(ρ:Nat->Value)(H:a8)(G:Nat->Prop)(w:World)(H':a8)(r:AV)(v:Value)(w':World):Prop:=
 ∃aU,Sat aU H' G w'/\ag aU H' (bg aU H' G) w' r v/\Step ρ H (bg ρ H G) w aU H' (bg aU H' G) w'/\Frm ρ H w w'
section
variable{ρ aU:Nat->Value}{H H':a8}{G O O':Nat->Prop}{w w':World}{P:Program}
theorem iB.step(st:Step ρ H O w aU H' O' w'){aa:Value}{o:au}(h:iB ρ H O w aa o)(hb:∀b,o.alive=true->eQ aa=some b->w'.heap[b]? =w.heap[b]?):
 iB aU H' O' w' aa o:=by
 cases o with
 |aH=>trivial|map ck m=>
  obtain⟨b,es,clock,rfl,h1,h2⟩:=h;exact⟨b,es,clock,rfl,by rw[hb b rfl rfl];exact h1,h2⟩
 |xP ck m gid=>
  obtain⟨b,es,clock,rfl,h1,h2,h3,h4⟩:=h;have⟨o,ho⟩:=isSome_iff_exists.1 h4;have⟨o',du,_⟩:=st.fj gid o ho;exact⟨b,es,clock,rfl,by rw[hb b rfl rfl];exact h1,h2,by rw[st.yq gid o ho];exact h3,by rw[du];rfl⟩
 |iter mid gid ck left cur=>
  obtain⟨b,mb,es,clock,seen,rfl,h1,h2,h3,h4,h5,h6⟩:=h;have⟨o,ho⟩:=isSome_iff_exists.1 h4;have⟨o',du,_⟩:=st.fj gid o ho;have⟨p,hp⟩:=isSome_iff_exists.1 h6;have⟨p',zW,_⟩:=st.fj mid p hp;exact⟨b,mb,es,clock,seen,rfl,by rw[hb b rfl rfl];exact h1,h2,by rw[st.yq gid o ho];exact h3,by rw[du];rfl,by rw[st.yq mid p hp];exact h5,by rw[zW];rfl⟩
 |ak aD e=>
  obtain⟨b,cells,fr,rfl,h1,h2,h3⟩:=h;exact⟨b,cells,fr,rfl,by rw[hb b rfl rfl];exact h1,h2,h3.step st⟩
 |vec c e=>
  obtain⟨a,cap,rfl,h1,h2,h3⟩:=h;refine⟨a,cap,rfl,h1,h2, ?_⟩;rcases h3 with h3|⟨b,o,cells,fr,us,rfl,h4,h5,h6,h7⟩;exact .inl h3;by_cases hc:cap=0;exact .inl hc;refine .inr ⟨b,o,cells,fr,us,rfl,by rw[hb b rfl (by simp[eQ,hc])];exact h4,h5,h6,λi j hi hj=> ?_⟩;have⟨h8,h9⟩:=h7 i j hi hj;exact⟨h8,h9.step st.gf st.heap st.size⟩
theorem Good.val(hs:Sat ρ H G w){r:AV}{v:Value}(h:ag ρ H (bg ρ H G) w r v):Good ρ H G w H r v w:=
 ⟨ρ,hs,h,Step.refl _ _ _ _,rfl,rfl,rfl,λ_ _ _=>rfl⟩
theorem gX(hs:Sat ρ H G w){b:Nat}(h:Own ρ H b):b<w.heap.size:=by
 have⟨id,o,ho,ha,hb⟩:=h;have ej:=hs.obj id o ho;cases o with
 |aH=>simp[au.alive]at ha|map ck m=>
  have⟨b',es,clock,h0,h1,_⟩:=ej;rw[h0]at hb;simp only[eQ,Option.some.injEq]at hb;subst hb;exact(Array.getElem?_eq_some_iff.1 h1).1
 |xP ck m gid=>
  have⟨b',es,clock,h0,h1,_⟩:=ej;rw[h0]at hb;simp only[eQ,Option.some.injEq]at hb;subst hb;exact(Array.getElem?_eq_some_iff.1 h1).1
 |iter mid gid ck left cur=>
  have⟨b',mb,es,clock,seen,h0,h1,_⟩:=ej;rw[h0]at hb;simp only[eQ,Option.some.injEq]at hb;subst hb;exact(Array.getElem?_eq_some_iff.1 h1).1
 |ak aD e=>
  have⟨b',cells,fr,h0,h1,_⟩:=ej;rw[h0]at hb;simp only[eQ,Option.some.injEq]at hb;subst hb;exact(Array.getElem?_eq_some_iff.1 h1).1
 |vec c e=>
  have⟨a,cap,h0,h1,_,h3⟩:=ej;rw[h0]at hb;rcases h3 with rfl|⟨b',o,cells,fr,us,rfl,h4,_⟩;cases a<;>simp[eQ]at hb;simp only[eQ]at hb;split at hb;cases hb;simp only[Option.some.injEq]at hb;subst hb;exact(Array.getElem?_eq_some_iff.1 h4).1
theorem zX(hs:Sat ρ H G w){b:Nat}(h:bg ρ H G b):b<w.heap.size:=h.elim (gX hs) (hs.low b)
theorem sj:∀(x:AV) (cs:List Value),aX ρ H O w x cs->cs.length=x.wide:=by
 intro x cs h;cases x<;>unfold aX at h
 case af k n ws=>obtain⟨h1,rfl⟩:=h;simp[AV.wide,h1]
 case agg=>exact h.elim
 case bd=>exact h.elim
 all_goals (obtain⟨u,rfl,_⟩:=h;rfl)
theorem aG{cs:List Value}:aE ρ H O w [] cs↔cs=[]:=by unfold aE;exact Iff.rfl
theorem aq{a:AV}{aT:List AV}{cs:List Value}:aE ρ H O w (a::aT) cs↔ ∃c1 c2,cs=c1++c2/\aX ρ H O w a c1/\aE ρ H O w aT c2:=by
 rw[aE]
theorem bp{cs:List Value}:bI ρ H O w [] cs↔cs=[]:=by unfold bI;exact Iff.rfl
theorem aJ{a:AV}{aT:List AV}{cs:List Value}:bI ρ H O w (a::aT) cs↔ ∃v rest,cs=v::rest/\ag ρ H O w a v/\bI ρ H O w aT rest:=by
 rw[bI]
theorem fH{aT bs:List AV}:∀{cs:List Value},aE ρ H O w (aT++bs) cs↔ ∃c1 c2,cs=c1++c2/\aE ρ H O w aT c1/\aE ρ H O w bs c2:=by
 induction aT with
 |nil=>
  intro cs;simp only[nil_append,aG];exact⟨λh=>⟨[],cs,rfl,rfl,h⟩,λ⟨c1,c2,h1,h2,h3⟩=>by subst h2;subst h1;exact h3⟩
 |cons a aT ih=>
  intro cs;simp only[cons_append,aq,ih];constructor;rintro⟨c1,c2,rfl,h1,c3,c4,rfl,h2,h3⟩;exact⟨c1++c3,c4,by simp,⟨c1,c3,rfl,h1,h2⟩,h3⟩;rintro⟨c1,c2,rfl,⟨c3,c4,rfl,h1,h2⟩,h3⟩;exact⟨c3,c4++c2,by simp,h1,c4,c2,rfl,h2,h3⟩
theorem ja:∀{aT:List AV} {cs:List Value},aE ρ H O w aT cs->cs.length=ga aT
 |[],cs,h=>by rw[aG.1 h];rfl
 |a::aT,cs,h=>by
  obtain⟨c1,c2,rfl,h1,h2⟩:=aq.1 h;simp[ga,sj a c1 h1,ja h2]
theorem fI:∀(aD:List AV) (n:Nat) {cs:List Value} {ss:List AV},fF aD n=some ss->aE ρ H O w aD cs->n<=cs.length/\aE ρ H O w ss (cs.drop n)
 |aD,0,cs,ss,h,hd=>by
  cases aD<;>(simp only[fF,Option.some.injEq]at h;subst h;exact⟨zero_le _,by simpa using hd⟩)
 |[],n+1,cs,ss,h,hd=>by simp[fF]at h
 |a::aT,n+1,cs,ss,h,hd=>by
  obtain⟨c1,c2,rfl,h1,h2⟩:=aq.1 hd;simp only[fF,cond_eq_ite]at h;split at h;rename_i hw;have hw:=le_of_ble_eq_true hw;have⟨h3,h4⟩:=fI aT _ h h2;have hl:=sj a c1 h1;refine⟨by simp;omega, ?_⟩;rw[List.drop_append];have e1:c1.drop (n+1)=[]:=List.drop_eq_nil_of_le (by omega);rw[e1,nil_append,hl];exact h4;cases h
theorem fJ:∀(aD:List AV) (n:Nat) {cs:List Value} {ss:List AV},fG aD n=some ss->aE ρ H O w aD cs->n<=cs.length/\aE ρ H O w ss (cs.take n)
 |aD,0,cs,ss,h,hd=>by
  cases aD<;>(simp only[fG,Option.some.injEq]at h;subst h;exact⟨zero_le _,by simp[aG]⟩)
 |[],n+1,cs,ss,h,hd=>by simp[fG]at h
 |a::aT,n+1,cs,ss,h,hd=>by
  obtain⟨c1,c2,rfl,h1,h2⟩:=aq.1 hd;simp only[fG,cond_eq_ite]at h;split at h;rename_i hw;simp only[and_eq_true]at hw;have hw1:=le_of_ble_eq_true hw.1;have hw2:=le_of_ble_eq_true hw.2;simp only[map_eq_some_iff]at h;obtain⟨ss',h3,rfl⟩:=h;have⟨h4,h5⟩:=fJ aT _ h3 h2;have hl:=sj a c1 h1;refine⟨by simp;omega,aq.2 ⟨c1,c2.take (n+1 - a.wide), ?_,h1,h5⟩⟩;rw[List.take_append,hl,take_of_length_le (by omega)];cases h
theorem fK{a:AV}{cs:List Value}(h:aX ρ H O w a cs)(ha:a.wide=1)(hi:∀k n ws,a≠.af k n ws):∃u,cs=[u]/\u.oneCell'=true/\ag ρ H O w a u:=by
 cases a<;>unfold aX at h
 case af k n ws=>exact(hi k n ws rfl).elim
 case agg=>exact h.elim
 case bd=>exact h.elim
 case iz id=>obtain⟨u,rfl,h1⟩:=h;exact⟨u,rfl,by unfold aS at h1;obtain⟨b,_,rfl,_⟩:=h1;rfl,by unfold ag;exact h1⟩
 case tag id=>obtain⟨u,rfl,h1⟩:=h;exact⟨u,rfl,by unfold aS at h1;exact h1.2.1,by unfold ag;exact h1⟩
 case s x=>obtain⟨u,rfl,h1⟩:=h;exact⟨u,rfl,h1.one,aK h1⟩
 case ptr id off=>obtain⟨u,rfl,h1⟩:=h;exact⟨u,rfl,by unfold aS at h1;obtain⟨b,_,rfl,_⟩:=h1;rfl,by unfold ag;exact h1⟩
 case j9 id off n i=>obtain⟨u,rfl,h1⟩:=h;exact⟨u,rfl,by unfold aS at h1;obtain⟨_,b,_,rfl,_⟩:=h1;rfl,by unfold ag;exact h1⟩
 case jG c m j=>obtain⟨u,rfl,h1⟩:=h;exact⟨u,rfl,by unfold aS at h1;obtain⟨b,o,us,rfl,_⟩:=h1;rfl,by unfold ag;exact h1⟩
 case vec id=>obtain⟨u,rfl,h1⟩:=h;exact⟨u,rfl,by unfold aS at h1;exact h1.1,by unfold ag;exact h1⟩
 case gC id i j=>obtain⟨u,rfl,h1⟩:=h;exact⟨u,rfl,by unfold aS at h1;exact h1.1,by unfold ag;exact h1⟩
 case part id lo n=>obtain⟨u,rfl,h1⟩:=h;exact⟨u,rfl,by unfold aS at h1;exact h1.1,by unfold ag;exact h1⟩
 case sub id off n=>obtain⟨u,rfl,h1⟩:=h;exact⟨u,rfl,by unfold aS at h1;exact h1.1,by unfold ag;exact h1⟩
 case kH id i j n=>obtain⟨u,rfl,h1⟩:=h;exact⟨u,rfl,by unfold aS at h1;exact h1.1,by unfold ag;exact h1⟩
 case emp=>obtain⟨u,rfl,a,rfl⟩:=h;exact⟨_,rfl,rfl,by unfold ag;exact⟨a,rfl⟩⟩
 case fn f dh=>obtain⟨u,rfl,vs,rfl,h1⟩:=h;exact⟨_,rfl,rfl,by unfold ag;exact⟨vs,rfl,h1⟩⟩
 case fnb f dh=>obtain⟨u,rfl,vs,rfl,h1⟩:=h;exact⟨_,rfl,rfl,by unfold ag;exact⟨vs,rfl,h1⟩⟩
theorem kb{a:AV}{u:Value}(ha:a.single=true)(h:ag ρ H O w a u):aX ρ H O w a [u]/\u.oneCell'=true:=by
 cases a<;>simp only[AV.single,reduceCtorEq]at ha
 case s x=>
  have h1:bh O w x u:=aC (by rintro rfl;simp at ha) h;exact⟨by unfold aX;exact⟨u,rfl,h1⟩,h1.one⟩
 case ptr id off=>unfold ag at h;exact⟨by unfold aX;exact⟨u,rfl,h⟩,by unfold aS at h;obtain⟨b,_,rfl,_⟩:=h;rfl⟩
 case j9 id off n i=>unfold ag at h;exact⟨by unfold aX;exact⟨u,rfl,h⟩,by unfold aS at h;obtain⟨_,b,_,rfl,_⟩:=h;rfl⟩
 case jG c m j=>unfold ag at h;exact⟨by unfold aX;exact⟨u,rfl,h⟩,by unfold aS at h;obtain⟨b,o,us,rfl,_⟩:=h;rfl⟩
 case vec id=>unfold ag at h;exact⟨by unfold aX;exact⟨u,rfl,h⟩,by unfold aS at h;exact h.1⟩
 case gC id i j=>unfold ag at h;exact⟨by unfold aX;exact⟨u,rfl,h⟩,by unfold aS at h;exact h.1⟩
 case part id lo n=>unfold ag at h;exact⟨by unfold aX;exact⟨u,rfl,h⟩,by unfold aS at h;exact h.1⟩
 case sub id off n=>unfold ag at h;exact⟨by unfold aX;exact⟨u,rfl,h⟩,by unfold aS at h;exact h.1⟩
 case kH id i j n=>unfold ag at h;exact⟨by unfold aX;exact⟨u,rfl,h⟩,by unfold aS at h;exact h.1⟩
 case emp=>unfold ag at h;exact⟨by unfold aX;exact⟨u,rfl,h⟩,by obtain⟨a,rfl⟩:=h;rfl⟩
 case fn f dh=>unfold ag at h;exact⟨by unfold aX;exact⟨u,rfl,h⟩,by obtain⟨vs,rfl,_⟩:=h;rfl⟩
 case fnb f dh=>unfold ag at h;exact⟨by unfold aX;exact⟨u,rfl,h⟩,by obtain⟨vs,rfl,_⟩:=h;rfl⟩
 case iz id=>unfold ag at h;exact⟨by unfold aX;exact⟨u,rfl,h⟩,by unfold aS at h;obtain⟨b,_,rfl,_⟩:=h;rfl⟩
 case tag id=>unfold ag at h;exact⟨by unfold aX;exact⟨u,rfl,h⟩,by unfold aS at h;exact h.2.1⟩
theorem gD{a:AV}(h:∀k n ws,a≠.af k n ws):a.wide=1:=by
 cases a<;>first|rfl|(exact(h _ _ _ rfl).elim)
end
section
variable{ρ aU:Nat->Value}{H H':a8}{G O O':Nat->Prop}{w w':World}{P:Program}
theorem zY{a:AV}(h:∀k n ws,a≠.af k n ws)(aT:List AV)(off:Nat):cellAt (a::aT) off=match off with|0=>some a|m+1=>cellAt aT m:=by
 cases a<;>first|(cases off<;>rfl)|(exact(h _ _ _ rfl).elim)
theorem uu{a:AV}(h:∀k n ws,a≠.af k n ws)(aT:List AV)(off:Nat)(v:AV):gJ (a::aT) off v=match off with|0=>some (v::aT)|m+1=>(gJ aT m v).map (a:: ·):=by
 cases a<;>first|(cases off<;>rfl)|(exact(h _ _ _ rfl).elim)
theorem qK{a:AV}(h:∀k n ws,a≠.af k n ws)(aT:List AV)(off:Nat):jt (a::aT) off=match off with|0=>none|m+1=>jt aT m:=by
 cases a<;>first|(cases off<;>rfl)|(exact(h _ _ _ rfl).elim)
theorem vC{a:AV}(h:∀k n ws,a≠.af k n ws)(aT:List AV)(off:Nat)(v:List Int):ka (a::aT) off v=match off with|0=>none|m+1=>(ka aT m v).map (a:: ·):=by
 cases a<;>first|(cases off<;>rfl)|(exact(h _ _ _ rfl).elim)
theorem sk(a:AV):(∃k n ws,a=.af k n ws)\/∀k n ws,a≠.af k n ws:=by
 cases a<;>first|(exact .inl ⟨_,_,_,rfl⟩)|(exact .inr (by simp))
theorem cW{k:IntKind}{n:Nat}{ws:List Int}{cs:List Value}:aX ρ H O w (.af k n ws) cs↔ws.length=n/\cs=ws.map (Value.int k):=by
 unfold aX;exact Iff.rfl
theorem lQ:∀(aD:List AV) (off:Nat) {cs:List Value} {v:AV},cellAt aD off=some v->aE ρ H O w aD cs->∃u,cs[off]? =some u/\u.oneCell'=true/\ag ρ H O w v u
 |[],off,cs,v,h,_=>by simp[cellAt]at h
 |a::aT,off,cs,v,h,hd=>by
  obtain⟨c1,c2,rfl,h1,h2⟩:=aq.1 hd;rcases sk a with⟨k,n,ws,rfl⟩|ha;obtain⟨hl,rfl⟩:=cW.1 h1;simp only[cellAt,cond_eq_ite]at h;split at h;rename_i br;have br:off<n:=by simpa[Nat.blt,Nat.lt_iff_add_one_le]using br
  simp only[Option.some.injEq]at h;subst h;have hx:off<ws.length:=by omega
  exact⟨.int k ws[off],by rw[getElem?_append_left (by simpa using hx)];simp[hx],rfl,by rw[show ws.getD off 0=ws[off]from by simp[List.getD,hx]];exact aK (.int _ _)⟩;rename_i br;have br:¬off<n:=by simpa[Nat.blt,Nat.lt_iff_add_one_le]using br
  have⟨u,h3,h4⟩:=lQ aT (off - n) h h2;exact⟨u,by rw[getElem?_append_right (by simp;omega)];simpa[hl]using h3,h4⟩;rw[zY ha]at h;obtain⟨u,rfl,h3,h4⟩:=fK h1 (gD ha) ha;cases off with
  |zero=>simp only[Option.some.injEq]at h;subst h;exact⟨u,rfl,h3,h4⟩|succ m=>
   have⟨u',h5,h6⟩:=lQ aT m h h2;exact⟨u',by simpa using h5,h6⟩
theorem mE:∀(aD:List AV) (off:Nat) {cs:List Value} {v:AV} {u:Value} {eX:List AV},gJ aD off v=some eX->aE ρ H O w aD cs->v.single=true->ag ρ H O w v u->
 off<cs.length/\aE ρ H O w eX (cs.set off u)
 |[],off,cs,v,u,eX,h,_,_,_=>by simp[gJ]at h
 |a::aT,off,cs,v,u,eX,h,hd,hv,hu=>by
  obtain⟨c1,c2,rfl,h1,h2⟩:=aq.1 hd;rcases sk a with⟨k,n,ws,rfl⟩|ha;obtain⟨hl,rfl⟩:=cW.1 h1;simp only[gJ,cond_eq_ite]at h;split at h;rename_i br;have br:off<n:=by simpa[Nat.blt,Nat.lt_iff_add_one_le]using br
  split at h;rename_i k' l x hx;split at h;rename_i hk;obtain rfl:=bu hk;simp only[Option.some.injEq]at h;subst h;obtain rfl:=cp hx hu;refine⟨by simp;omega,aq.2 ⟨(ws.set off x).map (Value.int k),c2, ?_,cW.2 ⟨by simp[hl],rfl⟩,h2⟩⟩;rw[List.set_append_left _ _ (by simp;omega),List.map_set];cases h;cases h;rename_i br;have br:¬off<n:=by simpa[Nat.blt,Nat.lt_iff_add_one_le]using br
  simp only[map_eq_some_iff]at h;obtain⟨ss,h3,rfl⟩:=h;have⟨h4,h5⟩:=mE aT (off - n) h3 h2 hv hu;refine⟨by simp;omega,aq.2 ⟨_,c2.set (off - n) u, ?_,cW.2 ⟨hl,rfl⟩,h5⟩⟩;rw[List.set_append_right _ _ (by simp;omega)];simp[hl];rw[uu ha]at h;obtain⟨u0,rfl,h3,h4⟩:=fK h1 (gD ha) ha;cases off with
  |zero=>
   simp only[Option.some.injEq]at h;subst h;exact⟨by simp,aq.2 ⟨[u],c2,rfl,(kb hv hu).1,h2⟩⟩
  |succ m=>
   simp only[map_eq_some_iff]at h;obtain⟨ss,h5,rfl⟩:=h;have⟨h6,h7⟩:=mE aT m h5 h2 hv hu;exact⟨by simp;omega,aq.2 ⟨[u0],c2.set m u,rfl,h1,h7⟩⟩
theorem oQ:∀(aD:List AV) (off:Nat) {cs:List Value} {k:IntKind} {n:Nat} {ws:List Int},jt aD off=some (k,n,ws)->aE ρ H O w aD cs->
 ws.length=n/\∃pre post,cs=pre++ws.map (Value.int k)++post/\pre.length=off
 |[],off,cs,k,n,ws,h,_=>by simp[jt]at h
 |a::aT,off,cs,k,n,ws,h,hd=>by
  obtain⟨c1,c2,rfl,h1,h2⟩:=aq.1 hd;rcases sk a with⟨k',n',nv,rfl⟩|ha;obtain⟨hl,rfl⟩:=cW.1 h1;simp only[jt,cond_eq_ite]at h;split at h;rename_i h0;have h0:off=0:=by simpa using h0
  subst h0;simp only[Option.some.injEq,Prod.mk.injEq]at h;obtain⟨rfl,rfl,rfl⟩:=h;exact⟨hl,[],c2,by simp,rfl⟩;split at h;cases h;rename_i br;have br:¬off<n':=by simpa[Nat.blt,Nat.lt_iff_add_one_le]using br
  obtain⟨h3,pre,post,rfl,h4⟩:=oQ aT (off - n') h h2;exact⟨h3,nv.map (Value.int k')++pre,post,by simp,by simp;omega⟩;rw[qK ha]at h;obtain⟨u0,rfl,h3,h4⟩:=fK h1 (gD ha) ha;cases off with
  |zero=>cases h
  |succ m=>
   obtain⟨h3,pre,post,rfl,h4⟩:=oQ aT m h h2;exact⟨h3,u0::pre,post,by simp,by simp[h4]⟩
theorem nO:∀(aD:List AV) (off:Nat) {pre post:List Value} {k:IntKind} {n:Nat} {ws nv:List Int} {eX:List AV},jt aD off=some (k,n,ws)->ka aD off nv=some eX->nv.length=ws.length->
 aE ρ H O w aD (pre++ws.map (Value.int k)++post)->pre.length=off->aE ρ H O w eX (pre++nv.map (Value.int k)++post)
 |[],off,_,_,k,n,ws,_,_,h,_,_,_,_=>by simp[jt]at h
 |a::aT,off,pre,post,k,n,ws,nv,eX,h,hs,bx,hd,hp=>by
  have⟨c1,c2,hc,h1,h2⟩:=aq.1 hd;rcases sk a with⟨k',n',ws1,rfl⟩|ha;obtain⟨hl,rfl⟩:=cW.1 h1;simp only[jt,ka,cond_eq_ite]at h hs;split at h;rename_i h0;have h0':off=0:=by simpa using h0
  subst h0';simp only[Option.some.injEq,Prod.mk.injEq]at h;obtain⟨rfl,rfl,rfl⟩:=h;rw[if_pos h0]at hs;simp only[Option.some.injEq]at hs;subst hs;obtain rfl:pre=[]:=List.eq_nil_of_length_eq_zero hp;simp only[nil_append]at hc ⊢;have:=List.append_cancel_left hc;subst this;exact aq.2 ⟨_,post,rfl,cW.2 ⟨by omega,rfl⟩,h2⟩;rename_i h0;rw[if_neg h0]at hs;split at h;cases h;rename_i br;rw[if_neg br]at hs;have br:¬off<n':=by simpa[Nat.blt,Nat.lt_iff_add_one_le]using br
  simp only[map_eq_some_iff]at hs;obtain⟨ss,h3,rfl⟩:=hs;have hpl:(ws1.map (Value.int k')).length<=pre.length:=by simp;omega
  obtain⟨aeB,rfl⟩:∃aeB,pre=ws1.map (Value.int k')++aeB:=by
   rw[append_assoc]at hc;have⟨x,hx⟩:=List.prefix_of_prefix_length_le (⟨_,rfl⟩:ws1.map (Value.int k')<+:ws1.map (Value.int k')++c2) (⟨_,hc⟩:pre<+:_) hpl;exact⟨x,hx.symm⟩
  simp only[append_assoc]at hc ⊢;have hc':=List.append_cancel_left hc;subst hc';have zW:aeB.length=off - n':=by simp at hp;omega
  exact aq.2 ⟨_,_,rfl,h1,by simpa using nO aT (off - n') h h3 bx (by simpa using h2) zW⟩;rw[qK ha]at h;rw[vC ha]at hs;obtain⟨u0,rfl,h3,h4⟩:=fK h1 (gD ha) ha;cases off with
  |zero=>cases h
  |succ m=>
   simp only[map_eq_some_iff]at hs;obtain⟨ss,h5,rfl⟩:=hs;cases pre with
   |nil=>simp at hp|cons p aeB=>
    simp only[cons_append,List.cons.injEq,nil_append]at hc;obtain⟨rfl,hc'⟩:=hc;simp only[length_cons,Nat.add_right_cancel_iff]at hp;rw[<-hc']at h2;exact aq.2 ⟨[p],_,rfl,h1,by simpa using nO aT m h h5 bx (by simpa using h2) hp⟩
theorem ahK{aD jy eX:List AV}{off:Nat}{cs vs:List Value}(h:aej aD off jy=some eX)(hd:aE ρ H O w aD cs)(hb:aE ρ H O w jy vs):
 off+vs.length<=cs.length/\aE ρ H O w eX (cs.take off++vs++cs.drop (off+vs.length)):=by
 unfold aej at h;split at h;rename_i k n ws x;split at h;rename_i k' li z hx;rw[cond_eq_ite]at h;split at h;rename_i hc;simp only[and_eq_true]at hc;have⟨hk,br⟩:=hc;have br:off<n:=Nat.lt_of_lt_of_le (Nat.lt_succ_self _) (le_of_ble_eq_true br);obtain rfl:=bu hk;simp only[Option.some.injEq]at h;subst h;obtain⟨c1,c2,rfl,h1,h2⟩:=aq.1 hd;obtain rfl:=aG.1 h2;obtain⟨hl,rfl⟩:=cW.1 h1;obtain⟨d1,d2,rfl,h3,h4⟩:=aq.1 hb;obtain rfl:=aG.1 h4
 have hv:d1=[.int k z]:=by
  cases x with
  |s y=>
   unfold aX at h3;obtain⟨u,rfl,h5⟩:=h3;cases y<;>simp only[AV.cD,Option.some.injEq,Prod.mk.injEq,reduceCtorEq]at hx
   all_goals
    obtain⟨rfl,_,rfl⟩:=hx;cases h5;rfl
  |_=>simp only[AV.cD,reduceCtorEq]at hx
 subst hv;simp only[append_nil,length_map,List.length_singleton];refine⟨by omega,aq.2 ⟨_,[],(append_nil _).symm,cW.2 ⟨by rw[List.length_set];exact hl, ?_⟩,aG.2 rfl⟩⟩;rw[List.map_set,List.set_eq_take_append_cons_drop,if_pos (by rw[length_map];omega),append_assoc];rfl;cases h;cases h;cases h
theorem vD{aD jy eX:List AV}{off:Nat}{cs vs:List Value}(h:uF aD off jy=some eX)(hd:aE ρ H O w aD cs)(hb:aE ρ H O w jy vs):
 off+vs.length<=cs.length/\aE ρ H O w eX (cs.take off++vs++cs.drop (off+vs.length)):=by
 unfold uF at h;split at h;rename_i r hr;simp only[Option.some.injEq]at h;subst h;exact ahK hr hd hb;split at h;rename_i pre post h1 h2;simp only[Option.some.injEq]at h;subst h;have hl:=ja hb;rw[<-hl]at h2;have⟨h3,h4⟩:=fJ _ _ h1 hd;have⟨h5,h6⟩:=fI _ _ h2 hd;exact⟨h5,fH.2 ⟨_,_,rfl,fH.2 ⟨_,_,rfl,h4,hb⟩,h6⟩⟩;cases h
theorem vE(aD:List AV){cs:List Value}(h:aE ρ H O w aD cs):∀v∈cs,v.oneCell'=true:=by
 induction aD generalizing cs with
 |nil=>rw[aG.1 h];simp|cons a aT ih=>
  obtain⟨c1,c2,rfl,h1,h2⟩:=aq.1 h;intro v hv;rcases mem_append.1 hv with hv|hv;rcases sk a with⟨k,n,ws,rfl⟩|ha;obtain⟨hl,rfl⟩:=cW.1 h1;obtain⟨x,_,rfl⟩:=mem_map.1 hv;rfl;obtain⟨u,rfl,h3,_⟩:=fK h1 (gD ha) ha;simp only[mem_singleton]at hv;subst hv;exact h3;exact ih h2 v hv
theorem qM{x:AV}{v:Value}{aD:List AV}(h:x.jx =some aD)(hd:ag ρ H O w x v):aE ρ H O w aD v.cells.toList:=by
 have one:∀a,a.single=true->ag ρ H O w a v->aE ρ H O w [a] v.cells.toList:=by
  intro a ha hv;have⟨h1,h2⟩:=kb ha hv;have:v.cells.toList=[v]:=by cases v<;>first|rfl|(simp[Value.oneCell']at h2)
  rw[this];exact aq.2 ⟨[v],[],rfl,h1,aG.2 rfl⟩
 cases x with
 |agg ss=>
  simp only[AV.jx,Option.some.injEq]at h;subst h;unfold ag at hd;obtain⟨cs,rfl,h1⟩:=hd;simpa[Value.cells]using h1
 |af k n ws=>
  simp only[AV.jx,Option.some.injEq]at h;subst h;unfold ag at hd;obtain⟨hl,rfl⟩:=hd;exact aq.2 ⟨ws.map (Value.int k),[],by simp[Value.cells],cW.2 ⟨hl,rfl⟩,aG.2 rfl⟩
 |bd _=>simp[AV.jx]at h|s x=>cases x<;>simp only[AV.jx,Option.some.injEq,reduceCtorEq]at h<;>subst h<;>exact one _ rfl hd
 |_=>simp only[AV.jx,Option.some.injEq]at h;subst h;exact one _ rfl hd
theorem lR{aD:List AV}{cs:List Value}(h:aE ρ H O w aD cs):ag ρ H O w (.lr aD) (.agg cs.toArray):=by
 unfold AV.lr;split;obtain⟨c1,c2,rfl,h1,h2⟩:=aq.1 h;obtain rfl:=aG.1 h2;obtain⟨hl,rfl⟩:=cW.1 h1;unfold ag;exact⟨hl,by simp⟩;unfold ag;exact⟨cs,rfl,h⟩
end
def World.cI(w:World)(b:Nat)(o:Obj):World:={w with heap:=w.heap.setIfInBounds b o}
theorem aeC{w:World}{b:Nat}{cells:Array Value}{e:TypeId}{fr:Nat×Nat}(hb:w.heap[b]? =some (.cells cells e fr))(hu:unm fr cells.size){off:Nat}(ho:off<cells.size):
 w.frozen? ⟨b,off,none⟩=false:=by
 have:=hu off ho;simp only[World.frozen?,hb,Bool.and_eq_false_imp,decide_eq_true_eq,decide_eq_false_iff_not];intro h1 h2;exact this ⟨h1,h2⟩
theorem abG{w:World}{b:Nat}{cells:Array Value}{e:TypeId}{fr:Nat×Nat}(hb:w.heap[b]? =some (.cells cells e fr))(off:Nat)(v:Value):
 w.setCell ⟨b,off,none⟩ v=World.cI w b (.cells (cells.setIfInBounds off v) e fr):=by
 simp only[World.setCell,World.cI];congr 1;apply Array.ext_getElem?;intro i;rw[Array.getElem?_modify,Array.getElem?_setIfInBounds];by_cases h:b=i;subst h;have⟨br,vF⟩:=Array.getElem?_eq_some_iff.1 hb;simp[vF,br];simp[h]
theorem fk{w:World}{b:Nat}{o o':Obj}(hb:w.heap[b]? =some o):(World.cI w b o').heap[b]? =some o':=by
 have br:b<w.heap.size:=(Array.getElem?_eq_some_iff.1 hb).1;simp[World.cI,br]
theorem iC{w:World}{b i:Nat}{o:Obj}(h:i≠b):(World.cI w b o).heap[i]? =w.heap[i]? :=by
 simp only[World.cI];rw[Array.getElem?_setIfInBounds_ne (by omega)]
theorem jb{w:World}{b:Nat}{o:Obj}:(World.cI w b o).heap.size=w.heap.size:=by simp[World.cI]
theorem xR{w:World}{b:Nat}{o o':Obj}:World.cI (World.cI w b o) b o'=World.cI w b o':=by
 simp only[World.cI];congr 1;apply Array.ext_getElem?;intro i;by_cases h:b=i;subst h;simp[Array.getElem?_setIfInBounds];simp[h]
theorem tu{w:World}{b:Nat}{o:Obj}(hb:w.heap[b]? =some o):World.cI w b o=w:=by
 have:w.heap.setIfInBounds b o=w.heap:=by
  apply Array.ext_getElem?;intro i;by_cases h:b=i;subst h;have⟨br,vF⟩:=Array.getElem?_eq_some_iff.1 hb;simp[vF,br];rw[Array.getElem?_setIfInBounds_ne (by omega)]
 simp only[World.cI,this]
theorem xS{P:Program}{w:World}{b:Nat}{cells:List Value}{e:TypeId}{fr:Nat×Nat}(hb:w.heap[b]? =some (.cells cells.toArray e fr))(hu:unm fr cells.length){off:Nat}(ho:off<cells.length)
 {v:Value} (hv:v.oneCell'=true):(store ⟨b,off,none⟩ v).run P w=.ok () (World.cI w b (.cells (cells.set off v).toArray e fr)):=by
 rw[run_store P w _ v _ hv];have hc:w.cell? ⟨b,off,none⟩=some cells[off]:=by simp[World.cell?,hb,ho]
 have hf:=aeC hb (by simpa using hu) (off:=off) (by simpa using ho);simp only[hc,hf,Bool.false_eq_true,if_false,abG hb,List.setIfInBounds_toArray]
theorem bo(b off i:Nat):(⟨b,off,none⟩:Addr).add i=⟨b,off+i,none⟩:=by
 unfold Addr.add;split;rename_i h;subst h;rfl;rfl
theorem bW{P:Program}{b:Nat}{e:TypeId}{fr:Nat×Nat}(off:Nat):∀(vs:List Value) (i:Nat) {w:World} {cells:List Value},w.heap[b]? =some (.cells cells.toArray e fr)->unm fr cells.length->
 off+i+vs.length<=cells.length->(∀v∈vs,v.oneCell'=true)->
 (storeCells ⟨b,off,none⟩ vs i).run P w=.ok () (World.cI w b (.cells (cells.take (off+i)++vs++cells.drop (off+i+vs.length)).toArray e fr))
 |[],i,w,cells,hb,hu,hl,hv=>by
  simp only[storeCells,Sem.run_pure,length_nil,add_zero,append_nil,List.take_append_drop];rw[tu hb]
 |v::vs,i,w,cells,hb,hu,hl,hv=>by
  simp only[length_cons]at hl;have br:off+i<cells.length:=by omega
  simp only[storeCells,Sem.run_bind,bo,xS hb hu br (hv v (by simp)),Result.andThen_ok];rw[bW off vs (i+1) (fk hb) (by simpa using hu) (by simp;omega) (λx hx=>hv x (by simp[hx])),xR];congr 4;rw[<-add_assoc,List.take_set,List.drop_set_of_lt (by omega)]
  have e1:(cells.take (off+i+1)).set (off+i) v=cells.take (off+i)++[v]:=by
   rw[List.take_succ_eq_append_getElem br];rw[List.set_append_right _ _ (by simp;omega)];simp[Nat.min_eq_left (Nat.le_of_lt br)]
  rw[e1];simp only[append_assoc,length_cons,cons_append,nil_append];rw[show off+i+1+vs.length=off+i+(vs.length+1)from by omega]
theorem lS{w:World}{o:Obj}:(w.alloc o).heap[w.heap.size]? =some o:=by
 show(w.heap.push o)[w.heap.size]? =_;simp
theorem alloc_old{w:World}{o:Obj}{i:Nat}(h:i<w.heap.size):(w.alloc o).heap[i]? =w.heap[i]? :=by
 show(w.heap.push o)[i]? =_;rw[Array.getElem?_push,if_neg (by omega)]
theorem fL{w:World}{o:Obj}:(w.alloc o).heap.size=w.heap.size+1:=by
 show(w.heap.push o).size=_;simp
section
variable{ρ aU:Nat->Value}{H H':a8}{G O O':Nat->Prop}{w w':World}{P:Program}
def aP(H:a8)(id:Nat)(o:au):a8:=λj=>if j=id then some o else H j
theorem zZ{id:Nat}{o o':au}(ho:H id=some o)(ha:o.alive=o'.alive)(b:Nat):Own ρ (aP H id o') b↔Own ρ H b:=by
 constructor;rintro⟨j,x,hx,h1,h2⟩;unfold aP at hx;split at hx;rename_i hj;subst hj;simp only[Option.some.injEq]at hx;subst hx;exact⟨j,o,ho,ha.trans h1,h2⟩;exact⟨j,x,hx,h1,h2⟩;rintro⟨j,x,hx,h1,h2⟩;by_cases hj:j=id;subst hj;rw[ho]at hx;cases hx;exact⟨j,o',by simp[aP],ha.symm.trans h1,h2⟩;exact⟨j,x,by simp[aP,hj,hx],h1,h2⟩
theorem z6{id:Nat}{o o':au}(ho:H id=some o)(ha:o.alive=o'.alive):bg ρ (aP H id o') G=bg ρ H G:=by
 funext b;exact propext (or_congr_left (zZ ho ha b))
theorem Good.write(hs:Sat ρ H G w){id:Nat}{o o':au}(ho:H id=some o)(ha:o.alive=true)(ha':o'.alive=true){b:Nat}(hb:eQ (ρ id)=some b)
 (sn:∀c' e',o'=.vec c' e'->∃c e,o=.vec c e/\c'.n=c.n/\c'.size=c.size)
 {sq:Obj} {r:AV} {v:Value}
 (ej:iB ρ (aP H id o') (bg ρ H G) (World.cI w b sq) (ρ id) o')
 (hr:ag ρ (aP H id o') (bg ρ H G) (World.cI w b sq) r v):
 Good ρ H G w (aP H id o') r v (World.cI w b sq):=by
 have hh:=z6 (ρ:=ρ) (G:=G) ho (ha.trans ha'.symm);have dR:Own ρ H b:=⟨id,o,ho,ha,hb⟩
 have st:Step ρ H (bg ρ H G) w ρ (aP H id o') (bg ρ (aP H id o') G) (World.cI w b sq):=by
  refine⟨λ_ _ _=>rfl,λj x hx=> ?_,λc hc=>.inl (by rw[hh]at hc;exact hc),λc hc hO=> ?_,by rw[jb];exact le_refl _⟩;by_cases hj:j=id;subst hj;rw[ho]at hx;cases hx;exact⟨o',by simp[aP],sn⟩;exact⟨x,by simp[aP,hj,hx],λc' e' hc=>⟨c',e',hc,rfl,rfl⟩⟩;exact iC (λe=>hO (.inl (by subst e;exact dR)))
 refine⟨ρ,⟨λj x hx=> ?_,λi j oi oj c h1 h2 h3 h4 h5 h6=> ?_,λc hc=> ?_,λc hc=> ?_⟩,by rw[hh];exact hr,st,⟨rfl,rfl,rfl,λc hc hO=>iC (λe=>hO (by subst e;exact dR))⟩⟩;by_cases hj:j=id;subst hj;simp only[aP,if_true,Option.some.injEq]at hx;subst hx;rw[hh];exact ej;have hx':H j=some x:=by simpa[aP,hj]using hx
 refine(hs.obj j x hx').step st (λc vG hc=>iC (λe=>hj ?_));subst e;exact hs.inj j id x o c hx' ho vG ha hc hb
 have f:∀i oi,aP H id o' i=some oi->oi.alive=true->∃x,H i=some x/\x.alive=true:=by
  intro i oi hi vG;by_cases fh:i=id;subst fh;exact⟨o,ho,ha⟩;exact⟨oi,by simpa[aP,fh]using hi,vG⟩
 have⟨x,hx,hxa⟩:=f i oi h1 h3;have⟨y,hy,hya⟩:=f j oj h2 h4;exact hs.inj i j x y c hx hy hxa hya h5 h6;exact hs.apart c ((zZ ho (ha.trans ha'.symm) c).1 hc);rw[jb];exact hs.low c hc
theorem Good.fresh(hs:Sat ρ H G w){n:Nat}(hn:H n=none){o:au}{obj:Obj}{aa:Value}{r:AV}{v:Value}
 {w1:World} (hw:w1.heap=w.heap) (ht:w1.tape=w.tape) (hos:w1.os=w.os) (nw:w1.output=w.output)
 (dX:∀b,eQ aa=some b->b=w.heap.size)
 (ej:iB (λj=>if j=n then aa else ρ j) (aP H n o) (bg (λj=>if j=n then aa else ρ j) (aP H n o) G) (w1.alloc obj) aa o)
 (hr:ag (λj=>if j=n then aa else ρ j) (aP H n o) (bg (λj=>if j=n then aa else ρ j) (aP H n o) G) (w1.alloc obj) r v):
 Good ρ H G w (aP H n o) r v (w1.alloc obj):=by
 have bZ:(w1.alloc obj).heap.size=w.heap.size+1:=by rw[fL,hw]
 have hold:∀i,i<w.heap.size->(w1.alloc obj).heap[i]? =w.heap[i]? :=λi hi=>by rw[alloc_old (by rw[hw];exact hi),hw]
 have ne:∀j x,H j=some x->j≠n:=λj x hx e=>by subst e;rw[hn]at hx;cases hx
 have qN:∀b,Own (λj=>if j=n then aa else ρ j) (aP H n o) b->Own ρ H b\/b=w.heap.size:=by
  rintro b ⟨j,x,hx,h1,h2⟩;by_cases hj:j=n;subst hj;simp only[if_true]at h2;exact .inr (dX b h2);simp only[aP,hj,if_false]at hx h2;exact .inl ⟨j,x,hx,h1,h2⟩
 have st:Step ρ H (bg ρ H G) w (λj=>if j=n then aa else ρ j) (aP H n o) (bg (λj=>if j=n then aa else ρ j) (aP H n o) G) (w1.alloc obj):=by
  refine⟨λj x hx=>by simp[ne j x hx],λj x hx=>⟨x,by simp[aP,ne j x hx,hx],λc' e' hc=>⟨c',e',hc,rfl,rfl⟩⟩,λb hb=> ?_,λb hb _=>hold b hb,by omega⟩;rcases hb with hb|hb;rcases qN b hb with h1|h1;exact .inl (.inl h1);exact .inr (by omega);exact .inl (.inr hb)
 refine⟨_,⟨λj x hx=> ?_,λi j oi oj b h1 h2 h3 h4 h5 h6=> ?_,λb hb=> ?_,λb hb=> ?_⟩,hr,st,⟨hos,ht,nw,λb hb _=>hold b hb⟩⟩;by_cases hj:j=n;subst hj;simp only[aP,if_true,Option.some.injEq]at hx;subst hx;simp only[if_true];exact ej;have hx':H j=some x:=by simpa[aP,hj]using hx
 simp only[hj,if_false];exact(hs.obj j x hx').step st (λb vG hb=>hold b (gX hs ⟨j,x,hx',vG,hb⟩));by_cases hi:i=n<;>by_cases hj:j=n;rw[hi,hj];simp only[aP,hi,hj,if_true,if_false]at h1 h2 h5 h6;have e:=dX b h5;have:=gX hs ⟨j,oj,h2,h4,h6⟩;omega;simp only[aP,hi,hj,if_true,if_false]at h1 h2 h5 h6;have e:=dX b h6;have:=gX hs ⟨i,oi,h1,h3,h5⟩;omega;simp only[aP,hi,hj,if_false]at h1 h2 h5 h6;exact hs.inj i j oi oj b h1 h2 h3 h4 h5 h6;rcases qN b hb with h1|h1;exact hs.apart b h1;intro hg;have:=hs.low b hg;omega;have:=hs.low b hb;omega
end
def fp(P:Program)(ρ:Nat->Value)(H:a8)(O:Nat->Prop)(w:World)(q:bP)(s:Sem Value):Prop:=
 q.up=[]/\q.new=[]/\∃v,s.run P w=.ok v w/\∀base,ag ρ H O w (q.r base) v
section
variable{ρ aU:Nat->Value}{H H':a8}{G O O':Nat->Prop}{w w':World}{P:Program}
theorem aR{ab:List Prop}{r:AV}{q:bP}{s:Sem Value}(h:(plain ab r).eval H=some q)(f:bE ab->∃v,s.run P w=.ok v w/\ag ρ H O w r v)(hn:bE q.ab):fp P ρ H O w q s:=by
 simp only[plain,RM.eval,Option.some.injEq]at h;subst h;have⟨v,h1,h2⟩:=f hn;exact⟨rfl,rfl,v,h1,λ_=>h2⟩
theorem gO{t:TypeId}{b:Bool}(h:gU P t=some b)(w:World):(isAgg t).run P w=.ok b w:=by
 unfold gU at h;split at h<;>first|(cases h;rename_i ht;simp[isAgg,run_underlying ht];done)|cases h
theorem pA{f:Nat->Value}{n j:Nat}{v:Value}(h:((List.range n).map f)[j]? =some v):j<n/\v=f j:=by
 by_cases hj:j<n;rw[getElem?_map,List.getElem?_range hj]at h;simp at h;exact⟨hj,h.symm⟩;rw[getElem?_eq_none (by simp;omega)]at h;cases h
theorem run_sizeOf{t:TypeId}{n:Nat}(h:dO P t=some n)(w:World):(sizeOf t).run P w=.ok n w:=by
 simp only[dO,map_eq_some_iff]at h;obtain⟨i,hi,rfl⟩:=h;simp[sizeOf,typeInfo,hi]
theorem dm{b:Nat}{cells:List Value}{e:TypeId}{fr:Nat×Nat}(hb:w.heap[b]? =some (.cells cells.toArray e fr))(off:Nat):w.cell? ⟨b,off,none⟩=cells[off]? :=by
 simp[World.cell?,hb]
theorem ju{t:TypeId}{n b off:Nat}{cs:List Value}(ha:gU P t=some true)(hs:dO P t=some n)(hl:cs.length=n)(hc:∀j v,cs[j]? =some v->w.cell? ⟨b,off+j,none⟩=some v):
 (Instr.loadAt t (.pointer (some ⟨b,off,none⟩))).run P w=.ok (.agg cs.toArray) w:=by
 subst hl;have:=run_loadCells_list (P:=P) (w:=w) ⟨b,off,none⟩ cs (λj v hj=>by rw[bo];exact hc j v hj);simp[Instr.loadAt,Instr.sureAddr,loadVar,gO ha,run_sizeOf hs,this]
theorem jv{t:TypeId}{b off:Nat}{v:Value}(ha:gU P t=some false)(hc:w.cell? ⟨b,off,none⟩=some v):
 (Instr.loadAt t (.pointer (some ⟨b,off,none⟩))).run P w=.ok v w:=by
 simp[Instr.loadAt,Instr.sureAddr,loadVar,gO ha,hc]
theorem oR(hs:Sat ρ H G w){id b:Nat}{aD:List AV}{e:TypeId}(ho:H id=some (.ak aD e))(hb:ρ id=.pointer (some ⟨b,0,none⟩)):
 ∃cells fr,w.heap[b]? =some (.cells cells.toArray e fr)/\unm fr cells.length/\aE ρ H (bg ρ H G) w aD cells:=by
 have⟨b',cells,fr,h1,h2⟩:=hs.obj id _ ho;rw[hb]at h1;cases h1;exact⟨cells,fr,h2⟩
theorem ahL(hs:Sat ρ H G w){id i b f n cap:Nat}{c:ba}{e:TypeId}(ho:H id=some (.vec c e))(hi:i<c.n)(dX:ρ id=.slice (some ⟨b,f,none⟩) n cap):
 ∃us:Nat->Nat->Value,∀i j,i<c.n->j<c.size->w.cell? ⟨b,f+i*c.size+j,none⟩=some (us i j)/\bh (bg ρ H G) w (c.cell i j) (us i j):=by
 have⟨a,ahG,h1,h2,h3,h4⟩:=hs.obj id _ ho;rw[dX]at h1;cases h1;rcases h4 with rfl|⟨b',o,cells,fr,us,h5,h6,h7,h8,h9⟩;omega;cases h5;exact⟨us,λi j hi hj=>⟨by rw[dm h6];exact(h9 i j hi hj).1,(h9 i j hi hj).2⟩⟩
theorem abH(n:Nat)(f:Nat->SV)(us:Nat->Value)(h:∀i,i<n->bh O w (f i) (us i)):aE ρ H O w ((List.range n).map λi=>.s (f i)) ((List.range n).map us):=by
 induction n with
 |zero=>simp[aG]|succ n ih=>
  rw[List.range_succ,map_append,map_append];exact fH.2 ⟨_,_,rfl,ih (λi hi=>h i (by omega)),aq.2 ⟨[us n],[],rfl,by unfold aX;exact⟨_,rfl,h n (by omega)⟩,aG.2 rfl⟩⟩
theorem nk{a b:Nat}(h:a<b):a.blt b=true:=Nat.ble_eq_true_of_le h
theorem qO{a b:Nat}(h:b<=a):a.blt b=false:=by
 cases hh:a.blt b;rfl;exact absurd (le_of_ble_eq_true hh) (by omega)
theorem p9:∀(cs:List CK) (x:CL cs) (us:Nat->Value) (off:Nat),(∀l,l<CL.wide cs->bh O w (CL.cell cs x l) (us (off+l)))->bE (eV (CL.aD cs x))->
 aE ρ H O w (CL.aD cs x) ((List.range (CL.wide cs)).map λl=>us (off+l))
 |[],x,us,off,h,hn=>aG.2 (by simp[CL.wide])
 |c::cs,x,us,off,h,hn=>by
  have key:∀a:AV,CL.aD (c::cs) x=a::CL.aD cs x.2->c.wide=1->(∀y,bh O w (c.cell x.1 0) y->aX ρ H O w a [y])->bE (eV (CL.aD cs x.2))->
   aE ρ H O w (CL.aD (c::cs) x) ((List.range (CL.wide (c::cs))).map λl=>us (off+l)):=by
   intro a e hw ha z7;rw[e];simp only[CL.wide,hw];rw[List.range_add,map_append,List.map_map];refine aq.2 ⟨_,_,rfl, ?_, ?_⟩;have:=h 0 (by simp only[CL.wide];omega);simp only[CL.cell,hw,nk (show 0<1 from by omega),cond_true]at this;simpa using ha _ this;have ih:=p9 cs x.2 us (off+1) (λl hl=> ?_) z7;have e2:(λl=>us (off+1+l))=(λl=>us (off+l))∘(λx=>1+x):=by funext l;simp[Function.comp,add_assoc]
   rw[e2]at ih;exact ih;have:=h (1+l) (by simp only[CL.wide];omega);simp only[CL.cell,hw]at this;rw[qO (show 1<=1+l from by omega),cond_false,show 1+l - 1=l from by omega,<-add_assoc]at this;exact this
  have one:∀{sv:SV} {y:Value},bh O w sv y->aX ρ H O w (.s sv) [y]:=λhy=>by unfold aX;exact⟨_,rfl,hy⟩
  cases c with
  |arr k n=>
   have⟨x1,x2⟩:=x;change List Int at x1;simp only[CL.aD,eV]at hn ⊢;have⟨hl,z7⟩:=hn;simp only[CL.wide,CK.wide];rw[List.range_add,map_append,List.map_map];refine aq.2 ⟨_,_,rfl, ?_, ?_⟩;unfold aX;refine⟨hl, ?_⟩;refine List.ext_getElem (by simp[hl]) λi h1 h2=> ?_;have hi:i<n:=by simpa using h1
   have:=h i (by simp only[CL.wide,CK.wide];omega);simp only[CL.cell,CK.wide]at this;rw[nk hi,cond_true]at this;simp only[CK.cell]at this;have hx:x1.getD i 0=x1[i]'(by rw[hl];exact hi):=by simp[List.getD,hl,hi]
   rw[hx]at this;simp only[List.getElem_map,List.getElem_range];generalize us (off+i)=u at this ⊢;cases this;rfl;have ih:=p9 cs x2 us (off+n) (λl hl=> ?_) z7;have e2:(λl=>us (off+n+l))=(λl=>us (off+l))∘(λx=>n+x):=by funext l;simp[Function.comp,add_assoc]
   rw[e2]at ih;exact ih;have:=h (n+l) (by simp only[CL.wide,CK.wide];omega);simp only[CL.cell,CK.wide]at this;rw[qO (show n<=n+l from by omega),cond_false,show n+l - n=l from by omega,<-add_assoc]at this;exact this
  |int k=>exact key _ rfl rfl (λy hy=>one hy) (by simpa[CL.aD,eV]using hn)
  |bool=>exact key _ rfl rfl (λy hy=>one hy) (by simpa[CL.aD,eV]using hn)
  |str=>exact key _ rfl rfl (λy hy=>one hy) (by simpa[CL.aD,eV]using hn)
  |af k=>exact key _ rfl rfl (λy hy=>one hy) (by simpa[CL.aD,eV]using hn)
  |strs=>exact key _ rfl rfl (λy hy=>one hy) (by simpa[CL.aD,eV]using hn)
  |bS=>exact key _ rfl rfl (λy hy=>one hy) (by simpa[CL.aD,eV]using hn)
  |rows ds=>exact key _ rfl rfl (λy hy=>one hy) (by simpa[CL.aD,eV]using hn)
theorem tv{xQ:Bool}{c:ba}{i j sz:Nat}{t:TypeId}{q:bP}(h:(qI xQ c i j sz).eval H=some q)(hn:bE q.ab)(qC:gU P t=some xQ)(bZ:dO P t=some sz){b o:Nat}{us:Nat->Value}
 (hc:∀l,l<c.size->w.cell? ⟨b,o+l,none⟩=some (us l)/\bh O w (c.cell i l) (us l)):fp P ρ H O w q (Instr.loadAt t (.pointer (some ⟨b,o+j,none⟩))):=by
 unfold qI at h;cases xQ;simp only[cond_false]at h;rw[cond_eq_ite]at h;split at h;rename_i br;have br:j<c.size:=by simpa[Nat.blt,Nat.lt_iff_add_one_le]using br
 exact aR h (λ_=>⟨us j,jv qC (hc j br).1,aK (hc j br).2⟩) hn;cases h;simp only[cond_true]at h;split at h;rename_i cs xs;split at h;rename_i ss hss;refine aR h (λavi=> ?_) hn;have hd:=p9 (ρ:=ρ) (H:=H) cs (xs.getD i (CL.d cs)) us 0 (λl hl=>by rw[zero_add];exact(hc l hl).2) avi;simp only[zero_add]at hd;simp only[bind_eq_some_iff]at hss;have⟨s1,h4,h5⟩:=hss;have⟨h6,h7⟩:=fI _ j h4 hd;have⟨h8,h9⟩:=fJ s1 sz h5 h7;refine⟨_,ju (cs:=(((List.range (CL.wide cs)).map us).drop j).take sz) qC bZ (by simp at h8 ⊢;omega) (λl v hv=> ?_),lR h9⟩;rw[getElem?_take]at hv;split at hv;rw[List.getElem?_drop]at hv;obtain⟨br,rfl⟩:=pA hv;rw[add_assoc];exact(hc (j+l) br).1;cases hv;cases h;rw[cond_eq_ite]at h;split at h;rename_i hle;have hle:=le_of_ble_eq_true hle;refine aR h (λ_=>⟨_,ju (cs:=(List.range sz).map λl=>us (j+l)) qC bZ (by simp) (λl v hv=> ?_), ?_⟩) hn;obtain⟨br,rfl⟩:=pA hv;rw[add_assoc];exact(hc (j+l) (by omega)).1;unfold ag;exact⟨_,rfl,abH sz (λl=>c.cell i (j+l)) (λl=>us (j+l)) (λl hl=>(hc (j+l) (by omega)).2)⟩;cases h
theorem abI{t:TypeId}{a:AV}{va:Value}{q:bP}(h:(afO P t a).eval H=some q)(hn:bE q.ab)(hs:Sat ρ H G w)(hd:ag ρ H (bg ρ H G) w a va):
 fp P ρ H (bg ρ H G) w q (Instr.loadAt t va):=by
 unfold afO at h;split at h;rename_i sz xQ bZ qC;split at h;rename_i id off;unfold ag aS at hd;obtain⟨b,hb,rfl,_⟩:=hd;simp only[RM.eval]at h;split at h;rename_i aD e ho;have⟨cells,fr,h1,h2,h3⟩:=oR hs ho hb;cases xQ;simp only[cond_false]at h;split at h;rename_i v hv;have⟨u,h4,h5,h6⟩:=lQ aD off hv h3;exact aR h (λ_=>⟨u,jv qC (by rw[dm h1];exact h4),h6⟩) hn;cases h;simp only[cond_true]at h;split at h;rename_i ss hss;simp only[bind_eq_some_iff]at hss;have⟨s1,h4,h5⟩:=hss;have⟨h6,h7⟩:=fI aD off h4 h3;have⟨h8,h9⟩:=fJ s1 sz h5 h7;refine aR h (λ_=>⟨_,ju (cs:=(cells.drop off).take sz) qC bZ (by simp at h8 ⊢;omega) (λj v hj=> ?_),lR h9⟩) hn;rw[dm h1];rw[getElem?_take]at hj;split at hj;simpa using hj;cases hj;cases h;cases h;rename_i id off n i;unfold ag aS at hd;obtain⟨dH,b,hb,rfl,_⟩:=hd;simp only[RM.eval]at h;split at h;rename_i aD e ho;have⟨cells,fr,h1,h2,h3⟩:=oR hs ho hb;split at h;rename_i k m ws anZ;rw[cond_eq_ite]at h;split at h;rename_i hc;simp only[and_eq_true,not_eq_true',beq_eq]at hc;obtain⟨rfl,rfl⟩:=hc;obtain⟨hl,pre,post,rfl,hp⟩:=oQ aD off anZ h3;have hi:i<ws.length:=by omega
 refine aR h (λ_=>⟨.int k (ws.getD i 0),jv qC ?_,aK (.int _ _)⟩) hn;rw[dm h1,append_assoc,getElem?_append_right (by omega),getElem?_append_left (by simp;omega)];rw[show off+i - pre.length=i from by omega];simp[hi];cases h;cases h;cases h;unfold ag aS at hd;obtain⟨b,o,us,rfl,_,_,hc⟩:=hd;exact tv h hn qC bZ hc;rename_i id i j;unfold ag aS at hd;have⟨_,o,ho,hv⟩:=hd;simp only[RM.eval]at h;split at h;rename_i c e du;rw[ho]at du;cases du;obtain⟨hi,hj,b,f,n,cap,dX,rfl⟩:=hv c e rfl;have⟨us,hc⟩:=ahL hs ho hi dX;exact tv (us:=λl=>us i l) h hn qC bZ (λl hl=>hc i l hi hl);cases h;cases h;cases h
end
section
variable{ρ aU:Nat->Value}{H H':a8}{G O O':Nat->Prop}{w w':World}{P:Program}
theorem slice_inj{a a':Option Addr}{n n' c c':Nat}(h:Value.slice a n c=.slice a' n' c'):a'=a/\c'=c:=by
 cases h;exact⟨rfl,rfl⟩
theorem nP{t:TypeId}{fs:Array Field}{f:Nat}{fd:Field}{n b off:Nat}(ht:P.underlying t=some (.struct fs))(hf:fs[f]? =some fd)(hs:dO P fd.type=some n)(hn:1<=n)(w:World):
 (Instr.fieldAt t (.pointer (some ⟨b,off,none⟩)) f).run P w=.ok (.pointer (some ⟨b,off+fd.offset,none⟩)) w:=by
 have h0:¬n=0:=by omega
 simp[Instr.fieldAt,run_underlying ht,hf,Instr.sureAddr,fieldPlace,run_sizeOf hs,h0,bo]
theorem xT{t:TypeId}{x:AV}{f:Nat}{vx:Value}{q:bP}(h:(pV P t x f).eval H=some q)(hn:bE q.ab)(hd:ag ρ H O w x vx):
 fp P ρ H O w q (Instr.fieldAt t vx f):=by
 unfold pV at h;split at h;rename_i fs ht;split at h;rename_i fd hf;rw[cond_eq_ite]at h;split at h;rename_i bZ
 obtain⟨n,hs,hn1⟩:∃n,dO P fd.type=some n/\1<=n:=by
  cases hs:dO P fd.type with
  |none=>simp[hs]at bZ|some n=>exact⟨n,rfl,le_of_ble_eq_true (by simpa[hs]using bZ)⟩
 split at h;rename_i id off;unfold ag aS at hd;obtain⟨b,hb,rfl,hi⟩:=hd;exact aR h (λ_=>⟨_,nP ht hf hs hn1 w,by unfold ag aS;exact⟨b,hb,rfl,hi⟩⟩) hn;rename_i c m j;unfold ag aS at hd;obtain⟨b,o,us,rfl,h1⟩:=hd;exact aR h (λ_=>⟨_,nP ht hf hs hn1 w,by unfold ag aS;exact⟨b,o,us,by rw[add_assoc],h1⟩⟩) hn;rename_i id i j;simp only[RM.eval]at h;split at h;rename_i c e ho;rw[cond_eq_ite]at h;split at h;rename_i br;have br:j+fd.offset<c.size:=by simpa[Nat.blt,Nat.lt_iff_add_one_le]using br
 unfold ag aS at hd;have⟨h1,o,du,hv⟩:=hd;rw[ho]at du;cases du;obtain⟨hi,hj,b,f',n',cap,dX,rfl⟩:=hv c e rfl;refine aR h (λ_=>⟨_,nP ht hf hs hn1 w, ?_⟩) hn;unfold ag aS;refine⟨rfl,_,ho,λc' e' hc=> ?_⟩;cases hc;exact⟨hi,br,b,f',n',cap,dX,by rw[add_assoc]⟩;cases h;cases h;cases h;cases h;cases h;cases h
theorem gY{t e:TypeId}{n b o len cap:Nat}{k:IntKind}{i:Int}(ht:P.underlying t=some (.slice e))(hs:dO P e=some n)(h0:0<=i)(h1:i<len)(w:World):
 (Instr.indexAt t (.slice (some ⟨b,o,none⟩) len cap) (.int k i)).run P w=.ok (.pointer (some ⟨b,o+i.toNat*n,none⟩)) w:=by
 simp[Instr.indexAt,run_underlying ht,asIntOf,run_sizeOf hs,h0,h1,bo]
theorem gZ{t e:TypeId}{n b o len:Nat}{k:IntKind}{i:Int}(ht:P.underlying t=some (.array len e))(hs:dO P e=some n)(h0:0<=i)(h1:i<len)(w:World):
 (Instr.indexAt t (.pointer (some ⟨b,o,none⟩)) (.int k i)).run P w=.ok (.pointer (some ⟨b,o+i.toNat*n,none⟩)) w:=by
 simp[Instr.indexAt,run_underlying ht,asIntOf,Instr.sureAddr,run_sizeOf hs,h0,h1,bo]
theorem xU{t:TypeId}{x i:AV}{vx vi:Value}{q:bP}(h:(pW P t x i).eval H=some q)(hn:bE q.ab)(hs:Sat ρ H G w)(hd:ag ρ H (bg ρ H G) w x vx)(hi:ag ρ H (bg ρ H G) w i vi):
 fp P ρ H (bg ρ H G) w q (Instr.indexAt t vx vi):=by
 unfold pW at h;split at h;rename_i k lit n e nQ ht;obtain rfl:=cp nQ hi;split at h;rename_i sz c bZ;rw[cond_eq_ite]at h;split at h;rename_i he;have he:sz=c.size:=by simpa using he
 have hx:=aC (by simp) hd;cases hx with
 |ro _ a cap us b o h1 h2 h3 h4 h5=>
  refine aR h (λcG=> ?_) hn;have⟨h6,h7,_⟩:=cG;have br:n.toNat<c.n:=by omega
  obtain⟨rfl,h8,h9⟩:=h3 (by omega);refine⟨_,gY ht bZ h6 h7 w, ?_⟩;unfold ag aS;refine⟨b,o+n.toNat*c.size,λj=>us n.toNat j,by rw[he];rfl,h8,h9,λj hj=>⟨h4 _ _ br hj,h5 _ _ br hj⟩⟩
 cases h;rename_i sz id bZ;simp only[RM.eval]at h;split at h;rename_i c e' ho;rw[cond_eq_ite]at h;split at h;rename_i he;simp only[and_eq_true,beq_eq]at he;obtain⟨rfl,hge⟩:=he;have hge:=le_of_ble_eq_true hge;unfold ag aS at hd;have⟨_,o,du,hv⟩:=hd;rw[ho]at du;cases du;obtain rfl:=hv c e' rfl;have⟨a,cap,hr,h2,h3,h4⟩:=hs.obj id _ ho;refine aR h (λcG=> ?_) hn;have⟨h6,h7,_⟩:=cG;rcases h4 with h4|⟨b,o,cells,fr,us,rfl,h5,_⟩;omega;refine⟨.pointer (some ⟨b,o+n.toNat*c.size,none⟩),by rw[hr];exact gY ht bZ h6 h7 w, ?_⟩;unfold ag aS;refine⟨rfl,_,ho,λc' e'' hc=> ?_⟩;cases hc;exact⟨by omega,by omega,b,o,c.n,cap,hr,rfl⟩;cases h;cases h;rename_i sz id lo m bZ;simp only[RM.eval]at h;split at h;rename_i c e' ho;rw[cond_eq_ite]at h;split at h;rename_i he;simp only[and_eq_true,beq_eq]at he;obtain⟨rfl,hge⟩:=he;have hge:=le_of_ble_eq_true hge;unfold ag aS at hd;have⟨_,o,du,hv⟩:=hd;rw[ho]at du;cases du;obtain⟨hlm,a0,ayc,a',hr0,azI,rfl,ha'⟩:=hv c e' rfl;have⟨a,cap,hr,h2,h3,h4⟩:=hs.obj id _ ho;obtain⟨rfl,rfl⟩:=slice_inj (hr0.symm.trans hr);refine aR h (λcG=> ?_) hn;have⟨h6,h7,_⟩:=cG;rcases h4 with h4|⟨b,o,cells,fr,us,rfl,h5,_⟩;omega;refine⟨.pointer (some ⟨b,o+lo*c.size+n.toNat*c.size,none⟩), ?_, ?_⟩;rw[ha' (by omega)];simp only[map_some,bo];exact gY ht bZ h6 h7 w;unfold ag aS;refine⟨rfl,_,ho,λc' e'' hc=> ?_⟩;cases hc;exact⟨by omega,by omega,b,o,c.n,cap,hr,by rw[add_mul,add_assoc];rfl⟩;cases h;cases h;cases h;rename_i k lit n len e nQ ht;obtain rfl:=cp nQ hi;split at h;rename_i sz id off bZ;unfold ag aS at hd;obtain⟨b,hb,rfl,dI⟩:=hd;cases lit;simp only[cond_false]at h;rw[cond_eq_ite]at h;split at h;rename_i h1;have h1:sz=1:=by simpa using h1
 subst h1;refine aR h (λcG=> ?_) hn;have⟨h6,h7,_⟩:=cG;exact⟨_,gZ ht bZ h6 h7 w,by unfold ag aS;exact⟨by omega,b,hb,by simp,dI⟩⟩;cases h;simp only[cond_true]at h;rw[cond_eq_ite]at h;split at h;rename_i h1;simp only[and_eq_true,decide_eq_true_eq]at h1;exact aR h (λ_=>⟨_,gZ ht bZ h1.1 h1.2 w,by unfold ag aS;exact⟨b,hb,rfl,dI⟩⟩) hn;cases h;rename_i sz id i0 bZ;simp only[RM.eval]at h;split at h;rename_i c e' ho;rw[cond_eq_ite]at h;split at h;rename_i he;simp only[and_eq_true,beq_eq]at he;obtain⟨rfl,hge⟩:=he;unfold ag aS at hd;have⟨_,o,du,hv⟩:=hd;rw[ho]at du;cases du;obtain⟨hi0,hc0,b,f,n',cap,hr,rfl⟩:=hv c e' rfl;refine aR h (λcG=> ?_) hn;have⟨h6,h7,h8,_⟩:=cG;refine⟨_,gZ ht bZ h6 h7 w, ?_⟩;unfold ag aS;refine⟨rfl,_,ho,λc' e'' hc=> ?_⟩;cases hc;exact⟨by omega,by omega,b,f,n',cap,hr,by rw[add_mul];congr 3;omega⟩;cases h;cases h;cases h;cases h
theorem ahM{t:TypeId}{x i:AV}{vx vi:Value}{q:bP}(h:(aeq P t x i).eval H=some q)(hn:bE q.ab)(hd:ag ρ H O w x vx)(hi:ag ρ H O w i vi):
 fp P ρ H O w q (Instr.index t vx vi):=by
 unfold aeq at h;split at h;rename_i k lit n len e kk m ws nQ ht;obtain rfl:=cp nQ hi;rw[cond_eq_ite]at h;split at h;rename_i hc;simp only[and_eq_true,beq_eq]at hc;obtain⟨⟨rfl,qC⟩,bZ⟩:=hc;have asl:gU P e=some false:=by cases ha:gU P e with|none=>simp[ha]at qC|some b=>simp[ha]at qC;rw[qC]
 have ahN:dO P e=some 1:=by cases ha:dO P e with|none=>simp[ha]at bZ|some b=>simp[ha]at bZ;rw[bZ]
 unfold ag at hd;obtain⟨hl,rfl⟩:=hd;refine aR h (λcG=> ?_) hn;have⟨h6,h7,_⟩:=cG;have br:n.toNat<ws.length:=by omega
 refine⟨.int kk (ws.getD n.toNat 0), ?_,aK (.int _ _)⟩;simp[Instr.index,run_underlying ht,asIntOf,h6,h7,run_sizeOf ahN,part,gO asl,br];cases h;rename_i k lit n s nQ ht;obtain rfl:=cp nQ hi;obtain rfl:=fB hd;refine aR h (λcG=> ?_) hn;have⟨h6,h7,_⟩:=cG;have br:n.toNat<s.size:=by omega
 refine⟨.int .u8 (ax s n.toNat), ?_,aK (.int _ _)⟩
 have hb:s[n.toNat]? =some s.data[n.toNat]:=by
  simp only[getElem?,decidableGetElem?];rw[dif_pos br];rfl
 have asm:n.toNat<s.data.size:=br;simp[Instr.index,run_underlying ht,asIntOf,h6,hb,ax];rw[Array.getElem?_eq_getElem asm];rfl;rename_i k lit n len e aD nQ ht;obtain rfl:=cp nQ hi;rw[cond_eq_ite]at h;split at h;rename_i hc;simp only[and_eq_true]at hc;have⟨qC,bZ⟩:=hc;have asl:gU P e=some false:=by cases ha:gU P e with|none=>simp[ha]at qC|some b=>simp[ha]at qC;rw[qC]
 have ahN:dO P e=some 1:=by cases ha:dO P e with|none=>simp[ha]at bZ|some b=>simp[ha]at bZ;rw[bZ]
 unfold ag at hd;obtain⟨cs,rfl,afS⟩:=hd;split at h;rename_i v hv;have⟨u,h4,h5,h6⟩:=lQ aD _ hv afS;refine aR h (λcG=>⟨u, ?_,h6⟩) hn;have⟨h7,h8,_⟩:=cG;simp[Instr.index,run_underlying ht,asIntOf,h7,h8,run_sizeOf ahN,part,gO asl,h4];cases h;cases h;cases h
theorem ahO{t:TypeId}{x:AV}{f:Nat}{vx:Value}{q:bP}(h:(aer P t x f).eval H=some q)(hn:bE q.ab)(hd:ag ρ H O w x vx):
 fp P ρ H O w q (Instr.field t vx f):=by
 unfold aer at h;split at h;rename_i fs aD ht;unfold ag at hd;obtain⟨cs,rfl,afS⟩:=hd;split at h;rename_i fd hf;split at h;rename_i sz bZ qC;split at h;rename_i ss hss;simp only[bind_eq_some_iff]at hss;have⟨s1,h4,h5⟩:=hss;have⟨h6,h7⟩:=fI aD _ h4 afS;have⟨h8,h9⟩:=fJ s1 sz h5 h7;refine aR h (λ_=>⟨.agg ((cs.drop fd.offset).take sz).toArray, ?_,lR h9⟩) hn;simp[Instr.field,run_underlying ht,hf,asAgg,part,gO qC,run_sizeOf bZ,List.extract_eq_take_drop];cases h;rename_i sz bZ qC;split at h;rename_i v hv;have⟨u,h4,h5,h6⟩:=lQ aD _ hv afS;refine aR h (λ_=>⟨u, ?_,h6⟩) hn;simp[Instr.field,run_underlying ht,hf,asAgg,part,gO qC,h4];cases h;cases h;cases h;cases h
theorem abJ:∀{xs:List AV} {vs:List Value} {i:Nat} {x:AV},bI ρ H O w xs vs→xs[i]? =some x→∃v,vs[i]? =some v∧ag ρ H O w x v
 |[],vs,i,x,_,hx=>by simp at hx
 |a::aT,vs,i,x,h,hx=>by
  obtain⟨v,rest,rfl,h1,h2⟩:=aJ.1 h;cases i with
  |zero=>simp at hx;subst hx;exact⟨v,rfl,h1⟩
  |succ i=>obtain⟨u,h3,h4⟩:=abJ (i:=i) h2 (by simpa using hx);exact⟨u,by simpa using h3,h4⟩
theorem abK{x:AV}{i:Nat}{vx:Value}{q:bP}(h:(vr x i).eval H=some q)(hn:bE q.ab)(hd:ag ρ H O w x vx):
 fp P ρ H O w q (Instr.extract vx i):=by
 unfold vr at h;split at h;rename_i vs;unfold ag at hd;obtain⟨us,rfl,hl⟩:=hd;split at h;rename_i v hv;have⟨u,h1,h2⟩:=abJ hl hv;exact aR h (λ_=>⟨u,by simp[Instr.extract,h1],h2⟩) hn;cases h;cases h
theorem iQ(hs:Sat ρ H G w){id:Nat}{c:ba}{e:TypeId}{v:Value}(ho:H id=some (.vec c e))(hd:ag ρ H O w (.vec id) v):∃a cap,v=.slice a c.n cap/\ρ id=v/\c.n<=cap/\cap<=maxLen:=by
 unfold ag aS at hd;have⟨_,o,du,hv⟩:=hd;rw[ho]at du;cases du;have⟨a,cap,h1,h2,h3,_⟩:=hs.obj id _ ho;exact⟨a,cap,by rw[hv c e rfl,h1],(hv c e rfl).symm,h2,h3⟩
theorem jc(hs:Sat ρ H G w){id lo n:Nat}{c:ba}{e:TypeId}{v:Value}(ho:H id=some (.vec c e))(hd:ag ρ H O w (.part id lo n) v):
 lo+n<=c.n/\∃a cap a',ρ id=.slice a c.n cap/\c.n<=cap/\cap<=maxLen/\v=.slice a' n (cap - lo)/\(cap≠lo->a'=a.map (·.add (lo*c.size)))/\(cap≠0->∃b o,a=some ⟨b,o,none⟩):=by
 unfold ag aS at hd;have⟨_,o,du,hv⟩:=hd;rw[ho]at du;cases du;have⟨h0,a,cap,a',h1,h2,h3,h4⟩:=hv c e rfl;have⟨a2,qP,g1,g2,g3,g4⟩:=hs.obj id _ ho;obtain⟨rfl,rfl⟩:=slice_inj (h1.symm.trans g1);refine⟨h0,_,_,a',h1,h2,g3,h3,h4,λhc=> ?_⟩;rcases g4 with g4|⟨b,o,_,_,_,g5,_⟩;exact absurd g4 hc;exact⟨b,o,g5⟩
theorem an0{t ty:TypeId}{ts:List TypeId}{x:AV}{vx:Value}{q:bP}(h:(asc P t x).eval H=some q)(hn:bE q.ab)(hs:Sat ρ H G w)(hd:ag ρ H O w x vx):
 fp P ρ H O w q (Builtin.len_ (t::ts).toArray ty #[vx]):=by
 unfold asc at h;split at h;rename_i s ht;obtain rfl:=fB hd;exact aR h (λ_=>⟨_,by simp[Builtin.len_,run_underlying ht];rfl,aK (.int _ _)⟩) hn;rename_i n e ht;exact aR h (λ_=>⟨_,by cases vx<;>simp[Builtin.len_,run_underlying ht]<;>rfl,aK (.aO _ _)⟩) hn;rename_i e c ht;have hx:=aC (by simp) hd;cases hx;exact aR h (λ_=>⟨_,by simp[Builtin.len_,run_underlying ht];rfl,aK (.int _ _)⟩) hn;rename_i e c k ht;have hx:=aC (by simp) hd;cases hx with
 |zM _ _ a n cap h1 h2=>
  cases h1;exact aR h (λ_=>⟨_,by simp[Builtin.len_,run_underlying ht];rfl,aK (.int _ _)⟩) hn
 rename_i e ht;unfold ag at hd;obtain⟨a,rfl⟩:=hd;exact aR h (λ_=>⟨_,by simp[Builtin.len_,run_underlying ht];rfl,aK (.aO _ _)⟩) hn;rename_i e id ht;simp only[RM.eval]at h;split at h;rename_i c e' ho;obtain⟨a,cap,rfl,_⟩:=iQ hs ho hd;exact aR h (λ_=>⟨_,by simp[Builtin.len_,run_underlying ht];rfl,aK (.int _ _)⟩) hn;cases h;rename_i e id lo n ht;simp only[RM.eval]at h;split at h;rename_i c e' ho;obtain⟨_,a,cap,a',_,_,_,rfl,_⟩:=jc hs ho hd;exact aR h (λ_=>⟨_,by simp[Builtin.len_,run_underlying ht];rfl,aK (.int _ _)⟩) hn;cases h;rename_i kt et id ht;simp only[RM.eval]at h;split at h;rename_i ck m ho;unfold ag aS at hd;obtain⟨b,hb,rfl,_⟩:=hd;have⟨b',es,clock,h1,h2,h3⟩:=hs.obj id _ ho;rw[hb]at h1;cases h1;have e1:(getObj b).run P w=.ok (.map es clock) w:=by simp[getObj,Sem.run,h2]
 have e2:es.size=m.length:=by have:=congrArg List.length h3.eq;simpa using this
 exact aR h (λ_=>⟨.int .i64 m.length,by simp[Builtin.len_,run_underlying ht,e1,e2];rfl,aK (.int _ _)⟩) hn;cases h;cases h
theorem an1{t ty:TypeId}{ts:List TypeId}{x:AV}{vx:Value}{q:bP}(h:(asd P t x).eval H=some q)(hn:bE q.ab)(hs:Sat ρ H G w)(hd:ag ρ H O w x vx):
 fp P ρ H O w q (Builtin.cap_ (t::ts).toArray ty #[vx]):=by
 unfold asd at h;split at h;rename_i e c k ht;have hx:=aC (by simp) hd;cases hx with
 |zM _ _ a n cap h1 h2=>exact aR h (λ_=>⟨_,by simp[Builtin.cap_,run_underlying ht];rfl,aK (.px _ _ (by omega))⟩) hn
 rename_i e id ht;simp only[RM.eval]at h;split at h;rename_i c e' ho;obtain⟨a,cap,rfl,_,hle,_⟩:=iQ hs ho hd;exact aR h (λ_=>⟨_,by simp[Builtin.cap_,run_underlying ht];rfl,aK (.nj _ _ (by omega))⟩) hn;cases h;rename_i e id lo n ht;simp only[RM.eval]at h;split at h;rename_i c e' ho;obtain⟨_,a,cap,a',_,hle,_,rfl,_⟩:=jc hs ho hd;exact aR h (λ_=>⟨_,by simp[Builtin.cap_,run_underlying ht];rfl,aK (.nj _ _ (by omega))⟩) hn;cases h;cases h
theorem pB(op:BinOp)(t:TypeId)(x y:Operand)(a b:Option Addr)(n c m d:Nat):(eqGuard op t x y (.slice a n c) (.slice b m d)).run P w=.ok () w:=by
 cases op<;>simp[eqGuard]
theorem an2{op:BinOp}{t:TypeId}{x:AV}{ox oy:Operand}{vx vy:Value}{q:bP}(h:(asf P op t x).eval H=some q)(hn:bE q.ab)(hs:Sat ρ H G w)
 (hx:ag ρ H O w x vx) (hy:vy=.slice none 0 0):fp P ρ H O w q (do eqGuard op t ox oy vx vy;binOp op t vx vy:Sem Value):=by
 subst hy
 have key:∀e,P.underlying t=some (.slice e)->(op=.eql\/op=.neq)->∀a n c n',vx=.slice a n c->(a=none->n'=0)->(plain [] (.s (.kG n' (qJ op)))).eval H=some q->fp P ρ H O w q (do eqGuard op t ox oy vx (.slice none 0 0);binOp op t vx (.slice none 0 0):Sem Value):=by
  rintro e ht xM a n c n' rfl ha h;refine aR h (λ_=> ?_) hn;rcases xM with rfl|rfl;exact⟨.bool a.isNone,by simp[pB,Lib.run_eql_slice_nil w t e a n c 0 0 ht],aK (.kG _ _ _ (λe=>ha (by simpa[qJ]using e)))⟩;exact⟨.bool (!a.isNone),by simp[pB,run_neq_slice_nil_any w t e a n c 0 0 ht],aK (.kG _ _ _ (λe=>ha (by simpa[qJ]using e)))⟩
 have an3:∀x,ag ρ H O w x vx->(op=.eql\/op=.neq)->(match P.underlying t with
  |some (.slice _)=>
   match x with
   |.s (.ro c)=>plain [] (.s (.kG c.n (qJ op)))|.emp=>plain [] (.s (.kG 0 (qJ op)))|.vec id=>.look id λo=>match o with
    |some (.vec c _)=>plain [] (.s (.kG c.n (qJ op)))|_=>.fail ""
   |_=>.fail ""
  |_=>.fail "" :RM bP).eval H=some q->fp P ρ H O w q (do eqGuard op t ox oy vx (.slice none 0 0);binOp op t vx (.slice none 0 0):Sem Value):=by
  intro x hx xM h;split at h;rename_i e ht;split at h;have h1:=aC (by simp) hx;cases h1 with
  |ro c a cap us b o q1 q2 q3 q4 q5=>exact key e ht xM _ _ _ _ rfl (λha=>Decidable.byContradiction λhn0=>by have:=(q3 (Nat.pos_of_ne_zero hn0)).1;rw[ha]at this;cases this) h
  unfold ag at hx;obtain⟨a,rfl⟩:=hx;exact key e ht xM _ _ _ _ rfl (λ_=>rfl) h;simp only[RM.eval]at h;split at h;rename_i ho;obtain⟨a,cap,rfl,dX,hle,_⟩:=iQ hs ho hx;refine key e ht xM _ _ _ _ rfl (λha=> ?_) h;have⟨a2,qP,ajE,_,_,h3⟩:=hs.obj _ _ ho;rw[dX]at ajE;cases ajE;rcases h3 with h3|⟨_,_,_,_,_,h3,_⟩;omega;rw[ha]at h3;cases h3;cases h;cases h;cases h
 unfold asf at h;split at h;exact an3 x hx (.inl rfl) h;exact an3 x hx (.inr rfl) h;cases h
theorem aeD{op:BinOp}{t:TypeId}{x y:AV}{ox oy:Operand}{vx vy:Value}{q:bP}(h:(zT op x y).eval H=some q)(hn:bE q.ab)
 (hx:ag ρ H O w x vx) (hy:ag ρ H O w y vy):fp P ρ H O w q (do eqGuard op t ox oy vx vy;binOp op t vx vy:Sem Value):=by
 unfold zT at h;split at h;rename_i l a b h1;obtain rfl:=cp h1 hx;have hy:=aC (by simp) hy;cases hy with
 |nj _ n hge=>
  refine aR h (λcG=> ?_) hn;have⟨h3,_⟩:=cG;refine⟨.bool false, ?_,aK (.aN _)⟩;have:¬a>n:=by omega
  simp[gN,binOp,Op.intCmp,this]
 rename_i l a b h1;obtain rfl:=cp h1 hx;have hy:=aC (by simp) hy;cases hy with
 |px _ n br=>
  refine aR h (λcG=> ?_) hn;have⟨h3,_⟩:=cG;refine⟨.bool true, ?_,aK (.aN _)⟩;have:a>n:=by omega
  simp[gN,binOp,Op.intCmp,this]
 cases h
theorem lT{x:AV}{v:Value}(h:ag ρ H O w x v):ag ρ H O w (pz x) v:=by
 unfold pz;split;have h1:=aC (by simp) h;cases h1;unfold ag;exact⟨none,rfl⟩;exact h
theorem ajF{x:AV}{v:Value}(h:ag ρ H O w x v)(hx:aey x=true):v=.slice none 0 0:=by
 unfold aey at hx;split at hx;have h1:=aC (by simp) h;cases h1;rfl;cases hx
theorem afT{ts:Array TypeId}{ty:TypeId}{mx:Bool}{x y:AV}{vx vy:Value}{q:bP}(h:(anV mx x y).eval H=some q)(hn:bE q.ab)(hx:ag ρ H O w x vx)(hy:ag ρ H O w y vy):
 fp P ρ H O w q (if mx then Builtin.max_ ts ty #[vx,vy]else Builtin.min_ ts ty #[vx,vy]):=by
 unfold anV at h;split at h;rename_i k lx a k' ly b h1 h2;obtain rfl:=cp h1 hx;obtain rfl:=cp h2 hy;rw[cond_eq_ite]at h;split at h;rename_i hk;obtain rfl:=bu hk;cases mx;exact aR h (λ_=>⟨_,by simp[run_min_int2,pZ],gM _ _ _⟩) hn;exact aR h (λ_=>⟨_,by simp[run_max_int2,imax],gM _ _ _⟩) hn;cases h;cases h
theorem z8{x:AV}{vx:Value}{q:bP}(h:(sd x).eval H=some q)(hn:bE q.ab)(hd:ag ρ H O w x vx)(e:Operand->Value)(o:Oper)(y:Operand)(ho:o.op=.nilCheck y)(he:e y=vx):
 q.up=[]/\q.new=[]/\(execOp e o).run P w=.ok (.value vx) w/\∀base,ag ρ H O w (q.r base) vx:=by
 have fin:∀r,(plain [] r).eval H=some q->r=x->(execOp e o).run P w=.ok (.value vx) w->q.up=[]/\q.new=[]/\(execOp e o).run P w=.ok (.value vx) w/\∀base,ag ρ H O w (q.r base) vx:=by
  intro r hr hx iD;simp only[plain,RM.eval,Option.some.injEq]at hr;subst hr;subst hx;exact⟨rfl,rfl,iD,λ_=>hd⟩
 unfold sd at h;split at h;unfold ag aS at hd;obtain⟨b,_,rfl,_⟩:=hd;exact fin _ h rfl (by simp[execOp,ho,he]);unfold ag aS at hd;obtain⟨_,b,_,rfl,_⟩:=hd;exact fin _ h rfl (by simp[execOp,ho,he]);unfold ag aS at hd;obtain⟨b,o',us,rfl,_⟩:=hd;exact fin _ h rfl (by simp[execOp,ho,he]);unfold ag at hd;obtain⟨vs,rfl,_⟩:=hd;exact fin _ h rfl (by simp[execOp,ho,he]);have h1:=aC (by simp) hd;cases h1;exact fin _ h rfl (by simp[execOp,ho,he]);cases h
theorem aaa{fn:Fn}{first dh:List AV}{vf vc:List Value}{q:bP}(h:(se fn first dh).eval H=some q)(hn:bE q.ab)(hf:bI ρ H O w first vf)(hc:bI ρ H O w dh vc):
 fp P ρ H O w q (Instr.makeFunc fn vf.toArray vc.toArray):=by
 unfold se at h;split at h;rename_i f;obtain rfl:=bp.1 hf;obtain rfl:=bp.1 hc;exact aR h (λ_=>⟨_,rfl,aK (.qF f)⟩) hn;rename_i f c cs;obtain rfl:=bp.1 hf;exact aR h (λ_=>⟨_,rfl,by unfold ag;exact⟨vc,rfl,hc⟩⟩) hn;rename_i f c cs;obtain rfl:=bp.1 hc;exact aR h (λ_=>⟨_,rfl,by unfold ag;exact⟨vf,rfl,hf⟩⟩) hn;cases h
end
section
variable{ρ aU:Nat->Value}{H H':a8}{G O O':Nat->Prop}{w w':World}{P:Program}
def nR(ρ:Nat->Value)(H:a8)(O:Nat->Prop)(w:World):Option AV->Option Value->Prop
 |none,none=>True|some a,some v=>ag ρ H O w a v|_,_=>False
theorem cM{d n:Int}{o:Option AV}{vo:Option Value}(h:gL d o=some n)(hd:nR ρ H O w o vo):(vo=none/\n=d)\/∃k,vo=some (.int k n):=by
 cases o with
 |none=>
  cases vo with
  |none=>simp only[gL,Option.some.injEq]at h;exact .inl ⟨rfl,h.symm⟩|some v=>exact hd.elim
 |some a=>
  cases vo with
  |none=>exact hd.elim|some v=>
   simp only[gL,map_eq_some_iff]at h;obtain⟨⟨k,l,m⟩,h1,rfl⟩:=h;exact .inr ⟨k,by rw[cp h1 hd]⟩
theorem oS(c:ba){l h:Nat}(_hl:l<=h)(hh:h<=c.n):(dJ c l h).n=h - l:=by
 cases c<;>simp only[dJ,ba.n,length_drop,length_take]at * <;>omega
theorem jH(c:ba)(l h:Nat):(dJ c l h).size=c.size:=by cases c<;>rfl
theorem ajG{α:Type}(zs:List α)(d:α){l h i:Nat}(hi:i<h - l):((zs.take h).drop l).getD i d=zs.getD (l+i) d:=by
 simp only[List.getD,List.getElem?_drop,getElem?_take];rw[if_pos (by omega)]
theorem jI(c:ba){l h i:Nat}(j:Nat)(hi:i<h - l):(dJ c l h).cell i j=c.cell (l+i) j:=by
 cases c<;>simp only[dJ,ba.cell,ajG _ _ hi]
theorem abL{s:ByteArray}{lo hi:Option Value}{l h:Int}(hl:(lo=none/\l=0)\/∃k,lo=some (.int k l))(hh:(hi=none/\h=(s.size:Int))\/∃k,hi=some (.int k h))
 (h0:0<=l) (h1:l<=h) (h2:h<=s.size) {t:TypeId} (ht:P.underlying t=some .string) (w:World):
 (Instr.sliceAt t (.string s) lo hi none).run P w=.ok (.string (s.extract l.toNat h.toNat)) w:=by
 have hle:l<=((h.toNat:Nat):Int):=by omega
 rcases hl with⟨rfl,rfl⟩|⟨k,rfl⟩<;>rcases hh with⟨rfl,rfl⟩|⟨k',rfl⟩;simp[Instr.sliceAt,Instr.slice,run_underlying ht,Instr.sliceBounds];simp[Instr.sliceAt,Instr.slice,run_underlying ht,Instr.sliceBounds,run_sliceBound _ _ _ _ _ h1 h2];simp[Instr.sliceAt,Instr.slice,run_underlying ht,Instr.sliceBounds,run_sliceBound _ _ _ _ _ h0 h1];simp[Instr.sliceAt,Instr.slice,run_underlying ht,Instr.sliceBounds,run_sliceBound _ _ _ _ _ (show 0<=h by omega) h2,run_sliceBound _ _ _ _ _ h0 hle]
theorem lU{a:Option Addr}{n cap:Nat}{lo hi:Option Value}{l h:Int}(hl:(lo=none/\l=0)\/∃k,lo=some (.int k l))(hh:(hi=none/\h=(n:Int))\/∃k,hi=some (.int k h))
 (h0:0<=l) (h1:l<=h) (h2:h<=cap) {t e:TypeId} (ht:P.underlying t=some (.slice e)) {sz:Nat} (hs:dO P e=some sz) (w:World):
 (Instr.sliceAt t (.slice a n cap) lo hi none).run P w=.ok (.slice (if cap=l.toNat then a else a.map (·.add (l.toNat*sz))) (h.toNat - l.toNat) (cap - l.toNat)) w:=by
 have hle:l<=((h.toNat:Nat):Int):=by omega
 rcases hl with⟨rfl,rfl⟩|⟨k,rfl⟩<;>rcases hh with⟨rfl,rfl⟩|⟨k',rfl⟩;simp[Instr.sliceAt,Instr.slice,run_underlying ht,Instr.sliceBounds,run_sizeOf hs];simp[Instr.sliceAt,Instr.slice,run_underlying ht,Instr.sliceBounds,run_sliceBound _ _ _ _ _ h1 h2,run_sizeOf hs];simp[Instr.sliceAt,Instr.slice,run_underlying ht,Instr.sliceBounds,run_sliceBound _ _ _ _ _ h0 h1,run_sizeOf hs];simp[Instr.sliceAt,Instr.slice,run_underlying ht,Instr.sliceBounds,run_sliceBound _ _ _ _ _ (show 0<=h by omega) h2,run_sliceBound _ _ _ _ _ h0 hle,run_sizeOf hs]
theorem tw{b o n:Nat}{lo hi:Option Value}{l h:Int}(hl:(lo=none/\l=0)\/∃k,lo=some (.int k l))(hh:(hi=none/\h=(n:Int))\/∃k,hi=some (.int k h))
 (h0:0<=l) (h1:l<=h) (h2:h<=n) {t e:TypeId} (ht:P.underlying t=some (.array n e)) (hs:dO P e=some 1) (w:World):
 ∃a,(Instr.sliceAt t (.pointer (some ⟨b,o,none⟩)) lo hi none).run P w=.ok (.slice a (h.toNat - l.toNat) (n - l.toNat)) w/\(h.toNat - l.toNat≠0->a=some ⟨b,o+l.toNat,none⟩):=by
 have hle:l<=((h.toNat:Nat):Int):=by omega
 refine⟨some (if n=l.toNat then⟨b,o,none⟩else(⟨b,o,none⟩:Addr).add (l.toNat*1)), ?_,λcG=>by rw[if_neg (by omega),bo,Nat.mul_one]⟩;rcases hl with⟨rfl,rfl⟩|⟨k,rfl⟩<;>rcases hh with⟨rfl,rfl⟩|⟨k',rfl⟩;simp[Instr.sliceAt,Instr.sureAddr,run_underlying ht,Instr.sliceBounds,run_sizeOf hs];simp[Instr.sliceAt,Instr.sureAddr,run_underlying ht,Instr.sliceBounds,run_sliceBound _ _ _ _ _ h1 h2,run_sizeOf hs];simp[Instr.sliceAt,Instr.sureAddr,run_underlying ht,Instr.sliceBounds,run_sliceBound _ _ _ _ _ h0 h1,run_sizeOf hs];simp[Instr.sliceAt,Instr.sureAddr,run_underlying ht,Instr.sliceBounds,run_sliceBound _ _ _ _ _ (show 0<=h by omega) h2,run_sliceBound _ _ _ _ _ h0 hle,run_sizeOf hs]
theorem aeE{c:ba}{v:Value}(hx:bh O w (.ro c) v){l h:Nat}(hl:l<=h)(hh:h<=c.n):∃a cap,v=.slice a c.n cap/\c.n<=cap/\
 ∀sz,sz=c.size->bh O w (.ro (dJ c l h)) (.slice (if cap=l then a else a.map (·.add (l*sz))) (h - l) (cap - l)):=by
 cases hx with
 |ro _ a cap us b o h1 h2 h3 h4 h5=>
  refine⟨a,cap,rfl,h1, ?_⟩;rintro sz rfl;have hn:=oS c hl hh;have bZ:=jH c l h;have key:=bh.ro (O:=O) (w:=w) (dJ c l h) (if cap=l then a else a.map (·.add (l*c.size))) (cap - l) (λi j=>us (l+i) j) b (o+l*c.size) (by omega) (by omega)
   (λh0=>by
     obtain⟨rfl,h6,h7⟩:=h3 (by omega);refine⟨?_,h6,h7⟩;rw[if_neg (by omega)];simp only[map_some,bo])
   (λi j hi hj=>by
     rw[hn]at hi;rw[bZ]at hj ⊢;have:=h4 (l+i) j (by omega) hj;rw[show o+l*c.size+i*c.size+j=o+(l+i)*c.size+j from by rw[add_mul];omega];exact this)
   (λi j hi hj=>by
     rw[hn]at hi;rw[bZ]at hj;rw[jI c j hi];exact h5 _ _ (by omega) hj)
  rw[hn]at key;exact key
theorem ajH(a:Option Addr)(hf:∃b o,a=some ⟨b,o,none⟩)(x y:Nat):(a.map (·.add x)).map (·.add y)=a.map (·.add (x+y)):=by
 obtain⟨b,o,rfl⟩:=hf;simp only[map_some,bo,add_assoc]
theorem abM{t e e':TypeId}{c:ba}{id lo0 n:Nat}{lo hi mx:Option AV}{vlo vhi xV:Option Value}{q:bP}(h:(afQ P e c id lo0 n lo hi mx).eval H=some q)(hn:bE q.ab)
 (ht:P.underlying t=some (.slice e)) (ho:H id=some (.vec c e')) {a a':Option Addr} {cap:Nat} (hr:ρ id=.slice a c.n cap) (xW:c.n<=cap) (hln:lo0+n<=c.n) (ha':cap≠lo0->a'=a.map (·.add (lo0*c.size)))
 (hf:cap≠0->∃b o,a=some ⟨b,o,none⟩) (hlo:nR ρ H O w lo vlo) (hhi:nR ρ H O w hi vhi) (hmx:nR ρ H O w mx xV):
 fp P ρ H O w q (Instr.sliceAt t (.slice a' n (cap - lo0)) vlo vhi xV):=by
 unfold afQ at h;split at h;rename_i sz bZ;rw[cond_eq_ite]at h;split at h;rename_i hz;have hz:sz=c.size:=by simpa using hz
 subst hz;split at h;obtain rfl:xV=none:=by cases xV<;>first|rfl|exact hmx.elim
 split at h;rename_i l hh h1 h2;refine aR h (λcG=> ?_) hn;have⟨h3,h4,h5,_⟩:=cG;refine⟨_,lU (cM h1 hlo) (cM h2 hhi) h3 h4 (by omega) ht bZ w, ?_⟩;unfold ag aS;refine⟨rfl,_,ho,λc' e'' hc=> ?_⟩;cases hc;refine⟨by omega,a,cap,_,hr,xW,by rw[Nat.sub_sub],λcG=> ?_⟩;have hc0:cap≠lo0:=by omega
 rw[if_neg (by omega),ha' hc0,ajH _ (hf (by omega)),add_mul];cases h;rename_i m;split at h;rename_i l kh lh hh km lm m' h1 h2 h3;refine aR h (λcG=> ?_) hn;have⟨g1,g2,g3,g4,_⟩:=cG;simp only[bind_eq_some_iff]at h2;obtain⟨ha,rfl,h2⟩:=h2;cases xV with
 |none=>exact hmx.elim|some vm=>
  cases vhi with
  |none=>exact hhi.elim|some vh=>
   obtain rfl:=cp h3 hmx;obtain rfl:=cp h2 hhi;have e1:m'<=(((cap - lo0:Nat):Int)):=by omega
   have e2:hh<=((m'.toNat:Nat):Int):=by omega
   have e3:l<=((hh.toNat:Nat):Int):=by omega
   rcases cM h1 hlo with⟨rfl,rfl⟩|⟨k1,rfl⟩;exact⟨_,by simp[Instr.sliceAt,Instr.slice,run_underlying ht,Instr.sliceBounds,run_sliceBound _ _ _ _ _ (show 0<=m' by omega) e1,run_sliceBound _ _ _ _ _ (show 0<=hh by omega) e2,run_sizeOf bZ];rfl,by unfold ag;trivial⟩;exact⟨_,by simp[Instr.sliceAt,Instr.slice,run_underlying ht,Instr.sliceBounds,run_sliceBound _ _ _ _ _ (show 0<=m' by omega) e1,run_sliceBound _ _ _ _ _ (show 0<=hh by omega) e2,run_sliceBound _ _ _ _ _ g1 e3,run_sizeOf bZ];rfl,by unfold ag;trivial⟩
 cases h;cases h;cases h
theorem ahP(hs:Sat ρ H G w){t:TypeId}{x:AV}{lo hi mx:Option AV}{vx:Value}{vlo vhi xV:Option Value}{q:bP}(h:(aew P t x lo hi mx).eval H=some q)(hn:bE q.ab)
 (hd:ag ρ H O w x vx) (hlo:nR ρ H O w lo vlo) (hhi:nR ρ H O w hi vhi) (hmx:nR ρ H O w mx xV):
 fp P ρ H O w q (Instr.sliceAt t vx vlo vhi xV):=by
 unfold aew at h;split at h;rename_i s ht;obtain rfl:=fB hd;split at h;rename_i l hh h1 h2;obtain rfl:xV=none:=by cases xV<;>first|rfl|exact hmx.elim
 refine aR h (λcG=> ?_) hn;have⟨h3,h4,h5,_⟩:=cG;exact⟨_,abL (cM h1 hlo) (cM h2 hhi) h3 h4 h5 ht w,aK (.str _)⟩;cases h;rename_i e ht;unfold ag at hd;obtain⟨a,rfl⟩:=hd;split at h;rename_i sz l hh bZ h1 h2;obtain rfl:xV=none:=by cases xV<;>first|rfl|exact hmx.elim
 refine aR h (λcG=> ?_) hn;obtain⟨rfl,rfl,_⟩:=cG;exact⟨_,lU (cM h1 hlo) (cM h2 hhi) (by omega) (by omega) (by omega) ht bZ w,by unfold ag;exact⟨a,by simp⟩⟩;cases h;rename_i e c ht;have hx:=aC (by simp) hd;split at h;rename_i sz bZ;rw[cond_eq_ite]at h;split at h;rename_i hz;have hz:sz=c.size:=by simpa using hz
 split at h;obtain rfl:xV=none:=by cases xV<;>first|rfl|exact hmx.elim
 split at h;rename_i l hh h1 h2;refine aR h (λcG=> ?_) hn;have⟨h3,h4,h5,_⟩:=cG;obtain⟨a,cap,rfl,hle,ajI⟩:=aeE hx (l:=l.toNat) (h:=hh.toNat) (by omega) (by omega);exact⟨_,lU (cM h1 hlo) (cM h2 hhi) h3 h4 (by omega) ht bZ w,aK (ajI sz hz)⟩;cases h;rename_i m;split at h;rename_i l kh lh hh km lm m' h1 h2 h3;refine aR h (λcG=> ?_) hn;obtain⟨rfl,rfl,rfl,_⟩:=cG;simp only[bind_eq_some_iff]at h2;obtain⟨ha,rfl,h2⟩:=h2;cases xV with
 |none=>exact hmx.elim|some vm=>
  cases vhi with
  |none=>exact hhi.elim|some vh=>
   obtain rfl:=cp h3 hmx;obtain rfl:=cp h2 hhi;cases hx with
   |ro _ a cap us b o g1 g2 g3 g4 g5=>
    refine⟨.slice a 0 0, ?_,by unfold ag;exact⟨a,rfl⟩⟩
    have hb:∀(k:IntKind) (y:Nat) (code:BoundsCode) (w:World),(Instr.sliceBound (.int k 0) y code).run P w=.ok 0 w:=λk y code w=>by
     rw[run_sliceBound _ _ _ _ _ (by omega) (by omega)];rfl
    rcases cM h1 hlo with⟨rfl,_⟩|⟨k1,rfl⟩;simp[Instr.sliceAt,Instr.slice,run_underlying ht,Instr.sliceBounds,hb,run_sizeOf bZ];simp[Instr.sliceAt,Instr.slice,run_underlying ht,Instr.sliceBounds,hb,run_sizeOf bZ]
 cases h;cases h;cases h;rename_i e c k ht;have hx:=aC (by simp) hd
 obtain⟨a0,n0,ayc,rfl,hx,br⟩:∃a n cap,vx=.slice a n cap/\bh O w (.ro c) vx/\cap<k:=by
  cases hx with
  |zM _ _ a n cap h1 h2=>exact⟨a,n,cap,rfl,h1,h2⟩
 split at h;rename_i sz bZ;rw[cond_eq_ite]at h;split at h;rename_i hz;have hz:sz=c.size:=by simpa using hz
 obtain rfl:xV=none:=by cases xV<;>first|rfl|exact hmx.elim
 split at h;rename_i hh h2;obtain rfl:vlo=none:=by cases vlo<;>first|rfl|exact hlo.elim
 refine aR h (λcG=> ?_) hn;have⟨h4,h5,_⟩:=cG;have⟨a,cap,e0,hle,ajI⟩:=aeE hx (l:=0) (h:=hh.toNat) (by omega) (by omega);cases e0;have hd2:=ajI sz hz;exact⟨_,lU (l:=0) (.inl ⟨rfl,rfl⟩) (cM h2 hhi) (by omega) h4 (by omega) ht bZ w,aK (.zM _ _ _ _ _ hd2 (by omega))⟩;rename_i l hh h2;split at h;rename_i kl ll l' h1;refine aR h (λcG=> ?_) hn;have⟨h3,h4,h5,_⟩:=cG;have⟨a,cap,e0,hle,ajI⟩:=aeE hx (l:=l'.toNat) (h:=hh.toNat) (by omega) (by omega);cases e0;have h1':gL 0 (some l)=some l':=by simp[gL,h1]
 exact⟨_,lU (cM h1' hlo) (cM h2 hhi) h3 h4 (by omega) ht bZ w,aK (ajI sz hz)⟩;cases h;cases h;cases h;cases h;rename_i e id ht;simp only[RM.eval]at h;split at h;rename_i c e' ho;obtain⟨a,cap,rfl,hr,hle,_⟩:=iQ hs ho hd;have ej:=hs.obj id _ ho;rw[hr]at ej;have⟨a2,qP,g1,_,_,g4⟩:=ej;cases g1
 have hf:cap≠0->∃b o,a=some ⟨b,o,none⟩:=λhc=>by
  rcases g4 with g4|⟨b,o,_,_,_,g5,_⟩;exact absurd g4 hc;exact⟨b,o,g5⟩
 have:=abM (a':=a) h hn ht ho hr hle (by omega) (λhc=>by
  obtain⟨b,o,rfl⟩:=hf hc;simp[bo]) hf hlo hhi hmx
 simpa using this;cases h;rename_i e id lo0 n ht;simp only[RM.eval]at h;split at h;rename_i c e' ho;obtain⟨h0,a,cap,a',h1,h2,h3,rfl,h4,h5⟩:=jc hs ho hd;exact abM h hn ht ho h1 h2 h0 h4 h5 hlo hhi hmx;cases h;rename_i n e id off ht;split at h;rename_i sz l hh bZ h1 h2;obtain rfl:xV=none:=by cases xV<;>first|rfl|exact hmx.elim
 rw[cond_eq_ite]at h;split at h;rename_i h1s;obtain rfl:sz=1:=by simpa using h1s
 unfold ag aS at hd;obtain⟨b,hb,rfl,hi⟩:=hd;refine aR h (λcG=> ?_) hn;have⟨h3,h4,h5,_⟩:=cG;have⟨a,e1,e2⟩:=tw (b:=b) (o:=off) (cM h1 hlo) (cM h2 hhi) h3 h4 h5 ht bZ w;refine⟨_,e1, ?_⟩;unfold ag aS;exact⟨rfl,b,a,_,hb,rfl,e2,hi⟩;cases h;cases h;rename_i n e id i j ht;split at h;rename_i sz l hh bZ h1 h2;obtain rfl:xV=none:=by cases xV<;>first|rfl|exact hmx.elim
 simp only[RM.eval]at h;split at h;rename_i c e' ho;rw[cond_eq_ite]at h;split at h;rename_i h1s;simp only[and_eq_true,beq_eq]at h1s;obtain⟨rfl,hjn⟩:=h1s;have hjn:=le_of_ble_eq_true hjn;unfold ag aS at hd;have⟨h0,o,du,hv⟩:=hd;rw[ho]at du;cases du;obtain⟨g1,g2,b,f,n',cap,g3,rfl⟩:=hv c e' rfl;refine aR h (λcG=> ?_) hn;have⟨h3,h4,h5,_⟩:=cG;have⟨a,e1,e2⟩:=tw (b:=b) (o:=f+i*c.size+j) (cM h1 hlo) (cM h2 hhi) h3 h4 h5 ht bZ w;refine⟨_,e1, ?_⟩;unfold ag aS;refine⟨rfl,_,ho,λc2 e2' hc=> ?_⟩;cases hc;exact⟨g1,by omega,b,f,n',cap,a,_,g3,rfl,λhz=>by rw[e2 hz,add_assoc]⟩;cases h;cases h;cases h;cases h
theorem aab(zs:List Int):∀(l:List Value) (s:ByteArray) (w:World),l=zs.map (Value.int .u8)->
 (forIn (m:=Sem) l s λc s=>do
   match c with
   |.int .u8 n=>pure (ForInStep.yield (s.push (UInt8.ofNat n.toNat)))|_=>do
    stuck "bytesToString: byte expected"
    pure (ForInStep.yield s)).run P w=.ok ⟨s.data++(zs.map λn=>UInt8.ofNat n.toNat).toArray⟩ w:=by
 induction zs with
 |nil=>intro l s w h;subst h;simp
 |cons z zs ih=>
  intro l s w h;subst h;simp only[map_cons,List.forIn_cons,Sem.run_bind,Sem.run_pure,Result.andThen_ok];rw[ih _ _ _ rfl];congr 2;simp[ByteArray.push]
def qa(O:Nat->Prop)(w:World)(c:ba)(v:Value):Prop:=
 ∃(a:Option Addr) (cap:Nat) (us:Nat->Nat->Value),v=.slice a c.n cap/\c.n<=cap/\cap<=maxLen/\(0<c.n->∃b o,a=some ⟨b,o,none⟩/\b<w.heap.size/\
  ∀i j,i<c.n->j<c.size->w.cell? ⟨b,o+i*c.size+j,none⟩=some (us i j)/\bh O w (c.cell i j) (us i j))
theorem vH(sh:Shape)(size:Nat):(ajx sh size).n=0:=by cases sh<;>rfl
theorem vI{sh:Shape}{size:Nat}{x:AV}{k:ba->Option Nat->RM bP}{v:Value}{q:bP}(h:(rowOf sh size x k).eval H=some q)(hs:Sat ρ H G w)(hd:ag ρ H (bg ρ H G) w x v):
 ∃c idy,(k c idy).eval H=some q/\qa (bg ρ H G) w c v:=by
 unfold rowOf at h;split at h;split at h;rename_i c;have hx:=aC (by simp) hd;cases hx with
 |ro _ a cap us b o g1 g2 g3 g4 g5=>
  refine⟨c,none,h,a,cap,us,rfl,g1,g2,λh0=> ?_⟩;obtain⟨rfl,_,h2⟩:=g3 h0;exact⟨b,o,rfl,h2,λi j hi hj=>⟨g4 i j hi hj,g5 i j hi hj⟩⟩
 cases h;unfold ag at hd;obtain⟨a,rfl⟩:=hd;exact⟨_,none,h,a,0,λ_ _=>undef,by rw[vH],by rw[vH];exact le_refl _,by simp[maxLen],by rw[vH];omega⟩;rename_i id;simp only[RM.eval]at h;split at h;rename_i c e ho;refine⟨c,some id,h, ?_⟩;unfold ag aS at hd;have⟨_,o,du,hv⟩:=hd;rw[ho]at du;cases du;obtain rfl:=hv c e rfl;have⟨a,cap,h1,h2,h3,h4⟩:=hs.obj id _ ho;rcases h4 with rfl|⟨b,o,cells,fr,us,rfl,h5,h6,h7,h8⟩;exact⟨a,0,λ_ _=>undef,h1,h2,h3,λh0=>by omega⟩;refine⟨_,cap,us,h1,h2,h3,λ_=>⟨b,o,rfl,(Array.getElem?_eq_some_iff.1 h5).1,λi j hi hj=> ?_⟩⟩;have⟨h9,uv⟩:=h8 i j hi hj;exact⟨by rw[dm h5];exact h9,uv⟩;cases h;rename_i id lo n;simp only[RM.eval]at h;split at h;rename_i c e ho;refine⟨_,some id,h, ?_⟩;obtain⟨g0,a,cap,a',g1,g2,g3,rfl,g4,g5⟩:=jc hs ho hd;have hn:(dJ c lo (lo+n)).n=n:=by rw[oS c (by omega) g0];omega
 have bZ:=jH c lo (lo+n);have⟨a2,qP,k1,k2,k3,k4⟩:=hs.obj id _ ho;rw[g1]at k1;cases k1;rcases k4 with rfl|⟨b,o,cells,fr,us,rfl,h5,h6,h7,h8⟩;exact⟨a',0 - lo,λ_ _=>undef,by rw[hn],by rw[hn];omega,by omega,λh0=>by rw[hn]at h0;omega⟩;refine⟨a',cap - lo,λi j=>us (lo+i) j,by rw[hn],by rw[hn];omega,by omega,λh0=> ?_⟩;rw[hn]at h0;refine⟨b,o+lo*c.size,by rw[g4 (by omega)];simp[bo],(Array.getElem?_eq_some_iff.1 h5).1,λi j hi hj=> ?_⟩;rw[hn]at hi;rw[bZ]at hj ⊢;have⟨h9,uv⟩:=h8 (lo+i) j (by omega) hj;refine⟨?_,by rw[jI c j (by omega)];exact uv⟩;rw[dm h5,show o+lo*c.size+i*c.size+j=o+(lo+i)*c.size+j from by rw[add_mul];omega];exact h9;cases h;cases h
theorem xX(zs:List Int):zs.map (Value.int .u8)=(List.range zs.length).map λi=>Value.int .u8 (zs.getD i 0):=by
 apply List.ext_getElem;simp;intro i h1 h2;simp at h1;simp[h1]
theorem kc{zs:List Int}{a:Option Addr}{cap:Nat}(h3:0<zs.length->∃b o,a=some ⟨b,o,none⟩/\∀j,j<zs.length->w.cell? ⟨b,o+j,none⟩=some (.int .u8 (zs.getD j 0))):
 (Conv.bytesToString (.slice a zs.length cap)).run P w=.ok (.string (aB zs)) w:=by
 cases a with
 |none=>
  have:zs.length=0:=by
   rcases Nat.eq_zero_or_pos zs.length with h0|h0;exact h0;have⟨b,o,e,_⟩:=h3 h0;cases e
  obtain rfl:=List.eq_nil_of_length_eq_zero this;rfl
 |some a=>
  have avj:(loadCells a zs.length).run P w=.ok (zs.map (Value.int .u8)).toArray w:=by
   rcases Nat.eq_zero_or_pos zs.length with h0|h0;obtain rfl:=List.eq_nil_of_length_eq_zero h0;rfl;have⟨b,o,e,hc⟩:=h3 h0;cases e;rw[xX];refine run_loadCells w _ _ (λi=>Value.int .u8 (zs.getD i 0)) (λj hj=> ?_);rw[bo];exact hc j hj
  simp only[Conv.bytesToString,Sem.run_bind,avj,Result.andThen_ok];rw[<-Array.forIn_toList];have:=aab (P:=P) zs (zs.map (Value.int .u8)) empty w rfl;erw [this];simp[aB]
theorem qQ{zs:List Int}{v:Value}(h:qa O w (.af .u8 zs) v):(Conv.bytesToString v).run P w=.ok (.string (aB zs)) w:=by
 obtain⟨a,cap,us,rfl,h1,h2,h3⟩:=h;simp only[ba.n]at h1 h3 ⊢;refine kc λh0=> ?_;have⟨b,o,e,_,hc⟩:=h3 h0;refine⟨b,o,e,λj hj=> ?_⟩;have⟨g1,g2⟩:=hc j 0 hj (by simp[ba.size]);simp only[ba.size,Nat.mul_one,add_zero,ba.cell]at g1 g2;rw[g1];generalize us j 0=u at g2 ⊢;cases g2;rfl
theorem yx(hs:Sat ρ H G w){id b m off n:Nat}{k:IntKind}{ws:List Int}{e:TypeId}(ho:H id=some (.ak [.af k m ws] e))(hb:ρ id=.pointer (some ⟨b,0,none⟩))(hnm:off+n<=m):
 ((ws.drop off).take n).length=n/\∀j,j<n->w.cell? ⟨b,off+j,none⟩=some (.int k (((ws.drop off).take n).getD j 0)):=by
 have⟨cells,fr,e1,_,e2⟩:=oR hs ho hb;obtain⟨c1,c2,rfl,e3,e4⟩:=aq.1 e2;obtain⟨e5,rfl⟩:=cW.1 e3;obtain rfl:=aG.1 e4;refine⟨by rw[length_take,length_drop];omega,λj hj=> ?_⟩;rw[dm e1,append_nil,getElem?_map];have br:off+j<ws.length:=by omega
 rw[getElem?_eq_getElem br];simp[List.getD,getElem?_take,hj,List.getElem?_drop,br]
theorem abN{src dst:TypeId}{x:AV}{vx:Value}{q:bP}(h:(vu P src dst x).eval H=some q)(hn:bE q.ab)(hs:Sat ρ H G w)(hd:ag ρ H (bg ρ H G) w x vx):
 fp P ρ H (bg ρ H G) w q (convert src dst vx):=by
 unfold vu at h;split at h;rename_i d k pn lV;split at h;rename_i k' lit n nQ;obtain rfl:=cp nQ hd
 have iD:(convert src dst (.int k' n)).run P w=.ok (.int k (k.wrap n)) w:=by
  simp[convert,run_underlying pn,run_underlying lV,Conv.intToInt]
 rw[cond_eq_ite]at h;split at h;exact aR h (λ_=>⟨_,iD,aK (.aO _ _)⟩) hn;rw[cond_eq_ite]at h;split at h;rename_i hk;simp only[and_eq_true]at hk;obtain rfl:=nM hk.1;refine aR h (λcG=>⟨_,iD, ?_⟩) hn;rw[cL cG.1];exact aK (.int _ _);exact aR h (λ_=>⟨_,iD,aK (.int _ _)⟩) hn;cases h;rename_i pn lV;split at h;rename_i s;obtain rfl:=fB hd;exact aR h (λ_=>⟨_,by simp[convert,run_underlying pn,run_underlying lV],aK (.str _)⟩) hn;cases h;rename_i e pn lV;split at h;rename_i hk
 have he:P.underlying e=some (.int .u8):=by
  unfold kindOf at hk;split at hk<;>first|(cases hk;assumption)|cases hk
 split at h;rename_i id off n;simp only[RM.eval]at h;split at h;rename_i m ws e' ho;unfold ag aS at hd;obtain⟨_,b,a,cap,hb,rfl,ha,_⟩:=hd;refine aR h (λcG=>⟨_, ?_,aK (.str _)⟩) hn;have hnm:off+n<=m:=cG.1;have⟨hl,hc⟩:=yx hs ho hb hnm;have:=kc (P:=P) (w:=w) (zs:=(ws.drop off).take n) (a:=a) (cap:=cap) (λh0=>⟨b,off,ha (by omega),λj hj=>hc j (by omega)⟩);rw[hl]at this;simp[convert,run_underlying pn,run_underlying lV,run_underlying he,this];cases h;have⟨c,idy,h1,h2⟩:=vI h hs hd;split at h1;rename_i zs;refine aR h1 (λ_=>⟨.string (aB zs), ?_,aK (.str _)⟩) hn;obtain⟨a,cap,us,rfl,_⟩:=id h2;simp[convert,run_underlying pn,run_underlying lV,run_underlying he,qQ h2];cases h1;cases h;cases h
end
def cT:List (Nat×au)->Nat->Option au
 |[],_=>none|(id,o)::us,j=>match cT us j with
  |some x=>some x|none=>if j=id then some o else none
def dc(H:a8)(up:List (Nat×au))(base:Nat)(new:List au):a8:=λj=>
 match cT up j with
 |some o=>some o|none=>if base<=j/\j<base+new.length then new[j - base]? else H j
section
variable{ρ aU:Nat->Value}{H H':a8}{G O O':Nat->Prop}{w w':World}{P:Program}
theorem lX(base:Nat):dc H [] base []=H:=by
 funext j;simp only[dc,cT,length_nil,add_zero];rw[if_neg (by omega)]
theorem fV(id:Nat)(o:au)(base:Nat):dc H [(id,o)] base []=aP H id o:=by
 funext j;simp only[dc,cT,aP,length_nil,add_zero];by_cases h:j=id;simp[h];simp only[h,if_false];rw[if_neg (by omega)]
theorem jd(base:Nat)(o:au):dc H [] base [o]=aP H base o:=by
 funext j;simp only[dc,cT,aP,List.length_singleton];by_cases h:j=base;subst h;simp;rw[if_neg (by omega)];simp[h]
theorem ahQ(id base:Nat)(x o:au)(h:id≠base):dc H [(id,x)] base [o]=aP (aP H id x) base o:=by
 funext j;simp only[dc,cT,aP,List.length_singleton];by_cases h1:j=id;subst h1;simp[h];by_cases h2:j=base;subst h2;simp[h1];simp only[h1,h2,if_false];rw[if_neg (by omega)]
theorem cX:ag ρ H O w (.bd []) undef:=by
 unfold ag;exact⟨[],rfl,bp.2 rfl⟩
theorem ke{id:Nat}{o o':au}(ho:H id=some o)(ha:o.alive=true){b:Nat}(hb:eQ (ρ id)=some b)
 (sn:∀c' e',o'=.vec c' e'->∃c e,o=.vec c e/\c'.n=c.n/\c'.size=c.size) (sq:Obj):
 Step ρ H (bg ρ H G) w ρ (aP H id o') (bg ρ H G) (World.cI w b sq):=by
 have dR:Own ρ H b:=⟨id,o,ho,ha,hb⟩;refine⟨λ_ _ _=>rfl,λj x hx=> ?_,λc hc=>.inl hc,λc hc hO=>iC (λe=>hO (.inl (by subst e;exact dR))),by rw[jb];exact le_refl _⟩;by_cases hj:j=id;subst hj;rw[ho]at hx;cases hx;exact⟨o',by simp[aP],sn⟩;exact⟨x,by simp[aP,hj,hx],λc' e' hc=>⟨c',e',hc,rfl,rfl⟩⟩
theorem Good.vJ(hs:Sat ρ H G w){id b:Nat}{aD eX:List AV}{e:TypeId}(ho:H id=some (.ak aD e))(hb:ρ id=.pointer (some ⟨b,0,none⟩))
 {cells ew:List Value} {fr:Nat×Nat} (h1:w.heap[b]? =some (.cells cells.toArray e fr)) (hu:unm fr cells.length) (hl:ew.length=cells.length)
 (hd:aE ρ H (bg ρ H G) w eX ew):
 Good ρ H G w (aP H id (.ak eX e)) (.bd []) undef (World.cI w b (.cells ew.toArray e fr)):=by
 have mB:eQ (ρ id)=some b:=by rw[hb];rfl
 have st:=ke (G:=G) (w:=w) (o':=.ak eX e) ho rfl mB (by simp) (.cells ew.toArray e fr);exact Good.write hs ho rfl rfl mB (by simp) ⟨b,ew,fr,hb,fk h1,by rw[hl];exact hu,hd.step st⟩ cX
theorem kO{t:TypeId}{b off:Nat}{v:Value}{n:Nat}(hs:dO P t=some n)(hl:v.cells.toList.length=n){w':World}
 (h:(storeCells ⟨b,off,none⟩ v.cells.toList 0).run P w=.ok () w'):(Instr.storeAt t (.pointer (some ⟨b,off,none⟩)) v).run P w=.ok () w':=by
 have:v.cells.size=n:=by simpa using hl
 simp[Instr.storeAt,Instr.sureAddr,storeVar,run_sizeOf hs,this,h]
theorem lY{v:Value}(h:v.oneCell'=true):v.cells.toList=[v]:=by
 cases v<;>first|rfl|(simp[Value.oneCell']at h)
theorem lu{α:Type}(l:List α)(i:Nat)(x:α)(h:i<l.length):l.take i++[x]++l.drop (i+1)=l.set i x:=by
 rw[List.set_eq_take_append_cons_drop,if_pos h];simp
theorem fM{c c':ba}{v:Value}(h0:c.n=0)(h1:c'.n=0)(h:bh O w (.ro c) v):bh O w (.ro c') v:=by
 cases h with
 |ro _ a cap us b o h2 h3 h4 h5 h6=>
  have:=bh.ro (O:=O) (w:=w) c' a cap us b o (by omega) h3 (λh=>by omega) (λi j hi hj=>by omega) (λi j hi hj=>by omega);rw[h1]at this;rw[h0];exact this
theorem ajJ{k:IntKind}{v:SV}{n:Int}{u:Value}(h:aju k v=some n)(hu:bh O w v u):bh O w (.int k n) u:=by
 unfold aju at h;split at h;rw[cond_eq_ite]at h;split at h;rename_i hk;obtain rfl:=bu hk;cases h;exact hu;cases h;rw[cond_eq_ite]at h;split at h;rename_i hk;obtain rfl:=bu hk;cases h;cases hu;exact .int _ _;cases h;cases h
theorem ahR{v:SV}{n:Bool}{u:Value}(h:ael v=some n)(hu:bh O w v u):bh O w (.bool n) u:=by
 unfold ael at h;split at h<;>cases h<;>cases hu<;>exact .bool _
theorem ajK{v:SV}{n:ByteArray}{u:Value}(h:ajv v=some n)(hu:bh O w v u):bh O w (.str n) u:=by
 unfold ajv at h;split at h<;>cases h;exact hu
theorem ahS{k:IntKind}{v:SV}{n:List Int}{u:Value}(h:aem k v=some n)(hu:bh O w v u):bh O w (.ro (.af k n)) u:=by
 unfold aem at h;split at h;rw[cond_eq_ite]at h;split at h;rename_i hk;obtain rfl:=bu hk;cases h;exact hu;cases h;cases h;exact fM (by rfl) (by rfl) hu;cases h
theorem ahT{v:SV}{n:List ByteArray}{u:Value}(h:aen v=some n)(hu:bh O w v u):bh O w (.ro (.strs n)) u:=by
 unfold aen at h;split at h<;>cases h;exact hu;exact fM (by rfl) (by rfl) hu
theorem aeF{v:SV}{n:List Bool}{u:Value}(h:zO v=some n)(hu:bh O w v u):bh O w (.ro (.bS n)) u:=by
 unfold zO at h;split at h<;>cases h;exact hu;exact fM (by rfl) (by rfl) hu
theorem ahU{cs:List CK}{v:SV}{n:List (CL cs)}{u:Value}(h:aeo cs v=some n)(hu:bh O w v u):bh O w (.ro (.ah cs n)) u:=by
 unfold aeo at h;split at h;simp only[map_eq_some_iff]at h;have⟨⟨e⟩,_,h2⟩:=h;subst e;rw[yp]at h2;subst h2;exact hu;cases h;exact fM (by rfl) (by rfl) hu;cases h
theorem ahV{c:CK}{x y:c.V}{j:Nat}{v:SV}(h:c.set x j v=some y):c.wide=1/\∀(O:Nat->Prop) (w:World) (u:Value),bh O w v u->∀l,bh O w (c.cell y l) u:=by
 cases c with
 |int k=>exact⟨rfl,λ_ _ _ hu _=>ajJ h hu⟩|bool=>exact⟨rfl,λ_ _ _ hu _=>ahR h hu⟩|str=>exact⟨rfl,λ_ _ _ hu _=>ajK h hu⟩|af k=>exact⟨rfl,λ_ _ _ hu _=>ahS h hu⟩|strs=>exact⟨rfl,λ_ _ _ hu _=>ahT h hu⟩|bS=>exact⟨rfl,λ_ _ _ hu _=>aeF h hu⟩|rows cs=>exact⟨rfl,λ_ _ _ hu _=>ahU h hu⟩|arr k n=>cases h
theorem sr:∀{cs:List CK} {x y:CL cs} {j:Nat} {v:SV},CL.set cs x j v=some y->(∀(O:Nat->Prop) (w:World) (u:Value),bh O w v u->bh O w (CL.cell cs y j) u)/\∀j',j'≠j->CL.cell cs y j'=CL.cell cs x j'
 |[],x,y,j,v,h=>by cases h
 |c::cs,x,y,j,v,h=>by
  simp only[CL.set]at h;rw[cond_eq_ite]at h;split at h;rename_i br;obtain⟨z,h1,rfl⟩:=map_eq_some_iff.1 h;have⟨h2,h3⟩:=ahV h1;refine⟨λO w u hu=>by simp only[CL.cell,br,cond_true];exact h3 O w u hu _,λj' jJ=> ?_⟩;have h4:j<1:=by rw[h2]at br;exact le_of_ble_eq_true br
  simp only[CL.cell,h2,qO (show 1<=j' from by omega),cond_false];rename_i br;obtain⟨z,h1,rfl⟩:=map_eq_some_iff.1 h;have br:j.blt c.wide=false:=Bool.eq_false_iff.2 br
  have hge:c.wide<=j:=by
   rcases lt_or_ge j c.wide with h5|h5;rw[nk h5]at br;cases br;exact h5
  have⟨h2,h3⟩:=sr h1;refine⟨λO w u hu=>by simp only[CL.cell,br,cond_false];exact h2 O w u hu,λj' jJ=> ?_⟩;simp only[CL.cell];rcases lt_or_ge j' c.wide with h5|h5;rw[nk h5,cond_true,cond_true];rw[qO h5,cond_false,cond_false];exact h3 _ (by omega)
theorem qR:∀{cs:List CK} {x y:CL cs} {j:Nat} {k:IntKind} {n:Nat} {ws:List Int},CL.setRow cs x j k n ws=some y->
 (∀l,l<n->CL.cell cs y (j+l)=.int k (ws.getD l 0))/\∀j',(j'<j\/j+n<=j')->CL.cell cs y j'=CL.cell cs x j'
 |[],x,y,j,k,n,ws,h=>by cases h
 |c::cs,x,y,j,k,n,ws,h=>by
  simp only[CL.setRow]at h;rw[cond_eq_ite]at h;split at h;rename_i hj;obtain rfl:j=0:=Nat.eq_of_beq_eq_true hj;obtain⟨z,h1,rfl⟩:=map_eq_some_iff.1 h;cases c with
  |arr k' n'=>
   simp only[CK.setRow]at h1;rw[cond_eq_ite]at h1;split at h1;rename_i hk;simp only[and_eq_true]at hk;obtain rfl:=bu hk.1;obtain rfl:=Nat.eq_of_beq_eq_true hk.2;cases h1;refine⟨λl hl=> ?_,λj' jJ=> ?_⟩;rw[zero_add];simp only[CL.cell,CK.wide,nk hl,cond_true,CK.cell];simp only[CL.cell,CK.wide,qO (show n<=j' from by omega),cond_false];cases h1
  |_=>cases h1
  rw[cond_eq_ite]at h;split at h;rename_i hle;have hle:=le_of_ble_eq_true hle;obtain⟨z,h1,rfl⟩:=map_eq_some_iff.1 h;have⟨h2,h3⟩:=qR h1;refine⟨λl hl=> ?_,λj' jJ=> ?_⟩;simp only[CL.cell,qO (show c.wide<=j+l from by omega),cond_false];rw[show j+l - c.wide=j - c.wide+l from by omega];exact h2 l hl;simp only[CL.cell];rcases lt_or_ge j' c.wide with h5|h5;rw[nk h5,cond_true,cond_true];rw[qO h5,cond_false,cond_false];exact h3 _ (by omega);cases h
theorem aeG{c:ba}{i j:Nat}{k:IntKind}{n:Nat}{ws:List Int}{c':ba}(h:oO c i j k n ws=some c')(hi:i<c.n):
 c'.n=c.n/\c'.size=c.size/\(∀l,l<n->c'.cell i (j+l)=.int k (ws.getD l 0))/\∀i' j',(i'≠i\/j'<j\/j+n<=j')->c'.cell i' j'=c.cell i' j':=by
 cases c<;>simp only[oO,reduceCtorEq]at h;rename_i cs xs;simp only[map_eq_some_iff]at h;obtain⟨y,h1,rfl⟩:=h;simp only[ba.n]at hi;have⟨h2,h3⟩:=qR h1;refine⟨by simp[ba.n],rfl,λl hl=> ?_,λi' j' cG=> ?_⟩;simp only[ba.cell];rw[show(xs.set i y).getD i (CL.d cs)=y from by simp[List.getD,hi]];exact h2 l hl;simp only[ba.cell];by_cases hii:i'=i;subst hii;rw[show(xs.set i' y).getD i' (CL.d cs)=y from by simp[List.getD,hi]];exact h3 j' (by omega);have:i≠i':=λe=>hii e.symm;simp[List.getD,List.getElem?_set_ne this]
theorem an4(c:ba){i j:Nat}{v:SV}{c':ba}(h:r8 c i j v=some c'):c'.n=c.n/\c'.size=c.size:=by
 cases c<;>simp only[r8]at h
 case eM=>simp only[Option.some.injEq]at h;subst h;exact⟨rfl,rfl⟩
 case ah=>
  simp only[map_eq_some_iff]at h;obtain⟨y,_,rfl⟩:=h;simp[ba.n,ba.size]
 all_goals
  split at h<;>first
   |(simp only[Option.some.injEq]at h;subst h;simp[ba.n,ba.size];done)|(rw[cond_eq_ite]at h;split at h<;>first|(simp only[Option.some.injEq]at h;subst h;simp[ba.n,ba.size];done)|cases h)
   |cases h
theorem aac(c:ba){i j:Nat}{v:SV}{c':ba}(h:r8 c i j v=some c')(hi:i<c.n)(hj:j<c.size){u:Value}(hu:bh O w v u):
 bh O w (c'.cell i j) u/\∀i' j',i'<c.n->j'<c.size->(i'≠i\/j'≠j)->c'.cell i' j'=c.cell i' j':=by
 cases c<;>simp only[r8]at h
 case af k zs=>
  simp only[ba.n,ba.size]at hi hj
  split at h<;>first
   |cases h
   |(rw[cond_eq_ite]at h
     split at h;rename_i hk;obtain rfl:=bu hk;simp only[Option.some.injEq]at h;subst h;cases hu;simp only[ba.cell,ba.n,ba.size];refine⟨by simp[List.getD,hi];exact .int _ _,λi' j' fh jJ cG=> ?_⟩;have:i≠i':=by omega
     simp[List.getD,List.getElem?_set_ne this];cases h)
 case strs zs=>
  simp only[ba.n,ba.size]at hi hj;split at h<;>simp only[Option.some.injEq,reduceCtorEq]at h;subst h;cases hu;simp only[ba.cell,ba.n,ba.size];refine⟨by simp[List.getD,hi];exact .str _,λi' j' fh jJ cG=> ?_⟩;have:i≠i':=by omega
  simp[List.getD,List.getElem?_set_ne this]
 case bS zs=>
  simp only[ba.n,ba.size]at hi hj;split at h<;>simp only[Option.some.injEq,reduceCtorEq]at h
  all_goals
   subst h;cases hu;simp only[ba.cell,ba.n,ba.size];refine⟨by simp[List.getD,hi];exact .bool _,λi' j' fh jJ cG=> ?_⟩;have:i≠i':=by omega
   simp[List.getD,List.getElem?_set_ne this]
 case ah cs xs=>
  simp only[ba.n,ba.size]at hi hj;simp only[map_eq_some_iff]at h;obtain⟨y,h1,rfl⟩:=h;have⟨h2,h3⟩:=sr h1;simp only[ba.cell,ba.n,ba.size];refine⟨by rw[show(xs.set i y).getD i (CL.d cs)=y from by simp[List.getD,hi]];exact h2 O w u hu,λi' j' fh jJ cG=> ?_⟩;by_cases hii:i'=i;subst hii;rw[show(xs.set i' y).getD i' (CL.d cs)=y from by simp[List.getD,hi]];exact h3 j' (by omega);have:i≠i':=λe=>hii e.symm;simp[List.getD,List.getElem?_set_ne this]
 case eM s n get=>
  simp only[Option.some.injEq]at h;subst h;simp only[ba.cell];refine⟨by simp[hu],λi' j' _ _ cG=> ?_⟩
  have:(i'==i&&j'==j)=false:=by
   rcases cG with h|h<;>simp[h]
  simp[this]
theorem su:∀(jy:List AV) (c:ba) {i j:Nat} {c':ba} {vs:List Value},eW c i j jy=some c'->aE ρ H O w jy vs->i<c.n->j+ga jy<=c.size->
 c'.n=c.n/\c'.size=c.size/\vs.length=ga jy/\(∀l u,vs[l]? =some u->bh O w (c'.cell i (j+l)) u)/\
 ∀i' j',i'<c.n->j'<c.size->(i'≠i\/j'<j\/j+ga jy<=j')->c'.cell i' j'=c.cell i' j'
 |[],c,i,j,c',vs,h,hd,hi,hj=>by
  simp only[eW,Option.some.injEq]at h;subst h;obtain rfl:=aG.1 hd;exact⟨rfl,rfl,rfl,by simp,λ_ _ _ _ _=>rfl⟩
 |a::aT,c,i,j,c',vs,h,hd,hi,hj=>by
  cases a with
  |s v=>
   simp only[eW,bind_eq_some_iff]at h;have⟨c1,h1,h2⟩:=h;obtain⟨cs1,cs2,rfl,hv,hr⟩:=aq.1 hd;unfold aX at hv;obtain⟨u,rfl,hu⟩:=hv;simp only[ga,AV.wide]at hj;have⟨n1,s1⟩:=an4 c h1;have⟨g1,g2⟩:=aac c h1 hi (by omega) hu;have⟨k1,k2,k3,k4,k5⟩:=su aT c1 h2 hr (by omega) (by omega);refine⟨k1.trans n1,k2.trans s1,by simp[k3,ga,AV.wide];omega,λl x hx=> ?_,λi' j' fh jJ cG=> ?_⟩;cases l with
   |zero=>
    simp at hx;subst hx;rw[add_zero,k5 i j (by omega) (by omega) (by omega)];exact g1
   |succ l=>
    have:=k4 l x (by simpa using hx);rw[show j+(l+1)=j+1+l from by omega];exact this
   simp only[ga,AV.wide]at cG;rw[k5 i' j' (by omega) (by omega) (by omega)];exact g2 i' j' fh jJ (by omega)
  |af k n ws=>
   simp only[eW,bind_eq_some_iff]at h;have⟨c1,h1,h2⟩:=h;obtain⟨cs1,cs2,rfl,hv,hr⟩:=aq.1 hd;unfold aX at hv;obtain⟨hl,rfl⟩:=hv;simp only[ga,AV.wide]at hj;have⟨n1,s1,g1,g2⟩:=aeG h1 hi;have⟨k1,k2,k3,k4,k5⟩:=su aT c1 h2 hr (by omega) (by omega);refine⟨k1.trans n1,k2.trans s1,by simp[k3,ga,AV.wide,hl],λl x hx=> ?_,λi' j' fh jJ cG=> ?_⟩;rcases lt_or_ge l n with h5|h5;rw[getElem?_append_left (by simp;omega)]at hx;simp only[getElem?_map,map_eq_some_iff]at hx;obtain⟨z,hz,rfl⟩:=hx;rw[k5 i (j+l) (by omega) (by omega) (by omega),g1 l h5,show ws.getD l 0=z from by simp[List.getD,hz]];exact .int _ _;rw[getElem?_append_right (by simp;omega)]at hx;simp only[length_map,hl]at hx;have:=k4 (l - n) x hx;rw[show j+n+(l - n)=j+l from by omega]at this;exact this;simp only[ga,AV.wide]at cG;rw[k5 i' j' (by omega) (by omega) (by omega)];exact g2 i' j' (by omega)
  |_=>simp[eW]at h
theorem yy(cs:List CK):∀(jy:List AV) (xs:List (CL cs)) (i j:Nat),i<xs.length->(nK cs (xs.getD i (CL.d cs)) j jy).map (λy=>ba.ah cs (xs.set i y))=eW (.ah cs xs) i j jy
 |[],xs,i,j,hi=>by
  simp only[nK,eW,map_some,Option.some.injEq,ba.ah.injEq,heq_eq_eq,true_and];have:xs.getD i (CL.d cs)=xs[i]:=by simp[List.getD,hi]
  rw[this,List.set_getElem_self]
 |a::aT,xs,i,j,hi=>by
  have step:∀(y:CL cs) (k:Nat),(nK cs y k aT).map (λy=>ba.ah cs (xs.set i y))=eW (.ah cs (xs.set i y)) i k aT:=λy k=>by
   rw[<-yy cs aT (xs.set i y) i k (by rw[List.length_set];exact hi)];have:(xs.set i y).getD i (CL.d cs)=y:=by simp[List.getD,hi]
   rw[this];congr 1;funext z;rw[List.set_set]
  cases a with
  |s v=>
   simp only[nK,eW,r8];cases CL.set cs (xs.getD i (CL.d cs)) j v with
   |none=>rfl|some y=>exact step y (j+1)
  |af k n ws=>
   simp only[nK,eW,oO];cases CL.setRow cs (xs.getD i (CL.d cs)) j k n ws with
   |none=>rfl|some y=>exact step y (j+n)
  |_=>rfl
theorem ajL:∀(jy:List AV) (c:ba) {i j:Nat} {c':ba} {vs:List Value},afP c i j jy=some c'->aE ρ H O w jy vs->i<c.n->j+ga jy<=c.size->
 c'.n=c.n/\c'.size=c.size/\vs.length=ga jy/\(∀l u,vs[l]? =some u->bh O w (c'.cell i (j+l)) u)/\
 ∀i' j',i'<c.n->j'<c.size->(i'≠i\/j'<j\/j+ga jy<=j')->c'.cell i' j'=c.cell i' j':=by
 intro jy c i j c' vs h hd hi hj;refine su jy c ?_ hd hi hj;cases c with
 |ah cs xs=>rw[<-h];exact(yy cs jy xs i j hi).symm|_=>exact h
theorem aad(l vs:List Value)(o:Nat)(h:o+vs.length<=l.length)(i:Nat):(l.take o++vs++l.drop (o+vs.length))[i]? =if o<=i/\i<o+vs.length then vs[i - o]? else l[i]? :=by
 have hto:(l.take o).length=o:=by simp;omega
 by_cases h1:i<o;rw[if_neg (by omega),append_assoc,getElem?_append_left (by omega),getElem?_take,if_pos h1];by_cases h2:i<o+vs.length;rw[if_pos (by omega),getElem?_append_left (by simp;omega),getElem?_append_right (by omega),hto];rw[if_neg (by omega),getElem?_append_right (by simp;omega),List.getElem?_drop];congr 1;simp;omega
theorem hH{α:Type}(l:List α)(i:Nat)(d:α)(h:i<l.length):l[i]? =some (l.getD i d):=by
 simp[List.getD,getElem?_eq_getElem h]
theorem ajM{size i i' j j' f:Nat}(hj:j<size)(jJ:j'<size)(h:f+i*size+j=f+i'*size+j'):i=i'/\j=j':=by
 have h1:i*size+j=i'*size+j':=by omega
 have h2:(i*size+j) / size=i:=by rw[Nat.mul_comm,Nat.mul_add_div (by omega),Nat.div_eq_of_lt hj];rfl
 have h3:(i'*size+j') / size=i':=by rw[Nat.mul_comm,Nat.mul_add_div (by omega),Nat.div_eq_of_lt jJ];rfl
 have:i=i':=by rw[<-h2,<-h3,h1]
 subst this;exact⟨rfl,by omega⟩
theorem ahW{t:TypeId}{a x:AV}{va vx:Value}{q:bP}(h:(aep P t a x).eval H=some q)(hs:Sat ρ H G w)
 (ha:ag ρ H (bg ρ H G) w a va) (hx:ag ρ H (bg ρ H G) w x vx):
 ∃w',(Instr.storeAt t va vx).run P w=.ok () w'/\∀base,Good ρ H G w (dc H q.up base q.new) (q.r base) undef w':=by
 unfold aep at h;split at h;rename_i sz xQ bZ qC;split at h;rename_i id off;unfold ag aS at ha;obtain⟨b,hb,rfl,_⟩:=ha;simp only[RM.eval]at h;split at h;rename_i aD e ho;have⟨cells,fr,h1,h2,h3⟩:=oR hs ho hb;cases xQ;simp only[cond_false]at h;rw[cond_eq_ite]at h;split at h;rename_i hc;simp only[and_eq_true,beq_eq]at hc;obtain⟨hsg,rfl⟩:=hc;split at h;rename_i eX nS;simp only[RM.eval,Option.some.injEq]at h;subst h;have⟨h4,h5⟩:=mE aD off nS h3 hsg hx;have⟨h6,h7⟩:=kb hsg hx;refine⟨_,kO bZ (by rw[lY h7];rfl) (bW off _ 0 h1 h2 (by rw[lY h7];simp;omega) (by rw[lY h7];simpa using h7)),λbase=> ?_⟩;simp only[fV,lY h7,add_zero,List.length_singleton];exact Good.vJ hs ho hb h1 h2 (by simp;omega) (by rw[lu _ _ _ h4];exact h5);cases h;cases h;simp only[cond_true]at h;split at h;rename_i jy hby;rw[cond_eq_ite]at h;split at h;rename_i hc;simp only[and_eq_true,beq_eq]at hc;have⟨hw,_⟩:=hc;split at h;rename_i eX asn;simp only[RM.eval,Option.some.injEq]at h;subst h;have h4:=qM hby hx;have h5:=ja h4;have⟨h6,h7⟩:=vD asn h3 h4;refine⟨_,kO bZ (h5.trans hw) (bW off _ 0 h1 h2 (by omega) (vE jy h4)),λbase=> ?_⟩;simp only[fV,add_zero];exact Good.vJ hs ho hb h1 h2 (by simp only[length_append,length_take,length_drop];omega) h7;cases h;cases h;cases h;cases h;rename_i id off n i;unfold ag aS at ha;obtain⟨dH,b,hb,rfl,_⟩:=ha;simp only[RM.eval]at h;split at h;rename_i aD e ho;have⟨cells,fr,h1,h2,h3⟩:=oR hs ho hb;split at h;rename_i k m ws k' l y anZ nQ;rw[cond_eq_ite]at h;split at h;rename_i hc;simp only[and_eq_true,not_eq_true',beq_eq]at hc;obtain⟨⟨⟨rfl,hk⟩,rfl⟩,rfl⟩:=hc;obtain rfl:=bu hk;split at h;rename_i eX nS;simp only[RM.eval,Option.some.injEq]at h;subst h;obtain rfl:=cp nQ hx;obtain⟨hl,pre,post,rfl,hp⟩:=oQ aD off anZ h3;have h4:=nO aD off anZ nS (by simp) h3 hp;have br:off+i<(pre++ws.map (Value.int k)++post).length:=by simp;omega
 refine⟨_,kO bZ rfl (bW (off+i) [.int k y] 0 h1 h2 (by simp;omega) (by simp[Value.oneCell'])),λbase=> ?_⟩;simp only[fV,add_zero,List.length_singleton];refine Good.vJ hs ho hb h1 h2 (by rw[lu _ _ _ br];simp) ?_;rw[lu _ _ _ br,append_assoc,List.set_append_right _ _ (by omega),List.set_append_left _ _ (by simp;omega),show off+i - pre.length=i from by omega,<-append_assoc];rw[List.map_set]at h4;exact h4;cases h;cases h;cases h;cases h;rename_i id i j;unfold ag aS at ha;have⟨_,o,ho,hv⟩:=ha;simp only[RM.eval]at h;split at h;rename_i c e du;rw[ho]at du;cases du;obtain⟨hi,hj,b,f,n,cap,dX,rfl⟩:=hv c e rfl;split at h;rename_i jy hby;rw[cond_eq_ite]at h;split at h;rename_i hc;simp only[and_eq_true,beq_eq]at hc;have⟨hw,hle⟩:=hc;have hle:=le_of_ble_eq_true hle;split at h;rename_i c' nS;simp only[RM.eval,Option.some.injEq]at h;subst h;have h4:=qM hby hx;have⟨k1,k2,k3,k4,k5⟩:=ajL jy c nS h4 hi (by omega);have⟨a,ahG,h5,h6,h7,h8⟩:=hs.obj id _ ho;rw[dX]at h5;cases h5;rcases h8 with rfl|⟨b',o',cells,fr,us,e1,g1,g2,g3,g4⟩;omega;cases e1
 have mB:eQ (ρ id)=some b:=by
  rw[dX];simp only[eQ];rw[if_neg (by omega)]
 have hmul:i*c.size+c.size<=cap*c.size:=by
  rw[<-Nat.succ_mul];exact Nat.mul_le_mul_right _ (by omega)
 have bx:f+i*c.size+j+vx.cells.toList.length<=cells.length:=by omega
 have st:=ke (G:=G) (w:=w) (o':=.vec c' e) ho rfl mB (λc1 e1 hc1=>by cases hc1;exact⟨c,e,rfl,k1,k2⟩)
  (.cells (cells.take (f+i*c.size+j)++vx.cells.toList++cells.drop (f+i*c.size+j+vx.cells.toList.length)).toArray e fr)
 refine⟨_,kO bZ (k3.trans hw) (bW (f+i*c.size+j) _ 0 g1 g2.unm (by omega) (vE jy h4)),λbase=> ?_⟩;simp only[fV,add_zero];refine Good.write hs ho rfl rfl mB (λc1 e1 hc1=>by cases hc1;exact⟨c,e,rfl,k1,k2⟩) ?_ cX;refine⟨some ⟨b,f,none⟩,cap,by rw[dX,k1],by omega,h7,.inr ⟨b,f,_,fr,λi' j'=>if i'=i/\j<=j'/\j'<j+ga jy then(vx.cells.toList.getD (j' - j) undef)else us i' j',rfl,fk g1, ?_, ?_, ?_⟩⟩;exact g2.over (vE jy h4) bx;simp only[length_append,length_take,length_drop];rw[k2];omega;intro i' j' fh jJ;rw[k1]at fh;rw[k2]at jJ;rw[k2,aad _ _ _ bx];dsimp only;by_cases dH:i'=i/\j<=j'/\j'<j+ga jy;obtain⟨rfl,h9,uv⟩:=dH;rw[if_pos ⟨by omega,by omega⟩,if_pos ⟨rfl,h9,uv⟩];have hx1:j' - j<vx.cells.toList.length:=by omega
 refine⟨by rw[show f+i'*c.size+j' - (f+i'*c.size+j)=j' - j from by omega];exact hH _ _ _ hx1, ?_⟩;have:=k4 (j' - j) _ (hH _ _ undef hx1);rw[show j+(j' - j)=j' from by omega]at this;exact this.step st.gf st.heap st.size;rw[if_neg dH]
 have nw:¬(f+i*c.size+j<=f+i'*c.size+j'/\f+i'*c.size+j'<f+i*c.size+j+vx.cells.toList.length):=by
  rintro⟨h9,uv⟩;have hd:f+i*c.size+(f+i'*c.size+j' - (f+i*c.size))=f+i'*c.size+j':=by omega
  have⟨h11,h12⟩:=ajM (f:=f) (i:=i) (i':=i') (j:=f+i'*c.size+j' - (f+i*c.size)) (by omega) jJ hd;subst h11;exact dH ⟨rfl,by omega,by omega⟩
 rw[if_neg nw,k5 i' j' fh jJ (by omega)];have⟨h9,uv⟩:=g4 i' j' fh jJ;exact⟨h9,uv.step st.gf st.heap st.size⟩;cases h;cases h;cases h;cases h;cases h;cases h
end
section
variable{ρ aU:Nat->Value}{H H':a8}{G O O':Nat->Prop}{w w':World}{P:Program}
theorem aae{v:Value}{x:SV}(h:anU v=some x):bh O w x v:=by
 unfold anU at h;split at h<;>simp only[Option.some.injEq,reduceCtorEq]at h<;>subst h;exact .aN _;exact .aO _ _;exact .str _;exact .pS;exact .aee;exact .aef;exact .aeg
theorem vK{v:Value}{a:AV}(h:qG v=some a):aX ρ H O w a [v]:=by
 unfold qG at h;split at h;simp only[Option.some.injEq]at h;subst h;unfold aX;exact⟨_,rfl,none,rfl⟩;simp only[map_eq_some_iff]at h;obtain⟨x,h1,rfl⟩:=h;unfold aX;exact⟨v,rfl,aae h1⟩
theorem nT:∀(vs:List Value) {aT:List AV},qH vs=some aT->aE ρ H O w aT vs
 |[],aT,h=>by simp only[qH,Option.some.injEq]at h;subst h;exact aG.2 rfl
 |v::vs,aT,h=>by
  simp only[qH]at h;split at h;rename_i a dA h1 h2;simp only[Option.some.injEq]at h;subst h;exact aq.2 ⟨[v],vs,rfl,vK h1,nT vs h2⟩;cases h
theorem nU(k:IntKind):∀(cs:List Value),nJ k cs=true->cs=(replicate cs.length (0:Int)).map (Value.int k)
 |[],_=>rfl|v::vs,h=>by
  unfold nJ at h;split at h;rename_i hc;cases hc;rename_i k' vs' hc;cases hc;simp only[and_eq_true]at h;obtain rfl:=bu h.1;have:=nU k vs h.2;simp only[length_cons,List.replicate_succ,map_cons,List.cons.injEq,true_and];exact this;cases h
theorem abO(P:Program)(d:Nat)(ih:∀t cs aD,gW P d t cs=some aD->aE ρ H O w aD cs):∀(fs:List Field) (s0 s1:List AV) (r0 r1:List Value),
 fs.foldl (λacc f=>match acc,dO P f.type with
  |some (aD,rest),some n=>(gW P d f.type (rest.take n)).map λs=>(aD++s,rest.drop n)|_,_=>none) (some (s0,r0))=some (s1,r1)->∃s' c,s1=s0++s'/\r0=c++r1/\aE ρ H O w s' c
 |[],s0,s1,r0,r1,h=>by
  simp only[List.foldl_nil,Option.some.injEq,Prod.mk.injEq]at h;obtain⟨rfl,rfl⟩:=h;exact⟨[],[],by simp,rfl,aG.2 rfl⟩
 |f::fs,s0,s1,r0,r1,h=>by
  simp only[List.foldl_cons]at h
  have jA:∀(fs:List Field),fs.foldl (λ(acc:Option (List AV×List Value)) f=>match acc,dO P f.type with
   |some (aD,rest),some n=>(gW P d f.type (rest.take n)).map λs=>(aD++s,rest.drop n)|_,_=>none) none=none:=by
   intro fs
   induction fs with
   |nil=>rfl|cons f fs ih=>simp only[List.foldl_cons];exact ih
  cases bZ:dO P f.type with
  |none=>rw[bZ]at h;simp only[jA]at h;cases h
  |some n=>
   rw[bZ]at h;simp only[]at h;cases hz:gW P d f.type (r0.take n)with
   |none=>rw[hz]at h;simp only[Option.map_none,jA]at h;cases h
   |some s=>
    rw[hz]at h;simp only[map_some]at h;obtain⟨s',c,rfl,h1,h2⟩:=abO P d ih fs _ _ _ _ h;refine⟨s++s',r0.take n++c,by simp, ?_,fH.2 ⟨_,_,rfl,ih _ _ _ hz,h2⟩⟩;rw[append_assoc,<-h1,List.take_append_drop]
theorem tx(P:Program):∀(d:Nat) (t:TypeId) (cs:List Value) (aD:List AV),gW P d t cs=some aD->aE ρ H O w aD cs
 |0,t,cs,aD,h=>by simp[gW]at h
 |d+1,t,cs,aD,h=>by
  simp only[gW]at h;split at h;simp only[bind_eq_some_iff]at h;have⟨⟨s,rest⟩,h1,h2⟩:=h;obtain⟨s',c,rfl,rfl,h3⟩:=abO P d (tx P d) _ _ _ _ _ h1;simp only[]at h2;split at h2;simp only[Option.some.injEq]at h2;subst h2;simpa using h3;cases h2;split at h;rename_i k hk;rw[cond_eq_ite]at h;split at h;rename_i hc;simp only[and_eq_true,beq_iff_eq]at hc;obtain⟨hz,rfl⟩:=hc;simp only[Option.some.injEq]at h;subst h;exact aq.2 ⟨cs,[],by simp,cW.2 ⟨by simp,nU k cs hz⟩,aG.2 rfl⟩;exact nT cs h;exact nT cs h;exact nT cs h
theorem abP(aD:List AV):(AV.lr aD).jx=some aD:=by
 unfold AV.lr;split<;>rfl
theorem oT{t:TypeId}{aD:List AV}(h:(zeroOf P t).bind AV.jx =some aD):∃i v,P.info? t=some i/\i.zero=some v/\aE ρ H O w aD v.cells.toList:=by
 simp only[bind_eq_some_iff]at h;have⟨z,h1,h2⟩:=h;unfold zeroOf at h1;split at h1;rename_i cs hz ha;simp only[bind_eq_some_iff]at hz;have⟨i,hi,hz⟩:=hz;simp only[map_eq_some_iff]at h1;obtain⟨ss,h3,rfl⟩:=h1;rw[abP]at h2;simp only[Option.some.injEq]at h2;subst h2;exact⟨i,_,hi,hz,by simpa[Value.cells]using tx P 20 t _ _ h3⟩;skip;rename_i v hz ha;simp only[bind_eq_some_iff]at hz;have⟨i,hi,hz⟩:=hz;refine⟨i,v,hi,hz, ?_⟩;have hc:=vK (ρ:=ρ) (H:=H) (O:=O) (w:=w) h1
 have hv:v.oneCell'=true/\z.jx =some [z]:=by
  unfold qG at h1;split at h1;simp only[Option.some.injEq]at h1;subst h1;exact⟨rfl,rfl⟩;simp only[map_eq_some_iff]at h1;obtain⟨x,h3,rfl⟩:=h1;refine⟨(aae (O:=O) (w:=w) h3).one, ?_⟩;unfold anU at h3;split at h3<;>simp only[Option.some.injEq,reduceCtorEq]at h3<;>subst h3<;>rfl
 rw[hv.2]at h2;simp only[Option.some.injEq]at h2;subst h2;rw[lY hv.1];exact aq.2 ⟨[v],[],rfl,hc,aG.2 rfl⟩;cases h1
theorem yz(hs:Sat ρ H G w){n:Nat}(hn:H n=none){aD:List AV}{e:TypeId}{cells:List Value}(hd:aE ρ H (bg ρ H G) w aD cells):
 Good ρ H G w (aP H n (.ak aD e)) (.ptr n 0) (.pointer (some ⟨w.heap.size,0,none⟩)) (w.alloc (.cells cells.toArray e)):=by
 have st:Step ρ H (bg ρ H G) w (λj=>if j=n then .pointer (some ⟨w.heap.size,0,none⟩)else ρ j) (aP H n (.ak aD e)) (bg (λj=>if j=n then .pointer (some ⟨w.heap.size,0,none⟩)else ρ j) (aP H n (.ak aD e)) G) (w.alloc (.cells cells.toArray e)):=by
  have ne:∀j x,H j=some x->j≠n:=λj x hx e=>by subst e;rw[hn]at hx;cases hx
  refine⟨λj x hx=>by simp[ne j x hx],λj x hx=>⟨x,by simp[aP,ne j x hx,hx],λc' e' hc=>⟨c',e',hc,rfl,rfl⟩⟩,λb hb=> ?_,λb hb _=>alloc_old hb,by rw[fL];omega⟩;rcases hb with⟨j,x,hx,h1,h2⟩|hb;by_cases hj:j=n;subst hj;simp only[if_true,eQ,Option.some.injEq]at h2;exact .inr (by omega);simp only[aP,hj,if_false]at hx h2;exact .inl (.inl ⟨j,x,hx,h1,h2⟩);exact .inl (.inr hb)
 refine Good.fresh (aa:=.pointer (some ⟨w.heap.size,0,none⟩)) hs hn rfl rfl rfl rfl (λb hb=>by simpa[eQ]using hb.symm) ?_ ?_;exact⟨w.heap.size,cells,(0,0),rfl,lS,λoff _ h=>by omega,hd.step st⟩;unfold ag aS;exact⟨w.heap.size,by simp,rfl,by simp[aP]⟩
theorem aeH(hs:Sat ρ H G w){n:Nat}(hn:H n=none){k:Nat}(hk:1<=k)(hk2:k<=maxLen){e:TypeId}:
 Good ρ H G w (aP H n (.vec (.strs (replicate k empty)) e)) (.gC n 0 0) (.pointer (some ⟨w.heap.size,0,none⟩)) (w.alloc (.cells (replicate k (Value.string empty)).toArray e)):=by
 have qS:∀b,eQ (.slice (some ⟨w.heap.size,0,none⟩) k k)=some b->b=w.heap.size:=by
  intro b hb;simp only[eQ]at hb;split at hb;cases hb;simpa using hb.symm
 refine Good.fresh (aa:=.slice (some ⟨w.heap.size,0,none⟩) k k) hs hn rfl rfl rfl rfl qS ?_ ?_;refine⟨some ⟨w.heap.size,0,none⟩,k,by simp[ba.n],by simp[ba.n],hk2,.inr ⟨w.heap.size,0,replicate k (Value.string empty),(0,0),λ_ _=>.string empty,rfl,lS,⟨λoff _ h=>by omega,λu hu=> ?_⟩,by simp[ba.size],λi j hi hj=> ?_⟩⟩;rw[(List.mem_replicate.1 hu).2];rfl;simp only[ba.n,List.length_replicate]at hi;simp only[ba.size]at hj ⊢;obtain rfl:j=0:=by omega
 refine⟨by simp[hi], ?_⟩;simp only[ba.cell];rw[show(replicate k empty).getD i empty=empty from by simp[List.getD,hi]];exact bh.str _;unfold ag aS
 exact⟨rfl,.vec (.strs (replicate k empty)) e,by simp[aP],λc' e' hc=>by
  cases hc;exact⟨by simp[ba.n];omega,by simp[ba.size],w.heap.size,0,k,k,by simp,by simp[ba.size]⟩⟩
theorem aeI{t:TypeId}{n:Nat}(h:zP P t=some n):1<=n/\n<=4096/\∃i v,P.info? t=some i/\i.zero=some v/\v.cells=(replicate n (Value.string empty)).toArray:=by
 unfold zP at h;split at h;rename_i m e i _ hi;split at h;rename_i z _ hz;rw[cond_eq_ite]at h;split at h;rename_i hc;simp only[Option.some.injEq]at h;subst h;simp only[and_eq_true,beq_eq]at hc;have⟨⟨⟨c1,c2⟩,c3⟩,c4⟩:=hc;have c1:=le_of_ble_eq_true c1;refine⟨by omega,le_of_ble_eq_true c2,i,z,hi,hz, ?_⟩;rw[all_eq_true]at c4
 have:z.cells.toList=replicate m (Value.string empty):=List.eq_replicate_iff.2 ⟨by rw[length_toList];exact c3,λb hb=>by
  have:=c4 b hb;split at this;rename_i s;have h0:s.size=0:=by simpa using this
  have:s=empty:=ext (Array.eq_empty_of_size_eq_zero h0);rw[this];cases this⟩
 rw[<-this];cases h;cases h;cases h
theorem ahX{t:TypeId}{q:bP}(h:(aes P t).eval H=some q)(hs:Sat ρ H G w){base:Nat}(hb:∀i,i<q.new.length->H (base+i)=none)(old:Value):
 ∃v w',(Instr.alloc t true old).run P w=.ok v w'/\Good ρ H G w (dc H q.up base q.new) (q.r base) v w':=by
 unfold aes at h;split at h;rename_i n hz;simp only[RM.eval,Option.some.injEq]at h;subst h;have⟨h1,h2,i,v,hi,hv,hc⟩:=aeI hz;have hn:H base=none:=by simpa using hb 0 (by simp)
 refine⟨.pointer (some ⟨w.heap.size,0,none⟩),w.alloc (.cells v.cells t), ?_, ?_⟩;simp[Instr.alloc,zeroValue,typeInfo,hi,hv,newVar,newRow];try rfl
 simp only[jd];have:=aeH hs hn h1 (by unfold maxLen;omega) (e:=t);rw[hc];simpa using this;split at h;rename_i aD hz;simp only[RM.eval,Option.some.injEq]at h;subst h;have⟨i,v,hi,hv,hd⟩:=oT (ρ:=ρ) (H:=H) (O:=bg ρ H G) (w:=w) hz;have hn:H base=none:=by simpa using hb 0 (by simp)
 refine⟨.pointer (some ⟨w.heap.size,0,none⟩),w.alloc (.cells v.cells t), ?_, ?_⟩;simp[Instr.alloc,zeroValue,typeInfo,hi,hv,newVar,newRow];try rfl
 simp only[jd];have:=yz hs hn (e:=t) hd;simpa using this;cases h
theorem an5{t:TypeId}{x:AV}{vx:Value}{q:bP}(h:(asa t x).eval H=some q)(hs:Sat ρ H G w)(hd:ag ρ H (bg ρ H G) w x vx){base:Nat}(hb:∀i,i<q.new.length->H (base+i)=none):
 ∃v w',(Instr.box t vx).run P w=.ok v w'/\Good ρ H G w (dc H q.up base q.new) (q.r base) v w':=by
 unfold asa at h;split at h;rename_i aD hz;simp only[RM.eval,Option.some.injEq]at h;subst h;have hn:H base=none:=by simpa using hb 0 (by simp)
 refine⟨.pointer (some ⟨w.heap.size,0,none⟩),w.alloc (.cells vx.cells t), ?_, ?_⟩;simp[Instr.box,newVar,newRow];try rfl
 simp only[jd];have:=yz hs hn (e:=t) (qM hz hd);simpa using this;cases h
end
section
variable{ρ aU:Nat->Value}{H H':a8}{G O O':Nat->Prop}{w w':World}{P:Program}
theorem yA(off:Nat):∀(vs:List Value) (k:Nat) (cells:Array Value),off+k+vs.length<=cells.size->
 ((vs.zipIdx k).foldl (λ(cs:Array Value) (x:Value×Nat)=>cs.setIfInBounds (off+x.2) x.1) cells).toList=cells.toList.take (off+k)++vs++cells.toList.drop (off+k+vs.length)
 |[],k,cells,_=>by simp
 |v::vs,k,cells,h=>by
  simp only[length_cons]at h;simp only[List.zipIdx_cons,List.foldl_cons];rw[yA off vs (k+1) _ (by simp;omega)];have br:off+k<cells.toList.length:=by simp;omega
  simp only[Array.toList_setIfInBounds];rw[<-add_assoc,List.take_set,List.drop_set_of_lt (by omega)]
  have e1:(cells.toList.take (off+k+1)).set (off+k) v=cells.toList.take (off+k)++[v]:=by
   rw[List.take_succ_eq_append_getElem br];rw[List.set_append_right _ _ (by simp;omega)];simp at br;simp[Nat.min_eq_left (Nat.le_of_lt br)]
  rw[e1];simp only[append_assoc,length_cons,cons_append,nil_append];rw[show off+k+1+vs.length=off+k+(vs.length+1)from by omega]
theorem uH{place:Nat->Option (Nat×Nat)}{ev:Operand->AV}{e:Operand->Value}:∀(l:List (Nat×Operand)) (aD ss:List AV) (cells:Array Value),(∀p∈l,ag ρ H O w (ev p.2) (e p.2))->
 pX place aD (l.map λp=>(p.1,ev p.2))=some ss->aE ρ H O w aD cells.toList->
 ∃ew,Instr.fill place cells (l.map λp=>(p.1,e p.2))=some ew/\aE ρ H O w ss ew.toList
 |[],aD,ss,cells,_,h,hd=>by
  simp only[map_nil,pX,Option.some.injEq]at h;subst h;exact⟨cells,rfl,hd⟩
 |(i,x)::l,aD,ss,cells,hp,h,hd=>by
  simp only[map_cons,pX]at h;split at h;rename_i off size jy hpl hby;rw[cond_eq_ite]at h;split at h;rename_i hc;simp only[and_eq_true,beq_eq]at hc;simp only[bind_eq_some_iff]at h;have⟨s1,h1,h2⟩:=h;have hx:=qM hby (hp (i,x) (by simp));have bx:=ja hx;have⟨h3,h4⟩:=vD h1 hd hx;simp only[length_toList]at bx h3
  have⟨ew,h5,h6⟩:=uH l s1 ss ((e x).cells.zipIdx.foldl (λcs (c,j)=>cs.setIfInBounds (off+j) c) cells) (λp zW=>hp p (by simp[zW])) h2 (by
   rw[<-Array.foldl_toList,Array.toList_zipIdx];have:=yA off (e x).cells.toList 0 cells (by simpa using h3);simp only[add_zero]at this;rw[this];exact h4)
  refine⟨ew, ?_,h6⟩;simp only[map_cons,Instr.fill,hpl];rw[if_neg (by simp;omega)];exact h5;cases h;cases h
theorem tz(P:Program)(w:World):∀(fs:List Field),fs.all (λf=>(dO P f.type).isSome)=true->
 (fs.mapM (m:=Sem) λf=>do pure (f.offset,<-sizeOf f.type)).run P w=.ok (fs.map λf=>(f.offset,(dO P f.type).getD 0)) w
 |[],_=>by simp
 |f::fs,h=>by
  simp only[all_cons,and_eq_true]at h;have⟨n,hn⟩:=isSome_iff_exists.1 h.1;have ih:=tz P w fs h.2;simp only[List.mapM_cons,Sem.run_bind,run_sizeOf hn,Result.andThen_ok,Sem.run_pure,ih,map_cons,hn,getD_some]
theorem ahY{t:TypeId}{ps:Array (Nat×Operand)}{ev:Operand->AV}{e:Operand->Value}{q:bP}(h:(aet P t (ps.toList.map λp=>(p.1,ev p.2))).eval H=some q)(hn:bE q.ab)
 (hp:∀p∈ps,ag ρ H O w (ev p.2) (e p.2)):fp P ρ H O w q (Instr.build t (ps.map λ(i,x)=>(i,e x))):=by
 have zW:∀p∈ps.toList,ag ρ H O w (ev p.2) (e p.2):=λp hm=>hp p (Array.mem_toList_iff.1 hm);unfold aet at h;split at h;rename_i aD fs hz ht;have⟨i,v,hi,hv,hd⟩:=oT (ρ:=ρ) (H:=H) (O:=O) (w:=w) hz;rw[cond_eq_ite]at h;split at h;rename_i aaf;split at h;rename_i ss hss
 have hm:(fs.mapM (m:=Sem) λf=>do pure (f.offset,<-sizeOf f.type)).run P w=.ok (fs.toList.map λf=>(f.offset,(dO P f.type).getD 0)).toArray w:=by
  rw[Array.mapM_eq_mapM_toList];simp only[Sem.run_map,tz P w fs.toList aaf,Result.andThen_ok]
 have aso:(λi=>((fs.toList.map λ(f:Field)=>(f.offset,(dO P f.type).getD 0)).toArray)[i]?)=(λ(i:Nat)=>(fs[i]?).bind λ(f:Field)=>(dO P f.type).map λn=>(f.offset,n)):=by
  funext i;simp only[List.getElem?_toArray,getElem?_map,Array.getElem?_toList];cases hf:fs[i]? with
  |none=>rfl|some f=>
   have jK:f∈fs.toList:=Array.mem_toList_iff.2 (Array.mem_of_getElem? hf);have⟨n,hn⟩:=isSome_iff_exists.1 (all_eq_true.1 aaf f jK);simp[hn]
 have⟨ew,h1,h2⟩:=uH ps.toList aD ss v.cells zW hss hd;refine aR h (λ_=>⟨.agg ew, ?_,by simpa using lR h2⟩) hn;rw[<-aso]at h1;simp only[Instr.build,zeroValue,typeInfo,Sem.run_bind,run_program,Result.andThen_ok,hi,Sem.run_pure,hv,run_underlying ht,hm];simp only[Array.toList_map];erw [h1];rfl;cases h;cases h;rename_i aD n el hz ht;have⟨i,v,hi,hv,hd⟩:=oT (ρ:=ρ) (H:=H) (O:=O) (w:=w) hz;split at h;rename_i sz bZ;split at h;rename_i ss hss;have⟨ew,h1,h2⟩:=uH ps.toList aD ss v.cells zW hss hd;refine aR h (λ_=>⟨.agg ew, ?_,by simpa using lR h2⟩) hn;simp only[Instr.build,zeroValue,typeInfo,Sem.run_bind,run_program,Result.andThen_ok,hi,Sem.run_pure,hv,run_underlying ht,run_sizeOf bZ];simp only[Array.toList_map];erw [h1];rfl;cases h;cases h;cases h
end
section
variable{ρ aU:Nat->Value}{H H':a8}{G O O':Nat->Prop}{w w':World}{P:Program}
def Pts(O:Nat->Prop)(w:World)(l:List SV)(cs:List Value):Prop:=l.length=cs.length/\∀(i:Nat) (v:SV),l[i]? =some v->∃u,cs[i]? =some u/\bh O w v u
theorem an6:Pts O w [] ([]:List Value):=⟨rfl,by simp⟩
theorem vL{v:SV}{l:List SV}{cs:List Value}(h:Pts O w (v::l) cs):∃u jz,cs=u::jz/\bh O w v u/\Pts O w l jz:=by
 have⟨h1,h2⟩:=h;cases cs with
 |nil=>simp at h1|cons u jz=>
  have⟨u',h3,h4⟩:=h2 0 v rfl;simp at h3;subst h3;exact⟨_,_,rfl,h4,by simpa using h1,λi x hx=>by simpa using h2 (i+1) x (by simpa using hx)⟩
theorem ajN{v:SV}{l:List SV}{u:Value}{cs:List Value}(h1:bh O w v u)(h2:Pts O w l cs):Pts O w (v::l) (u::cs):=
 ⟨by simp[h2.1],λi x hx=>by
   cases i with
   |zero=>simp at hx;subst hx;exact⟨u,rfl,h1⟩|succ i=>simpa using h2.2 i x (by simpa using hx)⟩
theorem aeJ:∀(aT:List AV) {l:List SV} {cs:List Value},svs aT=some l->aE ρ H O w aT cs->Pts O w l cs
 |[],l,cs,h,hd=>by
  simp only[svs,Option.some.injEq]at h;subst h;obtain rfl:=aG.1 hd;exact an6
 |a::aT,l,cs,h,hd=>by
  obtain⟨c1,c2,rfl,h1,h2⟩:=aq.1 hd;rcases sk a with⟨k,n,ws,rfl⟩|ha;simp[svs]at h
  have hs:svs (a::aT)=match a.sv?,svs aT with|some v,some vs=>some (v::vs)|_,_=>none:=by
   cases a<;>first|rfl|(exact(ha _ _ _ rfl).elim)
  rw[hs]at h;split at h;rename_i v vs hv hvs;simp only[Option.some.injEq]at h;subst h;cases a with
  |s x=>
   unfold aX at h1;obtain⟨u,rfl,hu⟩:=h1;have:x=v:=by cases x<;>simp only[AV.sv?,Option.some.injEq,reduceCtorEq]at hv<;>exact hv
   subst this;exact ajN hu (aeJ aT hvs h2)
  |emp=>
   unfold aX at h1;obtain⟨u,rfl,x,rfl⟩:=h1;simp only[AV.sv?,Option.some.injEq]at hv;subst hv;exact ajN (.ro (.eM 1 0 λ_ _=>.bm) x 0 (λ_ _=>undef) 0 0 (le_refl _) (by simp[maxLen]) (by simp[ba.n]) (by simp[ba.n]) (by simp[ba.n])) (aeJ aT hvs h2)
  |_=>simp[AV.sv?]at hv
  cases h
theorem yB(k:IntKind):∀(l:List SV) {zs:List Int} {cs:List Value},pY k l=some zs->Pts O w l cs->zs.length=cs.length/\∀i,i<zs.length->∃u,cs[i]? =some u/\bh O w (.int k (zs.getD i 0)) u
 |[],zs,cs,h,hp=>by
  simp only[pY,Option.some.injEq]at h;subst h;exact⟨hp.1,by simp⟩
 |v::l,zs,cs,h,hp=>by
  obtain⟨u,jz,rfl,hu,zW⟩:=vL hp
  have key:∀k' n,bh O w (.int k' n) u->(bif bU k k' then(pY k l).map (n:: ·)else none)=some zs->zs.length=(u::jz).length/\∀i,i<zs.length->∃x,(u::jz)[i]? =some x/\bh O w (.int k (zs.getD i 0)) x:=by
   intro k' n hd h;rw[cond_eq_ite]at h;split at h;rename_i hk;obtain rfl:=bu hk;simp only[map_eq_some_iff]at h;obtain⟨zs',h1,rfl⟩:=h;have⟨h2,h3⟩:=yB k l h1 zW;refine⟨by simp[h2],λi hi=> ?_⟩;cases i with
   |zero=>exact⟨u,rfl,by simpa using hd⟩
   |succ i=>simpa using h3 i (by simpa using hi)
   cases h
  cases v<;>simp only[pY,reduceCtorEq]at h
  case int k' n=>exact key k' n hu h
  case aO k' n=>cases hu;exact key k' n (.int _ _) h
theorem yC:∀(l:List SV) {zs:List ByteArray} {cs:List Value},r9 l=some zs->Pts O w l cs->zs.length=cs.length/\∀i,i<zs.length->∃u,cs[i]? =some u/\bh O w (.str (zs.getD i empty)) u
 |[],zs,cs,h,hp=>by
  simp only[r9,Option.some.injEq]at h;subst h;exact⟨hp.1,by simp⟩
 |v::l,zs,cs,h,hp=>by
  obtain⟨u,jz,rfl,hu,zW⟩:=vL hp;cases v<;>simp only[r9,reduceCtorEq]at h;simp only[map_eq_some_iff]at h;obtain⟨zs',h1,rfl⟩:=h;have⟨h2,h3⟩:=yC l h1 zW;refine⟨by simp[h2],λi hi=> ?_⟩;cases i with
  |zero=>exact⟨u,rfl,by simpa using hu⟩
  |succ i=>simpa using h3 i (by simpa using hi)
theorem qb:∀(l:List SV) {zs:List Bool} {cs:List Value},oP l=some zs->Pts O w l cs->zs.length=cs.length/\∀i,i<zs.length->∃u,cs[i]? =some u/\bh O w (.bool (zs.getD i false)) u
 |[],zs,cs,h,hp=>by
  simp only[oP,Option.some.injEq]at h;subst h;exact⟨hp.1,by simp⟩
 |v::l,zs,cs,h,hp=>by
  obtain⟨u,jz,rfl,hu,zW⟩:=vL hp;cases v<;>simp only[oP,reduceCtorEq]at h
  case bool b=>
   simp only[map_eq_some_iff]at h;obtain⟨zs',h1,rfl⟩:=h;have⟨h2,h3⟩:=qb l h1 zW;refine⟨by simp[h2],λi hi=> ?_⟩;cases i with
   |zero=>exact⟨u,rfl,by simpa using hu⟩
   |succ i=>simpa using h3 i (by simpa using hi)
  case aN b=>
   simp only[map_eq_some_iff]at h;obtain⟨zs',h1,rfl⟩:=h;have⟨h2,h3⟩:=qb l h1 zW;refine⟨by simp[h2],λi hi=> ?_⟩;cases i with
   |zero=>cases hu;exact⟨_,rfl,by simpa using bh.bool _⟩
   |succ i=>simpa using h3 i (by simpa using hi)
theorem ahZ{cs:List CK}{f:Nat->SV}{x:CL cs}(h:CL.ofs cs f=some x):∀j,j<CL.wide cs->∀(O:Nat->Prop) (w:World) (u:Value),bh O w (f j) u->bh O w (CL.cell cs x j) u:=by
 unfold CL.ofs at h;generalize CL.wide cs=m at h
 induction m generalizing x with
 |zero=>intro j hj;omega
 |succ m ih=>
  rw[List.range_succ,List.foldl_append]at h;simp only[List.foldl_cons,List.foldl_nil,bind_eq_some_iff]at h;have⟨y,h1,h2⟩:=h;have⟨h3,h4⟩:=sr h2;intro j hj O w u hu;by_cases hjm:j=m;subst hjm;exact h3 O w u hu;rw[h4 j hjm];exact ih h1 j (by omega) O w u hu
theorem abQ{cs:List CK}{size:Nat}{cells:List SV}:∀{n i:Nat} {xs:List (CL cs)},yr cs size cells i n=some xs->xs.length=n/\∀k,k<n->∀j,j<CL.wide cs->∀(O:Nat->Prop) (w:World) (u:Value),
 bh O w (cells.getD ((i+k)*size+j) .bm) u->bh O w (CL.cell cs (xs.getD k (CL.d cs)) j) u
 |0,i,xs,h=>by
  simp only[yr,Option.some.injEq]at h;subst h;exact⟨rfl,λk hk=>by omega⟩
 |n+1,i,xs,h=>by
  simp only[yr]at h;split at h;rename_i x ys h1 h2;simp only[Option.some.injEq]at h;subst h;have⟨h3,h4⟩:=abQ h2;refine⟨by simp[h3],λk hk j hj O w u hu=> ?_⟩;cases k with
  |zero=>exact ahZ h1 j hj O w u (by simpa using hu)
  |succ k=>
   have:=h4 k (by omega) j hj O w u (by rw[show i+1+k=i+(k+1)from by omega];exact hu);simpa using this
  cases h
theorem ajO{sh:Shape}{size n:Nat}{l:List SV}{cs:List Value}(hp:Pts O w l cs)(hl:l.length=n*size)(hn:(tq sh size n l).n=n)(hs:(tq sh size n l).size=size):
 ∀i j,i<n->j<size->∃u,cs[i*size+j]? =some u/\bh O w ((tq sh size n l).cell i j) u:=by
 have hd:∀i j,i<n->j<size->∃u,cs[i*size+j]? =some u/\bh O w ((ba.eM size n λi j=>l.getD (i*size+j) .bm).cell i j) u:=by
  intro i j hi hj
  have br:i*size+j<l.length:=by
   rw[hl];have:(i+1)*size<=n*size:=Nat.mul_le_mul_right _ (by omega);rw[Nat.succ_mul]at this;omega
  have⟨u,h1,h2⟩:=hp.2 (i*size+j) l[i*size+j] (by simp[br]);refine⟨u,h1, ?_⟩;simp only[ba.cell,List.getD,getElem?_eq_getElem br,getD_some];exact h2
 unfold tq at hn hs ⊢;cases sh with
 |af k=>
  cases hx:pY k l with
  |none=>simp only[hx,Option.elim]at hn hs ⊢;exact hd|some zs=>
   simp only[hx,Option.elim,ba.n,ba.size]at hn hs ⊢;subst hs;intro i j hi hj;obtain rfl:j=0:=by omega
   have⟨h1,h2⟩:=yB k l hx hp;simpa[ba.cell]using h2 i (by omega)
 |strs=>
  cases hx:r9 l with
  |none=>simp only[hx,Option.elim]at hn hs ⊢;exact hd|some zs=>
   simp only[hx,Option.elim,ba.n,ba.size]at hn hs ⊢;subst hs;intro i j hi hj;obtain rfl:j=0:=by omega
   have⟨h1,h2⟩:=yC l hx hp;simpa[ba.cell]using h2 i (by omega)
 |bS=>
  cases hx:oP l with
  |none=>simp only[hx,Option.elim]at hn hs ⊢;exact hd|some zs=>
   simp only[hx,Option.elim,ba.n,ba.size]at hn hs ⊢;subst hs;intro i j hi hj;obtain rfl:j=0:=by omega
   have⟨h1,h2⟩:=qb l hx hp;simpa[ba.cell]using h2 i (by omega)
 |ah ck=>
  simp only[cond_eq_ite]at hn hs ⊢;by_cases hw:(CL.wide ck).beq size=true;simp only[hw,if_true]at hn hs ⊢;cases hx:yr ck size l 0 n with
  |none=>simp only[hx,Option.elim]at hn hs ⊢;exact hd|some zs=>
   simp only[hx,Option.elim,ba.n,ba.size]at hn hs ⊢;intro i j hi hj;have⟨h1,h2⟩:=abQ hx;have⟨u,h3,h4⟩:=hd i j hi hj;exact⟨u,h3,h2 i hi j (by omega) O w u (by rw[zero_add];exact h4)⟩
  simp only[hw]at hn hs ⊢;exact hd
 |other=>exact hd
theorem vM{α:Type}(l:List α):∀n,(rep n l).length=n*l.length
 |0=>by simp[rep]
 |n+1=>by simp[rep,vM l n,Nat.succ_mul,Nat.add_comm]
theorem afU{α:Type}(l:List α):∀(n k:Nat),k<n*l.length->(rep n l)[k]? =l[k%l.length]?
 |0,k,h=>by simp at h
 |n+1,k,h=>by
  simp only[rep];by_cases hk:k<l.length;rw[getElem?_append_left hk,Nat.mod_eq_of_lt hk];rw[getElem?_append_right (by omega),afU l n (k - l.length) (by rw[Nat.succ_mul]at h;omega)];congr 1;rw[Nat.mod_eq_sub_mod (by omega:l.length<=k)]
theorem tA{z:List AV}{cs:List Value}(h:aE ρ H O w z cs):∀n,aE ρ H O w (rep n z) (rep n cs)
 |0=>aG.2 rfl|n+1=>fH.2 ⟨_,_,rfl,h,tA h n⟩
theorem ah0(zc:Array Value)(n:Nat):((Array.range (n*zc.size)).map (zc[· %zc.size]!)).toList=rep n zc.toList:=by
 apply List.ext_getElem?;intro k;simp only[Array.toList_map,Array.toList_range,getElem?_map];by_cases hk:k<n*zc.size;rw[List.getElem?_range hk,afU _ _ _ (by simpa using hk)]
 have hz:0<zc.size:=by
  rcases Nat.eq_zero_or_pos zc.size with h0|h0;rw[h0]at hk;omega;exact h0
 have hm:k%zc.size<zc.size:=Nat.mod_lt _ hz;simp[hm];rw[getElem?_eq_none (by simp;omega),getElem?_eq_none (by rw[vM];simp;omega)];rfl
end
section
variable{ρ aU:Nat->Value}{H H':a8}{G O O':Nat->Prop}{w w':World}{P:Program}
theorem lZ(hs:Sat ρ H G w){w1:World}(hw:w1.heap=w.heap)(ht:w1.tape=w.tape)(hos:w1.os=w.os)(nw:w1.output=w.output){n:Nat}(hn:H n=none){c:ba}{e:TypeId}{cells:List Value}{cap:Nat}
 (h1:c.n<=cap) (h2:cap<=maxLen) (h3:cap*c.size<=cells.length) (us:Nat->Nat->Value)
 (hd:∀i j,i<c.n->j<c.size->cells[i*c.size+j]? =some (us i j)/\bh (bg ρ H G) w (c.cell i j) (us i j)) (sw:∀u∈cells,u.oneCell'=true):
 Good ρ H G w (aP H n (.vec c e)) (.vec n) (.slice (some ⟨w.heap.size,0,none⟩) c.n cap) (w1.alloc (.cells cells.toArray e)):=by
 have qS:∀b,eQ (.slice (some ⟨w.heap.size,0,none⟩) c.n cap)=some b->b=w.heap.size:=by
  intro b hb;simp only[eQ]at hb;split at hb;cases hb;simpa using hb.symm
 have st:Step ρ H (bg ρ H G) w (λj=>if j=n then .slice (some ⟨w.heap.size,0,none⟩) c.n cap else ρ j) (aP H n (.vec c e)) (bg (λj=>if j=n then .slice (some ⟨w.heap.size,0,none⟩) c.n cap else ρ j) (aP H n (.vec c e)) G) (w1.alloc (.cells cells.toArray e)):=by
  have ne:∀j x,H j=some x->j≠n:=λj x hx e=>by subst e;rw[hn]at hx;cases hx
  refine⟨λj x hx=>by simp[ne j x hx],λj x hx=>⟨x,by simp[aP,ne j x hx,hx],λc' e' hc=>⟨c',e',hc,rfl,rfl⟩⟩,λb hb=> ?_,λb hb _=>by rw[alloc_old (by rw[hw];exact hb),hw],by rw[fL,hw];omega⟩;rcases hb with⟨j,x,hx,h1,h2⟩|hb;by_cases hj:j=n;subst hj;simp only[if_true]at h2;exact .inr (by rw[qS b h2];exact le_refl _);simp only[aP,hj,if_false]at hx h2;exact .inl (.inl ⟨j,x,hx,h1,h2⟩);exact .inl (.inr hb)
 refine Good.fresh (aa:=.slice (some ⟨w.heap.size,0,none⟩) c.n cap) hs hn hw ht hos nw qS ?_ ?_;refine⟨_,cap,rfl,h1,h2,.inr ⟨w.heap.size,0,cells,(0,0),us,rfl,by rw[<-hw];exact lS,⟨λoff _ h=>by omega,sw⟩,by omega,λi j hi hj=> ?_⟩⟩;have⟨g1,g2⟩:=hd i j hi hj;exact⟨by rw[zero_add];exact g1,g2.step st.gf st.heap st.size⟩;unfold ag aS;exact⟨rfl,.vec c e,by simp[aP],λc' e' hc=>by simp⟩
theorem vN{t:TypeId}{n:Nat}{ps:Array (Nat×Operand)}{ev:Operand->AV}{e:Operand->Value}{q:bP}(h:(nL P t n (ps.toList.map λp=>(p.1,ev p.2))).eval H=some q)
 (hs:Sat ρ H G w) (hp:∀p∈ps,ag ρ H (bg ρ H G) w (ev p.2) (e p.2)) {base:Nat} (hb:∀i,i<q.new.length->H (base+i)=none):
 ∃v w',(Instr.buildSlice t n (ps.map λ(i,x)=>(i,e x))).run P w=.ok v w'/\Good ρ H G w (dc H q.up base q.new) (q.r base) v w':=by
 have zW:∀p∈ps.toList,ag ρ H (bg ρ H G) w (ev p.2) (e p.2):=λp hm=>hp p (Array.mem_toList_iff.1 hm);unfold nL at h;split at h;rename_i el ht;split at h;rename_i sz z bZ hz;rw[cond_eq_ite]at h;split at h;rename_i hc;simp only[and_eq_true,beq_eq]at hc;have⟨⟨c1,c2⟩,c3⟩:=hc;have c1:=le_of_ble_eq_true c1;have c2:=le_of_ble_eq_true c2;split at h;rename_i l hl;simp only[bind_eq_some_iff]at hl;have⟨ss,asn,hsv⟩:=hl;rw[cond_eq_ite]at h;split at h;rename_i hc;simp only[and_eq_true,beq_eq]at hc;have⟨⟨d1,d2⟩,d3⟩:=hc;simp only[RM.eval,Option.some.injEq]at h;subst h;have⟨i,v,hi,hv,hd⟩:=oT (ρ:=ρ) (H:=H) (O:=bg ρ H G) (w:=w) hz;have hlz:v.cells.size=sz:=by rw[<-length_toList,ja hd,c3]
 have aag:((Array.range (n*sz)).map (v.cells[· %v.cells.size]!)).toList=rep n v.cells.toList:=by rw[<-hlz];exact ah0 _ _
 have⟨ew,h1,h2⟩:=uH ps.toList _ ss ((Array.range (n*sz)).map (v.cells[· %v.cells.size]!)) zW asn (by rw[aag];exact tA hd n);have avk:=aeJ ss hsv h2;have avl:=ajO avk d1 d2 d3;have hcl:ew.toList.length=n*sz:=by rw[<-avk.1,d1]
 have hn:H base=none:=by simpa using hb 0 (by simp)
 refine⟨.slice (some ⟨w.heap.size,0,none⟩) n n,w.alloc (.cells ew el), ?_, ?_⟩;have abR:¬(n*sz>2^24):=by omega
 have key:∀zc:Array Value,((Array.range (n*sz)).map (zc[· %zc.size]!))=((Array.range (n*sz)).map (v.cells[· %v.cells.size]!))->
  (match Instr.fill (λi=>some (i*sz,sz)) ((Array.range (n*sz)).map (zc[· %zc.size]!)) (ps.map λ(i,x)=>(i,e x)).toList with
    |some cells=>do
     let a <-newRow el cells
     pure (Value.slice (some a) n n)
    |_=>stuck "buildSlice: a part of the wrong size" :Sem Value).run P w=.ok (.slice (some ⟨w.heap.size,0,none⟩) n n) (w.alloc (.cells ew el)):=by
  intro zc hz;rw[hz];simp only[Array.toList_map];erw [h1];simp[newRow]
 simp only[Instr.buildSlice,Sem.run_bind,run_underlying ht,Result.andThen_ok,run_sizeOf bZ,abR,if_false];by_cases h0:n*sz=0;rw[if_pos h0];simp only[Sem.run_bind,Sem.run_pure,Result.andThen_ok]
 exact key #[] (by have:Array.range (n*sz)= #[]:=by rw[h0];rfl
                   rw[this];simp)
 rw[if_neg h0];simp only[Sem.run_bind,Sem.run_pure,Result.andThen_ok,zeroValue,typeInfo,run_program,hi,hv];exact key v.cells rfl;simp only[jd];have:=lZ hs (w1:=w) rfl rfl rfl rfl hn (c:=tq (shapeOf P el) sz n l) (e:=el) (cells:=ew.toList) (cap:=n) (by omega) (by simp only[maxLen];have:n<=n*sz:=Nat.le_mul_of_pos_right n (by omega);omega) (by rw[d3,hcl];exact le_refl _)
  (λi j=>ew.toList.getD (i*sz+j) undef) (λi j hi hj=>by
    rw[d2]at hi;rw[d3]at hj ⊢;have⟨u,g1,g2⟩:=avl i j hi hj;have br:i*sz+j<ew.toList.length:=(List.getElem?_eq_some_iff.1 g1).1;rw[hH _ _ undef br]at g1;simp only[Option.some.injEq]at g1;exact⟨hH _ _ _ br,by rw[g1];exact g2⟩) (λu hu=>by
    obtain⟨k,hk,rfl⟩:=List.getElem_of_mem hu;rw[hcl]at hk
    have hp:0<sz:=by rcases Nat.eq_zero_or_pos sz with h0|h0
                     rw[h0]at hk;omega;exact h0
    have⟨u,g1,g2⟩:=avl (k / sz) (k%sz) (Nat.div_lt_of_lt_mul (by rw[Nat.mul_comm];exact hk)) (Nat.mod_lt _ hp);rw[show k / sz*sz+k%sz=k from Nat.div_add_mod' k sz,getElem?_eq_getElem (by rw[hcl];exact hk)]at g1;cases g1;exact g2.one)
 simpa[d2]using this;cases h;cases h;cases h;cases h;cases h
theorem yD:∀(r ab c:Nat),c<=2*ab+192->Builtin.growBy ab r c<=2*ab+192
 |0,ab,c,h=>h|r+1,ab,c,h=>by
  unfold Builtin.growBy;split;exact h;exact yD r ab _ (by omega)
theorem nextslicecap_le{ab old:Nat}(h:old<ab):Builtin.nextslicecap ab old<=2*ab+192:=by
 unfold Builtin.nextslicecap;split;omega;split;omega;exact yD 4 ab old (by omega)
theorem growBy_four(n c:Nat):Builtin.growBy n 4 c=
 if c>=n then c else
 if c+(c+768) / 4>=n then c+(c+768) / 4 else
 if c+(c+768) / 4+(c+(c+768) / 4+768) / 4>=n then c+(c+768) / 4+(c+(c+768) / 4+768) / 4 else
 if c+(c+768) / 4+(c+(c+768) / 4+768) / 4+(c+(c+768) / 4+(c+(c+768) / 4+768) / 4+768) / 4>=n
 then c+(c+768) / 4+(c+(c+768) / 4+768) / 4+(c+(c+768) / 4+(c+(c+768) / 4+768) / 4+768) / 4 else
 c+(c+768) / 4+(c+(c+768) / 4+768) / 4+(c+(c+768) / 4+(c+(c+768) / 4+768) / 4+768) / 4+
  (c+(c+768) / 4+(c+(c+768) / 4+768) / 4+(c+(c+768) / 4+(c+(c+768) / 4+768) / 4+768) / 4+768) / 4:=rfl
theorem sA{ab old:Nat}(h:old<ab):Builtin.nextslicecap ab old<=2*ab:=by
 unfold Builtin.nextslicecap;split;omega;split;omega;rw[growBy_four]
 repeat' split
 all_goals omega
structure Src (P:Program) (O:Nat->Prop) (w:World) (size:Nat) (d:ba) (v:Value) (bJ:List Value):Prop where
 len:(Builtin.lenOf v).run P w=.ok d.n w
 length:bJ.length=d.n*size
 first:∀w2:World,w2.heap=w.heap->(Builtin.firstCells size d.n v).run P w2=.ok bJ.toArray w2
 one:∀u∈bJ,u.oneCell'=true
 den:∀i j,i<d.n->j<size->∃u,bJ[i*size+j]? =some u/\bh O w (d.cell i j) u
theorem uI{size:Nat}{d:ba}{v:Value}(h:qa O w d v)(hs:d.size=size)(h1:1<=size):∃bJ,Src P O w size d v bJ:=by
 obtain⟨a,cap,us,rfl,g1,g2,g3⟩:=h;subst hs
 have hdm:∀m,m<d.n*d.size->m / d.size<d.n/\m%d.size<d.size:=λm hm=>
  ⟨Nat.div_lt_of_lt_mul (by rw[Nat.mul_comm];exact hm),Nat.mod_lt _ (by omega)⟩
 refine⟨(List.range (d.n*d.size)).map λm=>us (m / d.size) (m%d.size), ?_,by simp,λw2 hw2=> ?_,λu hu=> ?_,λi j hi hj=> ?_⟩;simp[Builtin.lenOf];rcases Nat.eq_zero_or_pos d.n with h0|h0;rw[h0];cases a<;>simp[Builtin.firstCells,loadCells,loadCellsFrom];obtain⟨b,o,rfl,_,hc⟩:=g3 h0;simp only[Builtin.firstCells];refine run_loadCells w2 _ _ (λm=>us (m / d.size) (m%d.size)) (λm hm=> ?_);have⟨k1,k2⟩:=hdm m hm;rw[bo];have:=(hc _ _ k1 k2).1;rw[add_assoc,show m / d.size*d.size+m%d.size=m from by rw[Nat.mul_comm];exact Nat.div_add_mod m d.size]at this;rw[<-this];simp[World.cell?,hw2];obtain⟨m,hm,rfl⟩:=mem_map.1 hu;have hm:m<d.n*d.size:=mem_range.1 hm;have⟨k1,k2⟩:=hdm m hm;obtain⟨b,o,rfl,_,hc⟩:=g3 (Nat.lt_of_le_of_lt (zero_le _) k1);exact(hc _ _ k1 k2).2.one
 have br:i*d.size+j<d.n*d.size:=by
  have:(i+1)*d.size<=d.n*d.size:=Nat.mul_le_mul_right _ (by omega);rw[Nat.succ_mul]at this;omega
 obtain⟨b,o,rfl,_,hc⟩:=g3 (by omega);have e1:(i*d.size+j) / d.size=i:=by rw[Nat.mul_comm,Nat.mul_add_div (by omega),Nat.div_eq_of_lt hj];rfl
 have e2:(i*d.size+j)%d.size=j:=by rw[Nat.mul_comm,Nat.mul_add_mod,Nat.mod_eq_of_lt hj]
 exact⟨us i j,by rw[getElem?_map,List.getElem?_range br];simp[e1,e2],(hc i j hi hj).2⟩
theorem an7{s:ByteArray}:∃bJ,Src P O w 1 (.af .u8 (s.data.toList.map λb=>(b.toNat:Int))) (.string s) bJ:=by
 refine⟨s.data.toList.map λb=>.int .u8 b.toNat, ?_,by simp[ba.n],λw2 hw2=> ?_,λu hu=> ?_,λi j hi hj=> ?_⟩;simp[Builtin.lenOf,ba.n];simp only[Builtin.firstCells,ba.n,Sem.run_pure,length_map];congr 1;have h:s.data.toList.length=s.size:=length_toList;rw[h,ByteArray.extract_zero_size];apply toList_inj.1;rw[Array.toList_map];obtain⟨b,_,rfl⟩:=mem_map.1 hu;rfl;simp only[ba.n,length_map]at hi;obtain rfl:j=0:=by omega
 have fh:i<s.data.toList.length:=hi;refine⟨.int .u8 (s.data.toList[i].toNat),by rw[Nat.mul_one,add_zero,getElem?_map,getElem?_eq_getElem fh];rfl, ?_⟩;simp only[ba.cell]
 have:(s.data.toList.map λb=>((b.toNat:Nat):Int)).getD i 0=(s.data.toList[i].toNat:Int):=by
  rw[List.getD,getElem?_map,getElem?_eq_getElem fh];rfl
 rw[this];exact .int _ _
end
section
variable{ρ aU:Nat->Value}{H H':a8}{G O O':Nat->Prop}{w w':World}{P:Program}
theorem fN{α:Type}(xs ys:List α){lo k:Nat}(h:lo+k<=xs.length)(hk:k<=ys.length):(over xs lo k ys).length=xs.length:=by
 simp only[over,length_append,length_take,length_drop];omega
theorem jU{α:Type}(xs ys:List α)(d:α){lo k:Nat}(h:lo+k<=xs.length)(hk:k<=ys.length)(i:Nat):
 (over xs lo k ys).getD i d=if lo<=i/\i<lo+k then ys.getD (i - lo) d else xs.getD i d:=by
 have hto:(xs.take lo).length=lo:=by simp;omega
 have hty:(ys.take k).length=k:=by simp;omega
 simp only[over,List.getD];by_cases h1:i<lo;rw[if_neg (by omega),append_assoc,getElem?_append_left (by omega),getElem?_take,if_pos h1];by_cases h2:i<lo+k;rw[if_pos (by omega),append_assoc,getElem?_append_right (by omega),hto,getElem?_append_left (by omega),getElem?_take,if_pos (by omega)];rw[if_neg (by omega),append_assoc,getElem?_append_right (by omega),hto,getElem?_append_right (by omega),hty,List.getElem?_drop];congr 2;omega
theorem ah1{α:Type}{lo i k:Nat}{a b:α}:(bif lo.ble i&&i.blt (lo+k)then a else b)=if lo<=i/\i<lo+k then a else b:=by
 rw[cond_eq_ite];congr 1;simp[Nat.blt,Nat.lt_iff_add_one_le,Nat.ble_eq]
theorem abS{cs jz:List CK}(xs:List (CL cs))(ys:List (CL jz))(lo k:Nat)(p:ba->Prop)(h1:∀e:jz=cs,p (.ah cs (over xs lo k (e▸ys))))
 (h2:p (.eM (CL.wide cs) xs.length λi j=>bif lo.ble i&&i.blt (lo+k)then(ba.ah jz ys).cell (i - lo) j else(ba.ah cs xs).cell i j)):p (dv (.ah cs xs) lo k (.ah jz ys)):=by
 simp only[dv];split;rename_i h _;exact h1 h.down;exact h2
theorem tB(c d:ba){lo k:Nat}(h:lo+k<=c.n)(hk:k<=d.n):
 (dv c lo k d).n=c.n/\(dv c lo k d).size=c.size/\∀i j,i<c.n->(dv c lo k d).cell i j=if lo<=i/\i<lo+k then d.cell (i - lo) j else c.cell i j:=by
 have other:∀c':ba,c'=.eM c.size c.n (λi j=>bif lo.ble i&&i.blt (lo+k)then d.cell (i - lo) j else c.cell i j)->
  c'.n=c.n/\c'.size=c.size/\∀i j,i<c.n->c'.cell i j=if lo<=i/\i<lo+k then d.cell (i - lo) j else c.cell i j:=by
  rintro c' rfl;exact⟨rfl,rfl,λi j _=>ah1⟩
 cases c<;>cases d
 case af.af k1 xs k2 ys=>
  simp only[dv];cases hkk:bU k1 k2;exact other _ rfl;obtain rfl:=bu hkk;simp only[ba.n]at h hk;refine⟨fN xs ys h hk,rfl,λi j _=> ?_⟩;simp only[ba.cell,jU xs ys _ h hk,cond_true];split<;>rfl
 case strs.strs xs ys=>
  simp only[ba.n]at h hk;refine⟨fN xs ys h hk,rfl,λi j _=> ?_⟩;simp only[dv,ba.cell,jU xs ys _ h hk];split<;>rfl
 case bS.bS xs ys=>
  simp only[ba.n]at h hk;refine⟨fN xs ys h hk,rfl,λi j _=> ?_⟩;simp only[dv,ba.cell,jU xs ys _ h hk];split<;>rfl
 case ah.ah cs xs jz ys=>
  simp only[ba.n]at h hk;refine abS xs ys lo k (λc'=>c'.n=(ba.ah cs xs).n/\c'.size=(ba.ah cs xs).size/\∀i j,i<(ba.ah cs xs).n->c'.cell i j=if lo<=i/\i<lo+k then(ba.ah jz ys).cell (i - lo) j else(ba.ah cs xs).cell i j) ?_ (other _ rfl);rintro rfl;refine⟨fN xs ys h hk,rfl,λi j _=> ?_⟩;simp only[ba.cell,jU xs ys _ h hk];split<;>rfl
 all_goals exact other _ rfl
theorem Good.upd(hs:Sat ρ H G w){id:Nat}{o o':au}(ho:H id=some o)(ha:o.alive=o'.alive)
 (sn:∀c' e',o'=.vec c' e'->∃c e,o=.vec c e/\c'.n=c.n/\c'.size=c.size) {r:AV} {v:Value}
 (ej:iB ρ (aP H id o') (bg ρ H G) w (ρ id) o') (hr:ag ρ (aP H id o') (bg ρ H G) w r v):Good ρ H G w (aP H id o') r v w:=by
 have hh:=z6 (ρ:=ρ) (G:=G) ho ha
 have st:Step ρ H (bg ρ H G) w ρ (aP H id o') (bg ρ (aP H id o') G) w:=by
  refine⟨λ_ _ _=>rfl,λj x hx=> ?_,λc hc=>.inl (by rw[hh]at hc;exact hc),λc hc hO=>rfl,le_refl _⟩;by_cases hj:j=id;subst hj;rw[ho]at hx;cases hx;exact⟨o',by simp[aP],sn⟩;exact⟨x,by simp[aP,hj,hx],λc' e' hc=>⟨c',e',hc,rfl,rfl⟩⟩
 refine⟨ρ,⟨λj x hx=> ?_,λi j oi oj c h1 h2 h3 h4 h5 h6=> ?_,λc hc=> ?_,hs.low⟩,by rw[hh];exact hr,st,⟨rfl,rfl,rfl,λ_ _ _=>rfl⟩⟩;by_cases hj:j=id;subst hj;simp only[aP,if_true,Option.some.injEq]at hx;subst hx;rw[hh];exact ej;have hx':H j=some x:=by simpa[aP,hj]using hx
 exact(hs.obj j x hx').step st (λ_ _ _=>rfl)
 have f:∀i oi,aP H id o' i=some oi->oi.alive=true->∃x,H i=some x/\x.alive=true:=by
  intro i oi hi vG;by_cases fh:i=id;subst fh;simp only[aP,if_true,Option.some.injEq]at hi;subst hi;exact⟨o,ho,ha.trans vG⟩;exact⟨oi,by simpa[aP,fh]using hi,vG⟩
 have⟨x,hx,hxa⟩:=f i oi h1 h3;have⟨y,hy,hya⟩:=f j oj h2 h4;exact hs.inj i j x y c hx hy hxa hya h5 h6;exact hs.apart c ((zZ ho ha c).1 hc)
theorem qT(hs:Sat ρ H G w){id:Nat}{c d:ba}{e:TypeId}(ho:H id=some (.vec c e)){lo k:Nat}(hlo:lo+k<=c.n)(hk:k<=d.n)(h1:1<=c.size){bJ:List Value}
 (bx:bJ.length=k*c.size) (sw:∀u∈bJ,u.oneCell'=true) (kI:∀i j,i<k->j<c.size->∃u,bJ[i*c.size+j]? =some u/\bh (bg ρ H G) w (d.cell i j) u):
 ∃w',(∀a cap x,ρ id=.slice a c.n cap->(k=0\/a.map (·.add (lo*c.size))=some x)->(storeCells x bJ 0).run P w=.ok () w')/\(k=0->w'=w)/\
  ∀r v,(∀w2,ag ρ (aP H id (.vec (dv c lo k d) e)) (bg ρ H G) w2 r v)->Good ρ H G w (aP H id (.vec (dv c lo k d) e)) r v w':=by
 have⟨hn,bZ,qU⟩:=tB c d hlo hk;have⟨a,cap,dX,q1,q2,q3⟩:=hs.obj id _ ho;have sn:∀c' e',au.vec (dv c lo k d) e=.vec c' e'->∃c1 e1,au.vec c e=.vec c1 e1/\c'.n=c1.n/\c'.size=c1.size:=λc' e' hc=>by cases hc;exact⟨c,e,rfl,hn,bZ⟩
 have hh:=z6 (ρ:=ρ) (G:=G) ho (show(au.vec c e).alive=(au.vec (dv c lo k d) e).alive from rfl);rcases Nat.eq_zero_or_pos k with h0|h0;subst h0;have jB:bJ=[]:=List.eq_nil_of_length_eq_zero (by rw[bx];simp);subst jB;refine⟨w,λa cap x _ _=>rfl,λ_=>rfl,λr v hr=>Good.upd (o':=.vec (dv c lo 0 d) e) hs ho rfl sn ?_ (hr w)⟩;have hc:∀i j,i<c.n->(dv c lo 0 d).cell i j=c.cell i j:=λi j hi=>by rw[qU i j hi,if_neg (by omega)]
 refine⟨a,cap,by rw[hn];exact dX,by omega,q2, ?_⟩;rcases q3 with q3|⟨b,o,cells,fr,us,e1,e2,e3,e4,e5⟩;exact .inl q3;exact .inr ⟨b,o,cells,fr,us,e1,e2,e3,by rw[bZ];exact e4,λi j hi hj=>by rw[hn]at hi;rw[bZ]at hj ⊢;rw[hc i j hi];exact e5 i j hi hj⟩;rcases q3 with q3|⟨b,o,cells,fr,us,rfl,e2,e3,e4,e5⟩;omega;have mB:eQ (ρ id)=some b:=by rw[dX];simp only[eQ];rw[if_neg (by omega)]
 have hm1:(lo+k)*c.size<=cap*c.size:=Nat.mul_le_mul_right _ (by omega);rw[add_mul]at hm1;have hl:o+lo*c.size+bJ.length<=cells.length:=by omega
 have yE:(cells.take (o+lo*c.size)++bJ++cells.drop (o+lo*c.size+bJ.length)).length=cells.length:=by
  simp only[length_append,length_take,length_drop];omega
 let obj:Obj:=.cells (cells.take (o+lo*c.size)++bJ++cells.drop (o+lo*c.size+bJ.length)).toArray e fr;refine⟨World.cI w b obj,λa' ahG x hr hx=> ?_,λh=>by omega,λr v hr=> ?_⟩;rw[dX]at hr;cases hr;rcases hx with hx|hx;omega;simp only[map_some,bo,Option.some.injEq]at hx;subst hx;have:=bW (P:=P) (o+lo*c.size) bJ 0 e2 e3.unm (by omega) sw;rw[add_zero]at this;exact this;have st:=ke (G:=G) (w:=w) (o':=.vec (dv c lo k d) e) ho rfl mB sn obj;refine Good.write hs ho rfl rfl mB sn ?_ (hr _);refine⟨some ⟨b,o,none⟩,cap,by rw[hn];exact dX,by omega,q2,.inr ⟨b,o,_,fr,λi j=>if lo<=i/\i<lo+k then bJ.getD ((i - lo)*c.size+j) undef else us i j,rfl,fk e2,e3.over sw (by omega),by rw[yE,bZ];exact e4,λi j hi hj=> ?_⟩⟩;rw[hn]at hi;rw[bZ]at hj ⊢;rw[qU i j hi,aad _ _ _ hl];dsimp only;by_cases dH:lo<=i/\i<lo+k;have⟨u,g1,g2⟩:=kI (i - lo) j (by omega) hj;have hmul:i*c.size=lo*c.size+(i - lo)*c.size:=by rw[<-add_mul];congr 1;omega
 have br:=(List.getElem?_eq_some_iff.1 g1).1;simp only[if_pos dH];rw[if_pos (by omega),show o+i*c.size+j - (o+lo*c.size)=(i - lo)*c.size+j from by omega,g1];have:bJ.getD ((i - lo)*c.size+j) undef=u:=by simp[List.getD,g1]
 rw[this];exact⟨rfl,g2.step st.gf st.heap st.size⟩;simp only[if_neg dH]
 have nw:¬(o+lo*c.size<=o+i*c.size+j/\o+i*c.size+j<o+lo*c.size+bJ.length):=by
  intro hc;rcases lt_or_ge i lo with h2|h2;have:(i+1)*c.size<=lo*c.size:=Nat.mul_le_mul_right _ (by omega);rw[Nat.succ_mul]at this;omega;have:(lo+k)*c.size<=i*c.size:=Nat.mul_le_mul_right _ (by omega);rw[add_mul]at this;omega
 rw[if_neg nw];have⟨g1,g2⟩:=e5 i j hi hj;exact⟨g1,g2.step st.gf st.heap st.size⟩
end
section
variable{ρ aU:Nat->Value}{H H':a8}{G O O':Nat->Prop}{w w':World}{P:Program}
theorem mF{cs jz:List CK}(xs:List (CL cs))(ys:List (CL jz))(p:ba->Prop)(h1:∀e:jz=cs,p (.ah cs (xs++e▸ys)))
 (h2:p (.eM (CL.wide cs) (xs.length+ys.length) λi j=>bif i.blt xs.length then(ba.ah cs xs).cell i j else(ba.ah jz ys).cell (i - xs.length) j)):p (dk (.ah cs xs) (.ah jz ys)):=by
 simp only[dk];split;rename_i h _;exact h1 h.down;exact h2
theorem vO(c d:ba):(dk c d).n=c.n+d.n:=by
 by_cases ht:∃cs xs jz ys,c=.ah cs xs/\d=.ah jz ys;obtain⟨cs,xs,jz,ys,rfl,rfl⟩:=ht;refine mF xs ys (λr=>r.n=_) (λe=> ?_) rfl;subst e;simp[ba.n];cases c<;>cases d<;>first|(exact absurd ⟨_,_,_,_,rfl,rfl⟩ ht)|skip
 all_goals simp only[dk,ba.n,length_append]
 rename_i k xs k' ys;cases bU k k'<;>simp
theorem nV(c d:ba)(h:d.size=c.size):(dk c d).size=c.size:=by
 by_cases ht:∃cs xs jz ys,c=.ah cs xs/\d=.ah jz ys;obtain⟨cs,xs,jz,ys,rfl,rfl⟩:=ht;exact mF xs ys (λr=>r.size=_) (λe=>by subst e;rfl) rfl;cases c<;>cases d<;>first|(exact absurd ⟨_,_,_,_,rfl,rfl⟩ ht)|skip
 all_goals simp only[dk,ba.size]at h ⊢
 rename_i k xs k' ys;cases bU k k'<;>rfl
theorem sB{α:Type}(xs ys:List α)(d:α){i:Nat}(h:i<xs.length):(xs++ys).getD i d=xs.getD i d:=by
 simp[List.getD,getElem?_append_left h]
theorem sC{α:Type}(xs ys:List α)(d:α){i:Nat}(h:¬i<xs.length):(xs++ys).getD i d=ys.getD (i - xs.length) d:=by
 simp[List.getD,getElem?_append_right (Nat.le_of_not_lt h)]
theorem vP{i n:Nat}(h:i<n):i.blt n=true:=by simpa[Nat.blt,Nat.lt_iff_add_one_le]using h
theorem sD{i n:Nat}(h:¬i<n):i.blt n=false:=by
 cases hb:i.blt n with
 |false=>rfl|true=>exact absurd (by simpa[Nat.blt,Nat.lt_iff_add_one_le]using hb) h
theorem aah(c d:ba){i:Nat}(j:Nat)(h:i<c.n):(dk c d).cell i j=c.cell i j:=by
 by_cases ht:∃cs xs jz ys,c=.ah cs xs/\d=.ah jz ys;obtain⟨cs,xs,jz,ys,rfl,rfl⟩:=ht;simp only[ba.n]at h;refine mF xs ys (λr=>r.cell i j=_) (λe=> ?_) ?_;subst e;simp only[ba.cell,sB _ _ _ h];simp only[ba.cell,vP h,cond_true];cases c<;>cases d<;>first|(exact absurd ⟨_,_,_,_,rfl,rfl⟩ ht)|skip
 all_goals simp only[dk,ba.cell,ba.n]at h ⊢
 all_goals first
  |(rw[sB _ _ _ h];done)
  |(simp only[vP h,cond_true];done)
  |(rename_i k xs k' ys
    cases hk:bU k k';simp only[cond_false,vP h,cond_true];simp only[cond_true,sB _ _ _ h])
theorem aai(c d:ba){i:Nat}(j:Nat)(h:¬i<c.n):(dk c d).cell i j=d.cell (i - c.n) j:=by
 by_cases ht:∃cs xs jz ys,c=.ah cs xs/\d=.ah jz ys;obtain⟨cs,xs,jz,ys,rfl,rfl⟩:=ht;simp only[ba.n]at h;refine mF xs ys (λr=>r.cell i j=_) (λe=> ?_) ?_;subst e;simp only[ba.cell,ba.n,sC _ _ _ h];simp only[ba.cell,ba.n,sD h,cond_false];cases c<;>cases d<;>first|(exact absurd ⟨_,_,_,_,rfl,rfl⟩ ht)|skip
 all_goals simp only[dk,ba.cell,ba.n]at h ⊢
 all_goals first
  |(rw[sC _ _ _ h];done)
  |(simp only[sD h,cond_false];done)
  |(rename_i k xs k' ys
    cases hk:bU k k';simp only[cond_false,sD h];obtain rfl:=bu hk;simp only[cond_true,sC _ _ _ h])
theorem fw{id:Nat}{o:au}(ho:H id=some o):Step ρ H (bg ρ H G) w ρ (aP H id .aH) (bg ρ (aP H id .aH) G) w:=by
 refine⟨λ_ _ _=>rfl,λj x hx=> ?_,λb hb=> ?_,λ_ _ _=>rfl,le_refl _⟩;by_cases hj:j=id;subst hj;exact⟨.aH,by simp[aP],by simp⟩;exact⟨x,by simp[aP,hj,hx],λc' e' hc=>⟨c',e',hc,rfl,rfl⟩⟩;rcases hb with⟨j,x,hx,h1,h2⟩|hb;by_cases hj:j=id;subst hj;simp only[aP,if_true,Option.some.injEq]at hx;subst hx;simp[au.alive]at h1;exact .inl (.inl ⟨j,x,by simpa[aP,hj]using hx,h1,h2⟩);exact .inl (.inr hb)
theorem eY{id:Nat}{b:Nat}(h:Own ρ (aP H id .aH) b):Own ρ H b:=by
 have⟨j,x,hx,h1,h2⟩:=h;by_cases hj:j=id;subst hj;simp only[aP,if_true,Option.some.injEq]at hx;subst hx;simp[au.alive]at h1;exact⟨j,x,by simpa[aP,hj]using hx,h1,h2⟩
theorem Sat.kill(hs:Sat ρ H G w){id:Nat}{o:au}(ho:H id=some o):Sat ρ (aP H id .aH) G w:=by
 have st:=fw (ρ:=ρ) (G:=G) (w:=w) ho;refine⟨λj x hx=> ?_,λi j oi oj b h1 h2 h3 h4 h5 h6=> ?_,λb hb=>hs.apart b (eY hb),hs.low⟩;by_cases hj:j=id;subst hj;simp only[aP,if_true,Option.some.injEq]at hx;subst hx;trivial;exact(hs.obj j x (by simpa[aP,hj]using hx)).step st (λ_ _ _=>rfl)
 have f:∀i oi,aP H id .aH i=some oi->oi.alive=true->H i=some oi:=by
  intro i oi hi vG;by_cases fh:i=id;subst fh;simp only[aP,if_true,Option.some.injEq]at hi;subst hi;simp[au.alive]at vG;simpa[aP,fh]using hi
 exact hs.inj i j oi oj b (f i oi h1 h3) (f j oj h2 h4) h3 h4 h5 h6
theorem Good.after{H1 H2:a8}(ny:Step ρ H (bg ρ H G) w ρ H1 (bg ρ H1 G) w)(dR:∀b,Own ρ H1 b->Own ρ H b){r:AV}{v:Value}(h:Good ρ H1 G w H2 r v w'):Good ρ H G w H2 r v w':=by
 have⟨aU,h1,h2,h3,h4⟩:=h;exact⟨aU,h1,h2,ny.trans h3,h4.os,h4.tape,h4.output,λb hb hO=>h4.heap b hb (λhx=>hO (dR b hx))⟩
theorem sE(hs:Sat ρ H G w){n:Nat}(hn:H n=none){c:ba}{e:TypeId}(h0:c.n=0)(a:Option Addr):
 Good ρ H G w (aP H n (.vec c e)) (.vec n) (.slice a c.n 0) w:=by
 have ne:∀j x,H j=some x->j≠n:=λj x hx e=>by subst e;rw[hn]at hx;cases hx
 have hb:eQ (.slice a c.n 0)=none:=by cases a<;>simp[eQ]
 have qN:∀b,Own (λj=>if j=n then .slice a c.n 0 else ρ j) (aP H n (.vec c e)) b->Own ρ H b:=by
  rintro b ⟨j,x,hx,h1,h2⟩;by_cases hj:j=n;subst hj;simp only[if_true]at h2;rw[hb]at h2;cases h2;simp only[aP,hj,if_false]at hx h2;exact⟨j,x,hx,h1,h2⟩
 have st:Step ρ H (bg ρ H G) w (λj=>if j=n then .slice a c.n 0 else ρ j) (aP H n (.vec c e)) (bg (λj=>if j=n then .slice a c.n 0 else ρ j) (aP H n (.vec c e)) G) w:=
  ⟨λj x hx=>by simp[ne j x hx],λj x hx=>⟨x,by simp[aP,ne j x hx,hx],λc' e' hc=>⟨c',e',hc,rfl,rfl⟩⟩,λb hb=>.inl (hb.imp (qN b) id),λb hb _=>rfl,le_refl _⟩
 refine⟨_,⟨λj x hx=> ?_,λi j oi oj b h1 h2 h3 h4 h5 h6=> ?_,λb hb=>hs.apart b (qN b hb),hs.low⟩, ?_,st,rfl,rfl,rfl,λ_ _ _=>rfl⟩;by_cases hj:j=n;subst hj;simp only[aP,if_true,Option.some.injEq]at hx;subst hx;simp only[if_true];exact⟨a,0,rfl,by omega,by simp[maxLen],.inl rfl⟩;have hx':H j=some x:=by simpa[aP,hj]using hx
 simp only[hj,if_false];exact(hs.obj j x hx').step st (λ_ _ _=>rfl);by_cases hi:i=n;subst hi;simp only[if_true]at h5;rw[hb]at h5;cases h5;by_cases hj:j=n;subst hj;simp only[if_true]at h6;rw[hb]at h6;cases h6;simp only[aP,hi,hj,if_false]at h1 h2 h5 h6;exact hs.inj i j oi oj b h1 h2 h3 h4 h5 h6;unfold ag aS;exact⟨rfl,.vec c e,by simp[aP],λc' e' hc=>by simp⟩
theorem yF{z:Array Value}(h:∀u∈z.toList,u.oneCell'=true)(n:Nat):∀u∈(Builtin.zeroCells z n).toList,u.oneCell'=true:=by
 intro u hu;simp only[Builtin.zeroCells,Array.toList_map,Array.toList_range,mem_map,mem_range]at hu;obtain⟨m,hm,rfl⟩:=hu
 have hp:0<z.size:=by
  rcases Nat.eq_zero_or_pos z.size with h0|h0;rw[h0]at hm;omega;exact h0
 have br:m%z.size<z.size:=Nat.mod_lt _ hp;rw[getElem!_pos z (m%z.size) br];exact h _ (Array.mem_toList_iff.2 (Array.getElem_mem br))
theorem avm(hs:Sat ρ H G w){id n:Nat}{o:au}(ho:H id=some o)(ha:o.alive=true)(hn:H n=none){b f:Nat}(hb:eQ (ρ id)=some b){c:ba}{e:TypeId}{cap:Nat}{cells:List Value}{fr:Nat×Nat}{old:Obj}
 (hold:w.heap[b]? =some old) (hu:zV fr cells) (h1:c.n<=cap) (h2:cap<=maxLen) (h3:f+cap*c.size<=cells.length) (us:Nat->Nat->Value)
 (hd:∀i j,i<c.n->j<c.size->cells[f+i*c.size+j]? =some (us i j)/\bh (bg ρ H G) w (c.cell i j) (us i j)):
 Good ρ H G w (aP (aP H id .aH) n (.vec c e)) (.vec n) (.slice (some ⟨b,f,none⟩) c.n cap) (World.cI w b (.cells cells.toArray e fr)):=by
 have ne:∀j x,H j=some x->j≠n:=λj x hx e=>by subst e;rw[hn]at hx;cases hx
 have asp:id≠n:=ne id o ho;have dR:Own ρ H b:=⟨id,o,ho,ha,hb⟩
 have qS:∀b',eQ (.slice (some ⟨b,f,none⟩) c.n cap)=some b'->b'=b:=by
  intro b' vF;simp only[eQ]at vF;split at vF;cases vF;simpa using vF.symm
 have qN:∀b',Own (λj=>if j=n then .slice (some ⟨b,f,none⟩) c.n cap else ρ j) (aP (aP H id .aH) n (.vec c e)) b'->Own ρ H b':=by
  rintro b' ⟨j,x,hx,g1,g2⟩;by_cases hj:j=n;subst hj;simp only[if_true]at g2;rw[qS b' g2];exact dR;by_cases hi:j=id;subst hi;simp only[aP,hj,if_false,if_true,Option.some.injEq]at hx;subst hx;simp[au.alive]at g1;simp only[aP,hj,hi,if_false]at hx g2;exact⟨j,x,hx,g1,g2⟩
 have st:Step ρ H (bg ρ H G) w (λj=>if j=n then .slice (some ⟨b,f,none⟩) c.n cap else ρ j) (aP (aP H id .aH) n (.vec c e)) (bg (λj=>if j=n then .slice (some ⟨b,f,none⟩) c.n cap else ρ j) (aP (aP H id .aH) n (.vec c e)) G) (World.cI w b (.cells cells.toArray e fr)):=by
  refine⟨λj x hx=>by simp[ne j x hx],λj x hx=> ?_,λb' vF=>.inl (vF.imp (qN b') _root_.id),λb' vF hO=>iC (λe=>hO (.inl (by subst e;exact dR))),by rw[jb];exact le_refl _⟩;by_cases hi:j=id;subst hi;exact⟨.aH,by simp[aP,asp],by simp⟩;exact⟨x,by simp[aP,ne j x hx,hi,hx],λc' e' hc=>⟨c',e',hc,rfl,rfl⟩⟩
 refine⟨_,⟨λj x hx=> ?_,λi j oi oj b' g1 g2 g3 g4 g5 g6=> ?_,λb' vF=>hs.apart b' (qN b' vF),λb' vF=>by rw[jb];exact hs.low b' vF⟩, ?_,st,rfl,rfl,rfl,λb' vF hO=>iC (λe=>hO (by subst e;exact dR))⟩;by_cases hj:j=n;subst hj;simp only[aP,if_true,Option.some.injEq]at hx;subst hx;simp only[if_true];refine⟨_,cap,rfl,h1,h2,.inr ⟨b,f,cells,fr,us,rfl,fk hold,hu,h3,λi j hi hj=> ?_⟩⟩;have⟨k1,k2⟩:=hd i j hi hj;exact⟨k1,k2.step st.gf st.heap st.size⟩;by_cases hi:j=id;subst hi;simp only[aP,hj,if_false,if_true,Option.some.injEq]at hx;subst hx;trivial;have hx':H j=some x:=by simpa[aP,hj,hi]using hx
 simp only[hj,if_false];refine(hs.obj j x hx').step st (λb' vG vF=>iC (λe=>hi ?_));subst e;exact hs.inj j id x o b' hx' ho vG ha vF hb
 have f':∀i oi,aP (aP H id .aH) n (.vec c e) i=some oi->oi.alive=true->i≠n->i≠id/\H i=some oi:=by
  intro i oi hi vG cG;by_cases fh:i=id;subst fh;simp only[aP,cG,if_false,if_true,Option.some.injEq]at hi;subst hi;simp[au.alive]at vG;exact⟨fh,by simpa[aP,cG,fh]using hi⟩
 by_cases hi:i=n<;>by_cases hj:j=n;rw[hi,hj];have⟨k1,k2⟩:=f' j oj g2 g4 hj;simp only[hi,hj,if_true,if_false]at g5 g6;have:=qS b' g5;subst this;exact absurd (hs.inj j id oj o b' k2 ho g4 ha g6 hb) k1;have⟨k1,k2⟩:=f' i oi g1 g3 hi;simp only[hi,hj,if_true,if_false]at g5 g6;have:=qS b' g6;subst this;exact absurd (hs.inj i id oi o b' k2 ho g3 ha g5 hb) k1;simp only[hi,hj,if_false]at g5 g6;exact hs.inj i j oi oj b' (f' i oi g1 g3 hi).2 (f' j oj g2 g4 hj).2 g3 g4 g5 g6;unfold ag aS;exact⟨rfl,.vec c e,by simp[aP],λc' e' hc=>by simp⟩
theorem gl{t t' ty e:TypeId}{i:TypeInfo}{a:Option Addr}{n cap m:Nat}{vy:Value}{bJ:List Value}
 (ht:P.underlying t=some (.slice e)) (hi:P.info? e=some i) (hzero:(∃e',P.underlying t'=some (.slice e'))\/P.underlying t'=some .string)
 (bx:(Builtin.lenOf vy).run P w=.ok m w) (kf:(Builtin.firstCells i.size m vy).run P w=.ok bJ.toArray w) (nW:n+m<=cap)
 (ny:∀x,a=some x->(storeCells (x.add (n*i.size)) bJ 0).run P w=.ok () w') (qc:a=none->w'=w):
 (Builtin.append_ #[t,t'] ty #[.slice a n cap,vy]).run P w=.ok (.slice a (n+m) cap) w':=by
 rcases hzero with⟨e',hd⟩|hd<;>cases a with
 |none=>
  rw[qc rfl];simp[Builtin.append_,run_underlying ht,run_underlying hd,sizeOf,typeInfo,hi,bx,nW,kf]
 |some x=>
  have:=ny x rfl;simp[Builtin.append_,run_underlying ht,run_underlying hd,sizeOf,typeInfo,hi,bx,nW,kf,this]
theorem nX{t t' ty e:TypeId}{i:TypeInfo}{z:Value}{a:Option Addr}{n cap m:Nat}{vy:Value}{olds bJ:List Value}
 (ht:P.underlying t=some (.slice e)) (hi:P.info? e=some i) (hz:i.zero=some z) (hzero:(∃e',P.underlying t'=some (.slice e'))\/P.underlying t'=some .string)
 (bx:(Builtin.lenOf vy).run P w=.ok m w) (hold:(Builtin.firstCells i.size n (.slice a n cap)).run P w.drew=.ok olds.toArray w.drew) (kf:(Builtin.firstCells i.size m vy).run P w.drew=.ok bJ.toArray w.drew) (nW:¬n+m<=cap)
 (hsm:(n+m)*i.bytes<=140737488355328) (hb1:1<=i.bytes):
 ∃nY,n+m<=nY/\nY<=maxLen/\(Builtin.append_ #[t,t'] ty #[.slice a n cap,vy]).run P w=
  .ok (.slice (some ⟨w.heap.size,0,none⟩) (n+m) nY) (w.drew.alloc (.cells (olds++bJ++(Builtin.zeroCells z.cells (nY - (n+m))).toList).toArray e)):=by
 have hnm:n+m<=140737488355328:=Nat.le_trans (by have:=Nat.mul_le_mul_left (n+m) hb1;omega) hsm;refine⟨grownCap w (n+m) cap e,grownCap_ge w _ _ _,grownCap_le_maxLen w _ _ _ (by simp only[maxLen];omega), ?_⟩
 have abR:¬(281474976710656<Builtin.nextslicecap (n+m) cap*i.bytes):=by
  have h1:=sA (ab:=n+m) (old:=cap) (by omega);have h2:Builtin.nextslicecap (n+m) cap*i.bytes<=(2*(n+m))*i.bytes:=Nat.mul_le_mul_right _ h1;rw[Nat.mul_assoc]at h2;omega
 have aeK:¬(9223372036854775807<(n:Int)+(m:Int)):=by omega
 have an8:∀X:Array Value,olds.toArray++(bJ.toArray++X)=(olds++(bJ++X.toList)).toArray:=λX=>by
  apply toList_inj.1;simp
 have hq:¬((Question.appendCap (n+m) cap e).forced=true):=by simp[Question.forced]
 rcases hzero with⟨e',hd⟩|hd;simp[Builtin.append_,run_underlying ht,run_underlying hd,sizeOf,typeInfo,hi,bx,nW,aeK,abR,hold,kf,zeroValue,hz,newRow];rw[if_neg hq,an8];rfl;simp[Builtin.append_,run_underlying ht,run_underlying hd,sizeOf,typeInfo,hi,bx,nW,aeK,abR,hold,kf,zeroValue,hz,newRow];rw[if_neg hq,an8];rfl
theorem an9(hs:Sat ρ H G w){id:Nat}{c:ba}{e:TypeId}(ho:H id=some (.vec c e)):qa (bg ρ H G) w c (ρ id):=by
 have⟨a,cap,h1,h2,h3,h4⟩:=hs.obj id _ ho;rcases h4 with rfl|⟨b,o,cells,fr,us,rfl,h5,h6,h7,h8⟩;exact⟨a,0,λ_ _=>undef,h1,h2,h3,λh0=>by omega⟩;refine⟨_,cap,us,h1,h2,h3,λ_=>⟨b,o,rfl,(Array.getElem?_eq_some_iff.1 h5).1,λi j hi hj=> ?_⟩⟩;have⟨h9,uv⟩:=h8 i j hi hj;exact⟨by rw[dm h5];exact h9,uv⟩
theorem ajP{sh:Shape}{size:Nat}{x:AV}{k:ba->Option Nat->RM bP}{v:Value}{q:bP}(h:(yt sh size x k).eval H=some q)(hs:Sat ρ H G w)(hd:ag ρ H (bg ρ H G) w x v)(h1:1<=size):
 ∃c idy,(k c idy).eval H=some q/\(c.size=size->∃bJ,Src P (bg ρ H G) w size c v bJ):=by
 unfold yt at h;split at h;rename_i s;obtain rfl:=fB hd;refine⟨_,_,h,λbZ=> ?_⟩;simp only[ba.size]at bZ;subst bZ;exact an7;have⟨c,idy,h2,h3⟩:=vI h hs hd;exact⟨c,idy,h2,λbZ=>uI h3 bZ h1⟩
theorem sF{c d:ba}{size:Nat}{olds bJ rest:List Value}(hc:c.size=size)(hdz:d.size=size)(_h1:1<=size)(ho:olds.length=c.n*size)(_hn:bJ.length=d.n*size)
 (h2:∀i j,i<c.n->j<size->∃u,olds[i*size+j]? =some u/\bh O w (c.cell i j) u) (h3:∀i j,i<d.n->j<size->∃u,bJ[i*size+j]? =some u/\bh O w (d.cell i j) u) (pre:List Value):
 ∀i j,i<(dk c d).n->j<(dk c d).size->(pre++(olds++bJ++rest))[pre.length+i*(dk c d).size+j]? =some ((pre++(olds++bJ++rest)).getD (pre.length+i*(dk c d).size+j) undef)/\
  bh O w ((dk c d).cell i j) ((pre++(olds++bJ++rest)).getD (pre.length+i*(dk c d).size+j) undef):=by
 intro i j hi hj;have bZ:(dk c d).size=size:=by rw[nV c d (by omega),hc]
 rw[vO]at hi;rw[bZ]at hj ⊢
 have key:∃u,(pre++(olds++bJ++rest))[pre.length+i*size+j]? =some u/\bh O w ((dk c d).cell i j) u:=by
  rw[add_assoc,getElem?_append_right (by omega),Nat.add_sub_cancel_left,append_assoc];by_cases br:i<c.n;have⟨u,g1,g2⟩:=h2 i j br hj;refine⟨u, ?_,by rw[aah c d j br];exact g2⟩;rw[getElem?_append_left (List.getElem?_eq_some_iff.1 g1).1];exact g1;have⟨u,g1,g2⟩:=h3 (i - c.n) j (by omega) hj;refine⟨u, ?_,by rw[aai c d j br];exact g2⟩;have hm:c.n*size+(i - c.n)*size=i*size:=by rw[<-add_mul];congr 1;omega
  rw[getElem?_append_right (by omega)];rw[show i*size+j - olds.length=(i - c.n)*size+j from by omega];rw[getElem?_append_left (List.getElem?_eq_some_iff.1 g1).1];exact g1
 have⟨u,g1,g2⟩:=key;have br:=(List.getElem?_eq_some_iff.1 g1).1;have g1':=g1;rw[hH _ _ undef br]at g1';simp only[Option.some.injEq]at g1';exact⟨hH _ _ _ br,by rw[g1'];exact g2⟩
theorem aeL{t t' ty:TypeId}{x y:AV}{vx vy:Value}{q:bP}(h:(zQ P t x y).eval H=some q)(hn:bE q.ab)(hs:Sat ρ H G w)
 (hx:ag ρ H (bg ρ H G) w x vx) (hy:ag ρ H (bg ρ H G) w y vy) (hzero:(∃e',P.underlying t'=some (.slice e'))\/P.underlying t'=some .string) {base:Nat} (hb:∀i,i<q.new.length->H (base+i)=none):
 ∃v w',(Builtin.append_ #[t,t'] ty #[vx,vy]).run P w=.ok v w'/\Good ρ H G w (dc H q.up base q.new) (q.r base) v w':=by
 unfold zQ at h;split at h;rename_i e ht;split at h;rename_i i hi;simp only[]at h;rw[cond_eq_ite]at h;split at h;rename_i hc;simp only[and_eq_true]at hc;have⟨⟨⟨c1,cb⟩,c2⟩,c3⟩:=hc;have c1:=le_of_ble_eq_true c1;have cb:=le_of_ble_eq_true cb
 obtain⟨z,hz,hzs,hz1⟩:∃z,i.zero=some z/\z.cells.size=i.size/\∀u∈z.cells.toList,u.oneCell'=true:=by
  cases hz:i.zero with
  |none=>simp[hz]at c3|some z=>
   simp only[hz,Option.any_some,and_eq_true,beq_iff_eq,all_eq_true]at c3;exact⟨z,rfl,c3.1,c3.2⟩
 have⟨d,idy,h1,pn⟩:=ajP (P:=P) h hs hy c1;rw[cond_eq_ite]at h1;split at h1;rename_i hds;have hds:d.size=i.size:=by simpa using hds
 have⟨bJ,src⟩:=pn hds;split at h1;simp only[RM.eval,Option.some.injEq]at h1;subst h1;have jA:H base=none:=by simpa using hb 0 (by simp)
 have hsm:d.n*i.bytes<=140737488355328:=hn.1;unfold ag at hx;obtain⟨a,rfl⟩:=hx;simp only[jd];by_cases hm:d.n=0;have jB:bJ=[]:=List.eq_nil_of_length_eq_zero (by rw[src.length,hm];simp);refine⟨.slice a (0+d.n) 0,w,gl ht hi hzero src.len (src.first w rfl) (by omega) (λx _=>by rw[jB];rfl) (λ_=>rfl), ?_⟩;rw[zero_add];exact sE hs jA hm a;have⟨nY,g1,g2,g3⟩:=nX (ty:=ty) (olds:=[]) (a:=a) (n:=0) (cap:=0) ht hi hz hzero src.len (by cases a<;>simp[Builtin.firstCells,loadCells,loadCellsFrom]) (src.first w.drew rfl) (by omega) (by rw[zero_add];exact hsm) cb;refine⟨_,_,g3, ?_⟩;rw[zero_add]at *;simp only[nil_append];refine lZ (w1:=w.drew) hs rfl rfl rfl rfl jA g1 g2 ?_ (λi' j'=>(bJ++(Builtin.zeroCells z.cells (nY - d.n)).toList).getD (i'*d.size+j') undef) (λi' j' fh jJ=> ?_) (λu hu=>(mem_append.1 hu).elim (src.one u) (yF hz1 _ u));simp only[length_append,src.length,length_toList,size_zeroCells,hzs,hds];rw[<-add_mul];exact Nat.mul_le_mul_right _ (by omega);have⟨u,k1,k2⟩:=src.den i' j' fh (by omega);rw[<-hds]at k1;have br:=(List.getElem?_eq_some_iff.1 k1).1;have k3:(bJ++(Builtin.zeroCells z.cells (nY - d.n)).toList)[i'*d.size+j']? =some u:=by rw[getElem?_append_left br];exact k1
 have k4:=k3;rw[hH _ _ undef (List.getElem?_eq_some_iff.1 k3).1]at k4;simp only[Option.some.injEq]at k4;rw[k4];exact⟨k3,k2⟩;rename_i idx;simp only[RM.eval]at h1;split at h1;rename_i c e' ho;rw[cond_eq_ite]at h1;split at h1;rename_i hc;simp only[and_eq_true,beq_eq]at hc;obtain⟨⟨qd,rfl⟩,_⟩:=hc;simp only[RM.eval,Option.some.injEq]at h1;subst h1;have jA:H base=none:=by simpa using hb 0 (by simp)
 have hsm:(c.n+d.n)*i.bytes<=140737488355328:=hn.1;have abT:idx≠base:=λe=>by rw[<-e,ho]at jA;cases jA
 unfold ag aS at hx;have⟨_,o,du,hv⟩:=hx;rw[ho]at du;cases du;obtain rfl:=hv c e' rfl;have⟨olds,vQ⟩:=uI (P:=P) (an9 hs ho) qd c1;have⟨a,cap,r1,r2,r3,r4⟩:=hs.obj idx _ ho;have hcd:d.size=c.size:=by omega
 have aoa:=nV c d hcd;have han:=vO c d;have hmul:(c.n+d.n)*i.size=c.n*i.size+d.n*i.size:=add_mul _ _ _;simp only[ahQ _ _ _ _ abT];by_cases nW:c.n+d.n<=cap;rcases r4 with rfl|⟨b,o,cells,fr,us,rfl,q1,q2,q3,q4⟩
 have hd0:d.n=0:=by omega
 have jB:bJ=[]:=List.eq_nil_of_length_eq_zero (by rw[src.length,hd0];simp);refine⟨.slice a (c.n+d.n) 0,w,by rw[r1];exact gl ht hi hzero src.len (src.first w rfl) nW (λx _=>by rw[jB];rfl) (λ_=>rfl), ?_⟩;have st:=fw (ρ:=ρ) (G:=G) (w:=w) ho;refine Good.after st (λb hb=>eY hb) ?_;rw[<-han];exact sE (hs.kill ho) (by simp[aP,Ne.symm abT,jA]) (by omega) a;by_cases xW:cap=0;subst xW;have hd0:d.n=0:=by omega
 have jB:bJ=[]:=List.eq_nil_of_length_eq_zero (by rw[src.length,hd0];simp);refine⟨.slice (some ⟨b,o,none⟩) (c.n+d.n) 0,w,by rw[r1];exact gl ht hi hzero src.len (src.first w rfl) nW (λx _=>by rw[jB];rfl) (λ_=>rfl), ?_⟩;have st:=fw (ρ:=ρ) (G:=G) (w:=w) ho;refine Good.after st (λb hb=>eY hb) ?_;rw[<-han];exact sE (hs.kill ho) (by simp[aP,Ne.symm abT,jA]) (by omega) _;have mB:eQ (ρ idx)=some b:=by rw[r1];simp[eQ,xW]
 have azJ:(c.n+d.n)*i.size<=cap*i.size:=Nat.mul_le_mul_right _ nW;have bx:o+c.n*i.size+bJ.length<=cells.length:=by rw[src.length];rw[qd]at q3;omega
 refine⟨.slice (some ⟨b,o,none⟩) (c.n+d.n) cap,World.cI w b (.cells (cells.take (o+c.n*i.size)++bJ++cells.drop (o+c.n*i.size+bJ.length)).toArray e' fr), ?_, ?_⟩;rw[r1];refine gl ht hi hzero src.len (src.first w rfl) nW (λx hx=> ?_) (λhx=>by cases hx);cases hx;rw[bo];have:=bW (P:=P) (o+c.n*i.size) bJ 0 q1 q2.unm (by omega) src.one;simpa using this;rw[<-han]
 have yE:(cells.take (o+c.n*i.size)++bJ++cells.drop (o+c.n*i.size+bJ.length)).length=cells.length:=by
  simp only[length_append,length_take,length_drop];omega
 have asq:cells.take (o+c.n*i.size)++bJ++cells.drop (o+c.n*i.size+bJ.length)=cells.take o++((cells.drop o).take (c.n*i.size)++bJ++cells.drop (o+c.n*i.size+bJ.length)):=by
  rw[List.take_add];simp only[append_assoc]
 have hto:(cells.take o).length=o:=by simp;omega
 refine avm hs ho rfl jA mB q1 (q2.over src.one bx) (by omega) r3 (by rw[yE,aoa];exact q3) (λi' j'=>(cells.take o++((cells.drop o).take (c.n*i.size)++bJ++cells.drop (o+c.n*i.size+bJ.length))).getD ((cells.take o).length+i'*(dk c d).size+j') undef) (λi' j' fh jJ=> ?_)
 have:=sF (O:=bg ρ H G) (w:=w) (c:=c) (d:=d) (size:=i.size) (olds:=(cells.drop o).take (c.n*i.size)) (bJ:=bJ) (rest:=cells.drop (o+c.n*i.size+bJ.length)) qd hds c1 (by simp;omega) src.length (λi2 j2 hi2 yG=>by
  have⟨k1,k2⟩:=q4 i2 j2 hi2 (by omega);refine⟨_, ?_,k2⟩
  have hb2:i2*i.size+j2<c.n*i.size:=by
   have:(i2+1)*i.size<=c.n*i.size:=Nat.mul_le_mul_right _ (by omega);rw[Nat.succ_mul]at this;omega
  rw[getElem?_take,if_pos hb2,List.getElem?_drop,<-add_assoc];rw[qd]at k1;exact k1) src.den (cells.take o) i' j' fh jJ
 rw[asq];rw[hto]at this ⊢;exact this;have⟨nY,g1,g2,g3⟩:=nX (ty:=ty) (olds:=olds) (a:=a) (n:=c.n) (cap:=cap) ht hi hz hzero src.len (by rw[<-r1];exact vQ.first w.drew rfl) (src.first w.drew rfl) nW hsm cb;refine⟨_,_,by rw[r1];exact g3, ?_⟩;have st:=fw (ρ:=ρ) (G:=G) (w:=w) ho;refine Good.after st (λb hb=>eY hb) ?_;rw[<-han];refine lZ (w1:=w.drew) (hs.kill ho) rfl rfl rfl rfl (by simp[aP,Ne.symm abT,jA]) (by omega) g2 ?_ (λi' j'=>(olds++bJ++(Builtin.zeroCells z.cells (nY - (dk c d).n)).toList).getD (i'*(dk c d).size+j') undef) (λi' j' fh jJ=> ?_) (λu hu=>(mem_append.1 hu).elim (λhu=>(mem_append.1 hu).elim (vQ.one u) (src.one u)) (yF hz1 _ u));simp only[length_append,src.length,vQ.length,length_toList,size_zeroCells,hzs,aoa,qd,han];rw[<-add_mul,<-add_mul];exact Nat.mul_le_mul_right _ (by omega);have:=sF (O:=bg ρ H G) (w:=w) (c:=c) (d:=d) (size:=i.size) (olds:=olds) (bJ:=bJ) (rest:=(Builtin.zeroCells z.cells (nY - (dk c d).n)).toList) qd hds c1 vQ.length src.length vQ.den src.den [] i' j' fh jJ;simp only[nil_append,length_nil,zero_add]at this;exact⟨this.1,this.2.step st.gf st.heap st.size⟩;cases h1;cases h1;rename_i idx lo n;simp only[RM.eval]at h1;split at h1;rename_i c e' ho;rw[cond_eq_ite]at h1;split at h1;rename_i qd;have qd:c.size=i.size:=by simpa using qd
 simp only[RM.eval,Option.some.injEq]at h1;subst h1;have nW:lo+n+d.n<=c.n:=hn.1;obtain⟨g0,a,cap,a',g1,g2,g3,rfl,g4,g5⟩:=jc hs ho hx;have⟨w',k1,k2,k3⟩:=qT (P:=P) hs ho (lo:=lo+n) (k:=d.n) (d:=d) nW (le_refl _) (by omega) (bJ:=bJ) (by rw[src.length,qd]) src.one (λi' j' fh jJ=>by rw[qd]at *;exact src.den i' j' fh jJ);have⟨z1,z2,_⟩:=tB c d nW (le_refl _);refine⟨.slice a' (n+d.n) (cap - lo),w',gl ht hi hzero src.len (src.first w rfl) (by omega) (λx hx=> ?_) (λhx=> ?_), ?_⟩;refine k1 a cap _ g1 ?_;by_cases h0:d.n=0;exact .inl h0;refine .inr ?_;have cG:cap≠lo:=by omega
 rw[g4 cG]at hx;obtain⟨b,o,rfl⟩:=g5 (by omega);simp only[map_some,bo,Option.some.injEq]at hx ⊢;subst hx;rw[bo,qd,add_mul,add_assoc];refine k2 ?_;by_cases cG:cap=lo;omega;rw[g4 cG]at hx;obtain⟨b,o,rfl⟩:=g5 (by omega);cases hx;simp only[fV];refine k3 _ _ (λw2=> ?_);unfold ag aS;refine⟨rfl,.vec (dv c (lo+n) d.n d) e',by simp[aP],λc1 e1 hc=> ?_⟩;cases hc;exact⟨by rw[z1];omega,a,cap,a',by rw[z1];exact g1,by omega,rfl,by rw[z2];exact g4⟩;cases h1;cases h1;cases h1;cases h1;cases h;cases h;cases h
end
section
variable{P:Program}{w:World}{b:Nat}{es:Array MapEntry}{clock:Nat}{ck:CK}{m:List (Int×ck.V)}
theorem iZ.get(h:iZ ck m es.toList clock){j:Nat}{e:MapEntry}(hj:es.toList[j]? =some e):∃k v,m[j]? =some (k,v)/\e.key=.int .i64 k/\e.val=ck.val v:=by
 have h1:=congrArg (λl=>l[j]?) h.eq;simp only[getElem?_map,hj,map_some]at h1;cases hm:m[j]? with
 |none=>rw[hm]at h1;cases h1
 |some p=>
  rw[hm]at h1;simp only[map_some,Option.some.injEq,Prod.mk.injEq]at h1;exact⟨p.1,p.2,rfl,h1.1,h1.2⟩
theorem iZ.key(h:iZ ck m es.toList clock):∀e∈es.toList,MapKept.IsKey (.int .i64) e.key:=by
 intro e he;have⟨j,hj⟩:=List.getElem?_of_mem he;have⟨k,v,_,h2,_⟩:=h.get hj;rw[h2];rfl
theorem qg{V:Type}:∀{m:List (Int×V)} {j:Nat} {k:Int} {v:V},(m.map (·.1)).Nodup->m[j]? =some (k,v)->m.find? (λp=>p.1==k)=some (k,v)
 |[],j,k,v,_,h=>by simp at h
 |p::m,0,k,v,hn,h=>by
  simp only[List.getElem?_cons_zero,Option.some.injEq]at h;subst h;simp
 |p::m,j+1,k,v,hn,h=>by
  simp only[List.getElem?_cons_succ]at h;simp only[map_cons,List.nodup_cons]at hn
  have cG:(p.1==k)=false:=by
   rw[beq_eq_false_iff_ne];rintro rfl;exact hn.1 (mem_map.2 ⟨_,List.mem_of_getElem? h,rfl⟩)
  rw[List.find?_cons,cG];exact qg hn.2 h
theorem ah2{V:Type}{m:List (Int×V)}{k:Int}(h:∀p∈m,p.1≠k):m.find? (λp=>p.1==k)=none:=
 List.find?_eq_none.2 λp hp=>by simpa using h p hp
theorem iZ.find(h:iZ ck m es.toList clock){kt:TypeId}(hk:P.underlying kt=some (.int .i64))(n:Int):
 ((Instr.findKey kt (.int .i64 n) es.toList).run P w=.ok none w/\fi m n=none/\nH m n=false)\/
 ∃j e v,(Instr.findKey kt (.int .i64 n) es.toList).run P w=.ok (some (j,ck.val v)) w/\es.toList[j]? =some e/\e.key=.int .i64 n/\e.val=ck.val v/\m[j]? =some (n,v)/\fi m n=some v/\nH m n=true:=by
 rcases MapKept.findNow_spec (d:=.int .i64) (k:=.int .i64 n) rfl es.toList 0 h.key with⟨h1,h2⟩|⟨j,e,h1,h2,h3⟩
 have qc:∀p∈m,p.1≠n:=by
  intro p hp e;have⟨j,hj⟩:=List.getElem?_of_mem hp;have bx:es.toList.length=m.length:=by have:=congrArg List.length h.eq;simpa using this
  have br:j<es.toList.length:=by rw[bx];exact(List.getElem?_eq_some_iff.1 hj).1
  have⟨k,v,g1,g2,_⟩:=h.get (getElem?_eq_getElem br);rw[hj]at g1;cases g1;exact h2 _ (getElem_mem br) (by rw[g2];exact congrArg _ e)
 refine .inl ⟨MapKept.run_findKey hk h1,by simp[fi,ah2 qc], ?_⟩;simp only[nH,List.any_eq_false,beq_iff_eq];exact qc;have⟨k,v,g1,g2,g3⟩:=h.get h2;rw[h3]at g2;cases g2;rw[zero_add]at h1;refine .inr ⟨j,e,v,by rw[<-g3];exact MapKept.run_findKey hk h1,h2,h3,g3,g1,by simp[fi,qg h.keys g1], ?_⟩;simp only[nH,List.any_eq_true,beq_iff_eq];exact⟨_,List.mem_of_getElem? g1,rfl⟩
theorem aeM(h:iZ ck m es.toList clock)(hb:w.heap[b]? =some (.map es clock)){t kt et:TypeId}(ht:P.underlying t=some (.map kt et))(hk:P.underlying kt=some (.int .i64)){z:Value}(hz:(zeroValue et).run P w=.ok z w)(n:Int)(ok:Bool):
 (Instr.lookup t (.map (some b)) (.int .i64 n) ok).run P w=.ok (if ok=true then .tuple #[((fi m n).map ck.val).getD z,.bool (nH m n)]else((fi m n).map ck.val).getD z) w:=by
 have hc:=MapKept.run_checkKey (w:=w) hk (k:=.int .i64 n) rfl es.isEmpty 9999;rcases h.find (w:=w) hk n with⟨h1,h2,h3⟩|⟨j,e,v,h1,_,_,_,_,h2,h3⟩;simp[Instr.lookup,run_underlying ht,MapKept.run_getObj_map hb,hc,h1,h2,h3,hz,Result.andThen];simp[Instr.lookup,run_underlying ht,MapKept.run_getObj_map hb,hc,h1,h2,h3,Result.andThen]
theorem stays(n:Int):(Instr.keyThatStays (.int .i64 n) (.int .i64 n)).run P w=.ok (.int .i64 n) w:=by
 simp[Instr.keyThatStays,Instr.sameBits]
theorem mG(m:List (Int×ck.V))(k:Int)(v:ck.V):((m.map λp=>if p.1==k then(k,v)else p).map (·.1))=m.map (·.1):=by
 rw[List.map_map];refine List.map_congr_left λp _=> ?_;simp only[Function.comp];by_cases h:p.1==k;rw[if_pos h];exact(beq_iff_eq.1 h).symm;rw[if_neg h]
theorem iZ.put(h:iZ ck m es.toList clock){n:Int}{v:ck.V}(hv:ck.fits v):
 (nH m n=false->iZ ck (js m n v) (es.push {key:=.int .i64 n,val:=ck.val v,born:=clock}).toList (clock+1))/\
 ∀(j:Nat) (e:MapEntry),es.toList[j]? =some e->e.key=.int .i64 n->nH m n=true->
  iZ ck (js m n v) (es.modify j λe=>{e with key:=.int .i64 n,val:=ck.val v}).toList clock:=by
 constructor;intro qc;have ayd:∀p∈m,p.1≠n:=by simpa[nH]using qc
 unfold js;rw[if_neg (by rw[qc];simp)];refine⟨?_, ?_, ?_, ?_, ?_⟩;simp only[Array.toList_push,map_append,h.eq,map_cons,map_nil];rw[map_append,nodup_append];refine⟨h.keys,by simp,λa ha b hb=> ?_⟩;simp only[map_cons,map_nil,mem_singleton]at hb;obtain⟨p,hp,rfl⟩:=mem_map.1 ha;rw[hb];exact ayd p hp;rw[Array.toList_push,map_append,nodup_append];refine⟨h.yw,by simp,λa ha b hb=> ?_⟩;simp only[map_cons,map_nil,mem_singleton]at hb;obtain⟨e,he,rfl⟩:=mem_map.1 ha;have:=h.old e he;omega;intro e he;rw[Array.toList_push,mem_append]at he;rcases he with he|he;have:=h.old e he;omega;rw[mem_singleton.1 he];exact Nat.lt_succ_self _;intro p hp;rcases mem_append.1 hp with hp|hp;exact h.fits p hp;rw[mem_singleton.1 hp];exact hv;intro j e hj he aye;have⟨k,u,g1,g2,g3⟩:=h.get hj;rw[he]at g2;cases g2;have br:j<es.toList.length:=(List.getElem?_eq_some_iff.1 hj).1;unfold js;rw[if_pos aye]
 have ayf:(es.modify j λe=>{e with key:=.int .i64 n,val:=ck.val v}).toList=es.toList.set j {e with key:=.int .i64 n,val:=ck.val v}:=by
  refine List.ext_getElem? λi=> ?_;simp only[Array.toList_modify,List.getElem?_modify,getElem?_set];by_cases nZ:j=i;subst nZ;have asm:j<es.size:=by simpa using br
  rw[hj];simp[asm];simp[nZ]
 rw[ayf]
 have nS:(m.map λp=>if p.1==n then(n,v)else p)=m.set j (n,v):=by
  refine List.ext_getElem? λi=> ?_;rw[getElem?_map,getElem?_set];by_cases nZ:j=i;subst nZ;have ajQ:j<m.length:=(List.getElem?_eq_some_iff.1 g1).1;rw[g1];simp[ajQ];rw[if_neg nZ];cases hm:m[i]? with
  |none=>rfl|some p=>
   have cG:(p.1==n)=false:=by
    rw[beq_eq_false_iff_ne];intro e1;have⟨hi1,hi2⟩:=List.getElem?_eq_some_iff.1 hm;have⟨hj1,yG⟩:=List.getElem?_eq_some_iff.1 g1;refine nZ ((List.getElem_inj (h₀:=by simpa using hj1) (h₁:=by simpa using hi1) h.keys).1 ?_);simp only[List.getElem_map,hi2,yG,e1]
   rw[map_some,cG];rfl
 refine⟨?_,by rw[mG];exact h.keys, ?_, ?_, ?_⟩;rw[nS,List.map_set,List.map_set,h.eq];rw[List.map_set]
 have:(es.toList.map (·.born)).set j e.born=es.toList.map (·.born):=by
  refine List.ext_getElem? λi=> ?_;rw[getElem?_set];by_cases nZ:j=i;subst nZ;rw[if_pos rfl,if_pos (by simpa using br),getElem?_map,hj];rfl;rw[if_neg nZ]
 rw[this];exact h.yw;intro x hx;rcases List.mem_or_eq_of_mem_set hx with hx|rfl;exact h.old x hx;exact h.old e (List.mem_of_getElem? hj);intro p hp;obtain⟨q,hq,rfl⟩:=mem_map.1 hp;split;exact hv;exact h.fits q hq
theorem xY(h:iZ ck m es.toList clock)(hb:w.heap[b]? =some (.map es clock)){t kt et:TypeId}(ht:P.underlying t=some (.map kt et))(hk:P.underlying kt=some (.int .i64))(n:Int){v:ck.V}(hv:ck.fits v):
 ∃l3 vR,(Instr.mapUpdate t (.map (some b)) (.int .i64 n) (ck.val v)).run P w=.ok () {w with heap:=w.heap.setIfInBounds b (.map l3 vR)}/\iZ ck (js m n v) l3.toList vR:=by
 have hc:=MapKept.run_checkKey (w:=w) hk (k:=.int .i64 n) rfl false 9999;rcases h.find (w:=w) hk n with⟨h1,h2,h3⟩|⟨j,e,u,h1,g1,g2,g3,g4,h2,h3⟩;exact⟨_,_,by simp[Instr.mapUpdate,run_underlying ht,MapKept.run_getObj_map hb,hc,h1,Result.andThen,MapKept.run_setObj_map _ hb],(h.put hv).1 h3⟩
 have ayg:((es[j]?).map (·.key)).getD (.int .i64 n)=.int .i64 n:=by
  rw[show es[j]? =some e from by rw[<-Array.getElem?_toList];exact g1];exact g2
 refine⟨_,_, ?_,(h.put hv).2 j e g1 g2 h3⟩;simp[Instr.mapUpdate,run_underlying ht,MapKept.run_getObj_map hb,hc,h1,Result.andThen,MapKept.run_setObj_map _ hb,ayg,stays]
end
section
variable{ρ aU:Nat->Value}{H H':a8}{G O O':Nat->Prop}{w w':World}{P:Program}
theorem abU{t:TypeId}(h:afR P t=true):P.underlying t=some (.int .i64):=by
 unfold afR at h;split at h;assumption;cases h
theorem ah3{t:TypeId}{ck:CK}(h:vz P t ck=true):(zeroValue t).run P w=.ok (ck.val ck.d) w/\ck.fits ck.d:=by
 have key:∀v,(P.info? t).bind (·.zero)=some v->(zeroValue t).run P w=.ok v w:=by
  intro v hv;have⟨i,h1,h2⟩:=bind_eq_some_iff.1 hv;simp[zeroValue,typeInfo,h1,h2]
 unfold vz at h;rw[and_eq_true]at h
 replace h:=h.2
 split at h;rename_i k' k hz;obtain rfl:=bu h;exact⟨key _ hz,trivial⟩;rename_i hz;exact⟨key _ hz,trivial⟩;rename_i s hz
 have:s=empty:=by
  have:=Nat.eq_of_beq_eq_true h;have⟨⟨l⟩⟩:=s;cases l with
  |nil=>rfl|cons a l=>simp[ByteArray.size]at this
 subst this;exact⟨key _ hz,trivial⟩;rename_i cs k n hz;simp only[and_eq_true]at h;have h1:=nU k _ h.1;have h2:=Nat.eq_of_beq_eq_true h.2;refine⟨?_,by show(replicate n (0:Int)).length=n;simp⟩;rw[key _ hz];congr 1;show Value.agg cs=.agg ((replicate n (0:Int)).map (Value.int k)).toArray;rw[<-h2,<-h1];cases h
theorem aeN{ck:CK}{v:ck.V}(h:ck.fits v)(hp:ck.av v≠.s .bm):ag ρ H O w (ck.av v) (ck.val v):=by
 cases ck with
 |int k=>exact aK (.int _ _)|bool=>exact aK (.bool _)|str=>exact aK (.str _)|arr k n=>
  show ag ρ H O w (.af k n v) _;unfold ag;exact⟨h,rfl⟩
 |_=>exact(hp rfl).elim
theorem qV{t:TypeId}{ck:CK}(h:vz P t ck=true)(v:ck.V):ck.av v≠.s .bm:=by
 unfold vz at h;rw[and_eq_true]at h
 replace h:=h.1
 cases ck<;>first
  |(cases h;done)
  |(intro e;cases e;done)
theorem aaj(hs:Sat ρ H G w){id b:Nat}{ck:CK}{m:List (Int×ck.V)}(ho:H id=some (.map ck m))(hb:ρ id=.map (some b)):∃es clock,w.heap[b]? =some (.map es clock)/\iZ ck m es.toList clock:=by
 have⟨b',es,clock,h1,h2,h3⟩:=hs.obj id _ ho;rw[hb]at h1;cases h1;exact⟨es,clock,h2,h3⟩
theorem ah4{ck:CK}{m:List (Int×ck.V)}(h:∀p∈m,ck.fits p.2){n:Int}{v:ck.V}(hv:fi m n=some v):ck.fits v:=by
 simp only[fi,map_eq_some_iff]at hv;obtain⟨p,hp,rfl⟩:=hv;exact h p (List.mem_of_find?_eq_some hp)
theorem aeO{t:TypeId}{x i:AV}{ok:Bool}{vx vi:Value}{q:bP}(h:(zR P t x i ok).eval H=some q)(hn:bE q.ab)(hs:Sat ρ H G w)(hx:ag ρ H (bg ρ H G) w x vx)(hi:ag ρ H (bg ρ H G) w i vi):
 fp P ρ H (bg ρ H G) w q (Instr.lookup t vx vi ok):=by
 unfold zR at h;split at h;rename_i kt et id k lit n ht nQ;rw[cond_eq_ite]at h;split at h;rename_i hk;simp only[and_eq_true]at hk;obtain rfl:=nM hk.2;obtain rfl:=cp nQ hi;simp only[RM.eval]at h;split at h;rename_i ck m ho;rw[cond_eq_ite]at h;split at h;rename_i hz;unfold ag aS at hx;obtain⟨b,hb,rfl,_⟩:=hx;have⟨es,clock,h1,h2⟩:=aaj hs ho hb;have⟨hz1,hz2⟩:=ah3 (w:=w) hz;have iD:=aeM h2 h1 ht (abU hk.1) hz1 n ok
 have jL:ag ρ H (bg ρ H G) w (ck.av ((fi m n).getD ck.d)) (((fi m n).map ck.val).getD (ck.val ck.d)):=by
  cases hg:fi m n with
  |none=>exact aeN hz2 (qV hz _)|some v=>exact aeN (ah4 h2.fits hg) (qV hz _)
 refine aR h (λ_=>⟨_,iD, ?_⟩) hn;cases ok;exact jL;simp only[cond_true,if_true];unfold ag;exact⟨[_,_],rfl,aJ.2 ⟨_,_,rfl,jL,aJ.2 ⟨_,_,rfl,aK (.bool _),bp.2 rfl⟩⟩⟩;cases h;cases h;cases h;cases h
theorem asr{ck:CK}{a:AV}{y:ck.V}{v:Value}(h:ck.rdv a=some y)(hd:ag ρ H O w a v):v=ck.val y/\ck.fits y:=by
 cases ck with
 |int k=>
  simp only[CK.rdv]at h;split at h;rw[cond_eq_ite]at h;split at h;rename_i hk;obtain rfl:=bu hk;cases h;have:=aC (by simp) hd;cases this;exact⟨rfl,trivial⟩;cases h;rw[cond_eq_ite]at h;split at h;rename_i hk;obtain rfl:=bu hk;cases h;have:=aC (by simp) hd;cases this;exact⟨rfl,trivial⟩;cases h;cases h
 |bool=>
  simp only[CK.rdv]at h;split at h;cases h;have:=aC (by simp) hd;cases this;exact⟨rfl,trivial⟩;cases h;have:=aC (by simp) hd;cases this;exact⟨rfl,trivial⟩;cases h
 |str=>
  simp only[CK.rdv]at h;split at h;cases h;have:=aC (by simp) hd;cases this;exact⟨rfl,trivial⟩;cases h
 |arr k n=>
  simp only[CK.rdv]at h;split at h;rw[cond_eq_ite]at h;split at h;rename_i hk;simp only[and_eq_true]at hk;obtain rfl:=bu hk.1;obtain rfl:=Nat.eq_of_beq_eq_true hk.2;cases h;unfold ag at hd;exact⟨hd.2,hd.1⟩;cases h;cases h
 |_=>cases h
theorem pC{t:TypeId}{x i a:AV}{vx vi va:Value}{q:bP}(h:(p7 P t x i a).eval H=some q)(hs:Sat ρ H G w)(hx:ag ρ H (bg ρ H G) w x vx)(hi:ag ρ H (bg ρ H G) w i vi)(ha:ag ρ H (bg ρ H G) w a va):
 ∃w',(Instr.mapUpdate t vx vi va).run P w=.ok () w'/\∀base,Good ρ H G w (dc H q.up base q.new) (q.r base) undef w':=by
 unfold p7 at h;split at h;rename_i kt et id k lit n ht nQ;rw[cond_eq_ite]at h;split at h;rename_i hk;simp only[and_eq_true]at hk;obtain rfl:=nM hk.2;obtain rfl:=cp nQ hi;simp only[RM.eval]at h;split at h;rename_i ck m ho;split at h;rename_i y hy;simp only[RM.eval,Option.some.injEq]at h;subst h;obtain⟨rfl,hf⟩:=asr hy ha;unfold ag aS at hx;obtain⟨b,hb,rfl,_⟩:=hx;have⟨es,clock,h1,h2⟩:=aaj hs ho hb;have⟨l3,vR,h3,h4⟩:=xY h2 h1 ht (abU hk.1) n hf;refine⟨_,h3,λbase=> ?_⟩;simp only[fV];exact Good.write hs ho rfl rfl (by rw[hb];rfl) (λ_ _ hc=>by cases hc) ⟨b,l3,vR,hb,fk h1,h4⟩ cX;cases h;cases h;cases h;cases h
theorem abV{t:TypeId}{r:Option AV}{q:bP}(h:(vA P t r).eval H=some q)(hs:Sat ρ H G w){base:Nat}(hb:∀i,i<q.new.length->H (base+i)=none):
 r=none/\∃v w',(Instr.makeMap t none).run P w=.ok v w'/\Good ρ H G w (dc H q.up base q.new) (q.r base) v w':=by
 unfold vA at h;split at h;split at h;rename_i ck _;simp only[RM.eval,Option.some.injEq]at h;subst h;have hn:H base=none:=by simpa using hb 0 (by simp)
 refine⟨rfl,.map (some w.heap.size),w.alloc (.map #[] 0),RowKit.run_makeMap .., ?_⟩;simp only[jd];refine Good.fresh hs hn (aa:=.map (some w.heap.size)) (w1:=w) rfl rfl rfl rfl (λb hb=>by simpa[eQ]using hb.symm) ⟨w.heap.size,#[],0,rfl,(MapKept.heap_alloc w _).1,⟨rfl,by simp,by simp,by simp,by simp⟩⟩ ?_;unfold ag aS;exact⟨w.heap.size,by simp,rfl,by simp[aP]⟩;cases h;cases h
end
section
variable{ρ aU:Nat->Value}{H H':a8}{G O O':Nat->Prop}{w w':World}{P:Program}
structure ass (P:Program) (O:Nat->Prop) (w:World) (size k:Nat) (d:ba) (v:Value) (bJ:List Value):Prop where
 length:bJ.length=k*size
 first:(Builtin.firstCells size k v).run P w=.ok bJ.toArray w
 one:∀u∈bJ,u.oneCell'=true
 den:∀i j,i<k->j<size->∃u,bJ[i*size+j]? =some u/\bh O w (d.cell i j) u
theorem ajR{size k:Nat}{d:ba}{v:Value}(h:qa O w d v)(hs:d.size=size)(h1:1<=size)(hk:k<=d.n):∃bJ,ass P O w size k d v bJ:=by
 obtain⟨a,cap,us,rfl,g1,g2,g3⟩:=h;have hn:(dJ d 0 k).n=k:=by rw[oS d (zero_le _) hk];omega
 have bZ:=jH d 0 k;have qU:∀i j,i<k->(dJ d 0 k).cell i j=d.cell i j:=λi j hi=>by rw[jI d j (by omega),zero_add]
 have hr:qa O w (dJ d 0 k) (.slice a k cap):=by
  refine⟨a,cap,us,by rw[hn],by rw[hn];omega,g2,λh0=> ?_⟩;rw[hn]at h0;have⟨b,o,e1,e2,e3⟩:=g3 (by omega);refine⟨b,o,e1,e2,λi j hi hj=> ?_⟩;rw[hn]at hi;rw[bZ]at hj ⊢;rw[qU i j hi];exact e3 i j (by omega) hj
 have⟨bJ,src⟩:=uI (P:=P) hr (by rw[bZ];exact hs) h1;refine⟨bJ,by rw[src.length,hn], ?_,src.one,λi j hi hj=> ?_⟩;have:=src.first w rfl;rw[hn]at this;rw[<-this];cases a<;>rfl;have⟨u,e1,e2⟩:=src.den i j (by rw[hn];exact hi) hj;rw[qU i j hi]at e2;exact⟨u,e1,e2⟩
theorem ajS{s:ByteArray}{k:Nat}(hk:k<=s.data.toList.length):∃bJ,ass P O w 1 k (.af .u8 (s.data.toList.map λb=>(b.toNat:Int))) (.string s) bJ:=by
 refine⟨(s.data.toList.take k).map λb=>.int .u8 b.toNat,by rw[length_map,length_take];omega, ?_,λu hu=> ?_,λi j hi hj=> ?_⟩;simp only[Builtin.firstCells,Sem.run_pure];congr 1;apply toList_inj.1;rw[Array.toList_map];simp[ByteArray.data_extract];obtain⟨b,_,rfl⟩:=mem_map.1 hu;rfl;obtain rfl:j=0:=by omega
 have fh:i<s.data.toList.length:=by omega
 refine⟨.int .u8 (s.data.toList[i].toNat),by rw[Nat.mul_one,add_zero,getElem?_map,getElem?_take,if_pos hi,getElem?_eq_getElem fh];rfl, ?_⟩;simp only[ba.cell]
 have:(s.data.toList.map λb=>((b.toNat:Nat):Int)).getD i 0=(s.data.toList[i].toNat:Int):=by
  rw[List.getD,getElem?_map,getElem?_eq_getElem fh];rfl
 rw[this];exact .int _ _
theorem ah5{sh:Shape}{size:Nat}{x:AV}{k:ba->Option Nat->RM bP}{v:Value}{q:bP}(h:(yt sh size x k).eval H=some q)(hs:Sat ρ H G w)(hd:ag ρ H (bg ρ H G) w x v)(h1:1<=size):
 ∃c idy,(k c idy).eval H=some q/\(c.size=size->(Builtin.lenOf v).run P w=.ok c.n w/\∀m,m<=c.n->∃bJ,ass P (bg ρ H G) w size m c v bJ):=by
 unfold yt at h;split at h;rename_i s;obtain rfl:=fB hd;refine⟨_,_,h,λbZ=> ?_⟩;simp only[ba.size]at bZ;subst bZ;refine⟨by simp[Builtin.lenOf,ba.n],λm hm=>ajS (by simpa[ba.n]using hm)⟩;have⟨c,idy,h2,h3⟩:=vI h hs hd;refine⟨c,idy,h2,λbZ=>⟨?_,λm hm=>ajR h3 bZ h1 hm⟩⟩;obtain⟨a,cap,us,rfl,_⟩:=h3;simp[Builtin.lenOf]
theorem l4{t t' ty e:TypeId}{sz:Nat}{a:Option Addr}{n cap m:Nat}{vy:Value}{bJ:List Value}(ht:P.underlying t=some (.slice e))(hs:dO P e=some sz)
 (bx:(Builtin.lenOf vy).run P w=.ok m w) (kf:(Builtin.firstCells sz (min m n) vy).run P w=.ok bJ.toArray w)
 (ny:∀x,a=some x->(storeCells x bJ 0).run P w=.ok () w') (qc:a=none->w'=w):
 (Builtin.copy_ #[t,t'] ty #[.slice a n cap,vy]).run P w=.ok (.int .i64 ((min m n:Nat):Int)) w':=by
 have hf:(Builtin.firstCells sz (Nat.min m n) vy).run P w=.ok bJ.toArray w:=kf;cases a with
 |none=>
  rw[qc rfl];simp[Builtin.copy_,run_underlying ht,run_sizeOf hs,bx,hf];rfl
 |some x=>
  have:=ny x rfl;simp[Builtin.copy_,run_underlying ht,run_sizeOf hs,bx,hf,this];rfl
theorem ajT{t t' ty:TypeId}{x y:AV}{vx vy:Value}{q:bP}(h:(ajy P t x y).eval H=some q)(hs:Sat ρ H G w)
 (hx:ag ρ H (bg ρ H G) w x vx) (hy:ag ρ H (bg ρ H G) w y vy):
 ∃v w',(Builtin.copy_ #[t,t'] ty #[vx,vy]).run P w=.ok v w'/\∀base,Good ρ H G w (dc H q.up base q.new) (q.r base) v w':=by
 unfold ajy at h;split at h;rename_i e ht;split at h;rename_i sz bZ;rw[cond_eq_ite]at h;split at h;rename_i h1;have h1:=le_of_ble_eq_true h1;have⟨d,idy,h2,pn⟩:=ah5 (P:=P) h hs hy h1;rw[cond_eq_ite]at h2;split at h2;rename_i hds;have hds:d.size=sz:=by simpa using hds
 have⟨bx,jB⟩:=pn hds;split at h2;rename_i id;simp only[RM.eval]at h2;split at h2;rename_i c e' ho;rw[cond_eq_ite]at h2;split at h2;rename_i qd;have qd:c.size=sz:=by simpa using qd
 simp only[RM.eval,Option.some.injEq]at h2;subst h2;have⟨bJ,src⟩:=jB (min d.n c.n) (Nat.min_le_left _ _);obtain⟨a,cap,rfl,hr,hle,_⟩:=iQ hs ho hx;have ej:=hs.obj id _ ho;rw[hr]at ej;have⟨a2,qP,g1,_,_,g4⟩:=ej;cases g1;have⟨w',k1,k2,k3⟩:=qT (P:=P) hs ho (lo:=0) (k:=min d.n c.n) (d:=d) (by omega) (by omega) (by omega) (bJ:=bJ) (by rw[src.length,qd]) src.one (λi' j' fh jJ=>by rw[qd]at *;exact src.den i' j' fh jJ);refine⟨_,w',l4 ht bZ bx src.first (λx hx=> ?_) (λhx=> ?_),λbase=> ?_⟩;refine k1 a cap _ hr ?_;subst hx;rcases g4 with g4|⟨b,o,_,_,_,g5,_⟩;exact .inl (by omega);cases g5;exact .inr (by simp[bo]);refine k2 ?_;subst hx;rcases g4 with g4|⟨b,o,_,_,_,g5,_⟩;omega;cases g5;simp only[fV];exact k3 _ _ (λw2=>aK (.int _ _));cases h2;cases h2
 rename_i id lo n;simp only[RM.eval]at h2;split at h2;rename_i c e' ho;rw[cond_eq_ite]at h2;split at h2;rename_i qd;have qd:c.size=sz:=by simpa using qd
 simp only[RM.eval,Option.some.injEq]at h2;subst h2;have⟨bJ,src⟩:=jB (min d.n n) (Nat.min_le_left _ _);obtain⟨g0,a,cap,a',g1,g2,g3,rfl,g4,g5⟩:=jc hs ho hx;have⟨w',k1,k2,k3⟩:=qT (P:=P) hs ho (lo:=lo) (k:=min d.n n) (d:=d) (by omega) (by omega) (by omega) (bJ:=bJ) (by rw[src.length,qd]) src.one (λi' j' fh jJ=>by rw[qd]at *;exact src.den i' j' fh jJ);refine⟨_,w',l4 ht bZ bx src.first (λx hx=> ?_) (λhx=> ?_),λbase=> ?_⟩;refine k1 a cap _ g1 ?_;by_cases cG:cap=lo;exact .inl (by omega);exact .inr (by rw[<-g4 cG];exact hx);refine k2 ?_;by_cases cG:cap=lo;omega;rw[g4 cG]at hx;obtain⟨b,o,rfl⟩:=g5 (by omega);cases hx;simp only[fV];exact k3 _ _ (λw2=>aK (.int _ _));cases h2;cases h2;cases h2;cases h2;cases h;cases h;cases h
theorem l5(sh:Shape)(n:Nat):(dw sh n).n=n:=by cases sh<;>simp[dw,ba.n]
theorem aak(sh:Shape)(n m:Nat):(dw sh n).size=(dw sh m).size:=by cases sh<;>rfl
theorem aal(sh:Shape){n i:Nat}(j:Nat)(hi:i<n):(dw sh n).cell i j=(dw sh 1).cell 0 j:=by
 cases sh<;>simp only[dw,ba.cell,List.getD,List.getElem?_replicate,hi,Nat.zero_lt_one,if_true]
theorem aob{x:SV}{v:Value}(h:asb x v=true):bh O w x v:=by
 unfold asb at h;split at h;simp only[and_eq_true,beq_iff_eq]at h;obtain⟨h1,rfl⟩:=h;obtain rfl:=bu h1;exact .int _ _;simp only[beq_iff_eq]at h;subst h;exact .bool _;rename_i s s';simp only[and_eq_true,beq_eq]at h
 have e:∀t:ByteArray,t.size=0->t=empty:=λt ht=>by
  cases t with
  |mk d=>
   have:d= #[]:=Array.size_eq_zero_iff.1 ht;subst this;rfl
 rw[e s h.1,e s' h.2];exact .str _;rename_i c;have h:c.n=0:=by simpa using h
 have:=bh.ro (O:=O) (w:=w) c none 0 (λ_ _=>undef) 0 0 (by omega) (zero_le _) (λh=>by omega) (λi j hi hj=>by omega) (λi j hi hj=>by omega);rwa[h]at this;cases h
theorem kP{sh:Shape}{z:List Value}(h:gk sh z=true)(n:Nat):(dw sh n).size=z.length/\∀i j,i<n->j<z.length->∃u,z[j]? =some u/\bh O w ((dw sh n).cell i j) u:=by
 simp only[gk,and_eq_true,beq_eq,all_eq_true,mem_range]at h;refine⟨by rw[aak sh n 1];exact h.1,λi j hi hj=>⟨z[j],getElem?_eq_getElem hj, ?_⟩⟩;rw[aal sh j hi];have:=aob (O:=O) (w:=w) (h.2 j hj);simpa[List.getD,getElem?_eq_getElem hj]using this
theorem lz{z:Array Value}(n:Nat){i j:Nat}(hi:i<n)(hj:j<z.size):(Builtin.zeroCells z n).toList[i*z.size+j]? =z.toList[j]? :=by
 have br:i*z.size+j<n*z.size:=by
  have:(i+1)*z.size<=n*z.size:=Nat.mul_le_mul_right _ (by omega);rw[Nat.succ_mul]at this;omega
 have e2:(i*z.size+j)%z.size=j:=by rw[Nat.mul_comm,Nat.mul_add_mod,Nat.mod_eq_of_lt hj]
 simp[Builtin.zeroCells,br,e2,hj]
theorem ajU{z:List Value}{sh:Shape}(h:gk sh z=true):∀u∈z,u.oneCell'=true:=by
 intro u hu;obtain⟨j,hj,rfl⟩:=List.getElem_of_mem hu;have⟨_,h2⟩:=kP (O:=λ_=>False) (w:=default) h 1;have⟨u,e1,e2⟩:=h2 0 j (by omega) hj;rw[getElem?_eq_getElem hj]at e1;cases e1;exact e2.one
theorem iR{z:Array Value}{sh:Shape}(h:gk sh z.toList=true)(n:Nat):∀u∈(Builtin.zeroCells z n).toList,u.oneCell'=true:=by
 intro u hu;simp only[Builtin.zeroCells,Array.toList_map,Array.toList_range,mem_map,mem_range]at hu;obtain⟨m,hm,rfl⟩:=hu
 have hp:0<z.size:=by
  rcases Nat.eq_zero_or_pos z.size with h0|h0;rw[h0]at hm;omega;exact h0
 have br:m%z.size<z.size:=Nat.mod_lt _ hp;rw[getElem!_pos z (m%z.size) br];exact ajU h _ (Array.mem_toList_iff.2 (Array.getElem_mem br))
theorem ah6{t e ty:TypeId}{z:Value}(ht:P.underlying t=some (.slice e))(hz:∀w,(zeroValue e).run P w=.ok z w){a:Option Addr}{n cap:Nat}(ny:∀x,a=some x->(storeCells x (Builtin.zeroCells z.cells n).toList 0).run P w=.ok () w')
 (qc:(a=none\/n=0)->w'=w):(Builtin.clear_ #[t] ty #[.slice a n cap]).run P w=.ok (.tuple #[]) w':=by
 cases a with
 |none=>
  rw[qc (.inl rfl)];simp[Builtin.clear_,run_underlying ht]
 |some x=>
  cases n with
  |zero=>
   rw[qc (.inr rfl)];simp[Builtin.clear_,run_underlying ht]
  |succ n=>
   have:=ny x rfl;simp[Builtin.clear_,run_underlying ht,hz,this]
theorem ah7{t ty:TypeId}{ts:List TypeId}{x:AV}{vx:Value}{q:bP}(h:(aev P t x).eval H=some q)(hs:Sat ρ H G w)(hx:ag ρ H (bg ρ H G) w x vx):
 ∃v w',(Builtin.clear_ (t::ts).toArray ty #[vx]).run P w=.ok v w'/\∀base,Good ρ H G w (dc H q.up base q.new) (q.r base) v w':=by
 have hts:(Builtin.clear_ (t::ts).toArray ty #[vx])=(Builtin.clear_ #[t] ty #[vx]):=by
  simp[Builtin.clear_]
 rw[hts];unfold aev at h;split at h;rename_i e id lo n ht;split at h;rename_i i hi;rw[cond_eq_ite]at h;split at h;rename_i hc;simp only[and_eq_true]at hc;have⟨c1,c2⟩:=hc;have c1:=le_of_ble_eq_true c1
 obtain⟨z,hz,hzf,hzs⟩:∃z,i.zero=some z/\gk (shapeOf P e) z.cells.toList=true/\z.cells.size=i.size:=by
  cases hz:i.zero with
  |none=>simp[hz]at c2|some z=>
   simp only[hz,Option.any_some,and_eq_true,beq_iff_eq]at c2;exact⟨z,rfl,c2.1,c2.2⟩
 have hzv:∀w,(zeroValue e).run P w=.ok z w:=λw=>by simp[zeroValue,typeInfo,hi,hz]
 simp only[RM.eval]at h;split at h;rename_i c e' ho;rw[cond_eq_ite]at h;split at h;rename_i qd;have qd:c.size=i.size:=by simpa using qd
 simp only[RM.eval,Option.some.injEq]at h;subst h;obtain⟨g0,a,cap,a',g1,g2,g3,rfl,g4,g5⟩:=jc hs ho hx;have⟨y1,y2⟩:=kP (O:=bg ρ H G) (w:=w) hzf n
 have⟨w',k1,k2,k3⟩:=qT (P:=P) hs ho (lo:=lo) (k:=n) (d:=dw (shapeOf P e) n) (by omega) (by rw[l5];exact le_refl _) (by omega) (bJ:=(Builtin.zeroCells z.cells n).toList) (by rw[length_toList,size_zeroCells,hzs,qd]) (iR hzf n) (λi' j' fh jJ=>by
  rw[qd]at jJ ⊢;have⟨u,e1,e2⟩:=y2 i' j' fh (by rw[length_toList,hzs];exact jJ);refine⟨u, ?_,e2⟩;rw[<-hzs,lz n fh (by omega)];exact e1)
 refine⟨_,w',ah6 ht hzv (λx hx=> ?_) (λhx=> ?_),λbase=> ?_⟩;refine k1 a cap _ g1 ?_;by_cases cG:cap=lo;exact .inl (by omega);exact .inr (by rw[<-g4 cG];exact hx);refine k2 ?_;rcases hx with hx|hx;by_cases cG:cap=lo;omega;rw[g4 cG]at hx;obtain⟨b,o,rfl⟩:=g5 (by omega);cases hx;exact hx;simp only[fV];exact k3 _ _ (λw2=>cX);cases h;cases h;cases h;cases h;rename_i kt et id ht;simp only[RM.eval]at h;split at h;rename_i ck m ho;simp only[RM.eval,Option.some.injEq]at h;subst h;unfold ag aS at hx;obtain⟨b,hb,rfl,_⟩:=hx;have⟨es,clock,h1,h2⟩:=aaj hs ho hb;refine⟨.tuple #[],World.cI w b (.map #[] clock), ?_,λbase=> ?_⟩;have e1:(getObj b).run P w=.ok (.map es clock) w:=by simp[getObj,Sem.run,h1]
 have e2:(setObj b (.map #[] clock)).run P w=.ok () (World.cI w b (.map #[] clock)):=by simp[setObj,Sem.run,World.cI,h1]
 simp only[Builtin.clear_,List.getElem?_toArray,List.getElem?_cons_zero,Sem.run_bind,run_underlying ht,Result.andThen_ok,e1,e2,Sem.run_pure];simp only[fV];refine Good.write hs ho rfl rfl (by rw[hb];rfl) (λc' e' hc=>by cases hc) ?_ cX;exact⟨b,#[],clock,hb,fk h1,⟨rfl,List.nodup_nil,List.nodup_nil,λe he=>by simp at he,λp hp=>by simp at hp⟩⟩;cases h;cases h
theorem run_makeSlice{t e:TypeId}{i:TypeInfo}{z:Value}(ht:P.underlying t=some (.slice e))(hi:P.info? e=some i)(hz:i.zero=some z)(hzs:z.cells.size=i.size)(h1:1<=i.size)(hby:i.bytes<=256)
 {k k':IntKind} {l c:Int} (h0:0<=l) (hlc:l<=c) (hc:c<=1073741824):
 ∃w1:World,(w1.heap=w.heap/\w1.tape=w.tape/\w1.os=w.os/\w1.output=w.output)/\
 (Instr.makeSlice t (.int k l) (.int k' c)).run P w=.ok (.slice (some ⟨w.heap.size,0,none⟩) l.toNat c.toNat) (w1.alloc (.cells (Builtin.zeroCells z.cells c.toNat).toList.toArray e)):=by
 refine⟨w,⟨rfl,rfl,rfl,rfl⟩, ?_⟩;have e1:i64.wrap l=l:=cL ⟨by omega,by omega⟩;have e2:i64.wrap c=c:=cL ⟨by omega,by omega⟩
 have abR:¬(281474976710656<(i.bytes:Int)*c):=by
  have h3:(i.bytes:Int)*c<=256*c:=Int.mul_le_mul_of_nonneg_right (by omega) (by omega);omega
 have hl0:¬l<0:=by omega
 have hc0:¬c<0:=by omega
 have ayh:¬l>c:=by omega
 simp[Instr.makeSlice,run_underlying ht,typeInfo,sizeOf,hi,e1,e2,hl0,hc0,ayh,abR,zeroValue,hz,newRow,asInt,asIntOf];have nz:Builtin.zeroCells z.cells c.toNat=(Array.range (c.toNat*i.size)).map λx=>z.cells[x%z.cells.size]! :=by simp[Builtin.zeroCells,hzs]
 rw[nz];by_cases h0:c.toNat*i.size=0;have hr:∀f:Nat->Value,Array.map f (Array.range 0)= #[]:=λf=>by simp
 rw[if_pos h0,h0,hr,hr];rw[if_neg h0]
theorem xZ{t:TypeId}{l c:AV}{vl vc:Value}{q:bP}(h:(p6 P t l c).eval H=some q)(hn:bE q.ab)(hs:Sat ρ H G w)(hl:ag ρ H (bg ρ H G) w l vl)(hc:ag ρ H (bg ρ H G) w c vc)
 {base:Nat} (hb:∀i,i<q.new.length->H (base+i)=none):∃v w',(Instr.makeSlice t vl vc).run P w=.ok v w'/\Good ρ H G w (dc H q.up base q.new) (q.r base) v w':=by
 unfold p6 at h;split at h;rename_i e k lit l k' azQ c ht h1 h2;obtain rfl:=cp h1 hl;obtain rfl:=cp h2 hc;split at h;rename_i i hi;rw[cond_eq_ite]at h;split at h;rename_i hc;simp only[and_eq_true]at hc;have⟨⟨c1,c2⟩,c3⟩:=hc;have c1:=le_of_ble_eq_true c1;have c2:=le_of_ble_eq_true c2
 obtain⟨z,hz,hzf,hzs⟩:∃z,i.zero=some z/\gk (shapeOf P e) z.cells.toList=true/\z.cells.size=i.size:=by
  cases hz:i.zero with
  |none=>simp[hz]at c3|some z=>
   simp only[hz,Option.any_some,and_eq_true,beq_iff_eq]at c3;exact⟨z,rfl,c3.1,c3.2⟩
 simp only[RM.eval,Option.some.injEq]at h;subst h;have⟨n1,n2,n3,_⟩:=hn;have jA:H base=none:=by simpa using hb 0 (by simp)
 have⟨w1,⟨a1,a2,a3,a4⟩,iD⟩:=run_makeSlice (w:=w) (k:=k) (k':=k') ht hi hz hzs c1 c2 n1 n2 n3;refine⟨_,_,iD, ?_⟩;simp only[jd];have⟨y1,y2⟩:=kP (O:=bg ρ H G) (w:=w) hzf l.toNat;have:=l5 (shapeOf P e) l.toNat
 have key:=lZ (w1:=w1) (e:=e) (c:=dw (shapeOf P e) l.toNat) (cap:=c.toNat) hs a1 a2 a3 a4 jA (cells:=(Builtin.zeroCells z.cells c.toNat).toList) (by omega) (by simp only[maxLen];omega) (by
  rw[y1,length_toList,length_toList,size_zeroCells]
  exact le_refl _) (λi' j'=>(Builtin.zeroCells z.cells c.toNat).toList.getD (i'*(dw (shapeOf P e) l.toNat).size+j') undef) (λi' j' fh jJ=>by
   rw[this]at fh;rw[y1,length_toList]at jJ ⊢;have⟨u,e1,e2⟩:=y2 i' j' fh (by rw[length_toList];exact jJ);have hg:=lz (z:=z.cells) c.toNat (i:=i') (by omega) jJ;rw[e1]at hg;have:(Builtin.zeroCells z.cells c.toNat).toList.getD (i'*z.cells.size+j') undef=u:=by simp[List.getD,hg]
   rw[this];exact⟨hg,e2⟩)
 rw[this]at key;exact key (iR hzf _);cases h;cases h;cases h
end
end Go.Sx
