/- Lemmas: SxKind, SxBase, SxExec, SxPure, SxSat, SxMem, SxHeap, SxLoad, SxRead, SxSlice, SxStore, SxNew, SxBuild, SxBuild2, SxAppend, SxOver, SxAppend2, SxMap, SxMapOp, SxPart. -/
import Derived.WalkKit
import Derived.WalkSpells
import Derived.MapKept
import Derived.Carry
open Go.IntKind (i64 u64 u8)
open Array (length_toList toList_inj)
open Bool (and_eq_true cond_eq_ite not_eq_true')
open ByteArray (empty ext)
open List (all_cons all_eq_true append_assoc append_nil cons_append getElem?_append_left getElem?_append_right getElem?_eq_getElem getElem?_eq_none getElem?_map getElem?_set getElem?_take getElem_mem length_append length_cons length_drop length_map length_nil length_set length_take map_append map_cons map_nil mem_append mem_map mem_range mem_singleton nil_append nodup_append replicate take_of_length_le)
open Nat (add_assoc add_mul add_zero beq_eq le_of_ble_eq_true le_refl le_trans lt_or_ge zero_add zero_le)
open Option (bind_eq_some_iff getD_some isSome_iff_exists map_eq_some_iff map_some)
noncomputable section
namespace Go.Sx
open Go
inductive CK where
 |int (k:IntKind)|bool|str|ah (k:IntKind)|strs|bF|rows (cs:List CK)|arr (k:IntKind) (n:Nat)
mutual
def CK.V:CK->Type
 |.int _=>Int|.bool=>Bool|.str=>ByteArray|.ah _=>List Int|.strs=>List ByteArray|.bF=>List Bool|.rows cs=>List (CL cs)|.arr _ _=>List Int
def CL:List CK->Type
 |[]=>Unit|c::cs=>c.V×CL cs
end
def CK.d:(c:CK)->c.V
 |.int _=>(0:Int)|.bool=>false|.str=>empty|.ah _=>([]:List Int)|.strs=>([]:List ByteArray)|.bF=>([]:List Bool)|.rows cs=>([]:List (CL cs))|.arr _ n=>replicate n (0:Int)
def CL.d:(cs:List CK)->CL cs
 |[]=>()|c::cs=>(c.d,CL.d cs)
def CK.wide:CK->Nat
 |.arr _ n=>n|_=>1
def CL.wide:List CK->Nat
 |[]=>0|c::cs=>c.wide+CL.wide cs
def kEq(a b:IntKind):Option (PLift (a=b)):=if h:a=b then some ⟨h⟩else none
mutual
def CK.eq:(a b:CK)->Option (PLift (a=b))
 |.int k,.int k'=>(kEq k k').map λh=>⟨congrArg CK.int h.down⟩|.bool,.bool=>some ⟨rfl⟩|.str,.str=>some ⟨rfl⟩|.ah k,.ah k'=>(kEq k k').map λh=>⟨congrArg CK.ah h.down⟩|.strs,.strs=>some ⟨rfl⟩|.bF,.bF=>some ⟨rfl⟩|.rows a,.rows b=>(CL.eq a b).map λh=>⟨congrArg CK.rows h.down⟩|.arr k n,.arr k' n'=>if h:n=n' then(kEq k k').map λh'=>⟨by rw[h,h'.down]⟩else none
 |_,_=>none
def CL.eq:(a b:List CK)->Option (PLift (a=b))
 |[],[]=>some ⟨rfl⟩|a::aP,b::bs=>match CK.eq a b,CL.eq aP bs with
  |some h,some h'=>some ⟨by rw[h.down,h'.down]⟩
  |_,_=>none
 |_,_=>none
end
def acJ{a b:List CK}(h:PLift (a=b))(xs:List (CL a)):List (CL b):=h.down▸xs
def cp{V:Type}(m:List (Int×V))(k:Int):Option V:=(m.find? λp=>p.1==k).map (·.2)
def oe{V:Type}(m:List (Int×V))(k:Int):Bool:=m.any λp=>p.1==k
def mm{V:Type}(m:List (Int×V))(k:Int)(v:V):List (Int×V):=if oe m k=true then m.map λp=>if p.1==k then(k,v)else p else m++[(k,v)]
theorem zZ{a:List CK}(h:PLift (a=a))(xs:List (CL a)):acJ h xs=xs:=rfl
mutual
inductive SV where
 |aY|bool (b:Bool)|aI (b:Bool)|lI (n:Nat) (eq:Bool)|aa9 (k:IntKind)|int (k:IntKind) (n:Int)|aR (k:IntKind) (n:Int)|str (s:ByteArray)|jv|afu|afv|afw|qI|rH (f:FuncId)|ifi (t:TypeId) (k:IntKind) (n:Int)|ifs (t:TypeId) (s:ByteArray)|ifb (t:TypeId) (b:Bool)|raw (v:Value) (zs:List Int)|ro (c:aU)|rot (c:aU) (k:Nat)|nI (k:Nat)|qn (k:Nat)
inductive aU where
 |ah (k:IntKind) (zs:List Int)|strs (ss:List ByteArray)|bF (bs:List Bool)|au (cs:List CK) (xs:List (CL cs))|e9 (size n:Nat) (get:Nat->Nat->SV)
end
def aU.n:aU->Nat
 |.ah _ zs=>zs.length|.strs ss=>ss.length|.bF bs=>bs.length|.au _ xs=>xs.length|.e9 _ n _=>n
def aU.size:aU->Nat
 |.ah .. |.strs _|.bF _=>1|.au cs _=>CL.wide cs|.e9 s _ _=>s
def CK.cell:(c:CK)->c.V->Nat->SV
 |.int k,x,_=>.int k x|.bool,x,_=>.bool x|.str,x,_=>.str x|.ah k,x,_=>.ro (.ah k x)|.strs,x,_=>.ro (.strs x)|.bF,x,_=>.ro (.bF x)|.rows cs,x,_=>.ro (.au cs x)|.arr k _,x,j=>.int k (List.getD (α:=Int) x j 0)
def CL.cell:(cs:List CK)->CL cs->Nat->SV
 |[],_,_=>.aY|c::cs,x,j=>bif j.blt c.wide then c.cell x.1 j else CL.cell cs x.2 (j - c.wide)
def aU.cell:aU->Nat->Nat->SV
 |.ah k zs,i,_=>.int k (zs.getD i 0)|.strs ss,i,_=>.str (ss.getD i empty)|.bF bs,i,_=>.bool (bs.getD i false)|.au cs xs,i,j=>CL.cell cs (xs.getD i (CL.d cs)) j|.e9 _ _ get,i,j=>get i j
inductive AV where
 |s (v:SV)|ptr (id off:Nat)|kN (id off n i:Nat)|ke (c:aU) (i j:Nat)|vec (id:Nat)|gP (id i j:Nat)|part (id lo n:Nat)|sub (id off n:Nat)|lJ (id i j n:Nat)|emp|agg (ay:List AV)|ah (k:IntKind) (n:Nat) (ws:List Int)|bq (vs:List AV)|fn (f:FuncId) (dv:List AV)|z6 (f:FuncId) (first:List AV)
 |fv (id:Nat)|tag (id:Nat)
inductive ak where
 |aq (ay:List AV) (elem:TypeId)|vec (c:aU) (elem:TypeId)|map (ck:CK) (m:List (Int×ck.V))|ig (ck:CK) (m:List (Int×ck.V)) (gid:Nat)|iter (mid gid:Nat) (ck:CK) (left:List (Int×ck.V)) (cur:Option (Int×ck.V))|aw
abbrev aS:=Nat->Option ak
def ak.alive:ak->Bool
 |.aw=>false|_=>true
def eW:Value->Option Nat
 |.pointer (some a)=>some a.block|.slice (some a) _ cap=>if cap=0 then none else some a.block
 |.map (some b)=>some b|_=>none
def Own(ρ:Nat->Value)(H:aS)(b:Nat):Prop:=∃id o,H id=some o/\o.alive=true/\eW (ρ id)=some b
def aV(ρ:Nat->Value)(H:aS)(G:Nat->Prop)(b:Nat):Prop:=Own ρ H b\/G b
inductive aW (O:Nat->Prop) (w:World):SV->Value->Prop
 |aY (v:Value):v.oneCell'=true->aW O w .aY v|bool (b:Bool):aW O w (.bool b) (.bool b)|aI (b:Bool):aW O w (.aI b) (.bool b)|lI (n:Nat) (eq b:Bool):(b=eq->n=0)->aW O w (.lI n eq) (.bool b)|aa9 (k:IntKind) (n:Int):aW O w (.aa9 k) (.int k n)|int (k:IntKind) (n:Int):aW O w (.int k n) (.int k n)|aR (k:IntKind) (n:Int):aW O w (.aR k n) (.int k n)|str (s:ByteArray):aW O w (.str s) (.string s)|jv:aW O w .jv (.pointer none)|afu:aW O w .afu .nilIface|afv:aW O w .afv .nilFunc|afw:aW O w .afw (.map none)|qI:aW O w .qI (.slice none 0 0)|rH (f:FuncId):aW O w (.rH f) (.func (.func f) #[] #[])|ifi (t:TypeId) (k:IntKind) (n:Int):aW O w (.ifi t k n) (.iface t (.int k n))|ifs (t:TypeId) (s:ByteArray):aW O w (.ifs t s) (.iface t (.string s))|ifb (t:TypeId) (b:Bool):aW O w (.ifb t b) (.iface t (.bool b))|raw (v:Value) (zs:List Int):v.oneCell'=true->aW O w (.raw v zs) v|ro (c:aU) (a:Option Addr) (cap:Nat) (us:Nat->Nat->Value) (b o:Nat):c.n<=cap->cap<=maxLen->
  (0<c.n->a=some ⟨b,o,none⟩/\¬O b/\b<w.heap.size)->
  (∀i j,i<c.n->j<c.size->w.cell? ⟨b,o+i*c.size+j,none⟩=some (us i j))->
  (∀i j,i<c.n->j<c.size->aW O w (c.cell i j) (us i j))->aW O w (.ro c) (.slice a c.n cap)
 |rot (c:aU) (k:Nat) (a:Option Addr) (n cap:Nat):aW O w (.ro c) (.slice a n cap)->cap<k->aW O w (.rot c k) (.slice a n cap)|nI (k:Nat) (n:Int):(k:Int)<=n->aW O w (.nI k) (.int .i64 n)|qn (k:Nat) (n:Int):n<(k:Int)->aW O w (.qn k) (.int .i64 n)
mutual
def aN(ρ:Nat->Value)(H:aS)(O:Nat->Prop)(w:World):AV->Value->Prop
 |.s x,v=>aW O w x v|.ptr id off,v=>∃b,ρ id=.pointer (some ⟨b,0,none⟩)/\v=.pointer (some ⟨b,off,none⟩)/\(H id).isSome=true|.kN id off n i,v=>i<n/\∃b,ρ id=.pointer (some ⟨b,0,none⟩)/\v=.pointer (some ⟨b,off+i,none⟩)/\(H id).isSome=true|.ke c i j,v=>∃(b o:Nat) (us:Nat->Value),v=.pointer (some ⟨b,o+j,none⟩)/\¬O b/\b<w.heap.size/\
  (∀l,l<c.size->w.cell? ⟨b,o+l,none⟩=some (us l)/\aW O w (c.cell i l) (us l))
 |.vec id,v=>v.oneCell'=true/\∃o,H id=some o/\∀c e,o=.vec c e->v=ρ id|.gP id i j,v=>v.oneCell'=true/\∃o,H id=some o/\∀c e,o=.vec c e->i<c.n/\j<c.size/\
  ∃b f n cap,ρ id=.slice (some ⟨b,f,none⟩) n cap/\v=.pointer (some ⟨b,f+i*c.size+j,none⟩)
 |.part id lo n,v=>v.oneCell'=true/\∃o,H id=some o/\∀c e,o=.vec c e->lo+n<=c.n/\
  ∃a cap a',ρ id=.slice a c.n cap/\c.n<=cap/\v=.slice a' n (cap - lo)/\(cap≠lo->a'=a.map (·.add (lo*c.size)))
 |.sub id off n,v=>v.oneCell'=true/\∃b a cap,ρ id=.pointer (some ⟨b,0,none⟩)/\v=.slice a n cap/\(n≠0->a=some ⟨b,off,none⟩)/\(H id).isSome=true|.lJ id i j n,v=>v.oneCell'=true/\∃o,H id=some o/\∀c e,o=.vec c e->i<c.n/\j+n<=c.size/\
  ∃b f n' cap a ajo,ρ id=.slice (some ⟨b,f,none⟩) n' cap/\v=.slice a n ajo/\(n≠0->a=some ⟨b,f+i*c.size+j,none⟩)
 |.emp,v=>∃a,v=.slice a 0 0|.fn f dv,v=>∃vs:List Value,v=.func (.func f) #[] vs.toArray/\bL ρ H O w dv vs|.z6 f first,v=>∃vs:List Value,v=.func (.func f) vs.toArray #[]/\bL ρ H O w first vs
 |.agg _,_=>False|.ah _ _ _,_=>False|.bq _,_=>False|.fv id,v=>∃b,ρ id=.map (some b)/\v=.map (some b)/\(H id).isSome=true|.tag id,v=>v=ρ id/\v.oneCell'=true/\(H id).isSome=true
def bL(ρ:Nat->Value)(H:aS)(O:Nat->Prop)(w:World):List AV->List Value->Prop
 |[],vs=>vs=[]|a::aP,vs=>∃v rest,vs=v::rest/\af ρ H O w a v/\bL ρ H O w aP rest
def az(ρ:Nat->Value)(H:aS)(O:Nat->Prop)(w:World):List AV->List Value->Prop
 |[],cs=>cs=[]|a::aP,cs=>∃c1 c2,cs=c1++c2/\aQ ρ H O w a c1/\az ρ H O w aP c2
def aQ(ρ:Nat->Value)(H:aS)(O:Nat->Prop)(w:World):AV->List Value->Prop
 |.agg _,_=>False|.ah k n ws,cs=>ws.length=n/\cs=ws.map (Value.int k)|.s x,cs=>∃u,cs=[u]/\aW O w x u|.ptr id off,cs=>∃u,cs=[u]/\aN ρ H O w (.ptr id off) u|.kN id off n i,cs=>∃u,cs=[u]/\aN ρ H O w (.kN id off n i) u|.ke c i j,cs=>∃u,cs=[u]/\aN ρ H O w (.ke c i j) u|.vec id,cs=>∃u,cs=[u]/\aN ρ H O w (.vec id) u|.gP id i j,cs=>∃u,cs=[u]/\aN ρ H O w (.gP id i j) u|.part id lo n,cs=>∃u,cs=[u]/\aN ρ H O w (.part id lo n) u|.sub id off n,cs=>∃u,cs=[u]/\aN ρ H O w (.sub id off n) u|.lJ id i j n,cs=>∃u,cs=[u]/\aN ρ H O w (.lJ id i j n) u|.emp,cs=>∃u,cs=[u]/\∃a,u=.slice a 0 0|.fn f dv,cs=>∃u,cs=[u]/\∃vs:List Value,u=.func (.func f) #[] vs.toArray/\bL ρ H O w dv vs|.z6 f first,cs=>∃u,cs=[u]/\∃vs:List Value,u=.func (.func f) vs.toArray #[]/\bL ρ H O w first vs
 |.bq _,_=>False|.fv id,cs=>∃u,cs=[u]/\aN ρ H O w (.fv id) u|.tag id,cs=>∃u,cs=[u]/\aN ρ H O w (.tag id) u
def af(ρ:Nat->Value)(H:aS)(O:Nat->Prop)(w:World):AV->Value->Prop
 |.agg ay,v=>∃cs:List Value,v=.agg cs.toArray/\az ρ H O w ay cs|.ah k n ws,v=>ws.length=n/\v=.agg (ws.map (Value.int k)).toArray|.bq vs,v=>∃us:List Value,v=.tuple us.toArray/\bL ρ H O w vs us|.s .aY,_=>True|.s x,v=>aW O w x v|.ptr id off,v=>aN ρ H O w (.ptr id off) v|.kN id off n i,v=>aN ρ H O w (.kN id off n i) v|.ke c m j,v=>aN ρ H O w (.ke c m j) v|.vec id,v=>aN ρ H O w (.vec id) v|.gP id i j,v=>aN ρ H O w (.gP id i j) v|.part id lo n,v=>aN ρ H O w (.part id lo n) v|.sub id off n,v=>aN ρ H O w (.sub id off n) v|.lJ id i j n,v=>aN ρ H O w (.lJ id i j n) v|.emp,v=>∃a,v=.slice a 0 0|.fn f dv,v=>∃vs:List Value,v=.func (.func f) #[] vs.toArray/\bL ρ H O w dv vs|.z6 f first,v=>∃vs:List Value,v=.func (.func f) vs.toArray #[]/\bL ρ H O w first vs
 |.fv id,v=>aN ρ H O w (.fv id) v|.tag id,v=>aN ρ H O w (.tag id) v
end
theorem aW.one{O:Nat->Prop}{w:World}{x:SV}{v:Value}(h:aW O w x v):v.oneCell'=true:=by
 cases h<;>first|rfl|assumption
structure Step (ρ:Nat->Value) (H:aS) (O:Nat->Prop) (w:World) (aL:Nat->Value) (H':aS) (O':Nat->Prop) (w':World):Prop where
 wR:∀id o,H id=some o->aL id=ρ id
 keep:∀id o,H id=some o->∃o',H' id=some o'/\∀c' e',o'=.vec c' e'->∃c e,o=.vec c e/\c'.n=c.n/\c'.size=c.size
 gq:∀b,O' b->O b\/w.heap.size<=b
 heap:∀b,b<w.heap.size->¬O b->w'.heap[b]? =w.heap[b]?
 size:w.heap.size<=w'.heap.size
theorem Step.refl(ρ:Nat->Value)(H:aS)(O:Nat->Prop)(w:World):Step ρ H O w ρ H O w:=
 ⟨λ_ _ _=>rfl,λ_ o h=>⟨o,h,λc' e' e=>⟨c',e',e,rfl,rfl⟩⟩,λ_ h=>.inl h,λ_ _ _=>rfl,le_refl _⟩
theorem m9{w w':World}{b o:Nat}(h:w'.heap[b]? =w.heap[b]?):w'.cell? ⟨b,o,none⟩=w.cell? ⟨b,o,none⟩:=by
 simp[World.cell?,h]
section
variable{ρ aL:Nat->Value}{H H':aS}{O O':Nat->Prop}{w w':World}
theorem Step.trans{awt:Nat->Value}{H'':aS}{O'':Nat->Prop}{w'':World}(h:Step ρ H O w aL H' O' w')(k:Step aL H' O' w' awt H'' O'' w'')
 :Step ρ H O w awt H'' O'' w'':=by
 refine⟨λid o ho=> ?_,λid o ho=> ?_,λb hb=> ?_,λb hb hO=> ?_,le_trans h.size k.size⟩;have⟨o',dH,_⟩:=h.keep id o ho;rw[k.wR id o' dH,h.wR id o ho];have⟨o',dH,q⟩:=h.keep id o ho;have⟨o'',azc,q'⟩:=k.keep id o' dH;refine⟨o'',azc,λc e hc=> ?_⟩;have⟨c1,e1,h1,n1,s1⟩:=q' c e hc;have⟨c2,e2,h2,n2,s2⟩:=q c1 e1 h1;exact⟨c2,e2,h2,n1.trans n2,s1.trans s2⟩;rcases k.gq b hb with h1|h1;exact h.gq b h1;exact .inr (le_trans h.size h1);have azd:¬O' b:=λh1=>by rcases h.gq b h1 with h2|h2<;>first|exact hO h2|omega
 rw[k.heap b (by have:=h.size;omega) azd,h.heap b hb hO]
theorem aW.step(gq:∀b,O' b->O b\/w.heap.size<=b)(heap:∀b,b<w.heap.size->¬O b->w'.heap[b]? =w.heap[b]?)
 (size:w.heap.size<=w'.heap.size) {x:SV} {v:Value} (h:aW O w x v):aW O' w' x v:=by
 induction h with
 |aY v hv=>exact .aY v hv|bool b=>exact .bool b|aI b=>exact .aI b|lI n eq b hb=>exact .lI n eq b hb|aa9 k n=>exact .aa9 k n|int k n=>exact .int k n|aR k n=>exact .aR k n|str s=>exact .str s|jv=>exact .jv|afu=>exact .afu|afv=>exact .afv|afw=>exact .afw|qI=>exact .qI|rH f=>exact .rH f|ifi t k n=>exact .ifi t k n|ifs t s=>exact .ifs t s|ifb t b=>exact .ifb t b|raw v zs h=>exact .raw v zs h|rot c k a n cap _ hk ih=>exact .rot c k a n cap ih hk|nI k n h=>exact .nI k n h|qn k n h=>exact .qn k n h|ro c a cap us b o hn hm hb hc _ ih=>
  refine .ro c a cap us b o hn hm (λh0=> ?_) (λi j hi hj=> ?_) ih;have⟨e,h1,h2⟩:=hb h0;exact⟨e,λh3=>by rcases gq b h3 with h4|h4<;>first|exact h1 h4|omega,by omega⟩;have⟨_,h1,h2⟩:=hb (by omega);rw[m9 (heap b h2 h1)];exact hc i j hi hj
mutual
theorem aN.step(st:Step ρ H O w aL H' O' w'):∀(x:AV) (v:Value),aN ρ H O w x v->aN aL H' O' w' x v
 |.s x,v,h=>by unfold aN at *;exact h.step st.gq st.heap st.size
 |.ptr id off,v,h=>by
  unfold aN at *;have⟨b,h1,h2,h3⟩:=h;have⟨o,ho⟩:=isSome_iff_exists.1 h3;have⟨o',dH,_⟩:=st.keep id o ho;exact⟨b,by rw[st.wR id o ho,h1],h2,by rw[dH];rfl⟩
 |.kN id off n i,v,h=>by
  unfold aN at *;have⟨hi,b,h1,h2,h3⟩:=h;have⟨o,ho⟩:=isSome_iff_exists.1 h3;have⟨o',dH,_⟩:=st.keep id o ho;exact⟨hi,b,by rw[st.wR id o ho,h1],h2,by rw[dH];rfl⟩
 |.ke c m j,v,h=>by
  unfold aN at *;have⟨b,o,us,h1,h2,h3,h4⟩:=h;refine⟨b,o,us,h1,λh5=> ?_,by have:=st.size;omega,λi hi=> ?_⟩;rcases st.gq b h5 with h6|h6<;>first|exact h2 h6|omega
  have⟨h5,h6⟩:=h4 i hi;exact⟨by rw[m9 (st.heap b h3 h2)];exact h5,h6.step st.gq st.heap st.size⟩
 |.vec id,v,h=>by
  unfold aN at *;have⟨h0,o,ho,h1⟩:=h;have⟨o',dH,h2⟩:=st.keep id o ho;refine⟨h0,o',dH,λc e hc=> ?_⟩;have⟨c1,e1,h3,_,_⟩:=h2 c e hc;rw[st.wR id o ho];exact h1 c1 e1 h3
 |.gP id i j,v,h=>by
  unfold aN at *;have⟨h0,o,ho,h1⟩:=h;have⟨o',dH,h2⟩:=st.keep id o ho;refine⟨h0,o',dH,λc e hc=> ?_⟩;have⟨c1,e1,h3,hn,hs⟩:=h2 c e hc;rw[st.wR id o ho,hn,hs];exact h1 c1 e1 h3
 |.part id lo n,v,h=>by
  unfold aN at *;have⟨h0,o,ho,h1⟩:=h;have⟨o',dH,h2⟩:=st.keep id o ho;refine⟨h0,o',dH,λc e hc=> ?_⟩;have⟨c1,e1,h3,hn,hs⟩:=h2 c e hc;rw[st.wR id o ho,hn,hs];exact h1 c1 e1 h3
 |.sub id off n,v,h=>by
  unfold aN at *;have⟨h0,b,a,cap,h1,h2,h4,h3⟩:=h;have⟨o,ho⟩:=isSome_iff_exists.1 h3;have⟨o',dH,_⟩:=st.keep id o ho;exact⟨h0,b,a,cap,by rw[st.wR id o ho,h1],h2,h4,by rw[dH];rfl⟩
 |.lJ id i j n,v,h=>by
  unfold aN at *;have⟨h0,o,ho,h1⟩:=h;have⟨o',dH,h2⟩:=st.keep id o ho;refine⟨h0,o',dH,λc e hc=> ?_⟩;have⟨c1,e1,h3,hn,hs⟩:=h2 c e hc;rw[st.wR id o ho,hn,hs];exact h1 c1 e1 h3
 |.emp,v,h=>by unfold aN at *;exact h
 |.fn f dv,v,h=>by
  unfold aN at *;have⟨vs,h1,h2⟩:=h;exact⟨vs,h1,bL.step st dv vs h2⟩
 |.z6 f dv,v,h=>by
  unfold aN at *;have⟨vs,h1,h2⟩:=h;exact⟨vs,h1,bL.step st dv vs h2⟩
 |.agg _,v,h=>by unfold aN at h;exact h.elim
 |.ah _ _ _,v,h=>by unfold aN at h;exact h.elim
 |.bq _,v,h=>by unfold aN at h;exact h.elim
 |.fv id,v,h=>by
  unfold aN at *;have⟨b,h1,h2,h3⟩:=h;have⟨o,ho⟩:=isSome_iff_exists.1 h3;have⟨o',dH,_⟩:=st.keep id o ho;exact⟨b,by rw[st.wR id o ho,h1],h2,by rw[dH];rfl⟩
 |.tag id,v,h=>by
  unfold aN at *;have⟨h1,h2,h3⟩:=h;have⟨o,ho⟩:=isSome_iff_exists.1 h3;have⟨o',dH,_⟩:=st.keep id o ho;exact⟨by rw[st.wR id o ho,h1],h2,by rw[dH];rfl⟩
theorem bL.step(st:Step ρ H O w aL H' O' w'):∀(xs:List AV) (vs:List Value),bL ρ H O w xs vs->bL aL H' O' w' xs vs
 |[],vs,h=>by unfold bL at *;exact h
 |a::aP,vs,h=>by
  unfold bL at *;have⟨v,rest,h1,h2,h3⟩:=h;exact⟨v,rest,h1,af.step st a v h2,bL.step st aP rest h3⟩
theorem az.step(st:Step ρ H O w aL H' O' w'):∀(xs:List AV) (cs:List Value),az ρ H O w xs cs->az aL H' O' w' xs cs
 |[],vs,h=>by unfold az at *;exact h
 |a::aP,vs,h=>by
  unfold az at *;have⟨c1,c2,h1,h2,h3⟩:=h;exact⟨c1,c2,h1,aQ.step st a c1 h2,az.step st aP c2 h3⟩
theorem aQ.step(st:Step ρ H O w aL H' O' w'):∀(x:AV) (cs:List Value),aQ ρ H O w x cs->aQ aL H' O' w' x cs
 |.agg _,cs,h=>by unfold aQ at h;exact h.elim
 |.ah _ _ _,cs,h=>by unfold aQ at *;exact h
 |.s x,cs,h=>by unfold aQ at *;have⟨u,h1,h2⟩:=h;exact⟨u,h1,h2.step st.gq st.heap st.size⟩
 |.ptr id off,cs,h=>by unfold aQ at *;have⟨u,h1,h2⟩:=h;exact⟨u,h1,aN.step st (.ptr id off) u h2⟩
 |.kN id off n i,cs,h=>by unfold aQ at *;have⟨u,h1,h2⟩:=h;exact⟨u,h1,aN.step st (.kN id off n i) u h2⟩
 |.ke c m j,cs,h=>by unfold aQ at *;have⟨u,h1,h2⟩:=h;exact⟨u,h1,aN.step st (.ke c m j) u h2⟩
 |.vec id,cs,h=>by unfold aQ at *;have⟨u,h1,h2⟩:=h;exact⟨u,h1,aN.step st (.vec id) u h2⟩
 |.gP id i j,cs,h=>by unfold aQ at *;have⟨u,h1,h2⟩:=h;exact⟨u,h1,aN.step st (.gP id i j) u h2⟩
 |.part id lo n,cs,h=>by unfold aQ at *;have⟨u,h1,h2⟩:=h;exact⟨u,h1,aN.step st (.part id lo n) u h2⟩
 |.sub id off n,cs,h=>by unfold aQ at *;have⟨u,h1,h2⟩:=h;exact⟨u,h1,aN.step st (.sub id off n) u h2⟩
 |.lJ id i j n,cs,h=>by unfold aQ at *;have⟨u,h1,h2⟩:=h;exact⟨u,h1,aN.step st (.lJ id i j n) u h2⟩
 |.emp,cs,h=>by unfold aQ at *;exact h
 |.fn f dv,cs,h=>by
  unfold aQ at *;have⟨u,h1,vs,h2,h3⟩:=h;exact⟨u,h1,vs,h2,bL.step st dv vs h3⟩
 |.z6 f dv,cs,h=>by
  unfold aQ at *;have⟨u,h1,vs,h2,h3⟩:=h;exact⟨u,h1,vs,h2,bL.step st dv vs h3⟩
 |.bq _,cs,h=>by unfold aQ at h;exact h.elim
 |.fv id,cs,h=>by unfold aQ at *;have⟨u,h1,h2⟩:=h;exact⟨u,h1,aN.step st (.fv id) u h2⟩
 |.tag id,cs,h=>by unfold aQ at *;have⟨u,h1,h2⟩:=h;exact⟨u,h1,aN.step st (.tag id) u h2⟩
theorem af.step(st:Step ρ H O w aL H' O' w'):∀(x:AV) (v:Value),af ρ H O w x v->af aL H' O' w' x v
 |.agg ay,v,h=>by unfold af at *;have⟨cs,h1,h2⟩:=h;exact⟨cs,h1,az.step st ay cs h2⟩
 |.ah _ _ _,v,h=>by unfold af at *;exact h
 |.bq vs,v,h=>by unfold af at *;have⟨us,h1,h2⟩:=h;exact⟨us,h1,bL.step st vs us h2⟩
 |.s .aY,v,h=>by unfold af;trivial
 |.s (.bool b),v,h=>by unfold af at *;exact h.step st.gq st.heap st.size
 |.s (.aI b),v,h=>by unfold af at *;exact h.step st.gq st.heap st.size
 |.s (.lI _ _),v,h=>by unfold af at *;exact h.step st.gq st.heap st.size
 |.s (.aa9 k),v,h=>by unfold af at *;exact h.step st.gq st.heap st.size
 |.s (.int k n),v,h=>by unfold af at *;exact h.step st.gq st.heap st.size
 |.s (.aR k n),v,h=>by unfold af at *;exact h.step st.gq st.heap st.size
 |.s (.str b),v,h=>by unfold af at *;exact h.step st.gq st.heap st.size
 |.s .jv,v,h=>by unfold af at *;exact h.step st.gq st.heap st.size
 |.s .afu,v,h=>by unfold af at *;exact h.step st.gq st.heap st.size
 |.s .afv,v,h=>by unfold af at *;exact h.step st.gq st.heap st.size
 |.s .afw,v,h=>by unfold af at *;exact h.step st.gq st.heap st.size
 |.s .qI,v,h=>by unfold af at *;exact h.step st.gq st.heap st.size
 |.s (.rH b),v,h=>by unfold af at *;exact h.step st.gq st.heap st.size
 |.s (.ifi _ _ _),v,h=>by unfold af at *;exact h.step st.gq st.heap st.size
 |.s (.ifs _ _),v,h=>by unfold af at *;exact h.step st.gq st.heap st.size
 |.s (.ifb _ _),v,h=>by unfold af at *;exact h.step st.gq st.heap st.size
 |.s (.raw _ _),v,h=>by unfold af at *;exact h.step st.gq st.heap st.size
 |.s (.ro b),v,h=>by unfold af at *;exact h.step st.gq st.heap st.size
 |.s (.rot _ _),v,h=>by unfold af at *;exact h.step st.gq st.heap st.size
 |.s (.nI _),v,h=>by unfold af at *;exact h.step st.gq st.heap st.size
 |.s (.qn _),v,h=>by unfold af at *;exact h.step st.gq st.heap st.size
 |.ptr id off,v,h=>by unfold af at *;exact aN.step st (.ptr id off) v h
 |.kN id off n i,v,h=>by unfold af at *;exact aN.step st (.kN id off n i) v h
 |.ke c m j,v,h=>by unfold af at *;exact aN.step st (.ke c m j) v h
 |.vec id,v,h=>by unfold af at *;exact aN.step st (.vec id) v h
 |.gP id i j,v,h=>by unfold af at *;exact aN.step st (.gP id i j) v h
 |.part id lo n,v,h=>by unfold af at *;exact aN.step st (.part id lo n) v h
 |.sub id off n,v,h=>by unfold af at *;exact aN.step st (.sub id off n) v h
 |.lJ id i j n,v,h=>by unfold af at *;exact aN.step st (.lJ id i j n) v h
 |.emp,v,h=>by unfold af at *;exact h
 |.fn f dv,v,h=>by
  unfold af at *;have⟨vs,h2,h3⟩:=h;exact⟨vs,h2,bL.step st dv vs h3⟩
 |.z6 f dv,v,h=>by
  unfold af at *;have⟨vs,h2,h3⟩:=h;exact⟨vs,h2,bL.step st dv vs h3⟩
 |.fv id,v,h=>by unfold af at *;exact aN.step st (.fv id) v h
 |.tag id,v,h=>by unfold af at *;exact aN.step st (.tag id) v h
end
end
inductive RM (α:Type)where
 |ret (a:α)|look (id:Nat) (k:Option ak->RM α)|fail (why:String)
def RM.eval{α:Type}(H:aS):RM α->Option α
 |.ret a=>some a|.look id k=>(k (H id)).eval H|.fail _=>none
def RM.ids{α:Type}(H:aS):RM α->List Nat
 |.ret _=>[]|.look id k=>id::(k (H id)).ids H|.fail _=>[]
def RM.why{α:Type}(H:aS):RM α->String
 |.ret _=> ""|.look _ k=>(k (H id)).why H|.fail w=>w
where id:Nat:=0
structure bQ where
 ab:List Prop
 up:List (Nat×ak)
 new:List ak
 r:Nat->AV
def plain(ab:List Prop)(r:AV):RM bQ:=.ret ⟨ab,[],[],λ_=>r⟩
def qJ(why:String):Option (List Prop×AV)->RM bQ
 |some (ab,r)=>plain ab r|none=>.fail why
def aA(n:Int):Prop:= -9223372036854775808<=n/\n<=9223372036854775807
def bT:IntKind->IntKind->Bool
 |.i8,.i8|.i16,.i16|.i32,.i32|.i64,.i64|.u8,.u8|.u16,.u16|.u32,.u32|.u64,.u64=>true|_,_=>false
def qo:IntKind->Bool
 |.i64=>true|_=>false
def bE(op:BinOp)(k:IntKind)(x y:Int):Int:=
 let a:=BitVec.ofInt k.bits x;let b:=BitVec.ofInt k.bits y
 match op with
 |.and=>k.wrap (a &&& b).toNat|.or=>k.wrap (a ||| b).toNat|.xor=>k.wrap (a ^^^ b).toNat|_=>k.wrap (a &&& ~~~b).toNat
def mkInt(lit:Bool)(k:IntKind)(n:Int):AV:=.s (if lit then .aR k n else .int k n)
def l7(lit:Bool)(b:Bool):AV:=.s (if lit then .aI b else .bool b)
def og(lit:Bool)(k:IntKind)(n:Int):List Prop×AV:=
 bif lit then([],.s (.aR k (k.wrap n)))
 else bif qo k then([aA n],.s (.int k n))else([],.s (.int k (k.wrap n)))
def wT(op:BinOp)(k:IntKind)(lx ly:Bool)(x y:Int):Option (List Prop×AV):=
 let lit:=lx&&ly
 match op with
 |.add=>some (og lit k (x+y))|.sub=>some (og lit k (x - y))|.mul=>some (og lit k (x*y))|.quo=>some (bif lit then([y≠0],.s (.aR k (k.wrap (x.tdiv y))))else bif qo k then([y≠0,aA (x.tdiv y)],.s (.int k (x.tdiv y)))else([y≠0],.s (.int k (k.wrap (x.tdiv y)))))|.rem=>some ([y≠0],mkInt lit k (x.tmod y))|.and|.or|.xor|.andNot=>some ([],mkInt lit k (bE op k x y))|.eql=>some ([],l7 lit (x==y))|.neq=>some ([],l7 lit (x !=y))|.lss=>some ([],l7 lit (decide (x<y)))|.leq=>some ([],l7 lit (decide (x<=y)))|.gtr=>some ([],l7 lit (decide (x>y)))|.geq=>some ([],l7 lit (decide (x>=y)))|_=>none
def afx(op:BinOp)(k:IntKind)(lit:Bool)(x y:Int):Option (List Prop×AV):=
 match op with
 |.shl=>some ([0<=y],mkInt lit k (k.wrap (x*2^(min y.toNat k.bits))))|.shr=>some ([0<=y],mkInt lit k (x.fdiv (2^(min y.toNat k.bits))))|_=>none
def slt(x y:ByteArray):Bool:=Op.bytesLess x.data.toList y.data.toList
def afy(op:BinOp)(x y:ByteArray):Option (List Prop×AV):=
 match op with
 |.add=>some ([x.size+y.size<=4611686018427387904],.s (.str (x++y)))|.eql=>some ([],.s (.bool (decide (x=y))))|.neq=>some ([],.s (.bool (!decide (x=y))))|.lss=>some ([],.s (.bool (slt x y)))|.leq=>some ([],.s (.bool (slt x y||decide (x=y))))|.gtr=>some ([],.s (.bool !(slt x y||decide (x=y))))|.geq=>some ([],.s (.bool !(slt x y)))|_=>none
def AV.cC :AV->Option (IntKind×Bool×Int)
 |.s (.int k n)=>some (k,false,n)|.s (.aR k n)=>some (k,true,n)|_=>none
def AV.fM :AV->Option (Bool×Bool)
 |.s (.bool b)=>some (false,b)|.s (.aI b)=>some (true,b)|_=>none
def unR(op:UnOp)(x:AV):Option (List Prop×AV):=
 match op,x with
 |.not,.s (.bool b)=>some ([],.s (.bool !b))|.not,.s (.aI b)=>some ([],.s (.aI !b))|.neg,.s (.int k n)=>some (og false k (0 - n))|.neg,.s (.aR k n)=>some (og true k (0 - n))|_,_=>none
def ak6(c a b:AV):Option (List Prop×AV):=
 match c with
 |.s (.aI true)=>some ([],a)|.s (.aI false)=>some ([],b)|.s (.bool c)=>
  match a.fM,b.fM with
  |some (_,x),some (_,y)=>some ([],.s (.bool (bif c then x else y)))|_,_=>
   match a.cC,b.cC with
   |some (k,_,x),some (k',_,y)=>bif bT k k' then some ([],.s (.int k (bif c then x else y)))else none|_,_=>none
 |_=>none
def dX(P:Program)(t:TypeId):Option Nat:=(P.info? t).map (·.size)
def ir(P:Program)(t:TypeId):Option Bool:=
 match P.underlying t with
 |some (.struct _)|some (.array _ _)=>some true|some _=>some false|none=>none
def kindOf(P:Program)(t:TypeId):Option IntKind:=
 match P.underlying t with
 |some (.int k)=>some k|_=>none
def AV.wide:AV->Nat
 |.ah _ n _=>n|_=>1
def fN:List AV->Nat->Option (List AV)
 |ay,0=>some ay|[],_+1=>none|a::aP,n+1=>bif a.wide.ble (n+1)then fN aP (n+1 - a.wide)else none
def fO:List AV->Nat->Option (List AV)
 |_,0=>some []|[],_+1=>none|a::aP,n+1=>bif a.wide.ble (n+1)&&(1:Nat).ble a.wide then(fO aP (n+1 - a.wide)).map (a:: ·)else none
def cellAt:List AV->Nat->Option AV
 |[],_=>none|.ah k n ws::aP,off=>bif off.blt n then some (.s (.int k (ws.getD off 0)))else cellAt aP (off - n)|a::_,0=>some a|_::aP,off+1=>cellAt aP off
def gU:List AV->Nat->AV->Option (List AV)
 |[],_,_=>none|.ah k n ws::aP,off,v=>bif off.blt n then
  (match v.cC with
   |some (k',_,x)=>bif bT k k' then some (.ah k n (ws.set off x)::aP)else none|none=>none)
  else(gU aP (off - n) v).map (.ah k n ws:: ·)
 |_::aP,0,v=>some (v::aP)|a::aP,off+1,v=>(gU aP off v).map (a:: ·)
def jR:List AV->Nat->Option (IntKind×Nat×List Int)
 |.ah k n ws::aP,off=>bif off.beq 0 then some (k,n,ws)else bif off.blt n then none else jR aP (off - n)|_::aP,off+1=>jR aP off|_,_=>none
def kO:List AV->Nat->List Int->Option (List AV)
 |.ah k n ws::aP,off,nS=>bif off.beq 0 then some (.ah k n nS::aP)else bif off.blt n then none else(kO aP (off - n) nS).map (.ah k n ws:: ·)|a::aP,off+1,nS=>(kO aP off nS).map (a:: ·)|_,_,_=>none
def AV.single:AV->Bool
 |.s .aY|.agg _|.ah _ _ _|.bq _=>false|_=>true
def AV.jX :AV->Option (List AV)
 |.agg ay=>some ay|.ah k n ws=>some [.ah k n ws]|.bq _|.s .aY=>none|a=>some [a]
def AV.l8:List AV->AV
 |[.ah k n ws]=>.ah k n ws|ay=>.agg ay
def gr:List AV->Nat
 |[]=>0|a::aP=>a.wide+gr aP
def afz(ay:List AV)(off:Nat)(jY:List AV):Option (List AV):=
 match ay,jY with
 |[.ah k n ws],[x]=>match x.cC with
  |some (k',_,z)=>bif bT k k'&&off.blt n then some [.ah k n (ws.set off z)]else none|none=>none
 |_,_=>none
def v8(ay:List AV)(off:Nat)(jY:List AV):Option (List AV):=
 match afz ay off jY with
 |some r=>some r|none=>
 match fO ay off,fN ay (off+gr jY)with
 |some pre,some post=>some (pre++jY++post)|_,_=>none
def ajp(P:Program)(rec:TypeId->List AV->List AV->Option Bool):List Field->List AV->List AV->Option Bool
 |[],_,_=>some true|f::fs,xs,ys=>bif f.name== "_" then ajp P rec fs xs ys else
  match dX P f.type,ir P f.type with
  |some sz,some zo=>bif zo||sz.beq 1 then(match(fN xs f.offset).bind (fO · sz),(fN ys f.offset).bind (fO · sz)with
   |some a,some b=>(match rec f.type a b,ajp P rec fs xs ys with
    |some p,some q=>some (p&&q)|_,_=>none)
   |_,_=>none)else none
  |_,_=>none
def eqC(P:Program):Nat->TypeId->List AV->List AV->Option Bool
 |0,_,_,_=>none|d+1,t,xs,ys=>
  match P.underlying t with
  |some (.int _)=>(match xs,ys with
   |[x],[y]=>(match x.cC,y.cC with
    |some (k,_,a),some (k',_,b)=>bif bT k k' then some (a==b)else none|_,_=>none)
   |_,_=>none)
  |some .bool=>(match xs,ys with
   |[x],[y]=>(match x.fM,y.fM with
    |some (_,a),some (_,b)=>some (a==b)|_,_=>none)
   |_,_=>none)
  |some .string=>(match xs,ys with
   |[.s (.str a)],[.s (.str b)]=>some (decide (a=b))|_,_=>none)
  |some (.array n e)=>(match xs,ys with
   |[.ah k m ws],[.ah k' m' nS]=>
    (match P.underlying e with
     |some (.int k'')=>bif (1:Nat).ble d&&bT k k'&&bT k k''&&n==m&&m==m'&&(P.info? e).any (λi=>i.size==1)then some (decide (ws=nS))else none|_=>none)
   |_,_=>none)
  |some (.struct fs)=>bif P.stoodInHeld t then none else ajp P (eqC P d) fs.toList xs ys|_=>none
def ak7(P:Program)(t:TypeId):Bool:=match P.underlying t with|some (.int _)=>true|_=>false
def ak8(P:Program)(t:TypeId):Bool:=match P.underlying t with|some .string=>true|_=>false
def ahi(P:Program)(t:TypeId):Bool:=match P.underlying t with|some .bool=>true|_=>false
def ak9(P:Program):AV->AV->Option Bool
 |.s (.ifi t k n),.s (.ifi t' k' n')=>bif t.beq t'&&bT k k'&&(P.info? t).any (·.comparable)&&ak7 P t then some (n==n')else none|.s (.ifs t s),.s (.ifs t' s')=>bif t.beq t'&&(P.info? t).any (·.comparable)&&ak8 P t then some (decide (s=s'))else none|.s (.ifb t b),.s (.ifb t' b')=>bif t.beq t'&&(P.info? t).any (·.comparable)&&ahi P t then some (b==b')else none|_,_=>none
def eqI(P:Program):List AV->List AV->Option Bool
 |[],[]=>some true|x::xs,y::ys=>match ak9 P x y,eqI P xs ys with
  |some a,some b=>some (a&&b)|_,_=>none
 |_,_=>none
def eqR(P:Program)(t:TypeId)(x y:AV):Option (Bool×Bool):=
 match P.underlying t,x,y with
 |some .bool,x,y=>match x.fM,y.fM with
  |some (lx,a),some (ly,b)=>some (lx&&ly,a==b)|_,_=>none
 |some (.array n e),.ah k m ws,.ah k' m' nS=>
  match P.underlying e with
  |some (.int k'')=>bif bT k k'&&bT k k''&&n==m&&m==m'&&(P.info? e).any (λi=>i.size==1)&& !P.eqGuardType P.depth t then some (false,decide (ws=nS))else none|_=>none
 |some (.pointer _),.s .jv,.s .jv=>some (true,true)|some (.pointer _),.s .jv,.ptr _ _|some (.pointer _),.ptr _ _,.s .jv=>some (true,false)|some (.array n e),.agg xs,.agg ys=>
  match P.underlying e with
  |some (.interface _)=>bif n==xs.length&&n==ys.length&&(P.info? e).any (λi=>i.size==1)&& !P.eqGuardType P.depth t then(eqI P xs ys).map λb=>(false,b)else none|_=>none
 |some (.struct _),.agg xs,.agg ys=>bif P.eqGuardType P.depth t then none else(eqC P 20 t xs ys).map λb=>(false,b)|_,_,_=>none
def AV.kind? :AV->Option IntKind
 |.s (.int k _)|.s (.aR k _)|.s (.aa9 k)=>some k|_=>none
def afA(op:BinOp)(k:IntKind):Option AV:=
 match op with
 |.add|.sub|.mul|.and|.or|.xor|.andNot=>some (.s (.aa9 k))|.eql|.neq|.lss|.leq|.gtr|.geq=>some (.s (.lI 0 true))|_=>none
def apk(P:Program)(op:BinOp)(t:TypeId)(x y:AV):Option (List Prop×AV):=
 match x,y with
 |.s (.str a),.s (.str b)=>afy op a b|x,y=>
  match x.cC,y.cC with
  |some (k,lx,a),some (k',ly,b)=>
   match op with
   |.shl|.shr=>afx op k (lx&&ly) a b|_=>bif bT k k' then wT op k lx ly a b else none
  |_,_=>
   match x.kind?,y.kind? with
   |some k,some k'=>bif bT k k' then(afA op k).map λr=>([],r)else none|_,_=>
   match op with
   |.eql=>(eqR P t x y).map λ(l,b)=>([],l7 l b)|.neq=>(eqR P t x y).map λ(l,b)=>([],l7 l (!b))|_=>none
def apl:Value->Option SV
 |.bool b=>some (.aI b)|.int k n=>some (.aR k n)|.string s=>some (.str s)|.pointer none=>some .jv|.nilIface=>some .afu|.nilFunc=>some .afv|.map none=>some .afw|_=>none
def rI:Value->Option AV
 |.slice none 0 0=>some .emp|v=>(apl v).map .s
def rJ:List Value->Option (List AV)
 |[]=>some []|v::vs=>match rI v,rJ vs with
  |some a,some aP=>some (a::aP)|_,_=>none
def oh(k:IntKind):List Value->Bool
 |[]=>true|.int k' 0::vs=>bT k k'&&oh k vs|_=>false
def iu(P:Program):Nat->TypeId->List Value->Option (List AV)
 |0,_,_=>none|d+1,t,cs=>
  match P.underlying t with
  |some (.struct fs)=>fs.toList.foldl (λacc f=>
   match acc,dX P f.type with
   |some (ay,rest),some n=>(iu P d f.type (rest.take n)).map λs=>(ay++s,rest.drop n)|_,_=>none) (some ([],cs)) |>.bind λ(ay,rest)=>match rest with|[]=>some ay|_=>none
  |some (.array n e)=>match kindOf P e with
   |some k=>bif oh k cs&&cs.length==n then some [.ah k n (replicate n 0)]else rJ cs|none=>rJ cs
  |_=>rJ cs
def aba:Value->AV
 |.agg cs=>match rJ cs.toList with|some aP=>.agg aP|none=>.s .aY
 |v=>(rI v).getD (.s .aY)
def zeroOf(P:Program)(t:TypeId):Option AV:=
 match(P.info? t).bind (·.zero),ir P t with
 |some (.agg cs),some true=>(iu P 20 t cs.toList).map .l8|some v,some false=>rI v|_,_=>none
def CL.ay:(cs:List CK)->CL cs->List AV
 |[],_=>[]|.arr k n::cs,x=>.ah k n x.1::CL.ay cs x.2|.int k::cs,x=>.s (.int k x.1)::CL.ay cs x.2|.bool::cs,x=>.s (.bool x.1)::CL.ay cs x.2|.str::cs,x=>.s (.str x.1)::CL.ay cs x.2|.ah k::cs,x=>.s (.ro (.ah k x.1))::CL.ay cs x.2|.strs::cs,x=>.s (.ro (.strs x.1))::CL.ay cs x.2|.bF::cs,x=>.s (.ro (.bF x.1))::CL.ay cs x.2|.rows ds::cs,x=>.s (.ro (.au ds x.1))::CL.ay cs x.2
def fg:List AV->List Prop
 |[]=>[]|.ah _ n ws::aP=>(ws.length=n)::fg aP|_::aP=>fg aP
def ala(k:IntKind):SV->Option Int
 |.int k' x|.aR k' x=>bif bT k k' then some x else none|_=>none
def afB:SV->Option Bool
 |.bool x|.aI x=>some x|_=>none
def alb:SV->Option ByteArray
 |.str x=>some x|_=>none
def afC(k:IntKind):SV->Option (List Int)
 |.ro (.ah k' zs)=>bif bT k k' then some zs else none|.ro (.e9 _ 0 _)=>some []|_=>none
def afD:SV->Option (List ByteArray)
 |.ro (.strs zs)=>some zs|.ro (.e9 _ 0 _)=>some []|_=>none
def abb:SV->Option (List Bool)
 |.ro (.bF zs)=>some zs|.ro (.e9 _ 0 _)=>some []|_=>none
def afE(cs:List CK):SV->Option (List (CL cs))
 |.ro (.au jZ zs)=>(CL.eq jZ cs).map λh=>acJ h zs|.ro (.e9 _ 0 _)=>some []|_=>none
def CK.set:(c:CK)->c.V->Nat->SV->Option c.V
 |.int k,_,_,v=>ala k v|.bool,_,_,v=>afB v|.str,_,_,v=>alb v|.ah k,_,_,v=>afC k v|.strs,_,_,v=>afD v|.bF,_,_,v=>abb v|.rows cs,_,_,v=>afE cs v|.arr _ _,_,_,_=>none
def CL.set:(cs:List CK)->CL cs->Nat->SV->Option (CL cs)
 |[],_,_,_=>none|c::cs,x,j,v=>bif j.blt c.wide then(c.set x.1 j v).map λy=>(y,x.2)else(CL.set cs x.2 (j - c.wide) v).map λy=>(x.1,y)
def CK.setRow:(c:CK)->IntKind->Nat->List Int->Option c.V
 |.arr k' n',k,n,ws=>bif bT k k'&&n.beq n' then some ws else none|_,_,_,_=>none
def CL.setRow:(cs:List CK)->CL cs->Nat->IntKind->Nat->List Int->Option (CL cs)
 |[],_,_,_,_,_=>none|c::cs,x,j,k,n,ws=>bif j.beq 0 then(c.setRow k n ws).map λy=>(y,x.2)
   else bif c.wide.ble j then(CL.setRow cs x.2 (j - c.wide) k n ws).map λy=>(x.1,y)else none
def rK(zo:Bool)(c:aU)(i j sz:Nat):RM bQ:=
 bif zo then
  (match c with
   |.au cs xs=>(match(fN (CL.ay cs (xs.getD i (CL.d cs))) j).bind (fO · sz)with
     |some ss=>plain (fg (CL.ay cs (xs.getD i (CL.d cs)))) (.l8 ss)|none=>.fail "")
   |c=>bif (j+sz).ble c.size then plain [] (.agg ((List.range sz).map λl=>.s (c.cell i (j+l))))else .fail "")
 else(bif j.blt c.size then plain [] (.s (c.cell i j))else .fail "")
def ahj(P:Program)(t:TypeId)(a:AV):RM bQ:=
 match dX P t,ir P t with
 |some sz,some zo=>
  match a with
  |.ptr id off=>.look id λ
   |some (.aq ay _)=>bif zo then
    (match(fN ay off).bind (fO · sz)with
     |some ss=>plain [] (.l8 ss)|none=>.fail "")
    else(match cellAt ay off with
     |some v=>plain [] v|none=>.fail "")
   |_=>.fail ""
  |.kN id off n i=>.look id λ
   |some (.aq ay _)=>match jR ay off with
    |some (k,m,ws)=>bif m.beq n&& !zo then plain [] (.s (.int k (ws.getD i 0)))else .fail ""|none=>.fail ""
   |_=>.fail ""
  |.ke c i j=>rK zo c i j sz|.gP id i j=>.look id λ
   |some (.vec c _)=>rK zo c i j sz|_=>.fail ""
  |_=>.fail ""
 |_,_=>.fail ""
def tF:aU->Nat->Nat->SV->Option aU
 |.ah k zs,i,_,v=>match v with
  |.int k' x|.aR k' x=>bif bT k k' then some (.ah k (zs.set i x))else none|_=>none
 |.strs ss,i,_,v=>match v with
  |.str x=>some (.strs (ss.set i x))|_=>none
 |.bF bs,i,_,v=>match v with
  |.bool x|.aI x=>some (.bF (bs.set i x))|_=>none
 |.au cs xs,i,j,v=>(CL.set cs (xs.getD i (CL.d cs)) j v).map λy=>.au cs (xs.set i y)|.e9 s n get,i,j,v=>some (.e9 s n λi' j'=>bif i'==i&&j'==j then v else get i' j')
def pH:aU->Nat->Nat->IntKind->Nat->List Int->Option aU
 |.au cs xs,i,j,k,n,ws=>(CL.setRow cs (xs.getD i (CL.d cs)) j k n ws).map λy=>.au cs (xs.set i y)|_,_,_,_,_,_=>none
def fh(c:aU)(i j:Nat):List AV->Option aU
 |[]=>some c|.s v::aP=>(tF c i j v).bind λc'=>fh c' i (j+1) aP|.ah k n ws::aP=>(pH c i j k n ws).bind λc'=>fh c' i (j+n) aP|_=>none
def om(cs:List CK)(x:CL cs)(j:Nat):List AV->Option (CL cs)
 |[]=>some x|.s v::aP=>(CL.set cs x j v).bind λy=>om cs y (j+1) aP|.ah k n ws::aP=>(CL.setRow cs x j k n ws).bind λy=>om cs y (j+n) aP|_=>none
def ahk(c:aU)(i j:Nat)(jY:List AV):Option aU:=match c with
 |.au cs xs=>(om cs (xs.getD i (CL.d cs)) j jY).map λy=>.au cs (xs.set i y)|_=>fh c i j jY
def afF(P:Program)(t:TypeId)(a x:AV):RM bQ:=
 match dX P t,ir P t with
 |some sz,some zo=>
  match a with
  |.ptr id off=>.look id λ
   |some (.aq ay e)=>
    bif zo then
     (match x.jX with
      |some jY=>bif (gr jY).beq sz&&(1:Nat).ble sz then
       (match v8 ay off jY with
        |some dd=>.ret ⟨[],[(id,.aq dd e)],[],λ_=>.bq []⟩|none=>.fail "")else .fail ""
      |none=>.fail "")
    else(bif x.single&&sz.beq 1 then
     (match gU ay off x with
      |some dd=>.ret ⟨[],[(id,.aq dd e)],[],λ_=>.bq []⟩|none=>.fail "")else .fail "")
   |_=>.fail ""
  |.kN id off n i=>.look id λ
   |some (.aq ay e)=>match jR ay off,x.cC with
    |some (k,m,ws),some (k',_,y)=>bif m.beq n&&bT k k'&& !zo&&sz.beq 1 then
     (match kO ay off (ws.set i y)with
      |some dd=>.ret ⟨[],[(id,.aq dd e)],[],λ_=>.bq []⟩|none=>.fail "")else .fail ""
    |_,_=>.fail ""
   |_=>.fail ""
  |.gP id i j=>.look id λ
   |some (.vec c e)=>match x.jX with
    |some jY=>bif (gr jY).beq sz&&(j+sz).ble c.size then
     (match ahk c i j jY with
      |some c'=>.ret ⟨[],[(id,.vec c' e)],[],λ_=>.bq []⟩|none=>.fail "")else .fail ""
    |none=>.fail ""
   |_=>.fail ""
  |_=>.fail ""
 |_,_=>.fail ""
def qK(P:Program)(t:TypeId)(x:AV)(f:Nat):RM bQ:=
 match P.underlying t with
 |some (.struct fs)=>match fs[f]? with
  |some fd=>bif (dX P fd.type).any (λn=>(1:Nat).ble n)then
   (match x with
    |.ptr id off=>plain [] (.ptr id (off+fd.offset))|.ke c i j=>plain [] (.ke c i (j+fd.offset))|.gP id i j=>.look id λ
     |some (.vec c _)=>bif (j+fd.offset).blt c.size then plain [] (.gP id i (j+fd.offset))else .fail ""|_=>.fail ""
    |_=>.fail "")else .fail ""
  |none=>.fail ""
 |_=>.fail ""
def qL(P:Program)(t:TypeId)(x i:AV):RM bQ:=
 match i.cC,P.underlying t with
 |some (_,_,n),some (.slice e)=>
  (match dX P e,x with
   |some sz,.s (.ro c)=>bif sz.beq c.size then plain [0<=n,n<c.n] (.ke c n.toNat 0)else .fail ""|some sz,.vec id=>.look id λ
    |some (.vec c _)=>bif sz.beq c.size&&(1:Nat).ble sz then plain [0<=n,n<c.n] (.gP id n.toNat 0)else .fail ""|_=>.fail ""
   |some sz,.part id lo m=>.look id λ
    |some (.vec c _)=>bif sz.beq c.size&&(1:Nat).ble sz then plain [0<=n,n<m] (.gP id (lo+n.toNat) 0)else .fail ""|_=>.fail ""
   |_,_=>.fail "")
 |some (_,lit,n),some (.array len e)=>
  (match dX P e,x with
   |some sz,.ptr id off=>bif lit then
    (bif decide (0<=n)&&decide (n<len)then plain [] (.ptr id (off+n.toNat*sz))else .fail "")
    else(bif sz.beq 1 then plain [0<=n,n<len] (.kN id off len n.toNat)else .fail "")
   |some sz,.gP id i0 0=>.look id λ
    |some (.vec c _)=>bif sz.beq c.size&&(1:Nat).ble sz then plain [0<=n,n<len,i0+n<c.n] (.gP id (i0+n.toNat) 0)else .fail ""|_=>.fail ""
   |_,_=>.fail "")
 |_,_=>.fail ""
def aJ(s:ByteArray)(i:Nat):Int:=((s.data.toList.getD i 0).toNat:Int)
def afG(P:Program)(t:TypeId)(x i:AV):RM bQ:=
 match i.cC,P.underlying t,x with
 |some (_,_,n),some (.array len e),.ah k m ws=>bif len.beq m&&(ir P e).any (!·)&&(dX P e).any (·.beq 1)then plain [0<=n,n<len] (.s (.int k (ws.getD n.toNat 0)))else .fail ""|some (_,_,n),some .string,.s (.str s)=>plain [0<=n,n<s.size] (.s (.int .u8 (aJ s n.toNat)))|some (_,_,n),some (.array len e),.agg ay=>bif (ir P e).any (!·)&&(dX P e).any (·.beq 1)then
  (match cellAt ay n.toNat with
   |some v=>plain [0<=n,n<len] v|none=>.fail "index: no cell")else .fail ""
 |_,_,_=>.fail ""
def afH(P:Program)(t:TypeId)(x:AV)(f:Nat):RM bQ:=
 match P.underlying t,x with
 |some (.struct fs),.agg ay=>match fs[f]? with
  |some fd=>match dX P fd.type,ir P fd.type with
   |some sz,some true=>match(fN ay fd.offset).bind (fO · sz)with
    |some ss=>plain [] (.l8 ss)|none=>.fail ""
   |some _,some false=>match cellAt ay fd.offset with
    |some v=>plain [] v|none=>.fail ""
   |_,_=>.fail ""
  |none=>.fail ""
 |_,_=>.fail ""
def wU(x:AV)(i:Nat):RM bQ:=
 match x with
 |.bq vs=>match vs[i]? with
  |some v=>plain [] v|none=>.fail ""
 |_=>.fail ""
def abc(P:Program)(t:TypeId):Option Nat:=
 match P.underlying t,P.info? t with
 |some (.array n e),some i=>match P.underlying e,i.zero with
  |some .string,some z=>bif (4:Nat).ble n&&n.ble 4096&&z.cells.size.beq n&&z.cells.toList.all (λv=>match v with|.string s=>s.size.beq 0|_=>false)then some n else none|_,_=>none
 |_,_=>none
def afI(P:Program)(t:TypeId):RM bQ:=
 match abc P t with
 |some n=>.ret ⟨[],[],[.vec (.strs (replicate n empty)) t],λid=>.gP id 0 0⟩|none=>
 match(zeroOf P t).bind AV.jX with
 |some ay=>.ret ⟨[],[],[.aq ay t],λid=>.ptr id 0⟩|none=>.fail ""
def atF(t:TypeId)(v:AV):RM bQ:=
 match v.jX with
 |some ay=>.ret ⟨[],[],[.aq ay t],λid=>.ptr id 0⟩|none=>.fail ""
def qM(place:Nat->Option (Nat×Nat))(ay:List AV):List (Nat×AV)->Option (List AV)
 |[]=>some ay|(i,v)::rest=>
  match place i,v.jX with
  |some (off,size),some jY=>bif (gr jY).beq size&&(1:Nat).ble size then(v8 ay off jY).bind λs=>qM place s rest else none|_,_=>none
def afJ(P:Program)(t:TypeId)(parts:List (Nat×AV)):RM bQ:=
 match(zeroOf P t).bind AV.jX,P.underlying t with
 |some ay,some (.struct fs)=>bif fs.toList.all (λf=>(dX P f.type).isSome)then
  match qM (λi=>(fs[i]?).bind λf=>(dX P f.type).map λn=>(f.offset,n)) ay parts with
  |some ss=>plain [] (.l8 ss)|none=>.fail ""
  else .fail ""
 |some ay,some (.array _ e)=>
  match dX P e with
  |some sz=>match qM (λi=>some (i*sz,sz)) ay parts with
   |some ss=>plain [] (.l8 ss)|none=>.fail ""
  |none=>.fail ""
 |_,_=>.fail ""
def AV.sv? :AV->Option SV
 |.s .aY=>none|.s v=>some v|.emp=>some (.ro (.e9 1 0 λ_ _=>.aY))|_=>none
def svs:List AV->Option (List SV)
 |[]=>some []|.ah _ _ _::_=>none|a::aP=>match a.sv?,svs aP with
  |some v,some vs=>some (v::vs)|_,_=>none
def qN(k:IntKind):List SV->Option (List Int)
 |[]=>some []|.int k' n::vs|.aR k' n::vs=>bif bT k k' then(qN k vs).map (n:: ·)else none|_=>none
def tG:List SV->Option (List ByteArray)
 |[]=>some []|.str s::vs=>(tG vs).map (s:: ·)|_=>none
def pI:List SV->Option (List Bool)
 |[]=>some []|.bool b::vs|.aI b::vs=>(pI vs).map (b:: ·)|_=>none
inductive Shape where
 |ah (k:IntKind)|strs|bF|au (cs:List CK)|other
def alc(P:Program):Nat->TypeId->Option (List CK)
 |0,_=>none|d+1,t=>
  match P.underlying t with
  |some (.int k)=>some [.int k]|some .bool=>some [.bool]|some .string=>some [.str]|some (.slice e)=>match P.underlying e with
   |some (.int k)=>some [.ah k]|some .string=>some [.strs]|some .bool=>some [.bF]|_=>(alc P d e).map λcs=>[.rows cs]
  |some (.struct fs)=>fs.toList.foldr (λf acc=>match alc P d f.type,acc with
   |some a,some b=>some (a++b)|_,_=>none) (some [])
  |some (.array n e)=>match P.underlying e with
   |some (.int k)=>some [.arr k n]|_=>none
  |_=>none
def shapeOf(P:Program)(e:TypeId):Shape:=
 match P.underlying e with
 |some (.int k)=>.ah k|some .string=>.strs|some .bool=>.bF|_=>match alc P 8 e with
  |some cs=>.au cs|none=>.other
def CL.ofs(cs:List CK)(f:Nat->SV):Option (CL cs):=(List.range (CL.wide cs)).foldl (λacc j=>acc.bind λx=>CL.set cs x j (f j)) (some (CL.d cs))
def z7(cs:List CK)(size:Nat)(cells:List SV):Nat->Nat->Option (List (CL cs))
 |_,0=>some []|i,n+1=>match CL.ofs cs (λj=>cells.getD (i*size+j) .aY),z7 cs size cells (i+1) n with
  |some x,some xs=>some (x::xs)|_,_=>none
def u5(sh:Shape)(size n:Nat)(cells:List SV):aU:=
 let d:aU:=.e9 size n λi j=>cells.getD (i*size+j) .aY
 match sh with
 |.ah k=>(qN k cells).elim d (.ah k)|.strs=>(tG cells).elim d .strs|.bF=>(pI cells).elim d .bF|.au cs=>bif (CL.wide cs).beq size then(z7 cs size cells 0 n).elim d (.au cs)else d|.other=>d
def ald(sh:Shape)(size:Nat):aU:=
 match sh with
 |.ah k=>.ah k []|.strs=>.strs []|.bF=>.bF []|.au cs=>.au cs []|.other=>.e9 size 0 λ_ _=>.aY
def rep{α:Type}(n:Nat)(x:List α):List α:=
 match n with
 |0=>[]|n+1=>x++rep n x
def oo(P:Program)(t:TypeId)(n:Nat)(parts:List (Nat×AV)):RM bQ:=
 match P.underlying t with
 |some (.slice e)=>
  match dX P e,(zeroOf P e).bind AV.jX with
  |some sz,some z=>bif (1:Nat).ble sz&&(n*sz).ble 4096&&(gr z).beq sz then
   (match(qM (λi=>some (i*sz,sz)) (rep n z) parts).bind svs with
    |some cells=>bif cells.length.beq (n*sz)&&(u5 (shapeOf P e) sz n cells).n.beq n&&(u5 (shapeOf P e) sz n cells).size.beq sz then .ret ⟨[],[],[.vec (u5 (shapeOf P e) sz n cells) e],λid=>.vec id⟩else .fail ""|none=>.fail "")else .fail ""
  |_,_=>.fail ""
 |_=>.fail ""
def dz:aU->aU->aU
 |.ah k xs,.ah k' ys=>bif bT k k' then .ah k (xs++ys)else .e9 1 (xs.length+ys.length) λi j=>bif i.blt xs.length then(aU.ah k xs).cell i j else(aU.ah k' ys).cell (i - xs.length) j|.strs xs,.strs ys=>.strs (xs++ys)|.bF xs,.bF ys=>.bF (xs++ys)|.au cs xs,.au jZ ys=>match CL.eq jZ cs with
  |some h=>.au cs (xs++acJ h ys)|none=>.e9 (CL.wide cs) (xs.length+ys.length) λi j=>bif i.blt xs.length then(aU.au cs xs).cell i j else(aU.au jZ ys).cell (i - xs.length) j
 |c,d=>.e9 c.size (c.n+d.n) λi j=>bif i.blt c.n then c.cell i j else d.cell (i - c.n) j
def dS:aU->Nat->Nat->aU
 |.ah k zs,l,h=>.ah k ((zs.take h).drop l)|.strs zs,l,h=>.strs ((zs.take h).drop l)|.bF zs,l,h=>.bF ((zs.take h).drop l)|.au cs zs,l,h=>.au cs ((zs.take h).drop l)|.e9 s _ get,l,h=>.e9 s (h - l) λi j=>get (l+i) j
def over{α:Type}(xs:List α)(lo k:Nat)(ys:List α):List α:=xs.take lo++ys.take k++xs.drop (lo+k)
def dI:aU->Nat->Nat->aU->aU
 |.ah k1 xs,lo,k,.ah k2 ys=>bif bT k1 k2 then .ah k1 (over xs lo k ys)else .e9 1 xs.length λi j=>bif lo.ble i&&i.blt (lo+k)then(aU.ah k2 ys).cell (i - lo) j else(aU.ah k1 xs).cell i j|.strs xs,lo,k,.strs ys=>.strs (over xs lo k ys)|.bF xs,lo,k,.bF ys=>.bF (over xs lo k ys)|.au cs xs,lo,k,.au jZ ys=>match CL.eq jZ cs with
  |some h=>.au cs (over xs lo k (acJ h ys))|none=>.e9 (CL.wide cs) xs.length λi j=>bif lo.ble i&&i.blt (lo+k)then(aU.au jZ ys).cell (i - lo) j else(aU.au cs xs).cell i j
 |c,lo,k,d=>.e9 c.size c.n λi j=>bif lo.ble i&&i.blt (lo+k)then d.cell (i - lo) j else c.cell i j
def atG:SV->Value->Bool
 |.int k n,.int k' n'=>bT k k'&&n==n'|.bool b,.bool b'=>b==b'|.str s,.string s'=>s.size.beq 0&&s'.size.beq 0|.ro c,.slice none 0 0=>c.n.beq 0|_,_=>false
def dJ(sh:Shape)(n:Nat):aU:=
 match sh with
 |.ah k=>.ah k (replicate n 0)|.strs=>.strs (replicate n empty)|.bF=>.bF (replicate n false)|.au cs=>.au cs (replicate n (CL.d cs))|.other=>.e9 1 n λ_ _=>.aY
def gA(sh:Shape)(z:List Value):Bool:=(dJ sh 1).size.beq z.length&&(List.range z.length).all λj=>atG ((dJ sh 1).cell 0 j) (z.getD j undef)
def rowOf(sh:Shape)(size:Nat)(x:AV)(k:aU->Option Nat->RM bQ):RM bQ:=
 match x with
 |.s v=>(match v with
  |.ro c=>k c none|_=>.fail "")
 |.emp=>k (ald sh size) none|.vec id=>.look id λ
  |some (.vec c _)=>k c (some id)|_=>.fail ""
 |.part id lo n=>.look id λ
  |some (.vec c _)=>k (dS c lo (lo+n)) (some id)|_=>.fail ""
 |_=>.fail ""
def z8(sh:Shape)(size:Nat)(x:AV)(k:aU->Option Nat->RM bQ):RM bQ:=
 match x with
 |.s (.str s)=>k (.ah .u8 (s.data.toList.map λb=>(b.toNat:Int))) none|x=>rowOf sh size x k
def abd(P:Program)(t:TypeId)(x y:AV):RM bQ:=
 match P.underlying t with
 |some (.slice e)=>
  match P.info? e with
  |some i=>
   let sh:=shapeOf P e
   bif (1:Nat).ble i.size&&(1:Nat).ble i.bytes&&i.bytes.ble 256&&i.zero.any (λz=>z.cells.size==i.size&&z.cells.toList.all (·.oneCell'))then
    z8 sh i.size y λd idy=>
     bif d.size.beq i.size then
      (match x with
       |.emp=>.ret ⟨[d.n*i.bytes<=140737488355328],[],[.vec d e],λid=>.vec id⟩|.vec idx=>.look idx λ
        |some (.vec c e')=>bif c.size.beq i.size&&e'.beq e&& !(idy==some idx)then
         .ret ⟨[(c.n+d.n)*i.bytes<=140737488355328],[(idx,.aw)],[.vec (dz c d) e],λid=>.vec id⟩else .fail ""
        |_=>.fail ""
       |.part idx lo n=>.look idx λ
        |some (.vec c e')=>bif c.size.beq i.size then
         .ret ⟨[lo+n+d.n<=c.n],[(idx,.vec (dI c (lo+n) d.n d) e')],[],λ_=>.part idx lo (n+d.n)⟩else .fail ""
        |_=>.fail ""
       |_=>.fail "")
     else .fail ""
   else .fail ""
  |none=>.fail ""
 |_=>.fail ""
def wV(P:Program)(t t':TypeId)(x y:AV):RM bQ:=
 match P.underlying t,P.underlying t',x,y.cC with
 |some (.slice e),some (.int _),.s (.rot c k),some (_,_,j)=>
  (match P.info? e with
   |some i=>bif (1:Nat).ble i.size&&i.bytes.ble 256&&c.size.beq i.size&&i.zero.any (λz=>gA (shapeOf P e) z.cells.toList&&z.cells.size==i.size)then
    .ret ⟨[0<j,(k:Int)<=c.n+j,(c.n:Int)+j<=4294967296],[],[.vec (dz c (dJ (shapeOf P e) j.toNat)) e],λid=>.vec id⟩else .fail ""
   |none=>.fail "")
 |_,_,_,_=>.fail ""
def atH(P:Program)(t:TypeId)(x:AV):RM bQ:=
 match P.underlying t,x with
 |some .string,.s (.str s)=>plain [] (.s (.int .i64 s.size))|some (.array n _),_=>plain [] (.s (.aR .i64 n))|some (.slice _),.s (.ro c)=>plain [] (.s (.int .i64 c.n))|some (.slice _),.s (.rot c _)=>plain [] (.s (.int .i64 c.n))|some (.slice _),.emp=>plain [] (.s (.aR .i64 0))|some (.slice _),.vec id=>.look id λ
  |some (.vec c _)=>plain [] (.s (.int .i64 c.n))|_=>.fail ""
 |some (.slice _),.part id _ n=>.look id λ
  |some (.vec _ _)=>plain [] (.s (.int .i64 n))|_=>.fail ""
 |some (.map _ _),.fv id=>.look id λ
  |some (.map _ m)=>plain [] (.s (.int .i64 m.length))|_=>.fail ""
 |_,_=>.fail ""
def atI(P:Program)(t:TypeId)(x:AV):RM bQ:=
 match P.underlying t,x with
 |some (.slice _),.s (.rot _ k)=>plain [] (.s (.qn k))|some (.slice _),.vec id=>.look id λ
  |some (.vec c _)=>plain [] (.s (.nI c.n))|_=>.fail ""
 |some (.slice _),.part id lo _=>.look id λ
  |some (.vec c _)=>plain [] (.s (.nI (c.n - lo)))|_=>.fail ""
 |_,_=>.fail ""
def imax(a b:Int):Int:=if b>a then b else a
def qO(a b:Int):Int:=if b<a then b else a
def apm(mx:Bool)(x y:AV):RM bQ:=
 match x.cC,y.cC with
 |some (k,lx,a),some (k',ly,b)=>bif bT k k' then
  (bif mx then plain [] (mkInt (lx&&ly) k (imax a b))else plain [] (mkInt (lx&&ly) k (qO a b)))else .fail ""
 |_,_=>.fail ""
def gV(d:Int):Option AV->Option Int
 |none=>some d|some a=>(a.cC).map λ(_,_,n)=>n
def ahl(P:Program)(e:TypeId)(c:aU)(id lo0 n:Nat)(lo hi mx:Option AV):RM bQ:=
 match dX P e with
 |some sz=>bif sz.beq c.size then
  (match mx with
   |none=>(match gV 0 lo,gV n hi with
    |some l,some h=>plain [0<=l,l<=h,(lo0:Int)+h<=c.n] (.part id (lo0+l.toNat) (h.toNat - l.toNat))|_,_=>.fail "")
   |some m=>(match gV 0 lo,hi.bind AV.cC,m.cC with
    |some l,some (_,_,h),some (_,_,m)=>plain [0<=l,l<=h,h<=m,(lo0:Int)+m<=c.n] (.s .aY)|_,_,_=>.fail ""))else .fail ""
 |none=>.fail ""
def ale(P:Program)(t:TypeId)(x y:AV):RM bQ:=
 match P.underlying t with
 |some (.slice e)=>
  match dX P e with
  |some sz=>bif (1:Nat).ble sz then
   z8 (shapeOf P e) sz y λd _=>bif d.size.beq sz then
    (match x with
     |.vec id=>.look id λ
      |some (.vec c e')=>bif c.size.beq sz then
       .ret ⟨[],[(id,.vec (dI c 0 (min d.n c.n) d) e')],[],λ_=>.s (.int .i64 ((min d.n c.n:Nat):Int))⟩else .fail ""
      |_=>.fail ""
     |.part id lo n=>.look id λ
      |some (.vec c e')=>bif c.size.beq sz then
       .ret ⟨[],[(id,.vec (dI c lo (min d.n n) d) e')],[],λ_=>.s (.int .i64 ((min d.n n:Nat):Int))⟩else .fail ""
      |_=>.fail ""
     |_=>.fail "")else .fail ""
   else .fail ""
  |none=>.fail ""
 |_=>.fail ""
def fF{k:IntKind}{m:Nat}(x:CL [.arr k m]):List Int:=x.1
def qp{k:IntKind}{m:Nat}(ws:List Int):CL [.arr k m]:=(ws,())
def wc(x:AV)(k:IntKind->List Int->Prop->RM bQ):RM bQ:=
 match x with
 |.s (.str s)=>k .u8 (s.data.toList.map λb=>(b.toNat:Int)) True|.sub id off n=>.look id λ
  |some (.aq [.ah q m ws] _)=>k q ((ws.drop off).take n) (off+n<=m)|_=>.fail ""
 |_=>.fail ""
def afK(P:Program)(t:TypeId)(x y:AV):RM bQ:=
 match P.underlying t with
 |some (.slice e)=>
  match dX P e with
  |some sz=>bif sz.beq 1 then
   (match x with
    |.sub id off n=>wc y λq zs p=>.look id λ
      |some (.aq [.ah k m ws] e')=>bif bT q k then
       .ret ⟨[p,off+n<=m],[(id,.aq [.ah k m (over ws off (min zs.length n) zs)] e')],[],λ_=>.s (.int .i64 ((min zs.length n:Nat):Int))⟩else .fail ""
      |_=>.fail ""
    |.lJ id i j n=>wc y λq zs p=>.look id λ
      |some (.vec (.au [.arr k m] xs) e')=>bif bT q k&&(1:Nat).ble m then
       .ret ⟨[p,(fF (xs.getD i (CL.d [.arr k m]))).length=m],[(id,.vec (.au [.arr k m] (xs.set i (qp (over (fF (xs.getD i (CL.d [.arr k m]))) j (min zs.length n) zs)))) e')],[],λ_=>.s (.int .i64 ((min zs.length n:Nat):Int))⟩else .fail ""
      |_=>.fail ""
    |_=>.fail "")else .fail ""
  |none=>.fail ""
 |_=>.fail ""
def awu:AV->Bool
 |.sub _ _ _|.lJ _ _ _ _=>true|_=>false
def afL(P:Program)(t:TypeId)(x:AV):RM bQ:=
 match P.underlying t,x with
 |some (.slice e),.part id lo n=>
  (match P.info? e with
   |some i=>bif (1:Nat).ble i.size&&i.zero.any (λz=>gA (shapeOf P e) z.cells.toList&&z.cells.size==i.size)then
    .look id λ
    |some (.vec c e')=>bif c.size.beq i.size then
     .ret ⟨[],[(id,.vec (dI c lo n (dJ (shapeOf P e) n)) e')],[],λ_=>.bq []⟩else .fail ""
    |_=>.fail ""
    else .fail ""
   |none=>.fail "")
 |some (.map _ _),.fv id=>.look id λ
  |some (.map ck _)=>.ret ⟨[],[(id,.map ck [])],[],λ_=>.bq []⟩|_=>.fail ""
 |_,_=>.fail ""
def qP(P:Program)(t:TypeId)(l c:AV):RM bQ:=
 match P.underlying t,l.cC,c.cC with
 |some (.slice e),some (_,_,l),some (_,_,c)=>
  (match P.info? e with
   |some i=>bif (1:Nat).ble i.size&&i.bytes.ble 256&&i.zero.any (λz=>gA (shapeOf P e) z.cells.toList&&z.cells.size==i.size)then
    .ret ⟨[0<=l,l<=c,c<=1073741824],[],[.vec (dJ (shapeOf P e) l.toNat) e],λid=>.vec id⟩else .fail ""
   |none=>.fail "")
 |_,_,_=>.fail ""
def afM(P:Program)(t:TypeId)(x:AV)(lo hi mx:Option AV):RM bQ:=
 match P.underlying t,x with
 |some .string,.s (.str s)=>
  (match gV 0 lo,gV s.size hi,mx with
   |some l,some h,none=>plain [0<=l,l<=h,h<=s.size] (.s (.str (s.extract l.toNat h.toNat)))|_,_,_=>.fail "")
 |some (.slice e),.emp=>(match dX P e,gV 0 lo,gV 0 hi,mx with
  |some _,some l,some h,none=>plain [l=0,h=0] .emp|_,_,_,_=>.fail "")
 |some (.slice e),.s (.ro c)=>
  (match dX P e with
   |some sz=>bif sz.beq c.size then
    (match mx with
     |none=>(match gV 0 lo,gV c.n hi with
      |some l,some h=>plain [0<=l,l<=h,h<=c.n] (.s (.ro (dS c l.toNat h.toNat)))|_,_=>.fail "")
     |some m=>(match gV 0 lo,hi.bind AV.cC,m.cC with
      |some l,some (_,_,h),some (_,_,m)=>plain [l=0,h=0,m=0] .emp|_,_,_=>.fail ""))else .fail ""
   |none=>.fail "")
 |some (.slice e),.s (.rot c k)=>
  (match dX P e,mx with
   |some sz,none=>bif sz.beq c.size then
    (match lo,gV c.n hi with
     |none,some h=>plain [0<=h,h<=c.n] (.s (.rot (dS c 0 h.toNat) k))|some l,some h=>(match l.cC with
      |some (_,_,l)=>plain [0<=l,l<=h,h<=c.n] (.s (.ro (dS c l.toNat h.toNat)))|none=>.fail "")
     |_,_=>.fail "")else .fail ""
   |_,_=>.fail "")
 |some (.slice e),.vec id=>.look id λ
  |some (.vec c _)=>ahl P e c id 0 c.n lo hi mx|_=>.fail ""
 |some (.slice e),.part id lo0 n=>.look id λ
  |some (.vec c _)=>ahl P e c id lo0 n lo hi mx|_=>.fail ""
 |some (.array n e),.ptr id off=>
  (match dX P e,gV 0 lo,gV n hi,mx with
   |some sz,some l,some h,none=>bif sz.beq 1 then plain [0<=l,l<=h,h<=n] (.sub id (off+l.toNat) (h.toNat - l.toNat))else .fail ""|_,_,_,_=>.fail "")
 |some (.array n e),.gP id i j=>
  (match dX P e,gV 0 lo,gV n hi,mx with
   |some sz,some l,some h,none=>.look id λ
    |some (.vec c _)=>bif sz.beq 1&&(j+n).ble c.size then plain [0<=l,l<=h,h<=n] (.lJ id i (j+l.toNat) (h.toNat - l.toNat))else .fail ""|_=>.fail ""
   |_,_,_,_=>.fail "")
 |_,_=>.fail ""
def aF(zs:List Int):ByteArray:=⟨(zs.map λn=>UInt8.ofNat n.toNat).toArray⟩
def wW(P:Program)(src dst:TypeId)(x:AV):RM bQ:=
 match P.underlying src,P.underlying dst with
 |some _,some (.int k)=>(match x.cC with
  |some (k',lit,n)=>bif lit then plain [] (.s (.aR k (k.wrap n)))else bif qo k&& !bT k' .u64 then plain [aA n] (.s (.int k n))else plain [] (.s (.int k (k.wrap n)))|none=>.fail "")
 |some .string,some .string=>(match x with
  |.s (.str s)=>plain [] (.s (.str s))|_=>.fail "")
 |some (.slice e),some .string=>(match kindOf P e with
  |some .u8=>(match x with
   |.sub id off n=>.look id λ
     |some (.aq [.ah .u8 m ws] _)=>plain [off+n<=m] (.s (.str (aF ((ws.drop off).take n))))|_=>.fail ""
   |_=>rowOf (.ah .u8) 1 x λc _=>match c with
   |.ah .u8 zs=>plain [] (.s (.str (aF zs)))|_=>.fail "")
  |_=>.fail "")
 |_,_=>.fail ""
def bw(s:ByteArray):List Int:=s.data.toList.map λb=>(b.toNat:Int)
def wX(P:Program)(src dst:TypeId)(x:AV):RM bQ:=
 match P.underlying src,P.underlying dst,x with
 |some .string,some (.slice e),.s (.str s)=>(match kindOf P e with
  |some .u8=>plain [s.size<=4294967296] (.s (.ro (.ah .u8 (bw s))))|_=>.fail "")
 |_,_,_=>.fail ""
def apn(P:Program)(src dst:TypeId):Bool:=
 match P.underlying src,P.underlying dst with
 |some .string,some (.slice _)=>true|_,_=>false
def wY(P:Program)(t:TypeId)(x:AV):RM bQ:=
 match P.underlying t,x with
 |some (.array n _),.s (.ro (.ah k zs))=>bif (1:Nat).ble n then plain [n<=zs.length] (.ke (.au [.arr k n] [(zs.take n,())]) 0 0)else .fail ""|_,_=>.fail ""
def tH(x:AV):RM bQ:=
 match x with
 |.ptr _ _|.kN _ _ _ _|.ke _ _ _|.fn _ _|.s (.rH _)=>plain [] x|_=>.fail ""
def tI(fn:Fn)(first dv:List AV):RM bQ:=
 match fn,first,dv with
 |.func f,[],[]=>plain [] (.s (.rH f))|.func f,[],c::cs=>plain [] (.fn f (c::cs))|.func f,x::xs,[]=>plain [] (.z6 f (x::xs))|_,_,_=>.fail ""
def aze(P:Program)(t:TypeId):Option CK:=
 match P.underlying t with
 |some (.int k)=>some (.int k)|some .bool=>some .bool|some .string=>some .str|some (.array n e)=>match P.underlying e with
  |some (.int k)=>some (.arr k n)|_=>none
 |_=>none
def CK.plain:CK->Bool
 |.int _|.bool|.str|.arr _ _=>true|_=>false
def wZ(P:Program)(t:TypeId)(ck:CK):Bool:=ck.plain&&
 match(P.info? t).bind (·.zero),ck with
 |some (.int k' 0),.int k=>bT k' k|some (.bool false),.bool=>true|some (.string s),.str=>s.size.beq 0|some (.agg cs),.arr k n=>oh k cs.toList&&cs.toList.length.beq n|_,_=>false
def CK.av:(c:CK)->c.V->AV
 |.int k,v=>.s (.int k v)|.bool,v=>.s (.bool v)|.str,v=>.s (.str v)|.arr k n,v=>.ah k n v|_,_=>.s .aY
def CK.rdv:(c:CK)->AV->Option c.V
 |.int k,a=>match a with
  |.s (.int k' x)|.s (.aR k' x)=>bif bT k k' then some x else none|_=>none
 |.bool,a=>match a with
  |.s (.bool x)|.s (.aI x)=>some x|_=>none
 |.str,a=>match a with
  |.s (.str x)=>some x|_=>none
 |.arr k n,a=>match a with
  |.ah k' n' ws=>bif bT k k'&&n.beq n' then some ws else none|_=>none
 |_,_=>none
def ahm(P:Program)(t:TypeId):Bool:=
 match P.underlying t with
 |some (.int .i64)=>true|_=>false
def abe(P:Program)(t:TypeId)(x i:AV)(ok:Bool):RM bQ:=
 match P.underlying t,x,i.cC with
 |some (.map kt et),.fv id,some (k,_,n)=>bif ahm P kt&&qo k then
  .look id λ
  |some (.map ck m)=>bif wZ P et ck then
   plain [] (bif ok then .bq [ck.av ((cp m n).getD ck.d),.s (.bool (oe m n))]else ck.av ((cp m n).getD ck.d))else .fail ""
  |_=>.fail ""
  else .fail ""
 |_,_,_=>.fail ""
def qQ(P:Program)(t:TypeId)(x i v:AV):RM bQ:=
 match P.underlying t,x,i.cC with
 |some (.map kt _),.fv id,some (k,_,n)=>bif ahm P kt&&qo k then
  .look id λ
  |some (.map ck m)=>(match ck.rdv v with
   |some y=>.ret ⟨[],[(id,.map ck (mm m n y))],[],λ_=>.bq []⟩|none=>.fail "")
  |_=>.fail ""
  else .fail ""
 |_,_,_=>.fail ""
def w4(P:Program)(t:TypeId)(r:Option AV):RM bQ:=
 match P.underlying t,r with
 |some (.map _ et),none=>(match aze P et with
  |some ck=>.ret ⟨[],[],[.map ck []],λid=>.fv id⟩|none=>.fail "")
 |_,_=>.fail ""
def afN(x:AV):RM bQ:=
 match x with
 |.ptr id 0=>.look id λ
  |some (.iter mid gid ck _ cur)=>.look mid λ
   |some (.ig _ _ awv)=>bif gid.beq awv&&ck.plain then(match cur with
    |some p=>plain [] (.bq [.s (.int .i64 p.1),ck.av p.2])|none=>.fail "")else .fail ""
   |_=>.fail ""
  |_=>.fail ""
 |_=>.fail ""
abbrev apo:=FuncId->List AV->RM bQ
abbrev fG:=Nat->apo
def jw(P:Program)(f:FuncId):Bool:=
 match P.funcs[f]? with
 |some fn=>fn.body.isSome&& !(fn.name== "runtime.NumGoroutine")|none=>false
def atJ(P:Program)(f:FuncId):Prop:=
 ∃(fn:Func) (t e tR:TypeId) (size:Nat),P.funcs[f]? =some fn/\(fn.name== "runtime.NumGoroutine")=false/\fn.body.isNone=true/\Extern.findNext fn=none/\Extern.find fn=some (Extern.SlicesOverlaps.overlaps #[t,t] #[tR])/\
  P.underlying t=some (.slice e)/\dX P e=some size
def ownRow:AV->Option Nat
 |.vec id=>some id|.part id _ _=>some id|_=>none
def tJ(P:Program)(f:FuncId)(args:List AV):RM bQ:=
 match args with
 |[x,y]=>match ownRow x,ownRow y with
  |some i,some j=>bif i.beq j then .fail "" else
   .look i λo=>match o with
    |some (.vec c _)=>.look j λo=>match o with
     |some (.vec d _)=>bif (1:Nat).ble c.size&&(1:Nat).ble d.size then plain [atJ P f] (.s (.aI false))else .fail ""|_=>.fail ""
    |_=>.fail ""
  |_,_=>.fail ""
 |_=>.fail ""
def aaa(P:Program)(S:apo)(f:FuncId)(args:List AV):RM bQ:=
 bif jw P f then S f args else tJ P f args
def abf(P:Program)(t:TypeId):Bool:=
 match P.underlying t with
 |some (.slice _)|some .string=>true|_=>false
def acK(P:Program)(b:Builtin)(ts:List TypeId)(args:List AV):RM bQ:=
 match b,ts,args with
 |.len,t::_,[x]=>atH P t x|.cap,t::_,[x]=>atI P t x|.append,[t,t'],[x,y]=>bif abf P t' then abd P t x y else wV P t t' x y|.min,_,[x,y]=>apm false x y|.max,_,[x,y]=>apm true x y|.copy,[t,t'],[x,y]=>bif abf P t' then(bif awu x then afK P t x y else ale P t x y)else .fail ""|.clear,t::_,[x]=>afL P t x|_,_,_=>.fail ""
def rL:BinOp->Bool
 |.eql=>true|_=>false
def atL(P:Program)(op:BinOp)(t:TypeId)(x:AV):RM bQ:=
 match op with
 |.eql|.neq=>
  match P.underlying t with
  |some (.slice _)=>
   match x with
   |.s (.ro c)=>plain [] (.s (.lI c.n (rL op)))|.emp=>plain [] (.s (.lI 0 (rL op)))|.vec id=>.look id λo=>match o with
    |some (.vec c _)=>plain [] (.s (.lI c.n (rL op)))|_=>.fail ""
   |_=>.fail ""
  |_=>.fail ""
 |_=>.fail ""
def qq:AV->AV
 |.s .qI=>.emp|x=>x
def afO:AV->Bool
 |.s .qI=>true|_=>false
def atM(P:Program)(t:TypeId)(x:AV):RM bQ:=
 match P.underlying t,x with
 |some (.interface _),_=>.fail ""|some _,.s (.int k n)=>plain [] (.s (.ifi t k n))|some _,.s (.aR k n)=>plain [] (.s (.ifi t k n))|some _,.s (.str s)=>plain [] (.s (.ifs t s))|some _,.s (.bool b)=>plain [] (.s (.ifb t b))|some _,.s (.aI b)=>plain [] (.s (.ifb t b))|_,_=>.fail ""
def alf(P:Program)(S:apo)(ev:Operand->AV)(o:Oper):RM bQ:=
 match o.op with
 |.move x|.assign x=>plain [] (ev x)|.pick c a b=>qJ "pick" (ak6 (ev c) (ev a) (ev b))|.alloc t=>afI P t|.box t x=>atF t (ev x)|.makeInterface t x=>atM P t (ev x)|.build t ps=>afJ P t (ps.toList.map λp=>(p.1,ev p.2))|.buildSlice t n ps=>oo P t n (ps.toList.map λp=>(p.1,ev p.2))|.load t a=>ahj P t (ev a)|.store t a x=>afF P t (ev a) (ev x)|.nilCheck x=>tH (ev x)|.binOp op t x y _=>qJ "binOp" (apk P op t (ev x) (ev y))|.unOp op _ x=>qJ "unOp" (unR op (ev x))|.convert a b x=>bif apn P a b then wX P a b (ev x)else wW P a b (ev x)|.sliceToArrayPointer t x=>wY P t (ev x)|.entry x=>afN (ev x)|.makeFunc fn a b=>tI fn (a.toList.map ev) (b.toList.map ev)|.slice t x l h m=>afM P t (ev x) (l.map ev) (h.map ev) (m.map ev)|.fieldAddr t x f=>qK P t (ev x) f|.field t x f=>afH P t (ev x) f|.indexAddr t x i=>qL P t (ev x) (ev i)|.index t x i=>afG P t (ev x) (ev i)|.extract x i=>wU (ev x) i|.lookup t x i ok=>abe P t (ev x) (ev i) ok|.mapUpdate t x i v|.insert t x i v=>qQ P t (ev x) (ev i) (ev v)|.makeMap t r=>w4 P t (r.map ev)|.makeSlice t l c=>qP P t (ev l) (ev c)|.call c=>match c.callee with
  |.value f=>match ev f with
   |.s (.rH f)=>aaa P S f (c.args.toList.map ev)|.fn f dv=>aaa P S f (c.args.toList.map ev++dv)|.z6 f first=>aaa P S f (first++c.args.toList.map ev)
   |_=>.fail ""
  |.builtin b=>acK P b c.argTypes.toList (c.args.toList.map ev)|_=>.fail ""
 |_=>.fail ""
def atN:AV->Bool
 |.s (.nI _)|.s (.qn _)=>true|_=>false
def abg(op:BinOp)(x y:AV):RM bQ:=
 match op,x.cC,y with
 |.gtr,some (.i64,_,a),.s (.nI b)=>plain [a<=(b:Int)] (.s (.aI false))|.gtr,some (.i64,_,a),.s (.qn b)=>plain [(b:Int)<=a] (.s (.aI true))|_,_,_=>.fail ""
def RM.afP{α:Type}(id:Nat):RM α->RM α
 |.ret a=>.ret a|.look j k=>bif j.beq id then(k (some .aw)).afP id else .look j λo=>(k o).afP id|.fail w=>.fail w
def RM.nc(id:Nat):RM bQ->RM bQ
 |.ret q=>.ret {q with up:=(id,.aw)::q.up}|.look j k=>.look j λo=>(k o).nc id|.fail w=>.fail w
def alg(id:Nat)(c:aU)(ev:Operand->AV):Operand->AV:=λx=>match ev x with
 |.vec j=>bif j.beq id then .s (.ro c)else .vec j|a=>a
def giveUp:List Nat->(Operand->AV)->((Operand->AV)->RM bQ)->RM bQ
 |[],ev,k=>k ev|id::ids,ev,k=>.look id λo=>match o with
  |some (.vec c _)=>((giveUp ids (alg id c ev) k).afP id).nc id|_=>.fail ""
def alh(ev:Operand->AV)(ps:List (Nat×Operand)):List Nat:=ps.filterMap λp=>match ev p.2 with
 |.vec j=>some j|_=>none
def vN(P:Program)(S:apo)(ev:Operand->AV)(o:Oper):RM bQ:=
 match o.op with
 |.binOp op t x y _=>bif afO (ev y)then atL P op t (qq (ev x))else bif atN (ev y)then abg op (qq (ev x)) (ev y)else qJ "binOp" (apk P op t (qq (ev x)) (ev y))|.buildSlice _ _ ps=>giveUp (alh ev ps.toList) (λx=>qq (ev x)) λev=>alf P S ev o|_=>alf P S (λx=>qq (ev x)) o
def bJ:List Prop->Prop
 |[]=>True|p::ps=>p/\bJ ps
theorem bt{k k':IntKind}(h:bT k k'=true):k=k':=by
 cases k<;>cases k'<;>first|rfl|(simp[bT]at h)
theorem oq{k:IntKind}(h:qo k=true):k=.i64:=by
 cases k<;>first|rfl|(simp[qo]at h)
theorem cq{n:Int}(h:aA n):i64.wrap n=n:=by
 have⟨h1,h2⟩:=h;rw[IntKind.wrap_i64];omega
section
variable{ρ:Nat->Value}{H:aS}{O:Nat->Prop}{w:World}{P:Program}
theorem aE{x:SV}{v:Value}(h:aW O w x v):af ρ H O w (.s x) v:=by
 cases x<;>unfold af<;>first|trivial|exact h
theorem ax{x:SV}{v:Value}(hx:x≠.aY)(h:af ρ H O w (.s x) v):aW O w x v:=by
 cases x<;>unfold af at h<;>first|exact(hx rfl).elim|exact h
theorem ch{x:AV}{v:Value}{k:IntKind}{l:Bool}{n:Int}(h:x.cC =some (k,l,n))(hd:af ρ H O w x v):v=.int k n:=by
 cases x with
 |s x=>
  cases x<;>simp only[AV.cC,Option.some.injEq,Prod.mk.injEq,reduceCtorEq]at h
  all_goals
   obtain⟨rfl, -,rfl⟩:=h;have:=ax (by simp) hd;cases this;rfl
 |_=>simp[AV.cC]at h
theorem kB{x:AV}{v:Value}{l b:Bool}(h:x.fM =some (l,b))(hd:af ρ H O w x v):v=.bool b:=by
 cases x with
 |s x=>
  cases x<;>simp only[AV.fM,Option.some.injEq,Prod.mk.injEq,reduceCtorEq]at h
  all_goals
   obtain⟨-,rfl⟩:=h;have:=ax (by simp) hd;cases this;rfl
 |_=>simp[AV.fM]at h
theorem fH{s:ByteArray}{v:Value}(hd:af ρ H O w (.s (.str s)) v):v=.string s:=by
 have:=ax (by simp) hd;cases this;rfl
theorem gW(l:Bool)(k:IntKind)(n:Int):af ρ H O w (mkInt l k n) (.int k n):=by
 unfold mkInt;cases l;exact aE (.int k n);exact aE (.aR k n)
theorem qR(l:Bool)(b:Bool):af ρ H O w (l7 l b) (.bool b):=by
 unfold l7;cases l;exact aE (.bool b);exact aE (.aI b)
theorem mq{l:Bool}{k:IntKind}{n:Int}(h:bJ (og l k n).1):af ρ H O w (og l k n).2 (.int k (k.wrap n)):=by
 unfold og at *;cases l;cases hk:qo k;exact aE (.int _ _);simp only[hk,cond_true,cond_false,bJ,and_true]at h ⊢;obtain rfl:=oq hk;rw[cq h];exact aE (.int _ _);exact aE (.aR _ _)
theorem gX(op:BinOp)(t:TypeId)(x y:Operand)(k k':IntKind)(a b:Int):(eqGuard op t x y (.int k a) (.int k' b)).run P w=.ok () w:=by
 cases op<;>simp[eqGuard]
theorem acL(op:BinOp)(t:TypeId)(x y:Operand)(a b:ByteArray):(eqGuard op t x y (.string a) (.string b)).run P w=.ok () w:=by
 cases op<;>simp[eqGuard]
theorem abh(op:BinOp)(t:TypeId)(x y:Operand)(a b:Bool):(eqGuard op t x y (.bool a) (.bool b)).run P w=.ok () w:=by
 cases op<;>simp[eqGuard]
theorem ou(op:BinOp)(t:TypeId)(x y:Operand)(a b:Option Addr):(eqGuard op t x y (.pointer a) (.pointer b)).run P w=.ok () w:=by
 cases op<;>simp[eqGuard]
theorem apq{l:Bool}{k:IntKind}{x y:Int}{q:List Prop×AV}
 (h:(bif l then([y≠0],AV.s (.aR k (k.wrap (x.tdiv y))))else bif qo k then([y≠0,aA (x.tdiv y)],.s (.int k (x.tdiv y)))else([y≠0],.s (.int k (k.wrap (x.tdiv y)))))=q)
 (hn:bJ q.1):y≠0/\af ρ H O w q.2 (.int k (k.wrap (x.tdiv y))):=by
 subst h;cases l;cases hk:qo k;simp only[hk,cond_false,bJ,and_true]at hn ⊢;exact⟨hn,aE (.int _ _)⟩;simp only[hk,cond_true,cond_false,bJ,and_true]at hn ⊢;obtain rfl:=oq hk;rw[cq hn.2];exact⟨hn.1,aE (.int _ _)⟩;simp only[cond_true,bJ,and_true]at hn ⊢;exact⟨hn,aE (.aR _ _)⟩
theorem tK{op:BinOp}{t:TypeId}{k:IntKind}{lx ly:Bool}{x y:Int}{q:List Prop×AV}(h:wT op k lx ly x y=some q)(hn:bJ q.1):
 ∃v,(binOp op t (.int k x) (.int k y)).run P w=.ok v w/\af ρ H O w q.2 v:=by
 cases op<;>simp only[wT,Option.some.injEq,reduceCtorEq]at h
 case add=>subst h;exact⟨_,by simp[binOp,Op.intArith],mq hn⟩
 case sub=>subst h;exact⟨_,by simp[binOp,Op.intArith],mq hn⟩
 case mul=>subst h;exact⟨_,by simp[binOp,Op.intArith],mq hn⟩
 case quo=>
  have⟨h0,hd⟩:=apq (ρ:=ρ) (H:=H) (O:=O) (w:=w) h hn;exact⟨_,by simp[binOp,Op.intDiv,h0],hd⟩
 case rem=>
  subst h;have h0:y≠0:=by simpa[bJ]using hn
  exact⟨_,by simp[binOp,Op.intDiv,h0],gW _ _ _⟩
 case and=>subst h;exact⟨.int k (bE .and k x y),by simp[binOp,Op.intBits,bE],gW _ _ _⟩
 case or=>subst h;exact⟨.int k (bE .or k x y),by simp[binOp,Op.intBits,bE],gW _ _ _⟩
 case xor=>subst h;exact⟨.int k (bE .xor k x y),by simp[binOp,Op.intBits,bE],gW _ _ _⟩
 case andNot=>subst h;exact⟨.int k (bE .andNot k x y),by simp[binOp,Op.intBits,bE],gW _ _ _⟩
 all_goals subst h;exact⟨_,by simp[binOp,Op.intCmp],qR _ _⟩
theorem aab{op:BinOp}{t:TypeId}{k k':IntKind}{l:Bool}{x y:Int}{q:List Prop×AV}(h:afx op k l x y=some q)(hn:bJ q.1):
 ∃v,(binOp op t (.int k x) (.int k' y)).run P w=.ok v w/\af ρ H O w q.2 v:=by
 cases op<;>simp only[afx,Option.some.injEq,reduceCtorEq]at h
 all_goals
  subst h;have h0:0<=y:=by simpa[bJ]using hn
  exact⟨_,by simp[binOp,Op.shift,Int.not_lt.2 h0],gW _ _ _⟩
theorem afQ(a b:ByteArray):(a.toList==b.toList)=decide (a=b):=by
 rw[ByteArray.toList_eq,ByteArray.toList_eq,Bool.eq_iff_iff];simp only[beq_iff_eq,decide_eq_true_eq];constructor;intro h;cases a;cases b;simp only[ByteArray.mk.injEq]at *;exact toList_inj.1 h;rintro rfl;rfl
theorem ajq{op:BinOp}{t:TypeId}{x y:ByteArray}{q:List Prop×AV}(h:afy op x y=some q)(hn:bJ q.1):
 ∃v,(binOp op t (.string x) (.string y)).run P w=.ok v w/\af ρ H O w q.2 v:=by
 cases op<;>simp only[afy,Option.some.injEq,reduceCtorEq]at h
 case add=>
  subst h;have h0:x.size+y.size<=4611686018427387904:=by simpa[bJ]using hn
  exact⟨.string (x++y),by simp[binOp,Op.stringOp];omega,aE (.str _)⟩
 all_goals subst h;exact⟨_,by simp only[binOp,Op.stringOp,afQ];rfl,by first|exact aE (.bool _)|(simp only[slt,ByteArray.toList_eq];exact aE (.bool _))⟩
theorem atO{op:UnOp}{x:AV}{vx:Value}{q:List Prop×AV}(h:unR op x=some q)(hn:bJ q.1)(hx:af ρ H O w x vx):
 ∃v,(Op.unary op vx).run P w=.ok v w/\af ρ H O w q.2 v:=by
 unfold unR at h;split at h<;>simp only[Option.some.injEq,reduceCtorEq]at h<;>subst h;have h1:=ax (by simp) hx;cases h1;exact⟨_,by simp only[Op.unary,Sem.run_pure],aE (.bool _)⟩;have h1:=ax (by simp) hx;cases h1;exact⟨_,by simp only[Op.unary,Sem.run_pure],aE (.aI _)⟩;have h1:=ax (by simp) hx;cases h1;exact⟨_,by simp only[Op.unary,Op.intArith,Sem.run_pure],mq hn⟩;have h1:=ax (by simp) hx;cases h1;exact⟨_,by simp only[Op.unary,Op.intArith,Sem.run_pure],mq hn⟩
theorem ali{c a b:AV}{vc va vb:Value}{q:List Prop×AV}(h:ak6 c a b=some q)(hc:af ρ H O w c vc)(ha:af ρ H O w a va)(hb:af ρ H O w b vb):
 ∃t,vc=.bool t/\af ρ H O w q.2 (if t then va else vb):=by
 unfold ak6 at h;split at h;simp only[Option.some.injEq]at h;subst h;have h1:=ax (by simp) hc;cases h1;exact⟨true,rfl,ha⟩;simp only[Option.some.injEq]at h;subst h;have h1:=ax (by simp) hc;cases h1;exact⟨false,rfl,hb⟩;rename_i t;have h1:=ax (by simp) hc;cases h1;refine⟨t,rfl, ?_⟩;split at h;rename_i la x lb y h2 h3;simp only[Option.some.injEq]at h;subst h;obtain rfl:=kB h2 ha;obtain rfl:=kB h3 hb;cases t;exact aE (.bool _);exact aE (.bool _);split at h;rename_i k la x k' lb y h2 h3;rw[cond_eq_ite]at h;split at h;rename_i hk;obtain rfl:=bt hk;simp only[Option.some.injEq]at h;subst h;obtain rfl:=ch h2 ha;obtain rfl:=ch h3 hb;cases t;exact aE (.int _ _);exact aE (.int _ _);cases h;cases h;cases h
end
def abi(fr:Nat×Nat)(cells:List Value):Prop:=(∀off,off<=cells.length->¬(fr.1<=off/\off<fr.2))/\∀u∈cells,u.oneCell'=true
def unm(fr:Nat×Nat)(n:Nat):Prop:=∀off,off<n->¬(fr.1<=off/\off<fr.2)
theorem abi.unm{fr:Nat×Nat}{cells:List Value}(h:abi fr cells):unm fr cells.length:=λoff ho=>h.1 off (Nat.le_of_lt ho)
theorem abi.over{fr:Nat×Nat}{cells bM:List Value}{k:Nat}(h:abi fr cells)(hn:∀v∈bM,v.oneCell'=true)(hl:k+bM.length<=cells.length):abi fr (cells.take k++bM++cells.drop (k+bM.length)):=by
 refine⟨λoff ho=>h.1 off ?_,λu hu=> ?_⟩;simp only[length_append,length_take,length_drop]at ho;omega;simp only[mem_append]at hu;rcases hu with(hu|hu)|hu;exact h.2 u (List.mem_of_mem_take hu);exact hn u hu;exact h.2 u (List.mem_of_mem_drop hu)
def CK.val:(c:CK)->c.V->Value
 |.int k,v=>.int k v|.bool,v=>.bool v|.str,v=>.string v|.arr k _,v=>.agg (List.map (α:=Int) (Value.int k) v).toArray|_,_=>undef
def CK.fits:(c:CK)->c.V->Prop
 |.arr _ n,v=>List.length (α:=Int) v=n|_,_=>True
structure jx (ck:CK) (m:List (Int×ck.V)) (es:List MapEntry) (clock:Nat):Prop where
 eq:es.map (λe=>(e.key,e.val))=m.map (λp=>(Value.int .i64 p.1,ck.val p.2))
 keys:(m.map (·.1)).Nodup
 w5:(es.map (·.born)).Nodup
 old:∀e∈es,e.born<clock
 fits:∀p∈m,ck.fits p.2
def acM(es:Array MapEntry)(clock:Nat):Value:=.tuple #[.int .i64 clock,.tuple (es.map λe=>.tuple #[e.key,e.val,.int .i64 (e.born:Int)])]
structure w6 (ck:CK) (left:List (Int×ck.V)) (cur:Option (Int×ck.V)) (es:Array MapEntry) (clock:Nat) (seen:Array Nat):Prop where
 eq:(es.toList.filter λe=> !seen.contains e.born).map (λe=>(e.key,e.val))=left.map (λp=>(.int .i64 p.1,ck.val p.2))
 fits:∀p∈left,ck.fits p.2
 w5:(es.toList.map (·.born)).Nodup
 old:∀e∈es.toList,e.born<clock
 cur:∀p,cur=some p->ck.fits p.2/\∃e,e∈es.toList/\seen.back? =some e.born/\e.key=.int .i64 p.1/\e.val=ck.val p.2
def iv(ρ:Nat->Value)(H:aS)(O:Nat->Prop)(w:World)(aa:Value):ak->Prop
 |.aw=>True|.map ck m=>∃(b:Nat) (es:Array MapEntry) (clock:Nat),aa=.map (some b)/\w.heap[b]? =some (.map es clock)/\jx ck m es.toList clock|.ig ck m gid=>∃(b:Nat) (es:Array MapEntry) (clock:Nat),aa=.map (some b)/\w.heap[b]? =some (.map es clock)/\jx ck m es.toList clock/\ρ gid=acM es clock/\(H gid).isSome=true|.iter mid gid ck left cur=>∃(b mb:Nat) (es:Array MapEntry) (clock:Nat) (seen:Array Nat),aa=.pointer (some ⟨b,0,none⟩)/\w.heap[b]? =some (.mapIter (some mb) clock seen clock)/\w6 ck left cur es clock seen/\
  ρ gid=acM es clock/\(H gid).isSome=true/\ρ mid=.map (some mb)/\(H mid).isSome=true
 |.aq ay e=>∃(b:Nat) (cells:List Value) (fr:Nat×Nat),aa=.pointer (some ⟨b,0,none⟩)/\w.heap[b]? =some (.cells cells.toArray e fr)/\unm fr cells.length/\az ρ H O w ay cells|.vec c e=>∃(a:Option Addr) (cap:Nat),aa=.slice a c.n cap/\c.n<=cap/\cap<=maxLen/\(cap=0\/
  ∃(b o:Nat) (cells:List Value) (fr:Nat×Nat) (us:Nat->Nat->Value),a=some ⟨b,o,none⟩/\w.heap[b]? =some (.cells cells.toArray e fr)/\abi fr cells/\o+cap*c.size<=cells.length/\
   ∀i j,i<c.n->j<c.size->cells[o+i*c.size+j]? =some (us i j)/\aW O w (c.cell i j) (us i j))
structure Sat (ρ:Nat->Value) (H:aS) (G:Nat->Prop) (w:World):Prop where
 obj:∀id o,H id=some o->iv ρ H (aV ρ H G) w (ρ id) o
 inj:∀i j oi oj b,H i=some oi->H j=some oj->oi.alive=true->oj.alive=true->eW (ρ i)=some b->eW (ρ j)=some b->i=j
 apart:∀b,Own ρ H b->¬G b
 low:∀b,G b->b<w.heap.size
structure Frm (ρ:Nat->Value) (H:aS) (w w':World):Prop where
 os:w'.os=w.os
 tape:w'.tape=w.tape
 output:w'.output=w.output
 heap:∀b,b<w.heap.size->¬Own ρ H b->w'.heap[b]? =w.heap[b]?
def Good(ρ:Nat->Value)(H:aS)(G:Nat->Prop)(w:World)(H':aS)(r:AV)(v:Value)(w':World):Prop:=
 ∃aL,Sat aL H' G w'/\af aL H' (aV aL H' G) w' r v/\Step ρ H (aV ρ H G) w aL H' (aV aL H' G) w'/\Frm ρ H w w'
section
variable{ρ aL:Nat->Value}{H H':aS}{G O O':Nat->Prop}{w w':World}{P:Program}
theorem iv.step(st:Step ρ H O w aL H' O' w'){aa:Value}{o:ak}(h:iv ρ H O w aa o)(hb:∀b,o.alive=true->eW aa=some b->w'.heap[b]? =w.heap[b]?):
 iv aL H' O' w' aa o:=by
 cases o with
 |aw=>trivial|map ck m=>
  obtain⟨b,es,clock,rfl,h1,h2⟩:=h;exact⟨b,es,clock,rfl,by rw[hb b rfl rfl];exact h1,h2⟩
 |ig ck m gid=>
  obtain⟨b,es,clock,rfl,h1,h2,h3,h4⟩:=h;have⟨o,ho⟩:=isSome_iff_exists.1 h4;have⟨o',dH,_⟩:=st.keep gid o ho;exact⟨b,es,clock,rfl,by rw[hb b rfl rfl];exact h1,h2,by rw[st.wR gid o ho];exact h3,by rw[dH];rfl⟩
 |iter mid gid ck left cur=>
  obtain⟨b,mb,es,clock,seen,rfl,h1,h2,h3,h4,h5,h6⟩:=h;have⟨o,ho⟩:=isSome_iff_exists.1 h4;have⟨o',dH,_⟩:=st.keep gid o ho;have⟨p,hp⟩:=isSome_iff_exists.1 h6;have⟨p',hp',_⟩:=st.keep mid p hp;exact⟨b,mb,es,clock,seen,rfl,by rw[hb b rfl rfl];exact h1,h2,by rw[st.wR gid o ho];exact h3,by rw[dH];rfl,by rw[st.wR mid p hp];exact h5,by rw[hp'];rfl⟩
 |aq ay e=>
  obtain⟨b,cells,fr,rfl,h1,h2,h3⟩:=h;exact⟨b,cells,fr,rfl,by rw[hb b rfl rfl];exact h1,h2,h3.step st⟩
 |vec c e=>
  obtain⟨a,cap,rfl,h1,h2,h3⟩:=h;refine⟨a,cap,rfl,h1,h2, ?_⟩;rcases h3 with h3|⟨b,o,cells,fr,us,rfl,h4,h5,h6,h7⟩;exact .inl h3;by_cases hc:cap=0;exact .inl hc;refine .inr ⟨b,o,cells,fr,us,rfl,by rw[hb b rfl (by simp[eW,hc])];exact h4,h5,h6,λi j hi hj=> ?_⟩;have⟨h8,h9⟩:=h7 i j hi hj;exact⟨h8,h9.step st.gq st.heap st.size⟩
theorem Good.val(hs:Sat ρ H G w){r:AV}{v:Value}(h:af ρ H (aV ρ H G) w r v):Good ρ H G w H r v w:=
 ⟨ρ,hs,h,Step.refl _ _ _ _,rfl,rfl,rfl,λ_ _ _=>rfl⟩
theorem gQ(hs:Sat ρ H G w){b:Nat}(h:Own ρ H b):b<w.heap.size:=by
 have⟨id,o,ho,ha,hb⟩:=h;have dT:=hs.obj id o ho;cases o with
 |aw=>simp[ak.alive]at ha|map ck m=>
  have⟨b',es,clock,h0,h1,_⟩:=dT;rw[h0]at hb;simp only[eW,Option.some.injEq]at hb;subst hb;exact(Array.getElem?_eq_some_iff.1 h1).1
 |ig ck m gid=>
  have⟨b',es,clock,h0,h1,_⟩:=dT;rw[h0]at hb;simp only[eW,Option.some.injEq]at hb;subst hb;exact(Array.getElem?_eq_some_iff.1 h1).1
 |iter mid gid ck left cur=>
  have⟨b',mb,es,clock,seen,h0,h1,_⟩:=dT;rw[h0]at hb;simp only[eW,Option.some.injEq]at hb;subst hb;exact(Array.getElem?_eq_some_iff.1 h1).1
 |aq ay e=>
  have⟨b',cells,fr,h0,h1,_⟩:=dT;rw[h0]at hb;simp only[eW,Option.some.injEq]at hb;subst hb;exact(Array.getElem?_eq_some_iff.1 h1).1
 |vec c e=>
  have⟨a,cap,h0,h1,_,h3⟩:=dT;rw[h0]at hb;rcases h3 with rfl|⟨b',o,cells,fr,us,rfl,h4,_⟩;cases a<;>simp[eW]at hb;simp only[eW]at hb;split at hb;cases hb;simp only[Option.some.injEq]at hb;subst hb;exact(Array.getElem?_eq_some_iff.1 h4).1
theorem abj(hs:Sat ρ H G w){b:Nat}(h:aV ρ H G b):b<w.heap.size:=h.elim (gQ hs) (hs.low b)
theorem tL:∀(x:AV) (cs:List Value),aQ ρ H O w x cs->cs.length=x.wide:=by
 intro x cs h;cases x<;>unfold aQ at h
 case ah k n ws=>obtain⟨h1,rfl⟩:=h;simp[AV.wide,h1]
 case agg=>exact h.elim
 case bq=>exact h.elim
 all_goals (obtain⟨u,rfl,_⟩:=h;rfl)
theorem aC{cs:List Value}:az ρ H O w [] cs↔cs=[]:=by unfold az;exact Iff.rfl
theorem ag{a:AV}{aP:List AV}{cs:List Value}:az ρ H O w (a::aP) cs↔ ∃c1 c2,cs=c1++c2/\aQ ρ H O w a c1/\az ρ H O w aP c2:=by
 rw[az]
theorem a8{cs:List Value}:bL ρ H O w [] cs↔cs=[]:=by unfold bL;exact Iff.rfl
theorem aD{a:AV}{aP:List AV}{cs:List Value}:bL ρ H O w (a::aP) cs↔ ∃v rest,cs=v::rest/\af ρ H O w a v/\bL ρ H O w aP rest:=by
 rw[bL]
theorem fP{aP bs:List AV}:∀{cs:List Value},az ρ H O w (aP++bs) cs↔ ∃c1 c2,cs=c1++c2/\az ρ H O w aP c1/\az ρ H O w bs c2:=by
 induction aP with
 |nil=>
  intro cs;simp only[nil_append,aC];exact⟨λh=>⟨[],cs,rfl,rfl,h⟩,λ⟨c1,c2,h1,h2,h3⟩=>by subst h2;subst h1;exact h3⟩
 |cons a aP ih=>
  intro cs;simp only[cons_append,ag,ih];constructor;rintro⟨c1,c2,rfl,h1,c3,c4,rfl,h2,h3⟩;exact⟨c1++c3,c4,by simp,⟨c1,c3,rfl,h1,h2⟩,h3⟩;rintro⟨c1,c2,rfl,⟨c3,c4,rfl,h1,h2⟩,h3⟩;exact⟨c3,c4++c2,by simp,h1,c4,c2,rfl,h2,h3⟩
theorem jy:∀{aP:List AV} {cs:List Value},az ρ H O w aP cs->cs.length=gr aP
 |[],cs,h=>by rw[aC.1 h];rfl
 |a::aP,cs,h=>by
  obtain⟨c1,c2,rfl,h1,h2⟩:=ag.1 h;simp[gr,tL a c1 h1,jy h2]
theorem fQ:∀(ay:List AV) (n:Nat) {cs:List Value} {ss:List AV},fN ay n=some ss->az ρ H O w ay cs->n<=cs.length/\az ρ H O w ss (cs.drop n)
 |ay,0,cs,ss,h,hd=>by
  cases ay<;>(simp only[fN,Option.some.injEq]at h;subst h;exact⟨zero_le _,by simpa using hd⟩)
 |[],n+1,cs,ss,h,hd=>by simp[fN]at h
 |a::aP,n+1,cs,ss,h,hd=>by
  obtain⟨c1,c2,rfl,h1,h2⟩:=ag.1 hd;simp only[fN,cond_eq_ite]at h;split at h;rename_i hw;have hw:=le_of_ble_eq_true hw;have⟨h3,h4⟩:=fQ aP _ h h2;have hl:=tL a c1 h1;refine⟨by simp;omega, ?_⟩;rw[List.drop_append];have e1:c1.drop (n+1)=[]:=List.drop_eq_nil_of_le (by omega);rw[e1,nil_append,hl];exact h4;cases h
theorem fR:∀(ay:List AV) (n:Nat) {cs:List Value} {ss:List AV},fO ay n=some ss->az ρ H O w ay cs->n<=cs.length/\az ρ H O w ss (cs.take n)
 |ay,0,cs,ss,h,hd=>by
  cases ay<;>(simp only[fO,Option.some.injEq]at h;subst h;exact⟨zero_le _,by simp[aC]⟩)
 |[],n+1,cs,ss,h,hd=>by simp[fO]at h
 |a::aP,n+1,cs,ss,h,hd=>by
  obtain⟨c1,c2,rfl,h1,h2⟩:=ag.1 hd;simp only[fO,cond_eq_ite]at h;split at h;rename_i hw;simp only[and_eq_true]at hw;have hw1:=le_of_ble_eq_true hw.1;have hw2:=le_of_ble_eq_true hw.2;simp only[map_eq_some_iff]at h;obtain⟨ss',h3,rfl⟩:=h;have⟨h4,h5⟩:=fR aP _ h3 h2;have hl:=tL a c1 h1;refine⟨by simp;omega,ag.2 ⟨c1,c2.take (n+1 - a.wide), ?_,h1,h5⟩⟩;rw[List.take_append,hl,take_of_length_le (by omega)];cases h
theorem fT{a:AV}{cs:List Value}(h:aQ ρ H O w a cs)(ha:a.wide=1)(hi:∀k n ws,a≠.ah k n ws):∃u,cs=[u]/\u.oneCell'=true/\af ρ H O w a u:=by
 cases a<;>unfold aQ at h
 case ah k n ws=>exact(hi k n ws rfl).elim
 case agg=>exact h.elim
 case bq=>exact h.elim
 case fv id=>obtain⟨u,rfl,h1⟩:=h;exact⟨u,rfl,by unfold aN at h1;obtain⟨b,_,rfl,_⟩:=h1;rfl,by unfold af;exact h1⟩
 case tag id=>obtain⟨u,rfl,h1⟩:=h;exact⟨u,rfl,by unfold aN at h1;exact h1.2.1,by unfold af;exact h1⟩
 case s x=>obtain⟨u,rfl,h1⟩:=h;exact⟨u,rfl,h1.one,aE h1⟩
 case ptr id off=>obtain⟨u,rfl,h1⟩:=h;exact⟨u,rfl,by unfold aN at h1;obtain⟨b,_,rfl,_⟩:=h1;rfl,by unfold af;exact h1⟩
 case kN id off n i=>obtain⟨u,rfl,h1⟩:=h;exact⟨u,rfl,by unfold aN at h1;obtain⟨_,b,_,rfl,_⟩:=h1;rfl,by unfold af;exact h1⟩
 case ke c m j=>obtain⟨u,rfl,h1⟩:=h;exact⟨u,rfl,by unfold aN at h1;obtain⟨b,o,us,rfl,_⟩:=h1;rfl,by unfold af;exact h1⟩
 case vec id=>obtain⟨u,rfl,h1⟩:=h;exact⟨u,rfl,by unfold aN at h1;exact h1.1,by unfold af;exact h1⟩
 case gP id i j=>obtain⟨u,rfl,h1⟩:=h;exact⟨u,rfl,by unfold aN at h1;exact h1.1,by unfold af;exact h1⟩
 case part id lo n=>obtain⟨u,rfl,h1⟩:=h;exact⟨u,rfl,by unfold aN at h1;exact h1.1,by unfold af;exact h1⟩
 case sub id off n=>obtain⟨u,rfl,h1⟩:=h;exact⟨u,rfl,by unfold aN at h1;exact h1.1,by unfold af;exact h1⟩
 case lJ id i j n=>obtain⟨u,rfl,h1⟩:=h;exact⟨u,rfl,by unfold aN at h1;exact h1.1,by unfold af;exact h1⟩
 case emp=>obtain⟨u,rfl,a,rfl⟩:=h;exact⟨_,rfl,rfl,by unfold af;exact⟨a,rfl⟩⟩
 case fn f dv=>obtain⟨u,rfl,vs,rfl,h1⟩:=h;exact⟨_,rfl,rfl,by unfold af;exact⟨vs,rfl,h1⟩⟩
 case z6 f dv=>obtain⟨u,rfl,vs,rfl,h1⟩:=h;exact⟨_,rfl,rfl,by unfold af;exact⟨vs,rfl,h1⟩⟩
theorem kP{a:AV}{u:Value}(ha:a.single=true)(h:af ρ H O w a u):aQ ρ H O w a [u]/\u.oneCell'=true:=by
 cases a<;>simp only[AV.single,reduceCtorEq]at ha
 case s x=>
  have h1:aW O w x u:=ax (by rintro rfl;simp at ha) h;exact⟨by unfold aQ;exact⟨u,rfl,h1⟩,h1.one⟩
 case ptr id off=>unfold af at h;exact⟨by unfold aQ;exact⟨u,rfl,h⟩,by unfold aN at h;obtain⟨b,_,rfl,_⟩:=h;rfl⟩
 case kN id off n i=>unfold af at h;exact⟨by unfold aQ;exact⟨u,rfl,h⟩,by unfold aN at h;obtain⟨_,b,_,rfl,_⟩:=h;rfl⟩
 case ke c m j=>unfold af at h;exact⟨by unfold aQ;exact⟨u,rfl,h⟩,by unfold aN at h;obtain⟨b,o,us,rfl,_⟩:=h;rfl⟩
 case vec id=>unfold af at h;exact⟨by unfold aQ;exact⟨u,rfl,h⟩,by unfold aN at h;exact h.1⟩
 case gP id i j=>unfold af at h;exact⟨by unfold aQ;exact⟨u,rfl,h⟩,by unfold aN at h;exact h.1⟩
 case part id lo n=>unfold af at h;exact⟨by unfold aQ;exact⟨u,rfl,h⟩,by unfold aN at h;exact h.1⟩
 case sub id off n=>unfold af at h;exact⟨by unfold aQ;exact⟨u,rfl,h⟩,by unfold aN at h;exact h.1⟩
 case lJ id i j n=>unfold af at h;exact⟨by unfold aQ;exact⟨u,rfl,h⟩,by unfold aN at h;exact h.1⟩
 case emp=>unfold af at h;exact⟨by unfold aQ;exact⟨u,rfl,h⟩,by obtain⟨a,rfl⟩:=h;rfl⟩
 case fn f dv=>unfold af at h;exact⟨by unfold aQ;exact⟨u,rfl,h⟩,by obtain⟨vs,rfl,_⟩:=h;rfl⟩
 case z6 f dv=>unfold af at h;exact⟨by unfold aQ;exact⟨u,rfl,h⟩,by obtain⟨vs,rfl,_⟩:=h;rfl⟩
 case fv id=>unfold af at h;exact⟨by unfold aQ;exact⟨u,rfl,h⟩,by unfold aN at h;obtain⟨b,_,rfl,_⟩:=h;rfl⟩
 case tag id=>unfold af at h;exact⟨by unfold aQ;exact⟨u,rfl,h⟩,by unfold aN at h;exact h.2.1⟩
theorem gR{a:AV}(h:∀k n ws,a≠.ah k n ws):a.wide=1:=by
 cases a<;>first|rfl|(exact(h _ _ _ rfl).elim)
end
section
variable{ρ aL:Nat->Value}{H H':aS}{G O O':Nat->Prop}{w w':World}{P:Program}
theorem abk{a:AV}(h:∀k n ws,a≠.ah k n ws)(aP:List AV)(off:Nat):cellAt (a::aP) off=match off with|0=>some a|m+1=>cellAt aP m:=by
 cases a<;>first|(cases off<;>rfl)|(exact(h _ _ _ rfl).elim)
theorem vO{a:AV}(h:∀k n ws,a≠.ah k n ws)(aP:List AV)(off:Nat)(v:AV):gU (a::aP) off v=match off with|0=>some (v::aP)|m+1=>(gU aP m v).map (a:: ·):=by
 cases a<;>first|(cases off<;>rfl)|(exact(h _ _ _ rfl).elim)
theorem rM{a:AV}(h:∀k n ws,a≠.ah k n ws)(aP:List AV)(off:Nat):jR (a::aP) off=match off with|0=>none|m+1=>jR aP m:=by
 cases a<;>first|(cases off<;>rfl)|(exact(h _ _ _ rfl).elim)
theorem w7{a:AV}(h:∀k n ws,a≠.ah k n ws)(aP:List AV)(off:Nat)(v:List Int):kO (a::aP) off v=match off with|0=>none|m+1=>(kO aP m v).map (a:: ·):=by
 cases a<;>first|(cases off<;>rfl)|(exact(h _ _ _ rfl).elim)
theorem tM(a:AV):(∃k n ws,a=.ah k n ws)\/∀k n ws,a≠.ah k n ws:=by
 cases a<;>first|(exact .inl ⟨_,_,_,rfl⟩)|(exact .inr (by simp))
theorem db{k:IntKind}{n:Nat}{ws:List Int}{cs:List Value}:aQ ρ H O w (.ah k n ws) cs↔ws.length=n/\cs=ws.map (Value.int k):=by
 unfold aQ;exact Iff.rfl
theorem mu:∀(ay:List AV) (off:Nat) {cs:List Value} {v:AV},cellAt ay off=some v->az ρ H O w ay cs->∃u,cs[off]? =some u/\u.oneCell'=true/\af ρ H O w v u
 |[],off,cs,v,h,_=>by simp[cellAt]at h
 |a::aP,off,cs,v,h,hd=>by
  obtain⟨c1,c2,rfl,h1,h2⟩:=ag.1 hd;rcases tM a with⟨k,n,ws,rfl⟩|ha;obtain⟨hl,rfl⟩:=db.1 h1;simp only[cellAt,cond_eq_ite]at h;split at h;rename_i bo;have bo:off<n:=by simpa[Nat.blt,Nat.lt_iff_add_one_le]using bo
  simp only[Option.some.injEq]at h;subst h;have hx:off<ws.length:=by omega
  exact⟨.int k ws[off],by rw[getElem?_append_left (by simpa using hx)];simp[hx],rfl,by rw[show ws.getD off 0=ws[off]from by simp[List.getD,hx]];exact aE (.int _ _)⟩;rename_i bo;have bo:¬off<n:=by simpa[Nat.blt,Nat.lt_iff_add_one_le]using bo
  have⟨u,h3,h4⟩:=mu aP (off - n) h h2;exact⟨u,by rw[getElem?_append_right (by simp;omega)];simpa[hl]using h3,h4⟩;rw[abk ha]at h;obtain⟨u,rfl,h3,h4⟩:=fT h1 (gR ha) ha;cases off with
  |zero=>simp only[Option.some.injEq]at h;subst h;exact⟨u,rfl,h3,h4⟩|succ m=>
   have⟨u',h5,h6⟩:=mu aP m h h2;exact⟨u',by simpa using h5,h6⟩
theorem ng:∀(ay:List AV) (off:Nat) {cs:List Value} {v:AV} {u:Value} {dd:List AV},gU ay off v=some dd->az ρ H O w ay cs->v.single=true->af ρ H O w v u->
 off<cs.length/\az ρ H O w dd (cs.set off u)
 |[],off,cs,v,u,dd,h,_,_,_=>by simp[gU]at h
 |a::aP,off,cs,v,u,dd,h,hd,hv,hu=>by
  obtain⟨c1,c2,rfl,h1,h2⟩:=ag.1 hd;rcases tM a with⟨k,n,ws,rfl⟩|ha;obtain⟨hl,rfl⟩:=db.1 h1;simp only[gU,cond_eq_ite]at h;split at h;rename_i bo;have bo:off<n:=by simpa[Nat.blt,Nat.lt_iff_add_one_le]using bo
  split at h;rename_i k' l x hx;split at h;rename_i hk;obtain rfl:=bt hk;simp only[Option.some.injEq]at h;subst h;obtain rfl:=ch hx hu;refine⟨by simp;omega,ag.2 ⟨(ws.set off x).map (Value.int k),c2, ?_,db.2 ⟨by simp[hl],rfl⟩,h2⟩⟩;rw[List.set_append_left _ _ (by simp;omega),List.map_set];cases h;cases h;rename_i bo;have bo:¬off<n:=by simpa[Nat.blt,Nat.lt_iff_add_one_le]using bo
  simp only[map_eq_some_iff]at h;obtain⟨ss,h3,rfl⟩:=h;have⟨h4,h5⟩:=ng aP (off - n) h3 h2 hv hu;refine⟨by simp;omega,ag.2 ⟨_,c2.set (off - n) u, ?_,db.2 ⟨hl,rfl⟩,h5⟩⟩;rw[List.set_append_right _ _ (by simp;omega)];simp[hl];rw[vO ha]at h;obtain⟨u0,rfl,h3,h4⟩:=fT h1 (gR ha) ha;cases off with
  |zero=>
   simp only[Option.some.injEq]at h;subst h;exact⟨by simp,ag.2 ⟨[u],c2,rfl,(kP hv hu).1,h2⟩⟩
  |succ m=>
   simp only[map_eq_some_iff]at h;obtain⟨ss,h5,rfl⟩:=h;have⟨h6,h7⟩:=ng aP m h5 h2 hv hu;exact⟨by simp;omega,ag.2 ⟨[u0],c2.set m u,rfl,h1,h7⟩⟩
theorem pJ:∀(ay:List AV) (off:Nat) {cs:List Value} {k:IntKind} {n:Nat} {ws:List Int},jR ay off=some (k,n,ws)->az ρ H O w ay cs->
 ws.length=n/\∃pre post,cs=pre++ws.map (Value.int k)++post/\pre.length=off
 |[],off,cs,k,n,ws,h,_=>by simp[jR]at h
 |a::aP,off,cs,k,n,ws,h,hd=>by
  obtain⟨c1,c2,rfl,h1,h2⟩:=ag.1 hd;rcases tM a with⟨k',n',nS,rfl⟩|ha;obtain⟨hl,rfl⟩:=db.1 h1;simp only[jR,cond_eq_ite]at h;split at h;rename_i h0;have h0:off=0:=by simpa using h0
  subst h0;simp only[Option.some.injEq,Prod.mk.injEq]at h;obtain⟨rfl,rfl,rfl⟩:=h;exact⟨hl,[],c2,by simp,rfl⟩;split at h;cases h;rename_i bo;have bo:¬off<n':=by simpa[Nat.blt,Nat.lt_iff_add_one_le]using bo
  obtain⟨h3,pre,post,rfl,h4⟩:=pJ aP (off - n') h h2;exact⟨h3,nS.map (Value.int k')++pre,post,by simp,by simp;omega⟩;rw[rM ha]at h;obtain⟨u0,rfl,h3,h4⟩:=fT h1 (gR ha) ha;cases off with
  |zero=>cases h
  |succ m=>
   obtain⟨h3,pre,post,rfl,h4⟩:=pJ aP m h h2;exact⟨h3,u0::pre,post,by simp,by simp[h4]⟩
theorem ov:∀(ay:List AV) (off:Nat) {pre post:List Value} {k:IntKind} {n:Nat} {ws nS:List Int} {dd:List AV},jR ay off=some (k,n,ws)->kO ay off nS=some dd->nS.length=ws.length->
 az ρ H O w ay (pre++ws.map (Value.int k)++post)->pre.length=off->az ρ H O w dd (pre++nS.map (Value.int k)++post)
 |[],off,_,_,k,n,ws,_,_,h,_,_,_,_=>by simp[jR]at h
 |a::aP,off,pre,post,k,n,ws,nS,dd,h,hs,bB,hd,hp=>by
  have⟨c1,c2,hc,h1,h2⟩:=ag.1 hd;rcases tM a with⟨k',n',ws1,rfl⟩|ha;obtain⟨hl,rfl⟩:=db.1 h1;simp only[jR,kO,cond_eq_ite]at h hs;split at h;rename_i h0;have h0':off=0:=by simpa using h0
  subst h0';simp only[Option.some.injEq,Prod.mk.injEq]at h;obtain⟨rfl,rfl,rfl⟩:=h;rw[if_pos h0]at hs;simp only[Option.some.injEq]at hs;subst hs;obtain rfl:pre=[]:=List.eq_nil_of_length_eq_zero hp;simp only[nil_append]at hc ⊢;have:=List.append_cancel_left hc;subst this;exact ag.2 ⟨_,post,rfl,db.2 ⟨by omega,rfl⟩,h2⟩;rename_i h0;rw[if_neg h0]at hs;split at h;cases h;rename_i bo;rw[if_neg bo]at hs;have bo:¬off<n':=by simpa[Nat.blt,Nat.lt_iff_add_one_le]using bo
  simp only[map_eq_some_iff]at hs;obtain⟨ss,h3,rfl⟩:=hs;have hpl:(ws1.map (Value.int k')).length<=pre.length:=by simp;omega
  obtain⟨apr,rfl⟩:∃apr,pre=ws1.map (Value.int k')++apr:=by
   rw[append_assoc]at hc;have⟨x,hx⟩:=List.prefix_of_prefix_length_le (⟨_,rfl⟩:ws1.map (Value.int k')<+:ws1.map (Value.int k')++c2) (⟨_,hc⟩:pre<+:_) hpl;exact⟨x,hx.symm⟩
  simp only[append_assoc]at hc ⊢;have hc':=List.append_cancel_left hc;subst hc';have hp':apr.length=off - n':=by simp at hp;omega
  exact ag.2 ⟨_,_,rfl,h1,by simpa using ov aP (off - n') h h3 bB (by simpa using h2) hp'⟩;rw[rM ha]at h;rw[w7 ha]at hs;obtain⟨u0,rfl,h3,h4⟩:=fT h1 (gR ha) ha;cases off with
  |zero=>cases h
  |succ m=>
   simp only[map_eq_some_iff]at hs;obtain⟨ss,h5,rfl⟩:=hs;cases pre with
   |nil=>simp at hp|cons p apr=>
    simp only[cons_append,List.cons.injEq,nil_append]at hc;obtain⟨rfl,hc'⟩:=hc;simp only[length_cons,Nat.add_right_cancel_iff]at hp;rw[<-hc']at h2;exact ag.2 ⟨[p],_,rfl,h1,by simpa using ov aP m h h5 bB (by simpa using h2) hp⟩
theorem ajr{ay jY dd:List AV}{off:Nat}{cs vs:List Value}(h:afz ay off jY=some dd)(hd:az ρ H O w ay cs)(hb:az ρ H O w jY vs):
 off+vs.length<=cs.length/\az ρ H O w dd (cs.take off++vs++cs.drop (off+vs.length)):=by
 unfold afz at h;split at h;rename_i k n ws x;split at h;rename_i k' li z hx;rw[cond_eq_ite]at h;split at h;rename_i hc;simp only[and_eq_true]at hc;have⟨hk,bo⟩:=hc;have bo:off<n:=Nat.lt_of_lt_of_le (Nat.lt_succ_self _) (le_of_ble_eq_true bo);obtain rfl:=bt hk;simp only[Option.some.injEq]at h;subst h;obtain⟨c1,c2,rfl,h1,h2⟩:=ag.1 hd;obtain rfl:=aC.1 h2;obtain⟨hl,rfl⟩:=db.1 h1;obtain⟨d1,d2,rfl,h3,h4⟩:=ag.1 hb;obtain rfl:=aC.1 h4
 have hv:d1=[.int k z]:=by
  cases x with
  |s y=>
   unfold aQ at h3;obtain⟨u,rfl,h5⟩:=h3;cases y<;>simp only[AV.cC,Option.some.injEq,Prod.mk.injEq,reduceCtorEq]at hx
   all_goals
    obtain⟨rfl,_,rfl⟩:=hx;cases h5;rfl
  |_=>simp only[AV.cC,reduceCtorEq]at hx
 subst hv;simp only[append_nil,length_map,List.length_singleton];refine⟨by omega,ag.2 ⟨_,[],(append_nil _).symm,db.2 ⟨by rw[length_set];exact hl, ?_⟩,aC.2 rfl⟩⟩;rw[List.map_set,List.set_eq_take_append_cons_drop,if_pos (by rw[length_map];omega),append_assoc];rfl;cases h;cases h;cases h
theorem w8{ay jY dd:List AV}{off:Nat}{cs vs:List Value}(h:v8 ay off jY=some dd)(hd:az ρ H O w ay cs)(hb:az ρ H O w jY vs):
 off+vs.length<=cs.length/\az ρ H O w dd (cs.take off++vs++cs.drop (off+vs.length)):=by
 unfold v8 at h;split at h;rename_i r hr;simp only[Option.some.injEq]at h;subst h;exact ajr hr hd hb;split at h;rename_i pre post h1 h2;simp only[Option.some.injEq]at h;subst h;have hl:=jy hb;rw[<-hl]at h2;have⟨h3,h4⟩:=fR _ _ h1 hd;have⟨h5,h6⟩:=fQ _ _ h2 hd;exact⟨h5,fP.2 ⟨_,_,rfl,fP.2 ⟨_,_,rfl,h4,hb⟩,h6⟩⟩;cases h
theorem w9(ay:List AV){cs:List Value}(h:az ρ H O w ay cs):∀v∈cs,v.oneCell'=true:=by
 induction ay generalizing cs with
 |nil=>rw[aC.1 h];simp|cons a aP ih=>
  obtain⟨c1,c2,rfl,h1,h2⟩:=ag.1 h;intro v hv;rcases mem_append.1 hv with hv|hv;rcases tM a with⟨k,n,ws,rfl⟩|ha;obtain⟨hl,rfl⟩:=db.1 h1;obtain⟨x,_,rfl⟩:=mem_map.1 hv;rfl;obtain⟨u,rfl,h3,_⟩:=fT h1 (gR ha) ha;simp only[mem_singleton]at hv;subst hv;exact h3;exact ih h2 v hv
theorem rN{x:AV}{v:Value}{ay:List AV}(h:x.jX =some ay)(hd:af ρ H O w x v):az ρ H O w ay v.cells.toList:=by
 have one:∀a,a.single=true->af ρ H O w a v->az ρ H O w [a] v.cells.toList:=by
  intro a ha hv;have⟨h1,h2⟩:=kP ha hv;have:v.cells.toList=[v]:=by cases v<;>first|rfl|(simp[Value.oneCell']at h2)
  rw[this];exact ag.2 ⟨[v],[],rfl,h1,aC.2 rfl⟩
 cases x with
 |agg ss=>
  simp only[AV.jX,Option.some.injEq]at h;subst h;unfold af at hd;obtain⟨cs,rfl,h1⟩:=hd;simpa[Value.cells]using h1
 |ah k n ws=>
  simp only[AV.jX,Option.some.injEq]at h;subst h;unfold af at hd;obtain⟨hl,rfl⟩:=hd;exact ag.2 ⟨ws.map (Value.int k),[],by simp[Value.cells],db.2 ⟨hl,rfl⟩,aC.2 rfl⟩
 |bq _=>simp[AV.jX]at h|s x=>cases x<;>simp only[AV.jX,Option.some.injEq,reduceCtorEq]at h<;>subst h<;>exact one _ rfl hd
 |_=>simp only[AV.jX,Option.some.injEq]at h;subst h;exact one _ rfl hd
theorem mw{ay:List AV}{cs:List Value}(h:az ρ H O w ay cs):af ρ H O w (.l8 ay) (.agg cs.toArray):=by
 unfold AV.l8;split;obtain⟨c1,c2,rfl,h1,h2⟩:=ag.1 h;obtain rfl:=aC.1 h2;obtain⟨hl,rfl⟩:=db.1 h1;unfold af;exact⟨hl,by simp⟩;unfold af;exact⟨cs,rfl,h⟩
end
def World.cD(w:World)(b:Nat)(o:Obj):World:={w with heap:=w.heap.setIfInBounds b o}
theorem xa{w:World}{b:Nat}{cells:Array Value}{e:TypeId}{fr:Nat×Nat}(hb:w.heap[b]? =some (.cells cells e fr))(hu:unm fr cells.size){off:Nat}(ho:off<cells.size):
 w.frozen? ⟨b,off,none⟩=false:=by
 have:=hu off ho;simp only[World.frozen?,hb,Bool.and_eq_false_imp,decide_eq_true_eq,decide_eq_false_iff_not];intro h1 h2;exact this ⟨h1,h2⟩
theorem acN{w:World}{b:Nat}{cells:Array Value}{e:TypeId}{fr:Nat×Nat}(hb:w.heap[b]? =some (.cells cells e fr))(off:Nat)(v:Value):
 w.setCell ⟨b,off,none⟩ v=World.cD w b (.cells (cells.setIfInBounds off v) e fr):=by
 simp only[World.setCell,World.cD];congr 1;apply Array.ext_getElem?;intro i;rw[Array.getElem?_modify,Array.getElem?_setIfInBounds];by_cases h:b=i;subst h;have⟨bo,vP⟩:=Array.getElem?_eq_some_iff.1 hb;simp[vP,bo];simp[h]
theorem eh{w:World}{b:Nat}{o o':Obj}(hb:w.heap[b]? =some o):(World.cD w b o').heap[b]? =some o':=by
 have bo:b<w.heap.size:=(Array.getElem?_eq_some_iff.1 hb).1;simp[World.cD,bo]
theorem ja{w:World}{b i:Nat}{o:Obj}(h:i≠b):(World.cD w b o).heap[i]? =w.heap[i]? :=by
 simp only[World.cD];rw[Array.getElem?_setIfInBounds_ne (by omega)]
theorem jz{w:World}{b:Nat}{o:Obj}:(World.cD w b o).heap.size=w.heap.size:=by simp[World.cD]
theorem zp{w:World}{b:Nat}{o o':Obj}:World.cD (World.cD w b o) b o'=World.cD w b o':=by
 simp only[World.cD];congr 1;apply Array.ext_getElem?;intro i;by_cases h:b=i;subst h;simp[Array.getElem?_setIfInBounds];simp[h]
theorem u6{w:World}{b:Nat}{o:Obj}(hb:w.heap[b]? =some o):World.cD w b o=w:=by
 have:w.heap.setIfInBounds b o=w.heap:=by
  apply Array.ext_getElem?;intro i;by_cases h:b=i;subst h;have⟨bo,vP⟩:=Array.getElem?_eq_some_iff.1 hb;simp[vP,bo];rw[Array.getElem?_setIfInBounds_ne (by omega)]
 simp only[World.cD,this]
theorem zq{P:Program}{w:World}{b:Nat}{cells:List Value}{e:TypeId}{fr:Nat×Nat}(hb:w.heap[b]? =some (.cells cells.toArray e fr))(hu:unm fr cells.length){off:Nat}(ho:off<cells.length)
 {v:Value} (hv:v.oneCell'=true):(store ⟨b,off,none⟩ v).run P w=.ok () (World.cD w b (.cells (cells.set off v).toArray e fr)):=by
 rw[run_store P w _ v _ hv];have hc:w.cell? ⟨b,off,none⟩=some cells[off]:=by simp[World.cell?,hb,ho]
 have hf:=xa hb (by simpa using hu) (off:=off) (by simpa using ho);simp only[hc,hf,Bool.false_eq_true,if_false,acN hb,List.setIfInBounds_toArray]
theorem bc(b off i:Nat):(⟨b,off,none⟩:Addr).add i=⟨b,off+i,none⟩:=by
 unfold Addr.add;split;rename_i h;subst h;rfl;rfl
theorem bX{P:Program}{b:Nat}{e:TypeId}{fr:Nat×Nat}(off:Nat):∀(vs:List Value) (i:Nat) {w:World} {cells:List Value},w.heap[b]? =some (.cells cells.toArray e fr)->unm fr cells.length->
 off+i+vs.length<=cells.length->(∀v∈vs,v.oneCell'=true)->
 (storeCells ⟨b,off,none⟩ vs i).run P w=.ok () (World.cD w b (.cells (cells.take (off+i)++vs++cells.drop (off+i+vs.length)).toArray e fr))
 |[],i,w,cells,hb,hu,hl,hv=>by
  simp only[storeCells,Sem.run_pure,length_nil,add_zero,append_nil,List.take_append_drop];rw[u6 hb]
 |v::vs,i,w,cells,hb,hu,hl,hv=>by
  simp only[length_cons]at hl;have bo:off+i<cells.length:=by omega
  simp only[storeCells,Sem.run_bind,bc,zq hb hu bo (hv v (by simp)),Result.andThen_ok];rw[bX off vs (i+1) (eh hb) (by simpa using hu) (by simp;omega) (λx hx=>hv x (by simp[hx])),zp];congr 4;rw[<-add_assoc,List.take_set,List.drop_set_of_lt (by omega)]
  have e1:(cells.take (off+i+1)).set (off+i) v=cells.take (off+i)++[v]:=by
   rw[List.take_succ_eq_append_getElem bo];rw[List.set_append_right _ _ (by simp;omega)];simp[Nat.min_eq_left (Nat.le_of_lt bo)]
  rw[e1];simp only[append_assoc,length_cons,cons_append,nil_append];rw[show off+i+1+vs.length=off+i+(vs.length+1)from by omega]
theorem kC{w:World}{o:Obj}:(w.alloc o).heap[w.heap.size]? =some o:=by
 show(w.heap.push o)[w.heap.size]? =_;simp
theorem alloc_old{w:World}{o:Obj}{i:Nat}(h:i<w.heap.size):(w.alloc o).heap[i]? =w.heap[i]? :=by
 show(w.heap.push o)[i]? =_;rw[Array.getElem?_push,if_neg (by omega)]
theorem fU{w:World}{o:Obj}:(w.alloc o).heap.size=w.heap.size+1:=by
 show(w.heap.push o).size=_;simp
section
variable{ρ aL:Nat->Value}{H H':aS}{G O O':Nat->Prop}{w w':World}{P:Program}
def aB(H:aS)(id:Nat)(o:ak):aS:=λj=>if j=id then some o else H j
theorem abl{id:Nat}{o o':ak}(ho:H id=some o)(ha:o.alive=o'.alive)(b:Nat):Own ρ (aB H id o') b↔Own ρ H b:=by
 constructor;rintro⟨j,x,hx,h1,h2⟩;unfold aB at hx;split at hx;rename_i hj;subst hj;simp only[Option.some.injEq]at hx;subst hx;exact⟨j,o,ho,ha.trans h1,h2⟩;exact⟨j,x,hx,h1,h2⟩;rintro⟨j,x,hx,h1,h2⟩;by_cases hj:j=id;subst hj;rw[ho]at hx;cases hx;exact⟨j,o',by simp[aB],ha.symm.trans h1,h2⟩;exact⟨j,x,by simp[aB,hj,hx],h1,h2⟩
theorem abm{id:Nat}{o o':ak}(ho:H id=some o)(ha:o.alive=o'.alive):aV ρ (aB H id o') G=aV ρ H G:=by
 funext b;exact propext (or_congr_left (abl ho ha b))
theorem Good.write(hs:Sat ρ H G w){id:Nat}{o o':ak}(ho:H id=some o)(ha:o.alive=true)(ha':o'.alive=true){b:Nat}(hb:eW (ρ id)=some b)
 (tN:∀c' e',o'=.vec c' e'->∃c e,o=.vec c e/\c'.n=c.n/\c'.size=c.size)
 {tO:Obj} {r:AV} {v:Value}
 (dT:iv ρ (aB H id o') (aV ρ H G) (World.cD w b tO) (ρ id) o')
 (hr:af ρ (aB H id o') (aV ρ H G) (World.cD w b tO) r v):
 Good ρ H G w (aB H id o') r v (World.cD w b tO):=by
 have hh:=abm (ρ:=ρ) (G:=G) ho (ha.trans ha'.symm);have ei:Own ρ H b:=⟨id,o,ho,ha,hb⟩
 have st:Step ρ H (aV ρ H G) w ρ (aB H id o') (aV ρ (aB H id o') G) (World.cD w b tO):=by
  refine⟨λ_ _ _=>rfl,λj x hx=> ?_,λc hc=>.inl (by rw[hh]at hc;exact hc),λc hc hO=> ?_,by rw[jz];exact le_refl _⟩;by_cases hj:j=id;subst hj;rw[ho]at hx;cases hx;exact⟨o',by simp[aB],tN⟩;exact⟨x,by simp[aB,hj,hx],λc' e' hc=>⟨c',e',hc,rfl,rfl⟩⟩;exact ja (λe=>hO (.inl (by subst e;exact ei)))
 refine⟨ρ,⟨λj x hx=> ?_,λi j oi oj c h1 h2 h3 h4 h5 h6=> ?_,λc hc=> ?_,λc hc=> ?_⟩,by rw[hh];exact hr,st,⟨rfl,rfl,rfl,λc hc hO=>ja (λe=>hO (by subst e;exact ei))⟩⟩;by_cases hj:j=id;subst hj;simp only[aB,if_true,Option.some.injEq]at hx;subst hx;rw[hh];exact dT;have hx':H j=some x:=by simpa[aB,hj]using hx
 refine(hs.obj j x hx').step st (λc xb hc=>ja (λe=>hj ?_));subst e;exact hs.inj j id x o c hx' ho xb ha hc hb
 have f:∀i oi,aB H id o' i=some oi->oi.alive=true->∃x,H i=some x/\x.alive=true:=by
  intro i oi hi xb;by_cases fq:i=id;subst fq;exact⟨o,ho,ha⟩;exact⟨oi,by simpa[aB,fq]using hi,xb⟩
 have⟨x,hx,hxa⟩:=f i oi h1 h3;have⟨y,hy,hya⟩:=f j oj h2 h4;exact hs.inj i j x y c hx hy hxa hya h5 h6;exact hs.apart c ((abl ho (ha.trans ha'.symm) c).1 hc);rw[jz];exact hs.low c hc
theorem Good.fresh(hs:Sat ρ H G w){n:Nat}(hn:H n=none){o:ak}{obj:Obj}{aa:Value}{r:AV}{v:Value}
 {w1:World} (hw:w1.heap=w.heap) (ht:w1.tape=w.tape) (hos:w1.os=w.os) (qg:w1.output=w.output)
 (dK:∀b,eW aa=some b->b=w.heap.size)
 (dT:iv (λj=>if j=n then aa else ρ j) (aB H n o) (aV (λj=>if j=n then aa else ρ j) (aB H n o) G) (w1.alloc obj) aa o)
 (hr:af (λj=>if j=n then aa else ρ j) (aB H n o) (aV (λj=>if j=n then aa else ρ j) (aB H n o) G) (w1.alloc obj) r v):
 Good ρ H G w (aB H n o) r v (w1.alloc obj):=by
 have bU:(w1.alloc obj).heap.size=w.heap.size+1:=by rw[fU,hw]
 have hold:∀i,i<w.heap.size->(w1.alloc obj).heap[i]? =w.heap[i]? :=λi hi=>by rw[alloc_old (by rw[hw];exact hi),hw]
 have ne:∀j x,H j=some x->j≠n:=λj x hx e=>by subst e;rw[hn]at hx;cases hx
 have rO:∀b,Own (λj=>if j=n then aa else ρ j) (aB H n o) b->Own ρ H b\/b=w.heap.size:=by
  rintro b ⟨j,x,hx,h1,h2⟩;by_cases hj:j=n;subst hj;simp only[if_true]at h2;exact .inr (dK b h2);simp only[aB,hj,if_false]at hx h2;exact .inl ⟨j,x,hx,h1,h2⟩
 have st:Step ρ H (aV ρ H G) w (λj=>if j=n then aa else ρ j) (aB H n o) (aV (λj=>if j=n then aa else ρ j) (aB H n o) G) (w1.alloc obj):=by
  refine⟨λj x hx=>by simp[ne j x hx],λj x hx=>⟨x,by simp[aB,ne j x hx,hx],λc' e' hc=>⟨c',e',hc,rfl,rfl⟩⟩,λb hb=> ?_,λb hb _=>hold b hb,by omega⟩;rcases hb with hb|hb;rcases rO b hb with h1|h1;exact .inl (.inl h1);exact .inr (by omega);exact .inl (.inr hb)
 refine⟨_,⟨λj x hx=> ?_,λi j oi oj b h1 h2 h3 h4 h5 h6=> ?_,λb hb=> ?_,λb hb=> ?_⟩,hr,st,⟨hos,ht,qg,λb hb _=>hold b hb⟩⟩;by_cases hj:j=n;subst hj;simp only[aB,if_true,Option.some.injEq]at hx;subst hx;simp only[if_true];exact dT;have hx':H j=some x:=by simpa[aB,hj]using hx
 simp only[hj,if_false];exact(hs.obj j x hx').step st (λb xb hb=>hold b (gQ hs ⟨j,x,hx',xb,hb⟩));by_cases hi:i=n<;>by_cases hj:j=n;rw[hi,hj];simp only[aB,hi,hj,if_true,if_false]at h1 h2 h5 h6;have e:=dK b h5;have:=gQ hs ⟨j,oj,h2,h4,h6⟩;omega;simp only[aB,hi,hj,if_true,if_false]at h1 h2 h5 h6;have e:=dK b h6;have:=gQ hs ⟨i,oi,h1,h3,h5⟩;omega;simp only[aB,hi,hj,if_false]at h1 h2 h5 h6;exact hs.inj i j oi oj b h1 h2 h3 h4 h5 h6;rcases rO b hb with h1|h1;exact hs.apart b h1;intro hg;have:=hs.low b hg;omega;have:=hs.low b hb;omega
end
def fz(P:Program)(ρ:Nat->Value)(H:aS)(O:Nat->Prop)(w:World)(q:bQ)(s:Sem Value):Prop:=
 q.up=[]/\q.new=[]/\∃v,s.run P w=.ok v w/\∀base,af ρ H O w (q.r base) v
section
variable{ρ aL:Nat->Value}{H H':aS}{G O O':Nat->Prop}{w w':World}{P:Program}
theorem aO{ab:List Prop}{r:AV}{q:bQ}{s:Sem Value}(h:(plain ab r).eval H=some q)(f:bJ ab->∃v,s.run P w=.ok v w/\af ρ H O w r v)(hn:bJ q.ab):fz P ρ H O w q s:=by
 simp only[plain,RM.eval,Option.some.injEq]at h;subst h;have⟨v,h1,h2⟩:=f hn;exact⟨rfl,rfl,v,h1,λ_=>h2⟩
theorem gY{t:TypeId}{b:Bool}(h:ir P t=some b)(w:World):(isAgg t).run P w=.ok b w:=by
 unfold ir at h;split at h<;>first|(cases h;rename_i ht;simp[isAgg,run_underlying ht];done)|cases h
theorem qs{f:Nat->Value}{n j:Nat}{v:Value}(h:((List.range n).map f)[j]? =some v):j<n/\v=f j:=by
 by_cases hj:j<n;rw[getElem?_map,List.getElem?_range hj]at h;simp at h;exact⟨hj,h.symm⟩;rw[getElem?_eq_none (by simp;omega)]at h;cases h
theorem run_sizeOf{t:TypeId}{n:Nat}(h:dX P t=some n)(w:World):(sizeOf t).run P w=.ok n w:=by
 simp only[dX,map_eq_some_iff]at h;obtain⟨i,hi,rfl⟩:=h;simp[sizeOf,typeInfo,hi]
theorem de{b:Nat}{cells:List Value}{e:TypeId}{fr:Nat×Nat}(hb:w.heap[b]? =some (.cells cells.toArray e fr))(off:Nat):w.cell? ⟨b,off,none⟩=cells[off]? :=by
 simp[World.cell?,hb]
theorem jS{t:TypeId}{n b off:Nat}{cs:List Value}(ha:ir P t=some true)(hs:dX P t=some n)(hl:cs.length=n)(hc:∀j v,cs[j]? =some v->w.cell? ⟨b,off+j,none⟩=some v):
 (Instr.loadAt t (.pointer (some ⟨b,off,none⟩))).run P w=.ok (.agg cs.toArray) w:=by
 subst hl;have:=run_loadCells_list (P:=P) (w:=w) ⟨b,off,none⟩ cs (λj v hj=>by rw[bc];exact hc j v hj);simp[Instr.loadAt,Instr.sureAddr,loadVar,gY ha,run_sizeOf hs,this]
theorem jT{t:TypeId}{b off:Nat}{v:Value}(ha:ir P t=some false)(hc:w.cell? ⟨b,off,none⟩=some v):
 (Instr.loadAt t (.pointer (some ⟨b,off,none⟩))).run P w=.ok v w:=by
 simp[Instr.loadAt,Instr.sureAddr,loadVar,gY ha,hc]
theorem pK(hs:Sat ρ H G w){id b:Nat}{ay:List AV}{e:TypeId}(ho:H id=some (.aq ay e))(hb:ρ id=.pointer (some ⟨b,0,none⟩)):
 ∃cells fr,w.heap[b]? =some (.cells cells.toArray e fr)/\unm fr cells.length/\az ρ H (aV ρ H G) w ay cells:=by
 have⟨b',cells,fr,h1,h2⟩:=hs.obj id _ ho;rw[hb]at h1;cases h1;exact⟨cells,fr,h2⟩
theorem ajs(hs:Sat ρ H G w){id i b f n cap:Nat}{c:aU}{e:TypeId}(ho:H id=some (.vec c e))(hi:i<c.n)(dK:ρ id=.slice (some ⟨b,f,none⟩) n cap):
 ∃us:Nat->Nat->Value,∀i j,i<c.n->j<c.size->w.cell? ⟨b,f+i*c.size+j,none⟩=some (us i j)/\aW (aV ρ H G) w (c.cell i j) (us i j):=by
 have⟨a,ajo,h1,h2,h3,h4⟩:=hs.obj id _ ho;rw[dK]at h1;cases h1;rcases h4 with rfl|⟨b',o,cells,fr,us,h5,h6,h7,h8,h9⟩;omega;cases h5;exact⟨us,λi j hi hj=>⟨by rw[de h6];exact(h9 i j hi hj).1,(h9 i j hi hj).2⟩⟩
theorem acO(n:Nat)(f:Nat->SV)(us:Nat->Value)(h:∀i,i<n->aW O w (f i) (us i)):az ρ H O w ((List.range n).map λi=>.s (f i)) ((List.range n).map us):=by
 induction n with
 |zero=>simp[aC]|succ n ih=>
  rw[List.range_succ,map_append,map_append];exact fP.2 ⟨_,_,rfl,ih (λi hi=>h i (by omega)),ag.2 ⟨[us n],[],rfl,by unfold aQ;exact⟨_,rfl,h n (by omega)⟩,aC.2 rfl⟩⟩
theorem nJ{a b:Nat}(h:a<b):a.blt b=true:=Nat.ble_eq_true_of_le h
theorem rP{a b:Nat}(h:b<=a):a.blt b=false:=by
 cases hh:a.blt b;rfl;exact absurd (le_of_ble_eq_true hh) (by omega)
theorem qS:∀(cs:List CK) (x:CL cs) (us:Nat->Value) (off:Nat),(∀l,l<CL.wide cs->aW O w (CL.cell cs x l) (us (off+l)))->bJ (fg (CL.ay cs x))->
 az ρ H O w (CL.ay cs x) ((List.range (CL.wide cs)).map λl=>us (off+l))
 |[],x,us,off,h,hn=>aC.2 (by simp[CL.wide])
 |c::cs,x,us,off,h,hn=>by
  have key:∀a:AV,CL.ay (c::cs) x=a::CL.ay cs x.2->c.wide=1->(∀y,aW O w (c.cell x.1 0) y->aQ ρ H O w a [y])->bJ (fg (CL.ay cs x.2))->
   az ρ H O w (CL.ay (c::cs) x) ((List.range (CL.wide (c::cs))).map λl=>us (off+l)):=by
   intro a e hw ha tA;rw[e];simp only[CL.wide,hw];rw[List.range_add,map_append,List.map_map];refine ag.2 ⟨_,_,rfl, ?_, ?_⟩;have:=h 0 (by simp only[CL.wide];omega);simp only[CL.cell,hw,nJ (show 0<1 from by omega),cond_true]at this;simpa using ha _ this;have ih:=qS cs x.2 us (off+1) (λl hl=> ?_) tA;have e2:(λl=>us (off+1+l))=(λl=>us (off+l))∘(λx=>1+x):=by funext l;simp[Function.comp,add_assoc]
   rw[e2]at ih;exact ih;have:=h (1+l) (by simp only[CL.wide];omega);simp only[CL.cell,hw]at this;rw[rP (show 1<=1+l from by omega),cond_false,show 1+l - 1=l from by omega,<-add_assoc]at this;exact this
  have one:∀{sv:SV} {y:Value},aW O w sv y->aQ ρ H O w (.s sv) [y]:=λhy=>by unfold aQ;exact⟨_,rfl,hy⟩
  cases c with
  |arr k n=>
   have⟨x1,x2⟩:=x;change List Int at x1;simp only[CL.ay,fg]at hn ⊢;have⟨hl,tA⟩:=hn;simp only[CL.wide,CK.wide];rw[List.range_add,map_append,List.map_map];refine ag.2 ⟨_,_,rfl, ?_, ?_⟩;unfold aQ;refine⟨hl, ?_⟩;refine List.ext_getElem (by simp[hl]) λi h1 h2=> ?_;have hi:i<n:=by simpa using h1
   have:=h i (by simp only[CL.wide,CK.wide];omega);simp only[CL.cell,CK.wide]at this;rw[nJ hi,cond_true]at this;simp only[CK.cell]at this;have hx:x1.getD i 0=x1[i]'(by rw[hl];exact hi):=by simp[List.getD,hl,hi]
   rw[hx]at this;simp only[List.getElem_map,List.getElem_range];generalize us (off+i)=u at this ⊢;cases this;rfl;have ih:=qS cs x2 us (off+n) (λl hl=> ?_) tA;have e2:(λl=>us (off+n+l))=(λl=>us (off+l))∘(λx=>n+x):=by funext l;simp[Function.comp,add_assoc]
   rw[e2]at ih;exact ih;have:=h (n+l) (by simp only[CL.wide,CK.wide];omega);simp only[CL.cell,CK.wide]at this;rw[rP (show n<=n+l from by omega),cond_false,show n+l - n=l from by omega,<-add_assoc]at this;exact this
  |int k=>exact key _ rfl rfl (λy hy=>one hy) (by simpa[CL.ay,fg]using hn)
  |bool=>exact key _ rfl rfl (λy hy=>one hy) (by simpa[CL.ay,fg]using hn)
  |str=>exact key _ rfl rfl (λy hy=>one hy) (by simpa[CL.ay,fg]using hn)
  |ah k=>exact key _ rfl rfl (λy hy=>one hy) (by simpa[CL.ay,fg]using hn)
  |strs=>exact key _ rfl rfl (λy hy=>one hy) (by simpa[CL.ay,fg]using hn)
  |bF=>exact key _ rfl rfl (λy hy=>one hy) (by simpa[CL.ay,fg]using hn)
  |rows ds=>exact key _ rfl rfl (λy hy=>one hy) (by simpa[CL.ay,fg]using hn)
theorem u7{zo:Bool}{c:aU}{i j sz:Nat}{t:TypeId}{q:bQ}(h:(rK zo c i j sz).eval H=some q)(hn:bJ q.ab)(rC:ir P t=some zo)(bU:dX P t=some sz){b o:Nat}{us:Nat->Value}
 (hc:∀l,l<c.size->w.cell? ⟨b,o+l,none⟩=some (us l)/\aW O w (c.cell i l) (us l)):fz P ρ H O w q (Instr.loadAt t (.pointer (some ⟨b,o+j,none⟩))):=by
 unfold rK at h;cases zo;simp only[cond_false]at h;rw[cond_eq_ite]at h;split at h;rename_i bo;have bo:j<c.size:=by simpa[Nat.blt,Nat.lt_iff_add_one_le]using bo
 exact aO h (λ_=>⟨us j,jT rC (hc j bo).1,aE (hc j bo).2⟩) hn;cases h;simp only[cond_true]at h;split at h;rename_i cs xs;split at h;rename_i ss hss;refine aO h (λaww=> ?_) hn;have hd:=qS (ρ:=ρ) (H:=H) cs (xs.getD i (CL.d cs)) us 0 (λl hl=>by rw[zero_add];exact(hc l hl).2) aww;simp only[zero_add]at hd;simp only[bind_eq_some_iff]at hss;have⟨s1,h4,h5⟩:=hss;have⟨h6,h7⟩:=fQ _ j h4 hd;have⟨h8,h9⟩:=fR s1 sz h5 h7;refine⟨_,jS (cs:=(((List.range (CL.wide cs)).map us).drop j).take sz) rC bU (by simp at h8 ⊢;omega) (λl v hv=> ?_),mw h9⟩;rw[getElem?_take]at hv;split at hv;rw[List.getElem?_drop]at hv;obtain⟨bo,rfl⟩:=qs hv;rw[add_assoc];exact(hc (j+l) bo).1;cases hv;cases h;rw[cond_eq_ite]at h;split at h;rename_i hle;have hle:=le_of_ble_eq_true hle;refine aO h (λ_=>⟨_,jS (cs:=(List.range sz).map λl=>us (j+l)) rC bU (by simp) (λl v hv=> ?_), ?_⟩) hn;obtain⟨bo,rfl⟩:=qs hv;rw[add_assoc];exact(hc (j+l) (by omega)).1;unfold af;exact⟨_,rfl,acO sz (λl=>c.cell i (j+l)) (λl=>us (j+l)) (λl hl=>(hc (j+l) (by omega)).2)⟩;cases h
theorem acP{t:TypeId}{a:AV}{va:Value}{q:bQ}(h:(ahj P t a).eval H=some q)(hn:bJ q.ab)(hs:Sat ρ H G w)(hd:af ρ H (aV ρ H G) w a va):
 fz P ρ H (aV ρ H G) w q (Instr.loadAt t va):=by
 unfold ahj at h;split at h;rename_i sz zo bU rC;split at h;rename_i id off;unfold af aN at hd;obtain⟨b,hb,rfl,_⟩:=hd;simp only[RM.eval]at h;split at h;rename_i ay e ho;have⟨cells,fr,h1,h2,h3⟩:=pK hs ho hb;cases zo;simp only[cond_false]at h;split at h;rename_i v hv;have⟨u,h4,h5,h6⟩:=mu ay off hv h3;exact aO h (λ_=>⟨u,jT rC (by rw[de h1];exact h4),h6⟩) hn;cases h;simp only[cond_true]at h;split at h;rename_i ss hss;simp only[bind_eq_some_iff]at hss;have⟨s1,h4,h5⟩:=hss;have⟨h6,h7⟩:=fQ ay off h4 h3;have⟨h8,h9⟩:=fR s1 sz h5 h7;refine aO h (λ_=>⟨_,jS (cs:=(cells.drop off).take sz) rC bU (by simp at h8 ⊢;omega) (λj v hj=> ?_),mw h9⟩) hn;rw[de h1];rw[getElem?_take]at hj;split at hj;simpa using hj;cases hj;cases h;cases h;rename_i id off n i;unfold af aN at hd;obtain⟨cO,b,hb,rfl,_⟩:=hd;simp only[RM.eval]at h;split at h;rename_i ay e ho;have⟨cells,fr,h1,h2,h3⟩:=pK hs ho hb;split at h;rename_i k m ws aps;rw[cond_eq_ite]at h;split at h;rename_i hc;simp only[and_eq_true,not_eq_true',beq_eq]at hc;obtain⟨rfl,rfl⟩:=hc;obtain⟨hl,pre,post,rfl,hp⟩:=pJ ay off aps h3;have hi:i<ws.length:=by omega
 refine aO h (λ_=>⟨.int k (ws.getD i 0),jT rC ?_,aE (.int _ _)⟩) hn;rw[de h1,append_assoc,getElem?_append_right (by omega),getElem?_append_left (by simp;omega)];rw[show off+i - pre.length=i from by omega];simp[hi];cases h;cases h;cases h;unfold af aN at hd;obtain⟨b,o,us,rfl,_,_,hc⟩:=hd;exact u7 h hn rC bU hc;rename_i id i j;unfold af aN at hd;have⟨_,o,ho,hv⟩:=hd;simp only[RM.eval]at h;split at h;rename_i c e dH;rw[ho]at dH;cases dH;obtain⟨hi,hj,b,f,n,cap,dK,rfl⟩:=hv c e rfl;have⟨us,hc⟩:=ajs hs ho hi dK;exact u7 (us:=λl=>us i l) h hn rC bU (λl hl=>hc i l hi hl);cases h;cases h;cases h
end
section
variable{ρ aL:Nat->Value}{H H':aS}{G O O':Nat->Prop}{w w':World}{P:Program}
theorem slice_inj{a a':Option Addr}{n n' c c':Nat}(h:Value.slice a n c=.slice a' n' c'):a'=a/\c'=c:=by
 cases h;exact⟨rfl,rfl⟩
theorem ow{t:TypeId}{fs:Array Field}{f:Nat}{fd:Field}{n b off:Nat}(ht:P.underlying t=some (.struct fs))(hf:fs[f]? =some fd)(hs:dX P fd.type=some n)(hn:1<=n)(w:World):
 (Instr.fieldAt t (.pointer (some ⟨b,off,none⟩)) f).run P w=.ok (.pointer (some ⟨b,off+fd.offset,none⟩)) w:=by
 have h0:¬n=0:=by omega
 simp[Instr.fieldAt,run_underlying ht,hf,Instr.sureAddr,fieldPlace,run_sizeOf hs,h0,bc]
theorem zr{t:TypeId}{x:AV}{f:Nat}{vx:Value}{q:bQ}(h:(qK P t x f).eval H=some q)(hn:bJ q.ab)(hd:af ρ H O w x vx):
 fz P ρ H O w q (Instr.fieldAt t vx f):=by
 unfold qK at h;split at h;rename_i fs ht;split at h;rename_i fd hf;rw[cond_eq_ite]at h;split at h;rename_i bU
 obtain⟨n,hs,hn1⟩:∃n,dX P fd.type=some n/\1<=n:=by
  cases hs:dX P fd.type with
  |none=>simp[hs]at bU|some n=>exact⟨n,rfl,le_of_ble_eq_true (by simpa[hs]using bU)⟩
 split at h;rename_i id off;unfold af aN at hd;obtain⟨b,hb,rfl,hi⟩:=hd;exact aO h (λ_=>⟨_,ow ht hf hs hn1 w,by unfold af aN;exact⟨b,hb,rfl,hi⟩⟩) hn;rename_i c m j;unfold af aN at hd;obtain⟨b,o,us,rfl,h1⟩:=hd;exact aO h (λ_=>⟨_,ow ht hf hs hn1 w,by unfold af aN;exact⟨b,o,us,by rw[add_assoc],h1⟩⟩) hn;rename_i id i j;simp only[RM.eval]at h;split at h;rename_i c e ho;rw[cond_eq_ite]at h;split at h;rename_i bo;have bo:j+fd.offset<c.size:=by simpa[Nat.blt,Nat.lt_iff_add_one_le]using bo
 unfold af aN at hd;have⟨h1,o,dH,hv⟩:=hd;rw[ho]at dH;cases dH;obtain⟨hi,hj,b,f',n',cap,dK,rfl⟩:=hv c e rfl;refine aO h (λ_=>⟨_,ow ht hf hs hn1 w, ?_⟩) hn;unfold af aN;refine⟨rfl,_,ho,λc' e' hc=> ?_⟩;cases hc;exact⟨hi,bo,b,f',n',cap,dK,by rw[add_assoc]⟩;cases h;cases h;cases h;cases h;cases h;cases h
theorem ix{t e:TypeId}{n b o len cap:Nat}{k:IntKind}{i:Int}(ht:P.underlying t=some (.slice e))(hs:dX P e=some n)(h0:0<=i)(h1:i<len)(w:World):
 (Instr.indexAt t (.slice (some ⟨b,o,none⟩) len cap) (.int k i)).run P w=.ok (.pointer (some ⟨b,o+i.toNat*n,none⟩)) w:=by
 simp[Instr.indexAt,run_underlying ht,asIntOf,run_sizeOf hs,h0,h1,bc]
theorem iy{t e:TypeId}{n b o len:Nat}{k:IntKind}{i:Int}(ht:P.underlying t=some (.array len e))(hs:dX P e=some n)(h0:0<=i)(h1:i<len)(w:World):
 (Instr.indexAt t (.pointer (some ⟨b,o,none⟩)) (.int k i)).run P w=.ok (.pointer (some ⟨b,o+i.toNat*n,none⟩)) w:=by
 simp[Instr.indexAt,run_underlying ht,asIntOf,Instr.sureAddr,run_sizeOf hs,h0,h1,bc]
theorem zt{t:TypeId}{x i:AV}{vx vi:Value}{q:bQ}(h:(qL P t x i).eval H=some q)(hn:bJ q.ab)(hs:Sat ρ H G w)(hd:af ρ H (aV ρ H G) w x vx)(hi:af ρ H (aV ρ H G) w i vi):
 fz P ρ H (aV ρ H G) w q (Instr.indexAt t vx vi):=by
 unfold qL at h;split at h;rename_i k lit n e oz ht;obtain rfl:=ch oz hi;split at h;rename_i sz c bU;rw[cond_eq_ite]at h;split at h;rename_i he;have he:sz=c.size:=by simpa using he
 have hx:=ax (by simp) hd;cases hx with
 |ro _ a cap us b o h1 h2 h3 h4 h5=>
  refine aO h (λcP=> ?_) hn;have⟨h6,h7,_⟩:=cP;have bo:n.toNat<c.n:=by omega
  obtain⟨rfl,h8,h9⟩:=h3 (by omega);refine⟨_,ix ht bU h6 h7 w, ?_⟩;unfold af aN;refine⟨b,o+n.toNat*c.size,λj=>us n.toNat j,by rw[he];rfl,h8,h9,λj hj=>⟨h4 _ _ bo hj,h5 _ _ bo hj⟩⟩
 cases h;rename_i sz id bU;simp only[RM.eval]at h;split at h;rename_i c e' ho;rw[cond_eq_ite]at h;split at h;rename_i he;simp only[and_eq_true,beq_eq]at he;obtain⟨rfl,hge⟩:=he;have hge:=le_of_ble_eq_true hge;unfold af aN at hd;have⟨_,o,dH,hv⟩:=hd;rw[ho]at dH;cases dH;obtain rfl:=hv c e' rfl;have⟨a,cap,hr,h2,h3,h4⟩:=hs.obj id _ ho;refine aO h (λcP=> ?_) hn;have⟨h6,h7,_⟩:=cP;rcases h4 with h4|⟨b,o,cells,fr,us,rfl,h5,_⟩;omega;refine⟨.pointer (some ⟨b,o+n.toNat*c.size,none⟩),by rw[hr];exact ix ht bU h6 h7 w, ?_⟩;unfold af aN;refine⟨rfl,_,ho,λc' e'' hc=> ?_⟩;cases hc;exact⟨by omega,by omega,b,o,c.n,cap,hr,rfl⟩;cases h;cases h;rename_i sz id lo m bU;simp only[RM.eval]at h;split at h;rename_i c e' ho;rw[cond_eq_ite]at h;split at h;rename_i he;simp only[and_eq_true,beq_eq]at he;obtain⟨rfl,hge⟩:=he;have hge:=le_of_ble_eq_true hge;unfold af aN at hd;have⟨_,o,dH,hv⟩:=hd;rw[ho]at dH;cases dH;obtain⟨hlm,a0,azf,a',hr0,aBf,rfl,ha'⟩:=hv c e' rfl;have⟨a,cap,hr,h2,h3,h4⟩:=hs.obj id _ ho;obtain⟨rfl,rfl⟩:=slice_inj (hr0.symm.trans hr);refine aO h (λcP=> ?_) hn;have⟨h6,h7,_⟩:=cP;rcases h4 with h4|⟨b,o,cells,fr,us,rfl,h5,_⟩;omega;refine⟨.pointer (some ⟨b,o+lo*c.size+n.toNat*c.size,none⟩), ?_, ?_⟩;rw[ha' (by omega)];simp only[map_some,bc];exact ix ht bU h6 h7 w;unfold af aN;refine⟨rfl,_,ho,λc' e'' hc=> ?_⟩;cases hc;exact⟨by omega,by omega,b,o,c.n,cap,hr,by rw[add_mul,add_assoc];rfl⟩;cases h;cases h;cases h;rename_i k lit n len e oz ht;obtain rfl:=ch oz hi;split at h;rename_i sz id off bU;unfold af aN at hd;obtain⟨b,hb,rfl,dq⟩:=hd;cases lit;simp only[cond_false]at h;rw[cond_eq_ite]at h;split at h;rename_i h1;have h1:sz=1:=by simpa using h1
 subst h1;refine aO h (λcP=> ?_) hn;have⟨h6,h7,_⟩:=cP;exact⟨_,iy ht bU h6 h7 w,by unfold af aN;exact⟨by omega,b,hb,by simp,dq⟩⟩;cases h;simp only[cond_true]at h;rw[cond_eq_ite]at h;split at h;rename_i h1;simp only[and_eq_true,decide_eq_true_eq]at h1;exact aO h (λ_=>⟨_,iy ht bU h1.1 h1.2 w,by unfold af aN;exact⟨b,hb,rfl,dq⟩⟩) hn;cases h;rename_i sz id i0 bU;simp only[RM.eval]at h;split at h;rename_i c e' ho;rw[cond_eq_ite]at h;split at h;rename_i he;simp only[and_eq_true,beq_eq]at he;obtain⟨rfl,hge⟩:=he;unfold af aN at hd;have⟨_,o,dH,hv⟩:=hd;rw[ho]at dH;cases dH;obtain⟨hi0,hc0,b,f,n',cap,hr,rfl⟩:=hv c e' rfl;refine aO h (λcP=> ?_) hn;have⟨h6,h7,h8,_⟩:=cP;refine⟨_,iy ht bU h6 h7 w, ?_⟩;unfold af aN;refine⟨rfl,_,ho,λc' e'' hc=> ?_⟩;cases hc;exact⟨by omega,by omega,b,f,n',cap,hr,by rw[add_mul];congr 3;omega⟩;cases h;cases h;cases h;cases h
theorem ajt{t:TypeId}{x i:AV}{vx vi:Value}{q:bQ}(h:(afG P t x i).eval H=some q)(hn:bJ q.ab)(hd:af ρ H O w x vx)(hi:af ρ H O w i vi):
 fz P ρ H O w q (Instr.index t vx vi):=by
 unfold afG at h;split at h;rename_i k lit n len e kk m ws oz ht;obtain rfl:=ch oz hi;rw[cond_eq_ite]at h;split at h;rename_i hc;simp only[and_eq_true,beq_eq]at hc;obtain⟨⟨rfl,rC⟩,bU⟩:=hc;have atP:ir P e=some false:=by cases ha:ir P e with|none=>simp[ha]at rC|some b=>simp[ha]at rC;rw[rC]
 have aju:dX P e=some 1:=by cases ha:dX P e with|none=>simp[ha]at bU|some b=>simp[ha]at bU;rw[bU]
 unfold af at hd;obtain⟨hl,rfl⟩:=hd;refine aO h (λcP=> ?_) hn;have⟨h6,h7,_⟩:=cP;have bo:n.toNat<ws.length:=by omega
 refine⟨.int kk (ws.getD n.toNat 0), ?_,aE (.int _ _)⟩;simp[Instr.index,run_underlying ht,asIntOf,h6,h7,run_sizeOf aju,part,gY atP,bo];cases h;rename_i k lit n s oz ht;obtain rfl:=ch oz hi;obtain rfl:=fH hd;refine aO h (λcP=> ?_) hn;have⟨h6,h7,_⟩:=cP;have bo:n.toNat<s.size:=by omega
 refine⟨.int .u8 (aJ s n.toNat), ?_,aE (.int _ _)⟩
 have hb:s[n.toNat]? =some s.data[n.toNat]:=by
  simp only[getElem?,decidableGetElem?];rw[dif_pos bo];rfl
 have atQ:n.toNat<s.data.size:=bo;simp[Instr.index,run_underlying ht,asIntOf,h6,hb,aJ];rw[Array.getElem?_eq_getElem atQ];rfl;rename_i k lit n len e ay oz ht;obtain rfl:=ch oz hi;rw[cond_eq_ite]at h;split at h;rename_i hc;simp only[and_eq_true]at hc;have⟨rC,bU⟩:=hc;have atP:ir P e=some false:=by cases ha:ir P e with|none=>simp[ha]at rC|some b=>simp[ha]at rC;rw[rC]
 have aju:dX P e=some 1:=by cases ha:dX P e with|none=>simp[ha]at bU|some b=>simp[ha]at bU;rw[bU]
 unfold af at hd;obtain⟨cs,rfl,ahn⟩:=hd;split at h;rename_i v hv;have⟨u,h4,h5,h6⟩:=mu ay _ hv ahn;refine aO h (λcP=>⟨u, ?_,h6⟩) hn;have⟨h7,h8,_⟩:=cP;simp[Instr.index,run_underlying ht,asIntOf,h7,h8,run_sizeOf aju,part,gY atP,h4];cases h;cases h;cases h
theorem ajv{t:TypeId}{x:AV}{f:Nat}{vx:Value}{q:bQ}(h:(afH P t x f).eval H=some q)(hn:bJ q.ab)(hd:af ρ H O w x vx):
 fz P ρ H O w q (Instr.field t vx f):=by
 unfold afH at h;split at h;rename_i fs ay ht;unfold af at hd;obtain⟨cs,rfl,ahn⟩:=hd;split at h;rename_i fd hf;split at h;rename_i sz bU rC;split at h;rename_i ss hss;simp only[bind_eq_some_iff]at hss;have⟨s1,h4,h5⟩:=hss;have⟨h6,h7⟩:=fQ ay _ h4 ahn;have⟨h8,h9⟩:=fR s1 sz h5 h7;refine aO h (λ_=>⟨.agg ((cs.drop fd.offset).take sz).toArray, ?_,mw h9⟩) hn;simp[Instr.field,run_underlying ht,hf,asAgg,part,gY rC,run_sizeOf bU,List.extract_eq_take_drop];cases h;rename_i sz bU rC;split at h;rename_i v hv;have⟨u,h4,h5,h6⟩:=mu ay _ hv ahn;refine aO h (λ_=>⟨u, ?_,h6⟩) hn;simp[Instr.field,run_underlying ht,hf,asAgg,part,gY rC,h4];cases h;cases h;cases h;cases h
theorem acQ:∀{xs:List AV} {vs:List Value} {i:Nat} {x:AV},bL ρ H O w xs vs→xs[i]? =some x→∃v,vs[i]? =some v∧af ρ H O w x v
 |[],vs,i,x,_,hx=>by simp at hx
 |a::aP,vs,i,x,h,hx=>by
  obtain⟨v,rest,rfl,h1,h2⟩:=aD.1 h;cases i with
  |zero=>simp at hx;subst hx;exact⟨v,rfl,h1⟩
  |succ i=>obtain⟨u,h3,h4⟩:=acQ (i:=i) h2 (by simpa using hx);exact⟨u,by simpa using h3,h4⟩
theorem acR{x:AV}{i:Nat}{vx:Value}{q:bQ}(h:(wU x i).eval H=some q)(hn:bJ q.ab)(hd:af ρ H O w x vx):
 fz P ρ H O w q (Instr.extract vx i):=by
 unfold wU at h;split at h;rename_i vs;unfold af at hd;obtain⟨us,rfl,hl⟩:=hd;split at h;rename_i v hv;have⟨u,h1,h2⟩:=acQ hl hv;exact aO h (λ_=>⟨u,by simp[Instr.extract,h1],h2⟩) hn;cases h;cases h
theorem iz(hs:Sat ρ H G w){id:Nat}{c:aU}{e:TypeId}{v:Value}(ho:H id=some (.vec c e))(hd:af ρ H O w (.vec id) v):∃a cap,v=.slice a c.n cap/\ρ id=v/\c.n<=cap/\cap<=maxLen:=by
 unfold af aN at hd;have⟨_,o,dH,hv⟩:=hd;rw[ho]at dH;cases dH;have⟨a,cap,h1,h2,h3,_⟩:=hs.obj id _ ho;exact⟨a,cap,by rw[hv c e rfl,h1],(hv c e rfl).symm,h2,h3⟩
theorem jA(hs:Sat ρ H G w){id lo n:Nat}{c:aU}{e:TypeId}{v:Value}(ho:H id=some (.vec c e))(hd:af ρ H O w (.part id lo n) v):
 lo+n<=c.n/\∃a cap a',ρ id=.slice a c.n cap/\c.n<=cap/\cap<=maxLen/\v=.slice a' n (cap - lo)/\(cap≠lo->a'=a.map (·.add (lo*c.size)))/\(cap≠0->∃b o,a=some ⟨b,o,none⟩):=by
 unfold af aN at hd;have⟨_,o,dH,hv⟩:=hd;rw[ho]at dH;cases dH;have⟨h0,a,cap,a',h1,h2,h3,h4⟩:=hv c e rfl;have⟨a2,qT,g1,g2,g3,g4⟩:=hs.obj id _ ho;obtain⟨rfl,rfl⟩:=slice_inj (h1.symm.trans g1);refine⟨h0,_,_,a',h1,h2,g3,h3,h4,λhc=> ?_⟩;rcases g4 with g4|⟨b,o,_,_,_,g5,_⟩;exact absurd g4 hc;exact⟨b,o,g5⟩
theorem apt{t ty:TypeId}{ts:List TypeId}{x:AV}{vx:Value}{q:bQ}(h:(atH P t x).eval H=some q)(hn:bJ q.ab)(hs:Sat ρ H G w)(hd:af ρ H O w x vx):
 fz P ρ H O w q (Builtin.len_ (t::ts).toArray ty #[vx]):=by
 unfold atH at h;split at h;rename_i s ht;obtain rfl:=fH hd;exact aO h (λ_=>⟨_,by simp[Builtin.len_,run_underlying ht];rfl,aE (.int _ _)⟩) hn;rename_i n e ht;exact aO h (λ_=>⟨_,by cases vx<;>simp[Builtin.len_,run_underlying ht]<;>rfl,aE (.aR _ _)⟩) hn;rename_i e c ht;have hx:=ax (by simp) hd;cases hx;exact aO h (λ_=>⟨_,by simp[Builtin.len_,run_underlying ht];rfl,aE (.int _ _)⟩) hn;rename_i e c k ht;have hx:=ax (by simp) hd;cases hx with
 |rot _ _ a n cap h1 h2=>
  cases h1;exact aO h (λ_=>⟨_,by simp[Builtin.len_,run_underlying ht];rfl,aE (.int _ _)⟩) hn
 rename_i e ht;unfold af at hd;obtain⟨a,rfl⟩:=hd;exact aO h (λ_=>⟨_,by simp[Builtin.len_,run_underlying ht];rfl,aE (.aR _ _)⟩) hn;rename_i e id ht;simp only[RM.eval]at h;split at h;rename_i c e' ho;obtain⟨a,cap,rfl,_⟩:=iz hs ho hd;exact aO h (λ_=>⟨_,by simp[Builtin.len_,run_underlying ht];rfl,aE (.int _ _)⟩) hn;cases h;rename_i e id lo n ht;simp only[RM.eval]at h;split at h;rename_i c e' ho;obtain⟨_,a,cap,a',_,_,_,rfl,_⟩:=jA hs ho hd;exact aO h (λ_=>⟨_,by simp[Builtin.len_,run_underlying ht];rfl,aE (.int _ _)⟩) hn;cases h;rename_i kt et id ht;simp only[RM.eval]at h;split at h;rename_i ck m ho;unfold af aN at hd;obtain⟨b,hb,rfl,_⟩:=hd;have⟨b',es,clock,h1,h2,h3⟩:=hs.obj id _ ho;rw[hb]at h1;cases h1;have e1:(getObj b).run P w=.ok (.map es clock) w:=by simp[getObj,Sem.run,h2]
 have e2:es.size=m.length:=by have:=congrArg List.length h3.eq;simpa using this
 exact aO h (λ_=>⟨.int .i64 m.length,by simp[Builtin.len_,run_underlying ht,e1,e2];rfl,aE (.int _ _)⟩) hn;cases h;cases h
theorem apu{t ty:TypeId}{ts:List TypeId}{x:AV}{vx:Value}{q:bQ}(h:(atI P t x).eval H=some q)(hn:bJ q.ab)(hs:Sat ρ H G w)(hd:af ρ H O w x vx):
 fz P ρ H O w q (Builtin.cap_ (t::ts).toArray ty #[vx]):=by
 unfold atI at h;split at h;rename_i e c k ht;have hx:=ax (by simp) hd;cases hx with
 |rot _ _ a n cap h1 h2=>exact aO h (λ_=>⟨_,by simp[Builtin.cap_,run_underlying ht];rfl,aE (.qn _ _ (by omega))⟩) hn
 rename_i e id ht;simp only[RM.eval]at h;split at h;rename_i c e' ho;obtain⟨a,cap,rfl,_,hle,_⟩:=iz hs ho hd;exact aO h (λ_=>⟨_,by simp[Builtin.cap_,run_underlying ht];rfl,aE (.nI _ _ (by omega))⟩) hn;cases h;rename_i e id lo n ht;simp only[RM.eval]at h;split at h;rename_i c e' ho;obtain⟨_,a,cap,a',_,hle,_,rfl,_⟩:=jA hs ho hd;exact aO h (λ_=>⟨_,by simp[Builtin.cap_,run_underlying ht];rfl,aE (.nI _ _ (by omega))⟩) hn;cases h;cases h
theorem qt(op:BinOp)(t:TypeId)(x y:Operand)(a b:Option Addr)(n c m d:Nat):(eqGuard op t x y (.slice a n c) (.slice b m d)).run P w=.ok () w:=by
 cases op<;>simp[eqGuard]
theorem apv{op:BinOp}{t:TypeId}{x:AV}{ox oy:Operand}{vx vy:Value}{q:bQ}(h:(atL P op t x).eval H=some q)(hn:bJ q.ab)(hs:Sat ρ H G w)
 (hx:af ρ H O w x vx) (hy:vy=.slice none 0 0):fz P ρ H O w q (do eqGuard op t ox oy vx vy;binOp op t vx vy:Sem Value):=by
 subst hy
 have key:∀e,P.underlying t=some (.slice e)->(op=.eql\/op=.neq)->∀a n c n',vx=.slice a n c->(a=none->n'=0)->(plain [] (.s (.lI n' (rL op)))).eval H=some q->fz P ρ H O w q (do eqGuard op t ox oy vx (.slice none 0 0);binOp op t vx (.slice none 0 0):Sem Value):=by
  rintro e ht zk a n c n' rfl ha h;refine aO h (λ_=> ?_) hn;rcases zk with rfl|rfl;exact⟨.bool a.isNone,by simp[qt,Lib.run_eql_slice_nil w t e a n c 0 0 ht],aE (.lI _ _ _ (λe=>ha (by simpa[rL]using e)))⟩;exact⟨.bool (!a.isNone),by simp[qt,run_neq_slice_nil_any w t e a n c 0 0 ht],aE (.lI _ _ _ (λe=>ha (by simpa[rL]using e)))⟩
 have apw:∀x,af ρ H O w x vx->(op=.eql\/op=.neq)->(match P.underlying t with
  |some (.slice _)=>
   match x with
   |.s (.ro c)=>plain [] (.s (.lI c.n (rL op)))|.emp=>plain [] (.s (.lI 0 (rL op)))|.vec id=>.look id λo=>match o with
    |some (.vec c _)=>plain [] (.s (.lI c.n (rL op)))|_=>.fail ""
   |_=>.fail ""
  |_=>.fail "" :RM bQ).eval H=some q->fz P ρ H O w q (do eqGuard op t ox oy vx (.slice none 0 0);binOp op t vx (.slice none 0 0):Sem Value):=by
  intro x hx zk h;split at h;rename_i e ht;split at h;have h1:=ax (by simp) hx;cases h1 with
  |ro c a cap us b o q1 q2 q3 q4 q5=>exact key e ht zk _ _ _ _ rfl (λha=>Decidable.byContradiction λhn0=>by have:=(q3 (Nat.pos_of_ne_zero hn0)).1;rw[ha]at this;cases this) h
  unfold af at hx;obtain⟨a,rfl⟩:=hx;exact key e ht zk _ _ _ _ rfl (λ_=>rfl) h;simp only[RM.eval]at h;split at h;rename_i ho;obtain⟨a,cap,rfl,dK,hle,_⟩:=iz hs ho hx;refine key e ht zk _ _ _ _ rfl (λha=> ?_) h;have⟨a2,qT,alj,_,_,h3⟩:=hs.obj _ _ ho;rw[dK]at alj;cases alj;rcases h3 with h3|⟨_,_,_,_,_,h3,_⟩;omega;rw[ha]at h3;cases h3;cases h;cases h;cases h
 unfold atL at h;split at h;exact apw x hx (.inl rfl) h;exact apw x hx (.inr rfl) h;cases h
theorem afR{op:BinOp}{t:TypeId}{x y:AV}{ox oy:Operand}{vx vy:Value}{q:bQ}(h:(abg op x y).eval H=some q)(hn:bJ q.ab)
 (hx:af ρ H O w x vx) (hy:af ρ H O w y vy):fz P ρ H O w q (do eqGuard op t ox oy vx vy;binOp op t vx vy:Sem Value):=by
 unfold abg at h;split at h;rename_i l a b h1;obtain rfl:=ch h1 hx;have hy:=ax (by simp) hy;cases hy with
 |nI _ n hge=>
  refine aO h (λcP=> ?_) hn;have⟨h3,_⟩:=cP;refine⟨.bool false, ?_,aE (.aI _)⟩;have:¬a>n:=by omega
  simp[gX,binOp,Op.intCmp,this]
 rename_i l a b h1;obtain rfl:=ch h1 hx;have hy:=ax (by simp) hy;cases hy with
 |qn _ n bo=>
  refine aO h (λcP=> ?_) hn;have⟨h3,_⟩:=cP;refine⟨.bool true, ?_,aE (.aI _)⟩;have:a>n:=by omega
  simp[gX,binOp,Op.intCmp,this]
 cases h
theorem my{x:AV}{v:Value}(h:af ρ H O w x v):af ρ H O w (qq x) v:=by
 unfold qq;split;have h1:=ax (by simp) h;cases h1;unfold af;exact⟨none,rfl⟩;exact h
theorem alk{x:AV}{v:Value}(h:af ρ H O w x v)(hx:afO x=true):v=.slice none 0 0:=by
 unfold afO at hx;split at hx;have h1:=ax (by simp) h;cases h1;rfl;cases hx
theorem aho{ts:Array TypeId}{ty:TypeId}{mx:Bool}{x y:AV}{vx vy:Value}{q:bQ}(h:(apm mx x y).eval H=some q)(hn:bJ q.ab)(hx:af ρ H O w x vx)(hy:af ρ H O w y vy):
 fz P ρ H O w q (if mx then Builtin.max_ ts ty #[vx,vy]else Builtin.min_ ts ty #[vx,vy]):=by
 unfold apm at h;split at h;rename_i k lx a k' ly b h1 h2;obtain rfl:=ch h1 hx;obtain rfl:=ch h2 hy;rw[cond_eq_ite]at h;split at h;rename_i hk;obtain rfl:=bt hk;cases mx;exact aO h (λ_=>⟨_,by simp[run_min_int2,qO],gW _ _ _⟩) hn;exact aO h (λ_=>⟨_,by simp[run_max_int2,imax],gW _ _ _⟩) hn;cases h;cases h
theorem abn{x:AV}{vx:Value}{q:bQ}(h:(tH x).eval H=some q)(hn:bJ q.ab)(hd:af ρ H O w x vx)(e:Operand->Value)(o:Oper)(y:Operand)(ho:o.op=.nilCheck y)(he:e y=vx):
 q.up=[]/\q.new=[]/\(execOp e o).run P w=.ok (.value vx) w/\∀base,af ρ H O w (q.r base) vx:=by
 have fin:∀r,(plain [] r).eval H=some q->r=x->(execOp e o).run P w=.ok (.value vx) w->q.up=[]/\q.new=[]/\(execOp e o).run P w=.ok (.value vx) w/\∀base,af ρ H O w (q.r base) vx:=by
  intro r hr hx jb;simp only[plain,RM.eval,Option.some.injEq]at hr;subst hr;subst hx;exact⟨rfl,rfl,jb,λ_=>hd⟩
 unfold tH at h;split at h;unfold af aN at hd;obtain⟨b,_,rfl,_⟩:=hd;exact fin _ h rfl (by simp[execOp,ho,he]);unfold af aN at hd;obtain⟨_,b,_,rfl,_⟩:=hd;exact fin _ h rfl (by simp[execOp,ho,he]);unfold af aN at hd;obtain⟨b,o',us,rfl,_⟩:=hd;exact fin _ h rfl (by simp[execOp,ho,he]);unfold af at hd;obtain⟨vs,rfl,_⟩:=hd;exact fin _ h rfl (by simp[execOp,ho,he]);have h1:=ax (by simp) hd;cases h1;exact fin _ h rfl (by simp[execOp,ho,he]);cases h
theorem abo{fn:Fn}{first dv:List AV}{vf vc:List Value}{q:bQ}(h:(tI fn first dv).eval H=some q)(hn:bJ q.ab)(hf:bL ρ H O w first vf)(hc:bL ρ H O w dv vc):
 fz P ρ H O w q (Instr.makeFunc fn vf.toArray vc.toArray):=by
 unfold tI at h;split at h;rename_i f;obtain rfl:=a8.1 hf;obtain rfl:=a8.1 hc;exact aO h (λ_=>⟨_,rfl,aE (.rH f)⟩) hn;rename_i f c cs;obtain rfl:=a8.1 hf;exact aO h (λ_=>⟨_,rfl,by unfold af;exact⟨vc,rfl,hc⟩⟩) hn;rename_i f c cs;obtain rfl:=a8.1 hc;exact aO h (λ_=>⟨_,rfl,by unfold af;exact⟨vf,rfl,hf⟩⟩) hn;cases h
end
section
variable{ρ aL:Nat->Value}{H H':aS}{G O O':Nat->Prop}{w w':World}{P:Program}
def oC(ρ:Nat->Value)(H:aS)(O:Nat->Prop)(w:World):Option AV->Option Value->Prop
 |none,none=>True|some a,some v=>af ρ H O w a v|_,_=>False
theorem cQ{d n:Int}{o:Option AV}{vo:Option Value}(h:gV d o=some n)(hd:oC ρ H O w o vo):(vo=none/\n=d)\/∃k,vo=some (.int k n):=by
 cases o with
 |none=>
  cases vo with
  |none=>simp only[gV,Option.some.injEq]at h;exact .inl ⟨rfl,h.symm⟩|some v=>exact hd.elim
 |some a=>
  cases vo with
  |none=>exact hd.elim|some v=>
   simp only[gV,map_eq_some_iff]at h;obtain⟨⟨k,l,m⟩,h1,rfl⟩:=h;exact .inr ⟨k,by rw[ch h1 hd]⟩
theorem pL(c:aU){l h:Nat}(_hl:l<=h)(hh:h<=c.n):(dS c l h).n=h - l:=by
 cases c<;>simp only[dS,aU.n,length_drop,length_take]at * <;>omega
theorem kf(c:aU)(l h:Nat):(dS c l h).size=c.size:=by cases c<;>rfl
theorem alm{α:Type}(zs:List α)(d:α){l h i:Nat}(hi:i<h - l):((zs.take h).drop l).getD i d=zs.getD (l+i) d:=by
 simp only[List.getD,List.getElem?_drop,getElem?_take];rw[if_pos (by omega)]
theorem kg(c:aU){l h i:Nat}(j:Nat)(hi:i<h - l):(dS c l h).cell i j=c.cell (l+i) j:=by
 cases c<;>simp only[dS,aU.cell,alm _ _ hi]
theorem acS{s:ByteArray}{lo hi:Option Value}{l h:Int}(hl:(lo=none/\l=0)\/∃k,lo=some (.int k l))(hh:(hi=none/\h=(s.size:Int))\/∃k,hi=some (.int k h))
 (h0:0<=l) (h1:l<=h) (h2:h<=s.size) {t:TypeId} (ht:P.underlying t=some .string) (w:World):
 (Instr.sliceAt t (.string s) lo hi none).run P w=.ok (.string (s.extract l.toNat h.toNat)) w:=by
 have hle:l<=((h.toNat:Nat):Int):=by omega
 rcases hl with⟨rfl,rfl⟩|⟨k,rfl⟩<;>rcases hh with⟨rfl,rfl⟩|⟨k',rfl⟩;simp[Instr.sliceAt,Instr.slice,run_underlying ht,Instr.sliceBounds];simp[Instr.sliceAt,Instr.slice,run_underlying ht,Instr.sliceBounds,run_sliceBound _ _ _ _ _ h1 h2];simp[Instr.sliceAt,Instr.slice,run_underlying ht,Instr.sliceBounds,run_sliceBound _ _ _ _ _ h0 h1];simp[Instr.sliceAt,Instr.slice,run_underlying ht,Instr.sliceBounds,run_sliceBound _ _ _ _ _ (show 0<=h by omega) h2,run_sliceBound _ _ _ _ _ h0 hle]
theorem mz{a:Option Addr}{n cap:Nat}{lo hi:Option Value}{l h:Int}(hl:(lo=none/\l=0)\/∃k,lo=some (.int k l))(hh:(hi=none/\h=(n:Int))\/∃k,hi=some (.int k h))
 (h0:0<=l) (h1:l<=h) (h2:h<=cap) {t e:TypeId} (ht:P.underlying t=some (.slice e)) {sz:Nat} (hs:dX P e=some sz) (w:World):
 (Instr.sliceAt t (.slice a n cap) lo hi none).run P w=.ok (.slice (if cap=l.toNat then a else a.map (·.add (l.toNat*sz))) (h.toNat - l.toNat) (cap - l.toNat)) w:=by
 have hle:l<=((h.toNat:Nat):Int):=by omega
 rcases hl with⟨rfl,rfl⟩|⟨k,rfl⟩<;>rcases hh with⟨rfl,rfl⟩|⟨k',rfl⟩;simp[Instr.sliceAt,Instr.slice,run_underlying ht,Instr.sliceBounds,run_sizeOf hs];simp[Instr.sliceAt,Instr.slice,run_underlying ht,Instr.sliceBounds,run_sliceBound _ _ _ _ _ h1 h2,run_sizeOf hs];simp[Instr.sliceAt,Instr.slice,run_underlying ht,Instr.sliceBounds,run_sliceBound _ _ _ _ _ h0 h1,run_sizeOf hs];simp[Instr.sliceAt,Instr.slice,run_underlying ht,Instr.sliceBounds,run_sliceBound _ _ _ _ _ (show 0<=h by omega) h2,run_sliceBound _ _ _ _ _ h0 hle,run_sizeOf hs]
theorem vd{b o n:Nat}{lo hi:Option Value}{l h:Int}(hl:(lo=none/\l=0)\/∃k,lo=some (.int k l))(hh:(hi=none/\h=(n:Int))\/∃k,hi=some (.int k h))
 (h0:0<=l) (h1:l<=h) (h2:h<=n) {t e:TypeId} (ht:P.underlying t=some (.array n e)) (hs:dX P e=some 1) (w:World):
 ∃a,(Instr.sliceAt t (.pointer (some ⟨b,o,none⟩)) lo hi none).run P w=.ok (.slice a (h.toNat - l.toNat) (n - l.toNat)) w/\(h.toNat - l.toNat≠0->a=some ⟨b,o+l.toNat,none⟩):=by
 have hle:l<=((h.toNat:Nat):Int):=by omega
 refine⟨some (if n=l.toNat then⟨b,o,none⟩else(⟨b,o,none⟩:Addr).add (l.toNat*1)), ?_,λcP=>by rw[if_neg (by omega),bc,Nat.mul_one]⟩;rcases hl with⟨rfl,rfl⟩|⟨k,rfl⟩<;>rcases hh with⟨rfl,rfl⟩|⟨k',rfl⟩;simp[Instr.sliceAt,Instr.sureAddr,run_underlying ht,Instr.sliceBounds,run_sizeOf hs];simp[Instr.sliceAt,Instr.sureAddr,run_underlying ht,Instr.sliceBounds,run_sliceBound _ _ _ _ _ h1 h2,run_sizeOf hs];simp[Instr.sliceAt,Instr.sureAddr,run_underlying ht,Instr.sliceBounds,run_sliceBound _ _ _ _ _ h0 h1,run_sizeOf hs];simp[Instr.sliceAt,Instr.sureAddr,run_underlying ht,Instr.sliceBounds,run_sliceBound _ _ _ _ _ (show 0<=h by omega) h2,run_sliceBound _ _ _ _ _ h0 hle,run_sizeOf hs]
theorem afS{c:aU}{v:Value}(hx:aW O w (.ro c) v){l h:Nat}(hl:l<=h)(hh:h<=c.n):∃a cap,v=.slice a c.n cap/\c.n<=cap/\
 ∀sz,sz=c.size->aW O w (.ro (dS c l h)) (.slice (if cap=l then a else a.map (·.add (l*sz))) (h - l) (cap - l)):=by
 cases hx with
 |ro _ a cap us b o h1 h2 h3 h4 h5=>
  refine⟨a,cap,rfl,h1, ?_⟩;rintro sz rfl;have hn:=pL c hl hh;have bU:=kf c l h;have key:=aW.ro (O:=O) (w:=w) (dS c l h) (if cap=l then a else a.map (·.add (l*c.size))) (cap - l) (λi j=>us (l+i) j) b (o+l*c.size) (by omega) (by omega)
   (λh0=>by
     obtain⟨rfl,h6,h7⟩:=h3 (by omega);refine⟨?_,h6,h7⟩;rw[if_neg (by omega)];simp only[map_some,bc])
   (λi j hi hj=>by
     rw[hn]at hi;rw[bU]at hj ⊢;have:=h4 (l+i) j (by omega) hj;rw[show o+l*c.size+i*c.size+j=o+(l+i)*c.size+j from by rw[add_mul];omega];exact this)
   (λi j hi hj=>by
     rw[hn]at hi;rw[bU]at hj;rw[kg c j hi];exact h5 _ _ (by omega) hj)
  rw[hn]at key;exact key
theorem aln(a:Option Addr)(hf:∃b o,a=some ⟨b,o,none⟩)(x y:Nat):(a.map (·.add x)).map (·.add y)=a.map (·.add (x+y)):=by
 obtain⟨b,o,rfl⟩:=hf;simp only[map_some,bc,add_assoc]
theorem acT{t e e':TypeId}{c:aU}{id lo0 n:Nat}{lo hi mx:Option AV}{vlo vhi zu:Option Value}{q:bQ}(h:(ahl P e c id lo0 n lo hi mx).eval H=some q)(hn:bJ q.ab)
 (ht:P.underlying t=some (.slice e)) (ho:H id=some (.vec c e')) {a a':Option Addr} {cap:Nat} (hr:ρ id=.slice a c.n cap) (zv:c.n<=cap) (hln:lo0+n<=c.n) (ha':cap≠lo0->a'=a.map (·.add (lo0*c.size)))
 (hf:cap≠0->∃b o,a=some ⟨b,o,none⟩) (hlo:oC ρ H O w lo vlo) (hhi:oC ρ H O w hi vhi) (hmx:oC ρ H O w mx zu):
 fz P ρ H O w q (Instr.sliceAt t (.slice a' n (cap - lo0)) vlo vhi zu):=by
 unfold ahl at h;split at h;rename_i sz bU;rw[cond_eq_ite]at h;split at h;rename_i hz;have hz:sz=c.size:=by simpa using hz
 subst hz;split at h;obtain rfl:zu=none:=by cases zu<;>first|rfl|exact hmx.elim
 split at h;rename_i l hh h1 h2;refine aO h (λcP=> ?_) hn;have⟨h3,h4,h5,_⟩:=cP;refine⟨_,mz (cQ h1 hlo) (cQ h2 hhi) h3 h4 (by omega) ht bU w, ?_⟩;unfold af aN;refine⟨rfl,_,ho,λc' e'' hc=> ?_⟩;cases hc;refine⟨by omega,a,cap,_,hr,zv,by rw[Nat.sub_sub],λcP=> ?_⟩;have hc0:cap≠lo0:=by omega
 rw[if_neg (by omega),ha' hc0,aln _ (hf (by omega)),add_mul];cases h;rename_i m;split at h;rename_i l kh lh hh km lm m' h1 h2 h3;refine aO h (λcP=> ?_) hn;have⟨g1,g2,g3,g4,_⟩:=cP;simp only[bind_eq_some_iff]at h2;obtain⟨ha,rfl,h2⟩:=h2;cases zu with
 |none=>exact hmx.elim|some vm=>
  cases vhi with
  |none=>exact hhi.elim|some vh=>
   obtain rfl:=ch h3 hmx;obtain rfl:=ch h2 hhi;have e1:m'<=(((cap - lo0:Nat):Int)):=by omega
   have e2:hh<=((m'.toNat:Nat):Int):=by omega
   have e3:l<=((hh.toNat:Nat):Int):=by omega
   rcases cQ h1 hlo with⟨rfl,rfl⟩|⟨k1,rfl⟩;exact⟨_,by simp[Instr.sliceAt,Instr.slice,run_underlying ht,Instr.sliceBounds,run_sliceBound _ _ _ _ _ (show 0<=m' by omega) e1,run_sliceBound _ _ _ _ _ (show 0<=hh by omega) e2,run_sizeOf bU];rfl,by unfold af;trivial⟩;exact⟨_,by simp[Instr.sliceAt,Instr.slice,run_underlying ht,Instr.sliceBounds,run_sliceBound _ _ _ _ _ (show 0<=m' by omega) e1,run_sliceBound _ _ _ _ _ (show 0<=hh by omega) e2,run_sliceBound _ _ _ _ _ g1 e3,run_sizeOf bU];rfl,by unfold af;trivial⟩
 cases h;cases h;cases h
theorem ajw(hs:Sat ρ H G w){t:TypeId}{x:AV}{lo hi mx:Option AV}{vx:Value}{vlo vhi zu:Option Value}{q:bQ}(h:(afM P t x lo hi mx).eval H=some q)(hn:bJ q.ab)
 (hd:af ρ H O w x vx) (hlo:oC ρ H O w lo vlo) (hhi:oC ρ H O w hi vhi) (hmx:oC ρ H O w mx zu):
 fz P ρ H O w q (Instr.sliceAt t vx vlo vhi zu):=by
 unfold afM at h;split at h;rename_i s ht;obtain rfl:=fH hd;split at h;rename_i l hh h1 h2;obtain rfl:zu=none:=by cases zu<;>first|rfl|exact hmx.elim
 refine aO h (λcP=> ?_) hn;have⟨h3,h4,h5,_⟩:=cP;exact⟨_,acS (cQ h1 hlo) (cQ h2 hhi) h3 h4 h5 ht w,aE (.str _)⟩;cases h;rename_i e ht;unfold af at hd;obtain⟨a,rfl⟩:=hd;split at h;rename_i sz l hh bU h1 h2;obtain rfl:zu=none:=by cases zu<;>first|rfl|exact hmx.elim
 refine aO h (λcP=> ?_) hn;obtain⟨rfl,rfl,_⟩:=cP;exact⟨_,mz (cQ h1 hlo) (cQ h2 hhi) (by omega) (by omega) (by omega) ht bU w,by unfold af;exact⟨a,by simp⟩⟩;cases h;rename_i e c ht;have hx:=ax (by simp) hd;split at h;rename_i sz bU;rw[cond_eq_ite]at h;split at h;rename_i hz;have hz:sz=c.size:=by simpa using hz
 split at h;obtain rfl:zu=none:=by cases zu<;>first|rfl|exact hmx.elim
 split at h;rename_i l hh h1 h2;refine aO h (λcP=> ?_) hn;have⟨h3,h4,h5,_⟩:=cP;obtain⟨a,cap,rfl,hle,alo⟩:=afS hx (l:=l.toNat) (h:=hh.toNat) (by omega) (by omega);exact⟨_,mz (cQ h1 hlo) (cQ h2 hhi) h3 h4 (by omega) ht bU w,aE (alo sz hz)⟩;cases h;rename_i m;split at h;rename_i l kh lh hh km lm m' h1 h2 h3;refine aO h (λcP=> ?_) hn;obtain⟨rfl,rfl,rfl,_⟩:=cP;simp only[bind_eq_some_iff]at h2;obtain⟨ha,rfl,h2⟩:=h2;cases zu with
 |none=>exact hmx.elim|some vm=>
  cases vhi with
  |none=>exact hhi.elim|some vh=>
   obtain rfl:=ch h3 hmx;obtain rfl:=ch h2 hhi;cases hx with
   |ro _ a cap us b o g1 g2 g3 g4 g5=>
    refine⟨.slice a 0 0, ?_,by unfold af;exact⟨a,rfl⟩⟩
    have hb:∀(k:IntKind) (y:Nat) (code:BoundsCode) (w:World),(Instr.sliceBound (.int k 0) y code).run P w=.ok 0 w:=λk y code w=>by
     rw[run_sliceBound _ _ _ _ _ (by omega) (by omega)];rfl
    rcases cQ h1 hlo with⟨rfl,_⟩|⟨k1,rfl⟩;simp[Instr.sliceAt,Instr.slice,run_underlying ht,Instr.sliceBounds,hb,run_sizeOf bU];simp[Instr.sliceAt,Instr.slice,run_underlying ht,Instr.sliceBounds,hb,run_sizeOf bU]
 cases h;cases h;cases h;rename_i e c k ht;have hx:=ax (by simp) hd
 obtain⟨a0,n0,azf,rfl,hx,bo⟩:∃a n cap,vx=.slice a n cap/\aW O w (.ro c) vx/\cap<k:=by
  cases hx with
  |rot _ _ a n cap h1 h2=>exact⟨a,n,cap,rfl,h1,h2⟩
 split at h;rename_i sz bU;rw[cond_eq_ite]at h;split at h;rename_i hz;have hz:sz=c.size:=by simpa using hz
 obtain rfl:zu=none:=by cases zu<;>first|rfl|exact hmx.elim
 split at h;rename_i hh h2;obtain rfl:vlo=none:=by cases vlo<;>first|rfl|exact hlo.elim
 refine aO h (λcP=> ?_) hn;have⟨h4,h5,_⟩:=cP;have⟨a,cap,e0,hle,alo⟩:=afS hx (l:=0) (h:=hh.toNat) (by omega) (by omega);cases e0;have hd2:=alo sz hz;exact⟨_,mz (l:=0) (.inl ⟨rfl,rfl⟩) (cQ h2 hhi) (by omega) h4 (by omega) ht bU w,aE (.rot _ _ _ _ _ hd2 (by omega))⟩;rename_i l hh h2;split at h;rename_i kl ll l' h1;refine aO h (λcP=> ?_) hn;have⟨h3,h4,h5,_⟩:=cP;have⟨a,cap,e0,hle,alo⟩:=afS hx (l:=l'.toNat) (h:=hh.toNat) (by omega) (by omega);cases e0;have h1':gV 0 (some l)=some l':=by simp[gV,h1]
 exact⟨_,mz (cQ h1' hlo) (cQ h2 hhi) h3 h4 (by omega) ht bU w,aE (alo sz hz)⟩;cases h;cases h;cases h;cases h;rename_i e id ht;simp only[RM.eval]at h;split at h;rename_i c e' ho;obtain⟨a,cap,rfl,hr,hle,_⟩:=iz hs ho hd;have dT:=hs.obj id _ ho;rw[hr]at dT;have⟨a2,qT,g1,_,_,g4⟩:=dT;cases g1
 have hf:cap≠0->∃b o,a=some ⟨b,o,none⟩:=λhc=>by
  rcases g4 with g4|⟨b,o,_,_,_,g5,_⟩;exact absurd g4 hc;exact⟨b,o,g5⟩
 have:=acT (a':=a) h hn ht ho hr hle (by omega) (λhc=>by
  obtain⟨b,o,rfl⟩:=hf hc;simp[bc]) hf hlo hhi hmx
 simpa using this;cases h;rename_i e id lo0 n ht;simp only[RM.eval]at h;split at h;rename_i c e' ho;obtain⟨h0,a,cap,a',h1,h2,h3,rfl,h4,h5⟩:=jA hs ho hd;exact acT h hn ht ho h1 h2 h0 h4 h5 hlo hhi hmx;cases h;rename_i n e id off ht;split at h;rename_i sz l hh bU h1 h2;obtain rfl:zu=none:=by cases zu<;>first|rfl|exact hmx.elim
 rw[cond_eq_ite]at h;split at h;rename_i h1s;obtain rfl:sz=1:=by simpa using h1s
 unfold af aN at hd;obtain⟨b,hb,rfl,hi⟩:=hd;refine aO h (λcP=> ?_) hn;have⟨h3,h4,h5,_⟩:=cP;have⟨a,e1,e2⟩:=vd (b:=b) (o:=off) (cQ h1 hlo) (cQ h2 hhi) h3 h4 h5 ht bU w;refine⟨_,e1, ?_⟩;unfold af aN;exact⟨rfl,b,a,_,hb,rfl,e2,hi⟩;cases h;cases h;rename_i n e id i j ht;split at h;rename_i sz l hh bU h1 h2;obtain rfl:zu=none:=by cases zu<;>first|rfl|exact hmx.elim
 simp only[RM.eval]at h;split at h;rename_i c e' ho;rw[cond_eq_ite]at h;split at h;rename_i h1s;simp only[and_eq_true,beq_eq]at h1s;obtain⟨rfl,hjn⟩:=h1s;have hjn:=le_of_ble_eq_true hjn;unfold af aN at hd;have⟨h0,o,dH,hv⟩:=hd;rw[ho]at dH;cases dH;obtain⟨g1,g2,b,f,n',cap,g3,rfl⟩:=hv c e' rfl;refine aO h (λcP=> ?_) hn;have⟨h3,h4,h5,_⟩:=cP;have⟨a,e1,e2⟩:=vd (b:=b) (o:=f+i*c.size+j) (cQ h1 hlo) (cQ h2 hhi) h3 h4 h5 ht bU w;refine⟨_,e1, ?_⟩;unfold af aN;refine⟨rfl,_,ho,λc2 e2' hc=> ?_⟩;cases hc;exact⟨g1,by omega,b,f,n',cap,a,_,g3,rfl,λhz=>by rw[e2 hz,add_assoc]⟩;cases h;cases h;cases h;cases h
theorem abp(zs:List Int):∀(l:List Value) (s:ByteArray) (w:World),l=zs.map (Value.int .u8)->
 (forIn (m:=Sem) l s λc s=>do
   match c with
   |.int .u8 n=>pure (ForInStep.yield (s.push (UInt8.ofNat n.toNat)))|_=>do
    stuck "bytesToString: byte expected"
    pure (ForInStep.yield s)).run P w=.ok ⟨s.data++(zs.map λn=>UInt8.ofNat n.toNat).toArray⟩ w:=by
 induction zs with
 |nil=>intro l s w h;subst h;simp
 |cons z zs ih=>
  intro l s w h;subst h;simp only[map_cons,List.forIn_cons,Sem.run_bind,Sem.run_pure,Result.andThen_ok];rw[ih _ _ _ rfl];congr 2;simp[ByteArray.push]
def qU(O:Nat->Prop)(w:World)(c:aU)(v:Value):Prop:=
 ∃(a:Option Addr) (cap:Nat) (us:Nat->Nat->Value),v=.slice a c.n cap/\c.n<=cap/\cap<=maxLen/\(0<c.n->∃b o,a=some ⟨b,o,none⟩/\b<w.heap.size/\
  ∀i j,i<c.n->j<c.size->w.cell? ⟨b,o+i*c.size+j,none⟩=some (us i j)/\aW O w (c.cell i j) (us i j))
theorem xc(sh:Shape)(size:Nat):(ald sh size).n=0:=by cases sh<;>rfl
theorem xd{sh:Shape}{size:Nat}{x:AV}{k:aU->Option Nat->RM bQ}{v:Value}{q:bQ}(h:(rowOf sh size x k).eval H=some q)(hs:Sat ρ H G w)(hd:af ρ H (aV ρ H G) w x v):
 ∃c idy,(k c idy).eval H=some q/\qU (aV ρ H G) w c v:=by
 unfold rowOf at h;split at h;split at h;rename_i c;have hx:=ax (by simp) hd;cases hx with
 |ro _ a cap us b o g1 g2 g3 g4 g5=>
  refine⟨c,none,h,a,cap,us,rfl,g1,g2,λh0=> ?_⟩;obtain⟨rfl,_,h2⟩:=g3 h0;exact⟨b,o,rfl,h2,λi j hi hj=>⟨g4 i j hi hj,g5 i j hi hj⟩⟩
 cases h;unfold af at hd;obtain⟨a,rfl⟩:=hd;exact⟨_,none,h,a,0,λ_ _=>undef,by rw[xc],by rw[xc];exact le_refl _,by simp[maxLen],by rw[xc];omega⟩;rename_i id;simp only[RM.eval]at h;split at h;rename_i c e ho;refine⟨c,some id,h, ?_⟩;unfold af aN at hd;have⟨_,o,dH,hv⟩:=hd;rw[ho]at dH;cases dH;obtain rfl:=hv c e rfl;have⟨a,cap,h1,h2,h3,h4⟩:=hs.obj id _ ho;rcases h4 with rfl|⟨b,o,cells,fr,us,rfl,h5,h6,h7,h8⟩;exact⟨a,0,λ_ _=>undef,h1,h2,h3,λh0=>by omega⟩;refine⟨_,cap,us,h1,h2,h3,λ_=>⟨b,o,rfl,(Array.getElem?_eq_some_iff.1 h5).1,λi j hi hj=> ?_⟩⟩;have⟨h9,vQ⟩:=h8 i j hi hj;exact⟨by rw[de h5];exact h9,vQ⟩;cases h;rename_i id lo n;simp only[RM.eval]at h;split at h;rename_i c e ho;refine⟨_,some id,h, ?_⟩;obtain⟨g0,a,cap,a',g1,g2,g3,rfl,g4,g5⟩:=jA hs ho hd;have hn:(dS c lo (lo+n)).n=n:=by rw[pL c (by omega) g0];omega
 have bU:=kf c lo (lo+n);have⟨a2,qT,k1,k2,k3,k4⟩:=hs.obj id _ ho;rw[g1]at k1;cases k1;rcases k4 with rfl|⟨b,o,cells,fr,us,rfl,h5,h6,h7,h8⟩;exact⟨a',0 - lo,λ_ _=>undef,by rw[hn],by rw[hn];omega,by omega,λh0=>by rw[hn]at h0;omega⟩;refine⟨a',cap - lo,λi j=>us (lo+i) j,by rw[hn],by rw[hn];omega,by omega,λh0=> ?_⟩;rw[hn]at h0;refine⟨b,o+lo*c.size,by rw[g4 (by omega)];simp[bc],(Array.getElem?_eq_some_iff.1 h5).1,λi j hi hj=> ?_⟩;rw[hn]at hi;rw[bU]at hj ⊢;have⟨h9,vQ⟩:=h8 (lo+i) j (by omega) hj;refine⟨?_,by rw[kg c j (by omega)];exact vQ⟩;rw[de h5,show o+lo*c.size+i*c.size+j=o+(lo+i)*c.size+j from by rw[add_mul];omega];exact h9;cases h;cases h
theorem zw(zs:List Int):zs.map (Value.int .u8)=(List.range zs.length).map λi=>Value.int .u8 (zs.getD i 0):=by
 apply List.ext_getElem;simp;intro i h1 h2;simp at h1;simp[h1]
theorem kQ{zs:List Int}{a:Option Addr}{cap:Nat}(h3:0<zs.length->∃b o,a=some ⟨b,o,none⟩/\∀j,j<zs.length->w.cell? ⟨b,o+j,none⟩=some (.int .u8 (zs.getD j 0))):
 (Conv.bytesToString (.slice a zs.length cap)).run P w=.ok (.string (aF zs)) w:=by
 cases a with
 |none=>
  have:zs.length=0:=by
   rcases Nat.eq_zero_or_pos zs.length with h0|h0;exact h0;have⟨b,o,e,_⟩:=h3 h0;cases e
  obtain rfl:=List.eq_nil_of_length_eq_zero this;rfl
 |some a=>
  have awx:(loadCells a zs.length).run P w=.ok (zs.map (Value.int .u8)).toArray w:=by
   rcases Nat.eq_zero_or_pos zs.length with h0|h0;obtain rfl:=List.eq_nil_of_length_eq_zero h0;rfl;have⟨b,o,e,hc⟩:=h3 h0;cases e;rw[zw];refine run_loadCells w _ _ (λi=>Value.int .u8 (zs.getD i 0)) (λj hj=> ?_);rw[bc];exact hc j hj
  simp only[Conv.bytesToString,Sem.run_bind,awx,Result.andThen_ok];rw[<-Array.forIn_toList];have:=abp (P:=P) zs (zs.map (Value.int .u8)) empty w rfl;erw [this];simp[aF]
theorem rQ{zs:List Int}{v:Value}(h:qU O w (.ah .u8 zs) v):(Conv.bytesToString v).run P w=.ok (.string (aF zs)) w:=by
 obtain⟨a,cap,us,rfl,h1,h2,h3⟩:=h;simp only[aU.n]at h1 h3 ⊢;refine kQ λh0=> ?_;have⟨b,o,e,_,hc⟩:=h3 h0;refine⟨b,o,e,λj hj=> ?_⟩;have⟨g1,g2⟩:=hc j 0 hj (by simp[aU.size]);simp only[aU.size,Nat.mul_one,add_zero,aU.cell]at g1 g2;rw[g1];generalize us j 0=u at g2 ⊢;cases g2;rfl
theorem aac(hs:Sat ρ H G w){id b m off n:Nat}{k:IntKind}{ws:List Int}{e:TypeId}(ho:H id=some (.aq [.ah k m ws] e))(hb:ρ id=.pointer (some ⟨b,0,none⟩))(hnm:off+n<=m):
 ((ws.drop off).take n).length=n/\∀j,j<n->w.cell? ⟨b,off+j,none⟩=some (.int k (((ws.drop off).take n).getD j 0)):=by
 have⟨cells,fr,e1,_,e2⟩:=pK hs ho hb;obtain⟨c1,c2,rfl,e3,e4⟩:=ag.1 e2;obtain⟨e5,rfl⟩:=db.1 e3;obtain rfl:=aC.1 e4;refine⟨by rw[length_take,length_drop];omega,λj hj=> ?_⟩;rw[de e1,append_nil,getElem?_map];have bo:off+j<ws.length:=by omega
 rw[getElem?_eq_getElem bo];simp[List.getD,getElem?_take,hj,List.getElem?_drop,bo]
theorem acU{src dst:TypeId}{x:AV}{vx:Value}{q:bQ}(h:(wW P src dst x).eval H=some q)(hn:bJ q.ab)(hs:Sat ρ H G w)(hd:af ρ H (aV ρ H G) w x vx):
 fz P ρ H (aV ρ H G) w q (convert src dst vx):=by
 unfold wW at h;split at h;rename_i d k qh lK;split at h;rename_i k' lit n oz;obtain rfl:=ch oz hd
 have jb:(convert src dst (.int k' n)).run P w=.ok (.int k (k.wrap n)) w:=by
  simp[convert,run_underlying qh,run_underlying lK,Conv.intToInt]
 rw[cond_eq_ite]at h;split at h;exact aO h (λ_=>⟨_,jb,aE (.aR _ _)⟩) hn;rw[cond_eq_ite]at h;split at h;rename_i hk;simp only[and_eq_true]at hk;obtain rfl:=oq hk.1;refine aO h (λcP=>⟨_,jb, ?_⟩) hn;rw[cq cP.1];exact aE (.int _ _);exact aO h (λ_=>⟨_,jb,aE (.int _ _)⟩) hn;cases h;rename_i qh lK;split at h;rename_i s;obtain rfl:=fH hd;exact aO h (λ_=>⟨_,by simp[convert,run_underlying qh,run_underlying lK],aE (.str _)⟩) hn;cases h;rename_i e qh lK;split at h;rename_i hk
 have he:P.underlying e=some (.int .u8):=by
  unfold kindOf at hk;split at hk<;>first|(cases hk;assumption)|cases hk
 split at h;rename_i id off n;simp only[RM.eval]at h;split at h;rename_i m ws e' ho;unfold af aN at hd;obtain⟨_,b,a,cap,hb,rfl,ha,_⟩:=hd;refine aO h (λcP=>⟨_, ?_,aE (.str _)⟩) hn;have hnm:off+n<=m:=cP.1;have⟨hl,hc⟩:=aac hs ho hb hnm;have:=kQ (P:=P) (w:=w) (zs:=(ws.drop off).take n) (a:=a) (cap:=cap) (λh0=>⟨b,off,ha (by omega),λj hj=>hc j (by omega)⟩);rw[hl]at this;simp[convert,run_underlying qh,run_underlying lK,run_underlying he,this];cases h;have⟨c,idy,h1,h2⟩:=xd h hs hd;split at h1;rename_i zs;refine aO h1 (λ_=>⟨.string (aF zs), ?_,aE (.str _)⟩) hn;obtain⟨a,cap,us,rfl,_⟩:=id h2;simp[convert,run_underlying qh,run_underlying lK,run_underlying he,rQ h2];cases h1;cases h;cases h
end
def cw:List (Nat×ak)->Nat->Option ak
 |[],_=>none|(id,o)::us,j=>match cw us j with
  |some x=>some x|none=>if j=id then some o else none
def cY(H:aS)(up:List (Nat×ak))(base:Nat)(new:List ak):aS:=λj=>
 match cw up j with
 |some o=>some o|none=>if base<=j/\j<base+new.length then new[j - base]? else H j
section
variable{ρ aL:Nat->Value}{H H':aS}{G O O':Nat->Prop}{w w':World}{P:Program}
theorem mA(base:Nat):cY H [] base []=H:=by
 funext j;simp only[cY,cw,length_nil,add_zero];rw[if_neg (by omega)]
theorem gb(id:Nat)(o:ak)(base:Nat):cY H [(id,o)] base []=aB H id o:=by
 funext j;simp only[cY,cw,aB,length_nil,add_zero];by_cases h:j=id;simp[h];simp only[h,if_false];rw[if_neg (by omega)]
theorem jB(base:Nat)(o:ak):cY H [] base [o]=aB H base o:=by
 funext j;simp only[cY,cw,aB,List.length_singleton];by_cases h:j=base;subst h;simp;rw[if_neg (by omega)];simp[h]
theorem ajx(id base:Nat)(x o:ak)(h:id≠base):cY H [(id,x)] base [o]=aB (aB H id x) base o:=by
 funext j;simp only[cY,cw,aB,List.length_singleton];by_cases h1:j=id;subst h1;simp[h];by_cases h2:j=base;subst h2;simp[h1];simp only[h1,h2,if_false];rw[if_neg (by omega)]
theorem cz:af ρ H O w (.bq []) undef:=by
 unfold af;exact⟨[],rfl,a8.2 rfl⟩
theorem kR{id:Nat}{o o':ak}(ho:H id=some o)(ha:o.alive=true){b:Nat}(hb:eW (ρ id)=some b)
 (tN:∀c' e',o'=.vec c' e'->∃c e,o=.vec c e/\c'.n=c.n/\c'.size=c.size) (tO:Obj):
 Step ρ H (aV ρ H G) w ρ (aB H id o') (aV ρ H G) (World.cD w b tO):=by
 have ei:Own ρ H b:=⟨id,o,ho,ha,hb⟩;refine⟨λ_ _ _=>rfl,λj x hx=> ?_,λc hc=>.inl hc,λc hc hO=>ja (λe=>hO (.inl (by subst e;exact ei))),by rw[jz];exact le_refl _⟩;by_cases hj:j=id;subst hj;rw[ho]at hx;cases hx;exact⟨o',by simp[aB],tN⟩;exact⟨x,by simp[aB,hj,hx],λc' e' hc=>⟨c',e',hc,rfl,rfl⟩⟩
theorem Good.xe(hs:Sat ρ H G w){id b:Nat}{ay dd:List AV}{e:TypeId}(ho:H id=some (.aq ay e))(hb:ρ id=.pointer (some ⟨b,0,none⟩))
 {cells eX:List Value} {fr:Nat×Nat} (h1:w.heap[b]? =some (.cells cells.toArray e fr)) (hu:unm fr cells.length) (hl:eX.length=cells.length)
 (hd:az ρ H (aV ρ H G) w dd eX):
 Good ρ H G w (aB H id (.aq dd e)) (.bq []) undef (World.cD w b (.cells eX.toArray e fr)):=by
 have mj:eW (ρ id)=some b:=by rw[hb];rfl
 have st:=kR (G:=G) (w:=w) (o':=.aq dd e) ho rfl mj (by simp) (.cells eX.toArray e fr);exact Good.write hs ho rfl rfl mj (by simp) ⟨b,eX,fr,hb,eh h1,by rw[hl];exact hu,hd.step st⟩ cz
theorem lS{t:TypeId}{b off:Nat}{v:Value}{n:Nat}(hs:dX P t=some n)(hl:v.cells.toList.length=n){w':World}
 (h:(storeCells ⟨b,off,none⟩ v.cells.toList 0).run P w=.ok () w'):(Instr.storeAt t (.pointer (some ⟨b,off,none⟩)) v).run P w=.ok () w':=by
 have:v.cells.size=n:=by simpa using hl
 simp[Instr.storeAt,Instr.sureAddr,storeVar,run_sizeOf hs,this,h]
theorem mB{v:Value}(h:v.oneCell'=true):v.cells.toList=[v]:=by
 cases v<;>first|rfl|(simp[Value.oneCell']at h)
theorem l9{α:Type}(l:List α)(i:Nat)(x:α)(h:i<l.length):l.take i++[x]++l.drop (i+1)=l.set i x:=by
 rw[List.set_eq_take_append_cons_drop,if_pos h];simp
theorem fV{c c':aU}{v:Value}(h0:c.n=0)(h1:c'.n=0)(h:aW O w (.ro c) v):aW O w (.ro c') v:=by
 cases h with
 |ro _ a cap us b o h2 h3 h4 h5 h6=>
  have:=aW.ro (O:=O) (w:=w) c' a cap us b o (by omega) h3 (λh=>by omega) (λi j hi hj=>by omega) (λi j hi hj=>by omega);rw[h1]at this;rw[h0];exact this
theorem alp{k:IntKind}{v:SV}{n:Int}{u:Value}(h:ala k v=some n)(hu:aW O w v u):aW O w (.int k n) u:=by
 unfold ala at h;split at h;rw[cond_eq_ite]at h;split at h;rename_i hk;obtain rfl:=bt hk;cases h;exact hu;cases h;rw[cond_eq_ite]at h;split at h;rename_i hk;obtain rfl:=bt hk;cases h;cases hu;exact .int _ _;cases h;cases h
theorem ajy{v:SV}{n:Bool}{u:Value}(h:afB v=some n)(hu:aW O w v u):aW O w (.bool n) u:=by
 unfold afB at h;split at h<;>cases h<;>cases hu<;>exact .bool _
theorem alq{v:SV}{n:ByteArray}{u:Value}(h:alb v=some n)(hu:aW O w v u):aW O w (.str n) u:=by
 unfold alb at h;split at h<;>cases h;exact hu
theorem ajz{k:IntKind}{v:SV}{n:List Int}{u:Value}(h:afC k v=some n)(hu:aW O w v u):aW O w (.ro (.ah k n)) u:=by
 unfold afC at h;split at h;rw[cond_eq_ite]at h;split at h;rename_i hk;obtain rfl:=bt hk;cases h;exact hu;cases h;cases h;exact fV (by rfl) (by rfl) hu;cases h
theorem ajA{v:SV}{n:List ByteArray}{u:Value}(h:afD v=some n)(hu:aW O w v u):aW O w (.ro (.strs n)) u:=by
 unfold afD at h;split at h<;>cases h;exact hu;exact fV (by rfl) (by rfl) hu
theorem afT{v:SV}{n:List Bool}{u:Value}(h:abb v=some n)(hu:aW O w v u):aW O w (.ro (.bF n)) u:=by
 unfold abb at h;split at h<;>cases h;exact hu;exact fV (by rfl) (by rfl) hu
theorem ajB{cs:List CK}{v:SV}{n:List (CL cs)}{u:Value}(h:afE cs v=some n)(hu:aW O w v u):aW O w (.ro (.au cs n)) u:=by
 unfold afE at h;split at h;simp only[map_eq_some_iff]at h;have⟨⟨e⟩,_,h2⟩:=h;subst e;rw[zZ]at h2;subst h2;exact hu;cases h;exact fV (by rfl) (by rfl) hu;cases h
theorem ajC{c:CK}{x y:c.V}{j:Nat}{v:SV}(h:c.set x j v=some y):c.wide=1/\∀(O:Nat->Prop) (w:World) (u:Value),aW O w v u->∀l,aW O w (c.cell y l) u:=by
 cases c with
 |int k=>exact⟨rfl,λ_ _ _ hu _=>alp h hu⟩|bool=>exact⟨rfl,λ_ _ _ hu _=>ajy h hu⟩|str=>exact⟨rfl,λ_ _ _ hu _=>alq h hu⟩|ah k=>exact⟨rfl,λ_ _ _ hu _=>ajz h hu⟩|strs=>exact⟨rfl,λ_ _ _ hu _=>ajA h hu⟩|bF=>exact⟨rfl,λ_ _ _ hu _=>afT h hu⟩|rows cs=>exact⟨rfl,λ_ _ _ hu _=>ajB h hu⟩|arr k n=>cases h
theorem tP:∀{cs:List CK} {x y:CL cs} {j:Nat} {v:SV},CL.set cs x j v=some y->(∀(O:Nat->Prop) (w:World) (u:Value),aW O w v u->aW O w (CL.cell cs y j) u)/\∀j',j'≠j->CL.cell cs y j'=CL.cell cs x j'
 |[],x,y,j,v,h=>by cases h
 |c::cs,x,y,j,v,h=>by
  simp only[CL.set]at h;rw[cond_eq_ite]at h;split at h;rename_i bo;obtain⟨z,h1,rfl⟩:=map_eq_some_iff.1 h;have⟨h2,h3⟩:=ajC h1;refine⟨λO w u hu=>by simp only[CL.cell,bo,cond_true];exact h3 O w u hu _,λj' kj=> ?_⟩;have h4:j<1:=by rw[h2]at bo;exact le_of_ble_eq_true bo
  simp only[CL.cell,h2,rP (show 1<=j' from by omega),cond_false];rename_i bo;obtain⟨z,h1,rfl⟩:=map_eq_some_iff.1 h;have bo:j.blt c.wide=false:=Bool.eq_false_iff.2 bo
  have hge:c.wide<=j:=by
   rcases lt_or_ge j c.wide with h5|h5;rw[nJ h5]at bo;cases bo;exact h5
  have⟨h2,h3⟩:=tP h1;refine⟨λO w u hu=>by simp only[CL.cell,bo,cond_false];exact h2 O w u hu,λj' kj=> ?_⟩;simp only[CL.cell];rcases lt_or_ge j' c.wide with h5|h5;rw[nJ h5,cond_true,cond_true];rw[rP h5,cond_false,cond_false];exact h3 _ (by omega)
theorem rR:∀{cs:List CK} {x y:CL cs} {j:Nat} {k:IntKind} {n:Nat} {ws:List Int},CL.setRow cs x j k n ws=some y->
 (∀l,l<n->CL.cell cs y (j+l)=.int k (ws.getD l 0))/\∀j',(j'<j\/j+n<=j')->CL.cell cs y j'=CL.cell cs x j'
 |[],x,y,j,k,n,ws,h=>by cases h
 |c::cs,x,y,j,k,n,ws,h=>by
  simp only[CL.setRow]at h;rw[cond_eq_ite]at h;split at h;rename_i hj;obtain rfl:j=0:=Nat.eq_of_beq_eq_true hj;obtain⟨z,h1,rfl⟩:=map_eq_some_iff.1 h;cases c with
  |arr k' n'=>
   simp only[CK.setRow]at h1;rw[cond_eq_ite]at h1;split at h1;rename_i hk;simp only[and_eq_true]at hk;obtain rfl:=bt hk.1;obtain rfl:=Nat.eq_of_beq_eq_true hk.2;cases h1;refine⟨λl hl=> ?_,λj' kj=> ?_⟩;rw[zero_add];simp only[CL.cell,CK.wide,nJ hl,cond_true,CK.cell];simp only[CL.cell,CK.wide,rP (show n<=j' from by omega),cond_false];cases h1
  |_=>cases h1
  rw[cond_eq_ite]at h;split at h;rename_i hle;have hle:=le_of_ble_eq_true hle;obtain⟨z,h1,rfl⟩:=map_eq_some_iff.1 h;have⟨h2,h3⟩:=rR h1;refine⟨λl hl=> ?_,λj' kj=> ?_⟩;simp only[CL.cell,rP (show c.wide<=j+l from by omega),cond_false];rw[show j+l - c.wide=j - c.wide+l from by omega];exact h2 l hl;simp only[CL.cell];rcases lt_or_ge j' c.wide with h5|h5;rw[nJ h5,cond_true,cond_true];rw[rP h5,cond_false,cond_false];exact h3 _ (by omega);cases h
theorem afU{c:aU}{i j:Nat}{k:IntKind}{n:Nat}{ws:List Int}{c':aU}(h:pH c i j k n ws=some c')(hi:i<c.n):
 c'.n=c.n/\c'.size=c.size/\(∀l,l<n->c'.cell i (j+l)=.int k (ws.getD l 0))/\∀i' j',(i'≠i\/j'<j\/j+n<=j')->c'.cell i' j'=c.cell i' j':=by
 cases c<;>simp only[pH,reduceCtorEq]at h;rename_i cs xs;simp only[map_eq_some_iff]at h;obtain⟨y,h1,rfl⟩:=h;simp only[aU.n]at hi;have⟨h2,h3⟩:=rR h1;refine⟨by simp[aU.n],rfl,λl hl=> ?_,λi' j' cP=> ?_⟩;simp only[aU.cell];rw[show(xs.set i y).getD i (CL.d cs)=y from by simp[List.getD,hi]];exact h2 l hl;simp only[aU.cell];by_cases hii:i'=i;subst hii;rw[show(xs.set i' y).getD i' (CL.d cs)=y from by simp[List.getD,hi]];exact h3 j' (by omega);have:i≠i':=λe=>hii e.symm;simp[List.getD,List.getElem?_set_ne this]
theorem apx(c:aU){i j:Nat}{v:SV}{c':aU}(h:tF c i j v=some c'):c'.n=c.n/\c'.size=c.size:=by
 cases c<;>simp only[tF]at h
 case e9=>simp only[Option.some.injEq]at h;subst h;exact⟨rfl,rfl⟩
 case au=>
  simp only[map_eq_some_iff]at h;obtain⟨y,_,rfl⟩:=h;simp[aU.n,aU.size]
 all_goals
  split at h<;>first
   |(simp only[Option.some.injEq]at h;subst h;simp[aU.n,aU.size];done)|(rw[cond_eq_ite]at h;split at h<;>first|(simp only[Option.some.injEq]at h;subst h;simp[aU.n,aU.size];done)|cases h)
   |cases h
theorem abq(c:aU){i j:Nat}{v:SV}{c':aU}(h:tF c i j v=some c')(hi:i<c.n)(hj:j<c.size){u:Value}(hu:aW O w v u):
 aW O w (c'.cell i j) u/\∀i' j',i'<c.n->j'<c.size->(i'≠i\/j'≠j)->c'.cell i' j'=c.cell i' j':=by
 cases c<;>simp only[tF]at h
 case ah k zs=>
  simp only[aU.n,aU.size]at hi hj
  split at h<;>first
   |cases h
   |(rw[cond_eq_ite]at h
     split at h;rename_i hk;obtain rfl:=bt hk;simp only[Option.some.injEq]at h;subst h;cases hu;simp only[aU.cell,aU.n,aU.size];refine⟨by simp[List.getD,hi];exact .int _ _,λi' j' fq kj cP=> ?_⟩;have:i≠i':=by omega
     simp[List.getD,List.getElem?_set_ne this];cases h)
 case strs zs=>
  simp only[aU.n,aU.size]at hi hj;split at h<;>simp only[Option.some.injEq,reduceCtorEq]at h;subst h;cases hu;simp only[aU.cell,aU.n,aU.size];refine⟨by simp[List.getD,hi];exact .str _,λi' j' fq kj cP=> ?_⟩;have:i≠i':=by omega
  simp[List.getD,List.getElem?_set_ne this]
 case bF zs=>
  simp only[aU.n,aU.size]at hi hj;split at h<;>simp only[Option.some.injEq,reduceCtorEq]at h
  all_goals
   subst h;cases hu;simp only[aU.cell,aU.n,aU.size];refine⟨by simp[List.getD,hi];exact .bool _,λi' j' fq kj cP=> ?_⟩;have:i≠i':=by omega
   simp[List.getD,List.getElem?_set_ne this]
 case au cs xs=>
  simp only[aU.n,aU.size]at hi hj;simp only[map_eq_some_iff]at h;obtain⟨y,h1,rfl⟩:=h;have⟨h2,h3⟩:=tP h1;simp only[aU.cell,aU.n,aU.size];refine⟨by rw[show(xs.set i y).getD i (CL.d cs)=y from by simp[List.getD,hi]];exact h2 O w u hu,λi' j' fq kj cP=> ?_⟩;by_cases hii:i'=i;subst hii;rw[show(xs.set i' y).getD i' (CL.d cs)=y from by simp[List.getD,hi]];exact h3 j' (by omega);have:i≠i':=λe=>hii e.symm;simp[List.getD,List.getElem?_set_ne this]
 case e9 s n get=>
  simp only[Option.some.injEq]at h;subst h;simp only[aU.cell];refine⟨by simp[hu],λi' j' _ _ cP=> ?_⟩
  have:(i'==i&&j'==j)=false:=by
   rcases cP with h|h<;>simp[h]
  simp[this]
theorem tQ:∀(jY:List AV) (c:aU) {i j:Nat} {c':aU} {vs:List Value},fh c i j jY=some c'->az ρ H O w jY vs->i<c.n->j+gr jY<=c.size->
 c'.n=c.n/\c'.size=c.size/\vs.length=gr jY/\(∀l u,vs[l]? =some u->aW O w (c'.cell i (j+l)) u)/\
 ∀i' j',i'<c.n->j'<c.size->(i'≠i\/j'<j\/j+gr jY<=j')->c'.cell i' j'=c.cell i' j'
 |[],c,i,j,c',vs,h,hd,hi,hj=>by
  simp only[fh,Option.some.injEq]at h;subst h;obtain rfl:=aC.1 hd;exact⟨rfl,rfl,rfl,by simp,λ_ _ _ _ _=>rfl⟩
 |a::aP,c,i,j,c',vs,h,hd,hi,hj=>by
  cases a with
  |s v=>
   simp only[fh,bind_eq_some_iff]at h;have⟨c1,h1,h2⟩:=h;obtain⟨cs1,cs2,rfl,hv,hr⟩:=ag.1 hd;unfold aQ at hv;obtain⟨u,rfl,hu⟩:=hv;simp only[gr,AV.wide]at hj;have⟨n1,s1⟩:=apx c h1;have⟨g1,g2⟩:=abq c h1 hi (by omega) hu;have⟨k1,k2,k3,k4,k5⟩:=tQ aP c1 h2 hr (by omega) (by omega);refine⟨k1.trans n1,k2.trans s1,by simp[k3,gr,AV.wide];omega,λl x hx=> ?_,λi' j' fq kj cP=> ?_⟩;cases l with
   |zero=>
    simp at hx;subst hx;rw[add_zero,k5 i j (by omega) (by omega) (by omega)];exact g1
   |succ l=>
    have:=k4 l x (by simpa using hx);rw[show j+(l+1)=j+1+l from by omega];exact this
   simp only[gr,AV.wide]at cP;rw[k5 i' j' (by omega) (by omega) (by omega)];exact g2 i' j' fq kj (by omega)
  |ah k n ws=>
   simp only[fh,bind_eq_some_iff]at h;have⟨c1,h1,h2⟩:=h;obtain⟨cs1,cs2,rfl,hv,hr⟩:=ag.1 hd;unfold aQ at hv;obtain⟨hl,rfl⟩:=hv;simp only[gr,AV.wide]at hj;have⟨n1,s1,g1,g2⟩:=afU h1 hi;have⟨k1,k2,k3,k4,k5⟩:=tQ aP c1 h2 hr (by omega) (by omega);refine⟨k1.trans n1,k2.trans s1,by simp[k3,gr,AV.wide,hl],λl x hx=> ?_,λi' j' fq kj cP=> ?_⟩;rcases lt_or_ge l n with h5|h5;rw[getElem?_append_left (by simp;omega)]at hx;simp only[getElem?_map,map_eq_some_iff]at hx;obtain⟨z,hz,rfl⟩:=hx;rw[k5 i (j+l) (by omega) (by omega) (by omega),g1 l h5,show ws.getD l 0=z from by simp[List.getD,hz]];exact .int _ _;rw[getElem?_append_right (by simp;omega)]at hx;simp only[length_map,hl]at hx;have:=k4 (l - n) x hx;rw[show j+n+(l - n)=j+l from by omega]at this;exact this;simp only[gr,AV.wide]at cP;rw[k5 i' j' (by omega) (by omega) (by omega)];exact g2 i' j' (by omega)
  |_=>simp[fh]at h
theorem aad(cs:List CK):∀(jY:List AV) (xs:List (CL cs)) (i j:Nat),i<xs.length->(om cs (xs.getD i (CL.d cs)) j jY).map (λy=>aU.au cs (xs.set i y))=fh (.au cs xs) i j jY
 |[],xs,i,j,hi=>by
  simp only[om,fh,map_some,Option.some.injEq,aU.au.injEq,heq_eq_eq,true_and];have:xs.getD i (CL.d cs)=xs[i]:=by simp[List.getD,hi]
  rw[this,List.set_getElem_self]
 |a::aP,xs,i,j,hi=>by
  have step:∀(y:CL cs) (k:Nat),(om cs y k aP).map (λy=>aU.au cs (xs.set i y))=fh (.au cs (xs.set i y)) i k aP:=λy k=>by
   rw[<-aad cs aP (xs.set i y) i k (by rw[length_set];exact hi)];have:(xs.set i y).getD i (CL.d cs)=y:=by simp[List.getD,hi]
   rw[this];congr 1;funext z;rw[List.set_set]
  cases a with
  |s v=>
   simp only[om,fh,tF];cases CL.set cs (xs.getD i (CL.d cs)) j v with
   |none=>rfl|some y=>exact step y (j+1)
  |ah k n ws=>
   simp only[om,fh,pH];cases CL.setRow cs (xs.getD i (CL.d cs)) j k n ws with
   |none=>rfl|some y=>exact step y (j+n)
  |_=>rfl
theorem alr:∀(jY:List AV) (c:aU) {i j:Nat} {c':aU} {vs:List Value},ahk c i j jY=some c'->az ρ H O w jY vs->i<c.n->j+gr jY<=c.size->
 c'.n=c.n/\c'.size=c.size/\vs.length=gr jY/\(∀l u,vs[l]? =some u->aW O w (c'.cell i (j+l)) u)/\
 ∀i' j',i'<c.n->j'<c.size->(i'≠i\/j'<j\/j+gr jY<=j')->c'.cell i' j'=c.cell i' j':=by
 intro jY c i j c' vs h hd hi hj;refine tQ jY c ?_ hd hi hj;cases c with
 |au cs xs=>rw[<-h];exact(aad cs jY xs i j hi).symm|_=>exact h
theorem abr(l vs:List Value)(o:Nat)(h:o+vs.length<=l.length)(i:Nat):(l.take o++vs++l.drop (o+vs.length))[i]? =if o<=i/\i<o+vs.length then vs[i - o]? else l[i]? :=by
 have hto:(l.take o).length=o:=by simp;omega
 by_cases h1:i<o;rw[if_neg (by omega),append_assoc,getElem?_append_left (by omega),getElem?_take,if_pos h1];by_cases h2:i<o+vs.length;rw[if_pos (by omega),getElem?_append_left (by simp;omega),getElem?_append_right (by omega),hto];rw[if_neg (by omega),getElem?_append_right (by simp;omega),List.getElem?_drop];congr 1;simp;omega
theorem iA{α:Type}(l:List α)(i:Nat)(d:α)(h:i<l.length):l[i]? =some (l.getD i d):=by
 simp[List.getD,getElem?_eq_getElem h]
theorem als{size i i' j j' f:Nat}(hj:j<size)(kj:j'<size)(h:f+i*size+j=f+i'*size+j'):i=i'/\j=j':=by
 have h1:i*size+j=i'*size+j':=by omega
 have h2:(i*size+j) / size=i:=by rw[Nat.mul_comm,Nat.mul_add_div (by omega),Nat.div_eq_of_lt hj];rfl
 have h3:(i'*size+j') / size=i':=by rw[Nat.mul_comm,Nat.mul_add_div (by omega),Nat.div_eq_of_lt kj];rfl
 have:i=i':=by rw[<-h2,<-h3,h1]
 subst this;exact⟨rfl,by omega⟩
theorem ajD{t:TypeId}{a x:AV}{va vx:Value}{q:bQ}(h:(afF P t a x).eval H=some q)(hs:Sat ρ H G w)
 (ha:af ρ H (aV ρ H G) w a va) (hx:af ρ H (aV ρ H G) w x vx):
 ∃w',(Instr.storeAt t va vx).run P w=.ok () w'/\∀base,Good ρ H G w (cY H q.up base q.new) (q.r base) undef w':=by
 unfold afF at h;split at h;rename_i sz zo bU rC;split at h;rename_i id off;unfold af aN at ha;obtain⟨b,hb,rfl,_⟩:=ha;simp only[RM.eval]at h;split at h;rename_i ay e ho;have⟨cells,fr,h1,h2,h3⟩:=pK hs ho hb;cases zo;simp only[cond_false]at h;rw[cond_eq_ite]at h;split at h;rename_i hc;simp only[and_eq_true,beq_eq]at hc;obtain⟨hsg,rfl⟩:=hc;split at h;rename_i dd oD;simp only[RM.eval,Option.some.injEq]at h;subst h;have⟨h4,h5⟩:=ng ay off oD h3 hsg hx;have⟨h6,h7⟩:=kP hsg hx;refine⟨_,lS bU (by rw[mB h7];rfl) (bX off _ 0 h1 h2 (by rw[mB h7];simp;omega) (by rw[mB h7];simpa using h7)),λbase=> ?_⟩;simp only[gb,mB h7,add_zero,List.length_singleton];exact Good.xe hs ho hb h1 h2 (by simp;omega) (by rw[l9 _ _ _ h4];exact h5);cases h;cases h;simp only[cond_true]at h;split at h;rename_i jY hby;rw[cond_eq_ite]at h;split at h;rename_i hc;simp only[and_eq_true,beq_eq]at hc;have⟨hw,_⟩:=hc;split at h;rename_i dd afV;simp only[RM.eval,Option.some.injEq]at h;subst h;have h4:=rN hby hx;have h5:=jy h4;have⟨h6,h7⟩:=w8 afV h3 h4;refine⟨_,lS bU (h5.trans hw) (bX off _ 0 h1 h2 (by omega) (w9 jY h4)),λbase=> ?_⟩;simp only[gb,add_zero];exact Good.xe hs ho hb h1 h2 (by simp only[length_append,length_take,length_drop];omega) h7;cases h;cases h;cases h;cases h;rename_i id off n i;unfold af aN at ha;obtain⟨cO,b,hb,rfl,_⟩:=ha;simp only[RM.eval]at h;split at h;rename_i ay e ho;have⟨cells,fr,h1,h2,h3⟩:=pK hs ho hb;split at h;rename_i k m ws k' l y aps oz;rw[cond_eq_ite]at h;split at h;rename_i hc;simp only[and_eq_true,not_eq_true',beq_eq]at hc;obtain⟨⟨⟨rfl,hk⟩,rfl⟩,rfl⟩:=hc;obtain rfl:=bt hk;split at h;rename_i dd oD;simp only[RM.eval,Option.some.injEq]at h;subst h;obtain rfl:=ch oz hx;obtain⟨hl,pre,post,rfl,hp⟩:=pJ ay off aps h3;have h4:=ov ay off aps oD (by simp) h3 hp;have bo:off+i<(pre++ws.map (Value.int k)++post).length:=by simp;omega
 refine⟨_,lS bU rfl (bX (off+i) [.int k y] 0 h1 h2 (by simp;omega) (by simp[Value.oneCell'])),λbase=> ?_⟩;simp only[gb,add_zero,List.length_singleton];refine Good.xe hs ho hb h1 h2 (by rw[l9 _ _ _ bo];simp) ?_;rw[l9 _ _ _ bo,append_assoc,List.set_append_right _ _ (by omega),List.set_append_left _ _ (by simp;omega),show off+i - pre.length=i from by omega,<-append_assoc];rw[List.map_set]at h4;exact h4;cases h;cases h;cases h;cases h;rename_i id i j;unfold af aN at ha;have⟨_,o,ho,hv⟩:=ha;simp only[RM.eval]at h;split at h;rename_i c e dH;rw[ho]at dH;cases dH;obtain⟨hi,hj,b,f,n,cap,dK,rfl⟩:=hv c e rfl;split at h;rename_i jY hby;rw[cond_eq_ite]at h;split at h;rename_i hc;simp only[and_eq_true,beq_eq]at hc;have⟨hw,hle⟩:=hc;have hle:=le_of_ble_eq_true hle;split at h;rename_i c' oD;simp only[RM.eval,Option.some.injEq]at h;subst h;have h4:=rN hby hx;have⟨k1,k2,k3,k4,k5⟩:=alr jY c oD h4 hi (by omega);have⟨a,ajo,h5,h6,h7,h8⟩:=hs.obj id _ ho;rw[dK]at h5;cases h5;rcases h8 with rfl|⟨b',o',cells,fr,us,e1,g1,g2,g3,g4⟩;omega;cases e1
 have mj:eW (ρ id)=some b:=by
  rw[dK];simp only[eW];rw[if_neg (by omega)]
 have hmul:i*c.size+c.size<=cap*c.size:=by
  rw[<-Nat.succ_mul];exact Nat.mul_le_mul_right _ (by omega)
 have bB:f+i*c.size+j+vx.cells.toList.length<=cells.length:=by omega
 have st:=kR (G:=G) (w:=w) (o':=.vec c' e) ho rfl mj (λc1 e1 hc1=>by cases hc1;exact⟨c,e,rfl,k1,k2⟩)
  (.cells (cells.take (f+i*c.size+j)++vx.cells.toList++cells.drop (f+i*c.size+j+vx.cells.toList.length)).toArray e fr)
 refine⟨_,lS bU (k3.trans hw) (bX (f+i*c.size+j) _ 0 g1 g2.unm (by omega) (w9 jY h4)),λbase=> ?_⟩;simp only[gb,add_zero];refine Good.write hs ho rfl rfl mj (λc1 e1 hc1=>by cases hc1;exact⟨c,e,rfl,k1,k2⟩) ?_ cz;refine⟨some ⟨b,f,none⟩,cap,by rw[dK,k1],by omega,h7,.inr ⟨b,f,_,fr,λi' j'=>if i'=i/\j<=j'/\j'<j+gr jY then(vx.cells.toList.getD (j' - j) undef)else us i' j',rfl,eh g1, ?_, ?_, ?_⟩⟩;exact g2.over (w9 jY h4) bB;simp only[length_append,length_take,length_drop];rw[k2];omega;intro i' j' fq kj;rw[k1]at fq;rw[k2]at kj;rw[k2,abr _ _ _ bB];dsimp only;by_cases cO:i'=i/\j<=j'/\j'<j+gr jY;obtain⟨rfl,h9,vQ⟩:=cO;rw[if_pos ⟨by omega,by omega⟩,if_pos ⟨rfl,h9,vQ⟩];have hx1:j' - j<vx.cells.toList.length:=by omega
 refine⟨by rw[show f+i'*c.size+j' - (f+i'*c.size+j)=j' - j from by omega];exact iA _ _ _ hx1, ?_⟩;have:=k4 (j' - j) _ (iA _ _ undef hx1);rw[show j+(j' - j)=j' from by omega]at this;exact this.step st.gq st.heap st.size;rw[if_neg cO]
 have qg:¬(f+i*c.size+j<=f+i'*c.size+j'/\f+i'*c.size+j'<f+i*c.size+j+vx.cells.toList.length):=by
  rintro⟨h9,vQ⟩;have hd:f+i*c.size+(f+i'*c.size+j' - (f+i*c.size))=f+i'*c.size+j':=by omega
  have⟨h11,h12⟩:=als (f:=f) (i:=i) (i':=i') (j:=f+i'*c.size+j' - (f+i*c.size)) (by omega) kj hd;subst h11;exact cO ⟨rfl,by omega,by omega⟩
 rw[if_neg qg,k5 i' j' fq kj (by omega)];have⟨h9,vQ⟩:=g4 i' j' fq kj;exact⟨h9,vQ.step st.gq st.heap st.size⟩;cases h;cases h;cases h;cases h;cases h;cases h
end
section
variable{ρ aL:Nat->Value}{H H':aS}{G O O':Nat->Prop}{w w':World}{P:Program}
theorem abt{v:Value}{x:SV}(h:apl v=some x):aW O w x v:=by
 unfold apl at h;split at h<;>simp only[Option.some.injEq,reduceCtorEq]at h<;>subst h;exact .aI _;exact .aR _ _;exact .str _;exact .jv;exact .afu;exact .afv;exact .afw
theorem xf{v:Value}{a:AV}(h:rI v=some a):aQ ρ H O w a [v]:=by
 unfold rI at h;split at h;simp only[Option.some.injEq]at h;subst h;unfold aQ;exact⟨_,rfl,none,rfl⟩;simp only[map_eq_some_iff]at h;obtain⟨x,h1,rfl⟩:=h;unfold aQ;exact⟨v,rfl,abt h1⟩
theorem oE:∀(vs:List Value) {aP:List AV},rJ vs=some aP->az ρ H O w aP vs
 |[],aP,h=>by simp only[rJ,Option.some.injEq]at h;subst h;exact aC.2 rfl
 |v::vs,aP,h=>by
  simp only[rJ]at h;split at h;rename_i a dM h1 h2;simp only[Option.some.injEq]at h;subst h;exact ag.2 ⟨[v],vs,rfl,xf h1,oE vs h2⟩;cases h
theorem oF(k:IntKind):∀(cs:List Value),oh k cs=true->cs=(replicate cs.length (0:Int)).map (Value.int k)
 |[],_=>rfl|v::vs,h=>by
  unfold oh at h;split at h;rename_i hc;cases hc;rename_i k' vs' hc;cases hc;simp only[and_eq_true]at h;obtain rfl:=bt h.1;have:=oF k vs h.2;simp only[length_cons,List.replicate_succ,map_cons,List.cons.injEq,true_and];exact this;cases h
theorem acV(P:Program)(d:Nat)(ih:∀t cs ay,iu P d t cs=some ay->az ρ H O w ay cs):∀(fs:List Field) (s0 s1:List AV) (r0 r1:List Value),
 fs.foldl (λacc f=>match acc,dX P f.type with
  |some (ay,rest),some n=>(iu P d f.type (rest.take n)).map λs=>(ay++s,rest.drop n)|_,_=>none) (some (s0,r0))=some (s1,r1)->∃s' c,s1=s0++s'/\r0=c++r1/\az ρ H O w s' c
 |[],s0,s1,r0,r1,h=>by
  simp only[List.foldl_nil,Option.some.injEq,Prod.mk.injEq]at h;obtain⟨rfl,rfl⟩:=h;exact⟨[],[],by simp,rfl,aC.2 rfl⟩
 |f::fs,s0,s1,r0,r1,h=>by
  simp only[List.foldl_cons]at h
  have j7:∀(fs:List Field),fs.foldl (λ(acc:Option (List AV×List Value)) f=>match acc,dX P f.type with
   |some (ay,rest),some n=>(iu P d f.type (rest.take n)).map λs=>(ay++s,rest.drop n)|_,_=>none) none=none:=by
   intro fs
   induction fs with
   |nil=>rfl|cons f fs ih=>simp only[List.foldl_cons];exact ih
  cases bU:dX P f.type with
  |none=>rw[bU]at h;simp only[j7]at h;cases h
  |some n=>
   rw[bU]at h;simp only[]at h;cases hz:iu P d f.type (r0.take n)with
   |none=>rw[hz]at h;simp only[Option.map_none,j7]at h;cases h
   |some s=>
    rw[hz]at h;simp only[map_some]at h;obtain⟨s',c,rfl,h1,h2⟩:=acV P d ih fs _ _ _ _ h;refine⟨s++s',r0.take n++c,by simp, ?_,fP.2 ⟨_,_,rfl,ih _ _ _ hz,h2⟩⟩;rw[append_assoc,<-h1,List.take_append_drop]
theorem ve(P:Program):∀(d:Nat) (t:TypeId) (cs:List Value) (ay:List AV),iu P d t cs=some ay->az ρ H O w ay cs
 |0,t,cs,ay,h=>by simp[iu]at h
 |d+1,t,cs,ay,h=>by
  simp only[iu]at h;split at h;simp only[bind_eq_some_iff]at h;have⟨⟨s,rest⟩,h1,h2⟩:=h;obtain⟨s',c,rfl,rfl,h3⟩:=acV P d (ve P d) _ _ _ _ _ h1;simp only[]at h2;split at h2;simp only[Option.some.injEq]at h2;subst h2;simpa using h3;cases h2;split at h;rename_i k hk;rw[cond_eq_ite]at h;split at h;rename_i hc;simp only[and_eq_true,beq_iff_eq]at hc;obtain⟨hz,rfl⟩:=hc;simp only[Option.some.injEq]at h;subst h;exact ag.2 ⟨cs,[],by simp,db.2 ⟨by simp,oF k cs hz⟩,aC.2 rfl⟩;exact oE cs h;exact oE cs h;exact oE cs h
theorem acW(ay:List AV):(AV.l8 ay).jX=some ay:=by
 unfold AV.l8;split<;>rfl
theorem pM{t:TypeId}{ay:List AV}(h:(zeroOf P t).bind AV.jX =some ay):∃i v,P.info? t=some i/\i.zero=some v/\az ρ H O w ay v.cells.toList:=by
 simp only[bind_eq_some_iff]at h;have⟨z,h1,h2⟩:=h;unfold zeroOf at h1;split at h1;rename_i cs hz ha;simp only[bind_eq_some_iff]at hz;have⟨i,hi,hz⟩:=hz;simp only[map_eq_some_iff]at h1;obtain⟨ss,h3,rfl⟩:=h1;rw[acW]at h2;simp only[Option.some.injEq]at h2;subst h2;exact⟨i,_,hi,hz,by simpa[Value.cells]using ve P 20 t _ _ h3⟩;skip;rename_i v hz ha;simp only[bind_eq_some_iff]at hz;have⟨i,hi,hz⟩:=hz;refine⟨i,v,hi,hz, ?_⟩;have hc:=xf (ρ:=ρ) (H:=H) (O:=O) (w:=w) h1
 have hv:v.oneCell'=true/\z.jX =some [z]:=by
  unfold rI at h1;split at h1;simp only[Option.some.injEq]at h1;subst h1;exact⟨rfl,rfl⟩;simp only[map_eq_some_iff]at h1;obtain⟨x,h3,rfl⟩:=h1;refine⟨(abt (O:=O) (w:=w) h3).one, ?_⟩;unfold apl at h3;split at h3<;>simp only[Option.some.injEq,reduceCtorEq]at h3<;>subst h3<;>rfl
 rw[hv.2]at h2;simp only[Option.some.injEq]at h2;subst h2;rw[mB hv.1];exact ag.2 ⟨[v],[],rfl,hc,aC.2 rfl⟩;cases h1
theorem aae(hs:Sat ρ H G w){n:Nat}(hn:H n=none){ay:List AV}{e:TypeId}{cells:List Value}(hd:az ρ H (aV ρ H G) w ay cells):
 Good ρ H G w (aB H n (.aq ay e)) (.ptr n 0) (.pointer (some ⟨w.heap.size,0,none⟩)) (w.alloc (.cells cells.toArray e)):=by
 have st:Step ρ H (aV ρ H G) w (λj=>if j=n then .pointer (some ⟨w.heap.size,0,none⟩)else ρ j) (aB H n (.aq ay e)) (aV (λj=>if j=n then .pointer (some ⟨w.heap.size,0,none⟩)else ρ j) (aB H n (.aq ay e)) G) (w.alloc (.cells cells.toArray e)):=by
  have ne:∀j x,H j=some x->j≠n:=λj x hx e=>by subst e;rw[hn]at hx;cases hx
  refine⟨λj x hx=>by simp[ne j x hx],λj x hx=>⟨x,by simp[aB,ne j x hx,hx],λc' e' hc=>⟨c',e',hc,rfl,rfl⟩⟩,λb hb=> ?_,λb hb _=>alloc_old hb,by rw[fU];omega⟩;rcases hb with⟨j,x,hx,h1,h2⟩|hb;by_cases hj:j=n;subst hj;simp only[if_true,eW,Option.some.injEq]at h2;exact .inr (by omega);simp only[aB,hj,if_false]at hx h2;exact .inl (.inl ⟨j,x,hx,h1,h2⟩);exact .inl (.inr hb)
 refine Good.fresh (aa:=.pointer (some ⟨w.heap.size,0,none⟩)) hs hn rfl rfl rfl rfl (λb hb=>by simpa[eW]using hb.symm) ?_ ?_;exact⟨w.heap.size,cells,(0,0),rfl,kC,λoff _ h=>by omega,hd.step st⟩;unfold af aN;exact⟨w.heap.size,by simp,rfl,by simp[aB]⟩
theorem afW(hs:Sat ρ H G w){n:Nat}(hn:H n=none){k:Nat}(hk:1<=k)(vg:k<=maxLen){e:TypeId}:
 Good ρ H G w (aB H n (.vec (.strs (replicate k empty)) e)) (.gP n 0 0) (.pointer (some ⟨w.heap.size,0,none⟩)) (w.alloc (.cells (replicate k (Value.string empty)).toArray e)):=by
 have rS:∀b,eW (.slice (some ⟨w.heap.size,0,none⟩) k k)=some b->b=w.heap.size:=by
  intro b hb;simp only[eW]at hb;split at hb;cases hb;simpa using hb.symm
 refine Good.fresh (aa:=.slice (some ⟨w.heap.size,0,none⟩) k k) hs hn rfl rfl rfl rfl rS ?_ ?_;refine⟨some ⟨w.heap.size,0,none⟩,k,by simp[aU.n],by simp[aU.n],vg,.inr ⟨w.heap.size,0,replicate k (Value.string empty),(0,0),λ_ _=>.string empty,rfl,kC,⟨λoff _ h=>by omega,λu hu=> ?_⟩,by simp[aU.size],λi j hi hj=> ?_⟩⟩;rw[(List.mem_replicate.1 hu).2];rfl;simp only[aU.n,List.length_replicate]at hi;simp only[aU.size]at hj ⊢;obtain rfl:j=0:=by omega
 refine⟨by simp[hi], ?_⟩;simp only[aU.cell];rw[show(replicate k empty).getD i empty=empty from by simp[List.getD,hi]];exact aW.str _;unfold af aN
 exact⟨rfl,.vec (.strs (replicate k empty)) e,by simp[aB],λc' e' hc=>by
  cases hc;exact⟨by simp[aU.n];omega,by simp[aU.size],w.heap.size,0,k,k,by simp,by simp[aU.size]⟩⟩
theorem afX{t:TypeId}{n:Nat}(h:abc P t=some n):1<=n/\n<=4096/\∃i v,P.info? t=some i/\i.zero=some v/\v.cells=(replicate n (Value.string empty)).toArray:=by
 unfold abc at h;split at h;rename_i m e i _ hi;split at h;rename_i z _ hz;rw[cond_eq_ite]at h;split at h;rename_i hc;simp only[Option.some.injEq]at h;subst h;simp only[and_eq_true,beq_eq]at hc;have⟨⟨⟨c1,c2⟩,c3⟩,c4⟩:=hc;have c1:=le_of_ble_eq_true c1;refine⟨by omega,le_of_ble_eq_true c2,i,z,hi,hz, ?_⟩;rw[all_eq_true]at c4
 have:z.cells.toList=replicate m (Value.string empty):=List.eq_replicate_iff.2 ⟨by rw[length_toList];exact c3,λb hb=>by
  have:=c4 b hb;split at this;rename_i s;have h0:s.size=0:=by simpa using this
  have:s=empty:=ext (Array.eq_empty_of_size_eq_zero h0);rw[this];cases this⟩
 rw[<-this];cases h;cases h;cases h
theorem ajE{t:TypeId}{q:bQ}(h:(afI P t).eval H=some q)(hs:Sat ρ H G w){base:Nat}(hb:∀i,i<q.new.length->H (base+i)=none)(old:Value):
 ∃v w',(Instr.alloc t true old).run P w=.ok v w'/\Good ρ H G w (cY H q.up base q.new) (q.r base) v w':=by
 unfold afI at h;split at h;rename_i n hz;simp only[RM.eval,Option.some.injEq]at h;subst h;have⟨h1,h2,i,v,hi,hv,hc⟩:=afX hz;have hn:H base=none:=by simpa using hb 0 (by simp)
 refine⟨.pointer (some ⟨w.heap.size,0,none⟩),w.alloc (.cells v.cells t), ?_, ?_⟩;simp[Instr.alloc,zeroValue,typeInfo,hi,hv,newVar,newRow];try rfl
 simp only[jB];have:=afW hs hn h1 (by unfold maxLen;omega) (e:=t);rw[hc];simpa using this;split at h;rename_i ay hz;simp only[RM.eval,Option.some.injEq]at h;subst h;have⟨i,v,hi,hv,hd⟩:=pM (ρ:=ρ) (H:=H) (O:=aV ρ H G) (w:=w) hz;have hn:H base=none:=by simpa using hb 0 (by simp)
 refine⟨.pointer (some ⟨w.heap.size,0,none⟩),w.alloc (.cells v.cells t), ?_, ?_⟩;simp[Instr.alloc,zeroValue,typeInfo,hi,hv,newVar,newRow];try rfl
 simp only[jB];have:=aae hs hn (e:=t) hd;simpa using this;cases h
theorem apy{t:TypeId}{x:AV}{vx:Value}{q:bQ}(h:(atF t x).eval H=some q)(hs:Sat ρ H G w)(hd:af ρ H (aV ρ H G) w x vx){base:Nat}(hb:∀i,i<q.new.length->H (base+i)=none):
 ∃v w',(Instr.box t vx).run P w=.ok v w'/\Good ρ H G w (cY H q.up base q.new) (q.r base) v w':=by
 unfold atF at h;split at h;rename_i ay hz;simp only[RM.eval,Option.some.injEq]at h;subst h;have hn:H base=none:=by simpa using hb 0 (by simp)
 refine⟨.pointer (some ⟨w.heap.size,0,none⟩),w.alloc (.cells vx.cells t), ?_, ?_⟩;simp[Instr.box,newVar,newRow];try rfl
 simp only[jB];have:=aae hs hn (e:=t) (rN hz hd);simpa using this;cases h
end
section
variable{ρ aL:Nat->Value}{H H':aS}{G O O':Nat->Prop}{w w':World}{P:Program}
theorem aaf(off:Nat):∀(vs:List Value) (k:Nat) (cells:Array Value),off+k+vs.length<=cells.size->
 ((vs.zipIdx k).foldl (λ(cs:Array Value) (x:Value×Nat)=>cs.setIfInBounds (off+x.2) x.1) cells).toList=cells.toList.take (off+k)++vs++cells.toList.drop (off+k+vs.length)
 |[],k,cells,_=>by simp
 |v::vs,k,cells,h=>by
  simp only[length_cons]at h;simp only[List.zipIdx_cons,List.foldl_cons];rw[aaf off vs (k+1) _ (by simp;omega)];have bo:off+k<cells.toList.length:=by simp;omega
  simp only[Array.toList_setIfInBounds];rw[<-add_assoc,List.take_set,List.drop_set_of_lt (by omega)]
  have e1:(cells.toList.take (off+k+1)).set (off+k) v=cells.toList.take (off+k)++[v]:=by
   rw[List.take_succ_eq_append_getElem bo];rw[List.set_append_right _ _ (by simp;omega)];simp at bo;simp[Nat.min_eq_left (Nat.le_of_lt bo)]
  rw[e1];simp only[append_assoc,length_cons,cons_append,nil_append];rw[show off+k+1+vs.length=off+k+(vs.length+1)from by omega]
theorem we{place:Nat->Option (Nat×Nat)}{ev:Operand->AV}{e:Operand->Value}:∀(l:List (Nat×Operand)) (ay ss:List AV) (cells:Array Value),(∀p∈l,af ρ H O w (ev p.2) (e p.2))->
 qM place ay (l.map λp=>(p.1,ev p.2))=some ss->az ρ H O w ay cells.toList->
 ∃eX,Instr.fill place cells (l.map λp=>(p.1,e p.2))=some eX/\az ρ H O w ss eX.toList
 |[],ay,ss,cells,_,h,hd=>by
  simp only[map_nil,qM,Option.some.injEq]at h;subst h;exact⟨cells,rfl,hd⟩
 |(i,x)::l,ay,ss,cells,hp,h,hd=>by
  simp only[map_cons,qM]at h;split at h;rename_i off size jY hpl hby;rw[cond_eq_ite]at h;split at h;rename_i hc;simp only[and_eq_true,beq_eq]at hc;simp only[bind_eq_some_iff]at h;have⟨s1,h1,h2⟩:=h;have hx:=rN hby (hp (i,x) (by simp));have bB:=jy hx;have⟨h3,h4⟩:=w8 h1 hd hx;simp only[length_toList]at bB h3
  have⟨eX,h5,h6⟩:=we l s1 ss ((e x).cells.zipIdx.foldl (λcs (c,j)=>cs.setIfInBounds (off+j) c) cells) (λp hp'=>hp p (by simp[hp'])) h2 (by
   rw[<-Array.foldl_toList,Array.toList_zipIdx];have:=aaf off (e x).cells.toList 0 cells (by simpa using h3);simp only[add_zero]at this;rw[this];exact h4)
  refine⟨eX, ?_,h6⟩;simp only[map_cons,Instr.fill,hpl];rw[if_neg (by simp;omega)];exact h5;cases h;cases h
theorem vj(P:Program)(w:World):∀(fs:List Field),fs.all (λf=>(dX P f.type).isSome)=true->
 (fs.mapM (m:=Sem) λf=>do pure (f.offset,<-sizeOf f.type)).run P w=.ok (fs.map λf=>(f.offset,(dX P f.type).getD 0)) w
 |[],_=>by simp
 |f::fs,h=>by
  simp only[all_cons,and_eq_true]at h;have⟨n,hn⟩:=isSome_iff_exists.1 h.1;have ih:=vj P w fs h.2;simp only[List.mapM_cons,Sem.run_bind,run_sizeOf hn,Result.andThen_ok,Sem.run_pure,ih,map_cons,hn,getD_some]
theorem ajF{t:TypeId}{ps:Array (Nat×Operand)}{ev:Operand->AV}{e:Operand->Value}{q:bQ}(h:(afJ P t (ps.toList.map λp=>(p.1,ev p.2))).eval H=some q)(hn:bJ q.ab)
 (hp:∀p∈ps,af ρ H O w (ev p.2) (e p.2)):fz P ρ H O w q (Instr.build t (ps.map λ(i,x)=>(i,e x))):=by
 have hp':∀p∈ps.toList,af ρ H O w (ev p.2) (e p.2):=λp hm=>hp p (Array.mem_toList_iff.1 hm);unfold afJ at h;split at h;rename_i ay fs hz ht;have⟨i,v,hi,hv,hd⟩:=pM (ρ:=ρ) (H:=H) (O:=O) (w:=w) hz;rw[cond_eq_ite]at h;split at h;rename_i abu;split at h;rename_i ss hss
 have hm:(fs.mapM (m:=Sem) λf=>do pure (f.offset,<-sizeOf f.type)).run P w=.ok (fs.toList.map λf=>(f.offset,(dX P f.type).getD 0)).toArray w:=by
  rw[Array.mapM_eq_mapM_toList];simp only[Sem.run_map,vj P w fs.toList abu,Result.andThen_ok]
 have atT:(λi=>((fs.toList.map λ(f:Field)=>(f.offset,(dX P f.type).getD 0)).toArray)[i]?)=(λ(i:Nat)=>(fs[i]?).bind λ(f:Field)=>(dX P f.type).map λn=>(f.offset,n)):=by
  funext i;simp only[List.getElem?_toArray,getElem?_map,Array.getElem?_toList];cases hf:fs[i]? with
  |none=>rfl|some f=>
   have ko:f∈fs.toList:=Array.mem_toList_iff.2 (Array.mem_of_getElem? hf);have⟨n,hn⟩:=isSome_iff_exists.1 (all_eq_true.1 abu f ko);simp[hn]
 have⟨eX,h1,h2⟩:=we ps.toList ay ss v.cells hp' hss hd;refine aO h (λ_=>⟨.agg eX, ?_,by simpa using mw h2⟩) hn;rw[<-atT]at h1;simp only[Instr.build,zeroValue,typeInfo,Sem.run_bind,run_program,Result.andThen_ok,hi,Sem.run_pure,hv,run_underlying ht,hm];simp only[Array.toList_map];erw [h1];rfl;cases h;cases h;rename_i ay n el hz ht;have⟨i,v,hi,hv,hd⟩:=pM (ρ:=ρ) (H:=H) (O:=O) (w:=w) hz;split at h;rename_i sz bU;split at h;rename_i ss hss;have⟨eX,h1,h2⟩:=we ps.toList ay ss v.cells hp' hss hd;refine aO h (λ_=>⟨.agg eX, ?_,by simpa using mw h2⟩) hn;simp only[Instr.build,zeroValue,typeInfo,Sem.run_bind,run_program,Result.andThen_ok,hi,Sem.run_pure,hv,run_underlying ht,run_sizeOf bU];simp only[Array.toList_map];erw [h1];rfl;cases h;cases h;cases h
end
section
variable{ρ aL:Nat->Value}{H H':aS}{G O O':Nat->Prop}{w w':World}{P:Program}
def Pts(O:Nat->Prop)(w:World)(l:List SV)(cs:List Value):Prop:=l.length=cs.length/\∀(i:Nat) (v:SV),l[i]? =some v->∃u,cs[i]? =some u/\aW O w v u
theorem apz:Pts O w [] ([]:List Value):=⟨rfl,by simp⟩
theorem xg{v:SV}{l:List SV}{cs:List Value}(h:Pts O w (v::l) cs):∃u jZ,cs=u::jZ/\aW O w v u/\Pts O w l jZ:=by
 have⟨h1,h2⟩:=h;cases cs with
 |nil=>simp at h1|cons u jZ=>
  have⟨u',h3,h4⟩:=h2 0 v rfl;simp at h3;subst h3;exact⟨_,_,rfl,h4,by simpa using h1,λi x hx=>by simpa using h2 (i+1) x (by simpa using hx)⟩
theorem alu{v:SV}{l:List SV}{u:Value}{cs:List Value}(h1:aW O w v u)(h2:Pts O w l cs):Pts O w (v::l) (u::cs):=
 ⟨by simp[h2.1],λi x hx=>by
   cases i with
   |zero=>simp at hx;subst hx;exact⟨u,rfl,h1⟩|succ i=>simpa using h2.2 i x (by simpa using hx)⟩
theorem afY:∀(aP:List AV) {l:List SV} {cs:List Value},svs aP=some l->az ρ H O w aP cs->Pts O w l cs
 |[],l,cs,h,hd=>by
  simp only[svs,Option.some.injEq]at h;subst h;obtain rfl:=aC.1 hd;exact apz
 |a::aP,l,cs,h,hd=>by
  obtain⟨c1,c2,rfl,h1,h2⟩:=ag.1 hd;rcases tM a with⟨k,n,ws,rfl⟩|ha;simp[svs]at h
  have hs:svs (a::aP)=match a.sv?,svs aP with|some v,some vs=>some (v::vs)|_,_=>none:=by
   cases a<;>first|rfl|(exact(ha _ _ _ rfl).elim)
  rw[hs]at h;split at h;rename_i v vs hv hvs;simp only[Option.some.injEq]at h;subst h;cases a with
  |s x=>
   unfold aQ at h1;obtain⟨u,rfl,hu⟩:=h1;have:x=v:=by cases x<;>simp only[AV.sv?,Option.some.injEq,reduceCtorEq]at hv<;>exact hv
   subst this;exact alu hu (afY aP hvs h2)
  |emp=>
   unfold aQ at h1;obtain⟨u,rfl,x,rfl⟩:=h1;simp only[AV.sv?,Option.some.injEq]at hv;subst hv;exact alu (.ro (.e9 1 0 λ_ _=>.aY) x 0 (λ_ _=>undef) 0 0 (le_refl _) (by simp[maxLen]) (by simp[aU.n]) (by simp[aU.n]) (by simp[aU.n])) (afY aP hvs h2)
  |_=>simp[AV.sv?]at hv
  cases h
theorem aag(k:IntKind):∀(l:List SV) {zs:List Int} {cs:List Value},qN k l=some zs->Pts O w l cs->zs.length=cs.length/\∀i,i<zs.length->∃u,cs[i]? =some u/\aW O w (.int k (zs.getD i 0)) u
 |[],zs,cs,h,hp=>by
  simp only[qN,Option.some.injEq]at h;subst h;exact⟨hp.1,by simp⟩
 |v::l,zs,cs,h,hp=>by
  obtain⟨u,jZ,rfl,hu,hp'⟩:=xg hp
  have key:∀k' n,aW O w (.int k' n) u->(bif bT k k' then(qN k l).map (n:: ·)else none)=some zs->zs.length=(u::jZ).length/\∀i,i<zs.length->∃x,(u::jZ)[i]? =some x/\aW O w (.int k (zs.getD i 0)) x:=by
   intro k' n hd h;rw[cond_eq_ite]at h;split at h;rename_i hk;obtain rfl:=bt hk;simp only[map_eq_some_iff]at h;obtain⟨zs',h1,rfl⟩:=h;have⟨h2,h3⟩:=aag k l h1 hp';refine⟨by simp[h2],λi hi=> ?_⟩;cases i with
   |zero=>exact⟨u,rfl,by simpa using hd⟩
   |succ i=>simpa using h3 i (by simpa using hi)
   cases h
  cases v<;>simp only[qN,reduceCtorEq]at h
  case int k' n=>exact key k' n hu h
  case aR k' n=>cases hu;exact key k' n (.int _ _) h
theorem aah:∀(l:List SV) {zs:List ByteArray} {cs:List Value},tG l=some zs->Pts O w l cs->zs.length=cs.length/\∀i,i<zs.length->∃u,cs[i]? =some u/\aW O w (.str (zs.getD i empty)) u
 |[],zs,cs,h,hp=>by
  simp only[tG,Option.some.injEq]at h;subst h;exact⟨hp.1,by simp⟩
 |v::l,zs,cs,h,hp=>by
  obtain⟨u,jZ,rfl,hu,hp'⟩:=xg hp;cases v<;>simp only[tG,reduceCtorEq]at h;simp only[map_eq_some_iff]at h;obtain⟨zs',h1,rfl⟩:=h;have⟨h2,h3⟩:=aah l h1 hp';refine⟨by simp[h2],λi hi=> ?_⟩;cases i with
  |zero=>exact⟨u,rfl,by simpa using hu⟩
  |succ i=>simpa using h3 i (by simpa using hi)
theorem qV:∀(l:List SV) {zs:List Bool} {cs:List Value},pI l=some zs->Pts O w l cs->zs.length=cs.length/\∀i,i<zs.length->∃u,cs[i]? =some u/\aW O w (.bool (zs.getD i false)) u
 |[],zs,cs,h,hp=>by
  simp only[pI,Option.some.injEq]at h;subst h;exact⟨hp.1,by simp⟩
 |v::l,zs,cs,h,hp=>by
  obtain⟨u,jZ,rfl,hu,hp'⟩:=xg hp;cases v<;>simp only[pI,reduceCtorEq]at h
  case bool b=>
   simp only[map_eq_some_iff]at h;obtain⟨zs',h1,rfl⟩:=h;have⟨h2,h3⟩:=qV l h1 hp';refine⟨by simp[h2],λi hi=> ?_⟩;cases i with
   |zero=>exact⟨u,rfl,by simpa using hu⟩
   |succ i=>simpa using h3 i (by simpa using hi)
  case aI b=>
   simp only[map_eq_some_iff]at h;obtain⟨zs',h1,rfl⟩:=h;have⟨h2,h3⟩:=qV l h1 hp';refine⟨by simp[h2],λi hi=> ?_⟩;cases i with
   |zero=>cases hu;exact⟨_,rfl,by simpa using aW.bool _⟩
   |succ i=>simpa using h3 i (by simpa using hi)
theorem ajG{cs:List CK}{f:Nat->SV}{x:CL cs}(h:CL.ofs cs f=some x):∀j,j<CL.wide cs->∀(O:Nat->Prop) (w:World) (u:Value),aW O w (f j) u->aW O w (CL.cell cs x j) u:=by
 unfold CL.ofs at h;generalize CL.wide cs=m at h
 induction m generalizing x with
 |zero=>intro j hj;omega
 |succ m ih=>
  rw[List.range_succ,List.foldl_append]at h;simp only[List.foldl_cons,List.foldl_nil,bind_eq_some_iff]at h;have⟨y,h1,h2⟩:=h;have⟨h3,h4⟩:=tP h2;intro j hj O w u hu;by_cases hjm:j=m;subst hjm;exact h3 O w u hu;rw[h4 j hjm];exact ih h1 j (by omega) O w u hu
theorem acX{cs:List CK}{size:Nat}{cells:List SV}:∀{n i:Nat} {xs:List (CL cs)},z7 cs size cells i n=some xs->xs.length=n/\∀k,k<n->∀j,j<CL.wide cs->∀(O:Nat->Prop) (w:World) (u:Value),
 aW O w (cells.getD ((i+k)*size+j) .aY) u->aW O w (CL.cell cs (xs.getD k (CL.d cs)) j) u
 |0,i,xs,h=>by
  simp only[z7,Option.some.injEq]at h;subst h;exact⟨rfl,λk hk=>by omega⟩
 |n+1,i,xs,h=>by
  simp only[z7]at h;split at h;rename_i x ys h1 h2;simp only[Option.some.injEq]at h;subst h;have⟨h3,h4⟩:=acX h2;refine⟨by simp[h3],λk hk j hj O w u hu=> ?_⟩;cases k with
  |zero=>exact ajG h1 j hj O w u (by simpa using hu)
  |succ k=>
   have:=h4 k (by omega) j hj O w u (by rw[show i+1+k=i+(k+1)from by omega];exact hu);simpa using this
  cases h
theorem alv{sh:Shape}{size n:Nat}{l:List SV}{cs:List Value}(hp:Pts O w l cs)(hl:l.length=n*size)(hn:(u5 sh size n l).n=n)(hs:(u5 sh size n l).size=size):
 ∀i j,i<n->j<size->∃u,cs[i*size+j]? =some u/\aW O w ((u5 sh size n l).cell i j) u:=by
 have hd:∀i j,i<n->j<size->∃u,cs[i*size+j]? =some u/\aW O w ((aU.e9 size n λi j=>l.getD (i*size+j) .aY).cell i j) u:=by
  intro i j hi hj
  have bo:i*size+j<l.length:=by
   rw[hl];have:(i+1)*size<=n*size:=Nat.mul_le_mul_right _ (by omega);rw[Nat.succ_mul]at this;omega
  have⟨u,h1,h2⟩:=hp.2 (i*size+j) l[i*size+j] (by simp[bo]);refine⟨u,h1, ?_⟩;simp only[aU.cell,List.getD,getElem?_eq_getElem bo,getD_some];exact h2
 unfold u5 at hn hs ⊢;cases sh with
 |ah k=>
  cases hx:qN k l with
  |none=>simp only[hx,Option.elim]at hn hs ⊢;exact hd|some zs=>
   simp only[hx,Option.elim,aU.n,aU.size]at hn hs ⊢;subst hs;intro i j hi hj;obtain rfl:j=0:=by omega
   have⟨h1,h2⟩:=aag k l hx hp;simpa[aU.cell]using h2 i (by omega)
 |strs=>
  cases hx:tG l with
  |none=>simp only[hx,Option.elim]at hn hs ⊢;exact hd|some zs=>
   simp only[hx,Option.elim,aU.n,aU.size]at hn hs ⊢;subst hs;intro i j hi hj;obtain rfl:j=0:=by omega
   have⟨h1,h2⟩:=aah l hx hp;simpa[aU.cell]using h2 i (by omega)
 |bF=>
  cases hx:pI l with
  |none=>simp only[hx,Option.elim]at hn hs ⊢;exact hd|some zs=>
   simp only[hx,Option.elim,aU.n,aU.size]at hn hs ⊢;subst hs;intro i j hi hj;obtain rfl:j=0:=by omega
   have⟨h1,h2⟩:=qV l hx hp;simpa[aU.cell]using h2 i (by omega)
 |au ck=>
  simp only[cond_eq_ite]at hn hs ⊢;by_cases hw:(CL.wide ck).beq size=true;simp only[hw,if_true]at hn hs ⊢;cases hx:z7 ck size l 0 n with
  |none=>simp only[hx,Option.elim]at hn hs ⊢;exact hd|some zs=>
   simp only[hx,Option.elim,aU.n,aU.size]at hn hs ⊢;intro i j hi hj;have⟨h1,h2⟩:=acX hx;have⟨u,h3,h4⟩:=hd i j hi hj;exact⟨u,h3,h2 i hi j (by omega) O w u (by rw[zero_add];exact h4)⟩
  simp only[hw]at hn hs ⊢;exact hd
 |other=>exact hd
theorem xh{α:Type}(l:List α):∀n,(rep n l).length=n*l.length
 |0=>by simp[rep]
 |n+1=>by simp[rep,xh l n,Nat.succ_mul,Nat.add_comm]
theorem ahp{α:Type}(l:List α):∀(n k:Nat),k<n*l.length->(rep n l)[k]? =l[k%l.length]?
 |0,k,h=>by simp at h
 |n+1,k,h=>by
  simp only[rep];by_cases hk:k<l.length;rw[getElem?_append_left hk,Nat.mod_eq_of_lt hk];rw[getElem?_append_right (by omega),ahp l n (k - l.length) (by rw[Nat.succ_mul]at h;omega)];congr 1;rw[Nat.mod_eq_sub_mod (by omega:l.length<=k)]
theorem vk{z:List AV}{cs:List Value}(h:az ρ H O w z cs):∀n,az ρ H O w (rep n z) (rep n cs)
 |0=>aC.2 rfl|n+1=>fP.2 ⟨_,_,rfl,h,vk h n⟩
theorem ajH(zc:Array Value)(n:Nat):((Array.range (n*zc.size)).map (zc[· %zc.size]!)).toList=rep n zc.toList:=by
 apply List.ext_getElem?;intro k;simp only[Array.toList_map,Array.toList_range,getElem?_map];by_cases hk:k<n*zc.size;rw[List.getElem?_range hk,ahp _ _ _ (by simpa using hk)]
 have hz:0<zc.size:=by
  rcases Nat.eq_zero_or_pos zc.size with h0|h0;rw[h0]at hk;omega;exact h0
 have hm:k%zc.size<zc.size:=Nat.mod_lt _ hz;simp[hm];rw[getElem?_eq_none (by simp;omega),getElem?_eq_none (by rw[xh];simp;omega)];rfl
end
section
variable{ρ aL:Nat->Value}{H H':aS}{G O O':Nat->Prop}{w w':World}{P:Program}
theorem mC(hs:Sat ρ H G w){w1:World}(hw:w1.heap=w.heap)(ht:w1.tape=w.tape)(hos:w1.os=w.os)(qg:w1.output=w.output){n:Nat}(hn:H n=none){c:aU}{e:TypeId}{cells:List Value}{cap:Nat}
 (h1:c.n<=cap) (h2:cap<=maxLen) (h3:cap*c.size<=cells.length) (us:Nat->Nat->Value)
 (hd:∀i j,i<c.n->j<c.size->cells[i*c.size+j]? =some (us i j)/\aW (aV ρ H G) w (c.cell i j) (us i j)) (tT:∀u∈cells,u.oneCell'=true):
 Good ρ H G w (aB H n (.vec c e)) (.vec n) (.slice (some ⟨w.heap.size,0,none⟩) c.n cap) (w1.alloc (.cells cells.toArray e)):=by
 have rS:∀b,eW (.slice (some ⟨w.heap.size,0,none⟩) c.n cap)=some b->b=w.heap.size:=by
  intro b hb;simp only[eW]at hb;split at hb;cases hb;simpa using hb.symm
 have st:Step ρ H (aV ρ H G) w (λj=>if j=n then .slice (some ⟨w.heap.size,0,none⟩) c.n cap else ρ j) (aB H n (.vec c e)) (aV (λj=>if j=n then .slice (some ⟨w.heap.size,0,none⟩) c.n cap else ρ j) (aB H n (.vec c e)) G) (w1.alloc (.cells cells.toArray e)):=by
  have ne:∀j x,H j=some x->j≠n:=λj x hx e=>by subst e;rw[hn]at hx;cases hx
  refine⟨λj x hx=>by simp[ne j x hx],λj x hx=>⟨x,by simp[aB,ne j x hx,hx],λc' e' hc=>⟨c',e',hc,rfl,rfl⟩⟩,λb hb=> ?_,λb hb _=>by rw[alloc_old (by rw[hw];exact hb),hw],by rw[fU,hw];omega⟩;rcases hb with⟨j,x,hx,h1,h2⟩|hb;by_cases hj:j=n;subst hj;simp only[if_true]at h2;exact .inr (by rw[rS b h2];exact le_refl _);simp only[aB,hj,if_false]at hx h2;exact .inl (.inl ⟨j,x,hx,h1,h2⟩);exact .inl (.inr hb)
 refine Good.fresh (aa:=.slice (some ⟨w.heap.size,0,none⟩) c.n cap) hs hn hw ht hos qg rS ?_ ?_;refine⟨_,cap,rfl,h1,h2,.inr ⟨w.heap.size,0,cells,(0,0),us,rfl,by rw[<-hw];exact kC,⟨λoff _ h=>by omega,tT⟩,by omega,λi j hi hj=> ?_⟩⟩;have⟨g1,g2⟩:=hd i j hi hj;exact⟨by rw[zero_add];exact g1,g2.step st.gq st.heap st.size⟩;unfold af aN;exact⟨rfl,.vec c e,by simp[aB],λc' e' hc=>by simp⟩
theorem xi{t:TypeId}{n:Nat}{ps:Array (Nat×Operand)}{ev:Operand->AV}{e:Operand->Value}{q:bQ}(h:(oo P t n (ps.toList.map λp=>(p.1,ev p.2))).eval H=some q)
 (hs:Sat ρ H G w) (hp:∀p∈ps,af ρ H (aV ρ H G) w (ev p.2) (e p.2)) {base:Nat} (hb:∀i,i<q.new.length->H (base+i)=none):
 ∃v w',(Instr.buildSlice t n (ps.map λ(i,x)=>(i,e x))).run P w=.ok v w'/\Good ρ H G w (cY H q.up base q.new) (q.r base) v w':=by
 have hp':∀p∈ps.toList,af ρ H (aV ρ H G) w (ev p.2) (e p.2):=λp hm=>hp p (Array.mem_toList_iff.1 hm);unfold oo at h;split at h;rename_i el ht;split at h;rename_i sz z bU hz;rw[cond_eq_ite]at h;split at h;rename_i hc;simp only[and_eq_true,beq_eq]at hc;have⟨⟨c1,c2⟩,c3⟩:=hc;have c1:=le_of_ble_eq_true c1;have c2:=le_of_ble_eq_true c2;split at h;rename_i l hl;simp only[bind_eq_some_iff]at hl;have⟨ss,afV,hsv⟩:=hl;rw[cond_eq_ite]at h;split at h;rename_i hc;simp only[and_eq_true,beq_eq]at hc;have⟨⟨d1,d2⟩,d3⟩:=hc;simp only[RM.eval,Option.some.injEq]at h;subst h;have⟨i,v,hi,hv,hd⟩:=pM (ρ:=ρ) (H:=H) (O:=aV ρ H G) (w:=w) hz;have hlz:v.cells.size=sz:=by rw[<-length_toList,jy hd,c3]
 have tV:((Array.range (n*sz)).map (v.cells[· %v.cells.size]!)).toList=rep n v.cells.toList:=by rw[<-hlz];exact ajH _ _
 have⟨eX,h1,h2⟩:=we ps.toList _ ss ((Array.range (n*sz)).map (v.cells[· %v.cells.size]!)) hp' afV (by rw[tV];exact vk hd n);have awy:=afY ss hsv h2;have awz:=alv awy d1 d2 d3;have hcl:eX.toList.length=n*sz:=by rw[<-awy.1,d1]
 have hn:H base=none:=by simpa using hb 0 (by simp)
 refine⟨.slice (some ⟨w.heap.size,0,none⟩) n n,w.alloc (.cells eX el), ?_, ?_⟩;have acY:¬(n*sz>2^24):=by omega
 have key:∀zc:Array Value,((Array.range (n*sz)).map (zc[· %zc.size]!))=((Array.range (n*sz)).map (v.cells[· %v.cells.size]!))->
  (match Instr.fill (λi=>some (i*sz,sz)) ((Array.range (n*sz)).map (zc[· %zc.size]!)) (ps.map λ(i,x)=>(i,e x)).toList with
    |some cells=>do
     let a <-newRow el cells
     pure (Value.slice (some a) n n)
    |_=>stuck "buildSlice: a part of the wrong size" :Sem Value).run P w=.ok (.slice (some ⟨w.heap.size,0,none⟩) n n) (w.alloc (.cells eX el)):=by
  intro zc hz;rw[hz];simp only[Array.toList_map];erw [h1];simp[newRow]
 simp only[Instr.buildSlice,Sem.run_bind,run_underlying ht,Result.andThen_ok,run_sizeOf bU,acY,if_false];by_cases h0:n*sz=0;rw[if_pos h0];simp only[Sem.run_bind,Sem.run_pure,Result.andThen_ok]
 exact key #[] (by have:Array.range (n*sz)= #[]:=by rw[h0];rfl
                   rw[this];simp)
 rw[if_neg h0];simp only[Sem.run_bind,Sem.run_pure,Result.andThen_ok,zeroValue,typeInfo,run_program,hi,hv];exact key v.cells rfl;simp only[jB];have:=mC hs (w1:=w) rfl rfl rfl rfl hn (c:=u5 (shapeOf P el) sz n l) (e:=el) (cells:=eX.toList) (cap:=n) (by omega) (by simp only[maxLen];have:n<=n*sz:=Nat.le_mul_of_pos_right n (by omega);omega) (by rw[d3,hcl];exact le_refl _)
  (λi j=>eX.toList.getD (i*sz+j) undef) (λi j hi hj=>by
    rw[d2]at hi;rw[d3]at hj ⊢;have⟨u,g1,g2⟩:=awz i j hi hj;have bo:i*sz+j<eX.toList.length:=(List.getElem?_eq_some_iff.1 g1).1;rw[iA _ _ undef bo]at g1;simp only[Option.some.injEq]at g1;exact⟨iA _ _ _ bo,by rw[g1];exact g2⟩) (λu hu=>by
    obtain⟨k,hk,rfl⟩:=List.getElem_of_mem hu;rw[hcl]at hk
    have hp:0<sz:=by rcases Nat.eq_zero_or_pos sz with h0|h0
                     rw[h0]at hk;omega;exact h0
    have⟨u,g1,g2⟩:=awz (k / sz) (k%sz) (Nat.div_lt_of_lt_mul (by rw[Nat.mul_comm];exact hk)) (Nat.mod_lt _ hp);rw[show k / sz*sz+k%sz=k from Nat.div_add_mod' k sz,getElem?_eq_getElem (by rw[hcl];exact hk)]at g1;cases g1;exact g2.one)
 simpa[d2]using this;cases h;cases h;cases h;cases h;cases h
theorem aai:∀(r ab c:Nat),c<=2*ab+192->Builtin.growBy ab r c<=2*ab+192
 |0,ab,c,h=>h|r+1,ab,c,h=>by
  unfold Builtin.growBy;split;exact h;exact aai r ab _ (by omega)
theorem nextslicecap_le{ab old:Nat}(h:old<ab):Builtin.nextslicecap ab old<=2*ab+192:=by
 unfold Builtin.nextslicecap;split;omega;split;omega;exact aai 4 ab old (by omega)
theorem growBy_four(n c:Nat):Builtin.growBy n 4 c=
 if c>=n then c else
 if c+(c+768) / 4>=n then c+(c+768) / 4 else
 if c+(c+768) / 4+(c+(c+768) / 4+768) / 4>=n then c+(c+768) / 4+(c+(c+768) / 4+768) / 4 else
 if c+(c+768) / 4+(c+(c+768) / 4+768) / 4+(c+(c+768) / 4+(c+(c+768) / 4+768) / 4+768) / 4>=n
 then c+(c+768) / 4+(c+(c+768) / 4+768) / 4+(c+(c+768) / 4+(c+(c+768) / 4+768) / 4+768) / 4 else
 c+(c+768) / 4+(c+(c+768) / 4+768) / 4+(c+(c+768) / 4+(c+(c+768) / 4+768) / 4+768) / 4+
  (c+(c+768) / 4+(c+(c+768) / 4+768) / 4+(c+(c+768) / 4+(c+(c+768) / 4+768) / 4+768) / 4+768) / 4:=rfl
theorem tW{ab old:Nat}(h:old<ab):Builtin.nextslicecap ab old<=2*ab:=by
 unfold Builtin.nextslicecap;split;omega;split;omega;rw[growBy_four]
 repeat' split
 all_goals omega
structure Src (P:Program) (O:Nat->Prop) (w:World) (size:Nat) (d:aU) (v:Value) (bM:List Value):Prop where
 len:(Builtin.lenOf v).run P w=.ok d.n w
 length:bM.length=d.n*size
 first:∀w2:World,w2.heap=w.heap->(Builtin.firstCells size d.n v).run P w2=.ok bM.toArray w2
 one:∀u∈bM,u.oneCell'=true
 den:∀i j,i<d.n->j<size->∃u,bM[i*size+j]? =some u/\aW O w (d.cell i j) u
theorem wg{size:Nat}{d:aU}{v:Value}(h:qU O w d v)(hs:d.size=size)(h1:1<=size):∃bM,Src P O w size d v bM:=by
 obtain⟨a,cap,us,rfl,g1,g2,g3⟩:=h;subst hs
 have hdm:∀m,m<d.n*d.size->m / d.size<d.n/\m%d.size<d.size:=λm hm=>
  ⟨Nat.div_lt_of_lt_mul (by rw[Nat.mul_comm];exact hm),Nat.mod_lt _ (by omega)⟩
 refine⟨(List.range (d.n*d.size)).map λm=>us (m / d.size) (m%d.size), ?_,by simp,λw2 hw2=> ?_,λu hu=> ?_,λi j hi hj=> ?_⟩;simp[Builtin.lenOf];rcases Nat.eq_zero_or_pos d.n with h0|h0;rw[h0];cases a<;>simp[Builtin.firstCells,loadCells,loadCellsFrom];obtain⟨b,o,rfl,_,hc⟩:=g3 h0;simp only[Builtin.firstCells];refine run_loadCells w2 _ _ (λm=>us (m / d.size) (m%d.size)) (λm hm=> ?_);have⟨k1,k2⟩:=hdm m hm;rw[bc];have:=(hc _ _ k1 k2).1;rw[add_assoc,show m / d.size*d.size+m%d.size=m from by rw[Nat.mul_comm];exact Nat.div_add_mod m d.size]at this;rw[<-this];simp[World.cell?,hw2];obtain⟨m,hm,rfl⟩:=mem_map.1 hu;have hm:m<d.n*d.size:=mem_range.1 hm;have⟨k1,k2⟩:=hdm m hm;obtain⟨b,o,rfl,_,hc⟩:=g3 (Nat.lt_of_le_of_lt (zero_le _) k1);exact(hc _ _ k1 k2).2.one
 have bo:i*d.size+j<d.n*d.size:=by
  have:(i+1)*d.size<=d.n*d.size:=Nat.mul_le_mul_right _ (by omega);rw[Nat.succ_mul]at this;omega
 obtain⟨b,o,rfl,_,hc⟩:=g3 (by omega);have e1:(i*d.size+j) / d.size=i:=by rw[Nat.mul_comm,Nat.mul_add_div (by omega),Nat.div_eq_of_lt hj];rfl
 have e2:(i*d.size+j)%d.size=j:=by rw[Nat.mul_comm,Nat.mul_add_mod,Nat.mod_eq_of_lt hj]
 exact⟨us i j,by rw[getElem?_map,List.getElem?_range bo];simp[e1,e2],(hc i j hi hj).2⟩
theorem apA{s:ByteArray}:∃bM,Src P O w 1 (.ah .u8 (s.data.toList.map λb=>(b.toNat:Int))) (.string s) bM:=by
 refine⟨s.data.toList.map λb=>.int .u8 b.toNat, ?_,by simp[aU.n],λw2 hw2=> ?_,λu hu=> ?_,λi j hi hj=> ?_⟩;simp[Builtin.lenOf,aU.n];simp only[Builtin.firstCells,aU.n,Sem.run_pure,length_map];congr 1;have h:s.data.toList.length=s.size:=length_toList;rw[h,ByteArray.extract_zero_size];apply toList_inj.1;rw[Array.toList_map];obtain⟨b,_,rfl⟩:=mem_map.1 hu;rfl;simp only[aU.n,length_map]at hi;obtain rfl:j=0:=by omega
 have fq:i<s.data.toList.length:=hi;refine⟨.int .u8 (s.data.toList[i].toNat),by rw[Nat.mul_one,add_zero,getElem?_map,getElem?_eq_getElem fq];rfl, ?_⟩;simp only[aU.cell]
 have:(s.data.toList.map λb=>((b.toNat:Nat):Int)).getD i 0=(s.data.toList[i].toNat:Int):=by
  rw[List.getD,getElem?_map,getElem?_eq_getElem fq];rfl
 rw[this];exact .int _ _
end
section
variable{ρ aL:Nat->Value}{H H':aS}{G O O':Nat->Prop}{w w':World}{P:Program}
theorem eO{α:Type}(xs ys:List α){lo k:Nat}(h:lo+k<=xs.length)(hk:k<=ys.length):(over xs lo k ys).length=xs.length:=by
 simp only[over,length_append,length_take,length_drop];omega
theorem kD{α:Type}(xs ys:List α)(d:α){lo k:Nat}(h:lo+k<=xs.length)(hk:k<=ys.length)(i:Nat):
 (over xs lo k ys).getD i d=if lo<=i/\i<lo+k then ys.getD (i - lo) d else xs.getD i d:=by
 have hto:(xs.take lo).length=lo:=by simp;omega
 have hty:(ys.take k).length=k:=by simp;omega
 simp only[over,List.getD];by_cases h1:i<lo;rw[if_neg (by omega),append_assoc,getElem?_append_left (by omega),getElem?_take,if_pos h1];by_cases h2:i<lo+k;rw[if_pos (by omega),append_assoc,getElem?_append_right (by omega),hto,getElem?_append_left (by omega),getElem?_take,if_pos (by omega)];rw[if_neg (by omega),append_assoc,getElem?_append_right (by omega),hto,getElem?_append_right (by omega),hty,List.getElem?_drop];congr 2;omega
theorem ajI{α:Type}{lo i k:Nat}{a b:α}:(bif lo.ble i&&i.blt (lo+k)then a else b)=if lo<=i/\i<lo+k then a else b:=by
 rw[cond_eq_ite];congr 1;simp[Nat.blt,Nat.lt_iff_add_one_le,Nat.ble_eq]
theorem acZ{cs jZ:List CK}(xs:List (CL cs))(ys:List (CL jZ))(lo k:Nat)(p:aU->Prop)(h1:∀e:jZ=cs,p (.au cs (over xs lo k (e▸ys))))
 (h2:p (.e9 (CL.wide cs) xs.length λi j=>bif lo.ble i&&i.blt (lo+k)then(aU.au jZ ys).cell (i - lo) j else(aU.au cs xs).cell i j)):p (dI (.au cs xs) lo k (.au jZ ys)):=by
 simp only[dI];split;rename_i h _;exact h1 h.down;exact h2
theorem vn(c d:aU){lo k:Nat}(h:lo+k<=c.n)(hk:k<=d.n):
 (dI c lo k d).n=c.n/\(dI c lo k d).size=c.size/\∀i j,i<c.n->(dI c lo k d).cell i j=if lo<=i/\i<lo+k then d.cell (i - lo) j else c.cell i j:=by
 have other:∀c':aU,c'=.e9 c.size c.n (λi j=>bif lo.ble i&&i.blt (lo+k)then d.cell (i - lo) j else c.cell i j)->
  c'.n=c.n/\c'.size=c.size/\∀i j,i<c.n->c'.cell i j=if lo<=i/\i<lo+k then d.cell (i - lo) j else c.cell i j:=by
  rintro c' rfl;exact⟨rfl,rfl,λi j _=>ajI⟩
 cases c<;>cases d
 case ah.ah k1 xs k2 ys=>
  simp only[dI];cases hkk:bT k1 k2;exact other _ rfl;obtain rfl:=bt hkk;simp only[aU.n]at h hk;refine⟨eO xs ys h hk,rfl,λi j _=> ?_⟩;simp only[aU.cell,kD xs ys _ h hk,cond_true];split<;>rfl
 case strs.strs xs ys=>
  simp only[aU.n]at h hk;refine⟨eO xs ys h hk,rfl,λi j _=> ?_⟩;simp only[dI,aU.cell,kD xs ys _ h hk];split<;>rfl
 case bF.bF xs ys=>
  simp only[aU.n]at h hk;refine⟨eO xs ys h hk,rfl,λi j _=> ?_⟩;simp only[dI,aU.cell,kD xs ys _ h hk];split<;>rfl
 case au.au cs xs jZ ys=>
  simp only[aU.n]at h hk;refine acZ xs ys lo k (λc'=>c'.n=(aU.au cs xs).n/\c'.size=(aU.au cs xs).size/\∀i j,i<(aU.au cs xs).n->c'.cell i j=if lo<=i/\i<lo+k then(aU.au jZ ys).cell (i - lo) j else(aU.au cs xs).cell i j) ?_ (other _ rfl);rintro rfl;refine⟨eO xs ys h hk,rfl,λi j _=> ?_⟩;simp only[aU.cell,kD xs ys _ h hk];split<;>rfl
 all_goals exact other _ rfl
theorem Good.upd(hs:Sat ρ H G w){id:Nat}{o o':ak}(ho:H id=some o)(ha:o.alive=o'.alive)
 (tN:∀c' e',o'=.vec c' e'->∃c e,o=.vec c e/\c'.n=c.n/\c'.size=c.size) {r:AV} {v:Value}
 (dT:iv ρ (aB H id o') (aV ρ H G) w (ρ id) o') (hr:af ρ (aB H id o') (aV ρ H G) w r v):Good ρ H G w (aB H id o') r v w:=by
 have hh:=abm (ρ:=ρ) (G:=G) ho ha
 have st:Step ρ H (aV ρ H G) w ρ (aB H id o') (aV ρ (aB H id o') G) w:=by
  refine⟨λ_ _ _=>rfl,λj x hx=> ?_,λc hc=>.inl (by rw[hh]at hc;exact hc),λc hc hO=>rfl,le_refl _⟩;by_cases hj:j=id;subst hj;rw[ho]at hx;cases hx;exact⟨o',by simp[aB],tN⟩;exact⟨x,by simp[aB,hj,hx],λc' e' hc=>⟨c',e',hc,rfl,rfl⟩⟩
 refine⟨ρ,⟨λj x hx=> ?_,λi j oi oj c h1 h2 h3 h4 h5 h6=> ?_,λc hc=> ?_,hs.low⟩,by rw[hh];exact hr,st,⟨rfl,rfl,rfl,λ_ _ _=>rfl⟩⟩;by_cases hj:j=id;subst hj;simp only[aB,if_true,Option.some.injEq]at hx;subst hx;rw[hh];exact dT;have hx':H j=some x:=by simpa[aB,hj]using hx
 exact(hs.obj j x hx').step st (λ_ _ _=>rfl)
 have f:∀i oi,aB H id o' i=some oi->oi.alive=true->∃x,H i=some x/\x.alive=true:=by
  intro i oi hi xb;by_cases fq:i=id;subst fq;simp only[aB,if_true,Option.some.injEq]at hi;subst hi;exact⟨o,ho,ha.trans xb⟩;exact⟨oi,by simpa[aB,fq]using hi,xb⟩
 have⟨x,hx,hxa⟩:=f i oi h1 h3;have⟨y,hy,hya⟩:=f j oj h2 h4;exact hs.inj i j x y c hx hy hxa hya h5 h6;exact hs.apart c ((abl ho ha c).1 hc)
theorem rT(hs:Sat ρ H G w){id:Nat}{c d:aU}{e:TypeId}(ho:H id=some (.vec c e)){lo k:Nat}(hlo:lo+k<=c.n)(hk:k<=d.n)(h1:1<=c.size){bM:List Value}
 (bB:bM.length=k*c.size) (tT:∀u∈bM,u.oneCell'=true) (lL:∀i j,i<k->j<c.size->∃u,bM[i*c.size+j]? =some u/\aW (aV ρ H G) w (d.cell i j) u):
 ∃w',(∀a cap x,ρ id=.slice a c.n cap->(k=0\/a.map (·.add (lo*c.size))=some x)->(storeCells x bM 0).run P w=.ok () w')/\(k=0->w'=w)/\
  ∀r v,(∀w2,af ρ (aB H id (.vec (dI c lo k d) e)) (aV ρ H G) w2 r v)->Good ρ H G w (aB H id (.vec (dI c lo k d) e)) r v w':=by
 have⟨hn,bU,oG⟩:=vn c d hlo hk;have⟨a,cap,dK,q1,q2,q3⟩:=hs.obj id _ ho;have tN:∀c' e',ak.vec (dI c lo k d) e=.vec c' e'->∃c1 e1,ak.vec c e=.vec c1 e1/\c'.n=c1.n/\c'.size=c1.size:=λc' e' hc=>by cases hc;exact⟨c,e,rfl,hn,bU⟩
 have hh:=abm (ρ:=ρ) (G:=G) ho (show(ak.vec c e).alive=(ak.vec (dI c lo k d) e).alive from rfl);rcases Nat.eq_zero_or_pos k with h0|h0;subst h0;have j8:bM=[]:=List.eq_nil_of_length_eq_zero (by rw[bB];simp);subst j8;refine⟨w,λa cap x _ _=>rfl,λ_=>rfl,λr v hr=>Good.upd (o':=.vec (dI c lo 0 d) e) hs ho rfl tN ?_ (hr w)⟩;have hc:∀i j,i<c.n->(dI c lo 0 d).cell i j=c.cell i j:=λi j hi=>by rw[oG i j hi,if_neg (by omega)]
 refine⟨a,cap,by rw[hn];exact dK,by omega,q2, ?_⟩;rcases q3 with q3|⟨b,o,cells,fr,us,e1,e2,e3,e4,e5⟩;exact .inl q3;exact .inr ⟨b,o,cells,fr,us,e1,e2,e3,by rw[bU];exact e4,λi j hi hj=>by rw[hn]at hi;rw[bU]at hj ⊢;rw[hc i j hi];exact e5 i j hi hj⟩;rcases q3 with q3|⟨b,o,cells,fr,us,rfl,e2,e3,e4,e5⟩;omega;have mj:eW (ρ id)=some b:=by rw[dK];simp only[eW];rw[if_neg (by omega)]
 have hm1:(lo+k)*c.size<=cap*c.size:=Nat.mul_le_mul_right _ (by omega);rw[add_mul]at hm1;have hl:o+lo*c.size+bM.length<=cells.length:=by omega
 have hl2:(cells.take (o+lo*c.size)++bM++cells.drop (o+lo*c.size+bM.length)).length=cells.length:=by
  simp only[length_append,length_take,length_drop];omega
 let obj:Obj:=.cells (cells.take (o+lo*c.size)++bM++cells.drop (o+lo*c.size+bM.length)).toArray e fr;refine⟨World.cD w b obj,λa' ajo x hr hx=> ?_,λh=>by omega,λr v hr=> ?_⟩;rw[dK]at hr;cases hr;rcases hx with hx|hx;omega;simp only[map_some,bc,Option.some.injEq]at hx;subst hx;have:=bX (P:=P) (o+lo*c.size) bM 0 e2 e3.unm (by omega) tT;rw[add_zero]at this;exact this;have st:=kR (G:=G) (w:=w) (o':=.vec (dI c lo k d) e) ho rfl mj tN obj;refine Good.write hs ho rfl rfl mj tN ?_ (hr _);refine⟨some ⟨b,o,none⟩,cap,by rw[hn];exact dK,by omega,q2,.inr ⟨b,o,_,fr,λi j=>if lo<=i/\i<lo+k then bM.getD ((i - lo)*c.size+j) undef else us i j,rfl,eh e2,e3.over tT (by omega),by rw[hl2,bU];exact e4,λi j hi hj=> ?_⟩⟩;rw[hn]at hi;rw[bU]at hj ⊢;rw[oG i j hi,abr _ _ _ hl];dsimp only;by_cases cO:lo<=i/\i<lo+k;have⟨u,g1,g2⟩:=lL (i - lo) j (by omega) hj;have hmul:i*c.size=lo*c.size+(i - lo)*c.size:=by rw[<-add_mul];congr 1;omega
 have bo:=(List.getElem?_eq_some_iff.1 g1).1;simp only[if_pos cO];rw[if_pos (by omega),show o+i*c.size+j - (o+lo*c.size)=(i - lo)*c.size+j from by omega,g1];have:bM.getD ((i - lo)*c.size+j) undef=u:=by simp[List.getD,g1]
 rw[this];exact⟨rfl,g2.step st.gq st.heap st.size⟩;simp only[if_neg cO]
 have qg:¬(o+lo*c.size<=o+i*c.size+j/\o+i*c.size+j<o+lo*c.size+bM.length):=by
  intro hc;rcases lt_or_ge i lo with h2|h2;have:(i+1)*c.size<=lo*c.size:=Nat.mul_le_mul_right _ (by omega);rw[Nat.succ_mul]at this;omega;have:(lo+k)*c.size<=i*c.size:=Nat.mul_le_mul_right _ (by omega);rw[add_mul]at this;omega
 rw[if_neg qg];have⟨g1,g2⟩:=e5 i j hi hj;exact⟨g1,g2.step st.gq st.heap st.size⟩
end
section
variable{ρ aL:Nat->Value}{H H':aS}{G O O':Nat->Prop}{w w':World}{P:Program}
theorem nh{cs jZ:List CK}(xs:List (CL cs))(ys:List (CL jZ))(p:aU->Prop)(h1:∀e:jZ=cs,p (.au cs (xs++e▸ys)))
 (h2:p (.e9 (CL.wide cs) (xs.length+ys.length) λi j=>bif i.blt xs.length then(aU.au cs xs).cell i j else(aU.au jZ ys).cell (i - xs.length) j)):p (dz (.au cs xs) (.au jZ ys)):=by
 simp only[dz];split;rename_i h _;exact h1 h.down;exact h2
theorem xj(c d:aU):(dz c d).n=c.n+d.n:=by
 by_cases ht:∃cs xs jZ ys,c=.au cs xs/\d=.au jZ ys;obtain⟨cs,xs,jZ,ys,rfl,rfl⟩:=ht;refine nh xs ys (λr=>r.n=_) (λe=> ?_) rfl;subst e;simp[aU.n];cases c<;>cases d<;>first|(exact absurd ⟨_,_,_,_,rfl,rfl⟩ ht)|skip
 all_goals simp only[dz,aU.n,length_append]
 rename_i k xs k' ys;cases bT k k'<;>simp
theorem oH(c d:aU)(h:d.size=c.size):(dz c d).size=c.size:=by
 by_cases ht:∃cs xs jZ ys,c=.au cs xs/\d=.au jZ ys;obtain⟨cs,xs,jZ,ys,rfl,rfl⟩:=ht;exact nh xs ys (λr=>r.size=_) (λe=>by subst e;rfl) rfl;cases c<;>cases d<;>first|(exact absurd ⟨_,_,_,_,rfl,rfl⟩ ht)|skip
 all_goals simp only[dz,aU.size]at h ⊢
 rename_i k xs k' ys;cases bT k k'<;>rfl
theorem tX{α:Type}(xs ys:List α)(d:α){i:Nat}(h:i<xs.length):(xs++ys).getD i d=xs.getD i d:=by
 simp[List.getD,getElem?_append_left h]
theorem tY{α:Type}(xs ys:List α)(d:α){i:Nat}(h:¬i<xs.length):(xs++ys).getD i d=ys.getD (i - xs.length) d:=by
 simp[List.getD,getElem?_append_right (Nat.le_of_not_lt h)]
theorem xk{i n:Nat}(h:i<n):i.blt n=true:=by simpa[Nat.blt,Nat.lt_iff_add_one_le]using h
theorem tZ{i n:Nat}(h:¬i<n):i.blt n=false:=by
 cases hb:i.blt n with
 |false=>rfl|true=>exact absurd (by simpa[Nat.blt,Nat.lt_iff_add_one_le]using hb) h
theorem abv(c d:aU){i:Nat}(j:Nat)(h:i<c.n):(dz c d).cell i j=c.cell i j:=by
 by_cases ht:∃cs xs jZ ys,c=.au cs xs/\d=.au jZ ys;obtain⟨cs,xs,jZ,ys,rfl,rfl⟩:=ht;simp only[aU.n]at h;refine nh xs ys (λr=>r.cell i j=_) (λe=> ?_) ?_;subst e;simp only[aU.cell,tX _ _ _ h];simp only[aU.cell,xk h,cond_true];cases c<;>cases d<;>first|(exact absurd ⟨_,_,_,_,rfl,rfl⟩ ht)|skip
 all_goals simp only[dz,aU.cell,aU.n]at h ⊢
 all_goals first
  |(rw[tX _ _ _ h];done)
  |(simp only[xk h,cond_true];done)
  |(rename_i k xs k' ys
    cases hk:bT k k';simp only[cond_false,xk h,cond_true];simp only[cond_true,tX _ _ _ h])
theorem abw(c d:aU){i:Nat}(j:Nat)(h:¬i<c.n):(dz c d).cell i j=d.cell (i - c.n) j:=by
 by_cases ht:∃cs xs jZ ys,c=.au cs xs/\d=.au jZ ys;obtain⟨cs,xs,jZ,ys,rfl,rfl⟩:=ht;simp only[aU.n]at h;refine nh xs ys (λr=>r.cell i j=_) (λe=> ?_) ?_;subst e;simp only[aU.cell,aU.n,tY _ _ _ h];simp only[aU.cell,aU.n,tZ h,cond_false];cases c<;>cases d<;>first|(exact absurd ⟨_,_,_,_,rfl,rfl⟩ ht)|skip
 all_goals simp only[dz,aU.cell,aU.n]at h ⊢
 all_goals first
  |(rw[tY _ _ _ h];done)
  |(simp only[tZ h,cond_false];done)
  |(rename_i k xs k' ys
    cases hk:bT k k';simp only[cond_false,tZ h];obtain rfl:=bt hk;simp only[cond_true,tY _ _ _ h])
theorem fi{id:Nat}{o:ak}(ho:H id=some o):Step ρ H (aV ρ H G) w ρ (aB H id .aw) (aV ρ (aB H id .aw) G) w:=by
 refine⟨λ_ _ _=>rfl,λj x hx=> ?_,λb hb=> ?_,λ_ _ _=>rfl,le_refl _⟩;by_cases hj:j=id;subst hj;exact⟨.aw,by simp[aB],by simp⟩;exact⟨x,by simp[aB,hj,hx],λc' e' hc=>⟨c',e',hc,rfl,rfl⟩⟩;rcases hb with⟨j,x,hx,h1,h2⟩|hb;by_cases hj:j=id;subst hj;simp only[aB,if_true,Option.some.injEq]at hx;subst hx;simp[ak.alive]at h1;exact .inl (.inl ⟨j,x,by simpa[aB,hj]using hx,h1,h2⟩);exact .inl (.inr hb)
theorem fj{id:Nat}{b:Nat}(h:Own ρ (aB H id .aw) b):Own ρ H b:=by
 have⟨j,x,hx,h1,h2⟩:=h;by_cases hj:j=id;subst hj;simp only[aB,if_true,Option.some.injEq]at hx;subst hx;simp[ak.alive]at h1;exact⟨j,x,by simpa[aB,hj]using hx,h1,h2⟩
theorem Sat.kill(hs:Sat ρ H G w){id:Nat}{o:ak}(ho:H id=some o):Sat ρ (aB H id .aw) G w:=by
 have st:=fi (ρ:=ρ) (G:=G) (w:=w) ho;refine⟨λj x hx=> ?_,λi j oi oj b h1 h2 h3 h4 h5 h6=> ?_,λb hb=>hs.apart b (fj hb),hs.low⟩;by_cases hj:j=id;subst hj;simp only[aB,if_true,Option.some.injEq]at hx;subst hx;trivial;exact(hs.obj j x (by simpa[aB,hj]using hx)).step st (λ_ _ _=>rfl)
 have f:∀i oi,aB H id .aw i=some oi->oi.alive=true->H i=some oi:=by
  intro i oi hi xb;by_cases fq:i=id;subst fq;simp only[aB,if_true,Option.some.injEq]at hi;subst hi;simp[ak.alive]at xb;simpa[aB,fq]using hi
 exact hs.inj i j oi oj b (f i oi h1 h3) (f j oj h2 h4) h3 h4 h5 h6
theorem Good.after{H1 H2:aS}(ni:Step ρ H (aV ρ H G) w ρ H1 (aV ρ H1 G) w)(ei:∀b,Own ρ H1 b->Own ρ H b){r:AV}{v:Value}(h:Good ρ H1 G w H2 r v w'):Good ρ H G w H2 r v w':=by
 have⟨aL,h1,h2,h3,h4⟩:=h;exact⟨aL,h1,h2,ni.trans h3,h4.os,h4.tape,h4.output,λb hb hO=>h4.heap b hb (λhx=>hO (ei b hx))⟩
theorem ua(hs:Sat ρ H G w){n:Nat}(hn:H n=none){c:aU}{e:TypeId}(h0:c.n=0)(a:Option Addr):
 Good ρ H G w (aB H n (.vec c e)) (.vec n) (.slice a c.n 0) w:=by
 have ne:∀j x,H j=some x->j≠n:=λj x hx e=>by subst e;rw[hn]at hx;cases hx
 have hb:eW (.slice a c.n 0)=none:=by cases a<;>simp[eW]
 have rO:∀b,Own (λj=>if j=n then .slice a c.n 0 else ρ j) (aB H n (.vec c e)) b->Own ρ H b:=by
  rintro b ⟨j,x,hx,h1,h2⟩;by_cases hj:j=n;subst hj;simp only[if_true]at h2;rw[hb]at h2;cases h2;simp only[aB,hj,if_false]at hx h2;exact⟨j,x,hx,h1,h2⟩
 have st:Step ρ H (aV ρ H G) w (λj=>if j=n then .slice a c.n 0 else ρ j) (aB H n (.vec c e)) (aV (λj=>if j=n then .slice a c.n 0 else ρ j) (aB H n (.vec c e)) G) w:=
  ⟨λj x hx=>by simp[ne j x hx],λj x hx=>⟨x,by simp[aB,ne j x hx,hx],λc' e' hc=>⟨c',e',hc,rfl,rfl⟩⟩,λb hb=>.inl (hb.imp (rO b) id),λb hb _=>rfl,le_refl _⟩
 refine⟨_,⟨λj x hx=> ?_,λi j oi oj b h1 h2 h3 h4 h5 h6=> ?_,λb hb=>hs.apart b (rO b hb),hs.low⟩, ?_,st,rfl,rfl,rfl,λ_ _ _=>rfl⟩;by_cases hj:j=n;subst hj;simp only[aB,if_true,Option.some.injEq]at hx;subst hx;simp only[if_true];exact⟨a,0,rfl,by omega,by simp[maxLen],.inl rfl⟩;have hx':H j=some x:=by simpa[aB,hj]using hx
 simp only[hj,if_false];exact(hs.obj j x hx').step st (λ_ _ _=>rfl);by_cases hi:i=n;subst hi;simp only[if_true]at h5;rw[hb]at h5;cases h5;by_cases hj:j=n;subst hj;simp only[if_true]at h6;rw[hb]at h6;cases h6;simp only[aB,hi,hj,if_false]at h1 h2 h5 h6;exact hs.inj i j oi oj b h1 h2 h3 h4 h5 h6;unfold af aN;exact⟨rfl,.vec c e,by simp[aB],λc' e' hc=>by simp⟩
theorem aaj{z:Array Value}(h:∀u∈z.toList,u.oneCell'=true)(n:Nat):∀u∈(Builtin.zeroCells z n).toList,u.oneCell'=true:=by
 intro u hu;simp only[Builtin.zeroCells,Array.toList_map,Array.toList_range,mem_map,mem_range]at hu;obtain⟨m,hm,rfl⟩:=hu
 have hp:0<z.size:=by
  rcases Nat.eq_zero_or_pos z.size with h0|h0;rw[h0]at hm;omega;exact h0
 have bo:m%z.size<z.size:=Nat.mod_lt _ hp;rw[getElem!_pos z (m%z.size) bo];exact h _ (Array.mem_toList_iff.2 (Array.getElem_mem bo))
theorem awA(hs:Sat ρ H G w){id n:Nat}{o:ak}(ho:H id=some o)(ha:o.alive=true)(hn:H n=none){b f:Nat}(hb:eW (ρ id)=some b){c:aU}{e:TypeId}{cap:Nat}{cells:List Value}{fr:Nat×Nat}{old:Obj}
 (hold:w.heap[b]? =some old) (hu:abi fr cells) (h1:c.n<=cap) (h2:cap<=maxLen) (h3:f+cap*c.size<=cells.length) (us:Nat->Nat->Value)
 (hd:∀i j,i<c.n->j<c.size->cells[f+i*c.size+j]? =some (us i j)/\aW (aV ρ H G) w (c.cell i j) (us i j)):
 Good ρ H G w (aB (aB H id .aw) n (.vec c e)) (.vec n) (.slice (some ⟨b,f,none⟩) c.n cap) (World.cD w b (.cells cells.toArray e fr)):=by
 have ne:∀j x,H j=some x->j≠n:=λj x hx e=>by subst e;rw[hn]at hx;cases hx
 have atU:id≠n:=ne id o ho;have ei:Own ρ H b:=⟨id,o,ho,ha,hb⟩
 have rS:∀b',eW (.slice (some ⟨b,f,none⟩) c.n cap)=some b'->b'=b:=by
  intro b' vP;simp only[eW]at vP;split at vP;cases vP;simpa using vP.symm
 have rO:∀b',Own (λj=>if j=n then .slice (some ⟨b,f,none⟩) c.n cap else ρ j) (aB (aB H id .aw) n (.vec c e)) b'->Own ρ H b':=by
  rintro b' ⟨j,x,hx,g1,g2⟩;by_cases hj:j=n;subst hj;simp only[if_true]at g2;rw[rS b' g2];exact ei;by_cases hi:j=id;subst hi;simp only[aB,hj,if_false,if_true,Option.some.injEq]at hx;subst hx;simp[ak.alive]at g1;simp only[aB,hj,hi,if_false]at hx g2;exact⟨j,x,hx,g1,g2⟩
 have st:Step ρ H (aV ρ H G) w (λj=>if j=n then .slice (some ⟨b,f,none⟩) c.n cap else ρ j) (aB (aB H id .aw) n (.vec c e)) (aV (λj=>if j=n then .slice (some ⟨b,f,none⟩) c.n cap else ρ j) (aB (aB H id .aw) n (.vec c e)) G) (World.cD w b (.cells cells.toArray e fr)):=by
  refine⟨λj x hx=>by simp[ne j x hx],λj x hx=> ?_,λb' vP=>.inl (vP.imp (rO b') _root_.id),λb' vP hO=>ja (λe=>hO (.inl (by subst e;exact ei))),by rw[jz];exact le_refl _⟩;by_cases hi:j=id;subst hi;exact⟨.aw,by simp[aB,atU],by simp⟩;exact⟨x,by simp[aB,ne j x hx,hi,hx],λc' e' hc=>⟨c',e',hc,rfl,rfl⟩⟩
 refine⟨_,⟨λj x hx=> ?_,λi j oi oj b' g1 g2 g3 g4 g5 g6=> ?_,λb' vP=>hs.apart b' (rO b' vP),λb' vP=>by rw[jz];exact hs.low b' vP⟩, ?_,st,rfl,rfl,rfl,λb' vP hO=>ja (λe=>hO (by subst e;exact ei))⟩;by_cases hj:j=n;subst hj;simp only[aB,if_true,Option.some.injEq]at hx;subst hx;simp only[if_true];refine⟨_,cap,rfl,h1,h2,.inr ⟨b,f,cells,fr,us,rfl,eh hold,hu,h3,λi j hi hj=> ?_⟩⟩;have⟨k1,k2⟩:=hd i j hi hj;exact⟨k1,k2.step st.gq st.heap st.size⟩;by_cases hi:j=id;subst hi;simp only[aB,hj,if_false,if_true,Option.some.injEq]at hx;subst hx;trivial;have hx':H j=some x:=by simpa[aB,hj,hi]using hx
 simp only[hj,if_false];refine(hs.obj j x hx').step st (λb' xb vP=>ja (λe=>hi ?_));subst e;exact hs.inj j id x o b' hx' ho xb ha vP hb
 have f':∀i oi,aB (aB H id .aw) n (.vec c e) i=some oi->oi.alive=true->i≠n->i≠id/\H i=some oi:=by
  intro i oi hi xb cP;by_cases fq:i=id;subst fq;simp only[aB,cP,if_false,if_true,Option.some.injEq]at hi;subst hi;simp[ak.alive]at xb;exact⟨fq,by simpa[aB,cP,fq]using hi⟩
 by_cases hi:i=n<;>by_cases hj:j=n;rw[hi,hj];have⟨k1,k2⟩:=f' j oj g2 g4 hj;simp only[hi,hj,if_true,if_false]at g5 g6;have:=rS b' g5;subst this;exact absurd (hs.inj j id oj o b' k2 ho g4 ha g6 hb) k1;have⟨k1,k2⟩:=f' i oi g1 g3 hi;simp only[hi,hj,if_true,if_false]at g5 g6;have:=rS b' g6;subst this;exact absurd (hs.inj i id oi o b' k2 ho g3 ha g5 hb) k1;simp only[hi,hj,if_false]at g5 g6;exact hs.inj i j oi oj b' (f' i oi g1 g3 hi).2 (f' j oj g2 g4 hj).2 g3 g4 g5 g6;unfold af aN;exact⟨rfl,.vec c e,by simp[aB],λc' e' hc=>by simp⟩
theorem gB{t t' ty e:TypeId}{i:TypeInfo}{a:Option Addr}{n cap m:Nat}{vy:Value}{bM:List Value}
 (ht:P.underlying t=some (.slice e)) (hi:P.info? e=some i) (hzero:(∃e',P.underlying t'=some (.slice e'))\/P.underlying t'=some .string)
 (bB:(Builtin.lenOf vy).run P w=.ok m w) (kT:(Builtin.firstCells i.size m vy).run P w=.ok bM.toArray w) (oI:n+m<=cap)
 (ni:∀x,a=some x->(storeCells (x.add (n*i.size)) bM 0).run P w=.ok () w') (uc:a=none->w'=w):
 (Builtin.append_ #[t,t'] ty #[.slice a n cap,vy]).run P w=.ok (.slice a (n+m) cap) w':=by
 rcases hzero with⟨e',hd⟩|hd<;>cases a with
 |none=>
  rw[uc rfl];simp[Builtin.append_,run_underlying ht,run_underlying hd,sizeOf,typeInfo,hi,bB,oI,kT]
 |some x=>
  have:=ni x rfl;simp[Builtin.append_,run_underlying ht,run_underlying hd,sizeOf,typeInfo,hi,bB,oI,kT,this]
theorem oJ{t t' ty e:TypeId}{i:TypeInfo}{z:Value}{a:Option Addr}{n cap m:Nat}{vy:Value}{olds bM:List Value}
 (ht:P.underlying t=some (.slice e)) (hi:P.info? e=some i) (hz:i.zero=some z) (hzero:(∃e',P.underlying t'=some (.slice e'))\/P.underlying t'=some .string)
 (bB:(Builtin.lenOf vy).run P w=.ok m w) (hold:(Builtin.firstCells i.size n (.slice a n cap)).run P w.drew=.ok olds.toArray w.drew) (kT:(Builtin.firstCells i.size m vy).run P w.drew=.ok bM.toArray w.drew) (oI:¬n+m<=cap)
 (hsm:(n+m)*i.bytes<=140737488355328) (hb1:1<=i.bytes):
 ∃oK,n+m<=oK/\oK<=maxLen/\(Builtin.append_ #[t,t'] ty #[.slice a n cap,vy]).run P w=
  .ok (.slice (some ⟨w.heap.size,0,none⟩) (n+m) oK) (w.drew.alloc (.cells (olds++bM++(Builtin.zeroCells z.cells (oK - (n+m))).toList).toArray e)):=by
 have hnm:n+m<=140737488355328:=le_trans (by have:=Nat.mul_le_mul_left (n+m) hb1;omega) hsm;refine⟨grownCap w (n+m) cap e,grownCap_ge w _ _ _,grownCap_le_maxLen w _ _ _ (by simp only[maxLen];omega), ?_⟩
 have acY:¬(281474976710656<Builtin.nextslicecap (n+m) cap*i.bytes):=by
  have h1:=tW (ab:=n+m) (old:=cap) (by omega);have h2:Builtin.nextslicecap (n+m) cap*i.bytes<=(2*(n+m))*i.bytes:=Nat.mul_le_mul_right _ h1;rw[Nat.mul_assoc]at h2;omega
 have ac0:¬(9223372036854775807<(n:Int)+(m:Int)):=by omega
 have apB:∀X:Array Value,olds.toArray++(bM.toArray++X)=(olds++(bM++X.toList)).toArray:=λX=>by
  apply toList_inj.1;simp
 have hq:¬((Question.appendCap (n+m) cap e).forced=true):=by simp[Question.forced]
 rcases hzero with⟨e',hd⟩|hd;simp[Builtin.append_,run_underlying ht,run_underlying hd,sizeOf,typeInfo,hi,bB,oI,ac0,acY,hold,kT,zeroValue,hz,newRow];rw[if_neg hq,apB];rfl;simp[Builtin.append_,run_underlying ht,run_underlying hd,sizeOf,typeInfo,hi,bB,oI,ac0,acY,hold,kT,zeroValue,hz,newRow];rw[if_neg hq,apB];rfl
theorem apC(hs:Sat ρ H G w){id:Nat}{c:aU}{e:TypeId}(ho:H id=some (.vec c e)):qU (aV ρ H G) w c (ρ id):=by
 have⟨a,cap,h1,h2,h3,h4⟩:=hs.obj id _ ho;rcases h4 with rfl|⟨b,o,cells,fr,us,rfl,h5,h6,h7,h8⟩;exact⟨a,0,λ_ _=>undef,h1,h2,h3,λh0=>by omega⟩;refine⟨_,cap,us,h1,h2,h3,λ_=>⟨b,o,rfl,(Array.getElem?_eq_some_iff.1 h5).1,λi j hi hj=> ?_⟩⟩;have⟨h9,vQ⟩:=h8 i j hi hj;exact⟨by rw[de h5];exact h9,vQ⟩
theorem alw{sh:Shape}{size:Nat}{x:AV}{k:aU->Option Nat->RM bQ}{v:Value}{q:bQ}(h:(z8 sh size x k).eval H=some q)(hs:Sat ρ H G w)(hd:af ρ H (aV ρ H G) w x v)(h1:1<=size):
 ∃c idy,(k c idy).eval H=some q/\(c.size=size->∃bM,Src P (aV ρ H G) w size c v bM):=by
 unfold z8 at h;split at h;rename_i s;obtain rfl:=fH hd;refine⟨_,_,h,λbU=> ?_⟩;simp only[aU.size]at bU;subst bU;exact apA;have⟨c,idy,h2,h3⟩:=xd h hs hd;exact⟨c,idy,h2,λbU=>wg h3 bU h1⟩
theorem ud{c d:aU}{size:Nat}{olds bM rest:List Value}(hc:c.size=size)(hdz:d.size=size)(_h1:1<=size)(ho:olds.length=c.n*size)(_hn:bM.length=d.n*size)
 (h2:∀i j,i<c.n->j<size->∃u,olds[i*size+j]? =some u/\aW O w (c.cell i j) u) (h3:∀i j,i<d.n->j<size->∃u,bM[i*size+j]? =some u/\aW O w (d.cell i j) u) (pre:List Value):
 ∀i j,i<(dz c d).n->j<(dz c d).size->(pre++(olds++bM++rest))[pre.length+i*(dz c d).size+j]? =some ((pre++(olds++bM++rest)).getD (pre.length+i*(dz c d).size+j) undef)/\
  aW O w ((dz c d).cell i j) ((pre++(olds++bM++rest)).getD (pre.length+i*(dz c d).size+j) undef):=by
 intro i j hi hj;have bU:(dz c d).size=size:=by rw[oH c d (by omega),hc]
 rw[xj]at hi;rw[bU]at hj ⊢
 have key:∃u,(pre++(olds++bM++rest))[pre.length+i*size+j]? =some u/\aW O w ((dz c d).cell i j) u:=by
  rw[add_assoc,getElem?_append_right (by omega),Nat.add_sub_cancel_left,append_assoc];by_cases bo:i<c.n;have⟨u,g1,g2⟩:=h2 i j bo hj;refine⟨u, ?_,by rw[abv c d j bo];exact g2⟩;rw[getElem?_append_left (List.getElem?_eq_some_iff.1 g1).1];exact g1;have⟨u,g1,g2⟩:=h3 (i - c.n) j (by omega) hj;refine⟨u, ?_,by rw[abw c d j bo];exact g2⟩;have hm:c.n*size+(i - c.n)*size=i*size:=by rw[<-add_mul];congr 1;omega
  rw[getElem?_append_right (by omega)];rw[show i*size+j - olds.length=(i - c.n)*size+j from by omega];rw[getElem?_append_left (List.getElem?_eq_some_iff.1 g1).1];exact g1
 have⟨u,g1,g2⟩:=key;have bo:=(List.getElem?_eq_some_iff.1 g1).1;have g1':=g1;rw[iA _ _ undef bo]at g1';simp only[Option.some.injEq]at g1';exact⟨iA _ _ _ bo,by rw[g1'];exact g2⟩
theorem afZ{t t' ty:TypeId}{x y:AV}{vx vy:Value}{q:bQ}(h:(abd P t x y).eval H=some q)(hn:bJ q.ab)(hs:Sat ρ H G w)
 (hx:af ρ H (aV ρ H G) w x vx) (hy:af ρ H (aV ρ H G) w y vy) (hzero:(∃e',P.underlying t'=some (.slice e'))\/P.underlying t'=some .string) {base:Nat} (hb:∀i,i<q.new.length->H (base+i)=none):
 ∃v w',(Builtin.append_ #[t,t'] ty #[vx,vy]).run P w=.ok v w'/\Good ρ H G w (cY H q.up base q.new) (q.r base) v w':=by
 unfold abd at h;split at h;rename_i e ht;split at h;rename_i i hi;simp only[]at h;rw[cond_eq_ite]at h;split at h;rename_i hc;simp only[and_eq_true]at hc;have⟨⟨⟨c1,cb⟩,c2⟩,c3⟩:=hc;have c1:=le_of_ble_eq_true c1;have cb:=le_of_ble_eq_true cb
 obtain⟨z,hz,hzs,hz1⟩:∃z,i.zero=some z/\z.cells.size=i.size/\∀u∈z.cells.toList,u.oneCell'=true:=by
  cases hz:i.zero with
  |none=>simp[hz]at c3|some z=>
   simp only[hz,Option.any_some,and_eq_true,beq_iff_eq,all_eq_true]at c3;exact⟨z,rfl,c3.1,c3.2⟩
 have⟨d,idy,h1,qh⟩:=alw (P:=P) h hs hy c1;rw[cond_eq_ite]at h1;split at h1;rename_i hds;have hds:d.size=i.size:=by simpa using hds
 have⟨bM,src⟩:=qh hds;split at h1;simp only[RM.eval,Option.some.injEq]at h1;subst h1;have j7:H base=none:=by simpa using hb 0 (by simp)
 have hsm:d.n*i.bytes<=140737488355328:=hn.1;unfold af at hx;obtain⟨a,rfl⟩:=hx;simp only[jB];by_cases hm:d.n=0;have j8:bM=[]:=List.eq_nil_of_length_eq_zero (by rw[src.length,hm];simp);refine⟨.slice a (0+d.n) 0,w,gB ht hi hzero src.len (src.first w rfl) (by omega) (λx _=>by rw[j8];rfl) (λ_=>rfl), ?_⟩;rw[zero_add];exact ua hs j7 hm a;have⟨oK,g1,g2,g3⟩:=oJ (ty:=ty) (olds:=[]) (a:=a) (n:=0) (cap:=0) ht hi hz hzero src.len (by cases a<;>simp[Builtin.firstCells,loadCells,loadCellsFrom]) (src.first w.drew rfl) (by omega) (by rw[zero_add];exact hsm) cb;refine⟨_,_,g3, ?_⟩;rw[zero_add]at *;simp only[nil_append];refine mC (w1:=w.drew) hs rfl rfl rfl rfl j7 g1 g2 ?_ (λi' j'=>(bM++(Builtin.zeroCells z.cells (oK - d.n)).toList).getD (i'*d.size+j') undef) (λi' j' fq kj=> ?_) (λu hu=>(mem_append.1 hu).elim (src.one u) (aaj hz1 _ u));simp only[length_append,src.length,length_toList,size_zeroCells,hzs,hds];rw[<-add_mul];exact Nat.mul_le_mul_right _ (by omega);have⟨u,k1,k2⟩:=src.den i' j' fq (by omega);rw[<-hds]at k1;have bo:=(List.getElem?_eq_some_iff.1 k1).1;have k3:(bM++(Builtin.zeroCells z.cells (oK - d.n)).toList)[i'*d.size+j']? =some u:=by rw[getElem?_append_left bo];exact k1
 have k4:=k3;rw[iA _ _ undef (List.getElem?_eq_some_iff.1 k3).1]at k4;simp only[Option.some.injEq]at k4;rw[k4];exact⟨k3,k2⟩;rename_i idx;simp only[RM.eval]at h1;split at h1;rename_i c e' ho;rw[cond_eq_ite]at h1;split at h1;rename_i hc;simp only[and_eq_true,beq_eq]at hc;obtain⟨⟨qW,rfl⟩,_⟩:=hc;simp only[RM.eval,Option.some.injEq]at h1;subst h1;have j7:H base=none:=by simpa using hb 0 (by simp)
 have hsm:(c.n+d.n)*i.bytes<=140737488355328:=hn.1;have ac1:idx≠base:=λe=>by rw[<-e,ho]at j7;cases j7
 unfold af aN at hx;have⟨_,o,dH,hv⟩:=hx;rw[ho]at dH;cases dH;obtain rfl:=hv c e' rfl;have⟨olds,xl⟩:=wg (P:=P) (apC hs ho) qW c1;have⟨a,cap,r1,r2,r3,r4⟩:=hs.obj idx _ ho;have hcd:d.size=c.size:=by omega
 have apD:=oH c d hcd;have han:=xj c d;have hmul:(c.n+d.n)*i.size=c.n*i.size+d.n*i.size:=add_mul _ _ _;simp only[ajx _ _ _ _ ac1];by_cases oI:c.n+d.n<=cap;rcases r4 with rfl|⟨b,o,cells,fr,us,rfl,q1,q2,q3,q4⟩
 have hd0:d.n=0:=by omega
 have j8:bM=[]:=List.eq_nil_of_length_eq_zero (by rw[src.length,hd0];simp);refine⟨.slice a (c.n+d.n) 0,w,by rw[r1];exact gB ht hi hzero src.len (src.first w rfl) oI (λx _=>by rw[j8];rfl) (λ_=>rfl), ?_⟩;have st:=fi (ρ:=ρ) (G:=G) (w:=w) ho;refine Good.after st (λb hb=>fj hb) ?_;rw[<-han];exact ua (hs.kill ho) (by simp[aB,Ne.symm ac1,j7]) (by omega) a;by_cases zv:cap=0;subst zv;have hd0:d.n=0:=by omega
 have j8:bM=[]:=List.eq_nil_of_length_eq_zero (by rw[src.length,hd0];simp);refine⟨.slice (some ⟨b,o,none⟩) (c.n+d.n) 0,w,by rw[r1];exact gB ht hi hzero src.len (src.first w rfl) oI (λx _=>by rw[j8];rfl) (λ_=>rfl), ?_⟩;have st:=fi (ρ:=ρ) (G:=G) (w:=w) ho;refine Good.after st (λb hb=>fj hb) ?_;rw[<-han];exact ua (hs.kill ho) (by simp[aB,Ne.symm ac1,j7]) (by omega) _;have mj:eW (ρ idx)=some b:=by rw[r1];simp[eW,zv]
 have aBg:(c.n+d.n)*i.size<=cap*i.size:=Nat.mul_le_mul_right _ oI;have bB:o+c.n*i.size+bM.length<=cells.length:=by rw[src.length];rw[qW]at q3;omega
 refine⟨.slice (some ⟨b,o,none⟩) (c.n+d.n) cap,World.cD w b (.cells (cells.take (o+c.n*i.size)++bM++cells.drop (o+c.n*i.size+bM.length)).toArray e' fr), ?_, ?_⟩;rw[r1];refine gB ht hi hzero src.len (src.first w rfl) oI (λx hx=> ?_) (λhx=>by cases hx);cases hx;rw[bc];have:=bX (P:=P) (o+c.n*i.size) bM 0 q1 q2.unm (by omega) src.one;simpa using this;rw[<-han]
 have hl2:(cells.take (o+c.n*i.size)++bM++cells.drop (o+c.n*i.size+bM.length)).length=cells.length:=by
  simp only[length_append,length_take,length_drop];omega
 have atV:cells.take (o+c.n*i.size)++bM++cells.drop (o+c.n*i.size+bM.length)=cells.take o++((cells.drop o).take (c.n*i.size)++bM++cells.drop (o+c.n*i.size+bM.length)):=by
  rw[List.take_add];simp only[append_assoc]
 have hto:(cells.take o).length=o:=by simp;omega
 refine awA hs ho rfl j7 mj q1 (q2.over src.one bB) (by omega) r3 (by rw[hl2,apD];exact q3) (λi' j'=>(cells.take o++((cells.drop o).take (c.n*i.size)++bM++cells.drop (o+c.n*i.size+bM.length))).getD ((cells.take o).length+i'*(dz c d).size+j') undef) (λi' j' fq kj=> ?_)
 have:=ud (O:=aV ρ H G) (w:=w) (c:=c) (d:=d) (size:=i.size) (olds:=(cells.drop o).take (c.n*i.size)) (bM:=bM) (rest:=cells.drop (o+c.n*i.size+bM.length)) qW hds c1 (by simp;omega) src.length (λi2 j2 hi2 wj=>by
  have⟨k1,k2⟩:=q4 i2 j2 hi2 (by omega);refine⟨_, ?_,k2⟩
  have hb2:i2*i.size+j2<c.n*i.size:=by
   have:(i2+1)*i.size<=c.n*i.size:=Nat.mul_le_mul_right _ (by omega);rw[Nat.succ_mul]at this;omega
  rw[getElem?_take,if_pos hb2,List.getElem?_drop,<-add_assoc];rw[qW]at k1;exact k1) src.den (cells.take o) i' j' fq kj
 rw[atV];rw[hto]at this ⊢;exact this;have⟨oK,g1,g2,g3⟩:=oJ (ty:=ty) (olds:=olds) (a:=a) (n:=c.n) (cap:=cap) ht hi hz hzero src.len (by rw[<-r1];exact xl.first w.drew rfl) (src.first w.drew rfl) oI hsm cb;refine⟨_,_,by rw[r1];exact g3, ?_⟩;have st:=fi (ρ:=ρ) (G:=G) (w:=w) ho;refine Good.after st (λb hb=>fj hb) ?_;rw[<-han];refine mC (w1:=w.drew) (hs.kill ho) rfl rfl rfl rfl (by simp[aB,Ne.symm ac1,j7]) (by omega) g2 ?_ (λi' j'=>(olds++bM++(Builtin.zeroCells z.cells (oK - (dz c d).n)).toList).getD (i'*(dz c d).size+j') undef) (λi' j' fq kj=> ?_) (λu hu=>(mem_append.1 hu).elim (λhu=>(mem_append.1 hu).elim (xl.one u) (src.one u)) (aaj hz1 _ u));simp only[length_append,src.length,xl.length,length_toList,size_zeroCells,hzs,apD,qW,han];rw[<-add_mul,<-add_mul];exact Nat.mul_le_mul_right _ (by omega);have:=ud (O:=aV ρ H G) (w:=w) (c:=c) (d:=d) (size:=i.size) (olds:=olds) (bM:=bM) (rest:=(Builtin.zeroCells z.cells (oK - (dz c d).n)).toList) qW hds c1 xl.length src.length xl.den src.den [] i' j' fq kj;simp only[nil_append,length_nil,zero_add]at this;exact⟨this.1,this.2.step st.gq st.heap st.size⟩;cases h1;cases h1;rename_i idx lo n;simp only[RM.eval]at h1;split at h1;rename_i c e' ho;rw[cond_eq_ite]at h1;split at h1;rename_i qW;have qW:c.size=i.size:=by simpa using qW
 simp only[RM.eval,Option.some.injEq]at h1;subst h1;have oI:lo+n+d.n<=c.n:=hn.1;obtain⟨g0,a,cap,a',g1,g2,g3,rfl,g4,g5⟩:=jA hs ho hx;have⟨w',k1,k2,k3⟩:=rT (P:=P) hs ho (lo:=lo+n) (k:=d.n) (d:=d) oI (le_refl _) (by omega) (bM:=bM) (by rw[src.length,qW]) src.one (λi' j' fq kj=>by rw[qW]at *;exact src.den i' j' fq kj);have⟨z1,z2,_⟩:=vn c d oI (le_refl _);refine⟨.slice a' (n+d.n) (cap - lo),w',gB ht hi hzero src.len (src.first w rfl) (by omega) (λx hx=> ?_) (λhx=> ?_), ?_⟩;refine k1 a cap _ g1 ?_;by_cases h0:d.n=0;exact .inl h0;refine .inr ?_;have cP:cap≠lo:=by omega
 rw[g4 cP]at hx;obtain⟨b,o,rfl⟩:=g5 (by omega);simp only[map_some,bc,Option.some.injEq]at hx ⊢;subst hx;rw[bc,qW,add_mul,add_assoc];refine k2 ?_;by_cases cP:cap=lo;omega;rw[g4 cP]at hx;obtain⟨b,o,rfl⟩:=g5 (by omega);cases hx;simp only[gb];refine k3 _ _ (λw2=> ?_);unfold af aN;refine⟨rfl,.vec (dI c (lo+n) d.n d) e',by simp[aB],λc1 e1 hc=> ?_⟩;cases hc;exact⟨by rw[z1];omega,a,cap,a',by rw[z1];exact g1,by omega,rfl,by rw[z2];exact g4⟩;cases h1;cases h1;cases h1;cases h1;cases h;cases h;cases h
end
section
variable{P:Program}{w:World}{b:Nat}{es:Array MapEntry}{clock:Nat}{ck:CK}{m:List (Int×ck.V)}
theorem jx.get(h:jx ck m es.toList clock){j:Nat}{e:MapEntry}(hj:es.toList[j]? =some e):∃k v,m[j]? =some (k,v)/\e.key=.int .i64 k/\e.val=ck.val v:=by
 have h1:=congrArg (λl=>l[j]?) h.eq;simp only[getElem?_map,hj,map_some]at h1;cases hm:m[j]? with
 |none=>rw[hm]at h1;cases h1
 |some p=>
  rw[hm]at h1;simp only[map_some,Option.some.injEq,Prod.mk.injEq]at h1;exact⟨p.1,p.2,rfl,h1.1,h1.2⟩
theorem jx.key(h:jx ck m es.toList clock):∀e∈es.toList,MapKept.IsKey (.int .i64) e.key:=by
 intro e he;have⟨j,hj⟩:=List.getElem?_of_mem he;have⟨k,v,_,h2,_⟩:=h.get hj;rw[h2];rfl
theorem qX{V:Type}:∀{m:List (Int×V)} {j:Nat} {k:Int} {v:V},(m.map (·.1)).Nodup->m[j]? =some (k,v)->m.find? (λp=>p.1==k)=some (k,v)
 |[],j,k,v,_,h=>by simp at h
 |p::m,0,k,v,hn,h=>by
  simp only[List.getElem?_cons_zero,Option.some.injEq]at h;subst h;simp
 |p::m,j+1,k,v,hn,h=>by
  simp only[List.getElem?_cons_succ]at h;simp only[map_cons,List.nodup_cons]at hn
  have cP:(p.1==k)=false:=by
   rw[beq_eq_false_iff_ne];rintro rfl;exact hn.1 (mem_map.2 ⟨_,List.mem_of_getElem? h,rfl⟩)
  rw[List.find?_cons,cP];exact qX hn.2 h
theorem ajJ{V:Type}{m:List (Int×V)}{k:Int}(h:∀p∈m,p.1≠k):m.find? (λp=>p.1==k)=none:=
 List.find?_eq_none.2 λp hp=>by simpa using h p hp
theorem jx.find(h:jx ck m es.toList clock){kt:TypeId}(hk:P.underlying kt=some (.int .i64))(n:Int):
 ((Instr.findKey kt (.int .i64 n) es.toList).run P w=.ok none w/\cp m n=none/\oe m n=false)\/
 ∃j e v,(Instr.findKey kt (.int .i64 n) es.toList).run P w=.ok (some (j,ck.val v)) w/\es.toList[j]? =some e/\e.key=.int .i64 n/\e.val=ck.val v/\m[j]? =some (n,v)/\cp m n=some v/\oe m n=true:=by
 rcases MapKept.findNow_spec (d:=.int .i64) (k:=.int .i64 n) rfl es.toList 0 h.key with⟨h1,h2⟩|⟨j,e,h1,h2,h3⟩
 have uc:∀p∈m,p.1≠n:=by
  intro p hp e;have⟨j,hj⟩:=List.getElem?_of_mem hp;have bB:es.toList.length=m.length:=by have:=congrArg List.length h.eq;simpa using this
  have bo:j<es.toList.length:=by rw[bB];exact(List.getElem?_eq_some_iff.1 hj).1
  have⟨k,v,g1,g2,_⟩:=h.get (getElem?_eq_getElem bo);rw[hj]at g1;cases g1;exact h2 _ (getElem_mem bo) (by rw[g2];exact congrArg _ e)
 refine .inl ⟨MapKept.run_findKey hk h1,by simp[cp,ajJ uc], ?_⟩;simp only[oe,List.any_eq_false,beq_iff_eq];exact uc;have⟨k,v,g1,g2,g3⟩:=h.get h2;rw[h3]at g2;cases g2;rw[zero_add]at h1;refine .inr ⟨j,e,v,by rw[<-g3];exact MapKept.run_findKey hk h1,h2,h3,g3,g1,by simp[cp,qX h.keys g1], ?_⟩;simp only[oe,List.any_eq_true,beq_iff_eq];exact⟨_,List.mem_of_getElem? g1,rfl⟩
theorem af0(h:jx ck m es.toList clock)(hb:w.heap[b]? =some (.map es clock)){t kt et:TypeId}(ht:P.underlying t=some (.map kt et))(hk:P.underlying kt=some (.int .i64)){z:Value}(hz:(zeroValue et).run P w=.ok z w)(n:Int)(ok:Bool):
 (Instr.lookup t (.map (some b)) (.int .i64 n) ok).run P w=.ok (if ok=true then .tuple #[((cp m n).map ck.val).getD z,.bool (oe m n)]else((cp m n).map ck.val).getD z) w:=by
 have hc:=MapKept.run_checkKey (w:=w) hk (k:=.int .i64 n) rfl es.isEmpty 9999;rcases h.find (w:=w) hk n with⟨h1,h2,h3⟩|⟨j,e,v,h1,_,_,_,_,h2,h3⟩;simp[Instr.lookup,run_underlying ht,MapKept.run_getObj_map hb,hc,h1,h2,h3,hz,Result.andThen];simp[Instr.lookup,run_underlying ht,MapKept.run_getObj_map hb,hc,h1,h2,h3,Result.andThen]
theorem stays(n:Int):(Instr.keyThatStays (.int .i64 n) (.int .i64 n)).run P w=.ok (.int .i64 n) w:=by
 simp[Instr.keyThatStays,Instr.sameBits]
theorem rU(m:List (Int×ck.V))(k:Int)(v:ck.V):((m.map λp=>if p.1==k then(k,v)else p).map (·.1))=m.map (·.1):=by
 rw[List.map_map];refine List.map_congr_left λp _=> ?_;simp only[Function.comp];by_cases h:p.1==k;rw[if_pos h];exact(beq_iff_eq.1 h).symm;rw[if_neg h]
theorem jx.put(h:jx ck m es.toList clock){n:Int}{v:ck.V}(hv:ck.fits v):
 (oe m n=false->jx ck (mm m n v) (es.push {key:=.int .i64 n,val:=ck.val v,born:=clock}).toList (clock+1))/\
 ∀(j:Nat) (e:MapEntry),es.toList[j]? =some e->e.key=.int .i64 n->oe m n=true->
  jx ck (mm m n v) (es.modify j λe=>{e with key:=.int .i64 n,val:=ck.val v}).toList clock:=by
 constructor;intro uc;have azg:∀p∈m,p.1≠n:=by simpa[oe]using uc
 unfold mm;rw[if_neg (by rw[uc];simp)];refine⟨?_, ?_, ?_, ?_, ?_⟩;simp only[Array.toList_push,map_append,h.eq,map_cons,map_nil];rw[map_append,nodup_append];refine⟨h.keys,by simp,λa ha b hb=> ?_⟩;simp only[map_cons,map_nil,mem_singleton]at hb;obtain⟨p,hp,rfl⟩:=mem_map.1 ha;rw[hb];exact azg p hp;rw[Array.toList_push,map_append,nodup_append];refine⟨h.w5,by simp,λa ha b hb=> ?_⟩;simp only[map_cons,map_nil,mem_singleton]at hb;obtain⟨e,he,rfl⟩:=mem_map.1 ha;have:=h.old e he;omega;intro e he;rw[Array.toList_push,mem_append]at he;rcases he with he|he;have:=h.old e he;omega;rw[mem_singleton.1 he];exact Nat.lt_succ_self _;intro p hp;rcases mem_append.1 hp with hp|hp;exact h.fits p hp;rw[mem_singleton.1 hp];exact hv;intro j e hj he azh;have⟨k,u,g1,g2,g3⟩:=h.get hj;rw[he]at g2;cases g2;have bo:j<es.toList.length:=(List.getElem?_eq_some_iff.1 hj).1;unfold mm;rw[if_pos azh]
 have azi:(es.modify j λe=>{e with key:=.int .i64 n,val:=ck.val v}).toList=es.toList.set j {e with key:=.int .i64 n,val:=ck.val v}:=by
  refine List.ext_getElem? λi=> ?_;simp only[Array.toList_modify,List.getElem?_modify,getElem?_set];by_cases ma:j=i;subst ma;have atQ:j<es.size:=by simpa using bo
  rw[hj];simp[atQ];simp[ma]
 rw[azi]
 have oD:(m.map λp=>if p.1==n then(n,v)else p)=m.set j (n,v):=by
  refine List.ext_getElem? λi=> ?_;rw[getElem?_map,getElem?_set];by_cases ma:j=i;subst ma;have atW:j<m.length:=(List.getElem?_eq_some_iff.1 g1).1;rw[g1];simp[atW];rw[if_neg ma];cases hm:m[i]? with
  |none=>rfl|some p=>
   have cP:(p.1==n)=false:=by
    rw[beq_eq_false_iff_ne];intro e1;have⟨hi1,hi2⟩:=List.getElem?_eq_some_iff.1 hm;have⟨hj1,wj⟩:=List.getElem?_eq_some_iff.1 g1;refine ma ((List.getElem_inj (h₀:=by simpa using hj1) (h₁:=by simpa using hi1) h.keys).1 ?_);simp only[List.getElem_map,hi2,wj,e1]
   rw[map_some,cP];rfl
 refine⟨?_,by rw[rU];exact h.keys, ?_, ?_, ?_⟩;rw[oD,List.map_set,List.map_set,h.eq];rw[List.map_set]
 have:(es.toList.map (·.born)).set j e.born=es.toList.map (·.born):=by
  refine List.ext_getElem? λi=> ?_;rw[getElem?_set];by_cases ma:j=i;subst ma;rw[if_pos rfl,if_pos (by simpa using bo),getElem?_map,hj];rfl;rw[if_neg ma]
 rw[this];exact h.w5;intro x hx;rcases List.mem_or_eq_of_mem_set hx with hx|rfl;exact h.old x hx;exact h.old e (List.mem_of_getElem? hj);intro p hp;obtain⟨q,hq,rfl⟩:=mem_map.1 hp;split;exact hv;exact h.fits q hq
theorem zx(h:jx ck m es.toList clock)(hb:w.heap[b]? =some (.map es clock)){t kt et:TypeId}(ht:P.underlying t=some (.map kt et))(hk:P.underlying kt=some (.int .i64))(n:Int){v:ck.V}(hv:ck.fits v):
 ∃mE xm,(Instr.mapUpdate t (.map (some b)) (.int .i64 n) (ck.val v)).run P w=.ok () {w with heap:=w.heap.setIfInBounds b (.map mE xm)}/\jx ck (mm m n v) mE.toList xm:=by
 have hc:=MapKept.run_checkKey (w:=w) hk (k:=.int .i64 n) rfl false 9999;rcases h.find (w:=w) hk n with⟨h1,h2,h3⟩|⟨j,e,u,h1,g1,g2,g3,g4,h2,h3⟩;exact⟨_,_,by simp[Instr.mapUpdate,run_underlying ht,MapKept.run_getObj_map hb,hc,h1,Result.andThen,MapKept.run_setObj_map _ hb],(h.put hv).1 h3⟩
 have azj:((es[j]?).map (·.key)).getD (.int .i64 n)=.int .i64 n:=by
  rw[show es[j]? =some e from by rw[<-Array.getElem?_toList];exact g1];exact g2
 refine⟨_,_, ?_,(h.put hv).2 j e g1 g2 h3⟩;simp[Instr.mapUpdate,run_underlying ht,MapKept.run_getObj_map hb,hc,h1,Result.andThen,MapKept.run_setObj_map _ hb,azj,stays]
end
section
variable{ρ aL:Nat->Value}{H H':aS}{G O O':Nat->Prop}{w w':World}{P:Program}
theorem ac2{t:TypeId}(h:ahm P t=true):P.underlying t=some (.int .i64):=by
 unfold ahm at h;split at h;assumption;cases h
theorem ajK{t:TypeId}{ck:CK}(h:wZ P t ck=true):(zeroValue t).run P w=.ok (ck.val ck.d) w/\ck.fits ck.d:=by
 have key:∀v,(P.info? t).bind (·.zero)=some v->(zeroValue t).run P w=.ok v w:=by
  intro v hv;have⟨i,h1,h2⟩:=bind_eq_some_iff.1 hv;simp[zeroValue,typeInfo,h1,h2]
 unfold wZ at h;rw[and_eq_true]at h
 replace h:=h.2
 split at h;rename_i k' k hz;obtain rfl:=bt h;exact⟨key _ hz,trivial⟩;rename_i hz;exact⟨key _ hz,trivial⟩;rename_i s hz
 have:s=empty:=by
  have:=Nat.eq_of_beq_eq_true h;have⟨⟨l⟩⟩:=s;cases l with
  |nil=>rfl|cons a l=>simp[ByteArray.size]at this
 subst this;exact⟨key _ hz,trivial⟩;rename_i cs k n hz;simp only[and_eq_true]at h;have h1:=oF k _ h.1;have h2:=Nat.eq_of_beq_eq_true h.2;refine⟨?_,by show(replicate n (0:Int)).length=n;simp⟩;rw[key _ hz];congr 1;show Value.agg cs=.agg ((replicate n (0:Int)).map (Value.int k)).toArray;rw[<-h2,<-h1];cases h
theorem abx{ck:CK}{v:ck.V}(h:ck.fits v)(hp:ck.av v≠.s .aY):af ρ H O w (ck.av v) (ck.val v):=by
 cases ck with
 |int k=>exact aE (.int _ _)|bool=>exact aE (.bool _)|str=>exact aE (.str _)|arr k n=>
  show af ρ H O w (.ah k n v) _;unfold af;exact⟨h,rfl⟩
 |_=>exact(hp rfl).elim
theorem rV{t:TypeId}{ck:CK}(h:wZ P t ck=true)(v:ck.V):ck.av v≠.s .aY:=by
 unfold wZ at h;rw[and_eq_true]at h
 replace h:=h.1
 cases ck<;>first
  |(cases h;done)
  |(intro e;cases e;done)
theorem aby(hs:Sat ρ H G w){id b:Nat}{ck:CK}{m:List (Int×ck.V)}(ho:H id=some (.map ck m))(hb:ρ id=.map (some b)):∃es clock,w.heap[b]? =some (.map es clock)/\jx ck m es.toList clock:=by
 have⟨b',es,clock,h1,h2,h3⟩:=hs.obj id _ ho;rw[hb]at h1;cases h1;exact⟨es,clock,h2,h3⟩
theorem ajL{ck:CK}{m:List (Int×ck.V)}(h:∀p∈m,ck.fits p.2){n:Int}{v:ck.V}(hv:cp m n=some v):ck.fits v:=by
 simp only[cp,map_eq_some_iff]at hv;obtain⟨p,hp,rfl⟩:=hv;exact h p (List.mem_of_find?_eq_some hp)
theorem af1{t:TypeId}{x i:AV}{ok:Bool}{vx vi:Value}{q:bQ}(h:(abe P t x i ok).eval H=some q)(hn:bJ q.ab)(hs:Sat ρ H G w)(hx:af ρ H (aV ρ H G) w x vx)(hi:af ρ H (aV ρ H G) w i vi):
 fz P ρ H (aV ρ H G) w q (Instr.lookup t vx vi ok):=by
 unfold abe at h;split at h;rename_i kt et id k lit n ht oz;rw[cond_eq_ite]at h;split at h;rename_i hk;simp only[and_eq_true]at hk;obtain rfl:=oq hk.2;obtain rfl:=ch oz hi;simp only[RM.eval]at h;split at h;rename_i ck m ho;rw[cond_eq_ite]at h;split at h;rename_i hz;unfold af aN at hx;obtain⟨b,hb,rfl,_⟩:=hx;have⟨es,clock,h1,h2⟩:=aby hs ho hb;have⟨hz1,hz2⟩:=ajK (w:=w) hz;have jb:=af0 h2 h1 ht (ac2 hk.1) hz1 n ok
 have kU:af ρ H (aV ρ H G) w (ck.av ((cp m n).getD ck.d)) (((cp m n).map ck.val).getD (ck.val ck.d)):=by
  cases hg:cp m n with
  |none=>exact abx hz2 (rV hz _)|some v=>exact abx (ajL h2.fits hg) (rV hz _)
 refine aO h (λ_=>⟨_,jb, ?_⟩) hn;cases ok;exact kU;simp only[cond_true,if_true];unfold af;exact⟨[_,_],rfl,aD.2 ⟨_,_,rfl,kU,aD.2 ⟨_,_,rfl,aE (.bool _),a8.2 rfl⟩⟩⟩;cases h;cases h;cases h;cases h
theorem atX{ck:CK}{a:AV}{y:ck.V}{v:Value}(h:ck.rdv a=some y)(hd:af ρ H O w a v):v=ck.val y/\ck.fits y:=by
 cases ck with
 |int k=>
  simp only[CK.rdv]at h;split at h;rw[cond_eq_ite]at h;split at h;rename_i hk;obtain rfl:=bt hk;cases h;have:=ax (by simp) hd;cases this;exact⟨rfl,trivial⟩;cases h;rw[cond_eq_ite]at h;split at h;rename_i hk;obtain rfl:=bt hk;cases h;have:=ax (by simp) hd;cases this;exact⟨rfl,trivial⟩;cases h;cases h
 |bool=>
  simp only[CK.rdv]at h;split at h;cases h;have:=ax (by simp) hd;cases this;exact⟨rfl,trivial⟩;cases h;have:=ax (by simp) hd;cases this;exact⟨rfl,trivial⟩;cases h
 |str=>
  simp only[CK.rdv]at h;split at h;cases h;have:=ax (by simp) hd;cases this;exact⟨rfl,trivial⟩;cases h
 |arr k n=>
  simp only[CK.rdv]at h;split at h;rw[cond_eq_ite]at h;split at h;rename_i hk;simp only[and_eq_true]at hk;obtain rfl:=bt hk.1;obtain rfl:=Nat.eq_of_beq_eq_true hk.2;cases h;unfold af at hd;exact⟨hd.2,hd.1⟩;cases h;cases h
 |_=>cases h
theorem qu{t:TypeId}{x i a:AV}{vx vi va:Value}{q:bQ}(h:(qQ P t x i a).eval H=some q)(hs:Sat ρ H G w)(hx:af ρ H (aV ρ H G) w x vx)(hi:af ρ H (aV ρ H G) w i vi)(ha:af ρ H (aV ρ H G) w a va):
 ∃w',(Instr.mapUpdate t vx vi va).run P w=.ok () w'/\∀base,Good ρ H G w (cY H q.up base q.new) (q.r base) undef w':=by
 unfold qQ at h;split at h;rename_i kt et id k lit n ht oz;rw[cond_eq_ite]at h;split at h;rename_i hk;simp only[and_eq_true]at hk;obtain rfl:=oq hk.2;obtain rfl:=ch oz hi;simp only[RM.eval]at h;split at h;rename_i ck m ho;split at h;rename_i y hy;simp only[RM.eval,Option.some.injEq]at h;subst h;obtain⟨rfl,hf⟩:=atX hy ha;unfold af aN at hx;obtain⟨b,hb,rfl,_⟩:=hx;have⟨es,clock,h1,h2⟩:=aby hs ho hb;have⟨mE,xm,h3,h4⟩:=zx h2 h1 ht (ac2 hk.1) n hf;refine⟨_,h3,λbase=> ?_⟩;simp only[gb];exact Good.write hs ho rfl rfl (by rw[hb];rfl) (λ_ _ hc=>by cases hc) ⟨b,mE,xm,hb,eh h1,h4⟩ cz;cases h;cases h;cases h;cases h
theorem ac3{t:TypeId}{r:Option AV}{q:bQ}(h:(w4 P t r).eval H=some q)(hs:Sat ρ H G w){base:Nat}(hb:∀i,i<q.new.length->H (base+i)=none):
 r=none/\∃v w',(Instr.makeMap t none).run P w=.ok v w'/\Good ρ H G w (cY H q.up base q.new) (q.r base) v w':=by
 unfold w4 at h;split at h;split at h;rename_i ck _;simp only[RM.eval,Option.some.injEq]at h;subst h;have hn:H base=none:=by simpa using hb 0 (by simp)
 refine⟨rfl,.map (some w.heap.size),w.alloc (.map #[] 0),RowKit.run_makeMap .., ?_⟩;simp only[jB];refine Good.fresh hs hn (aa:=.map (some w.heap.size)) (w1:=w) rfl rfl rfl rfl (λb hb=>by simpa[eW]using hb.symm) ⟨w.heap.size,#[],0,rfl,(MapKept.heap_alloc w _).1,⟨rfl,by simp,by simp,by simp,by simp⟩⟩ ?_;unfold af aN;exact⟨w.heap.size,by simp,rfl,by simp[aB]⟩;cases h;cases h
end
section
variable{ρ aL:Nat->Value}{H H':aS}{G O O':Nat->Prop}{w w':World}{P:Program}
structure atY (P:Program) (O:Nat->Prop) (w:World) (size k:Nat) (d:aU) (v:Value) (bM:List Value):Prop where
 length:bM.length=k*size
 first:(Builtin.firstCells size k v).run P w=.ok bM.toArray w
 one:∀u∈bM,u.oneCell'=true
 den:∀i j,i<k->j<size->∃u,bM[i*size+j]? =some u/\aW O w (d.cell i j) u
theorem alx{size k:Nat}{d:aU}{v:Value}(h:qU O w d v)(hs:d.size=size)(h1:1<=size)(hk:k<=d.n):∃bM,atY P O w size k d v bM:=by
 obtain⟨a,cap,us,rfl,g1,g2,g3⟩:=h;have hn:(dS d 0 k).n=k:=by rw[pL d (zero_le _) hk];omega
 have bU:=kf d 0 k;have oG:∀i j,i<k->(dS d 0 k).cell i j=d.cell i j:=λi j hi=>by rw[kg d j (by omega),zero_add]
 have hr:qU O w (dS d 0 k) (.slice a k cap):=by
  refine⟨a,cap,us,by rw[hn],by rw[hn];omega,g2,λh0=> ?_⟩;rw[hn]at h0;have⟨b,o,e1,e2,e3⟩:=g3 (by omega);refine⟨b,o,e1,e2,λi j hi hj=> ?_⟩;rw[hn]at hi;rw[bU]at hj ⊢;rw[oG i j hi];exact e3 i j (by omega) hj
 have⟨bM,src⟩:=wg (P:=P) hr (by rw[bU];exact hs) h1;refine⟨bM,by rw[src.length,hn], ?_,src.one,λi j hi hj=> ?_⟩;have:=src.first w rfl;rw[hn]at this;rw[<-this];cases a<;>rfl;have⟨u,e1,e2⟩:=src.den i j (by rw[hn];exact hi) hj;rw[oG i j hi]at e2;exact⟨u,e1,e2⟩
theorem aly{s:ByteArray}{k:Nat}(hk:k<=s.data.toList.length):∃bM,atY P O w 1 k (.ah .u8 (s.data.toList.map λb=>(b.toNat:Int))) (.string s) bM:=by
 refine⟨(s.data.toList.take k).map λb=>.int .u8 b.toNat,by rw[length_map,length_take];omega, ?_,λu hu=> ?_,λi j hi hj=> ?_⟩;simp only[Builtin.firstCells,Sem.run_pure];congr 1;apply toList_inj.1;rw[Array.toList_map];simp[ByteArray.data_extract];obtain⟨b,_,rfl⟩:=mem_map.1 hu;rfl;obtain rfl:j=0:=by omega
 have fq:i<s.data.toList.length:=by omega
 refine⟨.int .u8 (s.data.toList[i].toNat),by rw[Nat.mul_one,add_zero,getElem?_map,getElem?_take,if_pos hi,getElem?_eq_getElem fq];rfl, ?_⟩;simp only[aU.cell]
 have:(s.data.toList.map λb=>((b.toNat:Nat):Int)).getD i 0=(s.data.toList[i].toNat:Int):=by
  rw[List.getD,getElem?_map,getElem?_eq_getElem fq];rfl
 rw[this];exact .int _ _
theorem ajM{sh:Shape}{size:Nat}{x:AV}{k:aU->Option Nat->RM bQ}{v:Value}{q:bQ}(h:(z8 sh size x k).eval H=some q)(hs:Sat ρ H G w)(hd:af ρ H (aV ρ H G) w x v)(h1:1<=size):
 ∃c idy,(k c idy).eval H=some q/\(c.size=size->(Builtin.lenOf v).run P w=.ok c.n w/\∀m,m<=c.n->∃bM,atY P (aV ρ H G) w size m c v bM):=by
 unfold z8 at h;split at h;rename_i s;obtain rfl:=fH hd;refine⟨_,_,h,λbU=> ?_⟩;simp only[aU.size]at bU;subst bU;refine⟨by simp[Builtin.lenOf,aU.n],λm hm=>aly (by simpa[aU.n]using hm)⟩;have⟨c,idy,h2,h3⟩:=xd h hs hd;refine⟨c,idy,h2,λbU=>⟨?_,λm hm=>alx h3 bU h1 hm⟩⟩;obtain⟨a,cap,us,rfl,_⟩:=h3;simp[Builtin.lenOf]
theorem mF{t t' ty e:TypeId}{sz:Nat}{a:Option Addr}{n cap m:Nat}{vy:Value}{bM:List Value}(ht:P.underlying t=some (.slice e))(hs:dX P e=some sz)
 (bB:(Builtin.lenOf vy).run P w=.ok m w) (kT:(Builtin.firstCells sz (min m n) vy).run P w=.ok bM.toArray w)
 (ni:∀x,a=some x->(storeCells x bM 0).run P w=.ok () w') (uc:a=none->w'=w):
 (Builtin.copy_ #[t,t'] ty #[.slice a n cap,vy]).run P w=.ok (.int .i64 ((min m n:Nat):Int)) w':=by
 have hf:(Builtin.firstCells sz (Nat.min m n) vy).run P w=.ok bM.toArray w:=kT;cases a with
 |none=>
  rw[uc rfl];simp[Builtin.copy_,run_underlying ht,run_sizeOf hs,bB,hf];rfl
 |some x=>
  have:=ni x rfl;simp[Builtin.copy_,run_underlying ht,run_sizeOf hs,bB,hf,this];rfl
theorem alz{t t' ty:TypeId}{x y:AV}{vx vy:Value}{q:bQ}(h:(ale P t x y).eval H=some q)(hs:Sat ρ H G w)
 (hx:af ρ H (aV ρ H G) w x vx) (hy:af ρ H (aV ρ H G) w y vy):
 ∃v w',(Builtin.copy_ #[t,t'] ty #[vx,vy]).run P w=.ok v w'/\∀base,Good ρ H G w (cY H q.up base q.new) (q.r base) v w':=by
 unfold ale at h;split at h;rename_i e ht;split at h;rename_i sz bU;rw[cond_eq_ite]at h;split at h;rename_i h1;have h1:=le_of_ble_eq_true h1;have⟨d,idy,h2,qh⟩:=ajM (P:=P) h hs hy h1;rw[cond_eq_ite]at h2;split at h2;rename_i hds;have hds:d.size=sz:=by simpa using hds
 have⟨bB,j8⟩:=qh hds;split at h2;rename_i id;simp only[RM.eval]at h2;split at h2;rename_i c e' ho;rw[cond_eq_ite]at h2;split at h2;rename_i qW;have qW:c.size=sz:=by simpa using qW
 simp only[RM.eval,Option.some.injEq]at h2;subst h2;have⟨bM,src⟩:=j8 (min d.n c.n) (Nat.min_le_left _ _);obtain⟨a,cap,rfl,hr,hle,_⟩:=iz hs ho hx;have dT:=hs.obj id _ ho;rw[hr]at dT;have⟨a2,qT,g1,_,_,g4⟩:=dT;cases g1;have⟨w',k1,k2,k3⟩:=rT (P:=P) hs ho (lo:=0) (k:=min d.n c.n) (d:=d) (by omega) (by omega) (by omega) (bM:=bM) (by rw[src.length,qW]) src.one (λi' j' fq kj=>by rw[qW]at *;exact src.den i' j' fq kj);refine⟨_,w',mF ht bU bB src.first (λx hx=> ?_) (λhx=> ?_),λbase=> ?_⟩;refine k1 a cap _ hr ?_;subst hx;rcases g4 with g4|⟨b,o,_,_,_,g5,_⟩;exact .inl (by omega);cases g5;exact .inr (by simp[bc]);refine k2 ?_;subst hx;rcases g4 with g4|⟨b,o,_,_,_,g5,_⟩;omega;cases g5;simp only[gb];exact k3 _ _ (λw2=>aE (.int _ _));cases h2;cases h2
 rename_i id lo n;simp only[RM.eval]at h2;split at h2;rename_i c e' ho;rw[cond_eq_ite]at h2;split at h2;rename_i qW;have qW:c.size=sz:=by simpa using qW
 simp only[RM.eval,Option.some.injEq]at h2;subst h2;have⟨bM,src⟩:=j8 (min d.n n) (Nat.min_le_left _ _);obtain⟨g0,a,cap,a',g1,g2,g3,rfl,g4,g5⟩:=jA hs ho hx;have⟨w',k1,k2,k3⟩:=rT (P:=P) hs ho (lo:=lo) (k:=min d.n n) (d:=d) (by omega) (by omega) (by omega) (bM:=bM) (by rw[src.length,qW]) src.one (λi' j' fq kj=>by rw[qW]at *;exact src.den i' j' fq kj);refine⟨_,w',mF ht bU bB src.first (λx hx=> ?_) (λhx=> ?_),λbase=> ?_⟩;refine k1 a cap _ g1 ?_;by_cases cP:cap=lo;exact .inl (by omega);exact .inr (by rw[<-g4 cP];exact hx);refine k2 ?_;by_cases cP:cap=lo;omega;rw[g4 cP]at hx;obtain⟨b,o,rfl⟩:=g5 (by omega);cases hx;simp only[gb];exact k3 _ _ (λw2=>aE (.int _ _));cases h2;cases h2;cases h2;cases h2;cases h;cases h;cases h
theorem mG(sh:Shape)(n:Nat):(dJ sh n).n=n:=by cases sh<;>simp[dJ,aU.n]
theorem abz(sh:Shape)(n m:Nat):(dJ sh n).size=(dJ sh m).size:=by cases sh<;>rfl
theorem abA(sh:Shape){n i:Nat}(j:Nat)(hi:i<n):(dJ sh n).cell i j=(dJ sh 1).cell 0 j:=by
 cases sh<;>simp only[dJ,aU.cell,List.getD,List.getElem?_replicate,hi,Nat.zero_lt_one,if_true]
theorem apE{x:SV}{v:Value}(h:atG x v=true):aW O w x v:=by
 unfold atG at h;split at h;simp only[and_eq_true,beq_iff_eq]at h;obtain⟨h1,rfl⟩:=h;obtain rfl:=bt h1;exact .int _ _;simp only[beq_iff_eq]at h;subst h;exact .bool _;rename_i s s';simp only[and_eq_true,beq_eq]at h
 have e:∀t:ByteArray,t.size=0->t=empty:=λt ht=>by
  cases t with
  |mk d=>
   have:d= #[]:=Array.size_eq_zero_iff.1 ht;subst this;rfl
 rw[e s h.1,e s' h.2];exact .str _;rename_i c;have h:c.n=0:=by simpa using h
 have:=aW.ro (O:=O) (w:=w) c none 0 (λ_ _=>undef) 0 0 (by omega) (zero_le _) (λh=>by omega) (λi j hi hj=>by omega) (λi j hi hj=>by omega);rwa[h]at this;cases h
theorem lT{sh:Shape}{z:List Value}(h:gA sh z=true)(n:Nat):(dJ sh n).size=z.length/\∀i j,i<n->j<z.length->∃u,z[j]? =some u/\aW O w ((dJ sh n).cell i j) u:=by
 simp only[gA,and_eq_true,beq_eq,all_eq_true,mem_range]at h;refine⟨by rw[abz sh n 1];exact h.1,λi j hi hj=>⟨z[j],getElem?_eq_getElem hj, ?_⟩⟩;rw[abA sh j hi];have:=apE (O:=O) (w:=w) (h.2 j hj);simpa[List.getD,getElem?_eq_getElem hj]using this
theorem mc{z:Array Value}(n:Nat){i j:Nat}(hi:i<n)(hj:j<z.size):(Builtin.zeroCells z n).toList[i*z.size+j]? =z.toList[j]? :=by
 have bo:i*z.size+j<n*z.size:=by
  have:(i+1)*z.size<=n*z.size:=Nat.mul_le_mul_right _ (by omega);rw[Nat.succ_mul]at this;omega
 have e2:(i*z.size+j)%z.size=j:=by rw[Nat.mul_comm,Nat.mul_add_mod,Nat.mod_eq_of_lt hj]
 simp[Builtin.zeroCells,bo,e2,hj]
theorem alA{z:List Value}{sh:Shape}(h:gA sh z=true):∀u∈z,u.oneCell'=true:=by
 intro u hu;obtain⟨j,hj,rfl⟩:=List.getElem_of_mem hu;have⟨_,h2⟩:=lT (O:=λ_=>False) (w:=default) h 1;have⟨u,e1,e2⟩:=h2 0 j (by omega) hj;rw[getElem?_eq_getElem hj]at e1;cases e1;exact e2.one
theorem jo{z:Array Value}{sh:Shape}(h:gA sh z.toList=true)(n:Nat):∀u∈(Builtin.zeroCells z n).toList,u.oneCell'=true:=by
 intro u hu;simp only[Builtin.zeroCells,Array.toList_map,Array.toList_range,mem_map,mem_range]at hu;obtain⟨m,hm,rfl⟩:=hu
 have hp:0<z.size:=by
  rcases Nat.eq_zero_or_pos z.size with h0|h0;rw[h0]at hm;omega;exact h0
 have bo:m%z.size<z.size:=Nat.mod_lt _ hp;rw[getElem!_pos z (m%z.size) bo];exact alA h _ (Array.mem_toList_iff.2 (Array.getElem_mem bo))
theorem ajN{t e ty:TypeId}{z:Value}(ht:P.underlying t=some (.slice e))(hz:∀w,(zeroValue e).run P w=.ok z w){a:Option Addr}{n cap:Nat}(ni:∀x,a=some x->(storeCells x (Builtin.zeroCells z.cells n).toList 0).run P w=.ok () w')
 (uc:(a=none\/n=0)->w'=w):(Builtin.clear_ #[t] ty #[.slice a n cap]).run P w=.ok (.tuple #[]) w':=by
 cases a with
 |none=>
  rw[uc (.inl rfl)];simp[Builtin.clear_,run_underlying ht]
 |some x=>
  cases n with
  |zero=>
   rw[uc (.inr rfl)];simp[Builtin.clear_,run_underlying ht]
  |succ n=>
   have:=ni x rfl;simp[Builtin.clear_,run_underlying ht,hz,this]
theorem ajO{t ty:TypeId}{ts:List TypeId}{x:AV}{vx:Value}{q:bQ}(h:(afL P t x).eval H=some q)(hs:Sat ρ H G w)(hx:af ρ H (aV ρ H G) w x vx):
 ∃v w',(Builtin.clear_ (t::ts).toArray ty #[vx]).run P w=.ok v w'/\∀base,Good ρ H G w (cY H q.up base q.new) (q.r base) v w':=by
 have hts:(Builtin.clear_ (t::ts).toArray ty #[vx])=(Builtin.clear_ #[t] ty #[vx]):=by
  simp[Builtin.clear_]
 rw[hts];unfold afL at h;split at h;rename_i e id lo n ht;split at h;rename_i i hi;rw[cond_eq_ite]at h;split at h;rename_i hc;simp only[and_eq_true]at hc;have⟨c1,c2⟩:=hc;have c1:=le_of_ble_eq_true c1
 obtain⟨z,hz,hzf,hzs⟩:∃z,i.zero=some z/\gA (shapeOf P e) z.cells.toList=true/\z.cells.size=i.size:=by
  cases hz:i.zero with
  |none=>simp[hz]at c2|some z=>
   simp only[hz,Option.any_some,and_eq_true,beq_iff_eq]at c2;exact⟨z,rfl,c2.1,c2.2⟩
 have hzv:∀w,(zeroValue e).run P w=.ok z w:=λw=>by simp[zeroValue,typeInfo,hi,hz]
 simp only[RM.eval]at h;split at h;rename_i c e' ho;rw[cond_eq_ite]at h;split at h;rename_i qW;have qW:c.size=i.size:=by simpa using qW
 simp only[RM.eval,Option.some.injEq]at h;subst h;obtain⟨g0,a,cap,a',g1,g2,g3,rfl,g4,g5⟩:=jA hs ho hx;have⟨y1,y2⟩:=lT (O:=aV ρ H G) (w:=w) hzf n
 have⟨w',k1,k2,k3⟩:=rT (P:=P) hs ho (lo:=lo) (k:=n) (d:=dJ (shapeOf P e) n) (by omega) (by rw[mG];exact le_refl _) (by omega) (bM:=(Builtin.zeroCells z.cells n).toList) (by rw[length_toList,size_zeroCells,hzs,qW]) (jo hzf n) (λi' j' fq kj=>by
  rw[qW]at kj ⊢;have⟨u,e1,e2⟩:=y2 i' j' fq (by rw[length_toList,hzs];exact kj);refine⟨u, ?_,e2⟩;rw[<-hzs,mc n fq (by omega)];exact e1)
 refine⟨_,w',ajN ht hzv (λx hx=> ?_) (λhx=> ?_),λbase=> ?_⟩;refine k1 a cap _ g1 ?_;by_cases cP:cap=lo;exact .inl (by omega);exact .inr (by rw[<-g4 cP];exact hx);refine k2 ?_;rcases hx with hx|hx;by_cases cP:cap=lo;omega;rw[g4 cP]at hx;obtain⟨b,o,rfl⟩:=g5 (by omega);cases hx;exact hx;simp only[gb];exact k3 _ _ (λw2=>cz);cases h;cases h;cases h;cases h;rename_i kt et id ht;simp only[RM.eval]at h;split at h;rename_i ck m ho;simp only[RM.eval,Option.some.injEq]at h;subst h;unfold af aN at hx;obtain⟨b,hb,rfl,_⟩:=hx;have⟨es,clock,h1,h2⟩:=aby hs ho hb;refine⟨.tuple #[],World.cD w b (.map #[] clock), ?_,λbase=> ?_⟩;have e1:(getObj b).run P w=.ok (.map es clock) w:=by simp[getObj,Sem.run,h1]
 have e2:(setObj b (.map #[] clock)).run P w=.ok () (World.cD w b (.map #[] clock)):=by simp[setObj,Sem.run,World.cD,h1]
 simp only[Builtin.clear_,List.getElem?_toArray,List.getElem?_cons_zero,Sem.run_bind,run_underlying ht,Result.andThen_ok,e1,e2,Sem.run_pure];simp only[gb];refine Good.write hs ho rfl rfl (by rw[hb];rfl) (λc' e' hc=>by cases hc) ?_ cz;exact⟨b,#[],clock,hb,eh h1,⟨rfl,List.nodup_nil,List.nodup_nil,λe he=>by simp at he,λp hp=>by simp at hp⟩⟩;cases h;cases h
theorem run_makeSlice{t e:TypeId}{i:TypeInfo}{z:Value}(ht:P.underlying t=some (.slice e))(hi:P.info? e=some i)(hz:i.zero=some z)(hzs:z.cells.size=i.size)(h1:1<=i.size)(hby:i.bytes<=256)
 {k k':IntKind} {l c:Int} (h0:0<=l) (hlc:l<=c) (hc:c<=1073741824):
 ∃w1:World,(w1.heap=w.heap/\w1.tape=w.tape/\w1.os=w.os/\w1.output=w.output)/\
 (Instr.makeSlice t (.int k l) (.int k' c)).run P w=.ok (.slice (some ⟨w.heap.size,0,none⟩) l.toNat c.toNat) (w1.alloc (.cells (Builtin.zeroCells z.cells c.toNat).toList.toArray e)):=by
 refine⟨w,⟨rfl,rfl,rfl,rfl⟩, ?_⟩;have e1:i64.wrap l=l:=cq ⟨by omega,by omega⟩;have e2:i64.wrap c=c:=cq ⟨by omega,by omega⟩
 have acY:¬(281474976710656<(i.bytes:Int)*c):=by
  have h3:(i.bytes:Int)*c<=256*c:=Int.mul_le_mul_of_nonneg_right (by omega) (by omega);omega
 have hl0:¬l<0:=by omega
 have hc0:¬c<0:=by omega
 have azk:¬l>c:=by omega
 simp[Instr.makeSlice,run_underlying ht,typeInfo,sizeOf,hi,e1,e2,hl0,hc0,azk,acY,zeroValue,hz,newRow,asInt,asIntOf];have nT:Builtin.zeroCells z.cells c.toNat=(Array.range (c.toNat*i.size)).map λx=>z.cells[x%z.cells.size]! :=by simp[Builtin.zeroCells,hzs]
 rw[nT];by_cases h0:c.toNat*i.size=0;have hr:∀f:Nat->Value,Array.map f (Array.range 0)= #[]:=λf=>by simp
 rw[if_pos h0,h0,hr,hr];rw[if_neg h0]
theorem zy{t:TypeId}{l c:AV}{vl vc:Value}{q:bQ}(h:(qP P t l c).eval H=some q)(hn:bJ q.ab)(hs:Sat ρ H G w)(hl:af ρ H (aV ρ H G) w l vl)(hc:af ρ H (aV ρ H G) w c vc)
 {base:Nat} (hb:∀i,i<q.new.length->H (base+i)=none):∃v w',(Instr.makeSlice t vl vc).run P w=.ok v w'/\Good ρ H G w (cY H q.up base q.new) (q.r base) v w':=by
 unfold qP at h;split at h;rename_i e k lit l k' aBn c ht h1 h2;obtain rfl:=ch h1 hl;obtain rfl:=ch h2 hc;split at h;rename_i i hi;rw[cond_eq_ite]at h;split at h;rename_i hc;simp only[and_eq_true]at hc;have⟨⟨c1,c2⟩,c3⟩:=hc;have c1:=le_of_ble_eq_true c1;have c2:=le_of_ble_eq_true c2
 obtain⟨z,hz,hzf,hzs⟩:∃z,i.zero=some z/\gA (shapeOf P e) z.cells.toList=true/\z.cells.size=i.size:=by
  cases hz:i.zero with
  |none=>simp[hz]at c3|some z=>
   simp only[hz,Option.any_some,and_eq_true,beq_iff_eq]at c3;exact⟨z,rfl,c3.1,c3.2⟩
 simp only[RM.eval,Option.some.injEq]at h;subst h;have⟨n1,n2,n3,_⟩:=hn;have j7:H base=none:=by simpa using hb 0 (by simp)
 have⟨w1,⟨a1,a2,a3,a4⟩,jb⟩:=run_makeSlice (w:=w) (k:=k) (k':=k') ht hi hz hzs c1 c2 n1 n2 n3;refine⟨_,_,jb, ?_⟩;simp only[jB];have⟨y1,y2⟩:=lT (O:=aV ρ H G) (w:=w) hzf l.toNat;have:=mG (shapeOf P e) l.toNat
 have key:=mC (w1:=w1) (e:=e) (c:=dJ (shapeOf P e) l.toNat) (cap:=c.toNat) hs a1 a2 a3 a4 j7 (cells:=(Builtin.zeroCells z.cells c.toNat).toList) (by omega) (by simp only[maxLen];omega) (by
  rw[y1,length_toList,length_toList,size_zeroCells]
  exact le_refl _) (λi' j'=>(Builtin.zeroCells z.cells c.toNat).toList.getD (i'*(dJ (shapeOf P e) l.toNat).size+j') undef) (λi' j' fq kj=>by
   rw[this]at fq;rw[y1,length_toList]at kj ⊢;have⟨u,e1,e2⟩:=y2 i' j' fq (by rw[length_toList];exact kj);have hg:=mc (z:=z.cells) c.toNat (i:=i') (by omega) kj;rw[e1]at hg;have:(Builtin.zeroCells z.cells c.toNat).toList.getD (i'*z.cells.size+j') undef=u:=by simp[List.getD,hg]
   rw[this];exact⟨hg,e2⟩)
 rw[this]at key;exact key (jo hzf _);cases h;cases h;cases h
end
end Go.Sx
