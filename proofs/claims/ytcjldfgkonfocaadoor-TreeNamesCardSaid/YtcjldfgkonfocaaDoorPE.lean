/- Lemmas: M3, N8, N9, N10, N11, N12, N13, N14, N15, SxLit, SxRenew, N16, N17, N18, N19, N20, N21, M4, M5, M6, M7, M8, M9, M10, M11. -/
import Derived.Test.YtcjldfgkonfocaaDoorPD
namespace Ts
open Go Go.Sx Go.Proofs Lf
structure S5 where
 m:As
 fu:Int
 fr:Ws
 fs:Ws
 gn:Ws
structure xR (th:Th) (s:S5):Prop where
 d:Ds.bH th s.m s.fu
 fr:Bx.okW s.fr
 fs:Bx.okW s.fs
 gn:Bx.okW s.gn
 pg:∀p,In s.fr p→2≤p∧Ds.tl th p=true
structure qZ (th:Th) (s t:S5) (N V:List Int):Prop where
 ok:xR th t
 nd:N.Nodup
 sub:∀p∈N,In s.fr p
 fr:∀p,In t.fr p↔In s.fr p∧p ∉ N
 fs:∀p,In t.fs p↔(In s.fs p∧p ∉ V)∨p∈N
 gn:∀p,In t.gn p↔In s.gn p∨(In s.fs p∧p∈V)
 rd:∀p,¬In s.fr p→Ds.gM th t.m p=Ds.gM th s.m p∧Ds.fT th t.m p=Ds.fT th s.m p
 fu:s.fu= -1→t.fu= -1
 lo:s.fu= -1→(∀p∈N,∀q,In s.fr q→q<p→q∈N)∧∀p,p ∉ N→Ds.gM th t.m p=Ds.gM th s.m p∧Ds.fT th t.m p=Ds.fT th s.m p
def wS(th:Th)(s:S5)(l:Bool)(es:List En)(bs:List Br):S5:=
 ⟨(bM th s.m s.fu s.fr s.fs l es bs).1,(bM th s.m s.fu s.fr s.fs l es bs).2.1,(bM th s.m s.fu s.fr s.fs l es bs).2.2.1,(bM th s.m s.fu s.fr s.fs l es bs).2.2.2.1,s.gn⟩
def wE(th:Th)(s:S5)(l:Bool)(es:List En)(bs:List Br):Int:=(bM th s.m s.fu s.fr s.fs l es bs).2.2.2.2.2
def wB(th:Th)(s:S5)(l:Bool)(es:List En)(bs:List Br):Br:=(bM th s.m s.fu s.fr s.fs l es bs).2.2.2.2.1
theorem ahn{zs:List Int}(h:∀x∈zs,3≤x∧x≤27)(h1:253<zs.sum)(h2:zs.sum≤280):2≤zs.length∧jv zs (hC zs (zs.length - 1)).1≤153:=by
 have hb:=(oo (l:=zs) (m:=27) (fun x hx=>⟨by have:=(h x hx).1;omega,(h x hx).2⟩) (by omega)).2;have hl:2≤zs.length:=by omega
 refine⟨hl, ?_⟩;obtain⟨k,hk,k1,k2⟩:=pN (p:=fun k=>(zs.take k).sum) (c:=127) zs.length (by simp) (by simp only[List.take_length];omega);have k1:(zs.take k).sum<127:=k1;have k2:127≤(zs.take (k+1)).sum:=k2;have k3:=iN hk;have k4:zs.getD k 0≤27:=by rw[bm hk];exact(h _ (List.getElem_mem _)).2
 have k5:k+1<zs.length:=by
  rcases Nat.lt_or_ge (k+1) zs.length with h|h
  ·exact h
  ·rw[List.take_of_length_le h]at k3;omega
 have m:=qS zs (zs.length - 1) (k+1) (by omega) (by omega);rw[v8 _ _ (by omega)]at m;refine Int.le_trans m ?_;unfold jv imax;split<;>omega
theorem afu{bs:List Br}:3*(bs.length:Int)≤ie bs:=by
 induction bs with
 |nil=>simp[nN]
 |cons b r ih=>rw[dj,List.length_cons];have:=wc b;omega
theorem q7(bs:List Br):bk [] bs=1+ie bs:=by simp[bk,ie]
theorem q8(es:List En):bk es []=1+(es.map oX).sum:=by simp[bk]
theorem amG{bs:List Br}(h:gm bs=true):da false [] bs=true:=tM (fun e=>by cases e) (fun _=>rfl) rfl h
theorem as6{es:List En}(h:jE es=true):da true es []=true:=tM (fun _=>rfl) (fun e=>by cases e) h rfl
theorem aj2{bs:List Br}(jd:gm bs=true)(h1:254<bk [] bs)(h2:bk [] bs≤281):
 dD false [] bs=true∧bk [] (bg false [] bs)≤154∧bk [] (cY false [] bs)≤154∧
  ∃k,0<k∧k<bs.length∧bg false [] bs=bs.take k∧cY false [] bs=bs.drop k∧ba false [] bs=[]∧cQ false [] bs=[]∧bT false [] bs=false:=by
 rw[q7]at h1 h2;have e0:aH [] bs=bs.map pJ:=by simp[aH]
 have hz:∀x∈bs.map pJ,3≤x∧x≤27:=fun x hx=>by
  obtain⟨y,hy,rfl⟩:=List.mem_map.1 hx;have:=abI jd hy;unfold pJ;omega
 obtain⟨b1,b2⟩:=ahn hz (by unfold ie at h1;omega) (by unfold ie at h2;omega);rw[List.length_map]at b1 b2
 have ok:dD false [] bs=true:=by
  simp only[dD,amG jd,Bool.true_and,decide_eq_true_eq,List.length_nil];omega
 have hsm:bd bs:=⟨by have:=afu (bs:=bs);omega,fun x hx=>by have:=abI jd hx;omega⟩;obtain⟨_,_,_,_,_,_,_,_,_,f0,f⟩:=r7 ok iD hsm;rw[e0]at f;have f2:jv (bs.map pJ) (dQ [] bs)≤153:=by rw[dQ,e0,List.length_nil,Nat.zero_add];exact b2
 have p1:=nJ (aH [] bs) (([]:List En).length+bs.length - 1) (by simp;omega);have p2:=oq (aH [] bs) (([]:List En).length+bs.length - 1);simp only[List.length_nil,Nat.zero_add]at p1 p2;have e1:ba false [] bs=[]:=by unfold ba;rw[if_pos ok,List.take_nil]
 have e2:cQ false [] bs=[]:=by unfold cQ;rw[if_pos ok,List.drop_nil]
 rw[e1,e2]at f;unfold imax at f;refine⟨ok, ?_, ?_,dQ [] bs,by unfold dQ;simp only[List.length_nil,Nat.zero_add];exact p1,by unfold dQ;simp only[List.length_nil,Nat.zero_add];omega,by unfold bg;rw[if_pos ok],by unfold cY;rw[if_pos ok],e1,e2,by unfold bT;rw[ok];rfl⟩
 ·split at f<;>omega
 ·split at f<;>omega
theorem afv{es:List En}:2*(es.length:Int)≤(es.map oX).sum:=by
 induction es with
 |nil=>simp
 |cons b r ih=>rw[List.map_cons,List.sum_cons,List.length_cons];have:=aj1 b;omega
theorem aj3{es:List En}{key val:ByteArray}(jd:jE (bz es key val)=true)(h0:bk es []≤254)(h1:¬bk (bz es key val) []≤254):
 dD true (bz es key val) []=true∧bk (ba true (bz es key val) []) []≤254∧bk (cQ true (bz es key val) []) []≤254∧
  ∃k,0<k∧k<(bz es key val).length∧ba true (bz es key val) []=(bz es key val).take k∧cQ true (bz es key val) []=(bz es key val).drop k∧bg true (bz es key val) []=[]∧cY true (bz es key val) []=[]∧bT true (bz es key val) []=true:=by
 have hl:es.length≤200:=by
  have:=afv (es:=es);rw[q8]at h0;omega
 obtain⟨ok,f1,f2⟩:=ahh hl h0 (as6 jd) h1;generalize bz es key val=xs at jd h1 ok f1 f2 ⊢;have e1:bg true xs []=[]:=by unfold bg;rw[if_pos ok,List.take_nil]
 have e2:cY true xs []=[]:=by unfold cY;rw[if_pos ok,List.drop_nil]
 rw[e1]at f1;rw[e2]at f2
 have h2:2≤xs.length:=by
  simp only[dD,Bool.and_eq_true,decide_eq_true_eq,List.length_nil]at ok;omega
 have p1:=nJ (aH xs []) (xs.length+([]:List Br).length - 1) (by simp;omega);have p2:=oq (aH xs []) (xs.length+([]:List Br).length - 1);simp only[List.length_nil,Nat.add_zero]at p1 p2;exact⟨ok,f1,f2,dQ xs [],by unfold dQ;simp only[List.length_nil,Nat.add_zero];exact p1,by unfold dQ;simp only[List.length_nil,Nat.add_zero];omega,by unfold ba;rw[if_pos ok],by unfold cQ;rw[if_pos ok],e1,e2,by unfold bT;rw[ok];rfl⟩
theorem hY{th:Th}{s:S5}(h:xR th s):qZ th s s [] []:=
 ⟨h,List.nodup_nil,fun p hp=>(by cases hp),fun p=>⟨fun x=>⟨x,List.not_mem_nil⟩,fun x=>x.1⟩,fun p=>⟨fun x=>.inl ⟨x,List.not_mem_nil⟩,fun x=>x.elim (fun y=>y.1) (fun y=>by cases y)⟩,
   fun p=>⟨.inl,fun x=>x.elim id (fun y=>by cases y.2)⟩,fun p _=>⟨rfl,rfl⟩,id,fun _=>⟨fun p hp=>(by cases hp),fun p _=>⟨rfl,rfl⟩⟩⟩
theorem e8{th:Th}{s t u:S5}{N1 N2 V1 V2:List Int}(h1:qZ th s t N1 V1)(h2:qZ th t u N2 V2)(hd:∀p∈V2,p ∉ N1):qZ th s u (N1++N2) (V1++V2)where
 ok:=h2.ok
 nd:=List.nodup_append.2 ⟨h1.nd,h2.nd,fun a ha b hb e=>by subst e;exact((h1.fr a).1 (h2.sub a hb)).2 ha⟩
 sub:=fun p hp=>(List.mem_append.1 hp).elim (h1.sub p) (fun h=>((h1.fr p).1 (h2.sub p h)).1)
 fr:=fun p=>by rw[h2.fr,h1.fr,List.mem_append,not_or,and_assoc]
 fs:=fun p=>by
  rw[h2.fs,h1.fs,List.mem_append,List.mem_append,not_or];constructor
  ·rintro(⟨⟨a,b⟩|a,c⟩|a)
   ·exact .inl ⟨a,b,c⟩
   ·exact .inr (.inl a)
   ·exact .inr (.inr a)
  ·rintro(⟨a,b,c⟩|a|a)
   ·exact .inl ⟨.inl ⟨a,b⟩,c⟩
   ·exact .inl ⟨.inr a,fun h=>hd p h a⟩
   ·exact .inr a
 gn:=fun p=>by
  rw[h2.gn,h1.gn,h1.fs,List.mem_append];constructor
  ·rintro((a|⟨a,b⟩)|⟨⟨a,b⟩|a,c⟩)
   ·exact .inl a
   ·exact .inr ⟨a,.inl b⟩
   ·exact .inr ⟨a,.inr c⟩
   ·exact absurd a (hd p c)
  ·rintro(a|⟨a,b|b⟩)
   ·exact .inl (.inl a)
   ·exact .inl (.inr ⟨a,b⟩)
   ·by_cases hv:p∈V1
    ·exact .inl (.inr ⟨a,hv⟩)
    ·exact .inr ⟨.inl ⟨a,hv⟩,b⟩
 rd:=fun p hp=>by
  have a:=h1.rd p hp;have b:=h2.rd p (fun h=>hp ((h1.fr p).1 h).1);exact⟨b.1.trans a.1,b.2.trans a.2⟩
 fu:=fun h=>h2.fu (h1.fu h)
 lo:=fun h=>by
  obtain⟨a1,b1⟩:=h1.lo h;obtain⟨a2,b2⟩:=h2.lo (h1.fu h);refine⟨fun p hp q hq a8=> ?_,fun p hp=> ?_⟩
  ·rcases List.mem_append.1 hp with hp|hp
   ·exact List.mem_append_left _ (a1 p hp q hq a8)
   ·by_cases hn:q∈N1
    ·exact List.mem_append_left _ hn
    ·exact List.mem_append_right _ (a2 p hp q ((h1.fr q).2 ⟨hq,hn⟩) a8)
  ·have x:=b1 p fun y=>hp (List.mem_append_left _ y);have y:=b2 p fun y=>hp (List.mem_append_right _ y);exact⟨y.1.trans x.1,y.2.trans x.2⟩
theorem qZ.rep{th:Th}{s t:S5}{N V:List Int}(h:qZ th s t N V):∀(k:Nat) {x:TN k},Ts.rep th s.m k x→(∀p∈mF k x,¬In s.fr p)→Ts.rep th t.m k x
 |0,x,hr,hp=>Rd.same hr (h.rd _ (hp _ (se 0 x)))
 |k+1,x,hr,hp=>⟨Rd.same hr.1 (h.rd _ (hp _ (se (k+1) x))),fun y hy=>h.rep k (hr.2 y hy) fun p kc=>hp p (List.mem_cons_of_mem _ (List.mem_flatMap.2 ⟨y,hy,kc⟩))⟩
theorem ad3{th:Th}{s:S5}(h:xR th s)(n:Int):qZ th s ⟨s.m,s.fu,s.fr,jk s.fs n,pM s.fs s.gn n⟩ [] [n]:=by
 have r:In s.fs n→0≤n∧n<1024:=fun hn=>nM h.fs hn;by_cases hn:In s.fs n
 ·have e1:jk s.fs n=Bx.cU s.fs n:=if_pos hn;have e2:pM s.fs s.gn n=Bx.cT s.gn n:=if_pos hn;rw[e1,e2];refine⟨⟨h.d,h.fr,(Bx.kH h.fs n).1,(Bx.gb h.gn n).1,h.pg⟩,List.nodup_nil,fun p hp=>(by cases hp),fun p=>⟨fun x=>⟨x,List.not_mem_nil⟩,fun x=>x.1⟩,fun p=> ?_,fun p=> ?_,fun p _=>⟨rfl,rfl⟩,id,fun _=>⟨fun p hp=>(by cases hp),fun p _=>⟨rfl,rfl⟩⟩⟩
  ·simp only[];rw[pO h.fs,List.mem_singleton];exact⟨.inl,fun x=>x.elim id (fun y=>by cases y)⟩
  ·simp only[];rw[oC h.gn (r hn),List.mem_singleton];exact⟨fun x=>x.imp id (fun y=>⟨by rw[y];exact hn,y⟩),fun x=>x.imp id (fun y=>y.2)⟩
 ·have e1:jk s.fs n=s.fs:=if_neg hn;have e2:pM s.fs s.gn n=s.gn:=if_neg hn;rw[e1,e2];refine⟨h,List.nodup_nil,fun p hp=>(by cases hp),fun p=>⟨fun x=>⟨x,List.not_mem_nil⟩,fun x=>x.1⟩,fun p=> ?_,fun p=> ?_,fun p _=>⟨rfl,rfl⟩,id,fun _=>⟨fun p hp=>(by cases hp),fun p _=>⟨rfl,rfl⟩⟩⟩
  ·rw[List.mem_singleton];exact⟨fun x=>.inl ⟨x,fun e=>hn (by rw[←e];exact x)⟩,fun x=>x.elim (fun y=>y.1) (fun y=>by cases y)⟩
  ·rw[List.mem_singleton];exact⟨.inl,fun x=>x.elim id (fun y=>absurd (by rw[←y.2];exact y.1) hn)⟩
theorem aqX{th:Th}{s:S5}{l:Bool}{es:List En}{bs:List Br}(ho:xR th s)(hm:da l es (aa bs)=true)(hz:bk es (aa bs)≤254):
 (wE th s l es bs=0∧∃n,qZ th s (wS th s l es bs) [n] []∧wB th s l es bs=(cW l es bs,n,())∧Rd th (wS th s l es bs).m n l es (aa bs))∨
 (wE th s l es bs=41∧wS th s l es bs=s∧∀k,¬In s.fr k)∨(wE th s l es bs=42∧qZ th s (wS th s l es bs) [] []∧(wS th s l es bs).fu=0):=by
 have he:gZ l es (aa bs)=0:=lK.2 ⟨hm,hz⟩;obtain⟨d1,d2,d3,d4,d5⟩:=alS he;by_cases hx:Bx.eb s.fr 0=false
 ·have e:bM th s.m s.fu s.fr s.fs l es bs=(s.m,s.fu,s.fr,s.fs,dB,41):=by unfold bM;rw[if_pos hx]
  right;left;refine⟨by unfold wE;rw[e],by unfold wS;rw[e],fun k=>amz ho.fr hx k⟩
 ·have hx1:Bx.eb s.fr 0=true:=by simpa using hx
  have hn:=abZ ho.fr hx1;obtain⟨uq,hnp⟩:=ho.pg _ hn;have hnr:=nM ho.fr hn;obtain⟨g1,g2,g3⟩:=Ds.aqM (th:=th) (m:=s.m) (fu:=s.fu) (n:=Bx.bx s.fr 0) (s:=db l es (aa bs)) ho.d hnp (by omega);have gd:=Ds.an0 (n:=Bx.bx s.fr 0) (s:=db l es (aa bs)) ho.d;rcases g1 with⟨a,b,c⟩|⟨a,b⟩
  ·left
   have e:bM th s.m s.fu s.fr s.fs l es bs=((Ds.kg th s.m s.fu (Bx.bx s.fr 0) (db l es (aa bs))).1,(Ds.kg th s.m s.fu (Bx.bx s.fr 0) (db l es (aa bs))).2.1,Bx.cU s.fr (Bx.bx s.fr 0),Bx.cT s.fs (Bx.bx s.fr 0),(cW l es bs,Bx.bx s.fr 0,()),0):=by
    unfold bM;rw[if_neg hx,if_neg (by rw[he];simp),if_neg (by rw[a];simp)]
   refine⟨by unfold wE;rw[e],Bx.bx s.fr 0, ?_,by unfold wB;rw[e], ?_⟩
   ·unfold wS;rw[e];refine⟨⟨gd,(Bx.kH ho.fr _).1,(Bx.gb ho.fs _).1,ho.gn,fun p hp=>ho.pg p ((pO ho.fr).1 hp).1⟩,by simp,fun p hp=>by rw[List.mem_singleton.1 hp];exact hn,fun p=> ?_,fun p=> ?_,fun p=> ?_,fun p hp=>g3 p (fun e=>hp (by rw[e];exact hn)),g2,fun _=>⟨fun p hp q hq a8=> ?_,fun p hp=>g3 p fun e=>hp (List.mem_singleton.2 e)⟩⟩
    ·simp only[];rw[pO ho.fr,List.mem_singleton]
    ·simp only[];rw[oC ho.fs hnr,List.mem_singleton];exact⟨fun x=>x.imp (fun y=>⟨y,List.not_mem_nil⟩) id,fun x=>x.imp (fun y=>y.1) id⟩
    ·exact⟨.inl,fun x=>x.elim id (fun y=>by cases y.2)⟩
    ·have:=ajS ho.fr hx1 hq;rw[List.mem_singleton.1 hp]at a8;omega
   ·unfold wS;rw[e];exact⟨b,by rw[c];exact d1,by rw[c];exact d2,by rw[c];exact d3,by rw[c];exact d4⟩
  ·right;right
   have e:bM th s.m s.fu s.fr s.fs l es bs=((Ds.kg th s.m s.fu (Bx.bx s.fr 0) (db l es (aa bs))).1,(Ds.kg th s.m s.fu (Bx.bx s.fr 0) (db l es (aa bs))).2.1,s.fr,s.fs,dB,42):=by
    unfold bM;rw[if_neg hx,if_neg (by rw[he];simp),if_pos (by rw[a];simp),a]
   refine⟨by unfold wE;rw[e], ?_,by unfold wS;rw[e];exact b⟩;unfold wS;rw[e];have r:=hY ho;refine⟨⟨gd,ho.fr,ho.fs,ho.gn,ho.pg⟩,r.nd,r.sub,r.fr,r.fs,r.gn,fun p hp=>g3 p (fun e=>hp (by rw[e];exact hn)),g2,fun h=>absurd (g2 h) (by rw[b];decide)⟩
end Ts
namespace Ts
open Go Go.Sx Go.Proofs Lf
theorem eM{th:Th}{m:As}{n deep:Int}(h:eZ th m n deep=0):da (kj th m n deep) (bS th m n deep) (aO th m n deep)=true∧(bS th m n deep).length≤126∧(aO th m n deep).length≤84∧bc (bS th m n deep)∧bd (aO th m n deep)∧
 deep≤16∧bk (bS th m n deep) (aO th m n deep)≤254:=by
 unfold eZ at h;split at h
 ·cases h
 ·rename_i hd;split at h
  ·rename_i hg;have e0:r5 th m n deep=true:=by unfold r5;rw[decide_eq_true hg,decide_eq_true (by omega)];rfl
   obtain⟨a,b,c,_,e⟩:=alT h;have sz:=(lK.1 c).2;have e1:bS th m n deep=nH (Ds.fT th m n):=by unfold bS;rw[if_pos e0]
   have e2:aO th m n deep=mE (Ds.fT th m n):=by unfold aO;rw[if_pos e0]
   have e3:kj th m n deep=ju (Ds.fT th m n):=by unfold kj;rw[e0,Bool.true_and]
   rw[e1,e2,e3];have s1:=afv (es:=nH (Ds.fT th m n));have s2:=afu (bs:=mE (Ds.fT th m n));have s3:=amE (mE (Ds.fT th m n));unfold bk at sz;unfold ie at s2 s3;refine⟨e,by omega,by omega,a,b,by omega, ?_⟩;unfold bk;exact sz
  ·rename_i hg;exact absurd h hg
abbrev wh(es:List En):Prop:=∀x∈es,x.1.size≤24
abbrev ke(bs:List Br):Prop:=∀x∈bs,x.1.size≤24
theorem ab2{l:Bool}{es:List En}{bs:List Br}(he:wh es)(hb:ke bs):(cW l es bs).size≤24:=by
 unfold cW;split
 ·cases es with
  |nil=>exact Nat.zero_le _
  |cons e r=>exact he e List.mem_cons_self
 ·cases bs with
  |nil=>exact Nat.zero_le _
  |cons e r=>exact hb e List.mem_cons_self
theorem aah{th:Th}{m:As}{fu:Int}{fr fs:Ws}{l:Bool}{es:List En}{bs:List Br}(he:wh es)(hb:ke bs):(bM th m fu fr fs l es bs).2.2.2.2.1.1.size≤24:=by
 unfold bM;split
 ·exact Nat.zero_le _
 ·split
  ·exact Nat.zero_le _
  ·split
   ·exact Nat.zero_le _
   ·exact ab2 he hb
theorem aj4{bs:List Br}(h:ke bs):ke (aa bs):=by
 cases bs with
 |nil=>exact h
 |cons b r=>
  intro x hx;rcases List.mem_cons.1 hx with rfl|hx
  ·exact Nat.zero_le _
  ·exact h x (List.mem_cons_of_mem _ hx)
theorem amH{l:Bool}{es:List En}{bs:List Br}(he:wh es):wh (ba l es bs)∧wh (cQ l es bs):=by
 unfold ba cQ;split
 ·exact⟨fun x hx=>he x (List.mem_of_mem_take hx),fun x hx=>he x (List.mem_of_mem_drop hx)⟩
 ·exact⟨fun x hx=>(by cases hx),fun x hx=>(by cases hx)⟩
theorem amI{l:Bool}{es:List En}{bs:List Br}(he:ke bs):ke (bg l es bs)∧ke (cY l es bs):=by
 unfold bg cY;split
 ·exact⟨fun x hx=>he x (List.mem_of_mem_take hx),fun x hx=>he x (List.mem_of_mem_drop hx)⟩
 ·exact⟨fun x hx=>(by cases hx),fun x hx=>(by cases hx)⟩
theorem ad4{th:Th}{m:As}{fu:Int}{fr fs:Ws}{l:Bool}{es:List En}{bs:List Br}(hf:Bx.okW fr):0≤(bM th m fu fr fs l es bs).2.2.2.2.1.2.1∧(bM th m fu fr fs l es bs).2.2.2.2.1.2.1≤65536:=by
 have z:0≤dB.2.1∧dB.2.1≤65536:=⟨Int.le_refl 0,by show(0:Int)≤65536;omega⟩;unfold bM;split
 ·exact z
 ·rename_i h;have:=wa hf (by simpa using h);split
  ·exact z
  ·split
   ·exact z
   ·exact⟨by show 0≤Bx.bx fr 0;omega,by show Bx.bx fr 0≤65536;omega⟩
theorem noE{q:En→Prop}:∀b∈([]:List En),q b:=fun b hb=>by cases hb
theorem noB{q:Br→Prop}:∀b∈([]:List Br),q b:=fun b hb=>by cases hb
structure aj5 (th:Th) (m:As) (fu:Int) (fr:Ws) (l:List Br):Prop where
 d:Ds.bH th m fu
 fr:Bx.okW fr
 two:l.length≤2
 key:ke l
 pg:∀b∈l,0≤b.2.1∧b.2.1≤65536
theorem nO{th:Th}{m:As}{fu:Int}{fr fs:Ws}{l:Bool}{es:List En}{bs:List Br}(hd:Ds.bH th m fu)(hf:Bx.okW fr)(he:wh es)(hb:ke bs):
 aj5 th (bp th m fu fr fs l es bs).1 (bp th m fu fr fs l es bs).2.1 (bp th m fu fr fs l es bs).2.2.1 (bp th m fu fr fs l es bs).2.2.2.2.1:=by
 have hbb:=aj4 hb;have nil:ke ([]:List Br):=fun b hb=>by cases hb
 unfold bp;split
 ·exact⟨hd,hf,Nat.zero_le _,nil,noB⟩
 ·split
  ·obtain⟨a,b⟩:=aaf (fs:=fs) (l:=l) (es:=es) (bs:=aa bs) hd hf;refine⟨a,b,by show 1≤2;omega,fun x hx=> ?_,fun x hx=> ?_⟩
   ·rw[List.mem_singleton.1 hx];exact aah he hbb
   ·rw[List.mem_singleton.1 hx];exact ad4 hf
  ·split
   ·exact⟨hd,hf,Nat.zero_le _,nil,noB⟩
   ·obtain⟨s1,s2⟩:=amH (l:=l) (bs:=aa bs) he;obtain⟨s3,s4⟩:=amI (l:=l) (es:=es) hbb;obtain⟨a,b⟩:=aaf (fs:=fs) (l:=bT l es (aa bs)) (es:=ba l es (aa bs)) (bs:=bg l es (aa bs)) hd hf;simp only[];split
    ·exact⟨a,b,Nat.zero_le _,nil,noB⟩
    ·obtain⟨c,d⟩:=aaf (fs:=(bM th m fu fr fs (bT l es (aa bs)) (ba l es (aa bs)) (bg l es (aa bs))).2.2.2.1) (l:=bT l es (aa bs)) (es:=cQ l es (aa bs)) (bs:=cY l es (aa bs)) a b;refine⟨c,d,Nat.le_refl 2,fun x hx=> ?_,fun x hx=> ?_⟩
     ·rcases List.mem_cons.1 hx with rfl|hx
      ·exact aah s1 s3
      ·rw[List.mem_singleton.1 hx];exact aah s2 s4
     ·rcases List.mem_cons.1 hx with rfl|hx
      ·exact ad4 hf
      ·rw[List.mem_singleton.1 hx];exact ad4 b
theorem aj6{key:ByteArray}{op:Option ByteArray}{es:List En}(hk:key.size≤24)(he:wh es):wh (doE key op es):=by
 cases op with
 |some v=>
  show wh (bz es key v);intro x hx;unfold bz at hx;rcases List.mem_append.1 hx with hx|hx
  ·exact he x (List.mem_of_mem_take hx)
  ·rcases List.mem_cons.1 hx with rfl|hx
   ·exact hk
   ·exact he x (List.mem_of_mem_drop hx)
 |none=>
  show wh (if gq es key=true then cD es key else []);split
  ·exact fun x hx=>he x (List.mem_filter.1 hx).1
  ·exact fun x hx=>by cases hx
theorem oD{key:ByteArray}{op:Option ByteArray}{es:List En}(hk:key.size≤24)(hv:∀v,op=some v→v.size≤100)(hl:es.length≤126)(he:bc es):bc (doE key op es):=by
 cases op with
 |some v=>
  have hv:=hv v rfl;show bc (bz es key v);refine⟨by rw[zZ];split<;>omega,fun x hx=> ?_⟩;unfold bz at hx;rcases List.mem_append.1 hx with hx|hx
  ·exact he.2 x (List.mem_of_mem_take hx)
  ·rcases List.mem_cons.1 hx with rfl|hx
   ·exact⟨by show key.size≤1000;omega,by show v.size≤1000;omega⟩
   ·exact he.2 x (List.mem_of_mem_drop hx)
 |none=>
  show bc (if gq es key=true then cD es key else []);split
  ·exact⟨Nat.le_trans (List.length_filter_le _ _) he.1,fun x hx=>he.2 x ((List.mem_filter.1 hx).1)⟩
  ·exact iD
theorem ad5{k:ByteArray}{r:List Br}(hk:k.size≤24)(h:ke r):ke (kT k r):=by
 cases r with
 |nil=>exact h
 |cons b r=>
  intro x hx;rcases List.mem_cons.1 hx with rfl|hx
  ·exact hk
  ·exact h x (List.mem_cons_of_mem _ hx)
theorem wi(k:ByteArray)(r:List Br):(kT k r).length=r.length:=by cases r<;>rfl
theorem pT{bs:List Br}(hb:ke bs)(k:Nat):(bs.getD k dB).1.size≤24:=by
 rcases Nat.lt_or_ge k bs.length with h|h
 ·rw[bm h];exact hb _ (List.getElem_mem h)
 ·rw[List.getD,List.getElem?_eq_none h];exact Nat.zero_le _
theorem afw{bs r:List Br}{k:Nat}{s:ByteArray}(hb:ke bs)(hk:ke r)(hs:s.size≤24):ke (bs.take k++kT s r++bs.drop (k+1)):=fun x hx=>by
 rcases List.mem_append.1 hx with hx|hx
 ·rcases List.mem_append.1 hx with hx|hx
  ·exact hb x (List.mem_of_mem_take hx)
  ·exact ad5 hs hk x hx
 ·exact hb x (List.mem_of_mem_drop hx)
theorem wj{bs r:List Br}{k:Nat}{s:ByteArray}(hb:ke bs)(hl:bs.length≤84)(hr:r.length≤2)(hk:ke r)(hs:s.size≤24):bd (bs.take k++kT s r++bs.drop (k+1)):=by
 refine⟨?_,fun x hx=>Nat.le_trans (afw hb hk hs x hx) (by omega)⟩;rw[List.length_append,List.length_append,wi,List.length_take,List.length_drop];omega
theorem ab3{l:Bool}{es:List En}{bs:List Br}(h:da l es bs=true):wh es∧ke bs:=by
 obtain⟨_,_,h1,h2⟩:=dN h;exact⟨fun x hx=>(adK h1 hx).1,fun x hx=>(abI h2 hx).1⟩
theorem q9{th:Th}{key:ByteArray}{op:Option ByteArray}(hk:key.size≤24):∀(f:Nat) {m:As} {fu:Int} {fr fs gn:Ws} {n deep:Int},Ds.bH th m fu→Bx.okW fr→
 aj5 th (pP th key op f m fu fr fs gn n deep) (pQ th key op f m fu fr fs gn n deep) (pR th key op f m fu fr fs gn n deep) (tp th key op f m fu fr fs gn n deep)
 |0,m,fu,fr,fs,gn,n,deep,hd,hf=>⟨hd,hf,Nat.zero_le _,noB,noB⟩
 |f+1,m,fu,fr,fs,gn,n,deep,hd,hf=>by
  have nil:ke ([]:List Br):=fun b hb=>by cases hb
  unfold pP pQ pR tp vZ;split
  ·exact⟨hd,hf,Nat.zero_le _,nil,noB⟩
  ·rename_i h0;obtain⟨hm,_⟩:=eM (by simpa using h0);obtain⟨n3,n4⟩:=ab3 hm;split
   ·split
    ·exact⟨hd,hf,Nat.zero_le _,nil,noB⟩
    ·exact nO hd hf (aj6 hk n3) n4
   ·split
    ·exact⟨hd,hf,Nat.zero_le _,nil,noB⟩
    ·simp only[];have r:=q9 (op:=op) hk f (fs:=fs) (gn:=gn) (n:=((aO th m n deep).getD (aT (aO th m n deep) key).toNat dB).2.1) (deep:=deep+1) hd hf;split
     ·exact⟨r.d,r.fr,Nat.zero_le _,nil,noB⟩
     ·exact nO r.d r.fr n3 (afw n4 r.key (pT n4 _))
end Ts
namespace Ts
open Go Go.Sx Go.Proofs Lf
theorem gi{th:Th}{key:ByteArray}{op:Option ByteArray}{f:Nat}{m:As}{fu:Int}{fr fs gn:Ws}{n deep:Int}:vZ th key op (f+1) m fu fr fs gn n deep=
 if eZ th m n deep≠0 then(m,fu,fr,fs,gn,[],eZ th m n deep)
 else if kj th m n deep=true then
  if pL key op (bS th m n deep)≠0 then(m,fu,fr,fs,gn,[],pL key op (bS th m n deep))
  else hP (pM fs gn n) (bp th m fu fr (jk fs n) true (doE key op (bS th m n deep)) (aO th m n deep))
 else if aO th m n deep=[]then(m,fu,fr,fs,gn,[],4)
 else if r9 th key op f m fu fr fs gn ((aO th m n deep).getD (aT (aO th m n deep) key).toNat dB).2.1 (deep+1)≠0 then
  (pP th key op f m fu fr fs gn ((aO th m n deep).getD (aT (aO th m n deep) key).toNat dB).2.1 (deep+1),pQ th key op f m fu fr fs gn ((aO th m n deep).getD (aT (aO th m n deep) key).toNat dB).2.1 (deep+1),
   pR th key op f m fu fr fs gn ((aO th m n deep).getD (aT (aO th m n deep) key).toNat dB).2.1 (deep+1),qV th key op f m fu fr fs gn ((aO th m n deep).getD (aT (aO th m n deep) key).toNat dB).2.1 (deep+1),
   r8 th key op f m fu fr fs gn ((aO th m n deep).getD (aT (aO th m n deep) key).toNat dB).2.1 (deep+1),[],r9 th key op f m fu fr fs gn ((aO th m n deep).getD (aT (aO th m n deep) key).toNat dB).2.1 (deep+1))
 else hP (pM (qV th key op f m fu fr fs gn ((aO th m n deep).getD (aT (aO th m n deep) key).toNat dB).2.1 (deep+1)) (r8 th key op f m fu fr fs gn ((aO th m n deep).getD (aT (aO th m n deep) key).toNat dB).2.1 (deep+1)) n)
  (bp th (pP th key op f m fu fr fs gn ((aO th m n deep).getD (aT (aO th m n deep) key).toNat dB).2.1 (deep+1)) (pQ th key op f m fu fr fs gn ((aO th m n deep).getD (aT (aO th m n deep) key).toNat dB).2.1 (deep+1))
    (pR th key op f m fu fr fs gn ((aO th m n deep).getD (aT (aO th m n deep) key).toNat dB).2.1 (deep+1)) (jk (qV th key op f m fu fr fs gn ((aO th m n deep).getD (aT (aO th m n deep) key).toNat dB).2.1 (deep+1)) n) false (bS th m n deep)
    ((aO th m n deep).take (aT (aO th m n deep) key).toNat++kT ((aO th m n deep).getD (aT (aO th m n deep) key).toNat dB).1 (tp th key op f m fu fr fs gn ((aO th m n deep).getD (aT (aO th m n deep) key).toNat dB).2.1 (deep+1))++(aO th m n deep).drop ((aT (aO th m n deep) key).toNat+1))):=rfl
def as7(bs r:List Br)(k:Int):List Br:=b8 [(List.drop (Int.toNat 0) (List.take k.toNat bs),()),(r,()),(List.drop (k+1).toNat (List.take (bs.length:Int).toNat bs),())]
theorem ab4{bs r:List Br}{k:Int}(h0:0≤k):as7 bs r k=bs.take k.toNat++r++bs.drop (k.toNat+1):=by
 show List.drop 0 (List.take k.toNat bs)++(r++(List.drop (k+1).toNat (List.take (bs.length:Int).toNat bs)++[]))=_;rw[List.append_nil,List.drop_zero,List.append_assoc,show(bs.length:Int).toNat=bs.length from rfl,List.take_length,show(k+1).toNat=k.toNat+1 from by omega]
theorem aj7{th:Th}{m:As}{fu root:Int}{fr fs gn:Ws}{n deep:Int}{key val:ByteArray}{f:Nat}{c:Chg}(e:vZ th key (some val) f m fu fr fs gn n deep=c):
 (xc f).fH ((th,m,fu,root,fr,fs,gn),n,deep,key,val)=qT th c.1 c.2.1 root c.2.2.1 c.2.2.2.1 c.2.2.2.2.1 key val++[.vec (.ae cB c.2.2.2.2.2.1) Lf.eB]∧(xc f).out ((th,m,fu,root,fr,fs,gn),n,deep,key,val)=.bo [.vec 6,bD c.2.2.2.2.2.2]:=by
 subst e;exact⟨rfl,rfl⟩
theorem aho{th:Th}{m:As}{fu root:Int}{fr fs gn:Ws}{n deep:Int}{key val:ByteArray}{f:Nat}{c:Chg}(e:vZ th key none f m fu fr fs gn n deep=c):
 (xd f).fH ((th,m,fu,root,fr,fs,gn),n,deep,key,val)=qU th c.1 c.2.1 root c.2.2.1 c.2.2.2.1 c.2.2.2.2.1 key++[.vec (.ae cB c.2.2.2.2.2.1) Lf.eB]∧(xd f).out ((th,m,fu,root,fr,fs,gn),n,deep,key,val)=.bo [.vec 5,bD c.2.2.2.2.2.2]:=by
 subst e;exact⟨rfl,rfl⟩
theorem sg{bs:List Br}{key:ByteArray}(hs:im (mr bs))(h:bs≠[]):0≤aT bs key∧aT bs key<(bs.length:Int):=by
 obtain⟨p,e,hp,_⟩:=vJ (ks:=mr bs) (key:=key) hs (by cases bs with|nil=>exact absurd rfl h|cons b r=>simp);unfold aT;rw[e];rw[List.length_map]at hp;exact⟨by omega,by omega⟩
theorem ab5{r:List Br}{k:ByteArray}(h:0<r.length):(r.set 0 (k,(r.getD 0 (CL.d [CK.str,CK.int IntKind.i64])).snd):List Br)=kT k r:=by
 cases r with
 |nil=>simp at h
 |cons b r=>rfl
theorem yz{n:Int}(h0: -65537≤n)(h1:n≤65537):aF n:=⟨by omega,by omega⟩
theorem si{th:Th}{m:As}{n deep:Int}(h:eZ th m n deep=0)(k:Nat):0≤((aO th m n deep).getD k dB).2.1∧((aO th m n deep).getD k dB).2.1≤65536:=by
 obtain⟨hm,_⟩:=eM h;rcases Nat.lt_or_ge k (aO th m n deep).length with hk|hk
 ·have:=abI (dN hm).2.2.2 (List.getElem_mem hk);rw[bm hk];omega
 ·rw[List.getD,List.getElem?_eq_none hk];exact⟨Int.le_refl 0,by show(0:Int)≤65536;omega⟩
theorem aj8{f:Nat}(h:ib P Bx.bV 80 (xc f)):(pa f).Ok P Bx.bV:=aE.Ok.cons (ow.sum mNo) (aE.Ok.cons (v7.sum mLv) (aE.Ok.cons (iE (gr (jM.sum mTN) 1 _) 1) (aE.Ok.cons ajC.ve (aE.Ok.cons vF.sum (aE.Ok.cons r6.sum (aE.Ok.cons (h.sum amC) aE.Ok.nil))))))
section
variable{th:Th}{m:As}{fu root:Int}{fr fs gn:Ws}{n deep:Int}{key val:ByteArray}{f:Nat}{X:Ctx}
theorem ab6{th:Th}{m:As}{fu root:Int}{fr fs gn:Ws}{key val:ByteArray}:∀y∈ad0,(qT th m fu root fr fs gn key val).length≤y.2.m:=fun y hy=>by
 simp only[ad0,List.mem_cons,List.not_mem_nil,or_false]at hy;rcases hy with rfl|rfl|rfl|rfl<;>exact Nat.le_refl _
theorem afx(hz:dT Bx.bV X)(hX:X.H=lk (qT th m fu root fr fs gn key val))(T:(pa f).Ok P Bx.bV){m':As}{fR:Int}{oE kP pZ:Ws}{l:Bool}{es:List En}{bs:List Br}{k:Int}{r:List Br}(hd:Ds.bH th m' fR)(hf:Bx.okW oE)(hl:l=false∧es=[])(he:bc es)
 (hb:bd (bs.take k.toNat++r++bs.drop (k.toNat+1))) (hk0:0≤k) (zk:k<(bs.length:Int)) (hbl:bs.length≤84)
 (e:vZ th key (some val) (f+1) m fu fr fs gn n deep=hP (pM kP pZ n) (bp th m' fR oE (jk kP n) l es (bs.take k.toNat++r++bs.drop (k.toNat+1)))):
 Safe P 80 X (xb (xc (f+1)) ((th,m,fu,root,fr,fs,gn),n,deep,key,val)) (aoB th m' fR root oE kP pZ n key val l es bs k r):=by
 rw[←ab4 hk0]at hb e;have hjl:=hb.1;obtain⟨f1,f2⟩:=aj7 (root:=root) (val:=val) e;refine Ds.ew hz hX ab6 T Tryd.func80 (aqT f th m' fR root oE kP pZ n key val l es bs k r) ⟨by omega,hk0,by omega,⟨by omega,by omega⟩,by omega,by omega,by omega,by show 3≤100;omega, ?_,rfl,rfl,rfl,rfl,hd,hf,⟨fun h=>(by rw[hl.1]at h;cases h),fun _=>hl.2⟩,he,hb, ?_⟩
 ·exact Nat.le_trans hjl (by omega)
 ·exact kv ⟨[],[0,1],6,[]⟩ rfl (Nat.le_refl _) (o9.same _) f2 f1
theorem amJ(hz:dT Bx.bV X)(hX:X.H=lk (qT th m fu root fr fs gn key val))(T:(pa f).Ok P Bx.bV){m':As}{fR:Int}{oE kP pZ:Ws}{l:Bool}{es:List En}{bs:List Br}{k e:Int}{r:List Br}(hd:Ds.bH th m' fR)(hf:Bx.okW oE)(hl:l=false∧es=[])(he:bc es)
 (hb:bd (bs.take k.toNat++kT (bs.getD k.toNat dB).1 r++bs.drop (k.toNat+1))) (hk0:0≤k) (zk:k<(bs.length:Int)) (hbl:bs.length≤84)
 (ee:vZ th key (some val) (f+1) m fu fr fs gn n deep=if e≠0 then(m',fR,oE,kP,pZ,[],e)else hP (pM kP pZ n) (bp th m' fR oE (jk kP n) l es (bs.take k.toNat++kT (bs.getD k.toNat dB).1 r++bs.drop (k.toNat+1)))):
 Safe P 80 X (xb (xc (f+1)) ((th,m,fu,root,fr,fs,gn),n,deep,key,val)) (aoA th m' fR root oE kP pZ n key val l es bs k e r):=by
 refine Ds.ew hz hX ab6 T Tryd.func80 (aqS f th m' fR root oE kP pZ n key val l es bs k e r) ⟨fun h=> ?_,fun h=>⟨fun h5=> ?_,fun h5=> ?_⟩⟩
 ·have h:e≠0:=by simpa using h
  rw[if_pos h]at ee;obtain⟨f1,f2⟩:=aj7 (root:=root) (val:=val) ee;exact kv ⟨[(0,.ae cB [],Lf.eB)],[0,1],6,[]⟩ rfl (Nat.le_refl _) (o9.same _) f2 f1
 ·have h:¬e≠0:=by simpa using h
  rw[if_neg h]at ee;have h5:=of_decide_eq_true h5;have e5:=ab5 (r:=r) (k:=(bs.getD k.toNat dB).1) (by omega);rw[←e5]at hb ee;exact⟨hk0,zk,by omega,h5,afx hz hX T hd hf hl he hb hk0 zk hbl ee⟩
 ·have h:¬e≠0:=by simpa using h
  rw[if_neg h]at ee;have h5:=of_decide_eq_false h5;have e5:r=[]:=List.eq_nil_of_length_eq_zero (by omega);subst e5;exact afx hz hX T hd hf hl he hb hk0 zk hbl ee
theorem amK(hz:dT Bx.bV X)(hX:X.H=lk (qT th m fu root fr fs gn key val))(T:(pa f).Ok P Bx.bV)(hd:Ds.bH th m fu)(hf:Bx.okW fr)(h1:1≤deep∧deep≤17)(h2:18≤deep+((f+1:Nat):Int))(hk:1≤key.size∧key.size≤24)(hv:val.size≤100)
 (h:eZ th m n deep=0) (hl:kj th m n deep=false):
 Safe P 80 X (xb (xc (f+1)) ((th,m,fu,root,fr,fs,gn),n,deep,key,val)) (aoz th m fu root fr fs gn n deep key val (kj th m n deep) (bS th m n deep) (aO th m n deep)):=by
 obtain⟨hm,n1,n2,n3,n4,n5,_⟩:=eM h;obtain⟨m1,m2,_,_⟩:=dN hm;obtain⟨s1,s2⟩:=qR hm;have hkk:∀v:ByteArray,(some val)=some v→v.size≤100:=fun v e=>by cases e;exact hv
 refine Ds.ew hz hX ab6 T Tryd.func80 (aqR f th m fu root fr fs gn n deep key val (kj th m n deep) (bS th m n deep) (aO th m n deep)) ⟨fun h3=> ?_,fun h3=> ?_⟩
 ·have h3:aO th m n deep=[]:=List.eq_nil_of_length_eq_zero (by have:((aO th m n deep).length:Int)=0:=by simpa using h3
                                                               omega)
  obtain⟨f1,f2⟩:=aj7 (val:=val) (root:=root) (th:=th) (m:=m) (fu:=fu) (fr:=fr) (fs:=fs) (gn:=gn) (key:=key) (f:=f+1) (n:=n) (deep:=deep) (c:=(m,fu,fr,fs,gn,[],4)) (by rw[gi,if_neg (by rw[h];simp),if_neg (by rw[hl];simp),if_pos h3]);exact kv ⟨[(0,.ae cB [],Lf.eB)],[0,1],6,[]⟩ rfl (Nat.le_refl _) (o9.same _) f2 f1
 ·have h3:aO th m n deep≠[]:=fun e=>by rw[e]at h3;simp at h3
  obtain⟨p0,p1⟩:=sg (key:=key) s2 h3;have pg:=si h (aT (aO th m n deep) key).toNat;have aai:=q9 (th:=th) (key:=key) (op:=(some val)) hk.2 f (m:=m) (fu:=fu) (fr:=fr) (fs:=fs) (gn:=gn) (n:=((aO th m n deep).getD (aT (aO th m n deep) key).toNat dB).2.1) (deep:=deep+1) hd hf;have hb:=wj (bs:=aO th m n deep) (k:=(aT (aO th m n deep) key).toNat) (ab3 hm).2 n2 aai.two aai.key (pT (ab3 hm).2 (aT (aO th m n deep) key).toNat);refine⟨by omega,s2,p0,p1,yz (by omega) (by omega),rfl,rfl,hd,hf,pg,⟨by omega,by omega⟩,by omega,hk,hv,amJ hz hX T aai.d aai.fr ⟨hl,m2 hl⟩ n3 hb p0 p1 n2 ?_⟩;rw[gi,if_neg (by rw[h];simp),if_neg (by rw[hl];simp),if_neg h3,hl];rfl
theorem aqY(hz:dT Bx.bV X)(hX:X.H=lk (qT th m fu root fr fs gn key val))(T:(pa f).Ok P Bx.bV)(hd:Ds.bH th m fu)(hf:Bx.okW fr)(hk:1≤key.size∧key.size≤24)(hv:val.size≤100)
 (h:eZ th m n deep=0) (hl:kj th m n deep=true):
 Safe P 80 X (xb (xc (f+1)) ((th,m,fu,root,fr,fs,gn),n,deep,key,val)) (as2 th m fu root fr fs gn n key val (bS th m n deep) (aO th m n deep)):=by
 obtain⟨hm,n1,n2,n3,n4,n5,_⟩:=eM h;obtain⟨m1,m2,_,_⟩:=dN hm;obtain⟨s1,s2⟩:=qR hm;have hkk:∀v:ByteArray,(some val)=some v→v.size≤100:=fun v e=>by cases e;exact hv
 obtain⟨f1,f2⟩:=aj7 (val:=val) (root:=root) (th:=th) (m:=m) (fu:=fu) (fr:=fr) (fs:=fs) (gn:=gn) (key:=key) (f:=f+1) (n:=n) (deep:=deep) (c:=hP (pM fs gn n) (bp th m fu fr (jk fs n) true (bz (bS th m n deep) key val) (aO th m n deep))) (by rw[gi,if_neg (by rw[h];simp),if_pos hl,if_neg (by show¬(0:Int)≠0;simp)];rfl);refine Ds.ew hz hX ab6 T Tryd.func80 (as3 f th m fu root fr fs gn n key val (bS th m n deep) (aO th m n deep)) ⟨by omega,s1,rfl,rfl,rfl,rfl,hd,hf,⟨fun _=>m1 hl,fun e=>by cases e⟩,oD (op:=some val) hk.2 hkk n1 n3,n4, ?_⟩;exact kv ⟨[],[0,1],6,[]⟩ rfl (Nat.le_refl _) (o9.same _) f2 f1
theorem wk:∀f,ib P Bx.bV 80 (xc f)
 |0=>by
  rintro⟨⟨(th:Th),(m:As),(fu:Int),(root:Int),(fr:Ws),(fs:Ws),(gn:Ws)⟩,(n:Int),(deep:Int),(key:ByteArray),(val:ByteArray)⟩ ⟨_,_,_,(h1:1≤deep∧deep≤17),(h2:18≤deep+((0:Nat):Int)),_⟩;omega
 |f+1=>by
  have T:=aj8 (wk f);refine fL Tryd.func80 (by kernel_rfl) (fun x=>Nat.le_of_ble_eq_true (by kernel_rfl)) ?_;rintro⟨⟨(th:Th),(m:As),(fu:Int),(root:Int),(fr:Ws),(fs:Ws),(gn:Ws)⟩,(n:Int),(deep:Int),(key:ByteArray),(val:ByteArray)⟩ ⟨(hd:Ds.bH th m fu),(hf:Bx.okW fr),(hn:0≤n∧n≤65536),(h1:1≤deep∧deep≤17),(h2:18≤deep+((f+1:Nat):Int)),(hk:1≤key.size∧key.size≤24),(hv:val.size≤100),_⟩ X hX hz;refine Ds.ew hz hX ab6 T Tryd.func80 (avp f th m fu root fr fs gn n deep key val) ⟨rfl,rfl,hd,yz (by omega) (by omega),fun h=> ?_,fun h=>⟨fun hl=> ?_,fun hl=> ?_⟩⟩
  ·have h:eZ th m n deep≠0:=by simpa using h
   obtain⟨f1,f2⟩:=aj7 (val:=val) (root:=root) (th:=th) (m:=m) (fu:=fu) (fr:=fr) (fs:=fs) (gn:=gn) (key:=key) (f:=f+1) (n:=n) (deep:=deep) (c:=(m,fu,fr,fs,gn,[],eZ th m n deep)) (by rw[gi,if_pos h]);exact kv ⟨[(0,.ae cB [],Lf.eB)],[0,1],6,[]⟩ rfl (Nat.le_refl _) (o9.same _) f2 f1
  ·have h:eZ th m n deep=0:=by simpa using h
   have e:=aqY (root:=root) (val:=val) (gn:=gn) (fs:=fs) hz hX T hd hf hk hv h hl;rw[hl];exact e
  ·have h:eZ th m n deep=0:=by simpa using h
   exact amK hz hX T hd hf h1 h2 hk hv h hl
end
end Ts
namespace Ts
open Go Go.Sx Go.Proofs Lf
theorem aj9{f:Nat}(h:ib P Bx.bV 80 (xd f)):(pb f).Ok P Bx.bV:=aE.Ok.cons (ow.sum mNo) (aE.Ok.cons (v7.sum mLv) (aE.Ok.cons (iE (gr (jM.sum mTN) 1 _) 1) (aE.Ok.cons ajt.sum (aE.Ok.cons vF.sum (aE.Ok.cons r6.sum (aE.Ok.cons (h.sum amD) aE.Ok.nil))))))
section
variable{th:Th}{m:As}{fu root:Int}{fr fs gn:Ws}{n deep:Int}{key val:ByteArray}{f:Nat}{X:Ctx}
theorem ab7{th:Th}{m:As}{fu root:Int}{fr fs gn:Ws}{key:ByteArray}:∀y∈ad1,(qU th m fu root fr fs gn key).length≤y.2.m:=fun y hy=>by
 simp only[ad1,List.mem_cons,List.not_mem_nil,or_false]at hy;rcases hy with rfl|rfl|rfl|rfl<;>exact Nat.le_refl _
theorem afy(hz:dT Bx.bV X)(hX:X.H=lk (qU th m fu root fr fs gn key))(T:(pb f).Ok P Bx.bV){m':As}{fR:Int}{oE kP pZ:Ws}{l:Bool}{es:List En}{bs:List Br}{k:Int}{r:List Br}(hd:Ds.bH th m' fR)(hf:Bx.okW oE)(hl:l=false∧es=[])(he:bc es)
 (hb:bd (bs.take k.toNat++r++bs.drop (k.toNat+1))) (hk0:0≤k) (zk:k<(bs.length:Int)) (hbl:bs.length≤84)
 (e:vZ th key none (f+1) m fu fr fs gn n deep=hP (pM kP pZ n) (bp th m' fR oE (jk kP n) l es (bs.take k.toNat++r++bs.drop (k.toNat+1)))):
 Safe P 80 X (xb (xd (f+1)) ((th,m,fu,root,fr,fs,gn),n,deep,key,val)) (aoE th m' fR root oE kP pZ n key l es bs k r):=by
 rw[←ab4 hk0]at hb e;have hjl:=hb.1;obtain⟨f1,f2⟩:=aho (root:=root) (val:=val) e;refine Ds.ew hz hX ab7 T Tryd.func80 (aqW f th m' fR root oE kP pZ n key l es bs k r) ⟨by omega,hk0,by omega,⟨by omega,by omega⟩,by omega,by omega,by omega,by show 3≤100;omega, ?_,rfl,rfl,rfl,rfl,hd,hf,⟨fun h=>(by rw[hl.1]at h;cases h),fun _=>hl.2⟩,he,hb, ?_⟩
 ·exact Nat.le_trans hjl (by omega)
 ·exact kv ⟨[],[0,1],5,[]⟩ rfl (Nat.le_refl _) (o9.same _) f2 f1
theorem amL(hz:dT Bx.bV X)(hX:X.H=lk (qU th m fu root fr fs gn key))(T:(pb f).Ok P Bx.bV){m':As}{fR:Int}{oE kP pZ:Ws}{l:Bool}{es:List En}{bs:List Br}{k e:Int}{r:List Br}(hd:Ds.bH th m' fR)(hf:Bx.okW oE)(hl:l=false∧es=[])(he:bc es)
 (hb:bd (bs.take k.toNat++kT (bs.getD k.toNat dB).1 r++bs.drop (k.toNat+1))) (hk0:0≤k) (zk:k<(bs.length:Int)) (hbl:bs.length≤84)
 (ee:vZ th key none (f+1) m fu fr fs gn n deep=if e≠0 then(m',fR,oE,kP,pZ,[],e)else hP (pM kP pZ n) (bp th m' fR oE (jk kP n) l es (bs.take k.toNat++kT (bs.getD k.toNat dB).1 r++bs.drop (k.toNat+1)))):
 Safe P 80 X (xb (xd (f+1)) ((th,m,fu,root,fr,fs,gn),n,deep,key,val)) (aoD th m' fR root oE kP pZ n key l es bs k e r):=by
 refine Ds.ew hz hX ab7 T Tryd.func80 (aqV f th m' fR root oE kP pZ n key l es bs k e r) ⟨fun h=> ?_,fun h=>⟨fun h5=> ?_,fun h5=> ?_⟩⟩
 ·have h:e≠0:=by simpa using h
  rw[if_pos h]at ee;obtain⟨f1,f2⟩:=aho (root:=root) (val:=val) ee;exact kv ⟨[(0,.ae cB [],Lf.eB)],[0,1],5,[]⟩ rfl (Nat.le_refl _) (o9.same _) f2 f1
 ·have h:¬e≠0:=by simpa using h
  rw[if_neg h]at ee;have h5:=of_decide_eq_true h5;have e5:=ab5 (r:=r) (k:=(bs.getD k.toNat dB).1) (by omega);rw[←e5]at hb ee;exact⟨hk0,zk,by omega,h5,afy hz hX T hd hf hl he hb hk0 zk hbl ee⟩
 ·have h:¬e≠0:=by simpa using h
  rw[if_neg h]at ee;have h5:=of_decide_eq_false h5;have e5:r=[]:=List.eq_nil_of_length_eq_zero (by omega);subst e5;exact afy hz hX T hd hf hl he hb hk0 zk hbl ee
theorem amM(hz:dT Bx.bV X)(hX:X.H=lk (qU th m fu root fr fs gn key))(T:(pb f).Ok P Bx.bV)(hd:Ds.bH th m fu)(hf:Bx.okW fr)(h1:1≤deep∧deep≤17)(h2:18≤deep+((f+1:Nat):Int))(hk:1≤key.size∧key.size≤24)
 (h:eZ th m n deep=0) (hl:kj th m n deep=false):
 Safe P 80 X (xb (xd (f+1)) ((th,m,fu,root,fr,fs,gn),n,deep,key,val)) (aoC th m fu root fr fs gn n deep key (kj th m n deep) (bS th m n deep) (aO th m n deep)):=by
 obtain⟨hm,n1,n2,n3,n4,n5,_⟩:=eM h;obtain⟨m1,m2,_,_⟩:=dN hm;obtain⟨s1,s2⟩:=qR hm;have hkk:∀v:ByteArray,none=some v→v.size≤100:=fun v e=>by cases e
 refine Ds.ew hz hX ab7 T Tryd.func80 (aqU f th m fu root fr fs gn n deep key (kj th m n deep) (bS th m n deep) (aO th m n deep)) ⟨fun h3=> ?_,fun h3=> ?_⟩
 ·have h3:aO th m n deep=[]:=List.eq_nil_of_length_eq_zero (by have:((aO th m n deep).length:Int)=0:=by simpa using h3
                                                               omega)
  obtain⟨f1,f2⟩:=aho (val:=val) (root:=root) (th:=th) (m:=m) (fu:=fu) (fr:=fr) (fs:=fs) (gn:=gn) (key:=key) (f:=f+1) (n:=n) (deep:=deep) (c:=(m,fu,fr,fs,gn,[],4)) (by rw[gi,if_neg (by rw[h];simp),if_neg (by rw[hl];simp),if_pos h3]);exact kv ⟨[(0,.ae cB [],Lf.eB)],[0,1],5,[]⟩ rfl (Nat.le_refl _) (o9.same _) f2 f1
 ·have h3:aO th m n deep≠[]:=fun e=>by rw[e]at h3;simp at h3
  obtain⟨p0,p1⟩:=sg (key:=key) s2 h3;have pg:=si h (aT (aO th m n deep) key).toNat;have aai:=q9 (th:=th) (key:=key) (op:=none) hk.2 f (m:=m) (fu:=fu) (fr:=fr) (fs:=fs) (gn:=gn) (n:=((aO th m n deep).getD (aT (aO th m n deep) key).toNat dB).2.1) (deep:=deep+1) hd hf;have hb:=wj (bs:=aO th m n deep) (k:=(aT (aO th m n deep) key).toNat) (ab3 hm).2 n2 aai.two aai.key (pT (ab3 hm).2 (aT (aO th m n deep) key).toNat);refine⟨by omega,s2,p0,p1,yz (by omega) (by omega),rfl,rfl,hd,hf,pg,⟨by omega,by omega⟩,by omega,hk,(Nat.zero_le 100),amL hz hX T aai.d aai.fr ⟨hl,m2 hl⟩ n3 hb p0 p1 n2 ?_⟩;rw[gi,if_neg (by rw[h];simp),if_neg (by rw[hl];simp),if_neg h3,hl];rfl
theorem aqZ(hz:dT Bx.bV X)(hX:X.H=lk (qU th m fu root fr fs gn key))(T:(pb f).Ok P Bx.bV)(hd:Ds.bH th m fu)(hf:Bx.okW fr)(hk:1≤key.size∧key.size≤24)
 (h:eZ th m n deep=0) (hl:kj th m n deep=true):
 Safe P 80 X (xb (xd (f+1)) ((th,m,fu,root,fr,fs,gn),n,deep,key,val)) (as4 th m fu root fr fs gn n key (bS th m n deep) (aO th m n deep)):=by
 obtain⟨hm,n1,n2,n3,n4,n5,_⟩:=eM h;obtain⟨m1,m2,_,_⟩:=dN hm;obtain⟨s1,s2⟩:=qR hm;have hkk:∀v:ByteArray,none=some v→v.size≤100:=fun v e=>by cases e
 refine Ds.ew hz hX ab7 T Tryd.func80 (as5 f th m fu root fr fs gn n key (bS th m n deep) (aO th m n deep)) ⟨by omega,s1,fun hb=> ?_,fun hb=> ?_⟩
 ·have hb:gq (bS th m n deep) key=false:=by simpa using hb
  have hc:pL key none (bS th m n deep)=5:=by show(if gq (bS th m n deep) key=true then(0:Int)else 5)=5;rw[if_neg (by rw[hb];simp)]
  obtain⟨f1,f2⟩:=aho (val:=val) (root:=root) (th:=th) (m:=m) (fu:=fu) (fr:=fr) (fs:=fs) (gn:=gn) (key:=key) (f:=f+1) (n:=n) (deep:=deep) (c:=(m,fu,fr,fs,gn,[],5)) (by rw[gi,if_neg (by rw[h];simp),if_pos hl,if_pos (by rw[hc];simp),hc]);exact kv ⟨[(0,.ae cB [],Lf.eB)],[0,1],5,[]⟩ rfl (Nat.le_refl _) (o9.same _) f2 f1
 ·have hb:gq (bS th m n deep) key=true:=by simpa using hb
  have hc:pL key none (bS th m n deep)=0:=by show(if gq (bS th m n deep) key=true then(0:Int)else 5)=0;rw[if_pos hb]
  have ee:doE key none (bS th m n deep)=cD (bS th m n deep) key:=by show(if gq (bS th m n deep) key=true then _ else _)=_;rw[if_pos hb]
  have sm:=oD (key:=key) (op:=none) (es:=bS th m n deep) hk.2 hkk n1 n3;obtain⟨f1,f2⟩:=aho (val:=val) (root:=root) (th:=th) (m:=m) (fu:=fu) (fr:=fr) (fs:=fs) (gn:=gn) (key:=key) (f:=f+1) (n:=n) (deep:=deep) (c:=hP (pM fs gn n) (bp th m fu fr (jk fs n) true (cD (bS th m n deep) key) (aO th m n deep))) (by rw[gi,if_neg (by rw[h];simp),if_pos hl,if_neg (by rw[hc];simp),ee]);rw[ee]at sm;exact⟨rfl,rfl,rfl,rfl,hd,hf,⟨fun _=>m1 hl,fun e=>by cases e⟩,sm,n4,kv ⟨[],[0,1],5,[]⟩ rfl (Nat.le_refl _) (o9.same _) f2 f1⟩
theorem wm:∀f,ib P Bx.bV 80 (xd f)
 |0=>by
  rintro⟨⟨(th:Th),(m:As),(fu:Int),(root:Int),(fr:Ws),(fs:Ws),(gn:Ws)⟩,(n:Int),(deep:Int),(key:ByteArray),(val:ByteArray)⟩ ⟨_,_,_,(h1:1≤deep∧deep≤17),(h2:18≤deep+((0:Nat):Int)),_⟩;omega
 |f+1=>by
  have T:=aj9 (wm f);refine fL Tryd.func80 (by kernel_rfl) (fun x=>Nat.le_of_ble_eq_true (by kernel_rfl)) ?_;rintro⟨⟨(th:Th),(m:As),(fu:Int),(root:Int),(fr:Ws),(fs:Ws),(gn:Ws)⟩,(n:Int),(deep:Int),(key:ByteArray),(val:ByteArray)⟩ ⟨(hd:Ds.bH th m fu),(hf:Bx.okW fr),(hn:0≤n∧n≤65536),(h1:1≤deep∧deep≤17),(h2:18≤deep+((f+1:Nat):Int)),(hk:1≤key.size∧key.size≤24),(hv:val.size≤100),_⟩ X hX hz;refine Ds.ew hz hX ab7 T Tryd.func80 (avq f th m fu root fr fs gn n deep key) ⟨rfl,rfl,hd,yz (by omega) (by omega),fun h=> ?_,fun h=>⟨fun hl=> ?_,fun hl=> ?_⟩⟩
  ·have h:eZ th m n deep≠0:=by simpa using h
   obtain⟨f1,f2⟩:=aho (val:=val) (root:=root) (th:=th) (m:=m) (fu:=fu) (fr:=fr) (fs:=fs) (gn:=gn) (key:=key) (f:=f+1) (n:=n) (deep:=deep) (c:=(m,fu,fr,fs,gn,[],eZ th m n deep)) (by rw[gi,if_pos h]);exact kv ⟨[(0,.ae cB [],Lf.eB)],[0,1],5,[]⟩ rfl (Nat.le_refl _) (o9.same _) f2 f1
  ·have h:eZ th m n deep=0:=by simpa using h
   have e:=aqZ (root:=root) (val:=val) (gn:=gn) (fs:=fs) hz hX T hd hf hk h hl;rw[hl];exact e
  ·have h:eZ th m n deep=0:=by simpa using h
   exact amM hz hX T hd hf h1 h2 hk h hl
end
end Ts
namespace Ts
open Go Go.Sx Go.Proofs Lf
def oL(th:Th)(m:As):Nat→Ws→Ws→Int→Int→Ws×Ws×Int×Int
 |0,fs,gn,_,_=>(fs,gn,0,4)
 |f+1,fs,gn,n,deep=>
  if eZ th m n deep≠0 then(fs,gn,0,eZ th m n deep)
  else if kj th m n deep=true∨(aO th m n deep).length≠1 then(fs,gn,n,0)
  else oL th m f (jk fs n) (pM fs gn n) ((aO th m n deep).getD 0 dB).2.1 (deep+1)
def wo(th:Th)(m:As)(f:Nat)(fs gn:Ws)(n deep:Int):Ws:=(oL th m f fs gn n deep).1
def wq(th:Th)(m:As)(f:Nat)(fs gn:Ws)(n deep:Int):Ws:=(oL th m f fs gn n deep).2.1
def xf(th:Th)(m:As)(f:Nat)(fs gn:Ws)(n deep:Int):Int:=(oL th m f fs gn n deep).2.2.1
def xg(th:Th)(m:As)(f:Nat)(fs gn:Ws)(n deep:Int):Int:=(oL th m f fs gn n deep).2.2.2
abbrev sLo:Spec (XT×Int):=⟨fun(_,n)=>[.ptr 0 0,bD n],fun((th,m,fu,root,fr,fs,gn),_)=>hT th m fu root fr fs gn,fun((th,m,fu,_),n)=>[Ds.bH th m fu,0≤n∧n≤65536],
 fun((th,m,fu,root,fr,fs,gn),n)=>hT th m fu root fr (wo th m 17 fs gn n 1) (wq th m 17 fs gn n 1),fun((th,m,_,_,_,fs,gn),n)=>.bo [bD (xf th m 17 fs gn n 1),bD (xg th m 17 fs gn n 1)]⟩
def aka:aE:=[(37,yu),(85,ajX)]
def amN:List (Nat×Norm):=[(3,⟨[],[0,1,6],4,[]⟩)]
noncomputable def cLo(th:Th)(m:As)(fu root:Int)(fr fs gn:Ws)(n deep:Int):bA:=⟨sl 38 [(0,.ptr 0 0),(1,bD n),(6,bD deep)],hT th m fu root fr fs gn,hd Tryd.f67 3,{}⟩
theorem avr(th:Th)(m:As)(fu root:Int)(fr fs gn:Ws)(n:Int):run P aka.sum Tryd.f67 amN (start Tryd.f67 [.ptr 0 0,bD n] (hT th m fu root fr fs gn))=
 Tree.at (.mk (sl 38 [(0,.ptr 0 0),(1,.s (.int .i64 n)),(6,.s (.int .i64 1))]) [.own [.ptr 1 0,.s (.int .i64 root),.ints .u64 16 fr,.ints .u64 16 fs,.ints .u64 16 gn] 70,.own [.vec 2,.ag 3,.s (.int .i64 fu)] 96,.vec (.ae [.arr .u8 64] th) 138,.map (.arr .u8 64) m] (hd Tryd.f67 3) (.mk none false 0 [] 0)):=by kernel_rfl
theorem avs(th:Th)(m:As)(fu root:Int)(fr fs gn:Ws)(n deep:Int):run P aka.sum Tryd.f67 amN (cLo th m fu root fr fs gn n deep)=
 Tree.need (bt (some [AV.ptr 0 0,.s (.int .i64 n),.s (.int .i64 deep)]))
 (.need (bt (some [ad.own [.ptr 1 0,.s (.int .i64 root),.ints .u64 16 fr,.ints .u64 16 fs,.ints .u64 16 gn] 70,.own [.vec 2,.ag 3,.s (.int .i64 fu)] 96,.vec (.ae [.arr .u8 64] th) 138,.map (.arr .u8 64) m])) (.need (Ds.bH th m fu) (.need (aF n) (.ite (eZ th m n deep !=0) (.ret [.own [.ptr 1 0,.s (.int .i64 root),.ints .u64 16 fr,.ints .u64 16 fs,.ints .u64 16 gn] 70,.own [.vec 2,.ag 3,.s (.int .i64 fu)] 96,.vec (.ae [.arr .u8 64] th) 138,.map (.arr .u8 64) m,.own [.s (.bool (kj th m n deep)),.s (.ro (.ae [.str,.str] (bS th m n deep))),.s (.ro (.ae [.str,.int .i64] (aO th m n deep)))] 73] (.bo [.s (.aV .i64 0),.s (.int .i64 (eZ th m n deep))])) (.ite (kj th m n deep) (.ret [.own [.ptr 1 0,.s (.int .i64 root),.ints .u64 16 fr,.ints .u64 16 fs,.ints .u64 16 gn] 70,.own [.vec 2,.ag 3,.s (.int .i64 fu)] 96,.vec (.ae [.arr .u8 64] th) 138,.map (.arr .u8 64) m,.own [.s (.bool (kj th m n deep)),.s (.ro (.ae [.str,.str] (bS th m n deep))),.s (.ro (.ae [.str,.int .i64] (aO th m n deep)))] 73] (.bo [.s (.int .i64 n),.s (.aV .i64 0)])) (.ite ((↑(aO th m n deep).length:Int) !=1) (.ret [.own [.ptr 1 0,.s (.int .i64 root),.ints .u64 16 fr,.ints .u64 16 fs,.ints .u64 16 gn] 70,.own [.vec 2,.ag 3,.s (.int .i64 fu)] 96,.vec (.ae [.arr .u8 64] th) 138,.map (.arr .u8 64) m,.own [.s (.bool (kj th m n deep)),.s (.ro (.ae [.str,.str] (bS th m n deep))),.s (.ro (.ae [.str,.int .i64] (aO th m n deep)))] 73] (.bo [.s (.int .i64 n),.s (.aV .i64 0)])) (.need (bt (some [AV.ptr 0 0,.s (.int .i64 n)])) (.need (bt (some [ad.own [.ptr 1 0,.s (.int .i64 root),.ints .u64 16 fr,.ints .u64 16 fs,.ints .u64 16 gn] 70,.own [.vec 2,.ag 3,.s (.int .i64 fu)] 96,.vec (.ae [.arr .u8 64] th) 138,.map (.arr .u8 64) m])) (.need ((0:Int)≤0) (.need ((0:Int)<(↑(aO th m n deep).length:Int)) (.need (aF (deep+1)) (.at (.mk (sl 38 [(0,.ptr 0 0),(1,.s (.int .i64 ((aO th m n deep).getD 0 (CL.d [.str,.int .i64])).snd.fst)),(6,.s (.int .i64 (deep+1)))]) [.own [.ptr 1 0,.s (.int .i64 root),.ints .u64 16 fr,.ints .u64 16 (jk fs n),.ints .u64 16 (pM fs gn n)] 70,.own [.vec 2,.ag 3,.s (.int .i64 fu)] 96,.vec (.ae [.arr .u8 64] th) 138,.map (.arr .u8 64) m] (hd Tryd.f67 3) (.mk none false 0 [] 0)))))))))))))):=by kernel_rfl
theorem ab8{Z:aX}:aka.Ok P Z:=aE.Ok.cons (ow.sum mNo) (aE.Ok.cons (v7.sum mLv) aE.Ok.nil)
theorem akb{th:Th}{m:As}{fu root:Int}{fr fs gn:Ws}{n:Int}{c:Ws×Ws×Int×Int}(e:c=oL th m 17 fs gn n 1):
 sLo.fH ((th,m,fu,root,fr,fs,gn),n)=hT th m fu root fr c.1 c.2.1∧sLo.out ((th,m,fu,root,fr,fs,gn),n)=.bo [bD c.2.2.1,bD c.2.2.2]:=by
 subst e;exact⟨rfl,rfl⟩
theorem ab9{Z:aX}:ib P Z 67 sLo:=by
 refine aC Tryd.func67 (by kernel_rfl) (fun x=>Nat.le_of_ble_eq_true (by kernel_rfl)) ?_;rintro⟨⟨(th:Th),(m:As),(fu:Int),(root:Int),(fr:Ws),(dm:Ws),(dq:Ws)⟩,(n0:Int)⟩ ⟨(hd:Ds.bH th m fu),(hn0:0≤n0∧n0≤65536),_⟩ X hX hz
 have hm:∀y∈amN,(hT th m fu root fr dm dq).length≤y.2.m:=fun y hy=>by
  simp only[amN,List.mem_singleton]at hy;subst hy;exact Nat.le_refl _
 have loop:∀(f:Nat) (fs gn:Ws) (n deep:Int),1≤deep∧deep≤17→18≤deep+(f:Int)→0≤n∧n≤65536→oL th m f fs gn n deep=oL th m 17 dm dq n0 1→
  Safe P 67 X (kq sLo ((th,m,fu,root,fr,dm,dq),n0)) (cLo th m fu root fr fs gn n deep):=by
  intro f
  induction f with
  |zero=>intro fs gn n deep h1 h2;omega
  |succ f ih=>
   intro fs gn n deep h1 h2 hn e;rw[oL]at e;refine Ds.ew hz hX hm ab8 Tryd.func67 (avs th m fu root fr fs gn n deep) ⟨rfl,rfl,hd,yz (by omega) (by omega),fun h=> ?_,fun h=>⟨fun hl=> ?_,fun hl=>⟨fun h3=> ?_,fun h3=> ?_⟩⟩⟩
   ·have h:eZ th m n deep≠0:=by simpa using h
    rw[if_pos h]at e;obtain⟨f1,f2⟩:=akb (fu:=fu) (root:=root) (fr:=fr) e;exact bQ 4 rfl (Nat.le_refl _) f2 f1
   ·have h:eZ th m n deep=0:=by simpa using h
    rw[if_neg (by rw[h];simp),if_pos (.inl hl)]at e;obtain⟨f1,f2⟩:=akb (fu:=fu) (root:=root) (fr:=fr) e;exact bQ 4 rfl (Nat.le_refl _) f2 f1
   ·have h:eZ th m n deep=0:=by simpa using h
    have h3:¬((aO th m n deep).length:Int)=1:=by simpa using h3
    rw[if_neg (by rw[h];simp),if_pos (.inr (by omega))]at e;obtain⟨f1,f2⟩:=akb (fu:=fu) (root:=root) (fr:=fr) e;exact bQ 4 rfl (Nat.le_refl _) f2 f1
   ·have h:eZ th m n deep=0:=by simpa using h
    have h3:((aO th m n deep).length:Int)=1:=by simpa using h3
    rw[if_neg (by rw[h];simp),if_neg (by rintro(a|a);rw[hl]at a;cases a;omega)]at e;have pg:=si h 0;obtain⟨_,_,_,_,_,n5,_⟩:=eM h;exact⟨rfl,rfl,by omega,by omega,yz (by omega) (by omega),ih _ _ _ _ ⟨by omega,by omega⟩ (by omega) pg e⟩
 exact Ds.ew hz hX hm ab8 Tryd.func67 (avr th m fu root fr dm dq n0) (loop 17 dm dq n0 1 ⟨by omega,by omega⟩ (by omega) hn0 rfl)
end Ts
namespace Ts
open Go Go.Sx Go.Proofs Lf
def jb(th:Th)(key:ByteArray)(op:Option ByteArray)(m:As)(fu root:Int)(fr fs gn:Ws):Chg:=
 if root≠0 then vZ th key op 17 m fu fr fs gn root 1
 else if pL key op []≠0 then(m,fu,fr,fs,gn,[],pL key op [])
 else hP gn (bp th m fu fr fs true (doE key op []) [])
abbrev XK:Type:=XT×ByteArray×ByteArray
def xh(th:Th)(key:ByteArray)(op:Option ByteArray)(m:As)(fu root:Int)(fr fs gn:Ws):As:=(jb th key op m fu root fr fs gn).1
def xi(th:Th)(key:ByteArray)(op:Option ByteArray)(m:As)(fu root:Int)(fr fs gn:Ws):Int:=(jb th key op m fu root fr fs gn).2.1
def xj(th:Th)(key:ByteArray)(op:Option ByteArray)(m:As)(fu root:Int)(fr fs gn:Ws):Ws:=(jb th key op m fu root fr fs gn).2.2.1
def aca(th:Th)(key:ByteArray)(op:Option ByteArray)(m:As)(fu root:Int)(fr fs gn:Ws):Ws:=(jb th key op m fu root fr fs gn).2.2.2.1
def acb(th:Th)(key:ByteArray)(op:Option ByteArray)(m:As)(fu root:Int)(fr fs gn:Ws):Ws:=(jb th key op m fu root fr fs gn).2.2.2.2.1
def wu(th:Th)(key:ByteArray)(op:Option ByteArray)(m:As)(fu root:Int)(fr fs gn:Ws):List Br:=(jb th key op m fu root fr fs gn).2.2.2.2.2.1
def wv(th:Th)(key:ByteArray)(op:Option ByteArray)(m:As)(fu root:Int)(fr fs gn:Ws):Int:=(jb th key op m fu root fr fs gn).2.2.2.2.2.2
def afz(th:Th)(m:As)(fu root:Int)(fr:Ws)(key val:ByteArray):List Prop:=[Ds.bH th m fu,Bx.okW fr,0≤root∧root≤65536,1≤key.size∧key.size≤24,val.size≤100]
abbrev amO:Spec XK:=⟨fun(_,key,_)=>[.ptr 0 0,.s (.str key),.fn fP1 [.ptr 4 0,.ptr 5 0]],fun((th,m,fu,root,fr,fs,gn),key,val)=>qT th m fu root fr fs gn key val,fun((th,m,fu,root,fr,_,_),key,val)=>afz th m fu root fr key val,
 fun((th,m,fu,root,fr,fs,gn),key,val)=>qT th (xh th key (some val) m fu root fr fs gn) (xi th key (some val) m fu root fr fs gn) root (xj th key (some val) m fu root fr fs gn) (aca th key (some val) m fu root fr fs gn) (acb th key (some val) m fu root fr fs gn) key val++[.vec (.ae cB (wu th key (some val) m fu root fr fs gn)) Lf.eB],
 fun((th,m,fu,root,fr,fs,gn),key,val)=>.bo [.vec 6,bD (wv th key (some val) m fu root fr fs gn)]⟩
abbrev amP:Spec XK:=⟨fun(_,key,_)=>[.ptr 0 0,.s (.str key),.fn fD1 [.ptr 4 0]],fun((th,m,fu,root,fr,fs,gn),key,_)=>qU th m fu root fr fs gn key,fun((th,m,fu,root,fr,_,_),key,val)=>afz th m fu root fr key val,
 fun((th,m,fu,root,fr,fs,gn),key,_)=>qU th (xh th key none m fu root fr fs gn) (xi th key none m fu root fr fs gn) root (xj th key none m fu root fr fs gn) (aca th key none m fu root fr fs gn) (acb th key none m fu root fr fs gn) key++[.vec (.ae cB (wu th key none m fu root fr fs gn)) Lf.eB],
 fun((th,m,fu,root,fr,fs,gn),key,_)=>.bo [.vec 5,bD (wv th key none m fu root fr fs gn)]⟩
def amQ:List AV→RM (XK×List Nat)
 |[t,.s (.str _),.fn _ [.ptr i 0,.ptr j 0]]=>(mT [t]).bind fun(X,σ)=>.look i fun o=>match o with
  |some (.own [.s (.str key)] _)=>.look j fun o=>match o with
   |some (.own [.s (.str val)] _)=>.ret ((X,key,val),σ++[i,j])
   |_=>.fail "no text"
  |_=>.fail "no text"
 |_=>.fail "top: arguments"
def amR:List AV→RM (XK×List Nat)
 |[t,.s (.str _),.fn _ [.ptr i 0]]=>(mT [t]).bind fun(X,σ)=>.look i fun o=>match o with
  |some (.own [.s (.str key)] _)=>.ret ((X,key,ByteArray.empty),σ++[i])
  |_=>.fail "no text"
 |_=>.fail "top: arguments"
def aoF:aE:=[(80,cI (xc 17) amC),(50,aox),(66,yv)]
def aoG:aE:=[(80,cI (xd 17) amD),(52,aoy),(66,yv)]
theorem avt(th:Th)(m:As)(fu root:Int)(fr fs gn:Ws)(key val:ByteArray):run P aoF.sum Tryd.f65 [] (start Tryd.f65 [.ptr 0 0,.s (.str key),.fn fP1 [.ptr 4 0,.ptr 5 0]] (qT th m fu root fr fs gn key val)) (inl:=[fP1])=
 Tree.ite (root !=0) (.need (bt (some [AV.ptr 0 0,.s (.int .i64 root),.s (.int .i64 1),.s (.str key),.fn 49 [.ptr 4 0,.ptr 5 0]])) (.need (bt (some [ad.own [.ptr 1 0,.s (.int .i64 root),.ints .u64 16 fr,.ints .u64 16 fs,.ints .u64 16 gn] 70,.own [.vec 2,.ag 3,.s (.int .i64 fu)] 96,.vec (.ae [.arr .u8 64] th) 138,.map (.arr .u8 64) m,.own [.s (.str key)] 9,.own [.s (.str val)] 9])) (.need (Ds.bH th m fu) (.need (Bx.okW fr) (.need ((0:Int)≤root∧root≤65536) (.need ((1:Int)≤1∧(1:Int)≤17) (.need ((18:Int)≤1+(↑(17:Nat):Int)) (.need ((1:Nat)≤key.size∧key.size≤24) (.need (val.size≤100) (.ret [.own [.ptr 1 0,.s (.int .i64 root),.ints .u64 16 (pR th key (some val) 17 m fu fr fs gn root 1),.ints .u64 16 (qV th key (some val) 17 m fu fr fs gn root 1),.ints .u64 16 (r8 th key (some val) 17 m fu fr fs gn root 1)] 70,.own [.vec 2,.ag 3,.s (.int .i64 (pQ th key (some val) 17 m fu fr fs gn root 1))] 96,.vec (.ae [.arr .u8 64] th) 138,.map (.arr .u8 64) (pP th key (some val) 17 m fu fr fs gn root 1),.own [.s (.str key)] 9,.own [.s (.str val)] 9,.vec (.ae [.str,.int .i64] (tp th key (some val) 17 m fu fr fs gn root 1)) 79] (.bo [.vec 6,.s (.int .i64 (r9 th key (some val) 17 m fu fr fs gn root 1))]))))))))))) (.need ((0:Nat)≤100000) (.need (im (bB [])) (.need (bt (some [AV.ptr 0 0,.agg [.s (.bool true),.s (.ro (.ae [.str,.str] (bz [] key val))),.s (.ro (.ae [.str,.int .i64] []))]])) (.need (bt (some [ad.own [.ptr 1 0,.s (.int .i64 root),.ints .u64 16 fr,.ints .u64 16 fs,.ints .u64 16 gn] 70,.own [.vec 2,.ag 3,.s (.int .i64 fu)] 96,.vec (.ae [.arr .u8 64] th) 138,.map (.arr .u8 64) m])) (.need (Ds.bH th m fu) (.need (Bx.okW fr) (.need (aae true (bz [] key val) []) (.need (bc (bz [] key val)) (.need (bd []) (.ret [.own [.ptr 1 0,.s (.int .i64 root),.ints .u64 16 (bp th m fu fr fs true (bz [] key val) []).snd.snd.fst,.ints .u64 16 (bp th m fu fr fs true (bz [] key val) []).snd.snd.snd.fst,.ints .u64 16 gn] 70,.own [.vec 2,.ag 3,.s (.int .i64 (bp th m fu fr fs true (bz [] key val) []).snd.fst)] 96,.vec (.ae [.arr .u8 64] th) 138,.map (.arr .u8 64) (bp th m fu fr fs true (bz [] key val) []).fst,.own [.s (.str key)] 9,.own [.s (.str val)] 9,.dead,.vec (.ae [.str,.int .i64] (bp th m fu fr fs true (bz [] key val) []).snd.snd.snd.snd.fst) 79] (.bo [.vec 7,.s (.int .i64 (bp th m fu fr fs true (bz [] key val) []).snd.snd.snd.snd.snd)]))))))))))):=by kernel_rfl
theorem avu(th:Th)(m:As)(fu root:Int)(fr fs gn:Ws)(key:ByteArray):run P aoG.sum Tryd.f65 [] (start Tryd.f65 [.ptr 0 0,.s (.str key),.fn fD1 [.ptr 4 0]] (qU th m fu root fr fs gn key)) (inl:=[fD1])=
 Tree.ite (root !=0) (.need (bt (some [AV.ptr 0 0,.s (.int .i64 root),.s (.int .i64 1),.s (.str key),.fn 51 [.ptr 4 0]])) (.need (bt (some [ad.own [.ptr 1 0,.s (.int .i64 root),.ints .u64 16 fr,.ints .u64 16 fs,.ints .u64 16 gn] 70,.own [.vec 2,.ag 3,.s (.int .i64 fu)] 96,.vec (.ae [.arr .u8 64] th) 138,.map (.arr .u8 64) m,.own [.s (.str key)] 9])) (.need (Ds.bH th m fu) (.need (Bx.okW fr) (.need ((0:Int)≤root∧root≤65536) (.need ((1:Int)≤1∧(1:Int)≤17) (.need ((18:Int)≤1+(↑(17:Nat):Int)) (.need ((1:Nat)≤key.size∧key.size≤24) (.need (ByteArray.empty.size≤100) (.ret [.own [.ptr 1 0,.s (.int .i64 root),.ints .u64 16 (pR th key none 17 m fu fr fs gn root 1),.ints .u64 16 (qV th key none 17 m fu fr fs gn root 1),.ints .u64 16 (r8 th key none 17 m fu fr fs gn root 1)] 70,.own [.vec 2,.ag 3,.s (.int .i64 (pQ th key none 17 m fu fr fs gn root 1))] 96,.vec (.ae [.arr .u8 64] th) 138,.map (.arr .u8 64) (pP th key none 17 m fu fr fs gn root 1),.own [.s (.str key)] 9,.vec (.ae [.str,.int .i64] (tp th key none 17 m fu fr fs gn root 1)) 79] (.bo [.vec 5,.s (.int .i64 (r9 th key none 17 m fu fr fs gn root 1))])))))))))))
 (.need ((0:Nat)≤100000) (.need (im (bB [])) (.ite (!gq [] key) (.ret [.own [.ptr 1 0,.s (.int .i64 root),.ints .u64 16 fr,.ints .u64 16 fs,.ints .u64 16 gn] 70,.own [.vec 2,.ag 3,.s (.int .i64 fu)] 96,.vec (.ae [.arr .u8 64] th) 138,.map (.arr .u8 64) m,.own [.s (.str key)] 9,.vec (.ae [.str,.str] (cD [] key)) 34] (.bo [.emp,.s (.aV .i64 5)])) (.need (bt (some [AV.ptr 0 0,.agg [.s (.bool true),.s (.ro (.ae [.str,.str] (cD [] key))),.s (.ro (.ae [.str,.int .i64] []))]])) (.need (bt (some [ad.own [.ptr 1 0,.s (.int .i64 root),.ints .u64 16 fr,.ints .u64 16 fs,.ints .u64 16 gn] 70,.own [.vec 2,.ag 3,.s (.int .i64 fu)] 96,.vec (.ae [.arr .u8 64] th) 138,.map (.arr .u8 64) m])) (.need (Ds.bH th m fu) (.need (Bx.okW fr) (.need (aae true (cD [] key) []) (.need (bc (cD [] key)) (.need (bd []) (.ret [.own [.ptr 1 0,.s (.int .i64 root),.ints .u64 16 (bp th m fu fr fs true (cD [] key) []).snd.snd.fst,.ints .u64 16 (bp th m fu fr fs true (cD [] key) []).snd.snd.snd.fst,.ints .u64 16 gn] 70,.own [.vec 2,.ag 3,.s (.int .i64 (bp th m fu fr fs true (cD [] key) []).snd.fst)] 96,.vec (.ae [.arr .u8 64] th) 138,.map (.arr .u8 64) (bp th m fu fr fs true (cD [] key) []).fst,.own [.s (.str key)] 9,.dead,.vec (.ae [.str,.int .i64] (bp th m fu fr fs true (cD [] key) []).snd.snd.snd.snd.fst) 79] (.bo [.vec 6,.s (.int .i64 (bp th m fu fr fs true (cD [] key) []).snd.snd.snd.snd.snd)])))))))))))):=by kernel_rfl
theorem aoH{th:Th}{m:As}{fu root:Int}{fr fs gn:Ws}{key val:ByteArray}{c:Chg}(e:jb th key (some val) m fu root fr fs gn=c):
 amO.fH ((th,m,fu,root,fr,fs,gn),key,val)=qT th c.1 c.2.1 root c.2.2.1 c.2.2.2.1 c.2.2.2.2.1 key val++[.vec (.ae cB c.2.2.2.2.2.1) Lf.eB]∧amO.out ((th,m,fu,root,fr,fs,gn),key,val)=.bo [.vec 6,bD c.2.2.2.2.2.2]:=by
 subst e;exact⟨rfl,rfl⟩
theorem akc:aoF.Ok P Bx.bV:=aE.Ok.cons ((wk 17).sum amC) (aE.Ok.cons ajC.ve (aE.Ok.cons (iE (gr (jM.sum mTN) 1 _) 1) aE.Ok.nil))
theorem amS:ib P Bx.bV 65 amO:=by
 refine fL Tryd.func65 (by kernel_rfl) (fun x=>Nat.le_of_ble_eq_true (by kernel_rfl)) ?_;rintro⟨⟨(th:Th),(m:As),(fu:Int),(root:Int),(fr:Ws),(fs:Ws),(gn:Ws)⟩,(key:ByteArray),(val:ByteArray)⟩ ⟨(hd:Ds.bH th m fu),(hf:Bx.okW fr),(hr:0≤root∧root≤65536),(hk:1≤key.size∧key.size≤24),(hv:val.size≤100),_⟩ X hX hz;have hkk:∀v:ByteArray,(some val)=some v→v.size≤100:=fun v e=>by cases e;exact hv
 have sm:=oD (key:=key) (op:=(some val)) (es:=[]) hk.2 hkk (Nat.zero_le _) iD;refine Ds.ew hz hX (by intro y hy;cases hy) akc Tryd.func65 (avt th m fu root fr fs gn key val) ⟨fun h=>⟨rfl,rfl,hd,hf,hr,⟨by omega,by omega⟩,by omega,hk,hv, ?_⟩,fun h=>⟨by omega,by unfold im;intro i j _ hj;simp at hj,rfl,rfl,hd,hf,⟨fun _=>rfl,fun e=>by cases e⟩,sm,vQ, ?_⟩⟩
 ·have h:root≠0:=by simpa using h
  obtain⟨f1,f2⟩:=aoH (val:=val) (show jb th key (some val) m fu root fr fs gn=vZ th key (some val) 17 m fu fr fs gn root 1 by unfold jb;rw[if_pos h]);exact kv ⟨[],[0,1],6,[]⟩ rfl (Nat.le_refl _) (o9.same _) f2 f1
 ·have h:¬root≠0:=by simpa using h
  obtain⟨f1,f2⟩:=aoH (val:=val) (show jb th key (some val) m fu root fr fs gn=hP gn (bp th m fu fr fs true (bz [] key val) [])by unfold jb;rw[if_neg h,if_neg (by show¬(0:Int)≠0;simp)];rfl);exact kv ⟨[],[0,1],6,[]⟩ rfl (Nat.le_refl _) (o9.same _) f2 f1
theorem aoI{th:Th}{m:As}{fu root:Int}{fr fs gn:Ws}{key val:ByteArray}{c:Chg}(e:jb th key none m fu root fr fs gn=c):
 amP.fH ((th,m,fu,root,fr,fs,gn),key,val)=qU th c.1 c.2.1 root c.2.2.1 c.2.2.2.1 c.2.2.2.2.1 key++[.vec (.ae cB c.2.2.2.2.2.1) Lf.eB]∧amP.out ((th,m,fu,root,fr,fs,gn),key,val)=.bo [.vec 5,bD c.2.2.2.2.2.2]:=by
 subst e;exact⟨rfl,rfl⟩
theorem akd:aoG.Ok P Bx.bV:=aE.Ok.cons ((wm 17).sum amD) (aE.Ok.cons ajt.sum (aE.Ok.cons (iE (gr (jM.sum mTN) 1 _) 1) aE.Ok.nil))
theorem amT:ib P Bx.bV 65 amP:=by
 refine fL Tryd.func65 (by kernel_rfl) (fun x=>Nat.le_of_ble_eq_true (by kernel_rfl)) ?_;rintro⟨⟨(th:Th),(m:As),(fu:Int),(root:Int),(fr:Ws),(fs:Ws),(gn:Ws)⟩,(key:ByteArray),(val:ByteArray)⟩ ⟨(hd:Ds.bH th m fu),(hf:Bx.okW fr),(hr:0≤root∧root≤65536),(hk:1≤key.size∧key.size≤24),(hv:val.size≤100),_⟩ X hX hz;have hkk:∀v:ByteArray,none=some v→v.size≤100:=fun v e=>by cases e
 have sm:=oD (key:=key) (op:=none) (es:=[]) hk.2 hkk (Nat.zero_le _) iD;refine Ds.ew hz hX (by intro y hy;cases hy) akd Tryd.func65 (avu th m fu root fr fs gn key) ⟨fun h=>⟨rfl,rfl,hd,hf,hr,⟨by omega,by omega⟩,by omega,hk,(Nat.zero_le 100), ?_⟩,fun h=>⟨by omega,by unfold im;intro i j _ hj;simp at hj,fun hb=> ?_,fun hb=> ?_⟩⟩
 ·have h:root≠0:=by simpa using h
  obtain⟨f1,f2⟩:=aoI (val:=val) (show jb th key none m fu root fr fs gn=vZ th key none 17 m fu fr fs gn root 1 by unfold jb;rw[if_pos h]);exact kv ⟨[],[0,1],5,[]⟩ rfl (Nat.le_refl _) (o9.same _) f2 f1
 ·have h:¬root≠0:=by simpa using h
  obtain⟨f1,f2⟩:=aoI (val:=val) (show jb th key none m fu root fr fs gn=(m,fu,fr,fs,gn,[],5)by unfold jb;rw[if_neg h,if_pos (by show(5:Int)≠0;simp)];rfl);exact kv ⟨[(0,.ae cB [],Lf.eB)],[0,1],5,[]⟩ rfl (Nat.le_refl _) (o9.same _) f2 f1
 ·exact absurd hb (by show¬(!gq [] key)=false;simp[gq,cD])
end Ts
namespace Ts
open Go Go.Sx Go.Proofs Lf
def upT(th:Th)(c:Chg):Chg:=if c.2.2.2.2.2.2=0∧1<c.2.2.2.2.2.1.length then hP c.2.2.2.2.1 (bp th c.1 c.2.1 c.2.2.1 c.2.2.2.1 false [] c.2.2.2.2.2.1)else c
abbrev Chs:Type:=As×Int×Int×Ws×Ws×Ws×Int
def nQ(th:Th)(aP:Int)(dH dm dq:Ws)(m:As)(fu root:Int)(fr fs gn:Ws)(e:Int):Chs:=
 if e≠0 then(m,fu,aP,dH,dm,dq,e)else(m,fu,root,Bx.ct .or fr gn,fs,Bx.ah,0)
def jG(th:Th)(aP:Int)(dH dm dq:Ws)(c:Chg):Chs:=
 if c.2.2.2.2.2.2=0∧c.2.2.2.2.2.1.length=1 then
  nQ th aP dH dm dq c.1 c.2.1 (xf th c.1 17 c.2.2.2.1 c.2.2.2.2.1 (c.2.2.2.2.2.1.getD 0 dB).2.1 1) c.2.2.1 (wo th c.1 17 c.2.2.2.1 c.2.2.2.2.1 (c.2.2.2.2.2.1.getD 0 dB).2.1 1) (wq th c.1 17 c.2.2.2.1 c.2.2.2.2.1 (c.2.2.2.2.2.1.getD 0 dB).2.1 1) (xg th c.1 17 c.2.2.2.1 c.2.2.2.2.1 (c.2.2.2.2.2.1.getD 0 dB).2.1 1)
 else nQ th aP dH dm dq c.1 c.2.1 0 c.2.2.1 c.2.2.2.1 c.2.2.2.2.1 c.2.2.2.2.2.2
def kx(th:Th)(key:ByteArray)(op:Option ByteArray)(m:As)(fu root:Int)(fr fs gn:Ws):Chs:=jG th root fr fs gn (upT th (jb th key op m fu root fr fs gn))
def amU(th:Th)(key:ByteArray)(op:Option ByteArray)(m:As)(fu root:Int)(fr fs gn:Ws):As:=(kx th key op m fu root fr fs gn).1
def amV(th:Th)(key:ByteArray)(op:Option ByteArray)(m:As)(fu root:Int)(fr fs gn:Ws):Int:=(kx th key op m fu root fr fs gn).2.1
def amW(th:Th)(key:ByteArray)(op:Option ByteArray)(m:As)(fu root:Int)(fr fs gn:Ws):Int:=(kx th key op m fu root fr fs gn).2.2.1
def amX(th:Th)(key:ByteArray)(op:Option ByteArray)(m:As)(fu root:Int)(fr fs gn:Ws):Ws:=(kx th key op m fu root fr fs gn).2.2.2.1
def amY(th:Th)(key:ByteArray)(op:Option ByteArray)(m:As)(fu root:Int)(fr fs gn:Ws):Ws:=(kx th key op m fu root fr fs gn).2.2.2.2.1
def amZ(th:Th)(key:ByteArray)(op:Option ByteArray)(m:As)(fu root:Int)(fr fs gn:Ws):Ws:=(kx th key op m fu root fr fs gn).2.2.2.2.2.1
def am0(th:Th)(key:ByteArray)(op:Option ByteArray)(m:As)(fu root:Int)(fr fs gn:Ws):Int:=(kx th key op m fu root fr fs gn).2.2.2.2.2.2
abbrev sOr:=bZ [Bx.dw,Bx.dw] [Bx.dw] (fun _=>[]) (fun(a,b,())=>(Bx.ct .or a b,()))
abbrev acd:Spec XK:=⟨fun(_,key,_)=>[.ptr 0 0,.s (.str key),.fn fP1 [.ptr 4 0,.ptr 5 0]],fun((th,m,fu,root,fr,fs,gn),key,val)=>qT th m fu root fr fs gn key val,fun((th,m,fu,root,fr,_,_),key,val)=>afz th m fu root fr key val,
 fun((th,m,fu,root,fr,fs,gn),key,val)=>qT th (amU th key (some val) m fu root fr fs gn) (amV th key (some val) m fu root fr fs gn) (amW th key (some val) m fu root fr fs gn) (amX th key (some val) m fu root fr fs gn) (amY th key (some val) m fu root fr fs gn) (amZ th key (some val) m fu root fr fs gn) key val,
 fun((th,m,fu,root,fr,fs,gn),key,val)=>bD (am0 th key (some val) m fu root fr fs gn)⟩
def wx:aE:=[(65,cI amO amQ),(66,yv),(67,cI sLo mLv),(28,sOr)]
def yA:List (Nat×Norm):=[(3,⟨[],[0,7,8,9],6,[]⟩),(5,⟨[],[0,7,8,9],6,[]⟩),(8,⟨[],[0,7,9],6,[]⟩)]
noncomputable def ake(th:Th)(aP:Int)(dH dm dq:Ws)(m:As)(fu root:Int)(fr fs gn:Ws)(key val:ByteArray)(l:List Br)(e:Int):bA:=⟨sl 78 [(0,.ptr 0 0),(7,.ptr 6 0),(8,.vec 7),(9,bD e)],qT th m fu root fr fs gn key val++[obT 1 aP dH dm dq,.vec (.ae cB l) Lf.eB],hd Tryd.f48 3,{}⟩
noncomputable def aoJ(th:Th)(aP:Int)(dH dm dq:Ws)(m:As)(fu root:Int)(fr fs gn:Ws)(key val:ByteArray)(l:List Br)(e:Int):bA:=⟨sl 78 [(0,.ptr 0 0),(7,.ptr 6 0),(8,.vec 7),(9,bD e)],qT th m fu root fr fs gn key val++[obT 1 aP dH dm dq,.vec (.ae cB l) Lf.eB],hr Tryd.f48 5,{}⟩
noncomputable def aoK(th:Th)(aP:Int)(dH dm dq:Ws)(m:As)(fu root:Int)(fr fs gn:Ws)(key val:ByteArray)(e:Int):bA:=⟨sl 78 [(0,.ptr 0 0),(7,.ptr 6 0),(9,bD e)],qT th m fu root fr fs gn key val++[obT 1 aP dH dm dq],hr Tryd.f48 8,{}⟩
theorem as8(th:Th)(m:As)(fu root:Int)(fr fs gn:Ws)(key val:ByteArray):run P wx.sum Tryd.f48 yA (start Tryd.f48 [.ptr 0 0,.s (.str key),.fn fP1 [.ptr 4 0,.ptr 5 0]] (qT th m fu root fr fs gn key val))=
 Tree.need (bt (some [AV.ptr 0 0,.s (.str key),.fn 49 [.ptr 4 0,.ptr 5 0]])) (.need (bt (some [ad.own [.ptr 1 0,.s (.int .i64 root),.ints .u64 16 fr,.ints .u64 16 fs,.ints .u64 16 gn] 70,.own [.vec 2,.ag 3,.s (.int .i64 fu)] 96,.vec (.ae [.arr .u8 64] th) 138,.map (.arr .u8 64) m,.own [.s (.str key)] 9,.own [.s (.str val)] 9])) (.need (Ds.bH th m fu) (.need (Bx.okW fr) (.need ((0:Int)≤root∧root≤65536) (.need ((1:Nat)≤key.size∧key.size≤24) (.need (val.size≤100) (.at (.mk (sl 78 [(0,.ptr 0 0),(7,.ptr 6 0),(8,.vec 7),(9,.s (.int .i64 (wv th key (some val) m fu root fr fs gn)))]) [.own [.ptr 1 0,.s (.int .i64 root),.ints .u64 16 (xj th key (some val) m fu root fr fs gn),.ints .u64 16 (aca th key (some val) m fu root fr fs gn),.ints .u64 16 (acb th key (some val) m fu root fr fs gn)] 70,.own [.vec 2,.ag 3,.s (.int .i64 (xi th key (some val) m fu root fr fs gn))] 96,.vec (.ae [.arr .u8 64] th) 138,.map (.arr .u8 64) (xh th key (some val) m fu root fr fs gn),.own [.s (.str key)] 9,.own [.s (.str val)] 9,.own [.ptr 1 0,.s (.int .i64 root),.ints .u64 16 fr,.ints .u64 16 fs,.ints .u64 16 gn] 70,.vec (.ae [.str,.int .i64] (wu th key (some val) m fu root fr fs gn)) 79] (hd Tryd.f48 3) (.mk none false 0 [] 0))))))))):=by kernel_rfl
theorem akf(th:Th)(aP:Int)(dH dm dq:Ws)(m:As)(fu root:Int)(fr fs gn:Ws)(key val:ByteArray)(l:List Br)(e:Int):run P wx.sum Tryd.f48 yA (ake th aP dH dm dq m fu root fr fs gn key val l e)=
 Tree.ite (e==0) (.ite (decide ((↑l.length:Int)>1)) (.need (bt (some [AV.ptr 0 0,.agg [.s (.bool false),.s (.ro (.ae [.str,.str] [])),.s (.ro (.ae [.str,.int .i64] l))]])) (.need (bt (some [ad.own [.ptr 1 0,.s (.int .i64 root),.ints .u64 16 fr,.ints .u64 16 fs,.ints .u64 16 gn] 70,.own [.vec 2,.ag 3,.s (.int .i64 fu)] 96,.vec (.ae [.arr .u8 64] th) 138,.map (.arr .u8 64) m])) (.need (Ds.bH th m fu) (.need (Bx.okW fr) (.need (aae false [] l) (.need (bc []) (.need (bd l) (.at (.mk (sl 78 [(0,.ptr 0 0),(7,.ptr 6 0),(8,.vec 7),(9,.s (.int .i64 (bp th m fu fr fs false [] l).snd.snd.snd.snd.snd))]) [.own [.ptr 1 0,.s (.int .i64 root),.ints .u64 16 (bp th m fu fr fs false [] l).snd.snd.fst,.ints .u64 16 (bp th m fu fr fs false [] l).snd.snd.snd.fst,.ints .u64 16 gn] 70,.own [.vec 2,.ag 3,.s (.int .i64 (bp th m fu fr fs false [] l).snd.fst)] 96,.vec (.ae [.arr .u8 64] th) 138,.map (.arr .u8 64) (bp th m fu fr fs false [] l).fst,.own [.s (.str key)] 9,.own [.s (.str val)] 9,.own [.ptr 1 0,.s (.int .i64 aP),.ints .u64 16 dH,.ints .u64 16 dm,.ints .u64 16 dq] 70,.vec (.ae [.str,.int .i64] (bp th m fu fr fs false [] l).snd.snd.snd.snd.fst) 79] (hd Tryd.f48 3) (.mk none false 0 [] 0)))))))))) (.at (.mk (sl 78 [(0,.ptr 0 0),(7,.ptr 6 0),(8,.vec 7),(9,.s (.int .i64 e))]) [.own [.ptr 1 0,.s (.int .i64 root),.ints .u64 16 fr,.ints .u64 16 fs,.ints .u64 16 gn] 70,.own [.vec 2,.ag 3,.s (.int .i64 fu)] 96,.vec (.ae [.arr .u8 64] th) 138,.map (.arr .u8 64) m,.own [.s (.str key)] 9,.own [.s (.str val)] 9,.own [.ptr 1 0,.s (.int .i64 aP),.ints .u64 16 dH,.ints .u64 16 dm,.ints .u64 16 dq] 70,.vec (.ae [.str,.int .i64] l) 79] (hr Tryd.f48 5) (.mk none false 0 [] 0)))) (.at (.mk (sl 78 [(0,.ptr 0 0),(7,.ptr 6 0),(8,.vec 7),(9,.s (.int .i64 e))]) [.own [.ptr 1 0,.s (.int .i64 root),.ints .u64 16 fr,.ints .u64 16 fs,.ints .u64 16 gn] 70,.own [.vec 2,.ag 3,.s (.int .i64 fu)] 96,.vec (.ae [.arr .u8 64] th) 138,.map (.arr .u8 64) m,.own [.s (.str key)] 9,.own [.s (.str val)] 9,.own [.ptr 1 0,.s (.int .i64 aP),.ints .u64 16 dH,.ints .u64 16 dm,.ints .u64 16 dq] 70,.vec (.ae [.str,.int .i64] l) 79] (hr Tryd.f48 5) (.mk none false 0 [] 0))):=by kernel_rfl
theorem aq0(th:Th)(aP:Int)(dH dm dq:Ws)(m:As)(fu root:Int)(fr fs gn:Ws)(key val:ByteArray)(l:List Br)(e:Int):run P wx.sum Tryd.f48 yA (aoJ th aP dH dm dq m fu root fr fs gn key val l e)=
 Tree.ite (e==0) (.ite ((↑l.length:Int)==1) (.need ((0:Int)≤0) (.need ((0:Int)<(↑l.length:Int)) (.need (bt (some [AV.ptr 0 0,.s (.int .i64 (l.getD 0 (CL.d [.str,.int .i64])).snd.fst)])) (.need (bt (some [ad.own [.ptr 1 0,.s (.int .i64 0),.ints .u64 16 fr,.ints .u64 16 fs,.ints .u64 16 gn] 70,.own [.vec 2,.ag 3,.s (.int .i64 fu)] 96,.vec (.ae [.arr .u8 64] th) 138,.map (.arr .u8 64) m])) (.need (Ds.bH th m fu) (.need ((0:Int)≤(l.getD 0 (CL.d [.str,.int .i64])).snd.fst∧(l.getD 0 (CL.d [.str,.int .i64])).snd.fst≤65536) (.at (.mk (sl 78 [(0,.ptr 0 0),(7,.ptr 6 0),(9,.s (.int .i64 (xg th m 17 fs gn (l.getD 0 (CL.d [.str,.int .i64])).snd.fst 1)))]) [.own [.ptr 1 0,.s (.int .i64 (xf th m 17 fs gn (l.getD 0 (CL.d [.str,.int .i64])).snd.fst 1)),.ints .u64 16 fr,.ints .u64 16 (wo th m 17 fs gn (l.getD 0 (CL.d [.str,.int .i64])).snd.fst 1),.ints .u64 16 (wq th m 17 fs gn (l.getD 0 (CL.d [.str,.int .i64])).snd.fst 1)] 70,.own [.vec 2,.ag 3,.s (.int .i64 fu)] 96,.vec (.ae [.arr .u8 64] th) 138,.map (.arr .u8 64) m,.own [.s (.str key)] 9,.own [.s (.str val)] 9,.own [.ptr 1 0,.s (.int .i64 aP),.ints .u64 16 dH,.ints .u64 16 dm,.ints .u64 16 dq] 70] (hr Tryd.f48 8) (.mk none false 0 [] 0))))))))) (.at (.mk (sl 78 [(0,.ptr 0 0),(7,.ptr 6 0),(9,.s (.int .i64 e))]) [.own [.ptr 1 0,.s (.int .i64 0),.ints .u64 16 fr,.ints .u64 16 fs,.ints .u64 16 gn] 70,.own [.vec 2,.ag 3,.s (.int .i64 fu)] 96,.vec (.ae [.arr .u8 64] th) 138,.map (.arr .u8 64) m,.own [.s (.str key)] 9,.own [.s (.str val)] 9,.own [.ptr 1 0,.s (.int .i64 aP),.ints .u64 16 dH,.ints .u64 16 dm,.ints .u64 16 dq] 70] (hr Tryd.f48 8) (.mk none false 0 [] 0)))) (.at (.mk (sl 78 [(0,.ptr 0 0),(7,.ptr 6 0),(9,.s (.int .i64 e))]) [.own [.ptr 1 0,.s (.int .i64 0),.ints .u64 16 fr,.ints .u64 16 fs,.ints .u64 16 gn] 70,.own [.vec 2,.ag 3,.s (.int .i64 fu)] 96,.vec (.ae [.arr .u8 64] th) 138,.map (.arr .u8 64) m,.own [.s (.str key)] 9,.own [.s (.str val)] 9,.own [.ptr 1 0,.s (.int .i64 aP),.ints .u64 16 dH,.ints .u64 16 dm,.ints .u64 16 dq] 70] (hr Tryd.f48 8) (.mk none false 0 [] 0))):=by kernel_rfl
theorem aq1(th:Th)(aP:Int)(dH dm dq:Ws)(m:As)(fu root:Int)(fr fs gn:Ws)(key val:ByteArray)(e:Int):run P wx.sum Tryd.f48 yA (aoK th aP dH dm dq m fu root fr fs gn key val e)=
 Tree.ite (e !=0) (.ret [.own [.ptr 1 0,.s (.int .i64 aP),.ints .u64 16 dH,.ints .u64 16 dm,.ints .u64 16 dq] 70,.own [.vec 2,.ag 3,.s (.int .i64 fu)] 96,.vec (.ae [.arr .u8 64] th) 138,.map (.arr .u8 64) m,.own [.s (.str key)] 9,.own [.s (.str val)] 9,.own [.ptr 1 0,.s (.int .i64 aP),.ints .u64 16 dH,.ints .u64 16 dm,.ints .u64 16 dq] 70] (.s (.int .i64 e))) (.ret [.own [.ptr 1 0,.s (.int .i64 root),.ints .u64 16 (Bx.ct BinOp.or fr gn),.ints .u64 16 fs,.ints .u64 16 (List.replicate 16 0)] 70,.own [.vec 2,.ag 3,.s (.int .i64 fu)] 96,.vec (.ae [.arr .u8 64] th) 138,.map (.arr .u8 64) m,.own [.s (.str key)] 9,.own [.s (.str val)] 9,.own [.ptr 1 0,.s (.int .i64 aP),.ints .u64 16 dH,.ints .u64 16 dm,.ints .u64 16 dq] 70] (.s (.aV .i64 0))):=by kernel_rfl
abbrev ace:Spec XK:=⟨fun(_,key,_)=>[.ptr 0 0,.s (.str key),.fn fD1 [.ptr 4 0]],fun((th,m,fu,root,fr,fs,gn),key,_)=>qU th m fu root fr fs gn key,fun((th,m,fu,root,fr,_,_),key,val)=>afz th m fu root fr key val,
 fun((th,m,fu,root,fr,fs,gn),key,_)=>qU th (amU th key none m fu root fr fs gn) (amV th key none m fu root fr fs gn) (amW th key none m fu root fr fs gn) (amX th key none m fu root fr fs gn) (amY th key none m fu root fr fs gn) (amZ th key none m fu root fr fs gn) key,
 fun((th,m,fu,root,fr,fs,gn),key,_)=>bD (am0 th key none m fu root fr fs gn)⟩
def wy:aE:=[(65,cI amP amR),(66,yv),(67,cI sLo mLv),(28,sOr)]
def yB:List (Nat×Norm):=[(3,⟨[],[0,7,8,9],5,[]⟩),(5,⟨[],[0,7,8,9],5,[]⟩),(8,⟨[],[0,7,9],5,[]⟩)]
noncomputable def akg(th:Th)(aP:Int)(dH dm dq:Ws)(m:As)(fu root:Int)(fr fs gn:Ws)(key:ByteArray)(l:List Br)(e:Int):bA:=⟨sl 78 [(0,.ptr 0 0),(7,.ptr 5 0),(8,.vec 6),(9,bD e)],qU th m fu root fr fs gn key++[obT 1 aP dH dm dq,.vec (.ae cB l) Lf.eB],hd Tryd.f48 3,{}⟩
noncomputable def aoL(th:Th)(aP:Int)(dH dm dq:Ws)(m:As)(fu root:Int)(fr fs gn:Ws)(key:ByteArray)(l:List Br)(e:Int):bA:=⟨sl 78 [(0,.ptr 0 0),(7,.ptr 5 0),(8,.vec 6),(9,bD e)],qU th m fu root fr fs gn key++[obT 1 aP dH dm dq,.vec (.ae cB l) Lf.eB],hr Tryd.f48 5,{}⟩
noncomputable def aoM(th:Th)(aP:Int)(dH dm dq:Ws)(m:As)(fu root:Int)(fr fs gn:Ws)(key:ByteArray)(e:Int):bA:=⟨sl 78 [(0,.ptr 0 0),(7,.ptr 5 0),(9,bD e)],qU th m fu root fr fs gn key++[obT 1 aP dH dm dq],hr Tryd.f48 8,{}⟩
theorem as9(th:Th)(m:As)(fu root:Int)(fr fs gn:Ws)(key:ByteArray):run P wy.sum Tryd.f48 yB (start Tryd.f48 [.ptr 0 0,.s (.str key),.fn fD1 [.ptr 4 0]] (qU th m fu root fr fs gn key))=
 Tree.need (bt (some [AV.ptr 0 0,.s (.str key),.fn 51 [.ptr 4 0]])) (.need (bt (some [ad.own [.ptr 1 0,.s (.int .i64 root),.ints .u64 16 fr,.ints .u64 16 fs,.ints .u64 16 gn] 70,.own [.vec 2,.ag 3,.s (.int .i64 fu)] 96,.vec (.ae [.arr .u8 64] th) 138,.map (.arr .u8 64) m,.own [.s (.str key)] 9])) (.need (Ds.bH th m fu) (.need (Bx.okW fr) (.need ((0:Int)≤root∧root≤65536) (.need ((1:Nat)≤key.size∧key.size≤24) (.need (ByteArray.empty.size≤100) (.at (.mk (sl 78 [(0,.ptr 0 0),(7,.ptr 5 0),(8,.vec 6),(9,.s (.int .i64 (wv th key none m fu root fr fs gn)))]) [.own [.ptr 1 0,.s (.int .i64 root),.ints .u64 16 (xj th key none m fu root fr fs gn),.ints .u64 16 (aca th key none m fu root fr fs gn),.ints .u64 16 (acb th key none m fu root fr fs gn)] 70,.own [.vec 2,.ag 3,.s (.int .i64 (xi th key none m fu root fr fs gn))] 96,.vec (.ae [.arr .u8 64] th) 138,.map (.arr .u8 64) (xh th key none m fu root fr fs gn),.own [.s (.str key)] 9,.own [.ptr 1 0,.s (.int .i64 root),.ints .u64 16 fr,.ints .u64 16 fs,.ints .u64 16 gn] 70,.vec (.ae [.str,.int .i64] (wu th key none m fu root fr fs gn)) 79] (hd Tryd.f48 3) (.mk none false 0 [] 0))))))))):=by kernel_rfl
theorem akh(th:Th)(aP:Int)(dH dm dq:Ws)(m:As)(fu root:Int)(fr fs gn:Ws)(key:ByteArray)(l:List Br)(e:Int):run P wy.sum Tryd.f48 yB (akg th aP dH dm dq m fu root fr fs gn key l e)=
 Tree.ite (e==0) (.ite (decide ((↑l.length:Int)>1)) (.need (bt (some [AV.ptr 0 0,.agg [.s (.bool false),.s (.ro (.ae [.str,.str] [])),.s (.ro (.ae [.str,.int .i64] l))]])) (.need (bt (some [ad.own [.ptr 1 0,.s (.int .i64 root),.ints .u64 16 fr,.ints .u64 16 fs,.ints .u64 16 gn] 70,.own [.vec 2,.ag 3,.s (.int .i64 fu)] 96,.vec (.ae [.arr .u8 64] th) 138,.map (.arr .u8 64) m])) (.need (Ds.bH th m fu) (.need (Bx.okW fr) (.need (aae false [] l) (.need (bc []) (.need (bd l) (.at (.mk (sl 78 [(0,.ptr 0 0),(7,.ptr 5 0),(8,.vec 6),(9,.s (.int .i64 (bp th m fu fr fs false [] l).snd.snd.snd.snd.snd))]) [.own [.ptr 1 0,.s (.int .i64 root),.ints .u64 16 (bp th m fu fr fs false [] l).snd.snd.fst,.ints .u64 16 (bp th m fu fr fs false [] l).snd.snd.snd.fst,.ints .u64 16 gn] 70,.own [.vec 2,.ag 3,.s (.int .i64 (bp th m fu fr fs false [] l).snd.fst)] 96,.vec (.ae [.arr .u8 64] th) 138,.map (.arr .u8 64) (bp th m fu fr fs false [] l).fst,.own [.s (.str key)] 9,.own [.ptr 1 0,.s (.int .i64 aP),.ints .u64 16 dH,.ints .u64 16 dm,.ints .u64 16 dq] 70,.vec (.ae [.str,.int .i64] (bp th m fu fr fs false [] l).snd.snd.snd.snd.fst) 79] (hd Tryd.f48 3) (.mk none false 0 [] 0)))))))))) (.at (.mk (sl 78 [(0,.ptr 0 0),(7,.ptr 5 0),(8,.vec 6),(9,.s (.int .i64 e))]) [.own [.ptr 1 0,.s (.int .i64 root),.ints .u64 16 fr,.ints .u64 16 fs,.ints .u64 16 gn] 70,.own [.vec 2,.ag 3,.s (.int .i64 fu)] 96,.vec (.ae [.arr .u8 64] th) 138,.map (.arr .u8 64) m,.own [.s (.str key)] 9,.own [.ptr 1 0,.s (.int .i64 aP),.ints .u64 16 dH,.ints .u64 16 dm,.ints .u64 16 dq] 70,.vec (.ae [.str,.int .i64] l) 79] (hr Tryd.f48 5) (.mk none false 0 [] 0)))) (.at (.mk (sl 78 [(0,.ptr 0 0),(7,.ptr 5 0),(8,.vec 6),(9,.s (.int .i64 e))]) [.own [.ptr 1 0,.s (.int .i64 root),.ints .u64 16 fr,.ints .u64 16 fs,.ints .u64 16 gn] 70,.own [.vec 2,.ag 3,.s (.int .i64 fu)] 96,.vec (.ae [.arr .u8 64] th) 138,.map (.arr .u8 64) m,.own [.s (.str key)] 9,.own [.ptr 1 0,.s (.int .i64 aP),.ints .u64 16 dH,.ints .u64 16 dm,.ints .u64 16 dq] 70,.vec (.ae [.str,.int .i64] l) 79] (hr Tryd.f48 5) (.mk none false 0 [] 0))):=by kernel_rfl
theorem aq2(th:Th)(aP:Int)(dH dm dq:Ws)(m:As)(fu root:Int)(fr fs gn:Ws)(key:ByteArray)(l:List Br)(e:Int):run P wy.sum Tryd.f48 yB (aoL th aP dH dm dq m fu root fr fs gn key l e)=
 Tree.ite (e==0) (.ite ((↑l.length:Int)==1) (.need ((0:Int)≤0) (.need ((0:Int)<(↑l.length:Int)) (.need (bt (some [AV.ptr 0 0,.s (.int .i64 (l.getD 0 (CL.d [.str,.int .i64])).snd.fst)])) (.need (bt (some [ad.own [.ptr 1 0,.s (.int .i64 0),.ints .u64 16 fr,.ints .u64 16 fs,.ints .u64 16 gn] 70,.own [.vec 2,.ag 3,.s (.int .i64 fu)] 96,.vec (.ae [.arr .u8 64] th) 138,.map (.arr .u8 64) m])) (.need (Ds.bH th m fu) (.need ((0:Int)≤(l.getD 0 (CL.d [.str,.int .i64])).snd.fst∧(l.getD 0 (CL.d [.str,.int .i64])).snd.fst≤65536) (.at (.mk (sl 78 [(0,.ptr 0 0),(7,.ptr 5 0),(9,.s (.int .i64 (xg th m 17 fs gn (l.getD 0 (CL.d [.str,.int .i64])).snd.fst 1)))]) [.own [.ptr 1 0,.s (.int .i64 (xf th m 17 fs gn (l.getD 0 (CL.d [.str,.int .i64])).snd.fst 1)),.ints .u64 16 fr,.ints .u64 16 (wo th m 17 fs gn (l.getD 0 (CL.d [.str,.int .i64])).snd.fst 1),.ints .u64 16 (wq th m 17 fs gn (l.getD 0 (CL.d [.str,.int .i64])).snd.fst 1)] 70,.own [.vec 2,.ag 3,.s (.int .i64 fu)] 96,.vec (.ae [.arr .u8 64] th) 138,.map (.arr .u8 64) m,.own [.s (.str key)] 9,.own [.ptr 1 0,.s (.int .i64 aP),.ints .u64 16 dH,.ints .u64 16 dm,.ints .u64 16 dq] 70] (hr Tryd.f48 8) (.mk none false 0 [] 0))))))))) (.at (.mk (sl 78 [(0,.ptr 0 0),(7,.ptr 5 0),(9,.s (.int .i64 e))]) [.own [.ptr 1 0,.s (.int .i64 0),.ints .u64 16 fr,.ints .u64 16 fs,.ints .u64 16 gn] 70,.own [.vec 2,.ag 3,.s (.int .i64 fu)] 96,.vec (.ae [.arr .u8 64] th) 138,.map (.arr .u8 64) m,.own [.s (.str key)] 9,.own [.ptr 1 0,.s (.int .i64 aP),.ints .u64 16 dH,.ints .u64 16 dm,.ints .u64 16 dq] 70] (hr Tryd.f48 8) (.mk none false 0 [] 0)))) (.at (.mk (sl 78 [(0,.ptr 0 0),(7,.ptr 5 0),(9,.s (.int .i64 e))]) [.own [.ptr 1 0,.s (.int .i64 0),.ints .u64 16 fr,.ints .u64 16 fs,.ints .u64 16 gn] 70,.own [.vec 2,.ag 3,.s (.int .i64 fu)] 96,.vec (.ae [.arr .u8 64] th) 138,.map (.arr .u8 64) m,.own [.s (.str key)] 9,.own [.ptr 1 0,.s (.int .i64 aP),.ints .u64 16 dH,.ints .u64 16 dm,.ints .u64 16 dq] 70] (hr Tryd.f48 8) (.mk none false 0 [] 0))):=by kernel_rfl
theorem aq3(th:Th)(aP:Int)(dH dm dq:Ws)(m:As)(fu root:Int)(fr fs gn:Ws)(key:ByteArray)(e:Int):run P wy.sum Tryd.f48 yB (aoM th aP dH dm dq m fu root fr fs gn key e)=
 Tree.ite (e !=0) (.ret [.own [.ptr 1 0,.s (.int .i64 aP),.ints .u64 16 dH,.ints .u64 16 dm,.ints .u64 16 dq] 70,.own [.vec 2,.ag 3,.s (.int .i64 fu)] 96,.vec (.ae [.arr .u8 64] th) 138,.map (.arr .u8 64) m,.own [.s (.str key)] 9,.own [.ptr 1 0,.s (.int .i64 aP),.ints .u64 16 dH,.ints .u64 16 dm,.ints .u64 16 dq] 70] (.s (.int .i64 e))) (.ret [.own [.ptr 1 0,.s (.int .i64 root),.ints .u64 16 (Bx.ct BinOp.or fr gn),.ints .u64 16 fs,.ints .u64 16 (List.replicate 16 0)] 70,.own [.vec 2,.ag 3,.s (.int .i64 fu)] 96,.vec (.ae [.arr .u8 64] th) 138,.map (.arr .u8 64) m,.own [.s (.str key)] 9,.own [.ptr 1 0,.s (.int .i64 aP),.ints .u64 16 dH,.ints .u64 16 dm,.ints .u64 16 dq] 70] (.s (.aV .i64 0))):=by kernel_rfl
theorem acf{th:Th}{key:ByteArray}{op:Option ByteArray}(hk:key.size≤24){m:As}{fu root:Int}{fr fs gn:Ws}(hd:Ds.bH th m fu)(hf:Bx.okW fr):
 aj5 th (xh th key op m fu root fr fs gn) (xi th key op m fu root fr fs gn) (xj th key op m fu root fr fs gn) (wu th key op m fu root fr fs gn):=by
 unfold xh xi xj wu jb;split
 ·exact q9 hk 17 hd hf
 ·split
  ·exact⟨hd,hf,Nat.zero_le _,noB,noB⟩
  ·exact nO hd hf (aj6 hk noE) noB
theorem avv{l:List Br}(h2:l.length≤2)(h:ke l):bk [] (aa l)≤254:=by
 have e:=q7 (aa l);have e2:=sf l
 have e3:ie l≤54:=by
  cases l with
  |nil=>simp[nN]
  |cons a r=>
   have ha:=h a List.mem_cons_self;cases r with
   |nil=>rw[dj,nN];unfold pJ;omega
   |cons b r=>
    have hb:=h b (List.mem_cons_of_mem _ List.mem_cons_self);cases r with
    |nil=>rw[dj,dj,nN];unfold pJ;omega
    |cons c r=>simp only[List.length_cons]at h2;omega
 omega
theorem aki{th:Th}{m:As}{fu:Int}{fr fs:Ws}{l:List Br}(h0:1<l.length)(h2:l.length≤2)(h:ke l):(bp th m fu fr fs false [] l).2.2.2.2.1.length=1:=by
 unfold bp;rw[if_neg (by simp only[List.length_nil];omega),if_pos (avv h2 h)];rfl
theorem afA{l:List Br}(h:∀b∈l,0≤b.2.1∧b.2.1≤65536)(k:Nat):0≤(l.getD k dB).2.1∧(l.getD k dB).2.1≤65536:=by
 rcases Nat.lt_or_ge k l.length with hk|hk
 ·rw[bm hk];exact h _ (List.getElem_mem hk)
 ·rw[List.getD,List.getElem?_eq_none hk];exact⟨Int.le_refl 0,by show(0:Int)≤65536;omega⟩
theorem yC{l:List Br}(h2:l.length≤2)(h:ke l):bd l:=⟨by omega,fun x hx=>Nat.le_trans (h x hx) (by omega)⟩
theorem sj{th:Th}{c:Chg}(h:¬(c.2.2.2.2.2.2=0∧1<c.2.2.2.2.2.1.length)):upT th c=c:=if_neg h
theorem aoN{th:Th}{m:As}{fu root:Int}{fr fs gn:Ws}{key val:ByteArray}{c:Chs}(e:kx th key (some val) m fu root fr fs gn=c):
 acd.fH ((th,m,fu,root,fr,fs,gn),key,val)=qT th c.1 c.2.1 c.2.2.1 c.2.2.2.1 c.2.2.2.2.1 c.2.2.2.2.2.1 key val∧acd.out ((th,m,fu,root,fr,fs,gn),key,val)=bD c.2.2.2.2.2.2:=by
 subst e;exact⟨rfl,rfl⟩
theorem lQ:wx.Ok P Bx.bV:=aE.Ok.cons (amS.sum amQ) (aE.Ok.cons (iE (gr (jM.sum mTN) 1 _) 1) (aE.Ok.cons (ab9.sum mLv) (aE.Ok.cons Bx.adQ.sum aE.Ok.nil)))
section
variable{th:Th}{m0:As}{tu aP:Int}{dH dm dq:Ws}{key val:ByteArray}{X:Ctx}
theorem ra{th:Th}{m:As}{fu root:Int}{fr fs gn:Ws}{key val:ByteArray}:∀y∈yA,(qT th m fu root fr fs gn key val).length≤y.2.m:=fun y hy=>by
 simp only[yA,List.mem_cons,List.not_mem_nil,or_false]at hy;rcases hy with rfl|rfl|rfl<;>exact Nat.le_refl _
theorem aaj(hz:dT Bx.bV X)(hX:X.H=lk (qT th m0 tu aP dH dm dq key val)){m:As}{fu root:Int}{fr fs gn:Ws}{e:Int}(ee:kx th key (some val) m0 tu aP dH dm dq=nQ th aP dH dm dq m fu root fr fs gn e):
 Safe P 48 X (kq acd ((th,m0,tu,aP,dH,dm,dq),key,val)) (aoK th aP dH dm dq m fu root fr fs gn key val e):=by
 refine Ds.ew hz hX ra lQ Tryd.func48 (aq1 th aP dH dm dq m fu root fr fs gn key val e) ⟨fun h=> ?_,fun h=> ?_⟩
 ·have h:e≠0:=by simpa using h
  unfold nQ at ee;rw[if_pos h]at ee;obtain⟨f1,f2⟩:=aoN (val:=val) ee;exact bQ 6 rfl (Nat.le_refl _) f2 f1
 ·have h:¬e≠0:=by simpa using h
  unfold nQ at ee;rw[if_neg h]at ee;obtain⟨f1,f2⟩:=aoN (val:=val) ee;exact bQ 6 rfl (Nat.le_refl _) f2 f1
theorem tP(hz:dT Bx.bV X)(hX:X.H=lk (qT th m0 tu aP dH dm dq key val)){m:As}{fu root:Int}{fr fs gn:Ws}{l:List Br}{e:Int}(hd:Ds.bH th m fu)(hp:∀b∈l,0≤b.2.1∧b.2.1≤65536)
 (ee:kx th key (some val) m0 tu aP dH dm dq=jG th aP dH dm dq (m,fu,fr,fs,gn,l,e)):
 Safe P 48 X (kq acd ((th,m0,tu,aP,dH,dm,dq),key,val)) (aoJ th aP dH dm dq m fu root fr fs gn key val l e):=by
 refine Ds.ew hz hX ra lQ Tryd.func48 (aq0 th aP dH dm dq m fu root fr fs gn key val l e) ⟨fun h=>⟨fun h2=> ?_,fun h2=> ?_⟩,fun h=> ?_⟩
 ·have h:e=0:=by simpa using h
  have h2:(l.length:Int)=1:=by simpa using h2
  unfold jG at ee;rw[if_pos ⟨h,by simp only[];omega⟩]at ee;exact⟨by omega,by omega,rfl,rfl,hd,afA hp 0,aaj hz hX ee⟩
 ·have h2:¬(l.length:Int)=1:=by simpa using h2
  unfold jG at ee;rw[if_neg (fun a=>h2 (by have:=a.2;simp only[]at this;omega))]at ee;exact aaj hz hX ee
 ·have h:¬e=0:=by simpa using h
  unfold jG at ee;rw[if_neg (fun a=>h a.1)]at ee;exact aaj hz hX ee
theorem am1(hz:dT Bx.bV X)(hX:X.H=lk (qT th m0 tu aP dH dm dq key val)){m:As}{fu root:Int}{fr fs gn:Ws}{l:List Br}{e:Int}(hd:Ds.bH th m fu)(hp:∀b∈l,0≤b.2.1∧b.2.1≤65536)(uC:¬(e=0∧1<l.length))
 (ee:kx th key (some val) m0 tu aP dH dm dq=jG th aP dH dm dq (m,fu,fr,fs,gn,l,e)):
 Safe P 48 X (kq acd ((th,m0,tu,aP,dH,dm,dq),key,val)) (ake th aP dH dm dq m fu root fr fs gn key val l e):=by
 refine Ds.ew hz hX ra lQ Tryd.func48 (akf th aP dH dm dq m fu root fr fs gn key val l e) ⟨fun h=>⟨fun h2=> ?_,fun h2=> ?_⟩,fun h=> ?_⟩
 ·have h:e=0:=by simpa using h
  have h2:=of_decide_eq_true h2;exact absurd ⟨h,by omega⟩ uC
 ·exact tP hz hX hd hp ee
 ·exact tP hz hX hd hp ee
theorem am2(hz:dT Bx.bV X)(hX:X.H=lk (qT th m0 tu aP dH dm dq key val)){m:As}{fu root:Int}{fr fs gn:Ws}{l:List Br}{e:Int}(F:aj5 th m fu fr l)
 (ee:kx th key (some val) m0 tu aP dH dm dq=jG th aP dH dm dq (upT th (m,fu,fr,fs,gn,l,e))):
 Safe P 48 X (kq acd ((th,m0,tu,aP,dH,dm,dq),key,val)) (ake th aP dH dm dq m fu root fr fs gn key val l e):=by
 refine Ds.ew hz hX ra lQ Tryd.func48 (akf th aP dH dm dq m fu root fr fs gn key val l e) ⟨fun h=>⟨fun h2=> ?_,fun h2=> ?_⟩,fun h=> ?_⟩
 ·have h:e=0:=by simpa using h
  have h2:=of_decide_eq_true h2;have hu:upT th (m,fu,fr,fs,gn,l,e)=hP gn (bp th m fu fr fs false [] l):=if_pos ⟨h,by show 1<l.length;omega⟩;rw[hu]at ee;have F2:=nO (fs:=fs) (l:=false) (es:=[]) F.d F.fr noE F.key;have hl:=aki (th:=th) (m:=m) (fu:=fu) (fr:=fr) (fs:=fs) (l:=l) (by omega) F.two F.key;exact⟨rfl,rfl,F.d,F.fr,⟨fun a=>(by cases a),fun _=>rfl⟩,iD,yC F.two F.key,am1 hz hX F2.d F2.pg (fun a=>by rw[hl]at a;omega) ee⟩
 ·have h2:=of_decide_eq_false h2;rw[sj (fun a=>h2 (by have:=a.2;simp only[]at this;omega))]at ee;exact tP hz hX F.d F.pg ee
 ·have h:¬e=0:=by simpa using h
  rw[sj (fun a=>h a.1)]at ee;exact tP hz hX F.d F.pg ee
end
theorem acg:ib P Bx.bV 48 acd:=by
 refine aC Tryd.func48 (by kernel_rfl) (fun x=>Nat.le_of_ble_eq_true (by kernel_rfl)) ?_;rintro⟨⟨(th:Th),(m:As),(fu:Int),(root:Int),(fr:Ws),(fs:Ws),(gn:Ws)⟩,(key:ByteArray),(val:ByteArray)⟩ ⟨(hd:Ds.bH th m fu),(hf:Bx.okW fr),(hr:0≤root∧root≤65536),(hk:1≤key.size∧key.size≤24),(hv:val.size≤100),_⟩ X hX hz;exact Ds.ew hz hX ra lQ Tryd.func48 (as8 th m fu root fr fs gn key val) ⟨rfl,rfl,hd,hf,hr,hk,hv,am2 hz hX (acf (op:=(some val)) hk.2 hd hf) rfl⟩
theorem aoO{th:Th}{m:As}{fu root:Int}{fr fs gn:Ws}{key val:ByteArray}{c:Chs}(e:kx th key none m fu root fr fs gn=c):
 ace.fH ((th,m,fu,root,fr,fs,gn),key,val)=qU th c.1 c.2.1 c.2.2.1 c.2.2.2.1 c.2.2.2.2.1 c.2.2.2.2.2.1 key∧ace.out ((th,m,fu,root,fr,fs,gn),key,val)=bD c.2.2.2.2.2.2:=by
 subst e;exact⟨rfl,rfl⟩
theorem lR:wy.Ok P Bx.bV:=aE.Ok.cons (amT.sum amR) (aE.Ok.cons (iE (gr (jM.sum mTN) 1 _) 1) (aE.Ok.cons (ab9.sum mLv) (aE.Ok.cons Bx.adQ.sum aE.Ok.nil)))
section
variable{th:Th}{m0:As}{tu aP:Int}{dH dm dq:Ws}{key val:ByteArray}{X:Ctx}
theorem rb{th:Th}{m:As}{fu root:Int}{fr fs gn:Ws}{key:ByteArray}:∀y∈yB,(qU th m fu root fr fs gn key).length≤y.2.m:=fun y hy=>by
 simp only[yB,List.mem_cons,List.not_mem_nil,or_false]at hy;rcases hy with rfl|rfl|rfl<;>exact Nat.le_refl _
theorem aak(hz:dT Bx.bV X)(hX:X.H=lk (qU th m0 tu aP dH dm dq key)){m:As}{fu root:Int}{fr fs gn:Ws}{e:Int}(ee:kx th key none m0 tu aP dH dm dq=nQ th aP dH dm dq m fu root fr fs gn e):
 Safe P 48 X (kq ace ((th,m0,tu,aP,dH,dm,dq),key,val)) (aoM th aP dH dm dq m fu root fr fs gn key e):=by
 refine Ds.ew hz hX rb lR Tryd.func48 (aq3 th aP dH dm dq m fu root fr fs gn key e) ⟨fun h=> ?_,fun h=> ?_⟩
 ·have h:e≠0:=by simpa using h
  unfold nQ at ee;rw[if_pos h]at ee;obtain⟨f1,f2⟩:=aoO (val:=val) ee;exact bQ 5 rfl (Nat.le_refl _) f2 f1
 ·have h:¬e≠0:=by simpa using h
  unfold nQ at ee;rw[if_neg h]at ee;obtain⟨f1,f2⟩:=aoO (val:=val) ee;exact bQ 5 rfl (Nat.le_refl _) f2 f1
theorem tQ(hz:dT Bx.bV X)(hX:X.H=lk (qU th m0 tu aP dH dm dq key)){m:As}{fu root:Int}{fr fs gn:Ws}{l:List Br}{e:Int}(hd:Ds.bH th m fu)(hp:∀b∈l,0≤b.2.1∧b.2.1≤65536)
 (ee:kx th key none m0 tu aP dH dm dq=jG th aP dH dm dq (m,fu,fr,fs,gn,l,e)):
 Safe P 48 X (kq ace ((th,m0,tu,aP,dH,dm,dq),key,val)) (aoL th aP dH dm dq m fu root fr fs gn key l e):=by
 refine Ds.ew hz hX rb lR Tryd.func48 (aq2 th aP dH dm dq m fu root fr fs gn key l e) ⟨fun h=>⟨fun h2=> ?_,fun h2=> ?_⟩,fun h=> ?_⟩
 ·have h:e=0:=by simpa using h
  have h2:(l.length:Int)=1:=by simpa using h2
  unfold jG at ee;rw[if_pos ⟨h,by simp only[];omega⟩]at ee;exact⟨by omega,by omega,rfl,rfl,hd,afA hp 0,aak hz hX ee⟩
 ·have h2:¬(l.length:Int)=1:=by simpa using h2
  unfold jG at ee;rw[if_neg (fun a=>h2 (by have:=a.2;simp only[]at this;omega))]at ee;exact aak hz hX ee
 ·have h:¬e=0:=by simpa using h
  unfold jG at ee;rw[if_neg (fun a=>h a.1)]at ee;exact aak hz hX ee
theorem am3(hz:dT Bx.bV X)(hX:X.H=lk (qU th m0 tu aP dH dm dq key)){m:As}{fu root:Int}{fr fs gn:Ws}{l:List Br}{e:Int}(hd:Ds.bH th m fu)(hp:∀b∈l,0≤b.2.1∧b.2.1≤65536)(uC:¬(e=0∧1<l.length))
 (ee:kx th key none m0 tu aP dH dm dq=jG th aP dH dm dq (m,fu,fr,fs,gn,l,e)):
 Safe P 48 X (kq ace ((th,m0,tu,aP,dH,dm,dq),key,val)) (akg th aP dH dm dq m fu root fr fs gn key l e):=by
 refine Ds.ew hz hX rb lR Tryd.func48 (akh th aP dH dm dq m fu root fr fs gn key l e) ⟨fun h=>⟨fun h2=> ?_,fun h2=> ?_⟩,fun h=> ?_⟩
 ·have h:e=0:=by simpa using h
  have h2:=of_decide_eq_true h2;exact absurd ⟨h,by omega⟩ uC
 ·exact tQ hz hX hd hp ee
 ·exact tQ hz hX hd hp ee
theorem am4(hz:dT Bx.bV X)(hX:X.H=lk (qU th m0 tu aP dH dm dq key)){m:As}{fu root:Int}{fr fs gn:Ws}{l:List Br}{e:Int}(F:aj5 th m fu fr l)
 (ee:kx th key none m0 tu aP dH dm dq=jG th aP dH dm dq (upT th (m,fu,fr,fs,gn,l,e))):
 Safe P 48 X (kq ace ((th,m0,tu,aP,dH,dm,dq),key,val)) (akg th aP dH dm dq m fu root fr fs gn key l e):=by
 refine Ds.ew hz hX rb lR Tryd.func48 (akh th aP dH dm dq m fu root fr fs gn key l e) ⟨fun h=>⟨fun h2=> ?_,fun h2=> ?_⟩,fun h=> ?_⟩
 ·have h:e=0:=by simpa using h
  have h2:=of_decide_eq_true h2;have hu:upT th (m,fu,fr,fs,gn,l,e)=hP gn (bp th m fu fr fs false [] l):=if_pos ⟨h,by show 1<l.length;omega⟩;rw[hu]at ee;have F2:=nO (fs:=fs) (l:=false) (es:=[]) F.d F.fr noE F.key;have hl:=aki (th:=th) (m:=m) (fu:=fu) (fr:=fr) (fs:=fs) (l:=l) (by omega) F.two F.key;exact⟨rfl,rfl,F.d,F.fr,⟨fun a=>(by cases a),fun _=>rfl⟩,iD,yC F.two F.key,am3 hz hX F2.d F2.pg (fun a=>by rw[hl]at a;omega) ee⟩
 ·have h2:=of_decide_eq_false h2;rw[sj (fun a=>h2 (by have:=a.2;simp only[]at this;omega))]at ee;exact tQ hz hX F.d F.pg ee
 ·have h:¬e=0:=by simpa using h
  rw[sj (fun a=>h a.1)]at ee;exact tQ hz hX F.d F.pg ee
end
theorem ach:ib P Bx.bV 48 ace:=by
 refine aC Tryd.func48 (by kernel_rfl) (fun x=>Nat.le_of_ble_eq_true (by kernel_rfl)) ?_;rintro⟨⟨(th:Th),(m:As),(fu:Int),(root:Int),(fr:Ws),(fs:Ws),(gn:Ws)⟩,(key:ByteArray),(val:ByteArray)⟩ ⟨(hd:Ds.bH th m fu),(hf:Bx.okW fr),(hr:0≤root∧root≤65536),(hk:1≤key.size∧key.size≤24),(hv:val.size≤100),_⟩ X hX hz;exact Ds.ew hz hX rb lR Tryd.func48 (as9 th m fu root fr fs gn key) ⟨rfl,rfl,hd,hf,hr,hk,(Nat.zero_le 100),am4 hz hX (acf (op:=none) hk.2 hd hf) rfl⟩
end Ts
namespace Ts
open Go Go.Sx Go.Proofs Lf
def ej(key:ByteArray):Option ByteArray→Bool
 |some v=>decide (1≤key.size)&&decide (key.size≤24)&&decide (v.size≤100)
 |none=>decide (1≤key.size)&&decide (key.size≤24)
def opT(th:Th)(key:ByteArray)(op:Option ByteArray)(m:As)(fu root:Int)(fr fs gn:Ws):Chs:=if ej key op=true then kx th key op m fu root fr fs gn else(m,fu,root,fr,fs,gn,1)
def mI(th:Th)(key:ByteArray)(op:Option ByteArray)(m:As)(fu root:Int)(fr fs gn:Ws):As:=(opT th key op m fu root fr fs gn).1
def mJ(th:Th)(key:ByteArray)(op:Option ByteArray)(m:As)(fu root:Int)(fr fs gn:Ws):Int:=(opT th key op m fu root fr fs gn).2.1
def kf(th:Th)(key:ByteArray)(op:Option ByteArray)(m:As)(fu root:Int)(fr fs gn:Ws):Int:=(opT th key op m fu root fr fs gn).2.2.1
def mL(th:Th)(key:ByteArray)(op:Option ByteArray)(m:As)(fu root:Int)(fr fs gn:Ws):Ws:=(opT th key op m fu root fr fs gn).2.2.2.1
def mM(th:Th)(key:ByteArray)(op:Option ByteArray)(m:As)(fu root:Int)(fr fs gn:Ws):Ws:=(opT th key op m fu root fr fs gn).2.2.2.2.1
def mN(th:Th)(key:ByteArray)(op:Option ByteArray)(m:As)(fu root:Int)(fr fs gn:Ws):Ws:=(opT th key op m fu root fr fs gn).2.2.2.2.2.1
def opE(th:Th)(key:ByteArray)(op:Option ByteArray)(m:As)(fu root:Int)(fr fs gn:Ws):Int:=(opT th key op m fu root fr fs gn).2.2.2.2.2.2
def ata(th:Th)(m:As)(fu root:Int)(fr:Ws):List Prop:=[Ds.bH th m fu,Bx.okW fr,0≤root∧root≤65536]
abbrev akj:Spec XK:=⟨fun(_,key,val)=>[.ptr 0 0,.s (.str key),.s (.str val)],fun((th,m,fu,root,fr,fs,gn),_,_)=>hT th m fu root fr fs gn,fun((th,m,fu,root,fr,_,_),_,_)=>ata th m fu root fr,
 fun((th,m,fu,root,fr,fs,gn),key,val)=>hT th (mI th key (some val) m fu root fr fs gn) (mJ th key (some val) m fu root fr fs gn) (kf th key (some val) m fu root fr fs gn) (mL th key (some val) m fu root fr fs gn) (mM th key (some val) m fu root fr fs gn) (mN th key (some val) m fu root fr fs gn),
 fun((th,m,fu,root,fr,fs,gn),key,val)=>bD (opE th key (some val) m fu root fr fs gn)⟩
abbrev XD:Type:=XT×ByteArray
abbrev akk:Spec XD:=⟨fun(_,key)=>[.ptr 0 0,.s (.str key)],fun((th,m,fu,root,fr,fs,gn),_)=>hT th m fu root fr fs gn,fun((th,m,fu,root,fr,_,_),_)=>ata th m fu root fr,
 fun((th,m,fu,root,fr,fs,gn),key)=>hT th (mI th key none m fu root fr fs gn) (mJ th key none m fu root fr fs gn) (kf th key none m fu root fr fs gn) (mL th key none m fu root fr fs gn) (mM th key none m fu root fr fs gn) (mN th key none m fu root fr fs gn),
 fun((th,m,fu,root,fr,fs,gn),key)=>bD (opE th key none m fu root fr fs gn)⟩
def atb:aE:=[(48,cI acd amQ)]
def atc:aE:=[(48,cI ace amR)]
theorem avw(th:Th)(m:As)(fu root:Int)(fr fs gn:Ws)(key val:ByteArray):run P atb.sum Tryd.f24 [] (start Tryd.f24 [.ptr 0 0,.s (.str key),.s (.str val)] (hT th m fu root fr fs gn)) (inl:=[36])=
 Tree.ite (decide ((↑key.size:Int)≥1)) (.ite (!decide ((↑key.size:Int)≤24)) (.ret [.own [.ptr 1 0,.s (.int .i64 root),.ints .u64 16 fr,.ints .u64 16 fs,.ints .u64 16 gn] 70,.own [.vec 2,.ag 3,.s (.int .i64 fu)] 96,.vec (.ae [.arr .u8 64] th) 138,.map (.arr .u8 64) m,.own [.s (.str key)] 9,.own [.s (.str val)] 9] (.s (.aV .i64 1))) (.ite (decide ((↑val.size:Int)>100)) (.ret [.own [.ptr 1 0,.s (.int .i64 root),.ints .u64 16 fr,.ints .u64 16 fs,.ints .u64 16 gn] 70,.own [.vec 2,.ag 3,.s (.int .i64 fu)] 96,.vec (.ae [.arr .u8 64] th) 138,.map (.arr .u8 64) m,.own [.s (.str key)] 9,.own [.s (.str val)] 9] (.s (.aV .i64 1))) (.need (bt (some [AV.ptr 0 0,.s (.str key),.fn 49 [.ptr 4 0,.ptr 5 0]])) (.need (bt (some [ad.own [.ptr 1 0,.s (.int .i64 root),.ints .u64 16 fr,.ints .u64 16 fs,.ints .u64 16 gn] 70,.own [.vec 2,.ag 3,.s (.int .i64 fu)] 96,.vec (.ae [.arr .u8 64] th) 138,.map (.arr .u8 64) m,.own [.s (.str key)] 9,.own [.s (.str val)] 9])) (.need (Ds.bH th m fu) (.need (Bx.okW fr) (.need ((0:Int)≤root∧root≤65536) (.need ((1:Nat)≤key.size∧key.size≤24) (.need (val.size≤100) (.ret [.own [.ptr 1 0,.s (.int .i64 (amW th key (some val) m fu root fr fs gn)),.ints .u64 16 (amX th key (some val) m fu root fr fs gn),.ints .u64 16 (amY th key (some val) m fu root fr fs gn),.ints .u64 16 (amZ th key (some val) m fu root fr fs gn)] 70,.own [.vec 2,.ag 3,.s (.int .i64 (amV th key (some val) m fu root fr fs gn))] 96,.vec (.ae [.arr .u8 64] th) 138,.map (.arr .u8 64) (amU th key (some val) m fu root fr fs gn),.own [.s (.str key)] 9,.own [.s (.str val)] 9] (.s (.int .i64 (am0 th key (some val) m fu root fr fs gn))))))))))))) (.ret [.own [.ptr 1 0,.s (.int .i64 root),.ints .u64 16 fr,.ints .u64 16 fs,.ints .u64 16 gn] 70,.own [.vec 2,.ag 3,.s (.int .i64 fu)] 96,.vec (.ae [.arr .u8 64] th) 138,.map (.arr .u8 64) m,.own [.s (.str key)] 9,.own [.s (.str val)] 9] (.s (.aV .i64 1))):=by kernel_rfl
theorem avx(th:Th)(m:As)(fu root:Int)(fr fs gn:Ws)(key:ByteArray):run P atc.sum Tryd.f25 [] (start Tryd.f25 [.ptr 0 0,.s (.str key)] (hT th m fu root fr fs gn)) (inl:=[36])=
 Tree.ite (decide ((↑key.size:Int)≥1)) (.ite (!decide ((↑key.size:Int)≤24)) (.ret [.own [.ptr 1 0,.s (.int .i64 root),.ints .u64 16 fr,.ints .u64 16 fs,.ints .u64 16 gn] 70,.own [.vec 2,.ag 3,.s (.int .i64 fu)] 96,.vec (.ae [.arr .u8 64] th) 138,.map (.arr .u8 64) m,.own [.s (.str key)] 9] (.s (.aV .i64 1))) (.need (bt (some [AV.ptr 0 0,.s (.str key),.fn 51 [.ptr 4 0]])) (.need (bt (some [ad.own [.ptr 1 0,.s (.int .i64 root),.ints .u64 16 fr,.ints .u64 16 fs,.ints .u64 16 gn] 70,.own [.vec 2,.ag 3,.s (.int .i64 fu)] 96,.vec (.ae [.arr .u8 64] th) 138,.map (.arr .u8 64) m,.own [.s (.str key)] 9])) (.need (Ds.bH th m fu) (.need (Bx.okW fr) (.need ((0:Int)≤root∧root≤65536) (.need ((1:Nat)≤key.size∧key.size≤24) (.need (ByteArray.empty.size≤100) (.ret [.own [.ptr 1 0,.s (.int .i64 (amW th key none m fu root fr fs gn)),.ints .u64 16 (amX th key none m fu root fr fs gn),.ints .u64 16 (amY th key none m fu root fr fs gn),.ints .u64 16 (amZ th key none m fu root fr fs gn)] 70,.own [.vec 2,.ag 3,.s (.int .i64 (amV th key none m fu root fr fs gn))] 96,.vec (.ae [.arr .u8 64] th) 138,.map (.arr .u8 64) (amU th key none m fu root fr fs gn),.own [.s (.str key)] 9] (.s (.int .i64 (am0 th key none m fu root fr fs gn)))))))))))) (.ret [.own [.ptr 1 0,.s (.int .i64 root),.ints .u64 16 fr,.ints .u64 16 fs,.ints .u64 16 gn] 70,.own [.vec 2,.ag 3,.s (.int .i64 fu)] 96,.vec (.ae [.arr .u8 64] th) 138,.map (.arr .u8 64) m,.own [.s (.str key)] 9] (.s (.aV .i64 1))):=by kernel_rfl
theorem aal{th:Th}{key:ByteArray}{op:Option ByteArray}{m:As}{fu root:Int}{fr fs gn:Ws}(h:ej key op=true):opT th key op m fu root fr fs gn=kx th key op m fu root fr fs gn:=if_pos h
theorem sk{th:Th}{key:ByteArray}{op:Option ByteArray}{m:As}{fu root:Int}{fr fs gn:Ws}(h:ej key op=false):opT th key op m fu root fr fs gn=(m,fu,root,fr,fs,gn,1):=if_neg (by rw[h];simp)
theorem aoP{th:Th}{m:As}{fu root:Int}{fr fs gn:Ws}{key val:ByteArray}{c:Chs}(e:opT th key (some val) m fu root fr fs gn=c):
 akj.fH ((th,m,fu,root,fr,fs,gn),key,val)=hT th c.1 c.2.1 c.2.2.1 c.2.2.2.1 c.2.2.2.2.1 c.2.2.2.2.2.1∧akj.out ((th,m,fu,root,fr,fs,gn),key,val)=bD c.2.2.2.2.2.2:=by
 subst e;exact⟨rfl,rfl⟩
theorem aoQ{th:Th}{m:As}{fu root:Int}{fr fs gn:Ws}{key:ByteArray}{c:Chs}(e:opT th key none m fu root fr fs gn=c):
 akk.fH ((th,m,fu,root,fr,fs,gn),key)=hT th c.1 c.2.1 c.2.2.1 c.2.2.2.1 c.2.2.2.2.1 c.2.2.2.2.2.1∧akk.out ((th,m,fu,root,fr,fs,gn),key)=bD c.2.2.2.2.2.2:=by
 subst e;exact⟨rfl,rfl⟩
theorem ta:ib P Bx.bV 24 akj:=by
 refine aC Tryd.func24 (by kernel_rfl) (fun x=>Nat.le_of_ble_eq_true (by kernel_rfl)) ?_;rintro⟨⟨(th:Th),(m:As),(fu:Int),(root:Int),(fr:Ws),(fs:Ws),(gn:Ws)⟩,(key:ByteArray),(val:ByteArray)⟩ ⟨(hd:Ds.bH th m fu),(hf:Bx.okW fr),(hr:0≤root∧root≤65536),_⟩ X hX hz
 have no:ej key (some val)=false→kq akj ((th,m,fu,root,fr,fs,gn),key,val) (hT th m fu root fr fs gn++[tO key,tO val]) (.s (.aV .i64 1)):=fun h=>by
  obtain⟨f1,f2⟩:=aoP (sk (th:=th) (m:=m) (fu:=fu) (root:=root) (fr:=fr) (fs:=fs) (gn:=gn) h);exact bQ 4 rfl (Nat.le_refl _) f2 f1
 refine Ds.ew hz hX (by intro y hy;cases hy) (aE.Ok.cons (acg.sum amQ) aE.Ok.nil) Tryd.func24 (avw th m fu root fr fs gn key val) ⟨fun h=>⟨fun h2=> ?_,fun h2=>⟨fun h3=> ?_,fun h3=>⟨rfl,rfl,hd,hf,hr, ?_, ?_, ?_⟩⟩⟩,fun h=> ?_⟩
 ·have h2:¬(key.size:Int)≤24:=by simpa using h2
  exact no (by simp only[ej,Bool.and_eq_false_iff,decide_eq_false_iff_not];omega)
 ·have h3:=of_decide_eq_true h3;exact no (by simp only[ej,Bool.and_eq_false_iff,decide_eq_false_iff_not];omega)
 ·have h:=of_decide_eq_true h;have h2:(key.size:Int)≤24:=by simpa using h2
  omega
 ·have h3:=of_decide_eq_false h3;omega
 ·have h:=of_decide_eq_true h;have h2:(key.size:Int)≤24:=by simpa using h2
  have h3:=of_decide_eq_false h3;obtain⟨f1,f2⟩:=aoP (aal (th:=th) (key:=key) (op:=some val) (m:=m) (fu:=fu) (root:=root) (fr:=fr) (fs:=fs) (gn:=gn) (by simp only[ej,Bool.and_eq_true,decide_eq_true_eq];omega));exact bQ 4 rfl (Nat.le_refl _) f2 f1
 ·have h:=of_decide_eq_false h;exact no (by simp only[ej,Bool.and_eq_false_iff,decide_eq_false_iff_not];omega)
theorem tc:ib P Bx.bV 25 akk:=by
 refine aC Tryd.func25 (by kernel_rfl) (fun x=>Nat.le_of_ble_eq_true (by kernel_rfl)) ?_;rintro⟨⟨(th:Th),(m:As),(fu:Int),(root:Int),(fr:Ws),(fs:Ws),(gn:Ws)⟩,(key:ByteArray)⟩ ⟨(hd:Ds.bH th m fu),(hf:Bx.okW fr),(hr:0≤root∧root≤65536),_⟩ X hX hz
 have no:ej key none=false→kq akk ((th,m,fu,root,fr,fs,gn),key) (hT th m fu root fr fs gn++[tO key]) (.s (.aV .i64 1)):=fun h=>by
  obtain⟨f1,f2⟩:=aoQ (sk (th:=th) (m:=m) (fu:=fu) (root:=root) (fr:=fr) (fs:=fs) (gn:=gn) h);exact bQ 4 rfl (Nat.le_refl _) f2 f1
 refine Ds.ew hz hX (by intro y hy;cases hy) (aE.Ok.cons (ach.sum amR) aE.Ok.nil) Tryd.func25 (avx th m fu root fr fs gn key) ⟨fun h=>⟨fun h2=> ?_,fun h2=>⟨rfl,rfl,hd,hf,hr, ?_,Nat.zero_le 100, ?_⟩⟩,fun h=> ?_⟩
 ·have h2:¬(key.size:Int)≤24:=by simpa using h2
  exact no (by simp only[ej,Bool.and_eq_false_iff,decide_eq_false_iff_not];omega)
 ·have h:=of_decide_eq_true h;have h2:(key.size:Int)≤24:=by simpa using h2
  omega
 ·have h:=of_decide_eq_true h;have h2:(key.size:Int)≤24:=by simpa using h2
  obtain⟨f1,f2⟩:=aoQ (aal (th:=th) (key:=key) (op:=none) (m:=m) (fu:=fu) (root:=root) (fr:=fr) (fs:=fs) (gn:=gn) (by simp only[ej,Bool.and_eq_true,decide_eq_true_eq];omega));exact bQ 4 rfl (Nat.le_refl _) f2 f1
 ·have h:=of_decide_eq_false h;exact no (by simp only[ej,Bool.and_eq_false_iff,decide_eq_false_iff_not];omega)
end Ts
namespace Ts
open Go Go.Sx Go.Proofs Lf
def xk(th:Th)(m:As)(key:ByteArray):Nat→Int→Int→ByteArray×Bool×Int
 |0,_,_=>(ByteArray.empty,false,4)
 |f+1,n,deep=>
  if eZ th m n deep≠0 then(ByteArray.empty,false,eZ th m n deep)
  else if kj th m n deep=true then(oK (bS th m n deep) key,me (bS th m n deep) key,0)
  else if aO th m n deep=[]then(ByteArray.empty,false,4)
  else xk th m key f ((aO th m n deep).getD (aT (aO th m n deep) key).toNat dB).2.1 (deep+1)
def gtT(th:Th)(m:As)(root:Int)(key:ByteArray):ByteArray×Bool×Int:=
 if ej key none=false then(ByteArray.empty,false,1)else if root=0 then(ByteArray.empty,false,0)else xk th m key 17 root 1
def gtV(th:Th)(m:As)(root:Int)(key:ByteArray):ByteArray:=(gtT th m root key).1
def gtB(th:Th)(m:As)(root:Int)(key:ByteArray):Bool:=(gtT th m root key).2.1
def gtE(th:Th)(m:As)(root:Int)(key:ByteArray):Int:=(gtT th m root key).2.2
abbrev ahp:Spec XD:=⟨fun(_,key)=>[.ptr 0 0,.s (.str key)],fun((th,m,fu,root,fr,fs,gn),_)=>hT th m fu root fr fs gn,fun((th,m,fu,root,_),_)=>[Ds.bH th m fu,0≤root∧root≤65536],
 fun((th,m,fu,root,fr,fs,gn),_)=>hT th m fu root fr fs gn,fun((th,m,_,root,_),key)=>.bo [.s (.str (gtV th m root key)),.s (.bool (gtB th m root key)),bD (gtE th m root key)]⟩
abbrev atd:=bZ [qI,dt] [dt,cX] (fun(l,_,())=>[(l:List En).length≤1000000,im (bB l)]) (fun(l,key,())=>(oK l key,me l key,()))
def akl:aE:=[(37,yu),(38,atd),(39,aqQ)]
def am5:List (Nat×Norm):=[(10,⟨[],[0,1,7,8],4,[]⟩)]
noncomputable def cGt(th:Th)(m:As)(fu root:Int)(fr fs gn:Ws)(key:ByteArray)(n deep:Int):bA:=⟨sl 66 [(0,.ptr 0 0),(1,.s (.str key)),(7,bD n),(8,bD deep)],hT th m fu root fr fs gn,hd Tryd.f11 10,{}⟩
theorem avy(th:Th)(m:As)(fu root:Int)(fr fs gn:Ws)(key:ByteArray):run P akl.sum Tryd.f11 am5 (start Tryd.f11 [.ptr 0 0,.s (.str key)] (hT th m fu root fr fs gn)) (inl:=[36])=
 Tree.ite (decide ((↑key.size:Int)≥1)) (.ite (!decide ((↑key.size:Int)≤24)) (.ret [.own [.ptr 1 0,.s (.int .i64 root),.ints .u64 16 fr,.ints .u64 16 fs,.ints .u64 16 gn] 70,.own [.vec 2,.ag 3,.s (.int .i64 fu)] 96,.vec (.ae [.arr .u8 64] th) 138,.map (.arr .u8 64) m] (.bo [.s (.str ByteArray.empty),.s (.aA false),.s (.aV .i64 1)])) (.ite (root==0) (.ret [.own [.ptr 1 0,.s (.int .i64 root),.ints .u64 16 fr,.ints .u64 16 fs,.ints .u64 16 gn] 70,.own [.vec 2,.ag 3,.s (.int .i64 fu)] 96,.vec (.ae [.arr .u8 64] th) 138,.map (.arr .u8 64) m] (.bo [.s (.str ByteArray.empty),.s (.aA false),.s (.aV .i64 0)])) (.at (.mk (sl 66 [(0,.ptr 0 0),(1,.s (.str key)),(7,.s (.int .i64 root)),(8,.s (.int .i64 1))]) [.own [.ptr 1 0,.s (.int .i64 root),.ints .u64 16 fr,.ints .u64 16 fs,.ints .u64 16 gn] 70,.own [.vec 2,.ag 3,.s (.int .i64 fu)] 96,.vec (.ae [.arr .u8 64] th) 138,.map (.arr .u8 64) m] (hd Tryd.f11 10) (.mk none false 0 [] 0))))) (.ret [.own [.ptr 1 0,.s (.int .i64 root),.ints .u64 16 fr,.ints .u64 16 fs,.ints .u64 16 gn] 70,.own [.vec 2,.ag 3,.s (.int .i64 fu)] 96,.vec (.ae [.arr .u8 64] th) 138,.map (.arr .u8 64) m] (.bo [.s (.str ByteArray.empty),.s (.aA false),.s (.aV .i64 1)])):=by kernel_rfl
theorem avz(th:Th)(m:As)(fu root:Int)(fr fs gn:Ws)(key:ByteArray)(n deep:Int):run P akl.sum Tryd.f11 am5 (cGt th m fu root fr fs gn key n deep) (inl:=[36])=
 Tree.need (bt (some [AV.ptr 0 0,.s (.int .i64 n),.s (.int .i64 deep)])) (.need (bt (some [ad.own [.ptr 1 0,.s (.int .i64 root),.ints .u64 16 fr,.ints .u64 16 fs,.ints .u64 16 gn] 70,.own [.vec 2,.ag 3,.s (.int .i64 fu)] 96,.vec (.ae [.arr .u8 64] th) 138,.map (.arr .u8 64) m])) (.need (Ds.bH th m fu) (.need (aF n) (.ite (eZ th m n deep !=0) (.ret [.own [.ptr 1 0,.s (.int .i64 root),.ints .u64 16 fr,.ints .u64 16 fs,.ints .u64 16 gn] 70,.own [.vec 2,.ag 3,.s (.int .i64 fu)] 96,.vec (.ae [.arr .u8 64] th) 138,.map (.arr .u8 64) m,.own [.s (.bool (kj th m n deep)),.s (.ro (.ae [.str,.str] (bS th m n deep))),.s (.ro (.ae [.str,.int .i64] (aO th m n deep)))] 73] (.bo [.s (.str ByteArray.empty),.s (.aA false),.s (.int .i64 (eZ th m n deep))])) (.ite (kj th m n deep) (.need ((bS th m n deep).length≤1000000) (.need (im (bB (bS th m n deep))) (.ret [.own [.ptr 1 0,.s (.int .i64 root),.ints .u64 16 fr,.ints .u64 16 fs,.ints .u64 16 gn] 70,.own [.vec 2,.ag 3,.s (.int .i64 fu)] 96,.vec (.ae [.arr .u8 64] th) 138,.map (.arr .u8 64) m,.own [.s (.bool (kj th m n deep)),.s (.ro (.ae [.str,.str] (bS th m n deep))),.s (.ro (.ae [.str,.int .i64] (aO th m n deep)))] 73] (.bo [.s (.str (oK (bS th m n deep) key)),.s (.bool (me (bS th m n deep) key)),.s (.aV .i64 0)])))) (.ite ((↑(aO th m n deep).length:Int)==0) (.ret [.own [.ptr 1 0,.s (.int .i64 root),.ints .u64 16 fr,.ints .u64 16 fs,.ints .u64 16 gn] 70,.own [.vec 2,.ag 3,.s (.int .i64 fu)] 96,.vec (.ae [.arr .u8 64] th) 138,.map (.arr .u8 64) m,.own [.s (.bool (kj th m n deep)),.s (.ro (.ae [.str,.str] (bS th m n deep))),.s (.ro (.ae [.str,.int .i64] (aO th m n deep)))] 73] (.bo [.s (.str ByteArray.empty),.s (.aA false),.s (.aV .i64 4)])) (.need ((aO th m n deep).length≤1000000) (.need (im (mr (aO th m n deep))) (.need ((0:Int)≤aT (aO th m n deep) key) (.need (aT (aO th m n deep) key<(↑(aO th m n deep).length:Int)) (.need (aF (deep+1)) (.at (.mk (sl 66 [(0,.ptr 0 0),(1,.s (.str key)),(7,.s (.int .i64 ((aO th m n deep).getD (aT (aO th m n deep) key).toNat (CL.d [.str,.int .i64])).snd.fst)),(8,.s (.int .i64 (deep+1)))]) [.own [.ptr 1 0,.s (.int .i64 root),.ints .u64 16 fr,.ints .u64 16 fs,.ints .u64 16 gn] 70,.own [.vec 2,.ag 3,.s (.int .i64 fu)] 96,.vec (.ae [.arr .u8 64] th) 138,.map (.arr .u8 64) m] (hd Tryd.f11 10) (.mk none false 0 [] 0)))))))))))))):=by kernel_rfl
theorem aci{Z:aX}:akl.Ok P Z:=aE.Ok.cons (ow.sum mNo) (aE.Ok.cons al3.sum (aE.Ok.cons vF.sum aE.Ok.nil))
theorem acj{th:Th}{m:As}{fu root:Int}{fr fs gn:Ws}{key:ByteArray}{c:ByteArray×Bool×Int}(e:c=gtT th m root key):
 ahp.out ((th,m,fu,root,fr,fs,gn),key)=.bo [.s (.str c.1),.s (.bool c.2.1),bD c.2.2]:=by
 subst e;rfl
theorem akm{Z:aX}:ib P Z 11 ahp:=by
 refine aC Tryd.func11 (by kernel_rfl) (fun x=>Nat.le_of_ble_eq_true (by kernel_rfl)) ?_;rintro⟨⟨(th:Th),(m:As),(fu:Int),(root:Int),(fr:Ws),(fs:Ws),(gn:Ws)⟩,(key:ByteArray)⟩ ⟨(hd:Ds.bH th m fu),(hr:0≤root∧root≤65536),_⟩ X hX hz
 have hm:∀y∈am5,(hT th m fu root fr fs gn).length≤y.2.m:=fun y hy=>by
  simp only[am5,List.mem_singleton]at hy;subst hy;exact Nat.le_refl _
 have loop:∀(f:Nat) (n deep:Int),1≤deep∧deep≤17→18≤deep+(f:Int)→0≤n∧n≤65536→xk th m key f n deep=gtT th m root key→
  Safe P 11 X (kq ahp ((th,m,fu,root,fr,fs,gn),key)) (cGt th m fu root fr fs gn key n deep):=by
  intro f
  induction f with
  |zero=>intro n deep h1 h2;omega
  |succ f ih=>
   intro n deep h1 h2 hn e;rw[xk]at e;refine Ds.ew hz hX hm aci Tryd.func11 (avz th m fu root fr fs gn key n deep) ⟨rfl,rfl,hd,yz (by omega) (by omega),fun h=> ?_,fun h=> ?_⟩
   ·have h:eZ th m n deep≠0:=by simpa using h
    rw[if_pos h]at e;exact bQ 4 rfl (Nat.le_refl _) (acj e) rfl
   have h:eZ th m n deep=0:=by simpa using h
   obtain⟨avA,n1,n2,_,_,n5,_⟩:=eM h;obtain⟨s1,s2⟩:=qR avA;rw[if_neg (by rw[h];simp)]at e;refine⟨fun hl=>⟨by omega,s1, ?_⟩,fun hl=>⟨fun h3=> ?_,fun h3=> ?_⟩⟩
   ·rw[if_pos hl]at e;exact bQ 4 rfl (Nat.le_refl _) (acj e) rfl
   ·have h3:aO th m n deep=[]:=List.eq_nil_of_length_eq_zero (by have:((aO th m n deep).length:Int)=0:=by simpa using h3
                                                                 omega)
    rw[if_neg (by rw[hl];simp),if_pos h3]at e;exact bQ 4 rfl (Nat.le_refl _) (acj e) rfl
   ·have h3:aO th m n deep≠[]:=fun e=>by rw[e]at h3;simp at h3
    rw[if_neg (by rw[hl];simp),if_neg h3]at e;obtain⟨p0,p1⟩:=sg (key:=key) s2 h3;exact⟨by omega,s2,p0,p1,yz (by omega) (by omega),ih _ _ ⟨by omega,by omega⟩ (by omega) (si h _) e⟩
 have no:ej key none=false→kq ahp ((th,m,fu,root,fr,fs,gn),key) (hT th m fu root fr fs gn) (.bo [.s (.str ByteArray.empty),.s (.aA false),.s (.aV .i64 1)]):=fun h=>
  bQ 4 rfl (Nat.le_refl _) (acj (c:=(ByteArray.empty,false,1)) (by unfold gtT;rw[if_pos h])) rfl
 refine Ds.ew hz hX hm aci Tryd.func11 (avy th m fu root fr fs gn key) ⟨fun h=>⟨fun h2=> ?_,fun h2=> ?_⟩,fun h=> ?_⟩
 ·have h2:¬(key.size:Int)≤24:=by simpa using h2
  exact no (by simp only[ej,Bool.and_eq_false_iff,decide_eq_false_iff_not];omega)
 ·have h:=of_decide_eq_true h;have h2:(key.size:Int)≤24:=by simpa using h2
  have ok:ej key none=true:=by simp only[ej,Bool.and_eq_true,decide_eq_true_eq];omega
  refine⟨fun h3=> ?_,fun h3=> ?_⟩
  ·have h3:root=0:=by simpa using h3
   exact bQ 4 rfl (Nat.le_refl _) (acj (c:=(ByteArray.empty,false,0)) (by unfold gtT;rw[if_neg (by rw[ok];simp),if_pos h3])) rfl
  ·have h3:root≠0:=by simpa using h3
   exact loop 17 root 1 ⟨by omega,by omega⟩ (by omega) hr (by unfold gtT;rw[if_neg (by rw[ok];simp),if_neg h3])
 ·have h:=of_decide_eq_false h;exact no (by simp only[ej,Bool.and_eq_false_iff,decide_eq_false_iff_not];omega)
end Ts
namespace Go.Sx
open Go
section
variable{P:Program}{X:Ctx}{K:List ad→AV→Prop}{L:List ad}
end
end Go.Sx
namespace Go.Sx
open Go
def ack(id n:Nat):AV→AV
 |.vec j=>bif j.beq id then .vec n else .vec j
 |a=>a
def ad6(id n:Nat):AV→AV
 |.agg an=>.agg (an.map (ack id n))
 |.vec j=>bif j.beq id then .vec n else .vec j
 |a=>a
def mvO(id n:Nat):ad→ad
 |.own an e=>.own (an.map (ack id n)) e
 |o=>o
def am6(s:St)(id:Nat):St:=
 match s.H[id]? with
 |some (.vec c e)=>⟨s.tmps.map (ad6 id s.H.length),(s.H.map (mvO id s.H.length)).set id .dead++[.vec c e]⟩
 |_=>s
section
variable{ρ aB:Nat→Value}{H H':aJ}{G O O':Nat→Prop}{w w':World}{P:Program}{Z:aX}{X:Ctx}{s:St}{a:Act}
theorem ahq{id n:Nat}{o:ad}:(mvO id n o).alive=o.alive:=by cases o<;>rfl
theorem am7{id n:Nat}{o:ad}{c':aI}{e':TypeId}(h:mvO id n o=.vec c' e'):o=.vec c' e':=by
 cases o<;>simp[mvO]at h ⊢;exact h
theorem bX.mv(h:bX X ρ s a w)(id:Nat):∃aB,bX X aB (am6 s id) a w:=by
 unfold am6;split
 ·rename_i c e ho;have hs:=h.sat;have a8:id<s.H.length:=(List.getElem?_eq_some_iff.1 ho).1;let n:=s.H.length;let aB:Nat→Value:=fun j=>if j=n then ρ id else ρ j
  let s':St:=⟨s.tmps.map (ad6 id n),(s.H.map (mvO id n)).set id .dead++[.vec c e]⟩
  have look:∀j,s'.look j=if j=n then some (.vec c e)else if j=id then some .dead else(s.look j).map (mvO id n):=by
   intro j;show((s.H.map (mvO id n)).set id .dead++[.vec c e])[j]? =_;by_cases hj:j=n
   ·subst hj;rw[if_pos rfl,List.getElem?_append_right (by simp[n])];simp[n]
   ·rw[if_neg hj];by_cases hl:j<n
    ·rw[List.getElem?_append_left (by simpa[n]using hl),List.getElem?_set];by_cases hi:id=j
     ·subst hi;simp[a8]
     ·rw[if_neg hi,if_neg (Ne.symm hi),List.getElem?_map];rfl
    ·rw[List.getElem?_eq_none (by simp only[List.length_append,List.length_set,List.length_map,List.length_singleton];show n+1≤j;omega),if_neg (by omega)];have:s.look j=none:=List.getElem?_eq_none (by show n≤j;omega);rw[this];rfl
  have aoR:∀{j:Nat} {o:ad},s.look j=some o→j<n:=fun hj=>(List.getElem?_eq_some_iff.1 hj).1
  have back:∀j o,s'.look j=some o→o.alive=true→∃x,s.look (if j=n then id else j)=some x∧x.alive=true∧aB j=ρ (if j=n then id else j)∧(j≠n→j≠id):=by
   intro j o hj ha;rw[look]at hj;by_cases e1:j=n
   ·rw[if_pos e1];exact⟨.vec c e,ho,rfl,by simp[aB,e1],fun h=>absurd e1 h⟩
   ·rw[if_neg e1]at hj ⊢;by_cases e2:j=id
    ·rw[if_pos e2]at hj;cases hj;cases ha
    ·rw[if_neg e2]at hj;obtain⟨o0,h3,rfl⟩:=Option.map_eq_some_iff.1 hj;exact⟨o0,h3,by rw[ahq]at ha;exact ha,by simp[aB,e1],fun _=>e2⟩
  have own:∀b,Own aB s'.look b→Own ρ s.look b:=by
   rintro b ⟨j,o,hj,h1,h2⟩;obtain⟨x,g1,g2,g3,_⟩:=back j o hj h1;exact⟨_,x,g1,g2,by rw[←g3];exact h2⟩
  have st:Step ρ s.look (aN ρ s.look X.G) w aB s'.look (aN aB s'.look X.G) w:=by
   refine⟨fun j o hj=> ?_,fun j o hj=> ?_,fun b hb=>.inl (hb.imp (own b) (fun x=>x)),fun _ _ _=>rfl,Nat.le_refl _⟩
   ·have:=aoR hj;simp only[aB];rw[if_neg (by omega)]
   ·have hjn:j≠n:=Nat.ne_of_lt (aoR hj);by_cases e1:j=id
    ·exact⟨.dead,by rw[look,if_neg hjn,if_pos e1],fun c' e' he=>by cases he⟩
    ·refine⟨mvO id n o,by rw[look,if_neg hjn,if_neg e1,hj];rfl,fun c' e' he=> ?_⟩;exact⟨c',e',am7 he,rfl,rfl⟩
  have ate:s'.look n=some (.vec c e):=by rw[look,if_pos rfl]
  have atf:aB n=ρ id:=by simp[aB]
  have hi:s.look id=some (.vec c e):=ho
  have atg:∀{v:Value},az ρ s.look (aN ρ s.look X.G) w (.vec id) v→az aB s'.look (aN aB s'.look X.G) w (.vec n) v:=by
   intro v hv;unfold az at hv ⊢;obtain⟨h0,o,h1,h2⟩:=hv;rw[hi]at h1;cases h1;exact⟨h0,.vec c e,ate,fun c' e' _=>by rw[atf];exact h2 c e rfl⟩
  have adp:∀x cs,aK ρ s.look (aN ρ s.look X.G) w x cs→aK aB s'.look (aN aB s'.look X.G) w (ack id n x) cs:=by
   intro x cs hx;have mA:=aK.step st x cs hx;cases x<;>try exact mA
   rename_i j;simp only[ack,Bool.cond_eq_ite];split
   ·rename_i hj;have hj:j=id:=by simpa using hj
    subst hj;unfold aK at hx ⊢;obtain⟨u,rfl,hu⟩:=hx;exact⟨u,rfl,atg hu⟩
   ·exact mA
  have l5:∀(xs:List AV) cs,ao ρ s.look (aN ρ s.look X.G) w xs cs→ao aB s'.look (aN aB s'.look X.G) w (xs.map (ack id n)) cs:=by
   intro xs
   induction xs with
   |nil=>intro cs hx;exact aq.2 (aq.1 hx)
   |cons x xs ih=>
    intro cs hx;obtain⟨c1,c2,rfl,h1,h2⟩:=af.1 hx;exact af.2 ⟨c1,c2,rfl,adp _ _ h1,ih _ h2⟩
  have apD:∀x v,ab ρ s.look (aN ρ s.look X.G) w x v→ab aB s'.look (aN aB s'.look X.G) w (ad6 id n x) v:=by
   intro x v hx;have mA:=ab.step st x v hx;cases x with
   |agg an=>
    unfold ab at hx;obtain⟨cs,rfl,h1⟩:=hx;show ab _ _ _ _ (.agg _) _;unfold ab;exact⟨cs,rfl,l5 _ _ h1⟩
   |vec j=>
    simp only[ad6,Bool.cond_eq_ite];split
    ·rename_i hj;have hj:j=id:=by simpa using hj
     subst hj;unfold ab at hx ⊢;exact atg hx
    ·exact mA
   |_=>exact mA
  refine⟨aB,⟨fun j o hj=> ?_,fun i j oi oj b h1 h2 h3 h4 h5 h6=> ?_,fun b hb=>hs.apart b (own b hb),hs.low⟩,by rw[←h.size];exact List.length_map _,fun t=> ?_,h.defers,h.from_.trans st,h.jc,h.kept⟩
  ·have hj:s'.look j=some o:=hj;rw[look]at hj;by_cases e0:j=n
   ·rw[if_pos e0]at hj;cases hj;subst e0;rw[atf];exact(hs.obj id _ hi).step st (fun _ _ _=>rfl)
   ·rw[if_neg e0]at hj;have hr:aB j=ρ j:=by simp[aB,e0]
    rw[hr];by_cases e1:j=id
    ·rw[if_pos e1]at hj;cases hj;trivial
    ·rw[if_neg e1]at hj;obtain⟨o0,h3,rfl⟩:=Option.map_eq_some_iff.1 hj;have dV:=hs.obj j o0 h3;cases o0 with
     |own an e1=>
      obtain⟨b,cells,fr,g1,g2,g3,g4⟩:=dV;exact⟨b,cells,fr,g1,g2,g3,l5 _ _ g4⟩
     |_=>exact dV.step st (fun _ _ _=>rfl)
  ·obtain⟨x,hx,hxa,hxr,hxi⟩:=back i oi h1 h3;obtain⟨y,hy,hya,hyr,hyi⟩:=back j oj h2 h4;have:=hs.inj _ _ x y b hx hy hxa hya (by rw[←hxr];exact h5) (by rw[←hyr];exact h6);by_cases e1:i=n
   ·by_cases e2:j=n
    ·omega
    ·rw[if_pos e1,if_neg e2]at this;exact absurd this.symm (hyi e2)
   ·by_cases e2:j=n
    ·rw[if_neg e1,if_pos e2]at this;exact absurd this (hxi e1)
    ·rw[if_neg e1,if_neg e2]at this;exact this
  ·have e1:(s.tmps.map (ad6 id n)).getD t (.s .aQ)=ad6 id n (s.tmps.getD t (.s .aQ)):=by
    rw[List.getD_eq_getElem?_getD,List.getD_eq_getElem?_getD,List.getElem?_map];cases s.tmps[t]? <;>rfl
   show ab aB s'.look _ w ((s.tmps.map (ad6 id n)).getD t (.s .aQ)) _;rw[e1];exact apD _ _ (h.den t)
 ·exact⟨ρ,h⟩
variable{K:List ad→AV→Prop}
theorem pU{f:FuncId}{tmps:List AV}{L:List ad}{todo:List Item}{stk:nh}(id:Nat){c:bA}(e:(⟨(am6 ⟨tmps,L⟩ id).tmps,(am6 ⟨tmps,L⟩ id).H,todo,stk⟩:bA)=c)(h:Safe P f X K c):Safe P f X K ⟨tmps,L,todo,stk⟩:=by
 subst e;intro G E ρ a w ik iM hr b t fs hw;obtain⟨aB,r'⟩:=hr.mv id;exact h G E aB a w ik iM r' b t fs hw
end
end Go.Sx
namespace Ts
open Go Go.Sx Go.Proofs Lf
abbrev fL1:FuncId:=41
abbrev fG1:FuncId:=42
abbrev fW1:FuncId:=62
def geE(k:ByteArray)(e:En):Bool:= !slt e.1 k
abbrev sL1:Spec (Int×(Bool×List En×List Br)×ByteArray×List En):=⟨fun(n,(l,es,bs),_,_)=>[bD n,avN l es bs,.ptr 0 0,.ptr 1 0],fun(_,_,from_,out)=>[tO from_,.own [.vec 2] 29,.vec (.ae cE out) Lf.eE],
 fun(_,(_,es,_),_,out)=>[(es:List En).length≤1000,(out:List En).length≤100000000],fun(_,(_,es,_),from_,out)=>[tO from_,.own [.vec 3] 29,.dead,.vec (.ae cE (out++es.filter (geE from_))) Lf.eE],fun _=>.bo []⟩
def akn:List (Nat×Norm):=[(1,⟨[],[2,3,5],3,[]⟩),(2,⟨[],[2,3,9,10,11],3,[]⟩)]
noncomputable def ath(l:Bool)(es:List En)(bs:List Br)(from_:ByteArray)(out:List En):bA:=⟨sl 24 [(2,.ptr 0 0),(3,.ptr 1 0),(5,.ptr 3 0)],[tO from_,.own [.vec 4] 29,.dead,ya l es bs eN,.vec (.ae cE out) Lf.eE],hr Tryd.f41 1,{}⟩
noncomputable def cL1(es:List En)(from_:ByteArray)(out:List En)(i:Int):bA:=⟨sl 24 [(2,.ptr 0 0),(3,.ptr 1 0),(9,.s (.ro (.ae cE es))),(10,bD (es.length:Int)),(11,bD i)],[tO from_,.own [.vec 3] 29,.dead,.vec (.ae cE out) Lf.eE],hd Tryd.f41 2,{}⟩
theorem avB(n:Int)(l:Bool)(es:List En)(bs:List Br)(from_:ByteArray)(out:List En):run P (aE.sum []) Tryd.f41 akn (start Tryd.f41 [bD n,avN l es bs,.ptr 0 0,.ptr 1 0] [tO from_,.own [.vec 2] 29,.vec (.ae cE out) Lf.eE])=
 Tree.at (.mk (sl 24 [(2,.ptr 0 0),(3,.ptr 1 0),(5,.ptr 3 0)]) [.own [.s (.str from_)] 9,.own [.vec 2] 29,.vec (.ae [.str,.str] out) 34,.own [.s (.bool l),.s (.ro (.ae [.str,.str] es)),.s (.ro (.ae [.str,.int .i64] bs))] 73] (hr Tryd.f41 1) (.mk none false 0 [] 0)):=by kernel_rfl
theorem avC(l:Bool)(es:List En)(bs:List Br)(from_:ByteArray)(out:List En):run P (aE.sum []) Tryd.f41 akn (ath l es bs from_ out)=
 Tree.at (.mk (sl 24 [(2,.ptr 0 0),(3,.ptr 1 0),(9,.s (.ro (.ae [.str,.str] es))),(10,.s (.int .i64 (↑es.length:Int))),(11,.s (.int .i64 0))]) [.own [.s (.str from_)] 9,.own [.vec 3] 29,.dead,.vec (.ae [.str,.str] out) 34] (hd Tryd.f41 2) (.mk none false 0 [] 0)):=by kernel_rfl
theorem ati(es:List En)(from_:ByteArray)(out:List En)(i:Int):run P (aE.sum []) Tryd.f41 akn (cL1 es from_ out i)=
 Tree.ite (decide (i<(↑es.length:Int))) (.need ((0:Int)≤i) (.need (i<(↑es.length:Int)) (.ite (!slt (es.getD i.toNat (CL.d [.str,.str])).fst from_) (.need ((out.length+1)*(32:Nat)≤140737488355328) (.need (aF (i+1)) (.at (.mk (sl 24 [(2,.ptr 0 0),(3,.ptr 1 0),(9,.s (.ro (.ae [.str,.str] es))),(10,.s (.int .i64 (↑es.length:Int))),(11,.s (.int .i64 (i+1)))]) [.own [.s (.str from_)] 9,.own [.vec 3] 29,.dead,.vec (.ae [.str,.str] (out++[((es.getD i.toNat (CL.d [.str,.str])).fst,(es.getD i.toNat (CL.d [.str,.str])).snd.fst,())])) 34] (hd Tryd.f41 2) (.mk none false 0 [] 0))))) (.need (aF (i+1)) (.at (.mk (sl 24 [(2,.ptr 0 0),(3,.ptr 1 0),(9,.s (.ro (.ae [.str,.str] es))),(10,.s (.int .i64 (↑es.length:Int))),(11,.s (.int .i64 (i+1)))]) [.own [.s (.str from_)] 9,.own [.vec 3] 29,.dead,.vec (.ae [.str,.str] out) 34] (hd Tryd.f41 2) (.mk none false 0 [] 0))))))) (.ret [.own [.s (.str from_)] 9,.own [.vec 3] 29,.dead,.vec (.ae [.str,.str] out) 34] (.bo [])):=by kernel_rfl
theorem acm{α:Type}{p:α→Bool}{l:List α}{k:Nat}{d:α}(h:k<l.length):(l.take (k+1)).filter p=(l.take k).filter p++(if p (l.getD k d)=true then [l.getD k d]else []):=by
 rw[←lI (d:=d) h,List.filter_append];congr 1;cases h2:p (l.getD k d)
 ·rw[List.filter_cons_of_neg (by rw[h2];simp)];rfl
 ·rw[List.filter_cons_of_pos h2];rfl
theorem filter_le{α:Type}(p:α→Bool)(l:List α):(l.filter p).length≤l.length:=List.length_filter_le _ _
theorem ako{Z:aX}:ib P Z 41 sL1:=by
 refine aC Tryd.func41 (by kernel_rfl) (fun x=>Nat.le_of_ble_eq_true (by kernel_rfl)) ?_;rintro⟨(n:Int),⟨(l:Bool),(es:List En),(bs:List Br)⟩,(from_:ByteArray),(out:List En)⟩ ⟨(he:es.length≤1000),(ho:out.length≤100000000),_⟩ X hX hz
 have hm:∀y∈akn,([tO from_,.own [.vec 2] 29,.vec (.ae cE out) Lf.eE]:List ad).length≤y.2.m:=fun y hy=>by
  simp only[akn,List.mem_cons,List.not_mem_nil,or_false]at hy;rcases hy with rfl|rfl<;>exact Nat.le_refl _
 have loop:∀(j k:Nat),k+j=es.length→Safe P 41 X (kq sL1 (n,(l,es,bs),from_,out)) (cL1 es from_ (out++(es.take k).filter (geE from_)) (k:Int)):=by
  intro j
  induction j with
  |zero=>
   intro k hk;refine Ds.ew hz hX hm aE.Ok.nil Tryd.func41 (ati es from_ _ k) ⟨fun h=>absurd (of_decide_eq_true h) (by omega),fun h=> ?_⟩;rw[List.take_of_length_le (by omega)];exact bQ 3 rfl (Nat.le_refl _) rfl rfl
  |succ j ih=>
   intro k hk;have e:=acm (p:=geE from_) (l:=es) (k:=k) (d:=dE) (by omega);have hl:=filter_le (geE from_) (es.take k);rw[List.length_take]at hl;refine Ds.ew hz hX hm aE.Ok.nil Tryd.func41 (ati es from_ _ k) ⟨fun h=>⟨by omega,by omega,fun hg=>⟨?_,⟨by omega,by omega⟩, ?_⟩,fun hg=>⟨⟨by omega,by omega⟩, ?_⟩⟩,fun h=>absurd (of_decide_eq_false h) (by omega)⟩
   ·show(_+1)*32≤140737488355328;rw[List.length_append];omega
   ·have hg:geE from_ (es.getD k dE)=true:=hg;rw[if_pos hg]at e;have:=ih (k+1) (by omega);rw[e,←List.append_assoc]at this;exact this
   ·have hg:geE from_ (es.getD k dE)=false:=hg;rw[if_neg (by rw[hg];simp),List.append_nil]at e;have:=ih (k+1) (by omega);rw[e]at this;exact this
 refine Ds.ew hz hX hm aE.Ok.nil Tryd.func41 (avB n l es bs from_ out) ?_;refine pU 2 (c:=ath l es bs from_ out) rfl ?_;refine Ds.ew hz hX hm aE.Ok.nil Tryd.func41 (avC l es bs from_ out) ?_;have:=loop es.length 0 (by omega);rw[List.take_zero,List.filter_nil,List.append_nil]at this;exact this
end Ts
namespace Ts
open Go Go.Sx Go.Proofs Lf
def re{σ:Type}(g:Ws→σ→Int→Ws×σ×Int):List Br→Ws→σ→Ws×σ×Int
 |[],met,out=>(met,out,0)
 |b::r,met,out=>if(g met out b.2.1).2.2≠0 then g met out b.2.1 else re g r (g met out b.2.1).1 (g met out b.2.1).2.1
def dA{σ:Type}(on:σ→Int→List En→σ)(th:Th)(m:As):Nat→Int→Ws→σ→Int→Ws×σ×Int
 |0,_,met,out,_=>(met,out,4)
 |f+1,deep,met,out,n=>
  if eZ th m n deep≠0 then(met,out,eZ th m n deep)
  else if Bx.lN met n=true then(met,out,4)
  else re (dA on th m f (deep+1)) (aO th m n deep) (Bx.cT met n) (on out n (bS th m n deep))
def rf(from_:ByteArray)(out:List En)(_:Int)(es:List En):List En:=out++es.filter (geE from_)
def oM(out:Ws)(n:Int)(_:List En):Ws:=Bx.cT out n
def gL(ws:Ws):Nat:=(Bx.adT ws).length
abbrev tT1:TypeId:=26
abbrev tOn:TypeId:=82
abbrev tVi:TypeId:=107
abbrev eSt:TypeId:=47
abbrev eLE:TypeId:=29
abbrev sG1:Spec (Int×(Bool×List En×List Br)×Ws):=⟨fun(n,(l,es,bs),_)=>[bD n,avN l es bs,.ptr 0 0],fun(_,_,out)=>[.own [.ints .u64 16 out] eSt],fun _=>[],fun(n,_,out)=>[.own [.ints .u64 16 (Bx.cT out n)] eSt],fun _=>.bo []⟩
theorem avD(n:Int)(l:Bool)(es:List En)(bs:List Br)(out:Ws):run P (aE.sum [(43,ym)]) Tryd.f42 [] (start Tryd.f42 [bD n,avN l es bs,.ptr 0 0] [.own [.ints .u64 16 out] eSt])=
 Tree.ret [.own [.ints .u64 16 (Bx.cT out n)] 47,.own [.s (.bool l),.s (.ro (.ae [.str,.str] es)),.s (.ro (.ae [.str,.int .i64] bs))] 73] (.bo []):=by kernel_rfl
def mL1:List AV→RM ((Int×(Bool×List En×List Br)×ByteArray×List En)×List Nat)
 |[n,x,.ptr a 0,.ptr b 0]=>match n.de,aqO x with
  |some (_,_,n),some nd=>.look a fun o=>match o with
   |some (.own [.s (.str from_)] _)=>.look b fun o=>match o with
    |some (.own [.vec r] _)=>.look r fun o=>match o with
     |some (.vec (.ae [.str,.str] out) _)=>.ret ((n,nd,from_,out),[a,b,r])
     |_=>.fail "no row"
    |_=>.fail "no row's box"
   |_=>.fail "no text"
  |_,_=>.fail "no node"
 |_=>.fail "List$1"
def mG1:List AV→RM ((Int×(Bool×List En×List Br)×Ws)×List Nat)
 |[n,x,.ptr a 0]=>match n.de,aqO x with
  |some (_,_,n),some nd=>.look a fun o=>match o with
   |some (.own [.ints .u64 16 out] _)=>.ret ((n,nd,out),[a])
   |_=>.fail "no set"
  |_,_=>.fail "no node"
 |_=>.fail "Pages$1"
def am8(th:Th)(m:As)(f:Nat)(deep:Int)(met:Ws)(from_:ByteArray)(out:List En)(n:Int):Ws:=(dA (rf from_) th m f deep met out n).1
def am9(th:Th)(m:As)(f:Nat)(deep:Int)(met:Ws)(from_:ByteArray)(out:List En)(n:Int):List En:=(dA (rf from_) th m f deep met out n).2.1
def ana(th:Th)(m:As)(f:Nat)(deep:Int)(met:Ws)(from_:ByteArray)(out:List En)(n:Int):Int:=(dA (rf from_) th m f deep met out n).2.2
abbrev XVL:Type:=XT×Int×Int×Ws×ByteArray×List En
abbrev hVL(th:Th)(m:As)(fu root:Int)(fr fs gn met:Ws):List ad:=hT th m fu root fr fs gn++[.own [.ptr 0 0] tT1,.own [.ints .u64 16 met] eSt,.own [.fn fL1 [.ptr 8 0,.ptr 9 0]] tOn,.own [.fn fW1 [.ptr 4 0,.ptr 5 0,.ptr 6 0,.ptr 7 0]] tVi]
abbrev acn(f:Nat):Spec XVL:=⟨fun(_,n,deep,_)=>[bD n,bD deep,.ptr 4 0,.ptr 5 0,.ptr 6 0,.ptr 7 0],fun((th,m,fu,root,fr,fs,gn),_,_,met,from_,out)=>hVL th m fu root fr fs gn met++[tO from_,.own [.vec 10] eLE,.vec (.ae cE out) Lf.eE],
 fun((th,m,fu,_),n,deep,met,_,out)=>[Ds.bH th m fu,0≤n∧n≤65536,1≤deep∧deep≤17,18≤deep+(f:Int),Bx.okW met,List.length (α:=En) out≤126*gL met],
 fun((th,m,fu,root,fr,fs,gn),n,deep,met,from_,out)=>hVL th m fu root fr fs gn (am8 th m f deep met from_ out n)++[tO from_,.own [.vec 11] eLE,.dead,.vec (.ae cE (am9 th m f deep met from_ out n)) Lf.eE],
 fun((th,m,_),n,deep,met,from_,out)=>bD (ana th m f deep met from_ out n)⟩
def anb:List AV→RM (XVL×List Nat)
 |[n,d,.ptr a 0,.ptr b 0,.ptr c 0,.ptr v 0]=>match n.de,d.de with
  |some (_,_,n),some (_,_,d)=>.look a fun o=>match o with
   |some (.own [.ptr t 0] _)=>(mT [.ptr t 0]).bind fun(X,σ)=>.look b fun o=>match o with
    |some (.own [.ints .u64 16 met] _)=>.look c fun o=>match o with
     |some (.own [.fn _ [.ptr p 0,.ptr q 0]] _)=>.look p fun o=>match o with
      |some (.own [.s (.str from_)] _)=>.look q fun o=>match o with
       |some (.own [.vec r] _)=>.look r fun o=>match o with
        |some (.vec (.ae [.str,.str] out) _)=>.ret ((X,n,d,met,from_,out),σ++[a,b,c,v,p,q,r])
        |_=>.fail "visit: no row"
       |_=>.fail "visit: no row's box"
      |_=>.fail "visit: no text"
     |_=>.fail "visit: no on"
    |_=>.fail "visit: no set"
   |_=>.fail "visit: no tree"
  |_,_=>.fail "visit: no numbers"
 |_=>.fail "visit: arguments"
def aam(f:Nat):aE:=[(37,yu),(35,ajL),(43,ym),(fL1,cI sL1 mL1),(fW1,cI (acn f) anb)]
def afB:List (Nat×Norm):=[(9,⟨[],[1,5,35,36,37],11,[]⟩)]
noncomputable def atj(th:Th)(m:As)(fu root:Int)(fr fs gn met:Ws)(from_:ByteArray)(out:List En)(bs:List Br)(deep i:Int):bA:=⟨sl 51 [(1,bD deep),(5,.ptr 7 0),(35,.s (.ro (.ae cB bs))),(36,bD (bs.length:Int)),(37,bD i)],hVL th m fu root fr fs gn met++[tO from_,.own [.vec 11] eLE,.dead,.vec (.ae cE out) Lf.eE],hd Tryd.f62 9,{}⟩
theorem atk(f:Nat)(th:Th)(m:As)(fu root:Int)(fr fs gn met:Ws)(from_:ByteArray)(out:List En)(n deep:Int):run P (aam f).sum Tryd.f62 afB (start Tryd.f62 [bD n,bD deep,.ptr 4 0,.ptr 5 0,.ptr 6 0,.ptr 7 0] (hVL th m fu root fr fs gn met++[tO from_,.own [.vec 11] eLE,.dead,.vec (.ae cE out) Lf.eE]))=
 Tree.need (bt (some [AV.ptr 0 0,.s (.int .i64 n),.s (.int .i64 deep)]))
 (.need (bt (some [ad.own [.ptr 1 0,.s (.int .i64 root),.ints .u64 16 fr,.ints .u64 16 fs,.ints .u64 16 gn] 70,.own [.vec 2,.ag 3,.s (.int .i64 fu)] 96,.vec (.ae [.arr .u8 64] th) 138,.map (.arr .u8 64) m]))
   (.need (Ds.bH th m fu)
     (.need (aF n)
       (.ite (eZ th m n deep !=0) (.ret [.own [.ptr 1 0,.s (.int .i64 root),.ints .u64 16 fr,.ints .u64 16 fs,.ints .u64 16 gn] 70,.own [.vec 2,.ag 3,.s (.int .i64 fu)] 96,.vec (.ae [.arr .u8 64] th) 138,.map (.arr .u8 64) m,.own [.ptr 0 0] 26,.own [.ints .u64 16 met] 47,.own [.fn 41 [.ptr 8 0,.ptr 9 0]] 82,.own [.fn 62 [.ptr 4 0,.ptr 5 0,.ptr 6 0,.ptr 7 0]] 107,.own [.s (.str from_)] 9,.own [.vec 11] 29,.dead,.vec (.ae [.str,.str] out) 34,.own [.s (.bool (kj th m n deep)),.s (.ro (.ae [.str,.str] (bS th m n deep))),.s (.ro (.ae [.str,.int .i64] (aO th m n deep)))] 73] (.s (.int .i64 (eZ th m n deep))))
         (.ite (Bx.lN met n) (.ret [.own [.ptr 1 0,.s (.int .i64 root),.ints .u64 16 fr,.ints .u64 16 fs,.ints .u64 16 gn] 70,.own [.vec 2,.ag 3,.s (.int .i64 fu)] 96,.vec (.ae [.arr .u8 64] th) 138,.map (.arr .u8 64) m,.own [.ptr 0 0] 26,.own [.ints .u64 16 met] 47,.own [.fn 41 [.ptr 8 0,.ptr 9 0]] 82,.own [.fn 62 [.ptr 4 0,.ptr 5 0,.ptr 6 0,.ptr 7 0]] 107,.own [.s (.str from_)] 9,.own [.vec 11] 29,.dead,.vec (.ae [.str,.str] out) 34,.own [.s (.bool (kj th m n deep)),.s (.ro (.ae [.str,.str] (bS th m n deep))),.s (.ro (.ae [.str,.int .i64] (aO th m n deep)))] 73] (.s (.aV .i64 4))) (.need (bt (some [AV.s (.int .i64 n),.agg [.s (.bool (kj th m n deep)),.s (.ro (.ae [.str,.str] (bS th m n deep))),.s (.ro (.ae [.str,.int .i64] (aO th m n deep)))],.ptr 0 0,.ptr 1 0])) (.need (bt (some [ad.own [.s (.str from_)] 9,.own [.vec 2] 29,.vec (.ae [.str,.str] out) 34])) (.need ((bS th m n deep).length≤1000) (.need (out.length≤100000000) (.at (.mk (sl 51 [(1,.s (.int .i64 deep)),(5,.ptr 7 0),(35,.s (.ro (.ae [.str,.int .i64] (aO th m n deep)))),(36,.s (.int .i64 (↑(aO th m n deep).length:Int))),(37,.s (.int .i64 0))]) [.own [.ptr 1 0,.s (.int .i64 root),.ints .u64 16 fr,.ints .u64 16 fs,.ints .u64 16 gn] 70,.own [.vec 2,.ag 3,.s (.int .i64 fu)] 96,.vec (.ae [.arr .u8 64] th) 138,.map (.arr .u8 64) m,.own [.ptr 0 0] 26,.own [.ints .u64 16 (Bx.cT met n)] 47,.own [.fn 41 [.ptr 8 0,.ptr 9 0]] 82,.own [.fn 62 [.ptr 4 0,.ptr 5 0,.ptr 6 0,.ptr 7 0]] 107,.own [.s (.str from_)] 9,.own [.vec 11] 29,.dead,.vec (.ae [.str,.str] (out++List.filter (geE from_) (bS th m n deep))) 34] (hd Tryd.f62 9) (.mk none false 0 [] 0)))))))))))):=by kernel_rfl
theorem aoS(f:Nat)(th:Th)(m:As)(fu root:Int)(fr fs gn met:Ws)(from_:ByteArray)(out:List En)(bs:List Br)(deep i:Int):run P (aam f).sum Tryd.f62 afB (atj th m fu root fr fs gn met from_ out bs deep i)=
 Tree.ite (decide (i<(↑bs.length:Int)))
 (.need ((0:Int)≤i)
   (.need (i<(↑bs.length:Int))
     (.need (aF (deep+1))
       (.need (bt (some [AV.s (.int .i64 (bs.getD i.toNat (CL.d [.str,.int .i64])).snd.fst),.s (.int .i64 (deep+1)),.ptr 4 0,.ptr 5 0,.ptr 6 0,.ptr 7 0]))
         (.need (bt (some [ad.own [.ptr 1 0,.s (.int .i64 root),.ints .u64 16 fr,.ints .u64 16 fs,.ints .u64 16 gn] 70,.own [.vec 2,.ag 3,.s (.int .i64 fu)] 96,.vec (.ae [.arr .u8 64] th) 138,.map (.arr .u8 64) m,.own [.ptr 0 0] 26,.own [.ints .u64 16 met] 47,.own [.fn 41 [.ptr 8 0,.ptr 9 0]] 82,.own [.fn 62 [.ptr 4 0,.ptr 5 0,.ptr 6 0,.ptr 7 0]] 107,.own [.s (.str from_)] 9,.own [.vec 10] 29,.vec (.ae [.str,.str] out) 34]))
           (.need (Ds.bH th m fu) (.need ((0:Int)≤(bs.getD i.toNat (CL.d [.str,.int .i64])).snd.fst∧(bs.getD i.toNat (CL.d [.str,.int .i64])).snd.fst≤65536) (.need ((1:Int)≤deep+1∧deep+1≤17) (.need ((18:Int)≤deep+1+(↑f:Int)) (.need (Bx.okW met) (.need (out.length≤(126:Nat)*gL met) (.ite (ana th m f (deep+1) met from_ out (bs.getD i.toNat (CL.d [.str,.int .i64])).snd.fst !=0) (.ret [.own [.ptr 1 0,.s (.int .i64 root),.ints .u64 16 fr,.ints .u64 16 fs,.ints .u64 16 gn] 70,.own [.vec 2,.ag 3,.s (.int .i64 fu)] 96,.vec (.ae [.arr .u8 64] th) 138,.map (.arr .u8 64) m,.own [.ptr 0 0] 26,.own [.ints .u64 16 (am8 th m f (deep+1) met from_ out (bs.getD i.toNat (CL.d [.str,.int .i64])).snd.fst)] 47,.own [.fn 41 [.ptr 8 0,.ptr 9 0]] 82,.own [.fn 62 [.ptr 4 0,.ptr 5 0,.ptr 6 0,.ptr 7 0]] 107,.own [.s (.str from_)] 9,.own [.vec 13] 29,.dead,.dead,.own [.s (.str (bs.getD i.toNat (CL.d [.str,.int .i64])).fst),.s (.int .i64 (bs.getD i.toNat (CL.d [.str,.int .i64])).snd.fst)] 79,.vec (.ae [.str,.str] (am9 th m f (deep+1) met from_ out (bs.getD i.toNat (CL.d [.str,.int .i64])).snd.fst)) 34] (.s (.int .i64 (ana th m f (deep+1) met from_ out (bs.getD i.toNat (CL.d [.str,.int .i64])).snd.fst)))) (.need (aF (i+1)) (.at (.mk (sl 51 [(1,.s (.int .i64 deep)),(5,.ptr 7 0),(35,.s (.ro (.ae [.str,.int .i64] bs))),(36,.s (.int .i64 (↑bs.length:Int))),(37,.s (.int .i64 (i+1)))]) [.own [.ptr 1 0,.s (.int .i64 root),.ints .u64 16 fr,.ints .u64 16 fs,.ints .u64 16 gn] 70,.own [.vec 2,.ag 3,.s (.int .i64 fu)] 96,.vec (.ae [.arr .u8 64] th) 138,.map (.arr .u8 64) m,.own [.ptr 0 0] 26,.own [.ints .u64 16 (am8 th m f (deep+1) met from_ out (bs.getD i.toNat (CL.d [.str,.int .i64])).snd.fst)] 47,.own [.fn 41 [.ptr 8 0,.ptr 9 0]] 82,.own [.fn 62 [.ptr 4 0,.ptr 5 0,.ptr 6 0,.ptr 7 0]] 107,.own [.s (.str from_)] 9,.own [.vec 11] 29,.dead,.vec (.ae [.str,.str] (am9 th m f (deep+1) met from_ out (bs.getD i.toNat (CL.d [.str,.int .i64])).snd.fst)) 34] (hd Tryd.f62 9) (.mk none false 0 [] 0))))))))))))))))
 (.ret [.own [.ptr 1 0,.s (.int .i64 root),.ints .u64 16 fr,.ints .u64 16 fs,.ints .u64 16 gn] 70,.own [.vec 2,.ag 3,.s (.int .i64 fu)] 96,.vec (.ae [.arr .u8 64] th) 138,.map (.arr .u8 64) m,.own [.ptr 0 0] 26,.own [.ints .u64 16 met] 47,.own [.fn 41 [.ptr 8 0,.ptr 9 0]] 82,.own [.fn 62 [.ptr 4 0,.ptr 5 0,.ptr 6 0,.ptr 7 0]] 107,.own [.s (.str from_)] 9,.own [.vec 11] 29,.dead,.vec (.ae [.str,.str] out) 34] (.s (.aV .i64 0))):=by kernel_rfl
def anc(th:Th)(m:As)(f:Nat)(deep:Int)(met:Ws)(out:Ws)(n:Int):Ws:=(dA oM th m f deep met out n).1
def ane(th:Th)(m:As)(f:Nat)(deep:Int)(met:Ws)(out:Ws)(n:Int):Ws:=(dA oM th m f deep met out n).2.1
def anf(th:Th)(m:As)(f:Nat)(deep:Int)(met:Ws)(out:Ws)(n:Int):Int:=(dA oM th m f deep met out n).2.2
abbrev XVG:Type:=XT×Int×Int×Ws×Ws
abbrev hVG(th:Th)(m:As)(fu root:Int)(fr fs gn met:Ws):List ad:=hT th m fu root fr fs gn++[.own [.ptr 0 0] tT1,.own [.ints .u64 16 met] eSt,.own [.fn fG1 [.ptr 8 0]] tOn,.own [.fn fW1 [.ptr 4 0,.ptr 5 0,.ptr 6 0,.ptr 7 0]] tVi]
abbrev aco(f:Nat):Spec XVG:=⟨fun(_,n,deep,_)=>[bD n,bD deep,.ptr 4 0,.ptr 5 0,.ptr 6 0,.ptr 7 0],fun((th,m,fu,root,fr,fs,gn),_,_,met,out)=>hVG th m fu root fr fs gn met++[.own [.ints .u64 16 out] eSt],
 fun((th,m,fu,_),n,deep,met,out)=>[Ds.bH th m fu,0≤n∧n≤65536,1≤deep∧deep≤17,18≤deep+(f:Int),Bx.okW met,0≤0],
 fun((th,m,fu,root,fr,fs,gn),n,deep,met,out)=>hVG th m fu root fr fs gn (anc th m f deep met out n)++[.own [.ints .u64 16 (ane th m f deep met out n)] eSt],
 fun((th,m,_),n,deep,met,out)=>bD (anf th m f deep met out n)⟩
def ang:List AV→RM (XVG×List Nat)
 |[n,d,.ptr a 0,.ptr b 0,.ptr c 0,.ptr v 0]=>match n.de,d.de with
  |some (_,_,n),some (_,_,d)=>.look a fun o=>match o with
   |some (.own [.ptr t 0] _)=>(mT [.ptr t 0]).bind fun(X,σ)=>.look b fun o=>match o with
    |some (.own [.ints .u64 16 met] _)=>.look c fun o=>match o with
     |some (.own [.fn _ [.ptr p 0]] _)=>.look p fun o=>match o with
      |some (.own [.ints .u64 16 out] _)=>.ret ((X,n,d,met,out),σ++[a,b,c,v,p])
      |_=>.fail "visit: no set"
     |_=>.fail "visit: no on"
    |_=>.fail "visit: no set"
   |_=>.fail "visit: no tree"
  |_,_=>.fail "visit: no numbers"
 |_=>.fail "visit: arguments"
def aan(f:Nat):aE:=[(37,yu),(35,ajL),(43,ym),(fG1,cI sG1 mG1),(fW1,cI (aco f) ang)]
def afC:List (Nat×Norm):=[(9,⟨[],[1,5,35,36,37],9,[]⟩)]
noncomputable def atl(th:Th)(m:As)(fu root:Int)(fr fs gn met:Ws)(out:Ws)(bs:List Br)(deep i:Int):bA:=⟨sl 51 [(1,bD deep),(5,.ptr 7 0),(35,.s (.ro (.ae cB bs))),(36,bD (bs.length:Int)),(37,bD i)],hVG th m fu root fr fs gn met++[.own [.ints .u64 16 out] eSt],hd Tryd.f62 9,{}⟩
theorem atm(f:Nat)(th:Th)(m:As)(fu root:Int)(fr fs gn met:Ws)(out:Ws)(n deep:Int):run P (aan f).sum Tryd.f62 afC (start Tryd.f62 [bD n,bD deep,.ptr 4 0,.ptr 5 0,.ptr 6 0,.ptr 7 0] (hVG th m fu root fr fs gn met++[.own [.ints .u64 16 out] eSt]))=
 Tree.need (bt (some [AV.ptr 0 0,.s (.int .i64 n),.s (.int .i64 deep)]))
 (.need (bt (some [ad.own [.ptr 1 0,.s (.int .i64 root),.ints .u64 16 fr,.ints .u64 16 fs,.ints .u64 16 gn] 70,.own [.vec 2,.ag 3,.s (.int .i64 fu)] 96,.vec (.ae [.arr .u8 64] th) 138,.map (.arr .u8 64) m]))
   (.need (Ds.bH th m fu) (.need (aF n) (.ite (eZ th m n deep !=0) (.ret [.own [.ptr 1 0,.s (.int .i64 root),.ints .u64 16 fr,.ints .u64 16 fs,.ints .u64 16 gn] 70,.own [.vec 2,.ag 3,.s (.int .i64 fu)] 96,.vec (.ae [.arr .u8 64] th) 138,.map (.arr .u8 64) m,.own [.ptr 0 0] 26,.own [.ints .u64 16 met] 47,.own [.fn 42 [.ptr 8 0]] 82,.own [.fn 62 [.ptr 4 0,.ptr 5 0,.ptr 6 0,.ptr 7 0]] 107,.own [.ints .u64 16 out] 47,.own [.s (.bool (kj th m n deep)),.s (.ro (.ae [.str,.str] (bS th m n deep))),.s (.ro (.ae [.str,.int .i64] (aO th m n deep)))] 73] (.s (.int .i64 (eZ th m n deep)))) (.ite (Bx.lN met n) (.ret [.own [.ptr 1 0,.s (.int .i64 root),.ints .u64 16 fr,.ints .u64 16 fs,.ints .u64 16 gn] 70,.own [.vec 2,.ag 3,.s (.int .i64 fu)] 96,.vec (.ae [.arr .u8 64] th) 138,.map (.arr .u8 64) m,.own [.ptr 0 0] 26,.own [.ints .u64 16 met] 47,.own [.fn 42 [.ptr 8 0]] 82,.own [.fn 62 [.ptr 4 0,.ptr 5 0,.ptr 6 0,.ptr 7 0]] 107,.own [.ints .u64 16 out] 47,.own [.s (.bool (kj th m n deep)),.s (.ro (.ae [.str,.str] (bS th m n deep))),.s (.ro (.ae [.str,.int .i64] (aO th m n deep)))] 73] (.s (.aV .i64 4))) (.need (bt (some [AV.s (.int .i64 n),.agg [.s (.bool (kj th m n deep)),.s (.ro (.ae [.str,.str] (bS th m n deep))),.s (.ro (.ae [.str,.int .i64] (aO th m n deep)))],.ptr 0 0])) (.need (bt (some [ad.own [.ints .u64 16 out] 47])) (.at (.mk (sl 51 [(1,.s (.int .i64 deep)),(5,.ptr 7 0),(35,.s (.ro (.ae [.str,.int .i64] (aO th m n deep)))),(36,.s (.int .i64 (↑(aO th m n deep).length:Int))),(37,.s (.int .i64 0))]) [.own [.ptr 1 0,.s (.int .i64 root),.ints .u64 16 fr,.ints .u64 16 fs,.ints .u64 16 gn] 70,.own [.vec 2,.ag 3,.s (.int .i64 fu)] 96,.vec (.ae [.arr .u8 64] th) 138,.map (.arr .u8 64) m,.own [.ptr 0 0] 26,.own [.ints .u64 16 (Bx.cT met n)] 47,.own [.fn 42 [.ptr 8 0]] 82,.own [.fn 62 [.ptr 4 0,.ptr 5 0,.ptr 6 0,.ptr 7 0]] 107,.own [.ints .u64 16 (Bx.cT out n)] 47] (hd Tryd.f62 9) (.mk none false 0 [] 0)))))))))):=by kernel_rfl
theorem aoT(f:Nat)(th:Th)(m:As)(fu root:Int)(fr fs gn met:Ws)(out:Ws)(bs:List Br)(deep i:Int):run P (aan f).sum Tryd.f62 afC (atl th m fu root fr fs gn met out bs deep i)=
 Tree.ite (decide (i<(↑bs.length:Int)))
 (.need ((0:Int)≤i)
   (.need (i<(↑bs.length:Int))
     (.need (aF (deep+1))
       (.need (bt (some [AV.s (.int .i64 (bs.getD i.toNat (CL.d [.str,.int .i64])).snd.fst),.s (.int .i64 (deep+1)),.ptr 4 0,.ptr 5 0,.ptr 6 0,.ptr 7 0]))
         (.need (bt (some [ad.own [.ptr 1 0,.s (.int .i64 root),.ints .u64 16 fr,.ints .u64 16 fs,.ints .u64 16 gn] 70,.own [.vec 2,.ag 3,.s (.int .i64 fu)] 96,.vec (.ae [.arr .u8 64] th) 138,.map (.arr .u8 64) m,.own [.ptr 0 0] 26,.own [.ints .u64 16 met] 47,.own [.fn 42 [.ptr 8 0]] 82,.own [.fn 62 [.ptr 4 0,.ptr 5 0,.ptr 6 0,.ptr 7 0]] 107,.own [.ints .u64 16 out] 47]))
           (.need (Ds.bH th m fu) (.need ((0:Int)≤(bs.getD i.toNat (CL.d [.str,.int .i64])).snd.fst∧(bs.getD i.toNat (CL.d [.str,.int .i64])).snd.fst≤65536) (.need ((1:Int)≤deep+1∧deep+1≤17) (.need ((18:Int)≤deep+1+(↑f:Int)) (.need (Bx.okW met) (.need ((0:Nat)≤0) (.ite (anf th m f (deep+1) met out (bs.getD i.toNat (CL.d [.str,.int .i64])).snd.fst !=0) (.ret [.own [.ptr 1 0,.s (.int .i64 root),.ints .u64 16 fr,.ints .u64 16 fs,.ints .u64 16 gn] 70,.own [.vec 2,.ag 3,.s (.int .i64 fu)] 96,.vec (.ae [.arr .u8 64] th) 138,.map (.arr .u8 64) m,.own [.ptr 0 0] 26,.own [.ints .u64 16 (anc th m f (deep+1) met out (bs.getD i.toNat (CL.d [.str,.int .i64])).snd.fst)] 47,.own [.fn 42 [.ptr 8 0]] 82,.own [.fn 62 [.ptr 4 0,.ptr 5 0,.ptr 6 0,.ptr 7 0]] 107,.own [.ints .u64 16 (ane th m f (deep+1) met out (bs.getD i.toNat (CL.d [.str,.int .i64])).snd.fst)] 47,.own [.s (.str (bs.getD i.toNat (CL.d [.str,.int .i64])).fst),.s (.int .i64 (bs.getD i.toNat (CL.d [.str,.int .i64])).snd.fst)] 79] (.s (.int .i64 (anf th m f (deep+1) met out (bs.getD i.toNat (CL.d [.str,.int .i64])).snd.fst)))) (.need (aF (i+1)) (.at (.mk (sl 51 [(1,.s (.int .i64 deep)),(5,.ptr 7 0),(35,.s (.ro (.ae [.str,.int .i64] bs))),(36,.s (.int .i64 (↑bs.length:Int))),(37,.s (.int .i64 (i+1)))]) [.own [.ptr 1 0,.s (.int .i64 root),.ints .u64 16 fr,.ints .u64 16 fs,.ints .u64 16 gn] 70,.own [.vec 2,.ag 3,.s (.int .i64 fu)] 96,.vec (.ae [.arr .u8 64] th) 138,.map (.arr .u8 64) m,.own [.ptr 0 0] 26,.own [.ints .u64 16 (anc th m f (deep+1) met out (bs.getD i.toNat (CL.d [.str,.int .i64])).snd.fst)] 47,.own [.fn 42 [.ptr 8 0]] 82,.own [.fn 62 [.ptr 4 0,.ptr 5 0,.ptr 6 0,.ptr 7 0]] 107,.own [.ints .u64 16 (ane th m f (deep+1) met out (bs.getD i.toNat (CL.d [.str,.int .i64])).snd.fst)] 47] (hd Tryd.f62 9) (.mk none false 0 [] 0))))))))))))))))
 (.ret [.own [.ptr 1 0,.s (.int .i64 root),.ints .u64 16 fr,.ints .u64 16 fs,.ints .u64 16 gn] 70,.own [.vec 2,.ag 3,.s (.int .i64 fu)] 96,.vec (.ae [.arr .u8 64] th) 138,.map (.arr .u8 64) m,.own [.ptr 0 0] 26,.own [.ints .u64 16 met] 47,.own [.fn 42 [.ptr 8 0]] 82,.own [.fn 62 [.ptr 4 0,.ptr 5 0,.ptr 6 0,.ptr 7 0]] 107,.own [.ints .u64 16 out] 47] (.s (.aV .i64 0))):=by kernel_rfl
theorem akp{ws:Ws}(hw:Bx.okW ws){n:Int}(hn:0≤n∧n<1024)(h:Bx.lN ws n=false):gL (Bx.cT ws n)=gL ws+1:=by
 have hb:Bx.bit ws n.toNat=false:=by
  rw[Bx.afn hw,decide_eq_true hn,Bool.true_and]at h;exact h
 obtain⟨_,h2⟩:=Bx.gb hw n;unfold gL Bx.adT
 have key:∀m,m≤1024→(Bx.fr (Bx.bit (Bx.cT ws n)) m).length=(Bx.fr (Bx.bit ws) m).length+(if n.toNat<m then 1 else 0):=by
  intro m
  induction m with
  |zero=>intro _;rfl
  |succ m ih=>
   intro hm;rw[Bx.qP,Bx.qP,List.length_append,List.length_append,ih (by omega),h2 m (by omega)]
   have hd:decide (n=(m:Int))=decide (n.toNat=m):=by
    by_cases e:n.toNat=m
    ·rw[decide_eq_true e,decide_eq_true (by omega)]
    ·rw[decide_eq_false e,decide_eq_false (by omega)]
   rw[hd];by_cases e:n.toNat=m
   ·subst e;have c1:¬n.toNat<n.toNat:=by omega
    have c2:n.toNat<n.toNat+1:=by omega
    rw[hb,decide_eq_true rfl,if_neg c1,if_pos c2];rfl
   ·rw[decide_eq_false e,Bool.or_false];by_cases e2:n.toNat<m
    ·have c2:n.toNat<m+1:=by omega
     rw[if_pos e2,if_pos c2];omega
    ·have c2:¬n.toNat<m+1:=by omega
     rw[if_neg e2,if_neg c2];omega
 have:=key 1024 (Nat.le_refl _);have c:n.toNat<1024:=by omega
 rw[this,if_pos c]
theorem aq4(ws:Ws):gL ws≤1024:=Bx.ahe _ _
theorem akq{th:Th}{m:As}{fu n deep:Int}(hd:Ds.bH th m fu)(h:eZ th m n deep=0):0≤n∧n<1024:=by
 have hp:Ds.tl th n=true:=by
  unfold eZ at h;split at h
  ·cases h
  ·split at h
   ·rename_i hg;unfold Ds.gM at hg;split at hg
    ·assumption
    ·cases hg
   ·rename_i hg;exact absurd h hg
 obtain⟨a,b⟩:=Ds.fJ.1 hp;have:=hd.1.1;unfold Ds.tH at b;have e:((th.length:Int)).tdiv 4=(th.length:Int) / 4:=Int.tdiv_eq_ediv_of_nonneg (by omega);rw[e]at b;omega
theorem wz{σ:Type}{g:Ws→σ→Int→Ws×σ×Int}{I:Ws→σ→Prop}(hg:∀met out n,I met out→I (g met out n).1 (g met out n).2.1):∀(l:List Br) (met:Ws) (out:σ),I met out→I (re g l met out).1 (re g l met out).2.1
 |[],met,out,h=>h
 |b::r,met,out,h=>by
  rw[re];split
  ·exact hg _ _ _ h
  ·exact wz hg r _ _ (hg _ _ _ h)
theorem afD(from_:ByteArray){th:Th}{m:As}{fu n deep:Int}{met:Ws}{out:List En}(hd:Ds.bH th m fu)(h:eZ th m n deep=0)(hw:Bx.okW met)(h3:Bx.lN met n=false)(ho:List.length (α:=En) out≤126*gL met):
 Bx.okW (Bx.cT met n)∧List.length (α:=En) (rf from_ out n (bS th m n deep))≤126*gL (Bx.cT met n):=by
 refine⟨(Bx.gb hw n).1, ?_⟩;rw[akp hw (akq hd h) h3];unfold rf;rw[List.length_append];have:=filter_le (geE from_) (bS th m n deep);obtain⟨_,n1,_⟩:=eM h;omega
theorem afE(from_:ByteArray){th:Th}{m:As}{fu:Int}(hd:Ds.bH th m fu):∀(f:Nat) (deep:Int) (met:Ws) (out:List En) (n:Int),Bx.okW met→List.length (α:=En) out≤126*gL met→
 Bx.okW (dA (rf from_) th m f deep met out n).1∧List.length (α:=En) (dA (rf from_) th m f deep met out n).2.1≤126*gL (dA (rf from_) th m f deep met out n).1
 |0,deep,met,out,n,hw,ho=>⟨hw,ho⟩
 |f+1,deep,met,out,n,hw,ho=>by
  rw[dA];split
  ·exact⟨hw,ho⟩
  ·rename_i h;split
   ·exact⟨hw,ho⟩
   ·rename_i h3;have h3:Bx.lN met n=false:=by simpa using h3
    exact wz (I:=fun met out=>Bx.okW met∧List.length (α:=En) out≤126*gL met) (fun met out n hi=>afE from_ hd f (deep+1) met out n hi.1 hi.2) _ _ _ (afD from_ hd (by simpa using h) hw h3 ho)
theorem afF{th:Th}{m:As}{fu n deep:Int}{met:Ws}(hd:Ds.bH th m fu)(h:eZ th m n deep=0)(hw:Bx.okW met)(h3:Bx.lN met n=false)(ho:0≤0):Bx.okW (Bx.cT met n)∧0≤0:=⟨(Bx.gb hw n).1,ho⟩
theorem afG{th:Th}{m:As}{fu:Int}(hd:Ds.bH th m fu):∀(f:Nat) (deep:Int) (met:Ws) (out:Ws) (n:Int),Bx.okW met→0≤0→Bx.okW (dA oM th m f deep met out n).1∧0≤0
 |0,deep,met,out,n,hw,ho=>⟨hw,ho⟩
 |f+1,deep,met,out,n,hw,ho=>by
  rw[dA];split
  ·exact⟨hw,ho⟩
  ·rename_i h;split
   ·exact⟨hw,ho⟩
   ·rename_i h3;have h3:Bx.lN met n=false:=by simpa using h3
    exact wz (I:=fun met out=>Bx.okW met∧0≤0) (fun met out n hi=>afG hd f (deep+1) met out n hi.1 hi.2) _ _ _ (afF hd (by simpa using h) hw h3 ho)
theorem ahr{Z:aX}:ib P Z 42 sG1:=by
 refine aC Tryd.func42 (by kernel_rfl) (fun x=>Nat.le_of_ble_eq_true (by kernel_rfl)) ?_;rintro⟨(n:Int),⟨(l:Bool),(es:List En),(bs:List Br)⟩,(out:Ws)⟩ _ X hX hz;exact Ds.ew hz hX (by intro y hy;cases hy) (aE.Ok.cons Bx.ou.sum aE.Ok.nil) Tryd.func42 (avD n l es bs out) (bQ 1 rfl (Nat.le_refl _) rfl rfl)
theorem fvL{th:Th}{m:As}{fu root:Int}{fr fs gn met:Ws}{from_:ByteArray}{out:List En}{n deep:Int}{f:Nat}{c:Ws×List En×Int}(e:dA (rf from_) th m f deep met out n=c):
 (acn f).fH ((th,m,fu,root,fr,fs,gn),n,deep,met,from_,out)=hVL th m fu root fr fs gn c.1++[tO from_,.own [.vec 11] eLE,.dead,.vec (.ae cE c.2.1) Lf.eE]∧(acn f).out ((th,m,fu,root,fr,fs,gn),n,deep,met,from_,out)=bD c.2.2:=by
 subst e;exact⟨rfl,rfl⟩
theorem ahs{f:Nat}(h:ib P Bx.bV fW1 (acn f)):(aam f).Ok P Bx.bV:=aE.Ok.cons (ow.sum mNo) (aE.Ok.cons Bx.vS.sum (aE.Ok.cons Bx.ou.sum (aE.Ok.cons (ako.sum mL1) (aE.Ok.cons (h.sum anb) aE.Ok.nil))))
theorem akr{L:List ad}(h:L.length=11):∀y∈afB,L.length≤y.2.m:=fun y hy=>by
 simp only[afB,List.mem_singleton]at hy;subst hy;exact Nat.le_of_eq h
theorem aoU{f:Nat}(T:(aam f).Ok P Bx.bV){th:Th}{m:As}{fu root:Int}{fr fs gn:Ws}{n deep:Int}{ig:Ws}{from_:ByteArray}{jl:List En}(hd:Ds.bH th m fu)(h1:1≤deep∧deep≤17)(h2:18≤deep+((f+1:Nat):Int))
 {X:Ctx} (hX:X.H=lk ((acn (f+1)).heap ((th,m,fu,root,fr,fs,gn),n,deep,ig,from_,jl))) (hz:dT Bx.bV X) (h:eZ th m n deep=0):
 ∀(j k:Nat) (met:Ws) (out:List En),k+j=(aO th m n deep).length→Bx.okW met→List.length (α:=En) out≤126*gL met→dA (rf from_) th m (f+1) deep ig jl n=re (dA (rf from_) th m f (deep+1)) ((aO th m n deep).drop k) met out→
    Safe P fW1 X (kq (acn (f+1)) ((th,m,fu,root,fr,fs,gn),n,deep,ig,from_,jl)) (atj th m fu root fr fs gn met from_ out (aO th m n deep) deep (k:Int))
 |0,k,met,out,hk,hw,ho,e=>by
  rw[List.drop_of_length_le (by omega)]at e;obtain⟨f1,f2⟩:=fvL (fu:=fu) (root:=root) (fr:=fr) (fs:=fs) (gn:=gn) e;exact Ds.ew hz hX (akr rfl) T Tryd.func62 (aoS f th m fu root fr fs gn met from_ out (aO th m n deep) deep k) ⟨fun h=>absurd (of_decide_eq_true h) (by omega),fun _=>bQ 11 rfl (Nat.le_refl _) f2 f1⟩
 |j+1,k,met,out,hk,hw,ho,e=>by
  obtain⟨_,_,n2,_,_,n5,_⟩:=eM h;rw[drop_cons dB (by omega),re]at e;have pg:=si h k;obtain⟨i1,i2⟩:=afE from_ hd f (deep+1) met out ((aO th m n deep).getD k dB).2.1 hw ho;refine Ds.ew hz hX (akr rfl) T Tryd.func62 (aoS f th m fu root fr fs gn met from_ out (aO th m n deep) deep k) ⟨fun _=>⟨by omega,by omega,yz (by omega) (by omega),rfl,rfl,hd,pg,⟨by omega,by omega⟩,by omega,hw,ho,fun h4=> ?_,fun h4=>⟨⟨by omega,by omega⟩, ?_⟩⟩,fun h=>absurd (of_decide_eq_false h) (by omega)⟩
  ·have h4:(dA (rf from_) th m f (deep+1) met out ((aO th m n deep).getD k dB).2.1).2.2≠0:=bne_iff_ne.1 h4;rw[if_pos h4]at e;obtain⟨f1,f2⟩:=fvL (fu:=fu) (root:=root) (fr:=fr) (fs:=fs) (gn:=gn) e;exact bQ 11 rfl (Nat.le_refl _) f2 f1
  ·have h4:¬(dA (rf from_) th m f (deep+1) met out ((aO th m n deep).getD k dB).2.1).2.2≠0:=fun hh=>Bool.false_ne_true (h4.symm.trans (bne_iff_ne.2 hh));rw[if_neg h4]at e;exact aoU T hd h1 h2 hX hz h j (k+1) _ _ (by omega) i1 i2 e
theorem yD:∀f,ib P Bx.bV fW1 (acn f)
 |0=>by
  rintro⟨⟨(th:Th),(m:As),(fu:Int),(root:Int),(fr:Ws),(fs:Ws),(gn:Ws)⟩,(n:Int),(deep:Int),(met:Ws),(from_:ByteArray),(out:List En)⟩ ⟨_,_,(h1:1≤deep∧deep≤17),(h2:18≤deep+((0:Nat):Int)),_⟩;omega
 |f+1=>by
  have T:=ahs (yD f);refine aC Tryd.func62 (by kernel_rfl) (fun x=>Nat.le_of_ble_eq_true (by kernel_rfl)) ?_;rintro⟨⟨(th:Th),(m:As),(fu:Int),(root:Int),(fr:Ws),(fs:Ws),(gn:Ws)⟩,(n:Int),(deep:Int),(ig:Ws),(from_:ByteArray),(jl:List En)⟩ ⟨(hd:Ds.bH th m fu),(hn:0≤n∧n≤65536),(h1:1≤deep∧deep≤17),(h2:18≤deep+((f+1:Nat):Int)),(hw:Bx.okW ig),(ho:List.length (α:=En) jl≤126*gL ig),_⟩ X hX hz;refine pU 10 (c:=start Tryd.f62 [bD n,bD deep,.ptr 4 0,.ptr 5 0,.ptr 6 0,.ptr 7 0] (hVL th m fu root fr fs gn ig++[tO from_,.own [.vec 11] eLE,.dead,.vec (.ae cE jl) Lf.eE])) rfl ?_;refine Ds.ew hz hX (akr rfl) T Tryd.func62 (atk f th m fu root fr fs gn ig from_ jl n deep) ⟨rfl,rfl,hd,yz (by omega) (by omega),fun h=> ?_,fun h=>⟨fun h3=> ?_,fun h3=> ?_⟩⟩
  ·have h:eZ th m n deep≠0:=by simpa using h
   obtain⟨f1,f2⟩:=fvL (fu:=fu) (root:=root) (fr:=fr) (fs:=fs) (gn:=gn) (show dA (rf from_) th m (f+1) deep ig jl n=(ig,jl,eZ th m n deep)by rw[dA,if_pos h]);exact bQ 11 rfl (Nat.le_refl _) f2 f1
  ·have h:eZ th m n deep=0:=by simpa using h
   obtain⟨f1,f2⟩:=fvL (fu:=fu) (root:=root) (fr:=fr) (fs:=fs) (gn:=gn) (show dA (rf from_) th m (f+1) deep ig jl n=(ig,jl,4)by rw[dA,if_neg (by rw[h];simp),if_pos h3]);exact bQ 11 rfl (Nat.le_refl _) f2 f1
  ·have h:eZ th m n deep=0:=by simpa using h
   obtain⟨_,n1,n2,_,_,_,_⟩:=eM h;have e:dA (rf from_) th m (f+1) deep ig jl n=re (dA (rf from_) th m f (deep+1)) (aO th m n deep) (Bx.cT ig n) ((rf from_) jl n (bS th m n deep)):=by rw[dA,if_neg (by rw[h];simp),if_neg (by rw[h3];simp)]
   obtain⟨i1,i2⟩:=afD from_ hd h hw h3 ho;exact⟨rfl,rfl,by omega,by have:=aq4 ig;omega,aoU T hd h1 h2 hX hz h _ 0 _ _ (Nat.zero_add _) i1 i2 (by rw[List.drop_zero];exact e)⟩
theorem fvG{th:Th}{m:As}{fu root:Int}{fr fs gn met:Ws}{out:Ws}{n deep:Int}{f:Nat}{c:Ws×Ws×Int}(e:dA oM th m f deep met out n=c):
 (aco f).fH ((th,m,fu,root,fr,fs,gn),n,deep,met,out)=hVG th m fu root fr fs gn c.1++[.own [.ints .u64 16 c.2.1] eSt]∧(aco f).out ((th,m,fu,root,fr,fs,gn),n,deep,met,out)=bD c.2.2:=by
 subst e;exact⟨rfl,rfl⟩
theorem aht{f:Nat}(h:ib P Bx.bV fW1 (aco f)):(aan f).Ok P Bx.bV:=aE.Ok.cons (ow.sum mNo) (aE.Ok.cons Bx.vS.sum (aE.Ok.cons Bx.ou.sum (aE.Ok.cons (ahr.sum mG1) (aE.Ok.cons (h.sum ang) aE.Ok.nil))))
theorem aks{L:List ad}(h:L.length=9):∀y∈afC,L.length≤y.2.m:=fun y hy=>by
 simp only[afC,List.mem_singleton]at hy;subst hy;exact Nat.le_of_eq h
theorem aoV{f:Nat}(T:(aan f).Ok P Bx.bV){th:Th}{m:As}{fu root:Int}{fr fs gn:Ws}{n deep:Int}{ig:Ws}{jl:Ws}(hd:Ds.bH th m fu)(h1:1≤deep∧deep≤17)(h2:18≤deep+((f+1:Nat):Int))
 {X:Ctx} (hX:X.H=lk ((aco (f+1)).heap ((th,m,fu,root,fr,fs,gn),n,deep,ig,jl))) (hz:dT Bx.bV X) (h:eZ th m n deep=0):
 ∀(j k:Nat) (met:Ws) (out:Ws),k+j=(aO th m n deep).length→Bx.okW met→0≤0→dA oM th m (f+1) deep ig jl n=re (dA oM th m f (deep+1)) ((aO th m n deep).drop k) met out→
    Safe P fW1 X (kq (aco (f+1)) ((th,m,fu,root,fr,fs,gn),n,deep,ig,jl)) (atl th m fu root fr fs gn met out (aO th m n deep) deep (k:Int))
 |0,k,met,out,hk,hw,ho,e=>by
  rw[List.drop_of_length_le (by omega)]at e;obtain⟨f1,f2⟩:=fvG (fu:=fu) (root:=root) (fr:=fr) (fs:=fs) (gn:=gn) e;exact Ds.ew hz hX (aks rfl) T Tryd.func62 (aoT f th m fu root fr fs gn met out (aO th m n deep) deep k) ⟨fun h=>absurd (of_decide_eq_true h) (by omega),fun _=>bQ 9 rfl (Nat.le_refl _) f2 f1⟩
 |j+1,k,met,out,hk,hw,ho,e=>by
  obtain⟨_,_,n2,_,_,n5,_⟩:=eM h;rw[drop_cons dB (by omega),re]at e;have pg:=si h k;obtain⟨i1,i2⟩:=afG hd f (deep+1) met out ((aO th m n deep).getD k dB).2.1 hw ho;refine Ds.ew hz hX (aks rfl) T Tryd.func62 (aoT f th m fu root fr fs gn met out (aO th m n deep) deep k) ⟨fun _=>⟨by omega,by omega,yz (by omega) (by omega),rfl,rfl,hd,pg,⟨by omega,by omega⟩,by omega,hw,ho,fun h4=> ?_,fun h4=>⟨⟨by omega,by omega⟩, ?_⟩⟩,fun h=>absurd (of_decide_eq_false h) (by omega)⟩
  ·have h4:(dA oM th m f (deep+1) met out ((aO th m n deep).getD k dB).2.1).2.2≠0:=bne_iff_ne.1 h4;rw[if_pos h4]at e;obtain⟨f1,f2⟩:=fvG (fu:=fu) (root:=root) (fr:=fr) (fs:=fs) (gn:=gn) e;exact bQ 9 rfl (Nat.le_refl _) f2 f1
  ·have h4:¬(dA oM th m f (deep+1) met out ((aO th m n deep).getD k dB).2.1).2.2≠0:=fun hh=>Bool.false_ne_true (h4.symm.trans (bne_iff_ne.2 hh));rw[if_neg h4]at e;exact aoV T hd h1 h2 hX hz h j (k+1) _ _ (by omega) i1 i2 e
theorem yE:∀f,ib P Bx.bV fW1 (aco f)
 |0=>by
  rintro⟨⟨(th:Th),(m:As),(fu:Int),(root:Int),(fr:Ws),(fs:Ws),(gn:Ws)⟩,(n:Int),(deep:Int),(met:Ws),(out:Ws)⟩ ⟨_,_,(h1:1≤deep∧deep≤17),(h2:18≤deep+((0:Nat):Int)),_⟩;omega
 |f+1=>by
  have T:=aht (yE f);refine aC Tryd.func62 (by kernel_rfl) (fun x=>Nat.le_of_ble_eq_true (by kernel_rfl)) ?_;rintro⟨⟨(th:Th),(m:As),(fu:Int),(root:Int),(fr:Ws),(fs:Ws),(gn:Ws)⟩,(n:Int),(deep:Int),(ig:Ws),(jl:Ws)⟩ ⟨(hd:Ds.bH th m fu),(hn:0≤n∧n≤65536),(h1:1≤deep∧deep≤17),(h2:18≤deep+((f+1:Nat):Int)),(hw:Bx.okW ig),(ho:0≤0),_⟩ X hX hz;refine Ds.ew hz hX (aks rfl) T Tryd.func62 (atm f th m fu root fr fs gn ig jl n deep) ⟨rfl,rfl,hd,yz (by omega) (by omega),fun h=> ?_,fun h=>⟨fun h3=> ?_,fun h3=> ?_⟩⟩
  ·have h:eZ th m n deep≠0:=by simpa using h
   obtain⟨f1,f2⟩:=fvG (fu:=fu) (root:=root) (fr:=fr) (fs:=fs) (gn:=gn) (show dA oM th m (f+1) deep ig jl n=(ig,jl,eZ th m n deep)by rw[dA,if_pos h]);exact bQ 9 rfl (Nat.le_refl _) f2 f1
  ·have h:eZ th m n deep=0:=by simpa using h
   obtain⟨f1,f2⟩:=fvG (fu:=fu) (root:=root) (fr:=fr) (fs:=fs) (gn:=gn) (show dA oM th m (f+1) deep ig jl n=(ig,jl,4)by rw[dA,if_neg (by rw[h];simp),if_pos h3]);exact bQ 9 rfl (Nat.le_refl _) f2 f1
  ·have h:eZ th m n deep=0:=by simpa using h
   obtain⟨_,n1,n2,_,_,_,_⟩:=eM h;have e:dA oM th m (f+1) deep ig jl n=re (dA oM th m f (deep+1)) (aO th m n deep) (Bx.cT ig n) (oM jl n (bS th m n deep)):=by rw[dA,if_neg (by rw[h];simp),if_neg (by rw[h3];simp)]
   obtain⟨i1,i2⟩:=afF hd h hw h3 ho;exact⟨rfl,rfl,aoV T hd h1 h2 hX hz h _ 0 _ _ (Nat.zero_add _) i1 i2 (by rw[List.drop_zero];exact e)⟩
end Ts
namespace Ts
open Go Go.Sx Go.Proofs Lf
def xl{σ:Type}(on:σ→Int→List En→σ)(th:Th)(m:As)(root:Int)(out:σ):σ×Int:=if root=0 then(out,0)else((dA on th m 17 1 Bx.ah out root).2.1,(dA on th m 17 1 Bx.ah out root).2.2)
def lsT(th:Th)(m:As)(root:Int)(from_:ByteArray):List En:=(xl (rf from_) th m root []).1
def wA(th:Th)(m:As)(root:Int)(from_:ByteArray):Int:=(xl (rf from_) th m root []).2
def pgT(th:Th)(m:As)(root:Int):Ws:=(xl oM th m root Bx.ah).1
def pgE(th:Th)(m:As)(root:Int):Int:=(xl oM th m root Bx.ah).2
def lsF(th:Th)(m:As)(root:Int)(from_:ByteArray):List En:=if wA th m root from_≠0 then []else lsT th m root from_
def xm(th:Th)(m:As)(root:Int):Ws:=if pgE th m root≠0 then Bx.ah else pgT th m root
abbrev anh:Spec XD:=⟨fun _=>[.ptr 0 0,.fn fL1 [.ptr 4 0,.ptr 5 0]],fun((th,m,fu,root,fr,fs,gn),from_)=>hT th m fu root fr fs gn++[tO from_,.own [.vec 6] eLE,.vec (.ae cE []) Lf.eE],
 fun((th,m,fu,root,_),_)=>[Ds.bH th m fu,0≤root∧root≤65536],fun((th,m,fu,root,fr,fs,gn),from_)=>hT th m fu root fr fs gn++[tO from_,.own [.vec 7] eLE,.dead,.vec (.ae cE (lsT th m root from_)) Lf.eE],fun((th,m,_,root,_),from_)=>bD (wA th m root from_)⟩
abbrev ani:Spec XT:=⟨fun _=>[.ptr 0 0,.fn fG1 [.ptr 4 0]],fun(th,m,fu,root,fr,fs,gn)=>hT th m fu root fr fs gn++[.own [.ints .u64 16 Bx.ah] eSt],
 fun(th,m,fu,root,_)=>[Ds.bH th m fu,0≤root∧root≤65536],fun(th,m,fu,root,fr,fs,gn)=>hT th m fu root fr fs gn++[.own [.ints .u64 16 (pgT th m root)] eSt],fun(th,m,_,root,_)=>bD (pgE th m root)⟩
def aq5:aE:=[(fW1,cI (acn 17) anb)]
def aq6:aE:=[(fW1,cI (aco 17) ang)]
theorem atn(th:Th)(m:As)(fu root:Int)(fr fs gn:Ws)(from_:ByteArray):run P aq5.sum Tryd.f40 [] (start Tryd.f40 [.ptr 0 0,.fn fL1 [.ptr 4 0,.ptr 5 0]] (hT th m fu root fr fs gn++[tO from_,.own [.vec 7] eLE,.dead,.vec (.ae cE []) Lf.eE]))=
 Tree.ite (root==0) (.ret [.own [.ptr 1 0,.s (.int .i64 root),.ints .u64 16 fr,.ints .u64 16 fs,.ints .u64 16 gn] 70,.own [.vec 2,.ag 3,.s (.int .i64 fu)] 96,.vec (.ae [.arr .u8 64] th) 138,.map (.arr .u8 64) m,.own [.s (.str from_)] 9,.own [.vec 7] 29,.dead,.vec (.ae [.str,.str] []) 34,.own [.ptr 0 0] 26,.own [.fn 41 [.ptr 4 0,.ptr 5 0]] 82,.own [.ints .u64 16 (List.replicate 16 0)] 47,.own [.fn 62 [.ptr 8 0,.ptr 10 0,.ptr 9 0,.ptr 11 0]] 107] (.s (.aV .i64 0))) (.need (bt (some [AV.s (.int .i64 root),.s (.int .i64 1),.ptr 4 0,.ptr 5 0,.ptr 6 0,.ptr 7 0])) (.need (bt (some [ad.own [.ptr 1 0,.s (.int .i64 root),.ints .u64 16 fr,.ints .u64 16 fs,.ints .u64 16 gn] 70,.own [.vec 2,.ag 3,.s (.int .i64 fu)] 96,.vec (.ae [.arr .u8 64] th) 138,.map (.arr .u8 64) m,.own [.ptr 0 0] 26,.own [.ints .u64 16 (List.replicate 16 0)] 47,.own [.fn 41 [.ptr 8 0,.ptr 9 0]] 82,.own [.fn 62 [.ptr 4 0,.ptr 5 0,.ptr 6 0,.ptr 7 0]] 107,.own [.s (.str from_)] 9,.own [.vec 10] 29,.vec (.ae [.str,.str] []) 34])) (.need (Ds.bH th m fu) (.need ((0:Int)≤root∧root≤65536) (.need ((1:Int)≤1∧(1:Int)≤17) (.need ((18:Int)≤1+(↑(17:Nat):Int)) (.need (Bx.okW (List.replicate 16 0)) (.need ((0:Nat)≤(126:Nat)*0) (.ret [.own [.ptr 1 0,.s (.int .i64 root),.ints .u64 16 fr,.ints .u64 16 fs,.ints .u64 16 gn] 70,.own [.vec 2,.ag 3,.s (.int .i64 fu)] 96,.vec (.ae [.arr .u8 64] th) 138,.map (.arr .u8 64) m,.own [.s (.str from_)] 9,.own [.vec 12] 29,.dead,.dead,.own [.ptr 0 0] 26,.own [.fn 41 [.ptr 4 0,.ptr 5 0]] 82,.own [.ints .u64 16 (am8 th m 17 1 (List.replicate 16 0) from_ [] root)] 47,.own [.fn 62 [.ptr 8 0,.ptr 10 0,.ptr 9 0,.ptr 11 0]] 107,.vec (.ae [.str,.str] (am9 th m 17 1 (List.replicate 16 0) from_ [] root)) 34] (.s (.int .i64 (ana th m 17 1 (List.replicate 16 0) from_ [] root)))))))))))):=by kernel_rfl
theorem ato(th:Th)(m:As)(fu root:Int)(fr fs gn:Ws):run P aq6.sum Tryd.f40 [] (start Tryd.f40 [.ptr 0 0,.fn fG1 [.ptr 4 0]] (hT th m fu root fr fs gn++[.own [.ints .u64 16 Bx.ah] eSt]))=
 Tree.ite (root==0) (.ret [.own [.ptr 1 0,.s (.int .i64 root),.ints .u64 16 fr,.ints .u64 16 fs,.ints .u64 16 gn] 70,.own [.vec 2,.ag 3,.s (.int .i64 fu)] 96,.vec (.ae [.arr .u8 64] th) 138,.map (.arr .u8 64) m,.own [.ints .u64 16 Bx.ah] 47,.own [.ptr 0 0] 26,.own [.fn 42 [.ptr 4 0]] 82,.own [.ints .u64 16 (List.replicate 16 0)] 47,.own [.fn 62 [.ptr 5 0,.ptr 7 0,.ptr 6 0,.ptr 8 0]] 107] (.s (.aV .i64 0))) (.need (bt (some [AV.s (.int .i64 root),.s (.int .i64 1),.ptr 4 0,.ptr 5 0,.ptr 6 0,.ptr 7 0])) (.need (bt (some [ad.own [.ptr 1 0,.s (.int .i64 root),.ints .u64 16 fr,.ints .u64 16 fs,.ints .u64 16 gn] 70,.own [.vec 2,.ag 3,.s (.int .i64 fu)] 96,.vec (.ae [.arr .u8 64] th) 138,.map (.arr .u8 64) m,.own [.ptr 0 0] 26,.own [.ints .u64 16 (List.replicate 16 0)] 47,.own [.fn 42 [.ptr 8 0]] 82,.own [.fn 62 [.ptr 4 0,.ptr 5 0,.ptr 6 0,.ptr 7 0]] 107,.own [.ints .u64 16 Bx.ah] 47])) (.need (Ds.bH th m fu) (.need ((0:Int)≤root∧root≤65536) (.need ((1:Int)≤1∧(1:Int)≤17) (.need ((18:Int)≤1+(↑(17:Nat):Int)) (.need (Bx.okW (List.replicate 16 0)) (.need ((0:Nat)≤0) (.ret [.own [.ptr 1 0,.s (.int .i64 root),.ints .u64 16 fr,.ints .u64 16 fs,.ints .u64 16 gn] 70,.own [.vec 2,.ag 3,.s (.int .i64 fu)] 96,.vec (.ae [.arr .u8 64] th) 138,.map (.arr .u8 64) m,.own [.ints .u64 16 (ane th m 17 1 (List.replicate 16 0) Bx.ah root)] 47,.own [.ptr 0 0] 26,.own [.fn 42 [.ptr 4 0]] 82,.own [.ints .u64 16 (anc th m 17 1 (List.replicate 16 0) Bx.ah root)] 47,.own [.fn 62 [.ptr 5 0,.ptr 7 0,.ptr 6 0,.ptr 8 0]] 107] (.s (.int .i64 (anf th m 17 1 (List.replicate 16 0) Bx.ah root)))))))))))):=by kernel_rfl
abbrev sLs:Spec XD:=⟨fun(_,from_)=>[.ptr 0 0,.s (.str from_)],fun((th,m,fu,root,fr,fs,gn),_)=>hT th m fu root fr fs gn,fun((th,m,fu,root,_),_)=>[Ds.bH th m fu,0≤root∧root≤65536],
 fun((th,m,fu,root,fr,fs,gn),from_)=>hT th m fu root fr fs gn++[.vec (.ae cE (lsF th m root from_)) Lf.eE],fun((th,m,_,root,_),from_)=>.bo [.vec 4,bD (wA th m root from_)]⟩
abbrev sPg:Spec XT:=⟨fun _=>[.ptr 0 0],fun(th,m,fu,root,fr,fs,gn)=>hT th m fu root fr fs gn,fun(th,m,fu,root,_)=>[Ds.bH th m fu,0≤root∧root≤65536],
 fun(th,m,fu,root,fr,fs,gn)=>hT th m fu root fr fs gn,fun(th,m,_,root,_)=>.bo [.ints .u64 16 (xm th m root),bD (pgE th m root)]⟩
def atp:List AV→RM (XD×List Nat)
 |[t,.fn _ [.ptr p 0,.ptr q 0]]=>(mT [t]).bind fun(X,σ)=>.look p fun o=>match o with
  |some (.own [.s (.str from_)] _)=>.look q fun o=>match o with
   |some (.own [.vec r] _)=>.ret ((X,from_),σ++[p,q,r])
   |_=>.fail "no row"
  |_=>.fail "no text"
 |_=>.fail "walk"
def atq:List AV→RM (XT×List Nat)
 |[t,.fn _ [.ptr p 0]]=>(mT [t]).bind fun(X,σ)=>.ret (X,σ++[p])
 |_=>.fail "walk"
def akt:aE:=[(40,cI anh atp)]
def atr:aE:=[(40,cI ani atq)]
def anj:List (Nat×Norm):=[(4,⟨[],[0,3,6],4,[(5,0,false,.ae cE [],Lf.eE)]⟩)]
noncomputable def cLs(th:Th)(m:As)(fu root:Int)(fr fs gn:Ws)(from_:ByteArray):bA:=⟨sl 17 [(0,.ptr 0 0),(3,.ptr 4 0),(6,.ptr 5 0)],hT th m fu root fr fs gn++[tO from_,.own [.vec 6] eLE,.vec (.ae cE []) Lf.eE],hr Tryd.f12 4,{}⟩
theorem avE(th:Th)(m:As)(fu root:Int)(fr fs gn:Ws)(from_:ByteArray):run P akt.sum Tryd.f12 anj (start Tryd.f12 [.ptr 0 0,.s (.str from_)] (hT th m fu root fr fs gn))=
 Tree.at (.mk (sl 17 [(0,.ptr 0 0),(3,.ptr 4 0),(6,.ptr 5 0)]) [.own [.ptr 1 0,.s (.int .i64 root),.ints .u64 16 fr,.ints .u64 16 fs,.ints .u64 16 gn] 70,.own [.vec 2,.ag 3,.s (.int .i64 fu)] 96,.vec (.ae [.arr .u8 64] th) 138,.map (.arr .u8 64) m,.own [.s (.str from_)] 9,.own [.vec 6] 29,.vec (.ae [.str,.str] []) 34] (hr Tryd.f12 4) (.mk none false 0 [] 0)):=by kernel_rfl
theorem avF(th:Th)(m:As)(fu root:Int)(fr fs gn:Ws)(from_:ByteArray):run P akt.sum Tryd.f12 anj (cLs th m fu root fr fs gn from_)=
 Tree.need (bt (some [AV.ptr 0 0,.fn 41 [.ptr 4 0,.ptr 5 0]])) (.need (bt (some [ad.own [.ptr 1 0,.s (.int .i64 root),.ints .u64 16 fr,.ints .u64 16 fs,.ints .u64 16 gn] 70,.own [.vec 2,.ag 3,.s (.int .i64 fu)] 96,.vec (.ae [.arr .u8 64] th) 138,.map (.arr .u8 64) m,.own [.s (.str from_)] 9,.own [.vec 6] 29,.vec (.ae [.str,.str] []) 34])) (.need (Ds.bH th m fu) (.need ((0:Int)≤root∧root≤65536) (.ite (wA th m root from_ !=0) (.ret [.own [.ptr 1 0,.s (.int .i64 root),.ints .u64 16 fr,.ints .u64 16 fs,.ints .u64 16 gn] 70,.own [.vec 2,.ag 3,.s (.int .i64 fu)] 96,.vec (.ae [.arr .u8 64] th) 138,.map (.arr .u8 64) m,.own [.s (.str from_)] 9,.own [.vec 7] 29,.dead,.vec (.ae [.str,.str] (lsT th m root from_)) 34] (.bo [.emp,.s (.int .i64 (wA th m root from_))])) (.ret [.own [.ptr 1 0,.s (.int .i64 root),.ints .u64 16 fr,.ints .u64 16 fs,.ints .u64 16 gn] 70,.own [.vec 2,.ag 3,.s (.int .i64 fu)] 96,.vec (.ae [.arr .u8 64] th) 138,.map (.arr .u8 64) m,.own [.s (.str from_)] 9,.own [.vec 7] 29,.dead,.vec (.ae [.str,.str] (lsT th m root from_)) 34] (.bo [.vec 7,.s (.aV .i64 0)])))))):=by kernel_rfl
theorem avG(th:Th)(m:As)(fu root:Int)(fr fs gn:Ws):run P atr.sum Tryd.f18 [] (start Tryd.f18 [.ptr 0 0] (hT th m fu root fr fs gn))=
 Tree.need (bt (some [AV.ptr 0 0,.fn 42 [.ptr 4 0]])) (.need (some [ad.own [.ptr 1 0,.s (.int .i64 root),.ints .u64 16 fr,.ints .u64 16 fs,.ints .u64 16 gn] 70,.own [.vec 2,.ag 3,.s (.int .i64 fu)] 96,.vec (.ae [.arr .u8 64] th) 138,.map (.arr .u8 64) m,.own [.ints .u64 16 (List.replicate 16 0)] 47]=some [ad.own [.ptr 1 0,.s (.int .i64 root),.ints .u64 16 fr,.ints .u64 16 fs,.ints .u64 16 gn] 70,.own [.vec 2,.ag 3,.s (.int .i64 fu)] 96,.vec (.ae [.arr .u8 64] th) 138,.map (.arr .u8 64) m,.own [.ints .u64 16 Bx.ah] 47]) (.need (Ds.bH th m fu) (.need ((0:Int)≤root∧root≤65536) (.ite (pgE th m root !=0) (.ret [.own [.ptr 1 0,.s (.int .i64 root),.ints .u64 16 fr,.ints .u64 16 fs,.ints .u64 16 gn] 70,.own [.vec 2,.ag 3,.s (.int .i64 fu)] 96,.vec (.ae [.arr .u8 64] th) 138,.map (.arr .u8 64) m,.own [.ints .u64 16 (List.replicate 16 0)] 47,.own [.ints .u64 16 (pgT th m root)] 47] (.bo [.ints .u64 16 (List.replicate 16 0),.s (.int .i64 (pgE th m root))])) (.ret [.own [.ptr 1 0,.s (.int .i64 root),.ints .u64 16 fr,.ints .u64 16 fs,.ints .u64 16 gn] 70,.own [.vec 2,.ag 3,.s (.int .i64 fu)] 96,.vec (.ae [.arr .u8 64] th) 138,.map (.arr .u8 64) m,.own [.ints .u64 16 (pgT th m root)] 47,.own [.ints .u64 16 (pgT th m root)] 47] (.bo [.ints .u64 16 (pgT th m root),.s (.aV .i64 0)])))))):=by kernel_rfl
theorem aku{th:Th}{m:As}{fu root:Int}{fr fs gn:Ws}{from_:ByteArray}{c:List En×Int}(e:c=xl (rf from_) th m root []):
 anh.fH ((th,m,fu,root,fr,fs,gn),from_)=hT th m fu root fr fs gn++[tO from_,.own [.vec 7] eLE,.dead,.vec (.ae cE c.1) Lf.eE]∧anh.out ((th,m,fu,root,fr,fs,gn),from_)=bD c.2:=by
 subst e;exact⟨rfl,rfl⟩
theorem akv{th:Th}{m:As}{fu root:Int}{fr fs gn:Ws}{c:Ws×Int}(e:c=xl oM th m root Bx.ah):
 ani.fH (th,m,fu,root,fr,fs,gn)=hT th m fu root fr fs gn++[.own [.ints .u64 16 c.1] eSt]∧ani.out (th,m,fu,root,fr,fs,gn)=bD c.2:=by
 subst e;exact⟨rfl,rfl⟩
theorem akw:ib P Bx.bV 40 anh:=by
 refine aC Tryd.func40 (by kernel_rfl) (fun x=>Nat.le_of_ble_eq_true (by kernel_rfl)) ?_;rintro⟨⟨(th:Th),(m:As),(fu:Int),(root:Int),(fr:Ws),(fs:Ws),(gn:Ws)⟩,(from_:ByteArray)⟩ ⟨(hd:Ds.bH th m fu),(hr:0≤root∧root≤65536),_⟩ X hX hz;refine pU 6 (c:=start Tryd.f40 [.ptr 0 0,.fn fL1 [.ptr 4 0,.ptr 5 0]] (hT th m fu root fr fs gn++[tO from_,.own [.vec 7] eLE,.dead,.vec (.ae cE []) Lf.eE])) rfl ?_;refine Ds.ew hz hX (by intro y hy;cases hy) (aE.Ok.cons ((yD 17).sum anb) aE.Ok.nil) Tryd.func40 (atn th m fu root fr fs gn from_) ⟨fun h=> ?_,fun h=>⟨rfl,rfl,hd,hr,⟨by omega,by omega⟩,by omega,Bx.eX.1,Nat.le_refl _, ?_⟩⟩
 ·have h:root=0:=by simpa using h
  obtain⟨f1,f2⟩:=aku (fu:=fu) (fr:=fr) (fs:=fs) (gn:=gn) (c:=([],0)) (show _=xl (rf from_) th m root []by unfold xl;rw[if_pos h]);exact bQ 7 rfl (Nat.le_refl _) f2 f1
 ·have h:¬root=0:=by simpa using h
  obtain⟨f1,f2⟩:=aku (fu:=fu) (fr:=fr) (fs:=fs) (gn:=gn) (c:=((dA (rf from_) th m 17 1 Bx.ah [] root).2.1,(dA (rf from_) th m 17 1 Bx.ah [] root).2.2)) (show _=xl (rf from_) th m root []by unfold xl;rw[if_neg h]);exact bQ 7 rfl (Nat.le_refl _) f2 f1
theorem akx:ib P Bx.bV 40 ani:=by
 refine aC Tryd.func40 (by kernel_rfl) (fun x=>Nat.le_of_ble_eq_true (by kernel_rfl)) ?_;rintro⟨(th:Th),(m:As),(fu:Int),(root:Int),(fr:Ws),(fs:Ws),(gn:Ws)⟩ ⟨(hd:Ds.bH th m fu),(hr:0≤root∧root≤65536),_⟩ X hX hz;refine Ds.ew hz hX (by intro y hy;cases hy) (aE.Ok.cons ((yE 17).sum ang) aE.Ok.nil) Tryd.func40 (ato th m fu root fr fs gn) ⟨fun h=> ?_,fun h=>⟨rfl,rfl,hd,hr,⟨by omega,by omega⟩,by omega,Bx.eX.1,Nat.le_refl _, ?_⟩⟩
 ·have h:root=0:=by simpa using h
  obtain⟨f1,f2⟩:=akv (fu:=fu) (fr:=fr) (fs:=fs) (gn:=gn) (c:=(Bx.ah,0)) (show _=xl oM th m root Bx.ah by unfold xl;rw[if_pos h]);exact bQ 5 rfl (Nat.le_refl _) f2 f1
 ·have h:¬root=0:=by simpa using h
  obtain⟨f1,f2⟩:=akv (fu:=fu) (fr:=fr) (fs:=fs) (gn:=gn) (c:=((dA oM th m 17 1 Bx.ah Bx.ah root).2.1,(dA oM th m 17 1 Bx.ah Bx.ah root).2.2)) (show _=xl oM th m root Bx.ah by unfold xl;rw[if_neg h]);exact bQ 5 rfl (Nat.le_refl _) f2 f1
theorem ank:ib P Bx.bV 12 sLs:=by
 refine fL Tryd.func12 (by kernel_rfl) (fun x=>Nat.le_of_ble_eq_true (by kernel_rfl)) ?_;rintro⟨⟨(th:Th),(m:As),(fu:Int),(root:Int),(fr:Ws),(fs:Ws),(gn:Ws)⟩,(from_:ByteArray)⟩ ⟨(hd:Ds.bH th m fu),(hr:0≤root∧root≤65536),_⟩ X hX hz
 have hm:∀y∈anj,(hT th m fu root fr fs gn).length≤y.2.m:=fun y hy=>by
  simp only[anj,List.mem_singleton]at hy;subst hy;exact Nat.le_refl _
 have T:akt.Ok P Bx.bV:=aE.Ok.cons (akw.sum atp) aE.Ok.nil;refine Ds.ew hz hX hm T Tryd.func12 (avE th m fu root fr fs gn from_) ?_;refine Ds.ew hz hX hm T Tryd.func12 (avF th m fu root fr fs gn from_) ⟨rfl,rfl,hd,hr,fun h=> ?_,fun h=> ?_⟩
 ·have h:wA th m root from_≠0:=bne_iff_ne.1 h;refine kv (h:=hT th m fu root fr fs gn++[.vec (.ae cE []) Lf.eE]) ⟨[(0,.ae cE [],Lf.eE)],[0,1],4,[]⟩ rfl (Nat.le_refl _) (o9.same _) rfl ?_;show hT th m fu root fr fs gn++[.vec (.ae cE (lsF th m root from_)) Lf.eE]=_;unfold lsF;rw[if_pos h];rfl
 ·have h:¬wA th m root from_≠0:=fun hh=>Bool.false_ne_true (h.symm.trans (bne_iff_ne.2 hh));refine kv (h:=hT th m fu root fr fs gn++[.vec (.ae cE (lsT th m root from_)) Lf.eE]) ⟨[],[0,1],4,[]⟩ rfl (Nat.le_refl _) (o9.same _) ?_ ?_
  ·show AV.bo [.vec 4,bD (wA th m root from_)]=_;rw[show wA th m root from_=0 from Decidable.byContradiction h];rfl
  ·show hT th m fu root fr fs gn++[.vec (.ae cE (lsF th m root from_)) Lf.eE]=_;unfold lsF;rw[if_neg h]
theorem aky:ib P Bx.bV 18 sPg:=by
 refine aC Tryd.func18 (by kernel_rfl) (fun x=>Nat.le_of_ble_eq_true (by kernel_rfl)) ?_;rintro⟨(th:Th),(m:As),(fu:Int),(root:Int),(fr:Ws),(fs:Ws),(gn:Ws)⟩ ⟨(hd:Ds.bH th m fu),(hr:0≤root∧root≤65536),_⟩ X hX hz;refine Ds.ew hz hX (by intro y hy;cases hy) (aE.Ok.cons (akx.sum atq) aE.Ok.nil) Tryd.func18 (avG th m fu root fr fs gn) ⟨rfl,rfl,hd,hr,fun h=> ?_,fun h=> ?_⟩
 ·have h:pgE th m root≠0:=bne_iff_ne.1 h;refine bQ (h:=hT th m fu root fr fs gn) 4 rfl (Nat.le_refl _) ?_ rfl;show AV.bo [.ints .u64 16 (xm th m root),bD (pgE th m root)]=_;unfold xm;rw[if_pos h];rfl
 ·have h:¬pgE th m root≠0:=fun hh=>Bool.false_ne_true (h.symm.trans (bne_iff_ne.2 hh));refine bQ (h:=hT th m fu root fr fs gn) 4 rfl (Nat.le_refl _) ?_ rfl;show AV.bo [.ints .u64 16 (xm th m root),bD (pgE th m root)]=_;unfold xm;rw[if_neg h,show pgE th m root=0 from Decidable.byContradiction h];rfl
end Ts
namespace Ts
open Go Go.Sx Go.Proofs Lf
def tT(th:Th)(free:Ws):Ws:=Bx.ct .and free (Bx.ct .andNot (Bx.br (Ds.tH th)) (Bx.br 2))
abbrev XO:Type:=Th×As×Int×Int×Ws
abbrev sOp:Spec XO:=⟨fun(_,_,_,root,free)=>[.ptr 0 0,bD root,.ints .u64 16 free],fun(th,m,fu,_)=>Ds.hD th m fu,fun(th,m,fu,_)=>[Ds.bH th m fu],fun(th,m,fu,root,free)=>Ds.hD th m fu++[obT 0 root (tT th free) Bx.ah Bx.ah],fun _=>.ptr 3 0⟩
def mOp:List AV→RM (XO×List Nat)
 |[d,r,.ints .u64 16 free]=>(Ds.mAs [d]).bind fun((th,m,fu),σ)=>match r.de with
  |some (_,_,root)=>.ret ((th,m,fu,root,free),σ)
  |none=>.fail "no root"
 |_=>.fail "open"
abbrev aoW:=cI sOp mOp
abbrev ats:=cI Ds.sPn Ds.mAs
abbrev anl:=bZ [Bx.bh] [Bx.dw] (fun _=>[]) (fun(n,())=>(Bx.br n,()))
abbrev akz:=bZ [Bx.dw,Bx.dw] [Bx.dw] (fun _=>[]) (fun(a,b,())=>(Bx.ct .andNot a b,()))
abbrev att:=bZ [Bx.dw,Bx.dw] [Bx.dw] (fun _=>[]) (fun(a,b,())=>(Bx.ct .and a b,()))
def atu:aE:=[(45,ats),(29,anl),(23,akz),(44,att)]
theorem avH(th:Th)(m:As)(fu root:Int)(free:Ws):run P atu.sum Tryd.f21 [] (start Tryd.f21 [.ptr 0 0,bD root,.ints .u64 16 free] (Ds.hD th m fu))=
 Tree.need (bt (some [AV.ptr 0 0])) (.need (bt (some [ad.own [.vec 1,.ag 2,.s (.int .i64 fu)] 96,.vec (.ae [.arr .u8 64] th) 138,.map (.arr .u8 64) m])) (.need (Ds.bH th m fu) (.ret [.own [.vec 1,.ag 2,.s (.int .i64 fu)] 96,.vec (.ae [.arr .u8 64] th) 138,.map (.arr .u8 64) m,.own [.ints .u64 16 free] 47,.own [.ptr 0 0,.s (.int .i64 root),.ints .u64 16 (Bx.ct BinOp.and free (Bx.ct BinOp.andNot (Bx.br (Ds.tH th)) (Bx.br 2))),.ints .u64 16 (List.replicate 16 0),.ints .u64 16 (List.replicate 16 0)] 70] (.ptr 4 0)))):=by kernel_rfl
abbrev sRt:Spec XT:=⟨fun _=>[.ptr 0 0],fun(th,m,fu,root,fr,fs,gn)=>hT th m fu root fr fs gn,fun _=>[],fun(th,m,fu,root,fr,fs,gn)=>hT th m fu root fr fs gn,fun(_,_,_,root,_)=>bD root⟩
abbrev sFs:Spec XT:=⟨fun _=>[.ptr 0 0],fun(th,m,fu,root,fr,fs,gn)=>hT th m fu root fr fs gn,fun _=>[],fun(th,m,fu,root,fr,fs,gn)=>hT th m fu root fr fs gn,fun(_,_,_,_,_,fs,_)=>.ints .u64 16 fs⟩
abbrev sFr:Spec XT:=⟨fun _=>[.ptr 0 0],fun(th,m,fu,root,fr,fs,gn)=>hT th m fu root fr fs gn,fun _=>[],fun(th,m,fu,root,fr,fs,gn)=>hT th m fu root fr fs gn,fun(_,_,_,_,fr,_)=>.ints .u64 16 fr⟩
theorem avJ(th:Th)(m:As)(fu root:Int)(fr fs gn:Ws):run P (aE.sum []) Tryd.f22 [] (start Tryd.f22 [.ptr 0 0] (hT th m fu root fr fs gn))=
 Tree.ret [.own [.ptr 1 0,.s (.int .i64 root),.ints .u64 16 fr,.ints .u64 16 fs,.ints .u64 16 gn] 70,.own [.vec 2,.ag 3,.s (.int .i64 fu)] 96,.vec (.ae [.arr .u8 64] th) 138,.map (.arr .u8 64) m] (.s (.int .i64 root)):=by kernel_rfl
theorem avK(th:Th)(m:As)(fu root:Int)(fr fs gn:Ws):run P (aE.sum []) Tryd.f19 [] (start Tryd.f19 [.ptr 0 0] (hT th m fu root fr fs gn))=
 Tree.ret [.own [.ptr 1 0,.s (.int .i64 root),.ints .u64 16 fr,.ints .u64 16 fs,.ints .u64 16 gn] 70,.own [.vec 2,.ag 3,.s (.int .i64 fu)] 96,.vec (.ae [.arr .u8 64] th) 138,.map (.arr .u8 64) m,.own [.ints .u64 16 fs] 47] (.ints .u64 16 fs):=by kernel_rfl
theorem avL(th:Th)(m:As)(fu root:Int)(fr fs gn:Ws):run P (aE.sum []) Tryd.f20 [] (start Tryd.f20 [.ptr 0 0] (hT th m fu root fr fs gn))=
 Tree.ret [.own [.ptr 1 0,.s (.int .i64 root),.ints .u64 16 fr,.ints .u64 16 fs,.ints .u64 16 gn] 70,.own [.vec 2,.ag 3,.s (.int .i64 fu)] 96,.vec (.ae [.arr .u8 64] th) 138,.map (.arr .u8 64) m,.own [.ints .u64 16 fr] 47] (.ints .u64 16 fr):=by kernel_rfl
def cA(n:Int):Th:=List.replicate n.toNat (CL.d Ds.cS)
def atv:aE:=[(21,aoW),(29,anl)]
theorem avM(p:Int):run P atv.sum Tryd.f10 [] (start Tryd.f10 [bD p] []) (inl:=[31])=
 Tree.need (aF ((4:Int)*p)) (.ite (decide ((4:Int)*p<1)) (.ret [] (.bo [.s .fU,.s .fU])) (.ite (decide ((4:Int)*p>4096)) (.ret [] (.bo [.s .fU,.s .fU])) (.need ((0:Int)≤4*p) (.need ((4:Int)*p≤4*p) (.need ((4:Int)*p≤1073741824) (.need (bt (some [AV.ptr 0 0,.s (.int .i64 0),.ints .u64 16 (Bx.br p)])) (.need (bt (some [ad.own [.vec 1,.ag 2,.s (.int .i64 (-1))] 96,.vec (.ae [.arr .u8 64] (List.replicate ((4:Int)*p).toNat (CL.d [.arr .u8 64]))) 138,.map (.arr .u8 64) []])) (.need (Ds.bH (List.replicate ((4:Int)*p).toNat (CL.d [.arr .u8 64])) [] (-1)) (.ret [.vec (.ae [.arr .u8 64] (List.replicate ((4:Int)*p).toNat (CL.d [.arr .u8 64]))) 138,.map (.arr .u8 64) [],.own [.vec 0,.ag 1,.s (.int .i64 (-1))] 96,.own [.ptr 2 0,.s (.int .i64 0),.ints .u64 16 (tT (List.replicate ((4:Int)*p).toNat (CL.d [.arr .u8 64])) (Bx.br p)),.ints .u64 16 Bx.ah,.ints .u64 16 Bx.ah] 70] (.bo [.ptr 2 0,.ptr 3 0])))))))))):=by kernel_rfl
abbrev XH:Type:=XT×ByteArray×ByteArray
def wC(th:Th)(m:As)(root:Int)(key want:ByteArray):Bool:=(gtE th m root key==0)&&(gtB th m root key&&decide (gtV th m root key=want))
abbrev sHs:Spec XH:=⟨fun(_,key,want)=>[.ptr 0 0,.s (.str key),.s (.str want)],fun((th,m,fu,root,fr,fs,gn),_)=>hT th m fu root fr fs gn,fun((th,m,fu,root,_),_)=>[Ds.bH th m fu,0≤root∧root≤65536],fun((th,m,fu,root,fr,fs,gn),_)=>hT th m fu root fr fs gn,
 fun((th,m,_,root,_),key,want)=>.s (.bool (wC th m root key want))⟩
def mGt:List AV→RM (XD×List Nat)
 |[t,.s (.str key)]=>(mT [t]).bind fun(X,σ)=>.ret ((X,key),σ)
 |_=>.fail "get"
def mHs:List AV→RM (XH×List Nat)
 |[t,.s (.str key),.s (.str want)]=>(mT [t]).bind fun(X,σ)=>.ret ((X,key,want),σ)
 |_=>.fail "has"
def atw:aE:=[(11,cI ahp mGt)]
theorem avO(th:Th)(m:As)(fu root:Int)(fr fs gn:Ws)(key want:ByteArray):run P atw.sum Tryd.f30 [] (start Tryd.f30 [.ptr 0 0,.s (.str key),.s (.str want)] (hT th m fu root fr fs gn))=
 Tree.need (bt (some [AV.ptr 0 0,.s (.str key)])) (.need (bt (some [ad.own [.ptr 1 0,.s (.int .i64 root),.ints .u64 16 fr,.ints .u64 16 fs,.ints .u64 16 gn] 70,.own [.vec 2,.ag 3,.s (.int .i64 fu)] 96,.vec (.ae [.arr .u8 64] th) 138,.map (.arr .u8 64) m])) (.need (Ds.bH th m fu) (.need ((0:Int)≤root∧root≤65536) (.ite (gtE th m root key==0) (.ite (gtB th m root key) (.ret [.own [.ptr 1 0,.s (.int .i64 root),.ints .u64 16 fr,.ints .u64 16 fs,.ints .u64 16 gn] 70,.own [.vec 2,.ag 3,.s (.int .i64 fu)] 96,.vec (.ae [.arr .u8 64] th) 138,.map (.arr .u8 64) m] (.s (.bool (decide (gtV th m root key=want))))) (.ret [.own [.ptr 1 0,.s (.int .i64 root),.ints .u64 16 fr,.ints .u64 16 fs,.ints .u64 16 gn] 70,.own [.vec 2,.ag 3,.s (.int .i64 fu)] 96,.vec (.ae [.arr .u8 64] th) 138,.map (.arr .u8 64) m] (.s (.aA false)))) (.ret [.own [.ptr 1 0,.s (.int .i64 root),.ints .u64 16 fr,.ints .u64 16 fs,.ints .u64 16 gn] 70,.own [.vec 2,.ag 3,.s (.int .i64 fu)] 96,.vec (.ae [.arr .u8 64] th) 138,.map (.arr .u8 64) m] (.s (.aA false))))))):=by kernel_rfl
abbrev sMd:Spec Int:=⟨fun p=>[bD p],fun _=>[],fun p=>[3≤p∧p≤250],fun p=>[Ds.obD 2 3 (-1),obT 0 0 (tT (cA (4*p)) (Bx.br p)) Bx.ah Bx.ah,.vec (.ae Ds.cS (cA (4*p))) Ds.eS,.map Ds.kS []],fun _=>.bo [.ptr 0 0,.ptr 1 0]⟩
theorem afH{Z:aX}:ib P Z 21 sOp:=by
 refine aC Tryd.func21 (by kernel_rfl) (fun x=>Nat.le_of_ble_eq_true (by kernel_rfl)) ?_;rintro⟨(th:Th),(m:As),(fu:Int),(root:Int),(free:Ws)⟩ ⟨(hd:Ds.bH th m fu),_⟩ X hX hz;exact Ds.ew hz hX (by intro y hy;cases hy) (aE.Ok.cons (Ds.aso.sum Ds.mAs) (aE.Ok.cons Bx.nK.sum (aE.Ok.cons Bx.tK.sum (aE.Ok.cons Bx.afm.sum aE.Ok.nil)))) Tryd.func21 (avH th m fu root free) ⟨rfl,rfl,hd,bQ 3 rfl (Nat.le_refl _) rfl rfl⟩
theorem afI{Z:aX}:ib P Z 22 sRt:=by
 refine aC Tryd.func22 (by kernel_rfl) (fun x=>Nat.le_of_ble_eq_true (by kernel_rfl)) ?_;rintro⟨(th:Th),(m:As),(fu:Int),(root:Int),(fr:Ws),(fs:Ws),(gn:Ws)⟩ _ X hX hz;exact Ds.ew hz hX (by intro y hy;cases hy) aE.Ok.nil Tryd.func22 (avJ th m fu root fr fs gn) (bQ 4 rfl (Nat.le_refl _) rfl rfl)
theorem akA{Z:aX}:ib P Z 19 sFs:=by
 refine aC Tryd.func19 (by kernel_rfl) (fun x=>Nat.le_of_ble_eq_true (by kernel_rfl)) ?_;rintro⟨(th:Th),(m:As),(fu:Int),(root:Int),(fr:Ws),(fs:Ws),(gn:Ws)⟩ _ X hX hz;exact Ds.ew hz hX (by intro y hy;cases hy) aE.Ok.nil Tryd.func19 (avK th m fu root fr fs gn) (bQ 4 rfl (Nat.le_refl _) rfl rfl)
theorem afJ{Z:aX}:ib P Z 20 sFr:=by
 refine aC Tryd.func20 (by kernel_rfl) (fun x=>Nat.le_of_ble_eq_true (by kernel_rfl)) ?_;rintro⟨(th:Th),(m:As),(fu:Int),(root:Int),(fr:Ws),(fs:Ws),(gn:Ws)⟩ _ X hX hz;exact Ds.ew hz hX (by intro y hy;cases hy) aE.Ok.nil Tryd.func20 (avL th m fu root fr fs gn) (bQ 4 rfl (Nat.le_refl _) rfl rfl)
theorem afK{Z:aX}:ib P Z 10 sMd:=by
 refine aC Tryd.func10 (by kernel_rfl) (fun x=>Nat.le_of_ble_eq_true (by kernel_rfl)) ?_;rintro(p:Int) ⟨(hp:3≤p∧p≤250),_⟩ X hX hz;refine Ds.ew hz hX (by intro y hy;cases hy) (aE.Ok.cons (afH.sum mOp) (aE.Ok.cons Bx.nK.sum aE.Ok.nil)) Tryd.func10 (avM p) ⟨yz (by omega) (by omega),fun h=> ?_,fun h=>⟨fun h2=> ?_,fun h2=>⟨by omega,by omega,by omega,rfl,rfl, ?_, ?_⟩⟩⟩
 ·have:=of_decide_eq_true h;omega
 ·have:=of_decide_eq_true h2;omega
 ·exact Ds.aiR (by omega)
 ·exact bQ 0 rfl (Nat.le_refl _) rfl rfl
theorem te{Z:aX}:ib P Z 30 sHs:=by
 refine aC Tryd.func30 (by kernel_rfl) (fun x=>Nat.le_of_ble_eq_true (by kernel_rfl)) ?_;rintro⟨⟨(th:Th),(m:As),(fu:Int),(root:Int),(fr:Ws),(fs:Ws),(gn:Ws)⟩,(key:ByteArray),(want:ByteArray)⟩ ⟨(hd:Ds.bH th m fu),(hr:0≤root∧root≤65536),_⟩ X hX hz;have fin:∀b,wC th m root key want=b→sHs.out ((th,m,fu,root,fr,fs,gn),key,want)=.s (.bool b):=fun b e=>by subst e;rfl
 refine Ds.ew hz hX (by intro y hy;cases hy) (aE.Ok.cons (akm.sum mGt) aE.Ok.nil) Tryd.func30 (avO th m fu root fr fs gn key want) ⟨rfl,rfl,hd,hr,fun h=>⟨fun h2=> ?_,fun h2=> ?_⟩,fun h=> ?_⟩
 ·exact bQ 4 rfl (Nat.le_refl _) (fin _ (by unfold wC;rw[h,h2];rfl)) rfl
 ·exact bQ 4 rfl (Nat.le_refl _) (fin _ (by unfold wC;rw[h,h2];rfl)) rfl
 ·exact bQ 4 rfl (Nat.le_refl _) (fin _ (by unfold wC;rw[h];rfl)) rfl
end Ts
namespace Ts
open Go Go.Sx Go.Proofs Lf
def mPt:List AV→RM (XK×List Nat)
 |[t,.s (.str key),.s (.str val)]=>(mT [t]).bind fun(X,σ)=>.ret ((X,key,val),σ)
 |_=>.fail "put"
abbrev akB:=cI akj mPt
abbrev akC:=cI akk mGt
abbrev aoX:=cI sHs mHs
abbrev aoY:=cI sRt mT
abbrev atx:=cI sFs mT
abbrev aoZ:=cI sFr mT
def mMd:List AV→RM (Int×List Nat)
 |[p]=>match p.de with
  |some (_,_,p)=>.ret (p,[])
  |none=>.fail "made"
 |_=>.fail "made"
abbrev ao0:=cI sMd mMd
def lS:aE:=[(10,ao0),(24,akB),(25,akC),(30,aoX),(22,aoY),(20,aoZ),(35,ajL)]
def tv:List (Nat×Norm):=[(fq+2004,⟨[],[0,2,9,10],0,[]⟩),(fq+2009,⟨[],[0,2,14,15],0,[]⟩),(fq+2014,⟨[],[0,2,19,20],0,[]⟩),(fq+2019,⟨[],[0,2,24,25],0,[]⟩),(fq+2024,⟨[],[0,2,29,30],0,[]⟩),(fq+2029,⟨[],[0,2,34,35],0,[]⟩),(fq+2035,⟨[],[0,2,40,41],0,[]⟩),(fq+2040,⟨[],[0,2,45,46],0,[]⟩),(fq+2045,⟨[],[0,2,50,51],0,[]⟩),(fq+2050,⟨[],[0,2,55,56],0,[]⟩),(fq+4001,⟨[],[0,60],0,[]⟩)]
noncomputable def aty:bA:=Sx.start Tryd.f8 [] []
theorem atz:run (P) (lS.sum) (Tryd.f8) (tv) aty ([])=
 Tree.need (bt (some [AV.s (.int .i64 8)])) (.need mq (.need ((3:Int)≤8∧(8:Int)≤250) (.at (.mk (sl 63 [(0,.s (.bool false)),(2,.ptr 0 0),(9,.s (.bool false)),(10,.ptr 0 0)]) [.own [.ptr 1 0,.s (.int .i64 0),.ints .u64 16 (tT (cA ((4:Int)*8)) (Bx.br 8)),.ints .u64 16 Bx.ah,.ints .u64 16 Bx.ah] 70,.own [.vec 2,.ag 3,.s (.int .i64 (-1))] 96,.vec (.ae [.arr .u8 64] (cA ((4:Int)*8))) 138,.map (.arr .u8 64) []] (oV Tryd.f8 2 4) (.mk none false 0 [] 2))))):=by kernel_rfl
noncomputable def hZ:Ws:=tT (cA ((4:Int)*(8:Int))) (Bx.br (8:Int))
noncomputable def atA:bA:=bA.mk (sl 63 [(0,.s (.bool false)),(2,.ptr 0 0),(9,.s (.bool false)),(10,.ptr 0 0)]) [.own [.ptr 1 0,.s (.int .i64 0),.ints .u64 16 hZ,.ints .u64 16 Bx.ah,.ints .u64 16 Bx.ah] 70,.own [.vec 2,.ag 3,.s (.int .i64 (-1))] 96,.vec (.ae [.arr .u8 64] (cA ((4:Int)*8))) 138,.map (.arr .u8 64) []] (oV Tryd.f8 2 4) (.mk none false 0 [] 2)
theorem atB:run (P) (lS.sum) (Tryd.f8) (tv) atA ([])=
 Tree.ite false (.ret [.own [.ptr 1 0,.s (.int .i64 0),.ints .u64 16 hZ,.ints .u64 16 Bx.ah,.ints .u64 16 Bx.ah] 70,.own [.vec 2,.ag 3,.s (.int .i64 (-1))] 96,.vec (.ae [.arr .u8 64] (cA ((4:Int)*8))) 138,.map (.arr .u8 64) []] (.s (.aA false))) (.need (bt (some [AV.ptr 0 0,.s (.str (ByteArray.mk #[(97:UInt8)])),.s (.str (ByteArray.mk #[(49:UInt8)]))])) (.need (bt (some [ad.own [.ptr 1 0,.s (.int .i64 0),.ints .u64 16 hZ,.ints .u64 16 Bx.ah,.ints .u64 16 Bx.ah] 70,.own [.vec 2,.ag 3,.s (.int .i64 (-1))] 96,.vec (.ae [.arr .u8 64] (cA ((4:Int)*8))) 138,.map (.arr .u8 64) []])) (.need (Ds.bH (cA ((4:Int)*8)) [] (-1)) (.need (Bx.okW hZ) (.need ((0:Int)≤0∧(0:Int)≤65536) (.ite false (.ret [.own [.ptr 1 0,.s (.int .i64 2),.ints .u64 16 (mL (cA ((4:Int)*8)) (ByteArray.mk #[(97:UInt8)]) (some (ByteArray.mk #[(49:UInt8)])) [] (-1) 0 hZ Bx.ah Bx.ah),.ints .u64 16 (mM (cA ((4:Int)*8)) (ByteArray.mk #[(97:UInt8)]) (some (ByteArray.mk #[(49:UInt8)])) [] (-1) 0 hZ Bx.ah Bx.ah),.ints .u64 16 (mN (cA ((4:Int)*8)) (ByteArray.mk #[(97:UInt8)]) (some (ByteArray.mk #[(49:UInt8)])) [] (-1) 0 hZ Bx.ah Bx.ah)] 70,.own [.vec 2,.ag 3,.s (.int .i64 (mJ (cA ((4:Int)*8)) (ByteArray.mk #[(97:UInt8)]) (some (ByteArray.mk #[(49:UInt8)])) [] (-1) 0 hZ Bx.ah Bx.ah))] 96,.vec (.ae [.arr .u8 64] (cA ((4:Int)*8))) 138,.map (.arr .u8 64) (mI (cA ((4:Int)*8)) (ByteArray.mk #[(97:UInt8)]) (some (ByteArray.mk #[(49:UInt8)])) [] (-1) 0 hZ Bx.ah Bx.ah)] (.s (.aA false))) (.at (.mk (sl 63 [(0,.s (.bool false)),(2,.ptr 0 0),(14,.s (.bool false)),(15,.ptr 0 0)]) [.own [.ptr 1 0,.s (.int .i64 2),.ints .u64 16 (mL (cA ((4:Int)*8)) (ByteArray.mk #[(97:UInt8)]) (some (ByteArray.mk #[(49:UInt8)])) [] (-1) 0 hZ Bx.ah Bx.ah),.ints .u64 16 (mM (cA ((4:Int)*8)) (ByteArray.mk #[(97:UInt8)]) (some (ByteArray.mk #[(49:UInt8)])) [] (-1) 0 hZ Bx.ah Bx.ah),.ints .u64 16 (mN (cA ((4:Int)*8)) (ByteArray.mk #[(97:UInt8)]) (some (ByteArray.mk #[(49:UInt8)])) [] (-1) 0 hZ Bx.ah Bx.ah)] 70,.own [.vec 2,.ag 3,.s (.int .i64 (mJ (cA ((4:Int)*8)) (ByteArray.mk #[(97:UInt8)]) (some (ByteArray.mk #[(49:UInt8)])) [] (-1) 0 hZ Bx.ah Bx.ah))] 96,.vec (.ae [.arr .u8 64] (cA ((4:Int)*8))) 138,.map (.arr .u8 64) (mI (cA ((4:Int)*8)) (ByteArray.mk #[(97:UInt8)]) (some (ByteArray.mk #[(49:UInt8)])) [] (-1) 0 hZ Bx.ah Bx.ah)] (oV Tryd.f8 2 9) (.mk none false 0 [] 2))))))))):=by kernel_rfl
noncomputable def dX:Ws:=mL (cA ((4:Int)*(8:Int))) (ByteArray.mk #[(97:UInt8)]) (some (ByteArray.mk #[(49:UInt8)])) [] (-1:Int) (0:Int) hZ Bx.ah Bx.ah
noncomputable def ef:Ws:=mM (cA ((4:Int)*(8:Int))) (ByteArray.mk #[(97:UInt8)]) (some (ByteArray.mk #[(49:UInt8)])) [] (-1:Int) (0:Int) hZ Bx.ah Bx.ah
noncomputable def eh:Ws:=mN (cA ((4:Int)*(8:Int))) (ByteArray.mk #[(97:UInt8)]) (some (ByteArray.mk #[(49:UInt8)])) [] (-1:Int) (0:Int) hZ Bx.ah Bx.ah
noncomputable def dR:Int:=mJ (cA ((4:Int)*(8:Int))) (ByteArray.mk #[(97:UInt8)]) (some (ByteArray.mk #[(49:UInt8)])) [] (-1:Int) (0:Int) hZ Bx.ah Bx.ah
noncomputable def dS:As:=mI (cA ((4:Int)*(8:Int))) (ByteArray.mk #[(97:UInt8)]) (some (ByteArray.mk #[(49:UInt8)])) [] (-1:Int) (0:Int) hZ Bx.ah Bx.ah
noncomputable def atC:bA:=bA.mk (sl 63 [(0,.s (.bool false)),(2,.ptr 0 0),(14,.s (.bool false)),(15,.ptr 0 0)]) [.own [.ptr 1 0,.s (.int .i64 2),.ints .u64 16 dX,.ints .u64 16 ef,.ints .u64 16 eh] 70,.own [.vec 2,.ag 3,.s (.int .i64 dR)] 96,.vec (.ae [.arr .u8 64] (cA ((4:Int)*8))) 138,.map (.arr .u8 64) dS] (oV Tryd.f8 2 9) (.mk none false 0 [] 2)
theorem atD:run (P) (lS.sum) (Tryd.f8) (tv) atC ([])=
 Tree.ite false (.ret [.own [.ptr 1 0,.s (.int .i64 2),.ints .u64 16 dX,.ints .u64 16 ef,.ints .u64 16 eh] 70,.own [.vec 2,.ag 3,.s (.int .i64 dR)] 96,.vec (.ae [.arr .u8 64] (cA ((4:Int)*8))) 138,.map (.arr .u8 64) dS] (.s (.aA false))) (.need (bt (some [AV.ptr 0 0])) (.need (bt (some [ad.own [.ptr 1 0,.s (.int .i64 2),.ints .u64 16 dX,.ints .u64 16 ef,.ints .u64 16 eh] 70,.own [.vec 2,.ag 3,.s (.int .i64 dR)] 96,.vec (.ae [.arr .u8 64] (cA ((4:Int)*8))) 138,.map (.arr .u8 64) dS])) (.ite false (.ret [.own [.ptr 1 0,.s (.int .i64 2),.ints .u64 16 dX,.ints .u64 16 ef,.ints .u64 16 eh] 70,.own [.vec 2,.ag 3,.s (.int .i64 dR)] 96,.vec (.ae [.arr .u8 64] (cA ((4:Int)*8))) 138,.map (.arr .u8 64) dS] (.s (.aA false))) (.at (.mk (sl 63 [(0,.s (.bool false)),(2,.ptr 0 0),(19,.s (.bool false)),(20,.ptr 0 0)]) [.own [.ptr 1 0,.s (.int .i64 2),.ints .u64 16 dX,.ints .u64 16 ef,.ints .u64 16 eh] 70,.own [.vec 2,.ag 3,.s (.int .i64 dR)] 96,.vec (.ae [.arr .u8 64] (cA ((4:Int)*8))) 138,.map (.arr .u8 64) dS] (oV Tryd.f8 2 14) (.mk none false 0 [] 2)))))):=by kernel_rfl
noncomputable def atE:bA:=bA.mk (sl 63 [(0,.s (.bool false)),(2,.ptr 0 0),(19,.s (.bool false)),(20,.ptr 0 0)]) [.own [.ptr 1 0,.s (.int .i64 2),.ints .u64 16 dX,.ints .u64 16 ef,.ints .u64 16 eh] 70,.own [.vec 2,.ag 3,.s (.int .i64 dR)] 96,.vec (.ae [.arr .u8 64] (cA ((4:Int)*8))) 138,.map (.arr .u8 64) dS] (oV Tryd.f8 2 14) (.mk none false 0 [] 2)
theorem atF:run (P) (lS.sum) (Tryd.f8) (tv) atE ([])=
 Tree.ite false (.ret [.own [.ptr 1 0,.s (.int .i64 2),.ints .u64 16 dX,.ints .u64 16 ef,.ints .u64 16 eh] 70,.own [.vec 2,.ag 3,.s (.int .i64 dR)] 96,.vec (.ae [.arr .u8 64] (cA ((4:Int)*8))) 138,.map (.arr .u8 64) dS] (.s (.aA false))) (.need (bt (some [AV.ptr 0 0,.s (.str (ByteArray.mk #[(97:UInt8)])),.s (.str (ByteArray.mk #[(49:UInt8)]))])) (.need (bt (some [ad.own [.ptr 1 0,.s (.int .i64 2),.ints .u64 16 dX,.ints .u64 16 ef,.ints .u64 16 eh] 70,.own [.vec 2,.ag 3,.s (.int .i64 dR)] 96,.vec (.ae [.arr .u8 64] (cA ((4:Int)*8))) 138,.map (.arr .u8 64) dS])) (.need (Ds.bH (cA ((4:Int)*8)) dS dR) (.need ((0:Int)≤2∧(2:Int)≤65536) (.ite false (.ret [.own [.ptr 1 0,.s (.int .i64 2),.ints .u64 16 dX,.ints .u64 16 ef,.ints .u64 16 eh] 70,.own [.vec 2,.ag 3,.s (.int .i64 dR)] 96,.vec (.ae [.arr .u8 64] (cA ((4:Int)*8))) 138,.map (.arr .u8 64) dS] (.s (.aA false))) (.at (.mk (sl 63 [(0,.s (.bool false)),(2,.ptr 0 0),(24,.s (.bool false)),(25,.ptr 0 0)]) [.own [.ptr 1 0,.s (.int .i64 2),.ints .u64 16 dX,.ints .u64 16 ef,.ints .u64 16 eh] 70,.own [.vec 2,.ag 3,.s (.int .i64 dR)] 96,.vec (.ae [.arr .u8 64] (cA ((4:Int)*8))) 138,.map (.arr .u8 64) dS] (oV Tryd.f8 2 19) (.mk none false 0 [] 2)))))))):=by kernel_rfl
noncomputable def atG:bA:=bA.mk (sl 63 [(0,.s (.bool false)),(2,.ptr 0 0),(24,.s (.bool false)),(25,.ptr 0 0)]) [.own [.ptr 1 0,.s (.int .i64 2),.ints .u64 16 dX,.ints .u64 16 ef,.ints .u64 16 eh] 70,.own [.vec 2,.ag 3,.s (.int .i64 dR)] 96,.vec (.ae [.arr .u8 64] (cA ((4:Int)*8))) 138,.map (.arr .u8 64) dS] (oV Tryd.f8 2 19) (.mk none false 0 [] 2)
theorem atH:run (P) (lS.sum) (Tryd.f8) (tv) atG ([])=
 Tree.ite false (.ret [.own [.ptr 1 0,.s (.int .i64 2),.ints .u64 16 dX,.ints .u64 16 ef,.ints .u64 16 eh] 70,.own [.vec 2,.ag 3,.s (.int .i64 dR)] 96,.vec (.ae [.arr .u8 64] (cA ((4:Int)*8))) 138,.map (.arr .u8 64) dS] (.s (.aA false))) (.need (bt (some [AV.ptr 0 0,.s (.str (ByteArray.mk #[(97:UInt8)])),.s (.str (ByteArray.mk #[(50:UInt8)]))])) (.need (bt (some [ad.own [.ptr 1 0,.s (.int .i64 2),.ints .u64 16 dX,.ints .u64 16 ef,.ints .u64 16 eh] 70,.own [.vec 2,.ag 3,.s (.int .i64 dR)] 96,.vec (.ae [.arr .u8 64] (cA ((4:Int)*8))) 138,.map (.arr .u8 64) dS])) (.need (Ds.bH (cA ((4:Int)*8)) dS dR) (.need (Bx.okW dX) (.need ((0:Int)≤2∧(2:Int)≤65536) (.ite false (.ret [.own [.ptr 1 0,.s (.int .i64 3),.ints .u64 16 (mL (cA ((4:Int)*8)) (ByteArray.mk #[(97:UInt8)]) (some (ByteArray.mk #[(50:UInt8)])) dS dR 2 dX ef eh),.ints .u64 16 (mM (cA ((4:Int)*8)) (ByteArray.mk #[(97:UInt8)]) (some (ByteArray.mk #[(50:UInt8)])) dS dR 2 dX ef eh),.ints .u64 16 (mN (cA ((4:Int)*8)) (ByteArray.mk #[(97:UInt8)]) (some (ByteArray.mk #[(50:UInt8)])) dS dR 2 dX ef eh)] 70,.own [.vec 2,.ag 3,.s (.int .i64 (mJ (cA ((4:Int)*8)) (ByteArray.mk #[(97:UInt8)]) (some (ByteArray.mk #[(50:UInt8)])) dS dR 2 dX ef eh))] 96,.vec (.ae [.arr .u8 64] (cA ((4:Int)*8))) 138,.map (.arr .u8 64) (mI (cA ((4:Int)*8)) (ByteArray.mk #[(97:UInt8)]) (some (ByteArray.mk #[(50:UInt8)])) dS dR 2 dX ef eh)] (.s (.aA false))) (.at (.mk (sl 63 [(0,.s (.bool false)),(2,.ptr 0 0),(29,.s (.bool false)),(30,.ptr 0 0)]) [.own [.ptr 1 0,.s (.int .i64 3),.ints .u64 16 (mL (cA ((4:Int)*8)) (ByteArray.mk #[(97:UInt8)]) (some (ByteArray.mk #[(50:UInt8)])) dS dR 2 dX ef eh),.ints .u64 16 (mM (cA ((4:Int)*8)) (ByteArray.mk #[(97:UInt8)]) (some (ByteArray.mk #[(50:UInt8)])) dS dR 2 dX ef eh),.ints .u64 16 (mN (cA ((4:Int)*8)) (ByteArray.mk #[(97:UInt8)]) (some (ByteArray.mk #[(50:UInt8)])) dS dR 2 dX ef eh)] 70,.own [.vec 2,.ag 3,.s (.int .i64 (mJ (cA ((4:Int)*8)) (ByteArray.mk #[(97:UInt8)]) (some (ByteArray.mk #[(50:UInt8)])) dS dR 2 dX ef eh))] 96,.vec (.ae [.arr .u8 64] (cA ((4:Int)*8))) 138,.map (.arr .u8 64) (mI (cA ((4:Int)*8)) (ByteArray.mk #[(97:UInt8)]) (some (ByteArray.mk #[(50:UInt8)])) dS dR 2 dX ef eh)] (oV Tryd.f8 2 24) (.mk none false 0 [] 2))))))))):=by kernel_rfl
noncomputable def cF:Ws:=mL (cA ((4:Int)*(8:Int))) (ByteArray.mk #[(97:UInt8)]) (some (ByteArray.mk #[(50:UInt8)])) dS dR (2:Int) dX ef eh
noncomputable def cK:Ws:=mM (cA ((4:Int)*(8:Int))) (ByteArray.mk #[(97:UInt8)]) (some (ByteArray.mk #[(50:UInt8)])) dS dR (2:Int) dX ef eh
noncomputable def cM:Ws:=mN (cA ((4:Int)*(8:Int))) (ByteArray.mk #[(97:UInt8)]) (some (ByteArray.mk #[(50:UInt8)])) dS dR (2:Int) dX ef eh
noncomputable def cw:Int:=mJ (cA ((4:Int)*(8:Int))) (ByteArray.mk #[(97:UInt8)]) (some (ByteArray.mk #[(50:UInt8)])) dS dR (2:Int) dX ef eh
noncomputable def bI:As:=mI (cA ((4:Int)*(8:Int))) (ByteArray.mk #[(97:UInt8)]) (some (ByteArray.mk #[(50:UInt8)])) dS dR (2:Int) dX ef eh
noncomputable def atI:bA:=bA.mk (sl 63 [(0,.s (.bool false)),(2,.ptr 0 0),(29,.s (.bool false)),(30,.ptr 0 0)]) [.own [.ptr 1 0,.s (.int .i64 3),.ints .u64 16 cF,.ints .u64 16 cK,.ints .u64 16 cM] 70,.own [.vec 2,.ag 3,.s (.int .i64 cw)] 96,.vec (.ae [.arr .u8 64] (cA ((4:Int)*8))) 138,.map (.arr .u8 64) bI] (oV Tryd.f8 2 24) (.mk none false 0 [] 2)
theorem atJ:run (P) (lS.sum) (Tryd.f8) (tv) atI ([])=
 Tree.ite false (.ret [.own [.ptr 1 0,.s (.int .i64 3),.ints .u64 16 cF,.ints .u64 16 cK,.ints .u64 16 cM] 70,.own [.vec 2,.ag 3,.s (.int .i64 cw)] 96,.vec (.ae [.arr .u8 64] (cA ((4:Int)*8))) 138,.map (.arr .u8 64) bI] (.s (.aA false))) (.need (bt (some [AV.ptr 0 0])) (.need (bt (some [ad.own [.ptr 1 0,.s (.int .i64 3),.ints .u64 16 cF,.ints .u64 16 cK,.ints .u64 16 cM] 70,.own [.vec 2,.ag 3,.s (.int .i64 cw)] 96,.vec (.ae [.arr .u8 64] (cA ((4:Int)*8))) 138,.map (.arr .u8 64) bI])) (.ite false (.ret [.own [.ptr 1 0,.s (.int .i64 3),.ints .u64 16 cF,.ints .u64 16 cK,.ints .u64 16 cM] 70,.own [.vec 2,.ag 3,.s (.int .i64 cw)] 96,.vec (.ae [.arr .u8 64] (cA ((4:Int)*8))) 138,.map (.arr .u8 64) bI] (.s (.aA false))) (.at (.mk (sl 63 [(0,.s (.bool false)),(2,.ptr 0 0),(34,.s (.bool false)),(35,.ptr 0 0)]) [.own [.ptr 1 0,.s (.int .i64 3),.ints .u64 16 cF,.ints .u64 16 cK,.ints .u64 16 cM] 70,.own [.vec 2,.ag 3,.s (.int .i64 cw)] 96,.vec (.ae [.arr .u8 64] (cA ((4:Int)*8))) 138,.map (.arr .u8 64) bI] (oV Tryd.f8 2 29) (.mk none false 0 [] 2)))))):=by kernel_rfl
noncomputable def atL:bA:=bA.mk (sl 63 [(0,.s (.bool false)),(2,.ptr 0 0),(34,.s (.bool false)),(35,.ptr 0 0)]) [.own [.ptr 1 0,.s (.int .i64 3),.ints .u64 16 cF,.ints .u64 16 cK,.ints .u64 16 cM] 70,.own [.vec 2,.ag 3,.s (.int .i64 cw)] 96,.vec (.ae [.arr .u8 64] (cA ((4:Int)*8))) 138,.map (.arr .u8 64) bI] (oV Tryd.f8 2 29) (.mk none false 0 [] 2)
theorem atM:run (P) (lS.sum) (Tryd.f8) (tv) atL ([])=
 Tree.ite false (.ret [.own [.ptr 1 0,.s (.int .i64 3),.ints .u64 16 cF,.ints .u64 16 cK,.ints .u64 16 cM] 70,.own [.vec 2,.ag 3,.s (.int .i64 cw)] 96,.vec (.ae [.arr .u8 64] (cA ((4:Int)*8))) 138,.map (.arr .u8 64) bI] (.s (.aA false))) (.need (bt (some [AV.ptr 0 0])) (.need (bt (some [ad.own [.ptr 1 0,.s (.int .i64 3),.ints .u64 16 cF,.ints .u64 16 cK,.ints .u64 16 cM] 70,.own [.vec 2,.ag 3,.s (.int .i64 cw)] 96,.vec (.ae [.arr .u8 64] (cA ((4:Int)*8))) 138,.map (.arr .u8 64) bI])) (.ite false (.ret [.own [.ptr 1 0,.s (.int .i64 3),.ints .u64 16 cF,.ints .u64 16 cK,.ints .u64 16 cM] 70,.own [.vec 2,.ag 3,.s (.int .i64 cw)] 96,.vec (.ae [.arr .u8 64] (cA ((4:Int)*8))) 138,.map (.arr .u8 64) bI] (.s (.aA false))) (.at (.mk (sl 63 [(0,.s (.bool false)),(2,.ptr 0 0),(40,.s (.bool false)),(41,.ptr 0 0)]) [.own [.ptr 1 0,.s (.int .i64 3),.ints .u64 16 cF,.ints .u64 16 cK,.ints .u64 16 cM] 70,.own [.vec 2,.ag 3,.s (.int .i64 cw)] 96,.vec (.ae [.arr .u8 64] (cA ((4:Int)*8))) 138,.map (.arr .u8 64) bI] (oV Tryd.f8 2 35) (.mk none false 0 [] 2)))))):=by kernel_rfl
noncomputable def atN:bA:=bA.mk (sl 63 [(0,.s (.bool false)),(2,.ptr 0 0),(40,.s (.bool false)),(41,.ptr 0 0)]) [.own [.ptr 1 0,.s (.int .i64 3),.ints .u64 16 cF,.ints .u64 16 cK,.ints .u64 16 cM] 70,.own [.vec 2,.ag 3,.s (.int .i64 cw)] 96,.vec (.ae [.arr .u8 64] (cA ((4:Int)*8))) 138,.map (.arr .u8 64) bI] (oV Tryd.f8 2 35) (.mk none false 0 [] 2)
theorem atO:run (P) (lS.sum) (Tryd.f8) (tv) atN ([])=
 Tree.ite false (.ret [.own [.ptr 1 0,.s (.int .i64 3),.ints .u64 16 cF,.ints .u64 16 cK,.ints .u64 16 cM] 70,.own [.vec 2,.ag 3,.s (.int .i64 cw)] 96,.vec (.ae [.arr .u8 64] (cA ((4:Int)*8))) 138,.map (.arr .u8 64) bI] (.s (.aA false))) (.need (bt (some [AV.ptr 0 0])) (.need (bt (some [ad.own [.ptr 1 0,.s (.int .i64 3),.ints .u64 16 cF,.ints .u64 16 cK,.ints .u64 16 cM] 70,.own [.vec 2,.ag 3,.s (.int .i64 cw)] 96,.vec (.ae [.arr .u8 64] (cA ((4:Int)*8))) 138,.map (.arr .u8 64) bI])) (.ite false (.ret [.own [.ptr 1 0,.s (.int .i64 3),.ints .u64 16 cF,.ints .u64 16 cK,.ints .u64 16 cM] 70,.own [.vec 2,.ag 3,.s (.int .i64 cw)] 96,.vec (.ae [.arr .u8 64] (cA ((4:Int)*8))) 138,.map (.arr .u8 64) bI] (.s (.aA false))) (.at (.mk (sl 63 [(0,.s (.bool false)),(2,.ptr 0 0),(45,.s (.bool false)),(46,.ptr 0 0)]) [.own [.ptr 1 0,.s (.int .i64 3),.ints .u64 16 cF,.ints .u64 16 cK,.ints .u64 16 cM] 70,.own [.vec 2,.ag 3,.s (.int .i64 cw)] 96,.vec (.ae [.arr .u8 64] (cA ((4:Int)*8))) 138,.map (.arr .u8 64) bI] (oV Tryd.f8 2 40) (.mk none false 0 [] 2)))))):=by kernel_rfl
noncomputable def atP:bA:=bA.mk (sl 63 [(0,.s (.bool false)),(2,.ptr 0 0),(45,.s (.bool false)),(46,.ptr 0 0)]) [.own [.ptr 1 0,.s (.int .i64 3),.ints .u64 16 cF,.ints .u64 16 cK,.ints .u64 16 cM] 70,.own [.vec 2,.ag 3,.s (.int .i64 cw)] 96,.vec (.ae [.arr .u8 64] (cA ((4:Int)*8))) 138,.map (.arr .u8 64) bI] (oV Tryd.f8 2 40) (.mk none false 0 [] 2)
theorem atQ:run (P) (lS.sum) (Tryd.f8) (tv) atP ([])=
 Tree.ite false (.ret [.own [.ptr 1 0,.s (.int .i64 3),.ints .u64 16 cF,.ints .u64 16 cK,.ints .u64 16 cM] 70,.own [.vec 2,.ag 3,.s (.int .i64 cw)] 96,.vec (.ae [.arr .u8 64] (cA ((4:Int)*8))) 138,.map (.arr .u8 64) bI] (.s (.aA false))) (.need (bt (some [AV.ptr 0 0,.s (.str (ByteArray.mk #[(97:UInt8)])),.s (.str (ByteArray.mk #[(50:UInt8)]))])) (.need (bt (some [ad.own [.ptr 1 0,.s (.int .i64 3),.ints .u64 16 cF,.ints .u64 16 cK,.ints .u64 16 cM] 70,.own [.vec 2,.ag 3,.s (.int .i64 cw)] 96,.vec (.ae [.arr .u8 64] (cA ((4:Int)*8))) 138,.map (.arr .u8 64) bI])) (.need (Ds.bH (cA ((4:Int)*8)) bI cw) (.need ((0:Int)≤3∧(3:Int)≤65536) (.ite false (.ret [.own [.ptr 1 0,.s (.int .i64 3),.ints .u64 16 cF,.ints .u64 16 cK,.ints .u64 16 cM] 70,.own [.vec 2,.ag 3,.s (.int .i64 cw)] 96,.vec (.ae [.arr .u8 64] (cA ((4:Int)*8))) 138,.map (.arr .u8 64) bI] (.s (.aA false))) (.at (.mk (sl 63 [(0,.s (.bool false)),(2,.ptr 0 0),(50,.s (.bool false)),(51,.ptr 0 0)]) [.own [.ptr 1 0,.s (.int .i64 3),.ints .u64 16 cF,.ints .u64 16 cK,.ints .u64 16 cM] 70,.own [.vec 2,.ag 3,.s (.int .i64 cw)] 96,.vec (.ae [.arr .u8 64] (cA ((4:Int)*8))) 138,.map (.arr .u8 64) bI] (oV Tryd.f8 2 45) (.mk none false 0 [] 2)))))))):=by kernel_rfl
noncomputable def atS:bA:=bA.mk (sl 63 [(0,.s (.bool false)),(2,.ptr 0 0),(50,.s (.bool false)),(51,.ptr 0 0)]) [.own [.ptr 1 0,.s (.int .i64 3),.ints .u64 16 cF,.ints .u64 16 cK,.ints .u64 16 cM] 70,.own [.vec 2,.ag 3,.s (.int .i64 cw)] 96,.vec (.ae [.arr .u8 64] (cA ((4:Int)*8))) 138,.map (.arr .u8 64) bI] (oV Tryd.f8 2 45) (.mk none false 0 [] 2)
theorem atT:run (P) (lS.sum) (Tryd.f8) (tv) atS ([])=
 Tree.ite false (.ret [.own [.ptr 1 0,.s (.int .i64 3),.ints .u64 16 cF,.ints .u64 16 cK,.ints .u64 16 cM] 70,.own [.vec 2,.ag 3,.s (.int .i64 cw)] 96,.vec (.ae [.arr .u8 64] (cA ((4:Int)*8))) 138,.map (.arr .u8 64) bI] (.s (.aA false))) (.need (bt (some [AV.ptr 0 0,.s (.str (ByteArray.mk #[(97:UInt8)]))])) (.need (bt (some [ad.own [.ptr 1 0,.s (.int .i64 3),.ints .u64 16 cF,.ints .u64 16 cK,.ints .u64 16 cM] 70,.own [.vec 2,.ag 3,.s (.int .i64 cw)] 96,.vec (.ae [.arr .u8 64] (cA ((4:Int)*8))) 138,.map (.arr .u8 64) bI])) (.need (Ds.bH (cA ((4:Int)*8)) bI cw) (.need (Bx.okW cF) (.need ((0:Int)≤3∧(3:Int)≤65536) (.ite false (.ret [.own [.ptr 1 0,.s (.int .i64 0),.ints .u64 16 (mL (cA ((4:Int)*8)) (ByteArray.mk #[(97:UInt8)]) none bI cw 3 cF cK cM),.ints .u64 16 (mM (cA ((4:Int)*8)) (ByteArray.mk #[(97:UInt8)]) none bI cw 3 cF cK cM),.ints .u64 16 (mN (cA ((4:Int)*8)) (ByteArray.mk #[(97:UInt8)]) none bI cw 3 cF cK cM)] 70,.own [.vec 2,.ag 3,.s (.int .i64 (mJ (cA ((4:Int)*8)) (ByteArray.mk #[(97:UInt8)]) none bI cw 3 cF cK cM))] 96,.vec (.ae [.arr .u8 64] (cA ((4:Int)*8))) 138,.map (.arr .u8 64) (mI (cA ((4:Int)*8)) (ByteArray.mk #[(97:UInt8)]) none bI cw 3 cF cK cM)] (.s (.aA false))) (.at (.mk (sl 63 [(0,.s (.bool false)),(2,.ptr 0 0),(55,.s (.bool false)),(56,.ptr 0 0)]) [.own [.ptr 1 0,.s (.int .i64 0),.ints .u64 16 (mL (cA ((4:Int)*8)) (ByteArray.mk #[(97:UInt8)]) none bI cw 3 cF cK cM),.ints .u64 16 (mM (cA ((4:Int)*8)) (ByteArray.mk #[(97:UInt8)]) none bI cw 3 cF cK cM),.ints .u64 16 (mN (cA ((4:Int)*8)) (ByteArray.mk #[(97:UInt8)]) none bI cw 3 cF cK cM)] 70,.own [.vec 2,.ag 3,.s (.int .i64 (mJ (cA ((4:Int)*8)) (ByteArray.mk #[(97:UInt8)]) none bI cw 3 cF cK cM))] 96,.vec (.ae [.arr .u8 64] (cA ((4:Int)*8))) 138,.map (.arr .u8 64) (mI (cA ((4:Int)*8)) (ByteArray.mk #[(97:UInt8)]) none bI cw 3 cF cK cM)] (oV Tryd.f8 2 50) (.mk none false 0 [] 2))))))))):=by kernel_rfl
noncomputable def iF:Ws:=mL (cA ((4:Int)*(8:Int))) (ByteArray.mk #[(97:UInt8)]) none bI cw (3:Int) cF cK cM
noncomputable def jm:Ws:=mM (cA ((4:Int)*(8:Int))) (ByteArray.mk #[(97:UInt8)]) none bI cw (3:Int) cF cK cM
noncomputable def jo:Ws:=mN (cA ((4:Int)*(8:Int))) (ByteArray.mk #[(97:UInt8)]) none bI cw (3:Int) cF cK cM
noncomputable def iG:Int:=mJ (cA ((4:Int)*(8:Int))) (ByteArray.mk #[(97:UInt8)]) none bI cw (3:Int) cF cK cM
noncomputable def iH:As:=mI (cA ((4:Int)*(8:Int))) (ByteArray.mk #[(97:UInt8)]) none bI cw (3:Int) cF cK cM
noncomputable def aq7:bA:=bA.mk (sl 63 [(0,.s (.bool false)),(2,.ptr 0 0),(55,.s (.bool false)),(56,.ptr 0 0)]) [.own [.ptr 1 0,.s (.int .i64 0),.ints .u64 16 iF,.ints .u64 16 jm,.ints .u64 16 jo] 70,.own [.vec 2,.ag 3,.s (.int .i64 iG)] 96,.vec (.ae [.arr .u8 64] (cA ((4:Int)*8))) 138,.map (.arr .u8 64) iH] (oV Tryd.f8 2 50) (.mk none false 0 [] 2)
theorem aq8:run (P) (lS.sum) (Tryd.f8) (tv) aq7 ([])=
 Tree.ite false (.ret [.own [.ptr 1 0,.s (.int .i64 0),.ints .u64 16 iF,.ints .u64 16 jm,.ints .u64 16 jo] 70,.own [.vec 2,.ag 3,.s (.int .i64 iG)] 96,.vec (.ae [.arr .u8 64] (cA ((4:Int)*8))) 138,.map (.arr .u8 64) iH] (.s (.aA false))) (.need (bt (some [AV.ptr 0 0])) (.need (bt (some [ad.own [.ptr 1 0,.s (.int .i64 0),.ints .u64 16 iF,.ints .u64 16 jm,.ints .u64 16 jo] 70,.own [.vec 2,.ag 3,.s (.int .i64 iG)] 96,.vec (.ae [.arr .u8 64] (cA ((4:Int)*8))) 138,.map (.arr .u8 64) iH])) (.ite false (.ret [.own [.ptr 1 0,.s (.int .i64 0),.ints .u64 16 iF,.ints .u64 16 jm,.ints .u64 16 jo] 70,.own [.vec 2,.ag 3,.s (.int .i64 iG)] 96,.vec (.ae [.arr .u8 64] (cA ((4:Int)*8))) 138,.map (.arr .u8 64) iH] (.s (.aA false))) (.at (.mk (sl 63 [(0,.s (.bool false)),(60,.ptr 0 0)]) [.own [.ptr 1 0,.s (.int .i64 0),.ints .u64 16 iF,.ints .u64 16 jm,.ints .u64 16 jo] 70,.own [.vec 2,.ag 3,.s (.int .i64 iG)] 96,.vec (.ae [.arr .u8 64] (cA ((4:Int)*8))) 138,.map (.arr .u8 64) iH] (oV Tryd.f8 4 1) (.mk none false 0 [] 4)))))):=by kernel_rfl
noncomputable def aq9:bA:=bA.mk (sl 63 [(0,.s (.bool false)),(60,.ptr 0 0)]) [.own [.ptr 1 0,.s (.int .i64 0),.ints .u64 16 iF,.ints .u64 16 jm,.ints .u64 16 jo] 70,.own [.vec 2,.ag 3,.s (.int .i64 iG)] 96,.vec (.ae [.arr .u8 64] (cA ((4:Int)*8))) 138,.map (.arr .u8 64) iH] (oV Tryd.f8 4 1) (.mk none false 0 [] 4)
theorem ara:run (P) (lS.sum) (Tryd.f8) (tv) aq9 ([])=
 Tree.need (bt (some [AV.ptr 0 0,.s (.str ByteArray.empty),.s (.str (ByteArray.mk #[(120:UInt8)]))])) (.need (bt (some [ad.own [.ptr 1 0,.s (.int .i64 0),.ints .u64 16 iF,.ints .u64 16 jm,.ints .u64 16 jo] 70,.own [.vec 2,.ag 3,.s (.int .i64 iG)] 96,.vec (.ae [.arr .u8 64] (cA ((4:Int)*8))) 138,.map (.arr .u8 64) iH])) (.need (Ds.bH (cA ((4:Int)*8)) iH iG) (.need (Bx.okW iF) (.need ((0:Int)≤0∧(0:Int)≤65536) (.ret [.own [.ptr 1 0,.s (.int .i64 0),.ints .u64 16 (mL (cA ((4:Int)*8)) ByteArray.empty (some (ByteArray.mk #[(120:UInt8)])) iH iG 0 iF jm jo),.ints .u64 16 (mM (cA ((4:Int)*8)) ByteArray.empty (some (ByteArray.mk #[(120:UInt8)])) iH iG 0 iF jm jo),.ints .u64 16 (mN (cA ((4:Int)*8)) ByteArray.empty (some (ByteArray.mk #[(120:UInt8)])) iH iG 0 iF jm jo)] 70,.own [.vec 2,.ag 3,.s (.int .i64 (mJ (cA ((4:Int)*8)) ByteArray.empty (some (ByteArray.mk #[(120:UInt8)])) iH iG 0 iF jm jo))] 96,.vec (.ae [.arr .u8 64] (cA ((4:Int)*8))) 138,.map (.arr .u8 64) (mI (cA ((4:Int)*8)) ByteArray.empty (some (ByteArray.mk #[(120:UInt8)])) iH iG 0 iF jm jo)] (.s (.bool true))))))):=by kernel_rfl
def atU(ws:Ws):Bool:=ws.length.beq 16&&ws.all fun w=>decide (0≤w)&&decide (w<18446744073709551616)
theorem fA{ws:Ws}(h:atU ws=true):Bx.okW ws:=by
 simp only[atU,Bool.and_eq_true,List.all_eq_true,decide_eq_true_eq]at h;exact⟨Nat.eq_of_beq_eq_true h.1,fun w hw=>h.2 w hw⟩
theorem eY:lS.Ok P Bx.bV:=aE.Ok.cons (afK.sum mMd) (aE.Ok.cons (ta.sum mPt) (aE.Ok.cons (tc.sum mGt) (aE.Ok.cons (te.sum mHs) (aE.Ok.cons (afI.sum mT) (aE.Ok.cons (afJ.sum mT) (aE.Ok.cons Bx.vS.sum aE.Ok.nil))))))
theorem akD:dr P Bx.bV 8 [] [cX] (fun _=>[]) (fun _=>(true,())):=by
 refine au Tryd.func8 (by kernel_rfl) (by kernel_rfl) ?_;rintro⟨⟩ _ _ X hX hz;show Safe P 8 X (Ends [cX] (true,())) _;refine Lf.go hz hX eY Tryd.func8 atz ?_;refine iZ ?_;refine iZ ?_;refine eU (by first|exact Ds.fy (by kernel_rfl)|exact fA (by kernel_rfl)|decide|exact⟨by decide,by decide⟩) ?_;refine rP ?_;refine Lf.go hz hX eY Tryd.func8 atB ?_;refine kr ?_;refine iZ ?_;refine iZ ?_;refine eU (by first|exact Ds.fy (by kernel_rfl)|exact fA (by kernel_rfl)|decide|exact⟨by decide,by decide⟩) ?_;refine eU (by first|exact Ds.fy (by kernel_rfl)|exact fA (by kernel_rfl)|decide|exact⟨by decide,by decide⟩) ?_;refine eU (by first|exact Ds.fy (by kernel_rfl)|exact fA (by kernel_rfl)|decide|exact⟨by decide,by decide⟩) ?_;refine kr ?_;refine rP ?_;refine Lf.go hz hX eY Tryd.func8 atD ?_;refine kr ?_;refine iZ ?_;refine iZ ?_;refine kr ?_;refine rP ?_;refine Lf.go hz hX eY Tryd.func8 atF ?_;refine kr ?_;refine iZ ?_;refine iZ ?_;refine eU (by first|exact Ds.fy (by kernel_rfl)|exact fA (by kernel_rfl)|decide|exact⟨by decide,by decide⟩) ?_;refine eU (by first|exact Ds.fy (by kernel_rfl)|exact fA (by kernel_rfl)|decide|exact⟨by decide,by decide⟩) ?_;refine kr ?_;refine rP ?_;refine Lf.go hz hX eY Tryd.func8 atH ?_;refine kr ?_;refine iZ ?_;refine iZ ?_;refine eU (by first|exact Ds.fy (by kernel_rfl)|exact fA (by kernel_rfl)|decide|exact⟨by decide,by decide⟩) ?_;refine eU (by first|exact Ds.fy (by kernel_rfl)|exact fA (by kernel_rfl)|decide|exact⟨by decide,by decide⟩) ?_;refine eU (by first|exact Ds.fy (by kernel_rfl)|exact fA (by kernel_rfl)|decide|exact⟨by decide,by decide⟩) ?_;refine kr ?_;refine rP ?_;refine Lf.go hz hX eY Tryd.func8 atJ ?_;refine kr ?_;refine iZ ?_;refine iZ ?_;refine kr ?_;refine rP ?_;refine Lf.go hz hX eY Tryd.func8 atM ?_;refine kr ?_;refine iZ ?_;refine iZ ?_;refine kr ?_;refine rP ?_;refine Lf.go hz hX eY Tryd.func8 atO ?_;refine kr ?_;refine iZ ?_;refine iZ ?_;refine kr ?_;refine rP ?_;refine Lf.go hz hX eY Tryd.func8 atQ ?_;refine kr ?_;refine iZ ?_;refine iZ ?_;refine eU (by first|exact Ds.fy (by kernel_rfl)|exact fA (by kernel_rfl)|decide|exact⟨by decide,by decide⟩) ?_;refine eU (by first|exact Ds.fy (by kernel_rfl)|exact fA (by kernel_rfl)|decide|exact⟨by decide,by decide⟩) ?_;refine kr ?_;refine rP ?_;refine Lf.go hz hX eY Tryd.func8 atT ?_;refine kr ?_;refine iZ ?_;refine iZ ?_;refine eU (by first|exact Ds.fy (by kernel_rfl)|exact fA (by kernel_rfl)|decide|exact⟨by decide,by decide⟩) ?_;refine eU (by first|exact Ds.fy (by kernel_rfl)|exact fA (by kernel_rfl)|decide|exact⟨by decide,by decide⟩) ?_;refine eU (by first|exact Ds.fy (by kernel_rfl)|exact fA (by kernel_rfl)|decide|exact⟨by decide,by decide⟩) ?_;refine kr ?_;refine rP ?_;refine Lf.go hz hX eY Tryd.func8 aq8 ?_;refine kr ?_;refine iZ ?_;refine iZ ?_;refine kr ?_;refine rP ?_;refine Lf.go hz hX eY Tryd.func8 ara ?_;refine iZ ?_;refine iZ ?_;refine eU (by first|exact Ds.fy (by kernel_rfl)|exact fA (by kernel_rfl)|decide|exact⟨by decide,by decide⟩) ?_;refine eU (by first|exact Ds.fy (by kernel_rfl)|exact fA (by kernel_rfl)|decide|exact⟨by decide,by decide⟩) ?_;refine eU (by first|exact Ds.fy (by kernel_rfl)|exact fA (by kernel_rfl)|decide|exact⟨by decide,by decide⟩) ?_;refine aiL ?_;exact aS (true,()) rfl (by kernel_rfl)
abbrev avP:=bZ [] [cX] (fun _=>[]) (fun _=>(true,()))
end Ts
namespace Ts
open Go Go.Sx Go.Proofs Lf
end Ts
namespace Ts
open Go Go.Sx Go.Proofs Lf
def sS(th:Th)(s:S5)(l:Bool)(es:List En)(bs:List Br):S5:=
 ⟨(bp th s.m s.fu s.fr s.fs l es bs).1,(bp th s.m s.fu s.fr s.fs l es bs).2.1,(bp th s.m s.fu s.fr s.fs l es bs).2.2.1,(bp th s.m s.fu s.fr s.fs l es bs).2.2.2.1,s.gn⟩
def sL(th:Th)(s:S5)(l:Bool)(es:List En)(bs:List Br):List Br:=(bp th s.m s.fu s.fr s.fs l es bs).2.2.2.2.1
def sE(th:Th)(s:S5)(l:Bool)(es:List En)(bs:List Br):Int:=(bp th s.m s.fu s.fr s.fs l es bs).2.2.2.2.2
def Bad(th:Th)(s t:S5)(k:Nat)(e:Int):Prop:=∃N,qZ th s t N []∧N.length≤k∧((e=41∧∀p,In s.fr p→p∈N)∨(e=42∧t.fu=0))
theorem nS(bs:List Br):aa (aa bs)=aa bs:=by cases bs<;>rfl
theorem ad7{bs:List Br}{k:Nat}(h:aa bs=bs):aa (bs.take k)=bs.take k:=by
 cases bs with
 |nil=>simp[aa]
 |cons b r=>
  cases k with
  |zero=>rfl
  |succ k=>
   simp only[aa,List.cons.injEq]at h;simp[aa,h.1]
theorem aao{th:Th}{s:S5}{l:Bool}{es:List En}{bs:List Br}(ho:xR th s)(hm:da l es (aa bs)=true)(hz:bk es (aa bs)≤254):
 (wE th s l es bs=0∧∃n,qZ th s (wS th s l es bs) [n] []∧wB th s l es bs=(cW l es bs,n,())∧Rd th (wS th s l es bs).m n l es (aa bs))∨(wE th s l es bs≠0∧Bad th s (wS th s l es bs) 0 (wE th s l es bs)):=by
 rcases aqX ho hm hz with h|⟨h1,h2,h3⟩|⟨h1,h2,h3⟩
 ·exact .inl h
 ·exact .inr ⟨by rw[h1];decide,[],by rw[h2];exact hY ho,Nat.le_refl _,.inl ⟨h1,fun p hp=>absurd hp (h3 p)⟩⟩
 ·exact .inr ⟨by rw[h1];decide,[],h2,Nat.le_refl _,.inr ⟨h1,h3⟩⟩
theorem afL{th:Th}{s:S5}{l:Bool}{es:List En}{bs:List Br}(ho:xR th s)(h:es.length+bs.length=0):sE th s l es bs=0∧sL th s l es bs=[]∧qZ th s (sS th s l es bs) [] []:=by
 have e:bp th s.m s.fu s.fr s.fs l es bs=(s.m,s.fu,s.fr,s.fs,[],0):=by unfold bp;rw[if_pos h]
 refine⟨by unfold sE;rw[e],by unfold sL;rw[e], ?_⟩;have:sS th s l es bs=s:=by unfold sS;rw[e]
 rw[this];exact hY ho
theorem akE{th:Th}{s:S5}{l:Bool}{es:List En}{bs:List Br}(ho:xR th s)(h:0<es.length+bs.length)(hm:da l es (aa bs)=true)(hz:bk es (aa bs)≤254):
 (sE th s l es bs=0∧∃n,qZ th s (sS th s l es bs) [n] []∧sL th s l es bs=[(cW l es (aa bs),n,())]∧Rd th (sS th s l es bs).m n l es (aa bs))∨(sE th s l es bs≠0∧Bad th s (sS th s l es bs) 1 (sE th s l es bs)):=by
 have e1:sE th s l es bs=wE th s l es (aa bs):=by unfold sE wE bp;rw[if_neg (by omega),if_pos hz]
 have e2:sS th s l es bs=wS th s l es (aa bs):=by unfold sS wS bp;rw[if_neg (by omega),if_pos hz]
 have e3:sL th s l es bs=[wB th s l es (aa bs)]:=by unfold sL wB bp;rw[if_neg (by omega),if_pos hz]
 rw[e1,e2,e3];have:=aao (bs:=aa bs) ho (by rw[nS];exact hm) (by rw[nS];exact hz);rw[nS]at this;rcases this with⟨a,n,b,c,d⟩|⟨a,N,b,c,d⟩
 ·exact .inl ⟨a,n,b,by rw[c],d⟩
 ·exact .inr ⟨a,N,b,Nat.le_succ_of_le c,d⟩
theorem akF{th:Th}{s:S5}{l:Bool}{es:List En}{bs:List Br}(ho:xR th s)(h:0<es.length+bs.length)(hz:¬bk es (aa bs)≤254)(ok:dD l es (aa bs)=true)
 (z1:bk (ba l es (aa bs)) (aa (bg l es (aa bs)))≤254) (z2:bk (cQ l es (aa bs)) (aa (cY l es (aa bs)))≤254)
 (m1:da (bT l es (aa bs)) (ba l es (aa bs)) (aa (bg l es (aa bs)))=true) (m2:da (bT l es (aa bs)) (cQ l es (aa bs)) (aa (cY l es (aa bs)))=true):
 (sE th s l es bs=0∧∃a b,qZ th s (sS th s l es bs) [a,b] []∧sL th s l es bs=[(cW (bT l es (aa bs)) (ba l es (aa bs)) (bg l es (aa bs)),a,()),(cW (bT l es (aa bs)) (cQ l es (aa bs)) (cY l es (aa bs)),b,())]∧
   Rd th (sS th s l es bs).m a (bT l es (aa bs)) (ba l es (aa bs)) (aa (bg l es (aa bs)))∧Rd th (sS th s l es bs).m b (bT l es (aa bs)) (cQ l es (aa bs)) (aa (cY l es (aa bs))))∨(sE th s l es bs≠0∧Bad th s (sS th s l es bs) 1 (sE th s l es bs)):=by
 have zF:¬spC l es (aa bs)≠0:=by unfold spC;rw[if_pos ok];simp
 have ed:bp th s.m s.fu s.fr s.fs l es bs=if wE th s (bT l es (aa bs)) (ba l es (aa bs)) (bg l es (aa bs))≠0 then
  ((wS th s (bT l es (aa bs)) (ba l es (aa bs)) (bg l es (aa bs))).m,(wS th s (bT l es (aa bs)) (ba l es (aa bs)) (bg l es (aa bs))).fu,(wS th s (bT l es (aa bs)) (ba l es (aa bs)) (bg l es (aa bs))).fr,(wS th s (bT l es (aa bs)) (ba l es (aa bs)) (bg l es (aa bs))).fs,[],wE th s (bT l es (aa bs)) (ba l es (aa bs)) (bg l es (aa bs)))
  else((wS th (wS th s (bT l es (aa bs)) (ba l es (aa bs)) (bg l es (aa bs))) (bT l es (aa bs)) (cQ l es (aa bs)) (cY l es (aa bs))).m,(wS th (wS th s (bT l es (aa bs)) (ba l es (aa bs)) (bg l es (aa bs))) (bT l es (aa bs)) (cQ l es (aa bs)) (cY l es (aa bs))).fu,
   (wS th (wS th s (bT l es (aa bs)) (ba l es (aa bs)) (bg l es (aa bs))) (bT l es (aa bs)) (cQ l es (aa bs)) (cY l es (aa bs))).fr,(wS th (wS th s (bT l es (aa bs)) (ba l es (aa bs)) (bg l es (aa bs))) (bT l es (aa bs)) (cQ l es (aa bs)) (cY l es (aa bs))).fs,
   [wB th s (bT l es (aa bs)) (ba l es (aa bs)) (bg l es (aa bs)),wB th (wS th s (bT l es (aa bs)) (ba l es (aa bs)) (bg l es (aa bs))) (bT l es (aa bs)) (cQ l es (aa bs)) (cY l es (aa bs))],wE th (wS th s (bT l es (aa bs)) (ba l es (aa bs)) (bg l es (aa bs))) (bT l es (aa bs)) (cQ l es (aa bs)) (cY l es (aa bs))):=by
  unfold bp;rw[if_neg (by omega),if_neg hz,if_neg zF];rfl
 generalize bT l es (aa bs)=L at *;generalize ba l es (aa bs)=E1 at *;generalize cQ l es (aa bs)=E2 at *;generalize bg l es (aa bs)=B1 at *;generalize cY l es (aa bs)=B2 at *;rcases aao ho m1 z1 with⟨a,n,b,c,d⟩|⟨a,N,b,c,d⟩
 ·rw[if_neg (by rw[a];simp)]at ed;have ho2:=b.ok;have e2:sS th s l es bs=wS th (wS th s L E1 B1) L E2 B2:=by unfold sS;rw[ed];rfl
  have e3:sL th s l es bs=[wB th s L E1 B1,wB th (wS th s L E1 B1) L E2 B2]:=by unfold sL;rw[ed]
  have e4:sE th s l es bs=wE th (wS th s L E1 B1) L E2 B2:=by unfold sE;rw[ed]
  rw[e2,e3,e4];rcases aao ho2 m2 z2 with⟨a2,n2,b2,c2,d2⟩|⟨a2,N2,b2,c2,d2⟩
  ·refine .inl ⟨a2,n,n2,e8 b b2 (fun p hp=>by cases hp),by rw[c,c2], ?_,d2⟩;exact Rd.same d (b2.rd n (fun hh=>((b.fr n).1 hh).2 List.mem_cons_self))
  ·refine .inr ⟨a2,[n]++N2,e8 b b2 (fun p hp=>by cases hp),by rw[List.length_append,List.length_singleton];omega,d2.imp (fun h=>⟨h.1,fun p hp=> ?_⟩) id⟩;by_cases hpn:p∈[n]
   ·exact List.mem_append_left _ hpn
   ·exact List.mem_append_right _ (h.2 p ((b.fr p).2 ⟨hp,hpn⟩))
 ·rw[if_pos a]at ed;have e2:sS th s l es bs=wS th s L E1 B1:=by unfold sS;rw[ed];rfl
  have e4:sE th s l es bs=wE th s L E1 B1:=by unfold sE;rw[ed]
  rw[e2,e4];exact .inr ⟨a,N,b,Nat.le_succ_of_le c,d⟩
end Ts
namespace Ts
open Go Go.Sx Go.Proofs Lf
structure For (th:Th) (m:As) (h:Nat) (F:List (Kd h)):Prop where
 bare:bU F=F
 rep:∀k∈F,rep th m h k.2
 ok:∀k∈F,mH h k.2
 sep:aag h F
 key:∀k∈F,k.1.size≤24
 pg:∀k∈F,2≤pg h k.2∧pg h k.2<1024
theorem afM{th:Th}{m:As}{h:Nat}:For th m h []:=⟨rfl,fun k hk=>(by cases hk),fun k hk=>(by cases hk),⟨List.Pairwise.nil,fun k hk=>(by cases hk)⟩,fun k hk=>(by cases hk),fun k hk=>(by cases hk)⟩
theorem afN{th:Th}{m:As}{h:Nat}{t:TN h}(h1:rep th m h t)(h2:mH h t)(h3:2≤pg h t∧pg h t<1024):For th m h [(ByteArray.empty,t)]:=
 ⟨rfl,fun k hk=>by rw[List.mem_singleton.1 hk];exact h1,fun k hk=>by rw[List.mem_singleton.1 hk];exact h2,⟨List.pairwise_singleton _ _,fun k hk e _=>by rw[List.mem_singleton.1 hk];exact gG _⟩,
   fun k hk=>by rw[List.mem_singleton.1 hk];exact Nat.zero_le _,fun k hk=>by rw[List.mem_singleton.1 hk];exact h3⟩
theorem afO{th:Th}{m:As}{h:Nat}{t u:TN h}{s:ByteArray}(h1:rep th m h t)(h2:mH h t)(h3:2≤pg h t∧pg h t<1024)(g1:rep th m h u)(g2:mH h u)(g3:2≤pg h u∧pg h u<1024)
 (hs:s.size≤24) (a:∀e∈dz h t,slt e.1 s=true) (b:∀e∈dz h u,slt e.1 s=false):For th m h [(ByteArray.empty,t),(s,u)]:=by
 have two:∀{p:Kd h→Prop},p (ByteArray.empty,t)→p (s,u)→∀k∈[((ByteArray.empty,t):Kd h),(s,u)],p k:=fun hp hq k hk=>by
  rcases List.mem_cons.1 hk with rfl|hk
  ·exact hp
  ·rw[List.mem_singleton.1 hk];exact hq
 refine⟨rfl,two h1 g1,two h2 g2,⟨?_,two (p:=fun k=>∀e∈dz h k.2,slt e.1 k.1=false) (fun e _=>gG _) b⟩,two (Nat.zero_le _) hs,two h3 g3⟩;rw[List.pairwise_cons];exact⟨fun k hk e he=>by rw[List.mem_singleton.1 hk];exact a e he,List.pairwise_singleton _ _⟩
theorem For.same{th:Th}{s t:S5}{N V:List Int}(e:qZ th s t N V){h:Nat}{F:List (Kd h)}(f:For th s.m h F)(hp:∀p∈bP h F,¬In s.fr p):For th t.m h F:=
 ⟨f.bare,fun k hk=>e.rep h (f.rep k hk) fun p kc=>hp p (List.mem_flatMap.2 ⟨k,hk,kc⟩),f.ok,f.sep,f.key,f.pg⟩
theorem sn{th:Th}{s:S5}(ho:xR th s){n:Int}(h:In s.fr n):2≤n∧n<1024:=⟨(ho.pg n h).1,(nM ho.fr h).2⟩
theorem anm{th:Th}{s:S5}{es:List En}(ho:xR th s)(jd:jE es=true)(zF:¬bk es []≤254→dD true es []=true∧bk (ba true es []) []≤254∧bk (cQ true es []) []≤254∧
 ∃k,0<k∧k<es.length∧ba true es []=es.take k∧cQ true es []=es.drop k∧bg true es []=[]∧cY true es []=[]∧bT true es []=true):
 (sE th s true es []=0∧∃(N:List Int) (k0:ByteArray) (F:List (Kd 0)),qZ th s (sS th s true es []) N []∧N.length≤2∧sL th s true es []=kT k0 (F.map (cO 0))∧For th (sS th s true es []).m 0 F∧bJ 0 F=es∧bP 0 F=N∧F.length≤2∧(bk es []≤254→F.length≤1))∨
 (sE th s true es []≠0∧Bad th s (sS th s true es []) 1 (sE th s true es [])):=by
 have hm:=as6 jd;by_cases h0:es.length=0
 ·obtain⟨a,b,c⟩:=afL (l:=true) (es:=es) (bs:=[]) ho (by rw[h0];rfl);obtain rfl:es=[]:=List.eq_nil_of_length_eq_zero h0;exact .inl ⟨a,[],ByteArray.empty,[],c,Nat.zero_le _,b,afM,rfl,rfl,Nat.zero_le _,fun _=>Nat.zero_le _⟩
 by_cases hz:bk es []≤254
 ·rcases akE (l:=true) (es:=es) (bs:=[]) ho (by simp only[List.length_nil];omega) hm hz with⟨a,n,b,c,d⟩|h
  ·refine .inl ⟨a,[n],cW true es [],[(ByteArray.empty,(n,es))],b,by simp,c,afN d ⟨fun e=>h0 (by show es.length=0;rw[show es=[]from e];rfl),jd,hz⟩ (sn ho (b.sub n List.mem_cons_self)), ?_,rfl,by simp,fun _=>by simp⟩;show es++[]=es;rw[List.append_nil]
  ·exact .inr h
 ·obtain⟨ok,z1,z2,k,k0,k1,e1,e2,e3,e4,e5⟩:=zF hz;have bn:aa ([]:List Br)=[]:=rfl;have hmt:=abX hm k;have hmd:=abY hm k;rw[List.take_nil]at hmt;rw[List.drop_nil]at hmd;have key:=akF (l:=true) (es:=es) (bs:=[]) ho (by simp only[List.length_nil];omega) hz ok (by rw[bn,e3];exact z1) (by rw[bn,e4];exact z2) (by rw[bn,e3,e1,e5];exact hmt) (by rw[bn,e4,e2,e5];exact hmd);rw[bn,e1,e2,e3,e4,e5]at key;rw[e1]at z1;rw[e2]at z2;rcases key with⟨a,n,n2,b,c,d1,d2⟩|h
  ·obtain⟨m1,m2⟩:=wg.1 jd;have avQ:es.drop k≠[]:=fun e=>by have:=congrArg List.length e;rw[List.length_drop,List.length_nil]at this;omega
   have arb:es.take k≠[]:=fun e=>by have:=congrArg List.length e;rw[List.length_take,List.length_nil]at this;omega
   have hk:cW true (es.drop k) []=(es.getD k dE).1:=by
    unfold cW;rw[if_pos rfl,kb,Nat.add_zero]
   have zx:es.getD k dE=es[k]:=bm k1
   have low:∀i,i<k→slt (es.getD i dE).1 (es.getD k dE).1=true:=fun i hi=>by
    have:=m2 i k hi (by simpa using k1);rw[cC es pI dE i,cC es pI dE k]at this;exact this
   have high:∀i,k≤i→i<es.length→slt (es.getD i dE).1 (es.getD k dE).1=false:=fun i hi hl=>by
    by_cases e:i=k
    ·rw[e];exact dM _
    ·have:=m2 k i (by omega) (by simpa using hl);rw[cC es pI dE i,cC es pI dE k]at this;exact om this
   refine .inl ⟨a,[n,n2],cW true (es.take k) [],[(ByteArray.empty,(n,es.take k)),(cW true (es.drop k) [],(n2,es.drop k))],b,by simp,c, ?_, ?_,rfl,by simp,fun h=>absurd h hz⟩
   ·refine afO (h:=0) d1 ⟨arb,yn jd k,z1⟩ (sn ho (b.sub n List.mem_cons_self)) d2 ⟨avQ,yp jd k,z2⟩ (sn ho (b.sub n2 (List.mem_cons_of_mem _ List.mem_cons_self))) ?_ (fun e he=> ?_) (fun e he=> ?_)
    ·rw[hk,zx];exact(m1 _ (List.getElem_mem k1)).2.1
    ·obtain⟨i,hi,rfl⟩:=List.getElem_of_mem (show e∈es.take k from he);rw[List.length_take]at hi;rw[hk,List.getElem_take];have:=low i (by omega);rw[bm (by omega)]at this;exact this
    ·obtain⟨i,hi,rfl⟩:=List.getElem_of_mem (show e∈es.drop k from he);rw[List.length_drop]at hi;rw[hk,List.getElem_drop];have:=high (k+i) (by omega) (by omega);rw[bm (by omega)]at this;exact this
   ·show es.take k++(es.drop k++[])=es;rw[List.append_nil,List.take_append_drop]
  ·exact .inr h
theorem afP{th:Th}{s:S5}{h:Nat}{Q:List (Kd h)}{bs:List Br}(ho:xR th s)(hb:aa bs=Q.map (cO h))(hQ:Q≠[])(f:For th s.m h Q)(hp:∀p∈bP h Q,¬In s.fr p)(jd:gm (Q.map (cO h))=true)(bK:lU h Q≤281):
 (sE th s false [] bs=0∧∃(N:List Int) (k0:ByteArray) (F:List (Kd (h+1))),qZ th s (sS th s false [] bs) N []∧N.length≤2∧sL th s false [] bs=kT k0 (F.map (cO (h+1)))∧For th (sS th s false [] bs).m (h+1) F∧bJ (h+1) F=bJ h Q∧
   (bP (h+1) F).Perm (N++bP h Q)∧((lU h Q≤254∧F.length=1∧eV (h+1) F=3^(h+1)*(19+xe (lU h Q))+eV h Q)∨(254<lU h Q∧F.length=2∧eV (h+1) F=3^(h+1)*38+eV h Q)))∨
 (sE th s false [] bs≠0∧Bad th s (sS th s false [] bs) 1 (sE th s false [] bs)):=by
 have hl:0<bs.length:=by
  have e:(aa bs).length=bs.length:=yt bs;rw[hb,List.length_map]at e;have:=List.length_pos_iff.2 hQ;omega
 have hm:=amG jd;have hs0:lU h Q=bk [] (Q.map (cO h)):=rfl;have stay:∀{t:S5} {N:List Int},qZ th s t N []→∀k∈Q,rep th t.m h k.2:=fun e k hk=>e.rep h (f.rep k hk) fun p kc=>hp p (List.mem_flatMap.2 ⟨k,hk,kc⟩);by_cases hz:lU h Q≤254
 ·rcases akE (l:=false) (es:=[]) (bs:=bs) ho (by simp only[List.length_nil];omega) (by rw[hb];exact hm) (by rw[hb];exact hz)with⟨a,n,b,c,d⟩|h
  ·rw[hb]at c d;refine .inl ⟨a,[n],cW false [] (Q.map (cO h)),[(ByteArray.empty,(n,Q))],b,by simp,c,afN (h:=h+1) ⟨d,stay b⟩ ⟨hQ,f.bare,jd,hz,f.sep,f.ok⟩ (sn ho (b.sub n List.mem_cons_self)), ?_, ?_,.inl ⟨hz,rfl, ?_⟩⟩
   ·show bJ h Q++[]=_;rw[List.append_nil]
   ·show(n::bP h Q++[]).Perm (n::bP h Q);rw[List.append_nil]
   ·rw[gI];rfl
  ·exact .inr h
 ·obtain⟨ok,z1,z2,k,k0,k1,e1,e2,e3,e4,e5⟩:=aj2 jd (by rw[←hs0];omega) (by rw[←hs0];exact bK);have hbt:aa ((Q.map (cO h)).take k)=(Q.map (cO h)).take k:=ad7 (by rw[jO,f.bare]);have akG:=yo jd k;have akH:=yy (yq jd k)
  have zd:bk [] (aa ((Q.map (cO h)).drop k))≤154:=by
   have s1:=q7 (aa ((Q.map (cO h)).drop k));have s2:=q7 ((Q.map (cO h)).drop k);have s3:=sf ((Q.map (cO h)).drop k);rw[e2]at z2;omega
  have key:=akF (l:=false) (es:=[]) (bs:=bs) ho (by simp only[List.length_nil];omega) (by rw[hb];exact hz) (by rw[hb];exact ok);rw[hb,e1,e2,e3,e4,e5,hbt]at key;rw[e1]at z1;have key:=key (by omega) (by omega) (amG akG) (amG akH);rcases key with⟨a,n,n2,b,c,d1,d2⟩|h
  ·have eT:(Q.map (cO h)).take k=(Q.take k).map (cO h):=by rw[List.map_take]
   have eD:aa ((Q.map (cO h)).drop k)=(bU (Q.drop k)).map (cO h):=by rw[←List.map_drop,jO]
   rw[List.length_map]at k1;have eQ:Q=Q.take k++Q.drop k:=(List.take_append_drop k Q).symm;obtain⟨q,r,eqd⟩:∃q r,Q.drop k=q::r:=List.exists_cons_of_ne_nil (fun e=>by have:=congrArg List.length e;rw[List.length_drop,List.length_nil]at this;omega);have arb:Q.take k≠[]:=fun e=>by have:=congrArg List.length e;rw[List.length_take,List.length_nil]at this;omega
   have hqm:q∈Q:=by rw[eQ,eqd];exact List.mem_append_right _ List.mem_cons_self
   have hk:cW false [] ((Q.map (cO h)).drop k)=q.1:=by
    unfold cW;rw[if_neg (by simp),←List.map_drop,eqd];rfl
   have sp:=f.sep;have sp1:=sp.1;rw[eQ,List.pairwise_append]at sp1;have up:=(gf.1 jd).2;rw[eQ,List.map_append,List.pairwise_append]at up;have mT:∀x∈Q.take k,x∈Q:=fun x hx=>List.mem_of_mem_take hx;have mD:∀x∈Q.drop k,x∈Q:=fun x hx=>List.mem_of_mem_drop hx
   have okA:mH (h+1) (n,Q.take k):=by
    refine⟨arb, ?_,by rw[←eT];exact akG,by rw[lU,←eT];omega,⟨sp1.1,fun x hx=>sp.2 x (mT x hx)⟩,fun x hx=>f.ok x (mT x hx)⟩;show bU (Q.take k)=Q.take k;have:=f.bare;cases Q with
    |nil=>exact absurd rfl hQ
    |cons x y=>
     cases k with
     |zero=>omega
     |succ k=>simp only[bU,List.cons.injEq]at this;simp[bU,this.1]
   have okB:mH (h+1) (n2,bU (Q.drop k)):=by
    refine⟨by rw[eqd];exact List.cons_ne_nil _ _,wb _,by rw[←eD];exact akH,by rw[lU,←eD];omega,⟨?_,fun x hx e he=> ?_⟩,fun x hx=> ?_⟩
    ·have p2:=sp1.2.1;rw[eqd]at p2 ⊢;rw[List.pairwise_cons]at p2;rw[bU,List.pairwise_cons];exact p2
    ·obtain⟨x',xv,e2,e3⟩:=gJ hx;rcases e3 with e3|e3
     ·rw[e3];exact gG _
     ·subst e3;exact sp.2 x (mD x xv) e he
    ·obtain⟨x',xv,e2,_⟩:=gJ hx;rw[←e2];exact f.ok x' (mD x' xv)
   have avR:rep th (sS th s false [] bs).m (h+1) (n,Q.take k):=⟨by rw[←eT];exact d1,fun x hx=>stay b x (mT x hx)⟩
   have avS:rep th (sS th s false [] bs).m (h+1) (n2,bU (Q.drop k)):=⟨by rw[←eD];exact d2,fun x hx=>by
    obtain⟨x',xv,e2,_⟩:=gJ hx;rw[←e2];exact stay b x' (mD x' xv)⟩
   refine .inl ⟨a,[n,n2],_,[(ByteArray.empty,(n,Q.take k)),(q.1,(n2,bU (Q.drop k)))],b,by simp,by rw[c,hk];rfl,afO avR okA (sn ho (b.sub n List.mem_cons_self)) avS okB (sn ho (b.sub n2 (List.mem_cons_of_mem _ List.mem_cons_self))) (f.key q hqm) (fun e he=> ?_) (fun e he=> ?_), ?_, ?_,.inr ⟨by omega,rfl, ?_⟩⟩
   ·have he:e∈bJ h (Q.take k):=he;obtain⟨x,hx,hxe⟩:=List.mem_flatMap.1 he;exact sp1.2.2 x hx q (by rw[eqd];exact List.mem_cons_self) e hxe
   ·have he:e∈bJ h (bU (Q.drop k)):=he;rw[pS]at he;obtain⟨x,hx,hxe⟩:=List.mem_flatMap.1 he;have h1:=sp.2 x (mD x hx) e hxe;rw[eqd]at hx;rcases List.mem_cons.1 hx with rfl|hx
    ·exact h1
    ·have u:=up.2.1;rw[eqd,List.map_cons,List.pairwise_cons]at u;have u:=u.1 (cO h x) (List.mem_map_of_mem hx);cases hh:slt e.1 q.1
     ·rfl
     ·have h2:slt e.1 x.1=true:=cr hh u;rw[h2]at h1;cases h1
   ·show bJ h (Q.take k)++(bJ h (bU (Q.drop k))++[])=_;rw[List.append_nil,pS,←jN,←eQ]
   ·show(n::bP h (Q.take k)++(n2::bP h (bU (Q.drop k))++[])).Perm (n::n2::bP h Q);rw[List.append_nil,yw];have e:bP h Q=bP h (Q.take k)++bP h (Q.drop k):=by rw[←qX,←eQ]
    rw[e];refine List.Perm.cons n ?_;exact List.perm_middle
   ·rw[gI,gI];show 3^(h+1)*(19+xe (lU h (Q.take k)))+eV h (Q.take k)+(3^(h+1)*(19+xe (lU h (bU (Q.drop k))))+eV h (bU (Q.drop k))+0)=_;have o1:xe (lU h (Q.take k))=0:=by unfold xe;rw[lU,←eT];omega
    have o2:xe (lU h (bU (Q.drop k)))=0:=by unfold xe;rw[lU,←eD];omega
    have e:eV h Q=eV h (Q.take k)+eV h (Q.drop k):=by rw[←qY,←eQ]
    rw[o1,o2,yx,e];omega
  ·exact .inr h
end Ts
namespace Ts
open Go Go.Sx Go.Proofs Lf
def mi(key:ByteArray):Option ByteArray→List En→List En
 |some v,l=>bz l key v
 |none,l=>cD l key
theorem aap{x:En}{r:List En}{key v:ByteArray}(h:slt x.1 key=true):bz (x::r) key v=x::bz r key v:=by
 unfold bz;rw[zY h,afj h];split<;>simp
theorem aaq{x:En}{r:List En}{key v:ByteArray}(h:slt x.1 key=false):bz (x::r) key v=(key,v,())::(if x.1=key then r else x::r):=by
 unfold bz;rw[adP h,aju h];by_cases e:x.1=key
 ·rw[decide_eq_true e,if_pos rfl,if_pos e];rfl
 ·rw[decide_eq_false e,if_neg (by simp),if_neg e];rfl
theorem acp{key v:ByteArray}:bz [] key v=[(key,v,())]:=rfl
theorem ahu{X W:List En}{key v:ByteArray}(h:∀x∈X,slt x.1 key=true):bz (X++W) key v=X++bz W key v:=by
 induction X with
 |nil=>rfl
 |cons x r ih=>rw[List.cons_append,aap (h x List.mem_cons_self),ih fun y hy=>h y (List.mem_cons_of_mem _ hy)];rfl
theorem ad8{Y Z:List En}{key v:ByteArray}(h:∀z∈Z,slt key z.1=true):bz (Y++Z) key v=bz Y key v++Z:=by
 induction Y with
 |nil=>
  rw[List.nil_append,acp];cases Z with
  |nil=>rfl
  |cons z r=>
   have hz:=h z List.mem_cons_self;rw[aaq (om hz),if_neg (fun e=>adx hz e.symm)];rfl
 |cons y r ih=>
  cases hy:slt y.1 key
  ·rw[List.cons_append,aaq hy,aaq hy];by_cases e:y.1=key
   ·rw[if_pos e,if_pos e];rfl
   ·rw[if_neg e,if_neg e];rfl
  ·rw[List.cons_append,aap hy,aap hy,ih];rfl
theorem yF{X:List En}{key:ByteArray}(h:∀x∈X,x.1≠key):cD X key=X:=by
 unfold cD;rw[List.filter_eq_self];intro x hx;simp only[tn,decide_eq_false (h x hx),Bool.not_false]
theorem afQ{X Y Z:List En}{key:ByteArray}{op:Option ByteArray}(h1:∀x∈X,slt x.1 key=true)(h2:∀z∈Z,slt key z.1=true):mi key op (X++Y++Z)=X++mi key op Y++Z:=by
 cases op with
 |some v=>
  show bz (X++Y++Z) key v=X++bz Y key v++Z;rw[ad8 h2,ahu h1]
 |none=>
  have e1:=yF (X:=X) (key:=key) fun x hx e=>by have:=h1 x hx;rw[e,dM]at this;cases this
  have e2:=yF (X:=Z) (key:=key) fun x hx e=>by have:=h2 x hx;rw[e,dM]at this;cases this
  show cD (X++Y++Z) key=X++cD Y key++Z;unfold cD at e1 e2 ⊢;rw[List.filter_append,List.filter_append,e1,e2]
theorem akI{X Y Z:List En}{key:ByteArray}(h1:∀x∈X,slt x.1 key=true)(h2:∀z∈Z,slt key z.1=true):gq (X++Y++Z) key=gq Y key:=by
 have e:=afQ (op:=none) h1 h2 (Y:=Y);have e:cD (X++Y++Z) key=X++cD Y key++Z:=e;unfold gq;rw[e];simp only[List.length_append];by_cases c:(cD Y key).length<Y.length
 ·rw[decide_eq_true (by omega),decide_eq_true (by omega)]
 ·rw[decide_eq_false (by omega),decide_eq_false (by omega)]
theorem afR{X Y Z:List En}{key:ByteArray}{op:Option ByteArray}(h1:∀x∈X,slt x.1 key=true)(h2:∀z∈Z,slt key z.1=true):pL key op (X++Y++Z)=pL key op Y:=by
 cases op with
 |some v=>rfl
 |none=>
  show(if gq (X++Y++Z) key=true then(0:Int)else 5)=if gq Y key=true then 0 else 5
  rw[akI h1 h2]
theorem afS(key:ByteArray)(op:Option ByteArray)(l:List En):pL key op l=0∨pL key op l=5:=by
 cases op with
 |some v=>exact .inl rfl
 |none=>
  show(if gq l key=true then(0:Int)else 5)=0∨(if gq l key=true then(0:Int)else 5)=5;split
  ·exact .inl rfl
  ·exact .inr rfl
theorem akJ{key:ByteArray}{op:Option ByteArray}{l:List En}(h:pL key op l=0):doE key op l=mi key op l:=by
 cases op with
 |some v=>rfl
 |none=>
  have h:(if gq l key=true then(0:Int)else 5)=0:=h;show(if gq l key=true then cD l key else [])=cD l key;split at h
  ·rename_i hb;rw[if_pos hb]
  ·cases h
theorem aar{key:ByteArray}{op:Option ByteArray}{l:List En}{e:En}(h:e∈mi key op l):e∈l∨(e.1=key∧∃v,op=some v∧e.2.1=v):=by
 cases op with
 |some v=>
  have h:e∈bz l key v:=h;unfold bz at h;rcases List.mem_append.1 h with h|h
  ·exact .inl (List.mem_of_mem_take h)
  ·rcases List.mem_cons.1 h with rfl|h
   ·exact .inr ⟨rfl,v,rfl,rfl⟩
   ·exact .inl (List.mem_of_mem_drop h)
 |none=>exact .inl (List.mem_filter.1 (show e∈cD l key from h)).1
theorem ann{key:ByteArray}{op:Option ByteArray}{l:List En}(hk:1≤key.size∧key.size≤24)(hv:∀v,op=some v→v.size≤100)(h:jE l=true):jE (mi key op l)=true:=by
 rw[wg]at h ⊢;refine⟨fun e he=> ?_, ?_⟩
 ·rcases aar he with h1|⟨h1,v,h2,h3⟩
  ·exact h.1 e h1
  ·rw[h1,h3];exact⟨hk.1,hk.2,hv v h2⟩
 ·cases op with
  |some v=>exact al6 key v h.2
  |none=>exact al7 key h.2
theorem wD{es:List En}{key:ByteArray}:bk (cD es key) []≤bk es []:=by
 rw[q8,q8];unfold cD
 induction es with
 |nil=>simp
 |cons x r ih=>
  rw[List.filter_cons];have:=aj1 x;split
  ·rw[List.map_cons,List.sum_cons,List.map_cons,List.sum_cons];omega
  ·rw[List.map_cons,List.sum_cons];omega
end Ts
namespace Ts
open Go Go.Sx Go.Proofs Lf
def cS(th:Th)(key:ByteArray)(op:Option ByteArray)(f:Nat)(s:S5)(n deep:Int):S5:=
 ⟨pP th key op f s.m s.fu s.fr s.fs s.gn n deep,pQ th key op f s.m s.fu s.fr s.fs s.gn n deep,pR th key op f s.m s.fu s.fr s.fs s.gn n deep,qV th key op f s.m s.fu s.fr s.fs s.gn n deep,r8 th key op f s.m s.fu s.fr s.fs s.gn n deep⟩
def cL(th:Th)(key:ByteArray)(op:Option ByteArray)(f:Nat)(s:S5)(n deep:Int):List Br:=tp th key op f s.m s.fu s.fr s.fs s.gn n deep
def cE'(th:Th)(key:ByteArray)(op:Option ByteArray)(f:Nat)(s:S5)(n deep:Int):Int:=r9 th key op f s.m s.fu s.fr s.fs s.gn n deep
def lvT(s:S5)(n:Int):S5:=⟨s.m,s.fu,s.fr,jk s.fs n,pM s.fs s.gn n⟩
def opP(op:Option ByteArray):Nat:=match op with|some _=>81|none=>0
structure atV (th:Th) (key:ByteArray) (op:Option ByteArray) (s t:S5) (h:Nat) (old:List En) (ps:List Int) (po:Nat) (l:List Br) (N V rest:List Int) (k0:ByteArray) (F:List (Kd h)):Prop where
 pV:qZ th s t N V
 len:N.length≤2*(h+1)
 l:l=kT k0 (F.map (cO h))
 fr:For th t.m h F
 dz:bJ h F=mi key op old
 old:ps.Perm (V++rest)
 new:(bP h F).Perm (N++rest)
 two:F.length≤2
 del:op=none→F.length≤1
 tq:eV h F+(F.length - 1)*(81*3^h)≤po+opP op
structure atW (th:Th) (key:ByteArray) (op:Option ByteArray) (s t:S5) (h:Nat) (old:List En) (ps:List Int) (e:Int) (N V:List Int):Prop where
 pV:qZ th s t N V
 len:N.length≤2*h+1
 sub:∀p∈V,p∈ps
 how:(e=5∧pL key op old=5)∨(e=41∧∀p,In s.fr p→p∈N)∨(e=42∧t.fu=0)
def ad9(th:Th)(key:ByteArray)(op:Option ByteArray)(s t:S5)(h:Nat)(old:List En)(ps:List Int)(po:Nat)(l:List Br)(e:Int):Prop:=
 (e=0∧pL key op old=0∧∃N V rest k0 F,atV th key op s t h old ps po l N V rest k0 F)∨(e≠0∧∃N V,atW th key op s t h old ps e N V)
theorem akK{th:Th}{key:ByteArray}{op:Option ByteArray}{s s1 t:S5}{h:Nat}{old:List En}{ps N V:List Int}{e:Int}{k:Nat}(h1:qZ th s s1 N V)(hN:N.length+k≤2*h+1)(hV:∀p∈V,p∈ps)(hb:Bad th s1 t k e):∃N V,atW th key op s t h old ps e N V:=by
 obtain⟨N2,b1,b2,b3⟩:=hb;refine⟨N++N2,V++[],e8 h1 b1 (fun p hp=>by cases hp),by rw[List.length_append];omega,fun p hp=>hV p (by simpa using hp),.inr (b3.imp (fun x=>⟨x.1,fun p hp=> ?_⟩) id)⟩;by_cases hpn:p∈N
 ·exact List.mem_append_left _ hpn
 ·exact List.mem_append_right _ (x.2 p ((h1.fr p).2 ⟨hp,hpn⟩))
theorem afT{th:Th}{key:ByteArray}{op:Option ByteArray}{es:List En}(hk:1≤key.size∧key.size≤24)(hv:∀v,op=some v→v.size≤100)(jd:jE es=true)(hz:bk es []≤254){s s1:S5}{V ps:List Int}(h1:qZ th s s1 [] V)(hV:ps.Perm V)(hc:pL key op es=0){h:Nat}:
 ad9 th key op s (sS th s1 true (mi key op es) []) 0 es ps h (sL th s1 true (mi key op es) []) (sE th s1 true (mi key op es) []):=by
 have ho:=h1.ok;have atX:=ann (op:=op) hk hv jd;have zF:¬bk (mi key op es) []≤254→dD true (mi key op es) []=true∧bk (ba true (mi key op es) []) []≤254∧bk (cQ true (mi key op es) []) []≤254∧
  ∃k,0<k∧k<(mi key op es).length∧ba true (mi key op es) []=(mi key op es).take k∧cQ true (mi key op es) []=(mi key op es).drop k∧bg true (mi key op es) []=[]∧cY true (mi key op es) []=[]∧bT true (mi key op es) []=true:=fun hn=>by
  cases op with
  |some v=>exact aj3 atX hz hn
  |none=>exact absurd (Int.le_trans wD hz) hn
 rcases anm ho atX zF with⟨a,N,k0,F,b,c,d,e,g,i,j,k⟩|⟨a,b⟩
 ·refine .inl ⟨a,hc,[]++N,V++[],[],k0,F,e8 h1 b (fun p hp=>by cases hp),by simp;omega,d,e,g, ?_, ?_,j,fun hn=>k ?_, ?_⟩
  ·rw[List.append_nil,List.append_nil];exact hV
  ·rw[i,List.nil_append,List.append_nil]
  ·subst hn;exact Int.le_trans wD hz
  ·have p0:eV 0 F=0:=by
    have:∀F:List (Kd 0),eV 0 F=0:=fun F=>by
     induction F with
     |nil=>rfl
     |cons x r ih=>rw[gI,ih];rfl
    exact this F
   rw[p0];cases op with
   |some v=>show 0+(F.length - 1)*(81*3^0)≤h+81;rw[Nat.pow_zero];omega
   |none=>
    have:=k (Int.le_trans wD hz);show 0+(F.length - 1)*(81*3^0)≤h+0;rw[show F.length - 1=0 from by omega];omega
 ·exact .inr ⟨a,akK h1 (by simp) (fun p hp=>(hV.mem_iff).2 hp) b⟩
theorem akL{th:Th}{key:ByteArray}{op:Option ByteArray}(hk:1≤key.size∧key.size≤24)(hv:∀v,op=some v→v.size≤100){s:S5}{t:TN 0}{f:Nat}{deep:Int}(ho:xR th s)(hr:rep th s.m 0 t)(ht:mH 0 t)(hd:deep≤16):
 ad9 th key op s (cS th key op (f+1) s (pg 0 t) deep) 0 (dz 0 t) (mF 0 t) (tq 0 t) (cL th key op (f+1) s (pg 0 t) deep) (cE' th key op (f+1) s (pg 0 t) deep):=by
 obtain⟨n,es⟩:=t;have hr:Rd th s.m n true es []:=hr;obtain⟨e1,e2,e3,e4⟩:=hr.nd hd;obtain⟨_,jd,hz⟩:=(show es≠[]∧jE es=true∧bk es []≤254 from ht);show ad9 th key op s (cS th key op (f+1) s n deep) 0 es [n] 0 (cL th key op (f+1) s n deep) (cE' th key op (f+1) s n deep);have h1:=ad3 ho n;by_cases hc:pL key op es=0
 ·have e:vZ th key op (f+1) s.m s.fu s.fr s.fs s.gn n deep=hP (pM s.fs s.gn n) (bp th s.m s.fu s.fr (jk s.fs n) true (mi key op es) []):=by
   rw[gi,if_neg (by rw[e1];simp),if_pos e2,e3,e4,if_neg (by rw[hc];simp),akJ hc]
  have g:=afT (op:=op) (s1:=lvT s n) (h:=0) hk hv jd hz h1 (List.Perm.refl [n]) hc;have c1:cS th key op (f+1) s n deep=sS th (lvT s n) true (mi key op es) []:=by unfold cS pP pQ pR qV r8;rw[e];rfl
  have c2:cL th key op (f+1) s n deep=sL th (lvT s n) true (mi key op es) []:=by unfold cL tp;rw[e];rfl
  have c3:cE' th key op (f+1) s n deep=sE th (lvT s n) true (mi key op es) []:=by unfold cE' r9;rw[e];rfl
  rw[c1,c2,c3];exact g
 ·have h5:pL key op es=5:=(afS key op es).resolve_left hc
  have e:vZ th key op (f+1) s.m s.fu s.fr s.fs s.gn n deep=(s.m,s.fu,s.fr,s.fs,s.gn,[],5):=by
   rw[gi,if_neg (by rw[e1];simp),if_pos e2,e3,if_pos hc,h5]
  have c1:cS th key op (f+1) s n deep=s:=by unfold cS pP pQ pR qV r8;rw[e]
  have c3:cE' th key op (f+1) s n deep=5:=by unfold cE' r9;rw[e]
  rw[c1,c3];exact .inr ⟨by decide,[],[],hY ho,by simp,fun p hp=>(by cases hp),.inl ⟨rfl,h5⟩⟩
end Ts
namespace Ts
open Go Go.Sx Go.Proofs Lf
theorem ahv{th:Th}{m:As}{h:Nat}{A B F:List (Kd h)}{k:Kd h}{key:ByteArray}{op:Option ByteArray}(hQ:bU (A++k::B)=A++k::B)(jd:gm ((A++k::B).map (cO h))=true)(hs:aag h (A++k::B))(hT:∀x∈A++k::B,mH h x.2)
 (hA:∀x∈A,rep th m h x.2) (hB:∀x∈B,rep th m h x.2) (f:For th m h F) (fe:bJ h F=mi key op (dz h k.2)) (zk:slt key k.1=false) (rh:∀b∈B,slt key b.1=true):
 For th m h (bU (A++b9 k.1 F++B))∧gm ((bU (A++b9 k.1 F++B)).map (cO h))=true∧bJ h (bU (A++b9 k.1 F++B))=mi key op (bJ h (A++k::B))∧pL key op (bJ h (A++k::B))=pL key op (dz h k.2)∧
  (F.length≤1→lU h (bU (A++b9 k.1 F++B))≤lU h (A++k::B))∧(F.length≤2→lU h (bU (A++b9 k.1 F++B))≤lU h (A++k::B)+27):=by
 obtain⟨o1,o2⟩:=gf.1 jd;have mk:∀x∈A++k::B,(cO h x)∈(A++k::B).map (cO h):=fun x hx=>List.mem_map_of_mem hx;have inA:∀x∈A,x∈A++k::B:=fun x hx=>List.mem_append_left _ hx;have ink:k∈A++k::B:=List.mem_append_right _ List.mem_cons_self;have inB:∀x∈B,x∈A++k::B:=fun x hx=>List.mem_append_right _ (List.mem_cons_of_mem _ hx);rw[List.map_append,List.map_cons,List.pairwise_append,List.pairwise_cons]at o2;obtain⟨oA,⟨okB,oB⟩,oAB⟩:=o2;obtain⟨s1,s2⟩:=hs;rw[List.pairwise_append,List.pairwise_cons]at s1;obtain⟨sA,⟨skB,sB⟩,sAB⟩:=s1
 have eA:∀x∈bJ h A,slt x.1 k.1=true:=fun x hx=>by
  obtain⟨a,ha,hxa⟩:=List.mem_flatMap.1 hx;exact sAB a ha k List.mem_cons_self x hxa
 have eAk:∀x∈bJ h A,slt x.1 key=true:=fun x hx=>eJ (eA x hx) zk
 have eBk:∀x∈bJ h B,slt key x.1=true:=fun x hx=>by
  obtain⟨b,hb,hxb⟩:=List.mem_flatMap.1 hx;exact eJ (rh b hb) (s2 b (inB b hb) x hxb)
 have kF:∀e∈bJ h F,slt e.1 k.1=false:=fun e he=>by
  rw[fe]at he;rcases aar he with h1|⟨h1,_⟩
  ·exact s2 k ink e h1
  ·rw[h1];exact zk
 have fB:∀e∈bJ h F,∀b∈B,slt e.1 b.1=true:=fun e he b hb=>by
  rw[fe]at he;rcases aar he with h1|⟨h1,_⟩
  ·exact skB b hb e h1
  ·rw[h1];exact rh b hb
 have inF:∀{x:Kd h},x∈F→∀e∈dz h x.2,e∈bJ h F:=fun hx e he=>List.mem_flatMap.2 ⟨_,hx,he⟩;have some_:∀{x:Kd h},x∈F→∃e,e∈dz h x.2:=fun hx=>List.exists_mem_of_ne_nil _ (qW h (f.ok _ hx))
 have xn:∀x∈b9 k.1 F,(x.1=k.1∨slt k.1 x.1=true)∧x.1.size≤24∧(2≤pg h x.2∧pg h x.2<1024)∧rep th m h x.2∧mH h x.2∧(∀e∈dz h x.2,slt e.1 x.1=false)∧(∀e∈dz h x.2,e∈bJ h F):=fun x hx=>by
  cases F with
  |nil=>cases hx
  |cons y r=>
   rcases List.mem_cons.1 hx with rfl|hx
   ·have y0:y∈y::r:=List.mem_cons_self;exact⟨.inl rfl,(o1 _ (mk k ink)).1,f.pg y y0,f.rep y y0,f.ok y y0,fun e he=>kF e (inF (x:=y) y0 e he),fun e he=>inF (x:=y) y0 e he⟩
   ·have x0:x∈y::r:=List.mem_cons_of_mem _ hx;refine⟨.inr ?_,f.key x x0,f.pg x x0,f.rep x x0,f.ok x x0,f.sep.2 x x0,inF x0⟩;have p:=f.sep.1;rw[List.pairwise_cons]at p;obtain⟨e,he⟩:=some_ (x:=y) List.mem_cons_self;have a1:=p.1 x hx e he;have a2:=kF e (inF List.mem_cons_self e he);rcases gF k.1 e.1 with h1|h1|h1
    ·exact cr h1 a1
    ·rw[h1];exact a1
    ·rw[h1]at a2;cases a2
 have avT:∀x∈b9 k.1 F,∀b∈B,slt x.1 b.1=true:=fun x hx b hb=>by
  obtain⟨_,_,_,_,ok,g1,g2⟩:=xn x hx;obtain⟨e,he⟩:=List.exists_mem_of_ne_nil _ (qW h ok);have a1:=fB e (g2 e he) b hb;rcases gF x.1 e.1 with h1|h1|h1
  ·exact cr h1 a1
  ·rw[h1];exact a1
  ·rw[g1 e he]at h1;cases h1
 have up2:(b9 k.1 F).Pairwise fun a b=>slt a.1 b.1=true:=by
  cases F with
  |nil=>exact List.Pairwise.nil
  |cons y r=>
   have p:=f.sep.1;rw[List.pairwise_cons]at p;rw[b9,List.pairwise_cons];refine⟨fun x hx=>((xn x (List.mem_cons_of_mem _ hx)).1.resolve_left fun e=> ?_), ?_⟩
   ·
    obtain⟨e',he⟩:=some_ (x:=y) List.mem_cons_self;have a1:=p.1 x hx e' he;rw[e,kF e' (inF List.mem_cons_self e' he)]at a1;cases a1
   ·refine List.Pairwise.imp_of_mem (fun{a b} ha hb hab=> ?_) p.2;obtain⟨e',he⟩:=some_ (x:=a) (List.mem_cons_of_mem _ ha);have a1:=hab e' he;have a2:=f.sep.2 a (List.mem_cons_of_mem _ ha) e' he;rcases gF a.1 e'.1 with h1|h1|h1
    ·exact cr h1 a1
    ·rw[h1];exact a1
    ·rw[a2]at h1;cases h1
 have sp2:(b9 k.1 F).Pairwise fun a b=>∀e∈dz h a.2,slt e.1 b.1=true:=by
  cases F with
  |nil=>exact List.Pairwise.nil
  |cons y r=>
   have p:=f.sep.1;rw[List.pairwise_cons]at p;rw[b9,List.pairwise_cons];exact p
 have ano:∀{p:Kd h→Prop},(∀x∈A,p x)→(∀x∈b9 k.1 F,p x)→(∀x∈B,p x)→∀x∈A++b9 k.1 F++B,p x:=fun h1 h2 h3 x hx=>by
  rcases List.mem_append.1 hx with hx|hx
  ·rcases List.mem_append.1 hx with hx|hx
   ·exact h1 x hx
   ·exact h2 x hx
  ·exact h3 x hx
 have okJ:gm ((A++b9 k.1 F++B).map (cO h))=true:=by
  rw[gf];constructor
  ·intro b hb;obtain⟨x,hx,rfl⟩:=List.mem_map.1 hb;exact ano (p:=fun x=>(cO h x).1.size≤24∧2≤(cO h x).2.1∧(cO h x).2.1<1024) (fun x hx=>o1 _ (mk x (inA x hx))) (fun x hx=>⟨(xn x hx).2.1,(xn x hx).2.2.1⟩) (fun x hx=>o1 _ (mk x (inB x hx))) x hx
  ·rw[List.map_append,List.map_append,List.pairwise_append,List.pairwise_append];refine⟨⟨oA, ?_,fun a ha b hb=> ?_⟩,oB,fun a ha b hb=> ?_⟩
   ·rw[List.pairwise_map];exact up2
   ·obtain⟨x,hx,rfl⟩:=List.mem_map.1 hb;have a1:=oAB a ha (cO h k) List.mem_cons_self;rcases(xn x hx).1 with e|e
    ·show slt a.1 x.1=true;rw[e];exact a1
    ·exact cr a1 e
   ·obtain⟨y,hy,rfl⟩:=List.mem_map.1 hb;rcases List.mem_append.1 ha with ha|ha
    ·exact oAB a ha (cO h y) (List.mem_cons_of_mem _ (List.mem_map_of_mem hy))
    ·obtain⟨x,hx,rfl⟩:=List.mem_map.1 ha;exact avT x hx y hy
 have spJ:(A++b9 k.1 F++B).Pairwise fun a b=>∀e∈dz h a.2,slt e.1 b.1=true:=by
  rw[List.pairwise_append,List.pairwise_append];refine⟨⟨sA,sp2,fun a ha b hb e he=> ?_⟩,sB,fun a ha b hb e he=> ?_⟩
  ·have a1:=sAB a ha k List.mem_cons_self e he;rcases(xn b hb).1 with e1|e1
   ·rw[e1];exact a1
   ·exact cr a1 e1
  ·rcases List.mem_append.1 ha with ha|ha
   ·exact sAB a ha b (List.mem_cons_of_mem _ hb) e he
   ·exact fB e ((xn a ha).2.2.2.2.2.2 e he) b hb
 have avU:∀x∈A++b9 k.1 F++B,∀e∈dz h x.2,slt e.1 x.1=false:=ano (fun x hx=>s2 x (inA x hx)) (fun x hx=>(xn x hx).2.2.2.2.2.1) (fun x hx=>s2 x (inB x hx));have eE:bJ h (A++k::B)=bJ h A++dz h k.2++bJ h B:=by rw[jN,fz,List.append_assoc]
 have szs:lU h (bU (A++b9 k.1 F++B))≤1+(ie (A.map (cO h))+ie ((b9 k.1 F).map (cO h))+ie (B.map (cO h)))∧lU h (A++k::B)=1+(ie (A.map (cO h))+(pJ (cO h k)+ie (B.map (cO h)))):=by
  rw[ad2,ad2,←jO];have a1:=sf ((A++b9 k.1 F++B).map (cO h));rw[List.map_append,List.map_append,we,we]at a1;rw[List.map_append (l₁:=A),List.map_cons,we (A.map (cO h)),dj];refine⟨?_,rfl⟩;rw[List.map_append,List.map_append];omega
 refine⟨⟨wb _,fun x hx=> ?_,fun x hx=> ?_,⟨?_,fun x hx e he=> ?_⟩,fun x hx=> ?_,fun x hx=> ?_⟩, ?_, ?_, ?_,fun hl=> ?_,fun hl=> ?_⟩
 ·obtain⟨y,hy,e,_⟩:=gJ hx;rw[←e];exact ano (p:=fun x=>rep th m h x.2) hA (fun x hx=>(xn x hx).2.2.2.1) hB y hy
 ·obtain⟨y,hy,e,_⟩:=gJ hx;rw[←e];exact ano (p:=fun x=>mH h x.2) (fun x hx=>hT x (inA x hx)) (fun x hx=>(xn x hx).2.2.2.2.1) (fun x hx=>hT x (inB x hx)) y hy
 ·generalize A++b9 k.1 F++B=J at spJ;cases J with
  |nil=>exact List.Pairwise.nil
  |cons x r=>
   rw[List.pairwise_cons]at spJ;rw[bU,List.pairwise_cons];exact spJ
 ·obtain⟨y,hy,e1,e2⟩:=gJ hx;rcases e2 with e2|e2
  ·rw[e2];exact gG _
  ·subst e2;exact avU x hy e he
 ·obtain⟨y,hy,e1,e2⟩:=gJ hx;rcases e2 with e2|e2
  ·rw[e2];exact Nat.zero_le _
  ·subst e2;exact((gf.1 okJ).1 _ (List.mem_map_of_mem hy)).1
 ·obtain⟨y,hy,e,_⟩:=gJ hx;rw[←e];exact((gf.1 okJ).1 _ (List.mem_map_of_mem hy)).2
 ·rw[←jO];exact yy okJ
 ·rw[pS,jN,jN,ahm,fe,eE,afQ eAk eBk]
 ·rw[eE,afR eAk eBk]
 ·obtain⟨z1,z2⟩:=szs;rw[z2];refine Int.le_trans z1 ?_
  have:ie ((b9 k.1 F).map (cO h))≤pJ (cO h k):=by
   cases F with
   |nil=>show(0:Int)≤_;have:=wc (cO h k);omega
   |cons y r=>
    cases r with
    |nil=>rw[b9,List.map_cons,dj];show pJ (cO h (k.1,y.2))+0≤_;rw[Int.add_zero];exact Int.le_refl _
    |cons z r=>simp only[List.length_cons]at hl;omega
  omega
 ·obtain⟨z1,z2⟩:=szs;rw[z2];refine Int.le_trans z1 ?_
  have:ie ((b9 k.1 F).map (cO h))≤pJ (cO h k)+27:=by
   cases F with
   |nil=>show(0:Int)≤_;have:=wc (cO h k);omega
   |cons y r=>
    cases r with
    |nil=>rw[b9,List.map_cons,dj];show pJ (cO h k)+0≤_;omega
    |cons z r=>
     cases r with
     |nil=>
      have:=f.key z (List.mem_cons_of_mem _ List.mem_cons_self);rw[b9,List.map_cons,List.map_cons,dj,dj];show pJ (cO h k)+(pJ (cO h z)+0)≤_;have:pJ (cO h z)=3+(z.1.size:Int):=rfl;omega
     |cons w r=>simp only[List.length_cons]at hl;omega
  omega
end Ts
namespace Ts
open Go Go.Sx Go.Proofs Lf
theorem acq{h:Nat}{Q:List (Kd h)}{key:ByteArray}(hQ:Q≠[])(hb:bU Q=Q)(jd:gm (Q.map (cO h))=true):
 ∃A k B,Q=A++k::B∧(aT (Q.map (cO h)) key).toNat=A.length∧slt key k.1=false∧(∀b∈B,slt key b.1=true):=by
 have hs:=ap6 jd;have hn:mr (Q.map (cO h))≠[]:=by cases Q with|nil=>exact absurd rfl hQ|cons q r=>simp
 obtain⟨p,e,hp,h0,h1⟩:=vJ (ks:=mr (Q.map (cO h))) (key:=key) hs hn;have hl:(mr (Q.map (cO h))).length=Q.length:=by simp
 rw[hl]at hp h1
 have ek:∀i,i<Q.length→(mr (Q.map (cO h))).getD i ByteArray.empty=(Q.getD i (ByteArray.empty,Q.head hQ |>.2)).1:=fun i hi=>by
  rw[bm (by simpa using hi),bm hi];simp[cO]
 refine⟨Q.take p,Q[p],Q.drop (p+1), ?_, ?_, ?_,fun b hb=> ?_⟩
 ·rw[List.getElem_cons_drop,List.take_append_drop]
 ·unfold aT;rw[e,List.length_take,Int.toNat_natCast];omega
 ·rcases h0 with h0|h0
  ·subst h0
   have:Q[0].1=ByteArray.empty:=by
    cases Q with
    |nil=>exact absurd rfl hQ
    |cons q r=>
     simp only[bU,List.cons.injEq]at hb;show q.1=_;rw[←hb.1]
   rw[this];exact gG _
  ·rw[ek p hp,bm hp]at h0;exact h0
 ·obtain⟨i,hi,rfl⟩:=List.getElem_of_mem hb;rw[List.length_drop]at hi;have:=h1 (p+1+i) (by omega) (by omega);rw[ek _ (by omega),bm (by omega)]at this;rw[List.getElem_drop];exact this
theorem akM{P x y a b F n m:Nat}(c:Nat)(h1:F+(n - 1)*(81*P)≤m+c)(hn:n≤2)(hz:(n≤1→y≤x)∧(n≤2→y≤x+27)):3*P*(19+y)+(a+F+b)≤3*P*(19+x)+(a+m+b)+c:=by
 have k:3*P*(19+y)≤3*P*(19+x)+(n - 1)*(81*P):=by
  rcases Nat.lt_or_ge 1 n with h|h
  ·have e:n=2:=by omega
   subst e;have:=Nat.mul_le_mul_left (3*P) (show 19+y≤(19+x)+27 from by have:=hz.2 (Nat.le_refl _);omega);rw[Nat.mul_add (3*P) (19+x) 27]at this;omega
  ·have:=Nat.mul_le_mul_left (3*P) (show 19+y≤19+x from by have:=hz.1 h;omega);omega
 omega
theorem ahw{P x a b F m:Nat}(c:Nat)(h1:F+(2 - 1)*(81*P)≤m+c)(hx:73≤x):3*P*38+(a+F+b)+(2 - 1)*(81*(3*P))≤3*P*(19+x)+(a+m+b)+c:=by
 have:=Nat.mul_le_mul_left (3*P) (show 92≤19+x from by omega);omega
theorem acr{th:Th}{key:ByteArray}{op:Option ByteArray}(hk:1≤key.size∧key.size≤24)(hv:∀v,op=some v→v.size≤100):∀(h:Nat) {s:S5} {t:TN h} {f:Nat} {deep:Int},xR th s→rep th s.m h t→mH h t→(∀p∈mF h t,¬In s.fr p)→h<f→deep+(h:Int)≤16→
 ad9 th key op s (cS th key op f s (pg h t) deep) h (dz h t) (mF h t) (tq h t) (cL th key op f s (pg h t) deep) (cE' th key op f s (pg h t) deep)
 |0,s,t,f,deep,ho,hr,ht,hp,hf,hd=>by
  cases f with
  |zero=>omega
  |succ f=>exact akL hk hv ho hr ht (by omega)
 |h+1,s,t,f,deep,ho,hr,ht,hp,hf,hd=>by
  cases f with
  |zero=>omega
  |succ f=>
  obtain⟨n,Q⟩:=t;obtain⟨hr1,wX⟩:=(show Rd th s.m n false [] (Q.map (cO h))∧∀k∈Q,rep th s.m h k.2 from hr);obtain⟨hQ,hQb,jd,bK,zF,hT⟩:=(show Q≠[]∧bU Q=Q∧gm (Q.map (cO h))=true∧lU h Q≤254∧aag h Q∧∀k∈Q,mH h k.2 from ht);obtain⟨e1,e2,e3,e4⟩:=hr1.nd (deep:=deep) (by omega);obtain⟨A,k,B,eQ,ep,zk,rh⟩:=acq (key:=key) hQ hQb jd;have cv:Q.map (cO h)≠[]:=by cases Q with|nil=>exact absurd rfl hQ|cons q r=>simp
  have egd:(Q.map (cO h)).getD A.length dB=cO h k:=by rw[eQ];simp[List.getD]
  have etk:(Q.map (cO h)).take A.length=A.map (cO h):=by rw[eQ];simp
  have edp:(Q.map (cO h)).drop (A.length+1)=B.map (cO h):=by
   rw[eQ,List.map_append,List.map_cons,←List.drop_drop]
   have e:(A.map (cO h)++cO h k::B.map (cO h)).drop A.length=cO h k::B.map (cO h):=by
    have:=List.drop_left (l₁:=A.map (cO h)) (l₂:=cO h k::B.map (cO h));rw[List.length_map]at this;exact this
   rw[e];rfl
  have epg:bP h Q=bP h A++(mF h k.2++bP h B):=by rw[eQ,qX,gH]
  have hpn:¬In s.fr n:=hp n List.mem_cons_self;have hpA:∀p∈bP h A,¬In s.fr p:=fun p kc=>hp p (List.mem_cons_of_mem _ (show p∈bP h Q from by rw[epg];exact List.mem_append_left _ kc));have hpk:∀p∈mF h k.2,¬In s.fr p:=fun p kc=>hp p (List.mem_cons_of_mem _ (show p∈bP h Q from by rw[epg];exact List.mem_append_right _ (List.mem_append_left _ kc)));have hpB:∀p∈bP h B,¬In s.fr p:=fun p kc=>hp p (List.mem_cons_of_mem _ (show p∈bP h Q from by rw[epg];exact List.mem_append_right _ (List.mem_append_right _ kc)));have kin:k∈Q:=by rw[eQ];exact List.mem_append_right _ List.mem_cons_self
  have ih:=acr hk hv h (s:=s) (t:=k.2) (f:=f) (deep:=deep+1) ho (wX k kin) (hT k kin) hpk (by omega) (by omega);have epk:(cO h k).2.1=pg h k.2:=rfl;have ekk:(cO h k).1=k.1:=rfl;show ad9 th key op s (cS th key op (f+1) s n deep) (h+1) (bJ h Q) (n::bP h Q) (3^(h+1)*(19+xe (lU h Q))+eV h Q) (cL th key op (f+1) s n deep) (cE' th key op (f+1) s n deep)
  have ed:vZ th key op (f+1) s.m s.fu s.fr s.fs s.gn n deep=if cE' th key op f s (pg h k.2) (deep+1)≠0 then
   ((cS th key op f s (pg h k.2) (deep+1)).m,(cS th key op f s (pg h k.2) (deep+1)).fu,(cS th key op f s (pg h k.2) (deep+1)).fr,(cS th key op f s (pg h k.2) (deep+1)).fs,(cS th key op f s (pg h k.2) (deep+1)).gn,[],cE' th key op f s (pg h k.2) (deep+1))
   else hP (lvT (cS th key op f s (pg h k.2) (deep+1)) n).gn (bp th (lvT (cS th key op f s (pg h k.2) (deep+1)) n).m (lvT (cS th key op f s (pg h k.2) (deep+1)) n).fu (lvT (cS th key op f s (pg h k.2) (deep+1)) n).fr (lvT (cS th key op f s (pg h k.2) (deep+1)) n).fs false [] (A.map (cO h)++kT k.1 (cL th key op f s (pg h k.2) (deep+1))++B.map (cO h))):=by
   rw[gi,if_neg (by rw[e1];simp),if_neg (by rw[e2];simp),e4,if_neg cv,e3,ep,egd,etk,edp,epk,ekk];rfl
  generalize cS th key op f s (pg h k.2) (deep+1)=s2 at ih ed;generalize cL th key op f s (pg h k.2) (deep+1)=l2 at ih ed;generalize cE' th key op f s (pg h k.2) (deep+1)=x2 at ih ed;rcases ih with⟨hx,hc,N,V,rest,k0,F,g⟩|⟨hx,N,V,g⟩
  ·rw[if_neg (by rw[hx];simp),g.l,ahk,ab1,←List.map_append,←List.map_append]at ed;have hnN:n ∉ N:=fun hh=>hpn (g.pV.sub n hh)
   have l1:qZ th s (lvT s2 n) N (V++[n]):=by
    have:=e8 g.pV (ad3 g.pV.ok n) (fun p kc=>by rw[List.mem_singleton.1 kc];exact hnN);rw[List.append_nil]at this;exact this
   have ho3:=l1.ok;obtain⟨j1,j2,j3,j4,j5,j6⟩:=ahv (th:=th) (m:=(lvT s2 n).m) (A:=A) (B:=B) (F:=F) (k:=k) (key:=key) (op:=op) (by rw[←eQ];exact hQb) (by rw[←eQ];exact jd) (by rw[←eQ];exact zF) (by rw[←eQ];exact hT)
    (fun x hx=>g.pV.rep h (wX x (by rw[eQ];exact List.mem_append_left _ hx)) fun p kc=>hpA p (List.mem_flatMap.2 ⟨x,hx,kc⟩))
    (fun x hx=>g.pV.rep h (wX x (by rw[eQ];exact List.mem_append_right _ (List.mem_cons_of_mem _ hx))) fun p kc=>hpB p (List.mem_flatMap.2 ⟨x,hx,kc⟩)) g.fr g.dz zk rh
   rw[←eQ]at j3 j4 j5 j6;have atY:aa ((A++b9 k.1 F++B).map (cO h))=(bU (A++b9 k.1 F++B)).map (cO h):=jO _;have pgJ:bP h (bU (A++b9 k.1 F++B))=bP h A++bP h F++bP h B:=by rw[yw,qX,qX,ajZ]
   have atZ:eV h (bU (A++b9 k.1 F++B))=eV h A+eV h F+eV h B:=by rw[yx,qY,qY,aj0]
   have avV:eV h Q=eV h A+tq h k.2+eV h B:=by rw[eQ,qY,gI];omega
   have at0:∀p∈bP h (bU (A++b9 k.1 F++B)),¬In (lvT s2 n).fr p:=fun p kc dd=>by
    obtain⟨i1,i2⟩:=(l1.fr p).1 dd;rw[pgJ]at kc;rcases List.mem_append.1 kc with kc|kc
    ·rcases List.mem_append.1 kc with kc|kc
     ·exact hpA p kc i1
     ·rcases List.mem_append.1 ((g.new.mem_iff).1 kc)with kc|kc
      ·exact i2 kc
      ·exact hpk p ((g.old.mem_iff).2 (List.mem_append_right _ kc)) i1
    ·exact hpB p kc i1
   have c1:cS th key op (f+1) s n deep=sS th (lvT s2 n) false [] ((A++b9 k.1 F++B).map (cO h)):=by unfold cS pP pQ pR qV r8;rw[ed];rfl
   have c2:cL th key op (f+1) s n deep=sL th (lvT s2 n) false [] ((A++b9 k.1 F++B).map (cO h)):=by unfold cL tp;rw[ed];rfl
   have c3:cE' th key op (f+1) s n deep=sE th (lvT s2 n) false [] ((A++b9 k.1 F++B).map (cO h)):=by unfold cE' r9;rw[ed];rfl
   rw[c1,c2,c3]
   have old:(n::bP h Q).Perm ((V++[n])++(rest++(bP h A++bP h B))):=by
    rw[epg]
    have a1:(bP h A++(mF h k.2++bP h B)).Perm (mF h k.2++(bP h A++bP h B)):=by
     rw[←List.append_assoc,←List.append_assoc];exact List.Perm.append_right _ List.perm_append_comm
    have a2:(mF h k.2++(bP h A++bP h B)).Perm ((V++rest)++(bP h A++bP h B)):=List.Perm.append_right _ g.old;have a3:=(List.Perm.cons n (a1.trans a2));refine a3.trans ?_;rw[List.append_assoc,List.append_assoc V [n],List.singleton_append];exact List.perm_middle.symm
   have at1:(bP h (bU (A++b9 k.1 F++B))).Perm (N++(rest++(bP h A++bP h B))):=by
    rw[pgJ]
    have a1:(bP h A++bP h F++bP h B).Perm (bP h F++(bP h A++bP h B)):=by
     rw[←List.append_assoc];exact List.Perm.append_right _ List.perm_append_comm
    refine a1.trans ?_;rw[←List.append_assoc N];exact List.Perm.append_right _ g.new
   by_cases hJ:bU (A++b9 k.1 F++B)=[]
   ·have h0:(A++b9 k.1 F++B)=[]:=by
     cases hx:A++b9 k.1 F++B with
     |nil=>rfl
     |cons x r=>rw[hx]at hJ;cases hJ
    obtain⟨a,b,c⟩:=afL (l:=false) (es:=[]) (bs:=(A++b9 k.1 F++B).map (cO h)) ho3 (by rw[h0];rfl);have p0:=at1;rw[hJ]at p0;refine .inl ⟨a,by rw[j4];exact hc,N++[],(V++[n])++[],rest++(bP h A++bP h B),ByteArray.empty,[],e8 l1 c (fun p hp=>by cases hp), ?_,b,afM, ?_, ?_, ?_,Nat.zero_le _,fun _=>Nat.zero_le _, ?_⟩
    ·rw[List.append_nil];have:=g.len;omega
    ·rw[←j3,hJ];rfl
    ·rw[List.append_nil];exact old
    ·rw[List.append_nil];exact p0
    ·show 0+(0 - 1)*_≤_;rw[Nat.zero_sub,Nat.zero_mul];exact Nat.zero_le _
   ·have z27:=j6 g.two;rcases afP ho3 atY hJ j1 at0 j2 (by omega)with⟨a,N2,k2,F2,b,c,d,e,i,i2,i3⟩|⟨a,b⟩
    ·refine .inl ⟨a,by rw[j4];exact hc,N++N2,(V++[n])++[],rest++(bP h A++bP h B),k2,F2,e8 l1 b (fun p hp=>by cases hp), ?_,d,e,by rw[i,j3],by rw[List.append_nil];exact old, ?_, ?_,fun hn=> ?_, ?_⟩
     ·rw[List.length_append];have:=g.len;omega
     ·refine i2.trans ?_;refine(List.Perm.append_left N2 at1).trans ?_;rw[←List.append_assoc];exact List.Perm.append_right _ List.perm_append_comm
     ·rcases i3 with⟨_,i3,_⟩|⟨_,i3,_⟩<;>omega
     ·rcases i3 with⟨_,i3,_⟩|⟨i4,i3,_⟩
      ·omega
      ·have:=j5 (g.del hn);omega
     ·have gp:=g.tq;have e3:3^(h+1)=3*3^h:=by rw[Nat.pow_succ,Nat.mul_comm]
      rw[e3,avV];rcases i3 with⟨_,i4,i5⟩|⟨i6,i4,i5⟩
      ·rw[i5,i4,atZ,e3,Nat.sub_self,Nat.zero_mul,Nat.add_zero];refine akM (opP op) gp g.two ⟨fun hl=> ?_,fun hl=> ?_⟩
       ·have:=j5 hl;unfold xe;omega
       ·unfold xe;omega
      ·have h2:F.length=2:=by
        rcases Nat.lt_or_ge 1 F.length with hl|hl
        ·have:=g.two;omega
        ·have:=j5 hl;omega
       rw[h2]at gp;rw[i5,i4,atZ,e3];exact ahw (opP op) gp (by unfold xe;omega)
    ·exact .inr ⟨a,akK l1 (by have:=g.len;omega) (fun p hp=>(old.mem_iff).2 (List.mem_append_left _ hp)) b⟩
  ·rw[if_pos hx]at ed;have c1:cS th key op (f+1) s n deep=s2:=by unfold cS pP pQ pR qV r8;rw[ed]
   have c3:cE' th key op (f+1) s n deep=x2:=by unfold cE' r9;rw[ed]
   rw[c1,c3];refine .inr ⟨hx,N,V,g.pV,by have:=g.len;omega,fun p kc=>List.mem_cons_of_mem _ ?_, ?_⟩
   ·rw[epg];exact List.mem_append_right _ (List.mem_append_left _ (g.sub p kc))
   ·rcases g.how with⟨a,b⟩|a
    ·refine .inl ⟨a, ?_⟩;have sAB:=zF.1;rw[eQ,List.pairwise_append]at sAB
     have eAk:∀x∈bJ h A,slt x.1 key=true:=fun x hx=>by
      obtain⟨y,hy,hxy⟩:=List.mem_flatMap.1 hx;exact eJ (sAB.2.2 y hy k List.mem_cons_self x hxy) zk
     have eBk:∀x∈bJ h B,slt key x.1=true:=fun x hx=>by
      obtain⟨y,hy,hxy⟩:=List.mem_flatMap.1 hx;exact eJ (rh y hy) (zF.2 y (by rw[eQ];exact List.mem_append_right _ (List.mem_cons_of_mem _ hy)) x hxy)
     rw[eQ,jN,fz,←List.append_assoc,afR eAk eBk];exact b
    ·exact .inr a
end Ts
namespace Ts
open Go Go.Sx Go.Proofs Lf
def aM(th:Th)(m:As)(root:Int)(h:Nat)(E:List En)(ps:List Int)(po:Nat):Prop:=
 (root=0∧h=0∧E=[]∧ps=[]∧po=0)∨∃t:TN h,root=pg h t∧2≤root∧root<1024∧rep th m h t∧mH h t∧E=dz h t∧ps=mF h t∧po=tq h t
def tS(th:Th)(key:ByteArray)(op:Option ByteArray)(s:S5)(root:Int):S5:=
 ⟨xh th key op s.m s.fu root s.fr s.fs s.gn,xi th key op s.m s.fu root s.fr s.fs s.gn,xj th key op s.m s.fu root s.fr s.fs s.gn,aca th key op s.m s.fu root s.fr s.fs s.gn,acb th key op s.m s.fu root s.fr s.fs s.gn⟩
structure afU (th:Th) (key:ByteArray) (op:Option ByteArray) (s t:S5) (h:Nat) (old:List En) (ps:List Int) (po:Nat) (l:List Br) (N V rest:List Int) (k0:ByteArray) (h2:Nat) (F:List (Kd h2)):Prop where
 pV:qZ th s t N V
 l:l=kT k0 (F.map (cO h2))
 fr:For th t.m h2 F
 dz:bJ h2 F=mi key op old
 old:ps.Perm (V++rest)
 new:(bP h2 F).Perm (N++rest)
 one:F.length≤1
 tq:eV h2 F≤po+opP op
 hh:h2≤h+1
 len:N.length≤2*h+4
structure arc (th:Th) (key:ByteArray) (op:Option ByteArray) (s t:S5) (h:Nat) (old:List En) (e:Int) (N V:List Int):Prop where
 pV:qZ th s t N V
 len:N.length≤2*h+3
 how:(e=5∧pL key op old=5)∨(e=41∧∀p,In s.fr p→p∈N)∨(e=42∧t.fu=0)
def stC(c:Chg):S5:=⟨c.1,c.2.1,c.2.2.1,c.2.2.2.1,c.2.2.2.2.1⟩
theorem For.okB{th:Th}{m:As}{h:Nat}{F:List (Kd h)}(f:For th m h F):gm (F.map (cO h))=true:=by
 rw[gf];refine⟨fun b hb=> ?_, ?_⟩
 ·obtain⟨x,hx,rfl⟩:=List.mem_map.1 hb;exact⟨f.key x hx,f.pg x hx⟩
 ·rw[List.pairwise_map];refine List.Pairwise.imp_of_mem (fun{a b} ha hb hab=> ?_) f.sep.1;obtain⟨e,he⟩:=List.exists_mem_of_ne_nil _ (qW h (f.ok a ha));have a1:=hab e he;have a2:=f.sep.2 a ha e he;show slt a.1 b.1=true;rcases gF a.1 e.1 with h1|h1|h1
  ·exact cr h1 a1
  ·rw[h1];exact a1
  ·rw[a2]at h1;cases h1
theorem akN{th:Th}{key:ByteArray}{op:Option ByteArray}(hk:1≤key.size∧key.size≤24)(hv:∀v,op=some v→v.size≤100){s:S5}{root:Int}{h:Nat}{E:List En}{ps:List Int}{po:Nat}(ho:xR th s)(H:aM th s.m root h E ps po)(hp:∀p∈ps,¬In s.fr p)(hh:h≤15):
 ad9 th key op s (tS th key op s root) h E ps po (wu th key op s.m s.fu root s.fr s.fs s.gn) (wv th key op s.m s.fu root s.fr s.fs s.gn):=by
 rcases H with⟨h1,h2,h3,h4,h5⟩|⟨t,h1,h2,_,h3,h4,h5,h6,h7⟩
 ·subst h2 h3 h4 h5;rcases afS key op []with hc|hc
  ·have e:jb th key op s.m s.fu root s.fr s.fs s.gn=hP s.gn (bp th s.m s.fu s.fr s.fs true (mi key op []) []):=by
    unfold jb;rw[if_neg (by rw[h1];simp),if_neg (by rw[hc];simp),akJ hc]
   have c1:tS th key op s root=sS th s true (mi key op []) []:=by unfold tS xh xi xj aca acb;rw[e];rfl
   have c2:wu th key op s.m s.fu root s.fr s.fs s.gn=sL th s true (mi key op []) []:=by unfold wu;rw[e];rfl
   have c3:wv th key op s.m s.fu root s.fr s.fs s.gn=sE th s true (mi key op []) []:=by unfold wv;rw[e];rfl
   rw[c1,c2,c3];exact afT hk hv rfl (by decide) (hY ho) (List.Perm.refl _) hc
  ·have e:jb th key op s.m s.fu root s.fr s.fs s.gn=(s.m,s.fu,s.fr,s.fs,s.gn,[],5):=by
    unfold jb;rw[if_neg (by rw[h1];simp),if_pos (by rw[hc];simp),hc]
   have c1:tS th key op s root=s:=by unfold tS xh xi xj aca acb;rw[e]
   have c3:wv th key op s.m s.fu root s.fr s.fs s.gn=5:=by unfold wv;rw[e]
   rw[c1,c3];exact .inr ⟨by decide,[],[],hY ho,by simp,fun p hp=>(by cases hp),.inl ⟨rfl,hc⟩⟩
 ·subst h5 h6 h7
  have e:jb th key op s.m s.fu root s.fr s.fs s.gn=vZ th key op 17 s.m s.fu s.fr s.fs s.gn (pg h t) 1:=by
   unfold jb;rw[if_pos (by omega),h1]
  have g:=acr (op:=op) hk hv h (s:=s) (t:=t) (f:=17) (deep:=1) ho h3 h4 hp (by omega) (by omega);have c1:tS th key op s root=cS th key op 17 s (pg h t) 1:=by unfold tS xh xi xj aca acb;rw[e];rfl
  have c2:wu th key op s.m s.fu root s.fr s.fs s.gn=cL th key op 17 s (pg h t) 1:=by unfold wu;rw[e];rfl
  have c3:wv th key op s.m s.fu root s.fr s.fs s.gn=cE' th key op 17 s (pg h t) 1:=by unfold wv;rw[e];rfl
  rw[c1,c2,c3];exact g
theorem anp{th:Th}{key:ByteArray}{op:Option ByteArray}{s:S5}{h:Nat}{E:List En}{ps:List Int}{po:Nat}{c:Chg}(hp:∀p∈ps,¬In s.fr p)(H:ad9 th key op s (stC c) h E ps po c.2.2.2.2.2.1 c.2.2.2.2.2.2):
 ((upT th c).2.2.2.2.2.2=0∧pL key op E=0∧∃N V rest k0 h2 F,afU th key op s (stC (upT th c)) h E ps po (upT th c).2.2.2.2.2.1 N V rest k0 h2 F)∨((upT th c).2.2.2.2.2.2≠0∧∃N V,arc th key op s (stC (upT th c)) h E (upT th c).2.2.2.2.2.2 N V):=by
 rcases H with⟨hx,hc,N,V,rest,k0,F,g⟩|⟨hx,N,V,g⟩
 ·have hlen:c.2.2.2.2.2.1.length=F.length:=by rw[g.l,wi,List.length_map]
  by_cases h2:F.length=2
  ·have hu:upT th c=hP c.2.2.2.2.1 (bp th c.1 c.2.1 c.2.2.1 c.2.2.2.1 false [] c.2.2.2.2.2.1):=if_pos ⟨hx,by rw[hlen,h2];decide⟩
   have hb:aa c.2.2.2.2.2.1=F.map (cO h):=by
    rw[g.l,ab1,jO,ahl,g.fr.bare]
   have hpF:∀p∈bP h F,¬In (stC c).fr p:=fun p kc dd=>by
    obtain⟨i1,i2⟩:=(g.pV.fr p).1 dd;rcases List.mem_append.1 ((g.new.mem_iff).1 kc)with kc|kc
    ·exact i2 kc
    ·exact hp p ((g.old.mem_iff).2 (List.mem_append_right _ kc)) i1
   have bK:lU h F≤55:=by
    have e:=ad2 F
    have e2:ie (F.map (cO h))≤54:=by
     match F,h2,g.fr with
     |[a,b],_,f=>
      have k1:=f.key a List.mem_cons_self;have k2:=f.key b (List.mem_cons_of_mem _ List.mem_cons_self);rw[List.map_cons,List.map_cons,dj,dj];show pJ (cO h a)+(pJ (cO h b)+0)≤54;have e3:pJ (cO h a)=3+(a.1.size:Int):=rfl;have e4:pJ (cO h b)=3+(b.1.size:Int):=rfl;omega
    omega
   have cv:F≠[]:=fun e=>by rw[e]at h2;cases h2
   have hw:=afP (s:=stC c) (bs:=c.2.2.2.2.2.1) g.pV.ok hb cv g.fr hpF g.fr.okB (by omega);have c1:stC (upT th c)=sS th (stC c) false [] c.2.2.2.2.2.1:=by rw[hu];rfl
   have c2:(upT th c).2.2.2.2.2.1=sL th (stC c) false [] c.2.2.2.2.2.1:=by rw[hu];rfl
   have c3:(upT th c).2.2.2.2.2.2=sE th (stC c) false [] c.2.2.2.2.2.1:=by rw[hu];rfl
   rw[c1,c2,c3];rcases hw with⟨a,N2,k2,F2,b,cc,d,e,i,i2,i3⟩|⟨a,N2,b1,b2,b3⟩
   ·refine .inl ⟨a,hc,N++N2,V++[],rest,k2,h+1,F2,e8 g.pV b (fun p hp=>by cases hp),d,e,by rw[i,g.dz],by rw[List.append_nil];exact g.old, ?_, ?_, ?_,Nat.le_refl _,by rw[List.length_append];have:=g.len;omega⟩
    ·refine i2.trans ?_;refine(List.Perm.append_left N2 g.new).trans ?_;rw[←List.append_assoc];exact List.Perm.append_right _ List.perm_append_comm
    ·rcases i3 with⟨_,i3,_⟩|⟨i3,_⟩<;>omega
    ·have gp:=g.tq;rw[h2]at gp;rcases i3 with⟨_,_,i3⟩|⟨i3,_⟩
     ·have o0:xe (lU h F)=0:=by unfold xe;omega
      rw[i3,o0,Nat.pow_succ];omega
     ·omega
   ·refine .inr ⟨a,N++N2,V++[],e8 g.pV b1 (fun p hp=>by cases hp),by rw[List.length_append];have:=g.len;omega,.inr (b3.imp (fun x=>⟨x.1,fun p kc=> ?_⟩) id)⟩;by_cases hpn:p∈N
    ·exact List.mem_append_left _ hpn
    ·exact List.mem_append_right _ (x.2 p ((g.pV.fr p).2 ⟨kc,hpn⟩))
  ·have hu:upT th c=c:=sj (fun a=>h2 (by have:=a.2;rw[hlen]at this;have:=g.two;omega));rw[hu];have gp:=g.tq;have g2:=g.two;refine .inl ⟨hx,hc,N,V,rest,k0,h,F,g.pV,g.l,g.fr,g.dz,g.old,g.new,by omega, ?_,by omega,by have:=g.len;omega⟩;have:F.length - 1=0:=by omega
   rw[this,Nat.zero_mul,Nat.add_zero]at gp;exact gp
 ·have hu:upT th c=c:=sj (fun a=>hx a.1);rw[hu];exact .inr ⟨hx,N,V,g.pV,by have:=g.len;omega,g.how⟩
theorem wF{th:Th}:∀(h:Nat) {s:S5} {t:TN h} {f:Nat} {deep:Int},xR th s→rep th s.m h t→mH h t→2≤pg h t∧pg h t<1024→h<f→deep+(h:Int)≤16→
 xg th s.m f s.fs s.gn (pg h t) deep=0∧∃(h2:Nat) (t2:TN h2) (W:List Int),xf th s.m f s.fs s.gn (pg h t) deep=pg h2 t2∧(2≤pg h2 t2∧pg h2 t2<1024)∧qZ th s ⟨s.m,s.fu,s.fr,wo th s.m f s.fs s.gn (pg h t) deep,wq th s.m f s.fs s.gn (pg h t) deep⟩ [] W∧
  rep th s.m h2 t2∧mH h2 t2∧dz h2 t2=dz h t∧(mF h t).Perm (W++mF h2 t2)∧tq h2 t2≤tq h t∧h2≤h
 |0,s,t,f,deep,ho,hr,ht,hp,hf,hd=>by
  cases f with
  |zero=>omega
  |succ f=>
   have eu:Rd th s.m (pg 0 t) true t.2 []:=hr;obtain⟨e1,e2,e3,e4⟩:=eu.nd (deep:=deep) (by omega);have e:oL th s.m (f+1) s.fs s.gn (pg 0 t) deep=(s.fs,s.gn,pg 0 t,0):=by rw[oL,if_neg (by rw[e1];simp),if_pos (.inl e2)]
   refine⟨by unfold xg;rw[e],0,t,[],by unfold xf;rw[e],hp, ?_,hr,ht,rfl,List.Perm.refl _,Nat.le_refl _,Nat.le_refl _⟩;unfold wo wq;rw[e];exact hY ho
 |h+1,s,t,f,deep,ho,hr,ht,hp,hf,hd=>by
  cases f with
  |zero=>omega
  |succ f=>
   obtain⟨n,Q⟩:=t;obtain⟨hr1,wX⟩:=(show Rd th s.m n false [] (Q.map (cO h))∧∀k∈Q,rep th s.m h k.2 from hr);obtain⟨hQ,hQb,jd,bK,zF,hT⟩:=(show Q≠[]∧bU Q=Q∧gm (Q.map (cO h))=true∧lU h Q≤254∧aag h Q∧∀k∈Q,mH h k.2 from ht);obtain⟨e1,e2,e3,e4⟩:=hr1.nd (deep:=deep) (by omega);show xg th s.m (f+1) s.fs s.gn n deep=0∧∃(h2:Nat) (t2:TN h2) (W:List Int),xf th s.m (f+1) s.fs s.gn n deep=pg h2 t2∧(2≤pg h2 t2∧pg h2 t2<1024)∧qZ th s ⟨s.m,s.fu,s.fr,wo th s.m (f+1) s.fs s.gn n deep,wq th s.m (f+1) s.fs s.gn n deep⟩ [] W∧
    rep th s.m h2 t2∧mH h2 t2∧dz h2 t2=bJ h Q∧(n::bP h Q).Perm (W++mF h2 t2)∧tq h2 t2≤3^(h+1)*(19+xe (lU h Q))+eV h Q∧h2≤h+1
   by_cases h1:Q.length=1
   ·match Q,h1 with
    |[k],_=>
     have kin:k∈[k]:=List.mem_cons_self
     have e:oL th s.m (f+1) s.fs s.gn n deep=oL th s.m f (jk s.fs n) (pM s.fs s.gn n) (pg h k.2) (deep+1):=by
      rw[oL,if_neg (by rw[e1];simp),if_neg (by rintro(a|a);rw[e2]at a;cases a;rw[e4]at a;exact a rfl),e4];rfl
     have l1:=ad3 ho n;have pk:2≤pg h k.2∧pg h k.2<1024:=((gf.1 jd).1 (cO h k) (List.mem_map_of_mem kin)).2;obtain⟨a,h2,t2,W,b,b2,c,d,d2,d3,d4,d5,d6⟩:=wF h (s:=lvT s n) (t:=k.2) (f:=f) (deep:=deep+1) l1.ok (wX k kin) (hT k kin) pk (by omega) (by omega);refine⟨by unfold xg at a ⊢;rw[e];exact a,h2,t2,[n]++W,by unfold xf at b ⊢;rw[e];exact b,b2, ?_,d,d2, ?_, ?_, ?_,by omega⟩
     ·have:=e8 l1 c (fun p _=>List.not_mem_nil);unfold wo wq at this ⊢;rw[e];exact this
     ·show dz h2 t2=dz h k.2++[];rw[List.append_nil,d3]
     ·show(n::(mF h k.2++[])).Perm (n::(W++mF h2 t2));rw[List.append_nil];exact d4.cons n
     ·show tq h2 t2≤3^(h+1)*(19+xe (lU h [k]))+eV h [k];have:eV h [k]=tq h k.2:=by rw[gI];rfl
      omega
   ·have e:oL th s.m (f+1) s.fs s.gn n deep=(s.fs,s.gn,n,0):=by
     rw[oL,if_neg (by rw[e1];simp),if_pos (.inr (by rw[e4,List.length_map];exact h1))]
    refine⟨by unfold xg;rw[e],h+1,(n,Q),[],by unfold xf;rw[e];rfl,hp, ?_,hr,ht,rfl,List.Perm.refl _,Nat.le_refl _,Nat.le_refl _⟩;unfold wo wq;rw[e];exact hY ho
end Ts
namespace Ts
open Go Go.Sx Go.Proofs Lf
structure Inv (F0:Int→Prop) (fr fs:Ws) (ps:List Int):Prop where
 nd:ps.Nodup
 cov:∀p,F0 p↔In fr p∨In fs p
 dis:∀p,In fr p→¬In fs p
 sub:∀p,In fs p→p∈ps
 top:∀p∈ps,F0 p→In fs p
structure TI (th:Th) (F0:Int→Prop) (m:As) (fu root:Int) (fr fs gn:Ws) (h:Nat) (E:List En) (ps:List Int) (po:Nat):Prop where
 ok:xR th ⟨m,fu,fr,fs,gn⟩
 gz:gn=Bx.ah
 f0:∀p,F0 p→2≤p∧Ds.tl th p=true
 holds:aM th m root h E ps po
 inv:Inv F0 fr fs ps
def Low(th:Th)(fu:Int)(fr:Ws)(m m':As)(b:Nat):Prop:=fu= -1→∃N:List Int,N.length≤b∧(∀p∈N,∀q,In fr q→q<p→q∈N)∧∀p,p ∉ N→Ds.gM th m' p=Ds.gM th m p∧Ds.fT th m' p=Ds.fT th m p
structure ard (th:Th) (key:ByteArray) (op:Option ByteArray) (m:As) (fu:Int) (fr:Ws) (h:Nat) (E:List En) (m':As) (fR e:Int):Prop where
 d:Ds.bH th m' fR
 rd:∀p,¬In fr p→Ds.gM th m' p=Ds.gM th m p∧Ds.fT th m' p=Ds.fT th m p
 lo:Low th fu fr m m' 32
 fu:fu= -1→fR= -1
 how:(e=5∧pL key op E=5)∨(e=41∧∃N:List Int,N.length≤2*h+3∧∀p,In fr p→p∈N)∨(e=42∧fR=0)
structure acs (th:Th) (F0:Int→Prop) (key:ByteArray) (op:Option ByteArray) (m:As) (fu:Int) (fr:Ws) (ps:List Int) (E:List En) (po:Nat) (r:Chs) (h':Nat) (ps':List Int) (po':Nat):Prop where
 ti:TI th F0 r.1 r.2.1 r.2.2.1 r.2.2.2.1 r.2.2.2.2.1 r.2.2.2.2.2.1 h' (mi key op E) ps' po'
 po:po'≤po+opP op
 rd:∀p,¬F0 p→Ds.gM th r.1 p=Ds.gM th m p∧Ds.fT th r.1 p=Ds.fT th m p
 lo:Low th fu fr m r.1 32
 fu:fu= -1→r.2.1= -1
 new:∀p∈ps',p∈ps∨In fr p
theorem ao1:∀(h:Nat) {t:TN (h+1)},19*3^(h+1)≤tq (h+1) t:=fun h t=>by
 have:3^(h+1)*19≤3^(h+1)*(19+xe (lU h t.2)):=Nat.mul_le_mul_left _ (by omega);rw[ajY];omega
theorem aM.are{th:Th}{m:As}{root:Int}{h:Nat}{E:List En}{ps:List Int}{po:Nat}(H:aM th m root h E ps po)(hp:po<19*3^15):h≤14:=by
 rcases H with⟨_,h2,_⟩|⟨t,_,_,_,_,_,_,_,h7⟩
 ·omega
 ·cases h with
  |zero=>omega
  |succ h=>
   have a:=ao1 h (t:=t);rw[←h7]at a;have b:3^(h+1)<3^15:=by omega
   have:=(Nat.pow_lt_pow_iff_right (show 1<3 by omega)).1 b;omega
theorem TI.free{th:Th}{F0:Int→Prop}{m:As}{fu root:Int}{fr fs gn:Ws}{h:Nat}{E:List En}{ps:List Int}{po:Nat}(T:TI th F0 m fu root fr fs gn h E ps po):∀p∈ps,¬In fr p:=fun p hp hf=>T.inv.dis p hf (T.inv.top p hp ((T.inv.cov p).2 (.inl hf)))
theorem acu{th:Th}{F0:Int→Prop}{s t u:S5}{N V W rest ps pk ps':List Int}(hf0:∀p,F0 p→2≤p∧Ds.tl th p=true)(hg:∀p,¬In s.gn p)(I:Inv F0 s.fr s.fs ps)(e1:qZ th s t N V)(e2:qZ th t u [] W)(o:ps.Perm (V++rest))(n:pk.Perm (N++rest))(l:pk.Perm (W++ps')):
 Inv F0 (Bx.ct .or u.fr u.gn) u.fs ps'∧xR th ⟨u.m,u.fu,Bx.ct .or u.fr u.gn,u.fs,Bx.ah⟩:=by
 have ho:=e2.ok;have frI:∀p,In (Bx.ct .or u.fr u.gn) p↔In u.fr p∨In u.gn p:=fun p=>aoq ho.fr ho.gn;have ufr:∀p,In u.fr p↔In s.fr p∧p ∉ N:=fun p=>by rw[e2.fr,e1.fr];exact⟨fun x=>x.1,fun x=>⟨x,List.not_mem_nil⟩⟩
 have tfs:=e1.fs;have ufs:∀p,In u.fs p↔In t.fs p∧p ∉ W:=fun p=>by rw[e2.fs];exact⟨fun x=>x.elim id (fun y=>by cases y),.inl⟩
 have ugn:∀p,In u.gn p↔(In s.fs p∧p∈V)∨(In t.fs p∧p∈W):=fun p=>by
  rw[e2.gn,e1.gn];exact⟨fun x=>x.elim (fun y=>y.elim (fun z=>absurd z (hg p)) .inl) .inr,fun x=>x.elim (fun y=>.inl (.inr y)) .inr⟩
 have ndo:=(o.nodup_iff).1 I.nd;obtain⟨nV,nR,dVR⟩:=List.nodup_append.1 ndo
 have ndn:(N++rest).Nodup:=List.nodup_append.2 ⟨e1.nd,nR,fun a ha b hb hab=>by
  subst hab;have hps:a∈ps:=(o.mem_iff).2 (List.mem_append_right _ hb);have hfr:=e1.sub a ha;exact I.dis a hfr (I.top a hps ((I.cov a).2 (.inl hfr)))⟩
 have ndl:=(l.nodup_iff).1 ((n.nodup_iff).2 ndn);obtain⟨nW,nP,dWP⟩:=List.nodup_append.1 ndl
 have mem:∀p,(p∈N∨p∈rest)↔(p∈W∨p∈ps'):=fun p=>by
  rw[←List.mem_append,←List.mem_append,←n.mem_iff,l.mem_iff]
 have at2:∀p,F0 p↔In (Bx.ct .or u.fr u.gn) p∨In u.fs p:=fun p=>by
  rw[I.cov,frI,ufr,ugn,ufs,tfs];constructor
  ·rintro(a|a)
   ·by_cases hN:p∈N
    ·by_cases hW:p∈W
     ·exact .inl (.inr (.inr ⟨.inr hN,hW⟩))
     ·exact .inr ⟨.inr hN,hW⟩
    ·exact .inl (.inl ⟨a,hN⟩)
   ·by_cases hV:p∈V
    ·exact .inl (.inr (.inl ⟨a,hV⟩))
    ·by_cases hW:p∈W
     ·exact .inl (.inr (.inr ⟨.inl ⟨a,hV⟩,hW⟩))
     ·exact .inr ⟨.inl ⟨a,hV⟩,hW⟩
  ·rintro((a|a|⟨a|a,_⟩)|⟨a|a,_⟩)
   ·exact .inl a.1
   ·exact .inr a.1
   ·exact .inr a.1
   ·exact .inl (e1.sub p a)
   ·exact .inr a.1
   ·exact .inl (e1.sub p a)
 refine⟨⟨nP,at2,fun p hp hq=> ?_,fun p hp=> ?_,fun p hp hf=> ?_⟩,⟨ho.d,(Bx.kR (.inl rfl) ho.fr ho.gn).1,ho.fs,Bx.eX.1,fun p hp=>hf0 p ((at2 p).2 (.inl hp))⟩⟩
 ·rw[frI,ufr,ugn]at hp;rw[ufs,tfs]at hq;obtain⟨hq,hw⟩:=hq;rcases hp with⟨a,b⟩|⟨a,b⟩|⟨_,b⟩
  ·rcases hq with⟨c,_⟩|c
   ·exact I.dis p a c
   ·exact b c
  ·rcases hq with⟨_,c⟩|c
   ·exact c b
   ·exact I.dis p (e1.sub p c) a
  ·exact hw b
 ·rw[ufs,tfs]at hp;obtain⟨hp,hw⟩:=hp;have:p∈N∨p∈rest:=hp.elim (fun x=>.inr ((List.mem_append.1 ((o.mem_iff).1 (I.sub p x.1))).resolve_left x.2)) .inl;exact((mem p).1 this).resolve_left hw
 ·rw[ufs,tfs];have hw:p ∉ W:=fun hw=>dWP p hw p hp rfl;refine⟨?_,hw⟩;rcases(mem p).2 (.inr hp)with a|a
  ·exact .inr a
  ·exact .inl ⟨I.top p ((o.mem_iff).2 (List.mem_append_right _ a)) hf,fun hv=>dVR p hv p a rfl⟩
theorem afV{th:Th}{F0:Int→Prop}{m:As}{fu root:Int}{fr fs gn:Ws}{h:Nat}{E:List En}{ps:List Int}{po:Nat}(T:TI th F0 m fu root fr fs gn h E ps po):∀p,¬In gn p:=fun p=>by rw[T.gz];exact fK
theorem ao2{h:Nat}{l:List Br}{k0:ByteArray}{F:List (Kd h)}(e:l=kT k0 (F.map (cO h))):l.length=F.length:=by rw[e,wi,List.length_map]
theorem anq{th:Th}{F0:Int→Prop}{key:ByteArray}{op:Option ByteArray}{m:As}{fu root:Int}{fr fs gn:Ws}{h:Nat}{E:List En}{ps:List Int}{po:Nat}(T:TI th F0 m fu root fr fs gn h E ps po)(hh:h≤14){c:Chg}(hx:c.2.2.2.2.2.2=0){N V rest:List Int}{k0:ByteArray}{h2:Nat}
 (g:afU th key op ⟨m,fu,fr,fs,gn⟩ (stC c) h E ps po c.2.2.2.2.2.1 N V rest k0 h2 []):∃r,jG th root fr fs gn c=r∧r.2.2.2.2.2.2=0∧∃h' ps' po',acs th F0 key op m fu fr ps E po r h' ps' po':=by
 have ed2:jG th root fr fs gn c=(c.1,c.2.1,0,Bx.ct .or c.2.2.1 c.2.2.2.2.1,c.2.2.2.1,Bx.ah,0):=by
  unfold jG nQ;rw[if_neg (fun a=>by rw[ao2 g.l]at a;cases a.2),if_neg (by rw[hx];simp)]
 obtain⟨I,ok⟩:=acu T.f0 (afV T) T.inv g.pV (hY g.pV.ok) g.old (g.new) (ps':=[]) (by exact List.Perm.refl _);have hH:aM th c.1 0 0 (mi key op E) [] 0:=.inl ⟨rfl,rfl,g.dz.symm,rfl,rfl⟩;have hrd:∀p,¬F0 p→Ds.gM th c.1 p=Ds.gM th m p∧Ds.fT th c.1 p=Ds.fT th m p:=fun p hp=>g.pV.rd p (fun hf=>hp ((T.inv.cov p).2 (.inl hf)));have hT:TI th F0 c.1 c.2.1 0 (Bx.ct .or c.2.2.1 c.2.2.2.2.1) c.2.2.2.1 Bx.ah 0 (mi key op E) [] 0:=⟨ok,rfl,T.f0,hH,I⟩;exact⟨_,ed2,rfl,0,[],0,hT,Nat.zero_le _,hrd,fun hf=>⟨N,by have:=g.len;omega,g.pV.lo hf⟩,g.pV.fu,fun p hp=>(by cases hp)⟩
theorem anr{th:Th}{F0:Int→Prop}{key:ByteArray}{op:Option ByteArray}{m:As}{fu root:Int}{fr fs gn:Ws}{h:Nat}{E:List En}{ps:List Int}{po:Nat}(T:TI th F0 m fu root fr fs gn h E ps po)(hh:h≤14){c:Chg}(hx:c.2.2.2.2.2.2=0){N V rest:List Int}{k0:ByteArray}{h2:Nat}{k:Kd h2}
 (g:afU th key op ⟨m,fu,fr,fs,gn⟩ (stC c) h E ps po c.2.2.2.2.2.1 N V rest k0 h2 [k]):∃r,jG th root fr fs gn c=r∧r.2.2.2.2.2.2=0∧∃h' ps' po',acs th F0 key op m fu fr ps E po r h' ps' po':=by
 have kin:k∈[k]:=List.mem_cons_self;have at3:(c.2.2.2.2.2.1.getD 0 dB).2.1=pg h2 k.2:=by rw[g.l];rfl
 have hb2:h2≤15:=by have:=g.hh;omega
 obtain⟨a,h3,t3,W,b,b2,cc,d1,d2,d3,d4,d5,d6⟩:=wF h2 (s:=stC c) (t:=k.2) (f:=17) (deep:=1) g.pV.ok (g.fr.rep k kin) (g.fr.ok k kin) (g.fr.pg k kin) (by omega) (by omega)
 have ed2:jG th root fr fs gn c=(c.1,c.2.1,pg h3 t3,Bx.ct .or c.2.2.1 (wq th c.1 17 c.2.2.2.1 c.2.2.2.2.1 (pg h2 k.2) 1),wo th c.1 17 c.2.2.2.1 c.2.2.2.2.1 (pg h2 k.2) 1,Bx.ah,0):=by
  unfold jG nQ;have b':xf th c.1 17 c.2.2.2.1 c.2.2.2.2.1 (pg h2 k.2) 1=pg h3 t3:=b;have a':xg th c.1 17 c.2.2.2.1 c.2.2.2.2.1 (pg h2 k.2) 1=0:=a;rw[if_pos ⟨hx,ao2 g.l⟩,at3,a',b',if_neg (by simp)]
 have hn:(mF h2 k.2).Perm (N++rest):=by
  have:=g.new;rw[gH]at this;exact(List.append_nil (mF h2 k.2))▸this
 obtain⟨I,ok⟩:=acu T.f0 (afV T) T.inv g.pV cc g.old hn d4
 have hE:dz h3 t3=mi key op E:=by
  rw[d3,←g.dz,fz];exact(List.append_nil _).symm
 have hpo:tq h3 t3≤po+opP op:=by
  have:=g.tq;rw[gI]at this;have e0:eV h2 ([]:List (Kd h2))=0:=rfl;omega
 have hH:aM th c.1 (pg h3 t3) h3 (mi key op E) (mF h3 t3) (tq h3 t3):=.inr ⟨t3,rfl,b2.1,b2.2,d1,d2,hE.symm,rfl,rfl⟩;have hrd:∀p,¬F0 p→Ds.gM th c.1 p=Ds.gM th m p∧Ds.fT th c.1 p=Ds.fT th m p:=fun p hp=>g.pV.rd p (fun hf=>hp ((T.inv.cov p).2 (.inl hf)));have hT:TI th F0 c.1 c.2.1 (pg h3 t3) (Bx.ct .or c.2.2.1 (wq th c.1 17 c.2.2.2.1 c.2.2.2.2.1 (pg h2 k.2) 1)) (wo th c.1 17 c.2.2.2.1 c.2.2.2.2.1 (pg h2 k.2) 1) Bx.ah h3 (mi key op E) (mF h3 t3) (tq h3 t3):=⟨ok,rfl,T.f0,hH,I⟩;exact⟨_,ed2,rfl,h3,mF h3 t3,tq h3 t3,hT,hpo,hrd,fun hf=>⟨N,by have:=g.len;omega,g.pV.lo hf⟩,g.pV.fu,fun p hp=>(List.mem_append.1 ((hn.mem_iff).1 ((d4.mem_iff).2 (List.mem_append_right _ hp)))).elim (fun x=>.inr (g.pV.sub p x)) (fun x=>.inl ((g.old.mem_iff).2 (List.mem_append_right _ x)))⟩
theorem ans{th:Th}{F0:Int→Prop}{key:ByteArray}{op:Option ByteArray}{m:As}{fu root:Int}{fr fs gn:Ws}{h:Nat}{E:List En}{ps:List Int}{po:Nat}(T:TI th F0 m fu root fr fs gn h E ps po)(hh:h≤14){c:Chg}(hx:c.2.2.2.2.2.2≠0){N V:List Int}(g:arc th key op ⟨m,fu,fr,fs,gn⟩ (stC c) h E c.2.2.2.2.2.2 N V):
 ∃m' fR e,e≠0∧jG th root fr fs gn c=(m',fR,root,fr,fs,gn,e)∧ard th key op m fu fr h E m' fR e:=by
 refine⟨c.1,c.2.1,c.2.2.2.2.2.2,hx, ?_,g.pV.ok.d,fun p hp=>g.pV.rd p hp,fun hf=>⟨N,by have:=g.len;omega,g.pV.lo hf⟩,g.pV.fu, ?_⟩
 ·unfold jG nQ;rw[if_neg (fun a=>hx a.1),if_pos hx]
 ·exact g.how.imp id (fun x=>x.imp (fun y=>⟨y.1,N,g.len,y.2⟩) id)
theorem ahx{th:Th}{F0:Int→Prop}{key:ByteArray}{op:Option ByteArray}{m:As}{fu root:Int}{fr fs gn:Ws}{h:Nat}{E:List En}{ps:List Int}{po:Nat}(T:TI th F0 m fu root fr fs gn h E ps po)(hh:h≤14){c:Chg}
 (H2:(c.2.2.2.2.2.2=0∧pL key op E=0∧∃N V rest k0 h2 F,afU th key op ⟨m,fu,fr,fs,gn⟩ (stC c) h E ps po c.2.2.2.2.2.1 N V rest k0 h2 F)∨(c.2.2.2.2.2.2≠0∧∃N V,arc th key op ⟨m,fu,fr,fs,gn⟩ (stC c) h E c.2.2.2.2.2.2 N V)):
 ((jG th root fr fs gn c).2.2.2.2.2.2=0∧pL key op E=0∧∃h' ps' po',acs th F0 key op m fu fr ps E po (jG th root fr fs gn c) h' ps' po')∨
 (∃m' fR e,e≠0∧jG th root fr fs gn c=(m',fR,root,fr,fs,gn,e)∧ard th key op m fu fr h E m' fR e):=by
 rcases H2 with⟨hx,hc,N,V,rest,k0,h2,F,g⟩|⟨hx,N,V,g⟩
 ·left;rcases F with _|⟨k,_|⟨k2,r⟩⟩
  ·obtain⟨r,e,h1,h2⟩:=anq T hh hx g;rw[e];exact⟨h1,hc,h2⟩
  ·obtain⟨r,e,h1,h2⟩:=anr T hh hx g;rw[e];exact⟨h1,hc,h2⟩
  ·exact absurd g.one (by simp)
 ·exact .inr (ans T hh hx g)
theorem akO{th:Th}{F0:Int→Prop}{key:ByteArray}{op:Option ByteArray}{m:As}{fu root:Int}{fr fs gn:Ws}{h:Nat}{E:List En}{ps:List Int}{po:Nat}(T:TI th F0 m fu root fr fs gn h E ps po)(hk:1≤key.size∧key.size≤24)(hv:∀v,op=some v→v.size≤100)(hh:h≤14):
 ((kx th key op m fu root fr fs gn).2.2.2.2.2.2=0∧pL key op E=0∧∃h' ps' po',acs th F0 key op m fu fr ps E po (kx th key op m fu root fr fs gn) h' ps' po')∨
 (∃m' fR e,e≠0∧kx th key op m fu root fr fs gn=(m',fR,root,fr,fs,gn,e)∧ard th key op m fu fr h E m' fR e):=
 ahx T hh (anp (c:=jb th key op m fu root fr fs gn) T.free (akN (s:=⟨m,fu,fr,fs,gn⟩) (key:=key) (op:=op) hk hv T.ok T.holds T.free (by omega)))
end Ts
