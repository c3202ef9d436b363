/- Lemmas: P2, S10, P3, S11, S12, S13, S11p, S11q, S12p, P5, F_pages, S15, E_pages. -/
import Derived.Test.YthhcofcdkdknoaaGreatDoorPE
open Bool (and_eq_true)
open ByteArray (empty)
open Int (toNat_natCast)
open List (append_assoc append_nil length_append length_cons length_drop length_nil length_take mem_map mem_range mem_singleton nil_append replicate take_of_length_le)
open Nat (le_of_ble_eq_true le_refl zero_le)
namespace Ts
open Go Go.Sx Go.Proofs Lf
def aqV(s:D3):D3×Int:=(cA s,Ds.yB s.2.2)
def aqW(s:D3)(k me mp:Int):D3×Int:=if Ds.yD s.1 s.2.2 k true me mp≠0 then(cB s k true me mp,Ds.yD s.1 s.2.2 k true me mp)else aqV (cB s k true me mp)
def aqX(s:D3)(k me mp:Int):D3×Int:=if Ds.yB s.2.2≠0 then(cA s,Ds.yB s.2.2)else aqW (cA s) k me mp
def aqY(s:D3)(k me mp:Int):D3×Int:=if Ds.yD s.1 s.2.2 k false me mp≠0 then(cB s k false me mp,Ds.yD s.1 s.2.2 k false me mp)else aqX (cB s k false me mp) k me mp
def coR(s:D3)(k me mp:Int):D3×Int:=if Ds.yB s.2.2≠0 then(cA s,Ds.yB s.2.2)else aqY (cA s) k me mp
def ay5(x:Int)(s:ByteArray):As:=l8 [] x (bP s)
abbrev y4(s:D3):Prop:=Ds.bz s.1 s.2.1 s.2.2
structure aw8 (s D:D3) (k me mp:Int):Prop where
 d:y4 D
 len:D.1.length=s.1.length
 m:D.2.1=[]
 rd:∀x,Ds.dX D.1 D.2.1 x=if x=k*4 then Ds.rR true me mp else Ds.dX s.1 s.2.1 x
 fu:s.2.2= -1->D.2.2= -1
structure aw9 (s D:D3) (k me mp:Int):Prop where
 d:y4 D
 len:D.1.length=s.1.length
 fu:D.2.2=0
 fJ:s.2.2≠ -1
 how:(D.1=s.1/\D.2.1=s.2.1)\/∃b:Bool,(∀x,Ds.dX D.1 [] x=if b=true/\x=k*4 then Ds.rR false me mp else Ds.dX s.1 s.2.1 x)/\(D.2.1=[]\/D.2.1=ay5 (k*4) (Ds.rR b me mp))
theorem air(th:Th)(m:As)(fu:Int):(Ds.lJ th m fu).length=th.length:=by
 unfold Ds.lJ;split;rfl;exact Ds.jx _ _
theorem agq(s:D3):(cA s).1.length=s.1.length:=air _ _ _
theorem anZ(s:D3)(x:Int):Ds.dX (cA s).1 (cA s).2.1 x=Ds.dX s.1 s.2.1 x:=Ds.arq
theorem auI{s:D3}(h:s.2.2≠0):(cA s).2.1=[]:=if_neg h
theorem an0{th:Th}{fu k ep pg:Int}{on:Bool}(hk:Ds.mE th k=0)(h:Ds.yE ep pg):Ds.yD th fu k on ep pg=if fu=0 then 42 else 0:=by
 have⟨h0,h1,h2,h3⟩:=h;have hc:Ds.zN th k ep pg=0:=by unfold Ds.zN;rw[hk,if_pos rfl,if_neg (by omega)]
 unfold Ds.yD Ds.oG;rw[hc,if_pos rfl,if_pos (Ds.xe hk),if_pos (Ds.mG _ _ _)]
theorem ais{s:D3}{k ep pg:Int}{on:Bool}(hk:Ds.mE s.1 k=0)(h:Ds.yE ep pg)(hf:s.2.2=0):cB s k on ep pg=s:=by
 have⟨h0,h1,h2,h3⟩:=h;have⟨th,m,fu⟩:=s;have hf:fu=0:=hf;subst hf;have hk:Ds.mE th k=0:=hk;have hc:Ds.zN th k ep pg=0:=by unfold Ds.zN;rw[hk,if_pos rfl,if_neg (by omega)]
 have e:Ds.oG th 0 (k*4) (Ds.rR on ep pg)=42:=by unfold Ds.oG;rw[if_pos (Ds.xe hk),if_pos (Ds.mG _ _ _),if_pos rfl]
 unfold cB Ds.kz Ds.pv;rw[hc,if_pos rfl,if_pos rfl];unfold Ds.tx Ds.tz Ds.dL;rw[e,if_neg (by decide),if_pos rfl];split<;>rfl
theorem abY{s:D3}(hf:s.2.2=0):cA s=s:=by
 have⟨th,m,fu⟩:=s;have hf:fu=0:=hf;subst hf;rfl
theorem an1{s:D3}{k ep pg:Int}{on:Bool}(hk:Ds.mE s.1 k=0)(h:Ds.yE ep pg)(hf:s.2.2≠0):(cB s k on ep pg).2.1=l8 s.2.1 (k*4) (bP (Ds.rR on ep pg))/\(cB s k on ep pg).2.2=Ds.dL s.2.2:=by
 have⟨h0,h1,h2,h3⟩:=h;have hc:Ds.zN s.1 k ep pg=0:=by unfold Ds.zN;rw[hk,if_pos rfl,if_neg (by omega)]
 have hw:Ds.oG s.1 s.2.2 (k*4) (Ds.rR on ep pg)=0:=Ds.oH.2 ⟨Ds.xe hk,Ds.mG _ _ _,hf⟩;unfold cB Ds.kz Ds.pv;rw[hc,if_pos rfl,if_pos rfl];refine⟨?_, ?_⟩;show Ds.tx _ _ _ _ _=_;unfold Ds.tx;rw[if_pos hw];show Ds.tz _ _ _ _=_;unfold Ds.tz;rw[if_pos ⟨Ds.xe hk,Ds.mG _ _ _⟩]
theorem agr(fu:Int):Ds.yB fu=if fu=0 then 42 else 0:=rfl
theorem nq{f:Int}(h:f= -1):Ds.dL f= -1:=by subst h;rfl
theorem aqZ{s:D3}{k me mp:Int}(hd:y4 s)(hk:Ds.mE s.1 k=0)(hm:Ds.yE me mp):
 ((coR s k me mp).2=0/\aw8 s (coR s k me mp).1 k me mp)\/((coR s k me mp).2=42/\aw9 s (coR s k me mp).1 k me mp):=by
 have no:∀{f:Int},s.2.2= -1->f=0->(f= -1)->False:=λ_ a b=>by omega
 unfold coR;rw[agr];by_cases f0:s.2.2=0;rw[if_pos f0,if_pos (by decide),abY f0];exact .inr ⟨rfl,hd,rfl,f0,by omega,.inl ⟨rfl,rfl⟩⟩;rw[if_neg f0,if_neg (by decide)];have d1:=aaq hd;have l1:=agq s;have r1:=anZ s;have m1:=auI f0;have u1:s.2.2= -1->(cA s).2.2= -1:=λh=>nq h;generalize cA s=s1 at d1 l1 r1 m1 u1;have uQ:Ds.mE s1.1 k=0:=by rw[sF l1];exact hk
 have v1:∀x,Ds.dX s1.1 [] x=if false=true/\x=k*4 then Ds.rR false me mp else Ds.dX s.1 s.2.1 x:=λx=>by
  rw[if_neg (λh=>by cases h.1),<-r1,m1]
 unfold aqY;rw[an0 uQ hm];by_cases f1:s1.2.2=0;rw[if_pos f1,if_pos (by decide),ais uQ hm f1];exact .inr ⟨rfl,d1,l1,f1,λh=>by have:=u1 h;omega,.inr ⟨false,v1,.inl m1⟩⟩;rw[if_neg f1,if_neg (by decide)];have d2:=ail (k:=k) (b:=false) (me:=me) (mp:=mp) d1;have⟨_,_,r2⟩:=Ds.abp (on:=false) d1 f1 uQ hm;have⟨m2,u2⟩:=an1 (on:=false) uQ hm f1;have e2:(cB s1 k false me mp).1=s1.1:=rfl;have r2:∀x,Ds.dX (cB s1 k false me mp).1 (cB s1 k false me mp).2.1 x=if x=k*4 then Ds.rR false me mp else Ds.dX s1.1 s1.2.1 x:=r2
 generalize cB s1 k false me mp=s2 at d2 r2 m2 u2 e2;have ri:Ds.mE s2.1 k=0:=by rw[e2];exact uQ
 have l2:s2.1.length=s.1.length:=by rw[e2];exact l1
 unfold aqX;rw[agr];by_cases f2:s2.2.2=0;rw[if_pos f2,if_pos (by decide),abY f2];exact .inr ⟨rfl,d2,l2,f2,λh=>by rw[nq (u1 h)]at u2;omega,.inr ⟨false,by rw[e2];exact v1,.inr (m2.trans (by rw[m1];rfl))⟩⟩;rw[if_neg f2,if_neg (by decide)];have d3:=aaq d2;have l3:=(agq s2).trans l2;have r3:=anZ s2;have m3:=auI f2;have u3:s.2.2= -1->(cA s2).2.2= -1:=λh=>nq (by rw[u2];exact nq (u1 h));generalize cA s2=s3 at d3 l3 r3 m3 u3;have hk3:Ds.mE s3.1 k=0:=by rw[sF l3];exact hk
 have v3:∀x,Ds.dX s3.1 [] x=if true=true/\x=k*4 then Ds.rR false me mp else Ds.dX s.1 s.2.1 x:=λx=>by
  rw[<-m3,r3,r2,r1];by_cases hx:x=k*4;rw[if_pos hx,if_pos ⟨rfl,hx⟩];rw[if_neg hx,if_neg λh=>hx h.2]
 unfold aqW;rw[an0 hk3 hm];by_cases f3:s3.2.2=0;rw[if_pos f3,if_pos (by decide),ais hk3 hm f3];exact .inr ⟨rfl,d3,l3,f3,λh=>by have:=u3 h;omega,.inr ⟨true,v3,.inl m3⟩⟩;rw[if_neg f3,if_neg (by decide)];have d4:=ail (k:=k) (b:=true) (me:=me) (mp:=mp) d3;have⟨_,_,r4⟩:=Ds.abp (on:=true) d3 f3 hk3 hm;have⟨m4,u4⟩:=an1 (on:=true) hk3 hm f3;have e4:(cB s3 k true me mp).1=s3.1:=rfl;have r4:∀x,Ds.dX (cB s3 k true me mp).1 (cB s3 k true me mp).2.1 x=if x=k*4 then Ds.rR true me mp else Ds.dX s3.1 s3.2.1 x:=r4
 generalize cB s3 k true me mp=s4 at d4 r4 m4 u4 e4;have l4:s4.1.length=s.1.length:=by rw[e4];exact l3
 unfold aqV;rw[agr];by_cases f4:s4.2.2=0;rw[if_pos f4,abY f4];exact .inr ⟨rfl,d4,l4,f4,λh=>by rw[nq (u3 h)]at u4;omega,.inr ⟨true,by rw[e4];exact v3,.inr (m4.trans (by rw[m3];rfl))⟩⟩;rw[if_neg f4];refine .inl ⟨rfl,aaq d4,(agq s4).trans l4,auI f4,λx=> ?_,λh=>nq (by rw[u4];exact nq (u3 h))⟩;rw[anZ,r4];by_cases hx:x=k*4;rw[if_pos hx,if_pos hx];rw[if_neg hx,if_neg hx,m3,v3,if_neg (λh=>hx h.2)]
theorem Mrk.ay6{th fQ:Th}{m m':As}{wh ep pg aa:Int}(M:Mrk th m wh ep pg)(hl:fQ.length=th.length)(he:0<=ep/\ep<1099511627776)(hr:0<=aa/\aa<1024)
 (rd:∀x,Ds.dX fQ m' x=if x=(1 - wh)*4 then Ds.rR true (ep+1) aa else Ds.dX th m x):Mrk fQ m' (1 - wh) (ep+1) aa:=by
 have⟨k,n,a,b,c,d⟩:=M;have n':3<=Ds.fg fQ:=by rw[sG hl];exact n
 have r0:Ds.mE fQ (1 - wh)=0:=Ds.lj.2 ⟨by omega,by omega,by omega⟩;have ok:Ds.yE (ep+1) aa:=⟨by omega,by omega,hr.1,hr.2⟩;have e:=rd ((1 - wh)*4);rw[if_pos rfl]at e;have⟨x1,x2,x3⟩:=Ds.alQ r0 e;have⟨y1,y2,y3⟩:=Ds.alP (on:=true) ok;have o:=rd (wh*4);rw[if_neg (by omega)]at o;have⟨z1,z2,z3⟩:=abX hl o;refine⟨by omega,n',by rw[x1];exact y1,by rw[x2];exact y2,by rw[x3];exact y3, ?_⟩;rw[show 1 - (1 - wh)=wh by omega];intro _;rw[z2,b];omega
theorem SI.make{s:Sd}{wh ep pg:Int}{K:List En}{n h:Nat}{ps:List Int}{po:Nat}(M:Mrk s.th s.m wh ep pg)(hd:Ds.bz s.th s.m s.fu)(H:ba s.th s.m pg h K ps po)(nd:ps.Nodup)(rg:∀p∈ps,2<=p/\p<Ds.fg s.th)(q:s.m=[])(hp:po<=81*n)(hK:K.length<=n)(hn:n<=1000)(he:0<=ep):
 SI (iY s wh ep pg) K K n h ps po h ps po:=by
 have:19*3^15=272629233:=rfl;have hh:=H.agj (by omega);have⟨a,b,c⟩:=qO H nd (by omega);refine⟨M,aiq hd H nd b c,H,nd,b,c,rg,rg,λx _=> ?_,⟨hp,hp,hK,hK⟩,he⟩;show cW s.m x=none;rw[q];rfl
section
variable{s:Sd}{E K:List En}{n h:Nat}{ps:List Int}{po h0:Nat}{np:List Int}{nI:Nat}
theorem SI.rt(S:SI s E K n h ps po h0 np nI):0<=s.aa/\s.aa<1024:=by
 rcases S.t.holds with⟨h1,_⟩|⟨t,_,h2,h3,_⟩<;>omega
theorem SI.ad(S:SI s E K n h ps po h0 np nI):Ds.mE s.th (1 - s.wh)=0:=by
 have:=S.mr.k;have:=S.mr.n;exact Ds.lj.2 ⟨by omega,by omega,by omega⟩
theorem SI.qP(S:SI s E K n h ps po h0 np nI)(hn:n<=1000)(he:s.ep<1099511627776){D:D3}(C:aw8 (s.th,s.m,s.fu) D (1 - s.wh) (s.ep+1) s.aa){t:Sd}(e1:t.th=D.1)(e2:t.m=D.2.1)(e3:t.fu=D.2.2):
 SI (iY t (1 - s.wh) (s.ep+1) s.aa) E E n h ps po h ps po:=by
 have⟨b1,b2,b3,b4⟩:=S.b;have hl:t.th.length=s.th.length:=by rw[e1];exact C.len
 have rd:∀x,Ds.dX t.th t.m x=if x=(1 - s.wh)*4 then Ds.rR true (s.ep+1) s.aa else Ds.dX s.th s.m x:=λx=>by rw[e1,e2];exact C.rd x
 have hw:=S.mr.k;refine SI.make (S.mr.ay6 hl ⟨S.e0,he⟩ S.rt rd) (by rw[e1,e2,e3];exact C.d) (S.t.holds.alike λp hp=>vG hl λx hx=> ?_) S.t.inv.nd (λp hp=>by rw[sG hl];exact S.rg p hp) (e2.trans C.m) b1 b3 hn (by have:=S.e0;omega);have:=S.rg p hp;rw[rd,if_neg (by omega)]
theorem SI.fail(S:SI s E K n h ps po h0 np nI){D:D3}(C:aw9 (s.th,s.m,s.fu) D (1 - s.wh) (s.ep+1) s.aa):ba D.1 D.2.1 s.pg h0 K np nI/\ba D.1 D.2.1 s.aa h E ps po:=by
 have hw:=S.mr.k;refine⟨S.k.alike λp hp=>vG C.len λx hx=>C.read ?_,S.t.holds.alike λp hp=>vG C.len λx hx=>C.read ?_⟩;have:=S.rg0 p hp;omega;have:=S.rg p hp;omega
end
abbrev mS(s:Sd):List au:=jR s.th s.m s.fu s.wh true s.ep s.pg s.bu s.aa s.fr s.fs s.gn
def coX(s:Sd):D3×Int:=coR (s.th,s.m,s.fu) (1 - s.wh) (s.ep+1) s.aa
def coT(s:Sd):Sd:=⟨(coX s).1.1,(coX s).1.2.1,(coX s).1.2.2,s.wh,s.ep,s.pg,s.bu,s.aa,s.fr,s.fs,s.gn⟩
def cO(s:Sd):Sd:=if(coX s).2=0 then iY (coT s) (1 - s.wh) (s.ep+1) s.aa else iY (coT s) s.wh s.ep s.pg
def coE(s:Sd):Int:=(coX s).2
abbrev hAt(s t:Sd):List au:=[er 1 t.wh true t.ep t.pg t.bu (.an 5 0),Ds.jw 3 4 t.fu,fm 1 s.aa s.fr s.fs s.gn,.aq (.az Ds.cS t.th) Ds.eS,.map Ds.kS t.m,fm 1 t.aa t.fr t.fs t.gn]
abbrev pN:Spec Sd:=⟨λ_=>[.an 0 0],mS,λs=>[Ds.bz s.th s.m s.fu,0<=s.ep/\s.ep<1099511627776,s.wh=0\/s.wh=1,nz (cO s).th (cO s).m (cO s).pg],λs=>hAt s (cO s),λs=>bQ (coE s)⟩
abbrev auJ:Spec Sd:=⟨λ_=>[.an 0 0],mS,λs=>[Ds.bz s.th s.m s.fu,nz s.th s.m s.pg],λs=>hAt s (iY s s.wh s.ep s.pg),λ_=>bQ 0⟩
abbrev auK:Spec (Sd×ByteArray×ByteArray):=⟨λ(_,k,v)=>[.an 0 0,.s (.ag k),.s (.ag v)],λ(s,_)=>mS s,λ(s,_)=>[Ds.bz s.th s.m s.fu,Bx.okW s.fr,0<=s.aa/\s.aa<=65536],λ(s,k,v)=>mS (bL s k (some v)),λ(s,k,v)=>bQ (jY s k (some v))⟩
abbrev axa:Spec (Sd×ByteArray):=⟨λ(_,k)=>[.an 0 0,.s (.ag k)],λ(s,_)=>mS s,λ(s,_)=>[Ds.bz s.th s.m s.fu,Bx.okW s.fr,0<=s.aa/\s.aa<=65536],λ(s,k)=>mS (bL s k none),λ(s,k)=>bQ (jY s k none)⟩
def mSs:List AV->RM (Sd×List Nat):=λa=>(mSt a).bind λ((th,m,fu,wh,_,ep,pg,bu,aa,fr,fs,gn),σ)=>.ret (⟨th,m,fu,wh,ep,pg,bu,aa,fr,fs,gn⟩,σ)
def axb:List AV->RM ((Sd×ByteArray×ByteArray)×List Nat)
 |[s,.s (.ag k),.s (.ag v)]=>(mSs [s]).bind λ(X,σ)=>.ret ((X,k,v),σ)
 |_=>.fail "no key"
def axc:List AV->RM ((Sd×ByteArray)×List Nat)
 |[s,.s (.ag k)]=>(mSs [s]).bind λ(X,σ)=>.ret ((X,k),σ)
 |_=>.fail "no key"
theorem ait:gE P Bx.bZ 39 auK:=λx=>aqQ ((x.1.th,x.1.m,x.1.fu,x.1.wh,true,x.1.ep,x.1.pg,x.1.bu,x.1.aa,x.1.fr,x.1.fs,x.1.gn),x.2.1,x.2.2)
theorem aq0:gE P Bx.bZ 40 axa:=λx=>aqR ((x.1.th,x.1.m,x.1.fu,x.1.wh,true,x.1.ep,x.1.pg,x.1.bu,x.1.aa,x.1.fr,x.1.fs,x.1.gn),x.2)
theorem an2{s:Sd}{D:D3}{e:Int}(c:coX s=(D,e)){r:Int}(hr:r=if e=0 then s.aa else s.pg){wh ep:Int}(hw:wh=if e=0 then 1 - s.wh else s.wh)(he:ep=if e=0 then s.ep+1 else s.ep):
 pN.eG s=[er 1 wh true ep r (dT D.1 D.2.1 r) (.an 5 0),Ds.jw 3 4 D.2.2,fm 1 s.aa s.fr s.fs s.gn,.aq (.az Ds.cS D.1) Ds.eS,.map Ds.kS D.2.1,fm 1 r (ny D.1 (dT D.1 D.2.1 r)) Bx.aL Bx.aL]/\pN.out s=bQ e:=by
 subst hr hw he;show hAt s (cO s)=_/\bQ (coE s)=_;unfold coE cO coT;rw[c];refine⟨?_,rfl⟩;by_cases h:e=0;rw[if_pos h,if_pos h,if_pos h,if_pos h];rfl;rw[if_neg h,if_neg h,if_neg h,if_neg h];rfl
theorem aiu{s:Sd}{D:D3}{e:Int}(c:coX s=(D,e))(R:nz (cO s).th (cO s).m (cO s).pg):nz D.1 D.2.1 (if e=0 then s.aa else s.pg):=by
 unfold cO coT at R;rw[c]at R;by_cases h:e=0;rw[if_pos h]at R ⊢;exact R;rw[if_neg h]at R ⊢;exact R
theorem yi:gE P Bx.bZ 41 pN:=by
 refine aK Tryz.func41 (by kernel_rfl) (λx=>le_of_ble_eq_true (by kernel_rfl)) ?_;rintro⟨(th:Th),(m:As),(fu:Int),(wh:Int),(ep:Int),(pg:Int),(bu:Ws),(aa:Int),(fr:Ws),(fs:Ws),(gn:Ws)⟩ ⟨(hd:Ds.bz th m fu),(hep:0<=ep/\ep<1099511627776),(hw:wh=0\/wh=1),(R:nz _ _ _),_⟩ X hX hz;have hk:aG (1 - wh):=uJ (by omega) (by omega);generalize hs:(⟨th,m,fu,wh,ep,pg,bu,aa,fr,fs,gn⟩:Sd)=s at R;have x0:coX s=coR (th,m,fu) (1 - wh) (ep+1) aa:=by subst hs;rfl
 have bad:∀(t:D3) (e:Int),y4 t->coX s=(t,e)->e≠0->nz t.1 t.2.1 pg/\pN.eG s=[er 1 wh true ep pg (dT t.1 t.2.1 pg) (.an 5 0),Ds.jw 3 4 t.2.2,fm 1 aa fr fs gn,.aq (.az Ds.cS t.1) Ds.eS,.map Ds.kS t.2.1,fm 1 pg (ny t.1 (dT t.1 t.2.1 pg)) Bx.aL Bx.aL]/\pN.out s=bQ e:=λt e d c h=>by
  have r:=aiu c R;rw[if_neg h]at r;subst hs;exact⟨r,an2 c (if_neg h).symm (if_neg h).symm (if_neg h).symm⟩
 have aco:∀(t:D3),y4 t->coX s=(t,0)->nz t.1 t.2.1 aa/\pN.eG s=[er 1 (1 - wh) true (ep+1) aa (dT t.1 t.2.1 aa) (.an 5 0),Ds.jw 3 4 t.2.2,fm 1 aa fr fs gn,.aq (.az Ds.cS t.1) Ds.eS,.map Ds.kS t.2.1,fm 1 aa (ny t.1 (dT t.1 t.2.1 aa)) Bx.aL Bx.aL]/\pN.out s=bQ 0:=λt d c=>by
  have r:=aiu c R;rw[if_pos rfl]at r;subst hs;exact⟨r,an2 c (if_pos rfl).symm (if_pos rfl).symm (if_pos rfl).symm⟩
 have hX:X.H=lk (jR th m fu wh true ep pg bu aa fr fs gn):=by subst hs;exact hX
 have s4:∀(t:D3),y4 t->coX s=aqV t->Safe P 41 X (eH pN s) (anV t.1 t.2.1 t.2.2 wh true ep pg bu aa fr fs gn true (ep+1) aa (1 - wh)):=λt d c=>by
  have d':=aaq d;refine Ds.dk hz hX oW jP Tryz.func41 (ay3 t.1 t.2.1 t.2.2 wh true ep pg bu aa fr fs gn true (ep+1) aa (1 - wh)) ⟨rfl,rfl,d,λh=> ?_,λh=>⟨uJ (by omega) (by omega),λh=>(by cases h),λ_=> ?_⟩⟩;have⟨r,o1,o2⟩:=bad _ _ d' c (bne_iff_ne.1 h);exact⟨rfl,rfl,d',r,bN 5 (by kernel_rfl) (le_refl _) o2 o1⟩;have h:Ds.yB t.2.2=0:=Decidable.byContradiction λx=>Bool.false_ne_true (h.symm.trans (bne_iff_ne.2 x));unfold aqV at c;rw[h]at c;have⟨r,o1,o2⟩:=aco _ d' c;have d':Ds.bz (cA t).1 (cA t).2.1 (cA t).2.2:=d';show Safe P 41 X (eH pN s) (yh (cA t).1 (cA t).2.1 (cA t).2.2 wh true ep pg bu aa fr fs gn true (ep+1) aa (1 - wh));generalize cA t=u at r o1 o2 d';exact Ds.dk hz hX oW jP Tryz.func41 (aw4 u.1 u.2.1 u.2.2 wh true ep pg bu aa fr fs gn true (ep+1) aa (1 - wh)) ⟨rfl,rfl,d',r,bN 5 (by kernel_rfl) (le_refl _) o2 o1⟩
 have s3:∀(t:D3),y4 t->coX s=aqW t (1 - wh) (ep+1) aa->Safe P 41 X (eH pN s) (anU t.1 t.2.1 t.2.2 wh true ep pg bu aa fr fs gn false (ep+1) aa (1 - wh)):=λt d c=>by
  have d':=ail (k:=1 - wh) (b:=true) (me:=ep+1) (mp:=aa) d;unfold aqW at c;refine Ds.dk hz hX oW jP Tryz.func41 (ay2 t.1 t.2.1 t.2.2 wh true ep pg bu aa fr fs gn false (ep+1) aa (1 - wh)) ⟨rfl,rfl,d,hk,λh=> ?_,λh=>⟨uJ (by omega) (by omega),λ_=>⟨by omega,by omega, ?_⟩,λh=>(by cases h)⟩⟩;rw[if_pos (bne_iff_ne.1 h)]at c;have⟨r,o1,o2⟩:=bad _ _ d' c (bne_iff_ne.1 h);exact⟨rfl,rfl,d',r,bN 5 (by kernel_rfl) (le_refl _) o2 o1⟩;rw[if_neg (λx=>Bool.false_ne_true (h.symm.trans (bne_iff_ne.2 x)))]at c;exact s4 _ d' c
 have s2:∀(t:D3),y4 t->coX s=aqX t (1 - wh) (ep+1) aa->Safe P 41 X (eH pN s) (anT t.1 t.2.1 t.2.2 wh true ep pg bu aa fr fs gn false (ep+1) aa (1 - wh)):=λt d c=>by
  have d':=aaq d;unfold aqX at c;refine Ds.dk hz hX oW jP Tryz.func41 (ay1 t.1 t.2.1 t.2.2 wh true ep pg bu aa fr fs gn false (ep+1) aa (1 - wh)) ⟨rfl,rfl,d,λh=> ?_,λh=>⟨uJ (by omega) (by omega),λ_=>⟨by omega,by omega, ?_⟩,λh=>(by cases h)⟩⟩;rw[if_pos (bne_iff_ne.1 h)]at c;have⟨r,o1,o2⟩:=bad _ _ d' c (bne_iff_ne.1 h);exact⟨rfl,rfl,d',r,bN 5 (by kernel_rfl) (le_refl _) o2 o1⟩;rw[if_neg (λx=>Bool.false_ne_true (h.symm.trans (bne_iff_ne.2 x)))]at c;exact s3 _ d' c
 have s1:∀(t:D3),y4 t->coX s=aqY t (1 - wh) (ep+1) aa->Safe P 41 X (eH pN s) (anS t.1 t.2.1 t.2.2 wh true ep pg bu aa fr fs gn false (ep+1) aa (1 - wh)):=λt d c=>by
  have d':=ail (k:=1 - wh) (b:=false) (me:=ep+1) (mp:=aa) d;unfold aqY at c;refine Ds.dk hz hX oW jP Tryz.func41 (ay0 t.1 t.2.1 t.2.2 wh true ep pg bu aa fr fs gn false (ep+1) aa (1 - wh)) ⟨rfl,rfl,d,hk,λh=> ?_,λh=>⟨uJ (by omega) (by omega),λ_=>⟨by omega,by omega, ?_⟩,λh=>(by cases h)⟩⟩;rw[if_pos (bne_iff_ne.1 h)]at c;have⟨r,o1,o2⟩:=bad _ _ d' c (bne_iff_ne.1 h);exact⟨rfl,rfl,d',r,bN 5 (by kernel_rfl) (le_refl _) o2 o1⟩;rw[if_neg (λx=>Bool.false_ne_true (h.symm.trans (bne_iff_ne.2 x)))]at c;exact s2 _ d' c
 have s0:∀(t:D3),y4 t->coX s=coR t (1 - wh) (ep+1) aa->Safe P 41 X (eH pN s) (asa t.1 t.2.1 t.2.2 wh true ep pg bu aa fr fs gn false (ep+1) aa (1 - wh)):=λt d c=>by
  have d':=aaq d;unfold coR at c;refine Ds.dk hz hX oW jP Tryz.func41 (ayZ t.1 t.2.1 t.2.2 wh true ep pg bu aa fr fs gn false (ep+1) aa (1 - wh)) ⟨rfl,rfl,d,λh=> ?_,λh=>⟨uJ (by omega) (by omega),λ_=>⟨by omega,by omega, ?_⟩,λh=>(by cases h)⟩⟩;rw[if_pos (bne_iff_ne.1 h)]at c;have⟨r,o1,o2⟩:=bad _ _ d' c (bne_iff_ne.1 h);exact⟨rfl,rfl,d',r,bN 5 (by kernel_rfl) (le_refl _) o2 o1⟩;rw[if_neg (λx=>Bool.false_ne_true (h.symm.trans (bne_iff_ne.2 x)))]at c;exact s1 _ d' c
 have s6:Safe P 41 X (eH pN s) (auF th m fu wh true ep pg bu aa fr fs gn false (ep+1) aa (1 - wh)):=
  Ds.dk hz hX oW jP Tryz.func41 (aw3 th m fu wh true ep pg bu aa fr fs gn false (ep+1) aa (1 - wh)) ⟨rfl,rfl,rfl,rfl,rfl,rfl,by omega,by omega,s0 (th,m,fu) hd x0⟩
 subst hs;exact Ds.dk hz hX oW jP Tryz.func41 (ayY th m fu wh true ep pg bu aa fr fs gn) ⟨λh=>absurd (of_decide_eq_true h) (by omega),λ_=>⟨⟨by omega,by omega⟩,rfl,rfl,hk,s6⟩⟩
theorem aeB:gE P Bx.bZ 42 auJ:=by
 refine aK Tryz.func42 (by kernel_rfl) (λx=>le_of_ble_eq_true (by kernel_rfl)) ?_;rintro⟨(th:Th),(m:As),(fu:Int),(wh:Int),(ep:Int),(pg:Int),(bu:Ws),(aa:Int),(fr:Ws),(fs:Ws),(gn:Ws)⟩ ⟨(hd:Ds.bz th m fu),(R:nz th m pg),_⟩ X hX hz;exact Ds.dk hz hX (by intro y hy;cases hy) (aR.Ok.cons (anQ.sum mA1) aR.Ok.nil) Tryz.func42 (ay4 th m fu wh true ep pg bu aa fr fs gn) ⟨rfl,rfl,hd,R,bN 5 (by kernel_rfl) (le_refl _) rfl rfl⟩
abbrev yl(n:Int):Th×As×Int×Int:=fH (th0 (4*n)) [] (-1) aY
def jS(n:Int):Sd:=iY ⟨(yl n).1,(yl n).2.1,(yl n).2.2.1,0,0,0,[],0,[],[],[]⟩ 0 1 0
theorem an3{n:Int}(h:3<=n/\n<=1024):(yl n).2.2.2=0/\(yl n).2.2.1= -1/\(yl n).2.1=[]/\Ds.bz (yl n).1 (yl n).2.1 (yl n).2.2.1/\Ds.fg (yl n).1=n/\Mrk (yl n).1 (yl n).2.1 0 1 0:=by
 have hl:((th0 (4*n)).length:Int)=4*n:=by
  show((replicate _ _).length:Int)=_;rw[List.length_replicate];omega
 have hN:Ds.fg (th0 (4*n))=n:=by
  unfold Ds.fg;rw[hl,Int.tdiv_eq_ediv_of_nonneg (by omega)];omega
 have hd:Ds.bz (th0 (4*n)) [] (-1):=Ds.alv (by omega);show(fH (th0 (4*n)) [] (-1) aY).2.2.2=0/\(fH (th0 (4*n)) [] (-1) aY).2.2.1= -1/\(fH (th0 (4*n)) [] (-1) aY).2.1=[]/\Ds.bz (fH (th0 (4*n)) [] (-1) aY).1 (fH (th0 (4*n)) [] (-1) aY).2.1 (fH (th0 (4*n)) [] (-1) aY).2.2.1/\Ds.fg (fH (th0 (4*n)) [] (-1) aY).1=n/\Mrk (fH (th0 (4*n)) [] (-1) aY).1 (fH (th0 (4*n)) [] (-1) aY).2.1 0 1 0;generalize th0 (4*n)=th at hl hN hd ⊢;have k0:Ds.mE th 0=0:=Ds.lj.2 ⟨by omega,by omega,by omega⟩;have k1:Ds.mE th 1=0:=Ds.lj.2 ⟨by omega,by omega,by omega⟩;have o0:Ds.yE 1 0:=⟨by decide,by decide,by decide,by decide⟩;have o1:Ds.yE 0 0:=⟨by decide,by decide,by decide,by decide⟩;have⟨a1,a2,a3⟩:=Ds.abp (on:=true) hd (by decide) k0 o0;have a2:Ds.pv th (-1) 0 true 1 0= -1:=a2;have d1:=Ds.adf (k:=0) (on:=true) (ep:=1) (pg:=0) hd;rw[a2]at d1;have⟨b1,b2,b3⟩:=Ds.abp (on:=false) d1 (by decide) k1 o1;have b2:Ds.pv th (-1) 1 false 0 0= -1:=b2;have d2:=Ds.adf (k:=1) (on:=false) (ep:=0) (pg:=0) d1;rw[b2]at d2
 have e:fH th [] (-1) aY=(Ds.lJ th (Ds.kz th (Ds.kz th [] (-1) 0 true 1 0) (-1) 1 false 0 0) (-1),[], -1,0):=by
  unfold fH;rw[if_neg (by omega)];show fo3 th (Ds.kz th [] (-1) 0 true 1 0,Ds.pv th (-1) 0 true 1 0,Ds.yD th (-1) 0 true 1 0) (false,(0:Int),(0:Int),())=_;unfold fo3;rw[if_neg (by rw[a1];simp),a2];show fo2 th (Ds.kz th (Ds.kz th [] (-1) 0 true 1 0) (-1) 1 false 0 0,Ds.pv th (-1) 1 false 0 0,Ds.yD th (-1) 1 false 0 0)=_;unfold fo2;rw[if_neg (by rw[b1];simp),b2];rfl
 rw[e];have d3:=Ds.arp d2;have l3:=air th (Ds.kz th (Ds.kz th [] (-1) 0 true 1 0) (-1) 1 false 0 0) (-1);have r3:=λx=>Ds.arq (th:=th) (m:=Ds.kz th (Ds.kz th [] (-1) 0 true 1 0) (-1) 1 false 0 0) (fu:= -1) (x:=x);have d3:Ds.bz (Ds.lJ th (Ds.kz th (Ds.kz th [] (-1) 0 true 1 0) (-1) 1 false 0 0) (-1)) [] (-1):=d3;have r3:∀x,Ds.dX (Ds.lJ th (Ds.kz th (Ds.kz th [] (-1) 0 true 1 0) (-1) 1 false 0 0) (-1)) [] x=if x=1*4 then Ds.rR false 0 0 else if x=0*4 then Ds.rR true 1 0 else Ds.dX th [] x:=λx=>by rw[<-a3,<-b3];exact r3 x
 generalize Ds.lJ th (Ds.kz th (Ds.kz th [] (-1) 0 true 1 0) (-1) 1 false 0 0) (-1)=th3 at d3 l3 r3;have n3:Ds.fg th3=n:=by rw[sG l3];exact hN
 have c0:Ds.mE th3 0=0:=by rw[sF l3];exact k0
 have c1:Ds.mE th3 1=0:=by rw[sF l3];exact k1
 have v0:=r3 (0*4);rw[if_neg (by decide),if_pos rfl]at v0;have v1:=r3 (1*4);rw[if_pos rfl]at v1;have⟨x1,x2,x3⟩:=Ds.alQ c0 v0;have⟨y1,y2,y3⟩:=Ds.alQ c1 v1;have⟨w1,w2,w3⟩:=Ds.alP (on:=true) o0;have⟨z1,z2,z3⟩:=Ds.alP (on:=false) o1;refine⟨rfl,rfl,rfl,d3,n3,.inl rfl,by rw[n3];exact h.1,x1.trans w1,x2.trans w2,x3.trans w3,λhh=> ?_⟩;have hh:Ds.jj th3 [] 1=true:=hh;rw[y1,z1]at hh;cases hh
theorem asb{n:Int}(h:3<=n/\n<=1024):SI (jS n) [] [] 0 0 [] 0 0 [] 0:=by
 have⟨a,b,c,d,e,f⟩:=an3 h;exact SI.make f d (.inl ⟨rfl,rfl,rfl,rfl,rfl⟩) List.nodup_nil (λp hp=>by cases hp) c (zero_le _) (zero_le _) (zero_le _) (by decide)
abbrev sK:List CK:=[.int .u8,.ag,.ag,.int .i64,.bY,.int .i64,.int .i64]
abbrev xK(x:CL sK):Int:=x.1
abbrev xA(x:CL sK):ByteArray:=x.2.1
abbrev xV(x:CL sK):ByteArray:=x.2.2.1
abbrev xB(x:CL sK):List Bool:=x.2.2.2.2.1
abbrev av8(l:List (CL sK)):AV:=.s (.ro (.az sK l))
def aq1:List (Nat×Norm):=[(3,⟨[(7,.az cE [],Lf.eE)],[0,1,2,7,8],0,[]⟩)]
noncomputable def cPu(l:List En)(ad val:ByteArray)(i:Int):cn:=⟨sl 54 [(0,.s (.ro (.az cE l))),(1,.s (.ag ad)),(2,.s (.ag val)),(7,.aq 0),(8,bQ i)],[.aq (.az cE []) Lf.eE],hd Tryz.f94 3,{}⟩
def aq2:List (Nat×Norm):=[(3,⟨[(5,.az cE [],Lf.eE)],[0,1,5,6],0,[]⟩)]
noncomputable def cDe(l out:List En)(ad:ByteArray)(i:Int):cn:=⟨sl 28 [(0,.s (.ro (.az cE l))),(1,.s (.ag ad)),(5,.aq 0),(6,bQ i)],[.aq (.az cE out) Lf.eE],hd Tryz.f95 3,{}⟩
def aq3:List (Nat×Norm):=[(4,⟨[],[0,3],0,[]⟩)]
noncomputable def cL8(l:List (CL sK))(i:Int):cn:=⟨sl 38 [(0,av8 l),(3,bQ i)],[],hd Tryz.f46 4,{}⟩
abbrev sL8:Spec (List (CL sK)):=⟨λl=>[av8 l],λ_=>[],λl=>[l.length<=9223372036854775807],λ_=>[],λl=>.s (.lD (l.length - 120) false)⟩
abbrev axd:Type:=Sd×List En
abbrev ags:Spec axd:=⟨λ(_,w)=>[.an 0 0,.s (.ro (.az cE w))],λ(s,_)=>mS s,λ(s,w)=>[Ds.bz s.th s.m s.fu,0<=s.aa/\s.aa<=65536,yW s.th s.m s.aa empty=0,(qV s.th s.m s.aa empty).length<=1000,w.length<=1000],λ(s,_)=>mS s,λ(s,w)=>.s (.bool (decide (qV s.th s.m s.aa empty=w)))⟩
def agt:aR:=[(36,cC aw2 mSK)]
def aiv:List (Nat×Norm):=[(5,⟨[],[1,5,7],5,[]⟩)]
noncomputable def aq4(th:Th)(m:As)(fu wh ep pg:Int)(bu:Ws)(aa:Int)(fr fs gn:Ws)(w ym:List En)(i:Int):cn:=⟨sl 37 [(1,.s (.ro (.az cE w))),(5,.aq 5),(7,bQ i)],jR th m fu wh true ep pg bu aa fr fs gn++[.aq (.az cE ym) Lf.eE],hd Tryz.f50 5,{}⟩
def axe:aR:=[(38,cC sFo mFo),(37,cC ud Ds.xb)]
abbrev sPu:Spec (List En×ByteArray×ByteArray):=⟨λ(l,ad,val)=>[.s (.ro (.az cE l)),.s (.ag ad),.s (.ag val)],λ_=>[],λ(l,_,_)=>[l.length<=1000],λ(l,ad,val)=>[.aq (.az cE (bX l ad val)) Lf.eE],λ_=>.aq 0⟩
abbrev sDe:Spec (List En×ByteArray):=⟨λ(l,ad)=>[.s (.ro (.az cE l)),.s (.ag ad)],λ_=>[],λ(l,_)=>[l.length<=1000],λ(l,ad)=>[.aq (.az cE (cN l ad)) Lf.eE],λ_=>.aq 0⟩
def mPu:List AV->RM ((List En×ByteArray×ByteArray)×List Nat)
 |[.s (.ro (.az [.ag,.ag] l)),.s (.ag ad),.s (.ag val)]=>.ret ((l,ad,val),[])
 |_=>.fail "no row"
def mDe:List AV->RM ((List En×ByteArray)×List Nat)
 |[.s (.ro (.az [.ag,.ag] l)),.s (.ag ad)]=>.ret ((l,ad),[])
 |_=>.fail "no row"
def mL8:List AV->RM (List (CL sK)×List Nat)
 |[.s (.ro (.az [.int .u8,.ag,.ag,.int .i64,.bY,.int .i64,.int .i64] l))]=>.ret (l,[])
 |_=>.fail "no steps"
def axf:List AV->RM (axd×List Nat)
 |[s,.s (.ro (.az [.ag,.ag] w))]=>(mSs [s]).bind λ(X,σ)=>.ret ((X,w),σ)
 |_=>.fail "no row"
abbrev hBg(s:Sd):List au:=[Ds.jw 2 3 s.fu,er 0 s.wh true s.ep s.pg s.bu (.an 4 0),.aq (.az Ds.cS s.th) Ds.eS,.map Ds.kS s.m,fm 0 s.aa s.fr s.fs s.gn]
abbrev sBg:Spec Int:=⟨λn=>[bQ n],λ_=>[],λn=>[3<=n/\n<=1000],λn=>hBg (jS n),λ_=>.bD [.an 0 0,.an 1 0]⟩
def mBg:List AV->RM (Int×List Nat)
 |[n]=>match n.cP with
  |some (_,_,n)=>.ret (n,[])
  |_=>.fail "no number"
 |_=>.fail "no number"
abbrev axg:=cU [] [dg] (λ_=>[]) (λ_=>(true,()))
theorem ay7(l:List En)(ad val:ByteArray):run P (aR.sum []) Tryz.f94 aq1 (start Tryz.f94 [.s (.ro (.az cE l)),.s (.ag ad),.s (.ag val)] [])=
 Tree.at (cPu l ad val 0):=by kernel_rfl
theorem axh(l:List En)(ad val:ByteArray)(i:Int):run P (aR.sum []) Tryz.f94 aq1 (cPu l ad val i)=
 Tree.ite (decide (i<(↑l.length:Int))) (.ab ((0:Int)<=i) (.ab (i<(↑l.length:Int)) (.ite (slt (l.getD i.toNat (CL.d [.ag,.ag])).fst ad) (.ab (aG (i+1)) (.at (cPu l ad val (i+1)))) (.ab ((0:Int)<=0) (.ab ((0:Int)<=i) (.ab (i<=(↑l.length:Int)) (.ab (((0:Nat)+(List.drop (Int.toNat 0) (List.take i.toNat l)).length)*(32:Nat)<=140737488355328) (.ab ((([]++List.drop (Int.toNat 0) (List.take i.toNat l)).length+1)*(32:Nat)<=140737488355328) (.ite (decide (i<(↑l.length:Int))) (.ab ((0:Int)<=i) (.ab (i<(↑l.length:Int)) (.ite (decide ((l.getD i.toNat (CL.d [.ag,.ag])).fst=ad)) (.ab (aG (i+1)) (.ab ((0:Int)<=i+1) (.ab (i+1<=(↑l.length:Int)) (.ab ((↑l.length:Int)<=(↑l.length:Int)) (.ab ((([]++List.drop (Int.toNat 0) (List.take i.toNat l)++[(ad,val,())]).length+(List.drop (i+1).toNat (List.take (↑l.length:Int).toNat l)).length)*(32:Nat)<=140737488355328) (.ret [.aB,.aB,.aq (.az [.ag,.ag] [(ad,val,())]) 66,.aB,.aq (.az [.ag,.ag] ([]++List.drop (Int.toNat 0) (List.take i.toNat l)++[(ad,val,())]++List.drop (i+1).toNat (List.take (↑l.length:Int).toNat l))) 66] (.aq 4))))))) (.ab ((0:Int)<=i) (.ab (i<=(↑l.length:Int)) (.ab ((↑l.length:Int)<=(↑l.length:Int)) (.ab ((([]++List.drop (Int.toNat 0) (List.take i.toNat l)++[(ad,val,())]).length+(List.drop i.toNat (List.take (↑l.length:Int).toNat l)).length)*(32:Nat)<=140737488355328) (.ret [.aB,.aB,.aq (.az [.ag,.ag] [(ad,val,())]) 66,.aB,.aq (.az [.ag,.ag] ([]++List.drop (Int.toNat 0) (List.take i.toNat l)++[(ad,val,())]++List.drop i.toNat (List.take (↑l.length:Int).toNat l))) 66] (.aq 4))))))))) (.ab ((0:Int)<=i) (.ab (i<=(↑l.length:Int)) (.ab ((↑l.length:Int)<=(↑l.length:Int)) (.ab ((([]++List.drop (Int.toNat 0) (List.take i.toNat l)++[(ad,val,())]).length+(List.drop i.toNat (List.take (↑l.length:Int).toNat l)).length)*(32:Nat)<=140737488355328) (.ret [.aB,.aB,.aq (.az [.ag,.ag] [(ad,val,())]) 66,.aB,.aq (.az [.ag,.ag] ([]++List.drop (Int.toNat 0) (List.take i.toNat l)++[(ad,val,())]++List.drop i.toNat (List.take (↑l.length:Int).toNat l))) 66] (.aq 4)))))))))))))))
 (.ab ((0:Int)<=0) (.ab ((0:Int)<=i) (.ab (i<=(↑l.length:Int)) (.ab (((0:Nat)+(List.drop (Int.toNat 0) (List.take i.toNat l)).length)*(32:Nat)<=140737488355328) (.ab ((([]++List.drop (Int.toNat 0) (List.take i.toNat l)).length+1)*(32:Nat)<=140737488355328) (.ite (decide (i<(↑l.length:Int))) (.ab ((0:Int)<=i) (.ab (i<(↑l.length:Int)) (.ite (decide ((l.getD i.toNat (CL.d [.ag,.ag])).fst=ad)) (.ab (aG (i+1)) (.ab ((0:Int)<=i+1) (.ab (i+1<=(↑l.length:Int)) (.ab ((↑l.length:Int)<=(↑l.length:Int)) (.ab ((([]++List.drop (Int.toNat 0) (List.take i.toNat l)++[(ad,val,())]).length+(List.drop (i+1).toNat (List.take (↑l.length:Int).toNat l)).length)*(32:Nat)<=140737488355328) (.ret [.aB,.aB,.aq (.az [.ag,.ag] [(ad,val,())]) 66,.aB,.aq (.az [.ag,.ag] ([]++List.drop (Int.toNat 0) (List.take i.toNat l)++[(ad,val,())]++List.drop (i+1).toNat (List.take (↑l.length:Int).toNat l))) 66] (.aq 4))))))) (.ab ((0:Int)<=i) (.ab (i<=(↑l.length:Int)) (.ab ((↑l.length:Int)<=(↑l.length:Int)) (.ab ((([]++List.drop (Int.toNat 0) (List.take i.toNat l)++[(ad,val,())]).length+(List.drop i.toNat (List.take (↑l.length:Int).toNat l)).length)*(32:Nat)<=140737488355328) (.ret [.aB,.aB,.aq (.az [.ag,.ag] [(ad,val,())]) 66,.aB,.aq (.az [.ag,.ag] ([]++List.drop (Int.toNat 0) (List.take i.toNat l)++[(ad,val,())]++List.drop i.toNat (List.take (↑l.length:Int).toNat l))) 66] (.aq 4))))))))) (.ab ((0:Int)<=i) (.ab (i<=(↑l.length:Int)) (.ab ((↑l.length:Int)<=(↑l.length:Int)) (.ab ((([]++List.drop (Int.toNat 0) (List.take i.toNat l)++[(ad,val,())]).length+(List.drop i.toNat (List.take (↑l.length:Int).toNat l)).length)*(32:Nat)<=140737488355328) (.ret [.aB,.aB,.aq (.az [.ag,.ag] [(ad,val,())]) 66,.aB,.aq (.az [.ag,.ag] ([]++List.drop (Int.toNat 0) (List.take i.toNat l)++[(ad,val,())]++List.drop i.toNat (List.take (↑l.length:Int).toNat l))) 66] (.aq 4)))))))))))):=by kernel_rfl
theorem ay8(l:List En)(ad:ByteArray):run P (aR.sum []) Tryz.f95 aq2 (start Tryz.f95 [.s (.ro (.az cE l)),.s (.ag ad)] [])=
 Tree.at (.mk (sl 28 [(0,.s (.ro (.az [.ag,.ag] l))),(1,.s (.ag ad)),(5,.aq 0),(6,.s (.int .i64 0))]) [.aq (.az [.ag,.ag] []) 66] (hd Tryz.f95 3) (.mk none false 0 [] 0)):=by kernel_rfl
theorem axi(l out:List En)(ad:ByteArray)(i:Int):run P (aR.sum []) Tryz.f95 aq2 (cDe l out ad i)=
 Tree.ite (decide (i<(↑l.length:Int))) (.ab ((0:Int)<=i) (.ab (i<(↑l.length:Int)) (.ite (!decide ((l.getD i.toNat (CL.d [.ag,.ag])).fst=ad)) (.ab ((0:Int)<=i) (.ab (i<(↑l.length:Int)) (.ab ((out.length+1)*(32:Nat)<=140737488355328) (.ab (aG (i+1)) (.at (.mk (sl 28 [(0,.s (.ro (.az [.ag,.ag] l))),(1,.s (.ag ad)),(5,.aq 0),(6,.s (.int .i64 (i+1)))]) [.aq (.az [.ag,.ag] (out++[((l.getD i.toNat (CL.d [.ag,.ag])).fst,(l.getD i.toNat (CL.d [.ag,.ag])).snd.fst,())])) 66] (hd Tryz.f95 3) (.mk none false 0 [] 0))))))) (.ab (aG (i+1)) (.at (cDe l out ad (i+1))))))) (.ret [.aq (.az [.ag,.ag] out) 66] (.aq 0)):=by kernel_rfl
theorem ay9(l:List (CL sK)):run P (aR.sum []) Tryz.f46 aq3 (start Tryz.f46 [av8 l] [])=
 Tree.ite (decide ((↑l.length:Int)>120)) (.ret [] (.s (.aT true))) (.at (cL8 l 0)):=by kernel_rfl
theorem axj(l:List (CL sK))(i:Int):run P (aR.sum []) Tryz.f46 aq3 (cL8 l i)=
 Tree.ite (decide (i<(↑l.length:Int))) (.ab ((0:Int)<=i) (.ab (i<(↑l.length:Int)) (.ite (decide ((↑(xA (el l i)).size:Int)>100)) (.ret [] (.s (.aT true))) (.ab ((0:Int)<=i) (.ab (i<(↑l.length:Int)) (.ite (decide ((↑(xV (el l i)).size:Int)>300)) (.ret [] (.s (.aT true))) (.ab ((0:Int)<=i) (.ab (i<(↑l.length:Int)) (.ite (decide ((↑(xB (el l i)).length:Int)>400)) (.ret [] (.s (.aT true))) (.ab (aG (i+1)) (.at (cL8 l (i+1))))))))))))) (.ret [] (.s (.aT false))):=by kernel_rfl
theorem axk(th:Th)(m:As)(fu wh ep pg:Int)(bu:Ws)(aa:Int)(fr fs gn:Ws)(w:List En):run P agt.sum Tryz.f50 aiv (start Tryz.f50 [.an 0 0,.s (.ro (.az cE w))] (jR th m fu wh true ep pg bu aa fr fs gn))=
 Tree.ab (bx (some [AV.an 0 0,.s (.ag empty)])) (.ab (bx (some (jR th m fu wh true ep pg bu aa fr fs gn))) (.ab (Ds.bz th m fu) (.ab ((0:Int)<=aa/\aa<=65536) (.ite (yW th m aa empty !=0) (.ret (jR th m fu wh true ep pg bu aa fr fs gn++[.aq (.az [.ag,.ag] (qV th m aa empty)) 66]) (.s (.aT false))) (.ite ((↑(qV th m aa empty).length:Int) !=(↑w.length:Int)) (.ret (jR th m fu wh true ep pg bu aa fr fs gn++[.aq (.az [.ag,.ag] (qV th m aa empty)) 66]) (.s (.aT false))) (.at (aq4 th m fu wh ep pg bu aa fr fs gn w (qV th m aa empty) 0))))))):=by kernel_rfl
theorem asc(th:Th)(m:As)(fu wh ep pg:Int)(bu:Ws)(aa:Int)(fr fs gn:Ws)(w ym:List En)(i:Int):run P agt.sum Tryz.f50 aiv (aq4 th m fu wh ep pg bu aa fr fs gn w ym i)=
 Tree.ite (decide (i<(↑ym.length:Int))) (.ab ((0:Int)<=i) (.ab (i<(↑ym.length:Int)) (.ab ((0:Int)<=i) (.ab (i<(↑w.length:Int)) (.ite (!(decide ((ym.getD i.toNat (CL.d [.ag,.ag])).fst=(w.getD i.toNat (CL.d [.ag,.ag])).fst)&&(decide ((ym.getD i.toNat (CL.d [.ag,.ag])).snd.fst=(w.getD i.toNat (CL.d [.ag,.ag])).snd.fst)&&true))) (.ret (jR th m fu wh true ep pg bu aa fr fs gn++[.aq (.az [.ag,.ag] ym) 66]) (.s (.aT false))) (.ab (aG (i+1)) (.at (aq4 th m fu wh ep pg bu aa fr fs gn w ym (i+1))))))))) (.ret (jR th m fu wh true ep pg bu aa fr fs gn++[.aq (.az [.ag,.ag] ym) 66]) (.s (.aT true))):=by kernel_rfl
theorem aza(n:Int):run P axe.sum Tryz.f47 [] (start Tryz.f47 [bQ n] []) (inl:=[11])=
 Tree.ab (aG ((4:Int)*n))
 (.ite (decide ((4:Int)*n<1)) (.ret [] (.bD [.s .jz,.s .jz]))
   (.ite (decide ((4:Int)*n>4096)) (.ret [] (.bD [.s .jz,.s .jz]))
     (.ab ((0:Int)<=4*n)
       (.ab ((4:Int)*n<=4*n)
         (.ab ((4:Int)*n<=1073741824)
           (.ab (bx (some [AV.an 0 0]))
             (.ab (bx (some (Ds.hD (replicate ((4:Int)*n).toNat (CL.d [.arr .u8 64])) [] (-1))))
               (.ab (Ds.bz (replicate ((4:Int)*n).toNat (CL.d [.arr .u8 64])) [] (-1))
                 (.ab (aY=aY)
                   (.ite ((fH (replicate ((4:Int)*n).toNat (CL.d [.arr .u8 64])) [] (-1) aY).snd.snd.snd !=0) (.ret [.aq (.az [.arr .u8 64] (fH (replicate ((4:Int)*n).toNat (CL.d [.arr .u8 64])) [] (-1) aY).fst) 165,.map Ds.kS (fH (replicate ((4:Int)*n).toNat (CL.d [.arr .u8 64])) [] (-1) aY).snd.fst,Ds.jw 0 1 ((fH (replicate ((4:Int)*n).toNat (CL.d [.arr .u8 64])) [] (-1) aY).snd.snd.fst)] (.bD [.s .jz,.s .jz]))
                     (.ab (bx (some [AV.an 0 0]))
                       (.ab (bx (some (Ds.hD (fH (replicate ((4:Int)*n).toNat (CL.d [.arr .u8 64])) [] (-1) aY).fst (fH (replicate ((4:Int)*n).toNat (CL.d [.arr .u8 64])) [] (-1) aY).snd.fst (fH (replicate ((4:Int)*n).toNat (CL.d [.arr .u8 64])) [] (-1) aY).snd.snd.fst)))
                         (.ab (Ds.bz (fH (replicate ((4:Int)*n).toNat (CL.d [.arr .u8 64])) [] (-1) aY).fst (fH (replicate ((4:Int)*n).toNat (CL.d [.arr .u8 64])) [] (-1) aY).snd.fst (fH (replicate ((4:Int)*n).toNat (CL.d [.arr .u8 64])) [] (-1) aY).snd.snd.fst)
                           (.ab ((3:Int)<=Ds.fg (fH (replicate ((4:Int)*n).toNat (CL.d [.arr .u8 64])) [] (-1) aY).fst)
                             (.ab ((eK (fH (replicate ((4:Int)*n).toNat (CL.d [.arr .u8 64])) [] (-1) aY).fst (fH (replicate ((4:Int)*n).toNat (CL.d [.arr .u8 64])) [] (-1) aY).snd.fst).snd.fst=true)
                               (.ab (nz (fH (replicate ((4:Int)*n).toNat (CL.d [.arr .u8 64])) [] (-1) aY).fst (fH (replicate ((4:Int)*n).toNat (CL.d [.arr .u8 64])) [] (-1) aY).snd.fst (eK (fH (replicate ((4:Int)*n).toNat (CL.d [.arr .u8 64])) [] (-1) aY).fst (fH (replicate ((4:Int)*n).toNat (CL.d [.arr .u8 64])) [] (-1) aY).snd.fst).snd.snd.snd)
                                 (.ite false (.ret [.aq (.az [.arr .u8 64] (fH (replicate ((4:Int)*n).toNat (CL.d [.arr .u8 64])) [] (-1) aY).fst) 165,.map Ds.kS (fH (replicate ((4:Int)*n).toNat (CL.d [.arr .u8 64])) [] (-1) aY).snd.fst,Ds.jw 0 1 ((fH (replicate ((4:Int)*n).toNat (CL.d [.arr .u8 64])) [] (-1) aY).snd.snd.fst),.ay [.an 2 0,.s (.int .i64 (eK (fH (replicate ((4:Int)*n).toNat (CL.d [.arr .u8 64])) [] (-1) aY).fst (fH (replicate ((4:Int)*n).toNat (CL.d [.arr .u8 64])) [] (-1) aY).snd.fst).fst),.s (.bool true),.s (.int .i64 (eK (fH (replicate ((4:Int)*n).toNat (CL.d [.arr .u8 64])) [] (-1) aY).fst (fH (replicate ((4:Int)*n).toNat (CL.d [.arr .u8 64])) [] (-1) aY).snd.fst).snd.snd.fst),.s (.int .i64 (eK (fH (replicate ((4:Int)*n).toNat (CL.d [.arr .u8 64])) [] (-1) aY).fst (fH (replicate ((4:Int)*n).toNat (CL.d [.arr .u8 64])) [] (-1) aY).snd.fst).snd.snd.snd),.aw .u64 16 (dT (fH (replicate ((4:Int)*n).toNat (CL.d [.arr .u8 64])) [] (-1) aY).fst (fH (replicate ((4:Int)*n).toNat (CL.d [.arr .u8 64])) [] (-1) aY).snd.fst (eK (fH (replicate ((4:Int)*n).toNat (CL.d [.arr .u8 64])) [] (-1) aY).fst (fH (replicate ((4:Int)*n).toNat (CL.d [.arr .u8 64])) [] (-1) aY).snd.fst).snd.snd.snd),.an 4 0] 155,fm 2 ((eK (fH (replicate ((4:Int)*n).toNat (CL.d [.arr .u8 64])) [] (-1) aY).fst (fH (replicate ((4:Int)*n).toNat (CL.d [.arr .u8 64])) [] (-1) aY).snd.fst).snd.snd.snd) (ny (fH (replicate ((4:Int)*n).toNat (CL.d [.arr .u8 64])) [] (-1) aY).fst (dT (fH (replicate ((4:Int)*n).toNat (CL.d [.arr .u8 64])) [] (-1) aY).fst (fH (replicate ((4:Int)*n).toNat (CL.d [.arr .u8 64])) [] (-1) aY).snd.fst (eK (fH (replicate ((4:Int)*n).toNat (CL.d [.arr .u8 64])) [] (-1) aY).fst (fH (replicate ((4:Int)*n).toNat (CL.d [.arr .u8 64])) [] (-1) aY).snd.fst).snd.snd.snd)) Bx.aL Bx.aL] (.bD [.s .jz,.s .jz]))
                                   (.ret [.aq (.az [.arr .u8 64] (fH (replicate ((4:Int)*n).toNat (CL.d [.arr .u8 64])) [] (-1) aY).fst) 165,.map Ds.kS (fH (replicate ((4:Int)*n).toNat (CL.d [.arr .u8 64])) [] (-1) aY).snd.fst,Ds.jw 0 1 ((fH (replicate ((4:Int)*n).toNat (CL.d [.arr .u8 64])) [] (-1) aY).snd.snd.fst),.ay [.an 2 0,.s (.int .i64 (eK (fH (replicate ((4:Int)*n).toNat (CL.d [.arr .u8 64])) [] (-1) aY).fst (fH (replicate ((4:Int)*n).toNat (CL.d [.arr .u8 64])) [] (-1) aY).snd.fst).fst),.s (.bool true),.s (.int .i64 (eK (fH (replicate ((4:Int)*n).toNat (CL.d [.arr .u8 64])) [] (-1) aY).fst (fH (replicate ((4:Int)*n).toNat (CL.d [.arr .u8 64])) [] (-1) aY).snd.fst).snd.snd.fst),.s (.int .i64 (eK (fH (replicate ((4:Int)*n).toNat (CL.d [.arr .u8 64])) [] (-1) aY).fst (fH (replicate ((4:Int)*n).toNat (CL.d [.arr .u8 64])) [] (-1) aY).snd.fst).snd.snd.snd),.aw .u64 16 (dT (fH (replicate ((4:Int)*n).toNat (CL.d [.arr .u8 64])) [] (-1) aY).fst (fH (replicate ((4:Int)*n).toNat (CL.d [.arr .u8 64])) [] (-1) aY).snd.fst (eK (fH (replicate ((4:Int)*n).toNat (CL.d [.arr .u8 64])) [] (-1) aY).fst (fH (replicate ((4:Int)*n).toNat (CL.d [.arr .u8 64])) [] (-1) aY).snd.fst).snd.snd.snd),.an 4 0] 155,fm 2 ((eK (fH (replicate ((4:Int)*n).toNat (CL.d [.arr .u8 64])) [] (-1) aY).fst (fH (replicate ((4:Int)*n).toNat (CL.d [.arr .u8 64])) [] (-1) aY).snd.fst).snd.snd.snd) (ny (fH (replicate ((4:Int)*n).toNat (CL.d [.arr .u8 64])) [] (-1) aY).fst (dT (fH (replicate ((4:Int)*n).toNat (CL.d [.arr .u8 64])) [] (-1) aY).fst (fH (replicate ((4:Int)*n).toNat (CL.d [.arr .u8 64])) [] (-1) aY).snd.fst (eK (fH (replicate ((4:Int)*n).toNat (CL.d [.arr .u8 64])) [] (-1) aY).fst (fH (replicate ((4:Int)*n).toNat (CL.d [.arr .u8 64])) [] (-1) aY).snd.fst).snd.snd.snd)) Bx.aL Bx.aL] (.bD [.an 2 0,.an 3 0]))))))))))))))))))):=by kernel_rfl
abbrev eBk:TypeId:=80
abbrev obB(now bc:List En):au:=.ay [.s (.ro (.az cE now)),.s (.ro (.az cE bc))] eBk
abbrev fDo:FuncId:=48
def kDo(i:Nat):Nat:=(fDo+1)*100000+i
def uK:aR:=[(46,cC sL8 mL8),(45,axg),(44,cC auE mSt),(43,cC auD mSt),(39,cC auK axb),(40,cC axa axc),(35,cC auC mSK),(41,cC pN mSs),(42,cC auJ mSs),(37,cC ud Ds.xb),(94,cC sPu mPu),(95,cC sDe mDe),(50,afD 1 (.az cE []) (cC ags axf)),(47,cC sBg mBg)]
abbrev hP(s:Sd)(now bc:List En):List au:=[Ds.jw 3 4 s.fu,er 0 s.wh true s.ep s.pg s.bu (.an 5 0),obB now bc,.aq (.az Ds.cS s.th) Ds.eS,.map Ds.kS s.m,fm 0 s.aa s.fr s.fs s.gn]
def roB:List (Nat×Nat×Bool×a8×TypeId):=[(2,0,true,.az cE [],Lf.eE),(2,1,true,.az cE [],Lf.eE)]
def azb:List (Nat×Nat×Bool×a8×TypeId):=[(0,0,true,.az cE [],Lf.eE),(0,1,true,.az cE [],Lf.eE)]
def aj6:List (Nat×Norm):=[(9,⟨[],[1,5,6,7,8,9],0,roB⟩),(kDo 18,⟨[],[0,1,6,95,99,100,101,102,103],0,azb⟩),(18,⟨[],[6,7,8],0,[]⟩),(21,⟨[],[6,7,8,14],0,[]⟩),(25,⟨[],[6,7],0,[]⟩)]
noncomputable def cSp(l:List (CL sK))(all i:Int)(s:Sd)(now bc:List En):cn:=⟨sl 126 [(1,av8 l),(5,.an 0 0),(6,.an 1 0),(7,bQ all),(8,.an 2 0),(9,bQ i)],hP s now bc,hd Tryz.f6 9,{}⟩
abbrev hDp(s:Sd)(now bc:List En):List au:=[obB now bc,er 2 s.wh true s.ep s.pg s.bu (.an 3 0),Ds.jw 4 5 s.fu,fm 2 s.aa s.fr s.fs s.gn,.aq (.az Ds.cS s.th) Ds.eS,.map Ds.kS s.m]
abbrev hQ(s:Sd)(now bc:List En):List au:=[er 2 s.wh true s.ep s.pg s.bu (.an 3 0),obB now bc,Ds.jw 4 5 s.fu,fm 2 s.aa s.fr s.fs s.gn,.aq (.az Ds.cS s.th) Ds.eS,.map Ds.kS s.m]
noncomputable def cDp(l:List (CL sK))(all i e:Int)(s:Sd)(now bc:List En):cn:=⟨sl 220 [(0,.an 0 0),(1,.an 1 0),(6,bQ e),(95,av8 l),(99,.an 2 0),(100,.an 1 0),(101,bQ all),(102,.an 0 0),(103,bQ i)],hDp s now bc,hr Tryz.f48 18,⟨some fDo,false,0,[abb Tryz.f6 none 11 5 false 0],0⟩⟩
noncomputable def axl(all:Int)(s:Sd)(now bc:List En):cn:=⟨sl 126 [(6,.an 0 0),(7,bQ all),(8,.an 1 0)],hQ s now bc,hr Tryz.f6 18,{}⟩
noncomputable def axm(all i:Int)(s:Sd)(now bc:List En):cn:=⟨sl 126 [(6,.an 0 0),(7,bQ all),(8,.an 1 0),(14,bQ i)],hQ s now bc,hd Tryz.f6 21,{}⟩
abbrev hQ5(s:Sd):List au:=[er 1 s.wh true s.ep s.pg s.bu (.an 2 0),Ds.jw 3 4 s.fu,fm 1 s.aa s.fr s.fs s.gn,.aq (.az Ds.cS s.th) Ds.eS,.map Ds.kS s.m]
noncomputable def axn(all:Int)(s:Sd):cn:=⟨sl 126 [(6,.an 0 0),(7,bQ all)],hQ5 s,hr Tryz.f6 25,{}⟩
theorem azc(p:Int)(l:List (CL sK)):run P uK.sum Tryz.f6 aj6 (start Tryz.f6 [.s (.int .u8 p),av8 l] []) (inl:=[48])=
 Tree.ab (bx (some [AV.s (.ro (.az sK l))])) (.ab acZ (.ab (l.length<=9223372036854775807) (.both True (l.length - (120:Nat)=0) (.ret [] (.s (.bool true))) (.ite false (.ret [] (.s (.bool true))) (.ab ((60:Int)≠0) (.ab (aG (p.tmod 60)) (.ab (aG ((8:Int)+p.tmod 60)) (.ab (bx (some [AV.s (.int .i64 ((8:Int)+p.tmod 60))])) (.ab acZ (.ab ((3:Int)<=8+p.tmod (60:Int)/\(8:Int)+p.tmod (60:Int)<=1000) (.ab (bx (some [AV.an 0 0])) (.ab (bx (some (mS (jS ((8:Int)+p.tmod 60))))) (.ab (Ds.bz (jS ((8:Int)+p.tmod 60)).th (jS ((8:Int)+p.tmod 60)).m (jS ((8:Int)+p.tmod 60)).fu) (.ab ((0:Int)<=(jS ((8:Int)+p.tmod 60)).aa/\(jS ((8:Int)+p.tmod 60)).aa<=65536) (.ab (sI (jS ((8:Int)+p.tmod 60)).th (jS ((8:Int)+p.tmod 60)).m (jS ((8:Int)+p.tmod 60)).aa=0) (.ab (Bx.okW (ef (jS ((8:Int)+p.tmod 60)).th (jS ((8:Int)+p.tmod 60)).m (jS ((8:Int)+p.tmod 60)).bu (jS ((8:Int)+p.tmod 60)).aa)) (.at (.mk (sl 126 [(1,.s (.ro (.az sK l))),(5,.an 0 0),(6,.an 1 0),(7,.s (.int .i64 (Bx.iM (ef (jS ((8:Int)+p.tmod 60)).th (jS ((8:Int)+p.tmod 60)).m (jS ((8:Int)+p.tmod 60)).bu (jS ((8:Int)+p.tmod 60)).aa)))),(8,.an 2 0),(9,.s (.int .i64 0))]) [Ds.jw 3 4 ((jS ((8:Int)+p.tmod 60)).fu),er 0 ((jS ((8:Int)+p.tmod 60)).wh) true ((jS ((8:Int)+p.tmod 60)).ep) ((jS ((8:Int)+p.tmod 60)).pg) ((jS ((8:Int)+p.tmod 60)).bu) (.an 5 0),.ay [.s (.ro (.az [.ag,.ag] [])),.s (.ro (.az [.ag,.ag] []))] 80,.aq (.az Ds.cS (jS ((8:Int)+p.tmod 60)).th) Ds.eS,.map Ds.kS (jS ((8:Int)+p.tmod 60)).m,fm 0 ((jS ((8:Int)+p.tmod 60)).aa) ((jS ((8:Int)+p.tmod 60)).fr) ((jS ((8:Int)+p.tmod 60)).fs) ((jS ((8:Int)+p.tmod 60)).gn)] (hd Tryz.f6 9) (.mk none false 0 [] 0))))))))))))))))))):=by kernel_rfl
theorem axo(l:List (CL sK))(all i:Int)(s:Sd)(now bc:List En):run P uK.sum Tryz.f6 aj6 (cSp l all i s now bc) (inl:=[48])=
 Tree.ite (decide (i<(↑l.length:Int)))
 (.ab ((0:Int)<=i)
   (.ab (i<(↑l.length:Int))
     (.ite (xK (el l i)==0) (.ab (bx (some [AV.an 0 0,.s (.ag (xA (el l i))),.s (.ag (xV (el l i)))])) (.ab (bx (some (mS s))) (.ab (Ds.bz s.th s.m s.fu) (.ab (Bx.okW s.fr) (.ab ((0:Int)<=s.aa/\s.aa<=65536) (.ite (jY s (xA (el l i)) (some (xV (el l i)))==0) (.ab (bx (some [AV.s (.ro (.az [.ag,.ag] now)),.s (.ag (xA (el l i))),.s (.ag (xV (el l i)))])) (.ab acZ (.ab (now.length<=1000) (.at (cDp l all i (jY s (xA (el l i)) (some (xV (el l i)))) (bL s (xA (el l i)) (some (xV (el l i)))) (bX now (xA (el l i)) (xV (el l i))) bc))))) (.at (cDp l all i (jY s (xA (el l i)) (some (xV (el l i)))) (bL s (xA (el l i)) (some (xV (el l i)))) now bc))))))))
       (.ite (xK (el l i)==1) (.ab (bx (some [AV.an 0 0,.s (.ag (xA (el l i)))])) (.ab (bx (some (mS s))) (.ab (Ds.bz s.th s.m s.fu) (.ab (Bx.okW s.fr) (.ab ((0:Int)<=s.aa/\s.aa<=65536) (.ite (jY s (xA (el l i)) none==0) (.ab (bx (some [AV.s (.ro (.az [.ag,.ag] now)),.s (.ag (xA (el l i)))])) (.ab acZ (.ab (now.length<=1000) (.at (cDp l all i (jY s (xA (el l i)) none) (bL s (xA (el l i)) none) (cN now (xA (el l i))) bc))))) (.at (cDp l all i (jY s (xA (el l i)) none) (bL s (xA (el l i)) none) now bc))))))))
         (.ite (xK (el l i)==4) (.ab (bx (some [AV.an 0 0])) (.ab (bx (some (mS s))) (.ab (Ds.bz s.th s.m s.fu) (.ab ((0:Int)<=s.ep/\s.ep<1099511627776) (.ab (s.wh=0\/s.wh=1) (.ab (nz (cO s).th (cO s).m (cO s).pg) (.ite (coE s==0) (.ab (((0:Nat)+now.length)*(32:Nat)<=140737488355328) (.at (.mk (sl 220 [(0,.an 0 0),(1,.an 1 0),(6,.s (.int .i64 (coE s))),(95,.s (.ro (.az sK l))),(99,.an 2 0),(100,.an 1 0),(101,.s (.int .i64 all)),(102,.an 0 0),(103,.s (.int .i64 i))]) [.ay [.s (.ro (.az [.ag,.ag] now)),.s (.ro (.az [.ag,.ag] ([]++now)))] 80,er 2 ((cO s).wh) true ((cO s).ep) ((cO s).pg) ((cO s).bu) (.an 3 0),Ds.jw 4 5 ((cO s).fu),fm 2 ((cO s).aa) ((cO s).fr) ((cO s).fs) ((cO s).gn),.aq (.az Ds.cS (cO s).th) Ds.eS,.map Ds.kS (cO s).m] (hr Tryz.f48 18) (.mk (some 48) false 0 [abb Tryz.f6 none 11 5 false 0] 0)))) (.ab (((0:Nat)+bc.length)*(32:Nat)<=140737488355328) (.at (.mk (sl 220 [(0,.an 0 0),(1,.an 1 0),(6,.s (.int .i64 (coE s))),(95,.s (.ro (.az sK l))),(99,.an 2 0),(100,.an 1 0),(101,.s (.int .i64 all)),(102,.an 0 0),(103,.s (.int .i64 i))]) [.ay [.s (.ro (.az [.ag,.ag] ([]++bc))),.s (.ro (.az [.ag,.ag] bc))] 80,er 2 ((cO s).wh) true ((cO s).ep) ((cO s).pg) ((cO s).bu) (.an 3 0),Ds.jw 4 5 ((cO s).fu),fm 2 ((cO s).aa) ((cO s).fr) ((cO s).fs) ((cO s).gn),.aq (.az Ds.cS (cO s).th) Ds.eS,.map Ds.kS (cO s).m] (hr Tryz.f48 18) (.mk (some 48) false 0 [abb Tryz.f6 none 11 5 false 0] 0)))))))))))
           (.ite (xK (el l i)==5) (.ab (bx (some [AV.an 0 0])) (.ab (bx (some (mS s))) (.ab (Ds.bz s.th s.m s.fu) (.ab (nz s.th s.m s.pg) (.ab (((0:Nat)+bc.length)*(32:Nat)<=140737488355328) (.at (.mk (sl 220 [(0,.an 0 0),(1,.an 1 0),(6,.s (.int .i64 0)),(95,.s (.ro (.az sK l))),(99,.an 2 0),(100,.an 1 0),(101,.s (.int .i64 all)),(102,.an 0 0),(103,.s (.int .i64 i))]) [.ay [.s (.ro (.az [.ag,.ag] ([]++bc))),.s (.ro (.az [.ag,.ag] bc))] 80,er 2 ((iY s s.wh s.ep s.pg).wh) true ((iY s s.wh s.ep s.pg).ep) ((iY s s.wh s.ep s.pg).pg) ((iY s s.wh s.ep s.pg).bu) (.an 3 0),Ds.jw 4 5 ((iY s s.wh s.ep s.pg).fu),fm 2 ((iY s s.wh s.ep s.pg).aa) ((iY s s.wh s.ep s.pg).fr) ((iY s s.wh s.ep s.pg).fs) ((iY s s.wh s.ep s.pg).gn),.aq (.az Ds.cS (iY s s.wh s.ep s.pg).th) Ds.eS,.map Ds.kS (iY s s.wh s.ep s.pg).m] (hr Tryz.f48 18) (.mk (some 48) false 0 [abb Tryz.f6 none 11 5 false 0] 0)))))))) (.at (cDp l all i 0 s now bc))))))))
 (.at (axl all s now bc)):=by kernel_rfl
theorem azd(l:List (CL sK))(all i e:Int)(s:Sd)(now bc:List En):run P uK.sum Tryz.f6 aj6 (cDp l all i e s now bc) (inl:=[48])=
 Tree.ab (bx (some [AV.an 0 0,.s (.ro (.az [.ag,.ag] now))]))
 (.ab (bx (some (mS s)))
   (.ab (Ds.bz s.th s.m s.fu)
     (.ab ((0:Int)<=s.aa/\s.aa<=65536)
       (.ab (yW s.th s.m s.aa empty=0)
         (.ab ((qV s.th s.m s.aa empty).length<=1000)
           (.ab (now.length<=1000)
             (.ite (!decide (qV s.th s.m s.aa empty=now)) (.ret (hDp s now bc) (.s (.aT false)))
               (.ab (bx (some [AV.an 0 0]))
                 (.ab (bx (some (mS s)))
                   (.ab (Ds.bz s.th s.m s.fu)
                     (.ab ((0:Int)<=s.aa/\s.aa<=65536)
                       (.ab (sI s.th s.m s.aa=0)
                         (.ab (Bx.okW (ef s.th s.m s.bu s.aa))
                           (.ite (decide (Bx.iM (ef s.th s.m s.bu s.aa)<0)) (.ret (hDp s now bc) (.s (.aT false)))
                             (.ab (bx (some [AV.an 0 0]))
                               (.ab (bx (some (mS s)))
                                 (.ab (Ds.bz s.th s.m s.fu)
                                   (.ab ((0:Int)<=s.aa/\s.aa<=65536)
                                     (.ab (sI s.th s.m s.aa=0)
                                       (.ab (Bx.okW (ef s.th s.m s.bu s.aa))
                                         (.ite (decide (Bx.iM (ef s.th s.m s.bu s.aa)>all)) (.ret (hDp s now bc) (.s (.aT false)))
                                           (.ab ((0:Int)<=i)
                                             (.ab (i<(↑l.length:Int))
                                               (.ite (xK (el l i)==4)
                                                 (.ab (bx (some [AV.an 0 0]))
                                                   (.ab (bx (some (Ds.hD s.th s.m s.fu)))
                                                     (.ab (Ds.bz s.th s.m s.fu)
                                                       (.ab ((3:Int)<=Ds.fg s.th)
                                                         (.ab ((eK s.th s.m).snd.fst=true)
                                                           (.ab (nz s.th s.m (eK s.th s.m).snd.snd.snd)
                                                             (.ite false (.ret (hDp s now bc++[er 2 ((eK s.th s.m).fst) true ((eK s.th s.m).snd.snd.fst) ((eK s.th s.m).snd.snd.snd) (dT s.th s.m (eK s.th s.m).snd.snd.snd) (.an 7 0),fm 2 ((eK s.th s.m).snd.snd.snd) (ny s.th (dT s.th s.m (eK s.th s.m).snd.snd.snd)) Bx.aL Bx.aL]) (.s (.aT false))) (.ab (bx (some [AV.an 0 0])) (.ab (bx (some (jR s.th s.m s.fu (eK s.th s.m).fst true (eK s.th s.m).snd.snd.fst (eK s.th s.m).snd.snd.snd (dT s.th s.m (eK s.th s.m).snd.snd.snd) (eK s.th s.m).snd.snd.snd (ny s.th (dT s.th s.m (eK s.th s.m).snd.snd.snd)) Bx.aL Bx.aL))) (.ab (Ds.bz s.th s.m s.fu) (.ab ((0:Int)<=(eK s.th s.m).snd.snd.snd/\(eK s.th s.m).snd.snd.snd<=65536) (.ab (sI s.th s.m (eK s.th s.m).snd.snd.snd=0) (.ab (Bx.okW (ef s.th s.m (dT s.th s.m (eK s.th s.m).snd.snd.snd) (eK s.th s.m).snd.snd.snd)) (.ab (bx (some [AV.an 0 0])) (.ab (bx (some (mS s))) (.ab (Ds.bz s.th s.m s.fu) (.ab ((0:Int)<=s.aa/\s.aa<=65536) (.ab (sI s.th s.m s.aa=0) (.ab (Bx.okW (ef s.th s.m s.bu s.aa)) (.ite (Bx.iM (ef s.th s.m (dT s.th s.m (eK s.th s.m).snd.snd.snd) (eK s.th s.m).snd.snd.snd) !=Bx.iM (ef s.th s.m s.bu s.aa)) (.ret (hDp s now bc++[er 2 ((eK s.th s.m).fst) true ((eK s.th s.m).snd.snd.fst) ((eK s.th s.m).snd.snd.snd) (dT s.th s.m (eK s.th s.m).snd.snd.snd) (.an 7 0),fm 2 ((eK s.th s.m).snd.snd.snd) (ny s.th (dT s.th s.m (eK s.th s.m).snd.snd.snd)) Bx.aL Bx.aL]) (.s (.aT false))) (.ab (bx (some [AV.an 0 0])) (.ab (bx (some (jR s.th s.m s.fu (eK s.th s.m).fst true (eK s.th s.m).snd.snd.fst (eK s.th s.m).snd.snd.snd (dT s.th s.m (eK s.th s.m).snd.snd.snd) (eK s.th s.m).snd.snd.snd (ny s.th (dT s.th s.m (eK s.th s.m).snd.snd.snd)) Bx.aL Bx.aL))) (.ab (bx (some [AV.an 0 0])) (.ab (bx (some (mS s))) (.ite ((eK s.th s.m).snd.snd.fst !=s.ep) (.ret (hDp s now bc++[er 2 ((eK s.th s.m).fst) true ((eK s.th s.m).snd.snd.fst) ((eK s.th s.m).snd.snd.snd) (dT s.th s.m (eK s.th s.m).snd.snd.snd) (.an 7 0),fm 2 ((eK s.th s.m).snd.snd.snd) (ny s.th (dT s.th s.m (eK s.th s.m).snd.snd.snd)) Bx.aL Bx.aL]) (.s (.aT false))) (.ab (aG (i+1)) (.at (.mk (sl 126 [(1,.s (.ro (.az sK l))),(5,.an 0 0),(6,.an 1 0),(7,.s (.int .i64 all)),(8,.an 2 0),(9,.s (.int .i64 (i+1)))]) (hP s now bc) (hd Tryz.f6 9) (.mk none false 0 [] 0)))))))))))))))))))))))))))))
                                                 (.ab (aG (i+1)) (.at (.mk (sl 126 [(1,.s (.ro (.az sK l))),(5,.an 0 0),(6,.an 1 0),(7,.s (.int .i64 all)),(8,.an 2 0),(9,.s (.int .i64 (i+1)))]) (hP s now bc) (hd Tryz.f6 9) (.mk none false 0 [] 0)))))))))))))))))))))))))))):=by kernel_rfl
theorem axp(all:Int)(s:Sd)(now bc:List En):run P uK.sum Tryz.f6 aj6 (axl all s now bc) (inl:=[48])=
 Tree.ab (bx (some [AV.an 0 0])) (.ab (bx (some (mS s))) (.ab (Ds.bz s.th s.m s.fu) (.ab (nz s.th s.m s.pg) (.ite false (.ret [er 2 ((iY s s.wh s.ep s.pg).wh) true ((iY s s.wh s.ep s.pg).ep) ((iY s s.wh s.ep s.pg).pg) ((iY s s.wh s.ep s.pg).bu) (.an 6 0),.ay [.s (.ro (.az [.ag,.ag] now)),.s (.ro (.az [.ag,.ag] bc))] 80,Ds.jw 4 5 ((iY s s.wh s.ep s.pg).fu),fm 2 s.aa s.fr s.fs s.gn,.aq (.az Ds.cS (iY s s.wh s.ep s.pg).th) Ds.eS,.map Ds.kS (iY s s.wh s.ep s.pg).m,fm 2 ((iY s s.wh s.ep s.pg).aa) ((iY s s.wh s.ep s.pg).fr) ((iY s s.wh s.ep s.pg).fs) ((iY s s.wh s.ep s.pg).gn)] (.s (.aT false))) (.at (.mk (sl 126 [(6,.an 0 0),(7,.s (.int .i64 all)),(8,.an 1 0),(14,.s (.int .i64 0))]) (hQ (iY s s.wh s.ep s.pg) now bc) (hd Tryz.f6 21) (.mk none false 0 [] 0))))))):=by kernel_rfl
theorem asd(all i:Int)(s:Sd)(now bc:List En):run P uK.sum Tryz.f6 aj6 (axm all i s now bc) (inl:=[48])=
 Tree.ite (decide (i<(↑bc.length:Int))) (.ab ((0:Int)<=i) (.ab (i<(↑bc.length:Int)) (.ab (bx (some [AV.an 0 0,.s (.ag (bc.getD i.toNat (CL.d [.ag,.ag])).fst)])) (.ab (bx (some (mS s))) (.ab (Ds.bz s.th s.m s.fu) (.ab (Bx.okW s.fr) (.ab ((0:Int)<=s.aa/\s.aa<=65536) (.ite (jY s (bc.getD i.toNat (CL.d [.ag,.ag])).fst none !=0) (.ret (hQ (bL s (bc.getD i.toNat (CL.d [.ag,.ag])).fst none) now bc) (.s (.aT true))) (.ab (bx (some [AV.an 0 0])) (.ab (bx (some (mS (bL s (bc.getD i.toNat (CL.d [.ag,.ag])).fst none)))) (.ab (Ds.bz (bL s (bc.getD i.toNat (CL.d [.ag,.ag])).fst none).th (bL s (bc.getD i.toNat (CL.d [.ag,.ag])).fst none).m (bL s (bc.getD i.toNat (CL.d [.ag,.ag])).fst none).fu) (.ab ((0:Int)<=(bL s (bc.getD i.toNat (CL.d [.ag,.ag])).fst none).ep/\(bL s (bc.getD i.toNat (CL.d [.ag,.ag])).fst none).ep<1099511627776) (.ab ((bL s (bc.getD i.toNat (CL.d [.ag,.ag])).fst none).wh=0\/(bL s (bc.getD i.toNat (CL.d [.ag,.ag])).fst none).wh=1) (.ab (nz (cO (bL s (bc.getD i.toNat (CL.d [.ag,.ag])).fst none)).th (cO (bL s (bc.getD i.toNat (CL.d [.ag,.ag])).fst none)).m (cO (bL s (bc.getD i.toNat (CL.d [.ag,.ag])).fst none)).pg) (.ite (coE (bL s (bc.getD i.toNat (CL.d [.ag,.ag])).fst none) !=0) (.ret [er 2 ((cO (bL s (bc.getD i.toNat (CL.d [.ag,.ag])).fst none)).wh) true ((cO (bL s (bc.getD i.toNat (CL.d [.ag,.ag])).fst none)).ep) ((cO (bL s (bc.getD i.toNat (CL.d [.ag,.ag])).fst none)).pg) ((cO (bL s (bc.getD i.toNat (CL.d [.ag,.ag])).fst none)).bu) (.an 6 0),.ay [.s (.ro (.az [.ag,.ag] now)),.s (.ro (.az [.ag,.ag] bc))] 80,Ds.jw 4 5 ((cO (bL s (bc.getD i.toNat (CL.d [.ag,.ag])).fst none)).fu),fm 2 ((bL s (bc.getD i.toNat (CL.d [.ag,.ag])).fst none).aa) ((bL s (bc.getD i.toNat (CL.d [.ag,.ag])).fst none).fr) ((bL s (bc.getD i.toNat (CL.d [.ag,.ag])).fst none).fs) ((bL s (bc.getD i.toNat (CL.d [.ag,.ag])).fst none).gn),.aq (.az Ds.cS (cO (bL s (bc.getD i.toNat (CL.d [.ag,.ag])).fst none)).th) Ds.eS,.map Ds.kS (cO (bL s (bc.getD i.toNat (CL.d [.ag,.ag])).fst none)).m,fm 2 ((cO (bL s (bc.getD i.toNat (CL.d [.ag,.ag])).fst none)).aa) ((cO (bL s (bc.getD i.toNat (CL.d [.ag,.ag])).fst none)).fr) ((cO (bL s (bc.getD i.toNat (CL.d [.ag,.ag])).fst none)).fs) ((cO (bL s (bc.getD i.toNat (CL.d [.ag,.ag])).fst none)).gn)] (.s (.aT true))) (.ab (aG (i+1)) (.at (.mk (sl 126 [(6,.an 0 0),(7,.s (.int .i64 all)),(8,.an 1 0),(14,.s (.int .i64 (i+1)))]) (hQ (cO (bL s (bc.getD i.toNat (CL.d [.ag,.ag])).fst none)) now bc) (hd Tryz.f6 21) (.mk none false 0 [] 0)))))))))))))))))))
 (.at (.mk (sl 126 [(6,.an 0 0),(7,.s (.int .i64 all))]) (mS s) (hr Tryz.f6 25) (.mk none false 0 [] 0))):=by kernel_rfl
theorem axq(all:Int)(s:Sd):run P uK.sum Tryz.f6 aj6 (axn all s) (inl:=[48])=
 Tree.ab (bx (some [AV.an 0 0]))
 (.ab (bx (some (mS s)))
   (.ab (Ds.bz s.th s.m s.fu)
     (.ab ((0:Int)<=s.ep/\s.ep<1099511627776) (.ab (s.wh=0\/s.wh=1) (.ab (nz (cO s).th (cO s).m (cO s).pg) (.ite (coE s==0) (.ab (bx (some [AV.an 0 0])) (.ab (bx (some (mS (cO s)))) (.ab (Ds.bz (cO s).th (cO s).m (cO s).fu) (.ab ((0:Int)<=(cO s).aa/\(cO s).aa<=65536) (.ab (sI (cO s).th (cO s).m (cO s).aa=0) (.ab (Bx.okW (ef (cO s).th (cO s).m (cO s).bu (cO s).aa)) (.ite (Bx.iM (ef (cO s).th (cO s).m (cO s).bu (cO s).aa)==all) (.ab (bx (some [AV.an 0 0,.s (.ro (.az [.ag,.ag] []))])) (.ab (bx (some (mS (cO s)))) (.ab (Ds.bz (cO s).th (cO s).m (cO s).fu) (.ab ((0:Int)<=(cO s).aa/\(cO s).aa<=65536) (.ab (yW (cO s).th (cO s).m (cO s).aa empty=0) (.ab ((qV (cO s).th (cO s).m (cO s).aa empty).length<=1000) (.ab ((0:Nat)<=1000) (.ret (hAt s (cO s)) (.s (.bool (decide (qV (cO s).th (cO s).m (cO s).aa empty=[])))))))))))) (.ret (hAt s (cO s)) (.s (.aT false)))))))))) (.ret (hAt s (cO s)) (.s (.aT false))))))))):=by kernel_rfl
theorem nt0{b:Bool}(h:(!b)=false):b=true:=by cases b<;>simp_all
theorem an4{l r:List En}{ad val:ByteArray}(e:r=bX l ad val):sPu.eG (l,ad,val)=[.aq (.az cE r) Lf.eE]/\sPu.out (l,ad,val)=.aq 0:=by subst e;exact⟨rfl,rfl⟩
theorem axr{l r:List En}{ad:ByteArray}(e:r=cN l ad):sDe.eG (l,ad)=[.aq (.az cE r) Lf.eE]/\sDe.out (l,ad)=.aq 0:=by subst e;exact⟨rfl,rfl⟩
theorem auL{Z:bB}:gE P Z 94 sPu:=by
 refine aK Tryz.func94 (by kernel_rfl) (λx=>le_of_ble_eq_true (by kernel_rfl)) ?_;rintro⟨(l:List En),(ad:ByteArray),(val:ByteArray)⟩ ⟨(hl:l.length<=1000),_⟩ X hX hz;have kc:∀x∈aq1,(sPu.heap (l,ad,val)).length<=x.2.m:=by intro y hy;simp only[aq1,mem_singleton]at hy;subst hy;exact le_refl _
 have tk:∀k:Nat,([]:List En)++List.drop (Int.toNat 0) (List.take (k:Int).toNat l)=l.take k:=λk=>by rw[nil_append,toNat_natCast];rfl
 have dr:∀k:Nat,List.drop (k:Int).toNat (List.take (l.length:Int).toNat l)=l.drop k:=λk=>by rw[toNat_natCast,toNat_natCast,List.take_length]
 have dr1:∀k:Nat,List.drop ((k:Int)+1).toNat (List.take (l.length:Int).toNat l)=l.drop (k+1):=λk=>dr (k+1)
 have loop:∀(j k:Nat),k+j=l.length->l.take k++bX (l.drop k) ad val=bX l ad val->Safe P 94 X (eH sPu (l,ad,val)) (cPu l ad val (k:Int)):=by
  intro j
  induction j with
  |zero=>
   intro k hk he;have hk':k=l.length:=by omega
   rw[List.drop_of_length_le (by omega)]at he;have e0:bX [] ad val=[(ad,val,())]:=rfl;refine Ds.dk hz hX kc aR.Ok.nil Tryz.func94 (axh l ad val k) ⟨λh=>absurd (of_decide_eq_true h) (by omega),λ_=> ?_⟩;have ln:(l.take k).length=k:=by rw[length_take];omega
   have lt:List.drop (Int.toNat 0) (List.take (k:Int).toNat l)=l.take k:=by rw[toNat_natCast];rfl
   have l0:l.drop k=[]:=List.drop_of_length_le (by omega);rw[tk,dr,lt];refine⟨by omega,by omega,by omega,by rw[ln];omega,by rw[ln];omega,λh=>absurd (of_decide_eq_true h) (by omega),λ_=>⟨by omega,by omega,by omega, ?_, ?_⟩⟩;rw[length_append,ln,l0,length_nil,List.length_singleton];omega;have⟨f1,f2⟩:=an4 (l:=l) (ad:=ad) (val:=val) (r:=l.take k++[(ad,val,())]++l.drop k) (by rw[<-he,l0,append_nil];rfl);exact bN 0 (by kernel_rfl) (le_refl _) f2 f1
  |succ j ih=>
   intro k hk he;have d:l.drop k=l.getD k dE::l.drop (k+1):=drop_cons dE (by omega);have ln:(l.take k).length=k:=by rw[length_take];omega
   have lt:List.drop (Int.toNat 0) (List.take (k:Int).toNat l)=l.take k:=by rw[toNat_natCast];rfl
   have ld:(l.drop k).length=l.length - k:=length_drop;have ld1:(l.drop (k+1)).length=l.length - (k+1):=length_drop;refine Ds.dk hz hX kc aR.Ok.nil Tryz.func94 (axh l ad val k) ⟨λ_=>⟨by omega,by omega,λh1=>⟨⟨by omega,by omega⟩, ?_⟩,λh1=> ?_⟩,λh=>absurd (of_decide_eq_false h) (by omega)⟩;refine ih (k+1) (by omega) ?_;have h1:slt (l.getD k dE).1 ad=true:=h1;rw[d,vD h1]at he;rw[<-he,<-ik (d:=dE) (by omega),append_assoc];rfl;have h1:slt (l.getD k dE).1 ad=false:=h1;rw[d,vE h1]at he;rw[tk,dr,dr1,lt];refine⟨by omega,by omega,by omega,by rw[ln];omega,by rw[ln];omega,λ_=>⟨by omega,by omega,λh2=>⟨⟨by omega,by omega⟩,by omega,by omega,by omega, ?_, ?_⟩,λh2=>⟨by omega,by omega,by omega, ?_, ?_⟩⟩,λh=>absurd (of_decide_eq_false h) (by omega)⟩;rw[length_append,ln,ld1,List.length_singleton];omega;have h2:(l.getD k dE).1=ad:=of_decide_eq_true h2;rw[if_pos h2]at he;have⟨f1,f2⟩:=an4 (l:=l) (ad:=ad) (val:=val) (r:=l.take k++[(ad,val,())]++l.drop (k+1)) (by rw[<-he,append_assoc];rfl);exact bN 0 (by kernel_rfl) (le_refl _) f2 f1;rw[length_append,ln,ld,List.length_singleton];omega;have h2:¬(l.getD k dE).1=ad:=of_decide_eq_false h2;rw[if_neg h2,<-d]at he;have⟨f1,f2⟩:=an4 (l:=l) (ad:=ad) (val:=val) (r:=l.take k++[(ad,val,())]++l.drop k) (by rw[<-he,append_assoc];rfl);exact bN 0 (by kernel_rfl) (le_refl _) f2 f1
 exact Ds.dk hz hX kc aR.Ok.nil Tryz.func94 (ay7 l ad val) (loop l.length 0 (by omega) rfl)
theorem auM{Z:bB}:gE P Z 95 sDe:=by
 refine aK Tryz.func95 (by kernel_rfl) (λx=>le_of_ble_eq_true (by kernel_rfl)) ?_;rintro⟨(l:List En),(ad:ByteArray)⟩ ⟨(hl:l.length<=1000),_⟩ X hX hz;have kc:∀x∈aq2,(sDe.heap (l,ad)).length<=x.2.m:=by intro y hy;simp only[aq2,mem_singleton]at hy;subst hy;exact le_refl _
 have loop:∀(j k:Nat) (out:List En),k+j=l.length->out.length<=k->out++cN (l.drop k) ad=cN l ad->Safe P 95 X (eH sDe (l,ad)) (cDe l out ad (k:Int)):=by
  intro j
  induction j with
  |zero=>
   intro k out hk ho he;rw[List.drop_of_length_le (by omega)]at he;refine Ds.dk hz hX kc aR.Ok.nil Tryz.func95 (axi l out ad k) ⟨λh=>absurd (of_decide_eq_true h) (by omega),λ_=> ?_⟩;have⟨f1,f2⟩:=axr ((append_nil out).symm.trans he);exact bN 0 (by kernel_rfl) (le_refl _) f2 f1
  |succ j ih=>
   intro k out hk ho he;have d:l.drop k=l.getD k dE::l.drop (k+1):=drop_cons dE (by omega);rw[d,tH]at he;have next:∀(an5:List En),an5.length<=k+1->an5++cN (l.drop (k+1)) ad=cN l ad->Safe P 95 X (eH sDe (l,ad)) (cDe l an5 ad ((k:Int)+1)):=λan5 a e=>ih (k+1) an5 (by omega) a e
   refine Ds.dk hz hX kc aR.Ok.nil Tryz.func95 (axi l out ad k) ⟨λ_=>⟨by omega,by omega,λh3=>⟨by omega,by omega,by omega,⟨by omega,by omega⟩, ?_⟩,λh3=>⟨⟨by omega,by omega⟩, ?_⟩⟩,λh=>absurd (of_decide_eq_false h) (by omega)⟩;have hk3:¬(l.getD k dE).1=ad:=of_decide_eq_false (nf0 h3);rw[if_pos (by rw[show yJ ad (l.getD k dE)=false from decide_eq_false hk3];rfl)]at he;refine next _ ?_ ?_
   simp only[length_append,length_cons,length_nil];omega;simp only[append_assoc];exact he;have hk3:(l.getD k dE).1=ad:=of_decide_eq_true (nt0 h3);rw[if_neg (by rw[show yJ ad (l.getD k dE)=true from decide_eq_true hk3];decide)]at he;exact next _ (by omega) he
 exact Ds.dk hz hX kc aR.Ok.nil Tryz.func95 (ay8 l ad) (loop l.length 0 [] (by omega) (le_refl _) rfl)
theorem auN{Z:bB}:gE P Z 46 sL8:=by
 refine rP Tryz.func46 (by kernel_rfl) (λx=>le_of_ble_eq_true (by kernel_rfl)) ?_;rintro(l:List (CL sK)) ⟨(hl:l.length<=9223372036854775807),_⟩ X hX hz;have kc:∀x∈aq3,(sL8.heap l).length<=x.2.m:=by intro y hy;simp only[aq3,mem_singleton]at hy;subst hy;exact le_refl _
 have yes:ajp sL8 l [] (.s (.aT true)):=⟨⟨[],[0],0,[]⟩,.s (.bool true),le_refl _,by kernel_rfl,λρ H O w v hv=>by
  have:=aC (by simp) hv;cases this;exact aJ (.lD _ _ _ (λh=>by cases h))⟩
 have no:l.length<=120->ajp sL8 l [] (.s (.aT false)):=λh=>⟨⟨[],[0],0,[]⟩,.s (.bool false),le_refl _,by kernel_rfl,λρ H O w v hv=>by
  have:=aC (by simp) hv;cases this;exact aJ (.lD _ _ _ (λ_=>by omega))⟩
 have loop:l.length<=120->∀(j k:Nat),k+j=l.length->Safe P 46 X (ajp sL8 l) (cL8 l (k:Int)):=by
  intro aze j
  induction j with
  |zero=>
   intro k hk;exact Ds.dk hz hX kc aR.Ok.nil Tryz.func46 (axj l k) ⟨λh=>absurd (of_decide_eq_true h) (by omega),λ_=>no aze⟩
  |succ j ih=>
   intro k hk;exact Ds.dk hz hX kc aR.Ok.nil Tryz.func46 (axj l k) ⟨λ_=>⟨by omega,by omega,λ_=>yes,λ_=>⟨by omega,by omega,λ_=>yes,λ_=>⟨by omega,by omega,λ_=>yes,λ_=>⟨⟨by omega,by omega⟩,ih (k+1) (by omega)⟩⟩⟩⟩,λh=>absurd (of_decide_eq_false h) (by omega)⟩
 exact Ds.dk hz hX kc aR.Ok.nil Tryz.func46 (ay9 l) ⟨λ_=>yes,λh=>loop (by have:=of_decide_eq_false h;omega) l.length 0 (by omega)⟩
theorem auO{a b:En}(h1:a.1=b.1)(h2:a.2.1=b.2.1):a=b:=Prod.ext h1 (Prod.ext h2 rfl)
theorem aq5:gE P Bx.bZ 50 ags:=by
 refine aK Tryz.func50 (by kernel_rfl) (λx=>le_of_ble_eq_true (by kernel_rfl)) ?_;rintro⟨⟨(th:Th),(m:As),(fu:Int),(wh:Int),(ep:Int),(pg:Int),(bu:Ws),(aa:Int),(fr:Ws),(fs:Ws),(gn:Ws)⟩,(w:List En)⟩ ⟨(hd:Ds.bz th m fu),(hr:0<=aa/\aa<=65536),(h0:yW th m aa empty=0),(hg:(qV th m aa empty).length<=1000),(hw:w.length<=1000),_⟩ X hX hz;have kc:∀x∈aiv,(5:Nat)<=x.2.m:=by intro y hy;simp only[aiv,mem_singleton]at hy;subst hy;exact le_refl _
 have T:agt.Ok P Bx.bZ:=aR.Ok.cons (anW.sum mSK) aR.Ok.nil;generalize hs:((⟨th,m,fu,wh,ep,pg,bu,aa,fr,fs,gn⟩:Sd),w)=x;have hX:X.H=lk (jR th m fu wh true ep pg bu aa fr fs gn):=by subst hs;exact hX
 have fin:∀b:Bool,decide (qV th m aa empty=w)=b->ags.eG x=jR th m fu wh true ep pg bu aa fr fs gn/\ags.out x=.s (.bool b):=λb h=>by
  subst hs h;exact⟨rfl,rfl⟩
 have azf:∀b:Bool,decide (qV th m aa empty=w)=b->ags.eG x=jR th m fu wh true ep pg bu aa fr fs gn/\ags.out x=.s (.bool b):=fin
 have loop:(qV th m aa empty).length=w.length->∀(j k:Nat),k+j=w.length->(qV th m aa empty).take k=w.take k->Safe P 50 X (eH ags x) (aq4 th m fu wh ep pg bu aa fr fs gn w (qV th m aa empty) (k:Int)):=by
  generalize qV th m aa empty=ym at hg fin;intro bK j
  induction j with
  |zero=>
   intro k hk he;rw[take_of_length_le (by omega),take_of_length_le (by omega)]at he;have⟨f1,f2⟩:=fin true (decide_eq_true he);refine Ds.dk hz hX kc T Tryz.func50 (asc th m fu wh ep pg bu aa fr fs gn w ym k) ⟨λh=>absurd (of_decide_eq_true h) (by omega),λ_=> ?_⟩;exact bN 5 (by kernel_rfl) (le_refl _) f2 f1
  |succ j ih=>
   intro k hk he;have e1:ym.getD k dE=ym[k]:=bt (by omega);have e2:w.getD k dE=w[k]:=bt (by omega);refine Ds.dk hz hX kc T Tryz.func50 (asc th m fu wh ep pg bu aa fr fs gn w ym k) ⟨λ_=>⟨by omega,by omega,by omega,by omega,λh=> ?_,λh=>⟨⟨by omega,by omega⟩,ih (k+1) (by omega) ?_⟩⟩,λh=>absurd (of_decide_eq_false h) (by omega)⟩
   have ne:¬ym=w:=λe=>by
    subst e;have h:=nf0 h;rw[decide_eq_true rfl,decide_eq_true rfl]at h;cases h
   have⟨f1,f2⟩:=fin false (decide_eq_false ne);exact bN 5 (by kernel_rfl) (le_refl _) f2 f1
   have h:(decide ((ym.getD k dE).1=(w.getD k dE).1)&&(decide ((ym.getD k dE).2.1=(w.getD k dE).2.1)&&true))=true:=by
    cases hb:(decide ((ym.getD k dE).1=(w.getD k dE).1)&&(decide ((ym.getD k dE).2.1=(w.getD k dE).2.1)&&true))with
    |true=>rfl
    |false=>
     have h:(!(decide ((ym.getD k dE).1=(w.getD k dE).1)&&(decide ((ym.getD k dE).2.1=(w.getD k dE).2.1)&&true)))=false:=h;rw[hb]at h;cases h
   simp only[Bool.and_true,and_eq_true,decide_eq_true_eq]at h;have e:=auO h.1 h.2;rw[<-ik (d:=dE) (by omega),<-ik (l:=w) (d:=dE) (by omega),he,e]
 subst hs;refine Ds.dk hz hX kc T Tryz.func50 (axk th m fu wh ep pg bu aa fr fs gn w) ⟨rfl,rfl,hd,hr,λh=> ?_,λ_=>⟨λh=> ?_,λh=> ?_⟩⟩;rw[h0]at h;cases h
 have ne:¬qV th m aa empty=w:=λe=>by
  exact(bne_iff_ne.1 h) (by rw[e])
 have⟨f1,f2⟩:=azf false (decide_eq_false ne);exact bN 5 (by kernel_rfl) (le_refl _) f2 f1;have h:¬((qV th m aa empty).length:Int)≠(w.length:Int):=λx=>Bool.false_ne_true (h.symm.trans (bne_iff_ne.2 x));exact loop (by omega) w.length 0 (by omega) rfl
theorem axs{n:Int}{a:Th×As×Int×Int}(e:a=yl n){k:Mk}(hk:k=(0,true,1,0)):
 sBg.eG n=[Ds.jw 2 3 a.2.2.1,er 0 k.1 true k.2.2.1 k.2.2.2 (dT a.1 a.2.1 k.2.2.2) (.an 4 0),.aq (.az Ds.cS a.1) Ds.eS,.map Ds.kS a.2.1,fm 0 k.2.2.2 (ny a.1 (dT a.1 a.2.1 k.2.2.2)) Bx.aL Bx.aL]:=by
 subst e hk;rfl
theorem aeC:gE P Bx.bZ 47 sBg:=by
 refine aK Tryz.func47 (by kernel_rfl) (λx=>le_of_ble_eq_true (by kernel_rfl)) ?_;rintro(n:Int) ⟨(hn:3<=n/\n<=1000),_⟩ X hX hz;have⟨a,b,c,d,e,f⟩:=an3 (n:=n) (by omega);have R:nz (yl n).1 (yl n).2.1 0:=((asb (n:=n) (by omega)).aa (by decide)).1;have mk:=f.eK;have out:=axs (n:=n) rfl mk;have qz:Ds.bz (th0 (4*n)) [] (-1):=Ds.alv (by omega);have k1:(eK (yl n).1 (yl n).2.1).2.1=true:=by rw[mk]
 have k2:nz (yl n).1 (yl n).2.1 (eK (yl n).1 (yl n).2.1).2.2.2:=by rw[mk];exact R
 refine Ds.dk hz hX (by intro y hy;cases hy) (aR.Ok.cons (aj5.sum mFo) (aR.Ok.cons (ye.sum Ds.xb) aR.Ok.nil)) Tryz.func47 (aza n) ⟨⟨by omega,by omega⟩,λh=>absurd (of_decide_eq_true h) (by omega),λ_=>⟨λh=>absurd (of_decide_eq_true h) (by omega),λ_=>⟨by omega,Int.le_refl _,by omega,rfl,rfl,qz,rfl,λh=> ?_,λ_=>⟨rfl,rfl,d, ?_,k1,k2,λh=>(by cases h),λ_=> ?_⟩⟩⟩⟩;exact absurd a (bne_iff_ne.1 h);show 3<=Ds.fg (yl n).1;rw[e];exact hn.1;exact bN 0 (by kernel_rfl) (le_refl _) rfl out
abbrev tS8:Ty:=.b (.row (.az sK) 75)
abbrev an6(ts:List Ty):AL ts->List Prop:=λx=>[AL.wf ts x]
theorem an7(hA:dO P Bx.bZ 45 [] [dg] (λ_=>[]) (λ_=>(true,()))):uK.Ok P Bx.bZ:=
 aR.Ok.cons (auN.sum mL8) (aR.Ok.cons hA.sum (aR.Ok.cons (aeA.sum mSt) (aR.Ok.cons (aar.sum mSt) (aR.Ok.cons (ait.sum axb) (aR.Ok.cons (aq0.sum axc) (aR.Ok.cons (aim.sum mSK) (aR.Ok.cons (yi.sum mSs) (aR.Ok.cons (aeB.sum mSs) (aR.Ok.cons (ye.sum Ds.xb) (aR.Ok.cons (auL.sum mPu) (aR.Ok.cons (auM.sum mDe) (aR.Ok.cons (ajo (aq5.sum axf) 1 (.az cE [])) (aR.Ok.cons (aeC.sum mBg) aR.Ok.nil)))))))))))))
abbrev K8:List au->AV->Prop:=Ends [dg] (true,())
structure Gc (s:Sd) (E K:List En) (n:Nat) (N:Int):Prop where
 ep:s.ep<=(n:Int)+1
 pn:Ds.fg s.th=N
 i:∃h ps po h0 np nI,SI s E K n h ps po h0 np nI
structure Gd (s:Sd) (E K:List En) (n:Nat) (N:Int):Prop extends Gc s E K n N where
 fu:s.fu= -1
theorem aeD{fr:Ws}(hw:Bx.okW fr){N:Int}(hN:2<=N)(h:∀p,In fr p->2<=p/\p<N):(ir fr:Int)<=N - 2:=by
 have l:((List.range (N - 2).toNat).map λk:Nat=>(k:Int)+2).length=(N - 2).toNat:=by simp
 have:=vF hw (N:=(List.range (N - 2).toNat).map λk:Nat=>(k:Int)+2) λp hp=>by
  have:=h p hp;exact mem_map.2 ⟨(p - 2).toNat,mem_range.2 (by omega),by omega⟩
 omega
theorem an8{fr:Ws}(hw:Bx.okW fr){N:Int}(hN:2<=N)(h:∀p,In fr p↔2<=p/\p<N):(ir fr:Int)=N - 2:=by
 have l:((List.range (N - 2).toNat).map λk:Nat=>(k:Int)+2).length=(N - 2).toNat:=by simp
 have a:=aeD hw hN λp hp=>(h p).1 hp
 have b:=aqN hw (N:=(List.range (N - 2).toNat).map λk:Nat=>(k:Int)+2) (by
  unfold List.Nodup;rw[List.pairwise_map]
  exact List.nodup_range.imp λh e=>h (by omega)) λp hp=>by
   obtain⟨k,hk,rfl⟩:=mem_map.1 hp;have:=mem_range.1 hk;exact(h _).2 (by omega)
 omega
theorem Gd.start{n:Int}(h:3<=n/\n<=1024):Gd (jS n) [] [] 0 n:=by
 have⟨a,b,c,d,e,f⟩:=an3 h;exact⟨⟨by show(1:Int)<=_;omega,e,_,_,_,_,_,_,asb h⟩,b⟩
section
variable{s:Sd}{E K:List En}{n:Nat}{N:Int}
structure Fx (s:Sd) (E:List En) (n:Nat):Prop where
 d:Ds.bz s.th s.m s.fu
 fr:Bx.okW s.fr
 r:0<=s.aa/\s.aa<=65536
 w:s.wh=0\/s.wh=1
 e0:0<=s.ep
 l0:yW s.th s.m s.aa empty=0
 l:qV s.th s.m s.aa empty=E
 p0:sI s.th s.m s.aa=0
 fw:Bx.okW (ef s.th s.m s.bu s.aa)
 ff:ef s.th s.m s.bu s.aa=s.fr
 R:nz s.th s.m s.pg
 Rw:dT s.th s.m s.pg=s.bu
 mk':eK s.th s.m=(s.wh,true,s.ep,s.pg)
 n3:3<=Ds.fg s.th
 len:E.length<=n
theorem Gc.fx(G:Gc s E K n N)(hn:n<=1000):Fx s E n:=by
 have⟨h,ps,po,h0,np,nI,S⟩:=G.i;have⟨a,b⟩:=S.list hn;have⟨c,d,e⟩:=S.free hn;have⟨f,g⟩:=S.aa hn;have r:=S.rt;exact⟨S.t.ok.d,S.t.ok.fr,⟨r.1,by omega⟩,S.mr.k,S.e0,a,b,c,d,e,f,g,S.mr.eK,S.mr.n,S.b.2.2.1⟩
theorem Gc.axt(G:Gc s E K n N):K.length<=n:=by
 have⟨h,ps,po,h0,np,nI,S⟩:=G.i;exact S.b.2.2.2
theorem Gc.yZ(G:Gc s E K n N):(∀e∈E,okK e)/\Ts.yZ E:=by
 have⟨h,ps,po,h0,np,nI,S⟩:=G.i;exact S.t.holds.yZ
theorem Gc.more(G:Gc s E K n N){n':Nat}(h:n<=n'):Gc s E K n' N:=by
 have⟨_,_,_,_,_,_,S⟩:=G.i;exact⟨by have:=G.ep;omega,G.pn,_,_,_,_,_,_,S.more h⟩
theorem Gc.op(G:Gc s E K n N)(hn:n<=1000)(ad:ByteArray)(op:Option ByteArray):Gc (bL s ad op) (if jY s ad op=0 then lC ad op E else E) K (n+1) N/\(s.fu= -1->(bL s ad op).fu= -1):=by
 have⟨_,_,_,_,_,_,S⟩:=G.i;have⟨f,r⟩:=S.op hn ad op;refine⟨⟨by have:=G.ep;show s.ep<=_;omega,G.pn, ?_⟩,f⟩;rcases r with⟨a,h',ps',po',b⟩|⟨a,b⟩;rw[if_pos a];exact⟨_,_,_,_,_,_,b⟩;rw[if_neg a];exact⟨_,_,_,_,_,_,b⟩
theorem Gc.back(G:Gc s E K n N)(hn:n<=1000):Gc (iY s s.wh s.ep s.pg) K K n N:=by
 have⟨_,_,_,_,_,_,S⟩:=G.i;exact⟨G.ep,G.pn,_,_,_,_,_,_,S.back hn⟩
theorem Gd.more(G:Gd s E K n N){n':Nat}(h:n<=n'):Gd s E K n' N:=⟨G.auP.more h,G.fu⟩
theorem Gd.op(G:Gd s E K n N)(hn:n<=1000)(ad:ByteArray)(op:Option ByteArray):Gd (bL s ad op) (if jY s ad op=0 then lC ad op E else E) K (n+1) N:=⟨(G.auP.op hn ad op).1,(G.auP.op hn ad op).2 G.fu⟩
theorem Gd.back(G:Gd s E K n N)(hn:n<=1000):Gd (iY s s.wh s.ep s.pg) K K n N:=⟨G.auP.back hn,G.fu⟩
theorem Gd.qP(G:Gd s E K n N)(hn:n<=1000):coE s=0/\(cO s).pg=(cO s).aa/\Gd (cO s) E E (n+1) N:=by
 have⟨h,ps,po,h0,np,nI,S⟩:=G.i;have he:s.ep<1099511627776:=by have:=G.ep;omega
 have ok:Ds.yE (s.ep+1) s.aa:=by
  have:=S.e0;have:=S.rt;exact⟨by omega,by omega,by omega,by omega⟩
 rcases aqZ (s:=(s.th,s.m,s.fu)) (k:=1 - s.wh) S.t.ok.d S.ad ok with⟨e,C⟩|⟨_,C⟩;have e:(coX s).2=0:=e;have c1:cO s=iY (coT s) (1 - s.wh) (s.ep+1) s.aa:=if_pos e;have I:=S.qP hn he C (t:=coT s) rfl rfl rfl;rw[c1];refine⟨e,rfl,⟨by have:=G.ep;show s.ep+1<=_;omega,(sG C.len).trans G.pn,_,_,_,_,_,_,I.more (Nat.le_succ n)⟩,C.fu G.fu⟩;exact absurd G.fu C.fJ
theorem Gd.free(G:Gd s E K n N)(hn:n<=1000):0<=Bx.iM (ef s.th s.m s.bu s.aa)/\Bx.iM (ef s.th s.m s.bu s.aa)<=N - 2:=by
 have F:=G.fx hn;have⟨h,ps,po,h0,np,nI,S⟩:=G.i;rw[F.ff,abW F.fr];have n3:=F.n3;rw[G.pn]at n3;refine⟨by omega,aeD F.fr (by omega) λp hp=> ?_⟩;have:=((oX S.w).1 ((S.t.inv.cov p).2 (.inl hp))).1;rw[G.pn]at this;omega
theorem Gd.bare(G:Gd s [] [] n N)(hn:n<=1000):Bx.iM (ef s.th s.m s.bu s.aa)=N - 2:=by
 have F:=G.fx hn;have⟨h,ps,po,h0,np,nI,S⟩:=G.i;rw[F.ff,abW F.fr];have n3:=F.n3;rw[G.pn]at n3;have e0:=S.k.zero.2 rfl;have e1:=S.t.holds.zero.2 rfl;subst e0 e1;have lim:=aqS F.d;rw[G.pn]at lim;refine an8 F.fr (by omega) λp=> ?_;have f:=oX (th:=s.th) S.w (p:=p);rw[G.pn]at f;constructor;intro hp;have:=(f.1 ((S.t.inv.cov p).2 (.inl hp))).1;omega;intro hp;have:Fr s p:=f.2 ⟨by omega,λx=>by have:=(S.wi p).1 x;cases this⟩;exact((S.t.inv.cov p).1 this).resolve_right λx=>by have:=S.t.inv.sub p x;cases this
end
section
variable{X:Ctx}(hX:∀id,X.H id=none)(hz:eO Bx.bZ X)(hT:uK.Ok P Bx.bZ)
include hX hz hT
theorem azg{s:Sd}{n:Nat}{N:Int}(hn:n<=900)(G:Gd s [] [] n N):Safe P 6 X K8 (axn (N - 2) s):=by
 have F:=G.fx (by omega);have⟨e0,_,G2⟩:=G.qP (by omega);have F2:=G2.fx (by omega);have f:=G2.bare (by omega);have he:s.ep<1099511627776:=by have:=G.ep;omega
 refine Ds.go hz hX hT Tryz.func6 (axq (N - 2) s) ⟨rfl,rfl,F.d,⟨F.e0,he⟩,F.w,F2.R,λ_=>⟨rfl,rfl,F2.d,F2.r,F2.p0,F2.fw,λ_=>⟨rfl,rfl,F2.d,F2.r,F2.l0,by rw[F2.l];exact zero_le _,zero_le _, ?_⟩,λh=> ?_⟩,λh=> ?_⟩;rw[F2.l];exact abf;exact absurd f (beq_eq_false_iff_ne.1 h);exact absurd e0 (beq_eq_false_iff_ne.1 h)
theorem axu{now bc:List En}(hkl:bc.length<=900){N:Int}:∀(j i:Nat),i+j=bc.length->∀{s:Sd} {n:Nat},n+2*j<=900->Gd s (bc.drop i) (bc.drop i) n N->Safe P 6 X K8 (axm (N - 2) (i:Int) s now bc)
 |0,i,hi,s,n,hn,G=>by
  rw[List.drop_of_length_le (by omega)]at G;exact Ds.go hz hX hT Tryz.func6 (asd (N - 2) i s now bc) ⟨λh=>absurd (of_decide_eq_true h) (by omega),λ_=>azg hX hz hT (by omega) G⟩
 |j+1,i,hi,s,n,hn,G=>by
  have F:=G.fx (by omega);have hl:=F.len;rw[length_drop]at hl;have d:bc.drop i=bc.getD i dE::bc.drop (i+1):=drop_cons dE (by omega);have hr:=G.yZ.2;have G1:=G.op (by omega) (bc.getD i dE).1 none
  have hG:jY s (bc.getD i dE).1 none=0->Gd (bL s (bc.getD i dE).1 none) (bc.drop (i+1)) (bc.drop i) (n+1) N:=λe=>by
   rw[if_pos e]at G1;rw[d]at hr;have e1:lC (bc.getD i dE).1 none (bc.drop i)=bc.drop (i+1):=by rw[d];exact anY hr
   rw[e1]at G1;exact G1
  have F1:=G1.fx (by omega);have he:s.ep<1099511627776:=by have:=G.ep;omega
  have R1:nz (cO (bL s (bc.getD i dE).1 none)).th (cO (bL s (bc.getD i dE).1 none)).m (cO (bL s (bc.getD i dE).1 none)).pg:=((G1.qP (by omega)).2.2.fx (by omega)).R;refine Ds.go hz hX hT Tryz.func6 (asd (N - 2) i s now bc) ⟨λ_=>⟨by omega,by omega,rfl,rfl,F.d,F.fr,F.r,λ_=>ahc,λh=>⟨rfl,rfl,F1.d,⟨F.e0,he⟩,F.w,R1,λ_=>ahc,λ_=>⟨uJ (by omega) (by omega), ?_⟩⟩⟩,λh=>absurd (of_decide_eq_false h) (by omega)⟩;have h:jY s (bc.getD i dE).1 none=0:=Decidable.byContradiction λx=>Bool.false_ne_true (h.symm.trans (bne_iff_ne.2 x));exact axu hkl j (i+1) (by omega) (by omega) ((hG h).qP (by omega)).2.2
theorem spD{l:List (CL sK)}(hl:l.length<=120){s:Sd}{now bc:List En}{n i:Nat}(hi:i<l.length){N e:Int}(hn:n<=500)(G:Gd s now bc n N)(h4:xK (el l i)=4->s.pg=s.aa)
 (next:Safe P 6 X K8 (cSp l (N - 2) ((i:Int)+1) s now bc)):Safe P 6 X K8 (cDp l (N - 2) (i:Int) e s now bc):=by
 have F:=G.fx (by omega);have⟨f0,f1⟩:=G.free (by omega);have hI:aG ((i:Int)+1):=uJ (by omega) (by omega);have bK:=F.len;refine Ds.go hz hX hT Tryz.func6 (azd l (N - 2) i e s now bc) ?_;rw[F.mk'];refine⟨rfl,rfl,F.d,F.r,F.l0,by rw[F.l];omega,by omega,λh=> ?_,λ_=>⟨rfl,rfl,F.d,F.r,F.p0,F.fw,λh=>absurd (of_decide_eq_true h) (by omega),λ_=>⟨rfl,rfl,F.d,F.r,F.p0,F.fw,λh=>absurd (of_decide_eq_true h) (by omega),λ_=>⟨by omega,by omega,λk4=> ?_,λ_=>⟨hI,next⟩⟩⟩⟩⟩;rw[F.l]at h;exact absurd rfl (of_decide_eq_false (nf0 h));have e4:=h4 (beq_iff_eq.1 k4);show Tree.ba _ _ _;have eF:ef s.th s.m (dT s.th s.m s.pg) s.pg=ef s.th s.m s.bu s.aa:=by rw[F.Rw,e4]
 have w:Bx.okW (ef s.th s.m (dT s.th s.m s.pg) s.pg):=by rw[eF];exact F.fw
 refine⟨rfl,rfl,F.d,F.n3,rfl,F.R,λh=>(by cases h),λ_=>⟨rfl,rfl,F.d,F.R.rg,F.R.e,w,rfl,rfl,F.d,F.r,F.p0,F.fw,λh=> ?_,λ_=>⟨rfl,rfl,rfl,rfl,λh=> ?_,λ_=>⟨hI,next⟩⟩⟩⟩;exact absurd (congrArg Bx.iM eF) (bne_iff_ne.1 h);exact absurd rfl (bne_iff_ne.1 h)
theorem sp9{l:List (CL sK)}(hl:l.length<=120){N:Int}:∀(j k:Nat),k+j=l.length->∀{s:Sd} {now bc:List En},Gd s now bc k N->Safe P 6 X K8 (cSp l (N - 2) (k:Int) s now bc)
 |0,k,hk,s,now,bc,G=>by
  have F:=G.fx (by omega);have hK:=G.axt;refine Ds.go hz hX hT Tryz.func6 (axo l (N - 2) k s now bc) ⟨λh=>absurd (of_decide_eq_true h) (by omega),λ_=> ?_⟩;exact Ds.go hz hX hT Tryz.func6 (axp (N - 2) s now bc) ⟨rfl,rfl,F.d,F.R,λh=>(by cases h),λ_=>axu hX hz hT (by omega) bc.length 0 (by omega) (by omega) (G.back (by omega))⟩
 |j+1,k,hk,s,now,bc,G=>by
  have F:=G.fx (by omega);have hK:=G.axt;have hN:=F.len;have he:s.ep<1099511627776:=by have:=G.ep;omega
  have⟨c0,c1,G2⟩:=G.qP (by omega);have F2:=G2.fx (by omega);have next:∀{s:Sd} {now bc:List En},Gd s now bc (k+1) N->Safe P 6 X K8 (cSp l (N - 2) ((k:Int)+1) s now bc):=λG=>sp9 hl j (k+1) (by omega) G
  have go:∀{s:Sd} {now bc:List En} {e:Int},Gd s now bc (k+1) N->(xK (el l k)=4->s.pg=s.aa)->Safe P 6 X K8 (cDp l (N - 2) (k:Int) e s now bc):=λG h4=>spD hX hz hT hl (by omega) (by omega) G h4 (next G);have n4:∀{s:Sd},¬xK (el l k)=4->xK (el l k)=4->s.pg=s.aa:=λa b=>absurd b a
  have op:∀(o:Option ByteArray),¬xK (el l k)=4->jY s (xA (el l k)) o=0->Safe P 6 X K8 (cDp l (N - 2) (k:Int) (jY s (xA (el l k)) o) (bL s (xA (el l k)) o) (lC (xA (el l k)) o now) bc):=λo a b=>by
   have g:=G.op (by omega) (xA (el l k)) o;rw[if_pos b]at g;exact go g (n4 a)
  have no:∀(o:Option ByteArray),¬xK (el l k)=4->¬jY s (xA (el l k)) o=0->Safe P 6 X K8 (cDp l (N - 2) (k:Int) (jY s (xA (el l k)) o) (bL s (xA (el l k)) o) now bc):=λo a b=>by
   have g:=G.op (by omega) (xA (el l k)) o;rw[if_neg b]at g;exact go g (n4 a)
  refine Ds.go hz hX hT Tryz.func6 (axo l (N - 2) k s now bc) ⟨λ_=>⟨by omega,by omega,λk0=>⟨rfl,rfl,F.d,F.fr,F.r,λb=>⟨rfl,rfl,by omega, ?_⟩,λb=> ?_⟩,λk0=>⟨λk1=>⟨rfl,rfl,F.d,F.fr,F.r,λb=>⟨rfl,rfl,by omega, ?_⟩,λb=> ?_⟩,λk1=>⟨λk4=>⟨rfl,rfl,F.d,⟨F.e0,he⟩,F.w,F2.R,λ_=>⟨by omega, ?_⟩,λb=> ?_⟩,λk4=>⟨λk5=>⟨rfl,rfl,F.d,F.R,by omega, ?_⟩,λ_=> ?_⟩⟩⟩⟩,λh=>absurd (of_decide_eq_false h) (by omega)⟩;have k0:=beq_iff_eq.1 k0;exact op (some (xV (el l k))) (by omega) (beq_iff_eq.1 b);have k0:=beq_iff_eq.1 k0;exact no (some (xV (el l k))) (by omega) (beq_eq_false_iff_ne.1 b);have k1:=beq_iff_eq.1 k1;exact op none (by omega) (beq_iff_eq.1 b);have k1:=beq_iff_eq.1 k1;exact no none (by omega) (beq_eq_false_iff_ne.1 b);exact go (e:=coE s) G2 λ_=>c1;exact absurd c0 (beq_eq_false_iff_ne.1 b);exact go (s:=iY s s.wh s.ep s.pg) (e:=0) ((G.back (by omega)).more (Nat.le_succ k)) λ_=>rfl;exact go (e:=0) (G.more (Nat.le_succ k)) (n4 (beq_eq_false_iff_ne.1 k4))
end
theorem y5(hA:dO P Bx.bZ 45 [] [dg] (λ_=>[]) (λ_=>(true,()))):dO P Bx.bZ 6 [.b (.int .u8),tS8] [dg] (an6 _) (λ_=>(true,())):=by
 refine aM Tryz.func6 (by kernel_rfl) (by kernel_rfl) ?_;rintro⟨(p:Int),(l:List (CL sK)),⟨⟩⟩ ⟨_,(hl0:l.length<=maxLen),_⟩ ⟨⟨hp,_⟩,_⟩ X hX hz;have hp:=Ds.avF hp;show Safe P 6 X K8 _;have hT:=an7 hA;have bK:l.length<=9223372036854775807:=by unfold maxLen at hl0;omega
 have hr:0<=p.tmod 60/\p.tmod 60<60:=by rw[Int.tmod_eq_emod_of_nonneg hp.1];omega
 have G:=Gd.start (n:=8+p.tmod 60) (by omega);have F:=G.fx (by omega);have f:=G.bare (by omega);refine Ds.go hz hX hT Tryz.func6 (azc p l) ⟨rfl,rfl,bK,λ_=>abf,λhl=>⟨λh=>(by cases h),λ_=>⟨by decide,⟨by omega,by omega⟩,⟨by omega,by omega⟩,rfl,rfl,by omega,rfl,rfl,F.d,F.r,F.p0,F.fw, ?_⟩⟩⟩;rw[f];exact sp9 hX hz hT (by omega) l.length 0 (by omega) G
def kA:ByteArray:=⟨#[97]⟩
def v1:ByteArray:=⟨#[49]⟩
def v2:ByteArray:=⟨#[50]⟩
def mP8:List AV->RM ((Sd×ByteArray×ByteArray)×List Nat)
 |[s,_,.s (.ag v)]=>(mSs [s]).bind λ(X,σ)=>bif ((v.data.toList.getD 0 0).toNat).beq 49 then .ret ((X,kA,v1),σ)else .ret ((X,kA,v2),σ)
 |_=>.fail "no key"
def mG8:List AV->RM (XSK×List Nat)
 |[s,_]=>(mSt [s]).bind λ(X,σ)=>.ret ((X,kA),σ)
 |_=>.fail "no key"
def aeE:aR:=[(44,cC auE mSt),(43,cC auD mSt),(39,cC auK mP8),(35,cC auC mG8),(41,cC pN mSs),(42,cC auJ mSs),(37,cC ud Ds.xb),(47,cC sBg mBg)]
def aq6:List (Nat×Norm):=[(2,⟨[],[1,2],0,[]⟩),(4,⟨[],[1],0,[]⟩),(7,⟨[],[3],0,[]⟩)]
noncomputable def cA2(s:Sd):cn:=⟨sl 92 [(1,.an 0 0),(2,.an 1 0)],hBg s,hr Tryz.f45 2,{}⟩
noncomputable def cA4(th:Th)(m:As)(fu:Int):cn:=⟨sl 92 [(1,.an 0 0)],Ds.hD th m fu,hr Tryz.f45 4,{}⟩
noncomputable def cA7(s:Sd):cn:=⟨sl 92 [(3,.an 0 0)],mS s,hr Tryz.f45 7,{}⟩
theorem azh:run P aeE.sum Tryz.f45 aq6 (start Tryz.f45 [] [])=
 Tree.ab (bx (some [AV.s (.int .i64 10)])) (.ab acZ (.ab ((3:Int)<=10/\(10:Int)<=1000) (.at (.mk (sl 92 [(1,.an 0 0),(2,.an 1 0)]) [Ds.jw 2 3 ((jS 10).fu),.ay [.an 0 0,.s (.int .i64 0),.s (.bool true),.s (.int .i64 1),.s (.int .i64 0),.aw .u64 16 (jS 10).bu,.an 4 0] 155,.aq (.az [.arr .u8 64] (jS 10).th) 165,.map Ds.kS (jS 10).m,fm 0 0 ((jS 10).fr) ((jS 10).fs) ((jS 10).gn)] (hr Tryz.f45 2) (.mk none false 0 [] 0))))):=by kernel_rfl
theorem azi(s:Sd):run P aeE.sum Tryz.f45 aq6 (cA2 s)=
 Tree.ab (bx (some [AV.an 0 0]))
 (.ab (bx (some (mS s)))
   (.ite (s.ep !=1) (.ret (hBg s) (.s (.aT false)))
     (.ab (bx (some [AV.an 0 0]))
       (.ab (bx (some (mS s)))
         (.ab (Ds.bz s.th s.m s.fu)
           (.ab ((0:Int)<=s.aa/\s.aa<=65536)
             (.ab (sI s.th s.m s.aa=0)
               (.ab (Bx.okW (ef s.th s.m s.bu s.aa))
                 (.ite (Bx.iM (ef s.th s.m s.bu s.aa) !=8) (.ret (hBg s) (.s (.aT false)))
                   (.ab (some [AV.an 0 0,.s (.ag (ByteArray.mk #[(97:UInt8)])),.s (.ag (ByteArray.mk #[(49:UInt8)]))]=some [AV.an 0 0,.s (.ag kA),.s (.ag v1)])
                     (.ab (bx (some (mS s)))
                       (.ab (Ds.bz s.th s.m s.fu)
                         (.ab (Bx.okW s.fr)
                           (.ab ((0:Int)<=s.aa/\s.aa<=65536)
                             (.ite (jY s kA (some v1) !=0) (.ret (hBg (bL s kA (some v1))) (.s (.aT false)))
                               (.ab (bx (some [AV.an 0 0]))
                                 (.ab (bx (some (mS (bL s kA (some v1))))) (.ab (Ds.bz (bL s kA (some v1)).th (bL s kA (some v1)).m (bL s kA (some v1)).fu) (.ab ((0:Int)<=(bL s kA (some v1)).aa/\(bL s kA (some v1)).aa<=65536) (.ab (sI (bL s kA (some v1)).th (bL s kA (some v1)).m (bL s kA (some v1)).aa=0) (.ab (Bx.okW (ef (bL s kA (some v1)).th (bL s kA (some v1)).m (bL s kA (some v1)).bu (bL s kA (some v1)).aa)) (.ite (Bx.iM (ef (bL s kA (some v1)).th (bL s kA (some v1)).m (bL s kA (some v1)).bu (bL s kA (some v1)).aa) !=7) (.ret (hBg (bL s kA (some v1))) (.s (.aT false))) (.ab (bx (some [AV.an 0 0])) (.ab (bx (some (mS (bL s kA (some v1))))) (.ab (Ds.bz (bL s kA (some v1)).th (bL s kA (some v1)).m (bL s kA (some v1)).fu) (.ab ((0:Int)<=(bL s kA (some v1)).ep/\(bL s kA (some v1)).ep<1099511627776) (.ab ((bL s kA (some v1)).wh=0\/(bL s kA (some v1)).wh=1) (.ab (nz (cO (bL s kA (some v1))).th (cO (bL s kA (some v1))).m (cO (bL s kA (some v1))).pg) (.ite (coE (bL s kA (some v1)) !=0) (.ret [Ds.jw 2 3 ((cO (bL s kA (some v1))).fu),er 0 ((cO (bL s kA (some v1))).wh) true ((cO (bL s kA (some v1))).ep) ((cO (bL s kA (some v1))).pg) ((cO (bL s kA (some v1))).bu) (.an 5 0),.aq (.az Ds.cS (cO (bL s kA (some v1))).th) Ds.eS,.map Ds.kS (cO (bL s kA (some v1))).m,fm 0 ((bL s kA (some v1)).aa) ((bL s kA (some v1)).fr) ((bL s kA (some v1)).fs) ((bL s kA (some v1)).gn),fm 0 ((cO (bL s kA (some v1))).aa) ((cO (bL s kA (some v1))).fr) ((cO (bL s kA (some v1))).fs) ((cO (bL s kA (some v1))).gn)] (.s (.aT false))) (.ab (bx (some [AV.an 0 0])) (.ab (bx (some (mS (cO (bL s kA (some v1)))))) (.ite ((cO (bL s kA (some v1))).ep !=2) (.ret [Ds.jw 2 3 ((cO (bL s kA (some v1))).fu),er 0 ((cO (bL s kA (some v1))).wh) true ((cO (bL s kA (some v1))).ep) ((cO (bL s kA (some v1))).pg) ((cO (bL s kA (some v1))).bu) (.an 5 0),.aq (.az Ds.cS (cO (bL s kA (some v1))).th) Ds.eS,.map Ds.kS (cO (bL s kA (some v1))).m,fm 0 ((bL s kA (some v1)).aa) ((bL s kA (some v1)).fr) ((bL s kA (some v1)).fs) ((bL s kA (some v1)).gn),fm 0 ((cO (bL s kA (some v1))).aa) ((cO (bL s kA (some v1))).fr) ((cO (bL s kA (some v1))).fs) ((cO (bL s kA (some v1))).gn)] (.s (.aT false))) (.at (cA4 (cO (bL s kA (some v1))).th (cO (bL s kA (some v1))).m (cO (bL s kA (some v1))).fu)))))))))))))))))))))))))))))))))):=by kernel_rfl
theorem azj(th:Th)(m:As)(fu:Int):run P aeE.sum Tryz.f45 aq6 (cA4 th m fu)=
 Tree.ab (bx (some [AV.an 0 0])) (.ab (bx (some (Ds.hD th m fu))) (.ab (Ds.bz th m fu) (.ab ((3:Int)<=Ds.fg th) (.ab ((eK th m).snd.fst=true) (.ab (nz th m (eK th m).snd.snd.snd) (.ite false (.ret (Ds.hD th m fu++[er 0 ((eK th m).fst) true ((eK th m).snd.snd.fst) ((eK th m).snd.snd.snd) (dT th m (eK th m).snd.snd.snd) (.an 4 0),fm 0 ((eK th m).snd.snd.snd) (ny th (dT th m (eK th m).snd.snd.snd)) Bx.aL Bx.aL]) (.s (.aT false))) (.at (.mk (sl 92 [(3,.an 0 0)]) (jR th m fu (eK th m).fst true (eK th m).snd.snd.fst (eK th m).snd.snd.snd (dT th m (eK th m).snd.snd.snd) (eK th m).snd.snd.snd (ny th (dT th m (eK th m).snd.snd.snd)) Bx.aL Bx.aL) (hr Tryz.f45 7) (.mk none false 0 [] 0))))))))):=by kernel_rfl
theorem azk(s:Sd):run P aeE.sum Tryz.f45 aq6 (cA7 s)=
 Tree.ab (some [AV.an 0 0,.s (.ag (ByteArray.mk #[(97:UInt8)]))]=some [AV.an 0 0,.s (.ag kA)])
 (.ab (bx (some (mS s)))
   (.ab (Ds.bz s.th s.m s.fu)
     (.ab ((0:Int)<=s.aa/\s.aa<=65536)
       (.ite (gtE s.th s.m s.aa kA !=0) (.ret (mS s) (.s (.aT false)))
         (.ite (!gtB s.th s.m s.aa kA) (.ret (mS s) (.s (.aT false)))
           (.ite (!decide (gtV s.th s.m s.aa kA=ByteArray.mk #[(49:UInt8)])) (.ret (mS s) (.s (.aT false)))
             (.ab (some [AV.an 0 0,.s (.ag (ByteArray.mk #[(97:UInt8)])),.s (.ag (ByteArray.mk #[(50:UInt8)]))]=some [AV.an 0 0,.s (.ag kA),.s (.ag v2)])
               (.ab (bx (some (mS s)))
                 (.ab (Ds.bz s.th s.m s.fu)
                   (.ab (Bx.okW s.fr)
                     (.ab ((0:Int)<=s.aa/\s.aa<=65536)
                       (.ite (jY s kA (some v2) !=0) (.ret (mS (bL s kA (some v2))) (.s (.aT false)))
                         (.ab (bx (some [AV.an 0 0]))
                           (.ab (bx (some (mS (bL s kA (some v2)))))
                             (.ab (Ds.bz (bL s kA (some v2)).th (bL s kA (some v2)).m (bL s kA (some v2)).fu)
                               (.ab (nz (bL s kA (some v2)).th (bL s kA (some v2)).m (bL s kA (some v2)).pg)
                                 (.ite false (.ret (hAt (bL s kA (some v2)) (iY (bL s kA (some v2)) (bL s kA (some v2)).wh (bL s kA (some v2)).ep (bL s kA (some v2)).pg)) (.s (.aT false)))
                                   (.ab (some [AV.an 0 0,.s (.ag (ByteArray.mk #[(97:UInt8)]))]=some [AV.an 0 0,.s (.ag kA)])
                                     (.ab (bx (some (mS (iY (bL s kA (some v2)) (bL s kA (some v2)).wh (bL s kA (some v2)).ep (bL s kA (some v2)).pg))))
                                       (.ab (Ds.bz (iY (bL s kA (some v2)) (bL s kA (some v2)).wh (bL s kA (some v2)).ep (bL s kA (some v2)).pg).th (iY (bL s kA (some v2)) (bL s kA (some v2)).wh (bL s kA (some v2)).ep (bL s kA (some v2)).pg).m (iY (bL s kA (some v2)) (bL s kA (some v2)).wh (bL s kA (some v2)).ep (bL s kA (some v2)).pg).fu)
                                         (.ab ((0:Int)<=(iY (bL s kA (some v2)) (bL s kA (some v2)).wh (bL s kA (some v2)).ep (bL s kA (some v2)).pg).aa/\(iY (bL s kA (some v2)) (bL s kA (some v2)).wh (bL s kA (some v2)).ep (bL s kA (some v2)).pg).aa<=65536)
                                           (.ite (gtE (iY (bL s kA (some v2)) (bL s kA (some v2)).wh (bL s kA (some v2)).ep (bL s kA (some v2)).pg).th (iY (bL s kA (some v2)) (bL s kA (some v2)).wh (bL s kA (some v2)).ep (bL s kA (some v2)).pg).m (iY (bL s kA (some v2)) (bL s kA (some v2)).wh (bL s kA (some v2)).ep (bL s kA (some v2)).pg).aa kA==0)
                                             (.ite (gtB (iY (bL s kA (some v2)) (bL s kA (some v2)).wh (bL s kA (some v2)).ep (bL s kA (some v2)).pg).th (iY (bL s kA (some v2)) (bL s kA (some v2)).wh (bL s kA (some v2)).ep (bL s kA (some v2)).pg).m (iY (bL s kA (some v2)) (bL s kA (some v2)).wh (bL s kA (some v2)).ep (bL s kA (some v2)).pg).aa kA) (.ret (hAt (bL s kA (some v2)) (iY (bL s kA (some v2)) (bL s kA (some v2)).wh (bL s kA (some v2)).ep (bL s kA (some v2)).pg)) (.s (.bool (decide (gtV (iY (bL s kA (some v2)) (bL s kA (some v2)).wh (bL s kA (some v2)).ep (bL s kA (some v2)).pg).th (iY (bL s kA (some v2)) (bL s kA (some v2)).wh (bL s kA (some v2)).ep (bL s kA (some v2)).pg).m (iY (bL s kA (some v2)) (bL s kA (some v2)).wh (bL s kA (some v2)).ep (bL s kA (some v2)).pg).aa kA=ByteArray.mk #[(49:UInt8)])))))
                                               (.ret (hAt (bL s kA (some v2)) (iY (bL s kA (some v2)) (bL s kA (some v2)).wh (bL s kA (some v2)).ep (bL s kA (some v2)).pg)) (.s (.aT false))))
                                             (.ret (hAt (bL s kA (some v2)) (iY (bL s kA (some v2)) (bL s kA (some v2)).wh (bL s kA (some v2)).ep (bL s kA (some v2)).pg)) (.s (.aT false))))))))))))))))))))))))):=by kernel_rfl
theorem an9:aeE.Ok P Bx.bZ:=aR.Ok.cons (aeA.sum mSt) (aR.Ok.cons (aar.sum mSt) (aR.Ok.cons (ait.sum mP8) (aR.Ok.cons (aim.sum mG8) (aR.Ok.cons (yi.sum mSs) (aR.Ok.cons (aeB.sum mSs) (aR.Ok.cons (ye.sum Ds.xb) (aR.Ok.cons (aeC.sum mBg) aR.Ok.nil)))))))
theorem Gd.axv{s:Sd}{E K:List En}{n:Nat}{N:Int}(G:Gd s E K n N)(hn:n<=1000){ad:ByteArray}(hk:iR ad none=true):gtE s.th s.m s.aa ad=0/\gtV s.th s.m s.aa ad=oQ E ad/\gtB s.th s.m s.aa ad=nj E ad:=by
 have⟨h,ps,po,h0,np,nI,S⟩:=G.i;have e:=aqM (ad:=ad) S.t.holds (by have:=(S.small hn).1;omega);rw[if_neg (by rw[hk];decide)]at e;unfold gtE gtV gtB;rw[e];exact⟨rfl,rfl,rfl⟩
theorem azl:jY (jS 10) kA (some v1)=0:=by kernel_rfl
theorem axw:Bx.iM (ef (bL (jS 10) kA (some v1)).th (bL (jS 10) kA (some v1)).m (bL (jS 10) kA (some v1)).bu (bL (jS 10) kA (some v1)).aa)=7:=by kernel_rfl
def s2A:Sd:=cO (bL (jS 10) kA (some v1))
theorem azm:jY (iY s2A s2A.wh s2A.ep s2A.pg) kA (some v2)=0:=by kernel_rfl
theorem aj7:dO P Bx.bZ 45 [] [dg] (λ_=>[]) (λ_=>(true,())):=by
 refine aM Tryz.func45 (by kernel_rfl) (by kernel_rfl) ?_;rintro⟨⟩ _ _ X hX hz;show Safe P 45 X (Ends [dg] (true,())) _;have hT:=an9;have hk:iR kA none=true:=by kernel_rfl
 have G0:Gd (jS 10) [] [] 0 10:=Gd.start (by decide);have F0:=G0.fx (by decide);have f8:Bx.iM (ef (jS 10).th (jS 10).m (jS 10).bu (jS 10).aa)=8:=G0.bare (by decide);have p1:=azl;have p2:=azm;have f7:=axw;have ep:(jS 10).ep=1:=rfl;refine Ds.go hz hX hT Tryz.func45 azh ⟨rfl,rfl,by decide, ?_⟩;show Safe P 45 X _ (cA2 (jS 10));unfold s2A at p2;generalize jS 10=s at *;have G1:=G0.op (by decide) kA (some v1);rw[if_pos p1]at G1;have e1:(bL s kA (some v1)).ep=1:=ep;have F1:=G1.fx (by decide);have⟨c0,c1,G2⟩:=G1.qP (by decide)
 have e2:(cO (bL s kA (some v1))).ep=2:=by
  have x:(coX (bL s kA (some v1))).2=0:=c0;unfold cO;rw[if_pos x];show(bL s kA (some v1)).ep+1=2;rw[e1];rfl
 have F2:=G2.fx (by decide);have hE:lC kA (some v1) []=[(kA,v1,())]:=rfl;rw[hE]at G1 G2 F1 F2;have fe:oQ [(kA,v1,())] kA=v1:=by kernel_rfl
 have fb:nj [(kA,v1,())] kA=true:=by kernel_rfl
 refine Ds.go hz hX hT Tryz.func45 (azi s) ⟨rfl,rfl,λh=>absurd ep (bne_iff_ne.1 h),λ_=>⟨rfl,rfl,F0.d,F0.r,F0.p0,F0.fw,λh=>absurd f8 (bne_iff_ne.1 h),λ_=>⟨rfl,rfl,F0.d,F0.fr,F0.r,λh=>absurd p1 (bne_iff_ne.1 h),λ_=>⟨rfl,rfl,F1.d,F1.r,F1.p0,F1.fw,λh=>absurd f7 (bne_iff_ne.1 h),λ_=>⟨rfl,rfl,F1.d,⟨by rw[e1];decide,by rw[e1];decide⟩,F1.w,F2.R,λh=>absurd c0 (bne_iff_ne.1 h),λ_=>⟨rfl,rfl,λh=>absurd e2 (bne_iff_ne.1 h),λ_=> ?_⟩⟩⟩⟩⟩⟩;show Safe P 45 X _ (cA4 (cO (bL s kA (some v1))).th (cO (bL s kA (some v1))).m (cO (bL s kA (some v1))).fu);generalize cO (bL s kA (some v1))=s2 at *;refine Ds.go hz hX hT Tryz.func45 (azj s2.th s2.m s2.fu) ?_;rw[F2.mk'];refine⟨rfl,rfl,F2.d,F2.n3,rfl,F2.R,λh=>(by cases h),λ_=> ?_⟩;show Safe P 45 X _ (cA7 (iY s2 s2.wh s2.ep s2.pg));have G3:=G2.back (by decide);generalize iY s2 s2.wh s2.ep s2.pg=t at *;have F3:=G3.fx (by decide);have⟨g0,g1,g2⟩:=G3.axv (by decide) hk;have G4:=G3.op (by decide) kA (some v2);have F4:=G4.fx (by decide);have G5:=G4.back (by decide);have F5:=G5.fx (by decide);have⟨h0,h1,h2⟩:=G5.axv (by decide) hk;refine Ds.go hz hX hT Tryz.func45 (azk t) ⟨rfl,rfl,F3.d,F3.r,λh=>absurd g0 (bne_iff_ne.1 h),λ_=>⟨λh=> ?_,λ_=>⟨λh=> ?_,λ_=>⟨rfl,rfl,F3.d,F3.fr,F3.r,λh=>absurd p2 (bne_iff_ne.1 h),λ_=>⟨rfl,rfl,F4.d,F4.R,λh=>(by cases h),λ_=>⟨rfl,rfl,F5.d,F5.r,λ_=>⟨λ_=> ?_,λh=> ?_⟩,λh=>absurd h0 (beq_eq_false_iff_ne.1 h)⟩⟩⟩⟩⟩⟩;have h:=nf0 h;rw[g2,fb]at h;cases h;exact absurd (g1.trans fe) (of_decide_eq_false (nf0 h));have h1:=h1.trans fe;show Ends [dg] (true,()) _ (.s (.bool (decide (_=v1))));rw[decide_eq_true h1];exact abf;have h:gtB _ _ _ kA=false:=h;rw[h2,fb]at h;cases h
theorem y6:dO P Bx.bZ 6 [.b (.int .u8),tS8] [dg] (an6 _) (λ_=>(true,())):=y5 aj7
end Ts
